/-
  A PART OF THE PROOF. Conditions: none.
-/
import Derived.Test.YtnkamdiiakdkgaaGreatEl16
set_option linter.unusedSimpArgs false
set_option linter.unusedVariables false
namespace Go.Proofs.YtnkamdiiakdkgaaGreat
def ly(ok:Bool):Int:=if ok=true then 0 else 2
@[reducible] def JO (s:bH) (bs:List (List UInt8)):Nat->ab:=ax (ax (ax (fun _=> .no) 0 (.row s.row)) 3 (.row [.mp 2])) 2 (.map 9 4 (enc .str (pI bs)))
theorem wu(s:bH)(hs:s.Fits):aV Tryz.prog 97 [s.d] (.ret [.i (ly (jw s))]):=by
 refine aV.aJ mix acY aI ?_
 rw[c97]
 refine iD ?_
 refine aD (gG _ _ _) rfl ?_
 refine iD ?_
 cases h1:(!dR s.cons.length 2 12||decide (8<(s.bK.length:Int)))with
 |true=>
  have:jw s=false:=by simp only[jw,h1,if_true]
  refine jz h1 ?_
  simp[this,ly]
 |false=>
  have Ff:=pK s.cons []
  have aen:∀ (l:List jo),(∀x∈l,x.name.length<=9223372036854775807)->∀x∈l,∀bs,True->jg Tryz.prog 125 (.d x.d::[.ptr 3 0]) 4 (JO s bs) (JO s (iA bs x).1) (.d (.bool (iA bs x).2)):=fun l hl x hx bs _=>
   XP x (hl x hx) 4 3 2 (ax (ax (fun _=> .no) 0 (.row s.row)) 3 (.row [.mp 2])) (af _ _ _) ag ag ag bs
  simp[dR]at h1
  obtain⟨a,b,r,hc⟩:∃a b r,s.cons=a::b::r:=by
   match h:s.cons with
   |[]=>exact Gy
   |[a]=>exact Gy
   |a::b::r=>exact⟨a,b,r,rfl⟩
  have ma:(!dR s.cons.length 2 12||decide (8<(s.bK.length:Int)))=false:=by simp[dR];omega
  have JG:jw s=if(!mV a fB|| !mV b tB)=true then false else match bY s.cons []with
   |none=>false
   |some l=>(bY s.bK l).isSome:=by
   unfold jw
   rw[if_neg (by rw[ma];exact Bool.false_ne_true),hc]
   dsimp only
   rfl
  refine jz ma ?_
  refine aS (DB s.cons hs.lc 125 [.ptr 3 0] 4 (JO s) iA oE (fun _=>True) (fun _ _ _ _ _=>trivial) (aen s.cons hs.nc) [] trivial _ _ ⟨?_,ag,fun id aq=> ?_⟩ _ _ fun o2 n2 m1 m2 m3=> ?_)
  ·exact fm
  ·rcases(by omega:id=0\/id=1\/id=2\/id=3)with rfl|rfl|rfl|rfl<;>rfl
  have p0:∀ {bs:List (List UInt8)} {o:Nat->ab} {n:Nat},cR 4 (JO s bs) o n->o 0= .row s.row:=fun h=>h.eq 0 ag
  have p3:∀ {bs:List (List UInt8)} {o:Nat->ab} {n:Nat},cR 4 (JO s bs) o n->o 3= .row [.mp 2]:=fun h=>h.eq 3 ag
  cases hn:bY s.cons []with
  |none=>
   rw[hn]at Ff
   simp only at Ff
   rw[Ff]
   refine iD ?_
   rw[JG,hn]
   split<;>rfl
  |some B=>
   rw[hn]at Ff
   simp only at Ff
   rw[Ff]at m2|-
   simp+contextual (disch:=first|omega|simp only[go_sem,false_implies]) only[go_sem,wrap64,if_pos,Nat.add_assoc,Nat.left_eq_add,Nat.add_eq_left,Nat.add_left_cancel_iff,p0 m2]
   refine aS (DB s.bK hs.lf 125 [.ptr 3 0] 4 (JO s) iA oE (fun _=>True) (fun _ _ _ _ _=>trivial) (aen s.bK hs.nf) B trivial _ _ (m2.mono ag) _ _ fun o4 n4 k1 k2 k3=> ?_)
   have IU:=pK s.bK B
   cases hf:bY s.bK B with
   |none=>
    rw[hf]at IU
    simp only at IU
    rw[IU]
    refine iD ?_
    rw[JG,hn]
    simp only[hf]
    split<;>rfl
   |some C=>
    rw[hf]at IU
    simp only at IU
    rw[IU]at k2|-
    simp+contextual (disch:=first|omega|simp only[go_sem,false_implies]) only[go_sem,wrap64,if_pos,Nat.add_assoc,Nat.left_eq_add,Nat.add_eq_left,Nat.add_left_cancel_iff,p0 k2,hc]
    have T6:jw s= !(!mV a fB|| !mV b tB):=by
     rw[JG,hn];simp only[hf]
     cases(!mV a fB|| !mV b tB)<;>rfl
    refine aj (fun h5=> ?_) (fun h5=> ?_)
    ·refine a8 ?_
     have xh:(!mV a fB|| !mV b tB)=true:=h5
     rw[T6,xh];rfl
    ·refine a8 ?_
     have xh:(!mV a fB|| !mV b tB)=false:=h5
     rw[T6,xh];rfl
def fE(s:bH)(l:List Tm):Bool:=jw s&&l.all (mu s)
theorem n7{α:Type}(p:α->Bool):∀ (l:List α) (u:Unit),aw (fun _ x=>((),p x)) u l=((),l.all p)
 |[],_=>rfl
 |x::l,u=>by
  simp only[aw,List.all_cons,n7 p l]
  cases p x<;>rfl
theorem FT(l:List Tm)(hl:l.length<=9223372036854775807)(g:Nat)(aM:List V)(base:Nat)(h:Nat->ab)(p:Tm->Bool)(hc:∀r∈V.aE aM,r<base)
 (hp:∀x∈l,jg Tryz.prog g (.d x.d::aM) base h h (.d (.bool (p x)))):jg Tryz.prog 171 [.d (.sl (l.map Tm.d)), .func (.func g) [] aM] base h h (.d (.bool (l.all p))):=by
 have:=Dw l hl g aM base (fun _:Unit=>h) (fun _ x=>((),p x)) hc (fun _=>True) (fun _ _ _ _ _=>trivial) (fun x hx _ _=>hp x hx) () trivial
 exact Ln
structure Tm.Fin (t:Tm):Prop where
 fits:t.fits
 nI:t.nI<=900000
theorem Nc(s:bH)(hs:s.Fits)(t:Tm)(ht:t.Fin)(base sp:Nat)(h:Nat->ab)(EB:h sp= .row s.row)(hb:sp<base):jg Tryz.prog 172 [.d t.d, .ptr sp 0] base h h (.d (.bool (mu s t))):=by
 intro o nx hI K X hK
 have hle:=hI.le
 have hg:=hI.bn
 have q0:o sp= .row s.row:=by rw[hI.eq sp hb,EB]
 refine cH.aJ mix TL aI ?_
 rw[Xk]
 refine jz q0 ?_
 refine aD (M9 s hs t ht.fits ht.nI) rfl ?_
 exact aa1
theorem HL(s:bH)(hs:s.Fits)(l:List Tm)(hl:l.length<=9223372036854775807)(hf:∀t∈l,t.Fin):aV Tryz.prog 159 [s.d, .sl (l.map Tm.d)] (.ret [.bool (fE s l)]):=by
 refine aV.aJ mix TE aI ?_
 rw[Xd]
 refine a8 ?_
 refine aD (wu s hs) rfl ?_
 cases h1:jw s with
 |false=>
  refine EF ?_
  simp[fE,h1]
 |true=>
  refine EF ?_
  refine aS (FT l hl 172 [.ptr 0 0] 1 (ax (fun _=> .no) 0 (.row s.row)) (mu s) oE (fun x hx=>Nc s hs x (hf x hx) 1 0 _ (af _ _ _) ag) _ _ ⟨fm,ag,fun id aq=>rfl⟩ _ _ fun o2 n2 m1 m2 m3=> ?_)
  refine a8 ?_
  simp[fE,h1]
theorem Qv(s:bH)(hs:s.Fits)(t:Tm)(ht:t.Fin):aV Tryz.prog 134 [s.d,t.d] (.ret [.i (ly (fE s [t]))]):=by
 refine aV.aJ mix Tu aI ?_
 rw[W4]
 refine a8 ?_
 refine aD (HL s hs [t] aI (fun x hx=>by simp at hx;subst hx;exact ht)) rfl ?_
 cases h1:fE s [t]with
 |false=>exact KT
 |true=>exact KT
def Tm.DC (t:Tm):Int:=(pre t 1).length
structure Tm.FU (t:Tm):Prop extends t.Fin where
 size:t.DC<=1000000
theorem Tm.Fin.kid {t k:Tm}(h:t.Fin)(hk:k∈t.kids):k.Fin:=⟨((Tm.bZ _).1 h.fits).2 k hk,by have:=Tm.qP hk;have:=h.nI;omega⟩
theorem tH:∀ (t:Tm) (d d':Int),(pre t d).length=(pre t d').length:=by
 refine Tm.fy fun t ih d d'=> ?_
 rw[jV,jV]
 simp only[List.length_cons,List.length_flatMap]
 congr 2
 exact List.map_congr_left fun k hk=>ih k hk _ _
theorem Tm.JP {t k:Tm}(hk:k∈t.kids):k.DC+1<=t.DC:=by
 simp only[Tm.DC]
 rw[jV t,tH k 1 (1+1)]
 simp only[List.length_cons,List.length_flatMap]
 have:∀ (l:List Tm),k∈l->(pre k (1+1)).length<=(l.map fun k=>(pre k (1+1)).length).sum:=by
  intro l
  induction l with
  |nil=>intro h;cases h
  |cons x l ih=>
   intro h
   rcases List.mem_cons.1 h with rfl|h
   ·simp only[List.map_cons,List.sum_cons];omega
   ·have:=ih h;simp only[List.map_cons,List.sum_cons];omega
 have:=this _ hk
 omega
theorem Tm.FU.kid {t k:Tm}(h:t.FU)(hk:k∈t.kids):k.FU:=⟨h.toFin.kid hk,by have:=Tm.JP hk;have:=h.size;omega⟩
def Tm.sz (t:Tm):Nat:=(pre t 1).length
def iV(l:List Tm):Nat:=(l.map Tm.sz).sum
theorem Tm.rb (t:Tm):t.DC=(t.sz:Int):=rfl
theorem Tm.re (t:Tm):t.sz=1+iV t.kids:=by
 unfold Tm.sz iV
 rw[jV,List.length_cons,List.length_flatMap,Nat.add_comm]
 congr 2
 exact List.map_congr_left fun k hk=>tH k _ _
theorem Tm.T7 (op n:Int)(l:List Tm):(Tm.mk op n l).sz=1+iV l:=Tm.re _
theorem j8(k:Tm)(l:List Tm):iV (k::l)=k.sz+iV l:=by simp[iV]
theorem zh(k:Tm)(l:List Tm):Tm.mm (k::l)=Nat.max k.nI (Tm.mm l):=by simp[Tm.mm]
theorem uO:∀ (l:List Tm) (n:Nat),Tm.mm l<=n↔∀k∈l,k.nI<=n
 |[],n=>by simp[Tm.mm]
 |x::l,n=>by
  rw[zh]
  simp only[List.mem_cons,forall_eq_or_imp, <- uO l n]
  exact Nat.max_le
theorem Tm.FV (t:Tm):t.nI=1+Tm.mm t.kids:=by cases t;simp[Tm.nI,Tm.kids]
theorem JQ:∀t:Tm,∀left depth:Int,iN t left depth=if(t.sz:Int)<=left/\(t.nI:Int)<=depth then left - t.sz else -1:=by
 refine Tm.fy fun t ih left depth=> ?_
 have hs:∀ (l:List Tm) (left d:Int),(∀k∈l,k∈t.kids)->0<=left->0<=d->cu l left d=if(iV l:Int)<=left/\(Tm.mm l:Int)<=d then left - iV l else -1:=by
  intro l
  induction l with
  |nil=>intro left d _ h1 h2;simp[cu,iV,Tm.mm,h1,h2]
  |cons k l wg=>
   intro left d hk h1 h2
   simp only[cu,if_pos h1]
   rw[ih k (hk k (by simp))]
   have hm:(Tm.mm (k::l):Int)<=d↔(k.nI:Int)<=d/\(Tm.mm l:Int)<=d:=by
    have:= @Nat.max_le k.nI (Tm.mm l) d.toNat
    have e:Tm.mm (k::l)=max k.nI (Tm.mm l):=zh k l
    rw[e];omega
   simp only[j8,hm]
   by_cases hc:(k.sz:Int)<=left/\(k.nI:Int)<=d
   ·rw[if_pos hc,wg _ _ (fun x hx=>hk x (by simp[hx])) (by omega) h2]
    by_cases th:(iV l:Int)<=left - k.sz/\(Tm.mm l:Int)<=d
    ·rw[if_pos th,if_pos (by omega)];omega
    ·rw[if_neg th,if_neg (by omega)]
   ·rw[if_neg hc,pG (by omega),if_neg (by omega)]
 rw[Ds,Tm.re,Tm.FV]
 by_cases h:left<1\/depth<1
 ·rw[if_pos h,if_neg (by omega)]
 ·rw[if_neg h,hs _ _ _ (fun _ h=>h) (by omega) (by omega)]
  by_cases hc:(iV t.kids:Int)<=left - 1/\(Tm.mm t.kids:Int)<=depth - 1
  ·rw[if_pos hc,if_pos (by omega)];omega
  ·rw[if_neg hc,if_neg (by omega)]
theorem wv(t:Tm)(left depth:Int):0<=iN t left depth↔(t.sz:Int)<=left/\(t.nI:Int)<=depth:=by
 rw[JQ];split<;>omega
theorem wx(t:Tm):lq t=true↔t.sz<=50/\t.nI<=14:=by
 simp only[lq,decide_eq_true_eq,wv];omega
theorem JR:∀ (t:Tm) (d m:Int),(∀x∈pre t d,x.2<=m)↔d+t.nI - 1<=m:=by
 refine Tm.fy fun t ih d m=> ?_
 rw[jV,Tm.FV]
 simp only[List.mem_cons,forall_eq_or_imp,List.mem_flatMap]
 have h1:(∀x:Tm×Int,(∃k,k∈t.kids/\x∈pre k (d+1))->x.2<=m)↔∀k∈t.kids,d+1+k.nI - 1<=m:=by
  constructor
  ·intro h k hk
   exact(ih k hk _ _).1 fun x hx=>h x ⟨k,hk,hx⟩
  ·rintro h x ⟨k,hk,hx⟩
   exact(ih k hk _ _).2 (h k hk) x hx
 rw[h1]
 constructor
 ·rintro⟨h2,h3⟩
  have:=(uO t.kids (m - d).toNat).2 fun k hk=>by have:=h3 k hk;omega
  omega
 ·intro h
  have:=(uO t.kids (m - d).toNat).1 ag
  exact⟨ag,fun k hk=>by have:=this k hk;omega⟩
theorem HM(p:Tm->Bool):∀ (t:Tm) (d:Int),(pre t d).all (fun x=>p x.1)=(p t&&t.kids.all fun k=>(pre k (d+1)).all fun x=>p x.1):=by
 intro t d
 rw[jV,List.all_cons,List.all_flatMap]
theorem wy(s:bH):∀ (t:Tm) (d:Int),jX s t=(pre t d).all fun x=>bu s x.1:=by
 refine Tm.fy fun t ih d=> ?_
 rw[HM (bu s),sG]
 congr 1
 exact Sb
theorem Nd{s:bH}{t:Tm}(h:bu s t=true):dR t.op 1 15=true:=by
 rw[show dR t.op 1 15=true↔1<=t.op/\t.op<=15 by simp[dR]]
 by_cases h6:dR t.op 6 15=true
 ·simp[dR]at h6;omega
 ·simp only[bu,if_neg h6]at h
  by_cases h1:t.op=1
  ·omega
  by_cases h2:t.op=2
  ·omega
  by_cases h3:t.op=3
  ·omega
  by_cases h4:t.op=4
  ·omega
  by_cases h5:t.op=5
  ·omega
  by_cases h8:t.op=8
  ·omega
  rw[if_neg h1,if_neg h2,if_neg h3,if_neg h4,if_neg h5,if_neg h8]at h
  cases h
def wz(s:bH)(x:Tm×Int):Bool:= !(decide (12<x.2)|| !dR x.1.op 1 15|| !bu s x.1)
theorem tI(s:bH):∀ (l:List (Tm×Int)) (n:Int) (b:Bool),(aw (zd fJ (gS s)) (n,b) l).2=(decide (l=[]\/n+l.length<=40)&&l.all (wz s))
 |[],n,b=>by simp[aw]
 |x::l,n,b=>by
  have e1:∀c,oJ s n x=c->zd fJ (gS s) (n,b) x=((n+1, !c), !c):=fun c hc=>by show((n+1, !oJ s n x),(fJ (n+1, !oJ s n x)).isNone)=_;rw[hc];cases c<;>rfl
  have hb:oJ s n x=(decide (40<n+1)|| !wz s x):=by simp[oJ,wz,Bool.or_assoc]
  rw[List.all_cons]
  cases hg:wz s x with
  |false=>
   have e:oJ s n x=true:=by rw[hb,hg];simp
   rw[aw,e1 _ e];simp
  |true=>
   by_cases h40:40<n+1
   ·have:decide (x::l=[]\/n+(x::l).length<=40)=false:=by simp;omega
    have e:oJ s n x=true:=by rw[hb];simp[h40]
    rw[this,Bool.false_and,aw,e1 _ e];simp
   ·have e:oJ s n x=false:=by rw[hb,hg];simp;omega
    rw[aw,e1 _ e]
    simp only[Bool.not_false,if_true,tI s l,Bool.true_and]
    congr 1
    cases l with
    |nil=>simp;omega
    |cons y l=>simp;omega
theorem FW(s:bH)(t:Tm):mu s t=fL s t:=by
 rw[mu,tI,fL,wy s t 1,Bool.eq_iff_iff]
 have hn:pre t 1≠[]:=by rw[jV];simp
 simp only[Bool.and_eq_true,decide_eq_true_eq,hn,false_or,wv,List.all_eq_true]
 have hd:=JR t 1 12
 constructor
 ·rintro⟨h1,h2⟩
  have h3:∀x∈pre t 1,x.2<=12:=fun x hx=>by have:=h2 x hx;simp[wz]at this;omega
  have:=hd.1 h3
  exact⟨⟨by unfold Tm.sz;omega,ag⟩,fun x hx=>by have:=h2 x hx;simp[wz]at this;exact this.2⟩
 ·rintro⟨⟨h1,h2⟩,h3⟩
  have h4:=hd.2 ag
  refine⟨by unfold Tm.sz at h1;omega,fun x hx=> ?_⟩
  have h5:=h4 x hx
  have h6:=h3 x hx
  have h7:=Nd h6
  simp[wz,h6,h7];omega
def pnF(s:bH)(t:Tm):Bool:=
 let k:Int:=t.kids.length
 if t.op=16 then t.n==0&&k==0
 else if t.op=1 then dR t.n 0 199&&k==0
 else if t.op=2 then dR t.n (-1000000) 1000000&&k==0
 else if t.op=3 then dR t.n 0 (s.cons.length - 1)&&k==fW s.cons t.n
 else if t.op=5 then dR t.n 0 (s.bK.length - 1)&&decide (k<fW s.bK t.n)
 else false
mutual
def JS(s:bH):Tm->Bool
 | .mk op n kids=>HN s kids&&pnF s (.mk op n kids)
def HN(s:bH):List Tm->Bool
 |[]=>true
 |k::l=>JS s k&&HN s l
end
theorem zi(s:bH):∀l:List Tm,HN s l=l.all (JS s)
 |[]=>rfl
 |k::l=>by rw[HN,zi s l];rfl
theorem Qw(s:bH)(t:Tm):JS s t=(t.kids.all (JS s)&&pnF s t):=by cases t;rw[JS,zi];rfl
def Pn(s:bH)(t:Tm):Prop:=JS s t=true
theorem Nf{s:bH}{t:Tm}:Pn s t↔pnF s t=true/\∀k∈t.kids,Pn s k:=by
 unfold Pn;rw[Qw,Bool.and_eq_true,List.all_eq_true];exact and_comm
theorem Pn.kid {s:bH}{t k:Tm}(h:Pn s t)(hk:k∈t.kids):Pn s k:=(Nf.1 h).2 k hk
theorem Qx{s:bH}{t:Tm}(h:pnF s t=true)(h1:t.op=16\/t.op=1\/t.op=2):t.kids=[]/\(t.op=16->t.n=0):=by
 unfold pnF at h
 rcases h1 with h1|h1|h1
 ·simp[h1]at h;exact⟨h.2,fun _=>h.1⟩
 ·simp[h1]at h;exact⟨h.2,fun e=>ag⟩
 ·simp[h1]at h;exact⟨h.2,fun e=>ag⟩
theorem Pn.bare {s:bH}{t:Tm}(h:Pn s t)(h1:t.op=16\/t.op=1\/t.op=2):t.kids=[]:=(Qx (Nf.1 h).1 h1).1
def xN{σ:Type}(step:σ->Tm->σ×Bool):σ->List Tm->Int->Int
 |_,[],_=> -1
 |s,x::l,k=>if(step s x).2=true then xN step (step s x).1 l (k+1)else k
theorem HO{σ:Type}(step:σ->Tm->σ×Bool):∀ (l:List Tm) (s:σ) (k:Int),0<=k->(0<=xN step s l k↔(aw step s l).2=false)
 |[],_,_,_=>by simp[xN,aw]
 |x::l,s,k,hk=>by
  have ih:=HO step l (step s x).1 (k+1) ag
  by_cases h:(step s x).2=true
  ·simp only[xN,aw,h,if_true];exact ih
  ·simp[xN,aw,h,hk]
theorem XQ{σ:Type}(l:List Tm)(hl:l.length<=9223372036854775807)(g:Nat)(aM:List V)(base:Nat)(H:σ->Nat->ab)(step:σ->Tm->σ×Bool)(hc:∀r∈V.aE aM,r<base)(ok:σ->Prop)(aW:∀x∈l,∀s,ok s->(step s x).2=true->ok (step s x).1)
 (h:∀x∈l,∀s,ok s->jg Tryz.prog g (.d x.d::aM) base (H s) (H (step s x).1) (.d (.bool (!(step s x).2)))) (s:σ) (iL:ok s):
 jg Tryz.prog 150 [.d (.sl (l.map Tm.d)), .func (.func g) [] aM] base (H s) (H (aw step s l).1) (.d (.i (xN step s l 0))):=by
 intro o nx hI K X hK
 have fu:∀r∈V.aE aM,r<nx:=fun r hr=>Nat.lt_of_lt_of_le (hc r hr) hI.le
 refine cH.aJ mix Tz aI ?_
 rw[W9]
 refine cT ?_
 refine az (fun i:Nat×σ×(Nat->ab)×Nat=>⟨aU [.d (.sl (l.map Tm.d)), .func (.func g) [] aM, .aa, .aa, .aa, .aa, .aa, .d (.i l.length), .d (.i i.1)],i.2.2.1,i.2.2.2⟩)
  (fun i=>i.1<=l.length/\cR base (H i.2.1) i.2.2.1 i.2.2.2/\nx<=i.2.2.2/\(∀id,base<=id->id<nx->i.2.2.1 id=o id)/\aw step s l=aw step i.2.1 (l.drop i.1)/\ok i.2.1/\xN step s l 0=xN step i.2.1 (l.drop i.1) i.1) (fun i=>l.length - i.1) (0,s,o,nx)
  ⟨Nat.zero_le _,hI,Nat.le_refl _,fun _ _ _=>rfl,rfl,iL,rfl⟩ ?_ ?_
 ·exact Ls
 rintro⟨k,s',o',nx'⟩ ⟨hk,uw,hn,cP,hf,iG,u0⟩
 simp only at hk uw hn cP hf iG u0
 refine cT ?_
 refine aj (fun h1=> ?_) (fun h1=> ?_)
 ·simp at h1
  obtain⟨x,hx⟩:=aF h1
  have gf:=List.mem_of_getElem? hx
  have hd:l.drop k=x::l.drop (k+1):=by
   exact YO
  rw[hd]at hf u0
  simp only[aw,xN]at hf u0
  refine KO hx ?_
  refine dQ (h x gf s' iG _ _ (uw.mono ag) _ _ fun o2 n2 m1 m2 m3=> ?_)
  cases hb:(step s' x).2 with
  |true=>
   rw[hb]at hf u0
   simp only[if_true]at hf u0
   refine a8 ?_
   have wh:∀r∈V.aE aM,r<n2+1+1:=fun r hr=>by have:=fu r hr;omega
   exact zw0
  |false=>
   exact UX
 ·exact UZ
theorem tJ{σ:Type}(l:List Tm)(hl:l.length<=9223372036854775807)(g:Nat)(aM:List V)(base:Nat)(H:σ->Nat->ab)(step:σ->Tm->σ×Bool)(hc:∀r∈V.aE aM,r<base)(ok:σ->Prop)(aW:∀x∈l,∀s,ok s->(step s x).2=true->ok (step s x).1)
 (h:∀x∈l,∀s,ok s->jg Tryz.prog g (.d x.d::aM) base (H s) (H (step s x).1) (.d (.bool (!(step s x).2)))) (s:σ) (iL:ok s):
 jg Tryz.prog 106 [.d (.sl (l.map Tm.d)), .func (.func g) [] aM] base (H s) (H (aw step s l).1) (.d (.bool (!(aw step s l).2))):=by
 intro o nx hI K X hK
 have fu:∀r∈V.aE aM,r<nx:=fun r hr=>Nat.lt_of_lt_of_le (hc r hr) hI.le
 refine cH.aJ mix Tf aI ?_
 rw[WS]
 refine iD ?_
 refine aS (XQ l hl g aM base H step hc ok aW h s iL _ _ ?_ _ _ fun o2 n2 m1 m2 m3=> ?_)
 ·exact Gz
 refine iD ?_
 have e:decide (0<=xN step s l 0)= !(aw step s l).2:=by
  have:=HO step l s 0 ag
  exact Vd
 rw[e]
 exact OO
section
theorem aeo{x:Tm}{g:Nat}{aM:List V}{base c bx:Nat}{h h2 O:Nat->ab}{r:Bool}(hS:jg Tryz.prog g (.d x.d::aM) base h h2 (.d (.bool r)))(hb:base<=bx)(Ot:bx<c)(hO:O bx= .row [.func (.func g) [] aM])(hc:∀r∈V.aE aM,r<base):
 jg Tryz.prog 161 [.d x.d, .ptr bx 0] c (ext base h O) (ext base h2 O) (.d (.bool (!r))):=by
 intro o nx hI K X hK
 have hle:=hI.le
 have fu:∀r∈V.aE aM,r<nx:=fun r hr=>by have:=hc r hr;omega
 have ho:o bx= .row [.func (.func g) [] aM]:=by
  exact UO
 have y1:∀k,bx≠nx+k:=fun k=>ag
 have y2:bx≠nx:=ag
 refine cH.aJ mix TG aI ?_
 rw[Xf]
 refine OH ho y1 y2 ?_
 refine dQ ((hS.ext (by omega:base<=c) O) _ _ ?_ _ _ fun o2 n2 m1 m2 m3=> ?_)
 ·exact hI.ax ag ag ag rfl
 refine iD ?_
 exact aat
theorem zj{σ:Type}(l:List Tm)(hl:l.length<=9223372036854775807)(g:Nat)(aM:List V)(base:Nat)(H:σ->Nat->ab)(step:σ->Tm->σ×Bool)(hc:∀r∈V.aE aM,r<base)(ok:σ->Prop)(aW:∀x∈l,∀s,ok s->(step s x).2=true->ok (step s x).1)
 (h:∀x∈l,∀s,ok s->jg Tryz.prog g (.d x.d::aM) base (H s) (H (step s x).1) (.d (.bool (step s x).2))) (s:σ) (iL:ok s):
 jg Tryz.prog 133 [.d (.sl (l.map Tm.d)), .func (.func g) [] aM] base (H s) (H (aw step s l).1) (.d (.bool (aw step s l).2)):=by
 intro o nx hI K X hK
 have hle:=hI.le
 have fu:∀r∈V.aE aM,r<nx:=fun r hr=>Nat.lt_of_lt_of_le (hc r hr) hI.le
 refine cH.aJ mix Tt aI ?_
 rw[W3]
 refine iD ?_
 refine aS (tJ l hl 161 [.ptr nx 0] (nx+1) (fun s=>ext base (H s) (ax o nx (.row [.func (.func g) [] aM]))) step oE ok aW (fun x hx s hs=>aeo (h x hx s hs) hle ag (af _ _ _) hc) s iL _ _ ?_ _ _ fun o2 n2 m1 m2 m3=> ?_)
 ·have hr:(ab.row [V.func (.func g) [] aM]).refs.all (fun r=>decide (r<nx+4))=true:=by
   rw[List.all_eq_true]
   intro r hr
   have h1:r∈V.aE aM:=by simpa[ab.refs,V.aE,V.refs]using hr
   have:=fu r h1
   simp;omega
  exact UE
 refine iD ?_
 refine hK _ _ ag ⟨(m2.mono ag).bn,by have:=m2.le;omega,fun id aq=> ?_⟩ fun id i1 i2=> ?_
 ·exact ID
 ·exact UA
mutual
def gX:Tm->List Tm
 | .mk op n kids=> .mk op n kids::Qy kids
def Qy:List Tm->List Tm
 |[]=>[]
 |k::l=>gX k++Qy l
end
theorem zk:∀l:List Tm,Qy l=l.flatMap gX
 |[]=>rfl
 |k::l=>by rw[Qy,zk l];rfl
theorem nQ(t:Tm):gX t=t::t.kids.flatMap gX:=by cases t;rw[gX,zk];rfl
section
variable {σ:Type}(base nP:Nat)(H:σ->Nat->ab)(step:σ->Tm->σ×Bool)(ok:σ->Prop)
theorem Ng:∀t:Tm,t.fits->(∀x∈gX t,∀s,ok s->(step s x).2=true->ok (step s x).1)->(∀x∈gX t,∀s,ok s->ZO Tryz.prog nP [.d x.d] base (H s) (H (step s x).1) (.d (.bool (step s x).2)))->nP<base->
 ∀ (c:Nat) (o0:Nat->ab) (yb vb:Nat),base<=c->base<=yb->yb<c->base<=vb->vb<c->o0 yb= .row [.ju nP]->o0 vb= .row [.func (.func 178) [] [.ptr yb 0, .ptr vb 0]]->
 ∀s,ok s->jg Tryz.prog 178 [.d t.d, .ptr yb 0, .ptr vb 0] c (ext base (H s) o0) (ext base (H (aw step s (gX t)).1) o0) (.d (.bool (aw step s (gX t)).2)):=by
 refine Tm.fy fun t ih hf aW hR wm c o0 yb vb Ot OC hy OD hv oy ov s iL=> ?_
 have oU:=(Tm.bZ _).1 hf
 intro o nx hI K X hK
 have hle:=hI.le
 have Qn:o yb= .row [.ju nP]:=by rw[hI.eq yb hy];unfold ext;rw[if_neg (by omega),oy]
 have Qo:o vb= .row [.func (.func 178) [] [.ptr yb 0, .ptr vb 0]]:=by rw[hI.eq vb hv];unfold ext;rw[if_neg (by omega),ov]
 have y1:yb≠nx:=ag
 have y2:∀k,yb≠nx+k:=fun k=>ag
 have y3:vb≠nx:=ag
 have y4:∀k,vb≠nx+k:=fun k=>ag
 refine cH.aJ mix TR aI ?_
 rw[Xq]
 simp+contextual only[go_sem,Qn,Qo,y1,y2,y3,y4,Nat.add_assoc,Nat.left_eq_add,Nat.add_eq_left,Nat.add_left_cancel_iff]
 have o9:=nQ t
 have kq:∀k∈t.kids,∀x∈gX k,x∈gX t:=fun k hk x hx=>by
  exact RF
 have hb:∀id,id<base->o id=H s id:=fun id aq=>by rw[hI.eq id (by omega)];unfold ext;rw[if_pos aq]
 have hIb:cR base (H s) o nx:=⟨hI.bn,ag,hb⟩
 refine nO (hR t BT s iL _ _ (hIb.ax (i:=nx) (m:=nx+4) ag ag ag rfl) _ _ fun o2 n2 m1 m2 m3=> ?_)
 have k0:o2 nx= .row t.row:=by rw[m3 nx (by omega) (by omega),af]
 have hold:∀id,base<=id->id<nx->o2 id=o id:=fun id h1 h2=>by rw[m3 id h1 (by omega),ae _ _ _ _ (by omega)]
 have EK:∀id,base<=id->id<c->o id=o0 id:=fun id h1 h2=>by rw[hI.eq id h2];unfold ext;rw[if_neg (by omega)]
 cases Dx:(step s t).2 with
 |false=>
  refine ko Dx ?_
  have zc:aw step s (gX t)=((step s t).1,false):=by rw[o9,aw,if_neg (by rw[Dx];exact Bool.false_ne_true)]
  rw[zc]at hK
  refine hK _ _ ag ⟨m2.bn.mono ag,ag,fun id aq=> ?_⟩ (fun id h1 h2=>hold id ag h2)
  unfold ext
  split
  ·exact m2.eq id p8
  ·exact KW
 |true=>
  have zc:aw step s (gX t)=aw (fun s k=>aw step s (gX k)) (step s t).1 t.kids:=by rw[o9,aw,if_pos Dx,wk]
  have q0:o2 yb= .row [.ju nP]:=by rw[hold yb OC (by omega),Qn]
  have q1:o2 vb= .row [.func (.func 178) [] [.ptr yb 0, .ptr vb 0]]:=by rw[hold vb OD (by omega),Qo]
  simp+contextual only[go_sem,Dx,k0,q1]
  have m0:=m2.le
  refine aS (zj t.kids oU.1 178 [.ptr yb 0, .ptr vb 0] n2 (fun s=>ext base (H s) o2) (fun s k=>aw step s (gX k)) ?_ ok ?_ ?_ (step s t).1 (aW t BT s iL Dx) _ _ ?_ _ _ ?_)
  ·simp[V.aE,V.refs];omega
  ·exact aaM
  ·intro k hk s' jr
   exact ih k hk (oU.2 k hk) (fun x hx=>aW x (kq k hk x hx)) (fun x hx=>hR x (kq k hk x hx)) wm n2 o2 yb vb ag OC ag OD ag q0 q1 s' jr
  ·exact(m2.mono ag).ext ag ag
  ·intro o5 n5 p1 p2 p3
   refine cT ?_
   rw[<- zc]
   refine hK _ _ ag ⟨p2.bn.mono ag,ag,fun id aq=> ?_⟩ (fun id h1 h2=> ?_)
   ·rw[p2.eq id (by omega), <- zc]
    unfold ext
    split
    ·rfl
    ·exact KW
   ·exact R6
theorem JT(t:Tm)(hf:t.fits)(aW:∀x∈gX t,∀s,ok s->(step s x).2=true->ok (step s x).1)(hR:∀x∈gX t,∀s,ok s->ZO Tryz.prog nP [.d x.d] base (H s) (H (step s x).1) (.d (.bool (step s x).2)))(wm:nP<base)(tb:Nat)(EP:tb<base)(s:σ)(iL:ok s)(bG:H s tb= .row t.row):
 jg Tryz.prog 177 [.ju nP, .ptr tb 0] base (H s) (H (aw step s (gX t)).1) (.bW []):=by
 intro o nx hI K X hK
 have hle:=hI.le
 have ot:o tb= .row t.row:=by rw[hI.eq tb EP,bG]
 have y1:tb≠nx:=ag
 have y2:∀k,tb≠nx+k:=fun k=>ag
 refine cH.aJ mix TQ aI ?_
 rw[Xp]
 refine Uw ot y1 y2 ?_
 have hI1:cR base (H s) (ax (ax (ax o nx (.row [.ju nP])) (nx+1) (.row [.d .cf])) (nx+1) (.row [.func (.func 178) [] [.ptr nx 0, .ptr (nx+1) 0]])) (nx+6):=by
  refine((hI.ax (i:=nx) (m:=nx+6) ag ag ag ?_).ax (i:=nx+1) (m:=nx+6) ag ag ag rfl).ax (i:=nx+1) ag ag ag ?_
  ·exact KY
  ·exact zK
 refine aS (Ng base nP H step ok t hf aW hR wm (nx+6) _ nx (nx+1) ag hle ag ag ag ?_ ?_ s iL _ _ (hI1.ext (Nat.le_refl _) ag) _ _ ?_)
 ·exact fq
 ·exact fq
 intro o2 n2 m1 m2 m3
 refine cT ?_
 refine hK _ _ ag ⟨m2.bn,ag,fun id aq=> ?_⟩ (fun id h1 h2=> ?_)
 ·exact ID
 ·exact U8
end
theorem zl(t:Tm)(o:Nat->ab)(nx:Nat)(K X:V->(Nat->ab)->Nat->Prop)(h:K (.func (.func 177) [] [.ptr nx 0]) (ax o nx (.row t.row)) (nx+4)):cH Tryz.prog 162 [.d t.d] o nx K X:=by
 refine cH.aJ mix TH aI ?_
 rw[Xg]
 refine cT ?_
 exact h
def A3{σ:Type}(J:σ->Option kj)(step:σ->Tm->σ)(s:σ)(x:Tm):σ×Bool:=(step s x,(J (step s x)).isNone)
theorem rh{σ:Type}(t:Tm)(hf:t.fits){n bq:Nat}{gq:Operand}{ps:List Nat}{iZ eI:IC}{Q:fG->S->Prop}{e:Nat->V}{o:Nat->ab}{nx tb:Nat}(env:List V)(he:mN e env 0)
 (xI:ps.all (fun t=>decide (t<n))=true) (hl:ps.length=1) (hg:Good o nx) (hrefs:∀r∈V.aE env,r<nx) (ht:o tb= .row t.row)
 (G:σ->Nat->ab) (J:σ->Option kj) (step:σ->Tm->σ) (ok:σ->Prop) (s0:σ) (iL:ok s0) (YM:J s0=none) (h0:∀id,id<nx->o id=G s0 id) (aW:∀x∈gX t,∀s,ok s->J s=none->J (step s x)=none->ok (step s x))
 (py:∀L,iz Tryz.prog n env ps iZ eI L->(∀st pd m,nx<=m->(L st pd).refs.all (fun r=>decide (r<m))=true)->∀x∈gX t,∀s,ok s->J s=none->∀o3 n3,cR nx (G s) o3 n3->nx<n3->o3 nx=L .ready none->∀K X,
  (∀e' o' n' st pd,n3<=n'->cR nx (G (step s x)) o' n'->o' nx=L st pd->(∀id,nx<id->id<n3->o' id=o3 id)->jZ nx K X (M7 (J (step s x))) ⟨e',o',n'⟩)->
  kN Tryz.prog n n3 true iZ (pF Tryz.prog n n3 nx eI K X) ⟨nC (aU env) ps [.d x.d],o3,n3⟩)
 (gO:∀o' n',cR nx (G (aw (A3 J step) s0 (gX t)).1) o' n'->px Q (J (aw (A3 J step) s0 (gX t)).1) ⟨e,o',n'⟩):
 AE Tryz.prog n bq false gq ps iZ eI Q ⟨e,o,nx⟩ (.func (.func 177) [] [.ptr tb 0]):=by
 refine FN env he (fun L hL=> ?_)
 have EP:tb<nx:=hg.lt Lr
 let H:σ->Nat->ab:=fun s id=>if id<nx then G s id else if id=nx then(match J s with|none=>L .ready none|some j=>L .done (some j))else .no
 have IE:∀s id,id<nx->H s id=G s id:=fun s id h=>if_pos h
 have Oq:∀s,J s=none->H s nx=L .ready none:=fun s h=>by show(if nx<nx then _ else _)=_;rw[if_neg (by omega),if_pos rfl,h]
 have UH:∀s j,J s=some j->H s nx=L .done (some j):=fun s j h=>by show(if nx<nx then _ else _)=_;rw[if_neg (by omega),if_pos rfl,h]
 have xX:∀st pd m,nx<=m->(L st pd).refs.all (fun r=>decide (r<m))=true:=fun st pd m hm=>by
  exact U3
 refine JT (nx+1) nx H (A3 J step) (fun s=>ok s/\J s=none) t hf (fun x hx s h1 h2=> ?_) (fun x hx s h1=> ?_) ag tb ag s0 ⟨iL,YM⟩ Lp _ _ ⟨?_,Nat.le_refl _,fun id aq=> ?_⟩ _ _ ?_
 ·have hj:J (step s x)=none:=by simpa[A3]using h2
  exact⟨aW x hx s h1.1 h1.2 hj,hj⟩
 ·intro o3 n3 hI K X hK
  have hle:=hI.le
  have KL:o3 nx=L .ready none:=by rw[hI.eq nx (by omega),Oq s h1.2]
  refine we hL mix KL ag xI (by simp[hl]) ?_
  refine py L hL xX x hx s h1.1 h1.2 o3 n3 ⟨hI.bn,ag,fun id aq=>by rw[hI.eq id (by omega),IE _ _ aq]⟩ ag KL K X (fun e' o' n' st pd k1 k2 k3 k4=> ?_)
  have key:∀st' pd' b,(J (step s x)).isNone=b->H (step s x) nx=L st' pd'->K (.d (.bool b)) (ax o' nx (L st' pd')) n':=fun st' pd' b hb hh=>by
   subst hb
   refine hK _ _ k1 ⟨k2.bn.ax ag (xX _ _ _ ag),ag,fun id aq=> ?_⟩ (fun id g1 g2=> ?_)
   ·by_cases rP:id=nx
    ·exact Ld
    ·rw[ae _ _ _ _ rP]
     show o' id=H (step s x) id
     exact K6
   ·exact UN
  cases hj:J (step s x)with
  |none=>exact UK
  |some j=>
   cases j with
   |ret=>exact UI
   |exit j=>exact UG
 ·exact UJ
 ·by_cases rP:id=nx
  ·exact Li
  ·exact UF
 ·intro o' n' k1 k2 k3
  have hle:=k2.le
  generalize hsf:(aw (A3 J step) s0 (gX t)).1=sf at*
  have kk:∀st pd,cR nx (G sf) (ax o' nx (L st pd)) n':=fun st pd=>⟨k2.bn.ax ag (xX _ _ _ ag),ag,fun id aq=>by rw[ae _ _ _ _ (by omega),k2.eq id (by omega),IE _ _ aq]⟩
  cases hj:J sf with
  |none=>
   refine⟨.ready,none,by rw[k2.eq nx (by omega),Oq _ hj],(fun h=>by cases h), ?_⟩
   have:=gO _ _ (kk .exhausted none)
   rwa [hj]at this
  |some j=>
   refine⟨.done,some j,by rw[k2.eq nx (by omega),UH _ _ hj],(fun h=>by cases h), ?_⟩
   have:=gO _ _ (kk .exhausted (some j))
   rwa [hj]at this
end
section
def JU(l:List (D×D)):List (Int×D):=l.map fun p=>((match p.1 with| .int _ n=>n|_=>0),p.2)
def XR(l:List (D×D)):Bool:=l.all fun p=>match p.1 with| .int .i64 _=>true|_=>false
@[go_sem] theorem aeO (m:List (Int×D)):JU (enc (D.int .i64) m)=m:=by
  unfold JU enc;rw[List.map_map];simp[Function.comp_def]
@[go_sem] theorem aeP (m:List (Int×D)):XR (enc (D.int .i64) m)=true:=by simp[XR,enc]
@[go_sem] theorem aeQ:XR []=true:=rfl
@[go_sem] theorem aeR:JU []=[]:=rfl
theorem A4:∀ {l:List (D×D)},XR l=true->enc (D.int .i64) (JU l)=l
 |[],_=>rfl
 |(k,x)::l,h=>by
  simp only[XR,List.all_cons,Bool.and_eq_true]at h
  have ih:=A4 (l:=l) h.2
  obtain⟨n,h1⟩:∃n,k= .int .i64 n:=by
   have h1:=h.1
   split at h1
   ·exact⟨_,rfl⟩
   ·cases h1
  subst h1
  simp only[enc,JU,List.map_cons]at ih|-
  rw[ih]
def nR(l:List Int):List (Int×D):=l.map fun n=>(n, .bool true)
@[go_sem] theorem aep:nR []=[]:=rfl
def A5(l:List Int)(n:Int):List Int:=if l.contains n=true then l else l++[n]
theorem Nh{l:List Int}{n k:Int}:k∈A5 l n↔k∈l\/k=n:=by
 unfold A5
 split
 ·rename_i h
  have:n∈l:=by simpa using h
  constructor
  ·exact .inl
  ·rintro(h|rfl)<;>assumption
 ·simp
theorem ri:∀ (l:List Int) (n:Int) (i:Nat),fX n (nR l) i=(l.findIdx? (· ==n)).map fun j=>(i+j,D.bool true)
 |[],n,i=>rfl
 |x::l,n,i=>by
  have ih:=ri l n (i+1)
  simp only[nR,List.map_cons,fX,List.findIdx?_cons]at ih|-
  by_cases h:n=x
  ·subst h;simp
  ·have h2: ¬x=n:=fun e=>h e.symm
   simp only[beq_iff_eq,h,h2,if_false,ih,Option.map_map,Function.comp_def]
   congr 1;funext j;congr 1;omega
@[go_sem] theorem ZR (l:List Int) (n:Int):xL n (.bool true) (nR l)=nR (A5 l n):=by
  unfold xL A5
  rw[ri]
  cases h:l.findIdx? (· ==n)with
  |none=>
   have:l.contains n=false:=by
    rw[List.findIdx?_eq_none_iff]at h
    rw[Bool.eq_false_iff];intro hc
    have:=h n (by simpa using hc)
    simp at this
   simp only[Option.map_none,this,Bool.false_eq_true,if_false]
   simp[nR]
  |some j=>
   rw[List.findIdx?_eq_some_iff_getElem]at h
   obtain⟨hj,he,_⟩:=h
   have e:l[j]=n:=by simpa using he
   have:l.contains n=true:=by rw[List.contains_iff_mem, <- e];exact List.getElem_mem hj
   simp only[Option.map_some,this,if_true,Nat.zero_add]
   apply List.ext_getElem?
   intro k
   rw[List.getElem?_set]
   split
   ·rename_i hk;subst hk;simp[nR,hj,e]
   ·rfl
def aeq(l:List Int)(n:Int):List Int:=match l.findIdx? (· ==n)with|some j=>l.eraseIdx j|none=>l
theorem mw{α β:Type}(f:α->β):∀ (l:List α) (j:Nat),(l.map f).eraseIdx j=(l.eraseIdx j).map f
 |[],_=>rfl
 |_::_,0=>rfl
 |x::l,j+1=>by simp[mw f l j]
@[go_sem] theorem ZS (l:List Int) (n:Int):ael n (nR l)=nR (aeq l n):=by
  unfold ael aeq
  rw[ri]
  cases h:l.findIdx? (· ==n)with
  |none=>simp
  |some j=>simp only[Option.map_some,Nat.zero_add];exact mw _ _ _
section
variable {P:Program}{o:Nat->ab}{t:TypeId}{id:Nat}{n:Int}{v:V}
def sI(P:Program)(kt:TypeId):Bool:=match bp P kt with|some .int=>true|_=>false
theorem zm{kt:TypeId}(h:sI P kt=true):bp P kt=some .int:=by
 unfold sI at h;split at h
 ·assumption
 ·cases h
@[go_sem] theorem ZT {kt:TypeId} (h:bp P kt=some .int):sI P kt=true:=by unfold sI;rw[h]
def XS(P:Program)(o:Nat->ab)(t:TypeId)(id:Nat)(n:Int)(v:V):Option fS:=
 match qj P t,dB o v,o id with
 |some (kt,_),some vd, .map GG GH l=>match sI P kt&&XR l&&v.ids.all (· !=id)with
  |true=>some (.bW [],bT o v.ids++[(id, .map GG GH (enc (D.int .i64) (xL n vd (JU l))))],id::v.ids)
  |false=>ra P o t (.mp id) (.d (.int .i64 n)) v
 |_,_,_=>ra P o t (.mp id) (.d (.int .i64 n)) v
@[go_sem high] theorem XT:fO P o t (.mp id) (.d (.int .i64 n)) v=XS P o t id n v:=by
  unfold XS
  split
  ·rename_i kt vt vd GG GH l h1 h2 h3
   split
   ·rename_i hc
    simp only[Bool.and_eq_true]at hc
    obtain⟨⟨c1,c2⟩,c3⟩:=hc
    have c4:=zm c1
    have c5:dB o (.d (.int .i64 n))=some (.int .i64 n):=rfl
    have hl:=A4 c2
    unfold fO
    simp only[h1,c5,h2,oQ,h3]
    rw[if_pos ⟨rfl,HJ c4 n,rfl,c3⟩]
    conv=>lhs;rw[<- hl]
    rw[Dz c4]
    unfold xL
    cases fX n (JU l) 0 with
    |none=>simp[xM,enc]
    |some p=>simp[xM,HK,D.same,mI]
   ·exact zg ..
  ·exact zg ..
attribute [go_sem] XS
def ZU(l:List (D×D)):Bool:=l.all fun p=>match p.2 with| .bool true=>true|_=>false
@[go_sem] theorem aeS (l:List Int):ZU (enc (D.int .i64) (nR l))=true:=by simp[ZU,enc,nR]
@[go_sem] theorem aeT:ZU []=true:=rfl
theorem HP:∀ {m:List (Int×D)},ZU (enc (D.int .i64) m)=true->nR (m.map (·.1))=m
 |[],_=>rfl
 |(k,x)::m,h=>by
  simp only[ZU,enc,List.map_cons,List.all_cons,Bool.and_eq_true]at h
  have ih:=HP (m:=m) h.2
  have h1:x= .bool true:=by
   have h1:=h.1
   split at h1
   ·rfl
   ·cases h1
  simp only[nR,List.map_cons]at ih|-
  rw[ih,h1]
def Ni(P:Program)(o:Nat->ab)(t:TypeId)(m:V)(n:Int)(ok:Bool):Option fS:=
 match qj P t with
 |some (kt,vt)=>match zeroV P vt with
  |some (.d (.bool false))=>match qk o m with
   |some (rd,l)=>match sI P kt&&XR l&&ZU l with
    |true=>some (match ok with|true=> .bW [.d (.bool (((JU l).map (·.1)).contains n)), .d (.bool (((JU l).map (·.1)).contains n))]|false=> .d (.bool (((JU l).map (·.1)).contains n)),[],rd)
    |false=>wq P o t m (.d (.int .i64 n)) ok
   |none=>wq P o t m (.d (.int .i64 n)) ok
  |_=>wq P o t m (.d (.int .i64 n)) ok
 |none=>wq P o t m (.d (.int .i64 n)) ok
@[go_sem] theorem Nj (l:List Int):((nR l).map (·.1))=l:=by simp[nR,Function.comp_def]
@[go_sem high] theorem aer {m:V} {ok:Bool}:iE P o t m (.d (.int .i64 n)) ok=Ni P o t m n ok:=by
  unfold Ni
  split
  ·rename_i kt vt h1
   split
   ·rename_i hz
    split
    ·rename_i rd l h
     split
     ·rename_i hc
      simp only[Bool.and_eq_true]at hc
      have c4:=zm hc.1.1
      have hl:=A4 hc.1.2
      have hs:nR ((JU l).map (·.1))=JU l:=HP (by rw[hl];exact hc.2)
      have c5:dB o (.d (.int .i64 n))=some (.int .i64 n):=rfl
      unfold iE
      simp only[h1,c5,h]
      rw[if_pos ⟨rfl,HJ c4 n⟩]
      conv=>lhs;rw[<- hl]
      rw[Dz c4, <- hs,ri,Nj]
      generalize (JU l).map (·.1)=l'
      cases hf:l'.findIdx? (· ==n)with
      |none=>
       have:l'.contains n=false:=by
        rw[List.findIdx?_eq_none_iff]at hf
        rw[Bool.eq_false_iff];intro hc
        have:=hf n (by simpa using hc)
        simp at this
       cases ok<;>simp only[Option.map_none,xM,hz,this,if_true,Bool.false_eq_true,if_false]
      |some j=>
       rw[List.findIdx?_eq_some_iff_getElem]at hf
       obtain⟨hj,he,_⟩:=hf
       have e:l'[j]=n:=by simpa using he
       have:l'.contains n=true:=by rw[List.contains_iff_mem, <- e];exact List.getElem_mem hj
       cases ok<;>simp only[Option.map_some,xM,this,if_true,Bool.false_eq_true,if_false]
     ·exact oq ..
    ·exact oq ..
   ·exact oq ..
  ·exact oq ..
attribute [go_sem] Ni
end
attribute [go_sem] List.head?_cons
end
theorem Nk{o:Nat->ab}{nx:Nat}{Δ:List (Nat×ab)}(h:∀x∈Δ,x.1<nx):(hp o nx).put Δ=hp (put o Δ) nx:=by
 simp only[Hp.put,hp]
 congr 1
 funext j
 simp only[List.mem_map,eq_iff_iff]
 exact⟨fun h2=>h2.elim (fun h=>h) fun⟨x,hx,e⟩=>e ▸ h x hx, .inl⟩
theorem Nl(a b:List Tm)(ha:a.length<=9223372036854775807)(hb:b.length<=9223372036854775807)(g:Nat)(h:∀x∈a,∀y∈b,aV Tryz.prog g [x.d,y.d] (.ret [.bool (kO x y)]))(o:Nat->ab)(nx:Nat)(hg:Good o nx)(K X:V->(Nat->ab)->Nat->Prop)
 (hK:∀o' nx',nx<=nx'->Good o' nx'->(∀j,j<nx->o' j=o j)->K (.d (.bool (a.length==b.length&&lp a b))) o' nx'):
 cH Tryz.prog 149 [.d (.sl (a.map Tm.d)), .d (.sl (b.map Tm.d)), .func (.func g) [] []] o nx K X:=by
 refine cH.aJ mix Ty aI ?_
 rw[W8]
 refine iD ?_
 refine aj (fun h1=> ?_) (fun h1=> ?_)
 ·refine a8 ?_
  have:(a.length==b.length&&lp a b)=false:=by
   have:(a.length==b.length)=false:=by
    rw[Bool.eq_false_iff];intro h
    simp at h;simp[h]at h1
   rw[this];rfl
  rw[this]at hK
  exact hK _ _ ag (hg.mono ag) (fun _ _=>rfl)
 ·have hl:a.length=b.length:=by simp at h1;omega
  have Pk:(a.length==b.length)=true:=by simpa using hl
  rw[Pk,Bool.true_and]at hK
  refine iD ?_
  refine az (fun k:Nat=>⟨aU [.d (.sl (a.map Tm.d)), .d (.sl (b.map Tm.d)), .func (.func g) [] [], .aa, .aa, .aa, .aa, .aa, .aa, .aa, .aa, .aa, .aa, .aa, .aa, .d (.sl (a.map Tm.d)), .d (.i a.length), .d (.i k)],o,nx⟩)
   (fun k=>k<=a.length/\∀i,i<k->∀x y,a[i]? =some x->b[i]? =some y->kO x y=true) (fun k=>a.length - k) 0 ⟨Nat.zero_le _,fun i h=>ag⟩ (bt.aT _ (Nat.le_refl _) ag hg (fun _ _=>rfl) ?_) (fun k hk=> ?_)
  ·exact cz
  refine a8 ?_
  refine aj (fun h2=> ?_) (fun h2=> ?_)
  ·simp at h2
   obtain⟨x,hx⟩:=aF h2
   obtain⟨y,hy⟩:=aF (l:=b) (k:=k) ag
   refine OI hx hy ?_
   refine aD (h x (List.mem_of_getElem? hx) y (List.mem_of_getElem? hy)) rfl ?_
   refine a8 ?_
   refine aj (fun h3=> ?_) (fun h3=> ?_)
   ·refine a8 ?_
    simp at h3
    have:lp a b=false:=by
     rw[Bool.eq_false_iff];intro h4
     have:=(sH _ _ hl).1 h4 k x y hx hy
     rw[h3]at this;cases this
    rw[this]at hK
    refine hK _ _ ag ?_ (fun j hj=>by(repeat(first|rfl|rw[af]|rw[ae _ _ _ _ (by omega)])))
    exact fm
   ·refine a8 ?_
    simp at h3
    refine ak (k+1) ⟨h2,fun i hi u v hu hv=> ?_⟩ ag (bt.aT _ (Nat.le_refl _) ag hg (fun j hj=>by(repeat(first|rfl|rw[af]|rw[ae _ _ _ _ (by omega)]))) ?_)
    ·by_cases e:i=k
     ·subst e
      rw[hx]at hu;rw[hy]at hv
      injection hu with hu;injection hv with hv;subst hu;subst hv;exact h3
     ·exact hk.2 i ag u v hu hv
    ·exact cz
  ·refine a8 ?_
   simp at h2
   have:lp a b=true:=(sH _ _ hl).2 fun i x y hx hy=>hk.2 i (by have:=(List.getElem?_eq_some_iff.1 hx).1;omega) x y hx hy
   rw[this]at hK
   exact hK _ _ ag (hg.mono ag) (fun _ _=>rfl)
def lk:List (Int×Int)->Int->Option Int
 |[],_=>none
 |p::m,v=>if p.1=v then some p.2 else lk m v
abbrev uk(m:List (Int×Int)):Prop:=(m.map (·.1)).Nodup
theorem HQ{m:List (Int×Int)}{v k:Int}(hk:uk m):lk m v=some k↔(v,k)∈m:=by
 induction m with
 |nil=>simp[lk]
 |cons p m ih=>
  rw[uk,List.map_cons,List.nodup_cons]at hk
  simp only[lk,List.mem_cons]
  by_cases h:p.1=v
  ·rw[if_pos h]
   constructor
   ·intro e;injection e with e;exact .inl (by rw[<- h, <- e])
   ·rintro(e|e)
    ·rw[<- e]
    ·exact absurd (h ▸ List.mem_map.2 ⟨_,e,rfl⟩) hk.1
  ·rw[if_neg h,ih hk.2]
   constructor
   ·exact .inr
   ·rintro(e|e)
    ·exact absurd (by rw[<- e]) h
    ·exact e
def ints(m:List (Int×Int)):List (Int×D):=m.map fun p=>(p.1,D.i p.2)
theorem sJ:∀ (m:List (Int×Int)) (v:Int) (i:Nat),(match fX v (ints m) i with|some (_,x)=>some x|none=>none)=(lk m v).map D.i
 |[],v,i=>rfl
 |p::m,v,i=>by
  have ih:=sJ m v (i+1)
  simp only[ints,List.map_cons,fX,lk]at ih|-
  by_cases h:v=p.1
  ·subst h;simp
  ·have h2: ¬p.1=v:=fun e=>h e.symm
   simp only[beq_iff_eq,h,h2,if_false]
   exact ih
theorem my{m:List (Int×Int)}{v k:Int}(h:lk m v=some k):∃j,fX v (ints m) 0=some (j,D.i k):=by
 have:=sJ m v 0
 rw[h]at this
 cases ha:fX v (ints m) 0 with
 |none=>rw[ha]at this;cases this
 |some p=>obtain⟨j,x⟩:=p;rw[ha]at this;simp at this;exact⟨j,by rw[this]⟩
theorem mz{m:List (Int×Int)}{v:Int}(h:lk m v=none):fX v (ints m) 0=none:=by
 have:=sJ m v 0
 rw[h]at this
 cases ha:fX v (ints m) 0 with
 |none=>rfl
 |some p=>obtain⟨j,x⟩:=p;rw[ha]at this;cases this
def gD(m:List (Int×Int))(v:Int):Int:=(lk m v).getD 0
def lr:List (Int×Int)->Int->Int->List (Int×Int)
 |[],v,w=>[(v,w)]
 |p::m,v,w=>if p.1=v then(v,w)::m else p::lr m v w
theorem DD(v:Int):∀ (m:List (Int×D)) (i:Nat),fX v m (i+1)=(fX v m i).map fun p=>(p.1+1,p.2)
 |[],_=>rfl
 |p::m,i=>by
  have ih:=DD v m (i+1)
  simp only[fX]
  by_cases h:(v==p.1)=true
  ·simp[h]
  ·simp only[h,if_false];exact ih
theorem JV{v:Int}{p:Int×D}{m:List (Int×D)}{x:D}(h: ¬v=p.1):xL v x (p::m)=p::xL v x m:=by
 have hb: ¬ ((v==p.1)=true):=by simpa using h
 unfold xL
 simp only[fX,hb,if_false]
 rw[DD]
 cases fX v m 0 with
 |none=>rfl
 |some q=>obtain⟨i,y⟩:=q;rfl
theorem lO:∀ (m:List (Int×Int)) (v w:Int),xL v (D.i w) (ints m)=ints (lr m v w)
 |[],v,w=>by simp[xL,fX,ints,lr]
 |p::m,v,w=>by
  have ih:=lO m v w
  by_cases h:p.1=v
  ·subst h
   simp[xL,fX,ints,lr]
  ·have h': ¬v=p.1:=fun e=>h e.symm
   have e2:ints (p::m)=(p.1,D.i p.2)::ints m:=rfl
   rw[e2,JV h',ih]
   simp[lr,h,ints]
def um(m:List (Int×Int))(v:Int):List (Int×Int):=lr m v (IntKind.i64.wrap (gD m v+1))
@[reducible] def rj (m:List (Int×Int)):ab:= .map 3 3 (enc (D.int .i64) (ints m))
def dJ(op:Int)(m:List (Int×Int))(x:Tm):List (Int×Int):=if x.op=op then um m x.n else m
def aes(R:List (Int×Int)->Prop)(o:Nat->ab)(nx:Nat)(K:V->(Nat->ab)->Nat->Prop):Prop:=
 ∀o' nx' id m,nx<=id->id<nx'->Good o' nx'->(∀j,j<nx->o' j=o j)->o' id=rj m->R m->K (.mp id) o' nx'
theorem XU(t:Tm)(ht:t.fits)(o:Nat->ab)(nx:Nat)(hg:Good o nx)(K X:V->(Nat->ab)->Nat->Prop)
 (hK:aes (fun m=>m=(gX t).foldl (dJ 8) []) o nx K):cH Tryz.prog 136 [.d t.d] o nx K X:=by
 refine cH.aJ mix Tw aI ?_
 rw[W6]
 refine iD ?_
 refine gA (zl t _ _ _ _ ?_)
 refine iD ?_
 have hG:∀j,j<nx+10->ax (ax (ax (ax (ax o nx (.row [.d (.i t.op), .d (.i t.n), .d (.sl (t.kids.map Tm.d))])) (nx+2) (.map 3 3 [])) (nx+3) (.row [.d .hY])) (nx+3) (.row [.mp (nx+2)])) (nx+6) (.row t.row) j=ax (ax (ax (ax o nx (.row t.row)) (nx+3) (.row [.mp (nx+2)])) (nx+6) (.row t.row)) (nx+2) (rj []) j:=by
  intro j _
  exact OL
 refine rh (σ:=List (Int×Int)) t ht [.aa, .ptr nx 0, .aa, .ptr (nx+3) 0] ?_ bI rfl fm oE (af _ _ _)
  (fun s=>ax (ax (ax (ax o nx (.row t.row)) (nx+3) (.row [.mp (nx+2)])) (nx+6) (.row t.row)) (nx+2) (rj s)) (fun _=>none) (dJ 8) (fun _=>True) [] trivial rfl hG (fun _ _ _ _ _ _=>trivial) ?_ ?_
 ·exact IA
 ·intro L hL xX x hx s' _ _ o3 n3 hI hn KL K' X' cL
  simp only[nC]
  have hg:=hI.bn
  have hle:=hI.le
  have q1:o3 (nx+3)= .row [.mp (nx+2)]:=by rw[hI.eq (nx+3) (by omega)];(repeat(first|rfl|rw[af]|rw[ae _ _ _ _ (by omega)]))
  have q2:o3 (nx+2)=rj s':=by rw[hI.eq (nx+2) (by omega)];(repeat(first|rfl|rw[af]|rw[ae _ _ _ _ (by omega)]))
  refine a8 ?_
  refine lN hL (pd:=none) ?_ ?_
  ·(repeat(first|rfl|rw[af]|rw[ae _ _ _ _ (by omega)]))
   exact KL
  refine xm q1 q2 ?_
  have z1:nx≠n3:=ag
  have z2:∀k,nx≠n3+k:=fun k=>ag
  have z3:nx+2≠n3:=ag
  have z4:nx+3≠n3:=ag
  have same:∀ (o':Nat->ab) (n':Nat) (l:List (Int×Int)),Good o' n'->n3<=n'->(∀j,j<nx+10->o' j=ax o3 (nx+2) (rj l) j)->cR (nx+10) (ax (ax (ax (ax o nx (.row t.row)) (nx+3) (.row [.mp (nx+2)])) (nx+6) (.row t.row)) (nx+2) (rj l)) o' n':=fun o' n' l k1 k2 k3=>⟨k1,ag,fun j hj=>by
   rw[k3 j hj]
   by_cases e:j=nx+2
   ·subst e;rw[af,af]
   ·rw[ae _ _ _ _ e,ae _ _ _ _ e,hI.eq j hj,ae _ _ _ _ e]⟩
  refine aj (fun h3=> ?_) (fun h3=> ?_)
  ·have mf:x.op=8:=by simpa using h3
   have hp:dJ 8 s' x=um s' x.n:=by unfold dJ;rw[if_pos mf]
   rw[hp]at cL
   cases FX:lk s' x.n with
   |none=>
    have hc:um s' x.n=lr s' x.n (0+1):=by unfold um gD;rw[FX];rfl
    rw[hc]at cL
    simp+contextual (disch:=first|omega|simp only[go_sem,false_implies]) only[go_sem,wrap64,if_pos,q1,q2,z1,z2,z3,z4,mz FX,lO,Nat.add_assoc,Nat.left_eq_add,Nat.add_eq_left,Nat.add_left_cancel_iff]
    refine cL _ _ _ .busy none ag (same _ _ _ fm ag fun j hj=> ?_) fq (fun j h3 h4=>by(repeat(first|rfl|rw[af]|rw[ae _ _ _ _ (by omega)])))
    by_cases e:j=nx+2
    ·exact BK
    ·exact fq
   |some c=>
    obtain⟨k,hk⟩:=my FX
    have hc:um s' x.n=lr s' x.n (IntKind.i64.wrap (c+1)):=by unfold um gD;rw[FX];rfl
    rw[hc]at cL
    simp+contextual (disch:=first|omega|simp only[go_sem,false_implies]) only[go_sem,wrap64,if_pos,q1,q2,z1,z2,z3,z4,hk,lO,Nat.add_assoc,Nat.left_eq_add,Nat.add_eq_left,Nat.add_left_cancel_iff]
    refine cL _ _ _ .busy none ag (same _ _ _ fm ag fun j hj=> ?_) fq (fun j h3 h4=>by(repeat(first|rfl|rw[af]|rw[ae _ _ _ _ (by omega)])))
    by_cases e:j=nx+2
    ·exact BK
    ·exact fq
  ·have hp:dJ 8 s' x=s':=by unfold dJ;rw[if_neg (by simpa using h3)]
   rw[hp]at cL
   refine a8 ?_
   refine cL _ _ _ .busy none ag (same _ _ _ fm ag fun j hj=> ?_) fq (fun j h3 h4=>by(repeat(first|rfl|rw[af]|rw[ae _ _ _ _ (by omega)])))
   by_cases e:j=nx+2
   ·exact RZ
   ·exact fq
 ·intro o' n' hI
  have hle:=hI.le
  simp only[px]
  have q1:o' (nx+3)= .row [.mp (nx+2)]:=by rw[hI.eq (nx+3) (by omega)];(repeat(first|rfl|rw[af]|rw[ae _ _ _ _ (by omega)]))
  refine jz q1 ?_
  have zc:∀ (l:List Tm) (m:List (Int×Int)),(aw (A3 (fun _=>none) (dJ 8)) m l).1=l.foldl (dJ 8) m:=by
   intro l
   induction l with
   |nil=>intro m;rfl
   |cons y l ih=>intro m;simp only[aw,A3,Option.isNone_none,if_true];exact ih _
  rw[zc]at hI
  refine hK _ _ _ _ ag ag (hI.bn.mono ag) (fun j hj=> ?_) (by rw[hI.eq (nx+2) (by omega),af]) rfl
  rw[hI.eq j (by omega)];(repeat(first|rfl|rw[af]|rw[ae _ _ _ _ (by omega)]))
theorem DE(l:List Tm)(hl:l.length<=1000000)(hf:∀t∈l,t.fits)(o:Nat->ab)(nx:Nat)(hg:Good o nx)(K X:V->(Nat->ab)->Nat->Prop)
 (hK:aes (fun m=>m=(l.flatMap gX).foldl (dJ 1) []) o nx K):cH Tryz.prog 135 [.d (.sl (l.map Tm.d))] o nx K X:=by
 refine cH.aJ mix Tv aI ?_
 rw[W5]
 refine Ut ?_
 let Hm:List (Int×Int)->Nat->ab:=fun m=>ax (ax o (nx+2) (.row [.mp (nx+1)])) (nx+1) (rj m)
 have kT:∀m,Good (Hm m) (nx+7):=fun m=>((hg.mono ag).ax ag zK).ax ag rfl
 have Vo:∀m,Hm m (nx+1)=rj m:=fun m=>af _ _ _
 have Pj:∀m,Hm m (nx+2)= .row [.mp (nx+1)]:=fun m=>by show ax _ (nx+1) _ (nx+2)=_;rw[ae _ _ _ _ (by omega),af]
 have xA:∀m j,j≠nx+1->Hm m j=Hm [] j:=fun m j h=>by show ax _ (nx+1) _ j=ax _ (nx+1) _ j;rw[ae _ _ _ _ h,ae _ _ _ _ h]
 refine az (fun i:Nat×List (Int×Int)=>⟨aU [.aa, .aa, .aa, .ptr (nx+2) 0, .aa, .aa, .aa, .aa, .d (.sl (l.map Tm.d)), .d (.i l.length), .d (.i i.1)],Hm i.2,nx+7⟩)
  (fun i=>i.1<=l.length/\i.2=((l.take i.1).flatMap gX).foldl (dJ 1) []) (fun i=>l.length - i.1) (0,[]) ⟨Nat.zero_le _,rfl⟩ (bt.aT _ (show nx<=nx+7 from ag) ag (kT _) (fun j hj=> ?_) ?_) ?_
 ·show _=ax (ax o (nx+2) (.row [.mp (nx+1)])) (nx+1) (rj []) j
  exact OL
 ·exact cz
 rintro⟨k,m⟩ ⟨hk,hm⟩
 simp only at hk hm
 refine a8 ?_
 refine aj (fun h2=> ?_) (fun h2=> ?_)
 ·simp at h2
  obtain⟨x,hx⟩:=aF h2
  have gf:=List.mem_of_getElem? hx
  have lz:((l.take (k+1)).flatMap gX).foldl (dJ 1) []=(gX x).foldl (dJ 1) m:=by
   rw[List.take_add_one,hx,hm];simp
  have agf:=kT m
  have e1:=Vo m
  have e2:=Pj m
  have e3:=xA m
  clear_value Hm
  refine Us hx ?_
  refine gA (zl x _ _ _ _ ?_)
  refine iD ?_
  let G:List (Int×Int)->Nat->ab:=fun s=>ax (ax (ax (Hm m) (nx+10) (.row x.row)) (nx+13) (.row x.row)) (nx+1) (rj s)
  have hG:∀j,j<nx+17->ax (ax (ax (Hm m) (nx+10) (.row [.d (.int .i64 0), .d (.int .i64 0), .aZ])) (nx+10) (.row [.d (.i x.op), .d (.i x.n), .d (.sl (x.kids.map Tm.d))])) (nx+13) (.row x.row) j=G m j:=by
   intro j _
   show _=ax (ax (ax (Hm m) (nx+10) (.row x.row)) (nx+13) (.row x.row)) (nx+1) (rj m) j
   by_cases e:j=nx+1
   ·subst e;(repeat(first|rfl|rw[af]|rw[ae _ _ _ _ (by omega)]))
    exact e1
   ·rw[ae _ (nx+1) _ _ e,df]
  have gm:∀s,G s (nx+1)=rj s:=fun s=>af _ _ _
  have g2:∀s,G s (nx+2)= .row [.mp (nx+1)]:=fun s=>by
   show ax _ (nx+1) _ (nx+2)=_
   rw[ae _ _ _ _ (by omega),ae _ _ _ _ (by omega),ae _ _ _ _ (by omega)];exact e2
  have g3:∀s s' j,j≠nx+1->G s j=G s' j:=fun s s' j h=>by show ax _ (nx+1) _ j=ax _ (nx+1) _ j;rw[ae _ _ _ _ h,ae _ _ _ _ h]
  have g4:∀s j,j<nx+7->j≠nx+1->G s j=Hm m j:=fun s j h h'=>by
   show ax _ (nx+1) _ j=_
   rw[ae _ _ _ _ h',ae _ _ _ _ (by omega),ae _ _ _ _ (by omega)]
  clear_value G
  have hg:=agf
  refine rh (σ:=List (Int×Int)) x (hf x gf) [.aa, .aa, .aa, .ptr (nx+2) 0, .aa, .aa, .aa, .aa, .d (.sl (l.map Tm.d)), .d (.i l.length), .d (.i k)] ?_ bI rfl fm oE (af _ _ _)
   G (fun _=>none) (dJ 1) (fun _=>True) m trivial rfl hG (fun _ _ _ _ _ _=>trivial) ?_ ?_
  ·exact IA
  ·intro L hL xX y hy s' _ _ o3 n3 hI hn KL K' X' cL
   simp only[nC]
   have hg:=hI.bn
   have hle:=hI.le
   have q1:o3 (nx+2)= .row [.mp (nx+1)]:=by rw[hI.eq (nx+2) (by omega),g2]
   have q2:o3 (nx+1)=rj s':=by rw[hI.eq (nx+1) (by omega),gm]
   have z1:nx≠n3:=ag
   have z2:∀k,nx≠n3+k:=fun k=>ag
   have z3:nx+2≠n3:=ag
   have z4:nx+1≠n3:=ag
   have same:∀ (o':Nat->ab) (n':Nat) (l:List (Int×Int)),Good o' n'->n3<=n'->(∀j,j<nx+17->o' j=ax o3 (nx+1) (rj l) j)->cR (nx+17) (G l) o' n':=fun o' n' l k1 k2 k3=>⟨k1,ag,fun j hj=>by
    rw[k3 j hj]
    by_cases e:j=nx+1
    ·subst e;rw[af,gm]
    ·rw[ae _ _ _ _ e,hI.eq j hj];exact g3 _ _ _ e⟩
   refine a8 ?_
   refine lN hL (pd:=none) ?_ ?_
   ·(repeat(first|rfl|rw[af]|rw[ae _ _ _ _ (by omega)]))
    exact KL
   refine xm q1 q2 ?_
   refine aj (fun h3=> ?_) (fun h3=> ?_)
   ·have mf:y.op=1:=by simpa using h3
    have hp:dJ 1 s' y=um s' y.n:=by unfold dJ;rw[if_pos mf]
    rw[hp]at cL
    cases FX:lk s' y.n with
    |none=>
     have hc:um s' y.n=lr s' y.n (0+1):=by unfold um gD;rw[FX];rfl
     rw[hc]at cL
     simp+contextual (disch:=first|omega|simp only[go_sem,false_implies]) only[go_sem,wrap64,if_pos,q1,q2,z1,z2,z3,z4,mz FX,lO,Nat.add_assoc,Nat.left_eq_add,Nat.add_eq_left,Nat.add_left_cancel_iff]
     refine cL _ _ _ .busy none ag (same _ _ _ fm ag fun j hj=> ?_) fq (fun j h3 h4=>by(repeat(first|rfl|rw[af]|rw[ae _ _ _ _ (by omega)])))
     by_cases e:j=nx+1
     ·exact BK
     ·exact fq
    |some c=>
     obtain⟨q,hq⟩:=my FX
     have hc:um s' y.n=lr s' y.n (IntKind.i64.wrap (c+1)):=by unfold um gD;rw[FX];rfl
     rw[hc]at cL
     simp+contextual (disch:=first|omega|simp only[go_sem,false_implies]) only[go_sem,wrap64,if_pos,q1,q2,z1,z2,z3,z4,hq,lO,Nat.add_assoc,Nat.left_eq_add,Nat.add_eq_left,Nat.add_left_cancel_iff]
     refine cL _ _ _ .busy none ag (same _ _ _ fm ag fun j hj=> ?_) fq (fun j h3 h4=>by(repeat(first|rfl|rw[af]|rw[ae _ _ _ _ (by omega)])))
     by_cases e:j=nx+1
     ·exact BK
     ·exact fq
   ·have hp:dJ 1 s' y=s':=by unfold dJ;rw[if_neg (by simpa using h3)]
    rw[hp]at cL
    refine a8 ?_
    refine cL _ _ _ .busy none ag (same _ _ _ fm ag fun j hj=> ?_) fq (fun j h3 h4=>by(repeat(first|rfl|rw[af]|rw[ae _ _ _ _ (by omega)])))
    by_cases e:j=nx+1
    ·exact RZ
    ·exact fq
  ·intro o' n' hI
   have hle:=hI.le
   simp only[px]
   have zc:∀ (l:List Tm) (m:List (Int×Int)),(aw (A3 (fun _=>none) (dJ 1)) m l).1=l.foldl (dJ 1) m:=by
    intro l
    induction l with
    |nil=>intro m;rfl
    |cons y l ih=>intro m;simp only[aw,A3,Option.isNone_none,if_true];exact ih _
   rw[zc]at hI
   refine a8 ?_
   refine ak (k+1,(gX x).foldl (dJ 1) m) ⟨h2,lz.symm⟩ kp (bt.aT _ (show nx<=nx+7 from ag) ag (kT _) (fun j hj=> ?_) ?_)
   ·rw[hI.eq j (by omega)]
    by_cases e:j=nx+1
    ·subst e;rw[gm,Vo]
    ·rw[g4 _ _ hj e,e3 j e];exact(xA _ j e).symm
   ·exact cz
 ·simp at h2
  rw[List.take_of_length_le h2]at hm
  refine jz Pj ?_
  exact hK _ _ _ _ ag ag ((kT _).mono ag) (fun j hj=>by show ax _ (nx+1) _ j=_;rw[ae _ _ _ _ (by omega),ae _ _ _ _ (by omega)]) (Vo m) hm
section
section
variable {B:Nat->Prop}{w:World}
end
theorem aV.tK {P:Program}{f:FuncId}{ds:List D}{out:D}(h:cH P f (ds.map .d) (fun _=> .no) 0 (fun v o _=>∃x,dB o v=some x/\∀B w val,D.den B w x val->D.den B w out val) (fun _ _ _=>False)):aV P f ds (.ret [out]):=by
 refine⟨h.1,fun M w vals hM hd=> ?_⟩
 let cA:Place:=fun _=> .nilFunc
 have tp:∀b, ¬cE cA (hp (fun _=> .no) 0) b:=by rintro b ⟨id,hl,_⟩;simp[hp,ab.live]at hl
 refine(h.2 M cA w vals (lJ cA hM) ((V.cn _ _).2 (D.aQ (w:=w) (w':=w) (B:=M) (fun b _ hB=>⟨rfl,fun h=>h.elim hB (tp b)⟩) _ _ hd))).mono ?_
 rintro e w' ⟨aG,o',nx',v,k1,k2,k3⟩
 have tq:dM (fun _=>False) w w':=⟨k2.keep.os,k2.keep.tape,k2.keep.output,k2.keep.size,fun k hk _=>k2.keep.block k hk (tp k)⟩
 refine⟨tq, ?_⟩
 cases e with
 |outgrown=>exact k3.elim
 |panicked ch=>obtain⟨_,_,_,h⟩:=k3;exact h.elim
 |returned val=>
  obtain⟨g1,x,g2,g3⟩:=k3
  obtain⟨f1,f2,f3,f4,f5⟩:=cO k1 v.ids (fun id aq=>cJ v val g1 id aq)
  have h3:=eC f1 (o:=o') v x val (fun id aq=>f3 id aq) g2 (V.aO f2 _ _ g1)
  exact g3 _ _ _ (D.aO (w:=w') (w':=w') (fun k _ hB=>⟨rfl,fun hM=>hB (.inl hM)⟩) x val h3)
end
@[reducible] def Nn (m:List (Int×Int)):D:= .mp ((enc (D.int .i64) (ints m)).map (·.1)) ((enc (D.int .i64) (ints m)).map (·.2))
theorem uv(m:List (Int×Int)):(((enc (D.int .i64) (ints m)).map (·.1)).zip ((enc (D.int .i64) (ints m)).map (·.2)))=enc (D.int .i64) (ints m):=Qs _ _
def dK(op:Int)(l:List Tm):List (Int×Int):=(l.flatMap gX).foldl (dJ op) []
theorem XW(t:Tm)(ht:t.fits):aV Tryz.prog 136 [t.d] (.ret [Nn (dK 8 [t])]):=by
 refine aV.tK (XU t ht _ _ fm _ _ fun o' nx' id m _ _ _ _ ho hm=> ?_)
 refine⟨_,by simp only[dB,ho];rfl,fun B w val h=> ?_⟩
 have e:m=dK 8 [t]:=by rw[hm];simp[dK]
 rw[<- e];exact h
theorem tL(l:List Tm)(hl:l.length<=1000000)(hf:∀t∈l,t.fits):aV Tryz.prog 135 [.sl (l.map Tm.d)] (.ret [Nn (dK 1 l)]):=by
 refine aV.tK (DE l hl hf _ _ fm _ _ fun o' nx' id m _ _ _ _ ho hm=> ?_)
 refine⟨_,by simp only[dB,ho];rfl,fun B w val h=> ?_⟩
 have e:m=dK 1 l:=hm
 rw[<- e];exact h
theorem zI(o:Nat->ab)(m:List (Int×Int))(v:Int):iE Tryz.prog o 172 (.d (Nn m)) (.d (.int .i64 v)) false=some (.d (.i (gD m v)),[],[]):=by
 cases h:lk m v with
 |none=>
  have e:gD m v=0:=by unfold gD;rw[h];rfl
  rw[e]
  simp+contextual (disch:=first|omega|simp only[go_sem,false_implies]) only[go_sem,wrap64,if_pos,uv,mz h]
 |some c=>
  have e:gD m v=c:=by unfold gD;rw[h];rfl
  obtain⟨j,hj⟩:=my h
  rw[e]
  simp+contextual (disch:=first|omega|simp only[go_sem,false_implies]) only[go_sem,wrap64,if_pos,uv,hj]
theorem wA(l:List Int)(hl:l.length<=1000000)(o:Nat->ab)(fr:Nat):Ar Tryz.prog 76 [.d (.sl (l.map .i))] [] o fr (.osl fr 0) [(fr, .arr 0 3 1 (l.map .i))]:=by
 refine Ar.Mv (ds:=[.sl (l.map .i)]) ?_
 refine cH.aJ mix WL aI ?_
 rw[c76]
 have hu:Tryz.prog.underlying 37=some (.slice 3):=ai
 cases l with
 |nil=>
  have heq:∀O,uA Tryz.prog O 37 true (.d (.sl [])) .aZ=some .ft:=by
   intro O
   unfold uA
   rw[hu]
   rfl
  simp only[List.map_cons,List.map_nil]
  refine jz heq ?_
  simp only[List.isEmpty_nil,if_true]
  refine jz heq ?_
  exact .inl ⟨3,1,rfl,af _ _ _⟩
 |cons a l=>
  have heq:∀O,uA Tryz.prog O 37 true (.d (.sl (D.i a::l.map D.i))) .aZ=some (.d (.bool false)):=by
   intro O
   unfold uA
   rw[hu]
   rfl
  simp only[List.map_cons,List.map_nil]
  refine jz heq ?_
  simp only[List.isEmpty_nil,if_true]
  refine jz heq ?_
  rw[List.length_cons]at hl
  rw[if_pos (by omega)]
  refine a8 ?_
  exact .inl ⟨3,1,rfl,af _ _ _⟩
def XY:List Int->Int->Int->Int
 |[],_,_=> -1
 |x::l,v,k=>if v=x then k else XY l v (k+1)
theorem Np:∀ (l:List Int) (v k:Int),0<=k->(decide (0<=XY l v k)=l.contains v)
 |[],v,k,_=>rfl
 |x::l,v,k,hk=>by
  have ih:=Np l v (k+1) ag
  unfold XY
  by_cases h:v=x
  ·rw[if_pos h];subst h;simp[hk]
  ·rw[if_neg h,ih];simp[List.contains_cons,h]
theorem Nq(l:List Int)(hl:l.length<=1000000)(v:Int):aV Tryz.prog 179 [.sl (l.map .i), .i v] (.ret [.i (XY l v 0)]):=by
 refine aV.aJ mix TS aI ?_
 rw[Xr]
 refine rM ?_
 refine az (fun k:Nat=>⟨aU [.d (.sl (l.map .i)), .d (.i v), .aa, .aa, .aa, .aa, .aa, .d (.i l.length), .d (.i k)],fun _=> .no,1⟩)
  (fun k=>k<=l.length/\XY l v 0=XY (l.drop k) v k) (fun k=>l.length - k) 0 ⟨Nat.zero_le _,rfl⟩ (bt.aT _ (show 0<=1 from ag) ag fm (fun _ _=>rfl) ?_) (fun k hk=> ?_)
 ·exact cz
 obtain⟨hk,u5⟩:=hk
 refine a8 ?_
 refine aj (fun h2=> ?_) (fun h2=> ?_)
 ·simp at h2
  obtain⟨x,hx⟩:=aF h2
  have hd:l.drop k=x::l.drop (k+1):=by
   obtain⟨g1,g2⟩:=List.getElem?_eq_some_iff.1 hx
   exact Lg
  rw[hd]at u5
  simp only[XY]at u5
  refine jz hx ?_
  refine aj (fun h3=> ?_) (fun h3=> ?_)
  ·have mf:v=x:=by simpa using h3
   rw[if_pos mf]at u5
   refine a8 ?_
   rw[u5]
  ·have mf: ¬v=x:=by simpa using h3
   rw[if_neg mf]at u5
   refine a8 ?_
   refine ak (k+1) ⟨h2,u5⟩ ag (bt.aT _ (show 0<=1 from ag) ag fm (fun _ _=>rfl) ?_)
   exact cz
 ·exact Sa
theorem DF(l:List Int)(hl:l.length<=1000000)(v:Int):aV Tryz.prog 163 [.sl (l.map .i), .i v] (.ret [.bool (l.contains v)]):=by
 refine aV.aJ mix TI aI ?_
 rw[Xh]
 refine a8 ?_
 refine aD (Nq l hl v) rfl ?_
 refine a8 ?_
 rw[Np l v 0 (by omega)]
mutual
def A6(m:List (Int×Int)):Tm->List Int->Bool
 | .mk op n kids,ou=>if op=1 then(gD m n==0||ou.contains n)else rk m op n kids 0 ou
def rk(m:List (Int×Int))(op n:Int):List Tm->Nat->List Int->Bool
 |[],_,_=>true
 |k::l,i,ou=>A6 m k (if op=8/\i=1 then ou++[n]else ou)&&rk m op n l (i+1) ou
end
theorem HS(m:List (Int×Int))(t:Tm)(ou:List Int):A6 m t ou=if t.op=1 then(gD m t.n==0||ou.contains t.n)else rk m t.op t.n t.kids 0 ou:=by cases t;rw[A6];rfl
theorem Nr(m:List (Int×Int)):∀t:Tm,t.fits->∀ou:List Int,ou.length+t.nI<=1000000->aV Tryz.prog 137 [t.d,Nn m, .sl (ou.map .i)] (.ret [.bool (A6 m t ou)]):=by
 refine Tm.fy fun t ih hf ou hb=> ?_
 have oU:=(Tm.bZ _).1 hf
 refine aV.aJ mix Tx aI ?_
 rw[W7,HS]
 by_cases h1:t.op=1
 ·have ma:(t.op==1)=true:=by simpa using h1
  rw[if_pos h1]
  cases hc:(gD m t.n==0)with
  |true=>
   simp+contextual (disch:=first|omega|simp only[go_sem,false_implies]) only[go_sem,wrap64,if_pos,ma,zI,hc]
  |false=>
   simp+contextual (disch:=first|omega|simp only[go_sem,false_implies]) only[go_sem,wrap64,if_pos,ma,zI,hc]
   refine aD (DF ou ag t.n) rfl ?_
   exact uX hc
 ·have ma:(t.op==1)=false:=by simpa using h1
  rw[if_neg h1]
  refine oC ma ?_
  refine az (fun k:Nat=>⟨aU [.aa, .d (Nn m), .d (.sl (ou.map .i)), .ptr 0 0, .aa, .aa, .aa, .aa, .aa, .aa, .aa, .aa, .aa, .aa, .aa, .aa, .aa, .aa, .aa, .aa, .aa, .aa, .aa, .aa, .aa, .d (.sl (t.kids.map Tm.d)), .d (.i t.kids.length), .d (.i k)],ax (fun _=> .no) 0 (.row [.d (.i t.op), .d (.i t.n), .d (.sl (t.kids.map Tm.d))]),1⟩)
   (fun k=>k<=t.kids.length/\rk m t.op t.n t.kids 0 ou=rk m t.op t.n (t.kids.drop k) k ou) (fun k=>t.kids.length - k) 0 ⟨Nat.zero_le _,rfl⟩ (bt.aT _ (show 0<=1 from ag) ag fm (fun _ _=>rfl) ?_) (fun k hk=> ?_)
  ·exact cz
  obtain⟨hk,u5⟩:=hk
  have tM:=oU.1
  refine a8 ?_
  refine aj (fun h2=> ?_) (fun h2=> ?_)
  ·simp at h2
   obtain⟨x,hx⟩:=aF h2
   have gf:=List.mem_of_getElem? hx
   have hd:t.kids.drop k=x::t.kids.drop (k+1):=by
    obtain⟨g1,g2⟩:=List.getElem?_eq_some_iff.1 hx
    exact Lg
   have hh:=Tm.qP gf
   rw[hd]at u5
   simp only[rk]at u5
   refine jz hx ?_
   refine aj (fun h3=> ?_) (fun h3=> ?_)
   ·have mf:t.op=8/\k=1:=by
     simp at h3
     exact⟨h3.1,ag⟩
    rw[if_pos mf]at u5
    refine a8 ?_
    refine sB rfl (wA ou ag _ _) ?_
    refine a8 ?_
    refine aH bI ?_
    refine a8 ?_
    have e:List.map D.i ou++[D.i t.n]=(ou++[t.n]).map D.i:=aI
    rw[e]
    refine aD (ih x gf (oU.2 x gf) (ou++[t.n]) gE) rfl ?_
    refine a8 ?_
    cases hs:A6 m x (ou++[t.n])with
    |false=>
     rw[hs,Bool.false_and]at u5
     refine jz hs ?_
     rw[u5]
    |true=>
     exact aaX
   ·have mf: ¬ (t.op=8/\k=1):=by
     simp at h3
     intro⟨h4,h5⟩
     exact h3 h4 ag
    rw[if_neg mf]at u5
    refine a8 ?_
    refine aD (ih x gf (oU.2 x gf) ou ag) rfl ?_
    refine a8 ?_
    cases hs:A6 m x ou with
    |false=>
     rw[hs,Bool.false_and]at u5
     refine jz hs ?_
     rw[u5]
    |true=>
     exact aaX
  ·exact Sa
mutual
def FY(v:Int):Tm->Bool
 | .mk op n kids=>if op=1 then n==v else rl v op n kids 0
def rl(v op n:Int):List Tm->Nat->Bool
 |[],_=>false
 |k::l,i=>(FY v k&& !(op==8&&i==1&&n==v))||rl v op n l (i+1)
end
theorem wB(v:Int)(t:Tm):FY v t=if t.op=1 then t.n==v else rl v t.op t.n t.kids 0:=by cases t;rfl
@[reducible] def Qz (l:List Int):ab:= .map 3 4 (enc (D.int .i64) (nR l))
def uo(l:List Int)(x:Tm×Int):Bool:=(x.1.op !=1&&x.1.op !=3)||(x.1.op==1&&l.contains x.1.n)
def lP(s:List Int×Bool)(x:Tm×Int):List Int×Bool:=(if uo s.1 x=true then s.1 else if x.1.op=1 then A5 s.1 x.1.n else s.1, !uo s.1 x)
def pJ(s:List Int×Bool):Option kj:=if s.2=true then none else some .ret
def xO(t:Tm):Bool:=(aw (zd pJ lP) ([],true) (pre t 1)).2
theorem DG(s:bH)(hs:s.Fits)(t:Tm)(ht:t.Fin):aV Tryz.prog 132 [s.d,t.d] (.ret [.bool (fE s [t]&&xO t), .i (ly (fE s [t]))]):=by
 refine aV.aJ mix Ts aI ?_
 rw[W2]
 refine a8 ?_
 refine aD (HL s hs [t] aI (fun x hx=>by simp at hx;subst hx;exact ht)) rfl ?_
 cases h1:fE s [t]with
 |false=>exact KT
 |true=>
  refine iD ?_
  refine gA (Dy t _ _ _ _ ?_)
  refine iD ?_
  refine tG (σ:=List Int×Bool) t ht.fits ht.nI [.aa, .aa, .aa, .aa, .ptr 2 0, .ptr 3 0, .ptr 10 0] ?_ bI rfl fm oE (af _ _ _)
   (fun b=>ax (ax (ax (ax (ax (ax (ax (ax (fun _=> .no) 0 (.row s.row)) 1 (.row t.row)) 2 (.row [.d (.bool false)])) 3 (.row [.d (.i 0)])) 6 (.arr 0 55 3 [t.d])) 10 (.row [.mp 9])) 13 (.row t.row)) 9 (Qz b.1)) pJ lP (fun _=>True) ([],true) trivial rfl (fun id aq=> ?_) (fun _ _ _ _ _ _=>trivial) ?_ ?_
  ·exact IA
  ·exact OL
  ·intro L hL xX x hx s' h1 h2 o3 n3 hI hn ho K X cL
   simp only[nC]
   have hg:=hI.bn
   have q1:o3 10= .row [.mp 9]:=hI.eq 10 ag
   have q2:o3 9=Qz s'.1:=hI.eq 9 ag
   have q3:o3 2= .row [.d (.bool false)]:=hI.eq 2 ag
   have q4:o3 3= .row [.d (.i 0)]:=hI.eq 3 ag
   refine a8 ?_
   refine lN hL (pd:=none) ?_ ?_
   ·(repeat(first|rfl|rw[af]|rw[ae _ _ _ _ (by omega)]))
    exact ho
   refine xm q1 q2 ?_
   have hv:uo s'.1 x=((x.1.op !=1&&x.1.op !=3)||(x.1.op==1&&s'.1.contains x.1.n)):=rfl
   rw[<- hv]
   have same:∀ (o':Nat->ab) (n':Nat) (l:List Int),Good o' n'->n3<=n'->(∀id,id<17->o' id=ax o3 9 (Qz l) id)->cR 17 (ax (ax (ax (ax (ax (ax (ax (ax (fun _=> .no) 0 (.row s.row)) 1 (.row t.row)) 2 (.row [.d (.bool false)])) 3 (.row [.d (.i 0)])) 6 (.arr 0 55 3 [t.d])) 10 (.row [.mp 9])) 13 (.row t.row)) 9 (Qz l)) o' n':=fun o' n' l k1 k2 k3=>⟨k1,by have:=hI.le;omega,fun id aq=>by
    rw[k3 id aq]
    by_cases e:id=9
    ·subst e;rw[af,af]
    ·rw[ae _ _ _ _ e,ae _ _ _ _ e,hI.eq id aq,ae _ _ _ _ e]⟩
   cases hb:uo s'.1 x with
   |true=>
    have hp:lP s' x=(s'.1,false):=by simp[lP,hb]
    rw[hp]at cL
    refine xm q3 q4 ?_
    refine cL _ _ _ .busy none ag (same _ _ _ fm ag fun id aq=> ?_) fq (fun id h3 h4=>by(repeat(first|rfl|rw[af]|rw[ae _ _ _ _ (by omega)])))
    by_cases e9:id=9
    ·exact RX
    ·by_cases e2:id=2
     ·subst e2;(repeat(first|rfl|rw[af]|rw[ae _ _ _ _ (by omega)]))
      exact q3.symm
     ·by_cases e3:id=3
      ·subst e3;(repeat(first|rfl|rw[af]|rw[ae _ _ _ _ (by omega)]))
       exact q4.symm
      ·exact fq
   |false=>
    refine xm q1 q2 ?_
    refine aj (fun h3=> ?_) (fun h3=> ?_)
    ·have mf:x.1.op=1:=by simpa using h3
     have hp:lP s' x=(A5 s'.1 x.1.n,true):=by simp[lP,hb,mf]
     rw[hp]at cL
     refine xm q1 q2 ?_
     refine cL _ _ _ .busy none ag (same _ _ _ fm ag fun id aq=> ?_) fq (fun id h3 h4=>by(repeat(first|rfl|rw[af]|rw[ae _ _ _ _ (by omega)])))
     by_cases e9:id=9
     ·subst e9;(repeat(first|rfl|rw[af]|rw[ae _ _ _ _ (by omega)]))
     ·exact fq
    ·have mf: ¬x.1.op=1:=by simpa using h3
     have hp:lP s' x=(s'.1,true):=by simp[lP,hb,mf]
     rw[hp]at cL
     refine a8 ?_
     refine cL _ _ _ .busy none ag (same _ _ _ fm ag fun id aq=> ?_) fq (fun id h3 h4=>by(repeat(first|rfl|rw[af]|rw[ae _ _ _ _ (by omega)])))
     by_cases e9:id=9
     ·exact RX
     ·exact fq
  ·intro o' n' hI
   have hJ:=A2 pJ lP (pre t 1) ([],true) rfl
   have hpf:xO t=(pJ (aw (zd pJ lP) ([],true) (pre t 1)).1).isNone:=hJ
   have q0:o' 2= .row [.d (.bool false)]:=hI.eq 2 ag
   have q1:o' 3= .row [.d (.i 0)]:=hI.eq 3 ag
   rw[hpf]
   generalize (aw (zd pJ lP) ([],true) (pre t 1)).1=sf at*
   obtain⟨l,b⟩:=sf
   cases b<;>(simp only[pJ,if_true,if_false,Bool.false_eq_true,px];simp+contextual (disch:=first|omega|simp only[go_sem,false_implies]) only[go_sem,wrap64,if_pos,q0,q1];simp[ly])
structure Rl where
 fn:Int
 aC:List Tm
 rhs:Tm
 vars:Int
@[reducible] def Rl.row (r:Rl):List V:=[.d (.i r.fn), .d (.sl (r.aC.map Tm.d)), .d (.i r.rhs.op), .d (.i r.rhs.n), .d (.sl (r.rhs.kids.map Tm.d)), .d (.i r.vars)]
@[reducible] def Rl.d (r:Rl):D:= .agg [.i r.fn, .sl (r.aC.map Tm.d), .i r.rhs.op, .i r.rhs.n, .sl (r.rhs.kids.map Tm.d), .i r.vars]
structure Rl.Fin (r:Rl):Prop where
 aC:r.aC.length<=1000000
 all:∀t∈r.aC,t.Fin
 rhs:r.rhs.Fin
theorem DH(l:List Tm)(hl:l.length<=9223372036854775807)(g:Nat)(aM:List V)(base:Nat)(h:Nat->ab)(p:Tm->Bool)(hc:∀r∈V.aE aM,r<base)
 (hp:∀x∈l,jg Tryz.prog g (.d x.d::aM) base h h (.d (.bool (p x)))):jg Tryz.prog 133 [.d (.sl (l.map Tm.d)), .func (.func g) [] aM] base h h (.d (.bool (l.all p))):=by
 have:=zj l hl g aM base (fun _:Unit=>h) (fun _ x=>((),p x)) hc (fun _=>True) (fun _ _ _ _ _=>trivial) (fun x hx _ _=>hp x hx) () trivial
 exact Ln
def kU(s:bH)(t:Tm):Bool:=fE s [t]&&xO t
theorem QA(s:bH)(hs:s.Fits)(t:Tm)(ht:t.Fin)(base sp:Nat)(h:Nat->ab)(EB:h sp= .row s.row)(hb:sp<base):jg Tryz.prog 131 [.d t.d, .ptr sp 0] base h h (.d (.bool (kU s t))):=by
 intro o nx hI K X hK
 have hle:=hI.le
 have hg:=hI.bn
 have q0:o sp= .row s.row:=by rw[hI.eq sp hb,EB]
 refine cH.aJ mix Tq aI ?_
 rw[W1]
 refine jz q0 ?_
 refine aD (DG s hs t ht) rfl ?_
 cases hr:fE s [t]with
 |false=>
  have e:kU s t=false:=by simp[kU,hr]
  exact aa0
 |true=>
  have e:kU s t=xO t:=by simp[kU,hr]
  exact aa0
end Go.Proofs.YtnkamdiiakdkgaaGreat
