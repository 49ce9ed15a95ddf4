/-
  A PART OF THE PROOF. Conditions: none.
-/
import Derived.Test.YtnkamdiiakdkgaaGreatEt16
set_option linter.unusedSimpArgs false
set_option linter.unusedVariables false
namespace Go.Proofs.YtnkamdiiakdkgaaGreat
def kH(ok:Bool):Int:=if ok=true then 0 else 2
@[reducible] def G0 (s:bC) (bs:List (List UInt8)):Nat->ab:=aD (aD (aD (fun _=> .no) 0 (.row s.row)) 3 (.row [.mp 2])) 2 (.map 9 4 (enc .str (oI bs)))
theorem uM(s:bC)(hs:s.Fits):aV Tryz.prog 97 [s.d] (.ret [.i (kH (iY s))]):=by
 refine aV.aF mix ZQ aJ ?_
 rw[c97]
 refine od ?_
 refine ay (fU _ _ _) rfl ?_
 refine od ?_
 cases h1:(!dE s.cons.length 2 12||decide (8<(s.bG.length:Int)))with
 |true=>
  have:iY s=false:=by simp only[iY,h1,if_true]
  refine gX h1 ?_
  simp[this,kH]
 |false=>
  have O6:=oJ s.cons []
  have abj:∀ (l:List iT),(∀x∈l,x.name.length<=9223372036854775807)->∀x∈l,∀bs,True->iN Tryz.prog 125 (.d x.d::[.ptr 3 0]) 4 (G0 s bs) (G0 s (gW bs x).1) (.d (.bool (gW bs x).2)):=fun l hl x hx bs _=>
   Uu x (hl x hx) 4 3 2 (aD (aD (fun _=> .no) 0 (.row s.row)) 3 (.row [.mp 2])) (af _ _ _) ae ae ae bs
  simp[dE]at h1
  obtain⟨a,b,r,hc⟩:∃a b r,s.cons=a::b::r:=by
   match h:s.cons with
   |[]=>exact D1
   |[a]=>exact D1
   |a::b::r=>exact⟨a,b,r,rfl⟩
  have oS:(!dE s.cons.length 2 12||decide (8<(s.bG.length:Int)))=false:=by simp[dE];omega
  have GR:iY s=if(!lZ a fB|| !lZ b tB)=true then false else match bN s.cons []with
   |none=>false
   |some l=>(bN s.bG l).isSome:=by
   unfold iY
   rw[if_neg (by rw[oS];exact Bool.false_ne_true),hc]
   dsimp only
   rfl
  refine gX oS ?_
  refine bd (BJ s.cons hs.lc 125 [.ptr 3 0] 4 (G0 s) gW nF (fun _=>True) (fun _ _ _ _ _=>trivial) (abj s.cons hs.nc) [] trivial _ _ ⟨?_,ae,fun id au=> ?_⟩ _ _ fun o2 n2 m1 m2 m3=> ?_)
  ·exact ff
  ·rcases(by omega:id=0\/id=1\/id=2\/id=3)with rfl|rfl|rfl|rfl<;>rfl
  have p0:∀ {bs:List (List UInt8)} {o:Nat->ab} {n:Nat},cG 4 (G0 s bs) o n->o 0= .row s.row:=fun h=>h.eq 0 ae
  have p3:∀ {bs:List (List UInt8)} {o:Nat->ab} {n:Nat},cG 4 (G0 s bs) o n->o 3= .row [.mp 2]:=fun h=>h.eq 3 ae
  cases hn:bN s.cons []with
  |none=>
   rw[hn]at O6
   simp only at O6
   rw[O6]
   refine od ?_
   rw[GR,hn]
   split<;>rfl
  |some B=>
   rw[hn]at O6
   simp only at O6
   rw[O6]at m2|-
   simp+contextual (disch:=first|omega|simp only[go_sem,false_implies]) only[go_sem,wrap64,if_pos,Nat.add_assoc,Nat.left_eq_add,Nat.add_eq_left,Nat.add_left_cancel_iff,p0 m2]
   refine bd (BJ s.bG hs.lf 125 [.ptr 3 0] 4 (G0 s) gW nF (fun _=>True) (fun _ _ _ _ _=>trivial) (abj s.bG hs.nf) B trivial _ _ (m2.mono ae) _ _ fun o4 n4 k1 k2 k3=> ?_)
   have ID:=oJ s.bG B
   cases hf:bN s.bG B with
   |none=>
    rw[hf]at ID
    simp only at ID
    rw[ID]
    refine od ?_
    rw[GR,hn]
    simp only[hf]
    split<;>rfl
   |some C=>
    rw[hf]at ID
    simp only at ID
    rw[ID]at k2|-
    simp+contextual (disch:=first|omega|simp only[go_sem,false_implies]) only[go_sem,wrap64,if_pos,Nat.add_assoc,Nat.left_eq_add,Nat.add_eq_left,Nat.add_left_cancel_iff,p0 k2,hc]
    have QL:iY s= !(!lZ a fB|| !lZ b tB):=by
     rw[GR,hn];simp only[hf]
     cases(!lZ a fB|| !lZ b tB)<;>rfl
    refine ai (fun h5=> ?_) (fun h5=> ?_)
    ·refine aY ?_
     have zI:(!lZ a fB|| !lZ b tB)=true:=h5
     rw[QL,zI];rfl
    ·refine aY ?_
     have zI:(!lZ a fB|| !lZ b tB)=false:=h5
     rw[QL,zI];rfl
def fe(s:bC)(l:List Tm):Bool:=iY s&&l.all (lM s)
theorem ni{α:Type}(p:α->Bool):∀ (l:List α) (u:Unit),aq (fun _ x=>((),p x)) u l=((),l.all p)
 |[],_=>rfl
 |x::l,u=>by
  simp only[aq,List.all_cons,ni p l]
  cases p x<;>rfl
theorem Dv(l:List Tm)(hl:l.length<=9223372036854775807)(g:Nat)(aP:List V)(base:Nat)(h:Nat->ab)(p:Tm->Bool)(hc:∀r∈V.aE aP,r<base)
 (hp:∀x∈l,iN Tryz.prog g (.d x.d::aP) base h h (.d (.bool (p x)))):iN Tryz.prog 171 [.d (.sl (l.map Tm.d)), .func (.func g) [] aP] base h h (.d (.bool (l.all p))):=by
 have:=BE l hl g aP base (fun _:Unit=>h) (fun _ x=>((),p x)) hc (fun _=>True) (fun _ _ _ _ _=>trivial) (fun x hx _ _=>hp x hx) () trivial
 exact Ij
structure Tm.Fin (t:Tm):Prop where
 fits:t.fits
 mN:t.mN<=900000
theorem Kk(s:bC)(hs:s.Fits)(t:Tm)(ht:t.Fin)(base sp:Nat)(h:Nat->ab)(Cq:h sp= .row s.row)(hb:sp<base):iN Tryz.prog 172 [.d t.d, .ptr sp 0] base h h (.d (.bool (lM s t))):=by
 intro o nx hI K X hK
 have hle:=hI.le
 have hg:=hI.bz
 have q0:o sp= .row s.row:=by rw[hI.eq sp hb,Cq]
 refine cX.aF mix Qr aJ ?_
 rw[T1]
 refine gX q0 ?_
 refine ay (Kh s hs t ht.fits ht.mN) rfl ?_
 exact Xw
theorem E6(s:bC)(hs:s.Fits)(l:List Tm)(hl:l.length<=9223372036854775807)(hf:∀t∈l,t.Fin):aV Tryz.prog 159 [s.d, .sl (l.map Tm.d)] (.ret [.bool (fe s l)]):=by
 refine aV.aF mix Ql aJ ?_
 rw[TV]
 refine aY ?_
 refine ay (uM s hs) rfl ?_
 cases h1:iY s with
 |false=>
  refine FH ?_
  simp[fe,h1]
 |true=>
  refine FH ?_
  refine bd (Dv l hl 172 [.ptr 0 0] 1 (aD (fun _=> .no) 0 (.row s.row)) (lM s) nF (fun x hx=>Kk s hs x (hf x hx) 1 0 _ (af _ _ _) ae) _ _ ⟨ff,ae,fun id au=>rfl⟩ _ _ fun o2 n2 m1 m2 m3=> ?_)
  refine aY ?_
  simp[fe,h1]
theorem Nn(s:bC)(hs:s.Fits)(t:Tm)(ht:t.Fin):aV Tryz.prog 134 [s.d,t.d] (.ret [.i (kH (fe s [t]))]):=by
 refine aV.aF mix Qe aJ ?_
 rw[TO]
 refine aY ?_
 refine ay (E6 s hs [t] aJ (fun x hx=>by simp at hx;subst hx;exact ht)) rfl ?_
 cases h1:fe s [t]with
 |false=>exact HQ
 |true=>exact HQ
def Tm.BK (t:Tm):Int:=(pre t 1).length
structure Tm.Dw (t:Tm):Prop extends t.Fin where
 size:t.BK<=1000000
theorem Tm.Fin.kid {t k:Tm}(h:t.Fin)(hk:k∈t.kids):k.Fin:=⟨((Tm.bR _).1 h.fits).2 k hk,by have:=Tm.pP hk;have:=h.mN;omega⟩
theorem rU:∀ (t:Tm) (d d':Int),(pre t d).length=(pre t d').length:=by
 refine Tm.eY fun t ih d d'=> ?_
 rw[jy,jy]
 simp only[List.length_cons,List.length_flatMap]
 congr 2
 exact List.map_congr_left fun k hk=>ih k hk _ _
theorem Tm.G1 {t k:Tm}(hk:k∈t.kids):k.BK+1<=t.BK:=by
 simp only[Tm.BK]
 rw[jy t,rU k 1 (1+1)]
 simp only[List.length_cons,List.length_flatMap]
 have:∀ (l:List Tm),k∈l->(pre k (1+1)).length<=(l.map fun k=>(pre k (1+1)).length).sum:=by
  intro l
  induction l with
  |nil=>intro h;cases h
  |cons x l ih=>
   intro h
   rcases List.mem_cons.1 h with rfl|h
   ·simp only[List.map_cons,List.sum_cons];omega
   ·have:=ih h;simp only[List.map_cons,List.sum_cons];omega
 have:=this _ hk
 omega
theorem Tm.Dw.kid {t k:Tm}(h:t.Dw)(hk:k∈t.kids):k.Dw:=⟨h.toFin.kid hk,by have:=Tm.G1 hk;have:=h.size;omega⟩
def Tm.sz (t:Tm):Nat:=(pre t 1).length
def iH(l:List Tm):Nat:=(l.map Tm.sz).sum
theorem Tm.p6 (t:Tm):t.BK=(t.sz:Int):=rfl
theorem Tm.p7 (t:Tm):t.sz=1+iH t.kids:=by
 unfold Tm.sz iH
 rw[jy,List.length_cons,List.length_flatMap,Nat.add_comm]
 congr 2
 exact List.map_congr_left fun k hk=>rU k _ _
theorem Tm.QM (op n:Int)(l:List Tm):(Tm.mk op n l).sz=1+iH l:=Tm.p7 _
theorem jG(k:Tm)(l:List Tm):iH (k::l)=k.sz+iH l:=by simp[iH]
theorem xc(k:Tm)(l:List Tm):Tm.lK (k::l)=Nat.max k.mN (Tm.lK l):=by simp[Tm.lK]
theorem sX:∀ (l:List Tm) (n:Nat),Tm.lK l<=n↔∀k∈l,k.mN<=n
 |[],n=>by simp[Tm.lK]
 |x::l,n=>by
  rw[xc]
  simp only[List.mem_cons,forall_eq_or_imp, <- sX l n]
  exact Nat.max_le
theorem Tm.Dx (t:Tm):t.mN=1+Tm.lK t.kids:=by cases t;simp[Tm.mN,Tm.kids]
theorem G2:∀t:Tm,∀left depth:Int,iu t left depth=if(t.sz:Int)<=left/\(t.mN:Int)<=depth then left - t.sz else -1:=by
 refine Tm.eY fun t ih left depth=> ?_
 have hs:∀ (l:List Tm) (left d:Int),(∀k∈l,k∈t.kids)->0<=left->0<=d->b9 l left d=if(iH l:Int)<=left/\(Tm.lK l:Int)<=d then left - iH l else -1:=by
  intro l
  induction l with
  |nil=>intro left d _ h1 h2;simp[b9,iH,Tm.lK,h1,h2]
  |cons k l uH=>
   intro left d hk h1 h2
   simp only[b9,if_pos h1]
   rw[ih k (hk k (by simp))]
   have hm:(Tm.lK (k::l):Int)<=d↔(k.mN:Int)<=d/\(Tm.lK l:Int)<=d:=by
    have:= @Nat.max_le k.mN (Tm.lK l) d.toNat
    have e:Tm.lK (k::l)=max k.mN (Tm.lK l):=xc k l
    rw[e];omega
   simp only[jG,hm]
   by_cases hc:(k.sz:Int)<=left/\(k.mN:Int)<=d
   ·rw[if_pos hc,uH _ _ (fun x hx=>hk x (by simp[hx])) (by omega) h2]
    by_cases tC:(iH l:Int)<=left - k.sz/\(Tm.lK l:Int)<=d
    ·rw[if_pos tC,if_pos (by omega)];omega
    ·rw[if_neg tC,if_neg (by omega)]
   ·rw[if_neg hc,oH (by omega),if_neg (by omega)]
 rw[BA,Tm.p7,Tm.Dx]
 by_cases h:left<1\/depth<1
 ·rw[if_pos h,if_neg (by omega)]
 ·rw[if_neg h,hs _ _ _ (fun _ h=>h) (by omega) (by omega)]
  by_cases hc:(iH t.kids:Int)<=left - 1/\(Tm.lK t.kids:Int)<=depth - 1
  ·rw[if_pos hc,if_pos (by omega)];omega
  ·rw[if_neg hc,if_neg (by omega)]
theorem uN(t:Tm)(left depth:Int):0<=iu t left depth↔(t.sz:Int)<=left/\(t.mN:Int)<=depth:=by
 rw[G2];split<;>omega
theorem uO(t:Tm):kE t=true↔t.sz<=50/\t.mN<=14:=by
 simp only[kE,decide_eq_true_eq,uN];omega
theorem G3:∀ (t:Tm) (d m:Int),(∀x∈pre t d,x.2<=m)↔d+t.mN - 1<=m:=by
 refine Tm.eY fun t ih d m=> ?_
 rw[jy,Tm.Dx]
 simp only[List.mem_cons,forall_eq_or_imp,List.mem_flatMap]
 have h1:(∀x:Tm×Int,(∃k,k∈t.kids/\x∈pre k (d+1))->x.2<=m)↔∀k∈t.kids,d+1+k.mN - 1<=m:=by
  constructor
  ·intro h k hk
   exact(ih k hk _ _).1 fun x hx=>h x ⟨k,hk,hx⟩
  ·rintro h x ⟨k,hk,hx⟩
   exact(ih k hk _ _).2 (h k hk) x hx
 rw[h1]
 constructor
 ·rintro⟨h2,h3⟩
  have:=(sX t.kids (m - d).toNat).2 fun k hk=>by have:=h3 k hk;omega
  omega
 ·intro h
  have:=(sX t.kids (m - d).toNat).1 ae
  exact⟨ae,fun k hk=>by have:=this k hk;omega⟩
theorem E7(p:Tm->Bool):∀ (t:Tm) (d:Int),(pre t d).all (fun x=>p x.1)=(p t&&t.kids.all fun k=>(pre k (d+1)).all fun x=>p x.1):=by
 intro t d
 rw[jy,List.all_cons,List.all_flatMap]
theorem uP(s:bC):∀ (t:Tm) (d:Int),jA s t=(pre t d).all fun x=>bn s x.1:=by
 refine Tm.eY fun t ih d=> ?_
 rw[E7 (bn s),qW]
 congr 1
 exact ON
theorem Kl{s:bC}{t:Tm}(h:bn s t=true):dE t.op 1 15=true:=by
 rw[show dE t.op 1 15=true↔1<=t.op/\t.op<=15 by simp[dE]]
 by_cases h6:dE t.op 6 15=true
 ·simp[dE]at h6;omega
 ·simp only[bn,if_neg h6]at h
  by_cases h1:t.op=1
  ·omega
  by_cases h2:t.op=2
  ·omega
  by_cases h3:t.op=3
  ·omega
  by_cases h4:t.op=4
  ·omega
  by_cases h5:t.op=5
  ·omega
  by_cases h8:t.op=8
  ·omega
  rw[if_neg h1,if_neg h2,if_neg h3,if_neg h4,if_neg h5,if_neg h8]at h
  cases h
def uQ(s:bC)(x:Tm×Int):Bool:= !(decide (12<x.2)|| !dE x.1.op 1 15|| !bn s x.1)
theorem rV(s:bC):∀ (l:List (Tm×Int)) (n:Int) (b:Bool),(aq (w8 fJ (gv s)) (n,b) l).2=(decide (l=[]\/n+l.length<=40)&&l.all (uQ s))
 |[],n,b=>by simp[aq]
 |x::l,n,b=>by
  have e1:∀c,nN s n x=c->w8 fJ (gv s) (n,b) x=((n+1, !c), !c):=fun c hc=>by show((n+1, !nN s n x),(fJ (n+1, !nN s n x)).isNone)=_;rw[hc];cases c<;>rfl
  have hb:nN s n x=(decide (40<n+1)|| !uQ s x):=by simp[nN,uQ,Bool.or_assoc]
  rw[List.all_cons]
  cases hg:uQ s x with
  |false=>
   have e:nN s n x=true:=by rw[hb,hg];simp
   rw[aq,e1 _ e];simp
  |true=>
   by_cases h40:40<n+1
   ·have:decide (x::l=[]\/n+(x::l).length<=40)=false:=by simp;omega
    have e:nN s n x=true:=by rw[hb];simp[h40]
    rw[this,Bool.false_and,aq,e1 _ e];simp
   ·have e:nN s n x=false:=by rw[hb,hg];simp;omega
    rw[aq,e1 _ e]
    simp only[Bool.not_false,if_true,rV s l,Bool.true_and]
    congr 1
    cases l with
    |nil=>simp;omega
    |cons y l=>simp;omega
theorem Dy(s:bC)(t:Tm):lM s t=fj s t:=by
 rw[lM,rV,fj,uP s t 1,Bool.eq_iff_iff]
 have hn:pre t 1≠[]:=by rw[jy];simp
 simp only[Bool.and_eq_true,decide_eq_true_eq,hn,false_or,uN,List.all_eq_true]
 have hd:=G3 t 1 12
 constructor
 ·rintro⟨h1,h2⟩
  have h3:∀x∈pre t 1,x.2<=12:=fun x hx=>by have:=h2 x hx;simp[uQ]at this;omega
  have:=hd.1 h3
  exact⟨⟨by unfold Tm.sz;omega,ae⟩,fun x hx=>by have:=h2 x hx;simp[uQ]at this;exact this.2⟩
 ·rintro⟨⟨h1,h2⟩,h3⟩
  have h4:=hd.2 ae
  refine⟨by unfold Tm.sz at h1;omega,fun x hx=> ?_⟩
  have h5:=h4 x hx
  have h6:=h3 x hx
  have h7:=Kl h6
  simp[uQ,h6,h7];omega
def pnF(s:bC)(t:Tm):Bool:=
 let k:Int:=t.kids.length
 if t.op=16 then t.n==0&&k==0
 else if t.op=1 then dE t.n 0 199&&k==0
 else if t.op=2 then dE t.n (-1000000) 1000000&&k==0
 else if t.op=3 then dE t.n 0 (s.cons.length - 1)&&k==fD s.cons t.n
 else if t.op=5 then dE t.n 0 (s.bG.length - 1)&&decide (k<fD s.bG t.n)
 else false
mutual
def G4(s:bC):Tm->Bool
 | .mk op n kids=>E8 s kids&&pnF s (.mk op n kids)
def E8(s:bC):List Tm->Bool
 |[]=>true
 |k::l=>G4 s k&&E8 s l
end
theorem xd(s:bC):∀l:List Tm,E8 s l=l.all (G4 s)
 |[]=>rfl
 |k::l=>by rw[E8,xd s l];rfl
theorem Np(s:bC)(t:Tm):G4 s t=(t.kids.all (G4 s)&&pnF s t):=by cases t;rw[G4,xd];rfl
def Pn(s:bC)(t:Tm):Prop:=G4 s t=true
theorem Km{s:bC}{t:Tm}:Pn s t↔pnF s t=true/\∀k∈t.kids,Pn s k:=by
 unfold Pn;rw[Np,Bool.and_eq_true,List.all_eq_true];exact and_comm
theorem Pn.kid {s:bC}{t k:Tm}(h:Pn s t)(hk:k∈t.kids):Pn s k:=(Km.1 h).2 k hk
theorem Nq{s:bC}{t:Tm}(h:pnF s t=true)(h1:t.op=16\/t.op=1\/t.op=2):t.kids=[]/\(t.op=16->t.n=0):=by
 unfold pnF at h
 rcases h1 with h1|h1|h1
 ·simp[h1]at h;exact⟨h.2,fun _=>h.1⟩
 ·simp[h1]at h;exact⟨h.2,fun e=>ae⟩
 ·simp[h1]at h;exact⟨h.2,fun e=>ae⟩
theorem Pn.bare {s:bC}{t:Tm}(h:Pn s t)(h1:t.op=16\/t.op=1\/t.op=2):t.kids=[]:=(Nq (Km.1 h).1 h1).1
def vI{σ:Type}(step:σ->Tm->σ×Bool):σ->List Tm->Int->Int
 |_,[],_=> -1
 |s,x::l,k=>if(step s x).2=true then vI step (step s x).1 l (k+1)else k
theorem E9{σ:Type}(step:σ->Tm->σ×Bool):∀ (l:List Tm) (s:σ) (k:Int),0<=k->(0<=vI step s l k↔(aq step s l).2=false)
 |[],_,_,_=>by simp[vI,aq]
 |x::l,s,k,hk=>by
  have ih:=E9 step l (step s x).1 (k+1) ae
  by_cases h:(step s x).2=true
  ·simp only[vI,aq,h,if_true];exact ih
  ·simp[vI,aq,h,hk]
theorem Uv{σ:Type}(l:List Tm)(hl:l.length<=9223372036854775807)(g:Nat)(aP:List V)(base:Nat)(H:σ->Nat->ab)(step:σ->Tm->σ×Bool)(hc:∀r∈V.aE aP,r<base)(ok:σ->Prop)(aS:∀x∈l,∀s,ok s->(step s x).2=true->ok (step s x).1)
 (h:∀x∈l,∀s,ok s->iN Tryz.prog g (.d x.d::aP) base (H s) (H (step s x).1) (.d (.bool (!(step s x).2)))) (s:σ) (iq:ok s):
 iN Tryz.prog 150 [.d (.sl (l.map Tm.d)), .func (.func g) [] aP] base (H s) (H (aq step s l).1) (.d (.i (vI step s l 0))):=by
 intro o nx hI K X hK
 have il:∀r∈V.aE aP,r<nx:=fun r hr=>Nat.lt_of_lt_of_le (hc r hr) hI.le
 refine cX.aF mix Qj aJ ?_
 rw[TT]
 refine cI ?_
 refine aB (fun i:Nat×σ×(Nat->ab)×Nat=>⟨a7 [.d (.sl (l.map Tm.d)), .func (.func g) [] aP, .aa, .aa, .aa, .aa, .aa, .d (.i l.length), .d (.i i.1)],i.2.2.1,i.2.2.2⟩)
  (fun i=>i.1<=l.length/\cG base (H i.2.1) i.2.2.1 i.2.2.2/\nx<=i.2.2.2/\(∀id,base<=id->id<nx->i.2.2.1 id=o id)/\aq step s l=aq step i.2.1 (l.drop i.1)/\ok i.2.1/\vI step s l 0=vI step i.2.1 (l.drop i.1) i.1) (fun i=>l.length - i.1) (0,s,o,nx)
  ⟨Nat.zero_le _,hI,Nat.le_refl _,fun _ _ _=>rfl,rfl,iq,rfl⟩ ?_ ?_
 ·exact Xp
 rintro⟨k,s',o',nx'⟩ ⟨hk,sH,hn,cL,hf,hY,tg⟩
 simp only at hk sH hn cL hf hY tg
 refine cI ?_
 refine ai (fun h1=> ?_) (fun h1=> ?_)
 ·simp at h1
  obtain⟨x,hx⟩:=aL h1
  have iK:=List.mem_of_getElem? hx
  have hd:l.drop k=x::l.drop (k+1):=by
   exact Vj
  rw[hd]at hf tg
  simp only[aq,vI]at hf tg
  refine HL hx ?_
  refine dD (h x iK s' hY _ _ (sH.mono ae) _ _ fun o2 n2 m1 m2 m3=> ?_)
  cases hb:(step s' x).2 with
  |true=>
   rw[hb]at hf tg
   simp only[if_true]at hf tg
   refine aY ?_
   have E3:∀r∈V.aE aP,r<n2+1+1:=fun r hr=>by have:=il r hr;omega
   exact zw0
  |false=>
   exact RD
 ·exact RF
theorem rW{σ:Type}(l:List Tm)(hl:l.length<=9223372036854775807)(g:Nat)(aP:List V)(base:Nat)(H:σ->Nat->ab)(step:σ->Tm->σ×Bool)(hc:∀r∈V.aE aP,r<base)(ok:σ->Prop)(aS:∀x∈l,∀s,ok s->(step s x).2=true->ok (step s x).1)
 (h:∀x∈l,∀s,ok s->iN Tryz.prog g (.d x.d::aP) base (H s) (H (step s x).1) (.d (.bool (!(step s x).2)))) (s:σ) (iq:ok s):
 iN Tryz.prog 106 [.d (.sl (l.map Tm.d)), .func (.func g) [] aP] base (H s) (H (aq step s l).1) (.d (.bool (!(aq step s l).2))):=by
 intro o nx hI K X hK
 have il:∀r∈V.aE aP,r<nx:=fun r hr=>Nat.lt_of_lt_of_le (hc r hr) hI.le
 refine cX.aF mix PW aJ ?_
 rw[TC]
 refine od ?_
 refine bd (Uv l hl g aP base H step hc ok aS h s iq _ _ ?_ _ _ fun o2 n2 m1 m2 m3=> ?_)
 ·exact D2
 refine od ?_
 have e:decide (0<=vI step s l 0)= !(aq step s l).2:=by
  have:=E9 step l s 0 ae
  exact RU
 rw[e]
 exact LR
section
theorem abk{x:Tm}{g:Nat}{aP:List V}{base c bx:Nat}{h h2 O:Nat->ab}{r:Bool}(hS:iN Tryz.prog g (.d x.d::aP) base h h2 (.d (.bool r)))(hb:base<=bx)(Lu:bx<c)(hO:O bx= .row [.func (.func g) [] aP])(hc:∀r∈V.aE aP,r<base):
 iN Tryz.prog 161 [.d x.d, .ptr bx 0] c (ext base h O) (ext base h2 O) (.d (.bool (!r))):=by
 intro o nx hI K X hK
 have hle:=hI.le
 have il:∀r∈V.aE aP,r<nx:=fun r hr=>by have:=hc r hr;omega
 have ho:o bx= .row [.func (.func g) [] aP]:=by
  exact Rv
 have y1:∀k,bx≠nx+k:=fun k=>ae
 have y2:bx≠nx:=ae
 refine cX.aF mix Qn aJ ?_
 rw[TX]
 refine LK ho y1 y2 ?_
 refine dD ((hS.ext (by omega:base<=c) O) _ _ ?_ _ _ fun o2 n2 m1 m2 m3=> ?_)
 ·exact hI.aD ae ae ae rfl
 refine od ?_
 exact WV
theorem xe{σ:Type}(l:List Tm)(hl:l.length<=9223372036854775807)(g:Nat)(aP:List V)(base:Nat)(H:σ->Nat->ab)(step:σ->Tm->σ×Bool)(hc:∀r∈V.aE aP,r<base)(ok:σ->Prop)(aS:∀x∈l,∀s,ok s->(step s x).2=true->ok (step s x).1)
 (h:∀x∈l,∀s,ok s->iN Tryz.prog g (.d x.d::aP) base (H s) (H (step s x).1) (.d (.bool (step s x).2))) (s:σ) (iq:ok s):
 iN Tryz.prog 133 [.d (.sl (l.map Tm.d)), .func (.func g) [] aP] base (H s) (H (aq step s l).1) (.d (.bool (aq step s l).2)):=by
 intro o nx hI K X hK
 have hle:=hI.le
 have il:∀r∈V.aE aP,r<nx:=fun r hr=>Nat.lt_of_lt_of_le (hc r hr) hI.le
 refine cX.aF mix Qd aJ ?_
 rw[TN]
 refine od ?_
 refine bd (rW l hl 161 [.ptr nx 0] (nx+1) (fun s=>ext base (H s) (aD o nx (.row [.func (.func g) [] aP]))) step nF ok aS (fun x hx s hs=>abk (h x hx s hs) hle ae (af _ _ _) hc) s iq _ _ ?_ _ _ fun o2 n2 m1 m2 m3=> ?_)
 ·have hr:(ab.row [V.func (.func g) [] aP]).refs.all (fun r=>decide (r<nx+4))=true:=by
   rw[List.all_eq_true]
   intro r hr
   have h1:r∈V.aE aP:=by simpa[ab.refs,V.aE,V.refs]using hr
   have:=il r h1
   simp;omega
  exact Ri
 refine od ?_
 refine hK _ _ ae ⟨(m2.mono ae).bz,by have:=m2.le;omega,fun id au=> ?_⟩ fun id i1 i2=> ?_
 ·exact FN
 ·exact Re
mutual
def gz:Tm->List Tm
 | .mk op n kids=> .mk op n kids::Nr kids
def Nr:List Tm->List Tm
 |[]=>[]
 |k::l=>gz k++Nr l
end
theorem xf:∀l:List Tm,Nr l=l.flatMap gz
 |[]=>rfl
 |k::l=>by rw[Nr,xf l];rfl
theorem m5(t:Tm):gz t=t::t.kids.flatMap gz:=by cases t;rw[gz,xf];rfl
section
variable {σ:Type}(base m4:Nat)(H:σ->Nat->ab)(step:σ->Tm->σ×Bool)(ok:σ->Prop)
theorem Kn:∀t:Tm,t.fits->(∀x∈gz t,∀s,ok s->(step s x).2=true->ok (step s x).1)->(∀x∈gz t,∀s,ok s->Wk Tryz.prog m4 [.d x.d] base (H s) (H (step s x).1) (.d (.bool (step s x).2)))->m4<base->
 ∀ (c:Nat) (o0:Nat->ab) (yb vb:Nat),base<=c->base<=yb->yb<c->base<=vb->vb<c->o0 yb= .row [.iW m4]->o0 vb= .row [.func (.func 178) [] [.ptr yb 0, .ptr vb 0]]->
 ∀s,ok s->iN Tryz.prog 178 [.d t.d, .ptr yb 0, .ptr vb 0] c (ext base (H s) o0) (ext base (H (aq step s (gz t)).1) o0) (.d (.bool (aq step s (gz t)).2)):=by
 refine Tm.eY fun t ih hf aS hR uJ c o0 yb vb Lu LG hy LH hv oy ov s iq=> ?_
 have nX:=(Tm.bR _).1 hf
 intro o nx hI K X hK
 have hle:=hI.le
 have Nd:o yb= .row [.iW m4]:=by rw[hI.eq yb hy];unfold ext;rw[if_neg (by omega),oy]
 have Nf:o vb= .row [.func (.func 178) [] [.ptr yb 0, .ptr vb 0]]:=by rw[hI.eq vb hv];unfold ext;rw[if_neg (by omega),ov]
 have y1:yb≠nx:=ae
 have y2:∀k,yb≠nx+k:=fun k=>ae
 have y3:vb≠nx:=ae
 have y4:∀k,vb≠nx+k:=fun k=>ae
 refine cX.aF mix Qx aJ ?_
 rw[T7]
 simp+contextual only[go_sem,Nd,Nf,y1,y2,y3,y4,Nat.add_assoc,Nat.left_eq_add,Nat.add_eq_left,Nat.add_left_cancel_iff]
 have sd:=m5 t
 have jP:∀k∈t.kids,∀x∈gz k,x∈gz t:=fun k hk x hx=>by
  exact Of
 have hb:∀id,id<base->o id=H s id:=fun id au=>by rw[hI.eq id (by omega)];unfold ext;rw[if_pos au]
 have hIb:cG base (H s) o nx:=⟨hI.bz,ae,hb⟩
 refine mZ (hR t zY s iq _ _ (hIb.aD (i:=nx) (m:=nx+4) ae ae ae rfl) _ _ fun o2 n2 m1 m2 m3=> ?_)
 have k0:o2 nx= .row t.row:=by rw[m3 nx (by omega) (by omega),af]
 have hold:∀id,base<=id->id<nx->o2 id=o id:=fun id h1 h2=>by rw[m3 id h1 (by omega),ah _ _ _ _ (by omega)]
 have Cv:∀id,base<=id->id<c->o id=o0 id:=fun id h1 h2=>by rw[hI.eq id h2];unfold ext;rw[if_neg (by omega)]
 cases BF:(step s t).2 with
 |false=>
  refine jN BF ?_
  have w7:aq step s (gz t)=((step s t).1,false):=by rw[sd,aq,if_neg (by rw[BF];exact Bool.false_ne_true)]
  rw[w7]at hK
  refine hK _ _ ae ⟨m2.bz.mono ae,ae,fun id au=> ?_⟩ (fun id h1 h2=>hold id ae h2)
  unfold ext
  split
  ·exact m2.eq id oX
  ·exact HT
 |true=>
  have w7:aq step s (gz t)=aq (fun s k=>aq step s (gz k)) (step s t).1 t.kids:=by rw[sd,aq,if_pos BF,uI]
  have q0:o2 yb= .row [.iW m4]:=by rw[hold yb LG (by omega),Nd]
  have q1:o2 vb= .row [.func (.func 178) [] [.ptr yb 0, .ptr vb 0]]:=by rw[hold vb LH (by omega),Nf]
  simp+contextual only[go_sem,BF,k0,q1]
  have m0:=m2.le
  refine bd (xe t.kids nX.1 178 [.ptr yb 0, .ptr vb 0] n2 (fun s=>ext base (H s) o2) (fun s k=>aq step s (gz k)) ?_ ok ?_ ?_ (step s t).1 (aS t zY s iq BF) _ _ ?_ _ _ ?_)
  ·simp[V.aE,V.refs];omega
  ·exact Xc
  ·intro k hk s' jQ
   exact ih k hk (nX.2 k hk) (fun x hx=>aS x (jP k hk x hx)) (fun x hx=>hR x (jP k hk x hx)) uJ n2 o2 yb vb ae LG ae LH ae q0 q1 s' jQ
  ·exact(m2.mono ae).ext ae ae
  ·intro o5 n5 p1 p2 p3
   refine cI ?_
   rw[<- w7]
   refine hK _ _ ae ⟨p2.bz.mono ae,ae,fun id au=> ?_⟩ (fun id h1 h2=> ?_)
   ·rw[p2.eq id (by omega), <- w7]
    unfold ext
    split
    ·rfl
    ·exact HT
   ·exact OI
theorem G5(t:Tm)(hf:t.fits)(aS:∀x∈gz t,∀s,ok s->(step s x).2=true->ok (step s x).1)(hR:∀x∈gz t,∀s,ok s->Wk Tryz.prog m4 [.d x.d] base (H s) (H (step s x).1) (.d (.bool (step s x).2)))(uJ:m4<base)(tb:Nat)(zF:tb<base)(s:σ)(iq:ok s)(bE:H s tb= .row t.row):
 iN Tryz.prog 177 [.iW m4, .ptr tb 0] base (H s) (H (aq step s (gz t)).1) (.bT []):=by
 intro o nx hI K X hK
 have hle:=hI.le
 have ot:o tb= .row t.row:=by rw[hI.eq tb zF,bE]
 have y1:tb≠nx:=ae
 have y2:∀k,tb≠nx+k:=fun k=>ae
 refine cX.aF mix Qw aJ ?_
 rw[T6]
 refine Q8 ot y1 y2 ?_
 have hI1:cG base (H s) (aD (aD (aD o nx (.row [.iW m4])) (nx+1) (.row [.d .bZ])) (nx+1) (.row [.func (.func 178) [] [.ptr nx 0, .ptr (nx+1) 0]])) (nx+6):=by
  refine((hI.aD (i:=nx) (m:=nx+6) ae ae ae ?_).aD (i:=nx+1) (m:=nx+6) ae ae ae rfl).aD (i:=nx+1) ae ae ae ?_
  ·exact H8
  ·exact xB
 refine bd (Kn base m4 H step ok t hf aS hR uJ (nx+6) _ nx (nx+1) ae hle ae ae ae ?_ ?_ s iq _ _ (hI1.ext (Nat.le_refl _) ae) _ _ ?_)
 ·exact gY
 ·exact gY
 intro o2 n2 m1 m2 m3
 refine cI ?_
 refine hK _ _ ae ⟨m2.bz,ae,fun id au=> ?_⟩ (fun id h1 h2=> ?_)
 ·exact FN
 ·exact RN
end
theorem xg(t:Tm)(o:Nat->ab)(nx:Nat)(K X:V->(Nat->ab)->Nat->Prop)(h:K (.func (.func 177) [] [.ptr nx 0]) (aD o nx (.row t.row)) (nx+4)):cX Tryz.prog 162 [.d t.d] o nx K X:=by
 refine cX.aF mix Qo aJ ?_
 rw[TY]
 refine cI ?_
 exact h
def yY{σ:Type}(J:σ->Option jL)(step:σ->Tm->σ)(s:σ)(x:Tm):σ×Bool:=(step s x,(J (step s x)).isNone)
theorem p8{σ:Type}(t:Tm)(hf:t.fits){n bq:Nat}{gq:Operand}{ps:List Nat}{jn fl:IC}{Q:fL->S->Prop}{e:Nat->V}{o:Nat->ab}{nx tb:Nat}(env:List V)(he:lV e env 0)
 (vE:ps.all (fun t=>decide (t<n))=true) (hl:ps.length=1) (hg:Good o nx) (hrefs:∀r∈V.aE env,r<nx) (ht:o tb= .row t.row)
 (G:σ->Nat->ab) (J:σ->Option jL) (step:σ->Tm->σ) (ok:σ->Prop) (s0:σ) (iq:ok s0) (Vh:J s0=none) (h0:∀id,id<nx->o id=G s0 id) (aS:∀x∈gz t,∀s,ok s->J s=none->J (step s x)=none->ok (step s x))
 (oB:∀L,gV Tryz.prog n env ps jn fl L->(∀st pd m,nx<=m->(L st pd).refs.all (fun r=>decide (r<m))=true)->∀x∈gz t,∀s,ok s->J s=none->∀o3 n3,cG nx (G s) o3 n3->nx<n3->o3 nx=L .ready none->∀K X,
  (∀e' o' n' st pd,n3<=n'->cG nx (G (step s x)) o' n'->o' nx=L st pd->(∀id,nx<id->id<n3->o' id=o3 id)->jD nx K X (Ke (J (step s x))) ⟨e',o',n'⟩)->
  lJ Tryz.prog n n3 true jn (oG Tryz.prog n n3 nx fl K X) ⟨mJ (a7 env) ps [.d x.d],o3,n3⟩)
 (gC:∀o' n',cG nx (G (aq (yY J step) s0 (gz t)).1) o' n'->oA Q (J (aq (yY J step) s0 (gz t)).1) ⟨e,o',n'⟩):
 yw Tryz.prog n bq false gq ps jn fl Q ⟨e,o,nx⟩ (.func (.func 177) [] [.ptr tb 0]):=by
 refine Dq env he (fun L hL=> ?_)
 have zF:tb<nx:=hg.lt Io
 let H:σ->Nat->ab:=fun s id=>if id<nx then G s id else if id=nx then(match J s with|none=>L .ready none|some j=>L .done (some j))else .no
 have FO:∀s id,id<nx->H s id=G s id:=fun s id h=>if_pos h
 have Lt:∀s,J s=none->H s nx=L .ready none:=fun s h=>by show(if nx<nx then _ else _)=_;rw[if_neg (by omega),if_pos rfl,h]
 have Rn:∀s j,J s=some j->H s nx=L .done (some j):=fun s j h=>by show(if nx<nx then _ else _)=_;rw[if_neg (by omega),if_pos rfl,h]
 have vR:∀st pd m,nx<=m->(L st pd).refs.all (fun r=>decide (r<m))=true:=fun st pd m hm=>by
  exact RJ
 refine G5 (nx+1) nx H (yY J step) (fun s=>ok s/\J s=none) t hf (fun x hx s h1 h2=> ?_) (fun x hx s h1=> ?_) ae tb ae s0 ⟨iq,Vh⟩ Il _ _ ⟨?_,Nat.le_refl _,fun id au=> ?_⟩ _ _ ?_
 ·have hj:J (step s x)=none:=by simpa[yY]using h2
  exact⟨aS x hx s h1.1 h1.2 hj,hj⟩
 ·intro o3 n3 hI K X hK
  have hle:=hI.le
  have HH:o3 nx=L .ready none:=by rw[hI.eq nx (by omega),Lt s h1.2]
  refine uG hL mix HH ae vE (by simp[hl]) ?_
  refine oB L hL vR x hx s h1.1 h1.2 o3 n3 ⟨hI.bz,ae,fun id au=>by rw[hI.eq id (by omega),FO _ _ au]⟩ ae HH K X (fun e' o' n' st pd k1 k2 k3 k4=> ?_)
  have key:∀st' pd' b,(J (step s x)).isNone=b->H (step s x) nx=L st' pd'->K (.d (.bool b)) (aD o' nx (L st' pd')) n':=fun st' pd' b hb hh=>by
   subst hb
   refine hK _ _ k1 ⟨k2.bz.aD ae (vR _ _ _ ae),ae,fun id au=> ?_⟩ (fun id g1 g2=> ?_)
   ·by_cases tc:id=nx
    ·exact H9
    ·rw[ah _ _ _ _ tc]
     show o' id=H (step s x) id
     exact HZ
   ·exact Ru
  cases hj:J (step s x)with
  |none=>exact Rq
  |some j=>
   cases j with
   |ret=>exact Ro
   |exit j=>exact Rm
 ·exact Rp
 ·by_cases tc:id=nx
  ·exact Ie
  ·exact Rj
 ·intro o' n' k1 k2 k3
  have hle:=k2.le
  generalize hsf:(aq (yY J step) s0 (gz t)).1=sf at*
  have kk:∀st pd,cG nx (G sf) (aD o' nx (L st pd)) n':=fun st pd=>⟨k2.bz.aD ae (vR _ _ _ ae),ae,fun id au=>by rw[ah _ _ _ _ (by omega),k2.eq id (by omega),FO _ _ au]⟩
  cases hj:J sf with
  |none=>
   refine⟨.ready,none,by rw[k2.eq nx (by omega),Lt _ hj],(fun h=>by cases h), ?_⟩
   have:=gC _ _ (kk .exhausted none)
   rwa [hj]at this
  |some j=>
   refine⟨.done,some j,by rw[k2.eq nx (by omega),Rn _ _ hj],(fun h=>by cases h), ?_⟩
   have:=gC _ _ (kk .exhausted (some j))
   rwa [hj]at this
end
section
def G6(l:List (D×D)):List (Int×D):=l.map fun p=>((match p.1 with| .int _ n=>n|_=>0),p.2)
def Uw(l:List (D×D)):Bool:=l.all fun p=>match p.1 with| .int .i64 _=>true|_=>false
@[go_sem] theorem abJ (m:List (Int×D)):G6 (enc (D.int .i64) m)=m:=by
  unfold G6 enc;rw[List.map_map];simp[Function.comp_def]
@[go_sem] theorem abK (m:List (Int×D)):Uw (enc (D.int .i64) m)=true:=by simp[Uw,enc]
@[go_sem] theorem abL:Uw []=true:=rfl
@[go_sem] theorem abM:G6 []=[]:=rfl
theorem yZ:∀ {l:List (D×D)},Uw l=true->enc (D.int .i64) (G6 l)=l
 |[],_=>rfl
 |(k,x)::l,h=>by
  simp only[Uw,List.all_cons,Bool.and_eq_true]at h
  have ih:=yZ (l:=l) h.2
  obtain⟨n,h1⟩:∃n,k= .int .i64 n:=by
   have h1:=h.1
   split at h1
   ·exact⟨_,rfl⟩
   ·cases h1
  subst h1
  simp only[enc,G6,List.map_cons]at ih|-
  rw[ih]
def m6(l:List Int):List (Int×D):=l.map fun n=>(n, .bool true)
@[go_sem] theorem abl:m6 []=[]:=rfl
def y0(l:List Int)(n:Int):List Int:=if l.contains n=true then l else l++[n]
theorem Ko{l:List Int}{n k:Int}:k∈y0 l n↔k∈l\/k=n:=by
 unfold y0
 split
 ·rename_i h
  have:n∈l:=by simpa using h
  constructor
  ·exact .inl
  ·rintro(h|rfl)<;>assumption
 ·simp
theorem p9:∀ (l:List Int) (n:Int) (i:Nat),fF n (m6 l) i=(l.findIdx? (· ==n)).map fun j=>(i+j,D.bool true)
 |[],n,i=>rfl
 |x::l,n,i=>by
  have ih:=p9 l n (i+1)
  simp only[m6,List.map_cons,fF,List.findIdx?_cons]at ih|-
  by_cases h:n=x
  ·subst h;simp
  ·have h2: ¬x=n:=fun e=>h e.symm
   simp only[beq_iff_eq,h,h2,if_false,ih,Option.map_map,Function.comp_def]
   congr 1;funext j;congr 1;omega
@[go_sem] theorem Wn (l:List Int) (n:Int):vG n (.bool true) (m6 l)=m6 (y0 l n):=by
  unfold vG y0
  rw[p9]
  cases h:l.findIdx? (· ==n)with
  |none=>
   have:l.contains n=false:=by
    rw[List.findIdx?_eq_none_iff]at h
    rw[Bool.eq_false_iff];intro hc
    have:=h n (by simpa using hc)
    simp at this
   simp only[Option.map_none,this,Bool.false_eq_true,if_false]
   simp[m6]
  |some j=>
   rw[List.findIdx?_eq_some_iff_getElem]at h
   obtain⟨hj,he,_⟩:=h
   have e:l[j]=n:=by simpa using he
   have:l.contains n=true:=by rw[List.contains_iff_mem, <- e];exact List.getElem_mem hj
   simp only[Option.map_some,this,if_true,Nat.zero_add]
   apply List.ext_getElem?
   intro k
   rw[List.getElem?_set]
   split
   ·rename_i hk;subst hk;simp[m6,hj,e]
   ·rfl
def abm(l:List Int)(n:Int):List Int:=match l.findIdx? (· ==n)with|some j=>l.eraseIdx j|none=>l
theorem lN{α β:Type}(f:α->β):∀ (l:List α) (j:Nat),(l.map f).eraseIdx j=(l.eraseIdx j).map f
 |[],_=>rfl
 |_::_,0=>rfl
 |x::l,j+1=>by simp[lN f l j]
@[go_sem] theorem Wo (l:List Int) (n:Int):abh n (m6 l)=m6 (abm l n):=by
  unfold abh abm
  rw[p9]
  cases h:l.findIdx? (· ==n)with
  |none=>simp
  |some j=>simp only[Option.map_some,Nat.zero_add];exact lN _ _ _
section
variable {P:Program}{o:Nat->ab}{t:TypeId}{id:Nat}{n:Int}{v:V}
def qY(P:Program)(kt:TypeId):Bool:=match bD P kt with|some .int=>true|_=>false
theorem xh{kt:TypeId}(h:qY P kt=true):bD P kt=some .int:=by
 unfold qY at h;split at h
 ·assumption
 ·cases h
@[go_sem] theorem Wp {kt:TypeId} (h:bD P kt=some .int):qY P kt=true:=by unfold qY;rw[h]
def Ux(P:Program)(o:Nat->ab)(t:TypeId)(id:Nat)(n:Int)(v:V):Option fy:=
 match qD P t,dC o v,o id with
 |some (kt,_),some vd, .map D7 D8 l=>match qY P kt&&Uw l&&v.ids.all (· !=id)with
  |true=>some (.bT [],cc o v.ids++[(id, .map D7 D8 (enc (D.int .i64) (vG n vd (G6 l))))],id::v.ids)
  |false=>pZ P o t (.mp id) (.d (.int .i64 n)) v
 |_,_,_=>pZ P o t (.mp id) (.d (.int .i64 n)) v
@[go_sem high] theorem Uy:fm P o t (.mp id) (.d (.int .i64 n)) v=Ux P o t id n v:=by
  unfold Ux
  split
  ·rename_i kt vt vd D7 D8 l h1 h2 h3
   split
   ·rename_i hc
    simp only[Bool.and_eq_true]at hc
    obtain⟨⟨c1,c2⟩,c3⟩:=hc
    have c4:=xh c1
    have c5:dC o (.d (.int .i64 n))=some (.int .i64 n):=rfl
    have hl:=yZ c2
    unfold fm
    simp only[h1,c5,h2,nT,h3]
    rw[if_pos ⟨rfl,E4 c4 n,rfl,c3⟩]
    conv=>lhs;rw[<- hl]
    rw[BH c4]
    unfold vG
    cases fF n (G6 l) 0 with
    |none=>simp[vH,enc]
    |some p=>simp[vH,E5,D.same,nS]
   ·exact xb ..
  ·exact xb ..
attribute [go_sem] Ux
def Wq(l:List (D×D)):Bool:=l.all fun p=>match p.2 with| .bool true=>true|_=>false
@[go_sem] theorem abN (l:List Int):Wq (enc (D.int .i64) (m6 l))=true:=by simp[Wq,enc,m6]
@[go_sem] theorem abO:Wq []=true:=rfl
theorem Fa:∀ {m:List (Int×D)},Wq (enc (D.int .i64) m)=true->m6 (m.map (·.1))=m
 |[],_=>rfl
 |(k,x)::m,h=>by
  simp only[Wq,enc,List.map_cons,List.all_cons,Bool.and_eq_true]at h
  have ih:=Fa (m:=m) h.2
  have h1:x= .bool true:=by
   have h1:=h.1
   split at h1
   ·rfl
   ·cases h1
  simp only[m6,List.map_cons]at ih|-
  rw[ih,h1]
def Kp(P:Program)(o:Nat->ab)(t:TypeId)(m:V)(n:Int)(ok:Bool):Option fy:=
 match qD P t with
 |some (kt,vt)=>match zeroV P vt with
  |some (.d (.bool false))=>match pf o m with
   |some (rd,l)=>match qY P kt&&Uw l&&Wq l with
    |true=>some (match ok with|true=> .bT [.d (.bool (((G6 l).map (·.1)).contains n)), .d (.bool (((G6 l).map (·.1)).contains n))]|false=> .d (.bool (((G6 l).map (·.1)).contains n)),[],rd)
    |false=>uL P o t m (.d (.int .i64 n)) ok
   |none=>uL P o t m (.d (.int .i64 n)) ok
  |_=>uL P o t m (.d (.int .i64 n)) ok
 |none=>uL P o t m (.d (.int .i64 n)) ok
@[go_sem] theorem Kq (l:List Int):((m6 l).map (·.1))=l:=by simp[m6,Function.comp_def]
@[go_sem high] theorem abn {m:V} {ok:Bool}:gZ P o t m (.d (.int .i64 n)) ok=Kp P o t m n ok:=by
  unfold Kp
  split
  ·rename_i kt vt h1
   split
   ·rename_i hz
    split
    ·rename_i rd l h
     split
     ·rename_i hc
      simp only[Bool.and_eq_true]at hc
      have c4:=xh hc.1.1
      have hl:=yZ hc.1.2
      have hs:m6 ((G6 l).map (·.1))=G6 l:=Fa (by rw[hl];exact hc.2)
      have c5:dC o (.d (.int .i64 n))=some (.int .i64 n):=rfl
      unfold gZ
      simp only[h1,c5,h]
      rw[if_pos ⟨rfl,E4 c4 n⟩]
      conv=>lhs;rw[<- hl]
      rw[BH c4, <- hs,p9,Kq]
      generalize (G6 l).map (·.1)=l'
      cases hf:l'.findIdx? (· ==n)with
      |none=>
       have:l'.contains n=false:=by
        rw[List.findIdx?_eq_none_iff]at hf
        rw[Bool.eq_false_iff];intro hc
        have:=hf n (by simpa using hc)
        simp at this
       cases ok<;>simp only[Option.map_none,vH,hz,this,if_true,Bool.false_eq_true,if_false]
      |some j=>
       rw[List.findIdx?_eq_some_iff_getElem]at hf
       obtain⟨hj,he,_⟩:=hf
       have e:l'[j]=n:=by simpa using he
       have:l'.contains n=true:=by rw[List.contains_iff_mem, <- e];exact List.getElem_mem hj
       cases ok<;>simp only[Option.map_some,vH,this,if_true,Bool.false_eq_true,if_false]
     ·exact nw ..
    ·exact nw ..
   ·exact nw ..
  ·exact nw ..
attribute [go_sem] Kp
end
attribute [go_sem] List.head?_cons
end
theorem Uz{o:Nat->ab}{nx:Nat}{Δ:List (Nat×ab)}(h:∀x∈Δ,x.1<nx):(hp o nx).put Δ=hp (put o Δ) nx:=by
 simp only[Hp.put,hp]
 congr 1
 funext j
 simp only[List.mem_map,eq_iff_iff]
 exact⟨fun h2=>h2.elim (fun h=>h) fun⟨x,hx,e⟩=>e ▸ h x hx, .inl⟩
theorem Kr(a b:List Tm)(ha:a.length<=9223372036854775807)(hb:b.length<=9223372036854775807)(g:Nat)(h:∀x∈a,∀y∈b,aV Tryz.prog g [x.d,y.d] (.ret [.bool (kb x y)]))(o:Nat->ab)(nx:Nat)(hg:Good o nx)(K X:V->(Nat->ab)->Nat->Prop)
 (hK:∀o' nx',nx<=nx'->Good o' nx'->(∀j,j<nx->o' j=o j)->K (.d (.bool (a.length==b.length&&kD a b))) o' nx'):
 cX Tryz.prog 149 [.d (.sl (a.map Tm.d)), .d (.sl (b.map Tm.d)), .func (.func g) [] []] o nx K X:=by
 refine cX.aF mix Qi aJ ?_
 rw[TS]
 refine od ?_
 refine ai (fun h1=> ?_) (fun h1=> ?_)
 ·refine aY ?_
  have:(a.length==b.length&&kD a b)=false:=by
   have:(a.length==b.length)=false:=by
    rw[Bool.eq_false_iff];intro h
    simp at h;simp[h]at h1
   rw[this];rfl
  rw[this]at hK
  exact hK _ _ ae (hg.mono ae) (fun _ _=>rfl)
 ·have hl:a.length=b.length:=by simp at h1;omega
  have Mk:(a.length==b.length)=true:=by simpa using hl
  rw[Mk,Bool.true_and]at hK
  refine od ?_
  refine aB (fun k:Nat=>⟨a7 [.d (.sl (a.map Tm.d)), .d (.sl (b.map Tm.d)), .func (.func g) [] [], .aa, .aa, .aa, .aa, .aa, .aa, .aa, .aa, .aa, .aa, .aa, .aa, .d (.sl (a.map Tm.d)), .d (.i a.length), .d (.i k)],o,nx⟩)
   (fun k=>k<=a.length/\∀i,i<k->∀x y,a[i]? =some x->b[i]? =some y->kb x y=true) (fun k=>a.length - k) 0 ⟨Nat.zero_le _,fun i h=>ae⟩ (br.aR _ (Nat.le_refl _) ae hg (fun _ _=>rfl) ?_) (fun k hk=> ?_)
  ·exact ct
  refine aY ?_
  refine ai (fun h2=> ?_) (fun h2=> ?_)
  ·simp at h2
   obtain⟨x,hx⟩:=aL h2
   obtain⟨y,hy⟩:=aL (l:=b) (k:=k) ae
   refine Ww hx hy ?_
   refine ay (h x (List.mem_of_getElem? hx) y (List.mem_of_getElem? hy)) rfl ?_
   refine aY ?_
   refine ai (fun h3=> ?_) (fun h3=> ?_)
   ·refine aY ?_
    simp at h3
    have:kD a b=false:=by
     rw[Bool.eq_false_iff];intro h4
     have:=(qX _ _ hl).1 h4 k x y hx hy
     rw[h3]at this;cases this
    rw[this]at hK
    refine hK _ _ ae ?_ (fun j hj=>by(repeat(first|rfl|rw[af]|rw[ah _ _ _ _ (by omega)])))
    exact ff
   ·refine aY ?_
    simp at h3
    refine aj (k+1) ⟨h2,fun i hi u v hu hv=> ?_⟩ ae (br.aR _ (Nat.le_refl _) ae hg (fun j hj=>by(repeat(first|rfl|rw[af]|rw[ah _ _ _ _ (by omega)]))) ?_)
    ·by_cases e:i=k
     ·subst e
      rw[hx]at hu;rw[hy]at hv
      injection hu with hu;injection hv with hv;subst hu;subst hv;exact h3
     ·exact hk.2 i ae u v hu hv
    ·exact ct
  ·refine aY ?_
   simp at h2
   have:kD a b=true:=(qX _ _ hl).2 fun i x y hx hy=>hk.2 i (by have:=(List.getElem?_eq_some_iff.1 hx).1;omega) x y hx hy
   rw[this]at hK
   exact hK _ _ ae (hg.mono ae) (fun _ _=>rfl)
def lk:List (Int×Int)->Int->Option Int
 |[],_=>none
 |p::m,v=>if p.1=v then some p.2 else lk m v
abbrev sB(m:List (Int×Int)):Prop:=(m.map (·.1)).Nodup
theorem Fb{m:List (Int×Int)}{v k:Int}(hk:sB m):lk m v=some k↔(v,k)∈m:=by
 induction m with
 |nil=>simp[lk]
 |cons p m ih=>
  rw[sB,List.map_cons,List.nodup_cons]at hk
  simp only[lk,List.mem_cons]
  by_cases h:p.1=v
  ·rw[if_pos h]
   constructor
   ·intro e;injection e with e;exact .inl (by rw[<- h, <- e])
   ·rintro(e|e)
    ·rw[<- e]
    ·exact absurd (h ▸ List.mem_map.2 ⟨_,e,rfl⟩) hk.1
  ·rw[if_neg h,ih hk.2]
   constructor
   ·exact .inr
   ·rintro(e|e)
    ·exact absurd (by rw[<- e]) h
    ·exact e
def ints(m:List (Int×Int)):List (Int×D):=m.map fun p=>(p.1,D.i p.2)
theorem qZ:∀ (m:List (Int×Int)) (v:Int) (i:Nat),(match fF v (ints m) i with|some (_,x)=>some x|none=>none)=(lk m v).map D.i
 |[],v,i=>rfl
 |p::m,v,i=>by
  have ih:=qZ m v (i+1)
  simp only[ints,List.map_cons,fF,lk]at ih|-
  by_cases h:v=p.1
  ·subst h;simp
  ·have h2: ¬p.1=v:=fun e=>h e.symm
   simp only[beq_iff_eq,h,h2,if_false]
   exact ih
theorem lO{m:List (Int×Int)}{v k:Int}(h:lk m v=some k):∃j,fF v (ints m) 0=some (j,D.i k):=by
 have:=qZ m v 0
 rw[h]at this
 cases ha:fF v (ints m) 0 with
 |none=>rw[ha]at this;cases this
 |some p=>obtain⟨j,x⟩:=p;rw[ha]at this;simp at this;exact⟨j,by rw[this]⟩
theorem lP{m:List (Int×Int)}{v:Int}(h:lk m v=none):fF v (ints m) 0=none:=by
 have:=qZ m v 0
 rw[h]at this
 cases ha:fF v (ints m) 0 with
 |none=>rfl
 |some p=>obtain⟨j,x⟩:=p;rw[ha]at this;cases this
def fT(m:List (Int×Int))(v:Int):Int:=(lk m v).getD 0
def kF:List (Int×Int)->Int->Int->List (Int×Int)
 |[],v,w=>[(v,w)]
 |p::m,v,w=>if p.1=v then(v,w)::m else p::kF m v w
theorem BL(v:Int):∀ (m:List (Int×D)) (i:Nat),fF v m (i+1)=(fF v m i).map fun p=>(p.1+1,p.2)
 |[],_=>rfl
 |p::m,i=>by
  have ih:=BL v m (i+1)
  simp only[fF]
  by_cases h:(v==p.1)=true
  ·simp[h]
  ·simp only[h,if_false];exact ih
theorem G7{v:Int}{p:Int×D}{m:List (Int×D)}{x:D}(h: ¬v=p.1):vG v x (p::m)=p::vG v x m:=by
 have hb: ¬ ((v==p.1)=true):=by simpa using h
 unfold vG
 simp only[fF,hb,if_false]
 rw[BL]
 cases fF v m 0 with
 |none=>rfl
 |some q=>obtain⟨i,y⟩:=q;rfl
theorem kY:∀ (m:List (Int×Int)) (v w:Int),vG v (D.i w) (ints m)=ints (kF m v w)
 |[],v,w=>by simp[vG,fF,ints,kF]
 |p::m,v,w=>by
  have ih:=kY m v w
  by_cases h:p.1=v
  ·subst h
   simp[vG,fF,ints,kF]
  ·have h': ¬v=p.1:=fun e=>h e.symm
   have e2:ints (p::m)=(p.1,D.i p.2)::ints m:=rfl
   rw[e2,G7 h',ih]
   simp[kF,h,ints]
def sC(m:List (Int×Int))(v:Int):List (Int×Int):=kF m v (IntKind.i64.wrap (fT m v+1))
@[reducible] def qa (m:List (Int×Int)):ab:= .map 3 3 (enc (D.int .i64) (ints m))
def du(op:Int)(m:List (Int×Int))(x:Tm):List (Int×Int):=if x.op=op then sC m x.n else m
def abo(R:List (Int×Int)->Prop)(o:Nat->ab)(nx:Nat)(K:V->(Nat->ab)->Nat->Prop):Prop:=
 ∀o' nx' id m,nx<=id->id<nx'->Good o' nx'->(∀j,j<nx->o' j=o j)->o' id=qa m->R m->K (.mp id) o' nx'
theorem UA(t:Tm)(ht:t.fits)(o:Nat->ab)(nx:Nat)(hg:Good o nx)(K X:V->(Nat->ab)->Nat->Prop)
 (hK:abo (fun m=>m=(gz t).foldl (du 8) []) o nx K):cX Tryz.prog 136 [.d t.d] o nx K X:=by
 refine cX.aF mix Qg aJ ?_
 rw[TQ]
 refine od ?_
 refine fQ (xg t _ _ _ _ ?_)
 refine od ?_
 have hG:∀j,j<nx+10->aD (aD (aD (aD (aD o nx (.row [.d (.i t.op), .d (.i t.n), .d (.sl (t.kids.map Tm.d))])) (nx+2) (.map 3 3 [])) (nx+3) (.row [.d .hZ])) (nx+3) (.row [.mp (nx+2)])) (nx+6) (.row t.row) j=aD (aD (aD (aD o nx (.row t.row)) (nx+3) (.row [.mp (nx+2)])) (nx+6) (.row t.row)) (nx+2) (qa []) j:=by
  intro j _
  exact LN
 refine p8 (σ:=List (Int×Int)) t ht [.aa, .ptr nx 0, .aa, .ptr (nx+3) 0] ?_ bO rfl ff nF (af _ _ _)
  (fun s=>aD (aD (aD (aD o nx (.row t.row)) (nx+3) (.row [.mp (nx+2)])) (nx+6) (.row t.row)) (nx+2) (qa s)) (fun _=>none) (du 8) (fun _=>True) [] trivial rfl hG (fun _ _ _ _ _ _=>trivial) ?_ ?_
 ·exact FK
 ·intro L hL vR x hx s' _ _ o3 n3 hI hn HH K' X' cu
  simp only[mJ]
  have hg:=hI.bz
  have hle:=hI.le
  have q1:o3 (nx+3)= .row [.mp (nx+2)]:=by rw[hI.eq (nx+3) (by omega)];(repeat(first|rfl|rw[af]|rw[ah _ _ _ _ (by omega)]))
  have q2:o3 (nx+2)=qa s':=by rw[hI.eq (nx+2) (by omega)];(repeat(first|rfl|rw[af]|rw[ah _ _ _ _ (by omega)]))
  refine aY ?_
  refine kX hL (pd:=none) ?_ ?_
  ·(repeat(first|rfl|rw[af]|rw[ah _ _ _ _ (by omega)]))
   exact HH
  refine vk q1 q2 ?_
  have z1:nx≠n3:=ae
  have z2:∀k,nx≠n3+k:=fun k=>ae
  have z3:nx+2≠n3:=ae
  have z4:nx+3≠n3:=ae
  have same:∀ (o':Nat->ab) (n':Nat) (l:List (Int×Int)),Good o' n'->n3<=n'->(∀j,j<nx+10->o' j=aD o3 (nx+2) (qa l) j)->cG (nx+10) (aD (aD (aD (aD o nx (.row t.row)) (nx+3) (.row [.mp (nx+2)])) (nx+6) (.row t.row)) (nx+2) (qa l)) o' n':=fun o' n' l k1 k2 k3=>⟨k1,ae,fun j hj=>by
   rw[k3 j hj]
   by_cases e:j=nx+2
   ·subst e;rw[af,af]
   ·rw[ah _ _ _ _ e,ah _ _ _ _ e,hI.eq j hj,ah _ _ _ _ e]⟩
  refine ai (fun h3=> ?_) (fun h3=> ?_)
  ·have my:x.op=8:=by simpa using h3
   have hp:du 8 s' x=sC s' x.n:=by unfold du;rw[if_pos my]
   rw[hp]at cu
   cases HI:lk s' x.n with
   |none=>
    have hc:sC s' x.n=kF s' x.n (0+1):=by unfold sC fT;rw[HI];rfl
    rw[hc]at cu
    simp+contextual (disch:=first|omega|simp only[go_sem,false_implies]) only[go_sem,wrap64,if_pos,q1,q2,z1,z2,z3,z4,lP HI,kY,Nat.add_assoc,Nat.left_eq_add,Nat.add_eq_left,Nat.add_left_cancel_iff]
    refine cu _ _ _ .busy none ae (same _ _ _ ff ae fun j hj=> ?_) gY (fun j h3 h4=>by(repeat(first|rfl|rw[af]|rw[ah _ _ _ _ (by omega)])))
    by_cases e:j=nx+2
    ·exact zP
    ·exact gY
   |some c=>
    obtain⟨k,hk⟩:=lO HI
    have hc:sC s' x.n=kF s' x.n (IntKind.i64.wrap (c+1)):=by unfold sC fT;rw[HI];rfl
    rw[hc]at cu
    simp+contextual (disch:=first|omega|simp only[go_sem,false_implies]) only[go_sem,wrap64,if_pos,q1,q2,z1,z2,z3,z4,hk,kY,Nat.add_assoc,Nat.left_eq_add,Nat.add_eq_left,Nat.add_left_cancel_iff]
    refine cu _ _ _ .busy none ae (same _ _ _ ff ae fun j hj=> ?_) gY (fun j h3 h4=>by(repeat(first|rfl|rw[af]|rw[ah _ _ _ _ (by omega)])))
    by_cases e:j=nx+2
    ·exact zP
    ·exact gY
  ·have hp:du 8 s' x=s':=by unfold du;rw[if_neg (by simpa using h3)]
   rw[hp]at cu
   refine aY ?_
   refine cu _ _ _ .busy none ae (same _ _ _ ff ae fun j hj=> ?_) gY (fun j h3 h4=>by(repeat(first|rfl|rw[af]|rw[ah _ _ _ _ (by omega)])))
   by_cases e:j=nx+2
   ·exact OB
   ·exact gY
 ·intro o' n' hI
  have hle:=hI.le
  simp only[oA]
  have q1:o' (nx+3)= .row [.mp (nx+2)]:=by rw[hI.eq (nx+3) (by omega)];(repeat(first|rfl|rw[af]|rw[ah _ _ _ _ (by omega)]))
  refine gX q1 ?_
  have w7:∀ (l:List Tm) (m:List (Int×Int)),(aq (yY (fun _=>none) (du 8)) m l).1=l.foldl (du 8) m:=by
   intro l
   induction l with
   |nil=>intro m;rfl
   |cons y l ih=>intro m;simp only[aq,yY,Option.isNone_none,if_true];exact ih _
  rw[w7]at hI
  refine hK _ _ _ _ ae ae (hI.bz.mono ae) (fun j hj=> ?_) (by rw[hI.eq (nx+2) (by omega),af]) rfl
  rw[hI.eq j (by omega)];(repeat(first|rfl|rw[af]|rw[ah _ _ _ _ (by omega)]))
theorem BM(l:List Tm)(hl:l.length<=1000000)(hf:∀t∈l,t.fits)(o:Nat->ab)(nx:Nat)(hg:Good o nx)(K X:V->(Nat->ab)->Nat->Prop)
 (hK:abo (fun m=>m=(l.flatMap gz).foldl (du 1) []) o nx K):cX Tryz.prog 135 [.d (.sl (l.map Tm.d))] o nx K X:=by
 refine cX.aF mix Qf aJ ?_
 rw[TP]
 refine Q4 ?_
 let Hm:List (Int×Int)->Nat->ab:=fun m=>aD (aD o (nx+2) (.row [.mp (nx+1)])) (nx+1) (qa m)
 have hgm:∀m,Good (Hm m) (nx+7):=fun m=>((hg.mono ae).aD ae xB).aD ae rfl
 have R5:∀m,Hm m (nx+1)=qa m:=fun m=>af _ _ _
 have Mj:∀m,Hm m (nx+2)= .row [.mp (nx+1)]:=fun m=>by show aD _ (nx+1) _ (nx+2)=_;rw[ah _ _ _ _ (by omega),af]
 have vy:∀m j,j≠nx+1->Hm m j=Hm [] j:=fun m j h=>by show aD _ (nx+1) _ j=aD _ (nx+1) _ j;rw[ah _ _ _ _ h,ah _ _ _ _ h]
 refine aB (fun i:Nat×List (Int×Int)=>⟨a7 [.aa, .aa, .aa, .ptr (nx+2) 0, .aa, .aa, .aa, .aa, .d (.sl (l.map Tm.d)), .d (.i l.length), .d (.i i.1)],Hm i.2,nx+7⟩)
  (fun i=>i.1<=l.length/\i.2=((l.take i.1).flatMap gz).foldl (du 1) []) (fun i=>l.length - i.1) (0,[]) ⟨Nat.zero_le _,rfl⟩ (br.aR _ (show nx<=nx+7 from ae) ae (hgm _) (fun j hj=> ?_) ?_) ?_
 ·show _=aD (aD o (nx+2) (.row [.mp (nx+1)])) (nx+1) (qa []) j
  exact LN
 ·exact ct
 rintro⟨k,m⟩ ⟨hk,hm⟩
 simp only at hk hm
 refine aY ?_
 refine ai (fun h2=> ?_) (fun h2=> ?_)
 ·simp at h2
  obtain⟨x,hx⟩:=aL h2
  have iK:=List.mem_of_getElem? hx
  have kI:((l.take (k+1)).flatMap gz).foldl (du 1) []=(gz x).foldl (du 1) m:=by
   rw[List.take_add_one,hx,hm];simp
  have adm:=hgm m
  have e1:=R5 m
  have e2:=Mj m
  have e3:=vy m
  clear_value Hm
  refine LL hx ?_
  refine fQ (xg x _ _ _ _ ?_)
  refine od ?_
  let G:List (Int×Int)->Nat->ab:=fun s=>aD (aD (aD (Hm m) (nx+10) (.row x.row)) (nx+13) (.row x.row)) (nx+1) (qa s)
  have hG:∀j,j<nx+17->aD (aD (aD (Hm m) (nx+10) (.row [.d (.int .i64 0), .d (.int .i64 0), .bu])) (nx+10) (.row [.d (.i x.op), .d (.i x.n), .d (.sl (x.kids.map Tm.d))])) (nx+13) (.row x.row) j=G m j:=by
   intro j _
   show _=aD (aD (aD (Hm m) (nx+10) (.row x.row)) (nx+13) (.row x.row)) (nx+1) (qa m) j
   by_cases e:j=nx+1
   ·subst e;(repeat(first|rfl|rw[af]|rw[ah _ _ _ _ (by omega)]))
    exact e1
   ·rw[ah _ (nx+1) _ _ e,et]
  have gm:∀s,G s (nx+1)=qa s:=fun s=>af _ _ _
  have g2:∀s,G s (nx+2)= .row [.mp (nx+1)]:=fun s=>by
   show aD _ (nx+1) _ (nx+2)=_
   rw[ah _ _ _ _ (by omega),ah _ _ _ _ (by omega),ah _ _ _ _ (by omega)];exact e2
  have g3:∀s s' j,j≠nx+1->G s j=G s' j:=fun s s' j h=>by show aD _ (nx+1) _ j=aD _ (nx+1) _ j;rw[ah _ _ _ _ h,ah _ _ _ _ h]
  have g4:∀s j,j<nx+7->j≠nx+1->G s j=Hm m j:=fun s j h h'=>by
   show aD _ (nx+1) _ j=_
   rw[ah _ _ _ _ h',ah _ _ _ _ (by omega),ah _ _ _ _ (by omega)]
  clear_value G
  have hg:=adm
  refine p8 (σ:=List (Int×Int)) x (hf x iK) [.aa, .aa, .aa, .ptr (nx+2) 0, .aa, .aa, .aa, .aa, .d (.sl (l.map Tm.d)), .d (.i l.length), .d (.i k)] ?_ bO rfl ff nF (af _ _ _)
   G (fun _=>none) (du 1) (fun _=>True) m trivial rfl hG (fun _ _ _ _ _ _=>trivial) ?_ ?_
  ·exact FK
  ·intro L hL vR y hy s' _ _ o3 n3 hI hn HH K' X' cu
   simp only[mJ]
   have hg:=hI.bz
   have hle:=hI.le
   have q1:o3 (nx+2)= .row [.mp (nx+1)]:=by rw[hI.eq (nx+2) (by omega),g2]
   have q2:o3 (nx+1)=qa s':=by rw[hI.eq (nx+1) (by omega),gm]
   have z1:nx≠n3:=ae
   have z2:∀k,nx≠n3+k:=fun k=>ae
   have z3:nx+2≠n3:=ae
   have z4:nx+1≠n3:=ae
   have same:∀ (o':Nat->ab) (n':Nat) (l:List (Int×Int)),Good o' n'->n3<=n'->(∀j,j<nx+17->o' j=aD o3 (nx+1) (qa l) j)->cG (nx+17) (G l) o' n':=fun o' n' l k1 k2 k3=>⟨k1,ae,fun j hj=>by
    rw[k3 j hj]
    by_cases e:j=nx+1
    ·subst e;rw[af,gm]
    ·rw[ah _ _ _ _ e,hI.eq j hj];exact g3 _ _ _ e⟩
   refine aY ?_
   refine kX hL (pd:=none) ?_ ?_
   ·(repeat(first|rfl|rw[af]|rw[ah _ _ _ _ (by omega)]))
    exact HH
   refine vk q1 q2 ?_
   refine ai (fun h3=> ?_) (fun h3=> ?_)
   ·have my:y.op=1:=by simpa using h3
    have hp:du 1 s' y=sC s' y.n:=by unfold du;rw[if_pos my]
    rw[hp]at cu
    cases HI:lk s' y.n with
    |none=>
     have hc:sC s' y.n=kF s' y.n (0+1):=by unfold sC fT;rw[HI];rfl
     rw[hc]at cu
     simp+contextual (disch:=first|omega|simp only[go_sem,false_implies]) only[go_sem,wrap64,if_pos,q1,q2,z1,z2,z3,z4,lP HI,kY,Nat.add_assoc,Nat.left_eq_add,Nat.add_eq_left,Nat.add_left_cancel_iff]
     refine cu _ _ _ .busy none ae (same _ _ _ ff ae fun j hj=> ?_) gY (fun j h3 h4=>by(repeat(first|rfl|rw[af]|rw[ah _ _ _ _ (by omega)])))
     by_cases e:j=nx+1
     ·exact zP
     ·exact gY
    |some c=>
     obtain⟨q,hq⟩:=lO HI
     have hc:sC s' y.n=kF s' y.n (IntKind.i64.wrap (c+1)):=by unfold sC fT;rw[HI];rfl
     rw[hc]at cu
     simp+contextual (disch:=first|omega|simp only[go_sem,false_implies]) only[go_sem,wrap64,if_pos,q1,q2,z1,z2,z3,z4,hq,kY,Nat.add_assoc,Nat.left_eq_add,Nat.add_eq_left,Nat.add_left_cancel_iff]
     refine cu _ _ _ .busy none ae (same _ _ _ ff ae fun j hj=> ?_) gY (fun j h3 h4=>by(repeat(first|rfl|rw[af]|rw[ah _ _ _ _ (by omega)])))
     by_cases e:j=nx+1
     ·exact zP
     ·exact gY
   ·have hp:du 1 s' y=s':=by unfold du;rw[if_neg (by simpa using h3)]
    rw[hp]at cu
    refine aY ?_
    refine cu _ _ _ .busy none ae (same _ _ _ ff ae fun j hj=> ?_) gY (fun j h3 h4=>by(repeat(first|rfl|rw[af]|rw[ah _ _ _ _ (by omega)])))
    by_cases e:j=nx+1
    ·exact OB
    ·exact gY
  ·intro o' n' hI
   have hle:=hI.le
   simp only[oA]
   have w7:∀ (l:List Tm) (m:List (Int×Int)),(aq (yY (fun _=>none) (du 1)) m l).1=l.foldl (du 1) m:=by
    intro l
    induction l with
    |nil=>intro m;rfl
    |cons y l ih=>intro m;simp only[aq,yY,Option.isNone_none,if_true];exact ih _
   rw[w7]at hI
   refine aY ?_
   refine aj (k+1,(gz x).foldl (du 1) m) ⟨h2,kI.symm⟩ jO (br.aR _ (show nx<=nx+7 from ae) ae (hgm _) (fun j hj=> ?_) ?_)
   ·rw[hI.eq j (by omega)]
    by_cases e:j=nx+1
    ·subst e;rw[gm,R5]
    ·rw[g4 _ _ hj e,e3 j e];exact(vy _ j e).symm
   ·exact ct
 ·simp at h2
  rw[List.take_of_length_le h2]at hm
  refine gX Mj ?_
  exact hK _ _ _ _ ae ae ((hgm _).mono ae) (fun j hj=>by show aD _ (nx+1) _ j=_;rw[ah _ _ _ _ (by omega),ah _ _ _ _ (by omega)]) (R5 m) hm
section
section
variable {B:Nat->Prop}{w:World}
end
theorem aV.rX {P:Program}{f:FuncId}{ds:List D}{out:D}(h:cX P f (ds.map .d) (fun _=> .no) 0 (fun v o _=>∃x,dC o v=some x/\∀B w val,D.den B w x val->D.den B w out val) (fun _ _ _=>False)):aV P f ds (.ret [out]):=by
 refine⟨h.1,fun M w vals hM hd=> ?_⟩
 let cf:Place:=fun _=> .nilFunc
 have vB:∀b, ¬cw cf (hp (fun _=> .no) 0) b:=by rintro b ⟨id,hl,_⟩;simp[hp,ab.live]at hl
 refine(h.2 M cf w vals (kT cf hM) ((V.b8 _ _).2 (D.aN (w:=w) (w':=w) (B:=M) (fun b _ hB=>⟨rfl,fun h=>h.elim hB (vB b)⟩) _ _ hd))).mono ?_
 rintro e w' ⟨aC,o',nx',v,k1,k2,k3⟩
 have rI:dx (fun _=>False) w w':=⟨k2.keep.os,k2.keep.tape,k2.keep.output,k2.keep.size,fun k hk _=>k2.keep.block k hk (vB k)⟩
 refine⟨rI, ?_⟩
 cases e with
 |outgrown=>exact k3.elim
 |panicked ch=>obtain⟨_,_,_,h⟩:=k3;exact h.elim
 |returned val=>
  obtain⟨g1,x,g2,g3⟩:=k3
  obtain⟨f1,f2,f3,f4,f5⟩:=cF k1 v.ids (fun id au=>cC v val g1 id au)
  have h3:=eO f1 (o:=o') v x val (fun id au=>f3 id au) g2 (V.aK f2 _ _ g1)
  exact g3 _ _ _ (D.aK (w:=w') (w':=w') (fun k _ hB=>⟨rfl,fun hM=>hB (.inl hM)⟩) x val h3)
end
@[reducible] def Ks (m:List (Int×Int)):D:= .mp ((enc (D.int .i64) (ints m)).map (·.1)) ((enc (D.int .i64) (ints m)).map (·.2))
theorem sG(m:List (Int×Int)):(((enc (D.int .i64) (ints m)).map (·.1)).zip ((enc (D.int .i64) (ints m)).map (·.2)))=enc (D.int .i64) (ints m):=Nj _ _
def dv(op:Int)(l:List Tm):List (Int×Int):=(l.flatMap gz).foldl (du op) []
theorem UB(t:Tm)(ht:t.fits):aV Tryz.prog 136 [t.d] (.ret [Ks (dv 8 [t])]):=by
 refine aV.rX (UA t ht _ _ ff _ _ fun o' nx' id m _ _ _ _ ho hm=> ?_)
 refine⟨_,by simp only[dC,ho];rfl,fun B w val h=> ?_⟩
 have e:m=dv 8 [t]:=by rw[hm];simp[dv]
 rw[<- e];exact h
theorem rY(l:List Tm)(hl:l.length<=1000000)(hf:∀t∈l,t.fits):aV Tryz.prog 135 [.sl (l.map Tm.d)] (.ret [Ks (dv 1 l)]):=by
 refine aV.rX (BM l hl hf _ _ ff _ _ fun o' nx' id m _ _ _ _ ho hm=> ?_)
 refine⟨_,by simp only[dC,ho];rfl,fun B w val h=> ?_⟩
 have e:m=dv 1 l:=hm
 rw[<- e];exact h
theorem xz(o:Nat->ab)(m:List (Int×Int))(v:Int):gZ Tryz.prog o 172 (.d (Ks m)) (.d (.int .i64 v)) false=some (.d (.i (fT m v)),[],[]):=by
 cases h:lk m v with
 |none=>
  have e:fT m v=0:=by unfold fT;rw[h];rfl
  rw[e]
  simp+contextual (disch:=first|omega|simp only[go_sem,false_implies]) only[go_sem,wrap64,if_pos,sG,lP h]
 |some c=>
  have e:fT m v=c:=by unfold fT;rw[h];rfl
  obtain⟨j,hj⟩:=lO h
  rw[e]
  simp+contextual (disch:=first|omega|simp only[go_sem,false_implies]) only[go_sem,wrap64,if_pos,sG,hj]
theorem uR(l:List Int)(hl:l.length<=1000000)(o:Nat->ab)(fr:Nat):yi Tryz.prog 76 [.d (.sl (l.map .i))] [] o fr (.osl fr 0) [(fr, .arr 0 3 1 (l.map .i))]:=by
 refine yi.JD (ds:=[.sl (l.map .i)]) ?_
 refine cX.aF mix Tw aJ ?_
 rw[c76]
 have hu:Tryz.prog.underlying 37=some (.slice 3):=ag
 cases l with
 |nil=>
  have heq:∀O,vh Tryz.prog O 37 true (.d (.sl [])) .bu=some .eW:=by
   intro O
   unfold vh
   rw[hu]
   rfl
  simp only[List.map_cons,List.map_nil]
  refine gX heq ?_
  simp only[List.isEmpty_nil,if_true]
  refine gX heq ?_
  exact .inl ⟨3,1,rfl,af _ _ _⟩
 |cons a l=>
  have heq:∀O,vh Tryz.prog O 37 true (.d (.sl (D.i a::l.map D.i))) .bu=some (.d (.bool false)):=by
   intro O
   unfold vh
   rw[hu]
   rfl
  simp only[List.map_cons,List.map_nil]
  refine gX heq ?_
  simp only[List.isEmpty_nil,if_true]
  refine gX heq ?_
  rw[List.length_cons]at hl
  rw[if_pos (by omega)]
  refine aY ?_
  exact .inl ⟨3,1,rfl,af _ _ _⟩
def UC:List Int->Int->Int->Int
 |[],_,_=> -1
 |x::l,v,k=>if v=x then k else UC l v (k+1)
theorem Ku:∀ (l:List Int) (v k:Int),0<=k->(decide (0<=UC l v k)=l.contains v)
 |[],v,k,_=>rfl
 |x::l,v,k,hk=>by
  have ih:=Ku l v (k+1) ae
  unfold UC
  by_cases h:v=x
  ·rw[if_pos h];subst h;simp[hk]
  ·rw[if_neg h,ih];simp[List.contains_cons,h]
theorem Kv(l:List Int)(hl:l.length<=1000000)(v:Int):aV Tryz.prog 179 [.sl (l.map .i), .i v] (.ret [.i (UC l v 0)]):=by
 refine aV.aF mix Qy aJ ?_
 rw[T8]
 refine qq ?_
 refine aB (fun k:Nat=>⟨a7 [.d (.sl (l.map .i)), .d (.i v), .aa, .aa, .aa, .aa, .aa, .d (.i l.length), .d (.i k)],fun _=> .no,1⟩)
  (fun k=>k<=l.length/\UC l v 0=UC (l.drop k) v k) (fun k=>l.length - k) 0 ⟨Nat.zero_le _,rfl⟩ (br.aR _ (show 0<=1 from ae) ae ff (fun _ _=>rfl) ?_) (fun k hk=> ?_)
 ·exact ct
 obtain⟨hk,th⟩:=hk
 refine aY ?_
 refine ai (fun h2=> ?_) (fun h2=> ?_)
 ·simp at h2
  obtain⟨x,hx⟩:=aL h2
  have hd:l.drop k=x::l.drop (k+1):=by
   exact RS
  rw[hd]at th
  simp only[UC]at th
  refine gX hx ?_
  refine ai (fun h3=> ?_) (fun h3=> ?_)
  ·have my:v=x:=by simpa using h3
   rw[if_pos my]at th
   refine aY ?_
   rw[th]
  ·have my: ¬v=x:=by simpa using h3
   rw[if_neg my]at th
   refine aY ?_
   refine aj (k+1) ⟨h2,th⟩ ae (br.aR _ (show 0<=1 from ae) ae ff (fun _ _=>rfl) ?_)
   exact ct
 ·exact OM
theorem BN(l:List Int)(hl:l.length<=1000000)(v:Int):aV Tryz.prog 163 [.sl (l.map .i), .i v] (.ret [.bool (l.contains v)]):=by
 refine aV.aF mix Qp aJ ?_
 rw[TZ]
 refine aY ?_
 refine ay (Kv l hl v) rfl ?_
 refine aY ?_
 rw[Ku l v 0 (by omega)]
mutual
def y9(m:List (Int×Int)):Tm->List Int->Bool
 | .mk op n kids,ny=>if op=1 then(fT m n==0||ny.contains n)else qb m op n kids 0 ny
def qb(m:List (Int×Int))(op n:Int):List Tm->Nat->List Int->Bool
 |[],_,_=>true
 |k::l,i,ny=>y9 m k (if op=8/\i=1 then ny++[n]else ny)&&qb m op n l (i+1) ny
end
theorem Fc(m:List (Int×Int))(t:Tm)(ny:List Int):y9 m t ny=if t.op=1 then(fT m t.n==0||ny.contains t.n)else qb m t.op t.n t.kids 0 ny:=by cases t;rw[y9];rfl
theorem Kw(m:List (Int×Int)):∀t:Tm,t.fits->∀ny:List Int,ny.length+t.mN<=1000000->aV Tryz.prog 137 [t.d,Ks m, .sl (ny.map .i)] (.ret [.bool (y9 m t ny)]):=by
 refine Tm.eY fun t ih hf ny hb=> ?_
 have nX:=(Tm.bR _).1 hf
 refine aV.aF mix Qh aJ ?_
 rw[TR,Fc]
 by_cases h1:t.op=1
 ·have oS:(t.op==1)=true:=by simpa using h1
  rw[if_pos h1]
  cases hc:(fT m t.n==0)with
  |true=>
   simp+contextual (disch:=first|omega|simp only[go_sem,false_implies]) only[go_sem,wrap64,if_pos,oS,xz,hc]
  |false=>
   simp+contextual (disch:=first|omega|simp only[go_sem,false_implies]) only[go_sem,wrap64,if_pos,oS,xz,hc]
   refine ay (BN ny ae t.n) rfl ?_
   exact FG hc
 ·have oS:(t.op==1)=false:=by simpa using h1
  rw[if_neg h1]
  refine ng oS ?_
  refine aB (fun k:Nat=>⟨a7 [.aa, .d (Ks m), .d (.sl (ny.map .i)), .ptr 0 0, .aa, .aa, .aa, .aa, .aa, .aa, .aa, .aa, .aa, .aa, .aa, .aa, .aa, .aa, .aa, .aa, .aa, .aa, .aa, .aa, .aa, .d (.sl (t.kids.map Tm.d)), .d (.i t.kids.length), .d (.i k)],aD (fun _=> .no) 0 (.row [.d (.i t.op), .d (.i t.n), .d (.sl (t.kids.map Tm.d))]),1⟩)
   (fun k=>k<=t.kids.length/\qb m t.op t.n t.kids 0 ny=qb m t.op t.n (t.kids.drop k) k ny) (fun k=>t.kids.length - k) 0 ⟨Nat.zero_le _,rfl⟩ (br.aR _ (show 0<=1 from ae) ae ff (fun _ _=>rfl) ?_) (fun k hk=> ?_)
  ·exact ct
  obtain⟨hk,th⟩:=hk
  have QN:=nX.1
  refine aY ?_
  refine ai (fun h2=> ?_) (fun h2=> ?_)
  ·simp at h2
   obtain⟨x,hx⟩:=aL h2
   have iK:=List.mem_of_getElem? hx
   have hd:t.kids.drop k=x::t.kids.drop (k+1):=by
    exact RS
   have hh:=Tm.pP iK
   rw[hd]at th
   simp only[qb]at th
   refine gX hx ?_
   refine ai (fun h3=> ?_) (fun h3=> ?_)
   ·have my:t.op=8/\k=1:=by
     simp at h3
     exact⟨h3.1,ae⟩
    rw[if_pos my]at th
    refine aY ?_
    refine qU rfl (uR ny ae _ _) ?_
    refine aY ?_
    refine aO bO ?_
    refine aY ?_
    have e:List.map D.i ny++[D.i t.n]=(ny++[t.n]).map D.i:=aJ
    rw[e]
    refine ay (ih x iK (nX.2 x iK) (ny++[t.n]) oW) rfl ?_
    refine aY ?_
    cases hs:y9 m x (ny++[t.n])with
    |false=>
     rw[hs,Bool.false_and]at th
     refine gX hs ?_
     rw[th]
    |true=>
     exact Xr
   ·have my: ¬ (t.op=8/\k=1):=by
     simp at h3
     intro⟨h4,h5⟩
     exact h3 h4 ae
    rw[if_neg my]at th
    refine aY ?_
    refine ay (ih x iK (nX.2 x iK) ny ae) rfl ?_
    refine aY ?_
    cases hs:y9 m x ny with
    |false=>
     rw[hs,Bool.false_and]at th
     refine gX hs ?_
     rw[th]
    |true=>
     exact Xr
  ·exact OM
mutual
def Dz(v:Int):Tm->Bool
 | .mk op n kids=>if op=1 then n==v else qc v op n kids 0
def qc(v op n:Int):List Tm->Nat->Bool
 |[],_=>false
 |k::l,i=>(Dz v k&& !(op==8&&i==1&&n==v))||qc v op n l (i+1)
end
theorem uS(v:Int)(t:Tm):Dz v t=if t.op=1 then t.n==v else qc v t.op t.n t.kids 0:=by cases t;rfl
@[reducible] def Ns (l:List Int):ab:= .map 3 4 (enc (D.int .i64) (m6 l))
def sD(l:List Int)(x:Tm×Int):Bool:=(x.1.op !=1&&x.1.op !=3)||(x.1.op==1&&l.contains x.1.n)
def kZ(s:List Int×Bool)(x:Tm×Int):List Int×Bool:=(if sD s.1 x=true then s.1 else if x.1.op=1 then y0 s.1 x.1.n else s.1, !sD s.1 x)
def pJ(s:List Int×Bool):Option jL:=if s.2=true then none else some .ret
def vJ(t:Tm):Bool:=(aq (w8 pJ kZ) ([],true) (pre t 1)).2
theorem BO(s:bC)(hs:s.Fits)(t:Tm)(ht:t.Fin):aV Tryz.prog 132 [s.d,t.d] (.ret [.bool (fe s [t]&&vJ t), .i (kH (fe s [t]))]):=by
 refine aV.aF mix Qc aJ ?_
 rw[TM]
 refine aY ?_
 refine ay (E6 s hs [t] aJ (fun x hx=>by simp at hx;subst hx;exact ht)) rfl ?_
 cases h1:fe s [t]with
 |false=>exact HQ
 |true=>
  refine od ?_
  refine fQ (BG t _ _ _ _ ?_)
  refine od ?_
  refine rT (σ:=List Int×Bool) t ht.fits ht.mN [.aa, .aa, .aa, .aa, .ptr 2 0, .ptr 3 0, .ptr 10 0] ?_ bO rfl ff nF (af _ _ _)
   (fun b=>aD (aD (aD (aD (aD (aD (aD (aD (fun _=> .no) 0 (.row s.row)) 1 (.row t.row)) 2 (.row [.d (.bool false)])) 3 (.row [.d (.i 0)])) 6 (.arr 0 55 3 [t.d])) 10 (.row [.mp 9])) 13 (.row t.row)) 9 (Ns b.1)) pJ kZ (fun _=>True) ([],true) trivial rfl (fun id au=> ?_) (fun _ _ _ _ _ _=>trivial) ?_ ?_
  ·exact FK
  ·exact LN
  ·intro L hL vR x hx s' h1 h2 o3 n3 hI hn ho K X cu
   simp only[mJ]
   have hg:=hI.bz
   have q1:o3 10= .row [.mp 9]:=hI.eq 10 ae
   have q2:o3 9=Ns s'.1:=hI.eq 9 ae
   have q3:o3 2= .row [.d (.bool false)]:=hI.eq 2 ae
   have q4:o3 3= .row [.d (.i 0)]:=hI.eq 3 ae
   refine aY ?_
   refine kX hL (pd:=none) ?_ ?_
   ·(repeat(first|rfl|rw[af]|rw[ah _ _ _ _ (by omega)]))
    exact ho
   refine vk q1 q2 ?_
   have hv:sD s'.1 x=((x.1.op !=1&&x.1.op !=3)||(x.1.op==1&&s'.1.contains x.1.n)):=rfl
   rw[<- hv]
   have same:∀ (o':Nat->ab) (n':Nat) (l:List Int),Good o' n'->n3<=n'->(∀id,id<17->o' id=aD o3 9 (Ns l) id)->cG 17 (aD (aD (aD (aD (aD (aD (aD (aD (fun _=> .no) 0 (.row s.row)) 1 (.row t.row)) 2 (.row [.d (.bool false)])) 3 (.row [.d (.i 0)])) 6 (.arr 0 55 3 [t.d])) 10 (.row [.mp 9])) 13 (.row t.row)) 9 (Ns l)) o' n':=fun o' n' l k1 k2 k3=>⟨k1,by have:=hI.le;omega,fun id au=>by
    rw[k3 id au]
    by_cases e:id=9
    ·subst e;rw[af,af]
    ·rw[ah _ _ _ _ e,ah _ _ _ _ e,hI.eq id au,ah _ _ _ _ e]⟩
   cases hb:sD s'.1 x with
   |true=>
    have hp:kZ s' x=(s'.1,false):=by simp[kZ,hb]
    rw[hp]at cu
    refine vk q3 q4 ?_
    refine cu _ _ _ .busy none ae (same _ _ _ ff ae fun id au=> ?_) gY (fun id h3 h4=>by(repeat(first|rfl|rw[af]|rw[ah _ _ _ _ (by omega)])))
    by_cases e9:id=9
    ·exact Oz
    ·by_cases e2:id=2
     ·subst e2;(repeat(first|rfl|rw[af]|rw[ah _ _ _ _ (by omega)]))
      exact q3.symm
     ·by_cases e3:id=3
      ·subst e3;(repeat(first|rfl|rw[af]|rw[ah _ _ _ _ (by omega)]))
       exact q4.symm
      ·exact gY
   |false=>
    refine vk q1 q2 ?_
    refine ai (fun h3=> ?_) (fun h3=> ?_)
    ·have my:x.1.op=1:=by simpa using h3
     have hp:kZ s' x=(y0 s'.1 x.1.n,true):=by simp[kZ,hb,my]
     rw[hp]at cu
     refine vk q1 q2 ?_
     refine cu _ _ _ .busy none ae (same _ _ _ ff ae fun id au=> ?_) gY (fun id h3 h4=>by(repeat(first|rfl|rw[af]|rw[ah _ _ _ _ (by omega)])))
     by_cases e9:id=9
     ·subst e9;(repeat(first|rfl|rw[af]|rw[ah _ _ _ _ (by omega)]))
     ·exact gY
    ·have my: ¬x.1.op=1:=by simpa using h3
     have hp:kZ s' x=(s'.1,true):=by simp[kZ,hb,my]
     rw[hp]at cu
     refine aY ?_
     refine cu _ _ _ .busy none ae (same _ _ _ ff ae fun id au=> ?_) gY (fun id h3 h4=>by(repeat(first|rfl|rw[af]|rw[ah _ _ _ _ (by omega)])))
     by_cases e9:id=9
     ·exact Oz
     ·exact gY
  ·intro o' n' hI
   have hJ:=yX pJ kZ (pre t 1) ([],true) rfl
   have hpf:vJ t=(pJ (aq (w8 pJ kZ) ([],true) (pre t 1)).1).isNone:=hJ
   have q0:o' 2= .row [.d (.bool false)]:=hI.eq 2 ae
   have q1:o' 3= .row [.d (.i 0)]:=hI.eq 3 ae
   rw[hpf]
   generalize (aq (w8 pJ kZ) ([],true) (pre t 1)).1=sf at*
   obtain⟨l,b⟩:=sf
   cases b<;>(simp only[pJ,if_true,if_false,Bool.false_eq_true,oA];simp+contextual (disch:=first|omega|simp only[go_sem,false_implies]) only[go_sem,wrap64,if_pos,q0,q1];simp[kH])
structure Rl where
 fn:Int
 aA:List Tm
 rhs:Tm
 vars:Int
@[reducible] def Rl.row (r:Rl):List V:=[.d (.i r.fn), .d (.sl (r.aA.map Tm.d)), .d (.i r.rhs.op), .d (.i r.rhs.n), .d (.sl (r.rhs.kids.map Tm.d)), .d (.i r.vars)]
@[reducible] def Rl.d (r:Rl):D:= .agg [.i r.fn, .sl (r.aA.map Tm.d), .i r.rhs.op, .i r.rhs.n, .sl (r.rhs.kids.map Tm.d), .i r.vars]
structure Rl.Fin (r:Rl):Prop where
 aA:r.aA.length<=1000000
 all:∀t∈r.aA,t.Fin
 rhs:r.rhs.Fin
theorem BP(l:List Tm)(hl:l.length<=9223372036854775807)(g:Nat)(aP:List V)(base:Nat)(h:Nat->ab)(p:Tm->Bool)(hc:∀r∈V.aE aP,r<base)
 (hp:∀x∈l,iN Tryz.prog g (.d x.d::aP) base h h (.d (.bool (p x)))):iN Tryz.prog 133 [.d (.sl (l.map Tm.d)), .func (.func g) [] aP] base h h (.d (.bool (l.all p))):=by
 have:=xe l hl g aP base (fun _:Unit=>h) (fun _ x=>((),p x)) hc (fun _=>True) (fun _ _ _ _ _=>trivial) (fun x hx _ _=>hp x hx) () trivial
 exact Ij
def kj(s:bC)(t:Tm):Bool:=fe s [t]&&vJ t
theorem Nt(s:bC)(hs:s.Fits)(t:Tm)(ht:t.Fin)(base sp:Nat)(h:Nat->ab)(Cq:h sp= .row s.row)(hb:sp<base):iN Tryz.prog 131 [.d t.d, .ptr sp 0] base h h (.d (.bool (kj s t))):=by
 intro o nx hI K X hK
 have hle:=hI.le
 have hg:=hI.bz
 have q0:o sp= .row s.row:=by rw[hI.eq sp hb,Cq]
 refine cX.aF mix Qb aJ ?_
 rw[TL]
 refine gX q0 ?_
 refine ay (BO s hs t ht) rfl ?_
 cases hr:fe s [t]with
 |false=>
  have e:kj s t=false:=by simp[kj,hr]
  exact Xu
 |true=>
  have e:kj s t=vJ t:=by simp[kj,hr]
  exact Xu
end Go.Proofs.YtnkamdiiakdkgaaGreat
