/-
  A PART OF THE PROOF. Conditions: none.
-/
import Derived.Test.YtonbelhklnmjnaaGreatLt14
set_option linter.unusedSimpArgs false
set_option linter.unusedVariables false
namespace Go.Proofs.YtonbelhklnmjnaaGreat
def Tm.sz (t:Tm):Nat:=(pre t 1).length
def ir(l:List Tm):Nat:=(l.map Tm.sz).sum
theorem Tm.kE (t:Tm):t.CA=(t.sz:Int):=rfl
theorem Tm.jM (t:Tm):t.sz=1+ir t.kids:=by
 unfold Tm.sz ir
 rw[jH,List.length_cons,List.length_flatMap,Nat.add_comm]
 congr 2
 exact List.map_congr_left fun k hk=>nM k _ _
theorem Tm.Sl (op n:Int)(l:List Tm):(Tm.mk op n l).sz=1+ir l:=Tm.jM _
theorem eO(k:Tm)(l:List Tm):ir (k::l)=k.sz+ir l:=by simp[ir]
theorem Tm.vy (t:Tm):1<=t.sz:=by rw[Tm.jM];omega
theorem od(k:Tm)(l:List Tm):Tm.fV (k::l)=Nat.max k.ja (Tm.fV l):=by simp[Tm.fV]
theorem tV:∀ (l:List Tm) (n:Nat),Tm.fV l<=n↔∀k∈l,k.ja<=n
 |[],n=>by simp[Tm.fV]
 |x::l,n=>by
  rw[od]
  simp only[List.mem_cons,forall_eq_or_imp, <- tV l n]
  exact Nat.max_le
theorem Tm.vz (t:Tm):t.ja=1+Tm.fV t.kids:=by cases t;simp[Tm.ja,Tm.kids]
theorem H3:∀t:Tm,∀left depth:Int,eo t left depth=if(t.sz:Int)<=left/\(t.ja:Int)<=depth then left - t.sz else -1:=by
 refine Tm.ck fun t ih left depth=> ?_
 have hs:∀ (l:List Tm) (left d:Int),(∀k∈l,k∈t.kids)->0<=left->0<=d->cl l left d=if(ir l:Int)<=left/\(Tm.fV l:Int)<=d then left - ir l else -1:=by
  intro l
  induction l with
  |nil=>intro left d _ h1 h2;simp[cl,ir,Tm.fV,h1,h2]
  |cons k l oN=>
   intro left d hk h1 h2
   simp only[cl,if_pos h1]
   rw[ih k (hk k (by simp))]
   have hm:(Tm.fV (k::l):Int)<=d↔(k.ja:Int)<=d/\(Tm.fV l:Int)<=d:=by
    have:= @Nat.max_le k.ja (Tm.fV l) d.toNat
    have e:Tm.fV (k::l)=max k.ja (Tm.fV l):=od k l
    rw[e];omega
   simp only[eO,hm]
   by_cases hc:(k.sz:Int)<=left/\(k.ja:Int)<=d
   ·rw[if_pos hc,oN _ _ (fun x hx=>hk x (by simp[hx])) (by omega) h2]
    by_cases tl:(ir l:Int)<=left - k.sz/\(Tm.fV l:Int)<=d
    ·rw[if_pos tl,if_pos (by omega)];omega
    ·rw[if_neg tl,if_neg (by omega)]
   ·rw[if_neg hc,py (by omega),if_neg (by omega)]
 rw[vm,Tm.jM,Tm.vz]
 by_cases h:left<1\/depth<1
 ·rw[if_pos h,if_neg (by omega)]
 ·rw[if_neg h,hs _ _ _ (fun _ h=>h) (by omega) (by omega)]
  by_cases hc:(ir t.kids:Int)<=left - 1/\(Tm.fV t.kids:Int)<=depth - 1
  ·rw[if_pos hc,if_pos (by omega)];omega
  ·rw[if_neg hc,if_neg (by omega)]
theorem kF(t:Tm)(left depth:Int):0<=eo t left depth↔(t.sz:Int)<=left/\(t.ja:Int)<=depth:=by
 rw[H3];split<;>omega
theorem pC(t:Tm):iD t=true↔t.sz<=50/\t.ja<=14:=by
 simp only[iD,decide_eq_true_eq,kF];omega
theorem Tm.wU.Lf {t:Tm}(hf:t.fits)(h:iD t=true):t.wU:=by
 rw[pC]at h
 exact⟨⟨hf,ad⟩,by rw[Tm.kE];omega⟩
theorem yl:∀ (t:Tm) (d m:Int),(∀x∈pre t d,x.2<=m)↔d+t.ja - 1<=m:=by
 refine Tm.ck fun t ih d m=> ?_
 rw[jH,Tm.vz]
 simp only[List.mem_cons,forall_eq_or_imp,List.mem_flatMap]
 have h1:(∀x:Tm×Int,(∃k,k∈t.kids/\x∈pre k (d+1))->x.2<=m)↔∀k∈t.kids,d+1+k.ja - 1<=m:=by
  constructor
  ·intro h k hk
   exact(ih k hk _ _).1 fun x hx=>h x ⟨k,hk,hx⟩
  ·rintro h x ⟨k,hk,hx⟩
   exact(ih k hk _ _).2 (h k hk) x hx
 rw[h1]
 constructor
 ·rintro⟨h2,h3⟩
  have:=(tV t.kids (m - d).toNat).2 fun k hk=>by have:=h3 k hk;omega
  omega
 ·intro h
  have:=(tV t.kids (m - d).toNat).1 ad
  exact⟨ad,fun k hk=>by have:=this k hk;omega⟩
theorem F1(p:Tm->Bool):∀ (t:Tm) (d:Int),(pre t d).all (fun x=>p x.1)=(p t&&t.kids.all fun k=>(pre k (d+1)).all fun x=>p x.1):=by
 intro t d
 rw[jH,List.all_cons,List.all_flatMap]
theorem vA(s:a7):∀ (t:Tm) (d:Int),eD s t=(pre t d).all fun x=>bz s x.1:=by
 refine Tm.ck fun t ih d=> ?_
 rw[F1 (bz s),dF]
 congr 1
 rw[Bool.eq_iff_iff]
 simp only[List.all_eq_true (l:=t.kids)]
 exact forall_congr' fun k=>forall_congr' fun hk=>by rw[ih k hk (d+1)]
theorem Lg{s:a7}{t:Tm}(h:bz s t=true):c6 t.op 1 15=true:=by
 rw[show c6 t.op 1 15=true↔1<=t.op/\t.op<=15 by simp[c6]]
 by_cases h6:c6 t.op 6 15=true
 ·simp[c6]at h6;omega
 ·simp only[bz,if_neg h6]at h
  by_cases h1:t.op=1
  ·omega
  by_cases h2:t.op=2
  ·omega
  by_cases h3:t.op=3
  ·omega
  by_cases h4:t.op=4
  ·omega
  by_cases h5:t.op=5
  ·omega
  by_cases h8:t.op=8
  ·omega
  rw[if_neg h1,if_neg h2,if_neg h3,if_neg h4,if_neg h5,if_neg h8]at h
  cases h
def vB(s:a7)(x:Tm×Int):Bool:= !(decide (12<x.2)|| !c6 x.1.op 1 15|| !bz s x.1)
theorem sU(s:a7):∀ (l:List (Tm×Int)) (n:Int) (b:Bool),(aA (yh fJ (iF s)) (n,b) l).2=(decide (l=[]\/n+l.length<=40)&&l.all (vB s))
 |[],n,b=>by simp[aA]
 |x::l,n,b=>by
  have e1:∀c,ox s n x=c->yh fJ (iF s) (n,b) x=((n+1, !c), !c):=fun c hc=>by show((n+1, !ox s n x),(fJ (n+1, !ox s n x)).isNone)=_;rw[hc];cases c<;>rfl
  have hb:ox s n x=(decide (40<n+1)|| !vB s x):=by simp[ox,vB,Bool.or_assoc]
  rw[List.all_cons]
  cases hg:vB s x with
  |false=>
   have e:ox s n x=true:=by rw[hb,hg];simp
   rw[aA,e1 _ e];simp
  |true=>
   by_cases h40:40<n+1
   ·have:decide (x::l=[]\/n+(x::l).length<=40)=false:=by simp;omega
    have e:ox s n x=true:=by rw[hb];simp[h40]
    rw[this,Bool.false_and,aA,e1 _ e];simp
   ·have e:ox s n x=false:=by rw[hb,hg];simp;omega
    rw[aA,e1 _ e]
    simp only[Bool.not_false,if_true,sU s l,Bool.true_and]
    congr 1
    cases l with
    |nil=>simp;omega
    |cons y l=>simp;omega
theorem pD(s:a7)(t:Tm):mn s t=dP s t:=by
 rw[mn,sU,dP,vA s t 1,Bool.eq_iff_iff]
 have hn:pre t 1≠[]:=by rw[jH];simp
 simp only[Bool.and_eq_true,decide_eq_true_eq,hn,false_or,kF,List.all_eq_true]
 have hd:=yl t 1 12
 constructor
 ·rintro⟨h1,h2⟩
  have h3:∀x∈pre t 1,x.2<=12:=fun x hx=>by have:=h2 x hx;simp[vB]at this;omega
  have:=hd.1 h3
  exact⟨⟨by unfold Tm.sz;omega,ad⟩,fun x hx=>by have:=h2 x hx;simp[vB]at this;exact this.2⟩
 ·rintro⟨⟨h1,h2⟩,h3⟩
  have h4:=hd.2 ad
  refine⟨by unfold Tm.sz at h1;omega,fun x hx=> ?_⟩
  have h5:=h4 x hx
  have h6:=h3 x hx
  have h7:=Lg h6
  simp[vB,h6,h7];omega
theorem H4(s:a7)(l:List Tm):cZ s l=EC s l:=by
 unfold cZ EC;congr 2;funext t;exact pD s t
theorem vC:∀a:Tm,aX a a=true:=by
 refine Tm.ck fun a ih=> ?_
 rw[nL]
 have:gP a.kids a.kids=true:=(jc _ _ rfl).2 fun i x y hx hy=>by
  rw[hx]at hy;injection hy with hy;subst hy;exact ih x (List.mem_of_getElem? hx)
 simp[this]
theorem bY:∀a b:Tm,aX a b=true↔a=b:=by
 refine Tm.ck fun a ih b=>⟨fun h=> ?_,fun e=>e ▸ vC _⟩
 rw[nL]at h
 simp only[Bool.and_eq_true,beq_iff_eq]at h
 obtain⟨⟨⟨h1,h2⟩,h3⟩,h4⟩:=h
 have h5:=(jc _ _ h3).1 h4
 have:a.kids=b.kids:=by
  apply List.ext_getElem?
  intro i
  cases hx:a.kids[i]? with
  |none=>simp at hx;symm;simp;omega
  |some x=>
   have hi:=(List.getElem?_eq_some_iff.1 hx).1
   obtain⟨y,hy⟩:=aw (l:=b.kids) (k:=i) ad
   rw[hy,(ih x (List.mem_of_getElem? hx) y).1 (h5 i x y hx hy)]
 rw[<- Tm.eta a, <- Tm.eta b,h1,h2,this]
def mo(s:a7)(t:Tm):Bool:=
 let k:Int:=t.kids.length
 if t.op=16 then t.n==0&&k==0
 else if t.op=1 then c6 t.n 0 199&&k==0
 else if t.op=2 then c6 t.n (-1000000) 1000000&&k==0
 else if t.op=3 then c6 t.n 0 (s.cons.length - 1)&&k==dN s.cons t.n
 else if t.op=5 then c6 t.n 0 (s.bX.length - 1)&&decide (k<dN s.bX t.n)
 else false
mutual
def vE(s:a7):Tm->Bool
 | .mk op n kids=>F2 s kids&&mo s (.mk op n kids)
def F2(s:a7):List Tm->Bool
 |[]=>true
 |k::l=>vE s k&&F2 s l
end
theorem ym(s:a7):∀l:List Tm,F2 s l=l.all (vE s)
 |[]=>rfl
 |k::l=>by rw[F2,ym s l];rfl
theorem tW(s:a7)(t:Tm):vE s t=(t.kids.all (vE s)&&mo s t):=by cases t;rw[vE,ym];rfl
def vF(s:a7)(t:Tm):Bool:=decide (0<=eo t 80 30)&&vE s t
def Pn(s:a7)(t:Tm):Prop:=vE s t=true
theorem rX{s:a7}{t:Tm}:Pn s t↔mo s t=true/\∀k∈t.kids,Pn s k:=by
 unfold Pn;rw[tW,Bool.and_eq_true,List.all_eq_true];exact and_comm
theorem Pn.lx {s:a7}{t k:Tm}(h:Pn s t)(hk:k∈t.kids):Pn s k:=(rX.1 h).2 k hk
theorem F3{s:a7}{t:Tm}(h:mo s t=true)(h1:t.op=16\/t.op=1\/t.op=2):t.kids=[]/\(t.op=16->t.n=0):=by
 unfold mo at h
 rcases h1 with h1|h1|h1
 ·simp[h1]at h;exact⟨h.2,fun _=>h.1⟩
 ·simp[h1]at h;exact⟨h.2,fun e=>ad⟩
 ·simp[h1]at h;exact⟨h.2,fun e=>ad⟩
theorem Pn.bare {s:a7}{t:Tm}(h:Pn s t)(h1:t.op=16\/t.op=1\/t.op=2):t.kids=[]:=(F3 (rX.1 h).1 h1).1
theorem Pn.bot {s:a7}{t:Tm}(h:Pn s t)(h1:t.op=16):t= .mk 16 0 []:=by
 have h2:=F3 (rX.1 h).1 (.inl h1)
 rw[<- Tm.eta t,h1,h2.1,h2.2 h1]
mutual
def wB(s:a7):Tm->Int->Int->Bool×Int
 | .mk op n kids,left,d=>if left - 1<0\/d<=0\/mo s (.mk op n kids)=false then(false,left - 1)else rY s kids (left - 1) (d - 1)
def rY(s:a7):List Tm->Int->Int->Bool×Int
 |[],left,_=>(true,left)
 |k::l,left,d=>if(wB s k left d).1=true then rY s l (wB s k left d).2 d else(false,(wB s k left d).2)
end
theorem Lh(s:a7)(t:Tm)(left d:Int):wB s t left d=if left - 1<0\/d<=0\/mo s t=false then(false,left - 1)else rY s t.kids (left - 1) (d - 1):=by cases t;rw[wB];rfl
theorem Li(s:a7):∀ (t:Tm) (left d:Int),(wB s t left d).1=(decide ((t.sz:Int)<=left/\(t.ja:Int)<=d)&&vE s t)/\((wB s t left d).1=true->(wB s t left d).2=left - t.sz):=by
 refine Tm.ck fun t ih left d=> ?_
 have key:∀ (ks:List Tm) (left d:Int),(∀k∈ks,k∈t.kids)->0<=left->0<=d->(rY s ks left d).1=(decide ((ir ks:Int)<=left/\(Tm.fV ks:Int)<=d)&&ks.all (vE s))/\((rY s ks left d).1=true->(rY s ks left d).2=left - ir ks):=by
  intro ks
  induction ks with
  |nil=>intro left d _ h0 hd;simp[rY,ir,Tm.fV];omega
  |cons k ks ihk=>
   intro left d Ai h0 hd
   obtain⟨e1,e2⟩:=ih k (Ai k aj) left d
   have hp:=Tm.vy k
   rw[eO,od]
   simp only[rY]
   by_cases h1:(wB s k left d).1=true
   ·rw[if_pos h1]
    have e3:=e2 h1
    rw[e1,Bool.and_eq_true,decide_eq_true_eq]at h1
    obtain⟨i1,i2⟩:=ihk (wB s k left d).2 d (fun x hx=>Ai x lY) ad hd
    rw[e3]at i1 i2|-
    refine⟨?_,fun h=>by have:=i2 h;omega⟩
    rw[i1,Bool.eq_iff_iff]
    simp only[List.all_cons,Bool.and_eq_true,decide_eq_true_eq,h1.2,true_and]
    have:Nat.max k.ja (Tm.fV ks)=max k.ja (Tm.fV ks):=rfl
    rw[this]
    constructor
    ·rintro⟨h2,h3⟩;exact⟨ad,h3⟩
    ·rintro⟨h2,h3⟩;exact⟨ad,h3⟩
   ·rw[if_neg h1]
    refine⟨?_,fun h=>by cases h⟩
    rw[e1]at h1
    show false=_
    symm
    rw[Bool.eq_false_iff]
    intro h2
    apply h1
    simp only[List.all_cons,Bool.and_eq_true,decide_eq_true_eq]at h2|-
    have:Nat.max k.ja (Tm.fV ks)=max k.ja (Tm.fV ks):=rfl
    rw[this]at h2
    exact⟨ad,h2.2.1⟩
 have hs:=Tm.jM t
 have hh:=Tm.vz t
 rw[Lh]
 by_cases h1:left - 1<0\/d<=0\/mo s t=false
 ·rw[if_pos h1]
  refine⟨?_,fun h=>by cases h⟩
  show false=_
  symm
  rw[Bool.eq_false_iff]
  intro h2
  simp only[Bool.and_eq_true,decide_eq_true_eq,tW]at h2
  rcases h1 with h1|h1|h1
  ·omega
  ·omega
  ·rw[h1]at h2;exact absurd h2.2.2 aj
 ·rw[if_neg h1]
  have h2:mo s t=true:=by cases h:mo s t<;>simp_all
  obtain⟨i1,i2⟩:=key t.kids (left - 1) (d - 1) (fun _ h=>h) ad ad
  refine⟨?_,fun h=>by have:=i2 h;omega⟩
  rw[i1,tW,h2,Bool.and_true,Bool.eq_iff_iff]
  simp only[Bool.and_eq_true,decide_eq_true_eq]
  constructor
  ·rintro⟨h3,h4⟩;exact⟨ad,h4⟩
  ·rintro⟨h3,h4⟩;exact⟨ad,h4⟩
theorem aa1(s:a7)(t:Tm):(wB s t 80 30).1=vF s t:=by
 rw[(Li s t 80 30).1,vF]
 congr 1
 rw[Bool.eq_iff_iff,decide_eq_true_eq,decide_eq_true_eq,kF]
mutual
def ED:Tm->Int
 | .mk op _ kids=>if op=16 then 0 else if op=1 then 1 else tA kids 2
def tA:List Tm->Int->Int
 |[],out=>out
 |k::l,out=>tA l (min out (ED k))
end
theorem Lj(t:Tm):ED t=if t.op=16 then 0 else if t.op=1 then 1 else tA t.kids 2:=by cases t;rw[ED];rfl
mutual
def cR(op:Int):Tm->Bool
 | .mk o _ kids=>Aj op kids&&o !=op
def Aj(op:Int):List Tm->Bool
 |[]=>true
 |k::l=>cR op k&&Aj op l
end
theorem vG(op:Int):∀l:List Tm,Aj op l=l.all (cR op)
 |[]=>rfl
 |k::l=>by rw[Aj,vG op l];rfl
theorem lR(op:Int)(t:Tm):cR op t=(t.kids.all (cR op)&&t.op !=op):=by cases t;rw[cR,vG];rfl
theorem EE{s:a7}:∀t:Tm,Pn s t->(0<=ED t/\ED t<=2)/\(1<=ED t↔cR 16 t=true)/\(ED t=2↔cR 16 t=true/\cR 1 t=true):=by
 refine Tm.ck fun t ih hp=> ?_
 have key:∀ (ks:List Tm) (out:Int),(∀k∈ks,k∈t.kids)->0<=out->out<=2->(0<=tA ks out/\tA ks out<=2)/\(1<=tA ks out↔1<=out/\ks.all (cR 16)=true)/\(tA ks out=2↔out=2/\ks.all (cR 16)=true/\ks.all (cR 1)=true):=by
  intro ks
  induction ks with
  |nil=>intro out _ h0 h2;simp[tA,h0,h2]
  |cons k ks ihk=>
   intro out Ai h0 h2
   obtain⟨⟨a1,a2⟩,a3,a4⟩:=ih k (Ai k aj) (hp.lx (Ai k aj))
   obtain⟨b1,b2,b3⟩:=ihk (min out (ED k)) (fun x hx=>Ai x lY) ad ad
   simp only[tA,List.all_cons,Bool.and_eq_true]
   refine⟨b1, ?_, ?_⟩
   ·rw[b2, <- a3]
    constructor
    ·rintro⟨h1,h3⟩;exact⟨ad,ad,h3⟩
    ·rintro⟨h1,h3,h4⟩;exact⟨ad,h4⟩
   ·rw[b3]
    constructor
    ·rintro⟨h1,h3,h4⟩
     have h5:=a4.1 ad
     exact⟨ad,⟨h5.1,h3⟩,h5.2,h4⟩
    ·rintro⟨h1,⟨h3,h4⟩,h5,h6⟩
     have h7:=a4.2 ⟨h3,h5⟩
     exact⟨ad,h4,h6⟩
 rw[Lj]
 by_cases h1:t.op=16
 ·rw[if_pos h1]
  have e:cR 16 t=false:=by rw[lR,h1];simp
  rw[e]
  refine⟨ad,⟨fun h=>ad,fun h=>by cases h⟩,⟨fun h=>ad,fun h=>by cases h.1⟩⟩
 ·rw[if_neg h1]
  by_cases h2:t.op=1
  ·rw[if_pos h2]
   have e0:=hp.bare (.inr (.inl h2))
   have e:cR 16 t=true:=by rw[lR,e0,h2];rfl
   have e2:cR 1 t=false:=by rw[lR,h2];simp
   rw[e,e2]
   exact⟨ad,⟨fun _=>rfl,fun _=>ad⟩,⟨fun h=>ad,fun h=>by cases h.2⟩⟩
  ·rw[if_neg h2]
   obtain⟨k1,k2,k3⟩:=key t.kids 2 (fun _ h=>h) ad ad
   refine⟨k1, ?_, ?_⟩
   ·rw[k2,lR];simp[h1]
   ·rw[k3,lR,lR 1];simp[h1,h2]
mutual
def I7:Tm->Tm->Bool
 | .mk op n kids,b=>if op=16 then true else if op≠b.op\/n≠b.n\/kids.length≠b.kids.length then false else oz kids b.kids
def oz:List Tm->List Tm->Bool
 |[],_=>true
 |_::_,[]=>true
 |k::l,k'::l'=>I7 k k'&&oz l l'
end
theorem Lk(a b:Tm):I7 a b=if a.op=16 then true else if a.op≠b.op\/a.n≠b.n\/a.kids.length≠b.kids.length then false else oz a.kids b.kids:=by cases a;rw[I7];rfl
theorem OG{a b:Tm}:I7 a b=true↔a.op=16\/(a.op=b.op/\a.n=b.n/\a.kids.length=b.kids.length/\oz a.kids b.kids=true):=by
 rw[Lk]
 by_cases h1:a.op=16
 ·simp[h1]
 ·rw[if_neg h1]
  by_cases h2:a.op≠b.op\/a.n≠b.n\/a.kids.length≠b.kids.length
  ·rw[if_pos h2]
   constructor
   ·intro h;cases h
   ·rintro(h|⟨h3,h4,h5,_⟩)
    ·exact absurd h h1
    ·rcases h2 with h|h|h<;>contradiction
  ·rw[if_neg h2]
   constructor
   ·intro h
    exact .inr ⟨Classical.byContradiction fun e=>h2 (.inl e),Classical.byContradiction fun e=>h2 (.inr (.inl e)),Classical.byContradiction fun e=>h2 (.inr (.inr e)),h⟩
   ·rintro(h|h)
    ·exact absurd h h1
    ·exact h.2.2.2
theorem F4:∀a:Tm,I7 a a=true:=by
 refine Tm.ck fun a ih=> ?_
 have:∀l:List Tm,(∀k∈l,k∈a.kids)->oz l l=true:=by
  intro l
  induction l with
  |nil=>intro _;rfl
  |cons k l oN=>intro h;rw[oz,ih k (h k (by simp)),oN (fun x hx=>h x (by simp[hx]))];rfl
 rw[OG]
 exact .inr ⟨rfl,rfl,rfl,this _ fun _ h=>h⟩
theorem F5(n low high:Int):a8 Tryz.prog 71 [.i n, .i low, .i high] (.ret [.bool (c6 n low high)]):=by
 refine a8.aB mix acS aj ?_
 rw[c71]
 refine b9 ?_
 rfl
theorem OH(s:a7)(t:Tm)(hs:s.Fits)(ht:t.kids.length<=9223372036854775807):a8 Tryz.prog 115 [s.d,t.d] (.ret [.bool (mo s t)]):=by
 refine a8.aB mix Z6 aj ?_
 rw[Z5]
 refine b9 ?_
 rcases(by omega:t.op=16\/t.op=1\/t.op=2\/t.op=3\/t.op=5\/(t.op≠16/\t.op≠1/\t.op≠2/\t.op≠3/\t.op≠5))with h|h|h|h|h|h
 ·have hn:mo s t=(t.n==0&&(t.kids.length:Int)==0):=by unfold mo;rw[if_pos h]
  refine fg h ?_
  rw[hn]
 ·have hn:mo s t=(c6 t.n 0 199&&(t.kids.length:Int)==0):=by unfold mo;rw[if_neg (by omega),if_pos h]
  refine fg h ?_
  refine ai (F5 _ _ _) rfl ?_
  refine fg h ?_
  rw[hn]
 ·have hn:mo s t=(c6 t.n (-1000000) 1000000&&(t.kids.length:Int)==0):=by unfold mo;rw[if_neg (by omega),if_neg (by omega),if_pos h]
  refine fg h ?_
  refine ai (F5 _ _ _) rfl ?_
  refine fg h ?_
  rw[hn]
 ·have hn:mo s t=(c6 t.n 0 (s.cons.length - 1)&&(t.kids.length:Int)==dN s.cons t.n):=by unfold mo;rw[if_neg (by omega),if_neg (by omega),if_neg (by omega),if_pos h]
  refine fg h ?_
  rw[wrap64 (by have:=hs.lc;omega) (by have:=hs.lc;omega)]
  refine ai (F5 _ _ _) rfl ?_
  cases hI:c6 t.n 0 (s.cons.length - 1)with
  |false=>
   simp+contextual only[go_sem,h,hI]
   rw[hn,hI];rfl
  |true=>
   obtain⟨h0,x,hx⟩:=gG hI
   simp+contextual only[go_sem,h,hI,hx,h0]
   exact wD
 ·have hn:mo s t=(c6 t.n 0 (s.bX.length - 1)&&decide ((t.kids.length:Int)<dN s.bX t.n)):=by unfold mo;rw[if_neg (by omega),if_neg (by omega),if_neg (by omega),if_neg (by omega),if_pos h]
  refine fg h ?_
  rw[wrap64 (by have:=hs.lf;omega) (by have:=hs.lf;omega)]
  refine ai (F5 _ _ _) rfl ?_
  cases hI:c6 t.n 0 (s.bX.length - 1)with
  |false=>
   simp+contextual only[go_sem,h,hI]
   rw[hn,hI];rfl
  |true=>
   obtain⟨h0,x,hx⟩:=gG hI
   simp+contextual only[go_sem,h,hI,hx,h0]
   exact wD
 ·have hn:mo s t=false:=by unfold mo;rw[if_neg h.1,if_neg h.2.1,if_neg h.2.2.1,if_neg h.2.2.2.1,if_neg h.2.2.2.2]
  have e1:(t.op==16)=false:=by simpa using h.1
  have e2:(t.op==1)=false:=by simpa using h.2.1
  have e3:(t.op==2)=false:=by simpa using h.2.2.1
  have e4:(t.op==3)=false:=by simpa using h.2.2.2.1
  have e5:(t.op==5)=false:=by simpa using h.2.2.2.2
  simp+contextual only[go_sem,e1,e2,e3,e4,e5]
  rw[hn]
theorem Ll(s:a7)(hs:s.Fits):∀t:Tm,t.fits->a8 Tryz.prog 66 [s.d,t.d] (.ret [.bool (vE s t)]):=by
 refine Tm.ck fun t ih hf=> ?_
 have fm:=(Tm.aP _).1 hf
 refine a8.aB mix acR aj ?_
 rw[c66]
 refine b9 ?_
 rw[tW]
 refine aL (fun k:Nat=>⟨bB [.aa, .aa, .ptr 0 0, .ptr 1 0, .aa, .d (.i k)],rV s.row t.row,2⟩)
  (fun k=>k<=t.kids.length/\(t.kids.take k).all (vE s)=true) (fun k=>t.kids.length - k) 0 ⟨Nat.zero_le _,aj⟩ (bM.d2 _ (dk rfl rfl) ad rfl rfl ?_) (fun k hk=> ?_)
 ·exact cM
 refine b9 ?_
 refine ak (fun h2=> ?_) (fun h2=> ?_)
 ·simp at h2
  obtain⟨x,hx⟩:=aw h2
  have de:=List.mem_of_getElem? hx
  refine fg hx ?_
  refine aq (ih x de (fm.2 x de)) rfl ?_
  refine b9 ?_
  refine ao aZ ?_
  refine b9 ?_
  refine ak (fun h3=> ?_) (fun h3=> ?_)
  ·refine b9 ?_
   simp at h3
   exact Td
  ·refine b9 ?_
   simp at h3
   refine au (k+1) ⟨h2,cG hx hk.2 h3⟩ ad (bM.d2 _ (dk rfl rfl) ad rfl rfl ?_)
   exact cM
 ·refine b9 ?_
  simp at h2
  rw[cH hk.2 h2,Bool.true_and]
  refine ai (OH s t hs fm.1) rfl ?_
  exact S7
theorem EF(s:a7)(hs:s.Fits)(t:Tm)(hf:t.fits):a8 Tryz.prog 27 [s.d,t.d] (.ret [.bool (vF s t)]):=by
 refine a8.aB mix acw aj ?_
 rw[c27]
 refine b9 ?_
 refine ai (tU t hf 80 30 ad ad) rfl ?_
 unfold vF
 cases h:decide (0<=eo t 80 30)with
 |false=>simp+contextual only[go_sem,h]
 |true=>
  refine fg h ?_
  refine ai (Ll s hs t hf) rfl ?_
  simp+contextual only[go_sem,h]
def iG(t:Tm):Bool:=decide (0<=eo t 100 35)
theorem vH(t:Tm)(hf:t.fits):a8 Tryz.prog 20 [t.d] (.ret [.bool (iG t)]):=by
 refine a8.aB mix Zz aj ?_
 rw[c20]
 refine b9 ?_
 refine ai (tU t hf 100 35 ad ad) rfl ?_
 refine b9 ?_
 rfl
def yn(t:Tm):D:=if t.op=16 then .iface 133 (.agg [])else if t.op=1 then .iface 134 (.i t.n)else .iface 138 t.d
theorem lookD_0{t:Tm}(h:t.op=16):yn t= .iface 133 (.agg []):=if_pos h
theorem lookD_1{t:Tm}(h:t.op=1):yn t= .iface 134 (.i t.n):=by unfold yn;rw[if_neg (by omega),if_pos h]
theorem lookD_2{t:Tm}(h:t.op≠16)(h1:t.op≠1):yn t= .iface 138 t.d:=by unfold yn;rw[if_neg h,if_neg h1]
@[go_sem] theorem Lm:oX Tryz.prog 133=true:=af
@[go_sem] theorem MQ:oX Tryz.prog 134=true:=af
@[go_sem] theorem OI:oX Tryz.prog 138=true:=af
theorem je(n low high:Int):a8 Tryz.prog 67 [.i n, .i low, .i high] (.ret [.bool (c6 n low high)]):=by
 refine a8.aB mix ZI aj ?_
 rw[c67]
 refine b9 ?_
 rfl
theorem Ak(t:Tm):a8 Tryz.prog 113 [t.d] (.ret [yn t]):=by
 refine a8.aB mix QN aj ?_
 rw[UI]
 by_cases h0:t.op=16
 ·have Dp:(t.op==16)=true:=by simpa using h0
  rw[lookD_0 h0]
  exact yT Dp
 ·have Dp:(t.op==16)=false:=by simpa using h0
  by_cases h1:t.op=1
  ·have cB:(t.op==1)=true:=by simpa using h1
   rw[lookD_1 h1]
   exact MZ Dp cB
  ·have cB:(t.op==1)=false:=by simpa using h1
   rw[lookD_2 h0 h1]
   exact MZ Dp cB
theorem aa2(a b:List Tm)(ha:a.length<=9223372036854775807)(hb:b.length<=9223372036854775807)(g:Nat)(h:∀x∈a,∀y∈b,a8 Tryz.prog g [x.d,y.d] (.ret [.bool (I7 x y)]))(o:Nat->ab)(nx:Nat)(hg:Good o nx)(K X:V->(Nat->ab)->Nat->Prop)
 (hK:∀o' nx',nx<=nx'->Good o' nx'->(∀j,j<nx->o' j=o j)->K (.d (.bool (a.length==b.length&&oz a b))) o' nx'):
 cO Tryz.prog 114 [.d (.sl (a.map Tm.d)), .d (.sl (b.map Tm.d)), .func (.func g) [] []] o nx K X:=by
 refine cO.aB mix KW aj ?_
 rw[Oq]
 refine iL ?_
 refine ak (fun h1=> ?_) (fun h1=> ?_)
 ·refine aJ ?_
  have:(a.length==b.length&&oz a b)=false:=by
   have:(a.length==b.length)=false:=by
    rw[Bool.eq_false_iff];intro h
    simp at h;simp[h]at h1
   rw[this];rfl
  rw[this]at hK
  exact hK _ _ ad (hg.mono ad) (fun _ _=>rfl)
 ·have hl:a.length=b.length:=by simp at h1;omega
  have zm:(a.length==b.length)=true:=by simpa using hl
  rw[zm,Bool.true_and]at hK
  refine iL ?_
  refine aL (fun k:Nat=>⟨bB [.d (.sl (a.map Tm.d)), .d (.sl (b.map Tm.d)), .func (.func g) [] [], .aa, .aa, .aa, .aa, .aa, .aa, .aa, .aa, .aa, .aa, .aa, .aa, .d (.sl (a.map Tm.d)), .d (.i a.length), .d (.i k)],o,nx⟩)
   (fun k=>k<=a.length/\oz a b=oz (a.drop k) (b.drop k)) (fun k=>a.length - k) 0 ⟨Nat.zero_le _,aj⟩ (bM.bT _ (Nat.le_refl _) ad hg (fun _ _=>rfl) ?_) (fun k hk=> ?_)
  ·exact cM
  refine aJ ?_
  refine ak (fun h2=> ?_) (fun h2=> ?_)
  ·simp at h2
   obtain⟨x,hx⟩:=aw h2
   obtain⟨y,hy⟩:=aw (l:=b) (k:=k) ad
   have hd:oz (a.drop k) (b.drop k)=(I7 x y&&oz (a.drop (k+1)) (b.drop (k+1))):=by
    obtain⟨g1,g2⟩:=List.getElem?_eq_some_iff.1 hx
    obtain⟨g3,g4⟩:=List.getElem?_eq_some_iff.1 hy
    rw[List.drop_eq_getElem_cons g1,List.drop_eq_getElem_cons g3,g2,g4,oz]
   refine SB hx hy ?_
   refine ai (h x (List.mem_of_getElem? hx) y (List.mem_of_getElem? hy)) rfl ?_
   refine aJ ?_
   refine ak (fun h3=> ?_) (fun h3=> ?_)
   ·refine aJ ?_
    simp at h3
    have:oz a b=false:=by rw[hk.2,hd,h3];rfl
    rw[this]at hK
    refine hK _ _ ad ?_ (fun j hj=>by(repeat(first|rfl|rw[ae]|rw[ah _ _ _ _ (by omega)])))
    exact dv
   ·refine aJ ?_
    simp at h3
    refine au (k+1) ⟨h2,by rw[hk.2,hd,h3];rfl⟩ ad (bM.bT _ (Nat.le_refl _) ad hg (fun j hj=>by(repeat(first|rfl|rw[ae]|rw[ah _ _ _ _ (by omega)]))) ?_)
    exact cM
  ·refine aJ ?_
   simp at h2
   have:oz a b=true:=by rw[hk.2,List.drop_eq_nil_of_le h2];rfl
   rw[this]at hK
   exact hK _ _ ad (hg.mono ad) (fun _ _=>rfl)
theorem OJ(s:a7)(t:Tm)(hs:s.Fits)(ht:t.kids.length<=9223372036854775807):a8 Tryz.prog 159 [s.d,t.d] (.ret [.bool (mo s t)]):=by
 refine a8.aB mix Q6 aj ?_
 rw[U2]
 refine aJ ?_
 refine bg (Ak t) ?_
 rcases(by omega:t.op=16\/t.op=1\/(t.op≠16/\t.op≠1))with h|h|⟨h0,h1⟩
 ·have hn:mo s t=(t.n==0&&(t.kids.length:Int)==0):=by unfold mo;rw[if_pos h]
  rw[lookD_0 h]
  refine eG h ?_
  rw[hn]
 ·have hn:mo s t=(c6 t.n 0 199&&(t.kids.length:Int)==0):=by unfold mo;rw[if_neg (by omega),if_pos h]
  rw[lookD_1 h]
  refine dD h ?_
  refine ai (je _ _ _) rfl ?_
  refine eG h ?_
  rw[hn]
 rw[lookD_2 h0 h1]
 rcases(by omega:t.op=2\/t.op=3\/t.op=5\/(t.op≠2/\t.op≠3/\t.op≠5))with h|h|h|h
 ·have hn:mo s t=(c6 t.n (-1000000) 1000000&&(t.kids.length:Int)==0):=by unfold mo;rw[if_neg (by omega),if_neg (by omega),if_pos h]
  refine dD h ?_
  refine ai (je _ _ _) rfl ?_
  refine eG h ?_
  rw[hn]
 ·have hn:mo s t=(c6 t.n 0 (s.cons.length - 1)&&(t.kids.length:Int)==dN s.cons t.n):=by unfold mo;rw[if_neg (by omega),if_neg (by omega),if_neg (by omega),if_pos h]
  refine dD h ?_
  rw[wrap64 (by have:=hs.lc;omega) (by have:=hs.lc;omega)]
  refine aq (je _ _ _) rfl ?_
  cases hI:c6 t.n 0 (s.cons.length - 1)with
  |false=>
   refine ud h hI ?_
   refine ao aZ ?_
   refine ud h hI ?_
   rw[hn,hI];rfl
  |true=>
   obtain⟨h0,x,hx⟩:=gG hI
   refine Dv h hI hx h0 ?_
   refine ao aZ ?_
   refine ud h hI ?_
   exact wD
 ·have hn:mo s t=(c6 t.n 0 (s.bX.length - 1)&&decide ((t.kids.length:Int)<dN s.bX t.n)):=by unfold mo;rw[if_neg (by omega),if_neg (by omega),if_neg (by omega),if_neg (by omega),if_pos h]
  refine dD h ?_
  rw[wrap64 (by have:=hs.lf;omega) (by have:=hs.lf;omega)]
  refine aq (je _ _ _) rfl ?_
  cases hI:c6 t.n 0 (s.bX.length - 1)with
  |false=>
   refine ud h hI ?_
   refine ao aZ ?_
   refine ud h hI ?_
   rw[hn,hI];rfl
  |true=>
   obtain⟨h0,x,hx⟩:=gG hI
   refine Dv h hI hx h0 ?_
   refine ao aZ ?_
   refine ud h hI ?_
   exact wD
 ·have hn:mo s t=false:=by unfold mo;rw[if_neg h0,if_neg h1,if_neg h.1,if_neg h.2.1,if_neg h.2.2]
  have e3:(t.op==2)=false:=by simpa using h.1
  have e4:(t.op==3)=false:=by simpa using h.2.1
  have e5:(t.op==5)=false:=by simpa using h.2.2
  refine yS e3 e4 e5 ?_
  refine ao aZ ?_
  refine aJ ?_
  rw[hn]
theorem Ln(n:Int)(x:D){o:Nat->ab}:eH Tryz.prog o .eql 131 false (.d (.iface 133 x)) (.d (.iface 134 (.i n)))=some (.d (.bool false),[],[]):=af
theorem Lo(m n:Int){o:Nat->ab}:eH Tryz.prog o .eql 131 false (.d (.iface 134 (.i m))) (.d (.iface 134 (.i n)))=some (.d (.bool (m==n)),[],[]):=af
theorem Lp(n:Int)(x:D){o:Nat->ab}:eH Tryz.prog o .eql 131 false (.d (.iface 138 x)) (.d (.iface 134 (.i n)))=some (.d (.bool false),[],[]):=af
theorem Lq{s:a7}:∀a:Tm,a.fits->Pn s a->∀b:Tm,b.fits->Pn s b->a8 Tryz.prog 65 [a.d,b.d] (.ret [.bool (I7 a b)]):=by
 refine Tm.ck fun a ih ha pa b hb pb=> ?_
 have OK:=(Tm.aP _).1 ha
 have IX:=(Tm.aP _).1 hb
 refine a8.aB mix ZH aj ?_
 rw[c65,Lk]
 refine aJ ?_
 refine bg (Ak a) ?_
 by_cases h:a.op=16
 ·rw[lookD_0 h,if_pos h]
  exact cI
 rw[if_neg h]
 by_cases h1:a.op=1
 ·have ka:=pa.bare (.inr (.inl h1))
  rw[lookD_1 h1]
  refine aJ ?_
  refine bg (Ak b) ?_
  by_cases MM:b.op=16
  ·rw[lookD_0 MM,if_pos (.inl (by omega))]
   simp+contextual (disch:=first|omega|simp only[go_sem,false_implies]) only[go_sem,wrap64,if_pos,Ln]
  by_cases Dq:b.op=1
  ·have kb:=pb.bare (.inr (.inl Dq))
   rw[lookD_1 Dq]
   simp+contextual (disch:=first|omega|simp only[go_sem,false_implies]) only[go_sem,wrap64,if_pos,Lo]
   by_cases e:a.n=b.n
   ·rw[if_neg (by rw[h1,Dq,e,ka,kb];simp),ka,e]
    simp[oz]
   ·rw[if_pos (.inr (.inl e))]
    simp;exact fun h=>e h.symm
  ·rw[lookD_2 MM Dq,if_pos (.inl (by omega))]
   simp+contextual (disch:=first|omega|simp only[go_sem,false_implies]) only[go_sem,wrap64,if_pos,Lp]
 rw[lookD_2 h h1]
 by_cases e1:a.op=b.op
 ·have e1':(a.op==b.op)=true:=by simpa using e1
  by_cases e2:a.n=b.n
  ·have e2':(a.n==b.n)=true:=by simpa using e2
   refine ud e1' e2' ?_
   refine bd (aa2 a.kids b.kids OK.1 IX.1 65 (fun x hx y hy=>ih x hx (OK.2 x hx) (pa.lx hx) y (IX.2 y hy) (pb.lx hy)) _ _ dv _ _ fun o2 n2 m1 m2 m3=> ?_)
   refine ud e1' e2' ?_
   by_cases e3:a.kids.length=b.kids.length
   ·rw[if_neg (by simp[e1,e2,e3])]
    simp[e3]
   ·rw[if_pos (.inr (.inr e3))]
    simp[e3]
  ·have e2':(a.n==b.n)=false:=by simpa using e2
   rw[if_pos (.inr (.inl e2))]
   exact MZ e1' e2'
 ·have e1':(a.op==b.op)=false:=by simpa using e1
  rw[if_pos (.inl e1)]
  exact yT e1'
theorem vI{s:a7}:∀t:Tm,t.fits->Pn s t->a8 Tryz.prog 69 [t.d] (.ret [.i (ED t)]):=by
 refine Tm.ck fun t ih ht hp=> ?_
 have Bq:=(Tm.aP _).1 ht
 refine a8.aB mix ZK aj ?_
 rw[c69,Lj]
 refine aJ ?_
 refine bg (Ak t) ?_
 by_cases h0:t.op=16
 ·rw[lookD_0 h0,if_pos h0]
  exact cI
 rw[if_neg h0]
 by_cases h1:t.op=1
 ·rw[lookD_1 h1,if_pos h1]
  exact cI
 rw[if_neg h1,lookD_2 h0 h1]
 refine jk ?_
 refine aL (fun i:Nat×Int=>⟨bB [.aa, .aa, .aa, .d (.i i.2), .aa, .aa, .aa, .aa, .aa, .aa, .aa, .aa, .aa, .aa, .aa, .aa, .aa, .aa, .aa, .aa, .aa, .d (.sl (t.kids.map Tm.d)), .d (.i t.kids.length), .d (.i i.1)],aM (fun _=> .no) 0 (.row t.row),1⟩)
  (fun i=>i.1<=t.kids.length/\tA t.kids 2=tA (t.kids.drop i.1) i.2/\0<=i.2/\i.2<=2) (fun i=>t.kids.length - i.1) (0,2) ⟨Nat.zero_le _,rfl,aZ,aZ⟩ ?_ ?_
 ·dsimp only
  refine bM.bT _ ad ad dv (fun j hj=> ?_) ?_
  ·exact dC
  ·exact cM
 rintro⟨i,m⟩ ⟨hi,hk,m0,m2⟩
 simp only at hi hk m0 m2
 refine jk ?_
 refine ak (fun h5=> ?_) (fun h5=> ?_)
 ·simp at h5
  obtain⟨x,hx⟩:=aw h5
  have de:=List.mem_of_getElem? hx
  have hkx:=(EE x (hp.lx de)).1
  have hd:t.kids.drop i=x::t.kids.drop (i+1):=by
   obtain⟨g1,g2⟩:=List.getElem?_eq_some_iff.1 hx
   exact SY
  rw[hd,tA]at hk
  have aa3:(if ED x<m then ED x else m)=min m (ED x):=by rw[Int.min_def];split<;>split<;>omega
  refine eG hx ?_
  refine ai (ih x de (Bq.2 x de) (hp.lx de)) rfl ?_
  refine jk ?_
  first
   |rw[aa3]
   |skip
  refine au (i+1,min m (ED x)) ⟨h5,hk,by dsimp only;omega,by dsimp only;omega⟩ mL (bM.bT _ ad ad dv (fun j hj=> ?_) ?_)
  ·exact dC
  ·exact cM
 ·simp at h5
  refine jk ?_
  rw[List.drop_eq_nil_of_le h5]at hk
  rw[hk];rfl
def wV{σ:Type}(step:σ->Tm->σ×Bool):σ->List Tm->Int->Int
 |_,[],_=> -1
 |s,x::l,k=>if(step s x).2=true then wV step (step s x).1 l (k+1)else k
theorem F6{σ:Type}(step:σ->Tm->σ×Bool):∀ (l:List Tm) (s:σ) (k:Int),0<=k->(0<=wV step s l k↔(aA step s l).2=false)
 |[],_,_,_=>by simp[wV,aA]
 |x::l,s,k,hk=>by
  have ih:=F6 step l (step s x).1 (k+1) ad
  by_cases h:(step s x).2=true
  ·simp only[wV,aA,h,if_true];exact ih
  ·simp[wV,aA,h,hk]
theorem Wi{σ:Type}(l:List Tm)(hl:l.length<=9223372036854775807)(g:Nat)(aG:List V)(base:Nat)(H:σ->Nat->ab)(step:σ->Tm->σ×Bool)(hc:∀r∈V.aO aG,r<base)(ok:σ->Prop)(bp:∀x∈l,∀s,ok s->(step s x).2=true->ok (step s x).1)
 (h:∀x∈l,∀s,ok s->fM Tryz.prog g (.d x.d::aG) base (H s) (H (step s x).1) (.d (.bool (!(step s x).2)))) (s:σ) (gB:ok s):
 fM Tryz.prog 204 [.d (.sl (l.map Tm.d)), .func (.func g) [] aG] base (H s) (H (aA step s l).1) (.d (.i (wV step s l 0))):=by
 intro o nx hI K X hK
 have fG:∀r∈V.aO aG,r<nx:=fun r hr=>Nat.lt_of_lt_of_le (hc r hr) hI.le
 refine cO.aB mix RE aj ?_
 rw[Vy]
 refine b9 ?_
 refine aL (fun i:Nat×σ×(Nat->ab)×Nat=>⟨bB [.d (.sl (l.map Tm.d)), .func (.func g) [] aG, .aa, .aa, .aa, .aa, .aa, .d (.i l.length), .d (.i i.1)],i.2.2.1,i.2.2.2⟩)
  (fun i=>i.1<=l.length/\cW base (H i.2.1) i.2.2.1 i.2.2.2/\nx<=i.2.2.2/\(∀id,base<=id->id<nx->i.2.2.1 id=o id)/\aA step s l=aA step i.2.1 (l.drop i.1)/\ok i.2.1/\wV step s l 0=wV step i.2.1 (l.drop i.1) i.1) (fun i=>l.length - i.1) (0,s,o,nx)
  ⟨Nat.zero_le _,hI,Nat.le_refl _,fun _ _ _=>rfl,rfl,gB,rfl⟩ ?_ ?_
 ·dsimp only
  refine bM.bT _ (Nat.le_refl _) ad hI.bP (fun _ _=>rfl) ?_
  exact cM
 rintro⟨k,s',o',nx'⟩ ⟨hk,ow,hn,dc,hf,jR,kG⟩
 simp only at hk ow hn dc hf jR kG
 refine b9 ?_
 refine ak (fun h1=> ?_) (fun h1=> ?_)
 ·simp at h1
  obtain⟨x,hx⟩:=aw h1
  have de:=List.mem_of_getElem? hx
  have hd:l.drop k=x::l.drop (k+1):=by
   rw[List.drop_eq_getElem_cons h1]
   rw[List.getElem?_eq_getElem h1]at hx;injection hx with hx;rw[hx]
  rw[hd]at hf kG
  simp only[aA,wV]at hf kG
  refine GG hx ?_
  refine cY (h x de s' jR _ _ (ow.mono ad) _ _ fun o2 n2 m1 m2 m3=> ?_)
  cases hb:(step s' x).2 with
  |true=>
   rw[hb]at hf kG
   simp only[if_true]at hf kG
   refine aJ ?_
   have Ct:∀r∈V.aO aG,r<n2+1+1:=fun r hr=>by have:=fG r hr;omega
   refine au (k+1,(step s' x).1,o2,n2+1+1) ⟨h1,m2.mono (show n2<=n2+1+1 from ad),(show nx<=n2+1+1 from ad),fun id i1 i2=>(m3 id i1 ad).trans (dc id i1 i2),hf,bp x de s' jR hb,by rw[kG];rfl⟩ mL (bM.bT _ (show nx<=n2+1+1 from ad) (Nat.le_refl _) (m2.mono (show n2<=n2+1+1 from ad)).bP (fun _ _=>rfl) ?_)
   exact cM
  |false=>
   rw[hb]at hf kG
   simp only[Bool.false_eq_true,if_false]at hf kG
   refine b9 ?_
   rw[hf,kG]at hK
   exact hK _ _ ad (m2.mono ad) fun id i1 i2=>(m3 id i1 ad).trans (dc id i1 i2)
 ·simp at h1
  refine b9 ?_
  rw[List.drop_eq_nil_of_le h1]at hf kG
  rw[hf,kG]at hK
  exact hK _ _ ad (ow.mono ad) dc
theorem sV{σ:Type}(l:List Tm)(hl:l.length<=9223372036854775807)(g:Nat)(aG:List V)(base:Nat)(H:σ->Nat->ab)(step:σ->Tm->σ×Bool)(hc:∀r∈V.aO aG,r<base)(ok:σ->Prop)(bp:∀x∈l,∀s,ok s->(step s x).2=true->ok (step s x).1)
 (h:∀x∈l,∀s,ok s->fM Tryz.prog g (.d x.d::aG) base (H s) (H (step s x).1) (.d (.bool (!(step s x).2)))) (s:σ) (gB:ok s):
 fM Tryz.prog 157 [.d (.sl (l.map Tm.d)), .func (.func g) [] aG] base (H s) (H (aA step s l).1) (.d (.bool (!(aA step s l).2))):=by
 intro o nx hI K X hK
 have fG:∀r∈V.aO aG,r<nx:=fun r hr=>Nat.lt_of_lt_of_le (hc r hr) hI.le
 refine cO.aB mix Q4 aj ?_
 rw[U0]
 refine iL ?_
 refine bd (Wi l hl g aG base H step hc ok bp h s gB _ _ ?_ _ _ fun o2 n2 m1 m2 m3=> ?_)
 ·exact hI.mono ad
 refine iL ?_
 have e:decide (0<=wV step s l 0)= !(aA step s l).2:=by
  have:=F6 step l s 0 ad
  rw[Bool.eq_iff_iff,decide_eq_true_eq,this]
  cases(aA step s l).2<;>simp
 rw[e]
 exact hK _ _ ad (m2.mono ad) fun id i1 i2=>m3 id i1 ad
theorem adf{x:Tm}{g:Nat}{aG:List V}{base c bx:Nat}{h h2 O:Nat->ab}{r:Bool}(hS:fM Tryz.prog g (.d x.d::aG) base h h2 (.d (.bool r)))(hb:base<=bx)(PE:bx<c)(hO:O bx= .row [.func (.func g) [] aG])(hc:∀r∈V.aO aG,r<base):
 fM Tryz.prog 158 [.d x.d, .ptr bx 0] c (ext base h O) (ext base h2 O) (.d (.bool (!r))):=by
 intro o nx hI K X hK
 have hle:=hI.le
 have fG:∀r∈V.aO aG,r<nx:=fun r hr=>by have:=hc r hr;omega
 have ho:o bx= .row [.func (.func g) [] aG]:=by
  exact Jk
 have y1:∀k,bx≠nx+k:=fun k=>ad
 have y2:bx≠nx:=ad
 refine cO.aB mix Q5 aj ?_
 rw[U1]
 refine MT ho y1 y2 ?_
 refine cY ((hS.ext (by omega:base<=c) O) _ _ ?_ _ _ fun o2 n2 m1 m2 m3=> ?_)
 ·exact hI.aM ad ad ad rfl
 refine iL ?_
 exact hK _ _ ad (m2.mono ad) fun id i1 i2=>by rw[m3 id i1 (by omega),ah _ _ _ _ (by omega)]
theorem yo{σ:Type}(l:List Tm)(hl:l.length<=9223372036854775807)(g:Nat)(aG:List V)(base:Nat)(H:σ->Nat->ab)(step:σ->Tm->σ×Bool)(hc:∀r∈V.aO aG,r<base)(ok:σ->Prop)(bp:∀x∈l,∀s,ok s->(step s x).2=true->ok (step s x).1)
 (h:∀x∈l,∀s,ok s->fM Tryz.prog g (.d x.d::aG) base (H s) (H (step s x).1) (.d (.bool (step s x).2))) (s:σ) (gB:ok s):
 fM Tryz.prog 111 [.d (.sl (l.map Tm.d)), .func (.func g) [] aG] base (H s) (H (aA step s l).1) (.d (.bool (aA step s l).2)):=by
 intro o nx hI K X hK
 have hle:=hI.le
 have fG:∀r∈V.aO aG,r<nx:=fun r hr=>Nat.lt_of_lt_of_le (hc r hr) hI.le
 refine cO.aB mix QM aj ?_
 rw[UH]
 refine iL ?_
 refine bd (sV l hl 158 [.ptr nx 0] (nx+1) (fun s=>ext base (H s) (aM o nx (.row [.func (.func g) [] aG]))) step mK ok bp (fun x hx s hs=>adf (h x hx s hs) hle ad (ae _ _ _) hc) s gB _ _ ?_ _ _ fun o2 n2 m1 m2 m3=> ?_)
 ·have hr:(ab.row [V.func (.func g) [] aG]).refs.all (fun r=>decide (r<nx+4))=true:=by
   rw[List.all_eq_true]
   intro r hr
   have h1:r∈V.aO aG:=by simpa[ab.refs,V.aO,V.refs]using hr
   have:=fG r h1
   simp;omega
  exact(hI.aM ad ad ad hr).ext ad ad
 refine iL ?_
 refine hK _ _ ad ⟨(m2.mono ad).bP,by have:=m2.le;omega,fun id aC=> ?_⟩ fun id i1 i2=> ?_
 ·exact yW
 ·exact Jh
def F7(s:a7)(d:Int)(left:Int)(k:Tm):Int×Bool:=((wB s k left d).2,(wB s k left d).1)
theorem CB(s:a7)(d:Int):∀ (l:List Tm) (left:Int),aA (F7 s d) left l=((rY s l left d).2,(rY s l left d).1)
 |[],_=>by simp[aA,rY]
 |k::l,left=>by
  have ih:=CB s d l (wB s k left d).2
  by_cases h:(wB s k left d).1=true
  ·simp only[aA,rY,F7,h,if_true];exact ih
  ·simp[aA,rY,F7,h]
def WdC(s:a7)(t:Tm):Prop:=∀ (left d:Int), -1000000<=left/\left<=1000000-> -1000<=d/\d<=1000->∀ (base lp:Nat) (h:Nat->ab),lp<base->
    fM Tryz.prog 116 [.d s.d, .d t.d, .ptr lp 0, .d (.i d)] base (aM h lp (.row [.d (.i left)])) (aM h lp (.row [.d (.i (wB s t left d).2)])) (.d (.bool (wB s t left d).1))
theorem H5(s:a7)(hs:s.Fits):∀t:Tm,t.fits->WdC s t:=by
 refine Tm.ck fun t ih ht=> ?_
 have Bq:=(Tm.aP _).1 ht
 intro left d hl hd base lp h hlp o nx hI K X hK
 have hle:=hI.le
 have ho:o lp= .row [.d (.i left)]:=by rw[hI.eq lp hlp,ae]
 have y1:∀k,lp≠nx+k:=fun k=>ad
 have y2:lp≠nx:=ad
 rw[Lh]at hK
 have fin:∀ (o':Nat->ab) (n':Nat) (v:Int),nx<=n'->Good o' n'->o' lp= .row [.d (.i v)]->(∀j,j<nx->j≠lp->o' j=o j)->cW base (aM h lp (.row [.d (.i v)])) o' n'/\∀id,base<=id->id<nx->o' id=o id:=fun o' n' v k1 k2 k3 k4=>by
  refine⟨⟨k2,ad,fun id aC=> ?_⟩,fun id i1 i2=>k4 id i2 ad⟩
  by_cases e:id=lp
  ·subst e;rw[k3,ae]
  ·rw[k4 id (by omega) e,hI.eq id aC,ah _ _ _ _ e,ah _ _ _ _ e]
 have hg:=hI.bP
 refine cO.aB mix QO aj ?_
 rw[UJ]
 refine MT ho y1 y2 ?_
 by_cases h1:left - 1<0
 ·have cB:decide (0<=left - 1)=false:=by simp;omega
  rw[if_pos (.inl h1)]at hK
  refine MV cB ho y1 y2 ?_
  refine(fun q=>hK _ _ ad (And.left q) (And.right q)) (fin _ (nx+31) (left - 1) ad ?_ (ae _ _ _) fun j j1 j2=> ?_)
  ·exact dv
  ·exact dC
 have cB:decide (0<=left - 1)=true:=by simp;omega
 by_cases h2:d<=0
 ·have kn:decide (0<d)=false:=by simpa using h2
  rw[if_pos (.inr (.inl h2))]at hK
  refine MU cB kn ho y1 y2 ?_
  refine(fun q=>hK _ _ ad (And.left q) (And.right q)) (fin _ (nx+31) (left - 1) ad ?_ (ae _ _ _) fun j j1 j2=> ?_)
  ·exact dv
  ·exact dC
 have kn:decide (0<d)=true:=by simp;omega
 refine MU cB kn ho y1 y2 ?_
 refine ai (OJ s t hs Bq.1) rfl ?_
 cases hn:mo s t with
 |false=>
  rw[if_pos (.inr (.inr hn))]at hK
  refine MU cB kn ho y1 y2 ?_
  refine(fun q=>hK _ _ ad (And.left q) (And.right q)) (fin _ (nx+31) (left - 1) ad ?_ (ae _ _ _) fun j j1 j2=> ?_)
  ·exact dv
  ·exact dC
 |true=>
  rw[if_neg (by rw[hn];simp;omega)]at hK
  refine MU cB kn ho y1 y2 ?_
  have Ys:=CB s (d - 1) t.kids (left - 1)
  have clo:∀ (O:Nat->ab) (k:Tm) (v:Int),k∈t.kids-> -1000000<=v/\v<=1000000->O nx= .row s.row->O (nx+2)= .row [.ptr lp 0]->O (nx+3)= .row [.d (.i d)]->
   fM Tryz.prog 160 [.d k.d, .ptr nx 0, .ptr (nx+2) 0, .ptr (nx+3) 0] (nx+4) (ext base (aM h lp (.row [.d (.i v)])) O) (ext base (aM h lp (.row [.d (.i (wB s k v (d - 1)).2)])) O) (.d (.bool (wB s k v (d - 1)).1)):=by
   intro O k v hk hv p0 p2 p3 o2 n2 JZ K2 X2 hK2
   have Yw:=JZ.le
   have r0:o2 nx= .row s.row:=by rw[JZ.eq nx (by omega)];unfold ext;rw[if_neg (by omega),p0]
   have r2:o2 (nx+2)= .row [.ptr lp 0]:=by rw[JZ.eq _ (by omega)];unfold ext;rw[if_neg (by omega),p2]
   have r3:o2 (nx+3)= .row [.d (.i d)]:=by rw[JZ.eq _ (by omega)];unfold ext;rw[if_neg (by omega),p3]
   have z0:∀j,nx≠n2+j:=fun j=>ad
   have z2:∀j,nx+2≠n2+j:=fun j=>ad
   have z3:∀j,nx+3≠n2+j:=fun j=>ad
   have z4:nx≠n2/\nx+2≠n2/\nx+3≠n2:=ad
   refine cO.aB mix Q7 aj ?_
   rw[U3]
   simp+contextual (disch:=first|omega|simp only[go_sem,false_implies]) only[go_sem,wrap64,if_pos,r0,r2,r3,z0,z2,z3,z4.1,z4.2.1,z4.2.2,Nat.add_assoc,Nat.left_eq_add,Nat.add_eq_left,Nat.add_left_cancel_iff]
   refine bd ((ih k hk (Bq.2 k hk) v (d - 1) hv ad base lp h hlp).ext (by omega:base<=nx+4) O _ _ ?_ _ _ fun o3 n3 m1 m2 m3=> ?_)
   ·exact JZ.aM ad ad ad rfl
   refine iL ?_
   exact hK2 _ _ ad (m2.mono ad) fun id i1 i2=>by rw[m3 id i1 (by omega),ah _ _ _ _ (by omega)]
  refine bd (cO.gen fun O hO=> ?_)
  have p0:O nx= .row s.row:=by rw[hO];(repeat(first|rfl|rw[ae]|rw[ah _ _ _ _ (by omega)]))
  have p2:O (nx+2)= .row [.ptr lp 0]:=by rw[hO];(repeat(first|rfl|rw[ae]|rw[ah _ _ _ _ (by omega)]))
  have p3:O (nx+3)= .row [.d (.i d)]:=by rw[hO];(repeat(first|rfl|rw[ae]|rw[ah _ _ _ _ (by omega)]))
  obtain⟨hIO,dc⟩:=fin O (nx+28) (left - 1) ad (by rw[hO];exact dv) (by rw[hO];exact ae _ _ _) (fun j j1 j2=>by rw[hO];(repeat(first|rfl|rw[ae]|rw[ah _ _ _ _ (by omega)])))
  refine yo t.kids Bq.1 160 [.ptr nx 0, .ptr (nx+2) 0, .ptr (nx+3) 0] (nx+4) (fun v=>ext base (aM h lp (.row [.d (.i v)])) O) (F7 s (d - 1)) mK (fun v:Int=> -1000000<=v/\v<=1000000) (fun k hk v hv l9=> ?_) (fun k hk v hv=>clo O k v hk hv p0 p2 p3) (left - 1) ad O (nx+28) (hIO.ext ad ad) _ _ fun o2 n2 m1 m2 m3=> ?_
  ·obtain⟨h5,h6⟩:=Li s k v (d - 1)
   have e:=h6 l9
   rw[show(wB s k v (d - 1)).1=true from l9]at h5
   have h7:=h5.symm
   rw[Bool.and_eq_true,decide_eq_true_eq]at h7
   show -1000000<=(wB s k v (d - 1)).2/\(wB s k v (d - 1)).2<=1000000
   rw[e];omega
  ·rw[Ys]at m2|-
   refine iL ?_
   refine hK _ _ ad ⟨(m2.mono ad).bP,by have:=m2.le;omega,fun id aC=> ?_⟩ fun id i1 i2=> ?_
   ·exact yW
   ·rw[m2.eq id (by omega)];unfold ext;rw[if_neg (by omega),dc id i1 i2]
theorem F8(s:a7)(hs:s.Fits)(t:Tm)(ht:t.fits):a8 Tryz.prog 68 [s.d,t.d] (.ret [.bool (vF s t)]):=by
 refine a8.aB mix ZJ aj ?_
 rw[c68]
 refine iL ?_
 refine bd ((H5 s hs t ht) 80 30 ad ad 4 3 (aM (aM (fun _=> .no) 0 (.row s.row)) 1 (.row t.row)) ad _ _ ⟨dv,ad,fun id aC=> ?_⟩ _ _ fun o2 n2 m1 m2 m3=> ?_)
 ·exact j6
 refine iL ?_
 rw[aa1]
theorem CC{α:Type}(f:α->Bool):∀l:List α,aA (fun(_:Unit) x=>((),f x)) () l=((),l.all f)
 |[]=>rfl
 |x::l=>by
  have ih:=CC f l
  cases h:f x<;>simp[aA,h,ih]
end Go.Proofs.YtonbelhklnmjnaaGreat
namespace Go.Proofs.YtonbelhklnmjnaaGreat
theorem aa4{x:Tm}{g:Nat}{aG:List V}{base c bx:Nat}{h h2 O:Nat->ab}{r:Bool}(hS:fM Tryz.prog g (.d x.d::aG) base h h2 (.d (.bool r)))(hb:base<=bx)(PE:bx<c)(hO:O bx= .row [.func (.func g) [] aG])(hc:∀r∈V.aO aG,r<base):
 fM Tryz.prog 230 [.d x.d, .ptr bx 0] c (ext base h O) (ext base h2 O) (.d (.bool (!r))):=by
 intro o nx hI K X hK
 have hle:=hI.le
 have fG:∀r∈V.aO aG,r<nx:=fun r hr=>by have:=hc r hr;omega
 have ho:o bx= .row [.func (.func g) [] aG]:=by
  exact Jk
 have y1:∀k,bx≠nx+k:=fun k=>ad
 have y2:bx≠nx:=ad
 refine cO.aB mix RU aj ?_
 rw[VN]
 refine MT ho y1 y2 ?_
 refine cY ((hS.ext (by omega:base<=c) O) _ _ ?_ _ _ fun o2 n2 m1 m2 m3=> ?_)
 ·exact hI.aM ad ad ad rfl
 refine iL ?_
 exact hK _ _ ad (m2.mono ad) fun id i1 i2=>by rw[m3 id i1 (by omega),ah _ _ _ _ (by omega)]
theorem yp{σ:Type}(l:List Tm)(hl:l.length<=9223372036854775807)(g:Nat)(aG:List V)(base:Nat)(H:σ->Nat->ab)(step:σ->Tm->σ×Bool)(hc:∀r∈V.aO aG,r<base)(ok:σ->Prop)(bp:∀x∈l,∀s,ok s->(step s x).2=true->ok (step s x).1)
 (h:∀x∈l,∀s,ok s->fM Tryz.prog g (.d x.d::aG) base (H s) (H (step s x).1) (.d (.bool (step s x).2))) (s:σ) (gB:ok s):
 fM Tryz.prog 187 [.d (.sl (l.map Tm.d)), .func (.func g) [] aG] base (H s) (H (aA step s l).1) (.d (.bool (aA step s l).2)):=by
 intro o nx hI K X hK
 have hle:=hI.le
 have fG:∀r∈V.aO aG,r<nx:=fun r hr=>Nat.lt_of_lt_of_le (hc r hr) hI.le
 refine cO.aB mix Ry aj ?_
 rw[Vs]
 refine iL ?_
 refine bd (sV l hl 230 [.ptr nx 0] (nx+1) (fun s=>ext base (H s) (aM o nx (.row [.func (.func g) [] aG]))) step mK ok bp (fun x hx s hs=>aa4 (h x hx s hs) hle ad (ae _ _ _) hc) s gB _ _ ?_ _ _ fun o2 n2 m1 m2 m3=> ?_)
 ·have hr:(ab.row [V.func (.func g) [] aG]).refs.all (fun r=>decide (r<nx+4))=true:=by
   rw[List.all_eq_true]
   intro r hr
   have h1:r∈V.aO aG:=by simpa[ab.refs,V.aO,V.refs]using hr
   have:=fG r h1
   simp;omega
  exact(hI.aM ad ad ad hr).ext ad ad
 refine iL ?_
 refine hK _ _ ad ⟨(m2.mono ad).bP,by have:=m2.le;omega,fun id aC=> ?_⟩ fun id i1 i2=> ?_
 ·exact yW
 ·exact Jh
mutual
def iM:Tm->List Tm
 | .mk op n kids=> .mk op n kids::OL kids
def OL:List Tm->List Tm
 |[]=>[]
 |k::l=>iM k++OL l
end
theorem yq:∀l:List Tm,OL l=l.flatMap iM
 |[]=>rfl
 |k::l=>by rw[OL,yq l];rfl
theorem nN(t:Tm):iM t=t::t.kids.flatMap iM:=by cases t;rw[iM,yq];rfl
section
variable {σ:Type}(base n8:Nat)(H:σ->Nat->ab)(step:σ->Tm->σ×Bool)(ok:σ->Prop)
theorem Lr:∀t:Tm,t.fits->(∀x∈iM t,∀s,ok s->(step s x).2=true->ok (step s x).1)->(∀x∈iM t,∀s,ok s->XM Tryz.prog n8 [.d x.d] base (H s) (H (step s x).1) (.d (.bool (step s x).2)))->n8<base->
 ∀ (c:Nat) (o0:Nat->ab) (yb vb:Nat),base<=c->base<=yb->yb<c->base<=vb->vb<c->o0 yb= .row [.jU n8]->o0 vb= .row [.func (.func 258) [] [.ptr yb 0, .ptr vb 0]]->
 ∀s,ok s->fM Tryz.prog 258 [.d t.d, .ptr yb 0, .ptr vb 0] c (ext base (H s) o0) (ext base (H (aA step s (iM t)).1) o0) (.d (.bool (aA step s (iM t)).2)):=by
 refine Tm.ck fun t ih hf bp hR vr c o0 yb vb PE Sg hy Sh hv oy ov s gB=> ?_
 have fm:=(Tm.aP _).1 hf
 intro o nx hI K X hK
 have hle:=hI.le
 have Si:o yb= .row [.jU n8]:=by rw[hI.eq yb hy];unfold ext;rw[if_neg (by omega),oy]
 have Sj:o vb= .row [.func (.func 258) [] [.ptr yb 0, .ptr vb 0]]:=by rw[hI.eq vb hv];unfold ext;rw[if_neg (by omega),ov]
 have y1:yb≠nx:=ad
 have y2:∀k,yb≠nx+k:=fun k=>ad
 have y3:vb≠nx:=ad
 have y4:∀k,vb≠nx+k:=fun k=>ad
 refine cO.aB mix Sc aj ?_
 rw[V4]
 simp+contextual only[go_sem,Si,Sj,y1,y2,y3,y4,Nat.add_assoc,Nat.left_eq_add,Nat.add_eq_left,Nat.add_left_cancel_iff]
 have s9:=nN t
 have lL:∀k∈t.kids,∀x∈iM k,x∈iM t:=fun k hk x hx=>by
  exact SJ
 have hb:∀id,id<base->o id=H s id:=fun id aC=>by rw[hI.eq id (by omega)];unfold ext;rw[if_pos aC]
 have hIb:cW base (H s) o nx:=⟨hI.bP,ad,hb⟩
 refine nI (hR t GQ s gB _ _ (hIb.aM (i:=nx) (m:=nx+4) ad ad ad rfl) _ _ fun o2 n2 m1 m2 m3=> ?_)
 have k0:o2 nx= .row t.row:=by rw[m3 nx (by omega) (by omega),ae]
 have hold:∀id,base<=id->id<nx->o2 id=o id:=fun id h1 h2=>by rw[m3 id h1 (by omega),ah _ _ _ _ (by omega)]
 have GL:∀id,base<=id->id<c->o id=o0 id:=fun id h1 h2=>by rw[hI.eq id h2];unfold ext;rw[if_neg (by omega)]
 cases Cu:(step s t).2 with
 |false=>
  refine fg Cu ?_
  have AR:aA step s (iM t)=((step s t).1,false):=by rw[s9,aA,if_neg (by rw[Cu];exact Bool.false_ne_true)]
  rw[AR]at hK
  refine hK _ _ ad ⟨m2.bP.mono ad,ad,fun id aC=> ?_⟩ (fun id h1 h2=>hold id ad h2)
  unfold ext
  split
  ·exact m2.eq id Jp
  ·exact GK
 |true=>
  have AR:aA step s (iM t)=aA (fun s k=>aA step s (iM k)) (step s t).1 t.kids:=by rw[s9,aA,if_pos Cu,pz]
  have q0:o2 yb= .row [.jU n8]:=by rw[hold yb Sg (by omega),Si]
  have q1:o2 vb= .row [.func (.func 258) [] [.ptr yb 0, .ptr vb 0]]:=by rw[hold vb Sh (by omega),Sj]
  simp+contextual only[go_sem,Cu,k0,q1]
  have m0:=m2.le
  refine bd (yp t.kids fm.1 258 [.ptr yb 0, .ptr vb 0] n2 (fun s=>ext base (H s) o2) (fun s k=>aA step s (iM k)) ?_ ok ?_ ?_ (step s t).1 (bp t GQ s gB Cu) _ _ ?_ _ _ ?_)
  ·exact Nb
  ·exact fun k hk s' h1 h2=>vq _ (fun x hx=>bp x (lL k hk x hx)) s' h1 h2
  ·intro k hk s' iK
   exact ih k hk (fm.2 k hk) (fun x hx=>bp x (lL k hk x hx)) (fun x hx=>hR x (lL k hk x hx)) vr n2 o2 yb vb ad Sg ad Sh ad q0 q1 s' iK
  ·exact(m2.mono ad).ext ad ad
  ·intro o5 n5 p1 p2 p3
   refine b9 ?_
   rw[<- AR]
   refine hK _ _ ad ⟨p2.bP.mono ad,ad,fun id aC=> ?_⟩ (fun id h1 h2=> ?_)
   ·rw[p2.eq id (by omega), <- AR]
    unfold ext
    split
    ·rfl
    ·exact GK
   ·rw[p2.eq id (by omega)]
    unfold ext
    exact SR
theorem H6(t:Tm)(hf:t.fits)(bp:∀x∈iM t,∀s,ok s->(step s x).2=true->ok (step s x).1)(hR:∀x∈iM t,∀s,ok s->XM Tryz.prog n8 [.d x.d] base (H s) (H (step s x).1) (.d (.bool (step s x).2)))(vr:n8<base)(tb:Nat)(GR:tb<base)(s:σ)(gB:ok s)(bZ:H s tb= .row t.row):
 fM Tryz.prog 257 [.jU n8, .ptr tb 0] base (H s) (H (aA step s (iM t)).1) (.cp []):=by
 intro o nx hI K X hK
 have hle:=hI.le
 have ot:o tb= .row t.row:=by rw[hI.eq tb GR,bZ]
 have y1:tb≠nx:=ad
 have y2:∀k,tb≠nx+k:=fun k=>ad
 refine cO.aB mix Sb aj ?_
 rw[V3]
 refine SE ot y1 y2 ?_
 have hI1:cW base (H s) (aM (aM (aM o nx (.row [.jU n8])) (nx+1) (.row [.d .bW])) (nx+1) (.row [.func (.func 258) [] [.ptr nx 0, .ptr (nx+1) 0]])) (nx+6):=by
  refine((hI.aM (i:=nx) (m:=nx+6) ad ad ad ?_).aM (i:=nx+1) (m:=nx+6) ad ad ad rfl).aM (i:=nx+1) ad ad ad ?_
  ·exact SW
  ·exact lA
 refine bd (Lr base n8 H step ok t hf bp hR vr (nx+6) _ nx (nx+1) ad hle ad ad ad ?_ ?_ s gB _ _ (hI1.ext (Nat.le_refl _) ad) _ _ ?_)
 ·exact dC
 ·exact dC
 intro o2 n2 m1 m2 m3
 refine b9 ?_
 refine hK _ _ ad ⟨m2.bP,ad,fun id aC=> ?_⟩ (fun id h1 h2=> ?_)
 ·exact yW
 ·rw[m2.eq id (by omega)];unfold ext;rw[if_neg (by omega)]
  exact dC
end
theorem yr(t:Tm)(o:Nat->ab)(nx:Nat)(K X:V->(Nat->ab)->Nat->Prop)(h:K (.func (.func 257) [] [.ptr nx 0]) (aM o nx (.row t.row)) (nx+4)):cO Tryz.prog 231 [.d t.d] o nx K X:=by
 refine cO.aB mix RV aj ?_
 rw[VO]
 refine b9 ?_
 exact h
def Al{σ:Type}(J:σ->Option jN)(step:σ->Tm->σ)(s:σ)(x:Tm):σ×Bool:=(step s x,(J (step s x)).isNone)
theorem qE{σ:Type}(t:Tm)(hf:t.fits){n bq:Nat}{gq:Operand}{ps:List Nat}{iQ eJ:IC}{Q:fS->S->Prop}{e:Nat->V}{o:Nat->ab}{nx tb:Nat}(env:List V)(he:lQ e env 0)
 (El:ps.all (fun t=>decide (t<n))=true) (hl:ps.length=1) (hg:Good o nx) (hrefs:∀r∈V.aO env,r<nx) (ht:o tb= .row t.row)
 (G:σ->Nat->ab) (J:σ->Option jN) (step:σ->Tm->σ) (ok:σ->Prop) (s0:σ) (gB:ok s0) (MP:J s0=none) (h0:∀id,id<nx->o id=G s0 id) (bp:∀x∈iM t,∀s,ok s->J s=none->J (step s x)=none->ok (step s x))
 (mh:∀L,iE Tryz.prog n env ps iQ eJ L->(∀st pd m,nx<=m->(L st pd).refs.all (fun r=>decide (r<m))=true)->∀x∈iM t,∀s,ok s->J s=none->∀o3 n3,cW nx (G s) o3 n3->nx<n3->o3 nx=L .ready none->∀K X,
  (∀e' o' n' st pd,n3<=n'->cW nx (G (step s x)) o' n'->o' nx=L st pd->(∀id,nx<id->id<n3->o' id=o3 id)->jI nx K X (FX (J (step s x))) ⟨e',o',n'⟩)->
  kX Tryz.prog n n3 true iQ (nH Tryz.prog n n3 nx eJ K X) ⟨nw (bB env) ps [.d x.d],o3,n3⟩)
 (kq:∀o' n',cW nx (G (aA (Al J step) s0 (iM t)).1) o' n'->ph Q (J (aA (Al J step) s0 (iM t)).1) ⟨e,o',n'⟩):
 wQ Tryz.prog n bq false gq ps iQ eJ Q ⟨e,o,nx⟩ (.func (.func 257) [] [.ptr tb 0]):=by
 refine Ev env he (fun L hL=> ?_)
 have GR:tb<nx:=hg.lt S6
 let H:σ->Nat->ab:=fun s id=>if id<nx then G s id else if id=nx then(match J s with|none=>L .ready none|some j=>L .done (some j))else .no
 have GM:∀s id,id<nx->H s id=G s id:=fun s id h=>if_pos h
 have FY:∀s,J s=none->H s nx=L .ready none:=fun s h=>by show(if nx<nx then _ else _)=_;rw[if_neg (by omega),if_pos rfl,h]
 have K9:∀s j,J s=some j->H s nx=L .done (some j):=fun s j h=>by show(if nx<nx then _ else _)=_;rw[if_neg (by omega),if_pos rfl,h]
 have wx:∀st pd m,nx<=m->(L st pd).refs.all (fun r=>decide (r<m))=true:=fun st pd m hm=>by
  rw[hL.refs,List.all_eq_true]
  intro r hr;have:=hrefs r hr;exact decide_eq_true ad
 refine H6 (nx+1) nx H (Al J step) (fun s=>ok s/\J s=none) t hf (fun x hx s h1 h2=> ?_) (fun x hx s h1=> ?_) ad tb ad s0 ⟨gB,MP⟩ S4 _ _ ⟨?_,Nat.le_refl _,fun id aC=> ?_⟩ _ _ ?_
 ·have hj:J (step s x)=none:=by simpa[Al]using h2
  exact⟨bp x hx s h1.1 h1.2 hj,hj⟩
 ·intro o3 n3 hI K X hK
  have hle:=hI.le
  have I6:o3 nx=L .ready none:=by rw[hI.eq nx (by omega),FY s h1.2]
  refine vj hL mix I6 ad El (by simp[hl]) ?_
  refine mh L hL wx x hx s h1.1 h1.2 o3 n3 ⟨hI.bP,ad,fun id aC=>by rw[hI.eq id (by omega),GM _ _ aC]⟩ ad I6 K X (fun e' o' n' st pd k1 k2 k3 k4=> ?_)
  have key:∀st' pd' b,(J (step s x)).isNone=b->H (step s x) nx=L st' pd'->K (.d (.bool b)) (aM o' nx (L st' pd')) n':=fun st' pd' b hb hh=>by
   subst hb
   refine hK _ _ k1 ⟨k2.bP.aM ad (wx _ _ _ ad),ad,fun id aC=> ?_⟩ (fun id g1 g2=> ?_)
   ·by_cases oU:id=nx
    ·subst oU;rw[ae];exact hh.symm
    ·rw[ah _ _ _ _ oU]
     show o' id=H (step s x) id
     exact SN
   ·exact SL
  cases hj:J (step s x)with
  |none=>exact rU hL k3 (key _ _ _ yY (FY _ hj))
  |some j=>
   cases j with
   |ret=>exact px hL k3 (key _ _ _ yY (K9 _ _ hj))
   |exit j=>exact nK hL k3 (key _ _ _ yY (K9 _ _ hj))
 ·exact(hg.mono ad).aM ad (wx _ _ _ ad)
 ·by_cases oU:id=nx
  ·subst oU;rw[ae,FY _ MP]
  ·exact SK
 ·intro o' n' k1 k2 k3
  have hle:=k2.le
  generalize hsf:(aA (Al J step) s0 (iM t)).1=sf at*
  have kk:∀st pd,cW nx (G sf) (aM o' nx (L st pd)) n':=fun st pd=>⟨k2.bP.aM ad (wx _ _ _ ad),ad,fun id aC=>by rw[ah _ _ _ _ (by omega),k2.eq id (by omega),GM _ _ aC]⟩
  cases hj:J sf with
  |none=>
   refine⟨.ready,none,by rw[k2.eq nx (by omega),FY _ hj],(fun h=>by cases h), ?_⟩
   have:=kq _ _ (kk .exhausted none)
   rwa [hj]at this
  |some j=>
   refine⟨.done,some j,by rw[k2.eq nx (by omega),K9 _ _ hj],(fun h=>by cases h), ?_⟩
   have:=kq _ _ (kk .exhausted (some j))
   rwa [hj]at this
end Go.Proofs.YtonbelhklnmjnaaGreat
namespace Go.Proofs.YtonbelhklnmjnaaGreat
def H7(l:List (D×D)):List (Int×D):=l.map fun p=>((match p.1 with| .int _ n=>n|_=>0),p.2)
def Wj(l:List (D×D)):Bool:=l.all fun p=>match p.1 with| .int .i64 _=>true|_=>false
@[go_sem] theorem abD (m:List (Int×D)):H7 (enc (D.int .i64) m)=m:=by
  unfold H7 enc;rw[List.map_map];simp[Function.comp_def]
@[go_sem] theorem abE (m:List (Int×D)):Wj (enc (D.int .i64) m)=true:=by simp[Wj,enc]
@[go_sem] theorem abF:Wj []=true:=rfl
@[go_sem] theorem abG:H7 []=[]:=rfl
theorem Am:∀ {l:List (D×D)},Wj l=true->enc (D.int .i64) (H7 l)=l
 |[],_=>rfl
 |(k,x)::l,h=>by
  simp only[Wj,List.all_cons,Bool.and_eq_true]at h
  have ih:=Am (l:=l) h.2
  obtain⟨n,h1⟩:∃n,k= .int .i64 n:=by
   have h1:=h.1
   split at h1
   ·exact⟨_,rfl⟩
   ·cases h1
  subst h1
  simp only[enc,H7,List.map_cons]at ih|-
  rw[ih]
def iH(l:List Int):List (Int×D):=l.map fun n=>(n, .bool true)
@[go_sem] theorem aa5:iH []=[]:=rfl
def rZ(l:List Int)(n:Int):List Int:=if l.contains n=true then l else l++[n]
theorem vJ{l:List Int}{n k:Int}:k∈rZ l n↔k∈l\/k=n:=by
 unfold rZ
 split
 ·rename_i h
  have:n∈l:=by simpa using h
  constructor
  ·exact .inl
  ·rintro(h|rfl)<;>assumption
 ·simp
theorem vK{l:List Int}(n:Int)(h:l.Nodup):(rZ l n).Nodup:=by
 unfold rZ
 split
 ·exact h
 ·rename_i hn
  have hn:n∉l:=by simpa using hn
  rw[List.nodup_append]
  exact⟨h,aj,fun a ha b hb=>by simp at hb;subst hb;intro e;subst e;exact hn ha⟩
theorem lS:∀ (l:List Int) (n:Int) (i:Nat),fX n (iH l) i=(l.findIdx? (· ==n)).map fun j=>(i+j,D.bool true)
 |[],n,i=>rfl
 |x::l,n,i=>by
  have ih:=lS l n (i+1)
  simp only[iH,List.map_cons,fX,List.findIdx?_cons]at ih|-
  by_cases h:n=x
  ·subst h;simp
  ·have h2: ¬x=n:=fun e=>h e.symm
   simp only[beq_iff_eq,h,h2,if_false,ih,Option.map_map,Function.comp_def]
   congr 1;funext j;congr 1;omega
@[go_sem] theorem XP (l:List Int) (n:Int):wS n (.bool true) (iH l)=iH (rZ l n):=by
  unfold wS rZ
  rw[lS]
  cases h:l.findIdx? (· ==n)with
  |none=>
   have:l.contains n=false:=by
    rw[List.findIdx?_eq_none_iff]at h
    rw[Bool.eq_false_iff];intro hc
    have:=h n (by simpa using hc)
    simp at this
   simp only[Option.map_none,this,Bool.false_eq_true,if_false]
   simp[iH]
  |some j=>
   rw[List.findIdx?_eq_some_iff_getElem]at h
   obtain⟨hj,he,_⟩:=h
   have e:l[j]=n:=by simpa using he
   have:l.contains n=true:=by rw[List.contains_iff_mem, <- e];exact List.getElem_mem hj
   simp only[Option.map_some,this,if_true,Nat.zero_add]
   apply List.ext_getElem?
   intro k
   rw[List.getElem?_set]
   split
   ·rename_i hk;subst hk;simp[iH,hj,e]
   ·rfl
def CD(l:List Int)(n:Int):List Int:=match l.findIdx? (· ==n)with|some j=>l.eraseIdx j|none=>l
theorem iI{α β:Type}(f:α->β):∀ (l:List α) (j:Nat),(l.map f).eraseIdx j=(l.eraseIdx j).map f
 |[],_=>rfl
 |_::_,0=>rfl
 |x::l,j+1=>by simp[iI f l j]
@[go_sem] theorem XQ (l:List Int) (n:Int):aaY n (iH l)=iH (CD l n):=by
  unfold aaY CD
  rw[lS]
  cases h:l.findIdx? (· ==n)with
  |none=>simp
  |some j=>simp only[Option.map_some,Nat.zero_add];exact iI _ _ _
theorem yu{l:List Int}(n:Int)(h:l.Nodup):(CD l n).Nodup/\∀k,k∈CD l n↔k∈l/\k≠n:=by
 unfold CD
 cases hf:l.findIdx? (· ==n)with
 |none=>
  rw[List.findIdx?_eq_none_iff]at hf
  refine⟨h,fun k=>⟨fun hk=>⟨hk,fun e=> ?_⟩,fun hk=>hk.1⟩⟩
  subst e
  have:=hf k hk
  simp at this
 |some j=>
  rw[List.findIdx?_eq_some_iff_getElem]at hf
  obtain⟨hj,he,_⟩:=hf
  have e:l[j]=n:=by simpa using he
  refine⟨h.sublist (List.eraseIdx_sublist _ _),fun k=> ?_⟩
  show k∈l.eraseIdx j↔_
  have ux:l=l.take j++l[j]::l.drop (j+1):=by rw[List.getElem_cons_drop,List.take_append_drop]
  rw[List.eraseIdx_eq_take_drop_succ]
  rw[ux,List.nodup_append,List.nodup_cons]at h
  obtain⟨h1,⟨h2,h3⟩,h4⟩:=h
  constructor
  ·intro hk
   rw[List.mem_append]at hk
   refine⟨?_,fun ek=> ?_⟩
   ·rcases hk with hk|hk
    ·exact List.mem_of_mem_take hk
    ·exact List.mem_of_mem_drop hk
   ·rcases hk with hk|hk
    ·exact h4 k hk l[j] (List.mem_cons_self ..) (by rw[ek,e])
    ·exact h2 (by rw[e, <- ek];exact hk)
  ·rintro⟨hk,iJ⟩
   rw[ux,List.mem_append,List.mem_cons]at hk
   rw[List.mem_append]
   rcases hk with hk|hk|hk
   ·exact .inl hk
   ·exact absurd (hk.trans e) iJ
   ·exact .inr hk
section
variable {P:Program}{o:Nat->ab}{t:TypeId}{id:Nat}{n:Int}{v:V}
def sa(P:Program)(kt:TypeId):Bool:=match cn P kt with|some .int=>true|_=>false
theorem yw{kt:TypeId}(h:sa P kt=true):cn P kt=some .int:=by
 unfold sa at h;split at h
 ·assumption
 ·cases h
@[go_sem] theorem XR {kt:TypeId} (h:cn P kt=some .int):sa P kt=true:=by unfold sa;rw[h]
def Wk(P:Program)(o:Nat->ab)(t:TypeId)(id:Nat)(n:Int)(v:V):Option gL:=
 match pV P t,eg o v,o id with
 |some (kt,_),some vd, .map E7 E8 l=>match sa P kt&&Wj l&&v.ids.all (· !=id)with
  |true=>some (.cp [],dn o v.ids++[(id, .map E7 E8 (enc (D.int .i64) (wS n vd (H7 l))))],id::v.ids)
  |false=>qD P o t (.mp id) (.d (.int .i64 n)) v
 |_,_,_=>qD P o t (.mp id) (.d (.int .i64 n)) v
@[go_sem high] theorem Wl:gz P o t (.mp id) (.d (.int .i64 n)) v=Wk P o t id n v:=by
  unfold Wk
  split
  ·rename_i kt vt vd E7 E8 l h1 h2 h3
   split
   ·rename_i hc
    simp only[Bool.and_eq_true]at hc
    obtain⟨⟨c1,c2⟩,c3⟩:=hc
    have c4:=yw c1
    have c5:eg o (.d (.int .i64 n))=some (.int .i64 n):=rfl
    have hl:=Am c2
    unfold gz
    simp only[h1,c5,h2,oF,h3]
    rw[if_pos ⟨rfl,FZ c4 n,rfl,c3⟩]
    conv=>lhs;rw[<- hl]
    rw[Cw c4]
    unfold wS
    cases fX n (H7 l) 0 with
    |none=>simp[wT,enc]
    |some p=>simp[wT,F0,D.same,oE]
   ·exact yk ..
  ·exact yk ..
attribute [go_sem] Wk
def XS(l:List (D×D)):Bool:=l.all fun p=>match p.2 with| .bool true=>true|_=>false
@[go_sem] theorem abH (l:List Int):XS (enc (D.int .i64) (iH l))=true:=by simp[XS,enc,iH]
@[go_sem] theorem abI:XS []=true:=rfl
theorem F9:∀ {m:List (Int×D)},XS (enc (D.int .i64) m)=true->iH (m.map (·.1))=m
 |[],_=>rfl
 |(k,x)::m,h=>by
  simp only[XS,enc,List.map_cons,List.all_cons,Bool.and_eq_true]at h
  have ih:=F9 (m:=m) h.2
  have h1:x= .bool true:=by
   have h1:=h.1
   split at h1
   ·rfl
   ·cases h1
  simp only[iH,List.map_cons]at ih|-
  rw[ih,h1]
def Ls(P:Program)(o:Nat->ab)(t:TypeId)(m:V)(n:Int)(ok:Bool):Option gL:=
 match pV P t with
 |some (kt,vt)=>match zeroV P vt with
  |some (.d (.bool false))=>match pW o m with
   |some (rd,l)=>match sa P kt&&Wj l&&XS l with
    |true=>some (match ok with|true=> .cp [.d (.bool (((H7 l).map (·.1)).contains n)), .d (.bool (((H7 l).map (·.1)).contains n))]|false=> .d (.bool (((H7 l).map (·.1)).contains n)),[],rd)
    |false=>vw P o t m (.d (.int .i64 n)) ok
   |none=>vw P o t m (.d (.int .i64 n)) ok
  |_=>vw P o t m (.d (.int .i64 n)) ok
 |none=>vw P o t m (.d (.int .i64 n)) ok
@[go_sem] theorem Lt (l:List Int):((iH l).map (·.1))=l:=by simp[iH,Function.comp_def]
@[go_sem high] theorem aa6 {m:V} {ok:Bool}:jl P o t m (.d (.int .i64 n)) ok=Ls P o t m n ok:=by
  unfold Ls
  split
  ·rename_i kt vt h1
   split
   ·rename_i hz
    split
    ·rename_i rd l h
     split
     ·rename_i hc
      simp only[Bool.and_eq_true]at hc
      have c4:=yw hc.1.1
      have hl:=Am hc.1.2
      have hs:iH ((H7 l).map (·.1))=H7 l:=F9 (by rw[hl];exact hc.2)
      have c5:eg o (.d (.int .i64 n))=some (.int .i64 n):=rfl
      unfold jl
      simp only[h1,c5,h]
      rw[if_pos ⟨rfl,FZ c4 n⟩]
      conv=>lhs;rw[<- hl]
      rw[Cw c4, <- hs,lS,Lt]
      generalize (H7 l).map (·.1)=l'
      cases hf:l'.findIdx? (· ==n)with
      |none=>
       have:l'.contains n=false:=by
        rw[List.findIdx?_eq_none_iff]at hf
        rw[Bool.eq_false_iff];intro hc
        have:=hf n (by simpa using hc)
        simp at this
       cases ok<;>simp only[Option.map_none,wT,hz,this,if_true,Bool.false_eq_true,if_false]
      |some j=>
       rw[List.findIdx?_eq_some_iff_getElem]at hf
       obtain⟨hj,he,_⟩:=hf
       have e:l'[j]=n:=by simpa using he
       have:l'.contains n=true:=by rw[List.contains_iff_mem, <- e];exact List.getElem_mem hj
       cases ok<;>simp only[Option.map_some,wT,this,if_true,Bool.false_eq_true,if_false]
     ·exact n9 ..
    ·exact n9 ..
   ·exact n9 ..
  ·exact n9 ..
attribute [go_sem] Ls
end
theorem yx{K:V->List (Nat×ab)->Prop}{id:Nat}{l:List Int}(h0:l=[]->K (.cp [.d (.bool false)]) [])
 (h1:∀ (i:Nat) n,l[i]? =some n->K (.cp [.d (.bool true), .d (.int .i64 n), .d (.bool true)]) [(id, .mW (enc (D.int .i64) (iH (l.eraseIdx i))) (some (.int .i64 n, .bool true)))]):B3 K id (enc (D.int .i64) (iH l)):=by
 refine yi _ (fun h=>h0 ?_) fun i k x h=> ?_
 ·cases l with
  |nil=>rfl
  |cons x l=>simp[iH]at h
 ·unfold iH at h|-
  rw[List.getElem?_map]at h
  cases hl:l[i]? with
  |none=>rw[hl]at h;cases h
  |some n=>
   rw[hl]at h
   simp at h
   obtain⟨rfl,rfl⟩:=h
   have:=h1 i n hl
   rw[iI]
   exact this
theorem vL{l:List Int}{i:Nat}{n:Int}(h:l[i]? =some n):(∀v,v∈l↔v=n\/v∈l.eraseIdx i)/\(l.eraseIdx i).length+1=l.length:=by
 obtain⟨hi,e⟩:=List.getElem?_eq_some_iff.1 h
 refine⟨fun v=> ?_,by rw[List.length_eraseIdx];simp[hi];omega⟩
 have ux:l=l.take i++n::l.drop (i+1):=by rw[<- e,List.getElem_cons_drop,List.take_append_drop]
 rw[List.eraseIdx_eq_take_drop_succ]
 conv=>lhs;rw[ux]
 simp only[List.mem_append,List.mem_cons]
 constructor
 ·rintro(h|h|h)
  ·exact .inr (.inl h)
  ·exact .inl h
  ·exact .inr (.inr h)
 ·rintro(h|h|h)
  ·exact .inr (.inl h)
  ·exact .inl h
  ·exact .inr (.inr h)
attribute [go_sem] List.head?_cons
end Go.Proofs.YtonbelhklnmjnaaGreat
namespace Go.Proofs.YtonbelhklnmjnaaGreat
theorem Lu(a b:List Tm)(ha:a.length<=9223372036854775807)(hb:b.length<=9223372036854775807)(g:Nat)(h:∀x∈a,∀y∈b,a8 Tryz.prog g [x.d,y.d] (.ret [.bool (aX x y)]))(o:Nat->ab)(nx:Nat)(hg:Good o nx)(K X:V->(Nat->ab)->Nat->Prop)
 (hK:∀o' nx',nx<=nx'->Good o' nx'->(∀j,j<nx->o' j=o j)->K (.d (.bool (a.length==b.length&&gP a b))) o' nx'):
 cO Tryz.prog 114 [.d (.sl (a.map Tm.d)), .d (.sl (b.map Tm.d)), .func (.func g) [] []] o nx K X:=by
 refine cO.aB mix KW aj ?_
 rw[Oq]
 refine iL ?_
 refine ak (fun h1=> ?_) (fun h1=> ?_)
 ·refine aJ ?_
  have:(a.length==b.length&&gP a b)=false:=by
   have:(a.length==b.length)=false:=by
    rw[Bool.eq_false_iff];intro h
    simp at h;simp[h]at h1
   rw[this];rfl
  rw[this]at hK
  exact hK _ _ ad (hg.mono ad) (fun _ _=>rfl)
 ·have hl:a.length=b.length:=by simp at h1;omega
  have zm:(a.length==b.length)=true:=by simpa using hl
  rw[zm,Bool.true_and]at hK
  refine iL ?_
  refine aL (fun k:Nat=>⟨bB [.d (.sl (a.map Tm.d)), .d (.sl (b.map Tm.d)), .func (.func g) [] [], .aa, .aa, .aa, .aa, .aa, .aa, .aa, .aa, .aa, .aa, .aa, .aa, .d (.sl (a.map Tm.d)), .d (.i a.length), .d (.i k)],o,nx⟩)
   (fun k=>k<=a.length/\∀i,i<k->∀x y,a[i]? =some x->b[i]? =some y->aX x y=true) (fun k=>a.length - k) 0 ⟨Nat.zero_le _,fun i h=>ad⟩ (bM.bT _ (Nat.le_refl _) ad hg (fun _ _=>rfl) ?_) (fun k hk=> ?_)
  ·exact cM
  refine aJ ?_
  refine ak (fun h2=> ?_) (fun h2=> ?_)
  ·simp at h2
   obtain⟨x,hx⟩:=aw h2
   obtain⟨y,hy⟩:=aw (l:=b) (k:=k) ad
   refine SB hx hy ?_
   refine ai (h x (List.mem_of_getElem? hx) y (List.mem_of_getElem? hy)) rfl ?_
   refine aJ ?_
   refine ak (fun h3=> ?_) (fun h3=> ?_)
   ·refine aJ ?_
    simp at h3
    have:gP a b=false:=by
     rw[Bool.eq_false_iff];intro h4
     have:=(jc _ _ hl).1 h4 k x y hx hy
     rw[h3]at this;cases this
    rw[this]at hK
    refine hK _ _ ad ?_ (fun j hj=>by(repeat(first|rfl|rw[ae]|rw[ah _ _ _ _ (by omega)])))
    exact dv
   ·refine aJ ?_
    simp at h3
    refine au (k+1) ⟨h2,fun i hi u v hu hv=> ?_⟩ ad (bM.bT _ (Nat.le_refl _) ad hg (fun j hj=>by(repeat(first|rfl|rw[ae]|rw[ah _ _ _ _ (by omega)]))) ?_)
    ·by_cases e:i=k
     ·subst e
      rw[hx]at hu;rw[hy]at hv
      injection hu with hu;injection hv with hv;subst hu;subst hv;exact h3
     ·exact hk.2 i ad u v hu hv
    ·exact cM
  ·refine aJ ?_
   simp at h2
   have:gP a b=true:=(jc _ _ hl).2 fun i x y hx hy=>hk.2 i (by have:=(List.getElem?_eq_some_iff.1 hx).1;omega) x y hx hy
   rw[this]at hK
   exact hK _ _ ad (hg.mono ad) (fun _ _=>rfl)
def lk:List (Int×Int)->Int->Option Int
 |[],_=>none
 |p::m,v=>if p.1=v then some p.2 else lk m v
abbrev tC(m:List (Int×Int)):Prop:=(m.map (·.1)).Nodup
theorem Ga{m:List (Int×Int)}{v k:Int}(hk:tC m):lk m v=some k↔(v,k)∈m:=by
 induction m with
 |nil=>simp[lk]
 |cons p m ih=>
  rw[tC,List.map_cons,List.nodup_cons]at hk
  simp only[lk,List.mem_cons]
  by_cases h:p.1=v
  ·rw[if_pos h]
   constructor
   ·intro e;injection e with e;exact .inl (by rw[<- h, <- e])
   ·rintro(e|e)
    ·rw[<- e]
    ·exact absurd (h ▸ List.mem_map.2 ⟨_,e,rfl⟩) hk.1
  ·rw[if_neg h,ih hk.2]
   constructor
   ·exact .inr
   ·rintro(e|e)
    ·exact absurd (by rw[<- e]) h
    ·exact e
def ints(m:List (Int×Int)):List (Int×D):=m.map fun p=>(p.1,D.i p.2)
theorem sb:∀ (m:List (Int×Int)) (v:Int) (i:Nat),(match fX v (ints m) i with|some (_,x)=>some x|none=>none)=(lk m v).map D.i
 |[],v,i=>rfl
 |p::m,v,i=>by
  have ih:=sb m v (i+1)
  simp only[ints,List.map_cons,fX,lk]at ih|-
  by_cases h:v=p.1
  ·subst h;simp
  ·have h2: ¬p.1=v:=fun e=>h e.symm
   simp only[beq_iff_eq,h,h2,if_false]
   exact ih
theorem mq{m:List (Int×Int)}{v k:Int}(h:lk m v=some k):∃j,fX v (ints m) 0=some (j,D.i k):=by
 have:=sb m v 0
 rw[h]at this
 cases ha:fX v (ints m) 0 with
 |none=>rw[ha]at this;cases this
 |some p=>obtain⟨j,x⟩:=p;rw[ha]at this;simp at this;exact⟨j,by rw[this]⟩
theorem mu{m:List (Int×Int)}{v:Int}(h:lk m v=none):fX v (ints m) 0=none:=by
 have:=sb m v 0
 rw[h]at this
 cases ha:fX v (ints m) 0 with
 |none=>rfl
 |some p=>obtain⟨j,x⟩:=p;rw[ha]at this;cases this
def im(m:List (Int×Int))(v:Int):Int:=(lk m v).getD 0
def ly:List (Int×Int)->Int->Int->List (Int×Int)
 |[],v,w=>[(v,w)]
 |p::m,v,w=>if p.1=v then(v,w)::m else p::ly m v w
theorem CE(v:Int):∀ (m:List (Int×D)) (i:Nat),fX v m (i+1)=(fX v m i).map fun p=>(p.1+1,p.2)
 |[],_=>rfl
 |p::m,i=>by
  have ih:=CE v m (i+1)
  simp only[fX]
  by_cases h:(v==p.1)=true
  ·simp[h]
  ·simp only[h,if_false];exact ih
theorem H8{v:Int}{p:Int×D}{m:List (Int×D)}{x:D}(h: ¬v=p.1):wS v x (p::m)=p::wS v x m:=by
 have hb: ¬ ((v==p.1)=true):=by simpa using h
 unfold wS
 simp only[fX,hb,if_false]
 rw[CE]
 cases fX v m 0 with
 |none=>rfl
 |some q=>obtain⟨i,y⟩:=q;rfl
theorem lT:∀ (m:List (Int×Int)) (v w:Int),wS v (D.i w) (ints m)=ints (ly m v w)
 |[],v,w=>by simp[wS,fX,ints,ly]
 |p::m,v,w=>by
  have ih:=lT m v w
  by_cases h:p.1=v
  ·subst h
   simp[wS,fX,ints,ly]
  ·have h': ¬v=p.1:=fun e=>h e.symm
   have e2:ints (p::m)=(p.1,D.i p.2)::ints m:=rfl
   rw[e2,H8 h',ih]
   simp[ly,h,ints]
def tD(m:List (Int×Int))(v:Int):List (Int×Int):=ly m v (IntKind.i64.wrap (im m v+1))
@[reducible] def qF (m:List (Int×Int)):ab:= .map 3 3 (enc (D.int .i64) (ints m))
def ed(op:Int)(m:List (Int×Int))(x:Tm):List (Int×Int):=if x.op=op then tD m x.n else m
def aa7(R:List (Int×Int)->Prop)(o:Nat->ab)(nx:Nat)(K:V->(Nat->ab)->Nat->Prop):Prop:=
 ∀o' nx' id m,nx<=id->id<nx'->Good o' nx'->(∀j,j<nx->o' j=o j)->o' id=qF m->R m->K (.mp id) o' nx'
theorem Wm(t:Tm)(ht:t.fits)(o:Nat->ab)(nx:Nat)(hg:Good o nx)(K X:V->(Nat->ab)->Nat->Prop)
 (hK:aa7 (fun m=>m=(iM t).foldl (ed 8) []) o nx K):cO Tryz.prog 190 [.d t.d] o nx K X:=by
 refine cO.aB mix RB aj ?_
 rw[Vv]
 refine iL ?_
 refine da (yr t _ _ _ _ ?_)
 refine iL ?_
 have hG:∀j,j<nx+10->aM (aM (aM (aM (aM o nx (.row [.d (.i t.op), .d (.i t.n), .d (.sl (t.kids.map Tm.d))])) (nx+2) (.map 3 3 [])) (nx+3) (.row [.d .jq])) (nx+3) (.row [.mp (nx+2)])) (nx+6) (.row t.row) j=aM (aM (aM (aM o nx (.row t.row)) (nx+3) (.row [.mp (nx+2)])) (nx+6) (.row t.row)) (nx+2) (qF []) j:=by
  intro j _
  exact j6
 refine qE (σ:=List (Int×Int)) t ht [.aa, .ptr nx 0, .aa, .ptr (nx+3) 0] ?_ aZ rfl dv mK (ae _ _ _)
  (fun s=>aM (aM (aM (aM o nx (.row t.row)) (nx+3) (.row [.mp (nx+2)])) (nx+6) (.row t.row)) (nx+2) (qF s)) (fun _=>none) (ed 8) (fun _=>True) [] trivial rfl hG (fun _ _ _ _ _ _=>trivial) ?_ ?_
 ·exact Ji
 ·intro L hL wx x hx s' _ _ o3 n3 hI hn I6 K' X' cQ
  simp only[nw]
  have hg:=hI.bP
  have hle:=hI.le
  have q1:o3 (nx+3)= .row [.mp (nx+2)]:=by rw[hI.eq (nx+3) (by omega)];(repeat(first|rfl|rw[ae]|rw[ah _ _ _ _ (by omega)]))
  have q2:o3 (nx+2)=qF s':=by rw[hI.eq (nx+2) (by omega)];(repeat(first|rfl|rw[ae]|rw[ah _ _ _ _ (by omega)]))
  refine aJ ?_
  refine nJ hL (pd:=none) ?_ ?_
  ·(repeat(first|rfl|rw[ae]|rw[ah _ _ _ _ (by omega)]))
   exact I6
  refine ud q1 q2 ?_
  have z1:nx≠n3:=ad
  have z2:∀k,nx≠n3+k:=fun k=>ad
  have z3:nx+2≠n3:=ad
  have z4:nx+3≠n3:=ad
  have same:∀ (o':Nat->ab) (n':Nat) (l:List (Int×Int)),Good o' n'->n3<=n'->(∀j,j<nx+10->o' j=aM o3 (nx+2) (qF l) j)->cW (nx+10) (aM (aM (aM (aM o nx (.row t.row)) (nx+3) (.row [.mp (nx+2)])) (nx+6) (.row t.row)) (nx+2) (qF l)) o' n':=fun o' n' l k1 k2 k3=>⟨k1,ad,fun j hj=>by
   rw[k3 j hj]
   by_cases e:j=nx+2
   ·subst e;rw[ae,ae]
   ·rw[ah _ _ _ _ e,ah _ _ _ _ e,hI.eq j hj,ah _ _ _ _ e]⟩
  refine ak (fun h3=> ?_) (fun h3=> ?_)
  ·have rG:x.op=8:=by simpa using h3
   have hp:ed 8 s' x=tD s' x.n:=by unfold ed;rw[if_pos rG]
   rw[hp]at cQ
   cases OM:lk s' x.n with
   |none=>
    have hc:tD s' x.n=ly s' x.n (0+1):=by unfold tD im;rw[OM];rfl
    rw[hc]at cQ
    simp+contextual (disch:=first|omega|simp only[go_sem,false_implies]) only[go_sem,wrap64,if_pos,q1,q2,z1,z2,z3,z4,mu OM,lT,Nat.add_assoc,Nat.left_eq_add,Nat.add_eq_left,Nat.add_left_cancel_iff]
    refine cQ _ _ _ .busy none ad (same _ _ _ dv ad fun j hj=> ?_) dC (fun j h3 h4=>by(repeat(first|rfl|rw[ae]|rw[ah _ _ _ _ (by omega)])))
    by_cases e:j=nx+2
    ·subst e;(repeat(first|rfl|rw[ae]|rw[ah _ _ _ _ (by omega)]))
    ·exact dC
   |some c=>
    obtain⟨k,hk⟩:=mq OM
    have hc:tD s' x.n=ly s' x.n (IntKind.i64.wrap (c+1)):=by unfold tD im;rw[OM];rfl
    rw[hc]at cQ
    simp+contextual (disch:=first|omega|simp only[go_sem,false_implies]) only[go_sem,wrap64,if_pos,q1,q2,z1,z2,z3,z4,hk,lT,Nat.add_assoc,Nat.left_eq_add,Nat.add_eq_left,Nat.add_left_cancel_iff]
    refine cQ _ _ _ .busy none ad (same _ _ _ dv ad fun j hj=> ?_) dC (fun j h3 h4=>by(repeat(first|rfl|rw[ae]|rw[ah _ _ _ _ (by omega)])))
    by_cases e:j=nx+2
    ·subst e;(repeat(first|rfl|rw[ae]|rw[ah _ _ _ _ (by omega)]))
    ·exact dC
  ·have hp:ed 8 s' x=s':=by unfold ed;rw[if_neg (by simpa using h3)]
   rw[hp]at cQ
   refine aJ ?_
   refine cQ _ _ _ .busy none ad (same _ _ _ dv ad fun j hj=> ?_) dC (fun j h3 h4=>by(repeat(first|rfl|rw[ae]|rw[ah _ _ _ _ (by omega)])))
   by_cases e:j=nx+2
   ·subst e;(repeat(first|rfl|rw[ae]|rw[ah _ _ _ _ (by omega)]))
    exact q2
   ·exact dC
 ·intro o' n' hI
  have hle:=hI.le
  simp only[ph]
  have q1:o' (nx+3)= .row [.mp (nx+2)]:=by rw[hI.eq (nx+3) (by omega)];(repeat(first|rfl|rw[ae]|rw[ah _ _ _ _ (by omega)]))
  refine dD q1 ?_
  have AR:∀ (l:List Tm) (m:List (Int×Int)),(aA (Al (fun _=>none) (ed 8)) m l).1=l.foldl (ed 8) m:=by
   intro l
   induction l with
   |nil=>intro m;rfl
   |cons y l ih=>intro m;simp only[aA,Al,Option.isNone_none,if_true];exact ih _
  rw[AR]at hI
  refine hK _ _ _ _ ad ad (hI.bP.mono ad) (fun j hj=> ?_) (by rw[hI.eq (nx+2) (by omega),ae]) rfl
  rw[hI.eq j (by omega)];(repeat(first|rfl|rw[ae]|rw[ah _ _ _ _ (by omega)]))
end Go.Proofs.YtonbelhklnmjnaaGreat
