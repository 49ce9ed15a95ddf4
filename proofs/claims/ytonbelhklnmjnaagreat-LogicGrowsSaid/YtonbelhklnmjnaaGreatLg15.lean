/-
  A PART OF THE PROOF. Conditions: none.
-/
import Derived.Test.YtonbelhklnmjnaaGreatLg14
set_option linter.unusedSimpArgs false
set_option linter.unusedVariables false
namespace Go.Proofs.YtonbelhklnmjnaaGreat
def Tm.sz (t:Tm):Nat:=(pre t 1).length
def hY(l:List Tm):Nat:=(l.map Tm.sz).sum
theorem Tm.kx (t:Tm):t.Cu=(t.sz:Int):=rfl
theorem Tm.ky (t:Tm):t.sz=1+hY t.kids:=by
 unfold Tm.sz hY
 rw[jA,List.length_cons,List.length_flatMap,Nat.add_comm]
 congr 2
 exact List.map_congr_left fun k hk=>nF k _ _
theorem Tm.R0 (op n:Int)(l:List Tm):(Tm.mk op n l).sz=1+hY l:=Tm.ky _
theorem eJ(k:Tm)(l:List Tm):hY (k::l)=k.sz+hY l:=by simp[hY]
theorem Tm.En (t:Tm):1<=t.sz:=by rw[Tm.ky];omega
theorem nY(k:Tm)(l:List Tm):Tm.fQ (k::l)=Nat.max k.iU (Tm.fQ l):=by simp[Tm.fQ]
theorem tU:∀ (l:List Tm) (n:Nat),Tm.fQ l<=n↔∀k∈l,k.iU<=n
 |[],n=>by simp[Tm.fQ]
 |x::l,n=>by
  rw[nY]
  simp only[List.mem_cons,forall_eq_or_imp, <- tU l n]
  exact Nat.max_le
theorem Tm.vm (t:Tm):t.iU=1+Tm.fQ t.kids:=by cases t;simp[Tm.iU,Tm.kids]
theorem HG:∀t:Tm,∀left depth:Int,ee t left depth=if(t.sz:Int)<=left/\(t.iU:Int)<=depth then left - t.sz else -1:=by
 refine Tm.cC fun t ih left depth=> ?_
 have hs:∀ (l:List Tm) (left d:Int),(∀k∈l,k∈t.kids)->0<=left->0<=d->cf l left d=if(hY l:Int)<=left/\(Tm.fQ l:Int)<=d then left - hY l else -1:=by
  intro l
  induction l with
  |nil=>intro left d _ h1 h2;simp[cf,hY,Tm.fQ,h1,h2]
  |cons k l oj=>
   intro left d hk h1 h2
   simp only[cf,if_pos h1]
   rw[ih k (hk k (by simp))]
   have hm:(Tm.fQ (k::l):Int)<=d↔(k.iU:Int)<=d/\(Tm.fQ l:Int)<=d:=by
    have:= @Nat.max_le k.iU (Tm.fQ l) d.toNat
    have e:Tm.fQ (k::l)=max k.iU (Tm.fQ l):=nY k l
    rw[e];omega
   simp only[eJ,hm]
   by_cases hc:(k.sz:Int)<=left/\(k.iU:Int)<=d
   ·rw[if_pos hc,oj _ _ (fun x hx=>hk x (by simp[hx])) (by omega) h2]
    by_cases tj:(hY l:Int)<=left - k.sz/\(Tm.fQ l:Int)<=d
    ·rw[if_pos tj,if_pos (by omega)];omega
    ·rw[if_neg tj,if_neg (by omega)]
   ·rw[if_neg hc,ph (by omega),if_neg (by omega)]
 rw[vg,Tm.ky,Tm.vm]
 by_cases h:left<1\/depth<1
 ·rw[if_pos h,if_neg (by omega)]
 ·rw[if_neg h,hs _ _ _ (fun _ h=>h) (by omega) (by omega)]
  by_cases hc:(hY t.kids:Int)<=left - 1/\(Tm.fQ t.kids:Int)<=depth - 1
  ·rw[if_pos hc,if_pos (by omega)];omega
  ·rw[if_neg hc,if_neg (by omega)]
theorem kz(t:Tm)(left depth:Int):0<=ee t left depth↔(t.sz:Int)<=left/\(t.iU:Int)<=depth:=by
 rw[HG];split<;>omega
theorem pv(t:Tm):ir t=true↔t.sz<=50/\t.iU<=14:=by
 simp only[ir,decide_eq_true_eq,kz];omega
theorem Tm.wO.KJ {t:Tm}(hf:t.fits)(h:ir t=true):t.wO:=by
 rw[pv]at h
 exact⟨⟨hf,ad⟩,by rw[Tm.kx];omega⟩
theorem ya:∀ (t:Tm) (d m:Int),(∀x∈pre t d,x.2<=m)↔d+t.iU - 1<=m:=by
 refine Tm.cC fun t ih d m=> ?_
 rw[jA,Tm.vm]
 simp only[List.mem_cons,forall_eq_or_imp,List.mem_flatMap]
 have h1:(∀x:Tm×Int,(∃k,k∈t.kids/\x∈pre k (d+1))->x.2<=m)↔∀k∈t.kids,d+1+k.iU - 1<=m:=by
  constructor
  ·intro h k hk
   exact(ih k hk _ _).1 fun x hx=>h x ⟨k,hk,hx⟩
  ·rintro h x ⟨k,hk,hx⟩
   exact(ih k hk _ _).2 (h k hk) x hx
 rw[h1]
 constructor
 ·rintro⟨h2,h3⟩
  have:=(tU t.kids (m - d).toNat).2 fun k hk=>by have:=h3 k hk;omega
  omega
 ·intro h
  have:=(tU t.kids (m - d).toNat).1 ad
  exact⟨ad,fun k hk=>by have:=this k hk;omega⟩
theorem FM(p:Tm->Bool):∀ (t:Tm) (d:Int),(pre t d).all (fun x=>p x.1)=(p t&&t.kids.all fun k=>(pre k (d+1)).all fun x=>p x.1):=by
 intro t d
 rw[jA,List.all_cons,List.all_flatMap]
theorem vq(s:aX):∀ (t:Tm) (d:Int),ez s t=(pre t d).all fun x=>bw s x.1:=by
 refine Tm.cC fun t ih d=> ?_
 rw[FM (bw s),dC]
 congr 1
 rw[Bool.eq_iff_iff]
 simp only[List.all_eq_true (l:=t.kids)]
 exact forall_congr' fun k=>forall_congr' fun hk=>by rw[ih k hk (d+1)]
theorem KK{s:aX}{t:Tm}(h:bw s t=true):cZ t.op 1 15=true:=by
 rw[show cZ t.op 1 15=true↔1<=t.op/\t.op<=15 by simp[cZ]]
 by_cases h6:cZ t.op 6 15=true
 ·simp[cZ]at h6;omega
 ·simp only[bw,if_neg h6]at h
  by_cases h1:t.op=1
  ·omega
  by_cases h2:t.op=2
  ·omega
  by_cases h3:t.op=3
  ·omega
  by_cases h4:t.op=4
  ·omega
  by_cases h5:t.op=5
  ·omega
  by_cases h8:t.op=8
  ·omega
  rw[if_neg h1,if_neg h2,if_neg h3,if_neg h4,if_neg h5,if_neg h8]at h
  cases h
def vr(s:aX)(x:Tm×Int):Bool:= !(decide (12<x.2)|| !cZ x.1.op 1 15|| !bw s x.1)
theorem sS(s:aX):∀ (l:List (Tm×Int)) (n:Int) (b:Bool),(az (x6 fJ (iw s)) (n,b) l).2=(decide (l=[]\/n+l.length<=40)&&l.all (vr s))
 |[],n,b=>by simp[az]
 |x::l,n,b=>by
  have e1:∀c,oo s n x=c->x6 fJ (iw s) (n,b) x=((n+1, !c), !c):=fun c hc=>by show((n+1, !oo s n x),(fJ (n+1, !oo s n x)).isNone)=_;rw[hc];cases c<;>rfl
  have hb:oo s n x=(decide (40<n+1)|| !vr s x):=by simp[oo,vr,Bool.or_assoc]
  rw[List.all_cons]
  cases hg:vr s x with
  |false=>
   have e:oo s n x=true:=by rw[hb,hg];simp
   rw[az,e1 _ e];simp
  |true=>
   by_cases h40:40<n+1
   ·have:decide (x::l=[]\/n+(x::l).length<=40)=false:=by simp;omega
    have e:oo s n x=true:=by rw[hb];simp[h40]
    rw[this,Bool.false_and,az,e1 _ e];simp
   ·have e:oo s n x=false:=by rw[hb,hg];simp;omega
    rw[az,e1 _ e]
    simp only[Bool.not_false,if_true,sS s l,Bool.true_and]
    congr 1
    cases l with
    |nil=>simp;omega
    |cons y l=>simp;omega
theorem pw(s:aX)(t:Tm):mj s t=dL s t:=by
 rw[mj,sS,dL,vq s t 1,Bool.eq_iff_iff]
 have hn:pre t 1≠[]:=by rw[jA];simp
 simp only[Bool.and_eq_true,decide_eq_true_eq,hn,false_or,kz,List.all_eq_true]
 have hd:=ya t 1 12
 constructor
 ·rintro⟨h1,h2⟩
  have h3:∀x∈pre t 1,x.2<=12:=fun x hx=>by have:=h2 x hx;simp[vr]at this;omega
  have:=hd.1 h3
  exact⟨⟨by unfold Tm.sz;omega,ad⟩,fun x hx=>by have:=h2 x hx;simp[vr]at this;exact this.2⟩
 ·rintro⟨⟨h1,h2⟩,h3⟩
  have h4:=hd.2 ad
  refine⟨by unfold Tm.sz at h1;omega,fun x hx=> ?_⟩
  have h5:=h4 x hx
  have h6:=h3 x hx
  have h7:=KK h6
  simp[vr,h6,h7];omega
theorem HH(s:aX)(l:List Tm):cX s l=Em s l:=by
 unfold cX Em;congr 2;funext t;exact pw s t
theorem vu:∀a:Tm,aZ a a=true:=by
 refine Tm.cC fun a ih=> ?_
 rw[nE]
 have:gG a.kids a.kids=true:=(iX _ _ rfl).2 fun i x y hx hy=>by
  rw[hx]at hy;injection hy with hy;subst hy;exact ih x (List.mem_of_getElem? hx)
 simp[this]
theorem iZ:∀a b:Tm,aZ a b=true↔a=b:=by
 refine Tm.cC fun a ih b=>⟨fun h=> ?_,fun e=>e ▸ vu _⟩
 rw[nE]at h
 simp only[Bool.and_eq_true,beq_iff_eq]at h
 obtain⟨⟨⟨h1,h2⟩,h3⟩,h4⟩:=h
 have h5:=(iX _ _ h3).1 h4
 have:a.kids=b.kids:=by
  apply List.ext_getElem?
  intro i
  cases hx:a.kids[i]? with
  |none=>simp at hx;symm;simp;omega
  |some x=>
   have hi:=(List.getElem?_eq_some_iff.1 hx).1
   obtain⟨y,hy⟩:=aw (l:=b.kids) (k:=i) ad
   rw[hy,(ih x (List.mem_of_getElem? hx) y).1 (h5 i x y hx hy)]
 rw[<- Tm.eta a, <- Tm.eta b,h1,h2,this]
def ml(s:aX)(t:Tm):Bool:=
 let k:Int:=t.kids.length
 if t.op=16 then t.n==0&&k==0
 else if t.op=1 then cZ t.n 0 199&&k==0
 else if t.op=2 then cZ t.n (-1000000) 1000000&&k==0
 else if t.op=3 then cZ t.n 0 (s.cons.length - 1)&&k==dJ s.cons t.n
 else if t.op=5 then cZ t.n 0 (s.bU.length - 1)&&decide (k<dJ s.bU t.n)
 else false
mutual
def vw(s:aX):Tm->Bool
 | .mk op n kids=>FN s kids&&ml s (.mk op n kids)
def FN(s:aX):List Tm->Bool
 |[]=>true
 |k::l=>vw s k&&FN s l
end
theorem yc(s:aX):∀l:List Tm,FN s l=l.all (vw s)
 |[]=>rfl
 |k::l=>by rw[FN,yc s l];rfl
theorem tV(s:aX)(t:Tm):vw s t=(t.kids.all (vw s)&&ml s t):=by cases t;rw[vw,yc];rfl
def sT(s:aX)(t:Tm):Bool:=decide (0<=ee t 80 30)&&vw s t
def Pn(s:aX)(t:Tm):Prop:=vw s t=true
theorem vx{s:aX}{t:Tm}:Pn s t↔ml s t=true/\∀k∈t.kids,Pn s k:=by
 unfold Pn;rw[tV,Bool.and_eq_true,List.all_eq_true];exact and_comm
theorem Pn.ll {s:aX}{t k:Tm}(h:Pn s t)(hk:k∈t.kids):Pn s k:=(vx.1 h).2 k hk
theorem Oe{s:aX}{t:Tm}(h:ml s t=true)(h1:t.op=16\/t.op=1\/t.op=2):t.kids=[]/\(t.op=16->t.n=0):=by
 unfold ml at h
 rcases h1 with h1|h1|h1
 ·simp[h1]at h;exact⟨h.2,fun _=>h.1⟩
 ·simp[h1]at h;exact⟨h.2,fun e=>ad⟩
 ·simp[h1]at h;exact⟨h.2,fun e=>ad⟩
theorem Pn.bare {s:aX}{t:Tm}(h:Pn s t)(h1:t.op=16\/t.op=1\/t.op=2):t.kids=[]:=(Oe (vx.1 h).1 h1).1
mutual
def wo(s:aX):Tm->Int->Int->Bool×Int
 | .mk op n kids,left,d=>if left - 1<0\/d<=0\/ml s (.mk op n kids)=false then(false,left - 1)else rS s kids (left - 1) (d - 1)
def rS(s:aX):List Tm->Int->Int->Bool×Int
 |[],left,_=>(true,left)
 |k::l,left,d=>if(wo s k left d).1=true then rS s l (wo s k left d).2 d else(false,(wo s k left d).2)
end
theorem KL(s:aX)(t:Tm)(left d:Int):wo s t left d=if left - 1<0\/d<=0\/ml s t=false then(false,left - 1)else rS s t.kids (left - 1) (d - 1):=by cases t;rw[wo];rfl
theorem KM(s:aX):∀ (t:Tm) (left d:Int),(wo s t left d).1=(decide ((t.sz:Int)<=left/\(t.iU:Int)<=d)&&vw s t)/\((wo s t left d).1=true->(wo s t left d).2=left - t.sz):=by
 refine Tm.cC fun t ih left d=> ?_
 have key:∀ (ks:List Tm) (left d:Int),(∀k∈ks,k∈t.kids)->0<=left->0<=d->(rS s ks left d).1=(decide ((hY ks:Int)<=left/\(Tm.fQ ks:Int)<=d)&&ks.all (vw s))/\((rS s ks left d).1=true->(rS s ks left d).2=left - hY ks):=by
  intro ks
  induction ks with
  |nil=>intro left d _ h0 hd;simp[rS,hY,Tm.fQ];omega
  |cons k ks ihk=>
   intro left d Aa h0 hd
   obtain⟨e1,e2⟩:=ih k (Aa k aj) left d
   have hp:=Tm.En k
   rw[eJ,nY]
   simp only[rS]
   by_cases h1:(wo s k left d).1=true
   ·rw[if_pos h1]
    have e3:=e2 h1
    rw[e1,Bool.and_eq_true,decide_eq_true_eq]at h1
    obtain⟨i1,i2⟩:=ihk (wo s k left d).2 d (fun x hx=>Aa x lu) ad hd
    rw[e3]at i1 i2|-
    refine⟨?_,fun h=>by have:=i2 h;omega⟩
    rw[i1,Bool.eq_iff_iff]
    simp only[List.all_cons,Bool.and_eq_true,decide_eq_true_eq,h1.2,true_and]
    have:Nat.max k.iU (Tm.fQ ks)=max k.iU (Tm.fQ ks):=rfl
    rw[this]
    constructor
    ·rintro⟨h2,h3⟩;exact⟨ad,h3⟩
    ·rintro⟨h2,h3⟩;exact⟨ad,h3⟩
   ·rw[if_neg h1]
    refine⟨?_,fun h=>by cases h⟩
    rw[e1]at h1
    show false=_
    symm
    rw[Bool.eq_false_iff]
    intro h2
    apply h1
    simp only[List.all_cons,Bool.and_eq_true,decide_eq_true_eq]at h2|-
    have:Nat.max k.iU (Tm.fQ ks)=max k.iU (Tm.fQ ks):=rfl
    rw[this]at h2
    exact⟨ad,h2.2.1⟩
 have hs:=Tm.ky t
 have hh:=Tm.vm t
 rw[KL]
 by_cases h1:left - 1<0\/d<=0\/ml s t=false
 ·rw[if_pos h1]
  refine⟨?_,fun h=>by cases h⟩
  show false=_
  symm
  rw[Bool.eq_false_iff]
  intro h2
  simp only[Bool.and_eq_true,decide_eq_true_eq,tV]at h2
  rcases h1 with h1|h1|h1
  ·omega
  ·omega
  ·rw[h1]at h2;exact absurd h2.2.2 aj
 ·rw[if_neg h1]
  have h2:ml s t=true:=by cases h:ml s t<;>simp_all
  obtain⟨i1,i2⟩:=key t.kids (left - 1) (d - 1) (fun _ h=>h) ad ad
  refine⟨?_,fun h=>by have:=i2 h;omega⟩
  rw[i1,tV,h2,Bool.and_true,Bool.eq_iff_iff]
  simp only[Bool.and_eq_true,decide_eq_true_eq]
  constructor
  ·rintro⟨h3,h4⟩;exact⟨ad,h4⟩
  ·rintro⟨h3,h4⟩;exact⟨ad,h4⟩
theorem aaA(s:aX)(t:Tm):(wo s t 80 30).1=sT s t:=by
 rw[(KM s t 80 30).1,sT]
 congr 1
 rw[Bool.eq_iff_iff,decide_eq_true_eq,decide_eq_true_eq,kz]
mutual
def Eo:Tm->Int
 | .mk op _ kids=>if op=16 then 0 else if op=1 then 1 else tz kids 2
def tz:List Tm->Int->Int
 |[],out=>out
 |k::l,out=>tz l (min out (Eo k))
end
theorem KN(t:Tm):Eo t=if t.op=16 then 0 else if t.op=1 then 1 else tz t.kids 2:=by cases t;rw[Eo];rfl
mutual
def cO(op:Int):Tm->Bool
 | .mk o _ kids=>Ab op kids&&o !=op
def Ab(op:Int):List Tm->Bool
 |[]=>true
 |k::l=>cO op k&&Ab op l
end
theorem vy(op:Int):∀l:List Tm,Ab op l=l.all (cO op)
 |[]=>rfl
 |k::l=>by rw[Ab,vy op l];rfl
theorem lN(op:Int)(t:Tm):cO op t=(t.kids.all (cO op)&&t.op !=op):=by cases t;rw[cO,vy];rfl
theorem Ep{s:aX}:∀t:Tm,Pn s t->(0<=Eo t/\Eo t<=2)/\(1<=Eo t↔cO 16 t=true)/\(Eo t=2↔cO 16 t=true/\cO 1 t=true):=by
 refine Tm.cC fun t ih hp=> ?_
 have key:∀ (ks:List Tm) (out:Int),(∀k∈ks,k∈t.kids)->0<=out->out<=2->(0<=tz ks out/\tz ks out<=2)/\(1<=tz ks out↔1<=out/\ks.all (cO 16)=true)/\(tz ks out=2↔out=2/\ks.all (cO 16)=true/\ks.all (cO 1)=true):=by
  intro ks
  induction ks with
  |nil=>intro out _ h0 h2;simp[tz,h0,h2]
  |cons k ks ihk=>
   intro out Aa h0 h2
   obtain⟨⟨a1,a2⟩,a3,a4⟩:=ih k (Aa k aj) (hp.ll (Aa k aj))
   obtain⟨b1,b2,b3⟩:=ihk (min out (Eo k)) (fun x hx=>Aa x lu) ad ad
   simp only[tz,List.all_cons,Bool.and_eq_true]
   refine⟨b1, ?_, ?_⟩
   ·rw[b2, <- a3]
    constructor
    ·rintro⟨h1,h3⟩;exact⟨ad,ad,h3⟩
    ·rintro⟨h1,h3,h4⟩;exact⟨ad,h4⟩
   ·rw[b3]
    constructor
    ·rintro⟨h1,h3,h4⟩
     have h5:=a4.1 ad
     exact⟨ad,⟨h5.1,h3⟩,h5.2,h4⟩
    ·rintro⟨h1,⟨h3,h4⟩,h5,h6⟩
     have h7:=a4.2 ⟨h3,h5⟩
     exact⟨ad,h4,h6⟩
 rw[KN]
 by_cases h1:t.op=16
 ·rw[if_pos h1]
  have e:cO 16 t=false:=by rw[lN,h1];simp
  rw[e]
  refine⟨ad,⟨fun h=>ad,fun h=>by cases h⟩,⟨fun h=>ad,fun h=>by cases h.1⟩⟩
 ·rw[if_neg h1]
  by_cases h2:t.op=1
  ·rw[if_pos h2]
   have e0:=hp.bare (.inr (.inl h2))
   have e:cO 16 t=true:=by rw[lN,e0,h2];rfl
   have e2:cO 1 t=false:=by rw[lN,h2];simp
   rw[e,e2]
   exact⟨ad,⟨fun _=>rfl,fun _=>ad⟩,⟨fun h=>ad,fun h=>by cases h.2⟩⟩
  ·rw[if_neg h2]
   obtain⟨k1,k2,k3⟩:=key t.kids 2 (fun _ h=>h) ad ad
   refine⟨k1, ?_, ?_⟩
   ·rw[k2,lN];simp[h1]
   ·rw[k3,lN,lN 1];simp[h1,h2]
mutual
def vz:Tm->Tm->Bool
 | .mk op n kids,b=>if op=16 then true else if op≠b.op\/n≠b.n\/kids.length≠b.kids.length then false else jC kids b.kids
def jC:List Tm->List Tm->Bool
 |[],_=>true
 |_::_,[]=>true
 |k::l,k'::l'=>vz k k'&&jC l l'
end
theorem vA(a b:Tm):vz a b=if a.op=16 then true else if a.op≠b.op\/a.n≠b.n\/a.kids.length≠b.kids.length then false else jC a.kids b.kids:=by cases a;rw[vz];rfl
theorem FO{a b:Tm}:vz a b=true↔a.op=16\/(a.op=b.op/\a.n=b.n/\a.kids.length=b.kids.length/\jC a.kids b.kids=true):=by
 rw[vA]
 by_cases h1:a.op=16
 ·simp[h1]
 ·rw[if_neg h1]
  by_cases h2:a.op≠b.op\/a.n≠b.n\/a.kids.length≠b.kids.length
  ·rw[if_pos h2]
   constructor
   ·intro h;cases h
   ·rintro(h|⟨h3,h4,h5,_⟩)
    ·exact absurd h h1
    ·rcases h2 with h|h|h<;>contradiction
  ·rw[if_neg h2]
   constructor
   ·intro h
    exact .inr ⟨Classical.byContradiction fun e=>h2 (.inl e),Classical.byContradiction fun e=>h2 (.inr (.inl e)),Classical.byContradiction fun e=>h2 (.inr (.inr e)),h⟩
   ·rintro(h|h)
    ·exact absurd h h1
    ·exact h.2.2.2
theorem FP:∀a:Tm,vz a a=true:=by
 refine Tm.cC fun a ih=> ?_
 have:∀l:List Tm,(∀k∈l,k∈a.kids)->jC l l=true:=by
  intro l
  induction l with
  |nil=>intro _;rfl
  |cons k l oj=>intro h;rw[jC,ih k (h k (by simp)),oj (fun x hx=>h x (by simp[hx]))];rfl
 rw[FO]
 exact .inr ⟨rfl,rfl,rfl,this _ fun _ h=>h⟩
theorem KO:∀a b c:Tm,vz a b=true->vz b c=true->vz a c=true:=by
 refine Tm.cC fun a ih b c h1 h2=> ?_
 rw[FO]at h1 h2|-
 rcases h1 with h1|⟨e1,e2,e3,e4⟩
 ·exact .inl h1
 by_cases h0:a.op=16
 ·exact .inl h0
 rcases h2 with h2|⟨f1,f2,f3,f4⟩
 ·exact absurd (e1.trans h2) h0
 ·refine .inr ⟨e1.trans f1,e2.trans f2,e3.trans f3, ?_⟩
  have:∀l m n:List Tm,(∀k∈l,k∈a.kids)->l.length=m.length->m.length=n.length->jC l m=true->jC m n=true->jC l n=true:=by
   intro l
   induction l with
   |nil=>intro m n _ _ _ _ _;rfl
   |cons k l oj=>
    intro m n h l1 l2 g1 g2
    cases m with
    |nil=>cases l1
    |cons k' m=>
     cases n with
     |nil=>cases l2
     |cons k'' n=>
      rw[jC,Bool.and_eq_true]at g1 g2|-
      exact⟨ih k (h k aj) k' k'' g1.1 g2.1,oj m n (fun x hx=>h x lu) (by simpa using l1) (by simpa using l2) g1.2 g2.2⟩
  exact this _ _ _ (fun _ h=>h) e3 f3 e4 f4
theorem FQ(n low high:Int):a7 Tryz.prog 71 [.i n, .i low, .i high] (.ret [.bool (cZ n low high)]):=by
 refine a7.aA mix acn aj ?_
 rw[c71]
 refine bV ?_
 rfl
theorem Of(s:aX)(t:Tm)(hs:s.Fits)(ht:t.kids.length<=9223372036854775807):a7 Tryz.prog 115 [s.d,t.d] (.ret [.bool (ml s t)]):=by
 refine a7.aA mix ZF aj ?_
 rw[ZE]
 refine bV ?_
 rcases(by omega:t.op=16\/t.op=1\/t.op=2\/t.op=3\/t.op=5\/(t.op≠16/\t.op≠1/\t.op≠2/\t.op≠3/\t.op≠5))with h|h|h|h|h|h
 ·have hn:ml s t=(t.n==0&&(t.kids.length:Int)==0):=by unfold ml;rw[if_pos h]
  refine eY h ?_
  rw[hn]
 ·have hn:ml s t=(cZ t.n 0 199&&(t.kids.length:Int)==0):=by unfold ml;rw[if_neg (by omega),if_pos h]
  refine eY h ?_
  refine ah (FQ _ _ _) rfl ?_
  refine eY h ?_
  rw[hn]
 ·have hn:ml s t=(cZ t.n (-1000000) 1000000&&(t.kids.length:Int)==0):=by unfold ml;rw[if_neg (by omega),if_neg (by omega),if_pos h]
  refine eY h ?_
  refine ah (FQ _ _ _) rfl ?_
  refine eY h ?_
  rw[hn]
 ·have hn:ml s t=(cZ t.n 0 (s.cons.length - 1)&&(t.kids.length:Int)==dJ s.cons t.n):=by unfold ml;rw[if_neg (by omega),if_neg (by omega),if_neg (by omega),if_pos h]
  refine eY h ?_
  rw[wrap64 (by have:=hs.lc;omega) (by have:=hs.lc;omega)]
  refine ah (FQ _ _ _) rfl ?_
  cases hI:cZ t.n 0 (s.cons.length - 1)with
  |false=>
   refine yJ h hI ?_
   rw[hn,hI];rfl
  |true=>
   obtain⟨h0,x,hx⟩:=gy hI
   simp+contextual only[go_sem,h,hI,hx,h0]
   exact wv
 ·have hn:ml s t=(cZ t.n 0 (s.bU.length - 1)&&decide ((t.kids.length:Int)<dJ s.bU t.n)):=by unfold ml;rw[if_neg (by omega),if_neg (by omega),if_neg (by omega),if_neg (by omega),if_pos h]
  refine eY h ?_
  rw[wrap64 (by have:=hs.lf;omega) (by have:=hs.lf;omega)]
  refine ah (FQ _ _ _) rfl ?_
  cases hI:cZ t.n 0 (s.bU.length - 1)with
  |false=>
   refine yJ h hI ?_
   rw[hn,hI];rfl
  |true=>
   obtain⟨h0,x,hx⟩:=gy hI
   simp+contextual only[go_sem,h,hI,hx,h0]
   exact wv
 ·have hn:ml s t=false:=by unfold ml;rw[if_neg h.1,if_neg h.2.1,if_neg h.2.2.1,if_neg h.2.2.2.1,if_neg h.2.2.2.2]
  have e1:(t.op==16)=false:=by simpa using h.1
  have e2:(t.op==1)=false:=by simpa using h.2.1
  have e3:(t.op==2)=false:=by simpa using h.2.2.1
  have e4:(t.op==3)=false:=by simpa using h.2.2.2.1
  have e5:(t.op==5)=false:=by simpa using h.2.2.2.2
  simp+contextual only[go_sem,e1,e2,e3,e4,e5]
  rw[hn]
theorem KQ(s:aX)(hs:s.Fits):∀t:Tm,t.fits->a7 Tryz.prog 66 [s.d,t.d] (.ret [.bool (vw s t)]):=by
 refine Tm.cC fun t ih hf=> ?_
 have gX:=(Tm.aP _).1 hf
 refine a7.aA mix acm aj ?_
 rw[c66]
 refine bV ?_
 rw[tV]
 refine aK (fun k:Nat=>⟨bA [.aa, .aa, .ptr 0 0, .ptr 1 0, .aa, .d (.i k)],pj s.row t.row,2⟩)
  (fun k=>k<=t.kids.length/\(t.kids.take k).all (vw s)=true) (fun k=>t.kids.length - k) 0 ⟨Nat.zero_le _,aj⟩ (bL.d2 _ (cH rfl rfl) ad rfl rfl ?_) (fun k hk=> ?_)
 ·exact cG
 refine bV ?_
 refine ak (fun h2=> ?_) (fun h2=> ?_)
 ·simp at h2
  obtain⟨x,hx⟩:=aw h2
  have dc:=List.mem_of_getElem? hx
  refine eY hx ?_
  refine aq (ih x dc (gX.2 x dc)) rfl ?_
  refine bV ?_
  refine ao aV ?_
  refine bV ?_
  refine ak (fun h3=> ?_) (fun h3=> ?_)
  ·refine bV ?_
   simp at h3
   exact SP
  ·refine bV ?_
   simp at h3
   refine au (k+1) ⟨h2,cD hx hk.2 h3⟩ ad (bL.d2 _ (cH rfl rfl) ad rfl rfl ?_)
   exact cG
 ·refine bV ?_
  simp at h2
  rw[cE hk.2 h2,Bool.true_and]
  refine ah (Of s t hs gX.1) rfl ?_
  exact SK
theorem KT(s:aX)(hs:s.Fits)(t:Tm)(hf:t.fits):a7 Tryz.prog 27 [s.d,t.d] (.ret [.bool (sT s t)]):=by
 refine a7.aA mix ab1 aj ?_
 rw[c27]
 refine bV ?_
 refine ah (tT t hf 80 30 ad ad) rfl ?_
 unfold sT
 cases h:decide (0<=ee t 80 30)with
 |false=>simp+contextual only[go_sem,h]
 |true=>
  refine eY h ?_
  refine ah (KQ s hs t hf) rfl ?_
  simp+contextual only[go_sem,h]
def kT(t:Tm):Bool:=decide (0<=ee t 100 35)
theorem qz(t:Tm)(hf:t.fits):a7 Tryz.prog 20 [t.d] (.ret [.bool (kT t)]):=by
 refine a7.aA mix Y8 aj ?_
 rw[c20]
 refine bV ?_
 refine ah (tT t hf 100 35 ad ad) rfl ?_
 refine bV ?_
 rfl
theorem KU:∀a:Tm,a.fits->∀b:Tm,b.fits->a7 Tryz.prog 26 [a.d,b.d] (.ret [.bool (vz a b)]):=by
 refine Tm.cC fun t ih hf b hb=> ?_
 have gX:=(Tm.aP _).1 hf
 have EV:=(Tm.aP _).1 hb
 refine a7.aA mix ab0 aj ?_
 rw[c26]
 refine bV ?_
 refine ak (fun h0=> ?_) (fun h0=> ?_)
 ·simp at h0
  refine bV ?_
  rw[vA,if_pos h0]
 have AG:t.op≠16:=by simpa using h0
 rw[vA,if_neg AG]
 by_cases h1:t.op≠b.op\/t.n≠b.n\/t.kids.length≠b.kids.length
 ·rw[if_pos h1]
  have cm:(t.op !=b.op||t.n !=b.n||(t.kids.length:Int)!=(b.kids.length:Int))=true:=by
   rcases h1 with h|h|h
   ·simp[h]
   ·simp[h]
   ·have:((t.kids.length:Int)!=(b.kids.length:Int))=true:=by simp;omega
    simp[this]
  simp+contextual only[go_sem,cm,List.length_map]
 ·rw[if_neg h1]
  have e1:t.op=b.op:=Classical.byContradiction fun e=>h1 (.inl e)
  have e2:t.n=b.n:=Classical.byContradiction fun e=>h1 (.inr (.inl e))
  have e3:t.kids.length=b.kids.length:=Classical.byContradiction fun e=>h1 (.inr (.inr e))
  have cm:(t.op !=b.op||t.n !=b.n||(t.kids.length:Int)!=(b.kids.length:Int))=false:=by simp[e1,e2,e3]
  simp+contextual only[go_sem,cm,List.length_map]
  refine aK (fun k:Nat=>⟨bA [.aa, .aa, .ptr 0 0, .ptr 1 0, .aa, .d (.i k)],pj t.row b.row,2⟩)
   (fun k=>k<=t.kids.length/\jC t.kids b.kids=jC (t.kids.drop k) (b.kids.drop k)) (fun k=>t.kids.length - k) 0 ⟨Nat.zero_le _,aj⟩ (bL.d2 _ (cH rfl rfl) ad rfl rfl ?_) (fun k hk=> ?_)
  ·exact cG
  refine bV ?_
  refine ak (fun h2=> ?_) (fun h2=> ?_)
  ·simp at h2
   obtain⟨x,hx⟩:=aw h2
   obtain⟨y,hy⟩:=aw (l:=b.kids) (k:=k) ad
   have dc:=List.mem_of_getElem? hx
   have wL:=List.mem_of_getElem? hy
   have hd:jC (t.kids.drop k) (b.kids.drop k)=(vz x y&&jC (t.kids.drop (k+1)) (b.kids.drop (k+1))):=by
    obtain⟨g1,g2⟩:=List.getElem?_eq_some_iff.1 hx
    obtain⟨g3,g4⟩:=List.getElem?_eq_some_iff.1 hy
    rw[List.drop_eq_getElem_cons g1,List.drop_eq_getElem_cons g3,g2,g4,jC]
   refine yJ hx hy ?_
   refine aq (ih x dc (gX.2 x dc) y (EV.2 y wL)) rfl ?_
   refine bV ?_
   refine ao aV ?_
   refine bV ?_
   refine ak (fun h3=> ?_) (fun h3=> ?_)
   ·refine bV ?_
    simp at h3
    rw[hk.2,hd,h3];rfl
   ·refine bV ?_
    simp at h3
    refine au (k+1) ⟨h2,by rw[hk.2,hd,h3];rfl⟩ ad (bL.d2 _ (cH rfl rfl) ad rfl rfl ?_)
    exact cG
  ·refine bV ?_
   simp at h2
   rw[hk.2,List.drop_eq_nil_of_le h2]
   rfl
def yd(t:Tm):D:=if t.op=16 then .iface 133 (.agg [])else if t.op=1 then .iface 134 (.i t.n)else .iface 138 t.d
theorem lookD_0{t:Tm}(h:t.op=16):yd t= .iface 133 (.agg []):=if_pos h
theorem lookD_1{t:Tm}(h:t.op=1):yd t= .iface 134 (.i t.n):=by unfold yd;rw[if_neg (by omega),if_pos h]
theorem lookD_2{t:Tm}(h:t.op≠16)(h1:t.op≠1):yd t= .iface 138 t.d:=by unfold yd;rw[if_neg h,if_neg h1]
@[go_sem] theorem KW:oO Tryz.prog 133=true:=af
@[go_sem] theorem Mt:oO Tryz.prog 134=true:=af
@[go_sem] theorem Og:oO Tryz.prog 138=true:=af
theorem ja(n low high:Int):a7 Tryz.prog 67 [.i n, .i low, .i high] (.ret [.bool (cZ n low high)]):=by
 refine a7.aA mix Zj aj ?_
 rw[c67]
 refine bV ?_
 rfl
theorem Ac(t:Tm):a7 Tryz.prog 113 [t.d] (.ret [yd t]):=by
 refine a7.aA mix Qs aj ?_
 rw[Un]
 by_cases h0:t.op=16
 ·have AG:(t.op==16)=true:=by simpa using h0
  rw[lookD_0 h0]
  exact yH AG
 ·have AG:(t.op==16)=false:=by simpa using h0
  by_cases h1:t.op=1
  ·have cm:(t.op==1)=true:=by simpa using h1
   rw[lookD_1 h1]
   exact MC AG cm
  ·have cm:(t.op==1)=false:=by simpa using h1
   rw[lookD_2 h0 h1]
   exact MC AG cm
theorem aaB(a b:List Tm)(ha:a.length<=9223372036854775807)(hb:b.length<=9223372036854775807)(g:Nat)(h:∀x∈a,∀y∈b,a7 Tryz.prog g [x.d,y.d] (.ret [.bool (vz x y)]))(o:Nat->ab)(nx:Nat)(hg:Good o nx)(K X:V->(Nat->ab)->Nat->Prop)
 (hK:∀o' nx',nx<=nx'->Good o' nx'->(∀j,j<nx->o' j=o j)->K (.d (.bool (a.length==b.length&&jC a b))) o' nx'):
 cK Tryz.prog 114 [.d (.sl (a.map Tm.d)), .d (.sl (b.map Tm.d)), .func (.func g) [] []] o nx K X:=by
 refine cK.aA mix Kp aj ?_
 rw[N1]
 refine iC ?_
 refine ak (fun h1=> ?_) (fun h1=> ?_)
 ·refine aI ?_
  have:(a.length==b.length&&jC a b)=false:=by
   have:(a.length==b.length)=false:=by
    rw[Bool.eq_false_iff];intro h
    simp at h;simp[h]at h1
   rw[this];rfl
  rw[this]at hK
  exact hK _ _ ad (hg.mono ad) (fun _ _=>rfl)
 ·have hl:a.length=b.length:=by simp at h1;omega
  have zc:(a.length==b.length)=true:=by simpa using hl
  rw[zc,Bool.true_and]at hK
  refine iC ?_
  refine aK (fun k:Nat=>⟨bA [.d (.sl (a.map Tm.d)), .d (.sl (b.map Tm.d)), .func (.func g) [] [], .aa, .aa, .aa, .aa, .aa, .aa, .aa, .aa, .aa, .aa, .aa, .aa, .d (.sl (a.map Tm.d)), .d (.i a.length), .d (.i k)],o,nx⟩)
   (fun k=>k<=a.length/\jC a b=jC (a.drop k) (b.drop k)) (fun k=>a.length - k) 0 ⟨Nat.zero_le _,aj⟩ (bL.bP _ (Nat.le_refl _) ad hg (fun _ _=>rfl) ?_) (fun k hk=> ?_)
  ·exact cG
  refine aI ?_
  refine ak (fun h2=> ?_) (fun h2=> ?_)
  ·simp at h2
   obtain⟨x,hx⟩:=aw h2
   obtain⟨y,hy⟩:=aw (l:=b) (k:=k) ad
   have hd:jC (a.drop k) (b.drop k)=(vz x y&&jC (a.drop (k+1)) (b.drop (k+1))):=by
    obtain⟨g1,g2⟩:=List.getElem?_eq_some_iff.1 hx
    obtain⟨g3,g4⟩:=List.getElem?_eq_some_iff.1 hy
    rw[List.drop_eq_getElem_cons g1,List.drop_eq_getElem_cons g3,g2,g4,jC]
   refine Sd hx hy ?_
   refine ah (h x (List.mem_of_getElem? hx) y (List.mem_of_getElem? hy)) rfl ?_
   refine aI ?_
   refine ak (fun h3=> ?_) (fun h3=> ?_)
   ·refine aI ?_
    simp at h3
    have:jC a b=false:=by rw[hk.2,hd,h3];rfl
    rw[this]at hK
    refine hK _ _ ad ?_ (fun j hj=>by(repeat(first|rfl|rw[ae]|rw[ai _ _ _ _ (by omega)])))
    exact dg
   ·refine aI ?_
    simp at h3
    refine au (k+1) ⟨h2,by rw[hk.2,hd,h3];rfl⟩ ad (bL.bP _ (Nat.le_refl _) ad hg (fun j hj=>by(repeat(first|rfl|rw[ae]|rw[ai _ _ _ _ (by omega)]))) ?_)
    exact cG
  ·refine aI ?_
   simp at h2
   have:jC a b=true:=by rw[hk.2,List.drop_eq_nil_of_le h2];rfl
   rw[this]at hK
   exact hK _ _ ad (hg.mono ad) (fun _ _=>rfl)
theorem Oh(s:aX)(t:Tm)(hs:s.Fits)(ht:t.kids.length<=9223372036854775807):a7 Tryz.prog 159 [s.d,t.d] (.ret [.bool (ml s t)]):=by
 refine a7.aA mix QL aj ?_
 rw[UG]
 refine aI ?_
 refine bf (Ac t) ?_
 rcases(by omega:t.op=16\/t.op=1\/(t.op≠16/\t.op≠1))with h|h|⟨h0,h1⟩
 ·have hn:ml s t=(t.n==0&&(t.kids.length:Int)==0):=by unfold ml;rw[if_pos h]
  rw[lookD_0 h]
  refine eR h ?_
  rw[hn]
 ·have hn:ml s t=(cZ t.n 0 199&&(t.kids.length:Int)==0):=by unfold ml;rw[if_neg (by omega),if_pos h]
  rw[lookD_1 h]
  refine dz h ?_
  refine ah (ja _ _ _) rfl ?_
  refine eR h ?_
  rw[hn]
 rw[lookD_2 h0 h1]
 rcases(by omega:t.op=2\/t.op=3\/t.op=5\/(t.op≠2/\t.op≠3/\t.op≠5))with h|h|h|h
 ·have hn:ml s t=(cZ t.n (-1000000) 1000000&&(t.kids.length:Int)==0):=by unfold ml;rw[if_neg (by omega),if_neg (by omega),if_pos h]
  refine dz h ?_
  refine ah (ja _ _ _) rfl ?_
  refine eR h ?_
  rw[hn]
 ·have hn:ml s t=(cZ t.n 0 (s.cons.length - 1)&&(t.kids.length:Int)==dJ s.cons t.n):=by unfold ml;rw[if_neg (by omega),if_neg (by omega),if_neg (by omega),if_pos h]
  refine dz h ?_
  rw[wrap64 (by have:=hs.lc;omega) (by have:=hs.lc;omega)]
  refine aq (ja _ _ _) rfl ?_
  cases hI:cZ t.n 0 (s.cons.length - 1)with
  |false=>
   refine uc h hI ?_
   refine ao aV ?_
   refine uc h hI ?_
   rw[hn,hI];rfl
  |true=>
   obtain⟨h0,x,hx⟩:=gy hI
   refine Di h hI hx h0 ?_
   refine ao aV ?_
   refine uc h hI ?_
   exact wv
 ·have hn:ml s t=(cZ t.n 0 (s.bU.length - 1)&&decide ((t.kids.length:Int)<dJ s.bU t.n)):=by unfold ml;rw[if_neg (by omega),if_neg (by omega),if_neg (by omega),if_neg (by omega),if_pos h]
  refine dz h ?_
  rw[wrap64 (by have:=hs.lf;omega) (by have:=hs.lf;omega)]
  refine aq (ja _ _ _) rfl ?_
  cases hI:cZ t.n 0 (s.bU.length - 1)with
  |false=>
   refine uc h hI ?_
   refine ao aV ?_
   refine uc h hI ?_
   rw[hn,hI];rfl
  |true=>
   obtain⟨h0,x,hx⟩:=gy hI
   refine Di h hI hx h0 ?_
   refine ao aV ?_
   refine uc h hI ?_
   exact wv
 ·have hn:ml s t=false:=by unfold ml;rw[if_neg h0,if_neg h1,if_neg h.1,if_neg h.2.1,if_neg h.2.2]
  have e3:(t.op==2)=false:=by simpa using h.1
  have e4:(t.op==3)=false:=by simpa using h.2.1
  have e5:(t.op==5)=false:=by simpa using h.2.2
  refine yG e3 e4 e5 ?_
  refine ao aV ?_
  refine aI ?_
  rw[hn]
theorem KY(n:Int)(x:D){o:Nat->ab}:eC Tryz.prog o .eql 131 false (.d (.iface 133 x)) (.d (.iface 134 (.i n)))=some (.d (.bool false),[],[]):=af
theorem KZ(m n:Int){o:Nat->ab}:eC Tryz.prog o .eql 131 false (.d (.iface 134 (.i m))) (.d (.iface 134 (.i n)))=some (.d (.bool (m==n)),[],[]):=af
theorem K0(n:Int)(x:D){o:Nat->ab}:eC Tryz.prog o .eql 131 false (.d (.iface 138 x)) (.d (.iface 134 (.i n)))=some (.d (.bool false),[],[]):=af
theorem Cv{s:aX}:∀a:Tm,a.fits->Pn s a->∀b:Tm,b.fits->Pn s b->a7 Tryz.prog 65 [a.d,b.d] (.ret [.bool (vz a b)]):=by
 refine Tm.cC fun a ih ha pa b hb pb=> ?_
 have Oi:=(Tm.aP _).1 ha
 have EV:=(Tm.aP _).1 hb
 refine a7.aA mix Zi aj ?_
 rw[c65,vA]
 refine aI ?_
 refine bf (Ac a) ?_
 by_cases h:a.op=16
 ·rw[lookD_0 h,if_pos h]
  exact cF
 rw[if_neg h]
 by_cases h1:a.op=1
 ·have ka:=pa.bare (.inr (.inl h1))
  rw[lookD_1 h1]
  refine aI ?_
  refine bf (Ac b) ?_
  by_cases Mp:b.op=16
  ·rw[lookD_0 Mp,if_pos (.inl (by omega))]
   simp+contextual (disch:=first|omega|simp only[go_sem,false_implies]) only[go_sem,wrap64,if_pos,KY]
  by_cases Dc:b.op=1
  ·have kb:=pb.bare (.inr (.inl Dc))
   rw[lookD_1 Dc]
   simp+contextual (disch:=first|omega|simp only[go_sem,false_implies]) only[go_sem,wrap64,if_pos,KZ]
   by_cases e:a.n=b.n
   ·rw[if_neg (by rw[h1,Dc,e,ka,kb];simp),ka,e]
    simp[jC]
   ·rw[if_pos (.inr (.inl e))]
    simp;exact fun h=>e h.symm
  ·rw[lookD_2 Mp Dc,if_pos (.inl (by omega))]
   simp+contextual (disch:=first|omega|simp only[go_sem,false_implies]) only[go_sem,wrap64,if_pos,K0]
 rw[lookD_2 h h1]
 by_cases e1:a.op=b.op
 ·have e1':(a.op==b.op)=true:=by simpa using e1
  by_cases e2:a.n=b.n
  ·have e2':(a.n==b.n)=true:=by simpa using e2
   refine uc e1' e2' ?_
   refine bc (aaB a.kids b.kids Oi.1 EV.1 65 (fun x hx y hy=>ih x hx (Oi.2 x hx) (pa.ll hx) y (EV.2 y hy) (pb.ll hy)) _ _ dg _ _ fun o2 n2 m1 m2 m3=> ?_)
   refine uc e1' e2' ?_
   by_cases e3:a.kids.length=b.kids.length
   ·rw[if_neg (by simp[e1,e2,e3])]
    simp[e3]
   ·rw[if_pos (.inr (.inr e3))]
    simp[e3]
  ·have e2':(a.n==b.n)=false:=by simpa using e2
   rw[if_pos (.inr (.inl e2))]
   exact MC e1' e2'
 ·have e1':(a.op==b.op)=false:=by simpa using e1
  rw[if_pos (.inl e1)]
  exact yH e1'
theorem vB{s:aX}:∀t:Tm,t.fits->Pn s t->a7 Tryz.prog 69 [t.d] (.ret [.i (Eo t)]):=by
 refine Tm.cC fun t ih ht hp=> ?_
 have Bl:=(Tm.aP _).1 ht
 refine a7.aA mix Zl aj ?_
 rw[c69,KN]
 refine aI ?_
 refine bf (Ac t) ?_
 by_cases h0:t.op=16
 ·rw[lookD_0 h0,if_pos h0]
  exact cF
 rw[if_neg h0]
 by_cases h1:t.op=1
 ·rw[lookD_1 h1,if_pos h1]
  exact cF
 rw[if_neg h1,lookD_2 h0 h1]
 refine iG ?_
 refine aK (fun i:Nat×Int=>⟨bA [.aa, .aa, .aa, .d (.i i.2), .aa, .aa, .aa, .aa, .aa, .aa, .aa, .aa, .aa, .aa, .aa, .aa, .aa, .aa, .aa, .aa, .aa, .d (.sl (t.kids.map Tm.d)), .d (.i t.kids.length), .d (.i i.1)],aL (fun _=> .no) 0 (.row t.row),1⟩)
  (fun i=>i.1<=t.kids.length/\tz t.kids 2=tz (t.kids.drop i.1) i.2/\0<=i.2/\i.2<=2) (fun i=>t.kids.length - i.1) (0,2) ⟨Nat.zero_le _,rfl,aV,aV⟩ ?_ ?_
 ·dsimp only
  refine bL.bP _ ad ad dg (fun j hj=> ?_) ?_
  ·exact eh
  ·exact cG
 rintro⟨i,m⟩ ⟨hi,hk,m0,m2⟩
 simp only at hi hk m0 m2
 refine iG ?_
 refine ak (fun h5=> ?_) (fun h5=> ?_)
 ·simp at h5
  obtain⟨x,hx⟩:=aw h5
  have dc:=List.mem_of_getElem? hx
  have hkx:=(Ep x (hp.ll dc)).1
  have hd:t.kids.drop i=x::t.kids.drop (i+1):=by
   obtain⟨g1,g2⟩:=List.getElem?_eq_some_iff.1 hx
   exact SB
  rw[hd,tz]at hk
  have aaC:(if Eo x<m then Eo x else m)=min m (Eo x):=by rw[Int.min_def];split<;>split<;>omega
  refine eR hx ?_
  refine ah (ih x dc (Bl.2 x dc) (hp.ll dc)) rfl ?_
  refine iG ?_
  first
   |rw[aaC]
   |skip
  refine au (i+1,min m (Eo x)) ⟨h5,hk,by dsimp only;omega,by dsimp only;omega⟩ mG (bL.bP _ ad ad dg (fun j hj=> ?_) ?_)
  ·exact eh
  ·exact cG
 ·simp at h5
  refine iG ?_
  rw[List.drop_eq_nil_of_le h5]at hk
  rw[hk];rfl
def wP{σ:Type}(step:σ->Tm->σ×Bool):σ->List Tm->Int->Int
 |_,[],_=> -1
 |s,x::l,k=>if(step s x).2=true then wP step (step s x).1 l (k+1)else k
theorem FR{σ:Type}(step:σ->Tm->σ×Bool):∀ (l:List Tm) (s:σ) (k:Int),0<=k->(0<=wP step s l k↔(az step s l).2=false)
 |[],_,_,_=>by simp[wP,az]
 |x::l,s,k,hk=>by
  have ih:=FR step l (step s x).1 (k+1) ad
  by_cases h:(step s x).2=true
  ·simp only[wP,az,h,if_true];exact ih
  ·simp[wP,az,h,hk]
theorem VX{σ:Type}(l:List Tm)(hl:l.length<=9223372036854775807)(g:Nat)(aG:List V)(base:Nat)(H:σ->Nat->ab)(step:σ->Tm->σ×Bool)(hc:∀r∈V.aN aG,r<base)(ok:σ->Prop)(bn:∀x∈l,∀s,ok s->(step s x).2=true->ok (step s x).1)
 (h:∀x∈l,∀s,ok s->fC Tryz.prog g (.d x.d::aG) base (H s) (H (step s x).1) (.d (.bool (!(step s x).2)))) (s:σ) (gu:ok s):
 fC Tryz.prog 204 [.d (.sl (l.map Tm.d)), .func (.func g) [] aG] base (H s) (H (az step s l).1) (.d (.i (wP step s l 0))):=by
 intro o nx hI K X hK
 have fw:∀r∈V.aN aG,r<nx:=fun r hr=>Nat.lt_of_lt_of_le (hc r hr) hI.le
 refine cK.aA mix Ri aj ?_
 rw[Vd]
 refine bV ?_
 refine aK (fun i:Nat×σ×(Nat->ab)×Nat=>⟨bA [.d (.sl (l.map Tm.d)), .func (.func g) [] aG, .aa, .aa, .aa, .aa, .aa, .d (.i l.length), .d (.i i.1)],i.2.2.1,i.2.2.2⟩)
  (fun i=>i.1<=l.length/\cT base (H i.2.1) i.2.2.1 i.2.2.2/\nx<=i.2.2.2/\(∀id,base<=id->id<nx->i.2.2.1 id=o id)/\az step s l=az step i.2.1 (l.drop i.1)/\ok i.2.1/\wP step s l 0=wP step i.2.1 (l.drop i.1) i.1) (fun i=>l.length - i.1) (0,s,o,nx)
  ⟨Nat.zero_le _,hI,Nat.le_refl _,fun _ _ _=>rfl,rfl,gu,rfl⟩ ?_ ?_
 ·dsimp only
  refine bL.bP _ (Nat.le_refl _) ad hI.bN (fun _ _=>rfl) ?_
  exact cG
 rintro⟨k,s',o',nx'⟩ ⟨hk,om,hn,db,hf,jM,kA⟩
 simp only at hk om hn db hf jM kA
 refine bV ?_
 refine ak (fun h1=> ?_) (fun h1=> ?_)
 ·simp at h1
  obtain⟨x,hx⟩:=aw h1
  have dc:=List.mem_of_getElem? hx
  have hd:l.drop k=x::l.drop (k+1):=by
   rw[List.drop_eq_getElem_cons h1]
   rw[List.getElem?_eq_getElem h1]at hx;injection hx with hx;rw[hx]
  rw[hd]at hf kA
  simp only[az,wP]at hf kA
  refine Gj hx ?_
  refine cW (h x dc s' jM _ _ (om.mono ad) _ _ fun o2 n2 m1 m2 m3=> ?_)
  cases hb:(step s' x).2 with
  |true=>
   rw[hb]at hf kA
   simp only[if_true]at hf kA
   refine aI ?_
   have Co:∀r∈V.aN aG,r<n2+1+1:=fun r hr=>by have:=fw r hr;omega
   refine au (k+1,(step s' x).1,o2,n2+1+1) ⟨h1,m2.mono (show n2<=n2+1+1 from ad),(show nx<=n2+1+1 from ad),fun id i1 i2=>(m3 id i1 ad).trans (db id i1 i2),hf,bn x dc s' jM hb,by rw[kA];rfl⟩ mG (bL.bP _ (show nx<=n2+1+1 from ad) (Nat.le_refl _) (m2.mono (show n2<=n2+1+1 from ad)).bN (fun _ _=>rfl) ?_)
   exact cG
  |false=>
   rw[hb]at hf kA
   simp only[Bool.false_eq_true,if_false]at hf kA
   refine bV ?_
   rw[hf,kA]at hK
   exact hK _ _ ad (m2.mono ad) fun id i1 i2=>(m3 id i1 ad).trans (db id i1 i2)
 ·simp at h1
  refine bV ?_
  rw[List.drop_eq_nil_of_le h1]at hf kA
  rw[hf,kA]at hK
  exact hK _ _ ad (om.mono ad) db
theorem sU{σ:Type}(l:List Tm)(hl:l.length<=9223372036854775807)(g:Nat)(aG:List V)(base:Nat)(H:σ->Nat->ab)(step:σ->Tm->σ×Bool)(hc:∀r∈V.aN aG,r<base)(ok:σ->Prop)(bn:∀x∈l,∀s,ok s->(step s x).2=true->ok (step s x).1)
 (h:∀x∈l,∀s,ok s->fC Tryz.prog g (.d x.d::aG) base (H s) (H (step s x).1) (.d (.bool (!(step s x).2)))) (s:σ) (gu:ok s):
 fC Tryz.prog 157 [.d (.sl (l.map Tm.d)), .func (.func g) [] aG] base (H s) (H (az step s l).1) (.d (.bool (!(az step s l).2))):=by
 intro o nx hI K X hK
 have fw:∀r∈V.aN aG,r<nx:=fun r hr=>Nat.lt_of_lt_of_le (hc r hr) hI.le
 refine cK.aA mix QJ aj ?_
 rw[UE]
 refine iC ?_
 refine bc (VX l hl g aG base H step hc ok bn h s gu _ _ ?_ _ _ fun o2 n2 m1 m2 m3=> ?_)
 ·exact hI.mono ad
 refine iC ?_
 have e:decide (0<=wP step s l 0)= !(az step s l).2:=by
  have:=FR step l s 0 ad
  rw[Bool.eq_iff_iff,decide_eq_true_eq,this]
  cases(az step s l).2<;>simp
 rw[e]
 exact hK _ _ ad (m2.mono ad) fun id i1 i2=>m3 id i1 ad
theorem acJ{x:Tm}{g:Nat}{aG:List V}{base c bx:Nat}{h h2 O:Nat->ab}{r:Bool}(hS:fC Tryz.prog g (.d x.d::aG) base h h2 (.d (.bool r)))(hb:base<=bx)(Pc:bx<c)(hO:O bx= .row [.func (.func g) [] aG])(hc:∀r∈V.aN aG,r<base):
 fC Tryz.prog 158 [.d x.d, .ptr bx 0] c (ext base h O) (ext base h2 O) (.d (.bool (!r))):=by
 intro o nx hI K X hK
 have hle:=hI.le
 have fw:∀r∈V.aN aG,r<nx:=fun r hr=>by have:=hc r hr;omega
 have ho:o bx= .row [.func (.func g) [] aG]:=by
  exact IW
 have y1:∀k,bx≠nx+k:=fun k=>ad
 have y2:bx≠nx:=ad
 refine cK.aA mix QK aj ?_
 rw[UF]
 refine Mi ho y1 y2 ?_
 refine cW ((hS.ext (by omega:base<=c) O) _ _ ?_ _ _ fun o2 n2 m1 m2 m3=> ?_)
 ·exact hI.aL ad ad ad rfl
 refine iC ?_
 exact hK _ _ ad (m2.mono ad) fun id i1 i2=>by rw[m3 id i1 (by omega),ai _ _ _ _ (by omega)]
theorem rT{σ:Type}(l:List Tm)(hl:l.length<=9223372036854775807)(g:Nat)(aG:List V)(base:Nat)(H:σ->Nat->ab)(step:σ->Tm->σ×Bool)(hc:∀r∈V.aN aG,r<base)(ok:σ->Prop)(bn:∀x∈l,∀s,ok s->(step s x).2=true->ok (step s x).1)
 (h:∀x∈l,∀s,ok s->fC Tryz.prog g (.d x.d::aG) base (H s) (H (step s x).1) (.d (.bool (step s x).2))) (s:σ) (gu:ok s):
 fC Tryz.prog 111 [.d (.sl (l.map Tm.d)), .func (.func g) [] aG] base (H s) (H (az step s l).1) (.d (.bool (az step s l).2)):=by
 intro o nx hI K X hK
 have hle:=hI.le
 have fw:∀r∈V.aN aG,r<nx:=fun r hr=>Nat.lt_of_lt_of_le (hc r hr) hI.le
 refine cK.aA mix Qq aj ?_
 rw[Ul]
 refine iC ?_
 refine bc (sU l hl 158 [.ptr nx 0] (nx+1) (fun s=>ext base (H s) (aL o nx (.row [.func (.func g) [] aG]))) step lU ok bn (fun x hx s hs=>acJ (h x hx s hs) hle ad (ae _ _ _) hc) s gu _ _ ?_ _ _ fun o2 n2 m1 m2 m3=> ?_)
 ·have hr:(ab.row [V.func (.func g) [] aG]).refs.all (fun r=>decide (r<nx+4))=true:=by
   rw[List.all_eq_true]
   intro r hr
   have h1:r∈V.aN aG:=by simpa[ab.refs,V.aN,V.refs]using hr
   have:=fw r h1
   simp;omega
  exact(hI.aL ad ad ad hr).ext ad ad
 refine iC ?_
 refine hK _ _ ad ⟨(m2.mono ad).bN,by have:=m2.le;omega,fun id aB=> ?_⟩ fun id i1 i2=> ?_
 ·exact yL
 ·exact IQ
def FT(s:aX)(d:Int)(left:Int)(k:Tm):Int×Bool:=((wo s k left d).2,(wo s k left d).1)
theorem Cw(s:aX)(d:Int):∀ (l:List Tm) (left:Int),az (FT s d) left l=((rS s l left d).2,(rS s l left d).1)
 |[],_=>by simp[az,rS]
 |k::l,left=>by
  have ih:=Cw s d l (wo s k left d).2
  by_cases h:(wo s k left d).1=true
  ·simp only[az,rS,FT,h,if_true];exact ih
  ·simp[az,rS,FT,h]
def WdC(s:aX)(t:Tm):Prop:=∀ (left d:Int), -1000000<=left/\left<=1000000-> -1000<=d/\d<=1000->∀ (base lp:Nat) (h:Nat->ab),lp<base->
    fC Tryz.prog 116 [.d s.d, .d t.d, .ptr lp 0, .d (.i d)] base (aL h lp (.row [.d (.i left)])) (aL h lp (.row [.d (.i (wo s t left d).2)])) (.d (.bool (wo s t left d).1))
theorem HI(s:aX)(hs:s.Fits):∀t:Tm,t.fits->WdC s t:=by
 refine Tm.cC fun t ih ht=> ?_
 have Bl:=(Tm.aP _).1 ht
 intro left d hl hd base lp h hlp o nx hI K X hK
 have hle:=hI.le
 have ho:o lp= .row [.d (.i left)]:=by rw[hI.eq lp hlp,ae]
 have y1:∀k,lp≠nx+k:=fun k=>ad
 have y2:lp≠nx:=ad
 rw[KL]at hK
 have fin:∀ (o':Nat->ab) (n':Nat) (v:Int),nx<=n'->Good o' n'->o' lp= .row [.d (.i v)]->(∀j,j<nx->j≠lp->o' j=o j)->cT base (aL h lp (.row [.d (.i v)])) o' n'/\∀id,base<=id->id<nx->o' id=o id:=fun o' n' v k1 k2 k3 k4=>by
  refine⟨⟨k2,ad,fun id aB=> ?_⟩,fun id i1 i2=>k4 id i2 ad⟩
  by_cases e:id=lp
  ·subst e;rw[k3,ae]
  ·rw[k4 id (by omega) e,hI.eq id aB,ai _ _ _ _ e,ai _ _ _ _ e]
 have hg:=hI.bN
 refine cK.aA mix Qt aj ?_
 rw[Uo]
 refine Mi ho y1 y2 ?_
 by_cases h1:left - 1<0
 ·have cm:decide (0<=left - 1)=false:=by simp;omega
  rw[if_pos (.inl h1)]at hK
  refine Mx cm ho y1 y2 ?_
  refine(fun q=>hK _ _ ad (And.left q) (And.right q)) (fin _ (nx+31) (left - 1) ad ?_ (ae _ _ _) fun j j1 j2=> ?_)
  ·exact dg
  ·exact eh
 have cm:decide (0<=left - 1)=true:=by simp;omega
 by_cases h2:d<=0
 ·have j8:decide (0<d)=false:=by simpa using h2
  rw[if_pos (.inr (.inl h2))]at hK
  refine Mw cm j8 ho y1 y2 ?_
  refine(fun q=>hK _ _ ad (And.left q) (And.right q)) (fin _ (nx+31) (left - 1) ad ?_ (ae _ _ _) fun j j1 j2=> ?_)
  ·exact dg
  ·exact eh
 have j8:decide (0<d)=true:=by simp;omega
 refine Mw cm j8 ho y1 y2 ?_
 refine ah (Oh s t hs Bl.1) rfl ?_
 cases hn:ml s t with
 |false=>
  rw[if_pos (.inr (.inr hn))]at hK
  refine Mw cm j8 ho y1 y2 ?_
  refine(fun q=>hK _ _ ad (And.left q) (And.right q)) (fin _ (nx+31) (left - 1) ad ?_ (ae _ _ _) fun j j1 j2=> ?_)
  ·exact dg
  ·exact eh
 |true=>
  rw[if_neg (by rw[hn];simp;omega)]at hK
  refine Mw cm j8 ho y1 y2 ?_
  have XZ:=Cw s (d - 1) t.kids (left - 1)
  have clo:∀ (O:Nat->ab) (k:Tm) (v:Int),k∈t.kids-> -1000000<=v/\v<=1000000->O nx= .row s.row->O (nx+2)= .row [.ptr lp 0]->O (nx+3)= .row [.d (.i d)]->
   fC Tryz.prog 160 [.d k.d, .ptr nx 0, .ptr (nx+2) 0, .ptr (nx+3) 0] (nx+4) (ext base (aL h lp (.row [.d (.i v)])) O) (ext base (aL h lp (.row [.d (.i (wo s k v (d - 1)).2)])) O) (.d (.bool (wo s k v (d - 1)).1)):=by
   intro O k v hk hv p0 p2 p3 o2 n2 JA K2 X2 hK2
   have X5:=JA.le
   have r0:o2 nx= .row s.row:=by rw[JA.eq nx (by omega)];unfold ext;rw[if_neg (by omega),p0]
   have r2:o2 (nx+2)= .row [.ptr lp 0]:=by rw[JA.eq _ (by omega)];unfold ext;rw[if_neg (by omega),p2]
   have r3:o2 (nx+3)= .row [.d (.i d)]:=by rw[JA.eq _ (by omega)];unfold ext;rw[if_neg (by omega),p3]
   have z0:∀j,nx≠n2+j:=fun j=>ad
   have z2:∀j,nx+2≠n2+j:=fun j=>ad
   have z3:∀j,nx+3≠n2+j:=fun j=>ad
   have z4:nx≠n2/\nx+2≠n2/\nx+3≠n2:=ad
   refine cK.aA mix QM aj ?_
   rw[UH]
   simp+contextual (disch:=first|omega|simp only[go_sem,false_implies]) only[go_sem,wrap64,if_pos,r0,r2,r3,z0,z2,z3,z4.1,z4.2.1,z4.2.2,Nat.add_assoc,Nat.left_eq_add,Nat.add_eq_left,Nat.add_left_cancel_iff]
   refine bc ((ih k hk (Bl.2 k hk) v (d - 1) hv ad base lp h hlp).ext (by omega:base<=nx+4) O _ _ ?_ _ _ fun o3 n3 m1 m2 m3=> ?_)
   ·exact JA.aL ad ad ad rfl
   refine iC ?_
   exact hK2 _ _ ad (m2.mono ad) fun id i1 i2=>by rw[m3 id i1 (by omega),ai _ _ _ _ (by omega)]
  refine bc (cK.gen fun O hO=> ?_)
  have p0:O nx= .row s.row:=by rw[hO];(repeat(first|rfl|rw[ae]|rw[ai _ _ _ _ (by omega)]))
  have p2:O (nx+2)= .row [.ptr lp 0]:=by rw[hO];(repeat(first|rfl|rw[ae]|rw[ai _ _ _ _ (by omega)]))
  have p3:O (nx+3)= .row [.d (.i d)]:=by rw[hO];(repeat(first|rfl|rw[ae]|rw[ai _ _ _ _ (by omega)]))
  obtain⟨hIO,db⟩:=fin O (nx+28) (left - 1) ad (by rw[hO];exact dg) (by rw[hO];exact ae _ _ _) (fun j j1 j2=>by rw[hO];(repeat(first|rfl|rw[ae]|rw[ai _ _ _ _ (by omega)])))
  refine rT t.kids Bl.1 160 [.ptr nx 0, .ptr (nx+2) 0, .ptr (nx+3) 0] (nx+4) (fun v=>ext base (aL h lp (.row [.d (.i v)])) O) (FT s (d - 1)) lU (fun v:Int=> -1000000<=v/\v<=1000000) (fun k hk v hv nT=> ?_) (fun k hk v hv=>clo O k v hk hv p0 p2 p3) (left - 1) ad O (nx+28) (hIO.ext ad ad) _ _ fun o2 n2 m1 m2 m3=> ?_
  ·obtain⟨h5,h6⟩:=KM s k v (d - 1)
   have e:=h6 nT
   rw[show(wo s k v (d - 1)).1=true from nT]at h5
   have h7:=h5.symm
   rw[Bool.and_eq_true,decide_eq_true_eq]at h7
   show -1000000<=(wo s k v (d - 1)).2/\(wo s k v (d - 1)).2<=1000000
   rw[e];omega
  ·rw[XZ]at m2|-
   refine iC ?_
   refine hK _ _ ad ⟨(m2.mono ad).bN,by have:=m2.le;omega,fun id aB=> ?_⟩ fun id i1 i2=> ?_
   ·exact yL
   ·rw[m2.eq id (by omega)];unfold ext;rw[if_neg (by omega),db id i1 i2]
theorem Ad(s:aX)(hs:s.Fits)(t:Tm)(ht:t.fits):a7 Tryz.prog 68 [s.d,t.d] (.ret [.bool (sT s t)]):=by
 refine a7.aA mix Zk aj ?_
 rw[c68]
 refine iC ?_
 refine bc ((HI s hs t ht) 80 30 ad ad 4 3 (aL (aL (fun _=> .no) 0 (.row s.row)) 1 (.row t.row)) ad _ _ ⟨dg,ad,fun id aB=> ?_⟩ _ _ fun o2 n2 m1 m2 m3=> ?_)
 ·exact sr
 refine iC ?_
 rw[aaA]
theorem K1(s:aX)(hs:s.Fits)(x:Tm)(hx:x.fits)(base sp:Nat)(h:Nat->ab)(te:h sp= .row s.row)(hb:sp<base):
 fC Tryz.prog 112 [.d x.d, .ptr sp 0] base h h (.d (.bool (sT s x))):=by
 intro o nx hI K X hK
 have hle:=hI.le
 have ho:o sp= .row s.row:=by rw[hI.eq sp hb,te]
 have y1:∀k,sp≠nx+k:=fun k=>ad
 have y2:sp≠nx:=ad
 refine cK.aA mix Qr aj ?_
 rw[Um]
 refine Mi ho y1 y2 ?_
 refine ah (Ad s hs x hx) rfl ?_
 refine iC ?_
 exact hK _ _ ad (hI.aL ad ad ad rfl) fun id i1 i2=>by rw[ai _ _ _ _ (by omega)]
theorem vC{α:Type}(f:α->Bool):∀l:List α,az (fun(_:Unit) x=>((),f x)) () l=((),l.all f)
 |[]=>rfl
 |x::l=>by
  have ih:=vC f l
  cases h:f x<;>simp[az,h,ih]
def iy(s:aX)(l:List Tm):Bool:=iV s&&l.all (sT s)
theorem HJ(s:aX)(hs:s.Fits)(l:List Tm)(hl:l.length<=1000000)(hf:∀t∈l,t.fits):a7 Tryz.prog 64 [s.d, .sl (l.map Tm.d)] (.ret [.bool (iy s l)]):=by
 refine a7.aA mix Zh aj ?_
 rw[c64]
 refine aI ?_
 refine ah (pt s hs) rfl ?_
 cases h1:iV s with
 |false=>simp+contextual (disch:=first|omega|simp only[go_sem,false_implies]) only[go_sem,wrap64,if_pos,jV];simp[iy,h1]
 |true=>
  refine wu ?_
  refine bc (rT (σ:=Unit) l ad 112 [.ptr 0 0] 1 (fun _=>aL (fun _=> .no) 0 (.row s.row)) (fun _ x=>((),sT s x)) lU (fun _=>True) (fun _ _ _ _ _=>trivial) (fun x hx _ _=>K1 s hs x (hf x hx) 1 0 _ (ae _ _ _) ad) () trivial _ _ ⟨dg,ad,fun id aB=> ?_⟩ _ _ fun o2 n2 m1 m2 m3=> ?_)
  ·exact sr
  rw[vC]
  refine iC ?_
  simp[iy,h1]
theorem Oj(s:aX)(hs:s.Fits)(a b:Tm)(ha:a.fits)(hb:b.fits):a7 Tryz.prog 25 [s.d,a.d,b.d] (.ret [.bool (iy s [a,b]&&vz a b), .i (jV (iy s [a,b]))]):=by
 refine a7.aA mix Za aj ?_
 rw[c25]
 refine aI ?_
 refine ah (HJ s hs [a,b] aj (fun x hx=>by simp at hx;rcases hx with rfl|rfl<;>assumption)) rfl ?_
 cases h1:iy s [a,b]with
 |false=>exact Mz
 |true=>
  have hp:Pn s a/\Pn s b:=by
   simp[iy,sT]at h1
   exact⟨h1.2.1.2,h1.2.2.2⟩
  refine wu ?_
  refine ah (Cv a ha hp.1 b hb hp.2) rfl ?_
  exact Mz
end Go.Proofs.YtonbelhklnmjnaaGreat
namespace Go.Proofs.YtonbelhklnmjnaaGreat
theorem aaD{x:Tm}{g:Nat}{aG:List V}{base c bx:Nat}{h h2 O:Nat->ab}{r:Bool}(hS:fC Tryz.prog g (.d x.d::aG) base h h2 (.d (.bool r)))(hb:base<=bx)(Pc:bx<c)(hO:O bx= .row [.func (.func g) [] aG])(hc:∀r∈V.aN aG,r<base):
 fC Tryz.prog 230 [.d x.d, .ptr bx 0] c (ext base h O) (ext base h2 O) (.d (.bool (!r))):=by
 intro o nx hI K X hK
 have hle:=hI.le
 have fw:∀r∈V.aN aG,r<nx:=fun r hr=>by have:=hc r hr;omega
 have ho:o bx= .row [.func (.func g) [] aG]:=by
  exact IW
 have y1:∀k,bx≠nx+k:=fun k=>ad
 have y2:bx≠nx:=ad
 refine cK.aA mix Ry aj ?_
 rw[Vs]
 refine Mi ho y1 y2 ?_
 refine cW ((hS.ext (by omega:base<=c) O) _ _ ?_ _ _ fun o2 n2 m1 m2 m3=> ?_)
 ·exact hI.aL ad ad ad rfl
 refine iC ?_
 exact hK _ _ ad (m2.mono ad) fun id i1 i2=>by rw[m3 id i1 (by omega),ai _ _ _ _ (by omega)]
theorem ye{σ:Type}(l:List Tm)(hl:l.length<=9223372036854775807)(g:Nat)(aG:List V)(base:Nat)(H:σ->Nat->ab)(step:σ->Tm->σ×Bool)(hc:∀r∈V.aN aG,r<base)(ok:σ->Prop)(bn:∀x∈l,∀s,ok s->(step s x).2=true->ok (step s x).1)
 (h:∀x∈l,∀s,ok s->fC Tryz.prog g (.d x.d::aG) base (H s) (H (step s x).1) (.d (.bool (step s x).2))) (s:σ) (gu:ok s):
 fC Tryz.prog 187 [.d (.sl (l.map Tm.d)), .func (.func g) [] aG] base (H s) (H (az step s l).1) (.d (.bool (az step s l).2)):=by
 intro o nx hI K X hK
 have hle:=hI.le
 have fw:∀r∈V.aN aG,r<nx:=fun r hr=>Nat.lt_of_lt_of_le (hc r hr) hI.le
 refine cK.aA mix Rb aj ?_
 rw[U7]
 refine iC ?_
 refine bc (sU l hl 230 [.ptr nx 0] (nx+1) (fun s=>ext base (H s) (aL o nx (.row [.func (.func g) [] aG]))) step lU ok bn (fun x hx s hs=>aaD (h x hx s hs) hle ad (ae _ _ _) hc) s gu _ _ ?_ _ _ fun o2 n2 m1 m2 m3=> ?_)
 ·have hr:(ab.row [V.func (.func g) [] aG]).refs.all (fun r=>decide (r<nx+4))=true:=by
   rw[List.all_eq_true]
   intro r hr
   have h1:r∈V.aN aG:=by simpa[ab.refs,V.aN,V.refs]using hr
   have:=fw r h1
   simp;omega
  exact(hI.aL ad ad ad hr).ext ad ad
 refine iC ?_
 refine hK _ _ ad ⟨(m2.mono ad).bN,by have:=m2.le;omega,fun id aB=> ?_⟩ fun id i1 i2=> ?_
 ·exact yL
 ·exact IQ
mutual
def iF:Tm->List Tm
 | .mk op n kids=> .mk op n kids::Ol kids
def Ol:List Tm->List Tm
 |[]=>[]
 |k::l=>iF k++Ol l
end
theorem yf:∀l:List Tm,Ol l=l.flatMap iF
 |[]=>rfl
 |k::l=>by rw[Ol,yf l];rfl
theorem nG(t:Tm):iF t=t::t.kids.flatMap iF:=by cases t;rw[iF,yf];rfl
section
variable {σ:Type}(base nW:Nat)(H:σ->Nat->ab)(step:σ->Tm->σ×Bool)(ok:σ->Prop)
theorem K4:∀t:Tm,t.fits->(∀x∈iF t,∀s,ok s->(step s x).2=true->ok (step s x).1)->(∀x∈iF t,∀s,ok s->Xn Tryz.prog nW [.d x.d] base (H s) (H (step s x).1) (.d (.bool (step s x).2)))->nW<base->
 ∀ (c:Nat) (o0:Nat->ab) (yb vb:Nat),base<=c->base<=yb->yb<c->base<=vb->vb<c->o0 yb= .row [.jO nW]->o0 vb= .row [.func (.func 258) [] [.ptr yb 0, .ptr vb 0]]->
 ∀s,ok s->fC Tryz.prog 258 [.d t.d, .ptr yb 0, .ptr vb 0] c (ext base (H s) o0) (ext base (H (az step s (iF t)).1) o0) (.d (.bool (az step s (iF t)).2)):=by
 refine Tm.cC fun t ih hf bn hR vi c o0 yb vb Pc RV hy RW hv oy ov s gu=> ?_
 have gX:=(Tm.aP _).1 hf
 intro o nx hI K X hK
 have hle:=hI.le
 have RX:o yb= .row [.jO nW]:=by rw[hI.eq yb hy];unfold ext;rw[if_neg (by omega),oy]
 have RY:o vb= .row [.func (.func 258) [] [.ptr yb 0, .ptr vb 0]]:=by rw[hI.eq vb hv];unfold ext;rw[if_neg (by omega),ov]
 have y1:yb≠nx:=ad
 have y2:∀k,yb≠nx+k:=fun k=>ad
 have y3:vb≠nx:=ad
 have y4:∀k,vb≠nx+k:=fun k=>ad
 refine cK.aA mix RR aj ?_
 rw[VJ]
 simp+contextual only[go_sem,RX,RY,y1,y2,y3,y4,Nat.add_assoc,Nat.left_eq_add,Nat.add_eq_left,Nat.add_left_cancel_iff]
 have s8:=nG t
 have lH:∀k∈t.kids,∀x∈iF k,x∈iF t:=fun k hk x hx=>by
  exact Sl
 have hb:∀id,id<base->o id=H s id:=fun id aB=>by rw[hI.eq id (by omega)];unfold ext;rw[if_pos aB]
 have hIb:cT base (H s) o nx:=⟨hI.bN,ad,hb⟩
 refine nB (hR t Gv s gu _ _ (hIb.aL (i:=nx) (m:=nx+4) ad ad ad rfl) _ _ fun o2 n2 m1 m2 m3=> ?_)
 have k0:o2 nx= .row t.row:=by rw[m3 nx (by omega) (by omega),ae]
 have hold:∀id,base<=id->id<nx->o2 id=o id:=fun id h1 h2=>by rw[m3 id h1 (by omega),ai _ _ _ _ (by omega)]
 have Gp:∀id,base<=id->id<c->o id=o0 id:=fun id h1 h2=>by rw[hI.eq id h2];unfold ext;rw[if_neg (by omega)]
 cases Cp:(step s t).2 with
 |false=>
  refine eY Cp ?_
  have AL:az step s (iF t)=((step s t).1,false):=by rw[s8,az,if_neg (by rw[Cp];exact Bool.false_ne_true)]
  rw[AL]at hK
  refine hK _ _ ad ⟨m2.bN.mono ad,ad,fun id aB=> ?_⟩ (fun id h1 h2=>hold id ad h2)
  unfold ext
  split
  ·exact m2.eq id I1
  ·exact Gn
 |true=>
  have AL:az step s (iF t)=az (fun s k=>az step s (iF k)) (step s t).1 t.kids:=by rw[s8,az,if_pos Cp,pk]
  have q0:o2 yb= .row [.jO nW]:=by rw[hold yb RV (by omega),RX]
  have q1:o2 vb= .row [.func (.func 258) [] [.ptr yb 0, .ptr vb 0]]:=by rw[hold vb RW (by omega),RY]
  simp+contextual only[go_sem,Cp,k0,q1]
  have m0:=m2.le
  refine bc (ye t.kids gX.1 258 [.ptr yb 0, .ptr vb 0] n2 (fun s=>ext base (H s) o2) (fun s k=>az step s (iF k)) ?_ ok ?_ ?_ (step s t).1 (bn t Gv s gu Cp) _ _ ?_ _ _ ?_)
  ·exact MM
  ·exact fun k hk s' h1 h2=>vh _ (fun x hx=>bn x (lH k hk x hx)) s' h1 h2
  ·intro k hk s' iE
   exact ih k hk (gX.2 k hk) (fun x hx=>bn x (lH k hk x hx)) (fun x hx=>hR x (lH k hk x hx)) vi n2 o2 yb vb ad RV ad RW ad q0 q1 s' iE
  ·exact(m2.mono ad).ext ad ad
  ·intro o5 n5 p1 p2 p3
   refine bV ?_
   rw[<- AL]
   refine hK _ _ ad ⟨p2.bN.mono ad,ad,fun id aB=> ?_⟩ (fun id h1 h2=> ?_)
   ·rw[p2.eq id (by omega), <- AL]
    unfold ext
    split
    ·rfl
    ·exact Gn
   ·rw[p2.eq id (by omega)]
    unfold ext
    exact Sw
theorem HK(t:Tm)(hf:t.fits)(bn:∀x∈iF t,∀s,ok s->(step s x).2=true->ok (step s x).1)(hR:∀x∈iF t,∀s,ok s->Xn Tryz.prog nW [.d x.d] base (H s) (H (step s x).1) (.d (.bool (step s x).2)))(vi:nW<base)(tb:Nat)(Gw:tb<base)(s:σ)(gu:ok s)(bX:H s tb= .row t.row):
 fC Tryz.prog 257 [.jO nW, .ptr tb 0] base (H s) (H (az step s (iF t)).1) (.ck []):=by
 intro o nx hI K X hK
 have hle:=hI.le
 have ot:o tb= .row t.row:=by rw[hI.eq tb Gw,bX]
 have y1:tb≠nx:=ad
 have y2:∀k,tb≠nx+k:=fun k=>ad
 refine cK.aA mix RQ aj ?_
 rw[VI]
 refine Sg ot y1 y2 ?_
 have hI1:cT base (H s) (aL (aL (aL o nx (.row [.jO nW])) (nx+1) (.row [.d .bT])) (nx+1) (.row [.func (.func 258) [] [.ptr nx 0, .ptr (nx+1) 0]])) (nx+6):=by
  refine((hI.aL (i:=nx) (m:=nx+6) ad ad ad ?_).aL (i:=nx+1) (m:=nx+6) ad ad ad rfl).aL (i:=nx+1) ad ad ad ?_
  ·exact Sz
  ·exact pI
 refine bc (K4 base nW H step ok t hf bn hR vi (nx+6) _ nx (nx+1) ad hle ad ad ad ?_ ?_ s gu _ _ (hI1.ext (Nat.le_refl _) ad) _ _ ?_)
 ·exact eh
 ·exact eh
 intro o2 n2 m1 m2 m3
 refine bV ?_
 refine hK _ _ ad ⟨m2.bN,ad,fun id aB=> ?_⟩ (fun id h1 h2=> ?_)
 ·exact yL
 ·rw[m2.eq id (by omega)];unfold ext;rw[if_neg (by omega)]
  exact eh
end
theorem yg(t:Tm)(o:Nat->ab)(nx:Nat)(K X:V->(Nat->ab)->Nat->Prop)(h:K (.func (.func 257) [] [.ptr nx 0]) (aL o nx (.row t.row)) (nx+4)):cK Tryz.prog 231 [.d t.d] o nx K X:=by
 refine cK.aA mix Rz aj ?_
 rw[Vt]
 refine bV ?_
 exact h
def Ae{σ:Type}(J:σ->Option jI)(step:σ->Tm->σ)(s:σ)(x:Tm):σ×Bool:=(step s x,(J (step s x)).isNone)
theorem qA{σ:Type}(t:Tm)(hf:t.fits){n bq:Nat}{gq:Operand}{ps:List Nat}{iK eE:IC}{Q:fN->S->Prop}{e:Nat->V}{o:Nat->ab}{nx tb:Nat}(env:List V)(he:lM e env 0)
 (D6:ps.all (fun t=>decide (t<n))=true) (hl:ps.length=1) (hg:Good o nx) (hrefs:∀r∈V.aN env,r<nx) (ht:o tb= .row t.row)
 (G:σ->Nat->ab) (J:σ->Option jI) (step:σ->Tm->σ) (ok:σ->Prop) (s0:σ) (gu:ok s0) (Ms:J s0=none) (h0:∀id,id<nx->o id=G s0 id) (bn:∀x∈iF t,∀s,ok s->J s=none->J (step s x)=none->ok (step s x))
 (mc:∀L,iu Tryz.prog n env ps iK eE L->(∀st pd m,nx<=m->(L st pd).refs.all (fun r=>decide (r<m))=true)->∀x∈iF t,∀s,ok s->J s=none->∀o3 n3,cT nx (G s) o3 n3->nx<n3->o3 nx=L .ready none->∀K X,
  (∀e' o' n' st pd,n3<=n'->cT nx (G (step s x)) o' n'->o' nx=L st pd->(∀id,nx<id->id<n3->o' id=o3 id)->jB nx K X (FI (J (step s x))) ⟨e',o',n'⟩)->
  kS Tryz.prog n n3 true iK (nA Tryz.prog n n3 nx eE K X) ⟨nn (bA env) ps [.d x.d],o3,n3⟩)
 (kg:∀o' n',cT nx (G (az (Ae J step) s0 (iF t)).1) o' n'->oX Q (J (az (Ae J step) s0 (iF t)).1) ⟨e,o',n'⟩):
 wJ Tryz.prog n bq false gq ps iK eE Q ⟨e,o,nx⟩ (.func (.func 257) [] [.ptr tb 0]):=by
 refine Eg env he (fun L hL=> ?_)
 have Gw:tb<nx:=hg.lt SJ
 let H:σ->Nat->ab:=fun s id=>if id<nx then G s id else if id=nx then(match J s with|none=>L .ready none|some j=>L .done (some j))else .no
 have Gq:∀s id,id<nx->H s id=G s id:=fun s id h=>if_pos h
 have FJ:∀s,J s=none->H s nx=L .ready none:=fun s h=>by show(if nx<nx then _ else _)=_;rw[if_neg (by omega),if_pos rfl,h]
 have KA:∀s j,J s=some j->H s nx=L .done (some j):=fun s j h=>by show(if nx<nx then _ else _)=_;rw[if_neg (by omega),if_pos rfl,h]
 have wg:∀st pd m,nx<=m->(L st pd).refs.all (fun r=>decide (r<m))=true:=fun st pd m hm=>by
  rw[hL.refs,List.all_eq_true]
  intro r hr;have:=hrefs r hr;exact decide_eq_true ad
 refine HK (nx+1) nx H (Ae J step) (fun s=>ok s/\J s=none) t hf (fun x hx s h1 h2=> ?_) (fun x hx s h1=> ?_) ad tb ad s0 ⟨gu,Ms⟩ SH _ _ ⟨?_,Nat.le_refl _,fun id aB=> ?_⟩ _ _ ?_
 ·have hj:J (step s x)=none:=by simpa[Ae]using h2
  exact⟨bn x hx s h1.1 h1.2 hj,hj⟩
 ·intro o3 n3 hI K X hK
  have hle:=hI.le
  have IE:o3 nx=L .ready none:=by rw[hI.eq nx (by omega),FJ s h1.2]
  refine vc hL mix IE ad D6 (by simp[hl]) ?_
  refine mc L hL wg x hx s h1.1 h1.2 o3 n3 ⟨hI.bN,ad,fun id aB=>by rw[hI.eq id (by omega),Gq _ _ aB]⟩ ad IE K X (fun e' o' n' st pd k1 k2 k3 k4=> ?_)
  have key:∀st' pd' b,(J (step s x)).isNone=b->H (step s x) nx=L st' pd'->K (.d (.bool b)) (aL o' nx (L st' pd')) n':=fun st' pd' b hb hh=>by
   subst hb
   refine hK _ _ k1 ⟨k2.bN.aL ad (wg _ _ _ ad),ad,fun id aB=> ?_⟩ (fun id g1 g2=> ?_)
   ·by_cases oL:id=nx
    ·subst oL;rw[ae];exact hh.symm
    ·rw[ai _ _ _ _ oL]
     show o' id=H (step s x) id
     exact Sq
   ·exact Sn
  cases hj:J (step s x)with
  |none=>exact rQ hL k3 (key _ _ _ yN (FJ _ hj))
  |some j=>
   cases j with
   |ret=>exact pg hL k3 (key _ _ _ yN (KA _ _ hj))
   |exit j=>exact nD hL k3 (key _ _ _ yN (KA _ _ hj))
 ·exact(hg.mono ad).aL ad (wg _ _ _ ad)
 ·by_cases oL:id=nx
  ·subst oL;rw[ae,FJ _ Ms]
  ·exact Sm
 ·intro o' n' k1 k2 k3
  have hle:=k2.le
  generalize hsf:(az (Ae J step) s0 (iF t)).1=sf at*
  have kk:∀st pd,cT nx (G sf) (aL o' nx (L st pd)) n':=fun st pd=>⟨k2.bN.aL ad (wg _ _ _ ad),ad,fun id aB=>by rw[ai _ _ _ _ (by omega),k2.eq id (by omega),Gq _ _ aB]⟩
  cases hj:J sf with
  |none=>
   refine⟨.ready,none,by rw[k2.eq nx (by omega),FJ _ hj],(fun h=>by cases h), ?_⟩
   have:=kg _ _ (kk .exhausted none)
   rwa [hj]at this
  |some j=>
   refine⟨.done,some j,by rw[k2.eq nx (by omega),KA _ _ hj],(fun h=>by cases h), ?_⟩
   have:=kg _ _ (kk .exhausted (some j))
   rwa [hj]at this
end Go.Proofs.YtonbelhklnmjnaaGreat
namespace Go.Proofs.YtonbelhklnmjnaaGreat
def HL(l:List (D×D)):List (Int×D):=l.map fun p=>((match p.1 with| .int _ n=>n|_=>0),p.2)
def VY(l:List (D×D)):Bool:=l.all fun p=>match p.1 with| .int .i64 _=>true|_=>false
@[go_sem] theorem aba (m:List (Int×D)):HL (enc (D.int .i64) m)=m:=by
  unfold HL enc;rw[List.map_map];simp[Function.comp_def]
@[go_sem] theorem abb (m:List (Int×D)):VY (enc (D.int .i64) m)=true:=by simp[VY,enc]
@[go_sem] theorem abc:VY []=true:=rfl
@[go_sem] theorem abd:HL []=[]:=rfl
theorem Af:∀ {l:List (D×D)},VY l=true->enc (D.int .i64) (HL l)=l
 |[],_=>rfl
 |(k,x)::l,h=>by
  simp only[VY,List.all_cons,Bool.and_eq_true]at h
  have ih:=Af (l:=l) h.2
  obtain⟨n,h1⟩:∃n,k= .int .i64 n:=by
   have h1:=h.1
   split at h1
   ·exact⟨_,rfl⟩
   ·cases h1
  subst h1
  simp only[enc,HL,List.map_cons]at ih|-
  rw[ih]
def iz(l:List Int):List (Int×D):=l.map fun n=>(n, .bool true)
@[go_sem] theorem aaE:iz []=[]:=rfl
def rU(l:List Int)(n:Int):List Int:=if l.contains n=true then l else l++[n]
theorem vE{l:List Int}{n k:Int}:k∈rU l n↔k∈l\/k=n:=by
 unfold rU
 split
 ·rename_i h
  have:n∈l:=by simpa using h
  constructor
  ·exact .inl
  ·rintro(h|rfl)<;>assumption
 ·simp
theorem vF{l:List Int}(n:Int)(h:l.Nodup):(rU l n).Nodup:=by
 unfold rU
 split
 ·exact h
 ·rename_i hn
  have hn:n∉l:=by simpa using hn
  rw[List.nodup_append]
  exact⟨h,aj,fun a ha b hb=>by simp at hb;subst hb;intro e;subst e;exact hn ha⟩
theorem lO:∀ (l:List Int) (n:Int) (i:Nat),fT n (iz l) i=(l.findIdx? (· ==n)).map fun j=>(i+j,D.bool true)
 |[],n,i=>rfl
 |x::l,n,i=>by
  have ih:=lO l n (i+1)
  simp only[iz,List.map_cons,fT,List.findIdx?_cons]at ih|-
  by_cases h:n=x
  ·subst h;simp
  ·have h2: ¬x=n:=fun e=>h e.symm
   simp only[beq_iff_eq,h,h2,if_false,ih,Option.map_map,Function.comp_def]
   congr 1;funext j;congr 1;omega
@[go_sem] theorem Xq (l:List Int) (n:Int):wM n (.bool true) (iz l)=iz (rU l n):=by
  unfold wM rU
  rw[lO]
  cases h:l.findIdx? (· ==n)with
  |none=>
   have:l.contains n=false:=by
    rw[List.findIdx?_eq_none_iff]at h
    rw[Bool.eq_false_iff];intro hc
    have:=h n (by simpa using hc)
    simp at this
   simp only[Option.map_none,this,Bool.false_eq_true,if_false]
   simp[iz]
  |some j=>
   rw[List.findIdx?_eq_some_iff_getElem]at h
   obtain⟨hj,he,_⟩:=h
   have e:l[j]=n:=by simpa using he
   have:l.contains n=true:=by rw[List.contains_iff_mem, <- e];exact List.getElem_mem hj
   simp only[Option.map_some,this,if_true,Nat.zero_add]
   apply List.ext_getElem?
   intro k
   rw[List.getElem?_set]
   split
   ·rename_i hk;subst hk;simp[iz,hj,e]
   ·rfl
def Cy(l:List Int)(n:Int):List Int:=match l.findIdx? (· ==n)with|some j=>l.eraseIdx j|none=>l
theorem iA{α β:Type}(f:α->β):∀ (l:List α) (j:Nat),(l.map f).eraseIdx j=(l.eraseIdx j).map f
 |[],_=>rfl
 |_::_,0=>rfl
 |x::l,j+1=>by simp[iA f l j]
@[go_sem] theorem Xr (l:List Int) (n:Int):aax n (iz l)=iz (Cy l n):=by
  unfold aax Cy
  rw[lO]
  cases h:l.findIdx? (· ==n)with
  |none=>simp
  |some j=>simp only[Option.map_some,Nat.zero_add];exact iA _ _ _
theorem yh{l:List Int}(n:Int)(h:l.Nodup):(Cy l n).Nodup/\∀k,k∈Cy l n↔k∈l/\k≠n:=by
 unfold Cy
 cases hf:l.findIdx? (· ==n)with
 |none=>
  rw[List.findIdx?_eq_none_iff]at hf
  refine⟨h,fun k=>⟨fun hk=>⟨hk,fun e=> ?_⟩,fun hk=>hk.1⟩⟩
  subst e
  have:=hf k hk
  simp at this
 |some j=>
  rw[List.findIdx?_eq_some_iff_getElem]at hf
  obtain⟨hj,he,_⟩:=hf
  have e:l[j]=n:=by simpa using he
  refine⟨h.sublist (List.eraseIdx_sublist _ _),fun k=> ?_⟩
  show k∈l.eraseIdx j↔_
  have te:l=l.take j++l[j]::l.drop (j+1):=by rw[List.getElem_cons_drop,List.take_append_drop]
  rw[List.eraseIdx_eq_take_drop_succ]
  rw[te,List.nodup_append,List.nodup_cons]at h
  obtain⟨h1,⟨h2,h3⟩,h4⟩:=h
  constructor
  ·intro hk
   rw[List.mem_append]at hk
   refine⟨?_,fun ek=> ?_⟩
   ·rcases hk with hk|hk
    ·exact List.mem_of_mem_take hk
    ·exact List.mem_of_mem_drop hk
   ·rcases hk with hk|hk
    ·exact h4 k hk l[j] (List.mem_cons_self ..) (by rw[ek,e])
    ·exact h2 (by rw[e, <- ek];exact hk)
  ·rintro⟨hk,iD⟩
   rw[te,List.mem_append,List.mem_cons]at hk
   rw[List.mem_append]
   rcases hk with hk|hk|hk
   ·exact .inl hk
   ·exact absurd (hk.trans e) iD
   ·exact .inr hk
section
variable {P:Program}{o:Nat->ab}{t:TypeId}{id:Nat}{n:Int}{v:V}
def rV(P:Program)(kt:TypeId):Bool:=match cj P kt with|some .int=>true|_=>false
theorem yi{kt:TypeId}(h:rV P kt=true):cj P kt=some .int:=by
 unfold rV at h;split at h
 ·assumption
 ·cases h
@[go_sem] theorem Xs {kt:TypeId} (h:cj P kt=some .int):rV P kt=true:=by unfold rV;rw[h]
def VZ(P:Program)(o:Nat->ab)(t:TypeId)(id:Nat)(n:Int)(v:V):Option gB:=
 match pQ P t,dZ o v,o id with
 |some (kt,_),some vd, .map ES ET l=>match rV P kt&&VY l&&v.ids.all (· !=id)with
  |true=>some (.ck [],dk o v.ids++[(id, .map ES ET (enc (D.int .i64) (wM n vd (HL l))))],id::v.ids)
  |false=>qy P o t (.mp id) (.d (.int .i64 n)) v
 |_,_,_=>qy P o t (.mp id) (.d (.int .i64 n)) v
@[go_sem high] theorem V0:gk P o t (.mp id) (.d (.int .i64 n)) v=VZ P o t id n v:=by
  unfold VZ
  split
  ·rename_i kt vt vd ES ET l h1 h2 h3
   split
   ·rename_i hc
    simp only[Bool.and_eq_true]at hc
    obtain⟨⟨c1,c2⟩,c3⟩:=hc
    have c4:=yi c1
    have c5:dZ o (.d (.int .i64 n))=some (.int .i64 n):=rfl
    have hl:=Af c2
    unfold gk
    simp only[h1,c5,h2,ox,h3]
    rw[if_pos ⟨rfl,FK c4 n,rfl,c3⟩]
    conv=>lhs;rw[<- hl]
    rw[Cr c4]
    unfold wM
    cases fT n (HL l) 0 with
    |none=>simp[wN,enc]
    |some p=>simp[wN,FL,D.same,ow]
   ·exact x9 ..
  ·exact x9 ..
attribute [go_sem] VZ
def Xt(l:List (D×D)):Bool:=l.all fun p=>match p.2 with| .bool true=>true|_=>false
@[go_sem] theorem abe (l:List Int):Xt (enc (D.int .i64) (iz l))=true:=by simp[Xt,enc,iz]
@[go_sem] theorem abf:Xt []=true:=rfl
theorem FU:∀ {m:List (Int×D)},Xt (enc (D.int .i64) m)=true->iz (m.map (·.1))=m
 |[],_=>rfl
 |(k,x)::m,h=>by
  simp only[Xt,enc,List.map_cons,List.all_cons,Bool.and_eq_true]at h
  have ih:=FU (m:=m) h.2
  have h1:x= .bool true:=by
   have h1:=h.1
   split at h1
   ·rfl
   ·cases h1
  simp only[iz,List.map_cons]at ih|-
  rw[ih,h1]
def K5(P:Program)(o:Nat->ab)(t:TypeId)(m:V)(n:Int)(ok:Bool):Option gB:=
 match pQ P t with
 |some (kt,vt)=>match zeroV P vt with
  |some (.d (.bool false))=>match pR o m with
   |some (rd,l)=>match rV P kt&&VY l&&Xt l with
    |true=>some (match ok with|true=> .ck [.d (.bool (((HL l).map (·.1)).contains n)), .d (.bool (((HL l).map (·.1)).contains n))]|false=> .d (.bool (((HL l).map (·.1)).contains n)),[],rd)
    |false=>vl P o t m (.d (.int .i64 n)) ok
   |none=>vl P o t m (.d (.int .i64 n)) ok
  |_=>vl P o t m (.d (.int .i64 n)) ok
 |none=>vl P o t m (.d (.int .i64 n)) ok
@[go_sem] theorem K6 (l:List Int):((iz l).map (·.1))=l:=by simp[iz,Function.comp_def]
@[go_sem high] theorem aaF {m:V} {ok:Bool}:jf P o t m (.d (.int .i64 n)) ok=K5 P o t m n ok:=by
  unfold K5
  split
  ·rename_i kt vt h1
   split
   ·rename_i hz
    split
    ·rename_i rd l h
     split
     ·rename_i hc
      simp only[Bool.and_eq_true]at hc
      have c4:=yi hc.1.1
      have hl:=Af hc.1.2
      have hs:iz ((HL l).map (·.1))=HL l:=FU (by rw[hl];exact hc.2)
      have c5:dZ o (.d (.int .i64 n))=some (.int .i64 n):=rfl
      unfold jf
      simp only[h1,c5,h]
      rw[if_pos ⟨rfl,FK c4 n⟩]
      conv=>lhs;rw[<- hl]
      rw[Cr c4, <- hs,lO,K6]
      generalize (HL l).map (·.1)=l'
      cases hf:l'.findIdx? (· ==n)with
      |none=>
       have:l'.contains n=false:=by
        rw[List.findIdx?_eq_none_iff]at hf
        rw[Bool.eq_false_iff];intro hc
        have:=hf n (by simpa using hc)
        simp at this
       cases ok<;>simp only[Option.map_none,wN,hz,this,if_true,Bool.false_eq_true,if_false]
      |some j=>
       rw[List.findIdx?_eq_some_iff_getElem]at hf
       obtain⟨hj,he,_⟩:=hf
       have e:l'[j]=n:=by simpa using he
       have:l'.contains n=true:=by rw[List.contains_iff_mem, <- e];exact List.getElem_mem hj
       cases ok<;>simp only[Option.map_some,wN,this,if_true,Bool.false_eq_true,if_false]
     ·exact nX ..
    ·exact nX ..
   ·exact nX ..
  ·exact nX ..
attribute [go_sem] K5
end
theorem yj{K:V->List (Nat×ab)->Prop}{id:Nat}{l:List Int}(h0:l=[]->K (.ck [.d (.bool false)]) [])
 (h1:∀ (i:Nat) n,l[i]? =some n->K (.ck [.d (.bool true), .d (.int .i64 n), .d (.bool true)]) [(id, .mP (enc (D.int .i64) (iz (l.eraseIdx i))) (some (.int .i64 n, .bool true)))]):BW K id (enc (D.int .i64) (iz l)):=by
 refine x7 _ (fun h=>h0 ?_) fun i k x h=> ?_
 ·cases l with
  |nil=>rfl
  |cons x l=>simp[iz]at h
 ·unfold iz at h|-
  rw[List.getElem?_map]at h
  cases hl:l[i]? with
  |none=>rw[hl]at h;cases h
  |some n=>
   rw[hl]at h
   simp at h
   obtain⟨rfl,rfl⟩:=h
   have:=h1 i n hl
   rw[iA]
   exact this
theorem vG{l:List Int}{i:Nat}{n:Int}(h:l[i]? =some n):(∀v,v∈l↔v=n\/v∈l.eraseIdx i)/\(l.eraseIdx i).length+1=l.length:=by
 obtain⟨hi,e⟩:=List.getElem?_eq_some_iff.1 h
 refine⟨fun v=> ?_,by rw[List.length_eraseIdx];simp[hi];omega⟩
 have te:l=l.take i++n::l.drop (i+1):=by rw[<- e,List.getElem_cons_drop,List.take_append_drop]
 rw[List.eraseIdx_eq_take_drop_succ]
 conv=>lhs;rw[te]
 simp only[List.mem_append,List.mem_cons]
 constructor
 ·rintro(h|h|h)
  ·exact .inr (.inl h)
  ·exact .inl h
  ·exact .inr (.inr h)
 ·rintro(h|h|h)
  ·exact .inr (.inl h)
  ·exact .inl h
  ·exact .inr (.inr h)
attribute [go_sem] List.head?_cons
end Go.Proofs.YtonbelhklnmjnaaGreat
namespace Go.Proofs.YtonbelhklnmjnaaGreat
theorem K7(a b:List Tm)(ha:a.length<=9223372036854775807)(hb:b.length<=9223372036854775807)(g:Nat)(h:∀x∈a,∀y∈b,a7 Tryz.prog g [x.d,y.d] (.ret [.bool (aZ x y)]))(o:Nat->ab)(nx:Nat)(hg:Good o nx)(K X:V->(Nat->ab)->Nat->Prop)
 (hK:∀o' nx',nx<=nx'->Good o' nx'->(∀j,j<nx->o' j=o j)->K (.d (.bool (a.length==b.length&&gG a b))) o' nx'):
 cK Tryz.prog 114 [.d (.sl (a.map Tm.d)), .d (.sl (b.map Tm.d)), .func (.func g) [] []] o nx K X:=by
 refine cK.aA mix Kp aj ?_
 rw[N1]
 refine iC ?_
 refine ak (fun h1=> ?_) (fun h1=> ?_)
 ·refine aI ?_
  have:(a.length==b.length&&gG a b)=false:=by
   have:(a.length==b.length)=false:=by
    rw[Bool.eq_false_iff];intro h
    simp at h;simp[h]at h1
   rw[this];rfl
  rw[this]at hK
  exact hK _ _ ad (hg.mono ad) (fun _ _=>rfl)
 ·have hl:a.length=b.length:=by simp at h1;omega
  have zc:(a.length==b.length)=true:=by simpa using hl
  rw[zc,Bool.true_and]at hK
  refine iC ?_
  refine aK (fun k:Nat=>⟨bA [.d (.sl (a.map Tm.d)), .d (.sl (b.map Tm.d)), .func (.func g) [] [], .aa, .aa, .aa, .aa, .aa, .aa, .aa, .aa, .aa, .aa, .aa, .aa, .d (.sl (a.map Tm.d)), .d (.i a.length), .d (.i k)],o,nx⟩)
   (fun k=>k<=a.length/\∀i,i<k->∀x y,a[i]? =some x->b[i]? =some y->aZ x y=true) (fun k=>a.length - k) 0 ⟨Nat.zero_le _,fun i h=>ad⟩ (bL.bP _ (Nat.le_refl _) ad hg (fun _ _=>rfl) ?_) (fun k hk=> ?_)
  ·exact cG
  refine aI ?_
  refine ak (fun h2=> ?_) (fun h2=> ?_)
  ·simp at h2
   obtain⟨x,hx⟩:=aw h2
   obtain⟨y,hy⟩:=aw (l:=b) (k:=k) ad
   refine Sd hx hy ?_
   refine ah (h x (List.mem_of_getElem? hx) y (List.mem_of_getElem? hy)) rfl ?_
   refine aI ?_
   refine ak (fun h3=> ?_) (fun h3=> ?_)
   ·refine aI ?_
    simp at h3
    have:gG a b=false:=by
     rw[Bool.eq_false_iff];intro h4
     have:=(iX _ _ hl).1 h4 k x y hx hy
     rw[h3]at this;cases this
    rw[this]at hK
    refine hK _ _ ad ?_ (fun j hj=>by(repeat(first|rfl|rw[ae]|rw[ai _ _ _ _ (by omega)])))
    exact dg
   ·refine aI ?_
    simp at h3
    refine au (k+1) ⟨h2,fun i hi u v hu hv=> ?_⟩ ad (bL.bP _ (Nat.le_refl _) ad hg (fun j hj=>by(repeat(first|rfl|rw[ae]|rw[ai _ _ _ _ (by omega)]))) ?_)
    ·by_cases e:i=k
     ·subst e
      rw[hx]at hu;rw[hy]at hv
      injection hu with hu;injection hv with hv;subst hu;subst hv;exact h3
     ·exact hk.2 i ad u v hu hv
    ·exact cG
  ·refine aI ?_
   simp at h2
   have:gG a b=true:=(iX _ _ hl).2 fun i x y hx hy=>hk.2 i Sr x y hx hy
   rw[this]at hK
   exact hK _ _ ad (hg.mono ad) (fun _ _=>rfl)
def lk:List (Int×Int)->Int->Option Int
 |[],_=>none
 |p::m,v=>if p.1=v then some p.2 else lk m v
abbrev tA(m:List (Int×Int)):Prop:=(m.map (·.1)).Nodup
theorem FV{m:List (Int×Int)}{v k:Int}(hk:tA m):lk m v=some k↔(v,k)∈m:=by
 induction m with
 |nil=>simp[lk]
 |cons p m ih=>
  rw[tA,List.map_cons,List.nodup_cons]at hk
  simp only[lk,List.mem_cons]
  by_cases h:p.1=v
  ·rw[if_pos h]
   constructor
   ·intro e;injection e with e;exact .inl (by rw[<- h, <- e])
   ·rintro(e|e)
    ·rw[<- e]
    ·exact absurd (h ▸ List.mem_map.2 ⟨_,e,rfl⟩) hk.1
  ·rw[if_neg h,ih hk.2]
   constructor
   ·exact .inr
   ·rintro(e|e)
    ·exact absurd (by rw[<- e]) h
    ·exact e
def ints(m:List (Int×Int)):List (Int×D):=m.map fun p=>(p.1,D.i p.2)
theorem rW:∀ (m:List (Int×Int)) (v:Int) (i:Nat),(match fT v (ints m) i with|some (_,x)=>some x|none=>none)=(lk m v).map D.i
 |[],v,i=>rfl
 |p::m,v,i=>by
  have ih:=rW m v (i+1)
  simp only[ints,List.map_cons,fT,lk]at ih|-
  by_cases h:v=p.1
  ·subst h;simp
  ·have h2: ¬p.1=v:=fun e=>h e.symm
   simp only[beq_iff_eq,h,h2,if_false]
   exact ih
theorem mm{m:List (Int×Int)}{v k:Int}(h:lk m v=some k):∃j,fT v (ints m) 0=some (j,D.i k):=by
 have:=rW m v 0
 rw[h]at this
 cases ha:fT v (ints m) 0 with
 |none=>rw[ha]at this;cases this
 |some p=>obtain⟨j,x⟩:=p;rw[ha]at this;simp at this;exact⟨j,by rw[this]⟩
theorem mn{m:List (Int×Int)}{v:Int}(h:lk m v=none):fT v (ints m) 0=none:=by
 have:=rW m v 0
 rw[h]at this
 cases ha:fT v (ints m) 0 with
 |none=>rfl
 |some p=>obtain⟨j,x⟩:=p;rw[ha]at this;cases this
end Go.Proofs.YtonbelhklnmjnaaGreat
