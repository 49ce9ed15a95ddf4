/-
  A PART OF THE PROOF. Conditions: none.
-/
import Derived.Test.YtonbelhklnmjnaaGreatLa14
set_option linter.unusedSimpArgs false
set_option linter.unusedVariables false
namespace Go.Proofs.YtonbelhklnmjnaaGreat
def Tm.sz (t:Tm):Nat:=(pre t 1).length
def fU(l:List Tm):Nat:=(l.map Tm.sz).sum
theorem Tm.kI (t:Tm):t.Dl=(t.sz:Int):=rfl
theorem Tm.iU (t:Tm):t.sz=1+fU t.kids:=by
 unfold Tm.sz fU
 rw[jL,List.length_cons,List.length_flatMap,Nat.add_comm]
 congr 2
 exact List.map_congr_left fun k hk=>od k _ _
theorem Tm.GN (op n:Int)(l:List Tm):(Tm.mk op n l).sz=1+fU l:=Tm.iU _
theorem ej(k:Tm)(l:List Tm):fU (k::l)=k.sz+fU l:=by simp[fU]
theorem Tm.A1 (t:Tm):1<=t.sz:=by rw[Tm.iU];omega
theorem oI(k:Tm)(l:List Tm):Tm.fZ (k::l)=Nat.max k.iE (Tm.fZ l):=by simp[Tm.fZ]
theorem uJ:∀ (l:List Tm) (n:Nat),Tm.fZ l<=n↔∀k∈l,k.iE<=n
 |[],n=>by simp[Tm.fZ]
 |x::l,n=>by
  rw[oI]
  simp only[List.mem_cons,forall_eq_or_imp, <- uJ l n]
  exact Nat.max_le
theorem Tm.wm (t:Tm):t.iE=1+Tm.fZ t.kids:=by cases t;simp[Tm.iE,Tm.kids]
theorem IU:∀t:Tm,∀left depth:Int,ez t left depth=if(t.sz:Int)<=left/\(t.iE:Int)<=depth then left - t.sz else -1:=by
 refine Tm.cB fun t ih left depth=> ?_
 have hs:∀ (l:List Tm) (left d:Int),(∀k∈l,k∈t.kids)->0<=left->0<=d->ct l left d=if(fU l:Int)<=left/\(Tm.fZ l:Int)<=d then left - fU l else -1:=by
  intro l
  induction l with
  |nil=>intro left d _ h1 h2;simp[ct,fU,Tm.fZ,h1,h2]
  |cons k l pX=>
   intro left d hk h1 h2
   simp only[ct,if_pos h1]
   rw[ih k (hk k (by simp))]
   have hm:(Tm.fZ (k::l):Int)<=d↔(k.iE:Int)<=d/\(Tm.fZ l:Int)<=d:=by
    have:= @Nat.max_le k.iE (Tm.fZ l) d.toNat
    have e:Tm.fZ (k::l)=max k.iE (Tm.fZ l):=oI k l
    rw[e];omega
   simp only[ej,hm]
   by_cases hc:(k.sz:Int)<=left/\(k.iE:Int)<=d
   ·rw[if_pos hc,pX _ _ (fun x hx=>hk x (by simp[hx])) (by omega) h2]
    by_cases vg:(fU l:Int)<=left - k.sz/\(Tm.fZ l:Int)<=d
    ·rw[if_pos vg,if_pos (by omega)];omega
    ·rw[if_neg vg,if_neg (by omega)]
   ·rw[if_neg hc,pW (by omega),if_neg (by omega)]
 rw[wb,Tm.iU,Tm.wm]
 by_cases h:left<1\/depth<1
 ·rw[if_pos h,if_neg (by omega)]
 ·rw[if_neg h,hs _ _ _ (fun _ h=>h) (by omega) (by omega)]
  by_cases hc:(fU t.kids:Int)<=left - 1/\(Tm.fZ t.kids:Int)<=depth - 1
  ·rw[if_pos hc,if_pos (by omega)];omega
  ·rw[if_neg hc,if_neg (by omega)]
theorem kJ(t:Tm)(left depth:Int):0<=ez t left depth↔(t.sz:Int)<=left/\(t.iE:Int)<=depth:=by
 rw[IU];split<;>omega
theorem qa(t:Tm):iF t=true↔t.sz<=50/\t.iE<=14:=by
 simp only[iF,decide_eq_true_eq,kJ];omega
theorem Tm.xN.L2 {t:Tm}(hf:t.fits)(h:iF t=true):t.xN:=by
 rw[qa]at h
 exact⟨⟨hf,ad⟩,by rw[Tm.kI];omega⟩
theorem y9:∀ (t:Tm) (d m:Int),(∀x∈pre t d,x.2<=m)↔d+t.iE - 1<=m:=by
 refine Tm.cB fun t ih d m=> ?_
 rw[jL,Tm.wm]
 simp only[List.mem_cons,forall_eq_or_imp,List.mem_flatMap]
 have h1:(∀x:Tm×Int,(∃k,k∈t.kids/\x∈pre k (d+1))->x.2<=m)↔∀k∈t.kids,d+1+k.iE - 1<=m:=by
  constructor
  ·intro h k hk
   exact(ih k hk _ _).1 fun x hx=>h x ⟨k,hk,hx⟩
  ·rintro h x ⟨k,hk,hx⟩
   exact(ih k hk _ _).2 (h k hk) x hx
 rw[h1]
 constructor
 ·rintro⟨h2,h3⟩
  have:=(uJ t.kids (m - d).toNat).2 fun k hk=>by have:=h3 k hk;omega
  omega
 ·intro h
  have:=(uJ t.kids (m - d).toNat).1 ad
  exact⟨ad,fun k hk=>by have:=this k hk;omega⟩
theorem GO(p:Tm->Bool):∀ (t:Tm) (d:Int),(pre t d).all (fun x=>p x.1)=(p t&&t.kids.all fun k=>(pre k (d+1)).all fun x=>p x.1):=by
 intro t d
 rw[jL,List.all_cons,List.all_flatMap]
theorem wo(s:ba):∀ (t:Tm) (d:Int),eI s t=(pre t d).all fun x=>bC s x.1:=by
 refine Tm.cB fun t ih d=> ?_
 rw[GO (bC s),dL]
 congr 1
 rw[Bool.eq_iff_iff]
 simp only[List.all_eq_true (l:=t.kids)]
 exact forall_congr' fun k=>forall_congr' fun hk=>by rw[ih k hk (d+1)]
theorem L3{s:ba}{t:Tm}(h:bC s t=true):cP t.op 1 15=true:=by
 rw[show cP t.op 1 15=true↔1<=t.op/\t.op<=15 by simp[cP]]
 by_cases h6:cP t.op 6 15=true
 ·simp[cP]at h6;omega
 ·simp only[bC,if_neg h6]at h
  by_cases h1:t.op=1
  ·omega
  by_cases h2:t.op=2
  ·omega
  by_cases h3:t.op=3
  ·omega
  by_cases h4:t.op=4
  ·omega
  by_cases h5:t.op=5
  ·omega
  by_cases h8:t.op=8
  ·omega
  rw[if_neg h1,if_neg h2,if_neg h3,if_neg h4,if_neg h5,if_neg h8]at h
  cases h
def wq(s:ba)(x:Tm×Int):Bool:= !(decide (12<x.2)|| !cP x.1.op 1 15|| !bC s x.1)
theorem tJ(s:ba):∀ (l:List (Tm×Int)) (n:Int) (b:Bool),(aA (yW fJ (iI s)) (n,b) l).2=(decide (l=[]\/n+l.length<=40)&&l.all (wq s))
 |[],n,b=>by simp[aA]
 |x::l,n,b=>by
  have e1:∀c,oY s n x=c->yW fJ (iI s) (n,b) x=((n+1, !c), !c):=fun c hc=>by show((n+1, !oY s n x),(fJ (n+1, !oY s n x)).isNone)=_;rw[hc];cases c<;>rfl
  have hb:oY s n x=(decide (40<n+1)|| !wq s x):=by simp[oY,wq,Bool.or_assoc]
  rw[List.all_cons]
  cases hg:wq s x with
  |false=>
   have e:oY s n x=true:=by rw[hb,hg];simp
   rw[aA,e1 _ e];simp
  |true=>
   by_cases h40:40<n+1
   ·have:decide (x::l=[]\/n+(x::l).length<=40)=false:=by simp;omega
    have e:oY s n x=true:=by rw[hb];simp[h40]
    rw[this,Bool.false_and,aA,e1 _ e];simp
   ·have e:oY s n x=false:=by rw[hb,hg];simp;omega
    rw[aA,e1 _ e]
    simp only[Bool.not_false,if_true,tJ s l,Bool.true_and]
    congr 1
    cases l with
    |nil=>simp;omega
    |cons y l=>simp;omega
theorem qb(s:ba)(t:Tm):mF s t=dV s t:=by
 rw[mF,tJ,dV,wo s t 1,Bool.eq_iff_iff]
 have hn:pre t 1≠[]:=by rw[jL];simp
 simp only[Bool.and_eq_true,decide_eq_true_eq,hn,false_or,kJ,List.all_eq_true]
 have hd:=y9 t 1 12
 constructor
 ·rintro⟨h1,h2⟩
  have h3:∀x∈pre t 1,x.2<=12:=fun x hx=>by have:=h2 x hx;simp[wq]at this;omega
  have:=hd.1 h3
  exact⟨⟨by unfold Tm.sz;omega,ad⟩,fun x hx=>by have:=h2 x hx;simp[wq]at this;exact this.2⟩
 ·rintro⟨⟨h1,h2⟩,h3⟩
  have h4:=hd.2 ad
  refine⟨by unfold Tm.sz at h1;omega,fun x hx=> ?_⟩
  have h5:=h4 x hx
  have h6:=h3 x hx
  have h7:=L3 h6
  simp[wq,h6,h7];omega
theorem IV(s:ba)(l:List Tm):dg s l=Fk s l:=by
 unfold dg Fk;congr 2;funext t;exact qb s t
theorem wu:∀a:Tm,aI a a=true:=by
 refine Tm.cB fun a ih=> ?_
 rw[nZ]
 have:gS a.kids a.kids=true:=(jk _ _ rfl).2 fun i x y hx hy=>by
  rw[hx]at hy;injection hy with hy;subst hy;exact ih x (List.mem_of_getElem? hx)
 simp[this]
theorem im:∀a b:Tm,aI a b=true↔a=b:=by
 refine Tm.cB fun a ih b=>⟨fun h=> ?_,fun e=>e ▸ wu _⟩
 rw[nZ]at h
 simp only[Bool.and_eq_true,beq_iff_eq]at h
 obtain⟨⟨⟨h1,h2⟩,h3⟩,h4⟩:=h
 have h5:=(jk _ _ h3).1 h4
 have:a.kids=b.kids:=by
  apply List.ext_getElem?
  intro i
  cases hx:a.kids[i]? with
  |none=>simp at hx;symm;simp;omega
  |some x=>
   have hi:=(List.getElem?_eq_some_iff.1 hx).1
   obtain⟨y,hy⟩:=aw (l:=b.kids) (k:=i) ad
   rw[hy,(ih x (List.mem_of_getElem? hx) y).1 (h5 i x y hx hy)]
 rw[<- Tm.eta a, <- Tm.eta b,h1,h2,this]
def mG(s:ba)(t:Tm):Bool:=
 let k:Int:=t.kids.length
 if t.op=16 then t.n==0&&k==0
 else if t.op=1 then cP t.n 0 199&&k==0
 else if t.op=2 then cP t.n (-1000000) 1000000&&k==0
 else if t.op=3 then cP t.n 0 (s.cons.length - 1)&&k==dq s.cons t.n
 else if t.op=5 then cP t.n 0 (s.bZ.length - 1)&&decide (k<dq s.bZ t.n)
 else false
mutual
def wv(s:ba):Tm->Bool
 | .mk op n kids=>GP s kids&&mG s (.mk op n kids)
def GP(s:ba):List Tm->Bool
 |[]=>true
 |k::l=>wv s k&&GP s l
end
theorem za(s:ba):∀l:List Tm,GP s l=l.all (wv s)
 |[]=>rfl
 |k::l=>by rw[GP,za s l];rfl
theorem uK(s:ba)(t:Tm):wv s t=(t.kids.all (wv s)&&mG s t):=by cases t;rw[wv,za];rfl
def BB(s:ba)(t:Tm):Bool:=decide (0<=ez t 80 30)&&wv s t
def Pn(s:ba)(t:Tm):Prop:=wv s t=true
theorem wx{s:ba}{t:Tm}:Pn s t↔mG s t=true/\∀k∈t.kids,Pn s k:=by
 unfold Pn;rw[uK,Bool.and_eq_true,List.all_eq_true];exact and_comm
theorem Pn.gx {s:ba}{t k:Tm}(h:Pn s t)(hk:k∈t.kids):Pn s k:=(wx.1 h).2 k hk
theorem PK{s:ba}{t:Tm}(h:mG s t=true)(h1:t.op=16\/t.op=1\/t.op=2):t.kids=[]/\(t.op=16->t.n=0):=by
 unfold mG at h
 rcases h1 with h1|h1|h1
 ·simp[h1]at h;exact⟨h.2,fun _=>h.1⟩
 ·simp[h1]at h;exact⟨h.2,fun e=>ad⟩
 ·simp[h1]at h;exact⟨h.2,fun e=>ad⟩
theorem Pn.bare {s:ba}{t:Tm}(h:Pn s t)(h1:t.op=16\/t.op=1\/t.op=2):t.kids=[]:=(PK (wx.1 h).1 h1).1
mutual
def xl(s:ba):Tm->Int->Int->Bool×Int
 | .mk op n kids,left,d=>if left - 1<0\/d<=0\/mG s (.mk op n kids)=false then(false,left - 1)else sQ s kids (left - 1) (d - 1)
def sQ(s:ba):List Tm->Int->Int->Bool×Int
 |[],left,_=>(true,left)
 |k::l,left,d=>if(xl s k left d).1=true then sQ s l (xl s k left d).2 d else(false,(xl s k left d).2)
end
theorem L4(s:ba)(t:Tm)(left d:Int):xl s t left d=if left - 1<0\/d<=0\/mG s t=false then(false,left - 1)else sQ s t.kids (left - 1) (d - 1):=by cases t;rw[xl];rfl
theorem L5(s:ba):∀ (t:Tm) (left d:Int),(xl s t left d).1=(decide ((t.sz:Int)<=left/\(t.iE:Int)<=d)&&wv s t)/\((xl s t left d).1=true->(xl s t left d).2=left - t.sz):=by
 refine Tm.cB fun t ih left d=> ?_
 have key:∀ (ks:List Tm) (left d:Int),(∀k∈ks,k∈t.kids)->0<=left->0<=d->(sQ s ks left d).1=(decide ((fU ks:Int)<=left/\(Tm.fZ ks:Int)<=d)&&ks.all (wv s))/\((sQ s ks left d).1=true->(sQ s ks left d).2=left - fU ks):=by
  intro ks
  induction ks with
  |nil=>intro left d _ h0 hd;simp[sQ,fU,Tm.fZ];omega
  |cons k ks ihk=>
   intro left d A2 h0 hd
   obtain⟨e1,e2⟩:=ih k (A2 k au) left d
   have hp:=Tm.A1 k
   rw[ej,oI]
   simp only[sQ]
   by_cases h1:(xl s k left d).1=true
   ·rw[if_pos h1]
    have e3:=e2 h1
    rw[e1,Bool.and_eq_true,decide_eq_true_eq]at h1
    obtain⟨i1,i2⟩:=ihk (xl s k left d).2 d (fun x hx=>A2 x mf) ad hd
    rw[e3]at i1 i2|-
    refine⟨?_,fun h=>by have:=i2 h;omega⟩
    rw[i1,Bool.eq_iff_iff]
    simp only[List.all_cons,Bool.and_eq_true,decide_eq_true_eq,h1.2,true_and]
    have:Nat.max k.iE (Tm.fZ ks)=max k.iE (Tm.fZ ks):=rfl
    rw[this]
    constructor
    ·rintro⟨h2,h3⟩;exact⟨ad,h3⟩
    ·rintro⟨h2,h3⟩;exact⟨ad,h3⟩
   ·rw[if_neg h1]
    refine⟨?_,fun h=>by cases h⟩
    rw[e1]at h1
    show false=_
    symm
    rw[Bool.eq_false_iff]
    intro h2
    apply h1
    simp only[List.all_cons,Bool.and_eq_true,decide_eq_true_eq]at h2|-
    have:Nat.max k.iE (Tm.fZ ks)=max k.iE (Tm.fZ ks):=rfl
    rw[this]at h2
    exact⟨ad,h2.2.1⟩
 have hs:=Tm.iU t
 have hh:=Tm.wm t
 rw[L4]
 by_cases h1:left - 1<0\/d<=0\/mG s t=false
 ·rw[if_pos h1]
  refine⟨?_,fun h=>by cases h⟩
  show false=_
  symm
  rw[Bool.eq_false_iff]
  intro h2
  simp only[Bool.and_eq_true,decide_eq_true_eq,uK]at h2
  rcases h1 with h1|h1|h1
  ·omega
  ·omega
  ·rw[h1]at h2;exact absurd h2.2.2 au
 ·rw[if_neg h1]
  have h2:mG s t=true:=by cases h:mG s t<;>simp_all
  obtain⟨i1,i2⟩:=key t.kids (left - 1) (d - 1) (fun _ h=>h) ad ad
  refine⟨?_,fun h=>by have:=i2 h;omega⟩
  rw[i1,uK,h2,Bool.and_true,Bool.eq_iff_iff]
  simp only[Bool.and_eq_true,decide_eq_true_eq]
  constructor
  ·rintro⟨h3,h4⟩;exact⟨ad,h4⟩
  ·rintro⟨h3,h4⟩;exact⟨ad,h4⟩
theorem acS(s:ba)(t:Tm):(xl s t 80 30).1=BB s t:=by
 rw[(L5 s t 80 30).1,BB]
 congr 1
 rw[Bool.eq_iff_iff,decide_eq_true_eq,decide_eq_true_eq,kJ]
mutual
def Fl:Tm->Int
 | .mk op _ kids=>if op=16 then 0 else if op=1 then 1 else uk kids 2
def uk:List Tm->Int->Int
 |[],out=>out
 |k::l,out=>uk l (min out (Fl k))
end
theorem L6(t:Tm):Fl t=if t.op=16 then 0 else if t.op=1 then 1 else uk t.kids 2:=by cases t;rw[Fl];rfl
mutual
def b9(op:Int):Tm->Bool
 | .mk o _ kids=>A3 op kids&&o !=op
def A3(op:Int):List Tm->Bool
 |[]=>true
 |k::l=>b9 op k&&A3 op l
end
theorem wy(op:Int):∀l:List Tm,A3 op l=l.all (b9 op)
 |[]=>rfl
 |k::l=>by rw[A3,wy op l];rfl
theorem kK(op:Int)(t:Tm):b9 op t=(t.kids.all (b9 op)&&t.op !=op):=by cases t;rw[b9,wy];rfl
theorem Fm{s:ba}:∀t:Tm,Pn s t->(0<=Fl t/\Fl t<=2)/\(1<=Fl t↔b9 16 t=true)/\(Fl t=2↔b9 16 t=true/\b9 1 t=true):=by
 refine Tm.cB fun t ih hp=> ?_
 have key:∀ (ks:List Tm) (out:Int),(∀k∈ks,k∈t.kids)->0<=out->out<=2->(0<=uk ks out/\uk ks out<=2)/\(1<=uk ks out↔1<=out/\ks.all (b9 16)=true)/\(uk ks out=2↔out=2/\ks.all (b9 16)=true/\ks.all (b9 1)=true):=by
  intro ks
  induction ks with
  |nil=>intro out _ h0 h2;simp[uk,h0,h2]
  |cons k ks ihk=>
   intro out A2 h0 h2
   obtain⟨⟨a1,a2⟩,a3,a4⟩:=ih k (A2 k au) (hp.gx (A2 k au))
   obtain⟨b1,b2,b3⟩:=ihk (min out (Fl k)) (fun x hx=>A2 x mf) ad ad
   simp only[uk,List.all_cons,Bool.and_eq_true]
   refine⟨b1, ?_, ?_⟩
   ·rw[b2, <- a3]
    constructor
    ·rintro⟨h1,h3⟩;exact⟨ad,ad,h3⟩
    ·rintro⟨h1,h3,h4⟩;exact⟨ad,h4⟩
   ·rw[b3]
    constructor
    ·rintro⟨h1,h3,h4⟩
     have h5:=a4.1 ad
     exact⟨ad,⟨h5.1,h3⟩,h5.2,h4⟩
    ·rintro⟨h1,⟨h3,h4⟩,h5,h6⟩
     have h7:=a4.2 ⟨h3,h5⟩
     exact⟨ad,h4,h6⟩
 rw[L6]
 by_cases h1:t.op=16
 ·rw[if_pos h1]
  have e:b9 16 t=false:=by rw[kK,h1];simp
  rw[e]
  refine⟨ad,⟨fun h=>ad,fun h=>by cases h⟩,⟨fun h=>ad,fun h=>by cases h.1⟩⟩
 ·rw[if_neg h1]
  by_cases h2:t.op=1
  ·rw[if_pos h2]
   have e0:=hp.bare (.inr (.inl h2))
   have e:b9 16 t=true:=by rw[kK,e0,h2];rfl
   have e2:b9 1 t=false:=by rw[kK,h2];simp
   rw[e,e2]
   exact⟨ad,⟨fun _=>rfl,fun _=>ad⟩,⟨fun h=>ad,fun h=>by cases h.2⟩⟩
  ·rw[if_neg h2]
   obtain⟨k1,k2,k3⟩:=key t.kids 2 (fun _ h=>h) ad ad
   refine⟨k1, ?_, ?_⟩
   ·rw[k2,kK];simp[h1]
   ·rw[k3,kK,kK 1];simp[h1,h2]
mutual
def JU:Tm->Tm->Bool
 | .mk op n kids,b=>if op=16 then true else if op≠b.op\/n≠b.n\/kids.length≠b.kids.length then false else nb kids b.kids
def nb:List Tm->List Tm->Bool
 |[],_=>true
 |_::_,[]=>true
 |k::l,k'::l'=>JU k k'&&nb l l'
end
theorem Fo(a b:Tm):JU a b=if a.op=16 then true else if a.op≠b.op\/a.n≠b.n\/a.kids.length≠b.kids.length then false else nb a.kids b.kids:=by cases a;rw[JU];rfl
theorem wz(n low high:Int):aR Tryz.prog 71 [.i n, .i low, .i high] (.ret [.bool (cP n low high)]):=by
 refine aR.ay mix aeJ au ?_
 rw[c71]
 refine b7 ?_
 rfl
theorem PL(s:ba)(t:Tm)(hs:s.Fits)(ht:t.kids.length<=9223372036854775807):aR Tryz.prog 115 [s.d,t.d] (.ret [.bool (mG s t)]):=by
 refine aR.ay mix abg au ?_
 rw[abf]
 refine b7 ?_
 rcases(by omega:t.op=16\/t.op=1\/t.op=2\/t.op=3\/t.op=5\/(t.op≠16/\t.op≠1/\t.op≠2/\t.op≠3/\t.op≠5))with h|h|h|h|h|h
 ·have hn:mG s t=(t.n==0&&(t.kids.length:Int)==0):=by unfold mG;rw[if_pos h]
  refine eZ h ?_
  rw[hn]
 ·have hn:mG s t=(cP t.n 0 199&&(t.kids.length:Int)==0):=by unfold mG;rw[if_neg (by omega),if_pos h]
  refine eZ h ?_
  refine ag (wz _ _ _) rfl ?_
  refine eZ h ?_
  rw[hn]
 ·have hn:mG s t=(cP t.n (-1000000) 1000000&&(t.kids.length:Int)==0):=by unfold mG;rw[if_neg (by omega),if_neg (by omega),if_pos h]
  refine eZ h ?_
  refine ag (wz _ _ _) rfl ?_
  refine eZ h ?_
  rw[hn]
 ·have hn:mG s t=(cP t.n 0 (s.cons.length - 1)&&(t.kids.length:Int)==dq s.cons t.n):=by unfold mG;rw[if_neg (by omega),if_neg (by omega),if_neg (by omega),if_pos h]
  refine eZ h ?_
  rw[wrap64 (by have:=hs.lc;omega) (by have:=hs.lc;omega)]
  refine ag (wz _ _ _) rfl ?_
  cases hI:cP t.n 0 (s.cons.length - 1)with
  |false=>
   refine zQ h hI ?_
   rw[hn,hI];rfl
  |true=>
   obtain⟨h0,x,hx⟩:=gK hI
   simp+contextual only[go_sem,h,hI,hx,h0]
   exact xu
 ·have hn:mG s t=(cP t.n 0 (s.bZ.length - 1)&&decide ((t.kids.length:Int)<dq s.bZ t.n)):=by unfold mG;rw[if_neg (by omega),if_neg (by omega),if_neg (by omega),if_neg (by omega),if_pos h]
  refine eZ h ?_
  rw[wrap64 (by have:=hs.lf;omega) (by have:=hs.lf;omega)]
  refine ag (wz _ _ _) rfl ?_
  cases hI:cP t.n 0 (s.bZ.length - 1)with
  |false=>
   refine zQ h hI ?_
   rw[hn,hI];rfl
  |true=>
   obtain⟨h0,x,hx⟩:=gK hI
   simp+contextual only[go_sem,h,hI,hx,h0]
   exact xu
 ·have hn:mG s t=false:=by unfold mG;rw[if_neg h.1,if_neg h.2.1,if_neg h.2.2.1,if_neg h.2.2.2.1,if_neg h.2.2.2.2]
  have e1:(t.op==16)=false:=by simpa using h.1
  have e2:(t.op==1)=false:=by simpa using h.2.1
  have e3:(t.op==2)=false:=by simpa using h.2.2.1
  have e4:(t.op==3)=false:=by simpa using h.2.2.2.1
  have e5:(t.op==5)=false:=by simpa using h.2.2.2.2
  simp+contextual only[go_sem,e1,e2,e3,e4,e5]
  rw[hn]
theorem L7(s:ba)(hs:s.Fits):∀t:Tm,t.fits->aR Tryz.prog 66 [s.d,t.d] (.ret [.bool (wv s t)]):=by
 refine Tm.cB fun t ih hf=> ?_
 have fy:=(Tm.aJ _).1 hf
 refine aR.ay mix aeI au ?_
 rw[c66]
 refine b7 ?_
 rw[uK]
 refine aE (fun k:Nat=>⟨bz [.aa, .aa, .ptr 0 0, .ptr 1 0, .aa, .d (.i k)],pY s.row t.row,2⟩)
  (fun k=>k<=t.kids.length/\(t.kids.take k).all (wv s)=true) (fun k=>t.kids.length - k) 0 ⟨Nat.zero_le _,au⟩ (bE.d2 _ (cR rfl rfl) ad rfl rfl ?_) (fun k hk=> ?_)
 ·exact cz
 refine b7 ?_
 refine aq (fun h2=> ?_) (fun h2=> ?_)
 ·simp at h2
  obtain⟨x,hx⟩:=aw h2
  have cw:=List.mem_of_getElem? hx
  refine eZ hx ?_
  refine ao (ih x cw (fy.2 x cw)) rfl ?_
  refine b7 ?_
  refine ai aT ?_
  refine b7 ?_
  refine aq (fun h3=> ?_) (fun h3=> ?_)
  ·refine b7 ?_
   simp at h3
   exact Oc
  ·refine b7 ?_
   simp at h3
   refine ax (k+1) ⟨h2,cl hx hk.2 h3⟩ ad (bE.d2 _ (cR rfl rfl) ad rfl rfl ?_)
   exact cz
 ·refine b7 ?_
  simp at h2
  rw[cm hk.2 h2,Bool.true_and]
  refine ag (PL s t hs fy.1) rfl ?_
  exact NW
theorem L8(s:ba)(hs:s.Fits)(t:Tm)(hf:t.fits):aR Tryz.prog 27 [s.d,t.d] (.ret [.bool (BB s t)]):=by
 refine aR.ay mix aeo au ?_
 rw[c27]
 refine b7 ?_
 refine ag (uI t hf 80 30 ad ad) rfl ?_
 unfold BB
 cases h:decide (0<=ez t 80 30)with
 |false=>exact N5
 |true=>
  refine eZ h ?_
  refine ag (L7 s hs t hf) rfl ?_
  exact N5
def ll(t:Tm):Bool:=decide (0<=ez t 100 35)
theorem wA(t:Tm)(hf:t.fits):aR Tryz.prog 20 [t.d] (.ret [.bool (ll t)]):=by
 refine aR.ay mix aav au ?_
 rw[c20]
 refine b7 ?_
 refine ag (uI t hf 100 35 ad ad) rfl ?_
 refine b7 ?_
 rfl
theorem GQ(op:Int):∀t:Tm,t.fits->aR Tryz.prog 118 [t.d, .i op] (.ret [.bool (b9 op t)]):=by
 refine Tm.cB fun t ih hf=> ?_
 have fy:=(Tm.aJ _).1 hf
 refine aR.ay mix abi au ?_
 rw[abh]
 refine b7 ?_
 rw[kK]
 refine aE (fun k:Nat=>⟨bz [.aa, .d (.i op), .ptr 0 0, .aa, .aa, .d (.i k)],fb t.row,1⟩)
  (fun k=>k<=t.kids.length/\(t.kids.take k).all (b9 op)=true) (fun k=>t.kids.length - k) 0 ⟨Nat.zero_le _,au⟩ (bE.d1 _ (aU rfl) ad rfl ?_) (fun k hk=> ?_)
 ·exact cz
 refine b7 ?_
 refine aq (fun h2=> ?_) (fun h2=> ?_)
 ·simp at h2
  obtain⟨x,hx⟩:=aw h2
  have cw:=List.mem_of_getElem? hx
  refine eZ hx ?_
  refine ag (ih x cw (fy.2 x cw)) rfl ?_
  refine b7 ?_
  refine aq (fun h3=> ?_) (fun h3=> ?_)
  ·refine b7 ?_
   simp at h3
   exact Oc
  ·refine b7 ?_
   simp at h3
   refine ax (k+1) ⟨h2,cl hx hk.2 h3⟩ ad (bE.d1 _ (aU rfl) ad rfl ?_)
   exact cz
 ·refine b7 ?_
  simp at h2
  rw[cm hk.2 h2,Bool.true_and]
theorem Dm(t:Tm)(hf:t.fits):aR Tryz.prog 72 [t.d] (.ret [.bool (b9 16 t)]):=by
 refine aR.ay mix aeK au ?_
 rw[c72]
 refine b7 ?_
 refine ag (GQ 16 t hf) rfl ?_
 exact NW
theorem zb(t:Tm)(hf:t.fits):aR Tryz.prog 150 [t.d] (.ret [.bool (b9 16 t&&b9 1 t)]):=by
 refine aR.ay mix abV au ?_
 rw[abU]
 refine b7 ?_
 refine ag (Dm t hf) rfl ?_
 cases h:b9 16 t with
 |false=>exact N5
 |true=>
  refine eZ h ?_
  refine ag (GQ 1 t hf) rfl ?_
  exact N5
theorem L9:∀a:Tm,a.fits->∀b:Tm,b.fits->aR Tryz.prog 26 [a.d,b.d] (.ret [.bool (JU a b)]):=by
 refine Tm.cB fun t ih hf b hb=> ?_
 have fy:=(Tm.aJ _).1 hf
 have FX:=(Tm.aJ _).1 hb
 refine aR.ay mix aen au ?_
 rw[c26]
 refine b7 ?_
 refine aq (fun h0=> ?_) (fun h0=> ?_)
 ·simp at h0
  refine b7 ?_
  rw[Fo,if_pos h0]
 have Bw:t.op≠16:=by simpa using h0
 rw[Fo,if_neg Bw]
 by_cases h1:t.op≠b.op\/t.n≠b.n\/t.kids.length≠b.kids.length
 ·rw[if_pos h1]
  have bJ:(t.op !=b.op||t.n !=b.n||(t.kids.length:Int)!=(b.kids.length:Int))=true:=by
   rcases h1 with h|h|h
   ·simp[h]
   ·simp[h]
   ·have:((t.kids.length:Int)!=(b.kids.length:Int))=true:=by simp;omega
    simp[this]
  simp+contextual only[go_sem,bJ,List.length_map]
 ·rw[if_neg h1]
  have e1:t.op=b.op:=Classical.byContradiction fun e=>h1 (.inl e)
  have e2:t.n=b.n:=Classical.byContradiction fun e=>h1 (.inr (.inl e))
  have e3:t.kids.length=b.kids.length:=Classical.byContradiction fun e=>h1 (.inr (.inr e))
  have bJ:(t.op !=b.op||t.n !=b.n||(t.kids.length:Int)!=(b.kids.length:Int))=false:=by simp[e1,e2,e3]
  simp+contextual only[go_sem,bJ,List.length_map]
  refine aE (fun k:Nat=>⟨bz [.aa, .aa, .ptr 0 0, .ptr 1 0, .aa, .d (.i k)],pY t.row b.row,2⟩)
   (fun k=>k<=t.kids.length/\nb t.kids b.kids=nb (t.kids.drop k) (b.kids.drop k)) (fun k=>t.kids.length - k) 0 ⟨Nat.zero_le _,au⟩ (bE.d2 _ (cR rfl rfl) ad rfl rfl ?_) (fun k hk=> ?_)
  ·exact cz
  refine b7 ?_
  refine aq (fun h2=> ?_) (fun h2=> ?_)
  ·simp at h2
   obtain⟨x,hx⟩:=aw h2
   obtain⟨y,hy⟩:=aw (l:=b.kids) (k:=k) ad
   have cw:=List.mem_of_getElem? hx
   have sO:=List.mem_of_getElem? hy
   have hd:nb (t.kids.drop k) (b.kids.drop k)=(JU x y&&nb (t.kids.drop (k+1)) (b.kids.drop (k+1))):=by
    obtain⟨g1,g2⟩:=List.getElem?_eq_some_iff.1 hx
    obtain⟨g3,g4⟩:=List.getElem?_eq_some_iff.1 hy
    rw[List.drop_eq_getElem_cons g1,List.drop_eq_getElem_cons g3,g2,g4,nb]
   refine zQ hx hy ?_
   refine ao (ih x cw (fy.2 x cw) y (FX.2 y sO)) rfl ?_
   refine b7 ?_
   refine ai aT ?_
   refine b7 ?_
   refine aq (fun h3=> ?_) (fun h3=> ?_)
   ·refine b7 ?_
    simp at h3
    rw[hk.2,hd,h3];rfl
   ·refine b7 ?_
    simp at h3
    refine ax (k+1) ⟨h2,by rw[hk.2,hd,h3];rfl⟩ ad (bE.d2 _ (cR rfl rfl) ad rfl rfl ?_)
    exact cz
  ·refine b7 ?_
   simp at h2
   rw[hk.2,List.drop_eq_nil_of_le h2]
   rfl
def zc(t:Tm):D:=if t.op=16 then .iface 133 (.agg [])else if t.op=1 then .iface 134 (.i t.n)else .iface 138 t.d
theorem lookD_0{t:Tm}(h:t.op=16):zc t= .iface 133 (.agg []):=if_pos h
theorem lookD_1{t:Tm}(h:t.op=1):zc t= .iface 134 (.i t.n):=by unfold zc;rw[if_neg (by omega),if_pos h]
theorem lookD_2{t:Tm}(h:t.op≠16)(h1:t.op≠1):zc t= .iface 138 t.d:=by unfold zc;rw[if_neg h,if_neg h1]
@[go_sem] theorem Ma:pC Tryz.prog 133=true:=ah
@[go_sem] theorem NQ:pC Tryz.prog 134=true:=ah
@[go_sem] theorem PM:pC Tryz.prog 138=true:=ah
theorem jm(n low high:Int):aR Tryz.prog 67 [.i n, .i low, .i high] (.ret [.bool (cP n low high)]):=by
 refine aR.ay mix aaF au ?_
 rw[c67]
 refine b7 ?_
 rfl
theorem A4(t:Tm):aR Tryz.prog 113 [t.d] (.ret [zc t]):=by
 refine aR.ay mix RP au ?_
 rw[VL]
 by_cases h0:t.op=16
 ·have Bw:(t.op==16)=true:=by simpa using h0
  rw[lookD_0 h0]
  exact uU Bw
 ·have Bw:(t.op==16)=false:=by simpa using h0
  by_cases h1:t.op=1
  ·have bJ:(t.op==1)=true:=by simpa using h1
   rw[lookD_1 h1]
   exact JY Bw bJ
  ·have bJ:(t.op==1)=false:=by simpa using h1
   rw[lookD_2 h0 h1]
   exact JY Bw bJ
theorem acT(a b:List Tm)(ha:a.length<=9223372036854775807)(hb:b.length<=9223372036854775807)(g:Nat)(h:∀x∈a,∀y∈b,aR Tryz.prog g [x.d,y.d] (.ret [.bool (JU x y)]))(o:Nat->ae)(nx:Nat)(hg:Good o nx)(K X:V->(Nat->ae)->Nat->Prop)
 (hK:∀o' nx',nx<=nx'->Good o' nx'->(∀j,j<nx->o' j=o j)->K (.d (.bool (a.length==b.length&&nb a b))) o' nx'):
 cU Tryz.prog 114 [.d (.sl (a.map Tm.d)), .d (.sl (b.map Tm.d)), .func (.func g) [] []] o nx K X:=by
 refine cU.ay mix LL au ?_
 rw[Pv]
 refine iP ?_
 refine aq (fun h1=> ?_) (fun h1=> ?_)
 ·refine aG ?_
  have:(a.length==b.length&&nb a b)=false:=by
   have:(a.length==b.length)=false:=by
    rw[Bool.eq_false_iff];intro h
    simp at h;simp[h]at h1
   rw[this];rfl
  rw[this]at hK
  exact hK _ _ ad (hg.mono ad) (fun _ _=>rfl)
 ·have hl:a.length=b.length:=by simp at h1;omega
  have jy:(a.length==b.length)=true:=by simpa using hl
  rw[jy,Bool.true_and]at hK
  refine iP ?_
  refine aE (fun k:Nat=>⟨bz [.d (.sl (a.map Tm.d)), .d (.sl (b.map Tm.d)), .func (.func g) [] [], .aa, .aa, .aa, .aa, .aa, .aa, .aa, .aa, .aa, .aa, .aa, .aa, .d (.sl (a.map Tm.d)), .d (.i a.length), .d (.i k)],o,nx⟩)
   (fun k=>k<=a.length/\nb a b=nb (a.drop k) (b.drop k)) (fun k=>a.length - k) 0 ⟨Nat.zero_le _,au⟩ (bE.bS _ (Nat.le_refl _) ad hg (fun _ _=>rfl) ?_) (fun k hk=> ?_)
  ·exact cz
  refine aG ?_
  refine aq (fun h2=> ?_) (fun h2=> ?_)
  ·simp at h2
   obtain⟨x,hx⟩:=aw h2
   obtain⟨y,hy⟩:=aw (l:=b) (k:=k) ad
   have hd:nb (a.drop k) (b.drop k)=(JU x y&&nb (a.drop (k+1)) (b.drop (k+1))):=by
    obtain⟨g1,g2⟩:=List.getElem?_eq_some_iff.1 hx
    obtain⟨g3,g4⟩:=List.getElem?_eq_some_iff.1 hy
    rw[List.drop_eq_getElem_cons g1,List.drop_eq_getElem_cons g3,g2,g4,nb]
   refine TA hx hy ?_
   refine ag (h x (List.mem_of_getElem? hx) y (List.mem_of_getElem? hy)) rfl ?_
   refine aG ?_
   refine aq (fun h3=> ?_) (fun h3=> ?_)
   ·refine aG ?_
    simp at h3
    have:nb a b=false:=by rw[hk.2,hd,h3];rfl
    rw[this]at hK
    refine hK _ _ ad ?_ (fun j hj=>by(repeat(first|rfl|rw[ab]|rw[aj _ _ _ _ (by omega)])))
    exact dp
   ·refine aG ?_
    simp at h3
    refine ax (k+1) ⟨h2,by rw[hk.2,hd,h3];rfl⟩ ad (bE.bS _ (Nat.le_refl _) ad hg (fun j hj=>by(repeat(first|rfl|rw[ab]|rw[aj _ _ _ _ (by omega)]))) ?_)
    exact cz
  ·refine aG ?_
   simp at h2
   have:nb a b=true:=by rw[hk.2,List.drop_eq_nil_of_le h2];rfl
   rw[this]at hK
   exact hK _ _ ad (hg.mono ad) (fun _ _=>rfl)
theorem PN(s:ba)(t:Tm)(hs:s.Fits)(ht:t.kids.length<=9223372036854775807):aR Tryz.prog 159 [s.d,t.d] (.ret [.bool (mG s t)]):=by
 refine aR.ay mix R8 au ?_
 rw[V4]
 refine aG ?_
 refine aO (A4 t) ?_
 rcases(by omega:t.op=16\/t.op=1\/(t.op≠16/\t.op≠1))with h|h|⟨h0,h1⟩
 ·have hn:mG s t=(t.n==0&&(t.kids.length:Int)==0):=by unfold mG;rw[if_pos h]
  rw[lookD_0 h]
  refine dn h ?_
  rw[hn]
 ·have hn:mG s t=(cP t.n 0 199&&(t.kids.length:Int)==0):=by unfold mG;rw[if_neg (by omega),if_pos h]
  rw[lookD_1 h]
  refine cg h ?_
  refine ag (jm _ _ _) rfl ?_
  refine dn h ?_
  rw[hn]
 rw[lookD_2 h0 h1]
 rcases(by omega:t.op=2\/t.op=3\/t.op=5\/(t.op≠2/\t.op≠3/\t.op≠5))with h|h|h|h
 ·have hn:mG s t=(cP t.n (-1000000) 1000000&&(t.kids.length:Int)==0):=by unfold mG;rw[if_neg (by omega),if_neg (by omega),if_pos h]
  refine cg h ?_
  refine ag (jm _ _ _) rfl ?_
  refine dn h ?_
  rw[hn]
 ·have hn:mG s t=(cP t.n 0 (s.cons.length - 1)&&(t.kids.length:Int)==dq s.cons t.n):=by unfold mG;rw[if_neg (by omega),if_neg (by omega),if_neg (by omega),if_pos h]
  refine cg h ?_
  rw[wrap64 (by have:=hs.lc;omega) (by have:=hs.lc;omega)]
  refine ao (jm _ _ _) rfl ?_
  cases hI:cP t.n 0 (s.cons.length - 1)with
  |false=>
   refine s9 h hI ?_
   refine ai aT ?_
   refine s9 h hI ?_
   rw[hn,hI];rfl
  |true=>
   obtain⟨h0,x,hx⟩:=gK hI
   refine FR h hI hx h0 ?_
   refine ai aT ?_
   refine s9 h hI ?_
   exact xu
 ·have hn:mG s t=(cP t.n 0 (s.bZ.length - 1)&&decide ((t.kids.length:Int)<dq s.bZ t.n)):=by unfold mG;rw[if_neg (by omega),if_neg (by omega),if_neg (by omega),if_neg (by omega),if_pos h]
  refine cg h ?_
  rw[wrap64 (by have:=hs.lf;omega) (by have:=hs.lf;omega)]
  refine ao (jm _ _ _) rfl ?_
  cases hI:cP t.n 0 (s.bZ.length - 1)with
  |false=>
   refine s9 h hI ?_
   refine ai aT ?_
   refine s9 h hI ?_
   rw[hn,hI];rfl
  |true=>
   obtain⟨h0,x,hx⟩:=gK hI
   refine FR h hI hx h0 ?_
   refine ai aT ?_
   refine s9 h hI ?_
   exact xu
 ·have hn:mG s t=false:=by unfold mG;rw[if_neg h0,if_neg h1,if_neg h.1,if_neg h.2.1,if_neg h.2.2]
  have e3:(t.op==2)=false:=by simpa using h.1
  have e4:(t.op==3)=false:=by simpa using h.2.1
  have e5:(t.op==5)=false:=by simpa using h.2.2
  refine uT e3 e4 e5 ?_
  refine ai aT ?_
  refine aG ?_
  rw[hn]
theorem Mb(n:Int)(x:D){o:Nat->ae}:eL Tryz.prog o .eql 131 false (.d (.iface 133 x)) (.d (.iface 134 (.i n)))=some (.d (.bool false),[],[]):=ah
theorem Mc(m n:Int){o:Nat->ae}:eL Tryz.prog o .eql 131 false (.d (.iface 134 (.i m))) (.d (.iface 134 (.i n)))=some (.d (.bool (m==n)),[],[]):=ah
theorem Md(n:Int)(x:D){o:Nat->ae}:eL Tryz.prog o .eql 131 false (.d (.iface 138 x)) (.d (.iface 134 (.i n)))=some (.d (.bool false),[],[]):=ah
theorem Me{s:ba}:∀a:Tm,a.fits->Pn s a->∀b:Tm,b.fits->Pn s b->aR Tryz.prog 65 [a.d,b.d] (.ret [.bool (JU a b)]):=by
 refine Tm.cB fun a ih ha pa b hb pb=> ?_
 have PO:=(Tm.aJ _).1 ha
 have FX:=(Tm.aJ _).1 hb
 refine aR.ay mix aaE au ?_
 rw[c65,Fo]
 refine aG ?_
 refine aO (A4 a) ?_
 by_cases h:a.op=16
 ·rw[lookD_0 h,if_pos h]
  exact bR
 rw[if_neg h]
 by_cases h1:a.op=1
 ·have ka:=pa.bare (.inr (.inl h1))
  rw[lookD_1 h1]
  refine aG ?_
  refine aO (A4 b) ?_
  by_cases NK:b.op=16
  ·rw[lookD_0 NK,if_pos (.inl (by omega))]
   simp+contextual (disch:=first|omega|simp only[go_sem,false_implies]) only[go_sem,wrap64,if_pos,Mb]
  by_cases Ee:b.op=1
  ·have kb:=pb.bare (.inr (.inl Ee))
   rw[lookD_1 Ee]
   simp+contextual (disch:=first|omega|simp only[go_sem,false_implies]) only[go_sem,wrap64,if_pos,Mc]
   by_cases e:a.n=b.n
   ·rw[if_neg (by rw[h1,Ee,e,ka,kb];simp),ka,e]
    simp[nb]
   ·rw[if_pos (.inr (.inl e))]
    simp;exact fun h=>e h.symm
  ·rw[lookD_2 NK Ee,if_pos (.inl (by omega))]
   simp+contextual (disch:=first|omega|simp only[go_sem,false_implies]) only[go_sem,wrap64,if_pos,Md]
 rw[lookD_2 h h1]
 by_cases e1:a.op=b.op
 ·have e1':(a.op==b.op)=true:=by simpa using e1
  by_cases e2:a.n=b.n
  ·have e2':(a.n==b.n)=true:=by simpa using e2
   refine s9 e1' e2' ?_
   refine br (acT a.kids b.kids PO.1 FX.1 65 (fun x hx y hy=>ih x hx (PO.2 x hx) (pa.gx hx) y (FX.2 y hy) (pb.gx hy)) _ _ dp _ _ fun o2 n2 m1 m2 m3=> ?_)
   refine s9 e1' e2' ?_
   by_cases e3:a.kids.length=b.kids.length
   ·rw[if_neg (by simp[e1,e2,e3])]
    simp[e3]
   ·rw[if_pos (.inr (.inr e3))]
    simp[e3]
  ·have e2':(a.n==b.n)=false:=by simpa using e2
   rw[if_pos (.inr (.inl e2))]
   exact JY e1' e2'
 ·have e1':(a.op==b.op)=false:=by simpa using e1
  rw[if_pos (.inl e1)]
  exact uU e1'
theorem wB{s:ba}:∀t:Tm,t.fits->Pn s t->aR Tryz.prog 69 [t.d] (.ret [.i (Fl t)]):=by
 refine Tm.cB fun t ih ht hp=> ?_
 have Cc:=(Tm.aJ _).1 ht
 refine aR.ay mix aaH au ?_
 rw[c69,L6]
 refine aG ?_
 refine aO (A4 t) ?_
 by_cases h0:t.op=16
 ·rw[lookD_0 h0,if_pos h0]
  exact bR
 rw[if_neg h0]
 by_cases h1:t.op=1
 ·rw[lookD_1 h1,if_pos h1]
  exact bR
 rw[if_neg h1,lookD_2 h0 h1]
 refine fT ?_
 refine aE (fun i:Nat×Int=>⟨bz [.aa, .aa, .aa, .d (.i i.2), .aa, .aa, .aa, .aa, .aa, .aa, .aa, .aa, .aa, .aa, .aa, .aa, .aa, .aa, .aa, .aa, .aa, .d (.sl (t.kids.map Tm.d)), .d (.i t.kids.length), .d (.i i.1)],aK (fun _=> .no) 0 (.row t.row),1⟩)
  (fun i=>i.1<=t.kids.length/\uk t.kids 2=uk (t.kids.drop i.1) i.2/\0<=i.2/\i.2<=2) (fun i=>t.kids.length - i.1) (0,2) ⟨Nat.zero_le _,rfl,aT,aT⟩ ?_ ?_
 ·dsimp only
  refine bE.bS _ ad ad dp (fun j hj=> ?_) ?_
  ·exact cY
  ·exact cz
 rintro⟨i,m⟩ ⟨hi,hk,m0,m2⟩
 simp only at hi hk m0 m2
 refine fT ?_
 refine aq (fun h5=> ?_) (fun h5=> ?_)
 ·simp at h5
  obtain⟨x,hx⟩:=aw h5
  have cw:=List.mem_of_getElem? hx
  have hkx:=(Fm x (hp.gx cw)).1
  have hd:t.kids.drop i=x::t.kids.drop (i+1):=by
   obtain⟨g1,g2⟩:=List.getElem?_eq_some_iff.1 hx
   exact T1
  rw[hd,uk]at hk
  have PQ:(if Fl x<m then Fl x else m)=min m (Fl x):=by rw[Int.min_def];split<;>split<;>omega
  refine dn hx ?_
  refine ag (ih x cw (Cc.2 x cw) (hp.gx cw)) rfl ?_
  refine fT ?_
  first
   |rw[PQ]
   |skip
  refine ax (i+1,min m (Fl x)) ⟨h5,hk,by dsimp only;omega,by dsimp only;omega⟩ mX (bE.bS _ ad ad dp (fun j hj=> ?_) ?_)
  ·exact cY
  ·exact cz
 ·simp at h5
  refine fT ?_
  rw[List.drop_eq_nil_of_le h5]at hk
  rw[hk];rfl
def xO{σ:Type}(step:σ->Tm->σ×Bool):σ->List Tm->Int->Int
 |_,[],_=> -1
 |s,x::l,k=>if(step s x).2=true then xO step (step s x).1 l (k+1)else k
theorem GR{σ:Type}(step:σ->Tm->σ×Bool):∀ (l:List Tm) (s:σ) (k:Int),0<=k->(0<=xO step s l k↔(aA step s l).2=false)
 |[],_,_,_=>by simp[xO,aA]
 |x::l,s,k,hk=>by
  have ih:=GR step l (step s x).1 (k+1) ad
  by_cases h:(step s x).2=true
  ·simp only[xO,aA,h,if_true];exact ih
  ·simp[xO,aA,h,hk]
theorem Xl{σ:Type}(l:List Tm)(hl:l.length<=9223372036854775807)(g:Nat)(aL:List V)(base:Nat)(H:σ->Nat->ae)(step:σ->Tm->σ×Bool)(hc:∀r∈V.aQ aL,r<base)(ok:σ->Prop)(bA:∀x∈l,∀s,ok s->(step s x).2=true->ok (step s x).1)
 (h:∀x∈l,∀s,ok s->fR Tryz.prog g (.d x.d::aL) base (H s) (H (step s x).1) (.d (.bool (!(step s x).2)))) (s:σ) (gG:ok s):
 fR Tryz.prog 204 [.d (.sl (l.map Tm.d)), .func (.func g) [] aL] base (H s) (H (aA step s l).1) (.d (.i (xO step s l 0))):=by
 intro o nx hI K X hK
 have fN:∀r∈V.aQ aL,r<nx:=fun r hr=>Nat.lt_of_lt_of_le (hc r hr) hI.le
 refine cU.ay mix SG au ?_
 rw[WA]
 refine b7 ?_
 refine aE (fun i:Nat×σ×(Nat->ae)×Nat=>⟨bz [.d (.sl (l.map Tm.d)), .func (.func g) [] aL, .aa, .aa, .aa, .aa, .aa, .d (.i l.length), .d (.i i.1)],i.2.2.1,i.2.2.2⟩)
  (fun i=>i.1<=l.length/\cW base (H i.2.1) i.2.2.1 i.2.2.2/\nx<=i.2.2.2/\(∀id,base<=id->id<nx->i.2.2.1 id=o id)/\aA step s l=aA step i.2.1 (l.drop i.1)/\ok i.2.1/\xO step s l 0=xO step i.2.1 (l.drop i.1) i.1) (fun i=>l.length - i.1) (0,s,o,nx)
  ⟨Nat.zero_le _,hI,Nat.le_refl _,fun _ _ _=>rfl,rfl,gG,rfl⟩ ?_ ?_
 ·dsimp only
  refine bE.bS _ (Nat.le_refl _) ad hI.bU (fun _ _=>rfl) ?_
  exact cz
 rintro⟨k,s',o',nx'⟩ ⟨hk,oX,hn,dh,hf,jX,kL⟩
 simp only at hk oX hn dh hf jX kL
 refine b7 ?_
 refine aq (fun h1=> ?_) (fun h1=> ?_)
 ·simp at h1
  obtain⟨x,hx⟩:=aw h1
  have cw:=List.mem_of_getElem? hx
  have hd:l.drop k=x::l.drop (k+1):=by
   rw[List.drop_eq_getElem_cons h1]
   rw[List.getElem?_eq_getElem h1]at hx;injection hx with hx;rw[hx]
  rw[hd]at hf kL
  simp only[aA,xO]at hf kL
  refine Hr hx ?_
  refine df (h x cw s' jX _ _ (oX.mono ad) _ _ fun o2 n2 m1 m2 m3=> ?_)
  cases hb:(step s' x).2 with
  |true=>
   rw[hb]at hf kL
   simp only[if_true]at hf kL
   refine aG ?_
   have Df:∀r∈V.aQ aL,r<n2+1+1:=fun r hr=>by have:=fN r hr;omega
   refine ax (k+1,(step s' x).1,o2,n2+1+1) ⟨h1,m2.mono (show n2<=n2+1+1 from ad),(show nx<=n2+1+1 from ad),fun id i1 i2=>(m3 id i1 ad).trans (dh id i1 i2),hf,bA x cw s' jX hb,by rw[kL];rfl⟩ mX (bE.bS _ (show nx<=n2+1+1 from ad) (Nat.le_refl _) (m2.mono (show n2<=n2+1+1 from ad)).bU (fun _ _=>rfl) ?_)
   exact cz
  |false=>
   rw[hb]at hf kL
   simp only[Bool.false_eq_true,if_false]at hf kL
   refine b7 ?_
   rw[hf,kL]at hK
   exact hK _ _ ad (m2.mono ad) fun id i1 i2=>(m3 id i1 ad).trans (dh id i1 i2)
 ·simp at h1
  refine b7 ?_
  rw[List.drop_eq_nil_of_le h1]at hf kL
  rw[hf,kL]at hK
  exact hK _ _ ad (oX.mono ad) dh
theorem tK{σ:Type}(l:List Tm)(hl:l.length<=9223372036854775807)(g:Nat)(aL:List V)(base:Nat)(H:σ->Nat->ae)(step:σ->Tm->σ×Bool)(hc:∀r∈V.aQ aL,r<base)(ok:σ->Prop)(bA:∀x∈l,∀s,ok s->(step s x).2=true->ok (step s x).1)
 (h:∀x∈l,∀s,ok s->fR Tryz.prog g (.d x.d::aL) base (H s) (H (step s x).1) (.d (.bool (!(step s x).2)))) (s:σ) (gG:ok s):
 fR Tryz.prog 157 [.d (.sl (l.map Tm.d)), .func (.func g) [] aL] base (H s) (H (aA step s l).1) (.d (.bool (!(aA step s l).2))):=by
 intro o nx hI K X hK
 have fN:∀r∈V.aQ aL,r<nx:=fun r hr=>Nat.lt_of_lt_of_le (hc r hr) hI.le
 refine cU.ay mix R6 au ?_
 rw[V2]
 refine iP ?_
 refine br (Xl l hl g aL base H step hc ok bA h s gG _ _ ?_ _ _ fun o2 n2 m1 m2 m3=> ?_)
 ·exact hI.mono ad
 refine iP ?_
 have e:decide (0<=xO step s l 0)= !(aA step s l).2:=by
  have:=GR step l s 0 ad
  rw[Bool.eq_iff_iff,decide_eq_true_eq,this]
  cases(aA step s l).2<;>simp
 rw[e]
 exact hK _ _ ad (m2.mono ad) fun id i1 i2=>m3 id i1 ad
theorem ae4{x:Tm}{g:Nat}{aL:List V}{base c bx:Nat}{h h2 O:Nat->ae}{r:Bool}(hS:fR Tryz.prog g (.d x.d::aL) base h h2 (.d (.bool r)))(hb:base<=bx)(QM:bx<c)(hO:O bx= .row [.func (.func g) [] aL])(hc:∀r∈V.aQ aL,r<base):
 fR Tryz.prog 158 [.d x.d, .ptr bx 0] c (ext base h O) (ext base h2 O) (.d (.bool (!r))):=by
 intro o nx hI K X hK
 have hle:=hI.le
 have fN:∀r∈V.aQ aL,r<nx:=fun r hr=>by have:=hc r hr;omega
 have ho:o bx= .row [.func (.func g) [] aL]:=by
  exact J6
 have y1:∀k,bx≠nx+k:=fun k=>ad
 have y2:bx≠nx:=ad
 refine cU.ay mix R7 au ?_
 rw[V3]
 refine zM ho y1 y2 ?_
 refine df ((hS.ext (by omega:base<=c) O) _ _ ?_ _ _ fun o2 n2 m1 m2 m3=> ?_)
 ·exact hI.aK ad ad ad rfl
 refine iP ?_
 exact hK _ _ ad (m2.mono ad) fun id i1 i2=>by rw[m3 id i1 (by omega),aj _ _ _ _ (by omega)]
theorem zd{σ:Type}(l:List Tm)(hl:l.length<=9223372036854775807)(g:Nat)(aL:List V)(base:Nat)(H:σ->Nat->ae)(step:σ->Tm->σ×Bool)(hc:∀r∈V.aQ aL,r<base)(ok:σ->Prop)(bA:∀x∈l,∀s,ok s->(step s x).2=true->ok (step s x).1)
 (h:∀x∈l,∀s,ok s->fR Tryz.prog g (.d x.d::aL) base (H s) (H (step s x).1) (.d (.bool (step s x).2))) (s:σ) (gG:ok s):
 fR Tryz.prog 111 [.d (.sl (l.map Tm.d)), .func (.func g) [] aL] base (H s) (H (aA step s l).1) (.d (.bool (aA step s l).2)):=by
 intro o nx hI K X hK
 have hle:=hI.le
 have fN:∀r∈V.aQ aL,r<nx:=fun r hr=>Nat.lt_of_lt_of_le (hc r hr) hI.le
 refine cU.ay mix RN au ?_
 rw[VK]
 refine iP ?_
 refine br (tK l hl 158 [.ptr nx 0] (nx+1) (fun s=>ext base (H s) (aK o nx (.row [.func (.func g) [] aL]))) step mc ok bA (fun x hx s hs=>ae4 (h x hx s hs) hle ad (ab _ _ _) hc) s gG _ _ ?_ _ _ fun o2 n2 m1 m2 m3=> ?_)
 ·have hr:(ae.row [V.func (.func g) [] aL]).refs.all (fun r=>decide (r<nx+4))=true:=by
   rw[List.all_eq_true]
   intro r hr
   have h1:r∈V.aQ aL:=by simpa[ae.refs,V.aQ,V.refs]using hr
   have:=fN r h1
   simp;omega
  exact(hI.aK ad ad ad hr).ext ad ad
 refine iP ?_
 refine hK _ _ ad ⟨(m2.mono ad).bU,by have:=m2.le;omega,fun id aC=> ?_⟩ fun id i1 i2=> ?_
 ·exact zS
 ·exact J4
def GS(s:ba)(d:Int)(left:Int)(k:Tm):Int×Bool:=((xl s k left d).2,(xl s k left d).1)
theorem Dn(s:ba)(d:Int):∀ (l:List Tm) (left:Int),aA (GS s d) left l=((sQ s l left d).2,(sQ s l left d).1)
 |[],_=>by simp[aA,sQ]
 |k::l,left=>by
  have ih:=Dn s d l (xl s k left d).2
  by_cases h:(xl s k left d).1=true
  ·simp only[aA,sQ,GS,h,if_true];exact ih
  ·simp[aA,sQ,GS,h]
def WdC(s:ba)(t:Tm):Prop:=∀ (left d:Int), -1000000<=left/\left<=1000000-> -1000<=d/\d<=1000->∀ (base lp:Nat) (h:Nat->ae),lp<base->
    fR Tryz.prog 116 [.d s.d, .d t.d, .ptr lp 0, .d (.i d)] base (aK h lp (.row [.d (.i left)])) (aK h lp (.row [.d (.i (xl s t left d).2)])) (.d (.bool (xl s t left d).1))
theorem IW(s:ba)(hs:s.Fits):∀t:Tm,t.fits->WdC s t:=by
 refine Tm.cB fun t ih ht=> ?_
 have Cc:=(Tm.aJ _).1 ht
 intro left d hl hd base lp h hlp o nx hI K X hK
 have hle:=hI.le
 have ho:o lp= .row [.d (.i left)]:=by rw[hI.eq lp hlp,ab]
 have y1:∀k,lp≠nx+k:=fun k=>ad
 have y2:lp≠nx:=ad
 rw[L4]at hK
 have fin:∀ (o':Nat->ae) (n':Nat) (v:Int),nx<=n'->Good o' n'->o' lp= .row [.d (.i v)]->(∀j,j<nx->j≠lp->o' j=o j)->cW base (aK h lp (.row [.d (.i v)])) o' n'/\∀id,base<=id->id<nx->o' id=o id:=fun o' n' v k1 k2 k3 k4=>by
  refine⟨⟨k2,ad,fun id aC=> ?_⟩,fun id i1 i2=>k4 id i2 ad⟩
  by_cases e:id=lp
  ·subst e;rw[k3,ab]
  ·rw[k4 id (by omega) e,hI.eq id aC,aj _ _ _ _ e,aj _ _ _ _ e]
 have hg:=hI.bU
 refine cU.ay mix RQ au ?_
 rw[VM]
 refine zM ho y1 y2 ?_
 by_cases h1:left - 1<0
 ·have bJ:decide (0<=left - 1)=false:=by simp;omega
  rw[if_pos (.inl h1)]at hK
  refine NU bJ ho y1 y2 ?_
  refine(fun q=>hK _ _ ad (And.left q) (And.right q)) (fin _ (nx+31) (left - 1) ad ?_ (ab _ _ _) fun j j1 j2=> ?_)
  ·exact dp
  ·exact cY
 have bJ:decide (0<=left - 1)=true:=by simp;omega
 by_cases h2:d<=0
 ·have iR:decide (0<d)=false:=by simpa using h2
  rw[if_pos (.inr (.inl h2))]at hK
  refine NT bJ iR ho y1 y2 ?_
  refine(fun q=>hK _ _ ad (And.left q) (And.right q)) (fin _ (nx+31) (left - 1) ad ?_ (ab _ _ _) fun j j1 j2=> ?_)
  ·exact dp
  ·exact cY
 have iR:decide (0<d)=true:=by simp;omega
 refine NT bJ iR ho y1 y2 ?_
 refine ag (PN s t hs Cc.1) rfl ?_
 cases hn:mG s t with
 |false=>
  rw[if_pos (.inr (.inr hn))]at hK
  refine NT bJ iR ho y1 y2 ?_
  refine(fun q=>hK _ _ ad (And.left q) (And.right q)) (fin _ (nx+31) (left - 1) ad ?_ (ab _ _ _) fun j j1 j2=> ?_)
  ·exact dp
  ·exact cY
 |true=>
  rw[if_neg (by rw[hn];simp;omega)]at hK
  refine NT bJ iR ho y1 y2 ?_
  have Ut:=Dn s (d - 1) t.kids (left - 1)
  have clo:∀ (O:Nat->ae) (k:Tm) (v:Int),k∈t.kids-> -1000000<=v/\v<=1000000->O nx= .row s.row->O (nx+2)= .row [.ptr lp 0]->O (nx+3)= .row [.d (.i d)]->
   fR Tryz.prog 160 [.d k.d, .ptr nx 0, .ptr (nx+2) 0, .ptr (nx+3) 0] (nx+4) (ext base (aK h lp (.row [.d (.i v)])) O) (ext base (aK h lp (.row [.d (.i (xl s k v (d - 1)).2)])) O) (.d (.bool (xl s k v (d - 1)).1)):=by
   intro O k v hk hv p0 p2 p3 o2 n2 KQ K2 X2 hK2
   have ON:=KQ.le
   have r0:o2 nx= .row s.row:=by rw[KQ.eq nx (by omega)];unfold ext;rw[if_neg (by omega),p0]
   have r2:o2 (nx+2)= .row [.ptr lp 0]:=by rw[KQ.eq _ (by omega)];unfold ext;rw[if_neg (by omega),p2]
   have r3:o2 (nx+3)= .row [.d (.i d)]:=by rw[KQ.eq _ (by omega)];unfold ext;rw[if_neg (by omega),p3]
   have z0:∀j,nx≠n2+j:=fun j=>ad
   have z2:∀j,nx+2≠n2+j:=fun j=>ad
   have z3:∀j,nx+3≠n2+j:=fun j=>ad
   have z4:nx≠n2/\nx+2≠n2/\nx+3≠n2:=ad
   refine cU.ay mix R9 au ?_
   rw[V5]
   simp+contextual (disch:=first|omega|simp only[go_sem,false_implies]) only[go_sem,wrap64,if_pos,r0,r2,r3,z0,z2,z3,z4.1,z4.2.1,z4.2.2,Nat.add_assoc,Nat.left_eq_add,Nat.add_eq_left,Nat.add_left_cancel_iff]
   refine br ((ih k hk (Cc.2 k hk) v (d - 1) hv ad base lp h hlp).ext (by omega:base<=nx+4) O _ _ ?_ _ _ fun o3 n3 m1 m2 m3=> ?_)
   ·exact KQ.aK ad ad ad rfl
   refine iP ?_
   exact hK2 _ _ ad (m2.mono ad) fun id i1 i2=>by rw[m3 id i1 (by omega),aj _ _ _ _ (by omega)]
  refine br (cU.gen fun O hO=> ?_)
  have p0:O nx= .row s.row:=by rw[hO];(repeat(first|rfl|rw[ab]|rw[aj _ _ _ _ (by omega)]))
  have p2:O (nx+2)= .row [.ptr lp 0]:=by rw[hO];(repeat(first|rfl|rw[ab]|rw[aj _ _ _ _ (by omega)]))
  have p3:O (nx+3)= .row [.d (.i d)]:=by rw[hO];(repeat(first|rfl|rw[ab]|rw[aj _ _ _ _ (by omega)]))
  obtain⟨hIO,dh⟩:=fin O (nx+28) (left - 1) ad (by rw[hO];exact dp) (by rw[hO];exact ab _ _ _) (fun j j1 j2=>by rw[hO];(repeat(first|rfl|rw[ab]|rw[aj _ _ _ _ (by omega)])))
  refine zd t.kids Cc.1 160 [.ptr nx 0, .ptr (nx+2) 0, .ptr (nx+3) 0] (nx+4) (fun v=>ext base (aK h lp (.row [.d (.i v)])) O) (GS s (d - 1)) mc (fun v:Int=> -1000000<=v/\v<=1000000) (fun k hk v hv mZ=> ?_) (fun k hk v hv=>clo O k v hk hv p0 p2 p3) (left - 1) ad O (nx+28) (hIO.ext ad ad) _ _ fun o2 n2 m1 m2 m3=> ?_
  ·obtain⟨h5,h6⟩:=L5 s k v (d - 1)
   have e:=h6 mZ
   rw[show(xl s k v (d - 1)).1=true from mZ]at h5
   have h7:=h5.symm
   rw[Bool.and_eq_true,decide_eq_true_eq]at h7
   show -1000000<=(xl s k v (d - 1)).2/\(xl s k v (d - 1)).2<=1000000
   rw[e];omega
  ·rw[Ut]at m2|-
   refine iP ?_
   refine hK _ _ ad ⟨(m2.mono ad).bU,by have:=m2.le;omega,fun id aC=> ?_⟩ fun id i1 i2=> ?_
   ·exact zS
   ·rw[m2.eq id (by omega)];unfold ext;rw[if_neg (by omega),dh id i1 i2]
theorem GU(s:ba)(hs:s.Fits)(t:Tm)(ht:t.fits):aR Tryz.prog 68 [s.d,t.d] (.ret [.bool (BB s t)]):=by
 refine aR.ay mix aaG au ?_
 rw[c68]
 refine iP ?_
 refine br ((IW s hs t ht) 80 30 ad ad 4 3 (aK (aK (fun _=> .no) 0 (.row s.row)) 1 (.row t.row)) ad _ _ ⟨dp,ad,fun id aC=> ?_⟩ _ _ fun o2 n2 m1 m2 m3=> ?_)
 ·exact rY
 refine iP ?_
 rw[acS]
theorem Dp{α:Type}(f:α->Bool):∀l:List α,aA (fun(_:Unit) x=>((),f x)) () l=((),l.all f)
 |[]=>rfl
 |x::l=>by
  have ih:=Dp f l
  cases h:f x<;>simp[aA,h,ih]
end Go.Proofs.YtonbelhklnmjnaaGreat
namespace Go.Proofs.YtonbelhklnmjnaaGreat
theorem acU{x:Tm}{g:Nat}{aL:List V}{base c bx:Nat}{h h2 O:Nat->ae}{r:Bool}(hS:fR Tryz.prog g (.d x.d::aL) base h h2 (.d (.bool r)))(hb:base<=bx)(QM:bx<c)(hO:O bx= .row [.func (.func g) [] aL])(hc:∀r∈V.aQ aL,r<base):
 fR Tryz.prog 230 [.d x.d, .ptr bx 0] c (ext base h O) (ext base h2 O) (.d (.bool (!r))):=by
 intro o nx hI K X hK
 have hle:=hI.le
 have fN:∀r∈V.aQ aL,r<nx:=fun r hr=>by have:=hc r hr;omega
 have ho:o bx= .row [.func (.func g) [] aL]:=by
  exact J6
 have y1:∀k,bx≠nx+k:=fun k=>ad
 have y2:bx≠nx:=ad
 refine cU.ay mix SW au ?_
 rw[WR]
 refine zM ho y1 y2 ?_
 refine df ((hS.ext (by omega:base<=c) O) _ _ ?_ _ _ fun o2 n2 m1 m2 m3=> ?_)
 ·exact hI.aK ad ad ad rfl
 refine iP ?_
 exact hK _ _ ad (m2.mono ad) fun id i1 i2=>by rw[m3 id i1 (by omega),aj _ _ _ _ (by omega)]
theorem ze{σ:Type}(l:List Tm)(hl:l.length<=9223372036854775807)(g:Nat)(aL:List V)(base:Nat)(H:σ->Nat->ae)(step:σ->Tm->σ×Bool)(hc:∀r∈V.aQ aL,r<base)(ok:σ->Prop)(bA:∀x∈l,∀s,ok s->(step s x).2=true->ok (step s x).1)
 (h:∀x∈l,∀s,ok s->fR Tryz.prog g (.d x.d::aL) base (H s) (H (step s x).1) (.d (.bool (step s x).2))) (s:σ) (gG:ok s):
 fR Tryz.prog 187 [.d (.sl (l.map Tm.d)), .func (.func g) [] aL] base (H s) (H (aA step s l).1) (.d (.bool (aA step s l).2)):=by
 intro o nx hI K X hK
 have hle:=hI.le
 have fN:∀r∈V.aQ aL,r<nx:=fun r hr=>Nat.lt_of_lt_of_le (hc r hr) hI.le
 refine cU.ay mix SA au ?_
 rw[Wu]
 refine iP ?_
 refine br (tK l hl 230 [.ptr nx 0] (nx+1) (fun s=>ext base (H s) (aK o nx (.row [.func (.func g) [] aL]))) step mc ok bA (fun x hx s hs=>acU (h x hx s hs) hle ad (ab _ _ _) hc) s gG _ _ ?_ _ _ fun o2 n2 m1 m2 m3=> ?_)
 ·have hr:(ae.row [V.func (.func g) [] aL]).refs.all (fun r=>decide (r<nx+4))=true:=by
   rw[List.all_eq_true]
   intro r hr
   have h1:r∈V.aQ aL:=by simpa[ae.refs,V.aQ,V.refs]using hr
   have:=fN r h1
   simp;omega
  exact(hI.aK ad ad ad hr).ext ad ad
 refine iP ?_
 refine hK _ _ ad ⟨(m2.mono ad).bU,by have:=m2.le;omega,fun id aC=> ?_⟩ fun id i1 i2=> ?_
 ·exact zS
 ·exact J4
mutual
def iV:Tm->List Tm
 | .mk op n kids=> .mk op n kids::PR kids
def PR:List Tm->List Tm
 |[]=>[]
 |k::l=>iV k++PR l
end
theorem zf:∀l:List Tm,PR l=l.flatMap iV
 |[]=>rfl
 |k::l=>by rw[PR,zf l];rfl
theorem mH(t:Tm):iV t=t::t.kids.flatMap iV:=by cases t;rw[iV,zf];rfl
section
variable {σ:Type}(base oG:Nat)(H:σ->Nat->ae)(step:σ->Tm->σ×Bool)(ok:σ->Prop)
theorem Mf:∀t:Tm,t.fits->(∀x∈iV t,∀s,ok s->(step s x).2=true->ok (step s x).1)->(∀x∈iV t,∀s,ok s->YT Tryz.prog oG [.d x.d] base (H s) (H (step s x).1) (.d (.bool (step s x).2)))->oG<base->
 ∀ (c:Nat) (o0:Nat->ae) (yb vb:Nat),base<=c->base<=yb->yb<c->base<=vb->vb<c->o0 yb= .row [.j6 oG]->o0 vb= .row [.func (.func 258) [] [.ptr yb 0, .ptr vb 0]]->
 ∀s,ok s->fR Tryz.prog 258 [.d t.d, .ptr yb 0, .ptr vb 0] c (ext base (H s) o0) (ext base (H (aA step s (iV t)).1) o0) (.d (.bool (aA step s (iV t)).2)):=by
 refine Tm.cB fun t ih hf bA hR we c o0 yb vb QM Ti hy NO hv oy ov s gG=> ?_
 have fy:=(Tm.aJ _).1 hf
 intro o nx hI K X hK
 have hle:=hI.le
 have Tj:o yb= .row [.j6 oG]:=by rw[hI.eq yb hy];unfold ext;rw[if_neg (by omega),oy]
 have Tk:o vb= .row [.func (.func 258) [] [.ptr yb 0, .ptr vb 0]]:=by rw[hI.eq vb hv];unfold ext;rw[if_neg (by omega),ov]
 have y1:yb≠nx:=ad
 have y2:∀k,yb≠nx+k:=fun k=>ad
 have y3:vb≠nx:=ad
 have y4:∀k,vb≠nx+k:=fun k=>ad
 refine cU.ay mix Te au ?_
 rw[W8]
 simp+contextual only[go_sem,Tj,Tk,y1,y2,y3,y4,Nat.add_assoc,Nat.left_eq_add,Nat.add_eq_left,Nat.add_left_cancel_iff]
 have tV:=mH t
 have lU:∀k∈t.kids,∀x∈iV k,x∈iV t:=fun k hk x hx=>by
  exact TP
 have hb:∀id,id<base->o id=H s id:=fun id aC=>by rw[hI.eq id (by omega)];unfold ext;rw[if_pos aC]
 have hIb:cW base (H s) o nx:=⟨hI.bU,ad,hb⟩
 refine nX (hR t HC s gG _ _ (hIb.aK (i:=nx) (m:=nx+4) ad ad ad rfl) _ _ fun o2 n2 m1 m2 m3=> ?_)
 have k0:o2 nx= .row t.row:=by rw[m3 nx (by omega) (by omega),ab]
 have hold:∀id,base<=id->id<nx->o2 id=o id:=fun id h1 h2=>by rw[m3 id h1 (by omega),aj _ _ _ _ (by omega)]
 have Hx:∀id,base<=id->id<c->o id=o0 id:=fun id h1 h2=>by rw[hI.eq id h2];unfold ext;rw[if_neg (by omega)]
 cases Dg:(step s t).2 with
 |false=>
  refine eZ Dg ?_
  have BA:aA step s (iV t)=((step s t).1,false):=by rw[tV,aA,if_neg (by rw[Dg];exact Bool.false_ne_true)]
  rw[BA]at hK
  refine hK _ _ ad ⟨m2.bU.mono ad,ad,fun id aC=> ?_⟩ (fun id h1 h2=>hold id ad h2)
  unfold ext
  split
  ·exact m2.eq id BK
  ·exact Hw
 |true=>
  have BA:aA step s (iV t)=aA (fun s k=>aA step s (iV k)) (step s t).1 t.kids:=by rw[tV,aA,if_pos Dg,pZ]
  have q0:o2 yb= .row [.j6 oG]:=by rw[hold yb Ti (by omega),Tj]
  have q1:o2 vb= .row [.func (.func 258) [] [.ptr yb 0, .ptr vb 0]]:=by rw[hold vb NO (by omega),Tk]
  simp+contextual only[go_sem,Dg,k0,q1]
  have m0:=m2.le
  refine br (ze t.kids fy.1 258 [.ptr yb 0, .ptr vb 0] n2 (fun s=>ext base (H s) o2) (fun s k=>aA step s (iV k)) ?_ ok ?_ ?_ (step s t).1 (bA t HC s gG Dg) _ _ ?_ _ _ ?_)
  ·exact N8
  ·exact fun k hk s' h1 h2=>wc _ (fun x hx=>bA x (lU k hk x hx)) s' h1 h2
  ·intro k hk s' iS
   exact ih k hk (fy.2 k hk) (fun x hx=>bA x (lU k hk x hx)) (fun x hx=>hR x (lU k hk x hx)) we n2 o2 yb vb ad Ti ad NO ad q0 q1 s' iS
  ·exact(m2.mono ad).ext ad ad
  ·intro o5 n5 p1 p2 p3
   refine b7 ?_
   rw[<- BA]
   refine hK _ _ ad ⟨p2.bU.mono ad,ad,fun id aC=> ?_⟩ (fun id h1 h2=> ?_)
   ·rw[p2.eq id (by omega), <- BA]
    unfold ext
    split
    ·rfl
    ·exact Hw
   ·rw[p2.eq id (by omega)]
    unfold ext
    exact TW
theorem IX(t:Tm)(hf:t.fits)(bA:∀x∈iV t,∀s,ok s->(step s x).2=true->ok (step s x).1)(hR:∀x∈iV t,∀s,ok s->YT Tryz.prog oG [.d x.d] base (H s) (H (step s x).1) (.d (.bool (step s x).2)))(we:oG<base)(tb:Nat)(HD:tb<base)(s:σ)(gG:ok s)(ck:H s tb= .row t.row):
 fR Tryz.prog 257 [.j6 oG, .ptr tb 0] base (H s) (H (aA step s (iV t)).1) (.cA []):=by
 intro o nx hI K X hK
 have hle:=hI.le
 have ot:o tb= .row t.row:=by rw[hI.eq tb HD,ck]
 have y1:tb≠nx:=ad
 have y2:∀k,tb≠nx+k:=fun k=>ad
 refine cU.ay mix Td au ?_
 rw[W7]
 refine TI ot y1 y2 ?_
 have hI1:cW base (H s) (aK (aK (aK o nx (.row [.j6 oG])) (nx+1) (.row [.d .cj])) (nx+1) (.row [.func (.func 258) [] [.ptr nx 0, .ptr (nx+1) 0]])) (nx+6):=by
  refine((hI.aK (i:=nx) (m:=nx+6) ad ad ad ?_).aK (i:=nx+1) (m:=nx+6) ad ad ad rfl).aK (i:=nx+1) ad ad ad ?_
  ·exact TZ
  ·exact fH
 refine br (Mf base oG H step ok t hf bA hR we (nx+6) _ nx (nx+1) ad hle ad ad ad ?_ ?_ s gG _ _ (hI1.ext (Nat.le_refl _) ad) _ _ ?_)
 ·exact cY
 ·exact cY
 intro o2 n2 m1 m2 m3
 refine b7 ?_
 refine hK _ _ ad ⟨m2.bU,ad,fun id aC=> ?_⟩ (fun id h1 h2=> ?_)
 ·exact zS
 ·rw[m2.eq id (by omega)];unfold ext;rw[if_neg (by omega)]
  exact cY
end
theorem zg(t:Tm)(o:Nat->ae)(nx:Nat)(K X:V->(Nat->ae)->Nat->Prop)(h:K (.func (.func 257) [] [.ptr nx 0]) (aK o nx (.row t.row)) (nx+4)):cU Tryz.prog 231 [.d t.d] o nx K X:=by
 refine cU.ay mix SX au ?_
 rw[WS]
 refine b7 ?_
 exact h
def A5{σ:Type}(J:σ->Option jS)(step:σ->Tm->σ)(s:σ)(x:Tm):σ×Bool:=(step s x,(J (step s x)).isNone)
theorem ry{σ:Type}(t:Tm)(hf:t.fits){n bq:Nat}{gq:Operand}{ps:List Nat}{iZ eN:IC}{Q:fG->S->Prop}{e:Nat->V}{o:Nat->ae}{nx tb:Nat}(env:List V)(he:lZ e env 0)
 (CY:ps.all (fun t=>decide (t<n))=true) (hl:ps.length=1) (hg:Good o nx) (hrefs:∀r∈V.aQ env,r<nx) (ht:o tb= .row t.row)
 (G:σ->Nat->ae) (J:σ->Option jS) (step:σ->Tm->σ) (ok:σ->Prop) (s0:σ) (gG:ok s0) (NP:J s0=none) (h0:∀id,id<nx->o id=G s0 id) (bA:∀x∈iV t,∀s,ok s->J s=none->J (step s x)=none->ok (step s x))
 (mA:∀L,iH Tryz.prog n env ps iZ eN L->(∀st pd m,nx<=m->(L st pd).refs.all (fun r=>decide (r<m))=true)->∀x∈iV t,∀s,ok s->J s=none->∀o3 n3,cW nx (G s) o3 n3->nx<n3->o3 nx=L .ready none->∀K X,
  (∀e' o' n' st pd,n3<=n'->cW nx (G (step s x)) o' n'->o' nx=L st pd->(∀id,nx<id->id<n3->o' id=o3 id)->jM nx K X (GJ (J (step s x))) ⟨e',o',n'⟩)->
  kS Tryz.prog n n3 true iZ (nW Tryz.prog n n3 nx eN K X) ⟨m8 (bz env) ps [.d x.d],o3,n3⟩)
 (kB:∀o' n',cW nx (G (aA (A5 J step) s0 (iV t)).1) o' n'->oW Q (J (aA (A5 J step) s0 (iV t)).1) ⟨e,o',n'⟩):
 sI Tryz.prog n bq false gq ps iZ eN Q ⟨e,o,nx⟩ (.func (.func 257) [] [.ptr tb 0]):=by
 refine Fe env he (fun L hL=> ?_)
 have HD:tb<nx:=hg.lt T9
 let H:σ->Nat->ae:=fun s id=>if id<nx then G s id else if id=nx then(match J s with|none=>L .ready none|some j=>L .done (some j))else .no
 have Hy:∀s id,id<nx->H s id=G s id:=fun s id h=>if_pos h
 have GK:∀s,J s=none->H s nx=L .ready none:=fun s h=>by show(if nx<nx then _ else _)=_;rw[if_neg (by omega),if_pos rfl,h]
 have LW:∀s j,J s=some j->H s nx=L .done (some j):=fun s j h=>by show(if nx<nx then _ else _)=_;rw[if_neg (by omega),if_pos rfl,h]
 have uW:∀st pd m,nx<=m->(L st pd).refs.all (fun r=>decide (r<m))=true:=fun st pd m hm=>by
  rw[hL.refs,List.all_eq_true]
  intro r hr;have:=hrefs r hr;exact decide_eq_true ad
 refine IX (nx+1) nx H (A5 J step) (fun s=>ok s/\J s=none) t hf (fun x hx s h1 h2=> ?_) (fun x hx s h1=> ?_) ad tb ad s0 ⟨gG,NP⟩ T7 _ _ ⟨?_,Nat.le_refl _,fun id aC=> ?_⟩ _ _ ?_
 ·have hj:J (step s x)=none:=by simpa[A5]using h2
  exact⟨bA x hx s h1.1 h1.2 hj,hj⟩
 ·intro o3 n3 hI K X hK
  have hle:=hI.le
  have JT:o3 nx=L .ready none:=by rw[hI.eq nx (by omega),GK s h1.2]
  refine v8 hL mix JT ad CY (by simp[hl]) ?_
  refine mA L hL uW x hx s h1.1 h1.2 o3 n3 ⟨hI.bU,ad,fun id aC=>by rw[hI.eq id (by omega),Hy _ _ aC]⟩ ad JT K X (fun e' o' n' st pd k1 k2 k3 k4=> ?_)
  have key:∀st' pd' b,(J (step s x)).isNone=b->H (step s x) nx=L st' pd'->K (.d (.bool b)) (aK o' nx (L st' pd')) n':=fun st' pd' b hb hh=>by
   subst hb
   refine hK _ _ k1 ⟨k2.bU.aK ad (uW _ _ _ ad),ad,fun id aC=> ?_⟩ (fun id g1 g2=> ?_)
   ·by_cases pz:id=nx
    ·subst pz;rw[ab];exact hh.symm
    ·rw[aj _ _ _ _ pz]
     show o' id=H (step s x) id
     exact TT
   ·exact TR
  cases hj:J (step s x)with
  |none=>exact sN hL k3 (key _ _ _ zU (GK _ hj))
  |some j=>
   cases j with
   |ret=>exact pV hL k3 (key _ _ _ zU (LW _ _ hj))
   |exit j=>exact nY hL k3 (key _ _ _ zU (LW _ _ hj))
 ·exact(hg.mono ad).aK ad (uW _ _ _ ad)
 ·by_cases pz:id=nx
  ·subst pz;rw[ab,GK _ NP]
  ·exact TQ
 ·intro o' n' k1 k2 k3
  have hle:=k2.le
  generalize hsf:(aA (A5 J step) s0 (iV t)).1=sf at*
  have kk:∀st pd,cW nx (G sf) (aK o' nx (L st pd)) n':=fun st pd=>⟨k2.bU.aK ad (uW _ _ _ ad),ad,fun id aC=>by rw[aj _ _ _ _ (by omega),k2.eq id (by omega),Hy _ _ aC]⟩
  cases hj:J sf with
  |none=>
   refine⟨.ready,none,by rw[k2.eq nx (by omega),GK _ hj],(fun h=>by cases h), ?_⟩
   have:=kB _ _ (kk .exhausted none)
   rwa [hj]at this
  |some j=>
   refine⟨.done,some j,by rw[k2.eq nx (by omega),LW _ _ hj],(fun h=>by cases h), ?_⟩
   have:=kB _ _ (kk .exhausted (some j))
   rwa [hj]at this
end Go.Proofs.YtonbelhklnmjnaaGreat
namespace Go.Proofs.YtonbelhklnmjnaaGreat
def IY(l:List (D×D)):List (Int×D):=l.map fun p=>((match p.1 with| .int _ n=>n|_=>0),p.2)
def Xm(l:List (D×D)):Bool:=l.all fun p=>match p.1 with| .int .i64 _=>true|_=>false
@[go_sem] theorem adx (m:List (Int×D)):IY (enc (D.int .i64) m)=m:=by
  unfold IY enc;rw[List.map_map];simp[Function.comp_def]
@[go_sem] theorem ady (m:List (Int×D)):Xm (enc (D.int .i64) m)=true:=by simp[Xm,enc]
@[go_sem] theorem adz:Xm []=true:=rfl
@[go_sem] theorem adA:IY []=[]:=rfl
theorem A6:∀ {l:List (D×D)},Xm l=true->enc (D.int .i64) (IY l)=l
 |[],_=>rfl
 |(k,x)::l,h=>by
  simp only[Xm,List.all_cons,Bool.and_eq_true]at h
  have ih:=A6 (l:=l) h.2
  obtain⟨n,h1⟩:∃n,k= .int .i64 n:=by
   have h1:=h.1
   split at h1
   ·exact⟨_,rfl⟩
   ·cases h1
  subst h1
  simp only[enc,IY,List.map_cons]at ih|-
  rw[ih]
def iJ(l:List Int):List (Int×D):=l.map fun n=>(n, .bool true)
@[go_sem] theorem acV:iJ []=[]:=rfl
def sR(l:List Int)(n:Int):List Int:=if l.contains n=true then l else l++[n]
theorem wC{l:List Int}{n k:Int}:k∈sR l n↔k∈l\/k=n:=by
 unfold sR
 split
 ·rename_i h
  have:n∈l:=by simpa using h
  constructor
  ·exact .inl
  ·rintro(h|rfl)<;>assumption
 ·simp
theorem wD{l:List Int}(n:Int)(h:l.Nodup):(sR l n).Nodup:=by
 unfold sR
 split
 ·exact h
 ·rename_i hn
  have hn:n∉l:=by simpa using hn
  rw[List.nodup_append]
  exact⟨h,au,fun a ha b hb=>by simp at hb;subst hb;intro e;subst e;exact hn ha⟩
theorem l4:∀ (l:List Int) (n:Int) (i:Nat),gh n (iJ l) i=(l.findIdx? (· ==n)).map fun j=>(i+j,D.bool true)
 |[],n,i=>rfl
 |x::l,n,i=>by
  have ih:=l4 l n (i+1)
  simp only[iJ,List.map_cons,gh,List.findIdx?_cons]at ih|-
  by_cases h:n=x
  ·subst h;simp
  ·have h2: ¬x=n:=fun e=>h e.symm
   simp only[beq_iff_eq,h,h2,if_false,ih,Option.map_map,Function.comp_def]
   congr 1;funext j;congr 1;omega
@[go_sem] theorem YW (l:List Int) (n:Int):xL n (.bool true) (iJ l)=iJ (sR l n):=by
  unfold xL sR
  rw[l4]
  cases h:l.findIdx? (· ==n)with
  |none=>
   have:l.contains n=false:=by
    rw[List.findIdx?_eq_none_iff]at h
    rw[Bool.eq_false_iff];intro hc
    have:=h n (by simpa using hc)
    simp at this
   simp only[Option.map_none,this,Bool.false_eq_true,if_false]
   simp[iJ]
  |some j=>
   rw[List.findIdx?_eq_some_iff_getElem]at h
   obtain⟨hj,he,_⟩:=h
   have e:l[j]=n:=by simpa using he
   have:l.contains n=true:=by rw[List.contains_iff_mem, <- e];exact List.getElem_mem hj
   simp only[Option.map_some,this,if_true,Nat.zero_add]
   apply List.ext_getElem?
   intro k
   rw[List.getElem?_set]
   split
   ·rename_i hk;subst hk;simp[iJ,hj,e]
   ·rfl
def Dq(l:List Int)(n:Int):List Int:=match l.findIdx? (· ==n)with|some j=>l.eraseIdx j|none=>l
theorem iK{α β:Type}(f:α->β):∀ (l:List α) (j:Nat),(l.map f).eraseIdx j=(l.eraseIdx j).map f
 |[],_=>rfl
 |_::_,0=>rfl
 |x::l,j+1=>by simp[iK f l j]
@[go_sem] theorem YX (l:List Int) (n:Int):acP n (iJ l)=iJ (Dq l n):=by
  unfold acP Dq
  rw[l4]
  cases h:l.findIdx? (· ==n)with
  |none=>simp
  |some j=>simp only[Option.map_some,Nat.zero_add];exact iK _ _ _
theorem zh{l:List Int}(n:Int)(h:l.Nodup):(Dq l n).Nodup/\∀k,k∈Dq l n↔k∈l/\k≠n:=by
 unfold Dq
 cases hf:l.findIdx? (· ==n)with
 |none=>
  rw[List.findIdx?_eq_none_iff]at hf
  refine⟨h,fun k=>⟨fun hk=>⟨hk,fun e=> ?_⟩,fun hk=>hk.1⟩⟩
  subst e
  have:=hf k hk
  simp at this
 |some j=>
  rw[List.findIdx?_eq_some_iff_getElem]at hf
  obtain⟨hj,he,_⟩:=hf
  have e:l[j]=n:=by simpa using he
  refine⟨h.sublist (List.eraseIdx_sublist _ _),fun k=> ?_⟩
  show k∈l.eraseIdx j↔_
  have vc:l=l.take j++l[j]::l.drop (j+1):=by rw[List.getElem_cons_drop,List.take_append_drop]
  rw[List.eraseIdx_eq_take_drop_succ]
  rw[vc,List.nodup_append,List.nodup_cons]at h
  obtain⟨h1,⟨h2,h3⟩,h4⟩:=h
  constructor
  ·intro hk
   rw[List.mem_append]at hk
   refine⟨?_,fun ek=> ?_⟩
   ·rcases hk with hk|hk
    ·exact List.mem_of_mem_take hk
    ·exact List.mem_of_mem_drop hk
   ·rcases hk with hk|hk
    ·exact h4 k hk l[j] (List.mem_cons_self ..) (by rw[ek,e])
    ·exact h2 (by rw[e, <- ek];exact hk)
  ·rintro⟨hk,iQ⟩
   rw[vc,List.mem_append,List.mem_cons]at hk
   rw[List.mem_append]
   rcases hk with hk|hk|hk
   ·exact .inl hk
   ·exact absurd (hk.trans e) iQ
   ·exact .inr hk
section
variable {P:Program}{o:Nat->ae}{t:TypeId}{id:Nat}{n:Int}{v:V}
def sS(P:Program)(kt:TypeId):Bool:=match cy P kt with|some .int=>true|_=>false
theorem zi{kt:TypeId}(h:sS P kt=true):cy P kt=some .int:=by
 unfold sS at h;split at h
 ·assumption
 ·cases h
@[go_sem] theorem YY {kt:TypeId} (h:cy P kt=some .int):sS P kt=true:=by unfold sS;rw[h]
def Xn(P:Program)(o:Nat->ae)(t:TypeId)(id:Nat)(n:Int)(v:V):Option gO:=
 match qy P t,eu o v,o id with
 |some (kt,_),some vd, .map FU FV l=>match sS P kt&&Xm l&&v.ids.all (· !=id)with
  |true=>some (.cA [],dy o v.ids++[(id, .map FU FV (enc (D.int .i64) (xL n vd (IY l))))],id::v.ids)
  |false=>rr P o t (.mp id) (.d (.int .i64 n)) v
 |_,_,_=>rr P o t (.mp id) (.d (.int .i64 n)) v
@[go_sem high] theorem Xo:gD P o t (.mp id) (.d (.int .i64 n)) v=Xn P o t id n v:=by
  unfold Xn
  split
  ·rename_i kt vt vd FU FV l h1 h2 h3
   split
   ·rename_i hc
    simp only[Bool.and_eq_true]at hc
    obtain⟨⟨c1,c2⟩,c3⟩:=hc
    have c4:=zi c1
    have c5:eu o (.d (.int .i64 n))=some (.int .i64 n):=rfl
    have hl:=A6 c2
    unfold gD
    simp only[h1,c5,h2,o9,h3]
    rw[if_pos ⟨rfl,GL c4 n,rfl,c3⟩]
    conv=>lhs;rw[<- hl]
    rw[Di c4]
    unfold xL
    cases gh n (IY l) 0 with
    |none=>simp[xM,enc]
    |some p=>simp[xM,GM,D.same,o8]
   ·exact yZ ..
  ·exact yZ ..
attribute [go_sem] Xn
def YZ(l:List (D×D)):Bool:=l.all fun p=>match p.2 with| .bool true=>true|_=>false
@[go_sem] theorem adB (l:List Int):YZ (enc (D.int .i64) (iJ l))=true:=by simp[YZ,enc,iJ]
@[go_sem] theorem adC:YZ []=true:=rfl
theorem GV:∀ {m:List (Int×D)},YZ (enc (D.int .i64) m)=true->iJ (m.map (·.1))=m
 |[],_=>rfl
 |(k,x)::m,h=>by
  simp only[YZ,enc,List.map_cons,List.all_cons,Bool.and_eq_true]at h
  have ih:=GV (m:=m) h.2
  have h1:x= .bool true:=by
   have h1:=h.1
   split at h1
   ·rfl
   ·cases h1
  simp only[iJ,List.map_cons]at ih|-
  rw[ih,h1]
def Mg(P:Program)(o:Nat->ae)(t:TypeId)(m:V)(n:Int)(ok:Bool):Option gO:=
 match qy P t with
 |some (kt,vt)=>match zeroV P vt with
  |some (.d (.bool false))=>match qz o m with
   |some (rd,l)=>match sS P kt&&Xm l&&YZ l with
    |true=>some (match ok with|true=> .cA [.d (.bool (((IY l).map (·.1)).contains n)), .d (.bool (((IY l).map (·.1)).contains n))]|false=> .d (.bool (((IY l).map (·.1)).contains n)),[],rd)
    |false=>wh P o t m (.d (.int .i64 n)) ok
   |none=>wh P o t m (.d (.int .i64 n)) ok
  |_=>wh P o t m (.d (.int .i64 n)) ok
 |none=>wh P o t m (.d (.int .i64 n)) ok
@[go_sem] theorem Mh (l:List Int):((iJ l).map (·.1))=l:=by simp[iJ,Function.comp_def]
@[go_sem high] theorem acW {m:V} {ok:Bool}:jr P o t m (.d (.int .i64 n)) ok=Mg P o t m n ok:=by
  unfold Mg
  split
  ·rename_i kt vt h1
   split
   ·rename_i hz
    split
    ·rename_i rd l h
     split
     ·rename_i hc
      simp only[Bool.and_eq_true]at hc
      have c4:=zi hc.1.1
      have hl:=A6 hc.1.2
      have hs:iJ ((IY l).map (·.1))=IY l:=GV (by rw[hl];exact hc.2)
      have c5:eu o (.d (.int .i64 n))=some (.int .i64 n):=rfl
      unfold jr
      simp only[h1,c5,h]
      rw[if_pos ⟨rfl,GL c4 n⟩]
      conv=>lhs;rw[<- hl]
      rw[Di c4, <- hs,l4,Mh]
      generalize (IY l).map (·.1)=l'
      cases hf:l'.findIdx? (· ==n)with
      |none=>
       have:l'.contains n=false:=by
        rw[List.findIdx?_eq_none_iff]at hf
        rw[Bool.eq_false_iff];intro hc
        have:=hf n (by simpa using hc)
        simp at this
       cases ok<;>simp only[Option.map_none,xM,hz,this,if_true,Bool.false_eq_true,if_false]
      |some j=>
       rw[List.findIdx?_eq_some_iff_getElem]at hf
       obtain⟨hj,he,_⟩:=hf
       have e:l'[j]=n:=by simpa using he
       have:l'.contains n=true:=by rw[List.contains_iff_mem, <- e];exact List.getElem_mem hj
       cases ok<;>simp only[Option.map_some,xM,this,if_true,Bool.false_eq_true,if_false]
     ·exact oH ..
    ·exact oH ..
   ·exact oH ..
  ·exact oH ..
attribute [go_sem] Mg
end
theorem zj{K:V->List (Nat×ae)->Prop}{id:Nat}{l:List Int}(h0:l=[]->K (.cA [.d (.bool false)]) [])
 (h1:∀ (i:Nat) n,l[i]? =some n->K (.cA [.d (.bool true), .d (.int .i64 n), .d (.bool true)]) [(id, .nq (enc (D.int .i64) (iJ (l.eraseIdx i))) (some (.int .i64 n, .bool true)))]):CN K id (enc (D.int .i64) (iJ l)):=by
 refine yX _ (fun h=>h0 ?_) fun i k x h=> ?_
 ·cases l with
  |nil=>rfl
  |cons x l=>simp[iJ]at h
 ·unfold iJ at h|-
  rw[List.getElem?_map]at h
  cases hl:l[i]? with
  |none=>rw[hl]at h;cases h
  |some n=>
   rw[hl]at h
   simp at h
   obtain⟨rfl,rfl⟩:=h
   have:=h1 i n hl
   rw[iK]
   exact this
theorem wE{l:List Int}{i:Nat}{n:Int}(h:l[i]? =some n):(∀v,v∈l↔v=n\/v∈l.eraseIdx i)/\(l.eraseIdx i).length+1=l.length:=by
 obtain⟨hi,e⟩:=List.getElem?_eq_some_iff.1 h
 refine⟨fun v=> ?_,by rw[List.length_eraseIdx];simp[hi];omega⟩
 have vc:l=l.take i++n::l.drop (i+1):=by rw[<- e,List.getElem_cons_drop,List.take_append_drop]
 rw[List.eraseIdx_eq_take_drop_succ]
 conv=>lhs;rw[vc]
 simp only[List.mem_append,List.mem_cons]
 constructor
 ·rintro(h|h|h)
  ·exact .inr (.inl h)
  ·exact .inl h
  ·exact .inr (.inr h)
 ·rintro(h|h|h)
  ·exact .inr (.inl h)
  ·exact .inl h
  ·exact .inr (.inr h)
attribute [go_sem] List.head?_cons
end Go.Proofs.YtonbelhklnmjnaaGreat
namespace Go.Proofs.YtonbelhklnmjnaaGreat
theorem Mi(a b:List Tm)(ha:a.length<=9223372036854775807)(hb:b.length<=9223372036854775807)(g:Nat)(h:∀x∈a,∀y∈b,aR Tryz.prog g [x.d,y.d] (.ret [.bool (aI x y)]))(o:Nat->ae)(nx:Nat)(hg:Good o nx)(K X:V->(Nat->ae)->Nat->Prop)
 (hK:∀o' nx',nx<=nx'->Good o' nx'->(∀j,j<nx->o' j=o j)->K (.d (.bool (a.length==b.length&&gS a b))) o' nx'):
 cU Tryz.prog 114 [.d (.sl (a.map Tm.d)), .d (.sl (b.map Tm.d)), .func (.func g) [] []] o nx K X:=by
 refine cU.ay mix LL au ?_
 rw[Pv]
 refine iP ?_
 refine aq (fun h1=> ?_) (fun h1=> ?_)
 ·refine aG ?_
  have:(a.length==b.length&&gS a b)=false:=by
   have:(a.length==b.length)=false:=by
    rw[Bool.eq_false_iff];intro h
    simp at h;simp[h]at h1
   rw[this];rfl
  rw[this]at hK
  exact hK _ _ ad (hg.mono ad) (fun _ _=>rfl)
 ·have hl:a.length=b.length:=by simp at h1;omega
  have jy:(a.length==b.length)=true:=by simpa using hl
  rw[jy,Bool.true_and]at hK
  refine iP ?_
  refine aE (fun k:Nat=>⟨bz [.d (.sl (a.map Tm.d)), .d (.sl (b.map Tm.d)), .func (.func g) [] [], .aa, .aa, .aa, .aa, .aa, .aa, .aa, .aa, .aa, .aa, .aa, .aa, .d (.sl (a.map Tm.d)), .d (.i a.length), .d (.i k)],o,nx⟩)
   (fun k=>k<=a.length/\∀i,i<k->∀x y,a[i]? =some x->b[i]? =some y->aI x y=true) (fun k=>a.length - k) 0 ⟨Nat.zero_le _,fun i h=>ad⟩ (bE.bS _ (Nat.le_refl _) ad hg (fun _ _=>rfl) ?_) (fun k hk=> ?_)
  ·exact cz
  refine aG ?_
  refine aq (fun h2=> ?_) (fun h2=> ?_)
  ·simp at h2
   obtain⟨x,hx⟩:=aw h2
   obtain⟨y,hy⟩:=aw (l:=b) (k:=k) ad
   refine TA hx hy ?_
   refine ag (h x (List.mem_of_getElem? hx) y (List.mem_of_getElem? hy)) rfl ?_
   refine aG ?_
   refine aq (fun h3=> ?_) (fun h3=> ?_)
   ·refine aG ?_
    simp at h3
    have:gS a b=false:=by
     rw[Bool.eq_false_iff];intro h4
     have:=(jk _ _ hl).1 h4 k x y hx hy
     rw[h3]at this;cases this
    rw[this]at hK
    refine hK _ _ ad ?_ (fun j hj=>by(repeat(first|rfl|rw[ab]|rw[aj _ _ _ _ (by omega)])))
    exact dp
   ·refine aG ?_
    simp at h3
    refine ax (k+1) ⟨h2,fun i hi u v hu hv=> ?_⟩ ad (bE.bS _ (Nat.le_refl _) ad hg (fun j hj=>by(repeat(first|rfl|rw[ab]|rw[aj _ _ _ _ (by omega)]))) ?_)
    ·by_cases e:i=k
     ·subst e
      rw[hx]at hu;rw[hy]at hv
      injection hu with hu;injection hv with hv;subst hu;subst hv;exact h3
     ·exact hk.2 i ad u v hu hv
    ·exact cz
  ·refine aG ?_
   simp at h2
   have:gS a b=true:=(jk _ _ hl).2 fun i x y hx hy=>hk.2 i (by have:=(List.getElem?_eq_some_iff.1 hx).1;omega) x y hx hy
   rw[this]at hK
   exact hK _ _ ad (hg.mono ad) (fun _ _=>rfl)
theorem Xp(n:Int):aR Tryz.prog 81 [.i n] (.ret [(Tm.mk 1 n []).d]):=by
 refine aR.ay mix aaI au ?_
 rw[c81]
 refine aG ?_
 rw[Tm.lH]
 rfl
def lk:List (Int×Int)->Int->Option Int
 |[],_=>none
 |p::m,v=>if p.1=v then some p.2 else lk m v
abbrev um(m:List (Int×Int)):Prop:=(m.map (·.1)).Nodup
theorem GW{m:List (Int×Int)}{v k:Int}(hk:um m):lk m v=some k↔(v,k)∈m:=by
 induction m with
 |nil=>simp[lk]
 |cons p m ih=>
  rw[um,List.map_cons,List.nodup_cons]at hk
  simp only[lk,List.mem_cons]
  by_cases h:p.1=v
  ·rw[if_pos h]
   constructor
   ·intro e;injection e with e;exact .inl (by rw[<- h, <- e])
   ·rintro(e|e)
    ·rw[<- e]
    ·exact absurd (h ▸ List.mem_map.2 ⟨_,e,rfl⟩) hk.1
  ·rw[if_neg h,ih hk.2]
   constructor
   ·exact .inr
   ·rintro(e|e)
    ·exact absurd (by rw[<- e]) h
    ·exact e
def ints(m:List (Int×Int)):List (Int×D):=m.map fun p=>(p.1,D.i p.2)
theorem sT:∀ (m:List (Int×Int)) (v:Int) (i:Nat),(match gh v (ints m) i with|some (_,x)=>some x|none=>none)=(lk m v).map D.i
 |[],v,i=>rfl
 |p::m,v,i=>by
  have ih:=sT m v (i+1)
  simp only[ints,List.map_cons,gh,lk]at ih|-
  by_cases h:v=p.1
  ·subst h;simp
  ·have h2: ¬p.1=v:=fun e=>h e.symm
   simp only[beq_iff_eq,h,h2,if_false]
   exact ih
theorem mI{m:List (Int×Int)}{v k:Int}(h:lk m v=some k):∃j,gh v (ints m) 0=some (j,D.i k):=by
 have:=sT m v 0
 rw[h]at this
 cases ha:gh v (ints m) 0 with
 |none=>rw[ha]at this;cases this
 |some p=>obtain⟨j,x⟩:=p;rw[ha]at this;simp at this;exact⟨j,by rw[this]⟩
theorem mJ{m:List (Int×Int)}{v:Int}(h:lk m v=none):gh v (ints m) 0=none:=by
 have:=sT m v 0
 rw[h]at this
 cases ha:gh v (ints m) 0 with
 |none=>rfl
 |some p=>obtain⟨j,x⟩:=p;rw[ha]at this;cases this
def ir(m:List (Int×Int))(v:Int):Int:=(lk m v).getD 0
def lI:List (Int×Int)->Int->Int->List (Int×Int)
 |[],v,w=>[(v,w)]
 |p::m,v,w=>if p.1=v then(v,w)::m else p::lI m v w
theorem Dr(v:Int):∀ (m:List (Int×D)) (i:Nat),gh v m (i+1)=(gh v m i).map fun p=>(p.1+1,p.2)
 |[],_=>rfl
 |p::m,i=>by
  have ih:=Dr v m (i+1)
  simp only[gh]
  by_cases h:(v==p.1)=true
  ·simp[h]
  ·simp only[h,if_false];exact ih
theorem IZ{v:Int}{p:Int×D}{m:List (Int×D)}{x:D}(h: ¬v=p.1):xL v x (p::m)=p::xL v x m:=by
 have hb: ¬ ((v==p.1)=true):=by simpa using h
 unfold xL
 simp only[gh,hb,if_false]
 rw[Dr]
 cases gh v m 0 with
 |none=>rfl
 |some q=>obtain⟨i,y⟩:=q;rfl
theorem l5:∀ (m:List (Int×Int)) (v w:Int),xL v (D.i w) (ints m)=ints (lI m v w)
 |[],v,w=>by simp[xL,gh,ints,lI]
 |p::m,v,w=>by
  have ih:=l5 m v w
  by_cases h:p.1=v
  ·subst h
   simp[xL,gh,ints,lI]
  ·have h': ¬v=p.1:=fun e=>h e.symm
   have e2:ints (p::m)=(p.1,D.i p.2)::ints m:=rfl
   rw[e2,IZ h',ih]
   simp[lI,h,ints]
def uo(m:List (Int×Int))(v:Int):List (Int×Int):=lI m v (IntKind.i64.wrap (ir m v+1))
@[reducible] def rz (m:List (Int×Int)):ae:= .map 3 3 (enc (D.int .i64) (ints m))
def eo(op:Int)(m:List (Int×Int))(x:Tm):List (Int×Int):=if x.op=op then uo m x.n else m
def acX(R:List (Int×Int)->Prop)(o:Nat->ae)(nx:Nat)(K:V->(Nat->ae)->Nat->Prop):Prop:=
 ∀o' nx' id m,nx<=id->id<nx'->Good o' nx'->(∀j,j<nx->o' j=o j)->o' id=rz m->R m->K (.mp id) o' nx'
theorem Xq(t:Tm)(ht:t.fits)(o:Nat->ae)(nx:Nat)(hg:Good o nx)(K X:V->(Nat->ae)->Nat->Prop)
 (hK:acX (fun m=>m=(iV t).foldl (eo 8) []) o nx K):cU Tryz.prog 190 [.d t.d] o nx K X:=by
 refine cU.ay mix SD au ?_
 rw[Wx]
 refine iP ?_
 refine c6 (zg t _ _ _ _ ?_)
 refine iP ?_
 have hG:∀j,j<nx+10->aK (aK (aK (aK (aK o nx (.row [.d (.i t.op), .d (.i t.n), .d (.sl (t.kids.map Tm.d))])) (nx+2) (.map 3 3 [])) (nx+3) (.row [.d .jt])) (nx+3) (.row [.mp (nx+2)])) (nx+6) (.row t.row) j=aK (aK (aK (aK o nx (.row t.row)) (nx+3) (.row [.mp (nx+2)])) (nx+6) (.row t.row)) (nx+2) (rz []) j:=by
  intro j _
  exact rY
 refine ry (σ:=List (Int×Int)) t ht [.aa, .ptr nx 0, .aa, .ptr (nx+3) 0] ?_ aT rfl dp mc (ab _ _ _)
  (fun s=>aK (aK (aK (aK o nx (.row t.row)) (nx+3) (.row [.mp (nx+2)])) (nx+6) (.row t.row)) (nx+2) (rz s)) (fun _=>none) (eo 8) (fun _=>True) [] trivial rfl hG (fun _ _ _ _ _ _=>trivial) ?_ ?_
 ·exact Hu
 ·intro L hL uW x hx s' _ _ o3 n3 hI hn JT K' X' cO
  simp only[m8]
  have hg:=hI.bU
  have hle:=hI.le
  have q1:o3 (nx+3)= .row [.mp (nx+2)]:=by rw[hI.eq (nx+3) (by omega)];(repeat(first|rfl|rw[ab]|rw[aj _ _ _ _ (by omega)]))
  have q2:o3 (nx+2)=rz s':=by rw[hI.eq (nx+2) (by omega)];(repeat(first|rfl|rw[ab]|rw[aj _ _ _ _ (by omega)]))
  refine aG ?_
  refine l0 hL (pd:=none) ?_ ?_
  ·(repeat(first|rfl|rw[ab]|rw[aj _ _ _ _ (by omega)]))
   exact JT
  refine s9 q1 q2 ?_
  have z1:nx≠n3:=ad
  have z2:∀k,nx≠n3+k:=fun k=>ad
  have z3:nx+2≠n3:=ad
  have z4:nx+3≠n3:=ad
  have same:∀ (o':Nat->ae) (n':Nat) (l:List (Int×Int)),Good o' n'->n3<=n'->(∀j,j<nx+10->o' j=aK o3 (nx+2) (rz l) j)->cW (nx+10) (aK (aK (aK (aK o nx (.row t.row)) (nx+3) (.row [.mp (nx+2)])) (nx+6) (.row t.row)) (nx+2) (rz l)) o' n':=fun o' n' l k1 k2 k3=>⟨k1,ad,fun j hj=>by
   rw[k3 j hj]
   by_cases e:j=nx+2
   ·subst e;rw[ab,ab]
   ·rw[aj _ _ _ _ e,aj _ _ _ _ e,hI.eq j hj,aj _ _ _ _ e]⟩
  refine aq (fun h3=> ?_) (fun h3=> ?_)
  ·have sx:x.op=8:=by simpa using h3
   have hp:eo 8 s' x=uo s' x.n:=by unfold eo;rw[if_pos sx]
   rw[hp]at cO
   cases PS:lk s' x.n with
   |none=>
    have hc:uo s' x.n=lI s' x.n (0+1):=by unfold uo ir;rw[PS];rfl
    rw[hc]at cO
    simp+contextual (disch:=first|omega|simp only[go_sem,false_implies]) only[go_sem,wrap64,if_pos,q1,q2,z1,z2,z3,z4,mJ PS,l5,Nat.add_assoc,Nat.left_eq_add,Nat.add_eq_left,Nat.add_left_cancel_iff]
    refine cO _ _ _ .busy none ad (same _ _ _ dp ad fun j hj=> ?_) cY (fun j h3 h4=>by(repeat(first|rfl|rw[ab]|rw[aj _ _ _ _ (by omega)])))
    by_cases e:j=nx+2
    ·subst e;(repeat(first|rfl|rw[ab]|rw[aj _ _ _ _ (by omega)]))
    ·exact cY
   |some c=>
    obtain⟨k,hk⟩:=mI PS
    have hc:uo s' x.n=lI s' x.n (IntKind.i64.wrap (c+1)):=by unfold uo ir;rw[PS];rfl
    rw[hc]at cO
    simp+contextual (disch:=first|omega|simp only[go_sem,false_implies]) only[go_sem,wrap64,if_pos,q1,q2,z1,z2,z3,z4,hk,l5,Nat.add_assoc,Nat.left_eq_add,Nat.add_eq_left,Nat.add_left_cancel_iff]
    refine cO _ _ _ .busy none ad (same _ _ _ dp ad fun j hj=> ?_) cY (fun j h3 h4=>by(repeat(first|rfl|rw[ab]|rw[aj _ _ _ _ (by omega)])))
    by_cases e:j=nx+2
    ·subst e;(repeat(first|rfl|rw[ab]|rw[aj _ _ _ _ (by omega)]))
    ·exact cY
  ·have hp:eo 8 s' x=s':=by unfold eo;rw[if_neg (by simpa using h3)]
   rw[hp]at cO
   refine aG ?_
   refine cO _ _ _ .busy none ad (same _ _ _ dp ad fun j hj=> ?_) cY (fun j h3 h4=>by(repeat(first|rfl|rw[ab]|rw[aj _ _ _ _ (by omega)])))
   by_cases e:j=nx+2
   ·subst e;(repeat(first|rfl|rw[ab]|rw[aj _ _ _ _ (by omega)]))
    exact q2
   ·exact cY
 ·intro o' n' hI
  have hle:=hI.le
  simp only[oW]
  have q1:o' (nx+3)= .row [.mp (nx+2)]:=by rw[hI.eq (nx+3) (by omega)];(repeat(first|rfl|rw[ab]|rw[aj _ _ _ _ (by omega)]))
  refine cg q1 ?_
  have BA:∀ (l:List Tm) (m:List (Int×Int)),(aA (A5 (fun _=>none) (eo 8)) m l).1=l.foldl (eo 8) m:=by
   intro l
   induction l with
   |nil=>intro m;rfl
   |cons y l ih=>intro m;simp only[aA,A5,Option.isNone_none,if_true];exact ih _
  rw[BA]at hI
  refine hK _ _ _ _ ad ad (hI.bU.mono ad) (fun j hj=> ?_) (by rw[hI.eq (nx+2) (by omega),ab]) rfl
  rw[hI.eq j (by omega)];(repeat(first|rfl|rw[ab]|rw[aj _ _ _ _ (by omega)]))
end Go.Proofs.YtonbelhklnmjnaaGreat
