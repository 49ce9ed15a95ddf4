/-
  A PART OF THE PROOF. Conditions: none.
-/
import Derived.Test.YtonbelhklnmjnaaGreatLl15
set_option linter.unusedSimpArgs false
set_option linter.unusedVariables false
namespace Go.Proofs.YtonbelhklnmjnaaGreat
def mq(s:aV)(t:Tm):Bool:=
 let k:Int:=t.kids.length
 if t.op=16 then t.n==0&&k==0
 else if t.op=1 then cF t.n 0 199&&k==0
 else if t.op=2 then cF t.n (-1000000) 1000000&&k==0
 else if t.op=3 then cF t.n 0 (s.cons.length - 1)&&k==cX s.cons t.n
 else if t.op=5 then cF t.n 0 (s.bR.length - 1)&&decide (k<cX s.bR t.n)
 else false
mutual
def wJ(s:aV):Tm->Bool
 | .mk op n kids=>Ia s kids&&mq s (.mk op n kids)
def Ia(s:aV):List Tm->Bool
 |[]=>true
 |k::l=>wJ s k&&Ia s l
end
theorem zQ(s:aV):∀l:List Tm,Ia s l=l.all (wJ s)
 |[]=>rfl
 |k::l=>by rw[Ia,zQ s l];rfl
theorem u3(s:aV)(t:Tm):wJ s t=(t.kids.all (wJ s)&&mq s t):=by cases t;rw[wJ,zQ];rfl
def mu(s:aV)(t:Tm):Bool:=decide (0<=eM t 80 30)&&wJ s t
def Pn(s:aV)(t:Tm):Prop:=wJ s t=true
theorem qq{s:aV}{t:Tm}:Pn s t↔mq s t=true/\∀k∈t.kids,Pn s k:=by
 unfold Pn;rw[u3,Bool.and_eq_true,List.all_eq_true];exact and_comm
theorem Pn.gE {s:aV}{t k:Tm}(h:Pn s t)(hk:k∈t.kids):Pn s k:=(qq.1 h).2 k hk
theorem RZ{s:aV}{t:Tm}(h:mq s t=true)(h1:t.op=16\/t.op=1\/t.op=2):t.kids=[]/\(t.op=16->t.n=0):=by
 unfold mq at h
 rcases h1 with h1|h1|h1
 ·simp[h1]at h;exact⟨h.2,fun _=>h.1⟩
 ·simp[h1]at h;exact⟨h.2,fun e=>af⟩
 ·simp[h1]at h;exact⟨h.2,fun e=>af⟩
theorem Pn.bare {s:aV}{t:Tm}(h:Pn s t)(h1:t.op=16\/t.op=1\/t.op=2):t.kids=[]:=(RZ (qq.1 h).1 h1).1
mutual
def xI(s:aV):Tm->Int->Int->Bool×Int
 | .mk op n kids,left,d=>if left - 1<0\/d<=0\/mq s (.mk op n kids)=false then(false,left - 1)else tc s kids (left - 1) (d - 1)
def tc(s:aV):List Tm->Int->Int->Bool×Int
 |[],left,_=>(true,left)
 |k::l,left,d=>if(xI s k left d).1=true then tc s l (xI s k left d).2 d else(false,(xI s k left d).2)
end
theorem Oh(s:aV)(t:Tm)(left d:Int):xI s t left d=if left - 1<0\/d<=0\/mq s t=false then(false,left - 1)else tc s t.kids (left - 1) (d - 1):=by cases t;rw[xI];rfl
theorem Oi(s:aV):∀ (t:Tm) (left d:Int),(xI s t left d).1=(decide ((t.sz:Int)<=left/\(t.fR:Int)<=d)&&wJ s t)/\((xI s t left d).1=true->(xI s t left d).2=left - t.sz):=by
 refine Tm.cc fun t ih left d=> ?_
 have key:∀ (ks:List Tm) (left d:Int),(∀k∈ks,k∈t.kids)->0<=left->0<=d->(tc s ks left d).1=(decide ((fG ks:Int)<=left/\(Tm.dN ks:Int)<=d)&&ks.all (wJ s))/\((tc s ks left d).1=true->(tc s ks left d).2=left - fG ks):=by
  intro ks
  induction ks with
  |nil=>intro left d _ h0 hd;simp[tc,fG,Tm.dN];omega
  |cons k ks ihk=>
   intro left d B8 h0 hd
   obtain⟨e1,e2⟩:=ih k (B8 k ao) left d
   have hp:=Tm.wG k
   rw[eE,o6]
   simp only[tc]
   by_cases h1:(xI s k left d).1=true
   ·rw[if_pos h1]
    have e3:=e2 h1
    rw[e1,Bool.and_eq_true,decide_eq_true_eq]at h1
    obtain⟨i1,i2⟩:=ihk (xI s k left d).2 d (fun x hx=>B8 x lW) af hd
    rw[e3]at i1 i2|-
    refine⟨?_,fun h=>by have:=i2 h;omega⟩
    rw[i1,Bool.eq_iff_iff]
    simp only[List.all_cons,Bool.and_eq_true,decide_eq_true_eq,h1.2,true_and]
    have:Nat.max k.fR (Tm.dN ks)=max k.fR (Tm.dN ks):=rfl
    rw[this]
    constructor
    ·rintro⟨h2,h3⟩;exact⟨af,h3⟩
    ·rintro⟨h2,h3⟩;exact⟨af,h3⟩
   ·rw[if_neg h1]
    refine⟨?_,fun h=>by cases h⟩
    rw[e1]at h1
    show false=_
    symm
    rw[Bool.eq_false_iff]
    intro h2
    apply h1
    simp only[List.all_cons,Bool.and_eq_true,decide_eq_true_eq]at h2|-
    have:Nat.max k.fR (Tm.dN ks)=max k.fR (Tm.dN ks):=rfl
    rw[this]at h2
    exact⟨af,h2.2.1⟩
 have hs:=Tm.gw t
 have hh:=Tm.oC t
 rw[Oh]
 by_cases h1:left - 1<0\/d<=0\/mq s t=false
 ·rw[if_pos h1]
  refine⟨?_,fun h=>by cases h⟩
  show false=_
  symm
  rw[Bool.eq_false_iff]
  intro h2
  simp only[Bool.and_eq_true,decide_eq_true_eq,u3]at h2
  rcases h1 with h1|h1|h1
  ·omega
  ·omega
  ·rw[h1]at h2;exact absurd h2.2.2 ao
 ·rw[if_neg h1]
  have h2:mq s t=true:=by cases h:mq s t<;>simp_all
  obtain⟨i1,i2⟩:=key t.kids (left - 1) (d - 1) (fun _ h=>h) af af
  refine⟨?_,fun h=>by have:=i2 h;omega⟩
  rw[i1,u3,h2,Bool.and_true,Bool.eq_iff_iff]
  simp only[Bool.and_eq_true,decide_eq_true_eq]
  constructor
  ·rintro⟨h3,h4⟩;exact⟨af,h4⟩
  ·rintro⟨h3,h4⟩;exact⟨af,h4⟩
theorem agN(s:aV)(t:Tm):(xI s t 80 30).1=mu s t:=by
 rw[(Oi s t 80 30).1,mu]
 congr 1
 rw[Bool.eq_iff_iff,decide_eq_true_eq,decide_eq_true_eq,dD]
mutual
def Gg:Tm->Int
 | .mk op _ kids=>if op=16 then 0 else if op=1 then 1 else uF kids 2
def uF:List Tm->Int->Int
 |[],out=>out
 |k::l,out=>uF l (min out (Gg k))
end
theorem Oj(t:Tm):Gg t=if t.op=16 then 0 else if t.op=1 then 1 else uF t.kids 2:=by cases t;rw[Gg];rfl
mutual
def bS(op:Int):Tm->Bool
 | .mk o _ kids=>BD op kids&&o !=op
def BD(op:Int):List Tm->Bool
 |[]=>true
 |k::l=>bS op k&&BD op l
end
theorem wK(op:Int):∀l:List Tm,BD op l=l.all (bS op)
 |[]=>rfl
 |k::l=>by rw[BD,wK op l];rfl
theorem kZ(op:Int)(t:Tm):bS op t=(t.kids.all (bS op)&&t.op !=op):=by cases t;rw[bS,wK];rfl
theorem Gh{s:aV}:∀t:Tm,Pn s t->(0<=Gg t/\Gg t<=2)/\(1<=Gg t↔bS 16 t=true)/\(Gg t=2↔bS 16 t=true/\bS 1 t=true):=by
 refine Tm.cc fun t ih hp=> ?_
 have key:∀ (ks:List Tm) (out:Int),(∀k∈ks,k∈t.kids)->0<=out->out<=2->(0<=uF ks out/\uF ks out<=2)/\(1<=uF ks out↔1<=out/\ks.all (bS 16)=true)/\(uF ks out=2↔out=2/\ks.all (bS 16)=true/\ks.all (bS 1)=true):=by
  intro ks
  induction ks with
  |nil=>intro out _ h0 h2;simp[uF,h0,h2]
  |cons k ks ihk=>
   intro out B8 h0 h2
   obtain⟨⟨a1,a2⟩,a3,a4⟩:=ih k (B8 k ao) (hp.gE (B8 k ao))
   obtain⟨b1,b2,b3⟩:=ihk (min out (Gg k)) (fun x hx=>B8 x lW) af af
   simp only[uF,List.all_cons,Bool.and_eq_true]
   refine⟨b1, ?_, ?_⟩
   ·rw[b2, <- a3]
    constructor
    ·rintro⟨h1,h3⟩;exact⟨af,af,h3⟩
    ·rintro⟨h1,h3,h4⟩;exact⟨af,h4⟩
   ·rw[b3]
    constructor
    ·rintro⟨h1,h3,h4⟩
     have h5:=a4.1 af
     exact⟨af,⟨h5.1,h3⟩,h5.2,h4⟩
    ·rintro⟨h1,⟨h3,h4⟩,h5,h6⟩
     have h7:=a4.2 ⟨h3,h5⟩
     exact⟨af,h4,h6⟩
 rw[Oj]
 by_cases h1:t.op=16
 ·rw[if_pos h1]
  have e:bS 16 t=false:=by rw[kZ,h1];simp
  rw[e]
  refine⟨af,⟨fun h=>af,fun h=>by cases h⟩,⟨fun h=>af,fun h=>by cases h.1⟩⟩
 ·rw[if_neg h1]
  by_cases h2:t.op=1
  ·rw[if_pos h2]
   have e0:=hp.bare (.inr (.inl h2))
   have e:bS 16 t=true:=by rw[kZ,e0,h2];rfl
   have e2:bS 1 t=false:=by rw[kZ,h2];simp
   rw[e,e2]
   exact⟨af,⟨fun _=>rfl,fun _=>af⟩,⟨fun h=>af,fun h=>by cases h.2⟩⟩
  ·rw[if_neg h2]
   obtain⟨k1,k2,k3⟩:=key t.kids 2 (fun _ h=>h) af af
   refine⟨k1, ?_, ?_⟩
   ·rw[k2,kZ];simp[h1]
   ·rw[k3,kZ,kZ 1];simp[h1,h2]
mutual
def pA:Tm->Tm->Bool
 | .mk op n kids,b=>if op=16 then true else if op≠b.op\/n≠b.n\/kids.length≠b.kids.length then false else iD kids b.kids
def iD:List Tm->List Tm->Bool
 |[],_=>true
 |_::_,[]=>true
 |k::l,k'::l'=>pA k k'&&iD l l'
end
theorem BE(a b:Tm):pA a b=if a.op=16 then true else if a.op≠b.op\/a.n≠b.n\/a.kids.length≠b.kids.length then false else iD a.kids b.kids:=by cases a;rw[pA];rfl
theorem u4{a b:Tm}:pA a b=true↔a.op=16\/(a.op=b.op/\a.n=b.n/\a.kids.length=b.kids.length/\iD a.kids b.kids=true):=by
 rw[BE]
 by_cases h1:a.op=16
 ·simp[h1]
 ·rw[if_neg h1]
  by_cases h2:a.op≠b.op\/a.n≠b.n\/a.kids.length≠b.kids.length
  ·rw[if_pos h2]
   constructor
   ·intro h;cases h
   ·rintro(h|⟨h3,h4,h5,_⟩)
    ·exact absurd h h1
    ·rcases h2 with h|h|h<;>contradiction
  ·rw[if_neg h2]
   constructor
   ·intro h
    exact .inr ⟨Classical.byContradiction fun e=>h2 (.inl e),Classical.byContradiction fun e=>h2 (.inr (.inl e)),Classical.byContradiction fun e=>h2 (.inr (.inr e)),h⟩
   ·rintro(h|h)
    ·exact absurd h h1
    ·exact h.2.2.2
theorem BF:∀a:Tm,pA a a=true:=by
 refine Tm.cc fun a ih=> ?_
 have:∀l:List Tm,(∀k∈l,k∈a.kids)->iD l l=true:=by
  intro l
  induction l with
  |nil=>intro _;rfl
  |cons k l nh=>intro h;rw[iD,ih k (h k (by simp)),nh (fun x hx=>h x (by simp[hx]))];rfl
 rw[u4]
 exact .inr ⟨rfl,rfl,rfl,this _ fun _ h=>h⟩
theorem Ol:∀a b c:Tm,pA a b=true->pA b c=true->pA a c=true:=by
 refine Tm.cc fun a ih b c h1 h2=> ?_
 rw[u4]at h1 h2|-
 rcases h1 with h1|⟨e1,e2,e3,e4⟩
 ·exact .inl h1
 by_cases h0:a.op=16
 ·exact .inl h0
 rcases h2 with h2|⟨f1,f2,f3,f4⟩
 ·exact absurd (e1.trans h2) h0
 ·refine .inr ⟨e1.trans f1,e2.trans f2,e3.trans f3, ?_⟩
  have:∀l m n:List Tm,(∀k∈l,k∈a.kids)->l.length=m.length->m.length=n.length->iD l m=true->iD m n=true->iD l n=true:=by
   intro l
   induction l with
   |nil=>intro m n _ _ _ _ _;rfl
   |cons k l nh=>
    intro m n h l1 l2 g1 g2
    cases m with
    |nil=>cases l1
    |cons k' m=>
     cases n with
     |nil=>cases l2
     |cons k'' n=>
      rw[iD,Bool.and_eq_true]at g1 g2|-
      exact⟨ih k (h k ao) k' k'' g1.1 g2.1,nh m n (fun x hx=>h x lW) (by simpa using l1) (by simpa using l2) g1.2 g2.2⟩
  exact this _ _ _ (fun _ h=>h) e3 f3 e4 f4
theorem yI(n low high:Int):aQ Tryz.prog 71 [.i n, .i low, .i high] (.ret [.bool (cF n low high)]):=by
 refine aQ.ay mix aiU ao ?_
 rw[c71]
 refine b8 ?_
 rfl
theorem R0(s:aV)(t:Tm)(hs:s.Fits)(ht:t.kids.length<=9223372036854775807):aQ Tryz.prog 115 [s.d,t.d] (.ret [.bool (mq s t)]):=by
 refine aQ.ay mix afe ao ?_
 rw[afd]
 refine b8 ?_
 rcases(by omega:t.op=16\/t.op=1\/t.op=2\/t.op=3\/t.op=5\/(t.op≠16/\t.op≠1/\t.op≠2/\t.op≠3/\t.op≠5))with h|h|h|h|h|h
 ·have hn:mq s t=(t.n==0&&(t.kids.length:Int)==0):=by unfold mq;rw[if_pos h]
  exact G7
 ·have hn:mq s t=(cF t.n 0 199&&(t.kids.length:Int)==0):=by unfold mq;rw[if_neg (by omega),if_pos h]
  exact Ug
 ·have hn:mq s t=(cF t.n (-1000000) 1000000&&(t.kids.length:Int)==0):=by unfold mq;rw[if_neg (by omega),if_neg (by omega),if_pos h]
  exact Ug
 ·have hn:mq s t=(cF t.n 0 (s.cons.length - 1)&&(t.kids.length:Int)==cX s.cons t.n):=by unfold mq;rw[if_neg (by omega),if_neg (by omega),if_neg (by omega),if_pos h]
  refine iC h ?_
  rw[wrap64 (by have:=hs.lc;omega) (by have:=hs.lc;omega)]
  refine ah (yI _ _ _) rfl ?_
  cases hI:cF t.n 0 (s.cons.length - 1)with
  |false=>
   exact Cw
  |true=>
   exact Ma
 ·have hn:mq s t=(cF t.n 0 (s.bR.length - 1)&&decide ((t.kids.length:Int)<cX s.bR t.n)):=by unfold mq;rw[if_neg (by omega),if_neg (by omega),if_neg (by omega),if_neg (by omega),if_pos h]
  refine iC h ?_
  rw[wrap64 (by have:=hs.lf;omega) (by have:=hs.lf;omega)]
  refine ah (yI _ _ _) rfl ?_
  cases hI:cF t.n 0 (s.bR.length - 1)with
  |false=>
   exact Cw
  |true=>
   exact Ma
 ·have hn:mq s t=false:=by unfold mq;rw[if_neg h.1,if_neg h.2.1,if_neg h.2.2.1,if_neg h.2.2.2.1,if_neg h.2.2.2.2]
  have e1:(t.op==16)=false:=by simpa using h.1
  have e2:(t.op==1)=false:=by simpa using h.2.1
  have e3:(t.op==2)=false:=by simpa using h.2.2.1
  have e4:(t.op==3)=false:=by simpa using h.2.2.2.1
  have e5:(t.op==5)=false:=by simpa using h.2.2.2.2
  simp+contextual only[go_sem,e1,e2,e3,e4,e5]
  rw[hn]
theorem Om(s:aV)(hs:s.Fits):∀t:Tm,t.fits->aQ Tryz.prog 66 [s.d,t.d] (.ret [.bool (wJ s t)]):=by
 refine Tm.cc fun t ih hf=> ?_
 have fu:=(Tm.aF _).1 hf
 refine aQ.ay mix aiT ao ?_
 rw[c66]
 refine b8 ?_
 rw[u3]
 refine aH (fun k:Nat=>⟨br [.aa, .aa, .ptr 0 0, .ptr 1 0, .aa, .d (.i k)],qj s.row t.row,2⟩)
  (fun k=>k<=t.kids.length/\(t.kids.take k).all (wJ s)=true) (fun k=>t.kids.length - k) 0 ⟨Nat.zero_le _,ao⟩ (bM.d2 _ (df rfl rfl) af rfl rfl ?_) (fun k hk=> ?_)
 ·exact dc
 refine b8 ?_
 refine aj (fun h2=> ?_) (fun h2=> ?_)
 ·simp at h2
  obtain⟨x,hx⟩:=ai h2
  have cp:=List.mem_of_getElem? hx
  refine iC hx ?_
  refine aq (ih x cp (fu.2 x cp)) rfl ?_
  refine b8 ?_
  refine aw bG ?_
  refine b8 ?_
  refine aj (fun h3=> ?_) (fun h3=> ?_)
  ·refine b8 ?_
   simp at h3
   exact G2
  ·exact Tu
 ·refine b8 ?_
  simp at h2
  rw[cw hk.2 h2,Bool.true_and]
  refine ah (R0 s t hs fu.1) rfl ?_
  exact Qq
theorem te(s:aV)(hs:s.Fits)(t:Tm)(hf:t.fits):aQ Tryz.prog 27 [s.d,t.d] (.ret [.bool (mu s t)]):=by
 refine aQ.ay mix aiw ao ?_
 rw[c27]
 refine b8 ?_
 refine ah (u1 t hf 80 30 af af) rfl ?_
 unfold mu
 cases h:decide (0<=eM t 80 30)with
 |false=>exact GR
 |true=>
  refine iC h ?_
  refine ah (Om s hs t hf) rfl ?_
  exact GR
def iS(t:Tm):Bool:=decide (0<=eM t 100 35)
theorem rL(t:Tm)(hf:t.fits):aQ Tryz.prog 20 [t.d] (.ret [.bool (iS t)]):=by
 refine aQ.ay mix aet ao ?_
 rw[c20]
 refine b8 ?_
 refine ah (u1 t hf 100 35 af af) rfl ?_
 refine b8 ?_
 rfl
theorem Ib(op:Int):∀t:Tm,t.fits->aQ Tryz.prog 118 [t.d, .i op] (.ret [.bool (bS op t)]):=by
 refine Tm.cc fun t ih hf=> ?_
 have fu:=(Tm.aF _).1 hf
 refine aQ.ay mix afg ao ?_
 rw[aff]
 refine b8 ?_
 rw[kZ]
 refine aH (fun k:Nat=>⟨br [.aa, .d (.i op), .ptr 0 0, .aa, .aa, .d (.i k)],fP t.row,1⟩)
  (fun k=>k<=t.kids.length/\(t.kids.take k).all (bS op)=true) (fun k=>t.kids.length - k) 0 ⟨Nat.zero_le _,ao⟩ (bM.d1 _ (ba rfl) af rfl ?_) (fun k hk=> ?_)
 ·exact dc
 refine b8 ?_
 refine aj (fun h2=> ?_) (fun h2=> ?_)
 ·simp at h2
  obtain⟨x,hx⟩:=ai h2
  have cp:=List.mem_of_getElem? hx
  refine iC hx ?_
  refine ah (ih x cp (fu.2 x cp)) rfl ?_
  refine b8 ?_
  refine aj (fun h3=> ?_) (fun h3=> ?_)
  ·refine b8 ?_
   simp at h3
   exact G2
  ·refine b8 ?_
   simp at h3
   refine au (k+1) ⟨h2,cI hx hk.2 h3⟩ af (bM.d1 _ (ba rfl) af rfl ?_)
   exact dc
 ·refine b8 ?_
  simp at h2
  rw[cw hk.2 h2,Bool.true_and]
theorem D9(t:Tm)(hf:t.fits):aQ Tryz.prog 72 [t.d] (.ret [.bool (bS 16 t)]):=by
 refine aQ.ay mix aiV ao ?_
 rw[c72]
 refine b8 ?_
 refine ah (Ib 16 t hf) rfl ?_
 exact Qq
theorem zR(t:Tm)(hf:t.fits):aQ Tryz.prog 150 [t.d] (.ret [.bool (bS 16 t&&bS 1 t)]):=by
 refine aQ.ay mix afS ao ?_
 rw[afR]
 refine b8 ?_
 refine ah (D9 t hf) rfl ?_
 cases h:bS 16 t with
 |false=>exact GR
 |true=>
  refine iC h ?_
  refine ah (Ib 1 t hf) rfl ?_
  exact GR
theorem wL:∀a:Tm,a.fits->∀b:Tm,b.fits->aQ Tryz.prog 26 [a.d,b.d] (.ret [.bool (pA a b)]):=by
 refine Tm.cc fun t ih hf b hb=> ?_
 have fu:=(Tm.aF _).1 hf
 have Hg:=(Tm.aF _).1 hb
 refine aQ.ay mix aiv ao ?_
 rw[c26]
 refine b8 ?_
 refine aj (fun h0=> ?_) (fun h0=> ?_)
 ·simp at h0
  refine b8 ?_
  rw[BE,if_pos h0]
 have Cb:t.op≠16:=by simpa using h0
 rw[BE,if_neg Cb]
 by_cases h1:t.op≠b.op\/t.n≠b.n\/t.kids.length≠b.kids.length
 ·rw[if_pos h1]
  have bL:(t.op !=b.op||t.n !=b.n||(t.kids.length:Int)!=(b.kids.length:Int))=true:=by
   rcases h1 with h|h|h
   ·simp[h]
   ·simp[h]
   ·have:((t.kids.length:Int)!=(b.kids.length:Int))=true:=by simp;omega
    simp[this]
  simp+contextual only[go_sem,bL,List.length_map]
 ·rw[if_neg h1]
  have e1:t.op=b.op:=Classical.byContradiction fun e=>h1 (.inl e)
  have e2:t.n=b.n:=Classical.byContradiction fun e=>h1 (.inr (.inl e))
  have e3:t.kids.length=b.kids.length:=Classical.byContradiction fun e=>h1 (.inr (.inr e))
  have bL:(t.op !=b.op||t.n !=b.n||(t.kids.length:Int)!=(b.kids.length:Int))=false:=by simp[e1,e2,e3]
  simp+contextual only[go_sem,bL,List.length_map]
  refine aH (fun k:Nat=>⟨br [.aa, .aa, .ptr 0 0, .ptr 1 0, .aa, .d (.i k)],qj t.row b.row,2⟩)
   (fun k=>k<=t.kids.length/\iD t.kids b.kids=iD (t.kids.drop k) (b.kids.drop k)) (fun k=>t.kids.length - k) 0 ⟨Nat.zero_le _,ao⟩ (bM.d2 _ (df rfl rfl) af rfl rfl ?_) (fun k hk=> ?_)
  ·exact dc
  refine b8 ?_
  refine aj (fun h2=> ?_) (fun h2=> ?_)
  ·simp at h2
   obtain⟨x,hx⟩:=ai h2
   obtain⟨y,hy⟩:=ai (l:=b.kids) (k:=k) af
   have cp:=List.mem_of_getElem? hx
   have s9:=List.mem_of_getElem? hy
   have hd:iD (t.kids.drop k) (b.kids.drop k)=(pA x y&&iD (t.kids.drop (k+1)) (b.kids.drop (k+1))):=by
    exact TQ
   refine Lq hx hy ?_
   refine aq (ih x cp (fu.2 x cp) y (Hg.2 y s9)) rfl ?_
   refine b8 ?_
   refine aw bG ?_
   refine b8 ?_
   refine aj (fun h3=> ?_) (fun h3=> ?_)
   ·refine b8 ?_
    simp at h3
    rw[hk.2,hd,h3];rfl
   ·refine b8 ?_
    simp at h3
    refine au (k+1) ⟨h2,by rw[hk.2,hd,h3];rfl⟩ af (bM.d2 _ (df rfl rfl) af rfl rfl ?_)
    exact dc
  ·refine b8 ?_
   simp at h2
   rw[hk.2,List.drop_eq_nil_of_le h2]
   rfl
def zS(t:Tm):D:=if t.op=16 then .iface 133 (.agg [])else if t.op=1 then .iface 134 (.i t.n)else .iface 138 t.d
theorem lookD_0{t:Tm}(h:t.op=16):zS t= .iface 133 (.agg []):=if_pos h
theorem lookD_1{t:Tm}(h:t.op=1):zS t= .iface 134 (.i t.n):=by unfold zS;rw[if_neg (by omega),if_pos h]
theorem lookD_2{t:Tm}(h:t.op≠16)(h1:t.op≠1):zS t= .iface 138 t.d:=by unfold zS;rw[if_neg h,if_neg h1]
@[go_sem] theorem On:pV Tryz.prog 133=true:=ag
@[go_sem] theorem Qk:pV Tryz.prog 134=true:=ag
@[go_sem] theorem R1:pV Tryz.prog 138=true:=ag
theorem kp(n low high:Int):aQ Tryz.prog 67 [.i n, .i low, .i high] (.ret [.bool (cF n low high)]):=by
 refine aQ.ay mix aeD ao ?_
 rw[c67]
 refine b8 ?_
 rfl
theorem BG(t:Tm):aQ Tryz.prog 113 [t.d] (.ret [zS t]):=by
 refine aQ.ay mix Vu ao ?_
 rw[Zt]
 by_cases h0:t.op=16
 ·have Cb:(t.op==16)=true:=by simpa using h0
  rw[lookD_0 h0]
  exact ve Cb
 ·have Cb:(t.op==16)=false:=by simpa using h0
  by_cases h1:t.op=1
  ·have bL:(t.op==1)=true:=by simpa using h1
   rw[lookD_1 h1]
   exact Ln Cb bL
  ·have bL:(t.op==1)=false:=by simpa using h1
   rw[lookD_2 h0 h1]
   exact Ln Cb bL
theorem agO(a b:List Tm)(ha:a.length<=9223372036854775807)(hb:b.length<=9223372036854775807)(g:Nat)(h:∀x∈a,∀y∈b,aQ Tryz.prog g [x.d,y.d] (.ret [.bool (pA x y)]))(o:Nat->ab)(nx:Nat)(hg:Good o nx)(K X:V->(Nat->ab)->Nat->Prop)
 (hK:∀o' nx',nx<=nx'->Good o' nx'->(∀j,j<nx->o' j=o j)->K (.d (.bool (a.length==b.length&&iD a b))) o' nx'):
 cR Tryz.prog 114 [.d (.sl (a.map Tm.d)), .d (.sl (b.map Tm.d)), .func (.func g) [] []] o nx K X:=by
 refine cR.ay mix N0 ao ?_
 rw[RK]
 refine iZ ?_
 refine aj (fun h1=> ?_) (fun h1=> ?_)
 ·refine aU ?_
  have:(a.length==b.length&&iD a b)=false:=by
   have:(a.length==b.length)=false:=by
    exact Mw
   rw[this];rfl
  exact G9
 ·have hl:a.length=b.length:=by simp at h1;omega
  have jZ:(a.length==b.length)=true:=by simpa using hl
  rw[jZ,Bool.true_and]at hK
  refine iZ ?_
  refine aH (fun k:Nat=>⟨br [.d (.sl (a.map Tm.d)), .d (.sl (b.map Tm.d)), .func (.func g) [] [], .aa, .aa, .aa, .aa, .aa, .aa, .aa, .aa, .aa, .aa, .aa, .aa, .d (.sl (a.map Tm.d)), .d (.i a.length), .d (.i k)],o,nx⟩)
   (fun k=>k<=a.length/\iD a b=iD (a.drop k) (b.drop k)) (fun k=>a.length - k) 0 ⟨Nat.zero_le _,ao⟩ (bM.b9 _ (Nat.le_refl _) af hg (fun _ _=>rfl) ?_) (fun k hk=> ?_)
  ·exact dc
  refine aU ?_
  refine aj (fun h2=> ?_) (fun h2=> ?_)
  ·simp at h2
   obtain⟨x,hx⟩:=ai h2
   obtain⟨y,hy⟩:=ai (l:=b) (k:=k) af
   have hd:iD (a.drop k) (b.drop k)=(pA x y&&iD (a.drop (k+1)) (b.drop (k+1))):=by
    exact TQ
   refine Xh hx hy ?_
   refine ah (h x (List.mem_of_getElem? hx) y (List.mem_of_getElem? hy)) rfl ?_
   refine aU ?_
   refine aj (fun h3=> ?_) (fun h3=> ?_)
   ·refine aU ?_
    simp at h3
    have:iD a b=false:=by rw[hk.2,hd,h3];rfl
    exact TA
   ·refine aU ?_
    simp at h3
    refine au (k+1) ⟨h2,by rw[hk.2,hd,h3];rfl⟩ af (bM.b9 _ (Nat.le_refl _) af hg (fun j hj=>by(repeat(first|rfl|rw[ae]|rw[ak _ _ _ _ (by omega)]))) ?_)
    exact dc
  ·refine aU ?_
   simp at h2
   have:iD a b=true:=by rw[hk.2,List.drop_eq_nil_of_le h2];rfl
   exact G9
theorem R2(s:aV)(t:Tm)(hs:s.Fits)(ht:t.kids.length<=9223372036854775807):aQ Tryz.prog 159 [s.d,t.d] (.ret [.bool (mq s t)]):=by
 refine aQ.ay mix VO ao ?_
 rw[ZN]
 refine aU ?_
 refine aT (BG t) ?_
 rcases(by omega:t.op=16\/t.op=1\/(t.op≠16/\t.op≠1))with h|h|⟨h0,h1⟩
 ·have hn:mq s t=(t.n==0&&(t.kids.length:Int)==0):=by unfold mq;rw[if_pos h]
  rw[lookD_0 h]
  refine dW h ?_
  rw[hn]
 ·have hn:mq s t=(cF t.n 0 199&&(t.kids.length:Int)==0):=by unfold mq;rw[if_neg (by omega),if_pos h]
  rw[lookD_1 h]
  exact Ue
 rw[lookD_2 h0 h1]
 rcases(by omega:t.op=2\/t.op=3\/t.op=5\/(t.op≠2/\t.op≠3/\t.op≠5))with h|h|h|h
 ·have hn:mq s t=(cF t.n (-1000000) 1000000&&(t.kids.length:Int)==0):=by unfold mq;rw[if_neg (by omega),if_neg (by omega),if_pos h]
  exact Ue
 ·have hn:mq s t=(cF t.n 0 (s.cons.length - 1)&&(t.kids.length:Int)==cX s.cons t.n):=by unfold mq;rw[if_neg (by omega),if_neg (by omega),if_neg (by omega),if_pos h]
  refine cf h ?_
  rw[wrap64 (by have:=hs.lc;omega) (by have:=hs.lc;omega)]
  refine aq (kp _ _ _) rfl ?_
  cases hI:cF t.n 0 (s.cons.length - 1)with
  |false=>
   exact Uh
  |true=>
   exact TN
 ·have hn:mq s t=(cF t.n 0 (s.bR.length - 1)&&decide ((t.kids.length:Int)<cX s.bR t.n)):=by unfold mq;rw[if_neg (by omega),if_neg (by omega),if_neg (by omega),if_neg (by omega),if_pos h]
  refine cf h ?_
  rw[wrap64 (by have:=hs.lf;omega) (by have:=hs.lf;omega)]
  refine aq (kp _ _ _) rfl ?_
  cases hI:cF t.n 0 (s.bR.length - 1)with
  |false=>
   exact Uh
  |true=>
   exact TN
 ·have hn:mq s t=false:=by unfold mq;rw[if_neg h0,if_neg h1,if_neg h.1,if_neg h.2.1,if_neg h.2.2]
  have e3:(t.op==2)=false:=by simpa using h.1
  have e4:(t.op==3)=false:=by simpa using h.2.1
  have e5:(t.op==5)=false:=by simpa using h.2.2
  refine xL e3 e4 e5 ?_
  refine aw bG ?_
  refine aU ?_
  rw[hn]
theorem Oo(n:Int)(x:D){o:Nat->ab}:e7 Tryz.prog o .eql 131 false (.d (.iface 133 x)) (.d (.iface 134 (.i n)))=some (.d (.bool false),[],[]):=ag
theorem Oq(m n:Int){o:Nat->ab}:e7 Tryz.prog o .eql 131 false (.d (.iface 134 (.i m))) (.d (.iface 134 (.i n)))=some (.d (.bool (m==n)),[],[]):=ag
theorem Ot(n:Int)(x:D){o:Nat->ab}:e7 Tryz.prog o .eql 131 false (.d (.iface 138 x)) (.d (.iface 134 (.i n)))=some (.d (.bool false),[],[]):=ag
theorem Ea{s:aV}:∀a:Tm,a.fits->Pn s a->∀b:Tm,b.fits->Pn s b->aQ Tryz.prog 65 [a.d,b.d] (.ret [.bool (pA a b)]):=by
 refine Tm.cc fun a ih ha pa b hb pb=> ?_
 have R3:=(Tm.aF _).1 ha
 have Hg:=(Tm.aF _).1 hb
 refine aQ.ay mix aeC ao ?_
 rw[c65,BE]
 refine aU ?_
 refine aT (BG a) ?_
 by_cases h:a.op=16
 ·rw[lookD_0 h,if_pos h]
  exact dM
 rw[if_neg h]
 by_cases h1:a.op=1
 ·have ka:=pa.bare (.inr (.inl h1))
  rw[lookD_1 h1]
  refine aU ?_
  refine aT (BG b) ?_
  by_cases Qf:b.op=16
  ·rw[lookD_0 Qf,if_pos (.inl (by omega))]
   simp+contextual (disch:=first|omega|simp only[go_sem,false_implies]) only[go_sem,wrap64,if_pos,Oo]
  by_cases E3:b.op=1
  ·have kb:=pb.bare (.inr (.inl E3))
   rw[lookD_1 E3]
   simp+contextual (disch:=first|omega|simp only[go_sem,false_implies]) only[go_sem,wrap64,if_pos,Oq]
   by_cases e:a.n=b.n
   ·rw[if_neg (by rw[h1,E3,e,ka,kb];simp),ka,e]
    simp[iD]
   ·rw[if_pos (.inr (.inl e))]
    simp;exact fun h=>e h.symm
  ·rw[lookD_2 Qf E3,if_pos (.inl (by omega))]
   simp+contextual (disch:=first|omega|simp only[go_sem,false_implies]) only[go_sem,wrap64,if_pos,Ot]
 rw[lookD_2 h h1]
 by_cases e1:a.op=b.op
 ·have e1':(a.op==b.op)=true:=by simpa using e1
  by_cases e2:a.n=b.n
  ·have e2':(a.n==b.n)=true:=by simpa using e2
   refine xB e1' e2' ?_
   refine bn (agO a.kids b.kids R3.1 Hg.1 65 (fun x hx y hy=>ih x hx (R3.2 x hx) (pa.gE hx) y (Hg.2 y hy) (pb.gE hy)) _ _ dE _ _ fun o2 n2 m1 m2 m3=> ?_)
   refine xB e1' e2' ?_
   by_cases e3:a.kids.length=b.kids.length
   ·rw[if_neg (by simp[e1,e2,e3])]
    simp[e3]
   ·rw[if_pos (.inr (.inr e3))]
    simp[e3]
  ·have e2':(a.n==b.n)=false:=by simpa using e2
   rw[if_pos (.inr (.inl e2))]
   exact Ln e1' e2'
 ·have e1':(a.op==b.op)=false:=by simpa using e1
  rw[if_pos (.inl e1)]
  exact ve e1'
theorem wM{s:aV}:∀t:Tm,t.fits->Pn s t->aQ Tryz.prog 69 [t.d] (.ret [.i (Gg t)]):=by
 refine Tm.cc fun t ih ht hp=> ?_
 have Fc:=(Tm.aF _).1 ht
 refine aQ.ay mix aeF ao ?_
 rw[c69,Oj]
 refine aU ?_
 refine aT (BG t) ?_
 by_cases h0:t.op=16
 ·rw[lookD_0 h0,if_pos h0]
  exact dM
 rw[if_neg h0]
 by_cases h1:t.op=1
 ·rw[lookD_1 h1,if_pos h1]
  exact dM
 rw[if_neg h1,lookD_2 h0 h1]
 refine ik ?_
 refine aH (fun i:Nat×Int=>⟨br [.aa, .aa, .aa, .d (.i i.2), .aa, .aa, .aa, .aa, .aa, .aa, .aa, .aa, .aa, .aa, .aa, .aa, .aa, .aa, .aa, .aa, .aa, .d (.sl (t.kids.map Tm.d)), .d (.i t.kids.length), .d (.i i.1)],aM (fun _=> .no) 0 (.row t.row),1⟩)
  (fun i=>i.1<=t.kids.length/\uF t.kids 2=uF (t.kids.drop i.1) i.2/\0<=i.2/\i.2<=2) (fun i=>t.kids.length - i.1) (0,2) ⟨Nat.zero_le _,rfl,bG,bG⟩ ?_ ?_
 ·dsimp only
  refine bM.b9 _ af af dE (fun j hj=> ?_) ?_
  ·exact dn
  ·exact dc
 rintro⟨i,m⟩ ⟨hi,hk,m0,m2⟩
 simp only at hi hk m0 m2
 refine ik ?_
 refine aj (fun h5=> ?_) (fun h5=> ?_)
 ·simp at h5
  obtain⟨x,hx⟩:=ai h5
  have cp:=List.mem_of_getElem? hx
  have hkx:=(Gh x (hp.gE cp)).1
  have hd:t.kids.drop i=x::t.kids.drop (i+1):=by
   exact Mt
  rw[hd,uF]at hk
  have R4:(if Gg x<m then Gg x else m)=min m (Gg x):=by rw[Int.min_def];split<;>split<;>omega
  refine dW hx ?_
  refine ah (ih x cp (Fc.2 x cp) (hp.gE cp)) rfl ?_
  refine ik ?_
  first
   |rw[R4]
   |skip
  refine au (i+1,min m (Gg x)) ⟨h5,hk,by dsimp only;omega,by dsimp only;omega⟩ pt (bM.b9 _ af af dE (fun j hj=> ?_) ?_)
  ·exact dn
  ·exact dc
 ·simp at h5
  refine ik ?_
  rw[List.drop_eq_nil_of_le h5]at hk
  rw[hk];rfl
def yg{σ:Type}(step:σ->Tm->σ×Bool):σ->List Tm->Int->Int
 |_,[],_=> -1
 |s,x::l,k=>if(step s x).2=true then yg step (step s x).1 l (k+1)else k
theorem Ic{σ:Type}(step:σ->Tm->σ×Bool):∀ (l:List Tm) (s:σ) (k:Int),0<=k->(0<=yg step s l k↔(aC step s l).2=false)
 |[],_,_,_=>by simp[yg,aC]
 |x::l,s,k,hk=>by
  have ih:=Ic step l (step s x).1 (k+1) af
  by_cases h:(step s x).2=true
  ·simp only[yg,aC,h,if_true];exact ih
  ·simp[yg,aC,h,hk]
theorem aa2{σ:Type}(l:List Tm)(hl:l.length<=9223372036854775807)(g:Nat)(aK:List V)(base:Nat)(H:σ->Nat->ab)(step:σ->Tm->σ×Bool)(hc:∀r∈V.aO aK,r<base)(ok:σ->Prop)(bw:∀x∈l,∀s,ok s->(step s x).2=true->ok (step s x).1)
 (h:∀x∈l,∀s,ok s->gv Tryz.prog g (.d x.d::aK) base (H s) (H (step s x).1) (.d (.bool (!(step s x).2)))) (s:σ) (gQ:ok s):
 gv Tryz.prog 204 [.d (.sl (l.map Tm.d)), .func (.func g) [] aK] base (H s) (H (aC step s l).1) (.d (.i (yg step s l 0))):=by
 intro o nx hI K X hK
 have fZ:∀r∈V.aO aK,r<nx:=fun r hr=>Nat.lt_of_lt_of_le (hc r hr) hI.le
 refine cR.ay mix Wk ao ?_
 rw[aaj]
 refine b8 ?_
 refine aH (fun i:Nat×σ×(Nat->ab)×Nat=>⟨br [.d (.sl (l.map Tm.d)), .func (.func g) [] aK, .aa, .aa, .aa, .aa, .aa, .d (.i l.length), .d (.i i.1)],i.2.2.1,i.2.2.2⟩)
  (fun i=>i.1<=l.length/\c0 base (H i.2.1) i.2.2.1 i.2.2.2/\nx<=i.2.2.2/\(∀id,base<=id->id<nx->i.2.2.1 id=o id)/\aC step s l=aC step i.2.1 (l.drop i.1)/\ok i.2.1/\yg step s l 0=yg step i.2.1 (l.drop i.1) i.1) (fun i=>l.length - i.1) (0,s,o,nx)
  ⟨Nat.zero_le _,hI,Nat.le_refl _,fun _ _ _=>rfl,rfl,gQ,rfl⟩ ?_ ?_
 ·exact I6
 rintro⟨k,s',o',nx'⟩ ⟨hk,sy,hn,dF,hf,lr,qy⟩
 simp only at hk sy hn dF hf lr qy
 refine b8 ?_
 refine aj (fun h1=> ?_) (fun h1=> ?_)
 ·simp at h1
  obtain⟨x,hx⟩:=ai h1
  have cp:=List.mem_of_getElem? hx
  have hd:l.drop k=x::l.drop (k+1):=by
   exact I5
  rw[hd]at hf qy
  simp only[aC,yg]at hf qy
  refine IV hx ?_
  refine dg (h x cp s' lr _ _ (sy.mono af) _ _ fun o2 n2 m1 m2 m3=> ?_)
  cases hb:(step s' x).2 with
  |true=>
   rw[hb]at hf qy
   simp only[if_true]at hf qy
   refine aU ?_
   have D2:∀r∈V.aO aK,r<n2+1+1:=fun r hr=>by have:=fZ r hr;omega
   exact XH
  |false=>
   exact QE
 ·exact QG
theorem ua{σ:Type}(l:List Tm)(hl:l.length<=9223372036854775807)(g:Nat)(aK:List V)(base:Nat)(H:σ->Nat->ab)(step:σ->Tm->σ×Bool)(hc:∀r∈V.aO aK,r<base)(ok:σ->Prop)(bw:∀x∈l,∀s,ok s->(step s x).2=true->ok (step s x).1)
 (h:∀x∈l,∀s,ok s->gv Tryz.prog g (.d x.d::aK) base (H s) (H (step s x).1) (.d (.bool (!(step s x).2)))) (s:σ) (gQ:ok s):
 gv Tryz.prog 157 [.d (.sl (l.map Tm.d)), .func (.func g) [] aK] base (H s) (H (aC step s l).1) (.d (.bool (!(aC step s l).2))):=by
 intro o nx hI K X hK
 have fZ:∀r∈V.aO aK,r<nx:=fun r hr=>Nat.lt_of_lt_of_le (hc r hr) hI.le
 refine cR.ay mix VM ao ?_
 rw[ZL]
 refine iZ ?_
 refine bn (aa2 l hl g aK base H step hc ok bw h s gQ _ _ ?_ _ _ fun o2 n2 m1 m2 m3=> ?_)
 ·exact Cq
 refine iZ ?_
 have e:decide (0<=yg step s l 0)= !(aC step s l).2:=by
  have:=Ic step l s 0 af
  exact G5
 rw[e]
 exact Lz
theorem ajh{x:Tm}{g:Nat}{aK:List V}{base c bx:Nat}{h h2 O:Nat->ab}{r:Bool}(hS:gv Tryz.prog g (.d x.d::aK) base h h2 (.d (.bool r)))(hb:base<=bx)(S3:bx<c)(hO:O bx= .row [.func (.func g) [] aK])(hc:∀r∈V.aO aK,r<base):
 gv Tryz.prog 158 [.d x.d, .ptr bx 0] c (ext base h O) (ext base h2 O) (.d (.bool (!r))):=by
 intro o nx hI K X hK
 have hle:=hI.le
 have fZ:∀r∈V.aO aK,r<nx:=fun r hr=>by have:=hc r hr;omega
 have ho:o bx= .row [.func (.func g) [] aK]:=by
  exact LC
 have y1:∀k,bx≠nx+k:=fun k=>af
 have y2:bx≠nx:=af
 refine cR.ay mix VN ao ?_
 rw[ZM]
 refine Ax ho y1 y2 ?_
 refine dg ((hS.ext (by omega:base<=c) O) _ _ ?_ _ _ fun o2 n2 m1 m2 m3=> ?_)
 ·exact Qx
 refine iZ ?_
 exact Qt
theorem zT{σ:Type}(l:List Tm)(hl:l.length<=9223372036854775807)(g:Nat)(aK:List V)(base:Nat)(H:σ->Nat->ab)(step:σ->Tm->σ×Bool)(hc:∀r∈V.aO aK,r<base)(ok:σ->Prop)(bw:∀x∈l,∀s,ok s->(step s x).2=true->ok (step s x).1)
 (h:∀x∈l,∀s,ok s->gv Tryz.prog g (.d x.d::aK) base (H s) (H (step s x).1) (.d (.bool (step s x).2))) (s:σ) (gQ:ok s):
 gv Tryz.prog 111 [.d (.sl (l.map Tm.d)), .func (.func g) [] aK] base (H s) (H (aC step s l).1) (.d (.bool (aC step s l).2)):=by
 intro o nx hI K X hK
 have hle:=hI.le
 have fZ:∀r∈V.aO aK,r<nx:=fun r hr=>Nat.lt_of_lt_of_le (hc r hr) hI.le
 refine cR.ay mix Vt ao ?_
 rw[Zs]
 refine iZ ?_
 refine bn (ua l hl 158 [.ptr nx 0] (nx+1) (fun s=>ext base (H s) (aM o nx (.row [.func (.func g) [] aK]))) step nk ok bw (fun x hx s hs=>ajh (h x hx s hs) hle af (ae _ _ _) hc) s gQ _ _ ?_ _ _ fun o2 n2 m1 m2 m3=> ?_)
 ·have hr:(ab.row [V.func (.func g) [] aK]).refs.all (fun r=>decide (r<nx+4))=true:=by
   rw[List.all_eq_true]
   intro r hr
   have h1:r∈V.aO aK:=by simpa[ab.refs,V.aO,V.refs]using hr
   have:=fZ r h1
   simp;omega
  exact LB
 refine iZ ?_
 refine hK _ _ af ⟨(m2.mono af).bX,by have:=m2.le;omega,fun id aG=> ?_⟩ fun id i1 i2=> ?_
 ·exact AB
 ·exact Lw
def Ie(s:aV)(d:Int)(left:Int)(k:Tm):Int×Bool:=((xI s k left d).2,(xI s k left d).1)
theorem Eb(s:aV)(d:Int):∀ (l:List Tm) (left:Int),aC (Ie s d) left l=((tc s l left d).2,(tc s l left d).1)
 |[],_=>by simp[aC,tc]
 |k::l,left=>by
  have ih:=Eb s d l (xI s k left d).2
  by_cases h:(xI s k left d).1=true
  ·simp only[aC,tc,Ie,h,if_true];exact ih
  ·simp[aC,tc,Ie,h]
def WdC(s:aV)(t:Tm):Prop:=∀ (left d:Int), -1000000<=left/\left<=1000000-> -1000<=d/\d<=1000->∀ (base lp:Nat) (h:Nat->ab),lp<base->
    gv Tryz.prog 116 [.d s.d, .d t.d, .ptr lp 0, .d (.i d)] base (aM h lp (.row [.d (.i left)])) (aM h lp (.row [.d (.i (xI s t left d).2)])) (.d (.bool (xI s t left d).1))
theorem J5(s:aV)(hs:s.Fits):∀t:Tm,t.fits->WdC s t:=by
 refine Tm.cc fun t ih ht=> ?_
 have Fc:=(Tm.aF _).1 ht
 intro left d hl hd base lp h hlp o nx hI K X hK
 have hle:=hI.le
 have ho:o lp= .row [.d (.i left)]:=by rw[hI.eq lp hlp,ae]
 have y1:∀k,lp≠nx+k:=fun k=>af
 have y2:lp≠nx:=af
 rw[Oh]at hK
 have fin:∀ (o':Nat->ab) (n':Nat) (v:Int),nx<=n'->Good o' n'->o' lp= .row [.d (.i v)]->(∀j,j<nx->j≠lp->o' j=o j)->c0 base (aM h lp (.row [.d (.i v)])) o' n'/\∀id,base<=id->id<nx->o' id=o id:=fun o' n' v k1 k2 k3 k4=>by
  refine⟨⟨k2,af,fun id aG=> ?_⟩,fun id i1 i2=>k4 id i2 af⟩
  by_cases e:id=lp
  ·subst e;rw[k3,ae]
  ·rw[k4 id (by omega) e,hI.eq id aG,ak _ _ _ _ e,ak _ _ _ _ e]
 have hg:=hI.bX
 refine cR.ay mix Vv ao ?_
 rw[Zu]
 refine Ax ho y1 y2 ?_
 by_cases h1:left - 1<0
 ·have bL:decide (0<=left - 1)=false:=by simp;omega
  rw[if_pos (.inl h1)]at hK
  refine Qo bL ho y1 y2 ?_
  refine(fun q=>hK _ _ af (And.left q) (And.right q)) (fin _ (nx+31) (left - 1) af ?_ (ae _ _ _) fun j j1 j2=> ?_)
  ·exact dE
  ·exact dn
 have bL:decide (0<=left - 1)=true:=by simp;omega
 by_cases h2:d<=0
 ·have jb:decide (0<d)=false:=by simpa using h2
  rw[if_pos (.inr (.inl h2))]at hK
  refine Qn bL jb ho y1 y2 ?_
  refine(fun q=>hK _ _ af (And.left q) (And.right q)) (fin _ (nx+31) (left - 1) af ?_ (ae _ _ _) fun j j1 j2=> ?_)
  ·exact dE
  ·exact dn
 have jb:decide (0<d)=true:=by simp;omega
 refine Qn bL jb ho y1 y2 ?_
 refine ah (R2 s t hs Fc.1) rfl ?_
 cases hn:mq s t with
 |false=>
  rw[if_pos (.inr (.inr hn))]at hK
  refine Qn bL jb ho y1 y2 ?_
  refine(fun q=>hK _ _ af (And.left q) (And.right q)) (fin _ (nx+31) (left - 1) af ?_ (ae _ _ _) fun j j1 j2=> ?_)
  ·exact dE
  ·exact dn
 |true=>
  rw[if_neg (by rw[hn];simp;omega)]at hK
  refine Qn bL jb ho y1 y2 ?_
  have hwd:=Eb s (d - 1) t.kids (left - 1)
  have clo:∀ (O:Nat->ab) (k:Tm) (v:Int),k∈t.kids-> -1000000<=v/\v<=1000000->O nx= .row s.row->O (nx+2)= .row [.ptr lp 0]->O (nx+3)= .row [.d (.i d)]->
   gv Tryz.prog 160 [.d k.d, .ptr nx 0, .ptr (nx+2) 0, .ptr (nx+3) 0] (nx+4) (ext base (aM h lp (.row [.d (.i v)])) O) (ext base (aM h lp (.row [.d (.i (xI s k v (d - 1)).2)])) O) (.d (.bool (xI s k v (d - 1)).1)):=by
   intro O k v hk hv p0 p2 p3 o2 n2 M9 K2 X2 hK2
   have adD:=M9.le
   have r0:o2 nx= .row s.row:=by rw[M9.eq nx (by omega)];unfold ext;rw[if_neg (by omega),p0]
   have r2:o2 (nx+2)= .row [.ptr lp 0]:=by rw[M9.eq _ (by omega)];unfold ext;rw[if_neg (by omega),p2]
   have r3:o2 (nx+3)= .row [.d (.i d)]:=by rw[M9.eq _ (by omega)];unfold ext;rw[if_neg (by omega),p3]
   have z0:∀j,nx≠n2+j:=fun j=>af
   have z2:∀j,nx+2≠n2+j:=fun j=>af
   have z3:∀j,nx+3≠n2+j:=fun j=>af
   have z4:nx≠n2/\nx+2≠n2/\nx+3≠n2:=af
   refine cR.ay mix VP ao ?_
   rw[ZO]
   simp+contextual (disch:=first|omega|simp only[go_sem,false_implies]) only[go_sem,wrap64,if_pos,r0,r2,r3,z0,z2,z3,z4.1,z4.2.1,z4.2.2,Nat.add_assoc,Nat.left_eq_add,Nat.add_eq_left,Nat.add_left_cancel_iff]
   refine bn ((ih k hk (Fc.2 k hk) v (d - 1) hv af base lp h hlp).ext (by omega:base<=nx+4) O _ _ ?_ _ _ fun o3 n3 m1 m2 m3=> ?_)
   ·exact M9.aM af af af rfl
   refine iZ ?_
   exact hK2 _ _ af (m2.mono af) fun id i1 i2=>by rw[m3 id i1 (by omega),ak _ _ _ _ (by omega)]
  refine bn (cR.gen fun O hO=> ?_)
  have p0:O nx= .row s.row:=by rw[hO];(repeat(first|rfl|rw[ae]|rw[ak _ _ _ _ (by omega)]))
  have p2:O (nx+2)= .row [.ptr lp 0]:=by rw[hO];(repeat(first|rfl|rw[ae]|rw[ak _ _ _ _ (by omega)]))
  have p3:O (nx+3)= .row [.d (.i d)]:=by rw[hO];(repeat(first|rfl|rw[ae]|rw[ak _ _ _ _ (by omega)]))
  obtain⟨hIO,dF⟩:=fin O (nx+28) (left - 1) af (by rw[hO];exact dE) (by rw[hO];exact ae _ _ _) (fun j j1 j2=>by rw[hO];(repeat(first|rfl|rw[ae]|rw[ak _ _ _ _ (by omega)])))
  refine zT t.kids Fc.1 160 [.ptr nx 0, .ptr (nx+2) 0, .ptr (nx+3) 0] (nx+4) (fun v=>ext base (aM h lp (.row [.d (.i v)])) O) (Ie s (d - 1)) nk (fun v:Int=> -1000000<=v/\v<=1000000) (fun k hk v hv ny=> ?_) (fun k hk v hv=>clo O k v hk hv p0 p2 p3) (left - 1) af O (nx+28) (hIO.ext af af) _ _ fun o2 n2 m1 m2 m3=> ?_
  ·obtain⟨h5,h6⟩:=Oi s k v (d - 1)
   have e:=h6 ny
   rw[show(xI s k v (d - 1)).1=true from ny]at h5
   have h7:=h5.symm
   rw[Bool.and_eq_true,decide_eq_true_eq]at h7
   show -1000000<=(xI s k v (d - 1)).2/\(xI s k v (d - 1)).2<=1000000
   rw[e];omega
  ·rw[hwd]at m2|-
   refine iZ ?_
   refine hK _ _ af ⟨(m2.mono af).bX,by have:=m2.le;omega,fun id aG=> ?_⟩ fun id i1 i2=> ?_
   ·exact AB
   ·rw[m2.eq id (by omega)];unfold ext;rw[if_neg (by omega),dF id i1 i2]
theorem BH(s:aV)(hs:s.Fits)(t:Tm)(ht:t.fits):aQ Tryz.prog 68 [s.d,t.d] (.ret [.bool (mu s t)]):=by
 refine aQ.ay mix aeE ao ?_
 rw[c68]
 refine iZ ?_
 refine bn ((J5 s hs t ht) 80 30 af af 4 3 (aM (aM (fun _=> .no) 0 (.row s.row)) 1 (.row t.row)) af _ _ ⟨dE,af,fun id aG=> ?_⟩ _ _ fun o2 n2 m1 m2 m3=> ?_)
 ·exact Qs
 refine iZ ?_
 rw[agN]
theorem Ec{α:Type}(f:α->Bool):∀l:List α,aC (fun(_:Unit) x=>((),f x)) () l=((),l.all f)
 |[]=>rfl
 |x::l=>by
  have ih:=Ec f l
  cases h:f x<;>simp[aC,h,ih]
section
theorem agP{x:Tm}{g:Nat}{aK:List V}{base c bx:Nat}{h h2 O:Nat->ab}{r:Bool}(hS:gv Tryz.prog g (.d x.d::aK) base h h2 (.d (.bool r)))(hb:base<=bx)(S3:bx<c)(hO:O bx= .row [.func (.func g) [] aK])(hc:∀r∈V.aO aK,r<base):
 gv Tryz.prog 230 [.d x.d, .ptr bx 0] c (ext base h O) (ext base h2 O) (.d (.bool (!r))):=by
 intro o nx hI K X hK
 have hle:=hI.le
 have fZ:∀r∈V.aO aK,r<nx:=fun r hr=>by have:=hc r hr;omega
 have ho:o bx= .row [.func (.func g) [] aK]:=by
  exact LC
 have y1:∀k,bx≠nx+k:=fun k=>af
 have y2:bx≠nx:=af
 refine cR.ay mix Wz ao ?_
 rw[aay]
 refine Ax ho y1 y2 ?_
 refine dg ((hS.ext (by omega:base<=c) O) _ _ ?_ _ _ fun o2 n2 m1 m2 m3=> ?_)
 ·exact Qx
 refine iZ ?_
 exact Qt
theorem zU{σ:Type}(l:List Tm)(hl:l.length<=9223372036854775807)(g:Nat)(aK:List V)(base:Nat)(H:σ->Nat->ab)(step:σ->Tm->σ×Bool)(hc:∀r∈V.aO aK,r<base)(ok:σ->Prop)(bw:∀x∈l,∀s,ok s->(step s x).2=true->ok (step s x).1)
 (h:∀x∈l,∀s,ok s->gv Tryz.prog g (.d x.d::aK) base (H s) (H (step s x).1) (.d (.bool (step s x).2))) (s:σ) (gQ:ok s):
 gv Tryz.prog 187 [.d (.sl (l.map Tm.d)), .func (.func g) [] aK] base (H s) (H (aC step s l).1) (.d (.bool (aC step s l).2)):=by
 intro o nx hI K X hK
 have hle:=hI.le
 have fZ:∀r∈V.aO aK,r<nx:=fun r hr=>Nat.lt_of_lt_of_le (hc r hr) hI.le
 refine cR.ay mix We ao ?_
 rw[aad]
 refine iZ ?_
 refine bn (ua l hl 230 [.ptr nx 0] (nx+1) (fun s=>ext base (H s) (aM o nx (.row [.func (.func g) [] aK]))) step nk ok bw (fun x hx s hs=>agP (h x hx s hs) hle af (ae _ _ _) hc) s gQ _ _ ?_ _ _ fun o2 n2 m1 m2 m3=> ?_)
 ·have hr:(ab.row [V.func (.func g) [] aK]).refs.all (fun r=>decide (r<nx+4))=true:=by
   rw[List.all_eq_true]
   intro r hr
   have h1:r∈V.aO aK:=by simpa[ab.refs,V.aO,V.refs]using hr
   have:=fZ r h1
   simp;omega
  exact LB
 refine iZ ?_
 refine hK _ _ af ⟨(m2.mono af).bX,by have:=m2.le;omega,fun id aG=> ?_⟩ fun id i1 i2=> ?_
 ·exact AB
 ·exact Lw
mutual
def ja:Tm->List Tm
 | .mk op n kids=> .mk op n kids::R5 kids
def R5:List Tm->List Tm
 |[]=>[]
 |k::l=>ja k++R5 l
end
theorem zV:∀l:List Tm,R5 l=l.flatMap ja
 |[]=>rfl
 |k::l=>by rw[R5,zV l];rfl
theorem nB(t:Tm):ja t=t::t.kids.flatMap ja:=by cases t;rw[ja,zV];rfl
section
variable {σ:Type}(base oY:Nat)(H:σ->Nat->ab)(step:σ->Tm->σ×Bool)(ok:σ->Prop)
theorem Ou:∀t:Tm,t.fits->(∀x∈ja t,∀s,ok s->(step s x).2=true->ok (step s x).1)->(∀x∈ja t,∀s,ok s->RoC Tryz.prog oY [.d x.d] base (H s) (H (step s x).1) (.d (.bool (step s x).2)))->oY<base->
 ∀ (c:Nat) (o0:Nat->ab) (yb vb:Nat),base<=c->base<=yb->yb<c->base<=vb->vb<c->o0 yb= .row [.kq oY]->o0 vb= .row [.func (.func 258) [] [.ptr yb 0, .ptr vb 0]]->
 ∀s,ok s->gv Tryz.prog 258 [.d t.d, .ptr yb 0, .ptr vb 0] c (ext base (H s) o0) (ext base (H (aC step s (ja t)).1) o0) (.d (.bool (aC step s (ja t)).2)):=by
 refine Tm.cc fun t ih hf bw hR wC c o0 yb vb S3 WX hy Qj hv oy ov s gQ=> ?_
 have fu:=(Tm.aF _).1 hf
 intro o nx hI K X hK
 have hle:=hI.le
 have WY:o yb= .row [.kq oY]:=by rw[hI.eq yb hy];unfold ext;rw[if_neg (by omega),oy]
 have WZ:o vb= .row [.func (.func 258) [] [.ptr yb 0, .ptr vb 0]]:=by rw[hI.eq vb hv];unfold ext;rw[if_neg (by omega),ov]
 have y1:yb≠nx:=af
 have y2:∀k,yb≠nx+k:=fun k=>af
 have y3:vb≠nx:=af
 have y4:∀k,vb≠nx+k:=fun k=>af
 refine cR.ay mix WT ao ?_
 rw[aaP]
 simp+contextual only[go_sem,WY,WZ,y1,y2,y3,y4,Nat.add_assoc,Nat.left_eq_add,Nat.add_eq_left,Nat.add_left_cancel_iff]
 have um:=nB t
 have mz:∀k∈t.kids,∀x∈ja k,x∈ja t:=fun k hk x hx=>by
  exact Xs
 have hb:∀id,id<base->o id=H s id:=fun id aG=>by rw[hI.eq id (by omega)];unfold ext;rw[if_pos aG]
 have hIb:c0 base (H s) o nx:=⟨hI.bX,af,hb⟩
 refine ox (hR t yE s gQ _ _ (hIb.aM (i:=nx) (m:=nx+4) af af af rfl) _ _ fun o2 n2 m1 m2 m3=> ?_)
 have k0:o2 nx= .row t.row:=by rw[m3 nx (by omega) (by omega),ae]
 have hold:∀id,base<=id->id<nx->o2 id=o id:=fun id h1 h2=>by rw[m3 id h1 (by omega),ak _ _ _ _ (by omega)]
 have I0:∀id,base<=id->id<c->o id=o0 id:=fun id h1 h2=>by rw[hI.eq id h2];unfold ext;rw[if_neg (by omega)]
 cases D3:(step s t).2 with
 |false=>
  refine iC D3 ?_
  have Ce:aC step s (ja t)=((step s t).1,false):=by rw[um,aC,if_neg (by rw[D3];exact Bool.false_ne_true)]
  rw[Ce]at hK
  refine hK _ _ af ⟨m2.bX.mono af,af,fun id aG=> ?_⟩ (fun id h1 h2=>hold id af h2)
  unfold ext
  split
  ·exact m2.eq id (by assumption)
  ·exact IZ
 |true=>
  have Ce:aC step s (ja t)=aC (fun s k=>aC step s (ja k)) (step s t).1 t.kids:=by rw[um,aC,if_pos D3,qk]
  have q0:o2 yb= .row [.kq oY]:=by rw[hold yb WX (by omega),WY]
  have q1:o2 vb= .row [.func (.func 258) [] [.ptr yb 0, .ptr vb 0]]:=by rw[hold vb Qj (by omega),WZ]
  simp+contextual only[go_sem,D3,k0,q1]
  have m0:=m2.le
  refine bn (zU t.kids fu.1 258 [.ptr yb 0, .ptr vb 0] n2 (fun s=>ext base (H s) o2) (fun s k=>aC step s (ja k)) ?_ ok ?_ ?_ (step s t).1 (bw t yE s gQ D3) _ _ ?_ _ _ ?_)
  ·exact GV
  ·exact acX
  ·intro k hk s' jC
   exact ih k hk (fu.2 k hk) (fun x hx=>bw x (mz k hk x hx)) (fun x hx=>hR x (mz k hk x hx)) wC n2 o2 yb vb af WX af Qj af q0 q1 s' jC
  ·exact LI
  ·intro o5 n5 p1 p2 p3
   refine b8 ?_
   rw[<- Ce]
   refine hK _ _ af ⟨p2.bX.mono af,af,fun id aG=> ?_⟩ (fun id h1 h2=> ?_)
   ·rw[p2.eq id (by omega), <- Ce]
    unfold ext
    split
    ·rfl
    ·exact IZ
   ·exact Mz
theorem J6(t:Tm)(hf:t.fits)(bw:∀x∈ja t,∀s,ok s->(step s x).2=true->ok (step s x).1)(hR:∀x∈ja t,∀s,ok s->RoC Tryz.prog oY [.d x.d] base (H s) (H (step s x).1) (.d (.bool (step s x).2)))(wC:oY<base)(tb:Nat)(I4:tb<base)(s:σ)(gQ:ok s)(cz:H s tb= .row t.row):
 gv Tryz.prog 257 [.kq oY, .ptr tb 0] base (H s) (H (aC step s (ja t)).1) (.cn []):=by
 intro o nx hI K X hK
 have hle:=hI.le
 have ot:o tb= .row t.row:=by rw[hI.eq tb I4,cz]
 have y1:tb≠nx:=af
 have y2:∀k,tb≠nx+k:=fun k=>af
 refine cR.ay mix WS ao ?_
 rw[aaO]
 refine Xk ot y1 y2 ?_
 have hI1:c0 base (H s) (aM (aM (aM o nx (.row [.kq oY])) (nx+1) (.row [.d .bV])) (nx+1) (.row [.func (.func 258) [] [.ptr nx 0, .ptr (nx+1) 0]])) (nx+6):=by
  refine((hI.aM (i:=nx) (m:=nx+6) af af af ?_).aM (i:=nx+1) (m:=nx+6) af af af rfl).aM (i:=nx+1) af af af ?_
  ·exact LS
  ·exact iX
 refine bn (Ou base oY H step ok t hf bw hR wC (nx+6) _ nx (nx+1) af hle af af af ?_ ?_ s gQ _ _ (hI1.ext (Nat.le_refl _) af) _ _ ?_)
 ·exact dn
 ·exact dn
 intro o2 n2 m1 m2 m3
 refine b8 ?_
 refine hK _ _ af ⟨m2.bX,af,fun id aG=> ?_⟩ (fun id h1 h2=> ?_)
 ·exact AB
 ·exact Mn
end
theorem zW(t:Tm)(o:Nat->ab)(nx:Nat)(K X:V->(Nat->ab)->Nat->Prop)(h:K (.func (.func 257) [] [.ptr nx 0]) (aM o nx (.row t.row)) (nx+4)):cR Tryz.prog 231 [.d t.d] o nx K X:=by
 refine cR.ay mix WA ao ?_
 rw[aaz]
 refine b8 ?_
 exact h
def BI{σ:Type}(J:σ->Option j9)(step:σ->Tm->σ)(s:σ)(x:Tm):σ×Bool:=(step s x,(J (step s x)).isNone)
theorem rM{σ:Type}(t:Tm)(hf:t.fits){n bq:Nat}{gq:Operand}{ps:List Nat}{jg fe:IC}{Q:gf->S->Prop}{e:Nat->V}{o:Nat->ab}{nx tb:Nat}(env:List V)(he:mh e env 0)
 (DJ:ps.all (fun t=>decide (t<n))=true) (hl:ps.length=1) (hg:Good o nx) (hrefs:∀r∈V.aO env,r<nx) (ht:o tb= .row t.row)
 (G:σ->Nat->ab) (J:σ->Option j9) (step:σ->Tm->σ) (ok:σ->Prop) (s0:σ) (gQ:ok s0) (Tk:J s0=none) (h0:∀id,id<nx->o id=G s0 id) (bw:∀x∈ja t,∀s,ok s->J s=none->J (step s x)=none->ok (step s x))
 (mL:∀L,iQ Tryz.prog n env ps jg fe L->(∀st pd m,nx<=m->(L st pd).refs.all (fun r=>decide (r<m))=true)->∀x∈ja t,∀s,ok s->J s=none->∀o3 n3,c0 nx (G s) o3 n3->nx<n3->o3 nx=L .ready none->∀K X,
  (∀e' o' n' st pd,n3<=n'->c0 nx (G (step s x)) o' n'->o' nx=L st pd->(∀id,nx<id->id<n3->o' id=o3 id)->jU nx K X (H5 (J (step s x))) ⟨e',o',n'⟩)->
  ll Tryz.prog n n3 true jg (ow Tryz.prog n n3 nx fe K X) ⟨nY (br env) ps [.d x.d],o3,n3⟩)
 (kQ:∀o' n',c0 nx (G (aC (BI J step) s0 (ja t)).1) o' n'->qd Q (J (aC (BI J step) s0 (ja t)).1) ⟨e,o',n'⟩):
 x9 Tryz.prog n bq false gq ps jg fe Q ⟨e,o,nx⟩ (.func (.func 257) [] [.ptr tb 0]):=by
 refine F9 env he (fun L hL=> ?_)
 have I4:tb<nx:=hg.lt L5
 let H:σ->Nat->ab:=fun s id=>if id<nx then G s id else if id=nx then(match J s with|none=>L .ready none|some j=>L .done (some j))else .no
 have I1:∀s id,id<nx->H s id=G s id:=fun s id h=>if_pos h
 have PZ:∀s,J s=none->H s nx=L .ready none:=fun s h=>by show(if nx<nx then _ else _)=_;rw[if_neg (by omega),if_pos rfl,h]
 have Xv:∀s j,J s=some j->H s nx=L .done (some j):=fun s j h=>by show(if nx<nx then _ else _)=_;rw[if_neg (by omega),if_pos rfl,h]
 have yu:∀st pd m,nx<=m->(L st pd).refs.all (fun r=>decide (r<m))=true:=fun st pd m hm=>by
  exact Mi
 refine J6 (nx+1) nx H (BI J step) (fun s=>ok s/\J s=none) t hf (fun x hx s h1 h2=> ?_) (fun x hx s h1=> ?_) af tb af s0 ⟨gQ,Tk⟩ L3 _ _ ⟨?_,Nat.le_refl _,fun id aG=> ?_⟩ _ _ ?_
 ·have hj:J (step s x)=none:=by simpa[BI]using h2
  exact⟨bw x hx s h1.1 h1.2 hj,hj⟩
 ·intro o3 n3 hI K X hK
  have hle:=hI.le
  have Lh:o3 nx=L .ready none:=by rw[hI.eq nx (by omega),PZ s h1.2]
  refine wA hL mix Lh af DJ (by simp[hl]) ?_
  refine mL L hL yu x hx s h1.1 h1.2 o3 n3 ⟨hI.bX,af,fun id aG=>by rw[hI.eq id (by omega),I1 _ _ aG]⟩ af Lh K X (fun e' o' n' st pd k1 k2 k3 k4=> ?_)
  have key:∀st' pd' b,(J (step s x)).isNone=b->H (step s x) nx=L st' pd'->K (.d (.bool b)) (aM o' nx (L st' pd')) n':=fun st' pd' b hb hh=>by
   subst hb
   refine hK _ _ k1 ⟨k2.bX.aM af (yu _ _ _ af),af,fun id aG=> ?_⟩ (fun id g1 g2=> ?_)
   ·by_cases vj:id=nx
    ·exact LU
    ·rw[ak _ _ _ _ vj]
     show o' id=H (step s x) id
     exact LL
   ·exact XC
  cases hj:J (step s x)with
  |none=>exact Xz
  |some j=>
   cases j with
   |ret=>exact Xw
   |exit j=>exact Xu
 ·exact Xx
 ·by_cases vj:id=nx
  ·exact LY
  ·exact Xt
 ·intro o' n' k1 k2 k3
  have hle:=k2.le
  generalize hsf:(aC (BI J step) s0 (ja t)).1=sf at*
  have kk:∀st pd,c0 nx (G sf) (aM o' nx (L st pd)) n':=fun st pd=>⟨k2.bX.aM af (yu _ _ _ af),af,fun id aG=>by rw[ak _ _ _ _ (by omega),k2.eq id (by omega),I1 _ _ aG]⟩
  cases hj:J sf with
  |none=>
   refine⟨.ready,none,by rw[k2.eq nx (by omega),PZ _ hj],(fun h=>by cases h), ?_⟩
   have:=kQ _ _ (kk .exhausted none)
   rwa [hj]at this
  |some j=>
   refine⟨.done,some j,by rw[k2.eq nx (by omega),Xv _ _ hj],(fun h=>by cases h), ?_⟩
   have:=kQ _ _ (kk .exhausted (some j))
   rwa [hj]at this
end
section
def J7(l:List (D×D)):List (Int×D):=l.map fun p=>((match p.1 with| .int _ n=>n|_=>0),p.2)
def isI(l:List (D×D)):Bool:=l.all fun p=>match p.1 with| .int .i64 _=>true|_=>false
@[go_sem] theorem ahr (m:List (Int×D)):J7 (enc (D.int .i64) m)=m:=by
  unfold J7 enc;rw[List.map_map];simp[Function.comp_def]
@[go_sem] theorem ahs (m:List (Int×D)):isI (enc (D.int .i64) m)=true:=by simp[isI,enc]
@[go_sem] theorem aht:isI []=true:=rfl
@[go_sem] theorem ahu:J7 []=[]:=rfl
theorem BJ:∀ {l:List (D×D)},isI l=true->enc (D.int .i64) (J7 l)=l
 |[],_=>rfl
 |(k,x)::l,h=>by
  simp only[isI,List.all_cons,Bool.and_eq_true]at h
  have ih:=BJ (l:=l) h.2
  obtain⟨n,h1⟩:∃n,k= .int .i64 n:=by
   have h1:=h.1
   split at h1
   ·exact⟨_,rfl⟩
   ·cases h1
  subst h1
  simp only[enc,J7,List.map_cons]at ih|-
  rw[ih]
def iT(l:List Int):List (Int×D):=l.map fun n=>(n, .bool true)
@[go_sem] theorem agQ:iT []=[]:=rfl
def tf(l:List Int)(n:Int):List Int:=if l.contains n=true then l else l++[n]
theorem wN{l:List Int}{n k:Int}:k∈tf l n↔k∈l\/k=n:=by
 unfold tf
 split
 ·rename_i h
  have:n∈l:=by simpa using h
  constructor
  ·exact .inl
  ·rintro(h|rfl)<;>assumption
 ·simp
theorem wO{l:List Int}(n:Int)(h:l.Nodup):(tf l n).Nodup:=by
 unfold tf
 split
 ·exact h
 ·rename_i hn
  have hn:n∉l:=by simpa using hn
  rw[List.nodup_append]
  exact⟨h,ao,fun a ha b hb=>by simp at hb;subst hb;intro e;subst e;exact hn ha⟩
theorem mi:∀ (l:List Int) (n:Int) (i:Nat),gC n (iT l) i=(l.findIdx? (· ==n)).map fun j=>(i+j,D.bool true)
 |[],n,i=>rfl
 |x::l,n,i=>by
  have ih:=mi l n (i+1)
  simp only[iT,List.map_cons,gC,List.findIdx?_cons]at ih|-
  by_cases h:n=x
  ·subst h;simp
  ·have h2: ¬x=n:=fun e=>h e.symm
   simp only[beq_iff_eq,h,h2,if_false,ih,Option.map_map,Function.comp_def]
   congr 1;funext j;congr 1;omega
@[go_sem] theorem acj (l:List Int) (n:Int):yd n (.bool true) (iT l)=iT (tf l n):=by
  unfold yd tf
  rw[mi]
  cases h:l.findIdx? (· ==n)with
  |none=>
   have:l.contains n=false:=by
    rw[List.findIdx?_eq_none_iff]at h
    rw[Bool.eq_false_iff];intro hc
    have:=h n (by simpa using hc)
    simp at this
   simp only[Option.map_none,this,Bool.false_eq_true,if_false]
   simp[iT]
  |some j=>
   rw[List.findIdx?_eq_some_iff_getElem]at h
   obtain⟨hj,he,_⟩:=h
   have e:l[j]=n:=by simpa using he
   have:l.contains n=true:=by rw[List.contains_iff_mem, <- e];exact List.getElem_mem hj
   simp only[Option.map_some,this,if_true,Nat.zero_add]
   apply List.ext_getElem?
   intro k
   rw[List.getElem?_set]
   split
   ·rename_i hk;subst hk;simp[iT,hj,e]
   ·rfl
def Ed(l:List Int)(n:Int):List Int:=match l.findIdx? (· ==n)with|some j=>l.eraseIdx j|none=>l
theorem iU{α β:Type}(f:α->β):∀ (l:List α) (j:Nat),(l.map f).eraseIdx j=(l.eraseIdx j).map f
 |[],_=>rfl
 |_::_,0=>rfl
 |x::l,j+1=>by simp[iU f l j]
@[go_sem] theorem ack (l:List Int) (n:Int):agK n (iT l)=iT (Ed l n):=by
  unfold agK Ed
  rw[mi]
  cases h:l.findIdx? (· ==n)with
  |none=>simp
  |some j=>simp only[Option.map_some,Nat.zero_add];exact iU _ _ _
theorem zX{l:List Int}(n:Int)(h:l.Nodup):(Ed l n).Nodup/\∀k,k∈Ed l n↔k∈l/\k≠n:=by
 unfold Ed
 cases hf:l.findIdx? (· ==n)with
 |none=>
  rw[List.findIdx?_eq_none_iff]at hf
  refine⟨h,fun k=>⟨fun hk=>⟨hk,fun e=> ?_⟩,fun hk=>hk.1⟩⟩
  subst e
  have:=hf k hk
  simp at this
 |some j=>
  rw[List.findIdx?_eq_some_iff_getElem]at hf
  obtain⟨hj,he,_⟩:=hf
  have e:l[j]=n:=by simpa using he
  refine⟨h.sublist (List.eraseIdx_sublist _ _),fun k=> ?_⟩
  show k∈l.eraseIdx j↔_
  have vF:l=l.take j++l[j]::l.drop (j+1):=by rw[List.getElem_cons_drop,List.take_append_drop]
  rw[List.eraseIdx_eq_take_drop_succ]
  rw[vF,List.nodup_append,List.nodup_cons]at h
  obtain⟨h1,⟨h2,h3⟩,h4⟩:=h
  constructor
  ·intro hk
   rw[List.mem_append]at hk
   refine⟨?_,fun ek=> ?_⟩
   ·rcases hk with hk|hk
    ·exact List.mem_of_mem_take hk
    ·exact List.mem_of_mem_drop hk
   ·rcases hk with hk|hk
    ·exact h4 k hk l[j] (List.mem_cons_self ..) (by rw[ek,e])
    ·exact h2 (by rw[e, <- ek];exact hk)
  ·rintro⟨hk,il⟩
   rw[vF,List.mem_append,List.mem_cons]at hk
   rw[List.mem_append]
   rcases hk with hk|hk|hk
   ·exact .inl hk
   ·exact absurd (hk.trans e) il
   ·exact .inr hk
section
variable {P:Program}{o:Nat->ab}{t:TypeId}{id:Nat}{n:Int}{v:V}
def tg(P:Program)(kt:TypeId):Bool:=match cm P kt with|some .int=>true|_=>false
theorem zY{kt:TypeId}(h:tg P kt=true):cm P kt=some .int:=by
 unfold tg at h;split at h
 ·assumption
 ·cases h
@[go_sem] theorem acm {kt:TypeId} (h:cm P kt=some .int):tg P kt=true:=by unfold tg;rw[h]
def aa3(P:Program)(o:Nat->ab)(t:TypeId)(id:Nat)(n:Int)(v:V):Option gY:=
 match qP P t,eI o v,o id with
 |some (kt,_),some vd, .map Hd He l=>match tg P kt&&isI l&&v.ids.all (· !=id)with
  |true=>some (.cn [],dw o v.ids++[(id, .map Hd He (enc (D.int .i64) (yd n vd (J7 l))))],id::v.ids)
  |false=>rK P o t (.mp id) (.d (.int .i64 n)) v
 |_,_,_=>rK P o t (.mp id) (.d (.int .i64 n)) v
@[go_sem high] theorem aa4:gO P o t (.mp id) (.d (.int .i64 n)) v=aa3 P o t id n v:=by
  unfold aa3
  split
  ·rename_i kt vt vd Hd He l h1 h2 h3
   split
   ·rename_i hc
    simp only[Bool.and_eq_true]at hc
    obtain⟨⟨c1,c2⟩,c3⟩:=hc
    have c4:=zY c1
    have c5:eI o (.d (.int .i64 n))=some (.int .i64 n):=rfl
    have hl:=BJ c2
    unfold gO
    simp only[h1,c5,h2,pG,h3]
    rw[if_pos ⟨rfl,H6 c4 n,rfl,c3⟩]
    conv=>lhs;rw[<- hl]
    rw[D5 c4]
    unfold yd
    cases gC n (J7 l) 0 with
    |none=>simp[ye,enc]
    |some p=>simp[ye,H7,D.same,pF]
   ·exact zO ..
  ·exact zO ..
attribute [go_sem] aa3
def isS(l:List (D×D)):Bool:=l.all fun p=>match p.2 with| .bool true=>true|_=>false
@[go_sem] theorem ahv (l:List Int):isS (enc (D.int .i64) (iT l))=true:=by simp[isS,enc,iT]
@[go_sem] theorem ahw:isS []=true:=rfl
theorem Ig:∀ {m:List (Int×D)},isS (enc (D.int .i64) m)=true->iT (m.map (·.1))=m
 |[],_=>rfl
 |(k,x)::m,h=>by
  simp only[isS,enc,List.map_cons,List.all_cons,Bool.and_eq_true]at h
  have ih:=Ig (m:=m) h.2
  have h1:x= .bool true:=by
   have h1:=h.1
   split at h1
   ·rfl
   ·cases h1
  simp only[iT,List.map_cons]at ih|-
  rw[ih,h1]
def Ov(P:Program)(o:Nat->ab)(t:TypeId)(m:V)(n:Int)(ok:Bool):Option gY:=
 match qP P t with
 |some (kt,vt)=>match zeroV P vt with
  |some (.d (.bool false))=>match qQ o m with
   |some (rd,l)=>match tg P kt&&isI l&&isS l with
    |true=>some (match ok with|true=> .cn [.d (.bool (((J7 l).map (·.1)).contains n)), .d (.bool (((J7 l).map (·.1)).contains n))]|false=> .d (.bool (((J7 l).map (·.1)).contains n)),[],rd)
    |false=>wE P o t m (.d (.int .i64 n)) ok
   |none=>wE P o t m (.d (.int .i64 n)) ok
  |_=>wE P o t m (.d (.int .i64 n)) ok
 |none=>wE P o t m (.d (.int .i64 n)) ok
@[go_sem] theorem Ow (l:List Int):((iT l).map (·.1))=l:=by simp[iT,Function.comp_def]
@[go_sem high] theorem agR {m:V} {ok:Bool}:jz P o t m (.d (.int .i64 n)) ok=Ov P o t m n ok:=by
  unfold Ov
  split
  ·rename_i kt vt h1
   split
   ·rename_i hz
    split
    ·rename_i rd l h
     split
     ·rename_i hc
      simp only[Bool.and_eq_true]at hc
      have c4:=zY hc.1.1
      have hl:=BJ hc.1.2
      have hs:iT ((J7 l).map (·.1))=J7 l:=Ig (by rw[hl];exact hc.2)
      have c5:eI o (.d (.int .i64 n))=some (.int .i64 n):=rfl
      unfold jz
      simp only[h1,c5,h]
      rw[if_pos ⟨rfl,H6 c4 n⟩]
      conv=>lhs;rw[<- hl]
      rw[D5 c4, <- hs,mi,Ow]
      generalize (J7 l).map (·.1)=l'
      cases hf:l'.findIdx? (· ==n)with
      |none=>
       have:l'.contains n=false:=by
        rw[List.findIdx?_eq_none_iff]at hf
        rw[Bool.eq_false_iff];intro hc
        have:=hf n (by simpa using hc)
        simp at this
       cases ok<;>simp only[Option.map_none,ye,hz,this,if_true,Bool.false_eq_true,if_false]
      |some j=>
       rw[List.findIdx?_eq_some_iff_getElem]at hf
       obtain⟨hj,he,_⟩:=hf
       have e:l'[j]=n:=by simpa using he
       have:l'.contains n=true:=by rw[List.contains_iff_mem, <- e];exact List.getElem_mem hj
       cases ok<;>simp only[Option.map_some,ye,this,if_true,Bool.false_eq_true,if_false]
     ·exact oZ ..
    ·exact oZ ..
   ·exact oZ ..
  ·exact oZ ..
attribute [go_sem] Ov
end
theorem zZ{K:V->List (Nat×ab)->Prop}{id:Nat}{l:List Int}(h0:l=[]->K (.cn [.d (.bool false)]) [])
 (h1:∀ (i:Nat) n,l[i]? =some n->K (.cn [.d (.bool true), .d (.int .i64 n), .d (.bool true)]) [(id, .nD (enc (D.int .i64) (iT (l.eraseIdx i))) (some (.int .i64 n, .bool true)))]):Dz K id (enc (D.int .i64) (iT l)):=by
 refine zM _ (fun h=>h0 ?_) fun i k x h=> ?_
 ·cases l with
  |nil=>rfl
  |cons x l=>simp[iT]at h
 ·unfold iT at h|-
  rw[List.getElem?_map]at h
  cases hl:l[i]? with
  |none=>rw[hl]at h;cases h
  |some n=>
   rw[hl]at h
   simp at h
   obtain⟨rfl,rfl⟩:=h
   have:=h1 i n hl
   rw[iU]
   exact this
theorem wP{l:List Int}{i:Nat}{n:Int}(h:l[i]? =some n):(∀v,v∈l↔v=n\/v∈l.eraseIdx i)/\(l.eraseIdx i).length+1=l.length:=by
 obtain⟨hi,e⟩:=List.getElem?_eq_some_iff.1 h
 refine⟨fun v=> ?_,by rw[List.length_eraseIdx];simp[hi];omega⟩
 have vF:l=l.take i++n::l.drop (i+1):=by rw[<- e,List.getElem_cons_drop,List.take_append_drop]
 rw[List.eraseIdx_eq_take_drop_succ]
 conv=>lhs;rw[vF]
 simp only[List.mem_append,List.mem_cons]
 constructor
 ·rintro(h|h|h)
  ·exact .inr (.inl h)
  ·exact .inl h
  ·exact .inr (.inr h)
 ·rintro(h|h|h)
  ·exact .inr (.inl h)
  ·exact .inl h
  ·exact .inr (.inr h)
attribute [go_sem] List.head?_cons
end
theorem Ox(a b:List Tm)(ha:a.length<=9223372036854775807)(hb:b.length<=9223372036854775807)(g:Nat)(h:∀x∈a,∀y∈b,aQ Tryz.prog g [x.d,y.d] (.ret [.bool (aJ x y)]))(o:Nat->ab)(nx:Nat)(hg:Good o nx)(K X:V->(Nat->ab)->Nat->Prop)
 (hK:∀o' nx',nx<=nx'->Good o' nx'->(∀j,j<nx->o' j=o j)->K (.d (.bool (a.length==b.length&&hY a b))) o' nx'):
 cR Tryz.prog 114 [.d (.sl (a.map Tm.d)), .d (.sl (b.map Tm.d)), .func (.func g) [] []] o nx K X:=by
 refine cR.ay mix N0 ao ?_
 rw[RK]
 refine iZ ?_
 refine aj (fun h1=> ?_) (fun h1=> ?_)
 ·refine aU ?_
  have:(a.length==b.length&&hY a b)=false:=by
   have:(a.length==b.length)=false:=by
    exact Mw
   rw[this];rfl
  exact G9
 ·have hl:a.length=b.length:=by simp at h1;omega
  have jZ:(a.length==b.length)=true:=by simpa using hl
  rw[jZ,Bool.true_and]at hK
  refine iZ ?_
  refine aH (fun k:Nat=>⟨br [.d (.sl (a.map Tm.d)), .d (.sl (b.map Tm.d)), .func (.func g) [] [], .aa, .aa, .aa, .aa, .aa, .aa, .aa, .aa, .aa, .aa, .aa, .aa, .d (.sl (a.map Tm.d)), .d (.i a.length), .d (.i k)],o,nx⟩)
   (fun k=>k<=a.length/\∀i,i<k->∀x y,a[i]? =some x->b[i]? =some y->aJ x y=true) (fun k=>a.length - k) 0 ⟨Nat.zero_le _,fun i h=>af⟩ (bM.b9 _ (Nat.le_refl _) af hg (fun _ _=>rfl) ?_) (fun k hk=> ?_)
  ·exact dc
  refine aU ?_
  refine aj (fun h2=> ?_) (fun h2=> ?_)
  ·simp at h2
   obtain⟨x,hx⟩:=ai h2
   obtain⟨y,hy⟩:=ai (l:=b) (k:=k) af
   refine Xh hx hy ?_
   refine ah (h x (List.mem_of_getElem? hx) y (List.mem_of_getElem? hy)) rfl ?_
   refine aU ?_
   refine aj (fun h3=> ?_) (fun h3=> ?_)
   ·refine aU ?_
    simp at h3
    have:hY a b=false:=by
     rw[Bool.eq_false_iff];intro h4
     have:=(js _ _ hl).1 h4 k x y hx hy
     rw[h3]at this;cases this
    exact TA
   ·refine aU ?_
    simp at h3
    refine au (k+1) ⟨h2,fun i hi u v hu hv=> ?_⟩ af (bM.b9 _ (Nat.le_refl _) af hg (fun j hj=>by(repeat(first|rfl|rw[ae]|rw[ak _ _ _ _ (by omega)]))) ?_)
    ·by_cases e:i=k
     ·subst e
      rw[hx]at hu;rw[hy]at hv
      exact Td
     ·exact hk.2 i af u v hu hv
    ·exact dc
  ·refine aU ?_
   simp at h2
   have:hY a b=true:=(js _ _ hl).2 fun i x y hx hy=>hk.2 i LM x y hx hy
   exact G9
theorem aa5(n:Int):aQ Tryz.prog 81 [.i n] (.ret [(Tm.mk 1 n []).d]):=by
 refine aQ.ay mix aeG ao ?_
 rw[c81]
 refine aU ?_
 rw[Tm.jS]
 rfl
def lk:List (Int×Int)->Int->Option Int
 |[],_=>none
 |p::m,v=>if p.1=v then some p.2 else lk m v
abbrev uG(m:List (Int×Int)):Prop:=(m.map (·.1)).Nodup
theorem Ih{m:List (Int×Int)}{v k:Int}(hk:uG m):lk m v=some k↔(v,k)∈m:=by
 induction m with
 |nil=>simp[lk]
 |cons p m ih=>
  rw[uG,List.map_cons,List.nodup_cons]at hk
  simp only[lk,List.mem_cons]
  by_cases h:p.1=v
  ·rw[if_pos h]
   constructor
   ·intro e;injection e with e;exact .inl (by rw[<- h, <- e])
   ·rintro(e|e)
    ·rw[<- e]
    ·exact absurd (h ▸ List.mem_map.2 ⟨_,e,rfl⟩) hk.1
  ·rw[if_neg h,ih hk.2]
   constructor
   ·exact .inr
   ·rintro(e|e)
    ·exact absurd (by rw[<- e]) h
    ·exact e
def ints(m:List (Int×Int)):List (Int×D):=m.map fun p=>(p.1,D.i p.2)
theorem th:∀ (m:List (Int×Int)) (v:Int) (i:Nat),(match gC v (ints m) i with|some (_,x)=>some x|none=>none)=(lk m v).map D.i
 |[],v,i=>rfl
 |p::m,v,i=>by
  have ih:=th m v (i+1)
  simp only[ints,List.map_cons,gC,lk]at ih|-
  by_cases h:v=p.1
  ·subst h;simp
  ·have h2: ¬p.1=v:=fun e=>h e.symm
   simp only[beq_iff_eq,h,h2,if_false]
   exact ih
theorem mS{m:List (Int×Int)}{v k:Int}(h:lk m v=some k):∃j,gC v (ints m) 0=some (j,D.i k):=by
 have:=th m v 0
 rw[h]at this
 cases ha:gC v (ints m) 0 with
 |none=>rw[ha]at this;cases this
 |some p=>obtain⟨j,x⟩:=p;rw[ha]at this;simp at this;exact⟨j,by rw[this]⟩
theorem mT{m:List (Int×Int)}{v:Int}(h:lk m v=none):gC v (ints m) 0=none:=by
 have:=th m v 0
 rw[h]at this
 cases ha:gC v (ints m) 0 with
 |none=>rfl
 |some p=>obtain⟨j,x⟩:=p;rw[ha]at this;cases this
def iE(m:List (Int×Int))(v:Int):Int:=(lk m v).getD 0
def lU:List (Int×Int)->Int->Int->List (Int×Int)
 |[],v,w=>[(v,w)]
 |p::m,v,w=>if p.1=v then(v,w)::m else p::lU m v w
theorem Ee(v:Int):∀ (m:List (Int×D)) (i:Nat),gC v m (i+1)=(gC v m i).map fun p=>(p.1+1,p.2)
 |[],_=>rfl
 |p::m,i=>by
  have ih:=Ee v m (i+1)
  simp only[gC]
  by_cases h:(v==p.1)=true
  ·simp[h]
  ·simp only[h,if_false];exact ih
theorem J8{v:Int}{p:Int×D}{m:List (Int×D)}{x:D}(h: ¬v=p.1):yd v x (p::m)=p::yd v x m:=by
 have hb: ¬ ((v==p.1)=true):=by simpa using h
 unfold yd
 simp only[gC,hb,if_false]
 rw[Ee]
 cases gC v m 0 with
 |none=>rfl
 |some q=>obtain⟨i,y⟩:=q;rfl
theorem mj:∀ (m:List (Int×Int)) (v w:Int),yd v (D.i w) (ints m)=ints (lU m v w)
 |[],v,w=>by simp[yd,gC,ints,lU]
 |p::m,v,w=>by
  have ih:=mj m v w
  by_cases h:p.1=v
  ·subst h
   simp[yd,gC,ints,lU]
  ·have h': ¬v=p.1:=fun e=>h e.symm
   have e2:ints (p::m)=(p.1,D.i p.2)::ints m:=rfl
   rw[e2,J8 h',ih]
   simp[lU,h,ints]
def uH(m:List (Int×Int))(v:Int):List (Int×Int):=lU m v (IntKind.i64.wrap (iE m v+1))
@[reducible] def rN (m:List (Int×Int)):ab:= .map 3 3 (enc (D.int .i64) (ints m))
def eF(op:Int)(m:List (Int×Int))(x:Tm):List (Int×Int):=if x.op=op then uH m x.n else m
def agS(R:List (Int×Int)->Prop)(o:Nat->ab)(nx:Nat)(K:V->(Nat->ab)->Nat->Prop):Prop:=
 ∀o' nx' id m,nx<=id->id<nx'->Good o' nx'->(∀j,j<nx->o' j=o j)->o' id=rN m->R m->K (.mp id) o' nx'
theorem aa6(t:Tm)(ht:t.fits)(o:Nat->ab)(nx:Nat)(hg:Good o nx)(K X:V->(Nat->ab)->Nat->Prop)
 (hK:agS (fun m=>m=(ja t).foldl (eF 8) []) o nx K):cR Tryz.prog 190 [.d t.d] o nx K X:=by
 refine cR.ay mix Wh ao ?_
 rw[aag]
 refine iZ ?_
 refine cW (zW t _ _ _ _ ?_)
 refine iZ ?_
 have hG:∀j,j<nx+10->aM (aM (aM (aM (aM o nx (.row [.d (.i t.op), .d (.i t.n), .d (.sl (t.kids.map Tm.d))])) (nx+2) (.map 3 3 [])) (nx+3) (.row [.d .jD])) (nx+3) (.row [.mp (nx+2)])) (nx+6) (.row t.row) j=aM (aM (aM (aM o nx (.row t.row)) (nx+3) (.row [.mp (nx+2)])) (nx+6) (.row t.row)) (nx+2) (rN []) j:=by
  intro j _
  exact Qs
 refine rM (σ:=List (Int×Int)) t ht [.aa, .ptr nx 0, .aa, .ptr (nx+3) 0] ?_ bG rfl dE nk (ae _ _ _)
  (fun s=>aM (aM (aM (aM o nx (.row t.row)) (nx+3) (.row [.mp (nx+2)])) (nx+6) (.row t.row)) (nx+2) (rN s)) (fun _=>none) (eF 8) (fun _=>True) [] trivial rfl hG (fun _ _ _ _ _ _=>trivial) ?_ ?_
 ·exact Lx
 ·intro L hL yu x hx s' _ _ o3 n3 hI hn Lh K' X' db
  simp only[nY]
  have hg:=hI.bX
  have hle:=hI.le
  have q1:o3 (nx+3)= .row [.mp (nx+2)]:=by rw[hI.eq (nx+3) (by omega)];(repeat(first|rfl|rw[ae]|rw[ak _ _ _ _ (by omega)]))
  have q2:o3 (nx+2)=rN s':=by rw[hI.eq (nx+2) (by omega)];(repeat(first|rfl|rw[ae]|rw[ak _ _ _ _ (by omega)]))
  refine aU ?_
  refine oz hL (pd:=none) ?_ ?_
  ·(repeat(first|rfl|rw[ae]|rw[ak _ _ _ _ (by omega)]))
   exact Lh
  refine xB q1 q2 ?_
  have z1:nx≠n3:=af
  have z2:∀k,nx≠n3+k:=fun k=>af
  have z3:nx+2≠n3:=af
  have z4:nx+3≠n3:=af
  have same:∀ (o':Nat->ab) (n':Nat) (l:List (Int×Int)),Good o' n'->n3<=n'->(∀j,j<nx+10->o' j=aM o3 (nx+2) (rN l) j)->c0 (nx+10) (aM (aM (aM (aM o nx (.row t.row)) (nx+3) (.row [.mp (nx+2)])) (nx+6) (.row t.row)) (nx+2) (rN l)) o' n':=fun o' n' l k1 k2 k3=>⟨k1,af,fun j hj=>by
   rw[k3 j hj]
   by_cases e:j=nx+2
   ·subst e;rw[ae,ae]
   ·rw[ak _ _ _ _ e,ak _ _ _ _ e,hI.eq j hj,ak _ _ _ _ e]⟩
  refine aj (fun h3=> ?_) (fun h3=> ?_)
  ·have sR:x.op=8:=by simpa using h3
   have hp:eF 8 s' x=uH s' x.n:=by unfold eF;rw[if_pos sR]
   rw[hp]at db
   cases R6:lk s' x.n with
   |none=>
    have hc:uH s' x.n=lU s' x.n (0+1):=by unfold uH iE;rw[R6];rfl
    rw[hc]at db
    simp+contextual (disch:=first|omega|simp only[go_sem,false_implies]) only[go_sem,wrap64,if_pos,q1,q2,z1,z2,z3,z4,mT R6,mj,Nat.add_assoc,Nat.left_eq_add,Nat.add_eq_left,Nat.add_left_cancel_iff]
    refine db _ _ _ .busy none af (same _ _ _ dE af fun j hj=> ?_) dn (fun j h3 h4=>by(repeat(first|rfl|rw[ae]|rw[ak _ _ _ _ (by omega)])))
    by_cases e:j=nx+2
    ·exact Ck
    ·exact dn
   |some c=>
    obtain⟨k,hk⟩:=mS R6
    have hc:uH s' x.n=lU s' x.n (IntKind.i64.wrap (c+1)):=by unfold uH iE;rw[R6];rfl
    rw[hc]at db
    simp+contextual (disch:=first|omega|simp only[go_sem,false_implies]) only[go_sem,wrap64,if_pos,q1,q2,z1,z2,z3,z4,hk,mj,Nat.add_assoc,Nat.left_eq_add,Nat.add_eq_left,Nat.add_left_cancel_iff]
    refine db _ _ _ .busy none af (same _ _ _ dE af fun j hj=> ?_) dn (fun j h3 h4=>by(repeat(first|rfl|rw[ae]|rw[ak _ _ _ _ (by omega)])))
    by_cases e:j=nx+2
    ·exact Ck
    ·exact dn
  ·have hp:eF 8 s' x=s':=by unfold eF;rw[if_neg (by simpa using h3)]
   rw[hp]at db
   refine aU ?_
   refine db _ _ _ .busy none af (same _ _ _ dE af fun j hj=> ?_) dn (fun j h3 h4=>by(repeat(first|rfl|rw[ae]|rw[ak _ _ _ _ (by omega)])))
   by_cases e:j=nx+2
   ·exact T8
   ·exact dn
 ·intro o' n' hI
  have hle:=hI.le
  simp only[qd]
  have q1:o' (nx+3)= .row [.mp (nx+2)]:=by rw[hI.eq (nx+3) (by omega)];(repeat(first|rfl|rw[ae]|rw[ak _ _ _ _ (by omega)]))
  refine cf q1 ?_
  have Ce:∀ (l:List Tm) (m:List (Int×Int)),(aC (BI (fun _=>none) (eF 8)) m l).1=l.foldl (eF 8) m:=by
   intro l
   induction l with
   |nil=>intro m;rfl
   |cons y l ih=>intro m;simp only[aC,BI,Option.isNone_none,if_true];exact ih _
  rw[Ce]at hI
  refine hK _ _ _ _ af af (hI.bX.mono af) (fun j hj=> ?_) (by rw[hI.eq (nx+2) (by omega),ae]) rfl
  rw[hI.eq j (by omega)];(repeat(first|rfl|rw[ae]|rw[ak _ _ _ _ (by omega)]))
theorem Eg(l:List Tm)(hl:l.length<=1000000)(hf:∀t∈l,t.fits)(o:Nat->ab)(nx:Nat)(hg:Good o nx)(K X:V->(Nat->ab)->Nat->Prop)
 (hK:agS (fun m=>m=(l.flatMap ja).foldl (eF 1) []) o nx K):cR Tryz.prog 189 [.d (.sl (l.map Tm.d))] o nx K X:=by
 refine cR.ay mix Wg ao ?_
 rw[aaf]
 refine Xe ?_
 let Hm:List (Int×Int)->Nat->ab:=fun m=>aM (aM o (nx+2) (.row [.mp (nx+1)])) (nx+1) (rN m)
 have hgm:∀m,Good (Hm m) (nx+7):=fun m=>((hg.mono af).aM af iX).aM af rfl
 have Yb:∀m,Hm m (nx+1)=rN m:=fun m=>ae _ _ _
 have Qb:∀m,Hm m (nx+2)= .row [.mp (nx+1)]:=fun m=>by show aM _ (nx+1) _ (nx+2)=_;rw[ak _ _ _ _ (by omega),ae]
 have xY:∀m j,j≠nx+1->Hm m j=Hm [] j:=fun m j h=>by show aM _ (nx+1) _ j=aM _ (nx+1) _ j;rw[ak _ _ _ _ h,ak _ _ _ _ h]
 refine aH (fun i:Nat×List (Int×Int)=>⟨br [.aa, .aa, .aa, .ptr (nx+2) 0, .aa, .aa, .aa, .aa, .d (.sl (l.map Tm.d)), .d (.i l.length), .d (.i i.1)],Hm i.2,nx+7⟩)
  (fun i=>i.1<=l.length/\i.2=((l.take i.1).flatMap ja).foldl (eF 1) []) (fun i=>l.length - i.1) (0,[]) ⟨Nat.zero_le _,rfl⟩ (bM.b9 _ (show nx<=nx+7 from af) af (hgm _) (fun j hj=> ?_) ?_) ?_
 ·show _=aM (aM o (nx+2) (.row [.mp (nx+1)])) (nx+1) (rN []) j
  exact Qs
 ·exact dc
 rintro⟨k,m⟩ ⟨hk,hm⟩
 simp only at hk hm
 refine aU ?_
 refine aj (fun h2=> ?_) (fun h2=> ?_)
 ·simp at h2
  obtain⟨x,hx⟩:=ai h2
  have cp:=List.mem_of_getElem? hx
  have lX:((l.take (k+1)).flatMap ja).foldl (eF 1) []=(ja x).foldl (eF 1) m:=by
   rw[List.take_add_one,hx,hm];simp
  have aji:=hgm m
  have e1:=Yb m
  have e2:=Qb m
  have e3:=xY m
  clear_value Hm
  refine Ch hx ?_
  refine cW (zW x _ _ _ _ ?_)
  refine iZ ?_
  let G:List (Int×Int)->Nat->ab:=fun s=>aM (aM (aM (Hm m) (nx+10) (.row x.row)) (nx+13) (.row x.row)) (nx+1) (rN s)
  have hG:∀j,j<nx+17->aM (aM (aM (Hm m) (nx+10) (.row [.d (.int .i64 0), .d (.int .i64 0), .bO])) (nx+10) (.row [.d (.i x.op), .d (.i x.n), .d (.sl (x.kids.map Tm.d))])) (nx+13) (.row x.row) j=G m j:=by
   intro j _
   show _=aM (aM (aM (Hm m) (nx+10) (.row x.row)) (nx+13) (.row x.row)) (nx+1) (rN m) j
   by_cases e:j=nx+1
   ·subst e;(repeat(first|rfl|rw[ae]|rw[ak _ _ _ _ (by omega)]))
    exact e1
   ·rw[ak _ (nx+1) _ _ e,jB]
  have gm:∀s,G s (nx+1)=rN s:=fun s=>ae _ _ _
  have g2:∀s,G s (nx+2)= .row [.mp (nx+1)]:=fun s=>by
   show aM _ (nx+1) _ (nx+2)=_
   rw[ak _ _ _ _ (by omega),ak _ _ _ _ (by omega),ak _ _ _ _ (by omega)];exact e2
  have g3:∀s s' j,j≠nx+1->G s j=G s' j:=fun s s' j h=>by show aM _ (nx+1) _ j=aM _ (nx+1) _ j;rw[ak _ _ _ _ h,ak _ _ _ _ h]
  have g4:∀s j,j<nx+7->j≠nx+1->G s j=Hm m j:=fun s j h h'=>by
   show aM _ (nx+1) _ j=_
   rw[ak _ _ _ _ h',ak _ _ _ _ (by omega),ak _ _ _ _ (by omega)]
  clear_value G
  have hg:=aji
  refine rM (σ:=List (Int×Int)) x (hf x cp) [.aa, .aa, .aa, .ptr (nx+2) 0, .aa, .aa, .aa, .aa, .d (.sl (l.map Tm.d)), .d (.i l.length), .d (.i k)] ?_ bG rfl dE nk (ae _ _ _)
   G (fun _=>none) (eF 1) (fun _=>True) m trivial rfl hG (fun _ _ _ _ _ _=>trivial) ?_ ?_
  ·exact Lx
  ·intro L hL yu y hy s' _ _ o3 n3 hI hn Lh K' X' db
   simp only[nY]
   have hg:=hI.bX
   have hle:=hI.le
   have q1:o3 (nx+2)= .row [.mp (nx+1)]:=by rw[hI.eq (nx+2) (by omega),g2]
   have q2:o3 (nx+1)=rN s':=by rw[hI.eq (nx+1) (by omega),gm]
   have z1:nx≠n3:=af
   have z2:∀k,nx≠n3+k:=fun k=>af
   have z3:nx+2≠n3:=af
   have z4:nx+1≠n3:=af
   have same:∀ (o':Nat->ab) (n':Nat) (l:List (Int×Int)),Good o' n'->n3<=n'->(∀j,j<nx+17->o' j=aM o3 (nx+1) (rN l) j)->c0 (nx+17) (G l) o' n':=fun o' n' l k1 k2 k3=>⟨k1,af,fun j hj=>by
    rw[k3 j hj]
    by_cases e:j=nx+1
    ·subst e;rw[ae,gm]
    ·rw[ak _ _ _ _ e,hI.eq j hj];exact g3 _ _ _ e⟩
   refine aU ?_
   refine oz hL (pd:=none) ?_ ?_
   ·(repeat(first|rfl|rw[ae]|rw[ak _ _ _ _ (by omega)]))
    exact Lh
   refine xB q1 q2 ?_
   refine aj (fun h3=> ?_) (fun h3=> ?_)
   ·have sR:y.op=1:=by simpa using h3
    have hp:eF 1 s' y=uH s' y.n:=by unfold eF;rw[if_pos sR]
    rw[hp]at db
    cases R6:lk s' y.n with
    |none=>
     have hc:uH s' y.n=lU s' y.n (0+1):=by unfold uH iE;rw[R6];rfl
     rw[hc]at db
     simp+contextual (disch:=first|omega|simp only[go_sem,false_implies]) only[go_sem,wrap64,if_pos,q1,q2,z1,z2,z3,z4,mT R6,mj,Nat.add_assoc,Nat.left_eq_add,Nat.add_eq_left,Nat.add_left_cancel_iff]
     refine db _ _ _ .busy none af (same _ _ _ dE af fun j hj=> ?_) dn (fun j h3 h4=>by(repeat(first|rfl|rw[ae]|rw[ak _ _ _ _ (by omega)])))
     by_cases e:j=nx+1
     ·exact Ck
     ·exact dn
    |some c=>
     obtain⟨q,hq⟩:=mS R6
     have hc:uH s' y.n=lU s' y.n (IntKind.i64.wrap (c+1)):=by unfold uH iE;rw[R6];rfl
     rw[hc]at db
     simp+contextual (disch:=first|omega|simp only[go_sem,false_implies]) only[go_sem,wrap64,if_pos,q1,q2,z1,z2,z3,z4,hq,mj,Nat.add_assoc,Nat.left_eq_add,Nat.add_eq_left,Nat.add_left_cancel_iff]
     refine db _ _ _ .busy none af (same _ _ _ dE af fun j hj=> ?_) dn (fun j h3 h4=>by(repeat(first|rfl|rw[ae]|rw[ak _ _ _ _ (by omega)])))
     by_cases e:j=nx+1
     ·exact Ck
     ·exact dn
   ·have hp:eF 1 s' y=s':=by unfold eF;rw[if_neg (by simpa using h3)]
    rw[hp]at db
    refine aU ?_
    refine db _ _ _ .busy none af (same _ _ _ dE af fun j hj=> ?_) dn (fun j h3 h4=>by(repeat(first|rfl|rw[ae]|rw[ak _ _ _ _ (by omega)])))
    by_cases e:j=nx+1
    ·exact T8
    ·exact dn
  ·intro o' n' hI
   have hle:=hI.le
   simp only[qd]
   have Ce:∀ (l:List Tm) (m:List (Int×Int)),(aC (BI (fun _=>none) (eF 1)) m l).1=l.foldl (eF 1) m:=by
    intro l
    induction l with
    |nil=>intro m;rfl
    |cons y l ih=>intro m;simp only[aC,BI,Option.isNone_none,if_true];exact ih _
   rw[Ce]at hI
   refine aU ?_
   refine au (k+1,(ja x).foldl (eF 1) m) ⟨h2,lX.symm⟩ pt (bM.b9 _ (show nx<=nx+7 from af) af (hgm _) (fun j hj=> ?_) ?_)
   ·rw[hI.eq j (by omega)]
    by_cases e:j=nx+1
    ·subst e;rw[gm,Yb]
    ·rw[g4 _ _ hj e,e3 j e];exact(xY _ j e).symm
   ·exact dc
 ·simp at h2
  rw[List.take_of_length_le h2]at hm
  refine cf Qb ?_
  exact hK _ _ _ _ af af ((hgm _).mono af) (fun j hj=>by show aM _ (nx+1) _ j=_;rw[ak _ _ _ _ (by omega),ak _ _ _ _ (by omega)]) (Yb m) hm
section
section
variable {B:Nat->Prop}{w:World}
end
theorem aQ.ub {P:Program}{f:FuncId}{ds:List D}{out:D}(h:cR P f (ds.map .d) (fun _=> .no) 0 (fun v o _=>∃x,eI o v=some x/\∀B w val,D.den B w x val->D.den B w out val) (fun _ _ _=>False)):aQ P f ds (.ret [out]):=by
 refine⟨h.1,fun M w vals hM hd=> ?_⟩
 let cU:Place:=fun _=> .nilFunc
 have x7:∀b, ¬dt cU (hp (fun _=> .no) 0) b:=by rintro b ⟨id,hl,_⟩;simp[hp,ab.live]at hl
 refine(h.2 M cU w vals (mb cU hM) ((V.cM _ _).2 (D.bg (w:=w) (w':=w) (B:=M) (fun b _ hB=>⟨rfl,fun h=>h.elim hB (x7 b)⟩) _ _ hd))).mono ?_
 rintro e w' ⟨aS,o',nx',v,k1,k2,k3⟩
 have zg:fg (fun _=>False) w w':=⟨k2.keep.os,k2.keep.tape,k2.keep.output,k2.keep.size,fun k hk _=>k2.keep.block k hk (x7 k)⟩
 refine⟨zg, ?_⟩
 cases e with
 |outgrown=>exact k3.elim
 |panicked ch=>obtain⟨_,_,_,h⟩:=k3;exact h.elim
 |returned val=>
  obtain⟨g1,x,g2,g3⟩:=k3
  obtain⟨f1,f2,f3,f4,f5⟩:=dH k1 v.ids (fun id aG=>dA v val g1 id aG)
  have h3:=gP f1 (o:=o') v x val (fun id aG=>f3 id aG) g2 (V.bc f2 _ _ g1)
  exact g3 _ _ _ (D.bc (w:=w') (w':=w') (fun k _ hB=>⟨rfl,fun hM=>hB (.inl hM)⟩) x val h3)
end
end Go.Proofs.YtonbelhklnmjnaaGreat
