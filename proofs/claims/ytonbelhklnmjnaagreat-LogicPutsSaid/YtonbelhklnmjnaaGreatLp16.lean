/-
  A PART OF THE PROOF. Conditions: none.
-/
import Derived.Test.YtonbelhklnmjnaaGreatLp15
set_option linter.unusedSimpArgs false
set_option linter.unusedVariables false
namespace Go.Proofs.YtonbelhklnmjnaaGreat
def mb(s:aO)(t:Tm):Bool:=
 let k:Int:=t.kids.length
 if t.op=16 then t.n==0&&k==0
 else if t.op=1 then cF t.n 0 199&&k==0
 else if t.op=2 then cF t.n (-1000000) 1000000&&k==0
 else if t.op=3 then cF t.n 0 (s.cons.length - 1)&&k==dN s.cons t.n
 else if t.op=5 then cF t.n 0 (s.bR.length - 1)&&decide (k<dN s.bR t.n)
 else false
mutual
def v7(s:aO):Tm->Bool
 | .mk op n kids=>G9 s kids&&mb s (.mk op n kids)
def G9(s:aO):List Tm->Bool
 |[]=>true
 |k::l=>v7 s k&&G9 s l
end
theorem yW(s:aO):∀l:List Tm,G9 s l=l.all (v7 s)
 |[]=>rfl
 |k::l=>by rw[G9,yW s l];rfl
theorem uy(s:aO)(t:Tm):v7 s t=(t.kids.all (v7 s)&&mb s t):=by cases t;rw[v7,yW];rfl
def p8(s:aO)(t:Tm):Bool:=decide (0<=eB t 80 30)&&v7 s t
def Pn(s:aO)(t:Tm):Prop:=v7 s t=true
theorem pS{s:aO}{t:Tm}:Pn s t↔mb s t=true/\∀k∈t.kids,Pn s k:=by
 unfold Pn;rw[uy,Bool.and_eq_true,List.all_eq_true];exact and_comm
theorem Pn.kH {s:aO}{t k:Tm}(h:Pn s t)(hk:k∈t.kids):Pn s k:=(pS.1 h).2 k hk
theorem Hc{s:aO}{t:Tm}(h:mb s t=true)(h1:t.op=16\/t.op=1\/t.op=2):t.kids=[]/\(t.op=16->t.n=0):=by
 unfold mb at h
 rcases h1 with h1|h1|h1
 ·simp[h1]at h;exact⟨h.2,fun _=>h.1⟩
 ·simp[h1]at h;exact⟨h.2,fun e=>ah⟩
 ·simp[h1]at h;exact⟨h.2,fun e=>ah⟩
theorem Pn.bare {s:aO}{t:Tm}(h:Pn s t)(h1:t.op=16\/t.op=1\/t.op=2):t.kids=[]:=(Hc (pS.1 h).1 h1).1
theorem Pn.bot {s:aO}{t:Tm}(h:Pn s t)(h1:t.op=16):t= .mk 16 0 []:=by
 have h2:=Hc (pS.1 h).1 (.inl h1)
 rw[<- Tm.eta t,h1,h2.1,h2.2 h1]
mutual
def wX(s:aO):Tm->Int->Int->Bool×Int
 | .mk op n kids,left,d=>if left - 1<0\/d<=0\/mb s (.mk op n kids)=false then(false,left - 1)else sC s kids (left - 1) (d - 1)
def sC(s:aO):List Tm->Int->Int->Bool×Int
 |[],left,_=>(true,left)
 |k::l,left,d=>if(wX s k left d).1=true then sC s l (wX s k left d).2 d else(false,(wX s k left d).2)
end
theorem M3(s:aO)(t:Tm)(left d:Int):wX s t left d=if left - 1<0\/d<=0\/mb s t=false then(false,left - 1)else sC s t.kids (left - 1) (d - 1):=by cases t;rw[wX];rfl
theorem M4(s:aO):∀ (t:Tm) (left d:Int),(wX s t left d).1=(decide ((t.sz:Int)<=left/\(t.iN:Int)<=d)&&v7 s t)/\((wX s t left d).1=true->(wX s t left d).2=left - t.sz):=by
 refine Tm.bW fun t ih left d=> ?_
 have key:∀ (ks:List Tm) (left d:Int),(∀k∈ks,k∈t.kids)->0<=left->0<=d->(sC s ks left d).1=(decide ((fR ks:Int)<=left/\(Tm.fZ ks:Int)<=d)&&ks.all (v7 s))/\((sC s ks left d).1=true->(sC s ks left d).2=left - fR ks):=by
  intro ks
  induction ks with
  |nil=>intro left d _ h0 hd;simp[sC,fR,Tm.fZ];omega
  |cons k ks ihk=>
   intro left d BM h0 hd
   obtain⟨e1,e2⟩:=ih k (BM k ao) left d
   have hp:=Tm.sB k
   rw[db,oF]
   simp only[sC]
   by_cases h1:(wX s k left d).1=true
   ·rw[if_pos h1]
    have e3:=e2 h1
    rw[e1,Bool.and_eq_true,decide_eq_true_eq]at h1
    obtain⟨i1,i2⟩:=ihk (wX s k left d).2 d (fun x hx=>BM x lJ) ah hd
    rw[e3]at i1 i2|-
    refine⟨?_,fun h=>by have:=i2 h;omega⟩
    rw[i1,Bool.eq_iff_iff]
    simp only[List.all_cons,Bool.and_eq_true,decide_eq_true_eq,h1.2,true_and]
    have:Nat.max k.iN (Tm.fZ ks)=max k.iN (Tm.fZ ks):=rfl
    rw[this]
    constructor
    ·rintro⟨h2,h3⟩;exact⟨ah,h3⟩
    ·rintro⟨h2,h3⟩;exact⟨ah,h3⟩
   ·rw[if_neg h1]
    refine⟨?_,fun h=>by cases h⟩
    rw[e1]at h1
    show false=_
    symm
    rw[Bool.eq_false_iff]
    intro h2
    apply h1
    simp only[List.all_cons,Bool.and_eq_true,decide_eq_true_eq]at h2|-
    have:Nat.max k.iN (Tm.fZ ks)=max k.iN (Tm.fZ ks):=rfl
    rw[this]at h2
    exact⟨ah,h2.2.1⟩
 have hs:=Tm.ig t
 have hh:=Tm.vX t
 rw[M3]
 by_cases h1:left - 1<0\/d<=0\/mb s t=false
 ·rw[if_pos h1]
  refine⟨?_,fun h=>by cases h⟩
  show false=_
  symm
  rw[Bool.eq_false_iff]
  intro h2
  simp only[Bool.and_eq_true,decide_eq_true_eq,uy]at h2
  rcases h1 with h1|h1|h1
  ·omega
  ·omega
  ·rw[h1]at h2;exact absurd h2.2.2 ao
 ·rw[if_neg h1]
  have h2:mb s t=true:=by cases h:mb s t<;>simp_all
  obtain⟨i1,i2⟩:=key t.kids (left - 1) (d - 1) (fun _ h=>h) ah ah
  refine⟨?_,fun h=>by have:=i2 h;omega⟩
  rw[i1,uy,h2,Bool.and_true,Bool.eq_iff_iff]
  simp only[Bool.and_eq_true,decide_eq_true_eq]
  constructor
  ·rintro⟨h3,h4⟩;exact⟨ah,h4⟩
  ·rintro⟨h3,h4⟩;exact⟨ah,h4⟩
theorem aey(s:aO)(t:Tm):(wX s t 80 30).1=p8 s t:=by
 rw[(M4 s t 80 30).1,p8]
 congr 1
 rw[Bool.eq_iff_iff,decide_eq_true_eq,decide_eq_true_eq,dv]
mutual
def Dm:Tm->Int
 | .mk op _ kids=>if op=16 then 0 else if op=1 then 1 else tW kids 2
def tW:List Tm->Int->Int
 |[],out=>out
 |k::l,out=>tW l (min out (Dm k))
end
theorem M5(t:Tm):Dm t=if t.op=16 then 0 else if t.op=1 then 1 else tW t.kids 2:=by cases t;rw[Dm];rfl
mutual
def bS(op:Int):Tm->Bool
 | .mk o _ kids=>AW op kids&&o !=op
def AW(op:Int):List Tm->Bool
 |[]=>true
 |k::l=>bS op k&&AW op l
end
theorem v8(op:Int):∀l:List Tm,AW op l=l.all (bS op)
 |[]=>rfl
 |k::l=>by rw[AW,v8 op l];rfl
theorem gx(op:Int)(t:Tm):bS op t=(t.kids.all (bS op)&&t.op !=op):=by cases t;rw[bS,v8];rfl
theorem AX{s:aO}:∀t:Tm,Pn s t->(0<=Dm t/\Dm t<=2)/\(1<=Dm t↔bS 16 t=true)/\(Dm t=2↔bS 16 t=true/\bS 1 t=true):=by
 refine Tm.bW fun t ih hp=> ?_
 have key:∀ (ks:List Tm) (out:Int),(∀k∈ks,k∈t.kids)->0<=out->out<=2->(0<=tW ks out/\tW ks out<=2)/\(1<=tW ks out↔1<=out/\ks.all (bS 16)=true)/\(tW ks out=2↔out=2/\ks.all (bS 16)=true/\ks.all (bS 1)=true):=by
  intro ks
  induction ks with
  |nil=>intro out _ h0 h2;simp[tW,h0,h2]
  |cons k ks ihk=>
   intro out BM h0 h2
   obtain⟨⟨a1,a2⟩,a3,a4⟩:=ih k (BM k ao) (hp.kH (BM k ao))
   obtain⟨b1,b2,b3⟩:=ihk (min out (Dm k)) (fun x hx=>BM x lJ) ah ah
   simp only[tW,List.all_cons,Bool.and_eq_true]
   refine⟨b1, ?_, ?_⟩
   ·rw[b2, <- a3]
    constructor
    ·rintro⟨h1,h3⟩;exact⟨ah,ah,h3⟩
    ·rintro⟨h1,h3,h4⟩;exact⟨ah,h4⟩
   ·rw[b3]
    constructor
    ·rintro⟨h1,h3,h4⟩
     have h5:=a4.1 ah
     exact⟨ah,⟨h5.1,h3⟩,h5.2,h4⟩
    ·rintro⟨h1,⟨h3,h4⟩,h5,h6⟩
     have h7:=a4.2 ⟨h3,h5⟩
     exact⟨ah,h4,h6⟩
 rw[M5]
 by_cases h1:t.op=16
 ·rw[if_pos h1]
  have e:bS 16 t=false:=by rw[gx,h1];simp
  rw[e]
  refine⟨ah,⟨fun h=>ah,fun h=>by cases h⟩,⟨fun h=>ah,fun h=>by cases h.1⟩⟩
 ·rw[if_neg h1]
  by_cases h2:t.op=1
  ·rw[if_pos h2]
   have e0:=hp.bare (.inr (.inl h2))
   have e:bS 16 t=true:=by rw[gx,e0,h2];rfl
   have e2:bS 1 t=false:=by rw[gx,h2];simp
   rw[e,e2]
   exact⟨ah,⟨fun _=>rfl,fun _=>ah⟩,⟨fun h=>ah,fun h=>by cases h.2⟩⟩
  ·rw[if_neg h2]
   obtain⟨k1,k2,k3⟩:=key t.kids 2 (fun _ h=>h) ah ah
   refine⟨k1, ?_, ?_⟩
   ·rw[k2,gx];simp[h1]
   ·rw[k3,gx,gx 1];simp[h1,h2]
mutual
def Eh:Tm->Tm->Bool
 | .mk op n kids,b=>if op=16 then true else if op≠b.op\/n≠b.n\/kids.length≠b.kids.length then false else kR kids b.kids
def kR:List Tm->List Tm->Bool
 |[],_=>true
 |_::_,[]=>true
 |k::l,k'::l'=>Eh k k'&&kR l l'
end
theorem M6(a b:Tm):Eh a b=if a.op=16 then true else if a.op≠b.op\/a.n≠b.n\/a.kids.length≠b.kids.length then false else kR a.kids b.kids:=by cases a;rw[Eh];rfl
theorem uz{a b:Tm}:Eh a b=true↔a.op=16\/(a.op=b.op/\a.n=b.n/\a.kids.length=b.kids.length/\kR a.kids b.kids=true):=by
 rw[M6]
 by_cases h1:a.op=16
 ·simp[h1]
 ·rw[if_neg h1]
  by_cases h2:a.op≠b.op\/a.n≠b.n\/a.kids.length≠b.kids.length
  ·rw[if_pos h2]
   constructor
   ·intro h;cases h
   ·rintro(h|⟨h3,h4,h5,_⟩)
    ·exact absurd h h1
    ·rcases h2 with h|h|h<;>contradiction
  ·rw[if_neg h2]
   constructor
   ·intro h
    exact .inr ⟨Classical.byContradiction fun e=>h2 (.inl e),Classical.byContradiction fun e=>h2 (.inr (.inl e)),Classical.byContradiction fun e=>h2 (.inr (.inr e)),h⟩
   ·rintro(h|h)
    ·exact absurd h h1
    ·exact h.2.2.2
theorem AY:∀a:Tm,Eh a a=true:=by
 refine Tm.bW fun a ih=> ?_
 have:∀l:List Tm,(∀k∈l,k∈a.kids)->kR l l=true:=by
  intro l
  induction l with
  |nil=>intro _;rfl
  |cons k l mX=>intro h;rw[kR,ih k (h k (by simp)),mX (fun x hx=>h x (by simp[hx]))];rfl
 rw[uz]
 exact .inr ⟨rfl,rfl,rfl,this _ fun _ h=>h⟩
theorem Gd(n low high:Int):aR Tryz.prog 71 [.i n, .i low, .i high] (.ret [.bool (cF n low high)]):=by
 refine aR.az mix agz ao ?_
 rw[c71]
 refine b8 ?_
 rfl
theorem QB(s:aO)(t:Tm)(hs:s.Fits)(ht:t.kids.length<=9223372036854775807):aR Tryz.prog 115 [s.d,t.d] (.ret [.bool (mb s t)]):=by
 refine aR.az mix adB ao ?_
 rw[adA]
 refine b8 ?_
 rcases(by omega:t.op=16\/t.op=1\/t.op=2\/t.op=3\/t.op=5\/(t.op≠16/\t.op≠1/\t.op≠2/\t.op≠3/\t.op≠5))with h|h|h|h|h|h
 ·have hn:mb s t=(t.n==0&&(t.kids.length:Int)==0):=by unfold mb;rw[if_pos h]
  exact Gb
 ·have hn:mb s t=(cF t.n 0 199&&(t.kids.length:Int)==0):=by unfold mb;rw[if_neg (by omega),if_pos h]
  exact SG
 ·have hn:mb s t=(cF t.n (-1000000) 1000000&&(t.kids.length:Int)==0):=by unfold mb;rw[if_neg (by omega),if_neg (by omega),if_pos h]
  exact SG
 ·have hn:mb s t=(cF t.n 0 (s.cons.length - 1)&&(t.kids.length:Int)==dN s.cons t.n):=by unfold mb;rw[if_neg (by omega),if_neg (by omega),if_neg (by omega),if_pos h]
  refine iq h ?_
  rw[wrap64 (by have:=hs.lc;omega) (by have:=hs.lc;omega)]
  refine ai (Gd _ _ _) rfl ?_
  cases hI:cF t.n 0 (s.cons.length - 1)with
  |false=>
   exact K8
  |true=>
   exact K5
 ·have hn:mb s t=(cF t.n 0 (s.bR.length - 1)&&decide ((t.kids.length:Int)<dN s.bR t.n)):=by unfold mb;rw[if_neg (by omega),if_neg (by omega),if_neg (by omega),if_neg (by omega),if_pos h]
  refine iq h ?_
  rw[wrap64 (by have:=hs.lf;omega) (by have:=hs.lf;omega)]
  refine ai (Gd _ _ _) rfl ?_
  cases hI:cF t.n 0 (s.bR.length - 1)with
  |false=>
   exact K8
  |true=>
   exact K5
 ·have hn:mb s t=false:=by unfold mb;rw[if_neg h.1,if_neg h.2.1,if_neg h.2.2.1,if_neg h.2.2.2.1,if_neg h.2.2.2.2]
  have e1:(t.op==16)=false:=by simpa using h.1
  have e2:(t.op==1)=false:=by simpa using h.2.1
  have e3:(t.op==2)=false:=by simpa using h.2.2.1
  have e4:(t.op==3)=false:=by simpa using h.2.2.2.1
  have e5:(t.op==5)=false:=by simpa using h.2.2.2.2
  simp+contextual only[go_sem,e1,e2,e3,e4,e5]
  rw[hn]
theorem M7(s:aO)(hs:s.Fits):∀t:Tm,t.fits->aR Tryz.prog 66 [s.d,t.d] (.ret [.bool (v7 s t)]):=by
 refine Tm.bW fun t ih hf=> ?_
 have dR:=(Tm.aH _).1 hf
 refine aR.az mix agx ao ?_
 rw[c66]
 refine b8 ?_
 rw[uy]
 refine aF (fun k:Nat=>⟨bp [.aa, .aa, .ptr 0 0, .ptr 1 0, .aa, .d (.i k)],sx s.row t.row,2⟩)
  (fun k=>k<=t.kids.length/\(t.kids.take k).all (v7 s)=true) (fun k=>t.kids.length - k) 0 ⟨Nat.zero_le _,ao⟩ (bJ.d2 _ (dH rfl rfl) ah rfl rfl ?_) (fun k hk=> ?_)
 ·exact cY
 refine b8 ?_
 refine aj (fun h2=> ?_) (fun h2=> ?_)
 ·simp at h2
  obtain⟨x,hx⟩:=aq h2
  have cz:=List.mem_of_getElem? hx
  refine iq hx ?_
  refine aw (ih x cz (dR.2 x cz)) rfl ?_
  refine b8 ?_
  refine aD bE ?_
  refine b8 ?_
  refine aj (fun h3=> ?_) (fun h3=> ?_)
  ·refine b8 ?_
   simp at h3
   exact F8
  ·exact RU
 ·refine b8 ?_
  simp at h2
  rw[cJ hk.2 h2,Bool.true_and]
  refine ai (QB s t hs dR.1) rfl ?_
  exact OY
theorem AZ(s:aO)(hs:s.Fits)(t:Tm)(hf:t.fits):aR Tryz.prog 27 [s.d,t.d] (.ret [.bool (p8 s t)]):=by
 refine aR.az mix af5 ao ?_
 rw[c27]
 refine b8 ?_
 refine ai (uw t hf 80 30 ah ah) rfl ?_
 unfold p8
 cases h:decide (0<=eB t 80 30)with
 |false=>simp+contextual only[go_sem,h]
 |true=>
  refine iq h ?_
  refine ai (M7 s hs t hf) rfl ?_
  simp+contextual only[go_sem,h]
def da(t:Tm):Bool:=decide (0<=eB t 100 35)
theorem nX(t:Tm)(hf:t.fits):aR Tryz.prog 20 [t.d] (.ret [.bool (da t)]):=by
 refine aR.az mix ac0 ao ?_
 rw[c20]
 refine b8 ?_
 refine ai (uw t hf 100 35 ah ah) rfl ?_
 refine b8 ?_
 rfl
theorem QC(op:Int):∀t:Tm,t.fits->aR Tryz.prog 118 [t.d, .i op] (.ret [.bool (bS op t)]):=by
 refine Tm.bW fun t ih hf=> ?_
 have dR:=(Tm.aH _).1 hf
 refine aR.az mix adF ao ?_
 rw[adE]
 refine b8 ?_
 rw[gx]
 refine aF (fun k:Nat=>⟨bp [.aa, .d (.i op), .ptr 0 0, .aa, .aa, .d (.i k)],e8 t.row,1⟩)
  (fun k=>k<=t.kids.length/\(t.kids.take k).all (bS op)=true) (fun k=>t.kids.length - k) 0 ⟨Nat.zero_le _,ao⟩ (bJ.d1 _ (aV rfl) ah rfl ?_) (fun k hk=> ?_)
 ·exact cY
 refine b8 ?_
 refine aj (fun h2=> ?_) (fun h2=> ?_)
 ·simp at h2
  obtain⟨x,hx⟩:=aq h2
  have cz:=List.mem_of_getElem? hx
  refine iq hx ?_
  refine ai (ih x cz (dR.2 x cz)) rfl ?_
  refine b8 ?_
  refine aj (fun h3=> ?_) (fun h3=> ?_)
  ·refine b8 ?_
   simp at h3
   exact F8
  ·refine b8 ?_
   simp at h3
   refine au (k+1) ⟨h2,cT hx hk.2 h3⟩ ah (bJ.d1 _ (aV rfl) ah rfl ?_)
   exact cY
 ·refine b8 ?_
  simp at h2
  rw[cJ hk.2 h2,Bool.true_and]
theorem Dn(t:Tm)(hf:t.fits):aR Tryz.prog 72 [t.d] (.ret [.bool (bS 16 t)]):=by
 refine aR.az mix agA ao ?_
 rw[c72]
 refine b8 ?_
 refine ai (QC 16 t hf) rfl ?_
 exact OY
def yX(t:Tm):D:=if t.op=16 then .iface 133 (.agg [])else if t.op=1 then .iface 134 (.i t.n)else .iface 138 t.d
theorem lookD_0{t:Tm}(h:t.op=16):yX t= .iface 133 (.agg []):=if_pos h
theorem lookD_1{t:Tm}(h:t.op=1):yX t= .iface 134 (.i t.n):=by unfold yX;rw[if_neg (by omega),if_pos h]
theorem lookD_2{t:Tm}(h:t.op≠16)(h1:t.op≠1):yX t= .iface 138 t.d:=by unfold yX;rw[if_neg h,if_neg h1]
@[go_sem] theorem M8:pv Tryz.prog 133=true:=af
@[go_sem] theorem OP:pv Tryz.prog 134=true:=af
@[go_sem] theorem QD:pv Tryz.prog 138=true:=af
theorem iS(n low high:Int):aR Tryz.prog 67 [.i n, .i low, .i high] (.ret [.bool (cF n low high)]):=by
 refine aR.az mix ada ao ?_
 rw[c67]
 refine b8 ?_
 rfl
theorem A0(t:Tm):aR Tryz.prog 113 [t.d] (.ret [yX t]):=by
 refine aR.az mix TV ao ?_
 rw[XZ]
 by_cases h0:t.op=16
 ·have Ed:(t.op==16)=true:=by simpa using h0
  rw[lookD_0 h0]
  exact zH Ed
 ·have Ed:(t.op==16)=false:=by simpa using h0
  by_cases h1:t.op=1
  ·have cH:(t.op==1)=true:=by simpa using h1
   rw[lookD_1 h1]
   exact Kg Ed cH
  ·have cH:(t.op==1)=false:=by simpa using h1
   rw[lookD_2 h0 h1]
   exact Kg Ed cH
theorem aez(a b:List Tm)(ha:a.length<=9223372036854775807)(hb:b.length<=9223372036854775807)(g:Nat)(h:∀x∈a,∀y∈b,aR Tryz.prog g [x.d,y.d] (.ret [.bool (Eh x y)]))(o:Nat->ab)(nx:Nat)(hg:Good o nx)(K X:V->(Nat->ab)->Nat->Prop)
 (hK:∀o' nx',nx<=nx'->Good o' nx'->(∀j,j<nx->o' j=o j)->K (.d (.bool (a.length==b.length&&kR a b))) o' nx'):
 cK Tryz.prog 114 [.d (.sl (a.map Tm.d)), .d (.sl (b.map Tm.d)), .func (.func g) [] []] o nx K X:=by
 refine cK.az mix MJ ao ?_
 rw[Qp]
 refine iO ?_
 refine aj (fun h1=> ?_) (fun h1=> ?_)
 ·refine aS ?_
  have:(a.length==b.length&&kR a b)=false:=by
   have:(a.length==b.length)=false:=by
    exact Lm
   rw[this];rfl
  exact Ge
 ·have hl:a.length=b.length:=by simp at h1;omega
  have z8:(a.length==b.length)=true:=by simpa using hl
  rw[z8,Bool.true_and]at hK
  refine iO ?_
  refine aF (fun k:Nat=>⟨bp [.d (.sl (a.map Tm.d)), .d (.sl (b.map Tm.d)), .func (.func g) [] [], .aa, .aa, .aa, .aa, .aa, .aa, .aa, .aa, .aa, .aa, .aa, .aa, .d (.sl (a.map Tm.d)), .d (.i a.length), .d (.i k)],o,nx⟩)
   (fun k=>k<=a.length/\kR a b=kR (a.drop k) (b.drop k)) (fun k=>a.length - k) 0 ⟨Nat.zero_le _,ao⟩ (bJ.bX _ (Nat.le_refl _) ah hg (fun _ _=>rfl) ?_) (fun k hk=> ?_)
  ·exact cY
  refine aS ?_
  refine aj (fun h2=> ?_) (fun h2=> ?_)
  ·simp at h2
   obtain⟨x,hx⟩:=aq h2
   obtain⟨y,hy⟩:=aq (l:=b) (k:=k) ah
   have hd:kR (a.drop k) (b.drop k)=(Eh x y&&kR (a.drop (k+1)) (b.drop (k+1))):=by
    obtain⟨g1,g2⟩:=List.getElem?_eq_some_iff.1 hx
    obtain⟨g3,g4⟩:=List.getElem?_eq_some_iff.1 hy
    rw[List.drop_eq_getElem_cons g1,List.drop_eq_getElem_cons g3,g2,g4,kR]
   refine VH hx hy ?_
   refine ai (h x (List.mem_of_getElem? hx) y (List.mem_of_getElem? hy)) rfl ?_
   refine aS ?_
   refine aj (fun h3=> ?_) (fun h3=> ?_)
   ·refine aS ?_
    simp at h3
    have:kR a b=false:=by rw[hk.2,hd,h3];rfl
    exact R0
   ·refine aS ?_
    simp at h3
    refine au (k+1) ⟨h2,by rw[hk.2,hd,h3];rfl⟩ ah (bJ.bX _ (Nat.le_refl _) ah hg (fun j hj=>by(repeat(first|rfl|rw[ad]|rw[ak _ _ _ _ (by omega)]))) ?_)
    exact cY
  ·refine aS ?_
   simp at h2
   have:kR a b=true:=by rw[hk.2,List.drop_eq_nil_of_le h2];rfl
   exact Ge
theorem QE(s:aO)(t:Tm)(hs:s.Fits)(ht:t.kids.length<=9223372036854775807):aR Tryz.prog 159 [s.d,t.d] (.ret [.bool (mb s t)]):=by
 refine aR.az mix Ug ao ?_
 rw[Ym]
 refine aS ?_
 refine aP (A0 t) ?_
 rcases(by omega:t.op=16\/t.op=1\/(t.op≠16/\t.op≠1))with h|h|⟨h0,h1⟩
 ·have hn:mb s t=(t.n==0&&(t.kids.length:Int)==0):=by unfold mb;rw[if_pos h]
  rw[lookD_0 h]
  refine et h ?_
  rw[hn]
 ·have hn:mb s t=(cF t.n 0 199&&(t.kids.length:Int)==0):=by unfold mb;rw[if_neg (by omega),if_pos h]
  rw[lookD_1 h]
  exact SE
 rw[lookD_2 h0 h1]
 rcases(by omega:t.op=2\/t.op=3\/t.op=5\/(t.op≠2/\t.op≠3/\t.op≠5))with h|h|h|h
 ·have hn:mb s t=(cF t.n (-1000000) 1000000&&(t.kids.length:Int)==0):=by unfold mb;rw[if_neg (by omega),if_neg (by omega),if_pos h]
  exact SE
 ·have hn:mb s t=(cF t.n 0 (s.cons.length - 1)&&(t.kids.length:Int)==dN s.cons t.n):=by unfold mb;rw[if_neg (by omega),if_neg (by omega),if_neg (by omega),if_pos h]
  refine dc h ?_
  rw[wrap64 (by have:=hs.lc;omega) (by have:=hs.lc;omega)]
  refine aw (iS _ _ _) rfl ?_
  cases hI:cF t.n 0 (s.cons.length - 1)with
  |false=>
   exact SH
  |true=>
   exact Sc
 ·have hn:mb s t=(cF t.n 0 (s.bR.length - 1)&&decide ((t.kids.length:Int)<dN s.bR t.n)):=by unfold mb;rw[if_neg (by omega),if_neg (by omega),if_neg (by omega),if_neg (by omega),if_pos h]
  refine dc h ?_
  rw[wrap64 (by have:=hs.lf;omega) (by have:=hs.lf;omega)]
  refine aw (iS _ _ _) rfl ?_
  cases hI:cF t.n 0 (s.bR.length - 1)with
  |false=>
   exact SH
  |true=>
   exact Sc
 ·have hn:mb s t=false:=by unfold mb;rw[if_neg h0,if_neg h1,if_neg h.1,if_neg h.2.1,if_neg h.2.2]
  have e3:(t.op==2)=false:=by simpa using h.1
  have e4:(t.op==3)=false:=by simpa using h.2.1
  have e5:(t.op==5)=false:=by simpa using h.2.2
  refine zG e3 e4 e5 ?_
  refine aD bE ?_
  refine aS ?_
  rw[hn]
theorem M9(n:Int)(x:D){o:Nat->ab}:eP Tryz.prog o .eql 131 false (.d (.iface 133 x)) (.d (.iface 134 (.i n)))=some (.d (.bool false),[],[]):=af
theorem Na(m n:Int){o:Nat->ab}:eP Tryz.prog o .eql 131 false (.d (.iface 134 (.i m))) (.d (.iface 134 (.i n)))=some (.d (.bool (m==n)),[],[]):=af
theorem Nb(n:Int)(x:D){o:Nat->ab}:eP Tryz.prog o .eql 131 false (.d (.iface 138 x)) (.d (.iface 134 (.i n)))=some (.d (.bool false),[],[]):=af
theorem Nc{s:aO}:∀a:Tm,a.fits->Pn s a->∀b:Tm,b.fits->Pn s b->aR Tryz.prog 65 [a.d,b.d] (.ret [.bool (Eh a b)]):=by
 refine Tm.bW fun a ih ha pa b hb pb=> ?_
 have QF:=(Tm.aH _).1 ha
 have J1:=(Tm.aH _).1 hb
 refine aR.az mix ac9 ao ?_
 rw[c65,M6]
 refine aS ?_
 refine aP (A0 a) ?_
 by_cases h:a.op=16
 ·rw[lookD_0 h,if_pos h]
  exact gK
 rw[if_neg h]
 by_cases h1:a.op=1
 ·have ka:=pa.bare (.inr (.inl h1))
  rw[lookD_1 h1]
  refine aS ?_
  refine aP (A0 b) ?_
  by_cases OM:b.op=16
  ·rw[lookD_0 OM,if_pos (.inl (by omega))]
   simp+contextual (disch:=first|omega|simp only[go_sem,false_implies]) only[go_sem,wrap64,if_pos,M9]
  by_cases Ee:b.op=1
  ·have kb:=pb.bare (.inr (.inl Ee))
   rw[lookD_1 Ee]
   simp+contextual (disch:=first|omega|simp only[go_sem,false_implies]) only[go_sem,wrap64,if_pos,Na]
   by_cases e:a.n=b.n
   ·rw[if_neg (by rw[h1,Ee,e,ka,kb];simp),ka,e]
    simp[kR]
   ·rw[if_pos (.inr (.inl e))]
    simp;exact fun h=>e h.symm
  ·rw[lookD_2 OM Ee,if_pos (.inl (by omega))]
   simp+contextual (disch:=first|omega|simp only[go_sem,false_implies]) only[go_sem,wrap64,if_pos,Nb]
 rw[lookD_2 h h1]
 by_cases e1:a.op=b.op
 ·have e1':(a.op==b.op)=true:=by simpa using e1
  by_cases e2:a.n=b.n
  ·have e2':(a.n==b.n)=true:=by simpa using e2
   refine xB e1' e2' ?_
   refine bc (aez a.kids b.kids QF.1 J1.1 65 (fun x hx y hy=>ih x hx (QF.2 x hx) (pa.kH hx) y (J1.2 y hy) (pb.kH hy)) _ _ dB _ _ fun o2 n2 m1 m2 m3=> ?_)
   refine xB e1' e2' ?_
   by_cases e3:a.kids.length=b.kids.length
   ·rw[if_neg (by simp[e1,e2,e3])]
    simp[e3]
   ·rw[if_pos (.inr (.inr e3))]
    simp[e3]
  ·have e2':(a.n==b.n)=false:=by simpa using e2
   rw[if_pos (.inr (.inl e2))]
   exact Kg e1' e2'
 ·have e1':(a.op==b.op)=false:=by simpa using e1
  rw[if_pos (.inl e1)]
  exact zH e1'
theorem qV{s:aO}:∀t:Tm,t.fits->Pn s t->aR Tryz.prog 69 [t.d] (.ret [.i (Dm t)]):=by
 refine Tm.bW fun t ih ht hp=> ?_
 have Em:=(Tm.aH _).1 ht
 refine aR.az mix ade ao ?_
 rw[c69,M5]
 refine aS ?_
 refine aP (A0 t) ?_
 by_cases h0:t.op=16
 ·rw[lookD_0 h0,if_pos h0]
  exact gK
 rw[if_neg h0]
 by_cases h1:t.op=1
 ·rw[lookD_1 h1,if_pos h1]
  exact gK
 rw[if_neg h1,lookD_2 h0 h1]
 refine gD ?_
 refine aF (fun i:Nat×Int=>⟨bp [.aa, .aa, .aa, .d (.i i.2), .aa, .aa, .aa, .aa, .aa, .aa, .aa, .aa, .aa, .aa, .aa, .aa, .aa, .aa, .aa, .aa, .aa, .d (.sl (t.kids.map Tm.d)), .d (.i t.kids.length), .d (.i i.1)],aK (fun _=> .no) 0 (.row t.row),1⟩)
  (fun i=>i.1<=t.kids.length/\tW t.kids 2=tW (t.kids.drop i.1) i.2/\0<=i.2/\i.2<=2) (fun i=>t.kids.length - i.1) (0,2) ⟨Nat.zero_le _,rfl,bE,bE⟩ ?_ ?_
 ·dsimp only
  refine bJ.bX _ ah ah dB (fun j hj=> ?_) ?_
  ·exact dU
  ·exact cY
 rintro⟨i,m⟩ ⟨hi,hk,m0,m2⟩
 simp only at hi hk m0 m2
 refine gD ?_
 refine aj (fun h5=> ?_) (fun h5=> ?_)
 ·simp at h5
  obtain⟨x,hx⟩:=aq h5
  have cz:=List.mem_of_getElem? hx
  have hkx:=(AX x (hp.kH cz)).1
  have hd:t.kids.drop i=x::t.kids.drop (i+1):=by
   exact Lj
  rw[hd,tW]at hk
  have aeA:(if Dm x<m then Dm x else m)=min m (Dm x):=by rw[Int.min_def];split<;>split<;>omega
  refine et hx ?_
  refine ai (ih x cz (Em.2 x cz) (hp.kH cz)) rfl ?_
  refine gD ?_
  first
   |rw[aeA]
   |skip
  refine au (i+1,min m (Dm x)) ⟨h5,hk,by dsimp only;omega,by dsimp only;omega⟩ oN (bJ.bX _ ah ah dB (fun j hj=> ?_) ?_)
  ·exact dU
  ·exact cY
 ·simp at h5
  refine gD ?_
  rw[List.drop_eq_nil_of_le h5]at hk
  rw[hk];rfl
def xq{σ:Type}(step:σ->Tm->σ×Bool):σ->List Tm->Int->Int
 |_,[],_=> -1
 |s,x::l,k=>if(step s x).2=true then xq step (step s x).1 l (k+1)else k
theorem Hd{σ:Type}(step:σ->Tm->σ×Bool):∀ (l:List Tm) (s:σ) (k:Int),0<=k->(0<=xq step s l k↔(aB step s l).2=false)
 |[],_,_,_=>by simp[xq,aB]
 |x::l,s,k,hk=>by
  have ih:=Hd step l (step s x).1 (k+1) ah
  by_cases h:(step s x).2=true
  ·simp only[xq,aB,h,if_true];exact ih
  ·simp[xq,aB,h,hk]
theorem ZB{σ:Type}(l:List Tm)(hl:l.length<=9223372036854775807)(g:Nat)(aI:List V)(base:Nat)(H:σ->Nat->ab)(step:σ->Tm->σ×Bool)(hc:∀r∈V.aL aI,r<base)(ok:σ->Prop)(bn:∀x∈l,∀s,ok s->(step s x).2=true->ok (step s x).1)
 (h:∀x∈l,∀s,ok s->fT Tryz.prog g (.d x.d::aI) base (H s) (H (step s x).1) (.d (.bool (!(step s x).2)))) (s:σ) (gH:ok s):
 fT Tryz.prog 204 [.d (.sl (l.map Tm.d)), .func (.func g) [] aI] base (H s) (H (aB step s l).1) (.d (.i (xq step s l 0))):=by
 intro o nx hI K X hK
 have fN:∀r∈V.aL aI,r<nx:=fun r hr=>Nat.lt_of_lt_of_le (hc r hr) hI.le
 refine cK.az mix UM ao ?_
 rw[YS]
 refine b8 ?_
 refine aF (fun i:Nat×σ×(Nat->ab)×Nat=>⟨bp [.d (.sl (l.map Tm.d)), .func (.func g) [] aI, .aa, .aa, .aa, .aa, .aa, .d (.i l.length), .d (.i i.1)],i.2.2.1,i.2.2.2⟩)
  (fun i=>i.1<=l.length/\cQ base (H i.2.1) i.2.2.1 i.2.2.2/\nx<=i.2.2.2/\(∀id,base<=id->id<nx->i.2.2.1 id=o id)/\aB step s l=aB step i.2.1 (l.drop i.1)/\ok i.2.1/\xq step s l 0=xq step i.2.1 (l.drop i.1) i.1) (fun i=>l.length - i.1) (0,s,o,nx)
  ⟨Nat.zero_le _,hI,Nat.le_refl _,fun _ _ _=>rfl,rfl,gH,rfl⟩ ?_ ?_
 ·exact H4
 rintro⟨k,s',o',nx'⟩ ⟨hk,rL,hn,dE,hf,kP,pY⟩
 simp only at hk rL hn dE hf kP pY
 refine b8 ?_
 refine aj (fun h1=> ?_) (fun h1=> ?_)
 ·simp at h1
  obtain⟨x,hx⟩:=aq h1
  have cz:=List.mem_of_getElem? hx
  have hd:l.drop k=x::l.drop (k+1):=by
   exact H3
  rw[hd]at hf pY
  simp only[aB,xq]at hf pY
  refine HP hx ?_
  refine cU (h x cz s' kP _ _ (rL.mono ah) _ _ fun o2 n2 m1 m2 m3=> ?_)
  cases hb:(step s' x).2 with
  |true=>
   rw[hb]at hf pY
   simp only[if_true]at hf pY
   refine aS ?_
   have Dg:∀r∈V.aL aI,r<n2+1+1:=fun r hr=>by have:=fN r hr;omega
   exact V8
  |false=>
   exact O9
 ·exact Pb
theorem tA{σ:Type}(l:List Tm)(hl:l.length<=9223372036854775807)(g:Nat)(aI:List V)(base:Nat)(H:σ->Nat->ab)(step:σ->Tm->σ×Bool)(hc:∀r∈V.aL aI,r<base)(ok:σ->Prop)(bn:∀x∈l,∀s,ok s->(step s x).2=true->ok (step s x).1)
 (h:∀x∈l,∀s,ok s->fT Tryz.prog g (.d x.d::aI) base (H s) (H (step s x).1) (.d (.bool (!(step s x).2)))) (s:σ) (gH:ok s):
 fT Tryz.prog 157 [.d (.sl (l.map Tm.d)), .func (.func g) [] aI] base (H s) (H (aB step s l).1) (.d (.bool (!(aB step s l).2))):=by
 intro o nx hI K X hK
 have fN:∀r∈V.aL aI,r<nx:=fun r hr=>Nat.lt_of_lt_of_le (hc r hr) hI.le
 refine cK.az mix Ue ao ?_
 rw[Yk]
 refine iO ?_
 refine bc (ZB l hl g aI base H step hc ok bn h s gH _ _ ?_ _ _ fun o2 n2 m1 m2 m3=> ?_)
 ·exact BG
 refine iO ?_
 have e:decide (0<=xq step s l 0)= !(aB step s l).2:=by
  have:=Hd step l s 0 ah
  exact Pk
 rw[e]
 exact Kq
theorem agV{x:Tm}{g:Nat}{aI:List V}{base c bx:Nat}{h h2 O:Nat->ab}{r:Bool}(hS:fT Tryz.prog g (.d x.d::aI) base h h2 (.d (.bool r)))(hb:base<=bx)(Rx:bx<c)(hO:O bx= .row [.func (.func g) [] aI])(hc:∀r∈V.aL aI,r<base):
 fT Tryz.prog 158 [.d x.d, .ptr bx 0] c (ext base h O) (ext base h2 O) (.d (.bool (!r))):=by
 intro o nx hI K X hK
 have hle:=hI.le
 have fN:∀r∈V.aL aI,r<nx:=fun r hr=>by have:=hc r hr;omega
 have ho:o bx= .row [.func (.func g) [] aI]:=by
  exact Ku
 have y1:∀k,bx≠nx+k:=fun k=>ah
 have y2:bx≠nx:=ah
 refine cK.az mix Uf ao ?_
 rw[Yl]
 refine OS ho y1 y2 ?_
 refine cU ((hS.ext (by omega:base<=c) O) _ _ ?_ _ _ fun o2 n2 m1 m2 m3=> ?_)
 ·exact O4
 refine iO ?_
 exact O0
theorem yY{σ:Type}(l:List Tm)(hl:l.length<=9223372036854775807)(g:Nat)(aI:List V)(base:Nat)(H:σ->Nat->ab)(step:σ->Tm->σ×Bool)(hc:∀r∈V.aL aI,r<base)(ok:σ->Prop)(bn:∀x∈l,∀s,ok s->(step s x).2=true->ok (step s x).1)
 (h:∀x∈l,∀s,ok s->fT Tryz.prog g (.d x.d::aI) base (H s) (H (step s x).1) (.d (.bool (step s x).2))) (s:σ) (gH:ok s):
 fT Tryz.prog 111 [.d (.sl (l.map Tm.d)), .func (.func g) [] aI] base (H s) (H (aB step s l).1) (.d (.bool (aB step s l).2)):=by
 intro o nx hI K X hK
 have hle:=hI.le
 have fN:∀r∈V.aL aI,r<nx:=fun r hr=>Nat.lt_of_lt_of_le (hc r hr) hI.le
 refine cK.az mix TU ao ?_
 rw[XY]
 refine iO ?_
 refine bc (tA l hl 158 [.ptr nx 0] (nx+1) (fun s=>ext base (H s) (aK o nx (.row [.func (.func g) [] aI]))) step mT ok bn (fun x hx s hs=>agV (h x hx s hs) hle ah (ad _ _ _) hc) s gH _ _ ?_ _ _ fun o2 n2 m1 m2 m3=> ?_)
 ·have hr:(ab.row [V.func (.func g) [] aI]).refs.all (fun r=>decide (r<nx+4))=true:=by
   rw[List.all_eq_true]
   intro r hr
   have h1:r∈V.aL aI:=by simpa[ab.refs,V.aL,V.refs]using hr
   have:=fN r h1
   simp;omega
  exact Ks
 refine iO ?_
 refine hK _ _ ah ⟨(m2.mono ah).bQ,by have:=m2.le;omega,fun id aC=> ?_⟩ fun id i1 i2=> ?_
 ·exact zM
 ·exact Kn
def He(s:aO)(d:Int)(left:Int)(k:Tm):Int×Bool:=((wX s k left d).2,(wX s k left d).1)
theorem Dp(s:aO)(d:Int):∀ (l:List Tm) (left:Int),aB (He s d) left l=((sC s l left d).2,(sC s l left d).1)
 |[],_=>by simp[aB,sC]
 |k::l,left=>by
  have ih:=Dp s d l (wX s k left d).2
  by_cases h:(wX s k left d).1=true
  ·simp only[aB,sC,He,h,if_true];exact ih
  ·simp[aB,sC,He,h]
def WdC(s:aO)(t:Tm):Prop:=∀ (left d:Int), -1000000<=left/\left<=1000000-> -1000<=d/\d<=1000->∀ (base lp:Nat) (h:Nat->ab),lp<base->
    fT Tryz.prog 116 [.d s.d, .d t.d, .ptr lp 0, .d (.i d)] base (aK h lp (.row [.d (.i left)])) (aK h lp (.row [.d (.i (wX s t left d).2)])) (.d (.bool (wX s t left d).1))
theorem Jf(s:aO)(hs:s.Fits):∀t:Tm,t.fits->WdC s t:=by
 refine Tm.bW fun t ih ht=> ?_
 have Em:=(Tm.aH _).1 ht
 intro left d hl hd base lp h hlp o nx hI K X hK
 have hle:=hI.le
 have ho:o lp= .row [.d (.i left)]:=by rw[hI.eq lp hlp,ad]
 have y1:∀k,lp≠nx+k:=fun k=>ah
 have y2:lp≠nx:=ah
 rw[M3]at hK
 have fin:∀ (o':Nat->ab) (n':Nat) (v:Int),nx<=n'->Good o' n'->o' lp= .row [.d (.i v)]->(∀j,j<nx->j≠lp->o' j=o j)->cQ base (aK h lp (.row [.d (.i v)])) o' n'/\∀id,base<=id->id<nx->o' id=o id:=fun o' n' v k1 k2 k3 k4=>by
  refine⟨⟨k2,ah,fun id aC=> ?_⟩,fun id i1 i2=>k4 id i2 ah⟩
  by_cases e:id=lp
  ·subst e;rw[k3,ad]
  ·rw[k4 id (by omega) e,hI.eq id aC,ak _ _ _ _ e,ak _ _ _ _ e]
 have hg:=hI.bQ
 refine cK.az mix TW ao ?_
 rw[X0]
 refine OS ho y1 y2 ?_
 by_cases h1:left - 1<0
 ·have cH:decide (0<=left - 1)=false:=by simp;omega
  rw[if_pos (.inl h1)]at hK
  refine OU cH ho y1 y2 ?_
  refine(fun q=>hK _ _ ah (And.left q) (And.right q)) (fin _ (nx+31) (left - 1) ah ?_ (ad _ _ _) fun j j1 j2=> ?_)
  ·exact dB
  ·exact dU
 have cH:decide (0<=left - 1)=true:=by simp;omega
 by_cases h2:d<=0
 ·have kQ:decide (0<d)=false:=by simpa using h2
  rw[if_pos (.inr (.inl h2))]at hK
  refine OT cH kQ ho y1 y2 ?_
  refine(fun q=>hK _ _ ah (And.left q) (And.right q)) (fin _ (nx+31) (left - 1) ah ?_ (ad _ _ _) fun j j1 j2=> ?_)
  ·exact dB
  ·exact dU
 have kQ:decide (0<d)=true:=by simp;omega
 refine OT cH kQ ho y1 y2 ?_
 refine ai (QE s t hs Em.1) rfl ?_
 cases hn:mb s t with
 |false=>
  rw[if_pos (.inr (.inr hn))]at hK
  refine OT cH kQ ho y1 y2 ?_
  refine(fun q=>hK _ _ ah (And.left q) (And.right q)) (fin _ (nx+31) (left - 1) ah ?_ (ad _ _ _) fun j j1 j2=> ?_)
  ·exact dB
  ·exact dU
 |true=>
  rw[if_neg (by rw[hn];simp;omega)]at hK
  refine OT cH kQ ho y1 y2 ?_
  have hwd:=Dp s (d - 1) t.kids (left - 1)
  have clo:∀ (O:Nat->ab) (k:Tm) (v:Int),k∈t.kids-> -1000000<=v/\v<=1000000->O nx= .row s.row->O (nx+2)= .row [.ptr lp 0]->O (nx+3)= .row [.d (.i d)]->
   fT Tryz.prog 160 [.d k.d, .ptr nx 0, .ptr (nx+2) 0, .ptr (nx+3) 0] (nx+4) (ext base (aK h lp (.row [.d (.i v)])) O) (ext base (aK h lp (.row [.d (.i (wX s k v (d - 1)).2)])) O) (.d (.bool (wX s k v (d - 1)).1)):=by
   intro O k v hk hv p0 p2 p3 o2 n2 LX K2 X2 hK2
   have ab5:=LX.le
   have r0:o2 nx= .row s.row:=by rw[LX.eq nx (by omega)];unfold ext;rw[if_neg (by omega),p0]
   have r2:o2 (nx+2)= .row [.ptr lp 0]:=by rw[LX.eq _ (by omega)];unfold ext;rw[if_neg (by omega),p2]
   have r3:o2 (nx+3)= .row [.d (.i d)]:=by rw[LX.eq _ (by omega)];unfold ext;rw[if_neg (by omega),p3]
   have z0:∀j,nx≠n2+j:=fun j=>ah
   have z2:∀j,nx+2≠n2+j:=fun j=>ah
   have z3:∀j,nx+3≠n2+j:=fun j=>ah
   have z4:nx≠n2/\nx+2≠n2/\nx+3≠n2:=ah
   refine cK.az mix Uh ao ?_
   rw[Yn]
   simp+contextual (disch:=first|omega|simp only[go_sem,false_implies]) only[go_sem,wrap64,if_pos,r0,r2,r3,z0,z2,z3,z4.1,z4.2.1,z4.2.2,Nat.add_assoc,Nat.left_eq_add,Nat.add_eq_left,Nat.add_left_cancel_iff]
   refine bc ((ih k hk (Em.2 k hk) v (d - 1) hv ah base lp h hlp).ext (by omega:base<=nx+4) O _ _ ?_ _ _ fun o3 n3 m1 m2 m3=> ?_)
   ·exact LX.aK ah ah ah rfl
   refine iO ?_
   exact hK2 _ _ ah (m2.mono ah) fun id i1 i2=>by rw[m3 id i1 (by omega),ak _ _ _ _ (by omega)]
  refine bc (cK.gen fun O hO=> ?_)
  have p0:O nx= .row s.row:=by rw[hO];(repeat(first|rfl|rw[ad]|rw[ak _ _ _ _ (by omega)]))
  have p2:O (nx+2)= .row [.ptr lp 0]:=by rw[hO];(repeat(first|rfl|rw[ad]|rw[ak _ _ _ _ (by omega)]))
  have p3:O (nx+3)= .row [.d (.i d)]:=by rw[hO];(repeat(first|rfl|rw[ad]|rw[ak _ _ _ _ (by omega)]))
  obtain⟨hIO,dE⟩:=fin O (nx+28) (left - 1) ah (by rw[hO];exact dB) (by rw[hO];exact ad _ _ _) (fun j j1 j2=>by rw[hO];(repeat(first|rfl|rw[ad]|rw[ak _ _ _ _ (by omega)])))
  refine yY t.kids Em.1 160 [.ptr nx 0, .ptr (nx+2) 0, .ptr (nx+3) 0] (nx+4) (fun v=>ext base (aK h lp (.row [.d (.i v)])) O) (He s (d - 1)) mT (fun v:Int=> -1000000<=v/\v<=1000000) (fun k hk v hv oT=> ?_) (fun k hk v hv=>clo O k v hk hv p0 p2 p3) (left - 1) ah O (nx+28) (hIO.ext ah ah) _ _ fun o2 n2 m1 m2 m3=> ?_
  ·obtain⟨h5,h6⟩:=M4 s k v (d - 1)
   have e:=h6 oT
   rw[show(wX s k v (d - 1)).1=true from oT]at h5
   have h7:=h5.symm
   rw[Bool.and_eq_true,decide_eq_true_eq]at h7
   show -1000000<=(wX s k v (d - 1)).2/\(wX s k v (d - 1)).2<=1000000
   rw[e];omega
  ·rw[hwd]at m2|-
   refine iO ?_
   refine hK _ _ ah ⟨(m2.mono ah).bQ,by have:=m2.le;omega,fun id aC=> ?_⟩ fun id i1 i2=> ?_
   ·exact zM
   ·rw[m2.eq id (by omega)];unfold ext;rw[if_neg (by omega),dE id i1 i2]
theorem A1(s:aO)(hs:s.Fits)(t:Tm)(ht:t.fits):aR Tryz.prog 68 [s.d,t.d] (.ret [.bool (p8 s t)]):=by
 refine aR.az mix adb ao ?_
 rw[c68]
 refine iO ?_
 refine bc ((Jf s hs t ht) 80 30 ah ah 4 3 (aK (aK (fun _=> .no) 0 (.row s.row)) 1 (.row t.row)) ah _ _ ⟨dB,ah,fun id aC=> ?_⟩ _ _ fun o2 n2 m1 m2 m3=> ?_)
 ·exact OZ
 refine iO ?_
 rw[aey]
theorem Dq{α:Type}(f:α->Bool):∀l:List α,aB (fun(_:Unit) x=>((),f x)) () l=((),l.all f)
 |[]=>rfl
 |x::l=>by
  have ih:=Dq f l
  cases h:f x<;>simp[aB,h,ih]
section
theorem aeB{x:Tm}{g:Nat}{aI:List V}{base c bx:Nat}{h h2 O:Nat->ab}{r:Bool}(hS:fT Tryz.prog g (.d x.d::aI) base h h2 (.d (.bool r)))(hb:base<=bx)(Rx:bx<c)(hO:O bx= .row [.func (.func g) [] aI])(hc:∀r∈V.aL aI,r<base):
 fT Tryz.prog 230 [.d x.d, .ptr bx 0] c (ext base h O) (ext base h2 O) (.d (.bool (!r))):=by
 intro o nx hI K X hK
 have hle:=hI.le
 have fN:∀r∈V.aL aI,r<nx:=fun r hr=>by have:=hc r hr;omega
 have ho:o bx= .row [.func (.func g) [] aI]:=by
  exact Ku
 have y1:∀k,bx≠nx+k:=fun k=>ah
 have y2:bx≠nx:=ah
 refine cK.az mix U2 ao ?_
 rw[Y7]
 refine OS ho y1 y2 ?_
 refine cU ((hS.ext (by omega:base<=c) O) _ _ ?_ _ _ fun o2 n2 m1 m2 m3=> ?_)
 ·exact O4
 refine iO ?_
 exact O0
theorem yZ{σ:Type}(l:List Tm)(hl:l.length<=9223372036854775807)(g:Nat)(aI:List V)(base:Nat)(H:σ->Nat->ab)(step:σ->Tm->σ×Bool)(hc:∀r∈V.aL aI,r<base)(ok:σ->Prop)(bn:∀x∈l,∀s,ok s->(step s x).2=true->ok (step s x).1)
 (h:∀x∈l,∀s,ok s->fT Tryz.prog g (.d x.d::aI) base (H s) (H (step s x).1) (.d (.bool (step s x).2))) (s:σ) (gH:ok s):
 fT Tryz.prog 187 [.d (.sl (l.map Tm.d)), .func (.func g) [] aI] base (H s) (H (aB step s l).1) (.d (.bool (aB step s l).2)):=by
 intro o nx hI K X hK
 have hle:=hI.le
 have fN:∀r∈V.aL aI,r<nx:=fun r hr=>Nat.lt_of_lt_of_le (hc r hr) hI.le
 refine cK.az mix UG ao ?_
 rw[YM]
 refine iO ?_
 refine bc (tA l hl 230 [.ptr nx 0] (nx+1) (fun s=>ext base (H s) (aK o nx (.row [.func (.func g) [] aI]))) step mT ok bn (fun x hx s hs=>aeB (h x hx s hs) hle ah (ad _ _ _) hc) s gH _ _ ?_ _ _ fun o2 n2 m1 m2 m3=> ?_)
 ·have hr:(ab.row [V.func (.func g) [] aI]).refs.all (fun r=>decide (r<nx+4))=true:=by
   rw[List.all_eq_true]
   intro r hr
   have h1:r∈V.aL aI:=by simpa[ab.refs,V.aL,V.refs]using hr
   have:=fN r h1
   simp;omega
  exact Ks
 refine iO ?_
 refine hK _ _ ah ⟨(m2.mono ah).bQ,by have:=m2.le;omega,fun id aC=> ?_⟩ fun id i1 i2=> ?_
 ·exact zM
 ·exact Kn
mutual
def iP:Tm->List Tm
 | .mk op n kids=> .mk op n kids::QG kids
def QG:List Tm->List Tm
 |[]=>[]
 |k::l=>iP k++QG l
end
theorem y9:∀l:List Tm,QG l=l.flatMap iP
 |[]=>rfl
 |k::l=>by rw[QG,y9 l];rfl
theorem nY(t:Tm):iP t=t::t.kids.flatMap iP:=by cases t;rw[iP,y9];rfl
section
variable {σ:Type}(base oD:Nat)(H:σ->Nat->ab)(step:σ->Tm->σ×Bool)(ok:σ->Prop)
theorem Nd:∀t:Tm,t.fits->(∀x∈iP t,∀s,ok s->(step s x).2=true->ok (step s x).1)->(∀x∈iP t,∀s,ok s->RoC Tryz.prog oD [.d x.d] base (H s) (H (step s x).1) (.d (.bool (step s x).2)))->oD<base->
 ∀ (c:Nat) (o0:Nat->ab) (yb vb:Nat),base<=c->base<=yb->yb<c->base<=vb->vb<c->o0 yb= .row [.jW oD]->o0 vb= .row [.func (.func 258) [] [.ptr yb 0, .ptr vb 0]]->
 ∀s,ok s->fT Tryz.prog 258 [.d t.d, .ptr yb 0, .ptr vb 0] c (ext base (H s) o0) (ext base (H (aB step s (iP t)).1) o0) (.d (.bool (aB step s (iP t)).2)):=by
 refine Tm.bW fun t ih hf bn hR vT c o0 yb vb Rx Vo hy Vp hv oy ov s gH=> ?_
 have dR:=(Tm.aH _).1 hf
 intro o nx hI K X hK
 have hle:=hI.le
 have Vq:o yb= .row [.jW oD]:=by rw[hI.eq yb hy];unfold ext;rw[if_neg (by omega),oy]
 have Vr:o vb= .row [.func (.func 258) [] [.ptr yb 0, .ptr vb 0]]:=by rw[hI.eq vb hv];unfold ext;rw[if_neg (by omega),ov]
 have y1:yb≠nx:=ah
 have y2:∀k,yb≠nx+k:=fun k=>ah
 have y3:vb≠nx:=ah
 have y4:∀k,vb≠nx+k:=fun k=>ah
 refine cK.az mix Vk ao ?_
 rw[Zo]
 simp+contextual only[go_sem,Vq,Vr,y1,y2,y3,y4,Nat.add_assoc,Nat.left_eq_add,Nat.add_eq_left,Nat.add_left_cancel_iff]
 have tI:=nY t
 have me:∀k∈t.kids,∀x∈iP k,x∈iP t:=fun k hk x hx=>by
  exact VT
 have hb:∀id,id<base->o id=H s id:=fun id aC=>by rw[hI.eq id (by omega)];unfold ext;rw[if_pos aC]
 have hIb:cQ base (H s) o nx:=⟨hI.bQ,ah,hb⟩
 refine nT (hR t xM s gH _ _ (hIb.aK (i:=nx) (m:=nx+4) ah ah ah rfl) _ _ fun o2 n2 m1 m2 m3=> ?_)
 have k0:o2 nx= .row t.row:=by rw[m3 nx (by omega) (by omega),ad]
 have hold:∀id,base<=id->id<nx->o2 id=o id:=fun id h1 h2=>by rw[m3 id h1 (by omega),ak _ _ _ _ (by omega)]
 have HV:∀id,base<=id->id<c->o id=o0 id:=fun id h1 h2=>by rw[hI.eq id h2];unfold ext;rw[if_neg (by omega)]
 cases yP:(step s t).2 with
 |false=>
  refine iq yP ?_
  have Bw:aB step s (iP t)=((step s t).1,false):=by rw[tI,aB,if_neg (by rw[yP];exact Bool.false_ne_true)]
  rw[Bw]at hK
  refine hK _ _ ah ⟨m2.bQ.mono ah,ah,fun id aC=> ?_⟩ (fun id h1 h2=>hold id ah h2)
  unfold ext
  split
  ·exact m2.eq id (by assumption)
  ·exact HU
 |true=>
  have Bw:aB step s (iP t)=aB (fun s k=>aB step s (iP k)) (step s t).1 t.kids:=by rw[tI,aB,if_pos yP,pN]
  have q0:o2 yb= .row [.jW oD]:=by rw[hold yb Vo (by omega),Vq]
  have q1:o2 vb= .row [.func (.func 258) [] [.ptr yb 0, .ptr vb 0]]:=by rw[hold vb Vp (by omega),Vr]
  simp+contextual only[go_sem,yP,k0,q1]
  have m0:=m2.le
  refine bc (yZ t.kids dR.1 258 [.ptr yb 0, .ptr vb 0] n2 (fun s=>ext base (H s) o2) (fun s k=>aB step s (iP k)) ?_ ok ?_ ?_ (step s t).1 (bn t xM s gH yP) _ _ ?_ _ _ ?_)
  ·exact F2
  ·exact abq
  ·intro k hk s' jv
   exact ih k hk (dR.2 k hk) (fun x hx=>bn x (me k hk x hx)) (fun x hx=>hR x (me k hk x hx)) vT n2 o2 yb vb ah Vo ah Vp ah q0 q1 s' jv
  ·exact V4
  ·intro o5 n5 p1 p2 p3
   refine b8 ?_
   rw[<- Bw]
   refine hK _ _ ah ⟨p2.bQ.mono ah,ah,fun id aC=> ?_⟩ (fun id h1 h2=> ?_)
   ·rw[p2.eq id (by omega), <- Bw]
    unfold ext
    split
    ·rfl
    ·exact HU
   ·exact Lo
theorem Jg(t:Tm)(hf:t.fits)(bn:∀x∈iP t,∀s,ok s->(step s x).2=true->ok (step s x).1)(hR:∀x∈iP t,∀s,ok s->RoC Tryz.prog oD [.d x.d] base (H s) (H (step s x).1) (.d (.bool (step s x).2)))(vT:oD<base)(tb:Nat)(HZ:tb<base)(s:σ)(gH:ok s)(cq:H s tb= .row t.row):
 fT Tryz.prog 257 [.jW oD, .ptr tb 0] base (H s) (H (aB step s (iP t)).1) (.cg []):=by
 intro o nx hI K X hK
 have hle:=hI.le
 have ot:o tb= .row t.row:=by rw[hI.eq tb HZ,cq]
 have y1:tb≠nx:=ah
 have y2:∀k,tb≠nx+k:=fun k=>ah
 refine cK.az mix Vj ao ?_
 rw[Zn]
 refine VL ot y1 y2 ?_
 have hI1:cQ base (H s) (aK (aK (aK o nx (.row [.jW oD])) (nx+1) (.row [.d .bN])) (nx+1) (.row [.func (.func 258) [] [.ptr nx 0, .ptr (nx+1) 0]])) (nx+6):=by
  refine((hI.aK (i:=nx) (m:=nx+6) ah ah ah ?_).aK (i:=nx+1) (m:=nx+6) ah ah ah rfl).aK (i:=nx+1) ah ah ah ?_
  ·exact KJ
  ·exact mS
 refine bc (Nd base oD H step ok t hf bn hR vT (nx+6) _ nx (nx+1) ah hle ah ah ah ?_ ?_ s gH _ _ (hI1.ext (Nat.le_refl _) ah) _ _ ?_)
 ·exact dU
 ·exact dU
 intro o2 n2 m1 m2 m3
 refine b8 ?_
 refine hK _ _ ah ⟨m2.bQ,ah,fun id aC=> ?_⟩ (fun id h1 h2=> ?_)
 ·exact zM
 ·exact Le
end
theorem za(t:Tm)(o:Nat->ab)(nx:Nat)(K X:V->(Nat->ab)->Nat->Prop)(h:K (.func (.func 257) [] [.ptr nx 0]) (aK o nx (.row t.row)) (nx+4)):cK Tryz.prog 231 [.d t.d] o nx K X:=by
 refine cK.az mix U3 ao ?_
 rw[Y8]
 refine b8 ?_
 exact h
def A2{σ:Type}(J:σ->Option jQ)(step:σ->Tm->σ)(s:σ)(x:Tm):σ×Bool:=(step s x,(J (step s x)).isNone)
theorem qW{σ:Type}(t:Tm)(hf:t.fits){n bq:Nat}{gq:Operand}{ps:List Nat}{iW eS:IC}{Q:fX->S->Prop}{e:Nat->V}{o:Nat->ab}{nx tb:Nat}(env:List V)(he:lZ e env 0)
 (E9:ps.all (fun t=>decide (t<n))=true) (hl:ps.length=1) (hg:Good o nx) (hrefs:∀r∈V.aL env,r<nx) (ht:o tb= .row t.row)
 (G:σ->Nat->ab) (J:σ->Option jQ) (step:σ->Tm->σ) (ok:σ->Prop) (s0:σ) (gH:ok s0) (RM:J s0=none) (h0:∀id,id<nx->o id=G s0 id) (bn:∀x∈iP t,∀s,ok s->J s=none->J (step s x)=none->ok (step s x))
 (mw:∀L,iF Tryz.prog n env ps iW eS L->(∀st pd m,nx<=m->(L st pd).refs.all (fun r=>decide (r<m))=true)->∀x∈iP t,∀s,ok s->J s=none->∀o3 n3,cQ nx (G s) o3 n3->nx<n3->o3 nx=L .ready none->∀K X,
  (∀e' o' n' st pd,n3<=n'->cQ nx (G (step s x)) o' n'->o' nx=L st pd->(∀id,nx<id->id<n3->o' id=o3 id)->jL nx K X (G4 (J (step s x))) ⟨e',o',n'⟩)->
  lj Tryz.prog n n3 true iW (nS Tryz.prog n n3 nx eS K X) ⟨nG (bp env) ps [.d x.d],o3,n3⟩)
 (ky:∀o' n',cQ nx (G (aB (A2 J step) s0 (iP t)).1) o' n'->pG Q (J (aB (A2 J step) s0 (iP t)).1) ⟨e,o',n'⟩):
 xj Tryz.prog n bq false gq ps iW eS Q ⟨e,o,nx⟩ (.func (.func 257) [] [.ptr tb 0]):=by
 refine Fj env he (fun L hL=> ?_)
 have HZ:tb<nx:=hg.lt K0
 let H:σ->Nat->ab:=fun s id=>if id<nx then G s id else if id=nx then(match J s with|none=>L .ready none|some j=>L .done (some j))else .no
 have HW:∀s id,id<nx->H s id=G s id:=fun s id h=>if_pos h
 have OD:∀s,J s=none->H s nx=L .ready none:=fun s h=>by show(if nx<nx then _ else _)=_;rw[if_neg (by omega),if_pos rfl,h]
 have VW:∀s j,J s=some j->H s nx=L .done (some j):=fun s j h=>by show(if nx<nx then _ else _)=_;rw[if_neg (by omega),if_pos rfl,h]
 have xD:∀st pd m,nx<=m->(L st pd).refs.all (fun r=>decide (r<m))=true:=fun st pd m hm=>by
  exact Wr
 refine Jg (nx+1) nx H (A2 J step) (fun s=>ok s/\J s=none) t hf (fun x hx s h1 h2=> ?_) (fun x hx s h1=> ?_) ah tb ah s0 ⟨gH,RM⟩ KY _ _ ⟨?_,Nat.le_refl _,fun id aC=> ?_⟩ _ _ ?_
 ·have hj:J (step s x)=none:=by simpa[A2]using h2
  exact⟨bn x hx s h1.1 h1.2 hj,hj⟩
 ·intro o3 n3 hI K X hK
  have hle:=hI.le
  have Kc:o3 nx=L .ready none:=by rw[hI.eq nx (by omega),OD s h1.2]
  refine vR hL mix Kc ah E9 (by simp[hl]) ?_
  refine mw L hL xD x hx s h1.1 h1.2 o3 n3 ⟨hI.bQ,ah,fun id aC=>by rw[hI.eq id (by omega),HW _ _ aC]⟩ ah Kc K X (fun e' o' n' st pd k1 k2 k3 k4=> ?_)
  have key:∀st' pd' b,(J (step s x)).isNone=b->H (step s x) nx=L st' pd'->K (.d (.bool b)) (aK o' nx (L st' pd')) n':=fun st' pd' b hb hh=>by
   subst hb
   refine hK _ _ k1 ⟨k2.bQ.aK ah (xD _ _ _ ah),ah,fun id aC=> ?_⟩ (fun id g1 g2=> ?_)
   ·by_cases uK:id=nx
    ·exact KK
    ·rw[ak _ _ _ _ uK]
     show o' id=H (step s x) id
     exact Kz
   ·exact V2
  cases hj:J (step s x)with
  |none=>exact VZ
  |some j=>
   cases j with
   |ret=>exact VX
   |exit j=>exact VV
 ·exact VY
 ·by_cases uK:id=nx
  ·exact KO
  ·exact VU
 ·intro o' n' k1 k2 k3
  have hle:=k2.le
  generalize hsf:(aB (A2 J step) s0 (iP t)).1=sf at*
  have kk:∀st pd,cQ nx (G sf) (aK o' nx (L st pd)) n':=fun st pd=>⟨k2.bQ.aK ah (xD _ _ _ ah),ah,fun id aC=>by rw[ak _ _ _ _ (by omega),k2.eq id (by omega),HW _ _ aC]⟩
  cases hj:J sf with
  |none=>
   refine⟨.ready,none,by rw[k2.eq nx (by omega),OD _ hj],(fun h=>by cases h), ?_⟩
   have:=ky _ _ (kk .exhausted none)
   rwa [hj]at this
  |some j=>
   refine⟨.done,some j,by rw[k2.eq nx (by omega),VW _ _ hj],(fun h=>by cases h), ?_⟩
   have:=ky _ _ (kk .exhausted (some j))
   rwa [hj]at this
end
section
def Jh(l:List (D×D)):List (Int×D):=l.map fun p=>((match p.1 with| .int _ n=>n|_=>0),p.2)
def ZC(l:List (D×D)):Bool:=l.all fun p=>match p.1 with| .int .i64 _=>true|_=>false
@[go_sem] theorem ae7 (m:List (Int×D)):Jh (enc (D.int .i64) m)=m:=by
  unfold Jh enc;rw[List.map_map];simp[Function.comp_def]
@[go_sem] theorem ae8 (m:List (Int×D)):ZC (enc (D.int .i64) m)=true:=by simp[ZC,enc]
@[go_sem] theorem ae9:ZC []=true:=rfl
@[go_sem] theorem afa:Jh []=[]:=rfl
theorem A3:∀ {l:List (D×D)},ZC l=true->enc (D.int .i64) (Jh l)=l
 |[],_=>rfl
 |(k,x)::l,h=>by
  simp only[ZC,List.all_cons,Bool.and_eq_true]at h
  have ih:=A3 (l:=l) h.2
  obtain⟨n,h1⟩:∃n,k= .int .i64 n:=by
   have h1:=h.1
   split at h1
   ·exact⟨_,rfl⟩
   ·cases h1
  subst h1
  simp only[enc,Jh,List.map_cons]at ih|-
  rw[ih]
def iH(l:List Int):List (Int×D):=l.map fun n=>(n, .bool true)
@[go_sem] theorem aeC:iH []=[]:=rfl
def sD(l:List Int)(n:Int):List Int:=if l.contains n=true then l else l++[n]
theorem wa{l:List Int}{n k:Int}:k∈sD l n↔k∈l\/k=n:=by
 unfold sD
 split
 ·rename_i h
  have:n∈l:=by simpa using h
  constructor
  ·exact .inl
  ·rintro(h|rfl)<;>assumption
 ·simp
theorem wb{l:List Int}(n:Int)(h:l.Nodup):(sD l n).Nodup:=by
 unfold sD
 split
 ·exact h
 ·rename_i hn
  have hn:n∉l:=by simpa using hn
  rw[List.nodup_append]
  exact⟨h,ao,fun a ha b hb=>by simp at hb;subst hb;intro e;subst e;exact hn ha⟩
theorem l5:∀ (l:List Int) (n:Int) (i:Nat),eM n (iH l) i=(l.findIdx? (· ==n)).map fun j=>(i+j,D.bool true)
 |[],n,i=>rfl
 |x::l,n,i=>by
  have ih:=l5 l n (i+1)
  simp only[iH,List.map_cons,eM,List.findIdx?_cons]at ih|-
  by_cases h:n=x
  ·subst h;simp
  ·have h2: ¬x=n:=fun e=>h e.symm
   simp only[beq_iff_eq,h,h2,if_false,ih,Option.map_map,Function.comp_def]
   congr 1;funext j;congr 1;omega
@[go_sem] theorem aaQ (l:List Int) (n:Int):tV n (.bool true) (iH l)=iH (sD l n):=by
  unfold tV sD
  rw[l5]
  cases h:l.findIdx? (· ==n)with
  |none=>
   have:l.contains n=false:=by
    rw[List.findIdx?_eq_none_iff]at h
    rw[Bool.eq_false_iff];intro hc
    have:=h n (by simpa using hc)
    simp at this
   simp only[Option.map_none,this,Bool.false_eq_true,if_false]
   simp[iH]
  |some j=>
   rw[List.findIdx?_eq_some_iff_getElem]at h
   obtain⟨hj,he,_⟩:=h
   have e:l[j]=n:=by simpa using he
   have:l.contains n=true:=by rw[List.contains_iff_mem, <- e];exact List.getElem_mem hj
   simp only[Option.map_some,this,if_true,Nat.zero_add]
   apply List.ext_getElem?
   intro k
   rw[List.getElem?_set]
   split
   ·rename_i hk;subst hk;simp[iH,hj,e]
   ·rfl
def Dr(l:List Int)(n:Int):List Int:=match l.findIdx? (· ==n)with|some j=>l.eraseIdx j|none=>l
theorem iI{α β:Type}(f:α->β):∀ (l:List α) (j:Nat),(l.map f).eraseIdx j=(l.eraseIdx j).map f
 |[],_=>rfl
 |_::_,0=>rfl
 |x::l,j+1=>by simp[iI f l j]
@[go_sem] theorem aaR (l:List Int) (n:Int):aev n (iH l)=iH (Dr l n):=by
  unfold aev Dr
  rw[l5]
  cases h:l.findIdx? (· ==n)with
  |none=>simp
  |some j=>simp only[Option.map_some,Nat.zero_add];exact iI _ _ _
theorem zb{l:List Int}(n:Int)(h:l.Nodup):(Dr l n).Nodup/\∀k,k∈Dr l n↔k∈l/\k≠n:=by
 unfold Dr
 cases hf:l.findIdx? (· ==n)with
 |none=>
  rw[List.findIdx?_eq_none_iff]at hf
  refine⟨h,fun k=>⟨fun hk=>⟨hk,fun e=> ?_⟩,fun hk=>hk.1⟩⟩
  subst e
  have:=hf k hk
  simp at this
 |some j=>
  rw[List.findIdx?_eq_some_iff_getElem]at hf
  obtain⟨hj,he,_⟩:=hf
  have e:l[j]=n:=by simpa using he
  refine⟨h.sublist (List.eraseIdx_sublist _ _),fun k=> ?_⟩
  show k∈l.eraseIdx j↔_
  have uX:l=l.take j++l[j]::l.drop (j+1):=by rw[List.getElem_cons_drop,List.take_append_drop]
  rw[List.eraseIdx_eq_take_drop_succ]
  rw[uX,List.nodup_append,List.nodup_cons]at h
  obtain⟨h1,⟨h2,h3⟩,h4⟩:=h
  constructor
  ·intro hk
   rw[List.mem_append]at hk
   refine⟨?_,fun ek=> ?_⟩
   ·rcases hk with hk|hk
    ·exact List.mem_of_mem_take hk
    ·exact List.mem_of_mem_drop hk
   ·rcases hk with hk|hk
    ·exact h4 k hk l[j] (List.mem_cons_self ..) (by rw[ek,e])
    ·exact h2 (by rw[e, <- ek];exact hk)
  ·rintro⟨hk,ik⟩
   rw[uX,List.mem_append,List.mem_cons]at hk
   rw[List.mem_append]
   rcases hk with hk|hk|hk
   ·exact .inl hk
   ·exact absurd (hk.trans e) ik
   ·exact .inr hk
section
variable {P:Program}{o:Nat->ab}{t:TypeId}{id:Nat}{n:Int}{v:V}
def sE(P:Program)(kt:TypeId):Bool:=match cj P kt with|some .int=>true|_=>false
theorem zc{kt:TypeId}(h:sE P kt=true):cj P kt=some .int:=by
 unfold sE at h;split at h
 ·assumption
 ·cases h
@[go_sem] theorem aaS {kt:TypeId} (h:cj P kt=some .int):sE P kt=true:=by unfold sE;rw[h]
def ZD(P:Program)(o:Nat->ab)(t:TypeId)(id:Nat)(n:Int)(v:V):Option gN:=
 match px P t,ew o v,o id with
 |some (kt,_),some vd, .map Gg Gh l=>match sE P kt&&ZC l&&v.ids.all (· !=id)with
  |true=>some (.cg [],dk o v.ids++[(id, .map Gg Gh (enc (D.int .i64) (tV n vd (Jh l))))],id::v.ids)
  |false=>qU P o t (.mp id) (.d (.int .i64 n)) v
 |_,_,_=>qU P o t (.mp id) (.d (.int .i64 n)) v
@[go_sem high] theorem ZE:gE P o t (.mp id) (.d (.int .i64 n)) v=ZD P o t id n v:=by
  unfold ZD
  split
  ·rename_i kt vt vd Gg Gh l h1 h2 h3
   split
   ·rename_i hc
    simp only[Bool.and_eq_true]at hc
    obtain⟨⟨c1,c2⟩,c3⟩:=hc
    have c4:=zc c1
    have c5:ew o (.d (.int .i64 n))=some (.int .i64 n):=rfl
    have hl:=A3 c2
    unfold gE
    simp only[h1,c5,h2,oX,h3]
    rw[if_pos ⟨rfl,G5 c4 n,rfl,c3⟩]
    conv=>lhs;rw[<- hl]
    rw[Di c4]
    unfold tV
    cases eM n (Jh l) 0 with
    |none=>simp[xp,enc]
    |some p=>simp[xp,G6,D.same,oW]
   ·exact yT ..
  ·exact yT ..
attribute [go_sem] ZD
def isS(l:List (D×D)):Bool:=l.all fun p=>match p.2 with| .bool true=>true|_=>false
@[go_sem] theorem afb (l:List Int):isS (enc (D.int .i64) (iH l))=true:=by simp[isS,enc,iH]
@[go_sem] theorem afc:isS []=true:=rfl
theorem Hf:∀ {m:List (Int×D)},isS (enc (D.int .i64) m)=true->iH (m.map (·.1))=m
 |[],_=>rfl
 |(k,x)::m,h=>by
  simp only[isS,enc,List.map_cons,List.all_cons,Bool.and_eq_true]at h
  have ih:=Hf (m:=m) h.2
  have h1:x= .bool true:=by
   have h1:=h.1
   split at h1
   ·rfl
   ·cases h1
  simp only[iH,List.map_cons]at ih|-
  rw[ih,h1]
def Nf(P:Program)(o:Nat->ab)(t:TypeId)(m:V)(n:Int)(ok:Bool):Option gN:=
 match px P t with
 |some (kt,vt)=>match zeroV P vt with
  |some (.d (.bool false))=>match ql o m with
   |some (rd,l)=>match sE P kt&&ZC l&&isS l with
    |true=>some (match ok with|true=> .cg [.d (.bool (((Jh l).map (·.1)).contains n)), .d (.bool (((Jh l).map (·.1)).contains n))]|false=> .d (.bool (((Jh l).map (·.1)).contains n)),[],rd)
    |false=>vV P o t m (.d (.int .i64 n)) ok
   |none=>vV P o t m (.d (.int .i64 n)) ok
  |_=>vV P o t m (.d (.int .i64 n)) ok
 |none=>vV P o t m (.d (.int .i64 n)) ok
@[go_sem] theorem Ng (l:List Int):((iH l).map (·.1))=l:=by simp[iH,Function.comp_def]
@[go_sem high] theorem aeD {m:V} {ok:Bool}:iy P o t m (.d (.int .i64 n)) ok=Nf P o t m n ok:=by
  unfold Nf
  split
  ·rename_i kt vt h1
   split
   ·rename_i hz
    split
    ·rename_i rd l h
     split
     ·rename_i hc
      simp only[Bool.and_eq_true]at hc
      have c4:=zc hc.1.1
      have hl:=A3 hc.1.2
      have hs:iH ((Jh l).map (·.1))=Jh l:=Hf (by rw[hl];exact hc.2)
      have c5:ew o (.d (.int .i64 n))=some (.int .i64 n):=rfl
      unfold iy
      simp only[h1,c5,h]
      rw[if_pos ⟨rfl,G5 c4 n⟩]
      conv=>lhs;rw[<- hl]
      rw[Di c4, <- hs,l5,Ng]
      generalize (Jh l).map (·.1)=l'
      cases hf:l'.findIdx? (· ==n)with
      |none=>
       have:l'.contains n=false:=by
        rw[List.findIdx?_eq_none_iff]at hf
        rw[Bool.eq_false_iff];intro hc
        have:=hf n (by simpa using hc)
        simp at this
       cases ok<;>simp only[Option.map_none,xp,hz,this,if_true,Bool.false_eq_true,if_false]
      |some j=>
       rw[List.findIdx?_eq_some_iff_getElem]at hf
       obtain⟨hj,he,_⟩:=hf
       have e:l'[j]=n:=by simpa using he
       have:l'.contains n=true:=by rw[List.contains_iff_mem, <- e];exact List.getElem_mem hj
       cases ok<;>simp only[Option.map_some,xp,this,if_true,Bool.false_eq_true,if_false]
     ·exact oE ..
    ·exact oE ..
   ·exact oE ..
  ·exact oE ..
attribute [go_sem] Nf
end
theorem zd{K:V->List (Nat×ab)->Prop}{id:Nat}{l:List Int}(h0:l=[]->K (.cg [.d (.bool false)]) [])
 (h1:∀ (i:Nat) n,l[i]? =some n->K (.cg [.d (.bool true), .d (.int .i64 n), .d (.bool true)]) [(id, .nh (enc (D.int .i64) (iH (l.eraseIdx i))) (some (.int .i64 n, .bool true)))]):CP K id (enc (D.int .i64) (iH l)):=by
 refine yR _ (fun h=>h0 ?_) fun i k x h=> ?_
 ·cases l with
  |nil=>rfl
  |cons x l=>simp[iH]at h
 ·unfold iH at h|-
  rw[List.getElem?_map]at h
  cases hl:l[i]? with
  |none=>rw[hl]at h;cases h
  |some n=>
   rw[hl]at h
   simp at h
   obtain⟨rfl,rfl⟩:=h
   have:=h1 i n hl
   rw[iI]
   exact this
theorem wc{l:List Int}{i:Nat}{n:Int}(h:l[i]? =some n):(∀v,v∈l↔v=n\/v∈l.eraseIdx i)/\(l.eraseIdx i).length+1=l.length:=by
 obtain⟨hi,e⟩:=List.getElem?_eq_some_iff.1 h
 refine⟨fun v=> ?_,by rw[List.length_eraseIdx];simp[hi];omega⟩
 have uX:l=l.take i++n::l.drop (i+1):=by rw[<- e,List.getElem_cons_drop,List.take_append_drop]
 rw[List.eraseIdx_eq_take_drop_succ]
 conv=>lhs;rw[uX]
 simp only[List.mem_append,List.mem_cons]
 constructor
 ·rintro(h|h|h)
  ·exact .inr (.inl h)
  ·exact .inl h
  ·exact .inr (.inr h)
 ·rintro(h|h|h)
  ·exact .inr (.inl h)
  ·exact .inl h
  ·exact .inr (.inr h)
attribute [go_sem] List.head?_cons
end
theorem Nh(a b:List Tm)(ha:a.length<=9223372036854775807)(hb:b.length<=9223372036854775807)(g:Nat)(h:∀x∈a,∀y∈b,aR Tryz.prog g [x.d,y.d] (.ret [.bool (aU x y)]))(o:Nat->ab)(nx:Nat)(hg:Good o nx)(K X:V->(Nat->ab)->Nat->Prop)
 (hK:∀o' nx',nx<=nx'->Good o' nx'->(∀j,j<nx->o' j=o j)->K (.d (.bool (a.length==b.length&&gS a b))) o' nx'):
 cK Tryz.prog 114 [.d (.sl (a.map Tm.d)), .d (.sl (b.map Tm.d)), .func (.func g) [] []] o nx K X:=by
 refine cK.az mix MJ ao ?_
 rw[Qp]
 refine iO ?_
 refine aj (fun h1=> ?_) (fun h1=> ?_)
 ·refine aS ?_
  have:(a.length==b.length&&gS a b)=false:=by
   have:(a.length==b.length)=false:=by
    exact Lm
   rw[this];rfl
  exact Ge
 ·have hl:a.length=b.length:=by simp at h1;omega
  have z8:(a.length==b.length)=true:=by simpa using hl
  rw[z8,Bool.true_and]at hK
  refine iO ?_
  refine aF (fun k:Nat=>⟨bp [.d (.sl (a.map Tm.d)), .d (.sl (b.map Tm.d)), .func (.func g) [] [], .aa, .aa, .aa, .aa, .aa, .aa, .aa, .aa, .aa, .aa, .aa, .aa, .d (.sl (a.map Tm.d)), .d (.i a.length), .d (.i k)],o,nx⟩)
   (fun k=>k<=a.length/\∀i,i<k->∀x y,a[i]? =some x->b[i]? =some y->aU x y=true) (fun k=>a.length - k) 0 ⟨Nat.zero_le _,fun i h=>ah⟩ (bJ.bX _ (Nat.le_refl _) ah hg (fun _ _=>rfl) ?_) (fun k hk=> ?_)
  ·exact cY
  refine aS ?_
  refine aj (fun h2=> ?_) (fun h2=> ?_)
  ·simp at h2
   obtain⟨x,hx⟩:=aq h2
   obtain⟨y,hy⟩:=aq (l:=b) (k:=k) ah
   refine VH hx hy ?_
   refine ai (h x (List.mem_of_getElem? hx) y (List.mem_of_getElem? hy)) rfl ?_
   refine aS ?_
   refine aj (fun h3=> ?_) (fun h3=> ?_)
   ·refine aS ?_
    simp at h3
    have:gS a b=false:=by
     rw[Bool.eq_false_iff];intro h4
     have:=(jh _ _ hl).1 h4 k x y hx hy
     rw[h3]at this;cases this
    exact R0
   ·refine aS ?_
    simp at h3
    refine au (k+1) ⟨h2,fun i hi u v hu hv=> ?_⟩ ah (bJ.bX _ (Nat.le_refl _) ah hg (fun j hj=>by(repeat(first|rfl|rw[ad]|rw[ak _ _ _ _ (by omega)]))) ?_)
    ·by_cases e:i=k
     ·subst e
      rw[hx]at hu;rw[hy]at hv
      exact RE
     ·exact hk.2 i ah u v hu hv
    ·exact cY
  ·refine aS ?_
   simp at h2
   have:gS a b=true:=(jh _ _ hl).2 fun i x y hx hy=>hk.2 i (by have:=(List.getElem?_eq_some_iff.1 hx).1;omega) x y hx hy
   exact Ge
def lk:List (Int×Int)->Int->Option Int
 |[],_=>none
 |p::m,v=>if p.1=v then some p.2 else lk m v
abbrev tX(m:List (Int×Int)):Prop:=(m.map (·.1)).Nodup
theorem Hg{m:List (Int×Int)}{v k:Int}(hk:tX m):lk m v=some k↔(v,k)∈m:=by
 induction m with
 |nil=>simp[lk]
 |cons p m ih=>
  rw[tX,List.map_cons,List.nodup_cons]at hk
  simp only[lk,List.mem_cons]
  by_cases h:p.1=v
  ·rw[if_pos h]
   constructor
   ·intro e;injection e with e;exact .inl (by rw[<- h, <- e])
   ·rintro(e|e)
    ·rw[<- e]
    ·exact absurd (h ▸ List.mem_map.2 ⟨_,e,rfl⟩) hk.1
  ·rw[if_neg h,ih hk.2]
   constructor
   ·exact .inr
   ·rintro(e|e)
    ·exact absurd (by rw[<- e]) h
    ·exact e
def ints(m:List (Int×Int)):List (Int×D):=m.map fun p=>(p.1,D.i p.2)
theorem sF:∀ (m:List (Int×Int)) (v:Int) (i:Nat),(match eM v (ints m) i with|some (_,x)=>some x|none=>none)=(lk m v).map D.i
 |[],v,i=>rfl
 |p::m,v,i=>by
  have ih:=sF m v (i+1)
  simp only[ints,List.map_cons,eM,lk]at ih|-
  by_cases h:v=p.1
  ·subst h;simp
  ·have h2: ¬p.1=v:=fun e=>h e.symm
   simp only[beq_iff_eq,h,h2,if_false]
   exact ih
theorem mE{m:List (Int×Int)}{v k:Int}(h:lk m v=some k):∃j,eM v (ints m) 0=some (j,D.i k):=by
 have:=sF m v 0
 rw[h]at this
 cases ha:eM v (ints m) 0 with
 |none=>rw[ha]at this;cases this
 |some p=>obtain⟨j,x⟩:=p;rw[ha]at this;simp at this;exact⟨j,by rw[this]⟩
theorem mF{m:List (Int×Int)}{v:Int}(h:lk m v=none):eM v (ints m) 0=none:=by
 have:=sF m v 0
 rw[h]at this
 cases ha:eM v (ints m) 0 with
 |none=>rfl
 |some p=>obtain⟨j,x⟩:=p;rw[ha]at this;cases this
def il(m:List (Int×Int))(v:Int):Int:=(lk m v).getD 0
def lG:List (Int×Int)->Int->Int->List (Int×Int)
 |[],v,w=>[(v,w)]
 |p::m,v,w=>if p.1=v then(v,w)::m else p::lG m v w
theorem Ds(v:Int):∀ (m:List (Int×D)) (i:Nat),eM v m (i+1)=(eM v m i).map fun p=>(p.1+1,p.2)
 |[],_=>rfl
 |p::m,i=>by
  have ih:=Ds v m (i+1)
  simp only[eM]
  by_cases h:(v==p.1)=true
  ·simp[h]
  ·simp only[h,if_false];exact ih
theorem Ji{v:Int}{p:Int×D}{m:List (Int×D)}{x:D}(h: ¬v=p.1):tV v x (p::m)=p::tV v x m:=by
 have hb: ¬ ((v==p.1)=true):=by simpa using h
 unfold tV
 simp only[eM,hb,if_false]
 rw[Ds]
 cases eM v m 0 with
 |none=>rfl
 |some q=>obtain⟨i,y⟩:=q;rfl
theorem l6:∀ (m:List (Int×Int)) (v w:Int),tV v (D.i w) (ints m)=ints (lG m v w)
 |[],v,w=>by simp[tV,eM,ints,lG]
 |p::m,v,w=>by
  have ih:=l6 m v w
  by_cases h:p.1=v
  ·subst h
   simp[tV,eM,ints,lG]
  ·have h': ¬v=p.1:=fun e=>h e.symm
   have e2:ints (p::m)=(p.1,D.i p.2)::ints m:=rfl
   rw[e2,Ji h',ih]
   simp[lG,h,ints]
def tY(m:List (Int×Int))(v:Int):List (Int×Int):=lG m v (IntKind.i64.wrap (il m v+1))
@[reducible] def qX (m:List (Int×Int)):ab:= .map 3 3 (enc (D.int .i64) (ints m))
def ej(op:Int)(m:List (Int×Int))(x:Tm):List (Int×Int):=if x.op=op then tY m x.n else m
def aeE(R:List (Int×Int)->Prop)(o:Nat->ab)(nx:Nat)(K:V->(Nat->ab)->Nat->Prop):Prop:=
 ∀o' nx' id m,nx<=id->id<nx'->Good o' nx'->(∀j,j<nx->o' j=o j)->o' id=qX m->R m->K (.mp id) o' nx'
theorem ZF(t:Tm)(ht:t.fits)(o:Nat->ab)(nx:Nat)(hg:Good o nx)(K X:V->(Nat->ab)->Nat->Prop)
 (hK:aeE (fun m=>m=(iP t).foldl (ej 8) []) o nx K):cK Tryz.prog 190 [.d t.d] o nx K X:=by
 refine cK.az mix UJ ao ?_
 rw[YP]
 refine iO ?_
 refine c7 (za t _ _ _ _ ?_)
 refine iO ?_
 have hG:∀j,j<nx+10->aK (aK (aK (aK (aK o nx (.row [.d (.i t.op), .d (.i t.n), .d (.sl (t.kids.map Tm.d))])) (nx+2) (.map 3 3 [])) (nx+3) (.row [.d .jw])) (nx+3) (.row [.mp (nx+2)])) (nx+6) (.row t.row) j=aK (aK (aK (aK o nx (.row t.row)) (nx+3) (.row [.mp (nx+2)])) (nx+6) (.row t.row)) (nx+2) (qX []) j:=by
  intro j _
  exact OZ
 refine qW (σ:=List (Int×Int)) t ht [.aa, .ptr nx 0, .aa, .ptr (nx+3) 0] ?_ bE rfl dB mT (ad _ _ _)
  (fun s=>aK (aK (aK (aK o nx (.row t.row)) (nx+3) (.row [.mp (nx+2)])) (nx+6) (.row t.row)) (nx+2) (qX s)) (fun _=>none) (ej 8) (fun _=>True) [] trivial rfl hG (fun _ _ _ _ _ _=>trivial) ?_ ?_
 ·exact Ko
 ·intro L hL xD x hx s' _ _ o3 n3 hI hn Kc K' X' cR
  simp only[nG]
  have hg:=hI.bQ
  have hle:=hI.le
  have q1:o3 (nx+3)= .row [.mp (nx+2)]:=by rw[hI.eq (nx+3) (by omega)];(repeat(first|rfl|rw[ad]|rw[ak _ _ _ _ (by omega)]))
  have q2:o3 (nx+2)=qX s':=by rw[hI.eq (nx+2) (by omega)];(repeat(first|rfl|rw[ad]|rw[ak _ _ _ _ (by omega)]))
  refine aS ?_
  refine nU hL (pd:=none) ?_ ?_
  ·(repeat(first|rfl|rw[ad]|rw[ak _ _ _ _ (by omega)]))
   exact Kc
  refine xB q1 q2 ?_
  have z1:nx≠n3:=ah
  have z2:∀k,nx≠n3+k:=fun k=>ah
  have z3:nx+2≠n3:=ah
  have z4:nx+3≠n3:=ah
  have same:∀ (o':Nat->ab) (n':Nat) (l:List (Int×Int)),Good o' n'->n3<=n'->(∀j,j<nx+10->o' j=aK o3 (nx+2) (qX l) j)->cQ (nx+10) (aK (aK (aK (aK o nx (.row t.row)) (nx+3) (.row [.mp (nx+2)])) (nx+6) (.row t.row)) (nx+2) (qX l)) o' n':=fun o' n' l k1 k2 k3=>⟨k1,ah,fun j hj=>by
   rw[k3 j hj]
   by_cases e:j=nx+2
   ·subst e;rw[ad,ad]
   ·rw[ak _ _ _ _ e,ak _ _ _ _ e,hI.eq j hj,ak _ _ _ _ e]⟩
  refine aj (fun h3=> ?_) (fun h3=> ?_)
  ·have sb:x.op=8:=by simpa using h3
   have hp:ej 8 s' x=tY s' x.n:=by unfold ej;rw[if_pos sb]
   rw[hp]at cR
   cases Ni:lk s' x.n with
   |none=>
    have hc:tY s' x.n=lG s' x.n (0+1):=by unfold tY il;rw[Ni];rfl
    rw[hc]at cR
    simp+contextual (disch:=first|omega|simp only[go_sem,false_implies]) only[go_sem,wrap64,if_pos,q1,q2,z1,z2,z3,z4,mF Ni,l6,Nat.add_assoc,Nat.left_eq_add,Nat.add_eq_left,Nat.add_left_cancel_iff]
    refine cR _ _ _ .busy none ah (same _ _ _ dB ah fun j hj=> ?_) dU (fun j h3 h4=>by(repeat(first|rfl|rw[ad]|rw[ak _ _ _ _ (by omega)])))
    by_cases e:j=nx+2
    ·exact zL
    ·exact dU
   |some c=>
    obtain⟨k,hk⟩:=mE Ni
    have hc:tY s' x.n=lG s' x.n (IntKind.i64.wrap (c+1)):=by unfold tY il;rw[Ni];rfl
    rw[hc]at cR
    simp+contextual (disch:=first|omega|simp only[go_sem,false_implies]) only[go_sem,wrap64,if_pos,q1,q2,z1,z2,z3,z4,hk,l6,Nat.add_assoc,Nat.left_eq_add,Nat.add_eq_left,Nat.add_left_cancel_iff]
    refine cR _ _ _ .busy none ah (same _ _ _ dB ah fun j hj=> ?_) dU (fun j h3 h4=>by(repeat(first|rfl|rw[ad]|rw[ak _ _ _ _ (by omega)])))
    by_cases e:j=nx+2
    ·exact zL
    ·exact dU
  ·have hp:ej 8 s' x=s':=by unfold ej;rw[if_neg (by simpa using h3)]
   rw[hp]at cR
   refine aS ?_
   refine cR _ _ _ .busy none ah (same _ _ _ dB ah fun j hj=> ?_) dU (fun j h3 h4=>by(repeat(first|rfl|rw[ad]|rw[ak _ _ _ _ (by omega)])))
   by_cases e:j=nx+2
   ·exact Sz
   ·exact dU
 ·intro o' n' hI
  have hle:=hI.le
  simp only[pG]
  have q1:o' (nx+3)= .row [.mp (nx+2)]:=by rw[hI.eq (nx+3) (by omega)];(repeat(first|rfl|rw[ad]|rw[ak _ _ _ _ (by omega)]))
  refine dc q1 ?_
  have Bw:∀ (l:List Tm) (m:List (Int×Int)),(aB (A2 (fun _=>none) (ej 8)) m l).1=l.foldl (ej 8) m:=by
   intro l
   induction l with
   |nil=>intro m;rfl
   |cons y l ih=>intro m;simp only[aB,A2,Option.isNone_none,if_true];exact ih _
  rw[Bw]at hI
  refine hK _ _ _ _ ah ah (hI.bQ.mono ah) (fun j hj=> ?_) (by rw[hI.eq (nx+2) (by omega),ad]) rfl
  rw[hI.eq j (by omega)];(repeat(first|rfl|rw[ad]|rw[ak _ _ _ _ (by omega)]))
theorem Dt(l:List Tm)(hl:l.length<=1000000)(hf:∀t∈l,t.fits)(o:Nat->ab)(nx:Nat)(hg:Good o nx)(K X:V->(Nat->ab)->Nat->Prop)
 (hK:aeE (fun m=>m=(l.flatMap iP).foldl (ej 1) []) o nx K):cK Tryz.prog 189 [.d (.sl (l.map Tm.d))] o nx K X:=by
 refine cK.az mix UI ao ?_
 rw[YO]
 refine VG ?_
 let Hm:List (Int×Int)->Nat->ab:=fun m=>aK (aK o (nx+2) (.row [.mp (nx+1)])) (nx+1) (qX m)
 have hgm:∀m,Good (Hm m) (nx+7):=fun m=>((hg.mono ah).aK ah mS).aK ah rfl
 have WG:∀m,Hm m (nx+1)=qX m:=fun m=>ad _ _ _
 have OH:∀m,Hm m (nx+2)= .row [.mp (nx+1)]:=fun m=>by show aK _ (nx+1) _ (nx+2)=_;rw[ak _ _ _ _ (by omega),ad]
 have xe:∀m j,j≠nx+1->Hm m j=Hm [] j:=fun m j h=>by show aK _ (nx+1) _ j=aK _ (nx+1) _ j;rw[ak _ _ _ _ h,ak _ _ _ _ h]
 refine aF (fun i:Nat×List (Int×Int)=>⟨bp [.aa, .aa, .aa, .ptr (nx+2) 0, .aa, .aa, .aa, .aa, .d (.sl (l.map Tm.d)), .d (.i l.length), .d (.i i.1)],Hm i.2,nx+7⟩)
  (fun i=>i.1<=l.length/\i.2=((l.take i.1).flatMap iP).foldl (ej 1) []) (fun i=>l.length - i.1) (0,[]) ⟨Nat.zero_le _,rfl⟩ (bJ.bX _ (show nx<=nx+7 from ah) ah (hgm _) (fun j hj=> ?_) ?_) ?_
 ·show _=aK (aK o (nx+2) (.row [.mp (nx+1)])) (nx+1) (qX []) j
  exact OZ
 ·exact cY
 rintro⟨k,m⟩ ⟨hk,hm⟩
 simp only at hk hm
 refine aS ?_
 refine aj (fun h2=> ?_) (fun h2=> ?_)
 ·simp at h2
  obtain⟨x,hx⟩:=aq h2
  have cz:=List.mem_of_getElem? hx
  have lK:((l.take (k+1)).flatMap iP).foldl (ej 1) []=(iP x).foldl (ej 1) m:=by
   rw[List.take_add_one,hx,hm];simp
  have agW:=hgm m
  have e1:=WG m
  have e2:=OH m
  have e3:=xe m
  clear_value Hm
  refine Bz hx ?_
  refine c7 (za x _ _ _ _ ?_)
  refine iO ?_
  let G:List (Int×Int)->Nat->ab:=fun s=>aK (aK (aK (Hm m) (nx+10) (.row x.row)) (nx+13) (.row x.row)) (nx+1) (qX s)
  have hG:∀j,j<nx+17->aK (aK (aK (Hm m) (nx+10) (.row [.d (.int .i64 0), .d (.int .i64 0), .br])) (nx+10) (.row [.d (.i x.op), .d (.i x.n), .d (.sl (x.kids.map Tm.d))])) (nx+13) (.row x.row) j=G m j:=by
   intro j _
   show _=aK (aK (aK (Hm m) (nx+10) (.row x.row)) (nx+13) (.row x.row)) (nx+1) (qX m) j
   by_cases e:j=nx+1
   ·subst e;(repeat(first|rfl|rw[ad]|rw[ak _ _ _ _ (by omega)]))
    exact e1
   ·rw[ak _ (nx+1) _ _ e,jt]
  have gm:∀s,G s (nx+1)=qX s:=fun s=>ad _ _ _
  have g2:∀s,G s (nx+2)= .row [.mp (nx+1)]:=fun s=>by
   show aK _ (nx+1) _ (nx+2)=_
   rw[ak _ _ _ _ (by omega),ak _ _ _ _ (by omega),ak _ _ _ _ (by omega)];exact e2
  have g3:∀s s' j,j≠nx+1->G s j=G s' j:=fun s s' j h=>by show aK _ (nx+1) _ j=aK _ (nx+1) _ j;rw[ak _ _ _ _ h,ak _ _ _ _ h]
  have g4:∀s j,j<nx+7->j≠nx+1->G s j=Hm m j:=fun s j h h'=>by
   show aK _ (nx+1) _ j=_
   rw[ak _ _ _ _ h',ak _ _ _ _ (by omega),ak _ _ _ _ (by omega)]
  clear_value G
  have hg:=agW
  refine qW (σ:=List (Int×Int)) x (hf x cz) [.aa, .aa, .aa, .ptr (nx+2) 0, .aa, .aa, .aa, .aa, .d (.sl (l.map Tm.d)), .d (.i l.length), .d (.i k)] ?_ bE rfl dB mT (ad _ _ _)
   G (fun _=>none) (ej 1) (fun _=>True) m trivial rfl hG (fun _ _ _ _ _ _=>trivial) ?_ ?_
  ·exact Ko
  ·intro L hL xD y hy s' _ _ o3 n3 hI hn Kc K' X' cR
   simp only[nG]
   have hg:=hI.bQ
   have hle:=hI.le
   have q1:o3 (nx+2)= .row [.mp (nx+1)]:=by rw[hI.eq (nx+2) (by omega),g2]
   have q2:o3 (nx+1)=qX s':=by rw[hI.eq (nx+1) (by omega),gm]
   have z1:nx≠n3:=ah
   have z2:∀k,nx≠n3+k:=fun k=>ah
   have z3:nx+2≠n3:=ah
   have z4:nx+1≠n3:=ah
   have same:∀ (o':Nat->ab) (n':Nat) (l:List (Int×Int)),Good o' n'->n3<=n'->(∀j,j<nx+17->o' j=aK o3 (nx+1) (qX l) j)->cQ (nx+17) (G l) o' n':=fun o' n' l k1 k2 k3=>⟨k1,ah,fun j hj=>by
    rw[k3 j hj]
    by_cases e:j=nx+1
    ·subst e;rw[ad,gm]
    ·rw[ak _ _ _ _ e,hI.eq j hj];exact g3 _ _ _ e⟩
   refine aS ?_
   refine nU hL (pd:=none) ?_ ?_
   ·(repeat(first|rfl|rw[ad]|rw[ak _ _ _ _ (by omega)]))
    exact Kc
   refine xB q1 q2 ?_
   refine aj (fun h3=> ?_) (fun h3=> ?_)
   ·have sb:y.op=1:=by simpa using h3
    have hp:ej 1 s' y=tY s' y.n:=by unfold ej;rw[if_pos sb]
    rw[hp]at cR
    cases Ni:lk s' y.n with
    |none=>
     have hc:tY s' y.n=lG s' y.n (0+1):=by unfold tY il;rw[Ni];rfl
     rw[hc]at cR
     simp+contextual (disch:=first|omega|simp only[go_sem,false_implies]) only[go_sem,wrap64,if_pos,q1,q2,z1,z2,z3,z4,mF Ni,l6,Nat.add_assoc,Nat.left_eq_add,Nat.add_eq_left,Nat.add_left_cancel_iff]
     refine cR _ _ _ .busy none ah (same _ _ _ dB ah fun j hj=> ?_) dU (fun j h3 h4=>by(repeat(first|rfl|rw[ad]|rw[ak _ _ _ _ (by omega)])))
     by_cases e:j=nx+1
     ·exact zL
     ·exact dU
    |some c=>
     obtain⟨q,hq⟩:=mE Ni
     have hc:tY s' y.n=lG s' y.n (IntKind.i64.wrap (c+1)):=by unfold tY il;rw[Ni];rfl
     rw[hc]at cR
     simp+contextual (disch:=first|omega|simp only[go_sem,false_implies]) only[go_sem,wrap64,if_pos,q1,q2,z1,z2,z3,z4,hq,l6,Nat.add_assoc,Nat.left_eq_add,Nat.add_eq_left,Nat.add_left_cancel_iff]
     refine cR _ _ _ .busy none ah (same _ _ _ dB ah fun j hj=> ?_) dU (fun j h3 h4=>by(repeat(first|rfl|rw[ad]|rw[ak _ _ _ _ (by omega)])))
     by_cases e:j=nx+1
     ·exact zL
     ·exact dU
   ·have hp:ej 1 s' y=s':=by unfold ej;rw[if_neg (by simpa using h3)]
    rw[hp]at cR
    refine aS ?_
    refine cR _ _ _ .busy none ah (same _ _ _ dB ah fun j hj=> ?_) dU (fun j h3 h4=>by(repeat(first|rfl|rw[ad]|rw[ak _ _ _ _ (by omega)])))
    by_cases e:j=nx+1
    ·exact Sz
    ·exact dU
  ·intro o' n' hI
   have hle:=hI.le
   simp only[pG]
   have Bw:∀ (l:List Tm) (m:List (Int×Int)),(aB (A2 (fun _=>none) (ej 1)) m l).1=l.foldl (ej 1) m:=by
    intro l
    induction l with
    |nil=>intro m;rfl
    |cons y l ih=>intro m;simp only[aB,A2,Option.isNone_none,if_true];exact ih _
   rw[Bw]at hI
   refine aS ?_
   refine au (k+1,(iP x).foldl (ej 1) m) ⟨h2,lK.symm⟩ oN (bJ.bX _ (show nx<=nx+7 from ah) ah (hgm _) (fun j hj=> ?_) ?_)
   ·rw[hI.eq j (by omega)]
    by_cases e:j=nx+1
    ·subst e;rw[gm,WG]
    ·rw[g4 _ _ hj e,e3 j e];exact(xe _ j e).symm
   ·exact cY
 ·simp at h2
  rw[List.take_of_length_le h2]at hm
  refine dc OH ?_
  exact hK _ _ _ _ ah ah ((hgm _).mono ah) (fun j hj=>by show aK _ (nx+1) _ j=_;rw[ak _ _ _ _ (by omega),ak _ _ _ _ (by omega)]) (WG m) hm
section
section
variable {B:Nat->Prop}{w:World}
end
theorem aR.tC {P:Program}{f:FuncId}{ds:List D}{out:D}(h:cK P f (ds.map .d) (fun _=> .no) 0 (fun v o _=>∃x,ew o v=some x/\∀B w val,D.den B w x val->D.den B w out val) (fun _ _ _=>False)):aR P f ds (.ret [out]):=by
 refine⟨h.1,fun M w vals hM hd=> ?_⟩
 let cN:Place:=fun _=> .nilFunc
 have xh:∀b, ¬df cN (hp (fun _=> .no) 0) b:=by rintro b ⟨id,hl,_⟩;simp[hp,ab.live]at hl
 refine(h.2 M cN w vals (lV cN hM) ((V.cD _ _).2 (D.aY (w:=w) (w':=w) (B:=M) (fun b _ hB=>⟨rfl,fun h=>h.elim hB (xh b)⟩) _ _ hd))).mono ?_
 rintro e w' ⟨aN,o',nx',v,k1,k2,k3⟩
 have yo:eT (fun _=>False) w w':=⟨k2.keep.os,k2.keep.tape,k2.keep.output,k2.keep.size,fun k hk _=>k2.keep.block k hk (xh k)⟩
 refine⟨yo, ?_⟩
 cases e with
 |outgrown=>exact k3.elim
 |panicked ch=>obtain⟨_,_,_,h⟩:=k3;exact h.elim
 |returned val=>
  obtain⟨g1,x,g2,g3⟩:=k3
  obtain⟨f1,f2,f3,f4,f5⟩:=dx k1 v.ids (fun id aC=>dq v val g1 id aC)
  have h3:=gG f1 (o:=o') v x val (fun id aC=>f3 id aC) g2 (V.aW f2 _ _ g1)
  exact g3 _ _ _ (D.aW (w:=w') (w':=w') (fun k _ hB=>⟨rfl,fun hM=>hB (.inl hM)⟩) x val h3)
end
@[reducible] def Nj (m:List (Int×Int)):D:= .mp ((enc (D.int .i64) (ints m)).map (·.1)) ((enc (D.int .i64) (ints m)).map (·.2))
theorem uc(m:List (Int×Int)):(((enc (D.int .i64) (ints m)).map (·.1)).zip ((enc (D.int .i64) (ints m)).map (·.2)))=enc (D.int .i64) (ints m):=G7 _ _
def eo(op:Int)(l:List Tm):List (Int×Int):=(l.flatMap iP).foldl (ej op) []
theorem ZG(t:Tm)(ht:t.fits):aR Tryz.prog 190 [t.d] (.ret [Nj (eo 8 [t])]):=by
 refine aR.tC (ZF t ht _ _ dB _ _ fun o' nx' id m _ _ _ _ ho hm=> ?_)
 refine⟨_,by simp only[ew,ho];rfl,fun B w val h=> ?_⟩
 have e:m=eo 8 [t]:=by rw[hm];simp[eo]
 rw[<- e];exact h
theorem tD(l:List Tm)(hl:l.length<=1000000)(hf:∀t∈l,t.fits):aR Tryz.prog 189 [.sl (l.map Tm.d)] (.ret [Nj (eo 1 l)]):=by
 refine aR.tC (Dt l hl hf _ _ dB _ _ fun o' nx' id m _ _ _ _ ho hm=> ?_)
 refine⟨_,by simp only[ew,ho];rfl,fun B w val h=> ?_⟩
 have e:m=eo 1 l:=hm
 rw[<- e];exact h
theorem zI(o:Nat->ab)(m:List (Int×Int))(v:Int):iy Tryz.prog o 176 (.d (Nj m)) (.d (.int .i64 v)) false=some (.d (.i (il m v)),[],[]):=by
 cases h:lk m v with
 |none=>
  have e:il m v=0:=by unfold il;rw[h];rfl
  rw[e]
  simp+contextual (disch:=first|omega|simp only[go_sem,false_implies]) only[go_sem,wrap64,if_pos,uc,mF h]
 |some c=>
  have e:il m v=c:=by unfold il;rw[h];rfl
  obtain⟨j,hj⟩:=mE h
  rw[e]
  simp+contextual (disch:=first|omega|simp only[go_sem,false_implies]) only[go_sem,wrap64,if_pos,uc,hj]
theorem Fu(l:List Int)(hl:l.length<=1000000)(o:Nat->ab)(fr:Nat):yq Tryz.prog 233 [.d (.sl (l.map .i))] [] o fr (.osl fr 0) [(fr, .arr 0 3 1 (l.map .i))]:=by
 refine yq.Fb (ds:=[.sl (l.map .i)]) ?_
 refine cK.az mix U5 ao ?_
 rw[Za]
 have hu:Tryz.prog.underlying 41=some (.slice 3):=af
 cases l with
 |nil=>
  have heq:∀O,rE Tryz.prog O 41 true (.d (.sl [])) .br=some .fq:=by
   intro O
   unfold rE
   rw[hu]
   rfl
  exact R5
 |cons a l=>
  have heq:∀O,rE Tryz.prog O 41 true (.d (.sl (D.i a::l.map D.i))) .br=some (.d (.bool false)):=by
   intro O
   unfold rE
   rw[hu]
   rfl
  simp only[List.map_cons,List.map_nil]
  refine dc heq ?_
  simp only[List.isEmpty_nil,if_true]
  refine dc heq ?_
  rw[List.length_cons]at hl
  rw[if_pos (by omega)]
  refine aS ?_
  exact V5
end Go.Proofs.YtonbelhklnmjnaaGreat
