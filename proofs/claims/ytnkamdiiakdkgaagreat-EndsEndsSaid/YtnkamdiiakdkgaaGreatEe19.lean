/-
  A PART. Conditions: none.
-/
import Derived.OpenShut
import Derived.Carry
import Derived.Handed
import Derived.JoinedOf
import Derived.ProofKit
import Derived.Test.YtnkamdiiakdkgaaGreatEe18
set_option linter.unusedSimpArgs false
set_option linter.unusedVariables false
set_option maxHeartbeats 8000000
namespace Go.Proofs.YtnkamdiiakdkgaaGreat
theorem df{c:Nat}{G:List Gr}{so:Nat->aa}{gone:Nat->Prop}{x x' y y':aa}(h:x=y)(h':x'=y')(hs:vy c G so gone y y'):vy c G so gone x x':=by rw[h,h'];exact hs
theorem iV{l:List Tm}{k:Tm}(h:k∈l):k.sz<=iT l:=by
 induction l with
 |nil=>cases h
 |cons x l ih=>
  rw[iP]
  rcases List.mem_cons.1 h with e|e
  ·subst e;omega
  ·have:=ih e;omega
theorem yi:∀t:Tm,t.nK<=t.sz:=by
 refine Tm.eJ fun t ih=> ?_
 rw[Tm.HC,Tm.jU]
 have:=(vY t.kids (iT t.kids)).2 fun k hk=>Nat.le_trans (ih k hk) (iV hk)
 omega
theorem Tm.HB.HP {t:Tm}(hf:t.fits)(h:t.sz<=900000):t.HB:=⟨⟨hf,Nat.le_trans (yi t) h⟩,by rw[Tm.sy];omega⟩
theorem yj(l:List Tm)(h:∀k∈l,(ez k).length<=k.sz):(dp l).length<=iT l:=by
 induction l with
 |nil=>simp[dp]
 |cons k l ih=>
  rw[dp,List.length_append,iP]
  have:=h k aJ
  have:=ih fun x hx=>h x oh
  omega
theorem ug:∀t:Tm,(ez t).length<=t.sz:=by
 refine Tm.eJ fun t ih=> ?_
 have:=yj t.kids ih
 rw[uc,List.length_append,Tm.jU]
 split<;>simp<;>omega
theorem zr(a b:List Tm):dp (a++b)=dp a++dp b:=by
 induction a with
 |nil=>simp[dp]
 |cons k a ih=>simp[dp,ih]
def Qe:IC:=SQ.snd.snd.snd.fst.snd.fst.fst
theorem yk{t:Tm}(hf:t.fits)(hz:t.sz<=1000000)(ih:∀k∈t.kids,k.fits->k.sz<=1000000->aW Tryz.prog 154 [k.d] (.ret [.sl ((ez k).map .i)]))(p:List Int)(hp:p.length<=1){e:Nat->V}{o:Nat->aa}{nx:Nat}{Q:fW->S->Prop}
 (hs:aZ 0 ⟨e,o,nx⟩ ⟨aT [.ag, .ptr 0 0, .ag, .osl 1 0, .d (.i 0)],au (au (fun _=> .no) 0 (.row t.row)) 1 (.arr 0 3 1 (p.map .i)),2⟩)
 (hQ:∀e' n',e' 3= .osl 1 0->Q (.exit 0) ⟨e',au (au (fun _=> .no) 0 (.row t.row)) 1 (.arr 0 3 1 ((p++dp t.kids).map .i)),n'⟩):
 xq 0 (fun Q s=>lz Tryz.prog 29 0 false Qe Q s) Q ⟨e,o,nx⟩:=by
 have l0:=(Tm.bK _).1 hf
 have pG:=Tm.jU t
 refine aw (fun i:Nat=>⟨aT [.ag, .ptr 0 0, .ag, .osl 1 0, .d (.i i)],au (au (fun _=> .no) 0 (.row t.row)) 1 (.arr 0 3 1 ((p++dp (t.kids.take i)).map .i)),2⟩)
  (fun i=>i<=t.kids.length) (fun i=>t.kids.length - i) 0 (Nat.zero_le _) ?_ fun k hk=> ?_
 ·simpa[dp]using hs
 replace hk:k<=t.kids.length:=hk
 simp only[Qe,SQ,IC.snd,IC.fst]
 refine mW ?_
 refine aj (fun h2=> ?_) (fun h2=> ?_)
 ·simp at h2
  obtain⟨x,hx⟩:=az h2
  have dR:=List.mem_of_getElem? hx
  have ta:t.kids.take (k+1)=t.kids.take k++[x]:=by rw[List.take_add_one,hx];rfl
  have wS:(dp (t.kids.take k)).length<=iT (t.kids.take k):=yj _ fun y _=>ug y
  have dU:iT t.kids=iT (t.kids.take k)+iT (t.kids.drop k):=by
   conv=>lhs;rw[<- List.take_append_drop k t.kids]
   exact RB
  have Gy:=iV dR
  have XR:=ug x
  have hl3:(p++dp (t.kids.take k)).length<=1000001:=by rw[List.length_append];omega
  refine dY hx ?_
  refine br (ih x dR (l0.2 x dR) ae) ?_
  refine dY hx ?_
  refine ai (k+1) h2 ae (aZ.iu (fun j=>j=1) (.osl 1 1) 1 _ ae (MI (df (y:= .row t.row) cH cH (bn rfl n8))) (af _ _ _) (.inr ⟨1,1,rfl,rfl,by(repeat first|rfl|rw[af]|rw[ab _ _ _ _ (by omega)]);rw[ta,zr, <- List.append_assoc,List.map_append];simp[dp]⟩) (fun j hj=>cH) (fun j h h2=>ae) ?_)
  exact lI
 ·simp at h2
  have oj:k=t.kids.length:=ae
  exact Yg
theorem Tp:∀t:Tm,t.fits->t.sz<=1000000->aW Tryz.prog 154 [t.d] (.ret [.sl ((ez t).map .i)]):=by
 refine Tm.eJ fun t ih hf hz=> ?_
 refine aW.aI mix af2 aJ ?_
 rw[SQ,uc]
 by_cases h8:t.op=8
 ·have h8':(t.op==8)=true:=by simpa using h8
  refine cz h8' ?_
  rw[if_pos h8]
  refine yk hf hz ih [t.n] aJ ?_ fun e' n' he=> ?_
  ·refine aZ.iu (fun j=>1<=j) _ 1 _ ae (MI (df (y:= .row t.row) cH cH (bn rfl n8))) (af _ _ _) (.inr ⟨_,_, ?_,rfl,cH⟩) (fun j hj=>cH) (fun j h h2=>ae) ?_
   ·decide
   ·exact lI
  ·exact s9 he
 ·have h8':(t.op==8)=false:=by simpa using h8
  refine cz h8' ?_
  rw[if_neg h8]
  refine yk hf hz ih [] aJ ?_ fun e' n' he=> ?_
  ·exact ade
  ·exact s9 he
theorem Qf(l:List Int)(n:Int)(hl:l.length<=1000000):aW Tryz.prog 155 [.sl (l.map .i), .i n] (.ret [.i (l.count n)]):=by
 refine aW.aI mix af4 aJ ?_
 rw[af3]
 refine ba ?_
 refine aw (fun k:Nat=>⟨aT [.d (.sl (l.map .i)), .d (.i n), .ag, .ag, .ag, .d (.i ((l.take k).count n)), .d (.i k)],fun _=> .no,0⟩)
  (fun k=>k<=l.length) (fun k=>l.length - k) 0 (Nat.zero_le _) (aZ.d0 _ ?_) (fun k hk=> ?_)
 ·exact bZ
 replace hk:k<=l.length:=hk
 have hc:(l.take k).count n<=1000000:=by have:=List.count_le_length (a:=n) (l:=l.take k);rw[List.length_take]at this;omega
 refine mW ?_
 refine aj (fun h2=> ?_) (fun h2=> ?_)
 ·simp at h2
  obtain⟨x,hx⟩:=az h2
  have ta:(l.take (k+1)).count n=(l.take k).count n+if x=n then 1 else 0:=by rw[List.take_add_one,hx,List.count_append];simp[List.count_singleton]
  refine dY hx ?_
  refine aj (fun h3=> ?_) (fun h3=> ?_)
  ·have qF:x=n:=by simpa using h3
   rw[if_pos qF]at ta
   exact X9
  ·have qF: ¬x=n:=by simpa using h3
   rw[if_neg qF]at ta
   exact X9
 ·simp at h2
  refine ba ?_
  rw[List.take_of_length_le h2]
theorem u9(n:Int):∀l:List Tm,jC n l=l.all (fi n)
 |[]=>rfl
 |k::l=>by simp[jC,u9 n l]
theorem Fk(n:Int):∀t:Tm,t.fits->aW Tryz.prog 111 [t.d, .i n] (.ret [.bool (fi n t)]):=by
 refine Tm.eJ fun t ih hf=> ?_
 have l0:=(Tm.bK _).1 hf
 refine aW.aI mix afi aJ ?_
 rw[afh,x9,u9]
 refine ba ?_
 refine aw (fun k:Nat=>⟨aT [.ag, .d (.i n), .ptr 0 0, .ag, .ag, .d (.i k)],jS t.row,1⟩)
  (fun k=>k<=t.kids.length/\(t.kids.take k).all (fi n)=true) (fun k=>t.kids.length - k) 0 ⟨Nat.zero_le _,aJ⟩ (aZ.d1 _ (bt rfl) ae rfl ?_) (fun k hk=> ?_)
 ·exact bZ
 refine ba ?_
 refine aj (fun h2=> ?_) (fun h2=> ?_)
 ·simp at h2
  obtain⟨x,hx⟩:=az h2
  have dR:=List.mem_of_getElem? hx
  refine cz hx ?_
  refine aF (ih x dR (l0.2 x dR)) rfl ?_
  refine ba ?_
  refine aj (fun h3=> ?_) (fun h3=> ?_)
  ·refine ba ?_
   simp at h3
   rw[db hx h3];rfl
  ·exact ado
 ·simp at h2
  rw[fF hk.2 h2,Bool.true_and]
  exact ur
theorem Fl(l:List Tm):aW Tryz.prog 115 [.sl (l.map Tm.d)] (.ret [(Tm.mk 0 0 l).d]):=by
 refine aW.aI mix afq aJ ?_
 rw[afp,Tm.B4]
 exact ur
structure Qg (l:List Tm):Prop where
 len:l.length<=1000
 all:∀t∈l,t.fits/\t.sz<=500
theorem Qg.cnt {l:List Tm}(h:Qg l){t:Tm}(ht:t∈l):t.HB:=Tm.HB.HP (h.all t ht).1 (by have:=(h.all t ht).2;omega)
theorem Qg.iT {l:List Tm}(h:Qg l):iT l<=500000:=by
 have:∀l:List Tm,(∀t∈l,t.sz<=500)->Go.Proofs.YtnkamdiiakdkgaaGreat.iT l<=500*l.length:=by
  intro l
  induction l with
  |nil=>intro _;simp[Go.Proofs.YtnkamdiiakdkgaaGreat.iT]
  |cons k l ih=>intro h;rw[iP,List.length_cons];have:=h k aJ;have:=ih fun x hx=>h x oh;omega
 have:=this l fun t ht=>(h.all t ht).2
 have:=h.len
 omega
theorem Qg.fits {l:List Tm}(h:Qg l):(Tm.mk 0 0 l).fits:=by
 rw[Tm.bK]
 exact⟨by have:=h.len;simp only[Tm.kids];omega,fun k hk=>(h.all k hk).1⟩
theorem Qg.whole {l:List Tm}(h:Qg l):(Tm.mk 0 0 l).HB:=Tm.HB.HP h.fits (by have:=h.iT;rw[Tm.Xc];omega)
theorem Qh(l:List Tm)(h:Qg l):aW Tryz.prog 112 [.sl (l.map Tm.d)] (.ret [.bool (HL l)]):=by
 have hlen:=h.len
 refine aW.aI mix afk aJ ?_
 rw[afj]
 refine ba ?_
 refine aw (fun k:Nat=>⟨aT [.d (.sl (l.map Tm.d)), .ag, .ag, .d (.i (((l.take k).map fun t=>(cl t).length).sum:Nat)), .d (.i k)],fun _=> .no,0⟩)
  (fun k=>k<=l.length) (fun k=>l.length - k) 0 (Nat.zero_le _) (aZ.d0 _ ?_) (fun k hk=> ?_)
 ·exact bZ
 replace hk:k<=l.length:=hk
 have hs:((l.take k).map fun t=>(cl t).length).sum<=500000:=by
  have h1:∀m:List Tm,(m.map fun t=>(cl t).length).sum<=Go.Proofs.YtnkamdiiakdkgaaGreat.iT m:=by
   intro m
   induction m with
   |nil=>simp[Go.Proofs.YtnkamdiiakdkgaaGreat.iT]
   |cons x m ih=>rw[List.map_cons,List.sum_cons,iP];have:=mP x;omega
  have h2:Go.Proofs.YtnkamdiiakdkgaaGreat.iT l=Go.Proofs.YtnkamdiiakdkgaaGreat.iT (l.take k)+Go.Proofs.YtnkamdiiakdkgaaGreat.iT (l.drop k):=by
   conv=>lhs;rw[<- List.take_append_drop k l]
   unfold Go.Proofs.YtnkamdiiakdkgaaGreat.iT;rw[List.map_append,List.sum_append]
  have:=h1 (l.take k)
  have:=h.iT
  omega
 refine mW ?_
 refine aj (fun h2=> ?_) (fun h2=> ?_)
 ·simp at h2
  obtain⟨x,hx⟩:=az h2
  have dR:=List.mem_of_getElem? hx
  have hv:=mP x
  have hx5:=(h.all x dR).2
  have ta:((l.take (k+1)).map fun t=>(cl t).length).sum=((l.take k).map fun t=>(cl t).length).sum+(cl x).length:=by rw[List.take_add_one,hx,List.map_append,List.sum_append];simp
  refine dY hx ?_
  refine br (wa x (h.cnt dR)) ?_
  exact X9
 ·simp at h2
  refine ba ?_
  refine br (Fl l) ?_
  refine ba ?_
  refine br (wa _ h.whole) ?_
  rw[List.take_of_length_le h2]
  refine mW ?_
  congr 3
  rw[HL,Bool.eq_iff_iff]
  simp
  omega
theorem Tq(t:Tm)(ht:t.HB)(p:List Int)(hp:p.length<=1000000):aW Tryz.prog 113 [t.d, .sl (p.map .i)] (.ret [.bool (ud t p)]):=by
 have hz:t.sz<=1000000:=by have:=ht.size;rw[Tm.sy]at this;omega
 have hl:=ug t
 have hv:=mP t
 refine aW.aI mix afm aJ ?_
 rw[afl]
 refine ba ?_
 refine cf (Tp t ht.fits hz) ?_
 refine ba ?_
 refine cf (wa t ht) ?_
 refine ba ?_
 refine aB bG ?_
 refine ba ?_
 let q:Int->Bool:=fun v=> !(decide (1<((ez t).count v:Int))||p.contains v||(cl t).contains v)
 have hq:ud t p=(ez t).all q:=rfl
 rw[hq]
 refine aw (fun k:Nat=>⟨aT [.ag, .d (.sl (p.map .i)), .ptr 0 0, .ag, .ag, .d (.sl ((ez t).map .i)), .d (.sl ((cl t).map .i)), .d (.i k)],jS t.row,1⟩)
  (fun k=>k<=(ez t).length/\((ez t).take k).all q=true) (fun k=>(ez t).length - k) 0 ⟨Nat.zero_le _,aJ⟩ (aZ.d1 _ (bt rfl) ae rfl ?_) (fun k hk=> ?_)
 ·exact bZ
 refine mW ?_
 refine aj (fun h2=> ?_) (fun h2=> ?_)
 ·simp at h2
  obtain⟨x,hx⟩:=az h2
  have hqx:q x= !(decide (1<((ez t).count x:Int))||p.contains x||(cl t).contains x):=rfl
  refine dY hx ?_
  refine aF (Qf (ez t) x ae) rfl ?_
  cases h3:decide (1<((ez t).count x:Int))with
  |true=>
   refine dY (ak hx h3) ?_
   rw[db hx (by rw[hqx,h3];rfl)]
  |false=>
   refine dY (ak hx h3) ?_
   refine aF (Qd p x ae) rfl ?_
   cases h4:p.contains x with
   |true=>
    refine dY (ak hx h3) ?_
    rw[db hx (by rw[hqx,h3,h4];rfl)]
   |false=>
    refine dY (ak hx h3) ?_
    refine aF (Qd (cl t) x ae) rfl ?_
    cases h5:(cl t).contains x with
    |true=>
     refine dY (ak hx h3) ?_
     rw[db hx (by rw[hqx,h3,h4,h5];rfl)]
    |false=>
     refine dY (ak hx h3) ?_
     refine ai (k+1) ⟨h2,gv hx hk.2 (by rw[hqx,h3,h4,h5];rfl)⟩ ae (aZ.d1 _ (bt rfl) ae rfl ?_)
     exact bZ
 ·simp at h2
  rw[fF hk.2 h2]
  exact ur
def jD(l:List Tm):List Int:=l.flatMap ki
theorem HQ(k:Tm)(l:List Tm):jD (k::l)=ki k++jD l:=rfl
theorem J4(t:Tm):ki t=(if t.op=5 then [t.n]else [])++jD t.kids:=by
 unfold ki jD
 rw[jL,List.filter_cons]
 have:(List.flatMap gK t.kids).filter (fun x=>x.op==5)=t.kids.flatMap fun k=>(gK k).filter (fun x=>x.op==5):=by
  induction t.kids with
  |nil=>rfl
  |cons k l ih=>simp only[List.flatMap_cons,List.filter_append,ih]
 rw[this]
 have e:∀l:List Tm,(l.flatMap fun k=>(gK k).filter (fun x=>x.op==5)).map Tm.n=l.flatMap ki:=by
  intro l
  induction l with
  |nil=>rfl
  |cons k l ih=>simp only[List.flatMap_cons,List.map_append,ih];rfl
 by_cases h:t.op=5
 ·simp only[h,beq_self_eq_true,if_true,List.map_cons,e];rfl
 ·have h':(t.op==5)=false:=by simpa using h
  simp only[h',Bool.false_eq_true,if_false,h,e];rfl
theorem Fm(l:List Tm)(h:∀k∈l,(ki k).length<=k.sz):(jD l).length<=iT l:=by
 induction l with
 |nil=>simp[jD]
 |cons k l ih=>
  rw[HQ,List.length_append,iP]
  have:=h k aJ
  have:=ih fun x hx=>h x oh
  omega
theorem J5:∀t:Tm,(ki t).length<=t.sz:=by
 refine Tm.eJ fun t ih=> ?_
 have:=Fm t.kids ih
 rw[J4,List.length_append,Tm.jU]
 split<;>simp<;>omega
theorem Fo(a b:List Tm):jD (a++b)=jD a++jD b:=by
 induction a with
 |nil=>simp[jD]
 |cons k a ih=>simp[jD,ih]
def agB:IC:=SP.snd.snd.snd.fst.snd.fst.fst
theorem Fq{t:Tm}(hf:t.fits)(hz:t.sz<=1000000)(ih:∀k∈t.kids,k.fits->k.sz<=1000000->aW Tryz.prog 117 [k.d] (.ret [.sl ((ki k).map .i)]))(p:List Int)(hp:p.length<=1){e:Nat->V}{o:Nat->aa}{nx:Nat}{Q:fW->S->Prop}
 (hs:aZ 0 ⟨e,o,nx⟩ ⟨aT [.ag, .ptr 0 0, .ag, .osl 1 0, .d (.i 0)],au (au (fun _=> .no) 0 (.row t.row)) 1 (.arr 0 3 1 (p.map .i)),2⟩)
 (hQ:∀e' n',e' 3= .osl 1 0->Q (.exit 0) ⟨e',au (au (fun _=> .no) 0 (.row t.row)) 1 (.arr 0 3 1 ((p++jD t.kids).map .i)),n'⟩):
 xq 0 (fun Q s=>lz Tryz.prog 29 0 false agB Q s) Q ⟨e,o,nx⟩:=by
 have l0:=(Tm.bK _).1 hf
 have pG:=Tm.jU t
 refine aw (fun i:Nat=>⟨aT [.ag, .ptr 0 0, .ag, .osl 1 0, .d (.i i)],au (au (fun _=> .no) 0 (.row t.row)) 1 (.arr 0 3 1 ((p++jD (t.kids.take i)).map .i)),2⟩)
  (fun i=>i<=t.kids.length) (fun i=>t.kids.length - i) 0 (Nat.zero_le _) ?_ fun k hk=> ?_
 ·simpa[jD]using hs
 replace hk:k<=t.kids.length:=hk
 simp only[agB,SP,IC.snd,IC.fst]
 refine mW ?_
 refine aj (fun h2=> ?_) (fun h2=> ?_)
 ·simp at h2
  obtain⟨x,hx⟩:=az h2
  have dR:=List.mem_of_getElem? hx
  have ta:t.kids.take (k+1)=t.kids.take k++[x]:=by rw[List.take_add_one,hx];rfl
  have wS:(jD (t.kids.take k)).length<=iT (t.kids.take k):=Fm _ fun y _=>J5 y
  have dU:iT t.kids=iT (t.kids.take k)+iT (t.kids.drop k):=by
   conv=>lhs;rw[<- List.take_append_drop k t.kids]
   exact RB
  have Gy:=iV dR
  have XR:=J5 x
  have hl3:(p++jD (t.kids.take k)).length<=1000001:=by rw[List.length_append];omega
  refine dY hx ?_
  refine br (ih x dR (l0.2 x dR) ae) ?_
  refine dY hx ?_
  refine ai (k+1) h2 ae (aZ.iu (fun j=>j=1) (.osl 1 1) 1 _ ae (MI (df (y:= .row t.row) cH cH (bn rfl n8))) (af _ _ _) (.inr ⟨1,1,rfl,rfl,by(repeat first|rfl|rw[af]|rw[ab _ _ _ _ (by omega)]);rw[ta,Fo, <- List.append_assoc,List.map_append];simp[jD]⟩) (fun j hj=>cH) (fun j h h2=>ae) ?_)
  exact lI
 ·simp at h2
  have oj:k=t.kids.length:=ae
  exact Yg
theorem agC:∀t:Tm,t.fits->t.sz<=1000000->aW Tryz.prog 117 [t.d] (.ret [.sl ((ki t).map .i)]):=by
 refine Tm.eJ fun t ih hf hz=> ?_
 refine aW.aI mix aft aJ ?_
 rw[SP,J4]
 by_cases h5:t.op=5
 ·have vK:(t.op==5)=true:=by simpa using h5
  refine cz vK ?_
  rw[if_pos h5]
  refine Fq hf hz ih [t.n] aJ ?_ fun e' n' he=> ?_
  ·refine aZ.iu (fun j=>1<=j) _ 1 _ ae (MI (df (y:= .row t.row) cH cH (bn rfl n8))) (af _ _ _) (.inr ⟨_,_, ?_,rfl,cH⟩) (fun j hj=>cH) (fun j h h2=>ae) ?_
   ·decide
   ·exact lI
  ·exact s9 he
 ·have vK:(t.op==5)=false:=by simpa using h5
  refine cz vK ?_
  rw[if_neg h5]
  refine Fq hf hz ih [] aJ ?_ fun e' n' he=> ?_
  ·exact ade
  ·exact s9 he
theorem Mf(t:Tm)(ht:t.fits):∀p:Tm,p.fits->aW Tryz.prog 116 [t.d,p.d] (.ret [.bool (p.kids.any (lp t))]):=by
 refine Tm.eJ fun p ih hp=> ?_
 have Vs:=(Tm.bK _).1 hp
 refine aW.aI mix afs aJ ?_
 rw[afr]
 refine ba ?_
 refine aw (fun k:Nat=>⟨aT [.ag, .ag, .ptr 0 0, .ptr 1 0, .ag, .d (.i k)],au (au (fun _=> .no) 0 (.row t.row)) 1 (.row p.row),2⟩)
  (fun k=>k<=p.kids.length/\(p.kids.take k).any (lp t)=false) (fun k=>p.kids.length - k) 0 ⟨Nat.zero_le _,rfl⟩ (aZ.aV _ (show 0<=2 from ae) ae eW (fun j hj=>cH) ?_) (fun k hk=> ?_)
 ·exact bZ
 obtain⟨hk,eM⟩:=hk
 have oj:=Vs.1
 refine mW ?_
 refine aj (fun h2=> ?_) (fun h2=> ?_)
 ·simp at h2
  obtain⟨x,hx⟩:=az h2
  have dR:=List.mem_of_getElem? hx
  have fj:=mS hx (lp t)
  have oD:lp t x=true->p.kids.any (lp t)=true:=fun h=>List.any_eq_true.2 ⟨x,dR,h⟩
  have zi:=J1 t x
  refine cz hx ?_
  refine aY (Px t ht x (Vs.2 x dR)) rfl ?_
  cases hs:iK t x with
  |true=>
   rw[hs,Bool.true_or]at zi
   rw[oD zi]
   refine cz hs ?_
   refine aB (aD rfl) ?_
   exact s9 hs
  |false=>
   rw[hs,Bool.false_or]at zi
   refine cz (ak hs hx) ?_
   refine aY (ih x dR (Vs.2 x dR)) rfl ?_
   refine cz hs ?_
   refine aB (aD rfl) ?_
   cases hw:x.kids.any (lp t)with
   |true=>
    rw[hw]at zi
    rw[oD zi]
    exact s9 hw
   |false=>
    rw[hw]at zi
    rw[zi,eM,Bool.or_false]at fj
    refine cz hw ?_
    refine ai (k+1) ⟨h2,fj⟩ ae (aZ.aV _ (show 0<=2 from ae) ae eW (fun j hj=>cH) ?_)
    exact bZ
 ·exact Vk
theorem cX.sM {P:Program}{g:FuncId}{x:V}{d:D}{rest:List V}{o:Nat->aa}{nx:Nat}{K X:V->(Nat->aa)->Nat->Prop}(hx:dS o x=some d)
 (h:cX P g (.d d::rest) (put o (bY o x.ids)) nx K X):cX P g (x::rest) o nx K X:=by
 refine⟨h.1,fun M φ w vals hH hd=> ?_⟩
 have hd0:=hd
 obtain⟨val,us,kD,hv,dg⟩:=hd
 have hu:=fun id aq=>b9 x val hv id aq
 obtain⟨f1,f2,f3,f4,f5⟩:=cW (H:=hp o nx) hH x.ids hu
 have gS:(hp o nx).put (bY o x.ids)=hp (put o (bY o x.ids)) nx:=PL (fun y hy=>by
  simp only[bY,List.mem_map]at hy
  obtain⟨id,aq,rfl⟩:=hy
  exact hu id aq)
 have L2:=f1;have JS:=f2
 rw[show bY (hp o nx).o x.ids=bY o x.ids from rfl,gS]at L2 JS
 have W9:∀k,cw φ ((hp o nx).put (bY o x.ids)) k->cw φ (hp o nx) k:=by
  rintro k ⟨id,g1,g2⟩
  by_cases aq:id∈x.ids
  ·have:=f3 id aq
   rw[show((hp o nx).put (bY o x.ids)).o id=_ from this]at g1
   refine⟨id, ?_,g2⟩
   revert g1
   cases(hp o nx).o id<;>simp[aa.fz,aa.live]
  ·have:=f4 id aq
   exact U7
 have AV:∀j,nQ (((hp o nx).put (bY o x.ids)).o j) ((hp o nx).o j):=fun j=>by
  by_cases hm:j∈x.ids
  ·exact Uq
  ·exact Ug
 have h4:=V.mJ (H:=hp o nx) (H':=(hp o nx).put (bY o x.ids)) (B:=ao M φ (hp o nx)) (B':=ao M φ ((hp o nx).put (bY o x.ids))) (fun k h h'=>h (h'.imp id (W9 k))) x val (fun id aq=>⟨AV id,rfl,(f5 id).2 ((V.mK x val hv) id aq)⟩) hv
 have h5:=eG f1 (o:=o) x d val (fun id aq=>f3 id aq) hx h4
 have h6:=V.fS (H:=hp o nx) (H':=(hp o nx).put (bY o x.ids)) (B:=ao M φ (hp o nx)) (B':=ao M φ ((hp o nx).put (bY o x.ids))) (fun k h h'=>h (h'.imp id (W9 k))) rest us (fun id aq=>⟨AV id,rfl,(f5 id).2 ((V.fE rest us dg) id aq)⟩) dg
 rw[show(hp o nx).put (bY (hp o nx).o x.ids)=hp (put o (bY o x.ids)) nx from gS]at h5
 rw[gS]at h6
 refine(h.2 M φ w vals L2 ⟨val,us,kD,h5,h6⟩).mono ?_
 rintro e w' ⟨aH,o',nx',v,k1,k2,k3⟩
 exact⟨aH,o',nx',v,k1,JS.trans k2,k3⟩
section
@[reducible] def Sp.row (x:Sp):List V:=[.d (.i x.t.op), .d (.i x.t.n), .d (.sl (x.t.kids.map Tm.d)), .d (.sl (x.path.map .i)), .d (.bool x.bare)]
@[reducible] def Sp.d (x:Sp):D:= .agg [.i x.t.op, .i x.t.n, .sl (x.t.kids.map Tm.d), .sl (x.path.map .i), .bool x.bare]
section
variable {σ:Type}(base nY:Nat)(H:σ->Nat->aa)(step:σ->Sp->σ×Bool)(ok:List Sp->σ->Prop)
theorem uh(k:Tm)(l:List Tm)(i:Int)(q:List Int)(b:Bool):jm (k::l) i q b=lK k (q++[i]) b++jm l (i+1) q b:=by rw[jm]
theorem AW{α:Type}{step:σ->α->σ×Bool}:∀ (a b:List α) (s:σ),aA step s (a++b)=if(aA step s a).2=true then aA step (aA step s a).1 b else aA step s a
 |[],b,s=>by simp[aA]
 |x::a,b,s=>by
  simp only[List.cons_append,aA]
  split
  ·exact AW a b _
  ·simp
theorem th(bp:∀x r s,ok (x::r) s->(step s x).2=true->ok r (step s x).1):∀ (l rest:List Sp) (s:σ),ok (l++rest) s->(aA step s l).2=true->ok rest (aA step s l).1
 |[],rest,s,h,_=>h
 |x::l,rest,s,h,h2=>by
  simp only[aA]at h2|-
  split at h2
  ·rename_i hb
   rw[if_pos hb]
   exact th bp l rest _ (bp _ _ _ h hb) h2
  ·rename_i hb
   exact absurd h2 Bool.false_ne_true
theorem Mg(bp:∀x r s,ok (x::r) s->(step s x).2=true->ok r (step s x).1):∀t:Tm,t.fits->∀ (q:List Int) (b:Bool),q.length+t.nK<=1000000->(∀x∈lK t q b,∀r s,ok (x::r) s->RoC Tryz.prog nY [.d x.d] base (H s) (H (step s x).1) (.d (.bool (step s x).2)))->nY<base->
 ∀ (c:Nat) (o0:Nat->aa) (yb vb:Nat),base<=c->base<=yb->yb<c->base<=vb->vb<c->o0 yb= .row [.jI nY]->o0 vb= .row [.func (.func 102) [] [.ptr yb 0, .ptr vb 0]]->
 ∀rest s,ok (lK t q b++rest) s->mh Tryz.prog 102 [.d (Sp.mk t q b).d, .ptr yb 0, .ptr vb 0] c (ext base (H s) o0) (ext base (H (aA step s (lK t q b)).1) o0) (.d (.bool (aA step s (lK t q b)).2)):=by
 refine Tm.eJ fun t ih hf q b hqh hR xS c o0 yb vb Rb Ri hy Rj hv oy ov rest s kO=> ?_
 have l0:=(Tm.bK _).1 hf
 intro o nx hI K X hK
 have hle:=hI.le
 have S0:o yb= .row [.jI nY]:=by rw[hI.eq yb hy];unfold ext;rw[if_neg (by omega),oy]
 have S1:o vb= .row [.func (.func 102) [] [.ptr yb 0, .ptr vb 0]]:=by rw[hI.eq vb hv];unfold ext;rw[if_neg (by omega),ov]
 have y1:yb≠nx:=ae
 have y2:∀k,yb≠nx+k:=fun k=>ae
 have y3:vb≠nx:=ae
 have y4:∀k,vb≠nx+k:=fun k=>ae
 refine cX.aI mix Wm aJ ?_
 rw[ZO]
 refine gu (ak S0 (ak S1 (ak y1 (ak y2 (ak y3 y4))))) ?_
 have qw:=HN t q b
 rw[qw,List.cons_append]at kO
 have hb:∀id,id<base->o id=H s id:=fun id aq=>by rw[hI.eq id (by omega)];unfold ext;rw[if_pos aq]
 have hIb:dv base (H s) o nx:=⟨hI.bE,ae,hb⟩
 refine o6 (hR ⟨t,q,b⟩ Dj _ s kO _ _ (hIb.au (i:=nx) (m:=nx+4) ae ae ae rfl) _ _ fun o2 n2 m1 m2 m3=> ?_)
 have k0:o2 nx= .row (Sp.mk t q b).row:=by rw[m3 nx (by omega) (by omega),af]
 have hold:∀id,base<=id->id<nx->o2 id=o id:=fun id h1 h2=>by rw[m3 id h1 (by omega),ab _ _ _ _ (by omega)]
 have Gl:∀id,base<=id->id<c->o id=o0 id:=fun id h1 h2=>by rw[hI.eq id h2];unfold ext;rw[if_neg (by omega)]
 cases ET:(step s ⟨t,q,b⟩).2 with
 |false=>
  refine cz ET ?_
  have AE:aA step s (lK t q b)=((step s ⟨t,q,b⟩).1,false):=by rw[qw,aA,if_neg (by rw[ET];exact Bool.false_ne_true)]
  rw[AE]at hK
  refine hK _ _ ae ⟨m2.bE.mono ae,ae,fun id aq=> ?_⟩ (fun id h1 h2=>hold id ae h2)
  unfold ext
  split
  ·exact m2.eq id re
  ·exact MZ
 |true=>
  have AE:aA step s (lK t q b)=aA step (step s ⟨t,q,b⟩).1 (jm t.kids 0 q (jl t.op b)):=by rw[qw,aA,if_pos ET]
  have q0:o2 yb= .row [.jI nY]:=by rw[hold yb Ri (by omega),S0]
  have q1:o2 vb= .row [.func (.func 102) [] [.ptr yb 0, .ptr vb 0]]:=by rw[hold vb Rj (by omega),S1]
  refine cz (ak ET (ak k0 q1)) ?_
  have KN:nx+4<=n2:=m1
  refine aw (fun i:Nat×σ×(Nat->aa)×Nat=>⟨aT (.ag:: .ptr yb 0:: .ptr vb 0:: .ptr nx 0::gr [.ag, .d (.sl (t.kids.map Tm.d)), .d (.i t.kids.length), .d (.i i.1)]),i.2.2.1,i.2.2.2⟩)
   (fun i=>i.1<=t.kids.length/\dv base (H i.2.1) i.2.2.1 i.2.2.2/\nx<i.2.2.2/\i.2.2.1 nx= .row (Sp.mk t q b).row/\(∀id,base<=id->id<nx->i.2.2.1 id=o id)/\aA step (step s ⟨t,q,b⟩).1 (jm t.kids 0 q (jl t.op b))=aA step i.2.1 (jm (t.kids.drop i.1) i.1 q (jl t.op b))/\ok (jm (t.kids.drop i.1) i.1 q (jl t.op b)++rest) i.2.1) (fun i=>t.kids.length - i.1) (0,(step s ⟨t,q,b⟩).1,o2,n2)
   ⟨Nat.zero_le _,m2.mono (Nat.le_refl _),(show nx<n2 from ae),k0,fun id h1 h2=>hold id h1 h2,rfl,bp _ _ s kO ET⟩ ?_ ?_
  ·dsimp only
   refine aZ.aV _ (show nx<=n2 from ae) ae m2.bE (fun _ _=>rfl) ?_
   exact bZ
  rintro⟨k,s',o',n'⟩ ⟨hk,yW,hn,bD,c8,C0,kB⟩
  simp only at hk yW hn bD c8 C0 kB
  have hg:Good o' n':=yW.bE
  have z1:∀k,yb≠n'+k:=fun k=>ae
  have z2:yb≠n':=ae
  have z3:∀k,vb≠n'+k:=fun k=>ae
  have z4:vb≠n':=ae
  have z5:∀k,nx≠n'+k:=fun k=>ae
  have z6:nx≠n':=ae
  have CB:o' vb= .row [.func (.func 102) [] [.ptr yb 0, .ptr vb 0]]:=by rw[c8 vb Rj (by omega),S1]
  have CC:o' yb= .row [.jI nY]:=by rw[c8 yb Ri (by omega),S0]
  have oj:=l0.1
  refine ba ?_
  refine aj (fun h1=> ?_) (fun h1=> ?_)
  ·simp at h1
   obtain⟨x,hx⟩:=az h1
   have dR:=List.mem_of_getElem? hx
   have hd:t.kids.drop k=x::t.kids.drop (k+1):=by
    exact zw6
   rw[hd,uh,AW]at C0
   rw[hd,uh,List.append_assoc]at kB
   have hh:=Tm.pI dR
   have dH:∀y∈lK x (q++[(k:Int)]) (jl t.op b),y∈lK t q b:=fun y hy=>by
    rw[qw]
    refine List.mem_cons_of_mem _ ?_
    rw[show t.kids=t.kids.take k++(x::t.kids.drop (k+1)) by rw[<- hd,List.take_append_drop],pg,uh]
    have cS:(t.kids.take k).length=k:=by rw[List.length_take];omega
    rw[cS,Int.zero_add]
    simp[hy]
   refine gu (ak hx (ak bD (ak CB (ak CC (ak z1 (ak z2 (ak z3 (ak z4 (ak z5 z6))))))))) ?_
   refine nq (m:=23) bG aK ?_
   refine gu (ak bD (ak CB (ak CC (ak z1 (ak z2 (ak z3 (ak z4 (ak z5 z6)))))))) ?_
   refine tR rfl (x5 q ae _ _) ?_
   have m6:(b=false/\(t.op !=3)=(t.op !=3)/\jl t.op b=false)\/(b=true/\(t.op !=3)=false/\jl t.op b=false)\/(b=true/\(t.op !=3)=true/\jl t.op b=(t.op !=5)):=by
    unfold jl
    cases b<;>cases h3:(t.op !=3)<;>simp
   have fin:∀bb:Bool,(∀y∈lK x (q++[(k:Int)]) bb,y∈lK t q b)->ok (lK x (q++[(k:Int)]) bb++(jm (t.kids.drop (k+1)) (k+1) q (jl t.op b)++rest)) s'->∀O:Nat->aa,dv base (H s') O (n'+30)->(∀id,base<=id->id<=nx->O id=o' id)->∀KK XX:V->(Nat->aa)->Nat->Prop,
    (∀o5 n5,n'+30<=n5->dv base (H (aA step s' (lK x (q++[(k:Int)]) bb)).1) o5 n5->(∀id,base<=id->id<=nx->o5 id=o' id)->KK (.d (.bool (aA step s' (lK x (q++[(k:Int)]) bb)).2)) o5 n5)->
    cX Tryz.prog 102 [.d (Sp.mk x (q++[(k:Int)]) bb).d, .ptr yb 0, .ptr vb 0] O (n'+30) KK XX:=by
    intro bb dH aiZ O hIO hO KK XX hKK
    refine ih x dR (l0.2 x dR) (q++[(k:Int)]) bb iA (fun y hy=>hR y (dH y hy)) xS (n'+30) O yb vb ae Ri ae Rj ae (by rw[hO yb Ri (by omega),CC]) (by rw[hO vb Rj (by omega),CB]) _ s' aiZ O (n'+30) (hIO.ext (Nat.le_refl _) ae) KK XX fun o5 n5 p1 p2 p3=>hKK o5 n5 p1 ⟨p2.bE,ae,fun id aq=> ?_⟩ fun id g1 g2=> ?_
    ·rw[p2.eq id (by omega)];unfold ext;rw[if_pos aq]
    ·rw[p2.eq id (by omega)];unfold ext;rw[if_neg (by omega),hO id g1 g2]
   rcases m6 with⟨MR,h3,m6⟩|⟨MR,h3,m6⟩|⟨MR,h3,m6⟩
   all_goals rw[m6]at C0 dH fin kB
   ·refine gu (ak bD (ak CB (ak CC (ak z1 (ak z2 (ak z3 (ak z4 (ak z5 (ak z6 MR))))))))) ?_
    refine ik (cj (ids:=[vb,nx]) (nx:=n'+4) iA iA [([0],[]),([2],[]),([1],[]),([1],[]),([],[9]),([],[]),([],[11]),([9,11],[9]),([1],[]),([1],[]),([],[]),([],[]),([],[]),([],[]),([],[]),([],[]),([],[]),([],[]),([],[]),([],[]),([],[]),([],[]),([],[])] bG) ?_
    dsimp only[List.drop]
    refine gu (ak bD (ak CB (ak CC (ak z1 (ak z2 (ak z3 (ak z4 (ak z5 (ak z6 MR))))))))) ?_
    refine bg (cX.sM (d:=(Sp.mk x (q++[(k:Int)]) false).d) ?_ (fin _ dH kB _ ⟨?_,ae,fun id aq=> ?_⟩ (fun id g1 g2=> ?_) _ _ fun o5 n5 p1 p2 p3=> ?_))
    ·refine ba ?_
     simp
    ·refine ba ?_
     exact eW
    ·refine ba ?_
     (repeat first|rfl|rw[af]|rw[ab _ _ _ _ (by omega)])
     exact yW.eq id aq
    ·exact ur
    cases hr:(aA step s' (lK x (q++[(k:Int)]) false)).2 with
    |false=>
     rw[hr,if_neg Bool.false_ne_true]at C0
     refine ba ?_
     rw[AE,m6,C0,hr]at hK
     refine hK _ _ ae ⟨p2.bE.mono ae,ae,fun id aq=> ?_⟩ (fun id g1 g2=>(p3 id ae ae).trans (c8 id ae g2))
     unfold ext
     split
     ·exact p2.eq id re
     ·exact XA
    |true=>
     exact zw2
   ·refine gu (ak bD (ak CB (ak CC (ak z1 (ak z2 (ak z3 (ak z4 (ak z5 (ak z6 (ak MR h3)))))))))) ?_
    refine ik (cj (ids:=[vb,nx]) (nx:=n'+4) iA iA [([0],[]),([2],[]),([1],[]),([1],[]),([],[9]),([],[]),([],[11]),([9,11],[9]),([1],[]),([1],[]),([],[]),([1],[]),([1],[]),([1],[]),([],[]),([],[]),([],[]),([],[]),([],[]),([],[]),([],[]),([],[]),([],[])] bG) ?_
    dsimp only[List.drop]
    refine gu (ak bD (ak CB (ak CC (ak z1 (ak z2 (ak z3 (ak z4 (ak z5 (ak z6 (ak MR h3)))))))))) ?_
    refine bg (cX.sM (d:=(Sp.mk x (q++[(k:Int)]) false).d) ?_ (fin _ dH kB _ ⟨?_,ae,fun id aq=> ?_⟩ (fun id g1 g2=> ?_) _ _ fun o5 n5 p1 p2 p3=> ?_))
    ·refine ba ?_
     simp
    ·refine ba ?_
     exact eW
    ·refine ba ?_
     (repeat first|rfl|rw[af]|rw[ab _ _ _ _ (by omega)])
     exact yW.eq id aq
    ·exact ur
    cases hr:(aA step s' (lK x (q++[(k:Int)]) false)).2 with
    |false=>
     rw[hr,if_neg Bool.false_ne_true]at C0
     refine ba ?_
     rw[AE,m6,C0,hr]at hK
     refine hK _ _ ae ⟨p2.bE.mono ae,ae,fun id aq=> ?_⟩ (fun id g1 g2=>(p3 id ae ae).trans (c8 id ae g2))
     unfold ext
     split
     ·exact p2.eq id re
     ·exact XA
    |true=>
     exact zw2
   ·refine gu (ak bD (ak CB (ak CC (ak z1 (ak z2 (ak z3 (ak z4 (ak z5 (ak z6 (ak MR h3)))))))))) ?_
    refine ik (cj (ids:=[vb,nx]) (nx:=n'+4) iA iA [([0],[]),([2],[]),([1],[]),([1],[]),([],[9]),([],[]),([],[11]),([9,11],[9]),([1],[]),([1],[]),([],[]),([1],[]),([1],[]),([1],[]),([],[]),([],[]),([],[]),([1],[]),([1],[]),([1],[]),([],[]),([],[]),([],[])] bG) ?_
    dsimp only[List.drop]
    refine gu (ak bD (ak CB (ak CC (ak z1 (ak z2 (ak z3 (ak z4 (ak z5 (ak z6 (ak MR h3)))))))))) ?_
    refine bg (cX.sM (d:=(Sp.mk x (q++[(k:Int)]) (t.op !=5)).d) ?_ (fin _ dH kB _ ⟨?_,ae,fun id aq=> ?_⟩ (fun id g1 g2=> ?_) _ _ fun o5 n5 p1 p2 p3=> ?_))
    ·refine ba ?_
     simp
    ·refine ba ?_
     exact eW
    ·refine ba ?_
     (repeat first|rfl|rw[af]|rw[ab _ _ _ _ (by omega)])
     exact yW.eq id aq
    ·exact ur
    cases hr:(aA step s' (lK x (q++[(k:Int)]) (t.op !=5))).2 with
    |false=>
     rw[hr,if_neg Bool.false_ne_true]at C0
     refine ba ?_
     rw[AE,m6,C0,hr]at hK
     refine hK _ _ ae ⟨p2.bE.mono ae,ae,fun id aq=> ?_⟩ (fun id g1 g2=>(p3 id ae ae).trans (c8 id ae g2))
     unfold ext
     split
     ·exact p2.eq id re
     ·exact XA
    |true=>
     rw[hr,if_pos rfl]at C0
     refine ba ?_
     refine ai (k+1,(aA step s' (lK x (q++[(k:Int)]) (t.op !=5))).1,o5,n5+1+1) ⟨h1,p2.mono (show n5<=n5+1+1 from ae),(show nx<n5+1+1 from ae),by dsimp only;rw[p3 nx (by omega) (Nat.le_refl _),bD],fun id i1 i2=>(p3 id i1 ae).trans (c8 id i1 i2),by dsimp only;rw[m6];exact C0,by dsimp only;rw[m6];exact th step ok bp _ _ s' kB hr⟩ jr (aZ.aV _ (show nx<=n5+1+1 from ae) jr (p2.mono (show n5<=n5+1+1 from ae)).bE (fun _ _=>rfl) ?_)
     exact bZ
  ·simp at h1
   refine ba ?_
   rw[List.drop_eq_nil_of_le h1]at C0
   rw[AE]at hK
   have de:aA step s' (jm [] k q (jl t.op b))=(s',true):=by simp[jm,aA]
   rw[de]at C0
   rw[C0]at hK
   refine hK _ _ ae ⟨yW.bE.mono ae,ae,fun id aq=> ?_⟩ (fun id g1 g2=>c8 id ae g2)
   unfold ext
   split
   ·exact yW.eq id re
   ·rw[c8 id (by omega) (by omega),Gl id (by omega) aq]
theorem Qi(t:Tm)(hf:t.fits)(hqh:t.nK<=1000000)(bp:∀x r s,ok (x::r) s->(step s x).2=true->ok r (step s x).1)(hR:∀x∈lK t [] true,∀r s,ok (x::r) s->RoC Tryz.prog nY [.d x.d] base (H s) (H (step s x).1) (.d (.bool (step s x).2)))(xS:nY<base)(tb:Nat)(Gs:tb<base)(s:σ)(kO:ok (lK t [] true) s)(bD:H s tb= .row t.row):
 mh Tryz.prog 101 [.jI nY, .ptr tb 0] base (H s) (H (aA step s (lK t [] true)).1) (.cc []):=by
 intro o nx hI K X hK
 have hle:=hI.le
 have ot:o tb= .row t.row:=by rw[hI.eq tb Gs,bD]
 have y1:tb≠nx:=ae
 have y2:∀k,tb≠nx+k:=fun k=>ae
 refine cX.aI mix Wl aJ ?_
 rw[ZN]
 refine yU (ak ot (ak y1 y2)) ?_
 have EU:dv base (H s) (au (au (au o nx (.row [.jI nY])) (nx+1) (.row [.d .cK])) (nx+1) (.row [.func (.func 102) [] [.ptr nx 0, .ptr (nx+1) 0]])) (nx+7):=by
  refine((hI.au (i:=nx) (m:=nx+7) ae ae ae ?_).au (i:=nx+1) (m:=nx+7) ae ae ae rfl).au (i:=nx+1) ae ae ae ?_
  ·exact M3
  ·exact n8
 refine bg (cX.sM (d:=(Sp.mk t [] true).d) ?_ (Mg base nY H step ok bp t hf [] true (by simpa using hqh) hR xS (nx+7) _ nx (nx+1) ae hle ae ae ae ?_ ?_ [] s (by rw[List.append_nil];exact kO) _ _ (EU.ext (Nat.le_refl _) ae) _ _ ?_))
 ·rfl
 ·exact cH
 ·exact cH
 intro o2 n2 m1 m2 m3
 refine dc ?_
 refine hK _ _ ae ⟨m2.bE,ae,fun id aq=> ?_⟩ (fun id h1 h2=> ?_)
 ·exact M0
 ·exact Yc
end
theorem Fs(t:Tm)(o:Nat->aa)(nx:Nat)(K X:V->(Nat->aa)->Nat->Prop)(h:K (.func (.func 101) [] [.ptr nx 0]) (au o nx (.row t.row)) (nx+4)):cX Tryz.prog 72 [.d t.d] o nx K X:=by
 refine cX.aI mix ae2 aJ ?_
 rw[c72]
 refine dc ?_
 exact h
def zu{σ:Type}(J:σ->Option lC)(step:σ->Sp->σ)(s:σ)(x:Sp):σ×Bool:=(step s x,(J (step s x)).isNone)
theorem vc{σ:Type}(t:Tm)(hf:t.fits)(hqh:t.nK<=1000000){n bq:Nat}{gq:Operand}{ps:List Nat}{jM fm:IC}{Q:fW->S->Prop}{e:Nat->V}{o:Nat->aa}{nx tb:Nat}(env:List V)(he:nL e env 0)
 (pL:ps.all (fun t=>decide (t<n))=true) (hl:ps.length=1) (hg:Good o nx) (hrefs:∀r∈V.aM env,r<nx) (ht:o tb= .row t.row)
 (G:σ->Nat->aa) (J:σ->Option lC) (step:σ->Sp->σ) (ok:List Sp->σ->Prop) (s0:σ) (kO:ok (lK t [] true) s0) (hJ0:J s0=none) (h0:∀id,id<nx->o id=G s0 id) (bp:∀x r s,ok (x::r) s->J s=none->J (step s x)=none->ok r (step s x))
 (qJ:∀L,kZ Tryz.prog n env ps jM fm L->(∀st pd m,nx<=m->(L st pd).refs.all (fun r=>decide (r<m))=true)->∀x∈lK t [] true,∀r s,ok (x::r) s->J s=none->∀o3 n3,dv nx (G s) o3 n3->nx<n3->o3 nx=L .ready none->∀K X,
  (∀e' o' n' st pd,n3<=n'->dv nx (G (step s x)) o' n'->o' nx=L st pd->(∀id,nx<id->id<n3->o' id=o3 id)->kX nx K X (PA (J (step s x))) ⟨e',o',n'⟩)->
  lz Tryz.prog n n3 true jM (qR Tryz.prog n n3 nx fm K X) ⟨oP (aT env) ps [.d x.d],o3,n3⟩)
 (iw:∀o' n',dv nx (G (aA (zu J step) s0 (lK t [] true)).1) o' n'->qI Q (J (aA (zu J step) s0 (lK t [] true)).1) ⟨e,o',n'⟩):
 B0 Tryz.prog n bq false gq ps jM fm Q ⟨e,o,nx⟩ (.func (.func 101) [] [.ptr tb 0]):=by
 refine Hu env he (fun L hL=> ?_)
 have Gs:tb<nx:=hg.lt NB
 let H:σ->Nat->aa:=fun s id=>if id<nx then G s id else if id=nx then(match J s with|none=>L .ready none|some j=>L .done (some j))else .no
 have Kz:∀s id,id<nx->H s id=G s id:=fun s id h=>if_pos h
 have Q0:∀s,J s=none->H s nx=L .ready none:=fun s h=>by show(if nx<nx then _ else _)=_;rw[if_neg (by omega),if_pos rfl,h]
 have XJ:∀s j,J s=some j->H s nx=L .done (some j):=fun s j h=>by show(if nx<nx then _ else _)=_;rw[if_neg (by omega),if_pos rfl,h]
 have zA:∀st pd m,nx<=m->(L st pd).refs.all (fun r=>decide (r<m))=true:=fun st pd m hm=>by
  exact X7
 refine Qi (nx+1) nx H (zu J step) (fun l s=>ok l s/\J s=none) t hf hqh (fun x r s h1 h2=> ?_) (fun x hx r s h1=> ?_) ae tb ae s0 ⟨kO,hJ0⟩ Nz _ _ ⟨?_,Nat.le_refl _,fun id aq=> ?_⟩ _ _ ?_
 ·have hj:J (step s x)=none:=by simpa[zu]using h2
  exact⟨bp x r s h1.1 h1.2 hj,hj⟩
 ·intro o3 n3 hI K X hK
  have hle:=hI.le
  have MO:o3 nx=L .ready none:=by rw[hI.eq nx (by omega),Q0 s h1.2]
  refine xO hL mix MO ae pL (by simp[hl]) ?_
  refine qJ L hL zA x hx r s h1.1 h1.2 o3 n3 ⟨hI.bE,ae,fun id aq=>by rw[hI.eq id (by omega),Kz _ _ aq]⟩ ae MO K X (fun e' o' n' st pd k1 k2 k3 k4=> ?_)
  have key:∀st' pd' b,(J (step s x)).isNone=b->H (step s x) nx=L st' pd'->K (.d (.bool b)) (au o' nx (L st' pd')) n':=fun st' pd' b hb hh=>by
   subst hb
   refine hK _ _ k1 ⟨k2.bE.au ae (zA _ _ _ ae),ae,fun id aq=> ?_⟩ (fun id g1 g2=> ?_)
   ·by_cases tf:id=nx
    ·exact Nk
    ·rw[ab _ _ _ _ tf]
     show o' id=H (step s x) id
     exact Nb
   ·exact M7
  cases hj:J (step s x)with
  |none=>exact XM
  |some j=>
   cases j with
   |ret=>exact XK
   |exit j=>exact XI
 ·exact XL
 ·by_cases tf:id=nx
  ·exact Ns
  ·exact XH
 ·intro o' n' k1 k2 k3
  have hle:=k2.le
  generalize hsf:(aA (zu J step) s0 (lK t [] true)).1=sf at*
  have kk:∀st pd,dv nx (G sf) (au o' nx (L st pd)) n':=fun st pd=>⟨k2.bE.au ae (zA _ _ _ ae),ae,fun id aq=>by rw[ab _ _ _ _ (by omega),k2.eq id (by omega),Kz _ _ aq]⟩
  cases hj:J sf with
  |none=>
   refine⟨.ready,none,by rw[k2.eq nx (by omega),Q0 _ hj],(fun h=>by cases h), ?_⟩
   have:=iw _ _ (kk .exhausted none)
   rwa [hj]at this
  |some j=>
   refine⟨.done,some j,by rw[k2.eq nx (by omega),XJ _ _ hj],(fun h=>by cases h), ?_⟩
   have:=iw _ _ (kk .exhausted (some j))
   rwa [hj]at this
end
theorem wq{c:Nat}{G:List Gr}{so:Nat->aa}{gone:Nat->Prop}{x x' y y':aa}(h:x=y)(h':x'=y')(hs:vy c G so gone y y'):vy c G so gone x x':=by rw[h,h'];exact hs
@[reducible] def lH (B:Nat->aa) (r c:Nat) (ds:List D) (ty sz:Nat) (es:List D):Nat->aa:=au (au B r (.row (ds.map .d++[.osl c 0]))) c (.arr 0 ty sz es)
theorem CD{c:Nat}{G:List Gr}{so:Nat->aa}{gone:Nat->Prop}{l l':List V}:∀ds:List D,tT c G so gone l l'->tT c G so gone (ds.map .d++l) (ds.map .d++l')
 |[],h=>h
 |d::ds,h=>aay (CD ds h)
theorem CE(B:Nat->aa)(r c:Nat)(ds:List D)(ty sz:Nat)(es:List D):lH B r c ds ty sz es c= .arr 0 ty sz es:=af _ _ _
theorem CF(B:Nat->aa){r c:Nat}(h:r<c)(ds:List D)(ty sz:Nat)(es:List D):lH B r c ds ty sz es r= .row (ds.map .d++[.osl c 0]):=(ab _ _ _ _ ae).trans (af _ _ _)
theorem Ik(B:Nat->aa){r c j:Nat}(h:j≠r)(h2:j≠c)(ds:List D)(ty sz:Nat)(es:List D):lH B r c ds ty sz es j=B j:=(ab _ _ _ _ h2).trans (ab _ _ _ _ h)
theorem AX{B:Nat->aa}{r c:Nat}{ds:List D}{ty sz:Nat}{e:Nat->V}{so:Nat->aa}{m:Nat}(l:List V)(hg:Good B c)(eM:∀j,c<=j->B j= .no)(hr:r<c)(ho:∀j,j<c->j≠r->so j=B j)(bD:so r= .row (ds.map .d++[.aU]))(dU:0<sz)
 (he:lF c [⟨.aU,ty,sz,[]⟩] so (fun _=>False) e l 0):aZ 0 ⟨e,so,m⟩ ⟨aT l,lH B r c ds ty sz [],c+1⟩:=by
 refine aZ.iu (fun _=>False) .aU c _ ae (fun j hj=> ?_) (CE _ _ _ _ _ _ _) (.inl ⟨rfl,rfl,dU⟩) (fun j hj=> ?_) (fun _ h=>h.elim) he
 ·by_cases e1:j=r
  ·subst e1
   exact wq (y:= .row (ds.map .d++[.aU])) bD (CF B hr ds ty sz _) (sq rfl (CD ds (Cj (g:=⟨.aU,ty,sz,[]⟩) 0 rfl rfl rfl sn)))
  ·exact acG
 ·exact Uy
theorem Ft{B:Nat->aa}{r c ep:Nat}{ds:List D}{ty sz:Nat}{es:List D}{e:Nat->V}{so:Nat->aa}{m:Nat}(l:List V)(hg:Good B c)(eM:∀j,c<=j->B j= .no)(hr:r<c)(ho:∀j,j<c->j≠r->so j=B j)(bD:so r= .row (ds.map .d++[.osl c ep]))(dE:so c= .arr ep ty sz es)
 (he:lF c [⟨.osl c ep,ty,sz,es⟩] so (fun j=>j=c) e l 0):aZ 0 ⟨e,so,m⟩ ⟨aT l,lH B r c ds ty sz es,c+1⟩:=by
 refine aZ.iu (fun j=>j=c) (.osl c ep) c _ ae (fun j hj=> ?_) (CE _ _ _ _ _ _ _) (.inr ⟨c,ep,rfl,rfl,dE⟩) (fun j hj=> ?_) (fun j h h2=>ae) he
 ·by_cases e1:j=r
  ·subst e1
   exact wq (y:= .row (ds.map .d++[.osl c ep])) bD (CF B hr ds ty sz _) (sq rfl (CD ds (Cj (g:=⟨.osl c ep,ty,sz,es⟩) 0 rfl rfl rfl sn)))
  ·exact acG
 ·exact Uy
end Go.Proofs.YtnkamdiiakdkgaaGreat
section
namespace Go.Proofs.YtnkamdiiakdkgaaGreat
open Go.Shelf
def Fu:Go.Shelf.Ren:=⟨fun|189=>73|125=>104|257=>103|128=>147|129=>148|294=>138|295=>139|296=>140|297=>141|298=>142|299=>143|216=>144|300=>145|301=>146|328=>164|329=>165|330=>166|331=>167|332=>168|215=>169|343=>180|n=>n,fun|28=>37|3=>3|46=>144|0=>0|51=>186|53=>188|4=>4|183=>178|182=>177|131=>183|5=>5|9=>9|218=>205|222=>209|228=>211|229=>212|n=>n,fun|n=>n⟩
theorem J6:Go.Proofs.Lays.n189 Tryz.prog Fu:={
 mixed:=aK
 f125:=Tryz.func104.trans (congrArg some aK)
 f128:=Tryz.func147.trans (congrArg some aK)
 f129:=Tryz.func148.trans (congrArg some aK)
 f189:=Tryz.func73.trans (congrArg some aK)
 f215:=Tryz.func169.trans (congrArg some aK)
 f216:=Tryz.func144.trans (congrArg some aK)
 f257:=Tryz.func103.trans (congrArg some aK)
 f294:=Tryz.func138.trans (congrArg some aK)
 f295:=Tryz.func139.trans (congrArg some aK)
 f296:=Tryz.func140.trans (congrArg some aK)
 f297:=Tryz.func141.trans (congrArg some aK)
 f298:=Tryz.func142.trans (congrArg some aK)
 f299:=Tryz.func143.trans (congrArg some aK)
 f300:=Tryz.func145.trans (congrArg some aK)
 f301:=Tryz.func146.trans (congrArg some aK)
 f328:=Tryz.func164.trans (congrArg some aK)
 f329:=Tryz.func165.trans (congrArg some aK)
 f330:=Tryz.func166.trans (congrArg some aK)
 f331:=Tryz.func167.trans (congrArg some aK)
 f332:=Tryz.func168.trans (congrArg some aK)
 f343:=Tryz.func180.trans (congrArg some aK)
 t0:=Tryz.underlying0
 a0:=Tryz.isAgg0
 z0:=Tryz.sizeOf0
 v0:=Tryz.zeroValue0
 t3:=Tryz.underlying3
 a3:=Tryz.isAgg3
 z3:=Tryz.sizeOf3
 v3:=Tryz.zeroValue3
 t4:=Tryz.underlying4
 a4:=Tryz.isAgg4
 z4:=Tryz.sizeOf4
 v4:=Tryz.zeroValue4
 t5:=Tryz.underlying5
 a5:=Tryz.isAgg5
 z5:=Tryz.sizeOf5
 v5:=Tryz.zeroValue5
 t9:=Tryz.underlying9
 a9:=Tryz.isAgg9
 z9:=Tryz.sizeOf9
 v9:=Tryz.zeroValue9
 t28:=Tryz.underlying37
 a28:=Tryz.isAgg37
 z28:=Tryz.sizeOf37
 v28:=Tryz.zeroValue37
 t46:=Tryz.underlying144
 a46:=Tryz.isAgg144
 z46:=Tryz.sizeOf144
 v46:=Tryz.zeroValue144
 t51:=Tryz.underlying186
 a51:=Tryz.isAgg186
 z51:=Tryz.sizeOf186
 v51:=Tryz.zeroValue186
 t53:=Tryz.underlying188
 a53:=Tryz.isAgg188
 z53:=Tryz.sizeOf188
 v53:=Tryz.zeroValue188
 t131:=Tryz.underlying183
 a131:=Tryz.isAgg183
 z131:=Tryz.sizeOf183
 v131:=Tryz.zeroValue183
 t182:=Tryz.underlying177
 a182:=Tryz.isAgg177
 z182:=Tryz.sizeOf177
 v182:=Tryz.zeroValue177
 t183:=Tryz.underlying178
 a183:=Tryz.isAgg178
 z183:=Tryz.sizeOf178
 v183:=Tryz.zeroValue178
 t218:=Tryz.underlying205
 a218:=Tryz.isAgg205
 z218:=Tryz.sizeOf205
 v218:=Tryz.zeroValue205
 t222:=Tryz.underlying209
 a222:=Tryz.isAgg209
 z222:=Tryz.sizeOf209
 v222:=Tryz.zeroValue209
 t228:=Tryz.underlying211
 a228:=Tryz.isAgg211
 z228:=Tryz.sizeOf211
 v228:=Tryz.zeroValue211
 t229:=Tryz.underlying212
 a229:=Tryz.isAgg212
 z229:=Tryz.sizeOf212
 v229:=Tryz.zeroValue212}
theorem Mh:Fi Tryz.prog 73:=fun dG off cap zs w h1 h2 h3=>Any.slices_Sort_int J6 dG off cap zs w h1 h2 h3
theorem Mi:∀ (p:Option Addr) (cap:Nat) (w:World),Calls Tryz.prog 73 #[.slice p 0 cap] w fun e w'=>e= .returned (.tuple #[])/\w'=w:=fun p cap w=>Any.slices_Sort_int_none J6 p cap w
theorem Fv:Enters Tryz.prog 73:=⟨_,Tryz.func73,aK,aK⟩
def Fx:Go.Shelf.Ren:=⟨fun|20=>74|n=>n,fun|22=>37|3=>3|4=>4|0=>0|n=>n,fun|n=>n⟩
theorem J7:Go.Proofs.Lays2.n20 Tryz.prog Fx:={
 mixed:=aK
 f20:=Tryz.func74.trans (congrArg some aK)
 t0:=Tryz.underlying0
 a0:=Tryz.isAgg0
 z0:=Tryz.sizeOf0
 v0:=Tryz.zeroValue0
 t3:=Tryz.underlying3
 a3:=Tryz.isAgg3
 z3:=Tryz.sizeOf3
 v3:=Tryz.zeroValue3
 t4:=Tryz.underlying4
 a4:=Tryz.isAgg4
 z4:=Tryz.sizeOf4
 v4:=Tryz.zeroValue4
 t22:=Tryz.underlying37
 a22:=Tryz.isAgg37
 z22:=Tryz.sizeOf37
 v22:=Tryz.zeroValue37
 i3:=by kernel_rfl}
theorem CG:ph Tryz.prog 74:=fun dG off cap zs w h1 h2 h3=>Any.slices_Compact_int J7 dG off cap zs w h1 h2 h3
theorem CH:∀ (p:Option Addr) (cap:Nat) (w:World),Calls Tryz.prog 74 #[.slice p 0 cap] w fun e w'=>e= .returned (.slice p 0 cap)/\w'=w:=fun p cap w=>Any.slices_Compact_int_empty J7 p cap w
theorem yl:Enters Tryz.prog 74:=⟨_,Tryz.func74,aK,aK⟩
end Go.Proofs.YtnkamdiiakdkgaaGreat
end
section
namespace Go.Proofs.YtnkamdiiakdkgaaGreat
open Go.ChangeShapes Go.WideShapes Go.RowKit
def ym(P:Program)(rec:TypeId->Option (List TypeId)):Nat->List Field->Option (List TypeId)
 |_,[]=>some []
 |off,f::fs=>if f.offset=off then match rec f.type with
  |some l=>if P.cellsOf f.type=l.length then(ym P rec (off+l.length) fs).map (l++·)else none
  |none=>none else none
def nO(P:Program):Nat->TypeId->Option (List TypeId)
 |0,_=>none
 |n+1,t=>match P.underlying t with
  |some .bool|some (.int _)|some .string|some (.slice _)=>some [t]
  |some (.struct fs)=>ym P (nO P n) 0 fs.toList
  |some (.array k e)=>match nO P n e with
   |some l=>if P.cellsOf e=l.length then some (List.replicate k l).flatten else none
   |none=>none
  |_=>none
def isAgg(P:Program)(t:TypeId):Bool:=match P.underlying t with
 |some (.struct _)|some (.array _ _)=>true
 |_=>false
mutual
def D.lr (P:Program):D->TypeId->Prop
 | .int k n,t=>P.underlying t=some (.int k)/\(Lit.int k n).wf=true
 | .bool _,t=>P.underlying t=some .bool
 | .str l,t=>P.underlying t=some .string/\l.length<=maxLen
 | .sl es,t=>∃e,P.underlying t=some (.slice e)/\es.length<=maxLen/\D.Mj P es e
 | .agg cs,t=>isAgg P t=true/\∃ls,nO P 20 t=some ls/\D.jE P cs ls
 |_,_=>False
def D.Mj (P:Program):List D->TypeId->Prop
 |[],_=>True
 |x::l,e=>D.lr P x e/\D.Mj P l e
def D.jE (P:Program):List D->List TypeId->Prop
 |[],ts=>ts=[]
 |x::l,ts=>∃t r,ts=t::r/\D.lr P x t/\D.jE P l r
end
def wb(P:Program)(T:List TypeId):Bool:=T.all fun t=>match nO P 20 t with
 |some l=>decide (l.length=P.cellsOf t)&&decide (0<l.length)&&l.all fun u=>match P.underlying u with
  |some (.slice e)=>T.contains e
  |_=>true
 |none=>false
theorem sN{P:Program}:∀ {xs ys:List D} {l r:List TypeId},D.jE P xs l->D.jE P ys r->D.jE P (xs++ys) (l++r)
 |[],_,_,_,h,h'=>by simp only[D.jE]at h;subst h;exact h'
 |x::xs,_,_,_,h,h'=>by
  obtain⟨t,r,rfl,h1,h2⟩:=h
  exact⟨t,_,rfl,h1,sN h2 h'⟩
theorem bc{B:Nat->Prop}{w:World}:∀ {xs ys:List D} {l r:List Value},D.aG B w xs l->D.aG B w ys r->D.aG B w (xs++ys) (l++r)
 |[],_,_,_,h,h'=>by simp only[D.aG]at h;subst h;exact h'
 |x::xs,_,_,_,h,h'=>by
  obtain⟨t,r,rfl,h1,h2⟩:=h
  exact⟨t,_,rfl,h1,bc h2 h'⟩
theorem Flat.append {l r:List Value}(h:Flat l)(h':Flat r):Flat (l++r):=fun u hu=>(List.mem_append.1 hu).elim (h u) (h' u)
abbrev noB:Nat->Prop:=fun _=>False
section
variable {H:Type}{enc:TypeId×Value->H}{P:Program}{W:World}{T:List TypeId}{b0:Nat}
def dQ(P:Program)(W:World)(l:List TypeId)(cs:List Value):Prop:=∃xs,D.jE P xs l/\D.aG noB W xs cs/\Flat cs
theorem dQ.append {l r:List TypeId}{cs ds:List Value}(h:dQ P W l cs)(h':dQ P W r ds):dQ P W (l++r) (cs++ds):=by
 obtain⟨xs,a1,a2,a3⟩:=h
 obtain⟨ys,b1,b2,b3⟩:=h'
 exact⟨xs++ys,sN a1 b1,bc a2 b2,a3.append b3⟩
theorem dQ.length {l:List TypeId}{cs:List Value}(h:dQ P W l cs):cs.length=l.length:=by
 obtain⟨xs,a1,a2,_⟩:=h
 rw[D.aE _ _ a2]
 clear a2
 induction xs generalizing l with
 |nil=>simp only[D.jE]at a1;simp[a1]
 |cons x xs ih=>obtain⟨t,r,rfl,_,h⟩:=a1;simp[ih h]
theorem dQ.nil:dQ P W [] []:=⟨[],rfl,rfl,fun _ h=>by cases h⟩
theorem Fy{α:Type}(cs:List α)(o k:Nat):cs.drop o=(cs.drop o).take k++cs.drop (o+k):=by
 rw[<- List.drop_drop];exact(List.take_append_drop k _).symm
theorem sO{rec:TypeId->Option (List TypeId)}{cs:List Value}{rd:TypeId->List Value->Prop}
 (bN:∀t l vs,rec t=some l->(∀u∈l,∀e,P.underlying u=some (.slice e)->e∈T)->P.cellsOf t=l.length->rd t vs->dQ P W l vs):
 ∀ (fs:List Field) (off:Nat) (l:List TypeId),ym P rec off fs=some l->(∀u∈l,∀e,P.underlying u=some (.slice e)->e∈T)->(∀f∈fs,rd f.type ((cs.drop f.offset).take (P.cellsOf f.type)))->
   off+l.length=cs.length->dQ P W l (cs.drop off)
 |[],off,l,h,_,_,hl=>by
  simp only[ym,Option.some.injEq]at h
  subst h
  have:cs.drop off=[]:=List.drop_eq_nil_of_le (by simp at hl;omega)
  rw[this];exact dQ.nil
 |f::fs,off,l,h,hT,hr,hl=>by
  simp only[ym]at h
  split at h
  ·rename_i ho
   split at h
   ·rename_i l1 h1
    split at h
    ·rename_i hc
     simp only[Option.map_eq_some_iff]at h
     obtain⟨r,h2,rfl⟩:=h
     have hd:=hr f aJ
     rw[ho,hc]at hd
     rw[Fy cs off l1.length]
     simp only[List.length_append]at hl
     exact(bN f.type l1 _ h1 (fun u hu=>hT u (by simp[hu])) hc hd).append (sO bN fs _ r h2 (fun u hu=>hT u (by simp[hu])) (fun f hf=>hr f (by simp[hf])) ae)
    ·cases h
   ·cases h
  ·cases h
theorem ve{l:List TypeId}{cs:List Value}:∀ (k i:Nat),(∀j,j<k->dQ P W l ((cs.drop ((i+j)*l.length)).take l.length))->(i+k)*l.length=cs.length->dQ P W (List.replicate k l).flatten (cs.drop (i*l.length))
 |0,i,_,hl=>by
  have:cs.drop (i*l.length)=[]:=List.drop_eq_nil_of_le (by simp at hl;omega)
  rw[this];exact dQ.nil
 |k+1,i,h,hl=>by
  rw[List.replicate_succ,List.flatten_cons,Fy cs (i*l.length) l.length]
  refine(by simpa using h 0 ae:dQ P W l _).append ?_
  rw[show i*l.length+l.length=(i+1)*l.length by rw[Nat.add_mul];omega]
  refine ve k (i+1) (fun j hj=> ?_) (by rw[<- hl];congr 1;omega)
  have:=h (j+1) ae
  rwa [show i+(j+1)=i+1+j by omega]at this
theorem Fz{e:TypeId}{l:List TypeId}{cs:List Value}(hl:nO P 20 e=some l)(h:dQ P W l cs):∃ (ev:Value) (x:D),ev.cells.toList=cs/\D.lr P x e/\D.den noB W x ev/\(isAgg P e=true->ev= .agg cs.toArray)/\(isAgg P e=false->cs=[ev]/\ev.oneCell'=true):=by
 obtain⟨xs,h1,h2,h3⟩:=h
 cases ha:isAgg P e with
 |true=>exact⟨.agg cs.toArray, .agg xs,by simp[Value.cells],⟨ha,l,hl,h1⟩,⟨_,rfl,by simpa using h2,by simpa using h3⟩,fun _=>rfl,(fun h=>by cases h)⟩
 |false=>
  have:l=[e]:=by
   unfold nO at hl
   unfold isAgg at ha
   split at hl<;>simp_all
  subst this
  obtain⟨t,r,e1,h4,h5⟩:∃x r,xs=x::r/\D.lr P x e/\D.jE P r []:=by
   cases xs with
   |nil=>simp[D.jE]at h1
   |cons x r=>obtain⟨t,r',e1,h4,h5⟩:=h1;injection e1 with e1 e2;subst e1;subst e2;exact⟨x,r,rfl,h4,h5⟩
  subst e1
  have:r=[]:=by cases r with
   |nil=>rfl
   |cons y r=>obtain⟨_,_,e,_⟩:=h5;cases e
  subst this
  obtain⟨u,us,rfl,h6,h7⟩:=h2
  simp only[D.aG]at h7
  subst h7
  have ho:=h3 u aJ
  refine⟨u,t, ?_,h4,h6,(fun h=>by cases h),fun _=>⟨rfl,ho⟩⟩
  cases u<;>simp_all[Value.oneCell',Value.cells]
theorem FA(hp:wb P T=true){t:TypeId}(ht:t∈T):∃l,nO P 20 t=some l/\l.length=P.cellsOf t/\0<l.length/\∀u∈l,∀e,P.underlying u=some (.slice e)->e∈T:=by
 have:=List.all_eq_true.1 hp t ht
 split at this
 ·rename_i l hl
  simp only[Bool.and_eq_true,decide_eq_true_eq,List.all_eq_true]at this
  refine⟨l,hl,this.1.1,this.1.2,fun u hu e he=> ?_⟩
  have:=this.2 u hu
  rw[he]at this
  simpa using this
 ·cases this
theorem HS(hp:wb P T=true):∀ (n m:Nat) (t:TypeId) (l:List TypeId) (cs:List Value) (x:DataW H×List MemPlace),nO P m t=some l->(∀u∈l,∀e,P.underlying u=some (.slice e)->e∈T)->
 P.cellsOf t=l.length->DataW.trod enc P W 0 (fun _=>true) true n t cs=some x->dQ P W l cs:=by
 intro n
 induction n with
 |zero=>intro m t l cs x _ _ _ h;simp[DataW.trod]at h
 |succ n ih=>
  intro m t l cs x hl hT hc h
  cases m with
  |zero=>simp[nO]at hl
  |succ m=>
  unfold nO at hl
  split at hl
  ·rename_i hu
   injection hl with hl;subst hl
   obtain⟨b,rfl,_⟩:=DataW.trod_bool hu h
   exact⟨[.bool b],⟨t,[],rfl,hu,rfl⟩,⟨_,_,rfl,rfl,rfl⟩,by simp[Flat,Value.oneCell']⟩
  ·rename_i k hu
   injection hl with hl;subst hl
   obtain⟨b,rfl,_,hw⟩:=DataW.trod_int hu h
   exact⟨[.int k b],⟨t,[],rfl,⟨hu,hw⟩,rfl⟩,⟨_,_,rfl,rfl,rfl⟩,by simp[Flat,Value.oneCell']⟩
  ·rename_i hu
   injection hl with hl;subst hl
   obtain⟨s,rfl,_,hw⟩:=DataW.trod_string hu h
   exact⟨[.str s.data.toList],⟨t,[],rfl,⟨hu,by simpa using hw⟩,rfl⟩,⟨_,_,rfl,⟨s,rfl,rfl⟩,rfl⟩,by simp[Flat,Value.oneCell']⟩
  ·rename_i e hu
   injection hl with hl;subst hl
   rcases DataW.trod_slice hu h with⟨rfl,_⟩|⟨a,len,cap,elems,rest,n',hn,rfl,_,_,h2,h3,h4,h5,h6,_⟩
   ·exact⟨[.sl []],⟨t,[],rfl,⟨e,hu,aJ,trivial⟩,rfl⟩,⟨_,_,rfl,⟨none,0,0,rfl,rfl,aJ,fun _=>rfl,0,(fun a ha=>by cases ha)⟩,rfl⟩,by simp[Flat,Value.oneCell']⟩
   ·injection hn with hn;subst hn
    obtain⟨l',g1,g2,g3,g4⟩:=FA hp (hT t aJ e hu)
    have at':∀i,i<len->∃ev:Value,∃y:D,ev.cells.size=P.cellsOf e/\iD noB W (a.add (i*P.cellsOf e)) ev.cells/\D.den noB W y ev/\D.lr P y e:=by
     intro i hi
     have:=h5 i hi
     rw[List.getElem?_eq_getElem (by omega)]at this
     obtain⟨ci,k1,k2⟩:=Option.bind_eq_some_iff.1 this
     obtain⟨_,k3,k4⟩:=World.cells?_some k1
     have k5:=ih 20 e l' ci _ g1 g4 g2.symm k2
     obtain⟨ev,y,q1,q2,q3,_,_⟩:=Fz g1 k5
     have q4:ev.cells=ci.toArray:=by rw[<- q1]
     refine⟨ev,y,by rw[q4];simp[k5.length,g2],fun j u hj=>⟨?_,fun h=>h⟩,q3,q2⟩
     rw[q4]at hj
     have MJ:ci[j]? =some u:=by simpa using hj
     have cS:j<P.cellsOf e:=by rw[<- g2, <- k5.length];exact(List.getElem?_eq_some_iff.1 MJ).1
     rw[k4 j cS];exact MJ
    have list:∀k i,i+k=len->∃es,es.length=k/\D.Mj P es e/\D.elems noB W (P.cellsOf e) a i es:=by
     intro k
     induction k with
     |zero=>intro i _;exact⟨[],rfl,trivial,trivial⟩
     |succ k ihk=>
      intro i hi
      obtain⟨es,e1,e2,e3⟩:=ihk (i+1) ae
      obtain⟨ev,y,y1,y2,y3,y4⟩:=at' i ae
      exact⟨y::es,by simp[e1],⟨y4,e2⟩,⟨ev,y1,y2,y3⟩,e3⟩
    obtain⟨es,e1,e2,e3⟩:=list len 0 ae
    have agD:cap≠0->a.spot=none:=by
     intro jb
     have Xf:∀z,(W.cells? 0 (a.add (0*P.cellsOf e)) (P.cellsOf e)).bind (DataW.trod enc P W 0 (fun _=>true) true n e)=some z->a.spot=none:=by
      intro z hz
      obtain⟨ci,k1,k2⟩:=Option.bind_eq_some_iff.1 hz
      obtain⟨_,k3,k4⟩:=World.cells?_some k1
      have k5:=k4 0 ae
      rw[List.getElem?_eq_getElem (by omega)]at k5
      simpa[Addr.add]using World.cell?_spot k5
     by_cases hlen:0<len
     ·have:=h5 0 hlen
      rw[List.getElem?_eq_getElem (by omega)]at this
      exact Xf _ this
     ·obtain⟨h7,h8⟩:=h6 rfl
      have:=h8 0 ae
      rw[List.getElem?_eq_getElem (by omega),show(len+0)=0 by omega]at this
      exact Xf _ this
    exact⟨[.sl es],⟨t,[],rfl,⟨e,hu,ae,e2⟩,rfl⟩,⟨_,_,rfl,⟨some a,len,cap,rfl,e1.symm,h2,(fun h=>by cases h),P.cellsOf e,(fun a' ha'=>by injection ha' with ha';subst ha';exact⟨agD,e3⟩)⟩,rfl⟩,by simp[Flat,Value.oneCell']⟩
  ·rename_i fs hu
   obtain⟨xs,n',hn,_,h2,h3,h4⟩:=DataW.trod_struct hu h
   injection hn with hn;subst hn
   have:=sO (P:=P) (W:=W) (T:=T) (cs:=cs) (rd:=fun t vs=>∃y,DataW.trod enc P W 0 (fun _=>true) true n t vs=some y) (rec:=nO P m) (fun t l vs q1 q2 q3 ⟨y,q4⟩=>ih m t l vs y q1 q2 q3 q4) fs.toList 0 l hl hT ?_ ae
   ·simpa using this
   ·intro f hf
    obtain⟨i,hi,hfi⟩:=List.getElem_of_mem hf
    have:=h4 i f (by simp at hi;simp[<- hfi,Array.getElem?_eq_getElem hi])
    rw[List.getElem?_eq_getElem (by simp at hi;omega)]at this
    exact⟨_,this⟩
  ·rename_i k e hu
   split at hl
   ·rename_i l' RZ
    split at hl
    ·rename_i hce
     injection hl with hl;subst hl
     obtain⟨xs,n',hn,_,h2,h3,h4⟩:=DataW.trod_array hu h
     injection hn with hn;subst hn
     have hlen:cs.length=k*l'.length:=by rw[h2,hc];simp
     have hT':0<k->∀u∈l',∀e,P.underlying u=some (.slice e)->e∈T:=fun hk u hu=>hT u (List.mem_flatten.2 ⟨l',List.mem_replicate.2 ⟨ae,rfl⟩,hu⟩)
     have:=ve (P:=P) (W:=W) (l:=l') (cs:=cs) k 0 (fun j hj=> ?_) (by rw[hlen];simp)
     ·simpa using this
     ·have:=h4 j hj
      rw[hce,List.getElem?_eq_getElem (by omega)]at this
      rw[Nat.zero_add]
      exact ih m e l' _ _ RZ (hT' ae) hce this
    ·cases hl
   ·cases hl
  ·cases hl
theorem AY(hp:wb P T=true):∀ (ts:List TypeId) (vs:List Value) (ds:List (DataW H)) (p:List MemPlace),(∀t∈ts,t∈T)->DataW.TrodAll enc P W 0 (fun _=>true) true ts vs ds p->
 (∀ (j:Nat) t v,ts[j]? =some t->vs[j]? =some v->Value.okWide P W .any b0 t v)->∃xs,D.jE P xs ts/\D.aG noB W xs vs
 |[],vs,ds,p,_,h,_=>by
  obtain⟨rfl,rfl,rfl⟩:=trodAll_nil h
  exact⟨[],rfl,rfl⟩
 |t::ts,vs,ds,p,hT,h,hv=>by
  obtain⟨v,vs',d,ds',p1,q1,rfl,rfl,rfl,⟨n,h1⟩,h2⟩:=trodAll_cons h
  obtain⟨xs,a1,a2⟩:=AY hp ts vs' ds' q1 (fun t ht=>hT t (by simp[ht])) h2 (fun j t v h1 h2=>hv (j+1) t v (by simpa using h1) wv)
  obtain⟨l,g1,g2,g3,g4⟩:=FA hp (hT t aJ)
  obtain⟨ev,x,q1,q2,q3,q4,q5⟩:=Fz g1 (HS hp n 20 t l _ _ g1 g4 g2.symm h1)
  have bp:=hv 0 t v rfl rfl
  have:ev=v:=by
   cases ha:isAgg P t with
   |true=>
    have:∃cs,v= .agg cs:=by
     unfold isAgg at ha
     unfold Value.okWide at bp
     split at ha
     ·rename_i hu;rw[hu]at bp;obtain⟨cs,rfl,_⟩:=bp;exact⟨cs,rfl⟩
     ·rename_i hu;rw[hu]at bp;obtain⟨cs,rfl,_⟩:=bp;exact⟨cs,rfl⟩
     ·cases ha
    obtain⟨cs,rfl⟩:=this
    rw[q4 ha]
    simp[Value.cells]
   |false=>
    obtain⟨q6,q7⟩:=q5 ha
    cases v with
    |agg cs=>
     exfalso
     unfold isAgg at ha
     unfold Value.okWide at bp
     split at bp
     ·rename_i hu;rw[hu]at ha;cases ha
     ·rename_i hu;rw[hu]at ha;cases ha
     ·unfold Cell.okWide at bp
      split at bp
      case h_8=>
       unfold Cell.ok at bp
       split at bp<;>first|exact bp|contradiction
      all_goals contradiction
    |_=>simp only[Value.cells,List.cons.injEq,and_true]at q6;exact q6.symm
  subst this
  exact⟨x::xs,⟨t,ts,rfl,q2,a1⟩,⟨_,_,rfl,q3,a2⟩⟩
theorem ed.below {w w':World}(h:ed (fun _=>False) w w'):Below w.heap.size w w':=⟨h.os,h.tape,h.output,h.size,fun k hk=>h.block k hk (fun h=>h)⟩
theorem AZ(hl:laidOutB P=true){W':World}{sp:Nat->Bool}:∀ {ts:List TypeId} {vs:List Value} {ds:List (DataW H)} {p:List MemPlace},(∀t∈ts,P.readableRec t=true/\t<P.types.size)->DataW.TrodAll enc P W 0 (fun _=>true) true ts vs ds p->
 (∀x∈p,W.sameAt W' x/\sp x.block=true)->DataW.TrodAll enc P W' 0 sp true ts vs ds p
 |[],vs,ds,p,_,h,_=>by
  obtain⟨rfl,rfl,rfl⟩:=trodAll_nil h
  exact trodAll_mk0
 |t::ts,vs,ds,p,hr,h,hs=>by
  obtain⟨v,vs',d,ds',p1,q1,rfl,rfl,rfl,h1,h2⟩:=trodAll_cons h
  exact⟨p1,q1,WideElems.Trod_stays hl (hr t aJ).1 (hr t aJ).2 h1 (fun x hx=>(hs x oh).1) (fun x hx=>(hs x oh).2),AZ hl (fun t ht=>hr t (by simp[ht])) h2 (fun x hx=>hs x oh),rfl⟩
theorem Qj{sp:Nat->Bool}:∀ {ts:List TypeId} {vs:List Value} {ds:List (DataW H)} {ps:List MemPlace},DataW.TrodAll enc P W 0 sp true ts vs ds ps->ds.length=ts.length
 |[],_,_,_,h=>by obtain⟨_,rfl,_⟩:=trodAll_nil h;rfl
 |_::_,_,_,_,h=>by
  obtain⟨_,_,_,_,_,_,_,rfl,_,_,h2⟩:=trodAll_cons h
  simp[Qj h2]
theorem CI{f:FuncId}{fn:Func}{s:ChangeSpec}{tb:TypeId}{fresh handsOn again:Bool}(BC:fn.resultTypes=#[tb])(Gs:P.underlying tb=some .bool)(Xg:s.vars=[])
 (Qk:∀ds:List (DataW H),ds.length=fn.params.toList.length->s.fn H ds={results:=[.lit (.bool true)],args:=ds}) (hp:wb P T=true) (hT:∀t∈fn.params.toList,t∈T) (hl:laidOutB P=true)
 (hr:∀t∈fn.params.toList,P.readableRec t=true/\t<P.types.size) (law:∀xs,D.jE P xs fn.params.toList->aW P f xs (.ret [.bool true]))
 (base:Nat) (args:Array Value) (ds gs:List (DataW H)) (before:List MemPlace)
 (fK:∀ (j:Nat) t v,fn.params[j]? =some t->args[j]? =some v->Value.okWide P W .any base t v) (hW:DataW.Whole enc P fn.params.toList s.vars false W args.toList ds gs before):
 Calls P f args W fun e W'=>∃v,e= .returned v/\s.post enc P fn false fresh handsOn again W args v W':=by
 have hW':=hW
 obtain⟨p,q,hA,hV,rfl,hfz,ML⟩:=hW
 rw[Xg]at hV
 obtain⟨rfl,rfl⟩:=trodVars_none hV
 obtain⟨xs,a1,a2⟩:=AY (b0:=base) hp fn.params.toList args.toList ds p hT hA (fun j t v h1 h2=>fK j t v (by simpa using h1) wv)
 refine((law xs a1).2 noB W args (fun _ h=>h.elim) a2).mono fun e W' ⟨hk,ho⟩=> ?_
 have hb:=hk.below
 cases e with
 |panicked ch=>exact ho.elim
 |outgrown=>exact ho.elim
 |returned v=>
  simp only[R.is,D.den]at ho
  subst ho
  refine⟨_,rfl, ?_⟩
  have hlen:ds.length=fn.params.toList.length:=(Qj hA)
  have hold:∀x∈p,x.block<W.heap.size:=fun x hx=>by simpa using hW'.lt x zE
  have eC:∀sp:Nat->Bool,(∀x∈p,sp x.block=true)->DataW.TrodAll enc P W' 0 sp true fn.params.toList args.toList ds p:=fun sp yN=>AZ hl hr hA fun x hx=>⟨hb.same (hold x hx),yN x hx⟩
  have Xh:∀ (b:Nat) (sp:Nat->Bool) (hd:Bool),DataW.TrodAll enc P W' b sp hd fn.resultTypes.toList ((Value.bool true).resultList fn.resultTypes.size) [.lit (.bool true)] []:=fun b sp hd=>by
   rw[BC]
   exact trodAll_cons_mk (p:=[]) (p':=[]) ⟨1,by simp[DataW.trod,Value.cells,Gs]⟩ trodAll_mk0
  have Ql:∀sp:Nat->Bool,DataW.TrodVars enc P W' sp s.vars [] []:=fun sp=>by rw[Xg];rfl
  refine⟨ds,[],p++[],[],p,[],hW', ?_, ?_, ?_,World.keptBut_mono (fun _ h=>h.elim) (hb.frame (fun _=>False)),fun _=>⟨?_,[.lit (.bool true)]++ds,[],([]++p)++[],⟨[]++p,[],trodAll_append (eC _ fun _ _=>rfl) (Xh 0 (fun _=>true) true),Ql _,rfl, ?_,(fun h=>by cases h)⟩,fun x hx _=>by simpa using hx⟩⟩
  ·rw[List.append_nil,Qk ds hlen];exact Xh _ _ _
  ·rw[List.append_nil,Qk ds hlen];exact eC _ fun x hx=>by simpa using hold x hx
  ·rw[List.append_nil,Qk ds hlen];exact Ql _
  ·intro j t r h1 h2
   rw[BC]at h1 h2
   match j,h1,h2 with
   |0,h1,h2=>
    simp[Value.resultList]at h1 h2
    subst h1;subst h2
    simp[Value.okWide,Gs,Cell.okWide,Cell.ok]
  ·intro b off hx
   rw[hb.frozen (by simpa[MemPlace.block]using hold _ (by simpa using hx))]
   exact hfz b off zE
end
section
variable {P:Program}{t e:TypeId}{x:D}
theorem FB{k:IntKind}(ht:P.underlying t=some (.int k))(h:D.lr P x t):∃n,x= .int k n/\(Lit.int k n).wf=true:=by
 cases x<;>simp only[D.lr]at h
 case int k' n=>
  rw[ht]at h
  obtain⟨h1,h2⟩:=h
  injection h1 with h1;injection h1 with h1;subst h1
  exact⟨n,rfl,h2⟩
 case bool=>rw[ht]at h;cases h
 case str=>rw[ht]at h;cases h.1
 case sl=>obtain⟨e,h,_⟩:=h;rw[ht]at h;cases h
 case agg=>have:=h.1;unfold isAgg at this;rw[ht]at this;cases this
theorem Qm(ht:P.underlying t=some .string)(h:D.lr P x t):∃l,x= .str l/\l.length<=maxLen:=by
 cases x<;>simp only[D.lr]at h
 case int k' n=>rw[ht]at h;cases h.1
 case bool b=>rw[ht]at h;cases h
 case str l=>exact⟨l,rfl,h.2⟩
 case sl=>obtain⟨e,h,_⟩:=h;rw[ht]at h;cases h
 case agg=>have:=h.1;unfold isAgg at this;rw[ht]at this;cases this
theorem sP(ht:P.underlying t=some (.slice e))(h:D.lr P x t):∃es,x= .sl es/\es.length<=maxLen/\D.Mj P es e:=by
 cases x<;>simp only[D.lr]at h
 case int k' n=>rw[ht]at h;cases h.1
 case bool b=>rw[ht]at h;cases h
 case str l=>rw[ht]at h;cases h.1
 case sl es=>
  obtain⟨e',h,h2,h3⟩:=h
  rw[ht]at h;injection h with h;injection h with h;subst h
  exact⟨es,rfl,h2,h3⟩
 case agg=>have:=h.1;unfold isAgg at this;rw[ht]at this;cases this
theorem sQ{ls:List TypeId}(ha:isAgg P t=true)(hl:nO P 20 t=some ls)(h:D.lr P x t):∃cs,x= .agg cs/\D.jE P cs ls:=by
 have no:∀u,P.underlying t=some u->(∀fs,u≠ .struct fs)->(∀k e,u≠ .array k e)->False:=by
  intro u hu h1 h2
  unfold isAgg at ha
  rw[hu]at ha
  split at ha
  ·rename_i e;injection e with e;exact h1 _ e
  ·rename_i e;injection e with e;exact h2 _ _ e
  ·cases ha
 cases x<;>simp only[D.lr]at h
 case int k' n=>exact(no _ h.1 (fun _ h=>by cases h) (fun _ _ h=>by cases h)).elim
 case bool b=>exact(no _ h (fun _ h=>by cases h) (fun _ _ h=>by cases h)).elim
 case str l=>exact(no _ h.1 (fun _ h=>by cases h) (fun _ _ h=>by cases h)).elim
 case sl es=>obtain⟨e',h,_⟩:=h;exact(no _ h (fun _ h=>by cases h) (fun _ _ h=>by cases h)).elim
 case agg cs=>
  obtain⟨_,ls',h1,h2⟩:=h
  rw[hl]at h1;injection h1 with h1;subst h1
  exact⟨cs,rfl,h2⟩
theorem cD{t:TypeId}{ts:List TypeId}{cs:List D}(h:D.jE P cs (t::ts)):∃x xs,cs=x::xs/\D.lr P x t/\D.jE P xs ts:=by
 cases cs with
 |nil=>simp[D.jE]at h
 |cons x xs=>obtain⟨_,_,e,h1,h2⟩:=h;injection e with e1 e2;subst e1;subst e2;exact⟨x,xs,rfl,h1,h2⟩
theorem mT{cs:List D}(h:D.jE P cs []):cs=[]:=by
 cases cs with
 |nil=>rfl
 |cons x xs=>obtain⟨_,_,e,_⟩:=h;cases e
theorem pj{α:Type}{f:α->D}{q:α->Prop}(hf:∀x,D.lr P x e->∃a,x=f a/\q a):∀ (es:List D),D.Mj P es e->∃l:List α,es=l.map f/\∀a∈l,q a
 |[],_=>⟨[],rfl,fun _ h=>by cases h⟩
 |x::es,h=>by
  obtain⟨a,rfl,h1⟩:=hf x h.1
  obtain⟨l,rfl,h2⟩:=pj hf es h.2
  exact⟨a::l,rfl,fun b hb=>(List.mem_cons.1 hb).elim (fun e=>e ▸ h1) (h2 b)⟩
end
end Go.Proofs.YtnkamdiiakdkgaaGreat
end
section
namespace Go.Proofs.YtnkamdiiakdkgaaGreat
open Go.ChangeShapes Go.WideShapes Go.RowKit
theorem pR:maxLen<=9223372036854775807:=bG
theorem FC{x:D}(h:D.lr Tryz.prog x 3):∃n:Int,x= .i n:=by
 obtain⟨n,h,_⟩:=FB undT_3 h
 exact⟨n,h⟩
theorem agE{x:D}(h:D.lr Tryz.prog x 53):∃n:Int,x= .i n:=by
 obtain⟨n,h,_⟩:=FB undT_53 h
 exact⟨n,h⟩
theorem agF{x:D}(h:D.lr Tryz.prog x 102):∃r:jX,x=r.d/\r.name.length<=9223372036854775807:=by
 obtain⟨cs,rfl,hh⟩:=sQ aK (ls:=[9,3]) aK h
 clear h;have h:=hh;clear hh
 obtain⟨a,cs,rfl,ha,h⟩:=cD h
 obtain⟨b,cs,rfl,hb,h⟩:=cD h
 have:=mT h;subst this
 obtain⟨l,rfl,hl⟩:=Qm aK ha
 obtain⟨n,rfl⟩:=FC hb
 exact⟨⟨l,n⟩,rfl,by have:=pR;simp only;omega⟩
theorem Qn:∀ (n:Nat) (x:D),SizeOf.sizeOf x<=n->D.lr Tryz.prog x 55->∃t:Tm,x=t.d/\t.fits:=by
 intro n
 induction n with
 |zero=>intro x hx _;cases x<;>simp at hx
 |succ n ih=>
  intro x hx h
  obtain⟨cs,rfl,hh⟩:=sQ aK (ls:=[53,3,49]) aK h
  clear h;have h:=hh;clear hh
  obtain⟨a,cs,rfl,ha,h⟩:=cD h
  obtain⟨b,cs,rfl,hb,h⟩:=cD h
  obtain⟨c,cs,rfl,hc,h⟩:=cD h
  have:=mT h;subst this
  obtain⟨o,rfl⟩:=agE ha
  obtain⟨m,rfl⟩:=FC hb
  obtain⟨es,rfl,h1,h2⟩:=sP undT_49 hc
  have IV:SizeOf.sizeOf es<=n:=by simp at hx;omega
  have:∀es:List D,SizeOf.sizeOf es<=n->D.Mj Tryz.prog es 55->∃l:List Tm,es=l.map Tm.d/\∀k∈l,k.fits:=by
   intro es
   induction es with
   |nil=>intro _ _;exact⟨[],rfl,fun _ h=>by cases h⟩
   |cons y es ihe=>
    intro hs h
    simp at hs
    obtain⟨t,rfl,ht⟩:=ih y ae h.1
    obtain⟨l,rfl,hl⟩:=ihe ae h.2
    exact⟨t::l,rfl,fun b hb=>(List.mem_cons.1 hb).elim (fun e=>e ▸ ht) (hl b)⟩
  obtain⟨l,rfl,hl⟩:=this es IV h2
  refine⟨.mk o m l,by rw[Tm.B4], ?_⟩
  rw[Tm.bK]
  exact⟨by have:=pR;simp at h1;simp only[Tm.kids];omega,hl⟩
theorem ai0{x:D}(h:D.lr Tryz.prog x 55):∃t:Tm,x=t.d/\t.fits:=Qn _ x (Nat.le_refl _) h
end Go.Proofs.YtnkamdiiakdkgaaGreat
end
section
namespace Go.Proofs.YtnkamdiiakdkgaaGreat
open Go.ChangeShapes Go.WideShapes Go.RowKit
theorem Xi{x:D}(h:D.lr Tryz.prog x 49):∃l:List Tm,x= .sl (l.map Tm.d)/\l.length<=9223372036854775807/\∀t∈l,t.fits:=by
 obtain⟨es,rfl,h1,h2⟩:=sP undT_49 h
 obtain⟨l,rfl,hl⟩:=pj (fun x h=>ai0 h) es h2
 have:=pR
 exact⟨l,rfl,by simp at h1;omega,hl⟩
structure Rl.Fits (r:Rl):Prop where
 aC:r.aC.length<=9223372036854775807
 all:∀t∈r.aC,t.fits
 rhs:r.rhs.fits
theorem ai1{x:D}(h:D.lr Tryz.prog x 57):∃r:Rl,x=r.d/\r.Fits:=by
 obtain⟨cs,rfl,hh⟩:=sQ aK (ls:=[3,49,53,3,49,3]) aK h
 clear h;have h:=hh;clear hh
 obtain⟨a,cs,rfl,ha,h⟩:=cD h
 obtain⟨b,cs,rfl,hb,h⟩:=cD h
 obtain⟨c,cs,rfl,hc,h⟩:=cD h
 obtain⟨d,cs,rfl,hd,h⟩:=cD h
 obtain⟨e,cs,rfl,he,h⟩:=cD h
 obtain⟨f,cs,rfl,hf,h⟩:=cD h
 have:=mT h;subst this
 obtain⟨m,rfl⟩:=FC ha
 obtain⟨l,rfl,l1,l2⟩:=Xi hb
 obtain⟨o,rfl⟩:=agE hc
 obtain⟨n,rfl⟩:=FC hd
 obtain⟨k,rfl,k1,k2⟩:=Xi he
 obtain⟨v,rfl⟩:=FC hf
 exact⟨⟨m,l, .mk o n k,v⟩,rfl,⟨l1,l2,(Tm.bK _).2 ⟨k1,k2⟩⟩⟩
structure Pg.Fits (p:Pg):Prop where
 sig:p.sig.Fits
 len:p.rules.length<=9223372036854775807
 all:∀r∈p.rules,r.Fits
theorem ai2{x:D}(h:D.lr Tryz.prog x 27):∃p:Pg,x=p.d/\p.Fits:=by
 obtain⟨cs,rfl,hh⟩:=sQ aK (ls:=[22,22,25]) aK h
 clear h;have h:=hh;clear hh
 obtain⟨a,cs,rfl,ha,h⟩:=cD h
 obtain⟨b,cs,rfl,hb,h⟩:=cD h
 obtain⟨c,cs,rfl,hc,h⟩:=cD h
 have:=mT h;subst this
 obtain⟨es,rfl,h1,h2⟩:=sP undT_22 ha
 obtain⟨l,rfl,hl⟩:=pj (fun x h=>agF h) es h2
 obtain⟨es',rfl,h3,h4⟩:=sP undT_22 hb
 obtain⟨l',rfl,RZ⟩:=pj (fun x h=>agF h) es' h4
 obtain⟨es2,rfl,h5,h6⟩:=sP (e:=57) aK hc
 obtain⟨q,rfl,hq⟩:=pj (fun x h=>ai1 h) es2 h6
 have:=pR
 exact⟨⟨⟨l,l'⟩,q⟩,rfl,⟨⟨by simp at h1;simp only;omega,by simp at h3;simp only;omega,hl,RZ⟩,by simp at h5;simp only;omega,hq⟩⟩
end Go.Proofs.YtnkamdiiakdkgaaGreat
end
namespace Go.Proofs.YtnkamdiiakdkgaaGreat
def eV(l:List Tm):Bool:=decide (l.length<=6)&&l.all ma
def jF(p:Pg):Bool:=(jj p.sig&&decide (p.rules.length<=20))&&p.rules.all fun r=>eV r.aC&&ma r.rhs
theorem Mk{p:Pg}(hf:p.Fits)(h:jF p=true):p.Fin/\JZ p:=by
 simp only[jF,eV,Bool.and_eq_true,decide_eq_true_eq,List.all_eq_true,xX]at h
 obtain⟨_,h⟩:=h
 refine⟨⟨hf.sig,hf.len,fun r hr=> ?_⟩,fun r hr=> ?_⟩
 ·obtain⟨⟨a,b⟩,c⟩:=h r hr
  have zd:=hf.all r hr
  exact⟨ae,fun t ht=>⟨zd.all t ht,by have:=(b t ht).2;omega⟩,⟨zd.rhs,by have:=c.2;omega⟩⟩
 ·obtain⟨⟨a,b⟩,c⟩:=h r hr
  exact⟨a,fun t ht=>(b t ht).1,c.1⟩
end Go.Proofs.YtnkamdiiakdkgaaGreat
namespace Go.Proofs.YtnkamdiiakdkgaaGreat
def A0(s:cB)(n:Int)(p:Tm):Bool:=(gD s p&&((iq p []).2&&iQ p))&&fi n p
theorem A1(s:cB)(r:Rl):gY s r=((ll s r&&gD s r.rhs)&&r.aC.all (A0 s r.vars)&&(HL r.aC&&fi r.vars r.rhs&&ud r.rhs (cl (.mk 0 0 r.aC)))):=rfl
set_option maxHeartbeats 1000000 in
theorem aaZ(s:cB)(hs:s.Fits)(r:Rl)(hp:Qg r.aC)(hf:r.rhs.fits)(hz:r.rhs.sz<=500):aW Tryz.prog 78 [s.d,r.d] (.ret [.bool (gY s r)]):=by
 have vL:=hp.len
 have hlf:=hs.lf
 have hrc:r.rhs.HB:=Tm.HB.HP hf ae
 refine aW.aI mix aiC aJ ?_
 rw[c78]
 have fin:(ll s r&&gD s r.rhs)=false->gY s r=false:=fun h=>by rw[A1,h];rfl
 refine Rr ?_
 refine aY (Dg _ _ _) rfl ?_
 cases f1:ft r.fn 0 ((s.bX.length:Int) - 1)with
 |false=>
  have e:gY s r=false:=fin (by
   have:ll s r=false:=by
    simp only[ft,Bool.and_eq_false_iff,decide_eq_false_iff_not]at f1
    unfold ll
    by_cases h:0<=r.fn
    ·rw[List.getElem?_eq_none (by omega:s.bX.length<=r.fn.toNat)];simp
    ·rw[decide_eq_false h];rfl
   rw[this];rfl)
  refine Rr ?_
  exact UI
 |true=>
 obtain⟨h0,x,hx⟩:=Bd f1
 have Fc:ll s r=((r.aC.length:Int)==x.args&&decide (0<=r.vars)&&decide (r.vars<=20)):=by
  unfold ll;rw[hx];simp[h0]
 cases f2:((r.aC.length:Int)!=x.args)with
 |true=>
  have e:gY s r=false:=fin (by
   have:((r.aC.length:Int)==x.args)=false:=by simpa using f2
   rw[Fc,this];rfl)
  exact X8
 |false=>
 have JS:((r.aC.length:Int)==x.args)=true:=by simpa using f2
 refine zy (ak hx f2) ?_
 refine aY (Dg _ _ _) rfl ?_
 cases f3:ft r.vars 0 20 with
 |false=>
  have e:gY s r=false:=fin (by
   have:(decide (0<=r.vars)&&decide (r.vars<=20))=false:=f3
   rw[Fc,Bool.and_assoc ((r.aC.length:Int)==x.args),this];simp)
  exact X8
 |true=>
 have f3':(decide (0<=r.vars)&&decide (r.vars<=20))=true:=f3
 refine zy (ak hx f2) ?_
 refine aY (Pw s hs r.rhs hf) rfl ?_
 cases f4:gD s r.rhs with
 |false=>
  have e:gY s r=false:=fin (by rw[f4];simp)
  exact X8
 |true=>
 have hh:ll s r=true:=by rw[Fc,JS,Bool.true_and,f3']
 refine zy (ak hx f2) ?_
 refine aB (aD rfl) ?_
 refine ba ?_
 rw[A1,hh,f4,Bool.true_and,Bool.true_and]
 refine aw (fun k:Nat=>⟨aT [.ag, .ag, .ptr 0 0, .ptr 1 0, .ag, .d (.i k)],Ck s.row r.row,2⟩)
  (fun k=>k<=r.aC.length/\(r.aC.take k).all (A0 s r.vars)=true) (fun k=>r.aC.length - k) 0 ⟨Nat.zero_le _,aJ⟩ (aZ.d2 _ (im rfl rfl) ae rfl rfl ?_) (fun k hk=> ?_)
 ·exact bZ
 refine mW ?_
 refine aj (fun h2=> ?_) (fun h2=> ?_)
 ·simp at h2
  obtain⟨y,hy⟩:=az h2
  have hym:=List.mem_of_getElem? hy
  have MS:=hp.all y hym
  refine dY hy ?_
  refine aY (Pw s hs y MS.1) rfl ?_
  cases g1:gD s y with
  |false=>
   refine dY hy ?_
   refine aB (aD rfl) ?_
   refine ba ?_
   rw[db hy (by rw[A0,g1];rfl)];rfl
  |true=>
  refine dY hy ?_
  refine aY (Me y (hp.cnt hym)) rfl ?_
  cases g2:((iq y []).2&&iQ y)with
  |false=>
   refine dY hy ?_
   refine aB (aD rfl) ?_
   refine ba ?_
   rw[db hy (by rw[A0,g1,g2];rfl)];rfl
  |true=>
  refine dY hy ?_
  refine aY (Fk r.vars y MS.1) rfl ?_
  cases g3:fi r.vars y with
  |false=>
   refine dY hy ?_
   refine aB (aD rfl) ?_
   refine ba ?_
   rw[db hy (by rw[A0,g1,g2,g3];rfl)];rfl
  |true=>
  refine dY hy ?_
  refine aB (aD rfl) ?_
  refine ba ?_
  refine ai (k+1) ⟨h2,gv hy hk.2 (by rw[A0,g1,g2,g3];rfl)⟩ ae (aZ.d2 _ (im rfl rfl) ae rfl rfl ?_)
  exact bZ
 ·simp at h2
  rw[fF hk.2 h2,Bool.true_and]
  refine mW ?_
  refine aY (Qh r.aC hp) rfl ?_
  cases g1:HL r.aC with
  |false=>
   exact Yh
  |true=>
  refine mW ?_
  refine aY (Fk r.vars r.rhs hf) rfl ?_
  cases g2:fi r.vars r.rhs with
  |false=>
   exact Yh
  |true=>
  refine mW ?_
  refine cf (Fl r.aC) ?_
  refine mW ?_
  refine cf (wa _ hp.whole) ?_
  refine mW ?_
  refine aY (Tq r.rhs hrc _ ?_) rfl ?_
  ·have:=mP (.mk 0 0 r.aC);have:=hp.iT;rw[Tm.Xc]at*;omega
  exact Yh
structure Pg.Fw (p:Pg):Prop where
 sig:p.sig.Fits
 len:p.rules.length<=1000
 all:∀r∈p.rules,Qg r.aC/\r.rhs.fits/\r.rhs.sz<=500
theorem Ts(p:Pg)(hp:p.Fw):aW Tryz.prog 43 [p.d] (.ret [.bool (dJ p)]):=by
 have hl:=hp.len
 refine aW.aI mix aij aJ ?_
 rw[c43,dJ]
 refine mW ?_
 refine aF (ago p.sig hp.sig) rfl ?_
 cases h1:ke p.sig with
 |false=>
  exact ack
 |true=>
 cases h2:decide (16<(p.rules.length:Int))with
 |true=>
  have tF:decide (p.rules.length<=16)=false:=by simp at h2|-;omega
  refine dY h2 ?_
  rw[tF];rfl
 |false=>
 have tF:decide (p.rules.length<=16)=true:=by simp at h2|-;omega
 refine dY h2 ?_
 rw[tF,Bool.true_and,Bool.true_and]
 refine aw (fun k:Nat=>⟨aT [.ag, .ptr 0 0, .ag, .d (.i k)],jS p.row,1⟩)
  (fun k=>k<=p.rules.length/\(p.rules.take k).all (gY p.sig)=true) (fun k=>p.rules.length - k) 0 ⟨Nat.zero_le _,aJ⟩ (aZ.d1 _ (bt rfl) ae rfl ?_) (fun k hk=> ?_)
 ·exact bZ
 refine mW ?_
 refine aj (fun h2=> ?_) (fun h2=> ?_)
 ·simp at h2
  obtain⟨y,hy⟩:=az h2
  have MS:=hp.all y (List.mem_of_getElem? hy)
  refine dY hy ?_
  refine aY (aaZ p.sig hp.sig y MS.1 MS.2.1 MS.2.2) rfl ?_
  cases g1:gY p.sig y with
  |false=>
   refine dY hy ?_
   refine aB (aD rfl) ?_
   refine ba ?_
   rw[db hy g1]
  |true=>
  refine dY hy ?_
  refine aB (aD rfl) ?_
  refine ba ?_
  refine ai (k+1) ⟨h2,gv hy hk.2 g1⟩ ae (aZ.d1 _ (bt rfl) ae rfl ?_)
  exact bZ
 ·simp at h2
  rw[fF hk.2 h2]
  exact ur
theorem HT(l:List Tm)(hl:l.length<=9223372036854775807)(hf:∀t∈l,t.fits):aW Tryz.prog 60 [.sl (l.map Tm.d)] (.ret [.bool (eV l)]):=by
 refine aW.aI mix aiu aJ ?_
 rw[c60]
 refine ba ?_
 refine aw (fun k:Nat=>⟨aT [.d (.sl (l.map Tm.d)), .ag, .ag, .d (.i k)],fun _=> .no,0⟩)
  (fun k=>k<=l.length/\(l.take k).all ma=true) (fun k=>l.length - k) 0 ⟨Nat.zero_le _,aJ⟩ (aZ.d0 _ ?_) (fun k hk=> ?_)
 ·exact bZ
 refine mW ?_
 refine aj (fun h2=> ?_) (fun h2=> ?_)
 ·simp at h2
  obtain⟨y,hy⟩:=az (l:=l) (k:=k) ae
  have MS:=hf y (List.mem_of_getElem? hy)
  refine dY hy ?_
  refine aF (JJ y MS) rfl ?_
  cases g1:ma y with
  |false=>
   refine dY hy ?_
   rw[eV,db hy g1,Bool.and_false]
  |true=>
  refine dY hy ?_
  refine ai (k+1) ⟨ae,gv hy hk.2 g1⟩ ae (aZ.d0 _ ?_)
  exact bZ
 ·refine mW ?_
  congr 3
  by_cases h3:l.length<=6
  ·have h4:l.length<=k:=by simp at h2;omega
   rw[eV,fF hk.2 h4]
   simp;omega
  ·rw[eV,decide_eq_false h3]
   simp;omega
theorem Ml(p:Pg)(hp:p.Fits):aW Tryz.prog 34 [p.d] (.ret [.bool (jF p)]):=by
 have hl:=hp.len
 let q:Rl->Bool:=fun r=>eV r.aC&&ma r.rhs
 have hq:jF p=((jj p.sig&&decide (p.rules.length<=20))&&p.rules.all q):=rfl
 refine aW.aI mix aic aJ ?_
 rw[c34,hq]
 refine ba ?_
 refine aw (fun k:Nat=>⟨aT [.ag, .ptr 0 0, .ag, .d (.i k)],jS p.row,1⟩)
  (fun k=>k<=p.rules.length/\(p.rules.take k).all q=true) (fun k=>p.rules.length - k) 0 ⟨Nat.zero_le _,aJ⟩ (aZ.d1 _ (bt rfl) ae rfl ?_) (fun k hk=> ?_)
 ·exact bZ
 refine mW ?_
 refine aj (fun h2=> ?_) (fun h2=> ?_)
 ·simp at h2
  obtain⟨y,hy⟩:=az (l:=p.rules) (k:=k) ae
  have MS:=hp.all y (List.mem_of_getElem? hy)
  have hqy:q y=(eV y.aC&&ma y.rhs):=rfl
  refine dY hy ?_
  refine aF (HT y.aC MS.aC MS.all) rfl ?_
  cases g1:eV y.aC with
  |false=>
   refine dY hy ?_
   rw[db hy (by rw[hqy,g1];rfl),Bool.and_false]
  |true=>
  refine dY hy ?_
  refine aF (JJ y.rhs MS.rhs) rfl ?_
  cases g2:ma y.rhs with
  |false=>
   refine dY hy ?_
   rw[db hy (by rw[hqy,g1,g2];rfl),Bool.and_false]
  |true=>
  refine dY hy ?_
  refine ai (k+1) ⟨ae,gv hy hk.2 (by rw[hqy,g1,g2];rfl)⟩ ae (aZ.d1 _ (bt rfl) ae rfl ?_)
  exact bZ
 ·refine mW ?_
  refine aF (Hw p.sig hp.sig) rfl ?_
  cases g1:jj p.sig with
  |false=>exact ack
  |true=>
  refine mW ?_
  congr 3
  by_cases h3:p.rules.length<=20
  ·have h4:p.rules.length<=k:=by simp at h2;omega
   rw[fF hk.2 h4]
   simp;omega
  ·rw[decide_eq_false h3]
   simp;omega
theorem Mm{p:Pg}(hf:p.Fits)(h:jF p=true):p.Fw:=by
 simp only[jF,eV,Bool.and_eq_true,decide_eq_true_eq,List.all_eq_true,xX]at h
 obtain⟨⟨_,hl⟩,h⟩:=h
 refine⟨hf.sig,ae,fun r hr=> ?_⟩
 obtain⟨⟨a,b⟩,c⟩:=h r hr
 have zd:=hf.all r hr
 exact⟨⟨ae,fun t ht=>⟨zd.all t ht,by have:=(b t ht).1;omega⟩⟩,zd.rhs,ae⟩
end Go.Proofs.YtnkamdiiakdkgaaGreat
