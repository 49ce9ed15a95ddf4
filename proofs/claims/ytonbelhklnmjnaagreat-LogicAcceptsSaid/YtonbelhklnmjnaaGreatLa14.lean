/-
  A PART OF THE PROOF. Conditions: none.
-/
import Derived.Test.YtonbelhklnmjnaaGreatLa13
set_option linter.unusedSimpArgs false
set_option linter.unusedVariables false
namespace Go.Proofs.YtonbelhklnmjnaaGreat
attribute [go_sem_proc] Int.reduceBEq Int.reduceBNe Int.reduceLT Int.reduceLE Int.reduceEq Int.reduceNe Nat.reducePow Nat.reduceEqDiff Nat.reduceAdd Nat.reduceSub Nat.reduceMul Nat.reduceLeDiff Nat.reduceBEq Nat.reduceLT reduceIte reduceCtorEq Int.reduceToNat
attribute [go_sem] List.range_zero Option.isSome_some and_self List.cons.injEq
theorem wa(n low high:Int):aR Tryz.prog 135 [.i n, .i low, .i high] (.ret [.bool (cP n low high)]):=by
 refine aR.ay mix abq au ?_
 rw[abp]
 refine b7 ?_
 rfl
theorem Dd{t:Tm}{left depth:Int}(h:left<1\/depth<1):ez t left depth= -1:=by cases t;simp[ez,h]
theorem pW{l:List Tm}{left depth:Int}(h:left<0):ct l left depth=left:=by
 cases l with
 |nil=>rfl
 |cons k l=>simp[ct,show ¬ (0<=left) by omega]
theorem LS:∀t:Tm,∀left depth:Int, -1<=ez t left depth/\(1<=left->ez t left depth<=left - 1)/\(left<1->ez t left depth= -1):=by
 refine Tm.ind fun op n kids ih left depth=> ?_
 have hs:∀ (l:List Tm) (left d:Int),(∀k∈l,k∈kids)-> -1<=left-> -1<=ct l left d/\ct l left d<=left:=by
  intro l
  induction l with
  |nil=>intro left d _ h;simp[ct,h]
  |cons k l pX=>
   intro left d hk h
   simp only[ct]
   split
   ·rename_i h0
    have h1:=ih k (hk k au) left d
    have h2:=pX (ez k left d) d (fun x hx=>hk x mf) h1.1
    by_cases hl:1<=left
    ·have:=h1.2.1 hl;omega
    ·have:=h1.2.2 ad;omega
   ·omega
 simp only[ez]
 split
 ·rename_i h;refine⟨ad,fun h1=> ?_,fun _=>rfl⟩;omega
 ·rename_i h
  have:=hs kids (left - 1) (depth - 1) (fun _ h=>h) ad
  exact⟨this.1,fun _=>this.2,fun h=>ad⟩
theorem yV(l:List Tm)(left d:Int)(h: -1<=left): -1<=ct l left d/\ct l left d<=left:=by
 induction l generalizing left with
 |nil=>simp[ct,h]
 |cons k l pX=>
  simp only[ct]
  split
  ·have h1:=LS k left d
   have h2:=pX (ez k left d) h1.1
   by_cases hl:1<=left
   ·have:=h1.2.1 hl;omega
   ·have:=h1.2.2 ad;omega
  ·omega
theorem pt(a b:List Tm)(left d:Int):ct (a++b) left d=ct b (ct a left d) d:=by
 induction a generalizing left with
 |nil=>rfl
 |cons k a ih=>
  simp only[List.cons_append,ct]
  split
  ·exact ih _
  ·rename_i h;rw[pW (by omega)]
theorem tG{l:List Tm}{i:Nat}{k:Tm}(hi:l[i]? =some k)(left d:Int)(h:0<=ct (l.take i) left d):ct (l.take (i+1)) left d=ez k (ct (l.take i) left d) d:=by
 rw[List.take_add_one,hi,pt]
 simp[ct,h]
theorem tH{l:List Tm}{i:Nat}(left d:Int)(h:ct (l.take i) left d<0):ct l left d=ct (l.take i) left d:=by
 conv=>lhs;rw[<- List.take_append_drop i l]
 rw[pt,pW h]
@[reducible] def fb (cs:List V):Nat->ae:=aK (fun _=> .no) 0 (.row cs)
@[reducible] def pY (cs ds:List V):Nat->ae:=aK (aK (fun _=> .no) 0 (.row cs)) 1 (.row ds)
theorem aU{cs:List V}(h:(ae.row cs).refs.all (fun r=>decide (r<1))=true):Good (fb cs) 1:=(Good.nil (nx:=1)).aK ad h
theorem cR{cs ds:List V}(h:(ae.row cs).refs.all (fun r=>decide (r<2))=true)(h2:(ae.row ds).refs.all (fun r=>decide (r<2))=true):Good (pY cs ds) 2:=((Good.nil (nx:=2)).aK ad h).aK ad h2
theorem bE.d1 {e:Nat->V}{so o:Nat->ae}{m:Nat}(l:List V)(hg:Good o 1)(hm:1<=m)(h0:so 0=o 0)(he:kD 1 e l 0):bE 0 ⟨e,so,m⟩ ⟨bz l,o,1⟩:=
 bE.bS l (Nat.zero_le _) hm hg (fun id h=>by obtain rfl:id=0:=ad
                                             exact h0) he
theorem bE.d2 {e:Nat->V}{so o:Nat->ae}{m:Nat}(l:List V)(hg:Good o 2)(hm:2<=m)(h0:so 0=o 0)(h1:so 1=o 1)(he:kD 2 e l 0):bE 0 ⟨e,so,m⟩ ⟨bz l,o,2⟩:=
 bE.bS l (Nat.zero_le _) hm hg (fun id h=>by
  rcases(by omega:id=0\/id=1)with rfl|rfl
  ·exact h0
  ·exact h1) he
@[reducible] def Tm.row (t:Tm):List V:=[.d (.i t.op), .d (.i t.n), .d (.sl (t.kids.map Tm.d))]
theorem wb(t:Tm)(left depth:Int):ez t left depth=if left<1\/depth<1 then -1 else ct t.kids (left - 1) (depth - 1):=by cases t;simp[ez,Tm.kids]
theorem uI:∀t:Tm,t.fits->∀left depth:Int, -1<=left/\left<=1000000-> -1<=depth/\depth<=1000000->aR Tryz.prog 63 [t.d, .i left, .i depth] (.ret [.i (ez t left depth)]):=by
 refine Tm.cB fun t ih hf left depth hl hd=> ?_
 have fy:=(Tm.aJ _).1 hf
 refine aR.ay mix aaD au ?_
 rw[c63]
 refine b7 ?_
 refine aq (fun h1=> ?_) (fun h1=> ?_)
 ·refine b7 ?_
  simp at h1
  rw[Dd h1]
 ·simp at h1
  refine b7 ?_
  rw[wrap64 (n:=left - 1) (by omega) (by omega),wb,if_neg (by omega)]
  refine aE (fun k:Nat=>⟨bz [.aa, .d (.i (ct (t.kids.take k) (left - 1) (depth - 1))), .d (.i depth), .ptr 0 0, .aa, .aa, .aa, .d (.i k)],fb t.row,1⟩)
   (fun k=>k<=t.kids.length) (fun k=>t.kids.length - k) 0 (Nat.zero_le _) (bE.d1 _ (aU rfl) ad rfl ?_) (fun k hk=> ?_)
  ·exact cz
  have hb:=yV (t.kids.take k) (left - 1) (depth - 1) ad
  refine b7 ?_
  refine aq (fun h2=> ?_) (fun h2=> ?_)
  ·simp at h2
   obtain⟨x,hx⟩:∃x,t.kids[k]? =some x:=⟨t.kids[k],by simp[h2.1]⟩
   have cw:=List.mem_of_getElem? hx
   refine eZ hx ?_
   rw[wrap64 (n:=depth - 1) (by omega) (by omega)]
   refine ag (ih x cw (fy.2 x cw) _ _ ad ad) rfl ?_
   refine b7 ?_
   rw[<- tG hx _ _ h2.2]
   refine ax (k+1) h2.1 ad (bE.d1 _ (aU rfl) ad rfl ?_)
   exact cz
  ·refine b7 ?_
   simp only[Bool.and_eq_false_iff,decide_eq_false_iff_not]at h2
   congr 3
   rcases h2 with h2|h2
   ·rw[List.take_of_length_le (by omega)]
   ·exact tH _ _ ad
theorem Xc(s:List UInt8)(hs:s.length<=9223372036854775807):aR Tryz.prog 193 [.str s] (.ret [.bool (kE s)]):=by
 refine aR.ay mix ab5 au ?_
 rw[ab4]
 refine b7 ?_
 refine aE (fun k:Nat=>⟨bz [.d (.str s), .aa, .aa, .d (.i k)],fun _=> .no,0⟩)
  (fun k=>k<=s.length/\(s.take k).all letterF=true) (fun k=>s.length - k) 0 ⟨Nat.zero_le _,au⟩ (bE.d0 _ ?_) (fun k hk=> ?_)
 ·exact cz
 refine b7 ?_
 refine aq (fun h2=> ?_) (fun h2=> ?_)
 ·simp at h2
  obtain⟨x,hx⟩:∃x,s[k]? =some x:=⟨s[k],by simp[h2]⟩
  refine eZ hx ?_
  refine aq (fun h3=> ?_) (fun h3=> ?_)
  ·refine b7 ?_
   have:kE s=false:=by
    have:s.all letterF=false:=by
     rw[List.all_eq_false]
     refine⟨x,List.mem_of_getElem? hx, ?_⟩
     simp only[letterF,h3];simp
    simp[kE,this]
   rw[this]
  ·refine b7 ?_
   refine ax (k+1) ⟨h2, ?_⟩ ad (bE.d0 _ ?_)
   ·rw[List.take_add_one,hx,List.all_append,hk.2]
    simp[letterF,h3]
   ·exact cz
 ·refine b7 ?_
  refine ag (wa _ _ _) rfl ?_
  refine b7 ?_
  simp at h2
  have:=hk.2
  rw[List.take_of_length_le (by omega)]at this
  simp[kE,this]
theorem GI(l:List jW)(bs:List (List UInt8))(hl:l.length<=1000)(hb:bs.length<=1000)(hs:∀x∈l,x.name.length<=9223372036854775807):
 aR Tryz.prog 136 [.sl (l.map jW.d), .sl (bs.map .str)] (.ret [.sl (((cC l bs).getD []).map .str), .bool (cC l bs).isSome]):=by
 refine aR.ay mix abt au ?_
 rw[abr]
 refine b7 ?_
 refine aE (fun k:Nat=>⟨bz [.d (.sl (l.map jW.d)), .d (.sl ((bs++(l.take k).map (·.name)).map .str)), .aa, .aa, .aa, .aa, .d (.i k)],fun _=> .no,0⟩)
  (fun k=>k<=l.length/\cC l bs=cC (l.drop k) (bs++(l.take k).map (·.name))) (fun k=>l.length - k) 0 ⟨Nat.zero_le _,au⟩ (bE.d0 _ ?_) (fun k hk=> ?_)
 ·simp only[List.take_zero,List.map_nil,List.append_nil]
  exact cz
 refine b7 ?_
 refine aq (fun h2=> ?_) (fun h2=> ?_)
 ·simp at h2
  obtain⟨x,hx⟩:∃x,l[k]? =some x:=⟨l[k],by simp[h2]⟩
  have cw:=List.mem_of_getElem? hx
  have CG:l.drop k=x::l.drop (k+1):=by
   rw[List.drop_eq_getElem_cons h2]
   rw[List.getElem?_eq_getElem h2]at hx;injection hx with hx;rw[hx]
  generalize hB:bs++(l.take k).map (·.name)=B at*
  have hBl:B.length<=2000:=by rw[<- hB];simp;omega
  refine b7 ?_
  refine aE (fun j:Nat=>⟨bz [.d (.sl (l.map jW.d)), .d (.sl (B.map .str)), .aa, .aa, .aa, .aa, .d (.i k), .d (.i j)],fun _=> .no,0⟩)
   (fun j=>j<=B.length/\(B.take j).any (· ==x.name)=false) (fun j=>B.length - j) 0 ⟨Nat.zero_le _,au⟩ (bE.d0 _ ?_) (fun j hj=> ?_)
  ·exact cz
  refine b7 ?_
  refine aq (fun h3=> ?_) (fun h3=> ?_)
  ·simp at h3
   obtain⟨y,hy⟩:∃y,B[j]? =some y:=⟨B[j],by simp[h3]⟩
   refine zQ hx hy ?_
   refine ai aT ?_
   refine b7 ?_
   refine aq (fun h4=> ?_) (fun h4=> ?_)
   ·refine b7 ?_
    have:cC l bs=none:=by
     rw[hk.2,CG,cC,if_pos]
     rw[List.any_eq_true]
     exact⟨y,List.mem_of_getElem? hy,h4⟩
    rw[this];rfl
   ·refine b7 ?_
    refine ax (j+1) ⟨h3, ?_⟩ ad (bE.d0 _ ?_)
    ·rw[List.take_add_one,hy,List.any_append,hj.2]
     simp only[Option.toList_some,List.any_cons,h4,List.any_nil,Bool.or_false]
    ·exact cz
  ·simp at h3
   have Xd:=hj.2
   rw[List.take_of_length_le (by omega)]at Xd
   refine eZ hx ?_
   refine ag (Xc x.name (hs x cw)) rfl ?_
   refine eZ hx ?_
   refine gR (fD [.bool (cP x.args 0 4)] ?_ ?_)
   ·refine b7 ?_
    exact fun _=>wa _ _ _
   refine b7 ?_
   refine aq (fun h4=> ?_) (fun h4=> ?_)
   ·refine b7 ?_
    have:cC l bs=none:=by
     rw[hk.2,CG,cC,if_neg (by rw[Xd];exact Bool.false_ne_true),if_pos h4]
    rw[this];rfl
   ·have e1:B.length<=140737488355328:=ad
    have e2:B.length*16<=140737488355328:=ad
    have e3:B.length<=140737488355327:=ad
    have e4:(B.length+1)*16<=140737488355328:=ad
    simp+contextual only[go_sem,hx,e1,e2,e3,e4]
    refine ai aT ?_
    refine b7 ?_
    have hn:cC l bs=cC (l.drop (k+1)) (bs++(l.take (k+1)).map (·.name)):=by
     rw[hk.2,CG,cC,if_neg (by rw[Xd];exact Bool.false_ne_true),if_neg (by rw[h4];exact Bool.false_ne_true), <- hB,List.take_add_one,hx]
     simp
    refine ax (k+1) ⟨h2,hn⟩ ad (bE.acI (fun _=>True) 0 _ (Nat.le_refl _) lt0 (fun _ _=>rfl) (fun _ _ _=>rfl) ?_)
    have hB2:(bs++(l.take (k+1)).map (·.name)).map D.str=B.map D.str++[D.str x.name]:=by
     rw[<- hB,List.take_add_one,hx];simp
    rw[hB2]
    exact nj
 ·refine b7 ?_
  simp at h2
  have:cC l bs=some (bs++l.map (·.name)):=by
   rw[hk.2,List.drop_eq_nil_of_le (by omega),cC,List.take_of_length_le (by omega)]
  rw[this,List.take_of_length_le (by omega)]
  rfl
theorem Xe(a b:List UInt8)(m n:Int):rR Tryz.prog 100 104 (.agg [.str a, .i m]) (.agg [.str b, .i n])=some (a==b&&m==n):=by
 have h1:cy Tryz.prog 104=some (.struct [(9,0),(3,1)]):=ah
 have h2:cy Tryz.prog 9=some .str:=ah
 have h3:cy Tryz.prog 3=some .int:=ah
 have h4:dB Tryz.prog 9=some false:=ah
 have h5:dB Tryz.prog 3=some false:=ah
 simp[rR,h1,h2,h3,h4,h5,BQ,Ui,kq,Kh]
@[go_sem] theorem aeY (o:Nat->ae) (pD:Bool) (a b:List UInt8) (m n:Int):qx Tryz.prog o 104 pD (.d (.agg [.str a, .i m])) (.d (.agg [.str b, .i n]))=some (.d (.bool (a==b&&m==n))):=by
  obtain⟨fs,h⟩:∃fs,Tryz.prog.underlying 104=some (.struct fs):=structOf ah
  have h2:Tryz.prog.eqGuardType Tryz.prog.depth 104=false:=ah
  unfold qx
  rw[h]
  dsimp only
  rw[if_pos h2,Xe]
  rfl
theorem IF{l:List jW}{bs B:List (List UInt8)}(h:cC l bs=some B):B=bs++l.map (·.name):=by
 induction l generalizing bs with
 |nil=>simp[cC]at h;simp[h]
 |cons x l ih=>
  simp only[cC]at h
  split at h
  ·cases h
  ·split at h
   ·cases h
   ·rw[ih h];simp
structure ba.Fits (s:ba):Prop where
 lc:s.cons.length<=9223372036854775807
 lf:s.bZ.length<=9223372036854775807
 nc:∀x∈s.cons,x.name.length<=9223372036854775807
 nf:∀x∈s.bZ,x.name.length<=9223372036854775807
theorem acL(s:ba)(hs:s.Fits):aR Tryz.prog 100 [s.d] (.ret [.bool (kF s)]):=by
 refine aR.ay mix aaU au ?_
 rw[aaT]
 refine b7 ?_
 refine ag (wa _ _ _) rfl ?_
 refine b7 ?_
 cases h1:(!cP s.cons.length 2 12||decide (8<(s.bZ.length:Int)))with
 |true=>
  refine eZ h1 ?_
  simp only[kF,h1,if_true]
 |false=>
  simp[cP]at h1
  obtain⟨a,b,r,hc⟩:∃a b r,s.cons=a::b::r:=by
   match h:s.cons with
   |[]=>exact Ob
   |[a]=>exact Ob
   |a::b::r=>exact⟨a,b,r,rfl⟩
  have bJ:(!cP s.cons.length 2 12||decide (8<(s.bZ.length:Int)))=false:=by simp[cP];omega
  refine zQ bJ hc ?_
  have IG:kF s=if(!m9 a fB|| !m9 b tB)=true then false else match cC s.cons []with
   |none=>false
   |some l=>(cC s.bZ l).isSome:=by
   unfold kF
   rw[if_neg (by rw[bJ];exact Bool.false_ne_true),hc]
   dsimp only
   rfl
  refine aq (fun h2=> ?_) (fun h2=> ?_)
  ·refine b7 ?_
   have iR:(!m9 a fB|| !m9 b tB)=true:=h2
   rw[IG,if_pos iR]
  ·refine eZ hc ?_
   have hl:(a::b::r).length<=1000:=by rw[<- hc];omega
   have hnm:=GI (a::b::r) [] hl au (by rw[<- hc];exact hs.nc)
   simp only[List.map_cons,List.map_nil]at hnm
   refine aO hnm ?_
   have iR:(!m9 a fB|| !m9 b tB)=false:=h2
   rw[IG,if_neg (by rw[iR];exact Bool.false_ne_true),hc]
   cases hn:cC (a::b::r) []with
   |none=>simp+contextual only[go_sem,hn]
   |some B=>
    refine eZ hn ?_
    have hB:B.length<=1000:=by
     have:=IF hn
     rw[this];simp at hl|-;omega
    have aeZ:=GI s.bZ B ad hB hs.nf
    refine aO aeZ ?_
    exact NW
theorem fl{l:List jW}{n:Int}{x:jW}(h:l[n.toNat]? =some x):dq l n=x.args:=by simp[dq,h]
theorem gK{l:List jW}{n:Int}(h:cP n 0 (l.length - 1)=true):0<=n/\∃x,l[n.toNat]? =some x:=by
 simp[cP]at h
 exact⟨h.1,l[n.toNat]'ad,au⟩
theorem Xf(s:ba)(t:Tm)(hs:s.Fits)(ht:t.kids.length<=9223372036854775807):aR Tryz.prog 142 [s.d,t.d] (.ret [.bool (bC s t)]):=by
 refine aR.ay mix abF au ?_
 rw[abE]
 refine b7 ?_
 rcases(by omega:t.op=1\/t.op=2\/t.op=3\/t.op=4\/t.op=5\/t.op=8\/(t.op=6\/t.op=7\/t.op=9\/t.op=10\/t.op=11\/t.op=12\/t.op=13\/t.op=14\/t.op=15)\/(t.op<1\/15<t.op))with h|h|h|h|h|h|h|h
 ·have hn:bC s t=((t.kids.length:Int)==0&&cP t.n 0 19):=by simp[bC,h]
  refine eZ h ?_
  refine gR (fD [.bool (cP t.n 0 19)] ?_ ?_)
  ·refine b7 ?_
   exact fun _=>wa _ _ _
  refine eZ h ?_
  rw[hn]
 ·have hn:bC s t=((t.kids.length:Int)==0&&cP t.n (-1000000) 1000000):=by simp[bC,h]
  refine eZ h ?_
  refine gR (fD [.bool (cP t.n (-1000000) 1000000)] ?_ ?_)
  ·refine b7 ?_
   exact fun _=>wa _ _ _
  refine eZ h ?_
  rw[hn]
 ·have hn:bC s t=(cP t.n 0 (s.cons.length - 1)&&(t.kids.length:Int)==dq s.cons t.n):=by simp[bC,h]
  refine eZ h ?_
  rw[wrap64 (by have:=hs.lc;omega) (by have:=hs.lc;omega)]
  refine ag (wa _ _ _) rfl ?_
  cases hI:cP t.n 0 (s.cons.length - 1)with
  |false=>
   refine zQ h hI ?_
   rw[hn,hI];rfl
  |true=>
   obtain⟨h0,x,hx⟩:=gK hI
   simp+contextual only[go_sem,h,hI,hx,h0]
   exact xu
 ·have hn:bC s t=(cP t.n 0 (s.bZ.length - 1)&&(t.kids.length:Int)==dq s.bZ t.n):=by simp[bC,h]
  refine eZ h ?_
  rw[wrap64 (by have:=hs.lf;omega) (by have:=hs.lf;omega)]
  refine ag (wa _ _ _) rfl ?_
  cases hI:cP t.n 0 (s.bZ.length - 1)with
  |false=>
   refine zQ h hI ?_
   rw[hn,hI];rfl
  |true=>
   obtain⟨h0,x,hx⟩:=gK hI
   simp+contextual only[go_sem,h,hI,hx,h0]
   exact xu
 ·have hn:bC s t=(cP t.n 0 (s.bZ.length - 1)&&decide ((t.kids.length:Int)<dq s.bZ t.n)):=by simp[bC,h]
  refine eZ h ?_
  rw[wrap64 (by have:=hs.lf;omega) (by have:=hs.lf;omega)]
  refine ag (wa _ _ _) rfl ?_
  cases hI:cP t.n 0 (s.bZ.length - 1)with
  |false=>
   refine zQ h hI ?_
   rw[hn,hI];rfl
  |true=>
   obtain⟨h0,x,hx⟩:=gK hI
   simp+contextual only[go_sem,h,hI,hx,h0]
   exact xu
 ·have hn:bC s t=((t.kids.length:Int)==2&&cP t.n 0 19):=by simp[bC,h]
  refine eZ h ?_
  refine gR (fD [.bool (cP t.n 0 19)] ?_ ?_)
  ·refine b7 ?_
   exact fun _=>wa _ _ _
  refine eZ h ?_
  rw[hn]
 ·have hn:bC s t=((t.kids.length:Int)==2&&t.n==0):=by
   rcases h with h|h|h|h|h|h|h|h|h<;>simp[bC,h,cP]
  rw[hn]
  rcases h with h|h|h|h|h|h|h|h|h<;>simp+contextual only[go_sem,h]
 ·have hn:bC s t=false:=by
   simp[bC,cP,show ¬ (t.op=1) by omega,show ¬ (t.op=2) by omega,show ¬ (t.op=3) by omega,show ¬ (t.op=4) by omega,show ¬ (t.op=5) by omega,show ¬ (t.op=8) by omega,show ¬ (6<=t.op/\t.op<=15) by omega]
  have e:∀k:Int,1<=k->k<=15->(t.op==k)=false:=fun k h1 h2=>by simp;omega
  simp+contextual only[go_sem,e 1 (by omega) (by omega),e 2 (by omega) (by omega),e 3 (by omega) (by omega),e 4 (by omega) (by omega),e 5 (by omega) (by omega),e 6 (by omega) (by omega),e 7 (by omega) (by omega),e 8 (by omega) (by omega),e 9 (by omega) (by omega),e 10 (by omega) (by omega),e 11 (by omega) (by omega),e 12 (by omega) (by omega),e 13 (by omega) (by omega),e 14 (by omega) (by omega),e 15 (by omega) (by omega)]
  rw[hn]
theorem dL(s:ba)(t:Tm):eI s t=(bC s t&&t.kids.all (eI s)):=by
 have:∀l:List Tm,uE s l=l.all (eI s):=fun l=>by
  induction l with
  |nil=>rfl
  |cons k l ih=>simp[uE,ih]
 cases t;simp[eI,this,Tm.kids]
theorem b8{α:Type}{l:List α}{p:α->Bool}{k:Nat}{x:α}(hx:l[k]? =some x)(h:p x=false):l.all p=false:=by
 rw[List.all_eq_false];exact⟨x,List.mem_of_getElem? hx,by rw[h];exact Bool.false_ne_true⟩
theorem cl{α:Type}{l:List α}{p:α->Bool}{k:Nat}{x:α}(hx:l[k]? =some x)(h0:(l.take k).all p=true)(h:p x=true):(l.take (k+1)).all p=true:=by
 rw[List.take_add_one,hx,List.all_append,h0];simp[h]
theorem cm{α:Type}{l:List α}{p:α->Bool}{k:Nat}(h0:(l.take k).all p=true)(h:l.length<=k):l.all p=true:=by
 rwa [List.take_of_length_le h]at h0
theorem aw{α:Type}{l:List α}{k:Nat}(h:k<l.length):∃x,l[k]? =some x:=⟨l[k],by simp[h]⟩
@[reducible] def ba.row (s:ba):List V:=[.d (.sl (s.cons.map jW.d)), .d (.sl (s.bZ.map jW.d))]
theorem PA(s:ba)(hs:s.Fits):∀t:Tm,t.fits->aR Tryz.prog 102 [s.d,t.d] (.ret [.bool (eI s t)]):=by
 refine Tm.cB fun t ih hf=> ?_
 have fy:=(Tm.aJ _).1 hf
 refine aR.ay mix aaY au ?_
 rw[aaX]
 refine b7 ?_
 refine ag (Xf s t hs fy.1) rfl ?_
 refine b7 ?_
 rw[dL]
 refine aq (fun h1=> ?_) (fun h1=> ?_)
 ·refine b7 ?_
  simp at h1;simp[h1]
 ·simp at h1
  rw[h1,Bool.true_and]
  refine b7 ?_
  refine aE (fun k:Nat=>⟨bz [.aa, .aa, .ptr 0 0, .ptr 1 0, .aa, .d (.i k)],pY s.row t.row,2⟩)
   (fun k=>k<=t.kids.length/\(t.kids.take k).all (eI s)=true) (fun k=>t.kids.length - k) 0 ⟨Nat.zero_le _,au⟩ (bE.d2 _ (cR rfl rfl) ad rfl rfl ?_) (fun k hk=> ?_)
  ·exact cz
  refine b7 ?_
  refine aq (fun h2=> ?_) (fun h2=> ?_)
  ·simp at h2
   obtain⟨x,hx⟩:=aw h2
   have cw:=List.mem_of_getElem? hx
   refine eZ hx ?_
   refine ao (ih x cw (fy.2 x cw)) rfl ?_
   refine b7 ?_
   refine ai aT ?_
   refine b7 ?_
   refine aq (fun h3=> ?_) (fun h3=> ?_)
   ·refine b7 ?_
    simp at h3
    rw[b8 hx h3]
   ·refine b7 ?_
    simp at h3
    refine ax (k+1) ⟨h2,cl hx hk.2 h3⟩ ad (bE.d2 _ (cR rfl rfl) ad rfl rfl ?_)
    exact cz
  ·refine b7 ?_
   simp at h2
   rw[cm hk.2 h2]
theorem Ff(s:ba)(hs:s.Fits)(t:Tm)(hf:t.fits):aR Tryz.prog 60 [s.d,t.d] (.ret [.bool (dV s t)]):=by
 refine aR.ay mix aeE au ?_
 rw[c60]
 refine b7 ?_
 refine ag (uI t hf 40 12 ad ad) rfl ?_
 refine b7 ?_
 refine gR (fD [.bool (eI s t)] ?_ ?_)
 ·refine b7 ?_
  exact fun _=>PA s hs t hf
 refine b7 ?_
 rfl
theorem jk:∀l l':List Tm,l.length=l'.length->(gS l l'=true↔∀ (i:Nat) (x y:Tm),l[i]? =some x->l'[i]? =some y->aI x y=true)
 |[],l',_=>by simp[gS]
 |k::l,k'::l',h=>by
  simp only[gS,Bool.and_eq_true]
  rw[jk l l' (by simpa using h)]
  constructor
  ·rintro⟨h1,h2⟩ i x y hx hy
   cases i with
   |zero=>simp at hx hy;subst hx;subst hy;exact h1
   |succ i=>exact h2 i x y HE Ka
  ·intro h3
   exact⟨h3 0 k k' rfl rfl,fun i x y hx hy=>h3 (i+1) x y HE Ka⟩
 |_::_,[],h=>by simp at h
theorem nZ(a b:Tm):aI a b=(a.op==b.op&&a.n==b.n&&a.kids.length==b.kids.length&&gS a.kids b.kids):=by cases a;cases b;simp[aI,Tm.op,Tm.n,Tm.kids]
theorem ei:∀a:Tm,a.fits->∀b:Tm,b.fits->aR Tryz.prog 21 [a.d,b.d] (.ret [.bool (aI a b)]):=by
 refine Tm.cB fun t ih hf b hb=> ?_
 have fy:=(Tm.aJ _).1 hf
 have FX:=(Tm.aJ _).1 hb
 refine aR.ay mix aaw au ?_
 rw[c21,nZ]
 refine b7 ?_
 refine aq (fun h1=> ?_) (fun h1=> ?_)
 ·refine b7 ?_
  have:(t.op==b.op&&t.n==b.n&&t.kids.length==b.kids.length)=false:=by
   rw[Bool.eq_false_iff]
   intro h
   simp at h
   simp[h]at h1
  rw[this];rfl
 ·have bJ:t.op=b.op/\t.n=b.n/\t.kids.length=b.kids.length:=by
   simp at h1
   refine⟨h1.1.1,h1.1.2,by have:=h1.2;omega⟩
  rw[show(t.op==b.op&&t.n==b.n&&t.kids.length==b.kids.length)=true by simp[bJ],Bool.true_and]
  have hl:=bJ.2.2
  refine b7 ?_
  refine aE (fun k:Nat=>⟨bz [.aa, .aa, .ptr 0 0, .ptr 1 0, .aa, .d (.i k)],pY t.row b.row,2⟩)
   (fun k=>k<=t.kids.length/\∀i,i<k->∀x y,t.kids[i]? =some x->b.kids[i]? =some y->aI x y=true) (fun k=>t.kids.length - k) 0 ⟨Nat.zero_le _,fun i h=>ad⟩ (bE.d2 _ (cR rfl rfl) ad rfl rfl ?_) (fun k hk=> ?_)
  ·exact cz
  refine b7 ?_
  refine aq (fun h2=> ?_) (fun h2=> ?_)
  ·simp at h2
   obtain⟨x,hx⟩:=aw h2
   obtain⟨y,hy⟩:=aw (l:=b.kids) (k:=k) ad
   have cw:=List.mem_of_getElem? hx
   have sO:=List.mem_of_getElem? hy
   refine zQ hx hy ?_
   refine ao (ih x cw (fy.2 x cw) y (FX.2 y sO)) rfl ?_
   refine b7 ?_
   refine ai aT ?_
   refine b7 ?_
   refine aq (fun h3=> ?_) (fun h3=> ?_)
   ·refine b7 ?_
    simp at h3
    have:gS t.kids b.kids=false:=by
     rw[Bool.eq_false_iff]
     intro h
     have:=(jk _ _ hl).1 h k x y hx hy
     rw[h3]at this;cases this
    rw[this]
   ·refine b7 ?_
    simp at h3
    refine ax (k+1) ⟨h2,fun i hi u v hu hv=> ?_⟩ ad (bE.d2 _ (cR rfl rfl) ad rfl rfl ?_)
    ·by_cases e:i=k
     ·subst e
      rw[hx]at hu;rw[hy]at hv
      injection hu with hu;injection hv with hv;subst hu;subst hv;exact h3
     ·exact hk.2 i ad u v hu hv
    ·exact cz
  ·refine b7 ?_
   simp at h2
   have:gS t.kids b.kids=true:=(jk _ _ hl).2 fun i x y hx hy=>hk.2 i (by have:=(List.getElem?_eq_some_iff.1 hx).1;omega) x y hx hy
   rw[this]
theorem AX(t:Tm)(hf:t.fits):aR Tryz.prog 40 [t.d] (.ret [.bool (iF t)]):=by
 refine aR.ay mix aer au ?_
 rw[c40]
 refine b7 ?_
 refine ag (uI t hf 50 14 ad ad) rfl ?_
 refine b7 ?_
 rfl
theorem Fg(s:ba)(hs:s.Fits):aR Tryz.prog 121 [s.d] (.ret [.bool (jj s)]):=by
 refine aR.ay mix abm au ?_
 rw[abl]
 refine b7 ?_
 refine aq (fun h1=> ?_) (fun h1=> ?_)
 ·refine b7 ?_
  simp only[jj,h1];rfl
 ·have e:jj s=(gJ s.cons&&gJ s.bZ):=by simp only[jj,h1];rfl
  rw[e]
  simp at h1
  refine b7 ?_
  refine aE (fun k:Nat=>⟨bz [.aa, .ptr 0 0, .aa, .d (.i k)],fb s.row,1⟩)
   (fun k=>k<=s.cons.length/\gJ (s.cons.take k)=true) (fun k=>s.cons.length - k) 0 ⟨Nat.zero_le _,by simp[gJ]⟩ (bE.d1 _ (aU rfl) ad rfl ?_) (fun k hk=> ?_)
  ·exact cz
  refine b7 ?_
  refine aq (fun h2=> ?_) (fun h2=> ?_)
  ·simp at h2
   obtain⟨x,hx⟩:=aw h2
   refine eZ hx ?_
   refine aq (fun h3=> ?_) (fun h3=> ?_)
   ·refine b7 ?_
    rw[show gJ s.cons=false from b8 hx (by simpa using h3)];rfl
   ·refine b7 ?_
    refine ax (k+1) ⟨h2,cl hx hk.2 (by simpa using h3)⟩ ad (bE.d1 _ (aU rfl) ad rfl ?_)
    exact cz
  ·simp at h2
   rw[show gJ s.cons=true from cm hk.2 h2,Bool.true_and]
   refine b7 ?_
   refine aE (fun k:Nat=>⟨bz [.aa, .ptr 0 0, .aa, .aa, .d (.i k)],fb s.row,1⟩)
    (fun k=>k<=s.bZ.length/\gJ (s.bZ.take k)=true) (fun k=>s.bZ.length - k) 0 ⟨Nat.zero_le _,by simp[gJ]⟩ (bE.d1 _ (aU rfl) ad rfl ?_) (fun k hk=> ?_)
   ·exact cz
   refine b7 ?_
   refine aq (fun h4=> ?_) (fun h4=> ?_)
   ·simp at h4
    obtain⟨x,hx⟩:=aw h4
    refine eZ hx ?_
    refine aq (fun h3=> ?_) (fun h3=> ?_)
    ·refine b7 ?_
     rw[show gJ s.bZ=false from b8 hx (by simpa using h3)]
    ·refine b7 ?_
     refine ax (k+1) ⟨h4,cl hx hk.2 (by simpa using h3)⟩ ad (bE.d1 _ (aU rfl) ad rfl ?_)
     exact cz
   ·simp at h4
    rw[show gJ s.bZ=true from cm hk.2 h4]
    exact NW
end Go.Proofs.YtonbelhklnmjnaaGreat
namespace Go.Proofs.YtonbelhklnmjnaaGreat
theorem De{σ:Type}(l:List Tm)(hl:l.length<=9223372036854775807)(g:Nat)(aL:List V)(base:Nat)(H:σ->Nat->ae)(step:σ->Tm->σ×Bool)(hc:∀r∈V.aQ aL,r<base)(ok:σ->Prop)(bA:∀x∈l,∀s,ok s->(step s x).2=true->ok (step s x).1)
 (h:∀x∈l,∀s,ok s->fR Tryz.prog g (.d x.d::aL) base (H s) (H (step s x).1) (.d (.bool (step s x).2))) (s:σ) (gG:ok s):
 fR Tryz.prog 161 [.d (.sl (l.map Tm.d)), .func (.func g) [] aL] base (H s) (H (aA step s l).1) (.d (.bool (aA step s l).2)):=by
 intro o nx hI K X hK
 have fN:∀r∈V.aQ aL,r<nx:=fun r hr=>Nat.lt_of_lt_of_le (hc r hr) hI.le
 refine cU.ay mix Sa au ?_
 rw[V6]
 refine b7 ?_
 refine aE (fun i:Nat×σ×(Nat->ae)×Nat=>⟨bz [.aa, .func (.func g) [] aL, .aa, .aa, .aa, .aa, .aa, .d (.sl (l.map Tm.d)), .d (.i l.length), .d (.i i.1)],i.2.2.1,i.2.2.2⟩)
  (fun i=>i.1<=l.length/\cW base (H i.2.1) i.2.2.1 i.2.2.2/\nx<=i.2.2.2/\(∀id,base<=id->id<nx->i.2.2.1 id=o id)/\aA step s l=aA step i.2.1 (l.drop i.1)/\ok i.2.1) (fun i=>l.length - i.1) (0,s,o,nx)
  ⟨Nat.zero_le _,hI,Nat.le_refl _,fun _ _ _=>rfl,rfl,gG⟩ ?_ ?_
 ·dsimp only
  refine bE.bS _ (Nat.le_refl _) ad hI.bU (fun _ _=>rfl) ?_
  exact cz
 rintro⟨k,s',o',nx'⟩ ⟨hk,oX,hn,dh,hf,jX⟩
 simp only at hk oX hn dh hf jX
 refine b7 ?_
 refine aq (fun h1=> ?_) (fun h1=> ?_)
 ·simp at h1
  obtain⟨x,hx⟩:=aw h1
  have cw:=List.mem_of_getElem? hx
  have hd:l.drop k=x::l.drop (k+1):=by
   rw[List.drop_eq_getElem_cons h1]
   rw[List.getElem?_eq_getElem h1]at hx;injection hx with hx;rw[hx]
  refine Hr hx ?_
  have hl0:=oX.le
  refine df (h x cw s' jX _ _ (?_:cW base (H s') _ (nx'+7)) _ _ fun o2 n2 m1 m2 m3=> ?_)
  ·exact(oX.aK (i:=nx'+3) (m:=nx'+7) ad ad ad rfl).aK ad ad ad rfl
  have LU:∀id,base<=id->id<nx->o2 id=o id:=fun id h2 h3=>by
   rw[m3 id h2 (by omega),aj _ _ _ _ (by omega),aj _ _ _ _ (by omega),dh id h2 h3]
  refine b7 ?_
  refine aq (fun h2=> ?_) (fun h2=> ?_)
  ·refine b7 ?_
   simp at h2
   have:aA step s l=((step s' x).1,false):=by rw[hf,hd,aA,if_neg (by rw[h2];exact Bool.false_ne_true)]
   rw[this]at hK
   exact hK _ _ ad (m2.mono ad) LU
  ·refine b7 ?_
   simp at h2
   have:aA step s l=aA step (step s' x).1 (l.drop (k+1)):=by rw[hf,hd,aA,if_pos h2]
   refine ax (k+1,(step s' x).1,o2,n2) ⟨h1,m2,by dsimp only;omega,LU,this,bA x cw s' jX h2⟩ mX ?_
   dsimp only
   have Df:∀r∈V.aQ aL,r<n2:=fun r hr=>by have:=fN r hr;omega
   refine bE.bS _ ad ad m2.bU (fun _ _=>rfl) ?_
   exact cz
 ·refine b7 ?_
  simp at h1
  rw[List.drop_eq_nil_of_le h1]at hf
  simp only[aA]at hf
  rw[hf]at hK
  exact hK _ _ ad (oX.mono ad) dh
theorem AY{α σ:Type}(step:σ->α->σ×Bool)(a b:List α):∀s,aA step s (a++b)=if(aA step s a).2=true then aA step (aA step s a).1 b else((aA step s a).1,false):=by
 induction a with
 |nil=>intro s;simp[aA]
 |cons x a ih=>
  intro s
  simp only[List.cons_append,aA]
  split
  ·exact ih _
  ·rename_i h;simp
theorem pZ{α β σ:Type}(step:σ->β->σ×Bool)(f:α->List β)(l:List α):∀s,aA step s (l.flatMap f)=aA (fun s x=>aA step s (f x)) s l:=by
 induction l with
 |nil=>intro s;rfl
 |cons x l ih=>intro s;simp only[List.flatMap_cons,AY,aA,ih]
theorem wc{α σ:Type}{step:σ->α->σ×Bool}{ok:σ->Prop}:∀ (l:List α),(∀x∈l,∀s,ok s->(step s x).2=true->ok (step s x).1)->∀s,ok s->(aA step s l).2=true->ok (aA step s l).1
 |[],_,s,h,_=>h
 |x::l,bA,s,h,h2=>by
  simp only[aA]at h2|-
  split at h2
  ·rename_i hb
   rw[if_pos hb]
   exact wc l (fun y hy=>bA y BI) _ (bA x au s h hb) h2
  ·cases h2
def YT(P:Program)(oG:Nat)(args:List V)(base:Nat)(h h2:Nat->ae)(v:V):Prop:=
 ∀o nx,cW base h o nx->∀K X,StK base h2 v o nx K->eh P oG args o nx K X
section
variable {σ:Type}(base oG:Nat)(H:σ->Nat->ae)(step:σ->Tm×Int->σ×Bool)(ok:σ->Prop)
theorem PB:∀t:Tm,t.fits->∀d:Int,0<=d->d+t.iE<=1000000->(∀x∈pre t d,∀s,ok s->(step s x).2=true->ok (step s x).1)->(∀x∈pre t d,∀s,ok s->YT Tryz.prog oG [.d x.1.d, .d (.i x.2)] base (H s) (H (step s x).1) (.d (.bool (step s x).2)))->oG<base->
 ∀ (c:Nat) (o0:Nat->ae) (yb vb:Nat),base<=c->base<=yb->yb<c->base<=vb->vb<c->o0 yb= .row [.j6 oG]->o0 vb= .row [.func (.func 246) [] [.ptr yb 0, .ptr vb 0]]->
 ∀s,ok s->fR Tryz.prog 246 [.d t.d, .d (.i d), .ptr yb 0, .ptr vb 0] c (ext base (H s) o0) (ext base (H (aA step s (pre t d)).1) o0) (.d (.bool (aA step s (pre t d)).2)):=by
 refine Tm.cB fun t ih hf d hd0 hd bA hR we c o0 yb vb QM Ti hy NO hv oy ov s gG=> ?_
 have fy:=(Tm.aJ _).1 hf
 intro o nx hI K X hK
 have hle:=hI.le
 have Tj:o yb= .row [.j6 oG]:=by rw[hI.eq yb hy];unfold ext;rw[if_neg (by omega),oy]
 have Tk:o vb= .row [.func (.func 246) [] [.ptr yb 0, .ptr vb 0]]:=by rw[hI.eq vb hv];unfold ext;rw[if_neg (by omega),ov]
 have y1:yb≠nx:=ad
 have y2:∀k,yb≠nx+k:=fun k=>ad
 have y3:vb≠nx:=ad
 have y4:∀k,vb≠nx+k:=fun k=>ad
 refine cU.ay mix S8 au ?_
 rw[W3]
 simp+contextual only[go_sem,Tj,Tk,y1,y2,y3,y4,Nat.add_assoc,Nat.left_eq_add,Nat.add_eq_left,Nat.add_left_cancel_iff]
 have tV:=jL t d
 have lU:∀k∈t.kids,∀x∈pre k (d+1),x∈pre t d:=fun k hk x hx=>by
  exact TP
 have hb:∀id,id<base->o id=H s id:=fun id aC=>by rw[hI.eq id (by omega)];unfold ext;rw[if_pos aC]
 have hIb:cW base (H s) o nx:=⟨hI.bU,ad,hb⟩
 refine nX (hR (t,d) HC s gG _ _ ((hIb.aK (i:=nx) (m:=nx+6) ad ad ad rfl).aK (i:=nx+1) ad ad ad rfl) _ _ fun o2 n2 m1 m2 m3=> ?_)
 have k0:o2 nx= .row t.row:=by rw[m3 nx (by omega) (by omega),aj _ _ _ _ (by omega),ab]
 have k1:o2 (nx+1)= .row [.d (.i d)]:=by rw[m3 (nx+1) (by omega) (by omega),ab]
 have hold:∀id,base<=id->id<nx->o2 id=o id:=fun id h1 h2=>by rw[m3 id h1 (by omega),aj _ _ _ _ (by omega),aj _ _ _ _ (by omega)]
 have Hx:∀id,base<=id->id<c->o id=o0 id:=fun id h1 h2=>by rw[hI.eq id h2];unfold ext;rw[if_neg (by omega)]
 cases Dg:(step s (t,d)).2 with
 |false=>
  refine eZ Dg ?_
  have BA:aA step s (pre t d)=((step s (t,d)).1,false):=by rw[tV,aA,if_neg (by rw[Dg];exact Bool.false_ne_true)]
  rw[BA]at hK
  refine hK _ _ ad ⟨m2.bU.mono ad,ad,fun id aC=> ?_⟩ (fun id h1 h2=>hold id ad h2)
  unfold ext
  split
  ·exact m2.eq id BK
  ·exact Hw
 |true=>
  have BA:aA step s (pre t d)=aA (fun s k=>aA step s (pre k (d+1))) (step s (t,d)).1 t.kids:=by rw[tV,aA,if_pos Dg,pZ]
  simp+contextual only[go_sem,Dg,k0,k1]
  have q0:o2 yb= .row [.j6 oG]:=by rw[hold yb Ti (by omega),Tj]
  have q1:o2 vb= .row [.func (.func 246) [] [.ptr yb 0, .ptr vb 0]]:=by rw[hold vb NO (by omega),Tk]
  have m0:=m2.le
  refine br (De t.kids fy.1 247 [.ptr vb 0, .ptr (nx+1) 0] n2 (fun s=>ext base (H s) o2) (fun s k=>aA step s (pre k (d+1))) ?_ ok ?_ ?_ (step s (t,d)).1 (bA (t,d) HC s gG Dg) _ _ ?_ _ _ ?_)
  ·exact N8
  ·exact fun k hk s' h1 h2=>wc _ (fun x hx=>bA x (lU k hk x hx)) s' h1 h2
  ·intro k hk s' iS o3 n3 PC K3 X3 hK3
   have l3:=PC.le
   have r0:o3 vb= .row [.func (.func 246) [] [.ptr yb 0, .ptr vb 0]]:=by rw[PC.eq vb (by omega)];unfold ext;rw[if_neg (by omega),q1]
   have r1:o3 (nx+1)= .row [.d (.i d)]:=by rw[PC.eq (nx+1) (by omega)];unfold ext;rw[if_neg (by omega),k1]
   have y5:vb≠n3:=ad
   have y6:∀k,vb≠n3+k:=fun k=>ad
   have y7:nx+1≠n3:=ad
   have y8:∀k,nx+1≠n3+k:=fun k=>ad
   have hh:=Tm.rh hk
   refine cU.ay mix S9 au ?_
   rw[W4]
   simp+contextual only[go_sem,r0,r1,y5,y6,y7,y8]
   rw[wrap64 (n:=d+1) (by omega) (by omega)]
   refine br (ih k hk (fy.2 k hk) (d+1) ad ad (fun x hx=>bA x (lU k hk x hx)) (fun x hx=>hR x (lU k hk x hx)) we n2 o2 yb vb ad Ti ad NO ad q0 q1 s' iS _ _ (PC.aK (i:=n3) (m:=n3+6) ad ad ad rfl) _ _ fun o4 n4 p1 p2 p3=> ?_)
   refine b7 ?_
   refine hK3 _ _ ad (p2.mono ad) (fun id h1 h2=> ?_)
   rw[p3 id h1 (by omega),aj _ _ _ _ (by omega)]
  ·exact(m2.mono ad).ext ad ad
  ·intro o5 n5 p1 p2 p3
   refine b7 ?_
   rw[<- BA]
   refine hK _ _ ad ⟨p2.bU.mono ad,ad,fun id aC=> ?_⟩ (fun id h1 h2=> ?_)
   ·rw[p2.eq id (by omega), <- BA]
    unfold ext
    split
    ·rfl
    ·exact Hw
   ·rw[p2.eq id (by omega)]
    unfold ext
    exact TW
theorem LV(t:Tm)(hf:t.fits)(hd:t.iE<=900000)(bA:∀x∈pre t 1,∀s,ok s->(step s x).2=true->ok (step s x).1)(hR:∀x∈pre t 1,∀s,ok s->YT Tryz.prog oG [.d x.1.d, .d (.i x.2)] base (H s) (H (step s x).1) (.d (.bool (step s x).2)))(we:oG<base)(tb:Nat)(HD:tb<base)(s:σ)(gG:ok s)(ck:H s tb= .row t.row):
 fR Tryz.prog 245 [.j6 oG, .ptr tb 0] base (H s) (H (aA step s (pre t 1)).1) (.cA []):=by
 intro o nx hI K X hK
 have hle:=hI.le
 have ot:o tb= .row t.row:=by rw[hI.eq tb HD,ck]
 have y1:tb≠nx:=ad
 have y2:∀k,tb≠nx+k:=fun k=>ad
 refine cU.ay mix S7 au ?_
 rw[W2]
 refine TI ot y1 y2 ?_
 have hI1:cW base (H s) (aK (aK (aK o nx (.row [.j6 oG])) (nx+1) (.row [.d .cj])) (nx+1) (.row [.func (.func 246) [] [.ptr nx 0, .ptr (nx+1) 0]])) (nx+6):=by
  refine((hI.aK (i:=nx) (m:=nx+6) ad ad ad ?_).aK (i:=nx+1) (m:=nx+6) ad ad ad rfl).aK (i:=nx+1) ad ad ad ?_
  ·exact TZ
  ·exact fH
 refine br (PB base oG H step ok t hf 1 ad ad bA hR we (nx+6) _ nx (nx+1) ad hle ad ad ad ?_ ?_ s gG _ _ (hI1.ext (Nat.le_refl _) ad) _ _ ?_)
 ·exact cY
 ·exact cY
 intro o2 n2 m1 m2 m3
 refine b7 ?_
 refine hK _ _ ad ⟨m2.bU,ad,fun id aC=> ?_⟩ (fun id h1 h2=> ?_)
 ·exact zS
 ·rw[m2.eq id (by omega)];unfold ext;rw[if_neg (by omega)]
  exact cY
end
theorem Dh(t:Tm)(o:Nat->ae)(nx:Nat)(K X:V->(Nat->ae)->Nat->Prop)(h:K (.func (.func 245) [] [.ptr nx 0]) (aK o nx (.row t.row)) (nx+4)):cU Tryz.prog 206 [.d t.d] o nx K X:=by
 refine cU.ay mix SI au ?_
 rw[WC]
 refine b7 ?_
 exact h
end Go.Proofs.YtonbelhklnmjnaaGreat
namespace Go.Proofs.YtonbelhklnmjnaaGreat
def GJ:Option jS->fG
 |none=> .normal
 |some .ret=> .ret
 |some (.exit j)=> .exit j
def yW{σ:Type}(J:σ->Option jS)(step:σ->Tm×Int->σ)(s:σ)(x:Tm×Int):σ×Bool:=(step s x,(J (step s x)).isNone)
theorem AZ{σ:Type}(J:σ->Option jS)(step:σ->Tm×Int->σ):∀ (l:List (Tm×Int)) (s:σ),J s=none->(aA (yW J step) s l).2=(J (aA (yW J step) s l).1).isNone
 |[],s,h=>by simp[aA,h]
 |x::l,s,h=>by
  simp only[aA]
  split
  ·rename_i hb
   exact AZ J step l _ (by simpa[yW]using hb)
  ·rename_i hb
   cases hj:J (step s x)with
   |none=>exact absurd (by simp[yW,hj]) hb
   |some j=>simp[yW,hj]
theorem tI{σ:Type}(t:Tm)(hf:t.fits)(hd:t.iE<=900000){n bq:Nat}{gq:Operand}{ps:List Nat}{iZ eN:IC}{Q:fG->S->Prop}{e:Nat->V}{o:Nat->ae}{nx tb:Nat}(env:List V)(he:lZ e env 0)
 (CY:ps.all (fun t=>decide (t<n))=true) (hl:ps.length=2) (hg:Good o nx) (hrefs:∀r∈V.aQ env,r<nx) (ht:o tb= .row t.row)
 (G:σ->Nat->ae) (J:σ->Option jS) (step:σ->Tm×Int->σ) (ok:σ->Prop) (s0:σ) (gG:ok s0) (NP:J s0=none) (h0:∀id,id<nx->o id=G s0 id) (bA:∀x∈pre t 1,∀s,ok s->J s=none->J (step s x)=none->ok (step s x))
 (mA:∀L,iH Tryz.prog n env ps iZ eN L->(∀st pd m,nx<=m->(L st pd).refs.all (fun r=>decide (r<m))=true)->∀x∈pre t 1,∀s,ok s->J s=none->∀o3 n3,cW nx (G s) o3 n3->nx<n3->o3 nx=L .ready none->∀K X,
  (∀e' o' n' st pd,n3<=n'->cW nx (G (step s x)) o' n'->o' nx=L st pd->(∀id,nx<id->id<n3->o' id=o3 id)->jM nx K X (GJ (J (step s x))) ⟨e',o',n'⟩)->
  kS Tryz.prog n n3 true iZ (nW Tryz.prog n n3 nx eN K X) ⟨m8 (bz env) ps [.d x.1.d, .d (.i x.2)],o3,n3⟩)
 (kB:∀o' n',cW nx (G (aA (yW J step) s0 (pre t 1)).1) o' n'->oW Q (J (aA (yW J step) s0 (pre t 1)).1) ⟨e,o',n'⟩):
 sI Tryz.prog n bq false gq ps iZ eN Q ⟨e,o,nx⟩ (.func (.func 245) [] [.ptr tb 0]):=by
 refine Fe env he (fun L hL=> ?_)
 have HD:tb<nx:=hg.lt T9
 let H:σ->Nat->ae:=fun s id=>if id<nx then G s id else if id=nx then(match J s with|none=>L .ready none|some j=>L .done (some j))else .no
 have Hy:∀s id,id<nx->H s id=G s id:=fun s id h=>if_pos h
 have GK:∀s,J s=none->H s nx=L .ready none:=fun s h=>by show(if nx<nx then _ else _)=_;rw[if_neg (by omega),if_pos rfl,h]
 have LW:∀s j,J s=some j->H s nx=L .done (some j):=fun s j h=>by show(if nx<nx then _ else _)=_;rw[if_neg (by omega),if_pos rfl,h]
 have uW:∀st pd m,nx<=m->(L st pd).refs.all (fun r=>decide (r<m))=true:=fun st pd m hm=>by
  rw[hL.refs,List.all_eq_true]
  intro r hr;have:=hrefs r hr;exact decide_eq_true ad
 refine LV (nx+1) nx H (yW J step) (fun s=>ok s/\J s=none) t hf hd (fun x hx s h1 h2=> ?_) (fun x hx s h1=> ?_) ad tb ad s0 ⟨gG,NP⟩ T7 _ _ ⟨?_,Nat.le_refl _,fun id aC=> ?_⟩ _ _ ?_
 ·have hj:J (step s x)=none:=by simpa[yW]using h2
  exact⟨bA x hx s h1.1 h1.2 hj,hj⟩
 ·intro o3 n3 hI K X hK
  have hle:=hI.le
  have JT:o3 nx=L .ready none:=by rw[hI.eq nx (by omega),GK s h1.2]
  refine v8 hL mix JT ad CY (by simp[hl]) ?_
  refine mA L hL uW x hx s h1.1 h1.2 o3 n3 ⟨hI.bU,ad,fun id aC=>by rw[hI.eq id (by omega),Hy _ _ aC]⟩ ad JT K X (fun e' o' n' st pd k1 k2 k3 k4=> ?_)
  have key:∀st' pd' b,(J (step s x)).isNone=b->H (step s x) nx=L st' pd'->K (.d (.bool b)) (aK o' nx (L st' pd')) n':=fun st' pd' b hb hh=>by
   subst hb
   refine hK _ _ k1 ⟨k2.bU.aK ad (uW _ _ _ ad),ad,fun id aC=> ?_⟩ (fun id g1 g2=> ?_)
   ·by_cases pz:id=nx
    ·subst pz;rw[ab];exact hh.symm
    ·rw[aj _ _ _ _ pz]
     show o' id=H (step s x) id
     exact TT
   ·exact TR
  cases hj:J (step s x)with
  |none=>exact sN hL k3 (key _ _ _ zU (GK _ hj))
  |some j=>
   cases j with
   |ret=>exact pV hL k3 (key _ _ _ zU (LW _ _ hj))
   |exit j=>exact nY hL k3 (key _ _ _ zU (LW _ _ hj))
 ·exact(hg.mono ad).aK ad (uW _ _ _ ad)
 ·by_cases pz:id=nx
  ·subst pz;rw[ab,GK _ NP]
  ·exact TQ
 ·intro o' n' k1 k2 k3
  have hle:=k2.le
  generalize hsf:(aA (yW J step) s0 (pre t 1)).1=sf at*
  have kk:∀st pd,cW nx (G sf) (aK o' nx (L st pd)) n':=fun st pd=>⟨k2.bU.aK ad (uW _ _ _ ad),ad,fun id aC=>by rw[aj _ _ _ _ (by omega),k2.eq id (by omega),Hy _ _ aC]⟩
  cases hj:J sf with
  |none=>
   refine⟨.ready,none,by rw[k2.eq nx (by omega),GK _ hj],(fun h=>by cases h), ?_⟩
   have:=kB _ _ (kk .exhausted none)
   rwa [hj]at this
  |some j=>
   refine⟨.done,some j,by rw[k2.eq nx (by omega),LW _ _ hj],(fun h=>by cases h), ?_⟩
   have:=kB _ _ (kk .exhausted (some j))
   rwa [hj]at this
theorem fE(n low high:Int):aR Tryz.prog 155 [.i n, .i low, .i high] (.ret [.bool (cP n low high)]):=by
 refine aR.ay mix R4 au ?_
 rw[V0]
 refine b7 ?_
 rfl
theorem Fh(s:ba)(t:Tm)(h:t.op=1):aR Tryz.prog 238 [s.d,t.d] (.ret [.bool (bC s t)]):=by
 have hn:bC s t=(cP t.n 0 19&&(t.kids.length:Int)==0):=by simp[bC,h,Bool.and_comm]
 refine aR.ay mix S0 au ?_
 rw[WV]
 refine b7 ?_
 refine ag (fE _ _ _) rfl ?_
 refine b7 ?_
 rw[hn]
theorem II(s:ba)(t:Tm)(h:t.op=2):aR Tryz.prog 239 [s.d,t.d] (.ret [.bool (bC s t)]):=by
 have hn:bC s t=(cP t.n (-1000000) 1000000&&(t.kids.length:Int)==0):=by simp[bC,h,Bool.and_comm]
 refine aR.ay mix S1 au ?_
 rw[WW]
 refine b7 ?_
 refine ag (fE _ _ _) rfl ?_
 refine b7 ?_
 rw[hn]
theorem acM(s:ba)(t:Tm)(h:t.op=8):aR Tryz.prog 243 [s.d,t.d] (.ret [.bool (bC s t)]):=by
 have hn:bC s t=(cP t.n 0 19&&(t.kids.length:Int)==2):=by simp[bC,h,Bool.and_comm]
 refine aR.ay mix S5 au ?_
 rw[W0]
 refine b7 ?_
 refine ag (fE _ _ _) rfl ?_
 refine b7 ?_
 rw[hn]
theorem Xg(s:ba)(t:Tm)(h:t.op=6\/t.op=7\/t.op=9\/t.op=10\/t.op=11\/t.op=12\/t.op=13\/t.op=14\/t.op=15):aR Tryz.prog 244 [s.d,t.d] (.ret [.bool (bC s t)]):=by
 have hn:bC s t=(t.n==0&&(t.kids.length:Int)==2):=by
  rcases h with h|h|h|h|h|h|h|h|h<;>simp[bC,h,cP,Bool.and_comm]
 refine aR.ay mix S6 au ?_
 rw[W1]
 refine b7 ?_
 rw[hn]
theorem acN(s:ba)(t:Tm)(hs:s.Fits)(h:t.op=3):aR Tryz.prog 240 [s.d,t.d] (.ret [.bool (bC s t)]):=by
 have hn:bC s t=(cP t.n 0 (s.cons.length - 1)&&(t.kids.length:Int)==dq s.cons t.n):=by simp[bC,h]
 refine aR.ay mix S2 au ?_
 rw[WX]
 refine b7 ?_
 rw[wrap64 (by have:=hs.lc;omega) (by have:=hs.lc;omega)]
 refine ao (fE _ _ _) rfl ?_
 cases hI:cP t.n 0 (s.cons.length - 1)with
 |false=>
  refine eZ hI ?_
  refine ai (ak rfl) ?_
  refine b7 ?_
  rw[hn,hI];rfl
 |true=>
  obtain⟨h0,x,hx⟩:=gK hI
  simp+contextual only[go_sem,hI,hx,h0]
  refine ai (ak rfl) ?_
  refine b7 ?_
  exact xu
theorem acO(s:ba)(t:Tm)(hs:s.Fits)(h:t.op=4):aR Tryz.prog 241 [s.d,t.d] (.ret [.bool (bC s t)]):=by
 have hn:bC s t=(cP t.n 0 (s.bZ.length - 1)&&(t.kids.length:Int)==dq s.bZ t.n):=by simp[bC,h]
 refine aR.ay mix S3 au ?_
 rw[WY]
 refine b7 ?_
 rw[wrap64 (by have:=hs.lf;omega) (by have:=hs.lf;omega)]
 refine ao (fE _ _ _) rfl ?_
 cases hI:cP t.n 0 (s.bZ.length - 1)with
 |false=>
  refine eZ hI ?_
  refine ai (ak rfl) ?_
  refine b7 ?_
  rw[hn,hI];rfl
 |true=>
  obtain⟨h0,x,hx⟩:=gK hI
  simp+contextual only[go_sem,hI,hx,h0]
  refine ai (ak rfl) ?_
  refine b7 ?_
  exact xu
theorem Xh(s:ba)(t:Tm)(hs:s.Fits)(h:t.op=5):aR Tryz.prog 242 [s.d,t.d] (.ret [.bool (bC s t)]):=by
 have hn:bC s t=(cP t.n 0 (s.bZ.length - 1)&&decide ((t.kids.length:Int)<dq s.bZ t.n)):=by simp[bC,h]
 refine aR.ay mix S4 au ?_
 rw[WZ]
 refine b7 ?_
 rw[wrap64 (by have:=hs.lf;omega) (by have:=hs.lf;omega)]
 refine ao (fE _ _ _) rfl ?_
 cases hI:cP t.n 0 (s.bZ.length - 1)with
 |false=>
  refine eZ hI ?_
  refine ai (ak rfl) ?_
  refine b7 ?_
  rw[hn,hI];rfl
 |true=>
  obtain⟨h0,x,hx⟩:=gK hI
  simp+contextual only[go_sem,hI,hx,h0]
  refine ai (ak rfl) ?_
  refine b7 ?_
  exact xu
@[reducible] def rf (n:Nat):V:= .func (.func n) [] []
@[reducible] def ae0:List V:=[.d .cj,rf 238,rf 239,rf 240,rf 241,rf 242, .d .cj, .d .cj,rf 243, .d .cj, .d .cj, .d .cj, .d .cj, .d .cj, .d .cj, .d .cj]
@[reducible] def Fi:List V:=[.d .cj,rf 238,rf 239,rf 240,rf 241,rf 242,rf 244,rf 244,rf 243,rf 244,rf 244,rf 244,rf 244,rf 244,rf 244,rf 244]
def JZ(k:Nat):List V:=Fi.take k++ae0.drop k
theorem funcOf{P:Program}{t:TypeId}(h:(match P.underlying t with|some (.func _ _ _)=>true|_=>false)=true):∃a b c,P.underlying t=some (.func a b c):=by
 split at h
 ·exact⟨_,_,_,by assumption⟩
 ·cases h
@[go_sem] theorem ae1 (o:Nat->ae) (pD:Bool):qx Tryz.prog o 188 pD (.d .cj) (.d .cj)=some (.d (.bool true)):=by
  obtain⟨a,b,c,h⟩:=funcOf (P:=Tryz.prog) (t:=188) ah
  unfold qx;rw[h]
@[go_sem] theorem ae2 (o:Nat->ae) (pD:Bool) (f:Fn) (x y:List V):qx Tryz.prog o 188 pD (.func f x y) (.d .cj)=some (.d (.bool false)):=by
  obtain⟨a,b,c,h⟩:=funcOf (P:=Tryz.prog) (t:=188) ah
  unfold qx;rw[h]
theorem PD(base:Nat)(h:Nat->ae):fR Tryz.prog 205 [] base h h (.agg Fi):=by
 intro o nx hI K X hK
 have hle:=hI.le
 refine cU.ay mix SH au ?_
 rw[WB]
 simp+contextual only[go_sem,Nat.add_assoc,Nat.left_eq_add,Nat.add_eq_left,Nat.add_left_cancel_iff]
 refine aE (fun k:Nat=>⟨bz [.ptr nx 0, .ptr (nx+2) 0, .aa, .aa, .d (.i k)],aK (aK o nx (.row (List.replicate 16 (.d .cj)))) (nx+2) (.row (JZ k)),nx+5⟩)
  (fun k=>k<=16) (fun k=>16 - k) 0 (Nat.zero_le _) ?_ (fun k hk=> ?_)
 ·refine bE.bS _ ad ad ?_ (fun id aC=> ?_) ?_
  ·exact((hI.bU.mono ad).aK ad rfl).aK ad rfl
  ·rw[iG];rfl
  ·exact cz
 have hg:∀k,k<16->Good (aK (aK o nx (.row (List.replicate 16 (.d .cj)))) (nx+2) (.row (JZ (k+1)))) (nx+5):=fun k hk=>
  ((hI.bU.mono ad).aK ad rfl).aK ad (by
    rcases(by omega:k=0\/k=1\/k=2\/k=3\/k=4\/k=5\/k=6\/k=7\/k=8\/k=9\/k=10\/k=11\/k=12\/k=13\/k=14\/k=15)with rfl|rfl|rfl|rfl|rfl|rfl|rfl|rfl|rfl|rfl|rfl|rfl|rfl|rfl|rfl|rfl<;>rfl)
 by_cases ae3:k=16
 ·subst ae3
  refine Y9 ?_
  refine hK _ _ ?_ ⟨?_, ?_,fun id aC=> ?_⟩ (fun id h1 h2=> ?_)
  rotate_left
  ·exact(((hI.bU.mono ad).aK ad rfl).aK ad rfl).aK ad rfl
  ·omega
  ·(repeat(first|rfl|rw[ab]|rw[aj _ _ _ _ (by omega)]))
   exact hI.eq id aC
  ·exact cY
  ·omega
 ·have hgk:=hg k ad
  obtain⟨k1,NI⟩:∃k1,k1=k+1:=⟨_,rfl⟩
  rw[<- NI]at hgk
  rcases(by omega:k=0\/k=1\/k=2\/k=3\/k=4\/k=5\/k=6\/k=7\/k=8\/k=9\/k=10\/k=11\/k=12\/k=13\/k=14\/k=15)with rfl|rfl|rfl|rfl|rfl|rfl|rfl|rfl|rfl|rfl|rfl|rfl|rfl|rfl|rfl|rfl
  all_goals
   refine Y9 ?_
   refine ax k1 ad ad (bE.bS _ ad ad hgk (fun id aC=> ?_) ?_)
   all_goals subst NI
   ·first|rfl|(rw[iG];rfl)
   ·exact cz
def LX(n:Int):Nat:=if n=1 then 238 else if n=2 then 239 else if n=3 then 240 else if n=4 then 241 else if n=5 then 242 else if n=8 then 243 else 244
theorem Xi(s:ba)(t:Tm)(hs:s.Fits)(h:cP t.op 1 15=true):aR Tryz.prog (LX t.op) [s.d,t.d] (.ret [.bool (bC s t)])/\Fi[t.op.toNat]? =some (rf (LX t.op))/\0<=t.op/\t.op<16:=by
 simp[cP]at h
 rcases(by omega:t.op=1\/t.op=2\/t.op=3\/t.op=4\/t.op=5\/t.op=8\/(t.op=6\/t.op=7\/t.op=9\/t.op=10\/t.op=11\/t.op=12\/t.op=13\/t.op=14\/t.op=15))with h|h|h|h|h|h|h
 ·exact⟨by rw[h];exact Fh s t h,by rw[h];rfl,ad,ad⟩
 ·exact⟨by rw[h];exact II s t h,by rw[h];rfl,ad,ad⟩
 ·exact⟨by rw[h];exact acN s t hs h,by rw[h];rfl,ad,ad⟩
 ·exact⟨by rw[h];exact acO s t hs h,by rw[h];rfl,ad,ad⟩
 ·exact⟨by rw[h];exact Xh s t hs h,by rw[h];rfl,ad,ad⟩
 ·exact⟨by rw[h];exact acM s t h,by rw[h];rfl,ad,ad⟩
 ·have hp:=Xg s t h
  rcases h with h|h|h|h|h|h|h|h|h<;>exact⟨by rw[h];exact hp,by rw[h];rfl,ad,ad⟩
def oY(s:ba)(n:Int)(x:Tm×Int):Bool:=decide (40<n+1)||decide (12<x.2)|| !cP x.1.op 1 15|| !bC s x.1
def iI(s:ba)(n:Int×Bool)(x:Tm×Int):Int×Bool:=(n.1+1, !oY s n.1 x)
def fJ(n:Int×Bool):Option jS:=if n.2=true then none else some .ret
def mF(s:ba)(t:Tm):Bool:=(aA (yW fJ (iI s)) (0,true) (pre t 1)).2
theorem LY(s:ba)(hs:s.Fits)(t:Tm)(hf:t.fits)(hd:t.iE<=900000):aR Tryz.prog 163 [s.d,t.d] (.ret [.bool (mF s t)]):=by
 refine aR.ay mix Sc au ?_
 rw[V8]
 refine b7 ?_
 refine c6 (PD 3 _ _ _ (?_:cW 3 (aK (aK (aK (fun _=> .no) 0 (.row s.row)) 1 (.row t.row)) 2 (.row [.d (.bool false)])) _ 3) _ _ fun o2 n2 m1 m2 m3=> ?_)
 ·exact⟨dp,Nat.le_refl _,fun _ _=>rfl⟩
 have p0:o2 0= .row s.row:=m2.eq 0 ad
 have p1:o2 1= .row t.row:=m2.eq 1 ad
 have p2:o2 2= .row [.d (.bool false)]:=m2.eq 2 ad
 have e0:0≠n2:=ad
 have e1:1≠n2:=ad
 have e2:2≠n2:=ad
 have e3:∀k,0≠n2+k:=fun k=>ad
 have e4:∀k,1≠n2+k:=fun k=>ad
 have e5:∀k,2≠n2+k:=fun k=>ad
 simp+contextual only[go_sem,p0,p1,p2,e0,e1,e2,e3,e4,e5,Nat.add_assoc,Nat.left_eq_add,Nat.add_eq_left,Nat.add_left_cancel_iff]
 refine c6 (Dh t _ _ _ _ ?_)
 refine b7 ?_
 have hG0:∀n,Good (aK (aK (aK (aK (aK (aK o2 n2 (.row (List.replicate 16 (.d .cj)))) (n2+1) (.row [.d (.i 0)])) n2 (.row Fi)) (n2+1) (.row [.d (.i 0)])) (n2+5) (.row t.row)) (n2+1) (.row [.d (.i n)])) (n2+9):=fun n=>by
  have hg:=m2.bU
  exact dp
 refine tI t hf hd [.aa, .aa, .ptr 0 0, .aa, .ptr 2 0, .ptr n2 0, .ptr (n2+1) 0] ?_ aT rfl ?_ N8 (ab _ _ _)
  (fun s=>aK (aK (aK (aK (aK (aK o2 n2 (.row (List.replicate 16 (.d .cj)))) (n2+1) (.row [.d (.i 0)])) n2 (.row Fi)) (n2+1) (.row [.d (.i 0)])) (n2+5) (.row t.row)) (n2+1) (.row [.d (.i s.1)]))
  fJ (iI s) (fun s=>0<=s.1/\s.1<=40) (0,true) ⟨aT,aT⟩ rfl ?_ ?_ ?_ ?_
 ·exact Hu
 ·have hg:=m2.bU
  exact dp
 ·intro id aC
  by_cases h:id=n2+1
  ·subst h;(repeat(first|rfl|rw[ab]|rw[aj _ _ _ _ (by omega)]))
  ·rw[aj _ _ _ _ h];rfl
 ·intro x hx s' h1 h2 h3
  have:oY s s'.1 x=false:=by simpa[fJ,iI]using h3
  simp[oY]at this
  simp only[iI]
  omega
 ·intro L hL uW x hx s' h1 h2 o3 n3 hI hn ho K X cO
  simp only[m8]
  have hg:=hI.bU
  have q0:o3 0= .row s.row:=by
   rw[hI.eq 0 (by omega)];(repeat(first|rfl|rw[ab]|rw[aj _ _ _ _ (by omega)]))
   exact p0
  have q2:o3 2= .row [.d (.bool false)]:=by
   rw[hI.eq 2 (by omega)];(repeat(first|rfl|rw[ab]|rw[aj _ _ _ _ (by omega)]))
   exact p2
  have q3:o3 n2= .row Fi:=by rw[hI.eq n2 (by omega)];(repeat(first|rfl|rw[ab]|rw[aj _ _ _ _ (by omega)]))
  have q4:o3 (n2+1)= .row [.d (.i s'.1)]:=by rw[hI.eq (n2+1) (by omega)];(repeat(first|rfl|rw[ab]|rw[aj _ _ _ _ (by omega)]))
  have fin:∀ (o':Nat->ae) (n':Nat),(∀id,id<n2+5+4->o' id=aK o3 (n2+1) (.row [.d (.i (s'.1+1))]) id)->Good o' n'->n3<=n'->cW (n2+5+4) (aK (aK (aK (aK (aK (aK o2 n2 (.row (List.replicate 16 (.d .cj)))) (n2+1) (.row [.d (.i 0)])) n2 (.row Fi)) (n2+1) (.row [.d (.i 0)])) (n2+5) (.row t.row)) (n2+1) (.row [.d (.i (iI s s' x).1)])) o' n':=by
   intro o' n' k1 k2 k3
   refine⟨k2,ad,fun id aC=> ?_⟩
   rw[k1 id aC]
   by_cases h:id=n2+1
   ·subst h;rw[ab,ab];rfl
   ·rw[aj _ _ _ _ h,aj _ _ _ _ h,hI.eq id aC,aj _ _ _ _ h]
  refine b7 ?_
  refine l0 hL (pd:=none) ?_ ?_
  ·(repeat(first|rfl|rw[ab]|rw[aj _ _ _ _ (by omega)]))
   exact ho
  cases c1:decide (40<s'.1+1)with
  |true=>
   have hJ:fJ (iI s s' x)=some .ret:=by simp[fJ,iI,oY,c1]
   rw[hJ]at cO
   refine JX q0 q2 q3 q4 c1 ?_
   refine ai (ak rfl) ?_
   refine cg q2 ?_
   refine cO _ _ _ .busy none ad (fin _ _ (fun id aC=>rY) dp ad) cY (fun id h3 h4=>by(repeat(first|rfl|rw[ab]|rw[aj _ _ _ _ (by omega)])))
  |false=>
  cases c2:decide (12<x.2)with
  |true=>
   have hJ:fJ (iI s s' x)=some .ret:=by simp[fJ,iI,oY,c2]
   rw[hJ]at cO
   refine NV q0 q2 q3 q4 c1 c2 ?_
   refine ai (ak rfl) ?_
   refine cg q2 ?_
   refine cO _ _ _ .busy none ad (fin _ _ (fun id aC=>rY) dp ad) cY (fun id h3 h4=>by(repeat(first|rfl|rw[ab]|rw[aj _ _ _ _ (by omega)])))
  |false=>
  cases c3:cP x.1.op 1 15 with
  |false=>
   have hJ:fJ (iI s s' x)=some .ret:=by simp[fJ,iI,oY,c3]
   rw[hJ]at cO
   refine NV q0 q2 q3 q4 c1 c2 ?_
   refine ao (fE _ _ _) rfl ?_
   simp+contextual (disch:=first|omega|simp only[go_sem,false_implies]) only[go_sem,wrap64,if_pos,q0,q2,q3,q4,c1,c2,c3]
   refine ai (ak rfl) ?_
   refine cg q2 ?_
   refine cO _ _ _ .busy none ad (fin _ _ (fun id aC=>rY) dp ad) cY (fun id h3 h4=>by(repeat(first|rfl|rw[ab]|rw[aj _ _ _ _ (by omega)])))
  |true=>
  obtain⟨r1,r2,r3,r4⟩:=Xi s x.1 hs c3
  refine NV q0 q2 q3 q4 c1 c2 ?_
  refine ao (fE _ _ _) rfl ?_
  simp+contextual (disch:=first|omega|simp only[go_sem,false_implies]) only[go_sem,wrap64,if_pos,q0,q2,q3,q4,c1,c2,c3,r2,r3,r4,Nat.mul_one]
  refine ao r1 rfl ?_
  simp+contextual (disch:=first|omega|simp only[go_sem,false_implies]) only[go_sem,wrap64,if_pos,q0,q2,q3,q4,c1,c2,c3]
  refine ai (ak rfl) ?_
  cases c4:bC s x.1 with
  |false=>
   have hJ:fJ (iI s s' x)=some .ret:=by simp[fJ,iI,oY,c4]
   rw[hJ]at cO
   simp+contextual (disch:=first|omega|simp only[go_sem,false_implies]) only[go_sem,wrap64,if_pos,q2,c4]
   refine cO _ _ _ .busy none ad (fin _ _ (fun id aC=>rY) dp ad) cY (fun id h3 h4=>by(repeat(first|rfl|rw[ab]|rw[aj _ _ _ _ (by omega)])))
  |true=>
   have hJ:fJ (iI s s' x)=none:=by simp[fJ,iI,oY,c1,c2,c3,c4]
   rw[hJ]at cO
   simp+contextual (disch:=first|omega|simp only[go_sem,false_implies]) only[go_sem,wrap64,if_pos,c4]
   refine cO _ _ _ .busy none ad (fin _ _ (fun id aC=>rY) dp ad) cY (fun id h3 h4=>by(repeat(first|rfl|rw[ab]|rw[aj _ _ _ _ (by omega)])))
 ·intro o' n' hI
  have q2:o' 2= .row [.d (.bool false)]:=by
   rw[hI.eq 2 (by omega)];(repeat(first|rfl|rw[ab]|rw[aj _ _ _ _ (by omega)]))
   exact p2
  rw[show mF s t=(fJ (aA (yW fJ (iI s)) (0,true) (pre t 1)).1).isNone from AZ _ _ _ _ rfl]
  generalize (aA (yW fJ (iI s)) (0,true) (pre t 1)).1=sf at*
  cases hj:fJ sf with
  |none=>
   simp only[oW]
   refine cg q2 ?_
   rfl
  |some j=>
   have:j= .ret:=by
    unfold fJ at hj;split at hj
    ·cases hj
    ·injection hj with hj;exact hj.symm
   subst this
   simp only[oW]
   refine cg q2 ?_
   rfl
end Go.Proofs.YtonbelhklnmjnaaGreat
namespace Go.Proofs.YtonbelhklnmjnaaGreat
def enc{κ:Type}(kf:κ->D)(m:List (κ×D)):List (D×D):=m.map fun p=>(kf p.1,p.2)
def gh{κ:Type}[BEq κ](k:κ):List (κ×D)->Nat->Option (Nat×D)
 |[],_=>none
 |p::m,i=>if(k==p.1)=true then some (i,p.2)else gh k m (i+1)
def xL{κ:Type}[BEq κ](k:κ)(x:D)(m:List (κ×D)):List (κ×D):=match gh k m 0 with|some (i,_)=>m.set i (k,x)|none=>m++[(k,x)]
def acP{κ:Type}[BEq κ](k:κ)(m:List (κ×D)):List (κ×D):=match gh k m 0 with|some (i,_)=>m.eraseIdx i|none=>m
def xM(d:D)(r:Option (Nat×D)):Option (Nat×D×D):=match r with|some (i,x)=>some (i,d,x)|none=>none
@[go_sem] theorem YU (d:D) (i:Nat) (x:D):xM d (some (i,x))=some (i,d,x):=rfl
@[go_sem] theorem YV (d:D):xM d none=none:=rfl
section
variable {P:Program}{kt:TypeId}
theorem PE(h:cy P kt=some .int)(a b:Int):rR P 100 kt (.int .i64 a) (.int .i64 b)=some (a==b):=by simp[rR,h]
theorem PF(h:cy P kt=some .str)(a b:List UInt8):rR P 100 kt (.str a) (.str b)=some (a==b):=by simp[rR,h]
@[go_sem] theorem GL (h:cy P kt=some .int) (a:Int):oU P 100 kt (.int .i64 a)=true:=by simp[oU,h]
@[go_sem] theorem adw (h:cy P kt=some .str) (a:List UInt8):oU P 100 kt (.str a)=true:=by simp[oU,h]
theorem wg{κ:Type}[BEq κ][LawfulBEq κ](kf:κ->D)(he:∀a b,rR P 100 kt (kf a) (kf b)=some (a==b))(k:κ):∀ (m:List (κ×D)) (i:Nat),findD P kt (kf k) (enc kf m) i=some (xM (kf k) (gh k m i))
 |[],_=>rfl
 |p::m,i=>by
  have ih:=wg kf he k m (i+1)
  simp only[enc,List.map_cons,findD,he,gh]at ih|-
  by_cases h:k=p.1
  ·subst h;simp[xM]
  ·have:(k==p.1)=false:=by simpa using h
   simp only[this,Bool.false_eq_true,if_false];exact ih
@[go_sem] theorem Di (h:cy P kt=some .int) (k:Int) (m:List (Int×D)):findD P kt (.int .i64 k) (enc (.int .i64) m) 0=some (xM (.int .i64 k) (gh k m 0)):=wg (.int .i64) (PE h) k m 0
@[go_sem] theorem acQ (h:cy P kt=some .str) (k:List UInt8) (m:List (List UInt8×D)):findD P kt (.str k) (enc .str m) 0=some (xM (.str k) (gh k m 0)):=wg .str (PF h) k m 0
end
section
variable {κ:Type}(kf:κ->D)
theorem LZ(m:List (κ×D))(k:κ)(x:D):enc kf m++[(kf k,x)]=enc kf (m++[(k,x)]):=by simp[enc]
theorem GM(m:List (κ×D))(i:Nat)(k:κ)(x:D):(enc kf m).set i (kf k,x)=enc kf (m.set i (k,x)):=by simp[enc,List.map_set]
theorem sP:∀ (m:List (κ×D)) (i:Nat),(enc kf m).eraseIdx i=enc kf (m.eraseIdx i)
 |[],i=>rfl
 |p::m,0=>rfl
 |p::m,i+1=>by
  have:=sP m i
  simp only[enc,List.map_cons,List.eraseIdx_cons_succ]at this|-
  rw[this]
theorem PG(m:List (κ×D)):(((enc kf m).map (·.1)).zip ((enc kf m).map (·.2)))=enc kf m:=by
 induction m with
 |nil=>rfl
 |cons p m ih=>simp only[enc,List.map_cons,List.zip_cons_cons]at ih|-;rw[ih]
theorem yX{K:V->List (Nat×ae)->Prop}{id:Nat}{m:List (κ×D)}(h0:m=[]->K (.cA [.d (.bool false)]) [])
 (h1:∀ (i:Nat) k x,m[i]? =some (k,x)->K (.cA [.d (.bool true), .d (kf k), .d x]) [(id, .nq (enc kf (m.eraseIdx i)) (some (kf k,x)))]):CN K id (enc kf m):=by
 refine⟨fun h=>h0 ?_,fun i k x h=> ?_⟩
 ·cases m with
  |nil=>rfl
  |cons p m=>simp[enc]at h
 ·simp only[enc,List.getElem?_map]at h
  cases hm:m[i]? with
  |none=>rw[hm]at h;cases h
  |some p=>
   rw[hm]at h
   simp at h
   obtain⟨rfl,rfl⟩:=h
   have:=h1 i p.1 p.2 (by rw[hm])
   rwa [<- sP]at this
end
theorem Dj{κ:Type}[BEq κ][LawfulBEq κ]{k:κ}:∀ {m:List (κ×D)} {i j:Nat} {x:D},gh k m i=some (j,x)->i<=j/\m[j - i]? =some (k,x)
 |[],_,_,_,h=>by cases h
 |p::m,i,j,x,h=>by
  simp only[gh]at h
  split at h
  ·rename_i hk
   injection h with h;injection h with h1 h2
   subst h1;subst h2
   exact⟨Nat.le_refl _,by simp[(by simpa using hk:k=p.1)]⟩
  ·obtain⟨h1,h2⟩:=Dj h
   refine⟨ad, ?_⟩
   rw[show j - i=(j - (i+1))+1 by omega]
   simpa using h2
theorem yY{κ:Type}[BEq κ][LawfulBEq κ]{k:κ}:∀ {m:List (κ×D)} {i:Nat},gh k m i=none↔∀p∈m,p.1≠k
 |[],_=>by simp[gh]
 |p::m,i=>by
  simp only[gh]
  split
  ·rename_i hk
   simp[(by simpa using hk:k=p.1)]
  ·rename_i hk
   rw[yY]
   have:p.1≠k:=fun e=>hk (by simp[e])
   simp[this]
def rr(P:Program)(o:Nat->ae)(t:TypeId)(m k v:V):Option gO:=
 match qy P t,eu o k,eu o v,o9 o m with
 |some (kt,_),some kd,some vd,some (some (id,FU,FV),l)=>if k.ids=[]/\oU P 100 kt kd=true/\lz kd=true/\v.ids.all (· !=id)=true then match findD P kt kd l 0 with
  |some (some (i,k',_))=>if k'.same kd=true then some (.cA [],dy o v.ids++[(id, .map FU FV (l.set i (kd,vd)))],id::v.ids)else none
  |some none=>some (.cA [],dy o v.ids++[(id, .map FU FV (l++[(kd,vd)]))],id::v.ids)
  |none=>none
  else none
 |_,_,_,_=>none
@[go_sem low] theorem yZ (P:Program) (o:Nat->ae) (t:TypeId) (m v:V) (k:D):gD P o t m (.d k) v=rr P o t m (.d k) v:=by unfold gD rr;rfl
def wh(P:Program)(o:Nat->ae)(t:TypeId)(m k:V)(ok:Bool):Option gO:=
 match qy P t,eu o k,qz o m with
 |some (kt,vt),some kd,some (rd,l)=>if k.ids=[]/\oU P 100 kt kd=true then match findD P kt kd l 0 with
  |some (some (_,_,x))=>some (if ok=true then .cA [.d x, .d (.bool true)]else .d x,[],rd)
  |some none=>match zeroV P vt with
   |some z=>some (if ok=true then .cA [z, .d (.bool false)]else z,[],rd)
   |none=>none
  |none=>none
  else none
 |_,_,_=>none
@[go_sem low] theorem oH (P:Program) (o:Nat->ae) (t:TypeId) (m:V) (k:D) (ok:Bool):jr P o t m (.d k) ok=wh P o t m (.d k) ok:=by unfold jr wh;rfl
attribute [go_sem] wh rr oA nr ns pc pg nu qz o9 adF o8 lz D.same
end Go.Proofs.YtonbelhklnmjnaaGreat
namespace Go.Proofs.YtonbelhklnmjnaaGreat
theorem dec_lt{l:List UInt8}{i:Nat}{b:UInt8}(hb:l[i]? =some b)(h:b.toNat<128):Utf8.decode ⟨⟨l⟩⟩ i=(b.toNat,1):=by
 have e:(ByteArray.mk ⟨l⟩).get! i=b:=by
  show(Array.mk l)[i]! =b
  simp[hb]
 simp only[Utf8.decode,Nat.add_zero,e]
 rw[if_pos h]
theorem Xj{l:List UInt8}{i:Nat}{b:UInt8}(hb:l[i]? =some b)(h:128<=b.toNat):128<=(Utf8.decode ⟨⟨l⟩⟩ i).1:=by
 have e:(ByteArray.mk ⟨l⟩).get! i=b:=by
  show(Array.mk l)[i]! =b
  simp[hb]
 simp only[Utf8.decode,Nat.add_zero,e]
 rw[if_neg (by omega)]
 split
 ·split<;>simp_all[Utf8.runeError]
 ·split
  ·split
   ·rename_i h3;simp at h3;omega
   ·simp[Utf8.runeError]
  ·split
   ·split
    ·rename_i h3;simp at h3;omega
    ·simp[Utf8.runeError]
   ·simp[Utf8.runeError]
def PH(r:Int):Bool:=decide (97<=r)&&decide (r<=122)||decide (65<=r)&&decide (r<=90)
theorem L0(b:UInt8):PH b.toNat=letterF b:=by
 rw[Bool.eq_iff_iff]
 simp[PH,letterF]
theorem IJ(s:List UInt8)(hs:s.length<=9223372036854775807):aR Tryz.prog 154 [.str s] (.ret [.bool (kE s)]):=by
 refine aR.ay mix R3 au ?_
 rw[VZ]
 refine iP ?_
 refine aE (fun k:Nat=>⟨bz [.d (.str s), .aa, .aa, .aa, .aa, .aa, .ptr 2 0],aK (fun _=> .no) 2 (.zX s k),3⟩)
  (fun k=>k<=s.length/\(s.take k).all letterF=true) (fun k=>s.length - k) 0 ⟨Nat.zero_le _,au⟩ (bE.bS _ ad ad (Good.nil.aK ad rfl) (fun _ _=>rfl) ?_) (fun k hk=> ?_)
 ·exact cz
 by_cases h2:k<s.length
 ·obtain⟨b,hb⟩:=aw h2
  by_cases h3:b.toNat<128
  ·simp+contextual (disch:=first|omega|simp only[go_sem,false_implies]) only[go_sem,wrap64,if_pos,Nat.add_assoc,Nat.left_eq_add,Nat.add_eq_left,Nat.add_left_cancel_iff,h2,dec_lt hb h3]
   have hr:=L0 b
   simp only[PH]at hr
   rw[hr]
   cases hl:letterF b with
   |true=>
    refine aG ?_
    refine ax (k+1) ⟨h2,cl hb hk.2 hl⟩ ad (bE.bS _ ad ad (Good.nil.aK ad rfl) (fun _ _=>by rw[iG]) ?_)
    exact cz
   |false=>
    refine aG ?_
    simp[kE,b8 hb hl]
  ·have hr:letterF b=false:=by
    rw[<- L0];simp[PH];omega
   have hd:=Xj hb ad
   refine BD h2 ?_
   have:(decide (97<=((Utf8.decode ⟨⟨s⟩⟩ k).1:Int))&&decide (((Utf8.decode ⟨⟨s⟩⟩ k).1:Int)<=122)||decide (65<=((Utf8.decode ⟨⟨s⟩⟩ k).1:Int))&&decide (((Utf8.decode ⟨⟨s⟩⟩ k).1:Int)<=90))=false:=by
    rw[Bool.eq_false_iff];intro h;simp at h;omega
   rw[this]
   refine aG ?_
   simp[kE,b8 hb hr]
 ·refine BD h2 ?_
  refine ag (fE _ _ _) rfl ?_
  refine aG ?_
  rw[kE,cm hk.2 (by omega),Bool.true_and]
theorem Dk{σ:Type}(l:List jW)(hl:l.length<=9223372036854775807)(g:Nat)(aL:List V)(base:Nat)(H:σ->Nat->ae)(step:σ->jW->σ×Bool)(hc:∀r∈V.aQ aL,r<base)(ok:σ->Prop)(bA:∀x∈l,∀s,ok s->(step s x).2=true->ok (step s x).1)
 (h:∀x∈l,∀s,ok s->fR Tryz.prog g (.d x.d::aL) base (H s) (H (step s x).1) (.d (.bool (step s x).2))) (s:σ) (gG:ok s):
 fR Tryz.prog 156 [.d (.sl (l.map jW.d)), .func (.func g) [] aL] base (H s) (H (aA step s l).1) (.d (.bool (aA step s l).2)):=by
 intro o nx hI K X hK
 have fN:∀r∈V.aQ aL,r<nx:=fun r hr=>Nat.lt_of_lt_of_le (hc r hr) hI.le
 refine cU.ay mix R5 au ?_
 rw[V1]
 refine b7 ?_
 refine aE (fun i:Nat×σ×(Nat->ae)×Nat=>⟨bz [.aa, .func (.func g) [] aL, .aa, .aa, .aa, .aa, .aa, .d (.sl (l.map jW.d)), .d (.i l.length), .d (.i i.1)],i.2.2.1,i.2.2.2⟩)
  (fun i=>i.1<=l.length/\cW base (H i.2.1) i.2.2.1 i.2.2.2/\nx<=i.2.2.2/\(∀id,base<=id->id<nx->i.2.2.1 id=o id)/\aA step s l=aA step i.2.1 (l.drop i.1)/\ok i.2.1) (fun i=>l.length - i.1) (0,s,o,nx)
  ⟨Nat.zero_le _,hI,Nat.le_refl _,fun _ _ _=>rfl,rfl,gG⟩ ?_ ?_
 ·dsimp only
  refine bE.bS _ (Nat.le_refl _) ad hI.bU (fun _ _=>rfl) ?_
  exact cz
 rintro⟨k,s',o',nx'⟩ ⟨hk,oX,hn,dh,hf,jX⟩
 simp only at hk oX hn dh hf jX
 refine b7 ?_
 refine aq (fun h1=> ?_) (fun h1=> ?_)
 ·simp at h1
  obtain⟨x,hx⟩:=aw h1
  have cw:=List.mem_of_getElem? hx
  have hd:l.drop k=x::l.drop (k+1):=by
   rw[List.drop_eq_getElem_cons h1]
   rw[List.getElem?_eq_getElem h1]at hx;injection hx with hx;rw[hx]
  refine Hr hx ?_
  have hl0:=oX.le
  refine df (h x cw s' jX _ _ (?_:cW base (H s') _ (nx'+7)) _ _ fun o2 n2 m1 m2 m3=> ?_)
  ·exact(oX.aK (i:=nx'+3) (m:=nx'+7) ad ad ad rfl).aK ad ad ad rfl
  have LU:∀id,base<=id->id<nx->o2 id=o id:=fun id h2 h3=>by
   rw[m3 id h2 (by omega),aj _ _ _ _ (by omega),aj _ _ _ _ (by omega),dh id h2 h3]
  refine b7 ?_
  refine aq (fun h2=> ?_) (fun h2=> ?_)
  ·refine b7 ?_
   simp at h2
   have:aA step s l=((step s' x).1,false):=by rw[hf,hd,aA,if_neg (by rw[h2];exact Bool.false_ne_true)]
   rw[this]at hK
   exact hK _ _ ad (m2.mono ad) LU
  ·refine b7 ?_
   simp at h2
   have:aA step s l=aA step (step s' x).1 (l.drop (k+1)):=by rw[hf,hd,aA,if_pos h2]
   refine ax (k+1,(step s' x).1,o2,n2) ⟨h1,m2,by dsimp only;omega,LU,this,bA x cw s' jX h2⟩ mX ?_
   dsimp only
   have Df:∀r∈V.aQ aL,r<n2:=fun r hr=>by have:=fN r hr;omega
   refine bE.bS _ ad ad m2.bU (fun _ _=>rfl) ?_
   exact cz
 ·refine b7 ?_
  simp at h1
  rw[List.drop_eq_nil_of_le h1]at hf
  simp only[aA]at hf
  rw[hf]at hK
  exact hK _ _ ad (oX.mono ad) dh
def p8(l:List (List UInt8)):List (List UInt8×D):=l.map fun s=>(s, .bool true)
theorem IK(l:List (List UInt8))(s:List UInt8):p8 l++[(s, .bool true)]=p8 (l++[s]):=by simp[p8]
theorem IL{l:List (List UInt8)}{s:List UInt8}{i:Nat}{x:D}(h:gh s (p8 l) 0=some (i,x)):x= .bool true/\(p8 l).set i (s, .bool true)=p8 l/\l.any (· ==s)=true:=by
 obtain⟨_,h2⟩:=Dj h
 rw[Nat.sub_zero]at h2
 simp only[p8,List.getElem?_map]at h2
 cases hl:l[i]? with
 |none=>rw[hl]at h2;cases h2
 |some y=>
  rw[hl]at h2
  simp at h2
  obtain⟨rfl,rfl⟩:=h2
  refine⟨rfl, ?_, ?_⟩
  ·apply List.ext_getElem?
   intro j
   rw[List.getElem?_set]
   split
   ·rename_i e;subst e
    obtain⟨db,hy⟩:=List.getElem?_eq_some_iff.1 hl
    simp[p8,db,hy]
   ·rfl
  ·exact List.any_eq_true.2 ⟨y,List.mem_of_getElem? hl,au⟩
theorem IM{l:List (List UInt8)}{s:List UInt8}(h:gh s (p8 l) 0=none):l.any (· ==s)=false:=by
 rw[yY]at h
 rw[List.any_eq_false]
 intro x hx hs
 have:=h (x, .bool true) (by simp[p8];exact hx)
 simp at hs;exact this hs
def PI(bs:List (List UInt8))(x:jW):Bool:= !bs.any (· ==x.name)&&kE x.name&&cP x.args 0 4
def jl(bs:List (List UInt8))(x:jW):List (List UInt8)×Bool:=(if bs.any (· ==x.name)=true then bs else bs++[x.name],PI bs x)
theorem Xk(x:jW)(hx:x.name.length<=9223372036854775807)(base mp id:Nat)(h:Nat->ae)(hmp:h mp= .row [.mp id])(h1:mp<base)(h2:id<base)(h3:id≠mp)(bs:List (List UInt8)):
 fR Tryz.prog 153 [.d x.d, .ptr mp 0] base (aK h id (.map 9 4 (enc .str (p8 bs)))) (aK h id (.map 9 4 (enc .str (p8 (jl bs x).1)))) (.d (.bool (jl bs x).2)):=by
 intro o nx hI K X hK
 have hle:=hI.le
 have hg:=hI.bU
 have q0:o mp= .row [.mp id]:=by rw[hI.eq mp h1,aj _ _ _ _ (by omega),hmp]
 have q1:o id= .map 9 4 (enc .str (p8 bs)):=by rw[hI.eq id h2,ab]
 refine cU.ay mix R2 au ?_
 rw[VY]
 cases ha:gh x.name (p8 bs) 0 with
 |none=>
  have hn:=IM ha
  have hs:jl bs x=(bs++[x.name],kE x.name&&cP x.args 0 4):=by simp[jl,PI,hn]
  rw[hs]at hK
  refine uT q0 q1 ha ?_
  refine ag (IJ _ hx) rfl ?_
  refine aG ?_
  refine gR (fD [.bool (cP x.args 0 4)] ?_ ?_)
  ·refine aG ?_
   exact fun _=>fE _ _ _
  refine aG ?_
  rw[LZ,IK]
  refine hK _ _ ad ⟨dp,ad,fun j hj=> ?_⟩ (fun j g1 g2=>by(repeat(first|rfl|rw[ab]|rw[aj _ _ _ _ (by omega)])))
  ·by_cases e:j=id
   ·subst e;(repeat(first|rfl|rw[ab]|rw[aj _ _ _ _ (by omega)]))
   ·rw[aj _ _ _ _ e,aj _ _ _ _ e,aj _ _ _ _ (by omega),hI.eq j hj,aj _ _ _ _ e]
 |some p=>
  obtain⟨i,y⟩:=p
  obtain⟨rfl,e1,hn⟩:=IL ha
  have hs:jl bs x=(bs,false):=by simp[jl,PI,hn]
  rw[hs]at hK
  refine uT q0 q1 ha ?_
  rw[GM,e1]
  refine hK _ _ ad ⟨dp,ad,fun j hj=> ?_⟩ (fun j g1 g2=>by(repeat(first|rfl|rw[ab]|rw[aj _ _ _ _ (by omega)])))
  ·by_cases e:j=id
   ·subst e;(repeat(first|rfl|rw[ab]|rw[aj _ _ _ _ (by omega)]))
   ·rw[aj _ _ _ _ e,aj _ _ _ _ e,aj _ _ _ _ (by omega),hI.eq j hj,aj _ _ _ _ e]
theorem p9:∀ (l:List jW) (bs:List (List UInt8)),match cC l bs with|some B=>aA jl bs l=(B,true)|none=>(aA jl bs l).2=false
 |[],bs=>rfl
 |x::l,bs=>by
  have ih:=p9 l (bs++[x.name])
  simp only[cC,aA,jl,PI]
  by_cases h1:bs.any (· ==x.name)=true
  ·simp[h1]
  ·simp only[Bool.not_eq_true]at h1
   simp only[h1,Bool.false_eq_true,if_false,Bool.not_false,Bool.true_and]
   by_cases h2:(kE x.name&&cP x.args 0 4)=true
   ·have h3: ¬ ((!kE x.name|| !cP x.args 0 4)=true):=by simp at h2;simp[h2]
    rw[if_neg h3,if_pos h2]
    exact ih
   ·have h3:(!kE x.name|| !cP x.args 0 4)=true:=by
     cases hn:kE x.name<;>simp_all
    rw[if_pos h3,if_neg h2]
def mQ(ok:Bool):Int:=if ok=true then 0 else 2
@[reducible] def IP (s:ba) (bs:List (List UInt8)):Nat->ae:=aK (aK (aK (fun _=> .no) 0 (.row s.row)) 3 (.row [.mp 2])) 2 (.map 9 4 (enc .str (p8 bs)))
theorem wk(s:ba)(hs:s.Fits):aR Tryz.prog 110 [s.d] (.ret [.i (mQ (kF s))]):=by
 refine aR.ay mix RM au ?_
 rw[VJ]
 refine iP ?_
 refine ag (fE _ _ _) rfl ?_
 refine iP ?_
 cases h1:(!cP s.cons.length 2 12||decide (8<(s.bZ.length:Int)))with
 |true=>
  have:kF s=false:=by simp only[kF,h1,if_true]
  refine cg h1 ?_
  simp[this,mQ]
 |false=>
  have Eh:=p9 s.cons []
  have acR:∀ (l:List jW),(∀x∈l,x.name.length<=9223372036854775807)->∀x∈l,∀bs,True->fR Tryz.prog 153 (.d x.d::[.ptr 3 0]) 4 (IP s bs) (IP s (jl bs x).1) (.d (.bool (jl bs x).2)):=fun l hl x hx bs _=>
   Xk x (hl x hx) 4 3 2 (aK (aK (fun _=> .no) 0 (.row s.row)) 3 (.row [.mp 2])) (ab _ _ _) ad ad ad bs
  simp[cP]at h1
  obtain⟨a,b,r,hc⟩:∃a b r,s.cons=a::b::r:=by
   match h:s.cons with
   |[]=>exact Ob
   |[a]=>exact Ob
   |a::b::r=>exact⟨a,b,r,rfl⟩
  have bJ:(!cP s.cons.length 2 12||decide (8<(s.bZ.length:Int)))=false:=by simp[cP];omega
  have IG:kF s=if(!m9 a fB|| !m9 b tB)=true then false else match cC s.cons []with
   |none=>false
   |some l=>(cC s.bZ l).isSome:=by
   unfold kF
   rw[if_neg (by rw[bJ];exact Bool.false_ne_true),hc]
   dsimp only
   rfl
  refine cg bJ ?_
  refine br (Dk s.cons hs.lc 153 [.ptr 3 0] 4 (IP s) jl mc (fun _=>True) (fun _ _ _ _ _=>trivial) (acR s.cons hs.nc) [] trivial _ _ ⟨?_,ad,fun id aC=> ?_⟩ _ _ fun o2 n2 m1 m2 m3=> ?_)
  ·exact dp
  ·rcases(by omega:id=0\/id=1\/id=2\/id=3)with rfl|rfl|rfl|rfl<;>rfl
  have p0:∀ {bs:List (List UInt8)} {o:Nat->ae} {n:Nat},cW 4 (IP s bs) o n->o 0= .row s.row:=fun h=>h.eq 0 ad
  have p3:∀ {bs:List (List UInt8)} {o:Nat->ae} {n:Nat},cW 4 (IP s bs) o n->o 3= .row [.mp 2]:=fun h=>h.eq 3 ad
  cases hn:cC s.cons []with
  |none=>
   rw[hn]at Eh
   simp only at Eh
   rw[Eh]
   refine iP ?_
   rw[IG,hn]
   split<;>rfl
  |some B=>
   rw[hn]at Eh
   simp only at Eh
   rw[Eh]at m2|-
   simp+contextual (disch:=first|omega|simp only[go_sem,false_implies]) only[go_sem,wrap64,if_pos,Nat.add_assoc,Nat.left_eq_add,Nat.add_eq_left,Nat.add_left_cancel_iff,p0 m2]
   refine br (Dk s.bZ hs.lf 153 [.ptr 3 0] 4 (IP s) jl mc (fun _=>True) (fun _ _ _ _ _=>trivial) (acR s.bZ hs.nf) B trivial _ _ (m2.mono ad) _ _ fun o4 n4 k1 k2 k3=> ?_)
   have ND:=p9 s.bZ B
   cases hf:cC s.bZ B with
   |none=>
    rw[hf]at ND
    simp only at ND
    rw[ND]
    refine iP ?_
    rw[IG,hn]
    simp only[hf]
    split<;>rfl
   |some C=>
    rw[hf]at ND
    simp only at ND
    rw[ND]at k2|-
    simp+contextual (disch:=first|omega|simp only[go_sem,false_implies]) only[go_sem,wrap64,if_pos,Nat.add_assoc,Nat.left_eq_add,Nat.add_eq_left,Nat.add_left_cancel_iff,p0 k2,hc]
    have Tl:kF s= !(!m9 a fB|| !m9 b tB):=by
     rw[IG,hn];simp only[hf]
     cases(!m9 a fB|| !m9 b tB)<;>rfl
    refine aq (fun h5=> ?_) (fun h5=> ?_)
    ·refine aG ?_
     have xh:(!m9 a fB|| !m9 b tB)=true:=h5
     rw[Tl,xh];rfl
    ·refine aG ?_
     have xh:(!m9 a fB|| !m9 b tB)=false:=h5
     rw[Tl,xh];rfl
def dg(s:ba)(l:List Tm):Bool:=kF s&&l.all (mF s)
theorem xV{α:Type}(p:α->Bool):∀ (l:List α) (u:Unit),aA (fun _ x=>((),p x)) u l=((),l.all p)
 |[],_=>rfl
 |x::l,u=>by
  simp only[aA,List.all_cons,xV p l]
  cases p x<;>rfl
theorem Fj(l:List Tm)(hl:l.length<=9223372036854775807)(g:Nat)(aL:List V)(base:Nat)(h:Nat->ae)(p:Tm->Bool)(hc:∀r∈V.aQ aL,r<base)
 (hp:∀x∈l,fR Tryz.prog g (.d x.d::aL) base h h (.d (.bool (p x)))):fR Tryz.prog 161 [.d (.sl (l.map Tm.d)), .func (.func g) [] aL] base h h (.d (.bool (l.all p))):=by
 have:=De l hl g aL base (fun _:Unit=>h) (fun _ x=>((),p x)) hc (fun _=>True) (fun _ _ _ _ _=>trivial) (fun x hx _ _=>hp x hx) () trivial
 exact N4
structure Tm.Fin (t:Tm):Prop where
 fits:t.fits
 iE:t.iE<=900000
theorem L1(s:ba)(hs:s.Fits)(t:Tm)(ht:t.Fin)(base sp:Nat)(h:Nat->ae)(vc:h sp= .row s.row)(hb:sp<base):fR Tryz.prog 162 [.d t.d, .ptr sp 0] base h h (.d (.bool (mF s t))):=by
 intro o nx hI K X hK
 have hle:=hI.le
 have hg:=hI.bU
 have q0:o sp= .row s.row:=by rw[hI.eq sp hb,vc]
 refine cU.ay mix Sb au ?_
 rw[V7]
 refine cg q0 ?_
 refine ag (LY s hs t ht.fits ht.iE) rfl ?_
 refine aG ?_
 exact hK _ _ ad ⟨dp,ad,fun j hj=>by rw[aj _ _ _ _ (by omega),hI.eq j hj]⟩ (fun j g1 g2=>by(repeat(first|rfl|rw[ab]|rw[aj _ _ _ _ (by omega)])))
theorem A0(s:ba)(hs:s.Fits)(l:List Tm)(hl:l.length<=9223372036854775807)(hf:∀t∈l,t.Fin):aR Tryz.prog 123 [s.d, .sl (l.map Tm.d)] (.ret [.bool (dg s l)]):=by
 refine aR.ay mix RS au ?_
 rw[VO]
 refine aG ?_
 refine ag (wk s hs) rfl ?_
 cases h1:kF s with
 |false=>
  refine zO ?_
  simp[dg,h1]
 |true=>
  refine zO ?_
  refine br (Fj l hl 162 [.ptr 0 0] 1 (aK (fun _=> .no) 0 (.row s.row)) (mF s) mc (fun x hx=>L1 s hs x (hf x hx) 1 0 _ (ab _ _ _) ad) _ _ ⟨dp,ad,fun id aC=>rfl⟩ _ _ fun o2 n2 m1 m2 m3=> ?_)
  refine aG ?_
  simp[dg,h1]
theorem PJ(s:ba)(hs:s.Fits)(t:Tm)(ht:t.Fin):aR Tryz.prog 188 [s.d,t.d] (.ret [.i (mQ (dg s [t]))]):=by
 refine aR.ay mix SB au ?_
 rw[Wv]
 refine aG ?_
 refine ag (A0 s hs [t] au (fun x hx=>by simp at hx;subst hx;exact ht)) rfl ?_
 cases h1:dg s [t]with
 |false=>exact Ht
 |true=>exact Ht
def Tm.Dl (t:Tm):Int:=(pre t 1).length
structure Tm.xN (t:Tm):Prop extends t.Fin where
 size:t.Dl<=1000000
theorem Tm.Fin.gx {t k:Tm}(h:t.Fin)(hk:k∈t.kids):k.Fin:=⟨((Tm.aJ _).1 h.fits).2 k hk,by have:=Tm.rh hk;have:=h.iE;omega⟩
theorem od:∀ (t:Tm) (d d':Int),(pre t d).length=(pre t d').length:=by
 refine Tm.cB fun t ih d d'=> ?_
 rw[jL,jL]
 simp only[List.length_cons,List.length_flatMap]
 congr 2
 exact List.map_congr_left fun k hk=>ih k hk _ _
theorem Tm.IQ {t k:Tm}(hk:k∈t.kids):k.Dl+1<=t.Dl:=by
 simp only[Tm.Dl]
 rw[jL t,od k 1 (1+1)]
 simp only[List.length_cons,List.length_flatMap]
 have:∀ (l:List Tm),k∈l->(pre k (1+1)).length<=(l.map fun k=>(pre k (1+1)).length).sum:=by
  intro l
  induction l with
  |nil=>intro h;cases h
  |cons x l ih=>
   intro h
   rcases List.mem_cons.1 h with rfl|h
   ·simp only[List.map_cons,List.sum_cons];omega
   ·have:=ih h;simp only[List.map_cons,List.sum_cons];omega
 have:=this _ hk
 omega
theorem Tm.xN.gx {t k:Tm}(h:t.xN)(hk:k∈t.kids):k.xN:=⟨h.toFin.gx hk,by have:=Tm.IQ hk;have:=h.size;omega⟩
def Fk(s:ba)(l:List Tm):Bool:=kF s&&l.all (dV s)
end Go.Proofs.YtonbelhklnmjnaaGreat
