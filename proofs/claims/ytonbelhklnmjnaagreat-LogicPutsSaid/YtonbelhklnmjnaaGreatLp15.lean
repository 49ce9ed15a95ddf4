/-
  A PART OF THE PROOF. Conditions: none.
-/
import Derived.Test.YtonbelhklnmjnaaGreatLp14
set_option linter.unusedSimpArgs false
set_option linter.unusedVariables false
namespace Go.Proofs.YtonbelhklnmjnaaGreat
attribute [go_sem_proc] Int.reduceBEq Int.reduceBNe Int.reduceLT Int.reduceLE Int.reduceEq Int.reduceNe Nat.reducePow Nat.reduceEqDiff Nat.reduceAdd Nat.reduceSub Nat.reduceMul Nat.reduceLeDiff Nat.reduceBEq Nat.reduceLT reduceIte reduceCtorEq Int.reduceToNat
attribute [go_sem] List.range_zero Option.isSome_some and_self List.cons.injEq
theorem BJ(n low high:Int):aR Tryz.prog 135 [.i n, .i low, .i high] (.ret [.bool (cF n low high)]):=by
 refine aR.az mix adN ao ?_
 rw[adM]
 refine b8 ?_
 rfl
theorem De{t:Tm}{left depth:Int}(h:left<1\/depth<1):eB t left depth= -1:=by cases t;simp[eB,h]
theorem pM{l:List Tm}{left depth:Int}(h:left<0):cc l left depth=left:=by
 cases l with
 |nil=>rfl
 |cons k l=>simp[cc,show ¬ (0<=left) by omega]
theorem MQ:∀t:Tm,∀left depth:Int, -1<=eB t left depth/\(1<=left->eB t left depth<=left - 1)/\(left<1->eB t left depth= -1):=by
 refine Tm.ind fun op n kids ih left depth=> ?_
 have hs:∀ (l:List Tm) (left d:Int),(∀k∈l,k∈kids)-> -1<=left-> -1<=cc l left d/\cc l left d<=left:=by
  intro l
  induction l with
  |nil=>intro left d _ h;simp[cc,h]
  |cons k l mX=>
   intro left d hk h
   simp only[cc]
   split
   ·rename_i h0
    have h1:=ih k (hk k ao) left d
    have h2:=mX (eB k left d) d (fun x hx=>hk x lJ) h1.1
    by_cases hl:1<=left
    ·have:=h1.2.1 hl;omega
    ·have:=h1.2.2 ah;omega
   ·omega
 simp only[eB]
 split
 ·rename_i h;refine⟨ah,fun h1=> ?_,fun _=>rfl⟩;omega
 ·rename_i h
  have:=hs kids (left - 1) (depth - 1) (fun _ h=>h) ah
  exact⟨this.1,fun _=>this.2,fun h=>ah⟩
theorem yO(l:List Tm)(left d:Int)(h: -1<=left): -1<=cc l left d/\cc l left d<=left:=by
 induction l generalizing left with
 |nil=>simp[cc,h]
 |cons k l mX=>
  simp only[cc]
  split
  ·have h1:=MQ k left d
   have h2:=mX (eB k left d) h1.1
   by_cases hl:1<=left
   ·have:=h1.2.1 hl;omega
   ·have:=h1.2.2 ah;omega
  ·omega
theorem pc(a b:List Tm)(left d:Int):cc (a++b) left d=cc b (cc a left d) d:=by
 induction a generalizing left with
 |nil=>rfl
 |cons k a ih=>
  simp only[List.cons_append,cc]
  split
  ·exact ih _
  ·rename_i h;rw[pM (by omega)]
theorem tv{l:List Tm}{i:Nat}{k:Tm}(hi:l[i]? =some k)(left d:Int)(h:0<=cc (l.take i) left d):cc (l.take (i+1)) left d=eB k (cc (l.take i) left d) d:=by
 rw[List.take_add_one,hi,pc]
 simp[cc,h]
theorem tw{l:List Tm}{i:Nat}(left d:Int)(h:cc (l.take i) left d<0):cc l left d=cc (l.take i) left d:=by
 conv=>lhs;rw[<- List.take_append_drop i l]
 rw[pc,pM h]
@[reducible] def e8 (cs:List V):Nat->ab:=aK (fun _=> .no) 0 (.row cs)
@[reducible] def sx (cs ds:List V):Nat->ab:=aK (aK (fun _=> .no) 0 (.row cs)) 1 (.row ds)
theorem aV{cs:List V}(h:(ab.row cs).refs.all (fun r=>decide (r<1))=true):Good (e8 cs) 1:=(Good.nil (nx:=1)).aK ah h
theorem dH{cs ds:List V}(h:(ab.row cs).refs.all (fun r=>decide (r<2))=true)(h2:(ab.row ds).refs.all (fun r=>decide (r<2))=true):Good (sx cs ds) 2:=((Good.nil (nx:=2)).aK ah h).aK ah h2
theorem bJ.d1 {e:Nat->V}{so o:Nat->ab}{m:Nat}(l:List V)(hg:Good o 1)(hm:1<=m)(h0:so 0=o 0)(he:kA 1 e l 0):bJ 0 ⟨e,so,m⟩ ⟨bp l,o,1⟩:=
 bJ.bX l (Nat.zero_le _) hm hg (fun id h=>by obtain rfl:id=0:=ah
                                             exact h0) he
theorem bJ.d2 {e:Nat->V}{so o:Nat->ab}{m:Nat}(l:List V)(hg:Good o 2)(hm:2<=m)(h0:so 0=o 0)(h1:so 1=o 1)(he:kA 2 e l 0):bJ 0 ⟨e,so,m⟩ ⟨bp l,o,2⟩:=
 bJ.bX l (Nat.zero_le _) hm hg (fun id h=>by
  rcases(by omega:id=0\/id=1)with rfl|rfl
  ·exact h0
  ·exact h1) he
@[reducible] def Tm.row (t:Tm):List V:=[.d (.i t.op), .d (.i t.n), .d (.sl (t.kids.map Tm.d))]
theorem vS(t:Tm)(left depth:Int):eB t left depth=if left<1\/depth<1 then -1 else cc t.kids (left - 1) (depth - 1):=by cases t;simp[eB,Tm.kids]
theorem uw:∀t:Tm,t.fits->∀left depth:Int, -1<=left/\left<=1000000-> -1<=depth/\depth<=1000000->aR Tryz.prog 63 [t.d, .i left, .i depth] (.ret [.i (eB t left depth)]):=by
 refine Tm.bW fun t ih hf left depth hl hd=> ?_
 have dR:=(Tm.aH _).1 hf
 refine aR.az mix ac8 ao ?_
 rw[c63]
 refine b8 ?_
 refine aj (fun h1=> ?_) (fun h1=> ?_)
 ·refine b8 ?_
  simp at h1
  rw[De h1]
 ·simp at h1
  refine b8 ?_
  rw[wrap64 (n:=left - 1) (by omega) (by omega),vS,if_neg (by omega)]
  refine aF (fun k:Nat=>⟨bp [.aa, .d (.i (cc (t.kids.take k) (left - 1) (depth - 1))), .d (.i depth), .ptr 0 0, .aa, .aa, .aa, .d (.i k)],e8 t.row,1⟩)
   (fun k=>k<=t.kids.length) (fun k=>t.kids.length - k) 0 (Nat.zero_le _) (bJ.d1 _ (aV rfl) ah rfl ?_) (fun k hk=> ?_)
  ·exact cY
  have hb:=yO (t.kids.take k) (left - 1) (depth - 1) ah
  refine b8 ?_
  refine aj (fun h2=> ?_) (fun h2=> ?_)
  ·simp at h2
   obtain⟨x,hx⟩:∃x,t.kids[k]? =some x:=⟨t.kids[k],by simp[h2.1]⟩
   have cz:=List.mem_of_getElem? hx
   refine iq hx ?_
   rw[wrap64 (n:=depth - 1) (by omega) (by omega)]
   refine ai (ih x cz (dR.2 x cz) _ _ ah ah) rfl ?_
   refine b8 ?_
   rw[<- tv hx _ _ h2.2]
   exact SC
  ·refine b8 ?_
   simp only[Bool.and_eq_false_iff,decide_eq_false_iff_not]at h2
   congr 3
   rcases h2 with h2|h2
   ·rw[List.take_of_length_le (by omega)]
   ·exact tw _ _ ah
theorem Zs(s:List UInt8)(hs:s.length<=9223372036854775807):aR Tryz.prog 193 [.str s] (.ret [.bool (kD s)]):=by
 refine aR.az mix ad5 ao ?_
 rw[ad4]
 refine b8 ?_
 refine aF (fun k:Nat=>⟨bp [.d (.str s), .aa, .aa, .d (.i k)],fun _=> .no,0⟩)
  (fun k=>k<=s.length/\(s.take k).all letterF=true) (fun k=>s.length - k) 0 ⟨Nat.zero_le _,ao⟩ (bJ.d0 _ ?_) (fun k hk=> ?_)
 ·exact cY
 refine b8 ?_
 refine aj (fun h2=> ?_) (fun h2=> ?_)
 ·simp at h2
  obtain⟨x,hx⟩:∃x,s[k]? =some x:=⟨s[k],by simp[h2]⟩
  refine iq hx ?_
  refine aj (fun h3=> ?_) (fun h3=> ?_)
  ·refine b8 ?_
   have:kD s=false:=by
    have:s.all letterF=false:=by
     rw[List.all_eq_false]
     refine⟨x,List.mem_of_getElem? hx, ?_⟩
     simp only[letterF,h3];simp
    simp[kD,this]
   rw[this]
  ·refine b8 ?_
   refine au (k+1) ⟨h2, ?_⟩ ah (bJ.d0 _ ?_)
   ·rw[List.take_add_one,hx,List.all_append,hk.2]
    simp[letterF,h3]
   ·exact cY
 ·refine b8 ?_
  refine ai (BJ _ _ _) rfl ?_
  refine b8 ?_
  simp at h2
  have:=hk.2
  rw[List.take_of_length_le (by omega)]at this
  simp[kD,this]
theorem G3(l:List kB)(bs:List (List UInt8))(hl:l.length<=1000)(hb:bs.length<=1000)(hs:∀x∈l,x.name.length<=9223372036854775807):
 aR Tryz.prog 136 [.sl (l.map kB.d), .sl (bs.map .str)] (.ret [.sl (((cm l bs).getD []).map .str), .bool (cm l bs).isSome]):=by
 refine aR.az mix adP ao ?_
 rw[adO]
 refine b8 ?_
 refine aF (fun k:Nat=>⟨bp [.d (.sl (l.map kB.d)), .d (.sl ((bs++(l.take k).map (·.name)).map .str)), .aa, .aa, .aa, .aa, .d (.i k)],fun _=> .no,0⟩)
  (fun k=>k<=l.length/\cm l bs=cm (l.drop k) (bs++(l.take k).map (·.name))) (fun k=>l.length - k) 0 ⟨Nat.zero_le _,ao⟩ (bJ.d0 _ ?_) (fun k hk=> ?_)
 ·simp only[List.take_zero,List.map_nil,List.append_nil]
  exact cY
 refine b8 ?_
 refine aj (fun h2=> ?_) (fun h2=> ?_)
 ·simp at h2
  obtain⟨x,hx⟩:∃x,l[k]? =some x:=⟨l[k],by simp[h2]⟩
  have cz:=List.mem_of_getElem? hx
  have CI:l.drop k=x::l.drop (k+1):=by
   exact Sn
  generalize hB:bs++(l.take k).map (·.name)=B at*
  have hBl:B.length<=2000:=by rw[<- hB];simp;omega
  refine b8 ?_
  refine aF (fun j:Nat=>⟨bp [.d (.sl (l.map kB.d)), .d (.sl (B.map .str)), .aa, .aa, .aa, .aa, .d (.i k), .d (.i j)],fun _=> .no,0⟩)
   (fun j=>j<=B.length/\(B.take j).any (· ==x.name)=false) (fun j=>B.length - j) 0 ⟨Nat.zero_le _,ao⟩ (bJ.d0 _ ?_) (fun j hj=> ?_)
  ·exact cY
  refine b8 ?_
  refine aj (fun h3=> ?_) (fun h3=> ?_)
  ·simp at h3
   obtain⟨y,hy⟩:∃y,B[j]? =some y:=⟨B[j],by simp[h3]⟩
   simp+contextual only[go_sem,hx,hy]
   refine aD bE ?_
   refine b8 ?_
   refine aj (fun h4=> ?_) (fun h4=> ?_)
   ·refine b8 ?_
    have:cm l bs=none:=by
     rw[hk.2,CI,cm,if_pos]
     rw[List.any_eq_true]
     exact⟨y,List.mem_of_getElem? hy,h4⟩
    rw[this];rfl
   ·refine b8 ?_
    refine au (j+1) ⟨h3, ?_⟩ ah (bJ.d0 _ ?_)
    ·rw[List.take_add_one,hy,List.any_append,hj.2]
     simp only[Option.toList_some,List.any_cons,h4,List.any_nil,Bool.or_false]
    ·exact cY
  ·simp at h3
   have Zt:=hj.2
   rw[List.take_of_length_le (by omega)]at Zt
   refine iq hx ?_
   refine ai (Zs x.name (hs x cz)) rfl ?_
   refine iq hx ?_
   refine gR (fC [.bool (cF x.args 0 4)] ?_ ?_)
   ·refine b8 ?_
    exact F6
   refine b8 ?_
   refine aj (fun h4=> ?_) (fun h4=> ?_)
   ·refine b8 ?_
    have:cm l bs=none:=by
     rw[hk.2,CI,cm,if_neg (by rw[Zt];exact Bool.false_ne_true),if_pos h4]
    rw[this];rfl
   ·have e1:B.length<=140737488355328:=ah
    have e2:B.length*16<=140737488355328:=ah
    have e3:B.length<=140737488355327:=ah
    have e4:(B.length+1)*16<=140737488355328:=ah
    simp+contextual only[go_sem,hx,e1,e2,e3,e4]
    refine aD bE ?_
    refine b8 ?_
    have hn:cm l bs=cm (l.drop (k+1)) (bs++(l.take (k+1)).map (·.name)):=by
     rw[hk.2,CI,cm,if_neg (by rw[Zt];exact Bool.false_ne_true),if_neg (by rw[h4];exact Bool.false_ne_true), <- hB,List.take_add_one,hx]
     simp
    refine au (k+1) ⟨h2,hn⟩ ah (bJ.aeo (fun _=>True) 0 _ (Nat.le_refl _) lt0 (fun _ _=>rfl) (fun _ _ _=>rfl) ?_)
    have hB2:(bs++(l.take (k+1)).map (·.name)).map D.str=B.map D.str++[D.str x.name]:=by
     rw[<- hB,List.take_add_one,hx];simp
    rw[hB2]
    exact ud
 ·refine b8 ?_
  simp at h2
  have:cm l bs=some (bs++l.map (·.name)):=by
   rw[hk.2,List.drop_eq_nil_of_le (by omega),cm,List.take_of_length_le (by omega)]
  rw[this,List.take_of_length_le (by omega)]
  rfl
theorem Zu(a b:List UInt8)(m n:Int):rH Tryz.prog 100 104 (.agg [.str a, .i m]) (.agg [.str b, .i n])=some (a==b&&m==n):=by
 have h1:cj Tryz.prog 104=some (.struct [(9,0),(3,1)]):=af
 have h2:cj Tryz.prog 9=some .str:=af
 have h3:cj Tryz.prog 3=some .int:=af
 have h4:dp Tryz.prog 9=some false:=af
 have h5:dp Tryz.prog 3=some false:=af
 simp[rH,h1,h2,h3,h4,h5,BV,Ww,kn,Lt]
@[go_sem] theorem agP (o:Nat->ab) (pw:Bool) (a b:List UInt8) (m n:Int):rE Tryz.prog o 104 pw (.d (.agg [.str a, .i m])) (.d (.agg [.str b, .i n]))=some (.d (.bool (a==b&&m==n))):=by
  obtain⟨fs,h⟩:∃fs,Tryz.prog.underlying 104=some (.struct fs):=structOf af
  have h2:Tryz.prog.eqGuardType Tryz.prog.depth 104=false:=af
  unfold rE
  rw[h]
  dsimp only
  rw[if_pos h2,Zu]
  rfl
theorem I4{l:List kB}{bs B:List (List UInt8)}(h:cm l bs=some B):B=bs++l.map (·.name):=by
 induction l generalizing bs with
 |nil=>simp[cm]at h;simp[h]
 |cons x l ih=>
  simp only[cm]at h
  split at h
  ·cases h
  ·split at h
   ·cases h
   ·rw[ih h];simp
structure aO.Fits (s:aO):Prop where
 lc:s.cons.length<=9223372036854775807
 lf:s.bR.length<=9223372036854775807
 nc:∀x∈s.cons,x.name.length<=9223372036854775807
 nf:∀x∈s.bR,x.name.length<=9223372036854775807
theorem aer(s:aO)(hs:s.Fits):aR Tryz.prog 100 [s.d] (.ret [.bool (kE s)]):=by
 refine aR.az mix adr ao ?_
 rw[adq]
 refine b8 ?_
 refine ai (BJ _ _ _) rfl ?_
 refine b8 ?_
 cases h1:(!cF s.cons.length 2 12||decide (8<(s.bR.length:Int)))with
 |true=>
  refine iq h1 ?_
  simp only[kE,h1,if_true]
 |false=>
  simp[cF]at h1
  obtain⟨a,b,r,hc⟩:∃a b r,s.cons=a::b::r:=by
   match h:s.cons with
   |[]=>exact F7
   |[a]=>exact F7
   |a::b::r=>exact⟨a,b,r,rfl⟩
  have cH:(!cF s.cons.length 2 12||decide (8<(s.bR.length:Int)))=false:=by simp[cF];omega
  simp+contextual only[go_sem,cH,hc]
  have I5:kE s=if(!mV a fB|| !mV b tB)=true then false else match cm s.cons []with
   |none=>false
   |some l=>(cm s.bR l).isSome:=by
   unfold kE
   rw[if_neg (by rw[cH];exact Bool.false_ne_true),hc]
   dsimp only
   rfl
  refine aj (fun h2=> ?_) (fun h2=> ?_)
  ·refine b8 ?_
   have kQ:(!mV a fB|| !mV b tB)=true:=h2
   rw[I5,if_pos kQ]
  ·refine iq hc ?_
   have hl:(a::b::r).length<=1000:=by rw[<- hc];omega
   have hnm:=G3 (a::b::r) [] hl ao (by rw[<- hc];exact hs.nc)
   simp only[List.map_cons,List.map_nil]at hnm
   refine aP hnm ?_
   have kQ:(!mV a fB|| !mV b tB)=false:=h2
   rw[I5,if_neg (by rw[kQ];exact Bool.false_ne_true),hc]
   cases hn:cm (a::b::r) []with
   |none=>simp+contextual only[go_sem,hn]
   |some B=>
    refine iq hn ?_
    have hB:B.length<=1000:=by
     have:=I4 hn
     rw[this];simp at hl|-;omega
    have agQ:=G3 s.bR B ah hB hs.nf
    refine aP agQ ?_
    exact OY
theorem iQ{l:List kB}{n:Int}{x:kB}(h:l[n.toNat]? =some x):dN l n=x.args:=by simp[dN,h]
theorem qc{l:List kB}{n:Int}(h:cF n 0 (l.length - 1)=true):0<=n/\∃x,l[n.toNat]? =some x:=by
 simp[cF]at h
 exact⟨h.1,l[n.toNat]'ah,ao⟩
theorem Zv(s:aO)(t:Tm)(hs:s.Fits)(ht:t.kids.length<=9223372036854775807):aR Tryz.prog 142 [s.d,t.d] (.ret [.bool (bz s t)]):=by
 refine aR.az mix adZ ao ?_
 rw[adY]
 refine b8 ?_
 rcases(by omega:t.op=1\/t.op=2\/t.op=3\/t.op=4\/t.op=5\/t.op=8\/(t.op=6\/t.op=7\/t.op=9\/t.op=10\/t.op=11\/t.op=12\/t.op=13\/t.op=14\/t.op=15)\/(t.op<1\/15<t.op))with h|h|h|h|h|h|h|h
 ·have hn:bz s t=((t.kids.length:Int)==0&&cF t.n 0 19):=by simp[bz,h]
  refine iq h ?_
  refine gR (fC [.bool (cF t.n 0 19)] ?_ ?_)
  ·refine b8 ?_
   exact F6
  exact Gb
 ·have hn:bz s t=((t.kids.length:Int)==0&&cF t.n (-1000000) 1000000):=by simp[bz,h]
  refine iq h ?_
  refine gR (fC [.bool (cF t.n (-1000000) 1000000)] ?_ ?_)
  ·refine b8 ?_
   exact F6
  exact Gb
 ·have hn:bz s t=(cF t.n 0 (s.cons.length - 1)&&(t.kids.length:Int)==dN s.cons t.n):=by simp[bz,h]
  refine iq h ?_
  rw[wrap64 (by have:=hs.lc;omega) (by have:=hs.lc;omega)]
  refine ai (BJ _ _ _) rfl ?_
  cases hI:cF t.n 0 (s.cons.length - 1)with
  |false=>
   exact K8
  |true=>
   exact K5
 ·have hn:bz s t=(cF t.n 0 (s.bR.length - 1)&&(t.kids.length:Int)==dN s.bR t.n):=by simp[bz,h]
  refine iq h ?_
  rw[wrap64 (by have:=hs.lf;omega) (by have:=hs.lf;omega)]
  refine ai (BJ _ _ _) rfl ?_
  cases hI:cF t.n 0 (s.bR.length - 1)with
  |false=>
   exact K8
  |true=>
   exact K5
 ·have hn:bz s t=(cF t.n 0 (s.bR.length - 1)&&decide ((t.kids.length:Int)<dN s.bR t.n)):=by simp[bz,h]
  refine iq h ?_
  rw[wrap64 (by have:=hs.lf;omega) (by have:=hs.lf;omega)]
  refine ai (BJ _ _ _) rfl ?_
  cases hI:cF t.n 0 (s.bR.length - 1)with
  |false=>
   exact K8
  |true=>
   exact K5
 ·have hn:bz s t=((t.kids.length:Int)==2&&cF t.n 0 19):=by simp[bz,h]
  refine iq h ?_
  refine gR (fC [.bool (cF t.n 0 19)] ?_ ?_)
  ·refine b8 ?_
   exact F6
  exact Gb
 ·have hn:bz s t=((t.kids.length:Int)==2&&t.n==0):=by
   rcases h with h|h|h|h|h|h|h|h|h<;>simp[bz,h,cF]
  rw[hn]
  rcases h with h|h|h|h|h|h|h|h|h<;>simp+contextual only[go_sem,h]
 ·have hn:bz s t=false:=by
   simp[bz,cF,show ¬ (t.op=1) by omega,show ¬ (t.op=2) by omega,show ¬ (t.op=3) by omega,show ¬ (t.op=4) by omega,show ¬ (t.op=5) by omega,show ¬ (t.op=8) by omega,show ¬ (6<=t.op/\t.op<=15) by omega]
  have e:∀k:Int,1<=k->k<=15->(t.op==k)=false:=fun k h1 h2=>by simp;omega
  simp+contextual only[go_sem,e 1 (by omega) (by omega),e 2 (by omega) (by omega),e 3 (by omega) (by omega),e 4 (by omega) (by omega),e 5 (by omega) (by omega),e 6 (by omega) (by omega),e 7 (by omega) (by omega),e 8 (by omega) (by omega),e 9 (by omega) (by omega),e 10 (by omega) (by omega),e 11 (by omega) (by omega),e 12 (by omega) (by omega),e 13 (by omega) (by omega),e 14 (by omega) (by omega),e 15 (by omega) (by omega)]
  rw[hn]
theorem dG(s:aO)(t:Tm):eL s t=(bz s t&&t.kids.all (eL s)):=by
 have:∀l:List Tm,uq s l=l.all (eL s):=fun l=>by
  induction l with
  |nil=>rfl
  |cons k l ih=>simp[uq,ih]
 cases t;simp[eL,this,Tm.kids]
theorem b7{α:Type}{l:List α}{p:α->Bool}{k:Nat}{x:α}(hx:l[k]? =some x)(h:p x=false):l.all p=false:=by
 rw[List.all_eq_false];exact⟨x,List.mem_of_getElem? hx,by rw[h];exact Bool.false_ne_true⟩
theorem cT{α:Type}{l:List α}{p:α->Bool}{k:Nat}{x:α}(hx:l[k]? =some x)(h0:(l.take k).all p=true)(h:p x=true):(l.take (k+1)).all p=true:=by
 rw[List.take_add_one,hx,List.all_append,h0];simp[h]
theorem cJ{α:Type}{l:List α}{p:α->Bool}{k:Nat}(h0:(l.take k).all p=true)(h:l.length<=k):l.all p=true:=by
 rwa [List.take_of_length_le h]at h0
theorem aq{α:Type}{l:List α}{k:Nat}(h:k<l.length):∃x,l[k]? =some x:=⟨l[k],by simp[h]⟩
@[reducible] def aO.row (s:aO):List V:=[.d (.sl (s.cons.map kB.d)), .d (.sl (s.bR.map kB.d))]
theorem Qs(s:aO)(hs:s.Fits):∀t:Tm,t.fits->aR Tryz.prog 102 [s.d,t.d] (.ret [.bool (eL s t)]):=by
 refine Tm.bW fun t ih hf=> ?_
 have dR:=(Tm.aH _).1 hf
 refine aR.az mix adv ao ?_
 rw[adu]
 refine b8 ?_
 refine ai (Zv s t hs dR.1) rfl ?_
 refine b8 ?_
 rw[dG]
 refine aj (fun h1=> ?_) (fun h1=> ?_)
 ·refine b8 ?_
  simp at h1;simp[h1]
 ·simp at h1
  rw[h1,Bool.true_and]
  refine b8 ?_
  refine aF (fun k:Nat=>⟨bp [.aa, .aa, .ptr 0 0, .ptr 1 0, .aa, .d (.i k)],sx s.row t.row,2⟩)
   (fun k=>k<=t.kids.length/\(t.kids.take k).all (eL s)=true) (fun k=>t.kids.length - k) 0 ⟨Nat.zero_le _,ao⟩ (bJ.d2 _ (dH rfl rfl) ah rfl rfl ?_) (fun k hk=> ?_)
  ·exact cY
  refine b8 ?_
  refine aj (fun h2=> ?_) (fun h2=> ?_)
  ·simp at h2
   obtain⟨x,hx⟩:=aq h2
   have cz:=List.mem_of_getElem? hx
   refine iq hx ?_
   refine aw (ih x cz (dR.2 x cz)) rfl ?_
   refine b8 ?_
   refine aD bE ?_
   refine b8 ?_
   refine aj (fun h3=> ?_) (fun h3=> ?_)
   ·refine b8 ?_
    simp at h3
    rw[b7 hx h3]
   ·exact RU
  ·refine b8 ?_
   simp at h2
   rw[cJ hk.2 h2]
theorem MR(s:aO)(hs:s.Fits)(t:Tm)(hf:t.fits):aR Tryz.prog 60 [s.d,t.d] (.ret [.bool (ei s t)]):=by
 refine aR.az mix agu ao ?_
 rw[c60]
 refine b8 ?_
 refine ai (uw t hf 40 12 ah ah) rfl ?_
 refine b8 ?_
 refine gR (fC [.bool (eL s t)] ?_ ?_)
 ·refine b8 ?_
  exact fun _=>Qs s hs t hf
 refine b8 ?_
 rfl
theorem jh:∀l l':List Tm,l.length=l'.length->(gS l l'=true↔∀ (i:Nat) (x y:Tm),l[i]? =some x->l'[i]? =some y->aU x y=true)
 |[],l',_=>by simp[gS]
 |k::l,k'::l',h=>by
  simp only[gS,Bool.and_eq_true]
  rw[jh l l' (by simpa using h)]
  constructor
  ·rintro⟨h1,h2⟩ i x y hx hy
   cases i with
   |zero=>simp at hx hy;subst hx;subst hy;exact h1
   |succ i=>exact h2 i x y xN (by simpa using hy)
  ·intro h3
   exact⟨h3 0 k k' rfl rfl,fun i x y hx hy=>h3 (i+1) x y xN (by simpa using hy)⟩
 |_::_,[],h=>by simp at h
theorem nV(a b:Tm):aU a b=(a.op==b.op&&a.n==b.n&&a.kids.length==b.kids.length&&gS a.kids b.kids):=by cases a;cases b;simp[aU,Tm.op,Tm.n,Tm.kids]
theorem Fk:∀a:Tm,a.fits->∀b:Tm,b.fits->aR Tryz.prog 21 [a.d,b.d] (.ret [.bool (aU a b)]):=by
 refine Tm.bW fun t ih hf b hb=> ?_
 have dR:=(Tm.aH _).1 hf
 have J1:=(Tm.aH _).1 hb
 refine aR.az mix ac1 ao ?_
 rw[c21,nV]
 refine b8 ?_
 refine aj (fun h1=> ?_) (fun h1=> ?_)
 ·refine b8 ?_
  have:(t.op==b.op&&t.n==b.n&&t.kids.length==b.kids.length)=false:=by
   exact Lm
  rw[this];rfl
 ·have cH:t.op=b.op/\t.n=b.n/\t.kids.length=b.kids.length:=by
   simp at h1
   refine⟨h1.1.1,h1.1.2,by have:=h1.2;omega⟩
  rw[show(t.op==b.op&&t.n==b.n&&t.kids.length==b.kids.length)=true by simp[cH],Bool.true_and]
  have hl:=cH.2.2
  refine b8 ?_
  refine aF (fun k:Nat=>⟨bp [.aa, .aa, .ptr 0 0, .ptr 1 0, .aa, .d (.i k)],sx t.row b.row,2⟩)
   (fun k=>k<=t.kids.length/\∀i,i<k->∀x y,t.kids[i]? =some x->b.kids[i]? =some y->aU x y=true) (fun k=>t.kids.length - k) 0 ⟨Nat.zero_le _,fun i h=>ah⟩ (bJ.d2 _ (dH rfl rfl) ah rfl rfl ?_) (fun k hk=> ?_)
  ·exact cY
  refine b8 ?_
  refine aj (fun h2=> ?_) (fun h2=> ?_)
  ·simp at h2
   obtain⟨x,hx⟩:=aq h2
   obtain⟨y,hy⟩:=aq (l:=b.kids) (k:=k) ah
   have cz:=List.mem_of_getElem? hx
   have Fl:=List.mem_of_getElem? hy
   simp+contextual only[go_sem,hx,hy]
   refine aw (ih x cz (dR.2 x cz) y (J1.2 y Fl)) rfl ?_
   refine b8 ?_
   refine aD bE ?_
   refine b8 ?_
   refine aj (fun h3=> ?_) (fun h3=> ?_)
   ·refine b8 ?_
    simp at h3
    have:gS t.kids b.kids=false:=by
     rw[Bool.eq_false_iff]
     intro h
     have:=(jh _ _ hl).1 h k x y hx hy
     rw[h3]at this;cases this
    rw[this]
   ·refine b8 ?_
    simp at h3
    refine au (k+1) ⟨h2,fun i hi u v hu hv=> ?_⟩ ah (bJ.d2 _ (dH rfl rfl) ah rfl rfl ?_)
    ·by_cases e:i=k
     ·subst e
      rw[hx]at hu;rw[hy]at hv
      exact RE
     ·exact hk.2 i ah u v hu hv
    ·exact cY
  ·refine b8 ?_
   simp at h2
   have:gS t.kids b.kids=true:=(jh _ _ hl).2 fun i x y hx hy=>hk.2 i (by have:=(List.getElem?_eq_some_iff.1 hx).1;omega) x y hx hy
   rw[this]
theorem AR(t:Tm)(hf:t.fits):aR Tryz.prog 40 [t.d] (.ret [.bool (iE t)]):=by
 refine aR.az mix agf ao ?_
 rw[c40]
 refine b8 ?_
 refine ai (uw t hf 50 14 ah ah) rfl ?_
 refine b8 ?_
 rfl
theorem Fm(s:aO)(hs:s.Fits):aR Tryz.prog 121 [s.d] (.ret [.bool (jg s)]):=by
 refine aR.az mix adJ ao ?_
 rw[adI]
 refine b8 ?_
 refine aj (fun h1=> ?_) (fun h1=> ?_)
 ·refine b8 ?_
  simp only[jg,h1];rfl
 ·have e:jg s=(gJ s.cons&&gJ s.bR):=by simp only[jg,h1];rfl
  rw[e]
  simp at h1
  refine b8 ?_
  refine aF (fun k:Nat=>⟨bp [.aa, .ptr 0 0, .aa, .d (.i k)],e8 s.row,1⟩)
   (fun k=>k<=s.cons.length/\gJ (s.cons.take k)=true) (fun k=>s.cons.length - k) 0 ⟨Nat.zero_le _,by simp[gJ]⟩ (bJ.d1 _ (aV rfl) ah rfl ?_) (fun k hk=> ?_)
  ·exact cY
  refine b8 ?_
  refine aj (fun h2=> ?_) (fun h2=> ?_)
  ·simp at h2
   obtain⟨x,hx⟩:=aq h2
   refine iq hx ?_
   refine aj (fun h3=> ?_) (fun h3=> ?_)
   ·refine b8 ?_
    rw[show gJ s.cons=false from b7 hx (by simpa using h3)];rfl
   ·refine b8 ?_
    refine au (k+1) ⟨h2,cT hx hk.2 (by simpa using h3)⟩ ah (bJ.d1 _ (aV rfl) ah rfl ?_)
    exact cY
  ·simp at h2
   rw[show gJ s.cons=true from cJ hk.2 h2,Bool.true_and]
   refine b8 ?_
   refine aF (fun k:Nat=>⟨bp [.aa, .ptr 0 0, .aa, .aa, .d (.i k)],e8 s.row,1⟩)
    (fun k=>k<=s.bR.length/\gJ (s.bR.take k)=true) (fun k=>s.bR.length - k) 0 ⟨Nat.zero_le _,by simp[gJ]⟩ (bJ.d1 _ (aV rfl) ah rfl ?_) (fun k hk=> ?_)
   ·exact cY
   refine b8 ?_
   refine aj (fun h4=> ?_) (fun h4=> ?_)
   ·simp at h4
    obtain⟨x,hx⟩:=aq h4
    refine iq hx ?_
    refine aj (fun h3=> ?_) (fun h3=> ?_)
    ·refine b8 ?_
     rw[show gJ s.bR=false from b7 hx (by simpa using h3)]
    ·refine b8 ?_
     refine au (k+1) ⟨h4,cT hx hk.2 (by simpa using h3)⟩ ah (bJ.d1 _ (aV rfl) ah rfl ?_)
     exact cY
   ·simp at h4
    rw[show gJ s.bR=true from cJ hk.2 h4]
    exact OY
section
theorem Df{σ:Type}(l:List Tm)(hl:l.length<=9223372036854775807)(g:Nat)(aI:List V)(base:Nat)(H:σ->Nat->ab)(step:σ->Tm->σ×Bool)(hc:∀r∈V.aL aI,r<base)(ok:σ->Prop)(bn:∀x∈l,∀s,ok s->(step s x).2=true->ok (step s x).1)
 (h:∀x∈l,∀s,ok s->fT Tryz.prog g (.d x.d::aI) base (H s) (H (step s x).1) (.d (.bool (step s x).2))) (s:σ) (gH:ok s):
 fT Tryz.prog 161 [.d (.sl (l.map Tm.d)), .func (.func g) [] aI] base (H s) (H (aB step s l).1) (.d (.bool (aB step s l).2)):=by
 intro o nx hI K X hK
 have fN:∀r∈V.aL aI,r<nx:=fun r hr=>Nat.lt_of_lt_of_le (hc r hr) hI.le
 refine cK.az mix Ui ao ?_
 rw[Yo]
 refine b8 ?_
 refine aF (fun i:Nat×σ×(Nat->ab)×Nat=>⟨bp [.aa, .func (.func g) [] aI, .aa, .aa, .aa, .aa, .aa, .d (.sl (l.map Tm.d)), .d (.i l.length), .d (.i i.1)],i.2.2.1,i.2.2.2⟩)
  (fun i=>i.1<=l.length/\cQ base (H i.2.1) i.2.2.1 i.2.2.2/\nx<=i.2.2.2/\(∀id,base<=id->id<nx->i.2.2.1 id=o id)/\aB step s l=aB step i.2.1 (l.drop i.1)/\ok i.2.1) (fun i=>l.length - i.1) (0,s,o,nx)
  ⟨Nat.zero_le _,hI,Nat.le_refl _,fun _ _ _=>rfl,rfl,gH⟩ ?_ ?_
 ·exact H4
 rintro⟨k,s',o',nx'⟩ ⟨hk,rL,hn,dE,hf,kP⟩
 simp only at hk rL hn dE hf kP
 refine b8 ?_
 refine aj (fun h1=> ?_) (fun h1=> ?_)
 ·simp at h1
  obtain⟨x,hx⟩:=aq h1
  have cz:=List.mem_of_getElem? hx
  have hd:l.drop k=x::l.drop (k+1):=by
   exact H3
  refine HP hx ?_
  have hl0:=rL.le
  refine cU (h x cz s' kP _ _ (?_:cQ base (H s') _ (nx'+7)) _ _ fun o2 n2 m1 m2 m3=> ?_)
  ·exact abc
  have MS:∀id,base<=id->id<nx->o2 id=o id:=fun id h2 h3=>by
   exact abl
  refine b8 ?_
  refine aj (fun h2=> ?_) (fun h2=> ?_)
  ·refine b8 ?_
   simp at h2
   have:aB step s l=((step s' x).1,false):=by rw[hf,hd,aB,if_neg (by rw[h2];exact Bool.false_ne_true)]
   rw[this]at hK
   exact hK _ _ ah (m2.mono ah) MS
  ·refine b8 ?_
   simp at h2
   have:aB step s l=aB step (step s' x).1 (l.drop (k+1)):=by rw[hf,hd,aB,if_pos h2]
   refine au (k+1,(step s' x).1,o2,n2) ⟨h1,m2,by dsimp only;omega,MS,this,bn x cz s' kP h2⟩ oN ?_
   dsimp only
   have Dg:∀r∈V.aL aI,r<n2:=fun r hr=>by have:=fN r hr;omega
   refine bJ.bX _ ah ah m2.bQ (fun _ _=>rfl) ?_
   exact cY
 ·exact Sd
theorem AS{α σ:Type}(step:σ->α->σ×Bool)(a b:List α):∀s,aB step s (a++b)=if(aB step s a).2=true then aB step (aB step s a).1 b else((aB step s a).1,false):=by
 induction a with
 |nil=>intro s;simp[aB]
 |cons x a ih=>
  intro s
  simp only[List.cons_append,aB]
  split
  ·exact ih _
  ·rename_i h;simp
theorem pN{α β σ:Type}(step:σ->β->σ×Bool)(f:α->List β)(l:List α):∀s,aB step s (l.flatMap f)=aB (fun s x=>aB step s (f x)) s l:=by
 induction l with
 |nil=>intro s;rfl
 |cons x l ih=>intro s;simp only[List.flatMap_cons,AS,aB,ih]
theorem BF{α σ:Type}{step:σ->α->σ×Bool}{ok:σ->Prop}:∀ (l:List α),(∀x∈l,∀s,ok s->(step s x).2=true->ok (step s x).1)->∀s,ok s->(aB step s l).2=true->ok (aB step s l).1
 |[],_,s,h,_=>h
 |x::l,bn,s,h,h2=>by
  simp only[aB]at h2|-
  split at h2
  ·rename_i hb
   rw[if_pos hb]
   exact BF l (fun y hy=>bn y sV) _ (bn x ao s h hb) h2
  ·cases h2
def RoC(P:Program)(oD:Nat)(args:List V)(base:Nat)(h h2:Nat->ab)(v:V):Prop:=
 ∀o nx,cQ base h o nx->∀K X,StK base h2 v o nx K->eh P oD args o nx K X
section
variable {σ:Type}(base oD:Nat)(H:σ->Nat->ab)(step:σ->Tm×Int->σ×Bool)(ok:σ->Prop)
theorem Qt:∀t:Tm,t.fits->∀d:Int,0<=d->d+t.iN<=1000000->(∀x∈pre t d,∀s,ok s->(step s x).2=true->ok (step s x).1)->(∀x∈pre t d,∀s,ok s->RoC Tryz.prog oD [.d x.1.d, .d (.i x.2)] base (H s) (H (step s x).1) (.d (.bool (step s x).2)))->oD<base->
 ∀ (c:Nat) (o0:Nat->ab) (yb vb:Nat),base<=c->base<=yb->yb<c->base<=vb->vb<c->o0 yb= .row [.jW oD]->o0 vb= .row [.func (.func 246) [] [.ptr yb 0, .ptr vb 0]]->
 ∀s,ok s->fT Tryz.prog 246 [.d t.d, .d (.i d), .ptr yb 0, .ptr vb 0] c (ext base (H s) o0) (ext base (H (aB step s (pre t d)).1) o0) (.d (.bool (aB step s (pre t d)).2)):=by
 refine Tm.bW fun t ih hf d hd0 hd bn hR vT c o0 yb vb Rx Vo hy Vp hv oy ov s gH=> ?_
 have dR:=(Tm.aH _).1 hf
 intro o nx hI K X hK
 have hle:=hI.le
 have Vq:o yb= .row [.jW oD]:=by rw[hI.eq yb hy];unfold ext;rw[if_neg (by omega),oy]
 have Vr:o vb= .row [.func (.func 246) [] [.ptr yb 0, .ptr vb 0]]:=by rw[hI.eq vb hv];unfold ext;rw[if_neg (by omega),ov]
 have y1:yb≠nx:=ah
 have y2:∀k,yb≠nx+k:=fun k=>ah
 have y3:vb≠nx:=ah
 have y4:∀k,vb≠nx+k:=fun k=>ah
 refine cK.az mix Ve ao ?_
 rw[Zj]
 simp+contextual only[go_sem,Vq,Vr,y1,y2,y3,y4,Nat.add_assoc,Nat.left_eq_add,Nat.add_eq_left,Nat.add_left_cancel_iff]
 have tI:=jK t d
 have me:∀k∈t.kids,∀x∈pre k (d+1),x∈pre t d:=fun k hk x hx=>by
  exact VT
 have hb:∀id,id<base->o id=H s id:=fun id aC=>by rw[hI.eq id (by omega)];unfold ext;rw[if_pos aC]
 have hIb:cQ base (H s) o nx:=⟨hI.bQ,ah,hb⟩
 refine nT (hR (t,d) xM s gH _ _ ((hIb.aK (i:=nx) (m:=nx+6) ah ah ah rfl).aK (i:=nx+1) ah ah ah rfl) _ _ fun o2 n2 m1 m2 m3=> ?_)
 have k0:o2 nx= .row t.row:=by rw[m3 nx (by omega) (by omega),ak _ _ _ _ (by omega),ad]
 have k1:o2 (nx+1)= .row [.d (.i d)]:=by rw[m3 (nx+1) (by omega) (by omega),ad]
 have hold:∀id,base<=id->id<nx->o2 id=o id:=fun id h1 h2=>by rw[m3 id h1 (by omega),ak _ _ _ _ (by omega),ak _ _ _ _ (by omega)]
 have HV:∀id,base<=id->id<c->o id=o0 id:=fun id h1 h2=>by rw[hI.eq id h2];unfold ext;rw[if_neg (by omega)]
 cases yP:(step s (t,d)).2 with
 |false=>
  refine iq yP ?_
  have Bw:aB step s (pre t d)=((step s (t,d)).1,false):=by rw[tI,aB,if_neg (by rw[yP];exact Bool.false_ne_true)]
  rw[Bw]at hK
  refine hK _ _ ah ⟨m2.bQ.mono ah,ah,fun id aC=> ?_⟩ (fun id h1 h2=>hold id ah h2)
  unfold ext
  split
  ·exact m2.eq id (by assumption)
  ·exact HU
 |true=>
  have Bw:aB step s (pre t d)=aB (fun s k=>aB step s (pre k (d+1))) (step s (t,d)).1 t.kids:=by rw[tI,aB,if_pos yP,pN]
  simp+contextual only[go_sem,yP,k0,k1]
  have q0:o2 yb= .row [.jW oD]:=by rw[hold yb Vo (by omega),Vq]
  have q1:o2 vb= .row [.func (.func 246) [] [.ptr yb 0, .ptr vb 0]]:=by rw[hold vb Vp (by omega),Vr]
  have m0:=m2.le
  refine bc (Df t.kids dR.1 247 [.ptr vb 0, .ptr (nx+1) 0] n2 (fun s=>ext base (H s) o2) (fun s k=>aB step s (pre k (d+1))) ?_ ok ?_ ?_ (step s (t,d)).1 (bn (t,d) xM s gH yP) _ _ ?_ _ _ ?_)
  ·exact F2
  ·exact abq
  ·intro k hk s' jv o3 n3 Qu K3 X3 hK3
   have l3:=Qu.le
   have r0:o3 vb= .row [.func (.func 246) [] [.ptr yb 0, .ptr vb 0]]:=by rw[Qu.eq vb (by omega)];unfold ext;rw[if_neg (by omega),q1]
   have r1:o3 (nx+1)= .row [.d (.i d)]:=by rw[Qu.eq (nx+1) (by omega)];unfold ext;rw[if_neg (by omega),k1]
   have y5:vb≠n3:=ah
   have y6:∀k,vb≠n3+k:=fun k=>ah
   have y7:nx+1≠n3:=ah
   have y8:∀k,nx+1≠n3+k:=fun k=>ah
   have hh:=Tm.qN hk
   refine cK.az mix Vf ao ?_
   rw[Zk]
   simp+contextual only[go_sem,r0,r1,y5,y6,y7,y8]
   rw[wrap64 (n:=d+1) (by omega) (by omega)]
   refine bc (ih k hk (dR.2 k hk) (d+1) ah ah (fun x hx=>bn x (me k hk x hx)) (fun x hx=>hR x (me k hk x hx)) vT n2 o2 yb vb ah Vo ah Vp ah q0 q1 s' jv _ _ (Qu.aK (i:=n3) (m:=n3+6) ah ah ah rfl) _ _ fun o4 n4 p1 p2 p3=> ?_)
   exact Sa
  ·exact V4
  ·intro o5 n5 p1 p2 p3
   refine b8 ?_
   rw[<- Bw]
   refine hK _ _ ah ⟨p2.bQ.mono ah,ah,fun id aC=> ?_⟩ (fun id h1 h2=> ?_)
   ·rw[p2.eq id (by omega), <- Bw]
    unfold ext
    split
    ·rfl
    ·exact HU
   ·exact Lo
theorem MT(t:Tm)(hf:t.fits)(hd:t.iN<=900000)(bn:∀x∈pre t 1,∀s,ok s->(step s x).2=true->ok (step s x).1)(hR:∀x∈pre t 1,∀s,ok s->RoC Tryz.prog oD [.d x.1.d, .d (.i x.2)] base (H s) (H (step s x).1) (.d (.bool (step s x).2)))(vT:oD<base)(tb:Nat)(HZ:tb<base)(s:σ)(gH:ok s)(cq:H s tb= .row t.row):
 fT Tryz.prog 245 [.jW oD, .ptr tb 0] base (H s) (H (aB step s (pre t 1)).1) (.cg []):=by
 intro o nx hI K X hK
 have hle:=hI.le
 have ot:o tb= .row t.row:=by rw[hI.eq tb HZ,cq]
 have y1:tb≠nx:=ah
 have y2:∀k,tb≠nx+k:=fun k=>ah
 refine cK.az mix Vd ao ?_
 rw[Zi]
 refine VL ot y1 y2 ?_
 have hI1:cQ base (H s) (aK (aK (aK o nx (.row [.jW oD])) (nx+1) (.row [.d .bN])) (nx+1) (.row [.func (.func 246) [] [.ptr nx 0, .ptr (nx+1) 0]])) (nx+6):=by
  refine((hI.aK (i:=nx) (m:=nx+6) ah ah ah ?_).aK (i:=nx+1) (m:=nx+6) ah ah ah rfl).aK (i:=nx+1) ah ah ah ?_
  ·exact KJ
  ·exact mS
 refine bc (Qt base oD H step ok t hf 1 ah ah bn hR vT (nx+6) _ nx (nx+1) ah hle ah ah ah ?_ ?_ s gH _ _ (hI1.ext (Nat.le_refl _) ah) _ _ ?_)
 ·exact dU
 ·exact dU
 intro o2 n2 m1 m2 m3
 refine b8 ?_
 refine hK _ _ ah ⟨m2.bQ,ah,fun id aC=> ?_⟩ (fun id h1 h2=> ?_)
 ·exact zM
 ·exact Le
end
theorem Dh(t:Tm)(o:Nat->ab)(nx:Nat)(K X:V->(Nat->ab)->Nat->Prop)(h:K (.func (.func 245) [] [.ptr nx 0]) (aK o nx (.row t.row)) (nx+4)):cK Tryz.prog 206 [.d t.d] o nx K X:=by
 refine cK.az mix UO ao ?_
 rw[YU]
 refine b8 ?_
 exact h
end
def G4:Option jQ->fX
 |none=> .normal
 |some .ret=> .ret
 |some (.exit j)=> .exit j
def yQ{σ:Type}(J:σ->Option jQ)(step:σ->Tm×Int->σ)(s:σ)(x:Tm×Int):σ×Bool:=(step s x,(J (step s x)).isNone)
theorem AU{σ:Type}(J:σ->Option jQ)(step:σ->Tm×Int->σ):∀ (l:List (Tm×Int)) (s:σ),J s=none->(aB (yQ J step) s l).2=(J (aB (yQ J step) s l).1).isNone
 |[],s,h=>by simp[aB,h]
 |x::l,s,h=>by
  simp only[aB]
  split
  ·rename_i hb
   exact AU J step l _ (by simpa[yQ]using hb)
  ·rename_i hb
   cases hj:J (step s x)with
   |none=>exact absurd (by simp[yQ,hj]) hb
   |some j=>simp[yQ,hj]
theorem tx{σ:Type}(t:Tm)(hf:t.fits)(hd:t.iN<=900000){n bq:Nat}{gq:Operand}{ps:List Nat}{iW eS:IC}{Q:fX->S->Prop}{e:Nat->V}{o:Nat->ab}{nx tb:Nat}(env:List V)(he:lZ e env 0)
 (E9:ps.all (fun t=>decide (t<n))=true) (hl:ps.length=2) (hg:Good o nx) (hrefs:∀r∈V.aL env,r<nx) (ht:o tb= .row t.row)
 (G:σ->Nat->ab) (J:σ->Option jQ) (step:σ->Tm×Int->σ) (ok:σ->Prop) (s0:σ) (gH:ok s0) (RM:J s0=none) (h0:∀id,id<nx->o id=G s0 id) (bn:∀x∈pre t 1,∀s,ok s->J s=none->J (step s x)=none->ok (step s x))
 (mw:∀L,iF Tryz.prog n env ps iW eS L->(∀st pd m,nx<=m->(L st pd).refs.all (fun r=>decide (r<m))=true)->∀x∈pre t 1,∀s,ok s->J s=none->∀o3 n3,cQ nx (G s) o3 n3->nx<n3->o3 nx=L .ready none->∀K X,
  (∀e' o' n' st pd,n3<=n'->cQ nx (G (step s x)) o' n'->o' nx=L st pd->(∀id,nx<id->id<n3->o' id=o3 id)->jL nx K X (G4 (J (step s x))) ⟨e',o',n'⟩)->
  lj Tryz.prog n n3 true iW (nS Tryz.prog n n3 nx eS K X) ⟨nG (bp env) ps [.d x.1.d, .d (.i x.2)],o3,n3⟩)
 (ky:∀o' n',cQ nx (G (aB (yQ J step) s0 (pre t 1)).1) o' n'->pG Q (J (aB (yQ J step) s0 (pre t 1)).1) ⟨e,o',n'⟩):
 xj Tryz.prog n bq false gq ps iW eS Q ⟨e,o,nx⟩ (.func (.func 245) [] [.ptr tb 0]):=by
 refine Fj env he (fun L hL=> ?_)
 have HZ:tb<nx:=hg.lt K0
 let H:σ->Nat->ab:=fun s id=>if id<nx then G s id else if id=nx then(match J s with|none=>L .ready none|some j=>L .done (some j))else .no
 have HW:∀s id,id<nx->H s id=G s id:=fun s id h=>if_pos h
 have OD:∀s,J s=none->H s nx=L .ready none:=fun s h=>by show(if nx<nx then _ else _)=_;rw[if_neg (by omega),if_pos rfl,h]
 have VW:∀s j,J s=some j->H s nx=L .done (some j):=fun s j h=>by show(if nx<nx then _ else _)=_;rw[if_neg (by omega),if_pos rfl,h]
 have xD:∀st pd m,nx<=m->(L st pd).refs.all (fun r=>decide (r<m))=true:=fun st pd m hm=>by
  exact Wr
 refine MT (nx+1) nx H (yQ J step) (fun s=>ok s/\J s=none) t hf hd (fun x hx s h1 h2=> ?_) (fun x hx s h1=> ?_) ah tb ah s0 ⟨gH,RM⟩ KY _ _ ⟨?_,Nat.le_refl _,fun id aC=> ?_⟩ _ _ ?_
 ·have hj:J (step s x)=none:=by simpa[yQ]using h2
  exact⟨bn x hx s h1.1 h1.2 hj,hj⟩
 ·intro o3 n3 hI K X hK
  have hle:=hI.le
  have Kc:o3 nx=L .ready none:=by rw[hI.eq nx (by omega),OD s h1.2]
  refine vR hL mix Kc ah E9 (by simp[hl]) ?_
  refine mw L hL xD x hx s h1.1 h1.2 o3 n3 ⟨hI.bQ,ah,fun id aC=>by rw[hI.eq id (by omega),HW _ _ aC]⟩ ah Kc K X (fun e' o' n' st pd k1 k2 k3 k4=> ?_)
  have key:∀st' pd' b,(J (step s x)).isNone=b->H (step s x) nx=L st' pd'->K (.d (.bool b)) (aK o' nx (L st' pd')) n':=fun st' pd' b hb hh=>by
   subst hb
   refine hK _ _ k1 ⟨k2.bQ.aK ah (xD _ _ _ ah),ah,fun id aC=> ?_⟩ (fun id g1 g2=> ?_)
   ·by_cases uK:id=nx
    ·exact KK
    ·rw[ak _ _ _ _ uK]
     show o' id=H (step s x) id
     exact Kz
   ·exact V2
  cases hj:J (step s x)with
  |none=>exact VZ
  |some j=>
   cases j with
   |ret=>exact VX
   |exit j=>exact VV
 ·exact VY
 ·by_cases uK:id=nx
  ·exact KO
  ·exact VU
 ·intro o' n' k1 k2 k3
  have hle:=k2.le
  generalize hsf:(aB (yQ J step) s0 (pre t 1)).1=sf at*
  have kk:∀st pd,cQ nx (G sf) (aK o' nx (L st pd)) n':=fun st pd=>⟨k2.bQ.aK ah (xD _ _ _ ah),ah,fun id aC=>by rw[ak _ _ _ _ (by omega),k2.eq id (by omega),HW _ _ aC]⟩
  cases hj:J sf with
  |none=>
   refine⟨.ready,none,by rw[k2.eq nx (by omega),OD _ hj],(fun h=>by cases h), ?_⟩
   have:=ky _ _ (kk .exhausted none)
   rwa [hj]at this
  |some j=>
   refine⟨.done,some j,by rw[k2.eq nx (by omega),VW _ _ hj],(fun h=>by cases h), ?_⟩
   have:=ky _ _ (kk .exhausted (some j))
   rwa [hj]at this
theorem ir(n low high:Int):aR Tryz.prog 155 [.i n, .i low, .i high] (.ret [.bool (cF n low high)]):=by
 refine aR.az mix Uc ao ?_
 rw[Yi]
 refine b8 ?_
 rfl
theorem Fo(s:aO)(t:Tm)(h:t.op=1):aR Tryz.prog 238 [s.d,t.d] (.ret [.bool (bz s t)]):=by
 have hn:bz s t=(cF t.n 0 19&&(t.kids.length:Int)==0):=by simp[bz,h,Bool.and_comm]
 refine aR.az mix U6 ao ?_
 rw[Zb]
 exact Lc
theorem I6(s:aO)(t:Tm)(h:t.op=2):aR Tryz.prog 239 [s.d,t.d] (.ret [.bool (bz s t)]):=by
 have hn:bz s t=(cF t.n (-1000000) 1000000&&(t.kids.length:Int)==0):=by simp[bz,h,Bool.and_comm]
 refine aR.az mix U7 ao ?_
 rw[Zc]
 exact Lc
theorem aes(s:aO)(t:Tm)(h:t.op=8):aR Tryz.prog 243 [s.d,t.d] (.ret [.bool (bz s t)]):=by
 have hn:bz s t=(cF t.n 0 19&&(t.kids.length:Int)==2):=by simp[bz,h,Bool.and_comm]
 refine aR.az mix Vb ao ?_
 rw[Zg]
 exact Lc
theorem Zw(s:aO)(t:Tm)(h:t.op=6\/t.op=7\/t.op=9\/t.op=10\/t.op=11\/t.op=12\/t.op=13\/t.op=14\/t.op=15):aR Tryz.prog 244 [s.d,t.d] (.ret [.bool (bz s t)]):=by
 have hn:bz s t=(t.n==0&&(t.kids.length:Int)==2):=by
  rcases h with h|h|h|h|h|h|h|h|h<;>simp[bz,h,cF,Bool.and_comm]
 refine aR.az mix Vc ao ?_
 rw[Zh]
 refine b8 ?_
 rw[hn]
theorem aet(s:aO)(t:Tm)(hs:s.Fits)(h:t.op=3):aR Tryz.prog 240 [s.d,t.d] (.ret [.bool (bz s t)]):=by
 have hn:bz s t=(cF t.n 0 (s.cons.length - 1)&&(t.kids.length:Int)==dN s.cons t.n):=by simp[bz,h]
 refine aR.az mix U8 ao ?_
 rw[Zd]
 refine b8 ?_
 rw[wrap64 (by have:=hs.lc;omega) (by have:=hs.lc;omega)]
 refine aw (ir _ _ _) rfl ?_
 cases hI:cF t.n 0 (s.cons.length - 1)with
 |false=>
  exact Wq
 |true=>
  exact Wh
theorem aeu(s:aO)(t:Tm)(hs:s.Fits)(h:t.op=4):aR Tryz.prog 241 [s.d,t.d] (.ret [.bool (bz s t)]):=by
 have hn:bz s t=(cF t.n 0 (s.bR.length - 1)&&(t.kids.length:Int)==dN s.bR t.n):=by simp[bz,h]
 refine aR.az mix U9 ao ?_
 rw[Ze]
 refine b8 ?_
 rw[wrap64 (by have:=hs.lf;omega) (by have:=hs.lf;omega)]
 refine aw (ir _ _ _) rfl ?_
 cases hI:cF t.n 0 (s.bR.length - 1)with
 |false=>
  exact Wq
 |true=>
  exact Wh
theorem Zx(s:aO)(t:Tm)(hs:s.Fits)(h:t.op=5):aR Tryz.prog 242 [s.d,t.d] (.ret [.bool (bz s t)]):=by
 have hn:bz s t=(cF t.n 0 (s.bR.length - 1)&&decide ((t.kids.length:Int)<dN s.bR t.n)):=by simp[bz,h]
 refine aR.az mix Va ao ?_
 rw[Zf]
 refine b8 ?_
 rw[wrap64 (by have:=hs.lf;omega) (by have:=hs.lf;omega)]
 refine aw (ir _ _ _) rfl ?_
 cases hI:cF t.n 0 (s.bR.length - 1)with
 |false=>
  exact Wq
 |true=>
  exact Wh
@[reducible] def rf (n:Nat):V:= .func (.func n) [] []
@[reducible] def agR:List V:=[.d .bN,rf 238,rf 239,rf 240,rf 241,rf 242, .d .bN, .d .bN,rf 243, .d .bN, .d .bN, .d .bN, .d .bN, .d .bN, .d .bN, .d .bN]
@[reducible] def Fq:List V:=[.d .bN,rf 238,rf 239,rf 240,rf 241,rf 242,rf 244,rf 244,rf 243,rf 244,rf 244,rf 244,rf 244,rf 244,rf 244,rf 244]
def Kh(k:Nat):List V:=Fq.take k++agR.drop k
theorem funcOf{P:Program}{t:TypeId}(h:(match P.underlying t with|some (.func _ _ _)=>true|_=>false)=true):∃a b c,P.underlying t=some (.func a b c):=by
 split at h
 ·exact⟨_,_,_,by assumption⟩
 ·cases h
@[go_sem] theorem agS (o:Nat->ab) (pw:Bool):rE Tryz.prog o 188 pw (.d .bN) (.d .bN)=some (.d (.bool true)):=by
  exact SJ
@[go_sem] theorem agT (o:Nat->ab) (pw:Bool) (f:Fn) (x y:List V):rE Tryz.prog o 188 pw (.func f x y) (.d .bN)=some (.d (.bool false)):=by
  exact SJ
theorem Qv(base:Nat)(h:Nat->ab):fT Tryz.prog 205 [] base h h (.agg Fq):=by
 intro o nx hI K X hK
 have hle:=hI.le
 refine cK.az mix UN ao ?_
 rw[YT]
 simp+contextual only[go_sem,Nat.add_assoc,Nat.left_eq_add,Nat.add_eq_left,Nat.add_left_cancel_iff]
 refine aF (fun k:Nat=>⟨bp [.ptr nx 0, .ptr (nx+2) 0, .aa, .aa, .d (.i k)],aK (aK o nx (.row (List.replicate 16 (.d .bN)))) (nx+2) (.row (Kh k)),nx+5⟩)
  (fun k=>k<=16) (fun k=>16 - k) 0 (Nat.zero_le _) ?_ (fun k hk=> ?_)
 ·refine bJ.bX _ ah ah ?_ (fun id aC=> ?_) ?_
  ·exact((hI.bQ.mono ah).aK ah rfl).aK ah rfl
  ·rw[jt];rfl
  ·exact cY
 have hg:∀k,k<16->Good (aK (aK o nx (.row (List.replicate 16 (.d .bN)))) (nx+2) (.row (Kh (k+1)))) (nx+5):=fun k hk=>
  ((hI.bQ.mono ah).aK ah rfl).aK ah (by
    rcases(by omega:k=0\/k=1\/k=2\/k=3\/k=4\/k=5\/k=6\/k=7\/k=8\/k=9\/k=10\/k=11\/k=12\/k=13\/k=14\/k=15)with rfl|rfl|rfl|rfl|rfl|rfl|rfl|rfl|rfl|rfl|rfl|rfl|rfl|rfl|rfl|rfl<;>rfl)
 by_cases agU:k=16
 ·subst agU
  refine aaX ?_
  refine hK _ _ ?_ ⟨?_, ?_,fun id aC=> ?_⟩ (fun id h1 h2=> ?_)
  rotate_left
  ·exact(((hI.bQ.mono ah).aK ah rfl).aK ah rfl).aK ah rfl
  ·omega
  ·(repeat(first|rfl|rw[ad]|rw[ak _ _ _ _ (by omega)]))
   exact hI.eq id aC
  ·exact dU
  ·omega
 ·have hgk:=hg k ah
  obtain⟨k1,OK⟩:∃k1,k1=k+1:=⟨_,rfl⟩
  rw[<- OK]at hgk
  rcases(by omega:k=0\/k=1\/k=2\/k=3\/k=4\/k=5\/k=6\/k=7\/k=8\/k=9\/k=10\/k=11\/k=12\/k=13\/k=14\/k=15)with rfl|rfl|rfl|rfl|rfl|rfl|rfl|rfl|rfl|rfl|rfl|rfl|rfl|rfl|rfl|rfl
  all_goals
   refine aaX ?_
   refine au k1 ah ah (bJ.bX _ ah ah hgk (fun id aC=> ?_) ?_)
   all_goals subst OK
   ·first|rfl|(rw[jt];rfl)
   ·exact cY
def MU(n:Int):Nat:=if n=1 then 238 else if n=2 then 239 else if n=3 then 240 else if n=4 then 241 else if n=5 then 242 else if n=8 then 243 else 244
theorem Zy(s:aO)(t:Tm)(hs:s.Fits)(h:cF t.op 1 15=true):aR Tryz.prog (MU t.op) [s.d,t.d] (.ret [.bool (bz s t)])/\Fq[t.op.toNat]? =some (rf (MU t.op))/\0<=t.op/\t.op<16:=by
 simp[cF]at h
 rcases(by omega:t.op=1\/t.op=2\/t.op=3\/t.op=4\/t.op=5\/t.op=8\/(t.op=6\/t.op=7\/t.op=9\/t.op=10\/t.op=11\/t.op=12\/t.op=13\/t.op=14\/t.op=15))with h|h|h|h|h|h|h
 ·exact⟨by rw[h];exact Fo s t h,by rw[h];rfl,ah,ah⟩
 ·exact⟨by rw[h];exact I6 s t h,by rw[h];rfl,ah,ah⟩
 ·exact⟨by rw[h];exact aet s t hs h,by rw[h];rfl,ah,ah⟩
 ·exact⟨by rw[h];exact aeu s t hs h,by rw[h];rfl,ah,ah⟩
 ·exact⟨by rw[h];exact Zx s t hs h,by rw[h];rfl,ah,ah⟩
 ·exact⟨by rw[h];exact aes s t h,by rw[h];rfl,ah,ah⟩
 ·have hp:=Zw s t h
  rcases h with h|h|h|h|h|h|h|h|h<;>exact⟨by rw[h];exact hp,by rw[h];rfl,ah,ah⟩
def oR(s:aO)(n:Int)(x:Tm×Int):Bool:=decide (40<n+1)||decide (12<x.2)|| !cF x.1.op 1 15|| !bz s x.1
def iG(s:aO)(n:Int×Bool)(x:Tm×Int):Int×Bool:=(n.1+1, !oR s n.1 x)
def fJ(n:Int×Bool):Option jQ:=if n.2=true then none else some .ret
def mC(s:aO)(t:Tm):Bool:=(aB (yQ fJ (iG s)) (0,true) (pre t 1)).2
theorem MV(s:aO)(hs:s.Fits)(t:Tm)(hf:t.fits)(hd:t.iN<=900000):aR Tryz.prog 163 [s.d,t.d] (.ret [.bool (mC s t)]):=by
 refine aR.az mix Uk ao ?_
 rw[Yq]
 refine b8 ?_
 refine c7 (Qv 3 _ _ _ (?_:cQ 3 (aK (aK (aK (fun _=> .no) 0 (.row s.row)) 1 (.row t.row)) 2 (.row [.d (.bool false)])) _ 3) _ _ fun o2 n2 m1 m2 m3=> ?_)
 ·exact⟨dB,Nat.le_refl _,fun _ _=>rfl⟩
 have p0:o2 0= .row s.row:=m2.eq 0 ah
 have p1:o2 1= .row t.row:=m2.eq 1 ah
 have p2:o2 2= .row [.d (.bool false)]:=m2.eq 2 ah
 have e0:0≠n2:=ah
 have e1:1≠n2:=ah
 have e2:2≠n2:=ah
 have e3:∀k,0≠n2+k:=fun k=>ah
 have e4:∀k,1≠n2+k:=fun k=>ah
 have e5:∀k,2≠n2+k:=fun k=>ah
 simp+contextual only[go_sem,p0,p1,p2,e0,e1,e2,e3,e4,e5,Nat.add_assoc,Nat.left_eq_add,Nat.add_eq_left,Nat.add_left_cancel_iff]
 refine c7 (Dh t _ _ _ _ ?_)
 refine b8 ?_
 have hG0:∀n,Good (aK (aK (aK (aK (aK (aK o2 n2 (.row (List.replicate 16 (.d .bN)))) (n2+1) (.row [.d (.i 0)])) n2 (.row Fq)) (n2+1) (.row [.d (.i 0)])) (n2+5) (.row t.row)) (n2+1) (.row [.d (.i n)])) (n2+9):=fun n=>by
  have hg:=m2.bQ
  exact dB
 refine tx t hf hd [.aa, .aa, .ptr 0 0, .aa, .ptr 2 0, .ptr n2 0, .ptr (n2+1) 0] ?_ bE rfl ?_ F2 (ad _ _ _)
  (fun s=>aK (aK (aK (aK (aK (aK o2 n2 (.row (List.replicate 16 (.d .bN)))) (n2+1) (.row [.d (.i 0)])) n2 (.row Fq)) (n2+1) (.row [.d (.i 0)])) (n2+5) (.row t.row)) (n2+1) (.row [.d (.i s.1)]))
  fJ (iG s) (fun s=>0<=s.1/\s.1<=40) (0,true) ⟨bE,bE⟩ rfl ?_ ?_ ?_ ?_
 ·exact Ko
 ·have hg:=m2.bQ
  exact dB
 ·intro id aC
  by_cases h:id=n2+1
  ·subst h;(repeat(first|rfl|rw[ad]|rw[ak _ _ _ _ (by omega)]))
  ·rw[ak _ _ _ _ h];rfl
 ·intro x hx s' h1 h2 h3
  have:oR s s'.1 x=false:=by simpa[fJ,iG]using h3
  simp[oR]at this
  simp only[iG]
  omega
 ·intro L hL xD x hx s' h1 h2 o3 n3 hI hn ho K X cR
  simp only[nG]
  have hg:=hI.bQ
  have q0:o3 0= .row s.row:=by
   rw[hI.eq 0 (by omega)];(repeat(first|rfl|rw[ad]|rw[ak _ _ _ _ (by omega)]))
   exact p0
  have q2:o3 2= .row [.d (.bool false)]:=by
   exact Sl
  have q3:o3 n2= .row Fq:=by rw[hI.eq n2 (by omega)];(repeat(first|rfl|rw[ad]|rw[ak _ _ _ _ (by omega)]))
  have q4:o3 (n2+1)= .row [.d (.i s'.1)]:=by rw[hI.eq (n2+1) (by omega)];(repeat(first|rfl|rw[ad]|rw[ak _ _ _ _ (by omega)]))
  have fin:∀ (o':Nat->ab) (n':Nat),(∀id,id<n2+5+4->o' id=aK o3 (n2+1) (.row [.d (.i (s'.1+1))]) id)->Good o' n'->n3<=n'->cQ (n2+5+4) (aK (aK (aK (aK (aK (aK o2 n2 (.row (List.replicate 16 (.d .bN)))) (n2+1) (.row [.d (.i 0)])) n2 (.row Fq)) (n2+1) (.row [.d (.i 0)])) (n2+5) (.row t.row)) (n2+1) (.row [.d (.i (iG s s' x).1)])) o' n':=by
   intro o' n' k1 k2 k3
   refine⟨k2,ah,fun id aC=> ?_⟩
   rw[k1 id aC]
   by_cases h:id=n2+1
   ·subst h;rw[ad,ad];rfl
   ·rw[ak _ _ _ _ h,ak _ _ _ _ h,hI.eq id aC,ak _ _ _ _ h]
  refine b8 ?_
  refine nU hL (pd:=none) ?_ ?_
  ·(repeat(first|rfl|rw[ad]|rw[ak _ _ _ _ (by omega)]))
   exact ho
  cases c1:decide (40<s'.1+1)with
  |true=>
   have hJ:fJ (iG s s' x)=some .ret:=by simp[fJ,iG,oR,c1]
   rw[hJ]at cR
   refine OW q0 q2 q3 q4 c1 ?_
   exact V9
  |false=>
  cases c2:decide (12<x.2)with
  |true=>
   have hJ:fJ (iG s s' x)=some .ret:=by simp[fJ,iG,oR,c2]
   rw[hJ]at cR
   simp+contextual (disch:=first|omega|simp only[go_sem,false_implies]) only[go_sem,wrap64,if_pos,q0,q2,q3,q4,c1,c2]
   exact V9
  |false=>
  cases c3:cF x.1.op 1 15 with
  |false=>
   have hJ:fJ (iG s s' x)=some .ret:=by simp[fJ,iG,oR,c3]
   rw[hJ]at cR
   simp+contextual (disch:=first|omega|simp only[go_sem,false_implies]) only[go_sem,wrap64,if_pos,q0,q2,q3,q4,c1,c2]
   refine aw (ir _ _ _) rfl ?_
   simp+contextual (disch:=first|omega|simp only[go_sem,false_implies]) only[go_sem,wrap64,if_pos,q0,q2,q3,q4,c1,c2,c3]
   exact V9
  |true=>
  obtain⟨r1,r2,r3,r4⟩:=Zy s x.1 hs c3
  simp+contextual (disch:=first|omega|simp only[go_sem,false_implies]) only[go_sem,wrap64,if_pos,q0,q2,q3,q4,c1,c2]
  refine aw (ir _ _ _) rfl ?_
  simp+contextual (disch:=first|omega|simp only[go_sem,false_implies]) only[go_sem,wrap64,if_pos,q0,q2,q3,q4,c1,c2,c3,r2,r3,r4,Nat.mul_one]
  refine aw r1 rfl ?_
  simp+contextual (disch:=first|omega|simp only[go_sem,false_implies]) only[go_sem,wrap64,if_pos,q0,q2,q3,q4,c1,c2,c3]
  refine aD (aZ rfl) ?_
  cases c4:bz s x.1 with
  |false=>
   have hJ:fJ (iG s s' x)=some .ret:=by simp[fJ,iG,oR,c4]
   rw[hJ]at cR
   simp+contextual (disch:=first|omega|simp only[go_sem,false_implies]) only[go_sem,wrap64,if_pos,q2,c4]
   refine cR _ _ _ .busy none ah (fin _ _ (fun id aC=>zK) dB ah) dU (fun id h3 h4=>by(repeat(first|rfl|rw[ad]|rw[ak _ _ _ _ (by omega)])))
  |true=>
   have hJ:fJ (iG s s' x)=none:=by simp[fJ,iG,oR,c1,c2,c3,c4]
   rw[hJ]at cR
   simp+contextual (disch:=first|omega|simp only[go_sem,false_implies]) only[go_sem,wrap64,if_pos,c4]
   refine cR _ _ _ .busy none ah (fin _ _ (fun id aC=>zK) dB ah) dU (fun id h3 h4=>by(repeat(first|rfl|rw[ad]|rw[ak _ _ _ _ (by omega)])))
 ·intro o' n' hI
  have q2:o' 2= .row [.d (.bool false)]:=by
   exact Sl
  rw[show mC s t=(fJ (aB (yQ fJ (iG s)) (0,true) (pre t 1)).1).isNone from AU _ _ _ _ rfl]
  generalize (aB (yQ fJ (iG s)) (0,true) (pre t 1)).1=sf at*
  cases hj:fJ sf with
  |none=>
   simp only[pG]
   refine dc q2 ?_
   rfl
  |some j=>
   have:j= .ret:=by
    unfold fJ at hj;split at hj
    ·cases hj
    ·injection hj with hj;exact hj.symm
   subst this
   simp only[pG]
   refine dc q2 ?_
   rfl
section
def enc{κ:Type}(kf:κ->D)(m:List (κ×D)):List (D×D):=m.map fun p=>(kf p.1,p.2)
def eM{κ:Type}[BEq κ](k:κ):List (κ×D)->Nat->Option (Nat×D)
 |[],_=>none
 |p::m,i=>if(k==p.1)=true then some (i,p.2)else eM k m (i+1)
def tV{κ:Type}[BEq κ](k:κ)(x:D)(m:List (κ×D)):List (κ×D):=match eM k m 0 with|some (i,_)=>m.set i (k,x)|none=>m++[(k,x)]
def aev{κ:Type}[BEq κ](k:κ)(m:List (κ×D)):List (κ×D):=match eM k m 0 with|some (i,_)=>m.eraseIdx i|none=>m
def xp(d:D)(r:Option (Nat×D)):Option (Nat×D×D):=match r with|some (i,x)=>some (i,d,x)|none=>none
@[go_sem] theorem aaO (d:D) (i:Nat) (x:D):xp d (some (i,x))=some (i,d,x):=rfl
@[go_sem] theorem aaP (d:D):xp d none=none:=rfl
section
variable {P:Program}{kt:TypeId}
theorem Qw(h:cj P kt=some .int)(a b:Int):rH P 100 kt (.int .i64 a) (.int .i64 b)=some (a==b):=by simp[rH,h]
theorem Qx(h:cj P kt=some .str)(a b:List UInt8):rH P 100 kt (.str a) (.str b)=some (a==b):=by simp[rH,h]
@[go_sem] theorem G5 (h:cj P kt=some .int) (a:Int):oQ P 100 kt (.int .i64 a)=true:=by simp[oQ,h]
@[go_sem] theorem ae6 (h:cj P kt=some .str) (a:List UInt8):oQ P 100 kt (.str a)=true:=by simp[oQ,h]
theorem vU{κ:Type}[BEq κ][LawfulBEq κ](kf:κ->D)(he:∀a b,rH P 100 kt (kf a) (kf b)=some (a==b))(k:κ):∀ (m:List (κ×D)) (i:Nat),findD P kt (kf k) (enc kf m) i=some (xp (kf k) (eM k m i))
 |[],_=>rfl
 |p::m,i=>by
  have ih:=vU kf he k m (i+1)
  simp only[enc,List.map_cons,findD,he,eM]at ih|-
  by_cases h:k=p.1
  ·subst h;simp[xp]
  ·have:(k==p.1)=false:=by simpa using h
   simp only[this,Bool.false_eq_true,if_false];exact ih
@[go_sem] theorem Di (h:cj P kt=some .int) (k:Int) (m:List (Int×D)):findD P kt (.int .i64 k) (enc (.int .i64) m) 0=some (xp (.int .i64 k) (eM k m 0)):=vU (.int .i64) (Qw h) k m 0
@[go_sem] theorem aew (h:cj P kt=some .str) (k:List UInt8) (m:List (List UInt8×D)):findD P kt (.str k) (enc .str m) 0=some (xp (.str k) (eM k m 0)):=vU .str (Qx h) k m 0
end
section
variable {κ:Type}(kf:κ->D)
theorem MW(m:List (κ×D))(k:κ)(x:D):enc kf m++[(kf k,x)]=enc kf (m++[(k,x)]):=by simp[enc]
theorem G6(m:List (κ×D))(i:Nat)(k:κ)(x:D):(enc kf m).set i (kf k,x)=enc kf (m.set i (k,x)):=by simp[enc,List.map_set]
theorem sA:∀ (m:List (κ×D)) (i:Nat),(enc kf m).eraseIdx i=enc kf (m.eraseIdx i)
 |[],i=>rfl
 |p::m,0=>rfl
 |p::m,i+1=>by
  have:=sA m i
  simp only[enc,List.map_cons,List.eraseIdx_cons_succ]at this|-
  rw[this]
theorem G7(m:List (κ×D)):(((enc kf m).map (·.1)).zip ((enc kf m).map (·.2)))=enc kf m:=by
 induction m with
 |nil=>rfl
 |cons p m ih=>simp only[enc,List.map_cons,List.zip_cons_cons]at ih|-;rw[ih]
theorem yR{K:V->List (Nat×ab)->Prop}{id:Nat}{m:List (κ×D)}(h0:m=[]->K (.cg [.d (.bool false)]) [])
 (h1:∀ (i:Nat) k x,m[i]? =some (k,x)->K (.cg [.d (.bool true), .d (kf k), .d x]) [(id, .nh (enc kf (m.eraseIdx i)) (some (kf k,x)))]):CP K id (enc kf m):=by
 refine⟨fun h=>h0 ?_,fun i k x h=> ?_⟩
 ·cases m with
  |nil=>rfl
  |cons p m=>simp[enc]at h
 ·simp only[enc,List.getElem?_map]at h
  cases hm:m[i]? with
  |none=>rw[hm]at h;cases h
  |some p=>
   rw[hm]at h
   simp at h
   obtain⟨rfl,rfl⟩:=h
   have:=h1 i p.1 p.2 (by rw[hm])
   rwa [<- sA]at this
end
theorem Dj{κ:Type}[BEq κ][LawfulBEq κ]{k:κ}:∀ {m:List (κ×D)} {i j:Nat} {x:D},eM k m i=some (j,x)->i<=j/\m[j - i]? =some (k,x)
 |[],_,_,_,h=>by cases h
 |p::m,i,j,x,h=>by
  simp only[eM]at h
  split at h
  ·rename_i hk
   injection h with h;injection h with h1 h2
   subst h1;subst h2
   exact⟨Nat.le_refl _,by simp[(by simpa using hk:k=p.1)]⟩
  ·obtain⟨h1,h2⟩:=Dj h
   refine⟨ah, ?_⟩
   rw[show j - i=(j - (i+1))+1 by omega]
   simpa using h2
theorem yS{κ:Type}[BEq κ][LawfulBEq κ]{k:κ}:∀ {m:List (κ×D)} {i:Nat},eM k m i=none↔∀p∈m,p.1≠k
 |[],_=>by simp[eM]
 |p::m,i=>by
  simp only[eM]
  split
  ·rename_i hk
   simp[(by simpa using hk:k=p.1)]
  ·rename_i hk
   rw[yS]
   have:p.1≠k:=fun e=>hk (by simp[e])
   simp[this]
def qU(P:Program)(o:Nat->ab)(t:TypeId)(m k v:V):Option gN:=
 match px P t,ew o k,ew o v,oX o m with
 |some (kt,_),some kd,some vd,some (some (id,Gg,Gh),l)=>if k.ids=[]/\oQ P 100 kt kd=true/\ly kd=true/\v.ids.all (· !=id)=true then match findD P kt kd l 0 with
  |some (some (i,k',_))=>if k'.same kd=true then some (.cg [],dk o v.ids++[(id, .map Gg Gh (l.set i (kd,vd)))],id::v.ids)else none
  |some none=>some (.cg [],dk o v.ids++[(id, .map Gg Gh (l++[(kd,vd)]))],id::v.ids)
  |none=>none
  else none
 |_,_,_,_=>none
@[go_sem low] theorem yT (P:Program) (o:Nat->ab) (t:TypeId) (m v:V) (k:D):gE P o t m (.d k) v=qU P o t m (.d k) v:=by unfold gE qU;rfl
def vV(P:Program)(o:Nat->ab)(t:TypeId)(m k:V)(ok:Bool):Option gN:=
 match px P t,ew o k,ql o m with
 |some (kt,vt),some kd,some (rd,l)=>if k.ids=[]/\oQ P 100 kt kd=true then match findD P kt kd l 0 with
  |some (some (_,_,x))=>some (if ok=true then .cg [.d x, .d (.bool true)]else .d x,[],rd)
  |some none=>match zeroV P vt with
   |some z=>some (if ok=true then .cg [z, .d (.bool false)]else z,[],rd)
   |none=>none
  |none=>none
  else none
 |_,_,_=>none
@[go_sem low] theorem oE (P:Program) (o:Nat->ab) (t:TypeId) (m:V) (k:D) (ok:Bool):iy P o t m (.d k) ok=vV P o t m (.d k) ok:=by unfold iy vV;rfl
attribute [go_sem] vV qU ow ni nj oY oZ nk ql oX afq oW ly D.same
end
theorem dec_lt{l:List UInt8}{i:Nat}{b:UInt8}(hb:l[i]? =some b)(h:b.toNat<128):Utf8.decode ⟨⟨l⟩⟩ i=(b.toNat,1):=by
 have e:(ByteArray.mk ⟨l⟩).get! i=b:=by
  show(Array.mk l)[i]! =b
  simp[hb]
 simp only[Utf8.decode,Nat.add_zero,e]
 rw[if_pos h]
theorem Zz{l:List UInt8}{i:Nat}{b:UInt8}(hb:l[i]? =some b)(h:128<=b.toNat):128<=(Utf8.decode ⟨⟨l⟩⟩ i).1:=by
 have e:(ByteArray.mk ⟨l⟩).get! i=b:=by
  show(Array.mk l)[i]! =b
  simp[hb]
 simp only[Utf8.decode,Nat.add_zero,e]
 rw[if_neg (by omega)]
 split
 ·split<;>simp_all[Utf8.runeError]
 ·split
  ·split
   ·rename_i h3;simp at h3;omega
   ·simp[Utf8.runeError]
  ·split
   ·split
    ·rename_i h3;simp at h3;omega
    ·simp[Utf8.runeError]
   ·simp[Utf8.runeError]
def Qy(r:Int):Bool:=decide (97<=r)&&decide (r<=122)||decide (65<=r)&&decide (r<=90)
theorem MX(b:UInt8):Qy b.toNat=letterF b:=by
 rw[Bool.eq_iff_iff]
 simp[Qy,letterF]
theorem I7(s:List UInt8)(hs:s.length<=9223372036854775807):aR Tryz.prog 154 [.str s] (.ret [.bool (kD s)]):=by
 refine aR.az mix Ub ao ?_
 rw[Yh]
 refine iO ?_
 refine aF (fun k:Nat=>⟨bp [.d (.str s), .aa, .aa, .aa, .aa, .aa, .ptr 2 0],aK (fun _=> .no) 2 (.zS s k),3⟩)
  (fun k=>k<=s.length/\(s.take k).all letterF=true) (fun k=>s.length - k) 0 ⟨Nat.zero_le _,ao⟩ (bJ.bX _ ah ah (Good.nil.aK ah rfl) (fun _ _=>rfl) ?_) (fun k hk=> ?_)
 ·exact cY
 by_cases h2:k<s.length
 ·obtain⟨b,hb⟩:=aq h2
  by_cases h3:b.toNat<128
  ·simp+contextual (disch:=first|omega|simp only[go_sem,false_implies]) only[go_sem,wrap64,if_pos,Nat.add_assoc,Nat.left_eq_add,Nat.add_eq_left,Nat.add_left_cancel_iff,h2,dec_lt hb h3]
   have hr:=MX b
   simp only[Qy]at hr
   rw[hr]
   cases hl:letterF b with
   |true=>
    refine aS ?_
    refine au (k+1) ⟨h2,cT hb hk.2 hl⟩ ah (bJ.bX _ ah ah (Good.nil.aK ah rfl) (fun _ _=>by rw[jt]) ?_)
    exact cY
   |false=>
    refine aS ?_
    simp[kD,b7 hb hl]
  ·have hr:letterF b=false:=by
    rw[<- MX];simp[Qy];omega
   have hd:=Zz hb ah
   refine Bz h2 ?_
   have:(decide (97<=((Utf8.decode ⟨⟨s⟩⟩ k).1:Int))&&decide (((Utf8.decode ⟨⟨s⟩⟩ k).1:Int)<=122)||decide (65<=((Utf8.decode ⟨⟨s⟩⟩ k).1:Int))&&decide (((Utf8.decode ⟨⟨s⟩⟩ k).1:Int)<=90))=false:=by
    rw[Bool.eq_false_iff];intro h;simp at h;omega
   rw[this]
   refine aS ?_
   simp[kD,b7 hb hr]
 ·refine Bz h2 ?_
  refine ai (ir _ _ _) rfl ?_
  refine aS ?_
  rw[kD,cJ hk.2 (by omega),Bool.true_and]
theorem Dk{σ:Type}(l:List kB)(hl:l.length<=9223372036854775807)(g:Nat)(aI:List V)(base:Nat)(H:σ->Nat->ab)(step:σ->kB->σ×Bool)(hc:∀r∈V.aL aI,r<base)(ok:σ->Prop)(bn:∀x∈l,∀s,ok s->(step s x).2=true->ok (step s x).1)
 (h:∀x∈l,∀s,ok s->fT Tryz.prog g (.d x.d::aI) base (H s) (H (step s x).1) (.d (.bool (step s x).2))) (s:σ) (gH:ok s):
 fT Tryz.prog 156 [.d (.sl (l.map kB.d)), .func (.func g) [] aI] base (H s) (H (aB step s l).1) (.d (.bool (aB step s l).2)):=by
 intro o nx hI K X hK
 have fN:∀r∈V.aL aI,r<nx:=fun r hr=>Nat.lt_of_lt_of_le (hc r hr) hI.le
 refine cK.az mix Ud ao ?_
 rw[Yj]
 refine b8 ?_
 refine aF (fun i:Nat×σ×(Nat->ab)×Nat=>⟨bp [.aa, .func (.func g) [] aI, .aa, .aa, .aa, .aa, .aa, .d (.sl (l.map kB.d)), .d (.i l.length), .d (.i i.1)],i.2.2.1,i.2.2.2⟩)
  (fun i=>i.1<=l.length/\cQ base (H i.2.1) i.2.2.1 i.2.2.2/\nx<=i.2.2.2/\(∀id,base<=id->id<nx->i.2.2.1 id=o id)/\aB step s l=aB step i.2.1 (l.drop i.1)/\ok i.2.1) (fun i=>l.length - i.1) (0,s,o,nx)
  ⟨Nat.zero_le _,hI,Nat.le_refl _,fun _ _ _=>rfl,rfl,gH⟩ ?_ ?_
 ·exact H4
 rintro⟨k,s',o',nx'⟩ ⟨hk,rL,hn,dE,hf,kP⟩
 simp only at hk rL hn dE hf kP
 refine b8 ?_
 refine aj (fun h1=> ?_) (fun h1=> ?_)
 ·simp at h1
  obtain⟨x,hx⟩:=aq h1
  have cz:=List.mem_of_getElem? hx
  have hd:l.drop k=x::l.drop (k+1):=by
   exact H3
  refine HP hx ?_
  have hl0:=rL.le
  refine cU (h x cz s' kP _ _ (?_:cQ base (H s') _ (nx'+7)) _ _ fun o2 n2 m1 m2 m3=> ?_)
  ·exact abc
  have MS:∀id,base<=id->id<nx->o2 id=o id:=fun id h2 h3=>by
   exact abl
  refine b8 ?_
  refine aj (fun h2=> ?_) (fun h2=> ?_)
  ·refine b8 ?_
   simp at h2
   have:aB step s l=((step s' x).1,false):=by rw[hf,hd,aB,if_neg (by rw[h2];exact Bool.false_ne_true)]
   rw[this]at hK
   exact hK _ _ ah (m2.mono ah) MS
  ·refine b8 ?_
   simp at h2
   have:aB step s l=aB step (step s' x).1 (l.drop (k+1)):=by rw[hf,hd,aB,if_pos h2]
   refine au (k+1,(step s' x).1,o2,n2) ⟨h1,m2,by dsimp only;omega,MS,this,bn x cz s' kP h2⟩ oN ?_
   dsimp only
   have Dg:∀r∈V.aL aI,r<n2:=fun r hr=>by have:=fN r hr;omega
   refine bJ.bX _ ah ah m2.bQ (fun _ _=>rfl) ?_
   exact cY
 ·exact Sd
def pO(l:List (List UInt8)):List (List UInt8×D):=l.map fun s=>(s, .bool true)
theorem I8(l:List (List UInt8))(s:List UInt8):pO l++[(s, .bool true)]=pO (l++[s]):=by simp[pO]
theorem I9{l:List (List UInt8)}{s:List UInt8}{i:Nat}{x:D}(h:eM s (pO l) 0=some (i,x)):x= .bool true/\(pO l).set i (s, .bool true)=pO l/\l.any (· ==s)=true:=by
 obtain⟨_,h2⟩:=Dj h
 rw[Nat.sub_zero]at h2
 simp only[pO,List.getElem?_map]at h2
 cases hl:l[i]? with
 |none=>rw[hl]at h2;cases h2
 |some y=>
  rw[hl]at h2
  simp at h2
  obtain⟨rfl,rfl⟩:=h2
  refine⟨rfl, ?_, ?_⟩
  ·apply List.ext_getElem?
   intro j
   rw[List.getElem?_set]
   split
   ·rename_i e;subst e
    obtain⟨cM,hy⟩:=List.getElem?_eq_some_iff.1 hl
    simp[pO,cM,hy]
   ·rfl
  ·exact List.any_eq_true.2 ⟨y,List.mem_of_getElem? hl,ao⟩
theorem Ja{l:List (List UInt8)}{s:List UInt8}(h:eM s (pO l) 0=none):l.any (· ==s)=false:=by
 rw[yS]at h
 rw[List.any_eq_false]
 intro x hx hs
 have:=h (x, .bool true) (by simp[pO];exact hx)
 simp at hs;exact this hs
def Qz(bs:List (List UInt8))(x:kB):Bool:= !bs.any (· ==x.name)&&kD x.name&&cF x.args 0 4
def ji(bs:List (List UInt8))(x:kB):List (List UInt8)×Bool:=(if bs.any (· ==x.name)=true then bs else bs++[x.name],Qz bs x)
theorem ZA(x:kB)(hx:x.name.length<=9223372036854775807)(base mp id:Nat)(h:Nat->ab)(hmp:h mp= .row [.mp id])(h1:mp<base)(h2:id<base)(h3:id≠mp)(bs:List (List UInt8)):
 fT Tryz.prog 153 [.d x.d, .ptr mp 0] base (aK h id (.map 9 4 (enc .str (pO bs)))) (aK h id (.map 9 4 (enc .str (pO (ji bs x).1)))) (.d (.bool (ji bs x).2)):=by
 intro o nx hI K X hK
 have hle:=hI.le
 have hg:=hI.bQ
 have q0:o mp= .row [.mp id]:=by rw[hI.eq mp h1,ak _ _ _ _ (by omega),hmp]
 have q1:o id= .map 9 4 (enc .str (pO bs)):=by rw[hI.eq id h2,ad]
 refine cK.az mix Ua ao ?_
 rw[Yg]
 cases ha:eM x.name (pO bs) 0 with
 |none=>
  have hn:=Ja ha
  have hs:ji bs x=(bs++[x.name],kD x.name&&cF x.args 0 4):=by simp[ji,Qz,hn]
  rw[hs]at hK
  refine zG q0 q1 ha ?_
  refine ai (I7 _ hx) rfl ?_
  refine aS ?_
  refine gR (fC [.bool (cF x.args 0 4)] ?_ ?_)
  ·refine aS ?_
   exact fun _=>ir _ _ _
  refine aS ?_
  rw[MW,I8]
  refine hK _ _ ah ⟨dB,ah,fun j hj=> ?_⟩ (fun j g1 g2=>by(repeat(first|rfl|rw[ad]|rw[ak _ _ _ _ (by omega)])))
  ·by_cases e:j=id
   ·exact zL
   ·exact abk
 |some p=>
  obtain⟨i,y⟩:=p
  obtain⟨rfl,e1,hn⟩:=I9 ha
  have hs:ji bs x=(bs,false):=by simp[ji,Qz,hn]
  rw[hs]at hK
  refine zG q0 q1 ha ?_
  rw[G6,e1]
  refine hK _ _ ah ⟨dB,ah,fun j hj=> ?_⟩ (fun j g1 g2=>by(repeat(first|rfl|rw[ad]|rw[ak _ _ _ _ (by omega)])))
  ·by_cases e:j=id
   ·exact zL
   ·exact abk
theorem pP:∀ (l:List kB) (bs:List (List UInt8)),match cm l bs with|some B=>aB ji bs l=(B,true)|none=>(aB ji bs l).2=false
 |[],bs=>rfl
 |x::l,bs=>by
  have ih:=pP l (bs++[x.name])
  simp only[cm,aB,ji,Qz]
  by_cases h1:bs.any (· ==x.name)=true
  ·simp[h1]
  ·simp only[Bool.not_eq_true]at h1
   simp only[h1,Bool.false_eq_true,if_false,Bool.not_false,Bool.true_and]
   by_cases h2:(kD x.name&&cF x.args 0 4)=true
   ·have h3: ¬ ((!kD x.name|| !cF x.args 0 4)=true):=by simp at h2;simp[h2]
    rw[if_neg h3,if_pos h2]
    exact ih
   ·have h3:(!kD x.name|| !cF x.args 0 4)=true:=by
     cases hn:kD x.name<;>simp_all
    rw[if_pos h3,if_neg h2]
def mL(ok:Bool):Int:=if ok=true then 0 else 2
@[reducible] def Jb (s:aO) (bs:List (List UInt8)):Nat->ab:=aK (aK (aK (fun _=> .no) 0 (.row s.row)) 3 (.row [.mp 2])) 2 (.map 9 4 (enc .str (pO bs)))
theorem vW(s:aO)(hs:s.Fits):aR Tryz.prog 110 [s.d] (.ret [.i (mL (kE s))]):=by
 refine aR.az mix TT ao ?_
 rw[XX]
 refine iO ?_
 refine ai (ir _ _ _) rfl ?_
 refine iO ?_
 cases h1:(!cF s.cons.length 2 12||decide (8<(s.bR.length:Int)))with
 |true=>
  have:kE s=false:=by simp only[kE,h1,if_true]
  refine dc h1 ?_
  simp[this,mL]
 |false=>
  have Iy:=pP s.cons []
  have aex:∀ (l:List kB),(∀x∈l,x.name.length<=9223372036854775807)->∀x∈l,∀bs,True->fT Tryz.prog 153 (.d x.d::[.ptr 3 0]) 4 (Jb s bs) (Jb s (ji bs x).1) (.d (.bool (ji bs x).2)):=fun l hl x hx bs _=>
   ZA x (hl x hx) 4 3 2 (aK (aK (fun _=> .no) 0 (.row s.row)) 3 (.row [.mp 2])) (ad _ _ _) ah ah ah bs
  simp[cF]at h1
  obtain⟨a,b,r,hc⟩:∃a b r,s.cons=a::b::r:=by
   match h:s.cons with
   |[]=>exact F7
   |[a]=>exact F7
   |a::b::r=>exact⟨a,b,r,rfl⟩
  have cH:(!cF s.cons.length 2 12||decide (8<(s.bR.length:Int)))=false:=by simp[cF];omega
  have I5:kE s=if(!mV a fB|| !mV b tB)=true then false else match cm s.cons []with
   |none=>false
   |some l=>(cm s.bR l).isSome:=by
   unfold kE
   rw[if_neg (by rw[cH];exact Bool.false_ne_true),hc]
   dsimp only
   rfl
  refine dc cH ?_
  refine bc (Dk s.cons hs.lc 153 [.ptr 3 0] 4 (Jb s) ji mT (fun _=>True) (fun _ _ _ _ _=>trivial) (aex s.cons hs.nc) [] trivial _ _ ⟨?_,ah,fun id aC=> ?_⟩ _ _ fun o2 n2 m1 m2 m3=> ?_)
  ·exact dB
  ·rcases(by omega:id=0\/id=1\/id=2\/id=3)with rfl|rfl|rfl|rfl<;>rfl
  have p0:∀ {bs:List (List UInt8)} {o:Nat->ab} {n:Nat},cQ 4 (Jb s bs) o n->o 0= .row s.row:=fun h=>h.eq 0 ah
  have p3:∀ {bs:List (List UInt8)} {o:Nat->ab} {n:Nat},cQ 4 (Jb s bs) o n->o 3= .row [.mp 2]:=fun h=>h.eq 3 ah
  cases hn:cm s.cons []with
  |none=>
   rw[hn]at Iy
   simp only at Iy
   rw[Iy]
   refine iO ?_
   rw[I5,hn]
   split<;>rfl
  |some B=>
   rw[hn]at Iy
   simp only at Iy
   rw[Iy]at m2|-
   simp+contextual (disch:=first|omega|simp only[go_sem,false_implies]) only[go_sem,wrap64,if_pos,Nat.add_assoc,Nat.left_eq_add,Nat.add_eq_left,Nat.add_left_cancel_iff,p0 m2]
   refine bc (Dk s.bR hs.lf 153 [.ptr 3 0] 4 (Jb s) ji mT (fun _=>True) (fun _ _ _ _ _=>trivial) (aex s.bR hs.nf) B trivial _ _ (m2.mono ah) _ _ fun o4 n4 k1 k2 k3=> ?_)
   have OG:=pP s.bR B
   cases hf:cm s.bR B with
   |none=>
    rw[hf]at OG
    simp only at OG
    rw[OG]
    refine iO ?_
    rw[I5,hn]
    simp only[hf]
    split<;>rfl
   |some C=>
    rw[hf]at OG
    simp only at OG
    rw[OG]at k2|-
    simp+contextual (disch:=first|omega|simp only[go_sem,false_implies]) only[go_sem,wrap64,if_pos,Nat.add_assoc,Nat.left_eq_add,Nat.add_eq_left,Nat.add_left_cancel_iff,p0 k2,hc]
    have Vs:kE s= !(!mV a fB|| !mV b tB):=by
     rw[I5,hn];simp only[hf]
     cases(!mV a fB|| !mV b tB)<;>rfl
    refine aj (fun h5=> ?_) (fun h5=> ?_)
    ·refine aS ?_
     have Bs:(!mV a fB|| !mV b tB)=true:=h5
     rw[Vs,Bs];rfl
    ·refine aS ?_
     have Bs:(!mV a fB|| !mV b tB)=false:=h5
     rw[Vs,Bs];rfl
def cV(s:aO)(l:List Tm):Bool:=kE s&&l.all (mC s)
theorem xK{α:Type}(p:α->Bool):∀ (l:List α) (u:Unit),aB (fun _ x=>((),p x)) u l=((),l.all p)
 |[],_=>rfl
 |x::l,u=>by
  simp only[aB,List.all_cons,xK p l]
  cases p x<;>rfl
theorem Fs(l:List Tm)(hl:l.length<=9223372036854775807)(g:Nat)(aI:List V)(base:Nat)(h:Nat->ab)(p:Tm->Bool)(hc:∀r∈V.aL aI,r<base)
 (hp:∀x∈l,fT Tryz.prog g (.d x.d::aI) base h h (.d (.bool (p x)))):fT Tryz.prog 161 [.d (.sl (l.map Tm.d)), .func (.func g) [] aI] base h h (.d (.bool (l.all p))):=by
 have:=Df l hl g aI base (fun _:Unit=>h) (fun _ x=>((),p x)) hc (fun _=>True) (fun _ _ _ _ _=>trivial) (fun x hx _ _=>hp x hx) () trivial
 exact FZ
structure Tm.Fin (t:Tm):Prop where
 fits:t.fits
 iN:t.iN<=900000
theorem MY(s:aO)(hs:s.Fits)(t:Tm)(ht:t.Fin)(base sp:Nat)(h:Nat->ab)(uX:h sp= .row s.row)(hb:sp<base):fT Tryz.prog 162 [.d t.d, .ptr sp 0] base h h (.d (.bool (mC s t))):=by
 intro o nx hI K X hK
 have hle:=hI.le
 have hg:=hI.bQ
 have q0:o sp= .row s.row:=by rw[hI.eq sp hb,uX]
 refine cK.az mix Uj ao ?_
 rw[Yp]
 refine dc q0 ?_
 refine ai (MV s hs t ht.fits ht.iN) rfl ?_
 exact abN
theorem AV(s:aO)(hs:s.Fits)(l:List Tm)(hl:l.length<=9223372036854775807)(hf:∀t∈l,t.Fin):aR Tryz.prog 123 [s.d, .sl (l.map Tm.d)] (.ret [.bool (cV s l)]):=by
 refine aR.az mix TZ ao ?_
 rw[X5]
 refine aS ?_
 refine ai (vW s hs) rfl ?_
 cases h1:kE s with
 |false=>
  refine zF ?_
  simp[cV,h1]
 |true=>
  refine zF ?_
  refine bc (Fs l hl 162 [.ptr 0 0] 1 (aK (fun _=> .no) 0 (.row s.row)) (mC s) mT (fun x hx=>MY s hs x (hf x hx) 1 0 _ (ad _ _ _) ah) _ _ ⟨dB,ah,fun id aC=>rfl⟩ _ _ fun o2 n2 m1 m2 m3=> ?_)
  refine aS ?_
  simp[cV,h1]
theorem QA(s:aO)(hs:s.Fits)(t:Tm)(ht:t.Fin):aR Tryz.prog 188 [s.d,t.d] (.ret [.i (mL (cV s [t]))]):=by
 refine aR.az mix UH ao ?_
 rw[YN]
 refine aS ?_
 refine ai (AV s hs [t] ao (fun x hx=>by simp at hx;subst hx;exact ht)) rfl ?_
 cases h1:cV s [t]with
 |false=>exact HS
 |true=>exact HS
def Tm.Dl (t:Tm):Int:=(pre t 1).length
structure Tm.yU (t:Tm):Prop extends t.Fin where
 size:t.Dl<=1000000
theorem Tm.Fin.kH {t k:Tm}(h:t.Fin)(hk:k∈t.kids):k.Fin:=⟨((Tm.aH _).1 h.fits).2 k hk,by have:=Tm.qN hk;have:=h.iN;omega⟩
theorem nW:∀ (t:Tm) (d d':Int),(pre t d).length=(pre t d').length:=by
 refine Tm.bW fun t ih d d'=> ?_
 rw[jK,jK]
 simp only[List.length_cons,List.length_flatMap]
 congr 2
 exact List.map_congr_left fun k hk=>ih k hk _ _
theorem Tm.Jc {t k:Tm}(hk:k∈t.kids):k.Dl+1<=t.Dl:=by
 simp only[Tm.Dl]
 rw[jK t,nW k 1 (1+1)]
 simp only[List.length_cons,List.length_flatMap]
 have:∀ (l:List Tm),k∈l->(pre k (1+1)).length<=(l.map fun k=>(pre k (1+1)).length).sum:=by
  intro l
  induction l with
  |nil=>intro h;cases h
  |cons x l ih=>
   intro h
   rcases List.mem_cons.1 h with rfl|h
   ·simp only[List.map_cons,List.sum_cons];omega
   ·have:=ih h;simp only[List.map_cons,List.sum_cons];omega
 have:=this _ hk
 omega
theorem Tm.yU.kH {t k:Tm}(h:t.yU)(hk:k∈t.kids):k.yU:=⟨h.toFin.kH hk,by have:=Tm.Jc hk;have:=h.size;omega⟩
def Ft(s:aO)(l:List Tm):Bool:=kE s&&l.all (ei s)
def Tm.sz (t:Tm):Nat:=(pre t 1).length
def fR(l:List Tm):Nat:=(l.map Tm.sz).sum
theorem Tm.l0 (t:Tm):t.Dl=(t.sz:Int):=rfl
theorem Tm.ig (t:Tm):t.sz=1+fR t.kids:=by
 unfold Tm.sz fR
 rw[jK,List.length_cons,List.length_flatMap,Nat.add_comm]
 congr 2
 exact List.map_congr_left fun k hk=>nW k _ _
theorem Tm.Vt (op n:Int)(l:List Tm):(Tm.mk op n l).sz=1+fR l:=Tm.ig _
theorem db(k:Tm)(l:List Tm):fR (k::l)=k.sz+fR l:=by simp[fR]
theorem Tm.sB (t:Tm):1<=t.sz:=by rw[Tm.ig];omega
theorem oF(k:Tm)(l:List Tm):Tm.fZ (k::l)=Nat.max k.iN (Tm.fZ l):=by simp[Tm.fZ]
theorem ux:∀ (l:List Tm) (n:Nat),Tm.fZ l<=n↔∀k∈l,k.iN<=n
 |[],n=>by simp[Tm.fZ]
 |x::l,n=>by
  rw[oF]
  simp only[List.mem_cons,forall_eq_or_imp, <- ux l n]
  exact Nat.max_le
theorem Tm.vX (t:Tm):t.iN=1+Tm.fZ t.kids:=by cases t;simp[Tm.iN,Tm.kids]
theorem Jd:∀t:Tm,∀left depth:Int,eB t left depth=if(t.sz:Int)<=left/\(t.iN:Int)<=depth then left - t.sz else -1:=by
 refine Tm.bW fun t ih left depth=> ?_
 have hs:∀ (l:List Tm) (left d:Int),(∀k∈l,k∈t.kids)->0<=left->0<=d->cc l left d=if(fR l:Int)<=left/\(Tm.fZ l:Int)<=d then left - fR l else -1:=by
  intro l
  induction l with
  |nil=>intro left d _ h1 h2;simp[cc,fR,Tm.fZ,h1,h2]
  |cons k l mX=>
   intro left d hk h1 h2
   simp only[cc,if_pos h1]
   rw[ih k (hk k (by simp))]
   have hm:(Tm.fZ (k::l):Int)<=d↔(k.iN:Int)<=d/\(Tm.fZ l:Int)<=d:=by
    have:= @Nat.max_le k.iN (Tm.fZ l) d.toNat
    have e:Tm.fZ (k::l)=max k.iN (Tm.fZ l):=oF k l
    rw[e];omega
   simp only[db,hm]
   by_cases hc:(k.sz:Int)<=left/\(k.iN:Int)<=d
   ·rw[if_pos hc,mX _ _ (fun x hx=>hk x (by simp[hx])) (by omega) h2]
    by_cases uZ:(fR l:Int)<=left - k.sz/\(Tm.fZ l:Int)<=d
    ·rw[if_pos uZ,if_pos (by omega)];omega
    ·rw[if_neg uZ,if_neg (by omega)]
   ·rw[if_neg hc,pM (by omega),if_neg (by omega)]
 rw[vS,Tm.ig,Tm.vX]
 by_cases h:left<1\/depth<1
 ·rw[if_pos h,if_neg (by omega)]
 ·rw[if_neg h,hs _ _ _ (fun _ h=>h) (by omega) (by omega)]
  by_cases hc:(fR t.kids:Int)<=left - 1/\(Tm.fZ t.kids:Int)<=depth - 1
  ·rw[if_pos hc,if_pos (by omega)];omega
  ·rw[if_neg hc,if_neg (by omega)]
theorem dv(t:Tm)(left depth:Int):0<=eB t left depth↔(t.sz:Int)<=left/\(t.iN:Int)<=depth:=by
 rw[Jd];split<;>omega
theorem pQ(t:Tm):iE t=true↔t.sz<=50/\t.iN<=14:=by
 simp only[iE,decide_eq_true_eq,dv];omega
theorem Tm.yU.MZ {t:Tm}(hf:t.fits)(h:iE t=true):t.yU:=by
 rw[pQ]at h
 exact⟨⟨hf,ah⟩,by rw[Tm.l0];omega⟩
theorem yV:∀ (t:Tm) (d m:Int),(∀x∈pre t d,x.2<=m)↔d+t.iN - 1<=m:=by
 refine Tm.bW fun t ih d m=> ?_
 rw[jK,Tm.vX]
 simp only[List.mem_cons,forall_eq_or_imp,List.mem_flatMap]
 have h1:(∀x:Tm×Int,(∃k,k∈t.kids/\x∈pre k (d+1))->x.2<=m)↔∀k∈t.kids,d+1+k.iN - 1<=m:=by
  constructor
  ·intro h k hk
   exact(ih k hk _ _).1 fun x hx=>h x ⟨k,hk,hx⟩
  ·rintro h x ⟨k,hk,hx⟩
   exact(ih k hk _ _).2 (h k hk) x hx
 rw[h1]
 constructor
 ·rintro⟨h2,h3⟩
  have:=(ux t.kids (m - d).toNat).2 fun k hk=>by have:=h3 k hk;omega
  omega
 ·intro h
  have:=(ux t.kids (m - d).toNat).1 ah
  exact⟨ah,fun k hk=>by have:=this k hk;omega⟩
theorem G8(p:Tm->Bool):∀ (t:Tm) (d:Int),(pre t d).all (fun x=>p x.1)=(p t&&t.kids.all fun k=>(pre k (d+1)).all fun x=>p x.1):=by
 intro t d
 rw[jK,List.all_cons,List.all_flatMap]
theorem vY(s:aO):∀ (t:Tm) (d:Int),eL s t=(pre t d).all fun x=>bz s x.1:=by
 refine Tm.bW fun t ih d=> ?_
 rw[G8 (bz s),dG]
 congr 1
 exact SM
theorem M0{s:aO}{t:Tm}(h:bz s t=true):cF t.op 1 15=true:=by
 rw[show cF t.op 1 15=true↔1<=t.op/\t.op<=15 by simp[cF]]
 by_cases h6:cF t.op 6 15=true
 ·simp[cF]at h6;omega
 ·simp only[bz,if_neg h6]at h
  by_cases h1:t.op=1
  ·omega
  by_cases h2:t.op=2
  ·omega
  by_cases h3:t.op=3
  ·omega
  by_cases h4:t.op=4
  ·omega
  by_cases h5:t.op=5
  ·omega
  by_cases h8:t.op=8
  ·omega
  rw[if_neg h1,if_neg h2,if_neg h3,if_neg h4,if_neg h5,if_neg h8]at h
  cases h
def vZ(s:aO)(x:Tm×Int):Bool:= !(decide (12<x.2)|| !cF x.1.op 1 15|| !bz s x.1)
theorem tz(s:aO):∀ (l:List (Tm×Int)) (n:Int) (b:Bool),(aB (yQ fJ (iG s)) (n,b) l).2=(decide (l=[]\/n+l.length<=40)&&l.all (vZ s))
 |[],n,b=>by simp[aB]
 |x::l,n,b=>by
  have e1:∀c,oR s n x=c->yQ fJ (iG s) (n,b) x=((n+1, !c), !c):=fun c hc=>by show((n+1, !oR s n x),(fJ (n+1, !oR s n x)).isNone)=_;rw[hc];cases c<;>rfl
  have hb:oR s n x=(decide (40<n+1)|| !vZ s x):=by simp[oR,vZ,Bool.or_assoc]
  rw[List.all_cons]
  cases hg:vZ s x with
  |false=>
   have e:oR s n x=true:=by rw[hb,hg];simp
   rw[aB,e1 _ e];simp
  |true=>
   by_cases h40:40<n+1
   ·have:decide (x::l=[]\/n+(x::l).length<=40)=false:=by simp;omega
    have e:oR s n x=true:=by rw[hb];simp[h40]
    rw[this,Bool.false_and,aB,e1 _ e];simp
   ·have e:oR s n x=false:=by rw[hb,hg];simp;omega
    rw[aB,e1 _ e]
    simp only[Bool.not_false,if_true,tz s l,Bool.true_and]
    congr 1
    cases l with
    |nil=>simp;omega
    |cons y l=>simp;omega
theorem pR(s:aO)(t:Tm):mC s t=ei s t:=by
 rw[mC,tz,ei,vY s t 1,Bool.eq_iff_iff]
 have hn:pre t 1≠[]:=by rw[jK];simp
 simp only[Bool.and_eq_true,decide_eq_true_eq,hn,false_or,dv,List.all_eq_true]
 have hd:=yV t 1 12
 constructor
 ·rintro⟨h1,h2⟩
  have h3:∀x∈pre t 1,x.2<=12:=fun x hx=>by have:=h2 x hx;simp[vZ]at this;omega
  have:=hd.1 h3
  exact⟨⟨by unfold Tm.sz;omega,ah⟩,fun x hx=>by have:=h2 x hx;simp[vZ]at this;exact this.2⟩
 ·rintro⟨⟨h1,h2⟩,h3⟩
  have h4:=hd.2 ah
  refine⟨by unfold Tm.sz at h1;omega,fun x hx=> ?_⟩
  have h5:=h4 x hx
  have h6:=h3 x hx
  have h7:=M0 h6
  simp[vZ,h6,h7];omega
theorem Je(s:aO)(l:List Tm):cV s l=Ft s l:=by
 unfold cV Ft;congr 2;funext t;exact pR s t
theorem mD:∀a:Tm,aU a a=true:=by
 refine Tm.bW fun a ih=> ?_
 rw[nV]
 have:gS a.kids a.kids=true:=(jh _ _ rfl).2 fun i x y hx hy=>by
  rw[hx]at hy;injection hy with hy;subst hy;exact ih x (List.mem_of_getElem? hx)
 simp[this]
theorem bY:∀a b:Tm,aU a b=true↔a=b:=by
 refine Tm.bW fun a ih b=>⟨fun h=> ?_,fun e=>e ▸ mD _⟩
 rw[nV]at h
 simp only[Bool.and_eq_true,beq_iff_eq]at h
 obtain⟨⟨⟨h1,h2⟩,h3⟩,h4⟩:=h
 have h5:=(jh _ _ h3).1 h4
 have:a.kids=b.kids:=by
  apply List.ext_getElem?
  intro i
  cases hx:a.kids[i]? with
  |none=>simp at hx;symm;simp;omega
  |some x=>
   have hi:=(List.getElem?_eq_some_iff.1 hx).1
   obtain⟨y,hy⟩:=aq (l:=b.kids) (k:=i) ah
   rw[hy,(ih x (List.mem_of_getElem? hx) y).1 (h5 i x y hx hy)]
 rw[<- Tm.eta a, <- Tm.eta b,h1,h2,this]
end Go.Proofs.YtonbelhklnmjnaaGreat
