/-
  A PART OF THE PROOF. Conditions: none.
-/
import Derived.Test.YtonbelhklnmjnaaGreatLl14
set_option linter.unusedSimpArgs false
set_option linter.unusedVariables false
namespace Go.Proofs.YtonbelhklnmjnaaGreat
attribute [go_sem_proc] Int.reduceBEq Int.reduceBNe Int.reduceLT Int.reduceLE Int.reduceEq Int.reduceNe Nat.reducePow Nat.reduceEqDiff Nat.reduceAdd Nat.reduceSub Nat.reduceMul Nat.reduceLeDiff Nat.reduceBEq Nat.reduceLT reduceIte reduceCtorEq Int.reduceToNat
attribute [go_sem] List.range_zero Option.isSome_some and_self List.cons.injEq
theorem Cs(n low high:Int):aQ Tryz.prog 135 [.i n, .i low, .i high] (.ret [.bool (cF n low high)]):=by
 refine aQ.ay mix afq ao ?_
 rw[afp]
 refine b8 ?_
 rfl
theorem D0{t:Tm}{left depth:Int}(h:left<1\/depth<1):eM t left depth= -1:=by cases t;simp[eM,h]
theorem qi{l:List Tm}{left depth:Int}(h:left<0):ck l left depth=left:=by
 cases l with
 |nil=>rfl
 |cons k l=>simp[ck,show ¬ (0<=left) by omega]
theorem N7:∀t:Tm,∀left depth:Int, -1<=eM t left depth/\(1<=left->eM t left depth<=left - 1)/\(left<1->eM t left depth= -1):=by
 refine Tm.ind fun op n kids ih left depth=> ?_
 have hs:∀ (l:List Tm) (left d:Int),(∀k∈l,k∈kids)-> -1<=left-> -1<=ck l left d/\ck l left d<=left:=by
  intro l
  induction l with
  |nil=>intro left d _ h;simp[ck,h]
  |cons k l nh=>
   intro left d hk h
   simp only[ck]
   split
   ·rename_i h0
    have h1:=ih k (hk k ao) left d
    have h2:=nh (eM k left d) d (fun x hx=>hk x lW) h1.1
    by_cases hl:1<=left
    ·have:=h1.2.1 hl;omega
    ·have:=h1.2.2 af;omega
   ·omega
 simp only[eM]
 split
 ·rename_i h;refine⟨af,fun h1=> ?_,fun _=>rfl⟩;omega
 ·rename_i h
  have:=hs kids (left - 1) (depth - 1) (fun _ h=>h) af
  exact⟨this.1,fun _=>this.2,fun h=>af⟩
theorem zK(l:List Tm)(left d:Int)(h: -1<=left): -1<=ck l left d/\ck l left d<=left:=by
 induction l generalizing left with
 |nil=>simp[ck,h]
 |cons k l nh=>
  simp only[ck]
  split
  ·have h1:=N7 k left d
   have h2:=nh (eM k left d) h1.1
   by_cases hl:1<=left
   ·have:=h1.2.1 hl;omega
   ·have:=h1.2.2 af;omega
  ·omega
theorem pO(a b:List Tm)(left d:Int):ck (a++b) left d=ck b (ck a left d) d:=by
 induction a generalizing left with
 |nil=>rfl
 |cons k a ih=>
  simp only[List.cons_append,ck]
  split
  ·exact ih _
  ·rename_i h;rw[qi (by omega)]
theorem tW{l:List Tm}{i:Nat}{k:Tm}(hi:l[i]? =some k)(left d:Int)(h:0<=ck (l.take i) left d):ck (l.take (i+1)) left d=eM k (ck (l.take i) left d) d:=by
 rw[List.take_add_one,hi,pO]
 simp[ck,h]
theorem tX{l:List Tm}{i:Nat}(left d:Int)(h:ck (l.take i) left d<0):ck l left d=ck (l.take i) left d:=by
 conv=>lhs;rw[<- List.take_append_drop i l]
 rw[pO,qi h]
@[reducible] def fP (cs:List V):Nat->ab:=aM (fun _=> .no) 0 (.row cs)
@[reducible] def qj (cs ds:List V):Nat->ab:=aM (aM (fun _=> .no) 0 (.row cs)) 1 (.row ds)
theorem ba{cs:List V}(h:(ab.row cs).refs.all (fun r=>decide (r<1))=true):Good (fP cs) 1:=(Good.nil (nx:=1)).aM af h
theorem df{cs ds:List V}(h:(ab.row cs).refs.all (fun r=>decide (r<2))=true)(h2:(ab.row ds).refs.all (fun r=>decide (r<2))=true):Good (qj cs ds) 2:=((Good.nil (nx:=2)).aM af h).aM af h2
theorem bM.d1 {e:Nat->V}{so o:Nat->ab}{m:Nat}(l:List V)(hg:Good o 1)(hm:1<=m)(h0:so 0=o 0)(he:kS 1 e l 0):bM 0 ⟨e,so,m⟩ ⟨br l,o,1⟩:=
 bM.b9 l (Nat.zero_le _) hm hg (fun id h=>by obtain rfl:id=0:=af
                                             exact h0) he
theorem bM.d2 {e:Nat->V}{so o:Nat->ab}{m:Nat}(l:List V)(hg:Good o 2)(hm:2<=m)(h0:so 0=o 0)(h1:so 1=o 1)(he:kS 2 e l 0):bM 0 ⟨e,so,m⟩ ⟨br l,o,2⟩:=
 bM.b9 l (Nat.zero_le _) hm hg (fun id h=>by
  rcases(by omega:id=0\/id=1)with rfl|rfl
  ·exact h0
  ·exact h1) he
@[reducible] def Tm.row (t:Tm):List V:=[.d (.i t.op), .d (.i t.n), .d (.sl (t.kids.map Tm.d))]
theorem wB(t:Tm)(left depth:Int):eM t left depth=if left<1\/depth<1 then -1 else ck t.kids (left - 1) (depth - 1):=by cases t;simp[eM,Tm.kids]
theorem u1:∀t:Tm,t.fits->∀left depth:Int, -1<=left/\left<=1000000-> -1<=depth/\depth<=1000000->aQ Tryz.prog 63 [t.d, .i left, .i depth] (.ret [.i (eM t left depth)]):=by
 refine Tm.cc fun t ih hf left depth hl hd=> ?_
 have fu:=(Tm.aF _).1 hf
 refine aQ.ay mix aeB ao ?_
 rw[c63]
 refine b8 ?_
 refine aj (fun h1=> ?_) (fun h1=> ?_)
 ·refine b8 ?_
  simp at h1
  rw[D0 h1]
 ·simp at h1
  refine b8 ?_
  rw[wrap64 (n:=left - 1) (by omega) (by omega),wB,if_neg (by omega)]
  refine aH (fun k:Nat=>⟨br [.aa, .d (.i (ck (t.kids.take k) (left - 1) (depth - 1))), .d (.i depth), .ptr 0 0, .aa, .aa, .aa, .d (.i k)],fP t.row,1⟩)
   (fun k=>k<=t.kids.length) (fun k=>t.kids.length - k) 0 (Nat.zero_le _) (bM.d1 _ (ba rfl) af rfl ?_) (fun k hk=> ?_)
  ·exact dc
  have hb:=zK (t.kids.take k) (left - 1) (depth - 1) af
  refine b8 ?_
  refine aj (fun h2=> ?_) (fun h2=> ?_)
  ·simp at h2
   obtain⟨x,hx⟩:∃x,t.kids[k]? =some x:=⟨t.kids[k],by simp[h2.1]⟩
   have cp:=List.mem_of_getElem? hx
   refine iC hx ?_
   rw[wrap64 (n:=depth - 1) (by omega) (by omega)]
   refine ah (ih x cp (fu.2 x cp) _ _ af af) rfl ?_
   refine b8 ?_
   rw[<- tW hx _ _ h2.2]
   exact Uc
  ·refine b8 ?_
   simp only[Bool.and_eq_false_iff,decide_eq_false_iff_not]at h2
   congr 3
   rcases h2 with h2|h2
   ·rw[List.take_of_length_le (by omega)]
   ·exact tX _ _ af
theorem aaT(s:List UInt8)(hs:s.length<=9223372036854775807):aQ Tryz.prog 193 [.str s] (.ret [.bool (kT s)]):=by
 refine aQ.ay mix af2 ao ?_
 rw[af1]
 refine b8 ?_
 refine aH (fun k:Nat=>⟨br [.d (.str s), .aa, .aa, .d (.i k)],fun _=> .no,0⟩)
  (fun k=>k<=s.length/\(s.take k).all letterF=true) (fun k=>s.length - k) 0 ⟨Nat.zero_le _,ao⟩ (bM.d0 _ ?_) (fun k hk=> ?_)
 ·exact dc
 refine b8 ?_
 refine aj (fun h2=> ?_) (fun h2=> ?_)
 ·simp at h2
  obtain⟨x,hx⟩:∃x,s[k]? =some x:=⟨s[k],by simp[h2]⟩
  refine iC hx ?_
  refine aj (fun h3=> ?_) (fun h3=> ?_)
  ·refine b8 ?_
   have:kT s=false:=by
    have:s.all letterF=false:=by
     rw[List.all_eq_false]
     refine⟨x,List.mem_of_getElem? hx, ?_⟩
     simp only[letterF,h3];simp
    simp[kT,this]
   rw[this]
  ·refine b8 ?_
   refine au (k+1) ⟨h2, ?_⟩ af (bM.d0 _ ?_)
   ·rw[List.take_add_one,hx,List.all_append,hk.2]
    simp[letterF,h3]
   ·exact dc
 ·refine b8 ?_
  refine ah (Cs _ _ _) rfl ?_
  refine b8 ?_
  simp at h2
  have:=hk.2
  rw[List.take_of_length_le (by omega)]at this
  simp[kT,this]
theorem H4(l:List ki)(bs:List (List UInt8))(hl:l.length<=1000)(hb:bs.length<=1000)(hs:∀x∈l,x.name.length<=9223372036854775807):
 aQ Tryz.prog 136 [.sl (l.map ki.d), .sl (bs.map .str)] (.ret [.sl (((ct l bs).getD []).map .str), .bool (ct l bs).isSome]):=by
 refine aQ.ay mix afs ao ?_
 rw[afr]
 refine b8 ?_
 refine aH (fun k:Nat=>⟨br [.d (.sl (l.map ki.d)), .d (.sl ((bs++(l.take k).map (·.name)).map .str)), .aa, .aa, .aa, .aa, .d (.i k)],fun _=> .no,0⟩)
  (fun k=>k<=l.length/\ct l bs=ct (l.drop k) (bs++(l.take k).map (·.name))) (fun k=>l.length - k) 0 ⟨Nat.zero_le _,ao⟩ (bM.d0 _ ?_) (fun k hk=> ?_)
 ·simp only[List.take_zero,List.map_nil,List.append_nil]
  exact dc
 refine b8 ?_
 refine aj (fun h2=> ?_) (fun h2=> ?_)
 ·simp at h2
  obtain⟨x,hx⟩:∃x,l[k]? =some x:=⟨l[k],by simp[h2]⟩
  have cp:=List.mem_of_getElem? hx
  have Ds:l.drop k=x::l.drop (k+1):=by
   rw[List.drop_eq_getElem_cons h2]
   rw[List.getElem?_eq_getElem h2]at hx;injection hx with hx;rw[hx]
  generalize hB:bs++(l.take k).map (·.name)=B at*
  have hBl:B.length<=2000:=by rw[<- hB];simp;omega
  refine b8 ?_
  refine aH (fun j:Nat=>⟨br [.d (.sl (l.map ki.d)), .d (.sl (B.map .str)), .aa, .aa, .aa, .aa, .d (.i k), .d (.i j)],fun _=> .no,0⟩)
   (fun j=>j<=B.length/\(B.take j).any (· ==x.name)=false) (fun j=>B.length - j) 0 ⟨Nat.zero_le _,ao⟩ (bM.d0 _ ?_) (fun j hj=> ?_)
  ·exact dc
  refine b8 ?_
  refine aj (fun h3=> ?_) (fun h3=> ?_)
  ·simp at h3
   obtain⟨y,hy⟩:∃y,B[j]? =some y:=⟨B[j],by simp[h3]⟩
   refine Lq hx hy ?_
   refine aw bG ?_
   refine b8 ?_
   refine aj (fun h4=> ?_) (fun h4=> ?_)
   ·refine b8 ?_
    have:ct l bs=none:=by
     rw[hk.2,Ds,ct,if_pos]
     rw[List.any_eq_true]
     exact⟨y,List.mem_of_getElem? hy,h4⟩
    rw[this];rfl
   ·refine b8 ?_
    refine au (j+1) ⟨h3, ?_⟩ af (bM.d0 _ ?_)
    ·rw[List.take_add_one,hy,List.any_append,hj.2]
     simp only[Option.toList_some,List.any_cons,h4,List.any_nil,Bool.or_false]
    ·exact dc
  ·simp at h3
   have aaU:=hj.2
   rw[List.take_of_length_le (by omega)]at aaU
   refine iC hx ?_
   refine ah (aaT x.name (hs x cp)) rfl ?_
   refine iC hx ?_
   refine hU (fO [.bool (cF x.args 0 4)] ?_ ?_)
   ·refine b8 ?_
    exact G0
   refine b8 ?_
   refine aj (fun h4=> ?_) (fun h4=> ?_)
   ·refine b8 ?_
    have:ct l bs=none:=by
     rw[hk.2,Ds,ct,if_neg (by rw[aaU];exact Bool.false_ne_true),if_pos h4]
    rw[this];rfl
   ·have e1:B.length<=140737488355328:=af
    have e2:B.length*16<=140737488355328:=af
    have e3:B.length<=140737488355327:=af
    have e4:(B.length+1)*16<=140737488355328:=af
    simp+contextual only[go_sem,hx,e1,e2,e3,e4]
    refine aw bG ?_
    refine b8 ?_
    have hn:ct l bs=ct (l.drop (k+1)) (bs++(l.take (k+1)).map (·.name)):=by
     rw[hk.2,Ds,ct,if_neg (by rw[aaU];exact Bool.false_ne_true),if_neg (by rw[h4];exact Bool.false_ne_true), <- hB,List.take_add_one,hx]
     simp
    refine au (k+1) ⟨h2,hn⟩ af (bM.agD (fun _=>True) 0 _ (Nat.le_refl _) lt0 (fun _ _=>rfl) (fun _ _ _=>rfl) ?_)
    have hB2:(bs++(l.take (k+1)).map (·.name)).map D.str=B.map D.str++[D.str x.name]:=by
     rw[<- hB,List.take_add_one,hx];simp
    rw[hB2]
    exact oP
 ·refine b8 ?_
  simp at h2
  have:ct l bs=some (bs++l.map (·.name)):=by
   rw[hk.2,List.drop_eq_nil_of_le (by omega),ct,List.take_of_length_le (by omega)]
  rw[this,List.take_of_length_le (by omega)]
  rfl
theorem aaV(a b:List UInt8)(m n:Int):sr Tryz.prog 100 104 (.agg [.str a, .i m]) (.agg [.str b, .i n])=some (a==b&&m==n):=by
 have h1:cm Tryz.prog 104=some (.struct [(9,0),(3,1)]):=ag
 have h2:cm Tryz.prog 9=some .str:=ag
 have h3:cm Tryz.prog 3=some .int:=ag
 have h4:dL Tryz.prog 9=some false:=ag
 have h5:dL Tryz.prog 3=some false:=ag
 simp[sr,h1,h2,h3,h4,h5,CF,X0,kK,ME]
@[go_sem] theorem ajb (o:Nat->ab) (pW:Bool) (a b:List UInt8) (m n:Int):sj Tryz.prog o 104 pW (.d (.agg [.str a, .i m])) (.d (.agg [.str b, .i n]))=some (.d (.bool (a==b&&m==n))):=by
  obtain⟨fs,h⟩:∃fs,Tryz.prog.underlying 104=some (.struct fs):=structOf ag
  have h2:Tryz.prog.eqGuardType Tryz.prog.depth 104=false:=ag
  unfold sj
  rw[h]
  dsimp only
  rw[if_pos h2,aaV]
  rfl
theorem JU{l:List ki}{bs B:List (List UInt8)}(h:ct l bs=some B):B=bs++l.map (·.name):=by
 induction l generalizing bs with
 |nil=>simp[ct]at h;simp[h]
 |cons x l ih=>
  simp only[ct]at h
  split at h
  ·cases h
  ·split at h
   ·cases h
   ·rw[ih h];simp
structure aV.Fits (s:aV):Prop where
 lc:s.cons.length<=9223372036854775807
 lf:s.bR.length<=9223372036854775807
 nc:∀x∈s.cons,x.name.length<=9223372036854775807
 nf:∀x∈s.bR,x.name.length<=9223372036854775807
theorem agG(s:aV)(hs:s.Fits):aQ Tryz.prog 100 [s.d] (.ret [.bool (kU s)]):=by
 refine aQ.ay mix aeS ao ?_
 rw[aeR]
 refine b8 ?_
 refine ah (Cs _ _ _) rfl ?_
 refine b8 ?_
 cases h1:(!cF s.cons.length 2 12||decide (8<(s.bR.length:Int)))with
 |true=>
  refine iC h1 ?_
  simp only[kU,h1,if_true]
 |false=>
  simp[cF]at h1
  obtain⟨a,b,r,hc⟩:∃a b r,s.cons=a::b::r:=by
   match h:s.cons with
   |[]=>exact G1
   |[a]=>exact G1
   |a::b::r=>exact⟨a,b,r,rfl⟩
  have bL:(!cF s.cons.length 2 12||decide (8<(s.bR.length:Int)))=false:=by simp[cF];omega
  refine Lq bL hc ?_
  have JV:kU s=if(!np a fB|| !np b tB)=true then false else match ct s.cons []with
   |none=>false
   |some l=>(ct s.bR l).isSome:=by
   unfold kU
   rw[if_neg (by rw[bL];exact Bool.false_ne_true),hc]
   dsimp only
   rfl
  refine aj (fun h2=> ?_) (fun h2=> ?_)
  ·refine b8 ?_
   have jb:(!np a fB|| !np b tB)=true:=h2
   rw[JV,if_pos jb]
  ·refine iC hc ?_
   have hl:(a::b::r).length<=1000:=by rw[<- hc];omega
   have hnm:=H4 (a::b::r) [] hl ao (by rw[<- hc];exact hs.nc)
   simp only[List.map_cons,List.map_nil]at hnm
   refine aT hnm ?_
   have jb:(!np a fB|| !np b tB)=false:=h2
   rw[JV,if_neg (by rw[jb];exact Bool.false_ne_true),hc]
   cases hn:ct (a::b::r) []with
   |none=>simp+contextual only[go_sem,hn]
   |some B=>
    refine iC hn ?_
    have hB:B.length<=1000:=by
     have:=JU hn
     rw[this];simp at hl|-;omega
    have ajc:=H4 s.bR B af hB hs.nf
    refine aT ajc ?_
    exact Qq
theorem fF{l:List ki}{n:Int}{x:ki}(h:l[n.toNat]? =some x):cX l n=x.args:=by simp[cX,h]
theorem qF{l:List ki}{n:Int}(h:cF n 0 (l.length - 1)=true):0<=n/\∃x,l[n.toNat]? =some x:=by
 simp[cF]at h
 exact⟨h.1,l[n.toNat]'af,ao⟩
theorem aaW(s:aV)(t:Tm)(hs:s.Fits)(ht:t.kids.length<=9223372036854775807):aQ Tryz.prog 142 [s.d,t.d] (.ret [.bool (bz s t)]):=by
 refine aQ.ay mix afC ao ?_
 rw[afB]
 refine b8 ?_
 rcases(by omega:t.op=1\/t.op=2\/t.op=3\/t.op=4\/t.op=5\/t.op=8\/(t.op=6\/t.op=7\/t.op=9\/t.op=10\/t.op=11\/t.op=12\/t.op=13\/t.op=14\/t.op=15)\/(t.op<1\/15<t.op))with h|h|h|h|h|h|h|h
 ·have hn:bz s t=((t.kids.length:Int)==0&&cF t.n 0 19):=by simp[bz,h]
  refine iC h ?_
  refine hU (fO [.bool (cF t.n 0 19)] ?_ ?_)
  ·refine b8 ?_
   exact G0
  exact G7
 ·have hn:bz s t=((t.kids.length:Int)==0&&cF t.n (-1000000) 1000000):=by simp[bz,h]
  refine iC h ?_
  refine hU (fO [.bool (cF t.n (-1000000) 1000000)] ?_ ?_)
  ·refine b8 ?_
   exact G0
  exact G7
 ·have hn:bz s t=(cF t.n 0 (s.cons.length - 1)&&(t.kids.length:Int)==cX s.cons t.n):=by simp[bz,h]
  refine iC h ?_
  rw[wrap64 (by have:=hs.lc;omega) (by have:=hs.lc;omega)]
  refine ah (Cs _ _ _) rfl ?_
  cases hI:cF t.n 0 (s.cons.length - 1)with
  |false=>
   exact Cw
  |true=>
   exact Ma
 ·have hn:bz s t=(cF t.n 0 (s.bR.length - 1)&&(t.kids.length:Int)==cX s.bR t.n):=by simp[bz,h]
  refine iC h ?_
  rw[wrap64 (by have:=hs.lf;omega) (by have:=hs.lf;omega)]
  refine ah (Cs _ _ _) rfl ?_
  cases hI:cF t.n 0 (s.bR.length - 1)with
  |false=>
   exact Cw
  |true=>
   exact Ma
 ·have hn:bz s t=(cF t.n 0 (s.bR.length - 1)&&decide ((t.kids.length:Int)<cX s.bR t.n)):=by simp[bz,h]
  refine iC h ?_
  rw[wrap64 (by have:=hs.lf;omega) (by have:=hs.lf;omega)]
  refine ah (Cs _ _ _) rfl ?_
  cases hI:cF t.n 0 (s.bR.length - 1)with
  |false=>
   exact Cw
  |true=>
   exact Ma
 ·have hn:bz s t=((t.kids.length:Int)==2&&cF t.n 0 19):=by simp[bz,h]
  refine iC h ?_
  refine hU (fO [.bool (cF t.n 0 19)] ?_ ?_)
  ·refine b8 ?_
   exact G0
  exact G7
 ·have hn:bz s t=((t.kids.length:Int)==2&&t.n==0):=by
   rcases h with h|h|h|h|h|h|h|h|h<;>simp[bz,h,cF]
  rw[hn]
  rcases h with h|h|h|h|h|h|h|h|h<;>simp+contextual only[go_sem,h]
 ·have hn:bz s t=false:=by
   simp[bz,cF,show ¬ (t.op=1) by omega,show ¬ (t.op=2) by omega,show ¬ (t.op=3) by omega,show ¬ (t.op=4) by omega,show ¬ (t.op=5) by omega,show ¬ (t.op=8) by omega,show ¬ (6<=t.op/\t.op<=15) by omega]
  have e:∀k:Int,1<=k->k<=15->(t.op==k)=false:=fun k h1 h2=>by simp;omega
  simp+contextual only[go_sem,e 1 (by omega) (by omega),e 2 (by omega) (by omega),e 3 (by omega) (by omega),e 4 (by omega) (by omega),e 5 (by omega) (by omega),e 6 (by omega) (by omega),e 7 (by omega) (by omega),e 8 (by omega) (by omega),e 9 (by omega) (by omega),e 10 (by omega) (by omega),e 11 (by omega) (by omega),e 12 (by omega) (by omega),e 13 (by omega) (by omega),e 14 (by omega) (by omega),e 15 (by omega) (by omega)]
  rw[hn]
theorem dQ(s:aV)(t:Tm):eW s t=(bz s t&&t.kids.all (eW s)):=by
 have:∀l:List Tm,uW s l=l.all (eW s):=fun l=>by
  induction l with
  |nil=>rfl
  |cons k l ih=>simp[uW,ih]
 cases t;simp[eW,this,Tm.kids]
theorem bZ{α:Type}{l:List α}{p:α->Bool}{k:Nat}{x:α}(hx:l[k]? =some x)(h:p x=false):l.all p=false:=by
 rw[List.all_eq_false];exact⟨x,List.mem_of_getElem? hx,by rw[h];exact Bool.false_ne_true⟩
theorem cI{α:Type}{l:List α}{p:α->Bool}{k:Nat}{x:α}(hx:l[k]? =some x)(h0:(l.take k).all p=true)(h:p x=true):(l.take (k+1)).all p=true:=by
 rw[List.take_add_one,hx,List.all_append,h0];simp[h]
theorem cw{α:Type}{l:List α}{p:α->Bool}{k:Nat}(h0:(l.take k).all p=true)(h:l.length<=k):l.all p=true:=by
 rwa [List.take_of_length_le h]at h0
theorem ai{α:Type}{l:List α}{k:Nat}(h:k<l.length):∃x,l[k]? =some x:=⟨l[k],by simp[h]⟩
@[reducible] def aV.row (s:aV):List V:=[.d (.sl (s.cons.map ki.d)), .d (.sl (s.bR.map ki.d))]
theorem RP(s:aV)(hs:s.Fits):∀t:Tm,t.fits->aQ Tryz.prog 102 [s.d,t.d] (.ret [.bool (eW s t)]):=by
 refine Tm.cc fun t ih hf=> ?_
 have fu:=(Tm.aF _).1 hf
 refine aQ.ay mix aeW ao ?_
 rw[aeV]
 refine b8 ?_
 refine ah (aaW s t hs fu.1) rfl ?_
 refine b8 ?_
 rw[dQ]
 refine aj (fun h1=> ?_) (fun h1=> ?_)
 ·refine b8 ?_
  simp at h1;simp[h1]
 ·simp at h1
  rw[h1,Bool.true_and]
  refine b8 ?_
  refine aH (fun k:Nat=>⟨br [.aa, .aa, .ptr 0 0, .ptr 1 0, .aa, .d (.i k)],qj s.row t.row,2⟩)
   (fun k=>k<=t.kids.length/\(t.kids.take k).all (eW s)=true) (fun k=>t.kids.length - k) 0 ⟨Nat.zero_le _,ao⟩ (bM.d2 _ (df rfl rfl) af rfl rfl ?_) (fun k hk=> ?_)
  ·exact dc
  refine b8 ?_
  refine aj (fun h2=> ?_) (fun h2=> ?_)
  ·simp at h2
   obtain⟨x,hx⟩:=ai h2
   have cp:=List.mem_of_getElem? hx
   refine iC hx ?_
   refine aq (ih x cp (fu.2 x cp)) rfl ?_
   refine b8 ?_
   refine aw bG ?_
   refine b8 ?_
   refine aj (fun h3=> ?_) (fun h3=> ?_)
   ·refine b8 ?_
    simp at h3
    rw[bZ hx h3]
   ·exact Tu
  ·refine b8 ?_
   simp at h2
   rw[cw hk.2 h2]
theorem Ga(s:aV)(hs:s.Fits)(t:Tm)(hf:t.fits):aQ Tryz.prog 60 [s.d,t.d] (.ret [.bool (eh s t)]):=by
 refine aQ.ay mix aiP ao ?_
 rw[c60]
 refine b8 ?_
 refine ah (u1 t hf 40 12 af af) rfl ?_
 refine b8 ?_
 refine hU (fO [.bool (eW s t)] ?_ ?_)
 ·refine b8 ?_
  exact fun _=>RP s hs t hf
 refine b8 ?_
 rfl
theorem js:∀l l':List Tm,l.length=l'.length->(hY l l'=true↔∀ (i:Nat) (x y:Tm),l[i]? =some x->l'[i]? =some y->aJ x y=true)
 |[],l',_=>by simp[hY]
 |k::l,k'::l',h=>by
  simp only[hY,Bool.and_eq_true]
  rw[js l l' (by simpa using h)]
  constructor
  ·rintro⟨h1,h2⟩ i x y hx hy
   cases i with
   |zero=>simp at hx hy;subst hx;subst hy;exact h1
   |succ i=>exact h2 i x y yF (by simpa using hy)
  ·intro h3
   exact⟨h3 0 k k' rfl rfl,fun i x y hx hy=>h3 (i+1) x y yF (by simpa using hy)⟩
 |_::_,[],h=>by simp at h
theorem oA(a b:Tm):aJ a b=(a.op==b.op&&a.n==b.n&&a.kids.length==b.kids.length&&hY a.kids b.kids):=by cases a;cases b;simp[aJ,Tm.op,Tm.n,Tm.kids]
theorem eP:∀a:Tm,a.fits->∀b:Tm,b.fits->aQ Tryz.prog 21 [a.d,b.d] (.ret [.bool (aJ a b)]):=by
 refine Tm.cc fun t ih hf b hb=> ?_
 have fu:=(Tm.aF _).1 hf
 have Hg:=(Tm.aF _).1 hb
 refine aQ.ay mix aeu ao ?_
 rw[c21,oA]
 refine b8 ?_
 refine aj (fun h1=> ?_) (fun h1=> ?_)
 ·refine b8 ?_
  have:(t.op==b.op&&t.n==b.n&&t.kids.length==b.kids.length)=false:=by
   exact Mw
  rw[this];rfl
 ·have bL:t.op=b.op/\t.n=b.n/\t.kids.length=b.kids.length:=by
   simp at h1
   refine⟨h1.1.1,h1.1.2,by have:=h1.2;omega⟩
  rw[show(t.op==b.op&&t.n==b.n&&t.kids.length==b.kids.length)=true by simp[bL],Bool.true_and]
  have hl:=bL.2.2
  refine b8 ?_
  refine aH (fun k:Nat=>⟨br [.aa, .aa, .ptr 0 0, .ptr 1 0, .aa, .d (.i k)],qj t.row b.row,2⟩)
   (fun k=>k<=t.kids.length/\∀i,i<k->∀x y,t.kids[i]? =some x->b.kids[i]? =some y->aJ x y=true) (fun k=>t.kids.length - k) 0 ⟨Nat.zero_le _,fun i h=>af⟩ (bM.d2 _ (df rfl rfl) af rfl rfl ?_) (fun k hk=> ?_)
  ·exact dc
  refine b8 ?_
  refine aj (fun h2=> ?_) (fun h2=> ?_)
  ·simp at h2
   obtain⟨x,hx⟩:=ai h2
   obtain⟨y,hy⟩:=ai (l:=b.kids) (k:=k) af
   have cp:=List.mem_of_getElem? hx
   have s9:=List.mem_of_getElem? hy
   refine Lq hx hy ?_
   refine aq (ih x cp (fu.2 x cp) y (Hg.2 y s9)) rfl ?_
   refine b8 ?_
   refine aw bG ?_
   refine b8 ?_
   refine aj (fun h3=> ?_) (fun h3=> ?_)
   ·refine b8 ?_
    simp at h3
    have:hY t.kids b.kids=false:=by
     rw[Bool.eq_false_iff]
     intro h
     have:=(js _ _ hl).1 h k x y hx hy
     rw[h3]at this;cases this
    rw[this]
   ·refine b8 ?_
    simp at h3
    refine au (k+1) ⟨h2,fun i hi u v hu hv=> ?_⟩ af (bM.d2 _ (df rfl rfl) af rfl rfl ?_)
    ·by_cases e:i=k
     ·subst e
      rw[hx]at hu;rw[hy]at hv
      exact Td
     ·exact hk.2 i af u v hu hv
    ·exact dc
  ·refine b8 ?_
   simp at h2
   have:hY t.kids b.kids=true:=(js _ _ hl).2 fun i x y hx hy=>hk.2 i LM x y hx hy
   rw[this]
theorem Bz(t:Tm)(hf:t.fits):aQ Tryz.prog 40 [t.d] (.ret [.bool (iO t)]):=by
 refine aQ.ay mix aiC ao ?_
 rw[c40]
 refine b8 ?_
 refine ah (u1 t hf 50 14 af af) rfl ?_
 refine b8 ?_
 rfl
theorem Gb(s:aV)(hs:s.Fits):aQ Tryz.prog 121 [s.d] (.ret [.bool (jr s)]):=by
 refine aQ.ay mix afm ao ?_
 rw[afl]
 refine b8 ?_
 refine aj (fun h1=> ?_) (fun h1=> ?_)
 ·refine b8 ?_
  simp only[jr,h1];rfl
 ·have e:jr s=(gS s.cons&&gS s.bR):=by simp only[jr,h1];rfl
  rw[e]
  simp at h1
  refine b8 ?_
  refine aH (fun k:Nat=>⟨br [.aa, .ptr 0 0, .aa, .d (.i k)],fP s.row,1⟩)
   (fun k=>k<=s.cons.length/\gS (s.cons.take k)=true) (fun k=>s.cons.length - k) 0 ⟨Nat.zero_le _,by simp[gS]⟩ (bM.d1 _ (ba rfl) af rfl ?_) (fun k hk=> ?_)
  ·exact dc
  refine b8 ?_
  refine aj (fun h2=> ?_) (fun h2=> ?_)
  ·simp at h2
   obtain⟨x,hx⟩:=ai h2
   refine iC hx ?_
   refine aj (fun h3=> ?_) (fun h3=> ?_)
   ·refine b8 ?_
    rw[show gS s.cons=false from bZ hx (by simpa using h3)];rfl
   ·refine b8 ?_
    refine au (k+1) ⟨h2,cI hx hk.2 (by simpa using h3)⟩ af (bM.d1 _ (ba rfl) af rfl ?_)
    exact dc
  ·simp at h2
   rw[show gS s.cons=true from cw hk.2 h2,Bool.true_and]
   refine b8 ?_
   refine aH (fun k:Nat=>⟨br [.aa, .ptr 0 0, .aa, .aa, .d (.i k)],fP s.row,1⟩)
    (fun k=>k<=s.bR.length/\gS (s.bR.take k)=true) (fun k=>s.bR.length - k) 0 ⟨Nat.zero_le _,by simp[gS]⟩ (bM.d1 _ (ba rfl) af rfl ?_) (fun k hk=> ?_)
   ·exact dc
   refine b8 ?_
   refine aj (fun h4=> ?_) (fun h4=> ?_)
   ·simp at h4
    obtain⟨x,hx⟩:=ai h4
    refine iC hx ?_
    refine aj (fun h3=> ?_) (fun h3=> ?_)
    ·refine b8 ?_
     rw[show gS s.bR=false from bZ hx (by simpa using h3)]
    ·refine b8 ?_
     refine au (k+1) ⟨h4,cI hx hk.2 (by simpa using h3)⟩ af (bM.d1 _ (ba rfl) af rfl ?_)
     exact dc
   ·simp at h4
    rw[show gS s.bR=true from cw hk.2 h4]
    exact Qq
section
theorem D1{σ:Type}(l:List Tm)(hl:l.length<=9223372036854775807)(g:Nat)(aK:List V)(base:Nat)(H:σ->Nat->ab)(step:σ->Tm->σ×Bool)(hc:∀r∈V.aO aK,r<base)(ok:σ->Prop)(bw:∀x∈l,∀s,ok s->(step s x).2=true->ok (step s x).1)
 (h:∀x∈l,∀s,ok s->gv Tryz.prog g (.d x.d::aK) base (H s) (H (step s x).1) (.d (.bool (step s x).2))) (s:σ) (gQ:ok s):
 gv Tryz.prog 161 [.d (.sl (l.map Tm.d)), .func (.func g) [] aK] base (H s) (H (aC step s l).1) (.d (.bool (aC step s l).2)):=by
 intro o nx hI K X hK
 have fZ:∀r∈V.aO aK,r<nx:=fun r hr=>Nat.lt_of_lt_of_le (hc r hr) hI.le
 refine cR.ay mix VQ ao ?_
 rw[ZP]
 refine b8 ?_
 refine aH (fun i:Nat×σ×(Nat->ab)×Nat=>⟨br [.aa, .func (.func g) [] aK, .aa, .aa, .aa, .aa, .aa, .d (.sl (l.map Tm.d)), .d (.i l.length), .d (.i i.1)],i.2.2.1,i.2.2.2⟩)
  (fun i=>i.1<=l.length/\c0 base (H i.2.1) i.2.2.1 i.2.2.2/\nx<=i.2.2.2/\(∀id,base<=id->id<nx->i.2.2.1 id=o id)/\aC step s l=aC step i.2.1 (l.drop i.1)/\ok i.2.1) (fun i=>l.length - i.1) (0,s,o,nx)
  ⟨Nat.zero_le _,hI,Nat.le_refl _,fun _ _ _=>rfl,rfl,gQ⟩ ?_ ?_
 ·exact I6
 rintro⟨k,s',o',nx'⟩ ⟨hk,sy,hn,dF,hf,lr⟩
 simp only at hk sy hn dF hf lr
 refine b8 ?_
 refine aj (fun h1=> ?_) (fun h1=> ?_)
 ·simp at h1
  obtain⟨x,hx⟩:=ai h1
  have cp:=List.mem_of_getElem? hx
  have hd:l.drop k=x::l.drop (k+1):=by
   exact I5
  refine IV hx ?_
  have hl0:=sy.le
  refine dg (h x cp s' lr _ _ (?_:c0 base (H s') _ (nx'+7)) _ _ fun o2 n2 m1 m2 m3=> ?_)
  ·exact acJ
  have N8:∀id,base<=id->id<nx->o2 id=o id:=fun id h2 h3=>by
   exact acS
  refine b8 ?_
  refine aj (fun h2=> ?_) (fun h2=> ?_)
  ·refine b8 ?_
   simp at h2
   have:aC step s l=((step s' x).1,false):=by rw[hf,hd,aC,if_neg (by rw[h2];exact Bool.false_ne_true)]
   rw[this]at hK
   exact hK _ _ af (m2.mono af) N8
  ·refine b8 ?_
   simp at h2
   have:aC step s l=aC step (step s' x).1 (l.drop (k+1)):=by rw[hf,hd,aC,if_pos h2]
   refine au (k+1,(step s' x).1,o2,n2) ⟨h1,m2,by dsimp only;omega,N8,this,bw x cp s' lr h2⟩ pt ?_
   dsimp only
   have D2:∀r∈V.aO aK,r<n2:=fun r hr=>by have:=fZ r hr;omega
   refine bM.b9 _ af af m2.bX (fun _ _=>rfl) ?_
   exact dc
 ·exact TO
theorem BA{α σ:Type}(step:σ->α->σ×Bool)(a b:List α):∀s,aC step s (a++b)=if(aC step s a).2=true then aC step (aC step s a).1 b else((aC step s a).1,false):=by
 induction a with
 |nil=>intro s;simp[aC]
 |cons x a ih=>
  intro s
  simp only[List.cons_append,aC]
  split
  ·exact ih _
  ·rename_i h;simp
theorem qk{α β σ:Type}(step:σ->β->σ×Bool)(f:α->List β)(l:List α):∀s,aC step s (l.flatMap f)=aC (fun s x=>aC step s (f x)) s l:=by
 induction l with
 |nil=>intro s;rfl
 |cons x l ih=>intro s;simp only[List.flatMap_cons,BA,aC,ih]
theorem Cp{α σ:Type}{step:σ->α->σ×Bool}{ok:σ->Prop}:∀ (l:List α),(∀x∈l,∀s,ok s->(step s x).2=true->ok (step s x).1)->∀s,ok s->(aC step s l).2=true->ok (aC step s l).1
 |[],_,s,h,_=>h
 |x::l,bw,s,h,h2=>by
  simp only[aC]at h2|-
  split at h2
  ·rename_i hb
   rw[if_pos hb]
   exact Cp l (fun y hy=>bw y pD) _ (bw x ao s h hb) h2
  ·cases h2
def RoC(P:Program)(oY:Nat)(args:List V)(base:Nat)(h h2:Nat->ab)(v:V):Prop:=
 ∀o nx,c0 base h o nx->∀K X,StK base h2 v o nx K->eD P oY args o nx K X
section
variable {σ:Type}(base oY:Nat)(H:σ->Nat->ab)(step:σ->Tm×Int->σ×Bool)(ok:σ->Prop)
theorem RQ:∀t:Tm,t.fits->∀d:Int,0<=d->d+t.fR<=1000000->(∀x∈pre t d,∀s,ok s->(step s x).2=true->ok (step s x).1)->(∀x∈pre t d,∀s,ok s->RoC Tryz.prog oY [.d x.1.d, .d (.i x.2)] base (H s) (H (step s x).1) (.d (.bool (step s x).2)))->oY<base->
 ∀ (c:Nat) (o0:Nat->ab) (yb vb:Nat),base<=c->base<=yb->yb<c->base<=vb->vb<c->o0 yb= .row [.kq oY]->o0 vb= .row [.func (.func 246) [] [.ptr yb 0, .ptr vb 0]]->
 ∀s,ok s->gv Tryz.prog 246 [.d t.d, .d (.i d), .ptr yb 0, .ptr vb 0] c (ext base (H s) o0) (ext base (H (aC step s (pre t d)).1) o0) (.d (.bool (aC step s (pre t d)).2)):=by
 refine Tm.cc fun t ih hf d hd0 hd bw hR wC c o0 yb vb S3 WX hy Qj hv oy ov s gQ=> ?_
 have fu:=(Tm.aF _).1 hf
 intro o nx hI K X hK
 have hle:=hI.le
 have WY:o yb= .row [.kq oY]:=by rw[hI.eq yb hy];unfold ext;rw[if_neg (by omega),oy]
 have WZ:o vb= .row [.func (.func 246) [] [.ptr yb 0, .ptr vb 0]]:=by rw[hI.eq vb hv];unfold ext;rw[if_neg (by omega),ov]
 have y1:yb≠nx:=af
 have y2:∀k,yb≠nx+k:=fun k=>af
 have y3:vb≠nx:=af
 have y4:∀k,vb≠nx+k:=fun k=>af
 refine cR.ay mix WM ao ?_
 rw[aaK]
 simp+contextual only[go_sem,WY,WZ,y1,y2,y3,y4,Nat.add_assoc,Nat.left_eq_add,Nat.add_eq_left,Nat.add_left_cancel_iff]
 have um:=jT t d
 have mz:∀k∈t.kids,∀x∈pre k (d+1),x∈pre t d:=fun k hk x hx=>by
  exact Xs
 have hb:∀id,id<base->o id=H s id:=fun id aG=>by rw[hI.eq id (by omega)];unfold ext;rw[if_pos aG]
 have hIb:c0 base (H s) o nx:=⟨hI.bX,af,hb⟩
 refine ox (hR (t,d) yE s gQ _ _ ((hIb.aM (i:=nx) (m:=nx+6) af af af rfl).aM (i:=nx+1) af af af rfl) _ _ fun o2 n2 m1 m2 m3=> ?_)
 have k0:o2 nx= .row t.row:=by rw[m3 nx (by omega) (by omega),ak _ _ _ _ (by omega),ae]
 have k1:o2 (nx+1)= .row [.d (.i d)]:=by rw[m3 (nx+1) (by omega) (by omega),ae]
 have hold:∀id,base<=id->id<nx->o2 id=o id:=fun id h1 h2=>by rw[m3 id h1 (by omega),ak _ _ _ _ (by omega),ak _ _ _ _ (by omega)]
 have I0:∀id,base<=id->id<c->o id=o0 id:=fun id h1 h2=>by rw[hI.eq id h2];unfold ext;rw[if_neg (by omega)]
 cases D3:(step s (t,d)).2 with
 |false=>
  refine iC D3 ?_
  have Ce:aC step s (pre t d)=((step s (t,d)).1,false):=by rw[um,aC,if_neg (by rw[D3];exact Bool.false_ne_true)]
  rw[Ce]at hK
  refine hK _ _ af ⟨m2.bX.mono af,af,fun id aG=> ?_⟩ (fun id h1 h2=>hold id af h2)
  unfold ext
  split
  ·exact m2.eq id (by assumption)
  ·exact IZ
 |true=>
  have Ce:aC step s (pre t d)=aC (fun s k=>aC step s (pre k (d+1))) (step s (t,d)).1 t.kids:=by rw[um,aC,if_pos D3,qk]
  simp+contextual only[go_sem,D3,k0,k1]
  have q0:o2 yb= .row [.kq oY]:=by rw[hold yb WX (by omega),WY]
  have q1:o2 vb= .row [.func (.func 246) [] [.ptr yb 0, .ptr vb 0]]:=by rw[hold vb Qj (by omega),WZ]
  have m0:=m2.le
  refine bn (D1 t.kids fu.1 247 [.ptr vb 0, .ptr (nx+1) 0] n2 (fun s=>ext base (H s) o2) (fun s k=>aC step s (pre k (d+1))) ?_ ok ?_ ?_ (step s (t,d)).1 (bw (t,d) yE s gQ D3) _ _ ?_ _ _ ?_)
  ·exact GV
  ·exact acX
  ·intro k hk s' jC o3 n3 RR K3 X3 hK3
   have l3:=RR.le
   have r0:o3 vb= .row [.func (.func 246) [] [.ptr yb 0, .ptr vb 0]]:=by rw[RR.eq vb (by omega)];unfold ext;rw[if_neg (by omega),q1]
   have r1:o3 (nx+1)= .row [.d (.i d)]:=by rw[RR.eq (nx+1) (by omega)];unfold ext;rw[if_neg (by omega),k1]
   have y5:vb≠n3:=af
   have y6:∀k,vb≠n3+k:=fun k=>af
   have y7:nx+1≠n3:=af
   have y8:∀k,nx+1≠n3+k:=fun k=>af
   have hh:=Tm.rD hk
   refine cR.ay mix WN ao ?_
   rw[aaL]
   simp+contextual only[go_sem,r0,r1,y5,y6,y7,y8]
   rw[wrap64 (n:=d+1) (by omega) (by omega)]
   refine bn (ih k hk (fu.2 k hk) (d+1) af af (fun x hx=>bw x (mz k hk x hx)) (fun x hx=>hR x (mz k hk x hx)) wC n2 o2 yb vb af WX af Qj af q0 q1 s' jC _ _ (RR.aM (i:=n3) (m:=n3+6) af af af rfl) _ _ fun o4 n4 p1 p2 p3=> ?_)
   exact TL
  ·exact LI
  ·intro o5 n5 p1 p2 p3
   refine b8 ?_
   rw[<- Ce]
   refine hK _ _ af ⟨p2.bX.mono af,af,fun id aG=> ?_⟩ (fun id h1 h2=> ?_)
   ·rw[p2.eq id (by omega), <- Ce]
    unfold ext
    split
    ·rfl
    ·exact IZ
   ·exact Mz
theorem N9(t:Tm)(hf:t.fits)(hd:t.fR<=900000)(bw:∀x∈pre t 1,∀s,ok s->(step s x).2=true->ok (step s x).1)(hR:∀x∈pre t 1,∀s,ok s->RoC Tryz.prog oY [.d x.1.d, .d (.i x.2)] base (H s) (H (step s x).1) (.d (.bool (step s x).2)))(wC:oY<base)(tb:Nat)(I4:tb<base)(s:σ)(gQ:ok s)(cz:H s tb= .row t.row):
 gv Tryz.prog 245 [.kq oY, .ptr tb 0] base (H s) (H (aC step s (pre t 1)).1) (.cn []):=by
 intro o nx hI K X hK
 have hle:=hI.le
 have ot:o tb= .row t.row:=by rw[hI.eq tb I4,cz]
 have y1:tb≠nx:=af
 have y2:∀k,tb≠nx+k:=fun k=>af
 refine cR.ay mix WL ao ?_
 rw[aaJ]
 refine Xk ot y1 y2 ?_
 have hI1:c0 base (H s) (aM (aM (aM o nx (.row [.kq oY])) (nx+1) (.row [.d .bV])) (nx+1) (.row [.func (.func 246) [] [.ptr nx 0, .ptr (nx+1) 0]])) (nx+6):=by
  refine((hI.aM (i:=nx) (m:=nx+6) af af af ?_).aM (i:=nx+1) (m:=nx+6) af af af rfl).aM (i:=nx+1) af af af ?_
  ·exact LS
  ·exact iX
 refine bn (RQ base oY H step ok t hf 1 af af bw hR wC (nx+6) _ nx (nx+1) af hle af af af ?_ ?_ s gQ _ _ (hI1.ext (Nat.le_refl _) af) _ _ ?_)
 ·exact dn
 ·exact dn
 intro o2 n2 m1 m2 m3
 refine b8 ?_
 refine hK _ _ af ⟨m2.bX,af,fun id aG=> ?_⟩ (fun id h1 h2=> ?_)
 ·exact AB
 ·exact Mn
end
theorem D4(t:Tm)(o:Nat->ab)(nx:Nat)(K X:V->(Nat->ab)->Nat->Prop)(h:K (.func (.func 245) [] [.ptr nx 0]) (aM o nx (.row t.row)) (nx+4)):cR Tryz.prog 206 [.d t.d] o nx K X:=by
 refine cR.ay mix Wm ao ?_
 rw[aal]
 refine b8 ?_
 exact h
end
def H5:Option j9->gf
 |none=> .normal
 |some .ret=> .ret
 |some (.exit j)=> .exit j
def zL{σ:Type}(J:σ->Option j9)(step:σ->Tm×Int->σ)(s:σ)(x:Tm×Int):σ×Bool:=(step s x,(J (step s x)).isNone)
theorem BB{σ:Type}(J:σ->Option j9)(step:σ->Tm×Int->σ):∀ (l:List (Tm×Int)) (s:σ),J s=none->(aC (zL J step) s l).2=(J (aC (zL J step) s l).1).isNone
 |[],s,h=>by simp[aC,h]
 |x::l,s,h=>by
  simp only[aC]
  split
  ·rename_i hb
   exact BB J step l _ (by simpa[zL]using hb)
  ·rename_i hb
   cases hj:J (step s x)with
   |none=>exact absurd (by simp[zL,hj]) hb
   |some j=>simp[zL,hj]
theorem tY{σ:Type}(t:Tm)(hf:t.fits)(hd:t.fR<=900000){n bq:Nat}{gq:Operand}{ps:List Nat}{jg fe:IC}{Q:gf->S->Prop}{e:Nat->V}{o:Nat->ab}{nx tb:Nat}(env:List V)(he:mh e env 0)
 (DJ:ps.all (fun t=>decide (t<n))=true) (hl:ps.length=2) (hg:Good o nx) (hrefs:∀r∈V.aO env,r<nx) (ht:o tb= .row t.row)
 (G:σ->Nat->ab) (J:σ->Option j9) (step:σ->Tm×Int->σ) (ok:σ->Prop) (s0:σ) (gQ:ok s0) (Tk:J s0=none) (h0:∀id,id<nx->o id=G s0 id) (bw:∀x∈pre t 1,∀s,ok s->J s=none->J (step s x)=none->ok (step s x))
 (mL:∀L,iQ Tryz.prog n env ps jg fe L->(∀st pd m,nx<=m->(L st pd).refs.all (fun r=>decide (r<m))=true)->∀x∈pre t 1,∀s,ok s->J s=none->∀o3 n3,c0 nx (G s) o3 n3->nx<n3->o3 nx=L .ready none->∀K X,
  (∀e' o' n' st pd,n3<=n'->c0 nx (G (step s x)) o' n'->o' nx=L st pd->(∀id,nx<id->id<n3->o' id=o3 id)->jU nx K X (H5 (J (step s x))) ⟨e',o',n'⟩)->
  ll Tryz.prog n n3 true jg (ow Tryz.prog n n3 nx fe K X) ⟨nY (br env) ps [.d x.1.d, .d (.i x.2)],o3,n3⟩)
 (kQ:∀o' n',c0 nx (G (aC (zL J step) s0 (pre t 1)).1) o' n'->qd Q (J (aC (zL J step) s0 (pre t 1)).1) ⟨e,o',n'⟩):
 x9 Tryz.prog n bq false gq ps jg fe Q ⟨e,o,nx⟩ (.func (.func 245) [] [.ptr tb 0]):=by
 refine F9 env he (fun L hL=> ?_)
 have I4:tb<nx:=hg.lt L5
 let H:σ->Nat->ab:=fun s id=>if id<nx then G s id else if id=nx then(match J s with|none=>L .ready none|some j=>L .done (some j))else .no
 have I1:∀s id,id<nx->H s id=G s id:=fun s id h=>if_pos h
 have PZ:∀s,J s=none->H s nx=L .ready none:=fun s h=>by show(if nx<nx then _ else _)=_;rw[if_neg (by omega),if_pos rfl,h]
 have Xv:∀s j,J s=some j->H s nx=L .done (some j):=fun s j h=>by show(if nx<nx then _ else _)=_;rw[if_neg (by omega),if_pos rfl,h]
 have yu:∀st pd m,nx<=m->(L st pd).refs.all (fun r=>decide (r<m))=true:=fun st pd m hm=>by
  exact Mi
 refine N9 (nx+1) nx H (zL J step) (fun s=>ok s/\J s=none) t hf hd (fun x hx s h1 h2=> ?_) (fun x hx s h1=> ?_) af tb af s0 ⟨gQ,Tk⟩ L3 _ _ ⟨?_,Nat.le_refl _,fun id aG=> ?_⟩ _ _ ?_
 ·have hj:J (step s x)=none:=by simpa[zL]using h2
  exact⟨bw x hx s h1.1 h1.2 hj,hj⟩
 ·intro o3 n3 hI K X hK
  have hle:=hI.le
  have Lh:o3 nx=L .ready none:=by rw[hI.eq nx (by omega),PZ s h1.2]
  refine wA hL mix Lh af DJ (by simp[hl]) ?_
  refine mL L hL yu x hx s h1.1 h1.2 o3 n3 ⟨hI.bX,af,fun id aG=>by rw[hI.eq id (by omega),I1 _ _ aG]⟩ af Lh K X (fun e' o' n' st pd k1 k2 k3 k4=> ?_)
  have key:∀st' pd' b,(J (step s x)).isNone=b->H (step s x) nx=L st' pd'->K (.d (.bool b)) (aM o' nx (L st' pd')) n':=fun st' pd' b hb hh=>by
   subst hb
   refine hK _ _ k1 ⟨k2.bX.aM af (yu _ _ _ af),af,fun id aG=> ?_⟩ (fun id g1 g2=> ?_)
   ·by_cases vj:id=nx
    ·exact LU
    ·rw[ak _ _ _ _ vj]
     show o' id=H (step s x) id
     exact LL
   ·exact XC
  cases hj:J (step s x)with
  |none=>exact Xz
  |some j=>
   cases j with
   |ret=>exact Xw
   |exit j=>exact Xu
 ·exact Xx
 ·by_cases vj:id=nx
  ·exact LY
  ·exact Xt
 ·intro o' n' k1 k2 k3
  have hle:=k2.le
  generalize hsf:(aC (zL J step) s0 (pre t 1)).1=sf at*
  have kk:∀st pd,c0 nx (G sf) (aM o' nx (L st pd)) n':=fun st pd=>⟨k2.bX.aM af (yu _ _ _ af),af,fun id aG=>by rw[ak _ _ _ _ (by omega),k2.eq id (by omega),I1 _ _ aG]⟩
  cases hj:J sf with
  |none=>
   refine⟨.ready,none,by rw[k2.eq nx (by omega),PZ _ hj],(fun h=>by cases h), ?_⟩
   have:=kQ _ _ (kk .exhausted none)
   rwa [hj]at this
  |some j=>
   refine⟨.done,some j,by rw[k2.eq nx (by omega),Xv _ _ hj],(fun h=>by cases h), ?_⟩
   have:=kQ _ _ (kk .exhausted (some j))
   rwa [hj]at this
theorem iG(n low high:Int):aQ Tryz.prog 155 [.i n, .i low, .i high] (.ret [.bool (cF n low high)]):=by
 refine aQ.ay mix VK ao ?_
 rw[ZJ]
 refine b8 ?_
 rfl
theorem Gc(s:aV)(t:Tm)(h:t.op=1):aQ Tryz.prog 238 [s.d,t.d] (.ret [.bool (bz s t)]):=by
 have hn:bz s t=(cF t.n 0 19&&(t.kids.length:Int)==0):=by simp[bz,h,Bool.and_comm]
 refine aQ.ay mix WD ao ?_
 rw[aaC]
 exact Ml
theorem JW(s:aV)(t:Tm)(h:t.op=2):aQ Tryz.prog 239 [s.d,t.d] (.ret [.bool (bz s t)]):=by
 have hn:bz s t=(cF t.n (-1000000) 1000000&&(t.kids.length:Int)==0):=by simp[bz,h,Bool.and_comm]
 refine aQ.ay mix WE ao ?_
 rw[aaD]
 exact Ml
theorem agH(s:aV)(t:Tm)(h:t.op=8):aQ Tryz.prog 243 [s.d,t.d] (.ret [.bool (bz s t)]):=by
 have hn:bz s t=(cF t.n 0 19&&(t.kids.length:Int)==2):=by simp[bz,h,Bool.and_comm]
 refine aQ.ay mix WJ ao ?_
 rw[aaH]
 exact Ml
theorem aaX(s:aV)(t:Tm)(h:t.op=6\/t.op=7\/t.op=9\/t.op=10\/t.op=11\/t.op=12\/t.op=13\/t.op=14\/t.op=15):aQ Tryz.prog 244 [s.d,t.d] (.ret [.bool (bz s t)]):=by
 have hn:bz s t=(t.n==0&&(t.kids.length:Int)==2):=by
  rcases h with h|h|h|h|h|h|h|h|h<;>simp[bz,h,cF,Bool.and_comm]
 refine aQ.ay mix WK ao ?_
 rw[aaI]
 refine b8 ?_
 rw[hn]
theorem agI(s:aV)(t:Tm)(hs:s.Fits)(h:t.op=3):aQ Tryz.prog 240 [s.d,t.d] (.ret [.bool (bz s t)]):=by
 have hn:bz s t=(cF t.n 0 (s.cons.length - 1)&&(t.kids.length:Int)==cX s.cons t.n):=by simp[bz,h]
 refine aQ.ay mix WG ao ?_
 rw[aaE]
 refine b8 ?_
 rw[wrap64 (by have:=hs.lc;omega) (by have:=hs.lc;omega)]
 refine aq (iG _ _ _) rfl ?_
 cases hI:cF t.n 0 (s.cons.length - 1)with
 |false=>
  exact Mh
 |true=>
  exact XO
theorem agJ(s:aV)(t:Tm)(hs:s.Fits)(h:t.op=4):aQ Tryz.prog 241 [s.d,t.d] (.ret [.bool (bz s t)]):=by
 have hn:bz s t=(cF t.n 0 (s.bR.length - 1)&&(t.kids.length:Int)==cX s.bR t.n):=by simp[bz,h]
 refine aQ.ay mix WH ao ?_
 rw[aaF]
 refine b8 ?_
 rw[wrap64 (by have:=hs.lf;omega) (by have:=hs.lf;omega)]
 refine aq (iG _ _ _) rfl ?_
 cases hI:cF t.n 0 (s.bR.length - 1)with
 |false=>
  exact Mh
 |true=>
  exact XO
theorem aaY(s:aV)(t:Tm)(hs:s.Fits)(h:t.op=5):aQ Tryz.prog 242 [s.d,t.d] (.ret [.bool (bz s t)]):=by
 have hn:bz s t=(cF t.n 0 (s.bR.length - 1)&&decide ((t.kids.length:Int)<cX s.bR t.n)):=by simp[bz,h]
 refine aQ.ay mix WI ao ?_
 rw[aaG]
 refine b8 ?_
 rw[wrap64 (by have:=hs.lf;omega) (by have:=hs.lf;omega)]
 refine aq (iG _ _ _) rfl ?_
 cases hI:cF t.n 0 (s.bR.length - 1)with
 |false=>
  exact Mh
 |true=>
  exact XO
@[reducible] def rf (n:Nat):V:= .func (.func n) [] []
@[reducible] def ajd:List V:=[.d .bV,rf 238,rf 239,rf 240,rf 241,rf 242, .d .bV, .d .bV,rf 243, .d .bV, .d .bV, .d .bV, .d .bV, .d .bV, .d .bV, .d .bV]
@[reducible] def Gd:List V:=[.d .bV,rf 238,rf 239,rf 240,rf 241,rf 242,rf 244,rf 244,rf 243,rf 244,rf 244,rf 244,rf 244,rf 244,rf 244,rf 244]
def Lp(k:Nat):List V:=Gd.take k++ajd.drop k
theorem funcOf{P:Program}{t:TypeId}(h:(match P.underlying t with|some (.func _ _ _)=>true|_=>false)=true):∃a b c,P.underlying t=some (.func a b c):=by
 split at h
 ·exact⟨_,_,_,by assumption⟩
 ·cases h
@[go_sem] theorem aje (o:Nat->ab) (pW:Bool):sj Tryz.prog o 188 pW (.d .bV) (.d .bV)=some (.d (.bool true)):=by
  exact Uj
@[go_sem] theorem ajf (o:Nat->ab) (pW:Bool) (f:Fn) (x y:List V):sj Tryz.prog o 188 pW (.func f x y) (.d .bV)=some (.d (.bool false)):=by
  exact Uj
theorem RS(base:Nat)(h:Nat->ab):gv Tryz.prog 205 [] base h h (.agg Gd):=by
 intro o nx hI K X hK
 have hle:=hI.le
 refine cR.ay mix Wl ao ?_
 rw[aak]
 simp+contextual only[go_sem,Nat.add_assoc,Nat.left_eq_add,Nat.add_eq_left,Nat.add_left_cancel_iff]
 refine aH (fun k:Nat=>⟨br [.ptr nx 0, .ptr (nx+2) 0, .aa, .aa, .d (.i k)],aM (aM o nx (.row (List.replicate 16 (.d .bV)))) (nx+2) (.row (Lp k)),nx+5⟩)
  (fun k=>k<=16) (fun k=>16 - k) 0 (Nat.zero_le _) ?_ (fun k hk=> ?_)
 ·refine bM.b9 _ af af ?_ (fun id aG=> ?_) ?_
  ·exact((hI.bX.mono af).aM af rfl).aM af rfl
  ·rw[jB];rfl
  ·exact dc
 have hg:∀k,k<16->Good (aM (aM o nx (.row (List.replicate 16 (.d .bV)))) (nx+2) (.row (Lp (k+1)))) (nx+5):=fun k hk=>
  ((hI.bX.mono af).aM af rfl).aM af (by
    rcases(by omega:k=0\/k=1\/k=2\/k=3\/k=4\/k=5\/k=6\/k=7\/k=8\/k=9\/k=10\/k=11\/k=12\/k=13\/k=14\/k=15)with rfl|rfl|rfl|rfl|rfl|rfl|rfl|rfl|rfl|rfl|rfl|rfl|rfl|rfl|rfl|rfl<;>rfl)
 by_cases ajg:k=16
 ·subst ajg
  refine acq ?_
  refine hK _ _ ?_ ⟨?_, ?_,fun id aG=> ?_⟩ (fun id h1 h2=> ?_)
  rotate_left
  ·exact(((hI.bX.mono af).aM af rfl).aM af rfl).aM af rfl
  ·omega
  ·(repeat(first|rfl|rw[ae]|rw[ak _ _ _ _ (by omega)]))
   exact hI.eq id aG
  ·exact dn
  ·omega
 ·have hgk:=hg k af
  obtain⟨k1,x6⟩:∃k1,k1=k+1:=⟨_,rfl⟩
  rw[<- x6]at hgk
  rcases(by omega:k=0\/k=1\/k=2\/k=3\/k=4\/k=5\/k=6\/k=7\/k=8\/k=9\/k=10\/k=11\/k=12\/k=13\/k=14\/k=15)with rfl|rfl|rfl|rfl|rfl|rfl|rfl|rfl|rfl|rfl|rfl|rfl|rfl|rfl|rfl|rfl
  all_goals
   refine acq ?_
   refine au k1 af af (bM.b9 _ af af hgk (fun id aG=> ?_) ?_)
   all_goals subst x6
   ·first|rfl|(rw[jB];rfl)
   ·exact dc
def Oa(n:Int):Nat:=if n=1 then 238 else if n=2 then 239 else if n=3 then 240 else if n=4 then 241 else if n=5 then 242 else if n=8 then 243 else 244
theorem aaZ(s:aV)(t:Tm)(hs:s.Fits)(h:cF t.op 1 15=true):aQ Tryz.prog (Oa t.op) [s.d,t.d] (.ret [.bool (bz s t)])/\Gd[t.op.toNat]? =some (rf (Oa t.op))/\0<=t.op/\t.op<16:=by
 simp[cF]at h
 rcases(by omega:t.op=1\/t.op=2\/t.op=3\/t.op=4\/t.op=5\/t.op=8\/(t.op=6\/t.op=7\/t.op=9\/t.op=10\/t.op=11\/t.op=12\/t.op=13\/t.op=14\/t.op=15))with h|h|h|h|h|h|h
 ·exact⟨by rw[h];exact Gc s t h,by rw[h];rfl,af,af⟩
 ·exact⟨by rw[h];exact JW s t h,by rw[h];rfl,af,af⟩
 ·exact⟨by rw[h];exact agI s t hs h,by rw[h];rfl,af,af⟩
 ·exact⟨by rw[h];exact agJ s t hs h,by rw[h];rfl,af,af⟩
 ·exact⟨by rw[h];exact aaY s t hs h,by rw[h];rfl,af,af⟩
 ·exact⟨by rw[h];exact agH s t h,by rw[h];rfl,af,af⟩
 ·have hp:=aaX s t h
  rcases h with h|h|h|h|h|h|h|h|h<;>exact⟨by rw[h];exact hp,by rw[h];rfl,af,af⟩
def pz(s:aV)(n:Int)(x:Tm×Int):Bool:=decide (40<n+1)||decide (12<x.2)|| !cF x.1.op 1 15|| !bz s x.1
def iR(s:aV)(n:Int×Bool)(x:Tm×Int):Int×Bool:=(n.1+1, !pz s n.1 x)
def fJ(n:Int×Bool):Option j9:=if n.2=true then none else some .ret
def mQ(s:aV)(t:Tm):Bool:=(aC (zL fJ (iR s)) (0,true) (pre t 1)).2
theorem Ob(s:aV)(hs:s.Fits)(t:Tm)(hf:t.fits)(hd:t.fR<=900000):aQ Tryz.prog 163 [s.d,t.d] (.ret [.bool (mQ s t)]):=by
 refine aQ.ay mix VS ao ?_
 rw[ZR]
 refine b8 ?_
 refine cW (RS 3 _ _ _ (?_:c0 3 (aM (aM (aM (fun _=> .no) 0 (.row s.row)) 1 (.row t.row)) 2 (.row [.d (.bool false)])) _ 3) _ _ fun o2 n2 m1 m2 m3=> ?_)
 ·exact⟨dE,Nat.le_refl _,fun _ _=>rfl⟩
 have p0:o2 0= .row s.row:=m2.eq 0 af
 have p1:o2 1= .row t.row:=m2.eq 1 af
 have p2:o2 2= .row [.d (.bool false)]:=m2.eq 2 af
 have e0:0≠n2:=af
 have e1:1≠n2:=af
 have e2:2≠n2:=af
 have e3:∀k,0≠n2+k:=fun k=>af
 have e4:∀k,1≠n2+k:=fun k=>af
 have e5:∀k,2≠n2+k:=fun k=>af
 simp+contextual only[go_sem,p0,p1,p2,e0,e1,e2,e3,e4,e5,Nat.add_assoc,Nat.left_eq_add,Nat.add_eq_left,Nat.add_left_cancel_iff]
 refine cW (D4 t _ _ _ _ ?_)
 refine b8 ?_
 have hG0:∀n,Good (aM (aM (aM (aM (aM (aM o2 n2 (.row (List.replicate 16 (.d .bV)))) (n2+1) (.row [.d (.i 0)])) n2 (.row Gd)) (n2+1) (.row [.d (.i 0)])) (n2+5) (.row t.row)) (n2+1) (.row [.d (.i n)])) (n2+9):=fun n=>by
  have hg:=m2.bX
  exact dE
 refine tY t hf hd [.aa, .aa, .ptr 0 0, .aa, .ptr 2 0, .ptr n2 0, .ptr (n2+1) 0] ?_ bG rfl ?_ GV (ae _ _ _)
  (fun s=>aM (aM (aM (aM (aM (aM o2 n2 (.row (List.replicate 16 (.d .bV)))) (n2+1) (.row [.d (.i 0)])) n2 (.row Gd)) (n2+1) (.row [.d (.i 0)])) (n2+5) (.row t.row)) (n2+1) (.row [.d (.i s.1)]))
  fJ (iR s) (fun s=>0<=s.1/\s.1<=40) (0,true) ⟨bG,bG⟩ rfl ?_ ?_ ?_ ?_
 ·exact Lx
 ·have hg:=m2.bX
  exact dE
 ·intro id aG
  by_cases h:id=n2+1
  ·subst h;(repeat(first|rfl|rw[ae]|rw[ak _ _ _ _ (by omega)]))
  ·rw[ak _ _ _ _ h];rfl
 ·intro x hx s' h1 h2 h3
  have:pz s s'.1 x=false:=by simpa[fJ,iR]using h3
  simp[pz]at this
  simp only[iR]
  omega
 ·intro L hL yu x hx s' h1 h2 o3 n3 hI hn ho K X db
  simp only[nY]
  have hg:=hI.bX
  have q0:o3 0= .row s.row:=by
   rw[hI.eq 0 (by omega)];(repeat(first|rfl|rw[ae]|rw[ak _ _ _ _ (by omega)]))
   exact p0
  have q2:o3 2= .row [.d (.bool false)]:=by
   exact TX
  have q3:o3 n2= .row Gd:=by rw[hI.eq n2 (by omega)];(repeat(first|rfl|rw[ae]|rw[ak _ _ _ _ (by omega)]))
  have q4:o3 (n2+1)= .row [.d (.i s'.1)]:=by rw[hI.eq (n2+1) (by omega)];(repeat(first|rfl|rw[ae]|rw[ak _ _ _ _ (by omega)]))
  have fin:∀ (o':Nat->ab) (n':Nat),(∀id,id<n2+5+4->o' id=aM o3 (n2+1) (.row [.d (.i (s'.1+1))]) id)->Good o' n'->n3<=n'->c0 (n2+5+4) (aM (aM (aM (aM (aM (aM o2 n2 (.row (List.replicate 16 (.d .bV)))) (n2+1) (.row [.d (.i 0)])) n2 (.row Gd)) (n2+1) (.row [.d (.i 0)])) (n2+5) (.row t.row)) (n2+1) (.row [.d (.i (iR s s' x).1)])) o' n':=by
   intro o' n' k1 k2 k3
   refine⟨k2,af,fun id aG=> ?_⟩
   rw[k1 id aG]
   by_cases h:id=n2+1
   ·subst h;rw[ae,ae];rfl
   ·rw[ak _ _ _ _ h,ak _ _ _ _ h,hI.eq id aG,ak _ _ _ _ h]
  refine b8 ?_
  refine oz hL (pd:=none) ?_ ?_
  ·(repeat(first|rfl|rw[ae]|rw[ak _ _ _ _ (by omega)]))
   exact ho
  cases c1:decide (40<s'.1+1)with
  |true=>
   have hJ:fJ (iR s s' x)=some .ret:=by simp[fJ,iR,pz,c1]
   rw[hJ]at db
   refine Lm q0 q2 q3 q4 c1 ?_
   exact XJ
  |false=>
  cases c2:decide (12<x.2)with
  |true=>
   have hJ:fJ (iR s s' x)=some .ret:=by simp[fJ,iR,pz,c2]
   rw[hJ]at db
   refine Qp q0 q2 q3 q4 c1 c2 ?_
   exact XJ
  |false=>
  cases c3:cF x.1.op 1 15 with
  |false=>
   have hJ:fJ (iR s s' x)=some .ret:=by simp[fJ,iR,pz,c3]
   rw[hJ]at db
   refine Qp q0 q2 q3 q4 c1 c2 ?_
   refine aq (iG _ _ _) rfl ?_
   simp+contextual (disch:=first|omega|simp only[go_sem,false_implies]) only[go_sem,wrap64,if_pos,q0,q2,q3,q4,c1,c2,c3]
   exact XJ
  |true=>
  obtain⟨r1,r2,r3,r4⟩:=aaZ s x.1 hs c3
  refine Qp q0 q2 q3 q4 c1 c2 ?_
  refine aq (iG _ _ _) rfl ?_
  simp+contextual (disch:=first|omega|simp only[go_sem,false_implies]) only[go_sem,wrap64,if_pos,q0,q2,q3,q4,c1,c2,c3,r2,r3,r4,Nat.mul_one]
  refine aq r1 rfl ?_
  simp+contextual (disch:=first|omega|simp only[go_sem,false_implies]) only[go_sem,wrap64,if_pos,q0,q2,q3,q4,c1,c2,c3]
  refine aw (aD rfl) ?_
  cases c4:bz s x.1 with
  |false=>
   have hJ:fJ (iR s s' x)=some .ret:=by simp[fJ,iR,pz,c4]
   rw[hJ]at db
   simp+contextual (disch:=first|omega|simp only[go_sem,false_implies]) only[go_sem,wrap64,if_pos,q2,c4]
   refine db _ _ _ .busy none af (fin _ _ (fun id aG=>mw) dE af) dn (fun id h3 h4=>by(repeat(first|rfl|rw[ae]|rw[ak _ _ _ _ (by omega)])))
  |true=>
   have hJ:fJ (iR s s' x)=none:=by simp[fJ,iR,pz,c1,c2,c3,c4]
   rw[hJ]at db
   simp+contextual (disch:=first|omega|simp only[go_sem,false_implies]) only[go_sem,wrap64,if_pos,c4]
   refine db _ _ _ .busy none af (fin _ _ (fun id aG=>mw) dE af) dn (fun id h3 h4=>by(repeat(first|rfl|rw[ae]|rw[ak _ _ _ _ (by omega)])))
 ·intro o' n' hI
  have q2:o' 2= .row [.d (.bool false)]:=by
   exact TX
  rw[show mQ s t=(fJ (aC (zL fJ (iR s)) (0,true) (pre t 1)).1).isNone from BB _ _ _ _ rfl]
  generalize (aC (zL fJ (iR s)) (0,true) (pre t 1)).1=sf at*
  cases hj:fJ sf with
  |none=>
   simp only[qd]
   refine cf q2 ?_
   rfl
  |some j=>
   have:j= .ret:=by
    unfold fJ at hj;split at hj
    ·cases hj
    ·injection hj with hj;exact hj.symm
   subst this
   simp only[qd]
   refine cf q2 ?_
   rfl
section
def enc{κ:Type}(kf:κ->D)(m:List (κ×D)):List (D×D):=m.map fun p=>(kf p.1,p.2)
def gC{κ:Type}[BEq κ](k:κ):List (κ×D)->Nat->Option (Nat×D)
 |[],_=>none
 |p::m,i=>if(k==p.1)=true then some (i,p.2)else gC k m (i+1)
def yd{κ:Type}[BEq κ](k:κ)(x:D)(m:List (κ×D)):List (κ×D):=match gC k m 0 with|some (i,_)=>m.set i (k,x)|none=>m++[(k,x)]
def agK{κ:Type}[BEq κ](k:κ)(m:List (κ×D)):List (κ×D):=match gC k m 0 with|some (i,_)=>m.eraseIdx i|none=>m
def ye(d:D)(r:Option (Nat×D)):Option (Nat×D×D):=match r with|some (i,x)=>some (i,d,x)|none=>none
@[go_sem] theorem ach (d:D) (i:Nat) (x:D):ye d (some (i,x))=some (i,d,x):=rfl
@[go_sem] theorem aci (d:D):ye d none=none:=rfl
section
variable {P:Program}{kt:TypeId}
theorem RT(h:cm P kt=some .int)(a b:Int):sr P 100 kt (.int .i64 a) (.int .i64 b)=some (a==b):=by simp[sr,h]
theorem RU(h:cm P kt=some .str)(a b:List UInt8):sr P 100 kt (.str a) (.str b)=some (a==b):=by simp[sr,h]
@[go_sem] theorem H6 (h:cm P kt=some .int) (a:Int):py P 100 kt (.int .i64 a)=true:=by simp[py,h]
@[go_sem] theorem ahq (h:cm P kt=some .str) (a:List UInt8):py P 100 kt (.str a)=true:=by simp[py,h]
theorem wD{κ:Type}[BEq κ][LawfulBEq κ](kf:κ->D)(he:∀a b,sr P 100 kt (kf a) (kf b)=some (a==b))(k:κ):∀ (m:List (κ×D)) (i:Nat),findD P kt (kf k) (enc kf m) i=some (ye (kf k) (gC k m i))
 |[],_=>rfl
 |p::m,i=>by
  have ih:=wD kf he k m (i+1)
  simp only[enc,List.map_cons,findD,he,gC]at ih|-
  by_cases h:k=p.1
  ·subst h;simp[ye]
  ·have:(k==p.1)=false:=by simpa using h
   simp only[this,Bool.false_eq_true,if_false];exact ih
@[go_sem] theorem D5 (h:cm P kt=some .int) (k:Int) (m:List (Int×D)):findD P kt (.int .i64 k) (enc (.int .i64) m) 0=some (ye (.int .i64 k) (gC k m 0)):=wD (.int .i64) (RT h) k m 0
@[go_sem] theorem agL (h:cm P kt=some .str) (k:List UInt8) (m:List (List UInt8×D)):findD P kt (.str k) (enc .str m) 0=some (ye (.str k) (gC k m 0)):=wD .str (RU h) k m 0
end
section
variable {κ:Type}(kf:κ->D)
theorem Oc(m:List (κ×D))(k:κ)(x:D):enc kf m++[(kf k,x)]=enc kf (m++[(k,x)]):=by simp[enc]
theorem H7(m:List (κ×D))(i:Nat)(k:κ)(x:D):(enc kf m).set i (kf k,x)=enc kf (m.set i (k,x)):=by simp[enc,List.map_set]
theorem ta:∀ (m:List (κ×D)) (i:Nat),(enc kf m).eraseIdx i=enc kf (m.eraseIdx i)
 |[],i=>rfl
 |p::m,0=>rfl
 |p::m,i+1=>by
  have:=ta m i
  simp only[enc,List.map_cons,List.eraseIdx_cons_succ]at this|-
  rw[this]
theorem RV(m:List (κ×D)):(((enc kf m).map (·.1)).zip ((enc kf m).map (·.2)))=enc kf m:=by
 induction m with
 |nil=>rfl
 |cons p m ih=>simp only[enc,List.map_cons,List.zip_cons_cons]at ih|-;rw[ih]
theorem zM{K:V->List (Nat×ab)->Prop}{id:Nat}{m:List (κ×D)}(h0:m=[]->K (.cn [.d (.bool false)]) [])
 (h1:∀ (i:Nat) k x,m[i]? =some (k,x)->K (.cn [.d (.bool true), .d (kf k), .d x]) [(id, .nD (enc kf (m.eraseIdx i)) (some (kf k,x)))]):Dz K id (enc kf m):=by
 refine⟨fun h=>h0 ?_,fun i k x h=> ?_⟩
 ·cases m with
  |nil=>rfl
  |cons p m=>simp[enc]at h
 ·simp only[enc,List.getElem?_map]at h
  cases hm:m[i]? with
  |none=>rw[hm]at h;cases h
  |some p=>
   rw[hm]at h
   simp at h
   obtain⟨rfl,rfl⟩:=h
   have:=h1 i p.1 p.2 (by rw[hm])
   rwa [<- ta]at this
end
theorem D6{κ:Type}[BEq κ][LawfulBEq κ]{k:κ}:∀ {m:List (κ×D)} {i j:Nat} {x:D},gC k m i=some (j,x)->i<=j/\m[j - i]? =some (k,x)
 |[],_,_,_,h=>by cases h
 |p::m,i,j,x,h=>by
  simp only[gC]at h
  split at h
  ·rename_i hk
   injection h with h;injection h with h1 h2
   subst h1;subst h2
   exact⟨Nat.le_refl _,by simp[(by simpa using hk:k=p.1)]⟩
  ·obtain⟨h1,h2⟩:=D6 h
   refine⟨af, ?_⟩
   rw[show j - i=(j - (i+1))+1 by omega]
   simpa using h2
theorem zN{κ:Type}[BEq κ][LawfulBEq κ]{k:κ}:∀ {m:List (κ×D)} {i:Nat},gC k m i=none↔∀p∈m,p.1≠k
 |[],_=>by simp[gC]
 |p::m,i=>by
  simp only[gC]
  split
  ·rename_i hk
   simp[(by simpa using hk:k=p.1)]
  ·rename_i hk
   rw[zN]
   have:p.1≠k:=fun e=>hk (by simp[e])
   simp[this]
def rK(P:Program)(o:Nat->ab)(t:TypeId)(m k v:V):Option gY:=
 match qP P t,eI o k,eI o v,pG o m with
 |some (kt,_),some kd,some vd,some (some (id,Hd,He),l)=>if k.ids=[]/\py P 100 kt kd=true/\lM kd=true/\v.ids.all (· !=id)=true then match findD P kt kd l 0 with
  |some (some (i,k',_))=>if k'.same kd=true then some (.cn [],dw o v.ids++[(id, .map Hd He (l.set i (kd,vd)))],id::v.ids)else none
  |some none=>some (.cn [],dw o v.ids++[(id, .map Hd He (l++[(kd,vd)]))],id::v.ids)
  |none=>none
  else none
 |_,_,_,_=>none
@[go_sem low] theorem zO (P:Program) (o:Nat->ab) (t:TypeId) (m v:V) (k:D):gO P o t m (.d k) v=rK P o t m (.d k) v:=by unfold gO rK;rfl
def wE(P:Program)(o:Nat->ab)(t:TypeId)(m k:V)(ok:Bool):Option gY:=
 match qP P t,eI o k,qQ o m with
 |some (kt,vt),some kd,some (rd,l)=>if k.ids=[]/\py P 100 kt kd=true then match findD P kt kd l 0 with
  |some (some (_,_,x))=>some (if ok=true then .cn [.d x, .d (.bool true)]else .d x,[],rd)
  |some none=>match zeroV P vt with
   |some z=>some (if ok=true then .cn [z, .d (.bool false)]else z,[],rd)
   |none=>none
  |none=>none
  else none
 |_,_,_=>none
@[go_sem low] theorem oZ (P:Program) (o:Nat->ab) (t:TypeId) (m:V) (k:D) (ok:Bool):jz P o t m (.d k) ok=wE P o t m (.d k) ok:=by unfold jz wE;rfl
attribute [go_sem] wE rK oS nE nF pH pI nG qQ pG ahL pF lM D.same
end
theorem dec_lt{l:List UInt8}{i:Nat}{b:UInt8}(hb:l[i]? =some b)(h:b.toNat<128):Utf8.decode ⟨⟨l⟩⟩ i=(b.toNat,1):=by
 have e:(ByteArray.mk ⟨l⟩).get! i=b:=by
  show(Array.mk l)[i]! =b
  simp[hb]
 simp only[Utf8.decode,Nat.add_zero,e]
 rw[if_pos h]
theorem aa0{l:List UInt8}{i:Nat}{b:UInt8}(hb:l[i]? =some b)(h:128<=b.toNat):128<=(Utf8.decode ⟨⟨l⟩⟩ i).1:=by
 have e:(ByteArray.mk ⟨l⟩).get! i=b:=by
  show(Array.mk l)[i]! =b
  simp[hb]
 simp only[Utf8.decode,Nat.add_zero,e]
 rw[if_neg (by omega)]
 split
 ·split<;>simp_all[Utf8.runeError]
 ·split
  ·split
   ·rename_i h3;simp at h3;omega
   ·simp[Utf8.runeError]
  ·split
   ·split
    ·rename_i h3;simp at h3;omega
    ·simp[Utf8.runeError]
   ·simp[Utf8.runeError]
def RW(r:Int):Bool:=decide (97<=r)&&decide (r<=122)||decide (65<=r)&&decide (r<=90)
theorem Od(b:UInt8):RW b.toNat=letterF b:=by
 rw[Bool.eq_iff_iff]
 simp[RW,letterF]
theorem JX(s:List UInt8)(hs:s.length<=9223372036854775807):aQ Tryz.prog 154 [.str s] (.ret [.bool (kT s)]):=by
 refine aQ.ay mix VJ ao ?_
 rw[ZI]
 refine iZ ?_
 refine aH (fun k:Nat=>⟨br [.d (.str s), .aa, .aa, .aa, .aa, .aa, .ptr 2 0],aM (fun _=> .no) 2 (.AK s k),3⟩)
  (fun k=>k<=s.length/\(s.take k).all letterF=true) (fun k=>s.length - k) 0 ⟨Nat.zero_le _,ao⟩ (bM.b9 _ af af (Good.nil.aM af rfl) (fun _ _=>rfl) ?_) (fun k hk=> ?_)
 ·exact dc
 by_cases h2:k<s.length
 ·obtain⟨b,hb⟩:=ai h2
  by_cases h3:b.toNat<128
  ·simp+contextual (disch:=first|omega|simp only[go_sem,false_implies]) only[go_sem,wrap64,if_pos,Nat.add_assoc,Nat.left_eq_add,Nat.add_eq_left,Nat.add_left_cancel_iff,h2,dec_lt hb h3]
   have hr:=Od b
   simp only[RW]at hr
   rw[hr]
   cases hl:letterF b with
   |true=>
    refine aU ?_
    refine au (k+1) ⟨h2,cI hb hk.2 hl⟩ af (bM.b9 _ af af (Good.nil.aM af rfl) (fun _ _=>by rw[jB]) ?_)
    exact dc
   |false=>
    refine aU ?_
    simp[kT,bZ hb hl]
  ·have hr:letterF b=false:=by
    rw[<- Od];simp[RW];omega
   have hd:=aa0 hb af
   refine Ch h2 ?_
   have:(decide (97<=((Utf8.decode ⟨⟨s⟩⟩ k).1:Int))&&decide (((Utf8.decode ⟨⟨s⟩⟩ k).1:Int)<=122)||decide (65<=((Utf8.decode ⟨⟨s⟩⟩ k).1:Int))&&decide (((Utf8.decode ⟨⟨s⟩⟩ k).1:Int)<=90))=false:=by
    rw[Bool.eq_false_iff];intro h;simp at h;omega
   rw[this]
   refine aU ?_
   simp[kT,bZ hb hr]
 ·refine Ch h2 ?_
  refine ah (iG _ _ _) rfl ?_
  refine aU ?_
  rw[kT,cw hk.2 (by omega),Bool.true_and]
theorem D7{σ:Type}(l:List ki)(hl:l.length<=9223372036854775807)(g:Nat)(aK:List V)(base:Nat)(H:σ->Nat->ab)(step:σ->ki->σ×Bool)(hc:∀r∈V.aO aK,r<base)(ok:σ->Prop)(bw:∀x∈l,∀s,ok s->(step s x).2=true->ok (step s x).1)
 (h:∀x∈l,∀s,ok s->gv Tryz.prog g (.d x.d::aK) base (H s) (H (step s x).1) (.d (.bool (step s x).2))) (s:σ) (gQ:ok s):
 gv Tryz.prog 156 [.d (.sl (l.map ki.d)), .func (.func g) [] aK] base (H s) (H (aC step s l).1) (.d (.bool (aC step s l).2)):=by
 intro o nx hI K X hK
 have fZ:∀r∈V.aO aK,r<nx:=fun r hr=>Nat.lt_of_lt_of_le (hc r hr) hI.le
 refine cR.ay mix VL ao ?_
 rw[ZK]
 refine b8 ?_
 refine aH (fun i:Nat×σ×(Nat->ab)×Nat=>⟨br [.aa, .func (.func g) [] aK, .aa, .aa, .aa, .aa, .aa, .d (.sl (l.map ki.d)), .d (.i l.length), .d (.i i.1)],i.2.2.1,i.2.2.2⟩)
  (fun i=>i.1<=l.length/\c0 base (H i.2.1) i.2.2.1 i.2.2.2/\nx<=i.2.2.2/\(∀id,base<=id->id<nx->i.2.2.1 id=o id)/\aC step s l=aC step i.2.1 (l.drop i.1)/\ok i.2.1) (fun i=>l.length - i.1) (0,s,o,nx)
  ⟨Nat.zero_le _,hI,Nat.le_refl _,fun _ _ _=>rfl,rfl,gQ⟩ ?_ ?_
 ·exact I6
 rintro⟨k,s',o',nx'⟩ ⟨hk,sy,hn,dF,hf,lr⟩
 simp only at hk sy hn dF hf lr
 refine b8 ?_
 refine aj (fun h1=> ?_) (fun h1=> ?_)
 ·simp at h1
  obtain⟨x,hx⟩:=ai h1
  have cp:=List.mem_of_getElem? hx
  have hd:l.drop k=x::l.drop (k+1):=by
   exact I5
  refine IV hx ?_
  have hl0:=sy.le
  refine dg (h x cp s' lr _ _ (?_:c0 base (H s') _ (nx'+7)) _ _ fun o2 n2 m1 m2 m3=> ?_)
  ·exact acJ
  have N8:∀id,base<=id->id<nx->o2 id=o id:=fun id h2 h3=>by
   exact acS
  refine b8 ?_
  refine aj (fun h2=> ?_) (fun h2=> ?_)
  ·refine b8 ?_
   simp at h2
   have:aC step s l=((step s' x).1,false):=by rw[hf,hd,aC,if_neg (by rw[h2];exact Bool.false_ne_true)]
   rw[this]at hK
   exact hK _ _ af (m2.mono af) N8
  ·refine b8 ?_
   simp at h2
   have:aC step s l=aC step (step s' x).1 (l.drop (k+1)):=by rw[hf,hd,aC,if_pos h2]
   refine au (k+1,(step s' x).1,o2,n2) ⟨h1,m2,by dsimp only;omega,N8,this,bw x cp s' lr h2⟩ pt ?_
   dsimp only
   have D2:∀r∈V.aO aK,r<n2:=fun r hr=>by have:=fZ r hr;omega
   refine bM.b9 _ af af m2.bX (fun _ _=>rfl) ?_
   exact dc
 ·exact TO
def ql(l:List (List UInt8)):List (List UInt8×D):=l.map fun s=>(s, .bool true)
theorem JY(l:List (List UInt8))(s:List UInt8):ql l++[(s, .bool true)]=ql (l++[s]):=by simp[ql]
theorem JZ{l:List (List UInt8)}{s:List UInt8}{i:Nat}{x:D}(h:gC s (ql l) 0=some (i,x)):x= .bool true/\(ql l).set i (s, .bool true)=ql l/\l.any (· ==s)=true:=by
 obtain⟨_,h2⟩:=D6 h
 rw[Nat.sub_zero]at h2
 simp only[ql,List.getElem?_map]at h2
 cases hl:l[i]? with
 |none=>rw[hl]at h2;cases h2
 |some y=>
  rw[hl]at h2
  simp at h2
  obtain⟨rfl,rfl⟩:=h2
  refine⟨rfl, ?_, ?_⟩
  ·apply List.ext_getElem?
   intro j
   rw[List.getElem?_set]
   split
   ·rename_i e;subst e
    obtain⟨cD,hy⟩:=List.getElem?_eq_some_iff.1 hl
    simp[ql,cD,hy]
   ·rfl
  ·exact List.any_eq_true.2 ⟨y,List.mem_of_getElem? hl,ao⟩
theorem J0{l:List (List UInt8)}{s:List UInt8}(h:gC s (ql l) 0=none):l.any (· ==s)=false:=by
 rw[zN]at h
 rw[List.any_eq_false]
 intro x hx hs
 have:=h (x, .bool true) (by simp[ql];exact hx)
 simp at hs;exact this hs
def RX(bs:List (List UInt8))(x:ki):Bool:= !bs.any (· ==x.name)&&kT x.name&&cF x.args 0 4
def jt(bs:List (List UInt8))(x:ki):List (List UInt8)×Bool:=(if bs.any (· ==x.name)=true then bs else bs++[x.name],RX bs x)
theorem aa1(x:ki)(hx:x.name.length<=9223372036854775807)(base mp id:Nat)(h:Nat->ab)(hmp:h mp= .row [.mp id])(h1:mp<base)(h2:id<base)(h3:id≠mp)(bs:List (List UInt8)):
 gv Tryz.prog 153 [.d x.d, .ptr mp 0] base (aM h id (.map 9 4 (enc .str (ql bs)))) (aM h id (.map 9 4 (enc .str (ql (jt bs x).1)))) (.d (.bool (jt bs x).2)):=by
 intro o nx hI K X hK
 have hle:=hI.le
 have hg:=hI.bX
 have q0:o mp= .row [.mp id]:=by rw[hI.eq mp h1,ak _ _ _ _ (by omega),hmp]
 have q1:o id= .map 9 4 (enc .str (ql bs)):=by rw[hI.eq id h2,ae]
 refine cR.ay mix VI ao ?_
 rw[ZH]
 cases ha:gC x.name (ql bs) 0 with
 |none=>
  have hn:=J0 ha
  have hs:jt bs x=(bs++[x.name],kT x.name&&cF x.args 0 4):=by simp[jt,RX,hn]
  rw[hs]at hK
  refine xL q0 q1 ha ?_
  refine ah (JX _ hx) rfl ?_
  refine aU ?_
  refine hU (fO [.bool (cF x.args 0 4)] ?_ ?_)
  ·refine aU ?_
   exact fun _=>iG _ _ _
  refine aU ?_
  rw[Oc,JY]
  refine hK _ _ af ⟨dE,af,fun j hj=> ?_⟩ (fun j g1 g2=>by(repeat(first|rfl|rw[ae]|rw[ak _ _ _ _ (by omega)])))
  ·by_cases e:j=id
   ·exact Ck
   ·exact acR
 |some p=>
  obtain⟨i,y⟩:=p
  obtain⟨rfl,e1,hn⟩:=JZ ha
  have hs:jt bs x=(bs,false):=by simp[jt,RX,hn]
  rw[hs]at hK
  refine xL q0 q1 ha ?_
  rw[H7,e1]
  refine hK _ _ af ⟨dE,af,fun j hj=> ?_⟩ (fun j g1 g2=>by(repeat(first|rfl|rw[ae]|rw[ak _ _ _ _ (by omega)])))
  ·by_cases e:j=id
   ·exact Ck
   ·exact acR
theorem qm:∀ (l:List ki) (bs:List (List UInt8)),match ct l bs with|some B=>aC jt bs l=(B,true)|none=>(aC jt bs l).2=false
 |[],bs=>rfl
 |x::l,bs=>by
  have ih:=qm l (bs++[x.name])
  simp only[ct,aC,jt,RX]
  by_cases h1:bs.any (· ==x.name)=true
  ·simp[h1]
  ·simp only[Bool.not_eq_true]at h1
   simp only[h1,Bool.false_eq_true,if_false,Bool.not_false,Bool.true_and]
   by_cases h2:(kT x.name&&cF x.args 0 4)=true
   ·have h3: ¬ ((!kT x.name|| !cF x.args 0 4)=true):=by simp at h2;simp[h2]
    rw[if_neg h3,if_pos h2]
    exact ih
   ·have h3:(!kT x.name|| !cF x.args 0 4)=true:=by
     cases hn:kT x.name<;>simp_all
    rw[if_pos h3,if_neg h2]
def m9(ok:Bool):Int:=if ok=true then 0 else 2
@[reducible] def J1 (s:aV) (bs:List (List UInt8)):Nat->ab:=aM (aM (aM (fun _=> .no) 0 (.row s.row)) 3 (.row [.mp 2])) 2 (.map 9 4 (enc .str (ql bs)))
theorem wF(s:aV)(hs:s.Fits):aQ Tryz.prog 110 [s.d] (.ret [.i (m9 (kU s))]):=by
 refine aQ.ay mix Vs ao ?_
 rw[Zr]
 refine iZ ?_
 refine ah (iG _ _ _) rfl ?_
 refine iZ ?_
 cases h1:(!cF s.cons.length 2 12||decide (8<(s.bR.length:Int)))with
 |true=>
  have:kU s=false:=by simp only[kU,h1,if_true]
  refine cf h1 ?_
  simp[this,m9]
 |false=>
  have E5:=qm s.cons []
  have agM:∀ (l:List ki),(∀x∈l,x.name.length<=9223372036854775807)->∀x∈l,∀bs,True->gv Tryz.prog 153 (.d x.d::[.ptr 3 0]) 4 (J1 s bs) (J1 s (jt bs x).1) (.d (.bool (jt bs x).2)):=fun l hl x hx bs _=>
   aa1 x (hl x hx) 4 3 2 (aM (aM (fun _=> .no) 0 (.row s.row)) 3 (.row [.mp 2])) (ae _ _ _) af af af bs
  simp[cF]at h1
  obtain⟨a,b,r,hc⟩:∃a b r,s.cons=a::b::r:=by
   match h:s.cons with
   |[]=>exact G1
   |[a]=>exact G1
   |a::b::r=>exact⟨a,b,r,rfl⟩
  have bL:(!cF s.cons.length 2 12||decide (8<(s.bR.length:Int)))=false:=by simp[cF];omega
  have JV:kU s=if(!np a fB|| !np b tB)=true then false else match ct s.cons []with
   |none=>false
   |some l=>(ct s.bR l).isSome:=by
   unfold kU
   rw[if_neg (by rw[bL];exact Bool.false_ne_true),hc]
   dsimp only
   rfl
  refine cf bL ?_
  refine bn (D7 s.cons hs.lc 153 [.ptr 3 0] 4 (J1 s) jt nk (fun _=>True) (fun _ _ _ _ _=>trivial) (agM s.cons hs.nc) [] trivial _ _ ⟨?_,af,fun id aG=> ?_⟩ _ _ fun o2 n2 m1 m2 m3=> ?_)
  ·exact dE
  ·rcases(by omega:id=0\/id=1\/id=2\/id=3)with rfl|rfl|rfl|rfl<;>rfl
  have p0:∀ {bs:List (List UInt8)} {o:Nat->ab} {n:Nat},c0 4 (J1 s bs) o n->o 0= .row s.row:=fun h=>h.eq 0 af
  have p3:∀ {bs:List (List UInt8)} {o:Nat->ab} {n:Nat},c0 4 (J1 s bs) o n->o 3= .row [.mp 2]:=fun h=>h.eq 3 af
  cases hn:ct s.cons []with
  |none=>
   rw[hn]at E5
   simp only at E5
   rw[E5]
   refine iZ ?_
   rw[JV,hn]
   split<;>rfl
  |some B=>
   rw[hn]at E5
   simp only at E5
   rw[E5]at m2|-
   simp+contextual (disch:=first|omega|simp only[go_sem,false_implies]) only[go_sem,wrap64,if_pos,Nat.add_assoc,Nat.left_eq_add,Nat.add_eq_left,Nat.add_left_cancel_iff,p0 m2]
   refine bn (D7 s.bR hs.lf 153 [.ptr 3 0] 4 (J1 s) jt nk (fun _=>True) (fun _ _ _ _ _=>trivial) (agM s.bR hs.nf) B trivial _ _ (m2.mono af) _ _ fun o4 n4 k1 k2 k3=> ?_)
   have Qa:=qm s.bR B
   cases hf:ct s.bR B with
   |none=>
    rw[hf]at Qa
    simp only at Qa
    rw[Qa]
    refine iZ ?_
    rw[JV,hn]
    simp only[hf]
    split<;>rfl
   |some C=>
    rw[hf]at Qa
    simp only at Qa
    rw[Qa]at k2|-
    simp+contextual (disch:=first|omega|simp only[go_sem,false_implies]) only[go_sem,wrap64,if_pos,Nat.add_assoc,Nat.left_eq_add,Nat.add_eq_left,Nat.add_left_cancel_iff,p0 k2,hc]
    have W0:kU s= !(!np a fB|| !np b tB):=by
     rw[JV,hn];simp only[hf]
     cases(!np a fB|| !np b tB)<;>rfl
    refine aj (fun h5=> ?_) (fun h5=> ?_)
    ·refine aU ?_
     have xF:(!np a fB|| !np b tB)=true:=h5
     rw[W0,xF];rfl
    ·refine aU ?_
     have xF:(!np a fB|| !np b tB)=false:=h5
     rw[W0,xF];rfl
def dh(s:aV)(l:List Tm):Bool:=kU s&&l.all (mQ s)
theorem yC{α:Type}(p:α->Bool):∀ (l:List α) (u:Unit),aC (fun _ x=>((),p x)) u l=((),l.all p)
 |[],_=>rfl
 |x::l,u=>by
  simp only[aC,List.all_cons,yC p l]
  cases p x<;>rfl
theorem Ge(l:List Tm)(hl:l.length<=9223372036854775807)(g:Nat)(aK:List V)(base:Nat)(h:Nat->ab)(p:Tm->Bool)(hc:∀r∈V.aO aK,r<base)
 (hp:∀x∈l,gv Tryz.prog g (.d x.d::aK) base h h (.d (.bool (p x)))):gv Tryz.prog 161 [.d (.sl (l.map Tm.d)), .func (.func g) [] aK] base h h (.d (.bool (l.all p))):=by
 have:=D1 l hl g aK base (fun _:Unit=>h) (fun _ x=>((),p x)) hc (fun _=>True) (fun _ _ _ _ _=>trivial) (fun x hx _ _=>hp x hx) () trivial
 exact GQ
structure Tm.Fin (t:Tm):Prop where
 fits:t.fits
 fR:t.fR<=900000
theorem Oe(s:aV)(hs:s.Fits)(t:Tm)(ht:t.Fin)(base sp:Nat)(h:Nat->ab)(vF:h sp= .row s.row)(hb:sp<base):gv Tryz.prog 162 [.d t.d, .ptr sp 0] base h h (.d (.bool (mQ s t))):=by
 intro o nx hI K X hK
 have hle:=hI.le
 have hg:=hI.bX
 have q0:o sp= .row s.row:=by rw[hI.eq sp hb,vF]
 refine cR.ay mix VR ao ?_
 rw[ZQ]
 refine cf q0 ?_
 refine ah (Ob s hs t ht.fits ht.fR) rfl ?_
 exact adl
theorem BC(s:aV)(hs:s.Fits)(l:List Tm)(hl:l.length<=9223372036854775807)(hf:∀t∈l,t.Fin):aQ Tryz.prog 123 [s.d, .sl (l.map Tm.d)] (.ret [.bool (dh s l)]):=by
 refine aQ.ay mix Vx ao ?_
 rw[Zw]
 refine aU ?_
 refine ah (wF s hs) rfl ?_
 cases h1:kU s with
 |false=>
  refine Ci ?_
  simp[dh,h1]
 |true=>
  refine Ci ?_
  refine bn (Ge l hl 162 [.ptr 0 0] 1 (aM (fun _=> .no) 0 (.row s.row)) (mQ s) nk (fun x hx=>Oe s hs x (hf x hx) 1 0 _ (ae _ _ _) af) _ _ ⟨dE,af,fun id aG=>rfl⟩ _ _ fun o2 n2 m1 m2 m3=> ?_)
  refine aU ?_
  simp[dh,h1]
theorem RY(s:aV)(hs:s.Fits)(t:Tm)(ht:t.Fin):aQ Tryz.prog 188 [s.d,t.d] (.ret [.i (m9 (dh s [t]))]):=by
 refine aQ.ay mix Wf ao ?_
 rw[aae]
 refine aU ?_
 refine ah (BC s hs [t] ao (fun x hx=>by simp at hx;subst hx;exact ht)) rfl ?_
 cases h1:dh s [t]with
 |false=>exact IX
 |true=>exact IX
def Tm.D8 (t:Tm):Int:=(pre t 1).length
structure Tm.yf (t:Tm):Prop extends t.Fin where
 size:t.D8<=1000000
theorem Tm.Fin.gE {t k:Tm}(h:t.Fin)(hk:k∈t.kids):k.Fin:=⟨((Tm.aF _).1 h.fits).2 k hk,by have:=Tm.rD hk;have:=h.fR;omega⟩
theorem oB:∀ (t:Tm) (d d':Int),(pre t d).length=(pre t d').length:=by
 refine Tm.cc fun t ih d d'=> ?_
 rw[jT,jT]
 simp only[List.length_cons,List.length_flatMap]
 congr 2
 exact List.map_congr_left fun k hk=>ih k hk _ _
theorem Tm.J2 {t k:Tm}(hk:k∈t.kids):k.D8+1<=t.D8:=by
 simp only[Tm.D8]
 rw[jT t,oB k 1 (1+1)]
 simp only[List.length_cons,List.length_flatMap]
 have:∀ (l:List Tm),k∈l->(pre k (1+1)).length<=(l.map fun k=>(pre k (1+1)).length).sum:=by
  intro l
  induction l with
  |nil=>intro h;cases h
  |cons x l ih=>
   intro h
   rcases List.mem_cons.1 h with rfl|h
   ·simp only[List.map_cons,List.sum_cons];omega
   ·have:=ih h;simp only[List.map_cons,List.sum_cons];omega
 have:=this _ hk
 omega
theorem Tm.yf.gE {t k:Tm}(h:t.yf)(hk:k∈t.kids):k.yf:=⟨h.toFin.gE hk,by have:=Tm.J2 hk;have:=h.size;omega⟩
def Gf(s:aV)(l:List Tm):Bool:=kU s&&l.all (eh s)
def Tm.sz (t:Tm):Nat:=(pre t 1).length
def fG(l:List Tm):Nat:=(l.map Tm.sz).sum
theorem Tm.kY (t:Tm):t.D8=(t.sz:Int):=rfl
theorem Tm.gw (t:Tm):t.sz=1+fG t.kids:=by
 unfold Tm.sz fG
 rw[jT,List.length_cons,List.length_flatMap,Nat.add_comm]
 congr 2
 exact List.map_congr_left fun k hk=>oB k _ _
theorem Tm.H8 (op n:Int)(l:List Tm):(Tm.mk op n l).sz=1+fG l:=Tm.gw _
theorem eE(k:Tm)(l:List Tm):fG (k::l)=k.sz+fG l:=by simp[fG]
theorem Tm.wG (t:Tm):1<=t.sz:=by rw[Tm.gw];omega
theorem o6(k:Tm)(l:List Tm):Tm.dN (k::l)=Nat.max k.fR (Tm.dN l):=by simp[Tm.dN]
theorem mR:∀ (l:List Tm) (n:Nat),Tm.dN l<=n↔∀k∈l,k.fR<=n
 |[],n=>by simp[Tm.dN]
 |x::l,n=>by
  rw[o6]
  simp only[List.mem_cons,forall_eq_or_imp, <- mR l n]
  exact Nat.max_le
theorem Tm.oC (t:Tm):t.fR=1+Tm.dN t.kids:=by cases t;simp[Tm.fR,Tm.kids]
theorem J3:∀t:Tm,∀left depth:Int,eM t left depth=if(t.sz:Int)<=left/\(t.fR:Int)<=depth then left - t.sz else -1:=by
 refine Tm.cc fun t ih left depth=> ?_
 have hs:∀ (l:List Tm) (left d:Int),(∀k∈l,k∈t.kids)->0<=left->0<=d->ck l left d=if(fG l:Int)<=left/\(Tm.dN l:Int)<=d then left - fG l else -1:=by
  intro l
  induction l with
  |nil=>intro left d _ h1 h2;simp[ck,fG,Tm.dN,h1,h2]
  |cons k l nh=>
   intro left d hk h1 h2
   simp only[ck,if_pos h1]
   rw[ih k (hk k (by simp))]
   have hm:(Tm.dN (k::l):Int)<=d↔(k.fR:Int)<=d/\(Tm.dN l:Int)<=d:=by
    have:= @Nat.max_le k.fR (Tm.dN l) d.toNat
    have e:Tm.dN (k::l)=max k.fR (Tm.dN l):=o6 k l
    rw[e];omega
   simp only[eE,hm]
   by_cases hc:(k.sz:Int)<=left/\(k.fR:Int)<=d
   ·rw[if_pos hc,nh _ _ (fun x hx=>hk x (by simp[hx])) (by omega) h2]
    by_cases uw:(fG l:Int)<=left - k.sz/\(Tm.dN l:Int)<=d
    ·rw[if_pos uw,if_pos (by omega)];omega
    ·rw[if_neg uw,if_neg (by omega)]
   ·rw[if_neg hc,qi (by omega),if_neg (by omega)]
 rw[wB,Tm.gw,Tm.oC]
 by_cases h:left<1\/depth<1
 ·rw[if_pos h,if_neg (by omega)]
 ·rw[if_neg h,hs _ _ _ (fun _ h=>h) (by omega) (by omega)]
  by_cases hc:(fG t.kids:Int)<=left - 1/\(Tm.dN t.kids:Int)<=depth - 1
  ·rw[if_pos hc,if_pos (by omega)];omega
  ·rw[if_neg hc,if_neg (by omega)]
theorem dD(t:Tm)(left depth:Int):0<=eM t left depth↔(t.sz:Int)<=left/\(t.fR:Int)<=depth:=by
 rw[J3];split<;>omega
theorem qn(t:Tm):iO t=true↔t.sz<=50/\t.fR<=14:=by
 simp only[iO,decide_eq_true_eq,dD];omega
theorem Tm.yf.Of {t:Tm}(hf:t.fits)(h:iO t=true):t.yf:=by
 rw[qn]at h
 exact⟨⟨hf,af⟩,by rw[Tm.kY];omega⟩
theorem zP:∀ (t:Tm) (d m:Int),(∀x∈pre t d,x.2<=m)↔d+t.fR - 1<=m:=by
 refine Tm.cc fun t ih d m=> ?_
 rw[jT,Tm.oC]
 simp only[List.mem_cons,forall_eq_or_imp,List.mem_flatMap]
 have h1:(∀x:Tm×Int,(∃k,k∈t.kids/\x∈pre k (d+1))->x.2<=m)↔∀k∈t.kids,d+1+k.fR - 1<=m:=by
  constructor
  ·intro h k hk
   exact(ih k hk _ _).1 fun x hx=>h x ⟨k,hk,hx⟩
  ·rintro h x ⟨k,hk,hx⟩
   exact(ih k hk _ _).2 (h k hk) x hx
 rw[h1]
 constructor
 ·rintro⟨h2,h3⟩
  have:=(mR t.kids (m - d).toNat).2 fun k hk=>by have:=h3 k hk;omega
  omega
 ·intro h
  have:=(mR t.kids (m - d).toNat).1 af
  exact⟨af,fun k hk=>by have:=this k hk;omega⟩
theorem H9(p:Tm->Bool):∀ (t:Tm) (d:Int),(pre t d).all (fun x=>p x.1)=(p t&&t.kids.all fun k=>(pre k (d+1)).all fun x=>p x.1):=by
 intro t d
 rw[jT,List.all_cons,List.all_flatMap]
theorem wH(s:aV):∀ (t:Tm) (d:Int),eW s t=(pre t d).all fun x=>bz s x.1:=by
 refine Tm.cc fun t ih d=> ?_
 rw[H9 (bz s),dQ]
 congr 1
 exact Um
theorem Og{s:aV}{t:Tm}(h:bz s t=true):cF t.op 1 15=true:=by
 rw[show cF t.op 1 15=true↔1<=t.op/\t.op<=15 by simp[cF]]
 by_cases h6:cF t.op 6 15=true
 ·simp[cF]at h6;omega
 ·simp only[bz,if_neg h6]at h
  by_cases h1:t.op=1
  ·omega
  by_cases h2:t.op=2
  ·omega
  by_cases h3:t.op=3
  ·omega
  by_cases h4:t.op=4
  ·omega
  by_cases h5:t.op=5
  ·omega
  by_cases h8:t.op=8
  ·omega
  rw[if_neg h1,if_neg h2,if_neg h3,if_neg h4,if_neg h5,if_neg h8]at h
  cases h
def wI(s:aV)(x:Tm×Int):Bool:= !(decide (12<x.2)|| !cF x.1.op 1 15|| !bz s x.1)
theorem tZ(s:aV):∀ (l:List (Tm×Int)) (n:Int) (b:Bool),(aC (zL fJ (iR s)) (n,b) l).2=(decide (l=[]\/n+l.length<=40)&&l.all (wI s))
 |[],n,b=>by simp[aC]
 |x::l,n,b=>by
  have e1:∀c,pz s n x=c->zL fJ (iR s) (n,b) x=((n+1, !c), !c):=fun c hc=>by show((n+1, !pz s n x),(fJ (n+1, !pz s n x)).isNone)=_;rw[hc];cases c<;>rfl
  have hb:pz s n x=(decide (40<n+1)|| !wI s x):=by simp[pz,wI,Bool.or_assoc]
  rw[List.all_cons]
  cases hg:wI s x with
  |false=>
   have e:pz s n x=true:=by rw[hb,hg];simp
   rw[aC,e1 _ e];simp
  |true=>
   by_cases h40:40<n+1
   ·have:decide (x::l=[]\/n+(x::l).length<=40)=false:=by simp;omega
    have e:pz s n x=true:=by rw[hb];simp[h40]
    rw[this,Bool.false_and,aC,e1 _ e];simp
   ·have e:pz s n x=false:=by rw[hb,hg];simp;omega
    rw[aC,e1 _ e]
    simp only[Bool.not_false,if_true,tZ s l,Bool.true_and]
    congr 1
    cases l with
    |nil=>simp;omega
    |cons y l=>simp;omega
theorem qo(s:aV)(t:Tm):mQ s t=eh s t:=by
 rw[mQ,tZ,eh,wH s t 1,Bool.eq_iff_iff]
 have hn:pre t 1≠[]:=by rw[jT];simp
 simp only[Bool.and_eq_true,decide_eq_true_eq,hn,false_or,dD,List.all_eq_true]
 have hd:=zP t 1 12
 constructor
 ·rintro⟨h1,h2⟩
  have h3:∀x∈pre t 1,x.2<=12:=fun x hx=>by have:=h2 x hx;simp[wI]at this;omega
  have:=hd.1 h3
  exact⟨⟨by unfold Tm.sz;omega,af⟩,fun x hx=>by have:=h2 x hx;simp[wI]at this;exact this.2⟩
 ·rintro⟨⟨h1,h2⟩,h3⟩
  have h4:=hd.2 af
  refine⟨by unfold Tm.sz at h1;omega,fun x hx=> ?_⟩
  have h5:=h4 x hx
  have h6:=h3 x hx
  have h7:=Og h6
  simp[wI,h6,h7];omega
theorem J4(s:aV)(l:List Tm):dh s l=Gf s l:=by
 unfold dh Gf;congr 2;funext t;exact qo s t
theorem qp:∀a:Tm,aJ a a=true:=by
 refine Tm.cc fun a ih=> ?_
 rw[oA]
 have:hY a.kids a.kids=true:=(js _ _ rfl).2 fun i x y hx hy=>by
  rw[hx]at hy;injection hy with hy;subst hy;exact ih x (List.mem_of_getElem? hx)
 simp[this]
theorem bu:∀a b:Tm,aJ a b=true↔a=b:=by
 refine Tm.cc fun a ih b=>⟨fun h=> ?_,fun e=>e ▸ qp _⟩
 rw[oA]at h
 simp only[Bool.and_eq_true,beq_iff_eq]at h
 obtain⟨⟨⟨h1,h2⟩,h3⟩,h4⟩:=h
 have h5:=(js _ _ h3).1 h4
 have:a.kids=b.kids:=by
  apply List.ext_getElem?
  intro i
  cases hx:a.kids[i]? with
  |none=>simp at hx;symm;simp;omega
  |some x=>
   have hi:=(List.getElem?_eq_some_iff.1 hx).1
   obtain⟨y,hy⟩:=ai (l:=b.kids) (k:=i) af
   rw[hy,(ih x (List.mem_of_getElem? hx) y).1 (h5 i x y hx hy)]
 rw[<- Tm.eta a, <- Tm.eta b,h1,h2,this]
end Go.Proofs.YtonbelhklnmjnaaGreat
