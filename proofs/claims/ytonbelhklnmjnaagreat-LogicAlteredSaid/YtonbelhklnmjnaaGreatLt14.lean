/-
  A PART OF THE PROOF. Conditions: none.
-/
import Derived.Test.YtonbelhklnmjnaaGreatLt13
set_option linter.unusedSimpArgs false
set_option linter.unusedVariables false
namespace Go.Proofs.YtonbelhklnmjnaaGreat
attribute [go_sem_proc] Int.reduceBEq Int.reduceBNe Int.reduceLT Int.reduceLE Int.reduceEq Int.reduceNe Nat.reducePow Nat.reduceEqDiff Nat.reduceAdd Nat.reduceSub Nat.reduceMul Nat.reduceLeDiff Nat.reduceBEq Nat.reduceLT reduceIte reduceCtorEq Int.reduceToNat
attribute [go_sem] List.range_zero Option.isSome_some and_self List.cons.injEq
theorem vl(n low high:Int):a8 Tryz.prog 135 [.i n, .i low, .i high] (.ret [.bool (c6 n low high)]):=by
 refine a8.aB mix aae aj ?_
 rw[aad]
 refine b9 ?_
 rfl
theorem Cr{t:Tm}{left depth:Int}(h:left<1\/depth<1):eo t left depth= -1:=by cases t;simp[eo,h]
theorem py{l:List Tm}{left depth:Int}(h:left<0):cl l left depth=left:=by
 cases l with
 |nil=>rfl
 |cons k l=>simp[cl,show ¬ (0<=left) by omega]
theorem K6:∀t:Tm,∀left depth:Int, -1<=eo t left depth/\(1<=left->eo t left depth<=left - 1)/\(left<1->eo t left depth= -1):=by
 refine Tm.ind fun op n kids ih left depth=> ?_
 have hs:∀ (l:List Tm) (left d:Int),(∀k∈l,k∈kids)-> -1<=left-> -1<=cl l left d/\cl l left d<=left:=by
  intro l
  induction l with
  |nil=>intro left d _ h;simp[cl,h]
  |cons k l oN=>
   intro left d hk h
   simp only[cl]
   split
   ·rename_i h0
    have h1:=ih k (hk k aj) left d
    have h2:=oN (eo k left d) d (fun x hx=>hk x lY) h1.1
    by_cases hl:1<=left
    ·have:=h1.2.1 hl;omega
    ·have:=h1.2.2 ad;omega
   ·omega
 simp only[eo]
 split
 ·rename_i h;refine⟨ad,fun h1=> ?_,fun _=>rfl⟩;omega
 ·rename_i h
  have:=hs kids (left - 1) (depth - 1) (fun _ h=>h) ad
  exact⟨this.1,fun _=>this.2,fun h=>ad⟩
theorem yg(l:List Tm)(left d:Int)(h: -1<=left): -1<=cl l left d/\cl l left d<=left:=by
 induction l generalizing left with
 |nil=>simp[cl,h]
 |cons k l oN=>
  simp only[cl]
  split
  ·have h1:=K6 k left d
   have h2:=oN (eo k left d) h1.1
   by_cases hl:1<=left
   ·have:=h1.2.1 hl;omega
   ·have:=h1.2.2 ad;omega
  ·omega
theorem oO(a b:List Tm)(left d:Int):cl (a++b) left d=cl b (cl a left d) d:=by
 induction a generalizing left with
 |nil=>rfl
 |cons k a ih=>
  simp only[List.cons_append,cl]
  split
  ·exact ih _
  ·rename_i h;rw[py (by omega)]
theorem sR{l:List Tm}{i:Nat}{k:Tm}(hi:l[i]? =some k)(left d:Int)(h:0<=cl (l.take i) left d):cl (l.take (i+1)) left d=eo k (cl (l.take i) left d) d:=by
 rw[List.take_add_one,hi,oO]
 simp[cl,h]
theorem sS{l:List Tm}{i:Nat}(left d:Int)(h:cl (l.take i) left d<0):cl l left d=cl (l.take i) left d:=by
 conv=>lhs;rw[<- List.take_append_drop i l]
 rw[oO,py h]
@[reducible] def fu (cs:List V):Nat->ab:=aM (fun _=> .no) 0 (.row cs)
@[reducible] def rV (cs ds:List V):Nat->ab:=aM (aM (fun _=> .no) 0 (.row cs)) 1 (.row ds)
theorem aW{cs:List V}(h:(ab.row cs).refs.all (fun r=>decide (r<1))=true):Good (fu cs) 1:=(Good.nil (nx:=1)).aM ad h
theorem dk{cs ds:List V}(h:(ab.row cs).refs.all (fun r=>decide (r<2))=true)(h2:(ab.row ds).refs.all (fun r=>decide (r<2))=true):Good (rV cs ds) 2:=((Good.nil (nx:=2)).aM ad h).aM ad h2
theorem bM.d1 {e:Nat->V}{so o:Nat->ab}{m:Nat}(l:List V)(hg:Good o 1)(hm:1<=m)(h0:so 0=o 0)(he:kx 1 e l 0):bM 0 ⟨e,so,m⟩ ⟨bB l,o,1⟩:=
 bM.bT l (Nat.zero_le _) hm hg (fun id h=>by obtain rfl:id=0:=ad
                                             exact h0) he
theorem bM.d2 {e:Nat->V}{so o:Nat->ab}{m:Nat}(l:List V)(hg:Good o 2)(hm:2<=m)(h0:so 0=o 0)(h1:so 1=o 1)(he:kx 2 e l 0):bM 0 ⟨e,so,m⟩ ⟨bB l,o,2⟩:=
 bM.bT l (Nat.zero_le _) hm hg (fun id h=>by
  rcases(by omega:id=0\/id=1)with rfl|rfl
  ·exact h0
  ·exact h1) he
@[reducible] def Tm.row (t:Tm):List V:=[.d (.i t.op), .d (.i t.n), .d (.sl (t.kids.map Tm.d))]
theorem vm(t:Tm)(left depth:Int):eo t left depth=if left<1\/depth<1 then -1 else cl t.kids (left - 1) (depth - 1):=by cases t;simp[eo,Tm.kids]
theorem tU:∀t:Tm,t.fits->∀left depth:Int, -1<=left/\left<=1000000-> -1<=depth/\depth<=1000000->a8 Tryz.prog 63 [t.d, .i left, .i depth] (.ret [.i (eo t left depth)]):=by
 refine Tm.ck fun t ih hf left depth hl hd=> ?_
 have fm:=(Tm.aP _).1 hf
 refine a8.aB mix ZG aj ?_
 rw[c63]
 refine b9 ?_
 refine ak (fun h1=> ?_) (fun h1=> ?_)
 ·refine b9 ?_
  simp at h1
  rw[Cr h1]
 ·simp at h1
  refine b9 ?_
  rw[wrap64 (n:=left - 1) (by omega) (by omega),vm,if_neg (by omega)]
  refine aL (fun k:Nat=>⟨bB [.aa, .d (.i (cl (t.kids.take k) (left - 1) (depth - 1))), .d (.i depth), .ptr 0 0, .aa, .aa, .aa, .d (.i k)],fu t.row,1⟩)
   (fun k=>k<=t.kids.length) (fun k=>t.kids.length - k) 0 (Nat.zero_le _) (bM.d1 _ (aW rfl) ad rfl ?_) (fun k hk=> ?_)
  ·exact cM
  have hb:=yg (t.kids.take k) (left - 1) (depth - 1) ad
  refine b9 ?_
  refine ak (fun h2=> ?_) (fun h2=> ?_)
  ·simp at h2
   obtain⟨x,hx⟩:∃x,t.kids[k]? =some x:=⟨t.kids[k],by simp[h2.1]⟩
   have de:=List.mem_of_getElem? hx
   refine fg hx ?_
   rw[wrap64 (n:=depth - 1) (by omega) (by omega)]
   refine ai (ih x de (fm.2 x de) _ _ ad ad) rfl ?_
   refine b9 ?_
   rw[<- sR hx _ _ h2.2]
   refine au (k+1) h2.1 ad (bM.d1 _ (aW rfl) ad rfl ?_)
   exact cM
  ·refine b9 ?_
   simp only[Bool.and_eq_false_iff,decide_eq_false_iff_not]at h2
   congr 3
   rcases h2 with h2|h2
   ·rw[List.take_of_length_le (by omega)]
   ·exact sS _ _ ad
theorem V8(s:List UInt8)(hs:s.length<=9223372036854775807):a8 Tryz.prog 193 [.str s] (.ret [.bool (kA s)]):=by
 refine a8.aB mix aay aj ?_
 rw[aax]
 refine b9 ?_
 refine aL (fun k:Nat=>⟨bB [.d (.str s), .aa, .aa, .d (.i k)],fun _=> .no,0⟩)
  (fun k=>k<=s.length/\(s.take k).all letterF=true) (fun k=>s.length - k) 0 ⟨Nat.zero_le _,aj⟩ (bM.d0 _ ?_) (fun k hk=> ?_)
 ·exact cM
 refine b9 ?_
 refine ak (fun h2=> ?_) (fun h2=> ?_)
 ·simp at h2
  obtain⟨x,hx⟩:∃x,s[k]? =some x:=⟨s[k],by simp[h2]⟩
  refine fg hx ?_
  refine ak (fun h3=> ?_) (fun h3=> ?_)
  ·refine b9 ?_
   have:kA s=false:=by
    have:s.all letterF=false:=by
     rw[List.all_eq_false]
     refine⟨x,List.mem_of_getElem? hx, ?_⟩
     simp only[letterF,h3];simp
    simp[kA,this]
   rw[this]
  ·refine b9 ?_
   refine au (k+1) ⟨h2, ?_⟩ ad (bM.d0 _ ?_)
   ·rw[List.take_add_one,hx,List.all_append,hk.2]
    simp[letterF,h3]
   ·exact cM
 ·refine b9 ?_
  refine ai (vl _ _ _) rfl ?_
  refine b9 ?_
  simp at h2
  have:=hk.2
  rw[List.take_of_length_le (by omega)]at this
  simp[kA,this]
theorem FW(l:List ky)(bs:List (List UInt8))(hl:l.length<=1000)(hb:bs.length<=1000)(hs:∀x∈l,x.name.length<=9223372036854775807):
 a8 Tryz.prog 136 [.sl (l.map ky.d), .sl (bs.map .str)] (.ret [.sl (((cq l bs).getD []).map .str), .bool (cq l bs).isSome]):=by
 refine a8.aB mix aag aj ?_
 rw[aaf]
 refine b9 ?_
 refine aL (fun k:Nat=>⟨bB [.d (.sl (l.map ky.d)), .d (.sl ((bs++(l.take k).map (·.name)).map .str)), .aa, .aa, .aa, .aa, .d (.i k)],fun _=> .no,0⟩)
  (fun k=>k<=l.length/\cq l bs=cq (l.drop k) (bs++(l.take k).map (·.name))) (fun k=>l.length - k) 0 ⟨Nat.zero_le _,aj⟩ (bM.d0 _ ?_) (fun k hk=> ?_)
 ·simp only[List.take_zero,List.map_nil,List.append_nil]
  exact cM
 refine b9 ?_
 refine ak (fun h2=> ?_) (fun h2=> ?_)
 ·simp at h2
  obtain⟨x,hx⟩:∃x,l[k]? =some x:=⟨l[k],by simp[h2]⟩
  have de:=List.mem_of_getElem? hx
  have BU:l.drop k=x::l.drop (k+1):=by
   rw[List.drop_eq_getElem_cons h2]
   rw[List.getElem?_eq_getElem h2]at hx;injection hx with hx;rw[hx]
  generalize hB:bs++(l.take k).map (·.name)=B at*
  have hBl:B.length<=2000:=by rw[<- hB];simp;omega
  refine b9 ?_
  refine aL (fun j:Nat=>⟨bB [.d (.sl (l.map ky.d)), .d (.sl (B.map .str)), .aa, .aa, .aa, .aa, .d (.i k), .d (.i j)],fun _=> .no,0⟩)
   (fun j=>j<=B.length/\(B.take j).any (· ==x.name)=false) (fun j=>B.length - j) 0 ⟨Nat.zero_le _,aj⟩ (bM.d0 _ ?_) (fun j hj=> ?_)
  ·exact cM
  refine b9 ?_
  refine ak (fun h3=> ?_) (fun h3=> ?_)
  ·simp at h3
   obtain⟨y,hy⟩:∃y,B[j]? =some y:=⟨B[j],by simp[h3]⟩
   simp+contextual only[go_sem,hx,hy]
   refine ao aZ ?_
   refine b9 ?_
   refine ak (fun h4=> ?_) (fun h4=> ?_)
   ·refine b9 ?_
    have:cq l bs=none:=by
     rw[hk.2,BU,cq,if_pos]
     rw[List.any_eq_true]
     exact⟨y,List.mem_of_getElem? hy,h4⟩
    rw[this];rfl
   ·refine b9 ?_
    refine au (j+1) ⟨h3, ?_⟩ ad (bM.d0 _ ?_)
    ·rw[List.take_add_one,hy,List.any_append,hj.2]
     simp only[Option.toList_some,List.any_cons,h4,List.any_nil,Bool.or_false]
    ·exact cM
  ·simp at h3
   have V9:=hj.2
   rw[List.take_of_length_le (by omega)]at V9
   refine fg hx ?_
   refine ai (V8 x.name (hs x de)) rfl ?_
   refine fg hx ?_
   refine gO (ft [.bool (c6 x.args 0 4)] ?_ ?_)
   ·refine b9 ?_
    exact fun _=>vl _ _ _
   refine b9 ?_
   refine ak (fun h4=> ?_) (fun h4=> ?_)
   ·refine b9 ?_
    have:cq l bs=none:=by
     rw[hk.2,BU,cq,if_neg (by rw[V9];exact Bool.false_ne_true),if_pos h4]
    rw[this];rfl
   ·have e1:B.length<=140737488355328:=ad
    have e2:B.length*16<=140737488355328:=ad
    have e3:B.length<=140737488355327:=ad
    have e4:(B.length+1)*16<=140737488355328:=ad
    simp+contextual only[go_sem,hx,e1,e2,e3,e4]
    refine ao aZ ?_
    refine b9 ?_
    have hn:cq l bs=cq (l.drop (k+1)) (bs++(l.take (k+1)).map (·.name)):=by
     rw[hk.2,BU,cq,if_neg (by rw[V9];exact Bool.false_ne_true),if_neg (by rw[h4];exact Bool.false_ne_true), <- hB,List.take_add_one,hx]
     simp
    refine au (k+1) ⟨h2,hn⟩ ad (bM.aaR (fun _=>True) 0 _ (Nat.le_refl _) lt0 (fun _ _=>rfl) (fun _ _ _=>rfl) ?_)
    have hB2:(bs++(l.take (k+1)).map (·.name)).map D.str=B.map D.str++[D.str x.name]:=by
     rw[<- hB,List.take_add_one,hx];simp
    rw[hB2]
    exact Dw
 ·refine b9 ?_
  simp at h2
  have:cq l bs=some (bs++l.map (·.name)):=by
   rw[hk.2,List.drop_eq_nil_of_le (by omega),cq,List.take_of_length_le (by omega)]
  rw[this,List.take_of_length_le (by omega)]
  rfl
theorem Wa(a b:List UInt8)(m n:Int):rb Tryz.prog 100 104 (.agg [.str a, .i m]) (.agg [.str b, .i n])=some (a==b&&m==n):=by
 have h1:cn Tryz.prog 104=some (.struct [(9,0),(3,1)]):=af
 have h2:cn Tryz.prog 9=some .str:=af
 have h3:cn Tryz.prog 3=some .int:=af
 have h4:dA Tryz.prog 9=some false:=af
 have h5:dA Tryz.prog 3=some false:=af
 simp[rb,h1,h2,h3,h4,h5,A6,Tg,ke,Ju]
@[go_sem] theorem ac7 (o:Nat->ab) (oY:Bool) (a b:List UInt8) (m n:Int):pU Tryz.prog o 104 oY (.d (.agg [.str a, .i m])) (.d (.agg [.str b, .i n]))=some (.d (.bool (a==b&&m==n))):=by
  obtain⟨fs,h⟩:∃fs,Tryz.prog.underlying 104=some (.struct fs):=structOf af
  have h2:Tryz.prog.eqGuardType Tryz.prog.depth 104=false:=af
  unfold pU
  rw[h]
  dsimp only
  rw[if_pos h2,Wa]
  rfl
theorem HQ{l:List ky}{bs B:List (List UInt8)}(h:cq l bs=some B):B=bs++l.map (·.name):=by
 induction l generalizing bs with
 |nil=>simp[cq]at h;simp[h]
 |cons x l ih=>
  simp only[cq]at h
  split at h
  ·cases h
  ·split at h
   ·cases h
   ·rw[ih h];simp
structure a7.Fits (s:a7):Prop where
 lc:s.cons.length<=9223372036854775807
 lf:s.bX.length<=9223372036854775807
 nc:∀x∈s.cons,x.name.length<=9223372036854775807
 nf:∀x∈s.bX,x.name.length<=9223372036854775807
theorem aaU(s:a7)(hs:s.Fits):a8 Tryz.prog 100 [s.d] (.ret [.bool (kB s)]):=by
 refine a8.aB mix ZW aj ?_
 rw[ZV]
 refine b9 ?_
 refine ai (vl _ _ _) rfl ?_
 refine b9 ?_
 cases h1:(!c6 s.cons.length 2 12||decide (8<(s.bX.length:Int)))with
 |true=>
  refine fg h1 ?_
  simp only[kB,h1,if_true]
 |false=>
  simp[c6]at h1
  obtain⟨a,b,r,hc⟩:∃a b r,s.cons=a::b::r:=by
   match h:s.cons with
   |[]=>exact Nf
   |[a]=>exact Nf
   |a::b::r=>exact⟨a,b,r,rfl⟩
  have cB:(!c6 s.cons.length 2 12||decide (8<(s.bX.length:Int)))=false:=by simp[c6];omega
  simp+contextual only[go_sem,cB,hc]
  have HS:kB s=if(!mN a fB|| !mN b tB)=true then false else match cq s.cons []with
   |none=>false
   |some l=>(cq s.bX l).isSome:=by
   unfold kB
   rw[if_neg (by rw[cB];exact Bool.false_ne_true),hc]
   dsimp only
   rfl
  refine ak (fun h2=> ?_) (fun h2=> ?_)
  ·refine b9 ?_
   have kn:(!mN a fB|| !mN b tB)=true:=h2
   rw[HS,if_pos kn]
  ·refine fg hc ?_
   have hl:(a::b::r).length<=1000:=by rw[<- hc];omega
   have hnm:=FW (a::b::r) [] hl aj (by rw[<- hc];exact hs.nc)
   simp only[List.map_cons,List.map_nil]at hnm
   refine bg hnm ?_
   have kn:(!mN a fB|| !mN b tB)=false:=h2
   rw[HS,if_neg (by rw[kn];exact Bool.false_ne_true),hc]
   cases hn:cq (a::b::r) []with
   |none=>simp+contextual only[go_sem,hn]
   |some B=>
    refine fg hn ?_
    have hB:B.length<=1000:=by
     have:=HQ hn
     rw[this];simp at hl|-;omega
    have ac8:=FW s.bX B ad hB hs.nf
    refine bg ac8 ?_
    exact S7
theorem iN{l:List ky}{n:Int}{x:ky}(h:l[n.toNat]? =some x):dN l n=x.args:=by simp[dN,h]
theorem gG{l:List ky}{n:Int}(h:c6 n 0 (l.length - 1)=true):0<=n/\∃x,l[n.toNat]? =some x:=by
 simp[c6]at h
 exact⟨h.1,l[n.toNat]'ad,aj⟩
theorem Wb(s:a7)(t:Tm)(hs:s.Fits)(ht:t.kids.length<=9223372036854775807):a8 Tryz.prog 142 [s.d,t.d] (.ret [.bool (bz s t)]):=by
 refine a8.aB mix aas aj ?_
 rw[aar]
 refine b9 ?_
 rcases(by omega:t.op=1\/t.op=2\/t.op=3\/t.op=4\/t.op=5\/t.op=8\/(t.op=6\/t.op=7\/t.op=9\/t.op=10\/t.op=11\/t.op=12\/t.op=13\/t.op=14\/t.op=15)\/(t.op<1\/15<t.op))with h|h|h|h|h|h|h|h
 ·have hn:bz s t=((t.kids.length:Int)==0&&c6 t.n 0 19):=by simp[bz,h]
  refine fg h ?_
  refine gO (ft [.bool (c6 t.n 0 19)] ?_ ?_)
  ·refine b9 ?_
   exact fun _=>vl _ _ _
  refine fg h ?_
  rw[hn]
 ·have hn:bz s t=((t.kids.length:Int)==0&&c6 t.n (-1000000) 1000000):=by simp[bz,h]
  refine fg h ?_
  refine gO (ft [.bool (c6 t.n (-1000000) 1000000)] ?_ ?_)
  ·refine b9 ?_
   exact fun _=>vl _ _ _
  refine fg h ?_
  rw[hn]
 ·have hn:bz s t=(c6 t.n 0 (s.cons.length - 1)&&(t.kids.length:Int)==dN s.cons t.n):=by simp[bz,h]
  refine fg h ?_
  rw[wrap64 (by have:=hs.lc;omega) (by have:=hs.lc;omega)]
  refine ai (vl _ _ _) rfl ?_
  cases hI:c6 t.n 0 (s.cons.length - 1)with
  |false=>
   simp+contextual only[go_sem,h,hI]
   rw[hn,hI];rfl
  |true=>
   obtain⟨h0,x,hx⟩:=gG hI
   simp+contextual only[go_sem,h,hI,hx,h0]
   exact wD
 ·have hn:bz s t=(c6 t.n 0 (s.bX.length - 1)&&(t.kids.length:Int)==dN s.bX t.n):=by simp[bz,h]
  refine fg h ?_
  rw[wrap64 (by have:=hs.lf;omega) (by have:=hs.lf;omega)]
  refine ai (vl _ _ _) rfl ?_
  cases hI:c6 t.n 0 (s.bX.length - 1)with
  |false=>
   simp+contextual only[go_sem,h,hI]
   rw[hn,hI];rfl
  |true=>
   obtain⟨h0,x,hx⟩:=gG hI
   simp+contextual only[go_sem,h,hI,hx,h0]
   exact wD
 ·have hn:bz s t=(c6 t.n 0 (s.bX.length - 1)&&decide ((t.kids.length:Int)<dN s.bX t.n)):=by simp[bz,h]
  refine fg h ?_
  rw[wrap64 (by have:=hs.lf;omega) (by have:=hs.lf;omega)]
  refine ai (vl _ _ _) rfl ?_
  cases hI:c6 t.n 0 (s.bX.length - 1)with
  |false=>
   simp+contextual only[go_sem,h,hI]
   rw[hn,hI];rfl
  |true=>
   obtain⟨h0,x,hx⟩:=gG hI
   simp+contextual only[go_sem,h,hI,hx,h0]
   exact wD
 ·have hn:bz s t=((t.kids.length:Int)==2&&c6 t.n 0 19):=by simp[bz,h]
  refine fg h ?_
  refine gO (ft [.bool (c6 t.n 0 19)] ?_ ?_)
  ·refine b9 ?_
   exact fun _=>vl _ _ _
  refine fg h ?_
  rw[hn]
 ·have hn:bz s t=((t.kids.length:Int)==2&&t.n==0):=by
   rcases h with h|h|h|h|h|h|h|h|h<;>simp[bz,h,c6]
  rw[hn]
  rcases h with h|h|h|h|h|h|h|h|h<;>simp+contextual only[go_sem,h]
 ·have hn:bz s t=false:=by
   simp[bz,c6,show ¬ (t.op=1) by omega,show ¬ (t.op=2) by omega,show ¬ (t.op=3) by omega,show ¬ (t.op=4) by omega,show ¬ (t.op=5) by omega,show ¬ (t.op=8) by omega,show ¬ (6<=t.op/\t.op<=15) by omega]
  have e:∀k:Int,1<=k->k<=15->(t.op==k)=false:=fun k h1 h2=>by simp;omega
  simp+contextual only[go_sem,e 1 (by omega) (by omega),e 2 (by omega) (by omega),e 3 (by omega) (by omega),e 4 (by omega) (by omega),e 5 (by omega) (by omega),e 6 (by omega) (by omega),e 7 (by omega) (by omega),e 8 (by omega) (by omega),e 9 (by omega) (by omega),e 10 (by omega) (by omega),e 11 (by omega) (by omega),e 12 (by omega) (by omega),e 13 (by omega) (by omega),e 14 (by omega) (by omega),e 15 (by omega) (by omega)]
  rw[hn]
theorem dF(s:a7)(t:Tm):eD s t=(bz s t&&t.kids.all (eD s)):=by
 have:∀l:List Tm,tQ s l=l.all (eD s):=fun l=>by
  induction l with
  |nil=>rfl
  |cons k l ih=>simp[tQ,ih]
 cases t;simp[eD,this,Tm.kids]
theorem cc{α:Type}{l:List α}{p:α->Bool}{k:Nat}{x:α}(hx:l[k]? =some x)(h:p x=false):l.all p=false:=by
 rw[List.all_eq_false];exact⟨x,List.mem_of_getElem? hx,by rw[h];exact Bool.false_ne_true⟩
theorem cG{α:Type}{l:List α}{p:α->Bool}{k:Nat}{x:α}(hx:l[k]? =some x)(h0:(l.take k).all p=true)(h:p x=true):(l.take (k+1)).all p=true:=by
 rw[List.take_add_one,hx,List.all_append,h0];simp[h]
theorem cH{α:Type}{l:List α}{p:α->Bool}{k:Nat}(h0:(l.take k).all p=true)(h:l.length<=k):l.all p=true:=by
 rwa [List.take_of_length_le h]at h0
theorem aw{α:Type}{l:List α}{k:Nat}(h:k<l.length):∃x,l[k]? =some x:=⟨l[k],by simp[h]⟩
@[reducible] def a7.row (s:a7):List V:=[.d (.sl (s.cons.map ky.d)), .d (.sl (s.bX.map ky.d))]
theorem Ov(s:a7)(hs:s.Fits):∀t:Tm,t.fits->a8 Tryz.prog 102 [s.d,t.d] (.ret [.bool (eD s t)]):=by
 refine Tm.ck fun t ih hf=> ?_
 have fm:=(Tm.aP _).1 hf
 refine a8.aB mix Z0 aj ?_
 rw[ZZ]
 refine b9 ?_
 refine ai (Wb s t hs fm.1) rfl ?_
 refine b9 ?_
 rw[dF]
 refine ak (fun h1=> ?_) (fun h1=> ?_)
 ·refine b9 ?_
  simp at h1;simp[h1]
 ·simp at h1
  rw[h1,Bool.true_and]
  refine b9 ?_
  refine aL (fun k:Nat=>⟨bB [.aa, .aa, .ptr 0 0, .ptr 1 0, .aa, .d (.i k)],rV s.row t.row,2⟩)
   (fun k=>k<=t.kids.length/\(t.kids.take k).all (eD s)=true) (fun k=>t.kids.length - k) 0 ⟨Nat.zero_le _,aj⟩ (bM.d2 _ (dk rfl rfl) ad rfl rfl ?_) (fun k hk=> ?_)
  ·exact cM
  refine b9 ?_
  refine ak (fun h2=> ?_) (fun h2=> ?_)
  ·simp at h2
   obtain⟨x,hx⟩:=aw h2
   have de:=List.mem_of_getElem? hx
   refine fg hx ?_
   refine aq (ih x de (fm.2 x de)) rfl ?_
   refine b9 ?_
   refine ao aZ ?_
   refine b9 ?_
   refine ak (fun h3=> ?_) (fun h3=> ?_)
   ·refine b9 ?_
    simp at h3
    rw[cc hx h3]
   ·refine b9 ?_
    simp at h3
    refine au (k+1) ⟨h2,cG hx hk.2 h3⟩ ad (bM.d2 _ (dk rfl rfl) ad rfl rfl ?_)
    exact cM
  ·refine b9 ?_
   simp at h2
   rw[cH hk.2 h2]
theorem Ew(s:a7)(hs:s.Fits)(t:Tm)(hf:t.fits):a8 Tryz.prog 60 [s.d,t.d] (.ret [.bool (dP s t)]):=by
 refine a8.aB mix acO aj ?_
 rw[c60]
 refine b9 ?_
 refine ai (tU t hf 40 12 ad ad) rfl ?_
 refine b9 ?_
 refine gO (ft [.bool (eD s t)] ?_ ?_)
 ·refine b9 ?_
  exact fun _=>Ov s hs t hf
 refine b9 ?_
 rfl
theorem jc:∀l l':List Tm,l.length=l'.length->(gP l l'=true↔∀ (i:Nat) (x y:Tm),l[i]? =some x->l'[i]? =some y->aX x y=true)
 |[],l',_=>by simp[gP]
 |k::l,k'::l',h=>by
  simp only[gP,Bool.and_eq_true]
  rw[jc l l' (by simpa using h)]
  constructor
  ·rintro⟨h1,h2⟩ i x y hx hy
   cases i with
   |zero=>simp at hx hy;subst hx;subst hy;exact h1
   |succ i=>exact h2 i x y GU Jo
  ·intro h3
   exact⟨h3 0 k k' rfl rfl,fun i x y hx hy=>h3 (i+1) x y GU Jo⟩
 |_::_,[],h=>by simp at h
theorem nL(a b:Tm):aX a b=(a.op==b.op&&a.n==b.n&&a.kids.length==b.kids.length&&gP a.kids b.kids):=by cases a;cases b;simp[aX,Tm.op,Tm.n,Tm.kids]
theorem Wc:∀a:Tm,a.fits->∀b:Tm,b.fits->a8 Tryz.prog 21 [a.d,b.d] (.ret [.bool (aX a b)]):=by
 refine Tm.ck fun t ih hf b hb=> ?_
 have fm:=(Tm.aP _).1 hf
 have IX:=(Tm.aP _).1 hb
 refine a8.aB mix ZA aj ?_
 rw[c21,nL]
 refine b9 ?_
 refine ak (fun h1=> ?_) (fun h1=> ?_)
 ·refine b9 ?_
  have:(t.op==b.op&&t.n==b.n&&t.kids.length==b.kids.length)=false:=by
   rw[Bool.eq_false_iff]
   intro h
   simp at h
   simp[h]at h1
  rw[this];rfl
 ·have cB:t.op=b.op/\t.n=b.n/\t.kids.length=b.kids.length:=by
   simp at h1
   refine⟨h1.1.1,h1.1.2,by have:=h1.2;omega⟩
  rw[show(t.op==b.op&&t.n==b.n&&t.kids.length==b.kids.length)=true by simp[cB],Bool.true_and]
  have hl:=cB.2.2
  refine b9 ?_
  refine aL (fun k:Nat=>⟨bB [.aa, .aa, .ptr 0 0, .ptr 1 0, .aa, .d (.i k)],rV t.row b.row,2⟩)
   (fun k=>k<=t.kids.length/\∀i,i<k->∀x y,t.kids[i]? =some x->b.kids[i]? =some y->aX x y=true) (fun k=>t.kids.length - k) 0 ⟨Nat.zero_le _,fun i h=>ad⟩ (bM.d2 _ (dk rfl rfl) ad rfl rfl ?_) (fun k hk=> ?_)
  ·exact cM
  refine b9 ?_
  refine ak (fun h2=> ?_) (fun h2=> ?_)
  ·simp at h2
   obtain⟨x,hx⟩:=aw h2
   obtain⟨y,hy⟩:=aw (l:=b.kids) (k:=k) ad
   have de:=List.mem_of_getElem? hx
   have Ex:=List.mem_of_getElem? hy
   simp+contextual only[go_sem,hx,hy]
   refine aq (ih x de (fm.2 x de) y (IX.2 y Ex)) rfl ?_
   refine b9 ?_
   refine ao aZ ?_
   refine b9 ?_
   refine ak (fun h3=> ?_) (fun h3=> ?_)
   ·refine b9 ?_
    simp at h3
    have:gP t.kids b.kids=false:=by
     rw[Bool.eq_false_iff]
     intro h
     have:=(jc _ _ hl).1 h k x y hx hy
     rw[h3]at this;cases this
    rw[this]
   ·refine b9 ?_
    simp at h3
    refine au (k+1) ⟨h2,fun i hi u v hu hv=> ?_⟩ ad (bM.d2 _ (dk rfl rfl) ad rfl rfl ?_)
    ·by_cases e:i=k
     ·subst e
      rw[hx]at hu;rw[hy]at hv
      injection hu with hu;injection hv with hv;subst hu;subst hv;exact h3
     ·exact hk.2 i ad u v hu hv
    ·exact cM
  ·refine b9 ?_
   simp at h2
   have:gP t.kids b.kids=true:=(jc _ _ hl).2 fun i x y hx hy=>hk.2 i (by have:=(List.getElem?_eq_some_iff.1 hx).1;omega) x y hx hy
   rw[this]
theorem Ae(t:Tm)(hf:t.fits):a8 Tryz.prog 40 [t.d] (.ret [.bool (iD t)]):=by
 refine a8.aB mix acA aj ?_
 rw[c40]
 refine b9 ?_
 refine ai (tU t hf 50 14 ad ad) rfl ?_
 refine b9 ?_
 rfl
theorem Ey(s:a7)(hs:s.Fits):a8 Tryz.prog 121 [s.d] (.ret [.bool (jb s)]):=by
 refine a8.aB mix aaa aj ?_
 rw[Z9]
 refine b9 ?_
 refine ak (fun h1=> ?_) (fun h1=> ?_)
 ·refine b9 ?_
  simp only[jb,h1];rfl
 ·have e:jb s=(gE s.cons&&gE s.bX):=by simp only[jb,h1];rfl
  rw[e]
  simp at h1
  refine b9 ?_
  refine aL (fun k:Nat=>⟨bB [.aa, .ptr 0 0, .aa, .d (.i k)],fu s.row,1⟩)
   (fun k=>k<=s.cons.length/\gE (s.cons.take k)=true) (fun k=>s.cons.length - k) 0 ⟨Nat.zero_le _,by simp[gE]⟩ (bM.d1 _ (aW rfl) ad rfl ?_) (fun k hk=> ?_)
  ·exact cM
  refine b9 ?_
  refine ak (fun h2=> ?_) (fun h2=> ?_)
  ·simp at h2
   obtain⟨x,hx⟩:=aw h2
   refine fg hx ?_
   refine ak (fun h3=> ?_) (fun h3=> ?_)
   ·refine b9 ?_
    rw[show gE s.cons=false from cc hx (by simpa using h3)];rfl
   ·refine b9 ?_
    refine au (k+1) ⟨h2,cG hx hk.2 (by simpa using h3)⟩ ad (bM.d1 _ (aW rfl) ad rfl ?_)
    exact cM
  ·simp at h2
   rw[show gE s.cons=true from cH hk.2 h2,Bool.true_and]
   refine b9 ?_
   refine aL (fun k:Nat=>⟨bB [.aa, .ptr 0 0, .aa, .aa, .d (.i k)],fu s.row,1⟩)
    (fun k=>k<=s.bX.length/\gE (s.bX.take k)=true) (fun k=>s.bX.length - k) 0 ⟨Nat.zero_le _,by simp[gE]⟩ (bM.d1 _ (aW rfl) ad rfl ?_) (fun k hk=> ?_)
   ·exact cM
   refine b9 ?_
   refine ak (fun h4=> ?_) (fun h4=> ?_)
   ·simp at h4
    obtain⟨x,hx⟩:=aw h4
    refine fg hx ?_
    refine ak (fun h3=> ?_) (fun h3=> ?_)
    ·refine b9 ?_
     rw[show gE s.bX=false from cc hx (by simpa using h3)]
    ·refine b9 ?_
     refine au (k+1) ⟨h4,cG hx hk.2 (by simpa using h3)⟩ ad (bM.d1 _ (aW rfl) ad rfl ?_)
     exact cM
   ·simp at h4
    rw[show gE s.bX=true from cH hk.2 h4]
    exact S7
end Go.Proofs.YtonbelhklnmjnaaGreat
namespace Go.Proofs.YtonbelhklnmjnaaGreat
theorem Cs{σ:Type}(l:List Tm)(hl:l.length<=9223372036854775807)(g:Nat)(aG:List V)(base:Nat)(H:σ->Nat->ab)(step:σ->Tm->σ×Bool)(hc:∀r∈V.aO aG,r<base)(ok:σ->Prop)(bp:∀x∈l,∀s,ok s->(step s x).2=true->ok (step s x).1)
 (h:∀x∈l,∀s,ok s->fM Tryz.prog g (.d x.d::aG) base (H s) (H (step s x).1) (.d (.bool (step s x).2))) (s:σ) (gB:ok s):
 fM Tryz.prog 161 [.d (.sl (l.map Tm.d)), .func (.func g) [] aG] base (H s) (H (aA step s l).1) (.d (.bool (aA step s l).2)):=by
 intro o nx hI K X hK
 have fG:∀r∈V.aO aG,r<nx:=fun r hr=>Nat.lt_of_lt_of_le (hc r hr) hI.le
 refine cO.aB mix Q8 aj ?_
 rw[U4]
 refine b9 ?_
 refine aL (fun i:Nat×σ×(Nat->ab)×Nat=>⟨bB [.aa, .func (.func g) [] aG, .aa, .aa, .aa, .aa, .aa, .d (.sl (l.map Tm.d)), .d (.i l.length), .d (.i i.1)],i.2.2.1,i.2.2.2⟩)
  (fun i=>i.1<=l.length/\cW base (H i.2.1) i.2.2.1 i.2.2.2/\nx<=i.2.2.2/\(∀id,base<=id->id<nx->i.2.2.1 id=o id)/\aA step s l=aA step i.2.1 (l.drop i.1)/\ok i.2.1) (fun i=>l.length - i.1) (0,s,o,nx)
  ⟨Nat.zero_le _,hI,Nat.le_refl _,fun _ _ _=>rfl,rfl,gB⟩ ?_ ?_
 ·dsimp only
  refine bM.bT _ (Nat.le_refl _) ad hI.bP (fun _ _=>rfl) ?_
  exact cM
 rintro⟨k,s',o',nx'⟩ ⟨hk,ow,hn,dc,hf,jR⟩
 simp only at hk ow hn dc hf jR
 refine b9 ?_
 refine ak (fun h1=> ?_) (fun h1=> ?_)
 ·simp at h1
  obtain⟨x,hx⟩:=aw h1
  have de:=List.mem_of_getElem? hx
  have hd:l.drop k=x::l.drop (k+1):=by
   rw[List.drop_eq_getElem_cons h1]
   rw[List.getElem?_eq_getElem h1]at hx;injection hx with hx;rw[hx]
  refine GG hx ?_
  have hl0:=ow.le
  refine cY (h x de s' jR _ _ (?_:cW base (H s') _ (nx'+7)) _ _ fun o2 n2 m1 m2 m3=> ?_)
  ·exact(ow.aM (i:=nx'+3) (m:=nx'+7) ad ad ad rfl).aM ad ad ad rfl
  have K7:∀id,base<=id->id<nx->o2 id=o id:=fun id h2 h3=>by
   rw[m3 id h2 (by omega),ah _ _ _ _ (by omega),ah _ _ _ _ (by omega),dc id h2 h3]
  refine b9 ?_
  refine ak (fun h2=> ?_) (fun h2=> ?_)
  ·refine b9 ?_
   simp at h2
   have:aA step s l=((step s' x).1,false):=by rw[hf,hd,aA,if_neg (by rw[h2];exact Bool.false_ne_true)]
   rw[this]at hK
   exact hK _ _ ad (m2.mono ad) K7
  ·refine b9 ?_
   simp at h2
   have:aA step s l=aA step (step s' x).1 (l.drop (k+1)):=by rw[hf,hd,aA,if_pos h2]
   refine au (k+1,(step s' x).1,o2,n2) ⟨h1,m2,by dsimp only;omega,K7,this,bp x de s' jR h2⟩ mL ?_
   dsimp only
   have Ct:∀r∈V.aO aG,r<n2:=fun r hr=>by have:=fG r hr;omega
   refine bM.bT _ ad ad m2.bP (fun _ _=>rfl) ?_
   exact cM
 ·refine b9 ?_
  simp at h1
  rw[List.drop_eq_nil_of_le h1]at hf
  simp only[aA]at hf
  rw[hf]at hK
  exact hK _ _ ad (ow.mono ad) dc
theorem Af{α σ:Type}(step:σ->α->σ×Bool)(a b:List α):∀s,aA step s (a++b)=if(aA step s a).2=true then aA step (aA step s a).1 b else((aA step s a).1,false):=by
 induction a with
 |nil=>intro s;simp[aA]
 |cons x a ih=>
  intro s
  simp only[List.cons_append,aA]
  split
  ·exact ih _
  ·rename_i h;simp
theorem pz{α β σ:Type}(step:σ->β->σ×Bool)(f:α->List β)(l:List α):∀s,aA step s (l.flatMap f)=aA (fun s x=>aA step s (f x)) s l:=by
 induction l with
 |nil=>intro s;rfl
 |cons x l ih=>intro s;simp only[List.flatMap_cons,Af,aA,ih]
theorem vq{α σ:Type}{step:σ->α->σ×Bool}{ok:σ->Prop}:∀ (l:List α),(∀x∈l,∀s,ok s->(step s x).2=true->ok (step s x).1)->∀s,ok s->(aA step s l).2=true->ok (aA step s l).1
 |[],_,s,h,_=>h
 |x::l,bp,s,h,h2=>by
  simp only[aA]at h2|-
  split at h2
  ·rename_i hb
   rw[if_pos hb]
   exact vq l (fun y hy=>bp y tc) _ (bp x aj s h hb) h2
  ·cases h2
def XM(P:Program)(n8:Nat)(args:List V)(base:Nat)(h h2:Nat->ab)(v:V):Prop:=
 ∀o nx,cW base h o nx->∀K X,StK base h2 v o nx K->ec P n8 args o nx K X
section
variable {σ:Type}(base n8:Nat)(H:σ->Nat->ab)(step:σ->Tm×Int->σ×Bool)(ok:σ->Prop)
theorem Ow:∀t:Tm,t.fits->∀d:Int,0<=d->d+t.ja<=1000000->(∀x∈pre t d,∀s,ok s->(step s x).2=true->ok (step s x).1)->(∀x∈pre t d,∀s,ok s->XM Tryz.prog n8 [.d x.1.d, .d (.i x.2)] base (H s) (H (step s x).1) (.d (.bool (step s x).2)))->n8<base->
 ∀ (c:Nat) (o0:Nat->ab) (yb vb:Nat),base<=c->base<=yb->yb<c->base<=vb->vb<c->o0 yb= .row [.jU n8]->o0 vb= .row [.func (.func 246) [] [.ptr yb 0, .ptr vb 0]]->
 ∀s,ok s->fM Tryz.prog 246 [.d t.d, .d (.i d), .ptr yb 0, .ptr vb 0] c (ext base (H s) o0) (ext base (H (aA step s (pre t d)).1) o0) (.d (.bool (aA step s (pre t d)).2)):=by
 refine Tm.ck fun t ih hf d hd0 hd bp hR vr c o0 yb vb PE Sg hy Sh hv oy ov s gB=> ?_
 have fm:=(Tm.aP _).1 hf
 intro o nx hI K X hK
 have hle:=hI.le
 have Si:o yb= .row [.jU n8]:=by rw[hI.eq yb hy];unfold ext;rw[if_neg (by omega),oy]
 have Sj:o vb= .row [.func (.func 246) [] [.ptr yb 0, .ptr vb 0]]:=by rw[hI.eq vb hv];unfold ext;rw[if_neg (by omega),ov]
 have y1:yb≠nx:=ad
 have y2:∀k,yb≠nx+k:=fun k=>ad
 have y3:vb≠nx:=ad
 have y4:∀k,vb≠nx+k:=fun k=>ad
 refine cO.aB mix R6 aj ?_
 rw[VZ]
 simp+contextual only[go_sem,Si,Sj,y1,y2,y3,y4,Nat.add_assoc,Nat.left_eq_add,Nat.add_eq_left,Nat.add_left_cancel_iff]
 have s9:=jH t d
 have lL:∀k∈t.kids,∀x∈pre k (d+1),x∈pre t d:=fun k hk x hx=>by
  exact SJ
 have hb:∀id,id<base->o id=H s id:=fun id aC=>by rw[hI.eq id (by omega)];unfold ext;rw[if_pos aC]
 have hIb:cW base (H s) o nx:=⟨hI.bP,ad,hb⟩
 refine nI (hR (t,d) GQ s gB _ _ ((hIb.aM (i:=nx) (m:=nx+6) ad ad ad rfl).aM (i:=nx+1) ad ad ad rfl) _ _ fun o2 n2 m1 m2 m3=> ?_)
 have k0:o2 nx= .row t.row:=by rw[m3 nx (by omega) (by omega),ah _ _ _ _ (by omega),ae]
 have k1:o2 (nx+1)= .row [.d (.i d)]:=by rw[m3 (nx+1) (by omega) (by omega),ae]
 have hold:∀id,base<=id->id<nx->o2 id=o id:=fun id h1 h2=>by rw[m3 id h1 (by omega),ah _ _ _ _ (by omega),ah _ _ _ _ (by omega)]
 have GL:∀id,base<=id->id<c->o id=o0 id:=fun id h1 h2=>by rw[hI.eq id h2];unfold ext;rw[if_neg (by omega)]
 cases Cu:(step s (t,d)).2 with
 |false=>
  refine fg Cu ?_
  have AR:aA step s (pre t d)=((step s (t,d)).1,false):=by rw[s9,aA,if_neg (by rw[Cu];exact Bool.false_ne_true)]
  rw[AR]at hK
  refine hK _ _ ad ⟨m2.bP.mono ad,ad,fun id aC=> ?_⟩ (fun id h1 h2=>hold id ad h2)
  unfold ext
  split
  ·exact m2.eq id Jp
  ·exact GK
 |true=>
  have AR:aA step s (pre t d)=aA (fun s k=>aA step s (pre k (d+1))) (step s (t,d)).1 t.kids:=by rw[s9,aA,if_pos Cu,pz]
  simp+contextual only[go_sem,Cu,k0,k1]
  have q0:o2 yb= .row [.jU n8]:=by rw[hold yb Sg (by omega),Si]
  have q1:o2 vb= .row [.func (.func 246) [] [.ptr yb 0, .ptr vb 0]]:=by rw[hold vb Sh (by omega),Sj]
  have m0:=m2.le
  refine bd (Cs t.kids fm.1 247 [.ptr vb 0, .ptr (nx+1) 0] n2 (fun s=>ext base (H s) o2) (fun s k=>aA step s (pre k (d+1))) ?_ ok ?_ ?_ (step s (t,d)).1 (bp (t,d) GQ s gB Cu) _ _ ?_ _ _ ?_)
  ·exact Nb
  ·exact fun k hk s' h1 h2=>vq _ (fun x hx=>bp x (lL k hk x hx)) s' h1 h2
  ·intro k hk s' iK o3 n3 Ox K3 X3 hK3
   have l3:=Ox.le
   have r0:o3 vb= .row [.func (.func 246) [] [.ptr yb 0, .ptr vb 0]]:=by rw[Ox.eq vb (by omega)];unfold ext;rw[if_neg (by omega),q1]
   have r1:o3 (nx+1)= .row [.d (.i d)]:=by rw[Ox.eq (nx+1) (by omega)];unfold ext;rw[if_neg (by omega),k1]
   have y5:vb≠n3:=ad
   have y6:∀k,vb≠n3+k:=fun k=>ad
   have y7:nx+1≠n3:=ad
   have y8:∀k,nx+1≠n3+k:=fun k=>ad
   have hh:=Tm.qw hk
   refine cO.aB mix R7 aj ?_
   rw[V0]
   simp+contextual only[go_sem,r0,r1,y5,y6,y7,y8]
   rw[wrap64 (n:=d+1) (by omega) (by omega)]
   refine bd (ih k hk (fm.2 k hk) (d+1) ad ad (fun x hx=>bp x (lL k hk x hx)) (fun x hx=>hR x (lL k hk x hx)) vr n2 o2 yb vb ad Sg ad Sh ad q0 q1 s' iK _ _ (Ox.aM (i:=n3) (m:=n3+6) ad ad ad rfl) _ _ fun o4 n4 p1 p2 p3=> ?_)
   refine b9 ?_
   refine hK3 _ _ ad (p2.mono ad) (fun id h1 h2=> ?_)
   rw[p3 id h1 (by omega),ah _ _ _ _ (by omega)]
  ·exact(m2.mono ad).ext ad ad
  ·intro o5 n5 p1 p2 p3
   refine b9 ?_
   rw[<- AR]
   refine hK _ _ ad ⟨p2.bP.mono ad,ad,fun id aC=> ?_⟩ (fun id h1 h2=> ?_)
   ·rw[p2.eq id (by omega), <- AR]
    unfold ext
    split
    ·rfl
    ·exact GK
   ·rw[p2.eq id (by omega)]
    unfold ext
    exact SR
theorem K8(t:Tm)(hf:t.fits)(hd:t.ja<=900000)(bp:∀x∈pre t 1,∀s,ok s->(step s x).2=true->ok (step s x).1)(hR:∀x∈pre t 1,∀s,ok s->XM Tryz.prog n8 [.d x.1.d, .d (.i x.2)] base (H s) (H (step s x).1) (.d (.bool (step s x).2)))(vr:n8<base)(tb:Nat)(GR:tb<base)(s:σ)(gB:ok s)(bZ:H s tb= .row t.row):
 fM Tryz.prog 245 [.jU n8, .ptr tb 0] base (H s) (H (aA step s (pre t 1)).1) (.cp []):=by
 intro o nx hI K X hK
 have hle:=hI.le
 have ot:o tb= .row t.row:=by rw[hI.eq tb GR,bZ]
 have y1:tb≠nx:=ad
 have y2:∀k,tb≠nx+k:=fun k=>ad
 refine cO.aB mix R5 aj ?_
 rw[VY]
 refine SE ot y1 y2 ?_
 have hI1:cW base (H s) (aM (aM (aM o nx (.row [.jU n8])) (nx+1) (.row [.d .bW])) (nx+1) (.row [.func (.func 246) [] [.ptr nx 0, .ptr (nx+1) 0]])) (nx+6):=by
  refine((hI.aM (i:=nx) (m:=nx+6) ad ad ad ?_).aM (i:=nx+1) (m:=nx+6) ad ad ad rfl).aM (i:=nx+1) ad ad ad ?_
  ·exact SW
  ·exact lA
 refine bd (Ow base n8 H step ok t hf 1 ad ad bp hR vr (nx+6) _ nx (nx+1) ad hle ad ad ad ?_ ?_ s gB _ _ (hI1.ext (Nat.le_refl _) ad) _ _ ?_)
 ·exact dC
 ·exact dC
 intro o2 n2 m1 m2 m3
 refine b9 ?_
 refine hK _ _ ad ⟨m2.bP,ad,fun id aC=> ?_⟩ (fun id h1 h2=> ?_)
 ·exact yW
 ·rw[m2.eq id (by omega)];unfold ext;rw[if_neg (by omega)]
  exact dC
end
theorem Cv(t:Tm)(o:Nat->ab)(nx:Nat)(K X:V->(Nat->ab)->Nat->Prop)(h:K (.func (.func 245) [] [.ptr nx 0]) (aM o nx (.row t.row)) (nx+4)):cO Tryz.prog 206 [.d t.d] o nx K X:=by
 refine cO.aB mix RG aj ?_
 rw[VA]
 refine b9 ?_
 exact h
end Go.Proofs.YtonbelhklnmjnaaGreat
namespace Go.Proofs.YtonbelhklnmjnaaGreat
def FX:Option jN->fS
 |none=> .normal
 |some .ret=> .ret
 |some (.exit j)=> .exit j
def yh{σ:Type}(J:σ->Option jN)(step:σ->Tm×Int->σ)(s:σ)(x:Tm×Int):σ×Bool:=(step s x,(J (step s x)).isNone)
theorem Ag{σ:Type}(J:σ->Option jN)(step:σ->Tm×Int->σ):∀ (l:List (Tm×Int)) (s:σ),J s=none->(aA (yh J step) s l).2=(J (aA (yh J step) s l).1).isNone
 |[],s,h=>by simp[aA,h]
 |x::l,s,h=>by
  simp only[aA]
  split
  ·rename_i hb
   exact Ag J step l _ (by simpa[yh]using hb)
  ·rename_i hb
   cases hj:J (step s x)with
   |none=>exact absurd (by simp[yh,hj]) hb
   |some j=>simp[yh,hj]
theorem sT{σ:Type}(t:Tm)(hf:t.fits)(hd:t.ja<=900000){n bq:Nat}{gq:Operand}{ps:List Nat}{iQ eJ:IC}{Q:fS->S->Prop}{e:Nat->V}{o:Nat->ab}{nx tb:Nat}(env:List V)(he:lQ e env 0)
 (El:ps.all (fun t=>decide (t<n))=true) (hl:ps.length=2) (hg:Good o nx) (hrefs:∀r∈V.aO env,r<nx) (ht:o tb= .row t.row)
 (G:σ->Nat->ab) (J:σ->Option jN) (step:σ->Tm×Int->σ) (ok:σ->Prop) (s0:σ) (gB:ok s0) (MP:J s0=none) (h0:∀id,id<nx->o id=G s0 id) (bp:∀x∈pre t 1,∀s,ok s->J s=none->J (step s x)=none->ok (step s x))
 (mh:∀L,iE Tryz.prog n env ps iQ eJ L->(∀st pd m,nx<=m->(L st pd).refs.all (fun r=>decide (r<m))=true)->∀x∈pre t 1,∀s,ok s->J s=none->∀o3 n3,cW nx (G s) o3 n3->nx<n3->o3 nx=L .ready none->∀K X,
  (∀e' o' n' st pd,n3<=n'->cW nx (G (step s x)) o' n'->o' nx=L st pd->(∀id,nx<id->id<n3->o' id=o3 id)->jI nx K X (FX (J (step s x))) ⟨e',o',n'⟩)->
  kX Tryz.prog n n3 true iQ (nH Tryz.prog n n3 nx eJ K X) ⟨nw (bB env) ps [.d x.1.d, .d (.i x.2)],o3,n3⟩)
 (kq:∀o' n',cW nx (G (aA (yh J step) s0 (pre t 1)).1) o' n'->ph Q (J (aA (yh J step) s0 (pre t 1)).1) ⟨e,o',n'⟩):
 wQ Tryz.prog n bq false gq ps iQ eJ Q ⟨e,o,nx⟩ (.func (.func 245) [] [.ptr tb 0]):=by
 refine Ev env he (fun L hL=> ?_)
 have GR:tb<nx:=hg.lt S6
 let H:σ->Nat->ab:=fun s id=>if id<nx then G s id else if id=nx then(match J s with|none=>L .ready none|some j=>L .done (some j))else .no
 have GM:∀s id,id<nx->H s id=G s id:=fun s id h=>if_pos h
 have FY:∀s,J s=none->H s nx=L .ready none:=fun s h=>by show(if nx<nx then _ else _)=_;rw[if_neg (by omega),if_pos rfl,h]
 have K9:∀s j,J s=some j->H s nx=L .done (some j):=fun s j h=>by show(if nx<nx then _ else _)=_;rw[if_neg (by omega),if_pos rfl,h]
 have wx:∀st pd m,nx<=m->(L st pd).refs.all (fun r=>decide (r<m))=true:=fun st pd m hm=>by
  rw[hL.refs,List.all_eq_true]
  intro r hr;have:=hrefs r hr;exact decide_eq_true ad
 refine K8 (nx+1) nx H (yh J step) (fun s=>ok s/\J s=none) t hf hd (fun x hx s h1 h2=> ?_) (fun x hx s h1=> ?_) ad tb ad s0 ⟨gB,MP⟩ S4 _ _ ⟨?_,Nat.le_refl _,fun id aC=> ?_⟩ _ _ ?_
 ·have hj:J (step s x)=none:=by simpa[yh]using h2
  exact⟨bp x hx s h1.1 h1.2 hj,hj⟩
 ·intro o3 n3 hI K X hK
  have hle:=hI.le
  have I6:o3 nx=L .ready none:=by rw[hI.eq nx (by omega),FY s h1.2]
  refine vj hL mix I6 ad El (by simp[hl]) ?_
  refine mh L hL wx x hx s h1.1 h1.2 o3 n3 ⟨hI.bP,ad,fun id aC=>by rw[hI.eq id (by omega),GM _ _ aC]⟩ ad I6 K X (fun e' o' n' st pd k1 k2 k3 k4=> ?_)
  have key:∀st' pd' b,(J (step s x)).isNone=b->H (step s x) nx=L st' pd'->K (.d (.bool b)) (aM o' nx (L st' pd')) n':=fun st' pd' b hb hh=>by
   subst hb
   refine hK _ _ k1 ⟨k2.bP.aM ad (wx _ _ _ ad),ad,fun id aC=> ?_⟩ (fun id g1 g2=> ?_)
   ·by_cases oU:id=nx
    ·subst oU;rw[ae];exact hh.symm
    ·rw[ah _ _ _ _ oU]
     show o' id=H (step s x) id
     exact SN
   ·exact SL
  cases hj:J (step s x)with
  |none=>exact rU hL k3 (key _ _ _ yY (FY _ hj))
  |some j=>
   cases j with
   |ret=>exact px hL k3 (key _ _ _ yY (K9 _ _ hj))
   |exit j=>exact nK hL k3 (key _ _ _ yY (K9 _ _ hj))
 ·exact(hg.mono ad).aM ad (wx _ _ _ ad)
 ·by_cases oU:id=nx
  ·subst oU;rw[ae,FY _ MP]
  ·exact SK
 ·intro o' n' k1 k2 k3
  have hle:=k2.le
  generalize hsf:(aA (yh J step) s0 (pre t 1)).1=sf at*
  have kk:∀st pd,cW nx (G sf) (aM o' nx (L st pd)) n':=fun st pd=>⟨k2.bP.aM ad (wx _ _ _ ad),ad,fun id aC=>by rw[ah _ _ _ _ (by omega),k2.eq id (by omega),GM _ _ aC]⟩
  cases hj:J sf with
  |none=>
   refine⟨.ready,none,by rw[k2.eq nx (by omega),FY _ hj],(fun h=>by cases h), ?_⟩
   have:=kq _ _ (kk .exhausted none)
   rwa [hj]at this
  |some j=>
   refine⟨.done,some j,by rw[k2.eq nx (by omega),K9 _ _ hj],(fun h=>by cases h), ?_⟩
   have:=kq _ _ (kk .exhausted (some j))
   rwa [hj]at this
theorem fw(n low high:Int):a8 Tryz.prog 155 [.i n, .i low, .i high] (.ret [.bool (c6 n low high)]):=by
 refine a8.aB mix Q2 aj ?_
 rw[UY]
 refine b9 ?_
 rfl
theorem Ez(s:a7)(t:Tm)(h:t.op=1):a8 Tryz.prog 238 [s.d,t.d] (.ret [.bool (bz s t)]):=by
 have hn:bz s t=(c6 t.n 0 19&&(t.kids.length:Int)==0):=by simp[bz,h,Bool.and_comm]
 refine a8.aB mix RY aj ?_
 rw[VR]
 refine b9 ?_
 refine ai (fw _ _ _) rfl ?_
 refine b9 ?_
 rw[hn]
theorem HT(s:a7)(t:Tm)(h:t.op=2):a8 Tryz.prog 239 [s.d,t.d] (.ret [.bool (bz s t)]):=by
 have hn:bz s t=(c6 t.n (-1000000) 1000000&&(t.kids.length:Int)==0):=by simp[bz,h,Bool.and_comm]
 refine a8.aB mix RZ aj ?_
 rw[VS]
 refine b9 ?_
 refine ai (fw _ _ _) rfl ?_
 refine b9 ?_
 rw[hn]
theorem aaV(s:a7)(t:Tm)(h:t.op=8):a8 Tryz.prog 243 [s.d,t.d] (.ret [.bool (bz s t)]):=by
 have hn:bz s t=(c6 t.n 0 19&&(t.kids.length:Int)==2):=by simp[bz,h,Bool.and_comm]
 refine a8.aB mix R3 aj ?_
 rw[VW]
 refine b9 ?_
 refine ai (fw _ _ _) rfl ?_
 refine b9 ?_
 rw[hn]
theorem Wd(s:a7)(t:Tm)(h:t.op=6\/t.op=7\/t.op=9\/t.op=10\/t.op=11\/t.op=12\/t.op=13\/t.op=14\/t.op=15):a8 Tryz.prog 244 [s.d,t.d] (.ret [.bool (bz s t)]):=by
 have hn:bz s t=(t.n==0&&(t.kids.length:Int)==2):=by
  rcases h with h|h|h|h|h|h|h|h|h<;>simp[bz,h,c6,Bool.and_comm]
 refine a8.aB mix R4 aj ?_
 rw[VX]
 refine b9 ?_
 rw[hn]
theorem aaW(s:a7)(t:Tm)(hs:s.Fits)(h:t.op=3):a8 Tryz.prog 240 [s.d,t.d] (.ret [.bool (bz s t)]):=by
 have hn:bz s t=(c6 t.n 0 (s.cons.length - 1)&&(t.kids.length:Int)==dN s.cons t.n):=by simp[bz,h]
 refine a8.aB mix R0 aj ?_
 rw[VT]
 refine b9 ?_
 rw[wrap64 (by have:=hs.lc;omega) (by have:=hs.lc;omega)]
 refine aq (fw _ _ _) rfl ?_
 cases hI:c6 t.n 0 (s.cons.length - 1)with
 |false=>
  refine fg hI ?_
  refine ao (aI rfl) ?_
  refine b9 ?_
  rw[hn,hI];rfl
 |true=>
  obtain⟨h0,x,hx⟩:=gG hI
  simp+contextual only[go_sem,hI,hx,h0]
  refine ao (aI rfl) ?_
  refine b9 ?_
  exact wD
theorem aaX(s:a7)(t:Tm)(hs:s.Fits)(h:t.op=4):a8 Tryz.prog 241 [s.d,t.d] (.ret [.bool (bz s t)]):=by
 have hn:bz s t=(c6 t.n 0 (s.bX.length - 1)&&(t.kids.length:Int)==dN s.bX t.n):=by simp[bz,h]
 refine a8.aB mix R1 aj ?_
 rw[VU]
 refine b9 ?_
 rw[wrap64 (by have:=hs.lf;omega) (by have:=hs.lf;omega)]
 refine aq (fw _ _ _) rfl ?_
 cases hI:c6 t.n 0 (s.bX.length - 1)with
 |false=>
  refine fg hI ?_
  refine ao (aI rfl) ?_
  refine b9 ?_
  rw[hn,hI];rfl
 |true=>
  obtain⟨h0,x,hx⟩:=gG hI
  simp+contextual only[go_sem,hI,hx,h0]
  refine ao (aI rfl) ?_
  refine b9 ?_
  exact wD
theorem We(s:a7)(t:Tm)(hs:s.Fits)(h:t.op=5):a8 Tryz.prog 242 [s.d,t.d] (.ret [.bool (bz s t)]):=by
 have hn:bz s t=(c6 t.n 0 (s.bX.length - 1)&&decide ((t.kids.length:Int)<dN s.bX t.n)):=by simp[bz,h]
 refine a8.aB mix R2 aj ?_
 rw[VV]
 refine b9 ?_
 rw[wrap64 (by have:=hs.lf;omega) (by have:=hs.lf;omega)]
 refine aq (fw _ _ _) rfl ?_
 cases hI:c6 t.n 0 (s.bX.length - 1)with
 |false=>
  refine fg hI ?_
  refine ao (aI rfl) ?_
  refine b9 ?_
  rw[hn,hI];rfl
 |true=>
  obtain⟨h0,x,hx⟩:=gG hI
  simp+contextual only[go_sem,hI,hx,h0]
  refine ao (aI rfl) ?_
  refine b9 ?_
  exact wD
@[reducible] def rf (n:Nat):V:= .func (.func n) [] []
@[reducible] def ac9:List V:=[.d .bW,rf 238,rf 239,rf 240,rf 241,rf 242, .d .bW, .d .bW,rf 243, .d .bW, .d .bW, .d .bW, .d .bW, .d .bW, .d .bW, .d .bW]
@[reducible] def EA:List V:=[.d .bW,rf 238,rf 239,rf 240,rf 241,rf 242,rf 244,rf 244,rf 243,rf 244,rf 244,rf 244,rf 244,rf 244,rf 244,rf 244]
def Jc(k:Nat):List V:=EA.take k++ac9.drop k
theorem funcOf{P:Program}{t:TypeId}(h:(match P.underlying t with|some (.func _ _ _)=>true|_=>false)=true):∃a b c,P.underlying t=some (.func a b c):=by
 split at h
 ·exact⟨_,_,_,by assumption⟩
 ·cases h
@[go_sem] theorem ada (o:Nat->ab) (oY:Bool):pU Tryz.prog o 188 oY (.d .bW) (.d .bW)=some (.d (.bool true)):=by
  obtain⟨a,b,c,h⟩:=funcOf (P:=Tryz.prog) (t:=188) af
  unfold pU;rw[h]
@[go_sem] theorem adb (o:Nat->ab) (oY:Bool) (f:Fn) (x y:List V):pU Tryz.prog o 188 oY (.func f x y) (.d .bW)=some (.d (.bool false)):=by
  obtain⟨a,b,c,h⟩:=funcOf (P:=Tryz.prog) (t:=188) af
  unfold pU;rw[h]
theorem Oy(base:Nat)(h:Nat->ab):fM Tryz.prog 205 [] base h h (.agg EA):=by
 intro o nx hI K X hK
 have hle:=hI.le
 refine cO.aB mix RF aj ?_
 rw[Vz]
 simp+contextual only[go_sem,Nat.add_assoc,Nat.left_eq_add,Nat.add_eq_left,Nat.add_left_cancel_iff]
 refine aL (fun k:Nat=>⟨bB [.ptr nx 0, .ptr (nx+2) 0, .aa, .aa, .d (.i k)],aM (aM o nx (.row (List.replicate 16 (.d .bW)))) (nx+2) (.row (Jc k)),nx+5⟩)
  (fun k=>k<=16) (fun k=>16 - k) 0 (Nat.zero_le _) ?_ (fun k hk=> ?_)
 ·refine bM.bT _ ad ad ?_ (fun id aC=> ?_) ?_
  ·exact((hI.bP.mono ad).aM ad rfl).aM ad rfl
  ·rw[jn];rfl
  ·exact cM
 have hg:∀k,k<16->Good (aM (aM o nx (.row (List.replicate 16 (.d .bW)))) (nx+2) (.row (Jc (k+1)))) (nx+5):=fun k hk=>
  ((hI.bP.mono ad).aM ad rfl).aM ad (by
    rcases(by omega:k=0\/k=1\/k=2\/k=3\/k=4\/k=5\/k=6\/k=7\/k=8\/k=9\/k=10\/k=11\/k=12\/k=13\/k=14\/k=15)with rfl|rfl|rfl|rfl|rfl|rfl|rfl|rfl|rfl|rfl|rfl|rfl|rfl|rfl|rfl|rfl<;>rfl)
 by_cases ade:k=16
 ·subst ade
  refine X0 ?_
  refine hK _ _ ?_ ⟨?_, ?_,fun id aC=> ?_⟩ (fun id h1 h2=> ?_)
  rotate_left
  ·exact(((hI.bP.mono ad).aM ad rfl).aM ad rfl).aM ad rfl
  ·omega
  ·(repeat(first|rfl|rw[ae]|rw[ah _ _ _ _ (by omega)]))
   exact hI.eq id aC
  ·exact dC
  ·omega
 ·have hgk:=hg k ad
  obtain⟨k1,MK⟩:∃k1,k1=k+1:=⟨_,rfl⟩
  rw[<- MK]at hgk
  rcases(by omega:k=0\/k=1\/k=2\/k=3\/k=4\/k=5\/k=6\/k=7\/k=8\/k=9\/k=10\/k=11\/k=12\/k=13\/k=14\/k=15)with rfl|rfl|rfl|rfl|rfl|rfl|rfl|rfl|rfl|rfl|rfl|rfl|rfl|rfl|rfl|rfl
  all_goals
   refine X0 ?_
   refine au k1 ad ad (bM.bT _ ad ad hgk (fun id aC=> ?_) ?_)
   all_goals subst MK
   ·first|rfl|(rw[jn];rfl)
   ·exact cM
def La(n:Int):Nat:=if n=1 then 238 else if n=2 then 239 else if n=3 then 240 else if n=4 then 241 else if n=5 then 242 else if n=8 then 243 else 244
theorem Wf(s:a7)(t:Tm)(hs:s.Fits)(h:c6 t.op 1 15=true):a8 Tryz.prog (La t.op) [s.d,t.d] (.ret [.bool (bz s t)])/\EA[t.op.toNat]? =some (rf (La t.op))/\0<=t.op/\t.op<16:=by
 simp[c6]at h
 rcases(by omega:t.op=1\/t.op=2\/t.op=3\/t.op=4\/t.op=5\/t.op=8\/(t.op=6\/t.op=7\/t.op=9\/t.op=10\/t.op=11\/t.op=12\/t.op=13\/t.op=14\/t.op=15))with h|h|h|h|h|h|h
 ·exact⟨by rw[h];exact Ez s t h,by rw[h];rfl,ad,ad⟩
 ·exact⟨by rw[h];exact HT s t h,by rw[h];rfl,ad,ad⟩
 ·exact⟨by rw[h];exact aaW s t hs h,by rw[h];rfl,ad,ad⟩
 ·exact⟨by rw[h];exact aaX s t hs h,by rw[h];rfl,ad,ad⟩
 ·exact⟨by rw[h];exact We s t hs h,by rw[h];rfl,ad,ad⟩
 ·exact⟨by rw[h];exact aaV s t h,by rw[h];rfl,ad,ad⟩
 ·have hp:=Wd s t h
  rcases h with h|h|h|h|h|h|h|h|h<;>exact⟨by rw[h];exact hp,by rw[h];rfl,ad,ad⟩
def ox(s:a7)(n:Int)(x:Tm×Int):Bool:=decide (40<n+1)||decide (12<x.2)|| !c6 x.1.op 1 15|| !bz s x.1
def iF(s:a7)(n:Int×Bool)(x:Tm×Int):Int×Bool:=(n.1+1, !ox s n.1 x)
def fJ(n:Int×Bool):Option jN:=if n.2=true then none else some .ret
def mn(s:a7)(t:Tm):Bool:=(aA (yh fJ (iF s)) (0,true) (pre t 1)).2
theorem Lb(s:a7)(hs:s.Fits)(t:Tm)(hf:t.fits)(hd:t.ja<=900000):a8 Tryz.prog 163 [s.d,t.d] (.ret [.bool (mn s t)]):=by
 refine a8.aB mix Ra aj ?_
 rw[U6]
 refine b9 ?_
 refine da (Oy 3 _ _ _ (?_:cW 3 (aM (aM (aM (fun _=> .no) 0 (.row s.row)) 1 (.row t.row)) 2 (.row [.d (.bool false)])) _ 3) _ _ fun o2 n2 m1 m2 m3=> ?_)
 ·exact⟨dv,Nat.le_refl _,fun _ _=>rfl⟩
 have p0:o2 0= .row s.row:=m2.eq 0 ad
 have p1:o2 1= .row t.row:=m2.eq 1 ad
 have p2:o2 2= .row [.d (.bool false)]:=m2.eq 2 ad
 have e0:0≠n2:=ad
 have e1:1≠n2:=ad
 have e2:2≠n2:=ad
 have e3:∀k,0≠n2+k:=fun k=>ad
 have e4:∀k,1≠n2+k:=fun k=>ad
 have e5:∀k,2≠n2+k:=fun k=>ad
 simp+contextual only[go_sem,p0,p1,p2,e0,e1,e2,e3,e4,e5,Nat.add_assoc,Nat.left_eq_add,Nat.add_eq_left,Nat.add_left_cancel_iff]
 refine da (Cv t _ _ _ _ ?_)
 refine b9 ?_
 have hG0:∀n,Good (aM (aM (aM (aM (aM (aM o2 n2 (.row (List.replicate 16 (.d .bW)))) (n2+1) (.row [.d (.i 0)])) n2 (.row EA)) (n2+1) (.row [.d (.i 0)])) (n2+5) (.row t.row)) (n2+1) (.row [.d (.i n)])) (n2+9):=fun n=>by
  have hg:=m2.bP
  exact dv
 refine sT t hf hd [.aa, .aa, .ptr 0 0, .aa, .ptr 2 0, .ptr n2 0, .ptr (n2+1) 0] ?_ aZ rfl ?_ Nb (ae _ _ _)
  (fun s=>aM (aM (aM (aM (aM (aM o2 n2 (.row (List.replicate 16 (.d .bW)))) (n2+1) (.row [.d (.i 0)])) n2 (.row EA)) (n2+1) (.row [.d (.i 0)])) (n2+5) (.row t.row)) (n2+1) (.row [.d (.i s.1)]))
  fJ (iF s) (fun s=>0<=s.1/\s.1<=40) (0,true) ⟨aZ,aZ⟩ rfl ?_ ?_ ?_ ?_
 ·exact Ji
 ·have hg:=m2.bP
  exact dv
 ·intro id aC
  by_cases h:id=n2+1
  ·subst h;(repeat(first|rfl|rw[ae]|rw[ah _ _ _ _ (by omega)]))
  ·rw[ah _ _ _ _ h];rfl
 ·intro x hx s' h1 h2 h3
  have:ox s s'.1 x=false:=by simpa[fJ,iF]using h3
  simp[ox]at this
  simp only[iF]
  omega
 ·intro L hL wx x hx s' h1 h2 o3 n3 hI hn ho K X cQ
  simp only[nw]
  have hg:=hI.bP
  have q0:o3 0= .row s.row:=by
   rw[hI.eq 0 (by omega)];(repeat(first|rfl|rw[ae]|rw[ah _ _ _ _ (by omega)]))
   exact p0
  have q2:o3 2= .row [.d (.bool false)]:=by
   rw[hI.eq 2 (by omega)];(repeat(first|rfl|rw[ae]|rw[ah _ _ _ _ (by omega)]))
   exact p2
  have q3:o3 n2= .row EA:=by rw[hI.eq n2 (by omega)];(repeat(first|rfl|rw[ae]|rw[ah _ _ _ _ (by omega)]))
  have q4:o3 (n2+1)= .row [.d (.i s'.1)]:=by rw[hI.eq (n2+1) (by omega)];(repeat(first|rfl|rw[ae]|rw[ah _ _ _ _ (by omega)]))
  have fin:∀ (o':Nat->ab) (n':Nat),(∀id,id<n2+5+4->o' id=aM o3 (n2+1) (.row [.d (.i (s'.1+1))]) id)->Good o' n'->n3<=n'->cW (n2+5+4) (aM (aM (aM (aM (aM (aM o2 n2 (.row (List.replicate 16 (.d .bW)))) (n2+1) (.row [.d (.i 0)])) n2 (.row EA)) (n2+1) (.row [.d (.i 0)])) (n2+5) (.row t.row)) (n2+1) (.row [.d (.i (iF s s' x).1)])) o' n':=by
   intro o' n' k1 k2 k3
   refine⟨k2,ad,fun id aC=> ?_⟩
   rw[k1 id aC]
   by_cases h:id=n2+1
   ·subst h;rw[ae,ae];rfl
   ·rw[ah _ _ _ _ h,ah _ _ _ _ h,hI.eq id aC,ah _ _ _ _ h]
  refine b9 ?_
  refine nJ hL (pd:=none) ?_ ?_
  ·(repeat(first|rfl|rw[ae]|rw[ah _ _ _ _ (by omega)]))
   exact ho
  cases c1:decide (40<s'.1+1)with
  |true=>
   have hJ:fJ (iF s s' x)=some .ret:=by simp[fJ,iF,ox,c1]
   rw[hJ]at cQ
   refine MX q0 q2 q3 q4 c1 ?_
   refine ao (aI rfl) ?_
   refine dD q2 ?_
   refine cQ _ _ _ .busy none ad (fin _ _ (fun id aC=>j6) dv ad) dC (fun id h3 h4=>by(repeat(first|rfl|rw[ae]|rw[ah _ _ _ _ (by omega)])))
  |false=>
  cases c2:decide (12<x.2)with
  |true=>
   have hJ:fJ (iF s s' x)=some .ret:=by simp[fJ,iF,ox,c2]
   rw[hJ]at cQ
   simp+contextual (disch:=first|omega|simp only[go_sem,false_implies]) only[go_sem,wrap64,if_pos,q0,q2,q3,q4,c1,c2]
   refine ao (aI rfl) ?_
   refine dD q2 ?_
   refine cQ _ _ _ .busy none ad (fin _ _ (fun id aC=>j6) dv ad) dC (fun id h3 h4=>by(repeat(first|rfl|rw[ae]|rw[ah _ _ _ _ (by omega)])))
  |false=>
  cases c3:c6 x.1.op 1 15 with
  |false=>
   have hJ:fJ (iF s s' x)=some .ret:=by simp[fJ,iF,ox,c3]
   rw[hJ]at cQ
   simp+contextual (disch:=first|omega|simp only[go_sem,false_implies]) only[go_sem,wrap64,if_pos,q0,q2,q3,q4,c1,c2]
   refine aq (fw _ _ _) rfl ?_
   simp+contextual (disch:=first|omega|simp only[go_sem,false_implies]) only[go_sem,wrap64,if_pos,q0,q2,q3,q4,c1,c2,c3]
   refine ao (aI rfl) ?_
   refine dD q2 ?_
   refine cQ _ _ _ .busy none ad (fin _ _ (fun id aC=>j6) dv ad) dC (fun id h3 h4=>by(repeat(first|rfl|rw[ae]|rw[ah _ _ _ _ (by omega)])))
  |true=>
  obtain⟨r1,r2,r3,r4⟩:=Wf s x.1 hs c3
  simp+contextual (disch:=first|omega|simp only[go_sem,false_implies]) only[go_sem,wrap64,if_pos,q0,q2,q3,q4,c1,c2]
  refine aq (fw _ _ _) rfl ?_
  simp+contextual (disch:=first|omega|simp only[go_sem,false_implies]) only[go_sem,wrap64,if_pos,q0,q2,q3,q4,c1,c2,c3,r2,r3,r4,Nat.mul_one]
  refine aq r1 rfl ?_
  simp+contextual (disch:=first|omega|simp only[go_sem,false_implies]) only[go_sem,wrap64,if_pos,q0,q2,q3,q4,c1,c2,c3]
  refine ao (aI rfl) ?_
  cases c4:bz s x.1 with
  |false=>
   have hJ:fJ (iF s s' x)=some .ret:=by simp[fJ,iF,ox,c4]
   rw[hJ]at cQ
   simp+contextual (disch:=first|omega|simp only[go_sem,false_implies]) only[go_sem,wrap64,if_pos,q2,c4]
   refine cQ _ _ _ .busy none ad (fin _ _ (fun id aC=>j6) dv ad) dC (fun id h3 h4=>by(repeat(first|rfl|rw[ae]|rw[ah _ _ _ _ (by omega)])))
  |true=>
   have hJ:fJ (iF s s' x)=none:=by simp[fJ,iF,ox,c1,c2,c3,c4]
   rw[hJ]at cQ
   simp+contextual (disch:=first|omega|simp only[go_sem,false_implies]) only[go_sem,wrap64,if_pos,c4]
   refine cQ _ _ _ .busy none ad (fin _ _ (fun id aC=>j6) dv ad) dC (fun id h3 h4=>by(repeat(first|rfl|rw[ae]|rw[ah _ _ _ _ (by omega)])))
 ·intro o' n' hI
  have q2:o' 2= .row [.d (.bool false)]:=by
   rw[hI.eq 2 (by omega)];(repeat(first|rfl|rw[ae]|rw[ah _ _ _ _ (by omega)]))
   exact p2
  rw[show mn s t=(fJ (aA (yh fJ (iF s)) (0,true) (pre t 1)).1).isNone from Ag _ _ _ _ rfl]
  generalize (aA (yh fJ (iF s)) (0,true) (pre t 1)).1=sf at*
  cases hj:fJ sf with
  |none=>
   simp only[ph]
   refine dD q2 ?_
   rfl
  |some j=>
   have:j= .ret:=by
    unfold fJ at hj;split at hj
    ·cases hj
    ·injection hj with hj;exact hj.symm
   subst this
   simp only[ph]
   refine dD q2 ?_
   rfl
end Go.Proofs.YtonbelhklnmjnaaGreat
namespace Go.Proofs.YtonbelhklnmjnaaGreat
def enc{κ:Type}(kf:κ->D)(m:List (κ×D)):List (D×D):=m.map fun p=>(kf p.1,p.2)
def fX{κ:Type}[BEq κ](k:κ):List (κ×D)->Nat->Option (Nat×D)
 |[],_=>none
 |p::m,i=>if(k==p.1)=true then some (i,p.2)else fX k m (i+1)
def wS{κ:Type}[BEq κ](k:κ)(x:D)(m:List (κ×D)):List (κ×D):=match fX k m 0 with|some (i,_)=>m.set i (k,x)|none=>m++[(k,x)]
def aaY{κ:Type}[BEq κ](k:κ)(m:List (κ×D)):List (κ×D):=match fX k m 0 with|some (i,_)=>m.eraseIdx i|none=>m
def wT(d:D)(r:Option (Nat×D)):Option (Nat×D×D):=match r with|some (i,x)=>some (i,d,x)|none=>none
@[go_sem] theorem XN (d:D) (i:Nat) (x:D):wT d (some (i,x))=some (i,d,x):=rfl
@[go_sem] theorem XO (d:D):wT d none=none:=rfl
section
variable {P:Program}{kt:TypeId}
theorem Oz(h:cn P kt=some .int)(a b:Int):rb P 100 kt (.int .i64 a) (.int .i64 b)=some (a==b):=by simp[rb,h]
theorem OA(h:cn P kt=some .str)(a b:List UInt8):rb P 100 kt (.str a) (.str b)=some (a==b):=by simp[rb,h]
@[go_sem] theorem FZ (h:cn P kt=some .int) (a:Int):ou P 100 kt (.int .i64 a)=true:=by simp[ou,h]
@[go_sem] theorem abC (h:cn P kt=some .str) (a:List UInt8):ou P 100 kt (.str a)=true:=by simp[ou,h]
theorem vu{κ:Type}[BEq κ][LawfulBEq κ](kf:κ->D)(he:∀a b,rb P 100 kt (kf a) (kf b)=some (a==b))(k:κ):∀ (m:List (κ×D)) (i:Nat),findD P kt (kf k) (enc kf m) i=some (wT (kf k) (fX k m i))
 |[],_=>rfl
 |p::m,i=>by
  have ih:=vu kf he k m (i+1)
  simp only[enc,List.map_cons,findD,he,fX]at ih|-
  by_cases h:k=p.1
  ·subst h;simp[wT]
  ·have:(k==p.1)=false:=by simpa using h
   simp only[this,Bool.false_eq_true,if_false];exact ih
@[go_sem] theorem Cw (h:cn P kt=some .int) (k:Int) (m:List (Int×D)):findD P kt (.int .i64 k) (enc (.int .i64) m) 0=some (wT (.int .i64 k) (fX k m 0)):=vu (.int .i64) (Oz h) k m 0
@[go_sem] theorem aaZ (h:cn P kt=some .str) (k:List UInt8) (m:List (List UInt8×D)):findD P kt (.str k) (enc .str m) 0=some (wT (.str k) (fX k m 0)):=vu .str (OA h) k m 0
end
section
variable {κ:Type}(kf:κ->D)
theorem Lc(m:List (κ×D))(k:κ)(x:D):enc kf m++[(kf k,x)]=enc kf (m++[(k,x)]):=by simp[enc]
theorem F0(m:List (κ×D))(i:Nat)(k:κ)(x:D):(enc kf m).set i (kf k,x)=enc kf (m.set i (k,x)):=by simp[enc,List.map_set]
theorem rW:∀ (m:List (κ×D)) (i:Nat),(enc kf m).eraseIdx i=enc kf (m.eraseIdx i)
 |[],i=>rfl
 |p::m,0=>rfl
 |p::m,i+1=>by
  have:=rW m i
  simp only[enc,List.map_cons,List.eraseIdx_cons_succ]at this|-
  rw[this]
theorem OB(m:List (κ×D)):(((enc kf m).map (·.1)).zip ((enc kf m).map (·.2)))=enc kf m:=by
 induction m with
 |nil=>rfl
 |cons p m ih=>simp only[enc,List.map_cons,List.zip_cons_cons]at ih|-;rw[ih]
theorem yi{K:V->List (Nat×ab)->Prop}{id:Nat}{m:List (κ×D)}(h0:m=[]->K (.cp [.d (.bool false)]) [])
 (h1:∀ (i:Nat) k x,m[i]? =some (k,x)->K (.cp [.d (.bool true), .d (kf k), .d x]) [(id, .mW (enc kf (m.eraseIdx i)) (some (kf k,x)))]):B3 K id (enc kf m):=by
 refine⟨fun h=>h0 ?_,fun i k x h=> ?_⟩
 ·cases m with
  |nil=>rfl
  |cons p m=>simp[enc]at h
 ·simp only[enc,List.getElem?_map]at h
  cases hm:m[i]? with
  |none=>rw[hm]at h;cases h
  |some p=>
   rw[hm]at h
   simp at h
   obtain⟨rfl,rfl⟩:=h
   have:=h1 i p.1 p.2 (by rw[hm])
   rwa [<- rW]at this
end
theorem Cy{κ:Type}[BEq κ][LawfulBEq κ]{k:κ}:∀ {m:List (κ×D)} {i j:Nat} {x:D},fX k m i=some (j,x)->i<=j/\m[j - i]? =some (k,x)
 |[],_,_,_,h=>by cases h
 |p::m,i,j,x,h=>by
  simp only[fX]at h
  split at h
  ·rename_i hk
   injection h with h;injection h with h1 h2
   subst h1;subst h2
   exact⟨Nat.le_refl _,by simp[(by simpa using hk:k=p.1)]⟩
  ·obtain⟨h1,h2⟩:=Cy h
   refine⟨ad, ?_⟩
   rw[show j - i=(j - (i+1))+1 by omega]
   simpa using h2
theorem yj{κ:Type}[BEq κ][LawfulBEq κ]{k:κ}:∀ {m:List (κ×D)} {i:Nat},fX k m i=none↔∀p∈m,p.1≠k
 |[],_=>by simp[fX]
 |p::m,i=>by
  simp only[fX]
  split
  ·rename_i hk
   simp[(by simpa using hk:k=p.1)]
  ·rename_i hk
   rw[yj]
   have:p.1≠k:=fun e=>hk (by simp[e])
   simp[this]
def qD(P:Program)(o:Nat->ab)(t:TypeId)(m k v:V):Option gL:=
 match pV P t,eg o k,eg o v,oF o m with
 |some (kt,_),some kd,some vd,some (some (id,E7,E8),l)=>if k.ids=[]/\ou P 100 kt kd=true/\lb kd=true/\v.ids.all (· !=id)=true then match findD P kt kd l 0 with
  |some (some (i,k',_))=>if k'.same kd=true then some (.cp [],dn o v.ids++[(id, .map E7 E8 (l.set i (kd,vd)))],id::v.ids)else none
  |some none=>some (.cp [],dn o v.ids++[(id, .map E7 E8 (l++[(kd,vd)]))],id::v.ids)
  |none=>none
  else none
 |_,_,_,_=>none
@[go_sem low] theorem yk (P:Program) (o:Nat->ab) (t:TypeId) (m v:V) (k:D):gz P o t m (.d k) v=qD P o t m (.d k) v:=by unfold gz qD;rfl
def vw(P:Program)(o:Nat->ab)(t:TypeId)(m k:V)(ok:Bool):Option gL:=
 match pV P t,eg o k,pW o m with
 |some (kt,vt),some kd,some (rd,l)=>if k.ids=[]/\ou P 100 kt kd=true then match findD P kt kd l 0 with
  |some (some (_,_,x))=>some (if ok=true then .cp [.d x, .d (.bool true)]else .d x,[],rd)
  |some none=>match zeroV P vt with
   |some z=>some (if ok=true then .cp [z, .d (.bool false)]else z,[],rd)
   |none=>none
  |none=>none
  else none
 |_,_,_=>none
@[go_sem low] theorem n9 (P:Program) (o:Nat->ab) (t:TypeId) (m:V) (k:D) (ok:Bool):jl P o t m (.d k) ok=vw P o t m (.d k) ok:=by unfold jl vw;rfl
attribute [go_sem] vw qD nW mX mY oG oH mZ pW oF abL oE lb D.same
end Go.Proofs.YtonbelhklnmjnaaGreat
namespace Go.Proofs.YtonbelhklnmjnaaGreat
theorem dec_lt{l:List UInt8}{i:Nat}{b:UInt8}(hb:l[i]? =some b)(h:b.toNat<128):Utf8.decode ⟨⟨l⟩⟩ i=(b.toNat,1):=by
 have e:(ByteArray.mk ⟨l⟩).get! i=b:=by
  show(Array.mk l)[i]! =b
  simp[hb]
 simp only[Utf8.decode,Nat.add_zero,e]
 rw[if_pos h]
theorem Wg{l:List UInt8}{i:Nat}{b:UInt8}(hb:l[i]? =some b)(h:128<=b.toNat):128<=(Utf8.decode ⟨⟨l⟩⟩ i).1:=by
 have e:(ByteArray.mk ⟨l⟩).get! i=b:=by
  show(Array.mk l)[i]! =b
  simp[hb]
 simp only[Utf8.decode,Nat.add_zero,e]
 rw[if_neg (by omega)]
 split
 ·split<;>simp_all[Utf8.runeError]
 ·split
  ·split
   ·rename_i h3;simp at h3;omega
   ·simp[Utf8.runeError]
  ·split
   ·split
    ·rename_i h3;simp at h3;omega
    ·simp[Utf8.runeError]
   ·simp[Utf8.runeError]
def OC(r:Int):Bool:=decide (97<=r)&&decide (r<=122)||decide (65<=r)&&decide (r<=90)
theorem Ld(b:UInt8):OC b.toNat=letterF b:=by
 rw[Bool.eq_iff_iff]
 simp[OC,letterF]
theorem HU(s:List UInt8)(hs:s.length<=9223372036854775807):a8 Tryz.prog 154 [.str s] (.ret [.bool (kA s)]):=by
 refine a8.aB mix Q1 aj ?_
 rw[UX]
 refine iL ?_
 refine aL (fun k:Nat=>⟨bB [.d (.str s), .aa, .aa, .aa, .aa, .aa, .ptr 2 0],aM (fun _=> .no) 2 (.za s k),3⟩)
  (fun k=>k<=s.length/\(s.take k).all letterF=true) (fun k=>s.length - k) 0 ⟨Nat.zero_le _,aj⟩ (bM.bT _ ad ad (Good.nil.aM ad rfl) (fun _ _=>rfl) ?_) (fun k hk=> ?_)
 ·exact cM
 by_cases h2:k<s.length
 ·obtain⟨b,hb⟩:=aw h2
  by_cases h3:b.toNat<128
  ·simp+contextual (disch:=first|omega|simp only[go_sem,false_implies]) only[go_sem,wrap64,if_pos,Nat.add_assoc,Nat.left_eq_add,Nat.add_eq_left,Nat.add_left_cancel_iff,h2,dec_lt hb h3]
   have hr:=Ld b
   simp only[OC]at hr
   rw[hr]
   cases hl:letterF b with
   |true=>
    refine aJ ?_
    refine au (k+1) ⟨h2,cG hb hk.2 hl⟩ ad (bM.bT _ ad ad (Good.nil.aM ad rfl) (fun _ _=>by rw[jn]) ?_)
    exact cM
   |false=>
    refine aJ ?_
    simp[kA,cc hb hl]
  ·have hr:letterF b=false:=by
    rw[<- Ld];simp[OC];omega
   have hd:=Wg hb ad
   refine AU h2 ?_
   have:(decide (97<=((Utf8.decode ⟨⟨s⟩⟩ k).1:Int))&&decide (((Utf8.decode ⟨⟨s⟩⟩ k).1:Int)<=122)||decide (65<=((Utf8.decode ⟨⟨s⟩⟩ k).1:Int))&&decide (((Utf8.decode ⟨⟨s⟩⟩ k).1:Int)<=90))=false:=by
    rw[Bool.eq_false_iff];intro h;simp at h;omega
   rw[this]
   refine aJ ?_
   simp[kA,cc hb hr]
 ·refine AU h2 ?_
  refine ai (fw _ _ _) rfl ?_
  refine aJ ?_
  rw[kA,cH hk.2 (by omega),Bool.true_and]
theorem Cz{σ:Type}(l:List ky)(hl:l.length<=9223372036854775807)(g:Nat)(aG:List V)(base:Nat)(H:σ->Nat->ab)(step:σ->ky->σ×Bool)(hc:∀r∈V.aO aG,r<base)(ok:σ->Prop)(bp:∀x∈l,∀s,ok s->(step s x).2=true->ok (step s x).1)
 (h:∀x∈l,∀s,ok s->fM Tryz.prog g (.d x.d::aG) base (H s) (H (step s x).1) (.d (.bool (step s x).2))) (s:σ) (gB:ok s):
 fM Tryz.prog 156 [.d (.sl (l.map ky.d)), .func (.func g) [] aG] base (H s) (H (aA step s l).1) (.d (.bool (aA step s l).2)):=by
 intro o nx hI K X hK
 have fG:∀r∈V.aO aG,r<nx:=fun r hr=>Nat.lt_of_lt_of_le (hc r hr) hI.le
 refine cO.aB mix Q3 aj ?_
 rw[UZ]
 refine b9 ?_
 refine aL (fun i:Nat×σ×(Nat->ab)×Nat=>⟨bB [.aa, .func (.func g) [] aG, .aa, .aa, .aa, .aa, .aa, .d (.sl (l.map ky.d)), .d (.i l.length), .d (.i i.1)],i.2.2.1,i.2.2.2⟩)
  (fun i=>i.1<=l.length/\cW base (H i.2.1) i.2.2.1 i.2.2.2/\nx<=i.2.2.2/\(∀id,base<=id->id<nx->i.2.2.1 id=o id)/\aA step s l=aA step i.2.1 (l.drop i.1)/\ok i.2.1) (fun i=>l.length - i.1) (0,s,o,nx)
  ⟨Nat.zero_le _,hI,Nat.le_refl _,fun _ _ _=>rfl,rfl,gB⟩ ?_ ?_
 ·dsimp only
  refine bM.bT _ (Nat.le_refl _) ad hI.bP (fun _ _=>rfl) ?_
  exact cM
 rintro⟨k,s',o',nx'⟩ ⟨hk,ow,hn,dc,hf,jR⟩
 simp only at hk ow hn dc hf jR
 refine b9 ?_
 refine ak (fun h1=> ?_) (fun h1=> ?_)
 ·simp at h1
  obtain⟨x,hx⟩:=aw h1
  have de:=List.mem_of_getElem? hx
  have hd:l.drop k=x::l.drop (k+1):=by
   rw[List.drop_eq_getElem_cons h1]
   rw[List.getElem?_eq_getElem h1]at hx;injection hx with hx;rw[hx]
  refine GG hx ?_
  have hl0:=ow.le
  refine cY (h x de s' jR _ _ (?_:cW base (H s') _ (nx'+7)) _ _ fun o2 n2 m1 m2 m3=> ?_)
  ·exact(ow.aM (i:=nx'+3) (m:=nx'+7) ad ad ad rfl).aM ad ad ad rfl
  have K7:∀id,base<=id->id<nx->o2 id=o id:=fun id h2 h3=>by
   rw[m3 id h2 (by omega),ah _ _ _ _ (by omega),ah _ _ _ _ (by omega),dc id h2 h3]
  refine b9 ?_
  refine ak (fun h2=> ?_) (fun h2=> ?_)
  ·refine b9 ?_
   simp at h2
   have:aA step s l=((step s' x).1,false):=by rw[hf,hd,aA,if_neg (by rw[h2];exact Bool.false_ne_true)]
   rw[this]at hK
   exact hK _ _ ad (m2.mono ad) K7
  ·refine b9 ?_
   simp at h2
   have:aA step s l=aA step (step s' x).1 (l.drop (k+1)):=by rw[hf,hd,aA,if_pos h2]
   refine au (k+1,(step s' x).1,o2,n2) ⟨h1,m2,by dsimp only;omega,K7,this,bp x de s' jR h2⟩ mL ?_
   dsimp only
   have Ct:∀r∈V.aO aG,r<n2:=fun r hr=>by have:=fG r hr;omega
   refine bM.bT _ ad ad m2.bP (fun _ _=>rfl) ?_
   exact cM
 ·refine b9 ?_
  simp at h1
  rw[List.drop_eq_nil_of_le h1]at hf
  simp only[aA]at hf
  rw[hf]at hK
  exact hK _ _ ad (ow.mono ad) dc
def pA(l:List (List UInt8)):List (List UInt8×D):=l.map fun s=>(s, .bool true)
theorem HV(l:List (List UInt8))(s:List UInt8):pA l++[(s, .bool true)]=pA (l++[s]):=by simp[pA]
theorem HW{l:List (List UInt8)}{s:List UInt8}{i:Nat}{x:D}(h:fX s (pA l) 0=some (i,x)):x= .bool true/\(pA l).set i (s, .bool true)=pA l/\l.any (· ==s)=true:=by
 obtain⟨_,h2⟩:=Cy h
 rw[Nat.sub_zero]at h2
 simp only[pA,List.getElem?_map]at h2
 cases hl:l[i]? with
 |none=>rw[hl]at h2;cases h2
 |some y=>
  rw[hl]at h2
  simp at h2
  obtain⟨rfl,rfl⟩:=h2
  refine⟨rfl, ?_, ?_⟩
  ·apply List.ext_getElem?
   intro j
   rw[List.getElem?_set]
   split
   ·rename_i e;subst e
    obtain⟨cJ,hy⟩:=List.getElem?_eq_some_iff.1 hl
    simp[pA,cJ,hy]
   ·rfl
  ·exact List.any_eq_true.2 ⟨y,List.mem_of_getElem? hl,aj⟩
theorem HX{l:List (List UInt8)}{s:List UInt8}(h:fX s (pA l) 0=none):l.any (· ==s)=false:=by
 rw[yj]at h
 rw[List.any_eq_false]
 intro x hx hs
 have:=h (x, .bool true) (by simp[pA];exact hx)
 simp at hs;exact this hs
def OD(bs:List (List UInt8))(x:ky):Bool:= !bs.any (· ==x.name)&&kA x.name&&c6 x.args 0 4
def jd(bs:List (List UInt8))(x:ky):List (List UInt8)×Bool:=(if bs.any (· ==x.name)=true then bs else bs++[x.name],OD bs x)
theorem Wh(x:ky)(hx:x.name.length<=9223372036854775807)(base mp id:Nat)(h:Nat->ab)(hmp:h mp= .row [.mp id])(h1:mp<base)(h2:id<base)(h3:id≠mp)(bs:List (List UInt8)):
 fM Tryz.prog 153 [.d x.d, .ptr mp 0] base (aM h id (.map 9 4 (enc .str (pA bs)))) (aM h id (.map 9 4 (enc .str (pA (jd bs x).1)))) (.d (.bool (jd bs x).2)):=by
 intro o nx hI K X hK
 have hle:=hI.le
 have hg:=hI.bP
 have q0:o mp= .row [.mp id]:=by rw[hI.eq mp h1,ah _ _ _ _ (by omega),hmp]
 have q1:o id= .map 9 4 (enc .str (pA bs)):=by rw[hI.eq id h2,ae]
 refine cO.aB mix Q0 aj ?_
 rw[UW]
 cases ha:fX x.name (pA bs) 0 with
 |none=>
  have hn:=HX ha
  have hs:jd bs x=(bs++[x.name],kA x.name&&c6 x.args 0 4):=by simp[jd,OD,hn]
  rw[hs]at hK
  refine yS q0 q1 ha ?_
  refine ai (HU _ hx) rfl ?_
  refine aJ ?_
  refine gO (ft [.bool (c6 x.args 0 4)] ?_ ?_)
  ·refine aJ ?_
   exact fun _=>fw _ _ _
  refine aJ ?_
  rw[Lc,HV]
  refine hK _ _ ad ⟨dv,ad,fun j hj=> ?_⟩ (fun j g1 g2=>by(repeat(first|rfl|rw[ae]|rw[ah _ _ _ _ (by omega)])))
  ·by_cases e:j=id
   ·subst e;(repeat(first|rfl|rw[ae]|rw[ah _ _ _ _ (by omega)]))
   ·rw[ah _ _ _ _ e,ah _ _ _ _ e,ah _ _ _ _ (by omega),hI.eq j hj,ah _ _ _ _ e]
 |some p=>
  obtain⟨i,y⟩:=p
  obtain⟨rfl,e1,hn⟩:=HW ha
  have hs:jd bs x=(bs,false):=by simp[jd,OD,hn]
  rw[hs]at hK
  refine yS q0 q1 ha ?_
  rw[F0,e1]
  refine hK _ _ ad ⟨dv,ad,fun j hj=> ?_⟩ (fun j g1 g2=>by(repeat(first|rfl|rw[ae]|rw[ah _ _ _ _ (by omega)])))
  ·by_cases e:j=id
   ·subst e;(repeat(first|rfl|rw[ae]|rw[ah _ _ _ _ (by omega)]))
   ·rw[ah _ _ _ _ e,ah _ _ _ _ e,ah _ _ _ _ (by omega),hI.eq j hj,ah _ _ _ _ e]
theorem pB:∀ (l:List ky) (bs:List (List UInt8)),match cq l bs with|some B=>aA jd bs l=(B,true)|none=>(aA jd bs l).2=false
 |[],bs=>rfl
 |x::l,bs=>by
  have ih:=pB l (bs++[x.name])
  simp only[cq,aA,jd,OD]
  by_cases h1:bs.any (· ==x.name)=true
  ·simp[h1]
  ·simp only[Bool.not_eq_true]at h1
   simp only[h1,Bool.false_eq_true,if_false,Bool.not_false,Bool.true_and]
   by_cases h2:(kA x.name&&c6 x.args 0 4)=true
   ·have h3: ¬ ((!kA x.name|| !c6 x.args 0 4)=true):=by simp at h2;simp[h2]
    rw[if_neg h3,if_pos h2]
    exact ih
   ·have h3:(!kA x.name|| !c6 x.args 0 4)=true:=by
     cases hn:kA x.name<;>simp_all
    rw[if_pos h3,if_neg h2]
def mC(ok:Bool):Int:=if ok=true then 0 else 2
@[reducible] def HY (s:a7) (bs:List (List UInt8)):Nat->ab:=aM (aM (aM (fun _=> .no) 0 (.row s.row)) 3 (.row [.mp 2])) 2 (.map 9 4 (enc .str (pA bs)))
theorem vx(s:a7)(hs:s.Fits):a8 Tryz.prog 110 [s.d] (.ret [.i (mC (kB s))]):=by
 refine a8.aB mix QL aj ?_
 rw[UG]
 refine iL ?_
 refine ai (fw _ _ _) rfl ?_
 refine iL ?_
 cases h1:(!c6 s.cons.length 2 12||decide (8<(s.bX.length:Int)))with
 |true=>
  have:kB s=false:=by simp only[kB,h1,if_true]
  refine dD h1 ?_
  simp[this,mC]
 |false=>
  have Ho:=pB s.cons []
  have aa0:∀ (l:List ky),(∀x∈l,x.name.length<=9223372036854775807)->∀x∈l,∀bs,True->fM Tryz.prog 153 (.d x.d::[.ptr 3 0]) 4 (HY s bs) (HY s (jd bs x).1) (.d (.bool (jd bs x).2)):=fun l hl x hx bs _=>
   Wh x (hl x hx) 4 3 2 (aM (aM (fun _=> .no) 0 (.row s.row)) 3 (.row [.mp 2])) (ae _ _ _) ad ad ad bs
  simp[c6]at h1
  obtain⟨a,b,r,hc⟩:∃a b r,s.cons=a::b::r:=by
   match h:s.cons with
   |[]=>exact Nf
   |[a]=>exact Nf
   |a::b::r=>exact⟨a,b,r,rfl⟩
  have cB:(!c6 s.cons.length 2 12||decide (8<(s.bX.length:Int)))=false:=by simp[c6];omega
  have HS:kB s=if(!mN a fB|| !mN b tB)=true then false else match cq s.cons []with
   |none=>false
   |some l=>(cq s.bX l).isSome:=by
   unfold kB
   rw[if_neg (by rw[cB];exact Bool.false_ne_true),hc]
   dsimp only
   rfl
  refine dD cB ?_
  refine bd (Cz s.cons hs.lc 153 [.ptr 3 0] 4 (HY s) jd mK (fun _=>True) (fun _ _ _ _ _=>trivial) (aa0 s.cons hs.nc) [] trivial _ _ ⟨?_,ad,fun id aC=> ?_⟩ _ _ fun o2 n2 m1 m2 m3=> ?_)
  ·exact dv
  ·rcases(by omega:id=0\/id=1\/id=2\/id=3)with rfl|rfl|rfl|rfl<;>rfl
  have p0:∀ {bs:List (List UInt8)} {o:Nat->ab} {n:Nat},cW 4 (HY s bs) o n->o 0= .row s.row:=fun h=>h.eq 0 ad
  have p3:∀ {bs:List (List UInt8)} {o:Nat->ab} {n:Nat},cW 4 (HY s bs) o n->o 3= .row [.mp 2]:=fun h=>h.eq 3 ad
  cases hn:cq s.cons []with
  |none=>
   rw[hn]at Ho
   simp only at Ho
   rw[Ho]
   refine iL ?_
   rw[HS,hn]
   split<;>rfl
  |some B=>
   rw[hn]at Ho
   simp only at Ho
   rw[Ho]at m2|-
   simp+contextual (disch:=first|omega|simp only[go_sem,false_implies]) only[go_sem,wrap64,if_pos,Nat.add_assoc,Nat.left_eq_add,Nat.add_eq_left,Nat.add_left_cancel_iff,p0 m2]
   refine bd (Cz s.bX hs.lf 153 [.ptr 3 0] 4 (HY s) jd mK (fun _=>True) (fun _ _ _ _ _=>trivial) (aa0 s.bX hs.nf) B trivial _ _ (m2.mono ad) _ _ fun o4 n4 k1 k2 k3=> ?_)
   have MG:=pB s.bX B
   cases hf:cq s.bX B with
   |none=>
    rw[hf]at MG
    simp only at MG
    rw[MG]
    refine iL ?_
    rw[HS,hn]
    simp only[hf]
    split<;>rfl
   |some C=>
    rw[hf]at MG
    simp only at MG
    rw[MG]at k2|-
    simp+contextual (disch:=first|omega|simp only[go_sem,false_implies]) only[go_sem,wrap64,if_pos,Nat.add_assoc,Nat.left_eq_add,Nat.add_eq_left,Nat.add_left_cancel_iff,p0 k2,hc]
    have Sk:kB s= !(!mN a fB|| !mN b tB):=by
     rw[HS,hn];simp only[hf]
     cases(!mN a fB|| !mN b tB)<;>rfl
    refine ak (fun h5=> ?_) (fun h5=> ?_)
    ·refine aJ ?_
     have AM:(!mN a fB|| !mN b tB)=true:=h5
     rw[Sk,AM];rfl
    ·refine aJ ?_
     have AM:(!mN a fB|| !mN b tB)=false:=h5
     rw[Sk,AM];rfl
def cZ(s:a7)(l:List Tm):Bool:=kB s&&l.all (mn s)
theorem xc{α:Type}(p:α->Bool):∀ (l:List α) (u:Unit),aA (fun _ x=>((),p x)) u l=((),l.all p)
 |[],_=>rfl
 |x::l,u=>by
  simp only[aA,List.all_cons,xc p l]
  cases p x<;>rfl
theorem EB(l:List Tm)(hl:l.length<=9223372036854775807)(g:Nat)(aG:List V)(base:Nat)(h:Nat->ab)(p:Tm->Bool)(hc:∀r∈V.aO aG,r<base)
 (hp:∀x∈l,fM Tryz.prog g (.d x.d::aG) base h h (.d (.bool (p x)))):fM Tryz.prog 161 [.d (.sl (l.map Tm.d)), .func (.func g) [] aG] base h h (.d (.bool (l.all p))):=by
 have:=Cs l hl g aG base (fun _:Unit=>h) (fun _ x=>((),p x)) hc (fun _=>True) (fun _ _ _ _ _=>trivial) (fun x hx _ _=>hp x hx) () trivial
 exact M8
structure Tm.Fin (t:Tm):Prop where
 fits:t.fits
 ja:t.ja<=900000
theorem Le(s:a7)(hs:s.Fits)(t:Tm)(ht:t.Fin)(base sp:Nat)(h:Nat->ab)(ux:h sp= .row s.row)(hb:sp<base):fM Tryz.prog 162 [.d t.d, .ptr sp 0] base h h (.d (.bool (mn s t))):=by
 intro o nx hI K X hK
 have hle:=hI.le
 have hg:=hI.bP
 have q0:o sp= .row s.row:=by rw[hI.eq sp hb,ux]
 refine cO.aB mix Q9 aj ?_
 rw[U5]
 refine dD q0 ?_
 refine ai (Lb s hs t ht.fits ht.ja) rfl ?_
 refine aJ ?_
 exact hK _ _ ad ⟨dv,ad,fun j hj=>by rw[ah _ _ _ _ (by omega),hI.eq j hj]⟩ (fun j g1 g2=>by(repeat(first|rfl|rw[ae]|rw[ah _ _ _ _ (by omega)])))
theorem Ah(s:a7)(hs:s.Fits)(l:List Tm)(hl:l.length<=9223372036854775807)(hf:∀t∈l,t.Fin):a8 Tryz.prog 123 [s.d, .sl (l.map Tm.d)] (.ret [.bool (cZ s l)]):=by
 refine a8.aB mix QQ aj ?_
 rw[UL]
 refine aJ ?_
 refine ai (vx s hs) rfl ?_
 cases h1:kB s with
 |false=>
  refine AV ?_
  simp[cZ,h1]
 |true=>
  refine AV ?_
  refine bd (EB l hl 162 [.ptr 0 0] 1 (aM (fun _=> .no) 0 (.row s.row)) (mn s) mK (fun x hx=>Le s hs x (hf x hx) 1 0 _ (ae _ _ _) ad) _ _ ⟨dv,ad,fun id aC=>rfl⟩ _ _ fun o2 n2 m1 m2 m3=> ?_)
  refine aJ ?_
  simp[cZ,h1]
theorem OE(s:a7)(hs:s.Fits)(t:Tm)(ht:t.Fin):a8 Tryz.prog 188 [s.d,t.d] (.ret [.i (mC (cZ s [t]))]):=by
 refine a8.aB mix Rz aj ?_
 rw[Vt]
 refine aJ ?_
 refine ai (Ah s hs [t] aj (fun x hx=>by simp at hx;subst hx;exact ht)) rfl ?_
 cases h1:cZ s [t]with
 |false=>exact GI
 |true=>exact GI
def Tm.CA (t:Tm):Int:=(pre t 1).length
structure Tm.wU (t:Tm):Prop extends t.Fin where
 size:t.CA<=1000000
theorem Tm.Fin.lx {t k:Tm}(h:t.Fin)(hk:k∈t.kids):k.Fin:=⟨((Tm.aP _).1 h.fits).2 k hk,by have:=Tm.qw hk;have:=h.ja;omega⟩
theorem nM:∀ (t:Tm) (d d':Int),(pre t d).length=(pre t d').length:=by
 refine Tm.ck fun t ih d d'=> ?_
 rw[jH,jH]
 simp only[List.length_cons,List.length_flatMap]
 congr 2
 exact List.map_congr_left fun k hk=>ih k hk _ _
theorem Tm.HZ {t k:Tm}(hk:k∈t.kids):k.CA+1<=t.CA:=by
 simp only[Tm.CA]
 rw[jH t,nM k 1 (1+1)]
 simp only[List.length_cons,List.length_flatMap]
 have:∀ (l:List Tm),k∈l->(pre k (1+1)).length<=(l.map fun k=>(pre k (1+1)).length).sum:=by
  intro l
  induction l with
  |nil=>intro h;cases h
  |cons x l ih=>
   intro h
   rcases List.mem_cons.1 h with rfl|h
   ·simp only[List.map_cons,List.sum_cons];omega
   ·have:=ih h;simp only[List.map_cons,List.sum_cons];omega
 have:=this _ hk
 omega
theorem Tm.wU.lx {t k:Tm}(h:t.wU)(hk:k∈t.kids):k.wU:=⟨h.toFin.lx hk,by have:=Tm.HZ hk;have:=h.size;omega⟩
def EC(s:a7)(l:List Tm):Bool:=kB s&&l.all (dP s)
end Go.Proofs.YtonbelhklnmjnaaGreat
