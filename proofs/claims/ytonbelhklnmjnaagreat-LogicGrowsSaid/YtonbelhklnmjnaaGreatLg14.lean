/-
  A PART OF THE PROOF. Conditions: none.
-/
import Derived.Test.YtonbelhklnmjnaaGreatLg13
set_option linter.unusedSimpArgs false
set_option linter.unusedVariables false
namespace Go.Proofs.YtonbelhklnmjnaaGreat
attribute [go_sem_proc] Int.reduceBEq Int.reduceBNe Int.reduceLT Int.reduceLE Int.reduceEq Int.reduceNe Nat.reducePow Nat.reduceEqDiff Nat.reduceAdd Nat.reduceSub Nat.reduceMul Nat.reduceLeDiff Nat.reduceBEq Nat.reduceLT reduceIte reduceCtorEq Int.reduceToNat
attribute [go_sem] List.range_zero Option.isSome_some and_self List.cons.injEq
theorem ve(n low high:Int):a7 Tryz.prog 135 [.i n, .i low, .i high] (.ret [.bool (cZ n low high)]):=by
 refine a7.aA mix ZN aj ?_
 rw[ZM]
 refine bV ?_
 rfl
theorem Cm{t:Tm}{left depth:Int}(h:left<1\/depth<1):ee t left depth= -1:=by cases t;simp[ee,h]
theorem ph{l:List Tm}{left depth:Int}(h:left<0):cf l left depth=left:=by
 cases l with
 |nil=>rfl
 |cons k l=>simp[cf,show ¬ (0<=left) by omega]
theorem Kx:∀t:Tm,∀left depth:Int, -1<=ee t left depth/\(1<=left->ee t left depth<=left - 1)/\(left<1->ee t left depth= -1):=by
 refine Tm.ind fun op n kids ih left depth=> ?_
 have hs:∀ (l:List Tm) (left d:Int),(∀k∈l,k∈kids)-> -1<=left-> -1<=cf l left d/\cf l left d<=left:=by
  intro l
  induction l with
  |nil=>intro left d _ h;simp[cf,h]
  |cons k l oj=>
   intro left d hk h
   simp only[cf]
   split
   ·rename_i h0
    have h1:=ih k (hk k aj) left d
    have h2:=oj (ee k left d) d (fun x hx=>hk x lu) h1.1
    by_cases hl:1<=left
    ·have:=h1.2.1 hl;omega
    ·have:=h1.2.2 ad;omega
   ·omega
 simp only[ee]
 split
 ·rename_i h;refine⟨ad,fun h1=> ?_,fun _=>rfl⟩;omega
 ·rename_i h
  have:=hs kids (left - 1) (depth - 1) (fun _ h=>h) ad
  exact⟨this.1,fun _=>this.2,fun h=>ad⟩
theorem x5(l:List Tm)(left d:Int)(h: -1<=left): -1<=cf l left d/\cf l left d<=left:=by
 induction l generalizing left with
 |nil=>simp[cf,h]
 |cons k l oj=>
  simp only[cf]
  split
  ·have h1:=Kx k left d
   have h2:=oj (ee k left d) h1.1
   by_cases hl:1<=left
   ·have:=h1.2.1 hl;omega
   ·have:=h1.2.2 ad;omega
  ·omega
theorem oG(a b:List Tm)(left d:Int):cf (a++b) left d=cf b (cf a left d) d:=by
 induction a generalizing left with
 |nil=>rfl
 |cons k a ih=>
  simp only[List.cons_append,cf]
  split
  ·exact ih _
  ·rename_i h;rw[ph (by omega)]
theorem sP{l:List Tm}{i:Nat}{k:Tm}(hi:l[i]? =some k)(left d:Int)(h:0<=cf (l.take i) left d):cf (l.take (i+1)) left d=ee k (cf (l.take i) left d) d:=by
 rw[List.take_add_one,hi,oG]
 simp[cf,h]
theorem sQ{l:List Tm}{i:Nat}(left d:Int)(h:cf (l.take i) left d<0):cf l left d=cf (l.take i) left d:=by
 conv=>lhs;rw[<- List.take_append_drop i l]
 rw[oG,ph h]
@[reducible] def fS (cs:List V):Nat->ab:=aL (fun _=> .no) 0 (.row cs)
@[reducible] def pj (cs ds:List V):Nat->ab:=aL (aL (fun _=> .no) 0 (.row cs)) 1 (.row ds)
theorem aY{cs:List V}(h:(ab.row cs).refs.all (fun r=>decide (r<1))=true):Good (fS cs) 1:=(Good.nil (nx:=1)).aL ad h
theorem cH{cs ds:List V}(h:(ab.row cs).refs.all (fun r=>decide (r<2))=true)(h2:(ab.row ds).refs.all (fun r=>decide (r<2))=true):Good (pj cs ds) 2:=((Good.nil (nx:=2)).aL ad h).aL ad h2
theorem bL.d1 {e:Nat->V}{so o:Nat->ab}{m:Nat}(l:List V)(hg:Good o 1)(hm:1<=m)(h0:so 0=o 0)(he:kj 1 e l 0):bL 0 ⟨e,so,m⟩ ⟨bA l,o,1⟩:=
 bL.bP l (Nat.zero_le _) hm hg (fun id h=>by obtain rfl:id=0:=ad
                                             exact h0) he
theorem bL.d2 {e:Nat->V}{so o:Nat->ab}{m:Nat}(l:List V)(hg:Good o 2)(hm:2<=m)(h0:so 0=o 0)(h1:so 1=o 1)(he:kj 2 e l 0):bL 0 ⟨e,so,m⟩ ⟨bA l,o,2⟩:=
 bL.bP l (Nat.zero_le _) hm hg (fun id h=>by
  rcases(by omega:id=0\/id=1)with rfl|rfl
  ·exact h0
  ·exact h1) he
@[reducible] def Tm.row (t:Tm):List V:=[.d (.i t.op), .d (.i t.n), .d (.sl (t.kids.map Tm.d))]
theorem vg(t:Tm)(left depth:Int):ee t left depth=if left<1\/depth<1 then -1 else cf t.kids (left - 1) (depth - 1):=by cases t;simp[ee,Tm.kids]
theorem tT:∀t:Tm,t.fits->∀left depth:Int, -1<=left/\left<=1000000-> -1<=depth/\depth<=1000000->a7 Tryz.prog 63 [t.d, .i left, .i depth] (.ret [.i (ee t left depth)]):=by
 refine Tm.cC fun t ih hf left depth hl hd=> ?_
 have gX:=(Tm.aP _).1 hf
 refine a7.aA mix Zg aj ?_
 rw[c63]
 refine bV ?_
 refine ak (fun h1=> ?_) (fun h1=> ?_)
 ·refine bV ?_
  simp at h1
  rw[Cm h1]
 ·simp at h1
  refine bV ?_
  rw[wrap64 (n:=left - 1) (by omega) (by omega),vg,if_neg (by omega)]
  refine aK (fun k:Nat=>⟨bA [.aa, .d (.i (cf (t.kids.take k) (left - 1) (depth - 1))), .d (.i depth), .ptr 0 0, .aa, .aa, .aa, .d (.i k)],fS t.row,1⟩)
   (fun k=>k<=t.kids.length) (fun k=>t.kids.length - k) 0 (Nat.zero_le _) (bL.d1 _ (aY rfl) ad rfl ?_) (fun k hk=> ?_)
  ·exact cG
  have hb:=x5 (t.kids.take k) (left - 1) (depth - 1) ad
  refine bV ?_
  refine ak (fun h2=> ?_) (fun h2=> ?_)
  ·simp at h2
   obtain⟨x,hx⟩:∃x,t.kids[k]? =some x:=⟨t.kids[k],by simp[h2.1]⟩
   have dc:=List.mem_of_getElem? hx
   refine eY hx ?_
   rw[wrap64 (n:=depth - 1) (by omega) (by omega)]
   refine ah (ih x dc (gX.2 x dc) _ _ ad ad) rfl ?_
   refine bV ?_
   rw[<- sP hx _ _ h2.2]
   refine au (k+1) h2.1 ad (bL.d1 _ (aY rfl) ad rfl ?_)
   exact cG
  ·refine bV ?_
   simp only[Bool.and_eq_false_iff,decide_eq_false_iff_not]at h2
   congr 3
   rcases h2 with h2|h2
   ·rw[List.take_of_length_le (by omega)]
   ·exact sQ _ _ ad
theorem VN(s:List UInt8)(hs:s.length<=9223372036854775807):a7 Tryz.prog 193 [.str s] (.ret [.bool (kp s)]):=by
 refine a7.aA mix Z7 aj ?_
 rw[Z6]
 refine bV ?_
 refine aK (fun k:Nat=>⟨bA [.d (.str s), .aa, .aa, .d (.i k)],fun _=> .no,0⟩)
  (fun k=>k<=s.length/\(s.take k).all letterF=true) (fun k=>s.length - k) 0 ⟨Nat.zero_le _,aj⟩ (bL.d0 _ ?_) (fun k hk=> ?_)
 ·exact cG
 refine bV ?_
 refine ak (fun h2=> ?_) (fun h2=> ?_)
 ·simp at h2
  obtain⟨x,hx⟩:∃x,s[k]? =some x:=⟨s[k],by simp[h2]⟩
  refine eY hx ?_
  refine ak (fun h3=> ?_) (fun h3=> ?_)
  ·refine bV ?_
   have:kp s=false:=by
    have:s.all letterF=false:=by
     rw[List.all_eq_false]
     refine⟨x,List.mem_of_getElem? hx, ?_⟩
     simp only[letterF,h3];simp
    simp[kp,this]
   rw[this]
  ·refine bV ?_
   refine au (k+1) ⟨h2, ?_⟩ ad (bL.d0 _ ?_)
   ·rw[List.take_add_one,hx,List.all_append,hk.2]
    simp[letterF,h3]
   ·exact cG
 ·refine bV ?_
  refine ah (ve _ _ _) rfl ?_
  refine bV ?_
  simp at h2
  have:=hk.2
  rw[List.take_of_length_le (by omega)]at this
  simp[kp,this]
theorem FH(l:List kn)(bs:List (List UInt8))(hl:l.length<=1000)(hb:bs.length<=1000)(hs:∀x∈l,x.name.length<=9223372036854775807):
 a7 Tryz.prog 136 [.sl (l.map kn.d), .sl (bs.map .str)] (.ret [.sl (((cl l bs).getD []).map .str), .bool (cl l bs).isSome]):=by
 refine a7.aA mix ZP aj ?_
 rw[ZO]
 refine bV ?_
 refine aK (fun k:Nat=>⟨bA [.d (.sl (l.map kn.d)), .d (.sl ((bs++(l.take k).map (·.name)).map .str)), .aa, .aa, .aa, .aa, .d (.i k)],fun _=> .no,0⟩)
  (fun k=>k<=l.length/\cl l bs=cl (l.drop k) (bs++(l.take k).map (·.name))) (fun k=>l.length - k) 0 ⟨Nat.zero_le _,aj⟩ (bL.d0 _ ?_) (fun k hk=> ?_)
 ·simp only[List.take_zero,List.map_nil,List.append_nil]
  exact cG
 refine bV ?_
 refine ak (fun h2=> ?_) (fun h2=> ?_)
 ·simp at h2
  obtain⟨x,hx⟩:∃x,l[k]? =some x:=⟨l[k],by simp[h2]⟩
  have dc:=List.mem_of_getElem? hx
  have BP:l.drop k=x::l.drop (k+1):=by
   rw[List.drop_eq_getElem_cons h2]
   rw[List.getElem?_eq_getElem h2]at hx;injection hx with hx;rw[hx]
  generalize hB:bs++(l.take k).map (·.name)=B at*
  have hBl:B.length<=2000:=by rw[<- hB];simp;omega
  refine bV ?_
  refine aK (fun j:Nat=>⟨bA [.d (.sl (l.map kn.d)), .d (.sl (B.map .str)), .aa, .aa, .aa, .aa, .d (.i k), .d (.i j)],fun _=> .no,0⟩)
   (fun j=>j<=B.length/\(B.take j).any (· ==x.name)=false) (fun j=>B.length - j) 0 ⟨Nat.zero_le _,aj⟩ (bL.d0 _ ?_) (fun j hj=> ?_)
  ·exact cG
  refine bV ?_
  refine ak (fun h3=> ?_) (fun h3=> ?_)
  ·simp at h3
   obtain⟨y,hy⟩:∃y,B[j]? =some y:=⟨B[j],by simp[h3]⟩
   refine yJ hx hy ?_
   refine ao aV ?_
   refine bV ?_
   refine ak (fun h4=> ?_) (fun h4=> ?_)
   ·refine bV ?_
    have:cl l bs=none:=by
     rw[hk.2,BP,cl,if_pos]
     rw[List.any_eq_true]
     exact⟨y,List.mem_of_getElem? hy,h4⟩
    rw[this];rfl
   ·refine bV ?_
    refine au (j+1) ⟨h3, ?_⟩ ad (bL.d0 _ ?_)
    ·rw[List.take_add_one,hy,List.any_append,hj.2]
     simp only[Option.toList_some,List.any_cons,h4,List.any_nil,Bool.or_false]
    ·exact cG
  ·simp at h3
   have VO:=hj.2
   rw[List.take_of_length_le (by omega)]at VO
   refine eY hx ?_
   refine ah (VN x.name (hs x dc)) rfl ?_
   refine eY hx ?_
   refine gE (fi [.bool (cZ x.args 0 4)] ?_ ?_)
   ·refine bV ?_
    exact fun _=>ve _ _ _
   refine bV ?_
   refine ak (fun h4=> ?_) (fun h4=> ?_)
   ·refine bV ?_
    have:cl l bs=none:=by
     rw[hk.2,BP,cl,if_neg (by rw[VO];exact Bool.false_ne_true),if_pos h4]
    rw[this];rfl
   ·have e1:B.length<=140737488355328:=ad
    have e2:B.length*16<=140737488355328:=ad
    have e3:B.length<=140737488355327:=ad
    have e4:(B.length+1)*16<=140737488355328:=ad
    simp+contextual only[go_sem,hx,e1,e2,e3,e4]
    refine ao aV ?_
    refine bV ?_
    have hn:cl l bs=cl (l.drop (k+1)) (bs++(l.take (k+1)).map (·.name)):=by
     rw[hk.2,BP,cl,if_neg (by rw[VO];exact Bool.false_ne_true),if_neg (by rw[h4];exact Bool.false_ne_true), <- hB,List.take_add_one,hx]
     simp
    refine au (k+1) ⟨h2,hn⟩ ad (bL.aaq (fun _=>True) 0 _ (Nat.le_refl _) lt0 (fun _ _=>rfl) (fun _ _ _=>rfl) ?_)
    have hB2:(bs++(l.take (k+1)).map (·.name)).map D.str=B.map D.str++[D.str x.name]:=by
     rw[<- hB,List.take_add_one,hx];simp
    rw[hB2]
    exact ra
 ·refine bV ?_
  simp at h2
  have:cl l bs=some (bs++l.map (·.name)):=by
   rw[hk.2,List.drop_eq_nil_of_le (by omega),cl,List.take_of_length_le (by omega)]
  rw[this,List.take_of_length_le (by omega)]
  rfl
theorem VP(a b:List UInt8)(m n:Int):qV Tryz.prog 100 104 (.agg [.str a, .i m]) (.agg [.str b, .i n])=some (a==b&&m==n):=by
 have h1:cj Tryz.prog 104=some (.struct [(9,0),(3,1)]):=af
 have h2:cj Tryz.prog 9=some .str:=af
 have h3:cj Tryz.prog 3=some .int:=af
 have h4:dx Tryz.prog 9=some false:=af
 have h5:dx Tryz.prog 3=some false:=af
 simp[qV,h1,h2,h3,h4,h5,A1,SS,jZ,I6]
@[go_sem] theorem acD (o:Nat->ab) (oP:Bool) (a b:List UInt8) (m n:Int):pP Tryz.prog o 104 oP (.d (.agg [.str a, .i m])) (.d (.agg [.str b, .i n]))=some (.d (.bool (a==b&&m==n))):=by
  obtain⟨fs,h⟩:∃fs,Tryz.prog.underlying 104=some (.struct fs):=structOf af
  have h2:Tryz.prog.eqGuardType Tryz.prog.depth 104=false:=af
  unfold pP
  rw[h]
  dsimp only
  rw[if_pos h2,VP]
  rfl
theorem Hw{l:List kn}{bs B:List (List UInt8)}(h:cl l bs=some B):B=bs++l.map (·.name):=by
 induction l generalizing bs with
 |nil=>simp[cl]at h;simp[h]
 |cons x l ih=>
  simp only[cl]at h
  split at h
  ·cases h
  ·split at h
   ·cases h
   ·rw[ih h];simp
structure aX.Fits (s:aX):Prop where
 lc:s.cons.length<=9223372036854775807
 lf:s.bU.length<=9223372036854775807
 nc:∀x∈s.cons,x.name.length<=9223372036854775807
 nf:∀x∈s.bU,x.name.length<=9223372036854775807
theorem aat(s:aX)(hs:s.Fits):a7 Tryz.prog 100 [s.d] (.ret [.bool (iV s)]):=by
 refine a7.aA mix Zx aj ?_
 rw[Zw]
 refine bV ?_
 refine ah (ve _ _ _) rfl ?_
 refine bV ?_
 cases h1:(!cZ s.cons.length 2 12||decide (8<(s.bU.length:Int)))with
 |true=>
  refine eY h1 ?_
  simp only[iV,h1,if_true]
 |false=>
  simp[cZ]at h1
  obtain⟨a,b,r,hc⟩:∃a b r,s.cons=a::b::r:=by
   match h:s.cons with
   |[]=>exact MP
   |[a]=>exact MP
   |a::b::r=>exact⟨a,b,r,rfl⟩
  have cm:(!cZ s.cons.length 2 12||decide (8<(s.bU.length:Int)))=false:=by simp[cZ];omega
  refine yJ cm hc ?_
  have Hx:iV s=if(!mI a fB|| !mI b tB)=true then false else match cl s.cons []with
   |none=>false
   |some l=>(cl s.bU l).isSome:=by
   unfold iV
   rw[if_neg (by rw[cm];exact Bool.false_ne_true),hc]
   dsimp only
   rfl
  refine ak (fun h2=> ?_) (fun h2=> ?_)
  ·refine bV ?_
   have j8:(!mI a fB|| !mI b tB)=true:=h2
   rw[Hx,if_pos j8]
  ·refine eY hc ?_
   have hl:(a::b::r).length<=1000:=by rw[<- hc];omega
   have hnm:=FH (a::b::r) [] hl aj (by rw[<- hc];exact hs.nc)
   simp only[List.map_cons,List.map_nil]at hnm
   refine bf hnm ?_
   have j8:(!mI a fB|| !mI b tB)=false:=h2
   rw[Hx,if_neg (by rw[j8];exact Bool.false_ne_true),hc]
   cases hn:cl (a::b::r) []with
   |none=>simp+contextual only[go_sem,hn]
   |some B=>
    refine eY hn ?_
    have hB:B.length<=1000:=by
     have:=Hw hn
     rw[this];simp at hl|-;omega
    have acE:=FH s.bU B ad hB hs.nf
    refine bf acE ?_
    exact SK
theorem iH{l:List kn}{n:Int}{x:kn}(h:l[n.toNat]? =some x):dJ l n=x.args:=by simp[dJ,h]
theorem gy{l:List kn}{n:Int}(h:cZ n 0 (l.length - 1)=true):0<=n/\∃x,l[n.toNat]? =some x:=by
 simp[cZ]at h
 exact⟨h.1,l[n.toNat]'ad,aj⟩
theorem VQ(s:aX)(t:Tm)(hs:s.Fits)(ht:t.kids.length<=9223372036854775807):a7 Tryz.prog 142 [s.d,t.d] (.ret [.bool (bw s t)]):=by
 refine a7.aA mix Z1 aj ?_
 rw[Z0]
 refine bV ?_
 rcases(by omega:t.op=1\/t.op=2\/t.op=3\/t.op=4\/t.op=5\/t.op=8\/(t.op=6\/t.op=7\/t.op=9\/t.op=10\/t.op=11\/t.op=12\/t.op=13\/t.op=14\/t.op=15)\/(t.op<1\/15<t.op))with h|h|h|h|h|h|h|h
 ·have hn:bw s t=((t.kids.length:Int)==0&&cZ t.n 0 19):=by simp[bw,h]
  refine eY h ?_
  refine gE (fi [.bool (cZ t.n 0 19)] ?_ ?_)
  ·refine bV ?_
   exact fun _=>ve _ _ _
  refine eY h ?_
  rw[hn]
 ·have hn:bw s t=((t.kids.length:Int)==0&&cZ t.n (-1000000) 1000000):=by simp[bw,h]
  refine eY h ?_
  refine gE (fi [.bool (cZ t.n (-1000000) 1000000)] ?_ ?_)
  ·refine bV ?_
   exact fun _=>ve _ _ _
  refine eY h ?_
  rw[hn]
 ·have hn:bw s t=(cZ t.n 0 (s.cons.length - 1)&&(t.kids.length:Int)==dJ s.cons t.n):=by simp[bw,h]
  refine eY h ?_
  rw[wrap64 (by have:=hs.lc;omega) (by have:=hs.lc;omega)]
  refine ah (ve _ _ _) rfl ?_
  cases hI:cZ t.n 0 (s.cons.length - 1)with
  |false=>
   refine yJ h hI ?_
   rw[hn,hI];rfl
  |true=>
   obtain⟨h0,x,hx⟩:=gy hI
   simp+contextual only[go_sem,h,hI,hx,h0]
   exact wv
 ·have hn:bw s t=(cZ t.n 0 (s.bU.length - 1)&&(t.kids.length:Int)==dJ s.bU t.n):=by simp[bw,h]
  refine eY h ?_
  rw[wrap64 (by have:=hs.lf;omega) (by have:=hs.lf;omega)]
  refine ah (ve _ _ _) rfl ?_
  cases hI:cZ t.n 0 (s.bU.length - 1)with
  |false=>
   refine yJ h hI ?_
   rw[hn,hI];rfl
  |true=>
   obtain⟨h0,x,hx⟩:=gy hI
   simp+contextual only[go_sem,h,hI,hx,h0]
   exact wv
 ·have hn:bw s t=(cZ t.n 0 (s.bU.length - 1)&&decide ((t.kids.length:Int)<dJ s.bU t.n)):=by simp[bw,h]
  refine eY h ?_
  rw[wrap64 (by have:=hs.lf;omega) (by have:=hs.lf;omega)]
  refine ah (ve _ _ _) rfl ?_
  cases hI:cZ t.n 0 (s.bU.length - 1)with
  |false=>
   refine yJ h hI ?_
   rw[hn,hI];rfl
  |true=>
   obtain⟨h0,x,hx⟩:=gy hI
   simp+contextual only[go_sem,h,hI,hx,h0]
   exact wv
 ·have hn:bw s t=((t.kids.length:Int)==2&&cZ t.n 0 19):=by simp[bw,h]
  refine eY h ?_
  refine gE (fi [.bool (cZ t.n 0 19)] ?_ ?_)
  ·refine bV ?_
   exact fun _=>ve _ _ _
  refine eY h ?_
  rw[hn]
 ·have hn:bw s t=((t.kids.length:Int)==2&&t.n==0):=by
   rcases h with h|h|h|h|h|h|h|h|h<;>simp[bw,h,cZ]
  rw[hn]
  rcases h with h|h|h|h|h|h|h|h|h<;>simp+contextual only[go_sem,h]
 ·have hn:bw s t=false:=by
   simp[bw,cZ,show ¬ (t.op=1) by omega,show ¬ (t.op=2) by omega,show ¬ (t.op=3) by omega,show ¬ (t.op=4) by omega,show ¬ (t.op=5) by omega,show ¬ (t.op=8) by omega,show ¬ (6<=t.op/\t.op<=15) by omega]
  have e:∀k:Int,1<=k->k<=15->(t.op==k)=false:=fun k h1 h2=>by simp;omega
  simp+contextual only[go_sem,e 1 (by omega) (by omega),e 2 (by omega) (by omega),e 3 (by omega) (by omega),e 4 (by omega) (by omega),e 5 (by omega) (by omega),e 6 (by omega) (by omega),e 7 (by omega) (by omega),e 8 (by omega) (by omega),e 9 (by omega) (by omega),e 10 (by omega) (by omega),e 11 (by omega) (by omega),e 12 (by omega) (by omega),e 13 (by omega) (by omega),e 14 (by omega) (by omega),e 15 (by omega) (by omega)]
  rw[hn]
theorem dC(s:aX)(t:Tm):ez s t=(bw s t&&t.kids.all (ez s)):=by
 have:∀l:List Tm,tP s l=l.all (ez s):=fun l=>by
  induction l with
  |nil=>rfl
  |cons k l ih=>simp[tP,ih]
 cases t;simp[ez,this,Tm.kids]
theorem bZ{α:Type}{l:List α}{p:α->Bool}{k:Nat}{x:α}(hx:l[k]? =some x)(h:p x=false):l.all p=false:=by
 rw[List.all_eq_false];exact⟨x,List.mem_of_getElem? hx,by rw[h];exact Bool.false_ne_true⟩
theorem cD{α:Type}{l:List α}{p:α->Bool}{k:Nat}{x:α}(hx:l[k]? =some x)(h0:(l.take k).all p=true)(h:p x=true):(l.take (k+1)).all p=true:=by
 rw[List.take_add_one,hx,List.all_append,h0];simp[h]
theorem cE{α:Type}{l:List α}{p:α->Bool}{k:Nat}(h0:(l.take k).all p=true)(h:l.length<=k):l.all p=true:=by
 rwa [List.take_of_length_le h]at h0
theorem aw{α:Type}{l:List α}{k:Nat}(h:k<l.length):∃x,l[k]? =some x:=⟨l[k],by simp[h]⟩
@[reducible] def aX.row (s:aX):List V:=[.d (.sl (s.cons.map kn.d)), .d (.sl (s.bU.map kn.d))]
theorem N4(s:aX)(hs:s.Fits):∀t:Tm,t.fits->a7 Tryz.prog 102 [s.d,t.d] (.ret [.bool (ez s t)]):=by
 refine Tm.cC fun t ih hf=> ?_
 have gX:=(Tm.aP _).1 hf
 refine a7.aA mix ZB aj ?_
 rw[ZA]
 refine bV ?_
 refine ah (VQ s t hs gX.1) rfl ?_
 refine bV ?_
 rw[dC]
 refine ak (fun h1=> ?_) (fun h1=> ?_)
 ·refine bV ?_
  simp at h1;simp[h1]
 ·simp at h1
  rw[h1,Bool.true_and]
  refine bV ?_
  refine aK (fun k:Nat=>⟨bA [.aa, .aa, .ptr 0 0, .ptr 1 0, .aa, .d (.i k)],pj s.row t.row,2⟩)
   (fun k=>k<=t.kids.length/\(t.kids.take k).all (ez s)=true) (fun k=>t.kids.length - k) 0 ⟨Nat.zero_le _,aj⟩ (bL.d2 _ (cH rfl rfl) ad rfl rfl ?_) (fun k hk=> ?_)
  ·exact cG
  refine bV ?_
  refine ak (fun h2=> ?_) (fun h2=> ?_)
  ·simp at h2
   obtain⟨x,hx⟩:=aw h2
   have dc:=List.mem_of_getElem? hx
   refine eY hx ?_
   refine aq (ih x dc (gX.2 x dc)) rfl ?_
   refine bV ?_
   refine ao aV ?_
   refine bV ?_
   refine ak (fun h3=> ?_) (fun h3=> ?_)
   ·refine bV ?_
    simp at h3
    rw[bZ hx h3]
   ·refine bV ?_
    simp at h3
    refine au (k+1) ⟨h2,cD hx hk.2 h3⟩ ad (bL.d2 _ (cH rfl rfl) ad rfl rfl ?_)
    exact cG
  ·refine bV ?_
   simp at h2
   rw[cE hk.2 h2]
theorem Eh(s:aX)(hs:s.Fits)(t:Tm)(hf:t.fits):a7 Tryz.prog 60 [s.d,t.d] (.ret [.bool (dL s t)]):=by
 refine a7.aA mix acj aj ?_
 rw[c60]
 refine bV ?_
 refine ah (tT t hf 40 12 ad ad) rfl ?_
 refine bV ?_
 refine gE (fi [.bool (ez s t)] ?_ ?_)
 ·refine bV ?_
  exact fun _=>N4 s hs t hf
 refine bV ?_
 rfl
theorem iX:∀l l':List Tm,l.length=l'.length->(gG l l'=true↔∀ (i:Nat) (x y:Tm),l[i]? =some x->l'[i]? =some y->aZ x y=true)
 |[],l',_=>by simp[gG]
 |k::l,k'::l',h=>by
  simp only[gG,Bool.and_eq_true]
  rw[iX l l' (by simpa using h)]
  constructor
  ·rintro⟨h1,h2⟩ i x y hx hy
   cases i with
   |zero=>simp at hx hy;subst hx;subst hy;exact h1
   |succ i=>exact h2 i x y Gx I0
  ·intro h3
   exact⟨h3 0 k k' rfl rfl,fun i x y hx hy=>h3 (i+1) x y Gx I0⟩
 |_::_,[],h=>by simp at h
theorem nE(a b:Tm):aZ a b=(a.op==b.op&&a.n==b.n&&a.kids.length==b.kids.length&&gG a.kids b.kids):=by cases a;cases b;simp[aZ,Tm.op,Tm.n,Tm.kids]
theorem VR:∀a:Tm,a.fits->∀b:Tm,b.fits->a7 Tryz.prog 21 [a.d,b.d] (.ret [.bool (aZ a b)]):=by
 refine Tm.cC fun t ih hf b hb=> ?_
 have gX:=(Tm.aP _).1 hf
 have EV:=(Tm.aP _).1 hb
 refine a7.aA mix Y9 aj ?_
 rw[c21,nE]
 refine bV ?_
 refine ak (fun h1=> ?_) (fun h1=> ?_)
 ·refine bV ?_
  have:(t.op==b.op&&t.n==b.n&&t.kids.length==b.kids.length)=false:=by
   rw[Bool.eq_false_iff]
   intro h
   simp at h
   simp[h]at h1
  rw[this];rfl
 ·have cm:t.op=b.op/\t.n=b.n/\t.kids.length=b.kids.length:=by
   simp at h1
   refine⟨h1.1.1,h1.1.2,by have:=h1.2;omega⟩
  rw[show(t.op==b.op&&t.n==b.n&&t.kids.length==b.kids.length)=true by simp[cm],Bool.true_and]
  have hl:=cm.2.2
  refine bV ?_
  refine aK (fun k:Nat=>⟨bA [.aa, .aa, .ptr 0 0, .ptr 1 0, .aa, .d (.i k)],pj t.row b.row,2⟩)
   (fun k=>k<=t.kids.length/\∀i,i<k->∀x y,t.kids[i]? =some x->b.kids[i]? =some y->aZ x y=true) (fun k=>t.kids.length - k) 0 ⟨Nat.zero_le _,fun i h=>ad⟩ (bL.d2 _ (cH rfl rfl) ad rfl rfl ?_) (fun k hk=> ?_)
  ·exact cG
  refine bV ?_
  refine ak (fun h2=> ?_) (fun h2=> ?_)
  ·simp at h2
   obtain⟨x,hx⟩:=aw h2
   obtain⟨y,hy⟩:=aw (l:=b.kids) (k:=k) ad
   have dc:=List.mem_of_getElem? hx
   have wL:=List.mem_of_getElem? hy
   refine yJ hx hy ?_
   refine aq (ih x dc (gX.2 x dc) y (EV.2 y wL)) rfl ?_
   refine bV ?_
   refine ao aV ?_
   refine bV ?_
   refine ak (fun h3=> ?_) (fun h3=> ?_)
   ·refine bV ?_
    simp at h3
    have:gG t.kids b.kids=false:=by
     rw[Bool.eq_false_iff]
     intro h
     have:=(iX _ _ hl).1 h k x y hx hy
     rw[h3]at this;cases this
    rw[this]
   ·refine bV ?_
    simp at h3
    refine au (k+1) ⟨h2,fun i hi u v hu hv=> ?_⟩ ad (bL.d2 _ (cH rfl rfl) ad rfl rfl ?_)
    ·by_cases e:i=k
     ·subst e
      rw[hx]at hu;rw[hy]at hv
      injection hu with hu;injection hv with hv;subst hu;subst hv;exact h3
     ·exact hk.2 i ad u v hu hv
    ·exact cG
  ·refine bV ?_
   simp at h2
   have:gG t.kids b.kids=true:=(iX _ _ hl).2 fun i x y hx hy=>hk.2 i Sr x y hx hy
   rw[this]
theorem zZ(t:Tm)(hf:t.fits):a7 Tryz.prog 40 [t.d] (.ret [.bool (ir t)]):=by
 refine a7.aA mix ab4 aj ?_
 rw[c40]
 refine bV ?_
 refine ah (tT t hf 50 14 ad ad) rfl ?_
 refine bV ?_
 rfl
theorem Ei(s:aX)(hs:s.Fits):a7 Tryz.prog 121 [s.d] (.ret [.bool (iW s)]):=by
 refine a7.aA mix ZJ aj ?_
 rw[ZI]
 refine bV ?_
 refine ak (fun h1=> ?_) (fun h1=> ?_)
 ·refine bV ?_
  simp only[iW,h1];rfl
 ·have e:iW s=(gx s.cons&&gx s.bU):=by simp only[iW,h1];rfl
  rw[e]
  simp at h1
  refine bV ?_
  refine aK (fun k:Nat=>⟨bA [.aa, .ptr 0 0, .aa, .d (.i k)],fS s.row,1⟩)
   (fun k=>k<=s.cons.length/\gx (s.cons.take k)=true) (fun k=>s.cons.length - k) 0 ⟨Nat.zero_le _,by simp[gx]⟩ (bL.d1 _ (aY rfl) ad rfl ?_) (fun k hk=> ?_)
  ·exact cG
  refine bV ?_
  refine ak (fun h2=> ?_) (fun h2=> ?_)
  ·simp at h2
   obtain⟨x,hx⟩:=aw h2
   refine eY hx ?_
   refine ak (fun h3=> ?_) (fun h3=> ?_)
   ·refine bV ?_
    rw[show gx s.cons=false from bZ hx (by simpa using h3)];rfl
   ·refine bV ?_
    refine au (k+1) ⟨h2,cD hx hk.2 (by simpa using h3)⟩ ad (bL.d1 _ (aY rfl) ad rfl ?_)
    exact cG
  ·simp at h2
   rw[show gx s.cons=true from cE hk.2 h2,Bool.true_and]
   refine bV ?_
   refine aK (fun k:Nat=>⟨bA [.aa, .ptr 0 0, .aa, .aa, .d (.i k)],fS s.row,1⟩)
    (fun k=>k<=s.bU.length/\gx (s.bU.take k)=true) (fun k=>s.bU.length - k) 0 ⟨Nat.zero_le _,by simp[gx]⟩ (bL.d1 _ (aY rfl) ad rfl ?_) (fun k hk=> ?_)
   ·exact cG
   refine bV ?_
   refine ak (fun h4=> ?_) (fun h4=> ?_)
   ·simp at h4
    obtain⟨x,hx⟩:=aw h4
    refine eY hx ?_
    refine ak (fun h3=> ?_) (fun h3=> ?_)
    ·refine bV ?_
     rw[show gx s.bU=false from bZ hx (by simpa using h3)]
    ·refine bV ?_
     refine au (k+1) ⟨h4,cD hx hk.2 (by simpa using h3)⟩ ad (bL.d1 _ (aY rfl) ad rfl ?_)
     exact cG
   ·simp at h4
    rw[show gx s.bU=true from cE hk.2 h4]
    exact SK
end Go.Proofs.YtonbelhklnmjnaaGreat
namespace Go.Proofs.YtonbelhklnmjnaaGreat
theorem Cn{σ:Type}(l:List Tm)(hl:l.length<=9223372036854775807)(g:Nat)(aG:List V)(base:Nat)(H:σ->Nat->ab)(step:σ->Tm->σ×Bool)(hc:∀r∈V.aN aG,r<base)(ok:σ->Prop)(bn:∀x∈l,∀s,ok s->(step s x).2=true->ok (step s x).1)
 (h:∀x∈l,∀s,ok s->fC Tryz.prog g (.d x.d::aG) base (H s) (H (step s x).1) (.d (.bool (step s x).2))) (s:σ) (gu:ok s):
 fC Tryz.prog 161 [.d (.sl (l.map Tm.d)), .func (.func g) [] aG] base (H s) (H (az step s l).1) (.d (.bool (az step s l).2)):=by
 intro o nx hI K X hK
 have fw:∀r∈V.aN aG,r<nx:=fun r hr=>Nat.lt_of_lt_of_le (hc r hr) hI.le
 refine cK.aA mix QN aj ?_
 rw[UI]
 refine bV ?_
 refine aK (fun i:Nat×σ×(Nat->ab)×Nat=>⟨bA [.aa, .func (.func g) [] aG, .aa, .aa, .aa, .aa, .aa, .d (.sl (l.map Tm.d)), .d (.i l.length), .d (.i i.1)],i.2.2.1,i.2.2.2⟩)
  (fun i=>i.1<=l.length/\cT base (H i.2.1) i.2.2.1 i.2.2.2/\nx<=i.2.2.2/\(∀id,base<=id->id<nx->i.2.2.1 id=o id)/\az step s l=az step i.2.1 (l.drop i.1)/\ok i.2.1) (fun i=>l.length - i.1) (0,s,o,nx)
  ⟨Nat.zero_le _,hI,Nat.le_refl _,fun _ _ _=>rfl,rfl,gu⟩ ?_ ?_
 ·dsimp only
  refine bL.bP _ (Nat.le_refl _) ad hI.bN (fun _ _=>rfl) ?_
  exact cG
 rintro⟨k,s',o',nx'⟩ ⟨hk,om,hn,db,hf,jM⟩
 simp only at hk om hn db hf jM
 refine bV ?_
 refine ak (fun h1=> ?_) (fun h1=> ?_)
 ·simp at h1
  obtain⟨x,hx⟩:=aw h1
  have dc:=List.mem_of_getElem? hx
  have hd:l.drop k=x::l.drop (k+1):=by
   rw[List.drop_eq_getElem_cons h1]
   rw[List.getElem?_eq_getElem h1]at hx;injection hx with hx;rw[hx]
  refine Gj hx ?_
  have hl0:=om.le
  refine cW (h x dc s' jM _ _ (?_:cT base (H s') _ (nx'+7)) _ _ fun o2 n2 m1 m2 m3=> ?_)
  ·exact(om.aL (i:=nx'+3) (m:=nx'+7) ad ad ad rfl).aL ad ad ad rfl
  have Ky:∀id,base<=id->id<nx->o2 id=o id:=fun id h2 h3=>by
   rw[m3 id h2 (by omega),ai _ _ _ _ (by omega),ai _ _ _ _ (by omega),db id h2 h3]
  refine bV ?_
  refine ak (fun h2=> ?_) (fun h2=> ?_)
  ·refine bV ?_
   simp at h2
   have:az step s l=((step s' x).1,false):=by rw[hf,hd,az,if_neg (by rw[h2];exact Bool.false_ne_true)]
   rw[this]at hK
   exact hK _ _ ad (m2.mono ad) Ky
  ·refine bV ?_
   simp at h2
   have:az step s l=az step (step s' x).1 (l.drop (k+1)):=by rw[hf,hd,az,if_pos h2]
   refine au (k+1,(step s' x).1,o2,n2) ⟨h1,m2,by dsimp only;omega,Ky,this,bn x dc s' jM h2⟩ mG ?_
   dsimp only
   have Co:∀r∈V.aN aG,r<n2:=fun r hr=>by have:=fw r hr;omega
   refine bL.bP _ ad ad m2.bN (fun _ _=>rfl) ?_
   exact cG
 ·refine bV ?_
  simp at h1
  rw[List.drop_eq_nil_of_le h1]at hf
  simp only[az]at hf
  rw[hf]at hK
  exact hK _ _ ad (om.mono ad) db
theorem z6{α σ:Type}(step:σ->α->σ×Bool)(a b:List α):∀s,az step s (a++b)=if(az step s a).2=true then az step (az step s a).1 b else((az step s a).1,false):=by
 induction a with
 |nil=>intro s;simp[az]
 |cons x a ih=>
  intro s
  simp only[List.cons_append,az]
  split
  ·exact ih _
  ·rename_i h;simp
theorem pk{α β σ:Type}(step:σ->β->σ×Bool)(f:α->List β)(l:List α):∀s,az step s (l.flatMap f)=az (fun s x=>az step s (f x)) s l:=by
 induction l with
 |nil=>intro s;rfl
 |cons x l ih=>intro s;simp only[List.flatMap_cons,z6,az,ih]
theorem vh{α σ:Type}{step:σ->α->σ×Bool}{ok:σ->Prop}:∀ (l:List α),(∀x∈l,∀s,ok s->(step s x).2=true->ok (step s x).1)->∀s,ok s->(az step s l).2=true->ok (az step s l).1
 |[],_,s,h,_=>h
 |x::l,bn,s,h,h2=>by
  simp only[az]at h2|-
  split at h2
  ·rename_i hb
   rw[if_pos hb]
   exact vh l (fun y hy=>bn y AU) _ (bn x aj s h hb) h2
  ·cases h2
def Xn(P:Program)(nW:Nat)(args:List V)(base:Nat)(h h2:Nat->ab)(v:V):Prop:=
 ∀o nx,cT base h o nx->∀K X,StK base h2 v o nx K->dU P nW args o nx K X
section
variable {σ:Type}(base nW:Nat)(H:σ->Nat->ab)(step:σ->Tm×Int->σ×Bool)(ok:σ->Prop)
theorem N5:∀t:Tm,t.fits->∀d:Int,0<=d->d+t.iU<=1000000->(∀x∈pre t d,∀s,ok s->(step s x).2=true->ok (step s x).1)->(∀x∈pre t d,∀s,ok s->Xn Tryz.prog nW [.d x.1.d, .d (.i x.2)] base (H s) (H (step s x).1) (.d (.bool (step s x).2)))->nW<base->
 ∀ (c:Nat) (o0:Nat->ab) (yb vb:Nat),base<=c->base<=yb->yb<c->base<=vb->vb<c->o0 yb= .row [.jO nW]->o0 vb= .row [.func (.func 246) [] [.ptr yb 0, .ptr vb 0]]->
 ∀s,ok s->fC Tryz.prog 246 [.d t.d, .d (.i d), .ptr yb 0, .ptr vb 0] c (ext base (H s) o0) (ext base (H (az step s (pre t d)).1) o0) (.d (.bool (az step s (pre t d)).2)):=by
 refine Tm.cC fun t ih hf d hd0 hd bn hR vi c o0 yb vb Pc RV hy RW hv oy ov s gu=> ?_
 have gX:=(Tm.aP _).1 hf
 intro o nx hI K X hK
 have hle:=hI.le
 have RX:o yb= .row [.jO nW]:=by rw[hI.eq yb hy];unfold ext;rw[if_neg (by omega),oy]
 have RY:o vb= .row [.func (.func 246) [] [.ptr yb 0, .ptr vb 0]]:=by rw[hI.eq vb hv];unfold ext;rw[if_neg (by omega),ov]
 have y1:yb≠nx:=ad
 have y2:∀k,yb≠nx+k:=fun k=>ad
 have y3:vb≠nx:=ad
 have y4:∀k,vb≠nx+k:=fun k=>ad
 refine cK.aA mix RK aj ?_
 rw[VE]
 simp+contextual only[go_sem,RX,RY,y1,y2,y3,y4,Nat.add_assoc,Nat.left_eq_add,Nat.add_eq_left,Nat.add_left_cancel_iff]
 have s8:=jA t d
 have lH:∀k∈t.kids,∀x∈pre k (d+1),x∈pre t d:=fun k hk x hx=>by
  exact Sl
 have hb:∀id,id<base->o id=H s id:=fun id aB=>by rw[hI.eq id (by omega)];unfold ext;rw[if_pos aB]
 have hIb:cT base (H s) o nx:=⟨hI.bN,ad,hb⟩
 refine nB (hR (t,d) Gv s gu _ _ ((hIb.aL (i:=nx) (m:=nx+6) ad ad ad rfl).aL (i:=nx+1) ad ad ad rfl) _ _ fun o2 n2 m1 m2 m3=> ?_)
 have k0:o2 nx= .row t.row:=by rw[m3 nx (by omega) (by omega),ai _ _ _ _ (by omega),ae]
 have k1:o2 (nx+1)= .row [.d (.i d)]:=by rw[m3 (nx+1) (by omega) (by omega),ae]
 have hold:∀id,base<=id->id<nx->o2 id=o id:=fun id h1 h2=>by rw[m3 id h1 (by omega),ai _ _ _ _ (by omega),ai _ _ _ _ (by omega)]
 have Gp:∀id,base<=id->id<c->o id=o0 id:=fun id h1 h2=>by rw[hI.eq id h2];unfold ext;rw[if_neg (by omega)]
 cases Cp:(step s (t,d)).2 with
 |false=>
  refine eY Cp ?_
  have AL:az step s (pre t d)=((step s (t,d)).1,false):=by rw[s8,az,if_neg (by rw[Cp];exact Bool.false_ne_true)]
  rw[AL]at hK
  refine hK _ _ ad ⟨m2.bN.mono ad,ad,fun id aB=> ?_⟩ (fun id h1 h2=>hold id ad h2)
  unfold ext
  split
  ·exact m2.eq id I1
  ·exact Gn
 |true=>
  have AL:az step s (pre t d)=az (fun s k=>az step s (pre k (d+1))) (step s (t,d)).1 t.kids:=by rw[s8,az,if_pos Cp,pk]
  simp+contextual only[go_sem,Cp,k0,k1]
  have q0:o2 yb= .row [.jO nW]:=by rw[hold yb RV (by omega),RX]
  have q1:o2 vb= .row [.func (.func 246) [] [.ptr yb 0, .ptr vb 0]]:=by rw[hold vb RW (by omega),RY]
  have m0:=m2.le
  refine bc (Cn t.kids gX.1 247 [.ptr vb 0, .ptr (nx+1) 0] n2 (fun s=>ext base (H s) o2) (fun s k=>az step s (pre k (d+1))) ?_ ok ?_ ?_ (step s (t,d)).1 (bn (t,d) Gv s gu Cp) _ _ ?_ _ _ ?_)
  ·exact MM
  ·exact fun k hk s' h1 h2=>vh _ (fun x hx=>bn x (lH k hk x hx)) s' h1 h2
  ·intro k hk s' iE o3 n3 N6 K3 X3 hK3
   have l3:=N6.le
   have r0:o3 vb= .row [.func (.func 246) [] [.ptr yb 0, .ptr vb 0]]:=by rw[N6.eq vb (by omega)];unfold ext;rw[if_neg (by omega),q1]
   have r1:o3 (nx+1)= .row [.d (.i d)]:=by rw[N6.eq (nx+1) (by omega)];unfold ext;rw[if_neg (by omega),k1]
   have y5:vb≠n3:=ad
   have y6:∀k,vb≠n3+k:=fun k=>ad
   have y7:nx+1≠n3:=ad
   have y8:∀k,nx+1≠n3+k:=fun k=>ad
   have hh:=Tm.qq hk
   refine cK.aA mix RL aj ?_
   rw[VF]
   simp+contextual only[go_sem,r0,r1,y5,y6,y7,y8]
   rw[wrap64 (n:=d+1) (by omega) (by omega)]
   refine bc (ih k hk (gX.2 k hk) (d+1) ad ad (fun x hx=>bn x (lH k hk x hx)) (fun x hx=>hR x (lH k hk x hx)) vi n2 o2 yb vb ad RV ad RW ad q0 q1 s' iE _ _ (N6.aL (i:=n3) (m:=n3+6) ad ad ad rfl) _ _ fun o4 n4 p1 p2 p3=> ?_)
   refine bV ?_
   refine hK3 _ _ ad (p2.mono ad) (fun id h1 h2=> ?_)
   rw[p3 id h1 (by omega),ai _ _ _ _ (by omega)]
  ·exact(m2.mono ad).ext ad ad
  ·intro o5 n5 p1 p2 p3
   refine bV ?_
   rw[<- AL]
   refine hK _ _ ad ⟨p2.bN.mono ad,ad,fun id aB=> ?_⟩ (fun id h1 h2=> ?_)
   ·rw[p2.eq id (by omega), <- AL]
    unfold ext
    split
    ·rfl
    ·exact Gn
   ·rw[p2.eq id (by omega)]
    unfold ext
    exact Sw
theorem Kz(t:Tm)(hf:t.fits)(hd:t.iU<=900000)(bn:∀x∈pre t 1,∀s,ok s->(step s x).2=true->ok (step s x).1)(hR:∀x∈pre t 1,∀s,ok s->Xn Tryz.prog nW [.d x.1.d, .d (.i x.2)] base (H s) (H (step s x).1) (.d (.bool (step s x).2)))(vi:nW<base)(tb:Nat)(Gw:tb<base)(s:σ)(gu:ok s)(bX:H s tb= .row t.row):
 fC Tryz.prog 245 [.jO nW, .ptr tb 0] base (H s) (H (az step s (pre t 1)).1) (.ck []):=by
 intro o nx hI K X hK
 have hle:=hI.le
 have ot:o tb= .row t.row:=by rw[hI.eq tb Gw,bX]
 have y1:tb≠nx:=ad
 have y2:∀k,tb≠nx+k:=fun k=>ad
 refine cK.aA mix RJ aj ?_
 rw[VD]
 refine Sg ot y1 y2 ?_
 have hI1:cT base (H s) (aL (aL (aL o nx (.row [.jO nW])) (nx+1) (.row [.d .bT])) (nx+1) (.row [.func (.func 246) [] [.ptr nx 0, .ptr (nx+1) 0]])) (nx+6):=by
  refine((hI.aL (i:=nx) (m:=nx+6) ad ad ad ?_).aL (i:=nx+1) (m:=nx+6) ad ad ad rfl).aL (i:=nx+1) ad ad ad ?_
  ·exact Sz
  ·exact pI
 refine bc (N5 base nW H step ok t hf 1 ad ad bn hR vi (nx+6) _ nx (nx+1) ad hle ad ad ad ?_ ?_ s gu _ _ (hI1.ext (Nat.le_refl _) ad) _ _ ?_)
 ·exact eh
 ·exact eh
 intro o2 n2 m1 m2 m3
 refine bV ?_
 refine hK _ _ ad ⟨m2.bN,ad,fun id aB=> ?_⟩ (fun id h1 h2=> ?_)
 ·exact yL
 ·rw[m2.eq id (by omega)];unfold ext;rw[if_neg (by omega)]
  exact eh
end
theorem Cq(t:Tm)(o:Nat->ab)(nx:Nat)(K X:V->(Nat->ab)->Nat->Prop)(h:K (.func (.func 245) [] [.ptr nx 0]) (aL o nx (.row t.row)) (nx+4)):cK Tryz.prog 206 [.d t.d] o nx K X:=by
 refine cK.aA mix Rk aj ?_
 rw[Vf]
 refine bV ?_
 exact h
end Go.Proofs.YtonbelhklnmjnaaGreat
namespace Go.Proofs.YtonbelhklnmjnaaGreat
def FI:Option jI->fN
 |none=> .normal
 |some .ret=> .ret
 |some (.exit j)=> .exit j
def x6{σ:Type}(J:σ->Option jI)(step:σ->Tm×Int->σ)(s:σ)(x:Tm×Int):σ×Bool:=(step s x,(J (step s x)).isNone)
theorem z7{σ:Type}(J:σ->Option jI)(step:σ->Tm×Int->σ):∀ (l:List (Tm×Int)) (s:σ),J s=none->(az (x6 J step) s l).2=(J (az (x6 J step) s l).1).isNone
 |[],s,h=>by simp[az,h]
 |x::l,s,h=>by
  simp only[az]
  split
  ·rename_i hb
   exact z7 J step l _ (by simpa[x6]using hb)
  ·rename_i hb
   cases hj:J (step s x)with
   |none=>exact absurd (by simp[x6,hj]) hb
   |some j=>simp[x6,hj]
theorem sR{σ:Type}(t:Tm)(hf:t.fits)(hd:t.iU<=900000){n bq:Nat}{gq:Operand}{ps:List Nat}{iK eE:IC}{Q:fN->S->Prop}{e:Nat->V}{o:Nat->ab}{nx tb:Nat}(env:List V)(he:lM e env 0)
 (D6:ps.all (fun t=>decide (t<n))=true) (hl:ps.length=2) (hg:Good o nx) (hrefs:∀r∈V.aN env,r<nx) (ht:o tb= .row t.row)
 (G:σ->Nat->ab) (J:σ->Option jI) (step:σ->Tm×Int->σ) (ok:σ->Prop) (s0:σ) (gu:ok s0) (Ms:J s0=none) (h0:∀id,id<nx->o id=G s0 id) (bn:∀x∈pre t 1,∀s,ok s->J s=none->J (step s x)=none->ok (step s x))
 (mc:∀L,iu Tryz.prog n env ps iK eE L->(∀st pd m,nx<=m->(L st pd).refs.all (fun r=>decide (r<m))=true)->∀x∈pre t 1,∀s,ok s->J s=none->∀o3 n3,cT nx (G s) o3 n3->nx<n3->o3 nx=L .ready none->∀K X,
  (∀e' o' n' st pd,n3<=n'->cT nx (G (step s x)) o' n'->o' nx=L st pd->(∀id,nx<id->id<n3->o' id=o3 id)->jB nx K X (FI (J (step s x))) ⟨e',o',n'⟩)->
  kS Tryz.prog n n3 true iK (nA Tryz.prog n n3 nx eE K X) ⟨nn (bA env) ps [.d x.1.d, .d (.i x.2)],o3,n3⟩)
 (kg:∀o' n',cT nx (G (az (x6 J step) s0 (pre t 1)).1) o' n'->oX Q (J (az (x6 J step) s0 (pre t 1)).1) ⟨e,o',n'⟩):
 wJ Tryz.prog n bq false gq ps iK eE Q ⟨e,o,nx⟩ (.func (.func 245) [] [.ptr tb 0]):=by
 refine Eg env he (fun L hL=> ?_)
 have Gw:tb<nx:=hg.lt SJ
 let H:σ->Nat->ab:=fun s id=>if id<nx then G s id else if id=nx then(match J s with|none=>L .ready none|some j=>L .done (some j))else .no
 have Gq:∀s id,id<nx->H s id=G s id:=fun s id h=>if_pos h
 have FJ:∀s,J s=none->H s nx=L .ready none:=fun s h=>by show(if nx<nx then _ else _)=_;rw[if_neg (by omega),if_pos rfl,h]
 have KA:∀s j,J s=some j->H s nx=L .done (some j):=fun s j h=>by show(if nx<nx then _ else _)=_;rw[if_neg (by omega),if_pos rfl,h]
 have wg:∀st pd m,nx<=m->(L st pd).refs.all (fun r=>decide (r<m))=true:=fun st pd m hm=>by
  rw[hL.refs,List.all_eq_true]
  intro r hr;have:=hrefs r hr;exact decide_eq_true ad
 refine Kz (nx+1) nx H (x6 J step) (fun s=>ok s/\J s=none) t hf hd (fun x hx s h1 h2=> ?_) (fun x hx s h1=> ?_) ad tb ad s0 ⟨gu,Ms⟩ SH _ _ ⟨?_,Nat.le_refl _,fun id aB=> ?_⟩ _ _ ?_
 ·have hj:J (step s x)=none:=by simpa[x6]using h2
  exact⟨bn x hx s h1.1 h1.2 hj,hj⟩
 ·intro o3 n3 hI K X hK
  have hle:=hI.le
  have IE:o3 nx=L .ready none:=by rw[hI.eq nx (by omega),FJ s h1.2]
  refine vc hL mix IE ad D6 (by simp[hl]) ?_
  refine mc L hL wg x hx s h1.1 h1.2 o3 n3 ⟨hI.bN,ad,fun id aB=>by rw[hI.eq id (by omega),Gq _ _ aB]⟩ ad IE K X (fun e' o' n' st pd k1 k2 k3 k4=> ?_)
  have key:∀st' pd' b,(J (step s x)).isNone=b->H (step s x) nx=L st' pd'->K (.d (.bool b)) (aL o' nx (L st' pd')) n':=fun st' pd' b hb hh=>by
   subst hb
   refine hK _ _ k1 ⟨k2.bN.aL ad (wg _ _ _ ad),ad,fun id aB=> ?_⟩ (fun id g1 g2=> ?_)
   ·by_cases oL:id=nx
    ·subst oL;rw[ae];exact hh.symm
    ·rw[ai _ _ _ _ oL]
     show o' id=H (step s x) id
     exact Sq
   ·exact Sn
  cases hj:J (step s x)with
  |none=>exact rQ hL k3 (key _ _ _ yN (FJ _ hj))
  |some j=>
   cases j with
   |ret=>exact pg hL k3 (key _ _ _ yN (KA _ _ hj))
   |exit j=>exact nD hL k3 (key _ _ _ yN (KA _ _ hj))
 ·exact(hg.mono ad).aL ad (wg _ _ _ ad)
 ·by_cases oL:id=nx
  ·subst oL;rw[ae,FJ _ Ms]
  ·exact Sm
 ·intro o' n' k1 k2 k3
  have hle:=k2.le
  generalize hsf:(az (x6 J step) s0 (pre t 1)).1=sf at*
  have kk:∀st pd,cT nx (G sf) (aL o' nx (L st pd)) n':=fun st pd=>⟨k2.bN.aL ad (wg _ _ _ ad),ad,fun id aB=>by rw[ai _ _ _ _ (by omega),k2.eq id (by omega),Gq _ _ aB]⟩
  cases hj:J sf with
  |none=>
   refine⟨.ready,none,by rw[k2.eq nx (by omega),FJ _ hj],(fun h=>by cases h), ?_⟩
   have:=kg _ _ (kk .exhausted none)
   rwa [hj]at this
  |some j=>
   refine⟨.done,some j,by rw[k2.eq nx (by omega),KA _ _ hj],(fun h=>by cases h), ?_⟩
   have:=kg _ _ (kk .exhausted (some j))
   rwa [hj]at this
theorem fj(n low high:Int):a7 Tryz.prog 155 [.i n, .i low, .i high] (.ret [.bool (cZ n low high)]):=by
 refine a7.aA mix QH aj ?_
 rw[UC]
 refine bV ?_
 rfl
theorem Ej(s:aX)(t:Tm)(h:t.op=1):a7 Tryz.prog 238 [s.d,t.d] (.ret [.bool (bw s t)]):=by
 have hn:bw s t=(cZ t.n 0 19&&(t.kids.length:Int)==0):=by simp[bw,h,Bool.and_comm]
 refine a7.aA mix RC aj ?_
 rw[Vw]
 refine bV ?_
 refine ah (fj _ _ _) rfl ?_
 refine bV ?_
 rw[hn]
theorem Hy(s:aX)(t:Tm)(h:t.op=2):a7 Tryz.prog 239 [s.d,t.d] (.ret [.bool (bw s t)]):=by
 have hn:bw s t=(cZ t.n (-1000000) 1000000&&(t.kids.length:Int)==0):=by simp[bw,h,Bool.and_comm]
 refine a7.aA mix RD aj ?_
 rw[Vx]
 refine bV ?_
 refine ah (fj _ _ _) rfl ?_
 refine bV ?_
 rw[hn]
theorem aau(s:aX)(t:Tm)(h:t.op=8):a7 Tryz.prog 243 [s.d,t.d] (.ret [.bool (bw s t)]):=by
 have hn:bw s t=(cZ t.n 0 19&&(t.kids.length:Int)==2):=by simp[bw,h,Bool.and_comm]
 refine a7.aA mix RH aj ?_
 rw[VB]
 refine bV ?_
 refine ah (fj _ _ _) rfl ?_
 refine bV ?_
 rw[hn]
theorem VS(s:aX)(t:Tm)(h:t.op=6\/t.op=7\/t.op=9\/t.op=10\/t.op=11\/t.op=12\/t.op=13\/t.op=14\/t.op=15):a7 Tryz.prog 244 [s.d,t.d] (.ret [.bool (bw s t)]):=by
 have hn:bw s t=(t.n==0&&(t.kids.length:Int)==2):=by
  rcases h with h|h|h|h|h|h|h|h|h<;>simp[bw,h,cZ,Bool.and_comm]
 refine a7.aA mix RI aj ?_
 rw[VC]
 refine bV ?_
 rw[hn]
theorem aav(s:aX)(t:Tm)(hs:s.Fits)(h:t.op=3):a7 Tryz.prog 240 [s.d,t.d] (.ret [.bool (bw s t)]):=by
 have hn:bw s t=(cZ t.n 0 (s.cons.length - 1)&&(t.kids.length:Int)==dJ s.cons t.n):=by simp[bw,h]
 refine a7.aA mix RE aj ?_
 rw[Vy]
 refine bV ?_
 rw[wrap64 (by have:=hs.lc;omega) (by have:=hs.lc;omega)]
 refine aq (fj _ _ _) rfl ?_
 cases hI:cZ t.n 0 (s.cons.length - 1)with
 |false=>
  refine eY hI ?_
  refine ao (aE rfl) ?_
  refine bV ?_
  rw[hn,hI];rfl
 |true=>
  obtain⟨h0,x,hx⟩:=gy hI
  simp+contextual only[go_sem,hI,hx,h0]
  refine ao (aE rfl) ?_
  refine bV ?_
  exact wv
theorem aaw(s:aX)(t:Tm)(hs:s.Fits)(h:t.op=4):a7 Tryz.prog 241 [s.d,t.d] (.ret [.bool (bw s t)]):=by
 have hn:bw s t=(cZ t.n 0 (s.bU.length - 1)&&(t.kids.length:Int)==dJ s.bU t.n):=by simp[bw,h]
 refine a7.aA mix RF aj ?_
 rw[Vz]
 refine bV ?_
 rw[wrap64 (by have:=hs.lf;omega) (by have:=hs.lf;omega)]
 refine aq (fj _ _ _) rfl ?_
 cases hI:cZ t.n 0 (s.bU.length - 1)with
 |false=>
  refine eY hI ?_
  refine ao (aE rfl) ?_
  refine bV ?_
  rw[hn,hI];rfl
 |true=>
  obtain⟨h0,x,hx⟩:=gy hI
  simp+contextual only[go_sem,hI,hx,h0]
  refine ao (aE rfl) ?_
  refine bV ?_
  exact wv
theorem VT(s:aX)(t:Tm)(hs:s.Fits)(h:t.op=5):a7 Tryz.prog 242 [s.d,t.d] (.ret [.bool (bw s t)]):=by
 have hn:bw s t=(cZ t.n 0 (s.bU.length - 1)&&decide ((t.kids.length:Int)<dJ s.bU t.n)):=by simp[bw,h]
 refine a7.aA mix RG aj ?_
 rw[VA]
 refine bV ?_
 rw[wrap64 (by have:=hs.lf;omega) (by have:=hs.lf;omega)]
 refine aq (fj _ _ _) rfl ?_
 cases hI:cZ t.n 0 (s.bU.length - 1)with
 |false=>
  refine eY hI ?_
  refine ao (aE rfl) ?_
  refine bV ?_
  rw[hn,hI];rfl
 |true=>
  obtain⟨h0,x,hx⟩:=gy hI
  simp+contextual only[go_sem,hI,hx,h0]
  refine ao (aE rfl) ?_
  refine bV ?_
  exact wv
@[reducible] def rf (n:Nat):V:= .func (.func n) [] []
@[reducible] def acF:List V:=[.d .bT,rf 238,rf 239,rf 240,rf 241,rf 242, .d .bT, .d .bT,rf 243, .d .bT, .d .bT, .d .bT, .d .bT, .d .bT, .d .bT, .d .bT]
@[reducible] def Ek:List V:=[.d .bT,rf 238,rf 239,rf 240,rf 241,rf 242,rf 244,rf 244,rf 243,rf 244,rf 244,rf 244,rf 244,rf 244,rf 244,rf 244]
def IJ(k:Nat):List V:=Ek.take k++acF.drop k
theorem funcOf{P:Program}{t:TypeId}(h:(match P.underlying t with|some (.func _ _ _)=>true|_=>false)=true):∃a b c,P.underlying t=some (.func a b c):=by
 split at h
 ·exact⟨_,_,_,by assumption⟩
 ·cases h
@[go_sem] theorem acG (o:Nat->ab) (oP:Bool):pP Tryz.prog o 188 oP (.d .bT) (.d .bT)=some (.d (.bool true)):=by
  obtain⟨a,b,c,h⟩:=funcOf (P:=Tryz.prog) (t:=188) af
  unfold pP;rw[h]
@[go_sem] theorem acH (o:Nat->ab) (oP:Bool) (f:Fn) (x y:List V):pP Tryz.prog o 188 oP (.func f x y) (.d .bT)=some (.d (.bool false)):=by
  obtain⟨a,b,c,h⟩:=funcOf (P:=Tryz.prog) (t:=188) af
  unfold pP;rw[h]
theorem N7(base:Nat)(h:Nat->ab):fC Tryz.prog 205 [] base h h (.agg Ek):=by
 intro o nx hI K X hK
 have hle:=hI.le
 refine cK.aA mix Rj aj ?_
 rw[Ve]
 simp+contextual only[go_sem,Nat.add_assoc,Nat.left_eq_add,Nat.add_eq_left,Nat.add_left_cancel_iff]
 refine aK (fun k:Nat=>⟨bA [.ptr nx 0, .ptr (nx+2) 0, .aa, .aa, .d (.i k)],aL (aL o nx (.row (List.replicate 16 (.d .bT)))) (nx+2) (.row (IJ k)),nx+5⟩)
  (fun k=>k<=16) (fun k=>16 - k) 0 (Nat.zero_le _) ?_ (fun k hk=> ?_)
 ·refine bL.bP _ ad ad ?_ (fun id aB=> ?_) ?_
  ·exact((hI.bN.mono ad).aL ad rfl).aL ad rfl
  ·rw[jh];rfl
  ·exact cG
 have hg:∀k,k<16->Good (aL (aL o nx (.row (List.replicate 16 (.d .bT)))) (nx+2) (.row (IJ (k+1)))) (nx+5):=fun k hk=>
  ((hI.bN.mono ad).aL ad rfl).aL ad (by
    rcases(by omega:k=0\/k=1\/k=2\/k=3\/k=4\/k=5\/k=6\/k=7\/k=8\/k=9\/k=10\/k=11\/k=12\/k=13\/k=14\/k=15)with rfl|rfl|rfl|rfl|rfl|rfl|rfl|rfl|rfl|rfl|rfl|rfl|rfl|rfl|rfl|rfl<;>rfl)
 by_cases acI:k=16
 ·subst acI
  refine XA ?_
  refine hK _ _ ?_ ⟨?_, ?_,fun id aB=> ?_⟩ (fun id h1 h2=> ?_)
  rotate_left
  ·exact(((hI.bN.mono ad).aL ad rfl).aL ad rfl).aL ad rfl
  ·omega
  ·(repeat(first|rfl|rw[ae]|rw[ai _ _ _ _ (by omega)]))
   exact hI.eq id aB
  ·exact eh
  ·omega
 ·have hgk:=hg k ad
  obtain⟨k1,Mn⟩:∃k1,k1=k+1:=⟨_,rfl⟩
  rw[<- Mn]at hgk
  rcases(by omega:k=0\/k=1\/k=2\/k=3\/k=4\/k=5\/k=6\/k=7\/k=8\/k=9\/k=10\/k=11\/k=12\/k=13\/k=14\/k=15)with rfl|rfl|rfl|rfl|rfl|rfl|rfl|rfl|rfl|rfl|rfl|rfl|rfl|rfl|rfl|rfl
  all_goals
   refine XA ?_
   refine au k1 ad ad (bL.bP _ ad ad hgk (fun id aB=> ?_) ?_)
   all_goals subst Mn
   ·first|rfl|(rw[jh];rfl)
   ·exact cG
def KC(n:Int):Nat:=if n=1 then 238 else if n=2 then 239 else if n=3 then 240 else if n=4 then 241 else if n=5 then 242 else if n=8 then 243 else 244
theorem VU(s:aX)(t:Tm)(hs:s.Fits)(h:cZ t.op 1 15=true):a7 Tryz.prog (KC t.op) [s.d,t.d] (.ret [.bool (bw s t)])/\Ek[t.op.toNat]? =some (rf (KC t.op))/\0<=t.op/\t.op<16:=by
 simp[cZ]at h
 rcases(by omega:t.op=1\/t.op=2\/t.op=3\/t.op=4\/t.op=5\/t.op=8\/(t.op=6\/t.op=7\/t.op=9\/t.op=10\/t.op=11\/t.op=12\/t.op=13\/t.op=14\/t.op=15))with h|h|h|h|h|h|h
 ·exact⟨by rw[h];exact Ej s t h,by rw[h];rfl,ad,ad⟩
 ·exact⟨by rw[h];exact Hy s t h,by rw[h];rfl,ad,ad⟩
 ·exact⟨by rw[h];exact aav s t hs h,by rw[h];rfl,ad,ad⟩
 ·exact⟨by rw[h];exact aaw s t hs h,by rw[h];rfl,ad,ad⟩
 ·exact⟨by rw[h];exact VT s t hs h,by rw[h];rfl,ad,ad⟩
 ·exact⟨by rw[h];exact aau s t h,by rw[h];rfl,ad,ad⟩
 ·have hp:=VS s t h
  rcases h with h|h|h|h|h|h|h|h|h<;>exact⟨by rw[h];exact hp,by rw[h];rfl,ad,ad⟩
def oo(s:aX)(n:Int)(x:Tm×Int):Bool:=decide (40<n+1)||decide (12<x.2)|| !cZ x.1.op 1 15|| !bw s x.1
def iw(s:aX)(n:Int×Bool)(x:Tm×Int):Int×Bool:=(n.1+1, !oo s n.1 x)
def fJ(n:Int×Bool):Option jI:=if n.2=true then none else some .ret
def mj(s:aX)(t:Tm):Bool:=(az (x6 fJ (iw s)) (0,true) (pre t 1)).2
theorem KF(s:aX)(hs:s.Fits)(t:Tm)(hf:t.fits)(hd:t.iU<=900000):a7 Tryz.prog 163 [s.d,t.d] (.ret [.bool (mj s t)]):=by
 refine a7.aA mix QP aj ?_
 rw[UK]
 refine bV ?_
 refine c6 (N7 3 _ _ _ (?_:cT 3 (aL (aL (aL (fun _=> .no) 0 (.row s.row)) 1 (.row t.row)) 2 (.row [.d (.bool false)])) _ 3) _ _ fun o2 n2 m1 m2 m3=> ?_)
 ·exact⟨dg,Nat.le_refl _,fun _ _=>rfl⟩
 have p0:o2 0= .row s.row:=m2.eq 0 ad
 have p1:o2 1= .row t.row:=m2.eq 1 ad
 have p2:o2 2= .row [.d (.bool false)]:=m2.eq 2 ad
 have e0:0≠n2:=ad
 have e1:1≠n2:=ad
 have e2:2≠n2:=ad
 have e3:∀k,0≠n2+k:=fun k=>ad
 have e4:∀k,1≠n2+k:=fun k=>ad
 have e5:∀k,2≠n2+k:=fun k=>ad
 simp+contextual only[go_sem,p0,p1,p2,e0,e1,e2,e3,e4,e5,Nat.add_assoc,Nat.left_eq_add,Nat.add_eq_left,Nat.add_left_cancel_iff]
 refine c6 (Cq t _ _ _ _ ?_)
 refine bV ?_
 have hG0:∀n,Good (aL (aL (aL (aL (aL (aL o2 n2 (.row (List.replicate 16 (.d .bT)))) (n2+1) (.row [.d (.i 0)])) n2 (.row Ek)) (n2+1) (.row [.d (.i 0)])) (n2+5) (.row t.row)) (n2+1) (.row [.d (.i n)])) (n2+9):=fun n=>by
  have hg:=m2.bN
  exact dg
 refine sR t hf hd [.aa, .aa, .ptr 0 0, .aa, .ptr 2 0, .ptr n2 0, .ptr (n2+1) 0] ?_ aV rfl ?_ MM (ae _ _ _)
  (fun s=>aL (aL (aL (aL (aL (aL o2 n2 (.row (List.replicate 16 (.d .bT)))) (n2+1) (.row [.d (.i 0)])) n2 (.row Ek)) (n2+1) (.row [.d (.i 0)])) (n2+5) (.row t.row)) (n2+1) (.row [.d (.i s.1)]))
  fJ (iw s) (fun s=>0<=s.1/\s.1<=40) (0,true) ⟨aV,aV⟩ rfl ?_ ?_ ?_ ?_
 ·exact IU
 ·have hg:=m2.bN
  exact dg
 ·intro id aB
  by_cases h:id=n2+1
  ·subst h;(repeat(first|rfl|rw[ae]|rw[ai _ _ _ _ (by omega)]))
  ·rw[ai _ _ _ _ h];rfl
 ·intro x hx s' h1 h2 h3
  have:oo s s'.1 x=false:=by simpa[fJ,iw]using h3
  simp[oo]at this
  simp only[iw]
  omega
 ·intro L hL wg x hx s' h1 h2 o3 n3 hI hn ho K X cN
  simp only[nn]
  have hg:=hI.bN
  have q0:o3 0= .row s.row:=by
   rw[hI.eq 0 (by omega)];(repeat(first|rfl|rw[ae]|rw[ai _ _ _ _ (by omega)]))
   exact p0
  have q2:o3 2= .row [.d (.bool false)]:=by
   rw[hI.eq 2 (by omega)];(repeat(first|rfl|rw[ae]|rw[ai _ _ _ _ (by omega)]))
   exact p2
  have q3:o3 n2= .row Ek:=by rw[hI.eq n2 (by omega)];(repeat(first|rfl|rw[ae]|rw[ai _ _ _ _ (by omega)]))
  have q4:o3 (n2+1)= .row [.d (.i s'.1)]:=by rw[hI.eq (n2+1) (by omega)];(repeat(first|rfl|rw[ae]|rw[ai _ _ _ _ (by omega)]))
  have fin:∀ (o':Nat->ab) (n':Nat),(∀id,id<n2+5+4->o' id=aL o3 (n2+1) (.row [.d (.i (s'.1+1))]) id)->Good o' n'->n3<=n'->cT (n2+5+4) (aL (aL (aL (aL (aL (aL o2 n2 (.row (List.replicate 16 (.d .bT)))) (n2+1) (.row [.d (.i 0)])) n2 (.row Ek)) (n2+1) (.row [.d (.i 0)])) (n2+5) (.row t.row)) (n2+1) (.row [.d (.i (iw s s' x).1)])) o' n':=by
   intro o' n' k1 k2 k3
   refine⟨k2,ad,fun id aB=> ?_⟩
   rw[k1 id aB]
   by_cases h:id=n2+1
   ·subst h;rw[ae,ae];rfl
   ·rw[ai _ _ _ _ h,ai _ _ _ _ h,hI.eq id aB,ai _ _ _ _ h]
  refine bV ?_
  refine nC hL (pd:=none) ?_ ?_
  ·(repeat(first|rfl|rw[ae]|rw[ai _ _ _ _ (by omega)]))
   exact ho
  cases c1:decide (40<s'.1+1)with
  |true=>
   have hJ:fJ (iw s s' x)=some .ret:=by simp[fJ,iw,oo,c1]
   rw[hJ]at cN
   refine MA q0 q2 q3 q4 c1 ?_
   refine ao (aE rfl) ?_
   refine dz q2 ?_
   refine cN _ _ _ .busy none ad (fin _ _ (fun id aB=>sr) dg ad) eh (fun id h3 h4=>by(repeat(first|rfl|rw[ae]|rw[ai _ _ _ _ (by omega)])))
  |false=>
  cases c2:decide (12<x.2)with
  |true=>
   have hJ:fJ (iw s s' x)=some .ret:=by simp[fJ,iw,oo,c2]
   rw[hJ]at cN
   simp+contextual (disch:=first|omega|simp only[go_sem,false_implies]) only[go_sem,wrap64,if_pos,q0,q2,q3,q4,c1,c2]
   refine ao (aE rfl) ?_
   refine dz q2 ?_
   refine cN _ _ _ .busy none ad (fin _ _ (fun id aB=>sr) dg ad) eh (fun id h3 h4=>by(repeat(first|rfl|rw[ae]|rw[ai _ _ _ _ (by omega)])))
  |false=>
  cases c3:cZ x.1.op 1 15 with
  |false=>
   have hJ:fJ (iw s s' x)=some .ret:=by simp[fJ,iw,oo,c3]
   rw[hJ]at cN
   simp+contextual (disch:=first|omega|simp only[go_sem,false_implies]) only[go_sem,wrap64,if_pos,q0,q2,q3,q4,c1,c2]
   refine aq (fj _ _ _) rfl ?_
   simp+contextual (disch:=first|omega|simp only[go_sem,false_implies]) only[go_sem,wrap64,if_pos,q0,q2,q3,q4,c1,c2,c3]
   refine ao (aE rfl) ?_
   refine dz q2 ?_
   refine cN _ _ _ .busy none ad (fin _ _ (fun id aB=>sr) dg ad) eh (fun id h3 h4=>by(repeat(first|rfl|rw[ae]|rw[ai _ _ _ _ (by omega)])))
  |true=>
  obtain⟨r1,r2,r3,r4⟩:=VU s x.1 hs c3
  simp+contextual (disch:=first|omega|simp only[go_sem,false_implies]) only[go_sem,wrap64,if_pos,q0,q2,q3,q4,c1,c2]
  refine aq (fj _ _ _) rfl ?_
  simp+contextual (disch:=first|omega|simp only[go_sem,false_implies]) only[go_sem,wrap64,if_pos,q0,q2,q3,q4,c1,c2,c3,r2,r3,r4,Nat.mul_one]
  refine aq r1 rfl ?_
  simp+contextual (disch:=first|omega|simp only[go_sem,false_implies]) only[go_sem,wrap64,if_pos,q0,q2,q3,q4,c1,c2,c3]
  refine ao (aE rfl) ?_
  cases c4:bw s x.1 with
  |false=>
   have hJ:fJ (iw s s' x)=some .ret:=by simp[fJ,iw,oo,c4]
   rw[hJ]at cN
   simp+contextual (disch:=first|omega|simp only[go_sem,false_implies]) only[go_sem,wrap64,if_pos,q2,c4]
   refine cN _ _ _ .busy none ad (fin _ _ (fun id aB=>sr) dg ad) eh (fun id h3 h4=>by(repeat(first|rfl|rw[ae]|rw[ai _ _ _ _ (by omega)])))
  |true=>
   have hJ:fJ (iw s s' x)=none:=by simp[fJ,iw,oo,c1,c2,c3,c4]
   rw[hJ]at cN
   simp+contextual (disch:=first|omega|simp only[go_sem,false_implies]) only[go_sem,wrap64,if_pos,c4]
   refine cN _ _ _ .busy none ad (fin _ _ (fun id aB=>sr) dg ad) eh (fun id h3 h4=>by(repeat(first|rfl|rw[ae]|rw[ai _ _ _ _ (by omega)])))
 ·intro o' n' hI
  have q2:o' 2= .row [.d (.bool false)]:=by
   rw[hI.eq 2 (by omega)];(repeat(first|rfl|rw[ae]|rw[ai _ _ _ _ (by omega)]))
   exact p2
  rw[show mj s t=(fJ (az (x6 fJ (iw s)) (0,true) (pre t 1)).1).isNone from z7 _ _ _ _ rfl]
  generalize (az (x6 fJ (iw s)) (0,true) (pre t 1)).1=sf at*
  cases hj:fJ sf with
  |none=>
   simp only[oX]
   refine dz q2 ?_
   rfl
  |some j=>
   have:j= .ret:=by
    unfold fJ at hj;split at hj
    ·cases hj
    ·injection hj with hj;exact hj.symm
   subst this
   simp only[oX]
   refine dz q2 ?_
   rfl
end Go.Proofs.YtonbelhklnmjnaaGreat
namespace Go.Proofs.YtonbelhklnmjnaaGreat
def enc{κ:Type}(kf:κ->D)(m:List (κ×D)):List (D×D):=m.map fun p=>(kf p.1,p.2)
def fT{κ:Type}[BEq κ](k:κ):List (κ×D)->Nat->Option (Nat×D)
 |[],_=>none
 |p::m,i=>if(k==p.1)=true then some (i,p.2)else fT k m (i+1)
def wM{κ:Type}[BEq κ](k:κ)(x:D)(m:List (κ×D)):List (κ×D):=match fT k m 0 with|some (i,_)=>m.set i (k,x)|none=>m++[(k,x)]
def aax{κ:Type}[BEq κ](k:κ)(m:List (κ×D)):List (κ×D):=match fT k m 0 with|some (i,_)=>m.eraseIdx i|none=>m
def wN(d:D)(r:Option (Nat×D)):Option (Nat×D×D):=match r with|some (i,x)=>some (i,d,x)|none=>none
@[go_sem] theorem Xo (d:D) (i:Nat) (x:D):wN d (some (i,x))=some (i,d,x):=rfl
@[go_sem] theorem Xp (d:D):wN d none=none:=rfl
section
variable {P:Program}{kt:TypeId}
theorem N8(h:cj P kt=some .int)(a b:Int):qV P 100 kt (.int .i64 a) (.int .i64 b)=some (a==b):=by simp[qV,h]
theorem N9(h:cj P kt=some .str)(a b:List UInt8):qV P 100 kt (.str a) (.str b)=some (a==b):=by simp[qV,h]
@[go_sem] theorem FK (h:cj P kt=some .int) (a:Int):oi P 100 kt (.int .i64 a)=true:=by simp[oi,h]
@[go_sem] theorem aa9 (h:cj P kt=some .str) (a:List UInt8):oi P 100 kt (.str a)=true:=by simp[oi,h]
theorem vj{κ:Type}[BEq κ][LawfulBEq κ](kf:κ->D)(he:∀a b,qV P 100 kt (kf a) (kf b)=some (a==b))(k:κ):∀ (m:List (κ×D)) (i:Nat),findD P kt (kf k) (enc kf m) i=some (wN (kf k) (fT k m i))
 |[],_=>rfl
 |p::m,i=>by
  have ih:=vj kf he k m (i+1)
  simp only[enc,List.map_cons,findD,he,fT]at ih|-
  by_cases h:k=p.1
  ·subst h;simp[wN]
  ·have:(k==p.1)=false:=by simpa using h
   simp only[this,Bool.false_eq_true,if_false];exact ih
@[go_sem] theorem Cr (h:cj P kt=some .int) (k:Int) (m:List (Int×D)):findD P kt (.int .i64 k) (enc (.int .i64) m) 0=some (wN (.int .i64 k) (fT k m 0)):=vj (.int .i64) (N8 h) k m 0
@[go_sem] theorem aay (h:cj P kt=some .str) (k:List UInt8) (m:List (List UInt8×D)):findD P kt (.str k) (enc .str m) 0=some (wN (.str k) (fT k m 0)):=vj .str (N9 h) k m 0
end
section
variable {κ:Type}(kf:κ->D)
theorem KG(m:List (κ×D))(k:κ)(x:D):enc kf m++[(kf k,x)]=enc kf (m++[(k,x)]):=by simp[enc]
theorem FL(m:List (κ×D))(i:Nat)(k:κ)(x:D):(enc kf m).set i (kf k,x)=enc kf (m.set i (k,x)):=by simp[enc,List.map_set]
theorem rR:∀ (m:List (κ×D)) (i:Nat),(enc kf m).eraseIdx i=enc kf (m.eraseIdx i)
 |[],i=>rfl
 |p::m,0=>rfl
 |p::m,i+1=>by
  have:=rR m i
  simp only[enc,List.map_cons,List.eraseIdx_cons_succ]at this|-
  rw[this]
theorem Oa(m:List (κ×D)):(((enc kf m).map (·.1)).zip ((enc kf m).map (·.2)))=enc kf m:=by
 induction m with
 |nil=>rfl
 |cons p m ih=>simp only[enc,List.map_cons,List.zip_cons_cons]at ih|-;rw[ih]
theorem x7{K:V->List (Nat×ab)->Prop}{id:Nat}{m:List (κ×D)}(h0:m=[]->K (.ck [.d (.bool false)]) [])
 (h1:∀ (i:Nat) k x,m[i]? =some (k,x)->K (.ck [.d (.bool true), .d (kf k), .d x]) [(id, .mP (enc kf (m.eraseIdx i)) (some (kf k,x)))]):BW K id (enc kf m):=by
 refine⟨fun h=>h0 ?_,fun i k x h=> ?_⟩
 ·cases m with
  |nil=>rfl
  |cons p m=>simp[enc]at h
 ·simp only[enc,List.getElem?_map]at h
  cases hm:m[i]? with
  |none=>rw[hm]at h;cases h
  |some p=>
   rw[hm]at h
   simp at h
   obtain⟨rfl,rfl⟩:=h
   have:=h1 i p.1 p.2 (by rw[hm])
   rwa [<- rR]at this
end
theorem Cs{κ:Type}[BEq κ][LawfulBEq κ]{k:κ}:∀ {m:List (κ×D)} {i j:Nat} {x:D},fT k m i=some (j,x)->i<=j/\m[j - i]? =some (k,x)
 |[],_,_,_,h=>by cases h
 |p::m,i,j,x,h=>by
  simp only[fT]at h
  split at h
  ·rename_i hk
   injection h with h;injection h with h1 h2
   subst h1;subst h2
   exact⟨Nat.le_refl _,by simp[(by simpa using hk:k=p.1)]⟩
  ·obtain⟨h1,h2⟩:=Cs h
   refine⟨ad, ?_⟩
   rw[show j - i=(j - (i+1))+1 by omega]
   simpa using h2
theorem x8{κ:Type}[BEq κ][LawfulBEq κ]{k:κ}:∀ {m:List (κ×D)} {i:Nat},fT k m i=none↔∀p∈m,p.1≠k
 |[],_=>by simp[fT]
 |p::m,i=>by
  simp only[fT]
  split
  ·rename_i hk
   simp[(by simpa using hk:k=p.1)]
  ·rename_i hk
   rw[x8]
   have:p.1≠k:=fun e=>hk (by simp[e])
   simp[this]
def qy(P:Program)(o:Nat->ab)(t:TypeId)(m k v:V):Option gB:=
 match pQ P t,dZ o k,dZ o v,ox o m with
 |some (kt,_),some kd,some vd,some (some (id,ES,ET),l)=>if k.ids=[]/\oi P 100 kt kd=true/\kX kd=true/\v.ids.all (· !=id)=true then match findD P kt kd l 0 with
  |some (some (i,k',_))=>if k'.same kd=true then some (.ck [],dk o v.ids++[(id, .map ES ET (l.set i (kd,vd)))],id::v.ids)else none
  |some none=>some (.ck [],dk o v.ids++[(id, .map ES ET (l++[(kd,vd)]))],id::v.ids)
  |none=>none
  else none
 |_,_,_,_=>none
@[go_sem low] theorem x9 (P:Program) (o:Nat->ab) (t:TypeId) (m v:V) (k:D):gk P o t m (.d k) v=qy P o t m (.d k) v:=by unfold gk qy;rfl
def vl(P:Program)(o:Nat->ab)(t:TypeId)(m k:V)(ok:Bool):Option gB:=
 match pQ P t,dZ o k,pR o m with
 |some (kt,vt),some kd,some (rd,l)=>if k.ids=[]/\oi P 100 kt kd=true then match findD P kt kd l 0 with
  |some (some (_,_,x))=>some (if ok=true then .ck [.d x, .d (.bool true)]else .d x,[],rd)
  |some none=>match zeroV P vt with
   |some z=>some (if ok=true then .ck [z, .d (.bool false)]else z,[],rd)
   |none=>none
  |none=>none
  else none
 |_,_,_=>none
@[go_sem low] theorem nX (P:Program) (o:Nat->ab) (t:TypeId) (m:V) (k:D) (ok:Bool):jf P o t m (.d k) ok=vl P o t m (.d k) ok:=by unfold jf vl;rfl
attribute [go_sem] vl qy nQ mQ mR oz oA mS pR ox abi ow kX D.same
end Go.Proofs.YtonbelhklnmjnaaGreat
namespace Go.Proofs.YtonbelhklnmjnaaGreat
theorem dec_lt{l:List UInt8}{i:Nat}{b:UInt8}(hb:l[i]? =some b)(h:b.toNat<128):Utf8.decode ⟨⟨l⟩⟩ i=(b.toNat,1):=by
 have e:(ByteArray.mk ⟨l⟩).get! i=b:=by
  show(Array.mk l)[i]! =b
  simp[hb]
 simp only[Utf8.decode,Nat.add_zero,e]
 rw[if_pos h]
theorem VV{l:List UInt8}{i:Nat}{b:UInt8}(hb:l[i]? =some b)(h:128<=b.toNat):128<=(Utf8.decode ⟨⟨l⟩⟩ i).1:=by
 have e:(ByteArray.mk ⟨l⟩).get! i=b:=by
  show(Array.mk l)[i]! =b
  simp[hb]
 simp only[Utf8.decode,Nat.add_zero,e]
 rw[if_neg (by omega)]
 split
 ·split<;>simp_all[Utf8.runeError]
 ·split
  ·split
   ·rename_i h3;simp at h3;omega
   ·simp[Utf8.runeError]
  ·split
   ·split
    ·rename_i h3;simp at h3;omega
    ·simp[Utf8.runeError]
   ·simp[Utf8.runeError]
def Ob(r:Int):Bool:=decide (97<=r)&&decide (r<=122)||decide (65<=r)&&decide (r<=90)
theorem KH(b:UInt8):Ob b.toNat=letterF b:=by
 rw[Bool.eq_iff_iff]
 simp[Ob,letterF]
theorem Hz(s:List UInt8)(hs:s.length<=9223372036854775807):a7 Tryz.prog 154 [.str s] (.ret [.bool (kp s)]):=by
 refine a7.aA mix QG aj ?_
 rw[UB]
 refine iC ?_
 refine aK (fun k:Nat=>⟨bA [.d (.str s), .aa, .aa, .aa, .aa, .aa, .ptr 2 0],aL (fun _=> .no) 2 (.yR s k),3⟩)
  (fun k=>k<=s.length/\(s.take k).all letterF=true) (fun k=>s.length - k) 0 ⟨Nat.zero_le _,aj⟩ (bL.bP _ ad ad (Good.nil.aL ad rfl) (fun _ _=>rfl) ?_) (fun k hk=> ?_)
 ·exact cG
 by_cases h2:k<s.length
 ·obtain⟨b,hb⟩:=aw h2
  by_cases h3:b.toNat<128
  ·simp+contextual (disch:=first|omega|simp only[go_sem,false_implies]) only[go_sem,wrap64,if_pos,Nat.add_assoc,Nat.left_eq_add,Nat.add_eq_left,Nat.add_left_cancel_iff,h2,dec_lt hb h3]
   have hr:=KH b
   simp only[Ob]at hr
   rw[hr]
   cases hl:letterF b with
   |true=>
    refine aI ?_
    refine au (k+1) ⟨h2,cD hb hk.2 hl⟩ ad (bL.bP _ ad ad (Good.nil.aL ad rfl) (fun _ _=>by rw[jh]) ?_)
    exact cG
   |false=>
    refine aI ?_
    simp[kp,bZ hb hl]
  ·have hr:letterF b=false:=by
    rw[<- KH];simp[Ob];omega
   have hd:=VV hb ad
   refine AO h2 ?_
   have:(decide (97<=((Utf8.decode ⟨⟨s⟩⟩ k).1:Int))&&decide (((Utf8.decode ⟨⟨s⟩⟩ k).1:Int)<=122)||decide (65<=((Utf8.decode ⟨⟨s⟩⟩ k).1:Int))&&decide (((Utf8.decode ⟨⟨s⟩⟩ k).1:Int)<=90))=false:=by
    rw[Bool.eq_false_iff];intro h;simp at h;omega
   rw[this]
   refine aI ?_
   simp[kp,bZ hb hr]
 ·refine AO h2 ?_
  refine ah (fj _ _ _) rfl ?_
  refine aI ?_
  rw[kp,cE hk.2 (by omega),Bool.true_and]
theorem Ct{σ:Type}(l:List kn)(hl:l.length<=9223372036854775807)(g:Nat)(aG:List V)(base:Nat)(H:σ->Nat->ab)(step:σ->kn->σ×Bool)(hc:∀r∈V.aN aG,r<base)(ok:σ->Prop)(bn:∀x∈l,∀s,ok s->(step s x).2=true->ok (step s x).1)
 (h:∀x∈l,∀s,ok s->fC Tryz.prog g (.d x.d::aG) base (H s) (H (step s x).1) (.d (.bool (step s x).2))) (s:σ) (gu:ok s):
 fC Tryz.prog 156 [.d (.sl (l.map kn.d)), .func (.func g) [] aG] base (H s) (H (az step s l).1) (.d (.bool (az step s l).2)):=by
 intro o nx hI K X hK
 have fw:∀r∈V.aN aG,r<nx:=fun r hr=>Nat.lt_of_lt_of_le (hc r hr) hI.le
 refine cK.aA mix QI aj ?_
 rw[UD]
 refine bV ?_
 refine aK (fun i:Nat×σ×(Nat->ab)×Nat=>⟨bA [.aa, .func (.func g) [] aG, .aa, .aa, .aa, .aa, .aa, .d (.sl (l.map kn.d)), .d (.i l.length), .d (.i i.1)],i.2.2.1,i.2.2.2⟩)
  (fun i=>i.1<=l.length/\cT base (H i.2.1) i.2.2.1 i.2.2.2/\nx<=i.2.2.2/\(∀id,base<=id->id<nx->i.2.2.1 id=o id)/\az step s l=az step i.2.1 (l.drop i.1)/\ok i.2.1) (fun i=>l.length - i.1) (0,s,o,nx)
  ⟨Nat.zero_le _,hI,Nat.le_refl _,fun _ _ _=>rfl,rfl,gu⟩ ?_ ?_
 ·dsimp only
  refine bL.bP _ (Nat.le_refl _) ad hI.bN (fun _ _=>rfl) ?_
  exact cG
 rintro⟨k,s',o',nx'⟩ ⟨hk,om,hn,db,hf,jM⟩
 simp only at hk om hn db hf jM
 refine bV ?_
 refine ak (fun h1=> ?_) (fun h1=> ?_)
 ·simp at h1
  obtain⟨x,hx⟩:=aw h1
  have dc:=List.mem_of_getElem? hx
  have hd:l.drop k=x::l.drop (k+1):=by
   rw[List.drop_eq_getElem_cons h1]
   rw[List.getElem?_eq_getElem h1]at hx;injection hx with hx;rw[hx]
  refine Gj hx ?_
  have hl0:=om.le
  refine cW (h x dc s' jM _ _ (?_:cT base (H s') _ (nx'+7)) _ _ fun o2 n2 m1 m2 m3=> ?_)
  ·exact(om.aL (i:=nx'+3) (m:=nx'+7) ad ad ad rfl).aL ad ad ad rfl
  have Ky:∀id,base<=id->id<nx->o2 id=o id:=fun id h2 h3=>by
   rw[m3 id h2 (by omega),ai _ _ _ _ (by omega),ai _ _ _ _ (by omega),db id h2 h3]
  refine bV ?_
  refine ak (fun h2=> ?_) (fun h2=> ?_)
  ·refine bV ?_
   simp at h2
   have:az step s l=((step s' x).1,false):=by rw[hf,hd,az,if_neg (by rw[h2];exact Bool.false_ne_true)]
   rw[this]at hK
   exact hK _ _ ad (m2.mono ad) Ky
  ·refine bV ?_
   simp at h2
   have:az step s l=az step (step s' x).1 (l.drop (k+1)):=by rw[hf,hd,az,if_pos h2]
   refine au (k+1,(step s' x).1,o2,n2) ⟨h1,m2,by dsimp only;omega,Ky,this,bn x dc s' jM h2⟩ mG ?_
   dsimp only
   have Co:∀r∈V.aN aG,r<n2:=fun r hr=>by have:=fw r hr;omega
   refine bL.bP _ ad ad m2.bN (fun _ _=>rfl) ?_
   exact cG
 ·refine bV ?_
  simp at h1
  rw[List.drop_eq_nil_of_le h1]at hf
  simp only[az]at hf
  rw[hf]at hK
  exact hK _ _ ad (om.mono ad) db
def pn(l:List (List UInt8)):List (List UInt8×D):=l.map fun s=>(s, .bool true)
theorem HA(l:List (List UInt8))(s:List UInt8):pn l++[(s, .bool true)]=pn (l++[s]):=by simp[pn]
theorem HB{l:List (List UInt8)}{s:List UInt8}{i:Nat}{x:D}(h:fT s (pn l) 0=some (i,x)):x= .bool true/\(pn l).set i (s, .bool true)=pn l/\l.any (· ==s)=true:=by
 obtain⟨_,h2⟩:=Cs h
 rw[Nat.sub_zero]at h2
 simp only[pn,List.getElem?_map]at h2
 cases hl:l[i]? with
 |none=>rw[hl]at h2;cases h2
 |some y=>
  rw[hl]at h2
  simp at h2
  obtain⟨rfl,rfl⟩:=h2
  refine⟨rfl, ?_, ?_⟩
  ·apply List.ext_getElem?
   intro j
   rw[List.getElem?_set]
   split
   ·rename_i e;subst e
    obtain⟨cU,hy⟩:=List.getElem?_eq_some_iff.1 hl
    simp[pn,cU,hy]
   ·rfl
  ·exact List.any_eq_true.2 ⟨y,List.mem_of_getElem? hl,aj⟩
theorem HC{l:List (List UInt8)}{s:List UInt8}(h:fT s (pn l) 0=none):l.any (· ==s)=false:=by
 rw[x8]at h
 rw[List.any_eq_false]
 intro x hx hs
 have:=h (x, .bool true) (by simp[pn];exact hx)
 simp at hs;exact this hs
def Oc(bs:List (List UInt8))(x:kn):Bool:= !bs.any (· ==x.name)&&kp x.name&&cZ x.args 0 4
def iY(bs:List (List UInt8))(x:kn):List (List UInt8)×Bool:=(if bs.any (· ==x.name)=true then bs else bs++[x.name],Oc bs x)
theorem VW(x:kn)(hx:x.name.length<=9223372036854775807)(base mp id:Nat)(h:Nat->ab)(hmp:h mp= .row [.mp id])(h1:mp<base)(h2:id<base)(h3:id≠mp)(bs:List (List UInt8)):
 fC Tryz.prog 153 [.d x.d, .ptr mp 0] base (aL h id (.map 9 4 (enc .str (pn bs)))) (aL h id (.map 9 4 (enc .str (pn (iY bs x).1)))) (.d (.bool (iY bs x).2)):=by
 intro o nx hI K X hK
 have hle:=hI.le
 have hg:=hI.bN
 have q0:o mp= .row [.mp id]:=by rw[hI.eq mp h1,ai _ _ _ _ (by omega),hmp]
 have q1:o id= .map 9 4 (enc .str (pn bs)):=by rw[hI.eq id h2,ae]
 refine cK.aA mix QF aj ?_
 rw[UA]
 cases ha:fT x.name (pn bs) 0 with
 |none=>
  have hn:=HC ha
  have hs:iY bs x=(bs++[x.name],kp x.name&&cZ x.args 0 4):=by simp[iY,Oc,hn]
  rw[hs]at hK
  refine yG q0 q1 ha ?_
  refine ah (Hz _ hx) rfl ?_
  refine aI ?_
  refine gE (fi [.bool (cZ x.args 0 4)] ?_ ?_)
  ·refine aI ?_
   exact fun _=>fj _ _ _
  refine aI ?_
  rw[KG,HA]
  refine hK _ _ ad ⟨dg,ad,fun j hj=> ?_⟩ (fun j g1 g2=>by(repeat(first|rfl|rw[ae]|rw[ai _ _ _ _ (by omega)])))
  ·by_cases e:j=id
   ·subst e;(repeat(first|rfl|rw[ae]|rw[ai _ _ _ _ (by omega)]))
   ·rw[ai _ _ _ _ e,ai _ _ _ _ e,ai _ _ _ _ (by omega),hI.eq j hj,ai _ _ _ _ e]
 |some p=>
  obtain⟨i,y⟩:=p
  obtain⟨rfl,e1,hn⟩:=HB ha
  have hs:iY bs x=(bs,false):=by simp[iY,Oc,hn]
  rw[hs]at hK
  refine yG q0 q1 ha ?_
  rw[FL,e1]
  refine hK _ _ ad ⟨dg,ad,fun j hj=> ?_⟩ (fun j g1 g2=>by(repeat(first|rfl|rw[ae]|rw[ai _ _ _ _ (by omega)])))
  ·by_cases e:j=id
   ·subst e;(repeat(first|rfl|rw[ae]|rw[ai _ _ _ _ (by omega)]))
   ·rw[ai _ _ _ _ e,ai _ _ _ _ e,ai _ _ _ _ (by omega),hI.eq j hj,ai _ _ _ _ e]
theorem pq:∀ (l:List kn) (bs:List (List UInt8)),match cl l bs with|some B=>az iY bs l=(B,true)|none=>(az iY bs l).2=false
 |[],bs=>rfl
 |x::l,bs=>by
  have ih:=pq l (bs++[x.name])
  simp only[cl,az,iY,Oc]
  by_cases h1:bs.any (· ==x.name)=true
  ·simp[h1]
  ·simp only[Bool.not_eq_true]at h1
   simp only[h1,Bool.false_eq_true,if_false,Bool.not_false,Bool.true_and]
   by_cases h2:(kp x.name&&cZ x.args 0 4)=true
   ·have h3: ¬ ((!kp x.name|| !cZ x.args 0 4)=true):=by simp at h2;simp[h2]
    rw[if_neg h3,if_pos h2]
    exact ih
   ·have h3:(!kp x.name|| !cZ x.args 0 4)=true:=by
     cases hn:kp x.name<;>simp_all
    rw[if_pos h3,if_neg h2]
def jV(ok:Bool):Int:=if ok=true then 0 else 2
@[reducible] def HD (s:aX) (bs:List (List UInt8)):Nat->ab:=aL (aL (aL (fun _=> .no) 0 (.row s.row)) 3 (.row [.mp 2])) 2 (.map 9 4 (enc .str (pn bs)))
theorem pt(s:aX)(hs:s.Fits):a7 Tryz.prog 110 [s.d] (.ret [.i (jV (iV s))]):=by
 refine a7.aA mix Qp aj ?_
 rw[Uk]
 refine iC ?_
 refine ah (fj _ _ _) rfl ?_
 refine iC ?_
 cases h1:(!cZ s.cons.length 2 12||decide (8<(s.bU.length:Int)))with
 |true=>
  have:iV s=false:=by simp only[iV,h1,if_true]
  refine dz h1 ?_
  simp[this,jV]
 |false=>
  have G3:=pq s.cons []
  have aaz:∀ (l:List kn),(∀x∈l,x.name.length<=9223372036854775807)->∀x∈l,∀bs,True->fC Tryz.prog 153 (.d x.d::[.ptr 3 0]) 4 (HD s bs) (HD s (iY bs x).1) (.d (.bool (iY bs x).2)):=fun l hl x hx bs _=>
   VW x (hl x hx) 4 3 2 (aL (aL (fun _=> .no) 0 (.row s.row)) 3 (.row [.mp 2])) (ae _ _ _) ad ad ad bs
  simp[cZ]at h1
  obtain⟨a,b,r,hc⟩:∃a b r,s.cons=a::b::r:=by
   match h:s.cons with
   |[]=>exact MP
   |[a]=>exact MP
   |a::b::r=>exact⟨a,b,r,rfl⟩
  have cm:(!cZ s.cons.length 2 12||decide (8<(s.bU.length:Int)))=false:=by simp[cZ];omega
  have Hx:iV s=if(!mI a fB|| !mI b tB)=true then false else match cl s.cons []with
   |none=>false
   |some l=>(cl s.bU l).isSome:=by
   unfold iV
   rw[if_neg (by rw[cm];exact Bool.false_ne_true),hc]
   dsimp only
   rfl
  refine dz cm ?_
  refine bc (Ct s.cons hs.lc 153 [.ptr 3 0] 4 (HD s) iY lU (fun _=>True) (fun _ _ _ _ _=>trivial) (aaz s.cons hs.nc) [] trivial _ _ ⟨?_,ad,fun id aB=> ?_⟩ _ _ fun o2 n2 m1 m2 m3=> ?_)
  ·exact dg
  ·rcases(by omega:id=0\/id=1\/id=2\/id=3)with rfl|rfl|rfl|rfl<;>rfl
  have p0:∀ {bs:List (List UInt8)} {o:Nat->ab} {n:Nat},cT 4 (HD s bs) o n->o 0= .row s.row:=fun h=>h.eq 0 ad
  have p3:∀ {bs:List (List UInt8)} {o:Nat->ab} {n:Nat},cT 4 (HD s bs) o n->o 3= .row [.mp 2]:=fun h=>h.eq 3 ad
  cases hn:cl s.cons []with
  |none=>
   rw[hn]at G3
   simp only at G3
   rw[G3]
   refine iC ?_
   rw[Hx,hn]
   split<;>rfl
  |some B=>
   rw[hn]at G3
   simp only at G3
   rw[G3]at m2|-
   simp+contextual (disch:=first|omega|simp only[go_sem,false_implies]) only[go_sem,wrap64,if_pos,Nat.add_assoc,Nat.left_eq_add,Nat.add_eq_left,Nat.add_left_cancel_iff,p0 m2]
   refine bc (Ct s.bU hs.lf 153 [.ptr 3 0] 4 (HD s) iY lU (fun _=>True) (fun _ _ _ _ _=>trivial) (aaz s.bU hs.nf) B trivial _ _ (m2.mono ad) _ _ fun o4 n4 k1 k2 k3=> ?_)
   have Mj:=pq s.bU B
   cases hf:cl s.bU B with
   |none=>
    rw[hf]at Mj
    simp only at Mj
    rw[Mj]
    refine iC ?_
    rw[Hx,hn]
    simp only[hf]
    split<;>rfl
   |some C=>
    rw[hf]at Mj
    simp only at Mj
    rw[Mj]at k2|-
    simp+contextual (disch:=first|omega|simp only[go_sem,false_implies]) only[go_sem,wrap64,if_pos,Nat.add_assoc,Nat.left_eq_add,Nat.add_eq_left,Nat.add_left_cancel_iff,p0 k2,hc]
    have RZ:iV s= !(!mI a fB|| !mI b tB):=by
     rw[Hx,hn];simp only[hf]
     cases(!mI a fB|| !mI b tB)<;>rfl
    refine ak (fun h5=> ?_) (fun h5=> ?_)
    ·refine aI ?_
     have AE:(!mI a fB|| !mI b tB)=true:=h5
     rw[RZ,AE];rfl
    ·refine aI ?_
     have AE:(!mI a fB|| !mI b tB)=false:=h5
     rw[RZ,AE];rfl
def cX(s:aX)(l:List Tm):Bool:=iV s&&l.all (mj s)
theorem wX{α:Type}(p:α->Bool):∀ (l:List α) (u:Unit),az (fun _ x=>((),p x)) u l=((),l.all p)
 |[],_=>rfl
 |x::l,u=>by
  simp only[az,List.all_cons,wX p l]
  cases p x<;>rfl
theorem El(l:List Tm)(hl:l.length<=9223372036854775807)(g:Nat)(aG:List V)(base:Nat)(h:Nat->ab)(p:Tm->Bool)(hc:∀r∈V.aN aG,r<base)
 (hp:∀x∈l,fC Tryz.prog g (.d x.d::aG) base h h (.d (.bool (p x)))):fC Tryz.prog 161 [.d (.sl (l.map Tm.d)), .func (.func g) [] aG] base h h (.d (.bool (l.all p))):=by
 have:=Cn l hl g aG base (fun _:Unit=>h) (fun _ x=>((),p x)) hc (fun _=>True) (fun _ _ _ _ _=>trivial) (fun x hx _ _=>hp x hx) () trivial
 exact MJ
structure Tm.Fin (t:Tm):Prop where
 fits:t.fits
 iU:t.iU<=900000
theorem KI(s:aX)(hs:s.Fits)(t:Tm)(ht:t.Fin)(base sp:Nat)(h:Nat->ab)(te:h sp= .row s.row)(hb:sp<base):fC Tryz.prog 162 [.d t.d, .ptr sp 0] base h h (.d (.bool (mj s t))):=by
 intro o nx hI K X hK
 have hle:=hI.le
 have hg:=hI.bN
 have q0:o sp= .row s.row:=by rw[hI.eq sp hb,te]
 refine cK.aA mix QO aj ?_
 rw[UJ]
 refine dz q0 ?_
 refine ah (KF s hs t ht.fits ht.iU) rfl ?_
 refine aI ?_
 exact hK _ _ ad ⟨dg,ad,fun j hj=>by rw[ai _ _ _ _ (by omega),hI.eq j hj]⟩ (fun j g1 g2=>by(repeat(first|rfl|rw[ae]|rw[ai _ _ _ _ (by omega)])))
theorem z8(s:aX)(hs:s.Fits)(l:List Tm)(hl:l.length<=9223372036854775807)(hf:∀t∈l,t.Fin):a7 Tryz.prog 123 [s.d, .sl (l.map Tm.d)] (.ret [.bool (cX s l)]):=by
 refine a7.aA mix Qv aj ?_
 rw[Uq]
 refine aI ?_
 refine ah (pt s hs) rfl ?_
 cases h1:iV s with
 |false=>
  refine wu ?_
  simp[cX,h1]
 |true=>
  refine wu ?_
  refine bc (El l hl 162 [.ptr 0 0] 1 (aL (fun _=> .no) 0 (.row s.row)) (mj s) lU (fun x hx=>KI s hs x (hf x hx) 1 0 _ (ae _ _ _) ad) _ _ ⟨dg,ad,fun id aB=>rfl⟩ _ _ fun o2 n2 m1 m2 m3=> ?_)
  refine aI ?_
  simp[cX,h1]
theorem Od(s:aX)(hs:s.Fits)(t:Tm)(ht:t.Fin):a7 Tryz.prog 188 [s.d,t.d] (.ret [.i (jV (cX s [t]))]):=by
 refine a7.aA mix Rc aj ?_
 rw[U8]
 refine aI ?_
 refine ah (z8 s hs [t] aj (fun x hx=>by simp at hx;subst hx;exact ht)) rfl ?_
 cases h1:cX s [t]with
 |false=>exact Gl
 |true=>exact Gl
def Tm.Cu (t:Tm):Int:=(pre t 1).length
structure Tm.wO (t:Tm):Prop extends t.Fin where
 size:t.Cu<=1000000
theorem Tm.Fin.ll {t k:Tm}(h:t.Fin)(hk:k∈t.kids):k.Fin:=⟨((Tm.aP _).1 h.fits).2 k hk,by have:=Tm.qq hk;have:=h.iU;omega⟩
theorem nF:∀ (t:Tm) (d d':Int),(pre t d).length=(pre t d').length:=by
 refine Tm.cC fun t ih d d'=> ?_
 rw[jA,jA]
 simp only[List.length_cons,List.length_flatMap]
 congr 2
 exact List.map_congr_left fun k hk=>ih k hk _ _
theorem Tm.HE {t k:Tm}(hk:k∈t.kids):k.Cu+1<=t.Cu:=by
 simp only[Tm.Cu]
 rw[jA t,nF k 1 (1+1)]
 simp only[List.length_cons,List.length_flatMap]
 have:∀ (l:List Tm),k∈l->(pre k (1+1)).length<=(l.map fun k=>(pre k (1+1)).length).sum:=by
  intro l
  induction l with
  |nil=>intro h;cases h
  |cons x l ih=>
   intro h
   rcases List.mem_cons.1 h with rfl|h
   ·simp only[List.map_cons,List.sum_cons];omega
   ·have:=ih h;simp only[List.map_cons,List.sum_cons];omega
 have:=this _ hk
 omega
theorem Tm.wO.ll {t k:Tm}(h:t.wO)(hk:k∈t.kids):k.wO:=⟨h.toFin.ll hk,by have:=Tm.HE hk;have:=h.size;omega⟩
def Em(s:aX)(l:List Tm):Bool:=iV s&&l.all (dL s)
end Go.Proofs.YtonbelhklnmjnaaGreat
