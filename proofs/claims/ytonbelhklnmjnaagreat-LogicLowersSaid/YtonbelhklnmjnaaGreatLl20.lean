/-
  A PART OF THE PROOF. Conditions: none.
-/
import Derived.Test.YtonbelhklnmjnaaGreatLl19
set_option linter.unusedSimpArgs false
set_option linter.unusedVariables false
namespace Go.Proofs.YtonbelhklnmjnaaGreat
def oK(own bd:List Int)(n:Nat):List Int:=((List.range n).map fun i:Nat=>(i:Int)).filter fun v=> !own.contains v&& !bd.contains v
def mo(r:Rl):List Int:=oK (bp (.mk 0 0 r.aZ)) (bQ r.rhs) r.vars.toNat
theorem GF(own bd:List Int)(n:Nat):oK own bd (n+1)=oK own bd n++if(!own.contains (n:Int)&& !bd.contains (n:Int))=true then [(n:Int)]else []:=by
 unfold oK
 rw[List.range_succ,List.map_append,List.filter_append,List.map_singleton,List.filter_cons,List.filter_nil]
theorem Am(own bd:List Int)(n:Nat):(oK own bd n).length<=n:=by
 unfold oK
 refine Nat.le_trans (List.length_filter_le _ _) ?_
 simp
theorem KA(r:Rl):(mo r).length<=r.vars.toNat:=Am _ _ _
theorem Sv(r:Rl)(hp:Kr r.aZ)(hf:r.rhs.fits)(hz:r.rhs.sz<=500)(h0:0<=r.vars)(h1:r.vars<=1000):aQ Tryz.prog 200 [r.d] (.ret [.sl ((mo r).map .i)]):=by
 have hl:=kC r.rhs
 have hv:=fq (.mk 0 0 r.aZ)
 have DJ:=hp.fG
 have hw:(Tm.mk 0 0 r.aZ).sz<=500001:=by rw[Tm.H8];omega
 obtain⟨n,hn⟩:∃n:Nat,r.vars=n:=⟨r.vars.toNat,af⟩
 have dF:mo r=oK (bp (.mk 0 0 r.aZ)) (bQ r.rhs) n:=by unfold mo;rw[hn];rfl
 refine aQ.ay mix agf ao ?_
 rw[age,dF]
 refine aU ?_
 refine aN (Kv r.aZ) ?_
 refine aU ?_
 refine aN (mZ _ hp.whole) ?_
 refine aU ?_
 refine aN (O3 r.rhs hf af) ?_
 refine aU ?_
 refine aw bG ?_
 refine aU ?_
 refine aH (fun i:Nat=>⟨br [.aa, .ptr 0 0, .aa, .d (.sl ((bp (.mk 0 0 r.aZ)).map .i)), .d (.sl ((bQ r.rhs).map .i)), .osl 1 0, .d (.i i)],aM (aM (fun _=> .no) 0 (.row r.row)) 1 (.arr 0 3 1 ((oK (bp (.mk 0 0 r.aZ)) (bQ r.rhs) i).map .i)),2⟩)
  (fun i=>i<=n) (fun i=>n - i) 0 (Nat.zero_le _) (bM.jP (ty:=3) (sz:=1) (es:=[]) (fun _=>False) .bO 1 _ af (G3 (bE rfl iX)) (by rw[ae];rfl) (.inl ⟨rfl,rfl,bG⟩) (fun j hj=>by(repeat(first|rfl|rw[ae]|rw[ak _ _ _ _ (by omega)]))) (fun _ h=>h.elim) ?_) ?_
 ·exact oP
 rintro k hk
 replace hk:k<=n:=hk
 have e0:=Am (bp (.mk 0 0 r.aZ)) (bQ r.rhs) k
 refine dW hn ?_
 refine aj (fun h2=> ?_) (fun h2=> ?_)
 ·simp at h2
  have step:∀b:Bool,(!(bp (.mk 0 0 r.aZ)).contains (k:Int)&& !(bQ r.rhs).contains (k:Int))=b->oK (bp (.mk 0 0 r.aZ)) (bQ r.rhs) (k+1)=oK (bp (.mk 0 0 r.aZ)) (bQ r.rhs) k++if b=true then [(k:Int)]else []:=fun b hb=>by rw[GF,hb]
  refine dW hn ?_
  refine ah (O4 (bp (.mk 0 0 r.aZ)) k af) rfl ?_
  cases g1:(bp (.mk 0 0 r.aZ)).contains (k:Int)with
  |true=>
   have e:=step false (by rw[g1];rfl)
   exact ac9
  |false=>
   refine dW hn ?_
   refine ah (O4 (bQ r.rhs) k af) rfl ?_
   cases g2:(bQ r.rhs).contains (k:Int)with
   |true=>
    have e:=step false (by rw[g1,g2];rfl)
    exact ac9
   |false=>
    have e:=step true (by rw[g1,g2];rfl)
    rw[if_pos rfl]at e
    refine dW hn ?_
    refine au (k+1) h2 af (bM.jP (fun j=>j=1) (.osl 1 1) 1 _ af (G3 (cP (y:= .row r.row) dn dn (bE rfl iX))) (ae _ _ _) (.inr ⟨1,1,rfl,rfl,by(repeat(first|rfl|rw[ae]|rw[ak _ _ _ _ (by omega)]));rw[e,List.map_append];rfl⟩) (fun j hj=>by(repeat(first|rfl|rw[ae]|rw[ak _ _ _ _ (by omega)]))) (fun j h h2=>af) ?_)
    exact oP
 ·simp at h2
  have si:k=n:=af
  subst si
  exact dM
def uj(own fr:List Int)(b:List Tm):List Tm:=b.mapIdx fun i x=>if(own.contains (i:Int)||fr.contains (i:Int))=true then x else ec
theorem KC(own fr:List Int){b:List Tm}{k:Nat}{x:Tm}(hx:b[k]? =some x):uj own fr (b.take (k+1))=uj own fr (b.take k)++[if(own.contains (k:Int)||fr.contains (k:Int))=true then x else ec]:=by
 have hk:k<b.length:=(List.getElem?_eq_some_iff.1 hx).1
 unfold uj
 rw[List.take_add_one,hx,List.mapIdx_append,List.length_take]
 simp only[Option.toList_some,List.mapIdx_cons,List.mapIdx_nil]
 rw[show min k b.length=k by omega,Nat.zero_add]
theorem KF{s:aV}{r:Rl}(h:oG s r){b:List Tm}(hb:(b.length:Int)=r.vars):uj (bp (.mk 0 0 r.aZ)) (mo r) b=mW r b:=by
 unfold uj mW
 refine List.ext_getElem ao fun i h1 h2=> ?_
 simp only[List.getElem_mapIdx]
 simp only[List.length_mapIdx]at h1
 have X1:=(Aa r.rhs (bp (.mk 0 0 r.aZ))).1 h.apart (i:Int)
 have dF:(mo r).contains (i:Int)=(!(bp (.mk 0 0 r.aZ)).contains (i:Int)&& !(bQ r.rhs).contains (i:Int)):=by
  rw[Bool.eq_iff_iff,List.contains_iff_mem]
  unfold mo oK
  rw[List.mem_filter]
  constructor
  ·exact fun h=>h.2
  ·intro hm
   refine⟨List.mem_map.2 ⟨i,List.mem_range.2 af,rfl⟩,hm⟩
 rw[dF]
 cases c1:(bQ r.rhs).contains (i:Int)with
 |true=>
  have hm:=List.contains_iff_mem.1 c1
  have uo:((bp (.mk 0 0 r.aZ)).contains (i:Int))=false:=by
   rw[Bool.eq_false_iff]
   intro hc
   exact(X1 ((pc r.rhs i).1 hm)).2.1 (List.contains_iff_mem.1 hc)
  rw[uo];simp
 |false=>cases(bp (.mk 0 0 r.aZ)).contains (i:Int)<;>simp
theorem KG{s:aV}(r:Rl)(ho:oG s r)(hp:Kr r.aZ)(hf:r.rhs.fits)(hz:r.rhs.sz<=500)(b:List Tm)(hb:(b.length:Int)=r.vars):aQ Tryz.prog 146 [r.d, .sl (b.map Tm.d)] (.ret [.sl ((mW r b).map Tm.d)]):=by
 have hv:=fq (.mk 0 0 r.aZ)
 have DJ:=hp.fG
 have hw:(Tm.mk 0 0 r.aZ).sz<=500001:=by rw[Tm.H8];omega
 have qH:=KA r
 have Qj:=ho.agZ
 have hv1:=ho.ag0
 have hwd:D.agg [.i 0, .i 0, .sl (r.aZ.map Tm.d)]=(Tm.mk 0 0 r.aZ).d:=(Tm.jS _ _ _).symm
 refine aQ.ay mix afK ao ?_
 rw[afJ, <- KF ho hb]
 refine aU ?_
 rw[hwd]
 refine aN (mZ _ hp.whole) ?_
 refine aU ?_
 refine aN (Sv r hp hf hz Qj af) ?_
 refine aU ?_
 refine aw bG ?_
 refine aU ?_
 refine aH (fun i:Nat=>⟨br [.aa, .d (.sl (b.map Tm.d)), .ptr 0 0, .aa, .aa, .d (.sl ((bp (.mk 0 0 r.aZ)).map .i)), .d (.sl ((mo r).map .i)), .osl 1 0, .d (.i i)],aM (aM (fun _=> .no) 0 (.row r.row)) 1 (.arr 0 31 3 ((uj (bp (.mk 0 0 r.aZ)) (mo r) (b.take i)).map Tm.d)),2⟩)
  (fun i=>i<=b.length) (fun i=>b.length - i) 0 (Nat.zero_le _) (bM.jP (ty:=31) (sz:=3) (es:=[]) (fun _=>False) .bO 1 _ af (G3 (bE rfl iX)) (by rw[ae];rfl) (.inl ⟨rfl,rfl,bG⟩) (fun j hj=>by(repeat(first|rfl|rw[ae]|rw[ak _ _ _ _ (by omega)]))) (fun _ h=>h.elim) ?_) ?_
 ·exact oP
 rintro k hk
 replace hk:k<=b.length:=hk
 have e0:(uj (bp (.mk 0 0 r.aZ)) (mo r) (b.take k)).length=k:=by unfold uj;rw[List.length_mapIdx,List.length_take];omega
 refine dW e0 ?_
 refine aj (fun h2=> ?_) (fun h2=> ?_)
 ·simp at h2
  obtain⟨x,hx⟩:=ai h2
  have hsn:=KC (bp (.mk 0 0 r.aZ)) (mo r) hx
  refine iB e0 hx ?_
  refine ah (O5 (bp (.mk 0 0 r.aZ)) k af) rfl ?_
  cases g1:(bp (.mk 0 0 r.aZ)).contains (k:Int)with
  |true=>
   rw[g1,Bool.true_or,if_pos rfl]at hsn
   exact XG
  |false=>
   refine iB e0 hx ?_
   refine ah (O5 (mo r) k af) rfl ?_
   cases g2:(mo r).contains (k:Int)with
   |true=>
    rw[g1,g2,Bool.false_or,if_pos rfl]at hsn
    exact XG
   |false=>
    rw[g1,g2,Bool.false_or,if_neg Bool.false_ne_true]at hsn
    refine iB e0 hx ?_
    refine aT O7 ?_
    exact XG
 ·simp at h2
  have si:k=b.length:=af
  subst si
  rw[List.take_length]
  exact dM
theorem An(env:List Tm)(n:Nat)(v:Tm):gx env (n:Int) v=(env++List.replicate (n+1 - env.length) ec).set n v:=rfl
theorem Sw(env:List Tm)(hl:env.length<=1000)(n:Int)(h0:0<=n)(h1:n<=1000)(v:Tm):aQ Tryz.prog 147 [.sl (env.map Tm.d), .i n,v.d] (.ret [.sl ((gx env n v).map Tm.d)]):=by
 obtain⟨n,rfl⟩:∃m:Nat,n=m:=⟨n.toNat,af⟩
 let m:=n+1 - env.length
 have hm:m=n+1 - env.length:=rfl
 refine aQ.ay mix afM ao ?_
 rw[afL,An]
 have a1:env.length<=140737488355328:=af
 have a2:env.length*24<=140737488355328:=af
 refine iB a1 a2 ?_
 refine aH (fun i:Nat=>⟨br [.aa, .d (.i n), .aa, .aa, .aa, .ptr 0 0, .aa, .osl 1 0],aM (aM (fun _=> .no) 0 (.row v.row)) 1 (.arr 0 31 3 ((env++List.replicate i ec).map Tm.d)),2⟩)
  (fun i=>i<=m) (fun i=>m - i) 0 (Nat.zero_le _) ?_ ?_
 ·refine bM.jP (fun j=>j=3) (.osl 3 0) 1 _ af (G3 (cP (y:= .row v.row) dn dn (bE rfl iX))) (ae _ _ _) (.inr ⟨3,0,rfl,rfl,by(repeat(first|rfl|rw[ae]|rw[ak _ _ _ _ (by omega)]));simp⟩) (fun j hj=>by(repeat(first|rfl|rw[ae]|rw[ak _ _ _ _ (by omega)]))) (fun j h h2=>af) ?_
  exact oP
 rintro k hk
 replace hk:k<=m:=hk
 have e0:(env++List.replicate k ec).length=env.length+k:=ao
 refine dW e0 ?_
 refine aj (fun h2=> ?_) (fun h2=> ?_)
 ·simp at h2
  refine dW e0 ?_
  refine aT O7 ?_
  refine dW e0 ?_
  refine au (k+1) af af (bM.jP (fun j=>j=1) (.osl 1 1) 1 _ af (G3 (cP (y:= .row v.row) dn dn (bE rfl iX))) (ae _ _ _) (.inr ⟨1,1,rfl,rfl,by(repeat(first|rfl|rw[ae]|rw[ak _ _ _ _ (by omega)]));rw[List.replicate_succ', <- List.append_assoc,List.map_append (l₂:=[ec])];rfl⟩) (fun j hj=>by(repeat(first|rfl|rw[ae]|rw[ak _ _ _ _ (by omega)]))) (fun j h h2=>af) ?_)
  exact oP
 ·simp at h2
  have Si:k=m:=af
  have hn:n<env.length+k:=af
  obtain⟨y,hy⟩:=ai (l:=env++List.replicate k ec) (k:=n) af
  obtain⟨yo,yn,yk⟩:=y
  simp+contextual (disch:=first|omega|simp only[go_sem,false_implies]) only[go_sem,wrap64,if_pos,List.length_map,e0,hn,hy,Tm.jS]
  rw[List.map_set, <- hm,Si]
theorem dO(b:Bool):(ed b).fits:=by simp[ed,Tm.fits,Tm.j7]
theorem Ao(o a b:Int):(ns o a b).fits:=by unfold ns;split;exact dO _;simp[Tm.fits,Tm.j7]
theorem bF{l:List Pf}{i:Nat}{k:Pf}(h:l[i]? =some k):aX l i=k.val:=by unfold aX;rw[h];rfl
theorem eY{t:Tm}{i:Nat}{k:Tm}(h:t.kids[i]? =some k):cC t i=k:=by unfold cC;rw[h];rfl
theorem m8{s:aV}{e:Tm}(h:bz s e=true)(h1:6<=e.op)(h2:e.op<=15):e.kids.length=2:=by
 by_cases h8:e.op=8
 ·simp[bz,h8]at h;omega
 ·simp[bz,cF,show ¬e.op=1 by omega,show ¬e.op=2 by omega,show ¬e.op=3 by omega,show ¬e.op=4 by omega,show ¬e.op=5 by omega,h8,h1,h2]at h
  omega
theorem Iz{r:Int}{e v a b:Tm}(h:jX r e v a b=true):9<=e.op/\e.op<=15:=by
 unfold jX at h
 split at h
 ·simp at h;omega
 ·split at h
  ·simp at h;omega
  ·split at h
   ·simp at h;omega
   ·split at h
    ·simp at h;omega
    ·split at h
     ·simp at h;omega
     ·cases h
theorem xf{s:aV}{v:Tm}(h:Pn s v)(h2:v.op=2):bdN v.n:=by
 have:=(qq.1 h).1
 simp[mq,h2,cF]at this
 exact⟨this.1.1,this.1.2⟩
theorem abn{s:aV}{v:Tm}(h:Pn s v)(o a b:Int):(Kw o a b&&aJ v (ns o a b))=aJ v (ns o a b):=by
 cases hs:aJ v (ns o a b)with
 |false=>simp
 |true=>
  have e:=(bu _ _).1 hs
  by_cases IA:o=15
  ·simp[Kw,IA]
  ·have hv:ns o a b= .mk 2 (if o=14 then a - b else a+b) []:=by unfold ns;rw[if_neg IA]
   have:=xf (v:=v) h (by rw[e,hv];rfl)
   rw[e,hv]at this
   simp only[Kw,if_neg IA]
   simpa[cF,bdN,Tm.n]using this
set_option maxHeartbeats 2000000 in
theorem abo{s:aV}(e:Tm)(he:e.fits)(hn:bz s e=true)(f:Pf)(hf:mY s f):aQ Tryz.prog 109 [e.d,f.d] (.ret [.bool (f.kids.length==2&&jX f.az e f.val (aX f.kids 0) (aX f.kids 1))]):=by
 have GG:=((Pf.aF f).1 hf.1).2.2.2.1
 have im:=((Tm.aF e).1 he).1
 have Me:=hf.val.1.1
 refine aQ.ay mix afa ao ?_
 rw[ae9]
 by_cases hl:f.kids.length=2
 rotate_left
 ·have jZ:((f.kids.length:Int)!=2)=true:=by simp;omega
  have nm:(f.kids.length==2)=false:=by simpa using hl
  simp+contextual (disch:=first|omega|simp only[go_sem,false_implies]) only[go_sem,wrap64,if_pos,List.length_map,jZ,nm]
 have jZ:((f.kids.length:Int)!=2)=false:=by simp;omega
 have nm:(f.kids.length==2)=true:=by simpa using hl
 by_cases hle:e.kids.length=2
 rotate_left
 ·have abp:((e.kids.length:Int)!=2)=true:=by simp;omega
  have ht:jX f.az e f.val (aX f.kids 0) (aX f.kids 1)=false:=by
   rw[Bool.eq_false_iff]
   intro h
   have:=Iz h
   exact hle (m8 hn af af)
  refine iB jZ abp ?_
  rw[ht,Bool.and_false]
 have abp:((e.kids.length:Int)!=2)=false:=by simp;omega
 obtain⟨x,hx⟩:=ai (l:=f.kids) (k:=0) af
 obtain⟨y,hy⟩:=ai (l:=f.kids) (k:=1) af
 have nM:=(hf.gE (List.mem_of_getElem? hx)).val
 have xg:=(hf.gE (List.mem_of_getElem? hy)).val
 rw[bF hx,bF hy,nm,Bool.true_and]
 refine IQ jZ abp hx hy ?_
 refine aw bG ?_
 by_cases r10:f.az=10
 ·have ht:jX f.az e f.val x.val y.val=(e.op==9&&(aJ x.val (ed true)&&aJ y.val f.val)):=by rw[r10];rfl
  rw[ht]
  refine cf r10 ?_
  cases g1:(e.op==9)with
  |false=>
   exact sA
  |true=>
  refine cf g1 ?_
  refine aN qG ?_
  refine cf g1 ?_
  refine aq (eP _ nM.1.1 _ (dO true)) rfl ?_
  cases g2:aJ x.val (ed true)with
  |false=>
   exact sA
  |true=>
  refine cf g1 ?_
  refine aq (eP _ xg.1.1 _ Me) rfl ?_
  exact sA
 have n10:(f.az==10)=false:=by simpa using r10
 by_cases r11:f.az=11
 ·have ht:jX f.az e f.val x.val y.val=(e.op==10&&(aJ x.val (ed true)&&aJ y.val (ed true)&&aJ f.val (ed true))):=by rw[r11];rfl
  rw[ht]
  refine cf r11 ?_
  cases g1:(e.op==10)with
  |false=>
   exact sA
  |true=>
  refine cf g1 ?_
  refine aN qG ?_
  refine cf g1 ?_
  refine aq (eP _ nM.1.1 _ (dO true)) rfl ?_
  cases g2:aJ x.val (ed true)with
  |false=>
   exact sA
  |true=>
  refine cf g1 ?_
  refine aN qG ?_
  refine cf g1 ?_
  refine aq (eP _ xg.1.1 _ (dO true)) rfl ?_
  cases g3:aJ y.val (ed true)with
  |false=>
   exact sA
  |true=>
  exact adm
 have n11:(f.az==11)=false:=by simpa using r11
 by_cases r12:f.az=12
 ·have ht:jX f.az e f.val x.val y.val=(e.op==11&&(aJ x.val y.val&&bS 16 x.val&&aJ f.val (ed true))):=by rw[r12];rfl
  rw[ht]
  refine cf r12 ?_
  cases g1:(e.op==11)with
  |false=>
   exact sA
  |true=>
  refine cf g1 ?_
  refine aq (eP _ nM.1.1 _ xg.1.1) rfl ?_
  cases g2:aJ x.val y.val with
  |false=>
   exact sA
  |true=>
  refine cf g1 ?_
  refine aq (D9 _ nM.1.1) rfl ?_
  cases g3:bS 16 x.val with
  |false=>
   exact sA
  |true=>
  exact adm
 have n12:(f.az==12)=false:=by simpa using r12
 by_cases r13:f.az=13
 ·have ht:jX f.az e f.val x.val y.val=(e.op==12&&((bS 16 x.val&&bS 1 x.val)&&(bS 16 y.val&&bS 1 y.val)&&aJ f.val (ed (aJ x.val y.val)))):=by rw[r13];rfl
  rw[ht]
  refine cf r13 ?_
  cases g1:(e.op==12)with
  |false=>
   exact sA
  |true=>
  refine cf g1 ?_
  refine aq (zR _ nM.1.1) rfl ?_
  cases g2:(bS 16 x.val&&bS 1 x.val)with
  |false=>
   exact sA
  |true=>
  refine cf g1 ?_
  refine aq (zR _ xg.1.1) rfl ?_
  cases g3:(bS 16 y.val&&bS 1 y.val)with
  |false=>
   exact sA
  |true=>
  refine cf g1 ?_
  refine aq (eP _ nM.1.1 _ xg.1.1) rfl ?_
  refine cf g1 ?_
  refine aN (EH _) ?_
  refine cf g1 ?_
  refine aq (eP _ Me _ (dO _)) rfl ?_
  exact sA
 have n13:(f.az==13)=false:=by simpa using r13
 by_cases r14:f.az=14
 ·have ht:jX f.az e f.val x.val y.val=((e.op==13||e.op==14||e.op==15)&&(x.val.op==2&&y.val.op==2&&aJ f.val (ns e.op x.val.n y.val.n))):=by rw[r14];rfl
  rw[ht]
  refine cf r14 ?_
  by_cases g1:e.op=13\/e.op=14\/e.op=15
  rotate_left
  ·have a1:(e.op !=13)=true:=by simp;omega
   have a2:(e.op !=14)=true:=by simp;omega
   have a3:(e.op !=15)=true:=by simp;omega
   have b1:(e.op==13)=false:=by simp;omega
   have b2:(e.op==14)=false:=by simp;omega
   have b3:(e.op==15)=false:=by simp;omega
   simp+contextual (disch:=first|omega|simp only[go_sem,false_implies]) only[go_sem,wrap64,if_pos,a1,a2,a3,b1,b2,b3]
  have gop:(e.op==13||e.op==14||e.op==15)=true:=by simp;omega
  rw[gop,Bool.true_and]
  by_cases g2:x.val.op=2
  rotate_left
  ·have a1:(x.val.op !=2)=true:=by simpa using g2
   have b1:(x.val.op==2)=false:=by simpa using g2
   rcases g1 with g1|g1|g1<;>simp+contextual (disch:=first|omega|simp only[go_sem,false_implies]) only[go_sem,wrap64,if_pos,g1,a1,b1]
  have a2:(x.val.op !=2)=false:=by simpa using g2
  have b2:(x.val.op==2)=true:=by simpa using g2
  by_cases g3:y.val.op=2
  rotate_left
  ·have a1:(y.val.op !=2)=true:=by simpa using g3
   have b1:(y.val.op==2)=false:=by simpa using g3
   rcases g1 with g1|g1|g1<;>simp+contextual (disch:=first|omega|simp only[go_sem,false_implies]) only[go_sem,wrap64,if_pos,g1,a2,b2,a1,b1]
  have a3:(y.val.op !=2)=false:=by simpa using g3
  have b3:(y.val.op==2)=true:=by simpa using g3
  have hs:=abj e.op x.val.n y.val.n (xf nM.1.2 g2) (xf xg.1.2 g3)
  have bw:=abn hf.val.1.2 e.op x.val.n y.val.n
  rw[b2,b3,Bool.true_and,Bool.true_and, <- bw]
  rcases g1 with g1|g1|g1<;>
  ·rw[g1]at hs|-
   refine xL g1 a2 a3 ?_
   refine aT hs ?_
   refine cf g1 ?_
   cases g4:Kw _ x.val.n y.val.n with
   |false=>
    exact dM
   |true=>
    refine aU ?_
    refine ah (eP _ Me _ (Ao _ _ _)) rfl ?_
    exact dM
 have n14:(f.az==14)=false:=by simpa using r14
 have ht:jX f.az e f.val x.val y.val=false:=by unfold jX;rw[if_neg r10,if_neg r11,if_neg r12,if_neg r13,if_neg r14]
 rw[ht]
 simp+contextual (disch:=first|omega|simp only[go_sem,false_implies]) only[go_sem,wrap64,if_pos,n10,n11,n12,n13,n14]
def ym(b:Bool):R:=if b=true then .ret []else .bW oJ
theorem e8:ym true= .ret []:=rfl
theorem bP:ym false= .bW oJ:=rfl
def Cf(p:Pg)(f:Pf):Prop:=∀env e,da p.sig env->cy p.sig env.length e->aQ Tryz.prog 93 [xK p env,e.d,f.d] (ym (aR p f env e))
theorem cH:oJ.flat=true:=by rfl
theorem rX{p:Pg}(ks:List Pf)(es:List Tm)(hk:ks.length<=1000000)(he0:es.length<=9223372036854775807){env:List Tm}(hv:da p.sig env)(ih:∀k∈ks,Cf p k)(he:∀e∈es,cy p.sig env.length e):
 aQ Tryz.prog 221 [xK p env, .sl (es.map Tm.d), .sl (ks.map Pf.d)] (ym (ks.length==es.length&&(ks.zip es).all fun x=>aR p x.1 env x.2)):=by
 refine aQ.ay mix Wq ao ?_
 rw[aap]
 by_cases hl:ks.length=es.length
 rotate_left
 ·have jZ:((es.length:Int)==(ks.length:Int))=false:=by rw[beq_eq_false_iff_ne];omega
  have nm:(ks.length==es.length)=false:=by simpa using hl
  rw[nm,Bool.false_and,bP]
  refine dW jZ ?_
  exact AF
 have jZ:((es.length:Int)==(ks.length:Int))=true:=by rw[beq_iff_eq];omega
 have nm:(ks.length==es.length)=true:=by simpa using hl
 rw[nm,Bool.true_and]
 refine dW jZ ?_
 refine ah cu rfl ?_
 refine ik ?_
 refine aH (fun k:Nat=>⟨br [.aa, .d (.sl (es.map Tm.d)), .aa, .ptr 0 0, .aa, .aa, .aa, .aa, .aa, .aa, .aa, .aa, .aa, .aa, .d (.sl (ks.map Pf.d)), .d (.i ks.length), .d (.i k)],fP (Iy p env),1⟩)
  (fun k=>k<=ks.length/\((ks.zip es).take k).all (fun x=>aR p x.1 env x.2)=true) (fun k=>ks.length - k) 0 ⟨Nat.zero_le _,ao⟩ (bM.d1 _ (ba rfl) af rfl ?_) (fun k hk=> ?_)
 ·exact dc
 refine ik ?_
 refine aj (fun h2=> ?_) (fun h2=> ?_)
 ·simp at h2
  obtain⟨x,hx⟩:=ai h2
  obtain⟨y,hy⟩:=ai (l:=es) (k:=k) af
  have cp:=List.mem_of_getElem? hx
  have hz:(ks.zip es)[k]? =some (x,y):=by rw[List.getElem?_zip_eq_some];exact⟨hx,hy⟩
  have hc:=ih x cp env y hv (he y (List.mem_of_getElem? hy))
  refine iB hx hy ?_
  cases g:aR p x env y with
  |false=>
   rw[g,bP]at hc
   refine dk hc cH ?_
   exact adk
  |true=>
   rw[g,e8]at hc
   refine aq hc rfl ?_
   refine iB hx hy ?_
   refine aw bG ?_
   refine aU ?_
   refine au (k+1) ⟨h2,cI hz hk.2 g⟩ af (bM.d1 _ (ba rfl) af rfl ?_)
   exact dc
 ·simp at h2
  rw[cw hk.2 (by rw[List.length_zip];omega),e8]
  exact dM
theorem xh:∀ (ks:List Pf) (l:List Tm),ks.length=l.length->hY l (ks.map Pf.val)=(ks.zip l).all fun x=>aJ x.1.val x.2
 |[],[],_=>rfl
 |k::ks,x::l,h=>by
  have ih:=xh ks l yG
  simp only[List.map_cons,hY,List.zip_cons_cons,List.all_cons,ih]
  congr 1
  rw[Bool.eq_iff_iff,bu,bu];exact eq_comm
 |[],_::_,h=>by simp at h
 |_::_,[],h=>by simp at h
theorem KH(v:Tm)(op n:Int)(ks:List Pf):aJ v (.mk op n (ks.map Pf.val))=((v.op==op&&(v.n==n&&v.kids.length==ks.length))&&(ks.zip v.kids).all fun x=>aJ x.1.val x.2):=by
 obtain⟨vo,vn,vk⟩:=v
 rw[oA]
 simp only[Tm.op,Tm.n,Tm.kids,List.length_map]
 by_cases h:vk.length=ks.length
 ·rw[xh ks _ h.symm]
  simp[Bool.and_assoc]
 ·have:(vk.length==ks.length)=false:=by simpa using h
  rw[this];simp
theorem KI(p:Pg)(l:List Pf)(env es:List Tm):jW (l.map (aR p)) env es=(l.length==es.length&&(l.zip es).all fun x=>aR p x.1 env x.2):=by
 unfold jW
 rw[List.length_map,List.zip_map_left,List.all_map]
 rfl
@[reducible] def xi (p:Pg) (env:List Tm) (e:Tm) (f:Pf):Nat->ab:=aM (aM (aM (fun _=> .no) 0 (.row (Iy p env))) 1 (.row e.row)) 2 (.row f.row)
theorem Ap{p:Pg}{f:Pf}(hf:mY p.sig f)(ih:∀k∈f.kids,Cf p k){env:List Tm}(hv:da p.sig env){e:Tm}(he:cy p.sig env.length e)(eJ:e.op=3\/e.op=5):
 aQ Tryz.prog 219 [xK p env,e.d,f.d] (ym (aJ f.val (.mk e.op e.n (f.kids.map Pf.val))&&jW (f.kids.map (aR p)) env e.kids)):=by
 have GG:=hf.len
 have im:=((Tm.aF e).1 he.fits).1
 have hvk:=((Tm.aF f.val).1 hf.val.1.1).1
 refine aQ.ay mix Wo ao ?_
 rw[aan,KI,KH]
 by_cases h1:f.val.op=e.op/\f.val.n=e.n/\f.val.kids.length=f.kids.length
 rotate_left
 ·have bL:(f.val.op==e.op&&f.val.n==e.n&&(f.val.kids.length:Int)==(f.kids.length:Int))=false:=by
   rw[Bool.eq_false_iff];intro h
   simp only[Bool.and_eq_true,beq_iff_eq]at h
   exact h1 ⟨h.1.1,h.1.2,af⟩
  have h2:(f.val.op==e.op&&(f.val.n==e.n&&f.val.kids.length==f.kids.length))=false:=by
   rw[Bool.eq_false_iff];intro h
   simp only[Bool.and_eq_true,beq_iff_eq]at h
   exact h1 h
  rw[h2,Bool.false_and,Bool.false_and,bP]
  refine dW bL ?_
  exact AF
 obtain⟨a1,a2,a3⟩:=h1
 have bL:(f.val.op==e.op&&f.val.n==e.n&&(f.val.kids.length:Int)==(f.kids.length:Int))=true:=by simp[a1,a2,a3]
 have h2:(f.val.op==e.op&&(f.val.n==e.n&&f.val.kids.length==f.kids.length))=true:=by simp[a1,a2,a3]
 rw[h2,Bool.true_and]
 refine dW bL ?_
 refine ah cu rfl ?_
 refine ik ?_
 refine aH (fun k:Nat=>⟨br [.aa, .aa, .aa, .ptr 0 0, .ptr 1 0, .ptr 2 0, .aa, .aa, .aa, .aa, .aa, .aa, .aa, .aa, .aa, .aa, .aa, .aa, .aa, .aa, .aa, .aa, .aa, .aa, .aa, .aa, .aa, .aa, .aa, .aa, .aa, .aa, .aa, .aa, .d (.sl (f.kids.map Pf.d)), .d (.i f.kids.length), .d (.i k)],xi p env e f,3⟩)
  (fun k=>k<=f.kids.length/\((f.kids.zip f.val.kids).take k).all (fun x=>aJ x.1.val x.2)=true) (fun k=>f.kids.length - k) 0 ⟨Nat.zero_le _,ao⟩ (bM.b9 _ af af dE (fun j hj=>rfl) ?_) (fun k hk=> ?_)
 ·exact dc
 refine ik ?_
 refine aj (fun h2=> ?_) (fun h2=> ?_)
 ·simp at h2
  obtain⟨x,hx⟩:=ai h2
  obtain⟨y,hy⟩:=ai (l:=f.val.kids) (k:=k) af
  have cp:=List.mem_of_getElem? hx
  have hz:(f.kids.zip f.val.kids)[k]? =some (x,y):=by rw[List.getElem?_zip_eq_some];exact⟨hx,hy⟩
  refine iB hx hy ?_
  refine aq (cT _ (hf.gE cp).val.1.1 _ (hf.val.1.gE (List.mem_of_getElem? hy)).1) rfl ?_
  cases g:aJ x.val y with
  |false=>
   refine iB hx hy ?_
   refine dk et cH ?_
   exact adk
  |true=>
   refine iB hx hy ?_
   refine aq cu rfl ?_
   refine iB hx hy ?_
   refine aw bG ?_
   refine aU ?_
   refine au (k+1) ⟨h2,cI hz hk.2 g⟩ af (bM.b9 _ af af dE (fun j hj=>mw) ?_)
   exact dc
 ·simp at h2
  have hc:=rX f.kids e.kids af im hv ih (fun y hy=>he.gE af af hy)
  rw[cw hk.2 (by rw[List.length_zip];omega),Bool.true_and]
  refine ik ?_
  cases g:(f.kids.length==e.kids.length&&(f.kids.zip e.kids).all fun x=>aR p x.1 env x.2)with
  |false=>
   rw[g,bP]at hc
   refine ew hc rfl ?_
   refine aU ?_
   rfl
  |true=>
   rw[g,e8]at hc
   refine ah hc rfl ?_
   refine aU ?_
   rfl
theorem Sx{p:Pg}{f:Pf}(hf:mY p.sig f)(ih:∀k∈f.kids,Cf p k){env:List Tm}(hv:da p.sig env){e:Tm}(he:cy p.sig env.length e)(r4:f.az=4):
 aQ Tryz.prog 171 [xK p env,e.d,f.d] (ym (aR p f env e)):=by
 have ht:aR p f env e=(e.op==3&&(aJ f.val (.mk e.op e.n (f.kids.map Pf.val))&&jW (f.kids.map (aR p)) env e.kids)):=by rw[b7,gM,if_neg (by omega),if_neg (by omega),if_neg (by omega),if_pos r4]
 rw[ht]
 refine aQ.ay mix VY ao ?_
 rw[ZX]
 by_cases h1:e.op=3
 rotate_left
 ·have bL:(e.op==3)=false:=by simpa using h1
  exact T3
 have bL:(e.op==3)=true:=by simpa using h1
 rw[bL,Bool.true_and]
 refine cf bL ?_
 refine ah cu rfl ?_
 refine aU ?_
 have hc:=Ap hf ih hv he (.inl h1)
 cases g:(aJ f.val (.mk e.op e.n (f.kids.map Pf.val))&&jW (f.kids.map (aR p)) env e.kids)with
 |false=>
  rw[g,bP]at hc
  refine ew hc rfl ?_
  refine aU ?_
  rfl
 |true=>
  rw[g,e8]at hc
  refine ah hc rfl ?_
  refine aU ?_
  rfl
theorem Ps{p:Pg}{f:Pf}(hf:mY p.sig f)(ih:∀k∈f.kids,Cf p k){env:List Tm}(hv:da p.sig env){e:Tm}(he:cy p.sig env.length e)(r5:f.az=5):
 aQ Tryz.prog 172 [xK p env,e.d,f.d] (ym (aR p f env e)):=by
 have ht:aR p f env e=(e.op==5&&(aJ f.val (.mk e.op e.n (f.kids.map Pf.val))&&jW (f.kids.map (aR p)) env e.kids)):=by rw[b7,gM,if_neg (by omega),if_neg (by omega),if_neg (by omega),if_neg (by omega),if_pos r5]
 rw[ht]
 refine aQ.ay mix VZ ao ?_
 rw[ZY]
 by_cases h1:e.op=5
 rotate_left
 ·have bL:(e.op==5)=false:=by simpa using h1
  exact T3
 have bL:(e.op==5)=true:=by simpa using h1
 rw[bL,Bool.true_and]
 refine cf bL ?_
 refine ah cu rfl ?_
 refine aU ?_
 have hc:=Ap hf ih hv he (.inr h1)
 cases g:(aJ f.val (.mk e.op e.n (f.kids.map Pf.val))&&jW (f.kids.map (aR p)) env e.kids)with
 |false=>
  rw[g,bP]at hc
  refine ew hc rfl ?_
  refine aU ?_
  rfl
 |true=>
  rw[g,e8]at hc
  refine ah hc rfl ?_
  refine aU ?_
  rfl
theorem Sy{p:Pg}{f:Pf}(hf:mY p.sig f){env:List Tm}{e:Tm}(r1:f.az=1):
 aQ Tryz.prog 168 [xK p env,e.d,f.d] (ym (aR p f env e)):=by
 have GG:=hf.len
 have ht:aR p f env e=(f.kids.length==0&&f.val.op==16):=by rw[b7,gM,if_pos r1]
 rw[ht]
 refine aQ.ay mix VV ao ?_
 rw[ZU]
 by_cases h1:f.val.op=16
 rotate_left
 ·have bL:(f.val.op==16)=false:=by simpa using h1
  rw[bL,Bool.and_false,bP]
  exact Tl
 have bL:(f.val.op==16)=true:=by simpa using h1
 rw[bL,Bool.and_true]
 by_cases h2:f.kids.length=0
 rotate_left
 ·have jb:((f.kids.length:Int)==0)=false:=by rw[beq_eq_false_iff_ne];omega
  have jx:(f.kids.length==0)=false:=by simpa using h2
  rw[jx,bP]
  refine iB bL jb ?_
  exact AF
 have jb:((f.kids.length:Int)==0)=true:=by rw[beq_iff_eq];omega
 have jx:(f.kids.length==0)=true:=by simpa using h2
 rw[jx,e8]
 refine iB bL jb ?_
 exact Tn
theorem Sz{p:Pg}{f:Pf}(hf:mY p.sig f){env:List Tm}(hv:da p.sig env){e:Tm}(he:cy p.sig env.length e)(r2:f.az=2):
 aQ Tryz.prog 169 [xK p env,e.d,f.d] (ym (aR p f env e)):=by
 have GG:=hf.len
 have ht:aR p f env e=(e.op==1&&(f.kids.length==0&&pA f.val ((env[e.n.toNat]?).getD ec))):=by rw[b7,gM,if_neg (by omega),if_pos r2]
 rw[ht]
 refine aQ.ay mix VW ao ?_
 rw[ZV]
 by_cases h1:e.op=1
 rotate_left
 ·have bL:(e.op==1)=false:=by simpa using h1
  exact XN
 have bL:(e.op==1)=true:=by simpa using h1
 rw[bL,Bool.true_and]
 by_cases h2:f.kids.length=0
 rotate_left
 ·have jb:((f.kids.length:Int)==0)=false:=by rw[beq_eq_false_iff_ne];omega
  have jx:(f.kids.length==0)=false:=by simpa using h2
  rw[jx,Bool.false_and,bP]
  exact XT
 have jb:((f.kids.length:Int)==0)=true:=by rw[beq_iff_eq];omega
 have jx:(f.kids.length==0)=true:=by simpa using h2
 obtain⟨v0,v1⟩:=he.var h1
 obtain⟨x,hx⟩:=ai (l:=env) (k:=e.n.toNat) af
 have Qg:=hv.all x (List.mem_of_getElem? hx)
 rw[hx,Option.getD_some,jx,Bool.true_and]
 refine IQ bL jb hx v0 ?_
 refine aq (Ea f.val hf.val.1.1 hf.val.1.2 x Qg.1 Qg.2) rfl ?_
 cases g:pA f.val x with
 |false=>
  rw[bP]
  refine cf bL ?_
  exact K9
 |true=>
  rw[e8]
  refine cf bL ?_
  refine aq cu rfl ?_
  exact QC
theorem SA{p:Pg}{f:Pf}(hf:mY p.sig f){env:List Tm}{e:Tm}(he:e.fits)(r3:f.az=3):
 aQ Tryz.prog 170 [xK p env,e.d,f.d] (ym (aR p f env e)):=by
 have GG:=hf.len
 have hsy:aJ f.val e=aJ e f.val:=by rw[Bool.eq_iff_iff,bu,bu];exact eq_comm
 have ht:aR p f env e=(e.op==2&&(f.kids.length==0&&aJ e f.val)):=by rw[b7,gM,if_neg (by omega),if_neg (by omega),if_pos r3,hsy]
 rw[ht]
 refine aQ.ay mix VX ao ?_
 rw[ZW]
 by_cases h1:e.op=2
 rotate_left
 ·have bL:(e.op==2)=false:=by simpa using h1
  exact Mf
 have bL:(e.op==2)=true:=by simpa using h1
 rw[bL,Bool.true_and]
 by_cases h2:f.kids.length=0
 rotate_left
 ·have jb:((f.kids.length:Int)==0)=false:=by rw[beq_eq_false_iff_ne];omega
  have jx:(f.kids.length==0)=false:=by simpa using h2
  rw[jx,Bool.false_and,bP]
  refine iB bL jb ?_
  exact AF
 have jb:((f.kids.length:Int)==0)=true:=by rw[beq_iff_eq];omega
 have jx:(f.kids.length==0)=true:=by simpa using h2
 rw[jx,Bool.true_and]
 refine iB bL jb ?_
 refine ah (cT e he f.val hf.val.1.1) rfl ?_
 cases g:aJ e f.val with
 |false=>
  rw[bP]
  exact Tl
 |true=>
  rw[e8]
  refine cf bL ?_
  exact Tn
theorem lJ{p:Pg}{l:List Pf}{i:Nat}{x:Pf}(h:l[i]? =some x):kG (l.map (aR p)) i=aR p x:=LQ
theorem xj{p:Pg}{f:Pf}(hf:mY p.sig f)(ih:∀k∈f.kids,Cf p k){env:List Tm}(hv:da p.sig env){e:Tm}(he:cy p.sig env.length e)(i:Nat)(hi:i<2):
 aQ Tryz.prog 224 [xK p env,e.d,f.d, .i i] (ym (e.op==7&&(f.kids.length==1&&aJ (aX f.kids 0) f.val&&kG (f.kids.map (aR p)) 0 env (cC e i)))):=by
 have GG:=hf.len
 refine aQ.ay mix Wt ao ?_
 rw[aas]
 by_cases h1:e.op=7
 rotate_left
 ·have bL:(e.op==7)=false:=by simpa using h1
  exact XN
 have bL:(e.op==7)=true:=by simpa using h1
 rw[bL,Bool.true_and]
 by_cases h2:f.kids.length=1
 rotate_left
 ·have jb:((f.kids.length:Int)==1)=false:=by rw[beq_eq_false_iff_ne];omega
  have jx:(f.kids.length==1)=false:=by simpa using h2
  rw[jx,Bool.false_and,Bool.false_and,bP]
  exact XT
 have jb:((f.kids.length:Int)==1)=true:=by rw[beq_iff_eq];omega
 have jx:(f.kids.length==1)=true:=by simpa using h2
 have h3:=m8 he.node1 af af
 obtain⟨x,hx⟩:=ai (l:=f.kids) (k:=0) af
 obtain⟨a,ha⟩:=ai (l:=e.kids) (k:=i) af
 have cp:=List.mem_of_getElem? hx
 rw[bF hx,lJ hx,eY ha,jx,Bool.true_and]
 refine su bL jb hx ?_
 refine aq (cT _ (hf.gE cp).val.1.1 f.val hf.val.1.1) rfl ?_
 cases g:aJ x.val f.val with
 |false=>
  rw[Bool.false_and,bP]
  refine su bL jb hx ?_
  exact K9
 |true=>
  rw[Bool.true_and]
  refine su bL jb hx ?_
  refine aq cu rfl ?_
  refine aU ?_
  refine aw bG ?_
  refine iB hx ha ?_
  have hc:=ih x cp env a hv (he.gE af af (List.mem_of_getElem? ha))
  cases g2:aR p x env a with
  |false=>
   exact TM
  |true=>
   exact TR
theorem Pt{p:Pg}{f:Pf}(hf:mY p.sig f)(ih:∀k∈f.kids,Cf p k){env:List Tm}(hv:da p.sig env){e:Tm}(he:cy p.sig env.length e)(r7:f.az=7):
 aQ Tryz.prog 174 [xK p env,e.d,f.d] (ym (aR p f env e)):=by
 have ht:aR p f env e=(e.op==7&&(f.kids.length==1&&aJ (aX f.kids 0) f.val&&kG (f.kids.map (aR p)) 0 env (cC e 0))):=by rw[b7,gM,if_neg (by omega),if_neg (by omega),if_neg (by omega),if_neg (by omega),if_neg (by omega),if_neg (by omega),if_pos r7]
 have hc:=xj hf ih hv he 0 af
 rw[<- ht]at hc
 refine aQ.ay mix V1 ao ?_
 rw[Z0]
 refine aU ?_
 cases g:aR p f env e with
 |false=>
  exact Uw
 |true=>
  exact Uu
theorem KJ{p:Pg}{f:Pf}(hf:mY p.sig f)(ih:∀k∈f.kids,Cf p k){env:List Tm}(hv:da p.sig env){e:Tm}(he:cy p.sig env.length e)(r8:f.az=8):
 aQ Tryz.prog 175 [xK p env,e.d,f.d] (ym (aR p f env e)):=by
 have ht:aR p f env e=(e.op==7&&(f.kids.length==1&&aJ (aX f.kids 0) f.val&&kG (f.kids.map (aR p)) 0 env (cC e 1))):=by rw[b7,gM,if_neg (by omega),if_neg (by omega),if_neg (by omega),if_neg (by omega),if_neg (by omega),if_neg (by omega),if_neg (by omega),if_pos r8]
 have hc:=xj hf ih hv he 1 af
 rw[<- ht]at hc
 refine aQ.ay mix V2 ao ?_
 rw[Z1]
 refine aU ?_
 cases g:aR p f env e with
 |false=>
  exact Uw
 |true=>
  exact Uu
theorem GH(l:List Tm)(hl:l.length<=1000000)(o:Nat->ab)(nx:Nat)(hg:Good o nx)(K X:V->(Nat->ab)->Nat->Prop)
 (hK:∀v o' nx' id,(v= .bO/\l=[])\/(v= .osl id 1/\o' id= .arr 1 31 3 (l.map Tm.d))->nx<=id->id<nx'->nx<=nx'->Good o' nx'->(∀j,j<nx->o' j=o j)->K v o' nx'):
 cR Tryz.prog 94 [.d (.sl (l.map Tm.d))] o nx K X:=by
 cases il:l with
 |nil=>
  subst il
  refine cR.ay mix NZ ao ?_
  rw[c94]
  have hu:Tryz.prog.underlying 28=some (.slice 31):=ag
  have heq:∀O,sj Tryz.prog O 28 true (.d (.sl [])) .bO=some .fI:=by
   intro O
   unfold sj
   rw[hu]
   rfl
  simp only[List.map_nil]
  refine Ch heq ?_
  simp only[List.isEmpty_nil,if_true]
  refine Ch heq ?_
  exact⟨hK _ _ _ nx (.inl ⟨rfl,rfl⟩) af af af dE fun _ _=>rfl,hK _ _ _ (nx+3) (.inr ⟨rfl,ae _ _ _⟩) af af af dE fun j hj=>by(repeat(first|rfl|rw[ae]|rw[ak _ _ _ _ (by omega)]))⟩
 |cons a r=>
  rw[<- il]
  refine xc l (by rw[il];simp) hl o nx K X (hK _ _ _ (nx+3) (.inr ⟨rfl,ae _ _ _⟩) af af af dE fun j hj=>ak _ _ _ _ af)
set_option maxHeartbeats 1000000 in
theorem SB{p:Pg}{f:Pf}(hf:mY p.sig f)(ih:∀k∈f.kids,Cf p k){env:List Tm}(hv:da p.sig env){e:Tm}(he:cy p.sig env.length e)(r9:f.az=9):
 aQ Tryz.prog 176 [xK p env,e.d,f.d] (ym (aR p f env e)):=by
 have GG:=hf.len
 have P9:=hv.len
 have ht:aR p f env e=(e.op==8&&(f.kids.length==2&&aJ (aX f.kids 1) f.val&&kG (f.kids.map (aR p)) 0 env (cC e 0)&&kG (f.kids.map (aR p)) 1 (gx env e.n (aX f.kids 0)) (cC e 1))):=by
  rw[b7,gM,if_neg (by omega),if_neg (by omega),if_neg (by omega),if_neg (by omega),if_neg (by omega),if_neg (by omega),if_neg (by omega),if_neg (by omega),if_pos r9]
 rw[ht]
 refine aQ.ay mix V3 ao ?_
 rw[Z2]
 by_cases h1:e.op=8
 rotate_left
 ·have bL:(e.op==8)=false:=by simpa using h1
  exact XN
 have bL:(e.op==8)=true:=by simpa using h1
 rw[bL,Bool.true_and]
 by_cases h2:f.kids.length=2
 rotate_left
 ·have jb:((f.kids.length:Int)==2)=false:=by rw[beq_eq_false_iff_ne];omega
  have jx:(f.kids.length==2)=false:=by simpa using h2
  rw[jx,Bool.false_and,Bool.false_and,Bool.false_and,bP]
  exact XT
 have jb:((f.kids.length:Int)==2)=true:=by rw[beq_iff_eq];omega
 have jx:(f.kids.length==2)=true:=by simpa using h2
 have hn:=he.node1
 simp[bz,h1,cF]at hn
 obtain⟨x,hx⟩:=ai (l:=f.kids) (k:=0) af
 obtain⟨y,hy⟩:=ai (l:=f.kids) (k:=1) af
 obtain⟨a,ha⟩:=ai (l:=e.kids) (k:=0) af
 obtain⟨b,hb⟩:=ai (l:=e.kids) (k:=1) af
 have cp:=List.mem_of_getElem? hx
 have s9:=List.mem_of_getElem? hy
 rw[bF hx,bF hy,lJ hx,lJ hy,eY ha,eY hb,jx,Bool.true_and]
 refine IQ bL jb hx hy ?_
 refine aq (cT _ (hf.gE s9).val.1.1 f.val hf.val.1.1) rfl ?_
 cases g:aJ y.val f.val with
 |false=>
  rw[Bool.false_and,Bool.false_and,bP]
  refine IQ bL jb hx hy ?_
  exact K9
 |true=>
 rw[Bool.true_and]
 refine IQ bL jb hx hy ?_
 refine aq cu rfl ?_
 refine aU ?_
 refine aw bG ?_
 refine iB hx ha ?_
 have hc:=ih x cp env a hv (he.agX h1 ha)
 cases g2:aR p x env a with
 |false=>
  rw[g2,bP]at hc
  rw[Bool.false_and,bP]
  refine dk hc cH ?_
  refine aU ?_
  refine eu ⟨bG, ?_⟩
  exact K7
 |true=>
 rw[g2,e8]at hc
 rw[Bool.true_and]
 refine aq hc rfl ?_
 refine aU ?_
 refine aw bG ?_
 refine aU ?_
 refine cW (GH env af _ _ dE _ _ fun v o1 n1 id q1 q2 q3 q4 q5 q6=> ?_)
 refine aU ?_
 obtain⟨n,hn0⟩:∃n:Nat,e.n=n:=⟨e.n.toNat,af⟩
 have E5:n<=19:=af
 have hgw:F8 o1 (fun j=>j=id) 31 3 (env.map Tm.d) v:=by
  rcases q1 with⟨a1,a2⟩|⟨a1,a2⟩
  ·exact .inl ⟨a1,by rw[a2];rfl,bG⟩
  ·exact .inr ⟨id,1,rfl,a1,a2⟩
 let m:=n+1 - env.length
 have hm:m=n+1 - env.length:=rfl
 refine aH (fun i:Nat=>⟨br [.aa, .aa, .aa, .ptr 0 0, .ptr 1 0, .ptr 2 0, .osl 3 0],aM (xi p env e f) 3 (.arr 0 31 3 ((env++List.replicate i ec).map Tm.d)),4⟩)
  (fun i=>i<=m) (fun i=>m - i) 0 (Nat.zero_le _) ?_ ?_
 ·refine bM.jP (fun j=>j=id) v 3 _ af (lt3 (cP (y:= .row (Iy p env)) Xq dn (bE rfl iX)) (cP (y:= .row e.row) Xq dn (bE rfl iX)) (cP (y:= .row f.row) Xq dn (bE rfl iX))) (ae _ _ _) (by simpa using hgw) (fun j hj=>by unfold xi;(repeat(first|rfl|rw[ae]|rw[ak _ _ _ _ (by omega)]))) (fun j h h2=>af) ?_
  exact oP
 rintro k hk
 replace hk:k<=m:=hk
 have e0:(env++List.replicate k ec).length=env.length+k:=ao
 refine iB e0 hn0 ?_
 refine aj (fun h2=> ?_) (fun h2=> ?_)
 ·simp at h2
  refine dW e0 ?_
  refine aT xe ?_
  refine dW e0 ?_
  refine au (k+1) af af (bM.jP (fun j=>j=3) (.osl 3 1) 3 _ af (lt3 (cP (y:= .row (Iy p env)) dn dn (bE rfl iX)) (cP (y:= .row e.row) dn dn (bE rfl iX)) (cP (y:= .row f.row) dn dn (bE rfl iX))) (ae _ _ _) (.inr ⟨3,1,rfl,rfl,by(repeat(first|rfl|rw[ae]|rw[ak _ _ _ _ (by omega)]));rw[List.replicate_succ', <- List.append_assoc,List.map_append (l₂:=[ec])];rfl⟩) (fun j hj=>by unfold xi;(repeat(first|rfl|rw[ae]|rw[ak _ _ _ _ (by omega)]))) (fun j h h2=>af) ?_)
  exact oP
 ·simp at h2
  have Si:k=m:=af
  obtain⟨z,hz⟩:=ai (l:=env++List.replicate k ec) (k:=n) af
  obtain⟨zo,zn,zk⟩:=z
  simp+contextual (disch:=first|omega|simp only[go_sem,false_implies]) only[go_sem,wrap64,if_pos,List.length_map,e0,hn0,hx,hz,Tm.jS]
  have Bo:(List.map Tm.d (env++List.replicate k ec)).set n x.val.d=(gx env e.n x.val).map Tm.d:=by
   rw[hn0,An,List.map_set,Si]
  rw[Bo]
  refine aw bG ?_
  have hwo:da p.sig (gx env e.n x.val):=Ex hv af (hf.gE cp).val.1
  have Yh:(gx env e.n x.val).length=max env.length (e.n.toNat+1):=tt _ _ _
  refine iB hy hb ?_
  refine aN (Pl p env (gx env e.n x.val)) ?_
  refine iB hy hb ?_
  have hc:=ih y s9 (gx env e.n x.val) b hwo (he.agY h1 hb af af)
  cases g3:aR p y (gx env e.n x.val) b with
  |false=>
   rw[g3,bP]at hc
   rw[bP]
   refine dk hc cH ?_
   refine aU ?_
   refine eu ⟨bG, ?_⟩
   exact K7
  |true=>
   rw[g3,e8]at hc
   rw[e8]
   refine aq hc rfl ?_
   exact QC
theorem Pu(l:List Int)(x:Int)(hl:l.length<=1000):aQ Tryz.prog 261 [.sl (l.map .i), .i x] (.ret [.i (match l.findIdx? (· ==x)with|some i=>(i:Int)|none=> -1)]):=by
 refine aQ.ay mix WV ao ?_
 rw[aaR]
 refine ik ?_
 refine aH (fun k:Nat=>⟨br [.d (.sl (l.map .i)), .d (.i x), .aa, .aa, .aa, .aa, .d (.sl (l.map .i)), .d (.i l.length), .d (.i k)],fun _=> .no,0⟩)
  (fun k=>k<=l.length/\∀j y,j<k->l[j]? =some y->(y==x)=false) (fun k=>l.length - k) 0 ⟨Nat.zero_le _,fun _ _ h=>absurd h af⟩ (bM.d0 _ ?_) (fun k hk=> ?_)
 ·exact dc
 refine ik ?_
 refine aj (fun h2=> ?_) (fun h2=> ?_)
 ·simp at h2
  obtain⟨y,hy⟩:=ai h2
  refine dW hy ?_
  refine aj (fun h3=> ?_) (fun h3=> ?_)
  ·have sR:x=y:=by simpa using h3
   have:l.findIdx? (· ==x)=some k:=by
    rw[List.findIdx?_eq_some_iff_getElem]
    obtain⟨si,e⟩:=List.getElem?_eq_some_iff.1 hy
    refine⟨si,by rw[e];simp[sR],fun j hj=> ?_⟩
    have:=hk.2 j _ hj (List.getElem?_eq_getElem af)
    simpa using this
   rw[this]
   exact dM
  ·refine aU ?_
   refine au (k+1) ⟨h2,fun j z hj hz=> ?_⟩ af (bM.d0 _ ?_)
   ·by_cases e:j=k
    ·subst e;rw[hy]at hz;injection hz with hz;subst hz
     rw[beq_eq_false_iff_ne];intro e;subst e;simp at h3
    ·exact hk.2 j z af hz
   ·exact dc
 ·simp at h2
  have:l.findIdx? (· ==x)=none:=by
   rw[List.findIdx?_eq_none_iff]
   intro y hy
   obtain⟨j,hj,e⟩:=List.getElem_of_mem hy
   exact hk.2 j y af (by rw[List.getElem?_eq_getElem hj,e])
  rw[this]
  exact dM
theorem Pv(l:List Int)(x:Int)(hl:l.length<=1000):aQ Tryz.prog 255 [.sl (l.map .i), .i x] (.ret [.bool (l.contains x)]):=by
 refine aQ.ay mix WQ ao ?_
 rw[aaM]
 refine aU ?_
 refine ah (Pu l x hl) rfl ?_
 refine aU ?_
 cases h:l.findIdx? (· ==x)with
 |some i=>
  have:l.contains x=true:=by
   rw[List.findIdx?_eq_some_iff_getElem]at h
   obtain⟨h1,h2,_⟩:=h
   have h2:l[i]=x:=by simpa using h2
   rw[List.contains_iff_mem, <- h2];exact List.getElem_mem h1
  rw[this]
  simp
 |none=>
  have:l.contains x=false:=by
   rw[List.findIdx?_eq_none_iff]at h
   rw[Bool.eq_false_iff];intro hc
   have:=h x (List.contains_iff_mem.1 hc)
   simp at this
  rw[this]
  simp
theorem BZ{α:Type}{l:List α}(h:l.length=2):∃a b,l=[a,b]:=by
 match l,h with
 |[a,b],_=>exact⟨a,b,rfl⟩
def twR(b:Bool)(x y:Tm):R:=if b=true then .ret [x.d,y.d]else .bW oJ
theorem Aq(x y:Tm):twR true x y= .ret [x.d,y.d]:=rfl
theorem G4(x y:Tm):twR false x y= .bW oJ:=rfl
def my(p:Pg)(ops:List Int)(f:Pf)(env:List Tm)(e:Tm):Bool:=ops.contains e.op&&(f.kids.length==2&&(kG (f.kids.map (aR p)) 0 env (cC e 0)&&kG (f.kids.map (aR p)) 1 env (cC e 1)))
theorem rY{p:Pg}{f:Pf}(hf:mY p.sig f)(ih:∀k∈f.kids,Cf p k){env:List Tm}(hv:da p.sig env){e:Tm}(he:cy p.sig env.length e)(ops:List Int)(ho:ops.length<=1000)(ho2:∀o∈ops,9<=o/\o<=15):
 aQ Tryz.prog 226 [xK p env,e.d,f.d, .sl (ops.map .i)] (twR (my p ops f env e) (aX f.kids 0) (aX f.kids 1)):=by
 have GG:=hf.len
 have im:=((Tm.aF e).1 he.fits).1
 refine aQ.ay mix Wv ao ?_
 rw[aau]
 refine aU ?_
 refine ah (Pv ops e.op ho) rfl ?_
 unfold my
 cases h1:ops.contains e.op with
 |false=>
  rw[Bool.false_and,G4]
  exact XP
 |true=>
 have eJ:=ho2 e.op (List.contains_iff_mem.1 h1)
 have he2:=m8 he.node1 af af
 rw[Bool.true_and]
 refine aU ?_
 refine ah cu rfl ?_
 refine aU ?_
 have hc:=rX f.kids e.kids af im hv ih (fun y hy=>he.gE af af hy)
 rw[he2]at hc
 by_cases h2:f.kids.length=2
 rotate_left
 ·have jb:(f.kids.length==2)=false:=by simpa using h2
  rw[jb,Bool.false_and,bP]at hc
  rw[jb,Bool.false_and,G4]
  exact adb
 have jb:(f.kids.length==2)=true:=by simpa using h2
 obtain⟨a,b,hab⟩:=BZ he2
 obtain⟨x,y,hxy⟩:=BZ h2
 have hx:f.kids[0]? =some x:=by rw[hxy];rfl
 have hy:f.kids[1]? =some y:=by rw[hxy];rfl
 have ha:e.kids[0]? =some a:=by rw[hab];rfl
 have hb:e.kids[1]? =some b:=by rw[hab];rfl
 have hz:((f.kids.zip e.kids).all fun x=>aR p x.1 env x.2)=(aR p x env a&&aR p y env b):=by rw[hxy,hab];simp
 rw[jb,Bool.true_and,hz]at hc
 rw[jb,Bool.true_and,lJ hx,lJ hy,eY ha,eY hb,bF hx,bF hy]
 cases g:(aR p x env a&&aR p y env b)with
 |false=>
  rw[g,bP]at hc
  rw[G4]
  exact adb
 |true=>
  rw[g,e8]at hc
  rw[Aq]
  refine ah hc rfl ?_
  refine iB hx hy ?_
  exact XF
theorem rZ{p:Pg}{f:Pf}{env:List Tm}{e:Tm}(h:10<=f.az/\f.az<=14):aR p f env e=(f.kids.length==2&&jX f.az e f.val (aX f.kids 0) (aX f.kids 1)&&(kG (f.kids.map (aR p)) 0 env (cC e 0)&&kG (f.kids.map (aR p)) 1 env (cC e 1))):=by
 rw[b7,gM,if_neg (by omega),if_neg (by omega),if_neg (by omega),if_neg (by omega),if_neg (by omega),if_neg (by omega),if_neg (by omega),if_neg (by omega),if_neg (by omega),if_neg (by omega)]
theorem Pw{p:Pg}{f:Pf}(hf:mY p.sig f)(ih:∀k∈f.kids,Cf p k){env:List Tm}(hv:da p.sig env){e:Tm}(he:cy p.sig env.length e)(r:f.az=10):
 aQ Tryz.prog 177 [xK p env,e.d,f.d] (ym (aR p f env e)):=by
 have ht:aR p f env e=(my p [9] f env e&&(aJ (aX f.kids 0) (ed true)&&aJ (aX f.kids 1) f.val)):=by
  rw[rZ (by omega),r]
  have:jX 10 e f.val (aX f.kids 0) (aX f.kids 1)=(e.op==9&&(aJ (aX f.kids 0) (ed true)&&aJ (aX f.kids 1) f.val)):=rfl
  rw[this,my,List.contains_cons,List.contains_nil,Bool.or_false]
  ac_rfl
 have hc:=rY hf ih hv he [9] bG bG
 rw[ht]
 refine aQ.ay mix V4 ao ?_
 rw[Z3]
 refine aU ?_
 cases h1:my p [9] f env e with
 |false=>
  exact Mb
 |true=>
 rw[h1,Aq]at hc
 have h2:f.kids.length=2:=by
  exact LA
 obtain⟨x,hx⟩:=ai (l:=f.kids) (k:=0) af
 obtain⟨y,hy⟩:=ai (l:=f.kids) (k:=1) af
 have nM:=(hf.gE (List.mem_of_getElem? hx)).val
 have xg:=(hf.gE (List.mem_of_getElem? hy)).val
 rw[bF hx,bF hy]at hc
 rw[bF hx,bF hy,Bool.true_and]
 refine aT hc ?_
 refine aU ?_
 refine aN (lh true) ?_
 refine aU ?_
 refine aq (cT _ nM.1.1 _ (dO true)) rfl ?_
 cases g1:aJ x.val (ed true)with
 |false=>
  exact QD
 |true=>
 rw[Bool.true_and]
 refine aU ?_
 refine aq (cT _ xg.1.1 _ hf.val.1.1) rfl ?_
 cases g2:aJ y.val f.val with
 |false=>
  exact L8
 |true=>
 exact L9
set_option maxHeartbeats 1000000 in
theorem Px{p:Pg}{f:Pf}(hf:mY p.sig f)(ih:∀k∈f.kids,Cf p k){env:List Tm}(hv:da p.sig env){e:Tm}(he:cy p.sig env.length e)(r:f.az=11):
 aQ Tryz.prog 178 [xK p env,e.d,f.d] (ym (aR p f env e)):=by
 have ht:aR p f env e=(my p [10] f env e&&(aJ (aX f.kids 0) (ed true)&&aJ (aX f.kids 1) (ed true)&&aJ f.val (ed true))):=by
  rw[rZ (by omega),r]
  have:jX 11 e f.val (aX f.kids 0) (aX f.kids 1)=(e.op==10&&(aJ (aX f.kids 0) (ed true)&&aJ (aX f.kids 1) (ed true)&&aJ f.val (ed true))):=rfl
  rw[this,my]
  simp only[List.contains_cons,List.contains_nil,Bool.or_false]
  try rw[Bool.or_assoc]
  ac_rfl
 have hc:=rY hf ih hv he [10] bG bG
 rw[ht]
 refine aQ.ay mix V5 ao ?_
 rw[Z4]
 refine aU ?_
 cases h1:my p [10] f env e with
 |false=>
  exact Mb
 |true=>
 rw[h1,Aq]at hc
 have h2:f.kids.length=2:=by
  exact LA
 obtain⟨x,hx⟩:=ai (l:=f.kids) (k:=0) af
 obtain⟨y,hy⟩:=ai (l:=f.kids) (k:=1) af
 have nM:=(hf.gE (List.mem_of_getElem? hx)).val
 have xg:=(hf.gE (List.mem_of_getElem? hy)).val
 rw[bF hx,bF hy]at hc
 rw[bF hx,bF hy,Bool.true_and]
 refine aT hc ?_
 refine aU ?_
 refine aN (lh true) ?_
 refine aU ?_
 refine aq (cT _ nM.1.1 _ (dO true)) rfl ?_
 cases g1:aJ x.val (ed true)with
 |false=>
  exact Ts
 |true=>
 rw[Bool.true_and]
 refine aU ?_
 refine aN (lh true) ?_
 refine aU ?_
 refine aq (cT _ xg.1.1 _ (dO true)) rfl ?_
 cases g2:aJ y.val (ed true)with
 |false=>
  exact QD
 |true=>
 rw[Bool.true_and]
 refine aU ?_
 refine aN (lh true) ?_
 refine aU ?_
 refine aq (cT _ hf.val.1.1 _ (dO true)) rfl ?_
 cases g3:aJ f.val (ed true)with
 |false=>
  exact L8
 |true=>
 exact L9
set_option maxHeartbeats 1000000 in
theorem KK{p:Pg}{f:Pf}(hf:mY p.sig f)(ih:∀k∈f.kids,Cf p k){env:List Tm}(hv:da p.sig env){e:Tm}(he:cy p.sig env.length e)(r:f.az=12):
 aQ Tryz.prog 179 [xK p env,e.d,f.d] (ym (aR p f env e)):=by
 have ht:aR p f env e=(my p [11] f env e&&(aJ (aX f.kids 0) (aX f.kids 1)&&bS 16 (aX f.kids 0)&&aJ f.val (ed true))):=by
  rw[rZ (by omega),r]
  have:jX 12 e f.val (aX f.kids 0) (aX f.kids 1)=(e.op==11&&(aJ (aX f.kids 0) (aX f.kids 1)&&bS 16 (aX f.kids 0)&&aJ f.val (ed true))):=rfl
  rw[this,my]
  simp only[List.contains_cons,List.contains_nil,Bool.or_false]
  try rw[Bool.or_assoc]
  ac_rfl
 have hc:=rY hf ih hv he [11] bG bG
 rw[ht]
 refine aQ.ay mix V6 ao ?_
 rw[Z5]
 refine aU ?_
 cases h1:my p [11] f env e with
 |false=>
  exact Mb
 |true=>
 rw[h1,Aq]at hc
 have h2:f.kids.length=2:=by
  exact LA
 obtain⟨x,hx⟩:=ai (l:=f.kids) (k:=0) af
 obtain⟨y,hy⟩:=ai (l:=f.kids) (k:=1) af
 have nM:=(hf.gE (List.mem_of_getElem? hx)).val
 have xg:=(hf.gE (List.mem_of_getElem? hy)).val
 rw[bF hx,bF hy]at hc
 rw[bF hx,bF hy,Bool.true_and]
 refine aT hc ?_
 refine aU ?_
 refine aq (cT _ nM.1.1 _ xg.1.1) rfl ?_
 cases g1:aJ x.val y.val with
 |false=>
  exact Ts
 |true=>
 rw[Bool.true_and]
 refine aU ?_
 refine aq (wM _ nM.1.1 nM.1.2) rfl ?_
 have hk:decide (1<=Gg x.val)=bS 16 x.val:=by rw[Bool.eq_iff_iff,decide_eq_true_eq];exact(Gh x.val nM.1.2).2.1
 cases g2:bS 16 x.val with
 |false=>
  rw[g2]at hk
  rw[Bool.false_and,bP]
  refine cf hk ?_
  exact K9
 |true=>
 rw[g2]at hk
 rw[Bool.true_and]
 refine cf hk ?_
 refine aN (lh true) ?_
 refine aU ?_
 refine aq (cT _ hf.val.1.1 _ (dO true)) rfl ?_
 cases g3:aJ f.val (ed true)with
 |false=>
  exact L8
 |true=>
 exact L9
set_option maxHeartbeats 1000000 in
theorem Py{p:Pg}{f:Pf}(hf:mY p.sig f)(ih:∀k∈f.kids,Cf p k){env:List Tm}(hv:da p.sig env){e:Tm}(he:cy p.sig env.length e)(r:f.az=13):
 aQ Tryz.prog 180 [xK p env,e.d,f.d] (ym (aR p f env e)):=by
 have ht:aR p f env e=(my p [12] f env e&&((bS 16 (aX f.kids 0)&&bS 1 (aX f.kids 0))&&(bS 16 (aX f.kids 1)&&bS 1 (aX f.kids 1))&&aJ f.val (ed (aJ (aX f.kids 0) (aX f.kids 1))))):=by
  rw[rZ (by omega),r]
  have:jX 13 e f.val (aX f.kids 0) (aX f.kids 1)=(e.op==12&&((bS 16 (aX f.kids 0)&&bS 1 (aX f.kids 0))&&(bS 16 (aX f.kids 1)&&bS 1 (aX f.kids 1))&&aJ f.val (ed (aJ (aX f.kids 0) (aX f.kids 1))))):=rfl
  rw[this,my]
  simp only[List.contains_cons,List.contains_nil,Bool.or_false]
  try rw[Bool.or_assoc]
  ac_rfl
 have hc:=rY hf ih hv he [12] bG bG
 rw[ht]
 refine aQ.ay mix V7 ao ?_
 rw[Z6]
 refine aU ?_
 cases h1:my p [12] f env e with
 |false=>
  exact Mb
 |true=>
 rw[h1,Aq]at hc
 have h2:f.kids.length=2:=by
  exact LA
 obtain⟨x,hx⟩:=ai (l:=f.kids) (k:=0) af
 obtain⟨y,hy⟩:=ai (l:=f.kids) (k:=1) af
 have nM:=(hf.gE (List.mem_of_getElem? hx)).val
 have xg:=(hf.gE (List.mem_of_getElem? hy)).val
 rw[bF hx,bF hy]at hc
 rw[bF hx,bF hy,Bool.true_and]
 refine aT hc ?_
 refine aU ?_
 have hg:∀z:Tm,Pn p.sig z->(Gg z==2)=(bS 16 z&&bS 1 z):=fun z hz=>by
  rw[Bool.eq_iff_iff,Bool.and_eq_true,beq_iff_eq];exact(Gh z hz).2.2
 have x6:=hg _ nM.1.2
 have se:=hg _ xg.1.2
 refine aq (wM _ nM.1.1 nM.1.2) rfl ?_
 cases g1:(bS 16 x.val&&bS 1 x.val)with
 |false=>
  rw[g1]at x6
  rw[Bool.false_and,Bool.false_and,bP]
  refine cf x6 ?_
  exact K9
 |true=>
 rw[g1]at x6
 rw[Bool.true_and]
 refine cf x6 ?_
 refine aq (wM _ xg.1.1 xg.1.2) rfl ?_
 cases g2:(bS 16 y.val&&bS 1 y.val)with
 |false=>
  rw[g2]at se
  rw[Bool.false_and,bP]
  refine cf se ?_
  exact K9
 |true=>
 rw[g2]at se
 rw[Bool.true_and]
 refine cf se ?_
 refine aq (cT _ nM.1.1 _ xg.1.1) rfl ?_
 refine aU ?_
 refine aN (lh _) ?_
 refine aU ?_
 refine aq (cT _ hf.val.1.1 _ (dO _)) rfl ?_
 cases g3:aJ f.val (ed (aJ x.val y.val))with
 |false=>
  exact L8
 |true=>
 exact L9
set_option maxHeartbeats 1000000 in
theorem SC{p:Pg}{f:Pf}(hf:mY p.sig f)(ih:∀k∈f.kids,Cf p k){env:List Tm}(hv:da p.sig env){e:Tm}(he:cy p.sig env.length e)(r:f.az=14):
 aQ Tryz.prog 181 [xK p env,e.d,f.d] (ym (aR p f env e)):=by
 have ht:aR p f env e=(my p [13,14,15] f env e&&((aX f.kids 0).op==2&&(aX f.kids 1).op==2&&aJ f.val (ns e.op (aX f.kids 0).n (aX f.kids 1).n))):=by
  rw[rZ (by omega),r]
  have:jX 14 e f.val (aX f.kids 0) (aX f.kids 1)=((e.op==13||e.op==14||e.op==15)&&((aX f.kids 0).op==2&&(aX f.kids 1).op==2&&aJ f.val (ns e.op (aX f.kids 0).n (aX f.kids 1).n))):=rfl
  rw[this,my]
  simp only[List.contains_cons,List.contains_nil,Bool.or_false]
  try rw[Bool.or_assoc]
  ac_rfl
 have hc:=rY hf ih hv he [13,14,15] bG bG
 rw[ht]
 refine aQ.ay mix V8 ao ?_
 rw[Z7]
 refine aU ?_
 cases h1:my p [13,14,15] f env e with
 |false=>
  exact Mb
 |true=>
 rw[h1,Aq]at hc
 have h2:f.kids.length=2:=by
  exact LA
 obtain⟨x,hx⟩:=ai (l:=f.kids) (k:=0) af
 obtain⟨y,hy⟩:=ai (l:=f.kids) (k:=1) af
 have nM:=(hf.gE (List.mem_of_getElem? hx)).val
 have xg:=(hf.gE (List.mem_of_getElem? hy)).val
 rw[bF hx,bF hy]at hc
 rw[bF hx,bF hy,Bool.true_and]
 refine aT hc ?_
 refine aU ?_
 have eJ:e.op=13\/e.op=14\/e.op=15:=by
  unfold my at h1
  simp only[Bool.and_eq_true,List.contains_cons,List.contains_nil,Bool.or_eq_true,beq_iff_eq]at h1
  rcases h1.1 with h|h|h|h
  ·exact .inl h
  ·exact .inr (.inl h)
  ·exact .inr (.inr h)
  ·cases h
 by_cases g1:x.val.op=2
 rotate_left
 ·have yj:(x.val.op==2)=false:=by simpa using g1
  rw[yj,Bool.false_and,Bool.false_and,bP]
  refine cf yj ?_
  exact AF
 have yj:(x.val.op==2)=true:=by simpa using g1
 rw[yj,Bool.true_and]
 by_cases g2:y.val.op=2
 rotate_left
 ·have Lc:(y.val.op==2)=false:=by simpa using g2
  rw[Lc,Bool.false_and,bP]
  refine xB yj Lc ?_
  exact AF
 have Lc:(y.val.op==2)=true:=by simpa using g2
 rw[Lc,Bool.true_and]
 obtain⟨x0,x1⟩:=xf nM.1.2 g1
 obtain⟨y0,y1⟩:=xf xg.1.2 g2
 refine xB yj Lc ?_
 refine ah cu rfl ?_
 refine aU ?_
 have hq:=cT _ hf.val.1.1 _ (Ao e.op x.val.n y.val.n)
 rcases eJ with h3|h3|h3
 ·have IA:(e.op==15)=false:=by rw[h3];rfl
  have h14:(e.op==14)=false:=by rw[h3];rfl
  rw[BW,if_neg (by omega),if_neg (by omega)]at hq
  refine xB h14 IA ?_
  refine ah hq rfl ?_
  cases g3:aJ f.val (ns e.op x.val.n y.val.n)with
  |false=>
   exact Mq
  |true=>
   exact Mp
 ·have IA:(e.op==15)=false:=by rw[h3];rfl
  have h14:(e.op==14)=true:=by rw[h3];rfl
  rw[BW,if_neg (by omega),if_pos h3]at hq
  refine xB h14 IA ?_
  refine ah hq rfl ?_
  cases g3:aJ f.val (ns e.op x.val.n y.val.n)with
  |false=>
   exact Mq
  |true=>
   exact Mp
 ·have IA:(e.op==15)=true:=by rw[h3];rfl
  rw[BW,if_pos h3]at hq
  refine cf IA ?_
  refine aN (lh _) ?_
  refine aU ?_
  refine aq hq rfl ?_
  cases g3:aJ f.val (ns e.op x.val.n y.val.n)with
  |false=>
   exact L8
  |true=>
   exact L9
def RpC(p:Pg)(f:Pf):Prop:=∀env e,da p.sig env->cy p.sig env.length e->aQ Tryz.prog 62 [p.d, .sl (env.map Tm.d),e.d,f.d] (.ret [.bool (aR p f env e)])
theorem lV{p:Pg}{l:List Pf}{i:Nat}{x:Pf}(h:l[i]? =some x):kG (l.map (aR p)) i=aR p x:=LQ
theorem B0(p:Pg)(l:List Pf)(env es:List Tm):jW (l.map (aR p)) env es=(l.length==es.length&&(l.zip es).all fun x=>aR p x.1 env x.2):=by
 unfold jW
 rw[List.length_map,List.zip_map_left,List.all_map]
 rfl
theorem vc{α β:Type}{l:List α}{m:List β}{k:Nat}{x:α}{y:β}(hx:l[k]? =some x)(hy:m[k]? =some y):(l.zip m)[k]? =some (x,y):=by rw[List.getElem?_zip_eq_some];exact⟨hx,hy⟩
@[reducible] def W5 (a b c:List V):Nat->ab:=aM (aM (aM (fun _=> .no) 0 (.row a)) 1 (.row b)) 2 (.row c)
set_option maxHeartbeats 1000000 in
theorem EL{p:Pg}{f:Pf}(hf:mY p.sig f)(ih:∀k∈f.kids,RpC p k){env:List Tm}(hv:da p.sig env){e:Tm}(he:cy p.sig env.length e)(eJ:e.op=3\/e.op=5):
 aQ Tryz.prog 104 [p.d, .sl (env.map Tm.d),e.d,f.d] (.ret [.bool (aJ f.val (.mk e.op e.n (f.kids.map Pf.val))&&jW (f.kids.map (aR p)) env e.kids)]):=by
 have GG:=hf.len
 have im:=((Tm.aF e).1 he.fits).1
 have Me:=hf.val.1.1
 have hmk:(Tm.mk e.op e.n (f.kids.map Pf.val)).fits:=by
  rw[Tm.aF]
  refine⟨by simp only[Tm.kids,List.length_map];omega,fun k hk=> ?_⟩
  simp only[Tm.kids]at hk
  obtain⟨x,hx,rfl⟩:=List.mem_map.1 hk
  exact(hf.gE hx).val.1.1
 have NA:D.agg [.i e.op, .i e.n, .sl ((f.kids.map Pf.val).map Tm.d)]=(Tm.mk e.op e.n (f.kids.map Pf.val)).d:=(Tm.jS _ _ _).symm
 refine aQ.ay mix ae0 ao ?_
 rw[aeZ,B0]
 by_cases hl:f.kids.length=e.kids.length
 rotate_left
 ·have jZ:((f.kids.length:Int)!=e.kids.length)=true:=by simp;omega
  have nm:(f.kids.length==e.kids.length)=false:=by simpa using hl
  refine dW jZ ?_
  refine aw (aD rfl) ?_
  refine aU ?_
  rw[nm];simp
 have jZ:((f.kids.length:Int)!=e.kids.length)=false:=by simp;omega
 have nm:(f.kids.length==e.kids.length)=true:=by simpa using hl
 rw[nm,Bool.true_and]
 refine dW jZ ?_
 refine aN (Sp f.kids af) ?_
 refine dW jZ ?_
 rw[NA]
 refine aq (eP _ Me _ hmk) rfl ?_
 cases g1:aJ f.val (.mk e.op e.n (f.kids.map Pf.val))with
 |false=>
  refine dW jZ ?_
  exact AE
 |true=>
 refine dW jZ ?_
 refine aw (aD rfl) ?_
 refine aU ?_
 refine aH (fun k:Nat=>⟨br [.aa, .d (.sl (env.map Tm.d)), .aa, .aa, .ptr 0 0, .aa, .ptr 1 0, .ptr 2 0, .aa, .d (.i k)],W5 p.row e.row f.row,3⟩)
  (fun k=>k<=f.kids.length/\((f.kids.zip e.kids).take k).all (fun x=>aR p x.1 env x.2)=true) (fun k=>f.kids.length - k) 0 ⟨Nat.zero_le _,ao⟩ (bM.b9 _ af af dE (fun j hj=>rfl) ?_) (fun k hk=> ?_)
 ·exact dc
 refine ik ?_
 refine aj (fun h2=> ?_) (fun h2=> ?_)
 ·simp at h2
  obtain⟨x,hx⟩:=ai h2
  obtain⟨y,hy⟩:=ai (l:=e.kids) (k:=k) af
  have cp:=List.mem_of_getElem? hx
  have s9:=List.mem_of_getElem? hy
  have hz:=vc hx hy
  refine iB hx hy ?_
  refine aq (ih x cp env y hv (he.gE af af s9)) rfl ?_
  cases g2:aR p x env y with
  |false=>
   refine iB hx hy ?_
   refine aw (aD rfl) ?_
   refine aU ?_
   rw[bZ hz g2]
  |true=>
  refine iB hx hy ?_
  refine aw (aD rfl) ?_
  refine aU ?_
  refine au (k+1) ⟨h2,cI hz hk.2 g2⟩ af (bM.b9 _ af af dE (fun j hj=>rfl) ?_)
  exact dc
 ·simp at h2
  refine aU ?_
  rw[cw hk.2 (by rw[List.length_zip];omega)]
theorem XW{p:Pg}{f:Pf}(hf:mY p.sig f)(ih:∀k∈f.kids,RpC p k){env:List Tm}(hv:da p.sig env){e:Tm}(he:cy p.sig env.length e):
 aQ Tryz.prog 106 [p.d, .sl (env.map Tm.d),e.d,f.d] (.ret [.bool (f.kids.length==1&&aJ (aX f.kids 0) f.val&&kG (f.kids.map (aR p)) 0 env e)]):=by
 have GG:=hf.len
 refine aQ.ay mix ae4 ao ?_
 rw[ae3]
 by_cases hl:f.kids.length=1
 rotate_left
 ·have jZ:((f.kids.length:Int)==1)=false:=by simp;omega
  have nm:(f.kids.length==1)=false:=by simpa using hl
  exact Ub
 have jZ:((f.kids.length:Int)==1)=true:=by simp;omega
 have nm:(f.kids.length==1)=true:=by simpa using hl
 obtain⟨x,hx⟩:=ai (l:=f.kids) (k:=0) af
 have cp:=List.mem_of_getElem? hx
 rw[bF hx,lV hx,nm,Bool.true_and]
 refine iB jZ hx ?_
 refine aq (eP _ (hf.gE cp).val.1.1 _ hf.val.1.1) rfl ?_
 cases g1:aJ x.val f.val with
 |false=>
  exact Us
 |true=>
 refine iB jZ hx ?_
 refine aq (ih x cp env e hv he) rfl ?_
 exact Us
theorem SD{p:Pg}{f:Pf}(hf:mY p.sig f)(ih:∀k∈f.kids,RpC p k){env:List Tm}(hv:da p.sig env){e:Tm}(he:cy p.sig env.length e)(eJ:e.op=8):
 aQ Tryz.prog 107 [p.d, .sl (env.map Tm.d),e.d,f.d] (.ret [.bool (f.kids.length==2&&aJ (aX f.kids 1) f.val&&kG (f.kids.map (aR p)) 0 env (cC e 0)&&kG (f.kids.map (aR p)) 1 (gx env e.n (aX f.kids 0)) (cC e 1))]):=by
 have GG:=hf.len
 have hn:=he.node1
 simp[bz,eJ,cF]at hn
 refine aQ.ay mix ae6 ao ?_
 rw[ae5]
 by_cases hl:f.kids.length=2
 rotate_left
 ·have jZ:((f.kids.length:Int)!=2)=true:=by simp;omega
  have nm:(f.kids.length==2)=false:=by simpa using hl
  exact Ub
 have jZ:((f.kids.length:Int)!=2)=false:=by simp;omega
 have nm:(f.kids.length==2)=true:=by simpa using hl
 obtain⟨x,hx⟩:=ai (l:=f.kids) (k:=0) af
 obtain⟨y,hy⟩:=ai (l:=f.kids) (k:=1) af
 obtain⟨a,ha⟩:=ai (l:=e.kids) (k:=0) af
 obtain⟨b,hb⟩:=ai (l:=e.kids) (k:=1) af
 have cp:=List.mem_of_getElem? hx
 have s9:=List.mem_of_getElem? hy
 rw[bF hx,bF hy,lV hx,lV hy,eY ha,eY hb,nm,Bool.true_and]
 refine su jZ hx hy ?_
 refine aq (eP _ (hf.gE s9).val.1.1 _ hf.val.1.1) rfl ?_
 cases g1:aJ y.val f.val with
 |false=>
  exact Uo
 |true=>
 refine su jZ hx hy ?_
 refine aw (aD rfl) ?_
 refine Ay jZ hx hy ha hb ?_
 refine aq (ih x cp env a hv (he.agX eJ ha)) rfl ?_
 cases g2:aR p x env a with
 |false=>
  exact Uo
 |true=>
 have P9:=hv.len
 have hwo:da p.sig (gx env e.n x.val):=Ex hv af (hf.gE cp).val.1
 have Yh:(gx env e.n x.val).length=max env.length (e.n.toNat+1):=tt _ _ _
 refine Ay jZ hx hy ha hb ?_
 refine aN (Sw env af e.n af af x.val) ?_
 refine Ay jZ hx hy ha hb ?_
 refine aq (ih y s9 _ b hwo (he.agY eJ hb af af)) rfl ?_
 refine Ay jZ hx hy ha hb ?_
 exact AE
theorem xm:∀ {l:List ki} {b B:List (List UInt8)},ct l b=some B->∀x∈l,0<=x.args/\x.args<=4
 |[],_,_,_=>ao
 |y::l,b,B,h=>by
  simp only[ct]at h
  split at h
  ·cases h
  ·split at h
   ·cases h
   ·rename_i h2
    intro x hx
    rcases List.mem_cons.1 hx with e|e
    ·subst e
     simp[cF]at h2
     exact⟨h2.2.1,h2.2.2⟩
    ·exact xm h x e
theorem sa{s:aV}(h:kU s=true):∀x∈s.bR,0<=x.args/\x.args<=4:=by
 unfold kU at h
 split at h
 ·cases h
 ·split at h
  ·split at h
   ·cases h
   ·split at h
    ·cases h
    ·rename_i l _
     cases h2:ct s.bR l with
     |none=>rw[h2]at h;cases h
     |some B=>exact xm h2
  ·cases h
theorem iV.sg {p:Pg}(h:iV p):kU p.sig=true:=by
 have:=h.is;simp only[eX,Bool.and_eq_true]at this;exact this.1.1
theorem IB{s:aV}{g:Tm}(h:Pn s g)(h5:g.op=5):0<=g.n/\∃x,s.bR[g.n.toNat]? =some x/\(g.kids.length:Int)<x.args:=by
 have:=(qq.1 h).1
 simp[mq,h5]at this
 obtain⟨h1,h2⟩:=this
 obtain⟨h0,x,hx⟩:=qF h1
 rw[fF hx]at h2
 exact⟨h0,x,hx,h2⟩
theorem EM{s:aV}{f:Int}{x:ki}(h0:0<=f)(hx:s.bR[f.toNat]? =some x)(a0:0<=x.args)(a4:x.args<=4){n:Nat}(hn:(n:Int)=x.args):cy s n (lg s f):=by
 have e:lg s f= .mk 4 f (iW x.args.toNat):=by unfold lg;rw[fF hx];rfl
 have hl:f.toNat<s.bR.length:=(List.getElem?_eq_some_iff.1 hx).1
 have hm:∀k∈iW x.args.toNat,∃i:Nat,(i:Int)<x.args/\k= .mk 1 (i:Int) []:=fun k hk=>by
  obtain⟨i,hi,rfl⟩:=List.mem_map.1 hk
  have:=List.mem_range.1 hi
  exact⟨i,af,rfl⟩
 rw[e]
 refine⟨?_, ?_,fun v hv=> ?_⟩
 ·rw[Tm.aF]
  refine⟨by simp[Tm.kids,iW];omega,fun k hk=> ?_⟩
  obtain⟨i,_,rfl⟩:=hm k hk
  simp[Tm.fits,Tm.j7]
 ·rw[dQ,Bool.and_eq_true,List.all_eq_true]
  refine⟨?_,fun k hk=> ?_⟩
  ·have e1:(iW x.args.toNat).length=x.args.toNat:=by simp[iW]
   simp[bz,Tm.op,Tm.kids,Tm.n,cF,e1,fF hx,show f<=(s.bR.length:Int) - 1 by omega,h0,Int.toNat_of_nonneg a0]
  ·obtain⟨i,hi,rfl⟩:=hm k hk
   rw[dQ]
   simp[bz,Tm.op,Tm.kids,Tm.n,cF,show(i:Int)<=19 by omega]
 ·rw[hZ,if_neg (by simp[Tm.op])]at hv
  have key:∀ (l:List Tm) (j:Nat),(∀k∈l,∃i:Nat,(i:Int)<x.args/\k= .mk 1 (i:Int) [])->iF v 4 f l j=true->0<=v/\v<x.args:=by
   intro l
   induction l with
   |nil=>intro j _ h;simp[iF]at h
   |cons k l ih=>
    intro j hk h
    simp only[iF,Bool.or_eq_true,Bool.and_eq_true]at h
    rcases h with⟨h,_⟩|h
    ·obtain⟨i,hi,rfl⟩:=hk k ao
     have h:(i:Int)=v:=by simpa[hZ,Tm.n,Tm.op]using h
     omega
    ·exact ih _ (fun y hy=>hk y pD) h
  have:=key _ _ hm hv
  omega
set_option maxHeartbeats 1000000 in
theorem GI{p:Pg}(hp:iV p){f:Pf}(hf:mY p.sig f)(ih:∀k∈f.kids,RpC p k){env:List Tm}(hv:da p.sig env){e:Tm}(he:cy p.sig env.length e)(eJ:e.op=6):
 aQ Tryz.prog 108 [p.d, .sl (env.map Tm.d),e.d,f.d] (.ret [.bool ((f.kids.length==2||f.kids.length==3)&&(kG (f.kids.map (aR p)) 0 env (cC e 0)&&kG (f.kids.map (aR p)) 1 env (cC e 1)&&(aX f.kids 0).op==5)&&
  (if((aX f.kids 0).kids.length:Int)+1<cX p.sig.bR (aX f.kids 0).n then f.kids.length==2&&aJ f.val (.mk 5 (aX f.kids 0).n ((aX f.kids 0).kids++[aX f.kids 1]))
   else f.kids.length==3&&aJ (aX f.kids 2) f.val&&kG (f.kids.map (aR p)) 2 ((aX f.kids 0).kids++[aX f.kids 1]) (lg p.sig (aX f.kids 0).n)))]):=by
 have GG:=hf.len
 have hn:=he.node1
 simp[bz,eJ,cF]at hn
 refine aQ.ay mix ae8 ao ?_
 rw[ae7]
 refine ik ?_
 refine aq (yI _ _ _) rfl ?_
 by_cases hl:f.kids.length=2\/f.kids.length=3
 rotate_left
 ·have jZ:cF (f.kids.length:Int) 2 3=false:=by simp[cF];omega
  have nm:(f.kids.length==2||f.kids.length==3)=false:=by simpa using hl
  rw[jZ,nm]
  exact QJ
 have jZ:cF (f.kids.length:Int) 2 3=true:=by simp[cF];omega
 have nm:(f.kids.length==2||f.kids.length==3)=true:=by simpa using hl
 obtain⟨x,hx⟩:=ai (l:=f.kids) (k:=0) af
 obtain⟨y,hy⟩:=ai (l:=f.kids) (k:=1) af
 obtain⟨a,ha⟩:=ai (l:=e.kids) (k:=0) af
 obtain⟨b,hb⟩:=ai (l:=e.kids) (k:=1) af
 have cp:=List.mem_of_getElem? hx
 have s9:=List.mem_of_getElem? hy
 have nM:=(hf.gE cp).val
 have xg:=(hf.gE s9).val
 rw[jZ,nm,bF hx,bF hy,lV hx,lV hy,eY ha,eY hb,Bool.true_and]
 refine IQ hx hy ha hb ?_
 refine aq (ih x cp env a hv (he.gE af af (List.mem_of_getElem? ha))) rfl ?_
 cases g1:aR p x env a with
 |false=>
  exact Uv
 |true=>
 refine IQ hx hy ha hb ?_
 refine aq (ih y s9 env b hv (he.gE af af (List.mem_of_getElem? hb))) rfl ?_
 cases g2:aR p y env b with
 |false=>
  exact Uv
 |true=>
 refine IQ hx hy ha hb ?_
 refine aw (aD rfl) ?_
 refine IQ hx hy ha hb ?_
 by_cases h5:x.val.op=5
 rotate_left
 ·have xF:(x.val.op !=5)=true:=by simpa using h5
  have abq:(x.val.op==5)=false:=by simpa using h5
  exact Ln xF abq
 have xF:(x.val.op !=5)=false:=by simpa using h5
 have abq:(x.val.op==5)=true:=by simpa using h5
 obtain⟨n0,w,hw,cD⟩:=IB nM.1.2 h5
 have hwa:=sa hp.sg w (List.mem_of_getElem? hw)
 have b1:x.val.kids.length<=140737488355328:=af
 have b2:x.val.kids.length*24<=140737488355328:=af
 have Fb:da p.sig (x.val.kids++[y.val]):=⟨by simp;omega,fun t ht=>by
  rcases List.mem_append.1 ht with h|h
  ·exact nM.1.gE h
  ·simp at h;subst h;exact xg.1⟩
 rw[abq,fF hw]
 refine Ay hx hy xF b1 b2 ?_
 refine aw bG ?_
 have e1:(x.val.kids.length:Int)+1=((x.val.kids.length+1:Nat):Int):=af
 by_cases hc:(x.val.kids.length:Int)+1<w.args
 ·have qC:decide (((x.val.kids.length+1:Nat):Int)<w.args)=true:=by simpa using hc
  rw[if_pos hc]
  by_cases hk:f.kids.length=2
  rotate_left
  ·have pv:((f.kids.length:Int)==2)=false:=by simp;omega
   have se:(f.kids.length==2)=false:=by simpa using hk
   exact acx
  have pv:((f.kids.length:Int)==2)=true:=by simp;omega
  have se:(f.kids.length==2)=true:=by simpa using hk
  have hmk:(Tm.mk 5 x.val.n (x.val.kids++[y.val])).fits:=by
   rw[Tm.aF]
   exact acI
  have hs:=eP _ hf.val.1.1 _ hmk
  rw[Tm.jS 5,List.map_append]at hs
  simp+contextual (disch:=first|omega|simp only[go_sem,false_implies]) only[go_sem,wrap64,if_pos,List.length_map,hx,hy,hw,n0,qC,List.length_append,pv,se]
  refine ah hs rfl ?_
  exact acx
 ·have qC:decide (((x.val.kids.length+1:Nat):Int)<w.args)=false:=by simpa using hc
  rw[if_neg hc]
  by_cases hk:f.kids.length=3
  rotate_left
  ·have pv:((f.kids.length:Int)==3)=false:=by simp;omega
   have se:(f.kids.length==3)=false:=by simpa using hk
   simp+contextual (disch:=first|omega|simp only[go_sem,false_implies]) only[go_sem,wrap64,if_pos,List.length_map,hx,hy,hw,n0,qC,List.length_append,pv,se]
   exact Ux
  have pv:((f.kids.length:Int)==3)=true:=by simp;omega
  have se:(f.kids.length==3)=true:=by simpa using hk
  obtain⟨z,hz⟩:=ai (l:=f.kids) (k:=2) af
  have Pz:=List.mem_of_getElem? hz
  rw[bF hz,lV hz]
  refine Ll hx hy hz hw n0 qC pv se ?_
  refine aq (eP _ (hf.gE Pz).val.1.1 _ hf.val.1.1) rfl ?_
  cases g3:aJ z.val f.val with
  |false=>
   refine Ll hx hy hz hw n0 qC pv se ?_
   exact AE
  |true=>
  refine Ll hx hy hz hw n0 qC pv se ?_
  refine aN (Kx p x.val.n w n0 hw af af) ?_
  refine Ll hx hy hz hw n0 qC pv se ?_
  have hr:=ih z Pz (x.val.kids++[y.val]) _ Fb (EM (s:=p.sig) n0 hw af af (by simp only[List.length_append,List.length_singleton];omega))
  rw[List.map_append]at hr
  refine aq hr rfl ?_
  refine Ll hx hy hz hw n0 qC pv se ?_
  exact Ux
theorem SE(p:Pg)(hl:p.rules.length<=1000)(n:Int):aQ Tryz.prog 144 [p.d, .i n] (.ret [.bool (cF n 0 ((p.rules.length:Int) - 1))]):=by
 refine aQ.ay mix afG ao ?_
 rw[afF]
 refine ik ?_
 refine ah (ag5 _ _ _) rfl ?_
 exact dM
theorem PA{s:aV}{t:Tm}(h:eW s t=true):∀x∈ja t,bz s x=true:=by
 have key:∀t:Tm,eW s t=true->∀x∈ja t,bz s x=true:=by
  refine Tm.cc fun t ih h x hx=> ?_
  rw[dQ,Bool.and_eq_true,List.all_eq_true]at h
  rw[nB]at hx
  rcases List.mem_cons.1 hx with e|e
  ·rw[e];exact h.1
  ·exact Ur
 exact key t h
theorem oG.fill {s:aV}{r:Rl}(h:oG s r){q:Tm}(hq:q∈r.aZ){n:Nat}(hn:(n:Int)=r.vars):tu n q:=by
 obtain⟨h1,_,_,h4⟩:=h.aZ q hq
 intro x hx ho
 have a:=PA (jv h1) x hx
 simp[bz,ho,cF]at a
 have b:=(qt r.vars q).1 h4 x hx (.inl ho)
 omega
def EN(ks:List Pf)(ps b:List Tm)(m:Nat):Bool:=aJ (.mk 0 0 ((ks.take m).map Pf.val)) (.mk 0 0 (ps.map (fj b)))
theorem EO(ks:List Pf)(ps b:List Tm)(m:Nat)(hk:m<=ks.length)(hp:ps.length=m):EN ks ps b m=((ks.take m).zip ps).all fun x=>aJ x.1.val (fj b x.2):=by
 subst hp
 unfold EN
 rw[Bool.eq_iff_iff,bu,List.all_eq_true]
 have e:(Tm.mk 0 0 ((ks.take ps.length).map Pf.val)= .mk 0 0 (ps.map (fj b)))↔(ks.take ps.length).map Pf.val=ps.map (fj b):=⟨fun h=>by injection h,fun h=>by rw[h]⟩
 rw[e]
 have key:∀ (a:List Pf) (c:List Tm),a.length=c.length->(a.map Pf.val=c.map (fj b)↔∀x∈a.zip c,aJ x.1.val (fj b x.2)=true):=by
  intro a
  induction a with
  |nil=>intro c h;have:c=[]:=List.length_eq_zero_iff.1 h.symm;subst this;simp
  |cons x a ih=>
   intro c h
   cases c with
   |nil=>simp at h
   |cons y c=>
    simp only[List.map_cons,List.cons.injEq,List.zip_cons_cons,List.mem_cons,forall_eq_or_imp,bu]
    rw[ih c (by simpa using h)]
    simp only[bu]
 exact key _ _ GX
theorem Ar{l:List Tm}(hl:∀t∈l,t.fits):∀t:Tm,t.fits->(fj l t).fits:=by
 refine Tm.cc fun t ih hf=> ?_
 have fu:=(Tm.aF _).1 hf
 rw[rT]
 split
 ·cases h:l[t.n.toNat]? with
  |none=>exact(BT ⟨[],[]⟩).1
  |some x=>exact hl x (List.mem_of_getElem? h)
 ·rw[Tm.aF]
  refine⟨by simp only[Tm.kids,List.length_map];exact fu.1,fun k hk=> ?_⟩
  simp only[Tm.kids]at hk
  obtain⟨y,hy,rfl⟩:=List.mem_map.1 hk
  exact ih y hy (fu.2 y hy)
def lj(p:Pg)(f:Pf)(env:List Tm)(e:Tm):Bool:=decide (0<=f.num)&&match p.rules[f.num.toNat]? with
    |none=>false
    |some ru=>(ru.fn==e.n&&(f.binds.length:Int)==ru.vars&&f.kids.length==e.kids.length+1&&f.val.op !=16&&aJ (aX f.kids e.kids.length) f.val)&&
     (EN f.kids ru.aZ f.binds e.kids.length&&jW ((f.kids.map (aR p)).take e.kids.length) env e.kids&&kG (f.kids.map (aR p)) e.kids.length (mW ru f.binds) ru.rhs)
set_option maxHeartbeats 1000000 in
theorem PB{p:Pg}(hp:iV p)(hw:p.Fw){f:Pf}(hf:mY p.sig f)(ih:∀k∈f.kids,RpC p k){env:List Tm}(hv:da p.sig env){e:Tm}(he:cy p.sig env.length e)(eJ:e.op=4):
 aQ Tryz.prog 105 [p.d, .sl (env.map Tm.d),e.d,f.d] (.ret [.bool (lj p f env e)]):=by
 have GG:=hf.len
 have yP:=hw.len
 have im:=((Tm.aF e).1 he.fits).1
 have xS:=hf.env.len
 refine aQ.ay mix ae2 ao ?_
 rw[ae1]
 refine ik ?_
 refine aq (SE p yP f.num) rfl ?_
 cases f1:cF f.num 0 ((p.rules.length:Int) - 1)with
 |false=>
  have hc:lj p f env e=false:=by
   simp only[cF,Bool.and_eq_false_iff,decide_eq_false_iff_not]at f1
   unfold lj
   by_cases h:0<=f.num
   ·rw[List.getElem?_eq_none (by omega:p.rules.length<=f.num.toNat)];simp
   ·rw[decide_eq_false h];rfl
  refine ik ?_
  refine aw (aD rfl) ?_
  refine aU ?_
  rw[hc]
 |true=>
 have OC:0<=f.num/\f.num<=(p.rules.length:Int) - 1:=by simpa[cF]using f1
 obtain⟨n0,n1⟩:=OC
 obtain⟨ru,PC⟩:=ai (l:=p.rules) (k:=f.num.toNat) af
 have hrm:=List.mem_of_getElem? PC
 have ho:=hp.rl hrm
 obtain⟨hfw,Zo,hrz⟩:=hw.all ru hrm
 have hcb:lj p f env e=((ru.fn==e.n&&(f.binds.length:Int)==ru.vars&&f.kids.length==e.kids.length+1&&f.val.op !=16&&aJ (aX f.kids e.kids.length) f.val)&&
  (EN f.kids ru.aZ f.binds e.kids.length&&jW ((f.kids.map (aR p)).take e.kids.length) env e.kids&&kG (f.kids.map (aR p)) e.kids.length (mW ru f.binds) ru.rhs)):=by
  unfold lj;rw[PC,decide_eq_true n0];rfl
 rw[hcb]
 by_cases f2:ru.fn=e.n
 rotate_left
 ·have xJ:(ru.fn !=e.n)=true:=by simpa using f2
  have PD:(ru.fn==e.n)=false:=by simpa using f2
  refine su PC n0 xJ ?_
  refine aw (aD rfl) ?_
  refine aU ?_
  rw[PD];rfl
 have xJ:(ru.fn !=e.n)=false:=by simpa using f2
 have PD:(ru.fn==e.n)=true:=by simpa using f2
 by_cases f3:(f.binds.length:Int)=ru.vars
 rotate_left
 ·have BM:((f.binds.length:Int)!=ru.vars)=true:=by simpa using f3
  have SF:((f.binds.length:Int)==ru.vars)=false:=by simpa using f3
  refine IQ PC n0 xJ BM ?_
  refine aw (aD rfl) ?_
  refine aU ?_
  rw[PD,SF];rfl
 have BM:((f.binds.length:Int)!=ru.vars)=false:=by simpa using f3
 have SF:((f.binds.length:Int)==ru.vars)=true:=by simpa using f3
 obtain⟨fx,hfx,E0⟩:=ho.fn
 have ajm:=sa hp.sg fx (List.mem_of_getElem? hfx)
 have E5:=he.node1
 have Hj:ru.aZ.length=e.kids.length:=by
  simp[bz,eJ]at E5
  have h2:=E5.2
  rw[cX, <- f2,hfx]at h2
  dsimp only at h2
  omega
 by_cases f4:f.kids.length=e.kids.length+1
 rotate_left
 ·have Ka:((f.kids.length:Int)!=(e.kids.length:Int)+1)=true:=by simp;omega
  have KL:(f.kids.length==e.kids.length+1)=false:=by simpa using f4
  refine Ay PC n0 xJ BM Ka ?_
  refine aw (aD rfl) ?_
  refine aU ?_
  rw[PD,SF,KL];rfl
 have Ka:((f.kids.length:Int)!=(e.kids.length:Int)+1)=false:=by simp;omega
 have KL:(f.kids.length==e.kids.length+1)=true:=by simpa using f4
 obtain⟨z,hz⟩:=ai (l:=f.kids) (k:=e.kids.length) af
 have Pz:=List.mem_of_getElem? hz
 rw[PD,SF,KL,bF hz,lV hz,EO _ _ _ _ (by omega) Hj, <- List.map_take,B0]
 simp+contextual (disch:=first|omega|simp only[go_sem,false_implies]) only[go_sem,wrap64,if_pos,List.length_map,PC,n0,xJ,BM,Ka,hz]
 refine aw (aD rfl) ?_
 refine su PC n0 hz ?_
 refine aw bG ?_
 refine aU ?_
 have xE:(f.kids.take e.kids.length).length=e.kids.length:=by rw[List.length_take];omega
 have fR:∀ {k:Nat} {x:Pf},k<e.kids.length->f.kids[k]? =some x->(f.kids.take e.kids.length)[k]? =some x:=fun h1 h2=>by rw[List.getElem?_take_of_lt h1];exact h2
 refine aH (fun k:Nat=>⟨br [.aa, .d (.sl (env.map Tm.d)), .aa, .aa, .ptr 0 0, .aa, .ptr 1 0, .ptr 2 0, .aa, .ptr 57 0, .ptr 58 0, .d (.i k)],aM (aM (W5 p.row e.row f.row) 57 (.row ru.row)) 58 (.row z.row),61⟩)
  (fun k=>k<=e.kids.length/\(((f.kids.take e.kids.length).zip ru.aZ).take k).all (fun x=>aJ x.1.val (fj f.binds x.2))=true/\(((f.kids.take e.kids.length).zip e.kids).take k).all (fun x=>aR p x.1 env x.2)=true) (fun k=>e.kids.length - k) 0 ⟨Nat.zero_le _,ao,ao⟩ (bM.b9 _ af af dE (fun j hj=>mw) ?_) (fun k hk=> ?_)
 ·exact dc
 refine ik ?_
 refine aj (fun h2=> ?_) (fun h2=> ?_)
 ·simp at h2
  obtain⟨x,hx⟩:=ai (l:=f.kids) (k:=k) af
  obtain⟨y,hy⟩:=ai (l:=e.kids) (k:=k) af
  obtain⟨q,hq⟩:=ai (l:=ru.aZ) (k:=k) af
  have cp:=List.mem_of_getElem? hx
  have s9:=List.mem_of_getElem? hy
  have hqm:=List.mem_of_getElem? hq
  have hz1:=vc (fR h2 hx) hq
  have hz2:=vc (fR h2 hx) hy
  have hqf:=hfw.all q hqm
  have hff:(fj f.binds q).fits:=Ar (fun t ht=>(hf.env.all t ht).1) q hqf.1
  refine iB hx hq ?_
  refine aN (abk f.binds af q hqf.1 af (ho.fill hqm f3)) ?_
  refine iB hx hq ?_
  refine aq (eP _ (hf.gE cp).val.1.1 _ hff) rfl ?_
  cases g1:aJ x.val (fj f.binds q)with
  |false=>
   refine iB hx hq ?_
   refine aw (aD rfl) ?_
   refine aU ?_
   rw[bZ hz1 g1]
   simp
  |true=>
  refine su hx hq hy ?_
  refine aq (ih x cp env y hv (he.gE af af s9)) rfl ?_
  cases g2:aR p x env y with
  |false=>
   refine su hx hq hy ?_
   refine aw (aD rfl) ?_
   refine aU ?_
   rw[bZ hz2 g2]
   simp
  |true=>
  refine su hx hq hy ?_
  refine aw (aD rfl) ?_
  refine aU ?_
  refine au (k+1) ⟨h2,cI hz1 hk.2.1 g1,cI hz2 hk.2.2 g2⟩ af (bM.b9 _ af af dE (fun j hj=>rfl) ?_)
  exact dc
 ·simp at h2
  rw[cw hk.2.1 (by rw[List.length_zip];omega),cw hk.2.2 (by rw[List.length_zip];omega)]
  refine aU ?_
  by_cases g1:f.val.op=16
  ·have yj:(f.val.op !=16)=false:=by simpa using g1
   refine cf yj ?_
   refine aw (aD rfl) ?_
   refine aU ?_
   rw[yj];rfl
  have yj:(f.val.op !=16)=true:=by simpa using g1
  refine cf yj ?_
  refine aq (eP _ (hf.gE Pz).val.1.1 _ hf.val.1.1) rfl ?_
  cases g2:aJ z.val f.val with
  |false=>
   refine cf yj ?_
   exact AE
  |true=>
  refine cf yj ?_
  refine aN (KG ru ho hfw Zo hrz f.binds f3) ?_
  refine cf yj ?_
  refine aq (ih z Pz (mW ru f.binds) ru.rhs (Iv hf.env) (ho.OQ Zo (by rw[wX];exact f3))) rfl ?_
  refine cf yj ?_
  refine aw (aD rfl) ?_
  refine aU ?_
  have R4:min e.kids.length f.kids.length=e.kids.length:=af
  simp[R4,g1]
end Go.Proofs.YtonbelhklnmjnaaGreat
