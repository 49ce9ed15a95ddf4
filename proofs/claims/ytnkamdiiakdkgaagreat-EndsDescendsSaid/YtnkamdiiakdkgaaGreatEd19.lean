/-
  A PART OF THE PROOF. Conditions: none.
-/
import Derived.Test.YtnkamdiiakdkgaaGreatEd18
set_option linter.unusedSimpArgs false
set_option linter.unusedVariables false
namespace Go.Proofs.YtnkamdiiakdkgaaGreat
theorem VG{L:List iV}{n:Int}{k:Nat}(hn:0<=n/\n<=(L.length:Int) - 1)(ha:∀x∈L,0<=x.args/\x.args<=4):fE L n<=4:=by
 unfold fE
 rw[List.getElem?_eq_getElem (by omega)]
 exact(ha _ (List.getElem_mem _)).2
theorem FW:∀ {l:List iV} {a b:List (List UInt8)},bT l a=some b->∀x∈l,0<=x.args/\x.args<=4
 |[],_,_,_,x,hx=>by cases hx
 |y::l,a,b,h,x,hx=>by
  unfold bT at h
  split at h
  ·cases h
  ·split at h
   ·cases h
   ·rename_i h2
    rcases List.mem_cons.1 hx with e|e
    ·subst e
     simp[dG]at h2
     exact⟨h2.2.1,h2.2.2⟩
    ·exact FW h x e
theorem RG{s:bE}(h:jc s=true):∀x∈s.bB,0<=x.args/\x.args<=4:=by
 unfold jc at h
 split at h
 ·cases h
 ·split at h
  ·split at h
   ·cases h
   ·split at h
    ·cases h
    ·rename_i l _
     cases h2:bT s.bB l with
     |none=>rw[h2]at h;cases h
     |some B=>exact FW h2
  ·cases h
theorem Lz{s:bE}:∀t:Tm,jE s t=true->∀x∈fu t,bt s x=true:=by
 refine Tm.dN fun t ih h x hx=> ?_
 rw[rr,Bool.and_eq_true,List.all_eq_true]at h
 rw[iJ]at hx
 rcases List.mem_cons.1 hx with e|e
 ·rw[e];exact h.1
 ·obtain⟨k,hk,hx⟩:=List.mem_flatMap.1 e
  exact ih k hk (h.2 k hk) x hx
theorem VH:∀t:Tm,t.fits->∀x∈fu t,x.fits:=by
 refine Tm.dN fun t ih h x hx=> ?_
 rw[iJ]at hx
 rcases List.mem_cons.1 hx with e|e
 ·rw[e];exact h
 ·obtain⟨k,hk,hx⟩:=List.mem_flatMap.1 e
  exact ih k hk (((Tm.bu t).1 h).2 k hk) x hx
theorem Ce:∀ (l:List Tm) (i:Int) (q:List Int) (b:Bool) (x:Sp),x∈gZ l i q b->∃k∈l,∃j:Int,x∈j5 k (q++[j]) b
 |[],_,_,_,x,h=>by simp[gZ]at h
 |k::l,i,q,b,x,h=>by
  rw[gZ,List.mem_append]at h
  rcases h with h|h
  ·exact⟨k,aL,i,h⟩
  ·obtain⟨k',h1,h2⟩:=Ce l _ _ _ _ h
   exact⟨k',by simp[h1],h2⟩
theorem zr:∀ (t:Tm) (q:List Int) (b:Bool),∀x∈j5 t q b,x.t∈fu t/\x.path.length+x.t.l5<=q.length+t.l5:=by
 refine Tm.dN fun t ih q b x hx=> ?_
 rw[D4]at hx
 rw[iJ]
 rcases List.mem_cons.1 hx with e|e
 ·subst e;exact⟨aL,Nat.le_refl _⟩
 ·obtain⟨k,hk,j,h⟩:=Ce _ _ _ _ _ e
  obtain⟨h1,h2⟩:=ih k hk _ _ x h
  refine⟨List.mem_cons_of_mem _ (List.mem_flatMap.2 ⟨k,hk,h1⟩), ?_⟩
  have:=Tm.nA hk
  rw[List.length_append]at h2
  simp at h2;omega
structure Rk (p:Pg) (r:Rl):Prop where
 fn:0<=r.fn/\r.fn<=(p.sig.bB.length:Int) - 1
 len:r.ay.length<=4
 term:fg p.sig r.rhs=true
theorem vh{p:Pg}(h:dZ p=true):jc p.sig=true:=by simp only[dZ,Bool.and_eq_true]at h;exact h.1.1
theorem qo{p:Pg}(h:dZ p=true){r:Rl}(hr:r∈p.rules):Rk p r:=by
 have hs:=RG (vh h)
 simp only[dZ,Bool.and_eq_true,List.all_eq_true]at h
 have h2:=h.2 r hr
 simp only[fH,jN,Bool.and_eq_true,decide_eq_true_eq]at h2
 obtain⟨⟨⟨⟨⟨⟨h3,h4⟩,h5⟩,h6⟩,h7⟩,h8⟩,h9⟩:=h2
 cases e:p.sig.bB[r.fn.toNat]? with
 |none=>rw[e]at h4;cases h4
 |some f=>
  rw[e]at h4
  simp only[beq_iff_eq]at h4
  have:=hs f (List.mem_of_getElem? e)
  have hl:=(List.getElem?_eq_some_iff.1 e).1
  exact⟨⟨h3,af⟩,af,h7⟩
theorem Rk.node {p:Pg}{r:Rl}(h:Rk p r){x:Sp}(hx:x∈j5 r.rhs [] true):bt p.sig x.t=true/\x.path.length<=12:=by
 have ht:=h.term
 simp only[fg,Bool.and_eq_true,decide_eq_true_eq]at ht
 obtain⟨h1,h2⟩:=zr _ _ _ x hx
 have:=((uY r.rhs 40 12).1 ht.1).2
 refine⟨Lz _ ht.2 _ h1, ?_⟩
 simp at h2;omega
theorem Rk.kids {p:Pg}{r:Rl}(h:Rk p r)(hs:jc p.sig=true){x:Sp}(hx:x∈j5 r.rhs [] true)(h4:x.t.op=4):x.t.kids.length<=4:=by
 have hn:=(h.node hx).1
 simp[bt,h4,dG]at hn
 have:=VG (k:=0) hn.1 (RG hs)
 omega
theorem Rk.parts {p:Pg}{r:Rl}(h:Rk p r){n:Int}(hn:n∈je r.rhs):0<=n/\n<=(p.sig.bB.length:Int) - 1:=by
 have ht:=h.term
 simp only[fg,Bool.and_eq_true]at ht
 unfold je at hn
 obtain⟨x,h1,rfl⟩:=List.mem_map.1 hn
 obtain⟨h2,h3⟩:=List.mem_filter.1 h1
 simp only[beq_iff_eq]at h3
 have:=Lz _ ht.2 x h2
 simp[bt,h3,dG]at this
 exact this.1
theorem LA(p:Pg):(c8 p).Pairwise (· <·):=by
 unfold c8
 refine List.Pairwise.filter _ ?_
 rw[List.pairwise_map]
 exact List.pairwise_lt_range.imp (fun h=>af)
theorem Oo{p:Pg}(h:∀r∈p.rules,Rk p r)(n:Int):n∈c8 p↔n∈p.rules.flatMap fun r=>je r.rhs:=by
 unfold c8
 rw[List.mem_filter,List.mem_map,List.contains_iff_mem]
 constructor
 ·exact fun h=>h.2
 ·intro hn
  refine⟨?_,hn⟩
  obtain⟨r,hr,h1⟩:=List.mem_flatMap.1 hn
  have:=(h r hr).parts h1
  exact⟨n.toNat,by rw[List.mem_range];omega,af⟩
theorem HJ(zs:List Int)(h:zs.Pairwise (· <=·)):(Lib.compact zs).Pairwise (· <·):=by
 unfold Lib.compact Lib.compactUpTo
 rw[List.pairwise_map]
 have hle:∀i j,i<=j->j<zs.length->zs.toArray[i]! <=zs.toArray[j]! :=fun i j Nd hj=>by
  rcases Nat.eq_or_lt_of_le Nd with e|e
  ·rw[e];exact Int.le_refl _
  ·have:=List.pairwise_iff_getElem.1 h i j af hj e
   simpa[getElem!_pos,hj,show i<zs.length by omega]using this
 refine List.Pairwise.imp_of_mem (fun {a b} ha hb hab=> ?_) (List.Pairwise.filter (R:=(· <·)) _ List.pairwise_lt_range)
 obtain⟨C9,hb2⟩:=List.mem_filter.1 hb
 have C9:=List.mem_range.1 C9
 simp only[Lib.keeps,decide_eq_true_eq]at hb2
 have h1:=hle a (b - 1) af af
 have h2:=hle (b - 1) b af C9
 rcases hb2 with g|g
 ·omega
 ·have g':zs.toArray[b - 1]! ≠zs.toArray[b]! :=Ne.symm g
  omega
theorem LB(zs:List Int)(n:Int):n∈Lib.compact zs↔n∈zs:=by
 unfold Lib.compact Lib.compactUpTo
 rw[List.mem_map]
 constructor
 ·rintro⟨i,hi,rfl⟩
  have:=List.mem_range.1 (List.mem_filter.1 hi).1
  rw[getElem!_pos zs.toArray i (by simpa using this)]
  simp
 ·intro hn
  obtain⟨i,hi,rfl⟩:=List.getElem_of_mem hn
  have key:∀i,i<zs.length->∃j,j<=i/\Lib.keeps zs.toArray j=true/\zs.toArray[j]! =zs.toArray[i]! :=by
   intro i
   induction i with
   |zero=>intro _;exact⟨0,Nat.le_refl _,by simp[Lib.keeps],rfl⟩
   |succ i ih=>
    intro hi
    by_cases hk:Lib.keeps zs.toArray (i+1)=true
    ·exact⟨i+1,Nat.le_refl _,hk,rfl⟩
    ·obtain⟨j,h1,h2,h3⟩:=ih af
     refine⟨j,af,h2, ?_⟩
     simp only[Lib.keeps,decide_eq_true_eq,not_or,Decidable.not_not]at hk
     rw[h3,hk.2];rfl
  obtain⟨j,h1,h2,h3⟩:=key i hi
  refine⟨j,List.mem_filter.2 ⟨List.mem_range.2 af,h2⟩, ?_⟩
  rw[h3,getElem!_pos zs.toArray i (by simpa using hi)]
  simp
theorem LC(l:List Int):(dR l).Pairwise (· <=·):=by
 have:=List.pairwise_mergeSort (le:=fun x y:Int=>decide (x<=y)) (fun a b c h1 h2=>by simp at*;omega) (fun a b=>by simp;omega) l
 exact this.imp (fun h=>by simpa using h)
theorem VI{p:Pg}(h:∀r∈p.rules,Rk p r):Lib.compact (dR (p.rules.flatMap fun r=>je r.rhs))=c8 p:=by
 refine Cc (HJ _ (LC _)) (LA p) fun n=> ?_
 rw[LB,Oo h]
 unfold dR
 exact(List.mergeSort_perm _ _).mem_iff
theorem LD:∀a:Tm,a.fits->∀b:Tm,b.fits->aT Tryz.prog 105 [a.d,b.d] (.ret [.bool (gr a b)]):=by
 refine Tm.dN fun a ih ha b hb=> ?_
 have Xk:=(Tm.bu _).1 ha
 have ML:=(Tm.bu _).1 hb
 refine aT.aF mix QQ aL ?_
 rw[Us,BM]
 refine aU ?_
 refine Bm (ai (fun h1=> ?_) (fun h1=> ?_))
 ·rw[h1]
  refine gB h1 ?_
  refine bg (Lf a.kids b.kids Xk.1 ML.1 105 (fun x hx y hy=>ih x hx (Xk.2 x hx) y (ML.2 y hy)) _ _ eH _ _ fun o2 n2 m1 m2 m3=> ?_)
  exact zM h1
 ·rw[h1]
  exact zM h1
theorem ael{t:Tm}{k:Tm}(hr:aT Tryz.prog 75 [t.d,k.d] (.ret [.i (sW t k)])){base tb:Nat}(CQ:tb<base){h:Nat->ab}(ht:h tb= .row t.row):
 iO Tryz.prog 107 [.d k.d, .ptr tb 0] base h h (.d (.bool (jO t k))):=by
 intro o nx hI K X hK
 have hle:=hI.le
 have ot:o tb= .row t.row:=by rw[hI.eq tb CQ,ht]
 have y1:tb≠nx:=af
 have y2:∀k,tb≠nx+k:=fun k=>af
 refine cX.aF mix QS aL ?_
 rw[Uu]
 refine Mr ot y1 y2 ?_
 refine aC hr rfl ?_
 simp+contextual (disch:=first|omega|simp only[go_sem,false_implies]) only[go_sem,wrap64,if_pos,Ol]
 exact hK _ _ af (hI.aA af af af rfl) fun id i1 i2=>by(repeat(first|rfl|rw[ad]|rw[ag _ _ _ _ (by omega)]))
theorem D5(t:Tm)(ht:t.fits):∀p:Tm,p.fits->aT Tryz.prog 75 [t.d,p.d] (.ret [.i (sW t p)]):=by
 refine Tm.dN fun p ih hp=> ?_
 have PU:=(Tm.bu _).1 hp
 refine aT.aF mix aao aL ?_
 rw[c75]
 unfold sW
 refine aU ?_
 refine aC (LD t ht p hp) rfl ?_
 cases h1:gr t p with
 |true=>exact zM h1
 |false=>
  refine gB h1 ?_
  refine bg (sr p.kids PU.1 107 [.ptr 0 0] 1 (fun _:Unit=>aA (fun _=> .no) 0 (.row t.row)) (fun _ k=>((), !jO t k)) nO (fun _=>True) (fun _ _ _ _ _=>trivial) (fun x hx _ _=>by
   have:=ael (ih x hx (PU.2 x hx)) (base:=1) (tb:=0) af (h:=aA (fun _=> .no) 0 (.row t.row)) (ad _ _ _)
   simpa using this) () trivial _ _ ⟨eH,af,fun id au=> ?_⟩ _ _ fun o2 n2 m1 m2 m3=> ?_)
  ·exact fi
  have e:(aq (fun(_:Unit) k=>((), !jO t k)) () p.kids).2= !(p.kids.any (jO t)):=by
   rw[nr]
   rw[List.not_any_eq_all_not]
  rw[e,Bool.not_not]
  cases h2:p.kids.any (jO t)with
  |true=>exact zM h2
  |false=>exact zM h2
theorem LF(n low high:Int):aT Tryz.prog 51 [.i n, .i low, .i high] (.ret [.bool (decide (low<=n)&&decide (n<=high))]):=by
 refine aT.aF mix adN aL ?_
 rw[c51]
 simp+contextual only[go_sem]
def mh(i j:Int)(x y:cp):Bool:=x.f==i&&x.t==y.f&&y.t==j
theorem VJ(a b:List cp)(i j:Int):nT a b i j=(a.any fun x=>b.any (mh i j x),a.any fun x=>b.any fun y=>mh i j x y&&(x.l||y.l)):=rfl
theorem lr{α:Type}{l:List α}{k:Nat}{x:α}(hx:l[k]? =some x)(f:α->Bool):(l.take (k+1)).any f=((l.take k).any f||f x):=by
 rw[List.take_add_one,hx];simp
theorem HK(a b:List cp)(ha:a.length<=1000000)(hb:b.length<=1000000)(i j:Int):aT Tryz.prog 83 [.sl (a.map cp.d), .sl (b.map cp.d), .i i, .i j] (.ret [.bool (nT a b i j).1, .bool (nT a b i j).2]):=by
 refine aT.aF mix ad5 aL ?_
 rw[c83,VJ]
 refine aU ?_
 refine aw (fun k:Nat=>⟨aS [.d (.sl (a.map cp.d)), .d (.sl (b.map cp.d)), .d (.i i), .d (.i j), .aa, .aa, .aa, .aa, .aa, .aa, .d (.bool ((a.take k).any fun x=>b.any (mh i j x))), .d (.bool ((a.take k).any fun x=>b.any fun y=>mh i j x y&&(x.l||y.l))), .d (.i k)],fun _=> .no,1⟩)
  (fun k=>k<=a.length) (fun k=>a.length - k) 0 (Nat.zero_le _) (aZ.aR _ af af eH (fun _ _=>rfl) ?_) (fun k hk=> ?_)
 ·exact bO
 replace hk:k<=a.length:=hk
 refine mi ?_
 refine ai (fun h2=> ?_) (fun h2=> ?_)
 ·simp at h2
  obtain⟨x,hx⟩:=KT h2
  refine aU ?_
  obtain⟨P,hP⟩:∃P:Nat->Bool,P=fun m=>((a.take k).any (fun x=>b.any (mh i j x))||(b.take m).any (mh i j x)):=⟨_,rfl⟩
  obtain⟨Q,hQ⟩:∃Q:Nat->Bool,Q=fun m=>((a.take k).any (fun x=>b.any fun y=>mh i j x y&&(x.l||y.l))||(b.take m).any fun y=>mh i j x y&&(x.l||y.l)):=⟨_,rfl⟩
  have p0:P 0=(a.take k).any (fun x=>b.any (mh i j x)):=by rw[hP];simp
  have q0:Q 0=(a.take k).any (fun x=>b.any fun y=>mh i j x y&&(x.l||y.l)):=by rw[hQ];simp
  have pN:P b.length=(a.take (k+1)).any (fun x=>b.any (mh i j x)):=by rw[hP,lr hx];simp[List.take_length]
  have qN:Q b.length=(a.take (k+1)).any (fun x=>b.any fun y=>mh i j x y&&(x.l||y.l)):=by rw[hQ,lr hx (fun x=>b.any fun y=>mh i j x y&&(x.l||y.l))];simp[List.take_length]
  have pS:∀m y,b[m]? =some y->P (m+1)=(P m||mh i j x y):=fun m y hy=>by rw[hP];simp only[lr hy (mh i j x),Bool.or_assoc]
  have qS:∀m y,b[m]? =some y->Q (m+1)=(Q m||(mh i j x y&&(x.l||y.l))):=fun m y hy=>by rw[hQ];simp only[lr hy (fun y=>mh i j x y&&(x.l||y.l)),Bool.or_assoc]
  clear hP hQ
  rw[<- p0, <- q0]
  refine aw (fun m:Nat=>⟨aS [.d (.sl (a.map cp.d)), .d (.sl (b.map cp.d)), .d (.i i), .d (.i j), .aa, .aa, .aa, .aa, .aa, .aa, .d (.bool (P m)), .d (.bool (Q m)), .d (.i k), .d (.i m)],fun _=> .no,1⟩)
   (fun m=>m<=b.length) (fun m=>b.length - m) 0 (Nat.zero_le _) (aZ.aR _ (show 0<=1 from af) af eH (fun _ _=>rfl) ?_) (fun m hm=> ?_)
  ·exact bO
  replace hm:m<=b.length:=hm
  refine mi ?_
  refine ai (fun h3=> ?_) (fun h3=> ?_)
  ·simp at h3
   obtain⟨y,hy⟩:=KT h3
   have e1:=pS m y hy
   have e2:=qS m y hy
   have DP:mh i j x y=(x.f==i&&x.t==y.f&&y.t==j):=rfl
   cases c1:(x.f==i)with
   |false=>
    rw[DP,c1]at e1 e2
    simp only[Bool.false_and,Bool.or_false]at e1 e2
    refine sC hx hy c1 ?_
    exact Su
   |true=>
   cases c2:(x.t==y.f)with
   |false=>
    rw[DP,c1,c2]at e1 e2
    simp only[Bool.false_and,Bool.and_false,Bool.true_and,Bool.or_false]at e1 e2
    refine RV hx hy c1 c2 ?_
    exact Su
   |true=>
   cases c3:(y.t==j)with
   |false=>
    rw[DP,c1,c2,c3]at e1 e2
    simp only[Bool.false_and,Bool.and_false,Bool.true_and,Bool.or_false]at e1 e2
    simp+contextual (disch:=first|omega|simp only[go_sem,false_implies]) only[go_sem,wrap64,if_pos,hx,hy,c1,c2,c3]
    exact Su
   |true=>
    rw[DP,c1,c2,c3]at e1 e2
    simp only[Bool.true_and,Bool.or_true]at e1 e2
    simp+contextual (disch:=first|omega|simp only[go_sem,false_implies]) only[go_sem,wrap64,if_pos,hx,hy,c1,c2,c3]
    refine aI (aO rfl) ?_
    cases hq:Q m with
    |true=>
     rw[hq]at e2
     simp only[Bool.true_or]at e2
     refine gB hq ?_
     refine aj (m+1) h3 af (aZ.aR _ (show 0<=1 from af) af eH (fun _ _=>rfl) ?_)
     rw[e1,e2]
     exact bO
    |false=>
     rw[hq]at e2
     simp only[Bool.false_or]at e2
     cases hxl:x.l with
     |true=>
      rw[hxl]at e2
      simp only[Bool.true_or]at e2
      exact Yo
     |false=>
      rw[hxl]at e2
      simp only[Bool.false_or]at e2
      exact Yo
  ·simp at h3
   have hmb:m=b.length:=af
   subst hmb
   refine aU ?_
   refine aj (k+1) h2 af (aZ.aR _ (show 0<=1 from af) af eH (fun _ _=>rfl) ?_)
   rw[<- pN, <- qN]
   exact bO
 ·simp at h2
  have Mp:k=a.length:=af
  subst Mp
  rw[List.take_length]
  exact vJ
theorem LG(l:List Int)(n:Int)(hl:l.length<=1000000):aT Tryz.prog 124 [.sl (l.map .i), .i n] (.ret [.bool (l.contains n)]):=by
 refine aT.aF mix aaY aL ?_
 rw[aaX]
 refine aU ?_
 refine aw (fun k:Nat=>⟨aS [.d (.sl (l.map .i)), .d (.i n), .aa, .aa, .aa, .d (.i k)],fun _=> .no,0⟩)
  (fun k=>k<=l.length/\(l.take k).contains n=false) (fun k=>l.length - k) 0 ⟨Nat.zero_le _,aL⟩ (aZ.d0 _ ?_) (fun k hk=> ?_)
 ·exact bO
 refine aU ?_
 refine ai (fun h2=> ?_) (fun h2=> ?_)
 ·simp at h2
  obtain⟨x,hx⟩:=az h2
  refine gB hx ?_
  refine ai (fun h3=> ?_) (fun h3=> ?_)
  ·refine aU ?_
   have:l.contains n=true:=by
    rw[List.contains_iff_mem, <- (by simpa using h3:x=n)];exact List.mem_of_getElem? hx
   rw[this]
  ·refine aU ?_
   refine aj (k+1) ⟨h2, ?_⟩ af (aZ.d0 _ ?_)
   ·have h4: ¬n=x:=fun e=>by subst e;simp at h3
    have h5:=hk.2
    rw[List.take_add_one,hx]
    rw[Bool.eq_false_iff]at h5|-
    intro hc;apply h5
    rw[List.contains_iff_mem]at hc|-
    rcases List.mem_append.1 hc with hc|hc
    ·exact hc
    ·simp at hc;exact absurd hc h4
   ·exact bO
 ·simp at h2
  refine aU ?_
  have:=hk.2
  rw[List.take_of_length_le (by omega)]at this
  rw[this]
theorem vi:∀ (l:List Int) (n:Int),∃k,k<=l.length/\(∀x∈l.take k,x<n)/\(∀x,l[k]? =some x-> ¬x<n)/\jL l n=if l[k]? =some n then l else l.take k++n::l.drop k
 |[],n=>⟨0,Nat.zero_le _,aL,aL,by simp[jL]⟩
 |x::l,n=>by
  obtain⟨k,h1,h2,h3,h4⟩:=vi l n
  by_cases hx:x<n
  ·refine⟨k+1,by simp;omega, ?_,by simpa using h3, ?_⟩
   ·intro y hy
    simp only[List.take_succ_cons,List.mem_cons]at hy
    rcases hy with rfl|hy
    ·exact hx
    ·exact h2 y hy
   ·simp only[jL,if_pos hx,h4,List.getElem?_cons_succ,List.take_succ_cons,List.drop_succ_cons]
    split<;>simp
  ·refine⟨0,Nat.zero_le _,aL,by simpa using hx, ?_⟩
   simp only[jL,if_neg hx]
   by_cases e:x=n
   ·subst e;simp
   ·simp[e]
theorem I5(l:List Int)(n:Int)(hl:l.length<=1000000):aT Tryz.prog 92 [.sl (l.map .i), .i n] (.ret [.sl ((jL l n).map .i)]):=by
 obtain⟨j,j1,j2,j3,j4⟩:=vi l n
 have tk:∀ (i:Nat) (l:List Int),List.take i (l.map D.i)=(l.take i).map D.i:=fun i l=>List.map_take.symm
 have dr:∀ (i:Nat) (l:List Int),List.drop i (l.map D.i)=(l.drop i).map D.i:=fun i l=>List.map_drop.symm
 have ap:∀ (a b:List Int),a.map D.i++[D.i n]++b.map D.i=(a++n::b).map D.i:=fun a b=>aL
 refine aT.aF mix ad8 aL ?_
 rw[c92]
 refine aU ?_
 refine aw (fun k:Nat=>⟨aS [.d (.sl (l.map .i)), .d (.i n), .aa, .aa, .aa, .d (.i k)],fun _=> .no,0⟩)
  (fun k=>k<=j) (fun k=>l.length - k) 0 (Nat.zero_le _) (aZ.d0 _ ?_) (fun k hk=> ?_)
 ·exact bO
 by_cases hkj:k=j
 ·subst hkj
  by_cases h5:k<l.length
  ·obtain⟨x,hx⟩:=az h5
   have h6:=j3 x hx
   have vC:(k:Int)<l.length:=af
   refine sC hx vC h6 ?_
   refine ai (fun h3=> ?_) (fun h3=> ?_)
   ·refine aU ?_
    have e:x=n:=by simpa using h3
    rw[j4,if_pos (by rw[hx,e])]
   ·have e: ¬x=n:=by simpa using h3
    rw[j4,if_neg (by rw[hx];simpa using e)]
    simp+contextual (disch:=first|omega|simp only[go_sem,false_implies]) only[go_sem,wrap64,if_pos,hx,vC,h6,tk,dr,List.take_length,List.length_map,List.length_take,List.length_drop,List.length_append,List.length_cons,List.length_nil]
    rw[ap]
    exact Ev
  ·have vC: ¬ (k:Int)<l.length:=af
   have hx:l[k]? =none:=by simp;omega
   rw[j4,if_neg (by rw[hx];simp)]
   simp+contextual (disch:=first|omega|simp only[go_sem,false_implies]) only[go_sem,wrap64,if_pos,vC,tk,dr,List.take_length,List.length_map,List.length_take,List.length_drop,List.length_append,List.length_cons,List.length_nil]
   rw[ap]
   exact Ev
 ·have ck:k<l.length:=af
  obtain⟨x,hx⟩:=az ck
  have vC:(k:Int)<l.length:=af
  have h6:x<n:=j2 x (List.mem_of_getElem? (i:=k) (by rw[List.getElem?_take_of_lt (by omega)];exact hx))
  refine sC hx vC h6 ?_
  refine aj (k+1) af af (aZ.d0 _ ?_)
  exact bO
theorem qI{op n:Int}{i:Nat}{l:List Int}{k:Nat}{v:Int}(h:l[k]? =some v)(out:List Int):lY op n i (l.take (k+1)) out=if(op !=8||(i:Int)!=1||v !=n)=true then jL (lY op n i (l.take k) out) v else lY op n i (l.take k) out:=by
 unfold lY
 rw[List.take_add_one,h,List.foldl_append]
 rfl
theorem tq:∀t:Tm,t.DT->aT Tryz.prog 114 [t.d] (.ret [.sl ((bM t).map .i)]):=by
 refine Tm.dN fun t ih ht=> ?_
 have kC:=(Tm.bu _).1 ht.fits
 refine aT.aF mix aaN aL ?_
 rw[aaM]
 by_cases h1:t.op=1
 ·refine gB h1 ?_
  rw[nh,if_pos h1]
  rfl
 ·have mG:(t.op==1)=false:=by simpa using h1
  refine gB mG ?_
  rw[nh,if_neg h1]
  refine aw (fun i:Nat×List Int=>⟨aS [.aa, .ptr 0 0, .aa, .d (.sl (i.2.map .i)), .d (.i i.1)],iP t.row,1⟩)
   (fun i=>i.1<=t.kids.length/\iQ t.op t.n t.kids 0 []=iQ t.op t.n (t.kids.drop i.1) i.1 i.2/\i.2.length<=gA (t.kids.take i.1)) (fun i=>t.kids.length - i.1) (0,[]) ⟨Nat.zero_le _,rfl,Nat.zero_le _⟩
   (aZ.abQ (fun _=>False) 1 _ af (H6 (br rfl mm)) (fun j hj=>ag _ _ _ _ af) (fun _ h=>h.elim) ?_) ?_
  ·try dsimp only
   exact qz
  rintro⟨k,out⟩ ⟨hk,hv,hlen⟩
  simp only at hk hv hlen
  refine aU ?_
  refine ai (fun h2=> ?_) (fun h2=> ?_)
  ·simp at h2
   obtain⟨x,hx⟩:=az h2
   have eU:=List.mem_of_getElem? hx
   have dA:gA (t.kids.take (k+1))=gA (t.kids.take k)+x.sz:=by
    rw[List.take_add_one,hx];simp[gA]
   have hle:gA (t.kids.take (k+1))<=gA t.kids:=by
    have:gA t.kids=gA (t.kids.take (k+1))+gA (t.kids.drop (k+1)):=by
     conv=>lhs;rw[<- List.take_append_drop (k+1) t.kids]
     exact MD
    omega
   have rR:gA t.kids<=1000000:=by have:=ht.size;rw[Tm.qd,Tm.iR]at this;omega
   have hvl:=lp x
   have hdr:t.kids.drop k=x::t.kids.drop (k+1):=by
    exact Pw
   refine gB hx ?_
   refine a8 (ih x eU (ht.kid eU)) ?_
   refine gB hx ?_
   refine aw (fun j:Nat=>⟨aS [.aa, .ptr 0 0, .aa, .d (.sl ((lY t.op t.n k ((bM x).take j) out).map .i)), .d (.i k), .d (.sl ((bM x).map .i)), .d (.i j)],iP t.row,1⟩)
    (fun j=>j<=(bM x).length) (fun j=>(bM x).length - j) 0 (Nat.zero_le _) (aZ.d1 _ (aX rfl) af rfl ?_) (fun j hj=> ?_)
   ·exact bO
   refine aU ?_
   refine ai (fun h3=> ?_) (fun h3=> ?_)
   ·simp at h3
    obtain⟨v,Md⟩:=az h3
    have Gg:=ni t.op t.n k ((bM x).take j) out
    have htl:((bM x).take j).length<=(bM x).length:=by rw[List.length_take];omega
    cases b1:(t.op !=8)with
    |true=>
     have hc:(t.op !=8||(k:Int)!=1||v !=t.n)=true:=by rw[b1];rfl
     refine qF Md b1 ?_
     exact Yi
    |false=>
     cases b2:((k:Int)!=1)with
     |true=>
      have hc:(t.op !=8||(k:Int)!=1||v !=t.n)=true:=by rw[b1,b2];rfl
      refine sC Md b1 b2 ?_
      exact Yi
     |false=>
      refine sC Md b1 b2 ?_
      refine aI bF ?_
      refine gB Md ?_
      refine ai (fun h4=> ?_) (fun h4=> ?_)
      ·have hc:(t.op !=8||(k:Int)!=1||v !=t.n)=true:=by rw[h4];simp
       refine gB Md ?_
       refine a8 (I5 _ v af) ?_
       refine aU ?_
       refine aj (j+1) h3 af (aZ.d1 _ (aX rfl) af rfl ?_)
       rw[qI Md,if_pos hc]
       exact bO
      ·have hc: ¬ (t.op !=8||(k:Int)!=1||v !=t.n)=true:=by rw[b1,b2,h4];simp
       refine gB Md ?_
       refine aj (j+1) h3 af (aZ.d1 _ (aX rfl) af rfl ?_)
       rw[qI Md,if_neg hc]
       exact bO
   ·simp at h3
    refine aU ?_
    rw[List.take_of_length_le (by omega)]
    refine aj (k+1,lY t.op t.n k (bM x) out) ⟨h2,by rw[hv,hdr];rfl, ?_⟩ jS (aZ.d1 _ (aX rfl) af rfl ?_)
    ·dsimp only
     have:=ni t.op t.n k (bM x) out
     omega
    ·exact bO
  ·simp at h2
   refine aU ?_
   rw[hv,List.drop_eq_nil_of_le (by omega)]
   rfl
theorem Oq:∀t:Tm,t.fits->aT Tryz.prog 153 [t.d] (.ret [.bool (gy t)]):=by
 refine Tm.dN fun t ih hf=> ?_
 have kC:=(Tm.bu _).1 hf
 refine aT.aF mix abq aL ?_
 rw[abp,xD]
 refine aU ?_
 refine aw (fun k:Nat=>⟨aS [.aa, .ptr 0 0, .aa, .d (.i k)],iP t.row,1⟩)
  (fun k=>k<=t.kids.length/\(t.kids.take k).all gy=true) (fun k=>t.kids.length - k) 0 ⟨Nat.zero_le _,aL⟩ (aZ.d1 _ (aX rfl) af rfl ?_) (fun k hk=> ?_)
 ·exact bO
 refine aU ?_
 refine ai (fun h2=> ?_) (fun h2=> ?_)
 ·simp at h2
  obtain⟨x,hx⟩:=az h2
  have eU:=List.mem_of_getElem? hx
  refine gB hx ?_
  refine aC (ih x eU (kC.2 x eU)) rfl ?_
  refine aU ?_
  refine ai (fun h3=> ?_) (fun h3=> ?_)
  ·refine aU ?_
   simp at h3
   rw[cw hx h3];rfl
  ·exact Yu
 ·refine aU ?_
  simp at h2
  rw[eE hk.2 h2];rfl
theorem VK:∀t:Tm,t.DT->∀b:List Int,b.length+t.sz<=1000000->aT Tryz.prog 152 [t.d, .sl (b.map .i)] (.ret [.sl ((fR t b).1.map .i), .bool (fR t b).2]):=by
 refine Tm.dN fun t ih ht b hb=> ?_
 have kC:=(Tm.bu _).1 ht.fits
 refine aT.aF mix abo aL ?_
 rw[abn]
 by_cases h1:t.op=1
 ·rw[qk,if_pos h1]
  refine gB h1 ?_
  refine dc (I5 _ _ af) ?_
  refine aU ?_
  refine aV (LG _ _ af) rfl ?_
  refine aU ?_
  exact Ev
 ·have mG:(t.op==1)=false:=by simpa using h1
  rw[qk,if_neg h1]
  refine gB mG ?_
  refine aw (fun i:Nat×List Int×Bool=>⟨aS [.aa, .d (.sl (i.2.1.map .i)), .ptr 0 0, .aa, .aa, .aa, .d (.bool i.2.2), .d (.i i.1)],iP t.row,1⟩)
   (fun i=>i.1<=t.kids.length/\fG t.kids b=(if i.2.2=true then fG (t.kids.drop i.1) i.2.1 else(i.2.1,false))/\i.2.1.length<=b.length+gA (t.kids.take i.1)) (fun i=>t.kids.length - i.1) (0,b,true) ⟨Nat.zero_le _,rfl,Nat.le_add_right _ _⟩ (aZ.d1 _ (aX rfl) af rfl ?_) ?_
  ·dsimp only
   exact bO
  rintro⟨k,b',is⟩ ⟨hk,hv,hlen⟩
  simp only at hk hv hlen
  have rR:=Tm.iR t
  have fin:is=false\/t.kids.length<=k->fG t.kids b=(b',is):=by
   intro h
   cases is with
   |false=>rw[hv];rfl
   |true=>
    have h:t.kids.length<=k:=by simpa using h
    rw[hv,List.drop_eq_nil_of_le h];rfl
  refine aU ?_
  cases is with
  |false=>
   refine aU ?_
   rw[fin (.inl rfl)]
  |true=>
   refine aU ?_
   refine ai (fun h2=> ?_) (fun h2=> ?_)
   ·simp at h2
    obtain⟨x,hx⟩:=az h2
    have eU:=List.mem_of_getElem? hx
    have dA:gA (t.kids.take (k+1))=gA (t.kids.take k)+x.sz:=by
     rw[List.take_add_one,hx];simp[gA]
    have hle:gA t.kids=gA (t.kids.take (k+1))+gA (t.kids.drop (k+1)):=by
     conv=>lhs;rw[<- List.take_append_drop (k+1) t.kids]
     exact MD
    have hdr:t.kids.drop k=x::t.kids.drop (k+1):=by
     exact Pw
    refine gB hx ?_
    refine a8 (ih x eU (ht.kid eU) b' af) ?_
    refine aU ?_
    refine aj (k+1,(fR x b').1,(fR x b').2) ⟨h2, ?_, ?_⟩ jS (aZ.d1 _ (aX rfl) af rfl ?_)
    ·dsimp only
     rw[hv,if_pos rfl,hdr]
     simp only[fG]
    ·dsimp only
     have:=HD x b'
     omega
    ·exact bO
   ·simp at h2
    refine aU ?_
    rw[fin (.inr h2)]
theorem HL(t:Tm)(ht:t.DT):aT Tryz.prog 110 [t.d] (.ret [.bool ((fR t []).2&&gy t)]):=by
 have ho:=VK t ht [] (by have:=ht.size;rw[Tm.qd]at this;simp;omega)
 simp only[List.map_nil]at ho
 refine aT.aF mix aaF aL ?_
 rw[aaE]
 refine aU ?_
 refine a8 ho ?_
 refine aU ?_
 refine fD (eC [.bool (gy t)] ?_ ?_)
 ·refine aU ?_
  exact fun _=>Oq t ht.fits
 exact vJ
def IC.snd:IC->IC
 | .seq _ y=>y
 |c=>c
def IC.fst:IC->IC
 | .seq x _=>x
 | .block _ x=>x
 | .loop x=>x
 | .cond _ x _=>x
 |c=>c
theorem cD{c:Nat}{G:List Gr}{so:Nat->ab}{gone:Nat->Prop}{x x' y y':ab}(h:x=y)(h':x'=y')(hs:uP c G so gone y y'):uP c G so gone x x':=by rw[h,h'];exact hs
theorem gD{l:List Tm}{k:Tm}(h:k∈l):k.sz<=gA l:=by
 induction l with
 |nil=>cases h
 |cons x l ih=>
  rw[gx]
  rcases List.mem_cons.1 h with e|e
  ·subst e;omega
  ·have:=ih e;omega
theorem vj:∀t:Tm,t.l5<=t.sz:=by
 refine Tm.dN fun t ih=> ?_
 rw[Tm.DU,Tm.iR]
 have:=(tl t.kids (gA t.kids)).2 fun k hk=>Nat.le_trans (ih k hk) (gD hk)
 omega
theorem Tm.DT.D6 {t:Tm}(hf:t.fits)(h:t.sz<=900000):t.DT:=⟨⟨hf,Nat.le_trans (vj t) h⟩,by rw[Tm.qd];omega⟩
theorem vk(l:List Tm)(h:∀k∈l,(dz k).length<=k.sz):(cI l).length<=gA l:=by
 induction l with
 |nil=>simp[cI]
 |cons k l ih=>
  rw[cI,List.length_append,gx]
  have:=h k aL
  have:=ih fun x hx=>h x nQ
  omega
theorem rG:∀t:Tm,(dz t).length<=t.sz:=by
 refine Tm.dN fun t ih=> ?_
 have:=vk t.kids ih
 rw[rC,List.length_append,Tm.iR]
 split<;>simp<;>omega
theorem wb(a b:List Tm):cI (a++b)=cI a++cI b:=by
 induction a with
 |nil=>simp[cI]
 |cons k a ih=>simp[cI,ih]
def LH:IC:=NQ.snd.snd.snd.fst.snd.fst.fst
theorem vl{t:Tm}(hf:t.fits)(hz:t.sz<=1000000)(ih:∀k∈t.kids,k.fits->k.sz<=1000000->aT Tryz.prog 154 [k.d] (.ret [.sl ((dz k).map .i)]))(p:List Int)(hp:p.length<=1){e:Nat->V}{o:Nat->ab}{nx:Nat}{Q:fm->S->Prop}
 (hs:aZ 0 ⟨e,o,nx⟩ ⟨aS [.aa, .ptr 0 0, .aa, .osl 1 0, .d (.i 0)],aA (aA (fun _=> .no) 0 (.row t.row)) 1 (.arr 0 3 1 (p.map .i)),2⟩)
 (hQ:∀e' n',e' 3= .osl 1 0->Q (.exit 0) ⟨e',aA (aA (fun _=> .no) 0 (.row t.row)) 1 (.arr 0 3 1 ((p++cI t.kids).map .i)),n'⟩):
 uw 0 (fun Q s=>lQ Tryz.prog 29 0 false LH Q s) Q ⟨e,o,nx⟩:=by
 have kC:=(Tm.bu _).1 hf
 have rR:=Tm.iR t
 refine aw (fun i:Nat=>⟨aS [.aa, .ptr 0 0, .aa, .osl 1 0, .d (.i i)],aA (aA (fun _=> .no) 0 (.row t.row)) 1 (.arr 0 3 1 ((p++cI (t.kids.take i)).map .i)),2⟩)
  (fun i=>i<=t.kids.length) (fun i=>t.kids.length - i) 0 (Nat.zero_le _) ?_ fun k hk=> ?_
 ·simpa[cI]using hs
 replace hk:k<=t.kids.length:=hk
 simp only[LH,NQ,IC.snd,IC.fst]
 refine mi ?_
 refine ai (fun h2=> ?_) (fun h2=> ?_)
 ·simp at h2
  obtain⟨x,hx⟩:=az h2
  have eU:=List.mem_of_getElem? hx
  have CG:t.kids.take (k+1)=t.kids.take k++[x]:=by rw[List.take_add_one,hx];rfl
  have tS:(cI (t.kids.take k)).length<=gA (t.kids.take k):=vk _ fun y _=>rG y
  have dA:gA t.kids=gA (t.kids.take k)+gA (t.kids.drop k):=by
   conv=>lhs;rw[<- List.take_append_drop k t.kids]
   exact MD
  have C0:=gD eU
  have Ss:=rG x
  have hl3:(p++cI (t.kids.take k)).length<=1000001:=by rw[List.length_append];omega
  refine mj hx ?_
  refine a8 (ih x eU (kC.2 x eU) af) ?_
  refine mj hx ?_
  refine aj (k+1) h2 af (aZ.iK (fun j=>j=1) (.osl 1 1) 1 _ af (H6 (cD (y:= .row t.row) fi fi (br rfl mm))) (ad _ _ _) (.inr ⟨1,1,rfl,rfl,by(repeat(first|rfl|rw[ad]|rw[ag _ _ _ _ (by omega)]));rw[CG,wb, <- List.append_assoc,List.map_append];simp[cI]⟩) (fun j hj=>by(repeat(first|rfl|rw[ad]|rw[ag _ _ _ _ (by omega)]))) (fun j h h2=>af) ?_)
  exact qz
 ·simp at h2
  have Gg:k=t.kids.length:=af
  exact SN
theorem Ot:∀t:Tm,t.fits->t.sz<=1000000->aT Tryz.prog 154 [t.d] (.ret [.sl ((dz t).map .i)]):=by
 refine Tm.dN fun t ih hf hz=> ?_
 refine aT.aF mix abr aL ?_
 rw[NQ,rC]
 by_cases h8:t.op=8
 ·have h8':(t.op==8)=true:=by simpa using h8
  refine gB h8' ?_
  rw[if_pos h8]
  refine vl hf hz ih [t.n] aL ?_ fun e' n' he=> ?_
  ·refine aZ.iK (fun j=>1<=j) _ 1 _ af (H6 (cD (y:= .row t.row) fi fi (br rfl mm))) (ad _ _ _) (.inr ⟨_,_, ?_,rfl,by(repeat(first|rfl|rw[ad]|rw[ag _ _ _ _ (by omega)]))⟩) (fun j hj=>by(repeat(first|rfl|rw[ad]|rw[ag _ _ _ _ (by omega)]))) (fun j h h2=>af) ?_
   ·decide
   ·exact qz
  ·exact zM he
 ·have h8':(t.op==8)=false:=by simpa using h8
  refine gB h8' ?_
  rw[if_neg h8]
  refine vl hf hz ih [] aL ?_ fun e' n' he=> ?_
  ·exact Yf
  ·exact zM he
theorem LI(l:List Int)(n:Int)(hl:l.length<=1000000):aT Tryz.prog 155 [.sl (l.map .i), .i n] (.ret [.i (l.count n)]):=by
 refine aT.aF mix abu aL ?_
 rw[abt]
 refine aU ?_
 refine aw (fun k:Nat=>⟨aS [.d (.sl (l.map .i)), .d (.i n), .aa, .aa, .aa, .d (.i ((l.take k).count n)), .d (.i k)],fun _=> .no,0⟩)
  (fun k=>k<=l.length) (fun k=>l.length - k) 0 (Nat.zero_le _) (aZ.d0 _ ?_) (fun k hk=> ?_)
 ·exact bO
 replace hk:k<=l.length:=hk
 have hc:(l.take k).count n<=1000000:=by have:=List.count_le_length (a:=n) (l:=l.take k);rw[List.length_take]at this;omega
 refine mi ?_
 refine ai (fun h2=> ?_) (fun h2=> ?_)
 ·simp at h2
  obtain⟨x,hx⟩:=az h2
  have CG:(l.take (k+1)).count n=(l.take k).count n+if x=n then 1 else 0:=by rw[List.take_add_one,hx,List.count_append];simp[List.count_singleton]
  refine mj hx ?_
  refine ai (fun h3=> ?_) (fun h3=> ?_)
  ·have mL:x=n:=by simpa using h3
   rw[if_pos mL]at CG
   exact SH
  ·have mL: ¬x=n:=by simpa using h3
   rw[if_neg mL]at CG
   exact SH
 ·simp at h2
  refine aU ?_
  rw[List.take_of_length_le h2]
theorem sy(n:Int):∀l:List Tm,iC n l=l.all (ei n)
 |[]=>rfl
 |k::l=>by simp[iC,sy n l]
theorem Cf(n:Int):∀t:Tm,t.fits->aT Tryz.prog 111 [t.d, .i n] (.ret [.bool (ei n t)]):=by
 refine Tm.dN fun t ih hf=> ?_
 have kC:=(Tm.bu _).1 hf
 refine aT.aF mix aaH aL ?_
 rw[aaG,u9,sy]
 refine aU ?_
 refine aw (fun k:Nat=>⟨aS [.aa, .d (.i n), .ptr 0 0, .aa, .aa, .d (.i k)],iP t.row,1⟩)
  (fun k=>k<=t.kids.length/\(t.kids.take k).all (ei n)=true) (fun k=>t.kids.length - k) 0 ⟨Nat.zero_le _,aL⟩ (aZ.d1 _ (aX rfl) af rfl ?_) (fun k hk=> ?_)
 ·exact bO
 refine aU ?_
 refine ai (fun h2=> ?_) (fun h2=> ?_)
 ·simp at h2
  obtain⟨x,hx⟩:=az h2
  have eU:=List.mem_of_getElem? hx
  refine gB hx ?_
  refine aC (ih x eU (kC.2 x eU)) rfl ?_
  refine aU ?_
  refine ai (fun h3=> ?_) (fun h3=> ?_)
  ·refine aU ?_
   simp at h3
   rw[cw hx h3];rfl
  ·exact Yu
 ·simp at h2
  rw[eE hk.2 h2,Bool.true_and]
  exact vJ
theorem Cg(l:List Tm):aT Tryz.prog 115 [.sl (l.map Tm.d)] (.ret [(Tm.mk 0 0 l).d]):=by
 refine aT.aF mix aaP aL ?_
 rw[aaO,Tm.Bp]
 exact vJ
structure LJ (l:List Tm):Prop where
 len:l.length<=1000
 all:∀t∈l,t.fits/\t.sz<=500
theorem LJ.cnt {l:List Tm}(h:LJ l){t:Tm}(ht:t∈l):t.DT:=Tm.DT.D6 (h.all t ht).1 (by have:=(h.all t ht).2;omega)
theorem LJ.gA {l:List Tm}(h:LJ l):gA l<=500000:=by
 have:∀l:List Tm,(∀t∈l,t.sz<=500)->Go.Proofs.YtnkamdiiakdkgaaGreat.gA l<=500*l.length:=by
  intro l
  induction l with
  |nil=>intro _;simp[Go.Proofs.YtnkamdiiakdkgaaGreat.gA]
  |cons k l ih=>intro h;rw[gx,List.length_cons];have:=h k aL;have:=ih fun x hx=>h x nQ;omega
 have:=this l fun t ht=>(h.all t ht).2
 have:=h.len
 omega
theorem LJ.fits {l:List Tm}(h:LJ l):(Tm.mk 0 0 l).fits:=by
 rw[Tm.bu]
 exact⟨by have:=h.len;simp only[Tm.kids];omega,fun k hk=>(h.all k hk).1⟩
theorem LJ.whole {l:List Tm}(h:LJ l):(Tm.mk 0 0 l).DT:=Tm.DT.D6 h.fits (by have:=h.gA;rw[Tm.RE];omega)
theorem LK(l:List Tm)(h:LJ l):aT Tryz.prog 112 [.sl (l.map Tm.d)] (.ret [.bool (D2 l)]):=by
 have hlen:=h.len
 refine aT.aF mix aaJ aL ?_
 rw[aaI]
 refine aU ?_
 refine aw (fun k:Nat=>⟨aS [.d (.sl (l.map Tm.d)), .aa, .aa, .d (.i (((l.take k).map fun t=>(bM t).length).sum:Nat)), .d (.i k)],fun _=> .no,0⟩)
  (fun k=>k<=l.length) (fun k=>l.length - k) 0 (Nat.zero_le _) (aZ.d0 _ ?_) (fun k hk=> ?_)
 ·exact bO
 replace hk:k<=l.length:=hk
 have hs:((l.take k).map fun t=>(bM t).length).sum<=500000:=by
  have h1:∀m:List Tm,(m.map fun t=>(bM t).length).sum<=Go.Proofs.YtnkamdiiakdkgaaGreat.gA m:=by
   intro m
   induction m with
   |nil=>simp[Go.Proofs.YtnkamdiiakdkgaaGreat.gA]
   |cons x m ih=>rw[List.map_cons,List.sum_cons,gx];have:=lp x;omega
  have h2:Go.Proofs.YtnkamdiiakdkgaaGreat.gA l=Go.Proofs.YtnkamdiiakdkgaaGreat.gA (l.take k)+Go.Proofs.YtnkamdiiakdkgaaGreat.gA (l.drop k):=by
   conv=>lhs;rw[<- List.take_append_drop k l]
   unfold Go.Proofs.YtnkamdiiakdkgaaGreat.gA;rw[List.map_append,List.sum_append]
  have:=h1 (l.take k)
  have:=h.gA
  omega
 refine mi ?_
 refine ai (fun h2=> ?_) (fun h2=> ?_)
 ·simp at h2
  obtain⟨x,hx⟩:=az h2
  have eU:=List.mem_of_getElem? hx
  have hv:=lp x
  have hx5:=(h.all x eU).2
  have CG:((l.take (k+1)).map fun t=>(bM t).length).sum=((l.take k).map fun t=>(bM t).length).sum+(bM x).length:=by rw[List.take_add_one,hx,List.map_append,List.sum_append];simp
  refine mj hx ?_
  refine a8 (tq x (h.cnt eU)) ?_
  exact SH
 ·simp at h2
  refine aU ?_
  refine a8 (Cg l) ?_
  refine aU ?_
  refine a8 (tq _ h.whole) ?_
  rw[List.take_of_length_le h2]
  refine mi ?_
  congr 3
  rw[D2,Bool.eq_iff_iff]
  simp
  omega
theorem Ou(t:Tm)(ht:t.DT)(p:List Int)(hp:p.length<=1000000):aT Tryz.prog 113 [t.d, .sl (p.map .i)] (.ret [.bool (rD t p)]):=by
 have hz:t.sz<=1000000:=by have:=ht.size;rw[Tm.qd]at this;omega
 have hl:=rG t
 have hv:=lp t
 refine aT.aF mix aaL aL ?_
 rw[aaK]
 refine aU ?_
 refine dc (Ot t ht.fits hz) ?_
 refine aU ?_
 refine dc (tq t ht) ?_
 refine aU ?_
 refine aI bF ?_
 refine aU ?_
 let q:Int->Bool:=fun v=> !(decide (1<((dz t).count v:Int))||p.contains v||(bM t).contains v)
 have hq:rD t p=(dz t).all q:=rfl
 rw[hq]
 refine aw (fun k:Nat=>⟨aS [.aa, .d (.sl (p.map .i)), .ptr 0 0, .aa, .aa, .d (.sl ((dz t).map .i)), .d (.sl ((bM t).map .i)), .d (.i k)],iP t.row,1⟩)
  (fun k=>k<=(dz t).length/\((dz t).take k).all q=true) (fun k=>(dz t).length - k) 0 ⟨Nat.zero_le _,aL⟩ (aZ.d1 _ (aX rfl) af rfl ?_) (fun k hk=> ?_)
 ·exact bO
 refine mi ?_
 refine ai (fun h2=> ?_) (fun h2=> ?_)
 ·simp at h2
  obtain⟨x,hx⟩:=az h2
  have hqx:q x= !(decide (1<((dz t).count x:Int))||p.contains x||(bM t).contains x):=rfl
  refine mj hx ?_
  refine aC (LI (dz t) x af) rfl ?_
  cases h3:decide (1<((dz t).count x:Int))with
  |true=>
   refine H4 hx h3 ?_
   rw[cw hx (by rw[hqx,h3];rfl)]
  |false=>
   refine H4 hx h3 ?_
   refine aC (LG p x af) rfl ?_
   cases h4:p.contains x with
   |true=>
    refine H4 hx h3 ?_
    rw[cw hx (by rw[hqx,h3,h4];rfl)]
   |false=>
    refine H4 hx h3 ?_
    refine aC (LG (bM t) x af) rfl ?_
    cases h5:(bM t).contains x with
    |true=>
     refine H4 hx h3 ?_
     rw[cw hx (by rw[hqx,h3,h4,h5];rfl)]
    |false=>
     refine H4 hx h3 ?_
     refine aj (k+1) ⟨h2,fb hx hk.2 (by rw[hqx,h3,h4,h5];rfl)⟩ af (aZ.d1 _ (aX rfl) af rfl ?_)
     exact bO
 ·simp at h2
  rw[eE hk.2 h2]
  exact vJ
def iD(l:List Tm):List Int:=l.flatMap je
theorem D7(k:Tm)(l:List Tm):iD (k::l)=je k++iD l:=rfl
theorem FX(t:Tm):je t=(if t.op=5 then [t.n]else [])++iD t.kids:=by
 unfold je iD
 rw[iJ,List.filter_cons]
 have:(List.flatMap fu t.kids).filter (fun x=>x.op==5)=t.kids.flatMap fun k=>(fu k).filter (fun x=>x.op==5):=by
  induction t.kids with
  |nil=>rfl
  |cons k l ih=>simp only[List.flatMap_cons,List.filter_append,ih]
 rw[this]
 have e:∀l:List Tm,(l.flatMap fun k=>(fu k).filter (fun x=>x.op==5)).map Tm.n=l.flatMap je:=by
  intro l
  induction l with
  |nil=>rfl
  |cons k l ih=>simp only[List.flatMap_cons,List.map_append,ih];rfl
 by_cases h:t.op=5
 ·simp only[h,beq_self_eq_true,if_true,List.map_cons,e];rfl
 ·have h':(t.op==5)=false:=by simpa using h
  simp only[h',Bool.false_eq_true,if_false,h,e];rfl
theorem Ch(l:List Tm)(h:∀k∈l,(je k).length<=k.sz):(iD l).length<=gA l:=by
 induction l with
 |nil=>simp[iD]
 |cons k l ih=>
  rw[D7,List.length_append,gx]
  have:=h k aL
  have:=ih fun x hx=>h x nQ
  omega
theorem FY:∀t:Tm,(je t).length<=t.sz:=by
 refine Tm.dN fun t ih=> ?_
 have:=Ch t.kids ih
 rw[FX,List.length_append,Tm.iR]
 split<;>simp<;>omega
theorem Ci(a b:List Tm):iD (a++b)=iD a++iD b:=by
 induction a with
 |nil=>simp[iD]
 |cons k a ih=>simp[iD,ih]
def ab7:IC:=NP.snd.snd.snd.fst.snd.fst.fst
theorem Cj{t:Tm}(hf:t.fits)(hz:t.sz<=1000000)(ih:∀k∈t.kids,k.fits->k.sz<=1000000->aT Tryz.prog 117 [k.d] (.ret [.sl ((je k).map .i)]))(p:List Int)(hp:p.length<=1){e:Nat->V}{o:Nat->ab}{nx:Nat}{Q:fm->S->Prop}
 (hs:aZ 0 ⟨e,o,nx⟩ ⟨aS [.aa, .ptr 0 0, .aa, .osl 1 0, .d (.i 0)],aA (aA (fun _=> .no) 0 (.row t.row)) 1 (.arr 0 3 1 (p.map .i)),2⟩)
 (hQ:∀e' n',e' 3= .osl 1 0->Q (.exit 0) ⟨e',aA (aA (fun _=> .no) 0 (.row t.row)) 1 (.arr 0 3 1 ((p++iD t.kids).map .i)),n'⟩):
 uw 0 (fun Q s=>lQ Tryz.prog 29 0 false ab7 Q s) Q ⟨e,o,nx⟩:=by
 have kC:=(Tm.bu _).1 hf
 have rR:=Tm.iR t
 refine aw (fun i:Nat=>⟨aS [.aa, .ptr 0 0, .aa, .osl 1 0, .d (.i i)],aA (aA (fun _=> .no) 0 (.row t.row)) 1 (.arr 0 3 1 ((p++iD (t.kids.take i)).map .i)),2⟩)
  (fun i=>i<=t.kids.length) (fun i=>t.kids.length - i) 0 (Nat.zero_le _) ?_ fun k hk=> ?_
 ·simpa[iD]using hs
 replace hk:k<=t.kids.length:=hk
 simp only[ab7,NP,IC.snd,IC.fst]
 refine mi ?_
 refine ai (fun h2=> ?_) (fun h2=> ?_)
 ·simp at h2
  obtain⟨x,hx⟩:=az h2
  have eU:=List.mem_of_getElem? hx
  have CG:t.kids.take (k+1)=t.kids.take k++[x]:=by rw[List.take_add_one,hx];rfl
  have tS:(iD (t.kids.take k)).length<=gA (t.kids.take k):=Ch _ fun y _=>FY y
  have dA:gA t.kids=gA (t.kids.take k)+gA (t.kids.drop k):=by
   conv=>lhs;rw[<- List.take_append_drop k t.kids]
   exact MD
  have C0:=gD eU
  have Ss:=FY x
  have hl3:(p++iD (t.kids.take k)).length<=1000001:=by rw[List.length_append];omega
  refine mj hx ?_
  refine a8 (ih x eU (kC.2 x eU) af) ?_
  refine mj hx ?_
  refine aj (k+1) h2 af (aZ.iK (fun j=>j=1) (.osl 1 1) 1 _ af (H6 (cD (y:= .row t.row) fi fi (br rfl mm))) (ad _ _ _) (.inr ⟨1,1,rfl,rfl,by(repeat(first|rfl|rw[ad]|rw[ag _ _ _ _ (by omega)]));rw[CG,Ci, <- List.append_assoc,List.map_append];simp[iD]⟩) (fun j hj=>by(repeat(first|rfl|rw[ad]|rw[ag _ _ _ _ (by omega)]))) (fun j h h2=>af) ?_)
  exact qz
 ·simp at h2
  have Gg:k=t.kids.length:=af
  exact SN
theorem ab8:∀t:Tm,t.fits->t.sz<=1000000->aT Tryz.prog 117 [t.d] (.ret [.sl ((je t).map .i)]):=by
 refine Tm.dN fun t ih hf hz=> ?_
 refine aT.aF mix aaS aL ?_
 rw[NP,FX]
 by_cases h5:t.op=5
 ·have vC:(t.op==5)=true:=by simpa using h5
  refine gB vC ?_
  rw[if_pos h5]
  refine Cj hf hz ih [t.n] aL ?_ fun e' n' he=> ?_
  ·refine aZ.iK (fun j=>1<=j) _ 1 _ af (H6 (cD (y:= .row t.row) fi fi (br rfl mm))) (ad _ _ _) (.inr ⟨_,_, ?_,rfl,by(repeat(first|rfl|rw[ad]|rw[ag _ _ _ _ (by omega)]))⟩) (fun j hj=>by(repeat(first|rfl|rw[ad]|rw[ag _ _ _ _ (by omega)]))) (fun j h h2=>af) ?_
   ·decide
   ·exact qz
  ·exact zM he
 ·have vC:(t.op==5)=false:=by simpa using h5
  refine gB vC ?_
  rw[if_neg h5]
  refine Cj hf hz ih [] aL ?_ fun e' n' he=> ?_
  ·exact Yf
  ·exact zM he
theorem HM(t:Tm)(ht:t.fits):∀p:Tm,p.fits->aT Tryz.prog 116 [t.d,p.d] (.ret [.bool (p.kids.any (jO t))]):=by
 refine Tm.dN fun p ih hp=> ?_
 have PU:=(Tm.bu _).1 hp
 refine aT.aF mix aaR aL ?_
 rw[aaQ]
 refine aU ?_
 refine aw (fun k:Nat=>⟨aS [.aa, .aa, .ptr 0 0, .ptr 1 0, .aa, .d (.i k)],aA (aA (fun _=> .no) 0 (.row t.row)) 1 (.row p.row),2⟩)
  (fun k=>k<=p.kids.length/\(p.kids.take k).any (jO t)=false) (fun k=>p.kids.length - k) 0 ⟨Nat.zero_le _,rfl⟩ (aZ.aR _ (show 0<=2 from af) af eH (fun j hj=>by(repeat(first|rfl|rw[ad]|rw[ag _ _ _ _ (by omega)]))) ?_) (fun k hk=> ?_)
 ·exact bO
 obtain⟨hk,iX⟩:=hk
 have Gg:=PU.1
 refine mi ?_
 refine ai (fun h2=> ?_) (fun h2=> ?_)
 ·simp at h2
  obtain⟨x,hx⟩:=az h2
  have eU:=List.mem_of_getElem? hx
  have iW:=lr hx (jO t)
  have mH:jO t x=true->p.kids.any (jO t)=true:=fun h=>List.any_eq_true.2 ⟨x,eU,h⟩
  have vW:=FU t x
  refine gB hx ?_
  refine aV (KZ t ht x (PU.2 x eU)) rfl ?_
  cases hs:gr t x with
  |true=>
   rw[hs,Bool.true_or]at vW
   rw[mH vW]
   refine gB hs ?_
   refine aI (aO rfl) ?_
   exact zM hs
  |false=>
   rw[hs,Bool.false_or]at vW
   refine qF hs hx ?_
   refine aV (ih x eU (PU.2 x eU)) rfl ?_
   refine gB hs ?_
   refine aI (aO rfl) ?_
   cases hw:x.kids.any (jO t)with
   |true=>
    rw[hw]at vW
    rw[mH vW]
    exact zM hw
   |false=>
    rw[hw]at vW
    rw[vW,iX,Bool.or_false]at iW
    refine gB hw ?_
    refine aj (k+1) ⟨h2,iW⟩ af (aZ.aR _ (show 0<=2 from af) af eH (fun j hj=>by(repeat(first|rfl|rw[ad]|rw[ag _ _ _ _ (by omega)]))) ?_)
    exact bO
 ·exact PJ
theorem cX.qp {P:Program}{g:FuncId}{x:V}{d:D}{rest:List V}{o:Nat->ab}{nx:Nat}{K X:V->(Nat->ab)->Nat->Prop}(hx:dE o x=some d)
 (h:cX P g (.d d::rest) (put o (cg o x.ids)) nx K X):cX P g (x::rest) o nx K X:=by
 refine⟨h.1,fun M φ w vals hH hd=> ?_⟩
 have hd0:=hd
 obtain⟨val,us,kP,hv,dW⟩:=hd
 have hu:=fun id au=>cE x val hv id au
 obtain⟨f1,f2,f3,f4,f5⟩:=cG (H:=hp o nx) hH x.ids hu
 have gK:(hp o nx).put (cg o x.ids)=hp (put o (cg o x.ids)) nx:=Vt (fun y hy=>by
  simp only[cg,List.mem_map]at hy
  obtain⟨id,au,rfl⟩:=hy
  exact hu id au)
 have Mo:=f1;have Lk:=f2
 rw[show cg (hp o nx).o x.ids=cg o x.ids from rfl,gK]at Mo Lk
 have hB1:∀k,cA φ ((hp o nx).put (cg o x.ids)) k->cA φ (hp o nx) k:=by
  rintro k ⟨id,g1,g2⟩
  by_cases au:id∈x.ids
  ·have:=f3 id au
   rw[show((hp o nx).put (cg o x.ids)).o id=_ from this]at g1
   refine⟨id, ?_,g2⟩
   revert g1
   cases(hp o nx).o id<;>simp[ab.fz,ab.live]
  ·have:=f4 id au
   rw[show((hp o nx).put (cg o x.ids)).o id=_ from this]at g1
   exact⟨id,g1,g2⟩
 have RH:∀j,m9 (((hp o nx).put (cg o x.ids)).o j) ((hp o nx).o j):=fun j=>by
  by_cases hm:j∈x.ids
  ·rw[show((hp o nx).put (cg o x.ids)).o j=_ from f3 j hm];exact m9.fz _
  ·rw[show((hp o nx).put (cg o x.ids)).o j=_ from f4 j hm];exact m9.rfl' rfl
 have h4:=V.na (H:=hp o nx) (H':=(hp o nx).put (cg o x.ids)) (B:=ak M φ (hp o nx)) (B':=ak M φ ((hp o nx).put (cg o x.ids))) (fun k h h'=>h (h'.imp id (hB1 k))) x val (fun id au=>⟨RH id,rfl,(f5 id).2 ((V.nE x val hv) id au)⟩) hv
 have h5:=eN f1 (o:=o) x d val (fun id au=>f3 id au) hx h4
 have h6:=V.gS (H:=hp o nx) (H':=(hp o nx).put (cg o x.ids)) (B:=ak M φ (hp o nx)) (B':=ak M φ ((hp o nx).put (cg o x.ids))) (fun k h h'=>h (h'.imp id (hB1 k))) rest us (fun id au=>⟨RH id,rfl,(f5 id).2 ((V.gU rest us dW) id au)⟩) dW
 rw[show(hp o nx).put (cg (hp o nx).o x.ids)=hp (put o (cg o x.ids)) nx from gK]at h5
 rw[gK]at h6
 refine(h.2 M φ w vals Mo ⟨val,us,kP,h5,h6⟩).mono ?_
 rintro e w' ⟨aE,o',nx',v,k1,k2,k3⟩
 exact⟨aE,o',nx',v,k1,Lk.trans k2,k3⟩
section
@[reducible] def Sp.row (x:Sp):List V:=[.d (.i x.t.op), .d (.i x.t.n), .d (.sl (x.t.kids.map Tm.d)), .d (.sl (x.path.map .i)), .d (.bool x.bare)]
@[reducible] def Sp.d (x:Sp):D:= .agg [.i x.t.op, .i x.t.n, .sl (x.t.kids.map Tm.d), .sl (x.path.map .i), .bool x.bare]
section
variable {σ:Type}(base nd:Nat)(H:σ->Nat->ab)(step:σ->Sp->σ×Bool)(ok:List Sp->σ->Prop)
theorem rH(k:Tm)(l:List Tm)(i:Int)(q:List Int)(b:Bool):gZ (k::l) i q b=j5 k (q++[i]) b++gZ l (i+1) q b:=by rw[gZ]
theorem xF{α:Type}{step:σ->α->σ×Bool}:∀ (a b:List α) (s:σ),aq step s (a++b)=if(aq step s a).2=true then aq step (aq step s a).1 b else aq step s a
 |[],b,s=>by simp[aq]
 |x::a,b,s=>by
  simp only[List.cons_append,aq]
  split
  ·exact xF a b _
  ·simp
theorem qH(aW:∀x r s,ok (x::r) s->(step s x).2=true->ok r (step s x).1):∀ (l rest:List Sp) (s:σ),ok (l++rest) s->(aq step s l).2=true->ok rest (aq step s l).1
 |[],rest,s,h,_=>h
 |x::l,rest,s,h,h2=>by
  simp only[aq]at h2|-
  split at h2
  ·rename_i hb
   rw[if_pos hb]
   exact qH aW l rest _ (aW _ _ _ h hb) h2
  ·rename_i hb
   exact absurd h2 Bool.false_ne_true
theorem HN(aW:∀x r s,ok (x::r) s->(step s x).2=true->ok r (step s x).1):∀t:Tm,t.fits->∀ (q:List Int) (b:Bool),q.length+t.l5<=1000000->(∀x∈j5 t q b,∀r s,ok (x::r) s->Xb Tryz.prog nd [.d x.d] base (H s) (H (step s x).1) (.d (.bool (step s x).2)))->nd<base->
 ∀ (c:Nat) (o0:Nat->ab) (yb vb:Nat),base<=c->base<=yb->yb<c->base<=vb->vb<c->o0 yb= .row [.ja nd]->o0 vb= .row [.func (.func 102) [] [.ptr yb 0, .ptr vb 0]]->
 ∀rest s,ok (j5 t q b++rest) s->iO Tryz.prog 102 [.d (Sp.mk t q b).d, .ptr yb 0, .ptr vb 0] c (ext base (H s) o0) (ext base (H (aq step s (j5 t q b)).1) o0) (.d (.bool (aq step s (j5 t q b)).2)):=by
 refine Tm.dN fun t ih hf q b hqh hR uU c o0 yb vb Mc Mm hy Mn hv oy ov rest s iu=> ?_
 have kC:=(Tm.bu _).1 hf
 intro o nx hI K X hK
 have hle:=hI.le
 have NZ:o yb= .row [.ja nd]:=by rw[hI.eq yb hy];unfold ext;rw[if_neg (by omega),oy]
 have N0:o vb= .row [.func (.func 102) [] [.ptr yb 0, .ptr vb 0]]:=by rw[hI.eq vb hv];unfold ext;rw[if_neg (by omega),ov]
 have y1:yb≠nx:=af
 have y2:∀k,yb≠nx+k:=fun k=>af
 have y3:vb≠nx:=af
 have y4:∀k,vb≠nx+k:=fun k=>af
 refine cX.aF mix QP aL ?_
 rw[Ur]
 simp+contextual (disch:=first|omega|simp only[go_sem,false_implies]) only[go_sem,wrap64,if_pos,NZ,N0,y1,y2,y3,y4,Nat.add_assoc,Nat.left_eq_add,Nat.add_eq_left,Nat.add_left_cancel_iff]
 have sD:=D4 t q b
 rw[sD,List.cons_append]at iu
 have hb:∀id,id<base->o id=H s id:=fun id au=>by rw[hI.eq id (by omega)];unfold ext;rw[if_pos au]
 have hIb:cH base (H s) o nx:=⟨hI.bA,af,hb⟩
 refine nb (hR ⟨t,q,b⟩ Ad _ s iu _ _ (hIb.aA (i:=nx) (m:=nx+4) af af af rfl) _ _ fun o2 n2 m1 m2 m3=> ?_)
 have k0:o2 nx= .row (Sp.mk t q b).row:=by rw[m3 nx (by omega) (by omega),ad]
 have hold:∀id,base<=id->id<nx->o2 id=o id:=fun id h1 h2=>by rw[m3 id h1 (by omega),ag _ _ _ _ (by omega)]
 have CN:∀id,base<=id->id<c->o id=o0 id:=fun id h1 h2=>by rw[hI.eq id h2];unfold ext;rw[if_neg (by omega)]
 cases BO:(step s ⟨t,q,b⟩).2 with
 |false=>
  refine gB BO ?_
  have xl:aq step s (j5 t q b)=((step s ⟨t,q,b⟩).1,false):=by rw[sD,aq,if_neg (by rw[BO];exact Bool.false_ne_true)]
  rw[xl]at hK
  refine hK _ _ af ⟨m2.bA.mono af,af,fun id au=> ?_⟩ (fun id h1 h2=>hold id af h2)
  unfold ext
  split
  ·exact m2.eq id o7
  ·exact Iv
 |true=>
  have xl:aq step s (j5 t q b)=aq step (step s ⟨t,q,b⟩).1 (gZ t.kids 0 q (gY t.op b)):=by rw[sD,aq,if_pos BO]
  have q0:o2 yb= .row [.ja nd]:=by rw[hold yb Mm (by omega),NZ]
  have q1:o2 vb= .row [.func (.func 102) [] [.ptr yb 0, .ptr vb 0]]:=by rw[hold vb Mn (by omega),N0]
  simp+contextual (disch:=first|omega|simp only[go_sem,false_implies]) only[go_sem,wrap64,if_pos,BO,k0,q1]
  have Jj:nx+4<=n2:=m1
  refine aw (fun i:Nat×σ×(Nat->ab)×Nat=>⟨aS [.aa, .ptr yb 0, .ptr vb 0, .ptr nx 0, .aa, .aa, .aa, .aa, .aa, .aa, .aa, .aa, .aa, .d (.sl (t.kids.map Tm.d)), .d (.i t.kids.length), .d (.i i.1)],i.2.2.1,i.2.2.2⟩)
   (fun i=>i.1<=t.kids.length/\cH base (H i.2.1) i.2.2.1 i.2.2.2/\nx<i.2.2.2/\i.2.2.1 nx= .row (Sp.mk t q b).row/\(∀id,base<=id->id<nx->i.2.2.1 id=o id)/\aq step (step s ⟨t,q,b⟩).1 (gZ t.kids 0 q (gY t.op b))=aq step i.2.1 (gZ (t.kids.drop i.1) i.1 q (gY t.op b))/\ok (gZ (t.kids.drop i.1) i.1 q (gY t.op b)++rest) i.2.1) (fun i=>t.kids.length - i.1) (0,(step s ⟨t,q,b⟩).1,o2,n2)
   ⟨Nat.zero_le _,m2.mono (Nat.le_refl _),(show nx<n2 from af),k0,fun id h1 h2=>hold id h1 h2,rfl,aW _ _ s iu BO⟩ ?_ ?_
  ·dsimp only
   refine aZ.aR _ (show nx<=n2 from af) af m2.bA (fun _ _=>rfl) ?_
   exact bO
  rintro⟨k,s',o',n'⟩ ⟨hk,sY,hn,bG,cN,zN,hZ⟩
  simp only at hk sY hn bG cN zN hZ
  have hg:Good o' n':=sY.bA
  have z1:∀k,yb≠n'+k:=fun k=>af
  have z2:yb≠n':=af
  have z3:∀k,vb≠n'+k:=fun k=>af
  have z4:vb≠n':=af
  have z5:∀k,nx≠n'+k:=fun k=>af
  have z6:nx≠n':=af
  have zu:o' vb= .row [.func (.func 102) [] [.ptr yb 0, .ptr vb 0]]:=by rw[cN vb Mn (by omega),N0]
  have zw:o' yb= .row [.ja nd]:=by rw[cN yb Mm (by omega),NZ]
  have Gg:=kC.1
  refine aU ?_
  refine ai (fun h1=> ?_) (fun h1=> ?_)
  ·simp at h1
   obtain⟨x,hx⟩:=az h1
   have eU:=List.mem_of_getElem? hx
   have hd:t.kids.drop k=x::t.kids.drop (k+1):=by
    exact V8
   rw[hd,rH,xF]at zN
   rw[hd,rH,List.append_assoc]at hZ
   have hh:=Tm.nA eU
   have jT:∀y∈j5 x (q++[(k:Int)]) (gY t.op b),y∈j5 t q b:=fun y hy=>by
    rw[sD]
    refine List.mem_cons_of_mem _ ?_
    rw[show t.kids=t.kids.take k++(x::t.kids.drop (k+1)) by rw[<- hd,List.take_append_drop],nk,rH]
    have ck:(t.kids.take k).length=k:=by rw[List.length_take];omega
    rw[ck,Int.zero_add]
    simp[hy]
   simp+contextual (disch:=first|omega|simp only[go_sem,false_implies]) only[go_sem,wrap64,if_pos,hx,Nat.add_assoc,Nat.left_eq_add,Nat.add_eq_left,Nat.add_left_cancel_iff,bG,zu,zw,z1,z2,z3,z4,z5,z6]
   refine Dz (m:=23) bF ah ?_
   simp+contextual (disch:=first|omega|simp only[go_sem,false_implies]) only[go_sem,wrap64,if_pos,Nat.add_assoc,Nat.left_eq_add,Nat.add_eq_left,Nat.add_left_cancel_iff,bG,zu,zw,z1,z2,z3,z4,z5,z6]
   refine rn rfl (u3 q af _ _) ?_
   have lA:(b=false/\(t.op !=3)=(t.op !=3)/\gY t.op b=false)\/(b=true/\(t.op !=3)=false/\gY t.op b=false)\/(b=true/\(t.op !=3)=true/\gY t.op b=(t.op !=5)):=by
    unfold gY
    cases b<;>cases h3:(t.op !=3)<;>simp
   have fin:∀bb:Bool,(∀y∈j5 x (q++[(k:Int)]) bb,y∈j5 t q b)->ok (j5 x (q++[(k:Int)]) bb++(gZ (t.kids.drop (k+1)) (k+1) q (gY t.op b)++rest)) s'->∀O:Nat->ab,cH base (H s') O (n'+30)->(∀id,base<=id->id<=nx->O id=o' id)->∀KK XX:V->(Nat->ab)->Nat->Prop,
    (∀o5 n5,n'+30<=n5->cH base (H (aq step s' (j5 x (q++[(k:Int)]) bb)).1) o5 n5->(∀id,base<=id->id<=nx->o5 id=o' id)->KK (.d (.bool (aq step s' (j5 x (q++[(k:Int)]) bb)).2)) o5 n5)->
    cX Tryz.prog 102 [.d (Sp.mk x (q++[(k:Int)]) bb).d, .ptr yb 0, .ptr vb 0] O (n'+30) KK XX:=by
    intro bb jT aem O hIO hO KK XX hKK
    refine ih x eU (kC.2 x eU) (q++[(k:Int)]) bb oz (fun y hy=>hR y (jT y hy)) uU (n'+30) O yb vb af Mm af Mn af (by rw[hO yb Mm (by omega),zw]) (by rw[hO vb Mn (by omega),zu]) _ s' aem O (n'+30) (hIO.ext (Nat.le_refl _) af) KK XX fun o5 n5 p1 p2 p3=>hKK o5 n5 p1 ⟨p2.bA,af,fun id au=> ?_⟩ fun id g1 g2=> ?_
    ·rw[p2.eq id (by omega)];unfold ext;rw[if_pos au]
    ·rw[p2.eq id (by omega)];unfold ext;rw[if_neg (by omega),hO id g1 g2]
   rcases lA with⟨Ie,h3,lA⟩|⟨Ie,h3,lA⟩|⟨Ie,h3,lA⟩
   all_goals rw[lA]at zN jT fin hZ
   ·simp+contextual (disch:=first|omega|simp only[go_sem,false_implies]) only[go_sem,wrap64,if_pos,Nat.add_assoc,Nat.left_eq_add,Nat.add_eq_left,Nat.add_left_cancel_iff,bG,zu,zw,z1,z2,z3,z4,z5,z6,Ie]
    refine mZ (iB (ids:=[vb,nx]) (nx:=n'+4) oz oz [([0],[]),([2],[]),([1],[]),([1],[]),([],[9]),([],[]),([],[11]),([9,11],[9]),([1],[]),([1],[]),([],[]),([],[]),([],[]),([],[]),([],[]),([],[]),([],[]),([],[]),([],[]),([],[]),([],[]),([],[]),([],[])] bF) ?_
    dsimp only[List.drop]
    simp+contextual (disch:=first|omega|simp only[go_sem,false_implies]) only[go_sem,wrap64,if_pos,Nat.add_assoc,Nat.left_eq_add,Nat.add_eq_left,Nat.add_left_cancel_iff,bG,zu,zw,z1,z2,z3,z4,z5,z6,Ie]
    refine bg (cX.qp (d:=(Sp.mk x (q++[(k:Int)]) false).d) ?_ (fin _ jT hZ _ ⟨?_,af,fun id au=> ?_⟩ (fun id g1 g2=> ?_) _ _ fun o5 n5 p1 p2 p3=> ?_))
    ·refine aU ?_
     simp
    ·refine aU ?_
     exact eH
    ·refine aU ?_
     (repeat(first|rfl|rw[ad]|rw[ag _ _ _ _ (by omega)]))
     exact sY.eq id au
    ·exact vJ
    cases hr:(aq step s' (j5 x (q++[(k:Int)]) false)).2 with
    |false=>
     rw[hr,if_neg Bool.false_ne_true]at zN
     refine aU ?_
     rw[xl,lA,zN,hr]at hK
     refine hK _ _ af ⟨p2.bA.mono af,af,fun id au=> ?_⟩ (fun id g1 g2=>(p3 id af af).trans (cN id af g2))
     unfold ext
     split
     ·exact p2.eq id o7
     ·exact R7
    |true=>
     exact zw3
   ·simp+contextual (disch:=first|omega|simp only[go_sem,false_implies]) only[go_sem,wrap64,if_pos,Nat.add_assoc,Nat.left_eq_add,Nat.add_eq_left,Nat.add_left_cancel_iff,bG,zu,zw,z1,z2,z3,z4,z5,z6,Ie,h3]
    refine mZ (iB (ids:=[vb,nx]) (nx:=n'+4) oz oz [([0],[]),([2],[]),([1],[]),([1],[]),([],[9]),([],[]),([],[11]),([9,11],[9]),([1],[]),([1],[]),([],[]),([1],[]),([1],[]),([1],[]),([],[]),([],[]),([],[]),([],[]),([],[]),([],[]),([],[]),([],[]),([],[])] bF) ?_
    dsimp only[List.drop]
    simp+contextual (disch:=first|omega|simp only[go_sem,false_implies]) only[go_sem,wrap64,if_pos,Nat.add_assoc,Nat.left_eq_add,Nat.add_eq_left,Nat.add_left_cancel_iff,bG,zu,zw,z1,z2,z3,z4,z5,z6,Ie,h3]
    refine bg (cX.qp (d:=(Sp.mk x (q++[(k:Int)]) false).d) ?_ (fin _ jT hZ _ ⟨?_,af,fun id au=> ?_⟩ (fun id g1 g2=> ?_) _ _ fun o5 n5 p1 p2 p3=> ?_))
    ·refine aU ?_
     simp
    ·refine aU ?_
     exact eH
    ·refine aU ?_
     (repeat(first|rfl|rw[ad]|rw[ag _ _ _ _ (by omega)]))
     exact sY.eq id au
    ·exact vJ
    cases hr:(aq step s' (j5 x (q++[(k:Int)]) false)).2 with
    |false=>
     rw[hr,if_neg Bool.false_ne_true]at zN
     refine aU ?_
     rw[xl,lA,zN,hr]at hK
     refine hK _ _ af ⟨p2.bA.mono af,af,fun id au=> ?_⟩ (fun id g1 g2=>(p3 id af af).trans (cN id af g2))
     unfold ext
     split
     ·exact p2.eq id o7
     ·exact R7
    |true=>
     exact zw3
   ·simp+contextual (disch:=first|omega|simp only[go_sem,false_implies]) only[go_sem,wrap64,if_pos,Nat.add_assoc,Nat.left_eq_add,Nat.add_eq_left,Nat.add_left_cancel_iff,bG,zu,zw,z1,z2,z3,z4,z5,z6,Ie,h3]
    refine mZ (iB (ids:=[vb,nx]) (nx:=n'+4) oz oz [([0],[]),([2],[]),([1],[]),([1],[]),([],[9]),([],[]),([],[11]),([9,11],[9]),([1],[]),([1],[]),([],[]),([1],[]),([1],[]),([1],[]),([],[]),([],[]),([],[]),([1],[]),([1],[]),([1],[]),([],[]),([],[]),([],[])] bF) ?_
    dsimp only[List.drop]
    simp+contextual (disch:=first|omega|simp only[go_sem,false_implies]) only[go_sem,wrap64,if_pos,Nat.add_assoc,Nat.left_eq_add,Nat.add_eq_left,Nat.add_left_cancel_iff,bG,zu,zw,z1,z2,z3,z4,z5,z6,Ie,h3]
    refine bg (cX.qp (d:=(Sp.mk x (q++[(k:Int)]) (t.op !=5)).d) ?_ (fin _ jT hZ _ ⟨?_,af,fun id au=> ?_⟩ (fun id g1 g2=> ?_) _ _ fun o5 n5 p1 p2 p3=> ?_))
    ·refine aU ?_
     simp
    ·refine aU ?_
     exact eH
    ·refine aU ?_
     (repeat(first|rfl|rw[ad]|rw[ag _ _ _ _ (by omega)]))
     exact sY.eq id au
    ·exact vJ
    cases hr:(aq step s' (j5 x (q++[(k:Int)]) (t.op !=5))).2 with
    |false=>
     rw[hr,if_neg Bool.false_ne_true]at zN
     refine aU ?_
     rw[xl,lA,zN,hr]at hK
     refine hK _ _ af ⟨p2.bA.mono af,af,fun id au=> ?_⟩ (fun id g1 g2=>(p3 id af af).trans (cN id af g2))
     unfold ext
     split
     ·exact p2.eq id o7
     ·exact R7
    |true=>
     rw[hr,if_pos rfl]at zN
     refine aU ?_
     refine aj (k+1,(aq step s' (j5 x (q++[(k:Int)]) (t.op !=5))).1,o5,n5+1+1) ⟨h1,p2.mono (show n5<=n5+1+1 from af),(show nx<n5+1+1 from af),by dsimp only;rw[p3 nx (by omega) (Nat.le_refl _),bG],fun id i1 i2=>(p3 id i1 af).trans (cN id i1 i2),by dsimp only;rw[lA];exact zN,by dsimp only;rw[lA];exact qH step ok aW _ _ s' hZ hr⟩ jS (aZ.aR _ (show nx<=n5+1+1 from af) jS (p2.mono (show n5<=n5+1+1 from af)).bA (fun _ _=>rfl) ?_)
     exact bO
  ·simp at h1
   refine aU ?_
   rw[List.drop_eq_nil_of_le h1]at zN
   rw[xl]at hK
   have cz:aq step s' (gZ [] k q (gY t.op b))=(s',true):=by simp[gZ,aq]
   rw[cz]at zN
   rw[zN]at hK
   refine hK _ _ af ⟨sY.bA.mono af,af,fun id au=> ?_⟩ (fun id g1 g2=>cN id af g2)
   unfold ext
   split
   ·exact sY.eq id o7
   ·rw[cN id (by omega) (by omega),CN id (by omega) au]
theorem LL(t:Tm)(hf:t.fits)(hqh:t.l5<=1000000)(aW:∀x r s,ok (x::r) s->(step s x).2=true->ok r (step s x).1)(hR:∀x∈j5 t [] true,∀r s,ok (x::r) s->Xb Tryz.prog nd [.d x.d] base (H s) (H (step s x).1) (.d (.bool (step s x).2)))(uU:nd<base)(tb:Nat)(CQ:tb<base)(s:σ)(iu:ok (j5 t [] true) s)(bG:H s tb= .row t.row):
 iO Tryz.prog 101 [.ja nd, .ptr tb 0] base (H s) (H (aq step s (j5 t [] true)).1) (.bU []):=by
 intro o nx hI K X hK
 have hle:=hI.le
 have ot:o tb= .row t.row:=by rw[hI.eq tb CQ,bG]
 have y1:tb≠nx:=af
 have y2:∀k,tb≠nx+k:=fun k=>af
 refine cX.aF mix QO aL ?_
 rw[Uq]
 refine R0 ot y1 y2 ?_
 have hI1:cH base (H s) (aA (aA (aA o nx (.row [.ja nd])) (nx+1) (.row [.d .b7])) (nx+1) (.row [.func (.func 102) [] [.ptr nx 0, .ptr (nx+1) 0]])) (nx+7):=by
  refine((hI.aA (i:=nx) (m:=nx+7) af af af ?_).aA (i:=nx+1) (m:=nx+7) af af af rfl).aA (i:=nx+1) af af af ?_
  ·exact IK
  ·exact mm
 refine bg (cX.qp (d:=(Sp.mk t [] true).d) ?_ (HN base nd H step ok aW t hf [] true (by simpa using hqh) hR uU (nx+7) _ nx (nx+1) af hle af af af ?_ ?_ [] s (by rw[List.append_nil];exact iu) _ _ (hI1.ext (Nat.le_refl _) af) _ _ ?_))
 ·rfl
 ·exact fi
 ·exact fi
 intro o2 n2 m1 m2 m3
 refine cq ?_
 refine hK _ _ af ⟨m2.bA,af,fun id au=> ?_⟩ (fun id h1 h2=> ?_)
 ·exact Gb
 ·exact SK
end
theorem Ck(t:Tm)(o:Nat->ab)(nx:Nat)(K X:V->(Nat->ab)->Nat->Prop)(h:K (.func (.func 101) [] [.ptr nx 0]) (aA o nx (.row t.row)) (nx+4)):cX Tryz.prog 72 [.d t.d] o nx K X:=by
 refine cX.aF mix aan aL ?_
 rw[c72]
 refine cq ?_
 exact h
def wc{σ:Type}(J:σ->Option jP)(step:σ->Sp->σ)(s:σ)(x:Sp):σ×Bool:=(step s x,(J (step s x)).isNone)
theorem sA{σ:Type}(t:Tm)(hf:t.fits)(hqh:t.l5<=1000000){n bq:Nat}{gq:Operand}{ps:List Nat}{jr fj:IC}{Q:fm->S->Prop}{e:Nat->V}{o:Nat->ab}{nx tb:Nat}(env:List V)(he:l7 e env 0)
 (nD:ps.all (fun t=>decide (t<n))=true) (hl:ps.length=1) (hg:Good o nx) (hrefs:∀r∈V.aG env,r<nx) (ht:o tb= .row t.row)
 (G:σ->Nat->ab) (J:σ->Option jP) (step:σ->Sp->σ) (ok:List Sp->σ->Prop) (s0:σ) (iu:ok (j5 t [] true) s0) (V7:J s0=none) (h0:∀id,id<nx->o id=G s0 id) (aW:∀x r s,ok (x::r) s->J s=none->J (step s x)=none->ok r (step s x))
 (oM:∀L,gV Tryz.prog n env ps jr fj L->(∀st pd m,nx<=m->(L st pd).refs.all (fun r=>decide (r<m))=true)->∀x∈j5 t [] true,∀r s,ok (x::r) s->J s=none->∀o3 n3,cH nx (G s) o3 n3->nx<n3->o3 nx=L .ready none->∀K X,
  (∀e' o' n' st pd,n3<=n'->cH nx (G (step s x)) o' n'->o' nx=L st pd->(∀id,nx<id->id<n3->o' id=o3 id)->jH nx K X (K2 (J (step s x))) ⟨e',o',n'⟩)->
  lQ Tryz.prog n n3 true jr (oR Tryz.prog n n3 nx fj K X) ⟨mW (aS env) ps [.d x.d],o3,n3⟩)
 (jA:∀o' n',cH nx (G (aq (wc J step) s0 (j5 t [] true)).1) o' n'->oL Q (J (aq (wc J step) s0 (j5 t [] true)).1) ⟨e,o',n'⟩):
 yI Tryz.prog n bq false gq ps jr fj Q ⟨e,o,nx⟩ (.func (.func 101) [] [.ptr tb 0]):=by
 refine DL env he (fun L hL=> ?_)
 have CQ:tb<nx:=hg.lt I3
 let H:σ->Nat->ab:=fun s id=>if id<nx then G s id else if id=nx then(match J s with|none=>L .ready none|some j=>L .done (some j))else .no
 have Gd:∀s id,id<nx->H s id=G s id:=fun s id h=>if_pos h
 have Mb:∀s,J s=none->H s nx=L .ready none:=fun s h=>by show(if nx<nx then _ else _)=_;rw[if_neg (by omega),if_pos rfl,h]
 have Sg:∀s j,J s=some j->H s nx=L .done (some j):=fun s j h=>by show(if nx<nx then _ else _)=_;rw[if_neg (by omega),if_pos rfl,h]
 have wg:∀st pd m,nx<=m->(L st pd).refs.all (fun r=>decide (r<m))=true:=fun st pd m hm=>by
  exact SG
 refine LL (nx+1) nx H (wc J step) (fun l s=>ok l s/\J s=none) t hf hqh (fun x r s h1 h2=> ?_) (fun x hx r s h1=> ?_) af tb af s0 ⟨iu,V7⟩ I1 _ _ ⟨?_,Nat.le_refl _,fun id au=> ?_⟩ _ _ ?_
 ·have hj:J (step s x)=none:=by simpa[wc]using h2
  exact⟨aW x r s h1.1 h1.2 hj,hj⟩
 ·intro o3 n3 hI K X hK
  have hle:=hI.le
  have Ic:o3 nx=L .ready none:=by rw[hI.eq nx (by omega),Mb s h1.2]
  refine uR hL mix Ic af nD (by simp[hl]) ?_
  refine oM L hL wg x hx r s h1.1 h1.2 o3 n3 ⟨hI.bA,af,fun id au=>by rw[hI.eq id (by omega),Gd _ _ au]⟩ af Ic K X (fun e' o' n' st pd k1 k2 k3 k4=> ?_)
  have key:∀st' pd' b,(J (step s x)).isNone=b->H (step s x) nx=L st' pd'->K (.d (.bool b)) (aA o' nx (L st' pd')) n':=fun st' pd' b hb hh=>by
   subst hb
   refine hK _ _ k1 ⟨k2.bA.aA af (wg _ _ _ af),af,fun id au=> ?_⟩ (fun id g1 g2=> ?_)
   ·by_cases tz:id=nx
    ·exact IL
    ·rw[ag _ _ _ _ tz]
     show o' id=H (step s x) id
     exact ID
   ·exact Sn
  cases hj:J (step s x)with
  |none=>exact Sj
  |some j=>
   cases j with
   |ret=>exact Sh
   |exit j=>exact Sf
 ·exact Si
 ·by_cases tz:id=nx
  ·exact IV
  ·exact Se
 ·intro o' n' k1 k2 k3
  have hle:=k2.le
  generalize hsf:(aq (wc J step) s0 (j5 t [] true)).1=sf at*
  have kk:∀st pd,cH nx (G sf) (aA o' nx (L st pd)) n':=fun st pd=>⟨k2.bA.aA af (wg _ _ _ af),af,fun id au=>by rw[ag _ _ _ _ (by omega),k2.eq id (by omega),Gd _ _ au]⟩
  cases hj:J sf with
  |none=>
   refine⟨.ready,none,by rw[k2.eq nx (by omega),Mb _ hj],(fun h=>by cases h), ?_⟩
   have:=jA _ _ (kk .exhausted none)
   rwa [hj]at this
  |some j=>
   refine⟨.done,some j,by rw[k2.eq nx (by omega),Sg _ _ hj],(fun h=>by cases h), ?_⟩
   have:=jA _ _ (kk .exhausted (some j))
   rwa [hj]at this
end
theorem tx{c:Nat}{G:List Gr}{so:Nat->ab}{gone:Nat->Prop}{x x' y y':ab}(h:x=y)(h':x'=y')(hs:uP c G so gone y y'):uP c G so gone x x':=by rw[h,h'];exact hs
@[reducible] def jY (B:Nat->ab) (r c:Nat) (ds:List D) (ty sz:Nat) (es:List D):Nat->ab:=aA (aA B r (.row (ds.map .d++[.osl c 0]))) c (.arr 0 ty sz es)
theorem zx{c:Nat}{G:List Gr}{so:Nat->ab}{gone:Nat->Prop}{l l':List V}:∀ds:List D,uO c G so gone l l'->uO c G so gone (ds.map .d++l) (ds.map .d++l')
 |[],h=>h
 |d::ds,h=>U9 (zx ds h)
theorem zy(B:Nat->ab)(r c:Nat)(ds:List D)(ty sz:Nat)(es:List D):jY B r c ds ty sz es c= .arr 0 ty sz es:=ad _ _ _
theorem zA(B:Nat->ab){r c:Nat}(h:r<c)(ds:List D)(ty sz:Nat)(es:List D):jY B r c ds ty sz es r= .row (ds.map .d++[.osl c 0]):=(ag _ _ _ _ af).trans (ad _ _ _)
theorem Ei(B:Nat->ab){r c j:Nat}(h:j≠r)(h2:j≠c)(ds:List D)(ty sz:Nat)(es:List D):jY B r c ds ty sz es j=B j:=(ag _ _ _ _ h2).trans (ag _ _ _ _ h)
theorem xG{B:Nat->ab}{r c:Nat}{ds:List D}{ty sz:Nat}{e:Nat->V}{so:Nat->ab}{m:Nat}(l:List V)(hg:Good B c)(iX:∀j,c<=j->B j= .no)(hr:r<c)(ho:∀j,j<c->j≠r->so j=B j)(bG:so r= .row (ds.map .d++[.bd]))(dA:0<sz)
 (he:me c [⟨.bd,ty,sz,[]⟩] so (fun _=>False) e l 0):aZ 0 ⟨e,so,m⟩ ⟨aS l,jY B r c ds ty sz [],c+1⟩:=by
 refine aZ.iK (fun _=>False) .bd c _ af (fun j hj=> ?_) (zy _ _ _ _ _ _ _) (.inl ⟨rfl,rfl,dA⟩) (fun j hj=> ?_) (fun _ h=>h.elim) he
 ·by_cases e1:j=r
  ·subst e1
   exact tx (y:= .row (ds.map .d++[.bd])) bG (zA B hr ds ty sz _) (BG rfl (zx ds (KM (g:=⟨.bd,ty,sz,[]⟩) 0 rfl rfl rfl BF)))
  ·exact XN
 ·exact O3
theorem Cm{B:Nat->ab}{r c ep:Nat}{ds:List D}{ty sz:Nat}{es:List D}{e:Nat->V}{so:Nat->ab}{m:Nat}(l:List V)(hg:Good B c)(iX:∀j,c<=j->B j= .no)(hr:r<c)(ho:∀j,j<c->j≠r->so j=B j)(bG:so r= .row (ds.map .d++[.osl c ep]))(cW:so c= .arr ep ty sz es)
 (he:me c [⟨.osl c ep,ty,sz,es⟩] so (fun j=>j=c) e l 0):aZ 0 ⟨e,so,m⟩ ⟨aS l,jY B r c ds ty sz es,c+1⟩:=by
 refine aZ.iK (fun j=>j=c) (.osl c ep) c _ af (fun j hj=> ?_) (zy _ _ _ _ _ _ _) (.inr ⟨c,ep,rfl,rfl,cW⟩) (fun j hj=> ?_) (fun j h h2=>af) he
 ·by_cases e1:j=r
  ·subst e1
   exact tx (y:= .row (ds.map .d++[.osl c ep])) bG (zA B hr ds ty sz _) (BG rfl (zx ds (KM (g:=⟨.osl c ep,ty,sz,es⟩) 0 rfl rfl rfl BF)))
  ·exact XN
 ·exact O3
end Go.Proofs.YtnkamdiiakdkgaaGreat
section
namespace Go.Proofs.YtnkamdiiakdkgaaGreat
open Go.Shelf
def Cn:Go.Shelf.Ren:=⟨fun|189=>73|125=>104|257=>103|128=>147|129=>148|294=>138|295=>139|296=>140|297=>141|298=>142|299=>143|216=>144|300=>145|301=>146|328=>164|329=>165|330=>166|331=>167|332=>168|215=>169|343=>180|n=>n,fun|28=>37|3=>3|46=>144|0=>0|51=>186|53=>188|4=>4|183=>178|182=>177|131=>183|5=>5|9=>9|218=>205|222=>209|228=>211|229=>212|n=>n,fun|n=>n⟩
theorem FZ:Go.Proofs.Lays.n189 Tryz.prog Cn:={
 mixed:=ah
 f125:=Tryz.func104.trans (congrArg some ah)
 f128:=Tryz.func147.trans (congrArg some ah)
 f129:=Tryz.func148.trans (congrArg some ah)
 f189:=Tryz.func73.trans (congrArg some ah)
 f215:=Tryz.func169.trans (congrArg some ah)
 f216:=Tryz.func144.trans (congrArg some ah)
 f257:=Tryz.func103.trans (congrArg some ah)
 f294:=Tryz.func138.trans (congrArg some ah)
 f295:=Tryz.func139.trans (congrArg some ah)
 f296:=Tryz.func140.trans (congrArg some ah)
 f297:=Tryz.func141.trans (congrArg some ah)
 f298:=Tryz.func142.trans (congrArg some ah)
 f299:=Tryz.func143.trans (congrArg some ah)
 f300:=Tryz.func145.trans (congrArg some ah)
 f301:=Tryz.func146.trans (congrArg some ah)
 f328:=Tryz.func164.trans (congrArg some ah)
 f329:=Tryz.func165.trans (congrArg some ah)
 f330:=Tryz.func166.trans (congrArg some ah)
 f331:=Tryz.func167.trans (congrArg some ah)
 f332:=Tryz.func168.trans (congrArg some ah)
 f343:=Tryz.func180.trans (congrArg some ah)
 t0:=Tryz.underlying0
 a0:=Tryz.isAgg0
 z0:=Tryz.sizeOf0
 v0:=Tryz.zeroValue0
 t3:=Tryz.underlying3
 a3:=Tryz.isAgg3
 z3:=Tryz.sizeOf3
 v3:=Tryz.zeroValue3
 t4:=Tryz.underlying4
 a4:=Tryz.isAgg4
 z4:=Tryz.sizeOf4
 v4:=Tryz.zeroValue4
 t5:=Tryz.underlying5
 a5:=Tryz.isAgg5
 z5:=Tryz.sizeOf5
 v5:=Tryz.zeroValue5
 t9:=Tryz.underlying9
 a9:=Tryz.isAgg9
 z9:=Tryz.sizeOf9
 v9:=Tryz.zeroValue9
 t28:=Tryz.underlying37
 a28:=Tryz.isAgg37
 z28:=Tryz.sizeOf37
 v28:=Tryz.zeroValue37
 t46:=Tryz.underlying144
 a46:=Tryz.isAgg144
 z46:=Tryz.sizeOf144
 v46:=Tryz.zeroValue144
 t51:=Tryz.underlying186
 a51:=Tryz.isAgg186
 z51:=Tryz.sizeOf186
 v51:=Tryz.zeroValue186
 t53:=Tryz.underlying188
 a53:=Tryz.isAgg188
 z53:=Tryz.sizeOf188
 v53:=Tryz.zeroValue188
 t131:=Tryz.underlying183
 a131:=Tryz.isAgg183
 z131:=Tryz.sizeOf183
 v131:=Tryz.zeroValue183
 t182:=Tryz.underlying177
 a182:=Tryz.isAgg177
 z182:=Tryz.sizeOf177
 v182:=Tryz.zeroValue177
 t183:=Tryz.underlying178
 a183:=Tryz.isAgg178
 z183:=Tryz.sizeOf178
 v183:=Tryz.zeroValue178
 t218:=Tryz.underlying205
 a218:=Tryz.isAgg205
 z218:=Tryz.sizeOf205
 v218:=Tryz.zeroValue205
 t222:=Tryz.underlying209
 a222:=Tryz.isAgg209
 z222:=Tryz.sizeOf209
 v222:=Tryz.zeroValue209
 t228:=Tryz.underlying211
 a228:=Tryz.isAgg211
 z228:=Tryz.sizeOf211
 v228:=Tryz.zeroValue211
 t229:=Tryz.underlying212
 a229:=Tryz.isAgg212
 z229:=Tryz.sizeOf212
 v229:=Tryz.zeroValue212}
theorem HO:Cd Tryz.prog 73:=fun de off cap zs w h1 h2 h3=>Any.slices_Sort_int FZ de off cap zs w h1 h2 h3
theorem HP:∀ (p:Option Addr) (cap:Nat) (w:World),Calls Tryz.prog 73 #[.slice p 0 cap] w fun e w'=>e= .returned (.tuple #[])/\w'=w:=fun p cap w=>Any.slices_Sort_int_none FZ p cap w
theorem Co:Enters Tryz.prog 73:=⟨_,Tryz.func73,ah,ah⟩
def Cp:Go.Shelf.Ren:=⟨fun|20=>74|n=>n,fun|22=>37|3=>3|4=>4|0=>0|n=>n,fun|n=>n⟩
theorem F0:Go.Proofs.Lays2.n20 Tryz.prog Cp:={
 mixed:=ah
 f20:=Tryz.func74.trans (congrArg some ah)
 t0:=Tryz.underlying0
 a0:=Tryz.isAgg0
 z0:=Tryz.sizeOf0
 v0:=Tryz.zeroValue0
 t3:=Tryz.underlying3
 a3:=Tryz.isAgg3
 z3:=Tryz.sizeOf3
 v3:=Tryz.zeroValue3
 t4:=Tryz.underlying4
 a4:=Tryz.isAgg4
 z4:=Tryz.sizeOf4
 v4:=Tryz.zeroValue4
 t22:=Tryz.underlying37
 a22:=Tryz.isAgg37
 z22:=Tryz.sizeOf37
 v22:=Tryz.zeroValue37
 i3:=by kernel_rfl}
theorem zB:nm Tryz.prog 74:=fun de off cap zs w h1 h2 h3=>Any.slices_Compact_int F0 de off cap zs w h1 h2 h3
theorem zC:∀ (p:Option Addr) (cap:Nat) (w:World),Calls Tryz.prog 74 #[.slice p 0 cap] w fun e w'=>e= .returned (.slice p 0 cap)/\w'=w:=fun p cap w=>Any.slices_Compact_int_empty F0 p cap w
theorem vm:Enters Tryz.prog 74:=⟨_,Tryz.func74,ah,ah⟩
end Go.Proofs.YtnkamdiiakdkgaaGreat
end
