/-
  A PART OF THE PROOF. Conditions: none.
-/
import Derived.Test.YtnkamdiiakdkgaaGreatEl18
set_option linter.unusedSimpArgs false
set_option linter.unusedVariables false
namespace Go.Proofs.YtnkamdiiakdkgaaGreat
theorem X8{L:List jo}{n:Int}{k:Nat}(hn:0<=n/\n<=(L.length:Int) - 1)(ha:∀x∈L,0<=x.args/\x.args<=4):fW L n<=4:=by
 unfold fW
 rw[List.getElem?_eq_getElem (by omega)]
 exact(ha _ (List.getElem_mem _)).2
theorem H5:∀ {l:List jo} {a b:List (List UInt8)},bY l a=some b->∀x∈l,0<=x.args/\x.args<=4
 |[],_,_,_,x,hx=>by cases hx
 |y::l,a,b,h,x,hx=>by
  unfold bY at h
  split at h
  ·cases h
  ·split at h
   ·cases h
   ·rename_i h2
    rcases List.mem_cons.1 hx with e|e
    ·subst e
     simp[dR]at h2
     exact⟨h2.2.1,h2.2.2⟩
    ·exact H5 h x e
theorem Ua{s:bH}(h:jw s=true):∀x∈s.bK,0<=x.args/\x.args<=4:=by
 unfold jw at h
 split at h
 ·cases h
 ·split at h
  ·split at h
   ·cases h
   ·split at h
    ·cases h
    ·rename_i l _
     cases h2:bY s.bK l with
     |none=>rw[h2]at h;cases h
     |some B=>exact H5 h2
  ·cases h
theorem NH{s:bH}:∀t:Tm,jX s t=true->∀x∈gX t,bu s x=true:=by
 refine Tm.fy fun t ih h x hx=> ?_
 rw[sG,Bool.and_eq_true,List.all_eq_true]at h
 rw[nQ]at hx
 rcases List.mem_cons.1 hx with e|e
 ·rw[e];exact h.1
 ·obtain⟨k,hk,hx⟩:=List.mem_flatMap.1 e
  exact ih k hk (h.2 k hk) x hx
theorem X9:∀t:Tm,t.fits->∀x∈gX t,x.fits:=by
 refine Tm.fy fun t ih h x hx=> ?_
 rw[nQ]at hx
 rcases List.mem_cons.1 hx with e|e
 ·rw[e];exact h
 ·obtain⟨k,hk,hx⟩:=List.mem_flatMap.1 e
  exact ih k hk (((Tm.bZ t).1 h).2 k hk) x hx
theorem DY:∀ (l:List Tm) (i:Int) (q:List Int) (b:Bool) (x:Sp),x∈jy l i q b->∃k∈l,∃j:Int,x∈lX k (q++[j]) b
 |[],_,_,_,x,h=>by simp[jy]at h
 |k::l,i,q,b,x,h=>by
  rw[jy,List.mem_append]at h
  rcases h with h|h
  ·exact⟨k,aI,i,h⟩
  ·obtain⟨k',h1,h2⟩:=DY l _ _ _ _ h
   exact⟨k',by simp[h1],h2⟩
theorem Be:∀ (t:Tm) (q:List Int) (b:Bool),∀x∈lX t q b,x.t∈gX t/\x.path.length+x.t.nI<=q.length+t.nI:=by
 refine Tm.fy fun t ih q b x hx=> ?_
 rw[F6]at hx
 rw[nQ]
 rcases List.mem_cons.1 hx with e|e
 ·subst e;exact⟨aI,Nat.le_refl _⟩
 ·obtain⟨k,hk,j,h⟩:=DY _ _ _ _ _ e
  obtain⟨h1,h2⟩:=ih k hk _ _ x h
  refine⟨List.mem_cons_of_mem _ (List.mem_flatMap.2 ⟨k,hk,h1⟩), ?_⟩
  have:=Tm.qP hk
  rw[List.length_append]at h2
  simp at h2;omega
structure Rk (p:Pg) (r:Rl):Prop where
 fn:0<=r.fn/\r.fn<=(p.sig.bK.length:Int) - 1
 len:r.aC.length<=4
 term:fL p.sig r.rhs=true
theorem Bf{p:Pg}(h:cq p=true):jw p.sig=true:=by simp only[cq,Bool.and_eq_true]at h;exact h.1.1
theorem uS{p:Pg}(h:cq p=true){r:Rl}(hr:r∈p.rules):Rk p r:=by
 have hs:=Ua (Bf h)
 simp only[cq,Bool.and_eq_true,List.all_eq_true]at h
 have h2:=h.2 r hr
 simp only[fZ,ke,Bool.and_eq_true,decide_eq_true_eq]at h2
 obtain⟨⟨⟨⟨⟨⟨h3,h4⟩,h5⟩,h6⟩,h7⟩,h8⟩,h9⟩:=h2
 cases e:p.sig.bK[r.fn.toNat]? with
 |none=>rw[e]at h4;cases h4
 |some f=>
  rw[e]at h4
  simp only[beq_iff_eq]at h4
  have:=hs f (List.mem_of_getElem? e)
  have hl:=(List.getElem?_eq_some_iff.1 e).1
  exact⟨⟨h3,ag⟩,ag,h7⟩
theorem Rk.node {p:Pg}{r:Rl}(h:Rk p r){x:Sp}(hx:x∈lX r.rhs [] true):bu p.sig x.t=true/\x.path.length<=12:=by
 have ht:=h.term
 simp only[fL,Bool.and_eq_true,decide_eq_true_eq]at ht
 obtain⟨h1,h2⟩:=Be _ _ _ x hx
 have:=((wv r.rhs 40 12).1 ht.1).2
 refine⟨NH _ ht.2 _ h1, ?_⟩
 simp at h2;omega
theorem Rk.kids {p:Pg}{r:Rl}(h:Rk p r)(hs:jw p.sig=true){x:Sp}(hx:x∈lX r.rhs [] true)(h4:x.t.op=4):x.t.kids.length<=4:=by
 have hn:=(h.node hx).1
 simp[bu,h4,dR]at hn
 have:=X8 (k:=0) hn.1 (Ua hs)
 omega
theorem Rk.parts {p:Pg}{r:Rl}(h:Rk p r){n:Int}(hn:n∈mC r.rhs):0<=n/\n<=(p.sig.bK.length:Int) - 1:=by
 have ht:=h.term
 simp only[fL,Bool.and_eq_true]at ht
 unfold mC at hn
 obtain⟨x,h1,rfl⟩:=List.mem_map.1 hn
 obtain⟨h2,h3⟩:=List.mem_filter.1 h1
 simp only[beq_iff_eq]at h3
 have:=NH _ ht.2 x h2
 simp[bu,h3,dR]at this
 exact this.1
theorem NI(p:Pg):(pN p).Pairwise (· <·):=by
 unfold pN
 refine List.Pairwise.filter _ ?_
 rw[List.pairwise_map]
 exact List.pairwise_lt_range.imp (fun h=>ag)
theorem QL{p:Pg}(h:∀r∈p.rules,Rk p r)(n:Int):n∈pN p↔n∈p.rules.flatMap fun r=>mC r.rhs:=by
 unfold pN
 rw[List.mem_filter,List.mem_map,List.contains_iff_mem]
 constructor
 ·exact fun h=>h.2
 ·intro hn
  refine⟨?_,hn⟩
  obtain⟨r,hr,h1⟩:=List.mem_flatMap.1 hn
  have:=(h r hr).parts h1
  exact⟨n.toNat,by rw[List.mem_range];omega,ag⟩
theorem J6(zs:List Int)(h:zs.Pairwise (· <=·)):(Lib.compact zs).Pairwise (· <·):=by
 unfold Lib.compact Lib.compactUpTo
 rw[List.pairwise_map]
 have hle:∀i j,i<=j->j<zs.length->zs.toArray[i]! <=zs.toArray[j]! :=fun i j Pw hj=>by
  rcases Nat.eq_or_lt_of_le Pw with e|e
  ·rw[e];exact Int.le_refl _
  ·have:=List.pairwise_iff_getElem.1 h i j ag hj e
   simpa[getElem!_pos,hj,show i<zs.length by omega]using this
 refine List.Pairwise.imp_of_mem (fun {a b} ha hb ZI=> ?_) (List.Pairwise.filter (R:=(· <·)) _ List.pairwise_lt_range)
 obtain⟨E6,hb2⟩:=List.mem_filter.1 hb
 have E6:=List.mem_range.1 E6
 simp only[Lib.keeps,decide_eq_true_eq]at hb2
 have h1:=hle a (b - 1) ag ag
 have h2:=hle (b - 1) b ag E6
 rcases hb2 with g|g
 ·omega
 ·have g':zs.toArray[b - 1]! ≠zs.toArray[b]! :=Ne.symm g
  omega
theorem NJ(zs:List Int)(n:Int):n∈Lib.compact zs↔n∈zs:=by
 unfold Lib.compact Lib.compactUpTo
 rw[List.mem_map]
 constructor
 ·rintro⟨i,hi,rfl⟩
  have:=List.mem_range.1 (List.mem_filter.1 hi).1
  rw[getElem!_pos zs.toArray i (by simpa using this)]
  simp
 ·intro hn
  obtain⟨i,hi,rfl⟩:=List.getElem_of_mem hn
  have key:∀i,i<zs.length->∃j,j<=i/\Lib.keeps zs.toArray j=true/\zs.toArray[j]! =zs.toArray[i]! :=by
   intro i
   induction i with
   |zero=>intro _;exact⟨0,Nat.le_refl _,by simp[Lib.keeps],rfl⟩
   |succ i ih=>
    intro hi
    by_cases hk:Lib.keeps zs.toArray (i+1)=true
    ·exact⟨i+1,Nat.le_refl _,hk,rfl⟩
    ·obtain⟨j,h1,h2,h3⟩:=ih ag
     refine⟨j,ag,h2, ?_⟩
     simp only[Lib.keeps,decide_eq_true_eq,not_or,Decidable.not_not]at hk
     rw[h3,hk.2];rfl
  obtain⟨j,h1,h2,h3⟩:=key i hi
  refine⟨j,List.mem_filter.2 ⟨List.mem_range.2 ag,h2⟩, ?_⟩
  rw[h3,getElem!_pos zs.toArray i (by simpa using hi)]
  simp
theorem NK(l:List Int):(eh l).Pairwise (· <=·):=by
 have:=List.pairwise_mergeSort (le:=fun x y:Int=>decide (x<=y)) (fun a b c h1 h2=>by simp at*;omega) (fun a b=>by simp;omega) l
 exact this.imp (fun h=>by simpa using h)
theorem Ya{p:Pg}(h:∀r∈p.rules,Rk p r):Lib.compact (eh (p.rules.flatMap fun r=>mC r.rhs))=pN p:=by
 refine DW (J6 _ (NK _)) (NI p) fun n=> ?_
 rw[NJ,QL h]
 unfold eh
 exact(List.mergeSort_perm _ _).mem_iff
theorem NL:∀a:Tm,a.fits->∀b:Tm,b.fits->aV Tryz.prog 105 [a.d,b.d] (.ret [.bool (kO a b)]):=by
 refine Tm.fy fun a ih ha b hb=> ?_
 have ZW:=(Tm.bZ _).1 ha
 have Vh:=(Tm.bZ _).1 hb
 refine aV.aJ mix Te aI ?_
 rw[WR,M4]
 refine a8 ?_
 refine C3 (aj (fun h1=> ?_) (fun h1=> ?_))
 ·rw[h1]
  refine jz h1 ?_
  refine aS (Nl a.kids b.kids ZW.1 Vh.1 105 (fun x hx y hy=>ih x hx (ZW.2 x hx) y (Vh.2 y hy)) _ _ fm _ _ fun o2 n2 m1 m2 m3=> ?_)
  exact uX h1
 ·rw[h1]
  exact uX h1
theorem agi{t:Tm}{k:Tm}(hr:aV Tryz.prog 75 [t.d,k.d] (.ret [.i (ur t k)])){base tb:Nat}(EP:tb<base){h:Nat->ab}(ht:h tb= .row t.row):
 jg Tryz.prog 107 [.d k.d, .ptr tb 0] base h h (.d (.bool (pM t k))):=by
 intro o nx hI K X hK
 have hle:=hI.le
 have ot:o tb= .row t.row:=by rw[hI.eq tb EP,ht]
 have y1:tb≠nx:=ag
 have y2:∀k,tb≠nx+k:=fun k=>ag
 refine cH.aJ mix Tg aI ?_
 rw[WT]
 refine OH ot y1 y2 ?_
 refine aD hr rfl ?_
 simp+contextual (disch:=first|omega|simp only[go_sem,false_implies]) only[go_sem,wrap64,if_pos,QI]
 exact hK _ _ ag (hI.ax ag ag ag rfl) fun id i1 i2=>by(repeat(first|rfl|rw[af]|rw[ae _ _ _ _ (by omega)]))
theorem F7(t:Tm)(ht:t.fits):∀p:Tm,p.fits->aV Tryz.prog 75 [t.d,p.d] (.ret [.i (ur t p)]):=by
 refine Tm.fy fun p ih hp=> ?_
 have hp':=(Tm.bZ _).1 hp
 refine aV.aJ mix acV aI ?_
 rw[c75]
 unfold ur
 refine a8 ?_
 refine aD (NL t ht p hp) rfl ?_
 cases h1:kO t p with
 |true=>exact uX h1
 |false=>
  refine jz h1 ?_
  refine aS (tJ p.kids hp'.1 107 [.ptr 0 0] 1 (fun _:Unit=>ax (fun _=> .no) 0 (.row t.row)) (fun _ k=>((), !pM t k)) oE (fun _=>True) (fun _ _ _ _ _=>trivial) (fun x hx _ _=>by
   have:=agi (ih x hx (hp'.2 x hx)) (base:=1) (tb:=0) ag (h:=ax (fun _=> .no) 0 (.row t.row)) (af _ _ _)
   simpa using this) () trivial _ _ ⟨fm,ag,fun id aq=> ?_⟩ _ _ fun o2 n2 m1 m2 m3=> ?_)
  ·exact fq
  have e:(aw (fun(_:Unit) k=>((), !pM t k)) () p.kids).2= !(p.kids.any (pM t)):=by
   rw[n7]
   rw[List.not_any_eq_all_not]
  rw[e,Bool.not_not]
  cases h2:p.kids.any (pM t)with
  |true=>exact uX h2
  |false=>exact uX h2
theorem NM(l:List Int)(n:Int)(hl:l.length<=1000000):aV Tryz.prog 124 [.sl (l.map .i), .i n] (.ret [.bool (l.contains n)]):=by
 refine aV.aJ mix adq aI ?_
 rw[adp]
 refine a8 ?_
 refine az (fun k:Nat=>⟨aU [.d (.sl (l.map .i)), .d (.i n), .aa, .aa, .aa, .d (.i k)],fun _=> .no,0⟩)
  (fun k=>k<=l.length/\(l.take k).contains n=false) (fun k=>l.length - k) 0 ⟨Nat.zero_le _,aI⟩ (bt.d0 _ ?_) (fun k hk=> ?_)
 ·exact cz
 refine a8 ?_
 refine aj (fun h2=> ?_) (fun h2=> ?_)
 ·simp at h2
  obtain⟨x,hx⟩:=aF h2
  refine jz hx ?_
  refine aj (fun h3=> ?_) (fun h3=> ?_)
  ·refine a8 ?_
   have:l.contains n=true:=by
    rw[List.contains_iff_mem, <- (by simpa using h3:x=n)];exact List.mem_of_getElem? hx
   rw[this]
  ·refine a8 ?_
   refine ak (k+1) ⟨h2, ?_⟩ ag (bt.d0 _ ?_)
   ·have h4: ¬n=x:=fun e=>by subst e;simp at h3
    have h5:=hk.2
    rw[List.take_add_one,hx]
    rw[Bool.eq_false_iff]at h5|-
    intro hc;apply h5
    rw[List.contains_iff_mem]at hc|-
    rcases List.mem_append.1 hc with hc|hc
    ·exact hc
    ·simp at hc;exact absurd hc h4
   ·exact cz
 ·simp at h2
  refine a8 ?_
  have:=hk.2
  rw[List.take_of_length_le (by omega)]at this
  rw[this]
theorem wK:∀ (l:List Int) (n:Int),∃k,k<=l.length/\(∀x∈l.take k,x<n)/\(∀x,l[k]? =some x-> ¬x<n)/\j9 l n=if l[k]? =some n then l else l.take k++n::l.drop k
 |[],n=>⟨0,Nat.zero_le _,aI,aI,by simp[j9]⟩
 |x::l,n=>by
  obtain⟨k,h1,h2,h3,h4⟩:=wK l n
  by_cases hx:x<n
  ·refine⟨k+1,by simp;omega, ?_,by simpa using h3, ?_⟩
   ·intro y hy
    simp only[List.take_succ_cons,List.mem_cons]at hy
    rcases hy with rfl|hy
    ·exact hx
    ·exact h2 y hy
   ·simp only[j9,if_pos hx,h4,List.getElem?_cons_succ,List.take_succ_cons,List.drop_succ_cons]
    split<;>simp
  ·refine⟨0,Nat.zero_le _,aI,by simpa using hx, ?_⟩
   simp only[j9,if_neg hx]
   by_cases e:x=n
   ·subst e;simp
   ·simp[e]
theorem Lt(l:List Int)(n:Int)(hl:l.length<=1000000):aV Tryz.prog 92 [.sl (l.map .i), .i n] (.ret [.sl ((j9 l n).map .i)]):=by
 obtain⟨j,j1,j2,j3,j4⟩:=wK l n
 have tk:∀ (i:Nat) (l:List Int),List.take i (l.map D.i)=(l.take i).map D.i:=fun i l=>List.map_take.symm
 have dr:∀ (i:Nat) (l:List Int),List.drop i (l.map D.i)=(l.drop i).map D.i:=fun i l=>List.map_drop.symm
 have ap:∀ (a b:List Int),a.map D.i++[D.i n]++b.map D.i=(a++n::b).map D.i:=fun a b=>aI
 refine aV.aJ mix af4 aI ?_
 rw[c92]
 refine a8 ?_
 refine az (fun k:Nat=>⟨aU [.d (.sl (l.map .i)), .d (.i n), .aa, .aa, .aa, .d (.i k)],fun _=> .no,0⟩)
  (fun k=>k<=j) (fun k=>l.length - k) 0 (Nat.zero_le _) (bt.d0 _ ?_) (fun k hk=> ?_)
 ·exact cz
 by_cases hkj:k=j
 ·subst hkj
  by_cases h5:k<l.length
  ·obtain⟨x,hx⟩:=aF h5
   have h6:=j3 x hx
   have xh:(k:Int)<l.length:=ag
   refine xk hx xh h6 ?_
   refine aj (fun h3=> ?_) (fun h3=> ?_)
   ·refine a8 ?_
    have e:x=n:=by simpa using h3
    rw[j4,if_pos (by rw[hx,e])]
   ·have e: ¬x=n:=by simpa using h3
    rw[j4,if_neg (by rw[hx];simpa using e)]
    simp+contextual (disch:=first|omega|simp only[go_sem,false_implies]) only[go_sem,wrap64,if_pos,hx,xh,h6,tk,dr,List.take_length,List.length_map,List.length_take,List.length_drop,List.length_append,List.length_cons,List.length_nil]
    rw[ap]
    exact GD
  ·have xh: ¬ (k:Int)<l.length:=ag
   have hx:l[k]? =none:=by simp;omega
   rw[j4,if_neg (by rw[hx];simp)]
   simp+contextual (disch:=first|omega|simp only[go_sem,false_implies]) only[go_sem,wrap64,if_pos,xh,tk,dr,List.take_length,List.length_map,List.length_take,List.length_drop,List.length_append,List.length_cons,List.length_nil]
   rw[ap]
   exact GD
 ·have cG:k<l.length:=ag
  obtain⟨x,hx⟩:=aF cG
  have xh:(k:Int)<l.length:=ag
  have h6:x<n:=j2 x (List.mem_of_getElem? (i:=k) (by rw[List.getElem?_take_of_lt (by omega)];exact hx))
  refine xk hx xh h6 ?_
  refine ak (k+1) ag ag (bt.d0 _ ?_)
  exact cz
theorem rR{op n:Int}{i:Nat}{l:List Int}{k:Nat}{v:Int}(h:l[k]? =some v)(out:List Int):mA op n i (l.take (k+1)) out=if(op !=8||(i:Int)!=1||v !=n)=true then j9 (mA op n i (l.take k) out) v else mA op n i (l.take k) out:=by
 unfold mA
 rw[List.take_add_one,h,List.foldl_append]
 rfl
theorem uT:∀t:Tm,t.FU->aV Tryz.prog 114 [t.d] (.ret [.sl ((bR t).map .i)]):=by
 refine Tm.fy fun t ih ht=> ?_
 have oU:=(Tm.bZ _).1 ht.fits
 refine aV.aJ mix adk aI ?_
 rw[adj]
 by_cases h1:t.op=1
 ·refine jz h1 ?_
  rw[nS,if_pos h1]
  rfl
 ·have ma:(t.op==1)=false:=by simpa using h1
  refine jz ma ?_
  rw[nS,if_neg h1]
  refine az (fun i:Nat×List Int=>⟨aU [.aa, .ptr 0 0, .aa, .d (.sl (i.2.map .i)), .d (.i i.1)],jh t.row,1⟩)
   (fun i=>i.1<=t.kids.length/\ji t.op t.n t.kids 0 []=ji t.op t.n (t.kids.drop i.1) i.1 i.2/\i.2.length<=iV (t.kids.take i.1)) (fun i=>t.kids.length - i.1) (0,[]) ⟨Nat.zero_le _,rfl,Nat.zero_le _⟩
   (bt.aec (fun _=>False) 1 _ ag (lt1 (cV rfl zK)) (fun j hj=>ae _ _ _ _ ag) (fun _ h=>h.elim) ?_) ?_
  ·try dsimp only
   exact tU
  rintro⟨k,out⟩ ⟨hk,hv,hlen⟩
  simp only at hk hv hlen
  refine a8 ?_
  refine aj (fun h2=> ?_) (fun h2=> ?_)
  ·simp at h2
   obtain⟨x,hx⟩:=aF h2
   have gf:=List.mem_of_getElem? hx
   have dO:iV (t.kids.take (k+1))=iV (t.kids.take k)+x.sz:=by
    rw[List.take_add_one,hx];simp[iV]
   have hle:iV (t.kids.take (k+1))<=iV t.kids:=by
    have:iV t.kids=iV (t.kids.take (k+1))+iV (t.kids.drop (k+1)):=by
     conv=>lhs;rw[<- List.take_append_drop (k+1) t.kids]
     exact K7
    omega
   have uC:iV t.kids<=1000000:=by have:=ht.size;rw[Tm.rb,Tm.re]at this;omega
   have hvl:=lR x
   have Ub:t.kids.drop k=x::t.kids.drop (k+1):=by
    exact R1
   refine jz hx ?_
   refine a7 (ih x gf (ht.kid gf)) ?_
   refine jz hx ?_
   refine az (fun j:Nat=>⟨aU [.aa, .ptr 0 0, .aa, .d (.sl ((mA t.op t.n k ((bR x).take j) out).map .i)), .d (.i k), .d (.sl ((bR x).map .i)), .d (.i j)],jh t.row,1⟩)
    (fun j=>j<=(bR x).length) (fun j=>(bR x).length - j) 0 (Nat.zero_le _) (bt.d1 _ (aX rfl) ag rfl ?_) (fun j hj=> ?_)
   ·exact cz
   refine a8 ?_
   refine aj (fun h3=> ?_) (fun h3=> ?_)
   ·simp at h3
    obtain⟨v,Ou⟩:=aF h3
    have tM:=nT t.op t.n k ((bR x).take j) out
    have htl:((bR x).take j).length<=(bR x).length:=by rw[List.length_take];omega
    cases b1:(t.op !=8)with
    |true=>
     have hc:(t.op !=8||(k:Int)!=1||v !=t.n)=true:=by rw[b1];rfl
     refine xm Ou b1 ?_
     exact aaZ
    |false=>
     cases b2:((k:Int)!=1)with
     |true=>
      have hc:(t.op !=8||(k:Int)!=1||v !=t.n)=true:=by rw[b1,b2];rfl
      refine xk Ou b1 b2 ?_
      exact aaZ
     |false=>
      refine xk Ou b1 b2 ?_
      refine aH bI ?_
      refine jz Ou ?_
      refine aj (fun h4=> ?_) (fun h4=> ?_)
      ·have hc:(t.op !=8||(k:Int)!=1||v !=t.n)=true:=by rw[h4];simp
       refine jz Ou ?_
       refine a7 (Lt _ v ag) ?_
       refine a8 ?_
       refine ak (j+1) h3 ag (bt.d1 _ (aX rfl) ag rfl ?_)
       rw[rR Ou,if_pos hc]
       exact cz
      ·have hc: ¬ (t.op !=8||(k:Int)!=1||v !=t.n)=true:=by rw[b1,b2,h4];simp
       refine jz Ou ?_
       refine ak (j+1) h3 ag (bt.d1 _ (aX rfl) ag rfl ?_)
       rw[rR Ou,if_neg hc]
       exact cz
   ·simp at h3
    refine a8 ?_
    rw[List.take_of_length_le (by omega)]
    refine ak (k+1,mA t.op t.n k (bR x) out) ⟨h2,by rw[hv,Ub];rfl, ?_⟩ kp (bt.d1 _ (aX rfl) ag rfl ?_)
    ·dsimp only
     have:=nT t.op t.n k (bR x) out
     omega
    ·exact cz
  ·simp at h2
   refine a8 ?_
   rw[hv,List.drop_eq_nil_of_le (by omega)]
   rfl
theorem QM:∀t:Tm,t.fits->aV Tryz.prog 153 [t.d] (.ret [.bool (gU t)]):=by
 refine Tm.fy fun t ih hf=> ?_
 have oU:=(Tm.bZ _).1 hf
 refine aV.aJ mix adT aI ?_
 rw[adS,zr]
 refine a8 ?_
 refine az (fun k:Nat=>⟨aU [.aa, .ptr 0 0, .aa, .d (.i k)],jh t.row,1⟩)
  (fun k=>k<=t.kids.length/\(t.kids.take k).all gU=true) (fun k=>t.kids.length - k) 0 ⟨Nat.zero_le _,aI⟩ (bt.d1 _ (aX rfl) ag rfl ?_) (fun k hk=> ?_)
 ·exact cz
 refine a8 ?_
 refine aj (fun h2=> ?_) (fun h2=> ?_)
 ·simp at h2
  obtain⟨x,hx⟩:=aF h2
  have gf:=List.mem_of_getElem? hx
  refine jz hx ?_
  refine aD (ih x gf (oU.2 x gf)) rfl ?_
  refine a8 ?_
  refine aj (fun h3=> ?_) (fun h3=> ?_)
  ·refine a8 ?_
   simp at h3
   rw[cK hx h3];rfl
  ·exact aba
 ·refine a8 ?_
  simp at h2
  rw[eU hk.2 h2];rfl
theorem Yb:∀t:Tm,t.FU->∀b:List Int,b.length+t.sz<=1000000->aV Tryz.prog 152 [t.d, .sl (b.map .i)] (.ret [.sl ((gB t b).1.map .i), .bool (gB t b).2]):=by
 refine Tm.fy fun t ih ht b hb=> ?_
 have oU:=(Tm.bZ _).1 ht.fits
 refine aV.aJ mix adR aI ?_
 rw[adQ]
 by_cases h1:t.op=1
 ·rw[rn,if_pos h1]
  refine jz h1 ?_
  refine dZ (Lt _ _ ag) ?_
  refine a8 ?_
  refine ba (NM _ _ ag) rfl ?_
  refine a8 ?_
  exact GD
 ·have ma:(t.op==1)=false:=by simpa using h1
  rw[rn,if_neg h1]
  refine jz ma ?_
  refine az (fun i:Nat×List Int×Bool=>⟨aU [.aa, .d (.sl (i.2.1.map .i)), .ptr 0 0, .aa, .aa, .aa, .d (.bool i.2.2), .d (.i i.1)],jh t.row,1⟩)
   (fun i=>i.1<=t.kids.length/\fY t.kids b=(if i.2.2=true then fY (t.kids.drop i.1) i.2.1 else(i.2.1,false))/\i.2.1.length<=b.length+iV (t.kids.take i.1)) (fun i=>t.kids.length - i.1) (0,b,true) ⟨Nat.zero_le _,rfl,Nat.le_add_right _ _⟩ (bt.d1 _ (aX rfl) ag rfl ?_) ?_
  ·dsimp only
   exact cz
  rintro⟨k,b',is⟩ ⟨hk,hv,hlen⟩
  simp only at hk hv hlen
  have uC:=Tm.re t
  have fin:is=false\/t.kids.length<=k->fY t.kids b=(b',is):=by
   intro h
   cases is with
   |false=>rw[hv];rfl
   |true=>
    have h:t.kids.length<=k:=by simpa using h
    rw[hv,List.drop_eq_nil_of_le h];rfl
  refine a8 ?_
  cases is with
  |false=>
   refine a8 ?_
   rw[fin (.inl rfl)]
  |true=>
   refine a8 ?_
   refine aj (fun h2=> ?_) (fun h2=> ?_)
   ·simp at h2
    obtain⟨x,hx⟩:=aF h2
    have gf:=List.mem_of_getElem? hx
    have dO:iV (t.kids.take (k+1))=iV (t.kids.take k)+x.sz:=by
     rw[List.take_add_one,hx];simp[iV]
    have hle:iV t.kids=iV (t.kids.take (k+1))+iV (t.kids.drop (k+1)):=by
     conv=>lhs;rw[<- List.take_append_drop (k+1) t.kids]
     exact K7
    have Ub:t.kids.drop k=x::t.kids.drop (k+1):=by
     exact R1
    refine jz hx ?_
    refine a7 (ih x gf (ht.kid gf) b' ag) ?_
    refine a8 ?_
    refine ak (k+1,(gB x b').1,(gB x b').2) ⟨h2, ?_, ?_⟩ kp (bt.d1 _ (aX rfl) ag rfl ?_)
    ·dsimp only
     rw[hv,if_pos rfl,Ub]
     simp only[fY]
    ·dsimp only
     have:=J2 x b'
     omega
    ·exact cz
   ·simp at h2
    refine a8 ?_
    rw[fin (.inr h2)]
theorem J7(t:Tm)(ht:t.FU):aV Tryz.prog 110 [t.d] (.ret [.bool ((gB t []).2&&gU t)]):=by
 have ho:=Yb t ht [] (by have:=ht.size;rw[Tm.rb]at this;simp;omega)
 simp only[List.map_nil]at ho
 refine aV.aJ mix ada aI ?_
 rw[ac9]
 refine a8 ?_
 refine a7 ho ?_
 refine a8 ?_
 refine fV (eR [.bool (gU t)] ?_ ?_)
 ·refine a8 ?_
  exact fun _=>QM t ht.fits
 exact xV
def IC.snd:IC->IC
 | .seq _ y=>y
 |c=>c
def IC.fst:IC->IC
 | .seq x _=>x
 | .block _ x=>x
 | .loop x=>x
 | .cond _ x _=>x
 |c=>c
theorem DZ{c:Nat}{G:List Gr}{so:Nat->ab}{gone:Nat->Prop}{x x' y y':ab}(h:x=y)(h':x'=y')(hs:uj c G so gone y y'):uj c G so gone x x':=by rw[h,h'];exact hs
theorem wL{l:List Tm}{k:Tm}(h:k∈l):k.sz<=iV l:=by
 induction l with
 |nil=>cases h
 |cons x l ih=>
  rw[j8]
  rcases List.mem_cons.1 h with e|e
  ·subst e;omega
  ·have:=ih e;omega
theorem Bg:∀t:Tm,t.nI<=t.sz:=by
 refine Tm.fy fun t ih=> ?_
 rw[Tm.FV,Tm.re]
 have:=(uO t.kids (iV t.kids)).2 fun k hk=>Nat.le_trans (ih k hk) (wL hk)
 omega
theorem Tm.FU.F8 {t:Tm}(hf:t.fits)(h:t.sz<=900000):t.FU:=⟨⟨hf,Nat.le_trans (Bg t) h⟩,by rw[Tm.rb];omega⟩
theorem wM(l:List Tm)(h:∀k∈l,(dL k).length<=k.sz):(cS l).length<=iV l:=by
 induction l with
 |nil=>simp[cS]
 |cons k l ih=>
  rw[cS,List.length_append,j8]
  have:=h k aI
  have:=ih fun x hx=>h x o8
  omega
theorem sS:∀t:Tm,(dL t).length<=t.sz:=by
 refine Tm.fy fun t ih=> ?_
 have:=wM t.kids ih
 rw[sO,List.length_append,Tm.re]
 split<;>simp<;>omega
theorem xP(a b:List Tm):cS (a++b)=cS a++cS b:=by
 induction a with
 |nil=>simp[cS]
 |cons k a ih=>simp[cS,ih]
def NN:IC:=Qd.snd.snd.snd.fst.snd.fst.fst
theorem wN{t:Tm}(hf:t.fits)(hz:t.sz<=1000000)(ih:∀k∈t.kids,k.fits->k.sz<=1000000->aV Tryz.prog 154 [k.d] (.ret [.sl ((dL k).map .i)]))(p:List Int)(hp:p.length<=1){e:Nat->V}{o:Nat->ab}{nx:Nat}{Q:fG->S->Prop}
 (hs:bt 0 ⟨e,o,nx⟩ ⟨aU [.aa, .ptr 0 0, .aa, .osl 1 0, .d (.i 0)],ax (ax (fun _=> .no) 0 (.row t.row)) 1 (.arr 0 3 1 (p.map .i)),2⟩)
 (hQ:∀e' n',e' 3= .osl 1 0->Q (.exit 0) ⟨e',ax (ax (fun _=> .no) 0 (.row t.row)) 1 (.arr 0 3 1 ((p++cS t.kids).map .i)),n'⟩):
 C0 0 (fun Q s=>kN Tryz.prog 29 0 false NN Q s) Q ⟨e,o,nx⟩:=by
 have oU:=(Tm.bZ _).1 hf
 have uC:=Tm.re t
 refine az (fun i:Nat=>⟨aU [.aa, .ptr 0 0, .aa, .osl 1 0, .d (.i i)],ax (ax (fun _=> .no) 0 (.row t.row)) 1 (.arr 0 3 1 ((p++cS (t.kids.take i)).map .i)),2⟩)
  (fun i=>i<=t.kids.length) (fun i=>t.kids.length - i) 0 (Nat.zero_le _) ?_ fun k hk=> ?_
 ·simpa[cS]using hs
 replace hk:k<=t.kids.length:=hk
 simp only[NN,Qd,IC.snd,IC.fst]
 refine rM ?_
 refine aj (fun h2=> ?_) (fun h2=> ?_)
 ·simp at h2
  obtain⟨x,hx⟩:=aF h2
  have gf:=List.mem_of_getElem? hx
  have EJ:t.kids.take (k+1)=t.kids.take k++[x]:=by rw[List.take_add_one,hx];rfl
  have vl:(cS (t.kids.take k)).length<=iV (t.kids.take k):=wM _ fun y _=>sS y
  have dO:iV t.kids=iV (t.kids.take k)+iV (t.kids.drop k):=by
   conv=>lhs;rw[<- List.take_append_drop k t.kids]
   exact K7
  have IV:=wL gf
  have YN:=sS x
  have hl3:(p++cS (t.kids.take k)).length<=1000001:=by rw[List.length_append];omega
  refine oC hx ?_
  refine a7 (ih x gf (oU.2 x gf) ag) ?_
  refine oC hx ?_
  refine ak (k+1) h2 ag (bt.xK (fun j=>j=1) (.osl 1 1) 1 _ ag (lt1 (DZ (y:= .row t.row) fq fq (cV rfl zK))) (af _ _ _) (.inr ⟨1,1,rfl,rfl,by(repeat(first|rfl|rw[af]|rw[ae _ _ _ _ (by omega)]));rw[EJ,xP, <- List.append_assoc,List.map_append];simp[cS]⟩) (fun j hj=>by(repeat(first|rfl|rw[af]|rw[ae _ _ _ _ (by omega)]))) (fun j h h2=>ag) ?_)
  exact tU
 ·simp at h2
  have tM:k=t.kids.length:=ag
  subst tM
  rw[List.take_length]
  refine rM ?_
  exact hQ _ _ rfl
theorem QN:∀t:Tm,t.fits->t.sz<=1000000->aV Tryz.prog 154 [t.d] (.ret [.sl ((dL t).map .i)]):=by
 refine Tm.fy fun t ih hf hz=> ?_
 refine aV.aJ mix adU aI ?_
 rw[Qd,sO]
 by_cases h8:t.op=8
 ·have h8':(t.op==8)=true:=by simpa using h8
  refine jz h8' ?_
  rw[if_pos h8]
  refine wN hf hz ih [t.n] aI ?_ fun e' n' he=> ?_
  ·refine bt.xK (fun j=>1<=j) _ 1 _ ag (lt1 (DZ (y:= .row t.row) fq fq (cV rfl zK))) (af _ _ _) (.inr ⟨_,_, ?_,rfl,by(repeat(first|rfl|rw[af]|rw[ae _ _ _ _ (by omega)]))⟩) (fun j hj=>by(repeat(first|rfl|rw[af]|rw[ae _ _ _ _ (by omega)]))) (fun j h h2=>ag) ?_
   ·decide
   ·exact tU
  ·exact uX he
 ·have h8':(t.op==8)=false:=by simpa using h8
  refine jz h8' ?_
  rw[if_neg h8]
  refine wN hf hz ih [] aI ?_ fun e' n' he=> ?_
  ·refine bt.xK (fun _=>False) .aZ 1 _ ag (lt1 (cV rfl zK)) (af _ _ _) (.inl ⟨rfl,rfl,bI⟩) (fun j hj=>by(repeat(first|rfl|rw[af]|rw[ae _ _ _ _ (by omega)]))) (fun _ h=>h.elim) ?_
   exact tU
  ·exact uX he
theorem NO(l:List Int)(n:Int)(hl:l.length<=1000000):aV Tryz.prog 155 [.sl (l.map .i), .i n] (.ret [.i (l.count n)]):=by
 refine aV.aJ mix adW aI ?_
 rw[adV]
 refine a8 ?_
 refine az (fun k:Nat=>⟨aU [.d (.sl (l.map .i)), .d (.i n), .aa, .aa, .aa, .d (.i ((l.take k).count n)), .d (.i k)],fun _=> .no,0⟩)
  (fun k=>k<=l.length) (fun k=>l.length - k) 0 (Nat.zero_le _) (bt.d0 _ ?_) (fun k hk=> ?_)
 ·exact cz
 replace hk:k<=l.length:=hk
 have hc:(l.take k).count n<=1000000:=by have:=List.count_le_length (a:=n) (l:=l.take k);rw[List.length_take]at this;omega
 refine rM ?_
 refine aj (fun h2=> ?_) (fun h2=> ?_)
 ·simp at h2
  obtain⟨x,hx⟩:=aF h2
  have EJ:(l.take (k+1)).count n=(l.take k).count n+if x=n then 1 else 0:=by rw[List.take_add_one,hx,List.count_append];simp[List.count_singleton]
  refine oC hx ?_
  refine aj (fun h3=> ?_) (fun h3=> ?_)
  ·have mf:x=n:=by simpa using h3
   rw[if_pos mf]at EJ
   exact U4
  ·have mf: ¬x=n:=by simpa using h3
   rw[if_neg mf]at EJ
   exact U4
 ·simp at h2
  refine a8 ?_
  rw[List.take_of_length_le h2]
theorem tP(n:Int):∀l:List Tm,iQ n l=l.all (eG n)
 |[]=>rfl
 |k::l=>by simp[iQ,tP n l]
theorem D0(n:Int):∀t:Tm,t.fits->aV Tryz.prog 111 [t.d, .i n] (.ret [.bool (eG n t)]):=by
 refine Tm.fy fun t ih hf=> ?_
 have oU:=(Tm.bZ _).1 hf
 refine aV.aJ mix ade aI ?_
 rw[adb,wE,tP]
 refine a8 ?_
 refine az (fun k:Nat=>⟨aU [.aa, .d (.i n), .ptr 0 0, .aa, .aa, .d (.i k)],jh t.row,1⟩)
  (fun k=>k<=t.kids.length/\(t.kids.take k).all (eG n)=true) (fun k=>t.kids.length - k) 0 ⟨Nat.zero_le _,aI⟩ (bt.d1 _ (aX rfl) ag rfl ?_) (fun k hk=> ?_)
 ·exact cz
 refine a8 ?_
 refine aj (fun h2=> ?_) (fun h2=> ?_)
 ·simp at h2
  obtain⟨x,hx⟩:=aF h2
  have gf:=List.mem_of_getElem? hx
  refine jz hx ?_
  refine aD (ih x gf (oU.2 x gf)) rfl ?_
  refine a8 ?_
  refine aj (fun h3=> ?_) (fun h3=> ?_)
  ·refine a8 ?_
   simp at h3
   rw[cK hx h3];rfl
  ·exact aba
 ·simp at h2
  rw[eU hk.2 h2,Bool.true_and]
  exact xV
theorem D1(l:List Tm):aV Tryz.prog 115 [.sl (l.map Tm.d)] (.ret [(Tm.mk 0 0 l).d]):=by
 refine aV.aJ mix adm aI ?_
 rw[adl,Tm.C5]
 exact xV
structure NP (l:List Tm):Prop where
 len:l.length<=1000
 all:∀t∈l,t.fits/\t.sz<=500
theorem NP.cnt {l:List Tm}(h:NP l){t:Tm}(ht:t∈l):t.FU:=Tm.FU.F8 (h.all t ht).1 (by have:=(h.all t ht).2;omega)
theorem NP.iV {l:List Tm}(h:NP l):iV l<=500000:=by
 have:∀l:List Tm,(∀t∈l,t.sz<=500)->Go.Proofs.YtnkamdiiakdkgaaGreat.iV l<=500*l.length:=by
  intro l
  induction l with
  |nil=>intro _;simp[Go.Proofs.YtnkamdiiakdkgaaGreat.iV]
  |cons k l ih=>intro h;rw[j8,List.length_cons];have:=h k aI;have:=ih fun x hx=>h x o8;omega
 have:=this l fun t ht=>(h.all t ht).2
 have:=h.len
 omega
theorem NP.fits {l:List Tm}(h:NP l):(Tm.mk 0 0 l).fits:=by
 rw[Tm.bZ]
 exact⟨by have:=h.len;simp only[Tm.kids];omega,fun k hk=>(h.all k hk).1⟩
theorem NP.whole {l:List Tm}(h:NP l):(Tm.mk 0 0 l).FU:=Tm.FU.F8 h.fits (by have:=h.iV;rw[Tm.T7];omega)
theorem NQ(l:List Tm)(h:NP l):aV Tryz.prog 112 [.sl (l.map Tm.d)] (.ret [.bool (F3 l)]):=by
 have hlen:=h.len
 refine aV.aJ mix adg aI ?_
 rw[adf]
 refine a8 ?_
 refine az (fun k:Nat=>⟨aU [.d (.sl (l.map Tm.d)), .aa, .aa, .d (.i (((l.take k).map fun t=>(bR t).length).sum:Nat)), .d (.i k)],fun _=> .no,0⟩)
  (fun k=>k<=l.length) (fun k=>l.length - k) 0 (Nat.zero_le _) (bt.d0 _ ?_) (fun k hk=> ?_)
 ·exact cz
 replace hk:k<=l.length:=hk
 have hs:((l.take k).map fun t=>(bR t).length).sum<=500000:=by
  have h1:∀m:List Tm,(m.map fun t=>(bR t).length).sum<=Go.Proofs.YtnkamdiiakdkgaaGreat.iV m:=by
   intro m
   induction m with
   |nil=>simp[Go.Proofs.YtnkamdiiakdkgaaGreat.iV]
   |cons x m ih=>rw[List.map_cons,List.sum_cons,j8];have:=lR x;omega
  have h2:Go.Proofs.YtnkamdiiakdkgaaGreat.iV l=Go.Proofs.YtnkamdiiakdkgaaGreat.iV (l.take k)+Go.Proofs.YtnkamdiiakdkgaaGreat.iV (l.drop k):=by
   conv=>lhs;rw[<- List.take_append_drop k l]
   unfold Go.Proofs.YtnkamdiiakdkgaaGreat.iV;rw[List.map_append,List.sum_append]
  have:=h1 (l.take k)
  have:=h.iV
  omega
 refine rM ?_
 refine aj (fun h2=> ?_) (fun h2=> ?_)
 ·simp at h2
  obtain⟨x,hx⟩:=aF h2
  have gf:=List.mem_of_getElem? hx
  have hv:=lR x
  have hx5:=(h.all x gf).2
  have EJ:((l.take (k+1)).map fun t=>(bR t).length).sum=((l.take k).map fun t=>(bR t).length).sum+(bR x).length:=by rw[List.take_add_one,hx,List.map_append,List.sum_append];simp
  refine oC hx ?_
  refine a7 (uT x (h.cnt gf)) ?_
  exact U4
 ·simp at h2
  refine a8 ?_
  refine a7 (D1 l) ?_
  refine a8 ?_
  refine a7 (uT _ h.whole) ?_
  rw[List.take_of_length_le h2]
  refine rM ?_
  congr 3
  rw[F3,Bool.eq_iff_iff]
  simp
  omega
theorem QO(t:Tm)(ht:t.FU)(p:List Int)(hp:p.length<=1000000):aV Tryz.prog 113 [t.d, .sl (p.map .i)] (.ret [.bool (sP t p)]):=by
 have hz:t.sz<=1000000:=by have:=ht.size;rw[Tm.rb]at this;omega
 have hl:=sS t
 have hv:=lR t
 refine aV.aJ mix adi aI ?_
 rw[adh]
 refine a8 ?_
 refine dZ (QN t ht.fits hz) ?_
 refine a8 ?_
 refine dZ (uT t ht) ?_
 refine a8 ?_
 refine aH bI ?_
 refine a8 ?_
 let q:Int->Bool:=fun v=> !(decide (1<((dL t).count v:Int))||p.contains v||(bR t).contains v)
 have hq:sP t p=(dL t).all q:=rfl
 rw[hq]
 refine az (fun k:Nat=>⟨aU [.aa, .d (.sl (p.map .i)), .ptr 0 0, .aa, .aa, .d (.sl ((dL t).map .i)), .d (.sl ((bR t).map .i)), .d (.i k)],jh t.row,1⟩)
  (fun k=>k<=(dL t).length/\((dL t).take k).all q=true) (fun k=>(dL t).length - k) 0 ⟨Nat.zero_le _,aI⟩ (bt.d1 _ (aX rfl) ag rfl ?_) (fun k hk=> ?_)
 ·exact cz
 refine rM ?_
 refine aj (fun h2=> ?_) (fun h2=> ?_)
 ·simp at h2
  obtain⟨x,hx⟩:=aF h2
  have hqx:q x= !(decide (1<((dL t).count x:Int))||p.contains x||(bR t).contains x):=rfl
  refine oC hx ?_
  refine aD (NO (dL t) x ag) rfl ?_
  cases h3:decide (1<((dL t).count x:Int))with
  |true=>
   refine On hx h3 ?_
   rw[cK hx (by rw[hqx,h3];rfl)]
  |false=>
   refine On hx h3 ?_
   refine aD (NM p x ag) rfl ?_
   cases h4:p.contains x with
   |true=>
    refine On hx h3 ?_
    rw[cK hx (by rw[hqx,h3,h4];rfl)]
   |false=>
    refine On hx h3 ?_
    refine aD (NM (bR t) x ag) rfl ?_
    cases h5:(bR t).contains x with
    |true=>
     refine On hx h3 ?_
     rw[cK hx (by rw[hqx,h3,h4,h5];rfl)]
    |false=>
     refine On hx h3 ?_
     refine ak (k+1) ⟨h2,fH hx hk.2 (by rw[hqx,h3,h4,h5];rfl)⟩ ag (bt.d1 _ (aX rfl) ag rfl ?_)
     exact cz
 ·simp at h2
  rw[eU hk.2 h2]
  exact xV
theorem cH.rr {P:Program}{g:FuncId}{x:V}{d:D}{rest:List V}{o:Nat->ab}{nx:Nat}{K X:V->(Nat->ab)->Nat->Prop}(hx:dB o x=some d)
 (h:cH P g (.d d::rest) (put o (bT o x.ids)) nx K X):cH P g (x::rest) o nx K X:=by
 refine⟨h.1,fun M φ w vals hH hd=> ?_⟩
 have hd0:=hd
 obtain⟨val,us,jK,hv,ed⟩:=hd
 have hu:=fun id aq=>cJ x val hv id aq
 obtain⟨f1,f2,f3,f4,f5⟩:=cO (H:=hp o nx) hH x.ids hu
 have fU:(hp o nx).put (bT o x.ids)=hp (put o (bT o x.ids)) nx:=Nk (fun y hy=>by
  simp only[bT,List.mem_map]at hy
  obtain⟨id,aq,rfl⟩:=hy
  exact hu id aq)
 have JX:=f1;have HT:=f2
 rw[show bT (hp o nx).o x.ids=bT o x.ids from rfl,fU]at JX HT
 have T1:∀k,cE φ ((hp o nx).put (bT o x.ids)) k->cE φ (hp o nx) k:=by
  rintro k ⟨id,g1,g2⟩
  by_cases aq:id∈x.ids
  ·have:=f3 id aq
   rw[show((hp o nx).put (bT o x.ids)).o id=_ from this]at g1
   refine⟨id, ?_,g2⟩
   revert g1
   cases(hp o nx).o id<;>simp[ab.fz,ab.live]
  ·have:=f4 id aq
   exact R4
 have zw:∀j,mS (((hp o nx).put (bT o x.ids)).o j) ((hp o nx).o j):=fun j=>by
  by_cases hm:j∈x.ids
  ·exact Rz
  ·exact Rn
 have h4:=V.lL (H:=hp o nx) (H':=(hp o nx).put (bT o x.ids)) (B:=ao M φ (hp o nx)) (B':=ao M φ ((hp o nx).put (bT o x.ids))) (fun k h h'=>h (h'.imp id (T1 k))) x val (fun id aq=>⟨zw id,rfl,(f5 id).2 ((V.lM x val hv) id aq)⟩) hv
 have h5:=eC f1 (o:=o) x d val (fun id aq=>f3 id aq) hx h4
 have h6:=V.fj (H:=hp o nx) (H':=(hp o nx).put (bT o x.ids)) (B:=ao M φ (hp o nx)) (B':=ao M φ ((hp o nx).put (bT o x.ids))) (fun k h h'=>h (h'.imp id (T1 k))) rest us (fun id aq=>⟨zw id,rfl,(f5 id).2 ((V.eT rest us ed) id aq)⟩) ed
 rw[show(hp o nx).put (bT (hp o nx).o x.ids)=hp (put o (bT o x.ids)) nx from fU]at h5
 rw[fU]at h6
 refine(h.2 M φ w vals JX ⟨val,us,jK,h5,h6⟩).mono ?_
 rintro e w' ⟨aG,o',nx',v,k1,k2,k3⟩
 exact⟨aG,o',nx',v,k1,HT.trans k2,k3⟩
section
@[reducible] def Sp.row (x:Sp):List V:=[.d (.i x.t.op), .d (.i x.t.n), .d (.sl (x.t.kids.map Tm.d)), .d (.sl (x.path.map .i)), .d (.bool x.bare)]
@[reducible] def Sp.d (x:Sp):D:= .agg [.i x.t.op, .i x.t.n, .sl (x.t.kids.map Tm.d), .sl (x.path.map .i), .bool x.bare]
section
variable {σ:Type}(base nP:Nat)(H:σ->Nat->ab)(step:σ->Sp->σ×Bool)(ok:List Sp->σ->Prop)
theorem sT(k:Tm)(l:List Tm)(i:Int)(q:List Int)(b:Bool):jy (k::l) i q b=lX k (q++[i]) b++jy l (i+1) q b:=by rw[jy]
theorem zx{α:Type}{step:σ->α->σ×Bool}:∀ (a b:List α) (s:σ),aw step s (a++b)=if(aw step s a).2=true then aw step (aw step s a).1 b else aw step s a
 |[],b,s=>by simp[aw]
 |x::a,b,s=>by
  simp only[List.cons_append,aw]
  split
  ·exact zx a b _
  ·simp
theorem rQ(aW:∀x r s,ok (x::r) s->(step s x).2=true->ok r (step s x).1):∀ (l rest:List Sp) (s:σ),ok (l++rest) s->(aw step s l).2=true->ok rest (aw step s l).1
 |[],rest,s,h,_=>h
 |x::l,rest,s,h,h2=>by
  simp only[aw]at h2|-
  split at h2
  ·rename_i hb
   rw[if_pos hb]
   exact rQ aW l rest _ (aW _ _ _ h hb) h2
  ·rename_i hb
   exact absurd h2 Bool.false_ne_true
theorem J8(aW:∀x r s,ok (x::r) s->(step s x).2=true->ok r (step s x).1):∀t:Tm,t.fits->∀ (q:List Int) (b:Bool),q.length+t.nI<=1000000->(∀x∈lX t q b,∀r s,ok (x::r) s->ZO Tryz.prog nP [.d x.d] base (H s) (H (step s x).1) (.d (.bool (step s x).2)))->nP<base->
 ∀ (c:Nat) (o0:Nat->ab) (yb vb:Nat),base<=c->base<=yb->yb<c->base<=vb->vb<c->o0 yb= .row [.ju nP]->o0 vb= .row [.func (.func 102) [] [.ptr yb 0, .ptr vb 0]]->
 ∀rest s,ok (lX t q b++rest) s->jg Tryz.prog 102 [.d (Sp.mk t q b).d, .ptr yb 0, .ptr vb 0] c (ext base (H s) o0) (ext base (H (aw step s (lX t q b)).1) o0) (.d (.bool (aw step s (lX t q b)).2)):=by
 refine Tm.fy fun t ih hf q b hqh hR wm c o0 yb vb Ot OC hy OD hv oy ov rest s iL=> ?_
 have oU:=(Tm.bZ _).1 hf
 intro o nx hI K X hK
 have hle:=hI.le
 have Qn:o yb= .row [.ju nP]:=by rw[hI.eq yb hy];unfold ext;rw[if_neg (by omega),oy]
 have Qo:o vb= .row [.func (.func 102) [] [.ptr yb 0, .ptr vb 0]]:=by rw[hI.eq vb hv];unfold ext;rw[if_neg (by omega),ov]
 have y1:yb≠nx:=ag
 have y2:∀k,yb≠nx+k:=fun k=>ag
 have y3:vb≠nx:=ag
 have y4:∀k,vb≠nx+k:=fun k=>ag
 refine cH.aJ mix Td aI ?_
 rw[WQ]
 simp+contextual (disch:=first|omega|simp only[go_sem,false_implies]) only[go_sem,wrap64,if_pos,Qn,Qo,y1,y2,y3,y4,Nat.add_assoc,Nat.left_eq_add,Nat.add_eq_left,Nat.add_left_cancel_iff]
 have o9:=F6 t q b
 rw[o9,List.cons_append]at iL
 have hb:∀id,id<base->o id=H s id:=fun id aq=>by rw[hI.eq id (by omega)];unfold ext;rw[if_pos aq]
 have hIb:cR base (H s) o nx:=⟨hI.bn,ag,hb⟩
 refine nO (hR ⟨t,q,b⟩ BT _ s iL _ _ (hIb.ax (i:=nx) (m:=nx+4) ag ag ag rfl) _ _ fun o2 n2 m1 m2 m3=> ?_)
 have k0:o2 nx= .row (Sp.mk t q b).row:=by rw[m3 nx (by omega) (by omega),af]
 have hold:∀id,base<=id->id<nx->o2 id=o id:=fun id h1 h2=>by rw[m3 id h1 (by omega),ae _ _ _ _ (by omega)]
 have EK:∀id,base<=id->id<c->o id=o0 id:=fun id h1 h2=>by rw[hI.eq id h2];unfold ext;rw[if_neg (by omega)]
 cases Dx:(step s ⟨t,q,b⟩).2 with
 |false=>
  refine jz Dx ?_
  have zc:aw step s (lX t q b)=((step s ⟨t,q,b⟩).1,false):=by rw[o9,aw,if_neg (by rw[Dx];exact Bool.false_ne_true)]
  rw[zc]at hK
  refine hK _ _ ag ⟨m2.bn.mono ag,ag,fun id aq=> ?_⟩ (fun id h1 h2=>hold id ag h2)
  unfold ext
  split
  ·exact m2.eq id p8
  ·exact KW
 |true=>
  have zc:aw step s (lX t q b)=aw step (step s ⟨t,q,b⟩).1 (jy t.kids 0 q (sQ t.op b)):=by rw[o9,aw,if_pos Dx]
  have q0:o2 yb= .row [.ju nP]:=by rw[hold yb OC (by omega),Qn]
  have q1:o2 vb= .row [.func (.func 102) [] [.ptr yb 0, .ptr vb 0]]:=by rw[hold vb OD (by omega),Qo]
  simp+contextual (disch:=first|omega|simp only[go_sem,false_implies]) only[go_sem,wrap64,if_pos,Dx,k0,q1]
  have IU:nx+4<=n2:=m1
  refine az (fun i:Nat×σ×(Nat->ab)×Nat=>⟨aU [.aa, .ptr yb 0, .ptr vb 0, .ptr nx 0, .aa, .aa, .aa, .aa, .aa, .aa, .aa, .aa, .aa, .d (.sl (t.kids.map Tm.d)), .d (.i t.kids.length), .d (.i i.1)],i.2.2.1,i.2.2.2⟩)
   (fun i=>i.1<=t.kids.length/\cR base (H i.2.1) i.2.2.1 i.2.2.2/\nx<i.2.2.2/\i.2.2.1 nx= .row (Sp.mk t q b).row/\(∀id,base<=id->id<nx->i.2.2.1 id=o id)/\aw step (step s ⟨t,q,b⟩).1 (jy t.kids 0 q (sQ t.op b))=aw step i.2.1 (jy (t.kids.drop i.1) i.1 q (sQ t.op b))/\ok (jy (t.kids.drop i.1) i.1 q (sQ t.op b)++rest) i.2.1) (fun i=>t.kids.length - i.1) (0,(step s ⟨t,q,b⟩).1,o2,n2)
   ⟨Nat.zero_le _,m2.mono (Nat.le_refl _),(show nx<n2 from ag),k0,fun id h1 h2=>hold id h1 h2,rfl,aW _ _ s iL Dx⟩ ?_ ?_
  ·dsimp only
   refine bt.aT _ (show nx<=n2 from ag) ag m2.bn (fun _ _=>rfl) ?_
   exact cz
  rintro⟨k,s',o',n'⟩ ⟨hk,uw,hn,bG,cP,BA,iG⟩
  simp only at hk uw hn bG cP BA iG
  have hg:Good o' n':=uw.bn
  have z1:∀k,yb≠n'+k:=fun k=>ag
  have z2:yb≠n':=ag
  have z3:∀k,vb≠n'+k:=fun k=>ag
  have z4:vb≠n':=ag
  have z5:∀k,nx≠n'+k:=fun k=>ag
  have z6:nx≠n':=ag
  have Bh:o' vb= .row [.func (.func 102) [] [.ptr yb 0, .ptr vb 0]]:=by rw[cP vb OD (by omega),Qo]
  have Bi:o' yb= .row [.ju nP]:=by rw[cP yb OC (by omega),Qn]
  have tM:=oU.1
  refine a8 ?_
  refine aj (fun h1=> ?_) (fun h1=> ?_)
  ·simp at h1
   obtain⟨x,hx⟩:=aF h1
   have gf:=List.mem_of_getElem? hx
   have hd:t.kids.drop k=x::t.kids.drop (k+1):=by
    exact YO
   rw[hd,sT,zx]at BA
   rw[hd,sT,List.append_assoc]at iG
   have hh:=Tm.qP gf
   have kq:∀y∈lX x (q++[(k:Int)]) (sQ t.op b),y∈lX t q b:=fun y hy=>by
    rw[o9]
    refine List.mem_cons_of_mem _ ?_
    rw[show t.kids=t.kids.take k++(x::t.kids.drop (k+1)) by rw[<- hd,List.take_append_drop],tO,sT]
    have cG:(t.kids.take k).length=k:=by rw[List.length_take];omega
    rw[cG,Int.zero_add]
    simp[hy]
   simp+contextual (disch:=first|omega|simp only[go_sem,false_implies]) only[go_sem,wrap64,if_pos,hx,Nat.add_assoc,Nat.left_eq_add,Nat.add_eq_left,Nat.add_left_cancel_iff,bG,Bh,Bi,z1,z2,z3,z4,z5,z6]
   refine Fz (m:=23) bI ai ?_
   simp+contextual (disch:=first|omega|simp only[go_sem,false_implies]) only[go_sem,wrap64,if_pos,Nat.add_assoc,Nat.left_eq_add,Nat.add_eq_left,Nat.add_left_cancel_iff,bG,Bh,Bi,z1,z2,z3,z4,z5,z6]
   refine sB rfl (wA q ag _ _) ?_
   have tV:(b=false/\(t.op !=3)=(t.op !=3)/\sQ t.op b=false)\/(b=true/\(t.op !=3)=false/\sQ t.op b=false)\/(b=true/\(t.op !=3)=true/\sQ t.op b=(t.op !=5)):=by
    unfold sQ
    cases b<;>cases h3:(t.op !=3)<;>simp
   have fin:∀bb:Bool,(∀y∈lX x (q++[(k:Int)]) bb,y∈lX t q b)->ok (lX x (q++[(k:Int)]) bb++(jy (t.kids.drop (k+1)) (k+1) q (sQ t.op b)++rest)) s'->∀O:Nat->ab,cR base (H s') O (n'+30)->(∀id,base<=id->id<=nx->O id=o' id)->∀KK XX:V->(Nat->ab)->Nat->Prop,
    (∀o5 n5,n'+30<=n5->cR base (H (aw step s' (lX x (q++[(k:Int)]) bb)).1) o5 n5->(∀id,base<=id->id<=nx->o5 id=o' id)->KK (.d (.bool (aw step s' (lX x (q++[(k:Int)]) bb)).2)) o5 n5)->
    cH Tryz.prog 102 [.d (Sp.mk x (q++[(k:Int)]) bb).d, .ptr yb 0, .ptr vb 0] O (n'+30) KK XX:=by
    intro bb kq agj O hIO hO KK XX hKK
    refine ih x gf (oU.2 x gf) (q++[(k:Int)]) bb gE (fun y hy=>hR y (kq y hy)) wm (n'+30) O yb vb ag OC ag OD ag (by rw[hO yb OC (by omega),Bi]) (by rw[hO vb OD (by omega),Bh]) _ s' agj O (n'+30) (hIO.ext (Nat.le_refl _) ag) KK XX fun o5 n5 p1 p2 p3=>hKK o5 n5 p1 ⟨p2.bn,ag,fun id aq=> ?_⟩ fun id g1 g2=> ?_
    ·rw[p2.eq id (by omega)];unfold ext;rw[if_pos aq]
    ·rw[p2.eq id (by omega)];unfold ext;rw[if_neg (by omega),hO id g1 g2]
   rcases tV with⟨Uc,h3,tV⟩|⟨Uc,h3,tV⟩|⟨Uc,h3,tV⟩
   all_goals rw[tV]at BA kq fin iG
   ·simp+contextual (disch:=first|omega|simp only[go_sem,false_implies]) only[go_sem,wrap64,if_pos,Nat.add_assoc,Nat.left_eq_add,Nat.add_eq_left,Nat.add_left_cancel_iff,bG,Bh,Bi,z1,z2,z3,z4,z5,z6,Uc]
    refine nG (bO (ids:=[vb,nx]) (nx:=n'+4) gE gE [([0],[]),([2],[]),([1],[]),([1],[]),([],[9]),([],[]),([],[11]),([9,11],[9]),([1],[]),([1],[]),([],[]),([],[]),([],[]),([],[]),([],[]),([],[]),([],[]),([],[]),([],[]),([],[]),([],[]),([],[]),([],[])] bI) ?_
    dsimp only[List.drop]
    simp+contextual (disch:=first|omega|simp only[go_sem,false_implies]) only[go_sem,wrap64,if_pos,Nat.add_assoc,Nat.left_eq_add,Nat.add_eq_left,Nat.add_left_cancel_iff,bG,Bh,Bi,z1,z2,z3,z4,z5,z6,Uc]
    refine aS (cH.rr (d:=(Sp.mk x (q++[(k:Int)]) false).d) ?_ (fin _ kq iG _ ⟨?_,ag,fun id aq=> ?_⟩ (fun id g1 g2=> ?_) _ _ fun o5 n5 p1 p2 p3=> ?_))
    ·refine a8 ?_
     simp
    ·refine a8 ?_
     exact fm
    ·refine a8 ?_
     (repeat(first|rfl|rw[af]|rw[ae _ _ _ _ (by omega)]))
     exact uw.eq id aq
    ·exact xV
    cases hr:(aw step s' (lX x (q++[(k:Int)]) false)).2 with
    |false=>
     rw[hr,if_neg Bool.false_ne_true]at BA
     refine a8 ?_
     rw[zc,tV,BA,hr]at hK
     refine hK _ _ ag ⟨p2.bn.mono ag,ag,fun id aq=> ?_⟩ (fun id g1 g2=>(p3 id ag ag).trans (cP id ag g2))
     unfold ext
     split
     ·exact p2.eq id p8
     ·exact UB
    |true=>
     exact zw2
   ·simp+contextual (disch:=first|omega|simp only[go_sem,false_implies]) only[go_sem,wrap64,if_pos,Nat.add_assoc,Nat.left_eq_add,Nat.add_eq_left,Nat.add_left_cancel_iff,bG,Bh,Bi,z1,z2,z3,z4,z5,z6,Uc,h3]
    refine nG (bO (ids:=[vb,nx]) (nx:=n'+4) gE gE [([0],[]),([2],[]),([1],[]),([1],[]),([],[9]),([],[]),([],[11]),([9,11],[9]),([1],[]),([1],[]),([],[]),([1],[]),([1],[]),([1],[]),([],[]),([],[]),([],[]),([],[]),([],[]),([],[]),([],[]),([],[]),([],[])] bI) ?_
    dsimp only[List.drop]
    simp+contextual (disch:=first|omega|simp only[go_sem,false_implies]) only[go_sem,wrap64,if_pos,Nat.add_assoc,Nat.left_eq_add,Nat.add_eq_left,Nat.add_left_cancel_iff,bG,Bh,Bi,z1,z2,z3,z4,z5,z6,Uc,h3]
    refine aS (cH.rr (d:=(Sp.mk x (q++[(k:Int)]) false).d) ?_ (fin _ kq iG _ ⟨?_,ag,fun id aq=> ?_⟩ (fun id g1 g2=> ?_) _ _ fun o5 n5 p1 p2 p3=> ?_))
    ·refine a8 ?_
     simp
    ·refine a8 ?_
     exact fm
    ·refine a8 ?_
     (repeat(first|rfl|rw[af]|rw[ae _ _ _ _ (by omega)]))
     exact uw.eq id aq
    ·exact xV
    cases hr:(aw step s' (lX x (q++[(k:Int)]) false)).2 with
    |false=>
     rw[hr,if_neg Bool.false_ne_true]at BA
     refine a8 ?_
     rw[zc,tV,BA,hr]at hK
     refine hK _ _ ag ⟨p2.bn.mono ag,ag,fun id aq=> ?_⟩ (fun id g1 g2=>(p3 id ag ag).trans (cP id ag g2))
     unfold ext
     split
     ·exact p2.eq id p8
     ·exact UB
    |true=>
     exact zw2
   ·simp+contextual (disch:=first|omega|simp only[go_sem,false_implies]) only[go_sem,wrap64,if_pos,Nat.add_assoc,Nat.left_eq_add,Nat.add_eq_left,Nat.add_left_cancel_iff,bG,Bh,Bi,z1,z2,z3,z4,z5,z6,Uc,h3]
    refine nG (bO (ids:=[vb,nx]) (nx:=n'+4) gE gE [([0],[]),([2],[]),([1],[]),([1],[]),([],[9]),([],[]),([],[11]),([9,11],[9]),([1],[]),([1],[]),([],[]),([1],[]),([1],[]),([1],[]),([],[]),([],[]),([],[]),([1],[]),([1],[]),([1],[]),([],[]),([],[]),([],[])] bI) ?_
    dsimp only[List.drop]
    simp+contextual (disch:=first|omega|simp only[go_sem,false_implies]) only[go_sem,wrap64,if_pos,Nat.add_assoc,Nat.left_eq_add,Nat.add_eq_left,Nat.add_left_cancel_iff,bG,Bh,Bi,z1,z2,z3,z4,z5,z6,Uc,h3]
    refine aS (cH.rr (d:=(Sp.mk x (q++[(k:Int)]) (t.op !=5)).d) ?_ (fin _ kq iG _ ⟨?_,ag,fun id aq=> ?_⟩ (fun id g1 g2=> ?_) _ _ fun o5 n5 p1 p2 p3=> ?_))
    ·refine a8 ?_
     simp
    ·refine a8 ?_
     exact fm
    ·refine a8 ?_
     (repeat(first|rfl|rw[af]|rw[ae _ _ _ _ (by omega)]))
     exact uw.eq id aq
    ·exact xV
    cases hr:(aw step s' (lX x (q++[(k:Int)]) (t.op !=5))).2 with
    |false=>
     rw[hr,if_neg Bool.false_ne_true]at BA
     refine a8 ?_
     rw[zc,tV,BA,hr]at hK
     refine hK _ _ ag ⟨p2.bn.mono ag,ag,fun id aq=> ?_⟩ (fun id g1 g2=>(p3 id ag ag).trans (cP id ag g2))
     unfold ext
     split
     ·exact p2.eq id p8
     ·exact UB
    |true=>
     rw[hr,if_pos rfl]at BA
     refine a8 ?_
     refine ak (k+1,(aw step s' (lX x (q++[(k:Int)]) (t.op !=5))).1,o5,n5+1+1) ⟨h1,p2.mono (show n5<=n5+1+1 from ag),(show nx<n5+1+1 from ag),by dsimp only;rw[p3 nx (by omega) (Nat.le_refl _),bG],fun id i1 i2=>(p3 id i1 ag).trans (cP id i1 i2),by dsimp only;rw[tV];exact BA,by dsimp only;rw[tV];exact rQ step ok aW _ _ s' iG hr⟩ kp (bt.aT _ (show nx<=n5+1+1 from ag) kp (p2.mono (show n5<=n5+1+1 from ag)).bn (fun _ _=>rfl) ?_)
     exact cz
  ·simp at h1
   refine a8 ?_
   rw[List.drop_eq_nil_of_le h1]at BA
   rw[zc]at hK
   have cL:aw step s' (jy [] k q (sQ t.op b))=(s',true):=by simp[jy,aw]
   rw[cL]at BA
   rw[BA]at hK
   refine hK _ _ ag ⟨uw.bn.mono ag,ag,fun id aq=> ?_⟩ (fun id g1 g2=>cP id ag g2)
   unfold ext
   split
   ·exact uw.eq id p8
   ·rw[cP id (by omega) (by omega),EK id (by omega) aq]
theorem NR(t:Tm)(hf:t.fits)(hqh:t.nI<=1000000)(aW:∀x r s,ok (x::r) s->(step s x).2=true->ok r (step s x).1)(hR:∀x∈lX t [] true,∀r s,ok (x::r) s->ZO Tryz.prog nP [.d x.d] base (H s) (H (step s x).1) (.d (.bool (step s x).2)))(wm:nP<base)(tb:Nat)(EP:tb<base)(s:σ)(iL:ok (lX t [] true) s)(bG:H s tb= .row t.row):
 jg Tryz.prog 101 [.ju nP, .ptr tb 0] base (H s) (H (aw step s (lX t [] true)).1) (.bW []):=by
 intro o nx hI K X hK
 have hle:=hI.le
 have ot:o tb= .row t.row:=by rw[hI.eq tb EP,bG]
 have y1:tb≠nx:=ag
 have y2:∀k,tb≠nx+k:=fun k=>ag
 refine cH.aJ mix Tc aI ?_
 rw[WO]
 refine Uw ot y1 y2 ?_
 have hI1:cR base (H s) (ax (ax (ax o nx (.row [.ju nP])) (nx+1) (.row [.d .cf])) (nx+1) (.row [.func (.func 102) [] [.ptr nx 0, .ptr (nx+1) 0]])) (nx+7):=by
  refine((hI.ax (i:=nx) (m:=nx+7) ag ag ag ?_).ax (i:=nx+1) (m:=nx+7) ag ag ag rfl).ax (i:=nx+1) ag ag ag ?_
  ·exact KY
  ·exact zK
 refine aS (cH.rr (d:=(Sp.mk t [] true).d) ?_ (J8 base nP H step ok aW t hf [] true (by simpa using hqh) hR wm (nx+7) _ nx (nx+1) ag hle ag ag ag ?_ ?_ [] s (by rw[List.append_nil];exact iL) _ _ (hI1.ext (Nat.le_refl _) ag) _ _ ?_))
 ·rfl
 ·exact fq
 ·exact fq
 intro o2 n2 m1 m2 m3
 refine cT ?_
 refine hK _ _ ag ⟨m2.bn,ag,fun id aq=> ?_⟩ (fun id h1 h2=> ?_)
 ·exact ID
 ·exact U8
end
theorem D2(t:Tm)(o:Nat->ab)(nx:Nat)(K X:V->(Nat->ab)->Nat->Prop)(h:K (.func (.func 101) [] [.ptr nx 0]) (ax o nx (.row t.row)) (nx+4)):cH Tryz.prog 72 [.d t.d] o nx K X:=by
 refine cH.aJ mix acU aI ?_
 rw[c72]
 refine cT ?_
 exact h
def xQ{σ:Type}(J:σ->Option kj)(step:σ->Sp->σ)(s:σ)(x:Sp):σ×Bool:=(step s x,(J (step s x)).isNone)
theorem tQ{σ:Type}(t:Tm)(hf:t.fits)(hqh:t.nI<=1000000){n bq:Nat}{gq:Operand}{ps:List Nat}{iZ eI:IC}{Q:fG->S->Prop}{e:Nat->V}{o:Nat->ab}{nx tb:Nat}(env:List V)(he:mN e env 0)
 (xI:ps.all (fun t=>decide (t<n))=true) (hl:ps.length=1) (hg:Good o nx) (hrefs:∀r∈V.aE env,r<nx) (ht:o tb= .row t.row)
 (G:σ->Nat->ab) (J:σ->Option kj) (step:σ->Sp->σ) (ok:List Sp->σ->Prop) (s0:σ) (iL:ok (lX t [] true) s0) (YM:J s0=none) (h0:∀id,id<nx->o id=G s0 id) (aW:∀x r s,ok (x::r) s->J s=none->J (step s x)=none->ok r (step s x))
 (py:∀L,iz Tryz.prog n env ps iZ eI L->(∀st pd m,nx<=m->(L st pd).refs.all (fun r=>decide (r<m))=true)->∀x∈lX t [] true,∀r s,ok (x::r) s->J s=none->∀o3 n3,cR nx (G s) o3 n3->nx<n3->o3 nx=L .ready none->∀K X,
  (∀e' o' n' st pd,n3<=n'->cR nx (G (step s x)) o' n'->o' nx=L st pd->(∀id,nx<id->id<n3->o' id=o3 id)->jZ nx K X (M7 (J (step s x))) ⟨e',o',n'⟩)->
  kN Tryz.prog n n3 true iZ (pF Tryz.prog n n3 nx eI K X) ⟨nC (aU env) ps [.d x.d],o3,n3⟩)
 (gO:∀o' n',cR nx (G (aw (xQ J step) s0 (lX t [] true)).1) o' n'->px Q (J (aw (xQ J step) s0 (lX t [] true)).1) ⟨e,o',n'⟩):
 AE Tryz.prog n bq false gq ps iZ eI Q ⟨e,o,nx⟩ (.func (.func 101) [] [.ptr tb 0]):=by
 refine FN env he (fun L hL=> ?_)
 have EP:tb<nx:=hg.lt Lr
 let H:σ->Nat->ab:=fun s id=>if id<nx then G s id else if id=nx then(match J s with|none=>L .ready none|some j=>L .done (some j))else .no
 have IE:∀s id,id<nx->H s id=G s id:=fun s id h=>if_pos h
 have Oq:∀s,J s=none->H s nx=L .ready none:=fun s h=>by show(if nx<nx then _ else _)=_;rw[if_neg (by omega),if_pos rfl,h]
 have UH:∀s j,J s=some j->H s nx=L .done (some j):=fun s j h=>by show(if nx<nx then _ else _)=_;rw[if_neg (by omega),if_pos rfl,h]
 have xX:∀st pd m,nx<=m->(L st pd).refs.all (fun r=>decide (r<m))=true:=fun st pd m hm=>by
  exact U3
 refine NR (nx+1) nx H (xQ J step) (fun l s=>ok l s/\J s=none) t hf hqh (fun x r s h1 h2=> ?_) (fun x hx r s h1=> ?_) ag tb ag s0 ⟨iL,YM⟩ Lp _ _ ⟨?_,Nat.le_refl _,fun id aq=> ?_⟩ _ _ ?_
 ·have hj:J (step s x)=none:=by simpa[xQ]using h2
  exact⟨aW x r s h1.1 h1.2 hj,hj⟩
 ·intro o3 n3 hI K X hK
  have hle:=hI.le
  have KL:o3 nx=L .ready none:=by rw[hI.eq nx (by omega),Oq s h1.2]
  refine we hL mix KL ag xI (by simp[hl]) ?_
  refine py L hL xX x hx r s h1.1 h1.2 o3 n3 ⟨hI.bn,ag,fun id aq=>by rw[hI.eq id (by omega),IE _ _ aq]⟩ ag KL K X (fun e' o' n' st pd k1 k2 k3 k4=> ?_)
  have key:∀st' pd' b,(J (step s x)).isNone=b->H (step s x) nx=L st' pd'->K (.d (.bool b)) (ax o' nx (L st' pd')) n':=fun st' pd' b hb hh=>by
   subst hb
   refine hK _ _ k1 ⟨k2.bn.ax ag (xX _ _ _ ag),ag,fun id aq=> ?_⟩ (fun id g1 g2=> ?_)
   ·by_cases rP:id=nx
    ·exact Ld
    ·rw[ae _ _ _ _ rP]
     show o' id=H (step s x) id
     exact K6
   ·exact UN
  cases hj:J (step s x)with
  |none=>exact UK
  |some j=>
   cases j with
   |ret=>exact UI
   |exit j=>exact UG
 ·exact UJ
 ·by_cases rP:id=nx
  ·exact Li
  ·exact UF
 ·intro o' n' k1 k2 k3
  have hle:=k2.le
  generalize hsf:(aw (xQ J step) s0 (lX t [] true)).1=sf at*
  have kk:∀st pd,cR nx (G sf) (ax o' nx (L st pd)) n':=fun st pd=>⟨k2.bn.ax ag (xX _ _ _ ag),ag,fun id aq=>by rw[ae _ _ _ _ (by omega),k2.eq id (by omega),IE _ _ aq]⟩
  cases hj:J sf with
  |none=>
   refine⟨.ready,none,by rw[k2.eq nx (by omega),Oq _ hj],(fun h=>by cases h), ?_⟩
   have:=gO _ _ (kk .exhausted none)
   rwa [hj]at this
  |some j=>
   refine⟨.done,some j,by rw[k2.eq nx (by omega),UH _ _ hj],(fun h=>by cases h), ?_⟩
   have:=gO _ _ (kk .exhausted (some j))
   rwa [hj]at this
end
theorem uY{c:Nat}{G:List Gr}{so:Nat->ab}{gone:Nat->Prop}{x x' y y':ab}(h:x=y)(h':x'=y')(hs:uj c G so gone y y'):uj c G so gone x x':=by rw[h,h'];exact hs
@[reducible] def kz (B:Nat->ab) (r c:Nat) (ds:List D) (ty sz:Nat) (es:List D):Nat->ab:=ax (ax B r (.row (ds.map .d++[.osl c 0]))) c (.arr 0 ty sz es)
theorem Bj{c:Nat}{G:List Gr}{so:Nat->ab}{gone:Nat->Prop}{l l':List V}:∀ds:List D,sE c G so gone l l'->sE c G so gone (ds.map .d++l) (ds.map .d++l')
 |[],h=>h
 |d::ds,h=>XA (Bj ds h)
theorem Bk(B:Nat->ab)(r c:Nat)(ds:List D)(ty sz:Nat)(es:List D):kz B r c ds ty sz es c= .arr 0 ty sz es:=af _ _ _
theorem Bl(B:Nat->ab){r c:Nat}(h:r<c)(ds:List D)(ty sz:Nat)(es:List D):kz B r c ds ty sz es r= .row (ds.map .d++[.osl c 0]):=(ae _ _ _ _ ag).trans (af _ _ _)
theorem Gp(B:Nat->ab){r c j:Nat}(h:j≠r)(h2:j≠c)(ds:List D)(ty sz:Nat)(es:List D):kz B r c ds ty sz es j=B j:=(ae _ _ _ _ h2).trans (ae _ _ _ _ h)
theorem zy{B:Nat->ab}{r c:Nat}{ds:List D}{ty sz:Nat}{e:Nat->V}{so:Nat->ab}{m:Nat}(l:List V)(hg:Good B c)(gY:∀j,c<=j->B j= .no)(hr:r<c)(ho:∀j,j<c->j≠r->so j=B j)(bG:so r= .row (ds.map .d++[.aZ]))(dO:0<sz)
 (he:kx c [⟨.aZ,ty,sz,[]⟩] so (fun _=>False) e l 0):bt 0 ⟨e,so,m⟩ ⟨aU l,kz B r c ds ty sz [],c+1⟩:=by
 refine bt.xK (fun _=>False) .aZ c _ ag (fun j hj=> ?_) (Bk _ _ _ _ _ _ _) (.inl ⟨rfl,rfl,dO⟩) (fun j hj=> ?_) (fun _ h=>h.elim) he
 ·by_cases e1:j=r
  ·subst e1
   exact uY (y:= .row (ds.map .d++[.aZ])) bG (Bl B hr ds ty sz _) (qX rfl (Bj ds (AZ (g:=⟨.aZ,ty,sz,[]⟩) 0 rfl rfl rfl qW)))
  ·exact aas
 ·exact RE
theorem D3{B:Nat->ab}{r c ep:Nat}{ds:List D}{ty sz:Nat}{es:List D}{e:Nat->V}{so:Nat->ab}{m:Nat}(l:List V)(hg:Good B c)(gY:∀j,c<=j->B j= .no)(hr:r<c)(ho:∀j,j<c->j≠r->so j=B j)(bG:so r= .row (ds.map .d++[.osl c ep]))(dg:so c= .arr ep ty sz es)
 (he:kx c [⟨.osl c ep,ty,sz,es⟩] so (fun j=>j=c) e l 0):bt 0 ⟨e,so,m⟩ ⟨aU l,kz B r c ds ty sz es,c+1⟩:=by
 refine bt.xK (fun j=>j=c) (.osl c ep) c _ ag (fun j hj=> ?_) (Bk _ _ _ _ _ _ _) (.inr ⟨c,ep,rfl,rfl,dg⟩) (fun j hj=> ?_) (fun j h h2=>ag) he
 ·by_cases e1:j=r
  ·subst e1
   exact uY (y:= .row (ds.map .d++[.osl c ep])) bG (Bl B hr ds ty sz _) (qX rfl (Bj ds (AZ (g:=⟨.osl c ep,ty,sz,es⟩) 0 rfl rfl rfl qW)))
  ·exact aas
 ·exact RE
end Go.Proofs.YtnkamdiiakdkgaaGreat
section
namespace Go.Proofs.YtnkamdiiakdkgaaGreat
open Go.Shelf
def D4:Go.Shelf.Ren:=⟨fun|189=>73|125=>104|257=>103|128=>147|129=>148|294=>138|295=>139|296=>140|297=>141|298=>142|299=>143|216=>144|300=>145|301=>146|328=>164|329=>165|330=>166|331=>167|332=>168|215=>169|343=>180|n=>n,fun|28=>37|3=>3|46=>144|0=>0|51=>186|53=>188|4=>4|183=>178|182=>177|131=>183|5=>5|9=>9|218=>205|222=>209|228=>211|229=>212|n=>n,fun|n=>n⟩
theorem H6:Go.Proofs.Lays.n189 Tryz.prog D4:={
 mixed:=ai
 f125:=Tryz.func104.trans (congrArg some ai)
 f128:=Tryz.func147.trans (congrArg some ai)
 f129:=Tryz.func148.trans (congrArg some ai)
 f189:=Tryz.func73.trans (congrArg some ai)
 f215:=Tryz.func169.trans (congrArg some ai)
 f216:=Tryz.func144.trans (congrArg some ai)
 f257:=Tryz.func103.trans (congrArg some ai)
 f294:=Tryz.func138.trans (congrArg some ai)
 f295:=Tryz.func139.trans (congrArg some ai)
 f296:=Tryz.func140.trans (congrArg some ai)
 f297:=Tryz.func141.trans (congrArg some ai)
 f298:=Tryz.func142.trans (congrArg some ai)
 f299:=Tryz.func143.trans (congrArg some ai)
 f300:=Tryz.func145.trans (congrArg some ai)
 f301:=Tryz.func146.trans (congrArg some ai)
 f328:=Tryz.func164.trans (congrArg some ai)
 f329:=Tryz.func165.trans (congrArg some ai)
 f330:=Tryz.func166.trans (congrArg some ai)
 f331:=Tryz.func167.trans (congrArg some ai)
 f332:=Tryz.func168.trans (congrArg some ai)
 f343:=Tryz.func180.trans (congrArg some ai)
 t0:=Tryz.underlying0
 a0:=Tryz.isAgg0
 z0:=Tryz.sizeOf0
 v0:=Tryz.zeroValue0
 t3:=Tryz.underlying3
 a3:=Tryz.isAgg3
 z3:=Tryz.sizeOf3
 v3:=Tryz.zeroValue3
 t4:=Tryz.underlying4
 a4:=Tryz.isAgg4
 z4:=Tryz.sizeOf4
 v4:=Tryz.zeroValue4
 t5:=Tryz.underlying5
 a5:=Tryz.isAgg5
 z5:=Tryz.sizeOf5
 v5:=Tryz.zeroValue5
 t9:=Tryz.underlying9
 a9:=Tryz.isAgg9
 z9:=Tryz.sizeOf9
 v9:=Tryz.zeroValue9
 t28:=Tryz.underlying37
 a28:=Tryz.isAgg37
 z28:=Tryz.sizeOf37
 v28:=Tryz.zeroValue37
 t46:=Tryz.underlying144
 a46:=Tryz.isAgg144
 z46:=Tryz.sizeOf144
 v46:=Tryz.zeroValue144
 t51:=Tryz.underlying186
 a51:=Tryz.isAgg186
 z51:=Tryz.sizeOf186
 v51:=Tryz.zeroValue186
 t53:=Tryz.underlying188
 a53:=Tryz.isAgg188
 z53:=Tryz.sizeOf188
 v53:=Tryz.zeroValue188
 t131:=Tryz.underlying183
 a131:=Tryz.isAgg183
 z131:=Tryz.sizeOf183
 v131:=Tryz.zeroValue183
 t182:=Tryz.underlying177
 a182:=Tryz.isAgg177
 z182:=Tryz.sizeOf177
 v182:=Tryz.zeroValue177
 t183:=Tryz.underlying178
 a183:=Tryz.isAgg178
 z183:=Tryz.sizeOf178
 v183:=Tryz.zeroValue178
 t218:=Tryz.underlying205
 a218:=Tryz.isAgg205
 z218:=Tryz.sizeOf205
 v218:=Tryz.zeroValue205
 t222:=Tryz.underlying209
 a222:=Tryz.isAgg209
 z222:=Tryz.sizeOf209
 v222:=Tryz.zeroValue209
 t228:=Tryz.underlying211
 a228:=Tryz.isAgg211
 z228:=Tryz.sizeOf211
 v228:=Tryz.zeroValue211
 t229:=Tryz.underlying212
 a229:=Tryz.isAgg212
 z229:=Tryz.sizeOf212
 v229:=Tryz.zeroValue212}
theorem J9:DX Tryz.prog 73:=fun dx off cap zs w h1 h2 h3=>Any.slices_Sort_int H6 dx off cap zs w h1 h2 h3
theorem Ka:∀ (p:Option Addr) (cap:Nat) (w:World),Calls Tryz.prog 73 #[.slice p 0 cap] w fun e w'=>e= .returned (.tuple #[])/\w'=w:=fun p cap w=>Any.slices_Sort_int_none H6 p cap w
theorem D5:Enters Tryz.prog 73:=⟨_,Tryz.func73,ai,ai⟩
def D6:Go.Shelf.Ren:=⟨fun|20=>74|n=>n,fun|22=>37|3=>3|4=>4|0=>0|n=>n,fun|n=>n⟩
theorem H7:Go.Proofs.Lays2.n20 Tryz.prog D6:={
 mixed:=ai
 f20:=Tryz.func74.trans (congrArg some ai)
 t0:=Tryz.underlying0
 a0:=Tryz.isAgg0
 z0:=Tryz.sizeOf0
 v0:=Tryz.zeroValue0
 t3:=Tryz.underlying3
 a3:=Tryz.isAgg3
 z3:=Tryz.sizeOf3
 v3:=Tryz.zeroValue3
 t4:=Tryz.underlying4
 a4:=Tryz.isAgg4
 z4:=Tryz.sizeOf4
 v4:=Tryz.zeroValue4
 t22:=Tryz.underlying37
 a22:=Tryz.isAgg37
 z22:=Tryz.sizeOf37
 v22:=Tryz.zeroValue37
 i3:=by kernel_rfl}
theorem Bm:nV Tryz.prog 74:=fun dx off cap zs w h1 h2 h3=>Any.slices_Compact_int H7 dx off cap zs w h1 h2 h3
theorem Bn:∀ (p:Option Addr) (cap:Nat) (w:World),Calls Tryz.prog 74 #[.slice p 0 cap] w fun e w'=>e= .returned (.slice p 0 cap)/\w'=w:=fun p cap w=>Any.slices_Compact_int_empty H7 p cap w
theorem wO:Enters Tryz.prog 74:=⟨_,Tryz.func74,ai,ai⟩
end Go.Proofs.YtnkamdiiakdkgaaGreat
end
