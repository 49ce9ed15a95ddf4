/-
  A PART OF THE PROOF. Conditions: none.
-/
import Derived.Test.YtnkamdiiakdkgaaGreatEt18
set_option linter.unusedSimpArgs false
set_option linter.unusedVariables false
namespace Go.Proofs.YtnkamdiiakdkgaaGreat
theorem UL{L:List iT}{n:Int}{k:Nat}(hn:0<=n/\n<=(L.length:Int) - 1)(ha:∀x∈L,0<=x.args/\x.args<=4):fD L n<=4:=by
 unfold fD
 rw[List.getElem?_eq_getElem (by omega)]
 exact(ha _ (List.getElem_mem _)).2
theorem Fm:∀ {l:List iT} {a b:List (List UInt8)},bN l a=some b->∀x∈l,0<=x.args/\x.args<=4
 |[],_,_,_,x,hx=>by cases hx
 |y::l,a,b,h,x,hx=>by
  unfold bN at h
  split at h
  ·cases h
  ·split at h
   ·cases h
   ·rename_i h2
    rcases List.mem_cons.1 hx with e|e
    ·subst e
     simp[dE]at h2
     exact⟨h2.2.1,h2.2.2⟩
    ·exact Fm h x e
theorem QP{s:bC}(h:iY s=true):∀x∈s.bG,0<=x.args/\x.args<=4:=by
 unfold iY at h
 split at h
 ·cases h
 ·split at h
  ·split at h
   ·cases h
   ·split at h
    ·cases h
    ·rename_i l _
     cases h2:bN s.bG l with
     |none=>rw[h2]at h;cases h
     |some B=>exact Fm h2
  ·cases h
theorem KT{s:bC}:∀t:Tm,jA s t=true->∀x∈gz t,bn s x=true:=by
 refine Tm.eY fun t ih h x hx=> ?_
 rw[qW,Bool.and_eq_true,List.all_eq_true]at h
 rw[m5]at hx
 rcases List.mem_cons.1 hx with e|e
 ·rw[e];exact h.1
 ·obtain⟨k,hk,hx⟩:=List.mem_flatMap.1 e
  exact ih k hk (h.2 k hk) x hx
theorem UM:∀t:Tm,t.fits->∀x∈gz t,x.fits:=by
 refine Tm.eY fun t ih h x hx=> ?_
 rw[m5]at hx
 rcases List.mem_cons.1 hx with e|e
 ·rw[e];exact h
 ·obtain⟨k,hk,hx⟩:=List.mem_flatMap.1 e
  exact ih k hk (((Tm.bR t).1 h).2 k hk) x hx
theorem B5:∀ (l:List Tm) (i:Int) (q:List Int) (b:Bool) (x:Sp),x∈jb l i q b->∃k∈l,∃j:Int,x∈ll k (q++[j]) b
 |[],_,_,_,x,h=>by simp[jb]at h
 |k::l,i,q,b,x,h=>by
  rw[jb,List.mem_append]at h
  rcases h with h|h
  ·exact⟨k,aJ,i,h⟩
  ·obtain⟨k',h1,h2⟩:=B5 l _ _ _ _ h
   exact⟨k',by simp[h1],h2⟩
theorem zj:∀ (t:Tm) (q:List Int) (b:Bool),∀x∈ll t q b,x.t∈gz t/\x.path.length+x.t.mN<=q.length+t.mN:=by
 refine Tm.eY fun t ih q b x hx=> ?_
 rw[DH]at hx
 rw[m5]
 rcases List.mem_cons.1 hx with e|e
 ·subst e;exact⟨aJ,Nat.le_refl _⟩
 ·obtain⟨k,hk,j,h⟩:=B5 _ _ _ _ _ e
  obtain⟨h1,h2⟩:=ih k hk _ _ x h
  refine⟨List.mem_cons_of_mem _ (List.mem_flatMap.2 ⟨k,hk,h1⟩), ?_⟩
  have:=Tm.pP hk
  rw[List.length_append]at h2
  simp at h2;omega
structure Rk (p:Pg) (r:Rl):Prop where
 fn:0<=r.fn/\r.fn<=(p.sig.bG.length:Int) - 1
 len:r.aA.length<=4
 term:fj p.sig r.rhs=true
theorem zk{p:Pg}(h:dM p=true):iY p.sig=true:=by simp only[dM,Bool.and_eq_true]at h;exact h.1.1
theorem s5{p:Pg}(h:dM p=true){r:Rl}(hr:r∈p.rules):Rk p r:=by
 have hs:=QP (zk h)
 simp only[dM,Bool.and_eq_true,List.all_eq_true]at h
 have h2:=h.2 r hr
 simp only[fH,jJ,Bool.and_eq_true,decide_eq_true_eq]at h2
 obtain⟨⟨⟨⟨⟨⟨h3,h4⟩,h5⟩,h6⟩,h7⟩,h8⟩,h9⟩:=h2
 cases e:p.sig.bG[r.fn.toNat]? with
 |none=>rw[e]at h4;cases h4
 |some f=>
  rw[e]at h4
  simp only[beq_iff_eq]at h4
  have:=hs f (List.mem_of_getElem? e)
  have hl:=(List.getElem?_eq_some_iff.1 e).1
  exact⟨⟨h3,ae⟩,ae,h7⟩
theorem Rk.node {p:Pg}{r:Rl}(h:Rk p r){x:Sp}(hx:x∈ll r.rhs [] true):bn p.sig x.t=true/\x.path.length<=12:=by
 have ht:=h.term
 simp only[fj,Bool.and_eq_true,decide_eq_true_eq]at ht
 obtain⟨h1,h2⟩:=zj _ _ _ x hx
 have:=((uN r.rhs 40 12).1 ht.1).2
 refine⟨KT _ ht.2 _ h1, ?_⟩
 simp at h2;omega
theorem Rk.kids {p:Pg}{r:Rl}(h:Rk p r)(hs:iY p.sig=true){x:Sp}(hx:x∈ll r.rhs [] true)(h4:x.t.op=4):x.t.kids.length<=4:=by
 have hn:=(h.node hx).1
 simp[bn,h4,dE]at hn
 have:=UL (k:=0) hn.1 (QP hs)
 omega
theorem Rk.parts {p:Pg}{r:Rl}(h:Rk p r){n:Int}(hn:n∈rm r.rhs):0<=n/\n<=(p.sig.bG.length:Int) - 1:=by
 have ht:=h.term
 simp only[fj,Bool.and_eq_true]at ht
 unfold rm at hn
 obtain⟨x,h1,rfl⟩:=List.mem_map.1 hn
 obtain⟨h2,h3⟩:=List.mem_filter.1 h1
 simp only[beq_iff_eq]at h3
 have:=KT _ ht.2 x h2
 simp[bn,h3,dE]at this
 exact this.1
theorem KU(p:Pg):(u1 p).Pairwise (· <·):=by
 unfold u1
 refine List.Pairwise.filter _ ?_
 rw[List.pairwise_map]
 exact List.pairwise_lt_range.imp (fun h=>ae)
theorem NG{p:Pg}(h:∀r∈p.rules,Rk p r)(n:Int):n∈u1 p↔n∈p.rules.flatMap fun r=>rm r.rhs:=by
 unfold u1
 rw[List.mem_filter,List.mem_map,List.contains_iff_mem]
 constructor
 ·exact fun h=>h.2
 ·intro hn
  refine⟨?_,hn⟩
  obtain⟨r,hr,h1⟩:=List.mem_flatMap.1 hn
  have:=(h r hr).parts h1
  exact⟨n.toNat,by rw[List.mem_range];omega,ae⟩
theorem Hh(zs:List Int)(h:zs.Pairwise (· <=·)):(Lib.compact zs).Pairwise (· <·):=by
 unfold Lib.compact Lib.compactUpTo
 rw[List.pairwise_map]
 have hle:∀i j,i<=j->j<zs.length->zs.toArray[i]! <=zs.toArray[j]! :=fun i j Mu hj=>by
  rcases Nat.eq_or_lt_of_le Mu with e|e
  ·rw[e];exact Int.le_refl _
  ·have:=List.pairwise_iff_getElem.1 h i j ae hj e
   simpa[getElem!_pos,hj,show i<zs.length by omega]using this
 refine List.Pairwise.imp_of_mem (fun {a b} ha hb PE=> ?_) (List.Pairwise.filter (R:=(· <·)) _ List.pairwise_lt_range)
 obtain⟨CO,hb2⟩:=List.mem_filter.1 hb
 have CO:=List.mem_range.1 CO
 simp only[Lib.keeps,decide_eq_true_eq]at hb2
 have h1:=hle a (b - 1) ae ae
 have h2:=hle (b - 1) b ae CO
 rcases hb2 with g|g
 ·omega
 ·have g':zs.toArray[b - 1]! ≠zs.toArray[b]! :=Ne.symm g
  omega
theorem KW(zs:List Int)(n:Int):n∈Lib.compact zs↔n∈zs:=by
 unfold Lib.compact Lib.compactUpTo
 rw[List.mem_map]
 constructor
 ·rintro⟨i,hi,rfl⟩
  have:=List.mem_range.1 (List.mem_filter.1 hi).1
  rw[getElem!_pos zs.toArray i (by simpa using this)]
  simp
 ·intro hn
  obtain⟨i,hi,rfl⟩:=List.getElem_of_mem hn
  have key:∀i,i<zs.length->∃j,j<=i/\Lib.keeps zs.toArray j=true/\zs.toArray[j]! =zs.toArray[i]! :=by
   intro i
   induction i with
   |zero=>intro _;exact⟨0,Nat.le_refl _,by simp[Lib.keeps],rfl⟩
   |succ i ih=>
    intro hi
    by_cases hk:Lib.keeps zs.toArray (i+1)=true
    ·exact⟨i+1,Nat.le_refl _,hk,rfl⟩
    ·obtain⟨j,h1,h2,h3⟩:=ih ae
     refine⟨j,ae,h2, ?_⟩
     simp only[Lib.keeps,decide_eq_true_eq,not_or,Decidable.not_not]at hk
     rw[h3,hk.2];rfl
  obtain⟨j,h1,h2,h3⟩:=key i hi
  refine⟨j,List.mem_filter.2 ⟨List.mem_range.2 ae,h2⟩, ?_⟩
  rw[h3,getElem!_pos zs.toArray i (by simpa using hi)]
  simp
theorem KY(l:List Int):(dR l).Pairwise (· <=·):=by
 have:=List.pairwise_mergeSort (le:=fun x y:Int=>decide (x<=y)) (fun a b c h1 h2=>by simp at*;omega) (fun a b=>by simp;omega) l
 exact this.imp (fun h=>by simpa using h)
theorem UN{p:Pg}(h:∀r∈p.rules,Rk p r):Lib.compact (dR (p.rules.flatMap fun r=>rm r.rhs))=u1 p:=by
 refine B3 (Hh _ (KY _)) (KU p) fun n=> ?_
 rw[KW,NG h]
 unfold dR
 exact(List.mergeSort_perm _ _).mem_iff
theorem KZ:∀a:Tm,a.fits->∀b:Tm,b.fits->aV Tryz.prog 105 [a.d,b.d] (.ret [.bool (kb a b)]):=by
 refine Tm.eY fun a ih ha b hb=> ?_
 have NH:=(Tm.bR _).1 ha
 have Iw:=(Tm.bR _).1 hb
 refine aV.aF mix PV aJ ?_
 rw[TA,Ka]
 refine aY ?_
 refine Be (ai (fun h1=> ?_) (fun h1=> ?_))
 ·rw[h1]
  refine gX h1 ?_
  refine bd (Kr a.kids b.kids NH.1 Iw.1 105 (fun x hx y hy=>ih x hx (NH.2 x hx) y (Iw.2 y hy)) _ _ ff _ _ fun o2 n2 m1 m2 m3=> ?_)
  exact FG h1
 ·rw[h1]
  exact FG h1
theorem ado{t:Tm}{k:Tm}(hr:aV Tryz.prog 75 [t.d,k.d] (.ret [.i (sF t k)])){base tb:Nat}(zF:tb<base){h:Nat->ab}(ht:h tb= .row t.row):
 iN Tryz.prog 107 [.d k.d, .ptr tb 0] base h h (.d (.bool (oL t k))):=by
 intro o nx hI K X hK
 have hle:=hI.le
 have ot:o tb= .row t.row:=by rw[hI.eq tb zF,ht]
 have y1:tb≠nx:=ae
 have y2:∀k,tb≠nx+k:=fun k=>ae
 refine cX.aF mix PX aJ ?_
 rw[TD]
 refine LK ot y1 y2 ?_
 refine ay hr rfl ?_
 simp+contextual (disch:=first|omega|simp only[go_sem,false_implies]) only[go_sem,wrap64,if_pos,NC]
 exact hK _ _ ae (hI.aD ae ae ae rfl) fun id i1 i2=>by(repeat(first|rfl|rw[af]|rw[ah _ _ _ _ (by omega)]))
theorem DI(t:Tm)(ht:t.fits):∀p:Tm,p.fits->aV Tryz.prog 75 [t.d,p.d] (.ret [.i (sF t p)]):=by
 refine Tm.eY fun p ih hp=> ?_
 have hp':=(Tm.bR _).1 hp
 refine aV.aF mix ZL aJ ?_
 rw[c75]
 unfold sF
 refine aY ?_
 refine ay (KZ t ht p hp) rfl ?_
 cases h1:kb t p with
 |true=>exact FG h1
 |false=>
  refine gX h1 ?_
  refine bd (rW p.kids hp'.1 107 [.ptr 0 0] 1 (fun _:Unit=>aD (fun _=> .no) 0 (.row t.row)) (fun _ k=>((), !oL t k)) nF (fun _=>True) (fun _ _ _ _ _=>trivial) (fun x hx _ _=>by
   have:=ado (ih x hx (hp'.2 x hx)) (base:=1) (tb:=0) ae (h:=aD (fun _=> .no) 0 (.row t.row)) (af _ _ _)
   simpa using this) () trivial _ _ ⟨ff,ae,fun id au=> ?_⟩ _ _ fun o2 n2 m1 m2 m3=> ?_)
  ·exact gY
  have e:(aq (fun(_:Unit) k=>((), !oL t k)) () p.kids).2= !(p.kids.any (oL t)):=by
   rw[ni]
   rw[List.not_any_eq_all_not]
  rw[e,Bool.not_not]
  cases h2:p.kids.any (oL t)with
  |true=>exact FG h2
  |false=>exact FG h2
def zl(a:cB):Bool:=decide (0<=a.f/\a.f<=3)&&decide (0<=a.t/\a.t<=3)
theorem NI(a:cB):dz [a]=zl a:=rfl
theorem s6(a b:cB)(l:List cB):dz (a::b::l)=(zl a&& !(decide (b.f<a.f)||(b.f==a.f&&decide (b.t<=a.t)))&&dz (b::l)):=rfl
theorem zm:∀ {a:cB} {l:List cB},zl a=false->dz (a::l)=false
 |a,[],h=>h
 |a,b::l,h=>by rw[s6,h];rfl
theorem K0(n low high:Int):aV Tryz.prog 51 [.i n, .i low, .i high] (.ret [.bool (decide (low<=n)&&decide (n<=high))]):=by
 refine aV.aF mix acU aJ ?_
 rw[c51]
 simp+contextual only[go_sem]
theorem UO(a:cB):zl a=((decide (0<=a.f)&&decide (a.f<=3))&&(decide (0<=a.t)&&decide (a.t<=3))):=by
 simp[zl,Bool.decide_and]
set_option maxHeartbeats 1000000 in
theorem zo(l:List cB)(hl:l.length<=1000000):aV Tryz.prog 31 [.sl (l.map cB.d)] (.ret [.bool (dz l)]):=by
 refine aV.aF mix acL aJ ?_
 rw[c31]
 refine aY ?_
 refine aB (fun k:Nat=>⟨a7 [.d (.sl (l.map cB.d)), .aa, .aa, .d (.i k)],fun _=> .no,1⟩)
  (fun k=>k<=l.length/\(k=0\/∃p,l[k - 1]? =some p/\zl p=true/\dz l=dz (l.drop (k - 1)))) (fun k=>l.length - k) 0 ⟨Nat.zero_le _, .inl rfl⟩ (br.aR _ ae ae ff (fun _ _=>rfl) ?_) (fun k hk=> ?_)
 ·exact ct
 obtain⟨hk,hp⟩:=hk
 refine qq ?_
 refine ai (fun h2=> ?_) (fun h2=> ?_)
 ·simp at h2
  obtain⟨x,hx⟩:=E0 h2
  have hdx:l.drop k=x::l.drop (k+1):=by
   exact RS
  have fal:zl x=false->dz l=false:=fun h=>by
   rcases hp with rfl|⟨p,nJ,wv,Ly⟩
   ·rw[<- List.drop_zero (l:=l),hdx];exact zm h
   ·rcases Nat.eq_zero_or_pos k with rfl|UP
    ·rw[<- List.drop_zero (l:=l),hdx];exact zm h
    ·obtain⟨g1,g2⟩:=List.getElem?_eq_some_iff.1 nJ
     rw[Ly,List.drop_eq_getElem_cons g1,g2,show k - 1+1=k by omega,hdx,s6,zm h,Bool.and_false]
  have hib:=UO x
  refine gX hx ?_
  refine ay (K0 _ _ _) rfl ?_
  cases hA:(decide (0<=x.f)&&decide (x.f<=3))with
  |false=>
   rw[fal (by rw[hib,hA];rfl)]
   exact FG hx
  |true=>
  refine gX hx ?_
  refine ay (K0 _ _ _) rfl ?_
  cases hB:(decide (0<=x.t)&&decide (x.t<=3))with
  |false=>
   rw[fal (by rw[hib,hA,hB];rfl)]
   exact FG hx
  |true=>
  have hxi:zl x=true:=by rw[hib,hA,hB];rfl
  have nxt:(k=0\/∃p,l[k - 1]? =some p/\(decide (x.f<p.f)||(x.f==p.f&&decide (x.t<=p.t)))=false)->dz l=dz (l.drop k):=fun h=>by
   rcases Nat.eq_zero_or_pos k with rfl|UP
   ·rw[List.drop_zero]
   ·rcases h with h|⟨q,hq,Lz⟩
    ·omega
    ·rcases hp with h|⟨p,nJ,wv,Ly⟩
     ·omega
     ·rw[nJ]at hq;injection hq with hq;subst hq
      obtain⟨g1,g2⟩:=List.getElem?_eq_some_iff.1 nJ
      rw[Ly,List.drop_eq_getElem_cons g1,g2,show k - 1+1=k by omega,hdx,s6,wv,Lz];rfl
  have bad:∀q,0<k->l[k - 1]? =some q->(decide (x.f<q.f)||(x.f==q.f&&decide (x.t<=q.t)))=true->dz l=false:=fun q UP hq Lz=>by
   rcases hp with h|⟨p,nJ,wv,Ly⟩
   ·omega
   ·rw[nJ]at hq;injection hq with hq;subst hq
    obtain⟨g1,g2⟩:=List.getElem?_eq_some_iff.1 nJ
    rw[Ly,List.drop_eq_getElem_cons g1,g2,show k - 1+1=k by omega,hdx,s6,Lz];simp
  have fin:(k=0\/∃p,l[k - 1]? =some p/\(decide (x.f<p.f)||(x.f==p.f&&decide (x.t<=p.t)))=false)->(k+1<=l.length/\(k+1=0\/∃p,l[k+1 - 1]? =some p/\zl p=true/\dz l=dz (l.drop (k+1 - 1)))):=fun h=>⟨h2, .inr ⟨x,hx,hxi,nxt h⟩⟩
  rcases Nat.eq_zero_or_pos k with UP|UP
  ·have k0:decide (0<(k:Int))=false:=by simp;omega
   refine WB hx ?_
   refine aO (aQ rfl) ?_
   refine WB hx ?_
   refine aj (k+1) (fin (.inl UP)) ae (br.aR _ (show 0<=1 from ae) ae ff (fun _ _=>rfl) ?_)
   exact ct
  ·have k0:decide (0<(k:Int))=true:=by simp;omega
   have ek:((k:Int) - 1).toNat=k - 1:=ae
   have ek0:(0:Int)<=(k:Int) - 1:=ae
   obtain⟨p,nJ⟩:=E0 (l:=l) (k:=k - 1) ae
   by_cases c1:x.f<p.f
   ·have HG:decide (x.f<p.f)=true:=by simpa using c1
    rw[bad p UP nJ (by rw[HG];rfl)]
    simp+contextual (disch:=first|omega|simp only[go_sem,false_implies]) only[go_sem,wrap64,if_pos,hx,k0,ek,ek0,nJ,HG]
    exact Xv
   ·have HG:decide (x.f<p.f)=false:=by simpa using c1
    by_cases c2:x.f=p.f
    ·have UQ:(x.f==p.f)=true:=by simpa using c2
     by_cases c3:x.t<=p.t
     ·have NJ:decide (x.t<=p.t)=true:=by simpa using c3
      rw[bad p UP nJ (by rw[HG,UQ,NJ];rfl)]
      simp+contextual (disch:=first|omega|simp only[go_sem,false_implies]) only[go_sem,wrap64,if_pos,hx,k0,ek,ek0,nJ,HG,UQ,NJ]
      exact Xv
     ·have NJ:decide (x.t<=p.t)=false:=by simpa using c3
      simp+contextual (disch:=first|omega|simp only[go_sem,false_implies]) only[go_sem,wrap64,if_pos,hx,k0,ek,ek0,nJ,HG,UQ,NJ]
      refine aO (aQ rfl) ?_
      refine aY ?_
      refine aj (k+1) (fin (.inr ⟨p,nJ,by rw[HG,UQ,NJ];rfl⟩)) ae (br.aR _ (show 0<=1 from ae) ae ff (fun _ _=>rfl) ?_)
      exact ct
    ·have UQ:(x.f==p.f)=false:=by simpa using c2
     simp+contextual (disch:=first|omega|simp only[go_sem,false_implies]) only[go_sem,wrap64,if_pos,hx,k0,ek,ek0,nJ,HG,UQ]
     refine aO (aQ rfl) ?_
     refine aY ?_
     refine aj (k+1) (fin (.inr ⟨p,nJ,by rw[HG,UQ];rfl⟩)) ae (br.aR _ (show 0<=1 from ae) ae ff (fun _ _=>rfl) ?_)
     exact ct
 ·simp at h2
  refine aY ?_
  rcases hp with rfl|⟨p,nJ,wv,Ly⟩
  ·have:l=[]:=by cases l with|nil=>rfl|cons _ _=>simp at h2
   subst this;rfl
  ·obtain⟨g1,g2⟩:=List.getElem?_eq_some_iff.1 nJ
   rw[Ly,List.drop_eq_getElem_cons g1,g2,List.drop_eq_nil_of_le (by omega),NI,wv]
theorem NK(a b a' b':Int)(l l':Bool):oR Tryz.prog 100 64 (.agg [.i a, .i b, .bool l]) (.agg [.i a', .i b', .bool l'])=some (a==a'&&(b==b'&&l==l')):=by
 have h1:bD Tryz.prog 64=some (.struct [(3,0),(3,1),(4,2)]):=ag
 have h2:bD Tryz.prog 4=some .bool:=ag
 have h3:bD Tryz.prog 3=some .int:=ag
 have h4:cE Tryz.prog 4=some false:=ag
 have h5:cE Tryz.prog 3=some false:=ag
 simp[oR,h1,h2,h3,h4,h5,vZ,OR,gB,FV]
theorem NL(o:Nat->ab)(nH:Bool)(x:cB):vh Tryz.prog o 64 nH (.d (.agg [.i x.f, .i x.t, .bool x.l])) (.d (.agg [.i x.f, .i x.t, .bool x.l]))=some (.d (.bool true)):=by
 obtain⟨fs,h⟩:∃fs,Tryz.prog.underlying 64=some (.struct fs):=structOf ag
 have h2:Tryz.prog.eqGuardType Tryz.prog.depth 64=false:=ag
 unfold vh
 rw[h]
 dsimp only
 rw[if_pos h2,NK]
 simp
theorem vK(l:List cB)(hl:l.length<=1000000):aV Tryz.prog 33 [.sl (l.map cB.d), .sl (l.map cB.d)] (.ret [.bool true]):=by
 refine aV.aF mix Zz aJ ?_
 rw[c33]
 have hnn:((l.length:Int)!=(l.length:Int))=false:=aJ
 refine ng hnn ?_
 refine aB (fun k:Nat=>⟨a7 [.d (.sl (l.map cB.d)), .d (.sl (l.map cB.d)), .aa, .aa, .aa, .d (.i k)],fun _=> .no,1⟩)
  (fun k=>k<=l.length) (fun k=>l.length - k) 0 (Nat.zero_le _) (br.aR _ (show 0<=1 from ae) ae ff (fun _ _=>rfl) ?_) (fun k hk=> ?_)
 ·exact ct
 replace hk:k<=l.length:=hk
 refine qq ?_
 refine ai (fun h2=> ?_) (fun h2=> ?_)
 ·simp at h2
  obtain⟨x,hx⟩:=E0 h2
  simp+contextual (disch:=first|omega|simp only[go_sem,false_implies]) only[go_sem,wrap64,if_pos,hx,NL,Option.bind_some]
  refine aO (aQ rfl) ?_
  refine aY ?_
  refine aj (k+1) h2 ae (br.aR _ (show 0<=1 from ae) ae ff (fun _ _=>rfl) ?_)
  exact ct
 ·exact vP
theorem K1(l:List Int)(n:Int)(hl:l.length<=1000000):aV Tryz.prog 124 [.sl (l.map .i), .i n] (.ret [.bool (l.contains n)]):=by
 refine aV.aF mix aai aJ ?_
 rw[aah]
 refine aY ?_
 refine aB (fun k:Nat=>⟨a7 [.d (.sl (l.map .i)), .d (.i n), .aa, .aa, .aa, .d (.i k)],fun _=> .no,0⟩)
  (fun k=>k<=l.length/\(l.take k).contains n=false) (fun k=>l.length - k) 0 ⟨Nat.zero_le _,aJ⟩ (br.d0 _ ?_) (fun k hk=> ?_)
 ·exact ct
 refine aY ?_
 refine ai (fun h2=> ?_) (fun h2=> ?_)
 ·simp at h2
  obtain⟨x,hx⟩:=aL h2
  refine gX hx ?_
  refine ai (fun h3=> ?_) (fun h3=> ?_)
  ·refine aY ?_
   have:l.contains n=true:=by
    rw[List.contains_iff_mem, <- (by simpa using h3:x=n)];exact List.mem_of_getElem? hx
   rw[this]
  ·refine aY ?_
   refine aj (k+1) ⟨h2, ?_⟩ ae (br.d0 _ ?_)
   ·have h4: ¬n=x:=fun e=>by subst e;simp at h3
    have h5:=hk.2
    rw[List.take_add_one,hx]
    rw[Bool.eq_false_iff]at h5|-
    intro hc;apply h5
    rw[List.contains_iff_mem]at hc|-
    rcases List.mem_append.1 hc with hc|hc
    ·exact hc
    ·simp at hc;exact absurd hc h4
   ·exact ct
 ·simp at h2
  refine aY ?_
  have:=hk.2
  rw[List.take_of_length_le (by omega)]at this
  rw[this]
theorem u3:∀ (l:List Int) (n:Int),∃k,k<=l.length/\(∀x∈l.take k,x<n)/\(∀x,l[k]? =some x-> ¬x<n)/\jH l n=if l[k]? =some n then l else l.take k++n::l.drop k
 |[],n=>⟨0,Nat.zero_le _,aJ,aJ,by simp[jH]⟩
 |x::l,n=>by
  obtain⟨k,h1,h2,h3,h4⟩:=u3 l n
  by_cases hx:x<n
  ·refine⟨k+1,by simp;omega, ?_,by simpa using h3, ?_⟩
   ·intro y hy
    simp only[List.take_succ_cons,List.mem_cons]at hy
    rcases hy with rfl|hy
    ·exact hx
    ·exact h2 y hy
   ·simp only[jH,if_pos hx,h4,List.getElem?_cons_succ,List.take_succ_cons,List.drop_succ_cons]
    split<;>simp
  ·refine⟨0,Nat.zero_le _,aJ,by simpa using hx, ?_⟩
   simp only[jH,if_neg hx]
   by_cases e:x=n
   ·subst e;simp
   ·simp[e]
theorem Ip(l:List Int)(n:Int)(hl:l.length<=1000000):aV Tryz.prog 92 [.sl (l.map .i), .i n] (.ret [.sl ((jH l n).map .i)]):=by
 obtain⟨j,j1,j2,j3,j4⟩:=u3 l n
 have tk:∀ (i:Nat) (l:List Int),List.take i (l.map D.i)=(l.take i).map D.i:=fun i l=>List.map_take.symm
 have dr:∀ (i:Nat) (l:List Int),List.drop i (l.map D.i)=(l.drop i).map D.i:=fun i l=>List.map_drop.symm
 have ap:∀ (a b:List Int),a.map D.i++[D.i n]++b.map D.i=(a++n::b).map D.i:=fun a b=>aJ
 refine aV.aF mix ac9 aJ ?_
 rw[c92]
 refine aY ?_
 refine aB (fun k:Nat=>⟨a7 [.d (.sl (l.map .i)), .d (.i n), .aa, .aa, .aa, .d (.i k)],fun _=> .no,0⟩)
  (fun k=>k<=j) (fun k=>l.length - k) 0 (Nat.zero_le _) (br.d0 _ ?_) (fun k hk=> ?_)
 ·exact ct
 by_cases hkj:k=j
 ·subst hkj
  by_cases h5:k<l.length
  ·obtain⟨x,hx⟩:=aL h5
   have h6:=j3 x hx
   have zI:(k:Int)<l.length:=ae
   refine xy hx zI h6 ?_
   refine ai (fun h3=> ?_) (fun h3=> ?_)
   ·refine aY ?_
    have e:x=n:=by simpa using h3
    rw[j4,if_pos (by rw[hx,e])]
   ·have e: ¬x=n:=by simpa using h3
    rw[j4,if_neg (by rw[hx];simpa using e)]
    simp+contextual (disch:=first|omega|simp only[go_sem,false_implies]) only[go_sem,wrap64,if_pos,hx,zI,h6,tk,dr,List.take_length,List.length_map,List.length_take,List.length_drop,List.length_append,List.length_cons,List.length_nil]
    rw[ap]
    exact L0
  ·have zI: ¬ (k:Int)<l.length:=ae
   have hx:l[k]? =none:=by simp;omega
   rw[j4,if_neg (by rw[hx];simp)]
   simp+contextual (disch:=first|omega|simp only[go_sem,false_implies]) only[go_sem,wrap64,if_pos,zI,tk,dr,List.take_length,List.length_map,List.length_take,List.length_drop,List.length_append,List.length_cons,List.length_nil]
   rw[ap]
   exact L0
 ·have cm:k<l.length:=ae
  obtain⟨x,hx⟩:=aL cm
  have zI:(k:Int)<l.length:=ae
  have h6:x<n:=j2 x (List.mem_of_getElem? (i:=k) (by rw[List.getElem?_take_of_lt (by omega)];exact hx))
  refine xy hx zI h6 ?_
  refine aj (k+1) ae ae (br.d0 _ ?_)
  exact ct
theorem qu{op n:Int}{i:Nat}{l:List Int}{k:Nat}{v:Int}(h:l[k]? =some v)(out:List Int):lQ op n i (l.take (k+1)) out=if(op !=8||(i:Int)!=1||v !=n)=true then jH (lQ op n i (l.take k) out) v else lQ op n i (l.take k) out:=by
 unfold lQ
 rw[List.take_add_one,h,List.foldl_append]
 rfl
theorem s7:∀t:Tm,t.Dw->aV Tryz.prog 114 [t.d] (.ret [.sl ((bL t).map .i)]):=by
 refine Tm.eY fun t ih ht=> ?_
 have nX:=(Tm.bR _).1 ht.fits
 refine aV.aF mix aaa aJ ?_
 rw[Z9]
 by_cases h1:t.op=1
 ·refine gX h1 ?_
  rw[m7,if_pos h1]
  rfl
 ·have oS:(t.op==1)=false:=by simpa using h1
  refine gX oS ?_
  rw[m7,if_neg h1]
  refine aB (fun i:Nat×List Int=>⟨a7 [.aa, .ptr 0 0, .aa, .d (.sl (i.2.map .i)), .d (.i i.1)],iO t.row,1⟩)
   (fun i=>i.1<=t.kids.length/\iP t.op t.n t.kids 0 []=iP t.op t.n (t.kids.drop i.1) i.1 i.2/\i.2.length<=iH (t.kids.take i.1)) (fun i=>t.kids.length - i.1) (0,[]) ⟨Nat.zero_le _,rfl,Nat.zero_le _⟩
   (br.aa9 (fun _=>False) 1 _ ae (lt1 (gD rfl xB)) (fun j hj=>ah _ _ _ _ ae) (fun _ h=>h.elim) ?_) ?_
  ·try dsimp only
   exact HN
  rintro⟨k,out⟩ ⟨hk,hv,hlen⟩
  simp only at hk hv hlen
  refine aY ?_
  refine ai (fun h2=> ?_) (fun h2=> ?_)
  ·simp at h2
   obtain⟨x,hx⟩:=aL h2
   have iK:=List.mem_of_getElem? hx
   have dA:iH (t.kids.take (k+1))=iH (t.kids.take k)+x.sz:=by
    rw[List.take_add_one,hx];simp[iH]
   have hle:iH (t.kids.take (k+1))<=iH t.kids:=by
    have:iH t.kids=iH (t.kids.take (k+1))+iH (t.kids.drop (k+1)):=by
     conv=>lhs;rw[<- List.take_append_drop (k+1) t.kids]
     exact H3
    omega
   have sL:iH t.kids<=1000000:=by have:=ht.size;rw[Tm.p6,Tm.p7]at this;omega
   have hvl:=lg x
   have hdr:t.kids.drop k=x::t.kids.drop (k+1):=by
    exact OD
   refine gX hx ?_
   refine aW (ih x iK (ht.kid iK)) ?_
   refine gX hx ?_
   refine aB (fun j:Nat=>⟨a7 [.aa, .ptr 0 0, .aa, .d (.sl ((lQ t.op t.n k ((bL x).take j) out).map .i)), .d (.i k), .d (.sl ((bL x).map .i)), .d (.i j)],iO t.row,1⟩)
    (fun j=>j<=(bL x).length) (fun j=>(bL x).length - j) 0 (Nat.zero_le _) (br.d1 _ (aT rfl) ae rfl ?_) (fun j hj=> ?_)
   ·exact ct
   refine aY ?_
   refine ai (fun h3=> ?_) (fun h3=> ?_)
   ·simp at h3
    obtain⟨v,Lv⟩:=aL h3
    have QN:=m8 t.op t.n k ((bL x).take j) out
    have htl:((bL x).take j).length<=(bL x).length:=by rw[List.length_take];omega
    cases b1:(t.op !=8)with
    |true=>
     have hc:(t.op !=8||(k:Int)!=1||v !=t.n)=true:=by rw[b1];rfl
     refine vk Lv b1 ?_
     exact Xt
    |false=>
     cases b2:((k:Int)!=1)with
     |true=>
      have hc:(t.op !=8||(k:Int)!=1||v !=t.n)=true:=by rw[b1,b2];rfl
      refine xy Lv b1 b2 ?_
      exact Xt
     |false=>
      refine xy Lv b1 b2 ?_
      refine aO bO ?_
      refine gX Lv ?_
      refine ai (fun h4=> ?_) (fun h4=> ?_)
      ·have hc:(t.op !=8||(k:Int)!=1||v !=t.n)=true:=by rw[h4];simp
       refine gX Lv ?_
       refine aW (Ip _ v ae) ?_
       refine aY ?_
       refine aj (j+1) h3 ae (br.d1 _ (aT rfl) ae rfl ?_)
       rw[qu Lv,if_pos hc]
       exact ct
      ·have hc: ¬ (t.op !=8||(k:Int)!=1||v !=t.n)=true:=by rw[b1,b2,h4];simp
       refine gX Lv ?_
       refine aj (j+1) h3 ae (br.d1 _ (aT rfl) ae rfl ?_)
       rw[qu Lv,if_neg hc]
       exact ct
   ·simp at h3
    refine aY ?_
    rw[List.take_of_length_le (by omega)]
    refine aj (k+1,lQ t.op t.n k (bL x) out) ⟨h2,by rw[hv,hdr];rfl, ?_⟩ jO (br.d1 _ (aT rfl) ae rfl ?_)
    ·dsimp only
     have:=m8 t.op t.n k (bL x) out
     omega
    ·exact ct
  ·simp at h2
   refine aY ?_
   rw[hv,List.drop_eq_nil_of_le (by omega)]
   rfl
theorem NM:∀t:Tm,t.fits->aV Tryz.prog 153 [t.d] (.ret [.bool (gw t)]):=by
 refine Tm.eY fun t ih hf=> ?_
 have nX:=(Tm.bR _).1 hf
 refine aV.aF mix aaK aJ ?_
 rw[aaJ,xl]
 refine aY ?_
 refine aB (fun k:Nat=>⟨a7 [.aa, .ptr 0 0, .aa, .d (.i k)],iO t.row,1⟩)
  (fun k=>k<=t.kids.length/\(t.kids.take k).all gw=true) (fun k=>t.kids.length - k) 0 ⟨Nat.zero_le _,aJ⟩ (br.d1 _ (aT rfl) ae rfl ?_) (fun k hk=> ?_)
 ·exact ct
 refine aY ?_
 refine ai (fun h2=> ?_) (fun h2=> ?_)
 ·simp at h2
  obtain⟨x,hx⟩:=aL h2
  have iK:=List.mem_of_getElem? hx
  refine gX hx ?_
  refine ay (ih x iK (nX.2 x iK)) rfl ?_
  refine aY ?_
  refine ai (fun h3=> ?_) (fun h3=> ?_)
  ·refine aY ?_
   simp at h3
   rw[cq hx h3];rfl
  ·exact XF
 ·refine aY ?_
  simp at h2
  rw[eG hk.2 h2];rfl
theorem UR:∀t:Tm,t.Dw->∀b:List Int,b.length+t.sz<=1000000->aV Tryz.prog 152 [t.d, .sl (b.map .i)] (.ret [.sl ((fR t b).1.map .i), .bool (fR t b).2]):=by
 refine Tm.eY fun t ih ht b hb=> ?_
 have nX:=(Tm.bR _).1 ht.fits
 refine aV.aF mix aaI aJ ?_
 rw[aaH]
 by_cases h1:t.op=1
 ·rw[qe,if_pos h1]
  refine gX h1 ?_
  refine dL (Ip _ _ ae) ?_
  refine aY ?_
  refine bg (K1 _ _ ae) rfl ?_
  refine aY ?_
  exact L0
 ·have oS:(t.op==1)=false:=by simpa using h1
  rw[qe,if_neg h1]
  refine gX oS ?_
  refine aB (fun i:Nat×List Int×Bool=>⟨a7 [.aa, .d (.sl (i.2.1.map .i)), .ptr 0 0, .aa, .aa, .aa, .d (.bool i.2.2), .d (.i i.1)],iO t.row,1⟩)
   (fun i=>i.1<=t.kids.length/\fG t.kids b=(if i.2.2=true then fG (t.kids.drop i.1) i.2.1 else(i.2.1,false))/\i.2.1.length<=b.length+iH (t.kids.take i.1)) (fun i=>t.kids.length - i.1) (0,b,true) ⟨Nat.zero_le _,rfl,Nat.le_add_right _ _⟩ (br.d1 _ (aT rfl) ae rfl ?_) ?_
  ·dsimp only
   exact ct
  rintro⟨k,b',is⟩ ⟨hk,hv,hlen⟩
  simp only at hk hv hlen
  have sL:=Tm.p7 t
  have fin:is=false\/t.kids.length<=k->fG t.kids b=(b',is):=by
   intro h
   cases is with
   |false=>rw[hv];rfl
   |true=>
    have h:t.kids.length<=k:=by simpa using h
    rw[hv,List.drop_eq_nil_of_le h];rfl
  refine aY ?_
  cases is with
  |false=>
   refine aY ?_
   rw[fin (.inl rfl)]
  |true=>
   refine aY ?_
   refine ai (fun h2=> ?_) (fun h2=> ?_)
   ·simp at h2
    obtain⟨x,hx⟩:=aL h2
    have iK:=List.mem_of_getElem? hx
    have dA:iH (t.kids.take (k+1))=iH (t.kids.take k)+x.sz:=by
     rw[List.take_add_one,hx];simp[iH]
    have hle:iH t.kids=iH (t.kids.take (k+1))+iH (t.kids.drop (k+1)):=by
     conv=>lhs;rw[<- List.take_append_drop (k+1) t.kids]
     exact H3
    have hdr:t.kids.drop k=x::t.kids.drop (k+1):=by
     exact OD
    refine gX hx ?_
    refine aW (ih x iK (ht.kid iK) b' ae) ?_
    refine aY ?_
    refine aj (k+1,(fR x b').1,(fR x b').2) ⟨h2, ?_, ?_⟩ jO (br.d1 _ (aT rfl) ae rfl ?_)
    ·dsimp only
     rw[hv,if_pos rfl,hdr]
     simp only[fG]
    ·dsimp only
     have:=Hd x b'
     omega
    ·exact ct
   ·simp at h2
    refine aY ?_
    rw[fin (.inr h2)]
theorem Hi(t:Tm)(ht:t.Dw):aV Tryz.prog 110 [t.d] (.ret [.bool ((fR t []).2&&gw t)]):=by
 have ho:=UR t ht [] (by have:=ht.size;rw[Tm.p6]at this;simp;omega)
 simp only[List.map_nil]at ho
 refine aV.aF mix Z2 aJ ?_
 rw[Z1]
 refine aY ?_
 refine aW ho ?_
 refine aY ?_
 refine fC (eE [.bool (gw t)] ?_ ?_)
 ·refine aY ?_
  exact fun _=>NM t ht.fits
 exact vP
def IC.snd:IC->IC
 | .seq _ y=>y
 |c=>c
def IC.fst:IC->IC
 | .seq x _=>x
 | .block _ x=>x
 | .loop x=>x
 | .cond _ x _=>x
 |c=>c
theorem B6{c:Nat}{G:List Gr}{so:Nat->ab}{gone:Nat->Prop}{x x' y y':ab}(h:x=y)(h':x'=y')(hs:uE c G so gone y y'):uE c G so gone x x':=by rw[h,h'];exact hs
theorem u4{l:List Tm}{k:Tm}(h:k∈l):k.sz<=iH l:=by
 induction l with
 |nil=>cases h
 |cons x l ih=>
  rw[jG]
  rcases List.mem_cons.1 h with e|e
  ·subst e;omega
  ·have:=ih e;omega
theorem zp:∀t:Tm,t.mN<=t.sz:=by
 refine Tm.eY fun t ih=> ?_
 rw[Tm.Dx,Tm.p7]
 have:=(sX t.kids (iH t.kids)).2 fun k hk=>Nat.le_trans (ih k hk) (u4 hk)
 omega
theorem Tm.Dw.DJ {t:Tm}(hf:t.fits)(h:t.sz<=900000):t.Dw:=⟨⟨hf,Nat.le_trans (zp t) h⟩,by rw[Tm.p6];omega⟩
theorem u5(l:List Tm)(h:∀k∈l,(dw k).length<=k.sz):(cH l).length<=iH l:=by
 induction l with
 |nil=>simp[cH]
 |cons k l ih=>
  rw[cH,List.length_append,jG]
  have:=h k aJ
  have:=ih fun x hx=>h x og
  omega
theorem rn:∀t:Tm,(dw t).length<=t.sz:=by
 refine Tm.eY fun t ih=> ?_
 have:=u5 t.kids ih
 rw[rj,List.length_append,Tm.p7]
 split<;>simp<;>omega
theorem vL(a b:List Tm):cH (a++b)=cH a++cH b:=by
 induction a with
 |nil=>simp[cH]
 |cons k a ih=>simp[cH,ih]
def K2:IC:=M5.snd.snd.snd.fst.snd.fst.fst
theorem u6{t:Tm}(hf:t.fits)(hz:t.sz<=1000000)(ih:∀k∈t.kids,k.fits->k.sz<=1000000->aV Tryz.prog 154 [k.d] (.ret [.sl ((dw k).map .i)]))(p:List Int)(hp:p.length<=1){e:Nat->V}{o:Nat->ab}{nx:Nat}{Q:fL->S->Prop}
 (hs:br 0 ⟨e,o,nx⟩ ⟨a7 [.aa, .ptr 0 0, .aa, .osl 1 0, .d (.i 0)],aD (aD (fun _=> .no) 0 (.row t.row)) 1 (.arr 0 3 1 (p.map .i)),2⟩)
 (hQ:∀e' n',e' 3= .osl 1 0->Q (.exit 0) ⟨e',aD (aD (fun _=> .no) 0 (.row t.row)) 1 (.arr 0 3 1 ((p++cH t.kids).map .i)),n'⟩):
 Bb 0 (fun Q s=>lJ Tryz.prog 29 0 false K2 Q s) Q ⟨e,o,nx⟩:=by
 have nX:=(Tm.bR _).1 hf
 have sL:=Tm.p7 t
 refine aB (fun i:Nat=>⟨a7 [.aa, .ptr 0 0, .aa, .osl 1 0, .d (.i i)],aD (aD (fun _=> .no) 0 (.row t.row)) 1 (.arr 0 3 1 ((p++cH (t.kids.take i)).map .i)),2⟩)
  (fun i=>i<=t.kids.length) (fun i=>t.kids.length - i) 0 (Nat.zero_le _) ?_ fun k hk=> ?_
 ·simpa[cH]using hs
 replace hk:k<=t.kids.length:=hk
 simp only[K2,M5,IC.snd,IC.fst]
 refine qq ?_
 refine ai (fun h2=> ?_) (fun h2=> ?_)
 ·simp at h2
  obtain⟨x,hx⟩:=aL h2
  have iK:=List.mem_of_getElem? hx
  have Oq:t.kids.take (k+1)=t.kids.take k++[x]:=by rw[List.take_add_one,hx];rfl
  have tD:(cH (t.kids.take k)).length<=iH (t.kids.take k):=u5 _ fun y _=>rn y
  have dA:iH t.kids=iH (t.kids.take k)+iH (t.kids.drop k):=by
   conv=>lhs;rw[<- List.take_append_drop k t.kids]
   exact H3
  have F0:=u4 iK
  have Vi:=rn x
  have hl3:(p++cH (t.kids.take k)).length<=1000001:=by rw[List.length_append];omega
  refine ng hx ?_
  refine aW (ih x iK (nX.2 x iK) ae) ?_
  refine ng hx ?_
  refine aj (k+1) h2 ae (br.Dp (fun j=>j=1) (.osl 1 1) 1 _ ae (lt1 (B6 (y:= .row t.row) gY gY (gD rfl xB))) (af _ _ _) (.inr ⟨1,1,rfl,rfl,by(repeat(first|rfl|rw[af]|rw[ah _ _ _ _ (by omega)]));rw[Oq,vL, <- List.append_assoc,List.map_append];simp[cH]⟩) (fun j hj=>by(repeat(first|rfl|rw[af]|rw[ah _ _ _ _ (by omega)]))) (fun j h h2=>ae) ?_)
  exact HN
 ·simp at h2
  have QN:k=t.kids.length:=ae
  subst QN
  rw[List.take_length]
  refine qq ?_
  exact hQ _ _ rfl
theorem NN:∀t:Tm,t.fits->t.sz<=1000000->aV Tryz.prog 154 [t.d] (.ret [.sl ((dw t).map .i)]):=by
 refine Tm.eY fun t ih hf hz=> ?_
 refine aV.aF mix aaL aJ ?_
 rw[M5,rj]
 by_cases h8:t.op=8
 ·have h8':(t.op==8)=true:=by simpa using h8
  refine gX h8' ?_
  rw[if_pos h8]
  refine u6 hf hz ih [t.n] aJ ?_ fun e' n' he=> ?_
  ·refine br.Dp (fun j=>1<=j) _ 1 _ ae (lt1 (B6 (y:= .row t.row) gY gY (gD rfl xB))) (af _ _ _) (.inr ⟨_,_, ?_,rfl,by(repeat(first|rfl|rw[af]|rw[ah _ _ _ _ (by omega)]))⟩) (fun j hj=>by(repeat(first|rfl|rw[af]|rw[ah _ _ _ _ (by omega)]))) (fun j h h2=>ae) ?_
   ·decide
   ·exact HN
  ·exact FG he
 ·have h8':(t.op==8)=false:=by simpa using h8
  refine gX h8' ?_
  rw[if_neg h8]
  refine u6 hf hz ih [] aJ ?_ fun e' n' he=> ?_
  ·refine br.Dp (fun _=>False) .bu 1 _ ae (lt1 (gD rfl xB)) (af _ _ _) (.inl ⟨rfl,rfl,bO⟩) (fun j hj=>by(repeat(first|rfl|rw[af]|rw[ah _ _ _ _ (by omega)]))) (fun _ h=>h.elim) ?_
   exact HN
  ·exact FG he
theorem K4(l:List Int)(n:Int)(hl:l.length<=1000000):aV Tryz.prog 155 [.sl (l.map .i), .i n] (.ret [.i (l.count n)]):=by
 refine aV.aF mix aaN aJ ?_
 rw[aaM]
 refine aY ?_
 refine aB (fun k:Nat=>⟨a7 [.d (.sl (l.map .i)), .d (.i n), .aa, .aa, .aa, .d (.i ((l.take k).count n)), .d (.i k)],fun _=> .no,0⟩)
  (fun k=>k<=l.length) (fun k=>l.length - k) 0 (Nat.zero_le _) (br.d0 _ ?_) (fun k hk=> ?_)
 ·exact ct
 replace hk:k<=l.length:=hk
 have hc:(l.take k).count n<=1000000:=by have:=List.count_le_length (a:=n) (l:=l.take k);rw[List.length_take]at this;omega
 refine qq ?_
 refine ai (fun h2=> ?_) (fun h2=> ?_)
 ·simp at h2
  obtain⟨x,hx⟩:=aL h2
  have Oq:(l.take (k+1)).count n=(l.take k).count n+if x=n then 1 else 0:=by rw[List.take_add_one,hx,List.count_append];simp[List.count_singleton]
  refine ng hx ?_
  refine ai (fun h3=> ?_) (fun h3=> ?_)
  ·have my:x=n:=by simpa using h3
   rw[if_pos my]at Oq
   exact RK
  ·have my: ¬x=n:=by simpa using h3
   rw[if_neg my]at Oq
   exact RK
 ·simp at h2
  refine aY ?_
  rw[List.take_of_length_le h2]
theorem sa(n:Int):∀l:List Tm,iD n l=l.all (eu n)
 |[]=>rfl
 |k::l=>by simp[iD,sa n l]
theorem B7(n:Int):∀t:Tm,t.fits->aV Tryz.prog 111 [t.d, .i n] (.ret [.bool (eu n t)]):=by
 refine Tm.eY fun t ih hf=> ?_
 have nX:=(Tm.bR _).1 hf
 refine aV.aF mix Z4 aJ ?_
 rw[Z3,uV,sa]
 refine aY ?_
 refine aB (fun k:Nat=>⟨a7 [.aa, .d (.i n), .ptr 0 0, .aa, .aa, .d (.i k)],iO t.row,1⟩)
  (fun k=>k<=t.kids.length/\(t.kids.take k).all (eu n)=true) (fun k=>t.kids.length - k) 0 ⟨Nat.zero_le _,aJ⟩ (br.d1 _ (aT rfl) ae rfl ?_) (fun k hk=> ?_)
 ·exact ct
 refine aY ?_
 refine ai (fun h2=> ?_) (fun h2=> ?_)
 ·simp at h2
  obtain⟨x,hx⟩:=aL h2
  have iK:=List.mem_of_getElem? hx
  refine gX hx ?_
  refine ay (ih x iK (nX.2 x iK)) rfl ?_
  refine aY ?_
  refine ai (fun h3=> ?_) (fun h3=> ?_)
  ·refine aY ?_
   simp at h3
   rw[cq hx h3];rfl
  ·exact XF
 ·simp at h2
  rw[eG hk.2 h2,Bool.true_and]
  exact vP
theorem B8(l:List Tm):aV Tryz.prog 115 [.sl (l.map Tm.d)] (.ret [(Tm.mk 0 0 l).d]):=by
 refine aV.aF mix aac aJ ?_
 rw[aab,Tm.Jq]
 exact vP
structure K5 (l:List Tm):Prop where
 len:l.length<=1000
 all:∀t∈l,t.fits/\t.sz<=500
theorem K5.cnt {l:List Tm}(h:K5 l){t:Tm}(ht:t∈l):t.Dw:=Tm.Dw.DJ (h.all t ht).1 (by have:=(h.all t ht).2;omega)
theorem K5.iH {l:List Tm}(h:K5 l):iH l<=500000:=by
 have:∀l:List Tm,(∀t∈l,t.sz<=500)->Go.Proofs.YtnkamdiiakdkgaaGreat.iH l<=500*l.length:=by
  intro l
  induction l with
  |nil=>intro _;simp[Go.Proofs.YtnkamdiiakdkgaaGreat.iH]
  |cons k l ih=>intro h;rw[jG,List.length_cons];have:=h k aJ;have:=ih fun x hx=>h x og;omega
 have:=this l fun t ht=>(h.all t ht).2
 have:=h.len
 omega
theorem K5.fits {l:List Tm}(h:K5 l):(Tm.mk 0 0 l).fits:=by
 rw[Tm.bR]
 exact⟨by have:=h.len;simp only[Tm.kids];omega,fun k hk=>(h.all k hk).1⟩
theorem K5.whole {l:List Tm}(h:K5 l):(Tm.mk 0 0 l).Dw:=Tm.Dw.DJ h.fits (by have:=h.iH;rw[Tm.QM];omega)
theorem K6(l:List Tm)(h:K5 l):aV Tryz.prog 112 [.sl (l.map Tm.d)] (.ret [.bool (DE l)]):=by
 have hlen:=h.len
 refine aV.aF mix Z6 aJ ?_
 rw[Z5]
 refine aY ?_
 refine aB (fun k:Nat=>⟨a7 [.d (.sl (l.map Tm.d)), .aa, .aa, .d (.i (((l.take k).map fun t=>(bL t).length).sum:Nat)), .d (.i k)],fun _=> .no,0⟩)
  (fun k=>k<=l.length) (fun k=>l.length - k) 0 (Nat.zero_le _) (br.d0 _ ?_) (fun k hk=> ?_)
 ·exact ct
 replace hk:k<=l.length:=hk
 have hs:((l.take k).map fun t=>(bL t).length).sum<=500000:=by
  have h1:∀m:List Tm,(m.map fun t=>(bL t).length).sum<=Go.Proofs.YtnkamdiiakdkgaaGreat.iH m:=by
   intro m
   induction m with
   |nil=>simp[Go.Proofs.YtnkamdiiakdkgaaGreat.iH]
   |cons x m ih=>rw[List.map_cons,List.sum_cons,jG];have:=lg x;omega
  have h2:Go.Proofs.YtnkamdiiakdkgaaGreat.iH l=Go.Proofs.YtnkamdiiakdkgaaGreat.iH (l.take k)+Go.Proofs.YtnkamdiiakdkgaaGreat.iH (l.drop k):=by
   conv=>lhs;rw[<- List.take_append_drop k l]
   unfold Go.Proofs.YtnkamdiiakdkgaaGreat.iH;rw[List.map_append,List.sum_append]
  have:=h1 (l.take k)
  have:=h.iH
  omega
 refine qq ?_
 refine ai (fun h2=> ?_) (fun h2=> ?_)
 ·simp at h2
  obtain⟨x,hx⟩:=aL h2
  have iK:=List.mem_of_getElem? hx
  have hv:=lg x
  have hx5:=(h.all x iK).2
  have Oq:((l.take (k+1)).map fun t=>(bL t).length).sum=((l.take k).map fun t=>(bL t).length).sum+(bL x).length:=by rw[List.take_add_one,hx,List.map_append,List.sum_append];simp
  refine ng hx ?_
  refine aW (s7 x (h.cnt iK)) ?_
  exact RK
 ·simp at h2
  refine aY ?_
  refine aW (B8 l) ?_
  refine aY ?_
  refine aW (s7 _ h.whole) ?_
  rw[List.take_of_length_le h2]
  refine qq ?_
  congr 3
  rw[DE,Bool.eq_iff_iff]
  simp
  omega
theorem NO(t:Tm)(ht:t.Dw)(p:List Int)(hp:p.length<=1000000):aV Tryz.prog 113 [t.d, .sl (p.map .i)] (.ret [.bool (rk t p)]):=by
 have hz:t.sz<=1000000:=by have:=ht.size;rw[Tm.p6]at this;omega
 have hl:=rn t
 have hv:=lg t
 refine aV.aF mix Z8 aJ ?_
 rw[Z7]
 refine aY ?_
 refine dL (NN t ht.fits hz) ?_
 refine aY ?_
 refine dL (s7 t ht) ?_
 refine aY ?_
 refine aO bO ?_
 refine aY ?_
 let q:Int->Bool:=fun v=> !(decide (1<((dw t).count v:Int))||p.contains v||(bL t).contains v)
 have hq:rk t p=(dw t).all q:=rfl
 rw[hq]
 refine aB (fun k:Nat=>⟨a7 [.aa, .d (.sl (p.map .i)), .ptr 0 0, .aa, .aa, .d (.sl ((dw t).map .i)), .d (.sl ((bL t).map .i)), .d (.i k)],iO t.row,1⟩)
  (fun k=>k<=(dw t).length/\((dw t).take k).all q=true) (fun k=>(dw t).length - k) 0 ⟨Nat.zero_le _,aJ⟩ (br.d1 _ (aT rfl) ae rfl ?_) (fun k hk=> ?_)
 ·exact ct
 refine qq ?_
 refine ai (fun h2=> ?_) (fun h2=> ?_)
 ·simp at h2
  obtain⟨x,hx⟩:=aL h2
  have hqx:q x= !(decide (1<((dw t).count x:Int))||p.contains x||(bL t).contains x):=rfl
  refine ng hx ?_
  refine ay (K4 (dw t) x ae) rfl ?_
  cases h3:decide (1<((dw t).count x:Int))with
  |true=>
   refine Hw hx h3 ?_
   rw[cq hx (by rw[hqx,h3];rfl)]
  |false=>
   refine Hw hx h3 ?_
   refine ay (K1 p x ae) rfl ?_
   cases h4:p.contains x with
   |true=>
    refine Hw hx h3 ?_
    rw[cq hx (by rw[hqx,h3,h4];rfl)]
   |false=>
    refine Hw hx h3 ?_
    refine ay (K1 (bL t) x ae) rfl ?_
    cases h5:(bL t).contains x with
    |true=>
     refine Hw hx h3 ?_
     rw[cq hx (by rw[hqx,h3,h4,h5];rfl)]
    |false=>
     refine Hw hx h3 ?_
     refine aj (k+1) ⟨h2,fg hx hk.2 (by rw[hqx,h3,h4,h5];rfl)⟩ ae (br.d1 _ (aT rfl) ae rfl ?_)
     exact ct
 ·simp at h2
  rw[eG hk.2 h2]
  exact vP
theorem cX.qh {P:Program}{g:FuncId}{x:V}{d:D}{rest:List V}{o:Nat->ab}{nx:Nat}{K X:V->(Nat->ab)->Nat->Prop}(hx:dC o x=some d)
 (h:cX P g (.d d::rest) (put o (cc o x.ids)) nx K X):cX P g (x::rest) o nx K X:=by
 refine⟨h.1,fun M φ w vals hH hd=> ?_⟩
 have hd0:=hd
 obtain⟨val,us,kJ,hv,dX⟩:=hd
 have hu:=fun id au=>cC x val hv id au
 obtain⟨f1,f2,f3,f4,f5⟩:=cF (H:=hp o nx) hH x.ids hu
 have gK:(hp o nx).put (cc o x.ids)=hp (put o (cc o x.ids)) nx:=Uz (fun y hy=>by
  simp only[cc,List.mem_map]at hy
  obtain⟨id,au,rfl⟩:=hy
  exact hu id au)
 have LI:=f1;have Kx:=f2
 rw[show cc (hp o nx).o x.ids=cc o x.ids from rfl,gK]at LI Kx
 have hB1:∀k,cw φ ((hp o nx).put (cc o x.ids)) k->cw φ (hp o nx) k:=by
  rintro k ⟨id,g1,g2⟩
  by_cases au:id∈x.ids
  ·have:=f3 id au
   rw[show((hp o nx).put (cc o x.ids)).o id=_ from this]at g1
   refine⟨id, ?_,g2⟩
   revert g1
   cases(hp o nx).o id<;>simp[ab.fz,ab.live]
  ·have:=f4 id au
   rw[show((hp o nx).put (cc o x.ids)).o id=_ from this]at g1
   exact⟨id,g1,g2⟩
 have QQ:∀j,mX (((hp o nx).put (cc o x.ids)).o j) ((hp o nx).o j):=fun j=>by
  by_cases hm:j∈x.ids
  ·rw[show((hp o nx).put (cc o x.ids)).o j=_ from f3 j hm];exact mX.fz _
  ·rw[show((hp o nx).put (cc o x.ids)).o j=_ from f4 j hm];exact mX.rfl' rfl
 have h4:=V.mY (H:=hp o nx) (H':=(hp o nx).put (cc o x.ids)) (B:=ak M φ (hp o nx)) (B':=ak M φ ((hp o nx).put (cc o x.ids))) (fun k h h'=>h (h'.imp id (hB1 k))) x val (fun id au=>⟨QQ id,rfl,(f5 id).2 ((V.nu x val hv) id au)⟩) hv
 have h5:=eO f1 (o:=o) x d val (fun id au=>f3 id au) hx h4
 have h6:=V.gS (H:=hp o nx) (H':=(hp o nx).put (cc o x.ids)) (B:=ak M φ (hp o nx)) (B':=ak M φ ((hp o nx).put (cc o x.ids))) (fun k h h'=>h (h'.imp id (hB1 k))) rest us (fun id au=>⟨QQ id,rfl,(f5 id).2 ((V.gU rest us dX) id au)⟩) dX
 rw[show(hp o nx).put (cc (hp o nx).o x.ids)=hp (put o (cc o x.ids)) nx from gK]at h5
 rw[gK]at h6
 refine(h.2 M φ w vals LI ⟨val,us,kJ,h5,h6⟩).mono ?_
 rintro e w' ⟨aC,o',nx',v,k1,k2,k3⟩
 exact⟨aC,o',nx',v,k1,Kx.trans k2,k3⟩
section
@[reducible] def Sp.row (x:Sp):List V:=[.d (.i x.t.op), .d (.i x.t.n), .d (.sl (x.t.kids.map Tm.d)), .d (.sl (x.path.map .i)), .d (.bool x.bare)]
@[reducible] def Sp.d (x:Sp):D:= .agg [.i x.t.op, .i x.t.n, .sl (x.t.kids.map Tm.d), .sl (x.path.map .i), .bool x.bare]
section
variable {σ:Type}(base m4:Nat)(H:σ->Nat->ab)(step:σ->Sp->σ×Bool)(ok:List Sp->σ->Prop)
theorem rp(k:Tm)(l:List Tm)(i:Int)(q:List Int)(b:Bool):jb (k::l) i q b=ll k (q++[i]) b++jb l (i+1) q b:=by rw[jb]
theorem xo{α:Type}{step:σ->α->σ×Bool}:∀ (a b:List α) (s:σ),aq step s (a++b)=if(aq step s a).2=true then aq step (aq step s a).1 b else aq step s a
 |[],b,s=>by simp[aq]
 |x::a,b,s=>by
  simp only[List.cons_append,aq]
  split
  ·exact xo a b _
  ·simp
theorem qt(aS:∀x r s,ok (x::r) s->(step s x).2=true->ok r (step s x).1):∀ (l rest:List Sp) (s:σ),ok (l++rest) s->(aq step s l).2=true->ok rest (aq step s l).1
 |[],rest,s,h,_=>h
 |x::l,rest,s,h,h2=>by
  simp only[aq]at h2|-
  split at h2
  ·rename_i hb
   rw[if_pos hb]
   exact qt aS l rest _ (aS _ _ _ h hb) h2
  ·rename_i hb
   exact absurd h2 Bool.false_ne_true
theorem Hj(aS:∀x r s,ok (x::r) s->(step s x).2=true->ok r (step s x).1):∀t:Tm,t.fits->∀ (q:List Int) (b:Bool),q.length+t.mN<=1000000->(∀x∈ll t q b,∀r s,ok (x::r) s->Wk Tryz.prog m4 [.d x.d] base (H s) (H (step s x).1) (.d (.bool (step s x).2)))->m4<base->
 ∀ (c:Nat) (o0:Nat->ab) (yb vb:Nat),base<=c->base<=yb->yb<c->base<=vb->vb<c->o0 yb= .row [.iW m4]->o0 vb= .row [.func (.func 102) [] [.ptr yb 0, .ptr vb 0]]->
 ∀rest s,ok (ll t q b++rest) s->iN Tryz.prog 102 [.d (Sp.mk t q b).d, .ptr yb 0, .ptr vb 0] c (ext base (H s) o0) (ext base (H (aq step s (ll t q b)).1) o0) (.d (.bool (aq step s (ll t q b)).2)):=by
 refine Tm.eY fun t ih hf q b hqh hR uJ c o0 yb vb Lu LG hy LH hv oy ov rest s iq=> ?_
 have nX:=(Tm.bR _).1 hf
 intro o nx hI K X hK
 have hle:=hI.le
 have Nd:o yb= .row [.iW m4]:=by rw[hI.eq yb hy];unfold ext;rw[if_neg (by omega),oy]
 have Nf:o vb= .row [.func (.func 102) [] [.ptr yb 0, .ptr vb 0]]:=by rw[hI.eq vb hv];unfold ext;rw[if_neg (by omega),ov]
 have y1:yb≠nx:=ae
 have y2:∀k,yb≠nx+k:=fun k=>ae
 have y3:vb≠nx:=ae
 have y4:∀k,vb≠nx+k:=fun k=>ae
 refine cX.aF mix PU aJ ?_
 rw[Tz]
 simp+contextual (disch:=first|omega|simp only[go_sem,false_implies]) only[go_sem,wrap64,if_pos,Nd,Nf,y1,y2,y3,y4,Nat.add_assoc,Nat.left_eq_add,Nat.add_eq_left,Nat.add_left_cancel_iff]
 have sd:=DH t q b
 rw[sd,List.cons_append]at iq
 have hb:∀id,id<base->o id=H s id:=fun id au=>by rw[hI.eq id (by omega)];unfold ext;rw[if_pos au]
 have hIb:cG base (H s) o nx:=⟨hI.bz,ae,hb⟩
 refine mZ (hR ⟨t,q,b⟩ zY _ s iq _ _ (hIb.aD (i:=nx) (m:=nx+4) ae ae ae rfl) _ _ fun o2 n2 m1 m2 m3=> ?_)
 have k0:o2 nx= .row (Sp.mk t q b).row:=by rw[m3 nx (by omega) (by omega),af]
 have hold:∀id,base<=id->id<nx->o2 id=o id:=fun id h1 h2=>by rw[m3 id h1 (by omega),ah _ _ _ _ (by omega)]
 have Cv:∀id,base<=id->id<c->o id=o0 id:=fun id h1 h2=>by rw[hI.eq id h2];unfold ext;rw[if_neg (by omega)]
 cases BF:(step s ⟨t,q,b⟩).2 with
 |false=>
  refine gX BF ?_
  have w7:aq step s (ll t q b)=((step s ⟨t,q,b⟩).1,false):=by rw[sd,aq,if_neg (by rw[BF];exact Bool.false_ne_true)]
  rw[w7]at hK
  refine hK _ _ ae ⟨m2.bz.mono ae,ae,fun id au=> ?_⟩ (fun id h1 h2=>hold id ae h2)
  unfold ext
  split
  ·exact m2.eq id oX
  ·exact HT
 |true=>
  have w7:aq step s (ll t q b)=aq step (step s ⟨t,q,b⟩).1 (jb t.kids 0 q (rl t.op b)):=by rw[sd,aq,if_pos BF]
  have q0:o2 yb= .row [.iW m4]:=by rw[hold yb LG (by omega),Nd]
  have q1:o2 vb= .row [.func (.func 102) [] [.ptr yb 0, .ptr vb 0]]:=by rw[hold vb LH (by omega),Nf]
  simp+contextual (disch:=first|omega|simp only[go_sem,false_implies]) only[go_sem,wrap64,if_pos,BF,k0,q1]
  have ID:nx+4<=n2:=m1
  refine aB (fun i:Nat×σ×(Nat->ab)×Nat=>⟨a7 [.aa, .ptr yb 0, .ptr vb 0, .ptr nx 0, .aa, .aa, .aa, .aa, .aa, .aa, .aa, .aa, .aa, .d (.sl (t.kids.map Tm.d)), .d (.i t.kids.length), .d (.i i.1)],i.2.2.1,i.2.2.2⟩)
   (fun i=>i.1<=t.kids.length/\cG base (H i.2.1) i.2.2.1 i.2.2.2/\nx<i.2.2.2/\i.2.2.1 nx= .row (Sp.mk t q b).row/\(∀id,base<=id->id<nx->i.2.2.1 id=o id)/\aq step (step s ⟨t,q,b⟩).1 (jb t.kids 0 q (rl t.op b))=aq step i.2.1 (jb (t.kids.drop i.1) i.1 q (rl t.op b))/\ok (jb (t.kids.drop i.1) i.1 q (rl t.op b)++rest) i.2.1) (fun i=>t.kids.length - i.1) (0,(step s ⟨t,q,b⟩).1,o2,n2)
   ⟨Nat.zero_le _,m2.mono (Nat.le_refl _),(show nx<n2 from ae),k0,fun id h1 h2=>hold id h1 h2,rfl,aS _ _ s iq BF⟩ ?_ ?_
  ·dsimp only
   refine br.aR _ (show nx<=n2 from ae) ae m2.bz (fun _ _=>rfl) ?_
   exact ct
  rintro⟨k,s',o',n'⟩ ⟨hk,sH,hn,bE,cL,zG,hY⟩
  simp only at hk sH hn bE cL zG hY
  have hg:Good o' n':=sH.bz
  have z1:∀k,yb≠n'+k:=fun k=>ae
  have z2:yb≠n':=ae
  have z3:∀k,vb≠n'+k:=fun k=>ae
  have z4:vb≠n':=ae
  have z5:∀k,nx≠n'+k:=fun k=>ae
  have z6:nx≠n':=ae
  have zq:o' vb= .row [.func (.func 102) [] [.ptr yb 0, .ptr vb 0]]:=by rw[cL vb LH (by omega),Nf]
  have zr:o' yb= .row [.iW m4]:=by rw[cL yb LG (by omega),Nd]
  have QN:=nX.1
  refine aY ?_
  refine ai (fun h1=> ?_) (fun h1=> ?_)
  ·simp at h1
   obtain⟨x,hx⟩:=aL h1
   have iK:=List.mem_of_getElem? hx
   have hd:t.kids.drop k=x::t.kids.drop (k+1):=by
    exact Vj
   rw[hd,rp,xo]at zG
   rw[hd,rp,List.append_assoc]at hY
   have hh:=Tm.pP iK
   have jP:∀y∈ll x (q++[(k:Int)]) (rl t.op b),y∈ll t q b:=fun y hy=>by
    rw[sd]
    refine List.mem_cons_of_mem _ ?_
    rw[show t.kids=t.kids.take k++(x::t.kids.drop (k+1)) by rw[<- hd,List.take_append_drop],r9,rp]
    have cm:(t.kids.take k).length=k:=by rw[List.length_take];omega
    rw[cm,Int.zero_add]
    simp[hy]
   simp+contextual (disch:=first|omega|simp only[go_sem,false_implies]) only[go_sem,wrap64,if_pos,hx,Nat.add_assoc,Nat.left_eq_add,Nat.add_eq_left,Nat.add_left_cancel_iff,bE,zq,zr,z1,z2,z3,z4,z5,z6]
   refine Dd (m:=23) bO ag ?_
   simp+contextual (disch:=first|omega|simp only[go_sem,false_implies]) only[go_sem,wrap64,if_pos,Nat.add_assoc,Nat.left_eq_add,Nat.add_eq_left,Nat.add_left_cancel_iff,bE,zq,zr,z1,z2,z3,z4,z5,z6]
   refine qU rfl (uR q ae _ _) ?_
   have se:(b=false/\(t.op !=3)=(t.op !=3)/\rl t.op b=false)\/(b=true/\(t.op !=3)=false/\rl t.op b=false)\/(b=true/\(t.op !=3)=true/\rl t.op b=(t.op !=5)):=by
    unfold rl
    cases b<;>cases h3:(t.op !=3)<;>simp
   have fin:∀bb:Bool,(∀y∈ll x (q++[(k:Int)]) bb,y∈ll t q b)->ok (ll x (q++[(k:Int)]) bb++(jb (t.kids.drop (k+1)) (k+1) q (rl t.op b)++rest)) s'->∀O:Nat->ab,cG base (H s') O (n'+30)->(∀id,base<=id->id<=nx->O id=o' id)->∀KK XX:V->(Nat->ab)->Nat->Prop,
    (∀o5 n5,n'+30<=n5->cG base (H (aq step s' (ll x (q++[(k:Int)]) bb)).1) o5 n5->(∀id,base<=id->id<=nx->o5 id=o' id)->KK (.d (.bool (aq step s' (ll x (q++[(k:Int)]) bb)).2)) o5 n5)->
    cX Tryz.prog 102 [.d (Sp.mk x (q++[(k:Int)]) bb).d, .ptr yb 0, .ptr vb 0] O (n'+30) KK XX:=by
    intro bb jP adp O hIO hO KK XX hKK
    refine ih x iK (nX.2 x iK) (q++[(k:Int)]) bb oW (fun y hy=>hR y (jP y hy)) uJ (n'+30) O yb vb ae LG ae LH ae (by rw[hO yb LG (by omega),zr]) (by rw[hO vb LH (by omega),zq]) _ s' adp O (n'+30) (hIO.ext (Nat.le_refl _) ae) KK XX fun o5 n5 p1 p2 p3=>hKK o5 n5 p1 ⟨p2.bz,ae,fun id au=> ?_⟩ fun id g1 g2=> ?_
    ·rw[p2.eq id (by omega)];unfold ext;rw[if_pos au]
    ·rw[p2.eq id (by omega)];unfold ext;rw[if_neg (by omega),hO id g1 g2]
   rcases se with⟨QR,h3,se⟩|⟨QR,h3,se⟩|⟨QR,h3,se⟩
   all_goals rw[se]at zG jP fin hY
   ·simp+contextual (disch:=first|omega|simp only[go_sem,false_implies]) only[go_sem,wrap64,if_pos,Nat.add_assoc,Nat.left_eq_add,Nat.add_eq_left,Nat.add_left_cancel_iff,bE,zq,zr,z1,z2,z3,z4,z5,z6,QR]
    refine mM (eF (ids:=[vb,nx]) (nx:=n'+4) oW oW [([0],[]),([2],[]),([1],[]),([1],[]),([],[9]),([],[]),([],[11]),([9,11],[9]),([1],[]),([1],[]),([],[]),([],[]),([],[]),([],[]),([],[]),([],[]),([],[]),([],[]),([],[]),([],[]),([],[]),([],[]),([],[])] bO) ?_
    dsimp only[List.drop]
    simp+contextual (disch:=first|omega|simp only[go_sem,false_implies]) only[go_sem,wrap64,if_pos,Nat.add_assoc,Nat.left_eq_add,Nat.add_eq_left,Nat.add_left_cancel_iff,bE,zq,zr,z1,z2,z3,z4,z5,z6,QR]
    refine bd (cX.qh (d:=(Sp.mk x (q++[(k:Int)]) false).d) ?_ (fin _ jP hY _ ⟨?_,ae,fun id au=> ?_⟩ (fun id g1 g2=> ?_) _ _ fun o5 n5 p1 p2 p3=> ?_))
    ·refine aY ?_
     simp
    ·refine aY ?_
     exact ff
    ·refine aY ?_
     (repeat(first|rfl|rw[af]|rw[ah _ _ _ _ (by omega)]))
     exact sH.eq id au
    ·exact vP
    cases hr:(aq step s' (ll x (q++[(k:Int)]) false)).2 with
    |false=>
     rw[hr,if_neg Bool.false_ne_true]at zG
     refine aY ?_
     rw[w7,se,zG,hr]at hK
     refine hK _ _ ae ⟨p2.bz.mono ae,ae,fun id au=> ?_⟩ (fun id g1 g2=>(p3 id ae ae).trans (cL id ae g2))
     unfold ext
     split
     ·exact p2.eq id oX
     ·exact Rf
    |true=>
     exact zw2
   ·simp+contextual (disch:=first|omega|simp only[go_sem,false_implies]) only[go_sem,wrap64,if_pos,Nat.add_assoc,Nat.left_eq_add,Nat.add_eq_left,Nat.add_left_cancel_iff,bE,zq,zr,z1,z2,z3,z4,z5,z6,QR,h3]
    refine mM (eF (ids:=[vb,nx]) (nx:=n'+4) oW oW [([0],[]),([2],[]),([1],[]),([1],[]),([],[9]),([],[]),([],[11]),([9,11],[9]),([1],[]),([1],[]),([],[]),([1],[]),([1],[]),([1],[]),([],[]),([],[]),([],[]),([],[]),([],[]),([],[]),([],[]),([],[]),([],[])] bO) ?_
    dsimp only[List.drop]
    simp+contextual (disch:=first|omega|simp only[go_sem,false_implies]) only[go_sem,wrap64,if_pos,Nat.add_assoc,Nat.left_eq_add,Nat.add_eq_left,Nat.add_left_cancel_iff,bE,zq,zr,z1,z2,z3,z4,z5,z6,QR,h3]
    refine bd (cX.qh (d:=(Sp.mk x (q++[(k:Int)]) false).d) ?_ (fin _ jP hY _ ⟨?_,ae,fun id au=> ?_⟩ (fun id g1 g2=> ?_) _ _ fun o5 n5 p1 p2 p3=> ?_))
    ·refine aY ?_
     simp
    ·refine aY ?_
     exact ff
    ·refine aY ?_
     (repeat(first|rfl|rw[af]|rw[ah _ _ _ _ (by omega)]))
     exact sH.eq id au
    ·exact vP
    cases hr:(aq step s' (ll x (q++[(k:Int)]) false)).2 with
    |false=>
     rw[hr,if_neg Bool.false_ne_true]at zG
     refine aY ?_
     rw[w7,se,zG,hr]at hK
     refine hK _ _ ae ⟨p2.bz.mono ae,ae,fun id au=> ?_⟩ (fun id g1 g2=>(p3 id ae ae).trans (cL id ae g2))
     unfold ext
     split
     ·exact p2.eq id oX
     ·exact Rf
    |true=>
     exact zw2
   ·simp+contextual (disch:=first|omega|simp only[go_sem,false_implies]) only[go_sem,wrap64,if_pos,Nat.add_assoc,Nat.left_eq_add,Nat.add_eq_left,Nat.add_left_cancel_iff,bE,zq,zr,z1,z2,z3,z4,z5,z6,QR,h3]
    refine mM (eF (ids:=[vb,nx]) (nx:=n'+4) oW oW [([0],[]),([2],[]),([1],[]),([1],[]),([],[9]),([],[]),([],[11]),([9,11],[9]),([1],[]),([1],[]),([],[]),([1],[]),([1],[]),([1],[]),([],[]),([],[]),([],[]),([1],[]),([1],[]),([1],[]),([],[]),([],[]),([],[])] bO) ?_
    dsimp only[List.drop]
    simp+contextual (disch:=first|omega|simp only[go_sem,false_implies]) only[go_sem,wrap64,if_pos,Nat.add_assoc,Nat.left_eq_add,Nat.add_eq_left,Nat.add_left_cancel_iff,bE,zq,zr,z1,z2,z3,z4,z5,z6,QR,h3]
    refine bd (cX.qh (d:=(Sp.mk x (q++[(k:Int)]) (t.op !=5)).d) ?_ (fin _ jP hY _ ⟨?_,ae,fun id au=> ?_⟩ (fun id g1 g2=> ?_) _ _ fun o5 n5 p1 p2 p3=> ?_))
    ·refine aY ?_
     simp
    ·refine aY ?_
     exact ff
    ·refine aY ?_
     (repeat(first|rfl|rw[af]|rw[ah _ _ _ _ (by omega)]))
     exact sH.eq id au
    ·exact vP
    cases hr:(aq step s' (ll x (q++[(k:Int)]) (t.op !=5))).2 with
    |false=>
     rw[hr,if_neg Bool.false_ne_true]at zG
     refine aY ?_
     rw[w7,se,zG,hr]at hK
     refine hK _ _ ae ⟨p2.bz.mono ae,ae,fun id au=> ?_⟩ (fun id g1 g2=>(p3 id ae ae).trans (cL id ae g2))
     unfold ext
     split
     ·exact p2.eq id oX
     ·exact Rf
    |true=>
     rw[hr,if_pos rfl]at zG
     refine aY ?_
     refine aj (k+1,(aq step s' (ll x (q++[(k:Int)]) (t.op !=5))).1,o5,n5+1+1) ⟨h1,p2.mono (show n5<=n5+1+1 from ae),(show nx<n5+1+1 from ae),by dsimp only;rw[p3 nx (by omega) (Nat.le_refl _),bE],fun id i1 i2=>(p3 id i1 ae).trans (cL id i1 i2),by dsimp only;rw[se];exact zG,by dsimp only;rw[se];exact qt step ok aS _ _ s' hY hr⟩ jO (br.aR _ (show nx<=n5+1+1 from ae) jO (p2.mono (show n5<=n5+1+1 from ae)).bz (fun _ _=>rfl) ?_)
     exact ct
  ·simp at h1
   refine aY ?_
   rw[List.drop_eq_nil_of_le h1]at zG
   rw[w7]at hK
   have cu:aq step s' (jb [] k q (rl t.op b))=(s',true):=by simp[jb,aq]
   rw[cu]at zG
   rw[zG]at hK
   refine hK _ _ ae ⟨sH.bz.mono ae,ae,fun id au=> ?_⟩ (fun id g1 g2=>cL id ae g2)
   unfold ext
   split
   ·exact sH.eq id oX
   ·rw[cL id (by omega) (by omega),Cv id (by omega) au]
theorem K7(t:Tm)(hf:t.fits)(hqh:t.mN<=1000000)(aS:∀x r s,ok (x::r) s->(step s x).2=true->ok r (step s x).1)(hR:∀x∈ll t [] true,∀r s,ok (x::r) s->Wk Tryz.prog m4 [.d x.d] base (H s) (H (step s x).1) (.d (.bool (step s x).2)))(uJ:m4<base)(tb:Nat)(zF:tb<base)(s:σ)(iq:ok (ll t [] true) s)(bE:H s tb= .row t.row):
 iN Tryz.prog 101 [.iW m4, .ptr tb 0] base (H s) (H (aq step s (ll t [] true)).1) (.bT []):=by
 intro o nx hI K X hK
 have hle:=hI.le
 have ot:o tb= .row t.row:=by rw[hI.eq tb zF,bE]
 have y1:tb≠nx:=ae
 have y2:∀k,tb≠nx+k:=fun k=>ae
 refine cX.aF mix PT aJ ?_
 rw[Ty]
 refine Q8 ot y1 y2 ?_
 have hI1:cG base (H s) (aD (aD (aD o nx (.row [.iW m4])) (nx+1) (.row [.d .bZ])) (nx+1) (.row [.func (.func 102) [] [.ptr nx 0, .ptr (nx+1) 0]])) (nx+7):=by
  refine((hI.aD (i:=nx) (m:=nx+7) ae ae ae ?_).aD (i:=nx+1) (m:=nx+7) ae ae ae rfl).aD (i:=nx+1) ae ae ae ?_
  ·exact H8
  ·exact xB
 refine bd (cX.qh (d:=(Sp.mk t [] true).d) ?_ (Hj base m4 H step ok aS t hf [] true (by simpa using hqh) hR uJ (nx+7) _ nx (nx+1) ae hle ae ae ae ?_ ?_ [] s (by rw[List.append_nil];exact iq) _ _ (hI1.ext (Nat.le_refl _) ae) _ _ ?_))
 ·rfl
 ·exact gY
 ·exact gY
 intro o2 n2 m1 m2 m3
 refine cI ?_
 refine hK _ _ ae ⟨m2.bz,ae,fun id au=> ?_⟩ (fun id h1 h2=> ?_)
 ·exact FN
 ·exact RN
end
theorem B9(t:Tm)(o:Nat->ab)(nx:Nat)(K X:V->(Nat->ab)->Nat->Prop)(h:K (.func (.func 101) [] [.ptr nx 0]) (aD o nx (.row t.row)) (nx+4)):cX Tryz.prog 72 [.d t.d] o nx K X:=by
 refine cX.aF mix ZK aJ ?_
 rw[c72]
 refine cI ?_
 exact h
def vM{σ:Type}(J:σ->Option jL)(step:σ->Sp->σ)(s:σ)(x:Sp):σ×Bool:=(step s x,(J (step s x)).isNone)
theorem sb{σ:Type}(t:Tm)(hf:t.fits)(hqh:t.mN<=1000000){n bq:Nat}{gq:Operand}{ps:List Nat}{jn fl:IC}{Q:fL->S->Prop}{e:Nat->V}{o:Nat->ab}{nx tb:Nat}(env:List V)(he:lV e env 0)
 (vE:ps.all (fun t=>decide (t<n))=true) (hl:ps.length=1) (hg:Good o nx) (hrefs:∀r∈V.aE env,r<nx) (ht:o tb= .row t.row)
 (G:σ->Nat->ab) (J:σ->Option jL) (step:σ->Sp->σ) (ok:List Sp->σ->Prop) (s0:σ) (iq:ok (ll t [] true) s0) (Vh:J s0=none) (h0:∀id,id<nx->o id=G s0 id) (aS:∀x r s,ok (x::r) s->J s=none->J (step s x)=none->ok r (step s x))
 (oB:∀L,gV Tryz.prog n env ps jn fl L->(∀st pd m,nx<=m->(L st pd).refs.all (fun r=>decide (r<m))=true)->∀x∈ll t [] true,∀r s,ok (x::r) s->J s=none->∀o3 n3,cG nx (G s) o3 n3->nx<n3->o3 nx=L .ready none->∀K X,
  (∀e' o' n' st pd,n3<=n'->cG nx (G (step s x)) o' n'->o' nx=L st pd->(∀id,nx<id->id<n3->o' id=o3 id)->jD nx K X (Ke (J (step s x))) ⟨e',o',n'⟩)->
  lJ Tryz.prog n n3 true jn (oG Tryz.prog n n3 nx fl K X) ⟨mJ (a7 env) ps [.d x.d],o3,n3⟩)
 (gC:∀o' n',cG nx (G (aq (vM J step) s0 (ll t [] true)).1) o' n'->oA Q (J (aq (vM J step) s0 (ll t [] true)).1) ⟨e,o',n'⟩):
 yw Tryz.prog n bq false gq ps jn fl Q ⟨e,o,nx⟩ (.func (.func 101) [] [.ptr tb 0]):=by
 refine Dq env he (fun L hL=> ?_)
 have zF:tb<nx:=hg.lt Io
 let H:σ->Nat->ab:=fun s id=>if id<nx then G s id else if id=nx then(match J s with|none=>L .ready none|some j=>L .done (some j))else .no
 have FO:∀s id,id<nx->H s id=G s id:=fun s id h=>if_pos h
 have Lt:∀s,J s=none->H s nx=L .ready none:=fun s h=>by show(if nx<nx then _ else _)=_;rw[if_neg (by omega),if_pos rfl,h]
 have Rn:∀s j,J s=some j->H s nx=L .done (some j):=fun s j h=>by show(if nx<nx then _ else _)=_;rw[if_neg (by omega),if_pos rfl,h]
 have vR:∀st pd m,nx<=m->(L st pd).refs.all (fun r=>decide (r<m))=true:=fun st pd m hm=>by
  exact RJ
 refine K7 (nx+1) nx H (vM J step) (fun l s=>ok l s/\J s=none) t hf hqh (fun x r s h1 h2=> ?_) (fun x hx r s h1=> ?_) ae tb ae s0 ⟨iq,Vh⟩ Il _ _ ⟨?_,Nat.le_refl _,fun id au=> ?_⟩ _ _ ?_
 ·have hj:J (step s x)=none:=by simpa[vM]using h2
  exact⟨aS x r s h1.1 h1.2 hj,hj⟩
 ·intro o3 n3 hI K X hK
  have hle:=hI.le
  have HH:o3 nx=L .ready none:=by rw[hI.eq nx (by omega),Lt s h1.2]
  refine uG hL mix HH ae vE (by simp[hl]) ?_
  refine oB L hL vR x hx r s h1.1 h1.2 o3 n3 ⟨hI.bz,ae,fun id au=>by rw[hI.eq id (by omega),FO _ _ au]⟩ ae HH K X (fun e' o' n' st pd k1 k2 k3 k4=> ?_)
  have key:∀st' pd' b,(J (step s x)).isNone=b->H (step s x) nx=L st' pd'->K (.d (.bool b)) (aD o' nx (L st' pd')) n':=fun st' pd' b hb hh=>by
   subst hb
   refine hK _ _ k1 ⟨k2.bz.aD ae (vR _ _ _ ae),ae,fun id au=> ?_⟩ (fun id g1 g2=> ?_)
   ·by_cases tc:id=nx
    ·exact H9
    ·rw[ah _ _ _ _ tc]
     show o' id=H (step s x) id
     exact HZ
   ·exact Ru
  cases hj:J (step s x)with
  |none=>exact Rq
  |some j=>
   cases j with
   |ret=>exact Ro
   |exit j=>exact Rm
 ·exact Rp
 ·by_cases tc:id=nx
  ·exact Ie
  ·exact Rj
 ·intro o' n' k1 k2 k3
  have hle:=k2.le
  generalize hsf:(aq (vM J step) s0 (ll t [] true)).1=sf at*
  have kk:∀st pd,cG nx (G sf) (aD o' nx (L st pd)) n':=fun st pd=>⟨k2.bz.aD ae (vR _ _ _ ae),ae,fun id au=>by rw[ah _ _ _ _ (by omega),k2.eq id (by omega),FO _ _ au]⟩
  cases hj:J sf with
  |none=>
   refine⟨.ready,none,by rw[k2.eq nx (by omega),Lt _ hj],(fun h=>by cases h), ?_⟩
   have:=gC _ _ (kk .exhausted none)
   rwa [hj]at this
  |some j=>
   refine⟨.done,some j,by rw[k2.eq nx (by omega),Rn _ _ hj],(fun h=>by cases h), ?_⟩
   have:=gC _ _ (kk .exhausted (some j))
   rwa [hj]at this
end
theorem ta{c:Nat}{G:List Gr}{so:Nat->ab}{gone:Nat->Prop}{x x' y y':ab}(h:x=y)(h':x'=y')(hs:uE c G so gone y y'):uE c G so gone x x':=by rw[h,h'];exact hs
@[reducible] def jT (B:Nat->ab) (r c:Nat) (ds:List D) (ty sz:Nat) (es:List D):Nat->ab:=aD (aD B r (.row (ds.map .d++[.osl c 0]))) c (.arr 0 ty sz es)
theorem zu{c:Nat}{G:List Gr}{so:Nat->ab}{gone:Nat->Prop}{l l':List V}:∀ds:List D,uD c G so gone l l'->uD c G so gone (ds.map .d++l) (ds.map .d++l')
 |[],h=>h
 |d::ds,h=>Uh (zu ds h)
theorem zw(B:Nat->ab)(r c:Nat)(ds:List D)(ty sz:Nat)(es:List D):jT B r c ds ty sz es c= .arr 0 ty sz es:=af _ _ _
theorem zx(B:Nat->ab){r c:Nat}(h:r<c)(ds:List D)(ty sz:Nat)(es:List D):jT B r c ds ty sz es r= .row (ds.map .d++[.osl c 0]):=(ah _ _ _ _ ae).trans (af _ _ _)
theorem DU(B:Nat->ab){r c j:Nat}(h:j≠r)(h2:j≠c)(ds:List D)(ty sz:Nat)(es:List D):jT B r c ds ty sz es j=B j:=(ah _ _ _ _ h2).trans (ah _ _ _ _ h)
theorem xp{B:Nat->ab}{r c:Nat}{ds:List D}{ty sz:Nat}{e:Nat->V}{so:Nat->ab}{m:Nat}(l:List V)(hg:Good B c)(oP:∀j,c<=j->B j= .no)(hr:r<c)(ho:∀j,j<c->j≠r->so j=B j)(bE:so r= .row (ds.map .d++[.bu]))(dA:0<sz)
 (he:l4 c [⟨.bu,ty,sz,[]⟩] so (fun _=>False) e l 0):br 0 ⟨e,so,m⟩ ⟨a7 l,jT B r c ds ty sz [],c+1⟩:=by
 refine br.Dp (fun _=>False) .bu c _ ae (fun j hj=> ?_) (zw _ _ _ _ _ _ _) (.inl ⟨rfl,rfl,dA⟩) (fun j hj=> ?_) (fun _ h=>h.elim) he
 ·by_cases e1:j=r
  ·subst e1
   exact ta (y:= .row (ds.map .d++[.bu])) bE (zx B hr ds ty sz _) (Bw rfl (zu ds (J1 (g:=⟨.bu,ty,sz,[]⟩) 0 rfl rfl rfl Bv)))
  ·exact WU
 ·exact Oe
theorem Ca{B:Nat->ab}{r c ep:Nat}{ds:List D}{ty sz:Nat}{es:List D}{e:Nat->V}{so:Nat->ab}{m:Nat}(l:List V)(hg:Good B c)(oP:∀j,c<=j->B j= .no)(hr:r<c)(ho:∀j,j<c->j≠r->so j=B j)(bE:so r= .row (ds.map .d++[.osl c ep]))(cV:so c= .arr ep ty sz es)
 (he:l4 c [⟨.osl c ep,ty,sz,es⟩] so (fun j=>j=c) e l 0):br 0 ⟨e,so,m⟩ ⟨a7 l,jT B r c ds ty sz es,c+1⟩:=by
 refine br.Dp (fun j=>j=c) (.osl c ep) c _ ae (fun j hj=> ?_) (zw _ _ _ _ _ _ _) (.inr ⟨c,ep,rfl,rfl,cV⟩) (fun j hj=> ?_) (fun j h h2=>ae) he
 ·by_cases e1:j=r
  ·subst e1
   exact ta (y:= .row (ds.map .d++[.osl c ep])) bE (zx B hr ds ty sz _) (Bw rfl (zu ds (J1 (g:=⟨.osl c ep,ty,sz,es⟩) 0 rfl rfl rfl Bv)))
  ·exact WU
 ·exact Oe
end Go.Proofs.YtnkamdiiakdkgaaGreat
section
namespace Go.Proofs.YtnkamdiiakdkgaaGreat
open Go.Shelf
def Cb:Go.Shelf.Ren:=⟨fun|189=>73|125=>104|257=>103|128=>147|129=>148|294=>138|295=>139|296=>140|297=>141|298=>142|299=>143|216=>144|300=>145|301=>146|328=>164|329=>165|330=>166|331=>167|332=>168|215=>169|343=>180|n=>n,fun|28=>37|3=>3|46=>144|0=>0|51=>186|53=>188|4=>4|183=>178|182=>177|131=>183|5=>5|9=>9|218=>205|222=>209|228=>211|229=>212|n=>n,fun|n=>n⟩
theorem Fo:Go.Proofs.Lays.n189 Tryz.prog Cb:={
 mixed:=ag
 f125:=Tryz.func104.trans (congrArg some ag)
 f128:=Tryz.func147.trans (congrArg some ag)
 f129:=Tryz.func148.trans (congrArg some ag)
 f189:=Tryz.func73.trans (congrArg some ag)
 f215:=Tryz.func169.trans (congrArg some ag)
 f216:=Tryz.func144.trans (congrArg some ag)
 f257:=Tryz.func103.trans (congrArg some ag)
 f294:=Tryz.func138.trans (congrArg some ag)
 f295:=Tryz.func139.trans (congrArg some ag)
 f296:=Tryz.func140.trans (congrArg some ag)
 f297:=Tryz.func141.trans (congrArg some ag)
 f298:=Tryz.func142.trans (congrArg some ag)
 f299:=Tryz.func143.trans (congrArg some ag)
 f300:=Tryz.func145.trans (congrArg some ag)
 f301:=Tryz.func146.trans (congrArg some ag)
 f328:=Tryz.func164.trans (congrArg some ag)
 f329:=Tryz.func165.trans (congrArg some ag)
 f330:=Tryz.func166.trans (congrArg some ag)
 f331:=Tryz.func167.trans (congrArg some ag)
 f332:=Tryz.func168.trans (congrArg some ag)
 f343:=Tryz.func180.trans (congrArg some ag)
 t0:=Tryz.underlying0
 a0:=Tryz.isAgg0
 z0:=Tryz.sizeOf0
 v0:=Tryz.zeroValue0
 t3:=Tryz.underlying3
 a3:=Tryz.isAgg3
 z3:=Tryz.sizeOf3
 v3:=Tryz.zeroValue3
 t4:=Tryz.underlying4
 a4:=Tryz.isAgg4
 z4:=Tryz.sizeOf4
 v4:=Tryz.zeroValue4
 t5:=Tryz.underlying5
 a5:=Tryz.isAgg5
 z5:=Tryz.sizeOf5
 v5:=Tryz.zeroValue5
 t9:=Tryz.underlying9
 a9:=Tryz.isAgg9
 z9:=Tryz.sizeOf9
 v9:=Tryz.zeroValue9
 t28:=Tryz.underlying37
 a28:=Tryz.isAgg37
 z28:=Tryz.sizeOf37
 v28:=Tryz.zeroValue37
 t46:=Tryz.underlying144
 a46:=Tryz.isAgg144
 z46:=Tryz.sizeOf144
 v46:=Tryz.zeroValue144
 t51:=Tryz.underlying186
 a51:=Tryz.isAgg186
 z51:=Tryz.sizeOf186
 v51:=Tryz.zeroValue186
 t53:=Tryz.underlying188
 a53:=Tryz.isAgg188
 z53:=Tryz.sizeOf188
 v53:=Tryz.zeroValue188
 t131:=Tryz.underlying183
 a131:=Tryz.isAgg183
 z131:=Tryz.sizeOf183
 v131:=Tryz.zeroValue183
 t182:=Tryz.underlying177
 a182:=Tryz.isAgg177
 z182:=Tryz.sizeOf177
 v182:=Tryz.zeroValue177
 t183:=Tryz.underlying178
 a183:=Tryz.isAgg178
 z183:=Tryz.sizeOf178
 v183:=Tryz.zeroValue178
 t218:=Tryz.underlying205
 a218:=Tryz.isAgg205
 z218:=Tryz.sizeOf205
 v218:=Tryz.zeroValue205
 t222:=Tryz.underlying209
 a222:=Tryz.isAgg209
 z222:=Tryz.sizeOf209
 v222:=Tryz.zeroValue209
 t228:=Tryz.underlying211
 a228:=Tryz.isAgg211
 z228:=Tryz.sizeOf211
 v228:=Tryz.zeroValue211
 t229:=Tryz.underlying212
 a229:=Tryz.isAgg212
 z229:=Tryz.sizeOf212
 v229:=Tryz.zeroValue212}
theorem Hk:B4 Tryz.prog 73:=fun de off cap zs w h1 h2 h3=>Any.slices_Sort_int Fo de off cap zs w h1 h2 h3
theorem Hl:∀ (p:Option Addr) (cap:Nat) (w:World),Calls Tryz.prog 73 #[.slice p 0 cap] w fun e w'=>e= .returned (.tuple #[])/\w'=w:=fun p cap w=>Any.slices_Sort_int_none Fo p cap w
theorem Cc:Enters Tryz.prog 73:=⟨_,Tryz.func73,ag,ag⟩
def Cd:Go.Shelf.Ren:=⟨fun|20=>74|n=>n,fun|22=>37|3=>3|4=>4|0=>0|n=>n,fun|n=>n⟩
theorem Fq:Go.Proofs.Lays2.n20 Tryz.prog Cd:={
 mixed:=ag
 f20:=Tryz.func74.trans (congrArg some ag)
 t0:=Tryz.underlying0
 a0:=Tryz.isAgg0
 z0:=Tryz.sizeOf0
 v0:=Tryz.zeroValue0
 t3:=Tryz.underlying3
 a3:=Tryz.isAgg3
 z3:=Tryz.sizeOf3
 v3:=Tryz.zeroValue3
 t4:=Tryz.underlying4
 a4:=Tryz.isAgg4
 z4:=Tryz.sizeOf4
 v4:=Tryz.zeroValue4
 t22:=Tryz.underlying37
 a22:=Tryz.isAgg37
 z22:=Tryz.sizeOf37
 v22:=Tryz.zeroValue37
 i3:=by kernel_rfl}
theorem zy:na Tryz.prog 74:=fun de off cap zs w h1 h2 h3=>Any.slices_Compact_int Fq de off cap zs w h1 h2 h3
theorem zA:∀ (p:Option Addr) (cap:Nat) (w:World),Calls Tryz.prog 74 #[.slice p 0 cap] w fun e w'=>e= .returned (.slice p 0 cap)/\w'=w:=fun p cap w=>Any.slices_Compact_int_empty Fq p cap w
theorem u7:Enters Tryz.prog 74:=⟨_,Tryz.func74,ag,ag⟩
end Go.Proofs.YtnkamdiiakdkgaaGreat
end
