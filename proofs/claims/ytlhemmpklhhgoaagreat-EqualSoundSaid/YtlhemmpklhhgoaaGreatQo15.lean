/-
  A PART OF THE PROOF. Conditions: none.
-/
import Derived.Test.YtlhemmpklhhgoaaGreatQo14
set_option linter.unusedSimpArgs false
set_option linter.unusedVariables false
namespace Go.Proofs.YtlhemmpklhhgoaaGreat
theorem EC{l:List dX}{n:Int}{x:dX}(h:l[n.toNat]? =some x):iM l n=x.args:=by simp[iM,h]
theorem GI{l:List dX}{n:Int}(h:dU n 0 (l.length - 1)=true):0<=n/\∃x,l[n.toNat]? =some x:=by
 simp[dU]at h
 exact⟨h.1,l[n.toNat]'af,aE⟩
theorem Yl(s:az)(t:Tm)(hs:s.Fits)(ht:t.kids.length<=9223372036854775807):aW Tryz.prog 127 [s.d,t.d] (.ret [.bool (bw s t)]):=by
 refine aW.aG mix adG aE ?_
 rw[adF]
 refine a7 ?_
 rcases(by omega:t.op=1\/t.op=2\/t.op=3\/t.op=4\/t.op=5\/t.op=8\/(t.op=6\/t.op=7\/t.op=9\/t.op=10\/t.op=11\/t.op=12\/t.op=13\/t.op=14\/t.op=15)\/(t.op<1\/15<t.op))with h|h|h|h|h|h|h|h
 ·have hn:bw s t=((t.kids.length:Int)==0&&dU t.n 0 19):=by simp[bw,h]
  refine kU h ?_
  refine iL (gH [.bool (dU t.n 0 19)] ?_ ?_)
  ·exact GM
  refine kU h ?_
  rw[hn]
 ·have hn:bw s t=((t.kids.length:Int)==0&&dU t.n (-1000000) 1000000):=by simp[bw,h]
  refine kU h ?_
  refine iL (gH [.bool (dU t.n (-1000000) 1000000)] ?_ ?_)
  ·exact GM
  refine kU h ?_
  rw[hn]
 ·have hn:bw s t=(dU t.n 0 (s.cons.length - 1)&&(t.kids.length:Int)==iM s.cons t.n):=by simp[bw,h]
  refine kU h ?_
  rw[wrap64 (by have:=hs.lc;omega) (by have:=hs.lc;omega)]
  refine aq (I1 _ _ _) rfl ?_
  cases hI:dU t.n 0 (s.cons.length - 1)with
  |false=>
   exact V5
  |true=>
   exact VU
 ·have hn:bw s t=(dU t.n 0 (s.bZ.length - 1)&&(t.kids.length:Int)==iM s.bZ t.n):=by simp[bw,h]
  refine kU h ?_
  rw[wrap64 (by have:=hs.lf;omega) (by have:=hs.lf;omega)]
  refine aq (I1 _ _ _) rfl ?_
  cases hI:dU t.n 0 (s.bZ.length - 1)with
  |false=>
   exact V5
  |true=>
   exact VU
 ·have hn:bw s t=(dU t.n 0 (s.bZ.length - 1)&&decide ((t.kids.length:Int)<iM s.bZ t.n)):=by simp[bw,h]
  refine kU h ?_
  rw[wrap64 (by have:=hs.lf;omega) (by have:=hs.lf;omega)]
  refine aq (I1 _ _ _) rfl ?_
  cases hI:dU t.n 0 (s.bZ.length - 1)with
  |false=>
   exact V5
  |true=>
   exact VU
 ·have hn:bw s t=((t.kids.length:Int)==2&&dU t.n 0 19):=by simp[bw,h]
  refine kU h ?_
  refine iL (gH [.bool (dU t.n 0 19)] ?_ ?_)
  ·exact GM
  refine kU h ?_
  rw[hn]
 ·have hn:bw s t=((t.kids.length:Int)==2&&t.n==0):=by
   rcases h with h|h|h|h|h|h|h|h|h<;>simp[bw,h,dU]
  rw[hn]
  rcases h with h|h|h|h|h|h|h|h|h<;>simp+contextual only[go_sem,h]
 ·have hn:bw s t=false:=by
   simp[bw,dU,show ¬ (t.op=1) by omega,show ¬ (t.op=2) by omega,show ¬ (t.op=3) by omega,show ¬ (t.op=4) by omega,show ¬ (t.op=5) by omega,show ¬ (t.op=8) by omega,show ¬ (6<=t.op/\t.op<=15) by omega]
  have e:∀k:Int,1<=k->k<=15->(t.op==k)=false:=fun k h1 h2=>by simp;omega
  simp+contextual only[go_sem,e 1 (by omega) (by omega),e 2 (by omega) (by omega),e 3 (by omega) (by omega),e 4 (by omega) (by omega),e 5 (by omega) (by omega),e 6 (by omega) (by omega),e 7 (by omega) (by omega),e 8 (by omega) (by omega),e 9 (by omega) (by omega),e 10 (by omega) (by omega),e 11 (by omega) (by omega),e 12 (by omega) (by omega),e 13 (by omega) (by omega),e 14 (by omega) (by omega),e 15 (by omega) (by omega)]
  rw[hn]
theorem lQ(s:az)(t:Tm):iN s t=(bw s t&&t.kids.all (iN s)):=by
 have:∀l:List Tm,uQ s l=l.all (iN s):=fun l=>by
  induction l with
  |nil=>rfl
  |cons k l ih=>simp[uQ,ih]
 cases t;simp[iN,this,Tm.kids]
theorem lR{α:Type}{l:List α}{p:α->Bool}{k:Nat}{x:α}(hx:l[k]? =some x)(h:p x=false):l.all p=false:=by
 rw[List.all_eq_false];exact⟨x,List.mem_of_getElem? hx,by rw[h];exact Bool.false_ne_true⟩
theorem nS{α:Type}{l:List α}{p:α->Bool}{k:Nat}{x:α}(hx:l[k]? =some x)(h0:(l.take k).all p=true)(h:p x=true):(l.take (k+1)).all p=true:=by
 rw[List.take_add_one,hx,List.all_append,h0];simp[h]
theorem nT{α:Type}{l:List α}{p:α->Bool}{k:Nat}(h0:(l.take k).all p=true)(h:l.length<=k):l.all p=true:=by
 rwa [List.take_of_length_le h]at h0
theorem aB{α:Type}{l:List α}{k:Nat}(h:k<l.length):∃x,l[k]? =some x:=⟨l[k],by simp[h]⟩
@[reducible] def az.row (s:az):List V:=[.d (.sl (s.cons.map dX.d)), .d (.sl (s.bZ.map dX.d))]
theorem QS(s:az)(hs:s.Fits):∀t:Tm,t.fits->aW Tryz.prog 94 [s.d,t.d] (.ret [.bool (iN s t)]):=by
 refine Tm.ek fun t ih hf=> ?_
 have xP:=(Tm.cj _).1 hf
 refine aW.aG mix agV aE ?_
 rw[c94]
 refine a7 ?_
 refine aq (Yl s t hs xP.1) rfl ?_
 refine a7 ?_
 rw[lQ]
 refine ak (fun h1=> ?_) (fun h1=> ?_)
 ·refine a7 ?_
  simp at h1;simp[h1]
 ·simp at h1
  rw[h1,Bool.true_and]
  refine a7 ?_
  refine aD (fun k:Nat=>⟨aX [.ab, .ab, .ptr 0 0, .ptr 1 0, .ab, .d (.i k)],FE s.row t.row,2⟩)
   (fun k=>k<=t.kids.length/\(t.kids.take k).all (iN s)=true) (fun k=>t.kids.length - k) 0 ⟨Nat.zero_le _,aE⟩ (bL.d2 _ (kR rfl rfl) af rfl rfl ?_) (fun k hk=> ?_)
  ·exact dT
  refine a7 ?_
  refine ak (fun h2=> ?_) (fun h2=> ?_)
  ·simp at h2
   obtain⟨x,hx⟩:=aB h2
   have cf:=List.mem_of_getElem? hx
   refine kU hx ?_
   refine aZ (ih x cf (xP.2 x cf)) rfl ?_
   refine a7 ?_
   refine aK bF ?_
   refine a7 ?_
   refine ak (fun h3=> ?_) (fun h3=> ?_)
   ·refine a7 ?_
    simp at h3
    rw[lR hx h3]
   ·refine a7 ?_
    simp at h3
    refine aj (k+1) ⟨h2,nS hx hk.2 h3⟩ af (bL.d2 _ (kR rfl rfl) af rfl rfl ?_)
    exact dT
  ·refine a7 ?_
   simp at h2
   rw[nT hk.2 h2]
theorem Ym(s:az)(hs:s.Fits)(t:Tm)(hf:t.fits):aW Tryz.prog 43 [s.d,t.d] (.ret [.bool (gI s t)]):=by
 refine aW.aG mix agz aE ?_
 rw[c43]
 refine a7 ?_
 refine aq (A6 t hf 40 12 af af) rfl ?_
 refine a7 ?_
 refine iL (gH [.bool (iN s t)] ?_ ?_)
 ·refine a7 ?_
  exact fun _=>QS s hs t hf
 refine a7 ?_
 rfl
theorem sX(t:Tm):ff t=(t.kids.all ff&&((decide (1<=t.op)&&decide (t.op<=3))||t.op==5)):=by
 have:∀l:List Tm,uR l=l.all ff:=fun l=>by
  induction l with
  |nil=>rfl
  |cons k l ih=>simp[uR,ih]
 cases t;simp only[ff,this,Tm.kids,Tm.op];rfl
theorem QU:∀t:Tm,t.fits->aW Tryz.prog 92 [t.d] (.ret [.bool (ff t)]):=by
 refine Tm.ek fun t ih hf=> ?_
 have xP:=(Tm.cj _).1 hf
 refine aW.aG mix agT aE ?_
 rw[c92,sX]
 refine a7 ?_
 refine aD (fun k:Nat=>⟨aX [.ab, .ptr 0 0, .ab, .d (.i k)],pX t.row,1⟩)
  (fun k=>k<=t.kids.length/\(t.kids.take k).all ff=true) (fun k=>t.kids.length - k) 0 ⟨Nat.zero_le _,aE⟩ (bL.d1 _ (cT rfl) af rfl ?_) (fun k hk=> ?_)
 ·exact dT
 refine a7 ?_
 refine ak (fun h2=> ?_) (fun h2=> ?_)
 ·simp at h2
  obtain⟨x,hx⟩:=aB h2
  have cf:=List.mem_of_getElem? hx
  refine kU hx ?_
  refine aq (ih x cf (xP.2 x cf)) rfl ?_
  refine a7 ?_
  refine ak (fun h3=> ?_) (fun h3=> ?_)
  ·refine a7 ?_
   simp at h3
   rw[lR hx h3];rfl
  ·refine a7 ?_
   simp at h3
   refine aj (k+1) ⟨h2,nS hx hk.2 h3⟩ af (bL.d1 _ (cT rfl) af rfl ?_)
   exact dT
 ·refine a7 ?_
  simp at h2
  rw[nT hk.2 h2];rfl
theorem iQ:∀l l':List Tm,l.length=l'.length->(iO l l'=true↔∀ (i:Nat) (x y:Tm),l[i]? =some x->l'[i]? =some y->gY x y=true)
 |[],l',_=>by simp[iO]
 |k::l,k'::l',h=>by
  simp only[iO,Bool.and_eq_true]
  rw[iQ l l' (by simpa using h)]
  constructor
  ·rintro⟨h1,h2⟩ i x y hx hy
   cases i with
   |zero=>simp at hx hy;subst hx;subst hy;exact h1
   |succ i=>exact h2 i x y yi (by simpa using hy)
  ·intro h3
   exact⟨h3 0 k k' rfl rfl,fun i x y hx hy=>h3 (i+1) x y yi (by simpa using hy)⟩
 |_::_,[],h=>by simp at h
theorem rk(a b:Tm):gY a b=(a.op==b.op&&a.n==b.n&&a.kids.length==b.kids.length&&iO a.kids b.kids):=by cases a;cases b;simp[gY,Tm.op,Tm.n,Tm.kids]
theorem wK:∀a:Tm,a.fits->∀b:Tm,b.fits->aW Tryz.prog 40 [a.d,b.d] (.ret [.bool (gY a b)]):=by
 refine Tm.ek fun t ih hf b hb=> ?_
 have xP:=(Tm.cj _).1 hf
 have EL:=(Tm.cj _).1 hb
 refine aW.aG mix ac7 aE ?_
 rw[c40,rk]
 refine a7 ?_
 refine ak (fun h1=> ?_) (fun h1=> ?_)
 ·refine a7 ?_
  have:(t.op==b.op&&t.n==b.n&&t.kids.length==b.kids.length)=false:=by
   rw[Bool.eq_false_iff]
   intro h
   simp at h
   simp[h]at h1
  rw[this];rfl
 ·have fh:t.op=b.op/\t.n=b.n/\t.kids.length=b.kids.length:=by
   simp at h1
   refine⟨h1.1.1,h1.1.2,by have:=h1.2;omega⟩
  rw[show(t.op==b.op&&t.n==b.n&&t.kids.length==b.kids.length)=true by simp[fh],Bool.true_and]
  have hl:=fh.2.2
  refine a7 ?_
  refine aD (fun k:Nat=>⟨aX [.ab, .ab, .ptr 0 0, .ptr 1 0, .ab, .d (.i k)],FE t.row b.row,2⟩)
   (fun k=>k<=t.kids.length/\∀i,i<k->∀x y,t.kids[i]? =some x->b.kids[i]? =some y->gY x y=true) (fun k=>t.kids.length - k) 0 ⟨Nat.zero_le _,fun i h=>af⟩ (bL.d2 _ (kR rfl rfl) af rfl rfl ?_) (fun k hk=> ?_)
  ·exact dT
  refine a7 ?_
  refine ak (fun h2=> ?_) (fun h2=> ?_)
  ·simp at h2
   obtain⟨x,hx⟩:=aB h2
   obtain⟨y,hy⟩:=aB (l:=b.kids) (k:=k) af
   have cf:=List.mem_of_getElem? hx
   have QV:=List.mem_of_getElem? hy
   simp+contextual only[go_sem,hx,hy]
   refine aZ (ih x cf (xP.2 x cf) y (EL.2 y QV)) rfl ?_
   refine a7 ?_
   refine aK bF ?_
   refine a7 ?_
   refine ak (fun h3=> ?_) (fun h3=> ?_)
   ·refine a7 ?_
    simp at h3
    have:iO t.kids b.kids=false:=by
     rw[Bool.eq_false_iff]
     intro h
     have:=(iQ _ _ hl).1 h k x y hx hy
     rw[h3]at this;cases this
    rw[this]
   ·refine a7 ?_
    simp at h3
    refine aj (k+1) ⟨h2,fun i hi u v hu hv=> ?_⟩ af (bL.d2 _ (kR rfl rfl) af rfl rfl ?_)
    ·by_cases e:i=k
     ·subst e
      rw[hx]at hu;rw[hy]at hv
      exact Sx
     ·exact hk.2 i af u v hu hv
    ·exact dT
  ·refine a7 ?_
   simp at h2
   have:iO t.kids b.kids=true:=(iQ _ _ hl).2 fun i x y hx hy=>hk.2 i (by have:=(List.getElem?_eq_some_iff.1 hx).1;omega) x y hx hy
   rw[this]
theorem rl(t:Tm)(hf:t.fits):aW Tryz.prog 61 [t.d] (.ret [.bool (gu t)]):=by
 refine aW.aG mix agG aE ?_
 rw[c61]
 refine a7 ?_
 refine aq (A6 t hf 50 14 af af) rfl ?_
 refine a7 ?_
 rfl
theorem wL(s:az)(hs:s.Fits):aW Tryz.prog 78 [s.d] (.ret [.bool (fD s)]):=by
 refine aW.aG mix agM aE ?_
 rw[c78]
 refine a7 ?_
 refine ak (fun h1=> ?_) (fun h1=> ?_)
 ·refine a7 ?_
  simp only[fD,h1];rfl
 ·have e:fD s=(gf s.cons&&gf s.bZ):=by simp only[fD,h1];rfl
  rw[e]
  simp at h1
  refine a7 ?_
  refine aD (fun k:Nat=>⟨aX [.ab, .ptr 0 0, .ab, .d (.i k)],pX s.row,1⟩)
   (fun k=>k<=s.cons.length/\gf (s.cons.take k)=true) (fun k=>s.cons.length - k) 0 ⟨Nat.zero_le _,by simp[gf]⟩ (bL.d1 _ (cT rfl) af rfl ?_) (fun k hk=> ?_)
  ·exact dT
  refine a7 ?_
  refine ak (fun h2=> ?_) (fun h2=> ?_)
  ·simp at h2
   obtain⟨x,hx⟩:=aB h2
   refine kU hx ?_
   refine ak (fun h3=> ?_) (fun h3=> ?_)
   ·refine a7 ?_
    rw[show gf s.cons=false from lR hx (by simpa using h3)];rfl
   ·refine a7 ?_
    refine aj (k+1) ⟨h2,nS hx hk.2 (by simpa using h3)⟩ af (bL.d1 _ (cT rfl) af rfl ?_)
    exact dT
  ·simp at h2
   rw[show gf s.cons=true from nT hk.2 h2,Bool.true_and]
   refine a7 ?_
   refine aD (fun k:Nat=>⟨aX [.ab, .ptr 0 0, .ab, .ab, .d (.i k)],pX s.row,1⟩)
    (fun k=>k<=s.bZ.length/\gf (s.bZ.take k)=true) (fun k=>s.bZ.length - k) 0 ⟨Nat.zero_le _,by simp[gf]⟩ (bL.d1 _ (cT rfl) af rfl ?_) (fun k hk=> ?_)
   ·exact dT
   refine a7 ?_
   refine ak (fun h4=> ?_) (fun h4=> ?_)
   ·simp at h4
    obtain⟨x,hx⟩:=aB h4
    refine kU hx ?_
    refine ak (fun h3=> ?_) (fun h3=> ?_)
    ·refine a7 ?_
     rw[show gf s.bZ=false from lR hx (by simpa using h3)]
    ·refine a7 ?_
     refine aj (k+1) ⟨h4,nS hx hk.2 (by simpa using h3)⟩ af (bL.d1 _ (cT rfl) af rfl ?_)
     exact dT
   ·simp at h4
    rw[show gf s.bZ=true from nT hk.2 h4]
    simp+contextual only[go_sem]
section
theorem Dx{σ:Type}(l:List Tm)(hl:l.length<=9223372036854775807)(g:Nat)(bR:List V)(base:Nat)(H:σ->Nat->ad)(step:σ->Tm->σ×Bool)(hc:∀r∈V.aL bR,r<base)(ok:σ->Prop)(aY:∀x∈l,∀s,ok s->(step s x).2=true->ok (step s x).1)
 (h:∀x∈l,∀s,ok s->wH Tryz.prog g (.d x.d::bR) base (H s) (H (step s x).1) (.d (.bool (step s x).2))) (s:σ) (oY:ok s):
 wH Tryz.prog 169 [.d (.sl (l.map Tm.d)), .func (.func g) [] bR] base (H s) (H (aQ step s l).1) (.d (.bool (aQ step s l).2)):=by
 intro o nx hI K X hK
 have dV:∀r∈V.aL bR,r<nx:=fun r hr=>Nat.lt_of_lt_of_le (hc r hr) hI.le
 refine bP.aG mix UL aE ?_
 rw[X0]
 refine a7 ?_
 refine aD (fun i:Nat×σ×(Nat->ad)×Nat=>⟨aX [.ab, .func (.func g) [] bR, .ab, .ab, .ab, .ab, .ab, .d (.sl (l.map Tm.d)), .d (.i l.length), .d (.i i.1)],i.2.2.1,i.2.2.2⟩)
  (fun i=>i.1<=l.length/\eS base (H i.2.1) i.2.2.1 i.2.2.2/\nx<=i.2.2.2/\(∀id,base<=id->id<nx->i.2.2.1 id=o id)/\aQ step s l=aQ step i.2.1 (l.drop i.1)/\ok i.2.1) (fun i=>l.length - i.1) (0,s,o,nx)
  ⟨Nat.zero_le _,hI,Nat.le_refl _,fun _ _ _=>rfl,rfl,oY⟩ ?_ ?_
 ·exact VX
 rintro⟨k,s',o',nx'⟩ ⟨hk,OW,hn,c7,hf,wM⟩
 simp only at hk OW hn c7 hf wM
 refine a7 ?_
 refine ak (fun h1=> ?_) (fun h1=> ?_)
 ·simp at h1
  obtain⟨x,hx⟩:=aB h1
  have cf:=List.mem_of_getElem? hx
  have hd:l.drop k=x::l.drop (k+1):=by
   exact VS
  refine VA hx ?_
  have hl0:=OW.le
  refine gG (h x cf s' wM _ _ (?_:eS base (H s') _ (nx'+7)) _ _ fun o2 n2 m1 m2 m3=> ?_)
  ·exact aaL
  have Nj:∀id,base<=id->id<nx->o2 id=o id:=fun id h2 h3=>by
   exact aaZ
  refine a7 ?_
  refine ak (fun h2=> ?_) (fun h2=> ?_)
  ·refine a7 ?_
   simp at h2
   have:aQ step s l=((step s' x).1,false):=by rw[hf,hd,aQ,if_neg (by rw[h2];exact Bool.false_ne_true)]
   rw[this]at hK
   exact hK _ _ af (m2.mono af) Nj
  ·refine a7 ?_
   simp at h2
   have:aQ step s l=aQ step (step s' x).1 (l.drop (k+1)):=by rw[hf,hd,aQ,if_pos h2]
   refine aj (k+1,(step s' x).1,o2,n2) ⟨h1,m2,by dsimp only;omega,Nj,this,aY x cf s' wM h2⟩ kV ?_
   dsimp only
   have U3:∀r∈V.aL bR,r<n2:=fun r hr=>by have:=dV r hr;omega
   refine bL.bS _ af af m2.cu (fun _ _=>rfl) ?_
   exact dT
 ·exact abD
theorem A7{α σ:Type}(step:σ->α->σ×Bool)(a b:List α):∀s,aQ step s (a++b)=if(aQ step s a).2=true then aQ step (aQ step s a).1 b else((aQ step s a).1,false):=by
 induction a with
 |nil=>intro s;simp[aQ]
 |cons x a ih=>
  intro s
  simp only[List.cons_append,aQ]
  split
  ·exact ih _
  ·rename_i h;simp
theorem wN{α β σ:Type}(step:σ->β->σ×Bool)(f:α->List β)(l:List α):∀s,aQ step s (l.flatMap f)=aQ (fun s x=>aQ step s (f x)) s l:=by
 induction l with
 |nil=>intro s;rfl
 |cons x l ih=>intro s;simp only[List.flatMap_cons,A7,aQ,ih]
theorem BV{α σ:Type}{step:σ->α->σ×Bool}{ok:σ->Prop}:∀ (l:List α),(∀x∈l,∀s,ok s->(step s x).2=true->ok (step s x).1)->∀s,ok s->(aQ step s l).2=true->ok (aQ step s l).1
 |[],_,s,h,_=>h
 |x::l,aY,s,h,h2=>by
  simp only[aQ]at h2|-
  split at h2
  ·rename_i hb
   rw[if_pos hb]
   exact BV l (fun y hy=>aY y lD) _ (aY x aE s h hb) h2
  ·cases h2
def RoC(P:Program)(rm:Nat)(args:List V)(base:Nat)(h h2:Nat->ad)(v:V):Prop:=
 ∀o nx,eS base h o nx->∀K X,StK base h2 v o nx K->dQ P rm args o nx K X
section
variable {σ:Type}(base rm:Nat)(H:σ->Nat->ad)(step:σ->Tm×Int->σ×Bool)(ok:σ->Prop)
theorem QW:∀t:Tm,t.fits->∀d:Int,0<=d->d+t.mA<=1000000->(∀x∈pre t d,∀s,ok s->(step s x).2=true->ok (step s x).1)->(∀x∈pre t d,∀s,ok s->RoC Tryz.prog rm [.d x.1.d, .d (.i x.2)] base (H s) (H (step s x).1) (.d (.bool (step s x).2)))->rm<base->
 ∀ (c:Nat) (o0:Nat->ad) (yb vb:Nat),base<=c->base<=yb->yb<c->base<=vb->vb<c->o0 yb= .row [.kH rm]->o0 vb= .row [.func (.func 173) [] [.ptr yb 0, .ptr vb 0]]->
 ∀s,ok s->wH Tryz.prog 173 [.d t.d, .d (.i d), .ptr yb 0, .ptr vb 0] c (ext base (H s) o0) (ext base (H (aQ step s (pre t d)).1) o0) (.d (.bool (aQ step s (pre t d)).2)):=by
 refine Tm.ek fun t ih hf d hd0 hd aY hR Dy c o0 yb vb hbc hy0 hy hv0 hv oy ov s oY=> ?_
 have xP:=(Tm.cj _).1 hf
 intro o nx hI K X hK
 have hle:=hI.le
 have oy':o yb= .row [.kH rm]:=by rw[hI.eq yb hy];unfold ext;rw[if_neg (by omega),oy]
 have Yn:o vb= .row [.func (.func 173) [] [.ptr yb 0, .ptr vb 0]]:=by rw[hI.eq vb hv];unfold ext;rw[if_neg (by omega),ov]
 have y1:yb≠nx:=af
 have y2:∀k,yb≠nx+k:=fun k=>af
 have y3:vb≠nx:=af
 have y4:∀k,vb≠nx+k:=fun k=>af
 refine bP.aG mix UP aE ?_
 rw[X5]
 simp+contextual only[go_sem,oy',Yn,y1,y2,y3,y4,Nat.add_assoc,Nat.left_eq_add,Nat.add_eq_left,Nat.add_left_cancel_iff]
 have pY:=nJ t d
 have ug:∀k∈t.kids,∀x∈pre k (d+1),x∈pre t d:=fun k hk x hx=>by
  rw[pY];exact List.mem_cons_of_mem _ (List.mem_flatMap.2 ⟨k,hk,hx⟩)
 have hb:∀id,id<base->o id=H s id:=fun id aw=>by rw[hI.eq id (by omega)];unfold ext;rw[if_pos aw]
 have hIb:eS base (H s) o nx:=⟨hI.cu,af,hb⟩
 refine nQ (hR (t,d) (by rw[pY];simp) s oY _ _ ((hIb.ay (i:=nx) (m:=nx+6) af af af rfl).ay (i:=nx+1) af af af rfl) _ _ fun o2 n2 m1 m2 m3=> ?_)
 have k0:o2 nx= .row t.row:=by rw[m3 nx (by omega) (by omega),ae _ _ _ _ (by omega),aa]
 have k1:o2 (nx+1)= .row [.d (.i d)]:=by rw[m3 (nx+1) (by omega) (by omega),aa]
 have hold:∀id,base<=id->id<nx->o2 id=o id:=fun id h1 h2=>by rw[m3 id h1 (by omega),ae _ _ _ _ (by omega),ae _ _ _ _ (by omega)]
 have Kw:∀id,base<=id->id<c->o id=o0 id:=fun id h1 h2=>by rw[hI.eq id h2];unfold ext;rw[if_neg (by omega)]
 cases GN:(step s (t,d)).2 with
 |false=>
  refine kU GN ?_
  have BN:aQ step s (pre t d)=((step s (t,d)).1,false):=by rw[pY,aQ,if_neg (by rw[GN];exact Bool.false_ne_true)]
  rw[BN]at hK
  refine hK _ _ af ⟨m2.cu.mono af,af,fun id aw=> ?_⟩ (fun id h1 h2=>hold id af h2)
  unfold ext
  split
  ·exact m2.eq id (by assumption)
  ·exact Pz
 |true=>
  have BN:aQ step s (pre t d)=aQ (fun s k=>aQ step s (pre k (d+1))) (step s (t,d)).1 t.kids:=by rw[pY,aQ,if_pos GN,wN]
  simp+contextual only[go_sem,GN,k0,k1]
  have q0:o2 yb= .row [.kH rm]:=by rw[hold yb hy0 (by omega),oy']
  have q1:o2 vb= .row [.func (.func 173) [] [.ptr yb 0, .ptr vb 0]]:=by rw[hold vb hv0 (by omega),Yn]
  have m0:=m2.le
  refine aT (Dx t.kids xP.1 174 [.ptr vb 0, .ptr (nx+1) 0] n2 (fun s=>ext base (H s) o2) (fun s k=>aQ step s (pre k (d+1))) ?_ ok ?_ ?_ (step s (t,d)).1 (aY (t,d) (by rw[pY];simp) s oY GN) _ _ ?_ _ _ ?_)
  ·exact Gy
  ·exact Sf
  ·intro k hk s' jR o3 n3 hI3 K3 X3 hK3
   have l3:=hI3.le
   have r0:o3 vb= .row [.func (.func 173) [] [.ptr yb 0, .ptr vb 0]]:=by rw[hI3.eq vb (by omega)];unfold ext;rw[if_neg (by omega),q1]
   have r1:o3 (nx+1)= .row [.d (.i d)]:=by rw[hI3.eq (nx+1) (by omega)];unfold ext;rw[if_neg (by omega),k1]
   have y5:vb≠n3:=af
   have y6:∀k,vb≠n3+k:=fun k=>af
   have y7:nx+1≠n3:=af
   have y8:∀k,nx+1≠n3+k:=fun k=>af
   have hh:=Tm.ra hk
   refine bP.aG mix UQ aE ?_
   rw[X6]
   simp+contextual only[go_sem,r0,r1,y5,y6,y7,y8]
   rw[wrap64 (n:=d+1) (by omega) (by omega)]
   refine aT (ih k hk (xP.2 k hk) (d+1) af af (fun x hx=>aY x (ug k hk x hx)) (fun x hx=>hR x (ug k hk x hx)) Dy n2 o2 yb vb af hy0 af hv0 af q0 q1 s' jR _ _ (hI3.ay (i:=n3) (m:=n3+6) af af af rfl) _ _ fun o4 n4 p1 p2 p3=> ?_)
   refine a7 ?_
   refine hK3 _ _ af (p2.mono af) (fun id h1 h2=> ?_)
   rw[p3 id h1 (by omega),ae _ _ _ _ (by omega)]
  ·exact(m2.mono af).ext af af
  ·intro o5 n5 p1 p2 p3
   refine a7 ?_
   rw[<- BN]
   refine hK _ _ af ⟨p2.cu.mono af,af,fun id aw=> ?_⟩ (fun id h1 h2=> ?_)
   ·rw[p2.eq id (by omega), <- BN]
    unfold ext
    split
    ·rfl
    ·exact Pz
   ·rw[p2.eq id (by omega)]
    unfold ext
    rw[if_neg (by omega),hold id (by omega) h2]
theorem Nk(t:Tm)(hf:t.fits)(hd:t.mA<=900000)(aY:∀x∈pre t 1,∀s,ok s->(step s x).2=true->ok (step s x).1)(hR:∀x∈pre t 1,∀s,ok s->RoC Tryz.prog rm [.d x.1.d, .d (.i x.2)] base (H s) (H (step s x).1) (.d (.bool (step s x).2)))(Dy:rm<base)(tb:Nat)(KQ:tb<base)(s:σ)(oY:ok s)(c8:H s tb= .row t.row):
 wH Tryz.prog 172 [.kH rm, .ptr tb 0] base (H s) (H (aQ step s (pre t 1)).1) (.bY []):=by
 intro o nx hI K X hK
 have hle:=hI.le
 have ot:o tb= .row t.row:=by rw[hI.eq tb KQ,c8]
 have y1:tb≠nx:=af
 have y2:∀k,tb≠nx+k:=fun k=>af
 refine bP.aG mix UO aE ?_
 rw[X4]
 simp+contextual only[go_sem,ot,y1,y2,Nat.add_assoc,Nat.left_eq_add,Nat.add_eq_left,Nat.add_left_cancel_iff]
 have hI1:eS base (H s) (ay (ay (ay o nx (.row [.kH rm])) (nx+1) (.row [.d .cF])) (nx+1) (.row [.func (.func 173) [] [.ptr nx 0, .ptr (nx+1) 0]])) (nx+6):=by
  refine((hI.ay (i:=nx) (m:=nx+6) af af af ?_).ay (i:=nx+1) (m:=nx+6) af af af rfl).ay (i:=nx+1) af af af ?_
  ·exact Ld
  ·exact uf
 refine aT (QW base rm H step ok t hf 1 af af aY hR Dy (nx+6) _ nx (nx+1) af hle af af af ?_ ?_ s oY _ _ (hI1.ext (Nat.le_refl _) af) _ _ ?_)
 ·exact cg
 ·exact cg
 intro o2 n2 m1 m2 m3
 refine a7 ?_
 refine hK _ _ af ⟨m2.cu,af,fun id aw=> ?_⟩ (fun id h1 h2=> ?_)
 ·rw[m2.eq id (by omega)];unfold ext;rw[if_pos aw]
 ·exact Td
end
theorem wO(t:Tm)(o:Nat->ad)(nx:Nat)(K X:V->(Nat->ad)->Nat->Prop)(h:K (.func (.func 172) [] [.ptr nx 0]) (ay o nx (.row t.row)) (nx+4)):bP Tryz.prog 159 [.d t.d] o nx K X:=by
 refine bP.aG mix UE aE ?_
 rw[XS]
 refine a7 ?_
 exact h
end
def U4:Option ku->fK
 |none=> .normal
 |some .ret=> .ret
 |some (.exit j)=> .exit j
def xB{σ:Type}(J:σ->Option ku)(step:σ->Tm×Int->σ)(s:σ)(x:Tm×Int):σ×Bool:=(step s x,(J (step s x)).isNone)
theorem A8{σ:Type}(J:σ->Option ku)(step:σ->Tm×Int->σ):∀ (l:List (Tm×Int)) (s:σ),J s=none->(aQ (xB J step) s l).2=(J (aQ (xB J step) s l).1).isNone
 |[],s,h=>by simp[aQ,h]
 |x::l,s,h=>by
  simp only[aQ]
  split
  ·rename_i hb
   exact A8 J step l _ (by simpa[xB]using hb)
  ·rename_i hb
   cases hj:J (step s x)with
   |none=>exact absurd (by simp[xB,hj]) hb
   |some j=>simp[xB,hj]
theorem nU{σ:Type}(t:Tm)(hf:t.fits)(hd:t.mA<=900000){n bq:Nat}{gq:Operand}{ps:List Nat}{jS fq:IC}{Q:fK->S->Prop}{e:Nat->V}{o:Nat->ad}{nx tb:Nat}(env:List V)(he:nP e env 0)
 (Ft:ps.all (fun t=>decide (t<n))=true) (hl:ps.length=2) (hg:Good o nx) (hrefs:∀r∈V.aL env,r<nx) (ht:o tb= .row t.row)
 (G:σ->Nat->ad) (J:σ->Option ku) (step:σ->Tm×Int->σ) (ok:σ->Prop) (s0:σ) (oY:ok s0) (hJ0:J s0=none) (h0:∀id,id<nx->o id=G s0 id) (aY:∀x∈pre t 1,∀s,ok s->J s=none->J (step s x)=none->ok (step s x))
 (vR:∀L,jj Tryz.prog n env ps jS fq L->(∀st pd m,nx<=m->(L st pd).refs.all (fun r=>decide (r<m))=true)->∀x∈pre t 1,∀s,ok s->J s=none->∀o3 n3,eS nx (G s) o3 n3->nx<n3->o3 nx=L .ready none->∀K X,
  (∀e' o' n' st pd,n3<=n'->eS nx (G (step s x)) o' n'->o' nx=L st pd->(∀id,nx<id->id<n3->o' id=o3 id)->lB nx K X (U4 (J (step s x))) ⟨e',o',n'⟩)->
  j7 Tryz.prog n n3 true jS (sU Tryz.prog n n3 nx fq K X) ⟨pS (aX env) ps [.d x.1.d, .d (.i x.2)],o3,n3⟩)
 (ly:∀o' n',eS nx (G (aQ (xB J step) s0 (pre t 1)).1) o' n'->qS Q (J (aQ (xB J step) s0 (pre t 1)).1) ⟨e,o',n'⟩):
 uC Tryz.prog n bq false gq ps jS fq Q ⟨e,o,nx⟩ (.func (.func 172) [] [.ptr tb 0]):=by
 refine FC env he (fun L hL=> ?_)
 have KQ:tb<nx:=hg.lt (by rw[ht];exact ad.noConfusion)
 let H:σ->Nat->ad:=fun s id=>if id<nx then G s id else if id=nx then(match J s with|none=>L .ready none|some j=>L .done (some j))else .no
 have si:∀s id,id<nx->H s id=G s id:=fun s id h=>if_pos h
 have FF:∀s,J s=none->H s nx=L .ready none:=fun s h=>by show(if nx<nx then _ else _)=_;rw[if_neg (by omega),if_pos rfl,h]
 have U5:∀s j,J s=some j->H s nx=L .done (some j):=fun s j h=>by show(if nx<nx then _ else _)=_;rw[if_neg (by omega),if_pos rfl,h]
 have x8:∀st pd m,nx<=m->(L st pd).refs.all (fun r=>decide (r<m))=true:=fun st pd m hm=>by
  exact SX
 refine Nk (nx+1) nx H (xB J step) (fun s=>ok s/\J s=none) t hf hd (fun x hx s h1 h2=> ?_) (fun x hx s h1=> ?_) af tb af s0 ⟨oY,hJ0⟩ (by rw[si _ _ KQ, <- h0 _ KQ,ht]) _ _ ⟨?_,Nat.le_refl _,fun id aw=> ?_⟩ _ _ ?_
 ·have hj:J (step s x)=none:=by simpa[xB]using h2
  exact⟨aY x hx s h1.1 h1.2 hj,hj⟩
 ·intro o3 n3 hI K X hK
  have hle:=hI.le
  have HI:o3 nx=L .ready none:=by rw[hI.eq nx (by omega),FF s h1.2]
  refine wI hL mix HI af Ft (by simp[hl]) ?_
  refine vR L hL x8 x hx s h1.1 h1.2 o3 n3 ⟨hI.cu,af,fun id aw=>by rw[hI.eq id (by omega),si _ _ aw]⟩ af HI K X (fun e' o' n' st pd k1 k2 k3 k4=> ?_)
  have key:∀st' pd' b,(J (step s x)).isNone=b->H (step s x) nx=L st' pd'->K (.d (.bool b)) (ay o' nx (L st' pd')) n':=fun st' pd' b hb hh=>by
   subst hb
   refine hK _ _ k1 ⟨k2.cu.ay af (x8 _ _ _ af),af,fun id aw=> ?_⟩ (fun id g1 g2=> ?_)
   ·by_cases xH:id=nx
    ·subst xH;rw[aa];exact hh.symm
    ·rw[ae _ _ _ _ xH]
     show o' id=H (step s x) id
     rw[si _ _ (by omega)];exact k2.eq id af
   ·rw[ae _ _ _ _ (by omega)];exact k4 id af g2
  cases hj:J (step s x)with
  |none=>exact sW hL k3 (key _ _ _ yl (FF _ hj))
  |some j=>
   cases j with
   |ret=>exact wJ hL k3 (key _ _ _ yl (U5 _ _ hj))
   |exit j=>exact tU hL k3 (key _ _ _ yl (U5 _ _ hj))
 ·exact(hg.mono af).ay af (x8 _ _ _ af)
 ·by_cases xH:id=nx
  ·subst xH;rw[aa,FF _ hJ0]
  ·exact SC
 ·intro o' n' k1 k2 k3
  have hle:=k2.le
  generalize hsf:(aQ (xB J step) s0 (pre t 1)).1=sf at*
  have kk:∀st pd,eS nx (G sf) (ay o' nx (L st pd)) n':=fun st pd=>⟨k2.cu.ay af (x8 _ _ _ af),af,fun id aw=>by rw[ae _ _ _ _ (by omega),k2.eq id (by omega),si _ _ aw]⟩
  cases hj:J sf with
  |none=>
   refine⟨.ready,none,by rw[k2.eq nx (by omega),FF _ hj],(fun h=>by cases h), ?_⟩
   have:=ly _ _ (kk .exhausted none)
   rwa [hj]at this
  |some j=>
   refine⟨.done,some j,by rw[k2.eq nx (by omega),U5 _ _ hj],(fun h=>by cases h), ?_⟩
   have:=ly _ _ (kk .exhausted (some j))
   rwa [hj]at this
theorem gP(n low high:Int):aW Tryz.prog 146 [.i n, .i low, .i high] (.ret [.bool (dU n low high)]):=by
 refine aW.aG mix Uz aE ?_
 rw[XN]
 refine a7 ?_
 rfl
theorem FG(s:az)(t:Tm)(h:t.op=1):aW Tryz.prog 194 [s.d,t.d] (.ret [.bool (bw s t)]):=by
 have hn:bw s t=(dU t.n 0 19&&(t.kids.length:Int)==0):=by simp[bw,h,Bool.and_comm]
 refine aW.aG mix UT aE ?_
 rw[X9]
 exact VY
theorem JV(s:az)(t:Tm)(h:t.op=2):aW Tryz.prog 195 [s.d,t.d] (.ret [.bool (bw s t)]):=by
 have hn:bw s t=(dU t.n (-1000000) 1000000&&(t.kids.length:Int)==0):=by simp[bw,h,Bool.and_comm]
 refine aW.aG mix UU aE ?_
 rw[Ya]
 exact VY
theorem aeC(s:az)(t:Tm)(h:t.op=8):aW Tryz.prog 199 [s.d,t.d] (.ret [.bool (bw s t)]):=by
 have hn:bw s t=(dU t.n 0 19&&(t.kids.length:Int)==2):=by simp[bw,h,Bool.and_comm]
 refine aW.aG mix UZ aE ?_
 rw[Ye]
 exact VY
theorem Yo(s:az)(t:Tm)(h:t.op=6\/t.op=7\/t.op=9\/t.op=10\/t.op=11\/t.op=12\/t.op=13\/t.op=14\/t.op=15):aW Tryz.prog 200 [s.d,t.d] (.ret [.bool (bw s t)]):=by
 have hn:bw s t=(t.n==0&&(t.kids.length:Int)==2):=by
  rcases h with h|h|h|h|h|h|h|h|h<;>simp[bw,h,dU,Bool.and_comm]
 refine aW.aG mix U0 aE ?_
 rw[Yf]
 refine a7 ?_
 rw[hn]
theorem aeD(s:az)(t:Tm)(hs:s.Fits)(h:t.op=3):aW Tryz.prog 196 [s.d,t.d] (.ret [.bool (bw s t)]):=by
 have hn:bw s t=(dU t.n 0 (s.cons.length - 1)&&(t.kids.length:Int)==iM s.cons t.n):=by simp[bw,h]
 refine aW.aG mix UW aE ?_
 rw[Yb]
 refine a7 ?_
 rw[wrap64 (by have:=hs.lc;omega) (by have:=hs.lc;omega)]
 refine aZ (gP _ _ _) rfl ?_
 cases hI:dU t.n 0 (s.cons.length - 1)with
 |false=>
  exact VV
 |true=>
  exact VO
theorem aeE(s:az)(t:Tm)(hs:s.Fits)(h:t.op=4):aW Tryz.prog 197 [s.d,t.d] (.ret [.bool (bw s t)]):=by
 have hn:bw s t=(dU t.n 0 (s.bZ.length - 1)&&(t.kids.length:Int)==iM s.bZ t.n):=by simp[bw,h]
 refine aW.aG mix UX aE ?_
 rw[Yc]
 refine a7 ?_
 rw[wrap64 (by have:=hs.lf;omega) (by have:=hs.lf;omega)]
 refine aZ (gP _ _ _) rfl ?_
 cases hI:dU t.n 0 (s.bZ.length - 1)with
 |false=>
  exact VV
 |true=>
  exact VO
theorem Yp(s:az)(t:Tm)(hs:s.Fits)(h:t.op=5):aW Tryz.prog 198 [s.d,t.d] (.ret [.bool (bw s t)]):=by
 have hn:bw s t=(dU t.n 0 (s.bZ.length - 1)&&decide ((t.kids.length:Int)<iM s.bZ t.n)):=by simp[bw,h]
 refine aW.aG mix UY aE ?_
 rw[Yd]
 refine a7 ?_
 rw[wrap64 (by have:=hs.lf;omega) (by have:=hs.lf;omega)]
 refine aZ (gP _ _ _) rfl ?_
 cases hI:dU t.n 0 (s.bZ.length - 1)with
 |false=>
  exact VV
 |true=>
  exact VO
@[reducible] def rf (n:Nat):V:= .func (.func n) [] []
@[reducible] def agZ:List V:=[.d .cF,rf 194,rf 195,rf 196,rf 197,rf 198, .d .cF, .d .cF,rf 199, .d .cF, .d .cF, .d .cF, .d .cF, .d .cF, .d .cF, .d .cF]
@[reducible] def FH:List V:=[.d .cF,rf 194,rf 195,rf 196,rf 197,rf 198,rf 200,rf 200,rf 199,rf 200,rf 200,rf 200,rf 200,rf 200,rf 200,rf 200]
def K8(k:Nat):List V:=FH.take k++agZ.drop k
theorem funcOf{P:Program}{t:TypeId}(h:(match P.underlying t with|some (.func _ _ _)=>true|_=>false)=true):∃a b c,P.underlying t=some (.func a b c):=by
 split at h
 ·exact⟨_,_,_,by assumption⟩
 ·cases h
@[go_sem] theorem ag0 (o:Nat->ad) (ng:Bool):qu Tryz.prog o 209 ng (.d .cF) (.d .cF)=some (.d (.bool true)):=by
  exact S4
@[go_sem] theorem ag3 (o:Nat->ad) (ng:Bool) (f:Fn) (x y:List V):qu Tryz.prog o 209 ng (.func f x y) (.d .cF)=some (.d (.bool false)):=by
  exact S4
theorem QX(base:Nat)(h:Nat->ad):wH Tryz.prog 187 [] base h h (.agg FH):=by
 intro o nx hI K X hK
 have hle:=hI.le
 refine bP.aG mix US aE ?_
 rw[X8]
 simp+contextual only[go_sem,Nat.add_assoc,Nat.left_eq_add,Nat.add_eq_left,Nat.add_left_cancel_iff]
 refine aD (fun k:Nat=>⟨aX [.ptr nx 0, .ptr (nx+2) 0, .ab, .ab, .d (.i k)],ay (ay o nx (.row (List.replicate 16 (.d .cF)))) (nx+2) (.row (K8 k)),nx+5⟩)
  (fun k=>k<=16) (fun k=>16 - k) 0 (Nat.zero_le _) ?_ (fun k hk=> ?_)
 ·refine bL.bS _ af af ?_ (fun id aw=> ?_) ?_
  ·exact((hI.cu.mono af).ay af rfl).ay af rfl
  ·rw[uV];rfl
  ·exact dT
 have hg:∀k,k<16->Good (ay (ay o nx (.row (List.replicate 16 (.d .cF)))) (nx+2) (.row (K8 (k+1)))) (nx+5):=fun k hk=>
  ((hI.cu.mono af).ay af rfl).ay af (by
    rcases(by omega:k=0\/k=1\/k=2\/k=3\/k=4\/k=5\/k=6\/k=7\/k=8\/k=9\/k=10\/k=11\/k=12\/k=13\/k=14\/k=15)with rfl|rfl|rfl|rfl|rfl|rfl|rfl|rfl|rfl|rfl|rfl|rfl|rfl|rfl|rfl|rfl<;>rfl)
 by_cases ag4:k=16
 ·subst ag4
  refine aar ?_
  refine hK _ _ ?_ ⟨?_, ?_,fun id aw=> ?_⟩ (fun id h1 h2=> ?_)
  rotate_left
  ·exact(((hI.cu.mono af).ay af rfl).ay af rfl).ay af rfl
  ·omega
  ·(repeat(first|rfl|rw[aa]|rw[ae _ _ _ _ (by omega)]))
   exact hI.eq id aw
  ·exact cg
  ·omega
 ·have hgk:=hg k af
  obtain⟨k1,Mi⟩:∃k1,k1=k+1:=⟨_,rfl⟩
  rw[<- Mi]at hgk
  rcases(by omega:k=0\/k=1\/k=2\/k=3\/k=4\/k=5\/k=6\/k=7\/k=8\/k=9\/k=10\/k=11\/k=12\/k=13\/k=14\/k=15)with rfl|rfl|rfl|rfl|rfl|rfl|rfl|rfl|rfl|rfl|rfl|rfl|rfl|rfl|rfl|rfl
  all_goals
   refine aar ?_
   refine aj k1 af af (bL.bS _ af af hgk (fun id aw=> ?_) ?_)
   all_goals subst Mi
   ·first|rfl|(rw[uV];rfl)
   ·exact dT
def Nl(n:Int):Nat:=if n=1 then 194 else if n=2 then 195 else if n=3 then 196 else if n=4 then 197 else if n=5 then 198 else if n=8 then 199 else 200
theorem Yq(s:az)(t:Tm)(hs:s.Fits)(h:dU t.op 1 15=true):aW Tryz.prog (Nl t.op) [s.d,t.d] (.ret [.bool (bw s t)])/\FH[t.op.toNat]? =some (rf (Nl t.op))/\0<=t.op/\t.op<16:=by
 simp[dU]at h
 rcases(by omega:t.op=1\/t.op=2\/t.op=3\/t.op=4\/t.op=5\/t.op=8\/(t.op=6\/t.op=7\/t.op=9\/t.op=10\/t.op=11\/t.op=12\/t.op=13\/t.op=14\/t.op=15))with h|h|h|h|h|h|h
 ·exact⟨by rw[h];exact FG s t h,by rw[h];rfl,af,af⟩
 ·exact⟨by rw[h];exact JV s t h,by rw[h];rfl,af,af⟩
 ·exact⟨by rw[h];exact aeD s t hs h,by rw[h];rfl,af,af⟩
 ·exact⟨by rw[h];exact aeE s t hs h,by rw[h];rfl,af,af⟩
 ·exact⟨by rw[h];exact Yp s t hs h,by rw[h];rfl,af,af⟩
 ·exact⟨by rw[h];exact aeC s t h,by rw[h];rfl,af,af⟩
 ·have hp:=Yo s t h
  rcases h with h|h|h|h|h|h|h|h|h<;>exact⟨by rw[h];exact hp,by rw[h];rfl,af,af⟩
def o6(s:az)(n:Int)(x:Tm×Int):Bool:=decide (40<n+1)||decide (12<x.2)|| !dU x.1.op 1 15|| !bw s x.1
def hY(s:az)(n:Int×Bool)(x:Tm×Int):Int×Bool:=(n.1+1, !o6 s n.1 x)
def fJ(n:Int×Bool):Option ku:=if n.2=true then none else some .ret
def mD(s:az)(t:Tm):Bool:=(aQ (xB fJ (hY s)) (0,true) (pre t 1)).2
theorem Nn(s:az)(hs:s.Fits)(t:Tm)(hf:t.fits)(hd:t.mA<=900000):aW Tryz.prog 171 [s.d,t.d] (.ret [.bool (mD s t)]):=by
 refine aW.aG mix UN aE ?_
 rw[X2]
 refine a7 ?_
 refine bX (QX 3 _ _ _ (?_:eS 3 (ay (ay (ay (fun _=> .no) 0 (.row s.row)) 1 (.row t.row)) 2 (.row [.d (.bool false)])) _ 3) _ _ fun o2 n2 m1 m2 m3=> ?_)
 ·exact⟨dh,Nat.le_refl _,fun _ _=>rfl⟩
 have p0:o2 0= .row s.row:=m2.eq 0 af
 have p1:o2 1= .row t.row:=m2.eq 1 af
 have p2:o2 2= .row [.d (.bool false)]:=m2.eq 2 af
 have e0:0≠n2:=af
 have e1:1≠n2:=af
 have e2:2≠n2:=af
 have e3:∀k,0≠n2+k:=fun k=>af
 have e4:∀k,1≠n2+k:=fun k=>af
 have e5:∀k,2≠n2+k:=fun k=>af
 simp+contextual only[go_sem,p0,p1,p2,e0,e1,e2,e3,e4,e5,Nat.add_assoc,Nat.left_eq_add,Nat.add_eq_left,Nat.add_left_cancel_iff]
 refine bX (wO t _ _ _ _ ?_)
 refine a7 ?_
 have hG0:∀n,Good (ay (ay (ay (ay (ay (ay o2 n2 (.row (List.replicate 16 (.d .cF)))) (n2+1) (.row [.d (.i 0)])) n2 (.row FH)) (n2+1) (.row [.d (.i 0)])) (n2+5) (.row t.row)) (n2+1) (.row [.d (.i n)])) (n2+9):=fun n=>by
  have hg:=m2.cu
  exact dh
 refine nU t hf hd [.ab, .ab, .ptr 0 0, .ab, .ptr 2 0, .ptr n2 0, .ptr (n2+1) 0] ?_ bF rfl ?_ Gy (aa _ _ _)
  (fun s=>ay (ay (ay (ay (ay (ay o2 n2 (.row (List.replicate 16 (.d .cF)))) (n2+1) (.row [.d (.i 0)])) n2 (.row FH)) (n2+1) (.row [.d (.i 0)])) (n2+5) (.row t.row)) (n2+1) (.row [.d (.i s.1)]))
  fJ (hY s) (fun s=>0<=s.1/\s.1<=40) (0,true) ⟨bF,bF⟩ rfl ?_ ?_ ?_ ?_
 ·exact La
 ·have hg:=m2.cu
  exact dh
 ·intro id aw
  by_cases h:id=n2+1
  ·exact Sl
  ·rw[ae _ _ _ _ h];rfl
 ·intro x hx s' h1 h2 h3
  have:o6 s s'.1 x=false:=by simpa[fJ,hY]using h3
  simp[o6]at this
  simp only[hY]
  omega
 ·intro L hL x8 x hx s' h1 h2 o3 n3 hI hn ho K X eJ
  simp only[pS]
  have hg:=hI.cu
  have q0:o3 0= .row s.row:=by
   rw[hI.eq 0 (by omega)];(repeat(first|rfl|rw[aa]|rw[ae _ _ _ _ (by omega)]))
   exact p0
  have q2:o3 2= .row [.d (.bool false)]:=by
   exact abK
  have q3:o3 n2= .row FH:=by rw[hI.eq n2 (by omega)];(repeat(first|rfl|rw[aa]|rw[ae _ _ _ _ (by omega)]))
  have q4:o3 (n2+1)= .row [.d (.i s'.1)]:=by rw[hI.eq (n2+1) (by omega)];(repeat(first|rfl|rw[aa]|rw[ae _ _ _ _ (by omega)]))
  have fin:∀ (o':Nat->ad) (n':Nat),(∀id,id<n2+5+4->o' id=ay o3 (n2+1) (.row [.d (.i (s'.1+1))]) id)->Good o' n'->n3<=n'->eS (n2+5+4) (ay (ay (ay (ay (ay (ay o2 n2 (.row (List.replicate 16 (.d .cF)))) (n2+1) (.row [.d (.i 0)])) n2 (.row FH)) (n2+1) (.row [.d (.i 0)])) (n2+5) (.row t.row)) (n2+1) (.row [.d (.i (hY s s' x).1)])) o' n':=by
   intro o' n' k1 k2 k3
   refine⟨k2,af,fun id aw=> ?_⟩
   rw[k1 id aw]
   by_cases h:id=n2+1
   ·subst h;rw[aa,aa];rfl
   ·rw[ae _ _ _ _ h,ae _ _ _ _ h,hI.eq id aw,ae _ _ _ _ h]
  refine a7 ?_
  refine nR hL (pd:=none) ?_ ?_
  ·(repeat(first|rfl|rw[aa]|rw[ae _ _ _ _ (by omega)]))
   exact ho
  cases c1:decide (40<s'.1+1)with
  |true=>
   have hJ:fJ (hY s s' x)=some .ret:=by simp[fJ,hY,o6,c1]
   rw[hJ]at eJ
   simp+contextual (disch:=first|omega|simp only[go_sem,false_implies]) only[go_sem,wrap64,if_pos,q0,q2,q3,q4,c1]
   exact zw4
  |false=>
  cases c2:decide (12<x.2)with
  |true=>
   have hJ:fJ (hY s s' x)=some .ret:=by simp[fJ,hY,o6,c2]
   rw[hJ]at eJ
   refine BS q0 q2 q3 q4 c1 c2 ?_
   exact zw4
  |false=>
  cases c3:dU x.1.op 1 15 with
  |false=>
   have hJ:fJ (hY s s' x)=some .ret:=by simp[fJ,hY,o6,c3]
   rw[hJ]at eJ
   refine BS q0 q2 q3 q4 c1 c2 ?_
   refine aZ (gP _ _ _) rfl ?_
   simp+contextual (disch:=first|omega|simp only[go_sem,false_implies]) only[go_sem,wrap64,if_pos,q0,q2,q3,q4,c1,c2,c3]
   exact zw4
  |true=>
  obtain⟨r1,r2,r3,r4⟩:=Yq s x.1 hs c3
  refine BS q0 q2 q3 q4 c1 c2 ?_
  refine aZ (gP _ _ _) rfl ?_
  simp+contextual (disch:=first|omega|simp only[go_sem,false_implies]) only[go_sem,wrap64,if_pos,q0,q2,q3,q4,c1,c2,c3,r2,r3,r4,Nat.mul_one]
  refine aZ r1 rfl ?_
  simp+contextual (disch:=first|omega|simp only[go_sem,false_implies]) only[go_sem,wrap64,if_pos,q0,q2,q3,q4,c1,c2,c3]
  refine aK (bp rfl) ?_
  cases c4:bw s x.1 with
  |false=>
   have hJ:fJ (hY s s' x)=some .ret:=by simp[fJ,hY,o6,c4]
   rw[hJ]at eJ
   simp+contextual (disch:=first|omega|simp only[go_sem,false_implies]) only[go_sem,wrap64,if_pos,q2,c4]
   refine eJ _ _ _ .busy none af (fin _ _ (fun id aw=>VC) dh af) cg (fun id h3 h4=>by(repeat(first|rfl|rw[aa]|rw[ae _ _ _ _ (by omega)])))
  |true=>
   have hJ:fJ (hY s s' x)=none:=by simp[fJ,hY,o6,c1,c2,c3,c4]
   rw[hJ]at eJ
   simp+contextual (disch:=first|omega|simp only[go_sem,false_implies]) only[go_sem,wrap64,if_pos,c4]
   refine eJ _ _ _ .busy none af (fin _ _ (fun id aw=>VC) dh af) cg (fun id h3 h4=>by(repeat(first|rfl|rw[aa]|rw[ae _ _ _ _ (by omega)])))
 ·intro o' n' hI
  have q2:o' 2= .row [.d (.bool false)]:=by
   exact abK
  rw[show mD s t=(fJ (aQ (xB fJ (hY s)) (0,true) (pre t 1)).1).isNone from A8 _ _ _ _ rfl]
  generalize (aQ (xB fJ (hY s)) (0,true) (pre t 1)).1=sf at*
  cases hj:fJ sf with
  |none=>
   simp only[qS]
   refine ou q2 ?_
   rfl
  |some j=>
   have:j= .ret:=by
    unfold fJ at hj;split at hj
    ·cases hj
    ·injection hj with hj;exact hj.symm
   subst this
   simp only[qS]
   refine ou q2 ?_
   rfl
section
def enc{κ:Type}(kf:κ->D)(m:List (κ×D)):List (D×D):=m.map fun p=>(kf p.1,p.2)
def jt{κ:Type}[BEq κ](k:κ):List (κ×D)->Nat->Option (Nat×D)
 |[],_=>none
 |p::m,i=>if(k==p.1)=true then some (i,p.2)else jt k m (i+1)
def JW{κ:Type}[BEq κ](k:κ)(x:D)(m:List (κ×D)):List (κ×D):=match jt k m 0 with|some (i,_)=>m.set i (k,x)|none=>m++[(k,x)]
def aeF{κ:Type}[BEq κ](k:κ)(m:List (κ×D)):List (κ×D):=match jt k m 0 with|some (i,_)=>m.eraseIdx i|none=>m
def xU(d:D)(r:Option (Nat×D)):Option (Nat×D×D):=match r with|some (i,x)=>some (i,d,x)|none=>none
@[go_sem] theorem aaa (d:D) (i:Nat) (x:D):xU d (some (i,x))=some (i,d,x):=rfl
@[go_sem] theorem aab (d:D):xU d none=none:=rfl
section
variable {P:Program}{kt:TypeId}
theorem QY(h:bO P kt=some .int)(a b:Int):pf P 100 kt (.int .i64 a) (.int .i64 b)=some (a==b):=by simp[pf,h]
theorem QZ(h:bO P kt=some .str)(a b:List UInt8):pf P 100 kt (.str a) (.str b)=some (a==b):=by simp[pf,h]
@[go_sem] theorem HJ (h:bO P kt=some .int) (a:Int):oX P 100 kt (.int .i64 a)=true:=by simp[oX,h]
@[go_sem] theorem afq (h:bO P kt=some .str) (a:List UInt8):oX P 100 kt (.str a)=true:=by simp[oX,h]
theorem wP{κ:Type}[BEq κ][LawfulBEq κ](kf:κ->D)(he:∀a b,pf P 100 kt (kf a) (kf b)=some (a==b))(k:κ):∀ (m:List (κ×D)) (i:Nat),findD P kt (kf k) (enc kf m) i=some (xU (kf k) (jt k m i))
 |[],_=>rfl
 |p::m,i=>by
  have ih:=wP kf he k m (i+1)
  simp only[enc,List.map_cons,findD,he,jt]at ih|-
  by_cases h:k=p.1
  ·subst h;simp[xU]
  ·have:(k==p.1)=false:=by simpa using h
   simp only[this,Bool.false_eq_true,if_false];exact ih
@[go_sem] theorem Dz (h:bO P kt=some .int) (k:Int) (m:List (Int×D)):findD P kt (.int .i64 k) (enc (.int .i64) m) 0=some (xU (.int .i64 k) (jt k m 0)):=wP (.int .i64) (QY h) k m 0
@[go_sem] theorem aeG (h:bO P kt=some .str) (k:List UInt8) (m:List (List UInt8×D)):findD P kt (.str k) (enc .str m) 0=some (xU (.str k) (jt k m 0)):=wP .str (QZ h) k m 0
end
section
variable {κ:Type}(kf:κ->D)
theorem Np(m:List (κ×D))(k:κ)(x:D):enc kf m++[(kf k,x)]=enc kf (m++[(k,x)]):=by simp[enc]
theorem HK(m:List (κ×D))(i:Nat)(k:κ)(x:D):(enc kf m).set i (kf k,x)=enc kf (m.set i (k,x)):=by simp[enc,List.map_set]
theorem zo:∀ (m:List (κ×D)) (i:Nat),(enc kf m).eraseIdx i=enc kf (m.eraseIdx i)
 |[],i=>rfl
 |p::m,0=>rfl
 |p::m,i+1=>by
  have:=zo m i
  simp only[enc,List.map_cons,List.eraseIdx_cons_succ]at this|-
  rw[this]
theorem Q0(m:List (κ×D)):(((enc kf m).map (·.1)).zip ((enc kf m).map (·.2)))=enc kf m:=by
 induction m with
 |nil=>rfl
 |cons p m ih=>simp only[enc,List.map_cons,List.zip_cons_cons]at ih|-;rw[ih]
theorem JX{K:V->List (Nat×ad)->Prop}{id:Nat}{m:List (κ×D)}(h0:m=[]->K (.bY [.d (.bool false)]) [])
 (h1:∀ (i:Nat) k x,m[i]? =some (k,x)->K (.bY [.d (.bool true), .d (kf k), .d x]) [(id, .rW (enc kf (m.eraseIdx i)) (some (kf k,x)))]):Hh K id (enc kf m):=by
 refine⟨fun h=>h0 ?_,fun i k x h=> ?_⟩
 ·cases m with
  |nil=>rfl
  |cons p m=>simp[enc]at h
 ·simp only[enc,List.getElem?_map]at h
  cases hm:m[i]? with
  |none=>rw[hm]at h;cases h
  |some p=>
   rw[hm]at h
   simp at h
   obtain⟨rfl,rfl⟩:=h
   have:=h1 i p.1 p.2 (by rw[hm])
   rwa [<- zo]at this
end
theorem DA{κ:Type}[BEq κ][LawfulBEq κ]{k:κ}:∀ {m:List (κ×D)} {i j:Nat} {x:D},jt k m i=some (j,x)->i<=j/\m[j - i]? =some (k,x)
 |[],_,_,_,h=>by cases h
 |p::m,i,j,x,h=>by
  simp only[jt]at h
  split at h
  ·rename_i hk
   injection h with h;injection h with h1 h2
   subst h1;subst h2
   exact⟨Nat.le_refl _,by simp[(by simpa using hk:k=p.1)]⟩
  ·obtain⟨h1,h2⟩:=DA h
   refine⟨af, ?_⟩
   rw[show j - i=(j - (i+1))+1 by omega]
   simpa using h2
theorem zp{κ:Type}[BEq κ][LawfulBEq κ]{k:κ}:∀ {m:List (κ×D)} {i:Nat},jt k m i=none↔∀p∈m,p.1≠k
 |[],_=>by simp[jt]
 |p::m,i=>by
  simp only[jt]
  split
  ·rename_i hk
   simp[(by simpa using hk:k=p.1)]
  ·rename_i hk
   rw[zp]
   have:p.1≠k:=fun e=>hk (by simp[e])
   simp[this]
def rn(P:Program)(o:Nat->ad)(t:TypeId)(m k v:V):Option gr:=
 match sA P t,dM o k,dM o v,pk o m with
 |some (kt,_),some kd,some vd,some (some (id,GO,GP),l)=>if k.ids=[]/\oX P 100 kt kd=true/\kZ kd=true/\v.ids.all (· !=id)=true then match findD P kt kd l 0 with
  |some (some (i,k',_))=>if k'.same kd=true then some (.bY [],bG o v.ids++[(id, .map GO GP (l.set i (kd,vd)))],id::v.ids)else none
  |some none=>some (.bY [],bG o v.ids++[(id, .map GO GP (l++[(kd,vd)]))],id::v.ids)
  |none=>none
  else none
 |_,_,_,_=>none
@[go_sem low] theorem zq (P:Program) (o:Nat->ad) (t:TypeId) (m v:V) (k:D):fZ P o t m (.d k) v=rn P o t m (.d k) v:=by unfold fZ rn;rfl
def wQ(P:Program)(o:Nat->ad)(t:TypeId)(m k:V)(ok:Bool):Option gr:=
 match sA P t,dM o k,qA o m with
 |some (kt,vt),some kd,some (rd,l)=>if k.ids=[]/\oX P 100 kt kd=true then match findD P kt kd l 0 with
  |some (some (_,_,x))=>some (if ok=true then .bY [.d x, .d (.bool true)]else .d x,[],rd)
  |some none=>match zeroV P vt with
   |some z=>some (if ok=true then .bY [z, .d (.bool false)]else z,[],rd)
   |none=>none
  |none=>none
  else none
 |_,_,_=>none
@[go_sem low] theorem oG (P:Program) (o:Nat->ad) (t:TypeId) (m:V) (k:D) (ok:Bool):jr P o t m (.d k) ok=wQ P o t m (.d k) ok:=by unfold jr wQ;rfl
attribute [go_sem] wQ rn oA nh ni pn pq nj qA pk afI pg kZ D.same
end
theorem dec_lt{l:List UInt8}{i:Nat}{b:UInt8}(hb:l[i]? =some b)(h:b.toNat<128):Utf8.decode ⟨⟨l⟩⟩ i=(b.toNat,1):=by
 have e:(ByteArray.mk ⟨l⟩).get! i=b:=by
  show(Array.mk l)[i]! =b
  simp[hb]
 simp only[Utf8.decode,Nat.add_zero,e]
 rw[if_pos h]
theorem Yr{l:List UInt8}{i:Nat}{b:UInt8}(hb:l[i]? =some b)(h:128<=b.toNat):128<=(Utf8.decode ⟨⟨l⟩⟩ i).1:=by
 have e:(ByteArray.mk ⟨l⟩).get! i=b:=by
  show(Array.mk l)[i]! =b
  simp[hb]
 simp only[Utf8.decode,Nat.add_zero,e]
 rw[if_neg (by omega)]
 split
 ·split<;>simp_all[Utf8.runeError]
 ·split
  ·split
   ·rename_i h3;simp at h3;omega
   ·simp[Utf8.runeError]
  ·split
   ·split
    ·rename_i h3;simp at h3;omega
    ·simp[Utf8.runeError]
   ·simp[Utf8.runeError]
def Q1(r:Int):Bool:=decide (97<=r)&&decide (r<=122)||decide (65<=r)&&decide (r<=90)
theorem Nq(b:UInt8):Q1 b.toNat=letterF b:=by
 rw[Bool.eq_iff_iff]
 simp[Q1,letterF]
theorem JY(s:List UInt8)(hs:s.length<=9223372036854775807):aW Tryz.prog 145 [.str s] (.ret [.bool (j8 s)]):=by
 refine aW.aG mix Uy aE ?_
 rw[XM]
 refine fY ?_
 refine aD (fun k:Nat=>⟨aX [.d (.str s), .ab, .ab, .ab, .ab, .ab, .ptr 2 0],ay (fun _=> .no) 2 (.z7 s k),3⟩)
  (fun k=>k<=s.length/\(s.take k).all letterF=true) (fun k=>s.length - k) 0 ⟨Nat.zero_le _,aE⟩ (bL.bS _ af af (Good.nil.ay af rfl) (fun _ _=>rfl) ?_) (fun k hk=> ?_)
 ·exact dT
 by_cases h2:k<s.length
 ·obtain⟨b,hb⟩:=aB h2
  by_cases h3:b.toNat<128
  ·simp+contextual (disch:=first|omega|simp only[go_sem,false_implies]) only[go_sem,wrap64,if_pos,Nat.add_assoc,Nat.left_eq_add,Nat.add_eq_left,Nat.add_left_cancel_iff,h2,dec_lt hb h3]
   have hr:=Nq b
   simp only[Q1]at hr
   rw[hr]
   cases hl:letterF b with
   |true=>
    refine cK ?_
    refine aj (k+1) ⟨h2,nS hb hk.2 hl⟩ af (bL.bS _ af af (Good.nil.ay af rfl) (fun _ _=>by rw[uV]) ?_)
    exact dT
   |false=>
    refine cK ?_
    simp[j8,lR hb hl]
  ·have hr:letterF b=false:=by
    rw[<- Nq];simp[Q1];omega
   have hd:=Yr hb af
   refine Iy h2 ?_
   have:(decide (97<=((Utf8.decode ⟨⟨s⟩⟩ k).1:Int))&&decide (((Utf8.decode ⟨⟨s⟩⟩ k).1:Int)<=122)||decide (65<=((Utf8.decode ⟨⟨s⟩⟩ k).1:Int))&&decide (((Utf8.decode ⟨⟨s⟩⟩ k).1:Int)<=90))=false:=by
    rw[Bool.eq_false_iff];intro h;simp at h;omega
   rw[this]
   refine cK ?_
   simp[j8,lR hb hr]
 ·refine Iy h2 ?_
  refine aq (gP _ _ _) rfl ?_
  refine cK ?_
  rw[j8,nT hk.2 (by omega),Bool.true_and]
theorem DB{σ:Type}(l:List dX)(hl:l.length<=9223372036854775807)(g:Nat)(bR:List V)(base:Nat)(H:σ->Nat->ad)(step:σ->dX->σ×Bool)(hc:∀r∈V.aL bR,r<base)(ok:σ->Prop)(aY:∀x∈l,∀s,ok s->(step s x).2=true->ok (step s x).1)
 (h:∀x∈l,∀s,ok s->wH Tryz.prog g (.d x.d::bR) base (H s) (H (step s x).1) (.d (.bool (step s x).2))) (s:σ) (oY:ok s):
 wH Tryz.prog 147 [.d (.sl (l.map dX.d)), .func (.func g) [] bR] base (H s) (H (aQ step s l).1) (.d (.bool (aQ step s l).2)):=by
 intro o nx hI K X hK
 have dV:∀r∈V.aL bR,r<nx:=fun r hr=>Nat.lt_of_lt_of_le (hc r hr) hI.le
 refine bP.aG mix UA aE ?_
 rw[XO]
 refine a7 ?_
 refine aD (fun i:Nat×σ×(Nat->ad)×Nat=>⟨aX [.ab, .func (.func g) [] bR, .ab, .ab, .ab, .ab, .ab, .d (.sl (l.map dX.d)), .d (.i l.length), .d (.i i.1)],i.2.2.1,i.2.2.2⟩)
  (fun i=>i.1<=l.length/\eS base (H i.2.1) i.2.2.1 i.2.2.2/\nx<=i.2.2.2/\(∀id,base<=id->id<nx->i.2.2.1 id=o id)/\aQ step s l=aQ step i.2.1 (l.drop i.1)/\ok i.2.1) (fun i=>l.length - i.1) (0,s,o,nx)
  ⟨Nat.zero_le _,hI,Nat.le_refl _,fun _ _ _=>rfl,rfl,oY⟩ ?_ ?_
 ·exact VX
 rintro⟨k,s',o',nx'⟩ ⟨hk,OW,hn,c7,hf,wM⟩
 simp only at hk OW hn c7 hf wM
 refine a7 ?_
 refine ak (fun h1=> ?_) (fun h1=> ?_)
 ·simp at h1
  obtain⟨x,hx⟩:=aB h1
  have cf:=List.mem_of_getElem? hx
  have hd:l.drop k=x::l.drop (k+1):=by
   exact VS
  refine VA hx ?_
  have hl0:=OW.le
  refine gG (h x cf s' wM _ _ (?_:eS base (H s') _ (nx'+7)) _ _ fun o2 n2 m1 m2 m3=> ?_)
  ·exact aaL
  have Nj:∀id,base<=id->id<nx->o2 id=o id:=fun id h2 h3=>by
   exact aaZ
  refine a7 ?_
  refine ak (fun h2=> ?_) (fun h2=> ?_)
  ·refine a7 ?_
   simp at h2
   have:aQ step s l=((step s' x).1,false):=by rw[hf,hd,aQ,if_neg (by rw[h2];exact Bool.false_ne_true)]
   rw[this]at hK
   exact hK _ _ af (m2.mono af) Nj
  ·refine a7 ?_
   simp at h2
   have:aQ step s l=aQ step (step s' x).1 (l.drop (k+1)):=by rw[hf,hd,aQ,if_pos h2]
   refine aj (k+1,(step s' x).1,o2,n2) ⟨h1,m2,by dsimp only;omega,Nj,this,aY x cf s' wM h2⟩ kV ?_
   dsimp only
   have U3:∀r∈V.aL bR,r<n2:=fun r hr=>by have:=dV r hr;omega
   refine bL.bS _ af af m2.cu (fun _ _=>rfl) ?_
   exact dT
 ·exact abD
def pZ(l:List (List UInt8)):List (List UInt8×D):=l.map fun s=>(s, .bool true)
theorem JZ(l:List (List UInt8))(s:List UInt8):pZ l++[(s, .bool true)]=pZ (l++[s]):=by simp[pZ]
theorem J0{l:List (List UInt8)}{s:List UInt8}{i:Nat}{x:D}(h:jt s (pZ l) 0=some (i,x)):x= .bool true/\(pZ l).set i (s, .bool true)=pZ l/\l.any (· ==s)=true:=by
 obtain⟨_,h2⟩:=DA h
 rw[Nat.sub_zero]at h2
 simp only[pZ,List.getElem?_map]at h2
 cases hl:l[i]? with
 |none=>rw[hl]at h2;cases h2
 |some y=>
  rw[hl]at h2
  simp at h2
  obtain⟨rfl,rfl⟩:=h2
  refine⟨rfl, ?_, ?_⟩
  ·apply List.ext_getElem?
   intro j
   rw[List.getElem?_set]
   split
   ·rename_i e;subst e
    obtain⟨cq,hy⟩:=List.getElem?_eq_some_iff.1 hl
    simp[pZ,cq,hy]
   ·rfl
  ·exact List.any_eq_true.2 ⟨y,List.mem_of_getElem? hl,aE⟩
theorem J1{l:List (List UInt8)}{s:List UInt8}(h:jt s (pZ l) 0=none):l.any (· ==s)=false:=by
 rw[zp]at h
 rw[List.any_eq_false]
 intro x hx hs
 have:=h (x, .bool true) (by simp[pZ];exact hx)
 simp at hs;exact this hs
def Q2(bs:List (List UInt8))(x:dX):Bool:= !bs.any (· ==x.name)&&j8 x.name&&dU x.args 0 4
def iR(bs:List (List UInt8))(x:dX):List (List UInt8)×Bool:=(if bs.any (· ==x.name)=true then bs else bs++[x.name],Q2 bs x)
theorem Ys(x:dX)(hx:x.name.length<=9223372036854775807)(base mp id:Nat)(h:Nat->ad)(hmp:h mp= .row [.mp id])(h1:mp<base)(h2:id<base)(h3:id≠mp)(bs:List (List UInt8)):
 wH Tryz.prog 144 [.d x.d, .ptr mp 0] base (ay h id (.map 9 4 (enc .str (pZ bs)))) (ay h id (.map 9 4 (enc .str (pZ (iR bs x).1)))) (.d (.bool (iR bs x).2)):=by
 intro o nx hI K X hK
 have hle:=hI.le
 have hg:=hI.cu
 have q0:o mp= .row [.mp id]:=by rw[hI.eq mp h1,ae _ _ _ _ (by omega),hmp]
 have q1:o id= .map 9 4 (enc .str (pZ bs)):=by rw[hI.eq id h2,aa]
 refine bP.aG mix Ux aE ?_
 rw[XL]
 cases ha:jt x.name (pZ bs) 0 with
 |none=>
  have hn:=J1 ha
  have hs:iR bs x=(bs++[x.name],j8 x.name&&dU x.args 0 4):=by simp[iR,Q2,hn]
  rw[hs]at hK
  refine K7 q0 q1 ha ?_
  refine aq (JY _ hx) rfl ?_
  refine cK ?_
  refine iL (gH [.bool (dU x.args 0 4)] ?_ ?_)
  ·refine cK ?_
   exact fun _=>gP _ _ _
  refine cK ?_
  rw[Np,JZ]
  refine hK _ _ af ⟨dh,af,fun j hj=> ?_⟩ (fun j g1 g2=>by(repeat(first|rfl|rw[aa]|rw[ae _ _ _ _ (by omega)])))
  ·by_cases e:j=id
   ·exact vi
   ·exact aaW
 |some p=>
  obtain⟨i,y⟩:=p
  obtain⟨rfl,e1,hn⟩:=J0 ha
  have hs:iR bs x=(bs,false):=by simp[iR,Q2,hn]
  rw[hs]at hK
  refine K7 q0 q1 ha ?_
  rw[HK,e1]
  refine hK _ _ af ⟨dh,af,fun j hj=> ?_⟩ (fun j g1 g2=>by(repeat(first|rfl|rw[aa]|rw[ae _ _ _ _ (by omega)])))
  ·by_cases e:j=id
   ·exact vi
   ·exact aaW
theorem p9:∀ (l:List dX) (bs:List (List UInt8)),match cG l bs with|some B=>aQ iR bs l=(B,true)|none=>(aQ iR bs l).2=false
 |[],bs=>rfl
 |x::l,bs=>by
  have ih:=p9 l (bs++[x.name])
  simp only[cG,aQ,iR,Q2]
  by_cases h1:bs.any (· ==x.name)=true
  ·simp[h1]
  ·simp only[Bool.not_eq_true]at h1
   simp only[h1,Bool.false_eq_true,if_false,Bool.not_false,Bool.true_and]
   by_cases h2:(j8 x.name&&dU x.args 0 4)=true
   ·have h3: ¬ ((!j8 x.name|| !dU x.args 0 4)=true):=by simp at h2;simp[h2]
    rw[if_neg h3,if_pos h2]
    exact ih
   ·have h3:(!j8 x.name|| !dU x.args 0 4)=true:=by
     cases hn:j8 x.name<;>simp_all
    rw[if_pos h3,if_neg h2]
def m7(ok:Bool):Int:=if ok=true then 0 else 2
@[reducible] def J2 (s:az) (bs:List (List UInt8)):Nat->ad:=ay (ay (ay (fun _=> .no) 0 (.row s.row)) 3 (.row [.mp 2])) 2 (.map 9 4 (enc .str (pZ bs)))
theorem wR(s:az)(hs:s.Fits):aW Tryz.prog 119 [s.d] (.ret [.i (m7 (ji s))]):=by
 refine aW.aG mix Up aE ?_
 rw[XC]
 refine fY ?_
 refine aq (gP _ _ _) rfl ?_
 refine fY ?_
 cases h1:(!dU s.cons.length 2 12||decide (8<(s.bZ.length:Int)))with
 |true=>
  have:ji s=false:=by simp only[ji,h1,if_true]
  refine ou h1 ?_
  simp[this,m7]
 |false=>
  have KK:=p9 s.cons []
  have Nr:∀ (l:List dX),(∀x∈l,x.name.length<=9223372036854775807)->∀x∈l,∀bs,True->wH Tryz.prog 144 (.d x.d::[.ptr 3 0]) 4 (J2 s bs) (J2 s (iR bs x).1) (.d (.bool (iR bs x).2)):=fun l hl x hx bs _=>
   Ys x (hl x hx) 4 3 2 (ay (ay (fun _=> .no) 0 (.row s.row)) 3 (.row [.mp 2])) (aa _ _ _) af af af bs
  simp[dU]at h1
  obtain⟨a,b,r,hc⟩:∃a b r,s.cons=a::b::r:=by
   match h:s.cons with
   |[]=>exact GG
   |[a]=>exact GG
   |a::b::r=>exact⟨a,b,r,rfl⟩
  have fh:(!dU s.cons.length 2 12||decide (8<(s.bZ.length:Int)))=false:=by simp[dU];omega
  have uE:ji s=if(!mX a fB|| !mX b tB)=true then false else match cG s.cons []with
   |none=>false
   |some l=>(cG s.bZ l).isSome:=by
   unfold ji
   rw[if_neg (by rw[fh];exact Bool.false_ne_true),hc]
   dsimp only
   rfl
  refine ou fh ?_
  refine aT (DB s.cons hs.lc 144 [.ptr 3 0] 4 (J2 s) iR yg (fun _=>True) (fun _ _ _ _ _=>trivial) (Nr s.cons hs.nc) [] trivial _ _ ⟨?_,af,fun id aw=> ?_⟩ _ _ fun o2 n2 m1 m2 m3=> ?_)
  ·exact dh
  ·rcases(by omega:id=0\/id=1\/id=2\/id=3)with rfl|rfl|rfl|rfl<;>rfl
  have p0:∀ {bs:List (List UInt8)} {o:Nat->ad} {n:Nat},eS 4 (J2 s bs) o n->o 0= .row s.row:=fun h=>h.eq 0 af
  have p3:∀ {bs:List (List UInt8)} {o:Nat->ad} {n:Nat},eS 4 (J2 s bs) o n->o 3= .row [.mp 2]:=fun h=>h.eq 3 af
  cases hn:cG s.cons []with
  |none=>
   rw[hn]at KK
   simp only at KK
   rw[KK]
   refine fY ?_
   rw[uE,hn]
   split<;>rfl
  |some B=>
   rw[hn]at KK
   simp only at KK
   rw[KK]at m2|-
   simp+contextual (disch:=first|omega|simp only[go_sem,false_implies]) only[go_sem,wrap64,if_pos,Nat.add_assoc,Nat.left_eq_add,Nat.add_eq_left,Nat.add_left_cancel_iff,p0 m2]
   refine aT (DB s.bZ hs.lf 144 [.ptr 3 0] 4 (J2 s) iR yg (fun _=>True) (fun _ _ _ _ _=>trivial) (Nr s.bZ hs.nf) B trivial _ _ (m2.mono af) _ _ fun o4 n4 k1 k2 k3=> ?_)
   have KA:=p9 s.bZ B
   cases hf:cG s.bZ B with
   |none=>
    rw[hf]at KA
    simp only at KA
    rw[KA]
    refine fY ?_
    rw[uE,hn]
    simp only[hf]
    split<;>rfl
   |some C=>
    rw[hf]at KA
    simp only at KA
    rw[KA]at k2|-
    simp+contextual (disch:=first|omega|simp only[go_sem,false_implies]) only[go_sem,wrap64,if_pos,Nat.add_assoc,Nat.left_eq_add,Nat.add_eq_left,Nat.add_left_cancel_iff,p0 k2,hc]
    have U6:ji s= !(!mX a fB|| !mX b tB):=by
     rw[uE,hn];simp only[hf]
     cases(!mX a fB|| !mX b tB)<;>rfl
    refine ak (fun h5=> ?_) (fun h5=> ?_)
    ·refine cK ?_
     have uJ:(!mX a fB|| !mX b tB)=true:=h5
     rw[U6,uJ];rfl
    ·refine cK ?_
     have uJ:(!mX a fB|| !mX b tB)=false:=h5
     rw[U6,uJ];rfl
def jk(s:az)(l:List Tm):Bool:=ji s&&l.all (mD s)
theorem zr{α:Type}(p:α->Bool):∀ (l:List α) (u:Unit),aQ (fun _ x=>((),p x)) u l=((),l.all p)
 |[],_=>rfl
 |x::l,u=>by
  simp only[aQ,List.all_cons,zr p l]
  cases p x<;>rfl
theorem FI(l:List Tm)(hl:l.length<=9223372036854775807)(g:Nat)(bR:List V)(base:Nat)(h:Nat->ad)(p:Tm->Bool)(hc:∀r∈V.aL bR,r<base)
 (hp:∀x∈l,wH Tryz.prog g (.d x.d::bR) base h h (.d (.bool (p x)))):wH Tryz.prog 169 [.d (.sl (l.map Tm.d)), .func (.func g) [] bR] base h h (.d (.bool (l.all p))):=by
 have:=Dx l hl g bR base (fun _:Unit=>h) (fun _ x=>((),p x)) hc (fun _=>True) (fun _ _ _ _ _=>trivial) (fun x hx _ _=>hp x hx) () trivial
 simpa only[zr]using this
structure Tm.Fin (t:Tm):Prop where
 fits:t.fits
 mA:t.mA<=900000
theorem Ns(s:az)(hs:s.Fits)(t:Tm)(ht:t.Fin)(base sp:Nat)(h:Nat->ad)(Tj:h sp= .row s.row)(hb:sp<base):wH Tryz.prog 170 [.d t.d, .ptr sp 0] base h h (.d (.bool (mD s t))):=by
 intro o nx hI K X hK
 have hle:=hI.le
 have hg:=hI.cu
 have q0:o sp= .row s.row:=by rw[hI.eq sp hb,Tj]
 refine bP.aG mix UM aE ?_
 rw[X1]
 refine ou q0 ?_
 refine aq (Nn s hs t ht.fits ht.mA) rfl ?_
 refine cK ?_
 exact hK _ _ af ⟨dh,af,fun j hj=>by rw[ae _ _ _ _ (by omega),hI.eq j hj]⟩ (fun j g1 g2=>by(repeat(first|rfl|rw[aa]|rw[ae _ _ _ _ (by omega)])))
theorem Q3(s:az)(hs:s.Fits)(l:List Tm)(hl:l.length<=9223372036854775807)(hf:∀t∈l,t.Fin):aW Tryz.prog 158 [s.d, .sl (l.map Tm.d)] (.ret [.bool (jk s l)]):=by
 refine aW.aG mix UD aE ?_
 rw[XR]
 refine cK ?_
 refine aq (wR s hs) rfl ?_
 cases h1:ji s with
 |false=>
  refine aat ?_
  simp[jk,h1]
 |true=>
  refine aat ?_
  refine aT (FI l hl 170 [.ptr 0 0] 1 (ay (fun _=> .no) 0 (.row s.row)) (mD s) yg (fun x hx=>Ns s hs x (hf x hx) 1 0 _ (aa _ _ _) af) _ _ ⟨dh,af,fun id aw=>rfl⟩ _ _ fun o2 n2 m1 m2 m3=> ?_)
  refine cK ?_
  simp[jk,h1]
def rp(x:Tm×Int):Bool:=decide (3<x.1.op)&&x.1.op !=5
def vJ(b:Bool):Option ku:=if b=true then none else some .ret
def nV(t:Tm):Bool:=(aQ (xB vJ (fun _ x=> !rp x)) true (pre t 1)).2
theorem J3(t:Tm)(ht:t.Fin):aW Tryz.prog 160 [t.d] (.ret [.bool (nV t)]):=by
 refine aW.aG mix UF aE ?_
 rw[XT]
 refine cK ?_
 refine bX (wO t _ _ _ _ ?_)
 refine cK ?_
 refine nU t ht.fits ht.mA [.ab, .ab, .ptr 1 0] ?_ bF rfl dh yg (aa _ _ _)
  (fun _=>ay (ay (ay (fun _=> .no) 0 (.row t.row)) 1 (.row [.d (.bool false)])) 3 (.row t.row)) vJ (fun _ x=> !rp x) (fun _=>True) true trivial rfl (fun id aw=>rfl) (fun _ _ _ _ _ _=>trivial) ?_ ?_
 ·exact La
 ·intro L hL x8 x hx s' h1 h2 o3 n3 hI hn ho K X eJ
  simp only[pS]
  have hg:=hI.cu
  have q1:o3 1= .row [.d (.bool false)]:=hI.eq 1 af
  refine cK ?_
  refine nR hL (pd:=none) ?_ ?_
  ·(repeat(first|rfl|rw[aa]|rw[ae _ _ _ _ (by omega)]))
   exact ho
  refine cK ?_
  have hv:rp x=(decide (3<x.1.op)&&x.1.op !=5):=rfl
  rw[<- hv]
  cases hb:rp x with
  |true=>
   rw[hb]at eJ
   refine ou q1 ?_
   refine eJ _ _ _ .busy none af ⟨dh,af,fun id aw=> ?_⟩ cg (fun id h3 h4=>by(repeat(first|rfl|rw[aa]|rw[ae _ _ _ _ (by omega)])))
   by_cases e:id=1
   ·exact vi
   ·rw[ae _ _ _ _ e];(repeat(first|rfl|rw[aa]|rw[ae _ _ _ _ (by omega)]))
    exact hI.eq id aw
  |false=>
   rw[hb]at eJ
   refine cK ?_
   refine eJ _ _ _ .busy none af ⟨dh,af,fun id aw=> ?_⟩ cg (fun id h3 h4=>by(repeat(first|rfl|rw[aa]|rw[ae _ _ _ _ (by omega)])))
   (repeat(first|rfl|rw[aa]|rw[ae _ _ _ _ (by omega)]))
   exact hI.eq id aw
 ·intro o' n' hI
  have q1:o' 1= .row [.d (.bool false)]:=hI.eq 1 af
  rw[show nV t=(vJ (aQ (xB vJ (fun _ x=> !rp x)) true (pre t 1)).1).isNone from A8 _ _ _ _ rfl]
  generalize (aQ (xB vJ (fun _ x=> !rp x)) true (pre t 1)).1=sf at*
  cases sf<;>(simp only[vJ,if_true,if_false,Bool.false_eq_true,qS];simp+contextual (disch:=first|omega|simp only[go_sem,false_implies]) only[go_sem,wrap64,if_pos,q1];rfl)
def Tm.DC (t:Tm):Int:=(pre t 1).length
structure Tm.Cnt (t:Tm):Prop extends t.Fin where
 size:t.DC<=1000000
theorem Tm.Fin.ki {t k:Tm}(h:t.Fin)(hk:k∈t.kids):k.Fin:=⟨((Tm.cj _).1 h.fits).2 k hk,by have:=Tm.ra hk;have:=h.mA;omega⟩
theorem tV:∀ (t:Tm) (d d':Int),(pre t d).length=(pre t d').length:=by
 refine Tm.ek fun t ih d d'=> ?_
 rw[nJ,nJ]
 simp only[List.length_cons,List.length_flatMap]
 congr 2
 exact List.map_congr_left fun k hk=>ih k hk _ _
theorem Tm.zu {t k:Tm}(hk:k∈t.kids):k.DC+1<=t.DC:=by
 simp only[Tm.DC]
 rw[nJ t,tV k 1 (1+1)]
 simp only[List.length_cons,List.length_flatMap]
 have:∀ (l:List Tm),k∈l->(pre k (1+1)).length<=(l.map fun k=>(pre k (1+1)).length).sum:=by
  intro l
  induction l with
  |nil=>intro h;cases h
  |cons x l ih=>
   intro h
   rcases List.mem_cons.1 h with rfl|h
   ·simp only[List.map_cons,List.sum_cons];omega
   ·have:=ih h;simp only[List.map_cons,List.sum_cons];omega
 have:=this _ hk
 omega
theorem Tm.Cnt.ki {t k:Tm}(h:t.Cnt)(hk:k∈t.kids):k.Cnt:=⟨h.toFin.ki hk,by have:=Tm.zu hk;have:=h.size;omega⟩
def Tm.sz (t:Tm):Nat:=(pre t 1).length
def oH(l:List Tm):Nat:=(l.map Tm.sz).sum
theorem Tm.DD (t:Tm):t.DC=(t.sz:Int):=rfl
theorem Tm.iw (t:Tm):t.sz=1+oH t.kids:=by
 unfold Tm.sz oH
 rw[nJ,List.length_cons,List.length_flatMap,Nat.add_comm]
 congr 2
 exact List.map_congr_left fun k hk=>tV k _ _
theorem rq(k:Tm)(l:List Tm):oH (k::l)=k.sz+oH l:=by simp[oH]
theorem Tm.sY (t:Tm):1<=t.sz:=by rw[Tm.iw];omega
theorem zw(k:Tm)(l:List Tm):Tm.iZ (k::l)=Nat.max k.mA (Tm.iZ l):=by simp[Tm.iZ]
theorem oI:∀ (l:List Tm) (n:Nat),Tm.iZ l<=n↔∀k∈l,k.mA<=n
 |[],n=>by simp[Tm.iZ]
 |x::l,n=>by
  rw[zw]
  simp only[List.mem_cons,forall_eq_or_imp, <- oI l n]
  exact Nat.max_le
theorem Tm.qa (t:Tm):t.mA=1+Tm.iZ t.kids:=by cases t;simp[Tm.mA,Tm.kids]
theorem J4:∀t:Tm,∀left depth:Int,eQ t left depth=if(t.sz:Int)<=left/\(t.mA:Int)<=depth then left - t.sz else -1:=by
 refine Tm.ek fun t ih left depth=> ?_
 have hs:∀ (l:List Tm) (left d:Int),(∀k∈l,k∈t.kids)->0<=left->0<=d->cH l left d=if(oH l:Int)<=left/\(Tm.iZ l:Int)<=d then left - oH l else -1:=by
  intro l
  induction l with
  |nil=>intro left d _ h1 h2;simp[cH,oH,Tm.iZ,h1,h2]
  |cons k l Yh=>
   intro left d hk h1 h2
   simp only[cH,if_pos h1]
   rw[ih k (hk k (by simp))]
   have hm:(Tm.iZ (k::l):Int)<=d↔(k.mA:Int)<=d/\(Tm.iZ l:Int)<=d:=by
    have:= @Nat.max_le k.mA (Tm.iZ l) d.toNat
    have e:Tm.iZ (k::l)=max k.mA (Tm.iZ l):=zw k l
    rw[e];omega
   simp only[rq,hm]
   by_cases hc:(k.sz:Int)<=left/\(k.mA:Int)<=d
   ·rw[if_pos hc,Yh _ _ (fun x hx=>hk x (by simp[hx])) (by omega) h2]
    by_cases sD:(oH l:Int)<=left - k.sz/\(Tm.iZ l:Int)<=d
    ·rw[if_pos sD,if_pos (by omega)];omega
    ·rw[if_neg sD,if_neg (by omega)]
   ·rw[if_neg hc,pW (by omega),if_neg (by omega)]
 rw[Dw,Tm.iw,Tm.qa]
 by_cases h:left<1\/depth<1
 ·rw[if_pos h,if_neg (by omega)]
 ·rw[if_neg h,hs _ _ _ (fun _ h=>h) (by omega) (by omega)]
  by_cases hc:(oH t.kids:Int)<=left - 1/\(Tm.iZ t.kids:Int)<=depth - 1
  ·rw[if_pos hc,if_pos (by omega)];omega
  ·rw[if_neg hc,if_neg (by omega)]
theorem nW(t:Tm)(left depth:Int):0<=eQ t left depth↔(t.sz:Int)<=left/\(t.mA:Int)<=depth:=by
 rw[J4];split<;>omega
theorem FJ(t:Tm):gu t=true↔t.sz<=50/\t.mA<=14:=by
 simp only[gu,decide_eq_true_eq,nW];omega
theorem J5:∀ (t:Tm) (d m:Int),(∀x∈pre t d,x.2<=m)↔d+t.mA - 1<=m:=by
 refine Tm.ek fun t ih d m=> ?_
 rw[nJ,Tm.qa]
 simp only[List.mem_cons,forall_eq_or_imp,List.mem_flatMap]
 have h1:(∀x:Tm×Int,(∃k,k∈t.kids/\x∈pre k (d+1))->x.2<=m)↔∀k∈t.kids,d+1+k.mA - 1<=m:=by
  constructor
  ·intro h k hk
   exact(ih k hk _ _).1 fun x hx=>h x ⟨k,hk,hx⟩
  ·rintro h x ⟨k,hk,hx⟩
   exact(ih k hk _ _).2 (h k hk) x hx
 rw[h1]
 constructor
 ·rintro⟨h2,h3⟩
  have:=(oI t.kids (m - d).toNat).2 fun k hk=>by have:=h3 k hk;omega
  omega
 ·intro h
  have:=(oI t.kids (m - d).toNat).1 af
  exact⟨af,fun k hk=>by have:=this k hk;omega⟩
theorem HL(p:Tm->Bool):∀ (t:Tm) (d:Int),(pre t d).all (fun x=>p x.1)=(p t&&t.kids.all fun k=>(pre k (d+1)).all fun x=>p x.1):=by
 intro t d
 rw[nJ,List.all_cons,List.all_flatMap]
theorem wS(s:az):∀ (t:Tm) (d:Int),iN s t=(pre t d).all fun x=>bw s x.1:=by
 refine Tm.ek fun t ih d=> ?_
 rw[HL (bw s),lQ]
 congr 1
 exact S8
theorem FK:∀ (t:Tm) (d:Int),ff t=(pre t d).all fun x=>(decide (1<=x.1.op)&&decide (x.1.op<=3))||x.1.op==5:=by
 refine Tm.ek fun t ih d=> ?_
 rw[HL (fun t=>(decide (1<=t.op)&&decide (t.op<=3))||t.op==5),sX,Bool.and_comm]
 congr 1
 exact S8
theorem DE{s:az}{t:Tm}(h:bw s t=true):dU t.op 1 15=true:=by
 rw[show dU t.op 1 15=true↔1<=t.op/\t.op<=15 by simp[dU]]
 by_cases h6:dU t.op 6 15=true
 ·simp[dU]at h6;omega
 ·simp only[bw,if_neg h6]at h
  by_cases h1:t.op=1
  ·omega
  by_cases h2:t.op=2
  ·omega
  by_cases h3:t.op=3
  ·omega
  by_cases h4:t.op=4
  ·omega
  by_cases h5:t.op=5
  ·omega
  by_cases h8:t.op=8
  ·omega
  rw[if_neg h1,if_neg h2,if_neg h3,if_neg h4,if_neg h5,if_neg h8]at h
  cases h
def wT(s:az)(x:Tm×Int):Bool:= !(decide (12<x.2)|| !dU x.1.op 1 15|| !bw s x.1)
theorem tW(s:az):∀ (l:List (Tm×Int)) (n:Int) (b:Bool),(aQ (xB fJ (hY s)) (n,b) l).2=(decide (l=[]\/n+l.length<=40)&&l.all (wT s))
 |[],n,b=>by simp[aQ]
 |x::l,n,b=>by
  have e1:∀c,o6 s n x=c->xB fJ (hY s) (n,b) x=((n+1, !c), !c):=fun c hc=>by show((n+1, !o6 s n x),(fJ (n+1, !o6 s n x)).isNone)=_;rw[hc];cases c<;>rfl
  have hb:o6 s n x=(decide (40<n+1)|| !wT s x):=by simp[o6,wT,Bool.or_assoc]
  rw[List.all_cons]
  cases hg:wT s x with
  |false=>
   have e:o6 s n x=true:=by rw[hb,hg];simp
   rw[aQ,e1 _ e];simp
  |true=>
   by_cases h40:40<n+1
   ·have:decide (x::l=[]\/n+(x::l).length<=40)=false:=by simp;omega
    have e:o6 s n x=true:=by rw[hb];simp[h40]
    rw[this,Bool.false_and,aQ,e1 _ e];simp
   ·have e:o6 s n x=false:=by rw[hb,hg];simp;omega
    rw[aQ,e1 _ e]
    simp only[Bool.not_false,if_true,tW s l,Bool.true_and]
    congr 1
    cases l with
    |nil=>simp;omega
    |cons y l=>simp;omega
theorem qb(s:az)(t:Tm):mD s t=gI s t:=by
 rw[mD,tW,gI,wS s t 1,Bool.eq_iff_iff]
 have hn:pre t 1≠[]:=by rw[nJ];simp
 simp only[Bool.and_eq_true,decide_eq_true_eq,hn,false_or,nW,List.all_eq_true]
 have hd:=J5 t 1 12
 constructor
 ·rintro⟨h1,h2⟩
  have h3:∀x∈pre t 1,x.2<=12:=fun x hx=>by have:=h2 x hx;simp[wT]at this;omega
  have:=hd.1 h3
  exact⟨⟨by unfold Tm.sz;omega,af⟩,fun x hx=>by have:=h2 x hx;simp[wT]at this;exact this.2⟩
 ·rintro⟨⟨h1,h2⟩,h3⟩
  have h4:=hd.2 af
  refine⟨by unfold Tm.sz at h1;omega,fun x hx=> ?_⟩
  have h5:=h4 x hx
  have h6:=h3 x hx
  have h7:=DE h6
  simp[wT,h6,h7];omega
theorem wU:∀ (l:List (Tm×Int)) (b:Bool),(aQ (xB vJ (fun _ x=> !rp x)) b l).2=l.all fun x=> !rp x
 |[],b=>rfl
 |x::l,b=>by
  have e1:∀c,rp x=c->xB vJ (fun _ x=> !rp x) b x=(!c, !c):=fun c hc=>by show(!rp x,(vJ (!rp x)).isNone)=_;rw[hc];cases c<;>rfl
  rw[aQ,List.all_cons]
  cases hv:rp x with
  |false=>rw[e1 _ hv];simp[wU l]
  |true=>rw[e1 _ hv];simp
theorem oJ{s:az}{t:Tm}(h:gI s t=true):nV t=ff t:=by
 rw[nV,wU,FK t 1,Bool.eq_iff_iff]
 simp only[gI,Bool.and_eq_true,wS s t 1,List.all_eq_true]at h
 simp only[List.all_eq_true]
 refine forall_congr' fun x=>forall_congr' fun hx=> ?_
 have:=DE (h.2 x hx)
 simp[dU]at this
 simp[rp]
 omega
theorem qc:∀a:Tm,gY a a=true:=by
 refine Tm.ek fun a ih=> ?_
 rw[rk]
 have:iO a.kids a.kids=true:=(iQ _ _ rfl).2 fun i x y hx hy=>by
  rw[hx]at hy;injection hy with hy;subst hy;exact ih x (List.mem_of_getElem? hx)
 simp[this]
theorem dR:∀a b:Tm,gY a b=true↔a=b:=by
 refine Tm.ek fun a ih b=>⟨fun h=> ?_,fun e=>e ▸ qc _⟩
 rw[rk]at h
 simp only[Bool.and_eq_true,beq_iff_eq]at h
 obtain⟨⟨⟨h1,h2⟩,h3⟩,h4⟩:=h
 have h5:=(iQ _ _ h3).1 h4
 have:a.kids=b.kids:=by
  apply List.ext_getElem?
  intro i
  cases hx:a.kids[i]? with
  |none=>simp at hx;symm;simp;omega
  |some x=>
   have hi:=(List.getElem?_eq_some_iff.1 hx).1
   obtain⟨y,hy⟩:=aB (l:=b.kids) (k:=i) af
   rw[hy,(ih x (List.mem_of_getElem? hx) y).1 (h5 i x y hx hy)]
 rw[<- Tm.eta a, <- Tm.eta b,h1,h2,this]
section
def J6(l:List (D×D)):List (Int×D):=l.map fun p=>((match p.1 with| .int _ n=>n|_=>0),p.2)
def Yt(l:List (D×D)):Bool:=l.all fun p=>match p.1 with| .int .i64 _=>true|_=>false
@[go_sem] theorem afr (m:List (Int×D)):J6 (enc (D.int .i64) m)=m:=by
  unfold J6 enc;rw[List.map_map];simp[Function.comp_def]
@[go_sem] theorem afs (m:List (Int×D)):Yt (enc (D.int .i64) m)=true:=by simp[Yt,enc]
@[go_sem] theorem aft:Yt []=true:=rfl
@[go_sem] theorem afu:J6 []=[]:=rfl
theorem A9:∀ {l:List (D×D)},Yt l=true->enc (D.int .i64) (J6 l)=l
 |[],_=>rfl
 |(k,x)::l,h=>by
  simp only[Yt,List.all_cons,Bool.and_eq_true]at h
  have ih:=A9 (l:=l) h.2
  obtain⟨n,h1⟩:∃n,k= .int .i64 n:=by
   have h1:=h.1
   split at h1
   ·exact⟨_,rfl⟩
   ·cases h1
  subst h1
  simp only[enc,J6,List.map_cons]at ih|-
  rw[ih]
def nX(l:List Int):List (Int×D):=l.map fun n=>(n, .bool true)
@[go_sem] theorem aeH:nX []=[]:=rfl
def ew(l:List Int)(n:Int):List Int:=if l.contains n=true then l else l++[n]
theorem kj{l:List Int}{n k:Int}:k∈ew l n↔k∈l\/k=n:=by
 unfold ew
 split
 ·rename_i h
  have:n∈l:=by simpa using h
  constructor
  ·exact .inl
  ·rintro(h|rfl)<;>assumption
 ·simp
theorem FL{l:List Int}(n:Int)(h:l.Nodup):(ew l n).Nodup:=by
 unfold ew
 split
 ·exact h
 ·rename_i hn
  have hn:n∉l:=by simpa using hn
  rw[List.nodup_append]
  exact⟨h,aE,fun a ha b hb=>by simp at hb;subst hb;intro e;subst e;exact hn ha⟩
theorem rr:∀ (l:List Int) (n:Int) (i:Nat),jt n (nX l) i=(l.findIdx? (· ==n)).map fun j=>(i+j,D.bool true)
 |[],n,i=>rfl
 |x::l,n,i=>by
  have ih:=rr l n (i+1)
  simp only[nX,List.map_cons,jt,List.findIdx?_cons]at ih|-
  by_cases h:n=x
  ·subst h;simp
  ·have h2: ¬x=n:=fun e=>h e.symm
   simp only[beq_iff_eq,h,h2,if_false,ih,Option.map_map,Function.comp_def]
   congr 1;funext j;congr 1;omega
@[go_sem] theorem aac (l:List Int) (n:Int):JW n (.bool true) (nX l)=nX (ew l n):=by
  unfold JW ew
  rw[rr]
  cases h:l.findIdx? (· ==n)with
  |none=>
   have:l.contains n=false:=by
    rw[List.findIdx?_eq_none_iff]at h
    rw[Bool.eq_false_iff];intro hc
    have:=h n (by simpa using hc)
    simp at this
   simp only[Option.map_none,this,Bool.false_eq_true,if_false]
   simp[nX]
  |some j=>
   rw[List.findIdx?_eq_some_iff_getElem]at h
   obtain⟨hj,he,_⟩:=h
   have e:l[j]=n:=by simpa using he
   have:l.contains n=true:=by rw[List.contains_iff_mem, <- e];exact List.getElem_mem hj
   simp only[Option.map_some,this,if_true,Nat.zero_add]
   apply List.ext_getElem?
   intro k
   rw[List.getElem?_set]
   split
   ·rename_i hk;subst hk;simp[nX,hj,e]
   ·rfl
def aeI(l:List Int)(n:Int):List Int:=match l.findIdx? (· ==n)with|some j=>l.eraseIdx j|none=>l
theorem mE{α β:Type}(f:α->β):∀ (l:List α) (j:Nat),(l.map f).eraseIdx j=(l.eraseIdx j).map f
 |[],_=>rfl
 |_::_,0=>rfl
 |x::l,j+1=>by simp[mE f l j]
@[go_sem] theorem aad (l:List Int) (n:Int):aeF n (nX l)=nX (aeI l n):=by
  unfold aeF aeI
  rw[rr]
  cases h:l.findIdx? (· ==n)with
  |none=>simp
  |some j=>simp only[Option.map_some,Nat.zero_add];exact mE _ _ _
section
variable {P:Program}{o:Nat->ad}{t:TypeId}{id:Nat}{n:Int}{v:V}
def sZ(P:Program)(kt:TypeId):Bool:=match bO P kt with|some .int=>true|_=>false
theorem zA{kt:TypeId}(h:sZ P kt=true):bO P kt=some .int:=by
 unfold sZ at h;split at h
 ·assumption
 ·cases h
@[go_sem] theorem aae {kt:TypeId} (h:bO P kt=some .int):sZ P kt=true:=by unfold sZ;rw[h]
def Yu(P:Program)(o:Nat->ad)(t:TypeId)(id:Nat)(n:Int)(v:V):Option gr:=
 match sA P t,dM o v,o id with
 |some (kt,_),some vd, .map GO GP l=>match sZ P kt&&Yt l&&v.ids.all (· !=id)with
  |true=>some (.bY [],bG o v.ids++[(id, .map GO GP (enc (D.int .i64) (JW n vd (J6 l))))],id::v.ids)
  |false=>rn P o t (.mp id) (.d (.int .i64 n)) v
 |_,_,_=>rn P o t (.mp id) (.d (.int .i64 n)) v
@[go_sem high] theorem Yv:fZ P o t (.mp id) (.d (.int .i64 n)) v=Yu P o t id n v:=by
  unfold Yu
  split
  ·rename_i kt vt vd GO GP l h1 h2 h3
   split
   ·rename_i hc
    simp only[Bool.and_eq_true]at hc
    obtain⟨⟨c1,c2⟩,c3⟩:=hc
    have c4:=zA c1
    have c5:dM o (.d (.int .i64 n))=some (.int .i64 n):=rfl
    have hl:=A9 c2
    unfold fZ
    simp only[h1,c5,h2,pk,h3]
    rw[if_pos ⟨rfl,HJ c4 n,rfl,c3⟩]
    conv=>lhs;rw[<- hl]
    rw[Dz c4]
    unfold JW
    cases jt n (J6 l) 0 with
    |none=>simp[xU,enc]
    |some p=>simp[xU,HK,D.same,pg]
   ·exact zq ..
  ·exact zq ..
attribute [go_sem] Yu
def isS(l:List (D×D)):Bool:=l.all fun p=>match p.2 with| .bool true=>true|_=>false
@[go_sem] theorem afv (l:List Int):isS (enc (D.int .i64) (nX l))=true:=by simp[isS,enc,nX]
@[go_sem] theorem afw:isS []=true:=rfl
theorem HM:∀ {m:List (Int×D)},isS (enc (D.int .i64) m)=true->nX (m.map (·.1))=m
 |[],_=>rfl
 |(k,x)::m,h=>by
  simp only[isS,enc,List.map_cons,List.all_cons,Bool.and_eq_true]at h
  have ih:=HM (m:=m) h.2
  have h1:x= .bool true:=by
   have h1:=h.1
   split at h1
   ·rfl
   ·cases h1
  simp only[nX,List.map_cons]at ih|-
  rw[ih,h1]
def Nu(P:Program)(o:Nat->ad)(t:TypeId)(m:V)(n:Int)(ok:Bool):Option gr:=
 match sA P t with
 |some (kt,vt)=>match zeroV P vt with
  |some (.d (.bool false))=>match qA o m with
   |some (rd,l)=>match sZ P kt&&Yt l&&isS l with
    |true=>some (match ok with|true=> .bY [.d (.bool (((J6 l).map (·.1)).contains n)), .d (.bool (((J6 l).map (·.1)).contains n))]|false=> .d (.bool (((J6 l).map (·.1)).contains n)),[],rd)
    |false=>wQ P o t m (.d (.int .i64 n)) ok
   |none=>wQ P o t m (.d (.int .i64 n)) ok
  |_=>wQ P o t m (.d (.int .i64 n)) ok
 |none=>wQ P o t m (.d (.int .i64 n)) ok
@[go_sem] theorem Nv (l:List Int):((nX l).map (·.1))=l:=by simp[nX,Function.comp_def]
@[go_sem high] theorem aeJ {m:V} {ok:Bool}:jr P o t m (.d (.int .i64 n)) ok=Nu P o t m n ok:=by
  unfold Nu
  split
  ·rename_i kt vt h1
   split
   ·rename_i hz
    split
    ·rename_i rd l h
     split
     ·rename_i hc
      simp only[Bool.and_eq_true]at hc
      have c4:=zA hc.1.1
      have hl:=A9 hc.1.2
      have hs:nX ((J6 l).map (·.1))=J6 l:=HM (by rw[hl];exact hc.2)
      have c5:dM o (.d (.int .i64 n))=some (.int .i64 n):=rfl
      unfold jr
      simp only[h1,c5,h]
      rw[if_pos ⟨rfl,HJ c4 n⟩]
      conv=>lhs;rw[<- hl]
      rw[Dz c4, <- hs,rr,Nv]
      generalize (J6 l).map (·.1)=l'
      cases hf:l'.findIdx? (· ==n)with
      |none=>
       have:l'.contains n=false:=by
        rw[List.findIdx?_eq_none_iff]at hf
        rw[Bool.eq_false_iff];intro hc
        have:=hf n (by simpa using hc)
        simp at this
       cases ok<;>simp only[Option.map_none,xU,hz,this,if_true,Bool.false_eq_true,if_false]
      |some j=>
       rw[List.findIdx?_eq_some_iff_getElem]at hf
       obtain⟨hj,he,_⟩:=hf
       have e:l'[j]=n:=by simpa using he
       have:l'.contains n=true:=by rw[List.contains_iff_mem, <- e];exact List.getElem_mem hj
       cases ok<;>simp only[Option.map_some,xU,this,if_true,Bool.false_eq_true,if_false]
     ·exact oG ..
    ·exact oG ..
   ·exact oG ..
  ·exact oG ..
attribute [go_sem] Nu
end
attribute [go_sem] List.head?_cons
end
mutual
def fO(v:Int):Tm->Bool
 | .mk op n kids=>if op=1 then n==v else Ba v op n kids 0
def Ba(v op n:Int):List Tm->Nat->Bool
 |[],_=>false
 |k::l,i=>(fO v k&& !(op==8&&i==1&&n==v))||Ba v op n l (i+1)
end
theorem s7(v:Int)(t:Tm):fO v t=if t.op=1 then t.n==v else Ba v t.op t.n t.kids 0:=by cases t;rfl
@[reducible] def J7 (l:List Int):ad:= .map 3 4 (enc (D.int .i64) (nX l))
end Go.Proofs.YtlhemmpklhhgoaaGreat
