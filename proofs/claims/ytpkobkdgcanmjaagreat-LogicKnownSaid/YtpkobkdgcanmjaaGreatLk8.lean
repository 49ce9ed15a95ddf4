/-
  A PART OF THE PROOF. Conditions: none.
-/
import Derived.Test.YtpkobkdgcanmjaaGreatLk7
set_option linter.unusedSimpArgs false
set_option linter.unusedVariables false
namespace Go.Proofs.YtpkobkdgcanmjaaGreat
section
variable {P:Program}{M:Nat->Prop}{φ a7:Place}{H0:Hp}{w w' w0:World}{n:Nat}{s:S}{us:Nat->Prop}{a:Act}{cx:Cx}{ro:Option Nat}{k:Nat}
variable {Q:Exit->Act->World->Prop}
theorem sw{ops:Array Oper}{po:Nat->Nat->Prop}{m:Nat}{X:V->S->Prop}{K:S->Prop}
 (kH:∀k,k<ops.size->∀j∈aB ops k,j<k)
 (re:∀E:Nat->Bool,(∀k,k<ops.size->E k=true->∀j∈aB ops k,E j=true)->∀k,k<ops.size->(∀j∈aB ops k,E j=true)->∀j,po k j->E j=true)
 (rf:∀k,m<=k->k<ops.size->∀j,j<k->po k j)
 (hK:∀s φ a w,K s->aQ M a7 H0 w0 n cx φ s a w->Q .normal a w)
 (hX:∀v s' aj a' w' val,X v s'->aQ M a7 H0 w0 n cx aj s' a' w'->V.den (ad M aj s'.H) aj s'.H w' v val->Q (.panic [{v:=val,recovered:=false}]) a' w'):
 ∀ (d t:Nat) (s:S) (φ:Place) (ae:Array Bool) (a:Act) (w:World),t+d=ops.size->ae.size=ops.size->(∀k,k<ops.size->ae.getD k false=decide (k<t))->m<=t->
   aQ M a7 H0 w0 n cx φ s a w->ny P n ops X K (ops.toList.drop t) s->wpAnyIn (bU ro) k P .any ops Q d ae a w:=by
 intro d
 induction d with
 |zero=>
  intro t s φ ae a w ht cG hl sL hs h
  have e:t=ops.size:=by omega
  subst e
  refine⟨?_, ?_⟩
  ·rw[List.eq_nil_iff_forall_not_mem]
   intro j hj
   obtain⟨h1,o,h2,_⟩:=mem_ready.1 hj
   have JT:j<ops.size:=(Array.getElem?_eq_some_iff.1 h2).1
   have:=hl j JT
   simp only[Array.getD_eq_getD_getElem?]at this h1
   rw[Array.getElem?_eq_getElem (by omega)]at this h1
   simp only[Option.getD_some]at this h1
   rw[h1]at this
   simp[JT]at this
  ·rw[List.drop_eq_nil_of_le (by simp)]at h
   exact hK s φ a w h hs
 |succ d ih=>
  intro t s φ ae a w ht cG hl sL hs h
  have G9:t<ops.size:=by omega
  refine⟨fun hr=> ?_,fun i hi=> ?_⟩
  ·have:=ij kH cG hr t G9
   rw[hl t G9]at this
   simp at this
  ·obtain⟨h1,o,h2,h3⟩:=mem_ready.1 hi
   have kB:i<ops.size:=(Array.getElem?_eq_some_iff.1 h2).1
   have fN:ae.getD i false=false:=by
    simp only[Array.getD_eq_getD_getElem?]at h1|-
    rw[Array.getElem?_eq_getElem (by omega)]at h1|-
    simpa using h1
   have MH:t<=i:=by
    have:=hl i kB
    rw[fN]at this
    have:=of_decide_eq_false this.symm
    omega
   have tQ:∀j∈aB ops i,ae.getD j false=true:=by
    intro j hj
    simp only[aB,h2,List.mem_map,List.mem_filter]at hj
    obtain⟨e,⟨he,hb⟩,rfl⟩:=hj
    exact h3 e (Array.mem_toList_iff.1 he) hb
   have kq:∀k,k<ops.size->ae.getD k false=true->∀j∈aB ops k,ae.getD j false=true:=by
    intro k hk dr j hj
    have Au:=kH k hk j hj
    rw[hl k hk]at dr
    rw[hl j (by omega)]
    have:=of_decide_eq_true dr
    exact decide_eq_true (by omega)
   have GA:i=t:=by
    rcases Nat.eq_or_lt_of_le MH with e|e
    ·exact e.symm
    ·have:=re (fun k=>ae.getD k false) kq i kB tQ t (rf i (by omega) kB t e)
     rw[hl t G9]at this
     simp at this
   subst GA
   have Bb:ops.toList.drop i=o::ops.toList.drop (i+1):=by
    have AH:i<ops.toList.length:=by simpa using kB
    rw[List.drop_eq_getElem_cons AH]
    have:ops.toList[i]=o:=by
     have:=(Array.getElem?_eq_some_iff.1 h2).2
     simpa using this
    rw[this]
   rw[Bb]at h
   obtain⟨g1,g2⟩:=ja hs h
   have AO:∀k,k<ops.size->(ae.setIfInBounds i true).getD k false=decide (k<i+1):=by
    intro k hk
    simp only[Array.getD_eq_getD_getElem?]
    by_cases e:k=i
    ·subst e;simp[cG,kB]
    ·rw[Array.getElem?_setIfInBounds_ne (Ne.symm e)]
     have:=hl k hk
     simp only[Array.getD_eq_getD_getElem?]at this
     rw[this]
     exact decide_eq_decide.2 (by omega)
   have fK:∀s' aj a' w',ny P n ops X K (ops.toList.drop (i+1)) s'->aQ M a7 H0 w0 n cx aj s' a' w'->wpAnyIn (bU ro) k P .any ops Q d (ae.setIfInBounds i true) a' w':=
    fun s' aj a' w' hk eP=>ih (i+1) s' aj _ a' w' (by omega) (by simp[cG]) AO (by omega) eP hk
   unfold wpOpIn
   simp only[h2]
   split
   ·rename_i hw
    exact mN hs (g1 hw) (fun s' aj a' w' hk eP=>fK s' aj a' w' hk eP) (fun v s' aj w' val hx eP hd=>hX v s' aj a w' val hx eP hd)
   ·rename_i hw
    obtain⟨ba,h3⟩:=g2 (by simpa using hw)
    exact⟨fun _ _=>trivial,fK _ _ _ _ h3 (oY hs ba)⟩
theorem qw(aC:P.follows .mixedOrders=true){ops:Array Oper}{l:List aV}{id:Nat}(gN:eU n ops ops.toList=some l)(kH:∀k,k<ops.size->∀j∈aB ops k,j<k){ac:Nat->cC}{m:Nat}(hm:m<=ops.size){X:V->S->Prop}{K:S->Prop}
 (hs:aQ M a7 H0 w0 n cx φ s a w) (x7:∀i,i<m->xa P (cj (aL l) ac (fun _=>true) s i) (s.nx+i) (aL l i) (ac i))
 (Bc:∀i,i<m->(ac i).ok=true)
 {po:Nat->Nat->Prop} (re:∀E:Nat->Bool,(∀k,k<ops.size->E k=true->∀j∈aB ops k,E j=true)->∀k,k<ops.size->(∀j∈aB ops k,E j=true)->∀j,po k j->E j=true) (pt:∀k,k<ops.size->∀j,po k j->j<k)
 (hc:∀i j,i<j->j<m-> ¬po j i->Compat (aL l) ac (fun i=>mm (ac i)) i j)
 (rf:∀k,m<=k->k<ops.size->∀j,j<k->po k j)
 (lA:ny P n ops X K (ops.toList.drop m) ⟨(cj (aL l) ac (fun _=>true) s m).env,(cj (aL l) ac (fun _=>true) s m).o,s.nx+m⟩)
 (hK:∀s φ a w,K s->aQ M a7 H0 w0 n cx φ s a w->Q .normal a w)
 (hX:∀v s' aj a' w' val,X v s'->aQ M a7 H0 w0 n cx aj s' a' w'->V.den (ad M aj s'.H) aj s'.H w' v val->Q (.panic [{v:=val,recovered:=false}]) a' w'):
 (Code.region id ops true).wpIn (bU ro) k P Q a w:=by
 refine wpIn_region_any aC ?_
 have hs:=pn hs
 generalize ({w with drawn:=w.drawn+1}:World)=w at hs
 let N:=m
 let Ef (ae:Array Bool) (k:Nat):Bool:=ae.getD k false
 let qu (ae:Array Bool) (j:Nat):Prop:=j<s.nx\/∃k,k<N/\Ef ae k=true/\j=s.nx+k
 have key:∀ (fuel:Nat) (ae:Array Bool) (φ:Place) (a:Act) (w:World),ae.size=ops.size->ae.count true+fuel=ops.size->(∀k,k<ops.size->Ef ae k=true->∀j∈aB ops k,Ef ae j=true)->(∀k,k<ops.size->Ef ae k=true->k<m)->
  kA M a7 H0 w0 n cx φ (cj (aL l) ac (Ef ae) s N) (qu ae) a w->wpAnyIn (bU ro) k P .any ops Q fuel ae a w:=by
  have fin:∀ (fuel:Nat) (ae:Array Bool) (φ:Place) (a:Act) (w:World),ae.size=ops.size->ae.count true+fuel=ops.size->(∀k,k<ops.size->Ef ae k=true->k<m)->(∀k,k<N->Ef ae k=true)->kA M a7 H0 w0 n cx φ (cj (aL l) ac (Ef ae) s N) (qu ae) a w->wpAnyIn (bU ro) k P .any ops Q fuel ae a w:=by
   intro fuel ae φ a w cG ss cm aT hu
   have e:∀k,k<=N->cj (aL l) ac (Ef ae) s k=cj (aL l) ac (fun _=>true) s k:=by
    intro k
    induction k with
    |zero=>intro _;rfl
    |succ k ih=>intro hk;simp only[cj,aT k (by omega),ih (by omega)]
   rw[e N (Nat.le_refl _)]at hu
   obtain⟨k1,k2⟩:=dT (us':=fun id=>id<s.nx+N) hu.heap (fun id h=>by
    show id<s.nx+N
    rcases h with h|⟨k,hk,_,rfl⟩<;>omega)
   have Ha:∀k,k<ops.size->ae.getD k false=decide (k<m):=by
    intro k hk
    by_cases h:k<m
    ·rw[decide_eq_true h];exact aT k h
    ·rw[decide_eq_false h]
     cases hb:ae.getD k false with
     |false=>rfl
     |true=>exact absurd (cm k hk hb) h
   have Nf:ae.count true=m:=by
    have e1:ae=Array.ofFn (n:=ops.size) fun k=>decide (k.1<m):=by
     apply Array.ext
     ·simp[cG]
     ·intro k h1 h2
      have:=Ha k (by omega)
      simp only[Array.getD_eq_getD_getElem?]at this
      rw[Array.getElem?_eq_getElem h1]at this
      simpa using this
    have e2:ae.toList=List.replicate m true++List.replicate (ops.size - m) false:=by
     apply List.ext_getElem?
     intro k
     by_cases hk:k<ops.size
     ·have h1:ae.toList[k]? =some (decide (k<m)):=by
       have:=Ha k hk
       simp only[Array.getD_eq_getD_getElem?]at this
       rw[Array.getElem?_eq_getElem (by omega)]at this
       simp only[Option.getD_some]at this
       rw[Array.getElem?_toList,Array.getElem?_eq_getElem (by omega),this]
      rw[h1]
      by_cases h:k<m
      ·rw[List.getElem?_append_left (by simpa using h)]
       simp[h]
      ·rw[List.getElem?_append_right (by simpa using(by omega:m<=k))]
       rw[List.length_replicate,List.getElem?_replicate,if_pos (by omega),decide_eq_false h]
     ·rw[List.getElem?_eq_none (by simp[cG];omega),List.getElem?_eq_none (by simp;omega)]
    rw[<- Array.count_toList,e2,List.count_append,List.count_replicate_self,List.count_replicate]
    simp
   exact sw kH re rf hK hX fuel m ⟨(cj (aL l) ac (fun _=>true) s m).env,(cj (aL l) ac (fun _=>true) s m).o,s.nx+m⟩ φ ae a w (by omega) cG Ha (Nat.le_refl _) ⟨k1,hu.tr.trans k2,hu.size,hu.defers.mono k2,fun i=>V.au k2 _ _ (hu.env i)⟩ lA
  intro fuel
  induction fuel with
  |zero=>
   intro ae φ a w cG ss kq cm hu
   have aT:∀k,k<ops.size->Ef ae k=true:=by
    intro k hk
    have h1:ae.count true=ae.size:=by omega
    rw[Array.count_eq_size]at h1
    have:=h1 ae[k] (Array.getElem_mem (by omega))
    simp only[Ef,Array.getD_eq_getD_getElem?]
    rw[Array.getElem?_eq_getElem (by omega)]
    simpa using this.symm
   exact fin 0 ae φ a w cG ss cm (fun k hk=>aT k (by omega)) hu
  |succ fuel ih=>
   intro ae φ a w cG ss kq cm hu
   by_cases xd:∀k,k<m->Ef ae k=true
   ·exact fin (fuel+1) ae φ a w cG ss cm xd hu
   have hex:∃j,j<m/\Ef ae j=false:=by
    apply Classical.byContradiction
    intro xQ
    refine xd fun k hk=> ?_
    cases hb:Ef ae k with
    |true=>rfl
    |false=>exact absurd ⟨k,hk,hb⟩ xQ
   obtain⟨j0,Ng,Bd⟩:=hex
   refine⟨fun hr=> ?_,fun i hi=> ?_⟩
   ·have:=ij kH cG hr j0 (by omega)
    rw[show ae.getD j0 false=false from Bd]at this
    cases this
   obtain⟨h1,o,h2,h3⟩:=mem_ready.1 hi
   have Hb:i<ops.size:=(Array.getElem?_eq_some_iff.1 h2).1
   have fN:Ef ae i=false:=by
    simp only[Ef,Array.getD_eq_getD_getElem?]at h1|-
    rw[Array.getElem?_eq_getElem (by omega)]at h1|-
    simpa using h1
   have tQ:∀j∈aB ops i,Ef ae j=true:=by
    intro j hj
    simp only[aB,h2,List.mem_map,List.mem_filter]at hj
    obtain⟨e,⟨he,hb⟩,rfl⟩:=hj
    exact h3 e (Array.mem_toList_iff.1 he) hb
   have kB:i<N:=by
    apply Classical.byContradiction
    intro s9
    have s9:m<=i:=Nat.le_of_not_lt s9
    have:=re _ kq i Hb tQ j0 (rf i s9 Hb j0 (by omega))
    rw[Bd]at this;cases this
   have tS:nV N po (Ef ae):=fun k hk dr=>re _ kq k (by omega) (kq k (by omega) dr)
   obtain⟨A9,FY⟩:=xb (s:=s) (n:=N) (fun k hk=>pt k (by omega)) hc tS kB fN (re _ kq i (by omega) tQ)
   obtain⟨g1,g2,g3,g4⟩:=mX (lK _ _ i o gN (by simpa using h2))
   have cE: ¬qu ae (s.nx+i):=by
    rintro(h|⟨k,_,hk,he⟩)
    ·omega
    ·have:k=i:=by omega
     subst this;rw[fN]at hk;cases hk
   have qt:∀k,Ef (ae.setIfInBounds i true) k=(Ef ae k||k==i):=by
    intro k
    simp only[Ef,Array.getD_eq_getD_getElem?]
    by_cases e:k=i
    ·subst e;simp[cG,Hb]
    ·rw[Array.getElem?_setIfInBounds_ne (Ne.symm e)]
     have:(k==i)=false:=by simpa using e
     simp[this]
   have x9:=insert (s:=s) hc tS kB fN qt
   have ya:∀k,k<ops.size->Ef (ae.setIfInBounds i true) k=true->∀j∈aB ops k,Ef (ae.setIfInBounds i true) j=true:=by
    intro k hk dr j hj
    rw[qt]at dr|-
    by_cases e:k=i
    ·subst e;simp[tQ j hj]
    ·have:(k==i)=false:=by simpa using e
     rw[this,Bool.or_false]at dr
     simp[kq k hk dr j hj]
   have tT:(ae.setIfInBounds i true).count true+fuel=ops.size:=by
    have cm:i<ae.size:=by omega
    have e1:ae.setIfInBounds i true=ae.set i true cm:=by simp[Array.setIfInBounds,cm]
    have e2:ae[i]=false:=by
     have:=fN
     simp only[Ef,Array.getD_eq_getD_getElem?]at this
     rw[Array.getElem?_eq_getElem cm]at this
     simpa using this
    rw[e1,Array.count_set cm,e2]
    simp
    omega
   have fK:(ac i).ok=true->∀aj a' w',kA M a7 H0 w0 n cx aj (l9 o.dst (ac i) (cj (aL l) ac (Ef ae) s N)) (fun id=>qu ae id\/id=s.nx+i) a' w'->wpAnyIn (bU ro) k P .any ops Q fuel (ae.setIfInBounds i true) a' w':=by
    intro Ba aj a' w' nn
    refine ih _ aj a' w' (by simp[cG]) tT ya (fun k hk dr=> ?_) ?_
    ·rw[qt]at dr
     by_cases e:k=i
     ·subst e;exact kB
     ·have:(k==i)=false:=by simpa using e
      rw[this,Bool.or_false]at dr
      exact cm k hk dr
    rw[x9,g2]
    obtain⟨k1,k2⟩:=dT (us':=qu (ae.setIfInBounds i true)) nn.heap (fun id h=>by
     rcases h with(h|⟨k,hk,dr,rfl⟩)|rfl
     ·exact .inl h
     ·exact .inr ⟨k,hk,by rw[qt,dr];rfl,rfl⟩
     ·exact .inr ⟨i,kB,by rw[qt];simp,rfl⟩)
    exact⟨k1,nn.tr.trans k2,nn.size,nn.defers.mono k2,fun j=>V.au k2 _ _ (nn.env j)⟩
   have su:∀d want,(aL l i).gd=some (d,want)->(cj (aL l) ac (Ef ae) s N).env d=(cj (aL l) ac (fun _=>true) s i).env d:=fun d want hd=>A9 d (by simp[ct,tmpsOf,hd])
   have aI:=x7 i kB
   have sv:∀x∈(aL l i).op.operands,(cj (aL l) ac (Ef ae) s N).ev x=(cj (aL l) ac (fun _=>true) s i).ev x:=fun x hx=>pj fun t ht=>A9 t (by
    subst ht
    simp only[ct,tmpsOf,List.mem_append,List.mem_filterMap]
    exact .inl (.inl ⟨.tmp t,Array.mem_toList_iff.2 hx,rfl⟩))
   have vB:(cj (aL l) ac (Ef ae) s N).nx=(cj (aL l) ac (fun _=>true) s i).nx:=(ew N).trans (ew i).symm
   unfold wpOpIn
   simp only[h2]
   cases kC:ac i with
   |skip=>
    rw[kC]at aI fK
    have hw:=cL hu.env g4 (cM su aI)
    simp only[hw,Bool.false_eq_true,if_false]
    refine⟨fun _ _=>trivial,fK rfl φ _ w ?_⟩
    have:=dJ (v:= .a8 []) (val:=undef) hu hu.heap (Trans.refl _ _ _) ⟨#[],rfl,rfl⟩ (dst:=o.dst) g3 rfl (us':=fun id=>qu ae id\/id=s.nx+i) (fun id h=> .inl h)
    exact this
   |val v Δ rd=>
    rw[kC]at aI fK
    have hw:=cL hu.env g4 (cM su aI.1)
    simp only[hw,if_true]
    obtain⟨nJ,kp⟩:=j8 sv (fun id ai=>FY id (by rw[kC];exact ai)) vB aI.2
    exact ph hu cE (fun id h=> .inl (by rw[ew]at h;exact h)) g1.symm g3 kp (fK rfl)
   |aJ v ws rd=>
    have:=Bc i kB
    rw[kC]at this;cases this
   |cF=>
    have:=Bc i kB
    rw[kC]at this;cases this
 refine key ops.size _ φ a w (by simp) (by simp[Array.count_replicate]) (fun k hk dr=> ?_) (fun k hk dr=> ?_) ?_
 ·simp[Ef,Array.getD_eq_getD_getElem?,Array.getElem?_replicate]at dr
  split at dr<;>simp at dr
 ·simp[Ef,Array.getD_eq_getD_getElem?,Array.getElem?_replicate]at dr
  split at dr<;>simp at dr
 ·have e:∀k,cj (aL l) ac (Ef (Array.replicate ops.size false)) s k=s:=by
   intro k
   induction k with
   |zero=>rfl
   |succ k ih=>
    have:Ef (Array.replicate ops.size false) k=false:=by
     simp only[Ef,Array.getD_eq_getD_getElem?,Array.getElem?_replicate]
     split<;>rfl
    simp only[cj,this,ih]
    rfl
  rw[e]
  obtain⟨k1,k2⟩:=dT (us':=qu (Array.replicate ops.size false)) hs.heap (fun id h=> .inl h)
  exact⟨k1,hs.tr.trans k2,hs.size,hs.defers.mono k2,fun j=>V.au k2 _ _ (hs.env j)⟩
end
end Go.Proofs.YtpkobkdgcanmjaaGreat
namespace Go.Proofs.YtpkobkdgcanmjaaGreat
def mY(P:Program)(g:FuncId)(ds:List D)(Kf Kb KX:V->Prop):Prop:=
 (∃rs,dN P g ds (.ret rs)/\(Kf (fM rs)\/(D.e8 rs=true/\Kb (fM rs))))\/(∃x,dN P g ds (.aJ x)/\x.flat=true/\KX (.d x))\/(∃v,A8 P g ds v/\Kf v)
def gk(P:Program)(g:FuncId)(args:List V)(o:Nat->ab)(nx fr:Nat)(K:V->List (Nat×ab)->List Nat->Prop)(KX:V->List Nat->List Nat->Prop):Prop:=
 ∃rd Δ,rd.all (fun id=>decide (id<nx))=true/\((∃rs,tO P g args rd o (.ret rs) Δ/\K (fM rs) Δ rd)\/(∃x,tO P g args rd o (.aJ x) Δ/\KX (.d x) (Δ.map (·.1)) rd)\/(∃v,qn P g args rd o fr v Δ/\K v Δ rd))
def sN(P:Program)(s:S)(fr:Nat)(o:aV)(K:V->List (Nat×ab)->List Nat->Prop)(KX:V->List Nat->List Nat->Prop):Prop:=
 match o.op with
 | .call c=>match c.callee with
   | .value f=>match s.ev f with
     | .func (.func g) first cap=>match aR s.o (first++c.args.toList.map s.ev++cap)with
       |some ds=>mY P g ds (fun v=>K v (bH s.o (V.aA (first++c.args.toList.map s.ev++cap))) (eb s o.op)) (fun v=>K v [] (eb s o.op)) (fun v=>KX v [] (eb s o.op))\/gk P g (first++c.args.toList.map s.ev++cap) s.o s.nx fr K KX
       |none=>gk P g (first++c.args.toList.map s.ev++cap) s.o s.nx fr K KX
     |_=>False
   |_=>match dC P s fr o.op with
    |some (v,Δ,_)=>K v Δ (eb s o.op)
    |none=>False
 |op=>match dC P s fr op with
  |some (v,Δ,_)=>K v Δ (eb s o.op)
  |none=>False
abbrev Fp:=List (List Nat×List Nat)
def ey(P:Program)(KB:List Nat->Fp->Prop)(pr:List (List Nat)):List aV->Nat->S->Fp->List Nat->List Nat->Prop
 |[],_,_,fp,_,ws=>KB ws fp
 |o::l,fr,s,fp,bad,ws=>if(pr.getD fp.length []).any (fun j=>bad.contains j)=true then ey P KB pr l (fr+1) ⟨ay s.env o.dst .bO,s.o,s.nx⟩ (fp++[([],[])]) (bad++[fp.length]) ws
  else match o.gd with
  |none=>sN P s fr o (fun v Δ rd=>ey P KB pr l (fr+1) ⟨ay s.env o.dst v,put s.o Δ,s.nx⟩ (fp++[(rd,Δ.map (·.1))]) bad (ws++Δ.map (·.1))) (fun _ _ _=>False)
  |some (d,want)=>match s.env d with
   | .d (.bool b)=>if b=want then sN P s fr o (fun v Δ rd=>ey P KB pr l (fr+1) ⟨ay s.env o.dst v,put s.o Δ,s.nx⟩ (fp++[(rd,Δ.map (·.1))]) bad (ws++Δ.map (·.1))) (fun _ _ _=>False)
    else ey P KB pr l (fr+1) ⟨ay s.env o.dst (.a8 []),s.o,s.nx⟩ (fp++[([],[])]) bad ws
   | .a8 []=>ey P KB pr l (fr+1) ⟨ay s.env o.dst (.a8 []),s.o,s.nx⟩ (fp++[([],[])]) bad ws
   |_=>False
def fG(P:Program)(K:S->Fp->Prop)(KP:V->List Nat->Fp->Prop)(pr:List (List Nat)):List aV->Nat->S->Fp->Prop
 |[],_,s,fp=>K s fp
 |o::l,fr,s,fp=>match o.gd with
  |none=>sN P s fr o (fun v Δ rd=>fG P K KP pr l (fr+1) ⟨ay s.env o.dst v,put s.o Δ,s.nx⟩ (fp++[(rd,Δ.map (·.1))]))
   (fun v ws rd=>ey P (KP v) pr l (fr+1) ⟨ay s.env o.dst .bO,s.o,s.nx⟩ (fp++[(rd,[])]) [fp.length] (ws++fp.flatMap (·.2)))
  |some (d,want)=>match s.env d with
   | .d (.bool b)=>if b=want then sN P s fr o (fun v Δ rd=>fG P K KP pr l (fr+1) ⟨ay s.env o.dst v,put s.o Δ,s.nx⟩ (fp++[(rd,Δ.map (·.1))]))
         (fun v ws rd=>ey P (KP v) pr l (fr+1) ⟨ay s.env o.dst .bO,s.o,s.nx⟩ (fp++[(rd,[])]) [fp.length] (ws++fp.flatMap (·.2)))
    else fG P K KP pr l (fr+1) ⟨ay s.env o.dst (.a8 []),s.o,s.nx⟩ (fp++[([],[])])
   | .a8 []=>fG P K KP pr l (fr+1) ⟨ay s.env o.dst (.a8 []),s.o,s.nx⟩ (fp++[([],[])])
   |_=>False
def qx(pr:List (List Nat))(nx:Nat)(Q:eo->S->Prop)(s:S)(fp:Fp):Prop:=fO pr fp=true/\Q .normal ⟨s.env,s.o,nx⟩
def dstsOf(l:List aV):List Nat:=l.filterMap (·.dst)
def pv(pr:List (List Nat))(l:List aV)(s0:S)(Q:eo->S->Prop)(v:V)(wl:List Nat)(fp:Fp):Prop:=fO pr fp=true/\Q (.aJ v) (lI (dstsOf l) wl l.length s0)
def gm:List aV->List cC->S->Nat->S
 |_,_,s,0=>s
 |o::l,x::xs,s,j+1=>gm l xs (l9 o.dst x s) j
 |_,_,s,_=>s
def mZ(aP:List cC):Fp:=aP.map fun x=>(mm x,eR x)
section
variable {P:Program}{n b:Nat}
theorem pw{s:S}{fr:Nat}{o:aV}{K:V->List (Nat×ab)->List Nat->Prop}{KX:V->List Nat->List Nat->Prop}(h:sN P s fr o K KX):(∃v Δ rd,mU P s fr o.op v Δ rd/\K v Δ rd)\/(∃v ws rd,pg P s o.op v ws rd/\KX v ws rd):=by
 have hs:∀ {op:Op},o.op=op->(match dC P s fr op with|some (v,Δ,_)=>K v Δ (eb s o.op)|none=>False)->(∃v Δ rd,mU P s fr o.op v Δ rd/\K v Δ rd):=by
  intro op bL h
  split at h
  ·rename_i v Δ rd he;exact⟨v,Δ,_, .inl ⟨⟨rd,by rw[bL];exact he⟩,rfl⟩,h⟩
  ·exact h.elim
 unfold sN at h
 split at h
 ·rename_i c hc
  split at h
  ·rename_i f bZ
   split at h
   ·rename_i g first cap hf
    split at h
    ·rename_i ds dc
     rcases h with(⟨rs,hP,h|⟨im,h⟩⟩|⟨x,hP,im,h⟩|⟨v,hP,h⟩)|⟨rd,Δ,gM,⟨rs,hH,h⟩|⟨x,hH,h⟩|⟨v,hH,h⟩⟩
     ·exact .inl ⟨_,_,_, .inr ⟨c,f,g,first,cap,hc,bZ,hf, .inl ⟨ds,rs,dc,hP,rfl,rfl, .inl rfl⟩⟩,h⟩
     ·exact .inl ⟨_,_,_, .inr ⟨c,f,g,first,cap,hc,bZ,hf, .inl ⟨ds,rs,dc,hP,rfl,rfl, .inr ⟨im,rfl⟩⟩⟩,h⟩
     ·exact .inr ⟨_,_,_,⟨c,f,g,first,cap,hc,bZ,hf, .inl ⟨ds,x,dc,hP,im,rfl,rfl,rfl⟩⟩,h⟩
     ·exact .inl ⟨_,_,_, .inr ⟨c,f,g,first,cap,hc,bZ,hf, .inr (.inr (.inl ⟨ds,dc,hP,rfl,rfl⟩))⟩,h⟩
     ·exact .inl ⟨_,_,_, .inr ⟨c,f,g,first,cap,hc,bZ,hf, .inr (.inl ⟨rs,hH,rfl,fun id ai=>by simpa using List.all_eq_true.1 gM id ai⟩)⟩,h⟩
     ·exact .inr ⟨_,_,_,⟨c,f,g,first,cap,hc,bZ,hf, .inr ⟨x,Δ,hH,rfl,rfl,fun id ai=>by simpa using List.all_eq_true.1 gM id ai⟩⟩,h⟩
     ·exact .inl ⟨_,_,_, .inr ⟨c,f,g,first,cap,hc,bZ,hf, .inr (.inr (.inr ⟨hH,fun id ai=>by simpa using List.all_eq_true.1 gM id ai⟩))⟩,h⟩
    ·obtain⟨rd,Δ,gM,⟨rs,hH,h⟩|⟨x,hH,h⟩|⟨v,hH,h⟩⟩:=h
     ·exact .inl ⟨_,_,_, .inr ⟨c,f,g,first,cap,hc,bZ,hf, .inr (.inl ⟨rs,hH,rfl,fun id ai=>by simpa using List.all_eq_true.1 gM id ai⟩)⟩,h⟩
     ·exact .inr ⟨_,_,_,⟨c,f,g,first,cap,hc,bZ,hf, .inr ⟨x,Δ,hH,rfl,rfl,fun id ai=>by simpa using List.all_eq_true.1 gM id ai⟩⟩,h⟩
     ·exact .inl ⟨_,_,_, .inr ⟨c,f,g,first,cap,hc,bZ,hf, .inr (.inr (.inr ⟨hH,fun id ai=>by simpa using List.all_eq_true.1 gM id ai⟩))⟩,h⟩
   ·exact h.elim
  ·rw[hc]at h;exact .inl (hs hc (by rw[hc];exact h))
 ·exact .inl (hs rfl h)
def vC(P:Program)(KB:List Nat->Fp->Prop)(pr:List (List Nat))(l:List aV)(fr:Nat)(s:S)(fp:Fp)(bad ws:List Nat):Prop:=
    ∃aP:List cC,aP.length=l.length/\(∀j o x,l[j]? =some o->aP[j]? =some x->xa P (gm l aP s j) (fr+j) o x)/\
     (∀ (j:Nat),aP[j]? =some cC.cF->∃i∈pr.getD (fp.length+j) [],i∈bad\/∃j',j'<j/\i=fp.length+j'/\aP[j']? =some .cF)/\(∀x∈aP,x= .cF\/x.ok=true)/\
     ∃wl,KB wl (fp++mZ aP)/\(∀id∈ws,id∈wl)/\∀x∈aP,∀id∈eR x,id∈wl
theorem px{KB:List Nat->Fp->Prop}{pr:List (List Nat)}:∀ (l:List aV) (fr:Nat) (s:S) (fp:Fp) (bad ws:List Nat),ey P KB pr l fr s fp bad ws->vC P KB pr l fr s fp bad ws
 |[],fr,s,fp,bad,ws,h=>⟨[],rfl,fun j o x hj=>by simp at hj,fun j hj=>by simp at hj,fun x hx=>by simp at hx,ws,by simpa[mZ,ey]using h,fun _ h=>h,fun x hx=>by simp at hx⟩
 |o::l,fr,s,fp,bad,ws,h=>by
  have step:∀ (x:cC) (vE xe:List Nat),xa P s fr o x->ey P KB pr l (fr+1) (l9 o.dst x s) (fp++[(mm x,eR x)]) vE xe->(x= .cF\/x.ok=true)->(x= .cF->∃i∈pr.getD fp.length [],i∈bad)->
   (∀i∈vE,i∈bad\/(i=fp.length/\x= .cF))->(∀id∈ws,id∈xe)->(∀id∈eR x,id∈xe)->
   vC P KB pr (o::l) fr s fp bad ws:=by
   intro x vE xe aI hr MI x8 yb vA hW
   obtain⟨aP,h1,h2,h3,h4,wl,h5,h6,h7⟩:=px l (fr+1) _ _ vE xe hr
   refine⟨x::aP,by simp[h1],fun j o' y hj hy=> ?_,fun j hj=> ?_,fun y hy=> ?_,wl,by simpa[mZ]using h5,fun id ai=>h6 id (vA id ai),fun y hy id ai=> ?_⟩
   ·cases j with
    |zero=>simp at hj hy;subst hj;subst hy;exact aI
    |succ j=>
     have:=h2 j o' y (by simpa using hj) (by simpa using hy)
     rw[show fr+(j+1)=fr+1+j by omega]
     exact this
   ·cases j with
    |zero=>
     simp at hj
     obtain⟨i,i1,i2⟩:=x8 hj
     exact⟨i,by simpa using i1, .inl i2⟩
    |succ j=>
     obtain⟨i,i1,i2⟩:=h3 j (by simpa using hj)
     simp only[List.length_append,List.length_cons,List.length_nil]at i1 i2
     refine⟨i,by rw[show fp.length+(j+1)=fp.length+(0+1)+j by omega];exact i1, ?_⟩
     rcases i2 with i2|⟨j',j1,j2,j3⟩
     ·rcases yb i i2 with hb|⟨e1,e2⟩
      ·exact .inl hb
      ·exact .inr ⟨0,by omega,by omega,by simp[e2]⟩
     ·exact .inr ⟨j'+1,by omega,by omega,by simpa using j3⟩
   ·rcases List.mem_cons.1 hy with rfl|hy
    ·exact MI
    ·exact h4 y hy
   ·rcases List.mem_cons.1 hy with rfl|hy
    ·exact h6 id (hW id ai)
    ·exact h7 y hy id ai
  simp only[ey]at h
  split at h
  ·rename_i hb
   obtain⟨j,MJ,vn⟩:=List.any_eq_true.1 hb
   exact step .cF _ _ trivial h (.inl rfl) (fun _=>⟨j,MJ,by simpa using vn⟩) (fun i hi=>by
    rcases List.mem_append.1 hi with hi|hi
    ·exact .inl hi
    ·exact .inr ⟨by simpa using hi,rfl⟩) (fun _ h=>h) (fun id ai=>by simp[eR]at ai)
  ·have lL:bu s o.gd true->sN P s fr o (fun v Δ rd=>ey P KB pr l (fr+1) ⟨ay s.env o.dst v,put s.o Δ,s.nx⟩ (fp++[(rd,Δ.map (·.1))]) bad (ws++Δ.map (·.1))) (fun _ _ _=>False)->vC P KB pr (o::l) fr s fp bad ws:=fun hg h=>by
    rcases pw h with⟨v,Δ,rd,kp,h⟩|⟨v,xe,rd,_,h⟩
    ·exact step (.val v Δ rd) bad (ws++Δ.map (·.1)) ⟨hg,kp⟩ h (.inr rfl) (fun h=>by cases h) (fun i hi=> .inl hi) (fun id ai=>List.mem_append.2 (.inl ai)) (fun id ai=>List.mem_append.2 (.inr ai))
    ·exact h.elim
   have skip:bu s o.gd false->ey P KB pr l (fr+1) ⟨ay s.env o.dst (.a8 []),s.o,s.nx⟩ (fp++[([],[])]) bad ws->vC P KB pr (o::l) fr s fp bad ws:=fun hg h=>
    step .skip bad ws hg h (.inr rfl) (fun h=>by cases h) (fun i hi=> .inl hi) (fun id ai=>ai) (fun id ai=>by simp[eR]at ai)
   split at h
   ·rename_i hg;exact lL (by rw[hg];rfl) h
   ·rename_i d want hg
    split at h
    ·rename_i c hv
     split at h
     ·rename_i e;exact lL (by rw[hg];simp[bu,hv,e]) h
     ·rename_i e;exact skip (by rw[hg];simp[bu,hv,e]) h
    ·rename_i hv;exact skip (by rw[hg];simp[bu,hv]) h
    ·exact h.elim
def tU(P:Program)(K:S->Fp->Prop)(KP:V->List Nat->Fp->Prop)(pr:List (List Nat))(l:List aV)(fr:Nat)(s:S)(fp:Fp):Prop:=
 ∃aP:List cC,aP.length=l.length/\(∀j o x,l[j]? =some o->aP[j]? =some x->xa P (gm l aP s j) (fr+j) o x)/\
  (((∀x∈aP,x.ok=true)/\K (gm l aP s l.length) (fp++mZ aP))\/
   ∃v wl,(∀ (j:Nat) (v':V) (ws rd:List Nat),aP[j]? =some (cC.aJ v' ws rd)->v'=v/\∀id∈ws,id∈wl)/\(∃x∈aP,x.ok=false)/\
    (∀ (j:Nat),aP[j]? =some cC.cF->∃i∈pr.getD (fp.length+j) [],∃j',i=fp.length+j'/\∃y,aP[j']? =some y/\y.ok=false)/\KP v wl (fp++mZ aP)/\(∀x∈aP,∀id∈eR x,id∈wl)/\∀id∈fp.flatMap (·.2),id∈wl)
theorem lM{K:S->Fp->Prop}{KP:V->List Nat->Fp->Prop}{pr:List (List Nat)}:∀ (l:List aV) (fr:Nat) (s:S) (fp:Fp),fG P K KP pr l fr s fp->tU P K KP pr l fr s fp
 |[],fr,s,fp,h=>⟨[],rfl,fun j o x hj=>by simp at hj, .inl ⟨fun x hx=>by simp at hx,by simpa[gm,mZ,fG]using h⟩⟩
 |o::l,fr,s,fp,h=>by
  have step:∀ (x:cC),x.ok=true->xa P s fr o x->fG P K KP pr l (fr+1) (l9 o.dst x s) (fp++[(mm x,eR x)])->tU P K KP pr (o::l) fr s fp:=by
   intro x Be aI hr
   obtain⟨aP,h1,h2,h3⟩:=lM l (fr+1) _ _ hr
   refine⟨x::aP,by simp[h1],fun j o' y hj hy=> ?_, ?_⟩
   ·cases j with
    |zero=>simp at hj hy;subst hj;subst hy;exact aI
    |succ j=>
     have:=h2 j o' y (by simpa using hj) (by simpa using hy)
     rw[show fr+(j+1)=fr+1+j by omega]
     exact this
   ·rcases h3 with⟨h3,h4⟩|⟨v,wl,g1,g2,g3,g4,g5,g6⟩
    ·left
     refine⟨fun y hy=> ?_,by simpa[gm,mZ]using h4⟩
     rcases List.mem_cons.1 hy with rfl|hy
     ·exact Be
     ·exact h3 y hy
    ·right
     refine⟨v,wl,fun j v' ws rd hj=> ?_, ?_,fun j hj=> ?_,by simpa[mZ]using g4,fun y hy id ai=> ?_,fun id ai=>g6 id (by simp only[List.flatMap_append,List.mem_append];exact .inl ai)⟩
     ·cases j with
      |zero=>simp at hj;rw[hj]at Be;cases Be
      |succ j=>exact g1 j v' ws rd (by simpa using hj)
     ·obtain⟨y,y1,y2⟩:=g2;exact⟨y,by simp[y1],y2⟩
     ·cases j with
      |zero=>simp at hj;rw[hj]at Be;cases Be
      |succ j=>
       obtain⟨i,i1,j',i2,y,i3,i4⟩:=g3 j (by simpa using hj)
       simp only[List.length_append,List.length_cons,List.length_nil]at i1 i2
       exact⟨i,by rw[show fp.length+(j+1)=fp.length+(0+1)+j by omega];exact i1,j'+1,by omega,y,by simpa using i3,i4⟩
     ·rcases List.mem_cons.1 hy with rfl|hy
      ·exact g6 id (by simp only[List.flatMap_append,List.mem_append];exact .inr (by simpa using ai))
      ·exact g5 y hy id ai
  have aJ:∀ (v:V) (ws rd:List Nat),xa P s fr o (.aJ v ws rd)->ey P (KP v) pr l (fr+1) ⟨ay s.env o.dst .bO,s.o,s.nx⟩ (fp++[(rd,[])]) [fp.length] (ws++fp.flatMap (·.2))->tU P K KP pr (o::l) fr s fp:=by
   intro v ws rd aI hr
   obtain⟨aP,h1,h2,h3,h4,wl,h5,h6,h7⟩:=px l (fr+1) _ _ _ _ hr
   refine⟨cC.aJ v ws rd::aP,by simp[h1],fun j o' y hj hy=> ?_, .inr ⟨v,wl,fun j v' xe nJ hj=> ?_,⟨cC.aJ v ws rd,by simp,rfl⟩,fun j hj=> ?_,by simpa[mZ,mm,eR]using h5,fun y hy id ai=> ?_,fun id ai=>h6 id (List.mem_append.2 (.inr ai))⟩⟩
   ·cases j with
    |zero=>simp at hj hy;subst hj;subst hy;exact aI
    |succ j=>
     have:=h2 j o' y (by simpa using hj) (by simpa using hy)
     rw[show fr+(j+1)=fr+1+j by omega]
     exact this
   ·cases j with
    |zero=>simp at hj;obtain⟨rfl,rfl,rfl⟩:=hj;exact⟨rfl,fun id ai=>h6 id (List.mem_append.2 (.inl ai))⟩
    |succ j=>
     have hm:=List.mem_of_getElem? (show aP[j]? =some (.aJ v' xe nJ) by simpa using hj)
     rcases h4 _ hm with h|h<;>cases h
   ·cases j with
    |zero=>simp at hj
    |succ j=>
     obtain⟨i,i1,i2⟩:=h3 j (by simpa using hj)
     simp only[List.length_append,List.length_cons,List.length_nil]at i1 i2
     refine⟨i,by rw[show fp.length+(j+1)=fp.length+(0+1)+j by omega];exact i1, ?_⟩
     rcases i2 with i2|⟨j',j1,j2,j3⟩
     ·exact⟨0,by simpa using i2,_,rfl,rfl⟩
     ·exact⟨j'+1,by omega, .cF,by simpa using j3,rfl⟩
   ·rcases List.mem_cons.1 hy with rfl|hy
    ·simp[eR]at ai
    ·exact h7 y hy id ai
  have lL:bu s o.gd true->sN P s fr o (fun v Δ rd=>fG P K KP pr l (fr+1) ⟨ay s.env o.dst v,put s.o Δ,s.nx⟩ (fp++[(rd,Δ.map (·.1))]))
   (fun v ws rd=>ey P (KP v) pr l (fr+1) ⟨ay s.env o.dst .bO,s.o,s.nx⟩ (fp++[(rd,[])]) [fp.length] (ws++fp.flatMap (·.2)))->tU P K KP pr (o::l) fr s fp:=fun hg h=>by
   rcases pw h with⟨v,Δ,rd,kp,h⟩|⟨v,ws,rd,kp,h⟩
   ·exact step (.val v Δ rd) rfl ⟨hg,kp⟩ h
   ·exact aJ v ws rd ⟨hg,kp⟩ h
  have skip:bu s o.gd false->fG P K KP pr l (fr+1) ⟨ay s.env o.dst (.a8 []),s.o,s.nx⟩ (fp++[([],[])])->tU P K KP pr (o::l) fr s fp:=fun hg h=>step .skip rfl hg h
  simp only[fG]at h
  split at h
  ·rename_i hg;exact lL (by rw[hg];rfl) h
  ·rename_i d want hg
   split at h
   ·rename_i c hv
    split at h
    ·rename_i e;exact lL (by rw[hg];simp[bu,hv,e]) h
    ·rename_i e;exact skip (by rw[hg];simp[bu,hv,e]) h
   ·rename_i hv;exact skip (by rw[hg];simp[bu,hv]) h
   ·exact h.elim
end
end Go.Proofs.YtpkobkdgcanmjaaGreat
namespace Go.Proofs.YtpkobkdgcanmjaaGreat
def sx(env:Nat->V):List Nat->List V->Nat->V
 |t::ps,v::vs=>sx (cK env t v) ps vs
 |_,_=>env
def tV(pr:List (List Nat))(m:Nat):Bool:=(List.range pr.length).all fun k=>Nat.blt k m||Nat.beq ((cg pr []).getD k 0) (2^k - 1)
def tW(P:Program)(l:List aV)(pr:List (List Nat))(Q:eo->S->Prop)(s:S):Prop:=
 ∃m,m<=l.length/\tV pr m=true/\fG P (fun s' fp=>fO pr fp=true/\jJ P (fun v s=>Q (.aJ v) s) (Q .normal) (l.drop m) ⟨s'.env,s'.o,s.nx+m⟩) (fun _ _ _=>False) pr (l.take m) s.nx s []
def ma(P:Program)(n b:Nat)(rd:Bool):IC->(eo->S->Prop)->S->Prop
 | .skip,Q,s=>Q .normal s
 | .aa l,Q,s=>jJ P (fun v s=>Q (.aJ v) s) (Q .normal) l s
 | .bb l pr,Q,s=>fG P (qx pr (s.nx+l.length) Q) (pv pr l s Q) pr l s.nx s []\/tW P l pr Q s
 | .seq x y,Q,s=>ma P n b rd x (jX (ma P n b rd y Q) Q) s
 | .cond c x y,Q,s=>match s.ev c with
   | .d (.bool t)=>jl t (ma P n b rd x Q s) (ma P n b rd y Q s)
   | .cJ=>ma P n b rd x Q s/\ma P n b rd y Q s
   |_=>False
 | .block id x,Q,s=>ma P n b rd x (cR id Q) s
 | .loop x,Q,s=>tN b (ma P n b rd x) Q s
 | .exit id,Q,s=>Q (.exit id) s
 | .ret,Q,s=>Q .ret s
 | .sI g ps x y,Q,s=>rd=false/\qd P n (s.ev g) ps x y Q s
 | .bad,_,_=>False
section
variable {P:Program}{n b:Nat}{rd:Bool}
theorem lN:∀ (l:List aV) (aP:List cC) (s:S) (k:Nat) (o:aV) (x:cC),l[k]? =some o->aP[k]? =some x->gm l aP s (k+1)=l9 o.dst x (gm l aP s k)
 |[],_,_,_,_,_,h,_=>by simp at h
 |o::l,[],_,_,_,_,_,h=>by simp at h
 |o::l,x::xs,s,0,o',x',h,h'=>by simp at h h';subst h;subst h';cases l<;>cases xs<;>rfl
 |o::l,x::xs,s,k+1,o',x',h,h'=>by
  simp only[gm]
  exact lN l xs _ k o' x' (by simpa using h) (by simpa using h')
theorem m4(l:List aV)(aP:List cC)(s:S)(hl:aP.length=l.length):∀k,k<=l.length->cj (aL l) (fun i=>aP.getD i default) (fun _=>true) s k=gm l aP s k:=by
 intro k
 induction k with
 |zero=>intro _;cases l<;>cases aP<;>rfl
 |succ k ih=>
  intro hk
  have h1:l[k]? =some (aL l k):=by simp[aL,List.getD_eq_getElem?_getD,List.getElem?_eq_getElem (by omega:k<l.length)]
  have h2:aP[k]? =some (aP.getD k default):=by simp[List.getD_eq_getElem?_getD,List.getElem?_eq_getElem (by omega:k<aP.length)]
  simp only[cj,if_true,ih (by omega)]
  rw[lN l aP s k _ _ h1 h2]
theorem gq{ops:Array Oper}:∀ (l:List Oper) (l':List aV),eU n ops l=some l'->l'.length=l.length
 |[],_,h=>by simp[eU]at h;subst h;rfl
 |o::l,l',h=>by
  simp only[eU]at h
  split at h
  ·rename_i hx;injection h with h;subst h;simp[gq l _ hx]
  ·cases h
theorem sy(aC:P.follows .mixedOrders=true){id:Nat}{ops:Array Oper}{l:List aV}{Q Q':eo->S->Prop}{s:S}(hQ:∀e s,Q e s->Q' e s)(gN:eU n ops ops.toList=some l)(ht:nh l (de ops)=true)
 (hp:xN (de ops)=true) (h:fG P (qx (de ops) (s.nx+l.length) Q) (pv (de ops) l s Q) (de ops) l s.nx s []):dR P n b rd (.region id ops true) Q' s:=by
 intro M a7 H0 w0 cx φ a w ro k hs
 obtain⟨aP,hl,aI,kD⟩:=lM l _ _ _ h
 have hlen:l.length=ops.size:=by rw[gq _ _ gN];simp
 have kH:∀k,k<ops.size->(de ops).getD k []=aB ops k:=by
  intro k hk;simp[de,List.getD_eq_getElem?_getD,List.getElem?_map,List.getElem?_range hk]
 have pM:(de ops).length=ops.size:=by simp[de]
 have kp:=m4 l aP s hl
 have FZ:∀k,k<ops.size->l[k]? =some (aL l k):=fun k hk=>by simp[aL,List.getD_eq_getElem?_getD,List.getElem?_eq_getElem (by omega:k<l.length)]
 have kC:∀k,k<ops.size->aP[k]? =some (aP.getD k default):=fun k hk=>by simp[List.getD_eq_getElem?_getD,List.getElem?_eq_getElem (by omega:k<aP.length)]
 have ll:∀k,k<ops.size->aP.getD k default∈aP:=fun k hk=>List.mem_of_getElem? (kC k hk)
 have vh:∀k,k<ops.size->(mZ aP)[k]? =some (mm (aP.getD k default),eR (aP.getD k default)):=fun k hk=>by
  simp only[mZ,List.getElem?_map,kC k hk,Option.map_some]
 have yc:(mZ aP).length=ops.size:=by simp[mZ,hl,hlen]
 simp only[List.nil_append,List.length_nil,Nat.zero_add]at kD
 have kZ:fO (de ops) (mZ aP)=true:=by
  rcases kD with⟨_,h⟩|⟨v,wl,_,_,_,h,_⟩
  ·exact h.1
  ·exact h.1
 have sA:∀k,k<ops.size->∀j∈aB ops k,j<k:=fun k hk j hj=>by
  have:=List.all_eq_true.1 hp k (by simpa[pM]using hk)
  rw[kH k hk]at this
  simpa using List.all_eq_true.1 this j hj
 have tX:∀k,k<(de ops).length->∀j∈(de ops).getD k [],j<k:=fun k hk j hj=>by
  rw[pM]at hk;rw[kH k hk]at hj;exact sA k hk j hj
 let po:Nat->Nat->Prop:=fun k j=>((cg (de ops) []).getD k 0).testBit j=true
 have re:∀E:Nat->Bool,(∀k,k<ops.size->E k=true->∀j∈aB ops k,E j=true)->∀k,k<ops.size->(∀j∈aB ops k,E j=true)->∀j,po k j->E j=true:=fun E hE k hk hj j hb=>
  iq tX (fun k hk dr j hj=>by rw[pM]at hk;rw[kH k hk]at hj;exact hE k hk dr j hj) k (by rw[pM];exact hk) (by rw[kH k hk];exact hj) j hb
 have pt:∀k,k<ops.size->∀j,po k j->j<k:=fun k hk j hb=>oj tX k (by rw[pM];exact hk) j hb
 have nW:∀i j,i<j->j<ops.size-> ¬po j i->Compat (aL l) (fun i=>aP.getD i default) (fun i=>mm (aP.getD i default)) i j:=by
  intro i j Bf hj hn
  have tf:=List.all_eq_true.1 (List.all_eq_true.1 ht j (by simpa[hlen]using hj)) i (by simpa using Bf)
  have o3:=List.all_eq_true.1 (List.all_eq_true.1 kZ j (by simpa[yc]using hj)) i (by simpa using Bf)
  have Hc:((cg (de ops) []).getD j 0).testBit i=false:=by simpa[po]using hn
  rw[Hc,Bool.false_or]at tf o3
  simp only[Bool.and_eq_true]at tf o3
  have gi:=vh i (by omega)
  have gj:=vh j hj
  simp only[List.getD_eq_getElem?_getD (l:=mZ aP),gi,gj,Option.getD_some]at o3
  have dj:∀ {xs ys:List Nat},gK xs ys=true->∀x∈xs,x∉ys:=fun h x hx=>by simpa using List.all_eq_true.1 h x hx
  have fo:∀ {x y:aV},js x y=true->∀d,x.dst=some d->d∉ct y:=fun h d hd=>by simpa[js,hd]using h
  exact⟨fo tf.1,fo tf.2,fun id ai=>⟨dj o3.1.1 id ai,dj o3.1.2 id ai⟩,fun id ai=>dj o3.2 id ai⟩
 have xf:∀i,i<ops.size->xa P (cj (aL l) (fun i=>aP.getD i default) (fun _=>true) s i) (s.nx+i) (aL l i) (aP.getD i default):=fun i hi=>by
  rw[kp i (by omega)];exact aI i _ _ (FZ i hi) (kC i hi)
 have ba:∀i,i<ops.size->∀t,(aL l i).dst=some t->(dstsOf l).contains t=true:=fun i hi t ht=>by
  simp only[List.contains_iff_mem,dstsOf,List.mem_filterMap]
  exact⟨aL l i,List.mem_of_getElem? (FZ i hi),ht⟩
 rcases kD with⟨aT,kD⟩|⟨v,wl,q1,q2,q3,q4,q5,q6⟩
 ·refine pq (ac:=fun i=>aP.getD i default) (dl:=dstsOf l) (wl:=(aP.flatMap eR)) aC gN sA hs xf (fun i hi hb=> ?_) re pt nW ba (fun i hi id ai=> ?_) (fun i v ws nJ hi hb=> ?_) (fun _ φ a w eP=> ?_) (fun i v ws nJ hi hb=> ?_)
  ·have:=aT _ (ll i hi);rw[hb]at this;cases this
  ·simp only[List.contains_iff_mem,List.mem_flatMap];exact⟨_,ll i hi,ai⟩
  ·have:=aT _ (ll i hi);rw[hb]at this;cases this
  ·rw[kp ops.size (by omega), <- hlen]at eP
   exact⟨.normal,_,φ,hQ _ _ kD.2,eP,trivial⟩
  ·have:=aT _ (ll i hi);rw[hb]at this;cases this
 ·refine pq (ac:=fun i=>aP.getD i default) (dl:=dstsOf l) (wl:=wl) aC gN sA hs xf (fun i hi hb=> ?_) re pt nW ba (fun i hi id ai=> ?_) (fun i v' ws nJ hi hb=> ?_) (fun aT φ a w eP=> ?_) (fun i v' ws nJ hi hb φ a w val eP hd=> ?_)
  ·obtain⟨j,j1,j',e,y,j3,j4⟩:=q3 i (by rw[kC i hi];exact congrArg some hb)
   rw[kH i hi,e]at j1
   refine⟨j',j1, ?_⟩
   simp only[List.getD_eq_getElem?_getD,j3,Option.getD_some,j4]
  ·simp only[List.contains_iff_mem];exact q5 _ (ll i hi) id ai
  ·intro id ai
   simp only[List.contains_iff_mem]
   exact(q1 i v' ws nJ (by rw[kC i hi];exact congrArg some hb)).2 id ai
  ·obtain⟨x,x1,x2⟩:=q2
   obtain⟨i,va,sW⟩:=List.getElem_of_mem x1
   have hi:i<ops.size:=by omega
   have:=aT i hi
   have e:aP.getD i default=x:=by simp[List.getD_eq_getElem?_getD,List.getElem?_eq_getElem va,sW]
   rw[e,x2]at this;cases this
  ·have e:=(q1 i v' ws nJ (by rw[kC i hi];exact congrArg some hb)).1
   subst e
   rw[<- hlen]at eP hd
   exact⟨.aJ v',_,φ,hQ _ _ q4.2,eP,val,rfl,hd⟩
theorem m5{ops:Array Oper}:∀ (l:List Oper) (l':List aV) (m:Nat),eU n ops l=some l'->eU n ops (l.drop m)=some (l'.drop m)
 |l,l',0,h=>h
 |[],l',m+1,h=>by simp[eU]at h;subst h;simp[eU]
 |o::l,l',m+1,h=>by
  simp only[eU]at h
  split at h
  ·rename_i x xs hx wF
   injection h with h;subst h
   exact m5 l xs m wF
  ·cases h
theorem tY{l:List aV}{ac:Nat->cC}{E:Nat->Bool}{s:S}{m:Nat}:∀k,k<=m->cj (aL l) ac E s k=cj (aL (l.take m)) ac E s k:=by
 intro k
 induction k with
 |zero=>intro _;rfl
 |succ k ih=>
  intro hk
  have:aL l k=aL (l.take m) k:=by simp[aL,List.getD_eq_getElem?_getD,List.getElem?_take,(by omega:k<m)]
  simp only[cj,ih (by omega),this]
theorem qy(aC:P.follows .mixedOrders=true){id:Nat}{ops:Array Oper}{l:List aV}{Q Q':eo->S->Prop}{s:S}(hQ:∀e s,Q e s->Q' e s)(gN:eU n ops ops.toList=some l)(ht:nh l (de ops)=true)
 (hp:xN (de ops)=true) (h:tW P l (de ops) Q s):dR P n b rd (.region id ops true) Q' s:=by
 intro M a7 H0 w0 cx φ a w ro k hs
 obtain⟨m,vj,MK,h⟩:=h
 obtain⟨aP,hl,aI,kD⟩:=lM (l.take m) _ _ _ h
 have ML:(l.take m).length=m:=by rw[List.length_take];omega
 have hlen:l.length=ops.size:=by rw[gq _ _ gN];simp
 have kD:=kD.resolve_right (fun⟨_,_,_,_,_,q4,_,_⟩=>q4)
 obtain⟨aT,kD⟩:=kD
 have xU:aP.length=m:=by omega
 have kH:∀k,k<ops.size->(de ops).getD k []=aB ops k:=by
  intro k hk;simp[de,List.getD_eq_getElem?_getD,List.getElem?_map,List.getElem?_range hk]
 have pM:(de ops).length=ops.size:=by simp[de]
 have kp:∀k,k<=m->cj (aL l) (fun i=>aP.getD i default) (fun _=>true) s k=gm (l.take m) aP s k:=fun k hk=>by
  rw[tY k hk];exact m4 (l.take m) aP s hl k (by omega)
 have FZ:∀k,k<m->(l.take m)[k]? =some (aL l k):=fun k hk=>by
  rw[List.getElem?_take,if_pos hk]
  simp[aL,List.getD_eq_getElem?_getD,List.getElem?_eq_getElem (by omega:k<l.length)]
 have kC:∀k,k<m->aP[k]? =some (aP.getD k default):=fun k hk=>by simp[List.getD_eq_getElem?_getD,List.getElem?_eq_getElem (by omega:k<aP.length)]
 have ll:∀k,k<m->aP.getD k default∈aP:=fun k hk=>List.mem_of_getElem? (kC k hk)
 have vh:∀k,k<m->(mZ aP)[k]? =some (mm (aP.getD k default),eR (aP.getD k default)):=fun k hk=>by
  simp only[mZ,List.getElem?_map,kC k hk,Option.map_some]
 have yc:(mZ aP).length=m:=by simp[mZ,xU]
 simp only[List.nil_append]at kD
 obtain⟨kZ,vF⟩:=kD
 have sA:∀k,k<ops.size->∀j∈aB ops k,j<k:=fun k hk j hj=>by
  have:=List.all_eq_true.1 hp k (by simpa[pM]using hk)
  rw[kH k hk]at this
  simpa using List.all_eq_true.1 this j hj
 have tX:∀k,k<(de ops).length->∀j∈(de ops).getD k [],j<k:=fun k hk j hj=>by
  rw[pM]at hk;rw[kH k hk]at hj;exact sA k hk j hj
 let po:Nat->Nat->Prop:=fun k j=>((cg (de ops) []).getD k 0).testBit j=true
 have re:∀E:Nat->Bool,(∀k,k<ops.size->E k=true->∀j∈aB ops k,E j=true)->∀k,k<ops.size->(∀j∈aB ops k,E j=true)->∀j,po k j->E j=true:=fun E hE k hk hj j hb=>
  iq tX (fun k hk dr j hj=>by rw[pM]at hk;rw[kH k hk]at hj;exact hE k hk dr j hj) k (by rw[pM];exact hk) (by rw[kH k hk];exact hj) j hb
 have pt:∀k,k<ops.size->∀j,po k j->j<k:=fun k hk j hb=>oj tX k (by rw[pM];exact hk) j hb
 have nW:∀i j,i<j->j<m-> ¬po j i->Compat (aL l) (fun i=>aP.getD i default) (fun i=>mm (aP.getD i default)) i j:=by
  intro i j Bf hj hn
  have tf:=List.all_eq_true.1 (List.all_eq_true.1 ht j (by simp;omega)) i (by simpa using Bf)
  have o3:=List.all_eq_true.1 (List.all_eq_true.1 kZ j (by simpa[yc]using hj)) i (by simpa using Bf)
  have Hc:((cg (de ops) []).getD j 0).testBit i=false:=by simpa[po]using hn
  rw[Hc,Bool.false_or]at tf o3
  simp only[Bool.and_eq_true]at tf o3
  have gi:=vh i (by omega)
  have gj:=vh j hj
  simp only[List.getD_eq_getElem?_getD (l:=mZ aP),gi,gj,Option.getD_some]at o3
  have dj:∀ {xs ys:List Nat},gK xs ys=true->∀x∈xs,x∉ys:=fun h x hx=>by simpa using List.all_eq_true.1 h x hx
  have fo:∀ {x y:aV},js x y=true->∀d,x.dst=some d->d∉ct y:=fun h d hd=>by simpa[js,hd]using h
  exact⟨fo tf.1,fo tf.2,fun id ai=>⟨dj o3.1.1 id ai,dj o3.1.2 id ai⟩,fun id ai=>dj o3.2 id ai⟩
 have MM:∀k,m<=k->k<ops.size->∀j,j<k->po k j:=fun k Nh hk j hj=>by
  have:=List.all_eq_true.1 MK k (by simpa[pM]using hk)
  simp only[Bool.or_eq_true]at this
  rcases this with this|this
  ·exact absurd (Nat.blt_eq.mp this) (by omega)
  ·show((cg (de ops) []).getD k 0).testBit j=true
   rw[Nat.eq_of_beq_eq_true this,Nat.testBit_two_pow_sub_one]
   exact decide_eq_true hj
 refine qw (ac:=fun i=>aP.getD i default) (m:=m) (X:=fun v s=>Q' (.aJ v) s) (K:=Q' .normal) aC gN sA (by omega) hs (fun i hi=> ?_) (fun i hi=>aT _ (ll i hi)) re pt nW MM ?_ (fun s φ a w hk eP=>⟨.normal,s,φ,hk,eP,trivial⟩) (fun v s' aj a' w' val hx eP hd=>⟨.aJ v,s',aj,hx,eP,val,rfl,hd⟩)
 ·rw[kp i (by omega)];exact aI i _ _ (FZ i hi) (kC i hi)
 ·rw[kp m (Nat.le_refl _)]
  rw[ML]at vF
  exact ea (fun s hs=>hQ _ _ hs) (fun v s hs=>hQ _ _ hs) _ _ _ (m5 _ _ m gN) vF
theorem sB{g:V}{ps:List Nat}{x y:IC}{Q Q':eo->S->Prop}{s:S}(hQ:∀e s,Q e s->Q' e s)(h:qd P n g ps x y Q s):qd P n g ps x y Q' s:=by
 obtain⟨env,h1,h2⟩:=h
 refine⟨env,h1, ?_⟩
 split at h2
 ·refine iX.mono (fun v o n h=> ?_) (fun v o n h=>hQ _ _ h) h2
  obtain⟨nf,m,e,p,c,d,st,pd,k1,k2,k3⟩:=h
  refine⟨nf,m,e,p,c,d,st,pd,k1,k2, ?_⟩
  cases pd with
  |none=>exact hQ _ _ k3
  |some j=>cases j<;>exact hQ _ _ k3
 ·exact h2
theorem dF(aC:P.follows .mixedOrders=true):∀ (c:Code) (Q Q':eo->S->Prop) (s:S),(∀e s,Q e s->Q' e s)->ma P n b rd (low n c) Q s->dR P n b rd c Q' s:=by
 intro c
 induction c with
 |skip=>exact fun Q Q' s hQ h=>hQ _ _ h
 |scope x ih=>exact fun Q Q' s hQ h=>ih Q Q' s hQ h
 |label l=>exact fun Q Q' s hQ h=>hQ _ _ h
 |exit id=>exact fun Q Q' s hQ h=>hQ _ _ h
 |ret=>exact fun Q Q' s hQ h=>hQ _ _ h
 |goto l=>exact fun Q Q' s hQ h=>h.elim
 |refuse y=>exact fun Q Q' s hQ h=>h.elim
 |rangeFunc f p x y=>exact fun Q Q' s hQ h=>⟨h.1,sB hQ h.2⟩
 |region id ops draw=>
  intro Q Q' s hQ h
  cases draw with
  |true=>
   simp only[low]at h
   split at h
   ·rename_i l hl
    split at h
    ·rename_i hc
     simp only[Bool.and_eq_true]at hc
     rcases h with h|h
     ·exact sy aC hQ hl hc.1 hc.2 h
     ·exact qy aC hQ hl hc.1 hc.2 h
    ·exact h.elim
   ·exact h.elim
  |false=>
   simp only[low]at h
   split at h
   ·rename_i l hl;exact ea (fun s hs=>hQ _ _ hs) (fun v s hs=>hQ _ _ hs) _ l s hl h
   ·exact h.elim
 |seq x y vw vx=>
  intro Q Q' s hQ h
  refine vw _ _ s (fun e s he=> ?_) h
  cases e<;>first|exact vx Q Q' s hQ he|exact hQ _ _ he
 |cond c x y vw vx=>
  intro Q Q' s hQ h
  simp only[low,ma]at h
  simp only[dR]
  split at h
  ·rename_i t hc
   simp only[hc]
   exact⟨fun ht=>vw Q Q' s hQ (h.1 ht),fun ht=>vx Q Q' s hQ (h.2 ht)⟩
  ·rename_i hc
   simp only[hc]
   exact⟨vw Q Q' s hQ h.1,vx Q Q' s hQ h.2⟩
  ·exact h.elim
 |block id x ih=>
  intro Q Q' s hQ h
  refine ih _ _ s (fun e s he=> ?_) h
  cases e<;>simp only[cR]at he|- <;>first
   |exact hQ _ _ he
   |(split at he<;>rename_i e
     ·rw[if_pos e];exact hQ _ _ he
     ·rw[if_neg e];exact hQ _ _ he)
 |loop x ih=>
  intro Q Q' s hQ h
  obtain⟨J,h0,hr⟩:=h
  refine⟨J,h0,fun m s0 hJ=>ih _ _ s0 (fun e s he=> ?_) (hr m s0 hJ)⟩
  cases e<;>first|exact hQ _ _ he|exact he
structure ag (P:Program) (f:FuncId) (n:Nat) (ic:IC) (rs:List ResultVar):Prop where
 get:∃fn,P.funcs[f]? =some fn/\(fn.name== "runtime.NumGoroutine")=false/\fn.ntmps=n/\fn.results.toList=rs/\∃c,fn.body=some c/\low n c=ic
theorem jE.rh (aC:P.follows .mixedOrders=true){f:FuncId}{ic:IC}{rs:List ResultVar}(hf:ag P f n ic rs){args:List V}{o:Nat->ab}{nx:Nat}{K X:V->(Nat->ab)->Nat->Prop}(hl:args.length<=n)(h:ma P n nx false ic (fD P rs K X) ⟨bt args,o,nx⟩):jE P f args o nx K X:=by
 obtain⟨fn,h1,h2,rfl,rfl,c,h3,rfl⟩:=hf.get
 exact jE.q0 h1 h2 h3 hl (dF aC c _ _ _ (fun _ _ h=>h) h)
theorem dN.rh (aC:P.follows .mixedOrders=true){f:FuncId}{ic:IC}{rs:List ResultVar}(hf:ag P f n ic rs){ds:List D}{out:R}(hl:ds.length<=n)(h:ma P n 0 false ic (rZ P rs out) ⟨bt (ds.map .d),fun _=> .no,0⟩):dN P f ds out:=by
 obtain⟨fn,h1,h2,rfl,rfl,c,h3,rfl⟩:=hf.get
 exact dN.ib (jE.q0 h1 h2 h3 (by simpa using hl) (dF aC c _ _ _ (fun e s h=>si e s h) h))
end
end Go.Proofs.YtpkobkdgcanmjaaGreat
namespace Go.Proofs.YtpkobkdgcanmjaaGreat
def tZ(id:Nat)(K X:V->(Nat->ab)->Nat->Prop)(e:eo)(s:S):Prop:=
 match e with
 | .normal=>∃nf m en p c d st pd,s.o id= .loop nf m en p c d st pd/\K (.d (.bool true)) (cK s.o id (.loop nf m en p c d .ready none)) s.nx
 | .ret=>∃nf m en p c d st pd,s.o id= .loop nf m en p c d st pd/\K (.d (.bool false)) (cK s.o id (.loop nf m en p c d .done (some .ret))) s.nx
 | .exit j=>∃nf m en p c d st pd,s.o id= .loop nf m en p c d st pd/\K (.d (.bool false)) (cK s.o id (.loop nf m en p c d .done (some (.exit j)))) s.nx
 | .aJ v=>X v s.o s.nx
def yd(P:Program)(n b id:Nat)(fI:IC)(K X:V->(Nat->ab)->Nat->Prop)(e:eo)(s:S):Prop:=
 match e with
 | .normal=>∃nf m en p c d pd,s.o id= .loop nf m en p c d .ready pd/\ma P n b true fI (tZ id K X) ⟨s.env,cK s.o id (.loop nf m en p c d .busy pd),s.nx⟩
 | .aJ v=>X v s.o s.nx
 |_=>False
section
variable {P:Program}{M:Nat->Prop}{φ a7:Place}{H0:Hp}{w w0:World}{n:Nat}{s:S}{a:Act}{cx:Cx}
theorem py{id:Nat}{x:ab}{s:S}(cm:id<s.nx)(j:Nat)(hu:(s.H.put [(id,x)]).us j):j<s.nx:=by
 simp only[bX]at hu
 rcases hu with hu|hu
 ·exact hu
 ·subst hu;exact cm
theorem lO{B:Nat->Prop}{H:Hp}{n:Nat}:∀ (ps:List Nat) (vs:List V) (us:List Value) (env:Nat->V) (tmps:Array Value),tmps.size=n->ps.length=vs.length->V.ak B φ H w vs us->ps.all (fun t=>decide (t<n))=true->(∀i,V.den B φ H w (env i) (tmps.getD i undef))->
 ((ps.zip us).foldl (fun tmps p=>tmps.setIfInBounds p.1 p.2) tmps).size=n/\∀i,V.den B φ H w (sx env ps vs i) (((ps.zip us).foldl (fun tmps p=>tmps.setIfInBounds p.1 p.2) tmps).getD i undef)
 |[],[],us,env,tmps,cG,_,hd,_,he=>by simp only[V.ak]at hd;subst hd;exact⟨cG,he⟩
 |[],v::vs,us,env,tmps,_,h,_,_,_=>by simp at h
 |t::ps,[],us,env,tmps,_,h,_,_,_=>by simp at h
 |t::ps,v::vs,us,env,tmps,cG,hl,hd,hp,he=>by
  obtain⟨u,us,rfl,h1,h2⟩:=hd
  simp only[List.all_cons,Bool.and_eq_true,decide_eq_true_eq]at hp
  simp only[List.zip_cons_cons,List.foldl_cons,sx]
  refine lO ps vs us (cK env t v) (tmps.setIfInBounds t u) (by simp[cG]) (by simpa using hl) h2 hp.2 (fun i=> ?_)
  simp only[ao]
  by_cases hi:i=t
  ·subst hi
   have:(tmps.setIfInBounds i u).getD i undef=u:=by simp[Array.getD,cG,hp.1]
   rw[if_pos rfl,this];exact h1
  ·have:(tmps.setIfInBounds t u).getD i undef=tmps.getD i undef:=by
    simp only[Array.getD_eq_getD_getElem?]
    rw[Array.getElem?_setIfInBounds_ne (Ne.symm hi)]
   rw[if_neg hi,this];exact he i
theorem ek.rh (aC:P.follows .mixedOrders=true){id:Nat}{args:List V}{o:Nat->ab}{nx:Nat}{K X:V->(Nat->ab)->Nat->Prop}{env:List V}{ps:List Nat}{iu fI:IC}{st:LoopState}{pd:Option ke}
 (ho:o id= .loop P.funcs.size n env ps iu fI st pd) (cm:id<nx) (Hd:ps.all (fun t=>decide (t<n))=true) (hl:args.length=ps.length)
 (h:ma P n nx true iu (yd P n nx id fI K X) ⟨sx (eV env) ps args,o,nx⟩):ek P id args o nx K X:=by
 refine⟨by rw[ho];rfl,fun M φ w vals b hH hd bJ=> ?_⟩
 have aI:=hH.ok id
 simp only[aw,hp,ho]at aI
 obtain⟨b',r,h1,h2,h0,h3,h4,h5,h6,h7,h8,h9⟩:=aI
 rw[bJ]at h1;simp at h1;subst h1
 have hlen:=V.ah _ _ hd
 have cG:vals.size=r.params.size:=by
  have:r.params.toList.length=ps.length:=by rw[h5]
  simp at hlen this;omega
 let tm:Array Value:=(ps.zip vals.toList).foldl (fun tmps p=>tmps.setIfInBounds p.1 p.2) r.tmps
 have Bg:(r.params.zip vals).foldl (fun tmps (p:Tmp×Value)=>tmps.setIfInBounds p.1 p.2) r.tmps=tm:=by
  rw[<- Array.foldl_toList,Array.toList_zip,h5]
 obtain⟨p1,p2⟩:=lO (B:=ad M φ (hp o nx)) (H:=hp o nx) (φ:=φ) (w:=w) ps args vals.toList (eV env) r.tmps h6 hl.symm hd Hd h9
 refine⟨r.fn,tm,r.assign,r.body, ?_,fun k=> ?_⟩
 ·simp only[Instr.yield,Sem.run_bind,eL h2,Result.andThen_ok,cG,ne_eq,not_true_eq_false,if_false,Sem.run_pure]
  rw[<- Bg]
 ·
   let s0:S:=⟨sx (eV env) ps args,o,nx⟩
   let a0:Act:={tmps:=tm,defers:=[]}
   have vy:aQ M φ (hp o nx) w n ⟨[],true⟩ φ s0 a0 w:=⟨hH,Trans.refl _ _ _,p1,⟨[],rfl,List.nodup_nil,fun _=>rfl,fun r hr=>by cases hr⟩,p2⟩
   have lP:∀ {aj s' a' w'},aQ M φ (hp o nx) w n ⟨[],true⟩ aj s' a' w'->a'.defers=[]:=by
    intro aj s' a' w' hs
    obtain⟨ms,g1,_,g3,_⟩:=hs.defers
    rw[g3 rfl]at g1;exact g1
   have Bh:∀ {aj s' a' w'} {nf m:Nat} {en:List V} {p:List Nat} {c d:IC} {st:LoopState} {pd:Option ke} (st':LoopState) (pd':Option ke),aQ M φ (hp o nx) w n ⟨[],true⟩ aj s' a' w'->s'.o id= .loop nf m en p c d st pd->
    ∃r',w'.heap[b]? =some (.loop r')/\r'.state=st/\r'.pending=pd.map ke.code/\
     aQ M φ (hp o nx) w n ⟨[],true⟩ aj ⟨s'.env,cK s'.o id (.loop nf m en p c d st' pd'),s'.nx⟩ a' {w' with heap:=w'.heap.setIfInBounds b (.loop {r' with state:=st',pending:=pd'.map ke.code})}:=by
    intro aj s' a' w' nf m en p c d st pd st' pd' hs kI
    have x3:aj id= .pointer (some ⟨b,0,none⟩):=by
     have:=(hs.tr.rel.row id cm (by show(s'.o id).aN=true;rw[kI];rfl)).2
     rw[this];exact bJ
    have Bi:id<s'.nx:=hs.tr.rel.us id cm
    obtain⟨r',r1,r2,r3,r4,r5⟩:=mP (st':=st') (pd':=pd') hs.heap Bi (show s'.H.o id=_ from kI) x3
    exact⟨r',r1,r2,r3,b7 hs r4 r5 rfl (py Bi)⟩
   have ha:=dF (P:=P) (n:=n) (b:=nx) (rd:=true) aC r.assign _ _ s0 (fun _ _ h=>h) (by rw[h7];exact h)
   refine lC h0 (dp (dz (P:=P) (H0:=hp o nx) (b:=nx) (cx:=⟨[],true⟩) (ro:=some b) (fun id hu=>hu) (fun h=>by cases h) r.assign _ s0 φ a0 w ha vy) ?_)
   rintro e a1 w1 ⟨x,s1,dM,hq,mQ,hm⟩
   cases e<;>cases x<;>first|(exact hm.elim)|skip
   ·
     obtain⟨nf,m,en,p,c,d,He,q1,q2⟩:=hq
     obtain⟨r',r1,r2,r3,u0⟩:=Bh .busy He mQ q1
     have ye:(Instr.beginRound b).run P w1= .ok () {w1 with heap:=w1.heap.setIfInBounds b (.loop {r' with state:= .busy,pending:=He.map ke.code})}:=by
      have e1:({r' with state:= .busy}:Loop)={r' with state:= .busy,pending:=He.map ke.code}:=by rw[<- r3]
      simp only[Instr.beginRound,Sem.run_bind,eL r1,Result.andThen_ok,dP _ r1,r2,Sem.run_pure,e1]
     refine⟨_,ye, ?_⟩
     have aF:=u0.heap.ok id
     simp only[aw,S.H,ao,if_true]at aF
     obtain⟨b2,Ni,_,_,_,_,_,_,_,_,_,_⟩:=aF
     have hb:=dF (P:=P) (n:=n) (b:=nx) (rd:=true) aC r.body _ _ _ (fun _ _ h=>h) (by rw[h8];exact q2)
     refine dp (dz (P:=P) (H0:=hp o nx) (b:=nx) (cx:=⟨[],true⟩) (ro:=some b) (fun id hu=>hu) (fun h=>by cases h) r.body _ _ dM a1 _ hb u0) ?_
     rintro e a2 w2 ⟨x,s2,sd,zD,qZ,FU⟩
     have fin:∀ {nf m:Nat} {en:List V} {p:List Nat} {c d:IC} {st:LoopState} {pd:Option ke} (jump:Option ke) (t:Bool) (st':LoopState),t=jump.isNone->st'=(if jump.isNone then .ready else .done)->s2.o id= .loop nf m en p c d st pd->K (.d (.bool t)) (cK s2.o id (.loop nf m en p c d st' jump)) s2.nx->
      ∃v w',(Instr.endRound b (jump.map ke.code)).run P w2= .ok v w'/\fU M φ (hp o nx) w K X (.returned v) w':=by
      intro nf m en p c d st pd jump t st' ht kp MN hK
      obtain⟨Nj,g1,g2,g3,zE⟩:=Bh st' jump qZ MN
      refine⟨.bool t,_, ?_,sd,_,_,_,zE.heap,zE.tr,by simp only[V.den,D.den],hK⟩
      subst ht;subst kp
      simp only[Instr.endRound,Sem.run_bind,eL g1,Result.andThen_ok,dP _ g1,Sem.run_pure,Option.isNone_map]
     cases e<;>cases x<;>first|(exact FU.elim)|skip
     ·obtain⟨nf,m,en,p,c,d,st,pd,k1,k2⟩:=zD
      exact fin none true .ready rfl rfl k1 k2
     ·rename_i j
      subst FU
      obtain⟨nf,m,en,p,c,d,st,pd,k1,k2⟩:=zD
      exact fin (some (.exit _)) false .done rfl rfl k1 k2
     ·obtain⟨nf,m,en,p,c,d,st,pd,k1,k2⟩:=zD
      exact fin (some .ret) false .done rfl rfl k1 k2
     ·obtain⟨val,rfl,k2⟩:=FU
      exact⟨lP qZ,sd,_,_,_,qZ.heap,qZ.tr,val,rfl,k2,zD⟩
   ·exact hq.elim
   ·exact hq.elim
   ·obtain⟨val,rfl,k2⟩:=hm
    exact⟨lP mQ,dM,_,_,_,mQ.heap,mQ.tr,val,rfl,k2,hq⟩
end
end Go.Proofs.YtpkobkdgcanmjaaGreat
namespace Go.Proofs.YtpkobkdgcanmjaaGreat
def yf(ops:Array Oper)(t t1:Nat):Prop:=
 (∃o1 o2,ops=#[o1,o2]/\o1.op= .call ⟨.builtin .recover,#[],#[]⟩/\o1.dst=some t/\o1.guard=none/\o2.op= .assign (.tmp t)/\o2.dst=some t1/\o2.guard=none)\/
 (∃o1,ops=#[o1]/\t1=t/\o1.op= .call ⟨.builtin .recover,#[],#[]⟩/\o1.dst=some t/\o1.guard=none)
structure ri (P:Program) (g:FuncId) (n t t1:Nat) (ic:IC):Prop where
 get:∃fn id ops c,P.funcs[g]? =some fn/\(fn.name== "runtime.NumGoroutine")=false/\fn.ntmps=n/\fn.results=#[]/\fn.body=some (.seq (.region id ops false) c)/\
  yf ops t t1/\t<n/\t1<n/\low n c=ic
structure ua (P:Program) (f:FuncId) (n:Nat) (iu fI:IC) (g:FuncId) (t:Nat) (gO:List Operand) (rs:List ResultVar):Prop where
 get:∃fn id o1 o2 a b,P.funcs[f]? =some fn/\(fn.name== "runtime.NumGoroutine")=false/\fn.ntmps=n/\fn.results.toList=rs/\fn.body=some (.seq a (.seq (.region id #[o1,o2] false) b))/\
  o1.op= .makeFunc (.func g) #[] gO.toArray/\o1.dst=some t/\o1.guard=none/\o2.op= .defer ⟨.value (.tmp t),#[],#[]⟩/\o2.dst=none/\o2.guard=none/\t<n/\low n a=iu/\low n b=fI
def Hf(K:(Nat->ab)->Nat->Prop)(e:eo)(s:S):Prop:=match e with| .normal| .ret=>K s.o s.nx|_=>False
def sC(P:Program)(n t t1:Nat)(ic:IC)(gO:List V)(u:V)(o:Nat->ab)(nx:Nat)(K:(Nat->ab)->Nat->Prop):Prop:=
 gO.length<=n/\ma P n nx true ic (Hf K) ⟨cK (cK (bt gO) t u) t1 u,o,nx⟩
def qz(P:Program)(n t t1:Nat)(ic:IC)(gO:List V)(rs:List ResultVar)(K X:V->(Nat->ab)->Nat->Prop)(e:eo)(s:S):Prop:=
 match e with
 | .normal| .ret=>sC P n t t1 ic gO (.d .dv) s.o s.nx fun o nx=>fD P rs K X .ret ⟨s.env,o,nx⟩
 | .aJ v=>sC P n t t1 ic gO v s.o s.nx fun o nx=>fD P rs K X .ret ⟨s.env,o,nx⟩
 | .exit _=>False
def ub(P:Program)(n t:Nat)(fI:IC)(dW:List Operand)(g:FuncId)(D:List V->eo->S->Prop)(e:eo)(s:S):Prop:=
 match e with
 | .normal=>ma P n s.nx false fI (D (dW.map s.ev)) ⟨cK s.env t (.func (.func g) [] (dW.map s.ev)),s.o,s.nx⟩
 |_=>False
section
variable {P:Program}{M:Nat->Prop}{φ a7:Place}{H H0:Hp}{w w0:World}{n:Nat}{s:S}{a:Act}{cx:Cx}{k:Nat}
theorem sD(aC:P.follows .mixedOrders=true){g:FuncId}{t t1:Nat}{ic:IC}(hg:ri P g n t t1 ic){gO:List V}{u:V}{o:Nat->ab}{nx:Nat}{K:(Nat->ab)->Nat->Prop}(h:sC P n t t1 ic gO u o nx K)
 {vals:Array Value} {val:Value} {m:FrameMode} (hH:af M φ (hp o nx) w) (hd:V.ak (ad M φ (hp o nx)) φ (hp o nx) w gO vals.toList) (hv:V.den (ad M φ (hp o nx)) φ (hp o nx) w u val)
 (hm:(m= .returning/\val= .nilIface)\/m= .panicking [{v:=val,recovered:=false}]):
 CallsDIn (bU none) k P g vals m w fun e u' w'=>∃v aj o' nx',e= .returned v/\settle u'= .returning/\af M aj (hp o' nx') w'/\Trans φ (hp o nx) w aj (hp o' nx') w'/\K o' nx':=by
 obtain⟨fn,id,ops,c,hf,xg,MO,oU,je,sv,ht,pO,gN⟩:=hg.get
 have cm:g<P.funcs.size:=(Array.getElem?_eq_some_iff.1 hf).1
 obtain⟨kq,h⟩:=h
 have hlen:=V.ah _ _ hd
 refine⟨trivial,fun ik cs uc wG=> ?_⟩
 let b:Frame:={(default:Frame)with fn:=g,kind:= .deferred,roundOf:=none}
 let kL:Array Value:=vals++Array.replicate (fn.ntmps - vals.size) undef
 have Hg:kL.size=n:=by simp only[kL,Array.size_append,Array.size_replicate];simp at hlen;omega
 have fC:Frame.enter P g vals .deferred=b.atR {tmps:=kL,defers:=[]} [.code (.seq (.region id ops false) c)]:=by
  simp[Frame.enter,Frame.atR,hf,je,b,kL]
 obtain⟨m',JU,aF⟩:∃m',settle m'= .returning/\((recoverD (ik::cs)=none/\m'=m/\val= .nilIface)\/recoverD (ik::cs)=some (val,{ik with mode:=m'}::cs)):=by
  rcases hm with⟨rfl,rfl⟩|rfl
  ·exact⟨.returning,rfl, .inl ⟨by simp[recoverD,uc],rfl,rfl⟩⟩
  ·exact⟨.panicking [{v:=val,recovered:=true}],rfl, .inr (by simp[recoverD,uc])⟩
 have FQ:({ik with mode:=m}:Frame)=ik:=by subst uc;rfl
 let a1:Act:={tmps:=(kL.setIfInBounds t val).setIfInBounds t1 val,defers:=[]}
 have vF:(Code.region id ops false).wpSIn (bU none) k P (fun e a' cs' w'=>e= .normal/\a'=a1/\cs'={ik with mode:=m'}::cs/\w'=w) {tmps:=kL,defers:=[]} (ik::cs) w:=by
  rcases sv with⟨o1,o2,rfl,e1,e2,e3,e4,e5,e6⟩|⟨o1,rfl,rfl,e1,e2,e3⟩
  ·refine wpSIn_region ?_
   have hr:List.range (#[o1,o2]:Array Oper).size=[0,1]:=rfl
   have g0:(#[o1,o2]:Array Oper)[0]? =some o1:=rfl
   have g1:(#[o1,o2]:Array Oper)[1]? =some o2:=rfl
   rw[hr]
   have x1:∀ (ρ:Operand->Value) (w:World),(execOp ρ o1).run P w= .ok .recover w:=by
    intro ρ w
    simp[execOp,e1,resolve,invoke,builtin]
   have x2:∀ (ρ:Operand->Value) (w:World),(execOp ρ o2).run P w= .ok (.value (ρ (.tmp t))) w:=by
    intro ρ w
    simp[execOp,e4]
   have last:∀cs',cs'={ik with mode:=m'}::cs->wpOpsSIn (bU none) k P #[o1,o2] (fun e a' cs' w'=>e= .normal/\a'=a1/\cs'={ik with mode:=m'}::cs/\w'=w) [1] (({tmps:=kL,defers:=[]}:Act).put (some t) val) cs' w:=by
    rintro cs' rfl
    have hw:Region.wanted o2 (yielded #[o1,o2] (({tmps:=kL,defers:=[]}:Act).put (some t) val).tmps)=true:=by simp[Region.wanted,e6]
    have bT:(({tmps:=kL,defers:=[]}:Act).put (some t) val).eval (.tmp t)=val:=by
     have:t<kL.size:=by omega
     simp[Act.put,Act.eval,Array.getD,this]
    simp only[wpOpsSIn,g1,hw,if_true,x2,bT,e5]
    refine⟨fun _ _=>trivial, ?_⟩
    simp[a1,Act.put]
   have hw:Region.wanted o1 (yielded #[o1,o2] kL)=true:=by simp[Region.wanted,e3]
   rw[wpOpsSIn,g0]
   refine⟨fun _ _=>trivial, ?_⟩
   simp only[hw,if_true,x1,e2]
   rcases aF with⟨hr,rfl,rfl⟩|hr
   ·simp only[hr]
    exact last _ (by rw[FQ])
   ·simp only[hr]
    exact last _ rfl
  ·refine wpSIn_region ?_
   have hr:List.range (#[o1]:Array Oper).size=[0]:=rfl
   have g0:(#[o1]:Array Oper)[0]? =some o1:=rfl
   rw[hr]
   have x1:∀ (ρ:Operand->Value) (w:World),(execOp ρ o1).run P w= .ok .recover w:=by
    intro ρ w
    simp[execOp,e1,resolve,invoke,builtin]
   have same:a1=({tmps:=kL,defers:=[]}:Act).put (some t1) val:=by
    simp only[a1,Act.put]
    congr 1
    apply Array.ext_getElem?
    intro j
    simp only[Array.getElem?_setIfInBounds]
    by_cases hj:t1=j
    ·subst hj;simp
    ·simp[hj]
   have last:∀cs',cs'={ik with mode:=m'}::cs->wpOpsSIn (bU none) k P #[o1] (fun e a' cs' w'=>e= .normal/\a'=a1/\cs'={ik with mode:=m'}::cs/\w'=w) [] (({tmps:=kL,defers:=[]}:Act).put (some t1) val) cs' w:=by
    rintro cs' rfl
    simp only[wpOpsSIn]
    exact⟨trivial,same.symm,trivial,trivial⟩
   have hw:Region.wanted o1 (yielded #[o1] kL)=true:=by simp[Region.wanted,e3]
   rw[wpOpsSIn,g0]
   refine⟨fun _ _=>trivial, ?_⟩
   simp only[hw,if_true,x1,e2]
   rcases aF with⟨hr,rfl,rfl⟩|hr
   ·simp only[hr]
    exact last _ (by rw[FQ])
   ·simp only[hr]
    exact last _ rfl
 obtain⟨er,ar,Nk,wr,hl,⟨rfl,rfl,rfl,MP⟩,a6⟩:=vF b [.code c] rfl rfl trivial (fun d hd=>by simp[bU]at hd)
 rw[MP]at a6
 let s0:S:=⟨cK (cK (bt gO) t u) t1 u,o,nx⟩
 have vy:aQ M φ (hp o nx) w n ⟨[],true⟩ φ s0 a1 w:=by
  refine⟨hH,Trans.refl _ _ _,by simp[a1,Hg],⟨[],rfl,List.nodup_nil,fun _=>rfl,fun r hr=>by cases hr⟩,fun i=> ?_⟩
  have bK:=lB (m:=fn.ntmps - vals.size) hd i
  simp only[s0,a1,ao]
  have FW:t<kL.size:=by omega
  have Hh:t1<kL.size:=by omega
  by_cases h1:i=t1
  ·subst h1
   simp only[if_true]
   have:((kL.setIfInBounds t val).setIfInBounds i val).getD i undef=val:=by simp[Array.getD,Hh]
   rw[this];exact hv
  ·simp only[h1,if_false]
   have e1:((kL.setIfInBounds t val).setIfInBounds t1 val).getD i undef=(kL.setIfInBounds t val).getD i undef:=by
    simp only[Array.getD_eq_getD_getElem?]
    rw[Array.getElem?_setIfInBounds_ne (Ne.symm h1)]
   rw[e1]
   by_cases h2:i=t
   ·subst h2
    simp only[if_true]
    have:(kL.setIfInBounds i val).getD i undef=val:=by simp[Array.getD,FW]
    rw[this];exact hv
   ·simp only[h2,if_false]
    have e1:(kL.setIfInBounds t val).getD i undef=kL.getD i undef:=by
     simp only[Array.getD_eq_getD_getElem?]
     rw[Array.getElem?_setIfInBounds_ne (Ne.symm h2)]
    rw[e1];exact bK
 have MQ:=dF (P:=P) (n:=n) (b:=nx) (rd:=true) aC c _ _ s0 (fun _ _ h=>h) (by rw[gN];exact h)
 obtain⟨e,a',w',⟨x,s',aj,hq,eP,hx⟩,qY⟩:=dz (P:=P) (H0:=hp o nx) (b:=nx) (cx:=⟨[],true⟩) (ro:=none) (fun id hu=>hu) (fun h=>by cases h) c _ s0 φ a1 w MQ vy b [] ({ik with mode:=m'}::cs) rfl cm
 have i0:(lone (b.atR {tmps:=kL,defers:=[]} [.code (.seq (.region id ops false) c)]) (ik::cs) w).fenced P (bU none):=fenced_calm (n:=0) trivial dn rfl
 have xh:StepsIn (Machine.fenced P (bU none)) P (lone (b.atR {tmps:=kL,defers:=[]} [.code (.seq (.region id ops false) c)]) (ik::cs) w) (lone (b.atR a1 [.code c]) ({ik with mode:=m'}::cs) w):= .head i0 stepR_seq a6
 have lP:a'.defers=[]:=by
  obtain⟨ms,g1,_,g3,_⟩:=eP.defers
  rw[g3 rfl]at g1;exact g1
 have Bj:∀tm:Array Value,∃v,(results fn tm).run P w'= .ok v w':=by
  intro tm
  refine⟨_,fZ (vals:=[]) ?_⟩
  rw[oU];rfl
 rw[fC]
 obtain⟨v,l8⟩:=Bj a'.tmps
 cases e<;>cases x<;>first|(exact hx.elim)|(exact hq.elim)|skip
 ·exact⟨.returned v,m',w',_,⟨v,aj,s'.o,s'.nx,rfl,JU,eP.heap,eP.tr,hq⟩,StepsIn.trans xh (StepsIn.trans qY (.one (fenced_calm (n:=0) (fr:=b.atR a' []) trivial dn rfl) (stepR_end rfl))),rfl,rfl,rfl,lP,fn,hf,l8⟩
 ·obtain⟨todo,hs⟩:=qY.1 rfl
  exact⟨.returned v,m',w',_,⟨v,aj,s'.o,s'.nx,rfl,JU,eP.heap,eP.tr,hq⟩,StepsIn.trans xh hs,rfl,rfl,rfl,lP,fn,hf,l8⟩
theorem jE.ud (aC:P.follows .mixedOrders=true){f g:FuncId}{iu fI pz:IC}{t m r r1:Nat}{dW:List Operand}{rs:List ResultVar}(hf:ua P f n iu fI g t dW rs)(hg:ri P g m r r1 pz)
 {args:List V} {o:Nat->ab} {nx:Nat} {K X:V->(Nat->ab)->Nat->Prop} (hl:args.length<=n)
 (h:ma P n nx true iu (ub P n t fI dW g fun gO=>qz P m r r1 pz gO rs K X) ⟨bt args,o,nx⟩):jE P f args o nx K X:=by
 obtain⟨fn,id,o1,o2,ca,cb,r9,xg,MO,oU,je,e1,e2,e3,e4,e5,e6,ht,MR,uY⟩:=hf.get
 obtain⟨gn,_,_,gc,MS,yg,_,_,yh,_⟩:=hg.get
 refine⟨⟨fn,r9,xg,by rw[je];rfl⟩,fun M φ w vals hH hd=> ?_⟩
 have hlen:=V.ah _ _ hd
 let s0:S:=⟨bt args,o,nx⟩
 let a0:Act:={tmps:=vals++Array.replicate (fn.ntmps - vals.size) undef,defers:=[]}
 have vy:aQ M φ (hp o nx) w n ⟨[],true⟩ φ s0 a0 w:=by
  refine⟨hH,Trans.refl _ _ _, ?_,⟨[],rfl,List.nodup_nil,fun _=>rfl,fun r hr=>by cases hr⟩,lB hd⟩
  simp only[a0,Array.size_append,Array.size_replicate];simp at hlen;omega
 have ha:=dF (P:=P) (n:=n) (b:=nx) (rd:=true) aC ca _ _ s0 (fun _ _ h=>h) (by rw[MR];exact h)
 refine oV (ro:=none) (k:=0) (ga r9 je (nD (dp (dz (P:=P) (H0:=hp o nx) (b:=nx) (cx:=⟨[],true⟩) (ro:=none) (fun id hu=>hu) (fun h=>by cases h) ca _ s0 φ a0 w ha vy) ?_)))
 rintro e a1 w1 ⟨x,s1,dM,hq,mQ,hm⟩
 cases e<;>cases x<;>first|(exact hm.elim)|(exact hq.elim)|skip
 have lP:a1.defers=[]:=by
  obtain⟨ms,g1,_,g3,_⟩:=mQ.defers
  rw[g3 rfl]at g1;exact g1
 let cv:Array Value:=(dW.map a1.eval).toArray
 let fv:Value:= .func (.func g) #[] cv
 let dd:Deferred:={target:= .fn (.func g) cv,args:=#[]}
 let a2:Act:={tmps:=a1.tmps.setIfInBounds t fv,defers:=[dd]}
 have xi:V.ak (ad M dM s1.H) dM s1.H w1 (dW.map s1.ev) cv.toList:=by
  simpa[cv]using eE (M:=M) (φ:=dM) (H:=s1.H) (w:=w1) s1 a1 mQ.env dW
 refine nD (dp (Q:=fun e a w=>e= .normal/\a=a2/\w=w1) (hZ (k:=0) (wpIn_region_list ?_)) ?_)
 ·have y1:Region.wanted o1 (yielded #[o1,o2] a1.tmps)=true:=by simp[Region.wanted,e3]
  have y2:∀tm,Region.wanted o2 (yielded #[o1,o2] tm)=true:=by intro tm;simp[Region.wanted,e6]
  have bT:(a1.put (some t) fv).eval (.tmp t)=fv:=by
   have:t<a1.tmps.size:=by rw[mQ.size];exact ht
   simp[Act.put,Act.eval,Array.getD,this]
  show wpListIn (bU none) 0 P #[o1,o2] _ [o1,o2] a1 w1
  unfold wpListIn
  rw[if_pos y1]
  have x1:(execOp a1.eval o1).run P w1= .ok (.value fv) w1:=by simp[execOp,e1,fv,cv,Instr.makeFunc]
  refine eJ (fun c hc=>by rw[e1]at hc;cases hc) ?_
  rw[x1]
  show wpListIn (bU none) 0 P #[o1,o2] _ [o2] (a1.put o1.dst fv) w1
  rw[e2]
  unfold wpListIn
  rw[if_pos (y2 _)]
  have x2:(execOp (a1.put (some t) fv).eval o2).run P w1= .ok (.defer dd) w1:=by
   simp[execOp,e4,resolve,bT,Deferred.ofValue,fv,dd]
  refine⟨fun _ _=>trivial, ?_⟩
  have:(o2.semAt (bU none).round (a1.put (some t) fv).eval)=execOp (a1.put (some t) fv).eval o2:=rfl
  rw[this,x2]
  unfold Oper.uponIn
  simp only[e5,wpListIn,Act.put,lP,a2,and_self]
 rintro e a w2 ⟨rfl,rfl,rfl⟩
 have pO:t<a1.tmps.size:=by rw[mQ.size];exact ht
 let s2:S:=⟨cK s1.env t (.func (.func g) [] (dW.map s1.ev)),s1.o,s1.nx⟩
 have u0:aQ M dM s1.H w2 n ⟨[dd],false⟩ dM s2 a2 w2:=by
  refine⟨mQ.heap,Trans.refl _ _ _,by simp[a2,mQ.size],⟨[],rfl,List.nodup_nil,fun _=>rfl,fun r hr=>by cases hr⟩,fun i=> ?_⟩
  simp only[s2,a2,ao]
  by_cases h1:i=t
  ·subst h1
   have:(a1.tmps.setIfInBounds i fv).getD i undef=fv:=by simp[Array.getD,pO]
   simp only[if_true];rw[this]
   exact⟨#[],cv,rfl,rfl,xi⟩
  ·have:(a1.tmps.setIfInBounds t fv).getD i undef=a1.tmps.getD i undef:=by
    simp only[Array.getD_eq_getD_getElem?]
    rw[Array.getElem?_setIfInBounds_ne (Ne.symm h1)]
   simp only[h1,if_false];rw[this]
   exact mQ.env i
 have hb:=dF (P:=P) (n:=n) (b:=s1.nx) (rd:=false) aC cb _ _ s2 (fun _ _ h=>h) (by rw[uY];exact hq)
 refine dp (dz (P:=P) (H0:=s1.H) (b:=s1.nx) (cx:=⟨[dd],false⟩) (ro:=none) (fun id hu=>hu) (fun _=>rfl) cb _ s2 dM a2 w2 hb u0) ?_
 rintro e a3 w3 ⟨x,s3,Bk,F0,qZ,oh⟩
 obtain⟨ms,g1,g2,_,g4⟩:=qZ.defers
 have hinv:(invoke dd.target dd.args).run P=fun w=> .ok (.enter g cv) w:=by
  funext w
  have:=ff (w:=w) ⟨gn,MS,yg,by rw[yh];rfl⟩ cv
  simpa[dd,invoke]using this
 have last:∀ {w4:World} {tm:Array Value} {u:V} {val:Value} {m0:FrameMode},m0≠ .run->nF M dM s1.H w2 Bk s3 a3.tmps w4->V.den (ad M Bk s3.H) Bk s3.H w4 u val->
  ((m0= .returning/\val= .nilIface)\/m0= .panicking [{v:=val,recovered:=false}])->
  (sC P m r r1 pz (dW.map s1.ev) u s3.o s3.nx fun o nx=>fD P rs K X .ret ⟨s3.env,o,nx⟩)->
  LeavesInM (bU none) 0 P fn a3.tmps (fU M φ (hp o nx) w K X) [dd] m0 w4:=by
  intro w4 tm u val m0 cB hB xT MT aF
  have yi:=V.ax hB.tr _ _ xi
  refine⟨cB, .inr ⟨fun h=>by simp[bU]at h, .func g,cv,g,cv,rfl,by rw[hinv],fun _ _=>trivial,CallsDIn.mono (sD (k:=0 - 1) aC hg aF (m:=m0) hB.heap yi xT MT) ?_⟩⟩
  rintro e u' w5 ⟨v,Hi,o5,F1,rfl,Hj,k1,k2,k3⟩
  show LeavesInM (bU none) 0 P fn a3.tmps (fU M φ (hp o nx) w K X) [] (settle u') w5
  rw[Hj]
  obtain⟨vs,h1,h2⟩:=o4 k3
  rw[<- oU]at h1
  have Bl:∀i,V.den (ad M Hi (hp o5 F1)) Hi (hp o5 F1) w5 (s3.env i) (a3.tmps.getD i undef):=fun i=>V.au k2 _ _ (hB.env i)
  obtain⟨JV,h3,h4⟩:=kK (P:=P) (s:=⟨s3.env,o5,F1⟩) (a:=a3) k1 Bl _ _ h1
  exact⟨_,fZ h3,Hi,o5,F1,_,k1,mQ.tr.trans (hB.tr.trans k2),o6 h4,h2⟩
 have done:sC P m r r1 pz (dW.map s1.ev) (.d .dv) s3.o s3.nx (fun o nx=>fD P rs K X .ret ⟨s3.env,o,nx⟩)->LeavesInM (bU none) 0 P fn a3.tmps (fU M φ (hp o nx) w K X) a3.defers .returning w3:=by
  intro aF
  rw[g1]
  exact dq (P:=P) (k:=0) (fn:=fn) (R:=fU M φ (hp o nx) w K X) (u:= .returning) (by simp) (ds:=[dd]) (fun w4 hB=>last (tm:=a3.tmps) (by simp) hB (u:= .d .dv) (val:= .nilIface) (by simp[V.den,D.den]) (.inl ⟨rfl,rfl⟩) aF) ms w3 g2 g4 qZ.JR
 cases e<;>cases x<;>first|(exact oh.elim)|skip
 ·exact done F0
 ·exact F0.elim
 ·exact done F0
 ·rename_i v
  obtain⟨val,rfl,G2⟩:=oh
  show LeavesInM (bU none) 0 P fn a3.tmps (fU M φ (hp o nx) w K X) a3.defers _ w3
  rw[g1]
  let Bm:Nat->V:=fun i=>match i with|0=>v|i+1=>s3.env i
  have Bn:(#[val]++a3.tmps).getD 0 undef=val:=by simp[Array.getD]
  have Bo:∀i,(#[val]++a3.tmps).getD (i+1) undef=a3.tmps.getD i undef:=by
   intro i
   simp only[Array.getD_eq_getD_getElem?]
   rw[Array.getElem?_append_right (by simp)]
   simp
  have A3:nF M dM s1.H w2 Bk ⟨Bm,s3.o,s3.nx⟩ (#[val]++a3.tmps) w3:=⟨qZ.heap,qZ.tr,fun i=>by
   cases i with
   |zero=>rw[Bn];exact G2
   |succ i=>rw[Bo];exact qZ.env i⟩
  have Bp:∀w4,nF M dM s1.H w2 Bk ⟨Bm,s3.o,s3.nx⟩ (#[val]++a3.tmps) w4->LeavesInM (bU none) 0 P fn a3.tmps (fU M φ (hp o nx) w K X) [dd] (.panicking [{v:=val,recovered:=false}]) w4:=by
   intro w4 hB
   have JW:=hB.env 0
   rw[Bn]at JW
   refine last (tm:=a3.tmps) (by simp) ⟨hB.heap,hB.tr,fun i=> ?_⟩ JW (.inr rfl) F0
   have hs:=hB.env (i+1)
   rw[Bo]at hs
   exact hs
  exact dq (P:=P) (k:=0) (fn:=fn) (R:=fU M φ (hp o nx) w K X) (u:= .panicking [{v:=val,recovered:=false}]) (by simp) (ds:=[dd]) Bp ms w3 g2 g4 A3
end
end Go.Proofs.YtpkobkdgcanmjaaGreat
