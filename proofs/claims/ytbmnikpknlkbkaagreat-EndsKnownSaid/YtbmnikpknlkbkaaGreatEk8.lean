/-
  A PART OF THE PROOF. Conditions: none.
-/
import Derived.Test.YtbmnikpknlkbkaaGreatEk7
set_option linter.unusedSimpArgs false
set_option linter.unusedVariables false
namespace Go.Proofs.YtbmnikpknlkbkaaGreat
section
variable {P:Program}{M:Nat->Prop}{φ a6:Place}{H0:Hp}{w w' w0:World}{n:Nat}{s:S}{us:Nat->Prop}{a:Act}{cx:Cx}{ro:Option Nat}{k:Nat}
variable {Q:Exit->Act->World->Prop}
theorem sK{ops:Array Oper}{po:Nat->Nat->Prop}{m:Nat}{X:V->S->Prop}{K:S->Prop}
 (kO:∀k,k<ops.size->∀j∈aC ops k,j<k)
 (rv:∀E:Nat->Bool,(∀k,k<ops.size->E k=true->∀j∈aC ops k,E j=true)->∀k,k<ops.size->(∀j∈aC ops k,E j=true)->∀j,po k j->E j=true)
 (ry:∀k,m<=k->k<ops.size->∀j,j<k->po k j)
 (hK:∀s φ a w,K s->aP M a6 H0 w0 n cx φ s a w->Q .normal a w)
 (hX:∀v s' ai a' w' val,X v s'->aP M a6 H0 w0 n cx ai s' a' w'->V.den (ad M ai s'.H) ai s'.H w' v val->Q (.panic [{v:=val,recovered:=false}]) a' w'):
 ∀ (d t:Nat) (s:S) (φ:Place) (ae:Array Bool) (a:Act) (w:World),t+d=ops.size->ae.size=ops.size->(∀k,k<ops.size->ae.getD k false=decide (k<t))->m<=t->
   aP M a6 H0 w0 n cx φ s a w->nH P n ops X K (ops.toList.drop t) s->wpAnyIn (bT ro) k P .any ops Q d ae a w:=by
 intro d
 induction d with
 |zero=>
  intro t s φ ae a w ht cl hl sY hs h
  have e:t=ops.size:=by omega
  subst e
  refine⟨?_, ?_⟩
  ·rw[List.eq_nil_iff_forall_not_mem]
   intro j hj
   obtain⟨h1,o,h2,_⟩:=mem_ready.1 hj
   have HG:j<ops.size:=(Array.getElem?_eq_some_iff.1 h2).1
   have:=hl j HG
   simp only[Array.getD_eq_getD_getElem?]at this h1
   rw[Array.getElem?_eq_getElem (by omega)]at this h1
   simp only[Option.getD_some]at this h1
   rw[h1]at this
   simp[HG]at this
  ·rw[List.drop_eq_nil_of_le (by simp)]at h
   exact hK s φ a w h hs
 |succ d ih=>
  intro t s φ ae a w ht cl hl sY hs h
  have EY:t<ops.size:=by omega
  refine⟨fun hr=> ?_,fun i hi=> ?_⟩
  ·have:=ir kO cl hr t EY
   rw[hl t EY]at this
   simp at this
  ·obtain⟨h1,o,h2,h3⟩:=mem_ready.1 hi
   have kH:i<ops.size:=(Array.getElem?_eq_some_iff.1 h2).1
   have fR:ae.getD i false=false:=by
    simp only[Array.getD_eq_getD_getElem?]at h1|-
    rw[Array.getElem?_eq_getElem (by omega)]at h1|-
    simpa using h1
   have KC:t<=i:=by
    have:=hl i kH
    rw[fR]at this
    have:=of_decide_eq_false this.symm
    omega
   have uc:∀j∈aC ops i,ae.getD j false=true:=by
    intro j hj
    simp only[aC,h2,List.mem_map,List.mem_filter]at hj
    obtain⟨e,⟨he,hb⟩,rfl⟩:=hj
    exact h3 e (Array.mem_toList_iff.1 he) hb
   have kA:∀k,k<ops.size->ae.getD k false=true->∀j∈aC ops k,ae.getD j false=true:=by
    intro k hk dw j hj
    have A0:=kO k hk j hj
    rw[hl k hk]at dw
    rw[hl j (by omega)]
    have:=of_decide_eq_true dw
    exact decide_eq_true (by omega)
   have Er:i=t:=by
    rcases Nat.eq_or_lt_of_le KC with e|e
    ·exact e.symm
    ·have:=rv (fun k=>ae.getD k false) kA i kH uc t (ry i (by omega) kH t e)
     rw[hl t EY]at this
     simp at this
   subst Er
   have BA:ops.toList.drop i=o::ops.toList.drop (i+1):=by
    have yi:i<ops.toList.length:=by simpa using kH
    rw[List.drop_eq_getElem_cons yi]
    have:ops.toList[i]=o:=by
     have:=(Array.getElem?_eq_some_iff.1 h2).2
     simpa using this
    rw[this]
   rw[BA]at h
   obtain⟨g1,g2⟩:=jg hs h
   have Bd:∀k,k<ops.size->(ae.setIfInBounds i true).getD k false=decide (k<i+1):=by
    intro k hk
    simp only[Array.getD_eq_getD_getElem?]
    by_cases e:k=i
    ·subst e;simp[cl,kH]
    ·rw[Array.getElem?_setIfInBounds_ne (Ne.symm e)]
     have:=hl k hk
     simp only[Array.getD_eq_getD_getElem?]at this
     rw[this]
     exact decide_eq_decide.2 (by omega)
   have fN:∀s' ai a' w',nH P n ops X K (ops.toList.drop (i+1)) s'->aP M a6 H0 w0 n cx ai s' a' w'->wpAnyIn (bT ro) k P .any ops Q d (ae.setIfInBounds i true) a' w':=
    fun s' ai a' w' hk eQ=>ih (i+1) s' ai _ a' w' (by omega) (by simp[cl]) Bd (by omega) eQ hk
   unfold wpOpIn
   simp only[h2]
   split
   ·rename_i hw
    exact mV hs (g1 hw) (fun s' ai a' w' hk eQ=>fN s' ai a' w' hk eQ) (fun v s' ai w' val hx eQ hd=>hX v s' ai a w' val hx eQ hd)
   ·rename_i hw
    obtain⟨a9,h3⟩:=g2 (by simpa using hw)
    exact⟨fun _ _=>trivial,fN _ _ _ _ h3 (pb hs a9)⟩
theorem qK(aD:P.follows .mixedOrders=true){ops:Array Oper}{l:List aT}{id:Nat}(gS:eW n ops ops.toList=some l)(kO:∀k,k<ops.size->∀j∈aC ops k,j<k){ac:Nat->cH}{m:Nat}(hm:m<=ops.size){X:V->S->Prop}{K:S->Prop}
 (hs:aP M a6 H0 w0 n cx φ s a w) (yw:∀i,i<m->xz P (cm (aK l) ac (fun _=>true) s i) (s.nx+i) (aK l i) (ac i))
 (BB:∀i,i<m->(ac i).ok=true)
 {po:Nat->Nat->Prop} (rv:∀E:Nat->Bool,(∀k,k<ops.size->E k=true->∀j∈aC ops k,E j=true)->∀k,k<ops.size->(∀j∈aC ops k,E j=true)->∀j,po k j->E j=true) (pD:∀k,k<ops.size->∀j,po k j->j<k)
 (hc:∀i j,i<j->j<m-> ¬po j i->Compat (aK l) ac (fun i=>my (ac i)) i j)
 (ry:∀k,m<=k->k<ops.size->∀j,j<k->po k j)
 (lF:nH P n ops X K (ops.toList.drop m) ⟨(cm (aK l) ac (fun _=>true) s m).env,(cm (aK l) ac (fun _=>true) s m).o,s.nx+m⟩)
 (hK:∀s φ a w,K s->aP M a6 H0 w0 n cx φ s a w->Q .normal a w)
 (hX:∀v s' ai a' w' val,X v s'->aP M a6 H0 w0 n cx ai s' a' w'->V.den (ad M ai s'.H) ai s'.H w' v val->Q (.panic [{v:=val,recovered:=false}]) a' w'):
 (Code.region id ops true).wpIn (bT ro) k P Q a w:=by
 refine wpIn_region_any aD ?_
 have hs:=pB hs
 generalize ({w with drawn:=w.drawn+1}:World)=w at hs
 let N:=m
 let Ef (ae:Array Bool) (k:Nat):Bool:=ae.getD k false
 let qI (ae:Array Bool) (j:Nat):Prop:=j<s.nx\/∃k,k<N/\Ef ae k=true/\j=s.nx+k
 have key:∀ (fuel:Nat) (ae:Array Bool) (φ:Place) (a:Act) (w:World),ae.size=ops.size->ae.count true+fuel=ops.size->(∀k,k<ops.size->Ef ae k=true->∀j∈aC ops k,Ef ae j=true)->(∀k,k<ops.size->Ef ae k=true->k<m)->
  kG M a6 H0 w0 n cx φ (cm (aK l) ac (Ef ae) s N) (qI ae) a w->wpAnyIn (bT ro) k P .any ops Q fuel ae a w:=by
  have fin:∀ (fuel:Nat) (ae:Array Bool) (φ:Place) (a:Act) (w:World),ae.size=ops.size->ae.count true+fuel=ops.size->(∀k,k<ops.size->Ef ae k=true->k<m)->(∀k,k<N->Ef ae k=true)->kG M a6 H0 w0 n cx φ (cm (aK l) ac (Ef ae) s N) (qI ae) a w->wpAnyIn (bT ro) k P .any ops Q fuel ae a w:=by
   intro fuel ae φ a w cl sH cu aR hu
   have e:∀k,k<=N->cm (aK l) ac (Ef ae) s k=cm (aK l) ac (fun _=>true) s k:=by
    intro k
    induction k with
    |zero=>intro _;rfl
    |succ k ih=>intro hk;simp only[cm,aR k (by omega),ih (by omega)]
   rw[e N (Nat.le_refl _)]at hu
   obtain⟨k1,k2⟩:=dU (us':=fun id=>id<s.nx+N) hu.heap (fun id h=>by
    show id<s.nx+N
    rcases h with h|⟨k,hk,_,rfl⟩<;>omega)
   have EZ:∀k,k<ops.size->ae.getD k false=decide (k<m):=by
    intro k hk
    by_cases h:k<m
    ·rw[decide_eq_true h];exact aR k h
    ·rw[decide_eq_false h]
     cases hb:ae.getD k false with
     |false=>rfl
     |true=>exact absurd (cu k hk hb) h
   have Le:ae.count true=m:=by
    have e1:ae=Array.ofFn (n:=ops.size) fun k=>decide (k.1<m):=by
     apply Array.ext
     ·simp[cl]
     ·intro k h1 h2
      have:=EZ k (by omega)
      simp only[Array.getD_eq_getD_getElem?]at this
      rw[Array.getElem?_eq_getElem h1]at this
      simpa using this
    have e2:ae.toList=List.replicate m true++List.replicate (ops.size - m) false:=by
     apply List.ext_getElem?
     intro k
     by_cases hk:k<ops.size
     ·have h1:ae.toList[k]? =some (decide (k<m)):=by
       have:=EZ k hk
       simp only[Array.getD_eq_getD_getElem?]at this
       rw[Array.getElem?_eq_getElem (by omega)]at this
       simp only[Option.getD_some]at this
       rw[Array.getElem?_toList,Array.getElem?_eq_getElem (by omega),this]
      rw[h1]
      by_cases h:k<m
      ·rw[List.getElem?_append_left (by simpa using h)]
       simp[h]
      ·rw[List.getElem?_append_right (by simpa using(by omega:m<=k))]
       rw[List.length_replicate,List.getElem?_replicate,if_pos (by omega),decide_eq_false h]
     ·rw[List.getElem?_eq_none (by simp[cl];omega),List.getElem?_eq_none (by simp;omega)]
    rw[<- Array.count_toList,e2,List.count_append,List.count_replicate_self,List.count_replicate]
    simp
   exact sK kO rv ry hK hX fuel m ⟨(cm (aK l) ac (fun _=>true) s m).env,(cm (aK l) ac (fun _=>true) s m).o,s.nx+m⟩ φ ae a w (by omega) cl EZ (Nat.le_refl _) ⟨k1,hu.tr.trans k2,hu.size,hu.defers.mono k2,fun i=>V.aq k2 _ _ (hu.env i)⟩ lF
  intro fuel
  induction fuel with
  |zero=>
   intro ae φ a w cl sH kA cu hu
   have aR:∀k,k<ops.size->Ef ae k=true:=by
    intro k hk
    have h1:ae.count true=ae.size:=by omega
    rw[Array.count_eq_size]at h1
    have:=h1 ae[k] (Array.getElem_mem (by omega))
    simp only[Ef,Array.getD_eq_getD_getElem?]
    rw[Array.getElem?_eq_getElem (by omega)]
    simpa using this.symm
   exact fin 0 ae φ a w cl sH cu (fun k hk=>aR k (by omega)) hu
  |succ fuel ih=>
   intro ae φ a w cl sH kA cu hu
   by_cases xC:∀k,k<m->Ef ae k=true
   ·exact fin (fuel+1) ae φ a w cl sH cu xC hu
   have hex:∃j,j<m/\Ef ae j=false:=by
    apply Classical.byContradiction
    intro yd
    refine xC fun k hk=> ?_
    cases hb:Ef ae k with
    |true=>rfl
    |false=>exact absurd ⟨k,hk,hb⟩ yd
   obtain⟨j0,Lf,BC⟩:=hex
   refine⟨fun hr=> ?_,fun i hi=> ?_⟩
   ·have:=ir kO cl hr j0 (by omega)
    rw[show ae.getD j0 false=false from BC]at this
    cases this
   obtain⟨h1,o,h2,h3⟩:=mem_ready.1 hi
   have E0:i<ops.size:=(Array.getElem?_eq_some_iff.1 h2).1
   have fR:Ef ae i=false:=by
    simp only[Ef,Array.getD_eq_getD_getElem?]at h1|-
    rw[Array.getElem?_eq_getElem (by omega)]at h1|-
    simpa using h1
   have uc:∀j∈aC ops i,Ef ae j=true:=by
    intro j hj
    simp only[aC,h2,List.mem_map,List.mem_filter]at hj
    obtain⟨e,⟨he,hb⟩,rfl⟩:=hj
    exact h3 e (Array.mem_toList_iff.1 he) hb
   have kH:i<N:=by
    apply Classical.byContradiction
    intro q8
    have q8:m<=i:=Nat.le_of_not_lt q8
    have:=rv _ kA i E0 uc j0 (ry i q8 E0 j0 (by omega))
    rw[BC]at this;cases this
   have ue:n7 N po (Ef ae):=fun k hk dw=>rv _ kA k (by omega) (kA k (by omega) dw)
   obtain⟨Bx,DI⟩:=xA (s:=s) (n:=N) (fun k hk=>pD k (by omega)) hc ue kH fR (rv _ kA i (by omega) uc)
   obtain⟨g1,g2,g3,g4⟩:=na (lP _ _ i o gS (by simpa using h2))
   have cz: ¬qI ae (s.nx+i):=by
    rintro(h|⟨k,_,hk,he⟩)
    ·omega
    ·have:k=i:=by omega
     subst this;rw[fR]at hk;cases hk
   have qH:∀k,Ef (ae.setIfInBounds i true) k=(Ef ae k||k==i):=by
    intro k
    simp only[Ef,Array.getD_eq_getD_getElem?]
    by_cases e:k=i
    ·subst e;simp[cl,E0]
    ·rw[Array.getElem?_setIfInBounds_ne (Ne.symm e)]
     have:(k==i)=false:=by simpa using e
     simp[this]
   have yy:=insert (s:=s) hc ue kH fR qH
   have yz:∀k,k<ops.size->Ef (ae.setIfInBounds i true) k=true->∀j∈aC ops k,Ef (ae.setIfInBounds i true) j=true:=by
    intro k hk dw j hj
    rw[qH]at dw|-
    by_cases e:k=i
    ·subst e;simp[uc j hj]
    ·have:(k==i)=false:=by simpa using e
     rw[this,Bool.or_false]at dw
     simp[kA k hk dw j hj]
   have uf:(ae.setIfInBounds i true).count true+fuel=ops.size:=by
    have cu:i<ae.size:=by omega
    have e1:ae.setIfInBounds i true=ae.set i true cu:=by simp[Array.setIfInBounds,cu]
    have e2:ae[i]=false:=by
     have:=fR
     simp only[Ef,Array.getD_eq_getD_getElem?]at this
     rw[Array.getElem?_eq_getElem cu]at this
     simpa using this
    rw[e1,Array.count_set cu,e2]
    simp
    omega
   have fN:(ac i).ok=true->∀ai a' w',kG M a6 H0 w0 n cx ai (me o.dst (ac i) (cm (aK l) ac (Ef ae) s N)) (fun id=>qI ae id\/id=s.nx+i) a' w'->wpAnyIn (bT ro) k P .any ops Q fuel (ae.setIfInBounds i true) a' w':=by
    intro Bz ai a' w' mq
    refine ih _ ai a' w' (by simp[cl]) uf yz (fun k hk dw=> ?_) ?_
    ·rw[qH]at dw
     by_cases e:k=i
     ·subst e;exact kH
     ·have:(k==i)=false:=by simpa using e
      rw[this,Bool.or_false]at dw
      exact cu k hk dw
    rw[yy,g2]
    obtain⟨k1,k2⟩:=dU (us':=qI (ae.setIfInBounds i true)) mq.heap (fun id h=>by
     rcases h with(h|⟨k,hk,dw,rfl⟩)|rfl
     ·exact .inl h
     ·exact .inr ⟨k,hk,by rw[qH,dw];rfl,rfl⟩
     ·exact .inr ⟨i,kH,by rw[qH];simp,rfl⟩)
    exact⟨k1,mq.tr.trans k2,mq.size,mq.defers.mono k2,fun j=>V.aq k2 _ _ (mq.env j)⟩
   have sI:∀d want,(aK l i).gd=some (d,want)->(cm (aK l) ac (Ef ae) s N).env d=(cm (aK l) ac (fun _=>true) s i).env d:=fun d want hd=>Bx d (by simp[cD,tmpsOf,hd])
   have aG:=yw i kH
   have sJ:∀x∈(aK l i).op.operands,(cm (aK l) ac (Ef ae) s N).ev x=(cm (aK l) ac (fun _=>true) s i).ev x:=fun x hx=>pz fun t ht=>Bx t (by
    subst ht
    simp only[cD,tmpsOf,List.mem_append,List.mem_filterMap]
    exact .inl (.inl ⟨.tmp t,Array.mem_toList_iff.2 hx,rfl⟩))
   have vW:(cm (aK l) ac (Ef ae) s N).nx=(cm (aK l) ac (fun _=>true) s i).nx:=(ey N).trans (ey i).symm
   unfold wpOpIn
   simp only[h2]
   cases kI:ac i with
   |skip=>
    rw[kI]at aG fN
    have hw:=cO hu.env g4 (cP sI aG)
    simp only[hw,Bool.false_eq_true,if_false]
    refine⟨fun _ _=>trivial,fN rfl φ _ w ?_⟩
    have:=dM (v:= .a8 []) (val:=undef) hu hu.heap (Trans.refl _ _ _) ⟨#[],rfl,rfl⟩ (dst:=o.dst) g3 rfl (us':=fun id=>qI ae id\/id=s.nx+i) (fun id h=> .inl h)
    exact this
   |val v Δ rd=>
    rw[kI]at aG fN
    have hw:=cO hu.env g4 (cP sI aG.1)
    simp only[hw,if_true]
    obtain⟨nS,iX⟩:=kf sJ (fun id ah=>DI id (by rw[kI];exact ah)) vW aG.2
    exact py hu cz (fun id h=> .inl (by rw[ey]at h;exact h)) g1.symm g3 iX (fN rfl)
   |aH v ws rd=>
    have:=BB i kH
    rw[kI]at this;cases this
   |cI=>
    have:=BB i kH
    rw[kI]at this;cases this
 refine key ops.size _ φ a w (by simp) (by simp[Array.count_replicate]) (fun k hk dw=> ?_) (fun k hk dw=> ?_) ?_
 ·simp[Ef,Array.getD_eq_getD_getElem?,Array.getElem?_replicate]at dw
  split at dw<;>simp at dw
 ·simp[Ef,Array.getD_eq_getD_getElem?,Array.getElem?_replicate]at dw
  split at dw<;>simp at dw
 ·have e:∀k,cm (aK l) ac (Ef (Array.replicate ops.size false)) s k=s:=by
   intro k
   induction k with
   |zero=>rfl
   |succ k ih=>
    have:Ef (Array.replicate ops.size false) k=false:=by
     simp only[Ef,Array.getD_eq_getD_getElem?,Array.getElem?_replicate]
     split<;>rfl
    simp only[cm,this,ih]
    rfl
  rw[e]
  obtain⟨k1,k2⟩:=dU (us':=qI (Array.replicate ops.size false)) hs.heap (fun id h=> .inl h)
  exact⟨k1,hs.tr.trans k2,hs.size,hs.defers.mono k2,fun j=>V.aq k2 _ _ (hs.env j)⟩
end
end Go.Proofs.YtbmnikpknlkbkaaGreat
namespace Go.Proofs.YtbmnikpknlkbkaaGreat
def nb(P:Program)(g:FuncId)(ds:List D)(Kf Kb KX:V->Prop):Prop:=
 (∃rs,c0 P g ds (.ret rs)/\(Kf (fP rs)\/(D.fb rs=true/\Kb (fP rs))))\/(∃x,c0 P g ds (.aH x)/\x.flat=true/\KX (.d x))\/(∃v,Bw P g ds v/\Kf v)
def gv(P:Program)(g:FuncId)(args:List V)(o:Nat->aa)(nx fr:Nat)(K:V->List (Nat×aa)->List Nat->Prop)(KX:V->List Nat->List Nat->Prop):Prop:=
 ∃rd Δ,rd.all (fun id=>decide (id<nx))=true/\((∃rs,ua P g args rd o (.ret rs) Δ/\K (fP rs) Δ rd)\/(∃x,ua P g args rd o (.aH x) Δ/\KX (.d x) (Δ.map (·.1)) rd)\/(∃v,qC P g args rd o fr v Δ/\K v Δ rd))
def s5(P:Program)(s:S)(fr:Nat)(o:aT)(K:V->List (Nat×aa)->List Nat->Prop)(KX:V->List Nat->List Nat->Prop):Prop:=
 match o.op with
 | .call c=>match c.callee with
   | .value f=>match s.ev f with
     | .func (.func g) first cap=>match aQ s.o (first++c.args.toList.map s.ev++cap)with
       |some ds=>nb P g ds (fun v=>K v (bD s.o (V.aB (first++c.args.toList.map s.ev++cap))) (ec s o.op)) (fun v=>K v [] (ec s o.op)) (fun v=>KX v [] (ec s o.op))\/gv P g (first++c.args.toList.map s.ev++cap) s.o s.nx fr K KX
       |none=>gv P g (first++c.args.toList.map s.ev++cap) s.o s.nx fr K KX
     |_=>False
   |_=>match dG P s fr o.op with
    |some (v,Δ,_)=>K v Δ (ec s o.op)
    |none=>False
 |op=>match dG P s fr op with
  |some (v,Δ,_)=>K v Δ (ec s o.op)
  |none=>False
abbrev Fp:=List (List Nat×List Nat)
def ez(P:Program)(KB:List Nat->Fp->Prop)(pr:List (List Nat)):List aT->Nat->S->Fp->List Nat->List Nat->Prop
 |[],_,_,fp,_,ws=>KB ws fp
 |o::l,fr,s,fp,bad,ws=>if(pr.getD fp.length []).any (fun j=>bad.contains j)=true then ez P KB pr l (fr+1) ⟨ay s.env o.dst .bL,s.o,s.nx⟩ (fp++[([],[])]) (bad++[fp.length]) ws
  else match o.gd with
  |none=>s5 P s fr o (fun v Δ rd=>ez P KB pr l (fr+1) ⟨ay s.env o.dst v,put s.o Δ,s.nx⟩ (fp++[(rd,Δ.map (·.1))]) bad (ws++Δ.map (·.1))) (fun _ _ _=>False)
  |some (d,want)=>match s.env d with
   | .d (.bool b)=>if b=want then s5 P s fr o (fun v Δ rd=>ez P KB pr l (fr+1) ⟨ay s.env o.dst v,put s.o Δ,s.nx⟩ (fp++[(rd,Δ.map (·.1))]) bad (ws++Δ.map (·.1))) (fun _ _ _=>False)
    else ez P KB pr l (fr+1) ⟨ay s.env o.dst (.a8 []),s.o,s.nx⟩ (fp++[([],[])]) bad ws
   | .a8 []=>ez P KB pr l (fr+1) ⟨ay s.env o.dst (.a8 []),s.o,s.nx⟩ (fp++[([],[])]) bad ws
   |_=>False
def fJ(P:Program)(K:S->Fp->Prop)(KP:V->List Nat->Fp->Prop)(pr:List (List Nat)):List aT->Nat->S->Fp->Prop
 |[],_,s,fp=>K s fp
 |o::l,fr,s,fp=>match o.gd with
  |none=>s5 P s fr o (fun v Δ rd=>fJ P K KP pr l (fr+1) ⟨ay s.env o.dst v,put s.o Δ,s.nx⟩ (fp++[(rd,Δ.map (·.1))]))
   (fun v ws rd=>ez P (KP v) pr l (fr+1) ⟨ay s.env o.dst .bL,s.o,s.nx⟩ (fp++[(rd,[])]) [fp.length] (ws++fp.flatMap (·.2)))
  |some (d,want)=>match s.env d with
   | .d (.bool b)=>if b=want then s5 P s fr o (fun v Δ rd=>fJ P K KP pr l (fr+1) ⟨ay s.env o.dst v,put s.o Δ,s.nx⟩ (fp++[(rd,Δ.map (·.1))]))
         (fun v ws rd=>ez P (KP v) pr l (fr+1) ⟨ay s.env o.dst .bL,s.o,s.nx⟩ (fp++[(rd,[])]) [fp.length] (ws++fp.flatMap (·.2)))
    else fJ P K KP pr l (fr+1) ⟨ay s.env o.dst (.a8 []),s.o,s.nx⟩ (fp++[([],[])])
   | .a8 []=>fJ P K KP pr l (fr+1) ⟨ay s.env o.dst (.a8 []),s.o,s.nx⟩ (fp++[([],[])])
   |_=>False
def qL(pr:List (List Nat))(nx:Nat)(Q:et->S->Prop)(s:S)(fp:Fp):Prop:=fS pr fp=true/\Q .normal ⟨s.env,s.o,nx⟩
def dstsOf(l:List aT):List Nat:=l.filterMap (·.dst)
def pE(pr:List (List Nat))(l:List aT)(s0:S)(Q:et->S->Prop)(v:V)(wl:List Nat)(fp:Fp):Prop:=fS pr fp=true/\Q (.aH v) (lN (dstsOf l) wl l.length s0)
def gw:List aT->List cH->S->Nat->S
 |_,_,s,0=>s
 |o::l,x::xs,s,j+1=>gw l xs (me o.dst x s) j
 |_,_,s,_=>s
def nd(aO:List cH):Fp:=aO.map fun x=>(my x,eS x)
section
variable {P:Program}{n b:Nat}
theorem pF{s:S}{fr:Nat}{o:aT}{K:V->List (Nat×aa)->List Nat->Prop}{KX:V->List Nat->List Nat->Prop}(h:s5 P s fr o K KX):(∃v Δ rd,m7 P s fr o.op v Δ rd/\K v Δ rd)\/(∃v ws rd,px P s o.op v ws rd/\KX v ws rd):=by
 have hs:∀ {op:Op},o.op=op->(match dG P s fr op with|some (v,Δ,_)=>K v Δ (ec s o.op)|none=>False)->(∃v Δ rd,m7 P s fr o.op v Δ rd/\K v Δ rd):=by
  intro op bE h
  split at h
  ·rename_i v Δ rd he;exact⟨v,Δ,_, .inl ⟨⟨rd,by rw[bE];exact he⟩,rfl⟩,h⟩
  ·exact h.elim
 unfold s5 at h
 split at h
 ·rename_i c hc
  split at h
  ·rename_i f bY
   split at h
   ·rename_i g first cap hf
    split at h
    ·rename_i ds dg
     rcases h with(⟨rs,hP,h|⟨iy,h⟩⟩|⟨x,hP,iy,h⟩|⟨v,hP,h⟩)|⟨rd,Δ,gM,⟨rs,hH,h⟩|⟨x,hH,h⟩|⟨v,hH,h⟩⟩
     ·exact .inl ⟨_,_,_, .inr ⟨c,f,g,first,cap,hc,bY,hf, .inl ⟨ds,rs,dg,hP,rfl,rfl, .inl rfl⟩⟩,h⟩
     ·exact .inl ⟨_,_,_, .inr ⟨c,f,g,first,cap,hc,bY,hf, .inl ⟨ds,rs,dg,hP,rfl,rfl, .inr ⟨iy,rfl⟩⟩⟩,h⟩
     ·exact .inr ⟨_,_,_,⟨c,f,g,first,cap,hc,bY,hf, .inl ⟨ds,x,dg,hP,iy,rfl,rfl,rfl⟩⟩,h⟩
     ·exact .inl ⟨_,_,_, .inr ⟨c,f,g,first,cap,hc,bY,hf, .inr (.inr (.inl ⟨ds,dg,hP,rfl,rfl⟩))⟩,h⟩
     ·exact .inl ⟨_,_,_, .inr ⟨c,f,g,first,cap,hc,bY,hf, .inr (.inl ⟨rs,hH,rfl,fun id ah=>by simpa using List.all_eq_true.1 gM id ah⟩)⟩,h⟩
     ·exact .inr ⟨_,_,_,⟨c,f,g,first,cap,hc,bY,hf, .inr ⟨x,Δ,hH,rfl,rfl,fun id ah=>by simpa using List.all_eq_true.1 gM id ah⟩⟩,h⟩
     ·exact .inl ⟨_,_,_, .inr ⟨c,f,g,first,cap,hc,bY,hf, .inr (.inr (.inr ⟨hH,fun id ah=>by simpa using List.all_eq_true.1 gM id ah⟩))⟩,h⟩
    ·obtain⟨rd,Δ,gM,⟨rs,hH,h⟩|⟨x,hH,h⟩|⟨v,hH,h⟩⟩:=h
     ·exact .inl ⟨_,_,_, .inr ⟨c,f,g,first,cap,hc,bY,hf, .inr (.inl ⟨rs,hH,rfl,fun id ah=>by simpa using List.all_eq_true.1 gM id ah⟩)⟩,h⟩
     ·exact .inr ⟨_,_,_,⟨c,f,g,first,cap,hc,bY,hf, .inr ⟨x,Δ,hH,rfl,rfl,fun id ah=>by simpa using List.all_eq_true.1 gM id ah⟩⟩,h⟩
     ·exact .inl ⟨_,_,_, .inr ⟨c,f,g,first,cap,hc,bY,hf, .inr (.inr (.inr ⟨hH,fun id ah=>by simpa using List.all_eq_true.1 gM id ah⟩))⟩,h⟩
   ·exact h.elim
  ·rw[hc]at h;exact .inl (hs hc (by rw[hc];exact h))
 ·exact .inl (hs rfl h)
def vX(P:Program)(KB:List Nat->Fp->Prop)(pr:List (List Nat))(l:List aT)(fr:Nat)(s:S)(fp:Fp)(bad ws:List Nat):Prop:=
    ∃aO:List cH,aO.length=l.length/\(∀j o x,l[j]? =some o->aO[j]? =some x->xz P (gw l aO s j) (fr+j) o x)/\
     (∀ (j:Nat),aO[j]? =some cH.cI->∃i∈pr.getD (fp.length+j) [],i∈bad\/∃j',j'<j/\i=fp.length+j'/\aO[j']? =some .cI)/\(∀x∈aO,x= .cI\/x.ok=true)/\
     ∃wl,KB wl (fp++nd aO)/\(∀id∈ws,id∈wl)/\∀x∈aO,∀id∈eS x,id∈wl
theorem pG{KB:List Nat->Fp->Prop}{pr:List (List Nat)}:∀ (l:List aT) (fr:Nat) (s:S) (fp:Fp) (bad ws:List Nat),ez P KB pr l fr s fp bad ws->vX P KB pr l fr s fp bad ws
 |[],fr,s,fp,bad,ws,h=>⟨[],rfl,fun j o x hj=>by simp at hj,fun j hj=>by simp at hj,fun x hx=>by simp at hx,ws,by simpa[nd,ez]using h,fun _ h=>h,fun x hx=>by simp at hx⟩
 |o::l,fr,s,fp,bad,ws,h=>by
  have step:∀ (x:cH) (vY xD:List Nat),xz P s fr o x->ez P KB pr l (fr+1) (me o.dst x s) (fp++[(my x,eS x)]) vY xD->(x= .cI\/x.ok=true)->(x= .cI->∃i∈pr.getD fp.length [],i∈bad)->
   (∀i∈vY,i∈bad\/(i=fp.length/\x= .cI))->(∀id∈ws,id∈xD)->(∀id∈eS x,id∈xD)->
   vX P KB pr (o::l) fr s fp bad ws:=by
   intro x vY xD aG hr KF yx yA vV hW
   obtain⟨aO,h1,h2,h3,h4,wl,h5,h6,h7⟩:=pG l (fr+1) _ _ vY xD hr
   refine⟨x::aO,by simp[h1],fun j o' y hj hy=> ?_,fun j hj=> ?_,fun y hy=> ?_,wl,by simpa[nd]using h5,fun id ah=>h6 id (vV id ah),fun y hy id ah=> ?_⟩
   ·cases j with
    |zero=>simp at hj hy;subst hj;subst hy;exact aG
    |succ j=>
     have:=h2 j o' y (by simpa using hj) (by simpa using hy)
     rw[show fr+(j+1)=fr+1+j by omega]
     exact this
   ·cases j with
    |zero=>
     simp at hj
     obtain⟨i,i1,i2⟩:=yx hj
     exact⟨i,by simpa using i1, .inl i2⟩
    |succ j=>
     obtain⟨i,i1,i2⟩:=h3 j (by simpa using hj)
     simp only[List.length_append,List.length_cons,List.length_nil]at i1 i2
     refine⟨i,by rw[show fp.length+(j+1)=fp.length+(0+1)+j by omega];exact i1, ?_⟩
     rcases i2 with i2|⟨j',j1,j2,j3⟩
     ·rcases yA i i2 with hb|⟨e1,e2⟩
      ·exact .inl hb
      ·exact .inr ⟨0,by omega,by omega,by simp[e2]⟩
     ·exact .inr ⟨j'+1,by omega,by omega,by simpa using j3⟩
   ·rcases List.mem_cons.1 hy with rfl|hy
    ·exact KF
    ·exact h4 y hy
   ·rcases List.mem_cons.1 hy with rfl|hy
    ·exact h6 id (hW id ah)
    ·exact h7 y hy id ah
  simp only[ez]at h
  split at h
  ·rename_i hb
   obtain⟨j,KG,vM⟩:=List.any_eq_true.1 hb
   exact step .cI _ _ trivial h (.inl rfl) (fun _=>⟨j,KG,by simpa using vM⟩) (fun i hi=>by
    rcases List.mem_append.1 hi with hi|hi
    ·exact .inl hi
    ·exact .inr ⟨by simpa using hi,rfl⟩) (fun _ h=>h) (fun id ah=>by simp[eS]at ah)
  ·have lQ:br s o.gd true->s5 P s fr o (fun v Δ rd=>ez P KB pr l (fr+1) ⟨ay s.env o.dst v,put s.o Δ,s.nx⟩ (fp++[(rd,Δ.map (·.1))]) bad (ws++Δ.map (·.1))) (fun _ _ _=>False)->vX P KB pr (o::l) fr s fp bad ws:=fun hg h=>by
    rcases pF h with⟨v,Δ,rd,iX,h⟩|⟨v,xD,rd,_,h⟩
    ·exact step (.val v Δ rd) bad (ws++Δ.map (·.1)) ⟨hg,iX⟩ h (.inr rfl) (fun h=>by cases h) (fun i hi=> .inl hi) (fun id ah=>List.mem_append.2 (.inl ah)) (fun id ah=>List.mem_append.2 (.inr ah))
    ·exact h.elim
   have skip:br s o.gd false->ez P KB pr l (fr+1) ⟨ay s.env o.dst (.a8 []),s.o,s.nx⟩ (fp++[([],[])]) bad ws->vX P KB pr (o::l) fr s fp bad ws:=fun hg h=>
    step .skip bad ws hg h (.inr rfl) (fun h=>by cases h) (fun i hi=> .inl hi) (fun id ah=>ah) (fun id ah=>by simp[eS]at ah)
   split at h
   ·rename_i hg;exact lQ (by rw[hg];rfl) h
   ·rename_i d want hg
    split at h
    ·rename_i c hv
     split at h
     ·rename_i e;exact lQ (by rw[hg];simp[br,hv,e]) h
     ·rename_i e;exact skip (by rw[hg];simp[br,hv,e]) h
    ·rename_i hv;exact skip (by rw[hg];simp[br,hv]) h
    ·exact h.elim
def ug(P:Program)(K:S->Fp->Prop)(KP:V->List Nat->Fp->Prop)(pr:List (List Nat))(l:List aT)(fr:Nat)(s:S)(fp:Fp):Prop:=
 ∃aO:List cH,aO.length=l.length/\(∀j o x,l[j]? =some o->aO[j]? =some x->xz P (gw l aO s j) (fr+j) o x)/\
  (((∀x∈aO,x.ok=true)/\K (gw l aO s l.length) (fp++nd aO))\/
   ∃v wl,(∀ (j:Nat) (v':V) (ws rd:List Nat),aO[j]? =some (cH.aH v' ws rd)->v'=v/\∀id∈ws,id∈wl)/\(∃x∈aO,x.ok=false)/\
    (∀ (j:Nat),aO[j]? =some cH.cI->∃i∈pr.getD (fp.length+j) [],∃j',i=fp.length+j'/\∃y,aO[j']? =some y/\y.ok=false)/\KP v wl (fp++nd aO)/\(∀x∈aO,∀id∈eS x,id∈wl)/\∀id∈fp.flatMap (·.2),id∈wl)
theorem lR{K:S->Fp->Prop}{KP:V->List Nat->Fp->Prop}{pr:List (List Nat)}:∀ (l:List aT) (fr:Nat) (s:S) (fp:Fp),fJ P K KP pr l fr s fp->ug P K KP pr l fr s fp
 |[],fr,s,fp,h=>⟨[],rfl,fun j o x hj=>by simp at hj, .inl ⟨fun x hx=>by simp at hx,by simpa[gw,nd,fJ]using h⟩⟩
 |o::l,fr,s,fp,h=>by
  have step:∀ (x:cH),x.ok=true->xz P s fr o x->fJ P K KP pr l (fr+1) (me o.dst x s) (fp++[(my x,eS x)])->ug P K KP pr (o::l) fr s fp:=by
   intro x BD aG hr
   obtain⟨aO,h1,h2,h3⟩:=lR l (fr+1) _ _ hr
   refine⟨x::aO,by simp[h1],fun j o' y hj hy=> ?_, ?_⟩
   ·cases j with
    |zero=>simp at hj hy;subst hj;subst hy;exact aG
    |succ j=>
     have:=h2 j o' y (by simpa using hj) (by simpa using hy)
     rw[show fr+(j+1)=fr+1+j by omega]
     exact this
   ·rcases h3 with⟨h3,h4⟩|⟨v,wl,g1,g2,g3,g4,g5,g6⟩
    ·left
     refine⟨fun y hy=> ?_,by simpa[gw,nd]using h4⟩
     rcases List.mem_cons.1 hy with rfl|hy
     ·exact BD
     ·exact h3 y hy
    ·right
     refine⟨v,wl,fun j v' ws rd hj=> ?_, ?_,fun j hj=> ?_,by simpa[nd]using g4,fun y hy id ah=> ?_,fun id ah=>g6 id (by simp only[List.flatMap_append,List.mem_append];exact .inl ah)⟩
     ·cases j with
      |zero=>simp at hj;rw[hj]at BD;cases BD
      |succ j=>exact g1 j v' ws rd (by simpa using hj)
     ·obtain⟨y,y1,y2⟩:=g2;exact⟨y,by simp[y1],y2⟩
     ·cases j with
      |zero=>simp at hj;rw[hj]at BD;cases BD
      |succ j=>
       obtain⟨i,i1,j',i2,y,i3,i4⟩:=g3 j (by simpa using hj)
       simp only[List.length_append,List.length_cons,List.length_nil]at i1 i2
       exact⟨i,by rw[show fp.length+(j+1)=fp.length+(0+1)+j by omega];exact i1,j'+1,by omega,y,by simpa using i3,i4⟩
     ·rcases List.mem_cons.1 hy with rfl|hy
      ·exact g6 id (by simp only[List.flatMap_append,List.mem_append];exact .inr (by simpa using ah))
      ·exact g5 y hy id ah
  have aH:∀ (v:V) (ws rd:List Nat),xz P s fr o (.aH v ws rd)->ez P (KP v) pr l (fr+1) ⟨ay s.env o.dst .bL,s.o,s.nx⟩ (fp++[(rd,[])]) [fp.length] (ws++fp.flatMap (·.2))->ug P K KP pr (o::l) fr s fp:=by
   intro v ws rd aG hr
   obtain⟨aO,h1,h2,h3,h4,wl,h5,h6,h7⟩:=pG l (fr+1) _ _ _ _ hr
   refine⟨cH.aH v ws rd::aO,by simp[h1],fun j o' y hj hy=> ?_, .inr ⟨v,wl,fun j v' xD nS hj=> ?_,⟨cH.aH v ws rd,by simp,rfl⟩,fun j hj=> ?_,by simpa[nd,my,eS]using h5,fun y hy id ah=> ?_,fun id ah=>h6 id (List.mem_append.2 (.inr ah))⟩⟩
   ·cases j with
    |zero=>simp at hj hy;subst hj;subst hy;exact aG
    |succ j=>
     have:=h2 j o' y (by simpa using hj) (by simpa using hy)
     rw[show fr+(j+1)=fr+1+j by omega]
     exact this
   ·cases j with
    |zero=>simp at hj;obtain⟨rfl,rfl,rfl⟩:=hj;exact⟨rfl,fun id ah=>h6 id (List.mem_append.2 (.inl ah))⟩
    |succ j=>
     have hm:=List.mem_of_getElem? (show aO[j]? =some (.aH v' xD nS) by simpa using hj)
     rcases h4 _ hm with h|h<;>cases h
   ·cases j with
    |zero=>simp at hj
    |succ j=>
     obtain⟨i,i1,i2⟩:=h3 j (by simpa using hj)
     simp only[List.length_append,List.length_cons,List.length_nil]at i1 i2
     refine⟨i,by rw[show fp.length+(j+1)=fp.length+(0+1)+j by omega];exact i1, ?_⟩
     rcases i2 with i2|⟨j',j1,j2,j3⟩
     ·exact⟨0,by simpa using i2,_,rfl,rfl⟩
     ·exact⟨j'+1,by omega, .cI,by simpa using j3,rfl⟩
   ·rcases List.mem_cons.1 hy with rfl|hy
    ·simp[eS]at ah
    ·exact h7 y hy id ah
  have lQ:br s o.gd true->s5 P s fr o (fun v Δ rd=>fJ P K KP pr l (fr+1) ⟨ay s.env o.dst v,put s.o Δ,s.nx⟩ (fp++[(rd,Δ.map (·.1))]))
   (fun v ws rd=>ez P (KP v) pr l (fr+1) ⟨ay s.env o.dst .bL,s.o,s.nx⟩ (fp++[(rd,[])]) [fp.length] (ws++fp.flatMap (·.2)))->ug P K KP pr (o::l) fr s fp:=fun hg h=>by
   rcases pF h with⟨v,Δ,rd,iX,h⟩|⟨v,ws,rd,iX,h⟩
   ·exact step (.val v Δ rd) rfl ⟨hg,iX⟩ h
   ·exact aH v ws rd ⟨hg,iX⟩ h
  have skip:br s o.gd false->fJ P K KP pr l (fr+1) ⟨ay s.env o.dst (.a8 []),s.o,s.nx⟩ (fp++[([],[])])->ug P K KP pr (o::l) fr s fp:=fun hg h=>step .skip rfl hg h
  simp only[fJ]at h
  split at h
  ·rename_i hg;exact lQ (by rw[hg];rfl) h
  ·rename_i d want hg
   split at h
   ·rename_i c hv
    split at h
    ·rename_i e;exact lQ (by rw[hg];simp[br,hv,e]) h
    ·rename_i e;exact skip (by rw[hg];simp[br,hv,e]) h
   ·rename_i hv;exact skip (by rw[hg];simp[br,hv]) h
   ·exact h.elim
end
end Go.Proofs.YtbmnikpknlkbkaaGreat
namespace Go.Proofs.YtbmnikpknlkbkaaGreat
def sL(env:Nat->V):List Nat->List V->Nat->V
 |t::ps,v::vs=>sL (cN env t v) ps vs
 |_,_=>env
def uh(pr:List (List Nat))(m:Nat):Bool:=(List.range pr.length).all fun k=>Nat.blt k m||Nat.beq ((ck pr []).getD k 0) (2^k - 1)
def ui(P:Program)(l:List aT)(pr:List (List Nat))(Q:et->S->Prop)(s:S):Prop:=
 ∃m,m<=l.length/\uh pr m=true/\fJ P (fun s' fp=>fS pr fp=true/\jO P (fun v s=>Q (.aH v) s) (Q .normal) (l.drop m) ⟨s'.env,s'.o,s.nx+m⟩) (fun _ _ _=>False) pr (l.take m) s.nx s []
def mf(P:Program)(n b:Nat)(rd:Bool):IC->(et->S->Prop)->S->Prop
 | .skip,Q,s=>Q .normal s
 | .ab l,Q,s=>jO P (fun v s=>Q (.aH v) s) (Q .normal) l s
 | .ct l pr,Q,s=>fJ P (qL pr (s.nx+l.length) Q) (pE pr l s Q) pr l s.nx s []\/ui P l pr Q s
 | .seq x y,Q,s=>mf P n b rd x (j7 (mf P n b rd y Q) Q) s
 | .cond c x y,Q,s=>match s.ev c with
   | .d (.bool t)=>js t (mf P n b rd x Q s) (mf P n b rd y Q s)
   | .cM=>mf P n b rd x Q s/\mf P n b rd y Q s
   |_=>False
 | .block id x,Q,s=>mf P n b rd x (cV id Q) s
 | .loop x,Q,s=>tZ b (mf P n b rd x) Q s
 | .exit id,Q,s=>Q (.exit id) s
 | .ret,Q,s=>Q .ret s
 | .sV g ps x y,Q,s=>rd=false/\qs P n (s.ev g) ps x y Q s
 | .bad,_,_=>False
section
variable {P:Program}{n b:Nat}{rd:Bool}
theorem lS:∀ (l:List aT) (aO:List cH) (s:S) (k:Nat) (o:aT) (x:cH),l[k]? =some o->aO[k]? =some x->gw l aO s (k+1)=me o.dst x (gw l aO s k)
 |[],_,_,_,_,_,h,_=>by simp at h
 |o::l,[],_,_,_,_,_,h=>by simp at h
 |o::l,x::xs,s,0,o',x',h,h'=>by simp at h h';subst h;subst h';cases l<;>cases xs<;>rfl
 |o::l,x::xs,s,k+1,o',x',h,h'=>by
  simp only[gw]
  exact lS l xs _ k o' x' (by simpa using h) (by simpa using h')
theorem ng(l:List aT)(aO:List cH)(s:S)(hl:aO.length=l.length):∀k,k<=l.length->cm (aK l) (fun i=>aO.getD i default) (fun _=>true) s k=gw l aO s k:=by
 intro k
 induction k with
 |zero=>intro _;cases l<;>cases aO<;>rfl
 |succ k ih=>
  intro hk
  have h1:l[k]? =some (aK l k):=by simp[aK,List.getD_eq_getElem?_getD,List.getElem?_eq_getElem (by omega:k<l.length)]
  have h2:aO[k]? =some (aO.getD k default):=by simp[List.getD_eq_getElem?_getD,List.getElem?_eq_getElem (by omega:k<aO.length)]
  simp only[cm,if_true,ih (by omega)]
  rw[lS l aO s k _ _ h1 h2]
theorem gx{ops:Array Oper}:∀ (l:List Oper) (l':List aT),eW n ops l=some l'->l'.length=l.length
 |[],_,h=>by simp[eW]at h;subst h;rfl
 |o::l,l',h=>by
  simp only[eW]at h
  split at h
  ·rename_i hx;injection h with h;subst h;simp[gx l _ hx]
  ·cases h
theorem sM(aD:P.follows .mixedOrders=true){id:Nat}{ops:Array Oper}{l:List aT}{Q Q':et->S->Prop}{s:S}(hQ:∀e s,Q e s->Q' e s)(gS:eW n ops ops.toList=some l)(ht:ns l (dh ops)=true)
 (hp:yb (dh ops)=true) (h:fJ P (qL (dh ops) (s.nx+l.length) Q) (pE (dh ops) l s Q) (dh ops) l s.nx s []):dS P n b rd (.region id ops true) Q' s:=by
 intro M a6 H0 w0 cx φ a w ro k hs
 obtain⟨aO,hl,aG,kJ⟩:=lR l _ _ _ h
 have hlen:l.length=ops.size:=by rw[gx _ _ gS];simp
 have kO:∀k,k<ops.size->(dh ops).getD k []=aC ops k:=by
  intro k hk;simp[dh,List.getD_eq_getElem?_getD,List.getElem?_map,List.getElem?_range hk]
 have pY:(dh ops).length=ops.size:=by simp[dh]
 have iX:=ng l aO s hl
 have DJ:∀k,k<ops.size->l[k]? =some (aK l k):=fun k hk=>by simp[aK,List.getD_eq_getElem?_getD,List.getElem?_eq_getElem (by omega:k<l.length)]
 have kI:∀k,k<ops.size->aO[k]? =some (aO.getD k default):=fun k hk=>by simp[List.getD_eq_getElem?_getD,List.getElem?_eq_getElem (by omega:k<aO.length)]
 have ly:∀k,k<ops.size->aO.getD k default∈aO:=fun k hk=>List.mem_of_getElem? (kI k hk)
 have vF:∀k,k<ops.size->(nd aO)[k]? =some (my (aO.getD k default),eS (aO.getD k default)):=fun k hk=>by
  simp only[nd,List.getElem?_map,kI k hk,Option.map_some]
 have yB:(nd aO).length=ops.size:=by simp[nd,hl,hlen]
 simp only[List.nil_append,List.length_nil,Nat.zero_add]at kJ
 have lk:fS (dh ops) (nd aO)=true:=by
  rcases kJ with⟨_,h⟩|⟨v,wl,_,_,_,h,_⟩
  ·exact h.1
  ·exact h.1
 have sN:∀k,k<ops.size->∀j∈aC ops k,j<k:=fun k hk j hj=>by
  have:=List.all_eq_true.1 hp k (by simpa[pY]using hk)
  rw[kO k hk]at this
  simpa using List.all_eq_true.1 this j hj
 have uj:∀k,k<(dh ops).length->∀j∈(dh ops).getD k [],j<k:=fun k hk j hj=>by
  rw[pY]at hk;rw[kO k hk]at hj;exact sN k hk j hj
 let po:Nat->Nat->Prop:=fun k j=>((ck (dh ops) []).getD k 0).testBit j=true
 have rv:∀E:Nat->Bool,(∀k,k<ops.size->E k=true->∀j∈aC ops k,E j=true)->∀k,k<ops.size->(∀j∈aC ops k,E j=true)->∀j,po k j->E j=true:=fun E hE k hk hj j hb=>
  iz uj (fun k hk dw j hj=>by rw[pY]at hk;rw[kO k hk]at hj;exact hE k hk dw j hj) k (by rw[pY];exact hk) (by rw[kO k hk];exact hj) j hb
 have pD:∀k,k<ops.size->∀j,po k j->j<k:=fun k hk j hb=>ox uj k (by rw[pY];exact hk) j hb
 have n8:∀i j,i<j->j<ops.size-> ¬po j i->Compat (aK l) (fun i=>aO.getD i default) (fun i=>my (aO.getD i default)) i j:=by
  intro i j BE hj hn
  have tw:=List.all_eq_true.1 (List.all_eq_true.1 ht j (by simpa[hlen]using hj)) i (by simpa using BE)
  have pf:=List.all_eq_true.1 (List.all_eq_true.1 lk j (by simpa[yB]using hj)) i (by simpa using BE)
  have E1:((ck (dh ops) []).getD j 0).testBit i=false:=by simpa[po]using hn
  rw[E1,Bool.false_or]at tw pf
  simp only[Bool.and_eq_true]at tw pf
  have gi:=vF i (by omega)
  have gj:=vF j hj
  simp only[List.getD_eq_getElem?_getD (l:=nd aO),gi,gj,Option.getD_some]at pf
  have dj:∀ {xs ys:List Nat},gQ xs ys=true->∀x∈xs,x∉ys:=fun h x hx=>by simpa using List.all_eq_true.1 h x hx
  have fo:∀ {x y:aT},jx x y=true->∀d,x.dst=some d->d∉cD y:=fun h d hd=>by simpa[jx,hd]using h
  exact⟨fo tw.1,fo tw.2,fun id ah=>⟨dj pf.1.1 id ah,dj pf.1.2 id ah⟩,fun id ah=>dj pf.2 id ah⟩
 have xE:∀i,i<ops.size->xz P (cm (aK l) (fun i=>aO.getD i default) (fun _=>true) s i) (s.nx+i) (aK l i) (aO.getD i default):=fun i hi=>by
  rw[iX i (by omega)];exact aG i _ _ (DJ i hi) (kI i hi)
 have a9:∀i,i<ops.size->∀t,(aK l i).dst=some t->(dstsOf l).contains t=true:=fun i hi t ht=>by
  simp only[List.contains_iff_mem,dstsOf,List.mem_filterMap]
  exact⟨aK l i,List.mem_of_getElem? (DJ i hi),ht⟩
 rcases kJ with⟨aR,kJ⟩|⟨v,wl,q1,q2,q3,q4,q5,q6⟩
 ·refine pC (ac:=fun i=>aO.getD i default) (dl:=dstsOf l) (wl:=(aO.flatMap eS)) aD gS sN hs xE (fun i hi hb=> ?_) rv pD n8 a9 (fun i hi id ah=> ?_) (fun i v ws nS hi hb=> ?_) (fun _ φ a w eQ=> ?_) (fun i v ws nS hi hb=> ?_)
  ·have:=aR _ (ly i hi);rw[hb]at this;cases this
  ·simp only[List.contains_iff_mem,List.mem_flatMap];exact⟨_,ly i hi,ah⟩
  ·have:=aR _ (ly i hi);rw[hb]at this;cases this
  ·rw[iX ops.size (by omega), <- hlen]at eQ
   exact⟨.normal,_,φ,hQ _ _ kJ.2,eQ,trivial⟩
  ·have:=aR _ (ly i hi);rw[hb]at this;cases this
 ·refine pC (ac:=fun i=>aO.getD i default) (dl:=dstsOf l) (wl:=wl) aD gS sN hs xE (fun i hi hb=> ?_) rv pD n8 a9 (fun i hi id ah=> ?_) (fun i v' ws nS hi hb=> ?_) (fun aR φ a w eQ=> ?_) (fun i v' ws nS hi hb φ a w val eQ hd=> ?_)
  ·obtain⟨j,j1,j',e,y,j3,j4⟩:=q3 i (by rw[kI i hi];exact congrArg some hb)
   rw[kO i hi,e]at j1
   refine⟨j',j1, ?_⟩
   simp only[List.getD_eq_getElem?_getD,j3,Option.getD_some,j4]
  ·simp only[List.contains_iff_mem];exact q5 _ (ly i hi) id ah
  ·intro id ah
   simp only[List.contains_iff_mem]
   exact(q1 i v' ws nS (by rw[kI i hi];exact congrArg some hb)).2 id ah
  ·obtain⟨x,x1,x2⟩:=q2
   obtain⟨i,vy,te⟩:=List.getElem_of_mem x1
   have hi:i<ops.size:=by omega
   have:=aR i hi
   have e:aO.getD i default=x:=by simp[List.getD_eq_getElem?_getD,List.getElem?_eq_getElem vy,te]
   rw[e,x2]at this;cases this
  ·have e:=(q1 i v' ws nS (by rw[kI i hi];exact congrArg some hb)).1
   subst e
   rw[<- hlen]at eQ hd
   exact⟨.aH v',_,φ,hQ _ _ q4.2,eQ,val,rfl,hd⟩
theorem nh{ops:Array Oper}:∀ (l:List Oper) (l':List aT) (m:Nat),eW n ops l=some l'->eW n ops (l.drop m)=some (l'.drop m)
 |l,l',0,h=>h
 |[],l',m+1,h=>by simp[eW]at h;subst h;simp[eW]
 |o::l,l',m+1,h=>by
  simp only[eW]at h
  split at h
  ·rename_i x xs hx w6
   injection h with h;subst h
   exact nh l xs m w6
  ·cases h
theorem uk{l:List aT}{ac:Nat->cH}{E:Nat->Bool}{s:S}{m:Nat}:∀k,k<=m->cm (aK l) ac E s k=cm (aK (l.take m)) ac E s k:=by
 intro k
 induction k with
 |zero=>intro _;rfl
 |succ k ih=>
  intro hk
  have:aK l k=aK (l.take m) k:=by simp[aK,List.getD_eq_getElem?_getD,List.getElem?_take,(by omega:k<m)]
  simp only[cm,ih (by omega),this]
theorem qM(aD:P.follows .mixedOrders=true){id:Nat}{ops:Array Oper}{l:List aT}{Q Q':et->S->Prop}{s:S}(hQ:∀e s,Q e s->Q' e s)(gS:eW n ops ops.toList=some l)(ht:ns l (dh ops)=true)
 (hp:yb (dh ops)=true) (h:ui P l (dh ops) Q s):dS P n b rd (.region id ops true) Q' s:=by
 intro M a6 H0 w0 cx φ a w ro k hs
 obtain⟨m,vH,KH,h⟩:=h
 obtain⟨aO,hl,aG,kJ⟩:=lR (l.take m) _ _ _ h
 have KI:(l.take m).length=m:=by rw[List.length_take];omega
 have hlen:l.length=ops.size:=by rw[gx _ _ gS];simp
 have kJ:=kJ.resolve_right (fun⟨_,_,_,_,_,q4,_,_⟩=>q4)
 obtain⟨aR,kJ⟩:=kJ
 have yj:aO.length=m:=by omega
 have kO:∀k,k<ops.size->(dh ops).getD k []=aC ops k:=by
  intro k hk;simp[dh,List.getD_eq_getElem?_getD,List.getElem?_map,List.getElem?_range hk]
 have pY:(dh ops).length=ops.size:=by simp[dh]
 have iX:∀k,k<=m->cm (aK l) (fun i=>aO.getD i default) (fun _=>true) s k=gw (l.take m) aO s k:=fun k hk=>by
  rw[uk k hk];exact ng (l.take m) aO s hl k (by omega)
 have DJ:∀k,k<m->(l.take m)[k]? =some (aK l k):=fun k hk=>by
  rw[List.getElem?_take,if_pos hk]
  simp[aK,List.getD_eq_getElem?_getD,List.getElem?_eq_getElem (by omega:k<l.length)]
 have kI:∀k,k<m->aO[k]? =some (aO.getD k default):=fun k hk=>by simp[List.getD_eq_getElem?_getD,List.getElem?_eq_getElem (by omega:k<aO.length)]
 have ly:∀k,k<m->aO.getD k default∈aO:=fun k hk=>List.mem_of_getElem? (kI k hk)
 have vF:∀k,k<m->(nd aO)[k]? =some (my (aO.getD k default),eS (aO.getD k default)):=fun k hk=>by
  simp only[nd,List.getElem?_map,kI k hk,Option.map_some]
 have yB:(nd aO).length=m:=by simp[nd,yj]
 simp only[List.nil_append]at kJ
 obtain⟨lk,vZ⟩:=kJ
 have sN:∀k,k<ops.size->∀j∈aC ops k,j<k:=fun k hk j hj=>by
  have:=List.all_eq_true.1 hp k (by simpa[pY]using hk)
  rw[kO k hk]at this
  simpa using List.all_eq_true.1 this j hj
 have uj:∀k,k<(dh ops).length->∀j∈(dh ops).getD k [],j<k:=fun k hk j hj=>by
  rw[pY]at hk;rw[kO k hk]at hj;exact sN k hk j hj
 let po:Nat->Nat->Prop:=fun k j=>((ck (dh ops) []).getD k 0).testBit j=true
 have rv:∀E:Nat->Bool,(∀k,k<ops.size->E k=true->∀j∈aC ops k,E j=true)->∀k,k<ops.size->(∀j∈aC ops k,E j=true)->∀j,po k j->E j=true:=fun E hE k hk hj j hb=>
  iz uj (fun k hk dw j hj=>by rw[pY]at hk;rw[kO k hk]at hj;exact hE k hk dw j hj) k (by rw[pY];exact hk) (by rw[kO k hk];exact hj) j hb
 have pD:∀k,k<ops.size->∀j,po k j->j<k:=fun k hk j hb=>ox uj k (by rw[pY];exact hk) j hb
 have n8:∀i j,i<j->j<m-> ¬po j i->Compat (aK l) (fun i=>aO.getD i default) (fun i=>my (aO.getD i default)) i j:=by
  intro i j BE hj hn
  have tw:=List.all_eq_true.1 (List.all_eq_true.1 ht j (by simp;omega)) i (by simpa using BE)
  have pf:=List.all_eq_true.1 (List.all_eq_true.1 lk j (by simpa[yB]using hj)) i (by simpa using BE)
  have E1:((ck (dh ops) []).getD j 0).testBit i=false:=by simpa[po]using hn
  rw[E1,Bool.false_or]at tw pf
  simp only[Bool.and_eq_true]at tw pf
  have gi:=vF i (by omega)
  have gj:=vF j hj
  simp only[List.getD_eq_getElem?_getD (l:=nd aO),gi,gj,Option.getD_some]at pf
  have dj:∀ {xs ys:List Nat},gQ xs ys=true->∀x∈xs,x∉ys:=fun h x hx=>by simpa using List.all_eq_true.1 h x hx
  have fo:∀ {x y:aT},jx x y=true->∀d,x.dst=some d->d∉cD y:=fun h d hd=>by simpa[jx,hd]using h
  exact⟨fo tw.1,fo tw.2,fun id ah=>⟨dj pf.1.1 id ah,dj pf.1.2 id ah⟩,fun id ah=>dj pf.2 id ah⟩
 have KJ:∀k,m<=k->k<ops.size->∀j,j<k->po k j:=fun k Lg hk j hj=>by
  have:=List.all_eq_true.1 KH k (by simpa[pY]using hk)
  simp only[Bool.or_eq_true]at this
  rcases this with this|this
  ·exact absurd (Nat.blt_eq.mp this) (by omega)
  ·show((ck (dh ops) []).getD k 0).testBit j=true
   rw[Nat.eq_of_beq_eq_true this,Nat.testBit_two_pow_sub_one]
   exact decide_eq_true hj
 refine qK (ac:=fun i=>aO.getD i default) (m:=m) (X:=fun v s=>Q' (.aH v) s) (K:=Q' .normal) aD gS sN (by omega) hs (fun i hi=> ?_) (fun i hi=>aR _ (ly i hi)) rv pD n8 KJ ?_ (fun s φ a w hk eQ=>⟨.normal,s,φ,hk,eQ,trivial⟩) (fun v s' ai a' w' val hx eQ hd=>⟨.aH v,s',ai,hx,eQ,val,rfl,hd⟩)
 ·rw[iX i (by omega)];exact aG i _ _ (DJ i hi) (kI i hi)
 ·rw[iX m (Nat.le_refl _)]
  rw[KI]at vZ
  exact eb (fun s hs=>hQ _ _ hs) (fun v s hs=>hQ _ _ hs) _ _ _ (nh _ _ m gS) vZ
theorem sO{g:V}{ps:List Nat}{x y:IC}{Q Q':et->S->Prop}{s:S}(hQ:∀e s,Q e s->Q' e s)(h:qs P n g ps x y Q s):qs P n g ps x y Q' s:=by
 obtain⟨env,h1,h2⟩:=h
 refine⟨env,h1, ?_⟩
 split at h2
 ·refine jd.mono (fun v o n h=> ?_) (fun v o n h=>hQ _ _ h) h2
  obtain⟨nf,m,e,p,c,d,st,pd,k1,k2,k3⟩:=h
  refine⟨nf,m,e,p,c,d,st,pd,k1,k2, ?_⟩
  cases pd with
  |none=>exact hQ _ _ k3
  |some j=>cases j<;>exact hQ _ _ k3
 ·exact h2
theorem dJ(aD:P.follows .mixedOrders=true):∀ (c:Code) (Q Q':et->S->Prop) (s:S),(∀e s,Q e s->Q' e s)->mf P n b rd (low n c) Q s->dS P n b rd c Q' s:=by
 intro c
 induction c with
 |skip=>exact fun Q Q' s hQ h=>hQ _ _ h
 |scope x ih=>exact fun Q Q' s hQ h=>ih Q Q' s hQ h
 |label l=>exact fun Q Q' s hQ h=>hQ _ _ h
 |exit id=>exact fun Q Q' s hQ h=>hQ _ _ h
 |ret=>exact fun Q Q' s hQ h=>hQ _ _ h
 |goto l=>exact fun Q Q' s hQ h=>h.elim
 |refuse y=>exact fun Q Q' s hQ h=>h.elim
 |rangeFunc f p x y=>exact fun Q Q' s hQ h=>⟨h.1,sO hQ h.2⟩
 |region id ops draw=>
  intro Q Q' s hQ h
  cases draw with
  |true=>
   simp only[low]at h
   split at h
   ·rename_i l hl
    split at h
    ·rename_i hc
     simp only[Bool.and_eq_true]at hc
     rcases h with h|h
     ·exact sM aD hQ hl hc.1 hc.2 h
     ·exact qM aD hQ hl hc.1 hc.2 h
    ·exact h.elim
   ·exact h.elim
  |false=>
   simp only[low]at h
   split at h
   ·rename_i l hl;exact eb (fun s hs=>hQ _ _ hs) (fun v s hs=>hQ _ _ hs) _ l s hl h
   ·exact h.elim
 |seq x y vR vS=>
  intro Q Q' s hQ h
  refine vR _ _ s (fun e s he=> ?_) h
  cases e<;>first|exact vS Q Q' s hQ he|exact hQ _ _ he
 |cond c x y vR vS=>
  intro Q Q' s hQ h
  simp only[low,mf]at h
  simp only[dS]
  split at h
  ·rename_i t hc
   simp only[hc]
   exact⟨fun ht=>vR Q Q' s hQ (h.1 ht),fun ht=>vS Q Q' s hQ (h.2 ht)⟩
  ·rename_i hc
   simp only[hc]
   exact⟨vR Q Q' s hQ h.1,vS Q Q' s hQ h.2⟩
  ·exact h.elim
 |block id x ih=>
  intro Q Q' s hQ h
  refine ih _ _ s (fun e s he=> ?_) h
  cases e<;>simp only[cV]at he|- <;>first
   |exact hQ _ _ he
   |(split at he<;>rename_i e
     ·rw[if_pos e];exact hQ _ _ he
     ·rw[if_neg e];exact hQ _ _ he)
 |loop x ih=>
  intro Q Q' s hQ h
  obtain⟨J,h0,hr⟩:=h
  refine⟨J,h0,fun m s0 hJ=>ih _ _ s0 (fun e s he=> ?_) (hr m s0 hJ)⟩
  cases e<;>first|exact hQ _ _ he|exact he
structure ax (P:Program) (f:FuncId) (n:Nat) (ic:IC) (rs:List ResultVar):Prop where
 get:∃fn,P.funcs[f]? =some fn/\(fn.name== "runtime.NumGoroutine")=false/\fn.ntmps=n/\fn.results.toList=rs/\∃c,fn.body=some c/\low n c=ic
theorem jJ.rz (aD:P.follows .mixedOrders=true){f:FuncId}{ic:IC}{rs:List ResultVar}(hf:ax P f n ic rs){args:List V}{o:Nat->aa}{nx:Nat}{K X:V->(Nat->aa)->Nat->Prop}(hl:args.length<=n)(h:mf P n nx false ic (fG P rs K X) ⟨bq args,o,nx⟩):jJ P f args o nx K X:=by
 obtain⟨fn,h1,h2,rfl,rfl,c,h3,rfl⟩:=hf.get
 exact jJ.rn h1 h2 h3 hl (dJ aD c _ _ _ (fun _ _ h=>h) h)
theorem c0.rz (aD:P.follows .mixedOrders=true){f:FuncId}{ic:IC}{rs:List ResultVar}(hf:ax P f n ic rs){ds:List D}{out:R}(hl:ds.length<=n)(h:mf P n 0 false ic (sr P rs out) ⟨bq (ds.map .d),fun _=> .no,0⟩):c0 P f ds out:=by
 obtain⟨fn,h1,h2,rfl,rfl,c,h3,rfl⟩:=hf.get
 exact c0.im (jJ.rn h1 h2 h3 (by simpa using hl) (dJ aD c _ _ _ (fun e s h=>sB e s h) h))
end
end Go.Proofs.YtbmnikpknlkbkaaGreat
namespace Go.Proofs.YtbmnikpknlkbkaaGreat
def um(id:Nat)(K X:V->(Nat->aa)->Nat->Prop)(e:et)(s:S):Prop:=
 match e with
 | .normal=>∃nf m en p c d st pd,s.o id= .loop nf m en p c d st pd/\K (.d (.bool true)) (cN s.o id (.loop nf m en p c d .ready none)) s.nx
 | .ret=>∃nf m en p c d st pd,s.o id= .loop nf m en p c d st pd/\K (.d (.bool false)) (cN s.o id (.loop nf m en p c d .done (some .ret))) s.nx
 | .exit j=>∃nf m en p c d st pd,s.o id= .loop nf m en p c d st pd/\K (.d (.bool false)) (cN s.o id (.loop nf m en p c d .done (some (.exit j)))) s.nx
 | .aH v=>X v s.o s.nx
def yD(P:Program)(n b id:Nat)(fL:IC)(K X:V->(Nat->aa)->Nat->Prop)(e:et)(s:S):Prop:=
 match e with
 | .normal=>∃nf m en p c d pd,s.o id= .loop nf m en p c d .ready pd/\mf P n b true fL (um id K X) ⟨s.env,cN s.o id (.loop nf m en p c d .busy pd),s.nx⟩
 | .aH v=>X v s.o s.nx
 |_=>False
section
variable {P:Program}{M:Nat->Prop}{φ a6:Place}{H0:Hp}{w w0:World}{n:Nat}{s:S}{a:Act}{cx:Cx}
theorem pH{id:Nat}{x:aa}{s:S}(cu:id<s.nx)(j:Nat)(hu:(s.H.put [(id,x)]).us j):j<s.nx:=by
 simp only[bW]at hu
 rcases hu with hu|hu
 ·exact hu
 ·subst hu;exact cu
theorem lT{B:Nat->Prop}{H:Hp}{n:Nat}:∀ (ps:List Nat) (vs:List V) (us:List Value) (env:Nat->V) (tmps:Array Value),tmps.size=n->ps.length=vs.length->V.aj B φ H w vs us->ps.all (fun t=>decide (t<n))=true->(∀i,V.den B φ H w (env i) (tmps.getD i undef))->
 ((ps.zip us).foldl (fun tmps p=>tmps.setIfInBounds p.1 p.2) tmps).size=n/\∀i,V.den B φ H w (sL env ps vs i) (((ps.zip us).foldl (fun tmps p=>tmps.setIfInBounds p.1 p.2) tmps).getD i undef)
 |[],[],us,env,tmps,cl,_,hd,_,he=>by simp only[V.aj]at hd;subst hd;exact⟨cl,he⟩
 |[],v::vs,us,env,tmps,_,h,_,_,_=>by simp at h
 |t::ps,[],us,env,tmps,_,h,_,_,_=>by simp at h
 |t::ps,v::vs,us,env,tmps,cl,hl,hd,hp,he=>by
  obtain⟨u,us,rfl,h1,h2⟩:=hd
  simp only[List.all_cons,Bool.and_eq_true,decide_eq_true_eq]at hp
  simp only[List.zip_cons_cons,List.foldl_cons,sL]
  refine lT ps vs us (cN env t v) (tmps.setIfInBounds t u) (by simp[cl]) (by simpa using hl) h2 hp.2 (fun i=> ?_)
  simp only[ak]
  by_cases hi:i=t
  ·subst hi
   have:(tmps.setIfInBounds i u).getD i undef=u:=by simp[Array.getD,cl,hp.1]
   rw[if_pos rfl,this];exact h1
  ·have:(tmps.setIfInBounds t u).getD i undef=tmps.getD i undef:=by
    simp only[Array.getD_eq_getD_getElem?]
    rw[Array.getElem?_setIfInBounds_ne (Ne.symm hi)]
   rw[if_neg hi,this];exact he i
theorem eo.rz (aD:P.follows .mixedOrders=true){id:Nat}{args:List V}{o:Nat->aa}{nx:Nat}{K X:V->(Nat->aa)->Nat->Prop}{env:List V}{ps:List Nat}{iB fL:IC}{st:LoopState}{pd:Option kn}
 (ho:o id= .loop P.funcs.size n env ps iB fL st pd) (cu:id<nx) (E2:ps.all (fun t=>decide (t<n))=true) (hl:args.length=ps.length)
 (h:mf P n nx true iB (yD P n nx id fL K X) ⟨sL (eX env) ps args,o,nx⟩):eo P id args o nx K X:=by
 refine⟨by rw[ho];rfl,fun M φ w vals b hH hd bG=> ?_⟩
 have aG:=hH.ok id
 simp only[au,hp,ho]at aG
 obtain⟨b',r,h1,h2,h0,h3,h4,h5,h6,h7,h8,h9⟩:=aG
 rw[bG]at h1;simp at h1;subst h1
 have hlen:=V.ag _ _ hd
 have cl:vals.size=r.params.size:=by
  have:r.params.toList.length=ps.length:=by rw[h5]
  simp at hlen this;omega
 let tm:Array Value:=(ps.zip vals.toList).foldl (fun tmps p=>tmps.setIfInBounds p.1 p.2) r.tmps
 have BF:(r.params.zip vals).foldl (fun tmps (p:Tmp×Value)=>tmps.setIfInBounds p.1 p.2) r.tmps=tm:=by
  rw[<- Array.foldl_toList,Array.toList_zip,h5]
 obtain⟨p1,p2⟩:=lT (B:=ad M φ (hp o nx)) (H:=hp o nx) (φ:=φ) (w:=w) ps args vals.toList (eX env) r.tmps h6 hl.symm hd E2 h9
 refine⟨r.fn,tm,r.assign,r.body, ?_,fun k=> ?_⟩
 ·simp only[Instr.yield,Sem.run_bind,eM h2,Result.andThen_ok,cl,ne_eq,not_true_eq_false,if_false,Sem.run_pure]
  rw[<- BF]
 ·
   let s0:S:=⟨sL (eX env) ps args,o,nx⟩
   let a0:Act:={tmps:=tm,defers:=[]}
   have vT:aP M φ (hp o nx) w n ⟨[],true⟩ φ s0 a0 w:=⟨hH,Trans.refl _ _ _,p1,⟨[],rfl,List.nodup_nil,fun _=>rfl,fun r hr=>by cases hr⟩,p2⟩
   have lU:∀ {ai s' a' w'},aP M φ (hp o nx) w n ⟨[],true⟩ ai s' a' w'->a'.defers=[]:=by
    intro ai s' a' w' hs
    obtain⟨ms,g1,_,g3,_⟩:=hs.defers
    rw[g3 rfl]at g1;exact g1
   have BG:∀ {ai s' a' w'} {nf m:Nat} {en:List V} {p:List Nat} {c d:IC} {st:LoopState} {pd:Option kn} (st':LoopState) (pd':Option kn),aP M φ (hp o nx) w n ⟨[],true⟩ ai s' a' w'->s'.o id= .loop nf m en p c d st pd->
    ∃r',w'.heap[b]? =some (.loop r')/\r'.state=st/\r'.pending=pd.map kn.code/\
     aP M φ (hp o nx) w n ⟨[],true⟩ ai ⟨s'.env,cN s'.o id (.loop nf m en p c d st' pd'),s'.nx⟩ a' {w' with heap:=w'.heap.setIfInBounds b (.loop {r' with state:=st',pending:=pd'.map kn.code})}:=by
    intro ai s' a' w' nf m en p c d st pd st' pd' hs kP
    have yp:ai id= .pointer (some ⟨b,0,none⟩):=by
     have:=(hs.tr.rel.row id cu (by show(s'.o id).aM=true;rw[kP];rfl)).2
     rw[this];exact bG
    have BH:id<s'.nx:=hs.tr.rel.us id cu
    obtain⟨r',r1,r2,r3,r4,r5⟩:=mY (st':=st') (pd':=pd') hs.heap BH (show s'.H.o id=_ from kP) yp
    exact⟨r',r1,r2,r3,b8 hs r4 r5 rfl (pH BH)⟩
   have ha:=dJ (P:=P) (n:=n) (b:=nx) (rd:=true) aD r.assign _ _ s0 (fun _ _ h=>h) (by rw[h7];exact h)
   refine lH h0 (du (dD (P:=P) (H0:=hp o nx) (b:=nx) (cx:=⟨[],true⟩) (ro:=some b) (fun id hu=>hu) (fun h=>by cases h) r.assign _ s0 φ a0 w ha vT) ?_)
   rintro e a1 w1 ⟨x,s1,dO,hq,mZ,hm⟩
   cases e<;>cases x<;>first|(exact hm.elim)|skip
   ·
     obtain⟨nf,m,en,p,c,d,E3,q1,q2⟩:=hq
     obtain⟨r',r1,r2,r3,vm⟩:=BG .busy E3 mZ q1
     have yE:(Instr.beginRound b).run P w1= .ok () {w1 with heap:=w1.heap.setIfInBounds b (.loop {r' with state:= .busy,pending:=E3.map kn.code})}:=by
      have e1:({r' with state:= .busy}:Loop)={r' with state:= .busy,pending:=E3.map kn.code}:=by rw[<- r3]
      simp only[Instr.beginRound,Sem.run_bind,eM r1,Result.andThen_ok,dQ _ r1,r2,Sem.run_pure,e1]
     refine⟨_,yE, ?_⟩
     have aF:=vm.heap.ok id
     simp only[au,S.H,ak,if_true]at aF
     obtain⟨b2,Lh,_,_,_,_,_,_,_,_,_,_⟩:=aF
     have hb:=dJ (P:=P) (n:=n) (b:=nx) (rd:=true) aD r.body _ _ _ (fun _ _ h=>h) (by rw[h8];exact q2)
     refine du (dD (P:=P) (H0:=hp o nx) (b:=nx) (cx:=⟨[],true⟩) (ro:=some b) (fun id hu=>hu) (fun h=>by cases h) r.body _ _ dO a1 _ hb vm) ?_
     rintro e a2 w2 ⟨x,s2,sx,z8,rm,DE⟩
     have fin:∀ {nf m:Nat} {en:List V} {p:List Nat} {c d:IC} {st:LoopState} {pd:Option kn} (jump:Option kn) (t:Bool) (st':LoopState),t=jump.isNone->st'=(if jump.isNone then .ready else .done)->s2.o id= .loop nf m en p c d st pd->K (.d (.bool t)) (cN s2.o id (.loop nf m en p c d st' jump)) s2.nx->
      ∃v w',(Instr.endRound b (jump.map kn.code)).run P w2= .ok v w'/\fZ M φ (hp o nx) w K X (.returned v) w':=by
      intro nf m en p c d st pd jump t st' ht iX KK hK
      obtain⟨Li,g1,g2,g3,z9⟩:=BG st' jump rm KK
      refine⟨.bool t,_, ?_,sx,_,_,_,z9.heap,z9.tr,by simp only[V.den,D.den],hK⟩
      subst ht;subst iX
      simp only[Instr.endRound,Sem.run_bind,eM g1,Result.andThen_ok,dQ _ g1,Sem.run_pure,Option.isNone_map]
     cases e<;>cases x<;>first|(exact DE.elim)|skip
     ·obtain⟨nf,m,en,p,c,d,st,pd,k1,k2⟩:=z8
      exact fin none true .ready rfl rfl k1 k2
     ·rename_i j
      subst DE
      obtain⟨nf,m,en,p,c,d,st,pd,k1,k2⟩:=z8
      exact fin (some (.exit _)) false .done rfl rfl k1 k2
     ·obtain⟨nf,m,en,p,c,d,st,pd,k1,k2⟩:=z8
      exact fin (some .ret) false .done rfl rfl k1 k2
     ·obtain⟨val,rfl,k2⟩:=DE
      exact⟨lU rm,sx,_,_,_,rm.heap,rm.tr,val,rfl,k2,z8⟩
   ·exact hq.elim
   ·exact hq.elim
   ·obtain⟨val,rfl,k2⟩:=hm
    exact⟨lU mZ,dO,_,_,_,mZ.heap,mZ.tr,val,rfl,k2,hq⟩
end
end Go.Proofs.YtbmnikpknlkbkaaGreat
namespace Go.Proofs.YtbmnikpknlkbkaaGreat
def yF(ops:Array Oper)(t t1:Nat):Prop:=
 (∃o1 o2,ops=#[o1,o2]/\o1.op= .call ⟨.builtin .recover,#[],#[]⟩/\o1.dst=some t/\o1.guard=none/\o2.op= .assign (.tmp t)/\o2.dst=some t1/\o2.guard=none)\/
 (∃o1,ops=#[o1]/\t1=t/\o1.op= .call ⟨.builtin .recover,#[],#[]⟩/\o1.dst=some t/\o1.guard=none)
structure rA (P:Program) (g:FuncId) (n t t1:Nat) (ic:IC):Prop where
 get:∃fn id ops c,P.funcs[g]? =some fn/\(fn.name== "runtime.NumGoroutine")=false/\fn.ntmps=n/\fn.results=#[]/\fn.body=some (.seq (.region id ops false) c)/\
  yF ops t t1/\t<n/\t1<n/\low n c=ic
structure uo (P:Program) (f:FuncId) (n:Nat) (iB fL:IC) (g:FuncId) (t:Nat) (gU:List Operand) (rs:List ResultVar):Prop where
 get:∃fn id o1 o2 a b d,P.funcs[f]? =some fn/\(fn.name== "runtime.NumGoroutine")=false/\fn.ntmps=n/\fn.results.toList=rs/\fn.body=some (.seq a d)/\(d= .seq (.region id #[o1,o2] false) b\/d= .scope (.seq (.region id #[o1,o2] false) b))/\
  o1.op= .makeFunc (.func g) #[] gU.toArray/\o1.dst=some t/\o1.guard=none/\o2.op= .defer ⟨.value (.tmp t),#[],#[]⟩/\o2.dst=none/\o2.guard=none/\t<n/\low n a=iB/\low n b=fL
def E4(K:(Nat->aa)->Nat->Prop)(e:et)(s:S):Prop:=match e with| .normal| .ret=>K s.o s.nx|_=>False
def sP(P:Program)(n t t1:Nat)(ic:IC)(gU:List V)(u:V)(o:Nat->aa)(nx:Nat)(K:(Nat->aa)->Nat->Prop):Prop:=
 gU.length<=n/\mf P n nx true ic (E4 K) ⟨cN (cN (bq gU) t u) t1 u,o,nx⟩
def qN(P:Program)(n t t1:Nat)(ic:IC)(gU:List V)(rs:List ResultVar)(K X:V->(Nat->aa)->Nat->Prop)(e:et)(s:S):Prop:=
 match e with
 | .normal| .ret=>sP P n t t1 ic gU (.d .dx) s.o s.nx fun o nx=>fG P rs K X .ret ⟨s.env,o,nx⟩
 | .aH v=>sP P n t t1 ic gU v s.o s.nx fun o nx=>fG P rs K X .ret ⟨s.env,o,nx⟩
 | .exit _=>False
def uq(P:Program)(n t:Nat)(fL:IC)(dX:List Operand)(g:FuncId)(D:List V->et->S->Prop)(e:et)(s:S):Prop:=
 match e with
 | .normal=>mf P n s.nx false fL (D (dX.map s.ev)) ⟨cN s.env t (.func (.func g) [] (dX.map s.ev)),s.o,s.nx⟩
 |_=>False
section
variable {P:Program}{M:Nat->Prop}{φ a6:Place}{H H0:Hp}{w w0:World}{n:Nat}{s:S}{a:Act}{cx:Cx}{k:Nat}
theorem sQ(aD:P.follows .mixedOrders=true){g:FuncId}{t t1:Nat}{ic:IC}(hg:rA P g n t t1 ic){gU:List V}{u:V}{o:Nat->aa}{nx:Nat}{K:(Nat->aa)->Nat->Prop}(h:sP P n t t1 ic gU u o nx K)
 {vals:Array Value} {val:Value} {m:FrameMode} (hH:af M φ (hp o nx) w) (hd:V.aj (ad M φ (hp o nx)) φ (hp o nx) w gU vals.toList) (hv:V.den (ad M φ (hp o nx)) φ (hp o nx) w u val)
 (hm:(m= .returning/\val= .nilIface)\/m= .panicking [{v:=val,recovered:=false}]):
 CallsDIn (bT none) k P g vals m w fun e u' w'=>∃v ai o' nx',e= .returned v/\settle u'= .returning/\af M ai (hp o' nx') w'/\Trans φ (hp o nx) w ai (hp o' nx') w'/\K o' nx':=by
 obtain⟨fn,id,ops,c,hf,xF,KL,o7,jk,sJ,ht,p0,gS⟩:=hg.get
 have cu:g<P.funcs.size:=(Array.getElem?_eq_some_iff.1 hf).1
 obtain⟨kA,h⟩:=h
 have hlen:=V.ag _ _ hd
 refine⟨trivial,fun iu cs ur w7=> ?_⟩
 let b:Frame:={(default:Frame)with fn:=g,kind:= .deferred,roundOf:=none}
 let kS:Array Value:=vals++Array.replicate (fn.ntmps - vals.size) undef
 have E5:kS.size=n:=by simp only[kS,Array.size_append,Array.size_replicate];simp at hlen;omega
 have fF:Frame.enter P g vals .deferred=b.atR {tmps:=kS,defers:=[]} [.code (.seq (.region id ops false) c)]:=by
  simp[Frame.enter,Frame.atR,hf,jk,b,kS]
 obtain⟨m',HH,aF⟩:∃m',settle m'= .returning/\((recoverD (iu::cs)=none/\m'=m/\val= .nilIface)\/recoverD (iu::cs)=some (val,{iu with mode:=m'}::cs)):=by
  rcases hm with⟨rfl,rfl⟩|rfl
  ·exact⟨.returning,rfl, .inl ⟨by simp[recoverD,ur],rfl,rfl⟩⟩
  ·exact⟨.panicking [{v:=val,recovered:=true}],rfl, .inr (by simp[recoverD,ur])⟩
 have DC:({iu with mode:=m}:Frame)=iu:=by subst ur;rfl
 let a1:Act:={tmps:=(kS.setIfInBounds t val).setIfInBounds t1 val,defers:=[]}
 have vZ:(Code.region id ops false).wpSIn (bT none) k P (fun e a' cs' w'=>e= .normal/\a'=a1/\cs'={iu with mode:=m'}::cs/\w'=w) {tmps:=kS,defers:=[]} (iu::cs) w:=by
  rcases sJ with⟨o1,o2,rfl,e1,e2,e3,e4,e5,e6⟩|⟨o1,rfl,rfl,e1,e2,e3⟩
  ·refine wpSIn_region ?_
   have hr:List.range (#[o1,o2]:Array Oper).size=[0,1]:=rfl
   have g0:(#[o1,o2]:Array Oper)[0]? =some o1:=rfl
   have g1:(#[o1,o2]:Array Oper)[1]? =some o2:=rfl
   rw[hr]
   have x1:∀ (ρ:Operand->Value) (w:World),(execOp ρ o1).run P w= .ok .recover w:=by
    intro ρ w
    simp[execOp,e1,resolve,invoke,builtin]
   have x2:∀ (ρ:Operand->Value) (w:World),(execOp ρ o2).run P w= .ok (.value (ρ (.tmp t))) w:=by
    intro ρ w
    simp[execOp,e4]
   have last:∀cs',cs'={iu with mode:=m'}::cs->wpOpsSIn (bT none) k P #[o1,o2] (fun e a' cs' w'=>e= .normal/\a'=a1/\cs'={iu with mode:=m'}::cs/\w'=w) [1] (({tmps:=kS,defers:=[]}:Act).put (some t) val) cs' w:=by
    rintro cs' rfl
    have hw:Region.wanted o2 (yielded #[o1,o2] (({tmps:=kS,defers:=[]}:Act).put (some t) val).tmps)=true:=by simp[Region.wanted,e6]
    have bI:(({tmps:=kS,defers:=[]}:Act).put (some t) val).eval (.tmp t)=val:=by
     have:t<kS.size:=by omega
     simp[Act.put,Act.eval,Array.getD,this]
    simp only[wpOpsSIn,g1,hw,if_true,x2,bI,e5]
    refine⟨fun _ _=>trivial, ?_⟩
    simp[a1,Act.put]
   have hw:Region.wanted o1 (yielded #[o1,o2] kS)=true:=by simp[Region.wanted,e3]
   rw[wpOpsSIn,g0]
   refine⟨fun _ _=>trivial, ?_⟩
   simp only[hw,if_true,x1,e2]
   rcases aF with⟨hr,rfl,rfl⟩|hr
   ·simp only[hr]
    exact last _ (by rw[DC])
   ·simp only[hr]
    exact last _ rfl
  ·refine wpSIn_region ?_
   have hr:List.range (#[o1]:Array Oper).size=[0]:=rfl
   have g0:(#[o1]:Array Oper)[0]? =some o1:=rfl
   rw[hr]
   have x1:∀ (ρ:Operand->Value) (w:World),(execOp ρ o1).run P w= .ok .recover w:=by
    intro ρ w
    simp[execOp,e1,resolve,invoke,builtin]
   have same:a1=({tmps:=kS,defers:=[]}:Act).put (some t1) val:=by
    simp only[a1,Act.put]
    congr 1
    apply Array.ext_getElem?
    intro j
    simp only[Array.getElem?_setIfInBounds]
    by_cases hj:t1=j
    ·subst hj;simp
    ·simp[hj]
   have last:∀cs',cs'={iu with mode:=m'}::cs->wpOpsSIn (bT none) k P #[o1] (fun e a' cs' w'=>e= .normal/\a'=a1/\cs'={iu with mode:=m'}::cs/\w'=w) [] (({tmps:=kS,defers:=[]}:Act).put (some t1) val) cs' w:=by
    rintro cs' rfl
    simp only[wpOpsSIn]
    exact⟨trivial,same.symm,trivial,trivial⟩
   have hw:Region.wanted o1 (yielded #[o1] kS)=true:=by simp[Region.wanted,e3]
   rw[wpOpsSIn,g0]
   refine⟨fun _ _=>trivial, ?_⟩
   simp only[hw,if_true,x1,e2]
   rcases aF with⟨hr,rfl,rfl⟩|hr
   ·simp only[hr]
    exact last _ (by rw[DC])
   ·simp only[hr]
    exact last _ rfl
 obtain⟨er,ar,Lj,wr,hl,⟨rfl,rfl,rfl,Eb⟩,aZ⟩:=vZ b [.code c] rfl rfl trivial (fun d hd=>by simp[bT]at hd)
 rw[Eb]at aZ
 let s0:S:=⟨cN (cN (bq gU) t u) t1 u,o,nx⟩
 have vT:aP M φ (hp o nx) w n ⟨[],true⟩ φ s0 a1 w:=by
  refine⟨hH,Trans.refl _ _ _,by simp[a1,E5],⟨[],rfl,List.nodup_nil,fun _=>rfl,fun r hr=>by cases hr⟩,fun i=> ?_⟩
  have bH:=lG (m:=fn.ntmps - vals.size) hd i
  simp only[s0,a1,ak]
  have DG:t<kS.size:=by omega
  have E6:t1<kS.size:=by omega
  by_cases h1:i=t1
  ·subst h1
   simp only[if_true]
   have:((kS.setIfInBounds t val).setIfInBounds i val).getD i undef=val:=by simp[Array.getD,E6]
   rw[this];exact hv
  ·simp only[h1,if_false]
   have e1:((kS.setIfInBounds t val).setIfInBounds t1 val).getD i undef=(kS.setIfInBounds t val).getD i undef:=by
    simp only[Array.getD_eq_getD_getElem?]
    rw[Array.getElem?_setIfInBounds_ne (Ne.symm h1)]
   rw[e1]
   by_cases h2:i=t
   ·subst h2
    simp only[if_true]
    have:(kS.setIfInBounds i val).getD i undef=val:=by simp[Array.getD,DG]
    rw[this];exact hv
   ·simp only[h2,if_false]
    have e1:(kS.setIfInBounds t val).getD i undef=kS.getD i undef:=by
     simp only[Array.getD_eq_getD_getElem?]
     rw[Array.getElem?_setIfInBounds_ne (Ne.symm h2)]
    rw[e1];exact bH
 have KM:=dJ (P:=P) (n:=n) (b:=nx) (rd:=true) aD c _ _ s0 (fun _ _ h=>h) (by rw[gS];exact h)
 obtain⟨e,a',w',⟨x,s',ai,hq,eQ,hx⟩,rl⟩:=dD (P:=P) (H0:=hp o nx) (b:=nx) (cx:=⟨[],true⟩) (ro:=none) (fun id hu=>hu) (fun h=>by cases h) c _ s0 φ a1 w KM vT b [] ({iu with mode:=m'}::cs) rfl cu
 have i0:(lone (b.atR {tmps:=kS,defers:=[]} [.code (.seq (.region id ops false) c)]) (iu::cs) w).fenced P (bT none):=fenced_calm (n:=0) trivial dt rfl
 have xG:StepsIn (Machine.fenced P (bT none)) P (lone (b.atR {tmps:=kS,defers:=[]} [.code (.seq (.region id ops false) c)]) (iu::cs) w) (lone (b.atR a1 [.code c]) ({iu with mode:=m'}::cs) w):= .head i0 stepR_seq aZ
 have lU:a'.defers=[]:=by
  obtain⟨ms,g1,_,g3,_⟩:=eQ.defers
  rw[g3 rfl]at g1;exact g1
 have BI:∀tm:Array Value,∃v,(results fn tm).run P w'= .ok v w':=by
  intro tm
  refine⟨_,gk (vals:=[]) ?_⟩
  rw[o7];rfl
 rw[fF]
 obtain⟨v,mc⟩:=BI a'.tmps
 cases e<;>cases x<;>first|(exact hx.elim)|(exact hq.elim)|skip
 ·exact⟨.returned v,m',w',_,⟨v,ai,s'.o,s'.nx,rfl,HH,eQ.heap,eQ.tr,hq⟩,StepsIn.trans xG (StepsIn.trans rl (.one (fenced_calm (n:=0) (fr:=b.atR a' []) trivial dt rfl) (stepR_end rfl))),rfl,rfl,rfl,lU,fn,hf,mc⟩
 ·obtain⟨todo,hs⟩:=rl.1 rfl
  exact⟨.returned v,m',w',_,⟨v,ai,s'.o,s'.nx,rfl,HH,eQ.heap,eQ.tr,hq⟩,StepsIn.trans xG hs,rfl,rfl,rfl,lU,fn,hf,mc⟩
theorem pI{d c:Code}{ro:Option Nat}{Q:Exit->Act->World->Prop}{a:Act}{w:World}(h:d=c\/d= .scope c)(hg:∀l a w, ¬Q (.goto l) a w)(hc:c.kB P ro Q a w):d.kB P ro Q a w:=by
 rcases h with rfl|rfl
 ·exact hc
 ·exact mW hc hg
theorem jJ.uu (aD:P.follows .mixedOrders=true){f g:FuncId}{iB fL pJ:IC}{t m r r1:Nat}{dX:List Operand}{rs:List ResultVar}(hf:uo P f n iB fL g t dX rs)(hg:rA P g m r r1 pJ)
 {args:List V} {o:Nat->aa} {nx:Nat} {K X:V->(Nat->aa)->Nat->Prop} (hl:args.length<=n)
 (h:mf P n nx true iB (uq P n t fL dX g fun gU=>qN P m r r1 pJ gU rs K X) ⟨bq args,o,nx⟩):jJ P f args o nx K X:=by
 obtain⟨fn,id,o1,o2,ca,cb,cd,su,xF,KL,o7,jk,KN,e1,e2,e3,e4,e5,e6,ht,KO,vj⟩:=hf.get
 obtain⟨gn,_,_,gc,KQ,yG,_,_,yH,_⟩:=hg.get
 refine⟨⟨fn,su,xF,by rw[jk];rfl⟩,fun M φ w vals hH hd=> ?_⟩
 have hlen:=V.ag _ _ hd
 let s0:S:=⟨bq args,o,nx⟩
 let a0:Act:={tmps:=vals++Array.replicate (fn.ntmps - vals.size) undef,defers:=[]}
 have vT:aP M φ (hp o nx) w n ⟨[],true⟩ φ s0 a0 w:=by
  refine⟨hH,Trans.refl _ _ _, ?_,⟨[],rfl,List.nodup_nil,fun _=>rfl,fun r hr=>by cases hr⟩,lG hd⟩
  simp only[a0,Array.size_append,Array.size_replicate];simp at hlen;omega
 have ha:=dJ (P:=P) (n:=n) (b:=nx) (rd:=true) aD ca _ _ s0 (fun _ _ h=>h) (by rw[KO];exact h)
 refine o8 (ro:=none) (k:=0) (gm su jk (nM (du (dD (P:=P) (H0:=hp o nx) (b:=nx) (cx:=⟨[],true⟩) (ro:=none) (fun id hu=>hu) (fun h=>by cases h) ca _ s0 φ a0 w ha vT) ?_)))
 rintro e a1 w1 ⟨x,s1,dO,hq,mZ,hm⟩
 cases e<;>cases x<;>first|(exact hm.elim)|(exact hq.elim)|skip
 have lU:a1.defers=[]:=by
  obtain⟨ms,g1,_,g3,_⟩:=mZ.defers
  rw[g3 rfl]at g1;exact g1
 let cv:Array Value:=(dX.map a1.eval).toArray
 let fv:Value:= .func (.func g) #[] cv
 let dd:Deferred:={target:= .fn (.func g) cv,args:=#[]}
 let a2:Act:={tmps:=a1.tmps.setIfInBounds t fv,defers:=[dd]}
 have xH:V.aj (ad M dO s1.H) dO s1.H w1 (dX.map s1.ev) cv.toList:=by
  simpa[cv]using eF (M:=M) (φ:=dO) (H:=s1.H) (w:=w1) s1 a1 mZ.env dX
 refine pI KN (fun l a w h=> ?_) ?_
 ·exact h.elim
 refine nM (du (Q:=fun e a w=>e= .normal/\a=a2/\w=w1) (il (k:=0) (wpIn_region_list ?_)) ?_)
 ·have y1:Region.wanted o1 (yielded #[o1,o2] a1.tmps)=true:=by simp[Region.wanted,e3]
  have y2:∀tm,Region.wanted o2 (yielded #[o1,o2] tm)=true:=by intro tm;simp[Region.wanted,e6]
  have bI:(a1.put (some t) fv).eval (.tmp t)=fv:=by
   have:t<a1.tmps.size:=by rw[mZ.size];exact ht
   simp[Act.put,Act.eval,Array.getD,this]
  show wpListIn (bT none) 0 P #[o1,o2] _ [o1,o2] a1 w1
  unfold wpListIn
  rw[if_pos y1]
  have x1:(execOp a1.eval o1).run P w1= .ok (.value fv) w1:=by simp[execOp,e1,fv,cv,Instr.makeFunc]
  refine eK (fun c hc=>by rw[e1]at hc;cases hc) ?_
  rw[x1]
  show wpListIn (bT none) 0 P #[o1,o2] _ [o2] (a1.put o1.dst fv) w1
  rw[e2]
  unfold wpListIn
  rw[if_pos (y2 _)]
  have x2:(execOp (a1.put (some t) fv).eval o2).run P w1= .ok (.defer dd) w1:=by
   simp[execOp,e4,resolve,bI,Deferred.ofValue,fv,dd]
  refine⟨fun _ _=>trivial, ?_⟩
  have:(o2.semAt (bT none).round (a1.put (some t) fv).eval)=execOp (a1.put (some t) fv).eval o2:=rfl
  rw[this,x2]
  unfold Oper.uponIn
  simp only[e5,wpListIn,Act.put,lU,a2,and_self]
 rintro e a w2 ⟨rfl,rfl,rfl⟩
 have p0:t<a1.tmps.size:=by rw[mZ.size];exact ht
 let s2:S:=⟨cN s1.env t (.func (.func g) [] (dX.map s1.ev)),s1.o,s1.nx⟩
 have vm:aP M dO s1.H w2 n ⟨[dd],false⟩ dO s2 a2 w2:=by
  refine⟨mZ.heap,Trans.refl _ _ _,by simp[a2,mZ.size],⟨[],rfl,List.nodup_nil,fun _=>rfl,fun r hr=>by cases hr⟩,fun i=> ?_⟩
  simp only[s2,a2,ak]
  by_cases h1:i=t
  ·subst h1
   have:(a1.tmps.setIfInBounds i fv).getD i undef=fv:=by simp[Array.getD,p0]
   simp only[if_true];rw[this]
   exact⟨#[],cv,rfl,rfl,xH⟩
  ·have:(a1.tmps.setIfInBounds t fv).getD i undef=a1.tmps.getD i undef:=by
    simp only[Array.getD_eq_getD_getElem?]
    rw[Array.getElem?_setIfInBounds_ne (Ne.symm h1)]
   simp only[h1,if_false];rw[this]
   exact mZ.env i
 have hb:=dJ (P:=P) (n:=n) (b:=s1.nx) (rd:=false) aD cb _ _ s2 (fun _ _ h=>h) (by rw[vj];exact hq)
 refine du (dD (P:=P) (H0:=s1.H) (b:=s1.nx) (cx:=⟨[dd],false⟩) (ro:=none) (fun id hu=>hu) (fun _=>rfl) cb _ s2 dO a2 w2 hb vm) ?_
 rintro e a3 w3 ⟨x,s3,BJ,DK,rm,ov⟩
 obtain⟨ms,g1,g2,_,g4⟩:=rm.defers
 have hinv:(invoke dd.target dd.args).run P=fun w=> .ok (.enter g cv) w:=by
  funext w
  have:=fh (w:=w) ⟨gn,KQ,yG,by rw[yH];rfl⟩ cv
  simpa[dd,invoke]using this
 have last:∀ {w4:World} {tm:Array Value} {u:V} {val:Value} {m0:FrameMode},m0≠ .run->nO M dO s1.H w2 BJ s3 a3.tmps w4->V.den (ad M BJ s3.H) BJ s3.H w4 u val->
  ((m0= .returning/\val= .nilIface)\/m0= .panicking [{v:=val,recovered:=false}])->
  (sP P m r r1 pJ (dX.map s1.ev) u s3.o s3.nx fun o nx=>fG P rs K X .ret ⟨s3.env,o,nx⟩)->
  LeavesInM (bT none) 0 P fn a3.tmps (fZ M φ (hp o nx) w K X) [dd] m0 w4:=by
  intro w4 tm u val m0 cG hB yg KR aF
  have yI:=V.aw hB.tr _ _ xH
  refine⟨cG, .inr ⟨fun h=>by simp[bT]at h, .func g,cv,g,cv,rfl,by rw[hinv],fun _ _=>trivial,CallsDIn.mono (sQ (k:=0 - 1) aD hg aF (m:=m0) hB.heap yI yg KR) ?_⟩⟩
  rintro e u' w5 ⟨v,E7,o5,DL,rfl,E8,k1,k2,k3⟩
  show LeavesInM (bT none) 0 P fn a3.tmps (fZ M φ (hp o nx) w K X) [] (settle u') w5
  rw[E8]
  obtain⟨vs,h1,h2⟩:=pg k3
  rw[<- o7]at h1
  have BK:∀i,V.den (ad M E7 (hp o5 DL)) E7 (hp o5 DL) w5 (s3.env i) (a3.tmps.getD i undef):=fun i=>V.aq k2 _ _ (hB.env i)
  obtain⟨HI,h3,h4⟩:=kR (P:=P) (s:=⟨s3.env,o5,DL⟩) (a:=a3) k1 BK _ _ h1
  exact⟨_,gk h3,E7,o5,DL,_,k1,mZ.tr.trans (hB.tr.trans k2),ph h4,h2⟩
 have done:sP P m r r1 pJ (dX.map s1.ev) (.d .dx) s3.o s3.nx (fun o nx=>fG P rs K X .ret ⟨s3.env,o,nx⟩)->LeavesInM (bT none) 0 P fn a3.tmps (fZ M φ (hp o nx) w K X) a3.defers .returning w3:=by
  intro aF
  rw[g1]
  exact dv (P:=P) (k:=0) (fn:=fn) (R:=fZ M φ (hp o nx) w K X) (u:= .returning) (by simp) (ds:=[dd]) (fun w4 hB=>last (tm:=a3.tmps) (by simp) hB (u:= .d .dx) (val:= .nilIface) (by simp[V.den,D.den]) (.inl ⟨rfl,rfl⟩) aF) ms w3 g2 g4 rm.HD
 cases e<;>cases x<;>first|(exact ov.elim)|skip
 ·exact done DK
 ·exact DK.elim
 ·exact done DK
 ·rename_i v
  obtain⟨val,rfl,ER⟩:=ov
  show LeavesInM (bT none) 0 P fn a3.tmps (fZ M φ (hp o nx) w K X) a3.defers _ w3
  rw[g1]
  let BL:Nat->V:=fun i=>match i with|0=>v|i+1=>s3.env i
  have BM:(#[val]++a3.tmps).getD 0 undef=val:=by simp[Array.getD]
  have BN:∀i,(#[val]++a3.tmps).getD (i+1) undef=a3.tmps.getD i undef:=by
   intro i
   simp only[Array.getD_eq_getD_getElem?]
   rw[Array.getElem?_append_right (by simp)]
   simp
  have Br:nO M dO s1.H w2 BJ ⟨BL,s3.o,s3.nx⟩ (#[val]++a3.tmps) w3:=⟨rm.heap,rm.tr,fun i=>by
   cases i with
   |zero=>rw[BM];exact ER
   |succ i=>rw[BN];exact rm.env i⟩
  have BO:∀w4,nO M dO s1.H w2 BJ ⟨BL,s3.o,s3.nx⟩ (#[val]++a3.tmps) w4->LeavesInM (bT none) 0 P fn a3.tmps (fZ M φ (hp o nx) w K X) [dd] (.panicking [{v:=val,recovered:=false}]) w4:=by
   intro w4 hB
   have HJ:=hB.env 0
   rw[BM]at HJ
   refine last (tm:=a3.tmps) (by simp) ⟨hB.heap,hB.tr,fun i=> ?_⟩ HJ (.inr rfl) DK
   have hs:=hB.env (i+1)
   rw[BN]at hs
   exact hs
  exact dv (P:=P) (k:=0) (fn:=fn) (R:=fZ M φ (hp o nx) w K X) (u:= .panicking [{v:=val,recovered:=false}]) (by simp) (ds:=[dd]) BO ms w3 g2 g4 Br
end
end Go.Proofs.YtbmnikpknlkbkaaGreat
