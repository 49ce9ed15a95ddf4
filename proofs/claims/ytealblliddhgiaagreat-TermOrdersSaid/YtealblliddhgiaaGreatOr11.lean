/-
  A PART OF THE PROOF (put together by program): several texts, one behind the other. Conditions: none.
-/
import Derived.Test.YtealblliddhgiaaGreatOr10
set_option linter.unusedSimpArgs false
set_option linter.unusedVariables false
namespace Go.Proofs.YtealblliddhgiaaGreat
section
variable {P : Program} {M : Nat → Prop} {φ : Place} {H : Hp} {w w' : World} {φ0 : Place} {H0 : Hp} {w0 : World} {n b : Nat} {s : S} {a : Act} {cx : Cx} {ro : Option Nat} {k : Nat}
theorem code_sound (hb : ∀ id, H0.us id → id < b) (hro : cx.rd = false → ro = none) : ∀ (c : Code) (Q : Xit → S → Prop) (s : S) (φ : Place) (a : Act) (w : World), codeW P n b cx.rd c Q s → SimC M φ0 H0 w0 n cx φ s a w → c.wpV P ro (PostC M φ0 H0 w0 n cx Q) a w := by
  intro c
  induction c with
  | skip => exact fun Q s φ a w h hs => wpV_in (k := 0) (wpIn_skip ⟨.normal, s, φ, h, hs, trivial⟩)
  | scope x ih => exact fun Q s φ a w h hs => wpV_scope (ih Q s φ a w h hs) (fun l a w ⟨xx, s', φ', hq, hs', hm⟩ => by cases xx <;> exact hm)
  | label l => exact fun Q s φ a w h hs => wpV_in (k := 0) (wpIn_label ⟨.normal, s, φ, h, hs, trivial⟩)
  | exit id => exact fun Q s φ a w h hs => wpV_exit ⟨.exit id, s, φ, h, hs, rfl⟩
  | ret => exact fun Q s φ a w h hs => wpV_ret ⟨.ret, s, φ, h, hs, trivial⟩
  | goto l => exact fun Q s φ a w h hs => h.elim
  | refuse y => exact fun Q s φ a w h hs => h.elim
  | rangeFunc g ps x y => exact fun Q s φ a w h hs => rng_sound hs h.1 (hro h.1) h.2
  | region id ops draw =>
    intro Q s φ a w h hs
    cases draw with
    | true => exact wpV_in (h M φ0 H0 w0 cx φ a w ro 0 hs)
    | false =>
      refine wpV_in (k := 0) (wpIn_region_list (regW_sound (K := Q .normal) (X := fun v s => Q (.pan v) s) (fun s φ a w hk hs => ⟨.normal, s, φ, hk, hs, trivial⟩) (fun v s φ a w val hx hs hd => ⟨.pan v, s, φ, hx, hs, val, rfl, hd⟩) _ s φ a w h hs))
  | seq x y ihx ihy =>
    intro Q s φ a w h hs
    refine wpV_seq (wpV_mono (ihx _ s φ a w h hs) ?_)
    rintro e a' w' ⟨xx, s', φ', hq, hs', hm⟩
    cases e <;> cases xx <;> first | (exact hm.elim) | skip
    · exact ihy Q s' φ' a' w' hq hs'
    · subst hm; exact ⟨_, s', φ', hq, hs', rfl⟩
    · exact ⟨.ret, s', φ', hq, hs', trivial⟩
    · exact ⟨.pan _, s', φ', hq, hs', hm⟩
  | cond c x y ihx ihy =>
    intro Q s φ a w h hs
    simp only [codeW] at h
    have hc := ev_den (M := M) (φ := φ) (H := s.H) (w := w) s a hs.env c
    split at h
    · rename_i t hv
      rw [hv] at hc
      simp only [V.den, D.den] at hc
      cases t with
      | true => exact wpV_cond hc (ihx Q s φ a w (h.1 rfl) hs)
      | false => exact wpV_cond hc (ihy Q s φ a w (h.2 rfl) hs)
    · rename_i hv
      rw [hv] at hc
      obtain ⟨t, hc⟩ := hc
      cases t with
      | true => exact wpV_cond hc (ihx Q s φ a w h.1 hs)
      | false => exact wpV_cond hc (ihy Q s φ a w h.2 hs)
    · exact h.elim
  | block id x ih =>
    intro Q s φ a w h hs
    refine wpV_block (wpV_mono (ih _ s φ a w h hs) ?_)
    rintro e a' w' ⟨xx, s', φ', hq, hs', hm⟩
    cases e <;> cases xx <;> first | (exact hm.elim) | skip
    · exact ⟨.normal, s', φ', hq, hs', trivial⟩
    · subst hm
      simp only [Exit.inBlock]
      simp only [blockQ] at hq
      split
      · rename_i he; rw [if_pos he] at hq; exact ⟨.normal, s', φ', hq, hs', trivial⟩
      · rename_i he; rw [if_neg he] at hq; exact ⟨.exit _, s', φ', hq, hs', rfl⟩
    · exact ⟨.ret, s', φ', hq, hs', trivial⟩
    · exact ⟨.pan _, s', φ', hq, hs', hm⟩
  | loop x ih =>
    intro Q s φ a w h hs
    obtain ⟨J, ⟨m0, s1, hle, hI⟩, hround⟩ := h
    obtain ⟨φ1, hs1⟩ := sim_le hb hs hle
    refine wp_loop_down (fun m a w => ∃ s φ, J m s ∧ SimC M φ0 H0 w0 n cx φ s a w) ?_ m0 a w ⟨s1, φ1, hI, hs1⟩
    rintro m a w ⟨s, φ, hI, hs⟩
    refine wpV_mono (ih _ s φ a w (hround m s hI) hs) ?_
    rintro e a' w' ⟨xx, s', φ', hq, hs', hm⟩
    cases e <;> cases xx <;> first | (exact hm.elim) | skip
    · obtain ⟨m2, s2, hlt, hle2, hI2⟩ := hq
      obtain ⟨φ2, hs2⟩ := sim_le hb hs' hle2
      exact ⟨m2, hlt, s2, φ2, hI2, hs2⟩
    · subst hm; exact ⟨_, s', φ', hq, hs', rfl⟩
    · exact ⟨.ret, s', φ', hq, hs', trivial⟩
    · exact ⟨.pan _, s', φ', hq, hs', hm⟩
def rget (tmps : Array Value) (r : ResultVar) : Sem Value :=
  match r with
  | .tmp t => pure (tmps.getD t undef)
  | .cell p t => do loadVar t (← asAddr (tmps.getD p undef))
theorem res_run (hheap : HeapOk M φ s.H w) (henv : ∀ i, V.den (mutB M φ s.H) φ s.H w (s.env i) (a.tmps.getD i undef)) : ∀ (rs : List ResultVar) (vs : List V), resV P s rs = some vs →
    ∃ vals, (rs.mapM (rget a.tmps)).run P w = .ok vals w ∧ V.dens (mutB M φ s.H) φ s.H w vs vals
  | [], vs, h => by simp [resV] at h; subst h; exact ⟨[], by simp, rfl⟩
  | .tmp t :: rs, vs, h => by
    simp only [resV, Option.map_eq_some_iff] at h
    obtain ⟨us, h1, rfl⟩ := h
    obtain ⟨vals, h2, h3⟩ := res_run hheap henv rs us h1
    exact ⟨a.tmps.getD t undef :: vals, by simp only [List.mapM_cons, rget, Sem.run_bind, Sem.run_pure, Result.andThen_ok, h2], _, _, rfl, henv t, h3⟩
  | .cell p t :: rs, vs, h => by
    simp only [resV] at h
    split at h
    · rename_i id off hv
      split at h
      · rename_i cs ho
        simp only [Option.bind_eq_some_iff, Option.map_eq_some_iff] at h
        obtain ⟨v, h0, us, h1, rfl⟩ := h
        obtain ⟨vals, h2, h3⟩ := res_run hheap henv rs us h1
        have hx := henv p
        rw [hv] at hx
        obtain ⟨_, hu, hp⟩ := hx
        obtain ⟨k, hφ, hval⟩ := hp (by show (s.o id).isRow = true; rw [ho]; rfl)
        have hok := hheap.ok id
        have ho' : s.H.o id = .row cs := ho
        simp only [ObjOk, ho'] at hok
        obtain ⟨b', carr, ty, g1, g2, g3, g4⟩ := hok
        rw [hφ] at g1; simp at g1; subst g1
        obtain ⟨val, h4, h5⟩ := load_row (P := P) h0 ⟨k, 0, none⟩ carr.toList g3 g4 (fun j u hj => row_cell g2 j u (by simpa using hj)) rfl
        rw [add_plain, Nat.zero_add] at h4
        have h6 : (loadVar t ⟨k, off, none⟩).run P w = .ok val w := by simpa [Instr.loadAt, Instr.sureAddr] using h4
        exact ⟨val :: vals, by simp only [List.mapM_cons, rget, hval, asAddr, Sem.run_bind, Sem.run_pure, Result.andThen_ok, h6, h2], val, vals, rfl, h5, h3⟩
      · cases h
    · cases h
theorem run_results {fn : Func} {tmps : Array Value} {vals : List Value}
    (h : (fn.results.toList.mapM (rget tmps)).run P w = .ok vals w) :
    (results fn tmps).run P w = .ok (if h : vals.toArray.size = 1 then vals.toArray[0] else .tuple vals.toArray) w := by
  have e : results fn tmps = (do let vs ← fn.results.mapM (rget tmps); pure (if h : vs.size = 1 then vs[0] else .tuple vs)) := by
    unfold results
    congr 2
  rw [e, Array.mapM_eq_mapM_toList]
  simp only [Sem.run_bind, Sem.run_map, h, Result.andThen_ok, Sem.run_pure]
theorem emptyHeap {us : Nat → Prop} (φ : Place) (hM : ∀ k, M k → k < w.heap.size) : HeapOk M φ ⟨fun _ => .no, us⟩ w where
  ok id := by simp [ObjOk]
  fresh _ _ := rfl
  apart i j k hi := by simp [Obj'.live] at hi
  ours k := by rintro ⟨id, h, _⟩; simp [Obj'.live] at h
  old := hM
theorem getD_args {vals : Array Value} {m i : Nat} : (vals ++ Array.replicate m undef).getD i undef = (vals[i]?).getD undef := by
  simp only [Array.getD_eq_getD_getElem?, Array.getElem?_append]
  split
  · rfl
  · rw [Array.getElem?_eq_none (xs := vals) (by omega)]
    simp only [Array.getElem?_replicate]
    split <;> rfl
structure SimB (M : Nat → Prop) (φ0 : Place) (H0 : Hp) (w0 : World) (φ : Place) (s : S) (tmps : Array Value) (w : World) : Prop where
  heap : HeapOk M φ s.H w
  tr : Trans φ0 H0 w0 φ s.H w
  env : ∀ i, V.den (mutB M φ s.H) φ s.H w (s.env i) (tmps.getD i undef)
theorem simB_shut {tmps : Array Value} (hs : SimB M φ0 H0 w0 φ s tmps w) {r : Nat} (h1 : w0.heap.size ≤ r) (h2 : w.heap[r]? = some (.deferred (some []))) (h3 : ¬ liveB φ s.H r) :
    SimB M φ0 H0 w0 φ s tmps { w with heap := w.heap.setIfInBounds r (.deferred none) } := by
  have hne : ∀ b, b ≠ r → (w.heap.setIfInBounds r (.deferred none))[b]? = w.heap[b]? := fun b hb => (MapKept.heap_set h2).2 b hb
  have hbl : ∀ b, Cellish w b → ¬ mutB M φ s.H b → (w.heap.setIfInBounds r (.deferred none))[b]? = w.heap[b]? ∧ ¬ mutB M φ s.H b := by
    intro b hc hn
    refine ⟨hne b fun e => ?_, hn⟩
    subst e
    rcases hc with ⟨cs, ty, fz, hc⟩ | ⟨es, clock, hc⟩
    · rw [h2] at hc; cases hc
    · rw [h2] at hc; cases hc
  refine ⟨⟨fun id => ?_, hs.heap.fresh, hs.heap.apart, fun b hb => ⟨(hs.heap.ours b hb).1, by simpa using (hs.heap.ours b hb).2⟩, fun b hb => by simpa using hs.heap.old b hb⟩, ⟨⟨hs.tr.keep.os, hs.tr.keep.tape, hs.tr.keep.output, by simpa using hs.tr.keep.size, fun j hj hm => ?_⟩, hs.tr.grow, hs.tr.rel⟩, fun i => V.den_mono' hbl (StepRel.refl _ _) _ _ (hs.env i)⟩
  · exact ObjOk.mono' hbl (StepRel.refl _ _) rfl rfl (fun hl b hb => hne b fun e => h3 ⟨id, hl, e ▸ hb⟩) (hs.heap.ok id)
  · rw [hne j (by omega)]; exact hs.tr.keep.block j hj hm
theorem leaves_marks {fn : Func} {R : Ending → World → Prop} {u : FrameMode} (hu : u ≠ .run) {tmps tb : Array Value} {ds : List Deferred} (hR : ∀ w, SimB M φ0 H0 w0 φ s tb w → LeavesInM (FWr none) k P fn tmps R ds u w) :
    ∀ (ms : List Nat) (w : World), ms.Nodup → (∀ r ∈ ms, w0.heap.size ≤ r ∧ w.heap[r]? = some (.deferred (some [])) ∧ ¬ liveB φ s.H r) → SimB M φ0 H0 w0 φ s tb w → LeavesInM (FWr none) k P fn tmps R (ms.map mark ++ ds) u w
  | [], w, _, _, hs => hR w hs
  | r :: ms, w, hn, hm, hs => by
    obtain ⟨h1, h2, h3⟩ := hm r (by simp)
    obtain ⟨hn1, hn2⟩ := List.nodup_cons.1 hn
    refine ⟨hu, .inl ⟨r, { w with heap := w.heap.setIfInBounds r (.deferred none) }, rfl, ?_, leaves_marks hu hR ms _ hn2 (fun r' hr' => ?_) (simB_shut hs h1 h2 h3)⟩⟩
    · simp [Instr.takeDeferred, getObj, setObj, Sem.run, h2, Result.andThen]
    · obtain ⟨g1, g2, g3⟩ := hm r' (by simp [hr'])
      exact ⟨g1, ((MapKept.heap_set h2).2 r' (fun e => hn1 (e ▸ hr'))).trans g2, g3⟩
theorem SimC.toB (hs : SimC M φ0 H0 w0 n cx φ s a w) : SimB M φ0 H0 w0 φ s a.tmps w := ⟨hs.heap, hs.tr, hs.env⟩
def endK (P : Program) (rs : List ResultVar) (K X : V → (Nat → Obj') → Nat → Prop) (e : Xit) (s : S) : Prop :=
  match e with
  | .normal | .ret => match resV P s rs with
    | some [v] => K v s.o s.nx
    | some vs => K (.tup vs) s.o s.nx
    | none => False
  | .pan v => X v s.o s.nx
  | .exit _ => False
theorem endK_ret {P : Program} {rs : List ResultVar} {K X : V → (Nat → Obj') → Nat → Prop} {s : S} (h : endK P rs K X .ret s) : ∃ vs, resV P s rs = some vs ∧ K (match vs with | [v] => v | vs => .tup vs) s.o s.nx := by
  unfold endK at h
  simp only at h
  split at h
  · rename_i v h1; exact ⟨[v], h1, h⟩
  · rename_i vs h1 h2
    refine ⟨vs, h2, ?_⟩
    split
    · exact absurd rfl (h1 _)
    · exact h
  · exact h.elim
theorem tupV_den : ∀ {vs : List V} {vals : List Value}, V.dens (mutB M φ H) φ H w vs vals → V.den (mutB M φ H) φ H w (match vs with | [v] => v | vs => .tup vs) (if h : vals.toArray.size = 1 then vals.toArray[0] else .tuple vals.toArray)
  | [], vals, h => by simp only [V.dens] at h; subst h; exact ⟨#[], rfl, rfl⟩
  | [v], vals, h => by obtain ⟨u, us, rfl, h1, h2⟩ := h; simp only [V.dens] at h2; subst h2; exact h1
  | v :: y :: l, vals, h => by
    have h' := h
    obtain ⟨u, us, rfl, h1, u2, us2, rfl, h2⟩ := h
    exact ⟨(u :: u2 :: us2).toArray, by simp, by simpa using h'⟩
theorem env_args {vals : Array Value} {m : Nat} {vs : List V} (hd : V.dens (mutB M φ H) φ H w vs vals.toList) (i : Nat) : V.den (mutB M φ H) φ H w (argsEnv vs i) ((vals ++ Array.replicate m undef).getD i undef) := by
  have hlen := V.dens_length _ _ hd
  simp only [argsEnv, getD_args]
  cases hx : vs[i]? with
  | none =>
    have : vals[i]? = none := by
      rw [List.getElem?_eq_none_iff] at hx
      apply Array.getElem?_eq_none
      simp at hlen; omega
    simp only [List.getD_eq_getElem?_getD, hx, this]
    exact ⟨#[], rfl, rfl⟩
  | some v =>
    obtain ⟨u, hu, hdu⟩ := V.dens_get _ _ _ _ hd hx
    have hu' : vals[i]? = some u := by simpa using hu
    simp only [List.getD_eq_getElem?_getD, hx, hu', Option.getD_some]
    exact hdu
theorem callsIn_of_wpV {f : FuncId} {fn : Func} {c : Code} {args : Array Value} {w : World} {R : Ending → World → Prop} (hf : P.funcs[f]? = some fn) (hb : fn.body = some c)
    (h : c.wpV P none (bodyPostM (FWr none) k P fn R) { tmps := args ++ Array.replicate (fn.ntmps - args.size) undef, defers := [] } w) : CallsIn (FWr none) k P f args w R := by
  have hlt : f < P.funcs.size := (Array.getElem?_eq_some_iff.1 hf).1
  refine ⟨trivial, fun cs hr => ?_⟩
  let b : Frame := { (default : Frame) with fn := f, kind := .normal, roundOf := none }
  have henter : Frame.enter P f args .normal = b.atR { tmps := args ++ Array.replicate (fn.ntmps - args.size) undef, defers := [] } [.code c] := by
    simp [Frame.enter, Frame.atR, hf, hb, b]
  obtain ⟨e, a', w', hq, harr⟩ := h b [] cs rfl hlt
  rw [← henter] at harr
  cases e with
  | normal =>
    obtain ⟨e', w'', fr', hR, hs, hfn, hl⟩ := leaves_stepsInM a'.defers .returning w' { b.atR a' [] with mode := .returning } cs rfl rfl rfl hf rfl (trivial : (FWr none).fn f) hr hq
    exact ⟨e', w'', fr', hR, ComesIn.of_steps (StepsIn.trans harr (.one (fenced_calm (n := 0) (fr := b.atR a' []) trivial fw_room rfl) (stepR_end rfl))) hs, hfn, hl⟩
  | ret =>
    obtain ⟨todo, hs₀⟩ := harr.1 rfl
    obtain ⟨e', w'', fr', hR, hs, hfn, hl⟩ := leaves_stepsInM a'.defers .returning w' { b.atR a' todo with mode := .returning } cs rfl rfl rfl hf rfl (trivial : (FWr none).fn f) hr hq
    exact ⟨e', w'', fr', hR, ComesIn.of_steps hs₀ hs, hfn, hl⟩
  | panic chain =>
    obtain ⟨todo, hs₀⟩ := harr
    obtain ⟨e', w'', fr', hR, hs, hfn, hl⟩ := leaves_stepsInM a'.defers (.panicking chain) w' { b.atR a' todo with mode := .panicking chain } cs rfl rfl rfl hf rfl (trivial : (FWr none).fn f) hr hq
    exact ⟨e', w'', fr', hR, ComesIn.of_steps hs₀ hs, hfn, hl⟩
  | exit id => exact hq.elim
  | goto l => exact hq.elim
  | outgrown => exact ⟨.outgrown, w', b, hq, harr.resolve_left (by simp [b]), rfl, trivial⟩
def roundPostV (P : Program) (l : Nat) (R : Ending → World → Prop) : Exit → Act → World → Prop
  | .normal, _, w => ∃ v w', (Instr.endRound l none).run P w = .ok v w' ∧ R (.returned v) w'
  | .ret, _, w => ∃ v w', (Instr.endRound l (some .ret)).run P w = .ok v w' ∧ R (.returned v) w'
  | .exit id, _, w => ∃ v w', (Instr.endRound l (some (.exit id))).run P w = .ok v w' ∧ R (.returned v) w'
  | .goto _, _, _ => False
  | .panic chain, a, w => a.defers = [] ∧ R (.panicked chain) w
  | .outgrown, _, _ => False
theorem roundIn_of_wpV {l : Nat} {f : FuncId} {tmps : Array Value} {assign body : Code} {w : World} {R : Ending → World → Prop} (hf : f < P.funcs.size)
    (h : assign.wpV P (some l) (Exit.then (fun a₁ w₁ => ∃ w₂, (Instr.beginRound l).run P w₁ = .ok () w₂ ∧ body.wpV P (some l) (roundPostV P l R) a₁ w₂) (fun e a w => match e with | .panic chain => a.defers = [] ∧ R (.panicked chain) w | _ => False))
      { tmps := tmps, defers := [] } w) :
    RoundIn Fence.wide n P l f tmps assign body w R := by
  refine ⟨trivial, fun c cs hr => ?_⟩
  let b : Frame := { (default : Frame) with fn := f, kind := .normal, roundOf := some l }
  have hb0 : Frame.round l f tmps assign body .normal = b.atR { tmps := tmps, defers := [] } [.code assign, .beginRound, .code body] := by
    simp [Frame.round, Frame.atR, b]
  have calm : ∀ (m : Machine), m.fenced P Fence.wide := fun m => fenced_wide P m
  have pan : ∀ {a : Act} {w : World} {todo : List Item} {chain : List PanicEntry}, a.defers = [] → step P (lone { b.atR a todo with mode := .panicking chain } (c :: cs) w) = .next (lone (c.raise chain) cs w) := by
    intro a w todo chain hd
    exact step_leave_panicked (fr := { b.atR a todo with mode := .panicking chain }) ⟨rfl, hd, P.funcs[f], by show P.funcs[f]? = _; simp [hf]⟩
  obtain ⟨e, a₁, w₁, hq, harr⟩ := h b [.beginRound, .code body] (c :: cs) rfl hf
  rw [← hb0] at harr
  cases e with
  | normal =>
    obtain ⟨w₂, hbr, hbody⟩ := hq
    have s1 : StepsIn (Machine.fenced P Fence.wide) P (lone (b.atR a₁ [.beginRound, .code body]) (c :: cs) w₁) (lone (b.atR a₁ [.code body]) (c :: cs) w₂) := .one (calm _) (stepR_beginRound rfl hbr)
    obtain ⟨e₂, a₂, w₃, hq₂, harr₂⟩ := hbody b [] (c :: cs) rfl hf
    have harr : StepsIn (Machine.fenced P Fence.wide) P _ _ := harr
    cases e₂ with
    | normal =>
      obtain ⟨v, w₄, hend, hR⟩ := hq₂
      have harr₂ : StepsIn (Machine.fenced P Fence.wide) P _ _ := harr₂
      exact ⟨.returned v, w₄, hR, (StepsIn.trans harr s1).trans (StepsIn.trans harr₂ (.one (calm _) (stepR_round_end rfl rfl hend)))⟩
    | ret =>
      obtain ⟨v, w₄, hend, hR⟩ := hq₂
      obtain ⟨k₁, hs⟩ := harr₂.2 rfl
      have hs : StepsIn (Machine.fenced P Fence.wide) P _ _ := hs
      exact ⟨.returned v, w₄, hR, (StepsIn.trans harr s1).trans (StepsIn.trans hs (.one (calm _) (stepR_round_ret rfl rfl hend)))⟩
    | exit id =>
      obtain ⟨v, w₄, hend, hR⟩ := hq₂
      obtain ⟨k₁, hk, hs⟩ := harr₂.2 rfl rfl
      have hs : StepsIn (Machine.fenced P Fence.wide) P _ _ := hs
      exact ⟨.returned v, w₄, hR, (StepsIn.trans harr s1).trans (StepsIn.trans hs (.one (calm _) (stepR_round_exit rfl rfl hk hend)))⟩
    | goto t => exact hq₂.elim
    | panic chain =>
      obtain ⟨todo, hs⟩ := harr₂
      have hs : StepsIn (Machine.fenced P Fence.wide) P _ _ := hs
      exact ⟨.panicked chain, w₃, hq₂.2, (StepsIn.trans harr s1).trans (StepsIn.trans hs (.one (calm _) (pan hq₂.1)))⟩
    | outgrown => exact hq₂.elim
  | exit id => exact hq.elim
  | goto t => exact hq.elim
  | ret => exact hq.elim
  | panic chain =>
    obtain ⟨todo, hs⟩ := harr
    have hs : StepsIn (Machine.fenced P Fence.wide) P _ _ := hs
    exact ⟨.panicked chain, w₁, hq.2, StepsIn.trans hs (.one (calm _) (pan hq.1))⟩
  | outgrown => exact hq.elim
theorem CtK.of_code {f : FuncId} {fn : Func} {c : Code} {args : List V} {o : Nat → Obj'} {nx : Nat} {K X : V → (Nat → Obj') → Nat → Prop} (hf : P.funcs[f]? = some fn) (hn : (fn.name == "runtime.NumGoroutine") = false) (hbody : fn.body = some c) (hl : args.length ≤ fn.ntmps)
    (h : codeW P fn.ntmps nx false c (endK P fn.results.toList K X) ⟨argsEnv args, o, nx⟩) : CtK P f args o nx K X := by
  refine ⟨⟨fn, hf, hn, by rw [hbody]; rfl⟩, fun M φ w vals hH hd => ?_⟩
  have hlen := V.dens_length _ _ hd
  let s0 : S := ⟨argsEnv args, o, nx⟩
  let a0 : Act := { tmps := vals ++ Array.replicate (fn.ntmps - vals.size) undef, defers := [] }
  have hs0 : SimC M φ (hp o nx) w fn.ntmps ⟨[], false⟩ φ s0 a0 w := by
    refine ⟨hH, Trans.refl _ _ _, ?_, ⟨[], rfl, List.nodup_nil, fun _ => rfl, fun r hr => by cases hr⟩, env_args hd⟩
    simp only [a0, Array.size_append, Array.size_replicate]; simp at hlen; omega
  refine calls_fw (ro := none) (k := 0) (callsIn_of_wpV hf hbody (wpV_mono (code_sound (P := P) (H0 := hp o nx) (b := nx) (cx := ⟨[], false⟩) (ro := none) (fun id hu => hu) (fun _ => rfl) c _ s0 φ a0 w h hs0) ?_))
  rintro e a w' ⟨x, s, φ', hq, hs, hm⟩
  obtain ⟨ms, g1, g2, g3, g4⟩ := hs.defers
  rw [List.append_nil] at g1
  have done : (x = .normal ∨ x = .ret) → LeavesInM (FWr none) 0 P fn a.tmps (EndK M φ (hp o nx) w K X) a.defers .returning w' := by
    intro hx
    have hq' : endK P fn.results.toList K X .ret s := by rcases hx with rfl | rfl <;> exact hq
    obtain ⟨vs, h1, h2⟩ := endK_ret hq'
    rw [g1]
    have := leaves_marks (P := P) (k := 0) (fn := fn) (R := EndK M φ (hp o nx) w K X) (u := .returning) (by simp) (ds := []) (fun w2 hb => by
      obtain ⟨vals, h3, h4⟩ := res_run (P := P) (a := a) hb.heap hb.env _ _ h1
      exact ⟨_, run_results h3, φ', s.o, s.nx, _, hb.heap, hb.tr, tupV_den h4, h2⟩) ms w' g2 g4 hs.toB
    rwa [List.append_nil] at this
  cases e <;> cases x <;> first | (exact hm.elim) | skip
  · exact done (.inl rfl)
  · exact hq.elim
  · exact done (.inr rfl)
  · rename_i v
    obtain ⟨val, rfl, hd'⟩ := hm
    show LeavesInM (FWr none) 0 P fn a.tmps (EndK M φ (hp o nx) w K X) a.defers _ w'
    rw [g1]
    have hb0 : SimB M φ (hp o nx) w φ' ⟨fun i => if i = 0 then v else .junk, s.o, s.nx⟩ #[val] w' := ⟨hs.heap, hs.tr, fun i => by
      by_cases hi : i = 0
      · subst hi; exact hd'
      · simp only [hi, if_false]; trivial⟩
    have := leaves_marks (P := P) (k := 0) (fn := fn) (s := ⟨fun i => if i = 0 then v else .junk, s.o, s.nx⟩) (tmps := a.tmps) (tb := #[val]) (φ0 := φ) (H0 := hp o nx) (w0 := w) (R := EndK M φ (hp o nx) w K X) (u := .panicking [{ v := val, recovered := false }]) (by simp) (ds := []) (fun w2 hb => by
      have h0 := hb.env 0
      exact ⟨φ', s.o, s.nx, v, hb.heap, hb.tr, val, rfl, h0, hq⟩) ms w' g2 g4 hb0
    rwa [List.append_nil] at this
theorem PCt.of_ctk {f : FuncId} {ds : List D} {out : R} (h : CtK P f (ds.map .d) (fun _ => .no) 0 (fun v o _ => ∃ vs rs, v = (match vs with | [v] => v | vs => .tup vs) ∧ toDs o vs = some rs ∧ out = .ret rs) (fun v o _ => ∃ x, toD o v = some x ∧ out = .pan x)) : PCt P f ds out := by
  refine ⟨h.1, fun M w vals hM hd => ?_⟩
  let φ0 : Place := fun _ => .nilFunc
  have hnl : ∀ b, ¬ liveB φ0 (hp (fun _ => .no) 0) b := by rintro b ⟨id, hl, _⟩; simp [hp, Obj'.live] at hl
  refine (h.2 M φ0 w vals (emptyHeap φ0 hM) ((V.dens_map_d _ _).2 (D.dens_mono (w := w) (w' := w) (B := M) (fun b _ hB => ⟨rfl, fun h => h.elim hB (hnl b)⟩) _ _ hd))).mono ?_
  rintro e w' ⟨φ', o', nx', v, k1, k2, k3⟩
  have hkeep : Keep (fun _ => False) w w' := ⟨k2.keep.os, k2.keep.tape, k2.keep.output, k2.keep.size, fun k hk _ => k2.keep.block k hk (hnl k)⟩
  have fin : ∀ (vs : List V) (xs : List D) (vals : List Value), toDs o' vs = some xs → V.dens (mutB M φ' (hp o' nx')) φ' (hp o' nx') w' vs vals → D.dens M w' xs vals := by
    intro vs xs vals h1 h2
    obtain ⟨f1, f2, f3, f4, f5⟩ := freezes k1 (V.idss vs) (idss_used vs _ h2)
    have h3 := toDs_den f1 vs xs vals f3 h1 (V.dens_mono f2 _ _ h2)
    exact D.dens_mono (w := w') (w' := w') (fun k _ hB => ⟨rfl, fun hM => hB (.inl hM)⟩) xs vals h3
  refine ⟨hkeep, ?_⟩
  cases e with
  | outgrown => exact k3.elim
  | panicked ch =>
    obtain ⟨val, rfl, g1, x, g2, rfl⟩ := k3
    have := fin [v] [x] [val] (by simp [toDs, g2]) ⟨val, [], rfl, g1, rfl⟩
    obtain ⟨u, us, he, h2, _⟩ := this
    simp at he; obtain ⟨rfl, rfl⟩ := he
    exact ⟨val, rfl, h2⟩
  | returned val =>
    obtain ⟨g1, vs, rs, rfl, g2, rfl⟩ := k3
    match vs, g1, g2 with
    | [], g1, g2 =>
      obtain ⟨arr, rfl, hv⟩ := g1
      simp only [toDs, Option.some.injEq] at g2; subst g2
      exact ⟨arr, rfl, hv⟩
    | [v], g1, g2 =>
      have := fin [v] rs [val] g2 ⟨val, [], rfl, g1, rfl⟩
      cases rs with
      | nil => cases this
      | cons x l =>
        obtain ⟨u, us, he, h2, h3⟩ := this
        simp at he; obtain ⟨rfl, rfl⟩ := he
        cases l with
        | nil => exact h2
        | cons y l => obtain ⟨_, _, h, _⟩ := h3; cases h
    | v :: v2 :: l, g1, g2 =>
      obtain ⟨arr, rfl, h⟩ := g1
      have := fin (v :: v2 :: l) rs arr.toList g2 h
      have hl := D.dens_length _ _ this
      have hl2 := V.dens_length _ _ h
      match rs, hl, this with
      | [], hl, _ => rw [hl2] at hl; simp at hl
      | [x], hl, _ => rw [hl2] at hl; simp at hl
      | x :: y :: l, _, this => exact ⟨arr, rfl, this⟩
theorem endW_endK {rs : List ResultVar} {out : R} (e : Xit) (s : S) (h : endW P rs out e s) :
    endK P rs (fun v o _ => ∃ vs rs, v = (match vs with | [v] => v | vs => .tup vs) ∧ toDs o vs = some rs ∧ out = .ret rs) (fun v o _ => ∃ x, toD o v = some x ∧ out = .pan x) e s := by
  have ret : endW P rs out .ret s → endK P rs (fun v o _ => ∃ vs rs, v = (match vs with | [v] => v | vs => .tup vs) ∧ toDs o vs = some rs ∧ out = .ret rs) (fun v o _ => ∃ x, toD o v = some x ∧ out = .pan x) .ret s := by
    intro h
    obtain ⟨vs, xs, h1, h2, h3⟩ := endW_ret h
    simp only [endK, h1]
    match vs, h2 with
    | [], h2 => exact ⟨[], xs, rfl, h2, h3⟩
    | [v], h2 => exact ⟨[v], xs, rfl, h2, h3⟩
    | v :: v2 :: l, h2 => exact ⟨v :: v2 :: l, xs, rfl, h2, h3⟩
  cases e with
  | normal => exact ret h
  | ret => exact ret h
  | exit id => exact h.elim
  | pan v => exact endW_pan h
end
end Go.Proofs.YtealblliddhgiaaGreat
