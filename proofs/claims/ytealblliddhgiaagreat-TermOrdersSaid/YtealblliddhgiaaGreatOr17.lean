/-
  A PART OF THE PROOF (put together by program): several texts, one behind the other. Conditions: none.
-/
import Derived.Test.YtealblliddhgiaaGreatOr16
set_option linter.unusedSimpArgs false
set_option linter.unusedVariables false
namespace Go.Proofs.YtealblliddhgiaaGreat
def setP (env : Nat → V) : List Nat → List V → Nat → V
  | t :: ps, v :: vs => setP (upd env t v) ps vs
  | _, _ => env
def tailOk (pr : List (List Nat)) (m : Nat) : Bool := (List.range pr.length).all fun k => Nat.blt k m || Nat.beq ((masks pr []).getD k 0) (2 ^ k - 1)
def splitI (P : Program) (l : List IOp) (pr : List (List Nat)) (Q : Xit → S → Prop) (s : S) : Prop :=
  ∃ m, m ≤ l.length ∧ tailOk pr m = true ∧ regD P (fun s' fp => objsOk pr fp = true ∧ regI P (fun v s => Q (.pan v) s) (Q .normal) (l.drop m) ⟨s'.env, s'.o, s.nx + m⟩) (fun _ _ _ => False) pr (l.take m) s.nx s []
def icW (P : Program) (n b : Nat) (rd : Bool) : IC → (Xit → S → Prop) → S → Prop
  | .skip, Q, s => Q .normal s
  | .reg l, Q, s => regI P (fun v s => Q (.pan v) s) (Q .normal) l s
  | .drw l pr, Q, s => regD P (endD pr (s.nx + l.length) Q) (endP pr l s Q) pr l s.nx s [] ∨ splitI P l pr Q s
  | .seq x y, Q, s => icW P n b rd x (thenQ (icW P n b rd y Q) Q) s
  | .cond c x y, Q, s => match s.ev c with
    | .d (.bool t) => condI t (icW P n b rd x Q s) (icW P n b rd y Q s)
    | .anyb => icW P n b rd x Q s ∧ icW P n b rd y Q s
    | _ => False
  | .block id x, Q, s => icW P n b rd x (blockQ id Q) s
  | .loop x, Q, s => loopI b (icW P n b rd x) Q s
  | .exit id, Q, s => Q (.exit id) s
  | .ret, Q, s => Q .ret s
  | .rng g ps x y, Q, s => rd = false ∧ rngW P n (s.ev g) ps x y Q s
  | .bad, _, _ => False
section
variable {P : Program} {n b : Nat} {rd : Bool}
theorem foldA_succ : ∀ (l : List IOp) (asz : List ActR) (s : S) (k : Nat) (o : IOp) (x : ActR), l[k]? = some o → asz[k]? = some x → foldA l asz s (k + 1) = apA o.dst x (foldA l asz s k)
  | [], _, _, _, _, _, h, _ => by simp at h
  | o :: l, [], _, _, _, _, _, h => by simp at h
  | o :: l, x :: xs, s, 0, o', x', h, h' => by simp at h h'; subst h; subst h'; cases l <;> cases xs <;> rfl
  | o :: l, x :: xs, s, k + 1, o', x', h, h' => by
    simp only [foldA]
    exact foldA_succ l xs _ k o' x' (by simpa using h) (by simpa using h')
theorem stF_foldA (l : List IOp) (asz : List ActR) (s : S) (hl : asz.length = l.length) : ∀ k, k ≤ l.length → stF (ocOf l) (fun i => asz.getD i default) (fun _ => true) s k = foldA l asz s k := by
  intro k
  induction k with
  | zero => intro _; cases l <;> cases asz <;> rfl
  | succ k ih =>
    intro hk
    have h1 : l[k]? = some (ocOf l k) := by simp [ocOf, List.getD_eq_getElem?_getD, List.getElem?_eq_getElem (by omega : k < l.length)]
    have h2 : asz[k]? = some (asz.getD k default) := by simp [List.getD_eq_getElem?_getD, List.getElem?_eq_getElem (by omega : k < asz.length)]
    simp only [stF, if_true, ih (by omega)]
    rw [foldA_succ l asz s k _ _ h1 h2]
theorem lowL_length {ops : Array Oper} : ∀ (l : List Oper) (l' : List IOp), lowL n ops l = some l' → l'.length = l.length
  | [], _, h => by simp [lowL] at h; subst h; rfl
  | o :: l, l', h => by
    simp only [lowL] at h
    split at h
    · rename_i hx; injection h with h; subst h; simp [lowL_length l _ hx]
    · cases h
theorem draw_code (hmix : P.follows .mixedOrders = true) {id : Nat} {ops : Array Oper} {l : List IOp} {Q Q' : Xit → S → Prop} {s : S} (hQ : ∀ e s, Q e s → Q' e s) (hlow : lowL n ops ops.toList = some l) (ht : tmpsOkB l (prOf ops) = true)
    (hp : prOk (prOf ops) = true) (h : regD P (endD (prOf ops) (s.nx + l.length) Q) (endP (prOf ops) l s Q) (prOf ops) l s.nx s []) : codeW P n b rd (.region id ops true) Q' s := by
  intro M φ0 H0 w0 cx φ a w ro k hs
  obtain ⟨asz, hl, hok, hfin⟩ := regD_lex l _ _ _ h
  have hlen : l.length = ops.size := by rw [lowL_length _ _ hlow]; simp
  have hpr : ∀ k, k < ops.size → (prOf ops).getD k [] = predsOf ops k := by
    intro k hk; simp [prOf, List.getD_eq_getElem?_getD, List.getElem?_map, List.getElem?_range hk]
  have hpl : (prOf ops).length = ops.size := by simp [prOf]
  have hst := stF_foldA l asz s hl
  have hoc : ∀ k, k < ops.size → l[k]? = some (ocOf l k) := fun k hk => by simp [ocOf, List.getD_eq_getElem?_getD, List.getElem?_eq_getElem (by omega : k < l.length)]
  have hac : ∀ k, k < ops.size → asz[k]? = some (asz.getD k default) := fun k hk => by simp [List.getD_eq_getElem?_getD, List.getElem?_eq_getElem (by omega : k < asz.length)]
  have hmem : ∀ k, k < ops.size → asz.getD k default ∈ asz := fun k hk => List.mem_of_getElem? (hac k hk)
  have hfp : ∀ k, k < ops.size → (fps asz)[k]? = some (actR (asz.getD k default), actW (asz.getD k default)) := fun k hk => by
    simp only [fps, List.getElem?_map, hac k hk, Option.map_some]
  have hfpl : (fps asz).length = ops.size := by simp [fps, hl, hlen]
  simp only [List.nil_append, List.length_nil, Nat.zero_add] at hfin
  have hobj : objsOk (prOf ops) (fps asz) = true := by
    rcases hfin with ⟨_, h⟩ | ⟨v, wl, _, _, _, h, _⟩
    · exact h.1
    · exact h.1
  have hprl : ∀ k, k < ops.size → ∀ j ∈ predsOf ops k, j < k := fun k hk j hj => by
    have := List.all_eq_true.1 hp k (by simpa [hpl] using hk)
    rw [hpr k hk] at this
    simpa using List.all_eq_true.1 this j hj
  have hpr0 : ∀ k, k < (prOf ops).length → ∀ j ∈ (prOf ops).getD k [], j < k := fun k hk j hj => by
    rw [hpl] at hk; rw [hpr k hk] at hj; exact hprl k hk j hj
  let po : Nat → Nat → Prop := fun k j => ((masks (prOf ops) []).getD k 0).testBit j = true
  have hpo : ∀ E : Nat → Bool, (∀ k, k < ops.size → E k = true → ∀ j ∈ predsOf ops k, E j = true) → ∀ k, k < ops.size → (∀ j ∈ predsOf ops k, E j = true) → ∀ j, po k j → E j = true := fun E hE k hk hj j hb =>
    masks_closed hpr0 (fun k hk hek j hj => by rw [hpl] at hk; rw [hpr k hk] at hj; exact hE k hk hek j hj) k (by rw [hpl]; exact hk) (by rw [hpr k hk]; exact hj) j hb
  have hpo2 : ∀ k, k < ops.size → ∀ j, po k j → j < k := fun k hk j hb => masks_lt hpr0 k (by rw [hpl]; exact hk) j hb
  have compat : ∀ i j, i < j → j < ops.size → ¬ po j i → Compat (ocOf l) (fun i => asz.getD i default) (fun i => actR (asz.getD i default)) i j := by
    intro i j hij hj hn
    have ht' := List.all_eq_true.1 (List.all_eq_true.1 ht j (by simpa [hlen] using hj)) i (by simpa using hij)
    have ho' := List.all_eq_true.1 (List.all_eq_true.1 hobj j (by simpa [hfpl] using hj)) i (by simpa using hij)
    have hnc : ((masks (prOf ops) []).getD j 0).testBit i = false := by simpa [po] using hn
    rw [hnc, Bool.false_or] at ht' ho'
    simp only [Bool.and_eq_true] at ht' ho'
    have gi := hfp i (by omega)
    have gj := hfp j hj
    simp only [List.getD_eq_getElem?_getD (l := fps asz), gi, gj, Option.getD_some] at ho'
    have dj : ∀ {xs ys : List Nat}, disj xs ys = true → ∀ x ∈ xs, x ∉ ys := fun h x hx => by simpa using List.all_eq_true.1 h x hx
    have fo : ∀ {x y : IOp}, freeOf x y = true → ∀ d, x.dst = some d → d ∉ touches y := fun h d hd => by simpa [freeOf, hd] using h
    exact ⟨fo ht'.1, fo ht'.2, fun id hid => ⟨dj ho'.1.1 id hid, dj ho'.1.2 id hid⟩, fun id hid => dj ho'.2 id hid⟩
  have hlexA : ∀ i, i < ops.size → OkA P (stF (ocOf l) (fun i => asz.getD i default) (fun _ => true) s i) (s.nx + i) (ocOf l i) (asz.getD i default) := fun i hi => by
    rw [hst i (by omega)]; exact hok i _ _ (hoc i hi) (hac i hi)
  have hdst : ∀ i, i < ops.size → ∀ t, (ocOf l i).dst = some t → (dstsOf l).contains t = true := fun i hi t ht => by
    simp only [List.contains_iff_mem, dstsOf, List.mem_filterMap]
    exact ⟨ocOf l i, List.mem_of_getElem? (hoc i hi), ht⟩
  rcases hfin with ⟨hall, hfin⟩ | ⟨v, wl, q1, q2, q3, q4, q5, q6⟩
  · refine draw_any (ac := fun i => asz.getD i default) (dl := dstsOf l) (wl := (asz.flatMap actW)) hmix hlow hprl hs hlexA (fun i hi hb => ?_) hpo hpo2 compat hdst (fun i hi id hid => ?_) (fun i v ws rd' hi hb => ?_) (fun _ φ a w hs' => ?_) (fun i v ws rd' hi hb => ?_)
    · have := hall _ (hmem i hi); rw [hb] at this; cases this
    · simp only [List.contains_iff_mem, List.mem_flatMap]; exact ⟨_, hmem i hi, hid⟩
    · have := hall _ (hmem i hi); rw [hb] at this; cases this
    · rw [hst ops.size (by omega), ← hlen] at hs'
      exact ⟨.normal, _, φ, hQ _ _ hfin.2, hs', trivial⟩
    · have := hall _ (hmem i hi); rw [hb] at this; cases this
  · refine draw_any (ac := fun i => asz.getD i default) (dl := dstsOf l) (wl := wl) hmix hlow hprl hs hlexA (fun i hi hb => ?_) hpo hpo2 compat hdst (fun i hi id hid => ?_) (fun i v' ws rd' hi hb => ?_) (fun hall φ a w hs' => ?_) (fun i v' ws rd' hi hb φ a w val hs' hd => ?_)
    · obtain ⟨j, j1, j', e, y, j3, j4⟩ := q3 i (by rw [hac i hi]; exact congrArg some hb)
      rw [hpr i hi, e] at j1
      refine ⟨j', j1, ?_⟩
      simp only [List.getD_eq_getElem?_getD, j3, Option.getD_some, j4]
    · simp only [List.contains_iff_mem]; exact q5 _ (hmem i hi) id hid
    · intro id hid
      simp only [List.contains_iff_mem]
      exact (q1 i v' ws rd' (by rw [hac i hi]; exact congrArg some hb)).2 id hid
    · obtain ⟨x, x1, x2⟩ := q2
      obtain ⟨i, hi1, hi2⟩ := List.getElem_of_mem x1
      have hi : i < ops.size := by omega
      have := hall i hi
      have e : asz.getD i default = x := by simp [List.getD_eq_getElem?_getD, List.getElem?_eq_getElem hi1, hi2]
      rw [e, x2] at this; cases this
    · have e := (q1 i v' ws rd' (by rw [hac i hi]; exact congrArg some hb)).1
      subst e
      rw [← hlen] at hs' hd
      exact ⟨.pan v', _, φ, hQ _ _ q4.2, hs', val, rfl, hd⟩
theorem lowL_drop {ops : Array Oper} : ∀ (l : List Oper) (l' : List IOp) (m : Nat), lowL n ops l = some l' → lowL n ops (l.drop m) = some (l'.drop m)
  | l, l', 0, h => h
  | [], l', m + 1, h => by simp [lowL] at h; subst h; simp [lowL]
  | o :: l, l', m + 1, h => by
    simp only [lowL] at h
    split at h
    · rename_i x xs hx hxs
      injection h with h; subst h
      exact lowL_drop l xs m hxs
    · cases h
theorem stF_take {l : List IOp} {ac : Nat → ActR} {E : Nat → Bool} {s : S} {m : Nat} : ∀ k, k ≤ m → stF (ocOf l) ac E s k = stF (ocOf (l.take m)) ac E s k := by
  intro k
  induction k with
  | zero => intro _; rfl
  | succ k ih =>
    intro hk
    have : ocOf l k = ocOf (l.take m) k := by simp [ocOf, List.getD_eq_getElem?_getD, List.getElem?_take, (by omega : k < m)]
    simp only [stF, ih (by omega), this]
theorem draw_code2 (hmix : P.follows .mixedOrders = true) {id : Nat} {ops : Array Oper} {l : List IOp} {Q Q' : Xit → S → Prop} {s : S} (hQ : ∀ e s, Q e s → Q' e s) (hlow : lowL n ops ops.toList = some l) (ht : tmpsOkB l (prOf ops) = true)
    (hp : prOk (prOf ops) = true) (h : splitI P l (prOf ops) Q s) : codeW P n b rd (.region id ops true) Q' s := by
  intro M φ0 H0 w0 cx φ a w ro k hs
  obtain ⟨m, hml, hto, h⟩ := h
  obtain ⟨asz, hl, hok, hfin⟩ := regD_lex (l.take m) _ _ _ h
  have hlm : (l.take m).length = m := by rw [List.length_take]; omega
  have hlen : l.length = ops.size := by rw [lowL_length _ _ hlow]; simp
  have hfin := hfin.resolve_right (fun ⟨_, _, _, _, _, q4, _, _⟩ => q4)
  obtain ⟨hall, hfin⟩ := hfin
  have hal : asz.length = m := by omega
  have hpr : ∀ k, k < ops.size → (prOf ops).getD k [] = predsOf ops k := by
    intro k hk; simp [prOf, List.getD_eq_getElem?_getD, List.getElem?_map, List.getElem?_range hk]
  have hpl : (prOf ops).length = ops.size := by simp [prOf]
  have hst : ∀ k, k ≤ m → stF (ocOf l) (fun i => asz.getD i default) (fun _ => true) s k = foldA (l.take m) asz s k := fun k hk => by
    rw [stF_take k hk]; exact stF_foldA (l.take m) asz s hl k (by omega)
  have hoc : ∀ k, k < m → (l.take m)[k]? = some (ocOf l k) := fun k hk => by
    rw [List.getElem?_take, if_pos hk]
    simp [ocOf, List.getD_eq_getElem?_getD, List.getElem?_eq_getElem (by omega : k < l.length)]
  have hac : ∀ k, k < m → asz[k]? = some (asz.getD k default) := fun k hk => by simp [List.getD_eq_getElem?_getD, List.getElem?_eq_getElem (by omega : k < asz.length)]
  have hmem : ∀ k, k < m → asz.getD k default ∈ asz := fun k hk => List.mem_of_getElem? (hac k hk)
  have hfp : ∀ k, k < m → (fps asz)[k]? = some (actR (asz.getD k default), actW (asz.getD k default)) := fun k hk => by
    simp only [fps, List.getElem?_map, hac k hk, Option.map_some]
  have hfpl : (fps asz).length = m := by simp [fps, hal]
  simp only [List.nil_append] at hfin
  obtain ⟨hobj, hreg⟩ := hfin
  have hprl : ∀ k, k < ops.size → ∀ j ∈ predsOf ops k, j < k := fun k hk j hj => by
    have := List.all_eq_true.1 hp k (by simpa [hpl] using hk)
    rw [hpr k hk] at this
    simpa using List.all_eq_true.1 this j hj
  have hpr0 : ∀ k, k < (prOf ops).length → ∀ j ∈ (prOf ops).getD k [], j < k := fun k hk j hj => by
    rw [hpl] at hk; rw [hpr k hk] at hj; exact hprl k hk j hj
  let po : Nat → Nat → Prop := fun k j => ((masks (prOf ops) []).getD k 0).testBit j = true
  have hpo : ∀ E : Nat → Bool, (∀ k, k < ops.size → E k = true → ∀ j ∈ predsOf ops k, E j = true) → ∀ k, k < ops.size → (∀ j ∈ predsOf ops k, E j = true) → ∀ j, po k j → E j = true := fun E hE k hk hj j hb =>
    masks_closed hpr0 (fun k hk hek j hj => by rw [hpl] at hk; rw [hpr k hk] at hj; exact hE k hk hek j hj) k (by rw [hpl]; exact hk) (by rw [hpr k hk]; exact hj) j hb
  have hpo2 : ∀ k, k < ops.size → ∀ j, po k j → j < k := fun k hk j hb => masks_lt hpr0 k (by rw [hpl]; exact hk) j hb
  have compat : ∀ i j, i < j → j < m → ¬ po j i → Compat (ocOf l) (fun i => asz.getD i default) (fun i => actR (asz.getD i default)) i j := by
    intro i j hij hj hn
    have ht' := List.all_eq_true.1 (List.all_eq_true.1 ht j (by simp; omega)) i (by simpa using hij)
    have ho' := List.all_eq_true.1 (List.all_eq_true.1 hobj j (by simpa [hfpl] using hj)) i (by simpa using hij)
    have hnc : ((masks (prOf ops) []).getD j 0).testBit i = false := by simpa [po] using hn
    rw [hnc, Bool.false_or] at ht' ho'
    simp only [Bool.and_eq_true] at ht' ho'
    have gi := hfp i (by omega)
    have gj := hfp j hj
    simp only [List.getD_eq_getElem?_getD (l := fps asz), gi, gj, Option.getD_some] at ho'
    have dj : ∀ {xs ys : List Nat}, disj xs ys = true → ∀ x ∈ xs, x ∉ ys := fun h x hx => by simpa using List.all_eq_true.1 h x hx
    have fo : ∀ {x y : IOp}, freeOf x y = true → ∀ d, x.dst = some d → d ∉ touches y := fun h d hd => by simpa [freeOf, hd] using h
    exact ⟨fo ht'.1, fo ht'.2, fun id hid => ⟨dj ho'.1.1 id hid, dj ho'.1.2 id hid⟩, fun id hid => dj ho'.2 id hid⟩
  have htl : ∀ k, m ≤ k → k < ops.size → ∀ j, j < k → po k j := fun k hmk hk j hj => by
    have := List.all_eq_true.1 hto k (by simpa [hpl] using hk)
    simp only [Bool.or_eq_true] at this
    rcases this with this | this
    · exact absurd (Nat.blt_eq.mp this) (by omega)
    · show ((masks (prOf ops) []).getD k 0).testBit j = true
      rw [Nat.eq_of_beq_eq_true this, Nat.testBit_two_pow_sub_one]
      exact decide_eq_true hj
  refine draw_split (ac := fun i => asz.getD i default) (m := m) (X := fun v s => Q' (.pan v) s) (K := Q' .normal) hmix hlow hprl (by omega) hs (fun i hi => ?_) (fun i hi => hall _ (hmem i hi)) hpo hpo2 compat htl ?_ (fun s φ a w hk hs' => ⟨.normal, s, φ, hk, hs', trivial⟩) (fun v s' φ' a' w' val hx hs' hd => ⟨.pan v, s', φ', hx, hs', val, rfl, hd⟩)
  · rw [hst i (by omega)]; exact hok i _ _ (hoc i hi) (hac i hi)
  · rw [hst m (Nat.le_refl _)]
    rw [hlm] at hreg
    exact regI_regW (fun s hs => hQ _ _ hs) (fun v s hs => hQ _ _ hs) _ _ _ (lowL_drop _ _ m hlow) hreg
theorem rngW_mono {g : V} {ps : List Nat} {x y : IC} {Q Q' : Xit → S → Prop} {s : S} (hQ : ∀ e s, Q e s → Q' e s) (h : rngW P n g ps x y Q s) : rngW P n g ps x y Q' s := by
  obtain ⟨env, h1, h2⟩ := h
  refine ⟨env, h1, ?_⟩
  split at h2
  · refine heapW.mono (fun v o n h => ?_) (fun v o n h => hQ _ _ h) h2
    obtain ⟨nf, m, e, p, c, d, st, pd, k1, k2, k3⟩ := h
    refine ⟨nf, m, e, p, c, d, st, pd, k1, k2, ?_⟩
    cases pd with
    | none => exact hQ _ _ k3
    | some j => cases j <;> exact hQ _ _ k3
  · exact h2
theorem icW_codeW (hmix : P.follows .mixedOrders = true) : ∀ (c : Code) (Q Q' : Xit → S → Prop) (s : S), (∀ e s, Q e s → Q' e s) → icW P n b rd (low n c) Q s → codeW P n b rd c Q' s := by
  intro c
  induction c with
  | skip => exact fun Q Q' s hQ h => hQ _ _ h
  | scope x ih => exact fun Q Q' s hQ h => ih Q Q' s hQ h
  | label l => exact fun Q Q' s hQ h => hQ _ _ h
  | exit id => exact fun Q Q' s hQ h => hQ _ _ h
  | ret => exact fun Q Q' s hQ h => hQ _ _ h
  | goto l => exact fun Q Q' s hQ h => h.elim
  | refuse y => exact fun Q Q' s hQ h => h.elim
  | rangeFunc f p x y => exact fun Q Q' s hQ h => ⟨h.1, rngW_mono hQ h.2⟩
  | region id ops draw =>
    intro Q Q' s hQ h
    cases draw with
    | true =>
      simp only [low] at h
      split at h
      · rename_i l hl
        split at h
        · rename_i hc
          simp only [Bool.and_eq_true] at hc
          rcases h with h | h
          · exact draw_code hmix hQ hl hc.1 hc.2 h
          · exact draw_code2 hmix hQ hl hc.1 hc.2 h
        · exact h.elim
      · exact h.elim
    | false =>
      simp only [low] at h
      split at h
      · rename_i l hl; exact regI_regW (fun s hs => hQ _ _ hs) (fun v s hs => hQ _ _ hs) _ l s hl h
      · exact h.elim
  | seq x y ihx ihy =>
    intro Q Q' s hQ h
    refine ihx _ _ s (fun e s he => ?_) h
    cases e <;> first | exact ihy Q Q' s hQ he | exact hQ _ _ he
  | cond c x y ihx ihy =>
    intro Q Q' s hQ h
    simp only [low, icW] at h
    simp only [codeW]
    split at h
    · rename_i t hc
      simp only [hc]
      exact ⟨fun ht => ihx Q Q' s hQ (h.1 ht), fun ht => ihy Q Q' s hQ (h.2 ht)⟩
    · rename_i hc
      simp only [hc]
      exact ⟨ihx Q Q' s hQ h.1, ihy Q Q' s hQ h.2⟩
    · exact h.elim
  | block id x ih =>
    intro Q Q' s hQ h
    refine ih _ _ s (fun e s he => ?_) h
    cases e <;> simp only [blockQ] at he ⊢ <;> first
      | exact hQ _ _ he
      | (split at he <;> rename_i e
         · rw [if_pos e]; exact hQ _ _ he
         · rw [if_neg e]; exact hQ _ _ he)
  | loop x ih =>
    intro Q Q' s hQ h
    obtain ⟨J, h0, hr⟩ := h
    refine ⟨J, h0, fun m s0 hJ => ih _ _ s0 (fun e s he => ?_) (hr m s0 hJ)⟩
    cases e <;> first | exact hQ _ _ he | exact he
structure FnIs (P : Program) (f : FuncId) (n : Nat) (ic : IC) (rs : List ResultVar) : Prop where
  get : ∃ fn, P.funcs[f]? = some fn ∧ (fn.name == "runtime.NumGoroutine") = false ∧ fn.ntmps = n ∧ fn.results.toList = rs ∧ ∃ c, fn.body = some c ∧ low n c = ic
theorem CtK.of_ic (hmix : P.follows .mixedOrders = true) {f : FuncId} {ic : IC} {rs : List ResultVar} (hf : FnIs P f n ic rs) {args : List V} {o : Nat → Obj'} {nx : Nat} {K X : V → (Nat → Obj') → Nat → Prop} (hl : args.length ≤ n) (h : icW P n nx false ic (endK P rs K X) ⟨argsEnv args, o, nx⟩) : CtK P f args o nx K X := by
  obtain ⟨fn, h1, h2, rfl, rfl, c, h3, rfl⟩ := hf.get
  exact CtK.of_code h1 h2 h3 hl (icW_codeW hmix c _ _ _ (fun _ _ h => h) h)
theorem PCt.of_ic (hmix : P.follows .mixedOrders = true) {f : FuncId} {ic : IC} {rs : List ResultVar} (hf : FnIs P f n ic rs) {ds : List D} {out : R} (hl : ds.length ≤ n) (h : icW P n 0 false ic (endW P rs out) ⟨argsEnv (ds.map .d), fun _ => .no, 0⟩) : PCt P f ds out := by
  obtain ⟨fn, h1, h2, rfl, rfl, c, h3, rfl⟩ := hf.get
  exact PCt.of_ctk (CtK.of_code h1 h2 h3 (by simpa using hl) (icW_codeW hmix c _ _ _ (fun e s h => endW_endK e s h) h))
end
end Go.Proofs.YtealblliddhgiaaGreat
