/-
  A PART OF THE PROOF (put together by program): several texts, one behind the other. Conditions: none.
-/
import Derived.Test.YtaafchgfibbmhaaPk27
set_option linter.unusedSimpArgs false
set_option linter.unusedVariables false
namespace Go.Proofs.Ytaafchgfibbmhaa
theorem divs_length (l : List Int) (g : Int) : (divs l g).length = l.length := by simp [divs]
theorem redM_lc (m : Made) : (redM m).r.c.length = m.r.c.length := by unfold redM; split <;> simp [divs_length]
theorem redM_lt (m : Made) : (redM m).t.length = m.t.length := by unfold redM; split <;> simp [divs_length]
theorem tdiv_le {n g : Int} {B : Nat} (hn : n.natAbs ≤ B) : (n.tdiv g).natAbs ≤ B := by
  rw [Int.natAbs_tdiv]; exact Nat.le_trans (Nat.div_le_self _ _) hn
theorem allF_iff (l : List Int) (most : Int) : allF l most = true ↔ ∀ n ∈ l, -most ≤ n ∧ n ≤ most := by simp [allF, List.all_eq_true]
theorem inB_iff (n a b : Int) : inB n a b = true ↔ a ≤ n ∧ n ≤ b := by simp [inB]
theorem Made.ok_of_big {v r : Nat} {m : Made} (h1 : m.r.c.length = v) (h2 : m.t.length = r) (h : bigOk m = true) : m.Ok v r := by
  simp only [bigOk, Bool.and_eq_true, allF_iff, inB_iff] at h
  exact ⟨h1, h2, h.1.1, h.1.2, h.2⟩
theorem big_of_small {m : Made} (hc : ∀ n ∈ m.r.c, -1000 ≤ n ∧ n ≤ 1000) (hb : -1000 ≤ m.r.b ∧ m.r.b ≤ 1000) (ht : ∀ n ∈ m.t, -1000 ≤ n ∧ n ≤ 1000) : bigOk (redM m) = true := by
  simp only [bigOk, Bool.and_eq_true, allF_iff, inB_iff]
  unfold redM
  split
  · refine ⟨⟨fun n hn => ?_, ?_⟩, fun n hn => ?_⟩
    · simp only [divs, List.mem_map] at hn
      obtain ⟨k, hk, rfl⟩ := hn
      have := tdiv_le (n := k) (g := gcdM m) (B := 1000) (by have := hc k hk; omega)
      omega
    · have := tdiv_le (n := m.r.b) (g := gcdM m) (B := 1000) (by omega)
      show -1000000000 ≤ m.r.b.tdiv (gcdM m) ∧ m.r.b.tdiv (gcdM m) ≤ 1000000000
      omega
    · simp only [divs, List.mem_map] at hn
      obtain ⟨k, hk, rfl⟩ := hn
      have := tdiv_le (n := k) (g := gcdM m) (B := 1000) (by have := ht k hk; omega)
      omega
  · refine ⟨⟨fun n hn => ?_, ?_⟩, fun n hn => ?_⟩
    · have := hc n hn; omega
    · omega
    · have := ht n hn; omega
def unitL (n i : Nat) : List Int := (List.replicate n (0 : Int)).set i 1
def firstM (s : Sys) (i : Nat) (r : Row) : Made := ⟨r, unitL s.rows.length i⟩
def beginL (s : Sys) : Nat → List Made
  | 0 => []
  | k + 1 => beginL s k ++ (match s.rows[k]? with | some r => if goneF r = true then [] else [redM (firstM s k r)] | none => [])
theorem beginL_length (s : Sys) : ∀ k, (beginL s k).length ≤ k
  | 0 => Nat.le_refl _
  | k + 1 => by
    have := beginL_length s k
    simp only [beginL, List.length_append]
    split
    · split <;> simp <;> omega
    · simp; omega
theorem check_rows {s : Sys} (hc : checkF s = true) : 1 ≤ s.vars ∧ s.vars ≤ 5 ∧ s.rows.length ≤ 10 ∧ ∀ r ∈ s.rows, (r.c.length : Int) = s.vars ∧ (∀ n ∈ r.c, -1000 ≤ n ∧ n ≤ 1000) ∧ (-1000 ≤ r.b ∧ r.b ≤ 1000) ∧ 1 ≤ r.rel ∧ r.rel ≤ 3 := by
  simp only [checkF, Bool.and_eq_true, inB_iff, decide_eq_true_eq, List.all_eq_true, formedF, beq_iff_eq, allF_iff] at hc
  obtain ⟨⟨⟨a, b⟩, c⟩, d⟩ := hc
  refine ⟨a, b, by omega, fun r hr => ?_⟩
  obtain ⟨⟨⟨e1, e2⟩, e3⟩, e4⟩ := d r hr
  exact ⟨e1, e3, e4, e2.1, e2.2⟩
theorem unitL_mem {n i : Nat} {x : Int} (h : x ∈ unitL n i) : x = 0 ∨ x = 1 := by
  rcases List.mem_or_eq_of_mem_set h with h | h
  · exact .inl (List.eq_of_mem_replicate h)
  · exact .inr h
theorem first_num {s : Sys} (hc : checkF s = true) {k : Nat} {r : Row} (hr : s.rows[k]? = some r) : (firstM s k r).Num ∧ bigOk (redM (firstM s k r)) = true := by
  obtain ⟨v1, v5, r10, hall⟩ := check_rows hc
  obtain ⟨e1, e2, e3, _⟩ := hall r (List.mem_of_getElem? hr)
  refine ⟨⟨fun n hn => ?_, ?_, fun n hn => ?_, ?_, ?_⟩, big_of_small (fun n hn => e2 n hn) e3 (fun n hn => ?_)⟩
  · have := e2 n hn; omega
  · simp only [firstM]; omega
  · rcases unitL_mem hn with rfl | rfl <;> omega
  · simp only [firstM]; omega
  · simp only [firstM, unitL, List.length_set, List.length_replicate]; omega
  · rcases unitL_mem hn with rfl | rfl <;> omega
theorem begin_c (s : Sys) (hc : checkF s = true) (id : Nat) (o : Nat → Obj') (ho : o id = .row [.d (.i s.vars), .d (.sl (s.rows.map Row.d)), .nils]) (nx : Nat) (hg : Good o nx) (K X : V → (Nat → Obj') → Nat → Prop)
    (hK : ∀ o' nx' z, nx ≤ nx' → Good o' nx' → (∀ j, j < nx → j ≠ id → o' j = o j) → o' id = .row [.d (.i s.vars), .d (.sl (s.rows.map Row.d)), z] → Grows o' nx 47 4 ((beginL s s.rows.length).map Made.d) z → K (.tup []) o' nx') :
    CtK Try.prog 90 [.ptr id 0] o nx K X := by
  obtain ⟨v1, v5, r10, hall⟩ := check_rows hc
  have hid : id < nx := hg.lt (by rw [ho]; exact Obj'.noConfusion)
  refine CtK.of_ev mix fn90 (by simp) ?_
  rw [c90]
  simp +contextual only [go_sem, ho, Nat.add_assoc, Nat.left_eq_add, Nat.add_eq_left, Nat.add_left_cancel_iff]
  refine loop_fam (fun k : Nat => ⟨envJ [.ptr id 0, .junk, .junk, .junk, .junk, .junk, .junk, .junk, .junk, .d (.sl (s.rows.map Row.d)), .d (.i s.rows.length), .d (.i k)], upd (upd o nx (.arr 0 47 4 ((beginL s k).map Made.d))) id (.row [.d (.i s.vars), .d (.sl (s.rows.map Row.d)), .osl nx 0]), nx + 1⟩)
    (fun k => k ≤ s.rows.length) (fun k => s.rows.length - k) 0 (Nat.zero_le _) (SLe.conv _ .nils id _ _ hid (Nat.le_refl _) (by omega) hg (fun _ _ _ => rfl) ho ?_ (.inl ⟨rfl, rfl, by decide⟩) ?_) (fun k hk => ?_)
  · exact convL_d (convL_d (convL_x convL_nil))
  · exact convE_v rfl (by simp [V.refs]; omega) (convE_junk (convE_junk (convE_junk (convE_junk (convE_junk (convE_junk (convE_junk (convE_junk (convE_d rfl (convE_d rfl (convE_d rfl convE_nil)))))))))))
  simp +contextual only [go_sem]
  refine cond_intro (fun h2 => ?_) (fun h2 => ?_)
  · simp at h2
    obtain ⟨r, hr⟩ : ∃ r, s.rows[k]? = some r := ⟨s.rows[k], by simp [h2]⟩
    obtain ⟨e1, e2, e3, _⟩ := hall r (List.mem_of_getElem? hr)
    have hn0 : id ≠ nx := by omega
    have hn1 : ∀ k, id ≠ nx + k := fun k => by omega
    have hn2 : nx ≠ id := by omega
    have hn3 : ∀ k, nx + k ≠ id := fun k => by omega
    simp +contextual only [go_sem, hr, Row.d, Nat.add_assoc, Nat.left_eq_add, Nat.add_eq_left, Nat.add_left_cancel_iff, hn0, hn1, hn2, hn3]
    refine call_give (lineOf_c r (by omega)) ?_
    simp +contextual only [go_sem, hr, Row.d, Nat.add_assoc, Nat.left_eq_add, Nat.add_eq_left, Nat.add_left_cancel_iff, hn0, hn1, hn2, hn3]
    refine call_give (gone_c r) ?_
    simp +contextual only [go_sem, hr, Row.d, Nat.add_assoc, Nat.left_eq_add, Nat.add_eq_left, Nat.add_left_cancel_iff, hn0, hn1, hn2, hn3]
    cases hgn : goneF r with
    | true =>
      simp +contextual only [go_sem, hr, Row.d, Nat.add_assoc, Nat.left_eq_add, Nat.add_eq_left, Nat.add_left_cancel_iff, hn0, hn1, hn2, hn3]
      have hbe : beginL s (k + 1) = beginL s k := by simp [beginL, hr, hgn]
      rw [← hbe]
      refine nextS_intro (k + 1) h2 (by omega) (SLe.conv _ (.osl nx 0) id _ _ hid (Nat.le_refl _) (by omega) hg (fun j hj hne => ?_) (upd_same _ _ _ |> fun h => (by rw [upd_ne _ _ _ _ (by omega), upd_ne _ _ _ _ (by omega)]; exact h)) ?_ (.inr ⟨nx, 0, Nat.le_refl _, rfl, ?_⟩) ?_)
      · rw [upd_ne _ _ _ _ (by omega), upd_ne _ _ _ _ (by omega), upd_ne _ _ _ _ (by omega), upd_ne _ _ _ _ (by omega)]
      · exact convL_d (convL_d (convL_x convL_nil))
      · rw [upd_ne _ _ _ _ (by omega), upd_ne _ _ _ _ (by omega), upd_ne _ _ _ _ (by omega), upd_same]
      · exact convE_v rfl (by simp [V.refs]; omega) (convE_junk (convE_junk (convE_junk (convE_junk (convE_junk (convE_junk (convE_junk (convE_junk (convE_d rfl (convE_d rfl (convE_d (d_int (wrapN (by omega))) convE_nil)))))))))))
    | false =>
      simp +contextual only [go_sem, hr, Row.d, Nat.add_assoc, Nat.left_eq_add, Nat.add_eq_left, Nat.add_left_cancel_iff, hn0, hn1, hn2, hn3]
      refine callD_give (clone_c r.c (by omega)) ?_
      have h8a : 8 * s.rows.length ≤ 140737488355328 := by omega
      have h8b : s.rows.length ≤ 140737488355328 := by omega
      have h8c : k < (List.replicate s.rows.length (D.int .i64 0)).length := by simp; omega
      have h8d : (List.replicate s.rows.length (D.int .i64 0))[k]? = some (D.int .i64 0) := by rw [List.getElem?_replicate, if_pos (by omega)]
      have h8e : (List.replicate s.rows.length (D.int .i64 0)).set k (D.int .i64 1) = (unitL s.rows.length k).map D.i := by simp [unitL, List.map_set, D.i]
      have hbl := beginL_length s k
      have h8f : (beginL s k).length ≤ 140737488355327 := by omega
      have h8g : ((beginL s k).length + 1) * 64 ≤ 140737488355328 := by omega
      simp +contextual only [go_sem, hr, Row.d, Nat.add_assoc, Nat.left_eq_add, Nat.add_eq_left, Nat.add_left_cancel_iff, hn0, hn1, hn2, hn3, h8a, h8b, h8c, h8d, h8e, h8f, h8g, if_true, if_false]
      refine end_intro (objsOk_ren hid [([6], []), ([6], []), ([], []), ([6], []), ([6], []), ([6], []), ([6], []), ([], []), ([], []), ([0], []), ([0], []), ([0], []), ([0], []), ([], []), ([], [26]), ([], []), ([], [28]), ([28, 26], [28])] (by decide)) ?_
      simp +contextual only [go_sem, hr, Row.d, Nat.add_assoc, Nat.left_eq_add, Nat.add_eq_left, Nat.add_left_cancel_iff, hn0, hn1, hn2, hn3, h8a, h8b, h8c, h8d, h8e, h8f, h8g, if_true, if_false]
      obtain ⟨f1, f2⟩ := first_num hc hr
      have hred := reduced_c (firstM s k r) f1
      simp only [f2, if_true] at hred
      refine callD_give hred ?_
      simp +contextual only [go_sem, hr, Row.d, Nat.add_assoc, Nat.left_eq_add, Nat.add_eq_left, Nat.add_left_cancel_iff, hn0, hn1, hn2, hn3, h8a, h8b, h8c, h8d, h8e, h8f, h8g, if_true, if_false]
      refine end_intro (objsOk_ren hid [([], []), ([], []), ([0], []), ([0], []), ([0], []), ([28], []), ([26], [26]), ([], [42]), ([1, 42], [1]), ([0], []), ([0], []), ([0, 1], [0])] (by decide)) ?_
      simp +contextual only [go_sem, hr, Row.d, Nat.add_assoc, Nat.left_eq_add, Nat.add_eq_left, Nat.add_left_cancel_iff, hn0, hn1, hn2, hn3, h8a, h8b, h8c, h8d, h8e, h8f, h8g, if_true, if_false]
      have hbe : beginL s k ++ [redM (firstM s k r)] = beginL s (k + 1) := by simp [beginL, hr, hgn]
      have hbe2 : (beginL s k).map Made.d ++ [(redM (firstM s k r)).d] = (beginL s (k + 1)).map Made.d := by rw [← hbe, List.map_append]; rfl
      rw [hbe2]
      refine nextS_intro (k + 1) h2 (by omega) (SLe.conv _ (.osl nx 1) id _ _ hid (Nat.le_refl _) (by omega) hg (fun j hj hne => ?_) (upd_same _ _ _) ?_ (.inr ⟨nx, 1, Nat.le_refl _, rfl, ?_⟩) ?_)
      · repeat (first | rw [upd_ne _ _ _ _ (by omega)])
      · exact convL_d (convL_d (convL_x convL_nil))
      · rw [upd_ne _ _ _ _ (by omega), upd_same]
      · exact convE_v rfl (by simp [V.refs]; omega) (convE_junk (convE_junk (convE_junk (convE_junk (convE_junk (convE_junk (convE_junk (convE_junk (convE_d rfl (convE_d rfl (convE_d (d_int (wrapN (by omega))) convE_nil)))))))))))
  · simp +contextual only [go_sem, Nat.add_assoc, Nat.left_eq_add, Nat.add_eq_left, Nat.add_left_cancel_iff]
    simp at h2
    have hks : k = s.rows.length := by omega
    subst hks
    refine hK _ _ (.osl nx 0) (by omega) ?_ (fun j hj hne => ?_) (upd_same _ _ _) (.inr ⟨nx, 0, Nat.le_refl _, rfl, ?_⟩)
    · exact ((hg.mono (by omega)).upd (by omega) rfl).upd (by omega) (by simp [Obj'.refs, V.refss, V.refs])
    · rw [upd_ne _ _ _ _ hne, upd_ne _ _ _ _ (by omega)]
    · rw [upd_ne _ _ _ _ (by omega), upd_same]
end Go.Proofs.Ytaafchgfibbmhaa
namespace Go.Proofs.Ytaafchgfibbmhaa
theorem Grows.mono {so : Nat → Obj'} {c c' : Nat} {ty : TypeId} {sz : Nat} {es : List D} {x : V} (hc : c' ≤ c) (h : Grows so c ty sz es x) : Grows so c' ty sz es x := by
  rcases h with h | ⟨i, ep, h1, h2, h3⟩
  · exact .inl h
  · exact .inr ⟨i, ep, by omega, h2, h3⟩
def useOne (s : Sys) (e : Made) (v at' : Nat) (i : Nat) (m : Made) : Option (List Made) :=
  let c := e.r.c.getD v 0
  let d := m.r.c.getD v 0
  if i = at' then some []
  else if d = 0 then some [m]
  else
    let x := if 0 < c then sumM s c m (-d) e else sumM s (-c) m d e
    if bigOk x = true then some [x] else none
def useL (s : Sys) (l : List Made) (e : Made) (v at' : Nat) : Nat → Option (List Made)
  | 0 => some []
  | k + 1 => (useL s l e v at' k).bind fun acc => match l[k]? with
    | some m => (useOne s e v at' k m).map (acc ++ ·)
    | none => some acc
def usePost (o : Nat → Obj') (nx : Nat) (r : Option (List Made)) (K X : V → (Nat → Obj') → Nat → Prop) : Prop :=
  match r with
  | some out => ∀ o' nx' z, nx ≤ nx' → Good o' nx' → (∀ j, j < nx → o' j = o j) → Grows o' nx 47 4 (out.map Made.d) z → K z o' nx'
  | none => ∀ o' nx', nx ≤ nx' → Good o' nx' → (∀ j, j < nx → o' j = o j) → X (.d tooD) o' nx'
theorem upd_upd {α : Type} (f : Nat → α) (i : Nat) (a b : α) : upd (upd f i a) i b = upd f i b := by
  funext j
  by_cases h : j = i
  · subst h; rw [upd_same, upd_same]
  · rw [upd_ne _ _ _ _ h, upd_ne _ _ _ _ h, upd_ne _ _ _ _ h]
theorem useL_none {s : Sys} {l : List Made} {e : Made} {v at' k : Nat} (h : useL s l e v at' k = none) : ∀ j, useL s l e v at' (k + j) = none
  | 0 => h
  | j + 1 => by rw [← Nat.add_assoc]; simp only [useL, useL_none h j, Option.bind_none]
def useA (s : Sys) (l : List Made) (e : Made) (v at' k : Nat) : List Made := (useL s l e v at' k).getD []
theorem useL_length {s : Sys} {l : List Made} {e : Made} {v at' : Nat} : ∀ k, (useA s l e v at' k).length ≤ k
  | 0 => by simp [useA, useL]
  | k + 1 => by
    have ih := useL_length (s := s) (l := l) (e := e) (v := v) (at' := at') k
    simp only [useA, useL] at ih ⊢
    cases h : useL s l e v at' k with
    | none => simp
    | some acc =>
      rw [h] at ih
      simp only [Option.getD_some] at ih
      simp only [Option.bind_some]
      cases h2 : l[k]? with
      | none => simp; omega
      | some m =>
        simp only [useOne]
        split
        · simp; omega
        · split
          · simp; omega
          · split
            · split <;> simp <;> omega
            · split <;> simp <;> omega
theorem using_c (s : Sys) (l : List Made) (e : Made) (v at' : Nat) (hat : l[at']? = some e) {nv nr : Nat} (hok : ∀ m ∈ l, m.Ok nv nr) (hv : v < nv) (hnv : nv ≤ 5) (hnr : nr ≤ 10) (hsr : s.rows.length = nr) (hl : l.length ≤ 1000)
    (id : Nat) (o : Nat → Obj') (ho : o id = .row [.d (.i s.vars), .d (.sl (s.rows.map Row.d)), .d (.sl (l.map Made.d))]) (nx : Nat) (hg : Good o nx) (K X : V → (Nat → Obj') → Nat → Prop)
    (hK : usePost o nx (useL s l e v at' l.length) K X) : CtK Try.prog 115 [.ptr id 0, .d (.i v), .d (.i at')] o nx K X := by
  have hid : id < nx := hg.lt (by rw [ho]; exact Obj'.noConfusion)
  have hn0 : id ≠ nx := by omega
  have hn1 : ∀ k, id ≠ nx + k := fun k => by omega
  have hn2 : nx ≠ id := by omega
  have hn3 : ∀ k, nx + k ≠ id := fun k => by omega
  have hatl : at' < l.length := (List.getElem?_eq_some_iff.1 hat).1
  have hem := hok e (List.mem_of_getElem? hat)
  have hev : e.r.c[v]? = some (e.r.c.getD v 0) := by
    have := hem.lc
    rw [List.getD_eq_getElem?_getD, List.getElem?_eq_getElem (by omega)]; rfl
  refine CtK.of_ev mix fn115 (by simp) ?_
  rw [c115]
  simp +contextual only [go_sem, ho, hat, hev, Made.d, Row.d, Nat.add_assoc, Nat.left_eq_add, Nat.add_eq_left, Nat.add_left_cancel_iff, hn0, hn1, hn2, hn3]
  rw [upd_upd]
  have hgl : Good (upd o (nx + 8) (Obj'.row [V.d (D.sl (List.map D.i e.r.c)), V.d (D.i e.r.rel), V.d (D.i e.r.b), V.d (D.sl (List.map D.i e.t))])) (nx + 9) := (hg.mono (by omega)).upd (by omega) rfl
  refine loop_fam (fun k : Nat => ⟨envJ [.ptr id 0, .d (.i v), .d (.i at'), .junk, .junk, .junk, .junk, .ptr (nx + 8) 0, .d (.i (e.r.c.getD v 0)), .osl (nx + 9) 0, .junk, .junk, .junk, .junk, .junk, .junk, .junk, .junk, .junk, .junk, .junk, .junk, .junk, .junk, .junk, .junk, .junk, .junk, .junk, .d (.sl (l.map Made.d)), .d (.i l.length), .d (.i k)], upd (upd o (nx + 8) (Obj'.row [V.d (D.sl (List.map D.i e.r.c)), V.d (D.i e.r.rel), V.d (D.i e.r.b), V.d (D.sl (List.map D.i e.t))])) (nx + 9) (.arr 0 47 4 ((useA s l e v at' k).map Made.d)), nx + 10⟩)
    (fun k => k ≤ l.length ∧ (useL s l e v at' k).isSome = true) (fun k => l.length - k) 0 ⟨Nat.zero_le _, rfl⟩ (SLe.grow _ .nils (by omega) (by omega) hgl (fun _ _ => rfl) (.inl ⟨rfl, rfl, by decide⟩) ?_) (fun k hk => ?_)
  · repeat (first | exact growE_nil | refine growE_junk ?_ | refine growE_x rfl ?_ | refine growE_d rfl ?_ | refine growE_v rfl (by simp [V.refs] <;> omega) ?_)
  simp +contextual only [go_sem]
  refine cond_intro (fun h2 => ?_) (fun h2 => ?_)
  · simp at h2
    obtain ⟨m, hm⟩ : ∃ m, l[k]? = some m := ⟨l[k], by simp [h2]⟩
    have hmm := hok m (List.mem_of_getElem? hm)
    have hmv : m.r.c[v]? = some (m.r.c.getD v 0) := by
      have := hmm.lc
      rw [List.getD_eq_getElem?_getD, List.getElem?_eq_getElem (by omega)]; rfl
    obtain ⟨acc, hacc⟩ := Option.isSome_iff_exists.1 hk.2
    have hA : useA s l e v at' k = acc := by simp [useA, hacc]
    have hlenA := useL_length (s := s) (l := l) (e := e) (v := v) (at' := at') k
    rw [hA] at hlenA ⊢
    have h8f : acc.length ≤ 140737488355327 := by omega
    have h8g : (acc.length + 1) * 64 ≤ 140737488355328 := by omega
    have hstep : ∀ out, useOne s e v at' k m = some out → useL s l e v at' (k + 1) = some (acc ++ out) := fun out h => by simp [useL, hacc, hm, h]
    have hstepA : ∀ out, useOne s e v at' k m = some out → useA s l e v at' (k + 1) = acc ++ out := fun out h => by simp [useA, hstep out h]
    have hfail : useOne s e v at' k m = none → useL s l e v at' l.length = none := fun h => by
      have h1 : useL s l e v at' (k + 1) = none := by simp [useL, hacc, hm, h]
      have := useL_none h1 (l.length - (k + 1))
      rwa [show k + 1 + (l.length - (k + 1)) = l.length by omega] at this
    simp +contextual only [go_sem, hm, hmv, Made.d, Row.d, Nat.add_assoc, Nat.left_eq_add, Nat.add_eq_left, Nat.add_left_cancel_iff, hn0, hn1, hn2, hn3, h8f, h8g, if_true, if_false]
    refine cond_intro (fun h3 => ?_) (fun h3 => ?_)
    · simp at h3
      have h3' : k = at' := by omega
      have hu : useOne s e v at' k m = some [] := by unfold useOne; rw [if_pos h3']
      simp +contextual only [go_sem, hm, hmv, Made.d, Row.d, Nat.add_assoc, Nat.left_eq_add, Nat.add_eq_left, Nat.add_left_cancel_iff, hn0, hn1, hn2, hn3, h8f, h8g, if_true, if_false]
      have hA' := hstepA _ hu
      rw [List.append_nil] at hA'
      rw [← hA']
      refine nextS_intro (k + 1) ⟨h2, by rw [hstep _ hu]; rfl⟩ (by omega) (SLe.grow _ (.osl (nx + 9) 0) (by omega) (by omega) hgl (fun j hj => ?_) (.inr ⟨nx + 9, 0, Nat.le_refl _, rfl, ?_⟩) ?_)
      · repeat (first | rfl | rw [upd_same] | rw [upd_ne _ _ _ _ (by omega)])
      · repeat (first | rfl | rw [upd_same] | rw [upd_ne _ _ _ _ (by omega)])
      · repeat (first | exact growE_nil | refine growE_junk ?_ | refine growE_x rfl ?_ | refine growE_d rfl ?_ | refine growE_d (d_int (wrapN (by omega))) ?_ | refine growE_v rfl (by simp [V.refs] <;> omega) ?_)
    · simp at h3
      have h3' : ¬ (k = at') := by omega
      simp +contextual only [go_sem, hm, hmv, Made.d, Row.d, Nat.add_assoc, Nat.left_eq_add, Nat.add_eq_left, Nat.add_left_cancel_iff, hn0, hn1, hn2, hn3, h8f, h8g, if_true, if_false]
      refine cond_intro (fun h4 => ?_) (fun h4 => ?_)
      · simp only [beq_iff_eq] at h4
        have hu : useOne s e v at' k m = some [m] := by
          unfold useOne
          rw [if_neg h3']
          simp only [h4, if_true]
        simp +contextual only [go_sem, hm, hmv, Made.d, Row.d, Nat.add_assoc, Nat.left_eq_add, Nat.add_eq_left, Nat.add_left_cancel_iff, hn0, hn1, hn2, hn3, h8f, h8g, if_true, if_false]
        have hA' := hstepA _ hu
        have hA2 : acc.map Made.d ++ [D.agg [D.sl (List.map D.i m.r.c), D.i m.r.rel, D.i m.r.b, D.sl (List.map D.i m.t)]] = (useA s l e v at' (k + 1)).map Made.d := by rw [hA', List.map_append]; rfl
        rw [hA2]
        refine nextS_intro (k + 1) ⟨h2, by rw [hstep _ hu]; rfl⟩ (by omega) (SLe.grow _ (.osl (nx + 9) 1) (by omega) (by omega) hgl (fun j hj => ?_) (.inr ⟨nx + 9, 1, Nat.le_refl _, rfl, ?_⟩) ?_)
        · repeat (first | rfl | rw [upd_same] | rw [upd_ne _ _ _ _ (by omega)])
        · repeat (first | rfl | rw [upd_same] | rw [upd_ne _ _ _ _ (by omega)])
        · repeat (first | exact growE_nil | refine growE_junk ?_ | refine growE_x rfl ?_ | refine growE_d rfl ?_ | refine growE_d (d_int (wrapN (by omega))) ?_ | refine growE_v rfl (by simp [V.refs] <;> omega) ?_)
      · simp +contextual only [go_sem, hm, hmv, Made.d, Row.d, Nat.add_assoc, Nat.left_eq_add, Nat.add_eq_left, Nat.add_left_cancel_iff, hn0, hn1, hn2, hn3, h8f, h8g, if_true, if_false]
        simp only [beq_eq_false_iff_ne] at h4
        have hmc := hmm.c _ (List.mem_of_getElem? hmv)
        have hec := hem.c _ (List.mem_of_getElem? hev)
        refine cond_intro (fun h5 => ?_) (fun h5 => ?_)
        · have h5' : 0 < e.r.c.getD v 0 := by simpa only [decide_eq_true_eq] using h5
          simp +contextual only [go_sem, hm, hmv, Made.d, Row.d, Nat.add_assoc, Nat.left_eq_add, Nat.add_eq_left, Nat.add_left_cancel_iff, hn0, hn1, hn2, hn3, h8f, h8g, if_true, if_false]
          have hu0 : useOne s e v at' k m = if bigOk (sumM s (e.r.c.getD v 0) m (-m.r.c.getD v 0) e) = true then some [sumM s (e.r.c.getD v 0) m (-m.r.c.getD v 0) e] else none := by
            unfold useOne
            rw [if_neg h3', if_neg h4]
            simp only [if_pos h5']
          have hsum := fun (o1 : Nat → Obj') (h1 : o1 id = .row [.d (.i s.vars), .d (.sl (s.rows.map Row.d)), .d (.sl (l.map Made.d))]) => sum_c s (e.r.c.getD v 0) m (-m.r.c.getD v 0) e hmm hem hnv hnr hsr (by omega) (by omega) id o1 (.d (.sl (l.map Made.d))) h1 (fun r hr => by simp [V.refs] at hr)
          rw [wrap64 (n := -m.r.c.getD v 0) (by omega) (by omega)]
          cases hbig : bigOk (sumM s (e.r.c.getD v 0) m (-m.r.c.getD v 0) e) with
          | true =>
            simp only [hbig, if_true, Bool.not_true] at hsum hu0
            refine callR_heap (hsum _ ?_ _ ?_ _ _ fun o' nx' n1 n2 n3 => ?_)
            · repeat (first | exact ho | rw [upd_ne _ _ _ _ (by omega)])
            · repeat (first | exact hgl.mono (by omega) | refine Good.upd ?_ (by omega) rfl)
            have hq : o' (nx + 9) = .arr 0 47 4 (acc.map Made.d) := by
              rw [n3 _ (by omega)]
              repeat (first | rfl | rw [upd_same] | rw [upd_ne _ _ _ _ (by omega)])
            have hn4 : nx + 9 ≠ nx' := by omega
            have hn5 : ∀ k, nx + 9 ≠ nx' + k := fun k => by omega
            have hn6 : nx' ≠ nx + 9 := by omega
            have hn7 : ∀ k, nx' + k ≠ nx + 9 := fun k => by omega
            simp +contextual only [go_sem, hm, hmv, Made.d, Row.d, Nat.add_assoc, Nat.left_eq_add, Nat.add_eq_left, Nat.add_left_cancel_iff, hn0, hn1, hn2, hn3, h8f, h8g, if_true, if_false, hq, hn4, hn5, hn6, hn7]
            have hA' := hstepA _ hu0
            have hA2 : acc.map Made.d ++ [D.agg [D.sl (List.map D.i (sumM s (e.r.c.getD v 0) m (-m.r.c.getD v 0) e).r.c), D.i (sumM s (e.r.c.getD v 0) m (-m.r.c.getD v 0) e).r.rel, D.i (sumM s (e.r.c.getD v 0) m (-m.r.c.getD v 0) e).r.b, D.sl (List.map D.i (sumM s (e.r.c.getD v 0) m (-m.r.c.getD v 0) e).t)]] = (useA s l e v at' (k + 1)).map Made.d := by rw [hA', List.map_append]; rfl
            rw [hA2]
            refine nextS_intro (k + 1) ⟨h2, by rw [hstep _ hu0]; rfl⟩ (by omega) (SLe.grow _ (.osl (nx + 9) 1) (by omega) (by omega) hgl (fun j hj => ?_) (.inr ⟨nx + 9, 1, Nat.le_refl _, rfl, ?_⟩) ?_)
            · rw [upd_ne _ _ _ _ (by omega), upd_ne _ _ _ _ (by omega), n3 _ (by omega)]
              repeat (first | rfl | rw [upd_same] | rw [upd_ne _ _ _ _ (by omega)])
            · repeat (first | rfl | rw [upd_same] | rw [upd_ne _ _ _ _ (by omega)])
            · repeat (first | exact growE_nil | refine growE_junk ?_ | refine growE_x rfl ?_ | refine growE_d rfl ?_ | refine growE_d (d_int (wrapN (by omega))) ?_ | refine growE_v rfl (by simp [V.refs] <;> omega) ?_)
          | false =>
            simp only [hbig, if_false, Bool.not_false, Bool.false_eq_true] at hsum hu0
            rw [hfail hu0] at hK
            refine callR_heap (hsum _ ?_ _ ?_ _ _ fun o' nx' n1 n2 n3 => ?_)
            · repeat (first | exact ho | rw [upd_ne _ _ _ _ (by omega)])
            · repeat (first | exact hgl.mono (by omega) | refine Good.upd ?_ (by omega) rfl)
            simp +contextual only [go_sem, hm, hmv, Made.d, Row.d, Nat.add_assoc, Nat.left_eq_add, Nat.add_eq_left, Nat.add_left_cancel_iff, hn0, hn1, hn2, hn3, h8f, h8g, if_true, if_false]
            refine hK _ _ (by omega) n2 (fun j hj => ?_)
            rw [n3 _ (by omega)]
            repeat (first | rfl | rw [upd_same] | rw [upd_ne _ _ _ _ (by omega)])
        · have h5' : ¬ (0 < e.r.c.getD v 0) := by simpa only [decide_eq_false_iff_not] using h5
          simp +contextual only [go_sem, hm, hmv, Made.d, Row.d, Nat.add_assoc, Nat.left_eq_add, Nat.add_eq_left, Nat.add_left_cancel_iff, hn0, hn1, hn2, hn3, h8f, h8g, if_true, if_false]
          have hu0 : useOne s e v at' k m = if bigOk (sumM s (-e.r.c.getD v 0) m (m.r.c.getD v 0) e) = true then some [sumM s (-e.r.c.getD v 0) m (m.r.c.getD v 0) e] else none := by
            unfold useOne
            rw [if_neg h3', if_neg h4]
            simp only [if_neg h5']
          have hsum := fun (o1 : Nat → Obj') (h1 : o1 id = .row [.d (.i s.vars), .d (.sl (s.rows.map Row.d)), .d (.sl (l.map Made.d))]) => sum_c s (-e.r.c.getD v 0) m (m.r.c.getD v 0) e hmm hem hnv hnr hsr (by omega) (by omega) id o1 (.d (.sl (l.map Made.d))) h1 (fun r hr => by simp [V.refs] at hr)
          rw [wrap64 (n := -e.r.c.getD v 0) (by omega) (by omega)]
          cases hbig : bigOk (sumM s (-e.r.c.getD v 0) m (m.r.c.getD v 0) e) with
          | true =>
            simp only [hbig, if_true, Bool.not_true] at hsum hu0
            refine callR_heap (hsum _ ?_ _ ?_ _ _ fun o' nx' n1 n2 n3 => ?_)
            · repeat (first | exact ho | rw [upd_ne _ _ _ _ (by omega)])
            · repeat (first | exact hgl.mono (by omega) | refine Good.upd ?_ (by omega) rfl)
            have hq : o' (nx + 9) = .arr 0 47 4 (acc.map Made.d) := by
              rw [n3 _ (by omega)]
              repeat (first | rfl | rw [upd_same] | rw [upd_ne _ _ _ _ (by omega)])
            have hn4 : nx + 9 ≠ nx' := by omega
            have hn5 : ∀ k, nx + 9 ≠ nx' + k := fun k => by omega
            have hn6 : nx' ≠ nx + 9 := by omega
            have hn7 : ∀ k, nx' + k ≠ nx + 9 := fun k => by omega
            simp +contextual only [go_sem, hm, hmv, Made.d, Row.d, Nat.add_assoc, Nat.left_eq_add, Nat.add_eq_left, Nat.add_left_cancel_iff, hn0, hn1, hn2, hn3, h8f, h8g, if_true, if_false, hq, hn4, hn5, hn6, hn7]
            have hA' := hstepA _ hu0
            have hA2 : acc.map Made.d ++ [D.agg [D.sl (List.map D.i (sumM s (-e.r.c.getD v 0) m (m.r.c.getD v 0) e).r.c), D.i (sumM s (-e.r.c.getD v 0) m (m.r.c.getD v 0) e).r.rel, D.i (sumM s (-e.r.c.getD v 0) m (m.r.c.getD v 0) e).r.b, D.sl (List.map D.i (sumM s (-e.r.c.getD v 0) m (m.r.c.getD v 0) e).t)]] = (useA s l e v at' (k + 1)).map Made.d := by rw [hA', List.map_append]; rfl
            rw [hA2]
            refine nextS_intro (k + 1) ⟨h2, by rw [hstep _ hu0]; rfl⟩ (by omega) (SLe.grow _ (.osl (nx + 9) 1) (by omega) (by omega) hgl (fun j hj => ?_) (.inr ⟨nx + 9, 1, Nat.le_refl _, rfl, ?_⟩) ?_)
            · rw [upd_ne _ _ _ _ (by omega), upd_ne _ _ _ _ (by omega), n3 _ (by omega)]
              repeat (first | rfl | rw [upd_same] | rw [upd_ne _ _ _ _ (by omega)])
            · repeat (first | rfl | rw [upd_same] | rw [upd_ne _ _ _ _ (by omega)])
            · repeat (first | exact growE_nil | refine growE_junk ?_ | refine growE_x rfl ?_ | refine growE_d rfl ?_ | refine growE_d (d_int (wrapN (by omega))) ?_ | refine growE_v rfl (by simp [V.refs] <;> omega) ?_)
          | false =>
            simp only [hbig, if_false, Bool.not_false, Bool.false_eq_true] at hsum hu0
            rw [hfail hu0] at hK
            refine callR_heap (hsum _ ?_ _ ?_ _ _ fun o' nx' n1 n2 n3 => ?_)
            · repeat (first | exact ho | rw [upd_ne _ _ _ _ (by omega)])
            · repeat (first | exact hgl.mono (by omega) | refine Good.upd ?_ (by omega) rfl)
            simp +contextual only [go_sem, hm, hmv, Made.d, Row.d, Nat.add_assoc, Nat.left_eq_add, Nat.add_eq_left, Nat.add_left_cancel_iff, hn0, hn1, hn2, hn3, h8f, h8g, if_true, if_false]
            refine hK _ _ (by omega) n2 (fun j hj => ?_)
            rw [n3 _ (by omega)]
            repeat (first | rfl | rw [upd_same] | rw [upd_ne _ _ _ _ (by omega)])
  · simp +contextual only [go_sem, Nat.add_assoc, Nat.left_eq_add, Nat.add_eq_left, Nat.add_left_cancel_iff]
    simp at h2
    have hks : k = l.length := by omega
    subst hks
    have hsm : useL s l e v at' l.length = some (useA s l e v at' l.length) := by
      obtain ⟨acc, hacc⟩ := Option.isSome_iff_exists.1 hk.2
      simp [useA, hacc]
    rw [hsm] at hK
    refine hK _ _ _ (by omega) ?_ (fun j hj => ?_) (.inr ⟨nx + 9, 0, by omega, rfl, ?_⟩)
    · exact (hgl.mono (by omega)).upd (by omega) rfl
    · repeat (first | rfl | rw [upd_same] | rw [upd_ne _ _ _ _ (by omega)])
    · repeat (first | rfl | rw [upd_same] | rw [upd_ne _ _ _ _ (by omega)])
end Go.Proofs.Ytaafchgfibbmhaa
namespace Go.Proofs.Ytaafchgfibbmhaa
def usesF (v : Nat) (m : Made) : Bool := decide (m.r.rel = 3) && decide (m.r.c.getD v 0 ≠ 0)
theorem uses_c (v : Nat) (m : Made) (hv : v < m.r.c.length) (id : Nat) (o : Nat → Obj') (ho : o id = .row [.d (.i v)]) : CtO Try.prog 114 [.d m.d, .ptr id 0] o (.d (.bool (usesF v m))) := by
  intro nx hg K X hK
  have hid : id < nx := hg.lt (by rw [ho]; exact Obj'.noConfusion)
  have hn0 : id ≠ nx := by omega
  have hn1 : ∀ k, id ≠ nx + k := fun k => by omega
  have hn2 : nx ≠ id := by omega
  have hn3 : ∀ k, nx + k ≠ id := fun k => by omega
  have hmv : m.r.c[v]? = some (m.r.c.getD v 0) := by
    rw [List.getD_eq_getElem?_getD, List.getElem?_eq_getElem (by omega)]; rfl
  refine CtK.of_ev mix fn114 (by simp) ?_
  rw [c114]
  cases h1 : ((m.r.rel : Int) == 3) with
  | false =>
    simp +contextual only [go_sem, ho, h1, hmv, Nat.add_assoc, Nat.left_eq_add, Nat.add_eq_left, Nat.add_left_cancel_iff, hn0, hn1, hn2, hn3]
    have : usesF v m = false := by
      simp only [beq_eq_false_iff_ne] at h1
      simp [usesF, h1]
    rw [this] at hK
    refine hK _ _ (by omega) ((hg.mono (by omega)).upd (by omega) rfl) (fun j hj => upd_ne _ _ _ _ (by omega))
  | true =>
    simp +contextual only [go_sem, ho, h1, hmv, Nat.add_assoc, Nat.left_eq_add, Nat.add_eq_left, Nat.add_left_cancel_iff, hn0, hn1, hn2, hn3]
    have : usesF v m = (m.r.c.getD v 0 != 0) := by
      simp only [beq_iff_eq] at h1
      simp only [usesF, h1, decide_true, Bool.true_and]
      generalize m.r.c.getD v 0 = x
      by_cases h : x = 0 <;> simp [h]
    rw [this] at hK
    refine hK _ _ (by omega) ((hg.mono (by omega)).upd (by omega) rfl) (fun j hj => upd_ne _ _ _ _ (by omega))
theorem pairs_c (v : Int) (id : Nat) (o : Nat → Obj') (nx : Nat) (hg : Good o nx) (hid : id < nx) (K X : V → (Nat → Obj') → Nat → Prop)
    (hK : K (.func (.func 129) [] [.ptr nx 0, .ptr (nx + 1) 0]) (upd (upd o nx (.row [.ptr id 0])) (nx + 1) (.row [.d (.i v)])) (nx + 5)) : CtK Try.prog 116 [.ptr id 0, .d (.i v)] o nx K X := by
  refine CtK.of_ev mix fn116 (by simp) ?_
  rw [c116]
  simp +contextual only [go_sem, Nat.add_assoc, Nat.left_eq_add, Nat.add_eq_left, Nat.add_left_cancel_iff]
  exact hK
end Go.Proofs.Ytaafchgfibbmhaa
