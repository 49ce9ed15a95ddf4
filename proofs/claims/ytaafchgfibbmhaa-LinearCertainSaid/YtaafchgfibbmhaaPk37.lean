/-
  A PART OF THE PROOF (put together by program): several texts, one behind the other. Conditions: none.
-/
import Derived.Test.YtaafchgfibbmhaaPk36
set_option linter.unusedSimpArgs false
set_option linter.unusedVariables false
namespace Go.Proofs.Ytaafchgfibbmhaa
structure VS where
  low : Option Bnd
  high : Option Bnd
  bad : Option Rat
def vb (m : Made) (v : Nat) (p : List Rat) : Bnd := ((numF m.r v p).1, m.r.rel == 2)
def vstep (v : Nat) (p : List Rat) (st : VS) (m : Made) : VS :=
  if st.bad.isSome = true then st
  else if m.r.c.getD v 0 = 0 then st
  else if (numF m.r v p).2 = false then ⟨st.low, st.high, some (numF m.r v p).1⟩
  else if 0 < m.r.c.getD v 0 then ⟨st.low, some (tightS st.high (vb m v p) true), none⟩
  else ⟨some (tightS st.low (vb m v p) false), st.high, none⟩
def vK (l : List Made) (v : Nat) (p : List Rat) : Nat → VS
  | 0 => ⟨none, none, none⟩
  | k + 1 => match l[k]? with
    | some m => vstep v p (vK l v p k) m
    | none => vK l v p k
def valueS (l : List Made) (v : Nat) (p : List Rat) : Rat × Bool :=
  match l.find? (usesF v) with
  | some m => numF m.r v p
  | none => match (vK l v p l.length).bad with
    | some x => (x, false)
    | none => betweenS (vK l v p l.length).low (vK l v p l.length).high
theorem vK_stop {l : List Made} {v : Nat} {p : List Rat} {k : Nat} {x : Rat} (h : (vK l v p k).bad = some x) : ∀ i, (vK l v p (k + i)).bad = some x
  | 0 => h
  | i + 1 => by
    rw [← Nat.add_assoc]
    simp only [vK]
    have := vK_stop h i
    split
    · rw [vstep, if_pos (by rw [this]; rfl)]; exact this
    · exact this
def Bok (a : Option Bnd) : Prop := ∀ x, a = some x → x.1.Ok
theorem tight_ok {a : Option Bnd} {b : Bnd} {up : Bool} (ha : Bok a) (hb : b.1.Ok) : Bok (some (tightS a b up)) := by
  intro x hx
  injection hx with hx
  subst hx
  unfold tightS
  split
  · exact hb
  · rename_i y
    have := ha y rfl
    split
    · exact hb
    · split
      · exact this
      · exact this
theorem numF_ok {r : Row} {v : Nat} {p : List Rat} {nv : Nat} (hr : r.Nice nv) (h : (numF r v p).2 = true) : (numF r v p).1.Ok := by
  unfold numF at h ⊢
  split at h
  · rename_i h1
    rw [if_pos h1]
    exact okR_ok h
  · rename_i h1
    exact absurd h h1
theorem Made.Ok.nice {nv nr : Nat} {m : Made} (h : m.Ok nv nr) : m.r.Nice nv := ⟨h.lc, h.c, h.b⟩
theorem vK_ok {l : List Made} {v : Nat} {p : List Rat} {nv nr : Nat} (hok : ∀ m ∈ l, m.Ok nv nr) : ∀ k, Bok (vK l v p k).low ∧ Bok (vK l v p k).high
  | 0 => ⟨fun x h => by simp [vK] at h, fun x h => by simp [vK] at h⟩
  | k + 1 => by
    have ih := vK_ok (v := v) (p := p) hok k
    simp only [vK]
    split
    · rename_i m hm
      have hmm := hok m (List.mem_of_getElem? hm)
      unfold vstep
      split
      · exact ih
      · split
        · exact ih
        · split
          · exact ih
          · rename_i h3
            have hn := numF_ok (v := v) (p := p) hmm.nice (by simpa using h3)
            split
            · exact ⟨ih.1, tight_ok ih.2 hn⟩
            · exact ⟨tight_ok ih.1 hn, ih.2⟩
    · exact ih
@[reducible] def valO (low high : Option Bnd) : Nat → Obj' := upd (upd (upd (fun _ => .no) 0 (.row [.d (.i 0), .d (.i 0)])) 1 (.row ((sidL low).map .d))) 2 (.row ((sidL high).map .d))
theorem sid_refs (a : Option Bnd) (n : Nat) : (Obj'.row ((sidL a).map V.d)).refs.all (fun r => decide (r < n)) = true := by
  cases a <;> rfl
theorem valO_good (low high : Option Bnd) : Good (valO low high) 3 := (((Good.nil (nx := 3)).upd (by omega) rfl).upd (by omega) (sid_refs _ _)).upd (by omega) (sid_refs _ _)
theorem value_c (l : List Made) (v : Nat) (p : List Rat) {nv nr : Nat} (hok : ∀ m ∈ l, m.Ok nv nr) (hnv : nv ≤ 5) (hl : l.length ≤ 1000) (hp : p.length = nv) (hv : v < nv) (hpo : ∀ k x, v < k → p[k]? = some x → x.Ok) :
    PCt Try.prog 67 [stD l, .i v, .sl (p.map Rat.d)] (pairR' (valueS l v p)) := by
  refine PCt.of_ev mix fn67 (by simp) ?_
  rw [c67]
  simp +contextual only [go_sem, stD]
  refine loop_fam (fun k : Nat => ⟨envJ [.d (stD l), .d (.i v), .d (.sl (p.map Rat.d)), .junk, .junk, .junk, .ptr 0 0, .ptr 1 0, .ptr 2 0, .junk, .junk, .junk, .junk, .junk, .junk, .d (stD l), .d (.i l.length), .d (.i k)], valO none none, 3⟩)
    (fun k => k ≤ l.length ∧ ∀ m ∈ l.take k, usesF v m = false) (fun k => l.length - k) 0 ⟨Nat.zero_le _, by simp⟩ (SLe.backL _ (by omega) (by omega) (valO_good _ _) (fun j h => ?_) ?_) (fun k hk => ?_)
  · rfl
  · repeat (first | exact backE_nil | refine backE_junk ?_ | refine backE_d rfl ?_ | refine backE_v rfl (by simp [V.refs] <;> omega) ?_)
  simp +contextual only [go_sem, stD]
  refine cond_intro (fun h2 => ?_) (fun h2 => ?_)
  · simp at h2
    obtain ⟨m, hm⟩ : ∃ m, l[k]? = some m := ⟨l[k], List.getElem?_eq_getElem _⟩
    have hmm := hok m (List.mem_of_getElem? hm)
    have hmv : m.r.c[v]? = some (m.r.c.getD v 0) := by
      have := hmm.lc
      rw [List.getD_eq_getElem?_getD, List.getElem?_eq_getElem (by omega)]; rfl
    have hsnoc : usesF v m = false → ∀ x ∈ l.take (k + 1), usesF v x = false := fun h1 x hx => by
      rw [List.take_add_one, hm] at hx
      rcases List.mem_append.1 hx with hx | hx
      · exact hk.2 x hx
      · simp at hx; subst hx; exact h1
    cases hr : m.r.rel == 3 with
    | false =>
      have hu : usesF v m = false := by simp at hr; simp [usesF, hr]
      simp +contextual only [go_sem, stD, hm, hmv, Made.d, Row.d, hr]
      refine nextS_intro (k + 1) ⟨h2, hsnoc hu⟩ (by omega) (SLe.backL _ (by omega) (by omega) (valO_good _ _) (fun j h => ?_) ?_)
      · repeat (first | rfl | rw [upd_same] | rw [upd_ne _ _ _ _ (by omega)])
      · repeat (first | exact backE_nil | refine backE_junk ?_ | refine backE_d rfl ?_ | refine backE_d (d_int (wrapN (by omega))) ?_ | refine backE_v rfl (by simp [V.refs] <;> omega) ?_)
    | true =>
      cases hz : m.r.c.getD v 0 != 0 with
      | false =>
        have hu : usesF v m = false := by simp at hz; simp [usesF, hz]
        simp +contextual only [go_sem, stD, hm, hmv, Made.d, Row.d, hr, hz]
        refine nextS_intro (k + 1) ⟨h2, hsnoc hu⟩ (by omega) (SLe.backL _ (by omega) (by omega) (valO_good _ _) (fun j h => ?_) ?_)
        · repeat (first | rfl | rw [upd_same] | rw [upd_ne _ _ _ _ (by omega)])
        · repeat (first | exact backE_nil | refine backE_junk ?_ | refine backE_d rfl ?_ | refine backE_d (d_int (wrapN (by omega))) ?_ | refine backE_v rfl (by simp [V.refs] <;> omega) ?_)
      | true =>
        have hz' : m.r.c.getD v 0 ≠ 0 := by simpa using hz
        have hu : usesF v m = true := by simp at hz hr; simp [usesF, hz, hr]
        have hfind : l.find? (usesF v) = some m := by
          rw [List.find?_eq_some_iff_getElem]
          refine ⟨hu, k, h2, (List.getElem?_eq_some_iff.1 hm).2, fun j hj => ?_⟩
          have := hk.2 (l[j]'(by omega)) (by rw [List.mem_take_iff_getElem]; exact ⟨j, by omega, rfl⟩)
          simp [this]
        have hV : valueS l v p = numF m.r v p := by rw [valueS, hfind]
        have hnum := number_c m.r v p hmm.nice hnv hp hv hpo hz'
        rw [hV]
        simp +contextual only [go_sem, stD, hm, hmv, Made.d, Row.d, hr, hz]
        cases hb : (numF m.r v p).2 with
        | true =>
          rw [hb, if_pos rfl] at hnum
          refine call_keep hnum rfl ?_
          simp +contextual only [go_sem, stD, hm, hmv, Made.d, Row.d]
          simp [pairR', hb]
        | false =>
          rw [hb, if_neg Bool.noConfusion] at hnum
          refine call_pan hnum (by decide) ?_
          simp +contextual only [go_sem, stD, hm, hmv, Made.d, Row.d]
          simp [pairR', hb]
  · simp at h2
    have hfind : l.find? (usesF v) = none := by
      rw [List.find?_eq_none]
      intro x hx
      have := hk.2 x (by rw [List.take_of_length_le h2]; exact hx)
      simp [this]
    simp +contextual only [go_sem, stD]
    refine loop_fam (fun k : Nat => ⟨envJ [.d (stD l), .d (.i v), .d (.sl (p.map Rat.d)), .junk, .junk, .junk, .ptr 0 0, .ptr 1 0, .ptr 2 0, .junk, .junk, .junk, .junk, .junk, .junk, .junk, .junk, .junk, .junk, .junk, .junk, .junk, .junk, .junk, .junk, .junk, .junk, .junk, .junk, .junk, .junk, .junk, .junk, .junk, .junk, .junk, .junk, .junk, .junk, .junk, .d (stD l), .d (.i l.length), .d (.i k)], valO (vK l v p k).low (vK l v p k).high, 3⟩)
      (fun k => k ≤ l.length ∧ (vK l v p k).bad = none) (fun k => l.length - k) 0 ⟨Nat.zero_le _, rfl⟩ (SLe.backL _ (by omega) (by omega) (valO_good _ _) (fun j h => ?_) ?_) (fun k hk => ?_)
    · rfl
    · repeat (first | exact backE_nil | refine backE_junk ?_ | refine backE_d rfl ?_ | refine backE_v rfl (by simp [V.refs] <;> omega) ?_)
    obtain ⟨hbl, hbh⟩ := vK_ok (v := v) (p := p) hok k
    simp +contextual only [go_sem, stD]
    refine cond_intro (fun h2 => ?_) (fun h2 => ?_)
    · simp at h2
      obtain ⟨m, hm⟩ : ∃ m, l[k]? = some m := ⟨l[k], List.getElem?_eq_getElem _⟩
      have hmm := hok m (List.mem_of_getElem? hm)
      have hmv : m.r.c[v]? = some (m.r.c.getD v 0) := by
        have := hmm.lc
        rw [List.getD_eq_getElem?_getD, List.getElem?_eq_getElem (by omega)]; rfl
      have hsucc : vK l v p (k + 1) = vstep v p (vK l v p k) m := by simp only [vK, hm]
      cases hz : m.r.c.getD v 0 == 0 with
      | true =>
        have hz' : m.r.c.getD v 0 = 0 := by simpa using hz
        have hs2 : vK l v p (k + 1) = vK l v p k := by rw [hsucc, vstep, if_neg (by rw [hk.2]; simp), if_pos hz']
        simp +contextual only [go_sem, stD, hm, hmv, Made.d, Row.d, hz]
        refine nextS_intro (k + 1) ⟨by omega, by rw [hs2]; exact hk.2⟩ (by omega) (SLe.backL _ (by omega) (by omega) (valO_good _ _) (fun j h => ?_) ?_)
        · rw [hs2]; repeat (first | rfl | rw [upd_same] | rw [upd_ne _ _ _ _ (by omega)])
        · repeat (first | exact backE_nil | refine backE_junk ?_ | refine backE_d rfl ?_ | refine backE_d (d_int (wrapN (by omega))) ?_ | refine backE_v rfl (by simp [V.refs] <;> omega) ?_)
      | false =>
        have hz' : m.r.c.getD v 0 ≠ 0 := by simpa using hz
        have hnum := number_c m.r v p hmm.nice hnv hp hv hpo hz'
        simp +contextual only [go_sem, stD, hm, hmv, Made.d, Row.d, hz]
        cases hb : (numF m.r v p).2 with
        | false =>
          have hbad : (vK l v p (k + 1)).bad = some (numF m.r v p).1 := by rw [hsucc, vstep, if_neg (by rw [hk.2]; simp), if_neg hz', if_pos hb]
          have hV : valueS l v p = ((numF m.r v p).1, false) := by
            have := vK_stop hbad (l.length - (k + 1))
            rw [show k + 1 + (l.length - (k + 1)) = l.length by omega] at this
            rw [valueS, hfind]
            simp only [this]
          rw [hV]
          rw [hb, if_neg Bool.noConfusion] at hnum
          refine callD_pan hnum (by decide) ?_
          simp +contextual only [go_sem, stD, hm, hmv, Made.d, Row.d]
          refine badE_op rfl rfl ?_
          simp +contextual only [go_sem, stD, hm, hmv, Made.d, Row.d]
          refine badE_op rfl rfl ?_
          simp +contextual only [go_sem, stD, hm, hmv, Made.d, Row.d]
          refine badE_op rfl rfl ?_
          simp +contextual only [go_sem, stD, hm, hmv, Made.d, Row.d]
          refine badE_op rfl rfl ?_
          simp +contextual only [go_sem, stD, hm, hmv, Made.d, Row.d]
          refine badE_skip rfl ?_
          refine badE_op rfl rfl ?_
          simp +contextual only [go_sem, stD, hm, hmv, Made.d, Row.d]
          refine badE_skip rfl (badE_nil ?_)
          refine ⟨rfl, ?_⟩
          simp only [panS, blockQ_pan, thenQ_pan, loopQ_pan, endW_pan', toD, endU_some]
          simp [pairR']
        | true =>
          rw [hb, if_pos rfl] at hnum
          refine callD_keep hnum rfl ?_
          simp +contextual only [go_sem, stD, hm, hmv, Made.d, Row.d]
          refine end_intro (by decide) ?_
          simp +contextual only [go_sem, stD, hm, hmv, Made.d, Row.d]
          refine cond_intro (fun h5 => ?_) (fun h5 => ?_)
          · simp +contextual only [go_sem, stD, hm, hmv, Made.d, Row.d]
            refine callR_heap (addHi_c (vK l v p k).high (vb m v p) hbh (numF_ok hmm.nice hb) 2 _ _ ?_ (by omega) _ _ (fun o2 n2 m1 m2 m3 => ?_))
            · repeat (first | rfl | rw [upd_same] | rw [upd_ne _ _ _ _ (by omega)])
            simp +contextual only [go_sem, stD, hm, hmv, Made.d, Row.d]
            have hs2 : vK l v p (k + 1) = ⟨(vK l v p k).low, some (tightS (vK l v p k).high (vb m v p) true), none⟩ := by rw [hsucc, vstep, if_neg (by rw [hk.2]; simp), if_neg hz', if_neg (by rw [hb]; exact Bool.noConfusion), if_pos (by simpa using h5)]
            refine nextS_intro (k + 1) ⟨by omega, by rw [hs2]⟩ (by omega) (SLe.backL _ (by omega) (by omega) (valO_good _ _) (fun j h => ?_) ?_)
            · rw [hs2]
              by_cases e : j = 2
              · subst e; rw [m3]; repeat (first | rfl | rw [upd_same] | rw [upd_ne _ _ _ _ (by omega)])
              · rw [m2 _ (by omega) e]
                unfold valO
                rcases (by omega : j = 0 ∨ j = 1 ∨ j = 2) with rfl | rfl | rfl <;> first | (exact absurd rfl e) | repeat (first | rfl | rw [upd_same] | rw [upd_ne _ _ _ _ (by omega)])
            · repeat (first | exact backE_nil | refine backE_junk ?_ | refine backE_d rfl ?_ | refine backE_d (d_int (wrapN (by omega))) ?_ | refine backE_v rfl (by simp [V.refs] <;> omega) ?_)
          · simp +contextual only [go_sem, stD, hm, hmv, Made.d, Row.d]
            refine callR_heap (addLo_c (vK l v p k).low (vb m v p) hbl (numF_ok hmm.nice hb) 1 27 _ _ ?_ (by omega) ?_ (by omega) _ _ (fun o2 n2 m1 m2 m3 => ?_))
            · repeat (first | rfl | rw [upd_same] | rw [upd_ne _ _ _ _ (by omega)])
            · repeat (first | rfl | rw [upd_same] | rw [upd_ne _ _ _ _ (by omega)])
            simp +contextual only [go_sem, stD, hm, hmv, Made.d, Row.d]
            have hs2 : vK l v p (k + 1) = ⟨some (tightS (vK l v p k).low (vb m v p) false), (vK l v p k).high, none⟩ := by rw [hsucc, vstep, if_neg (by rw [hk.2]; simp), if_neg hz', if_neg (by rw [hb]; exact Bool.noConfusion), if_neg (by simpa using h5)]
            refine nextS_intro (k + 1) ⟨by omega, by rw [hs2]⟩ (by omega) (SLe.backL _ (by omega) (by omega) (valO_good _ _) (fun j h => ?_) ?_)
            · rw [hs2]
              by_cases e : j = 1
              · subst e; rw [m3]; repeat (first | rfl | rw [upd_same] | rw [upd_ne _ _ _ _ (by omega)])
              · rw [m2 _ (by omega) e]
                unfold valO
                rcases (by omega : j = 0 ∨ j = 1 ∨ j = 2) with rfl | rfl | rfl <;> first | (exact absurd rfl e) | repeat (first | rfl | rw [upd_same] | rw [upd_ne _ _ _ _ (by omega)])
            · repeat (first | exact backE_nil | refine backE_junk ?_ | refine backE_d rfl ?_ | refine backE_d (d_int (wrapN (by omega))) ?_ | refine backE_v rfl (by simp [V.refs] <;> omega) ?_)
    · simp at h2
      have hkl : k = l.length := by omega
      have gen : ∀ a : Option Bnd, ∃ p q r t, sidL a = [.i p, .i q, .bool r, .bool t] := fun a => by
        cases a with
        | none => exact ⟨_, _, _, _, rfl⟩
        | some y => exact ⟨_, _, _, _, rfl⟩
      obtain ⟨g1, g2, g3, g4, hgl⟩ := gen (vK l v p k).low
      obtain ⟨k1, k2, k3, k4, hgh⟩ := gen (vK l v p k).high
      have hbt := between_c (vK l v p k).low (vK l v p k).high hbl hbh
      have hV : valueS l v p = betweenS (vK l v p k).low (vK l v p k).high := by
        have hbad := hk.2
        rw [hkl] at hbad ⊢
        rw [valueS, hfind]
        simp only [hbad]
      rw [hV]
      rw [hgl, hgh] at hbt
      simp +contextual only [go_sem, stD, hgl, hgh]
      cases hb : (betweenS (vK l v p k).low (vK l v p k).high).2 with
      | true =>
        simp only [pairR', hb, if_true] at hbt
        refine call_keep hbt rfl ?_
        simp +contextual only [go_sem, stD]
        simp [pairR', hb]
      | false =>
        simp only [pairR', hb, Bool.false_eq_true, if_false] at hbt
        refine call_pan hbt (by decide) ?_
        simp +contextual only [go_sem, stD]
        simp [pairR', hb]
end Go.Proofs.Ytaafchgfibbmhaa
namespace Go.Proofs.Ytaafchgfibbmhaa
end Go.Proofs.Ytaafchgfibbmhaa
namespace Go.Proofs.Ytaafchgfibbmhaa
def solK (s : Sys) (n : Nat) : Nat → List Rat × Bool
  | 0 => (List.replicate n ⟨0, 0⟩, true)
  | j + 1 => if (solK s n j).2 = true then
      (if (valueS (curA s (n - 1 - j)) (n - 1 - j) (solK s n j).1).2 = true then ((solK s n j).1.set (n - 1 - j) (valueS (curA s (n - 1 - j)) (n - 1 - j) (solK s n j).1).1, true) else ((solK s n j).1, false))
    else solK s n j
theorem solK_len (s : Sys) (n : Nat) : ∀ j, (solK s n j).1.length = n
  | 0 => by simp [solK]
  | j + 1 => by
    have := solK_len s n j
    simp only [solK]
    split
    · split
      · simp [this]
      · exact this
    · exact this
theorem solK_stop {s : Sys} {n j : Nat} (h : (solK s n j).2 = false) : ∀ i, (solK s n (j + i)).2 = false
  | 0 => h
  | i + 1 => by
    rw [← Nat.add_assoc]
    simp only [solK]
    rw [if_neg (by rw [solK_stop h i]; exact Bool.noConfusion)]
    exact solK_stop h i
theorem betweenS_ok {low high : Option Bnd} (h : (betweenS low high).2 = true) : (betweenS low high).1.Ok := by
  unfold betweenS at h ⊢
  split at h
  · rename_i h1; rw [if_pos h1]; exact zero_ok
  · rename_i h1
    rw [if_neg h1]
    split at h
    · rename_i h2
      rw [if_pos h2]
      split at h
      · rename_i h3; rw [if_pos h3]; exact okR_ok h
      · cases h
    · rename_i h2
      rw [if_neg h2]
      split at h
      · rename_i h3; rw [if_pos h3]; exact okR_ok h
      · rename_i h3; rw [if_neg h3]; exact okR_ok h
theorem valueS_ok {l : List Made} {v : Nat} {p : List Rat} {nv nr : Nat} (hok : ∀ m ∈ l, m.Ok nv nr) (h : (valueS l v p).2 = true) : (valueS l v p).1.Ok := by
  unfold valueS at h ⊢
  split at h
  · rename_i m hm
    exact numF_ok (hok m (List.mem_of_find?_eq_some hm)).nice h
  · rename_i hm
    split at h
    · cases h
    · rename_i hb
      exact betweenS_ok h
theorem curA_ok {s : Sys} (hc : checkF s = true) {n k : Nat} (hn : (curE s n).isSome = true) (hk : k ≤ n) : ∀ m ∈ curA s k, m.Ok s.vars.toNat s.rows.length := by
  cases h : curE s k with
  | none =>
    have := curE_none h (n - k)
    rw [show k + (n - k) = n by omega] at this
    rw [this] at hn; cases hn
  | some l =>
    have hA : curA s k = l := by simp [curA, h]
    rw [hA]
    exact (curE_ok hc h).1
theorem curA_len {s : Sys} (hc : checkF s = true) {n k : Nat} (hn : (curE s n).isSome = true) (hk : k ≤ n) : (curA s k).length ≤ 200 := by
  cases h : curE s k with
  | none => simp [curA, h]
  | some l =>
    have hA : curA s k = l := by simp [curA, h]
    rw [hA]
    exact (curE_ok hc h).2
theorem solK_ok {s : Sys} (hc : checkF s = true) {n : Nat} (hn : (curE s n).isSome = true) : ∀ j, j ≤ n → (solK s n j).2 = true → ∀ k x, n - j ≤ k → (solK s n j).1[k]? = some x → x.Ok
  | 0, _, _, k, x, hk, hx => by
    have := (List.getElem?_eq_some_iff.1 hx).1
    rw [solK_len] at this
    omega
  | j + 1, hj, h, k, x, hk, hx => by
    simp only [solK] at h hx
    split at h
    · rename_i h1
      rw [if_pos h1] at hx
      split at h
      · rename_i h2
        rw [if_pos h2] at hx
        by_cases e : n - 1 - j = k
        · subst e
          rw [List.getElem?_set_self (by rw [solK_len]; omega)] at hx
          injection hx with hx
          subst hx
          exact valueS_ok (curA_ok hc hn (by omega)) h2
        · rw [List.getElem?_set_ne e] at hx
          exact solK_ok hc hn j (by omega) h1 k x (by omega) hx
      · cases h
    · rename_i h1
      exact absurd h h1
def solvePost (s : Sys) (n inn io : Nat) (o : Nat → Obj') (nx : Nat) (K X : V → (Nat → Obj') → Nat → Prop) (cur : Option (List Made)) : Prop :=
  match cur with
  | none => ∀ o2 n2, nx ≤ n2 → (∀ j, j < nx → j ≠ inn → j ≠ io → o2 j = o j) → X (.d tooD) o2 n2
  | some [] => if (solK s n n).2 = true then ∀ o2 n2, nx < n2 → (∀ j, j < nx → j ≠ inn → j ≠ io → o2 j = o j) → o2 inn = .row [.d (.bool false)] → o2 io = .row [.osl nx 0] → o2 nx = .arr 0 68 2 ((solK s n n).1.map Rat.d) → K (.tup []) o2 n2
      else ∀ o2 n2, nx ≤ n2 → (∀ j, j < nx → j ≠ inn → j ≠ io → o2 j = o j) → X (.d tooD) o2 n2
  | some (_ :: _) => ∀ o2 n2, nx ≤ n2 → (∀ j, j < nx → j ≠ inn → j ≠ io → o2 j = o j) → o2 inn = .row [.d (.bool true)] → K (.tup []) o2 n2
@[reducible] def b66 : IC :=
  ((IC.reg [bo .lss 46 3 45 44 3]).seq ((IC.cond (.tmp 46) IC.skip (IC.exit 2)).seq
    ((IC.block 3 ((IC.reg [⟨some 47, .indexAddr 89 (.tmp 43) (.tmp 45), none⟩, ⟨some 48, .load 90 (.tmp 47), none⟩, ⟨some 7, .alloc 90, none⟩, ⟨none, .store 90 (.tmp 7) (.tmp 48), none⟩]).seq
      (IC.reg [⟨some 49, .load 25 (.tmp 2), none⟩, ⟨some 50, .load 90 (.tmp 7), none⟩, ⟨some 51, .buildSlice 25 1 #[(0, .tmp 50)], none⟩, ⟨some 52, .call { callee := .builtin .append, args := #[.tmp 49, .tmp 51], argTypes := #[25, 25] }, none⟩, ⟨none, .store 25 (.tmp 2) (.tmp 52), none⟩]))).seq
      (IC.reg [bk .add 53 3 45 1 3, mv 45 53]))))
@[reducible] noncomputable def tSt (o : Nat → Obj') (nx inn io : Nat) (b : Bool) (P : List Rat) (k : Nat) : S :=
  ⟨envJ [.junk, .junk, .ptr io 0, .junk, .junk, .junk, .junk, .junk, .junk, .junk, .junk, .junk, .junk, .junk, .junk, .junk, .junk, .junk, .junk, .junk, .junk, .junk, .junk, .junk, .junk, .junk, .junk, .junk, .junk, .junk, .junk, .junk, .junk, .junk, .junk, .junk, .junk, .junk, .junk, .junk, .junk, .junk, .junk, .d (.sl (P.map Rat.d)), .d (.i P.length), .d (.i k)], upd (upd (upd o inn (.row [.d (.bool b)])) nx (.arr 0 68 2 ((P.take k).map Rat.d))) io (.row [.osl nx 0]), nx + 1⟩
theorem tail_c (o : Nat → Obj') (nx inn io : Nat) (hg : Good o nx) (l2 : inn < nx) (l3 : io < nx) (e3 : inn ≠ io) (b : Bool) (P : List Rat) (hP : P.length ≤ 5) (K X : V → (Nat → Obj') → Nat → Prop)
    (hK : ∀ o2 n2, nx < n2 → (∀ j, j < nx → j ≠ inn → j ≠ io → o2 j = o j) → o2 inn = .row [.d (.bool b)] → o2 io = .row [.osl nx 0] → o2 nx = .arr 0 68 2 (P.map Rat.d) → K (.tup []) o2 n2)
    (S0 : S) (h0 : SLe nx S0 (tSt o nx inn io b P 0)) : loopS nx (fun Q s => evW Try.prog 54 nx false b66 Q s) (blockQ 2 (endG Try.prog [] K X)) S0 := by
  have w2 : inn ≠ nx := by omega
  have w3 : io ≠ nx := by omega
  have w3' := Ne.symm w3
  have y3 : ∀ k, io ≠ nx + k := fun k => by omega
  have y3' : ∀ k, nx + k ≠ io := fun k => by omega
  have e3' := Ne.symm e3
  refine loop_fam (tSt o nx inn io b P) (fun k => k ≤ P.length) (fun k => P.length - k) 0 (Nat.zero_le _) h0 (fun k hk => ?_)
  simp +contextual only [go_sem, w3, w3', y3, y3', Nat.add_assoc, Nat.left_eq_add, Nat.add_eq_left, Nat.add_left_cancel_iff]
  refine cond_intro (fun h2 => ?_) (fun h2 => ?_)
  · simp at h2
    obtain ⟨x, hx⟩ : ∃ x, P[k]? = some x := ⟨P[k], List.getElem?_eq_getElem _⟩
    have hs : P.take (k + 1) = P.take k ++ [x] := by rw [List.take_add_one, hx]; rfl
    have h8f : (P.take k).length ≤ 140737488355327 := by simp; omega
    have h8g : ((P.take k).length + 1) * 16 ≤ 140737488355328 := by simp; omega
    simp +contextual only [go_sem, w3, w3', y3, y3', Nat.add_assoc, Nat.left_eq_add, Nat.add_eq_left, Nat.add_left_cancel_iff, hx, Rat.d, h8f, h8g, if_true]
    refine nextS_intro (k + 1) (by omega) (by omega) ?_
    refine SLe.conv _ (.osl nx 1) io [.osl nx 1] _ l3 (by omega) (by omega) (Good.upd hg l2 rfl) (fun j k1 k2 => ?_) ?_ (convL_x convL_nil) (.inr ⟨nx, 1, by omega, rfl, ?_⟩) ?_
    · have : j ≠ nx := by omega
      have : ∀ k, j ≠ nx + k := fun k => by omega
      repeat (first | rfl | rw [upd_same] | rw [upd_ne _ _ _ _ (by omega)])
    · repeat (first | rfl | rw [upd_same] | rw [upd_ne _ _ _ _ (by omega)])
    · rw [hs, List.map_append]
      repeat (first | rfl | rw [upd_same] | rw [upd_ne _ _ _ _ (by omega)])
    · repeat (first | exact convE_nil | refine convE_junk ?_ | refine convE_x rfl ?_ | refine convE_d rfl ?_ | refine convE_d (d_int (wrapN (by omega))) ?_ | refine convE_v rfl (by simp [V.refs] <;> omega) ?_)
  · simp +contextual only [go_sem]
    simp at h2
    rw [List.take_of_length_le h2]
    refine hK _ _ (by omega) (fun j k1 k2 k3 => ?_) ?_ ?_ ?_
    · repeat (first | rfl | rw [upd_same] | rw [upd_ne _ _ _ _ (by omega)])
    · repeat (first | rfl | rw [upd_same] | rw [upd_ne _ _ _ _ (by omega)])
    · repeat (first | rfl | rw [upd_same] | rw [upd_ne _ _ _ _ (by omega)])
    · repeat (first | rfl | rw [upd_same] | rw [upd_ne _ _ _ _ (by omega)])
theorem solve1_c (s : Sys) (hc : checkF s = true) (n : Nat) (hv : s.vars = n) (ib inn io : Nat) (o : Nat → Obj') (nx : Nat) (hg : Good o nx) (h1 : o ib = .row [.d (.i s.vars), .d (.sl (s.rows.map Row.d))]) (h2 : o inn = .row [.d (.bool false)]) (h3 : o io = .row [.nils])
    (K X : V → (Nat → Obj') → Nat → Prop) (hK : solvePost s n inn io o nx K X (curE s n)) : CtK Try.prog 66 [.ptr ib 0, .ptr inn 0, .ptr io 0] o nx K X := by
  obtain ⟨v1, v5, r10, hall⟩ := check_rows hc
  have l1 : ib < nx := hg.lt (by rw [h1]; exact Obj'.noConfusion)
  have l2 : inn < nx := hg.lt (by rw [h2]; exact Obj'.noConfusion)
  have l3 : io < nx := hg.lt (by rw [h3]; exact Obj'.noConfusion)
  have e1 : ib ≠ inn := fun e => by subst e; rw [h1] at h2; injection h2 with h; simp at h
  have e2 : ib ≠ io := fun e => by subst e; rw [h1] at h3; injection h3 with h; simp at h
  have e3 : inn ≠ io := fun e => by subst e; rw [h2] at h3; injection h3 with h; simp at h
  have w1 : ib ≠ nx := by omega
  have w2 : inn ≠ nx := by omega
  have w3 : io ≠ nx := by omega
  have y1 : ∀ k, ib ≠ nx + k := fun k => by omega
  have y2 : ∀ k, inn ≠ nx + k := fun k => by omega
  have y3 : ∀ k, io ≠ nx + k := fun k => by omega
  have e1' := Ne.symm e1
  have e2' := Ne.symm e2
  have e3' := Ne.symm e3
  have hst := stages_c s hc n (by omega)
  rw [Sys.d, hv] at hst
  refine CtK.of_ev mix fn66 (by simp) ?_
  rw [c66]
  simp +contextual only [go_sem, h1, h2, h3, hv, Nat.add_assoc, Nat.left_eq_add, Nat.add_eq_left, Nat.add_left_cancel_iff, e1, e2, e3, e1', e2', e3', w1, w2, w3, y1, y2, y3]
  cases hcur : curE s n with
  | none =>
    rw [hcur] at hK
    simp only [stagesR, hcur] at hst
    refine call_pan hst (by decide) ?_
    simp +contextual only [go_sem]
    exact hK _ _ (by omega) (fun j _ _ _ => rfl)
  | some l =>
    rw [hcur] at hK
    simp only [stagesR, hcur] at hst
    have hA : curA s n = l := by simp [curA, hcur]
    have hb1 : 16 * n ≤ 140737488355328 := by omega
    have hb2 : n ≤ 140737488355328 := by omega
    have hget : (stagesD s n)[n]? = some (.sl (l.map Made.d)) := by
      simp only [stagesD]
      rw [List.getElem?_map, List.getElem?_range (by omega)]
      simp [hA, stD]
    refine call_give hst ?_
    simp +contextual only [go_sem, h1, h2, h3, hv, hget, hb1, hb2, if_true, Nat.add_assoc, Nat.left_eq_add, Nat.add_eq_left, Nat.add_left_cancel_iff, e1, e2, e3, e1', e2', e3', w1, w2, w3, y1, y2, y3]
    have hgO : ∀ (b : Bool) (a : List D), Good (upd (upd o inn (.row [.d (.bool b)])) (nx + 15) (.arr 0 90 2 a)) (nx + 16) := fun b a => (Good.upd (hg.mono (by omega)) (by omega) rfl).upd (by omega) rfl
    have hrep : List.replicate n (D.agg [D.i 0, D.i 0]) = (solK s n 0).1.map Rat.d := by simp [solK, Rat.d]
    refine loop_fam (fun j : Nat => ⟨envJ [.junk, .ptr inn 0, .ptr io 0, .d (.sl (stagesD s n)), .osl (nx + 15) 0, .d (.i ((n : Int) - 1 - j))], upd (upd o inn (.row [.d (.bool (decide (0 < (l.length : Int))))])) (nx + 15) (.arr 0 90 2 ((solK s n j).1.map Rat.d)), nx + 16⟩)
      (fun j => j ≤ n ∧ (solK s n j).2 = true ∧ (l ≠ [] → j = 0)) (fun j => n - j) 0 ⟨Nat.zero_le _, rfl, fun _ => rfl⟩ (SLe.backL _ (by omega) (by omega) (hgO _ _) (fun j h => ?_) ?_) (fun j hj => ?_)
    · rw [← hrep]
    · repeat (first | exact backE_nil | refine backE_junk ?_ | refine backE_d rfl ?_ | refine backE_d (d_int ((wrap64 (by omega) (by omega)).trans (by omega))) ?_ | refine backE_v rfl (by simp [V.refs] <;> omega) ?_)
    obtain ⟨j1, j2, j3⟩ := hj
    have hlen := solK_len s n j
    by_cases hjn : j < n
    · have hd : decide ((0 : Int) ≤ (n : Int) - 1 - (j : Int)) = true := decide_eq_true (by omega)
      simp +contextual only [go_sem, h1, h2, h3, hv, hd, Nat.add_assoc, Nat.left_eq_add, Nat.add_eq_left, Nat.add_left_cancel_iff, e1, e2, e3, e1', e2', e3', w1, w2, w3, y1, y2, y3]
      refine cond_intro (fun g1 => ?_) (fun g1 => ?_)
      · simp only [Bool.not_eq_true', decide_eq_false_iff_not] at g1
        have hl0 : l = [] := List.eq_nil_of_length_eq_zero (by omega)
        subst hl0
        have hgs : (stagesD s n)[n - 1 - j]? = some (stD (curA s (n - 1 - j))) := by
          simp only [stagesD]
          rw [List.getElem?_map, List.getElem?_range (by omega)]
          rfl
        have hti : ((n : Int) - 1 - (j : Int)) = ((n - 1 - j : Nat) : Int) := by omega
        have hsome : (curE s n).isSome = true := by rw [hcur]; rfl
        have hV := value_c (curA s (n - 1 - j)) (n - 1 - j) (solK s n j).1 (curA_ok hc hsome (by omega)) (by omega) (by have := curA_len hc hsome (k := n - 1 - j) (by omega); omega) (by rw [hlen]; omega) (by omega) (fun k x hk hx => solK_ok hc hsome j (by omega) j2 k x (by omega) hx)
        simp only [hti]
        simp +contextual only [go_sem, h1, h2, h3, hv, hd, hgs, stD, Nat.add_assoc, Nat.left_eq_add, Nat.add_eq_left, Nat.add_left_cancel_iff, e1, e2, e3, e1', e2', e3', w1, w2, w3, y1, y2, y3]
        cases hvs : (valueS (curA s (n - 1 - j)) (n - 1 - j) (solK s n j).1).2 with
        | false =>
          simp only [pairR', hvs] at hV
          refine call_pan hV (by decide) ?_
          simp +contextual only [go_sem]
          have hend : (solK s n n).2 = false := by
            have h1 : (solK s n (j + 1)).2 = false := by
              simp only [solK]
              rw [if_pos j2, if_neg (by rw [hvs]; exact Bool.noConfusion)]
            have := solK_stop h1 (n - (j + 1))
            rwa [show j + 1 + (n - (j + 1)) = n by omega] at this
          simp only [solvePost, hend, Bool.false_eq_true, if_false] at hK
          refine hK _ _ (by omega) (fun k k1 k2 k3 => ?_)
          rw [upd_ne _ _ _ _ (by omega), upd_ne _ _ _ _ k2]
        | true =>
          simp only [pairR', hvs] at hV
          refine call_keep hV rfl ?_
          have hjl : n - 1 - j < (solK s n j).1.length := by omega
          obtain ⟨y, hy⟩ : ∃ y, (solK s n j).1[n - 1 - j]? = some y := ⟨(solK s n j).1[n - 1 - j], List.getElem?_eq_getElem _⟩
          simp +contextual only [go_sem, h1, h2, h3, hv, hd, hgs, hjl, hy, if_true, Rat.d, stD, Nat.add_assoc, Nat.left_eq_add, Nat.add_eq_left, Nat.add_left_cancel_iff, e1, e2, e3, e1', e2', e3', w1, w2, w3, y1, y2, y3]
          have hnext : solK s n (j + 1) = ((solK s n j).1.set (n - 1 - j) (valueS (curA s (n - 1 - j)) (n - 1 - j) (solK s n j).1).1, true) := by
            simp only [solK]
            rw [if_pos j2, if_pos hvs]
          refine nextS_intro (j + 1) ⟨by omega, by rw [hnext], fun h => absurd h (fun h => by simp at h)⟩ (by omega) (SLe.backL _ (by omega) (by omega) (hgO _ _) (fun j h => ?_) ?_)
          · rw [hnext]
            by_cases e : j = nx + 15
            · subst e
              simp only [upd_same]
              rw [List.map_set]
            · simp only [upd_ne _ _ _ _ e]
          · repeat (first | exact backE_nil | refine backE_junk ?_ | refine backE_d rfl ?_ | refine backE_d (d_int ((wrap64 (by omega) (by omega)).trans (by omega))) ?_ | refine backE_v rfl (by simp [V.refs] <;> omega) ?_)
      · have hl0 : l ≠ [] := by
          intro e; subst e; simp at g1
        simp +contextual only [go_sem, h1, h2, h3, hv, hd, Nat.add_assoc, Nat.left_eq_add, Nat.add_eq_left, Nat.add_left_cancel_iff, e1, e2, e3, e1', e2', e3', w1, w2, w3, y1, y2, y3]
        have hl1 : decide (0 < (l.length : Int)) = true := decide_eq_true (by have := List.length_pos_iff.2 hl0; omega)
        rw [hl1]
        refine tail_c o nx inn io hg l2 l3 e3 true (solK s n j).1 (by rw [hlen]; omega) K X ?_ _ ?_
        · simp only [solvePost] at hK
          cases l with
          | nil => exact absurd rfl hl0
          | cons a l => exact fun o2 n2 m1 m2 m3 m4 m5 => hK o2 n2 (by omega) m2 m3
        · refine SLe.conv _ .nils io [.nils] _ l3 (by omega) (by omega) (Good.upd hg l2 rfl) (fun j k1 k2 => ?_) ?_ (convL_x convL_nil) (.inl ⟨rfl, rfl, by omega⟩) ?_
          · have : j ≠ nx + 15 := by omega
            repeat (first | rfl | rw [upd_same] | rw [upd_ne _ _ _ _ (by omega)])
          · repeat (first | rfl | rw [upd_same] | rw [upd_ne _ _ _ _ (by omega)])
            exact h3
          · repeat (first | exact convE_nil | refine convE_junk ?_ | refine convE_x rfl ?_ | refine convE_d rfl ?_ | refine convE_d (d_int (wrapN (by omega))) ?_ | refine convE_v rfl (by simp [V.refs] <;> omega) ?_ | refine convE_c ?_ ?_ ?_)
            · show toD _ (V.osl (nx + 15) 0) = _
              simp only [toD]
              rw [upd_same]
              exact if_pos rfl
            · intro id hid
              have hid' : id ∈ (V.osl (nx + 15) 0).ids := hid
              simp [V.ids] at hid'
              subst hid'
              exact ⟨by omega, fun ep h => V.noConfusion h⟩
            · repeat (first | exact convE_nil | refine convE_junk ?_ | refine convE_x rfl ?_ | refine convE_d rfl ?_ | refine convE_d (d_int (wrapN (by omega))) ?_ | refine convE_v rfl (by simp [V.refs] <;> omega) ?_)
    · have hd : decide ((0 : Int) ≤ (n : Int) - 1 - (j : Int)) = false := decide_eq_false (by omega)
      simp +contextual only [go_sem, h1, h2, h3, hv, hd, Nat.add_assoc, Nat.left_eq_add, Nat.add_eq_left, Nat.add_left_cancel_iff, e1, e2, e3, e1', e2', e3', w1, w2, w3, y1, y2, y3]
      refine tail_c o nx inn io hg l2 l3 e3 (decide (0 < (l.length : Int))) (solK s n j).1 (by rw [hlen]; omega) K X ?_ _ ?_
      · have hjn' : j = n := by omega
        subst hjn'
        cases l with
        | nil =>
          simp only [solvePost, j2, if_true] at hK
          exact hK
        | cons a l =>
          simp only [solvePost] at hK
          exact fun o2 n2 m1 m2 m3 m4 m5 => hK o2 n2 (by omega) m2 (by simpa using m3)
      · refine SLe.conv _ .nils io [.nils] _ l3 (by omega) (by omega) (Good.upd hg l2 rfl) (fun j k1 k2 => ?_) ?_ (convL_x convL_nil) (.inl ⟨rfl, rfl, by omega⟩) ?_
        · have : j ≠ nx + 15 := by omega
          repeat (first | rfl | rw [upd_same] | rw [upd_ne _ _ _ _ (by omega)])
        · repeat (first | rfl | rw [upd_same] | rw [upd_ne _ _ _ _ (by omega)])
          exact h3
        · repeat (first | exact convE_nil | refine convE_junk ?_ | refine convE_x rfl ?_ | refine convE_d rfl ?_ | refine convE_d (d_int (wrapN (by omega))) ?_ | refine convE_v rfl (by simp [V.refs] <;> omega) ?_ | refine convE_c ?_ ?_ ?_)
          · show toD _ (V.osl (nx + 15) 0) = _
            simp only [toD]
            rw [upd_same]
            exact if_pos rfl
          · intro id hid
            have hid' : id ∈ (V.osl (nx + 15) 0).ids := hid
            simp [V.ids] at hid'
            subst hid'
            exact ⟨by omega, fun ep h => V.noConfusion h⟩
          · repeat (first | exact convE_nil | refine convE_junk ?_ | refine convE_x rfl ?_ | refine convE_d rfl ?_ | refine convE_d (d_int (wrapN (by omega))) ?_ | refine convE_v rfl (by simp [V.refs] <;> omega) ?_)
end Go.Proofs.Ytaafchgfibbmhaa
namespace Go.Proofs.Ytaafchgfibbmhaa
def solveF (s : Sys) : List Rat × Int := match curE s s.vars.toNat with
  | none => ([], 3)
  | some [] => if (solK s s.vars.toNat s.vars.toNat).2 = true then ((solK s s.vars.toNat s.vars.toNat).1, 0) else ([], 3)
  | some (_ :: _) => ([], 5)
theorem solve_c (s : Sys) (hs : s.Fits) : PCt Try.prog 23 [s.d] (.ret [.sl ((if checkF s = true then (solveF s).1 else []).map Rat.d), .i (if checkF s = true then (solveF s).2 else 2)]) := by
  have hck := check_c s hs
  refine PCt.of_ev mix fn23 (by simp) ?_
  rw [c23]
  simp +contextual only [go_sem, Sys.d]
  refine call_keep hck rfl ?_
  cases hc : checkF s with
  | false =>
    simp +contextual only [go_sem, Sys.d, if_true, if_false, List.map_nil, Bool.false_eq_true]
  | true =>
    obtain ⟨v1, v5, r10, hall⟩ := check_rows hc
    have hv : s.vars = ((s.vars.toNat : Nat) : Int) := by omega
    simp +contextual only [go_sem, Sys.d, if_true, if_false]
    refine callR_heap (attempt_c 66 _ _ _ _ _ ?_)
    refine solve1_c s hc s.vars.toNat hv 0 7 6 _ _ ?_ ?_ ?_ ?_ _ _ ?_
    · exact ((((Good.nil (nx := 12)).upd (by omega) rfl).upd (by omega) rfl).upd (by omega) rfl).upd (by omega) rfl |>.upd (by omega) rfl
    · repeat (first | rfl | rw [upd_same] | rw [upd_ne _ _ _ _ (by omega)])
    · repeat (first | rfl | rw [upd_same] | rw [upd_ne _ _ _ _ (by omega)])
    · repeat (first | rfl | rw [upd_same] | rw [upd_ne _ _ _ _ (by omega)])
    have g10 : ∀ {o2 : Nat → Obj'} {o : Nat → Obj'}, (∀ j, j < 12 → j ≠ 7 → j ≠ 6 → o2 j = upd o 10 (.row [.d (.i 0)]) j) → o2 10 = .row [.d (.i 0)] := fun h => by rw [h 10 (by omega) (by omega) (by omega)]; repeat (first | rfl | rw [upd_same] | rw [upd_ne _ _ _ _ (by omega)])
    cases hcur : curE s s.vars.toNat with
    | none =>
      intro o2 n2 m1 m2
      refine ⟨rfl, g10 m2, by omega, fun o3 n3 q1 q2 => ?_⟩
      simp +contextual only [go_sem]
      simp [solveF, hcur]
    | some l =>
      cases l with
      | nil =>
        simp only [solvePost]
        split
        · rename_i hk
          intro o2 n2 m1 m2 m3 m4 m5
          refine ⟨g10 m2, by omega, fun o3 n3 q1 q2 => ?_⟩
          have e7 : o3 7 = .row [.d (.bool false)] := by rw [q2 7 (by omega) (by omega), m3]
          have e6 : o3 6 = .row [.osl 12 0] := by rw [q2 6 (by omega) (by omega), m4]
          have e12 : o3 12 = .arr 0 68 2 ((solK s s.vars.toNat s.vars.toNat).1.map Rat.d) := by rw [q2 12 (by omega) (by omega), m5]
          simp +contextual only [go_sem, e7, e6, e12]
          simp [solveF, hcur, hk]
        · rename_i hk
          intro o2 n2 m1 m2
          refine ⟨trivial, g10 m2, by omega, fun o3 n3 q1 q2 => ?_⟩
          simp +contextual only [go_sem]
          simp [solveF, hcur, hk]
      | cons a l =>
        simp only [solvePost]
        intro o2 n2 m1 m2 m3
        refine ⟨g10 m2, by omega, fun o3 n3 q1 q2 => ?_⟩
        have e7 : o3 7 = .row [.d (.bool true)] := by rw [q2 7 (by omega) (by omega), m3]
        simp +contextual only [go_sem, e7]
        simp [solveF, hcur]
end Go.Proofs.Ytaafchgfibbmhaa
