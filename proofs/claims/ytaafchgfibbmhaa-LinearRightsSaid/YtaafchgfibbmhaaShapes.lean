/-
  THE SHAPES of layer 15's arguments: data of their types. Conditions: none.
-/
import Derived.Test.YtaafchgfibbmhaaF7
import Derived.Test.YtaafchgfibbmhaaCoreBr
set_option linter.unusedSimpArgs false
set_option linter.unusedVariables false
namespace Go.Proofs.Ytaafchgfibbmhaa
open Go.ChangeShapes Go.WideShapes Go.RowKit
theorem maxLen_le : maxLen ≤ 9223372036854775807 := by decide
theorem int3 {x : D} (h : D.hasT Try.prog x 3) : ∃ n : Int, x = .i n ∧ True := by
  obtain ⟨n, h, _⟩ := hasT_int undT_3 h
  exact ⟨n, h, trivial⟩
theorem int43 {x : D} (h : D.hasT Try.prog x 43) : ∃ n : Int, x = .i n ∧ True := by
  obtain ⟨n, h, _⟩ := hasT_int undT_43 h
  exact ⟨n, h, trivial⟩
theorem ints42 {x : D} (h : D.hasT Try.prog x 42) : ∃ l : List Int, x = .sl (l.map .i) ∧ l.length ≤ 9223372036854775807 := by
  obtain ⟨es, rfl, h1, h2⟩ := hasT_sl undT_42 h
  obtain ⟨l, rfl, _⟩ := allT_map (fun x h => int3 h) es h2
  exact ⟨l, rfl, by have := maxLen_le; simp at h1; omega⟩
theorem row45 {x : D} (h : D.hasT Try.prog x 45) : ∃ r : Row, x = r.d ∧ r.c.length ≤ 9223372036854775807 := by
  obtain ⟨cs, rfl, hh⟩ := hasT_agg (by kernel_rfl) (ls := [42, 43, 3]) (by kernel_rfl) h
  clear h; have h := hh; clear hh
  obtain ⟨a, cs, rfl, ha, h⟩ := hasTs_cons h
  obtain ⟨b, cs, rfl, hb, h⟩ := hasTs_cons h
  obtain ⟨c, cs, rfl, hc, h⟩ := hasTs_cons h
  have := hasTs_nil h; subst this
  obtain ⟨l, rfl, hl⟩ := ints42 ha
  obtain ⟨n, rfl, _⟩ := int43 hb
  obtain ⟨m, rfl, _⟩ := int3 hc
  exact ⟨⟨l, n, m⟩, rfl, hl⟩
theorem rat68 {x : D} (h : D.hasT Try.prog x 68) : ∃ r : Rat, x = r.d ∧ True := by
  obtain ⟨cs, rfl, hh⟩ := hasT_agg (by kernel_rfl) (ls := [3, 3]) (by kernel_rfl) h
  clear h; have h := hh; clear hh
  obtain ⟨a, cs, rfl, ha, h⟩ := hasTs_cons h
  obtain ⟨b, cs, rfl, hb, h⟩ := hasTs_cons h
  have := hasTs_nil h; subst this
  obtain ⟨n, rfl, _⟩ := int3 ha
  obtain ⟨m, rfl, _⟩ := int3 hb
  exact ⟨⟨n, m⟩, rfl, trivial⟩
theorem sys24 {x : D} (h : D.hasT Try.prog x 24) : ∃ s : Sys, x = s.d ∧ s.Fits := by
  obtain ⟨cs, rfl, hh⟩ := hasT_agg (by kernel_rfl) (ls := [3, 22]) (by kernel_rfl) h
  clear h; have h := hh; clear hh
  obtain ⟨a, cs, rfl, ha, h⟩ := hasTs_cons h
  obtain ⟨b, cs, rfl, hb, h⟩ := hasTs_cons h
  have := hasTs_nil h; subst this
  obtain ⟨n, rfl, _⟩ := int3 ha
  obtain ⟨es, rfl, h1, h2⟩ := hasT_sl undT_22 hb
  obtain ⟨l, rfl, hl⟩ := allT_map (fun x h => row45 h) es h2
  exact ⟨⟨n, l⟩, rfl, ⟨by have := maxLen_le; simp at h1; simp only; omega, hl⟩⟩
theorem rats25 {x : D} (h : D.hasT Try.prog x 25) : ∃ l : List Rat, x = .sl (l.map Rat.d) ∧ l.length ≤ 9223372036854775807 := by
  obtain ⟨es, rfl, h1, h2⟩ := hasT_sl undT_25 h
  obtain ⟨l, rfl, _⟩ := allT_map (fun x h => rat68 h) es h2
  exact ⟨l, rfl, by have := maxLen_le; simp at h1; omega⟩
theorem made47 {x : D} (h : D.hasT Try.prog x 47) : ∃ m : Made, x = m.d ∧ m.r.c.length ≤ 9223372036854775807 ∧ m.t.length ≤ 9223372036854775807 := by
  obtain ⟨cs, rfl, hh⟩ := hasT_agg (by kernel_rfl) (ls := [42, 43, 3, 42]) (by kernel_rfl) h
  clear h; have h := hh; clear hh
  obtain ⟨a, cs, rfl, ha, h⟩ := hasTs_cons h
  obtain ⟨b, cs, rfl, hb, h⟩ := hasTs_cons h
  obtain ⟨c, cs, rfl, hc, h⟩ := hasTs_cons h
  obtain ⟨e, cs, rfl, he, h⟩ := hasTs_cons h
  have := hasTs_nil h; subst this
  obtain ⟨l, rfl, hl⟩ := ints42 ha
  obtain ⟨n, rfl, _⟩ := int43 hb
  obtain ⟨m, rfl, _⟩ := int3 hc
  obtain ⟨t, rfl, ht⟩ := ints42 he
  exact ⟨⟨⟨l, n, m⟩, t⟩, rfl, hl, ht⟩
end Go.Proofs.Ytaafchgfibbmhaa
