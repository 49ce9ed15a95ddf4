/-
  A PART OF THE PROOF (put together by program): several texts, one behind the other. Conditions: none.
-/
import Derived.Test.YtaafchgfibbmhaaPk30
set_option linter.unusedSimpArgs false
set_option linter.unusedVariables false
namespace Go.Proofs.Ytaafchgfibbmhaa
theorem eliminate_c (s : Sys) (l : List Made) (v : Nat) {nv nr : Nat} (hok : ∀ m ∈ l, m.Ok nv nr) (hv : v < nv) (hnv : nv ≤ 5) (hnr : nr ≤ 10) (hsr : s.rows.length = nr) (hl : l.length ≤ 1000)
    (id : Nat) (o : Nat → Obj') (ho : o id = .row [.d (.i s.vars), .d (.sl (s.rows.map Row.d)), .d (.sl (l.map Made.d))]) (nx : Nat) (hg : Good o nx) (K X : V → (Nat → Obj') → Nat → Prop)
    (hK : elimPost s o nx id (elimE s v l) K X) : CtK Try.prog 91 [.ptr id 0, .d (.i v)] o nx K X := by
  have hid : id < nx := hg.lt (by rw [ho]; exact Obj'.noConfusion)
  have hn0 : id ≠ nx := by omega
  have hn1 : ∀ k, id ≠ nx + k := fun k => by omega
  have hn2 : nx ≠ id := by omega
  have hn3 : ∀ k, nx + k ≠ id := fun k => by omega
  refine CtK.of_ev mix fn91 (by simp) ?_
  rw [c91]
  simp +contextual only [go_sem, ho, Nat.add_assoc, Nat.left_eq_add, Nat.add_eq_left, Nat.add_left_cancel_iff, hn0, hn1, hn2, hn3]
  refine callR_heap (indexFunc113 l (usesF v) 114 [.ptr (nx + 1) 0] _ ?_ (by omega) (fun m hm => uses_c v m (by have := (hok m hm).lc; omega) _ _ ?_) _ ?_ _ _ fun o' nx' n1 n2 n3 => ?_)
  · intro r hr
    simp [V.refss, V.refs] at hr
    subst hr
    rw [upd_same]; exact Obj'.noConfusion
  · exact upd_same _ _ _
  · exact ((hg.mono (by omega)).upd (by omega) (by simp [Obj'.refs, V.refss, V.refs]; omega)).upd (by omega) rfl
  simp +contextual only [go_sem, Nat.add_assoc, Nat.left_eq_add, Nat.add_eq_left, Nat.add_left_cancel_iff]
  have ob : o' nx = .row [.ptr id 0] := by rw [n3 _ (by omega), upd_ne _ _ _ _ (by omega), upd_same]
  have obv : o' (nx + 1) = .row [.d (.i v)] := by rw [n3 _ (by omega), upd_same]
  have oid : o' id = .row [.d (.i s.vars), .d (.sl (s.rows.map Row.d)), .d (.sl (l.map Made.d))] := by rw [n3 _ (by omega), upd_ne _ _ _ _ (by omega), upd_ne _ _ _ _ (by omega), ho]
  have b1 : nx ≠ nx' + 1 := by omega
  have b3 : nx + 1 ≠ nx' + 1 := by omega
  have b4 : id ≠ nx' + 1 := by omega
  have b5 : ∀ k, id ≠ nx' + k := fun k => by omega
  have b6 : ∀ k, nx ≠ nx' + k := fun k => by omega
  have b7 : ∀ k, nx + 1 ≠ nx' + k := fun k => by omega
  refine cond_join (fun st => ∃ out z, ElimInv s v l id nx (nx' + 1) o st out z) ?_ (fun Kt k1 k2 => cond_intro (fun h1 => ?_) (fun h1 => ?_))
  · rintro st ⟨out, z, hI⟩
    exact elimTail s l v hok hnv id o ho nx hid K X hK (nx' + 1) (by omega) st out z hI
  · obtain ⟨at', hat⟩ : ∃ at', l.findIdx? (usesF v) = some at' := by
      cases h : l.findIdx? (usesF v) with
      | none => simp [firstI, h] at h1
      | some at' => exact ⟨at', rfl⟩
    have hfi : firstI l (usesF v) = at' := by simp [firstI, hat]
    have hatl : at' < l.length := by
      rw [List.findIdx?_eq_some_iff_getElem] at hat
      exact hat.1
    obtain ⟨e, he⟩ : ∃ e, l[at']? = some e := ⟨l[at'], by simp [hatl]⟩
    have hraw : rawE s v l = useL s l e v at' l.length := by simp only [rawE, hat, he]
    simp +contextual only [go_sem, ob, obv, Nat.add_assoc, Nat.left_eq_add, Nat.add_eq_left, Nat.add_left_cancel_iff, hfi, b1, b3]
    refine callR_heap (using_c s l e v at' he hok hv hnv hnr hsr hl id _ ?_ _ ?_ _ _ ?_)
    · rw [upd_ne _ _ _ _ (by omega), n3 _ (by omega), upd_ne _ _ _ _ (by omega), upd_ne _ _ _ _ (by omega), ho]
    · exact (n2.mono (by omega)).upd (by omega) rfl
    cases hu : useL s l e v at' l.length with
    | none =>
      intro o2 nx2 m1 m2 m3
      refine k2 _ _ ?_
      simp +contextual only [go_sem]
      have hel : elimE s v l = none := by rw [elimE, hraw, hu]; rfl
      rw [hel] at hK
      refine hK _ _ (by omega) m2 (fun j g1 g2 => .inl ?_)
      rw [m3 _ (by omega), upd_ne _ _ _ _ (by omega), n3 _ (by omega), upd_ne _ _ _ _ (by omega), upd_ne _ _ _ _ (by omega)]
    | some out =>
      intro o2 nx2 z m1 m2 m3 m4
      have or0 : o2 (nx' + 1) = .row [.nils] := by rw [m3 _ (by omega), upd_same]
      have fin : ∀ st : S, st.env 2 = .ptr nx 0 → st.env 5 = .ptr (nx' + 1) 0 → st.o = upd o2 (nx' + 1) (.row [z]) → nx2 ≤ st.nx → (∀ r ∈ z.refs, r < nx2) → Kt .normal st := fun st a1 a2 a3 a4 a5 => by
        refine k1 _ ⟨out, z, ⟨by rw [hraw, hu], a1, a2, ?_, by omega, fun j g1 => .inl ?_, ?_, ?_, ?_⟩⟩
        · rw [a3]
          refine (m2.mono a4).upd (by omega) ?_
          simp only [Obj'.refs, V.refss, List.append_nil, List.all_eq_true, decide_eq_true_eq]
          exact fun r hr => Nat.lt_of_lt_of_le (a5 r hr) a4
        · rw [a3, upd_ne _ _ _ _ (by omega), m3 _ (by omega), upd_ne _ _ _ _ (by omega), n3 _ (by omega), upd_ne _ _ _ _ (by omega), upd_ne _ _ _ _ (by omega)]
        · rw [a3, upd_ne _ _ _ _ (by omega), m3 _ (by omega), upd_ne _ _ _ _ (by omega), ob]
        · rw [a3, upd_same]
        · rw [a3]; exact ((m4.mono (c' := nx) (by omega)).upd_row or0).toG _ (fun j g1 g2 => absurd g2 (by omega))
      rcases m4 with ⟨rfl, c2, c3⟩ | ⟨zi, ep, c1, rfl, c3⟩
      · simp +contextual only [go_sem, or0]
        exact fin _ (by simp +contextual only [go_sem]) (by simp +contextual only [go_sem]) rfl (by simp) (fun r hr => by simp [V.refs] at hr)
      · simp +contextual only [go_sem, or0]
        exact fin _ (by simp +contextual only [go_sem]) (by simp +contextual only [go_sem]) rfl (by simp) (fun r hr => by
          simp [V.refs] at hr
          subst hr
          exact m2.lt (by rw [c3]; exact Obj'.noConfusion))
  · have hno : l.findIdx? (usesF v) = none := by
      cases h : l.findIdx? (usesF v) with
      | none => rfl
      | some at' => simp [firstI, h] at h1
    simp +contextual only [go_sem, ob, obv, oid, Nat.add_assoc, Nat.left_eq_add, Nat.add_eq_left, Nat.add_left_cancel_iff, b1, b3, b4]
    refine loop_fam (fun k : Nat => ⟨envJ [.junk, .junk, .ptr nx 0, .ptr (nx + 1) 0, .junk, .ptr (nx' + 1) 0, .junk, .junk, .junk, .junk, .junk, .junk, .junk, .junk, .junk, .junk, .junk, .junk, .junk, .junk, .junk, .junk, .junk, .junk, .junk, .junk, .junk, .junk, .junk, .d (.sl (l.map Made.d)), .d (.i l.length), .d (.i k)], upd (upd o' (nx' + 2) (.arr 0 47 4 ((zeroL v (l.take k)).map Made.d))) (nx' + 1) (.row [.osl (nx' + 2) 0]), nx' + 2 + 1⟩)
      (fun k => k ≤ l.length) (fun k => l.length - k) 0 (Nat.zero_le _) (SLe.conv _ .nils (nx' + 1) [.nils] _ (by omega) (by omega) (by omega) (n2.mono (by omega)) (fun j g1 g2 => upd_ne _ _ _ _ g2) (upd_same _ _ _) (convL_x convL_nil) (.inl ⟨rfl, by simp [zeroL], by decide⟩) ?_) (fun k hk => ?_)
    · repeat (first | exact convE_nil | refine convE_junk ?_ | refine convE_x rfl ?_ | refine convE_d rfl ?_ | refine convE_d (d_int (wrapN (by omega))) ?_ | refine convE_v rfl (by simp [V.refs] <;> omega) ?_)
    simp +contextual only [go_sem]
    refine cond_intro (fun h2 => ?_) (fun h2 => ?_)
    · simp at h2
      obtain ⟨m, hm⟩ : ∃ m, l[k]? = some m := ⟨l[k], by simp [h2]⟩
      have hmm := hok m (List.mem_of_getElem? hm)
      have hmv : m.r.c[v]? = some (m.r.c.getD v 0) := by
        have := hmm.lc
        rw [List.getD_eq_getElem?_getD, List.getElem?_eq_getElem (by omega)]; rfl
      have hlz : (zeroL v (l.take k)).length ≤ k := Nat.le_trans (List.length_filter_le _ _) (by simp; omega)
      have h8f : (zeroL v (l.take k)).length ≤ 140737488355327 := by omega
      have h8g : ((zeroL v (l.take k)).length + 1) * 64 ≤ 140737488355328 := by omega
      simp +contextual only [go_sem, ob, obv, oid, hm, hmv, Made.d, Row.d, Nat.add_assoc, Nat.left_eq_add, Nat.add_eq_left, Nat.add_left_cancel_iff, b5, b6, b7, h8f, h8g, if_true, if_false]
      refine cond_intro (fun h3 => ?_) (fun h3 => ?_)
      · simp +contextual only [go_sem, ob, obv, oid, hm, hmv, Made.d, Row.d, Nat.add_assoc, Nat.left_eq_add, Nat.add_eq_left, Nat.add_left_cancel_iff, b5, b6, b7, h8f, h8g, if_true, if_false]
        have hz : (zeroL v (l.take k)).map Made.d ++ [D.agg [D.sl (List.map D.i m.r.c), D.i m.r.rel, D.i m.r.b, D.sl (List.map D.i m.t)]] = (zeroL v (l.take (k + 1))).map Made.d := by
          rw [List.take_add_one, hm]
          simp only [zeroL, List.filter_append, Option.toList_some, List.map_append]
          rw [List.filter_cons, if_pos h3]
          rfl
        rw [hz]
        refine nextS_intro (k + 1) h2 (by omega) (SLe.conv _ (.osl (nx' + 2) 1) (nx' + 1) [.osl (nx' + 2) 1] _ (by omega) (by omega) (by omega) (n2.mono (by omega)) (fun j g1 g2 => ?_) (upd_same _ _ _) (convL_x convL_nil) (.inr ⟨nx' + 2, 1, Nat.le_refl _, rfl, ?_⟩) ?_)
        · repeat (first | rfl | rw [upd_ne _ _ _ _ (by omega)])
        · repeat (first | rfl | rw [upd_same] | rw [upd_ne _ _ _ _ (by omega)])
        · repeat (first | exact convE_nil | refine convE_junk ?_ | refine convE_x rfl ?_ | refine convE_d rfl ?_ | refine convE_d (d_int (wrapN (by omega))) ?_ | refine convE_v rfl (by simp [V.refs] <;> omega) ?_)
      · simp +contextual only [go_sem, ob, obv, oid, hm, hmv, Made.d, Row.d, Nat.add_assoc, Nat.left_eq_add, Nat.add_eq_left, Nat.add_left_cancel_iff, b5, b6, b7, h8f, h8g, if_true, if_false]
        have hz : zeroL v (l.take k) = zeroL v (l.take (k + 1)) := by
          rw [List.take_add_one, hm]
          simp only [zeroL, List.filter_append, Option.toList_some]
          rw [List.filter_cons, if_neg (by rw [h3]; exact Bool.noConfusion)]
          simp
        rw [hz]
        refine nextS_intro (k + 1) h2 (by omega) (SLe.conv _ (.osl (nx' + 2) 0) (nx' + 1) [.osl (nx' + 2) 0] _ (by omega) (by omega) (by omega) (n2.mono (by omega)) (fun j g1 g2 => ?_) ?_ (convL_x convL_nil) (.inr ⟨nx' + 2, 0, Nat.le_refl _, rfl, ?_⟩) ?_)
        · repeat (first | rfl | rw [upd_ne _ _ _ _ (by omega)])
        · repeat (first | rfl | rw [upd_same] | rw [upd_ne _ _ _ _ (by omega)])
        · repeat (first | rfl | rw [upd_same] | rw [upd_ne _ _ _ _ (by omega)])
        · repeat (first | exact convE_nil | refine convE_junk ?_ | refine convE_x rfl ?_ | refine convE_d rfl ?_ | refine convE_d (d_int (wrapN (by omega))) ?_ | refine convE_v rfl (by simp [V.refs] <;> omega) ?_)
    · simp +contextual only [go_sem, ob, obv, oid, Nat.add_assoc, Nat.left_eq_add, Nat.add_eq_left, Nat.add_left_cancel_iff, b5, b6, b7]
      simp at h2
      have hz : zeroL v (l.take k) = zeroL v l := by rw [List.take_of_length_le (by omega)]
      rw [hz]
      refine callR_heap (pairs_c v id _ _ ?_ (by omega) _ _ ?_)
      · exact ((n2.mono (by omega)).upd (by omega) rfl).upd (by omega) (by simp [Obj'.refs, V.refss, V.refs])
      simp +contextual only [go_sem, ob, obv, oid, Nat.add_assoc, Nat.left_eq_add, Nat.add_eq_left, Nat.add_left_cancel_iff, b5, b6, b7]
      refine rng_intro [.junk, .junk, .ptr nx 0, .ptr (nx + 1) 0, .junk, .ptr (nx' + 1) 0] ?_ ?_
      · exact keptE_junk (keptE_junk (keptE_v rfl (keptE_v rfl (keptE_junk (keptE_v rfl keptE_nil)))))
      generalize hL : Obj'.loop Try.prog.funcs.size 112 [.junk, .junk, .ptr nx 0, .ptr (nx + 1) 0, .junk, .ptr (nx' + 1) 0] [50, 51] _ _ .ready none = L
      have hLno : L ≠ .no := by rw [← hL]; exact Obj'.noConfusion
      have hLr : L.refs.all (fun r => decide (r < nx' + 12)) = true := by
        rw [← hL]
        simp [Obj'.refs, V.refss, V.refs]
        omega
      refine rounds_c s v l (zeroL v l) (nv := nv) hl (fun m hm => (hok m hm).lc) hv (nx' + 11) (nx' + 6) (nx' + 7) id (nx' + 1) _ (upd (upd (upd o' (nx' + 6) (.row [.ptr id 0])) (nx' + 7) (.row [.d (.i v)])) (nx' + 11) L) (nx' + 12) ?_ (.osl (nx' + 2) 0) ⟨Nat.le_refl _, ?_, fun j g1 g2 => ?_, ?_, .inr ⟨nx' + 2, 0, fun _ => ⟨by omega, ?_⟩, rfl, ?_⟩⟩ ?_ ?_ ?_ (by omega) (by omega) (by omega) (by omega) (by omega) _ _ (Nat.le_trans (List.length_filter_le _ _) hl) ?_ ?_
      · refine Good.upd (Good.upd (Good.upd (n2.mono (by omega)) (by omega) ?_) (by omega) rfl) (by omega) hLr
        simp [Obj'.refs, V.refss, V.refs]; omega
      · refine Good.upd (Good.upd (Good.upd (Good.upd (Good.upd (n2.mono (by omega)) (by omega) rfl) (by omega) ?_) (by omega) ?_) (by omega) rfl) (by omega) hLr
        · simp [Obj'.refs, V.refss, V.refs]
        · simp [Obj'.refs, V.refss, V.refs]; omega
      · by_cases e1 : j = nx' + 2
        · right; subst e1
          rw [upd_ne _ _ _ _ (by omega), upd_ne _ _ _ _ (by omega), upd_ne _ _ _ _ (by omega)]
          exact n2.fresh _ (by omega)
        · left
          simp only [upd]
          by_cases e2 : j = nx' + 11
          · rw [if_pos e2, if_pos e2]
          · rw [if_neg e2, if_neg e2]
            by_cases e3 : j = nx' + 7
            · rw [if_pos e3, if_pos e3]
            · rw [if_neg e3, if_neg e3]
              by_cases e4 : j = nx' + 6
              · rw [if_pos e4, if_pos e4]
              · rw [if_neg e4, if_neg e4, if_neg g2, if_neg e1]
      · repeat (first | rfl | rw [upd_same] | rw [upd_ne _ _ _ _ (by omega)])
      · rw [upd_ne _ _ _ _ (by omega), upd_ne _ _ _ _ (by omega), upd_ne _ _ _ _ (by omega)]
        exact n2.fresh _ (by omega)
      · repeat (first | rfl | rw [upd_same] | rw [upd_ne _ _ _ _ (by omega)])
      · repeat (first | rfl | rw [upd_same] | rw [upd_ne _ _ _ _ (by omega)])
      · repeat (first | rfl | rw [upd_same] | rw [upd_ne _ _ _ _ (by omega)])
      · rw [upd_ne _ _ _ _ (by omega), upd_ne _ _ _ _ (by omega), upd_ne _ _ _ _ (by omega), oid]
      · intro acc a b o1 nx1 z K' X' ha hb hal hI hpost
        have hle := hI.le
        have pL : o1 (nx' + 11) = L := by
          rcases hI.same (nx' + 11) (by omega) (by omega) with h | h
          · rw [h, upd_same]
          · rw [upd_same] at h; exact absurd h hLno
        have p0 : o1 nx = .row [.ptr id 0] := by
          have := hI.same nx (by omega) (by omega)
          rw [upd_ne _ _ _ _ (by omega), upd_ne _ _ _ _ (by omega), upd_ne _ _ _ _ (by omega), ob] at this
          rcases this with h | h
          · exact h
          · cases h
        have p1 : o1 (nx + 1) = .row [.d (.i v)] := by
          have := hI.same (nx + 1) (by omega) (by omega)
          rw [upd_ne _ _ _ _ (by omega), upd_ne _ _ _ _ (by omega), upd_ne _ _ _ _ (by omega), obv] at this
          rcases this with h | h
          · exact h
          · cases h
        have p2 : o1 id = .row [.d (.i s.vars), .d (.sl (s.rows.map Row.d)), .d (.sl (l.map Made.d))] := by
          have := hI.same id (by omega) (by omega)
          rw [upd_ne _ _ _ _ (by omega), upd_ne _ _ _ _ (by omega), upd_ne _ _ _ _ (by omega), oid] at this
          rcases this with h | h
          · exact h
          · cases h
        have p3 := hI.row
        have hpost2 : roundPost s v a b acc (nx' + 11) (nx' + 1) o1 nx1 z K' X' (pairF s v a b) := by
          cases hp : pairF s v a b with
          | none =>
            rw [hp] at hpost
            intro o2 nx2 m1 m2 m3
            refine hpost o2 nx2 m1 m2 (fun j g4 g5 g6 => ?_)
            rw [m3 j (by omega) g5 g6]
            exact hI.same j g4 g5
          | some x =>
            rw [hp] at hpost
            intro o2 nx2 j2 e2 m1 m2 m3 m4 m5 m6
            refine hpost o2 nx2 (.osl j2 e2) m1 ⟨by omega, m2, fun j g4 g5 => ?_, m4, .inr ⟨j2, e2, fun h => ?_, rfl, m5⟩⟩ (fun j g4 g5 _ g7 => m3 j g4 g5 g7)
            · rcases hI.grows with ⟨rfl, q2, q3⟩ | ⟨jd, ep, q1, rfl, q3⟩
              · rw [m3 j (by omega) g5 (fun ep h => by cases h)]
                exact hI.same j g4 g5
              · by_cases e : j = jd
                · subst e; exact .inr (q1 g4).2
                · rw [m3 j (by omega) g5 (fun ep h => by injection h with h; exact e h.symm)]
                  exact hI.same j g4 g5
            · rcases m6 with m6 | ⟨ep, m6⟩
              · omega
              · rcases hI.grows with ⟨q1, q2, q3⟩ | ⟨jd, ep2, q1, q2, q3⟩
                · rw [q1] at m6; cases m6
                · rw [q2] at m6
                  injection m6 with m6
                  subst m6
                  exact q1 h
        rcases hI.grows with ⟨rfl, g2, g3⟩ | ⟨jd, ep, g1, rfl, g3⟩
        · exact roundNil s v l acc a b (hok a ha) (hok b hb) hv hnv hnr hsr hal nx (nx + 1) id (nx' + 1) (nx' + 11) o1 nx1 hI.good (pL.trans hL.symm) p0 p1 p2 p3 (by simpa using g2) K' X' hpost2
        · exact roundOsl s v l acc a b (hok a ha) (hok b hb) hv hnv hnr hsr hal nx (nx + 1) id (nx' + 1) (nx' + 11) o1 nx1 jd ep hI.good (pL.trans hL.symm) p0 p1 p2 p3 g3 K' X' hpost2
      · cases ho2 : outP s v l (zeroL v l) l.length with
        | none =>
          intro o1 nx1 g1 g2 g3
          refine k2 _ _ ?_
          simp +contextual only [go_sem]
          have hel : elimE s v l = none := by simp only [elimE, rawE, hno, ho2]; rfl
          rw [hel] at hK
          refine hK _ _ (by omega) g2 (fun j g4 g5 => ?_)
          have := g3 j (by omega) (by omega) (by omega)
          rw [upd_ne _ _ _ _ (by omega), upd_ne _ _ _ _ (by omega), upd_ne _ _ _ _ (by omega), n3 _ (by omega), upd_ne _ _ _ _ (by omega), upd_ne _ _ _ _ (by omega)] at this
          exact this
        | some out =>
          intro o1 nx1 z hI
          have hraw : rawE s v l = some out := by simp only [rawE, hno]; exact ho2
          have oL : o1 (nx' + 11) = L := by
            rcases hI.same (nx' + 11) (by omega) (by omega) with h | h
            · rw [h, upd_same]
            · rw [upd_same] at h; exact absurd h hLno
          have hle := hI.le
          refine ⟨_, _, _, _, _, _, _, _, oL.trans hL.symm, fun h => (by cases h), ?_⟩
          refine k1 _ ⟨out, z, ⟨hraw, by simp +contextual only [go_sem], by simp +contextual only [go_sem], ?_, by show nx ≤ nx1; omega, fun j g1 => ?_, ?_, ?_, ?_⟩⟩
          · refine hI.good.upd (by omega) ?_
            simp [Obj'.refs, V.refss, V.refs]; omega
          · have := hI.same j (by omega) (by omega)
            rw [upd_ne _ _ _ _ (by omega), upd_ne _ _ _ _ (by omega), upd_ne _ _ _ _ (by omega), n3 _ (by omega), upd_ne _ _ _ _ (by omega), upd_ne _ _ _ _ (by omega)] at this
            show upd o1 (nx' + 11) _ j = o j ∨ _
            rw [upd_ne _ _ _ _ (by omega)]
            exact this
          · have := hI.same nx (by omega) (by omega)
            rw [upd_ne _ _ _ _ (by omega), upd_ne _ _ _ _ (by omega), upd_ne _ _ _ _ (by omega), ob] at this
            show upd o1 (nx' + 11) _ nx = _
            rw [upd_ne _ _ _ _ (by omega)]
            rcases this with h | h
            · exact h
            · cases h
          · show upd o1 (nx' + 11) _ (nx' + 1) = _
            rw [upd_ne _ _ _ _ (by omega)]
            exact hI.row
          · rcases hI.grows with h | ⟨jd, ep, g1, g2, g3⟩
            · exact .inl h
            · refine .inr ⟨jd, ep, fun g4 => ?_, g2, ?_⟩
              · have := (g1 (by omega)).2
                rw [upd_ne _ _ _ _ (by omega), upd_ne _ _ _ _ (by omega), upd_ne _ _ _ _ (by omega), n3 _ (by omega), upd_ne _ _ _ _ (by omega), upd_ne _ _ _ _ (by omega)] at this
                exact this
              · show upd o1 (nx' + 11) _ jd = _
                rw [upd_ne _ _ _ _ (fun e => by subst e; rw [oL, ← hL] at g3; cases g3)]
                exact g3
end Go.Proofs.Ytaafchgfibbmhaa
namespace Go.Proofs.Ytaafchgfibbmhaa
def curE (s : Sys) : Nat → Option (List Made)
  | 0 => some (beginL s s.rows.length)
  | k + 1 => (curE s k).bind (elimE s k)
def curA (s : Sys) (k : Nat) : List Made := (curE s k).getD []
def stD (l : List Made) : D := .sl (l.map Made.d)
def stagesD (s : Sys) (n : Nat) : List D := (List.range (n + 1)).map fun k => stD (curA s k)
theorem curE_none {s : Sys} {k : Nat} (h : curE s k = none) : ∀ j, curE s (k + j) = none
  | 0 => h
  | j + 1 => by rw [← Nat.add_assoc]; simp only [curE, curE_none h j, Option.bind_none]
theorem begin_ok {s : Sys} (hc : checkF s = true) : ∀ k, ∀ m ∈ beginL s k, m.Ok s.vars.toNat s.rows.length
  | 0, m, h => by simp [beginL] at h
  | k + 1, m, h => by
    simp only [beginL] at h
    rcases List.mem_append.1 h with h | h
    · exact begin_ok hc k m h
    · split at h
      · rename_i r hr
        split at h
        · cases h
        · simp only [List.mem_singleton] at h
          subst h
          obtain ⟨v1, v5, r10, hall⟩ := check_rows hc
          obtain ⟨e1, e2, e3, _⟩ := hall r (List.mem_of_getElem? hr)
          refine Made.ok_of_big ?_ ?_ (first_num hc hr).2
          · rw [redM_lc]; simp only [firstM]; omega
          · rw [redM_lt]; simp [firstM, unitL]
      · cases h
theorem curE_ok {s : Sys} (hc : checkF s = true) : ∀ {k : Nat} {l : List Made}, curE s k = some l → (∀ m ∈ l, m.Ok s.vars.toNat s.rows.length) ∧ l.length ≤ 200
  | 0, l, h => by
    simp only [curE, Option.some.injEq] at h
    subst h
    have := beginL_length s s.rows.length
    obtain ⟨v1, v5, r10, hall⟩ := check_rows hc
    exact ⟨begin_ok hc _, by omega⟩
  | k + 1, l, h => by
    simp only [curE] at h
    cases hk : curE s k with
    | none => rw [hk] at h; cases h
    | some l0 =>
      rw [hk] at h
      exact elimE_ok (curE_ok hc hk).1 h
def stagesR (s : Sys) (n : Nat) : R := match curE s n with | some _ => .ret [.sl (stagesD s n)] | none => .pan tooD
@[reducible] def sBody : IC :=
  (.seq (.reg [bo .lss 20 3 19 18 3]) (.seq (.cond (.tmp 20) .skip (.exit 0)) (.seq (.block 1 (.seq (.reg [mv 21 19,
 sg 7 21]) (.seq (.reg [mv 22 5,
 mv 23 7,
 k2 24 91 22 23 105 3]) (.reg [mv 25 6,
 mv 26 5,
 nc 27 26,
 fa 28 107 27 1,
 ld 29 34 28,
 ⟨(some 30), .buildSlice 37 1 #[(0, .tmp 29)], none⟩,
 ⟨(some 31), .call { callee := .builtin .append, args := #[.tmp 25, .tmp 30], argTypes := #[37, 37] }, none⟩,
 sg 6 31])))) (.reg [bk .add 32 3 19 1 3,
 mv 19 32]))))
@[reducible] noncomputable def sSt (s : Sys) (n k : Nat) : S :=
  ⟨envJ [.junk, .junk, .junk, .junk, .junk, .ptr 4 0, .osl 5 0, .junk, .junk, .junk, .junk, .junk, .junk, .junk, .junk, .junk, .junk, .junk, .d (.i n), .d (.i k)], upd (upd (fun _ => .no) 5 (.arr 0 34 1 (stagesD s k))) 4 (.row [.d (.i s.vars), .d (.sl (s.rows.map Row.d)), .d (stD (curA s k))]), 6⟩
def sLoop (s : Sys) (n : Nat) (S0 : S) : Prop := loopS 0 (fun Q t => evW Try.prog 34 0 false sBody Q t) (blockQ 0 (thenQ (fun t => evW Try.prog 34 0 false (.seq (.reg [mv 33 6, sg 4 33]) .ret) (endW Try.prog [.tmp 4] (stagesR s n)) t) (endW Try.prog [.tmp 4] (stagesR s n)))) S0
theorem sLoop_c (s : Sys) (hc : checkF s = true) (n : Nat) (hn : (n : Int) ≤ s.vars) (S0 : S) (h0 : SLe 0 S0 (sSt s n 0)) : sLoop s n S0 := by
  obtain ⟨v1, v5, r10, hall⟩ := check_rows hc
  unfold sLoop
  refine loop_fam (sSt s n) (fun k => k ≤ n ∧ (curE s k).isSome = true) (fun k => n - k) 0 ⟨Nat.zero_le _, rfl⟩ h0 (fun k hk => ?_)
  obtain ⟨cur, hcur⟩ := Option.isSome_iff_exists.1 hk.2
  have hA : curA s k = cur := by simp [curA, hcur]
  obtain ⟨hok, h200⟩ := curE_ok hc hcur
  simp only [sBody]
  simp +contextual only [go_sem]
  refine cond_intro (fun h2 => ?_) (fun h2 => ?_)
  · simp at h2
    simp +contextual only [go_sem, hA, stD]
    refine callR_heap (eliminate_c s cur k hok (by omega) (by omega) r10 rfl (by omega) 4 _ ?_ _ ?_ _ _ ?_)
    · repeat (first | rfl | rw [upd_same] | rw [upd_ne _ _ _ _ (by omega)])
    · exact ((Good.nil (nx := 11)).upd (by omega) rfl).upd (by omega) rfl
    have hcs : curE s (k + 1) = elimE s k cur := by simp only [curE, hcur, Option.bind_some]
    cases he : elimE s k cur with
    | none =>
      intro o1 nx1 m1 m2 m3
      have hno : curE s n = none := by
        have := curE_none (hcs.trans he) (n - (k + 1))
        rwa [show k + 1 + (n - (k + 1)) = n by omega] at this
      simp +contextual only [go_sem, stagesR, hno]
    | some out =>
      intro o1 nx1 z m1 m2 m3 m4 m5
      have hA1 : curA s (k + 1) = out := by simp [curA, hcs, he]
      have m5' : o1 5 = .arr 0 34 1 (stagesD s k) := by
        rcases m3 5 (by omega) (by omega) with h | h
        · rw [h, upd_ne _ _ _ _ (by omega), upd_same]
        · rw [upd_ne _ _ _ _ (by omega), upd_same] at h; cases h
      have hll : (stagesD s k).length = k + 1 := by simp [stagesD]
      have h8f : (stagesD s k).length ≤ 140737488355327 := by omega
      have h8g : ((stagesD s k).length + 1) * 24 ≤ 140737488355328 := by omega
      have q0 : 4 ≠ nx1 := by omega
      have q1 : ∀ k, 4 ≠ nx1 + k := fun k => by omega
      have q2 : 5 ≠ nx1 := by omega
      have q3 : ∀ k, 5 ≠ nx1 + k := fun k => by omega
      have q4 := Ne.symm q0
      have q5 : ∀ k, nx1 + k ≠ 4 := fun k => by omega
      have q6 := Ne.symm q2
      have q7 : ∀ k, nx1 + k ≠ 5 := fun k => by omega
      have hst : stagesD s (k + 1) = stagesD s k ++ [stD out] := by
        simp only [stagesD]
        rw [List.range_succ, List.map_append, List.map_cons, List.map_nil, hA1]
      rcases m5 with ⟨rfl, c2, c3⟩ | ⟨zi, ep, c1, rfl, c3⟩
      · have hout : out = [] := by simpa using c2
        subst hout
        simp +contextual only [go_sem, m4, m5', Nat.add_assoc, Nat.left_eq_add, Nat.add_eq_left, Nat.add_left_cancel_iff, h8f, h8g, q0, q1, q2, q3, q4, q5, q6, q7, if_true, if_false]
        refine nextS_intro (k + 1) ⟨by omega, by rw [hcs, he]; rfl⟩ (by omega) ?_
        simp only [sSt]
        refine SLe.convD (fun j => 5 ≤ j) _ (.osl 5 1) 4 [.d (.i s.vars), .d (.sl (s.rows.map Row.d)), .nils] _ (by omega) (by omega) (by omega) Good.nil (fun j k1 k2 => by omega) (fun j k1 k2 => .inr rfl) ?_ (convL_d (convL_d (convL_c ?_ (by simp [V.ids]) convL_nil))) (.inr ⟨5, 1, by omega, rfl, ?_⟩) ?_
        · rw [upd_ne _ _ _ _ (by omega), upd_ne _ _ _ _ (by omega), m4]
        · simp [toD, stD, hA1]
        · rw [upd_same, hst]; rfl
        · repeat (first | exact convE_nil | refine convE_junk ?_ | refine convE_x rfl ?_ | refine convE_d rfl ?_ | refine convE_d (d_int (wrapN (by omega))) ?_ | refine convE_v rfl (by simp [V.refs] <;> omega) ?_)
      · have hzn : zi < nx1 := m2.lt (by rw [c3]; exact Obj'.noConfusion)
        have r0 : zi ≠ 4 := by omega
        have r1 : zi ≠ 5 := by omega
        have r2 : zi ≠ nx1 := by omega
        have r3 : ∀ k, zi ≠ nx1 + k := fun k => by omega
        have r4 := Ne.symm r0
        have r5 := Ne.symm r1
        have r6 := Ne.symm r2
        have r7 : ∀ k, nx1 + k ≠ zi := fun k => by omega
        simp +contextual only [go_sem, m4, m5', c3, Nat.add_assoc, Nat.left_eq_add, Nat.add_eq_left, Nat.add_left_cancel_iff, h8f, h8g, q0, q1, q2, q3, q4, q5, q6, q7, r0, r1, r2, r3, r4, r5, r6, r7, if_true, if_false]
        refine nextS_intro (k + 1) ⟨by omega, by rw [hcs, he]; rfl⟩ (by omega) ?_
        simp only [sSt]
        refine SLe.convD (fun j => 5 ≤ j) _ (.osl 5 1) 4 [.d (.i s.vars), .d (.sl (s.rows.map Row.d)), .osl zi ep] _ (by omega) (by omega) (by omega) Good.nil (fun j k1 k2 => by omega) (fun j k1 k2 => .inr rfl) ?_ (convL_d (convL_d (convL_c ?_ ?_ convL_nil))) (.inr ⟨5, 1, by omega, rfl, ?_⟩) ?_
        · rw [upd_ne _ _ _ _ (by omega), upd_ne _ _ _ _ (by omega), upd_ne _ _ _ _ (by omega), m4]
        · simp only [toD]
          rw [upd_ne _ _ _ _ (by omega), upd_ne _ _ _ _ (by omega), upd_same]
          simp [stD, hA1]
        · intro r hr
          simp [V.ids] at hr
          subst hr
          refine ⟨by omega, fun e h => ?_⟩
          injection h with h; omega
        · rw [upd_same, hst]; rfl
        · repeat (first | exact convE_nil | refine convE_junk ?_ | refine convE_x rfl ?_ | refine convE_d rfl ?_ | refine convE_d (d_int (wrapN (by omega))) ?_ | refine convE_v rfl (by simp [V.refs] <;> omega) ?_)
  · simp +contextual only [go_sem]
    simp at h2
    have hkn : k = n := by omega
    subst hkn
    simp only [stagesR, hcur]
theorem stages_c (s : Sys) (hc : checkF s = true) (n : Nat) (hn : (n : Int) ≤ s.vars) : PCt Try.prog 62 [s.d, .i n] (stagesR s n) := by
  obtain ⟨v1, v5, r10, hall⟩ := check_rows hc
  refine PCt.of_ev mix fn62 (by simp) ?_
  rw [c62]
  simp +contextual only [go_sem]
  refine callR_heap (begin_c s hc _ _ ?_ _ ?_ _ _ (fun o1 nx1 z m1 m2 m3 m4 m5 => ?_))
  · simp +contextual only [go_sem]
  · exact (Good.upd (Good.upd (Good.nil (nx := 7)) (by omega) rfl) (by omega) rfl)
  have hloop : ∀ S0, SLe 0 S0 (sSt s n 0) → sLoop s n S0 := sLoop_c s hc n hn
  have hb0 : curA s 0 = beginL s s.rows.length := rfl
  rcases m5 with ⟨rfl, c2, c3⟩ | ⟨zi, ep, c1, rfl, c3⟩
  · simp +contextual only [go_sem, m4, Nat.add_assoc, Nat.left_eq_add, Nat.add_eq_left, Nat.add_left_cancel_iff]
    refine hloop _ ?_
    simp only [sSt]
    refine SLe.convD (fun j => 5 ≤ j) _ (.osl (nx1 + 4) 0) 4 [.d (.i s.vars), .d (.sl (s.rows.map Row.d)), .nils] _ (by omega) (by omega) (by omega) Good.nil (fun j k1 k2 => by omega) (fun j k1 k2 => .inr rfl) ?_ (convL_d (convL_d (convL_c ?_ (by simp [V.ids]) convL_nil))) (.inr ⟨nx1 + 4, 0, by omega, rfl, ?_⟩) ?_
    · rw [upd_ne _ _ _ _ (by omega), m4]
    · have : beginL s s.rows.length = [] := by simpa using c2
      simp [toD, stD, hb0, this]
    · have : beginL s s.rows.length = [] := by simpa using c2
      rw [upd_same]; simp [stagesD, hb0, this, stD]
    · repeat (first | exact convE_nil | refine convE_junk ?_ | refine convE_x rfl ?_ | refine convE_d rfl ?_ | refine convE_d (d_int (wrapN (by omega))) ?_ | refine convE_v rfl (by simp [V.refs] <;> omega) ?_)
  · have hzn : zi < nx1 := m2.lt (by rw [c3]; exact Obj'.noConfusion)
    simp +contextual only [go_sem, m4, c3, Nat.add_assoc, Nat.left_eq_add, Nat.add_eq_left, Nat.add_left_cancel_iff]
    refine hloop _ ?_
    simp only [sSt]
    refine SLe.convD (fun j => 5 ≤ j) _ (.osl (nx1 + 4) 0) 4 [.d (.i s.vars), .d (.sl (s.rows.map Row.d)), .osl zi ep] _ (by omega) (by omega) (by omega) Good.nil (fun j k1 k2 => by omega) (fun j k1 k2 => .inr rfl) ?_ (convL_d (convL_d (convL_c ?_ ?_ convL_nil))) (.inr ⟨nx1 + 4, 0, by omega, rfl, ?_⟩) ?_
    · rw [upd_ne _ _ _ _ (by omega), upd_ne _ _ _ _ (by omega), m4]
    · simp only [toD]
      rw [upd_ne _ _ _ _ (by omega), upd_same]
      simp [stD, hb0]
    · intro r hr
      simp [V.ids] at hr
      subst hr
      refine ⟨by omega, fun e h => ?_⟩
      injection h with h; omega
    · rw [upd_same]; simp [stagesD, hb0, stD]
    · repeat (first | exact convE_nil | refine convE_junk ?_ | refine convE_x rfl ?_ | refine convE_d rfl ?_ | refine convE_d (d_int (wrapN (by omega))) ?_ | refine convE_v rfl (by simp [V.refs] <;> omega) ?_)
end Go.Proofs.Ytaafchgfibbmhaa
