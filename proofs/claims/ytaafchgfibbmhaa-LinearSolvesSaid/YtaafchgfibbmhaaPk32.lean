/-
  A PART OF THE PROOF (put together by program): several texts, one behind the other. Conditions: none.
-/
import Derived.Test.YtaafchgfibbmhaaPk31
set_option linter.unusedSimpArgs false
set_option linter.unusedVariables false
namespace Go.Proofs.Ytaafchgfibbmhaa
def useV (s : Sys) (e : Made) (v : Nat) (m : Made) : Made := if 0 < e.r.c.getD v 0 then sumM s (e.r.c.getD v 0) m (-m.r.c.getD v 0) e else sumM s (-e.r.c.getD v 0) m (m.r.c.getD v 0) e
def useRone (s : Sys) (e : Made) (v at' i : Nat) (m : Made) : List Made := if i = at' then [] else if m.r.c.getD v 0 = 0 then [m] else [useV s e v m]
def useR (s : Sys) (l : List Made) (e : Made) (v at' : Nat) : Nat → List Made
  | 0 => []
  | k + 1 => useR s l e v at' k ++ (match l[k]? with | some m => useRone s e v at' k m | none => [])
theorem useRone_len {s : Sys} {e : Made} {v at' i : Nat} {m : Made} : (useRone s e v at' i m).length ≤ 1 := by
  unfold useRone
  split
  · simp
  · split <;> simp
theorem useR_len {s : Sys} {l : List Made} {e : Made} {v at' : Nat} : ∀ k, (useR s l e v at' k).length ≤ k
  | 0 => Nat.le_refl _
  | k + 1 => by
    have := useR_len (s := s) (l := l) (e := e) (v := v) (at' := at') k
    simp only [useR, List.length_append]
    split
    · rename_i m _; have := useRone_len (s := s) (e := e) (v := v) (at' := at') (i := k) (m := m); omega
    · simp; omega
theorem using'_c (s : Sys) (l : List Made) (e : Made) (v at' : Nat) (hat : l[at']? = some e) {nv nr : Nat} (hok : ∀ m ∈ l, m.Ok nv nr) (hv : v < nv) (hnv : nv ≤ 5) (hnr : nr ≤ 10) (hsv : s.vars = nv) (hsr : s.rows.length = nr) (hl : l.length ≤ 1000) :
    PCt Try.prog 95 [s.d, stD l, .i v, .i at'] (.ret [stD (useR s l e v at' l.length)]) := by
  have hatl : at' < l.length := (List.getElem?_eq_some_iff.1 hat).1
  have hem := hok e (List.mem_of_getElem? hat)
  have hev : e.r.c[v]? = some (e.r.c.getD v 0) := by
    have := hem.lc
    rw [List.getD_eq_getElem?_getD, List.getElem?_eq_getElem (by omega)]; rfl
  have hec := hem.c _ (List.mem_of_getElem? hev)
  refine PCt.of_ev mix fn95 (by simp) ?_
  rw [c95]
  simp +contextual only [go_sem, Sys.d, stD, hat, hev, Made.d, Row.d]
  have hg7 : Good (upd s.o 6 (madeRow e)) 7 := (s.o_good.mono (by omega)).upd (by omega) rfl
  refine loop_fam (fun k : Nat => ⟨envJ [.junk, .d (stD l), .d (.i v), .d (.i at'), .ptr 0 0, .junk, .junk, .junk, .junk, .ptr 6 0, .d (.i (e.r.c.getD v 0)), .osl 7 0, .d (.i k)], upd (upd s.o 6 (madeRow e)) 7 (.arr 0 47 4 ((useR s l e v at' k).map Made.d)), 7 + 1⟩)
    (fun k => k ≤ l.length) (fun k => l.length - k) 0 (Nat.zero_le _) (SLe.grow _ .nils (by omega) (by omega) hg7 (fun j hj => ?_) (.inl ⟨rfl, rfl, by decide⟩) ?_) (fun k hk => ?_)
  · rw [upd_upd]
  · repeat (first | exact growE_nil | refine growE_junk ?_ | refine growE_x rfl ?_ | refine growE_d rfl ?_ | refine growE_d (d_int (wrapN (by omega))) ?_ | refine growE_v rfl (by simp [V.refs] <;> omega) ?_)
  simp +contextual only [go_sem, stD]
  refine cond_intro (fun h2 => ?_) (fun h2 => ?_)
  · simp at h2
    obtain ⟨m, hm⟩ : ∃ m, l[k]? = some m := ⟨l[k], List.getElem?_eq_getElem _⟩
    have hmm := hok m (List.mem_of_getElem? hm)
    have hmv : m.r.c[v]? = some (m.r.c.getD v 0) := by
      have := hmm.lc
      rw [List.getD_eq_getElem?_getD, List.getElem?_eq_getElem (by omega)]; rfl
    have hmc := hmm.c _ (List.mem_of_getElem? hmv)
    have hlenA := useR_len (s := s) (l := l) (e := e) (v := v) (at' := at') k
    have h8f : (useR s l e v at' k).length ≤ 140737488355327 := by omega
    have h8g : ((useR s l e v at' k).length + 1) * 64 ≤ 140737488355328 := by omega
    simp +contextual only [go_sem, hm, hmv, hat, hev, Sys.d, stD, Made.d, Row.d, if_true, if_false, h8f, h8g]
    refine cond_intro (fun h3 => ?_) (fun h3 => ?_)
    · simp at h3
      simp +contextual only [go_sem, hm, hmv, hat, hev, Sys.d, stD, Made.d, Row.d, if_true, if_false, h8f, h8g]
      have hu : useRone s e v at' k m = [] := by rw [useRone, if_pos (by omega)]
      have hA2 : useR s l e v at' (k + 1) = useR s l e v at' k := by simp only [useR, hm, hu, List.append_nil]
      rw [← hA2]
      refine nextS_intro (k + 1) (by omega) (by omega) (SLe.grow _ (.osl 7 0) (by omega) (by omega) hg7 (fun j hj => ?_) (.inr ⟨7, 0, by omega, rfl, ?_⟩) ?_)
      · repeat (first | rfl | rw [upd_same] | rw [upd_ne _ _ _ _ (by omega)])
      · repeat (first | rfl | rw [upd_same] | rw [upd_ne _ _ _ _ (by omega)])
      · repeat (first | exact growE_nil | refine growE_junk ?_ | refine growE_x rfl ?_ | refine growE_d rfl ?_ | refine growE_d (d_int (wrapN (by omega))) ?_ | refine growE_v rfl (by simp [V.refs] <;> omega) ?_)
    simp at h3
    have h3' : ¬ (k = at') := by omega
    simp +contextual only [go_sem, hm, hmv, hat, hev, Sys.d, stD, Made.d, Row.d, if_true, if_false, h8f, h8g]
    refine cond_intro (fun h4 => ?_) (fun h4 => ?_)
    · have h4' : m.r.c.getD v 0 = 0 := by simpa using h4
      simp +contextual only [go_sem, hm, hmv, hat, hev, Sys.d, stD, Made.d, Row.d, if_true, if_false, h8f, h8g]
      have hu : useRone s e v at' k m = [m] := by rw [useRone, if_neg h3', if_pos h4']
      have hA2 : (useR s l e v at' k).map Made.d ++ [m.d] = (useR s l e v at' (k + 1)).map Made.d := by simp only [useR, hm, hu, List.map_append, List.map_cons, List.map_nil]
      rw [hA2]
      refine nextS_intro (k + 1) (by omega) (by omega) (SLe.grow _ (.osl 7 1) (by omega) (by omega) hg7 (fun j hj => ?_) (.inr ⟨7, 1, by omega, rfl, ?_⟩) ?_)
      · repeat (first | rfl | rw [upd_same] | rw [upd_ne _ _ _ _ (by omega)])
      · repeat (first | rfl | rw [upd_same] | rw [upd_ne _ _ _ _ (by omega)])
      · repeat (first | exact growE_nil | refine growE_junk ?_ | refine growE_x rfl ?_ | refine growE_d rfl ?_ | refine growE_d (d_int (wrapN (by omega))) ?_ | refine growE_v rfl (by simp [V.refs] <;> omega) ?_)
    have h4' : ¬ (m.r.c.getD v 0 = 0) := by simpa using h4
    simp +contextual only [go_sem, hm, hmv, hat, hev, Sys.d, stD, Made.d, Row.d, if_true, if_false, h8f, h8g]
    refine cond_intro (fun h5 => ?_) (fun h5 => ?_)
    · have h5' : 0 < e.r.c.getD v 0 := by simpa using h5
      simp +contextual only [go_sem, hm, hmv, hat, hev, Sys.d, stD, Made.d, Row.d, if_true, if_false, h8f, h8g]
      rw [wrap64 (n := -m.r.c.getD v 0) (by omega) (by omega)]
      have hsum := sum'_c s (e.r.c.getD v 0) m (-m.r.c.getD v 0) e hmm hem hnv hnr hsv hsr (by omega) (by omega)
      refine callD_give hsum ?_
      simp +contextual only [go_sem, hm, hmv, hat, hev, Sys.d, stD, Made.d, Row.d, if_true, if_false, h8f, h8g]
      refine end_intro (by decide) ?_
      simp +contextual only [go_sem, hm, hmv, hat, hev, Sys.d, stD, Made.d, Row.d, if_true, if_false, h8f, h8g]
      have hu : useRone s e v at' k m = [sumM s (e.r.c.getD v 0) m (-m.r.c.getD v 0) e] := by rw [useRone, if_neg h3', if_neg h4', useV, if_pos h5']
      have hA2 : (useR s l e v at' k).map Made.d ++ [(sumM s (e.r.c.getD v 0) m (-m.r.c.getD v 0) e).d] = (useR s l e v at' (k + 1)).map Made.d := by simp only [useR, hm, hu, List.map_append, List.map_cons, List.map_nil]
      rw [hA2]
      refine nextS_intro (k + 1) (by omega) (by omega) (SLe.grow _ (.osl 7 1) (by omega) (by omega) hg7 (fun j hj => ?_) (.inr ⟨7, 1, by omega, rfl, ?_⟩) ?_)
      · repeat (first | rfl | rw [upd_same] | rw [upd_ne _ _ _ _ (by omega)])
      · repeat (first | rfl | rw [upd_same] | rw [upd_ne _ _ _ _ (by omega)])
      · repeat (first | exact growE_nil | refine growE_junk ?_ | refine growE_x rfl ?_ | refine growE_d rfl ?_ | refine growE_d (d_int (wrapN (by omega))) ?_ | refine growE_v rfl (by simp [V.refs] <;> omega) ?_)
    · have h5' : ¬ (0 < e.r.c.getD v 0) := by simpa using h5
      simp +contextual only [go_sem, hm, hmv, hat, hev, Sys.d, stD, Made.d, Row.d, if_true, if_false, h8f, h8g]
      rw [wrap64 (n := -e.r.c.getD v 0) (by omega) (by omega)]
      have hsum := sum'_c s (-e.r.c.getD v 0) m (m.r.c.getD v 0) e hmm hem hnv hnr hsv hsr (by omega) (by omega)
      refine callD_give hsum ?_
      simp +contextual only [go_sem, hm, hmv, hat, hev, Sys.d, stD, Made.d, Row.d, if_true, if_false, h8f, h8g]
      refine end_intro (by decide) ?_
      simp +contextual only [go_sem, hm, hmv, hat, hev, Sys.d, stD, Made.d, Row.d, if_true, if_false, h8f, h8g]
      have hu : useRone s e v at' k m = [sumM s (-e.r.c.getD v 0) m (m.r.c.getD v 0) e] := by rw [useRone, if_neg h3', if_neg h4', useV, if_neg h5']
      have hA2 : (useR s l e v at' k).map Made.d ++ [(sumM s (-e.r.c.getD v 0) m (m.r.c.getD v 0) e).d] = (useR s l e v at' (k + 1)).map Made.d := by simp only [useR, hm, hu, List.map_append, List.map_cons, List.map_nil]
      rw [hA2]
      refine nextS_intro (k + 1) (by omega) (by omega) (SLe.grow _ (.osl 7 1) (by omega) (by omega) hg7 (fun j hj => ?_) (.inr ⟨7, 1, by omega, rfl, ?_⟩) ?_)
      · repeat (first | rfl | rw [upd_same] | rw [upd_ne _ _ _ _ (by omega)])
      · repeat (first | rfl | rw [upd_same] | rw [upd_ne _ _ _ _ (by omega)])
      · repeat (first | exact growE_nil | refine growE_junk ?_ | refine growE_x rfl ?_ | refine growE_d rfl ?_ | refine growE_d (d_int (wrapN (by omega))) ?_ | refine growE_v rfl (by simp [V.refs] <;> omega) ?_)
  · simp +contextual only [go_sem]
    simp at h2
    have hks : k = l.length := by omega
    subst hks
    rfl
end Go.Proofs.Ytaafchgfibbmhaa
namespace Go.Proofs.Ytaafchgfibbmhaa
def pairR (s : Sys) (v : Nat) (a b : Made) : List Made := if isPair v a b = true then [sumM s (-b.r.c.getD v 0) a (a.r.c.getD v 0) b] else []
def inR (s : Sys) (v : Nat) (l : List Made) (a : Made) : Nat → List Made
  | 0 => []
  | j + 1 => inR s v l a j ++ (match l[j]? with | some b => pairR s v a b | none => [])
def outR (s : Sys) (v : Nat) (l : List Made) : Nat → List Made
  | 0 => zeroL v l
  | i + 1 => outR s v l i ++ (match l[i]? with | some a => inR s v l a l.length | none => [])
theorem pairR_len {s : Sys} {v : Nat} {a b : Made} : (pairR s v a b).length ≤ 1 := by unfold pairR; split <;> simp
theorem inR_len {s : Sys} {v : Nat} {l : List Made} {a : Made} : ∀ j, (inR s v l a j).length ≤ j
  | 0 => Nat.le_refl _
  | j + 1 => by
    have := inR_len (s := s) (v := v) (l := l) (a := a) j
    simp only [inR, List.length_append]
    split
    · rename_i b _; have := pairR_len (s := s) (v := v) (a := a) (b := b); omega
    · simp; omega
theorem outR_len {s : Sys} {v : Nat} {l : List Made} : ∀ i, (outR s v l i).length ≤ l.length + i * l.length
  | 0 => by simp only [outR, zeroL]; have := List.length_filter_le (fun m : Made => m.r.c.getD v 0 == 0) l; omega
  | i + 1 => by
    have := outR_len (s := s) (v := v) (l := l) i
    simp only [outR, List.length_append, Nat.succ_mul]
    split
    · rename_i a _; have := inR_len (s := s) (v := v) (l := l) (a := a) l.length; omega
    · simp; omega
theorem pairing_c (s : Sys) (l : List Made) (v : Nat) {nv nr : Nat} (hok : ∀ m ∈ l, m.Ok nv nr) (hv : v < nv) (hnv : nv ≤ 5) (hnr : nr ≤ 10) (hsv : s.vars = nv) (hsr : s.rows.length = nr) (hl : l.length ≤ 1000) :
    PCt Try.prog 96 [s.d, stD l, .i v] (.ret [stD (outR s v l l.length)]) := by
  refine PCt.of_ev mix fn96 (by simp) ?_
  rw [c96]
  simp +contextual only [go_sem, Sys.d, stD, Made.d, Row.d]
  refine loop_fam (fun k : Nat => ⟨envJ [.junk, .d (stD l), .d (.i v), .ptr 0 0, .junk, .junk, .junk, .osl 1 0, .d (.i k)], upd s.o 1 (.arr 0 47 4 ((zeroL v (l.take k)).map Made.d)), 1 + 1⟩)
    (fun k => k ≤ l.length) (fun k => l.length - k) 0 (Nat.zero_le _) (SLe.grow _ .nils (by omega) (by omega) s.o_good (fun _ _ => rfl) (.inl ⟨rfl, by simp [zeroL], by decide⟩) ?_) (fun k hk => ?_)
  · repeat (first | exact growE_nil | refine growE_junk ?_ | refine growE_x rfl ?_ | refine growE_d rfl ?_ | refine growE_d (d_int (wrapN (by omega))) ?_ | refine growE_v rfl (by simp [V.refs] <;> omega) ?_)
  simp +contextual only [go_sem, stD]
  refine cond_intro (fun h2 => ?_) (fun h2 => ?_)
  · simp at h2
    obtain ⟨m, hm⟩ : ∃ m, l[k]? = some m := ⟨l[k], List.getElem?_eq_getElem _⟩
    have hmm := hok m (List.mem_of_getElem? hm)
    have hmv : m.r.c[v]? = some (m.r.c.getD v 0) := by
      have := hmm.lc
      rw [List.getD_eq_getElem?_getD, List.getElem?_eq_getElem (by omega)]; rfl
    have hlz : (zeroL v (l.take k)).length ≤ k := Nat.le_trans (List.length_filter_le _ _) (by simp; omega)
    have h8f : (zeroL v (l.take k)).length ≤ 140737488355327 := by omega
    have h8g : ((zeroL v (l.take k)).length + 1) * 64 ≤ 140737488355328 := by omega
    simp +contextual only [go_sem, hm, hmv, Sys.d, stD, Made.d, Row.d, if_true, if_false, h8f, h8g]
    refine cond_intro (fun h3 => ?_) (fun h3 => ?_)
    · simp +contextual only [go_sem, hm, hmv, Sys.d, stD, Made.d, Row.d, if_true, if_false, h8f, h8g]
      have hz : (zeroL v (l.take k)).map Made.d ++ [m.d] = (zeroL v (l.take (k + 1))).map Made.d := by
        rw [List.take_add_one, hm]
        simp only [zeroL, List.filter_append, Option.toList_some, List.map_append]
        rw [List.filter_cons, if_pos h3]
        rfl
      rw [hz]
      refine nextS_intro (k + 1) h2 (by omega) (SLe.grow _ (.osl 1 1) (by omega) (by omega) s.o_good (fun j hj => ?_) (.inr ⟨1, 1, by omega, rfl, ?_⟩) ?_)
      · repeat (first | rfl | rw [upd_same] | rw [upd_ne _ _ _ _ (by omega)])
      · repeat (first | rfl | rw [upd_same] | rw [upd_ne _ _ _ _ (by omega)])
      · repeat (first | exact growE_nil | refine growE_junk ?_ | refine growE_x rfl ?_ | refine growE_d rfl ?_ | refine growE_d (d_int (wrapN (by omega))) ?_ | refine growE_v rfl (by simp [V.refs] <;> omega) ?_)
    · simp +contextual only [go_sem, hm, hmv, Sys.d, stD, Made.d, Row.d, if_true, if_false, h8f, h8g]
      have hz : zeroL v (l.take k) = zeroL v (l.take (k + 1)) := by
        rw [List.take_add_one, hm]
        simp only [zeroL, List.filter_append, Option.toList_some]
        rw [List.filter_cons, if_neg (by rw [h3]; exact Bool.noConfusion)]
        simp
      rw [hz]
      refine nextS_intro (k + 1) h2 (by omega) (SLe.grow _ (.osl 1 0) (by omega) (by omega) s.o_good (fun j hj => ?_) (.inr ⟨1, 0, by omega, rfl, ?_⟩) ?_)
      · repeat (first | rfl | rw [upd_same] | rw [upd_ne _ _ _ _ (by omega)])
      · repeat (first | rfl | rw [upd_same] | rw [upd_ne _ _ _ _ (by omega)])
      · repeat (first | exact growE_nil | refine growE_junk ?_ | refine growE_x rfl ?_ | refine growE_d rfl ?_ | refine growE_d (d_int (wrapN (by omega))) ?_ | refine growE_v rfl (by simp [V.refs] <;> omega) ?_)
  simp +contextual only [go_sem]
  simp at h2
  rw [List.take_of_length_le h2]
  refine loop_fam (fun i : Nat => ⟨envJ [.junk, .d (stD l), .d (.i v), .ptr 0 0, .junk, .junk, .junk, .osl 1 0, .junk, .d (.i i)], upd s.o 1 (.arr 0 47 4 ((outR s v l i).map Made.d)), 1 + 1⟩)
    (fun i => i ≤ l.length) (fun i => l.length - i) 0 (Nat.zero_le _) (SLe.grow _ (.osl 1 0) (by omega) (by omega) s.o_good (fun j hj => ?_) (.inr ⟨1, 0, by omega, rfl, ?_⟩) ?_) (fun i hi => ?_)
  · repeat (first | rfl | rw [upd_same] | rw [upd_ne _ _ _ _ (by omega)])
  · repeat (first | rfl | rw [upd_same] | rw [upd_ne _ _ _ _ (by omega)])
  · repeat (first | exact growE_nil | refine growE_junk ?_ | refine growE_x rfl ?_ | refine growE_d rfl ?_ | refine growE_d (d_int (wrapN (by omega))) ?_ | refine growE_v rfl (by simp [V.refs] <;> omega) ?_)
  simp +contextual only [go_sem, stD]
  refine cond_intro (fun h2 => ?_) (fun h2 => ?_)
  · simp at h2
    obtain ⟨a, ha⟩ : ∃ a, l[i]? = some a := ⟨l[i], List.getElem?_eq_getElem _⟩
    have hma := hok a (List.mem_of_getElem? ha)
    have hav : a.r.c[v]? = some (a.r.c.getD v 0) := by
      have := hma.lc
      rw [List.getD_eq_getElem?_getD, List.getElem?_eq_getElem (by omega)]; rfl
    have hac := hma.c _ (List.mem_of_getElem? hav)
    have hol := outR_len (s := s) (v := v) (l := l) i
    have hil : i * l.length ≤ 1000 * 1000 := Nat.mul_le_mul (by omega) hl
    simp +contextual only [go_sem, ha, hav, stD]
    refine loop_fam (fun j : Nat => ⟨envJ [.junk, .d (stD l), .d (.i v), .ptr 0 0, .junk, .junk, .junk, .osl 1 0, .junk, .d (.i i), .d (.i j)], upd s.o 1 (.arr 0 47 4 ((outR s v l i ++ inR s v l a j).map Made.d)), 1 + 1⟩)
      (fun j => j ≤ l.length) (fun j => l.length - j) 0 (Nat.zero_le _) (SLe.grow _ (.osl 1 0) (by omega) (by omega) s.o_good (fun j hj => ?_) (.inr ⟨1, 0, by omega, rfl, ?_⟩) ?_) (fun j hj => ?_)
    · repeat (first | rfl | rw [upd_same] | rw [upd_ne _ _ _ _ (by omega)])
    · simp only [inR, List.append_nil]
      repeat (first | rfl | rw [upd_same] | rw [upd_ne _ _ _ _ (by omega)])
    · repeat (first | exact growE_nil | refine growE_junk ?_ | refine growE_x rfl ?_ | refine growE_d rfl ?_ | refine growE_d (d_int (wrapN (by omega))) ?_ | refine growE_v rfl (by simp [V.refs] <;> omega) ?_)
    simp +contextual only [go_sem, stD]
    refine cond_intro (fun h3 => ?_) (fun h3 => ?_)
    · simp at h3
      obtain ⟨b, hb⟩ : ∃ b, l[j]? = some b := ⟨l[j], List.getElem?_eq_getElem _⟩
      have hmb := hok b (List.mem_of_getElem? hb)
      have hbv : b.r.c[v]? = some (b.r.c.getD v 0) := by
        have := hmb.lc
        rw [List.getD_eq_getElem?_getD, List.getElem?_eq_getElem (by omega)]; rfl
      have hbc := hmb.c _ (List.mem_of_getElem? hbv)
      have hil2 := inR_len (s := s) (v := v) (l := l) (a := a) j
      have h8f : (outR s v l i ++ inR s v l a j).length ≤ 140737488355327 := by rw [List.length_append]; omega
      have h8g : ((outR s v l i ++ inR s v l a j).length + 1) * 64 ≤ 140737488355328 := by rw [List.length_append]; omega
      simp +contextual only [go_sem, ha, hav, hb, hbv, Sys.d, stD, Made.d, Row.d, if_true, if_false, h8f, h8g]
      refine end_intro (by decide) ?_
      simp +contextual only [go_sem, ha, hav, hb, hbv, Sys.d, stD, Made.d, Row.d, if_true, if_false, h8f, h8g]
      refine cond_intro (fun h4 => ?_) (fun h4 => ?_)
      · have hp : isPair v a b = true := h4
        simp +contextual only [go_sem, ha, hav, hb, hbv, Sys.d, stD, Made.d, Row.d, if_true, if_false, h8f, h8g]
        rw [wrap64 (n := -b.r.c.getD v 0) (by omega) (by omega)]
        refine callD_give (sum'_c s (-b.r.c.getD v 0) a (a.r.c.getD v 0) b hma hmb hnv hnr hsv hsr (by omega) (by omega)) ?_
        simp +contextual only [go_sem, ha, hav, hb, hbv, Sys.d, stD, Made.d, Row.d, if_true, if_false, h8f, h8g]
        refine end_intro (by decide) ?_
        simp +contextual only [go_sem, ha, hav, hb, hbv, Sys.d, stD, Made.d, Row.d, if_true, if_false, h8f, h8g]
        have hA2 : (outR s v l i ++ inR s v l a j).map Made.d ++ [(sumM s (-b.r.c.getD v 0) a (a.r.c.getD v 0) b).d] = (outR s v l i ++ inR s v l a (j + 1)).map Made.d := by
          simp only [inR, hb, pairR, hp, if_true, List.map_append, List.map_cons, List.map_nil, List.append_assoc]
        rw [hA2]
        refine nextS_intro (j + 1) h3 (by omega) (SLe.grow _ (.osl 1 1) (by omega) (by omega) s.o_good (fun j hj => ?_) (.inr ⟨1, 1, by omega, rfl, ?_⟩) ?_)
        · repeat (first | rfl | rw [upd_same] | rw [upd_ne _ _ _ _ (by omega)])
        · repeat (first | rfl | rw [upd_same] | rw [upd_ne _ _ _ _ (by omega)])
        · repeat (first | exact growE_nil | refine growE_junk ?_ | refine growE_x rfl ?_ | refine growE_d rfl ?_ | refine growE_d (d_int (wrapN (by omega))) ?_ | refine growE_v rfl (by simp [V.refs] <;> omega) ?_)
      · have hp : isPair v a b = false := h4
        simp +contextual only [go_sem, ha, hav, hb, hbv, Sys.d, stD, Made.d, Row.d, if_true, if_false, h8f, h8g]
        have hA2 : inR s v l a j = inR s v l a (j + 1) := by simp only [inR, hb, pairR, hp, Bool.false_eq_true, if_false, List.append_nil]
        rw [hA2]
        refine nextS_intro (j + 1) h3 (by omega) (SLe.grow _ (.osl 1 0) (by omega) (by omega) s.o_good (fun j hj => ?_) (.inr ⟨1, 0, by omega, rfl, ?_⟩) ?_)
        · repeat (first | rfl | rw [upd_same] | rw [upd_ne _ _ _ _ (by omega)])
        · repeat (first | rfl | rw [upd_same] | rw [upd_ne _ _ _ _ (by omega)])
        · repeat (first | exact growE_nil | refine growE_junk ?_ | refine growE_x rfl ?_ | refine growE_d rfl ?_ | refine growE_d (d_int (wrapN (by omega))) ?_ | refine growE_v rfl (by simp [V.refs] <;> omega) ?_)
    · simp +contextual only [go_sem, stD]
      simp at h3
      have hjl : j = l.length := by omega
      subst hjl
      have hA2 : outR s v l i ++ inR s v l a l.length = outR s v l (i + 1) := by simp only [outR, ha]
      rw [hA2]
      refine nextS_intro (i + 1) h2 (by omega) (SLe.grow _ (.osl 1 0) (by omega) (by omega) s.o_good (fun j hj => ?_) (.inr ⟨1, 0, by omega, rfl, ?_⟩) ?_)
      · repeat (first | rfl | rw [upd_same] | rw [upd_ne _ _ _ _ (by omega)])
      · repeat (first | rfl | rw [upd_same] | rw [upd_ne _ _ _ _ (by omega)])
      · repeat (first | exact growE_nil | refine growE_junk ?_ | refine growE_x rfl ?_ | refine growE_d rfl ?_ | refine growE_d (d_int (wrapN (by omega))) ?_ | refine growE_v rfl (by simp [V.refs] <;> omega) ?_)
  · simp +contextual only [go_sem]
    simp at h2
    have hks : i = l.length := by omega
    subst hks
    rfl
end Go.Proofs.Ytaafchgfibbmhaa
namespace Go.Proofs.Ytaafchgfibbmhaa
def rawR (s : Sys) (v : Nat) (l : List Made) : List Made :=
  match l.findIdx? (usesF v) with
  | some at' => match l[at']? with
    | some e => useR s l e v at' l.length
    | none => []
  | none => outR s v l l.length
def nextR (s : Sys) (v : Nat) (l : List Made) : List Made × Bool :=
  if (rawR s v l).all bigOk = true then (keptR (rawR s v l) (rawR s v l).length, decide ((rawR s v l).length ≤ 200)) else ([], false)
theorem sumM_lens {s : Sys} {a : Int} {m : Made} {b : Int} {n : Made} {nv nr : Nat} (hm : m.Ok nv nr) (hn : n.Ok nv nr) : (sumM s a m b n).r.c.length = nv ∧ (sumM s a m b n).t.length = nr := by
  refine ⟨?_, ?_⟩
  · rw [sumM, redM_lc]; simp only [rawSum]; rw [comb_length (by rw [hm.lc, hn.lc]), hm.lc]
  · rw [sumM, redM_lt]; simp only [rawSum]; rw [comb_length (by rw [hm.lt, hn.lt]), hm.lt]
theorem useR_lens {s : Sys} {l : List Made} {e : Made} {v at' : Nat} {nv nr : Nat} (he : e.Ok nv nr) (hl : ∀ m ∈ l, m.Ok nv nr) : ∀ k, ∀ x ∈ useR s l e v at' k, x.r.c.length = nv ∧ x.t.length = nr
  | 0, x, h => by simp [useR] at h
  | k + 1, x, h => by
    simp only [useR] at h
    rcases List.mem_append.1 h with h | h
    · exact useR_lens he hl k x h
    · split at h
      · rename_i m hm
        have hmm := hl m (List.mem_of_getElem? hm)
        unfold useRone at h
        split at h
        · cases h
        · split at h
          · simp only [List.mem_singleton] at h; subst h; exact ⟨hmm.lc, hmm.lt⟩
          · simp only [List.mem_singleton] at h; subst h
            unfold useV
            split
            · exact sumM_lens hmm he
            · exact sumM_lens hmm he
      · cases h
theorem inR_lens {s : Sys} {v : Nat} {l : List Made} {a : Made} {nv nr : Nat} (ha : a.Ok nv nr) (hl : ∀ m ∈ l, m.Ok nv nr) : ∀ j, ∀ x ∈ inR s v l a j, x.r.c.length = nv ∧ x.t.length = nr
  | 0, x, h => by simp [inR] at h
  | j + 1, x, h => by
    simp only [inR] at h
    rcases List.mem_append.1 h with h | h
    · exact inR_lens ha hl j x h
    · split at h
      · rename_i b hb
        unfold pairR at h
        split at h
        · simp only [List.mem_singleton] at h; subst h; exact sumM_lens ha (hl b (List.mem_of_getElem? hb))
        · cases h
      · cases h
theorem outR_lens {s : Sys} {v : Nat} {l : List Made} {nv nr : Nat} (hl : ∀ m ∈ l, m.Ok nv nr) : ∀ i, ∀ x ∈ outR s v l i, x.r.c.length = nv ∧ x.t.length = nr
  | 0, x, h => by
    simp only [outR, zeroL] at h
    have := hl x (List.mem_filter.1 h).1
    exact ⟨this.lc, this.lt⟩
  | i + 1, x, h => by
    simp only [outR] at h
    rcases List.mem_append.1 h with h | h
    · exact outR_lens hl i x h
    · split at h
      · rename_i a ha; exact inR_lens (hl a (List.mem_of_getElem? ha)) hl _ x h
      · cases h
theorem rawR_lens {s : Sys} {v : Nat} {l : List Made} {nv nr : Nat} (hl : ∀ m ∈ l, m.Ok nv nr) : ∀ x ∈ rawR s v l, x.r.c.length = nv ∧ x.t.length = nr := by
  unfold rawR
  intro x hx
  split at hx
  · split at hx
    · rename_i e he; exact useR_lens (hl e (List.mem_of_getElem? he)) hl _ x hx
    · cases hx
  · exact outR_lens hl _ x hx
theorem rawR_len {s : Sys} {v : Nat} {l : List Made} (hl : l.length ≤ 1000) : (rawR s v l).length ≤ 1002000 := by
  unfold rawR
  split
  · split
    · rename_i e he; have := useR_len (s := s) (l := l) (e := e) (v := v) (at' := ‹Nat›) l.length; omega
    · simp
  · have := outR_len (s := s) (v := v) (l := l) l.length
    have h2 : l.length * l.length ≤ 1000 * 1000 := Nat.mul_le_mul hl hl
    omega
theorem next_c (s : Sys) (l : List Made) (v : Nat) {nv nr : Nat} (hok : ∀ m ∈ l, m.Ok nv nr) (hv : v < nv) (hnv : nv ≤ 5) (hnr : nr ≤ 10) (hsv : s.vars = nv) (hsr : s.rows.length = nr) (hl : l.length ≤ 1000) :
    PCt Try.prog 64 [s.d, stD l, .i v] (.ret [stD (nextR s v l).1, .bool (nextR s v l).2]) := by
  have hrl := rawR_len (s := s) (v := v) hl
  refine PCt.of_ev mix fn64 (by simp) ?_
  rw [c64]
  simp +contextual only [go_sem, Sys.d, stD, Made.d, Row.d]
  refine loop_fam (fun k : Nat => ⟨envJ [.junk, .d (stD l), .d (.i v), .ptr 0 0, .junk, .junk, .junk, .junk, .d (.i k)], s.o, 1⟩)
    (fun k => k ≤ l.length ∧ ∀ m ∈ l.take k, usesF v m = false) (fun k => l.length - k) 0 ⟨Nat.zero_le _, by simp⟩ (SLe.d1 _ s.o_good (by omega) rfl ?_) (fun k hk => ?_)
  · refine backE_junk (backE_d rfl (backE_d rfl (backE_v rfl (by simp [V.refs]) ?_)))
    (repeat (first | exact backE_nil | refine backE_junk ?_ | refine backE_d rfl ?_ | refine backE_d (d_int (wrapN (by omega))) ?_))
  by_cases hkl : k < l.length
  · have hlt : decide ((k : Int) < (l.length : Int)) = true := by simp; omega
    obtain ⟨m, hm⟩ : ∃ m, l[k]? = some m := ⟨l[k], List.getElem?_eq_getElem _⟩
    have hmm := hok m (List.mem_of_getElem? hm)
    have hmv : m.r.c[v]? = some (m.r.c.getD v 0) := by
      have := hmm.lc
      rw [List.getD_eq_getElem?_getD, List.getElem?_eq_getElem (by omega)]; rfl
    have hsnoc : ∀ b, usesF v m = b → b = false → ∀ x ∈ l.take (k + 1), usesF v x = false := fun b h1 h2 x hx => by
      rw [List.take_add_one, hm] at hx
      rcases List.mem_append.1 hx with hx | hx
      · exact hk.2 x hx
      · simp at hx; subst hx; rw [h1, h2]
    cases hr : m.r.rel != 3 with
    | true =>
      have hu : usesF v m = false := by simp at hr; simp [usesF, hr]
      simp +contextual only [go_sem, stD, hlt, hm, hmv, hr, Made.d, Row.d]
      refine nextS_intro (k + 1) ⟨hkl, hsnoc _ hu rfl⟩ (by omega) (SLe.d1 _ s.o_good (by omega) rfl ?_)
      refine backE_junk (backE_d rfl (backE_d rfl (backE_v rfl (by simp [V.refs]) ?_)))
      (repeat (first | exact backE_nil | refine backE_junk ?_ | refine backE_d rfl ?_ | refine backE_d (d_int (wrapN (by omega))) ?_))
    | false =>
      cases hz : m.r.c.getD v 0 == 0 with
      | true =>
        have hu : usesF v m = false := by simp at hz; simp [usesF, hz]
        simp +contextual only [go_sem, stD, hlt, hm, hmv, hr, hz, Made.d, Row.d]
        refine nextS_intro (k + 1) ⟨hkl, hsnoc _ hu rfl⟩ (by omega) (SLe.d1 _ s.o_good (by omega) rfl ?_)
        refine backE_junk (backE_d rfl (backE_d rfl (backE_v rfl (by simp [V.refs]) ?_)))
        (repeat (first | exact backE_nil | refine backE_junk ?_ | refine backE_d rfl ?_ | refine backE_d (d_int (wrapN (by omega))) ?_))
      | false =>
        have hu : usesF v m = true := by simp at hz hr; simp [usesF, hz, hr]
        simp +contextual only [go_sem, stD, hlt, hm, hmv, hr, hz, Made.d, Row.d]
        have hfi : l.findIdx? (usesF v) = some k := by
          rw [List.findIdx?_eq_some_iff_getElem]
          refine ⟨hkl, ?_, fun j hjk => ?_⟩
          · have : l[k] = m := by have := List.getElem?_eq_some_iff.1 hm; exact this.2
            rw [this]; exact hu
          · have := hk.2 l[j] (by rw [List.mem_take_iff_getElem]; exact ⟨j, by omega, rfl⟩)
            simp [this]
        have hraw : useR s l m v k l.length = rawR s v l := by rw [rawR, hfi]; simp only [hm]
        refine call_give (using'_c s l m v k hm hok hv hnv hnr hsv hsr hl) ?_
        rw [hraw]
        simp +contextual only [go_sem]
        refine loop_fam (fun j : Nat => ⟨envJ [.junk, .junk, .junk, .junk, .junk, .junk, .junk, .junk, .junk, .d (stD (rawR s v l)), .d (.i j)], fun _ => .no, 0⟩)
          (fun j => j ≤ (rawR s v l).length ∧ ((rawR s v l).take j).all bigOk = true) (fun j => (rawR s v l).length - j) 0 ⟨Nat.zero_le _, by simp⟩ (SLe.d0 _ ?_) (fun j hj => ?_)
        · repeat (first | exact backE_nil | refine backE_junk ?_ | refine backE_d rfl ?_)
        simp +contextual only [go_sem, stD]
        refine cond_intro (fun h3 => ?_) (fun h3 => ?_)
        · simp at h3
          obtain ⟨x, hx⟩ : ∃ x, (rawR s v l)[j]? = some x := ⟨(rawR s v l)[j], List.getElem?_eq_getElem _⟩
          obtain ⟨x1, x2⟩ := rawR_lens hok x (List.mem_of_getElem? hx)
          simp +contextual only [go_sem, stD, hx, Made.d, Row.d]
          refine call_keep (all_c x.r.c 1000000000 (by omega) (by omega)) rfl ?_
          have hbig : bigOk x = (allF x.r.c 1000000000 && inB x.r.b (-1000000000) 1000000000 && allF x.t 1000000000) := rfl
          have bad : bigOk x = false → nextR s v l = ([], false) := fun h => by
            rw [nextR, if_neg]
            intro h2
            rw [List.all_eq_true] at h2
            rw [h2 x (List.mem_of_getElem? hx)] at h
            cases h
          cases e1 : allF x.r.c 1000000000 with
          | false =>
            rw [bad (by rw [hbig, e1]; rfl)]
            simp +contextual only [go_sem, stD, hx, Made.d, Row.d]
          | true =>
            simp +contextual only [go_sem, stD, hx, Made.d, Row.d]
            refine call_keep (in_c _ _ _) rfl ?_
            have hin : (decide (-1000000000 ≤ x.r.b) && decide (x.r.b ≤ 1000000000)) = inB x.r.b (-1000000000) 1000000000 := rfl
            rw [hin]
            cases e2 : inB x.r.b (-1000000000) 1000000000 with
            | false =>
              rw [bad (by rw [hbig, e1, e2]; rfl)]
              simp +contextual only [go_sem, stD, hx, Made.d, Row.d]
            | true =>
              simp +contextual only [go_sem, stD, hx, Made.d, Row.d]
              refine call_keep (all_c x.t 1000000000 (by omega) (by omega)) rfl ?_
              cases e3 : allF x.t 1000000000 with
              | false =>
                rw [bad (by rw [hbig, e1, e2, e3]; rfl)]
                simp +contextual only [go_sem, stD, hx, Made.d, Row.d]
              | true =>
                simp +contextual only [go_sem, stD, hx, Made.d, Row.d]
                refine nextS_intro (j + 1) ⟨h3, ?_⟩ (by omega) (SLe.d0 _ ?_)
                · rw [List.take_add_one, hx, List.all_append, hj.2]; simp [hbig, e1, e2, e3]
                · repeat (first | exact backE_nil | refine backE_junk ?_ | refine backE_d rfl ?_ | refine backE_d (d_int (wrapN (by omega))) ?_)
        · simp at h3
          have hall := hj.2
          rw [List.take_of_length_le h3] at hall
          have hnx : nextR s v l = (keptR (rawR s v l) (rawR s v l).length, decide ((rawR s v l).length ≤ 200)) := by rw [nextR, if_pos hall]
          simp +contextual only [go_sem, stD]
          refine call_give (kept_c (rawR s v l) hrl (fun m hm => by have := (rawR_lens hok m hm).1; omega)) ?_
          rw [hnx]
          simp +contextual only [go_sem, stD]
          rw [show decide (((rawR s v l).length : Int) ≤ 200) = decide ((rawR s v l).length ≤ 200) from decide_eq_decide.2 (by omega)]
  · have hlt : decide ((k : Int) < (l.length : Int)) = false := by simp; omega
    simp +contextual only [go_sem, stD, hlt]
    have hfi : l.findIdx? (usesF v) = none := by
      rw [List.findIdx?_eq_none_iff]
      intro x hx
      have := hk.2 x (by rw [List.take_of_length_le (by omega)]; exact hx)
      simp [this]
    have hraw : outR s v l l.length = rawR s v l := by rw [rawR, hfi]
    refine call_give (pairing_c s l v hok hv hnv hnr hsv hsr hl) ?_
    rw [hraw]
    simp +contextual only [go_sem]
    refine loop_fam (fun j : Nat => ⟨envJ [.junk, .junk, .junk, .junk, .junk, .junk, .junk, .junk, .junk, .d (stD (rawR s v l)), .d (.i j)], fun _ => .no, 0⟩)
      (fun j => j ≤ (rawR s v l).length ∧ ((rawR s v l).take j).all bigOk = true) (fun j => (rawR s v l).length - j) 0 ⟨Nat.zero_le _, by simp⟩ (SLe.d0 _ ?_) (fun j hj => ?_)
    · repeat (first | exact backE_nil | refine backE_junk ?_ | refine backE_d rfl ?_)
    simp +contextual only [go_sem, stD]
    refine cond_intro (fun h3 => ?_) (fun h3 => ?_)
    · simp at h3
      obtain ⟨x, hx⟩ : ∃ x, (rawR s v l)[j]? = some x := ⟨(rawR s v l)[j], List.getElem?_eq_getElem _⟩
      obtain ⟨x1, x2⟩ := rawR_lens hok x (List.mem_of_getElem? hx)
      simp +contextual only [go_sem, stD, hx, Made.d, Row.d]
      refine call_keep (all_c x.r.c 1000000000 (by omega) (by omega)) rfl ?_
      have hbig : bigOk x = (allF x.r.c 1000000000 && inB x.r.b (-1000000000) 1000000000 && allF x.t 1000000000) := rfl
      have bad : bigOk x = false → nextR s v l = ([], false) := fun h => by
        rw [nextR, if_neg]
        intro h2
        rw [List.all_eq_true] at h2
        rw [h2 x (List.mem_of_getElem? hx)] at h
        cases h
      cases e1 : allF x.r.c 1000000000 with
      | false =>
        rw [bad (by rw [hbig, e1]; rfl)]
        simp +contextual only [go_sem, stD, hx, Made.d, Row.d]
      | true =>
        simp +contextual only [go_sem, stD, hx, Made.d, Row.d]
        refine call_keep (in_c _ _ _) rfl ?_
        have hin : (decide (-1000000000 ≤ x.r.b) && decide (x.r.b ≤ 1000000000)) = inB x.r.b (-1000000000) 1000000000 := rfl
        rw [hin]
        cases e2 : inB x.r.b (-1000000000) 1000000000 with
        | false =>
          rw [bad (by rw [hbig, e1, e2]; rfl)]
          simp +contextual only [go_sem, stD, hx, Made.d, Row.d]
        | true =>
          simp +contextual only [go_sem, stD, hx, Made.d, Row.d]
          refine call_keep (all_c x.t 1000000000 (by omega) (by omega)) rfl ?_
          cases e3 : allF x.t 1000000000 with
          | false =>
            rw [bad (by rw [hbig, e1, e2, e3]; rfl)]
            simp +contextual only [go_sem, stD, hx, Made.d, Row.d]
          | true =>
            simp +contextual only [go_sem, stD, hx, Made.d, Row.d]
            refine nextS_intro (j + 1) ⟨h3, ?_⟩ (by omega) (SLe.d0 _ ?_)
            · rw [List.take_add_one, hx, List.all_append, hj.2]; simp [hbig, e1, e2, e3]
            · repeat (first | exact backE_nil | refine backE_junk ?_ | refine backE_d rfl ?_ | refine backE_d (d_int (wrapN (by omega))) ?_)
    · simp at h3
      have hall := hj.2
      rw [List.take_of_length_le h3] at hall
      have hnx : nextR s v l = (keptR (rawR s v l) (rawR s v l).length, decide ((rawR s v l).length ≤ 200)) := by rw [nextR, if_pos hall]
      simp +contextual only [go_sem, stD]
      refine call_give (kept_c (rawR s v l) hrl (fun m hm => by have := (rawR_lens hok m hm).1; omega)) ?_
      rw [hnx]
      simp +contextual only [go_sem, stD]
      rw [show decide (((rawR s v l).length : Int) ≤ 200) = decide ((rawR s v l).length ≤ 200) from decide_eq_decide.2 (by omega)]
end Go.Proofs.Ytaafchgfibbmhaa
