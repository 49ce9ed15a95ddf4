/-
  A PART OF THE PROOF (put together by program): several texts, one behind the other. Conditions: none.
-/
import Derived.Test.YtealblliddhgiaaGreatOr30
set_option linter.unusedSimpArgs false
set_option linter.unusedVariables false
namespace Go.Proofs.YtealblliddhgiaaGreat
def ruleId (n : Int) : Nat := if n = 1 then 118 else if n = 2 then 119 else if n = 3 then 120 else if n = 4 then 121 else if n = 5 then 122 else if n = 8 then 123 else 124
theorem rule_c (s : TSig) (t : Tm) (hs : s.Fits) (h : inB t.op 1 15 = true) : PCt Tryz.prog (ruleId t.op) [s.d, t.d] (.ret [.bool (nodeF s t)]) ∧ tabV[t.op.toNat]? = some (rf (ruleId t.op)) ∧ 0 ≤ t.op ∧ t.op < 16 := by
  simp [inB] at h
  rcases (by omega : t.op = 1 ∨ t.op = 2 ∨ t.op = 3 ∨ t.op = 4 ∨ t.op = 5 ∨ t.op = 8 ∨ (t.op = 6 ∨ t.op = 7 ∨ t.op = 9 ∨ t.op = 10 ∨ t.op = 11 ∨ t.op = 12 ∨ t.op = 13 ∨ t.op = 14 ∨ t.op = 15)) with h | h | h | h | h | h | h
  · exact ⟨by rw [h]; exact variable_c s t h, by rw [h]; rfl, by omega, by omega⟩
  · exact ⟨by rw [h]; exact integer_c s t h, by rw [h]; rfl, by omega, by omega⟩
  · exact ⟨by rw [h]; exact con_c s t hs h, by rw [h]; rfl, by omega, by omega⟩
  · exact ⟨by rw [h]; exact fun_c s t hs h, by rw [h]; rfl, by omega, by omega⟩
  · exact ⟨by rw [h]; exact part_c s t hs h, by rw [h]; rfl, by omega, by omega⟩
  · exact ⟨by rw [h]; exact let_c s t h, by rw [h]; rfl, by omega, by omega⟩
  · have hp := pair_c s t h
    rcases h with h | h | h | h | h | h | h | h | h <;> exact ⟨by rw [h]; exact hp, by rw [h]; rfl, by omega, by omega⟩
def fbad (s : TSig) (n : Int) (x : Tm × Int) : Bool := decide (40 < n + 1) || decide (12 < x.2) || !inB x.1.op 1 15 || !nodeF s x.1
def fstep (s : TSig) (n : Int × Bool) (x : Tm × Int) : Int × Bool := (n.1 + 1, !fbad s n.1 x)
def fJ (n : Int × Bool) : Option Jmp := if n.2 = true then none else some .ret
def formedF (s : TSig) (t : Tm) : Bool := (foldE (stp fJ (fstep s)) (0, true) (pre t 1)).2
theorem formed_c (s : TSig) (hs : s.Fits) (t : Tm) (hf : t.fits) (hd : t.hgt ≤ 900000) : PCt Tryz.prog 54 [s.d, t.d] (.ret [.bool (formedF s t)]) := by
  refine PCt.of_ev mix fn54 (by simp) ?_
  rw [c54]
  simp +contextual only [go_sem]
  refine call_heap (rules_c 3 _ _ _ (?_ : HInv 3 (upd (upd (upd (fun _ => .no) 0 (.row s.row)) 1 (.row t.row)) 2 (.row [.d (.bool false)])) _ 3) _ _ fun o2 n2 m1 m2 m3 => ?_)
  · exact ⟨(by repeat (first | exact hg.mono (by omega) | exact Good.nil | refine Good.upd ?_ (by omega) rfl | refine Good.upd ?_ (by omega) (hLr _ _ _ (by omega)) | refine Good.upd ?_ (by omega) (by simp [Obj'.refs, V.refss, V.refs] <;> omega))), Nat.le_refl _, fun _ _ => rfl⟩
  have p0 : o2 0 = .row s.row := m2.eq 0 (by omega)
  have p1 : o2 1 = .row t.row := m2.eq 1 (by omega)
  have p2 : o2 2 = .row [.d (.bool false)] := m2.eq 2 (by omega)
  have e0 : 0 ≠ n2 := by omega
  have e1 : 1 ≠ n2 := by omega
  have e2 : 2 ≠ n2 := by omega
  have e3 : ∀ k, 0 ≠ n2 + k := fun k => by omega
  have e4 : ∀ k, 1 ≠ n2 + k := fun k => by omega
  have e5 : ∀ k, 2 ≠ n2 + k := fun k => by omega
  simp +contextual only [go_sem, p0, p1, p2, e0, e1, e2, e3, e4, e5, Nat.add_assoc, Nat.left_eq_add, Nat.add_eq_left, Nat.add_left_cancel_iff]
  refine call_heap (nodesK_c t _ _ _ _ ?_)
  simp +contextual only [go_sem]
  have hG0 : ∀ n, Good (upd (upd (upd (upd (upd (upd o2 n2 (.row (List.replicate 16 (.d .nilf)))) (n2 + 1) (.row [.d (.i 0)])) n2 (.row tabV)) (n2 + 1) (.row [.d (.i 0)])) (n2 + 5) (.row t.row)) (n2 + 1) (.row [.d (.i n)])) (n2 + 9) := fun n => by
    have hg := m2.good
    exact (by repeat (first | exact hg.mono (by omega) | exact Good.nil | refine Good.upd ?_ (by omega) rfl | refine Good.upd ?_ (by omega) (hLr _ _ _ (by omega)) | refine Good.upd ?_ (by omega) (by simp [Obj'.refs, V.refss, V.refs] <;> omega)))
  refine range_nodes t hf hd [.junk, .junk, .ptr 0 0, .junk, .ptr 2 0, .ptr n2 0, .ptr (n2 + 1) 0] ?_ (by decide) rfl ?_ (by simp [V.refss, V.refs]; omega) (upd_same _ _ _)
    (fun s => upd (upd (upd (upd (upd (upd o2 n2 (.row (List.replicate 16 (.d .nilf)))) (n2 + 1) (.row [.d (.i 0)])) n2 (.row tabV)) (n2 + 1) (.row [.d (.i 0)])) (n2 + 5) (.row t.row)) (n2 + 1) (.row [.d (.i s.1)]))
    fJ (fstep s) (fun s => 0 ≤ s.1 ∧ s.1 ≤ 40) (0, true) ⟨by decide, by decide⟩ rfl ?_ ?_ ?_ ?_
  · (repeat (first | exact keptE_nil | refine keptE_junk ?_ | refine keptE_v rfl ?_))
  · have hg := m2.good
    exact (by repeat (first | exact hg.mono (by omega) | exact Good.nil | refine Good.upd ?_ (by omega) rfl | refine Good.upd ?_ (by omega) (hLr _ _ _ (by omega)) | refine Good.upd ?_ (by omega) (by simp [Obj'.refs, V.refss, V.refs] <;> omega)))
  · intro id hid
    by_cases h : id = n2 + 1
    · subst h; (repeat (first | rfl | rw [upd_same] | rw [upd_ne _ _ _ _ (by omega)]))
    · rw [upd_ne _ _ _ _ h]; rfl
  · intro x hx s' h1 h2 h3
    have : fbad s s'.1 x = false := by simpa [fJ, fstep] using h3
    simp [fbad] at this
    simp only [fstep]
    omega
  · intro L hL hLr x hx s' h1 h2 o3 n3 hI hn ho K X hend
    simp only [setP]
    have hg := hI.good
    have q0 : o3 0 = .row s.row := by
      rw [hI.eq 0 (by omega)]; (repeat (first | rfl | rw [upd_same] | rw [upd_ne _ _ _ _ (by omega)]))
      exact p0
    have q2 : o3 2 = .row [.d (.bool false)] := by
      rw [hI.eq 2 (by omega)]; (repeat (first | rfl | rw [upd_same] | rw [upd_ne _ _ _ _ (by omega)]))
      exact p2
    have q3 : o3 n2 = .row tabV := by rw [hI.eq n2 (by omega)]; (repeat (first | rfl | rw [upd_same] | rw [upd_ne _ _ _ _ (by omega)]))
    have q4 : o3 (n2 + 1) = .row [.d (.i s'.1)] := by rw [hI.eq (n2 + 1) (by omega)]; (repeat (first | rfl | rw [upd_same] | rw [upd_ne _ _ _ _ (by omega)]))
    have fin : ∀ (o' : Nat → Obj') (n' : Nat), (∀ id, id < n2 + 5 + 4 → o' id = upd o3 (n2 + 1) (.row [.d (.i (s'.1 + 1))]) id) → Good o' n' → n3 ≤ n' → HInv (n2 + 5 + 4) (upd (upd (upd (upd (upd (upd o2 n2 (.row (List.replicate 16 (.d .nilf)))) (n2 + 1) (.row [.d (.i 0)])) n2 (.row tabV)) (n2 + 1) (.row [.d (.i 0)])) (n2 + 5) (.row t.row)) (n2 + 1) (.row [.d (.i (fstep s s' x).1)])) o' n' := by
      intro o' n' k1 k2 k3
      refine ⟨k2, by omega, fun id hid => ?_⟩
      rw [k1 id hid]
      by_cases h : id = n2 + 1
      · subst h; rw [upd_same, upd_same]; rfl
      · rw [upd_ne _ _ _ _ h, upd_ne _ _ _ _ h, hI.eq id hid, upd_ne _ _ _ _ h]
    simp +contextual only [go_sem]
    refine begin_st hL (pd := none) ?_ ?_
    · (repeat (first | rfl | rw [upd_same] | rw [upd_ne _ _ _ _ (by omega)]))
      exact ho
    cases c1 : decide (40 < s'.1 + 1) with
    | true =>
      have hJ : fJ (fstep s s' x) = some .ret := by simp [fJ, fstep, fbad, c1]
      rw [hJ] at hend
      simp +contextual (disch := first | omega | (simp only [go_sem, false_implies]; done) | fail) only [go_sem, wrap64, if_pos, q0, q2, q3, q4, c1]
      refine end_intro (objsOk_reads rfl) ?_
      simp +contextual (disch := first | omega | (simp only [go_sem, false_implies]; done) | fail) only [go_sem, wrap64, if_pos, q2]
      refine hend _ _ _ .busy none (by omega) (fin _ _ (fun id hid => (by simp only [upd] <;> ((repeat' split) <;> first | rfl | omega | (subst_vars; first | rfl | assumption | (symm; assumption) | omega | (simp_all; done))))) (by repeat (first | exact hg.mono (by omega) | exact Good.nil | refine Good.upd ?_ (by omega) rfl | refine Good.upd ?_ (by omega) (hLr _ _ _ (by omega)) | refine Good.upd ?_ (by omega) (by simp [Obj'.refs, V.refss, V.refs] <;> omega))) (by omega)) (by (repeat (first | rfl | rw [upd_same] | rw [upd_ne _ _ _ _ (by omega)]))) (fun id h3 h4 => by (repeat (first | rfl | rw [upd_same] | rw [upd_ne _ _ _ _ (by omega)])))
    | false =>
    cases c2 : decide (12 < x.2) with
    | true =>
      have hJ : fJ (fstep s s' x) = some .ret := by simp [fJ, fstep, fbad, c2]
      rw [hJ] at hend
      simp +contextual (disch := first | omega | (simp only [go_sem, false_implies]; done) | fail) only [go_sem, wrap64, if_pos, q0, q2, q3, q4, c1, c2]
      refine end_intro (objsOk_reads rfl) ?_
      simp +contextual (disch := first | omega | (simp only [go_sem, false_implies]; done) | fail) only [go_sem, wrap64, if_pos, q2]
      refine hend _ _ _ .busy none (by omega) (fin _ _ (fun id hid => (by simp only [upd] <;> ((repeat' split) <;> first | rfl | omega | (subst_vars; first | rfl | assumption | (symm; assumption) | omega | (simp_all; done))))) (by repeat (first | exact hg.mono (by omega) | exact Good.nil | refine Good.upd ?_ (by omega) rfl | refine Good.upd ?_ (by omega) (hLr _ _ _ (by omega)) | refine Good.upd ?_ (by omega) (by simp [Obj'.refs, V.refss, V.refs] <;> omega))) (by omega)) (by (repeat (first | rfl | rw [upd_same] | rw [upd_ne _ _ _ _ (by omega)]))) (fun id h3 h4 => by (repeat (first | rfl | rw [upd_same] | rw [upd_ne _ _ _ _ (by omega)])))
    | false =>
    cases c3 : inB x.1.op 1 15 with
    | false =>
      have hJ : fJ (fstep s s' x) = some .ret := by simp [fJ, fstep, fbad, c3]
      rw [hJ] at hend
      simp +contextual (disch := first | omega | (simp only [go_sem, false_implies]; done) | fail) only [go_sem, wrap64, if_pos, q0, q2, q3, q4, c1, c2]
      refine callD_keep (within_c _ _ _) rfl ?_
      simp +contextual (disch := first | omega | (simp only [go_sem, false_implies]; done) | fail) only [go_sem, wrap64, if_pos, q0, q2, q3, q4, c1, c2, c3]
      refine end_intro (objsOk_reads rfl) ?_
      simp +contextual (disch := first | omega | (simp only [go_sem, false_implies]; done) | fail) only [go_sem, wrap64, if_pos, q2]
      refine hend _ _ _ .busy none (by omega) (fin _ _ (fun id hid => (by simp only [upd] <;> ((repeat' split) <;> first | rfl | omega | (subst_vars; first | rfl | assumption | (symm; assumption) | omega | (simp_all; done))))) (by repeat (first | exact hg.mono (by omega) | exact Good.nil | refine Good.upd ?_ (by omega) rfl | refine Good.upd ?_ (by omega) (hLr _ _ _ (by omega)) | refine Good.upd ?_ (by omega) (by simp [Obj'.refs, V.refss, V.refs] <;> omega))) (by omega)) (by (repeat (first | rfl | rw [upd_same] | rw [upd_ne _ _ _ _ (by omega)]))) (fun id h3 h4 => by (repeat (first | rfl | rw [upd_same] | rw [upd_ne _ _ _ _ (by omega)])))
    | true =>
    obtain ⟨r1, r2, r3, r4⟩ := rule_c s x.1 hs c3
    simp +contextual (disch := first | omega | (simp only [go_sem, false_implies]; done) | fail) only [go_sem, wrap64, if_pos, q0, q2, q3, q4, c1, c2]
    refine callD_keep (within_c _ _ _) rfl ?_
    simp +contextual (disch := first | omega | (simp only [go_sem, false_implies]; done) | fail) only [go_sem, wrap64, if_pos, q0, q2, q3, q4, c1, c2, c3, r2, r3, r4, Nat.mul_one]
    refine callD_keep r1 rfl ?_
    simp +contextual (disch := first | omega | (simp only [go_sem, false_implies]; done) | fail) only [go_sem, wrap64, if_pos, q0, q2, q3, q4, c1, c2, c3]
    refine end_intro (objsOk_reads rfl) ?_
    cases c4 : nodeF s x.1 with
    | false =>
      have hJ : fJ (fstep s s' x) = some .ret := by simp [fJ, fstep, fbad, c4]
      rw [hJ] at hend
      simp +contextual (disch := first | omega | (simp only [go_sem, false_implies]; done) | fail) only [go_sem, wrap64, if_pos, q2, c4]
      refine hend _ _ _ .busy none (by omega) (fin _ _ (fun id hid => (by simp only [upd] <;> ((repeat' split) <;> first | rfl | omega | (subst_vars; first | rfl | assumption | (symm; assumption) | omega | (simp_all; done))))) (by repeat (first | exact hg.mono (by omega) | exact Good.nil | refine Good.upd ?_ (by omega) rfl | refine Good.upd ?_ (by omega) (hLr _ _ _ (by omega)) | refine Good.upd ?_ (by omega) (by simp [Obj'.refs, V.refss, V.refs] <;> omega))) (by omega)) (by (repeat (first | rfl | rw [upd_same] | rw [upd_ne _ _ _ _ (by omega)]))) (fun id h3 h4 => by (repeat (first | rfl | rw [upd_same] | rw [upd_ne _ _ _ _ (by omega)])))
    | true =>
      have hJ : fJ (fstep s s' x) = none := by simp [fJ, fstep, fbad, c1, c2, c3, c4]
      rw [hJ] at hend
      simp +contextual (disch := first | omega | (simp only [go_sem, false_implies]; done) | fail) only [go_sem, wrap64, if_pos, c4]
      refine hend _ _ _ .busy none (by omega) (fin _ _ (fun id hid => (by simp only [upd] <;> ((repeat' split) <;> first | rfl | omega | (subst_vars; first | rfl | assumption | (symm; assumption) | omega | (simp_all; done))))) (by repeat (first | exact hg.mono (by omega) | exact Good.nil | refine Good.upd ?_ (by omega) rfl | refine Good.upd ?_ (by omega) (hLr _ _ _ (by omega)) | refine Good.upd ?_ (by omega) (by simp [Obj'.refs, V.refss, V.refs] <;> omega))) (by omega)) (by (repeat (first | rfl | rw [upd_same] | rw [upd_ne _ _ _ _ (by omega)]))) (fun id h3 h4 => by (repeat (first | rfl | rw [upd_same] | rw [upd_ne _ _ _ _ (by omega)])))
  · intro o' n' hI
    have q2 : o' 2 = .row [.d (.bool false)] := by
      rw [hI.eq 2 (by omega)]; (repeat (first | rfl | rw [upd_same] | rw [upd_ne _ _ _ _ (by omega)]))
      exact p2
    rw [show formedF s t = (fJ (foldE (stp fJ (fstep s)) (0, true) (pre t 1)).1).isNone from foldE_J _ _ _ _ rfl]
    generalize (foldE (stp fJ (fstep s)) (0, true) (pre t 1)).1 = sf at *
    cases hj : fJ sf with
    | none =>
      simp only [jmpQ]
      simp +contextual (disch := first | omega | (simp only [go_sem, false_implies]; done) | fail) only [go_sem, wrap64, if_pos, q2]
      rfl
    | some j =>
      have : j = .ret := by
        unfold fJ at hj; split at hj
        · cases hj
        · injection hj with hj; exact hj.symm
      subst this
      simp only [jmpQ]
      simp +contextual (disch := first | omega | (simp only [go_sem, false_implies]; done) | fail) only [go_sem, wrap64, if_pos, q2]
      rfl
end Go.Proofs.YtealblliddhgiaaGreat
namespace Go.Proofs.YtealblliddhgiaaGreat
def enc {κ : Type} (kf : κ → D) (m : List (κ × D)) : List (D × D) := m.map fun p => (kf p.1, p.2)
def aIdx {κ : Type} [BEq κ] (k : κ) : List (κ × D) → Nat → Option (Nat × D)
  | [], _ => none
  | p :: m, i => if (k == p.1) = true then some (i, p.2) else aIdx k m (i + 1)
def aSet {κ : Type} [BEq κ] (k : κ) (x : D) (m : List (κ × D)) : List (κ × D) := match aIdx k m 0 with | some (i, _) => m.set i (k, x) | none => m ++ [(k, x)]
def aDel {κ : Type} [BEq κ] (k : κ) (m : List (κ × D)) : List (κ × D) := match aIdx k m 0 with | some (i, _) => m.eraseIdx i | none => m
def keyO (d : D) (r : Option (Nat × D)) : Option (Nat × D × D) := match r with | some (i, x) => some (i, d, x) | none => none
@[go_sem] theorem keyO_some (d : D) (i : Nat) (x : D) : keyO d (some (i, x)) = some (i, d, x) := rfl
@[go_sem] theorem keyO_none (d : D) : keyO d none = none := rfl
section
variable {P : Program} {kt : TypeId}
theorem eqT_int (h : eqShape P kt = some .int) (a b : Int) : eqT P 100 kt (.int .i64 a) (.int .i64 b) = some (a == b) := by simp [eqT, h]
theorem eqT_str (h : eqShape P kt = some .str) (a b : List UInt8) : eqT P 100 kt (.str a) (.str b) = some (a == b) := by simp [eqT, h]
@[go_sem] theorem chk_int (h : eqShape P kt = some .int) (a : Int) : chkT P 100 kt (.int .i64 a) = true := by simp [chkT, h]
@[go_sem] theorem chk_str (h : eqShape P kt = some .str) (a : List UInt8) : chkT P 100 kt (.str a) = true := by simp [chkT, h]
theorem find_enc {κ : Type} [BEq κ] [LawfulBEq κ] (kf : κ → D) (he : ∀ a b, eqT P 100 kt (kf a) (kf b) = some (a == b)) (k : κ) : ∀ (m : List (κ × D)) (i : Nat), findD P kt (kf k) (enc kf m) i = some (keyO (kf k) (aIdx k m i))
  | [], _ => rfl
  | p :: m, i => by
    have ih := find_enc kf he k m (i + 1)
    simp only [enc, List.map_cons, findD, he, aIdx] at ih ⊢
    by_cases h : k = p.1
    · subst h; simp [keyO]
    · have : (k == p.1) = false := by simpa using h
      simp only [this, Bool.false_eq_true, if_false]; exact ih
@[go_sem] theorem find_int (h : eqShape P kt = some .int) (k : Int) (m : List (Int × D)) : findD P kt (.int .i64 k) (enc (.int .i64) m) 0 = some (keyO (.int .i64 k) (aIdx k m 0)) := find_enc (.int .i64) (eqT_int h) k m 0
@[go_sem] theorem find_str (h : eqShape P kt = some .str) (k : List UInt8) (m : List (List UInt8 × D)) : findD P kt (.str k) (enc .str m) 0 = some (keyO (.str k) (aIdx k m 0)) := find_enc .str (eqT_str h) k m 0
end
section
variable {κ : Type} (kf : κ → D)
theorem enc_snoc (m : List (κ × D)) (k : κ) (x : D) : enc kf m ++ [(kf k, x)] = enc kf (m ++ [(k, x)]) := by simp [enc]
theorem enc_set (m : List (κ × D)) (i : Nat) (k : κ) (x : D) : (enc kf m).set i (kf k, x) = enc kf (m.set i (k, x)) := by simp [enc, List.map_set]
theorem enc_erase : ∀ (m : List (κ × D)) (i : Nat), (enc kf m).eraseIdx i = enc kf (m.eraseIdx i)
  | [], i => rfl
  | p :: m, 0 => rfl
  | p :: m, i + 1 => by
    have := enc_erase m i
    simp only [enc, List.map_cons, List.eraseIdx_cons_succ] at this ⊢
    rw [this]
theorem nextC_enc {K : V → List (Nat × Obj') → Prop} {id : Nat} {m : List (κ × D)} (h0 : m = [] → K (.tup [.d (.bool false)]) [])
    (h1 : ∀ (i : Nat) k x, m[i]? = some (k, x) → K (.tup [.d (.bool true), .d (kf k), .d x]) [(id, .mit (enc kf (m.eraseIdx i)) (some (kf k, x)))]) : nextC K id (enc kf m) := by
  refine ⟨fun h => h0 ?_, fun i k x h => ?_⟩
  · cases m with
    | nil => rfl
    | cons p m => simp [enc] at h
  · simp only [enc, List.getElem?_map] at h
    cases hm : m[i]? with
    | none => rw [hm] at h; cases h
    | some p =>
      rw [hm] at h
      simp at h
      obtain ⟨rfl, rfl⟩ := h
      have := h1 i p.1 p.2 (by rw [hm])
      rwa [← enc_erase] at this
end
theorem aIdx_get {κ : Type} [BEq κ] [LawfulBEq κ] {k : κ} : ∀ {m : List (κ × D)} {i j : Nat} {x : D}, aIdx k m i = some (j, x) → i ≤ j ∧ m[j - i]? = some (k, x)
  | [], _, _, _, h => by cases h
  | p :: m, i, j, x, h => by
    simp only [aIdx] at h
    split at h
    · rename_i hk
      injection h with h; injection h with h1 h2
      subst h1; subst h2
      exact ⟨Nat.le_refl _, by simp [(by simpa using hk : k = p.1)]⟩
    · obtain ⟨h1, h2⟩ := aIdx_get h
      refine ⟨by omega, ?_⟩
      rw [show j - i = (j - (i + 1)) + 1 by omega]
      simpa using h2
theorem aIdx_none {κ : Type} [BEq κ] [LawfulBEq κ] {k : κ} : ∀ {m : List (κ × D)} {i : Nat}, aIdx k m i = none ↔ ∀ p ∈ m, p.1 ≠ k
  | [], _ => by simp [aIdx]
  | p :: m, i => by
    simp only [aIdx]
    split
    · rename_i hk
      simp [(by simpa using hk : k = p.1)]
    · rename_i hk
      rw [aIdx_none]
      have : p.1 ≠ k := fun e => hk (by simp [e])
      simp [this]
def mapUpdX (P : Program) (o : Nat → Obj') (t : TypeId) (m k v : V) : Option Res :=
  match mapT P t, toD o k, toD o v, mapEs o m with
  | some (kt, _), some kd, some vd, some (some (id, kt', vt'), l) => if k.ids = [] ∧ chkT P 100 kt kd = true ∧ plainD kd = true ∧ v.ids.all (· != id) = true then match findD P kt kd l 0 with
      | some (some (i, k', _)) => if k'.same kd = true then some (.tup [], frz o v.ids ++ [(id, .map kt' vt' (l.set i (kd, vd)))], id :: v.ids) else none
      | some none => some (.tup [], frz o v.ids ++ [(id, .map kt' vt' (l ++ [(kd, vd)]))], id :: v.ids)
      | none => none
    else none
  | _, _, _, _ => none
@[go_sem low] theorem mapUpdF_X (P : Program) (o : Nat → Obj') (t : TypeId) (m v : V) (k : D) : mapUpdF P o t m (.d k) v = mapUpdX P o t m (.d k) v := by unfold mapUpdF mapUpdX; rfl
def lookX (P : Program) (o : Nat → Obj') (t : TypeId) (m k : V) (ok : Bool) : Option Res :=
  match mapT P t, toD o k, mapRd o m with
  | some (kt, vt), some kd, some (rd, l) => if k.ids = [] ∧ chkT P 100 kt kd = true then match findD P kt kd l 0 with
      | some (some (_, _, x)) => some (if ok = true then .tup [.d x, .d (.bool true)] else .d x, [], rd)
      | some none => match zeroV P vt with
        | some z => some (if ok = true then .tup [z, .d (.bool false)] else z, [], rd)
        | none => none
      | none => none
    else none
  | _, _, _ => none
@[go_sem low] theorem lookupF_X (P : Program) (o : Nat → Obj') (t : TypeId) (m : V) (k : D) (ok : Bool) : lookupF P o t m (.d k) ok = lookX P o t m (.d k) ok := by unfold lookupF lookX; rfl
attribute [go_sem] lookX mapUpdX deleteF makeMapF rangeF nextF leftF entryF mapRd mapEs idOf scalD plainD D.same
end Go.Proofs.YtealblliddhgiaaGreat
namespace Go.Proofs.YtealblliddhgiaaGreat
theorem dec_lt {l : List UInt8} {i : Nat} {b : UInt8} (hb : l[i]? = some b) (h : b.toNat < 128) : Utf8.decode ⟨⟨l⟩⟩ i = (b.toNat, 1) := by
  have e : (ByteArray.mk ⟨l⟩).get! i = b := by
    show (Array.mk l)[i]! = b
    simp [hb]
  simp only [Utf8.decode, Nat.add_zero, e]
  rw [if_pos h]
theorem dec_ge {l : List UInt8} {i : Nat} {b : UInt8} (hb : l[i]? = some b) (h : 128 ≤ b.toNat) : 128 ≤ (Utf8.decode ⟨⟨l⟩⟩ i).1 := by
  have e : (ByteArray.mk ⟨l⟩).get! i = b := by
    show (Array.mk l)[i]! = b
    simp [hb]
  simp only [Utf8.decode, Nat.add_zero, e]
  rw [if_neg (by omega)]
  split
  · split <;> simp_all [Utf8.runeError]
  · split
    · split
      · rename_i h3; simp at h3; omega
      · simp [Utf8.runeError]
    · split
      · split
        · rename_i h3; simp at h3; omega
        · simp [Utf8.runeError]
      · simp [Utf8.runeError]
def letR (r : Int) : Bool := decide (97 ≤ r) && decide (r ≤ 122) || decide (65 ≤ r) && decide (r ≤ 90)
theorem letR_b (b : UInt8) : letR b.toNat = letterF b := by
  rw [Bool.eq_iff_iff]
  simp [letR, letterF]
theorem spelled_c (s : List UInt8) (hs : s.length ≤ 9223372036854775807) : PCt Tryz.prog 78 [.str s] (.ret [.bool (nameF s)]) := by
  refine PCt.of_ev mix fn78 (by simp) ?_
  rw [c78]
  simp +contextual (disch := first | omega | (simp only [go_sem, false_implies]; done) | fail) only [go_sem, wrap64, if_pos, Nat.add_assoc, Nat.left_eq_add, Nat.add_eq_left, Nat.add_left_cancel_iff]
  refine loop_fam (fun k : Nat => ⟨envJ [.d (.str s), .junk, .junk, .junk, .junk, .junk, .ptr 2 0], upd (fun _ => .no) 2 (.sit s k), 3⟩)
    (fun k => k ≤ s.length ∧ (s.take k).all letterF = true) (fun k => s.length - k) 0 ⟨Nat.zero_le _, by simp⟩ (SLe.backL _ (by omega) (by omega) (Good.nil.upd (by omega) rfl) (fun _ _ => rfl) ?_) (fun k hk => ?_)
  · (repeat (first | exact backE_nil | refine backE_junk ?_ | refine backE_d rfl ?_ | refine backE_d (d_int (wrapN (by omega))) ?_ | refine backE_v rfl (by simp [V.refs, V.refss] <;> first | omega | assumption) ?_))
  by_cases h2 : k < s.length
  · obtain ⟨b, hb⟩ := get_of_lt h2
    by_cases h3 : b.toNat < 128
    · simp +contextual (disch := first | omega | (simp only [go_sem, false_implies]; done) | fail) only [go_sem, wrap64, if_pos, Nat.add_assoc, Nat.left_eq_add, Nat.add_eq_left, Nat.add_left_cancel_iff, h2, dec_lt hb h3]
      have hr := letR_b b
      simp only [letR] at hr
      rw [hr]
      cases hl : letterF b with
      | true =>
        simp +contextual (disch := first | omega | (simp only [go_sem, false_implies]; done) | fail) only [go_sem, wrap64, if_pos, and_self]
        refine nextS_intro (k + 1) ⟨h2, all_snoc hb hk.2 hl⟩ (by omega) (SLe.backL _ (by omega) (by omega) (Good.nil.upd (by omega) rfl) (fun _ _ => by rw [upd_upd]) ?_)
        (repeat (first | exact backE_nil | refine backE_junk ?_ | refine backE_d rfl ?_ | refine backE_d (d_int (wrapN (by omega))) ?_ | refine backE_v rfl (by simp [V.refs, V.refss] <;> first | omega | assumption) ?_))
      | false =>
        simp +contextual (disch := first | omega | (simp only [go_sem, false_implies]; done) | fail) only [go_sem, wrap64, if_pos, and_self]
        simp [nameF, all_stop hb hl]
    · have hr : letterF b = false := by
        rw [← letR_b]; simp [letR]; omega
      have hd := dec_ge hb (by omega)
      simp +contextual (disch := first | omega | (simp only [go_sem, false_implies]; done) | fail) only [go_sem, wrap64, if_pos, Nat.add_assoc, Nat.left_eq_add, Nat.add_eq_left, Nat.add_left_cancel_iff, h2]
      have : (decide (97 ≤ ((Utf8.decode ⟨⟨s⟩⟩ k).1 : Int)) && decide (((Utf8.decode ⟨⟨s⟩⟩ k).1 : Int) ≤ 122) || decide (65 ≤ ((Utf8.decode ⟨⟨s⟩⟩ k).1 : Int)) && decide (((Utf8.decode ⟨⟨s⟩⟩ k).1 : Int) ≤ 90)) = false := by
        rw [Bool.eq_false_iff]; intro h; simp at h; omega
      rw [this]
      simp +contextual (disch := first | omega | (simp only [go_sem, false_implies]; done) | fail) only [go_sem, wrap64, if_pos, and_self]
      simp [nameF, all_stop hb hr]
  · simp +contextual (disch := first | omega | (simp only [go_sem, false_implies]; done) | fail) only [go_sem, wrap64, if_pos, Nat.add_assoc, Nat.left_eq_add, Nat.add_eq_left, Nat.add_left_cancel_iff, h2]
    refine call_keep (within_c _ _ _) rfl ?_
    simp +contextual (disch := first | omega | (simp only [go_sem, false_implies]; done) | fail) only [go_sem, wrap64, if_pos, and_self]
    rw [nameF, all_done hk.2 (by omega), Bool.true_and]
theorem every_Nm {σ : Type} (l : List TNm) (hl : l.length ≤ 9223372036854775807) (g : Nat) (caps : List V) (base : Nat) (H : σ → Nat → Obj') (step : σ → TNm → σ × Bool) (hc : ∀ r ∈ V.refss caps, r < base) (ok : σ → Prop) (hok : ∀ x ∈ l, ∀ s, ok s → (step s x).2 = true → ok (step s x).1)
    (h : ∀ x ∈ l, ∀ s, ok s → StC Tryz.prog g (.d x.d :: caps) base (H s) (H (step s x).1) (.d (.bool (step s x).2))) (s : σ) (hs0 : ok s) :
    StC Tryz.prog 80 [.d (.sl (l.map TNm.d)), .func (.func g) [] caps] base (H s) (H (foldE step s l).1) (.d (.bool (foldE step s l).2)) := by
  intro o nx hI K X hK
  have hcap : ∀ r ∈ V.refss caps, r < nx := fun r hr => Nat.lt_of_lt_of_le (hc r hr) hI.le
  refine CtK.of_ev mix fn80 (by simp) ?_
  rw [c80]
  simp +contextual only [go_sem]
  refine loop_fam (fun i : Nat × σ × (Nat → Obj') × Nat => ⟨envJ [.junk, .func (.func g) [] caps, .junk, .junk, .junk, .junk, .junk, .d (.sl (l.map TNm.d)), .d (.i l.length), .d (.i i.1)], i.2.2.1, i.2.2.2⟩)
    (fun i => i.1 ≤ l.length ∧ HInv base (H i.2.1) i.2.2.1 i.2.2.2 ∧ nx ≤ i.2.2.2 ∧ (∀ id, base ≤ id → id < nx → i.2.2.1 id = o id) ∧ foldE step s l = foldE step i.2.1 (l.drop i.1) ∧ ok i.2.1) (fun i => l.length - i.1) (0, s, o, nx)
    ⟨Nat.zero_le _, hI, Nat.le_refl _, fun _ _ _ => rfl, rfl, hs0⟩ ?_ ?_
  · dsimp only
    refine SLe.backL _ (Nat.le_refl _) (by omega) hI.good (fun _ _ => rfl) ?_
    (repeat (first | exact backE_nil | refine backE_junk ?_ | refine backE_d rfl ?_ | refine backE_d (d_int (wrapN (by omega))) ?_ | refine backE_v rfl (by simp [V.refs, V.refss] <;> first | omega | assumption) ?_))
  rintro ⟨k, s', o', nx'⟩ ⟨hk, hI', hn, hfr, hf, hok'⟩
  simp only at hk hI' hn hfr hf hok'
  simp +contextual only [go_sem]
  refine cond_intro (fun h1 => ?_) (fun h1 => ?_)
  · simp at h1
    obtain ⟨x, hx⟩ := get_of_lt h1
    have hxm := List.mem_of_getElem? hx
    have hd : l.drop k = x :: l.drop (k + 1) := by
      rw [List.drop_eq_getElem_cons h1]
      rw [List.getElem?_eq_getElem h1] at hx; injection hx with hx; rw [hx]
    simp +contextual only [go_sem, hx, Nat.add_assoc, Nat.left_eq_add, Nat.add_eq_left, Nat.add_left_cancel_iff]
    have hl0 := hI'.le
    refine callS'_heap (h x hxm s' hok' _ _ (?_ : HInv base (H s') _ (nx' + 7)) _ _ fun o2 n2 m1 m2 m3 => ?_)
    · exact (hI'.upd (i := nx' + 3) (m := nx' + 7) (by omega) (by omega) (by omega) rfl).upd (by omega) (by omega) (by omega) rfl
    have hfr2 : ∀ id, base ≤ id → id < nx → o2 id = o id := fun id h2 h3 => by
      rw [m3 id h2 (by omega), upd_ne _ _ _ _ (by omega), upd_ne _ _ _ _ (by omega), hfr id h2 h3]
    simp +contextual only [go_sem]
    refine cond_intro (fun h2 => ?_) (fun h2 => ?_)
    · simp +contextual only [go_sem]
      simp at h2
      have : foldE step s l = ((step s' x).1, false) := by rw [hf, hd, foldE, if_neg (by rw [h2]; exact Bool.false_ne_true)]
      rw [this] at hK
      exact hK _ _ (by omega) (m2.mono (by omega)) hfr2
    · simp +contextual only [go_sem]
      simp at h2
      have : foldE step s l = foldE step (step s' x).1 (l.drop (k + 1)) := by rw [hf, hd, foldE, if_pos h2]
      refine nextS_intro (k + 1, (step s' x).1, o2, n2) ⟨h1, m2, by dsimp only; omega, hfr2, this, hok x hxm s' hok' h2⟩ (by dsimp only; omega) ?_
      dsimp only
      have hcap2 : ∀ r ∈ V.refss caps, r < n2 := fun r hr => by have := hcap r hr; omega
      refine SLe.backL _ (by omega) (by omega) m2.good (fun _ _ => rfl) ?_
      (repeat (first | exact backE_nil | refine backE_junk ?_ | refine backE_d rfl ?_ | refine backE_d (d_int (wrapN (by omega))) ?_ | refine backE_v rfl (by simp [V.refs, V.refss] <;> first | omega | assumption) ?_))
  · simp +contextual only [go_sem]
    simp at h1
    rw [List.drop_eq_nil_of_le h1] at hf
    simp only [foldE] at hf
    rw [hf] at hK
    exact hK _ _ (by omega) (hI'.mono (by omega)) hfr
def setS (l : List (List UInt8)) : List (List UInt8 × D) := l.map fun s => (s, .bool true)
theorem setS_snoc (l : List (List UInt8)) (s : List UInt8) : setS l ++ [(s, .bool true)] = setS (l ++ [s]) := by simp [setS]
theorem setS_some {l : List (List UInt8)} {s : List UInt8} {i : Nat} {x : D} (h : aIdx s (setS l) 0 = some (i, x)) : x = .bool true ∧ (setS l).set i (s, .bool true) = setS l ∧ l.any (· == s) = true := by
  obtain ⟨_, h2⟩ := aIdx_get h
  rw [Nat.sub_zero] at h2
  simp only [setS, List.getElem?_map] at h2
  cases hl : l[i]? with
  | none => rw [hl] at h2; cases h2
  | some y =>
    rw [hl] at h2
    simp at h2
    obtain ⟨rfl, rfl⟩ := h2
    refine ⟨rfl, ?_, ?_⟩
    · apply List.ext_getElem?
      intro j
      rw [List.getElem?_set]
      split
      · rename_i e; subst e
        obtain ⟨hlt, hy⟩ := List.getElem?_eq_some_iff.1 hl
        simp [setS, hlt, hy]
      · rfl
    · exact List.any_eq_true.2 ⟨y, List.mem_of_getElem? hl, by simp⟩
theorem setS_none {l : List (List UInt8)} {s : List UInt8} (h : aIdx s (setS l) 0 = none) : l.any (· == s) = false := by
  rw [aIdx_none] at h
  rw [List.any_eq_false]
  intro x hx hs
  have := h (x, .bool true) (by simp [setS]; exact hx)
  simp at hs; exact this hs
def nmOk (bs : List (List UInt8)) (x : TNm) : Bool := !bs.any (· == x.name) && nameF x.name && inB x.args 0 4
def nmStep (bs : List (List UInt8)) (x : TNm) : List (List UInt8) × Bool := (if bs.any (· == x.name) = true then bs else bs ++ [x.name], nmOk bs x)
theorem fits_c (x : TNm) (hx : x.name.length ≤ 9223372036854775807) (base mp id : Nat) (h : Nat → Obj') (hmp : h mp = .row [.mp id]) (h1 : mp < base) (h2 : id < base) (h3 : id ≠ mp) (bs : List (List UInt8)) :
    StC Tryz.prog 77 [.d x.d, .ptr mp 0] base (upd h id (.map 9 4 (enc .str (setS bs)))) (upd h id (.map 9 4 (enc .str (setS (nmStep bs x).1)))) (.d (.bool (nmStep bs x).2)) := by
  intro o nx hI K X hK
  have hle := hI.le
  have hg := hI.good
  have q0 : o mp = .row [.mp id] := by rw [hI.eq mp h1, upd_ne _ _ _ _ (by omega), hmp]
  have q1 : o id = .map 9 4 (enc .str (setS bs)) := by rw [hI.eq id h2, upd_same]
  refine CtK.of_ev mix fn77 (by simp) ?_
  rw [c77]
  cases ha : aIdx x.name (setS bs) 0 with
  | none =>
    have hn := setS_none ha
    have hs : nmStep bs x = (bs ++ [x.name], nameF x.name && inB x.args 0 4) := by simp [nmStep, nmOk, hn]
    rw [hs] at hK
    simp +contextual (disch := first | omega | (simp only [go_sem, false_implies]; done) | fail) only [go_sem, wrap64, if_pos, q0, q1, ha]
    refine call_keep (spelled_c _ hx) rfl ?_
    simp +contextual (disch := first | omega | (simp only [go_sem, false_implies]; done) | fail) only [go_sem, wrap64, if_pos, and_self]
    refine guard_data (callG_intro [.bool (inB x.args 0 4)] ?_ ?_)
    · simp +contextual (disch := first | omega | (simp only [go_sem, false_implies]; done) | fail) only [go_sem, wrap64, if_pos, and_self]
      exact fun _ => within_c _ _ _
    simp +contextual (disch := first | omega | (simp only [go_sem, false_implies]; done) | fail) only [go_sem, wrap64, if_pos, and_self]
    rw [enc_snoc, setS_snoc]
    refine hK _ _ (by omega) ⟨(by repeat (first | exact hg.mono (by omega) | exact Good.nil | refine Good.upd ?_ (by omega) rfl | refine Good.upd ?_ (by omega) (hLr _ _ _ (by omega)) | refine Good.upd ?_ (by omega) (by simp [Obj'.refs, V.refss, V.refs] <;> omega))), by omega, fun j hj => ?_⟩ (fun j g1 g2 => by (repeat (first | rfl | rw [upd_same] | rw [upd_ne _ _ _ _ (by omega)])))
    · by_cases e : j = id
      · subst e; (repeat (first | rfl | rw [upd_same] | rw [upd_ne _ _ _ _ (by omega)]))
      · rw [upd_ne _ _ _ _ e, upd_ne _ _ _ _ e, upd_ne _ _ _ _ (by omega), hI.eq j hj, upd_ne _ _ _ _ e]
  | some p =>
    obtain ⟨i, y⟩ := p
    obtain ⟨rfl, e1, hn⟩ := setS_some ha
    have hs : nmStep bs x = (bs, false) := by simp [nmStep, nmOk, hn]
    rw [hs] at hK
    simp +contextual (disch := first | omega | (simp only [go_sem, false_implies]; done) | fail) only [go_sem, wrap64, if_pos, q0, q1, ha]
    rw [enc_set, e1]
    refine hK _ _ (by omega) ⟨(by repeat (first | exact hg.mono (by omega) | exact Good.nil | refine Good.upd ?_ (by omega) rfl | refine Good.upd ?_ (by omega) (hLr _ _ _ (by omega)) | refine Good.upd ?_ (by omega) (by simp [Obj'.refs, V.refss, V.refs] <;> omega))), by omega, fun j hj => ?_⟩ (fun j g1 g2 => by (repeat (first | rfl | rw [upd_same] | rw [upd_ne _ _ _ _ (by omega)])))
    · by_cases e : j = id
      · subst e; (repeat (first | rfl | rw [upd_same] | rw [upd_ne _ _ _ _ (by omega)]))
      · rw [upd_ne _ _ _ _ e, upd_ne _ _ _ _ e, upd_ne _ _ _ _ (by omega), hI.eq j hj, upd_ne _ _ _ _ e]
theorem fold_names : ∀ (l : List TNm) (bs : List (List UInt8)), match namesF l bs with | some B => foldE nmStep bs l = (B, true) | none => (foldE nmStep bs l).2 = false
  | [], bs => rfl
  | x :: l, bs => by
    have ih := fold_names l (bs ++ [x.name])
    simp only [namesF, foldE, nmStep, nmOk]
    by_cases h1 : bs.any (· == x.name) = true
    · simp [h1]
    · simp only [Bool.not_eq_true] at h1
      simp only [h1, Bool.false_eq_true, if_false, Bool.not_false, Bool.true_and]
      by_cases h2 : (nameF x.name && inB x.args 0 4) = true
      · have h3 : ¬ ((!nameF x.name || !inB x.args 0 4) = true) := by simp at h2; simp [h2]
        rw [if_neg h3, if_pos h2]
        exact ih
      · have h3 : (!nameF x.name || !inB x.args 0 4) = true := by
          cases hn : nameF x.name <;> simp_all
        rw [if_pos h3, if_neg h2]
end Go.Proofs.YtealblliddhgiaaGreat
namespace Go.Proofs.YtealblliddhgiaaGreat
def errOf (ok : Bool) : Int := if ok = true then 0 else 2
@[reducible] def sigH (s : TSig) (bs : List (List UInt8)) : Nat → Obj' := upd (upd (upd (fun _ => .no) 0 (.row s.row)) 3 (.row [.mp 2])) 2 (.map 9 4 (enc .str (setS bs)))
theorem checkSig_c (s : TSig) (hs : s.Fits) : PCt Tryz.prog 38 [s.d] (.ret [.i (errOf (sigF s))]) := by
  refine PCt.of_ev mix fn38 (by simp) ?_
  rw [c38]
  simp +contextual (disch := first | omega | (simp only [go_sem, false_implies]; done) | fail) only [go_sem, wrap64, if_pos, Nat.add_assoc, Nat.left_eq_add, Nat.add_eq_left, Nat.add_left_cancel_iff]
  refine call_keep (within_c _ _ _) rfl ?_
  simp +contextual (disch := first | omega | (simp only [go_sem, false_implies]; done) | fail) only [go_sem, wrap64, if_pos, Nat.add_assoc, Nat.left_eq_add, Nat.add_eq_left, Nat.add_left_cancel_iff]
  cases h1 : (!inB s.cons.length 2 12 || decide (8 < (s.funs.length : Int))) with
  | true =>
    have : sigF s = false := by simp only [sigF, h1, if_true]
    simp +contextual (disch := first | omega | (simp only [go_sem, false_implies]; done) | fail) only [go_sem, wrap64, if_pos, h1]
    simp [this, errOf]
  | false =>
    have hn1 := fold_names s.cons []
    have hfit : ∀ (l : List TNm), (∀ x ∈ l, x.name.length ≤ 9223372036854775807) → ∀ x ∈ l, ∀ bs, True → StC Tryz.prog 77 (.d x.d :: [.ptr 3 0]) 4 (sigH s bs) (sigH s (nmStep bs x).1) (.d (.bool (nmStep bs x).2)) := fun l hl x hx bs _ =>
      fits_c x (hl x hx) 4 3 2 (upd (upd (fun _ => .no) 0 (.row s.row)) 3 (.row [.mp 2])) (upd_same _ _ _) (by omega) (by omega) (by omega) bs
    simp [inB] at h1
    obtain ⟨a, b, r, hc⟩ : ∃ a b r, s.cons = a :: b :: r := by
      match h : s.cons with
      | [] => rw [h] at h1; simp at h1
      | [a] => rw [h] at h1; simp at h1
      | a :: b :: r => exact ⟨a, b, r, rfl⟩
    have h1' : (!inB s.cons.length 2 12 || decide (8 < (s.funs.length : Int))) = false := by simp [inB]; omega
    have hsig : sigF s = if (!isNm a fB || !isNm b tB) = true then false else match namesF s.cons [] with
        | none => false
        | some l => (namesF s.funs l).isSome := by
      unfold sigF
      rw [if_neg (by rw [h1']; exact Bool.false_ne_true), hc]
      dsimp only
      rfl
    simp +contextual (disch := first | omega | (simp only [go_sem, false_implies]; done) | fail) only [go_sem, wrap64, if_pos, h1']
    refine callR_heap (every_Nm s.cons hs.lc 77 [.ptr 3 0] 4 (sigH s) nmStep (by simp [V.refss, V.refs]) (fun _ => True) (fun _ _ _ _ _ => trivial) (hfit s.cons hs.nc) [] trivial _ _ ⟨?_, by omega, fun id hid => ?_⟩ _ _ fun o2 n2 m1 m2 m3 => ?_)
    · exact (by repeat (first | exact hg.mono (by omega) | exact Good.nil | refine Good.upd ?_ (by omega) rfl | refine Good.upd ?_ (by omega) (hLr _ _ _ (by omega)) | refine Good.upd ?_ (by omega) (by simp [Obj'.refs, V.refss, V.refs] <;> omega)))
    · rcases (by omega : id = 0 ∨ id = 1 ∨ id = 2 ∨ id = 3) with rfl | rfl | rfl | rfl <;> rfl
    have p0 : ∀ {bs : List (List UInt8)} {o : Nat → Obj'} {n : Nat}, HInv 4 (sigH s bs) o n → o 0 = .row s.row := fun h => h.eq 0 (by omega)
    have p3 : ∀ {bs : List (List UInt8)} {o : Nat → Obj'} {n : Nat}, HInv 4 (sigH s bs) o n → o 3 = .row [.mp 2] := fun h => h.eq 3 (by omega)
    cases hn : namesF s.cons [] with
    | none =>
      rw [hn] at hn1
      simp only at hn1
      rw [hn1]
      simp +contextual (disch := first | omega | (simp only [go_sem, false_implies]; done) | fail) only [go_sem, wrap64, if_pos, Nat.add_assoc, Nat.left_eq_add, Nat.add_eq_left, Nat.add_left_cancel_iff]
      rw [hsig, hn]
      split <;> rfl
    | some B =>
      rw [hn] at hn1
      simp only at hn1
      rw [hn1] at m2 ⊢
      simp +contextual (disch := first | omega | (simp only [go_sem, false_implies]; done) | fail) only [go_sem, wrap64, if_pos, Nat.add_assoc, Nat.left_eq_add, Nat.add_eq_left, Nat.add_left_cancel_iff, p0 m2]
      refine callR_heap (every_Nm s.funs hs.lf 77 [.ptr 3 0] 4 (sigH s) nmStep (by simp [V.refss, V.refs]) (fun _ => True) (fun _ _ _ _ _ => trivial) (hfit s.funs hs.nf) B trivial _ _ (m2.mono (by omega)) _ _ fun o4 n4 k1 k2 k3 => ?_)
      have hn2 := fold_names s.funs B
      cases hf : namesF s.funs B with
      | none =>
        rw [hf] at hn2
        simp only at hn2
        rw [hn2]
        simp +contextual (disch := first | omega | (simp only [go_sem, false_implies]; done) | fail) only [go_sem, wrap64, if_pos, Nat.add_assoc, Nat.left_eq_add, Nat.add_eq_left, Nat.add_left_cancel_iff]
        rw [hsig, hn]
        simp only [hf]
        split <;> rfl
      | some C =>
        rw [hf] at hn2
        simp only at hn2
        rw [hn2] at k2 ⊢
        simp +contextual (disch := first | omega | (simp only [go_sem, false_implies]; done) | fail) only [go_sem, wrap64, if_pos, Nat.add_assoc, Nat.left_eq_add, Nat.add_eq_left, Nat.add_left_cancel_iff, p0 k2, hc]
        have hsig2 : sigF s = !(!isNm a fB || !isNm b tB) := by
          rw [hsig, hn]; simp only [hf]
          cases (!isNm a fB || !isNm b tB) <;> rfl
        refine cond_intro (fun h5 => ?_) (fun h5 => ?_)
        · simp +contextual (disch := first | omega | (simp only [go_sem, false_implies]; done) | fail) only [go_sem, wrap64, if_pos, and_self]
          have h5' : (!isNm a fB || !isNm b tB) = true := h5
          rw [hsig2, h5']; rfl
        · simp +contextual (disch := first | omega | (simp only [go_sem, false_implies]; done) | fail) only [go_sem, wrap64, if_pos, and_self]
          have h5' : (!isNm a fB || !isNm b tB) = false := h5
          rw [hsig2, h5']; rfl
def rightF (s : TSig) (l : List Tm) : Bool := sigF s && l.all (formedF s)
theorem foldE_all {α : Type} (p : α → Bool) : ∀ (l : List α) (u : Unit), foldE (fun _ x => ((), p x)) u l = ((), l.all p)
  | [], _ => rfl
  | x :: l, u => by
    simp only [foldE, List.all_cons, foldE_all p l]
    cases p x <;> rfl
theorem every_keep (l : List Tm) (hl : l.length ≤ 9223372036854775807) (g : Nat) (caps : List V) (base : Nat) (h : Nat → Obj') (p : Tm → Bool) (hc : ∀ r ∈ V.refss caps, r < base)
    (hp : ∀ x ∈ l, StC Tryz.prog g (.d x.d :: caps) base h h (.d (.bool (p x)))) : StC Tryz.prog 87 [.d (.sl (l.map Tm.d)), .func (.func g) [] caps] base h h (.d (.bool (l.all p))) := by
  have := every_Tm l hl g caps base (fun _ : Unit => h) (fun _ x => ((), p x)) hc (fun _ => True) (fun _ _ _ _ _ => trivial) (fun x hx _ _ => hp x hx) () trivial
  simpa only [foldE_all] using this
structure Tm.Fin (t : Tm) : Prop where
  fits : t.fits
  hgt : t.hgt ≤ 900000
theorem right1_c (s : TSig) (hs : s.Fits) (t : Tm) (ht : t.Fin) (base sp : Nat) (h : Nat → Obj') (hsp : h sp = .row s.row) (hb : sp < base) : StC Tryz.prog 88 [.d t.d, .ptr sp 0] base h h (.d (.bool (formedF s t))) := by
  intro o nx hI K X hK
  have hle := hI.le
  have hg := hI.good
  have q0 : o sp = .row s.row := by rw [hI.eq sp hb, hsp]
  refine CtK.of_ev mix fn88 (by simp) ?_
  rw [c88]
  simp +contextual (disch := first | omega | (simp only [go_sem, false_implies]; done) | fail) only [go_sem, wrap64, if_pos, q0]
  refine call_keep (formed_c s hs t ht.fits ht.hgt) rfl ?_
  simp +contextual (disch := first | omega | (simp only [go_sem, false_implies]; done) | fail) only [go_sem, wrap64, if_pos, and_self]
  exact hK _ _ (by omega) ⟨(by repeat (first | exact hg.mono (by omega) | exact Good.nil | refine Good.upd ?_ (by omega) rfl | refine Good.upd ?_ (by omega) (hLr _ _ _ (by omega)) | refine Good.upd ?_ (by omega) (by simp [Obj'.refs, V.refss, V.refs] <;> omega))), by omega, fun j hj => by rw [upd_ne _ _ _ _ (by omega), hI.eq j hj]⟩ (fun j g1 g2 => by (repeat (first | rfl | rw [upd_same] | rw [upd_ne _ _ _ _ (by omega)])))
theorem right_c (s : TSig) (hs : s.Fits) (l : List Tm) (hl : l.length ≤ 9223372036854775807) (hf : ∀ t ∈ l, t.Fin) : PCt Tryz.prog 51 [s.d, .sl (l.map Tm.d)] (.ret [.bool (rightF s l)]) := by
  refine PCt.of_ev mix fn51 (by simp) ?_
  rw [c51]
  simp +contextual (disch := first | omega | (simp only [go_sem, false_implies]; done) | fail) only [go_sem, wrap64, if_pos, and_self]
  refine call_keep (checkSig_c s hs) rfl ?_
  cases h1 : sigF s with
  | false =>
    simp +contextual (disch := first | omega | (simp only [go_sem, false_implies]; done) | fail) only [go_sem, wrap64, if_pos, errOf]
    simp [rightF, h1]
  | true =>
    simp +contextual (disch := first | omega | (simp only [go_sem, false_implies]; done) | fail) only [go_sem, wrap64, if_pos, errOf]
    refine callR_heap (every_keep l hl 88 [.ptr 0 0] 1 (upd (fun _ => .no) 0 (.row s.row)) (formedF s) (by simp [V.refss, V.refs]) (fun x hx => right1_c s hs x (hf x hx) 1 0 _ (upd_same _ _ _) (by omega)) _ _ ⟨(by repeat (first | exact hg.mono (by omega) | exact Good.nil | refine Good.upd ?_ (by omega) rfl | refine Good.upd ?_ (by omega) (hLr _ _ _ (by omega)) | refine Good.upd ?_ (by omega) (by simp [Obj'.refs, V.refss, V.refs] <;> omega))), by omega, fun id hid => rfl⟩ _ _ fun o2 n2 m1 m2 m3 => ?_)
    simp +contextual (disch := first | omega | (simp only [go_sem, false_implies]; done) | fail) only [go_sem, wrap64, if_pos, and_self]
    simp [rightF, h1]
end Go.Proofs.YtealblliddhgiaaGreat
namespace Go.Proofs.YtealblliddhgiaaGreat
end Go.Proofs.YtealblliddhgiaaGreat
namespace Go.Proofs.YtealblliddhgiaaGreat
def Tm.sizeI (t : Tm) : Int := (pre t 1).length
structure Tm.Cnt (t : Tm) : Prop extends t.Fin where
  size : t.sizeI ≤ 1000000
theorem pre_len_any : ∀ (t : Tm) (d d' : Int), (pre t d).length = (pre t d').length := by
  refine Tm.ind' fun t ih d d' => ?_
  rw [pre_eq, pre_eq]
  simp only [List.length_cons, List.length_flatMap]
  congr 2
  exact List.map_congr_left fun k hk => ih k hk _ _
end Go.Proofs.YtealblliddhgiaaGreat
