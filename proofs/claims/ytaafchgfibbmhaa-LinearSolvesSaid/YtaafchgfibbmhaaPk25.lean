/-
  A PART OF THE PROOF (put together by program): several texts, one behind the other. Conditions: none.
-/
import Derived.Test.YtaafchgfibbmhaaPk24
set_option linter.unusedSimpArgs false
set_option linter.unusedVariables false
namespace Go.Proofs.Ytaafchgfibbmhaa
theorem sameInts_c (a b : List Int) (ha : a.length ≤ 9223372036854775807) : PCt Try.prog 70 [.sl (a.map .i), .sl (b.map .i)] (.ret [.bool (a == b)]) := by
  refine PCt.of_ev mix fn70 (by simp) ?_
  rw [c70]
  simp +contextual only [go_sem]
  refine cond_intro (fun h1 => ?_) (fun h1 => ?_)
  · simp +contextual only [go_sem]
    have : (a == b) = false := by
      rw [beq_eq_false_iff_ne]
      rintro rfl
      simp at h1
    rw [this]
  · simp +contextual only [go_sem]
    have hl : a.length = b.length := by simp at h1; omega
    refine loop_fam (fun k : Nat => ⟨envJ [.d (.sl (a.map .i)), .d (.sl (b.map .i)), .junk, .junk, .junk, .d (.i k)], fun _ => .no, 0⟩)
      (fun k => k ≤ a.length ∧ a.take k = b.take k) (fun k => a.length - k) 0 ⟨Nat.zero_le _, by simp⟩ (SLe.d0 _ ?_) (fun k hk => ?_)
    · (repeat (first | exact backE_nil | refine backE_junk ?_ | refine backE_d rfl ?_ | refine backE_d (d_int (wrapN (by omega))) ?_))
    simp +contextual only [go_sem]
    refine cond_intro (fun h2 => ?_) (fun h2 => ?_)
    · simp at h2
      obtain ⟨x, hx⟩ : ∃ x, a[k]? = some x := ⟨a[k], by simp [h2]⟩
      obtain ⟨y, hy⟩ : ∃ y, b[k]? = some y := ⟨b[k]'(by omega), by simp [← hl, h2]⟩
      simp +contextual only [go_sem, hx, hy, D.i]
      refine end_intro (by decide) ?_
      simp +contextual only [go_sem]
      refine cond_intro (fun h3 => ?_) (fun h3 => ?_)
      · simp +contextual only [go_sem]
        have : (a == b) = false := by
          rw [beq_eq_false_iff_ne]
          rintro rfl
          rw [hx] at hy; injection hy with hy; subst hy
          simp at h3
        rw [this]
      · simp +contextual only [go_sem]
        refine nextS_intro (k + 1) ⟨h2, ?_⟩ (by omega) (SLe.d0 _ ?_)
        · rw [List.take_add_one, List.take_add_one, hx, hy, hk.2]
          simp at h3
          rw [h3]
        · (repeat (first | exact backE_nil | refine backE_junk ?_ | refine backE_d rfl ?_ | refine backE_d (d_int (wrapN (by omega))) ?_))
    · simp +contextual only [go_sem]
      simp at h2
      have : (a == b) = true := by
        have := hk.2
        rw [List.take_of_length_le (by omega), List.take_of_length_le (by omega)] at this
        rw [this]; simp
      rw [this]
def rowEq (a b : Row) : Bool := (a.c == b.c) && (a.rel == b.rel) && (a.b == b.b)
theorem sameRow_c (a b : Row) (ha : a.c.length ≤ 9223372036854775807) : PCt Try.prog 69 [a.d, b.d] (.ret [.bool (rowEq a b)]) := by
  refine PCt.of_ev mix fn69 (by simp) ?_
  rw [c69]
  simp +contextual only [go_sem]
  refine call_keep (sameInts_c a.c b.c ha) rfl ?_
  simp +contextual only [go_sem]
  rfl
def stepRel (out : Int) (x : Int × Row) : Int := if x.1 ≠ 0 ∧ x.2.rel ≠ 3 ∧ out ≠ 2 then x.2.rel else out
def kindF (s : Sys) (t : List Int) : Int := (t.zip s.rows).foldl stepRel 3
theorem foldl_take_succ {α β : Type} {f : β → α → β} {b : β} {l : List α} {k : Nat} {x : α} (h : l[k]? = some x) : (l.take (k + 1)).foldl f b = f ((l.take k).foldl f b) x := by
  rw [List.take_add_one, h]; simp
theorem kind_c (s : Sys) (t : List Int) (hl : t.length = s.rows.length) (hs : s.rows.length ≤ 9223372036854775807) : PCt Try.prog 81 [s.d, .sl (t.map .i)] (.ret [.i (kindF s t)]) := by
  refine PCt.of_ev mix fn81 (by simp) ?_
  rw [c81]
  simp +contextual only [go_sem]
  refine loop_fam (fun k : Nat => ⟨envJ [.junk, .d (.sl (t.map .i)), .ptr 0 0, .junk, .junk, .d (.i (((t.zip s.rows).take k).foldl stepRel 3)), .d (.i k)], s.o, 1⟩)
    (fun k => k ≤ t.length) (fun k => t.length - k) 0 (Nat.zero_le _) (SLe.d1 _ s.o_good (by omega) rfl ?_) (fun k hk => ?_)
  · refine backE_junk (backE_d rfl (backE_v rfl (by simp [V.refs]) ?_))
    (repeat (first | exact backE_nil | refine backE_junk ?_ | refine backE_d rfl ?_ | refine backE_d (d_int (wrapN (by omega))) ?_))
  simp +contextual only [go_sem]
  refine cond_intro (fun h2 => ?_) (fun h2 => ?_)
  · simp at h2
    obtain ⟨n, hn⟩ : ∃ n, t[k]? = some n := ⟨t[k], by simp [h2]⟩
    obtain ⟨r, hr⟩ : ∃ r, s.rows[k]? = some r := ⟨s.rows[k]'(by omega), by simp [← hl, h2]⟩
    have hz : (t.zip s.rows)[k]? = some (n, r) := by rw [List.getElem?_zip_eq_some]; exact ⟨hn, hr⟩
    simp +contextual only [go_sem, hn, hr, Row.d, D.i]
    refine cond_intro (fun h3 => ?_) (fun h3 => ?_)
    · simp +contextual only [go_sem]
      refine nextS_intro (k + 1) h2 (by omega) (SLe.d1 _ s.o_good (by omega) rfl ?_)
      refine backE_junk (backE_d rfl (backE_v rfl (by simp [V.refs]) (backE_junk (backE_junk (backE_d (d_int ?_) ?_)))))
      · rw [foldl_take_succ hz]
        simp at h3
        rw [stepRel, if_pos ⟨h3.1.1, h3.1.2, h3.2⟩]
      · (repeat (first | exact backE_nil | refine backE_junk ?_ | refine backE_d rfl ?_ | refine backE_d (d_int (wrapN (by omega))) ?_))
    · simp +contextual only [go_sem]
      refine nextS_intro (k + 1) h2 (by omega) (SLe.d1 _ s.o_good (by omega) rfl ?_)
      refine backE_junk (backE_d rfl (backE_v rfl (by simp [V.refs]) (backE_junk (backE_junk (backE_d (d_int ?_) ?_)))))
      · rw [foldl_take_succ hz]
        simp at h3
        rw [stepRel, if_neg (fun h => h.2.2 (h3 h.1 h.2.1))]
      · (repeat (first | exact backE_nil | refine backE_junk ?_ | refine backE_d rfl ?_ | refine backE_d (d_int (wrapN (by omega))) ?_))
  · simp +contextual only [go_sem]
    simp at h2
    rw [List.take_of_length_le (by simp; omega)]
    rfl
def comb (a : Int) (x : List Int) (b : Int) (y : List Int) : List Int := List.zipWith (fun p q => a * p + b * q) x y
end Go.Proofs.Ytaafchgfibbmhaa
namespace Go.Proofs.Ytaafchgfibbmhaa
theorem comb_get {a : Int} {x : List Int} {b : Int} {y : List Int} {k : Nat} {p q : Int} (hp : x[k]? = some p) (hq : y[k]? = some q) : (comb a x b y)[k]? = some (a * p + b * q) := by
  simp [comb, List.getElem?_zipWith, hp, hq]
theorem comb_length {a : Int} {x : List Int} {b : Int} {y : List Int} (h : x.length = y.length) : (comb a x b y).length = x.length := by simp [comb, h]
theorem combined_c (a : Int) (x : List Int) (b : Int) (y : List Int) (hl : x.length = y.length) (hx : x.length ≤ 1000) (hb : ∀ (k : Nat) (p q : Int), x[k]? = some p → y[k]? = some q → (-4611686018427387904 ≤ a * p ∧ a * p ≤ 4611686018427387903) ∧ (-4611686018427387904 ≤ b * q ∧ b * q ≤ 4611686018427387903)) :
    PCt Try.prog 79 [.i a, .sl (x.map .i), .i b, .sl (y.map .i)] (.ret [.sl ((comb a x b y).map .i)]) := by
  have hc : (comb a x b y).length = x.length := comb_length hl
  have h8 : 8 * x.length ≤ 140737488355328 := by omega
  have h9 : x.length ≤ 140737488355328 := by omega
  refine PCt.of_ev mix fn79 (by simp) ?_
  rw [c79]
  simp +contextual only [go_sem, h8, h9, if_true, List.length_replicate]
  refine loop_fam (fun k : Nat => ⟨envJ [.d (.i a), .d (.sl (x.map .i)), .d (.i b), .d (.sl (y.map .i)), .junk, .junk, .junk, .junk, .junk, .osl 3 0, .junk, .junk, .junk, .junk, .junk, .d (.i x.length), .d (.i k)], upd (fun _ => .no) 3 (.arr 0 3 1 (fillD (comb a x b y) k)), 4⟩)
    (fun k => k ≤ x.length) (fun k => x.length - k) 0 (Nat.zero_le _) (SLe.backL _ (Nat.zero_le _) (by omega) (Good.upd Good.nil (by decide) rfl) ?_ ?_) (fun k hk => ?_)
  · rw [fillD_zero, hc]
    exact (fun id hid => by simp only [upd] <;> ((repeat' split) <;> first | rfl | omega | (simp_all; done)))
  · refine backE_d rfl (backE_d rfl (backE_d rfl (backE_d rfl (backE_junk (backE_junk (backE_junk (backE_junk (backE_junk (backE_v rfl (by simp [V.refs]) ?_)))))))))
    (repeat (first | exact backE_nil | refine backE_junk ?_ | refine backE_d rfl ?_ | refine backE_d (d_int (wrapN (by omega))) ?_))
  simp +contextual only [go_sem]
  refine cond_intro (fun h2 => ?_) (fun h2 => ?_)
  · simp at h2
    obtain ⟨p, hp⟩ : ∃ p, x[k]? = some p := ⟨x[k], by simp [h2]⟩
    obtain ⟨q, hq⟩ : ∃ q, y[k]? = some q := ⟨y[k]'(by omega), by simp [← hl, h2]⟩
    obtain ⟨b1, b2⟩ := hb k p q hp hq
    have hg := fillD_get (comb a x b y) k (by omega)
    have hlen := fillD_length (comb a x b y) k (by omega)
    simp +contextual only [go_sem, hp, hq, D.i, hg, hlen, hc, h2, if_true]
    refine end_intro (by decide) ?_
    simp +contextual only [go_sem]
    refine nextS_intro (k + 1) h2 (by omega) (SLe.backL _ (Nat.zero_le _) (by omega) (Good.upd Good.nil (by decide) rfl) ?_ ?_)
    · rw [wrap64 (n := a * p) (by omega) (by omega), wrap64 (n := b * q) (by omega) (by omega), wrap64 (by omega) (by omega), fillD_set _ _ _ (comb_get hp hq)]
      exact (fun id hid => by simp only [upd] <;> ((repeat' split) <;> first | rfl | omega | (simp_all; done)))
    · refine backE_d rfl (backE_d rfl (backE_d rfl (backE_d rfl (backE_junk (backE_junk (backE_junk (backE_junk (backE_junk (backE_v rfl (by simp [V.refs]) ?_)))))))))
      (repeat (first | exact backE_nil | refine backE_junk ?_ | refine backE_d rfl ?_ | refine backE_d (d_int (wrapN (by omega))) ?_))
  · simp at h2
    have hk' : k = (comb a x b y).length := by omega
    subst hk'
    rw [fillD_all]
    simp +contextual only [go_sem]
@[reducible] def lineD (r : Row) : List D := [.i (r.c.getD 0 0), .i (r.c.getD 1 0), .i (r.c.getD 2 0), .i (r.c.getD 3 0), .i (r.c.getD 4 0), .i r.rel, .i r.b]
theorem lineOf_c (r : Row) (hl : r.c.length ≤ 5) : PCt Try.prog 80 [r.d] (.ret [.agg (lineD r)]) := by
  refine PCt.of_ev mix fn80 (by simp) ?_
  rw [c80]
  obtain ⟨c, rel, b⟩ := r
  simp only at hl
  match c, hl with
  | [], _ => simp +contextual only [go_sem]; refine end_intro (by decide) ?_; simp +contextual only [go_sem]; rfl
  | [_], _ => simp +contextual only [go_sem]; refine end_intro (by decide) ?_; simp +contextual only [go_sem]; rfl
  | [_, _], _ => simp +contextual only [go_sem]; refine end_intro (by decide) ?_; simp +contextual only [go_sem]; rfl
  | [_, _, _], _ => simp +contextual only [go_sem]; refine end_intro (by decide) ?_; simp +contextual only [go_sem]; rfl
  | [_, _, _, _], _ => simp +contextual only [go_sem]; refine end_intro (by decide) ?_; simp +contextual only [go_sem]; rfl
  | [_, _, _, _, _], _ => simp +contextual only [go_sem]; refine end_intro (by decide) ?_; simp +contextual only [go_sem]; rfl
theorem relOf_c (s : Sys) (t : List Int) (hl : t.length = s.rows.length) (hs : s.rows.length ≤ 9223372036854775807) (id : Nat) (o : Nat → Obj') (z : V) (ho : o id = .row [.d (.i s.vars), .d (.sl (s.rows.map Row.d)), z]) :
    CtO Try.prog 78 [.ptr id 0, .d (.sl (t.map .i))] o (.d (.i (kindF s t))) := by
  intro nx hg K X hK
  have hid : id < nx := hg.lt (by rw [ho]; exact Obj'.noConfusion)
  refine CtK.of_ev mix fn78 (by simp) ?_
  rw [c78]
  simp +contextual only [go_sem]
  refine loop_fam (fun k : Nat => ⟨envJ [.ptr id 0, .d (.sl (t.map .i)), .junk, .junk, .junk, .d (.i (((t.zip s.rows).take k).foldl stepRel 3)), .junk, .junk, .d (.sl (t.map .i)), .d (.i t.length), .d (.i k)], o, nx⟩)
    (fun k => k ≤ t.length) (fun k => t.length - k) 0 (Nat.zero_le _) (SLe.backL _ (Nat.le_refl _) (by omega) hg (fun _ _ => rfl) ?_) (fun k hk => ?_)
  · refine backE_v rfl (by simp [V.refs]; omega) ?_
    (repeat (first | exact backE_nil | refine backE_junk ?_ | refine backE_d rfl ?_ | refine backE_d (d_int (wrapN (by omega))) ?_))
  simp +contextual only [go_sem]
  refine cond_intro (fun h2 => ?_) (fun h2 => ?_)
  · simp at h2
    obtain ⟨n, hn⟩ : ∃ n, t[k]? = some n := ⟨t[k], by simp [h2]⟩
    obtain ⟨r, hr⟩ : ∃ r, s.rows[k]? = some r := ⟨s.rows[k]'(by omega), by simp [← hl, h2]⟩
    have hz : (t.zip s.rows)[k]? = some (n, r) := by rw [List.getElem?_zip_eq_some]; exact ⟨hn, hr⟩
    have fin : ∀ {e : Nat → V} {m : Nat} {v : Int}, nx ≤ m → e 0 = .ptr id 0 → e 1 = .d (.sl (t.map .i)) → e 5 = .d (.i v) → v = stepRel (((t.zip s.rows).take k).foldl stepRel 3) (n, r) → e 8 = .d (.sl (t.map .i)) → e 9 = .d (.i t.length) → e 10 = .d (.int .i64 (IntKind.i64.wrap (k + 1))) →
        nextS nx (fun k : Nat => ⟨envJ [.ptr id 0, .d (.sl (t.map .i)), .junk, .junk, .junk, .d (.i (((t.zip s.rows).take k).foldl stepRel 3)), .junk, .junk, .d (.sl (t.map .i)), .d (.i t.length), .d (.i k)], o, nx⟩) (fun k => k ≤ t.length) (fun k => t.length - k) k ⟨e, o, m⟩ := by
      intro e m v hm e0 e1 e5 hv e8 e9 e10
      refine nextS_intro (k + 1) h2 (by omega) (SLe.backL _ (Nat.le_refl _) hm hg (fun _ _ => rfl) ?_)
      refine backE_v e0 (by simp [V.refs]; omega) (backE_d e1 (backE_junk (backE_junk (backE_junk (backE_d (e5.trans (d_int ?_)) (backE_junk (backE_junk (backE_d e8 (backE_d e9 (backE_d (e10.trans (d_int (wrapN (by omega)))) backE_nil))))))))))
      rw [foldl_take_succ hz, hv]
    cases hn0 : (n == 0) with
    | true =>
      have hn1 : n = 0 := by simpa using hn0
      simp +contextual only [go_sem, hn, hr, Row.d, D.i, hn0]
      exact fin (by omega) rfl rfl rfl (by rw [stepRel, if_neg (fun h => h.1 hn1)]) rfl rfl rfl
    | false =>
      have hn1 : n ≠ 0 := by simpa using hn0
      simp +contextual only [go_sem, hn, hr, Row.d, D.i, ho, hn0]
      refine cond_intro (fun h3 => ?_) (fun h3 => ?_)
      · simp +contextual only [go_sem]
        simp at h3
        exact fin (by omega) rfl rfl rfl (by rw [stepRel, if_neg (fun h => h.2.1 h3)]) rfl rfl rfl
      · simp +contextual only [go_sem]
        simp at h3
        refine cond_intro (fun h4 => ?_) (fun h4 => ?_)
        · simp +contextual only [go_sem, hn, hr, Row.d, D.i, ho]
          simp at h4
          exact fin (by omega) rfl rfl rfl (by rw [stepRel, if_pos ⟨hn1, h3, h4⟩]) rfl rfl rfl
        · simp +contextual only [go_sem]
          simp at h4
          exact fin (by omega) rfl rfl rfl (by rw [stepRel, if_neg (fun h => h.2.2 h4)]) rfl rfl rfl
  · simp +contextual only [go_sem]
    simp at h2
    have : (t.zip s.rows).take k = t.zip s.rows := List.take_of_length_le (by simp; omega)
    rw [this]
    exact hK _ _ (by omega) (hg.mono (by omega)) (fun _ _ => rfl)
end Go.Proofs.Ytaafchgfibbmhaa
namespace Go.Proofs.Ytaafchgfibbmhaa
theorem line_eq {a b : Row} (hl : a.c.length = b.c.length) (h5 : a.c.length ≤ 5) :
    (((a.c.getD 0 0 == b.c.getD 0 0) && ((a.c.getD 1 0 == b.c.getD 1 0) && ((a.c.getD 2 0 == b.c.getD 2 0) && ((a.c.getD 3 0 == b.c.getD 3 0) && ((a.c.getD 4 0 == b.c.getD 4 0) && true))))) && ((a.rel == b.rel) && ((a.b == b.b) && true))) = rowEq a b := by
  have key : ((a.c.getD 0 0 == b.c.getD 0 0) && ((a.c.getD 1 0 == b.c.getD 1 0) && ((a.c.getD 2 0 == b.c.getD 2 0) && ((a.c.getD 3 0 == b.c.getD 3 0) && ((a.c.getD 4 0 == b.c.getD 4 0) && true))))) = (a.c == b.c) := by
    rw [Bool.eq_iff_iff]
    simp only [Bool.and_eq_true, beq_iff_eq, and_true]
    constructor
    · rintro ⟨h0, h1, h2, h3, h4⟩
      apply List.ext_getElem hl
      intro i hi hi'
      have e : a.c.getD i 0 = b.c.getD i 0 := by
        rcases (by omega : i = 0 ∨ i = 1 ∨ i = 2 ∨ i = 3 ∨ i = 4) with h | h | h | h | h <;> rw [h] <;> assumption
      rw [List.getD_eq_getElem?_getD, List.getD_eq_getElem?_getD, List.getElem?_eq_getElem hi, List.getElem?_eq_getElem hi'] at e
      simpa using e
    · intro h; rw [h]; simp
  rw [key, rowEq, Bool.and_true, Bool.and_assoc]
structure XOk (v : Nat) (x : Int × Row) : Prop where
  n : -1000000000 ≤ x.1 ∧ x.1 ≤ 1000000000
  len : x.2.c.length = v
  c : ∀ c ∈ x.2.c, -1000 ≤ c ∧ c ≤ 1000
  b : -1000 ≤ x.2.b ∧ x.2.b ≤ 1000
end Go.Proofs.Ytaafchgfibbmhaa
namespace Go.Proofs.Ytaafchgfibbmhaa
end Go.Proofs.Ytaafchgfibbmhaa
namespace Go.Proofs.Ytaafchgfibbmhaa
def Grows (so : Nat → Obj') (c : Nat) (ty : TypeId) (sz : Nat) (es : List D) (x : V) : Prop :=
  (x = .nils ∧ es = [] ∧ 0 < sz) ∨ ∃ id ep, c ≤ id ∧ x = .osl id ep ∧ so id = .arr ep ty sz es
def growE (c : Nat) (x : V) (env : Nat → V) : List V → Nat → Prop
  | [], _ => True
  | v :: l, i => (v = .junk ∨ (v = env i ∧ ∀ r ∈ v.refs, r < c) ∨ (v = .osl c 0 ∧ env i = x)) ∧ growE c x env l (i + 1)
theorem growE_nil {c : Nat} {x : V} {env : Nat → V} {i : Nat} : growE c x env [] i := trivial
theorem growE_junk {c : Nat} {x : V} {env : Nat → V} {l : List V} {i : Nat} (h : growE c x env l (i + 1)) : growE c x env (.junk :: l) i := ⟨.inl rfl, h⟩
theorem growE_d {c : Nat} {x : V} {env : Nat → V} {l : List V} {i : Nat} {y : D} (he : env i = .d y) (h : growE c x env l (i + 1)) : growE c x env (.d y :: l) i := ⟨.inr (.inl ⟨he.symm, fun r hr => by simp [V.refs] at hr⟩), h⟩
theorem growE_v {c : Nat} {x : V} {env : Nat → V} {l : List V} {i : Nat} {v : V} (he : env i = v) (hr : ∀ r ∈ v.refs, r < c) (h : growE c x env l (i + 1)) : growE c x env (v :: l) i := ⟨.inr (.inl ⟨he.symm, hr⟩), h⟩
theorem growE_x {c : Nat} {x : V} {env : Nat → V} {l : List V} {i : Nat} (he : env i = x) (h : growE c x env l (i + 1)) : growE c x env (.osl c 0 :: l) i := ⟨.inr (.inr ⟨rfl, he⟩), h⟩
theorem growE_at {c : Nat} {x : V} {env : Nat → V} : ∀ (l : List V) (i : Nat), growE c x env l i → ∀ j, envJ l j = .junk ∨ (envJ l j = env (i + j) ∧ ∀ r ∈ (envJ l j).refs, r < c) ∨ (envJ l j = .osl c 0 ∧ env (i + j) = x)
  | [], i, _, j => by rw [envJ_nil]; exact .inl rfl
  | v :: l, i, h, 0 => by rw [envJ_zero]; exact h.1
  | v :: l, i, h, j + 1 => by
    rw [envJ_succ]
    have := growE_at l (i + 1) h.2 j
    rwa [show i + 1 + j = i + (j + 1) by omega] at this
def growPl (φ : Place) (c : Nat) (x : V) : Place := fun id => if id = c then (match x with | .osl id _ => φ id | _ => .slice none 0 0) else φ id
theorem SLe.grow {b : Nat} {e : Nat → V} {so : Nat → Obj'} {m : Nat} (l : List V) {o : Nat → Obj'} {c : Nat} {ty : TypeId} {sz : Nat} {es : List D} (x : V) (hb : b ≤ c) (hcm : c ≤ m) (hg : Good o c) (ho : ∀ id, id < c → so id = o id) (hx : Grows so c ty sz es x) (he : growE c x e l 0) :
    SLe b ⟨e, so, m⟩ ⟨envJ l, upd o c (.arr 0 ty sz es), c + 1⟩ := by
  intro M φ w tm hH hd
  let φ' : Place := growPl φ c x
  let o' : Nat → Obj' := upd o c (.arr 0 ty sz es)
  let H' : Hp := hp o' (c + 1)
  let H : Hp := ⟨so, fun id => id < m⟩
  have hoc : o' c = .arr 0 ty sz es := upd_same _ _ _
  have hol : ∀ id, id < c → o' id = o id := fun id hid => upd_ne _ _ _ _ (by omega)
  have hoh : ∀ id, c < id → o' id = .no := fun id hid => by rw [show o' id = o id from upd_ne _ _ _ _ (by omega)]; exact hg.fresh id (by omega)
  have hφl : ∀ id, id < c → φ' id = φ id := fun id hid => if_neg (by omega)
  have hφn : x = .nils → φ' c = .slice none 0 0 := fun h => by simp only [φ', growPl, h, if_pos]
  have hφc : ∀ id ep, x = .osl id ep → φ' c = φ id := fun id ep h => by simp only [φ', growPl, if_pos, h]
  
  have hold : ∀ id k, (o' id).live = true → blk (φ' id) = some k → ∃ j, (so j).live = true ∧ blk (φ j) = some k ∧ ((id < c ∧ j = id) ∨ (id = c ∧ c ≤ j)) := by
    intro id k h1 h2
    rcases Nat.lt_trichotomy id c with hlt | heq | hgt
    · rw [hol id hlt] at h1; rw [hφl id hlt] at h2
      exact ⟨id, by rw [ho id hlt]; exact h1, h2, .inl ⟨hlt, rfl⟩⟩
    · subst heq
      rcases hx with ⟨rfl, _, _⟩ | ⟨j, ep, hj, rfl, hso⟩
      · rw [hφn rfl] at h2; cases h2
      · rw [hφc j ep rfl] at h2
        exact ⟨j, by rw [hso]; rfl, h2, .inr ⟨rfl, hj⟩⟩
    · rw [hoh id hgt] at h1; cases h1
  have hlive : ∀ k, liveB φ' H' k → liveB φ H k := by
    rintro k ⟨id, h1, h2⟩
    obtain ⟨j, g1, g2, _⟩ := hold id k h1 h2
    exact ⟨j, g1, g2⟩
  have hB : ∀ k, ¬ mutB M φ H k → ¬ mutB M φ' H' k := fun k h h' => h (h'.imp id (hlive k))
  have hin : ∀ id, id < c → H'.o id = H.o id ∧ φ' id = φ id ∧ H'.us id := fun id hid => ⟨(hol id hid).trans (ho id hid).symm, hφl id hid, (by show id < c + 1; omega)⟩
  have hval : ∀ (v : V) (val : Value), (∀ r ∈ v.refs, r < c) → V.den (mutB M φ H) φ H w v val → V.den (mutB M φ' H') φ' H' w v val := fun v val hr h =>
    V.den_refs (H := H) (H' := H') hB v val (fun id hid => hin id (hr id hid)) h
  have hvals : ∀ (v : List V) (val : List Value), (∀ r ∈ V.refss v, r < c) → V.dens (mutB M φ H) φ H w v val → V.dens (mutB M φ' H') φ' H' w v val := fun v val hr h =>
    V.dens_refs (H := H) (H' := H') hB v val (fun id hid => hin id (hr id hid)) h
  refine ⟨φ', ⟨fun id => ?_, fun id hu => hoh id (by have : ¬ id < c + 1 := hu; omega), fun i j k h1 h2 h3 h4 => ?_, fun k hk => hH.ours k (hlive k hk), hH.old⟩, fun i => ?_, hlive, by show b ≤ c + 1; omega, fun id hid hr => ?_, fun id e' hid he' => ?_⟩
  · have hall := hH.ok id
    have hrefs := hg.refs id
    show ObjOk M φ' H' w id
    unfold ObjOk at hall ⊢
    rcases Nat.lt_trichotomy id c with hlt | heq | hgt
    · have e1 : (S.H ⟨e, so, m⟩).o id = o id := ho id hlt
      rw [e1] at hall
      have e2 : H'.o id = o id := hol id hlt
      rw [e2, hφl id hlt]
      cases hx' : o id with
      | no => trivial
      | row cs =>
        simp only [hx'] at hall hrefs ⊢
        obtain ⟨b, carr, ty, k1, k2, k3, k4⟩ := hall
        exact ⟨b, carr, ty, k1, k2, hvals _ _ hrefs k3, k4⟩
      | arr ep ty sz es =>
        simp only [hx'] at hall ⊢
        obtain ⟨k1, xs, k2, evs, k3, k4, k5⟩ := hall
        exact ⟨k1, xs, k2, evs, k3, k4, D.dens_mono (fun b _ hn => ⟨rfl, hB b hn⟩) _ _ k5⟩
      | fro ep es =>
        simp only [hx'] at hall ⊢
        exact D.den_mono (fun b _ hn => ⟨rfl, hB b hn⟩) _ _ hall
      | map kt vt es =>
        simp only [hx'] at hall ⊢
        obtain ⟨b, es', clock, k1, k2, k3⟩ := hall
        exact ⟨b, es', clock, k1, k2, EntsDen.mono (fun b _ hn => ⟨rfl, hB b hn⟩) _ _ k3⟩
      | loop nf n env ps a b st pd =>
        simp only [hx'] at hall hrefs ⊢
        obtain ⟨b, r, k1, k2, k3, k4, k5, k6, k7, k8, k9, k10⟩ := hall
        exact ⟨b, r, k1, k2, k3, k4, k5, k6, k7, k8, k9, fun i => hval _ _ (fun r hr => hrefs r (V.refss_get _ _ r hr)) (k10 i)⟩
    · subst heq
      have e2 : H'.o id = .arr 0 ty sz es := hoc
      rw [e2]
      rcases hx with ⟨rfl, rfl, hsz⟩ | ⟨j, ep, hj, rfl, hso⟩
      · refine ⟨hsz, [], ?_, [], by simp, by simp, rfl⟩
        rw [hφn rfl]
        exact World.ownsRow_nil _ _ _ _
      · have := hH.ok j
        unfold ObjOk at this
        simp only [S.H, hso] at this
        obtain ⟨k1, xs, k2, evs, k3, k4, k5⟩ := this
        exact ⟨k1, xs, by rw [hφc j ep rfl]; exact k2, evs, k3, k4, D.dens_mono (fun b _ hn => ⟨rfl, hB b hn⟩) _ _ k5⟩
    · have e2 : H'.o id = .no := hoh id hgt
      rw [e2]
      trivial
  · obtain ⟨i', a1, a2, a3⟩ := hold i k h1 h3
    obtain ⟨j', b1, b2, b3⟩ := hold j k h2 h4
    have := hH.apart i' j' k a1 b1 a2 b2
    rcases a3 with ⟨a3, a4⟩ | ⟨a3, a4⟩ <;> rcases b3 with ⟨b3, b4⟩ | ⟨b3, b4⟩ <;> omega
  · have hi := growE_at l 0 he i
    rw [Nat.zero_add] at hi
    rcases hi with h | ⟨h1, h2⟩ | ⟨h1, h2⟩
    · show V.den _ _ _ _ (envJ l i) _
      rw [h]; trivial
    · have := hd i
      simp only at this
      rw [← h1] at this
      exact hval _ _ h2 this
    · have := hd i
      simp only at this
      rw [h2] at this
      show V.den _ _ _ _ (envJ l i) _
      rw [h1]
      rcases hx with ⟨rfl, rfl, hsz⟩ | ⟨j, ep, hj, rfl, hso⟩
      · simp only [V.den] at this
        rw [this]
        refine ⟨rfl, (by show c < c + 1; omega), fun e' he' => ?_⟩
        have he' : (H'.o c).epoch = some e' := he'
        have this : H'.o c = .arr 0 ty sz [] := hoc
        rw [this] at he'
        simp only [Obj'.epoch, Option.some.injEq] at he'
        subst he'
        exact ⟨Nat.le_refl _, fun _ => (hφn rfl).symm⟩
      · obtain ⟨g1, g2, g3⟩ := this
        refine ⟨g1, (by show c < c + 1; omega), fun e' he' => ?_⟩
        have he' : (H'.o c).epoch = some e' := he'
        have this : H'.o c = .arr 0 ty sz es := hoc
        rw [this] at he'
        simp only [Obj'.epoch, Option.some.injEq] at he'
        subst he'
        have hep : ((S.H ⟨e, so, m⟩).o j).epoch = some ep := by simp only [S.H, hso, Obj'.epoch]
        exact ⟨Nat.le_refl _, fun _ => by rw [hφc j ep rfl]; exact (g3 ep hep).2 rfl⟩
  · have hlt : id < c := by omega
    exact ⟨by show (so id).isRow = true; rw [ho id hlt, ← hol id hlt]; exact hr, hφl id hlt⟩
  · have hlt : id < c := by omega
    exact ⟨e', by show (so id).epoch = some e'; rw [ho id hlt, ← hol id hlt]; exact he', Nat.le_refl _, fun _ => hφl id hlt⟩
def CtD (P : Program) (g : FuncId) (args : List V) (o : Nat → Obj') (x : D) : Prop :=
  ∀ nx, Good o nx → ∀ K X, (∀ v o' nx', nx ≤ nx' → Good o' nx' → (∀ id, id < nx → o' id = o id) → toD o' v = some x → (∀ id ∈ v.ids, nx ≤ id) → K v o' nx') → CtK P g args o nx K X
theorem HCt.of_ctd {P : Program} {g : FuncId} {args : List V} {rd : List Nat} {o : Nat → Obj'} {x : D} (nx : Nat) (hnx : rd.all (fun id => decide (id < nx)) = true) (hargs : ∀ id ∈ V.refss args, id ∈ rd) (hcl : ∀ id ∈ rd, ∀ j ∈ (o id).refs, j ∈ rd)
    (h : CtD P g args (rst rd o) x) : HCt P g args rd o (.ret [x]) [] := by
  have hlt : ∀ id ∈ rd, id < nx := fun id hid => by simpa using List.all_eq_true.1 hnx id hid
  have hin : ∀ id, id ∈ rd → rst rd o id = o id := fun id hid => by simp [rst, hid]
  have hout : ∀ id, id ∉ rd → rst rd o id = .no := fun id hid => by simp [rst, hid]
  have hgood : Good (rst rd o) nx := by
    refine ⟨fun id hid => hout id (fun hm => by have := hlt id hm; omega), fun id r hr => ?_⟩
    by_cases hid : id ∈ rd
    · rw [hin id hid] at hr; exact hlt r (hcl id hid r hr)
    · rw [hout id hid] at hr; cases hr
  refine HCt.of_ctk (nx := nx) hlt hargs hcl (fun x hx => by cases hx) (fun x hx => by cases hx) (h nx hgood _ _ fun v o' nx' _ _ h3 h4 h5 => ⟨fun id hid => ?_, [v], [x], rfl, ?_, rfl, fun id hid hm => ?_⟩)
  · rw [h3 id (hlt id hid), hin id hid]; rfl
  · simp [toDs, h4]
  · simp only [V.idss, List.append_nil] at hid
    have := h5 id hid
    have := hlt id hm
    omega
def CtR (P : Program) (g : FuncId) (args : List V) (o : Nat → Obj') (x : D) (pan : Bool) : Prop :=
  ∀ nx, Good o nx → ∀ K X, (∀ o' nx', nx ≤ nx' → Good o' nx' → (∀ id, id < nx → o' id = o id) → match pan with | false => K (.d x) o' nx' | true => X (.d x) o' nx') → CtK P g args o nx K X
theorem HCt.of_ctr {P : Program} {g : FuncId} {args : List V} {rd : List Nat} {o : Nat → Obj'} {x : D} {pan : Bool} (nx : Nat) (hnx : rd.all (fun id => decide (id < nx)) = true) (hargs : ∀ id ∈ V.refss args, id ∈ rd) (hcl : ∀ id ∈ rd, ∀ j ∈ (o id).refs, j ∈ rd)
    (h : CtR P g args (rst rd o) x pan) : HCt P g args rd o (match pan with | false => .ret [x] | true => .pan x) [] := by
  have hlt : ∀ id ∈ rd, id < nx := fun id hid => by simpa using List.all_eq_true.1 hnx id hid
  have hin : ∀ id, id ∈ rd → rst rd o id = o id := fun id hid => by simp [rst, hid]
  have hout : ∀ id, id ∉ rd → rst rd o id = .no := fun id hid => by simp [rst, hid]
  have hgood : Good (rst rd o) nx := by
    refine ⟨fun id hid => hout id (fun hm => by have := hlt id hm; omega), fun id r hr => ?_⟩
    by_cases hid : id ∈ rd
    · rw [hin id hid] at hr; exact hlt r (hcl id hid r hr)
    · rw [hout id hid] at hr; cases hr
  refine HCt.of_ctk (nx := nx) hlt hargs hcl (fun x hx => by cases hx) (fun x hx => by cases hx) (h nx hgood _ _ fun o' nx' _ _ h3 => ?_)
  have same : ∀ id ∈ rd, o' id = put o [] id := fun id hid => by rw [h3 id (hlt id hid), hin id hid]; rfl
  cases pan with
  | false => exact ⟨same, [.d x], [x], rfl, rfl, rfl, fun id hid => by simp [V.idss, V.ids] at hid⟩
  | true => exact ⟨same, x, rfl, rfl, fun id hid => by simp [V.ids] at hid⟩
end Go.Proofs.Ytaafchgfibbmhaa
namespace Go.Proofs.Ytaafchgfibbmhaa
def divs (l : List Int) (g : Int) : List Int := l.map (fun n => n.tdiv g)
theorem tdiv_small {n g : Int} (hn : -9223372036854775807 ≤ n ∧ n ≤ 9223372036854775807) (hg : 1 ≤ g) : -9223372036854775807 ≤ n.tdiv g ∧ n.tdiv g ≤ 9223372036854775807 := by
  have h1 : (n.tdiv g).natAbs ≤ n.natAbs := by rw [Int.natAbs_tdiv]; exact Nat.div_le_self _ _
  omega
theorem by_c (l : List Int) (g : Int) (id : Nat) (o : Nat → Obj') (ho : o id = .row [.d (.i g)]) (hg1 : 1 ≤ g) (hl : l.length ≤ 1000) (hb : ∀ n ∈ l, -9223372036854775807 ≤ n ∧ n ≤ 9223372036854775807) :
    CtD Try.prog 128 [.d (.sl (l.map .i)), .ptr id 0] o (.sl ((divs l g).map .i)) := by
  intro nx hg K X hK
  have hid : id < nx := hg.lt (by rw [ho]; exact Obj'.noConfusion)
  refine CtK.of_ev mix fn128 (by simp) ?_
  rw [c128]
  simp +contextual only [go_sem]
  refine loop_fam (fun k : Nat => ⟨envJ [.junk, .ptr id 0, .junk, .junk, .osl nx 0, .junk, .junk, .d (.sl (l.map .i)), .d (.i l.length), .d (.i k)], upd o nx (.arr 0 3 1 ((divs (l.take k) g).map .i)), nx + 1⟩)
    (fun k => k ≤ l.length) (fun k => l.length - k) 0 (Nat.zero_le _) (SLe.grow _ .nils (Nat.le_refl _) (by omega) hg (fun _ _ => rfl) (.inl ⟨rfl, rfl, by decide⟩) ?_) (fun k hk => ?_)
  · exact growE_junk (growE_v rfl (by simp [V.refs]; omega) (growE_junk (growE_junk (growE_x rfl (growE_junk (growE_junk (growE_d rfl (growE_d rfl (growE_d rfl growE_nil)))))))))
  simp +contextual only [go_sem]
  refine cond_intro (fun h2 => ?_) (fun h2 => ?_)
  · simp at h2
    obtain ⟨n, hn⟩ : ∃ n, l[k]? = some n := ⟨l[k], by simp [h2]⟩
    have hnb := hb n (List.mem_of_getElem? hn)
    have hg0 : ¬ (g = 0) := by omega
    have hne : id ≠ nx := by omega
    have hlen : (divs (l.take k) g).length ≤ 140737488355327 := by simp [divs]; omega
    have hlen8 : ((divs (l.take k) g).length + 1) * 8 ≤ 140737488355328 := by simp [divs]; omega
    simp +contextual only [go_sem, hn, ho, hne, hg0, D.i, if_false, if_true, hlen, hlen8, Nat.add_assoc, Nat.left_eq_add, Nat.add_eq_left, Nat.add_left_cancel_iff]
    have hstep : (divs (l.take k) g).map D.i ++ [D.i (n.tdiv g)] = (divs (l.take (k + 1)) g).map D.i := by
      rw [List.take_add_one, hn]; simp [divs]
    have htd := tdiv_small hnb hg1
    rw [wrap64 (n := n.tdiv g) (by omega) (by omega), hstep]
    refine nextS_intro (k + 1) h2 (by omega) (SLe.grow _ (.osl nx 1) (Nat.le_refl _) (by omega) hg (fun i hi => ?_) (.inr ⟨nx, 1, Nat.le_refl _, rfl, by simp⟩) ?_)
    · rw [upd_ne _ _ _ _ (by omega), upd_ne _ _ _ _ (by omega), upd_ne _ _ _ _ (by omega)]
    · exact growE_junk (growE_v rfl (by simp [V.refs]; omega) (growE_junk (growE_junk (growE_x rfl (growE_junk (growE_junk (growE_d rfl (growE_d rfl (growE_d (d_int (wrapN (by omega))) growE_nil)))))))))
  · simp +contextual only [go_sem]
    simp at h2
    rw [List.take_of_length_le (by omega)]
    refine hK _ _ _ (by omega) ((hg.mono (by omega)).upd (by omega) rfl) (fun i hi => upd_ne _ _ _ _ (by omega)) ?_ ?_
    · simp [toD]
    · simp [V.ids]
end Go.Proofs.Ytaafchgfibbmhaa
namespace Go.Proofs.Ytaafchgfibbmhaa
def gcdM (m : Made) : Nat := gcdL (m.r.b :: (m.r.c ++ m.t))
def redM (m : Made) : Made := if 1 < gcdM m then ⟨⟨divs m.r.c (gcdM m), m.r.rel, m.r.b.tdiv (gcdM m)⟩, divs m.t (gcdM m)⟩ else m
def bigOk (m : Made) : Bool := allF m.r.c 1000000000 && inB m.r.b (-1000000000) 1000000000 && allF m.t 1000000000
@[reducible] def tooD : D := .iface 119 (.agg [])
structure Made.Num (m : Made) : Prop where
  c : ∀ n ∈ m.r.c, -9223372036854775807 ≤ n ∧ n ≤ 9223372036854775807
  b : -9223372036854775807 ≤ m.r.b ∧ m.r.b ≤ 9223372036854775807
  t : ∀ n ∈ m.t, -9223372036854775807 ≤ n ∧ n ≤ 9223372036854775807
  lc : m.r.c.length ≤ 1000
  lt : m.t.length ≤ 1000
theorem all_cells (l : List Int) : ((l.map D.i).all fun z => z.cells.length == 1) = true := by simp [D.cells]
theorem reduced_c (m : Made) (hm : m.Num) : PCt Try.prog 112 [m.d] (if bigOk (redM m) then .ret [(redM m).d] else .pan tooD) := by
  have hlc := hm.lc
  have hlt := hm.lt
  have hdv := divisor_c (m.r.b :: (m.r.c ++ m.t)) (by simp; omega) (fun n hn => by
    simp at hn
    rcases hn with rfl | hn | hn
    · exact hm.b
    · exact hm.c n hn
    · exact hm.t n hn)
  simp only [List.map_cons, List.map_append] at hdv
  refine PCt.of_ev mix fn112 (by simp) ?_
  rw [c112]
  have k1 : 1 + m.r.c.length ≤ 140737488355328 := by omega
  have k2 : (1 + m.r.c.length) * 8 ≤ 140737488355328 := by omega
  have k3 : m.r.c.length + 1 + m.t.length ≤ 140737488355328 := by omega
  have k4 : (m.r.c.length + 1 + m.t.length) * 8 ≤ 140737488355328 := by omega
  have a1 := all_cells m.r.c
  have a2 := all_cells m.t
  simp only [D.cells] at a1 a2
  simp +contextual only [go_sem, if_true, k1, k2, k3, k4, a1, a2]
  refine callD_keep hdv rfl ?_
  simp +contextual only [go_sem, if_true, k1, k2, k3, k4, a1, a2]
  refine end_intro (by decide) ?_
  have hG : gcdL (m.r.b :: (m.r.c ++ m.t)) = gcdM m := rfl
  rw [hG]
  simp +contextual only [go_sem]
  refine cond_intro (fun h1 => ?_) (fun h1 => ?_)
  · simp at h1
    have hg1 : (1 : Int) ≤ gcdM m := by omega
    have hg0 : ¬ ((gcdM m : Int) = 0) := by omega
    simp +contextual only [go_sem]
    refine callDR_keep (rd := [14]) (rs := [.sl ((divs m.r.c (gcdM m)).map .i)]) (Δ := []) rfl (HCt.of_ctd 15 rfl ?_ ?_ (by_c m.r.c (gcdM m) 14 _ ?_ hg1 hlc hm.c)) ?_
    · simp [V.refss, V.refs]
    · simp [Obj'.refs, V.refss, V.refs]
    · simp [rst]
    simp +contextual only [go_sem, hg0, if_false]
    refine callDR_keep (rd := [14]) (rs := [.sl ((divs m.t (gcdM m)).map .i)]) (Δ := []) rfl (HCt.of_ctd 15 rfl ?_ ?_ (by_c m.t (gcdM m) 14 _ ?_ hg1 hlt hm.t)) ?_
    · simp [V.refss, V.refs]
    · simp [Obj'.refs, V.refss, V.refs]
    · simp [rst]
    simp +contextual only [go_sem, hg0, if_false]
    refine end_intro (by decide) ?_
    simp +contextual only [go_sem]
    have hM : redM m = Made.mk ⟨divs m.r.c (gcdM m), m.r.rel, m.r.b.tdiv (gcdM m)⟩ (divs m.t (gcdM m)) := by rw [redM, if_pos (by omega)]
    have htd := tdiv_small hm.b hg1
    rw [wrap64 (n := m.r.b.tdiv (gcdM m)) (by omega) (by omega)]
    refine call_keep (every_c (Made.mk ⟨divs m.r.c (gcdM m), m.r.rel, m.r.b.tdiv (gcdM m)⟩ (divs m.t (gcdM m))).r.c 1000000000 (by simp [divs]; omega) (by omega)) rfl ?_
    have hbig : bigOk (Made.mk ⟨divs m.r.c (gcdM m), m.r.rel, m.r.b.tdiv (gcdM m)⟩ (divs m.t (gcdM m))) = (allF (Made.mk ⟨divs m.r.c (gcdM m), m.r.rel, m.r.b.tdiv (gcdM m)⟩ (divs m.t (gcdM m))).r.c 1000000000 && inB (Made.mk ⟨divs m.r.c (gcdM m), m.r.rel, m.r.b.tdiv (gcdM m)⟩ (divs m.t (gcdM m))).r.b (-1000000000) 1000000000 && allF (Made.mk ⟨divs m.r.c (gcdM m), m.r.rel, m.r.b.tdiv (gcdM m)⟩ (divs m.t (gcdM m))).t 1000000000) := rfl
    cases e1 : allF (Made.mk ⟨divs m.r.c (gcdM m), m.r.rel, m.r.b.tdiv (gcdM m)⟩ (divs m.t (gcdM m))).r.c 1000000000 with
    | false =>
      rw [hM, hbig, e1]
      simp +contextual only [go_sem]
    | true =>
      simp +contextual only [go_sem]
      refine call_keep (within_c _ _ _) rfl ?_
      cases e2 : inB (Made.mk ⟨divs m.r.c (gcdM m), m.r.rel, m.r.b.tdiv (gcdM m)⟩ (divs m.t (gcdM m))).r.b (-1000000000) 1000000000 with
      | false =>
        rw [hM, hbig, e1, e2]
        have e2' : (decide (-1000000000 ≤ (Made.mk ⟨divs m.r.c (gcdM m), m.r.rel, m.r.b.tdiv (gcdM m)⟩ (divs m.t (gcdM m))).r.b) && decide ((Made.mk ⟨divs m.r.c (gcdM m), m.r.rel, m.r.b.tdiv (gcdM m)⟩ (divs m.t (gcdM m))).r.b ≤ 1000000000)) = false := e2
        simp +contextual only [go_sem, e2']
      | true =>
        have e2' : (decide (-1000000000 ≤ (Made.mk ⟨divs m.r.c (gcdM m), m.r.rel, m.r.b.tdiv (gcdM m)⟩ (divs m.t (gcdM m))).r.b) && decide ((Made.mk ⟨divs m.r.c (gcdM m), m.r.rel, m.r.b.tdiv (gcdM m)⟩ (divs m.t (gcdM m))).r.b ≤ 1000000000)) = true := e2
        simp +contextual only [go_sem, e2']
        refine call_keep (every_c (Made.mk ⟨divs m.r.c (gcdM m), m.r.rel, m.r.b.tdiv (gcdM m)⟩ (divs m.t (gcdM m))).t 1000000000 (by simp [divs]; omega) (by omega)) rfl ?_
        cases e3 : allF (Made.mk ⟨divs m.r.c (gcdM m), m.r.rel, m.r.b.tdiv (gcdM m)⟩ (divs m.t (gcdM m))).t 1000000000 with
        | false =>
          rw [hM, hbig, e1, e2, e3]
          simp +contextual only [go_sem]
        | true =>
          rw [hM, hbig, e1, e2, e3]
          simp +contextual only [go_sem]
  · simp at h1
    have hM : redM m = m := by rw [redM, if_neg (by omega)]
    simp +contextual only [go_sem]
    refine call_keep (every_c m.r.c 1000000000 (by omega) (by omega)) rfl ?_
    have hbig : bigOk m = (allF m.r.c 1000000000 && inB m.r.b (-1000000000) 1000000000 && allF m.t 1000000000) := rfl
    cases e1 : allF m.r.c 1000000000 with
    | false =>
      rw [hM, hbig, e1]
      simp +contextual only [go_sem]
    | true =>
      simp +contextual only [go_sem]
      refine call_keep (within_c _ _ _) rfl ?_
      cases e2 : inB m.r.b (-1000000000) 1000000000 with
      | false =>
        rw [hM, hbig, e1, e2]
        have e2' : (decide (-1000000000 ≤ m.r.b) && decide (m.r.b ≤ 1000000000)) = false := e2
        simp +contextual only [go_sem, e2']
      | true =>
        have e2' : (decide (-1000000000 ≤ m.r.b) && decide (m.r.b ≤ 1000000000)) = true := e2
        simp +contextual only [go_sem, e2']
        refine call_keep (every_c m.t 1000000000 (by omega) (by omega)) rfl ?_
        cases e3 : allF m.t 1000000000 with
        | false =>
          rw [hM, hbig, e1, e2, e3]
          simp +contextual only [go_sem]
        | true =>
          rw [hM, hbig, e1, e2, e3]
          simp +contextual only [go_sem]
end Go.Proofs.Ytaafchgfibbmhaa
namespace Go.Proofs.Ytaafchgfibbmhaa
structure Made.Ok (v r : Nat) (m : Made) : Prop where
  lc : m.r.c.length = v
  lt : m.t.length = r
  c : ∀ n ∈ m.r.c, -1000000000 ≤ n ∧ n ≤ 1000000000
  b : -1000000000 ≤ m.r.b ∧ m.r.b ≤ 1000000000
  t : ∀ n ∈ m.t, -1000000000 ≤ n ∧ n ≤ 1000000000
def rawSum (s : Sys) (a : Int) (m : Made) (b : Int) (n : Made) : Made := ⟨⟨comb a m.r.c b n.r.c, kindF s (comb a m.t b n.t), a * m.r.b + b * n.r.b⟩, comb a m.t b n.t⟩
def sumM (s : Sys) (a : Int) (m : Made) (b : Int) (n : Made) : Made := redM (rawSum s a m b n)
theorem comb_bound {a b : Int} {x y : List Int} (ha : -1000000000 ≤ a ∧ a ≤ 1000000000) (hb : -1000000000 ≤ b ∧ b ≤ 1000000000) (hx : ∀ n ∈ x, -1000000000 ≤ n ∧ n ≤ 1000000000) (hy : ∀ n ∈ y, -1000000000 ≤ n ∧ n ≤ 1000000000) :
    (∀ (k : Nat) (p q : Int), x[k]? = some p → y[k]? = some q → (-4611686018427387904 ≤ a * p ∧ a * p ≤ 4611686018427387903) ∧ (-4611686018427387904 ≤ b * q ∧ b * q ≤ 4611686018427387903)) ∧ ∀ n ∈ comb a x b y, -2000000000000000000 ≤ n ∧ n ≤ 2000000000000000000 := by
  have key : ∀ p ∈ x, ∀ q ∈ y, (-1000000000000000000 ≤ a * p ∧ a * p ≤ 1000000000000000000) ∧ (-1000000000000000000 ≤ b * q ∧ b * q ≤ 1000000000000000000) := fun p hp q hq => by
    have h1 := mul_bound (a := a) (b := p) (A := 1000000000) (B := 1000000000) (by omega) (by have := hx p hp; omega)
    have h2 := mul_bound (a := b) (b := q) (A := 1000000000) (B := 1000000000) (by omega) (by have := hy q hq; omega)
    omega
  refine ⟨fun k p q hp hq => ?_, fun n hn => ?_⟩
  · have := key p (List.mem_of_getElem? hp) q (List.mem_of_getElem? hq)
    omega
  · obtain ⟨i, hi, hn⟩ := List.getElem_of_mem hn
    simp only [comb, List.getElem_zipWith] at hn
    simp [comb] at hi
    have := key x[i] (List.getElem_mem _) y[i] (List.getElem_mem _)
    omega
theorem rawSum_num {s : Sys} {a b : Int} {m n : Made} {v r : Nat} (hm : m.Ok v r) (hn : n.Ok v r) (hv : v ≤ 5) (hr : r ≤ 10) (ha : -1000000000 ≤ a ∧ a ≤ 1000000000) (hb : -1000000000 ≤ b ∧ b ≤ 1000000000) : (rawSum s a m b n).Num := by
  obtain ⟨_, c2⟩ := comb_bound ha hb hm.c hn.c
  obtain ⟨_, t2⟩ := comb_bound ha hb hm.t hn.t
  have hlm := hm.lc
  have hln := hn.lc
  have htm := hm.lt
  have htn := hn.lt
  refine ⟨fun n hn => ?_, ?_, fun n hn => ?_, ?_, ?_⟩
  · have := c2 n hn; omega
  · have h1 := mul_bound (a := a) (b := m.r.b) (A := 1000000000) (B := 1000000000) (by omega) (by have := hm.b; omega)
    have h2 := mul_bound (a := b) (b := n.r.b) (A := 1000000000) (B := 1000000000) (by omega) (by have := hn.b; omega)
    simp only [rawSum]; omega
  · have := t2 n hn; omega
  · simp only [rawSum]; rw [comb_length (by omega)]; omega
  · simp only [rawSum]; rw [comb_length (by omega)]; omega
theorem sum_c (s : Sys) (a : Int) (m : Made) (b : Int) (n : Made) {v r : Nat} (hm : m.Ok v r) (hn : n.Ok v r) (hv : v ≤ 5) (hr : r ≤ 10) (hsr : s.rows.length = r) (ha : -1000000000 ≤ a ∧ a ≤ 1000000000) (hb : -1000000000 ≤ b ∧ b ≤ 1000000000)
    (id : Nat) (o : Nat → Obj') (z : V) (ho : o id = .row [.d (.i s.vars), .d (.sl (s.rows.map Row.d)), z]) (hz : ∀ r ∈ z.refs, (o r).refs = [] ∧ o r ≠ .no) :
    CtR Try.prog 117 [.ptr id 0, .d (.i a), .d m.d, .d (.i b), .d n.d] o (if bigOk (sumM s a m b n) then (sumM s a m b n).d else tooD) (!bigOk (sumM s a m b n)) := by
  have hlm := hm.lc
  have hln := hn.lc
  have htm := hm.lt
  have htn := hn.lt
  have hct := combined_c a m.t b n.t (by omega) (by omega) (comb_bound ha hb hm.t hn.t).1
  have hcc := combined_c a m.r.c b n.r.c (by omega) (by omega) (comb_bound ha hb hm.c hn.c).1
  have hred := reduced_c (rawSum s a m b n) (rawSum_num hm hn hv hr ha hb)
  intro nx hg K X hK
  have hid : id < nx := hg.lt (by rw [ho]; exact Obj'.noConfusion)
  refine CtK.of_ev mix fn117 (by simp) ?_
  rw [c117]
  simp +contextual only [go_sem, Nat.add_assoc, Nat.left_eq_add, Nat.add_eq_left, Nat.add_left_cancel_iff]
  refine call_give hct ?_
  simp +contextual only [go_sem, Nat.add_assoc, Nat.left_eq_add, Nat.add_eq_left, Nat.add_left_cancel_iff]
  refine callD_give hcc ?_
  simp +contextual only [go_sem, Nat.add_assoc, Nat.left_eq_add, Nat.add_eq_left, Nat.add_left_cancel_iff]
  have hzl : ∀ r ∈ z.refs, r < nx := fun r hr => hg.lt (hz r hr).2
  have hup : ∀ (x0 x1 x2 x3 x4 : Obj') (j : Nat), j < nx → upd (upd (upd (upd (upd o nx x0) (nx + 1) x1) (nx + 2) x2) (nx + 11) x3) (nx + 11) x4 j = o j := fun _ _ _ _ _ j hj => by
    rw [upd_ne _ _ _ _ (by omega), upd_ne _ _ _ _ (by omega), upd_ne _ _ _ _ (by omega), upd_ne _ _ _ _ (by omega), upd_ne _ _ _ _ (by omega)]
  refine callDR_keep (rd := id :: z.refs) (rs := [.i (kindF s (comb a m.t b n.t))]) (Δ := []) ?_ (HCt.of_cto (nx + 13) ?_ ?_ ?_ (relOf_c s (comb a m.t b n.t) ?_ (by omega) id _ z ?_)) ?_
  · simp; exact ⟨by omega, fun r hr => by have := hzl r hr; omega⟩
  · simp; exact ⟨by omega, fun r hr => by have := hzl r hr; omega⟩
  · simp [V.refss, V.refs]
  · intro j hj k hk
    rcases List.mem_cons.1 hj with rfl | hj
    · rw [hup _ _ _ _ _ _ hid, ho] at hk
      simp [Obj'.refs, V.refss, V.refs] at hk
      exact List.mem_cons_of_mem _ hk
    · rw [hup _ _ _ _ _ _ (hzl j hj), (hz j hj).1] at hk
      cases hk
  · rw [comb_length (by omega)]; omega
  · simp only [rst]
    rw [if_pos (by simp), hup _ _ _ _ _ _ hid, ho]
  simp +contextual only [go_sem, Nat.add_assoc, Nat.left_eq_add, Nat.add_eq_left, Nat.add_left_cancel_iff]
  refine end_intro (by kernel_rfl) ?_
  simp +contextual only [go_sem, Nat.add_assoc, Nat.left_eq_add, Nat.add_eq_left, Nat.add_left_cancel_iff]
  have hb1 := mul_bound (a := a) (b := m.r.b) (A := 1000000000) (B := 1000000000) (by omega) (by have := hm.b; omega)
  have hb2 := mul_bound (a := b) (b := n.r.b) (A := 1000000000) (B := 1000000000) (by omega) (by have := hn.b; omega)
  rw [wrap64 (n := a * m.r.b) (by omega) (by omega), wrap64 (n := b * n.r.b) (by omega) (by omega), wrap64 (n := a * m.r.b + b * n.r.b) (by omega) (by omega)]
  cases hbig : bigOk (sumM s a m b n) with
  | true =>
    rw [hbig] at hK
    have hb' : bigOk (redM (rawSum s a m b n)) = true := hbig
    rw [hb'] at hred
    refine call_give hred ?_
    simp +contextual only [go_sem, Nat.add_assoc, Nat.left_eq_add, Nat.add_eq_left, Nat.add_left_cancel_iff]
    refine hK _ _ (by omega) ?_ (fun i hi => ?_)
    · repeat (first | exact hg.mono (by omega) | refine Good.upd ?_ (by omega) rfl)
    · simp only [upd]
      repeat (first | rw [if_neg (by omega)])
  | false =>
    rw [hbig] at hK
    have hb' : bigOk (redM (rawSum s a m b n)) = false := hbig
    rw [hb'] at hred
    refine call_pan hred rfl ?_
    simp +contextual only [go_sem, Nat.add_assoc, Nat.left_eq_add, Nat.add_eq_left, Nat.add_left_cancel_iff]
    refine hK _ _ (by omega) ?_ (fun i hi => ?_)
    · repeat (first | exact hg.mono (by omega) | refine Good.upd ?_ (by omega) rfl)
    · simp only [upd]
      repeat (first | rw [if_neg (by omega)])
end Go.Proofs.Ytaafchgfibbmhaa
