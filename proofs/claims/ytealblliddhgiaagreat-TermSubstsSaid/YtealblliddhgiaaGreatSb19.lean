/-
  A PART OF THE PROOF. Conditions: none.
-/
import Derived.Shelf.Sort.Plain
import Derived.Shelf.Slices.In.SortNone
import Derived.Test.YtealblliddhgiaaGreatSb18
set_option linter.unusedSimpArgs false
set_option linter.unusedVariables false
namespace Go.Proofs.YtealblliddhgiaaGreat
theorem dec_lt {l : List UInt8} {i : Nat} {b : UInt8} (hb : l[i]? = some b) (h : b.toNat < 128) : Utf8.decode ⟨⟨l⟩⟩ i = (b.toNat, 1) := by
 have e : (ByteArray.mk ⟨l⟩).get! i = b := by
  show (Array.mk l)[i]! = b
  simp [hb]
 simp only [Utf8.decode, Nat.add_zero, e]
 rw [if_pos h]
theorem dec_ge {l : List UInt8} {i : Nat} {b : UInt8} (hb : l[i]? = some b) (h : 128 <= b.toNat) : 128 <= (Utf8.decode ⟨⟨l⟩⟩ i).1 := by
 have e : (ByteArray.mk ⟨l⟩).get! i = b := by
  show (Array.mk l)[i]! = b
  simp [hb]
 simp only [Utf8.decode, Nat.add_zero, e]
 rw [if_neg (by omega)]
 split
 ·split <;> simp_all [Utf8.runeError]
 ·split
  ·split
   ·rename_i h3; simp at h3; omega
   ·simp [Utf8.runeError]
  ·split
   ·split
    ·rename_i h3; simp at h3; omega
    ·simp [Utf8.runeError]
   ·simp [Utf8.runeError]
def letR (r : Int) : Bool := decide (97 <= r) && decide (r <= 122) || decide (65 <= r) && decide (r <= 90)
theorem letR_b (b : UInt8) : letR b.toNat = letterF b := by
 rw [Bool.eq_iff_iff]
 simp [letR, letterF]
theorem spelled_c (s : List UInt8) (hs : s.length <= 9223372036854775807) : PCt Tryz.prog 78 [.str s] (.ret [.bool (nameF s)]) := by
 refine PCt.of_ev mix fn78 (by simp) ?_
 rw [c78]
 simp +contextual (disch := first | omega | simp only [go_sem, false_implies]) only [go_sem, wrap64, if_pos, Nat.add_assoc, Nat.left_eq_add, Nat.add_eq_left, Nat.add_left_cancel_iff]
 refine loop_fam (fun k : Nat => ⟨envJ [.d (.str s), .junk, .junk, .junk, .junk, .junk, .ptr 2 0], upd (fun _ => .no) 2 (.sit s k), 3⟩)
  (fun k => k <= s.length /\ (s.take k).all letterF = true) (fun k => s.length - k) 0 ⟨Nat.zero_le _, by simp⟩ (SLe.backL _ (by omega) (by omega) (Good.nil.upd (by omega) rfl) (fun _ _ => rfl) ?_) (fun k hk => ?_)
 ·(repeat (first | exact backE_nil | refine backE_junk ?_ | refine backE_d rfl ?_ | refine backE_d (d_int (wrapN (by omega))) ?_ | refine backE_v rfl (by simp [V.refs, V.refss] <;> first | omega | assumption) ?_))
 by_cases h2 : k < s.length
 ·obtain ⟨b, hb⟩ := get_of_lt h2
  by_cases h3 : b.toNat < 128
  ·simp +contextual (disch := first | omega | simp only [go_sem, false_implies]) only [go_sem, wrap64, if_pos, Nat.add_assoc, Nat.left_eq_add, Nat.add_eq_left, Nat.add_left_cancel_iff, h2, dec_lt hb h3]
   have hr := letR_b b
   simp only [letR] at hr
   rw [hr]
   cases hl : letterF b with
   | true =>
     simp +contextual (disch := first | omega | simp only [go_sem, false_implies]) only [go_sem, wrap64, if_pos, and_self]
     refine nextS_intro (k + 1) ⟨h2, all_snoc hb hk.2 hl⟩ (by omega) (SLe.backL _ (by omega) (by omega) (Good.nil.upd (by omega) rfl) (fun _ _ => by rw [upd_upd]) ?_)
     (repeat (first | exact backE_nil | refine backE_junk ?_ | refine backE_d rfl ?_ | refine backE_d (d_int (wrapN (by omega))) ?_ | refine backE_v rfl (by simp [V.refs, V.refss] <;> first | omega | assumption) ?_))
   | false =>
     simp +contextual (disch := first | omega | simp only [go_sem, false_implies]) only [go_sem, wrap64, if_pos, and_self]
     simp [nameF, all_stop hb hl]
  ·have hr : letterF b = false := by
    rw [<- letR_b]; simp [letR]; omega
   have hd := dec_ge hb (by omega)
   simp +contextual (disch := first | omega | simp only [go_sem, false_implies]) only [go_sem, wrap64, if_pos, Nat.add_assoc, Nat.left_eq_add, Nat.add_eq_left, Nat.add_left_cancel_iff, h2]
   have : (decide (97 <= ((Utf8.decode ⟨⟨s⟩⟩ k).1 : Int)) && decide (((Utf8.decode ⟨⟨s⟩⟩ k).1 : Int) <= 122) || decide (65 <= ((Utf8.decode ⟨⟨s⟩⟩ k).1 : Int)) && decide (((Utf8.decode ⟨⟨s⟩⟩ k).1 : Int) <= 90)) = false := by
    rw [Bool.eq_false_iff]; intro h; simp at h; omega
   rw [this]
   simp +contextual (disch := first | omega | simp only [go_sem, false_implies]) only [go_sem, wrap64, if_pos, and_self]
   simp [nameF, all_stop hb hr]
 ·simp +contextual (disch := first | omega | simp only [go_sem, false_implies]) only [go_sem, wrap64, if_pos, Nat.add_assoc, Nat.left_eq_add, Nat.add_eq_left, Nat.add_left_cancel_iff, h2]
  refine call_keep (within_c _ _ _) rfl ?_
  simp +contextual (disch := first | omega | simp only [go_sem, false_implies]) only [go_sem, wrap64, if_pos, and_self]
  rw [nameF, all_done hk.2 (by omega), Bool.true_and]
theorem every_Nm {σ : Type} (l : List TNm) (hl : l.length <= 9223372036854775807) (g : Nat) (caps : List V) (base : Nat) (H : σ -> Nat -> Obj') (step : σ -> TNm -> σ × Bool) (hc : ∀ r ∈ V.refss caps, r < base) (ok : σ -> Prop) (hok : ∀ x ∈ l, ∀ s, ok s -> (step s x).2 = true -> ok (step s x).1)
 (h : ∀ x ∈ l, ∀ s, ok s -> StC Tryz.prog g (.d x.d :: caps) base (H s) (H (step s x).1) (.d (.bool (step s x).2))) (s : σ) (hs0 : ok s) :
 StC Tryz.prog 80 [.d (.sl (l.map TNm.d)), .func (.func g) [] caps] base (H s) (H (foldE step s l).1) (.d (.bool (foldE step s l).2)) := by
 intro o nx hI K X hK
 have hcap : ∀ r ∈ V.refss caps, r < nx := fun r hr => Nat.lt_of_lt_of_le (hc r hr) hI.le
 refine CtK.of_ev mix fn80 (by simp) ?_
 rw [c80]
 simp +contextual only [go_sem]
 refine loop_fam (fun i : Nat × σ × (Nat -> Obj') × Nat => ⟨envJ [.junk, .func (.func g) [] caps, .junk, .junk, .junk, .junk, .junk, .d (.sl (l.map TNm.d)), .d (.i l.length), .d (.i i.1)], i.2.2.1, i.2.2.2⟩)
  (fun i => i.1 <= l.length /\ HInv base (H i.2.1) i.2.2.1 i.2.2.2 /\ nx <= i.2.2.2 /\ (∀ id, base <= id -> id < nx -> i.2.2.1 id = o id) /\ foldE step s l = foldE step i.2.1 (l.drop i.1) /\ ok i.2.1) (fun i => l.length - i.1) (0, s, o, nx)
  ⟨Nat.zero_le _, hI, Nat.le_refl _, fun _ _ _ => rfl, rfl, hs0⟩ ?_ ?_
 ·dsimp only
  refine SLe.backL _ (Nat.le_refl _) (by omega) hI.good (fun _ _ => rfl) ?_
  (repeat (first | exact backE_nil | refine backE_junk ?_ | refine backE_d rfl ?_ | refine backE_d (d_int (wrapN (by omega))) ?_ | refine backE_v rfl (by simp [V.refs, V.refss] <;> first | omega | assumption) ?_))
 rintro ⟨k, s', o', nx'⟩ ⟨hk, hI', hn, hfr, hf, hok'⟩
 simp only at hk hI' hn hfr hf hok'
 simp +contextual only [go_sem]
 refine cond_intro (fun h1 => ?_) (fun h1 => ?_)
 ·simp at h1
  obtain ⟨x, hx⟩ := get_of_lt h1
  have hxm := List.mem_of_getElem? hx
  have hd : l.drop k = x :: l.drop (k + 1) := by
   rw [List.drop_eq_getElem_cons h1]
   rw [List.getElem?_eq_getElem h1] at hx; injection hx with hx; rw [hx]
  simp +contextual only [go_sem, hx, Nat.add_assoc, Nat.left_eq_add, Nat.add_eq_left, Nat.add_left_cancel_iff]
  have hl0 := hI'.le
  refine callS'_heap (h x hxm s' hok' _ _ (?_ : HInv base (H s') _ (nx' + 7)) _ _ fun o2 n2 m1 m2 m3 => ?_)
  ·exact (hI'.upd (i := nx' + 3) (m := nx' + 7) (by omega) (by omega) (by omega) rfl).upd (by omega) (by omega) (by omega) rfl
  have hfr2 : ∀ id, base <= id -> id < nx -> o2 id = o id := fun id h2 h3 => by
   rw [m3 id h2 (by omega), upd_ne _ _ _ _ (by omega), upd_ne _ _ _ _ (by omega), hfr id h2 h3]
  simp +contextual only [go_sem]
  refine cond_intro (fun h2 => ?_) (fun h2 => ?_)
  ·simp +contextual only [go_sem]
   simp at h2
   have : foldE step s l = ((step s' x).1, false) := by rw [hf, hd, foldE, if_neg (by rw [h2]; exact Bool.false_ne_true)]
   rw [this] at hK
   exact hK _ _ (by omega) (m2.mono (by omega)) hfr2
  ·simp +contextual only [go_sem]
   simp at h2
   have : foldE step s l = foldE step (step s' x).1 (l.drop (k + 1)) := by rw [hf, hd, foldE, if_pos h2]
   refine nextS_intro (k + 1, (step s' x).1, o2, n2) ⟨h1, m2, by dsimp only; omega, hfr2, this, hok x hxm s' hok' h2⟩ (by dsimp only; omega) ?_
   dsimp only
   have hcap2 : ∀ r ∈ V.refss caps, r < n2 := fun r hr => by have := hcap r hr; omega
   refine SLe.backL _ (by omega) (by omega) m2.good (fun _ _ => rfl) ?_
   (repeat (first | exact backE_nil | refine backE_junk ?_ | refine backE_d rfl ?_ | refine backE_d (d_int (wrapN (by omega))) ?_ | refine backE_v rfl (by simp [V.refs, V.refss] <;> first | omega | assumption) ?_))
 ·simp +contextual only [go_sem]
  simp at h1
  rw [List.drop_eq_nil_of_le h1] at hf
  simp only [foldE] at hf
  rw [hf] at hK
  exact hK _ _ (by omega) (hI'.mono (by omega)) hfr
def setS (l : List (List UInt8)) : List (List UInt8 × D) := l.map fun s => (s, .bool true)
theorem setS_snoc (l : List (List UInt8)) (s : List UInt8) : setS l ++ [(s, .bool true)] = setS (l ++ [s]) := by simp [setS]
theorem setS_some {l : List (List UInt8)} {s : List UInt8} {i : Nat} {x : D} (h : aIdx s (setS l) 0 = some (i, x)) : x = .bool true /\ (setS l).set i (s, .bool true) = setS l /\ l.any (· == s) = true := by
 obtain ⟨_, h2⟩ := aIdx_get h
 rw [Nat.sub_zero] at h2
 simp only [setS, List.getElem?_map] at h2
 cases hl : l[i]? with
 | none => rw [hl] at h2; cases h2
 | some y =>
   rw [hl] at h2
   simp at h2
   obtain ⟨rfl, rfl⟩ := h2
   refine ⟨rfl, ?_, ?_⟩
   ·apply List.ext_getElem?
    intro j
    rw [List.getElem?_set]
    split
    ·rename_i e; subst e
     obtain ⟨hlt, hy⟩ := List.getElem?_eq_some_iff.1 hl
     simp [setS, hlt, hy]
    ·rfl
   ·exact List.any_eq_true.2 ⟨y, List.mem_of_getElem? hl, by simp⟩
theorem setS_none {l : List (List UInt8)} {s : List UInt8} (h : aIdx s (setS l) 0 = none) : l.any (· == s) = false := by
 rw [aIdx_none] at h
 rw [List.any_eq_false]
 intro x hx hs
 have := h (x, .bool true) (by simp [setS]; exact hx)
 simp at hs; exact this hs
def nmOk (bs : List (List UInt8)) (x : TNm) : Bool := !bs.any (· == x.name) && nameF x.name && inB x.args 0 4
def nmStep (bs : List (List UInt8)) (x : TNm) : List (List UInt8) × Bool := (if bs.any (· == x.name) = true then bs else bs ++ [x.name], nmOk bs x)
theorem fits_c (x : TNm) (hx : x.name.length <= 9223372036854775807) (base mp id : Nat) (h : Nat -> Obj') (hmp : h mp = .row [.mp id]) (h1 : mp < base) (h2 : id < base) (h3 : id ≠ mp) (bs : List (List UInt8)) :
 StC Tryz.prog 77 [.d x.d, .ptr mp 0] base (upd h id (.map 9 4 (enc .str (setS bs)))) (upd h id (.map 9 4 (enc .str (setS (nmStep bs x).1)))) (.d (.bool (nmStep bs x).2)) := by
 intro o nx hI K X hK
 have hle := hI.le
 have hg := hI.good
 have q0 : o mp = .row [.mp id] := by rw [hI.eq mp h1, upd_ne _ _ _ _ (by omega), hmp]
 have q1 : o id = .map 9 4 (enc .str (setS bs)) := by rw [hI.eq id h2, upd_same]
 refine CtK.of_ev mix fn77 (by simp) ?_
 rw [c77]
 cases ha : aIdx x.name (setS bs) 0 with
 | none =>
   have hn := setS_none ha
   have hs : nmStep bs x = (bs ++ [x.name], nameF x.name && inB x.args 0 4) := by simp [nmStep, nmOk, hn]
   rw [hs] at hK
   simp +contextual (disch := first | omega | simp only [go_sem, false_implies]) only [go_sem, wrap64, if_pos, q0, q1, ha]
   refine call_keep (spelled_c _ hx) rfl ?_
   simp +contextual (disch := first | omega | simp only [go_sem, false_implies]) only [go_sem, wrap64, if_pos, and_self]
   refine guard_data (callG_intro [.bool (inB x.args 0 4)] ?_ ?_)
   ·simp +contextual (disch := first | omega | simp only [go_sem, false_implies]) only [go_sem, wrap64, if_pos, and_self]
    exact fun _ => within_c _ _ _
   simp +contextual (disch := first | omega | simp only [go_sem, false_implies]) only [go_sem, wrap64, if_pos, and_self]
   rw [enc_snoc, setS_snoc]
   refine hK _ _ (by omega) ⟨(by repeat (first | exact hg.mono (by omega) | exact Good.nil | refine Good.upd ?_ (by omega) rfl | refine Good.upd ?_ (by omega) (hLr _ _ _ (by omega)) | refine Good.upd ?_ (by omega) (by simp [Obj'.refs, V.refss, V.refs] <;> omega))), by omega, fun j hj => ?_⟩ (fun j g1 g2 => by (repeat (first | rfl | rw [upd_same] | rw [upd_ne _ _ _ _ (by omega)])))
   ·by_cases e : j = id
    ·subst e; (repeat (first | rfl | rw [upd_same] | rw [upd_ne _ _ _ _ (by omega)]))
    ·rw [upd_ne _ _ _ _ e, upd_ne _ _ _ _ e, upd_ne _ _ _ _ (by omega), hI.eq j hj, upd_ne _ _ _ _ e]
 | some p =>
   obtain ⟨i, y⟩ := p
   obtain ⟨rfl, e1, hn⟩ := setS_some ha
   have hs : nmStep bs x = (bs, false) := by simp [nmStep, nmOk, hn]
   rw [hs] at hK
   simp +contextual (disch := first | omega | simp only [go_sem, false_implies]) only [go_sem, wrap64, if_pos, q0, q1, ha]
   rw [enc_set, e1]
   refine hK _ _ (by omega) ⟨(by repeat (first | exact hg.mono (by omega) | exact Good.nil | refine Good.upd ?_ (by omega) rfl | refine Good.upd ?_ (by omega) (hLr _ _ _ (by omega)) | refine Good.upd ?_ (by omega) (by simp [Obj'.refs, V.refss, V.refs] <;> omega))), by omega, fun j hj => ?_⟩ (fun j g1 g2 => by (repeat (first | rfl | rw [upd_same] | rw [upd_ne _ _ _ _ (by omega)])))
   ·by_cases e : j = id
    ·subst e; (repeat (first | rfl | rw [upd_same] | rw [upd_ne _ _ _ _ (by omega)]))
    ·rw [upd_ne _ _ _ _ e, upd_ne _ _ _ _ e, upd_ne _ _ _ _ (by omega), hI.eq j hj, upd_ne _ _ _ _ e]
theorem fold_names : ∀ (l : List TNm) (bs : List (List UInt8)), match namesF l bs with | some B => foldE nmStep bs l = (B, true) | none => (foldE nmStep bs l).2 = false
 | [], bs => rfl
 | x :: l, bs => by
   have ih := fold_names l (bs ++ [x.name])
   simp only [namesF, foldE, nmStep, nmOk]
   by_cases h1 : bs.any (· == x.name) = true
   ·simp [h1]
   ·simp only [Bool.not_eq_true] at h1
    simp only [h1, Bool.false_eq_true, if_false, Bool.not_false, Bool.true_and]
    by_cases h2 : (nameF x.name && inB x.args 0 4) = true
    ·have h3 : ¬ ((!nameF x.name || !inB x.args 0 4) = true) := by simp at h2; simp [h2]
     rw [if_neg h3, if_pos h2]
     exact ih
    ·have h3 : (!nameF x.name || !inB x.args 0 4) = true := by
      cases hn : nameF x.name <;> simp_all
     rw [if_pos h3, if_neg h2]
end Go.Proofs.YtealblliddhgiaaGreat
namespace Go.Proofs.YtealblliddhgiaaGreat
def errOf (ok : Bool) : Int := if ok = true then 0 else 2
@[reducible] def sigH (s : TSig) (bs : List (List UInt8)) : Nat -> Obj' := upd (upd (upd (fun _ => .no) 0 (.row s.row)) 3 (.row [.mp 2])) 2 (.map 9 4 (enc .str (setS bs)))
theorem checkSig_c (s : TSig) (hs : s.Fits) : PCt Tryz.prog 38 [s.d] (.ret [.i (errOf (sigF s))]) := by
 refine PCt.of_ev mix fn38 (by simp) ?_
 rw [c38]
 simp +contextual (disch := first | omega | simp only [go_sem, false_implies]) only [go_sem, wrap64, if_pos, Nat.add_assoc, Nat.left_eq_add, Nat.add_eq_left, Nat.add_left_cancel_iff]
 refine call_keep (within_c _ _ _) rfl ?_
 simp +contextual (disch := first | omega | simp only [go_sem, false_implies]) only [go_sem, wrap64, if_pos, Nat.add_assoc, Nat.left_eq_add, Nat.add_eq_left, Nat.add_left_cancel_iff]
 cases h1 : (!inB s.cons.length 2 12 || decide (8 < (s.funs.length : Int))) with
 | true =>
   have : sigF s = false := by simp only [sigF, h1, if_true]
   simp +contextual (disch := first | omega | simp only [go_sem, false_implies]) only [go_sem, wrap64, if_pos, h1]
   simp [this, errOf]
 | false =>
   have hn1 := fold_names s.cons []
   have hfit : ∀ (l : List TNm), (∀ x ∈ l, x.name.length <= 9223372036854775807) -> ∀ x ∈ l, ∀ bs, True -> StC Tryz.prog 77 (.d x.d :: [.ptr 3 0]) 4 (sigH s bs) (sigH s (nmStep bs x).1) (.d (.bool (nmStep bs x).2)) := fun l hl x hx bs _ =>
    fits_c x (hl x hx) 4 3 2 (upd (upd (fun _ => .no) 0 (.row s.row)) 3 (.row [.mp 2])) (upd_same _ _ _) (by omega) (by omega) (by omega) bs
   simp [inB] at h1
   obtain ⟨a, b, r, hc⟩ : ∃ a b r, s.cons = a :: b :: r := by
    match h : s.cons with
    | [] => rw [h] at h1; simp at h1
    | [a] => rw [h] at h1; simp at h1
    | a :: b :: r => exact ⟨a, b, r, rfl⟩
   have h1' : (!inB s.cons.length 2 12 || decide (8 < (s.funs.length : Int))) = false := by simp [inB]; omega
   have hsig : sigF s = if (!isNm a fB || !isNm b tB) = true then false else match namesF s.cons [] with
    | none => false
    | some l => (namesF s.funs l).isSome := by
    unfold sigF
    rw [if_neg (by rw [h1']; exact Bool.false_ne_true), hc]
    dsimp only
    rfl
   simp +contextual (disch := first | omega | simp only [go_sem, false_implies]) only [go_sem, wrap64, if_pos, h1']
   refine callR_heap (every_Nm s.cons hs.lc 77 [.ptr 3 0] 4 (sigH s) nmStep (by simp [V.refss, V.refs]) (fun _ => True) (fun _ _ _ _ _ => trivial) (hfit s.cons hs.nc) [] trivial _ _ ⟨?_, by omega, fun id hid => ?_⟩ _ _ fun o2 n2 m1 m2 m3 => ?_)
   ·exact (by repeat (first | exact hg.mono (by omega) | exact Good.nil | refine Good.upd ?_ (by omega) rfl | refine Good.upd ?_ (by omega) (hLr _ _ _ (by omega)) | refine Good.upd ?_ (by omega) (by simp [Obj'.refs, V.refss, V.refs] <;> omega)))
   ·rcases (by omega : id = 0 \/ id = 1 \/ id = 2 \/ id = 3) with rfl | rfl | rfl | rfl <;> rfl
   have p0 : ∀ {bs : List (List UInt8)} {o : Nat -> Obj'} {n : Nat}, HInv 4 (sigH s bs) o n -> o 0 = .row s.row := fun h => h.eq 0 (by omega)
   have p3 : ∀ {bs : List (List UInt8)} {o : Nat -> Obj'} {n : Nat}, HInv 4 (sigH s bs) o n -> o 3 = .row [.mp 2] := fun h => h.eq 3 (by omega)
   cases hn : namesF s.cons [] with
   | none =>
     rw [hn] at hn1
     simp only at hn1
     rw [hn1]
     simp +contextual (disch := first | omega | simp only [go_sem, false_implies]) only [go_sem, wrap64, if_pos, Nat.add_assoc, Nat.left_eq_add, Nat.add_eq_left, Nat.add_left_cancel_iff]
     rw [hsig, hn]
     split <;> rfl
   | some B =>
     rw [hn] at hn1
     simp only at hn1
     rw [hn1] at m2 ⊢
     simp +contextual (disch := first | omega | simp only [go_sem, false_implies]) only [go_sem, wrap64, if_pos, Nat.add_assoc, Nat.left_eq_add, Nat.add_eq_left, Nat.add_left_cancel_iff, p0 m2]
     refine callR_heap (every_Nm s.funs hs.lf 77 [.ptr 3 0] 4 (sigH s) nmStep (by simp [V.refss, V.refs]) (fun _ => True) (fun _ _ _ _ _ => trivial) (hfit s.funs hs.nf) B trivial _ _ (m2.mono (by omega)) _ _ fun o4 n4 k1 k2 k3 => ?_)
     have hn2 := fold_names s.funs B
     cases hf : namesF s.funs B with
     | none =>
       rw [hf] at hn2
       simp only at hn2
       rw [hn2]
       simp +contextual (disch := first | omega | simp only [go_sem, false_implies]) only [go_sem, wrap64, if_pos, Nat.add_assoc, Nat.left_eq_add, Nat.add_eq_left, Nat.add_left_cancel_iff]
       rw [hsig, hn]
       simp only [hf]
       split <;> rfl
     | some C =>
       rw [hf] at hn2
       simp only at hn2
       rw [hn2] at k2 ⊢
       simp +contextual (disch := first | omega | simp only [go_sem, false_implies]) only [go_sem, wrap64, if_pos, Nat.add_assoc, Nat.left_eq_add, Nat.add_eq_left, Nat.add_left_cancel_iff, p0 k2, hc]
       have hsig2 : sigF s = !(!isNm a fB || !isNm b tB) := by
        rw [hsig, hn]; simp only [hf]
        cases (!isNm a fB || !isNm b tB) <;> rfl
       refine cond_intro (fun h5 => ?_) (fun h5 => ?_)
       ·simp +contextual (disch := first | omega | simp only [go_sem, false_implies]) only [go_sem, wrap64, if_pos, and_self]
        have h5' : (!isNm a fB || !isNm b tB) = true := h5
        rw [hsig2, h5']; rfl
       ·simp +contextual (disch := first | omega | simp only [go_sem, false_implies]) only [go_sem, wrap64, if_pos, and_self]
        have h5' : (!isNm a fB || !isNm b tB) = false := h5
        rw [hsig2, h5']; rfl
def rightF (s : TSig) (l : List Tm) : Bool := sigF s && l.all (formedF s)
theorem foldE_all {α : Type} (p : α -> Bool) : ∀ (l : List α) (u : Unit), foldE (fun _ x => ((), p x)) u l = ((), l.all p)
 | [], _ => rfl
 | x :: l, u => by
   simp only [foldE, List.all_cons, foldE_all p l]
   cases p x <;> rfl
theorem every_keep (l : List Tm) (hl : l.length <= 9223372036854775807) (g : Nat) (caps : List V) (base : Nat) (h : Nat -> Obj') (p : Tm -> Bool) (hc : ∀ r ∈ V.refss caps, r < base)
 (hp : ∀ x ∈ l, StC Tryz.prog g (.d x.d :: caps) base h h (.d (.bool (p x)))) : StC Tryz.prog 87 [.d (.sl (l.map Tm.d)), .func (.func g) [] caps] base h h (.d (.bool (l.all p))) := by
 have := every_Tm l hl g caps base (fun _ : Unit => h) (fun _ x => ((), p x)) hc (fun _ => True) (fun _ _ _ _ _ => trivial) (fun x hx _ _ => hp x hx) () trivial
 simpa only [foldE_all] using this
structure Tm.Fin (t : Tm) : Prop where
 fits : t.fits
 hgt : t.hgt <= 900000
theorem right1_c (s : TSig) (hs : s.Fits) (t : Tm) (ht : t.Fin) (base sp : Nat) (h : Nat -> Obj') (hsp : h sp = .row s.row) (hb : sp < base) : StC Tryz.prog 88 [.d t.d, .ptr sp 0] base h h (.d (.bool (formedF s t))) := by
 intro o nx hI K X hK
 have hle := hI.le
 have hg := hI.good
 have q0 : o sp = .row s.row := by rw [hI.eq sp hb, hsp]
 refine CtK.of_ev mix fn88 (by simp) ?_
 rw [c88]
 simp +contextual (disch := first | omega | simp only [go_sem, false_implies]) only [go_sem, wrap64, if_pos, q0]
 refine call_keep (formed_c s hs t ht.fits ht.hgt) rfl ?_
 simp +contextual (disch := first | omega | simp only [go_sem, false_implies]) only [go_sem, wrap64, if_pos, and_self]
 exact hK _ _ (by omega) ⟨(by repeat (first | exact hg.mono (by omega) | exact Good.nil | refine Good.upd ?_ (by omega) rfl | refine Good.upd ?_ (by omega) (hLr _ _ _ (by omega)) | refine Good.upd ?_ (by omega) (by simp [Obj'.refs, V.refss, V.refs] <;> omega))), by omega, fun j hj => by rw [upd_ne _ _ _ _ (by omega), hI.eq j hj]⟩ (fun j g1 g2 => by (repeat (first | rfl | rw [upd_same] | rw [upd_ne _ _ _ _ (by omega)])))
theorem right_c (s : TSig) (hs : s.Fits) (l : List Tm) (hl : l.length <= 9223372036854775807) (hf : ∀ t ∈ l, t.Fin) : PCt Tryz.prog 51 [s.d, .sl (l.map Tm.d)] (.ret [.bool (rightF s l)]) := by
 refine PCt.of_ev mix fn51 (by simp) ?_
 rw [c51]
 simp +contextual (disch := first | omega | simp only [go_sem, false_implies]) only [go_sem, wrap64, if_pos, and_self]
 refine call_keep (checkSig_c s hs) rfl ?_
 cases h1 : sigF s with
 | false =>
   simp +contextual (disch := first | omega | simp only [go_sem, false_implies]) only [go_sem, wrap64, if_pos, errOf]
   simp [rightF, h1]
 | true =>
   simp +contextual (disch := first | omega | simp only [go_sem, false_implies]) only [go_sem, wrap64, if_pos, errOf]
   refine callR_heap (every_keep l hl 88 [.ptr 0 0] 1 (upd (fun _ => .no) 0 (.row s.row)) (formedF s) (by simp [V.refss, V.refs]) (fun x hx => right1_c s hs x (hf x hx) 1 0 _ (upd_same _ _ _) (by omega)) _ _ ⟨(by repeat (first | exact hg.mono (by omega) | exact Good.nil | refine Good.upd ?_ (by omega) rfl | refine Good.upd ?_ (by omega) (hLr _ _ _ (by omega)) | refine Good.upd ?_ (by omega) (by simp [Obj'.refs, V.refss, V.refs] <;> omega))), by omega, fun id hid => rfl⟩ _ _ fun o2 n2 m1 m2 m3 => ?_)
   simp +contextual (disch := first | omega | simp only [go_sem, false_implies]) only [go_sem, wrap64, if_pos, and_self]
   simp [rightF, h1]
end Go.Proofs.YtealblliddhgiaaGreat
namespace Go.Proofs.YtealblliddhgiaaGreat
end Go.Proofs.YtealblliddhgiaaGreat
namespace Go.Proofs.YtealblliddhgiaaGreat
def Tm.sizeI (t : Tm) : Int := (pre t 1).length
structure Tm.Cnt (t : Tm) : Prop extends t.Fin where
 size : t.sizeI <= 1000000
theorem Tm.Fin.kid {t k : Tm} (h : t.Fin) (hk : k ∈ t.kids) : k.Fin := ⟨((Tm.fits_iff _).1 h.fits).2 k hk, by have := Tm.hgt_kid hk; have := h.hgt; omega⟩
theorem pre_len_any : ∀ (t : Tm) (d d' : Int), (pre t d).length = (pre t d').length := by
 refine Tm.ind' fun t ih d d' => ?_
 rw [pre_eq, pre_eq]
 simp only [List.length_cons, List.length_flatMap]
 congr 2
 exact List.map_congr_left fun k hk => ih k hk _ _
theorem Tm.sizeI_kid {t k : Tm} (hk : k ∈ t.kids) : k.sizeI + 1 <= t.sizeI := by
 simp only [Tm.sizeI]
 rw [pre_eq t, pre_len_any k 1 (1 + 1)]
 simp only [List.length_cons, List.length_flatMap]
 have : ∀ (l : List Tm), k ∈ l -> (pre k (1 + 1)).length <= (l.map fun k => (pre k (1 + 1)).length).sum := by
  intro l
  induction l with
  | nil => intro h; cases h
  | cons x l ih =>
    intro h
    rcases List.mem_cons.1 h with rfl | h
    ·simp only [List.map_cons, List.sum_cons]; omega
    ·have := ih h; simp only [List.map_cons, List.sum_cons]; omega
 have := this _ hk
 omega
theorem Tm.Cnt.kid {t k : Tm} (h : t.Cnt) (hk : k ∈ t.kids) : k.Cnt := ⟨h.toFin.kid hk, by have := Tm.sizeI_kid hk; have := h.size; omega⟩
end Go.Proofs.YtealblliddhgiaaGreat
namespace Go.Proofs.YtealblliddhgiaaGreat
def smallLF (s : TSig) (l : List Tm) : Bool := l.all smallF && smallSigF s
theorem smallL_c (s : TSig) (hs : s.Fits) (l : List Tm) (hl : l.length <= 1000000) (hf : ∀ t ∈ l, t.fits) : PCt Tryz.prog 11 [s.d, .sl (l.map Tm.d)] (.ret [.bool (smallLF s l)]) := by
 refine PCt.of_ev mix fn11 (by simp) ?_
 rw [c11]
 simp +contextual (disch := first | omega | simp only [go_sem, false_implies]) only [go_sem, wrap64, if_pos, and_self]
 refine loop_fam (fun k : Nat => ⟨envJ [.junk, .d (.sl (l.map Tm.d)), .ptr 0 0, .junk, .junk, .d (.i k)], oneRow s.row, 1⟩)
  (fun k => k <= l.length /\ (l.take k).all smallF = true) (fun k => l.length - k) 0 ⟨Nat.zero_le _, by simp⟩ (SLe.d1 _ (oneRow_good rfl) (by omega) rfl ?_) (fun k hk => ?_)
 ·(repeat (first | exact backE_nil | refine backE_junk ?_ | refine backE_d rfl ?_ | refine backE_d (d_int (wrapN (by omega))) ?_ | refine backE_v rfl (by simp [V.refs, V.refss] <;> first | omega | assumption) ?_))
 simp +contextual (disch := first | omega | simp only [go_sem, false_implies]) only [go_sem, wrap64, if_pos, and_self]
 refine cond_intro (fun h2 => ?_) (fun h2 => ?_)
 ·simp at h2
  obtain ⟨x, hx⟩ := get_of_lt h2
  simp +contextual (disch := first | omega | simp only [go_sem, false_implies]) only [go_sem, wrap64, if_pos, hx]
  refine call_keep (small_c x (hf x (List.mem_of_getElem? hx))) rfl ?_
  simp +contextual (disch := first | omega | simp only [go_sem, false_implies]) only [go_sem, wrap64, if_pos, and_self]
  refine cond_intro (fun h3 => ?_) (fun h3 => ?_)
  ·simp +contextual (disch := first | omega | simp only [go_sem, false_implies]) only [go_sem, wrap64, if_pos, and_self]
   simp at h3
   simp [smallLF, all_stop hx h3]
  ·simp +contextual (disch := first | omega | simp only [go_sem, false_implies]) only [go_sem, wrap64, if_pos, and_self]
   simp at h3
   refine nextS_intro (k + 1) ⟨h2, all_snoc hx hk.2 h3⟩ (by omega) (SLe.d1 _ (oneRow_good rfl) (by omega) rfl ?_)
   (repeat (first | exact backE_nil | refine backE_junk ?_ | refine backE_d rfl ?_ | refine backE_d (d_int (wrapN (by omega))) ?_ | refine backE_v rfl (by simp [V.refs, V.refss] <;> first | omega | assumption) ?_))
 ·simp at h2
  simp +contextual (disch := first | omega | simp only [go_sem, false_implies]) only [go_sem, wrap64, if_pos, and_self]
  refine call_keep (smallSig_c s hs) rfl ?_
  simp +contextual (disch := first | omega | simp only [go_sem, false_implies]) only [go_sem, wrap64, if_pos, and_self]
  rw [smallLF, all_done hk.2 h2, Bool.true_and]
def givenF (s : TSig) (l : List Tm) : Bool := sigF s && l.all (termF s)
theorem given_c (s : TSig) (hs : s.Fits) (l : List Tm) (hl : l.length <= 1000000) (hf : ∀ t ∈ l, t.fits) : PCt Tryz.prog 15 [s.d, .sl (l.map Tm.d)] (.ret [.bool (givenF s l)]) := by
 refine PCt.of_ev mix fn15 (by simp) ?_
 rw [c15]
 simp +contextual (disch := first | omega | simp only [go_sem, false_implies]) only [go_sem, wrap64, if_pos, and_self]
 refine call_keep (sig_c s hs) rfl ?_
 cases h1 : sigF s with
 | false => simp +contextual (disch := first | omega | simp only [go_sem, false_implies]) only [go_sem, wrap64, if_pos, and_self]; simp [givenF, h1]
 | true =>
   simp +contextual (disch := first | omega | simp only [go_sem, false_implies]) only [go_sem, wrap64, if_pos, and_self]
   refine loop_fam (fun k : Nat => ⟨envJ [.junk, .d (.sl (l.map Tm.d)), .ptr 0 0, .junk, .junk, .d (.i k)], oneRow s.row, 1⟩)
    (fun k => k <= l.length /\ (l.take k).all (termF s) = true) (fun k => l.length - k) 0 ⟨Nat.zero_le _, by simp⟩ (SLe.d1 _ (oneRow_good rfl) (by omega) rfl ?_) (fun k hk => ?_)
   ·(repeat (first | exact backE_nil | refine backE_junk ?_ | refine backE_d rfl ?_ | refine backE_d (d_int (wrapN (by omega))) ?_ | refine backE_v rfl (by simp [V.refs, V.refss] <;> first | omega | assumption) ?_))
   simp +contextual (disch := first | omega | simp only [go_sem, false_implies]) only [go_sem, wrap64, if_pos, and_self]
   refine cond_intro (fun h2 => ?_) (fun h2 => ?_)
   ·simp at h2
    obtain ⟨x, hx⟩ := get_of_lt h2
    simp +contextual (disch := first | omega | simp only [go_sem, false_implies]) only [go_sem, wrap64, if_pos, hx]
    refine callD_keep (term_c s hs x (hf x (List.mem_of_getElem? hx))) rfl ?_
    simp +contextual (disch := first | omega | simp only [go_sem, false_implies]) only [go_sem, wrap64, if_pos, and_self]
    refine end_intro (objsOk_reads rfl) ?_
    simp +contextual (disch := first | omega | simp only [go_sem, false_implies]) only [go_sem, wrap64, if_pos, and_self]
    refine cond_intro (fun h3 => ?_) (fun h3 => ?_)
    ·simp +contextual (disch := first | omega | simp only [go_sem, false_implies]) only [go_sem, wrap64, if_pos, and_self]
     simp at h3
     simp [givenF, all_stop hx h3]
    ·simp +contextual (disch := first | omega | simp only [go_sem, false_implies]) only [go_sem, wrap64, if_pos, and_self]
     simp at h3
     refine nextS_intro (k + 1) ⟨h2, all_snoc hx hk.2 h3⟩ (by omega) (SLe.d1 _ (oneRow_good rfl) (by omega) rfl ?_)
     (repeat (first | exact backE_nil | refine backE_junk ?_ | refine backE_d rfl ?_ | refine backE_d (d_int (wrapN (by omega))) ?_ | refine backE_v rfl (by simp [V.refs, V.refss] <;> first | omega | assumption) ?_))
   ·simp at h2
    simp +contextual (disch := first | omega | simp only [go_sem, false_implies]) only [go_sem, wrap64, if_pos, and_self]
    simp [givenF, h1, all_done hk.2 h2]
end Go.Proofs.YtealblliddhgiaaGreat
namespace Go.Proofs.YtealblliddhgiaaGreat
def Tm.sz (t : Tm) : Nat := (pre t 1).length
def szs (l : List Tm) : Nat := (l.map Tm.sz).sum
theorem Tm.sizeI_sz (t : Tm) : t.sizeI = (t.sz : Int) := rfl
theorem Tm.sz_eq (t : Tm) : t.sz = 1 + szs t.kids := by
 unfold Tm.sz szs
 rw [pre_eq, List.length_cons, List.length_flatMap, Nat.add_comm]
 congr 2
 exact List.map_congr_left fun k hk => pre_len_any k _ _
theorem Tm.sz_mk (op n : Int) (l : List Tm) : (Tm.mk op n l).sz = 1 + szs l := Tm.sz_eq _
theorem szs_cons (k : Tm) (l : List Tm) : szs (k :: l) = k.sz + szs l := by simp [szs]
theorem Tm.sz_pos (t : Tm) : 1 <= t.sz := by rw [Tm.sz_eq]; omega
theorem hgts_cons (k : Tm) (l : List Tm) : Tm.hgts (k :: l) = Nat.max k.hgt (Tm.hgts l) := by simp [Tm.hgts]
theorem hgts_le : ∀ (l : List Tm) (n : Nat), Tm.hgts l <= n ↔ ∀ k ∈ l, k.hgt <= n
 | [], n => by simp [Tm.hgts]
 | x :: l, n => by
   rw [hgts_cons]
   simp only [List.mem_cons, forall_eq_or_imp, <- hgts_le l n]
   exact Nat.max_le
theorem Tm.hgt_eq (t : Tm) : t.hgt = 1 + Tm.hgts t.kids := by cases t; simp [Tm.hgt, Tm.kids]
theorem weigh_val : ∀ t : Tm, ∀ left depth : Int, weigh t left depth = if (t.sz : Int) <= left /\ (t.hgt : Int) <= depth then left - t.sz else -1 := by
 refine Tm.ind' fun t ih left depth => ?_
 have hs : ∀ (l : List Tm) (left d : Int), (∀ k ∈ l, k ∈ t.kids) -> 0 <= left -> 0 <= d -> weighs l left d = if (szs l : Int) <= left /\ (Tm.hgts l : Int) <= d then left - szs l else -1 := by
  intro l
  induction l with
  | nil => intro left d _ h1 h2; simp [weighs, szs, Tm.hgts, h1, h2]
  | cons k l ihl =>
    intro left d hk h1 h2
    simp only [weighs, if_pos h1]
    rw [ih k (hk k (by simp))]
    have hm : (Tm.hgts (k :: l) : Int) <= d ↔ (k.hgt : Int) <= d /\ (Tm.hgts l : Int) <= d := by
     have := @Nat.max_le k.hgt (Tm.hgts l) d.toNat
     have e : Tm.hgts (k :: l) = max k.hgt (Tm.hgts l) := hgts_cons k l
     rw [e]; omega
    simp only [szs_cons, hm]
    by_cases hc : (k.sz : Int) <= left /\ (k.hgt : Int) <= d
    ·rw [if_pos hc, ihl _ _ (fun x hx => hk x (by simp [hx])) (by omega) h2]
     by_cases hc2 : (szs l : Int) <= left - k.sz /\ (Tm.hgts l : Int) <= d
     ·rw [if_pos hc2, if_pos (by omega)]; omega
     ·rw [if_neg hc2, if_neg (by omega)]
    ·rw [if_neg hc, weighs_neg (by omega), if_neg (by omega)]
 rw [weigh_eq, Tm.sz_eq, Tm.hgt_eq]
 by_cases h : left < 1 \/ depth < 1
 ·rw [if_pos h, if_neg (by omega)]
 ·rw [if_neg h, hs _ _ _ (fun _ h => h) (by omega) (by omega)]
  by_cases hc : (szs t.kids : Int) <= left - 1 /\ (Tm.hgts t.kids : Int) <= depth - 1
  ·rw [if_pos hc, if_pos (by omega)]; omega
  ·rw [if_neg hc, if_neg (by omega)]
theorem weigh_ge (t : Tm) (left depth : Int) : 0 <= weigh t left depth ↔ (t.sz : Int) <= left /\ (t.hgt : Int) <= depth := by
 rw [weigh_val]; split <;> omega
theorem smallF_iff (t : Tm) : smallF t = true ↔ t.sz <= 50 /\ t.hgt <= 14 := by
 simp only [smallF, decide_eq_true_eq, weigh_ge]; omega
theorem Tm.Cnt.of_small {t : Tm} (hf : t.fits) (h : smallF t = true) : t.Cnt := by
 rw [smallF_iff] at h
 exact ⟨⟨hf, by omega⟩, by rw [Tm.sizeI_sz]; omega⟩
theorem pre_depth : ∀ (t : Tm) (d m : Int), (∀ x ∈ pre t d, x.2 <= m) ↔ d + t.hgt - 1 <= m := by
 refine Tm.ind' fun t ih d m => ?_
 rw [pre_eq, Tm.hgt_eq]
 simp only [List.mem_cons, forall_eq_or_imp, List.mem_flatMap]
 have h1 : (∀ x : Tm × Int, (∃ k, k ∈ t.kids /\ x ∈ pre k (d + 1)) -> x.2 <= m) ↔ ∀ k ∈ t.kids, d + 1 + k.hgt - 1 <= m := by
  constructor
  ·intro h k hk
   exact (ih k hk _ _).1 fun x hx => h x ⟨k, hk, hx⟩
  ·rintro h x ⟨k, hk, hx⟩
   exact (ih k hk _ _).2 (h k hk) x hx
 rw [h1]
 constructor
 ·rintro ⟨h2, h3⟩
  have := (hgts_le t.kids (m - d).toNat).2 fun k hk => by have := h3 k hk; omega
  omega
 ·intro h
  have := (hgts_le t.kids (m - d).toNat).1 (by omega)
  exact ⟨by omega, fun k hk => by have := this k hk; omega⟩
theorem pre_all (p : Tm -> Bool) : ∀ (t : Tm) (d : Int), (pre t d).all (fun x => p x.1) = (p t && t.kids.all fun k => (pre k (d + 1)).all fun x => p x.1) := by
 intro t d
 rw [pre_eq, List.all_cons, List.all_flatMap]
theorem nodesF_pre (s : TSig) : ∀ (t : Tm) (d : Int), nodesF s t = (pre t d).all fun x => nodeF s x.1 := by
 refine Tm.ind' fun t ih d => ?_
 rw [pre_all (nodeF s), nodesF_eq]
 congr 1
 rw [Bool.eq_iff_iff]
 simp only [List.all_eq_true (l := t.kids)]
 exact forall_congr' fun k => forall_congr' fun hk => by rw [ih k hk (d + 1)]
theorem nodeF_op {s : TSig} {t : Tm} (h : nodeF s t = true) : inB t.op 1 15 = true := by
 rw [show inB t.op 1 15 = true ↔ 1 <= t.op /\ t.op <= 15 by simp [inB]]
 by_cases h6 : inB t.op 6 15 = true
 ·simp [inB] at h6; omega
 ·simp only [nodeF, if_neg h6] at h
  by_cases h1 : t.op = 1
  ·omega
  by_cases h2 : t.op = 2
  ·omega
  by_cases h3 : t.op = 3
  ·omega
  by_cases h4 : t.op = 4
  ·omega
  by_cases h5 : t.op = 5
  ·omega
  by_cases h8 : t.op = 8
  ·omega
  rw [if_neg h1, if_neg h2, if_neg h3, if_neg h4, if_neg h5, if_neg h8] at h
  cases h
def fgood (s : TSig) (x : Tm × Int) : Bool := !(decide (12 < x.2) || !inB x.1.op 1 15 || !nodeF s x.1)
theorem formed_fold (s : TSig) : ∀ (l : List (Tm × Int)) (n : Int) (b : Bool), (foldE (stp fJ (fstep s)) (n, b) l).2 = (decide (l = [] \/ n + l.length <= 40) && l.all (fgood s))
 | [], n, b => by simp [foldE]
 | x :: l, n, b => by
   have e1 : ∀ c, fbad s n x = c -> stp fJ (fstep s) (n, b) x = ((n + 1, !c), !c) := fun c hc => by show ((n + 1, !fbad s n x), (fJ (n + 1, !fbad s n x)).isNone) = _; rw [hc]; cases c <;> rfl
   have hb : fbad s n x = (decide (40 < n + 1) || !fgood s x) := by simp [fbad, fgood, Bool.or_assoc]
   rw [List.all_cons]
   cases hg : fgood s x with
   | false =>
     have e : fbad s n x = true := by rw [hb, hg]; simp
     rw [foldE, e1 _ e]; simp
   | true =>
     by_cases h40 : 40 < n + 1
     ·have : decide (x :: l = [] \/ n + (x :: l).length <= 40) = false := by simp; omega
      have e : fbad s n x = true := by rw [hb]; simp [h40]
      rw [this, Bool.false_and, foldE, e1 _ e]; simp
     ·have e : fbad s n x = false := by rw [hb, hg]; simp; omega
      rw [foldE, e1 _ e]
      simp only [Bool.not_false, if_true, formed_fold s l, Bool.true_and]
      congr 1
      cases l with
      | nil => simp; omega
      | cons y l => simp; omega
theorem formedF_eq (s : TSig) (t : Tm) : formedF s t = termF s t := by
 rw [formedF, formed_fold, termF, nodesF_pre s t 1, Bool.eq_iff_iff]
 have hn : pre t 1 ≠ [] := by rw [pre_eq]; simp
 simp only [Bool.and_eq_true, decide_eq_true_eq, hn, false_or, weigh_ge, List.all_eq_true]
 have hd := pre_depth t 1 12
 constructor
 ·rintro ⟨h1, h2⟩
  have h3 : ∀ x ∈ pre t 1, x.2 <= 12 := fun x hx => by have := h2 x hx; simp [fgood] at this; omega
  have := hd.1 h3
  exact ⟨⟨by unfold Tm.sz; omega, by omega⟩, fun x hx => by have := h2 x hx; simp [fgood] at this; exact this.2⟩
 ·rintro ⟨⟨h1, h2⟩, h3⟩
  have h4 := hd.2 (by omega)
  refine ⟨by unfold Tm.sz at h1; omega, fun x hx => ?_⟩
  have h5 := h4 x hx
  have h6 := h3 x hx
  have h7 := nodeF_op h6
  simp [fgood, h6, h7]; omega
theorem rightF_eq (s : TSig) (l : List Tm) : rightF s l = givenF s l := by
 unfold rightF givenF; congr 2; funext t; exact formedF_eq s t
theorem sameF_refl : ∀ a : Tm, sameF a a = true := by
 refine Tm.ind' fun a ih => ?_
 rw [sameF_eq]
 have : samesF a.kids a.kids = true := (samesF_eq _ _ rfl).2 fun i x y hx hy => by
  rw [hx] at hy; injection hy with hy; subst hy; exact ih x (List.mem_of_getElem? hx)
 simp [this]
end Go.Proofs.YtealblliddhgiaaGreat
namespace Go.Proofs.YtealblliddhgiaaGreat
def unI (l : List (D × D)) : List (Int × D) := l.map fun p => ((match p.1 with | .int _ n => n | _ => 0), p.2)
def isI (l : List (D × D)) : Bool := l.all fun p => match p.1 with | .int .i64 _ => true | _ => false
@[go_sem] theorem unI_enc (m : List (Int × D)) : unI (enc (D.int .i64) m) = m := by
 unfold unI enc; rw [List.map_map]; simp [Function.comp_def]
@[go_sem] theorem isI_enc (m : List (Int × D)) : isI (enc (D.int .i64) m) = true := by simp [isI, enc]
@[go_sem] theorem isI_nil : isI [] = true := rfl
@[go_sem] theorem unI_nil : unI [] = [] := rfl
theorem enc_unI : ∀ {l : List (D × D)}, isI l = true -> enc (D.int .i64) (unI l) = l
 | [], _ => rfl
 | (k, x) :: l, h => by
   simp only [isI, List.all_cons, Bool.and_eq_true] at h
   have ih := enc_unI (l := l) h.2
   obtain ⟨n, h1⟩ : ∃ n, k = .int .i64 n := by
    have h1 := h.1
    split at h1
    ·exact ⟨_, rfl⟩
    ·cases h1
   subst h1
   simp only [enc, unI, List.map_cons] at ih ⊢
   rw [ih]
def setI (l : List Int) : List (Int × D) := l.map fun n => (n, .bool true)
@[go_sem] theorem setI_nil : setI [] = [] := rfl
def insI (l : List Int) (n : Int) : List Int := if l.contains n = true then l else l ++ [n]
theorem mem_insI {l : List Int} {n k : Int} : k ∈ insI l n ↔ k ∈ l \/ k = n := by
 unfold insI
 split
 ·rename_i h
  have : n ∈ l := by simpa using h
  constructor
  ·exact .inl
  ·rintro (h | rfl) <;> assumption
 ·simp
theorem nodup_insI {l : List Int} (n : Int) (h : l.Nodup) : (insI l n).Nodup := by
 unfold insI
 split
 ·exact h
 ·rename_i hn
  have hn : n ∉ l := by simpa using hn
  rw [List.nodup_append]
  exact ⟨h, by simp, fun a ha b hb => by simp at hb; subst hb; intro e; subst e; exact hn ha⟩
theorem aIdx_set : ∀ (l : List Int) (n : Int) (i : Nat), aIdx n (setI l) i = (l.findIdx? (· == n)).map fun j => (i + j, D.bool true)
 | [], n, i => rfl
 | x :: l, n, i => by
   have ih := aIdx_set l n (i + 1)
   simp only [setI, List.map_cons, aIdx, List.findIdx?_cons] at ih ⊢
   by_cases h : n = x
   ·subst h; simp
   ·have h2 : ¬ x = n := fun e => h e.symm
    simp only [beq_iff_eq, h, h2, if_false, ih, Option.map_map, Function.comp_def]
    congr 1; funext j; congr 1; omega
@[go_sem] theorem aSet_setI (l : List Int) (n : Int) : aSet n (.bool true) (setI l) = setI (insI l n) := by
 unfold aSet insI
 rw [aIdx_set]
 cases h : l.findIdx? (· == n) with
 | none =>
   have : l.contains n = false := by
    rw [List.findIdx?_eq_none_iff] at h
    rw [Bool.eq_false_iff]; intro hc
    have := h n (by simpa using hc)
    simp at this
   simp only [Option.map_none, this, Bool.false_eq_true, if_false]
   simp [setI]
 | some j =>
   rw [List.findIdx?_eq_some_iff_getElem] at h
   obtain ⟨hj, he, _⟩ := h
   have e : l[j] = n := by simpa using he
   have : l.contains n = true := by rw [List.contains_iff_mem, <- e]; exact List.getElem_mem hj
   simp only [Option.map_some, this, if_true, Nat.zero_add]
   apply List.ext_getElem?
   intro k
   rw [List.getElem?_set]
   split
   ·rename_i hk; subst hk; simp [setI, hj, e]
   ·rfl
def delI (l : List Int) (n : Int) : List Int := match l.findIdx? (· == n) with | some j => l.eraseIdx j | none => l
theorem eraseIdx_map {α β : Type} (f : α -> β) : ∀ (l : List α) (j : Nat), (l.map f).eraseIdx j = (l.eraseIdx j).map f
 | [], _ => rfl
 | _ :: _, 0 => rfl
 | x :: l, j + 1 => by simp [eraseIdx_map f l j]
@[go_sem] theorem aDel_setI (l : List Int) (n : Int) : aDel n (setI l) = setI (delI l n) := by
 unfold aDel delI
 rw [aIdx_set]
 cases h : l.findIdx? (· == n) with
 | none => simp
 | some j => simp only [Option.map_some, Nat.zero_add]; exact eraseIdx_map _ _ _
theorem delI_spec {l : List Int} (n : Int) (h : l.Nodup) : (delI l n).Nodup /\ ∀ k, k ∈ delI l n ↔ k ∈ l /\ k ≠ n := by
 unfold delI
 cases hf : l.findIdx? (· == n) with
 | none =>
   rw [List.findIdx?_eq_none_iff] at hf
   refine ⟨h, fun k => ⟨fun hk => ⟨hk, fun e => ?_⟩, fun hk => hk.1⟩⟩
   subst e
   have := hf k hk
   simp at this
 | some j =>
   rw [List.findIdx?_eq_some_iff_getElem] at hf
   obtain ⟨hj, he, _⟩ := hf
   have e : l[j] = n := by simpa using he
   refine ⟨h.sublist (List.eraseIdx_sublist _ _), fun k => ?_⟩
   show k ∈ l.eraseIdx j ↔ _
   have hsp : l = l.take j ++ l[j] :: l.drop (j + 1) := by rw [List.getElem_cons_drop, List.take_append_drop]
   rw [List.eraseIdx_eq_take_drop_succ]
   rw [hsp, List.nodup_append, List.nodup_cons] at h
   obtain ⟨h1, ⟨h2, h3⟩, h4⟩ := h
   constructor
   ·intro hk
    rw [List.mem_append] at hk
    refine ⟨?_, fun ek => ?_⟩
    ·rcases hk with hk | hk
     ·exact List.mem_of_mem_take hk
     ·exact List.mem_of_mem_drop hk
    ·rcases hk with hk | hk
     ·exact h4 k hk l[j] (List.mem_cons_self ..) (by rw [ek, e])
     ·exact h2 (by rw [e, <- ek]; exact hk)
   ·rintro ⟨hk, hne⟩
    rw [hsp, List.mem_append, List.mem_cons] at hk
    rw [List.mem_append]
    rcases hk with hk | hk | hk
    ·exact .inl hk
    ·exact absurd (hk.trans e) hne
    ·exact .inr hk
section
variable {P : Program} {o : Nat -> Obj'} {t : TypeId} {id : Nat} {n : Int} {v : V}
def isIntK (P : Program) (kt : TypeId) : Bool := match eqShape P kt with | some .int => true | _ => false
theorem isIntK_eq {kt : TypeId} (h : isIntK P kt = true) : eqShape P kt = some .int := by
 unfold isIntK at h; split at h
 ·assumption
 ·cases h
@[go_sem] theorem isIntK_of {kt : TypeId} (h : eqShape P kt = some .int) : isIntK P kt = true := by unfold isIntK; rw [h]
def updI (P : Program) (o : Nat -> Obj') (t : TypeId) (id : Nat) (n : Int) (v : V) : Option Res :=
 match mapT P t, toD o v, o id with
 | some (kt, _), some vd, .map kt' vt' l => match isIntK P kt && isI l && v.ids.all (· != id) with
   | true => some (.tup [], frz o v.ids ++ [(id, .map kt' vt' (enc (D.int .i64) (aSet n vd (unI l))))], id :: v.ids)
   | false => mapUpdX P o t (.mp id) (.d (.int .i64 n)) v
 | _, _, _ => mapUpdX P o t (.mp id) (.d (.int .i64 n)) v
@[go_sem high] theorem mapUpd_int : mapUpdF P o t (.mp id) (.d (.int .i64 n)) v = updI P o t id n v := by
 unfold updI
 split
 ·rename_i kt vt vd kt' vt' l h1 h2 h3
  split
  ·rename_i hc
   simp only [Bool.and_eq_true] at hc
   obtain ⟨⟨c1, c2⟩, c3⟩ := hc
   have c4 := isIntK_eq c1
   have c5 : toD o (.d (.int .i64 n)) = some (.int .i64 n) := rfl
   have hl := enc_unI c2
   unfold mapUpdF
   simp only [h1, c5, h2, mapEs, h3]
   rw [if_pos ⟨rfl, chk_int c4 n, rfl, c3⟩]
   conv => lhs; rw [<- hl]
   rw [find_int c4]
   unfold aSet
   cases aIdx n (unI l) 0 with
   | none => simp [keyO, enc]
   | some p => simp [keyO, enc_set, D.same, scalD]
  ·exact mapUpdF_X ..
 ·exact mapUpdF_X ..
attribute [go_sem] updI
def isS (l : List (D × D)) : Bool := l.all fun p => match p.2 with | .bool true => true | _ => false
@[go_sem] theorem isS_set (l : List Int) : isS (enc (D.int .i64) (setI l)) = true := by simp [isS, enc, setI]
@[go_sem] theorem isS_nil : isS [] = true := rfl
theorem setI_un : ∀ {m : List (Int × D)}, isS (enc (D.int .i64) m) = true -> setI (m.map (·.1)) = m
 | [], _ => rfl
 | (k, x) :: m, h => by
   simp only [isS, enc, List.map_cons, List.all_cons, Bool.and_eq_true] at h
   have ih := setI_un (m := m) h.2
   have h1 : x = .bool true := by
    have h1 := h.1
    split at h1
    ·rfl
    ·cases h1
   simp only [setI, List.map_cons] at ih ⊢
   rw [ih, h1]
def lookS (P : Program) (o : Nat -> Obj') (t : TypeId) (m : V) (n : Int) (ok : Bool) : Option Res :=
 match mapT P t with
 | some (kt, vt) => match zeroV P vt with
   | some (.d (.bool false)) => match mapRd o m with
     | some (rd, l) => match isIntK P kt && isI l && isS l with
       | true => some (match ok with | true => .tup [.d (.bool (((unI l).map (·.1)).contains n)), .d (.bool (((unI l).map (·.1)).contains n))] | false => .d (.bool (((unI l).map (·.1)).contains n)), [], rd)
       | false => lookX P o t m (.d (.int .i64 n)) ok
     | none => lookX P o t m (.d (.int .i64 n)) ok
   | _ => lookX P o t m (.d (.int .i64 n)) ok
 | none => lookX P o t m (.d (.int .i64 n)) ok
@[go_sem] theorem set_keys (l : List Int) : ((setI l).map (·.1)) = l := by simp [setI, Function.comp_def]
@[go_sem high] theorem look_int {m : V} {ok : Bool} : lookupF P o t m (.d (.int .i64 n)) ok = lookS P o t m n ok := by
 unfold lookS
 split
 ·rename_i kt vt h1
  split
  ·rename_i hz
   split
   ·rename_i rd l h
    split
    ·rename_i hc
     simp only [Bool.and_eq_true] at hc
     have c4 := isIntK_eq hc.1.1
     have hl := enc_unI hc.1.2
     have hs : setI ((unI l).map (·.1)) = unI l := setI_un (by rw [hl]; exact hc.2)
     have c5 : toD o (.d (.int .i64 n)) = some (.int .i64 n) := rfl
     unfold lookupF
     simp only [h1, c5, h]
     rw [if_pos ⟨rfl, chk_int c4 n⟩]
     conv => lhs; rw [<- hl]
     rw [find_int c4, <- hs, aIdx_set, set_keys]
     generalize (unI l).map (·.1) = l'
     cases hf : l'.findIdx? (· == n) with
     | none =>
       have : l'.contains n = false := by
        rw [List.findIdx?_eq_none_iff] at hf
        rw [Bool.eq_false_iff]; intro hc
        have := hf n (by simpa using hc)
        simp at this
       cases ok <;> simp only [Option.map_none, keyO, hz, this, if_true, Bool.false_eq_true, if_false]
     | some j =>
       rw [List.findIdx?_eq_some_iff_getElem] at hf
       obtain ⟨hj, he, _⟩ := hf
       have e : l'[j] = n := by simpa using he
       have : l'.contains n = true := by rw [List.contains_iff_mem, <- e]; exact List.getElem_mem hj
       cases ok <;> simp only [Option.map_some, keyO, this, if_true, Bool.false_eq_true, if_false]
    ·exact lookupF_X ..
   ·exact lookupF_X ..
  ·exact lookupF_X ..
 ·exact lookupF_X ..
attribute [go_sem] lookS
end
theorem nextC_set {K : V -> List (Nat × Obj') -> Prop} {id : Nat} {l : List Int} (h0 : l = [] -> K (.tup [.d (.bool false)]) [])
 (h1 : ∀ (i : Nat) n, l[i]? = some n -> K (.tup [.d (.bool true), .d (.int .i64 n), .d (.bool true)]) [(id, .mit (enc (D.int .i64) (setI (l.eraseIdx i))) (some (.int .i64 n, .bool true)))]) : nextC K id (enc (D.int .i64) (setI l)) := by
 refine nextC_enc _ (fun h => h0 ?_) fun i k x h => ?_
 ·cases l with
  | nil => rfl
  | cons x l => simp [setI] at h
 ·unfold setI at h ⊢
  rw [List.getElem?_map] at h
  cases hl : l[i]? with
  | none => rw [hl] at h; cases h
  | some n =>
    rw [hl] at h
    simp at h
    obtain ⟨rfl, rfl⟩ := h
    have := h1 i n hl
    rw [eraseIdx_map]
    exact this
theorem erase_spec {l : List Int} {i : Nat} {n : Int} (h : l[i]? = some n) : (∀ v, v ∈ l ↔ v = n \/ v ∈ l.eraseIdx i) /\ (l.eraseIdx i).length + 1 = l.length := by
 obtain ⟨hi, e⟩ := List.getElem?_eq_some_iff.1 h
 refine ⟨fun v => ?_, by rw [List.length_eraseIdx]; simp [hi]; omega⟩
 have hsp : l = l.take i ++ n :: l.drop (i + 1) := by rw [<- e, List.getElem_cons_drop, List.take_append_drop]
 rw [List.eraseIdx_eq_take_drop_succ]
 conv => lhs; rw [hsp]
 simp only [List.mem_append, List.mem_cons]
 constructor
 ·rintro (h | h | h)
  ·exact .inr (.inl h)
  ·exact .inl h
  ·exact .inr (.inr h)
 ·rintro (h | h | h)
  ·exact .inr (.inl h)
  ·exact .inl h
  ·exact .inr (.inr h)
attribute [go_sem] List.head?_cons
end Go.Proofs.YtealblliddhgiaaGreat
namespace Go.Proofs.YtealblliddhgiaaGreat
mutual
def fvB (v : Int) : Tm -> Bool
 | .mk op n kids => if op = 1 then n == v else fvsB v op n kids 0
def fvsB (v op n : Int) : List Tm -> Nat -> Bool
 | [], _ => false
 | k :: l, i => (fvB v k && !(op == 8 && i == 1 && n == v)) || fvsB v op n l (i + 1)
end
theorem fvB_eq (v : Int) (t : Tm) : fvB v t = if t.op = 1 then t.n == v else fvsB v t.op t.n t.kids 0 := by cases t; rfl
@[reducible] def setO (l : List Int) : Obj' := .map 3 4 (enc (D.int .i64) (setI l))
def SetK (id : Nat) (Q : List Int -> Prop) (o : Nat -> Obj') (nx : Nat) (K : V -> (Nat -> Obj') -> Nat -> Prop) : Prop :=
 ∀ o' nx' l', nx <= nx' -> Good o' nx' -> (∀ j, j < nx -> j ≠ id -> o' j = o j) -> o' id = setO l' -> Q l' -> K (.tup []) o' nx'
theorem copy_c {b nx id it n0 : Nat} {Q : Xit -> S -> Prop} {e : Nat -> V} {o : Nat -> Obj'} {ks n k : D} (own s : List Int) (hg : Good o nx) (hid : o id = setO s) (hit : o it = .mit (enc (D.int .i64) (setI own)) none) (hb : b <= nx) (hs : s.Nodup) (hn0 : n0 < nx)
 (he : backE nx e [.mp id, .junk, .junk, .ptr n0 0, .junk, .junk, .junk, .junk, .junk, .junk, .junk, .junk, .junk, .junk, .junk, .d ks, .d n, .d k, .junk, .junk, .junk, .junk, .junk, .junk, .junk, .junk, .junk, .junk, .junk, .junk, .junk, .junk, .junk, .junk, .junk, .junk, .junk, .ptr it 0] 0)
 (hQ : ∀ e' o' nx' s', e' 0 = .mp id -> e' 3 = .ptr n0 0 -> e' 15 = .d ks -> e' 16 = .d n -> e' 17 = .d k -> nx <= nx' -> Good o' nx' -> (∀ j, j < nx -> j ≠ id -> j ≠ it -> o' j = o j) -> o' id = setO s' -> s'.Nodup -> (∀ v, v ∈ s' ↔ v ∈ s \/ v ∈ own) -> Q (.exit 2) ⟨e', o', nx'⟩) :
 loopS b (fun Q s => evW Tryz.prog 45 b false (.seq (.reg [⟨some 38, .next (.tmp 37) false, none⟩, ⟨some 39, .extract (.tmp 38) 0, none⟩]) (.seq (.cond (.tmp 39) .skip (.exit 2)) (.block 3 (.seq (.reg [⟨some 40, .entry (.tmp 37), none⟩, ⟨some 41, .extract (.tmp 40) 0, none⟩, ⟨some 7, .assign (.tmp 41), none⟩]) (.reg [⟨some 42, .move (.tmp 0), none⟩, ⟨some 43, .move (.tmp 7), none⟩, ⟨none, .mapUpdate 93 (.tmp 42) (.tmp 43) (.const (.bool true)), none⟩]))))) Q s) Q ⟨e, o, nx⟩ := by
 have h1 : id < nx := hg.lt (by rw [hid]; exact Obj'.noConfusion)
 have h2 : it < nx := hg.lt (by rw [hit]; exact Obj'.noConfusion)
 have h3 : id ≠ it := fun h => by rw [h, hit] at hid; cases hid
 have h4 : it ≠ id := fun h => h3 h.symm
 refine loop_fam (fun i : List Int × List Int × Option (D × D) => ⟨envJ [.mp id, .junk, .junk, .ptr n0 0, .junk, .junk, .junk, .junk, .junk, .junk, .junk, .junk, .junk, .junk, .junk, .d ks, .d n, .d k, .junk, .junk, .junk, .junk, .junk, .junk, .junk, .junk, .junk, .junk, .junk, .junk, .junk, .junk, .junk, .junk, .junk, .junk, .junk, .ptr it 0], upd (upd o id (setO i.2.1)) it (.mit (enc (D.int .i64) (setI i.1)) i.2.2), nx⟩)
  (fun i => i.2.1.Nodup /\ ∀ v, (v ∈ i.2.1 \/ v ∈ i.1) ↔ (v ∈ s \/ v ∈ own)) (fun i => i.1.length) (own, s, none) ⟨hs, fun _ => Iff.rfl⟩ ?_ ?_
 ·dsimp only
  refine SLe.backL _ hb (Nat.le_refl _) ?_ (fun j hj => ?_) he
  ·exact (by repeat (first | exact hg.mono (by omega) | exact Good.nil | refine Good.upd ?_ (by omega) rfl | refine Good.upd ?_ (by omega) (hLr _ _ _ (by omega)) | refine Good.upd ?_ (by omega) (by simp [Obj'.refs, V.refss, V.refs] <;> omega)))
  ·by_cases e1 : j = it
   ·subst e1; rw [upd_same]; exact hit
   ·rw [upd_ne _ _ _ _ e1]
    by_cases e2 : j = id
    ·subst e2; rw [upd_same]; exact hid
    ·rw [upd_ne _ _ _ _ e2]
 rintro ⟨rest, s', last⟩ ⟨hs', hv⟩
 simp only at hs' hv
 simp +contextual (disch := first | omega | simp only [go_sem, false_implies]) only [go_sem, wrap64, if_pos, h3, h4]
 refine nextC_set (fun hr => ?_) fun i m hm => ?_
 ·subst hr
  simp +contextual (disch := first | omega | simp only [go_sem, false_implies]) only [go_sem, wrap64, if_pos, and_self]
  refine hQ _ _ _ s' ?_ ?_ ?_ ?_ ?_ ?_ ?_ (fun j g1 g2 g3 => ?_) ?_ hs' (fun v => ?_)
  ·rfl
  ·rfl
  ·rfl
  ·rfl
  ·rfl
  ·omega
  ·exact (by repeat (first | exact hg.mono (by omega) | exact Good.nil | refine Good.upd ?_ (by omega) rfl | refine Good.upd ?_ (by omega) (hLr _ _ _ (by omega)) | refine Good.upd ?_ (by omega) (by simp [Obj'.refs, V.refss, V.refs] <;> omega)))
  ·(repeat (first | rfl | rw [upd_same] | rw [upd_ne _ _ _ _ (by omega)]))
  ·(repeat (first | rfl | rw [upd_same] | rw [upd_ne _ _ _ _ (by omega)]))
  ·have := hv v
   simpa using this
 ·simp +contextual (disch := first | omega | simp only [go_sem, false_implies]) only [go_sem, wrap64, if_pos, h3, h4]
  obtain ⟨r1, r2⟩ := erase_spec hm
  refine nextS_intro (rest.eraseIdx i, insI s' m, some (.int .i64 m, .bool true)) ⟨nodup_insI _ hs', fun v => ?_⟩ ?_ ?_
  ·dsimp only
   rw [mem_insI, <- hv v, r1 v]
   constructor
   ·rintro ((h | h) | h)
    ·exact .inl h
    ·exact .inr (.inl h)
    ·exact .inr (.inr h)
   ·rintro (h | h | h)
    ·exact .inl (.inl h)
    ·exact .inl (.inr h)
    ·exact .inr h
  ·dsimp only; omega
  ·dsimp only
   refine SLe.backL _ hb (by omega) ?_ (fun j hj => ?_) ?_
   ·exact (by repeat (first | exact hg.mono (by omega) | exact Good.nil | refine Good.upd ?_ (by omega) rfl | refine Good.upd ?_ (by omega) (hLr _ _ _ (by omega)) | refine Good.upd ?_ (by omega) (by simp [Obj'.refs, V.refss, V.refs] <;> omega)))
   ·by_cases e1 : j = it
    ·subst e1; (repeat (first | rfl | rw [upd_same] | rw [upd_ne _ _ _ _ (by omega)]))
    ·by_cases e2 : j = id
     ·subst e2; (repeat (first | rfl | rw [upd_same] | rw [upd_ne _ _ _ _ (by omega)]))
     ·(repeat (first | rfl | rw [upd_same] | rw [upd_ne _ _ _ _ (by omega)]))
   ·(repeat (first | exact backE_nil | refine backE_junk ?_ | refine backE_d rfl ?_ | refine backE_d (d_int (wrapN (by omega))) ?_ | refine backE_v rfl (by simp [V.refs, V.refss] <;> first | omega | assumption) ?_))
theorem free_c : ∀ t : Tm, t.fits -> ∀ (o : Nat -> Obj') (nx id : Nat) (l : List Int), Good o nx -> o id = setO l -> l.Nodup -> ∀ K X, SetK id (fun l' => l'.Nodup /\ ∀ n, n ∈ l' ↔ n ∈ l \/ fvB n t = true) o nx K -> CtK Tryz.prog 107 [.mp id, .d t.d] o nx K X := by
 refine Tm.ind' fun t ih hf o nx id l hg ho hl K X hK => ?_
 have hf' := (Tm.fits_iff _).1 hf
 have hid : id < nx := hg.lt (by rw [ho]; exact Obj'.noConfusion)
 refine CtK.of_ev mix fn107 (by simp) ?_
 rw [c107]
 have y1 : id ≠ nx := by omega
 have y2 : ∀ k, id ≠ nx + k := fun k => by omega
 by_cases h1 : t.op = 1
 ·simp +contextual (disch := first | omega | simp only [go_sem, false_implies]) only [go_sem, wrap64, if_pos, ho, y1, y2, Nat.add_assoc, Nat.left_eq_add, Nat.add_eq_left, Nat.add_left_cancel_iff, h1]
  refine hK _ _ (insI l t.n) ?_ ?_ (fun j hj hne => ?_) ?_ ⟨nodup_insI _ hl, fun n => ?_⟩
  ·omega
  ·exact (by repeat (first | exact hg.mono (by omega) | exact Good.nil | refine Good.upd ?_ (by omega) rfl | refine Good.upd ?_ (by omega) (hLr _ _ _ (by omega)) | refine Good.upd ?_ (by omega) (by simp [Obj'.refs, V.refss, V.refs] <;> omega)))
  ·(repeat (first | rfl | rw [upd_same] | rw [upd_ne _ _ _ _ (by omega)]))
  ·(repeat (first | rfl | rw [upd_same] | rw [upd_ne _ _ _ _ (by omega)]))
  ·rw [mem_insI, fvB_eq, if_pos h1]
   rw [beq_iff_eq, @eq_comm _ t.n n]
 ·have h1' : (t.op == 1) = false := by simpa using h1
  simp +contextual (disch := first | omega | simp only [go_sem, false_implies]) only [go_sem, wrap64, if_pos, ho, y1, y2, Nat.add_assoc, Nat.left_eq_add, Nat.add_eq_left, Nat.add_left_cancel_iff, h1']
  refine loop_fam (fun i : Nat × List Int × (Nat -> Obj') × Nat => ⟨envJ [.mp id, .junk, .junk, .ptr nx 0, .junk, .junk, .junk, .junk, .junk, .junk, .junk, .junk, .junk, .junk, .junk, .d (.sl (t.kids.map Tm.d)), .d (.i t.kids.length), .d (.i i.1)], i.2.2.1, i.2.2.2⟩)
   (fun i => i.1 <= t.kids.length /\ i.2.1.Nodup /\ Good i.2.2.1 i.2.2.2 /\ nx + 1 <= i.2.2.2 /\ (∀ j, j < nx -> j ≠ id -> i.2.2.1 j = o j) /\ i.2.2.1 nx = .row t.row /\ i.2.2.1 id = setO i.2.1 /\ ∀ v, (v ∈ i.2.1 \/ fvsB v t.op t.n (t.kids.drop i.1) i.1 = true) ↔ (v ∈ l \/ fvB v t = true)) (fun i => t.kids.length - i.1) (0, l, upd o nx (.row t.row), nx + 8)
   ⟨Nat.zero_le _, hl, by dsimp only; exact (by repeat (first | exact hg.mono (by omega) | exact Good.nil | refine Good.upd ?_ (by omega) rfl | refine Good.upd ?_ (by omega) (hLr _ _ _ (by omega)) | refine Good.upd ?_ (by omega) (by simp [Obj'.refs, V.refss, V.refs] <;> omega))), by dsimp only; omega, fun j hj hne => by dsimp only; (repeat (first | rfl | rw [upd_same] | rw [upd_ne _ _ _ _ (by omega)])), by dsimp only; (repeat (first | rfl | rw [upd_same] | rw [upd_ne _ _ _ _ (by omega)])), by dsimp only; (repeat (first | rfl | rw [upd_same] | rw [upd_ne _ _ _ _ (by omega)])); exact ho, fun v => by simp only [List.drop_zero]; rw [fvB_eq v t, if_neg h1]⟩ ?_ ?_
  ·dsimp only
   refine SLe.backL _ (by omega) (by omega) (by repeat (first | exact hg.mono (by omega) | exact Good.nil | refine Good.upd ?_ (by omega) rfl | refine Good.upd ?_ (by omega) (hLr _ _ _ (by omega)) | refine Good.upd ?_ (by omega) (by simp [Obj'.refs, V.refss, V.refs] <;> omega))) (fun _ _ => rfl) ?_
   (repeat (first | exact backE_nil | refine backE_junk ?_ | refine backE_d rfl ?_ | refine backE_d (d_int (wrapN (by omega))) ?_ | refine backE_v rfl (by simp [V.refs, V.refss] <;> first | omega | assumption) ?_))
  rintro ⟨k, l', o', nx'⟩ ⟨hk, hn', hg', hnx, hold, hrow, hset, hv⟩
  simp only at hk hn' hg' hnx hold hrow hset hv
  have z1 : id ≠ nx' := by omega
  have z2 : ∀ k, id ≠ nx' + k := fun k => by omega
  have z3 : nx ≠ nx' := by omega
  have z4 : ∀ k, nx ≠ nx' + k := fun k => by omega
  simp +contextual (disch := first | omega | simp only [go_sem, false_implies]) only [go_sem, wrap64, if_pos, hset, hrow, z1, z2, z3, z4, Nat.add_assoc, Nat.left_eq_add, Nat.add_eq_left, Nat.add_left_cancel_iff]
  refine cond_intro (fun h2 => ?_) (fun h2 => ?_)
  ·simp at h2
   obtain ⟨x, hx⟩ := get_of_lt h2
   have hxm := List.mem_of_getElem? hx
   simp +contextual (disch := first | omega | simp only [go_sem, false_implies]) only [go_sem, wrap64, if_pos, hset, hrow, z1, z2, z3, z4, Nat.add_assoc, Nat.left_eq_add, Nat.add_eq_left, Nat.add_left_cancel_iff, hx]
   refine call_heap (ih x hxm (hf'.2 x hxm) _ _ (nx' + 7) [] ?_ ?_ List.nodup_nil _ _ fun o2 n2 own m1 m2 m3 m4 m5 => ?_)
   ·have hg := hg'
    exact (by repeat (first | exact hg.mono (by omega) | exact Good.nil | refine Good.upd ?_ (by omega) rfl | refine Good.upd ?_ (by omega) (hLr _ _ _ (by omega)) | refine Good.upd ?_ (by omega) (by simp [Obj'.refs, V.refss, V.refs] <;> omega)))
   ·(repeat (first | rfl | rw [upd_same] | rw [upd_ne _ _ _ _ (by omega)]))
   have p0 : o2 nx = .row t.row := by rw [m3 nx (by omega) (by omega)]; (repeat (first | rfl | rw [upd_same] | rw [upd_ne _ _ _ _ (by omega)])); exact hrow
   have p1 : o2 id = setO l' := by rw [m3 id (by omega) (by omega)]; (repeat (first | rfl | rw [upd_same] | rw [upd_ne _ _ _ _ (by omega)])); exact hset
   have p2 : ∀ j, j < nx -> j ≠ id -> o2 j = o j := fun j h3 h4 => by rw [m3 j (by omega) (by omega)]; (repeat (first | rfl | rw [upd_same] | rw [upd_ne _ _ _ _ (by omega)])); exact hold j h3 h4
   have w1 : nx ≠ n2 := by omega
   have w2 : ∀ k, nx ≠ n2 + k := fun k => by omega
   have w3 : id ≠ n2 := by omega
   have w4 : ∀ k, id ≠ n2 + k := fun k => by omega
   have w5 : nx' + 7 ≠ n2 := by omega
   have w6 : ∀ k, nx' + 7 ≠ n2 + k := fun k => by omega
   obtain ⟨own', d1, d2, d3⟩ : ∃ own', own'.Nodup /\ (∀ v, v ∈ own' ↔ (fvB v x = true /\ ¬ (t.op = 8 /\ k = 1 /\ t.n = v))) /\ own' = if t.op = 8 /\ k = 1 then delI own t.n else own := by
    refine ⟨_, ?_, fun v => ?_, rfl⟩
    ·split
     ·exact (delI_spec _ m5.1).1
     ·exact m5.1
    ·have := m5.2 v
     simp only [List.not_mem_nil, false_or] at this
     rw [<- this]
     split
     ·rename_i hc
      rw [(delI_spec t.n m5.1).2]
      simp [hc, eq_comm]
     ·rename_i hc
      constructor
      ·exact fun h => ⟨h, fun h2 => hc ⟨h2.1, h2.2.1⟩⟩
      ·exact fun h => h.1
   have step : ∀ v (s' : List Int), (v ∈ s' ↔ v ∈ l' \/ v ∈ own') -> ((v ∈ s' \/ fvsB v t.op t.n (t.kids.drop (k + 1)) (k + 1) = true) ↔ (v ∈ l \/ fvB v t = true)) := by
    intro v s' hs'
    rw [<- hv v, hs', d2 v]
    have hdr : t.kids.drop k = x :: t.kids.drop (k + 1) := by
     obtain ⟨h5, h6⟩ := List.getElem?_eq_some_iff.1 hx
     rw [List.drop_eq_getElem_cons h5, h6]
    rw [hdr, fvsB]
    simp only [Bool.or_eq_true, Bool.and_eq_true, Bool.not_eq_true', Bool.and_eq_false_iff, beq_eq_false_iff_ne, ne_eq, not_and]
    constructor
    ·rintro ((h | ⟨h, h6⟩) | h)
     ·exact .inl h
     ·refine .inr (.inl ⟨h, ?_⟩)
      by_cases c1 : t.op = 8
      ·by_cases c2 : k = 1
       ·exact .inr (h6 c1 c2)
       ·exact .inl (.inr c2)
      ·exact .inl (.inl c1)
     ·exact .inr (.inr h)
    ·rintro (h | ⟨h, h6⟩ | h)
     ·exact .inl (.inl h)
     ·refine .inl (.inr ⟨h, fun c1 c2 => ?_⟩)
      rcases h6 with (h6 | h6) | h6
      ·exact absurd c1 h6
      ·exact absurd c2 h6
      ·exact h6
     ·exact .inr h
   have hcc : ((t.op == 8) && ((k : Int) == 1)) = decide (t.op = 8 /\ k = 1) := by
    rw [Bool.eq_iff_iff]; simp; omega
   simp +contextual (disch := first | omega | simp only [go_sem, false_implies]) only [go_sem, wrap64, if_pos, p0, p1, w1, w2, w3, w4, w5, w6, Nat.add_assoc, Nat.left_eq_add, Nat.add_eq_left, Nat.add_left_cancel_iff]
   refine cond_intro (fun h3 => ?_) (fun h3 => ?_)
   ·rw [hcc] at h3
    simp only [decide_eq_true_eq] at h3
    rw [if_pos h3] at d3
    cases hd : own.findIdx? (· == t.n) with
    | none =>
      have hd2 : aIdx t.n (setI own) 0 = none := by rw [aIdx_set, hd]; rfl
      obtain rfl : own' = own := by rw [d3, delI, hd]
      simp +contextual (disch := first | omega | simp only [go_sem, false_implies]) only [go_sem, wrap64, if_pos, p0, p1, m4, w1, w2, w3, w4, w5, w6, Nat.add_assoc, Nat.left_eq_add, Nat.add_eq_left, Nat.add_left_cancel_iff, hd2]
      refine copy_c (n0 := nx) (id := id) (it := n2 + 12) (ks := .sl (t.kids.map Tm.d)) (n := .i t.kids.length) (k := .i k) own' l' ?_ ?_ ?_ (by omega) hn' (by omega) ?_ fun e' o4 n4 s' q0 q3 q15 q16 q17 q1 q2 q4 q5 q6 q7 => ?_
      ·have hg := m2
       exact (by repeat (first | exact hg.mono (by omega) | exact Good.nil | refine Good.upd ?_ (by omega) rfl | refine Good.upd ?_ (by omega) (hLr _ _ _ (by omega)) | refine Good.upd ?_ (by omega) (by simp [Obj'.refs, V.refss, V.refs] <;> omega)))
      ·(repeat (first | rfl | rw [upd_same] | rw [upd_ne _ _ _ _ (by omega)]))
       exact p1
      ·(repeat (first | rfl | rw [upd_same] | rw [upd_ne _ _ _ _ (by omega)]))
      ·(repeat (first | exact backE_nil | refine backE_junk ?_ | refine backE_d rfl ?_ | refine backE_d (d_int (wrapN (by omega))) ?_ | refine backE_v rfl (by simp [V.refs, V.refss] <;> first | omega | assumption) ?_))
      have r0 : o4 nx = .row t.row := by
       rw [q4 nx (by omega) (by omega) (by omega)]; (repeat (first | rfl | rw [upd_same] | rw [upd_ne _ _ _ _ (by omega)]))
       exact p0
      simp +contextual (disch := first | omega | simp only [go_sem, false_implies]) only [go_sem, wrap64, if_pos, q0, q3, q15, q16, q17]
      refine nextS_intro (k + 1, s', o4, n4) ⟨by dsimp only; omega, q6, q2, by dsimp only; omega, fun j g1 g2 => ?_, r0, q5, fun v => ?_⟩ (by dsimp only; omega) ?_
      ·dsimp only
       rw [q4 j (by omega) (by omega) (by omega)]; (repeat (first | rfl | rw [upd_same] | rw [upd_ne _ _ _ _ (by omega)]))
       exact p2 j g1 g2
      ·dsimp only
       exact step v s' (q7 v)
      ·dsimp only
       refine SLe.backL _ (by omega) (by omega) q2 (fun _ _ => rfl) ?_
       (repeat (first | exact backE_nil | refine backE_junk ?_ | refine backE_d rfl ?_ | refine backE_d (d_int (wrapN (by omega))) ?_ | refine backE_v rfl (by simp [V.refs, V.refss] <;> first | omega | assumption) ?_ | refine backE_d (by first | exact q0 | exact q1 | exact q2 | exact q3 | exact q4 | exact q5 | exact q6 | exact q7 | exact q8 | exact q9 | exact q10 | exact q11 | exact q12 | exact q13 | exact q14 | exact q15 | exact q16 | exact q17 | exact q18 | exact q19 | exact q20 | exact q21 | exact q22 | exact q23 | exact q24 | exact q25 | exact q26 | exact q27 | exact q28 | exact q29 | exact q30 | exact q31 | exact q32 | exact q33 | exact q34 | exact q35 | exact q36 | exact q37 | exact q38 | exact q39 | exact q40) ?_ | refine backE_v (by first | exact q0 | exact q1 | exact q2 | exact q3 | exact q4 | exact q5 | exact q6 | exact q7 | exact q8 | exact q9 | exact q10 | exact q11 | exact q12 | exact q13 | exact q14 | exact q15 | exact q16 | exact q17 | exact q18 | exact q19 | exact q20 | exact q21 | exact q22 | exact q23 | exact q24 | exact q25 | exact q26 | exact q27 | exact q28 | exact q29 | exact q30 | exact q31 | exact q32 | exact q33 | exact q34 | exact q35 | exact q36 | exact q37 | exact q38 | exact q39 | exact q40) (by simp [V.refs, V.refss] <;> first | omega | assumption) ?_))
    | some j =>
      have hd2 : aIdx t.n (setI own) 0 = some (j, .bool true) := by rw [aIdx_set, hd]; simp
      have hd3 : (enc (D.int .i64) (setI own)).eraseIdx j = enc (D.int .i64) (setI own') := by
       rw [d3, delI, hd, enc_erase]; unfold setI; rw [eraseIdx_map]
      simp +contextual (disch := first | omega | simp only [go_sem, false_implies]) only [go_sem, wrap64, if_pos, p0, p1, m4, w1, w2, w3, w4, w5, w6, Nat.add_assoc, Nat.left_eq_add, Nat.add_eq_left, Nat.add_left_cancel_iff, hd2]
      rw [hd3]
      refine copy_c (n0 := nx) (id := id) (it := n2 + 12) (ks := .sl (t.kids.map Tm.d)) (n := .i t.kids.length) (k := .i k) own' l' ?_ ?_ ?_ (by omega) hn' (by omega) ?_ fun e' o4 n4 s' q0 q3 q15 q16 q17 q1 q2 q4 q5 q6 q7 => ?_
      ·have hg := m2
       exact (by repeat (first | exact hg.mono (by omega) | exact Good.nil | refine Good.upd ?_ (by omega) rfl | refine Good.upd ?_ (by omega) (hLr _ _ _ (by omega)) | refine Good.upd ?_ (by omega) (by simp [Obj'.refs, V.refss, V.refs] <;> omega)))
      ·(repeat (first | rfl | rw [upd_same] | rw [upd_ne _ _ _ _ (by omega)]))
       exact p1
      ·(repeat (first | rfl | rw [upd_same] | rw [upd_ne _ _ _ _ (by omega)]))
      ·(repeat (first | exact backE_nil | refine backE_junk ?_ | refine backE_d rfl ?_ | refine backE_d (d_int (wrapN (by omega))) ?_ | refine backE_v rfl (by simp [V.refs, V.refss] <;> first | omega | assumption) ?_))
      have r0 : o4 nx = .row t.row := by
       rw [q4 nx (by omega) (by omega) (by omega)]; (repeat (first | rfl | rw [upd_same] | rw [upd_ne _ _ _ _ (by omega)]))
       exact p0
      simp +contextual (disch := first | omega | simp only [go_sem, false_implies]) only [go_sem, wrap64, if_pos, q0, q3, q15, q16, q17]
      refine nextS_intro (k + 1, s', o4, n4) ⟨by dsimp only; omega, q6, q2, by dsimp only; omega, fun j g1 g2 => ?_, r0, q5, fun v => ?_⟩ (by dsimp only; omega) ?_
      ·dsimp only
       rw [q4 j (by omega) (by omega) (by omega)]; (repeat (first | rfl | rw [upd_same] | rw [upd_ne _ _ _ _ (by omega)]))
       exact p2 j g1 g2
      ·dsimp only
       exact step v s' (q7 v)
      ·dsimp only
       refine SLe.backL _ (by omega) (by omega) q2 (fun _ _ => rfl) ?_
       (repeat (first | exact backE_nil | refine backE_junk ?_ | refine backE_d rfl ?_ | refine backE_d (d_int (wrapN (by omega))) ?_ | refine backE_v rfl (by simp [V.refs, V.refss] <;> first | omega | assumption) ?_ | refine backE_d (by first | exact q0 | exact q1 | exact q2 | exact q3 | exact q4 | exact q5 | exact q6 | exact q7 | exact q8 | exact q9 | exact q10 | exact q11 | exact q12 | exact q13 | exact q14 | exact q15 | exact q16 | exact q17 | exact q18 | exact q19 | exact q20 | exact q21 | exact q22 | exact q23 | exact q24 | exact q25 | exact q26 | exact q27 | exact q28 | exact q29 | exact q30 | exact q31 | exact q32 | exact q33 | exact q34 | exact q35 | exact q36 | exact q37 | exact q38 | exact q39 | exact q40) ?_ | refine backE_v (by first | exact q0 | exact q1 | exact q2 | exact q3 | exact q4 | exact q5 | exact q6 | exact q7 | exact q8 | exact q9 | exact q10 | exact q11 | exact q12 | exact q13 | exact q14 | exact q15 | exact q16 | exact q17 | exact q18 | exact q19 | exact q20 | exact q21 | exact q22 | exact q23 | exact q24 | exact q25 | exact q26 | exact q27 | exact q28 | exact q29 | exact q30 | exact q31 | exact q32 | exact q33 | exact q34 | exact q35 | exact q36 | exact q37 | exact q38 | exact q39 | exact q40) (by simp [V.refs, V.refss] <;> first | omega | assumption) ?_))
   ·rw [hcc] at h3
    simp only [decide_eq_false_iff_not] at h3
    rw [if_neg h3] at d3
    subst d3
    simp +contextual (disch := first | omega | simp only [go_sem, false_implies]) only [go_sem, wrap64, if_pos, p0, p1, m4, w1, w2, w3, w4, w5, w6, Nat.add_assoc, Nat.left_eq_add, Nat.add_eq_left, Nat.add_left_cancel_iff]
    refine copy_c (n0 := nx) (id := id) (it := n2 + 8) (ks := .sl (t.kids.map Tm.d)) (n := .i t.kids.length) (k := .i k) own' l' ?_ ?_ ?_ (by omega) hn' (by omega) ?_ fun e' o4 n4 s' q0 q3 q15 q16 q17 q1 q2 q4 q5 q6 q7 => ?_
    ·have hg := m2
     exact (by repeat (first | exact hg.mono (by omega) | exact Good.nil | refine Good.upd ?_ (by omega) rfl | refine Good.upd ?_ (by omega) (hLr _ _ _ (by omega)) | refine Good.upd ?_ (by omega) (by simp [Obj'.refs, V.refss, V.refs] <;> omega)))
    ·(repeat (first | rfl | rw [upd_same] | rw [upd_ne _ _ _ _ (by omega)]))
     exact p1
    ·(repeat (first | rfl | rw [upd_same] | rw [upd_ne _ _ _ _ (by omega)]))
    ·(repeat (first | exact backE_nil | refine backE_junk ?_ | refine backE_d rfl ?_ | refine backE_d (d_int (wrapN (by omega))) ?_ | refine backE_v rfl (by simp [V.refs, V.refss] <;> first | omega | assumption) ?_))
    have r0 : o4 nx = .row t.row := by
     rw [q4 nx (by omega) (by omega) (by omega)]; (repeat (first | rfl | rw [upd_same] | rw [upd_ne _ _ _ _ (by omega)]))
     exact p0
    simp +contextual (disch := first | omega | simp only [go_sem, false_implies]) only [go_sem, wrap64, if_pos, q0, q3, q15, q16, q17]
    refine nextS_intro (k + 1, s', o4, n4) ⟨by dsimp only; omega, q6, q2, by dsimp only; omega, fun j g1 g2 => ?_, r0, q5, fun v => ?_⟩ (by dsimp only; omega) ?_
    ·dsimp only
     rw [q4 j (by omega) (by omega) (by omega)]; (repeat (first | rfl | rw [upd_same] | rw [upd_ne _ _ _ _ (by omega)]))
     exact p2 j g1 g2
    ·dsimp only
     exact step v s' (q7 v)
    ·dsimp only
     refine SLe.backL _ (by omega) (by omega) q2 (fun _ _ => rfl) ?_
     (repeat (first | exact backE_nil | refine backE_junk ?_ | refine backE_d rfl ?_ | refine backE_d (d_int (wrapN (by omega))) ?_ | refine backE_v rfl (by simp [V.refs, V.refss] <;> first | omega | assumption) ?_ | refine backE_d (by first | exact q0 | exact q1 | exact q2 | exact q3 | exact q4 | exact q5 | exact q6 | exact q7 | exact q8 | exact q9 | exact q10 | exact q11 | exact q12 | exact q13 | exact q14 | exact q15 | exact q16 | exact q17 | exact q18 | exact q19 | exact q20 | exact q21 | exact q22 | exact q23 | exact q24 | exact q25 | exact q26 | exact q27 | exact q28 | exact q29 | exact q30 | exact q31 | exact q32 | exact q33 | exact q34 | exact q35 | exact q36 | exact q37 | exact q38 | exact q39 | exact q40) ?_ | refine backE_v (by first | exact q0 | exact q1 | exact q2 | exact q3 | exact q4 | exact q5 | exact q6 | exact q7 | exact q8 | exact q9 | exact q10 | exact q11 | exact q12 | exact q13 | exact q14 | exact q15 | exact q16 | exact q17 | exact q18 | exact q19 | exact q20 | exact q21 | exact q22 | exact q23 | exact q24 | exact q25 | exact q26 | exact q27 | exact q28 | exact q29 | exact q30 | exact q31 | exact q32 | exact q33 | exact q34 | exact q35 | exact q36 | exact q37 | exact q38 | exact q39 | exact q40) (by simp [V.refs, V.refss] <;> first | omega | assumption) ?_))
  ·simp at h2
   simp +contextual (disch := first | omega | simp only [go_sem, false_implies]) only [go_sem, wrap64, if_pos, and_self]
   refine hK _ _ l' ?_ ?_ hold hset ⟨hn', fun n => ?_⟩
   ·omega
   ·exact hg'.mono (by omega)
   ·have := hv n
    rw [List.drop_eq_nil_of_le (by omega)] at this
    simpa [fvsB] using this
end Go.Proofs.YtealblliddhgiaaGreat
section
namespace Go.Proofs.YtealblliddhgiaaGreat
open Go.Sort Go.RowKit
def sortI (l : List Int) : List Int := l.mergeSort fun x y => decide (x <= y)
end Go.Proofs.YtealblliddhgiaaGreat
end
section
namespace Go.Proofs.YtealblliddhgiaaGreat
open Go.Shelf
end Go.Proofs.YtealblliddhgiaaGreat
end
