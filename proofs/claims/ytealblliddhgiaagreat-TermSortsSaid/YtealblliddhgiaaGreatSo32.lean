/-
  A PART OF THE PROOF (put together by program): several texts, one behind the other. Conditions: none.
-/
import Derived.Test.YtealblliddhgiaaGreatSo31
set_option linter.unusedSimpArgs false
set_option linter.unusedVariables false
namespace Go.Proofs.YtealblliddhgiaaGreat
def errOf (ok : Bool) : Int := if ok = true then 0 else 2
@[reducible] def sigH (s : TSig) (bs : List (List UInt8)) : Nat → Obj' := upd (upd (upd (fun _ => .no) 0 (.row s.row)) 3 (.row [.mp 2])) 2 (.map 9 4 (enc .str (setS bs)))
theorem checkSig_c (s : TSig) (hs : s.Fits) : PCt Tryz.prog 38 [s.d] (.ret [.i (errOf (sigF s))]) := by
  refine PCt.of_ev mix fn38 (by simp) ?_
  rw [c38]
  simp +contextual (disch := first | omega | (simp only [go_sem, false_implies]; done) | fail) only [go_sem, wrap64, if_pos, Nat.add_assoc, Nat.left_eq_add, Nat.add_eq_left, Nat.add_left_cancel_iff]
  refine call_keep (within_c _ _ _) rfl ?_
  simp +contextual (disch := first | omega | (simp only [go_sem, false_implies]; done) | fail) only [go_sem, wrap64, if_pos, Nat.add_assoc, Nat.left_eq_add, Nat.add_eq_left, Nat.add_left_cancel_iff]
  cases h1 : (!inB s.cons.length 2 12 || decide (8 < (s.funs.length : Int))) with
  | true =>
    have : sigF s = false := by simp only [sigF, h1, if_true]
    simp +contextual (disch := first | omega | (simp only [go_sem, false_implies]; done) | fail) only [go_sem, wrap64, if_pos, h1]
    simp [this, errOf]
  | false =>
    have hn1 := fold_names s.cons []
    have hfit : ∀ (l : List TNm), (∀ x ∈ l, x.name.length ≤ 9223372036854775807) → ∀ x ∈ l, ∀ bs, True → StC Tryz.prog 77 (.d x.d :: [.ptr 3 0]) 4 (sigH s bs) (sigH s (nmStep bs x).1) (.d (.bool (nmStep bs x).2)) := fun l hl x hx bs _ =>
      fits_c x (hl x hx) 4 3 2 (upd (upd (fun _ => .no) 0 (.row s.row)) 3 (.row [.mp 2])) (upd_same _ _ _) (by omega) (by omega) (by omega) bs
    simp [inB] at h1
    obtain ⟨a, b, r, hc⟩ : ∃ a b r, s.cons = a :: b :: r := by
      match h : s.cons with
      | [] => rw [h] at h1; simp at h1
      | [a] => rw [h] at h1; simp at h1
      | a :: b :: r => exact ⟨a, b, r, rfl⟩
    have h1' : (!inB s.cons.length 2 12 || decide (8 < (s.funs.length : Int))) = false := by simp [inB]; omega
    have hsig : sigF s = if (!isNm a fB || !isNm b tB) = true then false else match namesF s.cons [] with
        | none => false
        | some l => (namesF s.funs l).isSome := by
      unfold sigF
      rw [if_neg (by rw [h1']; exact Bool.false_ne_true), hc]
      dsimp only
      rfl
    simp +contextual (disch := first | omega | (simp only [go_sem, false_implies]; done) | fail) only [go_sem, wrap64, if_pos, h1']
    refine callR_heap (every_Nm s.cons hs.lc 77 [.ptr 3 0] 4 (sigH s) nmStep (by simp [V.refss, V.refs]) (fun _ => True) (fun _ _ _ _ _ => trivial) (hfit s.cons hs.nc) [] trivial _ _ ⟨?_, by omega, fun id hid => ?_⟩ _ _ fun o2 n2 m1 m2 m3 => ?_)
    · exact (by repeat (first | exact hg.mono (by omega) | exact Good.nil | refine Good.upd ?_ (by omega) rfl | refine Good.upd ?_ (by omega) (hLr _ _ _ (by omega)) | refine Good.upd ?_ (by omega) (by simp [Obj'.refs, V.refss, V.refs] <;> omega)))
    · rcases (by omega : id = 0 ∨ id = 1 ∨ id = 2 ∨ id = 3) with rfl | rfl | rfl | rfl <;> rfl
    have p0 : ∀ {bs : List (List UInt8)} {o : Nat → Obj'} {n : Nat}, HInv 4 (sigH s bs) o n → o 0 = .row s.row := fun h => h.eq 0 (by omega)
    have p3 : ∀ {bs : List (List UInt8)} {o : Nat → Obj'} {n : Nat}, HInv 4 (sigH s bs) o n → o 3 = .row [.mp 2] := fun h => h.eq 3 (by omega)
    cases hn : namesF s.cons [] with
    | none =>
      rw [hn] at hn1
      simp only at hn1
      rw [hn1]
      simp +contextual (disch := first | omega | (simp only [go_sem, false_implies]; done) | fail) only [go_sem, wrap64, if_pos, Nat.add_assoc, Nat.left_eq_add, Nat.add_eq_left, Nat.add_left_cancel_iff]
      rw [hsig, hn]
      split <;> rfl
    | some B =>
      rw [hn] at hn1
      simp only at hn1
      rw [hn1] at m2 ⊢
      simp +contextual (disch := first | omega | (simp only [go_sem, false_implies]; done) | fail) only [go_sem, wrap64, if_pos, Nat.add_assoc, Nat.left_eq_add, Nat.add_eq_left, Nat.add_left_cancel_iff, p0 m2]
      refine callR_heap (every_Nm s.funs hs.lf 77 [.ptr 3 0] 4 (sigH s) nmStep (by simp [V.refss, V.refs]) (fun _ => True) (fun _ _ _ _ _ => trivial) (hfit s.funs hs.nf) B trivial _ _ (m2.mono (by omega)) _ _ fun o4 n4 k1 k2 k3 => ?_)
      have hn2 := fold_names s.funs B
      cases hf : namesF s.funs B with
      | none =>
        rw [hf] at hn2
        simp only at hn2
        rw [hn2]
        simp +contextual (disch := first | omega | (simp only [go_sem, false_implies]; done) | fail) only [go_sem, wrap64, if_pos, Nat.add_assoc, Nat.left_eq_add, Nat.add_eq_left, Nat.add_left_cancel_iff]
        rw [hsig, hn]
        simp only [hf]
        split <;> rfl
      | some C =>
        rw [hf] at hn2
        simp only at hn2
        rw [hn2] at k2 ⊢
        simp +contextual (disch := first | omega | (simp only [go_sem, false_implies]; done) | fail) only [go_sem, wrap64, if_pos, Nat.add_assoc, Nat.left_eq_add, Nat.add_eq_left, Nat.add_left_cancel_iff, p0 k2, hc]
        have hsig2 : sigF s = !(!isNm a fB || !isNm b tB) := by
          rw [hsig, hn]; simp only [hf]
          cases (!isNm a fB || !isNm b tB) <;> rfl
        refine cond_intro (fun h5 => ?_) (fun h5 => ?_)
        · simp +contextual (disch := first | omega | (simp only [go_sem, false_implies]; done) | fail) only [go_sem, wrap64, if_pos, and_self]
          have h5' : (!isNm a fB || !isNm b tB) = true := h5
          rw [hsig2, h5']; rfl
        · simp +contextual (disch := first | omega | (simp only [go_sem, false_implies]; done) | fail) only [go_sem, wrap64, if_pos, and_self]
          have h5' : (!isNm a fB || !isNm b tB) = false := h5
          rw [hsig2, h5']; rfl
def rightF (s : TSig) (l : List Tm) : Bool := sigF s && l.all (formedF s)
theorem foldE_all {α : Type} (p : α → Bool) : ∀ (l : List α) (u : Unit), foldE (fun _ x => ((), p x)) u l = ((), l.all p)
  | [], _ => rfl
  | x :: l, u => by
    simp only [foldE, List.all_cons, foldE_all p l]
    cases p x <;> rfl
theorem every_keep (l : List Tm) (hl : l.length ≤ 9223372036854775807) (g : Nat) (caps : List V) (base : Nat) (h : Nat → Obj') (p : Tm → Bool) (hc : ∀ r ∈ V.refss caps, r < base)
    (hp : ∀ x ∈ l, StC Tryz.prog g (.d x.d :: caps) base h h (.d (.bool (p x)))) : StC Tryz.prog 87 [.d (.sl (l.map Tm.d)), .func (.func g) [] caps] base h h (.d (.bool (l.all p))) := by
  have := every_Tm l hl g caps base (fun _ : Unit => h) (fun _ x => ((), p x)) hc (fun _ => True) (fun _ _ _ _ _ => trivial) (fun x hx _ _ => hp x hx) () trivial
  simpa only [foldE_all] using this
structure Tm.Fin (t : Tm) : Prop where
  fits : t.fits
  hgt : t.hgt ≤ 900000
theorem right1_c (s : TSig) (hs : s.Fits) (t : Tm) (ht : t.Fin) (base sp : Nat) (h : Nat → Obj') (hsp : h sp = .row s.row) (hb : sp < base) : StC Tryz.prog 88 [.d t.d, .ptr sp 0] base h h (.d (.bool (formedF s t))) := by
  intro o nx hI K X hK
  have hle := hI.le
  have hg := hI.good
  have q0 : o sp = .row s.row := by rw [hI.eq sp hb, hsp]
  refine CtK.of_ev mix fn88 (by simp) ?_
  rw [c88]
  simp +contextual (disch := first | omega | (simp only [go_sem, false_implies]; done) | fail) only [go_sem, wrap64, if_pos, q0]
  refine call_keep (formed_c s hs t ht.fits ht.hgt) rfl ?_
  simp +contextual (disch := first | omega | (simp only [go_sem, false_implies]; done) | fail) only [go_sem, wrap64, if_pos, and_self]
  exact hK _ _ (by omega) ⟨(by repeat (first | exact hg.mono (by omega) | exact Good.nil | refine Good.upd ?_ (by omega) rfl | refine Good.upd ?_ (by omega) (hLr _ _ _ (by omega)) | refine Good.upd ?_ (by omega) (by simp [Obj'.refs, V.refss, V.refs] <;> omega))), by omega, fun j hj => by rw [upd_ne _ _ _ _ (by omega), hI.eq j hj]⟩ (fun j g1 g2 => by (repeat (first | rfl | rw [upd_same] | rw [upd_ne _ _ _ _ (by omega)])))
theorem right_c (s : TSig) (hs : s.Fits) (l : List Tm) (hl : l.length ≤ 9223372036854775807) (hf : ∀ t ∈ l, t.Fin) : PCt Tryz.prog 51 [s.d, .sl (l.map Tm.d)] (.ret [.bool (rightF s l)]) := by
  refine PCt.of_ev mix fn51 (by simp) ?_
  rw [c51]
  simp +contextual (disch := first | omega | (simp only [go_sem, false_implies]; done) | fail) only [go_sem, wrap64, if_pos, and_self]
  refine call_keep (checkSig_c s hs) rfl ?_
  cases h1 : sigF s with
  | false =>
    simp +contextual (disch := first | omega | (simp only [go_sem, false_implies]; done) | fail) only [go_sem, wrap64, if_pos, errOf]
    simp [rightF, h1]
  | true =>
    simp +contextual (disch := first | omega | (simp only [go_sem, false_implies]; done) | fail) only [go_sem, wrap64, if_pos, errOf]
    refine callR_heap (every_keep l hl 88 [.ptr 0 0] 1 (upd (fun _ => .no) 0 (.row s.row)) (formedF s) (by simp [V.refss, V.refs]) (fun x hx => right1_c s hs x (hf x hx) 1 0 _ (upd_same _ _ _) (by omega)) _ _ ⟨(by repeat (first | exact hg.mono (by omega) | exact Good.nil | refine Good.upd ?_ (by omega) rfl | refine Good.upd ?_ (by omega) (hLr _ _ _ (by omega)) | refine Good.upd ?_ (by omega) (by simp [Obj'.refs, V.refss, V.refs] <;> omega))), by omega, fun id hid => rfl⟩ _ _ fun o2 n2 m1 m2 m3 => ?_)
    simp +contextual (disch := first | omega | (simp only [go_sem, false_implies]; done) | fail) only [go_sem, wrap64, if_pos, and_self]
    simp [rightF, h1]
end Go.Proofs.YtealblliddhgiaaGreat
namespace Go.Proofs.YtealblliddhgiaaGreat
def vbad (x : Tm × Int) : Bool := decide (3 < x.1.op) && x.1.op != 5
def vJ (b : Bool) : Option Jmp := if b = true then none else some .ret
def isValF (t : Tm) : Bool := (foldE (stp vJ (fun _ x => !vbad x)) true (pre t 1)).2
theorem isValue_c (t : Tm) (ht : t.Fin) : PCt Tryz.prog 82 [t.d] (.ret [.bool (isValF t)]) := by
  refine PCt.of_ev mix fn82 (by simp) ?_
  rw [c82]
  simp +contextual (disch := first | omega | (simp only [go_sem, false_implies]; done) | fail) only [go_sem, wrap64, if_pos, and_self]
  refine call_heap (nodesK_c t _ _ _ _ ?_)
  simp +contextual (disch := first | omega | (simp only [go_sem, false_implies]; done) | fail) only [go_sem, wrap64, if_pos, and_self]
  refine range_nodes t ht.fits ht.hgt [.junk, .junk, .ptr 1 0] ?_ (by decide) rfl (by repeat (first | exact hg.mono (by omega) | exact Good.nil | refine Good.upd ?_ (by omega) rfl | refine Good.upd ?_ (by omega) (hLr _ _ _ (by omega)) | refine Good.upd ?_ (by omega) (by simp [Obj'.refs, V.refss, V.refs] <;> omega))) (by simp [V.refss, V.refs]) (upd_same _ _ _)
    (fun _ => upd (upd (upd (fun _ => .no) 0 (.row t.row)) 1 (.row [.d (.bool false)])) 3 (.row t.row)) vJ (fun _ x => !vbad x) (fun _ => True) true trivial rfl (fun id hid => rfl) (fun _ _ _ _ _ _ => trivial) ?_ ?_
  · (repeat (first | exact keptE_nil | refine keptE_junk ?_ | refine keptE_v rfl ?_))
  · intro L hL hLr x hx s' h1 h2 o3 n3 hI hn ho K X hend
    simp only [setP]
    have hg := hI.good
    have q1 : o3 1 = .row [.d (.bool false)] := hI.eq 1 (by omega)
    simp +contextual (disch := first | omega | (simp only [go_sem, false_implies]; done) | fail) only [go_sem, wrap64, if_pos, and_self]
    refine begin_st hL (pd := none) ?_ ?_
    · (repeat (first | rfl | rw [upd_same] | rw [upd_ne _ _ _ _ (by omega)]))
      exact ho
    simp +contextual (disch := first | omega | (simp only [go_sem, false_implies]; done) | fail) only [go_sem, wrap64, if_pos, and_self]
    have hv : vbad x = (decide (3 < x.1.op) && x.1.op != 5) := rfl
    rw [← hv]
    cases hb : vbad x with
    | true =>
      rw [hb] at hend
      simp +contextual (disch := first | omega | (simp only [go_sem, false_implies]; done) | fail) only [go_sem, wrap64, if_pos, q1]
      refine hend _ _ _ .busy none (by omega) ⟨(by repeat (first | exact hg.mono (by omega) | exact Good.nil | refine Good.upd ?_ (by omega) rfl | refine Good.upd ?_ (by omega) (hLr _ _ _ (by omega)) | refine Good.upd ?_ (by omega) (by simp [Obj'.refs, V.refss, V.refs] <;> omega))), by omega, fun id hid => ?_⟩ (by (repeat (first | rfl | rw [upd_same] | rw [upd_ne _ _ _ _ (by omega)]))) (fun id h3 h4 => by (repeat (first | rfl | rw [upd_same] | rw [upd_ne _ _ _ _ (by omega)])))
      by_cases e : id = 1
      · subst e; (repeat (first | rfl | rw [upd_same] | rw [upd_ne _ _ _ _ (by omega)]))
      · rw [upd_ne _ _ _ _ e]; (repeat (first | rfl | rw [upd_same] | rw [upd_ne _ _ _ _ (by omega)]))
        exact hI.eq id hid
    | false =>
      rw [hb] at hend
      simp +contextual (disch := first | omega | (simp only [go_sem, false_implies]; done) | fail) only [go_sem, wrap64, if_pos, and_self]
      refine hend _ _ _ .busy none (by omega) ⟨(by repeat (first | exact hg.mono (by omega) | exact Good.nil | refine Good.upd ?_ (by omega) rfl | refine Good.upd ?_ (by omega) (hLr _ _ _ (by omega)) | refine Good.upd ?_ (by omega) (by simp [Obj'.refs, V.refss, V.refs] <;> omega))), by omega, fun id hid => ?_⟩ (by (repeat (first | rfl | rw [upd_same] | rw [upd_ne _ _ _ _ (by omega)]))) (fun id h3 h4 => by (repeat (first | rfl | rw [upd_same] | rw [upd_ne _ _ _ _ (by omega)])))
      (repeat (first | rfl | rw [upd_same] | rw [upd_ne _ _ _ _ (by omega)]))
      exact hI.eq id hid
  · intro o' n' hI
    have q1 : o' 1 = .row [.d (.bool false)] := hI.eq 1 (by omega)
    rw [show isValF t = (vJ (foldE (stp vJ (fun _ x => !vbad x)) true (pre t 1)).1).isNone from foldE_J _ _ _ _ rfl]
    generalize (foldE (stp vJ (fun _ x => !vbad x)) true (pre t 1)).1 = sf at *
    cases sf <;> (simp only [vJ, if_true, if_false, Bool.false_eq_true, jmpQ]; simp +contextual (disch := first | omega | (simp only [go_sem, false_implies]; done) | fail) only [go_sem, wrap64, if_pos, q1]; rfl)
end Go.Proofs.YtealblliddhgiaaGreat
namespace Go.Proofs.YtealblliddhgiaaGreat
def valuesOkF (s : TSig) (l : List Tm) : Bool := rightF s l && l.all isValF
theorem values_c (s : TSig) (hs : s.Fits) (l : List Tm) (hl : l.length ≤ 9223372036854775807) (hf : ∀ t ∈ l, t.Fin) : PCt Tryz.prog 60 [s.d, .sl (l.map Tm.d)] (.ret [.bool (valuesOkF s l)]) := by
  refine PCt.of_ev mix fn60 (by simp) ?_
  rw [c60]
  simp +contextual (disch := first | omega | (simp only [go_sem, false_implies]; done) | fail) only [go_sem, wrap64, if_pos, and_self]
  refine call_keep (right_c s hs l hl hf) rfl ?_
  cases h1 : rightF s l with
  | false =>
    simp +contextual (disch := first | omega | (simp only [go_sem, false_implies]; done) | fail) only [go_sem, wrap64, if_pos, and_self]
    simp [valuesOkF, h1]
  | true =>
    simp +contextual (disch := first | omega | (simp only [go_sem, false_implies]; done) | fail) only [go_sem, wrap64, if_pos, and_self]
    refine callR_heap (every_keep l hl 82 [] 1 (upd (fun _ => .no) 0 (.row s.row)) isValF (by simp [V.refss, V.refs]) (fun x hx => StC.of_pct (isValue_c x (hf x hx)) _ _) _ _ ⟨(by repeat (first | exact hg.mono (by omega) | exact Good.nil | refine Good.upd ?_ (by omega) rfl | refine Good.upd ?_ (by omega) (hLr _ _ _ (by omega)) | refine Good.upd ?_ (by omega) (by simp [Obj'.refs, V.refss, V.refs] <;> omega))), by omega, fun id hid => rfl⟩ _ _ fun o2 n2 m1 m2 m3 => ?_)
    simp +contextual (disch := first | omega | (simp only [go_sem, false_implies]; done) | fail) only [go_sem, wrap64, if_pos, and_self]
    simp [valuesOkF, h1]
theorem fold_len {α : Type} (J : Int → Option Jmp) (hJ : ∀ n, J n = none) : ∀ (l : List (Tm × Int)) (n : Int), 0 ≤ n → n + l.length ≤ 9223372036854775807 → (foldE (stp J (fun n _ => IntKind.i64.wrap (n + 1))) n l).1 = n + l.length
  | [], n, _, _ => by simp [foldE]
  | x :: l, n, h, h2 => by
    simp only [foldE, stp, hJ, Option.isNone_none, if_true]
    rw [wrap64 (by omega) (by simp at h2; omega)]
    have := fold_len (α := α) J hJ l (n + 1) (by omega) (by simp at h2 ⊢; omega)
    rw [this]; simp; omega
def Tm.sizeI (t : Tm) : Int := (pre t 1).length
theorem size_c (t : Tm) (ht : t.Fin) (hs : t.sizeI ≤ 1000000) : PCt Tryz.prog 130 [t.d] (.ret [.i t.sizeI]) := by
  refine PCt.of_ev mix fn130 (by simp) ?_
  rw [c130]
  simp +contextual (disch := first | omega | (simp only [go_sem, false_implies]; done) | fail) only [go_sem, wrap64, if_pos, and_self]
  refine call_heap (nodesK_c t _ _ _ _ ?_)
  simp +contextual (disch := first | omega | (simp only [go_sem, false_implies]; done) | fail) only [go_sem, wrap64, if_pos, and_self]
  refine range_nodes (σ := Int) t ht.fits ht.hgt [.junk, .ptr 0 0, .junk, .ptr 2 0] ?_ (by decide) rfl (by repeat (first | exact hg.mono (by omega) | exact Good.nil | refine Good.upd ?_ (by omega) rfl | refine Good.upd ?_ (by omega) (hLr _ _ _ (by omega)) | refine Good.upd ?_ (by omega) (by simp [Obj'.refs, V.refss, V.refs] <;> omega))) (by simp [V.refss, V.refs]) (upd_same _ _ _)
    (fun n => upd (upd (upd (fun _ => .no) 0 (.row t.row)) 2 (.row [.d (.i n)])) 5 (.row t.row)) (fun _ => none) (fun n _ => IntKind.i64.wrap (n + 1)) (fun _ => True) 0 trivial rfl (fun id hid => by rw [upd_upd]) (fun _ _ _ _ _ _ => trivial) ?_ ?_
  · (repeat (first | exact keptE_nil | refine keptE_junk ?_ | refine keptE_v rfl ?_))
  · intro L hL hLr x hx s' h1 h2 o3 n3 hI hn ho K X hend
    simp only [setP]
    have hg := hI.good
    have q1 : o3 2 = .row [.d (.i s')] := hI.eq 2 (by omega)
    simp +contextual (disch := first | omega | (simp only [go_sem, false_implies]; done) | fail) only [go_sem, wrap64, if_pos, and_self]
    refine begin_st hL (pd := none) ?_ ?_
    · exact ho
    simp +contextual (disch := first | omega | (simp only [go_sem, false_implies]; done) | fail) only [go_sem, wrap64, if_pos, q1]
    refine hend _ _ _ .busy none (by omega) ⟨(by repeat (first | exact hg.mono (by omega) | exact Good.nil | refine Good.upd ?_ (by omega) rfl | refine Good.upd ?_ (by omega) (hLr _ _ _ (by omega)) | refine Good.upd ?_ (by omega) (by simp [Obj'.refs, V.refss, V.refs] <;> omega))), by omega, fun id hid => ?_⟩ (by (repeat (first | rfl | rw [upd_same] | rw [upd_ne _ _ _ _ (by omega)]))) (fun id h3 h4 => by (repeat (first | rfl | rw [upd_same] | rw [upd_ne _ _ _ _ (by omega)])))
    by_cases e : id = 2
    · subst e; (repeat (first | rfl | rw [upd_same] | rw [upd_ne _ _ _ _ (by omega)]))
    · rw [upd_ne _ _ _ _ e]; (repeat (first | rfl | rw [upd_same] | rw [upd_ne _ _ _ _ (by omega)]))
      rw [hI.eq id hid]
      simp only [upd_apply, e, if_false]
  · intro o' n' hI
    have hf := fold_len (α := Unit) (fun _ => none) (fun _ => rfl) (pre t 1) 0 (by omega) (by simp only [Tm.sizeI] at hs; omega)
    rw [hf] at hI
    have q1 : o' 2 = .row [.d (.i (0 + (pre t 1).length))] := hI.eq 2 (by omega)
    simp only [jmpQ]
    simp +contextual (disch := first | omega | (simp only [go_sem, false_implies]; done) | fail) only [go_sem, wrap64, if_pos, q1]
    simp [Tm.sizeI]
theorem isNaN_c (n : Int) : PCt Tryz.prog 129 [.i n] (.ret [.bool false]) := by
  refine PCt.of_ev mix fn129 (by simp) ?_
  rw [c129]
  simp +contextual (disch := first | omega | (simp only [go_sem, false_implies]; done) | fail) only [go_sem, wrap64, if_pos, and_self]
  simp
def cmpI (a b : Int) : Int := if a < b then -1 else if b < a then 1 else 0
theorem cmpCompare_c (a b : Int) : PCt Tryz.prog 102 [.i a, .i b] (.ret [.i (cmpI a b)]) := by
  refine PCt.of_ev mix fn102 (by simp) ?_
  rw [c102]
  simp +contextual (disch := first | omega | (simp only [go_sem, false_implies]; done) | fail) only [go_sem, wrap64, if_pos, and_self]
  refine call_keep (isNaN_c _) rfl ?_
  simp +contextual (disch := first | omega | (simp only [go_sem, false_implies]; done) | fail) only [go_sem, wrap64, if_pos, and_self]
  refine call_keep (isNaN_c _) rfl ?_
  simp +contextual (disch := first | omega | (simp only [go_sem, false_implies]; done) | fail) only [go_sem, wrap64, if_pos, and_self]
  refine cond_intro (fun h1 => ?_) (fun h1 => ?_)
  · simp +contextual (disch := first | omega | (simp only [go_sem, false_implies]; done) | fail) only [go_sem, wrap64, if_pos, and_self]
    simp at h1
    simp [cmpI, h1]
  · simp +contextual (disch := first | omega | (simp only [go_sem, false_implies]; done) | fail) only [go_sem, wrap64, if_pos, and_self]
    simp at h1
    refine cond_intro (fun h2 => ?_) (fun h2 => ?_)
    · simp +contextual (disch := first | omega | (simp only [go_sem, false_implies]; done) | fail) only [go_sem, wrap64, if_pos, and_self]
      simp at h2
      simp [cmpI, h2]; omega
    · simp +contextual (disch := first | omega | (simp only [go_sem, false_implies]; done) | fail) only [go_sem, wrap64, if_pos, and_self]
      simp at h2
      simp [cmpI, show ¬ (a < b) by omega, show ¬ (b < a) by omega]
def rankF (t : Tm) (k : Nat) : Int := if k = 0 then t.sizeI else if k = 1 then t.op else t.n
theorem rank_c (t : Tm) (ht : t.Fin) (hs : t.sizeI ≤ 1000000) (k : Nat) : PCt Tryz.prog 103 [t.d, .i k] (.ret [.i (rankF t k)]) := by
  refine PCt.of_ev mix fn103 (by simp) ?_
  rw [c103]
  by_cases h0 : k = 0
  · subst h0
    simp +contextual (disch := first | omega | (simp only [go_sem, false_implies]; done) | fail) only [go_sem, wrap64, if_pos, and_self]
    refine call_keep (size_c t ht hs) rfl ?_
    simp +contextual (disch := first | omega | (simp only [go_sem, false_implies]; done) | fail) only [go_sem, wrap64, if_pos, and_self]
    simp [rankF]
  · by_cases h1 : k = 1
    · subst h1
      simp +contextual (disch := first | omega | (simp only [go_sem, false_implies]; done) | fail) only [go_sem, wrap64, if_pos, and_self]
      simp [rankF]
    · have e0 : ((k : Int) == 0) = false := by simp; omega
      have e1 : ((k : Int) == 1) = false := by simp; omega
      simp +contextual (disch := first | omega | (simp only [go_sem, false_implies]; done) | fail) only [go_sem, wrap64, if_pos, e0, e1]
      simp [rankF, h0, h1]
mutual
def compF : Tm → Tm → Int
  | .mk op n kids, .mk op' n' kids' =>
    if cmpI (Tm.sizeI (.mk op n kids)) (Tm.sizeI (.mk op' n' kids')) ≠ 0 then cmpI (Tm.sizeI (.mk op n kids)) (Tm.sizeI (.mk op' n' kids'))
    else if cmpI op op' ≠ 0 then cmpI op op' else if cmpI n n' ≠ 0 then cmpI n n' else compsF kids kids'
def compsF : List Tm → List Tm → Int
  | [], _ => 0
  | _ :: _, [] => 0
  | a :: l, b :: l' => if compF a b ≠ 0 then compF a b else compsF l l'
end
def rk (a b : Tm) (k : Nat) : Int := cmpI (rankF a k) (rankF b k)
theorem compF_eq (a b : Tm) : compF a b = if rk a b 0 ≠ 0 then rk a b 0 else if rk a b 1 ≠ 0 then rk a b 1 else if rk a b 2 ≠ 0 then rk a b 2 else compsF a.kids b.kids := by
  cases a; cases b; simp [compF, rk, rankF, Tm.op, Tm.n, Tm.kids]
theorem compsF_drop {l l' : List Tm} {i : Nat} {x y : Tm} (hx : l[i]? = some x) (hy : l'[i]? = some y) : compsF (l.drop i) (l'.drop i) = if compF x y ≠ 0 then compF x y else compsF (l.drop (i + 1)) (l'.drop (i + 1)) := by
  obtain ⟨h1, e1⟩ := List.getElem?_eq_some_iff.1 hx
  obtain ⟨h2, e2⟩ := List.getElem?_eq_some_iff.1 hy
  rw [List.drop_eq_getElem_cons h1, List.drop_eq_getElem_cons h2, e1, e2, compsF]
theorem compsF_end {l l' : List Tm} {i : Nat} (h : l.length ≤ i ∨ l'.length ≤ i) : compsF (l.drop i) (l'.drop i) = 0 := by
  rcases h with h | h
  · rw [List.drop_eq_nil_of_le h]; rfl
  · rw [List.drop_eq_nil_of_le h]; cases l.drop i <;> rfl
structure Tm.Cnt (t : Tm) : Prop extends t.Fin where
  size : t.sizeI ≤ 1000000
theorem Tm.Fin.kid {t k : Tm} (h : t.Fin) (hk : k ∈ t.kids) : k.Fin := ⟨((Tm.fits_iff _).1 h.fits).2 k hk, by have := Tm.hgt_kid hk; have := h.hgt; omega⟩
theorem pre_len_any : ∀ (t : Tm) (d d' : Int), (pre t d).length = (pre t d').length := by
  refine Tm.ind' fun t ih d d' => ?_
  rw [pre_eq, pre_eq]
  simp only [List.length_cons, List.length_flatMap]
  congr 2
  exact List.map_congr_left fun k hk => ih k hk _ _
theorem Tm.sizeI_kid {t k : Tm} (hk : k ∈ t.kids) : k.sizeI + 1 ≤ t.sizeI := by
  simp only [Tm.sizeI]
  rw [pre_eq t, pre_len_any k 1 (1 + 1)]
  simp only [List.length_cons, List.length_flatMap]
  have : ∀ (l : List Tm), k ∈ l → (pre k (1 + 1)).length ≤ (l.map fun k => (pre k (1 + 1)).length).sum := by
    intro l
    induction l with
    | nil => intro h; cases h
    | cons x l ih =>
      intro h
      rcases List.mem_cons.1 h with rfl | h
      · simp only [List.map_cons, List.sum_cons]; omega
      · have := ih h; simp only [List.map_cons, List.sum_cons]; omega
  have := this _ hk
  omega
theorem Tm.Cnt.kid {t k : Tm} (h : t.Cnt) (hk : k ∈ t.kids) : k.Cnt := ⟨h.toFin.kid hk, by have := Tm.sizeI_kid hk; have := h.size; omega⟩
theorem compare_c : ∀ a : Tm, a.Cnt → ∀ b : Tm, b.Cnt → PCt Tryz.prog 66 [a.d, b.d] (.ret [.i (compF a b)]) := by
  refine Tm.ind' fun a ih ha b hb => ?_
  have ha' := (Tm.fits_iff _).1 ha.fits
  have hb' := (Tm.fits_iff _).1 hb.fits
  refine PCt.of_ev mix fn66 (by simp) ?_
  rw [c66]
  simp +contextual (disch := first | omega | (simp only [go_sem, false_implies]; done) | fail) only [go_sem, wrap64, if_pos, and_self]
  refine loop_fam (fun _ : Unit => ⟨envJ [.junk, .junk, .ptr 0 0, .ptr 1 0, .junk, .d (.i 0)], twoRow a.row b.row, 2⟩) (fun _ => True) (fun _ => 0) () trivial (SLe.d2 _ (twoRow_good rfl rfl) (by omega) rfl rfl ?_) (fun _ _ => ?_)
  · (repeat (first | exact backE_nil | refine backE_junk ?_ | refine backE_d rfl ?_ | refine backE_d (d_int (wrapN (by omega))) ?_ | refine backE_v rfl (by simp [V.refs, V.refss] <;> first | omega | assumption) ?_))
  simp +contextual (disch := first | omega | (simp only [go_sem, false_implies]; done) | fail) only [go_sem, wrap64, if_pos, and_self]
  refine loop_fam (fun k : Nat => ⟨envJ [.junk, .junk, .ptr 0 0, .ptr 1 0, .junk, .d (.i 0), .junk, .junk, .d (.i k)], twoRow a.row b.row, 2⟩) (fun k => k ≤ 3 ∧ ∀ j, j < k → rk a b j = 0) (fun k => 3 - k) 0 ⟨by omega, fun j h => by omega⟩ (SLe.d2 _ (twoRow_good rfl rfl) (by omega) rfl rfl ?_) (fun k hk => ?_)
  · (repeat (first | exact backE_nil | refine backE_junk ?_ | refine backE_d rfl ?_ | refine backE_d (d_int (wrapN (by omega))) ?_ | refine backE_v rfl (by simp [V.refs, V.refss] <;> first | omega | assumption) ?_))
  simp +contextual (disch := first | omega | (simp only [go_sem, false_implies]; done) | fail) only [go_sem, wrap64, if_pos, and_self]
  refine cond_intro (fun h1 => ?_) (fun h1 => ?_)
  · simp at h1
    simp +contextual (disch := first | omega | (simp only [go_sem, false_implies]; done) | fail) only [go_sem, wrap64, if_pos, and_self]
    refine callD_keep (rank_c a ha.toFin ha.size k) rfl ?_
    simp +contextual (disch := first | omega | (simp only [go_sem, false_implies]; done) | fail) only [go_sem, wrap64, if_pos, and_self]
    refine callD_keep (rank_c b hb.toFin hb.size k) rfl ?_
    simp +contextual (disch := first | omega | (simp only [go_sem, false_implies]; done) | fail) only [go_sem, wrap64, if_pos, and_self]
    refine callD_keep (cmpCompare_c _ _) rfl ?_
    simp +contextual (disch := first | omega | (simp only [go_sem, false_implies]; done) | fail) only [go_sem, wrap64, if_pos, and_self]
    refine end_intro (objsOk_reads rfl) ?_
    simp +contextual (disch := first | omega | (simp only [go_sem, false_implies]; done) | fail) only [go_sem, wrap64, if_pos, and_self]
    refine cond_intro (fun h2 => ?_) (fun h2 => ?_)
    · simp +contextual (disch := first | omega | (simp only [go_sem, false_implies]; done) | fail) only [go_sem, wrap64, if_pos, and_self]
      have h2' : rk a b k ≠ 0 := by simpa [rk] using h2
      have : compF a b = rk a b k := by
        rw [compF_eq]
        rcases (by omega : k = 0 ∨ k = 1 ∨ k = 2) with rfl | rfl | rfl
        · rw [if_pos h2']
        · rw [if_neg (by simp [hk.2 0 (by omega)]), if_pos h2']
        · rw [if_neg (by simp [hk.2 0 (by omega)]), if_neg (by simp [hk.2 1 (by omega)]), if_pos h2']
      rw [this]; rfl
    · have h2' : rk a b k = 0 := by simpa [rk] using h2
      have h2'' : cmpI (rankF a k) (rankF b k) = 0 := h2'
      simp +contextual (disch := first | omega | (simp only [go_sem, false_implies]; done) | fail) only [go_sem, wrap64, if_pos, and_self]
      rw [h2'']
      refine nextS_intro (k + 1) ⟨by omega, fun j hj => ?_⟩ (by omega) (SLe.d2 _ (twoRow_good rfl rfl) (by omega) rfl rfl ?_)
      · by_cases e : j = k
        · subst e; exact h2'
        · exact hk.2 j (by omega)
      · (repeat (first | exact backE_nil | refine backE_junk ?_ | refine backE_d rfl ?_ | refine backE_d (d_int (wrapN (by omega))) ?_ | refine backE_v rfl (by simp [V.refs, V.refss] <;> first | omega | assumption) ?_))
  · simp at h1
    have hcF : compF a b = compsF (a.kids.drop 0) (b.kids.drop 0) := by
      rw [compF_eq, if_neg (by simp [hk.2 0 (by omega)]), if_neg (by simp [hk.2 1 (by omega)]), if_neg (by simp [hk.2 2 (by omega)])]
      simp
    simp +contextual (disch := first | omega | (simp only [go_sem, false_implies]; done) | fail) only [go_sem, wrap64, if_pos, and_self]
    refine loop_fam (fun i : Nat => ⟨envJ [.junk, .junk, .ptr 0 0, .ptr 1 0, .junk, .d (.i 0), .junk, .d (.i i)], twoRow a.row b.row, 2⟩) (fun i => i ≤ a.kids.length ∧ compF a b = compsF (a.kids.drop i) (b.kids.drop i)) (fun i => a.kids.length - i) 0 ⟨Nat.zero_le _, hcF⟩ (SLe.d2 _ (twoRow_good rfl rfl) (by omega) rfl rfl ?_) (fun i hi => ?_)
    · (repeat (first | exact backE_nil | refine backE_junk ?_ | refine backE_d rfl ?_ | refine backE_d (d_int (wrapN (by omega))) ?_ | refine backE_v rfl (by simp [V.refs, V.refss] <;> first | omega | assumption) ?_))
    simp +contextual (disch := first | omega | (simp only [go_sem, false_implies]; done) | fail) only [go_sem, wrap64, if_pos, and_self]
    refine cond_intro (fun h3 => ?_) (fun h3 => ?_)
    · simp at h3
      obtain ⟨x, hx⟩ := get_of_lt h3.1
      obtain ⟨y, hy⟩ := get_of_lt h3.2
      have hxm := List.mem_of_getElem? hx
      have hym := List.mem_of_getElem? hy
      simp +contextual (disch := first | omega | (simp only [go_sem, false_implies]; done) | fail) only [go_sem, wrap64, if_pos, hx, hy]
      refine callD_keep (ih x hxm (ha.kid hxm) y (hb.kid hym)) rfl ?_
      simp +contextual (disch := first | omega | (simp only [go_sem, false_implies]; done) | fail) only [go_sem, wrap64, if_pos, and_self]
      refine end_intro (objsOk_reads rfl) ?_
      simp +contextual (disch := first | omega | (simp only [go_sem, false_implies]; done) | fail) only [go_sem, wrap64, if_pos, and_self]
      have hdr := compsF_drop hx hy
      rw [← hi.2] at hdr
      refine cond_intro (fun h4 => ?_) (fun h4 => ?_)
      · simp +contextual (disch := first | omega | (simp only [go_sem, false_implies]; done) | fail) only [go_sem, wrap64, if_pos, and_self]
        have h4' : compF x y ≠ 0 := by simpa using h4
        rw [hdr, if_pos h4']
      · have h4' : compF x y = 0 := by simpa using h4
        simp +contextual (disch := first | omega | (simp only [go_sem, false_implies]; done) | fail) only [go_sem, wrap64, if_pos, and_self]
        rw [h4']
        rw [if_neg (by simp [h4'])] at hdr
        refine nextS_intro (i + 1) ⟨h3.1, hdr⟩ (by omega) (SLe.d2 _ (twoRow_good rfl rfl) (by omega) rfl rfl ?_)
        (repeat (first | exact backE_nil | refine backE_junk ?_ | refine backE_d rfl ?_ | refine backE_d (d_int (wrapN (by omega))) ?_ | refine backE_v rfl (by simp [V.refs, V.refss] <;> first | omega | assumption) ?_))
    · simp +contextual (disch := first | omega | (simp only [go_sem, false_implies]; done) | fail) only [go_sem, wrap64, if_pos, and_self]
      simp only [Bool.and_eq_false_iff, decide_eq_false_iff_not] at h3
      rw [hi.2, compsF_end (by omega)]
theorem compare'_c (s : TSig) (hs : s.Fits) (a b : Tm) (ha : a.Cnt) (hb : b.Cnt) : PCt Tryz.prog 24 [s.d, a.d, b.d] (.ret [.i (if valuesOkF s [a, b] = true then compF a b else 0), .i (errOf (valuesOkF s [a, b]))]) := by
  refine PCt.of_ev mix fn24 (by simp) ?_
  rw [c24]
  simp +contextual (disch := first | omega | (simp only [go_sem, false_implies]; done) | fail) only [go_sem, wrap64, if_pos, and_self]
  refine call_keep (values_c s hs [a, b] (by simp) (fun x hx => by simp at hx; rcases hx with rfl | rfl <;> first | exact ha.toFin | exact hb.toFin)) rfl ?_
  cases h1 : valuesOkF s [a, b] with
  | false => simp +contextual (disch := first | omega | (simp only [go_sem, false_implies]; done) | fail) only [go_sem, wrap64, if_pos, and_self]; simp [errOf]
  | true =>
    simp +contextual (disch := first | omega | (simp only [go_sem, false_implies]; done) | fail) only [go_sem, wrap64, if_pos, and_self]
    refine call_keep (compare_c a ha b hb) rfl ?_
    simp +contextual (disch := first | omega | (simp only [go_sem, false_implies]; done) | fail) only [go_sem, wrap64, if_pos, and_self]
    simp [errOf]
end Go.Proofs.YtealblliddhgiaaGreat
namespace Go.Proofs.YtealblliddhgiaaGreat
def smallLF (s : TSig) (l : List Tm) : Bool := l.all smallF && smallSigF s
theorem smallL_c (s : TSig) (hs : s.Fits) (l : List Tm) (hl : l.length ≤ 1000000) (hf : ∀ t ∈ l, t.fits) : PCt Tryz.prog 11 [s.d, .sl (l.map Tm.d)] (.ret [.bool (smallLF s l)]) := by
  refine PCt.of_ev mix fn11 (by simp) ?_
  rw [c11]
  simp +contextual (disch := first | omega | (simp only [go_sem, false_implies]; done) | fail) only [go_sem, wrap64, if_pos, and_self]
  refine loop_fam (fun k : Nat => ⟨envJ [.junk, .d (.sl (l.map Tm.d)), .ptr 0 0, .junk, .junk, .d (.i k)], oneRow s.row, 1⟩)
    (fun k => k ≤ l.length ∧ (l.take k).all smallF = true) (fun k => l.length - k) 0 ⟨Nat.zero_le _, by simp⟩ (SLe.d1 _ (oneRow_good rfl) (by omega) rfl ?_) (fun k hk => ?_)
  · (repeat (first | exact backE_nil | refine backE_junk ?_ | refine backE_d rfl ?_ | refine backE_d (d_int (wrapN (by omega))) ?_ | refine backE_v rfl (by simp [V.refs, V.refss] <;> first | omega | assumption) ?_))
  simp +contextual (disch := first | omega | (simp only [go_sem, false_implies]; done) | fail) only [go_sem, wrap64, if_pos, and_self]
  refine cond_intro (fun h2 => ?_) (fun h2 => ?_)
  · simp at h2
    obtain ⟨x, hx⟩ := get_of_lt h2
    simp +contextual (disch := first | omega | (simp only [go_sem, false_implies]; done) | fail) only [go_sem, wrap64, if_pos, hx]
    refine call_keep (small_c x (hf x (List.mem_of_getElem? hx))) rfl ?_
    simp +contextual (disch := first | omega | (simp only [go_sem, false_implies]; done) | fail) only [go_sem, wrap64, if_pos, and_self]
    refine cond_intro (fun h3 => ?_) (fun h3 => ?_)
    · simp +contextual (disch := first | omega | (simp only [go_sem, false_implies]; done) | fail) only [go_sem, wrap64, if_pos, and_self]
      simp at h3
      simp [smallLF, all_stop hx h3]
    · simp +contextual (disch := first | omega | (simp only [go_sem, false_implies]; done) | fail) only [go_sem, wrap64, if_pos, and_self]
      simp at h3
      refine nextS_intro (k + 1) ⟨h2, all_snoc hx hk.2 h3⟩ (by omega) (SLe.d1 _ (oneRow_good rfl) (by omega) rfl ?_)
      (repeat (first | exact backE_nil | refine backE_junk ?_ | refine backE_d rfl ?_ | refine backE_d (d_int (wrapN (by omega))) ?_ | refine backE_v rfl (by simp [V.refs, V.refss] <;> first | omega | assumption) ?_))
  · simp at h2
    simp +contextual (disch := first | omega | (simp only [go_sem, false_implies]; done) | fail) only [go_sem, wrap64, if_pos, and_self]
    refine call_keep (smallSig_c s hs) rfl ?_
    simp +contextual (disch := first | omega | (simp only [go_sem, false_implies]; done) | fail) only [go_sem, wrap64, if_pos, and_self]
    rw [smallLF, all_done hk.2 h2, Bool.true_and]
def givenF (s : TSig) (l : List Tm) : Bool := sigF s && l.all (termF s)
theorem given_c (s : TSig) (hs : s.Fits) (l : List Tm) (hl : l.length ≤ 1000000) (hf : ∀ t ∈ l, t.fits) : PCt Tryz.prog 15 [s.d, .sl (l.map Tm.d)] (.ret [.bool (givenF s l)]) := by
  refine PCt.of_ev mix fn15 (by simp) ?_
  rw [c15]
  simp +contextual (disch := first | omega | (simp only [go_sem, false_implies]; done) | fail) only [go_sem, wrap64, if_pos, and_self]
  refine call_keep (sig_c s hs) rfl ?_
  cases h1 : sigF s with
  | false => simp +contextual (disch := first | omega | (simp only [go_sem, false_implies]; done) | fail) only [go_sem, wrap64, if_pos, and_self]; simp [givenF, h1]
  | true =>
    simp +contextual (disch := first | omega | (simp only [go_sem, false_implies]; done) | fail) only [go_sem, wrap64, if_pos, and_self]
    refine loop_fam (fun k : Nat => ⟨envJ [.junk, .d (.sl (l.map Tm.d)), .ptr 0 0, .junk, .junk, .d (.i k)], oneRow s.row, 1⟩)
      (fun k => k ≤ l.length ∧ (l.take k).all (termF s) = true) (fun k => l.length - k) 0 ⟨Nat.zero_le _, by simp⟩ (SLe.d1 _ (oneRow_good rfl) (by omega) rfl ?_) (fun k hk => ?_)
    · (repeat (first | exact backE_nil | refine backE_junk ?_ | refine backE_d rfl ?_ | refine backE_d (d_int (wrapN (by omega))) ?_ | refine backE_v rfl (by simp [V.refs, V.refss] <;> first | omega | assumption) ?_))
    simp +contextual (disch := first | omega | (simp only [go_sem, false_implies]; done) | fail) only [go_sem, wrap64, if_pos, and_self]
    refine cond_intro (fun h2 => ?_) (fun h2 => ?_)
    · simp at h2
      obtain ⟨x, hx⟩ := get_of_lt h2
      simp +contextual (disch := first | omega | (simp only [go_sem, false_implies]; done) | fail) only [go_sem, wrap64, if_pos, hx]
      refine callD_keep (term_c s hs x (hf x (List.mem_of_getElem? hx))) rfl ?_
      simp +contextual (disch := first | omega | (simp only [go_sem, false_implies]; done) | fail) only [go_sem, wrap64, if_pos, and_self]
      refine end_intro (objsOk_reads rfl) ?_
      simp +contextual (disch := first | omega | (simp only [go_sem, false_implies]; done) | fail) only [go_sem, wrap64, if_pos, and_self]
      refine cond_intro (fun h3 => ?_) (fun h3 => ?_)
      · simp +contextual (disch := first | omega | (simp only [go_sem, false_implies]; done) | fail) only [go_sem, wrap64, if_pos, and_self]
        simp at h3
        simp [givenF, all_stop hx h3]
      · simp +contextual (disch := first | omega | (simp only [go_sem, false_implies]; done) | fail) only [go_sem, wrap64, if_pos, and_self]
        simp at h3
        refine nextS_intro (k + 1) ⟨h2, all_snoc hx hk.2 h3⟩ (by omega) (SLe.d1 _ (oneRow_good rfl) (by omega) rfl ?_)
        (repeat (first | exact backE_nil | refine backE_junk ?_ | refine backE_d rfl ?_ | refine backE_d (d_int (wrapN (by omega))) ?_ | refine backE_v rfl (by simp [V.refs, V.refss] <;> first | omega | assumption) ?_))
    · simp at h2
      simp +contextual (disch := first | omega | (simp only [go_sem, false_implies]; done) | fail) only [go_sem, wrap64, if_pos, and_self]
      simp [givenF, h1, all_done hk.2 h2]
def valuesLF (s : TSig) (a b : Tm) : Bool := givenF s [a, b] && valueF a && valueF b
theorem valuesL_c (s : TSig) (hs : s.Fits) (a b : Tm) (ha : a.fits) (hb : b.fits) : PCt Tryz.prog 25 [s.d, a.d, b.d] (.ret [.bool (valuesLF s a b)]) := by
  refine PCt.of_ev mix fn25 (by simp) ?_
  rw [c25]
  simp +contextual (disch := first | omega | (simp only [go_sem, false_implies]; done) | fail) only [go_sem, wrap64, if_pos, and_self]
  refine call_keep (given_c s hs [a, b] (by simp) (fun t ht => by simp at ht; rcases ht with rfl | rfl <;> assumption)) rfl ?_
  simp +contextual (disch := first | omega | (simp only [go_sem, false_implies]; done) | fail) only [go_sem, wrap64, if_pos, and_self]
  refine guard_data (callG_intro [.bool (valueF a)] ?_ ?_)
  · simp +contextual (disch := first | omega | (simp only [go_sem, false_implies]; done) | fail) only [go_sem, wrap64, if_pos, and_self]
    exact fun _ => value_c a ha
  simp +contextual (disch := first | omega | (simp only [go_sem, false_implies]; done) | fail) only [go_sem, wrap64, if_pos, and_self]
  refine guard_data (callG_intro [.bool (valueF b)] ?_ ?_)
  · simp +contextual (disch := first | omega | (simp only [go_sem, false_implies]; done) | fail) only [go_sem, wrap64, if_pos, and_self]
    exact fun _ => value_c b hb
  simp +contextual (disch := first | omega | (simp only [go_sem, false_implies]; done) | fail) only [go_sem, wrap64, if_pos, and_self]
  rfl
end Go.Proofs.YtealblliddhgiaaGreat
