/-
  A PART OF THE PROOF (put together by program): several texts, one behind the other. Conditions: none.
-/
import Derived.Test.YtaafchgfibbmhaaPk32
set_option linter.unusedSimpArgs false
set_option linter.unusedVariables false
namespace Go.Proofs.Ytaafchgfibbmhaa
def curE (s : Sys) : Nat → Option (List Made)
  | 0 => some (beginL s s.rows.length)
  | k + 1 => (curE s k).bind (elimE s k)
def curA (s : Sys) (k : Nat) : List Made := (curE s k).getD []
def stD (l : List Made) : D := .sl (l.map Made.d)
def stagesD (s : Sys) (n : Nat) : List D := (List.range (n + 1)).map fun k => stD (curA s k)
theorem curE_none {s : Sys} {k : Nat} (h : curE s k = none) : ∀ j, curE s (k + j) = none
  | 0 => h
  | j + 1 => by rw [← Nat.add_assoc]; simp only [curE, curE_none h j, Option.bind_none]
theorem begin_ok {s : Sys} (hc : checkF s = true) : ∀ k, ∀ m ∈ beginL s k, m.Ok s.vars.toNat s.rows.length
  | 0, m, h => by simp [beginL] at h
  | k + 1, m, h => by
    simp only [beginL] at h
    rcases List.mem_append.1 h with h | h
    · exact begin_ok hc k m h
    · split at h
      · rename_i r hr
        split at h
        · cases h
        · simp only [List.mem_singleton] at h
          subst h
          obtain ⟨v1, v5, r10, hall⟩ := check_rows hc
          obtain ⟨e1, e2, e3, _⟩ := hall r (List.mem_of_getElem? hr)
          refine Made.ok_of_big ?_ ?_ (first_num hc hr).2
          · rw [redM_lc]; simp only [firstM]; omega
          · rw [redM_lt]; simp [firstM, unitL]
      · cases h
theorem curE_ok {s : Sys} (hc : checkF s = true) : ∀ {k : Nat} {l : List Made}, curE s k = some l → (∀ m ∈ l, m.Ok s.vars.toNat s.rows.length) ∧ l.length ≤ 200
  | 0, l, h => by
    simp only [curE, Option.some.injEq] at h
    subst h
    have := beginL_length s s.rows.length
    obtain ⟨v1, v5, r10, hall⟩ := check_rows hc
    exact ⟨begin_ok hc _, by omega⟩
  | k + 1, l, h => by
    simp only [curE] at h
    cases hk : curE s k with
    | none => rw [hk] at h; cases h
    | some l0 =>
      rw [hk] at h
      exact elimE_ok (curE_ok hc hk).1 h
def stagesR (s : Sys) (n : Nat) : R := match curE s n with | some _ => .ret [.sl (stagesD s n)] | none => .pan tooD
@[reducible] def sBody : IC :=
  (.seq (.reg [bo .lss 20 3 19 18 3]) (.seq (.cond (.tmp 20) .skip (.exit 0)) (.seq (.block 1 (.seq (.reg [mv 21 19,
 sg 7 21]) (.seq (.reg [mv 22 5,
 mv 23 7,
 k2 24 91 22 23 105 3]) (.reg [mv 25 6,
 mv 26 5,
 nc 27 26,
 fa 28 107 27 1,
 ld 29 34 28,
 ⟨(some 30), .buildSlice 37 1 #[(0, .tmp 29)], none⟩,
 ⟨(some 31), .call { callee := .builtin .append, args := #[.tmp 25, .tmp 30], argTypes := #[37, 37] }, none⟩,
 sg 6 31])))) (.reg [bk .add 32 3 19 1 3,
 mv 19 32]))))
@[reducible] noncomputable def sSt (s : Sys) (n k : Nat) : S :=
  ⟨envJ [.junk, .junk, .junk, .junk, .junk, .ptr 4 0, .osl 5 0, .junk, .junk, .junk, .junk, .junk, .junk, .junk, .junk, .junk, .junk, .junk, .d (.i n), .d (.i k)], upd (upd (fun _ => .no) 5 (.arr 0 34 1 (stagesD s k))) 4 (.row [.d (.i s.vars), .d (.sl (s.rows.map Row.d)), .d (stD (curA s k))]), 6⟩
def sLoop (s : Sys) (n : Nat) (S0 : S) : Prop := loopS 0 (fun Q t => evW Try.prog 34 0 false sBody Q t) (blockQ 0 (thenQ (fun t => evW Try.prog 34 0 false (.seq (.reg [mv 33 6, sg 4 33]) .ret) (endW Try.prog [.tmp 4] (stagesR s n)) t) (endW Try.prog [.tmp 4] (stagesR s n)))) S0
theorem sLoop_c (s : Sys) (hc : checkF s = true) (n : Nat) (hn : (n : Int) ≤ s.vars) (S0 : S) (h0 : SLe 0 S0 (sSt s n 0)) : sLoop s n S0 := by
  obtain ⟨v1, v5, r10, hall⟩ := check_rows hc
  unfold sLoop
  refine loop_fam (sSt s n) (fun k => k ≤ n ∧ (curE s k).isSome = true) (fun k => n - k) 0 ⟨Nat.zero_le _, rfl⟩ h0 (fun k hk => ?_)
  obtain ⟨cur, hcur⟩ := Option.isSome_iff_exists.1 hk.2
  have hA : curA s k = cur := by simp [curA, hcur]
  obtain ⟨hok, h200⟩ := curE_ok hc hcur
  simp only [sBody]
  simp +contextual only [go_sem, Int.reduceBEq, Int.reduceBNe, Int.reduceLT, Int.reduceLE, Int.reduceEq, Int.reduceNe, List.range_zero, Option.isSome_some, Nat.reducePow, and_self, List.cons.injEq, Nat.reduceEqDiff, Nat.reduceAdd, Nat.reduceSub, Nat.reduceMul, Nat.reduceLeDiff, Nat.reduceBEq, Nat.reduceLT, reduceIte, reduceCtorEq]
  refine cond_intro (fun h2 => ?_) (fun h2 => ?_)
  · simp at h2
    simp +contextual only [go_sem, Int.reduceBEq, Int.reduceBNe, Int.reduceLT, Int.reduceLE, Int.reduceEq, Int.reduceNe, List.range_zero, Option.isSome_some, Nat.reducePow, and_self, List.cons.injEq, Nat.reduceEqDiff, Nat.reduceAdd, Nat.reduceSub, Nat.reduceMul, Nat.reduceLeDiff, Nat.reduceBEq, Nat.reduceLT, reduceIte, reduceCtorEq, hA, stD]
    refine callR_heap (eliminate_c s cur k hok (by omega) (by omega) r10 rfl (by omega) 4 _ ?_ _ ?_ _ _ ?_)
    · repeat (first | rfl | rw [upd_same] | rw [upd_ne _ _ _ _ (by omega)])
    · exact ((Good.nil (nx := 11)).upd (by omega) rfl).upd (by omega) rfl
    have hcs : curE s (k + 1) = elimE s k cur := by simp only [curE, hcur, Option.bind_some]
    cases he : elimE s k cur with
    | none =>
      intro o1 nx1 m1 m2 m3
      have hno : curE s n = none := by
        have := curE_none (hcs.trans he) (n - (k + 1))
        rwa [show k + 1 + (n - (k + 1)) = n by omega] at this
      simp +contextual only [go_sem, Int.reduceBEq, Int.reduceBNe, Int.reduceLT, Int.reduceLE, Int.reduceEq, Int.reduceNe, List.range_zero, Option.isSome_some, Nat.reducePow, and_self, List.cons.injEq, Nat.reduceEqDiff, Nat.reduceAdd, Nat.reduceSub, Nat.reduceMul, Nat.reduceLeDiff, Nat.reduceBEq, Nat.reduceLT, reduceIte, reduceCtorEq, stagesR, hno]
    | some out =>
      intro o1 nx1 z m1 m2 m3 m4 m5
      have hA1 : curA s (k + 1) = out := by simp [curA, hcs, he]
      have m5' : o1 5 = .arr 0 34 1 (stagesD s k) := by
        rcases m3 5 (by omega) (by omega) with h | h
        · rw [h, upd_ne _ _ _ _ (by omega), upd_same]
        · rw [upd_ne _ _ _ _ (by omega), upd_same] at h; cases h
      have hll : (stagesD s k).length = k + 1 := by simp [stagesD]
      have h8f : (stagesD s k).length ≤ 140737488355327 := by omega
      have h8g : ((stagesD s k).length + 1) * 24 ≤ 140737488355328 := by omega
      have q0 : 4 ≠ nx1 := by omega
      have q1 : ∀ k, 4 ≠ nx1 + k := fun k => by omega
      have q2 : 5 ≠ nx1 := by omega
      have q3 : ∀ k, 5 ≠ nx1 + k := fun k => by omega
      have q4 := Ne.symm q0
      have q5 : ∀ k, nx1 + k ≠ 4 := fun k => by omega
      have q6 := Ne.symm q2
      have q7 : ∀ k, nx1 + k ≠ 5 := fun k => by omega
      have hst : stagesD s (k + 1) = stagesD s k ++ [stD out] := by
        simp only [stagesD]
        rw [List.range_succ, List.map_append, List.map_cons, List.map_nil, hA1]
      rcases m5 with ⟨rfl, c2, c3⟩ | ⟨zi, ep, c1, rfl, c3⟩
      · have hout : out = [] := by simpa using c2
        subst hout
        simp +contextual only [go_sem, Int.reduceBEq, Int.reduceBNe, Int.reduceLT, Int.reduceLE, Int.reduceEq, Int.reduceNe, List.range_zero, Option.isSome_some, Nat.reducePow, and_self, List.cons.injEq, Nat.reduceEqDiff, Nat.reduceAdd, Nat.reduceSub, Nat.reduceMul, Nat.reduceLeDiff, Nat.reduceBEq, Nat.reduceLT, reduceIte, reduceCtorEq, m4, m5', Nat.add_assoc, Nat.left_eq_add, Nat.add_eq_left, Nat.add_left_cancel_iff, h8f, h8g, q0, q1, q2, q3, q4, q5, q6, q7, if_true, if_false]
        refine nextS_intro (k + 1) ⟨by omega, by rw [hcs, he]; rfl⟩ (by omega) ?_
        simp only [sSt]
        refine SLe.convD (fun j => 5 ≤ j) _ (.osl 5 1) 4 [.d (.i s.vars), .d (.sl (s.rows.map Row.d)), .nils] _ (by omega) (by omega) (by omega) Good.nil (fun j k1 k2 => by omega) (fun j k1 k2 => .inr rfl) ?_ (convL_d (convL_d (convL_c ?_ (by simp [V.ids]) convL_nil))) (.inr ⟨5, 1, by omega, rfl, ?_⟩) ?_
        · rw [upd_ne _ _ _ _ (by omega), upd_ne _ _ _ _ (by omega), m4]
        · simp [toD, stD, hA1]
        · rw [upd_same, hst]; rfl
        · repeat (first | exact convE_nil | refine convE_junk ?_ | refine convE_x rfl ?_ | refine convE_d rfl ?_ | refine convE_d (d_int (wrapN (by omega))) ?_ | refine convE_v rfl (by simp [V.refs] <;> omega) ?_)
      · have hzn : zi < nx1 := m2.lt (by rw [c3]; exact Obj'.noConfusion)
        have r0 : zi ≠ 4 := by omega
        have r1 : zi ≠ 5 := by omega
        have r2 : zi ≠ nx1 := by omega
        have r3 : ∀ k, zi ≠ nx1 + k := fun k => by omega
        have r4 := Ne.symm r0
        have r5 := Ne.symm r1
        have r6 := Ne.symm r2
        have r7 : ∀ k, nx1 + k ≠ zi := fun k => by omega
        simp +contextual only [go_sem, Int.reduceBEq, Int.reduceBNe, Int.reduceLT, Int.reduceLE, Int.reduceEq, Int.reduceNe, List.range_zero, Option.isSome_some, Nat.reducePow, and_self, List.cons.injEq, Nat.reduceEqDiff, Nat.reduceAdd, Nat.reduceSub, Nat.reduceMul, Nat.reduceLeDiff, Nat.reduceBEq, Nat.reduceLT, reduceIte, reduceCtorEq, m4, m5', c3, Nat.add_assoc, Nat.left_eq_add, Nat.add_eq_left, Nat.add_left_cancel_iff, h8f, h8g, q0, q1, q2, q3, q4, q5, q6, q7, r0, r1, r2, r3, r4, r5, r6, r7, if_true, if_false]
        refine nextS_intro (k + 1) ⟨by omega, by rw [hcs, he]; rfl⟩ (by omega) ?_
        simp only [sSt]
        refine SLe.convD (fun j => 5 ≤ j) _ (.osl 5 1) 4 [.d (.i s.vars), .d (.sl (s.rows.map Row.d)), .osl zi ep] _ (by omega) (by omega) (by omega) Good.nil (fun j k1 k2 => by omega) (fun j k1 k2 => .inr rfl) ?_ (convL_d (convL_d (convL_c ?_ ?_ convL_nil))) (.inr ⟨5, 1, by omega, rfl, ?_⟩) ?_
        · rw [upd_ne _ _ _ _ (by omega), upd_ne _ _ _ _ (by omega), upd_ne _ _ _ _ (by omega), m4]
        · simp only [toD]
          rw [upd_ne _ _ _ _ (by omega), upd_ne _ _ _ _ (by omega), upd_same]
          simp [stD, hA1]
        · intro r hr
          simp [V.ids] at hr
          subst hr
          refine ⟨by omega, fun e h => ?_⟩
          injection h with h; omega
        · rw [upd_same, hst]; rfl
        · repeat (first | exact convE_nil | refine convE_junk ?_ | refine convE_x rfl ?_ | refine convE_d rfl ?_ | refine convE_d (d_int (wrapN (by omega))) ?_ | refine convE_v rfl (by simp [V.refs] <;> omega) ?_)
  · simp +contextual only [go_sem, Int.reduceBEq, Int.reduceBNe, Int.reduceLT, Int.reduceLE, Int.reduceEq, Int.reduceNe, List.range_zero, Option.isSome_some, Nat.reducePow, and_self, List.cons.injEq, Nat.reduceEqDiff, Nat.reduceAdd, Nat.reduceSub, Nat.reduceMul, Nat.reduceLeDiff, Nat.reduceBEq, Nat.reduceLT, reduceIte, reduceCtorEq]
    simp at h2
    have hkn : k = n := by omega
    subst hkn
    simp only [stagesR, hcur]
theorem stages_c (s : Sys) (hc : checkF s = true) (n : Nat) (hn : (n : Int) ≤ s.vars) : PCt Try.prog 62 [s.d, .i n] (stagesR s n) := by
  obtain ⟨v1, v5, r10, hall⟩ := check_rows hc
  refine PCt.of_ev mix fn62 (by simp) ?_
  rw [c62]
  simp +contextual only [go_sem, Int.reduceBEq, Int.reduceBNe, Int.reduceLT, Int.reduceLE, Int.reduceEq, Int.reduceNe, List.range_zero, Option.isSome_some, Nat.reducePow, and_self, List.cons.injEq, Nat.reduceEqDiff, Nat.reduceAdd, Nat.reduceSub, Nat.reduceMul, Nat.reduceLeDiff, Nat.reduceBEq, Nat.reduceLT, reduceIte, reduceCtorEq]
  refine callR_heap (begin_c s hc _ _ ?_ _ ?_ _ _ (fun o1 nx1 z m1 m2 m3 m4 m5 => ?_))
  · simp +contextual only [go_sem, Int.reduceBEq, Int.reduceBNe, Int.reduceLT, Int.reduceLE, Int.reduceEq, Int.reduceNe, List.range_zero, Option.isSome_some, Nat.reducePow, and_self, List.cons.injEq, Nat.reduceEqDiff, Nat.reduceAdd, Nat.reduceSub, Nat.reduceMul, Nat.reduceLeDiff, Nat.reduceBEq, Nat.reduceLT, reduceIte, reduceCtorEq]
  · exact (Good.upd (Good.upd (Good.nil (nx := 7)) (by omega) rfl) (by omega) rfl)
  have hloop : ∀ S0, SLe 0 S0 (sSt s n 0) → sLoop s n S0 := sLoop_c s hc n hn
  have hb0 : curA s 0 = beginL s s.rows.length := rfl
  rcases m5 with ⟨rfl, c2, c3⟩ | ⟨zi, ep, c1, rfl, c3⟩
  · simp +contextual only [go_sem, Int.reduceBEq, Int.reduceBNe, Int.reduceLT, Int.reduceLE, Int.reduceEq, Int.reduceNe, List.range_zero, Option.isSome_some, Nat.reducePow, and_self, List.cons.injEq, Nat.reduceEqDiff, Nat.reduceAdd, Nat.reduceSub, Nat.reduceMul, Nat.reduceLeDiff, Nat.reduceBEq, Nat.reduceLT, reduceIte, reduceCtorEq, m4, Nat.add_assoc, Nat.left_eq_add, Nat.add_eq_left, Nat.add_left_cancel_iff]
    refine hloop _ ?_
    simp only [sSt]
    refine SLe.convD (fun j => 5 ≤ j) _ (.osl (nx1 + 4) 0) 4 [.d (.i s.vars), .d (.sl (s.rows.map Row.d)), .nils] _ (by omega) (by omega) (by omega) Good.nil (fun j k1 k2 => by omega) (fun j k1 k2 => .inr rfl) ?_ (convL_d (convL_d (convL_c ?_ (by simp [V.ids]) convL_nil))) (.inr ⟨nx1 + 4, 0, by omega, rfl, ?_⟩) ?_
    · rw [upd_ne _ _ _ _ (by omega), m4]
    · have : beginL s s.rows.length = [] := by simpa using c2
      simp [toD, stD, hb0, this]
    · have : beginL s s.rows.length = [] := by simpa using c2
      rw [upd_same]; simp [stagesD, hb0, this, stD]
    · repeat (first | exact convE_nil | refine convE_junk ?_ | refine convE_x rfl ?_ | refine convE_d rfl ?_ | refine convE_d (d_int (wrapN (by omega))) ?_ | refine convE_v rfl (by simp [V.refs] <;> omega) ?_)
  · have hzn : zi < nx1 := m2.lt (by rw [c3]; exact Obj'.noConfusion)
    simp +contextual only [go_sem, Int.reduceBEq, Int.reduceBNe, Int.reduceLT, Int.reduceLE, Int.reduceEq, Int.reduceNe, List.range_zero, Option.isSome_some, Nat.reducePow, and_self, List.cons.injEq, Nat.reduceEqDiff, Nat.reduceAdd, Nat.reduceSub, Nat.reduceMul, Nat.reduceLeDiff, Nat.reduceBEq, Nat.reduceLT, reduceIte, reduceCtorEq, m4, c3, Nat.add_assoc, Nat.left_eq_add, Nat.add_eq_left, Nat.add_left_cancel_iff]
    refine hloop _ ?_
    simp only [sSt]
    refine SLe.convD (fun j => 5 ≤ j) _ (.osl (nx1 + 4) 0) 4 [.d (.i s.vars), .d (.sl (s.rows.map Row.d)), .osl zi ep] _ (by omega) (by omega) (by omega) Good.nil (fun j k1 k2 => by omega) (fun j k1 k2 => .inr rfl) ?_ (convL_d (convL_d (convL_c ?_ ?_ convL_nil))) (.inr ⟨nx1 + 4, 0, by omega, rfl, ?_⟩) ?_
    · rw [upd_ne _ _ _ _ (by omega), upd_ne _ _ _ _ (by omega), m4]
    · simp only [toD]
      rw [upd_ne _ _ _ _ (by omega), upd_same]
      simp [stD, hb0]
    · intro r hr
      simp [V.ids] at hr
      subst hr
      refine ⟨by omega, fun e h => ?_⟩
      injection h with h; omega
    · rw [upd_same]; simp [stagesD, hb0, stD]
    · repeat (first | exact convE_nil | refine convE_junk ?_ | refine convE_x rfl ?_ | refine convE_d rfl ?_ | refine convE_d (d_int (wrapN (by omega))) ?_ | refine convE_v rfl (by simp [V.refs] <;> omega) ?_)
end Go.Proofs.Ytaafchgfibbmhaa
namespace Go.Proofs.Ytaafchgfibbmhaa
section
variable {P : Program}
def recE (P : Program) (n t t1 : Nat) (ic : IC) (caps : List V) (u : V) (o : Nat → Obj') (nx : Nat) (K : (Nat → Obj') → Nat → Prop) : Prop :=
  caps.length ≤ n ∧ evW P n nx true ic (recQ K) ⟨upd (upd (argsEnv caps) t u) t1 u, o, nx⟩
def defEndE (P : Program) (n t t1 : Nat) (ic : IC) (caps : List V) (rs : List ResultVar) (K X : V → (Nat → Obj') → Nat → Prop) (e : Xit) (s : S) : Prop :=
  match e with
  | .normal | .ret => recE P n t t1 ic caps (.d .nili) s.o s.nx fun o nx => endG P rs K X .ret ⟨s.env, o, nx⟩
  | .pan v => recE P n t t1 ic caps v s.o s.nx fun o nx => endG P rs K X .ret ⟨s.env, o, nx⟩
  | .exit _ => False
def defBegE (P : Program) (n t : Nat) (icb : IC) (capo : List Operand) (g : FuncId) (D : List V → Xit → S → Prop) (e : Xit) (s : S) : Prop :=
  match e with
  | .normal => evW P n s.nx false icb (D (capo.map s.ev)) ⟨upd s.env t (.func (.func g) [] (capo.map s.ev)), s.o, s.nx⟩
  | _ => False
variable {n t t1 : Nat} {ic icb : IC} {caps : List V} {rs : List ResultVar} {K X : V → (Nat → Obj') → Nat → Prop} {s : S} {v : V} {capo : List Operand} {g : FuncId} {D : List V → Xit → S → Prop} {KR : (Nat → Obj') → Nat → Prop}
@[go_sem ↓] theorem defEndE_normal : defEndE P n t t1 ic caps rs K X .normal s = recE P n t t1 ic caps (.d .nili) s.o s.nx fun o nx => endG P rs K X .ret ⟨s.env, o, nx⟩ := propext Iff.rfl
@[go_sem ↓] theorem defEndE_ret : defEndE P n t t1 ic caps rs K X .ret s = recE P n t t1 ic caps (.d .nili) s.o s.nx fun o nx => endG P rs K X .ret ⟨s.env, o, nx⟩ := propext Iff.rfl
@[go_sem ↓] theorem defEndE_pan : defEndE P n t t1 ic caps rs K X (.pan v) s = recE P n t t1 ic caps v s.o s.nx fun o nx => endG P rs K X .ret ⟨s.env, o, nx⟩ := propext Iff.rfl
@[go_sem ↓] theorem defBegE_normal : defBegE P n t icb capo g D .normal s = evW P n s.nx false icb (D (capo.map s.ev)) ⟨upd s.env t (.func (.func g) [] (capo.map s.ev)), s.o, s.nx⟩ := propext Iff.rfl
@[go_sem ↓] theorem recQ_normal : recQ KR .normal s = KR s.o s.nx := propext Iff.rfl
@[go_sem ↓] theorem recQ_ret : recQ KR .ret s = KR s.o s.nx := propext Iff.rfl
theorem recE.w {o : Nat → Obj'} {nx : Nat} {K K' : (Nat → Obj') → Nat → Prop} (hK : ∀ o nx, K o nx → K' o nx) (h : recE P n t t1 ic caps v o nx K) : recW P n t t1 ic caps v o nx K' := by
  refine ⟨h.1, evW_icW ic _ _ _ (fun e s h => ?_) h.2⟩
  unfold recQ at h ⊢
  cases e with
  | normal => exact hK _ _ h
  | ret => exact hK _ _ h
  | _ => exact h
theorem CtK.of_deferE (hmix : P.follows .mixedOrders = true) {f g : FuncId} {ica icb icg : IC} {t m r r1 : Nat} {capo : List Operand} {rs : List ResultVar} (hf : DefIs P f n ica icb g t capo rs) (hg : RecIs P g m r r1 icg)
    {args : List V} {o : Nat → Obj'} {nx : Nat} {K X : V → (Nat → Obj') → Nat → Prop} (hl : args.length ≤ n)
    (h : evW P n nx true ica (defBegE P n t icb capo g fun caps => defEndE P m r r1 icg caps rs K X) ⟨argsEnv args, o, nx⟩) : CtK P f args o nx K X := by
  refine CtK.of_defer hmix hf hg hl (evW_icW ica _ _ _ (fun e s h => ?_) h)
  unfold defBegE at h
  unfold defBegin
  cases e with
  | normal =>
    refine evW_icW icb _ _ _ (fun e s h => ?_) h
    unfold defEndE at h
    unfold defEnd
    cases e with
    | normal => exact recE.w (fun _ _ h => by unfold endG at h; exact h) h
    | ret => exact recE.w (fun _ _ h => by unfold endG at h; exact h) h
    | pan v => exact recE.w (fun _ _ h => by unfold endG at h; exact h) h
    | exit _ => exact h
  | _ => exact h
end
attribute [irreducible] recE
theorem recE_intro {P : Program} {n t t1 : Nat} {ic : IC} {caps : List V} {v : V} {o : Nat → Obj'} {nx : Nat} {K : (Nat → Obj') → Nat → Prop} (h1 : caps.length ≤ n) (h2 : evW P n nx true ic (recQ K) ⟨upd (upd (argsEnv caps) t v) t1 v, o, nx⟩) : recE P n t t1 ic caps v o nx K := by
  unfold recE
  exact ⟨h1, h2⟩
end Go.Proofs.Ytaafchgfibbmhaa
namespace Go.Proofs.Ytaafchgfibbmhaa
theorem eqNil {o : Nat → Obj'} : eqV Try.prog o 20 true (.d .nili) (.d .nili) = some (.d (.bool true)) := by kernel_rfl
theorem eqToo {o : Nat → Obj'} : eqV Try.prog o 20 true (.d tooD) (.d .nili) = some (.d (.bool false)) := by kernel_rfl
theorem asTooD : assertF Try.prog 119 true (.d tooD) = some (.tup [.d (.agg []), .d (.bool true)]) := by kernel_rfl
theorem opS_assert {X : V → S → Prop} {K : S → Prop} {d : Nat} {x : Operand} {s : S} (h : s.ev x = .d tooD) : opS Try.prog X K ⟨some d, .typeAssert x 20 119 true, none⟩ s = K ⟨upd s.env d (.tup [.d (.agg []), .d (.bool true)]), s.o, s.nx + 1⟩ := by
  rw [opS_op rfl]
  have : sopF Try.prog s s.nx (.typeAssert x 20 119 true) = some (.tup [.d (.agg []), .d (.bool true)], [], []) := by
    show oneM (assertF Try.prog 119 true (s.ev x)) = _
    rw [h, asTooD]; rfl
  rw [this, bindO_some]; rfl
theorem notV_b (b : Bool) : notV (.d (.bool b)) = some (.d (.bool (!b))) := rfl
theorem attempt_c (g : FuncId) (caps : List V) (o : Nat → Obj') (nx : Nat) (K X : V → (Nat → Obj') → Nat → Prop)
    (h : CtK Try.prog g caps (upd o nx (.row [.d (.i 0)])) (nx + 2)
      (fun _ o1 n1 => o1 nx = .row [.d (.i 0)] ∧ nx < n1 ∧ ∀ o2 n2, n1 ≤ n2 → (∀ j, j < n1 → j ≠ nx → o2 j = o1 j) → K (.d (.i 0)) o2 n2)
      (fun v o1 n1 => v = .d tooD ∧ o1 nx = .row [.d (.i 0)] ∧ nx < n1 ∧ ∀ o2 n2, n1 ≤ n2 → (∀ j, j < n1 → j ≠ nx → o2 j = o1 j) → K (.d (.i 3)) o2 n2)) :
    CtK Try.prog 59 [.func (.func g) [] caps] o nx K X := by
  refine CtK.of_deferE mix def59 rec88 (by simp) ?_
  rw [c59a, c59]
  simp +contextual only [go_sem, Int.reduceBEq, Int.reduceBNe, Int.reduceLT, Int.reduceLE, Int.reduceEq, Int.reduceNe, List.range_zero, Option.isSome_some, Nat.reducePow, and_self, List.cons.injEq, Nat.reduceEqDiff, Nat.reduceAdd, Nat.reduceSub, Nat.reduceMul, Nat.reduceLeDiff, Nat.reduceBEq, Nat.reduceLT, reduceIte, reduceCtorEq]
  refine callS'_heap (CtK.mono (fun y o1 n1 hh => ?_) (fun v o1 n1 hh => ?_) h)
  · obtain ⟨h1, h2, h3⟩ := hh
    simp +contextual only [go_sem, Int.reduceBEq, Int.reduceBNe, Int.reduceLT, Int.reduceLE, Int.reduceEq, Int.reduceNe, List.range_zero, Option.isSome_some, Nat.reducePow, and_self, List.cons.injEq, Nat.reduceEqDiff, Nat.reduceAdd, Nat.reduceSub, Nat.reduceMul, Nat.reduceLeDiff, Nat.reduceBEq, Nat.reduceLT, reduceIte, reduceCtorEq, h1]
    refine recE_intro (by simp) ?_
    rw [c88]
    simp +contextual only [go_sem, Int.reduceBEq, Int.reduceBNe, Int.reduceLT, Int.reduceLE, Int.reduceEq, Int.reduceNe, List.range_zero, Option.isSome_some, Nat.reducePow, and_self, List.cons.injEq, Nat.reduceEqDiff, Nat.reduceAdd, Nat.reduceSub, Nat.reduceMul, Nat.reduceLeDiff, Nat.reduceBEq, Nat.reduceLT, reduceIte, reduceCtorEq, h1, eqNil, notV_b]
    exact h3 _ _ (by omega) (fun j k1 k2 => upd_ne _ _ _ _ k2)
  · obtain ⟨rfl, h1, h2, h3⟩ := hh
    simp +contextual only [go_sem, Int.reduceBEq, Int.reduceBNe, Int.reduceLT, Int.reduceLE, Int.reduceEq, Int.reduceNe, List.range_zero, Option.isSome_some, Nat.reducePow, and_self, List.cons.injEq, Nat.reduceEqDiff, Nat.reduceAdd, Nat.reduceSub, Nat.reduceMul, Nat.reduceLeDiff, Nat.reduceBEq, Nat.reduceLT, reduceIte, reduceCtorEq, h1]
    refine recE_intro (by simp) ?_
    rw [c88]
    have w : ∀ k, nx ≠ n1 + k := fun k => by omega
    simp +contextual only [go_sem, Int.reduceBEq, Int.reduceBNe, Int.reduceLT, Int.reduceLE, Int.reduceEq, Int.reduceNe, List.range_zero, Option.isSome_some, Nat.reducePow, and_self, List.cons.injEq, Nat.reduceEqDiff, Nat.reduceAdd, Nat.reduceSub, Nat.reduceMul, Nat.reduceLeDiff, Nat.reduceBEq, Nat.reduceLT, reduceIte, reduceCtorEq, h1, eqToo, notV_b, ↓opS_assert, Nat.add_assoc, Nat.left_eq_add, Nat.add_eq_left, Nat.add_left_cancel_iff, w]
    refine h3 _ _ (by omega) (fun j k1 k2 => ?_)
    rw [upd_ne _ _ _ _ k2, upd_ne _ _ _ _ (by omega), upd_ne _ _ _ _ (by omega)]
end Go.Proofs.Ytaafchgfibbmhaa
namespace Go.Proofs.Ytaafchgfibbmhaa
end Go.Proofs.Ytaafchgfibbmhaa
namespace Go.Proofs.Ytaafchgfibbmhaa
def emptyR (r : Row) : Bool := r.c.all (fun n => n == 0)
@[reducible] def oneRow (cs : List V) : Nat → Obj' := upd (fun _ => .no) 0 (.row cs)
theorem oneRow_good {cs : List V} (h : (Obj'.row cs).refs.all (fun r => decide (r < 1)) = true) : Good (oneRow cs) 1 := (Good.nil (nx := 1)).upd (by omega) h
theorem empty'_c (r : Row) (hl : r.c.length ≤ 1000) : PCt Try.prog 92 [r.d] (.ret [.bool (emptyR r)]) := by
  refine PCt.of_ev mix fn92 (by simp) ?_
  rw [c92]
  simp +contextual only [go_sem, Int.reduceBEq, Int.reduceBNe, Int.reduceLT, Int.reduceLE, Int.reduceEq, Int.reduceNe, List.range_zero, Option.isSome_some, Nat.reducePow, and_self, List.cons.injEq, Nat.reduceEqDiff, Nat.reduceAdd, Nat.reduceSub, Nat.reduceMul, Nat.reduceLeDiff, Nat.reduceBEq, Nat.reduceLT, reduceIte, reduceCtorEq, Row.d]
  refine loop_fam (fun k : Nat => ⟨envJ [.junk, .ptr 0 0, .junk, .d (.i k)], oneRow [.d (.sl (r.c.map .i)), .d (.i r.rel), .d (.i r.b)], 1⟩)
    (fun k => k ≤ r.c.length ∧ (r.c.take k).all (fun n => n == 0) = true) (fun k => r.c.length - k) 0 ⟨Nat.zero_le _, by simp⟩ (SLe.d1 _ (oneRow_good rfl) (by omega) rfl ?_) (fun k hk => ?_)
  · refine backE_junk (backE_v rfl (by simp [V.refs]) ?_)
    (repeat (first | exact backE_nil | refine backE_junk ?_ | refine backE_d rfl ?_ | refine backE_d (d_int (wrapN (by omega))) ?_))
  simp +contextual only [go_sem, Int.reduceBEq, Int.reduceBNe, Int.reduceLT, Int.reduceLE, Int.reduceEq, Int.reduceNe, List.range_zero, Option.isSome_some, Nat.reducePow, and_self, List.cons.injEq, Nat.reduceEqDiff, Nat.reduceAdd, Nat.reduceSub, Nat.reduceMul, Nat.reduceLeDiff, Nat.reduceBEq, Nat.reduceLT, reduceIte, reduceCtorEq]
  refine cond_intro (fun h2 => ?_) (fun h2 => ?_)
  · simp at h2
    obtain ⟨n, hn⟩ : ∃ n, r.c[k]? = some n := ⟨r.c[k], by simp [h2]⟩
    simp +contextual only [go_sem, Int.reduceBEq, Int.reduceBNe, Int.reduceLT, Int.reduceLE, Int.reduceEq, Int.reduceNe, List.range_zero, Option.isSome_some, Nat.reducePow, and_self, List.cons.injEq, Nat.reduceEqDiff, Nat.reduceAdd, Nat.reduceSub, Nat.reduceMul, Nat.reduceLeDiff, Nat.reduceBEq, Nat.reduceLT, reduceIte, reduceCtorEq, hn, D.i]
    refine cond_intro (fun h3 => ?_) (fun h3 => ?_)
    · simp +contextual only [go_sem, Int.reduceBEq, Int.reduceBNe, Int.reduceLT, Int.reduceLE, Int.reduceEq, Int.reduceNe, List.range_zero, Option.isSome_some, Nat.reducePow, and_self, List.cons.injEq, Nat.reduceEqDiff, Nat.reduceAdd, Nat.reduceSub, Nat.reduceMul, Nat.reduceLeDiff, Nat.reduceBEq, Nat.reduceLT, reduceIte, reduceCtorEq]
      have : emptyR r = false := by
        simp only [emptyR, List.all_eq_false]
        exact ⟨n, List.mem_of_getElem? hn, by simpa using h3⟩
      rw [this]
    · simp +contextual only [go_sem, Int.reduceBEq, Int.reduceBNe, Int.reduceLT, Int.reduceLE, Int.reduceEq, Int.reduceNe, List.range_zero, Option.isSome_some, Nat.reducePow, and_self, List.cons.injEq, Nat.reduceEqDiff, Nat.reduceAdd, Nat.reduceSub, Nat.reduceMul, Nat.reduceLeDiff, Nat.reduceBEq, Nat.reduceLT, reduceIte, reduceCtorEq]
      have hz : n = 0 := by simpa using h3
      refine nextS_intro (k + 1) ⟨h2, ?_⟩ (by omega) (SLe.d1 _ (oneRow_good rfl) (by omega) rfl ?_)
      · rw [List.take_add_one, hn, List.all_append, hk.2]; simp [hz]
      · refine backE_junk (backE_v rfl (by simp [V.refs]) ?_)
        (repeat (first | exact backE_nil | refine backE_junk ?_ | refine backE_d rfl ?_ | refine backE_d (d_int (wrapN (by omega))) ?_))
  · simp +contextual only [go_sem, Int.reduceBEq, Int.reduceBNe, Int.reduceLT, Int.reduceLE, Int.reduceEq, Int.reduceNe, List.range_zero, Option.isSome_some, Nat.reducePow, and_self, List.cons.injEq, Nat.reduceEqDiff, Nat.reduceAdd, Nat.reduceSub, Nat.reduceMul, Nat.reduceLeDiff, Nat.reduceBEq, Nat.reduceLT, reduceIte, reduceCtorEq]
    simp at h2
    have h3 := hk.2
    rw [List.take_of_length_le (by omega)] at h3
    rw [emptyR, h3]
theorem true'_c (r : Row) : PCt Try.prog 93 [r.d] (.ret [.bool (relF 0 r.rel r.b)]) := by
  refine PCt.of_ev mix fn93 (by simp) ?_
  rw [c93]
  simp +contextual only [go_sem, Int.reduceBEq, Int.reduceBNe, Int.reduceLT, Int.reduceLE, Int.reduceEq, Int.reduceNe, List.range_zero, Option.isSome_some, Nat.reducePow, and_self, List.cons.injEq, Nat.reduceEqDiff, Nat.reduceAdd, Nat.reduceSub, Nat.reduceMul, Nat.reduceLeDiff, Nat.reduceBEq, Nat.reduceLT, reduceIte, reduceCtorEq, Row.d]
  refine call_keep (related'_c 0 r.rel r.b) rfl ?_
  simp +contextual only [go_sem, Int.reduceBEq, Int.reduceBNe, Int.reduceLT, Int.reduceLE, Int.reduceEq, Int.reduceNe, List.range_zero, Option.isSome_some, Nat.reducePow, and_self, List.cons.injEq, Nat.reduceEqDiff, Nat.reduceAdd, Nat.reduceSub, Nat.reduceMul, Nat.reduceLeDiff, Nat.reduceBEq, Nat.reduceLT, reduceIte, reduceCtorEq]
theorem gcdL_snoc (l : List Int) (n : Int) : gcdL (l ++ [n]) = Nat.gcd (gcdL l) n.natAbs := by simp [gcdL]
theorem gcdL_cons_le (l : List Int) (hb : ∀ n ∈ l, n.natAbs ≤ 9223372036854775807) : gcdL l ≤ 9223372036854775807 := by
  have key : ∀ (l : List Int) (g : Nat), g ≤ 9223372036854775807 → (∀ n ∈ l, n.natAbs ≤ 9223372036854775807) → l.foldl (fun g n => Nat.gcd g n.natAbs) g ≤ 9223372036854775807 := by
    intro l
    induction l with
    | nil => intro g hg _; exact hg
    | cons n l ih =>
      intro g hg hn
      refine ih _ ?_ (fun x hx => hn x (by simp [hx]))
      rcases Nat.eq_zero_or_pos g with h0 | h0
      · subst h0; simp only [Nat.gcd_zero_left]; exact hn n (by simp)
      · exact Nat.le_trans (Nat.gcd_le_left _ h0) hg
  exact key l 0 (by omega) hb
theorem redM_div {m : Made} (h : gcdM m ≠ 0) : redM m = ⟨⟨divs m.r.c (gcdM m), m.r.rel, m.r.b.tdiv (gcdM m)⟩, divs m.t (gcdM m)⟩ := by
  unfold redM
  split
  · rfl
  · have h1 : gcdM m = 1 := by omega
    rw [h1]
    have : ∀ l : List Int, divs l ((1 : Nat) : Int) = l := fun l => by
      simp [divs]
    rw [this, this]
    simp
theorem redM_zero {m : Made} (h : gcdM m = 0) : redM m = m := by rw [redM, if_neg (by omega)]
@[reducible] def redO (m : Made) : Nat → Obj' := upd (upd (fun _ => .no) 0 (.row [.d (.sl (m.r.c.map .i)), .d (.i m.r.rel), .d (.i m.r.b), .d (.sl (m.t.map .i))])) 1 (.row [.nils, .d (.i 0), .d (.i 0), .nils])
theorem redO_good (m : Made) : Good (redO m) 2 := ((Good.nil (nx := 2)).upd (by omega) rfl).upd (by omega) rfl
theorem reduced'_c (m : Made) (hm : m.Num) : PCt Try.prog 94 [m.d] (.ret [(redM m).d]) := by
  have hlc := hm.lc
  have hlt := hm.lt
  refine PCt.of_ev mix fn94 (by simp) ?_
  rw [c94]
  simp +contextual only [go_sem, Int.reduceBEq, Int.reduceBNe, Int.reduceLT, Int.reduceLE, Int.reduceEq, Int.reduceNe, List.range_zero, Option.isSome_some, Nat.reducePow, and_self, List.cons.injEq, Nat.reduceEqDiff, Nat.reduceAdd, Nat.reduceSub, Nat.reduceMul, Nat.reduceLeDiff, Nat.reduceBEq, Nat.reduceLT, reduceIte, reduceCtorEq, Made.d, Row.d]
  refine call_keep (gcd_c _ _ hm.b (by omega)) rfl ?_
  simp +contextual only [go_sem, Int.reduceBEq, Int.reduceBNe, Int.reduceLT, Int.reduceLE, Int.reduceEq, Int.reduceNe, List.range_zero, Option.isSome_some, Nat.reducePow, and_self, List.cons.injEq, Nat.reduceEqDiff, Nat.reduceAdd, Nat.reduceSub, Nat.reduceMul, Nat.reduceLeDiff, Nat.reduceBEq, Nat.reduceLT, reduceIte, reduceCtorEq, Made.d, Row.d]
  refine loop_fam (fun k : Nat => ⟨envJ [.junk, .ptr 0 0, .ptr 1 0, .d (.i (gcdL (m.r.b :: m.r.c.take k))), .d (.i k)], redO m, 2⟩)
    (fun k => k ≤ m.r.c.length) (fun k => m.r.c.length - k) 0 (Nat.zero_le _) (SLe.backL _ (by omega) (by omega) (redO_good m) (fun _ _ => rfl) ?_) (fun k hk => ?_)
  · refine backE_junk (backE_v rfl (by simp [V.refs]) (backE_v rfl (by simp [V.refs]) (backE_d (d_int ?_) (backE_d rfl backE_nil))))
    simp [gcdL, Int.gcd]
  simp +contextual only [go_sem, Int.reduceBEq, Int.reduceBNe, Int.reduceLT, Int.reduceLE, Int.reduceEq, Int.reduceNe, List.range_zero, Option.isSome_some, Nat.reducePow, and_self, List.cons.injEq, Nat.reduceEqDiff, Nat.reduceAdd, Nat.reduceSub, Nat.reduceMul, Nat.reduceLeDiff, Nat.reduceBEq, Nat.reduceLT, reduceIte, reduceCtorEq]
  refine cond_intro (fun h2 => ?_) (fun h2 => ?_)
  · simp at h2
    obtain ⟨n, hn⟩ : ∃ n, m.r.c[k]? = some n := ⟨m.r.c[k], by simp [h2]⟩
    have hnb := hm.c n (List.mem_of_getElem? hn)
    have hgb : gcdL (m.r.b :: m.r.c.take k) ≤ 9223372036854775807 := gcdL_cons_le _ (fun x hx => by
      rcases List.mem_cons.1 hx with rfl | hx
      · have := hm.b; omega
      · have := hm.c x (List.mem_of_mem_take hx); omega)
    simp +contextual only [go_sem, Int.reduceBEq, Int.reduceBNe, Int.reduceLT, Int.reduceLE, Int.reduceEq, Int.reduceNe, List.range_zero, Option.isSome_some, Nat.reducePow, and_self, List.cons.injEq, Nat.reduceEqDiff, Nat.reduceAdd, Nat.reduceSub, Nat.reduceMul, Nat.reduceLeDiff, Nat.reduceBEq, Nat.reduceLT, reduceIte, reduceCtorEq, hn, D.i]
    refine call_keep (gcd_c _ _ (by omega) hnb) rfl ?_
    simp +contextual only [go_sem, Int.reduceBEq, Int.reduceBNe, Int.reduceLT, Int.reduceLE, Int.reduceEq, Int.reduceNe, List.range_zero, Option.isSome_some, Nat.reducePow, and_self, List.cons.injEq, Nat.reduceEqDiff, Nat.reduceAdd, Nat.reduceSub, Nat.reduceMul, Nat.reduceLeDiff, Nat.reduceBEq, Nat.reduceLT, reduceIte, reduceCtorEq]
    refine nextS_intro (k + 1) h2 (by omega) (SLe.backL _ (by omega) (by omega) (redO_good m) (fun _ _ => rfl) ?_)
    refine backE_junk (backE_v rfl (by simp [V.refs]) (backE_v rfl (by simp [V.refs]) (backE_d (d_int ?_) (backE_d (d_int (wrapN (by omega))) backE_nil))))
    rw [List.take_add_one, hn, Option.toList_some, ← List.cons_append, gcdL_snoc]; rfl
  simp +contextual only [go_sem, Int.reduceBEq, Int.reduceBNe, Int.reduceLT, Int.reduceLE, Int.reduceEq, Int.reduceNe, List.range_zero, Option.isSome_some, Nat.reducePow, and_self, List.cons.injEq, Nat.reduceEqDiff, Nat.reduceAdd, Nat.reduceSub, Nat.reduceMul, Nat.reduceLeDiff, Nat.reduceBEq, Nat.reduceLT, reduceIte, reduceCtorEq]
  simp at h2
  rw [List.take_of_length_le h2]
  refine loop_fam (fun k : Nat => ⟨envJ [.junk, .ptr 0 0, .ptr 1 0, .d (.i (gcdL (m.r.b :: (m.r.c ++ m.t.take k)))), .junk, .d (.i k)], redO m, 2⟩)
    (fun k => k ≤ m.t.length) (fun k => m.t.length - k) 0 (Nat.zero_le _) (SLe.backL _ (by omega) (by omega) (redO_good m) (fun _ _ => rfl) ?_) (fun k hk => ?_)
  · refine backE_junk (backE_v rfl (by simp [V.refs]) (backE_v rfl (by simp [V.refs]) (backE_d (d_int ?_) (backE_junk (backE_d rfl backE_nil)))))
    simp
  simp +contextual only [go_sem, Int.reduceBEq, Int.reduceBNe, Int.reduceLT, Int.reduceLE, Int.reduceEq, Int.reduceNe, List.range_zero, Option.isSome_some, Nat.reducePow, and_self, List.cons.injEq, Nat.reduceEqDiff, Nat.reduceAdd, Nat.reduceSub, Nat.reduceMul, Nat.reduceLeDiff, Nat.reduceBEq, Nat.reduceLT, reduceIte, reduceCtorEq]
  refine cond_intro (fun h2 => ?_) (fun h2 => ?_)
  · simp at h2
    obtain ⟨n, hn⟩ : ∃ n, m.t[k]? = some n := ⟨m.t[k], by simp [h2]⟩
    have hnb := hm.t n (List.mem_of_getElem? hn)
    have hgb : gcdL (m.r.b :: (m.r.c ++ m.t.take k)) ≤ 9223372036854775807 := gcdL_cons_le _ (fun x hx => by
      rcases List.mem_cons.1 hx with rfl | hx
      · have := hm.b; omega
      · rcases List.mem_append.1 hx with hx | hx
        · have := hm.c x hx; omega
        · have := hm.t x (List.mem_of_mem_take hx); omega)
    simp +contextual only [go_sem, Int.reduceBEq, Int.reduceBNe, Int.reduceLT, Int.reduceLE, Int.reduceEq, Int.reduceNe, List.range_zero, Option.isSome_some, Nat.reducePow, and_self, List.cons.injEq, Nat.reduceEqDiff, Nat.reduceAdd, Nat.reduceSub, Nat.reduceMul, Nat.reduceLeDiff, Nat.reduceBEq, Nat.reduceLT, reduceIte, reduceCtorEq, hn, D.i]
    refine call_keep (gcd_c _ _ (by omega) hnb) rfl ?_
    simp +contextual only [go_sem, Int.reduceBEq, Int.reduceBNe, Int.reduceLT, Int.reduceLE, Int.reduceEq, Int.reduceNe, List.range_zero, Option.isSome_some, Nat.reducePow, and_self, List.cons.injEq, Nat.reduceEqDiff, Nat.reduceAdd, Nat.reduceSub, Nat.reduceMul, Nat.reduceLeDiff, Nat.reduceBEq, Nat.reduceLT, reduceIte, reduceCtorEq]
    refine nextS_intro (k + 1) h2 (by omega) (SLe.backL _ (by omega) (by omega) (redO_good m) (fun _ _ => rfl) ?_)
    refine backE_junk (backE_v rfl (by simp [V.refs]) (backE_v rfl (by simp [V.refs]) (backE_d (d_int ?_) (backE_junk (backE_d (d_int (wrapN (by omega))) backE_nil)))))
    have := gcdL_snoc (m.r.b :: (m.r.c ++ m.t.take k)) n
    rw [List.take_add_one, hn, Option.toList_some, ← List.append_assoc, show gcdL (m.r.b :: (m.r.c ++ m.t.take k ++ [n])) = _ from this]; rfl
  simp +contextual only [go_sem, Int.reduceBEq, Int.reduceBNe, Int.reduceLT, Int.reduceLE, Int.reduceEq, Int.reduceNe, List.range_zero, Option.isSome_some, Nat.reducePow, and_self, List.cons.injEq, Nat.reduceEqDiff, Nat.reduceAdd, Nat.reduceSub, Nat.reduceMul, Nat.reduceLeDiff, Nat.reduceBEq, Nat.reduceLT, reduceIte, reduceCtorEq]
  simp at h2
  rw [List.take_of_length_le h2]
  have hG : gcdL (m.r.b :: (m.r.c ++ m.t)) = gcdM m := rfl
  rw [hG]
  refine cond_intro (fun h3 => ?_) (fun h3 => ?_)
  · have h0 : gcdM m = 0 := by simpa using h3
    simp +contextual only [go_sem, Int.reduceBEq, Int.reduceBNe, Int.reduceLT, Int.reduceLE, Int.reduceEq, Int.reduceNe, List.range_zero, Option.isSome_some, Nat.reducePow, and_self, List.cons.injEq, Nat.reduceEqDiff, Nat.reduceAdd, Nat.reduceSub, Nat.reduceMul, Nat.reduceLeDiff, Nat.reduceBEq, Nat.reduceLT, reduceIte, reduceCtorEq]
    rw [redM_zero h0]
  have h0 : gcdM m ≠ 0 := by simpa using h3
  have hg0 : ¬ ((gcdM m : Int) = 0) := by omega
  have hg1 : (1 : Int) ≤ gcdM m := by omega
  simp +contextual only [go_sem, Int.reduceBEq, Int.reduceBNe, Int.reduceLT, Int.reduceLE, Int.reduceEq, Int.reduceNe, List.range_zero, Option.isSome_some, Nat.reducePow, and_self, List.cons.injEq, Nat.reduceEqDiff, Nat.reduceAdd, Nat.reduceSub, Nat.reduceMul, Nat.reduceLeDiff, Nat.reduceBEq, Nat.reduceLT, reduceIte, reduceCtorEq, hg0, if_false]
  refine end_intro (by decide) ?_
  have htd := tdiv_small hm.b hg1
  rw [wrap64 (n := m.r.b.tdiv (gcdM m)) (by omega) (by omega)]
  simp +contextual only [go_sem, Int.reduceBEq, Int.reduceBNe, Int.reduceLT, Int.reduceLE, Int.reduceEq, Int.reduceNe, List.range_zero, Option.isSome_some, Nat.reducePow, and_self, List.cons.injEq, Nat.reduceEqDiff, Nat.reduceAdd, Nat.reduceSub, Nat.reduceMul, Nat.reduceLeDiff, Nat.reduceBEq, Nat.reduceLT, reduceIte, reduceCtorEq, hg0, if_false]
  have hlen : ∀ (l : List Int) k, l.length ≤ 1000 → (divs (l.take k) (gcdM m)).length ≤ 1000 := fun l k h => by simp [divs]; omega
  refine loop_fam (fun k : Nat => ⟨envJ [.junk, .ptr 0 0, .ptr 1 0, .d (.i (gcdM m)), .junk, .junk, .ptr 19 0, .d (.i k)], upd (upd (redO m) 20 (.arr 0 3 1 ((divs (m.r.c.take k) (gcdM m)).map .i))) 19 (.row [.osl 20 0, .d (.i m.r.rel), .d (.i (m.r.b.tdiv (gcdM m))), .nils]), 20 + 1⟩)
    (fun k => k ≤ m.r.c.length) (fun k => m.r.c.length - k) 0 (Nat.zero_le _) (SLe.conv _ .nils 19 _ _ (by omega) (by omega) (by omega) ((redO_good m).mono (by omega)) (fun j h1 h2 => ?_) (upd_same _ _ _) (convL_x (convL_d (convL_d (convL_v (by simp [V.refs]) convL_nil)))) (.inl ⟨rfl, by simp [divs], by decide⟩) ?_) (fun k hk => ?_)
  · rw [upd_ne _ _ _ _ h2, upd_ne _ _ _ _ h2]
  · repeat (first | exact convE_nil | refine convE_junk ?_ | refine convE_x rfl ?_ | refine convE_d rfl ?_ | refine convE_d (d_int (wrapN (by omega))) ?_ | refine convE_v rfl (by simp [V.refs] <;> omega) ?_)
  simp +contextual only [go_sem, Int.reduceBEq, Int.reduceBNe, Int.reduceLT, Int.reduceLE, Int.reduceEq, Int.reduceNe, List.range_zero, Option.isSome_some, Nat.reducePow, and_self, List.cons.injEq, Nat.reduceEqDiff, Nat.reduceAdd, Nat.reduceSub, Nat.reduceMul, Nat.reduceLeDiff, Nat.reduceBEq, Nat.reduceLT, reduceIte, reduceCtorEq]
  refine cond_intro (fun h2 => ?_) (fun h2 => ?_)
  · simp at h2
    obtain ⟨n, hn⟩ : ∃ n, m.r.c[k]? = some n := ⟨m.r.c[k], by simp [h2]⟩
    have hnb := hm.c n (List.mem_of_getElem? hn)
    have hl := hlen m.r.c k hlc
    have h8f : (divs (m.r.c.take k) (gcdM m)).length ≤ 140737488355327 := by omega
    have h8g : ((divs (m.r.c.take k) (gcdM m)).length + 1) * 8 ≤ 140737488355328 := by omega
    simp +contextual only [go_sem, Int.reduceBEq, Int.reduceBNe, Int.reduceLT, Int.reduceLE, Int.reduceEq, Int.reduceNe, List.range_zero, Option.isSome_some, Nat.reducePow, and_self, List.cons.injEq, Nat.reduceEqDiff, Nat.reduceAdd, Nat.reduceSub, Nat.reduceMul, Nat.reduceLeDiff, Nat.reduceBEq, Nat.reduceLT, reduceIte, reduceCtorEq, hn, D.i, hg0, if_false, if_true, h8f, h8g]
    refine end_intro (by decide) ?_
    simp +contextual only [go_sem, Int.reduceBEq, Int.reduceBNe, Int.reduceLT, Int.reduceLE, Int.reduceEq, Int.reduceNe, List.range_zero, Option.isSome_some, Nat.reducePow, and_self, List.cons.injEq, Nat.reduceEqDiff, Nat.reduceAdd, Nat.reduceSub, Nat.reduceMul, Nat.reduceLeDiff, Nat.reduceBEq, Nat.reduceLT, reduceIte, reduceCtorEq]
    have hstep : (divs (m.r.c.take k) (gcdM m)).map D.i ++ [D.i (n.tdiv (gcdM m))] = (divs (m.r.c.take (k + 1)) (gcdM m)).map D.i := by
      rw [List.take_add_one, hn]; simp [divs]
    have htn := tdiv_small hnb hg1
    rw [wrap64 (n := n.tdiv (gcdM m)) (by omega) (by omega), hstep]
    refine nextS_intro (k + 1) h2 (by omega) (SLe.conv _ (.osl 20 1) 19 [.osl 20 1, .d (.i m.r.rel), .d (.i (m.r.b.tdiv (gcdM m))), .nils] _ (by omega) (by omega) (by omega) ((redO_good m).mono (by omega)) (fun j h1 h2 => ?_) (upd_same _ _ _) (convL_x (convL_d (convL_d (convL_v (by simp [V.refs]) convL_nil)))) (.inr ⟨20, 1, by omega, rfl, ?_⟩) ?_)
    · repeat (first | rfl | rw [upd_same] | rw [upd_ne _ _ _ _ (by omega)])
    · repeat (first | rfl | rw [upd_same] | rw [upd_ne _ _ _ _ (by omega)])
    · repeat (first | exact convE_nil | refine convE_junk ?_ | refine convE_x rfl ?_ | refine convE_d rfl ?_ | refine convE_d (d_int (wrapN (by omega))) ?_ | refine convE_v rfl (by simp [V.refs] <;> omega) ?_)
  simp +contextual only [go_sem, Int.reduceBEq, Int.reduceBNe, Int.reduceLT, Int.reduceLE, Int.reduceEq, Int.reduceNe, List.range_zero, Option.isSome_some, Nat.reducePow, and_self, List.cons.injEq, Nat.reduceEqDiff, Nat.reduceAdd, Nat.reduceSub, Nat.reduceMul, Nat.reduceLeDiff, Nat.reduceBEq, Nat.reduceLT, reduceIte, reduceCtorEq]
  simp at h2
  rw [List.take_of_length_le h2]
  refine loop_fam (fun k : Nat => ⟨envJ [.junk, .ptr 0 0, .ptr 1 0, .d (.i (gcdM m)), .junk, .junk, .ptr 19 0, .junk, .d (.i k)], upd (upd (redO m) 20 (.arr 0 3 1 ((divs (m.t.take k) (gcdM m)).map .i))) 19 (.row [.d (.sl ((divs m.r.c (gcdM m)).map .i)), .d (.i m.r.rel), .d (.i (m.r.b.tdiv (gcdM m))), .osl 20 0]), 20 + 1⟩)
    (fun k => k ≤ m.t.length) (fun k => m.t.length - k) 0 (Nat.zero_le _) (SLe.conv _ .nils 19 [.osl 20 0, .d (.i m.r.rel), .d (.i (m.r.b.tdiv (gcdM m))), .nils] _ (by omega) (by omega) (by omega) ((redO_good m).mono (by omega)) (fun j h1 h2 => ?_) (upd_same _ _ _) (convL_c ?_ (by simp [V.ids]) (convL_d (convL_d (convL_x convL_nil)))) (.inl ⟨rfl, by simp [divs], by decide⟩) ?_) (fun k hk => ?_)
  · repeat (first | rfl | rw [upd_same] | rw [upd_ne _ _ _ _ (by omega)])
  · simp only [toD]
    rw [upd_ne _ _ _ _ (by omega), upd_same]
    simp
  · repeat (first | exact convE_nil | refine convE_junk ?_ | refine convE_x rfl ?_ | refine convE_d rfl ?_ | refine convE_d (d_int (wrapN (by omega))) ?_ | refine convE_v rfl (by simp [V.refs] <;> omega) ?_)
  simp +contextual only [go_sem, Int.reduceBEq, Int.reduceBNe, Int.reduceLT, Int.reduceLE, Int.reduceEq, Int.reduceNe, List.range_zero, Option.isSome_some, Nat.reducePow, and_self, List.cons.injEq, Nat.reduceEqDiff, Nat.reduceAdd, Nat.reduceSub, Nat.reduceMul, Nat.reduceLeDiff, Nat.reduceBEq, Nat.reduceLT, reduceIte, reduceCtorEq]
  refine cond_intro (fun h2 => ?_) (fun h2 => ?_)
  · simp at h2
    obtain ⟨n, hn⟩ : ∃ n, m.t[k]? = some n := ⟨m.t[k], by simp [h2]⟩
    have hnb := hm.t n (List.mem_of_getElem? hn)
    have hl := hlen m.t k hlt
    have h8f : (divs (m.t.take k) (gcdM m)).length ≤ 140737488355327 := by omega
    have h8g : ((divs (m.t.take k) (gcdM m)).length + 1) * 8 ≤ 140737488355328 := by omega
    simp +contextual only [go_sem, Int.reduceBEq, Int.reduceBNe, Int.reduceLT, Int.reduceLE, Int.reduceEq, Int.reduceNe, List.range_zero, Option.isSome_some, Nat.reducePow, and_self, List.cons.injEq, Nat.reduceEqDiff, Nat.reduceAdd, Nat.reduceSub, Nat.reduceMul, Nat.reduceLeDiff, Nat.reduceBEq, Nat.reduceLT, reduceIte, reduceCtorEq, hn, D.i, hg0, if_false, if_true, h8f, h8g]
    refine end_intro (by decide) ?_
    simp +contextual only [go_sem, Int.reduceBEq, Int.reduceBNe, Int.reduceLT, Int.reduceLE, Int.reduceEq, Int.reduceNe, List.range_zero, Option.isSome_some, Nat.reducePow, and_self, List.cons.injEq, Nat.reduceEqDiff, Nat.reduceAdd, Nat.reduceSub, Nat.reduceMul, Nat.reduceLeDiff, Nat.reduceBEq, Nat.reduceLT, reduceIte, reduceCtorEq]
    have hstep : (divs (m.t.take k) (gcdM m)).map D.i ++ [D.i (n.tdiv (gcdM m))] = (divs (m.t.take (k + 1)) (gcdM m)).map D.i := by
      rw [List.take_add_one, hn]; simp [divs]
    have htn := tdiv_small hnb hg1
    rw [wrap64 (n := n.tdiv (gcdM m)) (by omega) (by omega), hstep]
    refine nextS_intro (k + 1) h2 (by omega) (SLe.conv _ (.osl 20 1) 19 [.d (.sl ((divs m.r.c (gcdM m)).map .i)), .d (.i m.r.rel), .d (.i (m.r.b.tdiv (gcdM m))), .osl 20 1] _ (by omega) (by omega) (by omega) ((redO_good m).mono (by omega)) (fun j h1 h2 => ?_) (upd_same _ _ _) (convL_d (convL_d (convL_d (convL_x convL_nil)))) (.inr ⟨20, 1, by omega, rfl, ?_⟩) ?_)
    · repeat (first | rfl | rw [upd_same] | rw [upd_ne _ _ _ _ (by omega)])
    · repeat (first | rfl | rw [upd_same] | rw [upd_ne _ _ _ _ (by omega)])
    · repeat (first | exact convE_nil | refine convE_junk ?_ | refine convE_x rfl ?_ | refine convE_d rfl ?_ | refine convE_d (d_int (wrapN (by omega))) ?_ | refine convE_v rfl (by simp [V.refs] <;> omega) ?_)
  simp +contextual only [go_sem, Int.reduceBEq, Int.reduceBNe, Int.reduceLT, Int.reduceLE, Int.reduceEq, Int.reduceNe, List.range_zero, Option.isSome_some, Nat.reducePow, and_self, List.cons.injEq, Nat.reduceEqDiff, Nat.reduceAdd, Nat.reduceSub, Nat.reduceMul, Nat.reduceLeDiff, Nat.reduceBEq, Nat.reduceLT, reduceIte, reduceCtorEq]
  simp at h2
  rw [List.take_of_length_le h2]
  rw [redM_div h0]
end Go.Proofs.Ytaafchgfibbmhaa
