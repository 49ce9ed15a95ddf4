/-
  A PART OF THE PROOF (put together by program): several texts, one behind the other. Conditions: none.
-/
import Derived.Test.YtaafchgfibbmhaaPk31
set_option linter.unusedSimpArgs false
set_option linter.unusedVariables false
namespace Go.Proofs.Ytaafchgfibbmhaa
def zeroL (v : Nat) (l : List Made) : List Made := l.filter (fun m => m.r.c.getD v 0 == 0)
def rawE (s : Sys) (v : Nat) (l : List Made) : Option (List Made) :=
  match l.findIdx? (usesF v) with
  | some at' => match l[at']? with
    | some e => useL s l e v at' l.length
    | none => none
  | none => outP s v l (zeroL v l) l.length
def elimE (s : Sys) (v : Nat) (l : List Made) : Option (List Made) := (rawE s v l).bind fun out => if 200 < out.length then none else some (keepK out out.length).2
def elimPost (s : Sys) (o : Nat → Obj') (nx id : Nat) (r : Option (List Made)) (K X : V → (Nat → Obj') → Nat → Prop) : Prop :=
  match r with
  | some out => ∀ o' nx' z, nx ≤ nx' → Good o' nx' → (∀ j, j < nx → j ≠ id → o' j = o j ∨ o j = .no) → o' id = .row [.d (.i s.vars), .d (.sl (s.rows.map Row.d)), z] → Grows o' nx 47 4 (out.map Made.d) z → K (.tup []) o' nx'
  | none => ∀ o' nx', nx ≤ nx' → Good o' nx' → (∀ j, j < nx → j ≠ id → o' j = o j ∨ o j = .no) → X (.d tooD) o' nx'
theorem Grows.upd_row {so : Nat → Obj'} {c : Nat} {ty : TypeId} {sz : Nat} {es : List D} {x : V} {r : Nat} {cs : List V} {y : Obj'} (h : Grows so c ty sz es x) (hr : so r = .row cs) : Grows (upd so r y) c ty sz es x := by
  rcases h with h | ⟨i, ep, h1, h2, h3⟩
  · exact .inl h
  · refine .inr ⟨i, ep, h1, h2, ?_⟩
    rw [upd_ne _ _ _ _ (fun e => by subst e; rw [hr] at h3; cases h3)]
    exact h3
theorem Grows.toG {so : Nat → Obj'} {c : Nat} {ty : TypeId} {sz : Nat} {es : List D} {x : V} (h : Grows so c ty sz es x) (gone : Nat → Prop) (hg : ∀ j, c ≤ j → gone j) : GrowsG so gone ty sz es x := by
  rcases h with h | ⟨i, ep, h1, h2, h3⟩
  · exact .inl h
  · exact .inr ⟨i, ep, hg i h1, h2, h3⟩
structure ElimInv (s : Sys) (v : Nat) (l : List Made) (id nx r0 : Nat) (o : Nat → Obj') (st : S) (out : List Made) (z : V) : Prop where
  raw : rawE s v l = some out
  e2 : st.env 2 = .ptr nx 0
  e5 : st.env 5 = .ptr r0 0
  good : Good st.o st.nx
  le : nx ≤ st.nx
  same : ∀ j, j < nx → st.o j = o j ∨ o j = .no
  box : st.o nx = .row [.ptr id 0]
  row : st.o r0 = .row [z]
  grows : GrowsG st.o (fun j => j < nx → o j = .no) 47 4 (out.map Made.d) z
theorem sumM_ok {s : Sys} {a : Int} {m : Made} {b : Int} {n : Made} {nv nr : Nat} (hm : m.Ok nv nr) (hn : n.Ok nv nr) (h : bigOk (sumM s a m b n) = true) : (sumM s a m b n).Ok nv nr := by
  refine Made.ok_of_big ?_ ?_ h
  · rw [sumM, redM_lc]; simp only [rawSum]; rw [comb_length (by rw [hm.lc, hn.lc]), hm.lc]
  · rw [sumM, redM_lt]; simp only [rawSum]; rw [comb_length (by rw [hm.lt, hn.lt]), hm.lt]
theorem useOne_ok {s : Sys} {e : Made} {v at' i : Nat} {m : Made} {nv nr : Nat} (he : e.Ok nv nr) (hm : m.Ok nv nr) {out : List Made} (h : useOne s e v at' i m = some out) : ∀ x ∈ out, x.Ok nv nr := by
  unfold useOne at h
  dsimp only at h
  split at h
  · injection h with h; subst h; intro x hx; cases hx
  · split at h
    · injection h with h; subst h; intro x hx; simp at hx; subst hx; exact hm
    · have key : ∀ x, (if bigOk x = true then some [x] else none) = some out → (bigOk x = true → x.Ok nv nr) → ∀ y ∈ out, y.Ok nv nr := by
        intro x h hx
        split at h
        · rename_i hb
          injection h with h; subst h; intro y hy; simp only [List.mem_singleton] at hy; subst hy; exact hx hb
        · cases h
      by_cases hc : 0 < e.r.c.getD v 0
      · simp only [if_pos hc] at h; exact key _ h (sumM_ok hm he)
      · simp only [if_neg hc] at h; exact key _ h (sumM_ok hm he)
theorem useL_ok {s : Sys} {l : List Made} {e : Made} {v at' : Nat} {nv nr : Nat} (he : e.Ok nv nr) (hl : ∀ m ∈ l, m.Ok nv nr) : ∀ {k : Nat} {out : List Made}, useL s l e v at' k = some out → ∀ x ∈ out, x.Ok nv nr
  | 0, out, h => by simp [useL] at h; subst h; intro x hx; cases hx
  | k + 1, out, h => by
    simp only [useL] at h
    cases hi : useL s l e v at' k with
    | none => rw [hi] at h; cases h
    | some acc =>
      rw [hi] at h
      simp only [Option.bind_some] at h
      have ih := useL_ok he hl hi
      split at h
      · rename_i m hm
        cases ho : useOne s e v at' k m with
        | none => rw [ho] at h; cases h
        | some x =>
          rw [ho] at h
          simp at h; subst h
          intro y hy
          rcases List.mem_append.1 hy with hy | hy
          · exact ih y hy
          · exact useOne_ok he (hl m (List.mem_of_getElem? hm)) ho y hy
      · injection h with h; subst h; exact ih
theorem stepP_ok {s : Sys} {v : Nat} {acc acc2 : List Made} {a b : Made} {nv nr : Nat} (ha : a.Ok nv nr) (hb : b.Ok nv nr) (hacc : ∀ x ∈ acc, x.Ok nv nr) (h : stepP s v acc a b = some acc2) : ∀ x ∈ acc2, x.Ok nv nr := by
  unfold stepP at h
  split at h
  · cases hp : pairF s v a b with
    | none => rw [hp] at h; cases h
    | some x =>
      rw [hp] at h; simp at h; subst h
      intro y hy
      rcases List.mem_append.1 hy with hy | hy
      · exact hacc y hy
      · simp only [List.mem_singleton] at hy; subst hy
        unfold pairF at hp
        dsimp only at hp
        split at hp
        · rename_i hb2; injection hp with hp; subst hp; exact sumM_ok ha hb hb2
        · cases hp
  · injection h with h; subst h; exact hacc
theorem innP_ok {s : Sys} {v : Nat} {l : List Made} {a : Made} {acc : List Made} {nv nr : Nat} (ha : a.Ok nv nr) (hl : ∀ m ∈ l, m.Ok nv nr) (hacc : ∀ x ∈ acc, x.Ok nv nr) : ∀ {j : Nat} {acc2 : List Made}, innP s v l a acc j = some acc2 → ∀ x ∈ acc2, x.Ok nv nr
  | 0, acc2, h => by simp [innP] at h; subst h; exact hacc
  | j + 1, acc2, h => by
    simp only [innP] at h
    cases hi : innP s v l a acc j with
    | none => rw [hi] at h; cases h
    | some x =>
      rw [hi] at h
      have ih := innP_ok ha hl hacc hi
      simp only [Option.bind_some] at h
      split at h
      · rename_i b hb; exact stepP_ok ha (hl b (List.mem_of_getElem? hb)) ih h
      · injection h with h; subst h; exact ih
theorem outP_ok {s : Sys} {v : Nat} {l : List Made} {acc : List Made} {nv nr : Nat} (hl : ∀ m ∈ l, m.Ok nv nr) (hacc : ∀ x ∈ acc, x.Ok nv nr) : ∀ {i : Nat} {acc2 : List Made}, outP s v l acc i = some acc2 → ∀ x ∈ acc2, x.Ok nv nr
  | 0, acc2, h => by simp [outP] at h; subst h; exact hacc
  | i + 1, acc2, h => by
    simp only [outP] at h
    cases hi : outP s v l acc i with
    | none => rw [hi] at h; cases h
    | some x =>
      rw [hi] at h
      have ih := outP_ok hl hacc hi
      simp only [Option.bind_some] at h
      split at h
      · rename_i a ha; exact innP_ok (hl a (List.mem_of_getElem? ha)) hl ih h
      · injection h with h; subst h; exact ih
theorem rawE_ok {s : Sys} {v : Nat} {l out : List Made} {nv nr : Nat} (hl : ∀ m ∈ l, m.Ok nv nr) (h : rawE s v l = some out) : ∀ x ∈ out, x.Ok nv nr := by
  unfold rawE at h
  split at h
  · split at h
    · rename_i e he; exact useL_ok (hl e (List.mem_of_getElem? he)) hl h
    · cases h
  · exact outP_ok hl (fun x hx => hl x (List.mem_filter.1 hx).1) h
theorem keepK_sub (out : List Made) : ∀ k, ∀ x ∈ (keepK out k).2, x ∈ out
  | 0, x, h => by simp [keepK] at h
  | k + 1, x, h => by
    simp only [keepK] at h
    split at h
    · rename_i m hm
      dsimp only at h
      split at h
      · rcases List.mem_append.1 h with h | h
        · exact keepK_sub out k x h
        · simp only [List.mem_singleton] at h; subst h; exact List.mem_of_getElem? hm
      · exact keepK_sub out k x h
    · exact keepK_sub out k x h
theorem elimE_ok {s : Sys} {v : Nat} {l out : List Made} {nv nr : Nat} (hl : ∀ m ∈ l, m.Ok nv nr) (h : elimE s v l = some out) : (∀ x ∈ out, x.Ok nv nr) ∧ out.length ≤ 200 := by
  unfold elimE at h
  cases hr : rawE s v l with
  | none => rw [hr] at h; cases h
  | some raw =>
    rw [hr] at h
    simp only [Option.bind_some] at h
    split at h
    · cases h
    · injection h with h
      subst h
      exact ⟨fun x hx => rawE_ok hl hr x (keepK_sub _ _ x hx), by have := keepK_len raw raw.length; omega⟩
@[reducible] def tailC : IC := (.seq (.seq (.reg [ld 72 34 5,
 ln 73 72 34,
 bk .gtr 74 3 73 200 3]) (.cond (.tmp 74) (.reg [⟨(some 75), .build 119 #[], none⟩,
 ⟨(some 76), .makeInterface 119 (.tmp 75), none⟩,
 ⟨none, .panic (.tmp 76), none⟩]) .skip)) (.seq (.reg [⟨(some 77), .makeMap 147 none, none⟩,
 sg 10 77]) (.seq (.reg [ld 78 105 2,
 nc 79 78,
 fa 80 107 79 1,
 ⟨none, .store 34 (.tmp 80) (.const (.slice none 0 0)), none⟩]) (.seq (.reg [ld 81 34 5,
 ln 82 81 34,
 mvk 83 0]) (.block 4 (.loop (.seq (.reg [bo .lss 84 3 83 82 3]) (.seq (.cond (.tmp 84) .skip (.exit 4)) (.seq (.block 5 (.seq (.reg [ia 85 34 81 83,
 ld 86 47 85,
 al 12 47,
 st 47 12 86]) (.seq (.reg [fa 87 47 12 0,
 ld 88 45 87,
 k1 89 80 88 45,
 al 13 112,
 st 112 13 89]) (.seq (.seq (.reg [mv 90 10,
 ld 91 112 13,
 ⟨(some 92), .lookup 147 (.tmp 90) (.tmp 91) false, none⟩,
 nt 93 4 92,
 mv 94 93,
 gT (ld 95 112 13) 94,
 gT (k1 96 111 95 112) 94,
 gT (nt 97 4 96) 94,
 pkf 98 94 97]) (.cond (.tmp 98) (.drw [ld 99 105 2,
 ld 100 105 2,
 nc 101 100,
 fa 102 107 101 1,
 ld 103 34 102,
 ld 104 47 12,
 ⟨(some 105), .buildSlice 34 1 #[(0, .tmp 104)], none⟩,
 ⟨(some 106), .call { callee := .builtin .append, args := #[.tmp 103, .tmp 105], argTypes := #[34, 34] }, none⟩,
 nc 107 99,
 fa 108 107 107 1,
 st 34 108 106]
 [[], [], [1], [2], [3], [], [5], [4, 6], [0, 0, 1, 2, 3, 4, 5, 6, 7], [8, 0, 1, 2, 3, 4, 5, 6, 7], [9, 7, 7, 0, 1, 2, 3, 4, 5, 6, 7]]) .skip)) (.reg [mv 109 10,
 ld 110 112 13,
 ⟨none, .mapUpdate 147 (.tmp 109) (.tmp 110) (.const (.bool true)), none⟩]))))) (.reg [bk .add 111 3 83 1 3,
 mv 83 111]))))))))))
theorem elimTail (s : Sys) (l : List Made) (v : Nat) {nv nr : Nat} (hok : ∀ m ∈ l, m.Ok nv nr) (hnv : nv ≤ 5) (id : Nat) (o : Nat → Obj') (ho : o id = .row [.d (.i s.vars), .d (.sl (s.rows.map Row.d)), .d (.sl (l.map Made.d))]) (nx : Nat) (hid : id < nx) (K X : V → (Nat → Obj') → Nat → Prop)
    (hK : elimPost s o nx id (elimE s v l) K X) (r0 : Nat) (hr0 : nx < r0) (st : S) (out : List Made) (z : V) (hI : ElimInv s v l id nx r0 o st out z) : evW Try.prog 112 nx false tailC (endG Try.prog [] K X) st := by
  obtain ⟨e, so, m⟩ := st
  obtain ⟨hraw, t2, t5, hgood, hle, hsame, hbox, hrow, hgr⟩ := hI
  dsimp only at t2 t5 hgood hle hsame hbox hrow hgr
  have hel : elimE s v l = if 200 < out.length then none else some (keepK out out.length).2 := by rw [elimE, hraw]; rfl
  have hrok := rawE_ok hok hraw
  have oid : so id = .row [.d (.i s.vars), .d (.sl (s.rows.map Row.d)), .d (.sl (l.map Made.d))] := by
    rcases hsame id hid with h | h
    · rw [h, ho]
    · rw [ho] at h; cases h
  have hnm : nx < m := hgood.lt (by rw [hbox]; exact Obj'.noConfusion)
  have hrm : r0 < m := hgood.lt (by rw [hrow]; exact Obj'.noConfusion)
  have hmix : Try.prog.follows .mixedOrders = true := mix
  have w0 : id ≠ nx := by omega
  have w1 : id ≠ r0 := by omega
  have w2 : nx ≠ r0 := by omega
  have w3 : id ≠ m := by omega
  have w4 : ∀ k, id ≠ m + k := fun k => by omega
  have w5 : nx ≠ m := by omega
  have w6 : ∀ k, nx ≠ m + k := fun k => by omega
  have w7 : r0 ≠ m := by omega
  have w8 : ∀ k, r0 ≠ m + k := fun k => by omega
  have w9 := Ne.symm w0
  have x1 := Ne.symm w1
  have x2 := Ne.symm w2
  simp only [tailC]
  rcases hgr with ⟨rfl, g2, g3⟩ | ⟨jd, ep, g1, rfl, g3⟩
  · simp +contextual only [go_sem, Int.reduceBEq, Int.reduceBNe, Int.reduceLT, Int.reduceLE, Int.reduceEq, Int.reduceNe, List.range_zero, Option.isSome_some, Nat.reducePow, and_self, List.cons.injEq, Nat.reduceEqDiff, Nat.reduceAdd, Nat.reduceSub, Nat.reduceMul, Nat.reduceLeDiff, Nat.reduceBEq, Nat.reduceLT, reduceIte, reduceCtorEq, t2, t5, hrow, hbox, oid, Nat.add_assoc, Nat.left_eq_add, Nat.add_eq_left, Nat.add_left_cancel_iff, w0, w1, w2, w3, w4, w5, w6, w7, w8, w9, x1, x2]
    have hnil : out = [] := by simpa using g2
    subst hnil
    refine cond_intro (fun h2 => ?_) (fun h2 => ?_)
    · simp at h2
    · simp +contextual only [go_sem, Int.reduceBEq, Int.reduceBNe, Int.reduceLT, Int.reduceLE, Int.reduceEq, Int.reduceNe, List.range_zero, Option.isSome_some, Nat.reducePow, and_self, List.cons.injEq, Nat.reduceEqDiff, Nat.reduceAdd, Nat.reduceSub, Nat.reduceMul, Nat.reduceLeDiff, Nat.reduceBEq, Nat.reduceLT, reduceIte, reduceCtorEq, t2, t5, hrow, hbox, oid, Nat.add_assoc, Nat.left_eq_add, Nat.add_eq_left, Nat.add_left_cancel_iff, w0, w1, w2, w3, w4, w5, w6, w7, w8, w9, x1, x2, makeMapF, mapT147]
      have hB : Good (upd so (m + 3) (.map 112 4 [])) (m + 12) := (hgood.mono (by omega)).upd (by omega) rfl
      refine elimLoop s [] (by simp) (by simp) nx id (m + 3) (m + 12) nx (by omega) (upd so (m + 3) (.map 112 4 [])) hB ?_ (z0 := .d (.sl (l.map Made.d))) ?_ (l0 := []) ?_ K X (fun o' nx' z q1 q2 q3 q4 q5 => ?_) _ ?_
      · rw [upd_ne _ _ _ _ (by omega), hbox]
      · rw [upd_ne _ _ _ _ (by omega), oid]
      · exact upd_same _ _ _
      · rw [hel, if_neg (by simp)] at hK
        refine hK o' nx' z (by omega) q2 (fun j k1 k2 => ?_) q4 (q5.mono (by omega))
        have := q3 j (by omega) k2 (by omega)
        rw [this, upd_ne _ _ _ _ (by omega)]
        exact hsame j k1
      · simp only [eSt]
        refine SLe.convD (fun j => m + 12 ≤ j) _ .nils id [.d (.i s.vars), .d (.sl (s.rows.map Row.d)), .nils] _ (by omega) (by omega) (by omega) (hB.upd (x := .map 112 4 (metD (keepK [] 0).1)) (by omega) rfl) (fun j k1 k2 => by omega) (fun j k1 k2 => .inl ?_) (upd_same _ _ _) (convL_d (convL_d (convL_x convL_nil))) (.inl ⟨rfl, rfl, by decide⟩) ?_
        · rw [upd_ne _ _ _ _ k2, upd_upd]; rfl
        · repeat (first | exact convE_nil | refine convE_junk ?_ | refine convE_x rfl ?_ | refine convE_d rfl ?_ | refine convE_v rfl (by simp [V.refs] <;> omega) ?_ | refine convE_v t2 (by simp [V.refs] <;> omega) ?_ | refine convE_c rfl (by simp [V.ids]) ?_)
  · have j0 : jd ≠ nx := fun e => by subst e; rw [hbox] at g3; cases g3
    have j1 : jd ≠ r0 := fun e => by subst e; rw [hrow] at g3; cases g3
    have j2 : jd ≠ id := fun e => by subst e; rw [oid] at g3; cases g3
    have hjm : jd < m := hgood.lt (by rw [g3]; exact Obj'.noConfusion)
    have j5 : jd ≠ m := by omega
    have j6 : ∀ k, jd ≠ m + k := fun k => by omega
    simp +contextual only [go_sem, Int.reduceBEq, Int.reduceBNe, Int.reduceLT, Int.reduceLE, Int.reduceEq, Int.reduceNe, List.range_zero, Option.isSome_some, Nat.reducePow, and_self, List.cons.injEq, Nat.reduceEqDiff, Nat.reduceAdd, Nat.reduceSub, Nat.reduceMul, Nat.reduceLeDiff, Nat.reduceBEq, Nat.reduceLT, reduceIte, reduceCtorEq, t2, t5, hrow, hbox, oid, Nat.add_assoc, Nat.left_eq_add, Nat.add_eq_left, Nat.add_left_cancel_iff, w0, w1, w2, w3, w4, w5, w6, w7, w8, w9, x1, x2, g3, j0, j1, j2, j5, j6]
    refine cond_intro (fun h2 => ?_) (fun h2 => ?_)
    · simp +contextual only [go_sem, Int.reduceBEq, Int.reduceBNe, Int.reduceLT, Int.reduceLE, Int.reduceEq, Int.reduceNe, List.range_zero, Option.isSome_some, Nat.reducePow, and_self, List.cons.injEq, Nat.reduceEqDiff, Nat.reduceAdd, Nat.reduceSub, Nat.reduceMul, Nat.reduceLeDiff, Nat.reduceBEq, Nat.reduceLT, reduceIte, reduceCtorEq, t2, t5, hrow, hbox, oid, Nat.add_assoc, Nat.left_eq_add, Nat.add_eq_left, Nat.add_left_cancel_iff, w0, w1, w2, w3, w4, w5, w6, w7, w8, w9, x1, x2, g3, j0, j1, j2, j5, j6]
      simp at h2
      rw [hel, if_pos (by omega)] at hK
      exact hK _ _ (by omega) (hgood.mono (by omega)) (fun j q1 q2 => hsame j q1)
    · simp +contextual only [go_sem, Int.reduceBEq, Int.reduceBNe, Int.reduceLT, Int.reduceLE, Int.reduceEq, Int.reduceNe, List.range_zero, Option.isSome_some, Nat.reducePow, and_self, List.cons.injEq, Nat.reduceEqDiff, Nat.reduceAdd, Nat.reduceSub, Nat.reduceMul, Nat.reduceLeDiff, Nat.reduceBEq, Nat.reduceLT, reduceIte, reduceCtorEq, t2, t5, hrow, hbox, oid, Nat.add_assoc, Nat.left_eq_add, Nat.add_eq_left, Nat.add_left_cancel_iff, w0, w1, w2, w3, w4, w5, w6, w7, w8, w9, x1, x2, g3, j0, j1, j2, j5, j6, makeMapF, mapT147]
      simp at h2
      have hB : Good (upd (upd (upd so jd .no) r0 .no) (m + 3) (.map 112 4 [])) (m + 12) := (((hgood.mono (by omega)).upd (by omega) rfl).upd (by omega) rfl).upd (by omega) rfl
      refine elimLoop s out (by omega) (fun x hx => by have := (hrok x hx).lc; omega) nx id (m + 3) (m + 12) nx (by omega) (upd (upd (upd so jd .no) r0 .no) (m + 3) (.map 112 4 [])) hB ?_ (z0 := .d (.sl (l.map Made.d))) ?_ (l0 := []) ?_ K X (fun o' nx' z q1 q2 q3 q4 q5 => ?_) _ ?_
      · rw [upd_ne _ _ _ _ (by omega), upd_ne _ _ _ _ (by omega), upd_ne _ _ _ _ (by omega), hbox]
      · rw [upd_ne _ _ _ _ (by omega), upd_ne _ _ _ _ (by omega), upd_ne _ _ _ _ (by omega), oid]
      · exact upd_same _ _ _
      · rw [hel, if_neg (by omega)] at hK
        refine hK o' nx' z (by omega) q2 (fun j k1 k2 => ?_) q4 (q5.mono (by omega))
        have := q3 j (by omega) k2 (by omega)
        by_cases e : j = jd
        · subst e; exact .inr (g1 k1)
        · rw [this, upd_ne _ _ _ _ (by omega), upd_ne _ _ _ _ (by omega), upd_ne _ _ _ _ e]
          exact hsame j k1
      · simp only [eSt]
        refine SLe.convD (fun j => m + 12 ≤ j ∨ j = jd) _ .nils id [.d (.i s.vars), .d (.sl (s.rows.map Row.d)), .nils] _ (by omega) (by omega) (by omega) (hB.upd (x := .map 112 4 (metD (keepK out 0).1)) (by omega) rfl) (fun j k1 k2 => ?_) (fun j k1 k2 => ?_) (upd_same _ _ _) (convL_d (convL_d (convL_x convL_nil))) (.inl ⟨rfl, rfl, by decide⟩) ?_
        · have e : j = jd := by omega
          subst e
          refine ⟨by omega, ?_⟩
          rw [upd_ne _ _ _ _ (by omega), upd_ne _ _ _ _ (by omega), upd_ne _ _ _ _ (by omega), upd_same]
        · rw [upd_upd]
          by_cases e1 : j = jd
          · subst e1; right
            rw [upd_ne _ _ _ _ (by omega), upd_ne _ _ _ _ (by omega), upd_same]
          · by_cases e2 : j = r0
            · subst e2; right
              rw [upd_ne _ _ _ _ (by omega), upd_same]
            · left
              rw [upd_ne _ _ _ _ k2]
              by_cases e3 : j = m + 3
              · subst e3; rw [upd_same, upd_same]; rfl
              · rw [upd_ne _ _ _ _ e3, upd_ne _ _ _ _ e3, upd_ne _ _ _ _ e2, upd_ne _ _ _ _ e1]
        · have hdat : toD (upd (upd so (m + 3) (.map 112 4 [])) id (.row [.d (.i s.vars), .d (.sl (s.rows.map Row.d)), .nils])) (.osl jd ep) = some (.sl (out.map Made.d)) := by
            simp only [toD]
            rw [upd_ne _ _ _ _ (by omega), upd_ne _ _ _ _ (by omega), g3]
            simp
          repeat (first | exact convE_nil | refine convE_junk ?_ | refine convE_x rfl ?_ | refine convE_d rfl ?_ | refine convE_v rfl (by simp [V.refs] <;> omega) ?_ | refine convE_v t2 (by simp [V.refs] <;> omega) ?_ | refine convE_c hdat (by simp [V.ids]) ?_)
end Go.Proofs.Ytaafchgfibbmhaa
namespace Go.Proofs.Ytaafchgfibbmhaa
theorem eliminate_c (s : Sys) (l : List Made) (v : Nat) {nv nr : Nat} (hok : ∀ m ∈ l, m.Ok nv nr) (hv : v < nv) (hnv : nv ≤ 5) (hnr : nr ≤ 10) (hsr : s.rows.length = nr) (hl : l.length ≤ 1000)
    (id : Nat) (o : Nat → Obj') (ho : o id = .row [.d (.i s.vars), .d (.sl (s.rows.map Row.d)), .d (.sl (l.map Made.d))]) (nx : Nat) (hg : Good o nx) (K X : V → (Nat → Obj') → Nat → Prop)
    (hK : elimPost s o nx id (elimE s v l) K X) : CtK Try.prog 91 [.ptr id 0, .d (.i v)] o nx K X := by
  have hid : id < nx := hg.lt (by rw [ho]; exact Obj'.noConfusion)
  have hn0 : id ≠ nx := by omega
  have hn1 : ∀ k, id ≠ nx + k := fun k => by omega
  have hn2 : nx ≠ id := by omega
  have hn3 : ∀ k, nx + k ≠ id := fun k => by omega
  refine CtK.of_ev mix fn91 (by simp) ?_
  rw [c91]
  simp +contextual only [go_sem, Int.reduceBEq, Int.reduceBNe, Int.reduceLT, Int.reduceLE, Int.reduceEq, Int.reduceNe, List.range_zero, Option.isSome_some, Nat.reducePow, and_self, List.cons.injEq, Nat.reduceEqDiff, Nat.reduceAdd, Nat.reduceSub, Nat.reduceMul, Nat.reduceLeDiff, Nat.reduceBEq, Nat.reduceLT, reduceIte, reduceCtorEq, ho, Nat.add_assoc, Nat.left_eq_add, Nat.add_eq_left, Nat.add_left_cancel_iff, hn0, hn1, hn2, hn3]
  refine callR_heap (indexFunc113 l (usesF v) 114 [.ptr (nx + 1) 0] _ ?_ (by omega) (fun m hm => uses_c v m (by have := (hok m hm).lc; omega) _ _ ?_) _ ?_ _ _ fun o' nx' n1 n2 n3 => ?_)
  · intro r hr
    simp [V.refss, V.refs] at hr
    subst hr
    rw [upd_same]; exact Obj'.noConfusion
  · exact upd_same _ _ _
  · exact ((hg.mono (by omega)).upd (by omega) (by simp [Obj'.refs, V.refss, V.refs]; omega)).upd (by omega) rfl
  simp +contextual only [go_sem, Int.reduceBEq, Int.reduceBNe, Int.reduceLT, Int.reduceLE, Int.reduceEq, Int.reduceNe, List.range_zero, Option.isSome_some, Nat.reducePow, and_self, List.cons.injEq, Nat.reduceEqDiff, Nat.reduceAdd, Nat.reduceSub, Nat.reduceMul, Nat.reduceLeDiff, Nat.reduceBEq, Nat.reduceLT, reduceIte, reduceCtorEq, Nat.add_assoc, Nat.left_eq_add, Nat.add_eq_left, Nat.add_left_cancel_iff]
  have ob : o' nx = .row [.ptr id 0] := by rw [n3 _ (by omega), upd_ne _ _ _ _ (by omega), upd_same]
  have obv : o' (nx + 1) = .row [.d (.i v)] := by rw [n3 _ (by omega), upd_same]
  have oid : o' id = .row [.d (.i s.vars), .d (.sl (s.rows.map Row.d)), .d (.sl (l.map Made.d))] := by rw [n3 _ (by omega), upd_ne _ _ _ _ (by omega), upd_ne _ _ _ _ (by omega), ho]
  have b1 : nx ≠ nx' + 1 := by omega
  have b3 : nx + 1 ≠ nx' + 1 := by omega
  have b4 : id ≠ nx' + 1 := by omega
  have b5 : ∀ k, id ≠ nx' + k := fun k => by omega
  have b6 : ∀ k, nx ≠ nx' + k := fun k => by omega
  have b7 : ∀ k, nx + 1 ≠ nx' + k := fun k => by omega
  refine cond_join (fun st => ∃ out z, ElimInv s v l id nx (nx' + 1) o st out z) ?_ (fun Kt k1 k2 => cond_intro (fun h1 => ?_) (fun h1 => ?_))
  · rintro st ⟨out, z, hI⟩
    exact elimTail s l v hok hnv id o ho nx hid K X hK (nx' + 1) (by omega) st out z hI
  · obtain ⟨at', hat⟩ : ∃ at', l.findIdx? (usesF v) = some at' := by
      cases h : l.findIdx? (usesF v) with
      | none => simp [firstI, h] at h1
      | some at' => exact ⟨at', rfl⟩
    have hfi : firstI l (usesF v) = at' := by simp [firstI, hat]
    have hatl : at' < l.length := by
      rw [List.findIdx?_eq_some_iff_getElem] at hat
      exact hat.1
    obtain ⟨e, he⟩ : ∃ e, l[at']? = some e := ⟨l[at'], by simp [hatl]⟩
    have hraw : rawE s v l = useL s l e v at' l.length := by simp only [rawE, hat, he]
    simp +contextual only [go_sem, Int.reduceBEq, Int.reduceBNe, Int.reduceLT, Int.reduceLE, Int.reduceEq, Int.reduceNe, List.range_zero, Option.isSome_some, Nat.reducePow, and_self, List.cons.injEq, Nat.reduceEqDiff, Nat.reduceAdd, Nat.reduceSub, Nat.reduceMul, Nat.reduceLeDiff, Nat.reduceBEq, Nat.reduceLT, reduceIte, reduceCtorEq, ob, obv, Nat.add_assoc, Nat.left_eq_add, Nat.add_eq_left, Nat.add_left_cancel_iff, hfi, b1, b3]
    refine callR_heap (using_c s l e v at' he hok hv hnv hnr hsr hl id _ ?_ _ ?_ _ _ ?_)
    · rw [upd_ne _ _ _ _ (by omega), n3 _ (by omega), upd_ne _ _ _ _ (by omega), upd_ne _ _ _ _ (by omega), ho]
    · exact (n2.mono (by omega)).upd (by omega) rfl
    cases hu : useL s l e v at' l.length with
    | none =>
      intro o2 nx2 m1 m2 m3
      refine k2 _ _ ?_
      simp +contextual only [go_sem, Int.reduceBEq, Int.reduceBNe, Int.reduceLT, Int.reduceLE, Int.reduceEq, Int.reduceNe, List.range_zero, Option.isSome_some, Nat.reducePow, and_self, List.cons.injEq, Nat.reduceEqDiff, Nat.reduceAdd, Nat.reduceSub, Nat.reduceMul, Nat.reduceLeDiff, Nat.reduceBEq, Nat.reduceLT, reduceIte, reduceCtorEq]
      have hel : elimE s v l = none := by rw [elimE, hraw, hu]; rfl
      rw [hel] at hK
      refine hK _ _ (by omega) m2 (fun j g1 g2 => .inl ?_)
      rw [m3 _ (by omega), upd_ne _ _ _ _ (by omega), n3 _ (by omega), upd_ne _ _ _ _ (by omega), upd_ne _ _ _ _ (by omega)]
    | some out =>
      intro o2 nx2 z m1 m2 m3 m4
      have or0 : o2 (nx' + 1) = .row [.nils] := by rw [m3 _ (by omega), upd_same]
      have fin : ∀ st : S, st.env 2 = .ptr nx 0 → st.env 5 = .ptr (nx' + 1) 0 → st.o = upd o2 (nx' + 1) (.row [z]) → nx2 ≤ st.nx → (∀ r ∈ z.refs, r < nx2) → Kt .normal st := fun st a1 a2 a3 a4 a5 => by
        refine k1 _ ⟨out, z, ⟨by rw [hraw, hu], a1, a2, ?_, by omega, fun j g1 => .inl ?_, ?_, ?_, ?_⟩⟩
        · rw [a3]
          refine (m2.mono a4).upd (by omega) ?_
          simp only [Obj'.refs, V.refss, List.append_nil, List.all_eq_true, decide_eq_true_eq]
          exact fun r hr => Nat.lt_of_lt_of_le (a5 r hr) a4
        · rw [a3, upd_ne _ _ _ _ (by omega), m3 _ (by omega), upd_ne _ _ _ _ (by omega), n3 _ (by omega), upd_ne _ _ _ _ (by omega), upd_ne _ _ _ _ (by omega)]
        · rw [a3, upd_ne _ _ _ _ (by omega), m3 _ (by omega), upd_ne _ _ _ _ (by omega), ob]
        · rw [a3, upd_same]
        · rw [a3]; exact ((m4.mono (c' := nx) (by omega)).upd_row or0).toG _ (fun j g1 g2 => absurd g2 (by omega))
      rcases m4 with ⟨rfl, c2, c3⟩ | ⟨zi, ep, c1, rfl, c3⟩
      · simp +contextual only [go_sem, Int.reduceBEq, Int.reduceBNe, Int.reduceLT, Int.reduceLE, Int.reduceEq, Int.reduceNe, List.range_zero, Option.isSome_some, Nat.reducePow, and_self, List.cons.injEq, Nat.reduceEqDiff, Nat.reduceAdd, Nat.reduceSub, Nat.reduceMul, Nat.reduceLeDiff, Nat.reduceBEq, Nat.reduceLT, reduceIte, reduceCtorEq, or0]
        exact fin _ (by simp +contextual only [go_sem, Int.reduceBEq, Int.reduceBNe, Int.reduceLT, Int.reduceLE, Int.reduceEq, Int.reduceNe, List.range_zero, Option.isSome_some, Nat.reducePow, and_self, List.cons.injEq, Nat.reduceEqDiff, Nat.reduceAdd, Nat.reduceSub, Nat.reduceMul, Nat.reduceLeDiff, Nat.reduceBEq, Nat.reduceLT, reduceIte, reduceCtorEq]) (by simp +contextual only [go_sem, Int.reduceBEq, Int.reduceBNe, Int.reduceLT, Int.reduceLE, Int.reduceEq, Int.reduceNe, List.range_zero, Option.isSome_some, Nat.reducePow, and_self, List.cons.injEq, Nat.reduceEqDiff, Nat.reduceAdd, Nat.reduceSub, Nat.reduceMul, Nat.reduceLeDiff, Nat.reduceBEq, Nat.reduceLT, reduceIte, reduceCtorEq]) rfl (by simp) (fun r hr => by simp [V.refs] at hr)
      · simp +contextual only [go_sem, Int.reduceBEq, Int.reduceBNe, Int.reduceLT, Int.reduceLE, Int.reduceEq, Int.reduceNe, List.range_zero, Option.isSome_some, Nat.reducePow, and_self, List.cons.injEq, Nat.reduceEqDiff, Nat.reduceAdd, Nat.reduceSub, Nat.reduceMul, Nat.reduceLeDiff, Nat.reduceBEq, Nat.reduceLT, reduceIte, reduceCtorEq, or0]
        exact fin _ (by simp +contextual only [go_sem, Int.reduceBEq, Int.reduceBNe, Int.reduceLT, Int.reduceLE, Int.reduceEq, Int.reduceNe, List.range_zero, Option.isSome_some, Nat.reducePow, and_self, List.cons.injEq, Nat.reduceEqDiff, Nat.reduceAdd, Nat.reduceSub, Nat.reduceMul, Nat.reduceLeDiff, Nat.reduceBEq, Nat.reduceLT, reduceIte, reduceCtorEq]) (by simp +contextual only [go_sem, Int.reduceBEq, Int.reduceBNe, Int.reduceLT, Int.reduceLE, Int.reduceEq, Int.reduceNe, List.range_zero, Option.isSome_some, Nat.reducePow, and_self, List.cons.injEq, Nat.reduceEqDiff, Nat.reduceAdd, Nat.reduceSub, Nat.reduceMul, Nat.reduceLeDiff, Nat.reduceBEq, Nat.reduceLT, reduceIte, reduceCtorEq]) rfl (by simp) (fun r hr => by
          simp [V.refs] at hr
          subst hr
          exact m2.lt (by rw [c3]; exact Obj'.noConfusion))
  · have hno : l.findIdx? (usesF v) = none := by
      cases h : l.findIdx? (usesF v) with
      | none => rfl
      | some at' => simp [firstI, h] at h1
    simp +contextual only [go_sem, Int.reduceBEq, Int.reduceBNe, Int.reduceLT, Int.reduceLE, Int.reduceEq, Int.reduceNe, List.range_zero, Option.isSome_some, Nat.reducePow, and_self, List.cons.injEq, Nat.reduceEqDiff, Nat.reduceAdd, Nat.reduceSub, Nat.reduceMul, Nat.reduceLeDiff, Nat.reduceBEq, Nat.reduceLT, reduceIte, reduceCtorEq, ob, obv, oid, Nat.add_assoc, Nat.left_eq_add, Nat.add_eq_left, Nat.add_left_cancel_iff, b1, b3, b4]
    refine loop_fam (fun k : Nat => ⟨envJ [.junk, .junk, .ptr nx 0, .ptr (nx + 1) 0, .junk, .ptr (nx' + 1) 0, .junk, .junk, .junk, .junk, .junk, .junk, .junk, .junk, .junk, .junk, .junk, .junk, .junk, .junk, .junk, .junk, .junk, .junk, .junk, .junk, .junk, .junk, .junk, .d (.sl (l.map Made.d)), .d (.i l.length), .d (.i k)], upd (upd o' (nx' + 2) (.arr 0 47 4 ((zeroL v (l.take k)).map Made.d))) (nx' + 1) (.row [.osl (nx' + 2) 0]), nx' + 2 + 1⟩)
      (fun k => k ≤ l.length) (fun k => l.length - k) 0 (Nat.zero_le _) (SLe.conv _ .nils (nx' + 1) [.nils] _ (by omega) (by omega) (by omega) (n2.mono (by omega)) (fun j g1 g2 => upd_ne _ _ _ _ g2) (upd_same _ _ _) (convL_x convL_nil) (.inl ⟨rfl, by simp [zeroL], by decide⟩) ?_) (fun k hk => ?_)
    · repeat (first | exact convE_nil | refine convE_junk ?_ | refine convE_x rfl ?_ | refine convE_d rfl ?_ | refine convE_d (d_int (wrapN (by omega))) ?_ | refine convE_v rfl (by simp [V.refs] <;> omega) ?_)
    simp +contextual only [go_sem, Int.reduceBEq, Int.reduceBNe, Int.reduceLT, Int.reduceLE, Int.reduceEq, Int.reduceNe, List.range_zero, Option.isSome_some, Nat.reducePow, and_self, List.cons.injEq, Nat.reduceEqDiff, Nat.reduceAdd, Nat.reduceSub, Nat.reduceMul, Nat.reduceLeDiff, Nat.reduceBEq, Nat.reduceLT, reduceIte, reduceCtorEq]
    refine cond_intro (fun h2 => ?_) (fun h2 => ?_)
    · simp at h2
      obtain ⟨m, hm⟩ : ∃ m, l[k]? = some m := ⟨l[k], by simp [h2]⟩
      have hmm := hok m (List.mem_of_getElem? hm)
      have hmv : m.r.c[v]? = some (m.r.c.getD v 0) := by
        have := hmm.lc
        rw [List.getD_eq_getElem?_getD, List.getElem?_eq_getElem (by omega)]; rfl
      have hlz : (zeroL v (l.take k)).length ≤ k := Nat.le_trans (List.length_filter_le _ _) (by simp; omega)
      have h8f : (zeroL v (l.take k)).length ≤ 140737488355327 := by omega
      have h8g : ((zeroL v (l.take k)).length + 1) * 64 ≤ 140737488355328 := by omega
      simp +contextual only [go_sem, Int.reduceBEq, Int.reduceBNe, Int.reduceLT, Int.reduceLE, Int.reduceEq, Int.reduceNe, List.range_zero, Option.isSome_some, Nat.reducePow, and_self, List.cons.injEq, Nat.reduceEqDiff, Nat.reduceAdd, Nat.reduceSub, Nat.reduceMul, Nat.reduceLeDiff, Nat.reduceBEq, Nat.reduceLT, reduceIte, reduceCtorEq, ob, obv, oid, hm, hmv, Made.d, Row.d, Nat.add_assoc, Nat.left_eq_add, Nat.add_eq_left, Nat.add_left_cancel_iff, b5, b6, b7, h8f, h8g, if_true, if_false]
      refine cond_intro (fun h3 => ?_) (fun h3 => ?_)
      · simp +contextual only [go_sem, Int.reduceBEq, Int.reduceBNe, Int.reduceLT, Int.reduceLE, Int.reduceEq, Int.reduceNe, List.range_zero, Option.isSome_some, Nat.reducePow, and_self, List.cons.injEq, Nat.reduceEqDiff, Nat.reduceAdd, Nat.reduceSub, Nat.reduceMul, Nat.reduceLeDiff, Nat.reduceBEq, Nat.reduceLT, reduceIte, reduceCtorEq, ob, obv, oid, hm, hmv, Made.d, Row.d, Nat.add_assoc, Nat.left_eq_add, Nat.add_eq_left, Nat.add_left_cancel_iff, b5, b6, b7, h8f, h8g, if_true, if_false]
        have hz : (zeroL v (l.take k)).map Made.d ++ [D.agg [D.sl (List.map D.i m.r.c), D.i m.r.rel, D.i m.r.b, D.sl (List.map D.i m.t)]] = (zeroL v (l.take (k + 1))).map Made.d := by
          rw [List.take_add_one, hm]
          simp only [zeroL, List.filter_append, Option.toList_some, List.map_append]
          rw [List.filter_cons, if_pos h3]
          rfl
        rw [hz]
        refine nextS_intro (k + 1) h2 (by omega) (SLe.conv _ (.osl (nx' + 2) 1) (nx' + 1) [.osl (nx' + 2) 1] _ (by omega) (by omega) (by omega) (n2.mono (by omega)) (fun j g1 g2 => ?_) (upd_same _ _ _) (convL_x convL_nil) (.inr ⟨nx' + 2, 1, Nat.le_refl _, rfl, ?_⟩) ?_)
        · repeat (first | rfl | rw [upd_ne _ _ _ _ (by omega)])
        · repeat (first | rfl | rw [upd_same] | rw [upd_ne _ _ _ _ (by omega)])
        · repeat (first | exact convE_nil | refine convE_junk ?_ | refine convE_x rfl ?_ | refine convE_d rfl ?_ | refine convE_d (d_int (wrapN (by omega))) ?_ | refine convE_v rfl (by simp [V.refs] <;> omega) ?_)
      · simp +contextual only [go_sem, Int.reduceBEq, Int.reduceBNe, Int.reduceLT, Int.reduceLE, Int.reduceEq, Int.reduceNe, List.range_zero, Option.isSome_some, Nat.reducePow, and_self, List.cons.injEq, Nat.reduceEqDiff, Nat.reduceAdd, Nat.reduceSub, Nat.reduceMul, Nat.reduceLeDiff, Nat.reduceBEq, Nat.reduceLT, reduceIte, reduceCtorEq, ob, obv, oid, hm, hmv, Made.d, Row.d, Nat.add_assoc, Nat.left_eq_add, Nat.add_eq_left, Nat.add_left_cancel_iff, b5, b6, b7, h8f, h8g, if_true, if_false]
        have hz : zeroL v (l.take k) = zeroL v (l.take (k + 1)) := by
          rw [List.take_add_one, hm]
          simp only [zeroL, List.filter_append, Option.toList_some]
          rw [List.filter_cons, if_neg (by rw [h3]; exact Bool.noConfusion)]
          simp
        rw [hz]
        refine nextS_intro (k + 1) h2 (by omega) (SLe.conv _ (.osl (nx' + 2) 0) (nx' + 1) [.osl (nx' + 2) 0] _ (by omega) (by omega) (by omega) (n2.mono (by omega)) (fun j g1 g2 => ?_) ?_ (convL_x convL_nil) (.inr ⟨nx' + 2, 0, Nat.le_refl _, rfl, ?_⟩) ?_)
        · repeat (first | rfl | rw [upd_ne _ _ _ _ (by omega)])
        · repeat (first | rfl | rw [upd_same] | rw [upd_ne _ _ _ _ (by omega)])
        · repeat (first | rfl | rw [upd_same] | rw [upd_ne _ _ _ _ (by omega)])
        · repeat (first | exact convE_nil | refine convE_junk ?_ | refine convE_x rfl ?_ | refine convE_d rfl ?_ | refine convE_d (d_int (wrapN (by omega))) ?_ | refine convE_v rfl (by simp [V.refs] <;> omega) ?_)
    · simp +contextual only [go_sem, Int.reduceBEq, Int.reduceBNe, Int.reduceLT, Int.reduceLE, Int.reduceEq, Int.reduceNe, List.range_zero, Option.isSome_some, Nat.reducePow, and_self, List.cons.injEq, Nat.reduceEqDiff, Nat.reduceAdd, Nat.reduceSub, Nat.reduceMul, Nat.reduceLeDiff, Nat.reduceBEq, Nat.reduceLT, reduceIte, reduceCtorEq, ob, obv, oid, Nat.add_assoc, Nat.left_eq_add, Nat.add_eq_left, Nat.add_left_cancel_iff, b5, b6, b7]
      simp at h2
      have hz : zeroL v (l.take k) = zeroL v l := by rw [List.take_of_length_le (by omega)]
      rw [hz]
      refine callR_heap (pairs_c v id _ _ ?_ (by omega) _ _ ?_)
      · exact ((n2.mono (by omega)).upd (by omega) rfl).upd (by omega) (by simp [Obj'.refs, V.refss, V.refs])
      simp +contextual only [go_sem, Int.reduceBEq, Int.reduceBNe, Int.reduceLT, Int.reduceLE, Int.reduceEq, Int.reduceNe, List.range_zero, Option.isSome_some, Nat.reducePow, and_self, List.cons.injEq, Nat.reduceEqDiff, Nat.reduceAdd, Nat.reduceSub, Nat.reduceMul, Nat.reduceLeDiff, Nat.reduceBEq, Nat.reduceLT, reduceIte, reduceCtorEq, ob, obv, oid, Nat.add_assoc, Nat.left_eq_add, Nat.add_eq_left, Nat.add_left_cancel_iff, b5, b6, b7]
      refine rng_intro [.junk, .junk, .ptr nx 0, .ptr (nx + 1) 0, .junk, .ptr (nx' + 1) 0] ?_ ?_
      · exact keptE_junk (keptE_junk (keptE_v rfl (keptE_v rfl (keptE_junk (keptE_v rfl keptE_nil)))))
      generalize hL : Obj'.loop Try.prog.funcs.size 112 [.junk, .junk, .ptr nx 0, .ptr (nx + 1) 0, .junk, .ptr (nx' + 1) 0] [50, 51] _ _ .ready none = L
      have hLno : L ≠ .no := by rw [← hL]; exact Obj'.noConfusion
      have hLr : L.refs.all (fun r => decide (r < nx' + 12)) = true := by
        rw [← hL]
        simp [Obj'.refs, V.refss, V.refs]
        omega
      refine rounds_c s v l (zeroL v l) (nv := nv) hl (fun m hm => (hok m hm).lc) hv (nx' + 11) (nx' + 6) (nx' + 7) id (nx' + 1) _ (upd (upd (upd o' (nx' + 6) (.row [.ptr id 0])) (nx' + 7) (.row [.d (.i v)])) (nx' + 11) L) (nx' + 12) ?_ (.osl (nx' + 2) 0) ⟨Nat.le_refl _, ?_, fun j g1 g2 => ?_, ?_, .inr ⟨nx' + 2, 0, fun _ => ⟨by omega, ?_⟩, rfl, ?_⟩⟩ ?_ ?_ ?_ (by omega) (by omega) (by omega) (by omega) (by omega) _ _ (Nat.le_trans (List.length_filter_le _ _) hl) ?_ ?_
      · refine Good.upd (Good.upd (Good.upd (n2.mono (by omega)) (by omega) ?_) (by omega) rfl) (by omega) hLr
        simp [Obj'.refs, V.refss, V.refs]; omega
      · refine Good.upd (Good.upd (Good.upd (Good.upd (Good.upd (n2.mono (by omega)) (by omega) rfl) (by omega) ?_) (by omega) ?_) (by omega) rfl) (by omega) hLr
        · simp [Obj'.refs, V.refss, V.refs]
        · simp [Obj'.refs, V.refss, V.refs]; omega
      · by_cases e1 : j = nx' + 2
        · right; subst e1
          rw [upd_ne _ _ _ _ (by omega), upd_ne _ _ _ _ (by omega), upd_ne _ _ _ _ (by omega)]
          exact n2.fresh _ (by omega)
        · left
          simp only [upd]
          by_cases e2 : j = nx' + 11
          · rw [if_pos e2, if_pos e2]
          · rw [if_neg e2, if_neg e2]
            by_cases e3 : j = nx' + 7
            · rw [if_pos e3, if_pos e3]
            · rw [if_neg e3, if_neg e3]
              by_cases e4 : j = nx' + 6
              · rw [if_pos e4, if_pos e4]
              · rw [if_neg e4, if_neg e4, if_neg g2, if_neg e1]
      · repeat (first | rfl | rw [upd_same] | rw [upd_ne _ _ _ _ (by omega)])
      · rw [upd_ne _ _ _ _ (by omega), upd_ne _ _ _ _ (by omega), upd_ne _ _ _ _ (by omega)]
        exact n2.fresh _ (by omega)
      · repeat (first | rfl | rw [upd_same] | rw [upd_ne _ _ _ _ (by omega)])
      · repeat (first | rfl | rw [upd_same] | rw [upd_ne _ _ _ _ (by omega)])
      · repeat (first | rfl | rw [upd_same] | rw [upd_ne _ _ _ _ (by omega)])
      · rw [upd_ne _ _ _ _ (by omega), upd_ne _ _ _ _ (by omega), upd_ne _ _ _ _ (by omega), oid]
      · intro acc a b o1 nx1 z K' X' ha hb hal hI hpost
        have hle := hI.le
        have pL : o1 (nx' + 11) = L := by
          rcases hI.same (nx' + 11) (by omega) (by omega) with h | h
          · rw [h, upd_same]
          · rw [upd_same] at h; exact absurd h hLno
        have p0 : o1 nx = .row [.ptr id 0] := by
          have := hI.same nx (by omega) (by omega)
          rw [upd_ne _ _ _ _ (by omega), upd_ne _ _ _ _ (by omega), upd_ne _ _ _ _ (by omega), ob] at this
          rcases this with h | h
          · exact h
          · cases h
        have p1 : o1 (nx + 1) = .row [.d (.i v)] := by
          have := hI.same (nx + 1) (by omega) (by omega)
          rw [upd_ne _ _ _ _ (by omega), upd_ne _ _ _ _ (by omega), upd_ne _ _ _ _ (by omega), obv] at this
          rcases this with h | h
          · exact h
          · cases h
        have p2 : o1 id = .row [.d (.i s.vars), .d (.sl (s.rows.map Row.d)), .d (.sl (l.map Made.d))] := by
          have := hI.same id (by omega) (by omega)
          rw [upd_ne _ _ _ _ (by omega), upd_ne _ _ _ _ (by omega), upd_ne _ _ _ _ (by omega), oid] at this
          rcases this with h | h
          · exact h
          · cases h
        have p3 := hI.row
        have hpost2 : roundPost s v a b acc (nx' + 11) (nx' + 1) o1 nx1 z K' X' (pairF s v a b) := by
          cases hp : pairF s v a b with
          | none =>
            rw [hp] at hpost
            intro o2 nx2 m1 m2 m3
            refine hpost o2 nx2 m1 m2 (fun j g4 g5 g6 => ?_)
            rw [m3 j (by omega) g5 g6]
            exact hI.same j g4 g5
          | some x =>
            rw [hp] at hpost
            intro o2 nx2 j2 e2 m1 m2 m3 m4 m5 m6
            refine hpost o2 nx2 (.osl j2 e2) m1 ⟨by omega, m2, fun j g4 g5 => ?_, m4, .inr ⟨j2, e2, fun h => ?_, rfl, m5⟩⟩ (fun j g4 g5 _ g7 => m3 j g4 g5 g7)
            · rcases hI.grows with ⟨rfl, q2, q3⟩ | ⟨jd, ep, q1, rfl, q3⟩
              · rw [m3 j (by omega) g5 (fun ep h => by cases h)]
                exact hI.same j g4 g5
              · by_cases e : j = jd
                · subst e; exact .inr (q1 g4).2
                · rw [m3 j (by omega) g5 (fun ep h => by injection h with h; exact e h.symm)]
                  exact hI.same j g4 g5
            · rcases m6 with m6 | ⟨ep, m6⟩
              · omega
              · rcases hI.grows with ⟨q1, q2, q3⟩ | ⟨jd, ep2, q1, q2, q3⟩
                · rw [q1] at m6; cases m6
                · rw [q2] at m6
                  injection m6 with m6
                  subst m6
                  exact q1 h
        rcases hI.grows with ⟨rfl, g2, g3⟩ | ⟨jd, ep, g1, rfl, g3⟩
        · exact roundNil s v l acc a b (hok a ha) (hok b hb) hv hnv hnr hsr hal nx (nx + 1) id (nx' + 1) (nx' + 11) o1 nx1 hI.good (pL.trans hL.symm) p0 p1 p2 p3 (by simpa using g2) K' X' hpost2
        · exact roundOsl s v l acc a b (hok a ha) (hok b hb) hv hnv hnr hsr hal nx (nx + 1) id (nx' + 1) (nx' + 11) o1 nx1 jd ep hI.good (pL.trans hL.symm) p0 p1 p2 p3 g3 K' X' hpost2
      · cases ho2 : outP s v l (zeroL v l) l.length with
        | none =>
          intro o1 nx1 g1 g2 g3
          refine k2 _ _ ?_
          simp +contextual only [go_sem, Int.reduceBEq, Int.reduceBNe, Int.reduceLT, Int.reduceLE, Int.reduceEq, Int.reduceNe, List.range_zero, Option.isSome_some, Nat.reducePow, and_self, List.cons.injEq, Nat.reduceEqDiff, Nat.reduceAdd, Nat.reduceSub, Nat.reduceMul, Nat.reduceLeDiff, Nat.reduceBEq, Nat.reduceLT, reduceIte, reduceCtorEq]
          have hel : elimE s v l = none := by simp only [elimE, rawE, hno, ho2]; rfl
          rw [hel] at hK
          refine hK _ _ (by omega) g2 (fun j g4 g5 => ?_)
          have := g3 j (by omega) (by omega) (by omega)
          rw [upd_ne _ _ _ _ (by omega), upd_ne _ _ _ _ (by omega), upd_ne _ _ _ _ (by omega), n3 _ (by omega), upd_ne _ _ _ _ (by omega), upd_ne _ _ _ _ (by omega)] at this
          exact this
        | some out =>
          intro o1 nx1 z hI
          have hraw : rawE s v l = some out := by simp only [rawE, hno]; exact ho2
          have oL : o1 (nx' + 11) = L := by
            rcases hI.same (nx' + 11) (by omega) (by omega) with h | h
            · rw [h, upd_same]
            · rw [upd_same] at h; exact absurd h hLno
          have hle := hI.le
          refine ⟨_, _, _, _, _, _, _, _, oL.trans hL.symm, fun h => (by cases h), ?_⟩
          refine k1 _ ⟨out, z, ⟨hraw, by simp +contextual only [go_sem, Int.reduceBEq, Int.reduceBNe, Int.reduceLT, Int.reduceLE, Int.reduceEq, Int.reduceNe, List.range_zero, Option.isSome_some, Nat.reducePow, and_self, List.cons.injEq, Nat.reduceEqDiff, Nat.reduceAdd, Nat.reduceSub, Nat.reduceMul, Nat.reduceLeDiff, Nat.reduceBEq, Nat.reduceLT, reduceIte, reduceCtorEq], by simp +contextual only [go_sem, Int.reduceBEq, Int.reduceBNe, Int.reduceLT, Int.reduceLE, Int.reduceEq, Int.reduceNe, List.range_zero, Option.isSome_some, Nat.reducePow, and_self, List.cons.injEq, Nat.reduceEqDiff, Nat.reduceAdd, Nat.reduceSub, Nat.reduceMul, Nat.reduceLeDiff, Nat.reduceBEq, Nat.reduceLT, reduceIte, reduceCtorEq], ?_, by show nx ≤ nx1; omega, fun j g1 => ?_, ?_, ?_, ?_⟩⟩
          · refine hI.good.upd (by omega) ?_
            simp [Obj'.refs, V.refss, V.refs]; omega
          · have := hI.same j (by omega) (by omega)
            rw [upd_ne _ _ _ _ (by omega), upd_ne _ _ _ _ (by omega), upd_ne _ _ _ _ (by omega), n3 _ (by omega), upd_ne _ _ _ _ (by omega), upd_ne _ _ _ _ (by omega)] at this
            show upd o1 (nx' + 11) _ j = o j ∨ _
            rw [upd_ne _ _ _ _ (by omega)]
            exact this
          · have := hI.same nx (by omega) (by omega)
            rw [upd_ne _ _ _ _ (by omega), upd_ne _ _ _ _ (by omega), upd_ne _ _ _ _ (by omega), ob] at this
            show upd o1 (nx' + 11) _ nx = _
            rw [upd_ne _ _ _ _ (by omega)]
            rcases this with h | h
            · exact h
            · cases h
          · show upd o1 (nx' + 11) _ (nx' + 1) = _
            rw [upd_ne _ _ _ _ (by omega)]
            exact hI.row
          · rcases hI.grows with h | ⟨jd, ep, g1, g2, g3⟩
            · exact .inl h
            · refine .inr ⟨jd, ep, fun g4 => ?_, g2, ?_⟩
              · have := (g1 (by omega)).2
                rw [upd_ne _ _ _ _ (by omega), upd_ne _ _ _ _ (by omega), upd_ne _ _ _ _ (by omega), n3 _ (by omega), upd_ne _ _ _ _ (by omega), upd_ne _ _ _ _ (by omega)] at this
                exact this
              · show upd o1 (nx' + 11) _ jd = _
                rw [upd_ne _ _ _ _ (fun e => by subst e; rw [oL, ← hL] at g3; cases g3)]
                exact g3
end Go.Proofs.Ytaafchgfibbmhaa
