/-
  A PART OF THE PROOF. Conditions: none.
-/
import Derived.Test.YtealblliddhgiaaGreatSb19
set_option linter.unusedSimpArgs false
set_option linter.unusedVariables false
namespace Go.Proofs.YtealblliddhgiaaGreat
theorem freeOf_c (t : Tm) (ht : t.fits) (o : Nat -> Obj') (nx : Nat) (hg : Good o nx) (K X : V -> (Nat -> Obj') -> Nat -> Prop)
 (hK : ∀ o' nx' id l, nx <= id -> id < nx' -> Good o' nx' -> (∀ j, j < nx -> o' j = o j) -> o' id = setO l -> l.Nodup -> (∀ v, v ∈ l ↔ fvB v t = true) -> K (.mp id) o' nx') :
 CtK Tryz.prog 71 [.d t.d] o nx K X := by
 refine CtK.of_ev mix fn71 (by simp) ?_
 rw [c71]
 simp +contextual (disch := first | omega | simp only [go_sem, false_implies]) only [go_sem, wrap64, if_pos, Nat.add_assoc, Nat.left_eq_add, Nat.add_eq_left, Nat.add_left_cancel_iff]
 refine call_heap (free_c t ht _ _ (nx + 2) [] ?_ ?_ List.nodup_nil _ _ fun o2 n2 l m1 m2 m3 m4 m5 => ?_)
 ·exact (by repeat (first | exact hg.mono (by omega) | exact Good.nil | refine Good.upd ?_ (by omega) rfl | refine Good.upd ?_ (by omega) (hLr _ _ _ (by omega)) | refine Good.upd ?_ (by omega) (by simp [Obj'.refs, V.refss, V.refs] <;> omega)))
 ·(repeat (first | rfl | rw [upd_same] | rw [upd_ne _ _ _ _ (by omega)]))
 simp +contextual (disch := first | omega | simp only [go_sem, false_implies]) only [go_sem, wrap64, if_pos, and_self]
 refine hK _ _ (nx + 2) l ?_ ?_ ?_ (fun j hj => ?_) m4 m5.1 (fun v => ?_)
 ·omega
 ·omega
 ·exact m2.mono (by omega)
 ·rw [m3 j (by omega) (by omega)]; (repeat (first | rfl | rw [upd_same] | rw [upd_ne _ _ _ _ (by omega)]))
 ·have := m5.2 v
  simpa using this
def putF : List Int -> Int -> List Int
 | [], n => [n]
 | x :: l, n => if x < n then x :: putF l n else if x = n then x :: l else n :: x :: l
def kidF (op n : Int) (i : Nat) (l out : List Int) : List Int := l.foldl (fun out v => if (op != 8 || (i : Int) != 1 || v != n) = true then putF out v else out) out
mutual
def varsF : Tm -> List Int
 | .mk op n kids => if op = 1 then [n] else varssF op n kids 0 []
def varssF (op n : Int) : List Tm -> Nat -> List Int -> List Int
 | [], _, out => out
 | k :: l, i, out => varssF op n l (i + 1) (kidF op n i (varsF k) out)
end
theorem varsF_eq (t : Tm) : varsF t = if t.op = 1 then [t.n] else varssF t.op t.n t.kids 0 [] := by cases t; rfl
theorem mem_putF : ∀ (l : List Int) (n v : Int), v ∈ putF l n ↔ v ∈ l \/ v = n
 | [], n, v => by simp [putF]
 | x :: l, n, v => by
   simp only [putF]
   split
   ·simp only [List.mem_cons, mem_putF l n v]; constructor
    ·rintro (h | h | h)
     ·exact .inl (.inl h)
     ·exact .inl (.inr h)
     ·exact .inr h
    ·rintro ((h | h) | h)
     ·exact .inl h
     ·exact .inr (.inl h)
     ·exact .inr (.inr h)
   ·split
    ·rename_i h; subst h; simp only [List.mem_cons]; constructor
     ·exact .inl
     ·rintro (h | h)
      ·exact h
      ·exact .inl h
    ·simp only [List.mem_cons]; constructor
     ·rintro (h | h)
      ·exact .inr h
      ·exact .inl h
     ·rintro (h | h)
      ·exact .inr h
      ·exact .inl h
abbrev Inc (l : List Int) : Prop := l.Pairwise (· < ·)
theorem inc_putF : ∀ {l : List Int} (n : Int), Inc l -> Inc (putF l n)
 | [], n, _ => by simp [putF]
 | x :: l, n, h => by
   have h1 := List.pairwise_cons.1 h
   simp only [putF]
   split
   ·rename_i hx
    refine List.pairwise_cons.2 ⟨fun y hy => ?_, inc_putF n h1.2⟩
    rcases (mem_putF l n y).1 hy with hy | hy
    ·exact h1.1 y hy
    ·omega
   ·split
    ·exact h
    ·refine List.pairwise_cons.2 ⟨fun y hy => ?_, h⟩
     rcases List.mem_cons.1 hy with hy | hy
     ·omega
     ·have := h1.1 y hy; omega
theorem kidF_spec (op n : Int) (i : Nat) : ∀ (l out : List Int), Inc out -> Inc (kidF op n i l out) /\ ∀ v, v ∈ kidF op n i l out ↔ v ∈ out \/ (v ∈ l /\ ¬ (op = 8 /\ i = 1 /\ n = v))
 | [], out, h => ⟨h, fun v => by simp [kidF]⟩
 | x :: l, out, h => by
   have hk : kidF op n i (x :: l) out = kidF op n i l (if (op != 8 || (i : Int) != 1 || x != n) = true then putF out x else out) := rfl
   rw [hk]
   by_cases hc : (op != 8 || (i : Int) != 1 || x != n) = true
   ·rw [if_pos hc]
    have ih := kidF_spec op n i l (putF out x) (inc_putF x h)
    refine ⟨ih.1, fun v => ?_⟩
    rw [ih.2 v, mem_putF, List.mem_cons]
    have hc2 : ¬ (op = 8 /\ i = 1 /\ n = x) := by
     rintro ⟨h1, h2, h3⟩; subst h1; subst h2; subst h3; simp at hc
    constructor
    ·rintro ((h | h) | h)
     ·exact .inl h
     ·subst h; exact .inr ⟨.inl rfl, hc2⟩
     ·exact .inr ⟨.inr h.1, h.2⟩
    ·rintro (h | ⟨h | h, h2⟩)
     ·exact .inl (.inl h)
     ·exact .inl (.inr h)
     ·exact .inr ⟨h, h2⟩
   ·rw [if_neg hc]
    have ih := kidF_spec op n i l out h
    refine ⟨ih.1, fun v => ?_⟩
    rw [ih.2 v, List.mem_cons]
    have hc2 : op = 8 /\ i = 1 /\ n = x := by simp at hc; exact ⟨hc.1.1, by omega, hc.2.symm⟩
    constructor
    ·rintro (h | h)
     ·exact .inl h
     ·exact .inr ⟨.inr h.1, h.2⟩
    ·rintro (h | ⟨h | h, h2⟩)
     ·exact .inl h
     ·subst h; exact absurd hc2 h2
     ·exact .inr ⟨h, h2⟩
theorem varsF_spec : ∀ t : Tm, Inc (varsF t) /\ ∀ v, v ∈ varsF t ↔ fvB v t = true := by
 refine Tm.ind' fun t ih => ?_
 have hs : ∀ (l : List Tm) (i : Nat) (out : List Int), (∀ k ∈ l, k ∈ t.kids) -> Inc out -> Inc (varssF t.op t.n l i out) /\ ∀ v, v ∈ varssF t.op t.n l i out ↔ v ∈ out \/ fvsB v t.op t.n l i = true := by
  intro l
  induction l with
  | nil => intro i out _ h; exact ⟨h, fun v => by simp [varssF, fvsB]⟩
  | cons k l ihl =>
    intro i out hk h
    have h1 := ih k (hk k (by simp))
    have h2 := kidF_spec t.op t.n i (varsF k) out h
    have h3 := ihl (i + 1) _ (fun x hx => hk x (by simp [hx])) h2.1
    refine ⟨h3.1, fun v => ?_⟩
    show v ∈ varssF t.op t.n l (i + 1) (kidF t.op t.n i (varsF k) out) ↔ _
    rw [h3.2 v, h2.2 v, h1.2 v, fvsB]
    simp only [Bool.or_eq_true, Bool.and_eq_true, Bool.not_eq_true', Bool.and_eq_false_iff, beq_eq_false_iff_ne, ne_eq, not_and]
    have : (∀ (_ : t.op = 8) (_ : i = 1), ¬ t.n = v) ↔ ((¬ t.op = 8 \/ ¬ i = 1) \/ ¬ t.n = v) := by
     constructor
     ·intro h
      by_cases c1 : t.op = 8
      ·by_cases c2 : i = 1
       ·exact .inr (h c1 c2)
       ·exact .inl (.inr c2)
      ·exact .inl (.inl c1)
     ·rintro ((h | h) | h) c1 c2
      ·exact absurd c1 h
      ·exact absurd c2 h
      ·exact h
    rw [this]
    constructor
    ·rintro ((h | h) | h)
     ·exact .inl h
     ·exact .inr (.inl h)
     ·exact .inr (.inr h)
    ·rintro (h | h | h)
     ·exact .inl (.inl h)
     ·exact .inl (.inr h)
     ·exact .inr h
 by_cases h1 : t.op = 1
 ·rw [varsF_eq, if_pos h1]
  refine ⟨by simp, fun v => ?_⟩
  rw [fvB_eq, if_pos h1]
  simp only [List.mem_singleton, beq_iff_eq]
  exact eq_comm
 ·rw [varsF_eq, if_neg h1]
  have := hs t.kids 0 [] (fun _ h => h) (by simp)
  refine ⟨this.1, fun v => ?_⟩
  rw [this.2 v, fvB_eq, if_neg h1]
  simp
theorem inc_eq : ∀ {l l' : List Int}, Inc l -> Inc l' -> (∀ v, v ∈ l ↔ v ∈ l') -> l = l'
 | [], [], _, _, _ => rfl
 | [], y :: l', _, _, h => by have := (h y).2 (by simp); cases this
 | x :: l, [], _, _, h => by have := (h x).1 (by simp); cases this
 | x :: l, y :: l', h1, h2, h => by
   have g1 := List.pairwise_cons.1 h1
   have g2 := List.pairwise_cons.1 h2
   have e : x = y := by
    rcases List.mem_cons.1 ((h x).1 (by simp)) with e | e
    ·exact e
    ·rcases List.mem_cons.1 ((h y).2 (by simp)) with e2 | e2
     ·exact e2.symm
     ·have := g2.1 x e; have := g1.1 y e2; omega
   subst e
   rw [inc_eq g1.2 g2.2 fun v => ?_]
   constructor
   ·intro hv
    rcases List.mem_cons.1 ((h v).1 (by simp [hv])) with e | e
    ·subst e; exact absurd (g1.1 v hv) (by omega)
    ·exact e
   ·intro hv
    rcases List.mem_cons.1 ((h v).2 (by simp [hv])) with e | e
    ·subst e; exact absurd (g2.1 v hv) (by omega)
    ·exact e
theorem sortI_eq {l : List Int} {t : Tm} (hn : l.Nodup) (h : ∀ v, v ∈ l ↔ fvB v t = true) : sortI l = varsF t := by
 have hp : (sortI l).Perm l := List.mergeSort_perm _ _
 have hs : (sortI l).Pairwise (fun a b => decide (a <= b) = true) := List.pairwise_mergeSort (fun a b c h1 h2 => by simp at *; omega) (fun a b => by simp; omega) l
 have hnd : (sortI l).Nodup := hp.nodup_iff.2 hn
 refine inc_eq ?_ (varsF_spec t).1 fun v => by rw [hp.mem_iff, h v, (varsF_spec t).2 v]
 exact (hs.and hnd).imp fun {a b} h => by have := h.1; have := h.2; simp at *; omega
theorem erase_perm {α : Type} {l : List α} {i : Nat} {n : α} (h : l[i]? = some n) : (n :: l.eraseIdx i).Perm l := by
 obtain ⟨hi, e⟩ := List.getElem?_eq_some_iff.1 h
 have hsp : l = l.take i ++ n :: l.drop (i + 1) := by rw [<- e, List.getElem_cons_drop, List.take_append_drop]
 rw [List.eraseIdx_eq_take_drop_succ]
 conv => rhs; rw [hsp]
 exact List.perm_middle.symm
theorem len_putF : ∀ (l : List Int) (n : Int), (putF l n).length <= l.length + 1
 | [], n => by simp [putF]
 | x :: l, n => by
   have := len_putF l n
   simp only [putF]
   split
   ·simp; omega
   ·split <;> simp
theorem len_kidF (op n : Int) (i : Nat) : ∀ (l out : List Int), (kidF op n i l out).length <= out.length + l.length
 | [], out => by simp [kidF]
 | x :: l, out => by
   have hk : kidF op n i (x :: l) out = kidF op n i l (if (op != 8 || (i : Int) != 1 || x != n) = true then putF out x else out) := rfl
   rw [hk]
   have h1 := len_putF out x
   split
   ·have := len_kidF op n i l (putF out x); simp; omega
   ·have := len_kidF op n i l out; simp; omega
theorem varsF_len : ∀ t : Tm, (varsF t).length <= t.sz := by
 refine Tm.ind' fun t ih => ?_
 have hs : ∀ (l : List Tm) (i : Nat) (out : List Int), (∀ k ∈ l, k ∈ t.kids) -> (varssF t.op t.n l i out).length <= out.length + szs l := by
  intro l
  induction l with
  | nil => intro i out _; simp [varssF]
  | cons k l ihl =>
    intro i out hk
    have h1 := ih k (hk k (by simp))
    have h2 := len_kidF t.op t.n i (varsF k) out
    have h3 := ihl (i + 1) (kidF t.op t.n i (varsF k) out) (fun x hx => hk x (by simp [hx]))
    rw [szs_cons]
    show (varssF t.op t.n l (i + 1) (kidF t.op t.n i (varsF k) out)).length <= _
    omega
 rw [varsF_eq, Tm.sz_eq]
 split
 ·simp
 ·have := hs t.kids 0 [] (fun _ h => h); simp at this; omega
end Go.Proofs.YtealblliddhgiaaGreat
namespace Go.Proofs.YtealblliddhgiaaGreat
end Go.Proofs.YtealblliddhgiaaGreat
namespace Go.Proofs.YtealblliddhgiaaGreat
section
variable {B : Nat -> Prop} {w : World}
theorem ents_perm' {l l' : List (D × D)} (hl : l.Perm l') : ∀ {p : List MapEntry}, EntsDen B w l p -> ∃ p', p'.Perm p /\ EntsDen B w l' p' := by
 induction hl with
 | nil => intro p h; exact ⟨p, List.Perm.refl _, h⟩
 | cons x _ ih =>
   intro p h
   obtain ⟨k, v⟩ := x
   obtain ⟨e, es, rfl, h1, h2, h3⟩ := h
   obtain ⟨p', g1, g2⟩ := ih h3
   exact ⟨e :: p', g1.cons _, _, _, rfl, h1, h2, g2⟩
 | swap x y t =>
   intro p h
   obtain ⟨k, v⟩ := x
   obtain ⟨k', v'⟩ := y
   obtain ⟨e, es, rfl, h1, h2, e', es', rfl, h1', h2', h3⟩ := h
   exact ⟨e' :: e :: es', List.Perm.swap _ _ _, _, _, rfl, h1', h2', _, _, rfl, h1, h2, h3⟩
 | trans _ _ ih1 ih2 =>
   intro p h
   obtain ⟨l1, g1, g2⟩ := ih1 h
   obtain ⟨l2, g3, g4⟩ := ih2 g2
   exact ⟨l2, g3.trans g1, g4⟩
theorem D.den_order {l l' : List (D × D)} (hl : l.Perm l') (hk : IntKeys (l.map (·.1))) {v : Value} (h : D.den B w (.mp (l.map (·.1)) (l.map (·.2))) v) : D.den B w (.mp (l'.map (·.1)) (l'.map (·.2))) v := by
 obtain ⟨m, es, clock, l2, h1, h2, h3, h4, h5, h6⟩ := ents_of_mp h
 have hp : l2.Perm l' := h5.perm.trans hl
 obtain ⟨p, g1, g2⟩ := ents_perm' hp h6
 obtain ⟨g3, g4⟩ := (ents_dens _ _).1 g2
 have hpm : (l'.map (·.1)).Perm (l.map (·.1)) := (hl.map _).symm
 exact ⟨m, es, clock, p, h1, h2, h3, h4, .inr ⟨g1, hpm.nodup_iff.2 hk.1, fun k h => hk.2 k (hpm.mem_iff.1 h)⟩, g3, g4⟩
end
theorem PCt.of_ctk_like {P : Program} {f : FuncId} {ds : List D} {out : D} (h : CtK P f (ds.map .d) (fun _ => .no) 0 (fun v o _ => ∃ x, toD o v = some x /\ ∀ B w val, D.den B w x val -> D.den B w out val) (fun _ _ _ => False)) : PCt P f ds (.ret [out]) := by
 refine ⟨h.1, fun M w vals hM hd => ?_⟩
 let φ0 : Place := fun _ => .nilFunc
 have hnl : ∀ b, ¬ liveB φ0 (hp (fun _ => .no) 0) b := by rintro b ⟨id, hl, _⟩; simp [hp, Obj'.live] at hl
 refine (h.2 M φ0 w vals (emptyHeap φ0 hM) ((V.dens_map_d _ _).2 (D.dens_mono (w := w) (w' := w) (B := M) (fun b _ hB => ⟨rfl, fun h => h.elim hB (hnl b)⟩) _ _ hd))).mono ?_
 rintro e w' ⟨φ', o', nx', v, k1, k2, k3⟩
 have hkeep : Keep (fun _ => False) w w' := ⟨k2.keep.os, k2.keep.tape, k2.keep.output, k2.keep.size, fun k hk _ => k2.keep.block k hk (hnl k)⟩
 refine ⟨hkeep, ?_⟩
 cases e with
 | outgrown => exact k3.elim
 | panicked ch => obtain ⟨_, _, _, h⟩ := k3; exact h.elim
 | returned val =>
   obtain ⟨g1, x, g2, g3⟩ := k3
   obtain ⟨f1, f2, f3, f4, f5⟩ := freezes k1 v.ids (fun id hid => ids_used v val g1 id hid)
   have h3 := toD_den f1 (o := o') v x val (fun id hid => f3 id hid) g2 (V.den_mono f2 _ _ g1)
   exact g3 _ _ _ (D.den_mono (w := w') (w' := w') (fun k _ hB => ⟨rfl, fun hM => hB (.inl hM)⟩) x val h3)
end Go.Proofs.YtealblliddhgiaaGreat
namespace Go.Proofs.YtealblliddhgiaaGreat
@[reducible] def mpD (m : List (Int × D)) : D := .mp ((enc (D.int .i64) m).map (·.1)) ((enc (D.int .i64) m).map (·.2))
theorem mpD_zip (m : List (Int × D)) : (((enc (D.int .i64) m).map (·.1)).zip ((enc (D.int .i64) m).map (·.2))) = enc (D.int .i64) m := enc_zip _ m
theorem intKeys_enc {m : List (Int × D)} (h : (m.map (·.1)).Nodup) : IntKeys ((enc (D.int .i64) m).map (·.1)) := by
 have e : (enc (D.int .i64) m).map (·.1) = (m.map (·.1)).map (D.int .i64) := by simp [enc, Function.comp_def]
 rw [e]
 refine ⟨?_, fun k hk => ?_⟩
 ·have inj : ∀ l : List Int, l.Nodup -> (l.map (D.int .i64)).Nodup := by
   intro l
   induction l with
   | nil => intro _; exact List.nodup_nil
   | cons x l ih =>
     intro h
     rw [List.nodup_cons] at h
     rw [List.map_cons, List.nodup_cons]
     refine ⟨fun hm => ?_, ih h.2⟩
     obtain ⟨y, hy, he⟩ := List.mem_map.1 hm
     injection he with _ he
     subst he
     exact h.1 hy
  exact inj _ h
 ·obtain ⟨n, _, rfl⟩ := List.mem_map.1 hk
  exact ⟨n, rfl⟩
theorem freeOf_d (t : Tm) (ht : t.fits) : PCt Tryz.prog 71 [t.d] (.ret [mpD (setI (varsF t))]) := by
 refine PCt.of_ctk_like (freeOf_c t ht _ _ (by repeat (first | exact hg.mono (by omega) | exact Good.nil | refine Good.upd ?_ (by omega) rfl | refine Good.upd ?_ (by omega) (hLr _ _ _ (by omega)) | refine Good.upd ?_ (by omega) (by simp [Obj'.refs, V.refss, V.refs] <;> omega))) _ _ fun o' nx' id l _ _ _ _ ho hn hm => ?_)
 refine ⟨_, by simp only [toD, ho]; rfl, fun B w val h => ?_⟩
 have hp : l.Perm (varsF t) := by
  rw [<- sortI_eq hn hm]
  exact (List.mergeSort_perm _ _).symm
 have h1 : (enc (D.int .i64) (setI l)).Perm (enc (D.int .i64) (setI (varsF t))) := (hp.map _).map _
 refine D.den_order h1 (intKeys_enc ?_) h
 simpa [setI, Function.comp_def] using hn
end Go.Proofs.YtealblliddhgiaaGreat
namespace Go.Proofs.YtealblliddhgiaaGreat
theorem variable_c' (n : Int) : PCt Tryz.prog 65 [.i n] (.ret [(Tm.mk 1 n []).d]) := by
 refine PCt.of_ev mix fn65 (by simp) ?_
 rw [c65]
 simp +contextual (disch := first | omega | simp only [go_sem, false_implies]) only [go_sem, wrap64, if_pos, and_self]
 rw [Tm.d_mk]
 rfl
theorem rvar_c (n : Int) : PCt Tryz.prog 73 [.i n] (.ret [(Tm.mk 1 n []).d]) := by
 refine PCt.of_ev mix fn73 (by simp) ?_
 rw [c73]
 simp +contextual (disch := first | omega | simp only [go_sem, false_implies]) only [go_sem, wrap64, if_pos, and_self]
 rw [Tm.d_mk]
 rfl
end Go.Proofs.YtealblliddhgiaaGreat
namespace Go.Proofs.YtealblliddhgiaaGreat
def lk : List (Int × Int) -> Int -> Option Int
 | [], _ => none
 | p :: m, v => if p.1 = v then some p.2 else lk m v
abbrev Keys (m : List (Int × Int)) : Prop := (m.map (·.1)).Nodup
def ints (m : List (Int × Int)) : List (Int × D) := m.map fun p => (p.1, D.i p.2)
end Go.Proofs.YtealblliddhgiaaGreat
namespace Go.Proofs.YtealblliddhgiaaGreat
def lkT : List (Int × Tm) -> Int -> Option Tm
 | [], _ => none
 | p :: l, v => if p.1 = v then some p.2 else lkT l v
mutual
def sdF : Tm -> List Int
 | .mk op n kids => (if op = 1 \/ op = 8 then [n] else []) ++ sdsF kids
def sdsF : List Tm -> List Int
 | [] => []
 | k :: l => sdF k ++ sdsF l
end
theorem sdF_eq (t : Tm) : sdF t = (if t.op = 1 \/ t.op = 8 then [t.n] else []) ++ sdsF t.kids := by cases t; rfl
def takenF (b : List (Int × Tm)) (t : Tm) : List Int := sdF t ++ b.flatMap fun p => p.1 :: sdF p.2
def leastG (l : List Int) : Nat -> Int -> Int
 | 0, n => n
 | f + 1, n => if n ∈ l then leastG l f (n + 1) else n
def leastF (l : List Int) : Int := leastG l (l.length + 1) 0
theorem range_len : ∀ (n : Nat) (l : List Int), (∀ k : Nat, k < n -> (k : Int) ∈ l) -> n <= l.length
 | 0, l, _ => Nat.zero_le _
 | n + 1, l, h => by
   have h1 : (n : Int) ∈ l := h n (by omega)
   have h2 := range_len n (l.erase (n : Int)) (fun k hk => (List.mem_erase_of_ne (by omega)).2 (h k (by omega)))
   rw [List.length_erase_of_mem h1] at h2
   have : 0 < l.length := List.length_pos_of_mem h1
   omega
theorem leastG_spec (l : List Int) : ∀ (f : Nat) (n : Nat), (∀ k : Nat, k < n -> (k : Int) ∈ l) -> n + f = l.length + 1 ->
 ∃ m : Nat, leastG l f n = m /\ (m : Int) ∉ l /\ (∀ k : Nat, k < m -> (k : Int) ∈ l) /\ m <= l.length
 | 0, n, h, e => by have := range_len n l h; omega
 | f + 1, n, h, e => by
   simp only [leastG]
   split
   ·rename_i hm
    have := leastG_spec l f (n + 1) (fun k hk => by
     by_cases e : k = n
     ·subst e; exact hm
     ·exact h k (by omega)) (by omega)
    simpa using this
   ·rename_i hm
    exact ⟨n, rfl, hm, h, range_len n l h⟩
theorem leastF_spec (l : List Int) : ∃ m : Nat, leastF l = m /\ (m : Int) ∉ l /\ (∀ k : Nat, k < m -> (k : Int) ∈ l) /\ m <= l.length := leastG_spec l _ 0 (by omega) (by omega)
theorem leastF_of {l : List Int} {m : Nat} (h1 : (m : Int) ∉ l) (h2 : ∀ k : Nat, k < m -> (k : Int) ∈ l) : leastF l = m := by
 obtain ⟨n, e, n1, n2, _⟩ := leastF_spec l
 rw [e]
 rcases Nat.lt_trichotomy n m with h | h | h
 ·exact absurd (h2 n h) n1
 ·rw [h]
 ·exact absurd (n2 m h) h1
theorem leastF_congr {l l' : List Int} (h : ∀ v, v ∈ l ↔ v ∈ l') : leastF l = leastF l' := by
 obtain ⟨n, e, n1, n2, _⟩ := leastF_spec l'
 rw [e]
 exact leastF_of (fun h1 => n1 ((h _).1 h1)) (fun k hk => (h _).2 (n2 k hk))
def cauF (inner : List (Int × Tm)) (body : Tm) (n : Int) : Bool := inner.any fun p => fvB p.1 body && fvB n p.2
def innF (b : List (Int × Tm)) (n : Int) : List (Int × Tm) := b.filter fun p => p.1 != n
def subF : Nat -> List (Int × Tm) -> Tm -> Tm
 | 0, _, t => t
 | f + 1, b, t => if t.op = 1 then (match lkT b t.n with | some x => x | none => t)
   else if t.op = 8 then (match t.kids with
    | [a, body] => if cauF (innF b t.n) body t.n = true then .mk 8 (leastF (takenF b t)) [subF f b a, subF f (innF b t.n) (subF f [(t.n, .mk 1 (leastF (takenF b t)) [])] body)]
      else .mk 8 t.n [subF f b a, subF f (innF b t.n) body]
    | _ => t)
   else .mk t.op t.n (t.kids.map (subF f b))
mutual
def Tm.wf : Tm -> Prop
 | .mk op _ kids => (op = 1 -> kids = []) /\ (op = 8 -> kids.length = 2) /\ Tm.wfs kids
def Tm.wfs : List Tm -> Prop
 | [] => True
 | k :: l => k.wf /\ Tm.wfs l
end
theorem Tm.wfs_iff : ∀ l : List Tm, Tm.wfs l ↔ ∀ k ∈ l, k.wf
 | [] => by simp [Tm.wfs]
 | k :: l => by simp [Tm.wfs, Tm.wfs_iff l]
theorem Tm.wf_iff (t : Tm) : t.wf ↔ (t.op = 1 -> t.kids = []) /\ (t.op = 8 -> t.kids.length = 2) /\ ∀ k ∈ t.kids, k.wf := by cases t; simp [Tm.wf, Tm.wfs_iff, Tm.op, Tm.kids]
theorem two_of {t : Tm} (h : t.kids.length = 2) : ∃ a b, t.kids = [a, b] := by
 match hk : t.kids with
 | [a, b] => exact ⟨a, b, rfl⟩
 | [] => rw [hk] at h; cases h
 | [_] => rw [hk] at h; cases h
 | _ :: _ :: _ :: _ => rw [hk] at h; simp at h
theorem lkT_none {b : List (Int × Tm)} {v : Int} : lkT b v = none ↔ v ∉ b.map (·.1) := by
 induction b with
 | nil => simp [lkT]
 | cons p l ih =>
   simp only [lkT, List.map_cons, List.mem_cons, not_or]
   split
   ·rename_i h; simp [h]
   ·rename_i h; rw [ih]; exact ⟨fun h2 => ⟨fun e => h e.symm, h2⟩, fun h2 => h2.2⟩
theorem lkT_mem {b : List (Int × Tm)} {v : Int} {x : Tm} (h : lkT b v = some x) : (v, x) ∈ b := by
 induction b with
 | nil => cases h
 | cons p l ih =>
   simp only [lkT] at h
   split at h
   ·rename_i e; injection h with h; subst h; subst e; exact List.mem_cons_self ..
   ·exact List.mem_cons_of_mem _ (ih h)
theorem lkT_some {b : List (Int × Tm)} (hb : (b.map (·.1)).Nodup) {v : Int} {x : Tm} : lkT b v = some x ↔ (v, x) ∈ b := by
 refine ⟨lkT_mem, fun h => ?_⟩
 induction b with
 | nil => cases h
 | cons p l ih =>
   rw [List.map_cons, List.nodup_cons] at hb
   simp only [lkT]
   rcases List.mem_cons.1 h with e | h
   ·subst e; simp
   ·rw [if_neg (fun e => hb.1 (by rw [e]; exact List.mem_map.2 ⟨_, h, rfl⟩)), ih hb.2 h]
theorem lkT_perm {b b' : List (Int × Tm)} (hb : (b.map (·.1)).Nodup) (h : b.Perm b') (v : Int) : lkT b v = lkT b' v := by
 have hb' : (b'.map (·.1)).Nodup := (h.map _).nodup_iff.1 hb
 cases h2 : lkT b' v with
 | none => rw [lkT_none] at h2 ⊢; exact fun h3 => h2 ((h.map _).mem_iff.1 h3)
 | some x => rw [lkT_some hb'] at h2; rw [lkT_some hb]; exact h.mem_iff.2 h2
theorem innF_nodup {b : List (Int × Tm)} (n : Int) (hb : (b.map (·.1)).Nodup) : ((innF b n).map (·.1)).Nodup := hb.sublist (List.filter_sublist.map _)
theorem any_perm {α : Type} {l l' : List α} (f : α -> Bool) (h : l.Perm l') : l.any f = l'.any f := by
 rw [Bool.eq_iff_iff, List.any_eq_true, List.any_eq_true]
 exact ⟨fun ⟨x, hx, e⟩ => ⟨x, h.mem_iff.1 hx, e⟩, fun ⟨x, hx, e⟩ => ⟨x, h.mem_iff.2 hx, e⟩⟩
theorem mem_taken {b : List (Int × Tm)} {t : Tm} {v : Int} : v ∈ takenF b t ↔ v ∈ sdF t \/ ∃ p ∈ b, v = p.1 \/ v ∈ sdF p.2 := by
 simp only [takenF, List.mem_append, List.mem_flatMap, List.mem_cons]
theorem taken_perm {b b' : List (Int × Tm)} (h : b.Perm b') (t : Tm) : leastF (takenF b t) = leastF (takenF b' t) := by
 refine leastF_congr fun v => ?_
 rw [mem_taken, mem_taken]
 exact or_congr Iff.rfl ⟨fun ⟨p, hp, e⟩ => ⟨p, h.mem_iff.1 hp, e⟩, fun ⟨p, hp, e⟩ => ⟨p, h.mem_iff.2 hp, e⟩⟩
theorem subF_perm : ∀ (f : Nat) (t : Tm) {b b' : List (Int × Tm)}, (b.map (·.1)).Nodup -> b.Perm b' -> subF f b t = subF f b' t
 | 0, _, _, _, _, _ => rfl
 | f + 1, t, b, b', hb, h => by
   have hi : (innF b t.n).Perm (innF b' t.n) := h.filter _
   have hc : ∀ body, cauF (innF b t.n) body t.n = cauF (innF b' t.n) body t.n := fun body => any_perm _ hi
   simp only [subF]
   rw [lkT_perm hb h]
   split
   ·rfl
   ·split
    ·split
     ·rename_i a body _
      rw [hc, taken_perm h, subF_perm f a hb h]
      rw [subF_perm f _ (innF_nodup _ hb) hi]
      rw [subF_perm f body (innF_nodup _ hb) hi]
     ·rfl
    ·rw [List.map_congr_left fun k _ => subF_perm f k hb h]
theorem ren_hgt : ∀ (f : Nat) (t : Tm) (b : List (Int × Tm)), t.wf -> t.hgt <= f -> (∀ p ∈ b, p.2.op = 1 /\ p.2.kids = []) -> (subF f b t).hgt = t.hgt /\ (subF f b t).wf /\ (subF f b t).sz = t.sz
 | 0, t, _, _, h, _ => by cases t; simp only [Tm.hgt] at h; omega
 | f + 1, t, b, hw, hf, hb => by
   have hw' := (Tm.wf_iff t).1 hw
   have leaf : ∀ x : Tm, x.op = 1 -> x.kids = [] -> x.hgt = 1 /\ x.wf /\ x.sz = 1 := by
    intro x h1 h2
    obtain ⟨op, n, kids⟩ := x
    simp only [Tm.op, Tm.kids] at h1 h2
    subst h1; subst h2
    refine ⟨by simp [Tm.hgt, Tm.hgts], by simp [Tm.wf, Tm.wfs], by rw [Tm.sz_eq]; rfl⟩
   have hinn : ∀ p ∈ innF b t.n, p.2.op = 1 /\ p.2.kids = [] := fun p hp => hb p (List.mem_filter.1 hp).1
   have one : ∀ m : Int, ∀ p ∈ [(t.n, Tm.mk 1 m [])], p.2.op = 1 /\ p.2.kids = [] := by intro m p hp; simp at hp; subst hp; exact ⟨rfl, rfl⟩
   simp only [subF]
   split
   ·rename_i h1
    have l1 := leaf t h1 (hw'.1 h1)
    split
    ·rename_i x hx
     have := hb _ (lkT_mem hx)
     have l2 := leaf x this.1 this.2
     exact ⟨l2.1.trans l1.1.symm, l2.2.1, l2.2.2.trans l1.2.2.symm⟩
    ·exact ⟨rfl, hw, rfl⟩
   ·split
    ·rename_i h8
     obtain ⟨a, body, hk⟩ := two_of (hw'.2.1 h8)
     have ha : a ∈ t.kids := by rw [hk]; simp
     have hbd : body ∈ t.kids := by rw [hk]; simp
     have g1 := Tm.hgt_kid ha
     have g2 := Tm.hgt_kid hbd
     have e1 := ren_hgt f a b (hw'.2.2 a ha) (by omega) hb
     have e2 := ren_hgt f body _ (hw'.2.2 body hbd) (by omega) hinn
     have e3 := fun m => ren_hgt f body _ (hw'.2.2 body hbd) (by omega) (one m)
     have e4 := fun m => ren_hgt f (subF f [(t.n, .mk 1 m [])] body) _ (e3 m).2.1 (by rw [(e3 m).1]; omega) hinn
     have fin : ∀ (n : Int) (x y : Tm), x.hgt = a.hgt -> x.wf -> x.sz = a.sz -> y.hgt = body.hgt -> y.wf -> y.sz = body.sz -> (Tm.mk 8 n [x, y]).hgt = t.hgt /\ (Tm.mk 8 n [x, y]).wf /\ (Tm.mk 8 n [x, y]).sz = t.sz := by
      intro n x y q1 q2 q3 q4 q5 q6
      rw [Tm.hgt_eq, Tm.hgt_eq t, Tm.sz_eq, Tm.sz_eq t, hk]
      simp only [Tm.kids, hgts_cons, szs_cons, q1, q3, q4, q6]
      exact ⟨trivial, by simp [Tm.wf, Tm.wfs, q2, q5], trivial⟩
     rw [hk]
     simp only
     split
     ·exact fin _ _ _ e1.1 e1.2.1 e1.2.2 ((e4 _).1.trans (e3 _).1) (e4 _).2.1 ((e4 _).2.2.trans (e3 _).2.2)
     ·exact fin _ _ _ e1.1 e1.2.1 e1.2.2 e2.1 e2.2.1 e2.2.2
    ·rename_i h1 h8
     have ih : ∀ k ∈ t.kids, (subF f b k).hgt = k.hgt /\ (subF f b k).wf /\ (subF f b k).sz = k.sz := fun k hk => by
      have := Tm.hgt_kid hk
      exact ren_hgt f k b (hw'.2.2 k hk) (by omega) hb
     have hl : ∀ l : List Tm, (∀ k ∈ l, k ∈ t.kids) -> Tm.hgts (l.map (subF f b)) = Tm.hgts l /\ szs (l.map (subF f b)) = szs l := by
      intro l
      induction l with
      | nil => intro _; exact ⟨rfl, rfl⟩
      | cons k l ihl =>
        intro h
        have i1 := ih k (h k (by simp))
        have i2 := ihl fun x hx => h x (by simp [hx])
        simp only [List.map_cons, hgts_cons, szs_cons, i1.1, i1.2.2, i2.1, i2.2]
        exact ⟨trivial, trivial⟩
     have := hl t.kids fun _ h => h
     rw [Tm.hgt_eq, Tm.hgt_eq t, Tm.sz_eq, Tm.sz_eq t, Tm.wf_iff]
     refine ⟨by show 1 + Tm.hgts (t.kids.map (subF f b)) = _; rw [this.1], ⟨fun h => absurd h h1, fun h => absurd h h8, fun k hk => ?_⟩, by show 1 + szs (t.kids.map (subF f b)) = _; rw [this.2]⟩
     obtain ⟨x, hx, rfl⟩ := List.mem_map.1 hk
     exact (ih x hx).2.1
theorem subF_more : ∀ (f f' : Nat) (t : Tm) (b : List (Int × Tm)), t.wf -> t.hgt <= f -> t.hgt <= f' -> subF f b t = subF f' b t
 | 0, _, t, _, _, h, _ => by cases t; simp only [Tm.hgt] at h; omega
 | _, 0, t, _, _, _, h => by cases t; simp only [Tm.hgt] at h; omega
 | f + 1, f' + 1, t, b, hw, h1, h2 => by
   have hw' := (Tm.wf_iff t).1 hw
   simp only [subF]
   split
   ·rfl
   ·split
    ·rename_i h8
     obtain ⟨a, body, hk⟩ := two_of (hw'.2.1 h8)
     have ha : a ∈ t.kids := by rw [hk]; simp
     have hbd : body ∈ t.kids := by rw [hk]; simp
     have g1 := Tm.hgt_kid ha
     have g2 := Tm.hgt_kid hbd
     rw [hk]
     simp only
     have e0 := fun m => ren_hgt f' body [(t.n, .mk 1 m [])] (hw'.2.2 body hbd) (by omega) (by intro p hp; simp at hp; subst hp; exact ⟨rfl, rfl⟩)
     rw [subF_more f f' a b (hw'.2.2 a ha) (by omega) (by omega), subF_more f f' body (innF b t.n) (hw'.2.2 body hbd) (by omega) (by omega),
      subF_more f f' body [(t.n, .mk 1 (leastF (takenF b t)) [])] (hw'.2.2 body hbd) (by omega) (by omega),
      subF_more f f' (subF f' [(t.n, .mk 1 (leastF (takenF b t)) [])] body) (innF b t.n) (e0 _).2.1 (by rw [(e0 _).1]; omega) (by rw [(e0 _).1]; omega)]
    ·rw [List.map_congr_left fun k hk => subF_more f f' k b (hw'.2.2 k hk) (by have := Tm.hgt_kid hk; omega) (by have := Tm.hgt_kid hk; omega)]
theorem subF_nil : ∀ (f : Nat) (t : Tm), t.wf -> subF f [] t = t
 | 0, _, _ => rfl
 | f + 1, t, hw => by
   have hw' := (Tm.wf_iff t).1 hw
   simp only [subF]
   split
   ·rfl
   ·split
    ·rename_i h8
     obtain ⟨a, body, hk⟩ := two_of (hw'.2.1 h8)
     rw [hk]
     simp only [innF, List.filter_nil, cauF, List.any_nil, Bool.false_eq_true, if_false]
     rw [subF_nil f a (hw'.2.2 a (by rw [hk]; simp)), subF_nil f body (hw'.2.2 body (by rw [hk]; simp)), <- hk, <- h8]
     exact Tm.eta t
    ·rw [List.map_congr_left fun k hk => subF_nil f k (hw'.2.2 k hk), List.map_id']
     exact Tm.eta t
end Go.Proofs.YtealblliddhgiaaGreat
namespace Go.Proofs.YtealblliddhgiaaGreat
end Go.Proofs.YtealblliddhgiaaGreat
namespace Go.Proofs.YtealblliddhgiaaGreat
def isSt (t : Tm) : Bool := t.op == 1 || t.op == 8
def sstep (l : List Int) (x : Tm × Int) : List Int := if isSt x.1 = true then insI l x.1.n else l
theorem sdsF_mem {l : List Tm} {v : Int} : v ∈ sdsF l ↔ ∃ k ∈ l, v ∈ sdF k := by
 induction l with
 | nil => simp [sdsF]
 | cons k l ih => simp [sdsF, ih]
theorem sd_pre : ∀ (t : Tm) (d v : Int), v ∈ sdF t ↔ ∃ x ∈ pre t d, isSt x.1 = true /\ x.1.n = v := by
 refine Tm.ind' fun t ih d v => ?_
 rw [sdF_eq, pre_eq, List.mem_append, sdsF_mem]
 constructor
 ·rintro (h | ⟨k, hk, h⟩)
  ·split at h
   ·rename_i h1
    simp at h
    exact ⟨_, List.mem_cons_self .., by simpa [isSt] using h1, h.symm⟩
   ·cases h
  ·obtain ⟨x, hx, e⟩ := (ih k hk (d + 1) v).1 h
   exact ⟨x, List.mem_cons_of_mem _ (List.mem_flatMap.2 ⟨k, hk, hx⟩), e⟩
 ·rintro ⟨x, hx, h1, h2⟩
  rcases List.mem_cons.1 hx with rfl | hx
  ·left
   rw [if_pos (by simpa [isSt] using h1)]
   simp [h2]
  ·obtain ⟨k, hk, hx⟩ := List.mem_flatMap.1 hx
   exact .inr ⟨k, hk, (ih k hk (d + 1) v).2 ⟨x, hx, h1, h2⟩⟩
theorem sd_fold : ∀ (L : List (Tm × Int)) (l : List Int), l.Nodup -> (foldE (stp (fun _ => none) sstep) l L).1.Nodup /\ ∀ v, v ∈ (foldE (stp (fun _ => none) sstep) l L).1 ↔ v ∈ l \/ ∃ x ∈ L, isSt x.1 = true /\ x.1.n = v
 | [], l, h => by simp [foldE, h]
 | x :: L, l, h => by
   have h1 : (sstep l x).Nodup := by
    unfold sstep; split
    ·exact nodup_insI _ h
    ·exact h
   obtain ⟨g1, g2⟩ := sd_fold L (sstep l x) h1
   have e : foldE (stp (fun _ => none) sstep) l (x :: L) = foldE (stp (fun _ => none) sstep) (sstep l x) L := by simp [foldE, stp]
   rw [e]
   refine ⟨g1, fun v => ?_⟩
   rw [g2]
   unfold sstep
   split
   ·rename_i hx
    rw [mem_insI]
    constructor
    ·rintro ((h | rfl) | ⟨y, hy, e⟩)
     ·exact .inl h
     ·exact .inr ⟨x, List.mem_cons_self .., hx, rfl⟩
     ·exact .inr ⟨y, List.mem_cons_of_mem _ hy, e⟩
    ·rintro (h | ⟨y, hy, e1, e2⟩)
     ·exact .inl (.inl h)
     ·rcases List.mem_cons.1 hy with rfl | hy
      ·exact .inl (.inr e2.symm)
      ·exact .inr ⟨y, hy, e1, e2⟩
   ·rename_i hx
    constructor
    ·rintro (h | ⟨y, hy, e⟩)
     ·exact .inl h
     ·exact .inr ⟨y, List.mem_cons_of_mem _ hy, e⟩
    ·rintro (h | ⟨y, hy, e1, e2⟩)
     ·exact .inl h
     ·rcases List.mem_cons.1 hy with rfl | hy
      ·exact absurd e1 hx
      ·exact .inr ⟨y, hy, e1, e2⟩
theorem standing_c (t : Tm) (ht : t.fits) (hd : t.hgt <= 900000) (o : Nat -> Obj') (nx id : Nat) (l : List Int) (hg : Good o nx) (ho : o id = setO l) (hl : l.Nodup) (K X : V -> (Nat -> Obj') -> Nat -> Prop)
 (hK : SetK id (fun l' => l'.Nodup /\ ∀ n, n ∈ l' ↔ n ∈ l \/ n ∈ sdF t) o nx K) : CtK Tryz.prog 117 [.mp id, .d t.d] o nx K X := by
 have hid : id < nx := hg.lt (by rw [ho]; exact Obj'.noConfusion)
 refine CtK.of_ev mix fn117 (by simp) ?_
 rw [c117]
 have y1 : id ≠ nx := by omega
 have y2 : ∀ k, id ≠ nx + k := fun k => by omega
 simp +contextual (disch := first | omega | simp only [go_sem, false_implies]) only [go_sem, wrap64, if_pos, Nat.add_assoc, Nat.left_eq_add, Nat.add_eq_left, Nat.add_left_cancel_iff]
 refine call_heap (nodesK_c t _ _ _ _ ?_)
 simp +contextual (disch := first | omega | simp only [go_sem, false_implies]) only [go_sem, wrap64, if_pos, Nat.add_assoc, Nat.left_eq_add, Nat.add_eq_left, Nat.add_left_cancel_iff]
 have hG : ∀ j, j < nx + 7 -> upd (upd (upd o nx (.row [.mp id])) (nx + 1) (.row t.row)) (nx + 3) (.row t.row) j = upd (upd (upd (upd o nx (.row [.mp id])) (nx + 1) (.row t.row)) (nx + 3) (.row t.row)) id (setO l) j := by
  intro j _
  by_cases e : j = id
  ·subst e; (repeat (first | rfl | rw [upd_same] | rw [upd_ne _ _ _ _ (by omega)])); exact ho
  ·rw [upd_ne _ _ _ _ e]
 refine range_nodes (σ := List Int) t ht hd [.junk, .junk, .ptr nx 0] ?_ (by decide) rfl (by repeat (first | exact hg.mono (by omega) | exact Good.nil | refine Good.upd ?_ (by omega) rfl | refine Good.upd ?_ (by omega) (hLr _ _ _ (by omega)) | refine Good.upd ?_ (by omega) (by simp [Obj'.refs, V.refss, V.refs] <;> omega))) (by simp [V.refss, V.refs]) (upd_same _ _ _)
  (fun s => upd (upd (upd (upd o nx (.row [.mp id])) (nx + 1) (.row t.row)) (nx + 3) (.row t.row)) id (setO s)) (fun _ => none) sstep (fun _ => True) l trivial rfl hG (fun _ _ _ _ _ _ => trivial) ?_ ?_
 ·(repeat (first | exact keptE_nil | refine keptE_junk ?_ | refine keptE_v rfl ?_))
 ·intro L hL hLr x hx s' _ _ o3 n3 hI hn ho3 K' X' hend
  simp only [setP]
  have hg := hI.good
  have hle := hI.le
  have q1 : o3 nx = .row [.mp id] := by rw [hI.eq nx (by omega)]; (repeat (first | rfl | rw [upd_same] | rw [upd_ne _ _ _ _ (by omega)]))
  have q2 : o3 id = setO s' := by rw [hI.eq id (by omega)]; (repeat (first | rfl | rw [upd_same] | rw [upd_ne _ _ _ _ (by omega)]))
  have z1 : nx ≠ n3 := by omega
  have z2 : ∀ k, nx ≠ n3 + k := fun k => by omega
  have z3 : id ≠ n3 := by omega
  have z4 : ∀ k, id ≠ n3 + k := fun k => by omega
  simp +contextual (disch := first | omega | simp only [go_sem, false_implies]) only [go_sem, wrap64, if_pos, and_self]
  refine begin_st hL (pd := none) ?_ ?_
  ·(repeat (first | rfl | rw [upd_same] | rw [upd_ne _ _ _ _ (by omega)]))
   exact ho3
  simp +contextual (disch := first | omega | simp only [go_sem, false_implies]) only [go_sem, wrap64, if_pos, q1, q2]
  have same : ∀ (o' : Nat -> Obj') (n' : Nat) (l : List Int), Good o' n' -> n3 <= n' -> (∀ j, j < nx + 7 -> o' j = upd o3 id (setO l) j) -> HInv (nx + 7) (upd (upd (upd (upd o nx (.row [.mp id])) (nx + 1) (.row t.row)) (nx + 3) (.row t.row)) id (setO l)) o' n' := fun o' n' l k1 k2 k3 => ⟨k1, by omega, fun j hj => by
   rw [k3 j hj]
   by_cases e : j = id
   ·subst e; rw [upd_same, upd_same]
   ·rw [upd_ne _ _ _ _ e, upd_ne _ _ _ _ e, hI.eq j hj, upd_ne _ _ _ _ e]⟩
  refine cond_intro (fun h3 => ?_) (fun h3 => ?_)
  ·have hp : sstep s' x = insI s' x.1.n := by unfold sstep isSt; rw [if_pos h3]
   rw [hp] at hend
   simp +contextual (disch := first | omega | simp only [go_sem, false_implies]) only [go_sem, wrap64, if_pos, q1, q2, z1, z2, z3, z4, Nat.add_assoc, Nat.left_eq_add, Nat.add_eq_left, Nat.add_left_cancel_iff]
   refine hend _ _ _ .busy none (by omega) (same _ _ _ (by repeat (first | exact hg.mono (by omega) | exact Good.nil | refine Good.upd ?_ (by omega) rfl | refine Good.upd ?_ (by omega) (hLr _ _ _ (by omega)) | refine Good.upd ?_ (by omega) (by simp [Obj'.refs, V.refss, V.refs] <;> omega))) (by omega) fun j hj => ?_) (by (repeat (first | rfl | rw [upd_same] | rw [upd_ne _ _ _ _ (by omega)]))) (fun j h3 h4 => by (repeat (first | rfl | rw [upd_same] | rw [upd_ne _ _ _ _ (by omega)])))
   by_cases e : j = id
   ·subst e; (repeat (first | rfl | rw [upd_same] | rw [upd_ne _ _ _ _ (by omega)]))
   ·(repeat (first | rfl | rw [upd_same] | rw [upd_ne _ _ _ _ (by omega)]))
  ·have hp : sstep s' x = s' := by unfold sstep isSt; rw [if_neg (by simpa using h3)]
   rw [hp] at hend
   simp +contextual (disch := first | omega | simp only [go_sem, false_implies]) only [go_sem, wrap64, if_pos, and_self]
   refine hend _ _ _ .busy none (by omega) (same _ _ _ (by repeat (first | exact hg.mono (by omega) | exact Good.nil | refine Good.upd ?_ (by omega) rfl | refine Good.upd ?_ (by omega) (hLr _ _ _ (by omega)) | refine Good.upd ?_ (by omega) (by simp [Obj'.refs, V.refss, V.refs] <;> omega))) (by omega) fun j hj => ?_) (by (repeat (first | rfl | rw [upd_same] | rw [upd_ne _ _ _ _ (by omega)]))) (fun j h3 h4 => by (repeat (first | rfl | rw [upd_same] | rw [upd_ne _ _ _ _ (by omega)])))
   by_cases e : j = id
   ·subst e; (repeat (first | rfl | rw [upd_same] | rw [upd_ne _ _ _ _ (by omega)]))
    exact q2
   ·(repeat (first | rfl | rw [upd_same] | rw [upd_ne _ _ _ _ (by omega)]))
 ·intro o' n' hI
  have hle := hI.le
  simp only [jmpQ]
  simp +contextual (disch := first | omega | simp only [go_sem, false_implies]) only [go_sem, wrap64, if_pos, and_self]
  obtain ⟨g1, g2⟩ := sd_fold (pre t 1) l hl
  refine hK _ _ _ (by omega) hI.good (fun j h1 h2 => ?_) (by rw [hI.eq id (by omega), upd_same]) ⟨g1, fun v => ?_⟩
  ·rw [hI.eq j (by omega)]; (repeat (first | rfl | rw [upd_same] | rw [upd_ne _ _ _ _ (by omega)]))
  ·rw [g2 v, sd_pre t 1 v]
end Go.Proofs.YtealblliddhgiaaGreat
namespace Go.Proofs.YtealblliddhgiaaGreat
def IC.snd : IC -> IC
 | .seq _ y => y
 | c => c
def IC.fst : IC -> IC
 | .seq x _ => x
 | .block _ x => x
 | .loop x => x
 | .cond _ x _ => x
 | c => c
@[reducible] def mapI (m : List (Int × Int)) : Obj' := .map 3 3 (enc (D.int .i64) (ints m))
@[reducible] def froI (m : List (Int × Int)) : Obj' := .mfro (enc (D.int .i64) (ints m))
def BdV (o : Nat -> Obj') (bv : V) (m : List (Int × Int)) : Prop := (bv = .d .nilm /\ m = []) \/ ∃ b, bv = .mp b /\ o b = froI m
structure OrdPre (o : Nat -> Obj') (nx cid fid : Nat) (bv : V) (mB bd fr : List (Int × Int)) (n : Int) (sz : Nat) : Prop where
 good : Good o nx
 hc : o cid = .row [.d (.i n), .mp fid]
 hf : o fid = mapI fr
 hb : BdV o bv mB
 kb : Keys mB
 lk : ∀ v, lk mB v = lk bd v
 n0 : 0 <= n
 n1 : n + sz <= 1000000
@[go_sem] theorem findD_nil {P : Program} {kt : TypeId} {k : D} {i : Nat} : findD P kt k [] i = some none := rfl
end Go.Proofs.YtealblliddhgiaaGreat
namespace Go.Proofs.YtealblliddhgiaaGreat
theorem seeO_eq {c : Nat} {G : List Gr} {so : Nat -> Obj'} {gone : Nat -> Prop} {x x' y y' : Obj'} (h : x = y) (h' : x' = y') (hs : seeO c G so gone y y') : seeO c G so gone x x' := by rw [h, h']; exact hs
theorem seeE_back {c : Nat} {G : List Gr} {so : Nat -> Obj'} {gone : Nat -> Prop} {e : Nat -> V} : ∀ {l : List V} {i : Nat}, backE c e l i -> seeE c G so gone e l i
 | [], _, _ => trivial
 | v :: l, i, h => ⟨h.1.elim .inl fun h => .inr (.inl ⟨h.1, fun r hr => h.2 r (by rw [h.1]; exact hr)⟩), seeE_back h.2⟩
theorem len_szs : ∀ l : List Tm, l.length <= szs l
 | [] => by simp [szs]
 | k :: l => by have := len_szs l; have := Tm.sz_pos k; rw [szs_cons, List.length_cons]; omega
end Go.Proofs.YtealblliddhgiaaGreat
namespace Go.Proofs.YtealblliddhgiaaGreat
theorem Tm.sz_kid {t k : Tm} (hk : k ∈ t.kids) : k.sz + 1 <= t.sz := by
 have := Tm.sizeI_kid hk
 rw [Tm.sizeI_sz, Tm.sizeI_sz] at this
 omega
theorem Tm.hgt_le_sz : ∀ t : Tm, t.hgt <= t.sz := by
 refine Tm.ind' fun t ih => ?_
 have h : Tm.hgts t.kids <= t.sz - 1 := (hgts_le _ _).2 fun k hk => by have := ih k hk; have := Tm.sz_kid hk; omega
 have := Tm.sz_pos t
 rw [Tm.hgt_eq]
 omega
theorem Tm.fits_sz : ∀ t : Tm, t.sz <= 1000000 -> t.fits := by
 refine Tm.ind' fun t ih h => ?_
 rw [Tm.fits_iff]
 refine ⟨?_, fun k hk => ih k hk (by have := Tm.sz_kid hk; omega)⟩
 have := len_szs t.kids
 rw [Tm.sz_eq] at h
 omega
theorem sdF_len : ∀ t : Tm, (sdF t).length <= t.sz := by
 refine Tm.ind' fun t ih => ?_
 have hl : ∀ l : List Tm, (∀ k ∈ l, k ∈ t.kids) -> (sdsF l).length <= szs l := by
  intro l
  induction l with
  | nil => intro _; simp [sdsF, szs]
  | cons k l ihl =>
    intro h
    have := ih k (h k (by simp))
    have := ihl fun x hx => h x (by simp [hx])
    simp only [sdsF, List.length_append, szs_cons]
    omega
 have := hl t.kids fun _ h => h
 rw [sdF_eq, Tm.sz_eq, List.length_append]
 split <;> simp <;> omega
def tms (b : List (Int × Tm)) : List (Int × D) := b.map fun p => (p.1, p.2.d)
@[reducible] def mpT (b : List (Int × Tm)) : D := mpD (tms b)
theorem aIdx_tms : ∀ (m : List (Int × Tm)) (v : Int) (i : Nat), (match aIdx v (tms m) i with | some (_, x) => some x | none => none) = (lkT m v).map Tm.d
 | [], _, _ => rfl
 | p :: m, v, i => by
   have ih := aIdx_tms m v (i + 1)
   simp only [tms, List.map_cons, aIdx, lkT] at ih ⊢
   by_cases h : v = p.1
   ·subst h; simp
   ·have h2 : ¬ p.1 = v := fun e => h e.symm
    simp only [beq_iff_eq, h, h2, if_false]
    exact ih
theorem aIdx_tms_some {m : List (Int × Tm)} {v : Int} {x : Tm} (h : lkT m v = some x) : ∃ j, aIdx v (tms m) 0 = some (j, x.d) := by
 have := aIdx_tms m v 0
 rw [h] at this
 cases h2 : aIdx v (tms m) 0 with
 | none => rw [h2] at this; cases this
 | some p => obtain ⟨j, y⟩ := p; rw [h2] at this; simp at this; subst this; exact ⟨j, rfl⟩
theorem aIdx_tms_none {m : List (Int × Tm)} {v : Int} (h : lkT m v = none) : aIdx v (tms m) 0 = none := by
 have := aIdx_tms m v 0
 rw [h] at this
 cases h2 : aIdx v (tms m) 0 with
 | none => rfl
 | some p => rw [h2] at this; cases this
theorem lookT (o : Nat -> Obj') (b : List (Int × Tm)) (v : Int) : lookupF Tryz.prog o 78 (.d (mpT b)) (.d (.int .i64 v)) true = some (match lkT b v with | some x => .tup [.d x.d, .d (.bool true)] | none => .tup [.agg [.d (.i 0), .d (.i 0), .nils], .d (.bool false)], [], []) := by
 cases h : lkT b v with
 | none =>
   simp +contextual (disch := first | omega | simp only [go_sem, false_implies]) only [go_sem, wrap64, if_pos, mpD_zip, aIdx_tms_none h]
 | some x =>
   obtain ⟨j, hj⟩ := aIdx_tms_some h
   simp +contextual (disch := first | omega | simp only [go_sem, false_implies]) only [go_sem, wrap64, if_pos, mpD_zip, hj]
structure BOk (b : List (Int × Tm)) : Prop where
 keys : (b.map (·.1)).Nodup
 len : b.length <= 1000
 sz : ∀ p ∈ b, p.2.sz <= 1000
 cp : ∀ p ∈ b, PCt Tryz.prog 53 [mpT [], p.2.d] (.ret [p.2.d])
def PutC (t : Tm) : Prop := ∀ b, BOk b -> PCt Tryz.prog 53 [mpT b, t.d] (.ret [(subF t.hgt b t).d])
def putBody : IC := c53.snd.snd.snd.snd.fst.snd.fst.fst
def kidS (b : List (Int × Tm)) (k : Tm) : Tm := subF k.hgt b k
theorem putKids {t : Tm} {b : List (Int × Tm)} (hz : t.sz <= 1000) (ih : ∀ k ∈ t.kids, PutC k) (hb : BOk b) {o : Nat -> Obj'} {c r : Nat} {op' N : Int} {e : Nat -> V} {Q : Xit -> S -> Prop}
 (hg : Good o c) (hc : r < c) (h1c : 1 < c) (oo : o r = .row [.d (.i op'), .d (.i N), .nils])
 (he : backE c e [.d (mpT b), .junk, .junk, .ptr 0 0, .ptr 1 0, .junk, .junk, .ptr r 0, .junk, .junk, .junk, .junk, .junk, .junk, .junk, .junk, .junk, .junk, .junk, .junk, .junk, .junk, .junk, .junk, .junk, .junk, .junk, .junk, .junk, .junk, .junk, .junk, .junk, .junk, .junk, .junk, .junk, .junk, .d (.sl (t.kids.map Tm.d)), .d (.i t.kids.length), .d (.i 0)] 0)
 (hQ : ∀ e' o' nx', e' 4 = .ptr 1 0 -> e' 7 = .ptr r 0 -> c <= nx' -> Good o' nx' -> o' r = .row [.d (.i op'), .d (.i N), .osl c 0] -> o' c = .arr 0 28 3 ((t.kids.map (kidS b)).map Tm.d) -> (∀ j, j < c -> j ≠ r -> o' j = o j) -> Q (.exit 0) ⟨e', o', nx'⟩) :
 loopS 0 (fun Q s => evW Tryz.prog 54 0 false putBody Q s) Q ⟨e, o, c⟩ := by
 have hlen := len_szs t.kids
 have hsz : szs t.kids <= 1000 := by rw [Tm.sz_eq] at hz; omega
 refine loop_fam (fun i : Nat => ⟨envJ [.d (mpT b), .junk, .junk, .ptr 0 0, .ptr 1 0, .junk, .junk, .ptr r 0, .junk, .junk, .junk, .junk, .junk, .junk, .junk, .junk, .junk, .junk, .junk, .junk, .junk, .junk, .junk, .junk, .junk, .junk, .junk, .junk, .junk, .junk, .junk, .junk, .junk, .junk, .junk, .junk, .junk, .junk, .d (.sl (t.kids.map Tm.d)), .d (.i t.kids.length), .d (.i i)], upd (upd o r (.row [.d (.i op'), .d (.i N), .osl c 0])) c (.arr 0 28 3 (((t.kids.take i).map (kidS b)).map Tm.d)), c + 1⟩)
  (fun i => i <= t.kids.length) (fun i => t.kids.length - i) 0 (Nat.zero_le _) (SLe.see1 (ty := 28) (sz := 3) (es := []) (fun _ => False) .nils c _ (by omega) (fun j hj => ?_) (by rw [upd_same]; simp) (.inl ⟨rfl, rfl, by decide⟩) (fun j hj => ?_) (fun _ h => h.elim) (seeE_back he)) ?_
 ·by_cases e1 : j = r
  ·subst e1
   exact seeO_eq oo (by (repeat (first | rfl | rw [upd_same] | rw [upd_ne _ _ _ _ (by omega)]))) (seeO_row rfl (seeL_d (seeL_d (seeL_g 0 rfl rfl rfl seeL_nil))))
  ·exact seeO_eq rfl (by (repeat (first | rfl | rw [upd_same] | rw [upd_ne _ _ _ _ (by omega)]))) (seeO_same rfl (fun r hr => hg.refs j r hr))
 ·(repeat (first | rfl | rw [upd_same] | rw [upd_ne _ _ _ _ (by omega)]))
  exact hg.fresh j (by omega)
 rintro k hk
 have hk : k <= t.kids.length := hk
 have y1 : r ≠ c := by omega
 have y2 : ∀ k, r ≠ c + k := fun k => by omega
 simp only [putBody, c53, IC.snd, IC.fst]
 simp +contextual (disch := first | omega | simp only [go_sem, false_implies]) only [go_sem, wrap64, if_pos, oo, y1, y2, Nat.add_assoc, Nat.left_eq_add, Nat.add_eq_left, Nat.add_left_cancel_iff, List.length_map]
 refine cond_intro (fun h2 => ?_) (fun h2 => ?_)
 ·simp at h2
  obtain ⟨x, hx⟩ := get_of_lt h2
  have hxm := List.mem_of_getElem? hx
  simp +contextual (disch := first | omega | simp only [go_sem, false_implies]) only [go_sem, wrap64, if_pos, oo, y1, y2, Nat.add_assoc, Nat.left_eq_add, Nat.add_eq_left, Nat.add_left_cancel_iff, List.length_map, hx]
  refine callD_give (rs := [(kidS b x).d]) (ih x hxm b hb) ?_
  have e0 : (t.kids.take k).length = k := by rw [List.length_take]; omega
  simp +contextual (disch := first | omega | simp only [go_sem, false_implies]) only [go_sem, wrap64, if_pos, oo, y1, y2, Nat.add_assoc, Nat.left_eq_add, Nat.add_eq_left, Nat.add_left_cancel_iff, List.length_map, e0]
  refine end_intro (objsOk_renL (ids := [r, c, c + 4]) (nx := c + 10) (by simp; omega) (by simp; omega) [([0], []), ([0], []), ([], []), ([2], []), ([], []), ([], [4]), ([1, 4], [1]), ([0], []), ([0, 1], [0])] (by decide)) ?_
  simp +contextual (disch := first | omega | simp only [go_sem, false_implies]) only [go_sem, wrap64, if_pos, Nat.add_assoc, Nat.left_eq_add, Nat.add_eq_left, Nat.add_left_cancel_iff]
  have htk : t.kids.take (k + 1) = t.kids.take k ++ [x] := by rw [List.take_add_one, hx]; rfl
  refine nextS_intro (k + 1) h2 (by omega) (SLe.see1 (fun j => j = c) (.osl c 1) c _ (by omega) (fun j hj => ?_) (upd_same _ _ _) (.inr ⟨c, 1, rfl, rfl, by (repeat (first | rfl | rw [upd_same] | rw [upd_ne _ _ _ _ (by omega)])); rw [htk, List.map_append, List.map_append]; rfl⟩) (fun j hj => ?_) (fun j h h2 => by omega) ?_)
  ·by_cases e1 : j = r
   ·subst e1
    exact seeO_eq (y := .row [.d (.i op'), .d (.i N), .osl c 1]) (by (repeat (first | rfl | rw [upd_same] | rw [upd_ne _ _ _ _ (by omega)]))) (by (repeat (first | rfl | rw [upd_same] | rw [upd_ne _ _ _ _ (by omega)]))) (seeO_row rfl (seeL_d (seeL_d (seeL_g 0 rfl rfl rfl seeL_nil))))
   ·exact seeO_eq (y := o j) (by (repeat (first | rfl | rw [upd_same] | rw [upd_ne _ _ _ _ (by omega)]))) (by (repeat (first | rfl | rw [upd_same] | rw [upd_ne _ _ _ _ (by omega)]))) (seeO_same rfl (fun r hr => hg.refs j r hr))
  ·(repeat (first | rfl | rw [upd_same] | rw [upd_ne _ _ _ _ (by omega)]))
   exact hg.fresh j (by omega)
  ·(repeat (first | exact seeE_nil | refine seeE_junk ?_ | refine seeE_d rfl ?_ | refine seeE_d (d_int (wrapN (by omega))) ?_ | refine seeE_g 0 rfl rfl rfl ?_ | refine seeE_v rfl (by simp [V.refs, V.refss] <;> first | omega | assumption) ?_ | refine seeE_c rfl (by simp [V.ids] <;> omega) ?_))
 ·simp at h2
  simp +contextual (disch := first | omega | simp only [go_sem, false_implies]) only [go_sem, wrap64, if_pos, and_self]
  have hk' : k = t.kids.length := by omega
  subst hk'
  refine hQ _ _ _ rfl rfl ?_ ?_ ?_ ?_ (fun j g1 g2 => ?_)
  ·omega
  ·exact (by repeat (first | exact hg.mono (by omega) | exact Good.nil | refine Good.upd ?_ (by omega) rfl | refine Good.upd ?_ (by omega) (hLr _ _ _ (by omega)) | refine Good.upd ?_ (by omega) (by simp [Obj'.refs, V.refss, V.refs] <;> omega)))
  ·(repeat (first | rfl | rw [upd_same] | rw [upd_ne _ _ _ _ (by omega)]))
  ·(repeat (first | rfl | rw [upd_same] | rw [upd_ne _ _ _ _ (by omega)]))
   rw [List.take_length]
  ·(repeat (first | rfl | rw [upd_same] | rw [upd_ne _ _ _ _ (by omega)]))
end Go.Proofs.YtealblliddhgiaaGreat
namespace Go.Proofs.YtealblliddhgiaaGreat
theorem subF_kids {t : Tm} {b : List (Int × Tm)} (hw : t.wf) (h8 : t.op ≠ 8) (h1 : t.op = 1 -> lkT b t.n = none) : Tm.mk t.op t.n (t.kids.map (kidS b)) = subF t.hgt b t := by
 have hw' := (Tm.wf_iff t).1 hw
 have hh : t.hgt = Tm.hgts t.kids + 1 := by rw [Tm.hgt_eq]; omega
 have hk : t.kids.map (kidS b) = t.kids.map (subF (Tm.hgts t.kids) b) := List.map_congr_left fun k hk => subF_more _ _ k b (hw'.2.2 k hk) (Nat.le_refl _) (Tm.hgts_mem hk)
 rw [hk, hh]
 simp only [subF]
 by_cases e : t.op = 1
 ·rw [if_pos e, h1 e]
  have := hw'.1 e
  rw [this]
  have h2 := Tm.eta t
  rw [this] at h2
  exact h2
 ·rw [if_neg e, if_neg h8]
theorem subF_var {t x : Tm} {b : List (Int × Tm)} (h1 : t.op = 1) (hl : lkT b t.n = some x) : subF t.hgt b t = x := by
 have hh : t.hgt = Tm.hgts t.kids + 1 := by rw [Tm.hgt_eq]; omega
 rw [hh]
 simp only [subF]
 rw [if_pos h1, hl]
theorem put_step {t : Tm} (hw : t.wf) (hz : t.sz <= 1000) (ih : ∀ k ∈ t.kids, PutC k) (hlet : t.op = 8 -> ∀ b, BOk b -> PCt Tryz.prog 91 [mpT b, t.d] (.ret [(subF t.hgt b t).d])) : PutC t := by
 intro b hb
 refine PCt.of_ev mix fn53 (by simp) ?_
 rw [c53]
 cases hl : lkT b t.n with
 | some x =>
   simp +contextual (disch := first | omega | simp only [go_sem, false_implies]) only [go_sem, wrap64, if_pos, lookT, hl]
   refine cond_intro (fun h1 => ?_) (fun h1 => ?_)
   ·have h1' : t.op = 1 := by simpa using h1
    rw [subF_var h1' hl]
    simp +contextual (disch := first | omega | simp only [go_sem, false_implies]) only [go_sem, wrap64, if_pos, and_self]
    refine call_give (hb.cp _ (lkT_mem hl)) ?_
    simp +contextual (disch := first | omega | simp only [go_sem, false_implies]) only [go_sem, wrap64, if_pos, and_self]
   ·have h1' : t.op ≠ 1 := by simpa using h1
    simp +contextual (disch := first | omega | simp only [go_sem, false_implies]) only [go_sem, wrap64, if_pos, and_self]
    refine cond_intro (fun h8 => ?_) (fun h8 => ?_)
    ·have h8' : t.op = 8 := by simpa using h8
     simp +contextual (disch := first | omega | simp only [go_sem, false_implies]) only [go_sem, wrap64, if_pos, and_self]
     refine call_give (hlet h8' b hb) ?_
     simp +contextual (disch := first | omega | simp only [go_sem, false_implies]) only [go_sem, wrap64, if_pos, and_self]
    ·have h8' : t.op ≠ 8 := by simpa using h8
     simp +contextual (disch := first | omega | simp only [go_sem, false_implies]) only [go_sem, wrap64, if_pos, and_self]
     rw [<- subF_kids hw h8' (fun e => absurd e h1')]
     refine putKids (b := b) (c := 32) (r := 26) (op' := t.op) (N := t.n) hz ih hb (by repeat (first | exact hg.mono (by omega) | exact Good.nil | refine Good.upd ?_ (by omega) rfl | refine Good.upd ?_ (by omega) (hLr _ _ _ (by omega)) | refine Good.upd ?_ (by omega) (by simp [Obj'.refs, V.refss, V.refs] <;> omega))) (by decide) (by decide) (by (repeat (first | rfl | rw [upd_same] | rw [upd_ne _ _ _ _ (by omega)]))) ?_ fun e' o' nx' e4 e7 g1 g2 g3 g4 g5 => ?_
     ·(repeat (first | exact backE_nil | refine backE_junk ?_ | refine backE_d rfl ?_ | refine backE_d (d_int (wrapN (by omega))) ?_ | refine backE_v rfl (by simp [V.refs, V.refss] <;> first | omega | assumption) ?_))
     have q1 : o' 1 = .row [.d (.i 0), .d (.i 0), .nils] := by rw [g5 1 (by decide) (by decide)]; (repeat (first | rfl | rw [upd_same] | rw [upd_ne _ _ _ _ (by omega)]))
     simp +contextual (disch := first | omega | simp only [go_sem, false_implies]) only [go_sem, wrap64, if_pos, e4, e7, g3, g4, q1]
     rw [Tm.d_mk]
 | none =>
   simp +contextual (disch := first | omega | simp only [go_sem, false_implies]) only [go_sem, wrap64, if_pos, lookT, hl]
   refine cond_intro (fun h8 => ?_) (fun h8 => ?_)
   ·have h8' : t.op = 8 := by simpa using h8
    simp +contextual (disch := first | omega | simp only [go_sem, false_implies]) only [go_sem, wrap64, if_pos, and_self]
    refine call_give (hlet h8' b hb) ?_
    simp +contextual (disch := first | omega | simp only [go_sem, false_implies]) only [go_sem, wrap64, if_pos, and_self]
   ·have h8' : t.op ≠ 8 := by simpa using h8
    simp +contextual (disch := first | omega | simp only [go_sem, false_implies]) only [go_sem, wrap64, if_pos, and_self]
    rw [<- subF_kids hw h8' (fun _ => hl)]
    refine putKids (b := b) (c := 32) (r := 26) (op' := t.op) (N := t.n) hz ih hb (by repeat (first | exact hg.mono (by omega) | exact Good.nil | refine Good.upd ?_ (by omega) rfl | refine Good.upd ?_ (by omega) (hLr _ _ _ (by omega)) | refine Good.upd ?_ (by omega) (by simp [Obj'.refs, V.refss, V.refs] <;> omega))) (by decide) (by decide) (by (repeat (first | rfl | rw [upd_same] | rw [upd_ne _ _ _ _ (by omega)]))) ?_ fun e' o' nx' e4 e7 g1 g2 g3 g4 g5 => ?_
    ·(repeat (first | exact backE_nil | refine backE_junk ?_ | refine backE_d rfl ?_ | refine backE_d (d_int (wrapN (by omega))) ?_ | refine backE_v rfl (by simp [V.refs, V.refss] <;> first | omega | assumption) ?_))
    have q1 : o' 1 = .row [.d (.i 0), .d (.i 0), .nils] := by rw [g5 1 (by decide) (by decide)]; (repeat (first | rfl | rw [upd_same] | rw [upd_ne _ _ _ _ (by omega)]))
    simp +contextual (disch := first | omega | simp only [go_sem, false_implies]) only [go_sem, wrap64, if_pos, e4, e7, g3, g4, q1]
    rw [Tm.d_mk]
end Go.Proofs.YtealblliddhgiaaGreat
namespace Go.Proofs.YtealblliddhgiaaGreat
theorem nextC_tms {K : V -> List (Nat × Obj') -> Prop} {id : Nat} {m : List (Int × Tm)} (h0 : m = [] -> K (.tup [.d (.bool false)]) [])
 (h1 : ∀ (i : Nat) k x, m[i]? = some (k, x) -> K (.tup [.d (.bool true), .d (.int .i64 k), .d x.d]) [(id, .mit (enc (D.int .i64) (tms (m.eraseIdx i))) (some (.int .i64 k, x.d)))]) : nextC K id (enc (D.int .i64) (tms m)) := by
 refine nextC_enc _ (fun h => h0 ?_) fun i k x h => ?_
 ·cases m with
  | nil => rfl
  | cons x l => simp [tms] at h
 ·unfold tms at h ⊢
  rw [List.getElem?_map] at h
  cases hm : m[i]? with
  | none => rw [hm] at h; cases h
  | some p =>
    rw [hm] at h
    simp at h
    obtain ⟨rfl, rfl⟩ := h
    have := h1 i p.1 p.2 (by rw [hm])
    rw [eraseIdx_map]
    exact this
@[reducible] def mapTm (m : List (Int × Tm)) : Obj' := .map 3 28 (enc (D.int .i64) (tms m))
theorem aSet_tms {m : List (Int × Tm)} {v : Int} {x : Tm} (h : lkT m v = none) : aSet v x.d (tms m) = tms (m ++ [(v, x)]) := by
 unfold aSet
 rw [aIdx_tms_none h]
 simp [tms]
theorem con_fv (t : Tm) (v : Int) : (varsF t).contains v = fvB v t := by
 rw [Bool.eq_iff_iff, List.contains_iff_mem]
 exact (varsF_spec t).2 v
def letB1 : IC := c91.snd.snd.snd.snd.snd.fst.snd.fst.fst
theorem cau_snoc (l : List (Int × Tm)) (p : Int × Tm) (body : Tm) (n : Int) : cauF (l ++ [p]) body n = (cauF l body n || (fvB p.1 body && fvB n p.2)) := by simp [cauF]
theorem inn_snoc (l : List (Int × Tm)) (p : Int × Tm) (n : Int) : innF (l ++ [p]) n = if p.1 = n then innF l n else innF l n ++ [p] := by
 unfold innF
 rw [List.filter_append]
 by_cases h : p.1 = n
 ·simp [h]
 ·simp [h]
theorem letL1 {t body : Tm} {b : List (Int × Tm)} (hb : BOk b) {o : Nat -> Obj'} {e : Nat -> V} {Q : Xit -> S -> Prop}
 (hg : Good o 29) (o0 : o 0 = .row t.row) (om : o 15 = mapTm []) (oi : o 28 = .mit (enc (D.int .i64) (tms b)) none)
 (he : backE 29 e [.d (mpT b), .junk, .junk, .ptr 0 0, .ptr 1 0, .ptr 13 0, .mp 15, .ptr 20 0, .d (mpD (setI (varsF body))), .d (.bool false), .junk, .junk, .junk, .junk, .junk, .junk, .junk, .junk, .junk, .junk, .junk, .junk, .junk, .junk, .junk, .junk, .junk, .junk, .junk, .junk, .junk, .junk, .junk, .junk, .ptr 28 0] 0)
 (hQ : ∀ e' o' nx' don, e' 0 = .d (mpT b) -> e' 3 = .ptr 0 0 -> e' 4 = .ptr 1 0 -> e' 5 = .ptr 13 0 -> e' 6 = .mp 15 -> e' 7 = .ptr 20 0 -> e' 9 = .d (.bool (cauF (innF b t.n) body t.n)) -> 29 <= nx' -> Good o' nx' -> (∀ j, j < 29 -> j ≠ 15 -> j ≠ 28 -> o' j = o j) -> o' 15 = mapTm (innF don t.n) -> don.Perm b -> Q (.exit 0) ⟨e', o', nx'⟩) :
 loopS 0 (fun Q s => evW Tryz.prog 102 0 false letB1 Q s) Q ⟨e, o, 29⟩ := by
 refine loop_fam (fun i : List (Int × Tm) × List (Int × Tm) × Option (D × D) => ⟨envJ [.d (mpT b), .junk, .junk, .ptr 0 0, .ptr 1 0, .ptr 13 0, .mp 15, .ptr 20 0, .d (mpD (setI (varsF body))), .d (.bool (cauF (innF i.2.1 t.n) body t.n)), .junk, .junk, .junk, .junk, .junk, .junk, .junk, .junk, .junk, .junk, .junk, .junk, .junk, .junk, .junk, .junk, .junk, .junk, .junk, .junk, .junk, .junk, .junk, .junk, .ptr 28 0], upd (upd o 15 (mapTm (innF i.2.1 t.n))) 28 (.mit (enc (D.int .i64) (tms i.1)) i.2.2), 29⟩)
  (fun i => (i.2.1 ++ i.1).Perm b) (fun i => i.1.length) (b, [], none) (List.Perm.refl _) ?_ ?_
 ·dsimp only
  refine SLe.backL _ (by decide) (Nat.le_refl _) ?_ (fun j hj => ?_) he
  ·exact (by repeat (first | exact hg.mono (by omega) | exact Good.nil | refine Good.upd ?_ (by omega) rfl | refine Good.upd ?_ (by omega) (hLr _ _ _ (by omega)) | refine Good.upd ?_ (by omega) (by simp [Obj'.refs, V.refss, V.refs] <;> omega)))
  ·by_cases e1 : j = 28
   ·subst e1; rw [upd_same]; exact oi
   ·rw [upd_ne _ _ _ _ e1]
    by_cases e2 : j = 15
    ·subst e2; rw [upd_same]; exact om
    ·rw [upd_ne _ _ _ _ e2]
 rintro ⟨rest, don, last⟩ hp
 replace hp : (don ++ rest).Perm b := hp
 dsimp only
 simp only [letB1, c91, IC.snd, IC.fst]
 simp +contextual (disch := first | omega | simp only [go_sem, false_implies]) only [go_sem, wrap64, if_pos, o0]
 refine nextC_tms (fun hr => ?_) fun i k x hm => ?_
 ·subst hr
  simp +contextual (disch := first | omega | simp only [go_sem, false_implies]) only [go_sem, wrap64, if_pos, and_self]
  have hp' : don.Perm b := by simpa using hp
  have hc : cauF (innF don t.n) body t.n = cauF (innF b t.n) body t.n := any_perm _ (hp'.filter _)
  refine hQ _ _ _ don ?_ ?_ ?_ ?_ ?_ ?_ ?_ ?_ ?_ (fun j g1 g2 g3 => ?_) ?_ hp'
  ·rfl
  ·rfl
  ·rfl
  ·rfl
  ·rfl
  ·rfl
  ·rw [<- hc]; rfl
  ·omega
  ·exact (by repeat (first | exact hg.mono (by omega) | exact Good.nil | refine Good.upd ?_ (by omega) rfl | refine Good.upd ?_ (by omega) (hLr _ _ _ (by omega)) | refine Good.upd ?_ (by omega) (by simp [Obj'.refs, V.refss, V.refs] <;> omega)))
  ·(repeat (first | rfl | rw [upd_same] | rw [upd_ne _ _ _ _ (by omega)]))
  ·(repeat (first | rfl | rw [upd_same] | rw [upd_ne _ _ _ _ (by omega)]))
 ·have hpe : (don ++ [(k, x)] ++ rest.eraseIdx i).Perm b := by
   rw [List.append_assoc]
   exact (List.Perm.append_left _ (erase_perm hm)).trans hp
  have hkx : (k, x) ∈ b := hpe.mem_iff.1 (by simp)
  have hxz : x.sz <= 1000 := hb.sz _ hkx
  have hlk : lkT (innF don t.n) k = none := by
   rw [lkT_none]
   intro h3
   have h4 : k ∈ don.map (·.1) := by
    obtain ⟨p, h5, h6⟩ := List.mem_map.1 h3
    exact List.mem_map.2 ⟨p, (List.mem_filter.1 h5).1, h6⟩
   have h5 := (hpe.map (·.1)).nodup_iff.2 hb.keys
   rw [List.map_append, List.map_append, List.nodup_append, List.nodup_append] at h5
   exact h5.1.2.2 k h4 k (by simp) rfl
  have hlen : (rest.eraseIdx i).length < rest.length := by
   obtain ⟨hi, _⟩ := List.getElem?_eq_some_iff.1 hm
   rw [List.length_eraseIdx]; simp [hi]; omega
  simp +contextual (disch := first | omega | simp only [go_sem, false_implies]) only [go_sem, wrap64, if_pos, o0]
  refine cond_intro (fun h2 => ?_) (fun h2 => ?_)
  ·have h2' : k ≠ t.n := by simpa using h2
   have hin : innF (don ++ [(k, x)]) t.n = innF don t.n ++ [(k, x)] := by rw [inn_snoc, if_neg h2']
   have hcn : cauF (innF (don ++ [(k, x)]) t.n) body t.n = (cauF (innF don t.n) body t.n || (fvB k body && fvB t.n x)) := by rw [hin, cau_snoc]
   have nxt : ∀ (e' : Nat -> V) (o' : Nat -> Obj') (n' : Nat) (c : Bool), c = cauF (innF (don ++ [(k, x)]) t.n) body t.n -> Good o' n' -> 29 <= n' -> (∀ j, j < 29 -> j ≠ 15 -> j ≠ 28 -> o' j = o j) -> o' 15 = mapTm (innF (don ++ [(k, x)]) t.n) -> o' 28 = .mit (enc (D.int .i64) (tms (rest.eraseIdx i))) (some (.int .i64 k, x.d)) ->
    backE 29 e' [.d (mpT b), .junk, .junk, .ptr 0 0, .ptr 1 0, .ptr 13 0, .mp 15, .ptr 20 0, .d (mpD (setI (varsF body))), .d (.bool c), .junk, .junk, .junk, .junk, .junk, .junk, .junk, .junk, .junk, .junk, .junk, .junk, .junk, .junk, .junk, .junk, .junk, .junk, .junk, .junk, .junk, .junk, .junk, .junk, .ptr 28 0] 0 ->
    nextS 0 (fun i => ⟨envJ [.d (mpT b), .junk, .junk, .ptr 0 0, .ptr 1 0, .ptr 13 0, .mp 15, .ptr 20 0, .d (mpD (setI (varsF body))), .d (.bool (cauF (innF i.2.1 t.n) body t.n)), .junk, .junk, .junk, .junk, .junk, .junk, .junk, .junk, .junk, .junk, .junk, .junk, .junk, .junk, .junk, .junk, .junk, .junk, .junk, .junk, .junk, .junk, .junk, .junk, .ptr 28 0], upd (upd o 15 (mapTm (innF i.2.1 t.n))) 28 (.mit (enc (D.int .i64) (tms i.1)) i.2.2), 29⟩) (fun i : List (Int × Tm) × List (Int × Tm) × Option (D × D) => (i.2.1 ++ i.1).Perm b) (fun i => i.1.length) (rest, don, last) ⟨e', o', n'⟩ := by
    intro e' o' n' c hc hg' hn hold h15 h28 he'
    subst hc
    refine nextS_intro (rest.eraseIdx i, don ++ [(k, x)], some (.int .i64 k, x.d)) hpe hlen (SLe.backL _ (by decide) hn ?_ (fun j hj => ?_) he')
    ·dsimp only; exact (by repeat (first | exact hg.mono (by omega) | exact Good.nil | refine Good.upd ?_ (by omega) rfl | refine Good.upd ?_ (by omega) (hLr _ _ _ (by omega)) | refine Good.upd ?_ (by omega) (by simp [Obj'.refs, V.refss, V.refs] <;> omega)))
    ·dsimp only
     by_cases e1 : j = 28
     ·subst e1; rw [upd_same]; exact h28
     ·rw [upd_ne _ _ _ _ e1]
      by_cases e2 : j = 15
      ·subst e2; rw [upd_same]; exact h15
      ·rw [upd_ne _ _ _ _ e2]; exact hold j hj e2 e1
   cases hc : cauF (innF don t.n) body t.n with
   | true =>
     simp +contextual (disch := first | omega | simp only [go_sem, false_implies]) only [go_sem, wrap64, if_pos, o0, aSet_tms hlk, hc, mpD_zip, con_fv]
     refine end_intro (by decide) ?_
     simp +contextual (disch := first | omega | simp only [go_sem, false_implies]) only [go_sem, wrap64, if_pos, and_self]
     refine nxt _ _ _ true (by rw [hcn, hc]; rfl) (by repeat (first | exact hg.mono (by omega) | exact Good.nil | refine Good.upd ?_ (by omega) rfl | refine Good.upd ?_ (by omega) (hLr _ _ _ (by omega)) | refine Good.upd ?_ (by omega) (by simp [Obj'.refs, V.refss, V.refs] <;> omega))) (by omega) (fun j g1 g2 g3 => by (repeat (first | rfl | rw [upd_same] | rw [upd_ne _ _ _ _ (by omega)]))) (by rw [hin]; (repeat (first | rfl | rw [upd_same] | rw [upd_ne _ _ _ _ (by omega)]))) (by (repeat (first | rfl | rw [upd_same] | rw [upd_ne _ _ _ _ (by omega)]))) ?_
     (repeat (first | exact backE_nil | refine backE_junk ?_ | refine backE_d rfl ?_ | refine backE_d (d_int (wrapN (by omega))) ?_ | refine backE_v rfl (by simp [V.refs, V.refss] <;> first | omega | assumption) ?_))
   | false =>
     cases hf : fvB k body with
     | false =>
       simp +contextual (disch := first | omega | simp only [go_sem, false_implies]) only [go_sem, wrap64, if_pos, o0, aSet_tms hlk, hc, hf, mpD_zip, con_fv]
       refine end_intro (by decide) ?_
       simp +contextual (disch := first | omega | simp only [go_sem, false_implies]) only [go_sem, wrap64, if_pos, and_self]
       refine nxt _ _ _ false (by rw [hcn, hc, hf]; rfl) (by repeat (first | exact hg.mono (by omega) | exact Good.nil | refine Good.upd ?_ (by omega) rfl | refine Good.upd ?_ (by omega) (hLr _ _ _ (by omega)) | refine Good.upd ?_ (by omega) (by simp [Obj'.refs, V.refss, V.refs] <;> omega))) (by omega) (fun j g1 g2 g3 => by (repeat (first | rfl | rw [upd_same] | rw [upd_ne _ _ _ _ (by omega)]))) (by rw [hin]; (repeat (first | rfl | rw [upd_same] | rw [upd_ne _ _ _ _ (by omega)]))) (by (repeat (first | rfl | rw [upd_same] | rw [upd_ne _ _ _ _ (by omega)]))) ?_
       (repeat (first | exact backE_nil | refine backE_junk ?_ | refine backE_d rfl ?_ | refine backE_d (d_int (wrapN (by omega))) ?_ | refine backE_v rfl (by simp [V.refs, V.refss] <;> first | omega | assumption) ?_))
     | true =>
       simp +contextual (disch := first | omega | simp only [go_sem, false_implies]) only [go_sem, wrap64, if_pos, o0, aSet_tms hlk, hc, hf, mpD_zip, con_fv]
       refine callD_give (freeOf_d x (Tm.fits_sz x (by omega))) ?_
       simp +contextual (disch := first | omega | simp only [go_sem, false_implies]) only [go_sem, wrap64, if_pos, o0, hf, mpD_zip, con_fv]
       refine end_intro (by decide) ?_
       simp +contextual (disch := first | omega | simp only [go_sem, false_implies]) only [go_sem, wrap64, if_pos, and_self]
       refine nxt _ _ _ (fvB t.n x) (by rw [hcn, hc, hf]; simp) (by repeat (first | exact hg.mono (by omega) | exact Good.nil | refine Good.upd ?_ (by omega) rfl | refine Good.upd ?_ (by omega) (hLr _ _ _ (by omega)) | refine Good.upd ?_ (by omega) (by simp [Obj'.refs, V.refss, V.refs] <;> omega))) (by omega) (fun j g1 g2 g3 => by (repeat (first | rfl | rw [upd_same] | rw [upd_ne _ _ _ _ (by omega)]))) (by rw [hin]; (repeat (first | rfl | rw [upd_same] | rw [upd_ne _ _ _ _ (by omega)]))) (by (repeat (first | rfl | rw [upd_same] | rw [upd_ne _ _ _ _ (by omega)]))) ?_
       (repeat (first | exact backE_nil | refine backE_junk ?_ | refine backE_d rfl ?_ | refine backE_d (d_int (wrapN (by omega))) ?_ | refine backE_v rfl (by simp [V.refs, V.refss] <;> first | omega | assumption) ?_))
  ·have h2' : k = t.n := by simpa using h2
   have hin : innF (don ++ [(k, x)]) t.n = innF don t.n := by rw [inn_snoc, if_pos h2']
   simp +contextual (disch := first | omega | simp only [go_sem, false_implies]) only [go_sem, wrap64, if_pos, o0]
   refine nextS_intro (rest.eraseIdx i, don ++ [(k, x)], some (.int .i64 k, x.d)) hpe hlen (SLe.backL _ (by decide) (by omega) ?_ (fun j hj => ?_) ?_)
   ·dsimp only; exact (by repeat (first | exact hg.mono (by omega) | exact Good.nil | refine Good.upd ?_ (by omega) rfl | refine Good.upd ?_ (by omega) (hLr _ _ _ (by omega)) | refine Good.upd ?_ (by omega) (by simp [Obj'.refs, V.refss, V.refs] <;> omega)))
   ·dsimp only
    rw [hin]
    by_cases e1 : j = 28
    ·subst e1; (repeat (first | rfl | rw [upd_same] | rw [upd_ne _ _ _ _ (by omega)]))
    ·by_cases e2 : j = 15
     ·subst e2; (repeat (first | rfl | rw [upd_same] | rw [upd_ne _ _ _ _ (by omega)]))
     ·(repeat (first | rfl | rw [upd_same] | rw [upd_ne _ _ _ _ (by omega)]))
   ·dsimp only
    rw [hin]
    (repeat (first | exact backE_nil | refine backE_junk ?_ | refine backE_d rfl ?_ | refine backE_d (d_int (wrapN (by omega))) ?_ | refine backE_v rfl (by simp [V.refs, V.refss] <;> first | omega | assumption) ?_))
end Go.Proofs.YtealblliddhgiaaGreat
