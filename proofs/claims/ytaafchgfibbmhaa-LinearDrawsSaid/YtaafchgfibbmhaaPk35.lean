/-
  A PART OF THE PROOF (put together by program): several texts, one behind the other. Conditions: none.
-/
import Derived.OpenShut
import Derived.Carry
import Derived.Handed
import Derived.JoinedOf
import Derived.ProofKit
import Derived.Test.YtaafchgfibbmhaaPk34
set_option linter.unusedSimpArgs false
set_option linter.unusedVariables false
section
namespace Go.Proofs.Ytaafchgfibbmhaa
open Go.ChangeShapes Go.WideShapes Go.RowKit
def leafsF (P : Program) (rec : TypeId → Option (List TypeId)) : Nat → List Field → Option (List TypeId)
  | _, [] => some []
  | off, f :: fs => if f.offset = off then match rec f.type with
    | some l => if P.cellsOf f.type = l.length then (leafsF P rec (off + l.length) fs).map (l ++ ·) else none
    | none => none else none
def leafs (P : Program) : Nat → TypeId → Option (List TypeId)
  | 0, _ => none
  | n + 1, t => match P.underlying t with
    | some .bool | some (.int _) | some .string | some (.slice _) => some [t]
    | some (.struct fs) => leafsF P (leafs P n) 0 fs.toList
    | some (.array k e) => match leafs P n e with
      | some l => if P.cellsOf e = l.length then some (List.replicate k l).flatten else none
      | none => none
    | _ => none
def isAgg (P : Program) (t : TypeId) : Bool := match P.underlying t with
  | some (.struct _) | some (.array _ _) => true
  | _ => false
mutual

def D.hasT (P : Program) : D → TypeId → Prop
  | .int k n, t => P.underlying t = some (.int k) ∧ (Lit.int k n).wf = true
  | .bool _, t => P.underlying t = some .bool
  | .str l, t => P.underlying t = some .string ∧ l.length ≤ maxLen
  | .sl es, t => ∃ e, P.underlying t = some (.slice e) ∧ es.length ≤ maxLen ∧ D.allT P es e
  | .agg cs, t => isAgg P t = true ∧ ∃ ls, leafs P 20 t = some ls ∧ D.hasTs P cs ls
  | _, _ => False
def D.allT (P : Program) : List D → TypeId → Prop
  | [], _ => True
  | x :: l, e => D.hasT P x e ∧ D.allT P l e
def D.hasTs (P : Program) : List D → List TypeId → Prop
  | [], ts => ts = []
  | x :: l, ts => ∃ t r, ts = t :: r ∧ D.hasT P x t ∧ D.hasTs P l r
end
def plainTs (P : Program) (T : List TypeId) : Bool := T.all fun t => match leafs P 20 t with
  | some l => decide (l.length = P.cellsOf t) && decide (0 < l.length) && l.all fun u => match P.underlying u with
    | some (.slice e) => T.contains e
    | _ => true
  | none => false
theorem hasTs_append {P : Program} : ∀ {xs ys : List D} {l r : List TypeId}, D.hasTs P xs l → D.hasTs P ys r → D.hasTs P (xs ++ ys) (l ++ r)
  | [], _, _, _, h, h' => by simp only [D.hasTs] at h; subst h; exact h'
  | x :: xs, _, _, _, h, h' => by
    obtain ⟨t, r, rfl, h1, h2⟩ := h
    exact ⟨t, _, rfl, h1, hasTs_append h2 h'⟩
theorem dens_append {B : Nat → Prop} {w : World} : ∀ {xs ys : List D} {l r : List Value}, D.dens B w xs l → D.dens B w ys r → D.dens B w (xs ++ ys) (l ++ r)
  | [], _, _, _, h, h' => by simp only [D.dens] at h; subst h; exact h'
  | x :: xs, _, _, _, h, h' => by
    obtain ⟨t, r, rfl, h1, h2⟩ := h
    exact ⟨t, _, rfl, h1, dens_append h2 h'⟩
theorem Flat.append {l r : List Value} (h : Flat l) (h' : Flat r) : Flat (l ++ r) := fun u hu => (List.mem_append.1 hu).elim (h u) (h' u)
abbrev noB : Nat → Prop := fun _ => False
section
variable {H : Type} {enc : TypeId × Value → H} {P : Program} {W : World} {T : List TypeId} {b0 : Nat}
def ReadsAs (P : Program) (W : World) (l : List TypeId) (cs : List Value) : Prop := ∃ xs, D.hasTs P xs l ∧ D.dens noB W xs cs ∧ Flat cs
theorem ReadsAs.append {l r : List TypeId} {cs ds : List Value} (h : ReadsAs P W l cs) (h' : ReadsAs P W r ds) : ReadsAs P W (l ++ r) (cs ++ ds) := by
  obtain ⟨xs, a1, a2, a3⟩ := h
  obtain ⟨ys, b1, b2, b3⟩ := h'
  exact ⟨xs ++ ys, hasTs_append a1 b1, dens_append a2 b2, a3.append b3⟩
theorem ReadsAs.length {l : List TypeId} {cs : List Value} (h : ReadsAs P W l cs) : cs.length = l.length := by
  obtain ⟨xs, a1, a2, _⟩ := h
  rw [D.dens_length _ _ a2]
  clear a2
  induction xs generalizing l with
  | nil => simp only [D.hasTs] at a1; simp [a1]
  | cons x xs ih => obtain ⟨t, r, rfl, _, h⟩ := a1; simp [ih h]
theorem ReadsAs.nil : ReadsAs P W [] [] := ⟨[], rfl, rfl, fun _ h => by cases h⟩
theorem dropTake {α : Type} (cs : List α) (o k : Nat) : cs.drop o = (cs.drop o).take k ++ cs.drop (o + k) := by
  rw [← List.drop_drop]; exact (List.take_append_drop k _).symm
theorem fields_reads {rec : TypeId → Option (List TypeId)} {cs : List Value} {rd : TypeId → List Value → Prop}
    (hrec : ∀ t l vs, rec t = some l → (∀ u ∈ l, ∀ e, P.underlying u = some (.slice e) → e ∈ T) → P.cellsOf t = l.length → rd t vs → ReadsAs P W l vs) :
    ∀ (fs : List Field) (off : Nat) (l : List TypeId), leafsF P rec off fs = some l → (∀ u ∈ l, ∀ e, P.underlying u = some (.slice e) → e ∈ T) → (∀ f ∈ fs, rd f.type ((cs.drop f.offset).take (P.cellsOf f.type))) →
      off + l.length = cs.length → ReadsAs P W l (cs.drop off)
  | [], off, l, h, _, _, hl => by
    simp only [leafsF, Option.some.injEq] at h
    subst h
    have : cs.drop off = [] := List.drop_eq_nil_of_le (by simp at hl; omega)
    rw [this]; exact ReadsAs.nil
  | f :: fs, off, l, h, hT, hr, hl => by
    simp only [leafsF] at h
    split at h
    · rename_i ho
      split at h
      · rename_i l1 h1
        split at h
        · rename_i hc
          simp only [Option.map_eq_some_iff] at h
          obtain ⟨r, h2, rfl⟩ := h
          have hd := hr f (by simp)
          rw [ho, hc] at hd
          rw [dropTake cs off l1.length]
          simp only [List.length_append] at hl
          exact (hrec f.type l1 _ h1 (fun u hu => hT u (by simp [hu])) hc hd).append (fields_reads hrec fs _ r h2 (fun u hu => hT u (by simp [hu])) (fun f hf => hr f (by simp [hf])) (by omega))
        · cases h
      · cases h
    · cases h
theorem array_reads {l : List TypeId} {cs : List Value} : ∀ (k i : Nat), (∀ j, j < k → ReadsAs P W l ((cs.drop ((i + j) * l.length)).take l.length)) → (i + k) * l.length = cs.length → ReadsAs P W (List.replicate k l).flatten (cs.drop (i * l.length))
  | 0, i, _, hl => by
    have : cs.drop (i * l.length) = [] := List.drop_eq_nil_of_le (by simp at hl; omega)
    rw [this]; exact ReadsAs.nil
  | k + 1, i, h, hl => by
    rw [List.replicate_succ, List.flatten_cons, dropTake cs (i * l.length) l.length]
    refine (by simpa using h 0 (by omega) : ReadsAs P W l _).append ?_
    rw [show i * l.length + l.length = (i + 1) * l.length by rw [Nat.add_mul]; omega]
    refine array_reads k (i + 1) (fun j hj => ?_) (by rw [← hl]; congr 1; omega)
    have := h (j + 1) (by omega)
    rwa [show i + (j + 1) = i + 1 + j by omega] at this
theorem as_value {e : TypeId} {l : List TypeId} {cs : List Value} (hl : leafs P 20 e = some l) (h : ReadsAs P W l cs) : ∃ (ev : Value) (x : D), ev.cells.toList = cs ∧ D.hasT P x e ∧ D.den noB W x ev ∧ (isAgg P e = true → ev = .agg cs.toArray) ∧ (isAgg P e = false → cs = [ev] ∧ ev.oneCell' = true) := by
  obtain ⟨xs, h1, h2, h3⟩ := h
  cases ha : isAgg P e with
  | true => exact ⟨.agg cs.toArray, .agg xs, by simp [Value.cells], ⟨ha, l, hl, h1⟩, ⟨_, rfl, by simpa using h2, by simpa using h3⟩, fun _ => rfl, (fun h => by cases h)⟩
  | false =>
    have : l = [e] := by
      unfold leafs at hl
      unfold isAgg at ha
      split at hl <;> simp_all
    subst this
    obtain ⟨t, r, e1, h4, h5⟩ : ∃ x r, xs = x :: r ∧ D.hasT P x e ∧ D.hasTs P r [] := by
      cases xs with
      | nil => simp [D.hasTs] at h1
      | cons x r => obtain ⟨t, r', e1, h4, h5⟩ := h1; injection e1 with e1 e2; subst e1; subst e2; exact ⟨x, r, rfl, h4, h5⟩
    subst e1
    have : r = [] := by cases r with
      | nil => rfl
      | cons y r => obtain ⟨_, _, e, _⟩ := h5; cases e
    subst this
    obtain ⟨u, us, rfl, h6, h7⟩ := h2
    simp only [D.dens] at h7
    subst h7
    have ho := h3 u (by simp)
    refine ⟨u, t, ?_, h4, h6, (fun h => by cases h), fun _ => ⟨rfl, ho⟩⟩
    cases u <;> simp_all [Value.oneCell', Value.cells]
theorem plain_at (hp : plainTs P T = true) {t : TypeId} (ht : t ∈ T) : ∃ l, leafs P 20 t = some l ∧ l.length = P.cellsOf t ∧ 0 < l.length ∧ ∀ u ∈ l, ∀ e, P.underlying u = some (.slice e) → e ∈ T := by
  have := List.all_eq_true.1 hp t ht
  split at this
  · rename_i l hl
    simp only [Bool.and_eq_true, decide_eq_true_eq, List.all_eq_true] at this
    refine ⟨l, hl, this.1.1, this.1.2, fun u hu e he => ?_⟩
    have := this.2 u hu
    rw [he] at this
    simpa using this
  · cases this
theorem trod_reads (hp : plainTs P T = true) : ∀ (n m : Nat) (t : TypeId) (l : List TypeId) (cs : List Value) (x : DataW H × List MemPlace), leafs P m t = some l → (∀ u ∈ l, ∀ e, P.underlying u = some (.slice e) → e ∈ T) →
    P.cellsOf t = l.length → DataW.trod enc P W 0 (fun _ => true) true n t cs = some x → ReadsAs P W l cs := by
  intro n
  induction n with
  | zero => intro m t l cs x _ _ _ h; simp [DataW.trod] at h
  | succ n ih =>
    intro m t l cs x hl hT hc h
    cases m with
    | zero => simp [leafs] at hl
    | succ m =>
    unfold leafs at hl
    split at hl
    · rename_i hu
      injection hl with hl; subst hl
      obtain ⟨b, rfl, _⟩ := DataW.trod_bool hu h
      exact ⟨[.bool b], ⟨t, [], rfl, hu, rfl⟩, ⟨_, _, rfl, rfl, rfl⟩, by simp [Flat, Value.oneCell']⟩
    · rename_i k hu
      injection hl with hl; subst hl
      obtain ⟨b, rfl, _, hw⟩ := DataW.trod_int hu h
      exact ⟨[.int k b], ⟨t, [], rfl, ⟨hu, hw⟩, rfl⟩, ⟨_, _, rfl, rfl, rfl⟩, by simp [Flat, Value.oneCell']⟩
    · rename_i hu
      injection hl with hl; subst hl
      obtain ⟨s, rfl, _, hw⟩ := DataW.trod_string hu h
      exact ⟨[.str s.data.toList], ⟨t, [], rfl, ⟨hu, by simpa using hw⟩, rfl⟩, ⟨_, _, rfl, ⟨s, rfl, rfl⟩, rfl⟩, by simp [Flat, Value.oneCell']⟩
    · rename_i e hu
      injection hl with hl; subst hl
      rcases DataW.trod_slice hu h with ⟨rfl, _⟩ | ⟨a, len, cap, elems, rest, n', hn, rfl, _, _, h2, h3, h4, h5, h6, _⟩
      · exact ⟨[.sl []], ⟨t, [], rfl, ⟨e, hu, by simp, trivial⟩, rfl⟩, ⟨_, _, rfl, ⟨none, 0, 0, rfl, rfl, by simp, fun _ => rfl, 0, (fun a ha => by cases ha)⟩, rfl⟩, by simp [Flat, Value.oneCell']⟩
      · injection hn with hn; subst hn
        obtain ⟨l', g1, g2, g3, g4⟩ := plain_at hp (hT t (by simp) e hu)
        have at' : ∀ i, i < len → ∃ ev : Value, ∃ y : D, ev.cells.size = P.cellsOf e ∧ CellsAt noB W (a.add (i * P.cellsOf e)) ev.cells ∧ D.den noB W y ev ∧ D.hasT P y e := by
          intro i hi
          have := h5 i hi
          rw [List.getElem?_eq_getElem (by omega)] at this
          obtain ⟨ci, k1, k2⟩ := Option.bind_eq_some_iff.1 this
          obtain ⟨_, k3, k4⟩ := World.cells?_some k1
          have k5 := ih 20 e l' ci _ g1 g4 g2.symm k2
          obtain ⟨ev, y, q1, q2, q3, _, _⟩ := as_value g1 k5
          have q4 : ev.cells = ci.toArray := by rw [← q1]
          refine ⟨ev, y, by rw [q4]; simp [k5.length, g2], fun j u hj => ⟨?_, fun h => h⟩, q3, q2⟩
          rw [q4] at hj
          have hj' : ci[j]? = some u := by simpa using hj
          have hlt : j < P.cellsOf e := by rw [← g2, ← k5.length]; exact (List.getElem?_eq_some_iff.1 hj').1
          rw [k4 j hlt]; exact hj'
        have list : ∀ k i, i + k = len → ∃ es, es.length = k ∧ D.allT P es e ∧ D.elems noB W (P.cellsOf e) a i es := by
          intro k
          induction k with
          | zero => intro i _; exact ⟨[], rfl, trivial, trivial⟩
          | succ k ihk =>
            intro i hi
            obtain ⟨es, e1, e2, e3⟩ := ihk (i + 1) (by omega)
            obtain ⟨ev, y, y1, y2, y3, y4⟩ := at' i (by omega)
            exact ⟨y :: es, by simp [e1], ⟨y4, e2⟩, ⟨ev, y1, y2, y3⟩, e3⟩
        obtain ⟨es, e1, e2, e3⟩ := list len 0 (by omega)
        have hspot : cap ≠ 0 → a.spot = none := by
          intro hcap
          have cell0 : ∀ z, (W.cells? 0 (a.add (0 * P.cellsOf e)) (P.cellsOf e)).bind (DataW.trod enc P W 0 (fun _ => true) true n e) = some z → a.spot = none := by
            intro z hz
            obtain ⟨ci, k1, k2⟩ := Option.bind_eq_some_iff.1 hz
            obtain ⟨_, k3, k4⟩ := World.cells?_some k1
            have k5 := k4 0 (by omega)
            rw [List.getElem?_eq_getElem (by omega)] at k5
            simpa [Addr.add] using World.cell?_spot k5
          by_cases hlen : 0 < len
          · have := h5 0 hlen
            rw [List.getElem?_eq_getElem (by omega)] at this
            exact cell0 _ this
          · obtain ⟨h7, h8⟩ := h6 rfl
            have := h8 0 (by omega)
            rw [List.getElem?_eq_getElem (by omega), show (len + 0) = 0 by omega] at this
            exact cell0 _ this
        exact ⟨[.sl es], ⟨t, [], rfl, ⟨e, hu, by omega, e2⟩, rfl⟩, ⟨_, _, rfl, ⟨some a, len, cap, rfl, e1.symm, h2, (fun h => by cases h), P.cellsOf e, (fun a' ha' => by injection ha' with ha'; subst ha'; exact ⟨hspot, e3⟩)⟩, rfl⟩, by simp [Flat, Value.oneCell']⟩
    · rename_i fs hu
      obtain ⟨xs, n', hn, _, h2, h3, h4⟩ := DataW.trod_struct hu h
      injection hn with hn; subst hn
      have := fields_reads (P := P) (W := W) (T := T) (cs := cs) (rd := fun t vs => ∃ y, DataW.trod enc P W 0 (fun _ => true) true n t vs = some y) (rec := leafs P m) (fun t l vs q1 q2 q3 ⟨y, q4⟩ => ih m t l vs y q1 q2 q3 q4) fs.toList 0 l hl hT ?_ (by omega)
      · simpa using this
      · intro f hf
        obtain ⟨i, hi, hfi⟩ := List.getElem_of_mem hf
        have := h4 i f (by simp at hi; simp [← hfi, Array.getElem?_eq_getElem hi])
        rw [List.getElem?_eq_getElem (by simp at hi; omega)] at this
        exact ⟨_, this⟩
    · rename_i k e hu
      split at hl
      · rename_i l' hl'
        split at hl
        · rename_i hce
          injection hl with hl; subst hl
          obtain ⟨xs, n', hn, _, h2, h3, h4⟩ := DataW.trod_array hu h
          injection hn with hn; subst hn
          have hlen : cs.length = k * l'.length := by rw [h2, hc]; simp
          have hT' : 0 < k → ∀ u ∈ l', ∀ e, P.underlying u = some (.slice e) → e ∈ T := fun hk u hu => hT u (List.mem_flatten.2 ⟨l', List.mem_replicate.2 ⟨by omega, rfl⟩, hu⟩)
          have := array_reads (P := P) (W := W) (l := l') (cs := cs) k 0 (fun j hj => ?_) (by rw [hlen]; simp)
          · simpa using this
          · have := h4 j hj
            rw [hce, List.getElem?_eq_getElem (by omega)] at this
            rw [Nat.zero_add]
            exact ih m e l' _ _ hl' (hT' (by omega)) hce this
        · cases hl
      · cases hl
    · cases hl
theorem args_data (hp : plainTs P T = true) : ∀ (ts : List TypeId) (vs : List Value) (ds : List (DataW H)) (p : List MemPlace), (∀ t ∈ ts, t ∈ T) → DataW.TrodAll enc P W 0 (fun _ => true) true ts vs ds p →
    (∀ (j : Nat) t v, ts[j]? = some t → vs[j]? = some v → Value.okWide P W .any b0 t v) → ∃ xs, D.hasTs P xs ts ∧ D.dens noB W xs vs
  | [], vs, ds, p, _, h, _ => by
    obtain ⟨rfl, rfl, rfl⟩ := trodAll_nil h
    exact ⟨[], rfl, rfl⟩
  | t :: ts, vs, ds, p, hT, h, hv => by
    obtain ⟨v, vs', d, ds', p1, q1, rfl, rfl, rfl, ⟨n, h1⟩, h2⟩ := trodAll_cons h
    obtain ⟨xs, a1, a2⟩ := args_data hp ts vs' ds' q1 (fun t ht => hT t (by simp [ht])) h2 (fun j t v h1 h2 => hv (j + 1) t v (by simpa using h1) (by simpa using h2))
    obtain ⟨l, g1, g2, g3, g4⟩ := plain_at hp (hT t (by simp))
    obtain ⟨ev, x, q1, q2, q3, q4, q5⟩ := as_value g1 (trod_reads hp n 20 t l _ _ g1 g4 g2.symm h1)
    have hok := hv 0 t v rfl rfl
    have : ev = v := by
      cases ha : isAgg P t with
      | true =>
        have : ∃ cs, v = .agg cs := by
          unfold isAgg at ha
          unfold Value.okWide at hok
          split at ha
          · rename_i hu; rw [hu] at hok; obtain ⟨cs, rfl, _⟩ := hok; exact ⟨cs, rfl⟩
          · rename_i hu; rw [hu] at hok; obtain ⟨cs, rfl, _⟩ := hok; exact ⟨cs, rfl⟩
          · cases ha
        obtain ⟨cs, rfl⟩ := this
        rw [q4 ha]
        simp [Value.cells]
      | false =>
        obtain ⟨q6, q7⟩ := q5 ha
        cases v with
        | agg cs =>
          exfalso
          unfold isAgg at ha
          unfold Value.okWide at hok
          split at hok
          · rename_i hu; rw [hu] at ha; cases ha
          · rename_i hu; rw [hu] at ha; cases ha
          · unfold Cell.okWide at hok
            split at hok
            case h_8 =>
              unfold Cell.ok at hok
              split at hok <;> first | exact hok | contradiction
            all_goals contradiction
        | _ => simp only [Value.cells, List.cons.injEq, and_true] at q6; exact q6.symm
    subst this
    exact ⟨x :: xs, ⟨t, ts, rfl, q2, a1⟩, ⟨_, _, rfl, q3, a2⟩⟩
theorem Keep.below {w w' : World} (h : Keep (fun _ => False) w w') : Below w.heap.size w w' := ⟨h.os, h.tape, h.output, h.size, fun k hk => h.block k hk (fun h => h)⟩
theorem args_stay (hl : laidOutB P = true) {W' : World} {sp : Nat → Bool} : ∀ {ts : List TypeId} {vs : List Value} {ds : List (DataW H)} {p : List MemPlace}, (∀ t ∈ ts, P.readableRec t = true ∧ t < P.types.size) → DataW.TrodAll enc P W 0 (fun _ => true) true ts vs ds p →
    (∀ x ∈ p, W.sameAt W' x ∧ sp x.block = true) → DataW.TrodAll enc P W' 0 sp true ts vs ds p
  | [], vs, ds, p, _, h, _ => by
    obtain ⟨rfl, rfl, rfl⟩ := trodAll_nil h
    exact trodAll_mk0
  | t :: ts, vs, ds, p, hr, h, hs => by
    obtain ⟨v, vs', d, ds', p1, q1, rfl, rfl, rfl, h1, h2⟩ := trodAll_cons h
    exact ⟨p1, q1, WideElems.Trod_stays hl (hr t (by simp)).1 (hr t (by simp)).2 h1 (fun x hx => (hs x (by simp [hx])).1) (fun x hx => (hs x (by simp [hx])).2), args_stay hl (fun t ht => hr t (by simp [ht])) h2 (fun x hx => hs x (by simp [hx])), rfl⟩
theorem len_eq {sp : Nat → Bool} : ∀ {ts : List TypeId} {vs : List Value} {ds : List (DataW H)} {ps : List MemPlace}, DataW.TrodAll enc P W 0 sp true ts vs ds ps → ds.length = ts.length
  | [], _, _, _, h => by obtain ⟨_, rfl, _⟩ := trodAll_nil h; rfl
  | _ :: _, _, _, _, h => by
    obtain ⟨_, _, _, _, _, _, _, rfl, _, _, h2⟩ := trodAll_cons h
    simp [len_eq h2]
theorem law_contract {f : FuncId} {fn : Func} {s : ChangeSpec} {tb : TypeId} {fresh handsOn again : Bool} (hres : fn.resultTypes = #[tb]) (htb : P.underlying tb = some .bool) (hvars : s.vars = [])
    (hspec : ∀ ds : List (DataW H), ds.length = fn.params.toList.length → s.fn H ds = { results := [.lit (.bool true)], args := ds }) (hp : plainTs P T = true) (hT : ∀ t ∈ fn.params.toList, t ∈ T) (hl : laidOutB P = true)
    (hr : ∀ t ∈ fn.params.toList, P.readableRec t = true ∧ t < P.types.size) (law : ∀ xs, D.hasTs P xs fn.params.toList → PCt P f xs (.ret [.bool true]))
    (base : Nat) (args : Array Value) (ds gs : List (DataW H)) (before : List MemPlace)
    (hval : ∀ (j : Nat) t v, fn.params[j]? = some t → args[j]? = some v → Value.okWide P W .any base t v) (hW : DataW.Whole enc P fn.params.toList s.vars false W args.toList ds gs before) :
    Calls P f args W fun e W' => ∃ v, e = .returned v ∧ s.post enc P fn false fresh handsOn again W args v W' := by
  have hW' := hW
  obtain ⟨p, q, hA, hV, rfl, hfz, hnd⟩ := hW
  rw [hvars] at hV
  obtain ⟨rfl, rfl⟩ := trodVars_none hV
  obtain ⟨xs, a1, a2⟩ := args_data (b0 := base) hp fn.params.toList args.toList ds p hT hA (fun j t v h1 h2 => hval j t v (by simpa using h1) (by simpa using h2))
  refine ((law xs a1).2 noB W args (fun _ h => h.elim) a2).mono fun e W' ⟨hk, ho⟩ => ?_
  have hb := hk.below
  cases e with
  | panicked ch => exact ho.elim
  | outgrown => exact ho.elim
  | returned v =>
    simp only [R.is, D.den] at ho
    subst ho
    refine ⟨_, rfl, ?_⟩
    have hlen : ds.length = fn.params.toList.length := (len_eq hA)
    have hold : ∀ x ∈ p, x.block < W.heap.size := fun x hx => by simpa using hW'.lt x (by simpa using hx)
    have hargs : ∀ sp : Nat → Bool, (∀ x ∈ p, sp x.block = true) → DataW.TrodAll enc P W' 0 sp true fn.params.toList args.toList ds p := fun sp hsp => args_stay hl hr hA fun x hx => ⟨hb.same (hold x hx), hsp x hx⟩
    have hresT : ∀ (b : Nat) (sp : Nat → Bool) (hd : Bool), DataW.TrodAll enc P W' b sp hd fn.resultTypes.toList ((Value.bool true).resultList fn.resultTypes.size) [.lit (.bool true)] [] := fun b sp hd => by
      rw [hres]
      exact trodAll_cons_mk (p := []) (p' := []) ⟨1, by simp [DataW.trod, Value.cells, htb]⟩ trodAll_mk0
    have hvarsT : ∀ sp : Nat → Bool, DataW.TrodVars enc P W' sp s.vars [] [] := fun sp => by rw [hvars]; rfl
    refine ⟨ds, [], p ++ [], [], p, [], hW', ?_, ?_, ?_, World.keptBut_mono (fun _ h => h.elim) (hb.frame (fun _ => False)), fun _ => ⟨?_, [.lit (.bool true)] ++ ds, [], ([] ++ p) ++ [], ⟨[] ++ p, [], trodAll_append (hargs _ fun _ _ => rfl) (hresT 0 (fun _ => true) true), hvarsT _, rfl, ?_, (fun h => by cases h)⟩, fun x hx _ => by simpa using hx⟩⟩
    · rw [List.append_nil, hspec ds hlen]; exact hresT _ _ _
    · rw [List.append_nil, hspec ds hlen]; exact hargs _ fun x hx => by simpa using hold x hx
    · rw [List.append_nil, hspec ds hlen]; exact hvarsT _
    · intro j t r h1 h2
      rw [hres] at h1 h2
      match j, h1, h2 with
      | 0, h1, h2 =>
        simp [Value.resultList] at h1 h2
        subst h1; subst h2
        simp [Value.okWide, htb, Cell.okWide, Cell.ok]
    · intro b off hx
      rw [hb.frozen (by simpa [MemPlace.block] using hold _ (by simpa using hx))]
      exact hfz b off (by simpa using hx)
end
section
variable {P : Program} {t e : TypeId} {x : D}
theorem hasT_int {k : IntKind} (ht : P.underlying t = some (.int k)) (h : D.hasT P x t) : ∃ n, x = .int k n ∧ (Lit.int k n).wf = true := by
  cases x <;> simp only [D.hasT] at h
  case int k' n =>
    rw [ht] at h
    obtain ⟨h1, h2⟩ := h
    injection h1 with h1; injection h1 with h1; subst h1
    exact ⟨n, rfl, h2⟩
  case bool => rw [ht] at h; cases h
  case str => rw [ht] at h; cases h.1
  case sl => obtain ⟨e, h, _⟩ := h; rw [ht] at h; cases h
  case agg => have := h.1; unfold isAgg at this; rw [ht] at this; cases this
theorem hasT_sl (ht : P.underlying t = some (.slice e)) (h : D.hasT P x t) : ∃ es, x = .sl es ∧ es.length ≤ maxLen ∧ D.allT P es e := by
  cases x <;> simp only [D.hasT] at h
  case int k' n => rw [ht] at h; cases h.1
  case bool b => rw [ht] at h; cases h
  case str l => rw [ht] at h; cases h.1
  case sl es =>
    obtain ⟨e', h, h2, h3⟩ := h
    rw [ht] at h; injection h with h; injection h with h; subst h
    exact ⟨es, rfl, h2, h3⟩
  case agg => have := h.1; unfold isAgg at this; rw [ht] at this; cases this
theorem hasT_agg {ls : List TypeId} (ha : isAgg P t = true) (hl : leafs P 20 t = some ls) (h : D.hasT P x t) : ∃ cs, x = .agg cs ∧ D.hasTs P cs ls := by
  have no : ∀ u, P.underlying t = some u → (∀ fs, u ≠ .struct fs) → (∀ k e, u ≠ .array k e) → False := by
    intro u hu h1 h2
    unfold isAgg at ha
    rw [hu] at ha
    split at ha
    · rename_i e; injection e with e; exact h1 _ e
    · rename_i e; injection e with e; exact h2 _ _ e
    · cases ha
  cases x <;> simp only [D.hasT] at h
  case int k' n => exact (no _ h.1 (fun _ h => by cases h) (fun _ _ h => by cases h)).elim
  case bool b => exact (no _ h (fun _ h => by cases h) (fun _ _ h => by cases h)).elim
  case str l => exact (no _ h.1 (fun _ h => by cases h) (fun _ _ h => by cases h)).elim
  case sl es => obtain ⟨e', h, _⟩ := h; exact (no _ h (fun _ h => by cases h) (fun _ _ h => by cases h)).elim
  case agg cs =>
    obtain ⟨_, ls', h1, h2⟩ := h
    rw [hl] at h1; injection h1 with h1; subst h1
    exact ⟨cs, rfl, h2⟩
theorem hasTs_cons {t : TypeId} {ts : List TypeId} {cs : List D} (h : D.hasTs P cs (t :: ts)) : ∃ x xs, cs = x :: xs ∧ D.hasT P x t ∧ D.hasTs P xs ts := by
  cases cs with
  | nil => simp [D.hasTs] at h
  | cons x xs => obtain ⟨_, _, e, h1, h2⟩ := h; injection e with e1 e2; subst e1; subst e2; exact ⟨x, xs, rfl, h1, h2⟩
theorem hasTs_nil {cs : List D} (h : D.hasTs P cs []) : cs = [] := by
  cases cs with
  | nil => rfl
  | cons x xs => obtain ⟨_, _, e, _⟩ := h; cases e
theorem allT_map {α : Type} {f : α → D} {q : α → Prop} (hf : ∀ x, D.hasT P x e → ∃ a, x = f a ∧ q a) : ∀ (es : List D), D.allT P es e → ∃ l : List α, es = l.map f ∧ ∀ a ∈ l, q a
  | [], _ => ⟨[], rfl, fun _ h => by cases h⟩
  | x :: es, h => by
    obtain ⟨a, rfl, h1⟩ := hf x h.1
    obtain ⟨l, rfl, h2⟩ := allT_map hf es h.2
    exact ⟨a :: l, rfl, fun b hb => (List.mem_cons.1 hb).elim (fun e => e ▸ h1) (h2 b)⟩
end
end Go.Proofs.Ytaafchgfibbmhaa
end
section
namespace Go.Proofs.Ytaafchgfibbmhaa
open Go.ChangeShapes Go.WideShapes Go.RowKit
theorem maxLen_le : maxLen ≤ 9223372036854775807 := by decide
theorem int3 {x : D} (h : D.hasT Try.prog x 3) : ∃ n : Int, x = .i n ∧ True := by
  obtain ⟨n, h, _⟩ := hasT_int undT_3 h
  exact ⟨n, h, trivial⟩
theorem int43 {x : D} (h : D.hasT Try.prog x 43) : ∃ n : Int, x = .i n ∧ True := by
  obtain ⟨n, h, _⟩ := hasT_int undT_43 h
  exact ⟨n, h, trivial⟩
theorem ints42 {x : D} (h : D.hasT Try.prog x 42) : ∃ l : List Int, x = .sl (l.map .i) ∧ l.length ≤ 9223372036854775807 := by
  obtain ⟨es, rfl, h1, h2⟩ := hasT_sl undT_42 h
  obtain ⟨l, rfl, _⟩ := allT_map (fun x h => int3 h) es h2
  exact ⟨l, rfl, by have := maxLen_le; simp at h1; omega⟩
theorem row45 {x : D} (h : D.hasT Try.prog x 45) : ∃ r : Row, x = r.d ∧ r.c.length ≤ 9223372036854775807 := by
  obtain ⟨cs, rfl, hh⟩ := hasT_agg (by kernel_rfl) (ls := [42, 43, 3]) (by kernel_rfl) h
  clear h; have h := hh; clear hh
  obtain ⟨a, cs, rfl, ha, h⟩ := hasTs_cons h
  obtain ⟨b, cs, rfl, hb, h⟩ := hasTs_cons h
  obtain ⟨c, cs, rfl, hc, h⟩ := hasTs_cons h
  have := hasTs_nil h; subst this
  obtain ⟨l, rfl, hl⟩ := ints42 ha
  obtain ⟨n, rfl, _⟩ := int43 hb
  obtain ⟨m, rfl, _⟩ := int3 hc
  exact ⟨⟨l, n, m⟩, rfl, hl⟩
theorem sys24 {x : D} (h : D.hasT Try.prog x 24) : ∃ s : Sys, x = s.d ∧ s.Fits := by
  obtain ⟨cs, rfl, hh⟩ := hasT_agg (by kernel_rfl) (ls := [3, 22]) (by kernel_rfl) h
  clear h; have h := hh; clear hh
  obtain ⟨a, cs, rfl, ha, h⟩ := hasTs_cons h
  obtain ⟨b, cs, rfl, hb, h⟩ := hasTs_cons h
  have := hasTs_nil h; subst this
  obtain ⟨n, rfl, _⟩ := int3 ha
  obtain ⟨es, rfl, h1, h2⟩ := hasT_sl undT_22 hb
  obtain ⟨l, rfl, hl⟩ := allT_map (fun x h => row45 h) es h2
  exact ⟨⟨n, l⟩, rfl, ⟨by have := maxLen_le; simp at h1; simp only; omega, hl⟩⟩
end Go.Proofs.Ytaafchgfibbmhaa
end
section
namespace Go.Proofs.Ytaafchgfibbmhaa
open Go
def dat : Nat → Bool := fun g => !([37, 40, 41, 107] : List Nat).contains g
def cfg0 : Cfg Try.prog := Cfg.of dat [] (fun _ h => by cases h)
theorem works_run : runD Try.prog tab cfg0 5000 13 [] = some (.ret [.bool true]) := by kernel_rfl
theorem works : PCt Try.prog 13 [] (.ret [.bool true]) := PCt.of_run mix tab_ok works_run
end Go.Proofs.Ytaafchgfibbmhaa
end
section
namespace Go.Proofs.Ytaafchgfibbmhaa
open Go.ChangeShapes Go.WideShapes Go.RowKit
theorem fit_c (s : Sys) (p : List Rat) (hc : checkF s = true) (hp : pointF s p = true) : Small1 p ∧ ∀ r ∈ s.rows, RowOk r p := by
  simp [checkF, pointF, inB, ratF, formedF, allF] at hc hp
  obtain ⟨⟨⟨c1, c2⟩, c3⟩, c4⟩ := hc
  obtain ⟨p1, p2⟩ := hp
  refine ⟨⟨by omega, fun r hr => ?_, fun r hr => ?_⟩, fun r hr => ⟨?_, fun c hcm => ?_, ?_⟩⟩
  · exact (p2 r hr).1.1
  · exact (p2 r hr).1.2
  · have := (c4 r hr).1.1.1; omega
  · exact (c4 r hr).1.2 c hcm
  · exact (c4 r hr).2
end Go.Proofs.Ytaafchgfibbmhaa
end
namespace Go.Proofs.Ytaafchgfibbmhaa
theorem atK_len (by' : List (Int × Int)) (n k : Nat) : (atK by' n k).length = n := by simp [atK]
theorem atK_small {by' : List (Int × Int)} (h8 : ∀ x ∈ by', (-128 ≤ x.1 ∧ x.1 ≤ 127) ∧ -128 ≤ x.2 ∧ x.2 ≤ 127) {n j : Nat} {x : Rat} (hx : (atK by' n n)[j]? = some x) : (1 ≤ x.den ∧ x.den ≤ 6) ∧ -19 ≤ x.num ∧ x.num ≤ 19 := by
  have hj : j < n := by have := (List.getElem?_eq_some_iff.1 hx).1; rwa [atK_len] at this
  simp only [atK, List.getElem?_map, List.getElem?_range hj, Option.map_some, Option.some.injEq] at hx
  rw [if_pos hj] at hx
  subst hx
  have hraw : (-19 ≤ (atRaw by' j).1 ∧ (atRaw by' j).1 ≤ 19) ∧ 1 ≤ (atRaw by' j).2 ∧ (atRaw by' j).2 ≤ 6 := by
    unfold atRaw
    split
    · simp
    · simp only
      generalize by'.getD (j % by'.length) (0, 0) = y
      have hb : 0 ≤ y.2 % 128 := Int.emod_nonneg _ (by omega)
      have := Int.tmod_nonneg 6 hb
      have := Int.tmod_lt_of_pos (y.2 % 128) (b := 6) (by omega)
      have := Int.lt_tmod_of_pos y.1 (b := 20) (by omega)
      have := Int.tmod_lt_of_pos y.1 (b := 20) (by omega)
      omega
  obtain ⟨⟨a1, a2⟩, b1, b2⟩ := hraw
  show (1 ≤ (atRaw by' j).2.tdiv _ ∧ (atRaw by' j).2.tdiv _ ≤ 6) ∧ -19 ≤ (atRaw by' j).1.tdiv _ ∧ (atRaw by' j).1.tdiv _ ≤ 19
  have hg : Int.gcd (atRaw by' j).1 (atRaw by' j).2 ≠ 0 := gcd_pos' (by omega)
  have g2 := Int.mul_tdiv_cancel' (Int.gcd_dvd_right (a := (atRaw by' j).1) (b := (atRaw by' j).2))
  have hgp : (0 : Int) < (Int.gcd (atRaw by' j).1 (atRaw by' j).2 : Nat) := by omega
  have n1 : ((atRaw by' j).1.tdiv (Int.gcd (atRaw by' j).1 (atRaw by' j).2 : Nat)).natAbs ≤ (atRaw by' j).1.natAbs := by rw [Int.natAbs_tdiv]; exact Nat.div_le_self _ _
  have n2 : ((atRaw by' j).2.tdiv (Int.gcd (atRaw by' j).1 (atRaw by' j).2 : Nat)).natAbs ≤ (atRaw by' j).2.natAbs := by rw [Int.natAbs_tdiv]; exact Nat.div_le_self _ _
  have h1 : 0 < (atRaw by' j).2.tdiv (Int.gcd (atRaw by' j).1 (atRaw by' j).2 : Nat) := by
    rcases Int.lt_or_le 0 ((atRaw by' j).2.tdiv (Int.gcd (atRaw by' j).1 (atRaw by' j).2 : Nat)) with h | h
    · exact h
    · have := Int.mul_nonpos_of_nonneg_of_nonpos (Int.le_of_lt hgp) h
      omega
  omega
end Go.Proofs.Ytaafchgfibbmhaa
