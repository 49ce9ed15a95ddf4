/-
  TermSubsts: at every call the law answers true, and leaves all memory as it was. Conditions: none.
-/
import Derived.OpenShut
import Derived.Carry
import Derived.Handed
import Derived.JoinedOf
import Derived.ProofKit
import Derived.Test.YtealblliddhgiaaGreatRows
import Derived.Test.YtealblliddhgiaaGreatSb22
set_option linter.unusedSimpArgs false
set_option linter.unusedVariables false
section
namespace Go.Proofs.YtealblliddhgiaaGreat
open Go.ChangeShapes Go.WideShapes Go.RowKit
def leafsF (P : Program) (rec : TypeId -> Option (List TypeId)) : Nat -> List Field -> Option (List TypeId)
 | _, [] => some []
 | off, f :: fs => if f.offset = off then match rec f.type with
   | some l => if P.cellsOf f.type = l.length then (leafsF P rec (off + l.length) fs).map (l ++ ·) else none
   | none => none else none
def leafs (P : Program) : Nat -> TypeId -> Option (List TypeId)
 | 0, _ => none
 | n + 1, t => match P.underlying t with
   | some .bool | some (.int _) | some .string | some (.slice _) => some [t]
   | some (.struct fs) => leafsF P (leafs P n) 0 fs.toList
   | some (.array k e) => match leafs P n e with
     | some l => if P.cellsOf e = l.length then some (List.replicate k l).flatten else none
     | none => none
   | _ => none
def isAgg (P : Program) (t : TypeId) : Bool := match P.underlying t with
 | some (.struct _) | some (.array _ _) => true
 | _ => false
mutual
def D.hasT (P : Program) : D -> TypeId -> Prop
 | .int k n, t => P.underlying t = some (.int k) /\ (Lit.int k n).wf = true
 | .bool _, t => P.underlying t = some .bool
 | .str l, t => P.underlying t = some .string /\ l.length <= maxLen
 | .sl es, t => ∃ e, P.underlying t = some (.slice e) /\ es.length <= maxLen /\ D.allT P es e
 | .agg cs, t => isAgg P t = true /\ ∃ ls, leafs P 20 t = some ls /\ D.hasTs P cs ls
 | _, _ => False
def D.allT (P : Program) : List D -> TypeId -> Prop
 | [], _ => True
 | x :: l, e => D.hasT P x e /\ D.allT P l e
def D.hasTs (P : Program) : List D -> List TypeId -> Prop
 | [], ts => ts = []
 | x :: l, ts => ∃ t r, ts = t :: r /\ D.hasT P x t /\ D.hasTs P l r
end
def plainTs (P : Program) (T : List TypeId) : Bool := T.all fun t => match leafs P 20 t with
 | some l => decide (l.length = P.cellsOf t) && decide (0 < l.length) && l.all fun u => match P.underlying u with
   | some (.slice e) => T.contains e
   | _ => true
 | none => false
theorem hasTs_append {P : Program} : ∀ {xs ys : List D} {l r : List TypeId}, D.hasTs P xs l -> D.hasTs P ys r -> D.hasTs P (xs ++ ys) (l ++ r)
 | [], _, _, _, h, h' => by simp only [D.hasTs] at h; subst h; exact h'
 | x :: xs, _, _, _, h, h' => by
   obtain ⟨t, r, rfl, h1, h2⟩ := h
   exact ⟨t, _, rfl, h1, hasTs_append h2 h'⟩
theorem dens_append {B : Nat -> Prop} {w : World} : ∀ {xs ys : List D} {l r : List Value}, D.dens B w xs l -> D.dens B w ys r -> D.dens B w (xs ++ ys) (l ++ r)
 | [], _, _, _, h, h' => by simp only [D.dens] at h; subst h; exact h'
 | x :: xs, _, _, _, h, h' => by
   obtain ⟨t, r, rfl, h1, h2⟩ := h
   exact ⟨t, _, rfl, h1, dens_append h2 h'⟩
theorem Flat.append {l r : List Value} (h : Flat l) (h' : Flat r) : Flat (l ++ r) := fun u hu => (List.mem_append.1 hu).elim (h u) (h' u)
abbrev noB : Nat -> Prop := fun _ => False
section
variable {H : Type} {enc : TypeId × Value -> H} {P : Program} {W : World} {T : List TypeId} {b0 : Nat}
def ReadsAs (P : Program) (W : World) (l : List TypeId) (cs : List Value) : Prop := ∃ xs, D.hasTs P xs l /\ D.dens noB W xs cs /\ Flat cs
theorem ReadsAs.append {l r : List TypeId} {cs ds : List Value} (h : ReadsAs P W l cs) (h' : ReadsAs P W r ds) : ReadsAs P W (l ++ r) (cs ++ ds) := by
 obtain ⟨xs, a1, a2, a3⟩ := h
 obtain ⟨ys, b1, b2, b3⟩ := h'
 exact ⟨xs ++ ys, hasTs_append a1 b1, dens_append a2 b2, a3.append b3⟩
theorem ReadsAs.length {l : List TypeId} {cs : List Value} (h : ReadsAs P W l cs) : cs.length = l.length := by
 obtain ⟨xs, a1, a2, _⟩ := h
 rw [D.dens_length _ _ a2]
 clear a2
 induction xs generalizing l with
 | nil => simp only [D.hasTs] at a1; simp [a1]
 | cons x xs ih => obtain ⟨t, r, rfl, _, h⟩ := a1; simp [ih h]
theorem ReadsAs.nil : ReadsAs P W [] [] := ⟨[], rfl, rfl, fun _ h => by cases h⟩
theorem dropTake {α : Type} (cs : List α) (o k : Nat) : cs.drop o = (cs.drop o).take k ++ cs.drop (o + k) := by
 rw [<- List.drop_drop]; exact (List.take_append_drop k _).symm
theorem fields_reads {rec : TypeId -> Option (List TypeId)} {cs : List Value} {rd : TypeId -> List Value -> Prop}
 (hrec : ∀ t l vs, rec t = some l -> (∀ u ∈ l, ∀ e, P.underlying u = some (.slice e) -> e ∈ T) -> P.cellsOf t = l.length -> rd t vs -> ReadsAs P W l vs) :
 ∀ (fs : List Field) (off : Nat) (l : List TypeId), leafsF P rec off fs = some l -> (∀ u ∈ l, ∀ e, P.underlying u = some (.slice e) -> e ∈ T) -> (∀ f ∈ fs, rd f.type ((cs.drop f.offset).take (P.cellsOf f.type))) ->
  off + l.length = cs.length -> ReadsAs P W l (cs.drop off)
 | [], off, l, h, _, _, hl => by
   simp only [leafsF, Option.some.injEq] at h
   subst h
   have : cs.drop off = [] := List.drop_eq_nil_of_le (by simp at hl; omega)
   rw [this]; exact ReadsAs.nil
 | f :: fs, off, l, h, hT, hr, hl => by
   simp only [leafsF] at h
   split at h
   ·rename_i ho
    split at h
    ·rename_i l1 h1
     split at h
     ·rename_i hc
      simp only [Option.map_eq_some_iff] at h
      obtain ⟨r, h2, rfl⟩ := h
      have hd := hr f (by simp)
      rw [ho, hc] at hd
      rw [dropTake cs off l1.length]
      simp only [List.length_append] at hl
      exact (hrec f.type l1 _ h1 (fun u hu => hT u (by simp [hu])) hc hd).append (fields_reads hrec fs _ r h2 (fun u hu => hT u (by simp [hu])) (fun f hf => hr f (by simp [hf])) (by omega))
     ·cases h
    ·cases h
   ·cases h
theorem array_reads {l : List TypeId} {cs : List Value} : ∀ (k i : Nat), (∀ j, j < k -> ReadsAs P W l ((cs.drop ((i + j) * l.length)).take l.length)) -> (i + k) * l.length = cs.length -> ReadsAs P W (List.replicate k l).flatten (cs.drop (i * l.length))
 | 0, i, _, hl => by
   have : cs.drop (i * l.length) = [] := List.drop_eq_nil_of_le (by simp at hl; omega)
   rw [this]; exact ReadsAs.nil
 | k + 1, i, h, hl => by
   rw [List.replicate_succ, List.flatten_cons, dropTake cs (i * l.length) l.length]
   refine (by simpa using h 0 (by omega) : ReadsAs P W l _).append ?_
   rw [show i * l.length + l.length = (i + 1) * l.length by rw [Nat.add_mul]; omega]
   refine array_reads k (i + 1) (fun j hj => ?_) (by rw [<- hl]; congr 1; omega)
   have := h (j + 1) (by omega)
   rwa [show i + (j + 1) = i + 1 + j by omega] at this
theorem as_value {e : TypeId} {l : List TypeId} {cs : List Value} (hl : leafs P 20 e = some l) (h : ReadsAs P W l cs) : ∃ (ev : Value) (x : D), ev.cells.toList = cs /\ D.hasT P x e /\ D.den noB W x ev /\ (isAgg P e = true -> ev = .agg cs.toArray) /\ (isAgg P e = false -> cs = [ev] /\ ev.oneCell' = true) := by
 obtain ⟨xs, h1, h2, h3⟩ := h
 cases ha : isAgg P e with
 | true => exact ⟨.agg cs.toArray, .agg xs, by simp [Value.cells], ⟨ha, l, hl, h1⟩, ⟨_, rfl, by simpa using h2, by simpa using h3⟩, fun _ => rfl, (fun h => by cases h)⟩
 | false =>
   have : l = [e] := by
    unfold leafs at hl
    unfold isAgg at ha
    split at hl <;> simp_all
   subst this
   obtain ⟨t, r, e1, h4, h5⟩ : ∃ x r, xs = x :: r /\ D.hasT P x e /\ D.hasTs P r [] := by
    cases xs with
    | nil => simp [D.hasTs] at h1
    | cons x r => obtain ⟨t, r', e1, h4, h5⟩ := h1; injection e1 with e1 e2; subst e1; subst e2; exact ⟨x, r, rfl, h4, h5⟩
   subst e1
   have : r = [] := by cases r with
    | nil => rfl
    | cons y r => obtain ⟨_, _, e, _⟩ := h5; cases e
   subst this
   obtain ⟨u, us, rfl, h6, h7⟩ := h2
   simp only [D.dens] at h7
   subst h7
   have ho := h3 u (by simp)
   refine ⟨u, t, ?_, h4, h6, (fun h => by cases h), fun _ => ⟨rfl, ho⟩⟩
   cases u <;> simp_all [Value.oneCell', Value.cells]
theorem plain_at (hp : plainTs P T = true) {t : TypeId} (ht : t ∈ T) : ∃ l, leafs P 20 t = some l /\ l.length = P.cellsOf t /\ 0 < l.length /\ ∀ u ∈ l, ∀ e, P.underlying u = some (.slice e) -> e ∈ T := by
 have := List.all_eq_true.1 hp t ht
 split at this
 ·rename_i l hl
  simp only [Bool.and_eq_true, decide_eq_true_eq, List.all_eq_true] at this
  refine ⟨l, hl, this.1.1, this.1.2, fun u hu e he => ?_⟩
  have := this.2 u hu
  rw [he] at this
  simpa using this
 ·cases this
theorem trod_reads (hp : plainTs P T = true) : ∀ (n m : Nat) (t : TypeId) (l : List TypeId) (cs : List Value) (x : DataW H × List MemPlace), leafs P m t = some l -> (∀ u ∈ l, ∀ e, P.underlying u = some (.slice e) -> e ∈ T) ->
 P.cellsOf t = l.length -> DataW.trod enc P W 0 (fun _ => true) true n t cs = some x -> ReadsAs P W l cs := by
 intro n
 induction n with
 | zero => intro m t l cs x _ _ _ h; simp [DataW.trod] at h
 | succ n ih =>
   intro m t l cs x hl hT hc h
   cases m with
   | zero => simp [leafs] at hl
   | succ m =>
   unfold leafs at hl
   split at hl
   ·rename_i hu
    injection hl with hl; subst hl
    obtain ⟨b, rfl, _⟩ := DataW.trod_bool hu h
    exact ⟨[.bool b], ⟨t, [], rfl, hu, rfl⟩, ⟨_, _, rfl, rfl, rfl⟩, by simp [Flat, Value.oneCell']⟩
   ·rename_i k hu
    injection hl with hl; subst hl
    obtain ⟨b, rfl, _, hw⟩ := DataW.trod_int hu h
    exact ⟨[.int k b], ⟨t, [], rfl, ⟨hu, hw⟩, rfl⟩, ⟨_, _, rfl, rfl, rfl⟩, by simp [Flat, Value.oneCell']⟩
   ·rename_i hu
    injection hl with hl; subst hl
    obtain ⟨s, rfl, _, hw⟩ := DataW.trod_string hu h
    exact ⟨[.str s.data.toList], ⟨t, [], rfl, ⟨hu, by simpa using hw⟩, rfl⟩, ⟨_, _, rfl, ⟨s, rfl, rfl⟩, rfl⟩, by simp [Flat, Value.oneCell']⟩
   ·rename_i e hu
    injection hl with hl; subst hl
    rcases DataW.trod_slice hu h with ⟨rfl, _⟩ | ⟨a, len, cap, elems, rest, n', hn, rfl, _, _, h2, h3, h4, h5, h6, _⟩
    ·exact ⟨[.sl []], ⟨t, [], rfl, ⟨e, hu, by simp, trivial⟩, rfl⟩, ⟨_, _, rfl, ⟨none, 0, 0, rfl, rfl, by simp, fun _ => rfl, 0, (fun a ha => by cases ha)⟩, rfl⟩, by simp [Flat, Value.oneCell']⟩
    ·injection hn with hn; subst hn
     obtain ⟨l', g1, g2, g3, g4⟩ := plain_at hp (hT t (by simp) e hu)
     have at' : ∀ i, i < len -> ∃ ev : Value, ∃ y : D, ev.cells.size = P.cellsOf e /\ CellsAt noB W (a.add (i * P.cellsOf e)) ev.cells /\ D.den noB W y ev /\ D.hasT P y e := by
      intro i hi
      have := h5 i hi
      rw [List.getElem?_eq_getElem (by omega)] at this
      obtain ⟨ci, k1, k2⟩ := Option.bind_eq_some_iff.1 this
      obtain ⟨_, k3, k4⟩ := World.cells?_some k1
      have k5 := ih 20 e l' ci _ g1 g4 g2.symm k2
      obtain ⟨ev, y, q1, q2, q3, _, _⟩ := as_value g1 k5
      have q4 : ev.cells = ci.toArray := by rw [<- q1]
      refine ⟨ev, y, by rw [q4]; simp [k5.length, g2], fun j u hj => ⟨?_, fun h => h⟩, q3, q2⟩
      rw [q4] at hj
      have hj' : ci[j]? = some u := by simpa using hj
      have hlt : j < P.cellsOf e := by rw [<- g2, <- k5.length]; exact (List.getElem?_eq_some_iff.1 hj').1
      rw [k4 j hlt]; exact hj'
     have list : ∀ k i, i + k = len -> ∃ es, es.length = k /\ D.allT P es e /\ D.elems noB W (P.cellsOf e) a i es := by
      intro k
      induction k with
      | zero => intro i _; exact ⟨[], rfl, trivial, trivial⟩
      | succ k ihk =>
        intro i hi
        obtain ⟨es, e1, e2, e3⟩ := ihk (i + 1) (by omega)
        obtain ⟨ev, y, y1, y2, y3, y4⟩ := at' i (by omega)
        exact ⟨y :: es, by simp [e1], ⟨y4, e2⟩, ⟨ev, y1, y2, y3⟩, e3⟩
     obtain ⟨es, e1, e2, e3⟩ := list len 0 (by omega)
     have hspot : cap ≠ 0 -> a.spot = none := by
      intro hcap
      have cell0 : ∀ z, (W.cells? 0 (a.add (0 * P.cellsOf e)) (P.cellsOf e)).bind (DataW.trod enc P W 0 (fun _ => true) true n e) = some z -> a.spot = none := by
       intro z hz
       obtain ⟨ci, k1, k2⟩ := Option.bind_eq_some_iff.1 hz
       obtain ⟨_, k3, k4⟩ := World.cells?_some k1
       have k5 := k4 0 (by omega)
       rw [List.getElem?_eq_getElem (by omega)] at k5
       simpa [Addr.add] using World.cell?_spot k5
      by_cases hlen : 0 < len
      ·have := h5 0 hlen
       rw [List.getElem?_eq_getElem (by omega)] at this
       exact cell0 _ this
      ·obtain ⟨h7, h8⟩ := h6 rfl
       have := h8 0 (by omega)
       rw [List.getElem?_eq_getElem (by omega), show (len + 0) = 0 by omega] at this
       exact cell0 _ this
     exact ⟨[.sl es], ⟨t, [], rfl, ⟨e, hu, by omega, e2⟩, rfl⟩, ⟨_, _, rfl, ⟨some a, len, cap, rfl, e1.symm, h2, (fun h => by cases h), P.cellsOf e, (fun a' ha' => by injection ha' with ha'; subst ha'; exact ⟨hspot, e3⟩)⟩, rfl⟩, by simp [Flat, Value.oneCell']⟩
   ·rename_i fs hu
    obtain ⟨xs, n', hn, _, h2, h3, h4⟩ := DataW.trod_struct hu h
    injection hn with hn; subst hn
    have := fields_reads (P := P) (W := W) (T := T) (cs := cs) (rd := fun t vs => ∃ y, DataW.trod enc P W 0 (fun _ => true) true n t vs = some y) (rec := leafs P m) (fun t l vs q1 q2 q3 ⟨y, q4⟩ => ih m t l vs y q1 q2 q3 q4) fs.toList 0 l hl hT ?_ (by omega)
    ·simpa using this
    ·intro f hf
     obtain ⟨i, hi, hfi⟩ := List.getElem_of_mem hf
     have := h4 i f (by simp at hi; simp [<- hfi, Array.getElem?_eq_getElem hi])
     rw [List.getElem?_eq_getElem (by simp at hi; omega)] at this
     exact ⟨_, this⟩
   ·rename_i k e hu
    split at hl
    ·rename_i l' hl'
     split at hl
     ·rename_i hce
      injection hl with hl; subst hl
      obtain ⟨xs, n', hn, _, h2, h3, h4⟩ := DataW.trod_array hu h
      injection hn with hn; subst hn
      have hlen : cs.length = k * l'.length := by rw [h2, hc]; simp
      have hT' : 0 < k -> ∀ u ∈ l', ∀ e, P.underlying u = some (.slice e) -> e ∈ T := fun hk u hu => hT u (List.mem_flatten.2 ⟨l', List.mem_replicate.2 ⟨by omega, rfl⟩, hu⟩)
      have := array_reads (P := P) (W := W) (l := l') (cs := cs) k 0 (fun j hj => ?_) (by rw [hlen]; simp)
      ·simpa using this
      ·have := h4 j hj
       rw [hce, List.getElem?_eq_getElem (by omega)] at this
       rw [Nat.zero_add]
       exact ih m e l' _ _ hl' (hT' (by omega)) hce this
     ·cases hl
    ·cases hl
   ·cases hl
theorem args_data (hp : plainTs P T = true) : ∀ (ts : List TypeId) (vs : List Value) (ds : List (DataW H)) (p : List MemPlace), (∀ t ∈ ts, t ∈ T) -> DataW.TrodAll enc P W 0 (fun _ => true) true ts vs ds p ->
 (∀ (j : Nat) t v, ts[j]? = some t -> vs[j]? = some v -> Value.okWide P W .any b0 t v) -> ∃ xs, D.hasTs P xs ts /\ D.dens noB W xs vs
 | [], vs, ds, p, _, h, _ => by
   obtain ⟨rfl, rfl, rfl⟩ := trodAll_nil h
   exact ⟨[], rfl, rfl⟩
 | t :: ts, vs, ds, p, hT, h, hv => by
   obtain ⟨v, vs', d, ds', p1, q1, rfl, rfl, rfl, ⟨n, h1⟩, h2⟩ := trodAll_cons h
   obtain ⟨xs, a1, a2⟩ := args_data hp ts vs' ds' q1 (fun t ht => hT t (by simp [ht])) h2 (fun j t v h1 h2 => hv (j + 1) t v (by simpa using h1) (by simpa using h2))
   obtain ⟨l, g1, g2, g3, g4⟩ := plain_at hp (hT t (by simp))
   obtain ⟨ev, x, q1, q2, q3, q4, q5⟩ := as_value g1 (trod_reads hp n 20 t l _ _ g1 g4 g2.symm h1)
   have hok := hv 0 t v rfl rfl
   have : ev = v := by
    cases ha : isAgg P t with
    | true =>
      have : ∃ cs, v = .agg cs := by
       unfold isAgg at ha
       unfold Value.okWide at hok
       split at ha
       ·rename_i hu; rw [hu] at hok; obtain ⟨cs, rfl, _⟩ := hok; exact ⟨cs, rfl⟩
       ·rename_i hu; rw [hu] at hok; obtain ⟨cs, rfl, _⟩ := hok; exact ⟨cs, rfl⟩
       ·cases ha
      obtain ⟨cs, rfl⟩ := this
      rw [q4 ha]
      simp [Value.cells]
    | false =>
      obtain ⟨q6, q7⟩ := q5 ha
      cases v with
      | agg cs =>
        exfalso
        unfold isAgg at ha
        unfold Value.okWide at hok
        split at hok
        ·rename_i hu; rw [hu] at ha; cases ha
        ·rename_i hu; rw [hu] at ha; cases ha
        ·unfold Cell.okWide at hok
         split at hok
         case h_8 =>
          unfold Cell.ok at hok
          split at hok <;> first | exact hok | contradiction
         all_goals contradiction
      | _ => simp only [Value.cells, List.cons.injEq, and_true] at q6; exact q6.symm
   subst this
   exact ⟨x :: xs, ⟨t, ts, rfl, q2, a1⟩, ⟨_, _, rfl, q3, a2⟩⟩
theorem Keep.below {w w' : World} (h : Keep (fun _ => False) w w') : Below w.heap.size w w' := ⟨h.os, h.tape, h.output, h.size, fun k hk => h.block k hk (fun h => h)⟩
theorem args_stay (hl : laidOutB P = true) {W' : World} {sp : Nat -> Bool} : ∀ {ts : List TypeId} {vs : List Value} {ds : List (DataW H)} {p : List MemPlace}, (∀ t ∈ ts, P.readableRec t = true /\ t < P.types.size) -> DataW.TrodAll enc P W 0 (fun _ => true) true ts vs ds p ->
 (∀ x ∈ p, W.sameAt W' x /\ sp x.block = true) -> DataW.TrodAll enc P W' 0 sp true ts vs ds p
 | [], vs, ds, p, _, h, _ => by
   obtain ⟨rfl, rfl, rfl⟩ := trodAll_nil h
   exact trodAll_mk0
 | t :: ts, vs, ds, p, hr, h, hs => by
   obtain ⟨v, vs', d, ds', p1, q1, rfl, rfl, rfl, h1, h2⟩ := trodAll_cons h
   exact ⟨p1, q1, WideElems.Trod_stays hl (hr t (by simp)).1 (hr t (by simp)).2 h1 (fun x hx => (hs x (by simp [hx])).1) (fun x hx => (hs x (by simp [hx])).2), args_stay hl (fun t ht => hr t (by simp [ht])) h2 (fun x hx => hs x (by simp [hx])), rfl⟩
theorem len_eq {sp : Nat -> Bool} : ∀ {ts : List TypeId} {vs : List Value} {ds : List (DataW H)} {ps : List MemPlace}, DataW.TrodAll enc P W 0 sp true ts vs ds ps -> ds.length = ts.length
 | [], _, _, _, h => by obtain ⟨_, rfl, _⟩ := trodAll_nil h; rfl
 | _ :: _, _, _, _, h => by
   obtain ⟨_, _, _, _, _, _, _, rfl, _, _, h2⟩ := trodAll_cons h
   simp [len_eq h2]
theorem law_contract {f : FuncId} {fn : Func} {s : ChangeSpec} {tb : TypeId} {fresh handsOn again : Bool} (hres : fn.resultTypes = #[tb]) (htb : P.underlying tb = some .bool) (hvars : s.vars = [])
 (hspec : ∀ ds : List (DataW H), ds.length = fn.params.toList.length -> s.fn H ds = { results := [.lit (.bool true)], args := ds }) (hp : plainTs P T = true) (hT : ∀ t ∈ fn.params.toList, t ∈ T) (hl : laidOutB P = true)
 (hr : ∀ t ∈ fn.params.toList, P.readableRec t = true /\ t < P.types.size) (law : ∀ xs, D.hasTs P xs fn.params.toList -> PCt P f xs (.ret [.bool true]))
 (base : Nat) (args : Array Value) (ds gs : List (DataW H)) (before : List MemPlace)
 (hval : ∀ (j : Nat) t v, fn.params[j]? = some t -> args[j]? = some v -> Value.okWide P W .any base t v) (hW : DataW.Whole enc P fn.params.toList s.vars false W args.toList ds gs before) :
 Calls P f args W fun e W' => ∃ v, e = .returned v /\ s.post enc P fn false fresh handsOn again W args v W' := by
 have hW' := hW
 obtain ⟨p, q, hA, hV, rfl, hfz, hnd⟩ := hW
 rw [hvars] at hV
 obtain ⟨rfl, rfl⟩ := trodVars_none hV
 obtain ⟨xs, a1, a2⟩ := args_data (b0 := base) hp fn.params.toList args.toList ds p hT hA (fun j t v h1 h2 => hval j t v (by simpa using h1) (by simpa using h2))
 refine ((law xs a1).2 noB W args (fun _ h => h.elim) a2).mono fun e W' ⟨hk, ho⟩ => ?_
 have hb := hk.below
 cases e with
 | panicked ch => exact ho.elim
 | outgrown => exact ho.elim
 | returned v =>
   simp only [R.is, D.den] at ho
   subst ho
   refine ⟨_, rfl, ?_⟩
   have hlen : ds.length = fn.params.toList.length := (len_eq hA)
   have hold : ∀ x ∈ p, x.block < W.heap.size := fun x hx => by simpa using hW'.lt x (by simpa using hx)
   have hargs : ∀ sp : Nat -> Bool, (∀ x ∈ p, sp x.block = true) -> DataW.TrodAll enc P W' 0 sp true fn.params.toList args.toList ds p := fun sp hsp => args_stay hl hr hA fun x hx => ⟨hb.same (hold x hx), hsp x hx⟩
   have hresT : ∀ (b : Nat) (sp : Nat -> Bool) (hd : Bool), DataW.TrodAll enc P W' b sp hd fn.resultTypes.toList ((Value.bool true).resultList fn.resultTypes.size) [.lit (.bool true)] [] := fun b sp hd => by
    rw [hres]
    exact trodAll_cons_mk (p := []) (p' := []) ⟨1, by simp [DataW.trod, Value.cells, htb]⟩ trodAll_mk0
   have hvarsT : ∀ sp : Nat -> Bool, DataW.TrodVars enc P W' sp s.vars [] [] := fun sp => by rw [hvars]; rfl
   refine ⟨ds, [], p ++ [], [], p, [], hW', ?_, ?_, ?_, World.keptBut_mono (fun _ h => h.elim) (hb.frame (fun _ => False)), fun _ => ⟨?_, [.lit (.bool true)] ++ ds, [], ([] ++ p) ++ [], ⟨[] ++ p, [], trodAll_append (hargs _ fun _ _ => rfl) (hresT 0 (fun _ => true) true), hvarsT _, rfl, ?_, (fun h => by cases h)⟩, fun x hx _ => by simpa using hx⟩⟩
   ·rw [List.append_nil, hspec ds hlen]; exact hresT _ _ _
   ·rw [List.append_nil, hspec ds hlen]; exact hargs _ fun x hx => by simpa using hold x hx
   ·rw [List.append_nil, hspec ds hlen]; exact hvarsT _
   ·intro j t r h1 h2
    rw [hres] at h1 h2
    match j, h1, h2 with
    | 0, h1, h2 =>
      simp [Value.resultList] at h1 h2
      subst h1; subst h2
      simp [Value.okWide, htb, Cell.okWide, Cell.ok]
   ·intro b off hx
    rw [hb.frozen (by simpa [MemPlace.block] using hold _ (by simpa using hx))]
    exact hfz b off (by simpa using hx)
end
section
variable {P : Program} {t e : TypeId} {x : D}
theorem hasT_int {k : IntKind} (ht : P.underlying t = some (.int k)) (h : D.hasT P x t) : ∃ n, x = .int k n /\ (Lit.int k n).wf = true := by
 cases x <;> simp only [D.hasT] at h
 case int k' n =>
  rw [ht] at h
  obtain ⟨h1, h2⟩ := h
  injection h1 with h1; injection h1 with h1; subst h1
  exact ⟨n, rfl, h2⟩
 case bool => rw [ht] at h; cases h
 case str => rw [ht] at h; cases h.1
 case sl => obtain ⟨e, h, _⟩ := h; rw [ht] at h; cases h
 case agg => have := h.1; unfold isAgg at this; rw [ht] at this; cases this
theorem hasT_str (ht : P.underlying t = some .string) (h : D.hasT P x t) : ∃ l, x = .str l /\ l.length <= maxLen := by
 cases x <;> simp only [D.hasT] at h
 case int k' n => rw [ht] at h; cases h.1
 case bool b => rw [ht] at h; cases h
 case str l => exact ⟨l, rfl, h.2⟩
 case sl => obtain ⟨e, h, _⟩ := h; rw [ht] at h; cases h
 case agg => have := h.1; unfold isAgg at this; rw [ht] at this; cases this
theorem hasT_sl (ht : P.underlying t = some (.slice e)) (h : D.hasT P x t) : ∃ es, x = .sl es /\ es.length <= maxLen /\ D.allT P es e := by
 cases x <;> simp only [D.hasT] at h
 case int k' n => rw [ht] at h; cases h.1
 case bool b => rw [ht] at h; cases h
 case str l => rw [ht] at h; cases h.1
 case sl es =>
  obtain ⟨e', h, h2, h3⟩ := h
  rw [ht] at h; injection h with h; injection h with h; subst h
  exact ⟨es, rfl, h2, h3⟩
 case agg => have := h.1; unfold isAgg at this; rw [ht] at this; cases this
theorem hasT_agg {ls : List TypeId} (ha : isAgg P t = true) (hl : leafs P 20 t = some ls) (h : D.hasT P x t) : ∃ cs, x = .agg cs /\ D.hasTs P cs ls := by
 have no : ∀ u, P.underlying t = some u -> (∀ fs, u ≠ .struct fs) -> (∀ k e, u ≠ .array k e) -> False := by
  intro u hu h1 h2
  unfold isAgg at ha
  rw [hu] at ha
  split at ha
  ·rename_i e; injection e with e; exact h1 _ e
  ·rename_i e; injection e with e; exact h2 _ _ e
  ·cases ha
 cases x <;> simp only [D.hasT] at h
 case int k' n => exact (no _ h.1 (fun _ h => by cases h) (fun _ _ h => by cases h)).elim
 case bool b => exact (no _ h (fun _ h => by cases h) (fun _ _ h => by cases h)).elim
 case str l => exact (no _ h.1 (fun _ h => by cases h) (fun _ _ h => by cases h)).elim
 case sl es => obtain ⟨e', h, _⟩ := h; exact (no _ h (fun _ h => by cases h) (fun _ _ h => by cases h)).elim
 case agg cs =>
  obtain ⟨_, ls', h1, h2⟩ := h
  rw [hl] at h1; injection h1 with h1; subst h1
  exact ⟨cs, rfl, h2⟩
theorem hasTs_cons {t : TypeId} {ts : List TypeId} {cs : List D} (h : D.hasTs P cs (t :: ts)) : ∃ x xs, cs = x :: xs /\ D.hasT P x t /\ D.hasTs P xs ts := by
 cases cs with
 | nil => simp [D.hasTs] at h
 | cons x xs => obtain ⟨_, _, e, h1, h2⟩ := h; injection e with e1 e2; subst e1; subst e2; exact ⟨x, xs, rfl, h1, h2⟩
theorem hasTs_nil {cs : List D} (h : D.hasTs P cs []) : cs = [] := by
 cases cs with
 | nil => rfl
 | cons x xs => obtain ⟨_, _, e, _⟩ := h; cases e
theorem allT_map {α : Type} {f : α -> D} {q : α -> Prop} (hf : ∀ x, D.hasT P x e -> ∃ a, x = f a /\ q a) : ∀ (es : List D), D.allT P es e -> ∃ l : List α, es = l.map f /\ ∀ a ∈ l, q a
 | [], _ => ⟨[], rfl, fun _ h => by cases h⟩
 | x :: es, h => by
   obtain ⟨a, rfl, h1⟩ := hf x h.1
   obtain ⟨l, rfl, h2⟩ := allT_map hf es h.2
   exact ⟨a :: l, rfl, fun b hb => (List.mem_cons.1 hb).elim (fun e => e ▸ h1) (h2 b)⟩
end
end Go.Proofs.YtealblliddhgiaaGreat
end
section
namespace Go.Proofs.YtealblliddhgiaaGreat
open Go.ChangeShapes Go.WideShapes Go.RowKit
theorem maxLen_le : maxLen <= 9223372036854775807 := by decide
theorem int_s {x : D} (h : D.hasT Tryz.prog x 3) : ∃ n : Int, x = .i n := by
 obtain ⟨n, h, _⟩ := hasT_int undT_3 h
 exact ⟨n, h⟩
theorem op_s {x : D} (h : D.hasT Tryz.prog x 25) : ∃ n : Int, x = .i n := by
 obtain ⟨n, h, _⟩ := hasT_int undT_25 h
 exact ⟨n, h⟩
theorem nm_s {x : D} (h : D.hasT Tryz.prog x 103) : ∃ r : TNm, x = r.d /\ r.name.length <= 9223372036854775807 := by
 obtain ⟨cs, rfl, hh⟩ := hasT_agg (by kernel_rfl) (ls := [9, 3]) (by kernel_rfl) h
 clear h; have h := hh; clear hh
 obtain ⟨a, cs, rfl, ha, h⟩ := hasTs_cons h
 obtain ⟨b, cs, rfl, hb, h⟩ := hasTs_cons h
 have := hasTs_nil h; subst this
 obtain ⟨l, rfl, hl⟩ := hasT_str (by kernel_rfl) ha
 obtain ⟨n, rfl⟩ := int_s hb
 exact ⟨⟨l, n⟩, rfl, by have := maxLen_le; simp only; omega⟩
theorem sig_s {x : D} (h : D.hasT Tryz.prog x 24) : ∃ s : TSig, x = s.d /\ s.Fits := by
 obtain ⟨cs, rfl, hh⟩ := hasT_agg (by kernel_rfl) (ls := [22, 22]) (by kernel_rfl) h
 clear h; have h := hh; clear hh
 obtain ⟨a, cs, rfl, ha, h⟩ := hasTs_cons h
 obtain ⟨b, cs, rfl, hb, h⟩ := hasTs_cons h
 have := hasTs_nil h; subst this
 obtain ⟨es, rfl, h1, h2⟩ := hasT_sl undT_22 ha
 obtain ⟨l, rfl, hl⟩ := allT_map (fun x h => nm_s h) es h2
 obtain ⟨es', rfl, h3, h4⟩ := hasT_sl undT_22 hb
 obtain ⟨l', rfl, hl'⟩ := allT_map (fun x h => nm_s h) es' h4
 have := maxLen_le
 exact ⟨⟨l, l'⟩, rfl, ⟨by simp at h1; simp only; omega, by simp at h3; simp only; omega, hl, hl'⟩⟩
theorem tm_s_aux : ∀ (n : Nat) (x : D), SizeOf.sizeOf x <= n -> D.hasT Tryz.prog x 28 -> ∃ t : Tm, x = t.d /\ t.fits := by
 intro n
 induction n with
 | zero => intro x hx _; cases x <;> simp at hx
 | succ n ih =>
   intro x hx h
   obtain ⟨cs, rfl, hh⟩ := hasT_agg (by kernel_rfl) (ls := [25, 3, 26]) (by kernel_rfl) h
   clear h; have h := hh; clear hh
   obtain ⟨a, cs, rfl, ha, h⟩ := hasTs_cons h
   obtain ⟨b, cs, rfl, hb, h⟩ := hasTs_cons h
   obtain ⟨c, cs, rfl, hc, h⟩ := hasTs_cons h
   have := hasTs_nil h; subst this
   obtain ⟨o, rfl⟩ := op_s ha
   obtain ⟨m, rfl⟩ := int_s hb
   obtain ⟨es, rfl, h1, h2⟩ := hasT_sl undT_26 hc
   have hes : SizeOf.sizeOf es <= n := by simp at hx; omega
   have : ∀ es : List D, SizeOf.sizeOf es <= n -> D.allT Tryz.prog es 28 -> ∃ l : List Tm, es = l.map Tm.d /\ ∀ k ∈ l, k.fits := by
    intro es
    induction es with
    | nil => intro _ _; exact ⟨[], rfl, fun _ h => by cases h⟩
    | cons y es ihe =>
      intro hs h
      simp at hs
      obtain ⟨t, rfl, ht⟩ := ih y (by omega) h.1
      obtain ⟨l, rfl, hl⟩ := ihe (by omega) h.2
      exact ⟨t :: l, rfl, fun b hb => (List.mem_cons.1 hb).elim (fun e => e ▸ ht) (hl b)⟩
   obtain ⟨l, rfl, hl⟩ := this es hes h2
   refine ⟨.mk o m l, by rw [Tm.d_mk], ?_⟩
   rw [Tm.fits_iff]
   exact ⟨by have := maxLen_le; simp at h1; simp only [Tm.kids]; omega, hl⟩
theorem tm_s {x : D} (h : D.hasT Tryz.prog x 28) : ∃ t : Tm, x = t.d /\ t.fits := tm_s_aux _ x (Nat.le_refl _) h
end Go.Proofs.YtealblliddhgiaaGreat
end
section
namespace Go.Proofs.YtealblliddhgiaaGreat
open Go.ChangeShapes Go.WideShapes Go.RowKit
theorem tb_s {x : D} (h : D.hasT Tryz.prog x 52) : ∃ b : TB, x = b.d /\ b.term.fits := by
 obtain ⟨cs, rfl, hh⟩ := hasT_agg (by kernel_rfl) (ls := [3, 25, 3, 26]) (by kernel_rfl) h
 clear h; have h := hh; clear hh
 obtain ⟨v, cs, rfl, hv, h⟩ := hasTs_cons h
 obtain ⟨a, cs, rfl, ha, h⟩ := hasTs_cons h
 obtain ⟨b, cs, rfl, hb, h⟩ := hasTs_cons h
 obtain ⟨c, cs, rfl, hc, h⟩ := hasTs_cons h
 have := hasTs_nil h; subst this
 obtain ⟨k, rfl⟩ := int_s hv
 obtain ⟨o, rfl⟩ := op_s ha
 obtain ⟨m, rfl⟩ := int_s hb
 obtain ⟨es, rfl, h1, h2⟩ := hasT_sl undT_26 hc
 obtain ⟨l, rfl, hl⟩ := allT_map (fun x h => tm_s h) es h2
 refine ⟨⟨k, .mk o m l⟩, rfl, ?_⟩
 rw [Tm.fits_iff]
 exact ⟨by have := maxLen_le; simp at h1; simp only [Tm.kids]; omega, hl⟩
theorem binds_s {x : D} (h : D.hasT Tryz.prog x 29) : ∃ l : List TB, x = .sl (l.map TB.d) /\ (l.length <= 9223372036854775807 /\ ∀ b ∈ l, b.term.fits) := by
 obtain ⟨es, rfl, h1, h2⟩ := hasT_sl undT_29 h
 obtain ⟨l, rfl, hl⟩ := allT_map (fun x h => tb_s h) es h2
 exact ⟨l, rfl, by have := maxLen_le; simp at h1; omega, hl⟩
end Go.Proofs.YtealblliddhgiaaGreat
end
section
namespace Go.Proofs.YtealblliddhgiaaGreat
open Go.ChangeShapes Go.WideShapes Go.RowKit
set_option maxRecDepth 100000 in
theorem termSubsts_lifted (os : Os) (started : os.Started) (H : Type) (enc : TypeId × Value -> H) :
 ReturnsInHanded {} Tryz.checked os 3 .any (Rows.termSubstsSpec.pre6 enc Tryz.prog Tryz.f3 Rows.termSubstsRow.domain false) (Rows.termSubstsSpec.post enc Tryz.prog Tryz.f3 Rows.termSubstsRow.apart Rows.termSubstsRow.fresh Rows.termSubstsRow.handsOn Rows.termSubstsRow.again) := by
 refine returnsInHanded_of_change (C := Tryz.checked) (by kernel_rfl) started (by kernel_rfl) Tryz.func3
  (ChangeSpec.witness6 (enc := enc) (C := Tryz.checked) false ⟨#[], #[.agg #[.slice none 0 0, .slice none 0 0], .agg #[.int .i64 0, .int .i64 0, .slice none 0 0], .slice none 0 0], []⟩ 8 (by kernel_rfl) (by kernel_rfl) (by kernel_rfl) (by kernel_rfl)) ?_
 intro W base args ds gs before hval hW _ _
 refine law_contract (T := [24, 22, 103, 9, 3, 28, 26, 25, 29, 52]) (tb := 4) (by kernel_rfl) (by kernel_rfl) rfl (fun ds h => by match ds, h with | [_, _, _], _ => rfl) (by kernel_rfl) (by intro t ht; rw [Tryz.params3] at ht; simp at ht; rcases ht with rfl | rfl | rfl <;> simp) (by kernel_rfl) (by intro t ht; rw [Tryz.params3] at ht; simp at ht; rcases ht with rfl | rfl | rfl <;> exact ⟨by kernel_rfl, of_decide_eq_true (by kernel_rfl)⟩)
  (fun xs hx => ?_) base args ds gs before hval hW
 rw [Tryz.params3] at hx
 obtain ⟨x0, xs, rfl, hx0, hx⟩ := hasTs_cons hx
 obtain ⟨x1, xs, rfl, hx1, hx⟩ := hasTs_cons hx
 obtain ⟨x2, xs, rfl, hx2, hx⟩ := hasTs_cons hx
 have := hasTs_nil hx; subst this
 obtain ⟨s0, rfl, hs0⟩ := sig_s hx0
 obtain ⟨t1, rfl, ht1⟩ := tm_s hx1
 obtain ⟨l2, rfl, hl2⟩ := binds_s hx2
 exact termSubsts_c s0 hs0 t1 ht1 l2 hl2.1 hl2.2
theorem termSubsts_holds : Rows.TermSubstsSaid :=
 OpenClaim.holds_of_wide 3 Tryz.f3 rfl rfl rfl rfl rfl rfl rfl ⟨rfl, rfl, rfl, rfl, rfl⟩ rfl rfl rfl rfl rfl (by kernel_rfl) Tryz.func3 (by kernel_rfl)
  (of_decide_eq_true (by kernel_rfl)) (by unfold Func.isWrapper; first | (rw [if_pos (by decide +kernel)]; kernel_rfl) | (rw [if_neg (by decide +kernel)]; exact ⟨rfl, rfl⟩))
  (fun os started H enc _ => termSubsts_lifted os started H enc)
end Go.Proofs.YtealblliddhgiaaGreat
end
