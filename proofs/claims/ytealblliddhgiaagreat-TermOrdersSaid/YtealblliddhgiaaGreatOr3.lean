/-
  A PART OF THE PROOF (put together by program): several texts, one behind the other. Conditions: none.
-/
import Derived.Great.BuildSlice
import Derived.Great.FillDense
import Derived.Test.YtealblliddhgiaaGreatOr2
set_option linter.unusedSimpArgs false
set_option linter.unusedVariables false
namespace Go.Proofs.YtealblliddhgiaaGreat
theorem put_nil (H : Hp) : H.put [] = H := by
  obtain ⟨o, us⟩ := H
  simp [Hp.put, put]
theorem put_append (H : Hp) (A C : List (Nat × Obj')) : H.put (A ++ C) = (H.put A).put C := by
  obtain ⟨o, us⟩ := H
  simp only [Hp.put, put, List.foldl_append, Hp.mk.injEq, true_and]
  funext id
  simp only [List.map_append, List.mem_append, eq_iff_iff]
  exact ⟨fun h => by rcases h with h | h | h <;> simp [h], fun h => by rcases h with (h | h) | h <;> simp [h]⟩
@[simp] theorem put_one_o (H : Hp) (i : Nat) (x : Obj') : (H.put [(i, x)]).o = upd H.o i x := rfl
@[simp] theorem put_one_us (H : Hp) (i j : Nat) (x : Obj') : (H.put [(i, x)]).us j ↔ (H.us j ∨ j = i) := by simp [Hp.put]
section
variable {M : Nat → Prop} {φ φ' : Place} {H H' : Hp} {w w' : World}
theorem ObjOk.mono' (hbl : ∀ b, Cellish w b → ¬ mutB M φ H b → w'.heap[b]? = w.heap[b]? ∧ ¬ mutB M φ' H' b) (hrl : StepRel φ H φ' H') {id : Nat} (ho : H'.o id = H.o id) (hφ : φ' id = φ id)
    (hb : (H.o id).live = true → ∀ b, blk (φ id) = some b → w'.heap[b]? = w.heap[b]?) (h : ObjOk M φ H w id) : ObjOk M φ' H' w' id := by
  unfold ObjOk at *
  rw [ho]
  cases hx : H.o id with
  | no => trivial
  | row cs =>
    simp only [hx] at h ⊢
    obtain ⟨b, carr, ty, h1, h2, h3, h4⟩ := h
    exact ⟨b, carr, ty, hφ.trans h1, (hb (by rw [hx]; rfl) b (by rw [h1]; rfl)).trans h2, V.dens_mono' hbl hrl cs _ h3, h4⟩
  | arr ep ty sz es =>
    simp only [hx] at h ⊢
    obtain ⟨h0, xs, h1, evs, h2, h3, h4⟩ := h
    refine ⟨h0, xs, ?_, evs, h2, h3, D.dens_mono hbl es evs h4⟩
    rw [hφ]
    obtain ⟨g1, g2⟩ := h1
    refine ⟨g1, ?_⟩
    rcases g2 with g2 | ⟨g, cap, cur, k1, k2, k3, k4⟩
    · exact .inl g2
    · exact .inr ⟨g, cap, cur, k1, k2, (hb (by rw [hx]; rfl) g (by rw [k1]; rfl)).trans k3, k4⟩
  | fro ep es =>
    simp only [hx] at h ⊢
    rw [hφ]
    exact D.den_mono hbl (.sl es) _ h
  | map kt vt l =>
    simp only [hx] at h ⊢
    obtain ⟨b, es, clock, h1, h2, h4, h3⟩ := h
    exact ⟨b, es, clock, hφ.trans h1, (hb (by rw [hx]; rfl) b (by rw [h1]; rfl)).trans h2, h4, EntsDen.mono hbl l _ h3⟩
  | mfro l =>
    simp only [hx] at h ⊢
    rw [hφ]
    exact D.den_mono hbl (.mp _ _) _ h
  | mit l last =>
    simp only [hx] at h ⊢
    obtain ⟨b, h1, h2⟩ := h
    exact ⟨b, hφ.trans h1, h2.mono hbl (hb (by rw [hx]; rfl) b (by rw [h1]; rfl))⟩
  | sit s pos =>
    simp only [hx] at h ⊢
    obtain ⟨b, h1, h2⟩ := h
    exact ⟨b, hφ.trans h1, (hb (by rw [hx]; rfl) b (by rw [h1]; rfl)).trans h2⟩
  | loop nf n env ps ica icb st pend =>
    simp only [hx] at h ⊢
    obtain ⟨b, r, h1, h2, h0, h3, h4, h5, h6, h7, h8, h9⟩ := h
    exact ⟨b, r, hφ.trans h1, (hb (by rw [hx]; rfl) b (by rw [h1]; rfl)).trans h2, h0, h3, h4, h5, h6, h7, h8, fun i => V.den_mono' hbl hrl _ _ (h9 i)⟩
theorem ObjOk.mono (ht : Trans φ H w φ' H' w') {id : Nat} (ho : H'.o id = H.o id) (hφ : φ' id = φ id)
    (hb : (H.o id).live = true → ∀ b, blk (φ id) = some b → w'.heap[b]? = w.heap[b]?) (h : ObjOk M φ H w id) : ObjOk M φ' H' w' id := ObjOk.mono' ht.blocks ht.rel ho hφ hb h
theorem HeapOk.of (hH : HeapOk M φ H w) (ht : Trans φ H w φ' H' w') (T : Nat → Prop) (hT : ∀ id, T id → ObjOk M φ' H' w' id)
    (hn : ∀ id, ¬ T id → H'.o id = H.o id ∧ φ' id = φ id ∧ ((H.o id).live = true → ∀ b, blk (φ id) = some b → w'.heap[b]? = w.heap[b]?))
    (hfresh : ∀ id, ¬ H'.us id → H'.o id = .no)
    (hap : ∀ i j b, (H'.o i).live = true → (H'.o j).live = true → blk (φ' i) = some b → blk (φ' j) = some b → i = j)
    (hours : ∀ b, liveB φ' H' b → b < w'.heap.size) : HeapOk M φ' H' w' where
  ok id := by
    by_cases hc : T id
    · exact hT id hc
    · obtain ⟨h1, h2, h3⟩ := hn id hc
      exact (hH.ok id).mono ht h1 h2 h3
  fresh := hfresh
  apart := hap
  ours b hb := by
    refine ⟨fun hM => ?_, hours b hb⟩
    rcases ht.grow b hb with h1 | h1
    · exact (hH.ours b h1).1 hM
    · have := hH.old b hM; omega
  old b hM := Nat.lt_of_lt_of_le (hH.old b hM) ht.keep.size
theorem trans_new (hk : Keep (fun _ => False) w w') {fr : Nat} (hfr : ¬ H.us fr) (obj : Obj') (val : Value) (hval : ∀ b, blk val = some b → w.heap.size ≤ b) :
    Trans φ H w (upd φ fr val) (H.put [(fr, obj)]) w' where
  keep := ⟨hk.os, hk.tape, hk.output, hk.size, fun k h _ => hk.block k h (fun h => h)⟩
  grow b := by
    rintro ⟨id, h1, h2⟩
    by_cases hid : id = fr
    · subst hid; simp at h2; exact .inr (hval b h2)
    · simp [hid] at h1 h2; exact .inl ⟨id, h1, h2⟩
  rel := {
    us := fun id h => by simp [h]
    row := fun id hu hr => by
      have hid : id ≠ fr := fun h => hfr (h ▸ hu)
      simp [hid] at hr ⊢; exact hr
    ep := fun id e' hu he => by
      have hid : id ≠ fr := fun h => hfr (h ▸ hu)
      simp [hid] at he ⊢; exact ⟨e', he, Nat.le_refl _⟩ }
theorem heap_new (hH : HeapOk M φ H w) (hk : Keep (fun _ => False) w w') {fr : Nat} (hfr : ¬ H.us fr) (obj : Obj') (val : Value) (hval : ∀ b, blk val = some b → w.heap.size ≤ b ∧ b < w'.heap.size)
    (hobj : ObjOk M (upd φ fr val) (H.put [(fr, obj)]) w' fr) : HeapOk M (upd φ fr val) (H.put [(fr, obj)]) w' := by
  have ht : Trans φ H w (upd φ fr val) (H.put [(fr, obj)]) w' := trans_new hk hfr obj val fun b hb => (hval b hb).1
  refine hH.of ht (· = fr) (fun id h => h ▸ hobj) (fun id h => ?_) (fun id h => ?_) (fun i j b hi hj bi bj => ?_) (fun b => ?_)
  · refine ⟨by simp [h], by simp [h], fun hl b hb => hk.block b ?_ (fun h => h)⟩
    exact (hH.ours b ⟨id, hl, hb⟩).2
  · rw [put_one_us] at h
    have h1 : id ≠ fr := fun e => h (.inr e)
    simp only [put_one_o, upd_apply, h1, if_false]
    exact hH.fresh id fun hu => h (.inl hu)
  · by_cases e1 : i = fr <;> by_cases e2 : j = fr
    · exact e1.trans e2.symm
    · simp [e1, e2] at hi hj bi bj
      have := (hH.ours b ⟨j, hj, bj⟩).2; have := (hval b bi).1; omega
    · simp [e1, e2] at hi hj bi bj
      have := (hH.ours b ⟨i, hi, bi⟩).2; have := (hval b bj).1; omega
    · simp [e1, e2] at hi hj bi bj
      exact hH.apart i j b hi hj bi bj
  · rintro ⟨id, h1, h2⟩
    by_cases hid : id = fr
    · subst hid; simp at h2; exact (hval b h2).2
    · simp [hid] at h1 h2
      exact Nat.lt_of_lt_of_le (hH.ours b ⟨id, h1, h2⟩).2 hk.size
theorem keep_alloc (w : World) (o : Obj) : Keep (fun _ => False) w (w.alloc o) :=
  ⟨rfl, rfl, rfl, by simp, fun k hk _ => RowKit.Below.heap_alloc w o k hk⟩
theorem keep_grown {w w' : World} (h : w.grownBy w' none) : Keep (fun _ => False) w w' :=
  ⟨h.os, h.tape, h.output, h.size, fun k hk _ => h.block k hk (by simp)⟩
theorem new_row (hH : HeapOk M φ H w) {fr : Nat} (hfr : ¬ H.us fr) (cs : List V) (carr : Array Value) (ty : TypeId) (hd : V.dens (mutB M φ H) φ H w cs carr.toList) (hf : Flat carr.toList) :
    let φ' := upd φ fr (.pointer (some ⟨w.heap.size, 0, none⟩)); let H' := H.put [(fr, .row cs)]; let w' := w.alloc (.cells carr ty)
    HeapOk M φ' H' w' ∧ Trans φ H w φ' H' w' ∧ V.den (mutB M φ' H') φ' H' w' (.ptr fr 0) (.pointer (some ⟨w.heap.size, 0, none⟩)) := by
  intro φ' H' w'
  have hv : ∀ b, blk (.pointer (some ⟨w.heap.size, 0, none⟩)) = some b → w.heap.size ≤ b ∧ b < w'.heap.size := by
    intro b hb; simp [blk] at hb; subst hb; simp [w']
  have ht : Trans φ H w φ' H' w' := trans_new (keep_alloc w _) hfr _ _ fun b hb => (hv b hb).1
  refine ⟨heap_new hH (keep_alloc w _) hfr _ _ hv ?_, ht, rfl, by simp [H'], fun _ => ⟨w.heap.size, by simp [φ'], rfl⟩⟩
  unfold ObjOk
  simp only [put_one_o, upd_apply, if_true]
  exact ⟨w.heap.size, carr, ty, rfl, heap_alloc_new w _, V.dens_mono ht cs _ hd, hf⟩
theorem trans_turn {id : Nat} (hus : H.us id) {b : Nat} (hlive : (H.o id).live = true) (hb : blk (φ id) = some b) (hk : Keep (· = b) w w') (obj : Obj') (hrow : obj.isRow = (H.o id).isRow) (hep : obj.epoch = (H.o id).epoch) :
    Trans φ H w φ (H.put [(id, obj)]) w' where
  keep := ⟨hk.os, hk.tape, hk.output, hk.size, fun k h hl => hk.block k h (fun e => hl ⟨id, hlive, e ▸ hb⟩)⟩
  grow b' := by
    rintro ⟨j, h1, h2⟩
    by_cases hj : j = id
    · subst hj; exact .inl ⟨j, hlive, h2⟩
    · simp [hj] at h1; exact .inl ⟨j, h1, h2⟩
  rel := {
    us := fun j h => by simp [h]
    row := fun j hu hr => by
      by_cases hj : j = id
      · subst hj; simp at hr; exact ⟨hrow ▸ hr, rfl⟩
      · simp [hj] at hr; exact ⟨hr, rfl⟩
    ep := fun j e' hu he => by
      by_cases hj : j = id
      · subst hj; simp at he; exact ⟨e', hep ▸ he, Nat.le_refl _, fun _ => rfl⟩
      · simp [hj] at he; exact ⟨e', he, Nat.le_refl _, fun _ => rfl⟩ }
theorem heap_turn (hH : HeapOk M φ H w) {id : Nat} (hus : H.us id) {b : Nat} (hlive : (H.o id).live = true) (hb : blk (φ id) = some b) (hk : Keep (· = b) w w') (obj : Obj') (hrow : obj.isRow = (H.o id).isRow)
    (hep : obj.epoch = (H.o id).epoch) (hobj : ObjOk M φ (H.put [(id, obj)]) w' id) : HeapOk M φ (H.put [(id, obj)]) w' := by
  refine hH.of (trans_turn hus hlive hb hk obj hrow hep) (· = id) (fun j h => h ▸ hobj) (fun j h => ?_) (fun j h => ?_) (fun i j b' hi hj bi bj => ?_) (fun b' => ?_)
  · refine ⟨by simp [h], rfl, fun hl b' hb' => hk.block b' (hH.ours b' ⟨j, hl, hb'⟩).2 fun e => h ?_⟩
    exact hH.apart j id b hl hlive (e ▸ hb') hb
  · rw [put_one_us] at h
    have h1 : j ≠ id := fun e => h (.inr e)
    simp only [put_one_o, upd_apply, h1, if_false]
    exact hH.fresh j fun hu => h (.inl hu)
  · refine hH.apart i j b' ?_ ?_ bi bj
    · by_cases e : i = id
      · subst e; exact hlive
      · simpa [e] using hi
    · by_cases e : j = id
      · subst e; exact hlive
      · simpa [e] using hj
  · rintro ⟨j, h1, h2⟩
    refine Nat.lt_of_lt_of_le (hH.ours b' ⟨j, ?_, h2⟩).2 hk.size
    by_cases e : j = id
    · subst e; exact hlive
    · simpa [e] using h1
theorem keep_setRow (w : World) (b : Nat) (cs : Array Value) : Keep (· = b) w (w.setRow b cs) :=
  ⟨rfl, rfl, rfl, by simp, fun k _ hk => by
    unfold World.setRow
    simp only [Array.getElem?_modify]
    rw [if_neg (fun e => hk e.symm)]⟩
theorem turn_row (hH : HeapOk M φ H w) {id b : Nat} (hus : H.us id) {cs cs' : List V} (ho : H.o id = .row cs) (hφ : φ id = .pointer (some ⟨b, 0, none⟩)) {carr : Array Value} {ty : TypeId}
    (hb : w.heap[b]? = some (.cells carr ty (0, 0))) (carr' : Array Value) (hd : V.dens (mutB M φ H) φ H w cs' carr'.toList) (hf : Flat carr'.toList) :
    HeapOk M φ (H.put [(id, .row cs')]) (w.setRow b carr') ∧ Trans φ H w φ (H.put [(id, .row cs')]) (w.setRow b carr') := by
  have hl : (H.o id).live = true := by rw [ho]; rfl
  have hbl : blk (φ id) = some b := by rw [hφ]; rfl
  have ht : Trans φ H w φ (H.put [(id, .row cs')]) (w.setRow b carr') := trans_turn hus hl hbl (keep_setRow w b carr') _ (by rw [ho]; rfl) (by rw [ho]; rfl)
  refine ⟨heap_turn hH hus hl hbl (keep_setRow w b carr') _ (by rw [ho]; rfl) (by rw [ho]; rfl) ?_, ht⟩
  unfold ObjOk
  simp only [put_one_o, upd_apply, if_true]
  exact ⟨b, carr', ty, hφ, setRow_heap w b carr carr' ty (0, 0) hb, V.dens_mono ht cs' _ hd, hf⟩
theorem elems_of_row {B : Nat → Prop} {sz g : Nat} (cur : Array Value) (ty : TypeId) (fz : Nat × Nat) (hg : w.heap[g]? = some (.cells cur ty fz)) (hB : ¬ B g) :
    ∀ (es : List D) (evs : List Value) (i : Nat), D.dens B w es evs → (∀ ev ∈ evs, ev.cells.size = sz) → (∀ j u, (evs.flatMap (·.cells.toList))[j]? = some u → cur[i * sz + j]? = some u) → D.elems B w sz ⟨g, 0, none⟩ i es
  | [], _, _, _, _, _ => trivial
  | e :: es, _, i, h, hs, hc => by
    obtain ⟨ev, evs, rfl, h1, h2⟩ := h
    have hsz : ev.cells.size = sz := hs ev (by simp)
    refine ⟨⟨ev, hsz, fun j u hj => ?_, h1⟩, elems_of_row cur ty fz hg hB es evs (i + 1) h2 (fun x hx => hs x (by simp [hx])) fun j u hj => ?_⟩
    · have hlt : j < ev.cells.size := (Array.getElem?_eq_some_iff.1 hj).1
      have : cur[i * sz + j]? = some u := hc j u (by
        rw [List.flatMap_cons, List.getElem?_append_left (by simpa using hlt)]; simpa using hj)
      refine ⟨?_, by simpa using hB⟩
      unfold Addr.add World.cell?
      by_cases e1 : i * sz = 0 <;> by_cases e2 : j = 0 <;> simp_all
    · have := hc (sz + j) u (by
        rw [List.flatMap_cons, List.getElem?_append_right (by simp [hsz])]
        simpa [hsz] using hj)
      rw [show (i + 1) * sz + j = i * sz + (sz + j) by rw [Nat.add_mul]; omega]
      exact this
theorem freeze1 (hH : HeapOk M φ H w) {id ep sz : Nat} {ty : TypeId} {es : List D} (hus : H.us id) (ho : H.o id = .arr ep ty sz es) :
    HeapOk M φ (H.put [(id, .fro ep es)]) w ∧ Trans φ H w φ (H.put [(id, .fro ep es)]) w := by
  have hno : ∀ b, liveB φ (H.put [(id, .fro ep es)]) b → liveB φ H b := by
    rintro b ⟨j, h1, h2⟩
    by_cases hj : j = id
    · subst hj; simp [Obj'.live] at h1
    · simp [hj] at h1; exact ⟨j, h1, h2⟩
  have ht : Trans φ H w φ (H.put [(id, .fro ep es)]) w := {
    keep := Keep.refl _ _
    grow := fun b hb => .inl (hno b hb)
    rel := {
      us := fun j h => by simp [h]
      row := fun j hu hr => by
        by_cases hj : j = id
        · subst hj; simp [Obj'.isRow] at hr
        · simp [hj] at hr; exact ⟨hr, rfl⟩
      ep := fun j e' hu he => by
        by_cases hj : j = id
        · subst hj; simp [Obj'.epoch] at he; subst he; exact ⟨ep, by rw [ho]; rfl, Nat.le_refl _, fun _ => rfl⟩
        · simp [hj] at he; exact ⟨e', he, Nat.le_refl _, fun _ => rfl⟩ } }
  refine ⟨hH.of ht (· = id) (fun j h => ?_) (fun j h => ⟨by simp [h], rfl, fun _ _ _ => rfl⟩) (fun j h => ?_) (fun i j b hi hj bi bj => ?_) (fun b hb => (hH.ours b (hno b hb)).2), ht⟩
  · subst h
    have hok := hH.ok j
    unfold ObjOk at hok ⊢
    simp only [ho, put_one_o, upd_apply, if_true] at hok ⊢
    obtain ⟨h0, xs, ⟨hl, hrow⟩, evs, rfl, h2, h3⟩ := hok
    have hlen := D.dens_length _ _ h3
    rcases hrow with ⟨h4, h5⟩ | ⟨g, cap, cur, h4, _, h5, h6, h7, h8, h9⟩
    · rw [h4]
      have : es = [] := by simpa using h5
      subst this
      exact ⟨none, 0, 0, rfl, rfl, Nat.le_refl _, fun _ => rfl, 0, fun a ha => by cases ha⟩
    · rw [h4]
      refine ⟨some ⟨g, 0, none⟩, es.length, cap, rfl, rfl, h6, (fun h => by cases h), sz, fun a ha => ?_⟩
      injection ha with ha; subst ha
      refine ⟨fun _ => rfl, elems_of_row cur ty (0, 0) h5 ?_ es evs 0 (D.dens_mono (ht.blocks (M := M)) es evs h3) h2 fun j' u hj' => ?_⟩
      · rintro (hM | ⟨i, hi1, hi2⟩)
        · exact (hH.ours g ⟨j, by rw [ho]; rfl, by rw [h4]; rfl⟩).1 hM
        · by_cases e : i = j
          · subst e; simp [Obj'.live] at hi1
          · simp [e] at hi1
            exact e (hH.apart i j g hi1 (by rw [ho]; rfl) hi2 (by rw [h4]; rfl))
      · rw [← h9] at hj'
        simp only [Nat.zero_mul, Nat.zero_add]
        rw [List.getElem?_take] at hj'
        split at hj'
        · simpa using hj'
        · cases hj'
  · rw [put_one_us] at h
    have h1 : j ≠ id := fun e => h (.inr e)
    simp only [put_one_o, upd_apply, h1, if_false]
    exact hH.fresh j fun hu => h (.inl hu)
  · by_cases e1 : i = id
    · subst e1; simp [Obj'.live] at hi
    · by_cases e2 : j = id
      · subst e2; simp [Obj'.live] at hj
      · simp [e1, e2] at hi hj; exact hH.apart i j b hi hj bi bj
theorem freezeM (hH : HeapOk M φ H w) {id : Nat} {kt vt : TypeId} {l : List (D × D)} (hus : H.us id) (ho : H.o id = .map kt vt l) :
    HeapOk M φ (H.put [(id, .mfro l)]) w ∧ Trans φ H w φ (H.put [(id, .mfro l)]) w := by
  have hno : ∀ b, liveB φ (H.put [(id, .mfro l)]) b → liveB φ H b := by
    rintro b ⟨j, h1, h2⟩
    by_cases hj : j = id
    · subst hj; simp [Obj'.live] at h1
    · simp [hj] at h1; exact ⟨j, h1, h2⟩
  have ht : Trans φ H w φ (H.put [(id, .mfro l)]) w := {
    keep := Keep.refl _ _
    grow := fun b hb => .inl (hno b hb)
    rel := {
      us := fun j h => by simp [h]
      row := fun j hu hr => by
        by_cases hj : j = id
        · subst hj; exact ⟨by rw [ho]; rfl, rfl⟩
        · simp [hj] at hr; exact ⟨hr, rfl⟩
      ep := fun j e' hu he => by
        by_cases hj : j = id
        · subst hj; simp [Obj'.epoch] at he
        · simp [hj] at he; exact ⟨e', he, Nat.le_refl _, fun _ => rfl⟩ } }
  refine ⟨hH.of ht (· = id) (fun j h => ?_) (fun j h => ⟨by simp [h], rfl, fun _ _ _ => rfl⟩) (fun j h => ?_) (fun i j b hi hj bi bj => ?_) (fun b hb => (hH.ours b (hno b hb)).2), ht⟩
  · subst h
    have hok := hH.ok j
    unfold ObjOk at hok ⊢
    simp only [ho, put_one_o, upd_apply, if_true] at hok ⊢
    obtain ⟨b, es, clock, h1, h2, h3, h4⟩ := hok
    obtain ⟨h5, h6⟩ := (ents_dens _ _).1 h4
    refine ⟨b, es, clock, h1, h2, ?_, h3, D.dens_mono (ht.blocks (M := M)) _ _ h5, D.dens_mono (ht.blocks (M := M)) _ _ h6⟩
    rintro (hM | ⟨i, hi1, hi2⟩)
    · exact (hH.ours b ⟨j, by rw [ho]; rfl, by rw [h1]; rfl⟩).1 hM
    · by_cases e : i = j
      · subst e; simp [Obj'.live] at hi1
      · simp [e] at hi1
        exact e (hH.apart i j b hi1 (by rw [ho]; rfl) hi2 (by rw [h1]; rfl))
  · rw [put_one_us] at h
    have h1 : j ≠ id := fun e => h (.inr e)
    simp only [put_one_o, upd_apply, h1, if_false]
    exact hH.fresh j fun hu => h (.inl hu)
  · by_cases e1 : i = id
    · subst e1; simp [Obj'.live] at hi
    · by_cases e2 : j = id
      · subst e2; simp [Obj'.live] at hj
      · simp [e1, e2] at hi hj; exact hH.apart i j b hi hj bi bj
end
end Go.Proofs.YtealblliddhgiaaGreat
namespace Go.Proofs.YtealblliddhgiaaGreat
def Eff (M : Nat → Prop) (φ : Place) (H : Hp) (w : World) (fr : Nat) (r : Result Next) (K : V → List (Nat × Obj') → List Nat → Prop) : Prop :=
  ∃ nx val w' φ' v Δ rd, K v Δ rd ∧ r = .ok nx w' ∧ (nx = .value val ∨ nx = .skip ∧ val = undef) ∧ HeapOk M φ' (H.put Δ) w' ∧ Trans φ H w φ' (H.put Δ) w' ∧
    V.den (mutB M φ' (H.put Δ)) φ' (H.put Δ) w' v val ∧ (∀ id ∈ Δ.map (·.1), H.us id ∨ id = fr)
section
variable {P : Program} {M : Nat → Prop} {φ : Place} {H : Hp} {w : World} {fr : Nat} {K : V → List (Nat × Obj') → List Nat → Prop}
theorem Eff.same (hH : HeapOk M φ H w) {r : Result Next} {v : V} {rd : List Nat} (val : Value) (hK : K v [] rd) (hr : r = .ok (.value val) w) (hd : V.den (mutB M φ H) φ H w v val) : Eff M φ H w fr r K :=
  ⟨_, val, w, φ, v, [], rd, hK, hr, .inl rfl, by rw [put_nil]; exact hH, by rw [put_nil]; exact Trans.refl _ _ _, by rw [put_nil]; exact hd, by simp⟩
theorem Eff.mono {r : Result Next} {K' : V → List (Nat × Obj') → List Nat → Prop} (h : Eff M φ H w fr r K) (hk : ∀ v Δ rd, K v Δ rd → K' v Δ rd) : Eff M φ H w fr r K' := by
  obtain ⟨nx, val, w', φ', v, Δ, rd, h1, h2⟩ := h
  exact ⟨nx, val, w', φ', v, Δ, rd, hk _ _ _ h1, h2⟩
theorem info_of_underlying {t : TypeId} {d : TypeDesc} (h : P.underlying t = some d) : ∃ i, P.info? t = some i := by
  unfold Program.underlying at h
  cases hi : P.info? t with
  | none => simp [hi] at h
  | some i => exact ⟨i, rfl⟩
theorem cellsOf_info {t : TypeId} {i : TypeInfo} (h : P.info? t = some i) : P.cellsOf t = i.size := by simp [Program.cellsOf, h]
theorem bytesOf_info {t : TypeId} {i : TypeInfo} (h : P.info? t = some i) : P.bytesOf t = i.bytes := by simp [Program.bytesOf, h]
theorem zeroT_spec {t : TypeId} {z : List V} (h : zeroT P t = some z) : ∃ i v, P.info? t = some i ∧ i.zero = some v ∧ v.cells.size = i.size ∧ Flat v.cells.toList ∧ z = v.cells.toList.map V.ofScalar := by
  unfold zeroT at h
  cases hi : P.info? t with
  | none => simp [hi] at h
  | some i =>
    simp only [hi] at h
    cases hz : i.zero with
    | none => simp [hz] at h
    | some v =>
      simp only [hz] at h
      split at h
      · rename_i hc
        injection h with h
        exact ⟨i, v, rfl, hz, hc.1, fun u hu => List.all_eq_true.1 hc.2 u hu, h.symm⟩
      · cases h
theorem aggT_true {t : TypeId} (h : aggT P t = some true) (w : World) : (isAgg t).run P w = .ok true w := by
  unfold aggT at h
  unfold isAgg
  cases hd : P.underlying t with
  | none => simp [hd] at h
  | some d => cases d <;> simp_all [run_underlying hd]
theorem aggT_false {t : TypeId} (h : aggT P t = some false) (w : World) : (isAgg t).run P w = .ok false w := by
  unfold aggT at h
  unfold isAgg
  cases hd : P.underlying t with
  | none => simp [hd] at h
  | some d => cases d <;> simp_all [run_underlying hd]
theorem run_size {t : TypeId} {i : TypeInfo} (h : P.info? t = some i) (w : World) : (sizeOf t).run P w = .ok (P.cellsOf t) w := by
  simp [sizeOf, typeInfo, h, cellsOf_info h]
theorem aggT_info {t : TypeId} {b : Bool} (h : aggT P t = some b) : ∃ i, P.info? t = some i := by
  unfold aggT at h
  cases hd : P.underlying t with
  | none => simp [hd] at h
  | some d => exact info_of_underlying hd
theorem sliceT_spec {t e : TypeId} (h : sliceT P t = some e) : P.underlying t = some (.slice e) := by
  unfold sliceT at h
  cases hd : P.underlying t with
  | none => simp [hd] at h
  | some d => cases d <;> simp_all
theorem arrT_spec {t e : TypeId} {n : Nat} (h : arrT P t = some (n, e)) : P.underlying t = some (.array n e) := by
  unfold arrT at h
  cases hd : P.underlying t with
  | none => simp [hd] at h
  | some d => cases d <;> simp_all
theorem add_zero (a : Addr) : a.add 0 = a := by simp [Addr.add]
theorem add_plain (b o j : Nat) : (⟨b, o, none⟩ : Addr).add j = ⟨b, o + j, none⟩ := by
  unfold Addr.add; split
  · rename_i h; subst h; rfl
  · rfl
theorem add_add (a : Addr) (h : a.spot = none) (m n : Nat) : (a.add m).add n = a.add (m + n) := by
  obtain ⟨b, o, s⟩ := a
  simp only at h; subst h
  simp only [add_plain, Nat.add_assoc]
theorem add_spot (a : Addr) (h : a.spot = none) (m : Nat) : (a.add m).spot = none := by
  unfold Addr.add; split <;> first | exact h | rfl
theorem ev_den (s : S) (a : Act) (henv : ∀ i, V.den (mutB M φ H) φ H w (s.env i) (a.tmps.getD i undef)) (x : Operand) : V.den (mutB M φ H) φ H w (s.ev x) (a.eval x) := by
  cases x with
  | tmp t => exact henv t
  | func f => exact ⟨#[], #[], rfl, rfl, rfl⟩
  | global g => trivial
  | const v =>
    cases v with
    | agg c =>
      simp only [S.ev, V.ofConst, Act.eval]
      split
      · rename_i hc
        have hf : Flat c.toList := fun u hu => List.all_eq_true.1 hc u hu
        exact mkAgg_den _ _ (ofScalars_dens _ hf) hf
      · trivial
    | tuple _ => trivial
    | _ => simp only [S.ev, V.ofConst, Act.eval]; exact ofScalar_den _ (by rfl)
theorem evs_den (s : S) (a : Act) (henv : ∀ i, V.den (mutB M φ H) φ H w (s.env i) (a.tmps.getD i undef)) : ∀ (xs : List Operand), V.dens (mutB M φ H) φ H w (xs.map s.ev) (xs.map a.eval)
  | [] => rfl
  | x :: xs => ⟨a.eval x, xs.map a.eval, rfl, ev_den s a henv x, evs_den s a henv xs⟩
theorem run_load_cells {t : TypeId} (a : Addr) (us : List Value) (hc : ∀ j u, us[j]? = some u → w.cell? (a.add j) = some u) :
    (aggT P t = some true → us.length = P.cellsOf t → (Instr.loadAt t (.pointer (some a))).run P w = .ok (.agg us.toArray) w) ∧
    (aggT P t = some false → ∀ u, us[0]? = some u → (Instr.loadAt t (.pointer (some a))).run P w = .ok u w) := by
  constructor
  · intro h hl
    obtain ⟨i, hi⟩ := aggT_info h
    have h1 := run_loadCells_list (P := P) w a us hc
    rw [hl] at h1
    simp [Instr.loadAt, Instr.sureAddr, loadVar, aggT_true h, run_size hi, h1]
  · intro h u hu
    have h1 := hc 0 u hu
    rw [add_zero] at h1
    simp [Instr.loadAt, Instr.sureAddr, loadVar, aggT_false h, h1]
theorem load_row {t : TypeId} {cs : List V} {off : Nat} {v : V} (hg : rowGet P t cs off = some v) (a : Addr) (vs : List Value) (hd : V.dens (mutB M φ H) φ H w cs vs) (hf : Flat vs)
    (hc : ∀ j u, vs[j]? = some u → w.cell? (a.add j) = some u) (ha : a.spot = none) : ∃ val, (Instr.loadAt t (.pointer (some (a.add off)))).run P w = .ok val w ∧ V.den (mutB M φ H) φ H w v val := by
  have hlen := V.dens_length _ _ hd
  unfold rowGet at hg
  cases hagg : aggT P t with
  | none => simp [hagg] at hg
  | some b =>
    cases b with
    | true =>
      simp only [hagg] at hg
      split at hg
      · rename_i hle
        injection hg with hg; subst hg
        refine ⟨.agg ((vs.drop off).take (P.cellsOf t)).toArray, (run_load_cells (P := P) (t := t) (a.add off) ((vs.drop off).take (P.cellsOf t)) ?_).1 hagg (by simp; omega), ?_⟩
        · intro j u hj
          rw [add_add a ha]
          rw [List.getElem?_take] at hj
          split at hj
          · exact hc _ _ (by simpa using hj)
          · cases hj
        · refine mkAgg_den _ _ ?_ ?_
          · exact V.dens_take _ _ _ (V.dens_drop _ _ _ hd)
          · intro u hu
            exact hf u (List.mem_of_mem_drop (List.mem_of_mem_take (by simpa using hu)))
      · cases hg
    | false =>
      simp only [hagg] at hg
      obtain ⟨u, hu, hdu⟩ := V.dens_get _ _ _ _ hd hg
      refine ⟨u, (run_load_cells (P := P) (t := t) (a.add off) (vs.drop off) ?_).2 hagg u (by simpa using hu), hdu⟩
      intro j x hj
      rw [add_add a ha]
      exact hc _ _ (by simpa using hj)
theorem flatMap_get (sz : Nat) : ∀ (evs : List Value) (i j : Nat) (ev : Value) (u : Value), (∀ x ∈ evs, x.cells.size = sz) → evs[i]? = some ev → ev.cells[j]? = some u →
    (evs.flatMap (·.cells.toList))[i * sz + j]? = some u
  | [], _, _, _, _, _, h, _ => by simp at h
  | e :: evs, 0, j, ev, u, hs, h, hu => by
    simp at h; subst h
    have : j < e.cells.size := (Array.getElem?_eq_some_iff.1 hu).1
    rw [List.flatMap_cons, List.getElem?_append_left (by simp; omega)]
    simpa using hu
  | e :: evs, i + 1, j, ev, u, hs, h, hu => by
    have ih := flatMap_get sz evs i j ev u (fun x hx => hs x (by simp [hx])) (by simpa using h) hu
    rw [List.flatMap_cons, List.getElem?_append_right (by simp [hs e (by simp), Nat.add_mul]; omega)]
    simp only [Array.length_toList, hs e (by simp)]
    rw [show (i + 1) * sz + j - sz = i * sz + j by rw [Nat.add_mul]; omega]
    exact ih
theorem row_cell {g : Nat} {carr : Array Value} {ty : TypeId} {fz : Nat × Nat} (h : w.heap[g]? = some (.cells carr ty fz)) (j : Nat) (u : Value) (hu : carr[j]? = some u) : w.cell? ((⟨g, 0, none⟩ : Addr).add j) = some u := by
  rw [add_plain, Nat.zero_add, cell_of_row w g j carr ty fz h]; exact hu
theorem arr_elem {B : Nat → Prop} {ty : TypeId} {sz : Nat} {es : List D} {v : Value} {b n c i : Nat} {e : D}
    (hok : 0 < sz ∧ ∃ xs, w.ownsRow 0 ty sz v es.length xs ∧ RowDen B w sz es xs) (hv : v = .slice (some ⟨b, 0, none⟩) n c) (he : es[i]? = some e) :
    ∃ ev : Value, ev.cells.size = sz ∧ D.dens B w e.cells ev.cells.toList ∧ Flat ev.cells.toList ∧ (∀ j u, ev.cells.toList[j]? = some u → w.cell? ((⟨b, i * sz, none⟩ : Addr).add j) = some u) := by
  obtain ⟨h0, xs, ⟨hl, hrow⟩, evs, rfl, h2, h3⟩ := hok
  obtain ⟨ev, hev, hd⟩ := D.dens_get _ _ _ _ h3 he
  have hcd := D.den_cells _ _ hd
  refine ⟨ev, h2 ev (List.mem_of_getElem? hev), hcd.1, hcd.2, fun j u hj => ?_⟩
  subst hv
  rcases hrow with ⟨h4, _⟩ | ⟨g, cap, cur, h4, _, h5, h6, h7, h8, h9⟩
  · simp at h4
  · simp at h4; obtain ⟨rfl, _, rfl⟩ := h4
    have := flatMap_get sz evs i j ev u h2 hev (by simpa using hj)
    rw [← h9, List.getElem?_take] at this
    split at this
    · have h10 := row_cell h5 (i * sz + j) u (by simpa using this)
      rw [add_plain] at h10 ⊢
      simpa using h10
    · cases this
theorem eff_load (hH : HeapOk M φ H w) {t : TypeId} {x : V} {xv : Value} (hx : V.den (mutB M φ H) φ H w x xv)
    (h : loadV P H.o t x fun v rd => K v [] rd) : Eff M φ H w fr ((do let y ← Instr.loadAt t xv; pure (Next.value y) : Sem Next).run P w) K := by
  have fin : ∀ (v : V) rd, K v [] rd → (∃ val, (Instr.loadAt t xv).run P w = .ok val w ∧ V.den (mutB M φ H) φ H w v val) → Eff M φ H w fr ((do let y ← Instr.loadAt t xv; pure (Next.value y) : Sem Next).run P w) K := by
    rintro v rd hK ⟨val, h1, h2⟩
    exact Eff.same hH val hK (by simp [h1]) h2
  unfold loadV at h
  split at h
  · rename_i id off
    split at h
    · rename_i cs ho
      obtain ⟨v, h1, hK⟩ := h
      obtain ⟨_, hu, hp⟩ := hx
      obtain ⟨b, hφ, rfl⟩ := hp (by rw [ho]; rfl)
      have hok := hH.ok id
      simp only [ObjOk, ho] at hok
      obtain ⟨b', carr, ty, g1, g2, g3, g4⟩ := hok
      rw [hφ] at g1; simp at g1; subst g1
      refine fin v _ hK ?_
      have := load_row (P := P) h1 ⟨b, 0, none⟩ carr.toList g3 g4 (fun j u hj => row_cell g2 j u (by simpa using hj)) rfl
      rwa [add_plain, Nat.zero_add] at this
    · exact h.elim
  · rename_i cs off
    obtain ⟨v, h1, hK⟩ := h
    obtain ⟨a, ev, ha, rfl, hd, hf, hc⟩ := hx
    exact fin v _ hK (load_row h1 a ev ((V.dens_map_d _ _).2 hd) hf (fun j u hj => (hc j u (by simpa using hj)).1) ha)
  · rename_i id ep i sz off
    split at h
    · rename_i ep' ty sz' es ho
      obtain ⟨rfl, rfl, e, he, v, h1, hK⟩ := h
      obtain ⟨_, hu, hp⟩ := hx
      obtain ⟨b, n, c, hφ, rfl⟩ := (hp ep (by rw [ho]; rfl)).2 rfl
      have hok := hH.ok id
      simp only [ObjOk, ho] at hok
      obtain ⟨ev, g1, g2, g3, g4⟩ := arr_elem hok hφ he
      refine fin v _ hK ?_
      have := load_row (P := P) h1 ⟨b, i * sz, none⟩ ev.cells.toList ((V.dens_map_d _ _).2 g2) g3 g4 rfl
      rwa [add_plain] at this
    · exact h.elim
  · exact h.elim
end
end Go.Proofs.YtealblliddhgiaaGreat
