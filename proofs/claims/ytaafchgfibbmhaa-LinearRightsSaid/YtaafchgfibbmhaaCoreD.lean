/-
  HEAPS THAT CHANGE: an array that is not written any more; a new object; an object that is turned; and what values mean behind it. Conditions: none.
-/
import Derived.Test.YtaafchgfibbmhaaCoreC
namespace Go.Proofs.Ytaafchgfibbmhaa

theorem put_nil (H : Hp) : H.put [] = H := by
  obtain ⟨o, us⟩ := H
  simp [Hp.put, put]
theorem put_append (H : Hp) (A C : List (Nat × Obj')) : H.put (A ++ C) = (H.put A).put C := by
  obtain ⟨o, us⟩ := H
  simp only [Hp.put, put, List.foldl_append, Hp.mk.injEq, true_and]
  funext id
  simp only [List.map_append, List.mem_append, eq_iff_iff]
  exact ⟨fun h => by rcases h with h | h | h <;> simp [h], fun h => by rcases h with (h | h) | h <;> simp [h]⟩
@[simp] theorem put_one_o (H : Hp) (i : Nat) (x : Obj') : (H.put [(i, x)]).o = upd H.o i x := rfl
@[simp] theorem put_one_us (H : Hp) (i j : Nat) (x : Obj') : (H.put [(i, x)]).us j ↔ (H.us j ∨ j = i) := by simp [Hp.put]

section
variable {M : Nat → Prop} {φ φ' : Place} {H H' : Hp} {w w' : World}

theorem ObjOk.mono' (hbl : ∀ b, Cellish w b → ¬ mutB M φ H b → w'.heap[b]? = w.heap[b]? ∧ ¬ mutB M φ' H' b) (hrl : StepRel φ H φ' H') {id : Nat} (ho : H'.o id = H.o id) (hφ : φ' id = φ id)
    (hb : (H.o id).live = true → ∀ b, blk (φ id) = some b → w'.heap[b]? = w.heap[b]?) (h : ObjOk M φ H w id) : ObjOk M φ' H' w' id := by
  unfold ObjOk at *
  rw [ho]
  cases hx : H.o id with
  | no => trivial
  | row cs =>
    simp only [hx] at h ⊢
    obtain ⟨b, carr, ty, h1, h2, h3, h4⟩ := h
    exact ⟨b, carr, ty, hφ.trans h1, (hb (by rw [hx]; rfl) b (by rw [h1]; rfl)).trans h2, V.dens_mono' hbl hrl cs _ h3, h4⟩
  | arr ep ty sz es =>
    simp only [hx] at h ⊢
    obtain ⟨h0, xs, h1, evs, h2, h3, h4⟩ := h
    refine ⟨h0, xs, ?_, evs, h2, h3, D.dens_mono hbl es evs h4⟩
    rw [hφ]
    obtain ⟨g1, g2⟩ := h1
    refine ⟨g1, ?_⟩
    rcases g2 with g2 | ⟨g, cap, cur, k1, k2, k3, k4⟩
    · exact .inl g2
    · exact .inr ⟨g, cap, cur, k1, k2, (hb (by rw [hx]; rfl) g (by rw [k1]; rfl)).trans k3, k4⟩
  | fro ep es =>
    simp only [hx] at h ⊢
    rw [hφ]
    exact D.den_mono hbl (.sl es) _ h
  | map kt vt l =>
    simp only [hx] at h ⊢
    obtain ⟨b, es, clock, h1, h2, h3⟩ := h
    exact ⟨b, es, clock, hφ.trans h1, (hb (by rw [hx]; rfl) b (by rw [h1]; rfl)).trans h2, EntsDen.mono hbl l _ h3⟩
  | loop nf n env ps ica icb st pend =>
    simp only [hx] at h ⊢
    obtain ⟨b, r, h1, h2, h0, h3, h4, h5, h6, h7, h8, h9⟩ := h
    exact ⟨b, r, hφ.trans h1, (hb (by rw [hx]; rfl) b (by rw [h1]; rfl)).trans h2, h0, h3, h4, h5, h6, h7, h8, fun i => V.den_mono' hbl hrl _ _ (h9 i)⟩

theorem ObjOk.mono (ht : Trans φ H w φ' H' w') {id : Nat} (ho : H'.o id = H.o id) (hφ : φ' id = φ id)
    (hb : (H.o id).live = true → ∀ b, blk (φ id) = some b → w'.heap[b]? = w.heap[b]?) (h : ObjOk M φ H w id) : ObjOk M φ' H' w' id := ObjOk.mono' ht.blocks ht.rel ho hφ hb h

theorem HeapOk.of (hH : HeapOk M φ H w) (ht : Trans φ H w φ' H' w') (T : Nat → Prop) (hT : ∀ id, T id → ObjOk M φ' H' w' id)
    (hn : ∀ id, ¬ T id → H'.o id = H.o id ∧ φ' id = φ id ∧ ((H.o id).live = true → ∀ b, blk (φ id) = some b → w'.heap[b]? = w.heap[b]?))
    (hfresh : ∀ id, ¬ H'.us id → H'.o id = .no)
    (hap : ∀ i j b, (H'.o i).live = true → (H'.o j).live = true → blk (φ' i) = some b → blk (φ' j) = some b → i = j)
    (hours : ∀ b, liveB φ' H' b → b < w'.heap.size) : HeapOk M φ' H' w' where
  ok id := by
    by_cases hc : T id
    · exact hT id hc
    · obtain ⟨h1, h2, h3⟩ := hn id hc
      exact (hH.ok id).mono ht h1 h2 h3
  fresh := hfresh
  apart := hap
  ours b hb := by
    refine ⟨fun hM => ?_, hours b hb⟩
    rcases ht.grow b hb with h1 | h1
    · exact (hH.ours b h1).1 hM
    · have := hH.old b hM; omega
  old b hM := Nat.lt_of_lt_of_le (hH.old b hM) ht.keep.size

/-- A new object. -/
theorem trans_new (hk : Keep (fun _ => False) w w') {fr : Nat} (hfr : ¬ H.us fr) (obj : Obj') (val : Value) (hval : ∀ b, blk val = some b → w.heap.size ≤ b) :
    Trans φ H w (upd φ fr val) (H.put [(fr, obj)]) w' where
  keep := ⟨hk.os, hk.tape, hk.output, hk.size, fun k h _ => hk.block k h (fun h => h)⟩
  grow b := by
    rintro ⟨id, h1, h2⟩
    by_cases hid : id = fr
    · subst hid; simp at h2; exact .inr (hval b h2)
    · simp [hid] at h1 h2; exact .inl ⟨id, h1, h2⟩
  rel := {
    us := fun id h => by simp [h]
    row := fun id hu hr => by
      have hid : id ≠ fr := fun h => hfr (h ▸ hu)
      simp [hid] at hr ⊢; exact hr
    ep := fun id e' hu he => by
      have hid : id ≠ fr := fun h => hfr (h ▸ hu)
      simp [hid] at he ⊢; exact ⟨e', he, Nat.le_refl _⟩ }

theorem heap_new (hH : HeapOk M φ H w) (hk : Keep (fun _ => False) w w') {fr : Nat} (hfr : ¬ H.us fr) (obj : Obj') (val : Value) (hval : ∀ b, blk val = some b → w.heap.size ≤ b ∧ b < w'.heap.size)
    (hobj : ObjOk M (upd φ fr val) (H.put [(fr, obj)]) w' fr) : HeapOk M (upd φ fr val) (H.put [(fr, obj)]) w' := by
  have ht : Trans φ H w (upd φ fr val) (H.put [(fr, obj)]) w' := trans_new hk hfr obj val fun b hb => (hval b hb).1
  refine hH.of ht (· = fr) (fun id h => h ▸ hobj) (fun id h => ?_) (fun id h => ?_) (fun i j b hi hj bi bj => ?_) (fun b => ?_)
  · refine ⟨by simp [h], by simp [h], fun hl b hb => hk.block b ?_ (fun h => h)⟩
    exact (hH.ours b ⟨id, hl, hb⟩).2
  · rw [put_one_us] at h
    have h1 : id ≠ fr := fun e => h (.inr e)
    simp only [put_one_o, upd_apply, h1, if_false]
    exact hH.fresh id fun hu => h (.inl hu)
  · by_cases e1 : i = fr <;> by_cases e2 : j = fr
    · exact e1.trans e2.symm
    · simp [e1, e2] at hi hj bi bj
      have := (hH.ours b ⟨j, hj, bj⟩).2; have := (hval b bi).1; omega
    · simp [e1, e2] at hi hj bi bj
      have := (hH.ours b ⟨i, hi, bi⟩).2; have := (hval b bj).1; omega
    · simp [e1, e2] at hi hj bi bj
      exact hH.apart i j b hi hj bi bj
  · rintro ⟨id, h1, h2⟩
    by_cases hid : id = fr
    · subst hid; simp at h2; exact (hval b h2).2
    · simp [hid] at h1 h2
      exact Nat.lt_of_lt_of_le (hH.ours b ⟨id, h1, h2⟩).2 hk.size

theorem keep_alloc (w : World) (o : Obj) : Keep (fun _ => False) w (w.alloc o) :=
  ⟨rfl, rfl, rfl, by simp, fun k hk _ => RowKit.Below.heap_alloc w o k hk⟩
theorem keep_grown {w w' : World} (h : w.grownBy w' none) : Keep (fun _ => False) w w' :=
  ⟨h.os, h.tape, h.output, h.size, fun k hk _ => h.block k hk (by simp)⟩

/-- A new variable. -/
theorem new_row (hH : HeapOk M φ H w) {fr : Nat} (hfr : ¬ H.us fr) (cs : List V) (carr : Array Value) (ty : TypeId) (hd : V.dens (mutB M φ H) φ H w cs carr.toList) (hf : Flat carr.toList) :
    let φ' := upd φ fr (.pointer (some ⟨w.heap.size, 0, none⟩)); let H' := H.put [(fr, .row cs)]; let w' := w.alloc (.cells carr ty)
    HeapOk M φ' H' w' ∧ Trans φ H w φ' H' w' ∧ V.den (mutB M φ' H') φ' H' w' (.ptr fr 0) (.pointer (some ⟨w.heap.size, 0, none⟩)) := by
  intro φ' H' w'
  have hv : ∀ b, blk (.pointer (some ⟨w.heap.size, 0, none⟩)) = some b → w.heap.size ≤ b ∧ b < w'.heap.size := by
    intro b hb; simp [blk] at hb; subst hb; simp [w']
  have ht : Trans φ H w φ' H' w' := trans_new (keep_alloc w _) hfr _ _ fun b hb => (hv b hb).1
  refine ⟨heap_new hH (keep_alloc w _) hfr _ _ hv ?_, ht, rfl, by simp [H'], fun _ => ⟨w.heap.size, by simp [φ'], rfl⟩⟩
  unfold ObjOk
  simp only [put_one_o, upd_apply, if_true]
  exact ⟨w.heap.size, carr, ty, rfl, heap_alloc_new w _, V.dens_mono ht cs _ hd, hf⟩

/-- An object that is turned, in its own block. -/
theorem trans_turn {id : Nat} (hus : H.us id) {b : Nat} (hlive : (H.o id).live = true) (hb : blk (φ id) = some b) (hk : Keep (· = b) w w') (obj : Obj') (hrow : obj.isRow = (H.o id).isRow) (hep : obj.epoch = (H.o id).epoch) :
    Trans φ H w φ (H.put [(id, obj)]) w' where
  keep := ⟨hk.os, hk.tape, hk.output, hk.size, fun k h hl => hk.block k h (fun e => hl ⟨id, hlive, e ▸ hb⟩)⟩
  grow b' := by
    rintro ⟨j, h1, h2⟩
    by_cases hj : j = id
    · subst hj; exact .inl ⟨j, hlive, h2⟩
    · simp [hj] at h1; exact .inl ⟨j, h1, h2⟩
  rel := {
    us := fun j h => by simp [h]
    row := fun j hu hr => by
      by_cases hj : j = id
      · subst hj; simp at hr; exact ⟨hrow ▸ hr, rfl⟩
      · simp [hj] at hr; exact ⟨hr, rfl⟩
    ep := fun j e' hu he => by
      by_cases hj : j = id
      · subst hj; simp at he; exact ⟨e', hep ▸ he, Nat.le_refl _, fun _ => rfl⟩
      · simp [hj] at he; exact ⟨e', he, Nat.le_refl _, fun _ => rfl⟩ }

theorem heap_turn (hH : HeapOk M φ H w) {id : Nat} (hus : H.us id) {b : Nat} (hlive : (H.o id).live = true) (hb : blk (φ id) = some b) (hk : Keep (· = b) w w') (obj : Obj') (hrow : obj.isRow = (H.o id).isRow)
    (hep : obj.epoch = (H.o id).epoch) (hobj : ObjOk M φ (H.put [(id, obj)]) w' id) : HeapOk M φ (H.put [(id, obj)]) w' := by
  refine hH.of (trans_turn hus hlive hb hk obj hrow hep) (· = id) (fun j h => h ▸ hobj) (fun j h => ?_) (fun j h => ?_) (fun i j b' hi hj bi bj => ?_) (fun b' => ?_)
  · refine ⟨by simp [h], rfl, fun hl b' hb' => hk.block b' (hH.ours b' ⟨j, hl, hb'⟩).2 fun e => h ?_⟩
    exact hH.apart j id b hl hlive (e ▸ hb') hb
  · rw [put_one_us] at h
    have h1 : j ≠ id := fun e => h (.inr e)
    simp only [put_one_o, upd_apply, h1, if_false]
    exact hH.fresh j fun hu => h (.inl hu)
  · refine hH.apart i j b' ?_ ?_ bi bj
    · by_cases e : i = id
      · subst e; exact hlive
      · simpa [e] using hi
    · by_cases e : j = id
      · subst e; exact hlive
      · simpa [e] using hj
  · rintro ⟨j, h1, h2⟩
    refine Nat.lt_of_lt_of_le (hH.ours b' ⟨j, ?_, h2⟩).2 hk.size
    by_cases e : j = id
    · subst e; exact hlive
    · simpa [e] using h1

theorem keep_setRow (w : World) (b : Nat) (cs : Array Value) : Keep (· = b) w (w.setRow b cs) :=
  ⟨rfl, rfl, rfl, by simp, fun k _ hk => by
    unfold World.setRow
    simp only [Array.getElem?_modify]
    rw [if_neg (fun e => hk e.symm)]⟩

/-- A variable is written. -/
theorem turn_row (hH : HeapOk M φ H w) {id b : Nat} (hus : H.us id) {cs cs' : List V} (ho : H.o id = .row cs) (hφ : φ id = .pointer (some ⟨b, 0, none⟩)) {carr : Array Value} {ty : TypeId}
    (hb : w.heap[b]? = some (.cells carr ty (0, 0))) (carr' : Array Value) (hd : V.dens (mutB M φ H) φ H w cs' carr'.toList) (hf : Flat carr'.toList) :
    HeapOk M φ (H.put [(id, .row cs')]) (w.setRow b carr') ∧ Trans φ H w φ (H.put [(id, .row cs')]) (w.setRow b carr') := by
  have hl : (H.o id).live = true := by rw [ho]; rfl
  have hbl : blk (φ id) = some b := by rw [hφ]; rfl
  have ht : Trans φ H w φ (H.put [(id, .row cs')]) (w.setRow b carr') := trans_turn hus hl hbl (keep_setRow w b carr') _ (by rw [ho]; rfl) (by rw [ho]; rfl)
  refine ⟨heap_turn hH hus hl hbl (keep_setRow w b carr') _ (by rw [ho]; rfl) (by rw [ho]; rfl) ?_, ht⟩
  unfold ObjOk
  simp only [put_one_o, upd_apply, if_true]
  exact ⟨b, carr', ty, hφ, setRow_heap w b carr carr' ty (0, 0) hb, V.dens_mono ht cs' _ hd, hf⟩

/-- What an array's cells mean, as data. -/
theorem elems_of_row {B : Nat → Prop} {sz g : Nat} (cur : Array Value) (ty : TypeId) (fz : Nat × Nat) (hg : w.heap[g]? = some (.cells cur ty fz)) (hB : ¬ B g) :
    ∀ (es : List D) (evs : List Value) (i : Nat), D.dens B w es evs → (∀ ev ∈ evs, ev.cells.size = sz) → (∀ j u, (evs.flatMap (·.cells.toList))[j]? = some u → cur[i * sz + j]? = some u) → D.elems B w sz ⟨g, 0, none⟩ i es
  | [], _, _, _, _, _ => trivial
  | e :: es, _, i, h, hs, hc => by
    obtain ⟨ev, evs, rfl, h1, h2⟩ := h
    have hsz : ev.cells.size = sz := hs ev (by simp)
    refine ⟨⟨ev, hsz, fun j u hj => ?_, h1⟩, elems_of_row cur ty fz hg hB es evs (i + 1) h2 (fun x hx => hs x (by simp [hx])) fun j u hj => ?_⟩
    · have hlt : j < ev.cells.size := (Array.getElem?_eq_some_iff.1 hj).1
      have : cur[i * sz + j]? = some u := hc j u (by
        rw [List.flatMap_cons, List.getElem?_append_left (by simpa using hlt)]; simpa using hj)
      refine ⟨?_, by simpa using hB⟩
      unfold Addr.add World.cell?
      by_cases e1 : i * sz = 0 <;> by_cases e2 : j = 0 <;> simp_all
    · have := hc (sz + j) u (by
        rw [List.flatMap_cons, List.getElem?_append_right (by simp [hsz])]
        simpa [hsz] using hj)
      rw [show (i + 1) * sz + j = i * sz + (sz + j) by rw [Nat.add_mul]; omega]
      exact this

/-- An array is not written any more. -/
theorem freeze1 (hH : HeapOk M φ H w) {id ep sz : Nat} {ty : TypeId} {es : List D} (hus : H.us id) (ho : H.o id = .arr ep ty sz es) :
    HeapOk M φ (H.put [(id, .fro ep es)]) w ∧ Trans φ H w φ (H.put [(id, .fro ep es)]) w := by
  have hno : ∀ b, liveB φ (H.put [(id, .fro ep es)]) b → liveB φ H b := by
    rintro b ⟨j, h1, h2⟩
    by_cases hj : j = id
    · subst hj; simp [Obj'.live] at h1
    · simp [hj] at h1; exact ⟨j, h1, h2⟩
  have ht : Trans φ H w φ (H.put [(id, .fro ep es)]) w := {
    keep := Keep.refl _ _
    grow := fun b hb => .inl (hno b hb)
    rel := {
      us := fun j h => by simp [h]
      row := fun j hu hr => by
        by_cases hj : j = id
        · subst hj; simp [Obj'.isRow] at hr
        · simp [hj] at hr; exact ⟨hr, rfl⟩
      ep := fun j e' hu he => by
        by_cases hj : j = id
        · subst hj; simp [Obj'.epoch] at he; subst he; exact ⟨ep, by rw [ho]; rfl, Nat.le_refl _, fun _ => rfl⟩
        · simp [hj] at he; exact ⟨e', he, Nat.le_refl _, fun _ => rfl⟩ } }
  refine ⟨hH.of ht (· = id) (fun j h => ?_) (fun j h => ⟨by simp [h], rfl, fun _ _ _ => rfl⟩) (fun j h => ?_) (fun i j b hi hj bi bj => ?_) (fun b hb => (hH.ours b (hno b hb)).2), ht⟩
  · subst h
    have hok := hH.ok j
    unfold ObjOk at hok ⊢
    simp only [ho, put_one_o, upd_apply, if_true] at hok ⊢
    obtain ⟨h0, xs, ⟨hl, hrow⟩, evs, rfl, h2, h3⟩ := hok
    have hlen := D.dens_length _ _ h3
    rcases hrow with ⟨h4, h5⟩ | ⟨g, cap, cur, h4, _, h5, h6, h7, h8, h9⟩
    · rw [h4]
      have : es = [] := by simpa using h5
      subst this
      exact ⟨none, 0, 0, rfl, rfl, Nat.le_refl _, fun _ => rfl, 0, fun a ha => by cases ha⟩
    · rw [h4]
      refine ⟨some ⟨g, 0, none⟩, es.length, cap, rfl, rfl, h6, (fun h => by cases h), sz, fun a ha => ?_⟩
      injection ha with ha; subst ha
      refine ⟨fun _ => rfl, elems_of_row cur ty (0, 0) h5 ?_ es evs 0 (D.dens_mono (ht.blocks (M := M)) es evs h3) h2 fun j' u hj' => ?_⟩
      · rintro (hM | ⟨i, hi1, hi2⟩)
        · exact (hH.ours g ⟨j, by rw [ho]; rfl, by rw [h4]; rfl⟩).1 hM
        · by_cases e : i = j
          · subst e; simp [Obj'.live] at hi1
          · simp [e] at hi1
            exact e (hH.apart i j g hi1 (by rw [ho]; rfl) hi2 (by rw [h4]; rfl))
      · rw [← h9] at hj'
        simp only [Nat.zero_mul, Nat.zero_add]
        rw [List.getElem?_take] at hj'
        split at hj'
        · simpa using hj'
        · cases hj'
  · rw [put_one_us] at h
    have h1 : j ≠ id := fun e => h (.inr e)
    simp only [put_one_o, upd_apply, h1, if_false]
    exact hH.fresh j fun hu => h (.inl hu)
  · by_cases e1 : i = id
    · subst e1; simp [Obj'.live] at hi
    · by_cases e2 : j = id
      · subst e2; simp [Obj'.live] at hj
      · simp [e1, e2] at hi hj; exact hH.apart i j b hi hj bi bj
end
end Go.Proofs.Ytaafchgfibbmhaa
