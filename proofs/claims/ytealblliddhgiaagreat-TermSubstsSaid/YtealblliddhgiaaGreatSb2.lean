/-
  A PART OF THE PROOF. Conditions: none.
-/
import Derived.Great.BuildSlice
import Derived.Great.FillDense
import Derived.Test.YtealblliddhgiaaGreatSb1
set_option linter.unusedSimpArgs false
set_option linter.unusedVariables false
namespace Go.Proofs.YtealblliddhgiaaGreat
theorem put_nil (H : Hp) : H.put [] = H := by
 obtain ⟨o, us⟩ := H
 simp [Hp.put, put]
theorem put_append (H : Hp) (A C : List (Nat × Obj')) : H.put (A ++ C) = (H.put A).put C := by
 obtain ⟨o, us⟩ := H
 simp only [Hp.put, put, List.foldl_append, Hp.mk.injEq, true_and]
 funext id
 simp only [List.map_append, List.mem_append, eq_iff_iff]
 exact ⟨fun h => by rcases h with h | h | h <;> simp [h], fun h => by rcases h with (h | h) | h <;> simp [h]⟩
@[simp] theorem put_one_o (H : Hp) (i : Nat) (x : Obj') : (H.put [(i, x)]).o = upd H.o i x := rfl
@[simp] theorem put_one_us (H : Hp) (i j : Nat) (x : Obj') : (H.put [(i, x)]).us j ↔ (H.us j \/ j = i) := by simp [Hp.put]
section
variable {M : Nat -> Prop} {φ φ' : Place} {H H' : Hp} {w w' : World}
theorem ObjOk.mono' (hbl : ∀ b, Cellish w b -> ¬ mutB M φ H b -> w'.heap[b]? = w.heap[b]? /\ ¬ mutB M φ' H' b) (hrl : StepRel φ H φ' H') {id : Nat} (ho : H'.o id = H.o id) (hφ : φ' id = φ id)
 (hb : (H.o id).live = true -> ∀ b, blk (φ id) = some b -> w'.heap[b]? = w.heap[b]?) (h : ObjOk M φ H w id) : ObjOk M φ' H' w' id := by
 unfold ObjOk at *
 rw [ho]
 cases hx : H.o id with
 | no => trivial
 | row cs =>
   simp only [hx] at h ⊢
   obtain ⟨b, carr, ty, h1, h2, h3, h4⟩ := h
   exact ⟨b, carr, ty, hφ.trans h1, (hb (by rw [hx]; rfl) b (by rw [h1]; rfl)).trans h2, V.dens_mono' hbl hrl cs _ h3, h4⟩
 | arr ep ty sz es =>
   simp only [hx] at h ⊢
   obtain ⟨h0, xs, h1, evs, h2, h3, h4⟩ := h
   refine ⟨h0, xs, ?_, evs, h2, h3, D.dens_mono hbl es evs h4⟩
   rw [hφ]
   obtain ⟨g1, g2⟩ := h1
   refine ⟨g1, ?_⟩
   rcases g2 with g2 | ⟨g, cap, cur, k1, k2, k3, k4⟩
   ·exact .inl g2
   ·exact .inr ⟨g, cap, cur, k1, k2, (hb (by rw [hx]; rfl) g (by rw [k1]; rfl)).trans k3, k4⟩
 | fro ep es =>
   simp only [hx] at h ⊢
   rw [hφ]
   exact D.den_mono hbl (.sl es) _ h
 | map kt vt l =>
   simp only [hx] at h ⊢
   obtain ⟨b, es, clock, h1, h2, h4, h3⟩ := h
   exact ⟨b, es, clock, hφ.trans h1, (hb (by rw [hx]; rfl) b (by rw [h1]; rfl)).trans h2, h4, EntsDen.mono hbl l _ h3⟩
 | mfro l =>
   simp only [hx] at h ⊢
   rw [hφ]
   exact D.den_mono hbl (.mp _ _) _ h
 | mit l last =>
   simp only [hx] at h ⊢
   obtain ⟨b, h1, h2⟩ := h
   exact ⟨b, hφ.trans h1, h2.mono hbl (hb (by rw [hx]; rfl) b (by rw [h1]; rfl))⟩
 | sit s pos =>
   simp only [hx] at h ⊢
   obtain ⟨b, h1, h2⟩ := h
   exact ⟨b, hφ.trans h1, (hb (by rw [hx]; rfl) b (by rw [h1]; rfl)).trans h2⟩
 | loop nf n env ps ica icb st pend =>
   simp only [hx] at h ⊢
   obtain ⟨b, r, h1, h2, h0, h3, h4, h5, h6, h7, h8, h9⟩ := h
   exact ⟨b, r, hφ.trans h1, (hb (by rw [hx]; rfl) b (by rw [h1]; rfl)).trans h2, h0, h3, h4, h5, h6, h7, h8, fun i => V.den_mono' hbl hrl _ _ (h9 i)⟩
theorem ObjOk.mono (ht : Trans φ H w φ' H' w') {id : Nat} (ho : H'.o id = H.o id) (hφ : φ' id = φ id)
 (hb : (H.o id).live = true -> ∀ b, blk (φ id) = some b -> w'.heap[b]? = w.heap[b]?) (h : ObjOk M φ H w id) : ObjOk M φ' H' w' id := ObjOk.mono' ht.blocks ht.rel ho hφ hb h
theorem HeapOk.of (hH : HeapOk M φ H w) (ht : Trans φ H w φ' H' w') (T : Nat -> Prop) (hT : ∀ id, T id -> ObjOk M φ' H' w' id)
 (hn : ∀ id, ¬ T id -> H'.o id = H.o id /\ φ' id = φ id /\ ((H.o id).live = true -> ∀ b, blk (φ id) = some b -> w'.heap[b]? = w.heap[b]?))
 (hfresh : ∀ id, ¬ H'.us id -> H'.o id = .no)
 (hap : ∀ i j b, (H'.o i).live = true -> (H'.o j).live = true -> blk (φ' i) = some b -> blk (φ' j) = some b -> i = j)
 (hours : ∀ b, liveB φ' H' b -> b < w'.heap.size) : HeapOk M φ' H' w' where
 ok id := by
  by_cases hc : T id
  ·exact hT id hc
  ·obtain ⟨h1, h2, h3⟩ := hn id hc
   exact (hH.ok id).mono ht h1 h2 h3
 fresh := hfresh
 apart := hap
 ours b hb := by
  refine ⟨fun hM => ?_, hours b hb⟩
  rcases ht.grow b hb with h1 | h1
  ·exact (hH.ours b h1).1 hM
  ·have := hH.old b hM; omega
 old b hM := Nat.lt_of_lt_of_le (hH.old b hM) ht.keep.size
theorem trans_new (hk : Keep (fun _ => False) w w') {fr : Nat} (hfr : ¬ H.us fr) (obj : Obj') (val : Value) (hval : ∀ b, blk val = some b -> w.heap.size <= b) :
 Trans φ H w (upd φ fr val) (H.put [(fr, obj)]) w' where
 keep := ⟨hk.os, hk.tape, hk.output, hk.size, fun k h _ => hk.block k h (fun h => h)⟩
 grow b := by
  rintro ⟨id, h1, h2⟩
  by_cases hid : id = fr
  ·subst hid; simp at h2; exact .inr (hval b h2)
  ·simp [hid] at h1 h2; exact .inl ⟨id, h1, h2⟩
 rel := {
  us := fun id h => by simp [h]
  row := fun id hu hr => by
   have hid : id ≠ fr := fun h => hfr (h ▸ hu)
   simp [hid] at hr ⊢; exact hr
  ep := fun id e' hu he => by
   have hid : id ≠ fr := fun h => hfr (h ▸ hu)
   simp [hid] at he ⊢; exact ⟨e', he, Nat.le_refl _⟩ }
theorem heap_new (hH : HeapOk M φ H w) (hk : Keep (fun _ => False) w w') {fr : Nat} (hfr : ¬ H.us fr) (obj : Obj') (val : Value) (hval : ∀ b, blk val = some b -> w.heap.size <= b /\ b < w'.heap.size)
 (hobj : ObjOk M (upd φ fr val) (H.put [(fr, obj)]) w' fr) : HeapOk M (upd φ fr val) (H.put [(fr, obj)]) w' := by
 have ht : Trans φ H w (upd φ fr val) (H.put [(fr, obj)]) w' := trans_new hk hfr obj val fun b hb => (hval b hb).1
 refine hH.of ht (· = fr) (fun id h => h ▸ hobj) (fun id h => ?_) (fun id h => ?_) (fun i j b hi hj bi bj => ?_) (fun b => ?_)
 ·refine ⟨by simp [h], by simp [h], fun hl b hb => hk.block b ?_ (fun h => h)⟩
  exact (hH.ours b ⟨id, hl, hb⟩).2
 ·rw [put_one_us] at h
  have h1 : id ≠ fr := fun e => h (.inr e)
  simp only [put_one_o, upd_apply, h1, if_false]
  exact hH.fresh id fun hu => h (.inl hu)
 ·by_cases e1 : i = fr <;> by_cases e2 : j = fr
  ·exact e1.trans e2.symm
  ·simp [e1, e2] at hi hj bi bj
   have := (hH.ours b ⟨j, hj, bj⟩).2; have := (hval b bi).1; omega
  ·simp [e1, e2] at hi hj bi bj
   have := (hH.ours b ⟨i, hi, bi⟩).2; have := (hval b bj).1; omega
  ·simp [e1, e2] at hi hj bi bj
   exact hH.apart i j b hi hj bi bj
 ·rintro ⟨id, h1, h2⟩
  by_cases hid : id = fr
  ·subst hid; simp at h2; exact (hval b h2).2
  ·simp [hid] at h1 h2
   exact Nat.lt_of_lt_of_le (hH.ours b ⟨id, h1, h2⟩).2 hk.size
theorem keep_alloc (w : World) (o : Obj) : Keep (fun _ => False) w (w.alloc o) :=
 ⟨rfl, rfl, rfl, by simp, fun k hk _ => RowKit.Below.heap_alloc w o k hk⟩
theorem keep_grown {w w' : World} (h : w.grownBy w' none) : Keep (fun _ => False) w w' :=
 ⟨h.os, h.tape, h.output, h.size, fun k hk _ => h.block k hk (by simp)⟩
theorem new_row (hH : HeapOk M φ H w) {fr : Nat} (hfr : ¬ H.us fr) (cs : List V) (carr : Array Value) (ty : TypeId) (hd : V.dens (mutB M φ H) φ H w cs carr.toList) (hf : Flat carr.toList) :
 let φ' := upd φ fr (.pointer (some ⟨w.heap.size, 0, none⟩)); let H' := H.put [(fr, .row cs)]; let w' := w.alloc (.cells carr ty)
 HeapOk M φ' H' w' /\ Trans φ H w φ' H' w' /\ V.den (mutB M φ' H') φ' H' w' (.ptr fr 0) (.pointer (some ⟨w.heap.size, 0, none⟩)) := by
 intro φ' H' w'
 have hv : ∀ b, blk (.pointer (some ⟨w.heap.size, 0, none⟩)) = some b -> w.heap.size <= b /\ b < w'.heap.size := by
  intro b hb; simp [blk] at hb; subst hb; simp [w']
 have ht : Trans φ H w φ' H' w' := trans_new (keep_alloc w _) hfr _ _ fun b hb => (hv b hb).1
 refine ⟨heap_new hH (keep_alloc w _) hfr _ _ hv ?_, ht, rfl, by simp [H'], fun _ => ⟨w.heap.size, by simp [φ'], rfl⟩⟩
 unfold ObjOk
 simp only [put_one_o, upd_apply, if_true]
 exact ⟨w.heap.size, carr, ty, rfl, heap_alloc_new w _, V.dens_mono ht cs _ hd, hf⟩
theorem trans_turn {id : Nat} (hus : H.us id) {b : Nat} (hlive : (H.o id).live = true) (hb : blk (φ id) = some b) (hk : Keep (· = b) w w') (obj : Obj') (hrow : obj.isRow = (H.o id).isRow) (hep : obj.epoch = (H.o id).epoch) :
 Trans φ H w φ (H.put [(id, obj)]) w' where
 keep := ⟨hk.os, hk.tape, hk.output, hk.size, fun k h hl => hk.block k h (fun e => hl ⟨id, hlive, e ▸ hb⟩)⟩
 grow b' := by
  rintro ⟨j, h1, h2⟩
  by_cases hj : j = id
  ·subst hj; exact .inl ⟨j, hlive, h2⟩
  ·simp [hj] at h1; exact .inl ⟨j, h1, h2⟩
 rel := {
  us := fun j h => by simp [h]
  row := fun j hu hr => by
   by_cases hj : j = id
   ·subst hj; simp at hr; exact ⟨hrow ▸ hr, rfl⟩
   ·simp [hj] at hr; exact ⟨hr, rfl⟩
  ep := fun j e' hu he => by
   by_cases hj : j = id
   ·subst hj; simp at he; exact ⟨e', hep ▸ he, Nat.le_refl _, fun _ => rfl⟩
   ·simp [hj] at he; exact ⟨e', he, Nat.le_refl _, fun _ => rfl⟩ }
theorem heap_turn (hH : HeapOk M φ H w) {id : Nat} (hus : H.us id) {b : Nat} (hlive : (H.o id).live = true) (hb : blk (φ id) = some b) (hk : Keep (· = b) w w') (obj : Obj') (hrow : obj.isRow = (H.o id).isRow)
 (hep : obj.epoch = (H.o id).epoch) (hobj : ObjOk M φ (H.put [(id, obj)]) w' id) : HeapOk M φ (H.put [(id, obj)]) w' := by
 refine hH.of (trans_turn hus hlive hb hk obj hrow hep) (· = id) (fun j h => h ▸ hobj) (fun j h => ?_) (fun j h => ?_) (fun i j b' hi hj bi bj => ?_) (fun b' => ?_)
 ·refine ⟨by simp [h], rfl, fun hl b' hb' => hk.block b' (hH.ours b' ⟨j, hl, hb'⟩).2 fun e => h ?_⟩
  exact hH.apart j id b hl hlive (e ▸ hb') hb
 ·rw [put_one_us] at h
  have h1 : j ≠ id := fun e => h (.inr e)
  simp only [put_one_o, upd_apply, h1, if_false]
  exact hH.fresh j fun hu => h (.inl hu)
 ·refine hH.apart i j b' ?_ ?_ bi bj
  ·by_cases e : i = id
   ·subst e; exact hlive
   ·simpa [e] using hi
  ·by_cases e : j = id
   ·subst e; exact hlive
   ·simpa [e] using hj
 ·rintro ⟨j, h1, h2⟩
  refine Nat.lt_of_lt_of_le (hH.ours b' ⟨j, ?_, h2⟩).2 hk.size
  by_cases e : j = id
  ·subst e; exact hlive
  ·simpa [e] using h1
theorem keep_setRow (w : World) (b : Nat) (cs : Array Value) : Keep (· = b) w (w.setRow b cs) :=
 ⟨rfl, rfl, rfl, by simp, fun k _ hk => by
  unfold World.setRow
  simp only [Array.getElem?_modify]
  rw [if_neg (fun e => hk e.symm)]⟩
theorem turn_row (hH : HeapOk M φ H w) {id b : Nat} (hus : H.us id) {cs cs' : List V} (ho : H.o id = .row cs) (hφ : φ id = .pointer (some ⟨b, 0, none⟩)) {carr : Array Value} {ty : TypeId}
 (hb : w.heap[b]? = some (.cells carr ty (0, 0))) (carr' : Array Value) (hd : V.dens (mutB M φ H) φ H w cs' carr'.toList) (hf : Flat carr'.toList) :
 HeapOk M φ (H.put [(id, .row cs')]) (w.setRow b carr') /\ Trans φ H w φ (H.put [(id, .row cs')]) (w.setRow b carr') := by
 have hl : (H.o id).live = true := by rw [ho]; rfl
 have hbl : blk (φ id) = some b := by rw [hφ]; rfl
 have ht : Trans φ H w φ (H.put [(id, .row cs')]) (w.setRow b carr') := trans_turn hus hl hbl (keep_setRow w b carr') _ (by rw [ho]; rfl) (by rw [ho]; rfl)
 refine ⟨heap_turn hH hus hl hbl (keep_setRow w b carr') _ (by rw [ho]; rfl) (by rw [ho]; rfl) ?_, ht⟩
 unfold ObjOk
 simp only [put_one_o, upd_apply, if_true]
 exact ⟨b, carr', ty, hφ, setRow_heap w b carr carr' ty (0, 0) hb, V.dens_mono ht cs' _ hd, hf⟩
theorem elems_of_row {B : Nat -> Prop} {sz g : Nat} (cur : Array Value) (ty : TypeId) (fz : Nat × Nat) (hg : w.heap[g]? = some (.cells cur ty fz)) (hB : ¬ B g) :
 ∀ (es : List D) (evs : List Value) (i : Nat), D.dens B w es evs -> (∀ ev ∈ evs, ev.cells.size = sz) -> (∀ j u, (evs.flatMap (·.cells.toList))[j]? = some u -> cur[i * sz + j]? = some u) -> D.elems B w sz ⟨g, 0, none⟩ i es
 | [], _, _, _, _, _ => trivial
 | e :: es, _, i, h, hs, hc => by
   obtain ⟨ev, evs, rfl, h1, h2⟩ := h
   have hsz : ev.cells.size = sz := hs ev (by simp)
   refine ⟨⟨ev, hsz, fun j u hj => ?_, h1⟩, elems_of_row cur ty fz hg hB es evs (i + 1) h2 (fun x hx => hs x (by simp [hx])) fun j u hj => ?_⟩
   ·have hlt : j < ev.cells.size := (Array.getElem?_eq_some_iff.1 hj).1
    have : cur[i * sz + j]? = some u := hc j u (by
     rw [List.flatMap_cons, List.getElem?_append_left (by simpa using hlt)]; simpa using hj)
    refine ⟨?_, by simpa using hB⟩
    unfold Addr.add World.cell?
    by_cases e1 : i * sz = 0 <;> by_cases e2 : j = 0 <;> simp_all
   ·have := hc (sz + j) u (by
     rw [List.flatMap_cons, List.getElem?_append_right (by simp [hsz])]
     simpa [hsz] using hj)
    rw [show (i + 1) * sz + j = i * sz + (sz + j) by rw [Nat.add_mul]; omega]
    exact this
theorem freeze1 (hH : HeapOk M φ H w) {id ep sz : Nat} {ty : TypeId} {es : List D} (hus : H.us id) (ho : H.o id = .arr ep ty sz es) :
 HeapOk M φ (H.put [(id, .fro ep es)]) w /\ Trans φ H w φ (H.put [(id, .fro ep es)]) w := by
 have hno : ∀ b, liveB φ (H.put [(id, .fro ep es)]) b -> liveB φ H b := by
  rintro b ⟨j, h1, h2⟩
  by_cases hj : j = id
  ·subst hj; simp [Obj'.live] at h1
  ·simp [hj] at h1; exact ⟨j, h1, h2⟩
 have ht : Trans φ H w φ (H.put [(id, .fro ep es)]) w := {
  keep := Keep.refl _ _
  grow := fun b hb => .inl (hno b hb)
  rel := {
   us := fun j h => by simp [h]
   row := fun j hu hr => by
    by_cases hj : j = id
    ·subst hj; simp [Obj'.isRow] at hr
    ·simp [hj] at hr; exact ⟨hr, rfl⟩
   ep := fun j e' hu he => by
    by_cases hj : j = id
    ·subst hj; simp [Obj'.epoch] at he; subst he; exact ⟨ep, by rw [ho]; rfl, Nat.le_refl _, fun _ => rfl⟩
    ·simp [hj] at he; exact ⟨e', he, Nat.le_refl _, fun _ => rfl⟩ } }
 refine ⟨hH.of ht (· = id) (fun j h => ?_) (fun j h => ⟨by simp [h], rfl, fun _ _ _ => rfl⟩) (fun j h => ?_) (fun i j b hi hj bi bj => ?_) (fun b hb => (hH.ours b (hno b hb)).2), ht⟩
 ·subst h
  have hok := hH.ok j
  unfold ObjOk at hok ⊢
  simp only [ho, put_one_o, upd_apply, if_true] at hok ⊢
  obtain ⟨h0, xs, ⟨hl, hrow⟩, evs, rfl, h2, h3⟩ := hok
  have hlen := D.dens_length _ _ h3
  rcases hrow with ⟨h4, h5⟩ | ⟨g, cap, cur, h4, _, h5, h6, h7, h8, h9⟩
  ·rw [h4]
   have : es = [] := by simpa using h5
   subst this
   exact ⟨none, 0, 0, rfl, rfl, Nat.le_refl _, fun _ => rfl, 0, fun a ha => by cases ha⟩
  ·rw [h4]
   refine ⟨some ⟨g, 0, none⟩, es.length, cap, rfl, rfl, h6, (fun h => by cases h), sz, fun a ha => ?_⟩
   injection ha with ha; subst ha
   refine ⟨fun _ => rfl, elems_of_row cur ty (0, 0) h5 ?_ es evs 0 (D.dens_mono (ht.blocks (M := M)) es evs h3) h2 fun j' u hj' => ?_⟩
   ·rintro (hM | ⟨i, hi1, hi2⟩)
    ·exact (hH.ours g ⟨j, by rw [ho]; rfl, by rw [h4]; rfl⟩).1 hM
    ·by_cases e : i = j
     ·subst e; simp [Obj'.live] at hi1
     ·simp [e] at hi1
      exact e (hH.apart i j g hi1 (by rw [ho]; rfl) hi2 (by rw [h4]; rfl))
   ·rw [<- h9] at hj'
    simp only [Nat.zero_mul, Nat.zero_add]
    rw [List.getElem?_take] at hj'
    split at hj'
    ·simpa using hj'
    ·cases hj'
 ·rw [put_one_us] at h
  have h1 : j ≠ id := fun e => h (.inr e)
  simp only [put_one_o, upd_apply, h1, if_false]
  exact hH.fresh j fun hu => h (.inl hu)
 ·by_cases e1 : i = id
  ·subst e1; simp [Obj'.live] at hi
  ·by_cases e2 : j = id
   ·subst e2; simp [Obj'.live] at hj
   ·simp [e1, e2] at hi hj; exact hH.apart i j b hi hj bi bj
theorem freezeM (hH : HeapOk M φ H w) {id : Nat} {kt vt : TypeId} {l : List (D × D)} (hus : H.us id) (ho : H.o id = .map kt vt l) :
 HeapOk M φ (H.put [(id, .mfro l)]) w /\ Trans φ H w φ (H.put [(id, .mfro l)]) w := by
 have hno : ∀ b, liveB φ (H.put [(id, .mfro l)]) b -> liveB φ H b := by
  rintro b ⟨j, h1, h2⟩
  by_cases hj : j = id
  ·subst hj; simp [Obj'.live] at h1
  ·simp [hj] at h1; exact ⟨j, h1, h2⟩
 have ht : Trans φ H w φ (H.put [(id, .mfro l)]) w := {
  keep := Keep.refl _ _
  grow := fun b hb => .inl (hno b hb)
  rel := {
   us := fun j h => by simp [h]
   row := fun j hu hr => by
    by_cases hj : j = id
    ·subst hj; exact ⟨by rw [ho]; rfl, rfl⟩
    ·simp [hj] at hr; exact ⟨hr, rfl⟩
   ep := fun j e' hu he => by
    by_cases hj : j = id
    ·subst hj; simp [Obj'.epoch] at he
    ·simp [hj] at he; exact ⟨e', he, Nat.le_refl _, fun _ => rfl⟩ } }
 refine ⟨hH.of ht (· = id) (fun j h => ?_) (fun j h => ⟨by simp [h], rfl, fun _ _ _ => rfl⟩) (fun j h => ?_) (fun i j b hi hj bi bj => ?_) (fun b hb => (hH.ours b (hno b hb)).2), ht⟩
 ·subst h
  have hok := hH.ok j
  unfold ObjOk at hok ⊢
  simp only [ho, put_one_o, upd_apply, if_true] at hok ⊢
  obtain ⟨b, es, clock, h1, h2, h3, h4⟩ := hok
  obtain ⟨h5, h6⟩ := (ents_dens _ _).1 h4
  refine ⟨b, es, clock, es.toList, h1, h2, ?_, h3, .inl rfl, D.dens_mono (ht.blocks (M := M)) _ _ h5, D.dens_mono (ht.blocks (M := M)) _ _ h6⟩
  rintro (hM | ⟨i, hi1, hi2⟩)
  ·exact (hH.ours b ⟨j, by rw [ho]; rfl, by rw [h1]; rfl⟩).1 hM
  ·by_cases e : i = j
   ·subst e; simp [Obj'.live] at hi1
   ·simp [e] at hi1
    exact e (hH.apart i j b hi1 (by rw [ho]; rfl) hi2 (by rw [h1]; rfl))
 ·rw [put_one_us] at h
  have h1 : j ≠ id := fun e => h (.inr e)
  simp only [put_one_o, upd_apply, h1, if_false]
  exact hH.fresh j fun hu => h (.inl hu)
 ·by_cases e1 : i = id
  ·subst e1; simp [Obj'.live] at hi
  ·by_cases e2 : j = id
   ·subst e2; simp [Obj'.live] at hj
   ·simp [e1, e2] at hi hj; exact hH.apart i j b hi hj bi bj
end
end Go.Proofs.YtealblliddhgiaaGreat
namespace Go.Proofs.YtealblliddhgiaaGreat
def Eff (M : Nat -> Prop) (φ : Place) (H : Hp) (w : World) (fr : Nat) (r : Result Next) (K : V -> List (Nat × Obj') -> List Nat -> Prop) : Prop :=
 ∃ nx val w' φ' v Δ rd, K v Δ rd /\ r = .ok nx w' /\ (nx = .value val \/ nx = .skip /\ val = undef) /\ HeapOk M φ' (H.put Δ) w' /\ Trans φ H w φ' (H.put Δ) w' /\
  V.den (mutB M φ' (H.put Δ)) φ' (H.put Δ) w' v val /\ (∀ id ∈ Δ.map (·.1), H.us id \/ id = fr)
section
variable {P : Program} {M : Nat -> Prop} {φ : Place} {H : Hp} {w : World} {fr : Nat} {K : V -> List (Nat × Obj') -> List Nat -> Prop}
theorem Eff.same (hH : HeapOk M φ H w) {r : Result Next} {v : V} {rd : List Nat} (val : Value) (hK : K v [] rd) (hr : r = .ok (.value val) w) (hd : V.den (mutB M φ H) φ H w v val) : Eff M φ H w fr r K :=
 ⟨_, val, w, φ, v, [], rd, hK, hr, .inl rfl, by rw [put_nil]; exact hH, by rw [put_nil]; exact Trans.refl _ _ _, by rw [put_nil]; exact hd, by simp⟩
theorem Eff.mono {r : Result Next} {K' : V -> List (Nat × Obj') -> List Nat -> Prop} (h : Eff M φ H w fr r K) (hk : ∀ v Δ rd, K v Δ rd -> K' v Δ rd) : Eff M φ H w fr r K' := by
 obtain ⟨nx, val, w', φ', v, Δ, rd, h1, h2⟩ := h
 exact ⟨nx, val, w', φ', v, Δ, rd, hk _ _ _ h1, h2⟩
theorem info_of_underlying {t : TypeId} {d : TypeDesc} (h : P.underlying t = some d) : ∃ i, P.info? t = some i := by
 unfold Program.underlying at h
 cases hi : P.info? t with
 | none => simp [hi] at h
 | some i => exact ⟨i, rfl⟩
theorem cellsOf_info {t : TypeId} {i : TypeInfo} (h : P.info? t = some i) : P.cellsOf t = i.size := by simp [Program.cellsOf, h]
theorem bytesOf_info {t : TypeId} {i : TypeInfo} (h : P.info? t = some i) : P.bytesOf t = i.bytes := by simp [Program.bytesOf, h]
theorem zeroT_spec {t : TypeId} {z : List V} (h : zeroT P t = some z) : ∃ i v, P.info? t = some i /\ i.zero = some v /\ v.cells.size = i.size /\ Flat v.cells.toList /\ z = v.cells.toList.map V.ofScalar := by
 unfold zeroT at h
 cases hi : P.info? t with
 | none => simp [hi] at h
 | some i =>
   simp only [hi] at h
   cases hz : i.zero with
   | none => simp [hz] at h
   | some v =>
     simp only [hz] at h
     split at h
     ·rename_i hc
      injection h with h
      exact ⟨i, v, rfl, hz, hc.1, fun u hu => List.all_eq_true.1 hc.2 u hu, h.symm⟩
     ·cases h
theorem aggT_true {t : TypeId} (h : aggT P t = some true) (w : World) : (isAgg t).run P w = .ok true w := by
 unfold aggT at h
 unfold isAgg
 cases hd : P.underlying t with
 | none => simp [hd] at h
 | some d => cases d <;> simp_all [run_underlying hd]
theorem aggT_false {t : TypeId} (h : aggT P t = some false) (w : World) : (isAgg t).run P w = .ok false w := by
 unfold aggT at h
 unfold isAgg
 cases hd : P.underlying t with
 | none => simp [hd] at h
 | some d => cases d <;> simp_all [run_underlying hd]
theorem run_size {t : TypeId} {i : TypeInfo} (h : P.info? t = some i) (w : World) : (sizeOf t).run P w = .ok (P.cellsOf t) w := by
 simp [sizeOf, typeInfo, h, cellsOf_info h]
theorem aggT_info {t : TypeId} {b : Bool} (h : aggT P t = some b) : ∃ i, P.info? t = some i := by
 unfold aggT at h
 cases hd : P.underlying t with
 | none => simp [hd] at h
 | some d => exact info_of_underlying hd
theorem sliceT_spec {t e : TypeId} (h : sliceT P t = some e) : P.underlying t = some (.slice e) := by
 unfold sliceT at h
 cases hd : P.underlying t with
 | none => simp [hd] at h
 | some d => cases d <;> simp_all
theorem arrT_spec {t e : TypeId} {n : Nat} (h : arrT P t = some (n, e)) : P.underlying t = some (.array n e) := by
 unfold arrT at h
 cases hd : P.underlying t with
 | none => simp [hd] at h
 | some d => cases d <;> simp_all
theorem add_zero (a : Addr) : a.add 0 = a := by simp [Addr.add]
theorem add_plain (b o j : Nat) : (⟨b, o, none⟩ : Addr).add j = ⟨b, o + j, none⟩ := by
 unfold Addr.add; split
 ·rename_i h; subst h; rfl
 ·rfl
theorem add_add (a : Addr) (h : a.spot = none) (m n : Nat) : (a.add m).add n = a.add (m + n) := by
 obtain ⟨b, o, s⟩ := a
 simp only at h; subst h
 simp only [add_plain, Nat.add_assoc]
theorem add_spot (a : Addr) (h : a.spot = none) (m : Nat) : (a.add m).spot = none := by
 unfold Addr.add; split <;> first | exact h | rfl
theorem ev_den (s : S) (a : Act) (henv : ∀ i, V.den (mutB M φ H) φ H w (s.env i) (a.tmps.getD i undef)) (x : Operand) : V.den (mutB M φ H) φ H w (s.ev x) (a.eval x) := by
 cases x with
 | tmp t => exact henv t
 | func f => exact ⟨#[], #[], rfl, rfl, rfl⟩
 | global g => trivial
 | const v =>
   cases v with
   | agg c =>
     simp only [S.ev, V.ofConst, Act.eval]
     split
     ·rename_i hc
      have hf : Flat c.toList := fun u hu => List.all_eq_true.1 hc u hu
      exact mkAgg_den _ _ (ofScalars_dens _ hf) hf
     ·trivial
   | tuple _ => trivial
   | _ => simp only [S.ev, V.ofConst, Act.eval]; exact ofScalar_den _ (by rfl)
theorem evs_den (s : S) (a : Act) (henv : ∀ i, V.den (mutB M φ H) φ H w (s.env i) (a.tmps.getD i undef)) : ∀ (xs : List Operand), V.dens (mutB M φ H) φ H w (xs.map s.ev) (xs.map a.eval)
 | [] => rfl
 | x :: xs => ⟨a.eval x, xs.map a.eval, rfl, ev_den s a henv x, evs_den s a henv xs⟩
theorem run_load_cells {t : TypeId} (a : Addr) (us : List Value) (hc : ∀ j u, us[j]? = some u -> w.cell? (a.add j) = some u) :
 (aggT P t = some true -> us.length = P.cellsOf t -> (Instr.loadAt t (.pointer (some a))).run P w = .ok (.agg us.toArray) w) /\
 (aggT P t = some false -> ∀ u, us[0]? = some u -> (Instr.loadAt t (.pointer (some a))).run P w = .ok u w) := by
 constructor
 ·intro h hl
  obtain ⟨i, hi⟩ := aggT_info h
  have h1 := run_loadCells_list (P := P) w a us hc
  rw [hl] at h1
  simp [Instr.loadAt, Instr.sureAddr, loadVar, aggT_true h, run_size hi, h1]
 ·intro h u hu
  have h1 := hc 0 u hu
  rw [add_zero] at h1
  simp [Instr.loadAt, Instr.sureAddr, loadVar, aggT_false h, h1]
theorem load_row {t : TypeId} {cs : List V} {off : Nat} {v : V} (hg : rowGet P t cs off = some v) (a : Addr) (vs : List Value) (hd : V.dens (mutB M φ H) φ H w cs vs) (hf : Flat vs)
 (hc : ∀ j u, vs[j]? = some u -> w.cell? (a.add j) = some u) (ha : a.spot = none) : ∃ val, (Instr.loadAt t (.pointer (some (a.add off)))).run P w = .ok val w /\ V.den (mutB M φ H) φ H w v val := by
 have hlen := V.dens_length _ _ hd
 unfold rowGet at hg
 cases hagg : aggT P t with
 | none => simp [hagg] at hg
 | some b =>
   cases b with
   | true =>
     simp only [hagg] at hg
     split at hg
     ·rename_i hle
      injection hg with hg; subst hg
      refine ⟨.agg ((vs.drop off).take (P.cellsOf t)).toArray, (run_load_cells (P := P) (t := t) (a.add off) ((vs.drop off).take (P.cellsOf t)) ?_).1 hagg (by simp; omega), ?_⟩
      ·intro j u hj
       rw [add_add a ha]
       rw [List.getElem?_take] at hj
       split at hj
       ·exact hc _ _ (by simpa using hj)
       ·cases hj
      ·refine mkAgg_den _ _ ?_ ?_
       ·exact V.dens_take _ _ _ (V.dens_drop _ _ _ hd)
       ·intro u hu
        exact hf u (List.mem_of_mem_drop (List.mem_of_mem_take (by simpa using hu)))
     ·cases hg
   | false =>
     simp only [hagg] at hg
     obtain ⟨u, hu, hdu⟩ := V.dens_get _ _ _ _ hd hg
     refine ⟨u, (run_load_cells (P := P) (t := t) (a.add off) (vs.drop off) ?_).2 hagg u (by simpa using hu), hdu⟩
     intro j x hj
     rw [add_add a ha]
     exact hc _ _ (by simpa using hj)
theorem flatMap_get (sz : Nat) : ∀ (evs : List Value) (i j : Nat) (ev : Value) (u : Value), (∀ x ∈ evs, x.cells.size = sz) -> evs[i]? = some ev -> ev.cells[j]? = some u ->
 (evs.flatMap (·.cells.toList))[i * sz + j]? = some u
 | [], _, _, _, _, _, h, _ => by simp at h
 | e :: evs, 0, j, ev, u, hs, h, hu => by
   simp at h; subst h
   have : j < e.cells.size := (Array.getElem?_eq_some_iff.1 hu).1
   rw [List.flatMap_cons, List.getElem?_append_left (by simp; omega)]
   simpa using hu
 | e :: evs, i + 1, j, ev, u, hs, h, hu => by
   have ih := flatMap_get sz evs i j ev u (fun x hx => hs x (by simp [hx])) (by simpa using h) hu
   rw [List.flatMap_cons, List.getElem?_append_right (by simp [hs e (by simp), Nat.add_mul]; omega)]
   simp only [Array.length_toList, hs e (by simp)]
   rw [show (i + 1) * sz + j - sz = i * sz + j by rw [Nat.add_mul]; omega]
   exact ih
theorem row_cell {g : Nat} {carr : Array Value} {ty : TypeId} {fz : Nat × Nat} (h : w.heap[g]? = some (.cells carr ty fz)) (j : Nat) (u : Value) (hu : carr[j]? = some u) : w.cell? ((⟨g, 0, none⟩ : Addr).add j) = some u := by
 rw [add_plain, Nat.zero_add, cell_of_row w g j carr ty fz h]; exact hu
theorem arr_elem {B : Nat -> Prop} {ty : TypeId} {sz : Nat} {es : List D} {v : Value} {b n c i : Nat} {e : D}
 (hok : 0 < sz /\ ∃ xs, w.ownsRow 0 ty sz v es.length xs /\ RowDen B w sz es xs) (hv : v = .slice (some ⟨b, 0, none⟩) n c) (he : es[i]? = some e) :
 ∃ ev : Value, ev.cells.size = sz /\ D.dens B w e.cells ev.cells.toList /\ Flat ev.cells.toList /\ (∀ j u, ev.cells.toList[j]? = some u -> w.cell? ((⟨b, i * sz, none⟩ : Addr).add j) = some u) := by
 obtain ⟨h0, xs, ⟨hl, hrow⟩, evs, rfl, h2, h3⟩ := hok
 obtain ⟨ev, hev, hd⟩ := D.dens_get _ _ _ _ h3 he
 have hcd := D.den_cells _ _ hd
 refine ⟨ev, h2 ev (List.mem_of_getElem? hev), hcd.1, hcd.2, fun j u hj => ?_⟩
 subst hv
 rcases hrow with ⟨h4, _⟩ | ⟨g, cap, cur, h4, _, h5, h6, h7, h8, h9⟩
 ·simp at h4
 ·simp at h4; obtain ⟨rfl, _, rfl⟩ := h4
  have := flatMap_get sz evs i j ev u h2 hev (by simpa using hj)
  rw [<- h9, List.getElem?_take] at this
  split at this
  ·have h10 := row_cell h5 (i * sz + j) u (by simpa using this)
   rw [add_plain] at h10 ⊢
   simpa using h10
  ·cases this
theorem eff_load (hH : HeapOk M φ H w) {t : TypeId} {x : V} {xv : Value} (hx : V.den (mutB M φ H) φ H w x xv)
 (h : loadV P H.o t x fun v rd => K v [] rd) : Eff M φ H w fr ((do let y <- Instr.loadAt t xv; pure (Next.value y) : Sem Next).run P w) K := by
 have fin : ∀ (v : V) rd, K v [] rd -> (∃ val, (Instr.loadAt t xv).run P w = .ok val w /\ V.den (mutB M φ H) φ H w v val) -> Eff M φ H w fr ((do let y <- Instr.loadAt t xv; pure (Next.value y) : Sem Next).run P w) K := by
  rintro v rd hK ⟨val, h1, h2⟩
  exact Eff.same hH val hK (by simp [h1]) h2
 unfold loadV at h
 split at h
 ·rename_i id off
  split at h
  ·rename_i cs ho
   obtain ⟨v, h1, hK⟩ := h
   obtain ⟨_, hu, hp⟩ := hx
   obtain ⟨b, hφ, rfl⟩ := hp (by rw [ho]; rfl)
   have hok := hH.ok id
   simp only [ObjOk, ho] at hok
   obtain ⟨b', carr, ty, g1, g2, g3, g4⟩ := hok
   rw [hφ] at g1; simp at g1; subst g1
   refine fin v _ hK ?_
   have := load_row (P := P) h1 ⟨b, 0, none⟩ carr.toList g3 g4 (fun j u hj => row_cell g2 j u (by simpa using hj)) rfl
   rwa [add_plain, Nat.zero_add] at this
  ·exact h.elim
 ·rename_i cs off
  obtain ⟨v, h1, hK⟩ := h
  obtain ⟨a, ev, ha, rfl, hd, hf, hc⟩ := hx
  exact fin v _ hK (load_row h1 a ev ((V.dens_map_d _ _).2 hd) hf (fun j u hj => (hc j u (by simpa using hj)).1) ha)
 ·rename_i id ep i sz off
  split at h
  ·rename_i ep' ty sz' es ho
   obtain ⟨rfl, rfl, e, he, v, h1, hK⟩ := h
   obtain ⟨_, hu, hp⟩ := hx
   obtain ⟨b, n, c, hφ, rfl⟩ := (hp ep (by rw [ho]; rfl)).2 rfl
   have hok := hH.ok id
   simp only [ObjOk, ho] at hok
   obtain ⟨ev, g1, g2, g3, g4⟩ := arr_elem hok hφ he
   refine fin v _ hK ?_
   have := load_row (P := P) h1 ⟨b, i * sz, none⟩ ev.cells.toList ((V.dens_map_d _ _).2 g2) g3 g4 rfl
   rwa [add_plain] at this
  ·exact h.elim
 ·exact h.elim
end
end Go.Proofs.YtealblliddhgiaaGreat
namespace Go.Proofs.YtealblliddhgiaaGreat
section
variable {P : Program} {M : Nat -> Prop} {φ : Place} {H : Hp} {w : World} {fr : Nat} {K : V -> List (Nat × Obj') -> List Nat -> Prop}
theorem Eff.plain (hH : HeapOk M φ H w) {s : Sem Value} {v : V} {rd : List Nat} (val : Value) (hK : K v [] rd) (hr : s.run P w = .ok val w) (hd : V.den (mutB M φ H) φ H w v val) :
 Eff M φ H w fr ((do let y <- s; pure (Next.value y) : Sem Next).run P w) K := Eff.same hH val hK (by simp [hr]) hd
theorem fieldT_spec {t : TypeId} {f q : Nat} (h : fieldT P t f = some q) : ∃ fs fd, P.underlying t = some (.struct fs) /\ fs[f]? = some fd /\ P.cellsOf fd.type ≠ 0 /\ fd.offset = q := by
 unfold fieldT at h
 cases hd : P.underlying t with
 | none => simp [hd] at h
 | some d =>
   cases d <;> simp only [hd] at h <;> try (cases h; done)
   rename_i fs
   cases hf : fs[f]? with
   | none => simp [hf] at h
   | some fd =>
     simp only [hf] at h
     split at h
     ·cases h
     ·injection h with h
      exact ⟨fs, fd, rfl, hf, by assumption, h⟩
theorem run_fieldAt {t : TypeId} {f q : Nat} (h : fieldT P t f = some q) (a : Addr) : (Instr.fieldAt t (.pointer (some a)) f).run P w = .ok (.pointer (some (a.add q))) w := by
 obtain ⟨fs, fd, h1, h2, h3, rfl⟩ := fieldT_spec h
 have : ∃ i, P.info? fd.type = some i := by
  cases hi : P.info? fd.type with
  | none => simp [Program.cellsOf, hi] at h3
  | some i => exact ⟨i, rfl⟩
 obtain ⟨i, hi⟩ := this
 simp [Instr.fieldAt, run_underlying h1, h2, Instr.sureAddr, fieldPlace, run_size hi, h3]
def V.step (x : V) (q : Nat) : Option V :=
 match x with
 | .ptr id off => some (.ptr id (off + q))
 | .pp cs off => some (.pp cs (off + q))
 | .pe id ep j sz off => some (.pe id ep j sz (off + q))
 | _ => none
def V.place (o : Nat -> Obj') : V -> Prop
 | .ptr id _ => (o id).isRow = true
 | .pe id ep _ _ _ => (o id).epoch = some ep
 | _ => True
theorem step_den {x y : V} {q : Nat} (h : x.step q = some y) {xv : Value} (hx : V.den (mutB M φ H) φ H w x xv)
 (hr : x.place H.o) :
 ∃ a, xv = .pointer (some a) /\ V.den (mutB M φ H) φ H w y (.pointer (some (a.add q))) := by
 cases x with
 | ptr id off =>
   simp only [V.step, Option.some.injEq] at h; subst h
   obtain ⟨h1, h2, h3⟩ := hx
   obtain ⟨b, h4, rfl⟩ := h3 hr
   exact ⟨_, rfl, rfl, h2, fun _ => ⟨b, h4, by rw [add_plain]⟩⟩
 | pp cs off =>
   simp only [V.step, Option.some.injEq] at h; subst h
   obtain ⟨a, ev, ha, rfl, hd⟩ := hx
   exact ⟨_, rfl, a, ev, ha, by rw [add_add a ha], hd⟩
 | pe id ep j sz off =>
   simp only [V.step, Option.some.injEq] at h; subst h
   obtain ⟨h1, h2, h3⟩ := hx
   obtain ⟨b, n, c, h4, rfl⟩ := (h3 ep hr).2 rfl
   refine ⟨_, rfl, rfl, h2, fun e he => ⟨(h3 e he).1, fun heq => ⟨b, n, c, h4, by rw [add_plain, Nat.add_assoc]⟩⟩⟩
 | _ => simp [V.step] at h
theorem eff_fieldAddr (hH : HeapOk M φ H w) {t : TypeId} {f : Nat} {x : V} {xv : Value} (hx : V.den (mutB M φ H) φ H w x xv) (h : fieldAddrV P H.o t x f fun v => K v [] []) :
 Eff M φ H w fr ((do let y <- Instr.fieldAt t xv f; pure (Next.value y) : Sem Next).run P w) K := by
 have fin : ∀ (y : V) q, fieldT P t f = some q -> x.step q = some y -> x.place H.o -> K y [] [] ->
  Eff M φ H w fr ((do let y <- Instr.fieldAt t xv f; pure (Next.value y) : Sem Next).run P w) K := by
  intro y q hq hs hr hK
  obtain ⟨a, rfl, hd⟩ := step_den hs hx hr
  exact Eff.plain hH _ hK (run_fieldAt hq a) hd
 unfold fieldAddrV at h
 split at h
 ·rename_i q hq
  split at h
  ·exact fin _ q hq rfl h.1 h.2
  ·exact fin _ q hq rfl trivial h
  ·exact fin _ q hq rfl h.1 h.2
  ·exact h.elim
 ·exact h.elim
theorem slice_elem {B : Nat -> Prop} {es : List D} {xv : Value} (hx : D.den B w (.sl es) xv) {i : Nat} {y : D} (hy : es[i]? = some y) :
 ∃ a len cap ev, xv = .slice (some a) len cap /\ i < len /\ a.spot = none /\ D.dens B w y.cells ev /\ Flat ev /\ CellsAt B w (a.add (i * y.cells.length)) ev.toArray /\ len = es.length := by
 obtain ⟨base, len, cap, rfl, rfl, h2, h3, sz, h4⟩ := hx
 have hlt : i < es.length := (List.getElem?_eq_some_iff.1 hy).1
 cases base with
 | none => have := h3 rfl; omega
 | some a =>
   obtain ⟨h5, h6⟩ := h4 a rfl
   obtain ⟨ev, h7, h8, h9⟩ := D.elems_get es 0 i y h6 hy
   have h10 := D.den_cells _ _ h9
   have h11 : y.cells.length = sz := by rw [<- h7, <- D.dens_length _ _ h10.1]; simp
   refine ⟨a, es.length, cap, ev.cells.toList, rfl, hlt, h5 (by omega), h10.1, h10.2, ?_, rfl⟩
   rw [h11]
   simpa using h8
theorem run_indexAt_s {t e : TypeId} (ht : sliceT P t = some e) (a : Addr) (len cap : Nat) (k : IntKind) (i : Int) (h0 : 0 <= i) (h1 : i.toNat < len) (hc : 0 < P.cellsOf e) :
 (Instr.indexAt t (.slice (some a) len cap) (.int k i)).run P w = .ok (.pointer (some (a.add (i.toNat * P.cellsOf e)))) w := by
 have hu := sliceT_spec ht
 have : ∃ ie, P.info? e = some ie := by
  cases hi : P.info? e with
  | none => simp [Program.cellsOf, hi] at hc
  | some i => exact ⟨i, rfl⟩
 obtain ⟨ie, hi⟩ := this
 have h2 : 0 <= i /\ i < (len : Int) := ⟨h0, by omega⟩
 simp [Instr.indexAt, run_underlying hu, asIntOf, h2, run_size hi]
theorem run_indexAt_a {t e : TypeId} {n : Nat} (ht : arrT P t = some (n, e)) (a : Addr) (k : IntKind) (i : Int) (h0 : 0 <= i) (h1 : i < n) (hi : ∃ ie, P.info? e = some ie) :
 (Instr.indexAt t (.pointer (some a)) (.int k i)).run P w = .ok (.pointer (some (a.add (i.toNat * P.cellsOf e)))) w := by
 have hu := arrT_spec ht
 obtain ⟨ie, hi⟩ := hi
 have h2 : 0 <= i /\ i < (n : Int) := ⟨h0, h1⟩
 simp [Instr.indexAt, run_underlying hu, asIntOf, Instr.sureAddr, h2, run_size hi]
theorem eff_indexAddr (hH : HeapOk M φ H w) {t : TypeId} {x ix : V} {xv iv : Value} (hx : V.den (mutB M φ H) φ H w x xv) (hi : V.den (mutB M φ H) φ H w ix iv)
 (h : indexAddrV P H.o t x ix fun v rd => K v [] rd) : Eff M φ H w fr ((do let y <- Instr.indexAt t xv iv; pure (Next.value y) : Sem Next).run P w) K := by
 unfold indexAddrV at h
 split at h
 ·rename_i k i
  simp only [V.den, D.den] at hi; subst hi
  have pure_sl : ∀ {e : TypeId} {es : List D} {rd}, sliceT P t = some e -> D.den (mutB M φ H) w (.sl es) xv -> (0 <= i /\ ∃ y, es[i.toNat]? = some y /\ y.cells.length = P.cellsOf e /\ 0 < P.cellsOf e /\ K (.pp y.cells 0) [] rd) ->
   Eff M φ H w fr ((do let y <- Instr.indexAt t xv (.int k i); pure (Next.value y) : Sem Next).run P w) K := by
   rintro e es rd ht hd ⟨h0, y, hy, hc, hpos, hK⟩
   obtain ⟨a, len, cap, ev, rfl, h1, h2, h3, h4, h5, _⟩ := slice_elem hd hy
   refine Eff.plain hH _ hK (run_indexAt_s ht a len cap k i h0 h1 hpos) ⟨a.add (i.toNat * P.cellsOf e), ev, add_spot a h2 _, by rw [add_zero], h3, h4, ?_⟩
   rw [<- hc]; exact h5
  split at h
  ·rename_i e ht
   split at h
   ·exact pure_sl ht hx h
   ·exact pure_sl ht hx.1 h
   ·rename_i id ep
    split at h
    ·rename_i ep' ty sz es ho
     obtain ⟨rfl, h0, h1, rfl, hpos, hK⟩ := h
     obtain ⟨hone, hus, hep⟩ := hx
     have hv := (hep ep (by rw [ho]; rfl)).2 rfl
     have hok := hH.ok id
     simp only [ObjOk, ho] at hok
     obtain ⟨h3, xs, ⟨_, hrow⟩, _⟩ := hok
     rcases hrow with ⟨_, h5⟩ | ⟨g, cap, cur, h4, _⟩
     ·omega
     ·subst hv
      rw [h4]
      refine Eff.plain hH _ hK (run_indexAt_s ht _ _ cap k i h0 h1 hpos) ⟨rfl, hus, fun e' he' => ⟨(hep e' he').1, fun heq => ⟨g, es.length, cap, h4, by rw [add_plain]; simp⟩⟩⟩
    ·rename_i ep' es ho
     obtain ⟨rfl, h⟩ := h
     obtain ⟨hone, hus, hep⟩ := hx
     have hv := (hep ep (by rw [ho]; rfl)).2 rfl
     have hok := hH.ok id
     simp only [ObjOk, ho] at hok
     exact pure_sl ht (hv ▸ hok) h
    ·exact h.elim
   ·exact h.elim
  ·split at h
   ·rename_i n e ht
    obtain ⟨h0, h1, hinf, h⟩ := h
    have fin : ∀ (y : V), x.step (i.toNat * P.cellsOf e) = some y -> x.place H.o -> K y [] [] ->
     Eff M φ H w fr ((do let y <- Instr.indexAt t xv (.int k i); pure (Next.value y) : Sem Next).run P w) K := by
     intro y hs hr hK
     obtain ⟨a, rfl, hd⟩ := step_den hs hx hr
     refine Eff.plain hH _ hK (run_indexAt_a ht a k i h0 h1 (Option.isSome_iff_exists.1 hinf)) hd
    split at h
    ·exact fin _ rfl h.1 h.2
    ·exact fin _ rfl trivial h
    ·exact fin _ rfl h.1 h.2
    ·exact h.elim
   ·exact h.elim
 ·exact h.elim
theorem eff_un (hH : HeapOk M φ H w) {op : UnOp} {x : V} {xv : Value} (hx : V.den (mutB M φ H) φ H w x xv) (h : unV op x fun v => K v [] []) :
 Eff M φ H w fr ((do let y <- Op.unary op xv; pure (Next.value y) : Sem Next).run P w) K := by
 unfold unV at h
 split at h
 ·simp only [V.den, D.den] at hx; subst hx
  exact Eff.plain hH _ h (by simp [Op.unary, Op.intArith]) rfl
 ·simp only [V.den, D.den] at hx; subst hx
  exact Eff.plain hH _ h (by simp [Op.unary]) rfl
 ·exact h.elim
theorem run_intBits {op : BinOp} {k : IntKind} {a b r : Int} (h : bitsI op k a b = some r) : (Op.intBits op k a b).run P w = .ok (.int k r) w := by
 unfold bitsI at h
 cases op <;> simp at h <;> subst h <;> simp [Op.intBits]
theorem run_eq_bool {t : TypeId} (hu : P.underlying t = some .bool) (a b : Bool) (d : Nat) : (Op.equalIn (d + 1) t (.bool a) (.bool b)).run P w = .ok (a == b) w := by
 simp [Op.equalIn, run_underlying hu]
theorem eff_bin (hH : HeapOk M φ H w) {op : BinOp} {t : TypeId} {p q : Operand} {x y : V} {xv yv : Value} (hx : V.den (mutB M φ H) φ H w x xv) (hy : V.den (mutB M φ H) φ H w y yv)
 (h : binV P op t x y fun v => K v [] []) :
 Eff M φ H w fr ((do let y <- (do eqGuard op t p q xv yv; binOp op t xv yv); pure (Next.value y) : Sem Next).run P w) K := by
 unfold binV at h
 split at h
 ·rename_i k a k' b
  obtain ⟨rfl, h⟩ := h
  simp only [V.den, D.den] at hx hy; subst hx; subst hy
  have hg : (eqGuard op t p q (.int k a) (.int k b)).run P w = .ok () w := by
   unfold eqGuard; cases op <;> simp
  have fin : ∀ (v : V) (val : Value), K v [] [] -> (binOp op t (.int k a) (.int k b)).run P w = .ok val w -> V.den (mutB M φ H) φ H w v val ->
   Eff M φ H w fr ((do let y <- (do eqGuard op t p q (.int k a) (.int k b); binOp op t (.int k a) (.int k b)); pure (Next.value y) : Sem Next).run P w) K := by
   intro v val hK hr hd
   exact Eff.plain hH val hK (by simp [hg, hr]) hd
  cases op <;> simp only [intV] at h
  case add => exact fin _ _ h (by simp [binOp, Op.intArith]) rfl
  case sub => exact fin _ _ h (by simp [binOp, Op.intArith]) rfl
  case mul => exact fin _ _ h (by simp [binOp, Op.intArith]) rfl
  case quo => exact fin _ _ h.2 (by simp [binOp, Op.intDiv, h.1]) rfl
  case rem => exact fin _ _ h.2 (by simp [binOp, Op.intDiv, h.1]) rfl
  case and => obtain ⟨r, hr, hK⟩ := h; exact fin _ _ hK (by simp [binOp, run_intBits hr]) rfl
  case or => obtain ⟨r, hr, hK⟩ := h; exact fin _ _ hK (by simp [binOp, run_intBits hr]) rfl
  case xor => obtain ⟨r, hr, hK⟩ := h; exact fin _ _ hK (by simp [binOp, run_intBits hr]) rfl
  case andNot => obtain ⟨r, hr, hK⟩ := h; exact fin _ _ hK (by simp [binOp, run_intBits hr]) rfl
  all_goals
   obtain ⟨r, hr, hK⟩ := h
   simp only [cmpV, Option.some.injEq] at hr
   subst hr
   exact fin _ _ hK (by simp [binOp, Op.intCmp]; rfl) (by simp [V.den, D.den])
 ·rename_i a b
  simp only [V.den, D.den] at hx hy; subst hx; subst hy
  have hg : (eqGuard op t p q (.bool a) (.bool b)).run P w = .ok () w := by
   unfold eqGuard; cases op <;> simp
  split at h
  ·obtain ⟨hu, hK⟩ := h
   have h1 : (Op.equal t (.bool a) (.bool b)).run P w = .ok (a == b) w := run_eq_bool hu a b 9999
   exact Eff.plain hH (.bool (a == b)) hK (by simp [hg, binOp, h1]) rfl
  ·obtain ⟨hu, hK⟩ := h
   have h1 : (Op.equal t (.bool a) (.bool b)).run P w = .ok (a == b) w := run_eq_bool hu a b 9999
   exact Eff.plain hH (.bool (a != b)) hK (by simp [hg, binOp, h1, bne]) rfl
  ·exact h.elim
 ·rename_i a b
  obtain ⟨u, rfl, rfl⟩ := hx
  obtain ⟨v, rfl, rfl⟩ := hy
  have hg : (eqGuard op t p q (.string u) (.string v)).run P w = .ok () w := by
   unfold eqGuard; cases op <;> simp
  split at h
  ·exact Eff.plain hH (.bool (u.data.toList == v.data.toList)) h (by simp [hg, binOp, Op.stringOp, ByteArray.toList_eq]) rfl
  ·exact Eff.plain hH (.bool (u.data.toList != v.data.toList)) h (by simp [hg, binOp, Op.stringOp, ByteArray.toList_eq, bne]) rfl
  ·exact h.elim
 ·rename_i a b
  obtain ⟨a', rfl, hx⟩ := hx
  obtain ⟨b', rfl, hy⟩ := hy
  split at h
  ·obtain ⟨r, hr, hK⟩ := h
   obtain ⟨h1, h2⟩ := hr (mutB M φ H) w (.agg a') (.agg b') ⟨a', rfl, hx⟩ ⟨b', rfl, hy⟩
   exact Eff.plain hH (.bool r) hK (by simp [h2, binOp, h1]) rfl
  ·obtain ⟨r, hr, hK⟩ := h
   obtain ⟨h1, h2⟩ := hr (mutB M φ H) w (.agg a') (.agg b') ⟨a', rfl, hx⟩ ⟨b', rfl, hy⟩
   exact Eff.plain hH (.bool !r) hK (by simp [h2, binOp, h1]) rfl
  ·exact h.elim
 ·exact h.elim
theorem eff_pick (hH : HeapOk M φ H w) {c a b : V} {cv av bv : Value} (hc : V.den (mutB M φ H) φ H w c cv) (ha : V.den (mutB M φ H) φ H w a av) (hb : V.den (mutB M φ H) φ H w b bv)
 (h : pickV c a b fun v => K v [] []) : Eff M φ H w fr ((do pure (.value (if <- asBool cv then av else bv)) : Sem Next).run P w) K := by
 unfold pickV at h
 split at h
 ·rename_i t
  simp only [V.den, D.den] at hc; subst hc
  have hr : ((do pure (.value (if <- asBool (.bool t) then av else bv)) : Sem Next).run P w) = .ok (.value (if t then av else bv)) w := by simp [asBool]
  have fin : ∀ v, K v [] [] -> V.den (mutB M φ H) φ H w v (if t then av else bv) -> Eff M φ H w fr ((do pure (.value (if <- asBool (.bool t) then av else bv)) : Sem Next).run P w) K :=
   fun v hK hd => Eff.same hH _ hK hr hd
  cases t
  ·exact fin _ (h.2 rfl) (by simpa using hb)
  ·exact fin _ (h.1 rfl) (by simpa using ha)
 ·exact h.elim
theorem run_len {t : TypeId} {e : TypeId} (hu : P.underlying t = some (.slice e)) (base : Option Addr) (n c : Nat) (ty : TypeId) : (Builtin.len_ #[t] ty #[.slice base n c]).run P w = .ok (goInt n) w := by
 simp [Builtin.len_, run_underlying hu]
theorem eff_len (hH : HeapOk M φ H w) {t ty : TypeId} {x : V} {xv : Value} (hx : V.den (mutB M φ H) φ H w x xv) (h : lenV P t H.o x fun v rd => K v [] rd) :
 Eff M φ H w fr ((do let y <- Builtin.len_ #[t] ty #[xv]; pure (Next.value y) : Sem Next).run P w) K := by
 unfold lenV at h
 split at h
 ·rename_i e hu
  have fin : ∀ {es : List D} {rd}, D.den (mutB M φ H) w (.sl es) xv -> K (.d (.int .i64 es.length)) [] rd -> Eff M φ H w fr ((do let y <- Builtin.len_ #[t] ty #[xv]; pure (Next.value y) : Sem Next).run P w) K := by
   rintro es rd ⟨base, len, cap, rfl, rfl, _⟩ hK
   exact Eff.plain hH _ hK (run_len hu _ _ _ _) rfl
  split at h
  ·exact fin hx h
  ·simp only [V.den] at hx; subst hx
   exact Eff.plain hH _ h (run_len hu _ _ _ _) rfl
  ·exact fin hx.1 h
  ·rename_i id ep
   split at h
   ·rename_i ep' ty sz es ho
    obtain ⟨rfl, hK⟩ := h
    obtain ⟨hone, hus, hep⟩ := hx
    have hv := (hep ep (by rw [ho]; rfl)).2 rfl
    have hok := hH.ok id
    simp only [ObjOk, ho] at hok
    obtain ⟨h3, xs, ⟨_, hrow⟩, _⟩ := hok
    subst hv
    rcases hrow with ⟨h4, h5⟩ | ⟨g, cap, cur, h4, _⟩
    ·rw [h4]; rw [h5] at hK; exact Eff.plain hH _ hK (run_len hu _ _ _ _) rfl
    ·rw [h4]; exact Eff.plain hH _ hK (run_len hu _ _ _ _) rfl
   ·rename_i ep' es ho
    obtain ⟨rfl, hK⟩ := h
    obtain ⟨hone, hus, hep⟩ := hx
    have hv := (hep ep (by rw [ho]; rfl)).2 rfl
    have hok := hH.ok id
    simp only [ObjOk, ho] at hok
    exact fin (hv ▸ hok) hK
   ·exact h.elim
  ·exact h.elim
 ·rename_i hu
  split at h
  ·obtain ⟨u, rfl, rfl⟩ := hx
   exact Eff.plain hH (goInt u.size) h (by simp [Builtin.len_, run_underlying hu]) (by simp [V.den, D.den, goInt])
  ·exact h.elim
 ·rename_i n e hu
  exact Eff.plain hH _ h (by simp [Builtin.len_, run_underlying hu]; rfl) rfl
 ·exact h.elim
end
end Go.Proofs.YtealblliddhgiaaGreat
namespace Go.Proofs.YtealblliddhgiaaGreat
section
variable {P : Program} {M : Nat -> Prop} {φ : Place} {H : Hp} {w : World} {fr : Nat} {K : V -> List (Nat × Obj') -> List Nat -> Prop}
def Obj'.fz : Obj' -> Obj'
 | .arr ep _ _ es => .fro ep es
 | .map _ _ l => .mfro l
 | o => o
theorem frz_eq (o : Nat -> Obj') (ids : List Nat) : frz o ids = ids.map fun id => (id, (o id).fz) := by
 unfold frz
 refine List.map_congr_left fun id _ => ?_
 cases o id <;> rfl
theorem put_same (H : Hp) {id : Nat} (hu : H.us id) {x : Obj'} (hx : H.o id = x) : H.put [(id, x)] = H := by
 obtain ⟨o, us⟩ := H
 simp only [Hp.put, put, List.foldl_cons, List.foldl_nil, Hp.mk.injEq, List.map_cons, List.map_nil, List.mem_singleton]
 constructor
 ·funext j
  by_cases hj : j = id
  ·subst hj; simpa using hx.symm
  ·simp [hj]
 ·funext j
  simp only [eq_iff_iff]
  exact ⟨fun h => h.elim (fun h => h) fun e => e ▸ hu, .inl⟩
theorem freezes_from (o : Nat -> Obj') : ∀ (ids : List Nat) (H : Hp), HeapOk M φ H w -> (∀ id ∈ ids, H.us id) -> (∀ id, H.o id = o id \/ H.o id = (o id).fz) ->
 let H' := H.put (ids.map fun id => (id, (o id).fz)); HeapOk M φ H' w /\ Trans φ H w φ H' w /\ (∀ id ∈ ids, H'.o id = (o id).fz) /\ (∀ id, H'.o id = o id \/ H'.o id = (o id).fz) /\ (∀ id, id ∉ ids -> H'.o id = H.o id) /\ ∀ id, H'.us id ↔ H.us id
 | [], H, hH, _, ho => by
   simp only [List.map_nil, put_nil]
   exact ⟨hH, Trans.refl _ _ _, by simp, ho, by simp, by simp⟩
 | id :: ids, H, hH, hu, ho => by
   have h1 : HeapOk M φ (H.put [(id, (o id).fz)]) w /\ Trans φ H w φ (H.put [(id, (o id).fz)]) w := by
    rcases ho id with h | h
    ·cases hx : o id with
     | arr ep ty sz es => exact freeze1 hH (hu id (by simp)) (h.trans hx)
     | map kt vt l => exact freezeM hH (hu id (by simp)) (h.trans hx)
     | _ =>
       rw [put_same H (hu id (by simp)) (h.trans (by rw [hx]; rfl))]
       exact ⟨hH, Trans.refl _ _ _⟩
    ·rw [put_same H (hu id (by simp)) h]
     exact ⟨hH, Trans.refl _ _ _⟩
   have h2 : ∀ j, (H.put [(id, (o id).fz)]).o j = o j \/ (H.put [(id, (o id).fz)]).o j = (o j).fz := by
    intro j
    by_cases hj : j = id
    ·subst hj; right; simp
    ·simpa [hj] using ho j
   have ih := freezes_from o ids (H.put [(id, (o id).fz)]) h1.1 (fun j hj => by simp [hu j (by simp [hj])]) h2
   obtain ⟨i1, i2, i3, i4, i5, i6⟩ := ih
   have e : H.put ((id :: ids).map fun id => (id, (o id).fz)) = (H.put [(id, (o id).fz)]).put (ids.map fun id => (id, (o id).fz)) := by
    rw [<- put_append]; rfl
   rw [e]
   refine ⟨i1, h1.2.trans i2, fun j hj => ?_, i4, fun j hj => ?_, fun j => ?_⟩
   ·rcases List.mem_cons.1 hj with rfl | hj
    ·by_cases hm : j ∈ ids
     ·exact i3 j hm
     ·rw [i5 j hm]; simp
    ·exact i3 j hj
   ·simp only [List.mem_cons, not_or] at hj
    rw [i5 j hj.2]; simp [hj.1]
   ·rw [i6 j, put_one_us]
    exact ⟨fun h => h.elim (fun h => h) fun e => e ▸ hu id (by simp), .inl⟩
theorem freezes (hH : HeapOk M φ H w) (ids : List Nat) (hu : ∀ id ∈ ids, H.us id) :
 let H' := H.put (frz H.o ids); HeapOk M φ H' w /\ Trans φ H w φ H' w /\ (∀ id ∈ ids, H'.o id = (H.o id).fz) /\ (∀ id, id ∉ ids -> H'.o id = H.o id) /\ ∀ id, H'.us id ↔ H.us id := by
 rw [frz_eq]
 obtain ⟨a, b, c, _, d, e⟩ := freezes_from H.o ids H hH hu (fun _ => .inl rfl)
 exact ⟨a, b, c, d, e⟩
mutual
theorem ids_used : ∀ (v : V) (val : Value), V.den (mutB M φ H) φ H w v val -> ∀ id ∈ v.ids, H.us id
 | .osl id ep, _, h, j, hj => by simp [V.ids] at hj; subst hj; exact h.2.1
 | .mp id, _, h, j, hj => by simp [V.ids] at hj; subst hj; exact h.2.1
 | .agg cs, _, h, j, hj => by obtain ⟨a, rfl, h, _⟩ := h; exact idss_used cs _ h j (by simpa [V.ids] using hj)
 | .iface t x, _, h, j, hj => by obtain ⟨u, rfl, h⟩ := h; exact ids_used x u h j (by simpa [V.ids] using hj)
 | .d _, _, _, _, hj | .nils, _, _, _, hj | .tup _, _, _, _, hj | .ptr _ _, _, _, _, hj | .pe _ _ _ _ _, _, _, _, hj | .pp _ _, _, _, _, hj | .func _ _ _, _, _, _, hj | .junk, _, _, _, hj | .csl _, _, _, _, hj | .rsl _ _ _, _, _, _, hj | .anyb, _, _, _, hj | .yld _, _, _, _, hj => by simp [V.ids] at hj
theorem idss_used : ∀ (vs : List V) (vals : List Value), V.dens (mutB M φ H) φ H w vs vals -> ∀ id ∈ V.idss vs, H.us id
 | [], _, _, j, hj => by simp [V.idss] at hj
 | v :: vs, _, h, j, hj => by
   obtain ⟨u, us, rfl, h1, h2⟩ := h
   rcases List.mem_append.1 (show j ∈ v.ids ++ V.idss vs from hj) with hj | hj
   ·exact ids_used v u h1 j hj
   ·exact idss_used vs us h2 j hj
end
mutual
theorem toD_den (hH : HeapOk M φ H w) {o : Nat -> Obj'} : ∀ (v : V) (x : D) (val : Value), (∀ id ∈ v.ids, H.o id = (o id).fz) -> toD o v = some x -> V.den (mutB M φ H) φ H w v val -> D.den (mutB M φ H) w x val
 | .d y, x, val, _, h, hd => by simp [toD] at h; subst h; exact hd
 | .nils, x, val, _, h, hd => by
   simp [toD] at h; subst h
   simp only [V.den] at hd; subst hd
   exact ⟨none, 0, 0, rfl, rfl, Nat.le_refl _, fun _ => rfl, 0, fun a ha => by cases ha⟩
 | .osl id ep, x, val, ho, h, hd => by
   obtain ⟨_, _, hd⟩ := hd
   have ho := ho id (by simp [V.ids])
   have hok := hH.ok id
   simp only [toD] at h
   cases hx : o id with
   | no => simp [hx] at h
   | row cs => simp [hx] at h
   | map kt vt l => simp [hx] at h
   | loop nf n env ps ica icb st pend => simp [hx] at h
   | mfro l => simp [hx] at h
   | mit l last => simp [hx] at h
   | sit s pos => simp [hx] at h
   | arr ep' ty sz es =>
     simp only [hx] at h ho
     split at h
     ·rename_i e; subst e; injection h with h; subst h
      simp only [Obj'.fz] at ho
      simp only [ObjOk, ho] at hok
      rw [(hd ep (by rw [ho]; rfl)).2 rfl]; exact hok
     ·cases h
   | fro ep' es =>
     simp only [hx] at h ho
     split at h
     ·rename_i e; subst e; injection h with h; subst h
      simp only [Obj'.fz] at ho
      simp only [ObjOk, ho] at hok
      rw [(hd ep (by rw [ho]; rfl)).2 rfl]; exact hok
     ·cases h
 | .mp id, x, val, ho, h, hd => by
   obtain ⟨_, _, hd⟩ := hd
   have ho := ho id (by simp [V.ids])
   have hok := hH.ok id
   simp only [toD] at h
   cases hx : o id with
   | map kt vt l =>
     simp only [hx] at h ho
     injection h with h; subst h
     simp only [Obj'.fz] at ho
     simp only [ObjOk, ho] at hok
     rw [hd (by rw [ho]; rfl)]; exact hok
   | mfro l =>
     simp only [hx] at h ho
     injection h with h; subst h
     simp only [Obj'.fz] at ho
     simp only [ObjOk, ho] at hok
     rw [hd (by rw [ho]; rfl)]; exact hok
   | _ => simp [hx] at h
 | .agg cs, x, val, ho, h, hd => by
   simp only [toD, Option.map_eq_some_iff] at h
   obtain ⟨ds, h1, rfl⟩ := h
   obtain ⟨a, rfl, h2, h3⟩ := hd
   exact ⟨a, rfl, toDs_den hH cs ds _ (fun id hid => ho id (by simpa [V.ids] using hid)) h1 h2, h3⟩
 | .iface t y, x, val, ho, h, hd => by
   simp only [toD, Option.map_eq_some_iff] at h
   obtain ⟨z, h1, rfl⟩ := h
   obtain ⟨u, rfl, h2⟩ := hd
   exact ⟨u, rfl, toD_den hH y z u (fun id hid => ho id (by simpa [V.ids] using hid)) h1 h2⟩
 | .tup _, _, _, _, h, _ | .ptr _ _, _, _, _, h, _ | .pe _ _ _ _ _, _, _, _, h, _ | .pp _ _, _, _, _, h, _ | .func _ _ _, _, _, _, h, _ | .junk, _, _, _, h, _ | .rsl _ _ _, _, _, _, h, _ | .anyb, _, _, _, h, _ | .yld _, _, _, _, h, _ => by simp [toD] at h
 | .csl es, x, val, _, h, hd => by simp [toD] at h; subst h; exact hd.1
theorem toDs_den (hH : HeapOk M φ H w) {o : Nat -> Obj'} : ∀ (vs : List V) (xs : List D) (vals : List Value), (∀ id ∈ V.idss vs, H.o id = (o id).fz) -> toDs o vs = some xs -> V.dens (mutB M φ H) φ H w vs vals -> D.dens (mutB M φ H) w xs vals
 | [], xs, vals, _, h, hd => by simp [toDs] at h; subst h; exact hd
 | v :: vs, xs, vals, ho, h, hd => by
   simp only [toDs, Option.bind_eq_some_iff, Option.map_eq_some_iff] at h
   obtain ⟨x, h1, ys, h2, rfl⟩ := h
   obtain ⟨u, us, rfl, h3, h4⟩ := hd
   exact ⟨u, us, rfl, toD_den hH v x u (fun id hid => ho id (by simp [V.idss, hid])) h1 h3, toDs_den hH vs ys us (fun id hid => ho id (by simp [V.idss, hid])) h2 h4⟩
end
theorem eff_new_row (hH : HeapOk M φ H w) (hfr : ¬ H.us fr) {s : Sem Value} (cs : List V) (carr : Array Value) (ty : TypeId) (hK : K (.ptr fr 0) [(fr, .row cs)] [])
 (hr : s.run P w = .ok (.pointer (some ⟨w.heap.size, 0, none⟩)) (w.alloc (.cells carr ty))) (hd : V.dens (mutB M φ H) φ H w cs carr.toList) (hf : Flat carr.toList) :
 Eff M φ H w fr ((do let y <- s; pure (Next.value y) : Sem Next).run P w) K := by
 obtain ⟨h1, h2, h3⟩ := new_row hH hfr cs carr ty hd hf
 exact ⟨_, _, _, _, _, _, _, hK, by simp [hr], .inl rfl, h1, h2, h3, by simp⟩
theorem eff_alloc (hH : HeapOk M φ H w) (hfr : ¬ H.us fr) {t : TypeId} (h : ∃ cs, zeroT P t = some cs /\ K (.ptr fr 0) [(fr, .row cs)] []) :
 Eff M φ H w fr ((do let y <- Instr.alloc t true (.tuple #[]); pure (Next.value y) : Sem Next).run P w) K := by
 obtain ⟨cs, hz, hK⟩ := h
 obtain ⟨i, v, h1, h2, h3, h4, rfl⟩ := zeroT_spec hz
 refine eff_new_row hH hfr _ v.cells t hK ?_ (ofScalars_dens _ h4) h4
 simp [Instr.alloc, zeroValue, typeInfo, h1, h2, newVar, newRow]
theorem eff_box (hH : HeapOk M φ H w) (hfr : ¬ H.us fr) {t : TypeId} {x : V} {xv : Value} (hx : V.den (mutB M φ H) φ H w x xv) (h : ∃ cs, x.cells = some cs /\ K (.ptr fr 0) [(fr, .row cs)] []) :
 Eff M φ H w fr ((do let y <- Instr.box t xv; pure (Next.value y) : Sem Next).run P w) K := by
 obtain ⟨cs, hc, hK⟩ := h
 obtain ⟨h1, h2⟩ := V.den_one x xv cs hc hx
 refine eff_new_row hH hfr _ xv.cells t hK ?_ h1 h2
 simp [Instr.box, newVar, newRow]
theorem set_cells (off : Nat) : ∀ (us : List Value) (cells : Array Value), off + us.length <= cells.size ->
 ((us.zipIdx.foldl (fun cs (p : Value × Nat) => cs.setIfInBounds (off + p.2) p.1) cells)).toList = cells.toList.take off ++ us ++ cells.toList.drop (off + us.length) := by
 have key : ∀ (us : List Value) (k : Nat) (cells : Array Value), off + k + us.length <= cells.size ->
  (((us.zipIdx k).foldl (fun cs (p : Value × Nat) => cs.setIfInBounds (off + p.2) p.1) cells)).toList = cells.toList.take (off + k) ++ us ++ cells.toList.drop (off + k + us.length) := by
  intro us
  induction us with
  | nil => intro k cells h; simp
  | cons u us ih =>
    intro k cells h
    simp only [List.zipIdx_cons, List.foldl_cons]
    rw [ih (k + 1) _ (by simp at h ⊢; omega)]
    simp only [Array.toList_setIfInBounds, List.length_cons]
    have hlt : off + k < cells.toList.length := by simp at h ⊢; omega
    rw [show off + (k + 1) = off + k + 1 by omega, List.take_set, List.take_succ_eq_append_getElem hlt, List.set_append_right _ _ (by simp; omega)]
    simp only [List.length_take]
    rw [show min (off + k) cells.toList.length = off + k by omega, Nat.sub_self]
    simp only [List.set_cons_zero, List.append_assoc, List.cons_append, List.nil_append]
    rw [List.drop_set_of_lt (by omega)]
    congr 3
    rw [show off + k + 1 + us.length = off + k + (us.length + 1) by omega]
 intro us cells h
 have := key us 0 cells (by simpa using h)
 simpa using this
theorem fill_den (places : List (Nat × Nat)) : ∀ (parts : List (Nat × V)) (vparts : List (Nat × Value)) (cs cs' : List V) (cells : Array Value),
 vparts.map (·.1) = parts.map (·.1) -> V.dens (mutB M φ H) φ H w (parts.map (·.2)) (vparts.map (·.2)) -> V.dens (mutB M φ H) φ H w cs cells.toList -> Flat cells.toList -> fillV places cs parts = some cs' ->
 ∃ cells', (∀ place : Nat -> Option (Nat × Nat), (∀ i p, places[i]? = some p -> place i = some p) -> Instr.fill place cells vparts = some cells') /\ V.dens (mutB M φ H) φ H w cs' cells'.toList /\ Flat cells'.toList
 | [], vparts, cs, cs', cells, h1, _, h3, h4, h => by
   cases vparts with
   | nil => simp [fillV] at h; subst h; exact ⟨cells, fun _ _ => rfl, h3, h4⟩
   | cons a l => simp at h1
 | (i, v) :: parts, vparts, cs, cs', cells, h1, h2, h3, h4, h => by
   cases vparts with
   | nil => simp at h1
   | cons a vparts =>
     obtain ⟨i', val⟩ := a
     simp only [List.map_cons, List.cons.injEq] at h1
     obtain ⟨rfl, h1⟩ := h1
     simp only [List.map_cons] at h2
     obtain ⟨u, us, e, h5, h6⟩ := h2
     simp only [List.cons.injEq] at e
     obtain ⟨rfl, rfl⟩ := e
     simp only [fillV] at h
     split at h
     ·rename_i off size us hpl hc
      split at h
      ·rename_i hsz
       obtain ⟨g1, g2⟩ := V.den_one v _ us hc h5
       have hl := V.dens_length _ _ g1
       have hl3 := V.dens_length _ _ h3
       have hs := set_cells off val.cells.toList cells (by simp at hl hl3 ⊢; omega)
       rw [Array.length_toList] at hl hl3
       have ih := fill_den places parts vparts _ cs' (val.cells.toList.zipIdx.foldl (fun cs (p : Value × Nat) => cs.setIfInBounds (off + p.2) p.1) cells) h1 h6 (by
        rw [hs]
        refine V.dens_append _ _ _ _ (V.dens_append _ _ _ _ (V.dens_take _ _ _ h3) g1) ?_
        rw [show val.cells.toList.length = us.length by simpa using hl]
        exact V.dens_drop _ _ _ h3) (by
        rw [hs]
        intro x hx
        simp only [List.mem_append] at hx
        rcases hx with (hx | hx) | hx
        ·exact h4 x (List.mem_of_mem_take hx)
        ·exact g2 x hx
        ·exact h4 x (List.mem_of_mem_drop hx)) h
       obtain ⟨cells', i1, i2⟩ := ih
       refine ⟨cells', fun place hp => ?_, i2⟩
       have i1 := i1 place hp
       simp only [Instr.fill, hp _ _ hpl]
       rw [if_neg (by simp; omega), <- i1]
       have e : ∀ (c : Array Value), c.zipIdx.foldl (fun cs (x : Value × Nat) => cs.setIfInBounds (off + x.2) x.1) cells = c.toList.zipIdx.foldl (fun cs (x : Value × Nat) => cs.setIfInBounds (off + x.2) x.1) cells := by
        intro c; rw [<- Array.foldl_toList, Array.toList_zipIdx]
       rw [<- e]
      ·cases h
     ·cases h
theorem places_spec {t : TypeId} {pl : List (Nat × Nat)} (h : placesT P t = some pl) (parts : List (Nat × Value)) (cells cells' : Array Value) {i : TypeInfo} {z : Value} (hi : P.info? t = some i) (hz : i.zero = some z) (hc : z.cells = cells)
 (hf : ∀ place : Nat -> Option (Nat × Nat), (∀ i p, pl[i]? = some p -> place i = some p) -> Instr.fill place cells parts = some cells') :
 P.built t parts = some cells' := by
 subst hc
 unfold placesT at h
 unfold Program.built
 cases hd : P.underlying t with
 | none => simp [hd] at h
 | some d =>
   cases d <;> simp only [hd] at h <;> try (cases h; done)
   case struct fs =>
    simp only [Option.ite_none_right_eq_some, Option.some.injEq] at h
    obtain ⟨hall, rfl⟩ := h
    have hm : fs.toList.mapM (fun f => (P.info? f.type).map fun i => (f.offset, i.size)) = some (fs.toList.map fun f => (f.offset, P.cellsOf f.type)) := by
     generalize fs.toList = l at hall
     clear hf
     induction l with
     | nil => rfl
     | cons f l ih =>
       simp only [List.all_cons, Bool.and_eq_true] at hall
       obtain ⟨j, hj⟩ := Option.isSome_iff_exists.1 hall.1
       simp [List.mapM_cons, ih hall.2, hj, cellsOf_info hj]
    simp only [hi, hz, hm]
    exact hf _ (by simp)
   case array n e =>
    simp only [Option.ite_none_right_eq_some, Option.some.injEq] at h
    obtain ⟨hall, rfl⟩ := h
    obtain ⟨j, hj⟩ := Option.isSome_iff_exists.1 hall
    simp only [hi, hz, hj]
    refine hf _ fun k p hp => ?_
    rw [List.getElem?_map] at hp
    simp only [Option.map_eq_some_iff] at hp
    obtain ⟨a, h1, rfl⟩ := hp
    rw [List.getElem?_range] at h1
    ·injection h1 with h1; subst h1; rw [cellsOf_info hj]
    ·rcases Nat.lt_or_ge k n with hn | hn
     ·exact hn
     ·rw [List.getElem?_eq_none (by simpa using hn)] at h1; cases h1
theorem eff_build (hH : HeapOk M φ H w) {t : TypeId} {parts : Array (Nat × Operand)} {s : S} {a : Act} (henv : ∀ i, V.den (mutB M φ H) φ H w (s.env i) (a.tmps.getD i undef))
 (h : ∃ z pl cs, zeroT P t = some z /\ placesT P t = some pl /\ fillV pl z (parts.toList.map fun p => (p.1, s.ev p.2)) = some cs /\ K (mkAgg cs) [] []) :
 Eff M φ H w fr ((do let y <- Instr.build t (parts.map fun (i, x) => (i, a.eval x)); pure (Next.value y) : Sem Next).run P w) K := by
 obtain ⟨z, pl, cs, hz, hpl, hfl, hK⟩ := h
 obtain ⟨i, zv, h1, h2, h3, h4, rfl⟩ := zeroT_spec hz
 have hd : V.dens (mutB M φ H) φ H w ((parts.toList.map fun p => (p.1, s.ev p.2)).map (·.2)) ((parts.map fun (i, x) => (i, a.eval x)).toList.map (·.2)) := by
  have := evs_den s a henv (parts.toList.map (·.2))
  simpa [Function.comp_def] using this
 have he : (parts.map fun (i, x) => (i, a.eval x)).toList.map (·.1) = (parts.toList.map fun p => (p.1, s.ev p.2)).map (·.1) := by simp [Function.comp_def]
 obtain ⟨cells', g1, g2, g3⟩ := fill_den (M := M) (φ := φ) (H := H) (w := w) pl _ _ _ cs zv.cells he hd (ofScalars_dens _ h4) h4 hfl
 have hb : P.built t (parts.map fun (i, x) => (i, a.eval x)).toList = some cells' := places_spec hpl _ zv.cells cells' h1 h2 rfl g1
 exact Eff.plain hH (.agg cells') hK (run_build w t _ cells' hb) (mkAgg_den _ _ g2 g3)
end
end Go.Proofs.YtealblliddhgiaaGreat
