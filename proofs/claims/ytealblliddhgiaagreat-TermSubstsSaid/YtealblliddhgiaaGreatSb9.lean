/-
  A PART OF THE PROOF. Conditions: none.
-/
import Derived.OrdersIn
import Derived.Test.YtealblliddhgiaaGreatSb8
set_option linter.unusedSimpArgs false
set_option linter.unusedVariables false
namespace Go.Proofs.YtealblliddhgiaaGreat
def Obj'.refs : Obj' -> List Nat
 | .row cs => V.refss cs
 | .loop _ _ env _ _ _ _ _ => V.refss env
 | _ => []
def rst (R : List Nat) (o : Nat -> Obj') : Nat -> Obj' := fun id => if R.contains id = true then o id else .no
def HCt (P : Program) (g : FuncId) (args : List V) (rd : List Nat) (o : Nat -> Obj') (out : R) (Δ : List (Nat × Obj')) : Prop :=
 Enters P g /\ ∀ (o' : Nat -> Obj') (us : Nat -> Prop) (M : Nat -> Prop) (φ : Place) (w : World) (vals : Array Value), (∀ id ∈ rd, o' id = o id /\ us id) -> HeapOk M φ ⟨o', us⟩ w -> V.dens (mutB M φ ⟨o', us⟩) φ ⟨o', us⟩ w args vals.toList ->
  Calls P g vals w fun e w' => ∃ φ', HeapOk M φ' ⟨put o' Δ, us⟩ w' /\ Trans φ ⟨o', us⟩ w φ' ⟨put o' Δ, us⟩ w' /\ out.is (mutB M φ' ⟨put o' Δ, us⟩) w' e
def HVt (P : Program) (g : FuncId) (args : List V) (rd : List Nat) (o : Nat -> Obj') (fr : Nat) (v : V) (Δ : List (Nat × Obj')) : Prop :=
 Enters P g /\ ∀ (o' : Nat -> Obj') (us : Nat -> Prop) (M : Nat -> Prop) (φ : Place) (w : World) (vals : Array Value), (∀ id ∈ rd, o' id = o id /\ us id) -> ¬ us fr -> HeapOk M φ ⟨o', us⟩ w -> V.dens (mutB M φ ⟨o', us⟩) φ ⟨o', us⟩ w args vals.toList ->
  Calls P g vals w fun e w' => ∃ φ', HeapOk M φ' ⟨put o' Δ, fun id => us id \/ id = fr⟩ w' /\ Trans φ ⟨o', us⟩ w φ' ⟨put o' Δ, fun id => us id \/ id = fr⟩ w' /\ ∃ val, e = .returned val /\ V.den (mutB M φ' ⟨put o' Δ, fun id => us id \/ id = fr⟩) φ' ⟨put o' Δ, fun id => us id \/ id = fr⟩ w' v val
mutual
theorem V.den_refs {B B' : Nat -> Prop} {φ φ' : Place} {H H' : Hp} {w : World} (hB : ∀ b, ¬ B b -> ¬ B' b) : ∀ (v : V) (val : Value), (∀ id ∈ v.refs, H'.o id = H.o id /\ φ' id = φ id /\ H'.us id) -> V.den B φ H w v val -> V.den B' φ' H' w v val
 | .d x, val, _, h => D.den_mono (w := w) (w' := w) (fun b _ hn => ⟨rfl, hB b hn⟩) x val h
 | .nils, _, _, h => h
 | .junk, _, _, _ => trivial
 | .anyb, _, _, h => h
 | .csl es, val, _, h => ⟨D.den_mono (w := w) (w' := w) (fun b _ hn => ⟨rfl, hB b hn⟩) (.sl es) val h.1, h.2⟩
 | .agg cs, val, hr, h => by
   obtain ⟨a, rfl, h1, h2⟩ := h
   exact ⟨a, rfl, V.dens_refs hB cs _ (by simpa [V.refs] using hr) h1, h2⟩
 | .tup cs, val, hr, h => by
   obtain ⟨a, rfl, h1⟩ := h
   exact ⟨a, rfl, V.dens_refs hB cs _ (by simpa [V.refs] using hr) h1⟩
 | .ptr id off, val, hr, h => by
   obtain ⟨a, b, c⟩ := hr id (by simp [V.refs])
   obtain ⟨h0, h1, h2⟩ := h
   refine ⟨h0, c, fun hrow => ?_⟩
   rw [a] at hrow
   obtain ⟨x, y, z⟩ := h2 hrow
   exact ⟨x, b.trans y, z⟩
 | .osl id ep, val, hr, h => by
   obtain ⟨a, b, c⟩ := hr id (by simp [V.refs])
   obtain ⟨h0, h1, h2⟩ := h
   refine ⟨h0, c, fun e he => ?_⟩
   rw [a] at he
   obtain ⟨x, y⟩ := h2 e he
   exact ⟨x, fun heq => (y heq).trans b.symm⟩
 | .pe id ep i sz off, val, hr, h => by
   obtain ⟨a, b, c⟩ := hr id (by simp [V.refs])
   obtain ⟨h0, h1, h2⟩ := h
   refine ⟨h0, c, fun e he => ?_⟩
   rw [a] at he
   obtain ⟨x, y⟩ := h2 e he
   refine ⟨x, fun heq => ?_⟩
   obtain ⟨p, q, r, z, u⟩ := y heq
   exact ⟨p, q, r, b.trans z, u⟩
 | .pp cs off, val, _, h => by
   obtain ⟨a, ev, h1, h2, h3, h5, h4⟩ := h
   exact ⟨a, ev, h1, h2, D.dens_mono (w := w) (w' := w) (fun b _ hn => ⟨rfl, hB b hn⟩) cs ev h3, h5, h4.mono (w := w) (w' := w) (fun b _ hn => ⟨rfl, hB b hn⟩)⟩
 | .func fn first cap, val, hr, h => by
   obtain ⟨f, c, rfl, h1, h2⟩ := h
   exact ⟨f, c, rfl, V.dens_refs hB first _ (fun id hid => hr id (by simp [V.refs, hid])) h1, V.dens_refs hB cap _ (fun id hid => hr id (by simp [V.refs, hid])) h2⟩
 | .iface t x, val, hr, h => by
   obtain ⟨u, rfl, h⟩ := h
   exact ⟨u, rfl, V.den_refs hB x u (by simpa [V.refs] using hr) h⟩
 | .rsl id off n, val, hr, h => by
   obtain ⟨a, b, c⟩ := hr id (by simp [V.refs])
   obtain ⟨h0, h1, h2⟩ := h
   refine ⟨h0, c, fun hrow => ?_⟩
   rw [a] at hrow
   obtain ⟨x, y, z⟩ := h2 hrow
   exact ⟨x, b.trans y, z⟩
 | .mp id, val, hr, h => by
   obtain ⟨a, b, c⟩ := hr id (by simp [V.refs])
   obtain ⟨h0, h1, h2⟩ := h
   refine ⟨h0, c, fun hrow => ?_⟩
   rw [a] at hrow
   exact (h2 hrow).trans b.symm
 | .yld id, val, hr, h => by
   obtain ⟨a, b, c⟩ := hr id (by simp [V.refs])
   obtain ⟨h0, h1, h2⟩ := h
   refine ⟨h0, c, fun hrow => ?_⟩
   rw [a] at hrow
   obtain ⟨x, y, z⟩ := h2 hrow
   exact ⟨x, b.trans y, z⟩
theorem V.dens_refs {B B' : Nat -> Prop} {φ φ' : Place} {H H' : Hp} {w : World} (hB : ∀ b, ¬ B b -> ¬ B' b) : ∀ (vs : List V) (vals : List Value), (∀ id ∈ V.refss vs, H'.o id = H.o id /\ φ' id = φ id /\ H'.us id) -> V.dens B φ H w vs vals -> V.dens B' φ' H' w vs vals
 | [], _, _, h => h
 | v :: vs, _, hr, h => by
   obtain ⟨u, us, rfl, h1, h2⟩ := h
   exact ⟨u, us, rfl, V.den_refs hB v u (fun id hid => hr id (by simp [V.refss, hid])) h1, V.dens_refs hB vs us (fun id hid => hr id (by simp [V.refss, hid])) h2⟩
end
theorem envJ_refs {env : List V} {i id : Nat} (h : id ∈ (envJ env i).refs) : id ∈ V.refss env := by
 unfold envJ at h
 induction env generalizing i with
 | nil => simp [V.refs] at h
 | cons v env ih =>
   cases i with
   | zero => simp only [List.getD_cons_zero] at h; simp [V.refss, h]
   | succ i => simp only [List.getD_cons_succ] at h; simp [V.refss, ih h]
theorem ObjOk.refs {M M' : Nat -> Prop} {φ φ' : Place} {H H' : Hp} {w : World} {id : Nat} (hB : ∀ b, ¬ mutB M φ H b -> ¬ mutB M' φ' H' b) (ho : H'.o id = H.o id) (hφ : φ' id = φ id)
 (hr : ∀ j ∈ (H.o id).refs, H'.o j = H.o j /\ φ' j = φ j /\ H'.us j) (h : ObjOk M φ H w id) : ObjOk M' φ' H' w id := by
 have hd : ∀ b, Cellish w b -> ¬ mutB M φ H b -> w.heap[b]? = w.heap[b]? /\ ¬ mutB M' φ' H' b := fun b _ hn => ⟨rfl, hB b hn⟩
 unfold ObjOk at *
 rw [ho]
 cases hx : H.o id with
 | no => trivial
 | row cs =>
   simp only [hx] at h ⊢
   obtain ⟨b, carr, ty, h1, h2, h3, h4⟩ := h
   exact ⟨b, carr, ty, hφ.trans h1, h2, V.dens_refs hB cs _ (fun j hj => hr j (by rw [hx]; exact hj)) h3, h4⟩
 | arr ep ty sz es =>
   simp only [hx] at h ⊢
   obtain ⟨h0, xs, h1, evs, h2, h3, h4⟩ := h
   exact ⟨h0, xs, by rw [hφ]; exact h1, evs, h2, h3, D.dens_mono hd es evs h4⟩
 | fro ep es =>
   simp only [hx] at h ⊢
   rw [hφ]
   exact D.den_mono hd (.sl es) _ h
 | map kt vt l =>
   simp only [hx] at h ⊢
   obtain ⟨b, es, clock, h1, h2, h4, h3⟩ := h
   exact ⟨b, es, clock, hφ.trans h1, h2, h4, EntsDen.mono hd l _ h3⟩
 | mfro l =>
   simp only [hx] at h ⊢
   rw [hφ]
   exact D.den_mono hd (.mp _ _) _ h
 | mit l last =>
   simp only [hx] at h ⊢
   obtain ⟨b, h1, h2⟩ := h
   exact ⟨b, hφ.trans h1, h2.mono hd rfl⟩
 | sit s pos =>
   simp only [hx] at h ⊢
   obtain ⟨b, h1, h2⟩ := h
   exact ⟨b, hφ.trans h1, h2⟩
 | loop nf n env ps ica icb st pend =>
   simp only [hx] at h ⊢
   obtain ⟨b, r, h1, h2, h0, h3, h4, h5, h6, h7, h8, h9⟩ := h
   exact ⟨b, r, hφ.trans h1, h2, h0, h3, h4, h5, h6, h7, h8, fun i => V.den_refs hB _ _ (fun j hj => hr j (by rw [hx]; exact envJ_refs hj)) (h9 i)⟩
section
variable {P : Program}
theorem put_of_mem {o o' : Nat -> Obj'} {Δ : List (Nat × Obj')} {id : Nat} (h : o id = o' id) : put o Δ id = put o' Δ id := put_in' h
where put_in' {o o' : Nat -> Obj'} : ∀ {Δ : List (Nat × Obj')} {id : Nat}, o id = o' id -> put o Δ id = put o' Δ id
 | [], _, h => h
 | x :: Δ, id, h => by
   simp only [put, List.foldl_cons]
   refine put_in' (Δ := Δ) (o := upd o x.1 x.2) (o' := upd o' x.1 x.2) ?_
   simp only [upd_apply]
   split
   ·rfl
   ·exact h
theorem put_not {o : Nat -> Obj'} : ∀ {Δ : List (Nat × Obj')} {id : Nat}, (∀ x ∈ Δ, x.1 ≠ id) -> put o Δ id = o id
 | [], _, _ => rfl
 | x :: Δ, id, h => by
   have := put_not (o := upd o x.1 x.2) (Δ := Δ) (id := id) (fun y hy => h y (by simp [hy]))
   simp only [put, List.foldl_cons] at this ⊢
   rw [this]; simp [Ne.symm (h x (by simp))]
theorem HCt.of_ctk {g : FuncId} {args : List V} {rd : List Nat} {o : Nat -> Obj'} {nx : Nat} {out : R} {Δ : List (Nat × Obj')} (hnx : ∀ id ∈ rd, id < nx) (hargs : ∀ id ∈ V.refss args, id ∈ rd) (hcl : ∀ id ∈ rd, ∀ j ∈ (o id).refs, j ∈ rd) (hΔ : ∀ x ∈ Δ, x.1 ∈ rd) (hcl2 : ∀ x ∈ Δ, ∀ j ∈ x.2.refs, j ∈ rd)
 (h : CtK P g args (rst rd o) nx
  (fun v o1 _ => (∀ id ∈ rd, o1 id = put o Δ id) /\ ∃ vs rs, v = (match vs with | [v] => v | vs => .tup vs) /\ toDs o1 vs = some rs /\ out = .ret rs /\ ∀ id ∈ V.idss vs, id ∉ rd)
  (fun v o1 _ => (∀ id ∈ rd, o1 id = put o Δ id) /\ ∃ x, toD o1 v = some x /\ out = .pan x /\ ∀ id ∈ v.ids, id ∉ rd)) : HCt P g args rd o out Δ := by
 refine ⟨h.1, fun o' us M φ w vals ho hH hd => ?_⟩
 let M1 : Nat -> Prop := fun b => M b \/ ∃ id, id ∉ rd /\ (o' id).live = true /\ blk (φ id) = some b
 let HR : Hp := hp (rst rd o) nx
 have hrst : ∀ id, id ∈ rd -> rst rd o id = o' id := fun id hid => by simp [rst, hid, (ho id hid).1]
 have hrst' : ∀ id, id ∉ rd -> rst rd o id = .no := fun id hid => by simp [rst, hid]
 have hB : ∀ b, mutB M1 φ HR b ↔ mutB M φ ⟨o', us⟩ b := by
  intro b
  constructor
  ·rintro ((h | ⟨id, h1, h2, h3⟩) | ⟨id, h1, h2⟩)
   ·exact .inl h
   ·exact .inr ⟨id, h2, h3⟩
   ·by_cases hid : id ∈ rd
    ·exact .inr ⟨id, by show (o' id).live = true; rw [<- hrst id hid]; exact h1, h2⟩
    ·have : HR.o id = .no := hrst' id hid
     rw [this] at h1; cases h1
  ·rintro (h | ⟨id, h1, h2⟩)
   ·exact .inl (.inl h)
   ·by_cases hid : id ∈ rd
    ·exact .inr ⟨id, by show (rst rd o id).live = true; rw [hrst id hid]; exact h1, h2⟩
    ·exact .inl (.inr ⟨id, hid, h1, h2⟩)
 have hin : ∀ id ∈ rd, HR.o id = o' id /\ φ id = φ id /\ HR.us id := fun id hid => ⟨hrst id hid, rfl, hnx id hid⟩
 have hHR : HeapOk M1 φ HR w := by
  refine ⟨fun id => ?_, fun id hn => ?_, fun i j b hi hj bi bj => ?_, fun b hb => ?_, fun b hb => ?_⟩
  ·by_cases hid : id ∈ rd
   ·refine ObjOk.refs (H := ⟨o', us⟩) (M := M) (φ := φ) (fun b hn hb => hn ((hB b).1 hb)) (hrst id hid) rfl (fun j hj => hin j ?_) (hH.ok id)
    have : o' id = o id := (ho id hid).1
    exact hcl id hid j (by rw [<- this]; exact hj)
   ·unfold ObjOk
    rw [show HR.o id = .no from hrst' id hid]; trivial
  ·exact hrst' id fun hid => hn (hnx id hid)
  ·have live : ∀ i, (HR.o i).live = true -> i ∈ rd /\ (o' i).live = true := fun i hi => by
    by_cases hid : i ∈ rd
    ·exact ⟨hid, by rw [<- hrst i hid]; exact hi⟩
    ·rw [show HR.o i = .no from hrst' i hid] at hi; cases hi
   exact hH.apart i j b (live i hi).2 (live j hj).2 bi bj
  ·obtain ⟨id, h1, h2⟩ := hb
   have hid : id ∈ rd := by
    by_cases hid : id ∈ rd
    ·exact hid
    ·rw [show HR.o id = .no from hrst' id hid] at h1; cases h1
   rw [show HR.o id = o' id from hrst id hid] at h1
   obtain ⟨k1, k2⟩ := hH.ours b ⟨id, h1, h2⟩
   refine ⟨?_, k2⟩
   rintro (hM | ⟨j, j1, j2, j3⟩)
   ·exact k1 hM
   ·exact j1 (hH.apart j id b j2 h1 j3 h2 ▸ hid)
  ·rcases hb with hb | ⟨id, h1, h2, h3⟩
   ·exact hH.old b hb
   ·exact (hH.ours b ⟨id, h2, h3⟩).2
 have hdR : V.dens (mutB M1 φ HR) φ HR w args vals.toList := V.dens_refs (H := ⟨o', us⟩) (fun b hn hb => hn ((hB b).1 hb)) _ _ (fun id hid => hin id (hargs id hid)) hd
 refine (h.2 M1 φ w vals hHR hdR).mono ?_
 rintro e w' ⟨φ1, o1, nx1, v, k1, k2, k3⟩
 have main : (∀ id ∈ rd, o1 id = put o Δ id) -> ∃ φ', HeapOk M φ' ⟨put o' Δ, us⟩ w' /\ Trans φ ⟨o', us⟩ w φ' ⟨put o' Δ, us⟩ w' /\ ∀ b, mutB M φ' ⟨put o' Δ, us⟩ b -> M1 b \/ ∃ id ∈ rd, (o1 id).live = true /\ blk (φ1 id) = some b := by
  intro ho1
  have hp1 : ∀ id ∈ rd, put o' Δ id = o1 id := fun id hid => (put_of_mem (ho id hid).1).trans (ho1 id hid).symm
  have hp2 : ∀ id, id ∉ rd -> put o' Δ id = o' id := fun id hid => put_not fun x hx e => hid (e ▸ hΔ x hx)
  let φ2 : Place := fun id => if id ∈ rd then φ1 id else φ id
  have hφ1 : ∀ id ∈ rd, φ2 id = φ1 id := fun id hid => if_pos hid
  have hφ2 : ∀ id, id ∉ rd -> φ2 id = φ id := fun id hid => if_neg hid
  let H2 : Hp := ⟨put o' Δ, us⟩
  have hlive : ∀ b, liveB φ2 H2 b -> (∃ id ∈ rd, (o1 id).live = true /\ blk (φ1 id) = some b) \/ ∃ id, id ∉ rd /\ (o' id).live = true /\ blk (φ id) = some b := by
   rintro b ⟨id, h1, h2⟩
   by_cases hid : id ∈ rd
   ·exact .inl ⟨id, hid, by rw [<- hp1 id hid]; exact h1, by rw [<- hφ1 id hid]; exact h2⟩
   ·exact .inr ⟨id, hid, by rw [<- hp2 id hid]; exact h1, by rw [<- hφ2 id hid]; exact h2⟩
  have hB2 : ∀ b, mutB M φ2 H2 b -> mutB M1 φ1 (hp o1 nx1) b := by
   rintro b (hb | hb)
   ·exact .inl (.inl hb)
   ·rcases hlive b hb with ⟨id, h1, h2, h3⟩ | ⟨id, h1, h2, h3⟩
    ·exact .inr ⟨id, h2, h3⟩
    ·exact .inl (.inr ⟨id, h1, h2, h3⟩)
  have hrel : StepRel φ ⟨o', us⟩ φ2 H2 := by
   refine ⟨fun id h => h, fun id hu hr => ?_, fun id e' hu he => ?_⟩
   ·by_cases hid : id ∈ rd
    ·rw [show H2.o id = o1 id from hp1 id hid] at hr
     obtain ⟨a, b⟩ := k2.rel.row id (hnx id hid) hr
     rw [show HR.o id = o' id from hrst id hid] at a
     exact ⟨a, (hφ1 id hid).trans b⟩
    ·rw [show H2.o id = o' id from hp2 id hid] at hr
     exact ⟨hr, hφ2 id hid⟩
   ·by_cases hid : id ∈ rd
    ·rw [show H2.o id = o1 id from hp1 id hid] at he
     obtain ⟨e0, a, b, c⟩ := k2.rel.ep id e' (hnx id hid) he
     rw [show HR.o id = o' id from hrst id hid] at a
     exact ⟨e0, a, b, fun heq => (hφ1 id hid).trans (c heq)⟩
    ·rw [show H2.o id = o' id from hp2 id hid] at he
     exact ⟨e', he, Nat.le_refl _, fun _ => hφ2 id hid⟩
  have hbl : ∀ b, Cellish w b -> ¬ mutB M φ ⟨o', us⟩ b -> w'.heap[b]? = w.heap[b]? /\ ¬ mutB M φ2 H2 b := by
   intro b hc hn
   obtain ⟨a, c⟩ := k2.blocks (M := M1) b hc (fun hb => hn ((hB b).1 hb))
   exact ⟨a, fun hb => c (hB2 b hb)⟩
  have hnl : ∀ b, b < w.heap.size -> ¬ liveB φ HR b -> w'.heap[b]? = w.heap[b]? := fun b hb hl => k2.keep.block b hb hl
  have ht : Trans φ ⟨o', us⟩ w φ2 H2 w' := by
   refine ⟨⟨k2.keep.os, k2.keep.tape, k2.keep.output, k2.keep.size, fun b hb hl => hnl b hb fun ⟨id, h1, h2⟩ => hl ?_⟩, fun b hb => ?_, hrel⟩
   ·by_cases hid : id ∈ rd
    ·exact ⟨id, by show (o' id).live = true; rw [<- hrst id hid]; exact h1, h2⟩
    ·rw [show HR.o id = .no from hrst' id hid] at h1; cases h1
   ·rcases hlive b hb with ⟨id, h1, h2, h3⟩ | ⟨id, h1, h2, h3⟩
    ·rcases k2.grow b ⟨id, h2, h3⟩ with ⟨j, j1, j2⟩ | hge
     ·by_cases hid : j ∈ rd
      ·exact .inl ⟨j, by show (o' j).live = true; rw [<- hrst j hid]; exact j1, j2⟩
      ·rw [show HR.o j = .no from hrst' j hid] at j1; cases j1
     ·exact .inr hge
    ·exact .inl ⟨id, h2, h3⟩
  refine ⟨φ2, ⟨fun id => ?_, fun id hn => ?_, fun i j b hi hj bi bj => ?_, fun b hb => ?_, fun b hb => Nat.lt_of_lt_of_le (hH.old b hb) k2.keep.size⟩, ht, fun b hb => ?_⟩
  ·by_cases hid : id ∈ rd
   ·refine ObjOk.refs (H := hp o1 nx1) (M := M1) (φ := φ1) (fun b hn hb => hn (hB2 b hb)) (hp1 id hid) (hφ1 id hid) (fun j hj => ?_) (k1.ok id)
    have hj' : j ∈ rd := by
     have e1 : o1 id = put o Δ id := ho1 id hid
     have hj : j ∈ (put o Δ id).refs := by rw [<- e1]; exact hj
     have key : ∀ (Δ' : List (Nat × Obj')) (q : Nat -> Obj'), (∀ x ∈ Δ', ∀ j ∈ x.2.refs, j ∈ rd) -> (∀ j ∈ (q id).refs, j ∈ rd) -> ∀ j ∈ (put q Δ' id).refs, j ∈ rd := by
      intro Δ'
      induction Δ' with
      | nil => intro q _ h2; exact h2
      | cons x Δ' ih =>
        intro q h1 h2
        simp only [put, List.foldl_cons]
        refine ih (upd q x.1 x.2) (fun y hy => h1 y (by simp [hy])) ?_
        simp only [upd_apply]
        split
        ·exact h1 x (by simp)
        ·exact h2
     exact key Δ o hcl2 (hcl id hid) j hj
    exact ⟨hp1 j hj', hφ1 j hj', (ho j hj').2⟩
   ·exact ObjOk.mono' hbl hrel (hp2 id hid) (hφ2 id hid) (fun hl b hb => hnl b (hH.ours b ⟨id, hl, hb⟩).2 fun ⟨j, j1, j2⟩ => by
     by_cases hj : j ∈ rd
     ·rw [show HR.o j = o' j from hrst j hj] at j1
      exact hid (hH.apart id j b hl j1 hb j2 ▸ hj)
     ·rw [show HR.o j = .no from hrst' j hj] at j1; cases j1) (hH.ok id)
  ·have hid : id ∉ rd := fun hid => hn (ho id hid).2
   exact (hp2 id hid).trans (hH.fresh id hn)
  ·by_cases e1 : i ∈ rd <;> by_cases e2 : j ∈ rd
   ·refine k1.apart i j b ?_ ?_ (by rw [<- hφ1 i e1]; exact bi) (by rw [<- hφ1 j e2]; exact bj)
    ·show (o1 i).live = true; rw [<- hp1 i e1]; exact hi
    ·show (o1 j).live = true; rw [<- hp1 j e2]; exact hj
   ·exfalso
    refine (k1.ours b ⟨i, by show (o1 i).live = true; rw [<- hp1 i e1]; exact hi, by rw [<- hφ1 i e1]; exact bi⟩).1 (.inr ⟨j, e2, by rw [<- hp2 j e2]; exact hj, by rw [<- hφ2 j e2]; exact bj⟩)
   ·exfalso
    refine (k1.ours b ⟨j, by show (o1 j).live = true; rw [<- hp1 j e2]; exact hj, by rw [<- hφ1 j e2]; exact bj⟩).1 (.inr ⟨i, e1, by rw [<- hp2 i e1]; exact hi, by rw [<- hφ2 i e1]; exact bi⟩)
   ·exact hH.apart i j b (by show (o' i).live = true; rw [<- hp2 i e1]; exact hi) (by show (o' j).live = true; rw [<- hp2 j e2]; exact hj) (by rw [<- hφ2 i e1]; exact bi) (by rw [<- hφ2 j e2]; exact bj)
  ·rcases hlive b hb with ⟨id, h1, h2, h3⟩ | ⟨id, h1, h2, h3⟩
   ·obtain ⟨a, c⟩ := k1.ours b ⟨id, h2, h3⟩
    exact ⟨fun hM => a (.inl hM), c⟩
   ·obtain ⟨a, c⟩ := hH.ours b ⟨id, h2, h3⟩
    exact ⟨a, Nat.lt_of_lt_of_le c k2.keep.size⟩
  ·rcases hb with hb | hb
   ·exact .inl (.inl hb)
   ·rcases hlive b hb with h | h
    ·exact .inr h
    ·exact .inl (.inr h)
 have res : ∀ (vs : List V) (xs : List D) (us' : List Value), (∀ id ∈ rd, o1 id = put o Δ id) -> toDs o1 vs = some xs -> (∀ id ∈ V.idss vs, id ∉ rd) -> V.dens (mutB M1 φ1 (hp o1 nx1)) φ1 (hp o1 nx1) w' vs us' ->
  ∃ φ', HeapOk M φ' ⟨put o' Δ, us⟩ w' /\ Trans φ ⟨o', us⟩ w φ' ⟨put o' Δ, us⟩ w' /\ D.dens (mutB M φ' ⟨put o' Δ, us⟩) w' xs us' := by
  intro vs xs us' ho1 h1 hdis h2
  obtain ⟨f1, f2, f3, f4, f5⟩ := freezes k1 (V.idss vs) (idss_used vs _ h2)
  have h3 := toDs_den f1 vs xs us' f3 h1 (V.dens_mono f2 _ _ h2)
  obtain ⟨φ', m1, m2, m3⟩ := main ho1
  refine ⟨φ', m1, m2, D.dens_mono (w := w') (w' := w') (fun b _ hn => ⟨rfl, fun hb => hn ?_⟩) xs us' h3⟩
  rcases m3 b hb with hb | ⟨id, i1, i2, i3⟩
  ·exact .inl hb
  ·exact .inr ⟨id, by rw [f4 id fun hm => hdis id hm i1]; exact i2, i3⟩
 cases e with
 | outgrown => exact k3.elim
 | panicked ch =>
   obtain ⟨val, rfl, g1, ho1, x, g2, rfl, g3⟩ := k3
   obtain ⟨φ', m1, m2, m3⟩ := res [v] [x] [val] ho1 (by simp [toDs, g2]) (by simpa [V.idss] using g3) ⟨val, [], rfl, g1, rfl⟩
   obtain ⟨u, us2, he, h2, _⟩ := m3
   simp at he; obtain ⟨rfl, rfl⟩ := he
   exact ⟨φ', m1, m2, val, rfl, h2⟩
 | returned val =>
   obtain ⟨g1, ho1, vs, rs, rfl, g2, rfl, g3⟩ := k3
   match vs, g1, g2, g3 with
   | [], g1, g2, g3 =>
     obtain ⟨arr, rfl, hv⟩ := g1
     simp only [toDs, Option.some.injEq] at g2; subst g2
     obtain ⟨φ', m1, m2, m3⟩ := res [] [] arr.toList ho1 rfl (by simp [V.idss]) hv
     exact ⟨φ', m1, m2, arr, rfl, m3⟩
   | [v], g1, g2, g3 =>
     obtain ⟨φ', m1, m2, m3⟩ := res [v] rs [val] ho1 g2 g3 ⟨val, [], rfl, g1, rfl⟩
     refine ⟨φ', m1, m2, ?_⟩
     cases rs with
     | nil => cases m3
     | cons x l =>
       obtain ⟨u, us2, he, h2, h3⟩ := m3
       simp at he; obtain ⟨rfl, rfl⟩ := he
       cases l with
       | nil => exact h2
       | cons y l => obtain ⟨_, _, h, _⟩ := h3; cases h
   | v :: v2 :: l, g1, g2, g3 =>
     obtain ⟨arr, rfl, hv⟩ := g1
     obtain ⟨φ', m1, m2, m3⟩ := res (v :: v2 :: l) rs arr.toList ho1 g2 g3 hv
     refine ⟨φ', m1, m2, ?_⟩
     have hl := D.dens_length _ _ m3
     have hl2 := V.dens_length _ _ hv
     match rs, hl, m3 with
     | [], hl, _ => rw [hl2] at hl; simp at hl
     | [x], hl, _ => rw [hl2] at hl; simp at hl
     | x :: y :: l, _, m3 => exact ⟨arr, rfl, m3⟩
end
end Go.Proofs.YtealblliddhgiaaGreat
namespace Go.Proofs.YtealblliddhgiaaGreat
inductive ActR where
 | skip | val (v : V) (Δ : List (Nat × Obj')) (rd : List Nat) | pan (v : V) (ws rd : List Nat) | blk
 deriving Inhabited
def ActR.ok : ActR -> Bool
 | .skip | .val .. => true
 | _ => false
def apA (dst : Option Tmp) (x : ActR) (s : S) : S :=
 match x with
 | .skip => ⟨putE s.env dst (.tup []), s.o, s.nx⟩
 | .val v Δ _ => ⟨putE s.env dst v, put s.o Δ, s.nx⟩
 | .pan .. | .blk => ⟨putE s.env dst .junk, s.o, s.nx⟩
def actW : ActR -> List Nat
 | .val _ Δ _ => Δ.map (·.1)
 | _ => []
def actR : ActR -> List Nat
 | .val _ _ rd => rd
 | .pan _ _ rd => rd
 | _ => []
def PVt (P : Program) (g : FuncId) (ds : List D) (v : V) : Prop :=
 Enters P g /\ ∀ (M : Nat -> Prop) (w : World) (vals : Array Value), (∀ b, M b -> b < w.heap.size) -> D.dens M w ds vals.toList ->
  Calls P g vals w fun e w' => Keep (fun _ => False) w w' /\ ∃ val, e = .returned val /\ ∀ φ H, V.den M φ H w' v val
theorem PVt.of_ctk {P : Program} {g : FuncId} {ds : List D} {v : V} (hr : v.refs = []) (h : CtK P g (ds.map .d) (fun _ => .no) 0 (fun v' _ _ => v' = v) (fun _ _ _ => False)) : PVt P g ds v := by
 refine ⟨h.1, fun M w vals hM hd => ?_⟩
 let φ0 : Place := fun _ => .nilFunc
 have hnl : ∀ b, ¬ liveB φ0 (hp (fun _ => .no) 0) b := by rintro b ⟨id, hl, _⟩; simp [hp, Obj'.live] at hl
 refine (h.2 M φ0 w vals (emptyHeap φ0 hM) ((V.dens_map_d _ _).2 (D.dens_mono (w := w) (w' := w) (B := M) (fun b _ hB => ⟨rfl, fun h => h.elim hB (hnl b)⟩) _ _ hd))).mono ?_
 rintro e w' ⟨φ', o', nx', v', k1, k2, k3⟩
 refine ⟨⟨k2.keep.os, k2.keep.tape, k2.keep.output, k2.keep.size, fun k hk _ => k2.keep.block k hk (hnl k)⟩, ?_⟩
 cases e with
 | outgrown => exact k3.elim
 | panicked ch => obtain ⟨_, _, _, h⟩ := k3; exact h.elim
 | returned val =>
   obtain ⟨g1, rfl⟩ := k3
   exact ⟨val, rfl, fun φ H => V.den_refs (B := mutB M φ' (hp o' nx')) (φ := φ') (H := hp o' nx') (fun b hb hm => hb (.inl hm)) v' val (fun id hid => by rw [hr] at hid; cases hid) g1⟩
def StepA (P : Program) (s : S) (fr : Nat) (op : Op) (v : V) (Δ : List (Nat × Obj')) (rd : List Nat) : Prop :=
 ((∃ rd', sopF P s fr op = some (v, Δ, rd')) /\ rd = opR s op) \/
 (∃ c f g first cap, op = .call c /\ c.callee = .value f /\ s.ev f = .func (.func g) first cap /\
  ((∃ ds rs, toDs s.o (first ++ c.args.toList.map s.ev ++ cap) = some ds /\ PCt P g ds (.ret rs) /\ v = retV rs /\ rd = opR s op /\
   (Δ = frz s.o (V.idss (first ++ c.args.toList.map s.ev ++ cap)) \/ D.flats rs = true /\ Δ = [])) \/
   (∃ rs, HCt P g (first ++ c.args.toList.map s.ev ++ cap) rd s.o (.ret rs) Δ /\ v = retV rs /\ ∀ id ∈ rd, id < s.nx) \/
   (∃ ds, toDs s.o (first ++ c.args.toList.map s.ev ++ cap) = some ds /\ PVt P g ds v /\ rd = opR s op /\ Δ = frz s.o (V.idss (first ++ c.args.toList.map s.ev ++ cap))) \/
   (HVt P g (first ++ c.args.toList.map s.ev ++ cap) rd s.o fr v Δ /\ ∀ id ∈ rd, id < s.nx)))
def StepP (P : Program) (s : S) (op : Op) (v : V) (ws rd : List Nat) : Prop :=
 ∃ c f g first cap, op = .call c /\ c.callee = .value f /\ s.ev f = .func (.func g) first cap /\
  ((∃ ds x, toDs s.o (first ++ c.args.toList.map s.ev ++ cap) = some ds /\ PCt P g ds (.pan x) /\ x.flat = true /\ v = .d x /\ rd = opR s op /\ ws = []) \/
   (∃ x Δ, HCt P g (first ++ c.args.toList.map s.ev ++ cap) rd s.o (.pan x) Δ /\ v = .d x /\ ws = Δ.map (·.1) /\ ∀ id ∈ rd, id < s.nx))
def guardIs (s : S) (gd : Option (Nat × Bool)) (b : Bool) : Prop :=
 match gd with
 | none => b = true
 | some (d, want) => match s.env d with
   | .d (.bool c) => b = (c == want)
   | .tup [] => b = false
   | _ => False
def OkA (P : Program) (s : S) (fr : Nat) (o : IOp) (x : ActR) : Prop :=
 match x with
 | .skip => guardIs s o.gd false
 | .val v Δ rd => guardIs s o.gd true /\ StepA P s fr o.op v Δ rd
 | .pan v ws rd => guardIs s o.gd true /\ StepP P s o.op v ws rd
 | .blk => True
def stF (oc : Nat -> IOp) (ac : Nat -> ActR) (E : Nat -> Bool) (s : S) : Nat -> S
 | 0 => s
 | k + 1 => if E k then apA (oc k).dst (ac k) (stF oc ac E s k) else stF oc ac E s k
structure Compat (oc : Nat -> IOp) (ac : Nat -> ActR) (R : Nat -> List Nat) (i j : Nat) : Prop where
 di : ∀ d, (oc i).dst = some d -> d ∉ touches (oc j)
 dj : ∀ d, (oc j).dst = some d -> d ∉ touches (oc i)
 wi : ∀ id ∈ actW (ac i), id ∉ R j /\ id ∉ actW (ac j)
 wj : ∀ id ∈ actW (ac j), id ∉ R i
section
variable {P : Program} {oc : Nat -> IOp} {ac : Nat -> ActR} {s : S} {n : Nat} {E : Nat -> Bool} {R : Nat -> List Nat} {pr : Nat -> Nat -> Prop}
theorem putE_other {env : Nat -> V} {dst : Option Tmp} {v : V} {t : Nat} (h : ∀ d, dst = some d -> d ≠ t) : putE env dst v t = env t := by
 cases dst with
 | none => rfl
 | some d => simp only [putE, upd_apply]; rw [if_neg (fun e => h d rfl e.symm)]
theorem put_other {o : Nat -> Obj'} : ∀ {Δ : List (Nat × Obj')} {id : Nat}, id ∉ Δ.map (·.1) -> put o Δ id = o id
 | [], _, _ => rfl
 | x :: Δ, id, h => by
   simp only [List.map_cons, List.mem_cons, not_or] at h
   have := put_other (o := upd o x.1 x.2) (Δ := Δ) h.2
   simp only [put, List.foldl_cons] at this ⊢
   rw [this]; simp [h.1]
theorem put_in {o o' : Nat -> Obj'} : ∀ {Δ : List (Nat × Obj')} {id : Nat}, id ∈ Δ.map (·.1) \/ o id = o' id -> put o Δ id = put o' Δ id
 | [], _, h => by rcases h with h | h; · simp at h
                  ·exact h
 | x :: Δ, id, h => by
   simp only [put, List.foldl_cons]
   refine put_in (Δ := Δ) (o := upd o x.1 x.2) (o' := upd o' x.1 x.2) ?_
   simp only [List.map_cons, List.mem_cons] at h
   simp only [upd_apply]
   by_cases e : id = x.1
   ·right; simp [e]
   ·rcases h with (h | h) | h
    ·exact absurd h e
    ·exact .inl h
    ·right; simp [e, h]
theorem apA_env_other {dst : Option Tmp} {x : ActR} {t : Nat} (h : ∀ d, dst = some d -> d ≠ t) : (apA dst x s).env t = s.env t := by
 cases x <;> exact putE_other h
theorem apA_o_other {dst : Option Tmp} {x : ActR} {id : Nat} (h : id ∉ actW x) : (apA dst x s).o id = s.o id := by
 cases x with
 | val v Δ rd => exact put_other h
 | _ => rfl
theorem apA_env_same {dst : Option Tmp} {x : ActR} {s' : S} {t : Nat} (h : s.env t = s'.env t) : (apA dst x s).env t = (apA dst x s').env t := by
 cases x <;> cases dst <;> simp only [apA, putE, upd_apply] <;> first | exact h | (split <;> first | rfl | exact h)
theorem apA_o_same {dst : Option Tmp} {x : ActR} {s' : S} {id : Nat} (h : s.o id = s'.o id) : (apA dst x s).o id = (apA dst x s').o id := by
 cases x with
 | val v Δ rd => exact put_in (.inr h)
 | _ => exact h
theorem put_comm {o : Nat -> Obj'} {Δ Δ' : List (Nat × Obj')} (h : ∀ id ∈ Δ.map (·.1), id ∉ Δ'.map (·.1)) : put (put o Δ) Δ' = put (put o Δ') Δ := by
 funext id
 by_cases h1 : id ∈ Δ.map (·.1)
 ·rw [put_other (h id h1)]
  exact put_in (.inl h1)
 ·rw [put_other (Δ := Δ) h1]
  by_cases h2 : id ∈ Δ'.map (·.1)
  ·exact put_in (.inl h2)
  ·rw [put_other h2, put_other h2, put_other h1]
theorem putE_comm {env : Nat -> V} {d d' : Option Tmp} {v v' : V} (h : ∀ t, d = some t -> d' ≠ some t) : putE (putE env d v) d' v' = putE (putE env d' v') d v := by
 cases d with
 | none => rfl
 | some t =>
   cases d' with
   | none => rfl
   | some t' =>
     have hne : t' ≠ t := fun e => h t rfl (by rw [e])
     funext i
     simp only [putE, upd_apply]
     by_cases e1 : i = t <;> by_cases e2 : i = t'
     ·exact absurd (e2.symm.trans e1) hne
     all_goals simp [e1, e2]
     ·intro e; exact absurd e.symm hne
     ·intro e; exact absurd e hne
theorem apA_comm {d d' : Option Tmp} {x x' : ActR} (hd : ∀ t, d = some t -> d' ≠ some t) (hw : ∀ id ∈ actW x, id ∉ actW x') : apA d x (apA d' x' s) = apA d' x' (apA d x s) := by
 cases x <;> cases x' <;> simp only [apA] <;> first
  | rw [putE_comm hd, put_comm hw]
  | rw [putE_comm hd]
def Closed (n : Nat) (pr : Nat -> Nat -> Prop) (E : Nat -> Bool) : Prop := ∀ k, k < n -> E k = true -> ∀ j, pr k j -> E j = true
theorem agree (_ : ∀ k, k < n -> ∀ j, pr k j -> j < k) (hc : ∀ i j, i < j -> j < n -> ¬ pr j i -> Compat oc ac R i j) (hE : Closed n pr E) {i : Nat} (hi : i < n) (hni : E i = false) (hpi : ∀ j, pr i j -> E j = true) :
 (∀ t ∈ touches (oc i), (stF oc ac E s n).env t = (stF oc ac (fun _ => true) s i).env t) /\ (∀ id ∈ R i, (stF oc ac E s n).o id = (stF oc ac (fun _ => true) s i).o id) := by
 have a : ∀ k, k <= i -> (∀ t ∈ touches (oc i), (stF oc ac E s k).env t = (stF oc ac (fun _ => true) s k).env t) /\ (∀ id ∈ R i, (stF oc ac E s k).o id = (stF oc ac (fun _ => true) s k).o id) := by
  intro k
  induction k with
  | zero => intro _; exact ⟨fun _ _ => rfl, fun _ _ => rfl⟩
  | succ k ih =>
    intro hk
    obtain ⟨h1, h2⟩ := ih (by omega)
    simp only [stF, if_true]
    by_cases hek : E k = true
    ·simp only [hek, if_true]
     exact ⟨fun t ht => apA_env_same (h1 t ht), fun id hid => apA_o_same (h2 id hid)⟩
    ·have hnp : ¬ pr i k := fun hm => hek (hpi k hm)
     have c := hc k i (by omega) hi hnp
     simp only [hek]
     refine ⟨fun t ht => ?_, fun id hid => ?_⟩
     ·rw [apA_env_other fun d hd e => c.di d hd (e ▸ ht)]; exact h1 t ht
     ·rw [apA_o_other fun hm => (c.wi id hm).1 hid]; exact h2 id hid
 have b : ∀ k, i <= k -> k <= n -> (∀ t ∈ touches (oc i), (stF oc ac E s k).env t = (stF oc ac (fun _ => true) s i).env t) /\ (∀ id ∈ R i, (stF oc ac E s k).o id = (stF oc ac (fun _ => true) s i).o id) := by
  intro k hik
  induction hik with
  | refl => intro _; exact a i (Nat.le_refl _)
  | @step k hik ih =>
    intro hk
    have hik : i <= k := hik
    obtain ⟨h1, h2⟩ := ih (by omega)
    simp only [stF]
    by_cases hek : E k = true
    ·have hne : i ≠ k := fun e => by rw [e, hek] at hni; cases hni
     have hnp : ¬ pr k i := fun hm => by have := hE k (by omega) hek i hm; rw [hni] at this; cases this
     have c := hc i k (by omega) (by omega) hnp
     simp only [hek, if_true]
     refine ⟨fun t ht => ?_, fun id hid => ?_⟩
     ·rw [apA_env_other fun d hd e => c.dj d hd (e ▸ ht)]; exact h1 t ht
     ·rw [apA_o_other fun hm => c.wj id hm hid]; exact h2 id hid
    ·simp only [hek]; exact ⟨h1, h2⟩
 exact b n (by omega) (Nat.le_refl _)
theorem insert (hc : ∀ i j, i < j -> j < n -> ¬ pr j i -> Compat oc ac R i j) (hE : Closed n pr E) {i : Nat} (hi : i < n) (hni : E i = false) {E' : Nat -> Bool} (hE' : ∀ k, E' k = (E k || k == i)) :
 stF oc ac E' s n = apA (oc i).dst (ac i) (stF oc ac E s n) := by
 have a : ∀ k, k <= i -> stF oc ac E' s k = stF oc ac E s k := by
  intro k
  induction k with
  | zero => intro _; rfl
  | succ k ih =>
    intro hk
    have : E' k = E k := by rw [hE' k]; have : (k == i) = false := by simp; omega
                            simp [this]
    simp only [stF, this, ih (by omega)]
 have b : ∀ k, i + 1 <= k -> k <= n -> stF oc ac E' s k = apA (oc i).dst (ac i) (stF oc ac E s k) := by
  intro k hik
  induction hik with
  | refl =>
    intro _
    have h1 : E' i = true := by rw [hE' i]; simp
    simp only [stF, h1, hni, if_true, a i (Nat.le_refl _)]
    rfl
  | @step k hik ih =>
    intro hk
    have hik : i + 1 <= k := hik
    have h1 : E' k = E k := by rw [hE' k]; have : (k == i) = false := by simp; omega
                               simp [this]
    simp only [stF, h1, ih (by omega)]
    by_cases hek : E k = true
    ·have hnp : ¬ pr k i := fun hm => by have := hE k (by omega) hek i hm; rw [hni] at this; cases this
     have c := hc i k (by omega) (by omega) hnp
     simp only [hek, if_true]
     refine apA_comm (fun t ht he => ?_) (fun id hid hm => (c.wi id hm).2 hid)
     exact c.di t he (by simp [touches, ht])
    ·simp only [hek]; rfl
 exact b n (by omega) (Nat.le_refl _)
end
end Go.Proofs.YtealblliddhgiaaGreat
namespace Go.Proofs.YtealblliddhgiaaGreat
structure SimU (M : Nat -> Prop) (φ0 : Place) (H0 : Hp) (w0 : World) (n : Nat) (cx : Cx) (φ : Place) (s : S) (us : Nat -> Prop) (a : Act) (w : World) : Prop where
 heap : HeapOk M φ ⟨s.o, us⟩ w
 tr : Trans φ0 H0 w0 φ ⟨s.o, us⟩ w
 size : a.tmps.size = n
 defers : Marked cx w0 φ ⟨s.o, us⟩ w a.defers
 env : ∀ i, V.den (mutB M φ ⟨s.o, us⟩) φ ⟨s.o, us⟩ w (s.env i) (a.tmps.getD i undef)
section
variable {P : Program} {M : Nat -> Prop} {φ φ0 : Place} {H0 : Hp} {w w' w0 : World} {n : Nat} {s : S} {us : Nat -> Prop} {a : Act} {cx : Cx} {ro : Option Nat} {k : Nat}
variable {next : Act -> World -> Prop} {Q : Exit -> Act -> World -> Prop}
theorem simU_put (hs : SimU M φ0 H0 w0 n cx φ s us a w) {φ' : Place} {H' : Hp} (hH : HeapOk M φ' H' w') (ht : Trans φ ⟨s.o, us⟩ w φ' H' w') {v : V} {val : Value} (hd : V.den (mutB M φ' H') φ' H' w' v val) {dst : Option Tmp} (hdst : dstOk n dst)
 {o' : Nat -> Obj'} {us' : Nat -> Prop} (ho : H'.o = o') (hu : ∀ id, H'.us id -> us' id) : SimU M φ0 H0 w0 n cx φ' ⟨putE s.env dst v, o', s.nx⟩ us' (a.put dst val) w' := by
 obtain ⟨k1, k2⟩ := heap_us hH hu
 subst ho
 refine ⟨k1, hs.tr.trans (ht.trans k2), ?_, ?_, fun i => ?_⟩
 ·cases dst <;> simp [Act.put, hs.size]
 ·have := hs.defers.mono (ht.trans k2); cases dst <;> exact this
 ·cases dst with
  | none => exact V.den_mono (ht.trans k2) _ _ (hs.env i)
  | some d =>
    simp only [dstOk] at hdst
    simp only [putE, upd_apply, Act.put]
    by_cases hi : i = d
    ·subst hi
     have h1 : (a.tmps.setIfInBounds i val).getD i undef = val := by simp [Array.getD, hs.size, hdst]
     rw [if_pos rfl, h1]
     exact V.den_mono k2 _ _ hd
    ·have h1 : (a.tmps.setIfInBounds d val).getD i undef = a.tmps.getD i undef := by
      simp only [Array.getD_eq_getD_getElem?]
      rw [Array.getElem?_setIfInBounds_ne (Ne.symm hi)]
     rw [if_neg hi, h1]
     exact V.den_mono (ht.trans k2) _ _ (hs.env i)
theorem call_args (hs : SimU M φ0 H0 w0 n cx φ s us a w) {o : Oper} {op : Op} (hop : o.op = op) {c : Call} {f : Operand} {g : FuncId} {first cap : List V} (hc : op = .call c) (hcal : c.callee = .value f) (hfv : s.ev f = .func (.func g) first cap) :
 ∃ vals : Array Value, V.dens (mutB M φ ⟨s.o, us⟩) φ ⟨s.o, us⟩ w (first ++ c.args.toList.map s.ev ++ cap) vals.toList /\ (Enters P g -> (execOp a.eval o).run P w = .ok (.enter g vals) w) := by
 have hf := ev_den (M := M) (φ := φ) (H := ⟨s.o, us⟩) (w := w) s a hs.env f
 have hargs := evs_den (M := M) (φ := φ) (H := ⟨s.o, us⟩) (w := w) s a hs.env c.args.toList
 rw [hfv] at hf
 obtain ⟨fa, ca, hfe, hfa, hca⟩ := hf
 refine ⟨fa ++ c.args.map a.eval ++ ca, ?_, fun he => ?_⟩
 ·rw [Array.toList_append, Array.toList_append, Array.toList_map]
  exact V.dens_append3 hfa hargs hca
 ·have := run_enter (w := w) he (fa ++ c.args.map a.eval ++ ca)
  generalize hvals : fa ++ c.args.map a.eval ++ ca = vals at this
  simp [execOp, hop, hc, resolve, hcal, hfe, Deferred.ofValue, invoke, this, hvals]
theorem stepA_wp (hs : SimU M φ0 H0 w0 n cx φ s us a w) {fr : Nat} (hfr : ¬ us fr) (hnx : ∀ id, id < s.nx -> us id) {o : Oper} {op : Op} (hop : o.op = op) (hdst : dstOk n o.dst) {v : V} {Δ : List (Nat × Obj')} {rd : List Nat} (h : StepA P s fr op v Δ rd)
 (hN : ∀ φ' a' w', SimU M φ0 H0 w0 n cx φ' (apA o.dst (.val v Δ rd) s) (fun id => us id \/ id = fr) a' w' -> next a' w') : o.wpIn (FWr ro) k P a w next Q := by
 rcases h with ⟨⟨rd', h⟩, _⟩ | ⟨c, f, g, first, cap, hc, hcal, hfv, h⟩
 ·have h1 := sopF_sop (K := fun v' Δ' _ => v' = v /\ Δ' = Δ) h ⟨rfl, rfl⟩
  obtain ⟨nx, val, w', φ', v', Δ', rd', ⟨rfl, rfl⟩, hr, hnx', g1, g2, g3, g4⟩ := sop_sound hs.heap (s := s) rfl hs.env hfr hop h1
  have hsim := simU_put hs g1 g2 g3 hdst (o' := put s.o Δ') (us' := fun id => us id \/ id = fr) rfl (fun id hu => hu.elim .inl (g4 id))
  refine wpIn_fw (fun c hc => by rw [hop] at hc; subst hc; exact h1) ?_
  rw [hr]
  rcases hnx' with rfl | ⟨rfl, rfl⟩
  ·exact hN _ _ _ hsim
  ·exact hN _ _ _ hsim
 ·refine wpIn_fw (fun c' hc' => by rw [hop, hc] at hc'; cases hc') ?_
  obtain ⟨vals, hall, hrun⟩ := call_args (P := P) hs hop hc hcal hfv
  generalize first ++ c.args.toList.map s.ev ++ cap = all at h hall
  rcases h with ⟨ds, rs, hds, hP, rfl, _, hΔ⟩ | ⟨rs, hH, rfl, hrd⟩ | ⟨ds, hds, hP, _, rfl⟩ | ⟨hH, hrd⟩
  ·obtain ⟨f1, f2, f3, f4, f5⟩ := freezes hs.heap (V.idss all) (idss_used all _ hall)
   have hput : (⟨s.o, us⟩ : Hp).put (frz s.o (V.idss all)) = ⟨put s.o (frz s.o (V.idss all)), us⟩ := put_used (H := ⟨s.o, us⟩) (by rw [frz_ids]; exact idss_used all _ hall)
   have hdd := toDs_den f1 all ds _ f3 hds (V.dens_mono f2 _ _ hall)
   have hcall := hP.2 _ w vals (fun b hb => hb.elim (f1.old b) fun hl => (f1.ours b hl).2) hdd
   rw [hrun hP.1]
   refine ⟨fun hd => by simp [FWr] at hd, callsIn_fw (hcall.mono fun e w' ⟨hk, ho⟩ => ?_)⟩
   cases e with
   | panicked ch => cases rs with | nil => exact ho.elim | cons x l => cases l <;> exact ho.elim
   | outgrown => cases rs with | nil => exact ho.elim | cons x l => cases l <;> exact ho.elim
   | returned val =>
     rcases hΔ with rfl | ⟨hfl, rfl⟩
     ·obtain ⟨k1, k2⟩ := heap_keep f1 hk
      refine hN _ _ _ (simU_put hs k1 (f2.trans k2) (retV_den ho) hdst (by rw [hput]) fun id hu => ?_)
      rw [hput] at hu; exact .inl hu
     ·obtain ⟨k1, k2⟩ := heap_keep hs.heap hk
      have ho := R.flat_is (out := .ret rs) (B' := mutB M φ ⟨s.o, us⟩) hfl ho
      exact hN _ _ _ (simU_put hs k1 k2 (retV_den ho) hdst rfl fun id hu => .inl hu)
  ·have hcall := hH.2 s.o us M φ w vals (fun id hid => ⟨rfl, hnx id (hrd id hid)⟩) hs.heap hall
   rw [hrun hH.1]
   refine ⟨fun hd => by simp [FWr] at hd, callsIn_fw (hcall.mono fun e w' ⟨φ', k1, k2, ho⟩ => ?_)⟩
   cases e with
   | panicked ch => cases rs with | nil => exact ho.elim | cons x l => cases l <;> exact ho.elim
   | outgrown => cases rs with | nil => exact ho.elim | cons x l => cases l <;> exact ho.elim
   | returned val => exact hN _ _ _ (simU_put hs k1 k2 (retV_den ho) hdst rfl fun id hu => .inl hu)
  ·obtain ⟨f1, f2, f3, f4, f5⟩ := freezes hs.heap (V.idss all) (idss_used all _ hall)
   have hput : (⟨s.o, us⟩ : Hp).put (frz s.o (V.idss all)) = ⟨put s.o (frz s.o (V.idss all)), us⟩ := put_used (H := ⟨s.o, us⟩) (by rw [frz_ids]; exact idss_used all _ hall)
   have hdd := toDs_den f1 all ds _ f3 hds (V.dens_mono f2 _ _ hall)
   have hcall := hP.2 _ w vals (fun b hb => hb.elim (f1.old b) fun hl => (f1.ours b hl).2) hdd
   rw [hrun hP.1]
   refine ⟨fun hd => by simp [FWr] at hd, callsIn_fw (hcall.mono fun e w' ⟨hk, val, he, ho⟩ => ?_)⟩
   subst he
   obtain ⟨k1, k2⟩ := heap_keep f1 hk
   refine hN _ _ _ (simU_put hs k1 (f2.trans k2) (ho _ _) hdst (by rw [hput]) fun id hu => ?_)
   rw [hput] at hu; exact .inl hu
  ·have hcall := hH.2 s.o us M φ w vals (fun id hid => ⟨rfl, hnx id (hrd id hid)⟩) hfr hs.heap hall
   rw [hrun hH.1]
   refine ⟨fun hd => by simp [FWr] at hd, callsIn_fw (hcall.mono fun e w' ⟨φ', k1, k2, val, he, ho⟩ => ?_)⟩
   subst he
   exact hN _ _ _ (simU_put hs k1 k2 ho hdst rfl fun id hu => hu)
theorem heap_drop {o o2 : Nat -> Obj'} {us us2 : Nat -> Prop} (hH : HeapOk M φ ⟨o, us⟩ w) (ho : ∀ id, o2 id = o id \/ o2 id = .no) (hu : ∀ id, us id -> us2 id) : HeapOk M φ ⟨o2, us2⟩ w /\ Trans φ ⟨o, us⟩ w φ ⟨o2, us2⟩ w := by
 have hl : ∀ id, (o2 id).live = true -> (o id).live = true := fun id h => by
  rcases ho id with e | e
  ·rw [<- e]; exact h
  ·rw [e] at h; cases h
 have hlb : ∀ b, liveB φ ⟨o2, us2⟩ b -> liveB φ ⟨o, us⟩ b := fun b ⟨id, h1, h2⟩ => ⟨id, hl id h1, h2⟩
 have ht : Trans φ ⟨o, us⟩ w φ ⟨o2, us2⟩ w := by
  refine ⟨Keep.refl _ _, fun b hb => .inl (hlb b hb), ⟨hu, fun id _ hr => ?_, fun id e' _ he => ?_⟩⟩
  ·rcases ho id with e | e
   ·exact ⟨by show (o id).isRow = true; rw [<- e]; exact hr, rfl⟩
   ·rw [show (⟨o2, us2⟩ : Hp).o id = .no from e] at hr; cases hr
  ·rcases ho id with e | e
   ·exact ⟨e', by show (o id).epoch = some e'; rw [<- e]; exact he, Nat.le_refl _, fun _ => rfl⟩
   ·rw [show (⟨o2, us2⟩ : Hp).o id = .no from e] at he; cases he
 refine ⟨⟨fun id => ?_, fun id hn => ?_, fun i j b hi hj => hH.apart i j b (hl i hi) (hl j hj), fun b hb => hH.ours b (hlb b hb), hH.old⟩, ht⟩
 ·rcases ho id with e | e
  ·exact (hH.ok id).mono ht e rfl fun _ _ _ => rfl
  ·unfold ObjOk; rw [show (⟨o2, us2⟩ : Hp).o id = .no from e]; trivial
 ·rcases ho id with e | e
  ·exact e.trans (hH.fresh id fun h => hn (hu id h))
  ·exact e
def panS (ds : List Nat) (wl : List Nat) (N : Nat) (s : S) : S :=
 ⟨fun t => if ds.contains t = true then .junk else s.env t, fun id => if wl.contains id = true then .no else s.o id, s.nx + N⟩
theorem stepP_wp (hs : SimU M φ0 H0 w0 n cx φ s us a w) (hnx : ∀ id, id < s.nx -> us id) {N : Nat} (hus : ∀ id, us id -> id < s.nx + N) {o : Oper} {op : Op} (hop : o.op = op) {v : V} {ws rd : List Nat} (h : StepP P s op v ws rd)
 {s0 : S} {ds wl : List Nat} (hds : ∀ t, ds.contains t = false -> s.env t = s0.env t) (hwl : ∀ id, wl.contains id = false -> s.o id = s0.o id) (hws : ∀ id ∈ ws, wl.contains id = true) (hs0 : s0.nx = s.nx)
 (hQ : ∀ φ' w' val, SimC M φ0 H0 w0 n cx φ' (panS ds wl N s0) a w' -> V.den (mutB M φ' (panS ds wl N s0).H) φ' (panS ds wl N s0).H w' v val -> Q (.panic [{ v := val, recovered := false }]) a w') : o.wpIn (FWr ro) k P a w next Q := by
 obtain ⟨c, f, g, first, cap, hc, hcal, hfv, h⟩ := h
 refine wpIn_fw (fun c' hc' => by rw [hop, hc] at hc'; cases hc') ?_
 obtain ⟨vals, hall, hrun⟩ := call_args (P := P) hs hop hc hcal hfv
 generalize first ++ c.args.toList.map s.ev ++ cap = all at h hall
 have fin : ∀ (φ' : Place) (w' : World) (o' : Nat -> Obj') (val : Value), (∀ id, wl.contains id = false -> o' id = s.o id) -> HeapOk M φ' ⟨o', us⟩ w' -> Trans φ ⟨s.o, us⟩ w φ' ⟨o', us⟩ w' -> V.den (mutB M φ' ⟨o', us⟩) φ' ⟨o', us⟩ w' v val -> Q (.panic [{ v := val, recovered := false }]) a w' := by
  intro φ' w' o' val ho' k1 k2 k3
  obtain ⟨m1, m2⟩ := heap_drop (o2 := (panS ds wl N s0).o) (us2 := fun id => id < s0.nx + N) k1 (fun id => by
   show (if wl.contains id = true then Obj'.no else s0.o id) = o' id \/ _
   by_cases hw : wl.contains id = true
   ·right; simp only [panS]; rw [if_pos hw]
   ·left; rw [if_neg hw, ho' id (by simpa using hw), hwl id (by simpa using hw)]) (fun id h => by rw [hs0]; exact hus id h)
  have ht := hs.tr.trans (k2.trans m2)
  refine hQ φ' w' val ⟨m1, ht, hs.size, hs.defers.mono (k2.trans m2), fun i => ?_⟩ (V.den_mono m2 _ _ k3)
  show V.den _ _ _ _ (if ds.contains i = true then V.junk else s0.env i) _
  by_cases hd : ds.contains i = true
  ·rw [if_pos hd]; trivial
  ·rw [if_neg hd, <- hds i (by simpa using hd)]; exact V.den_mono (k2.trans m2) _ _ (hs.env i)
 rcases h with ⟨dd, x, hdd', hP, hfl, rfl, _, rfl⟩ | ⟨x, Δ, hH, rfl, rfl, hrd⟩
 ·obtain ⟨f1, f2, f3, f4, f5⟩ := freezes hs.heap (V.idss all) (idss_used all _ hall)
  have hdd := toDs_den f1 all dd _ f3 hdd' (V.dens_mono f2 _ _ hall)
  have hcall := hP.2 _ w vals (fun b hb => hb.elim (f1.old b) fun hl => (f1.ours b hl).2) hdd
  rw [hrun hP.1]
  refine ⟨fun hd => by simp [FWr] at hd, callsIn_fw (hcall.mono fun e w' ⟨hk, ho⟩ => ?_)⟩
  cases e with
  | returned val => exact ho.elim
  | outgrown => exact ho.elim
  | panicked ch =>
    obtain ⟨k1, k2⟩ := heap_keep hs.heap hk
    have ho := R.flat_is (out := .pan x) (B' := mutB M φ ⟨s.o, us⟩) hfl ho
    obtain ⟨val, rfl, hd⟩ := ho
    exact fin φ w' s.o val (fun _ _ => rfl) k1 k2 hd
 ·have hcall := hH.2 s.o us M φ w vals (fun id hid => ⟨rfl, hnx id (hrd id hid)⟩) hs.heap hall
  rw [hrun hH.1]
  refine ⟨fun hd => by simp [FWr] at hd, callsIn_fw (hcall.mono fun e w' ⟨φ', k1, k2, ho⟩ => ?_)⟩
  cases e with
  | returned val => exact ho.elim
  | outgrown => exact ho.elim
  | panicked ch =>
    obtain ⟨val, rfl, hd⟩ := ho
    exact fin φ' w' _ val (fun id hid => put_not fun y hy e => by
     have := hws y.1 (List.mem_map_of_mem hy)
     rw [e, hid] at this; cases this) k1 k2 hd
theorem guardIs_sound (henv : ∀ i, V.den (mutB M φ ⟨s.o, us⟩) φ ⟨s.o, us⟩ w (s.env i) (a.tmps.getD i undef)) {ops : Array Oper} {o : Oper} {gd : Option (Nat × Bool)} {b : Bool}
 (hg : match o.guard with | none => gd = none | some (j, want) => ∃ d, dstAt ops j = some d /\ gd = some (d, want)) (h : guardIs s gd b) : Region.wanted o (yielded ops a.tmps) = b := by
 unfold Region.wanted
 split at hg
 ·rename_i hn; simp only [hn]; subst hg; exact h.symm
 ·rename_i j want hn
  simp only [hn]
  obtain ⟨d, hd, rfl⟩ := hg
  unfold dstAt at hd
  unfold yielded
  simp only [hd, Option.bind_some]
  simp only [guardIs] at h
  have he := henv d
  split at h
  ·rename_i c hv
   rw [hv] at he
   simp only [V.den, D.den] at he
   have : a.tmps[d]? = some (.bool c) := by
    rw [Array.getD_eq_getD_getElem?] at he
    cases hx : a.tmps[d]? with
    | none => rw [hx] at he; simp [undef] at he
    | some x => rw [hx] at he; simp at he; rw [he]
   simp only [this, h]
   cases c <;> cases want <;> rfl
  ·rename_i hv
   rw [hv] at he
   obtain ⟨arr, harr, hn⟩ := he
   have : ∀ c, a.tmps[d]? ≠ some (.bool c) := by
    intro c hx
    rw [Array.getD_eq_getD_getElem?, hx] at harr
    simp at harr
   subst h
   cases hx : a.tmps[d]? with
   | none => rfl
   | some x => cases x <;> first | (exact absurd hx (this _)) | rfl
  ·exact h.elim
theorem guardIs_frame {s s' : S} {gd : Option (Nat × Bool)} {b : Bool} (h : ∀ d want, gd = some (d, want) -> s'.env d = s.env d) (hg : guardIs s gd b) : guardIs s' gd b := by
 unfold guardIs at *
 cases gd with
 | none => exact hg
 | some p => obtain ⟨d, want⟩ := p; simp only at hg ⊢; rw [h d want rfl]; exact hg
theorem ev_frame {s s' : S} {x : Operand} (h : ∀ t, x = .tmp t -> s'.env t = s.env t) : s'.ev x = s.ev x := by
 cases x <;> simp only [S.ev]
 exact h _ rfl
theorem call_frame {s s' : S} {op : Op} {c : Call} {f : Operand} {g : FuncId} {first cap : List V} (hv : ∀ x ∈ op.operands, s'.ev x = s.ev x) (hc : op = .call c) (hcal : c.callee = .value f) (hfv : s.ev f = .func (.func g) first cap) :
 s'.ev f = .func (.func g) first cap /\ c.args.toList.map s'.ev = c.args.toList.map s.ev := by
 subst hc
 exact ⟨(hv f (by simp only [Op.operands, Call.operands, hcal]; exact Array.mem_append.2 (.inl (by simp)))).trans hfv,
  List.map_congr_left fun x hx => hv x (by simp only [Op.operands, Call.operands]; exact Array.mem_append.2 (.inr (Array.mem_toList_iff.1 hx)))⟩
theorem HCt.frame {g : FuncId} {args : List V} {rd : List Nat} {o o' : Nat -> Obj'} {out : R} {Δ : List (Nat × Obj')} (ho : ∀ id ∈ rd, o' id = o id) (h : HCt P g args rd o out Δ) : HCt P g args rd o' out Δ :=
 ⟨h.1, fun o2 us M φ w vals h1 h2 h3 => h.2 o2 us M φ w vals (fun id hid => ⟨(h1 id hid).1.trans (ho id hid), (h1 id hid).2⟩) h2 h3⟩
theorem HVt.frame {g : FuncId} {args : List V} {rd : List Nat} {o o' : Nat -> Obj'} {fr : Nat} {v : V} {Δ : List (Nat × Obj')} (ho : ∀ id ∈ rd, o' id = o id) (h : HVt P g args rd o fr v Δ) : HVt P g args rd o' fr v Δ :=
 ⟨h.1, fun o2 us M φ w vals h1 h2 h3 => h.2 o2 us M φ w vals (fun id hid => ⟨(h1 id hid).1.trans (ho id hid), (h1 id hid).2⟩) h2 h3⟩
theorem stepA_frame {s s' : S} {fr : Nat} {op : Op} {v : V} {Δ : List (Nat × Obj')} {rd : List Nat} (hv : ∀ x ∈ op.operands, s'.ev x = s.ev x) (ho : ∀ id ∈ rd, s'.o id = s.o id) (hnx : s'.nx = s.nx) (h : StepA P s fr op v Δ rd) : ∃ rd', StepA P s' fr op v Δ rd' := by
 rcases h with ⟨⟨rd', h⟩, hrd⟩ | ⟨c, f, g, first, cap, rfl, hcal, hfv, h⟩
 ·exact ⟨_, .inl ⟨⟨rd', by rw [sopF_frame op hv (by rw [<- hrd]; exact ho)]; exact h⟩, rfl⟩⟩
 ·obtain ⟨hf, hm⟩ := call_frame hv rfl hcal hfv
  rcases h with ⟨ds, rs, hds, hP, hv', hrd, hΔ⟩ | ⟨rs, hH, hv', hrd⟩ | ⟨ds, hds, hP, hrd, hΔ⟩ | ⟨hH, hrd⟩
  ·have hr : ∀ id ∈ V.refss (first ++ c.args.toList.map s.ev ++ cap), s'.o id = s.o id := fun id hid => ho id (by rw [hrd]; simp only [opR, hcal, hfv]; exact hid)
   refine ⟨_, .inr ⟨c, f, g, first, cap, rfl, hcal, hf, .inl ⟨ds, rs, by rw [hm, toDs_frame _ hr]; exact hds, hP, hv', rfl, ?_⟩⟩⟩
   rw [hm, frz_frame (o := s.o) fun id hid => hr id (idss_refss _ id hid)]
   exact hΔ
  ·exact ⟨rd, .inr ⟨c, f, g, first, cap, rfl, hcal, hf, .inr (.inl ⟨rs, by rw [hm]; exact hH.frame ho, hv', by rw [hnx]; exact hrd⟩)⟩⟩
  ·have hr : ∀ id ∈ V.refss (first ++ c.args.toList.map s.ev ++ cap), s'.o id = s.o id := fun id hid => ho id (by rw [hrd]; simp only [opR, hcal, hfv]; exact hid)
   refine ⟨_, .inr ⟨c, f, g, first, cap, rfl, hcal, hf, .inr (.inr (.inl ⟨ds, by rw [hm, toDs_frame _ hr]; exact hds, hP, rfl, ?_⟩))⟩⟩
   rw [hm, frz_frame (o := s.o) fun id hid => hr id (idss_refss _ id hid)]
   exact hΔ
  ·exact ⟨rd, .inr ⟨c, f, g, first, cap, rfl, hcal, hf, .inr (.inr (.inr ⟨by rw [hm]; exact hH.frame ho, by rw [hnx]; exact hrd⟩))⟩⟩
theorem stepP_frame {s s' : S} {op : Op} {v : V} {ws rd : List Nat} (hv : ∀ x ∈ op.operands, s'.ev x = s.ev x) (ho : ∀ id ∈ rd, s'.o id = s.o id) (hnx : s'.nx = s.nx) (h : StepP P s op v ws rd) : StepP P s' op v ws rd := by
 obtain ⟨c, f, g, first, cap, rfl, hcal, hfv, h⟩ := h
 obtain ⟨hf, hm⟩ := call_frame hv rfl hcal hfv
 refine ⟨c, f, g, first, cap, rfl, hcal, hf, ?_⟩
 rw [hm]
 rcases h with ⟨ds, x, hds, hP, hfl, hv', hrd, hws⟩ | ⟨x, Δ, hH, hv', hws, hrd⟩
 ·have hr : ∀ id ∈ V.refss (first ++ c.args.toList.map s.ev ++ cap), s'.o id = s.o id := fun id hid => ho id (by rw [hrd]; simp only [opR, hcal, hfv]; exact hid)
  exact .inl ⟨ds, x, by rw [toDs_frame _ hr]; exact hds, hP, hfl, hv', by rw [hrd]; simp only [opR, hcal, hfv, hf, hm], hws⟩
 ·exact .inr ⟨x, Δ, hH.frame ho, hv', hws, by rw [hnx]; exact hrd⟩
theorem lowL_get {ops : Array Oper} : ∀ (l : List Oper) (l' : List IOp) (i : Nat) (o : Oper), lowL n ops l = some l' -> l[i]? = some o -> lowO n ops o = some (ocOf l' i)
 | [], _, _, _, _, h => by simp at h
 | x :: l, l', i, o, h, hi => by
   simp only [lowL] at h
   split at h
   ·rename_i y ys hy hys
    injection h with h; subst h
    cases i with
    | zero => simp at hi; subst hi; exact hy
    | succ i => exact lowL_get l ys i o hys (by simpa using hi)
   ·cases h
theorem lowO_spec {ops : Array Oper} {o : Oper} {x : IOp} (h : lowO n ops o = some x) : x.op = o.op /\ x.dst = o.dst /\ dstOk n o.dst /\
 (match o.guard with | none => x.gd = none | some (j, want) => ∃ d, dstAt ops j = some d /\ x.gd = some (d, want)) := by
 unfold lowO at h
 split at h
 ·rename_i hd
  have hdst : dstOk n o.dst := by
   unfold dstOkB at hd; unfold dstOk
   split at hd <;> simp_all
  cases hg : o.guard with
  | none => simp only [hg] at h; injection h with h; subst h; exact ⟨rfl, rfl, hdst, rfl⟩
  | some p =>
    obtain ⟨j, want⟩ := p
    simp only [hg] at h
    cases hdj : dstAt ops j with
    | none => simp [hdj] at h
    | some d => simp only [hdj] at h; injection h with h; subst h; exact ⟨rfl, rfl, hdst, d, hdj, rfl⟩
 ·cases h
theorem all_listed {ops : Array Oper} {listed : Array Bool} (hpr : ∀ k, k < ops.size -> ∀ j ∈ predsOf ops k, j < k) (hs : listed.size = ops.size) (hr : Region.ready .any ops listed = []) : ∀ k, k < ops.size -> listed.getD k false = true := by
 intro k
 induction k using Nat.strongRecOn with
 | _ k ih =>
   intro hk
   cases hl : listed.getD k false with
   | true => rfl
   | false =>
     have : k ∈ Region.ready .any ops listed := by
      refine mem_ready.2 ⟨?_, ops[k], by simp [hk], fun e he hb => ?_⟩
      ·simp only [Array.getD_eq_getD_getElem?] at hl ⊢
       rw [Array.getElem?_eq_getElem (by omega)] at hl ⊢
       simpa using hl
      ·have hm : e.on ∈ predsOf ops k := by
        simp only [predsOf, Array.getElem?_eq_getElem hk, List.mem_map, List.mem_filter]
        exact ⟨e, ⟨Array.mem_toList_iff.2 he, hb⟩, rfl⟩
       exact ih _ (hpr k hk _ hm) (by have := hpr k hk _ hm; omega)
     rw [hr] at this; cases this
theorem sim_drew (hs : SimC M φ0 H0 w0 n cx φ s a w) : SimC M φ0 H0 w0 n cx φ s a { w with drawn := w.drawn + 1 } := by
 obtain ⟨k1, k2⟩ := heap_keep (w' := { w with drawn := w.drawn + 1 }) hs.heap ⟨rfl, rfl, rfl, Nat.le_refl _, fun _ _ _ => rfl⟩
 exact ⟨k1, hs.tr.trans k2, hs.size, hs.defers.mono k2, fun i => V.den_mono k2 _ _ (hs.env i)⟩
theorem stF_nx {oc : Nat -> IOp} {ac : Nat -> ActR} {E : Nat -> Bool} : ∀ k, (stF oc ac E s k).nx = s.nx
 | 0 => rfl
 | k + 1 => by
   simp only [stF]
   split
   ·cases ac k <;> exact stF_nx k
   ·exact stF_nx k
theorem stF_env {oc : Nat -> IOp} {ac : Nat -> ActR} {E : Nat -> Bool} {t : Nat} : ∀ k, (∀ j, j < k -> (oc j).dst ≠ some t) -> (stF oc ac E s k).env t = s.env t
 | 0, _ => rfl
 | k + 1, h => by
   have ih := stF_env (oc := oc) (ac := ac) (E := E) (t := t) k fun j hj => h j (by omega)
   simp only [stF]
   split
   ·rw [apA_env_other fun d hd e => h k (by omega) (by rw [hd, e])]; exact ih
   ·exact ih
theorem stF_o {oc : Nat -> IOp} {ac : Nat -> ActR} {E : Nat -> Bool} {id : Nat} : ∀ k, (∀ j, j < k -> id ∉ actW (ac j)) -> (stF oc ac E s k).o id = s.o id
 | 0, _ => rfl
 | k + 1, h => by
   have ih := stF_o (oc := oc) (ac := ac) (E := E) (id := id) k fun j hj => h j (by omega)
   simp only [stF]
   split
   ·rw [apA_o_other (h k (by omega))]; exact ih
   ·exact ih
theorem draw_any (hmix : P.follows .mixedOrders = true) {ops : Array Oper} {l : List IOp} {id : Nat} (hlow : lowL n ops ops.toList = some l) (hpr : ∀ k, k < ops.size -> ∀ j ∈ predsOf ops k, j < k) {ac : Nat -> ActR} {dl wl : List Nat}
 (hs : SimC M φ0 H0 w0 n cx φ s a w) (hlex : ∀ i, i < ops.size -> OkA P (stF (ocOf l) ac (fun _ => true) s i) (s.nx + i) (ocOf l i) (ac i))
 (hblk : ∀ i, i < ops.size -> ac i = .blk -> ∃ j ∈ predsOf ops i, (ac j).ok = false)
 {po : Nat -> Nat -> Prop} (hpo : ∀ E : Nat -> Bool, (∀ k, k < ops.size -> E k = true -> ∀ j ∈ predsOf ops k, E j = true) -> ∀ k, k < ops.size -> (∀ j ∈ predsOf ops k, E j = true) -> ∀ j, po k j -> E j = true) (hpo2 : ∀ k, k < ops.size -> ∀ j, po k j -> j < k)
 (hc : ∀ i j, i < j -> j < ops.size -> ¬ po j i -> Compat (ocOf l) ac (fun i => actR (ac i)) i j)
 (hdl : ∀ i, i < ops.size -> ∀ t, (ocOf l i).dst = some t -> dl.contains t = true) (hwl : ∀ i, i < ops.size -> ∀ id ∈ actW (ac i), wl.contains id = true)
 (hws : ∀ i v ws rd, i < ops.size -> ac i = .pan v ws rd -> ∀ id ∈ ws, wl.contains id = true)
 (hQ : (∀ i, i < ops.size -> (ac i).ok = true) -> ∀ φ a w, SimC M φ0 H0 w0 n cx φ ⟨(stF (ocOf l) ac (fun _ => true) s ops.size).env, (stF (ocOf l) ac (fun _ => true) s ops.size).o, s.nx + ops.size⟩ a w -> Q .normal a w)
 (hX : ∀ i v ws rd, i < ops.size -> ac i = .pan v ws rd -> ∀ φ a w val, SimC M φ0 H0 w0 n cx φ (panS dl wl ops.size s) a w -> V.den (mutB M φ (panS dl wl ops.size s).H) φ (panS dl wl ops.size s).H w v val -> Q (.panic [{ v := val, recovered := false }]) a w) :
 (Code.region id ops true).wpIn (FWr ro) k P Q a w := by
 refine wpIn_region_any hmix ?_
 have hs := sim_drew hs
 generalize ({ w with drawn := w.drawn + 1 } : World) = w at hs
 let N := ops.size
 let Ef (listed : Array Bool) (k : Nat) : Bool := listed.getD k false
 let usE (listed : Array Bool) (j : Nat) : Prop := j < s.nx \/ ∃ k, k < N /\ Ef listed k = true /\ j = s.nx + k
 have key : ∀ (fuel : Nat) (listed : Array Bool) (φ : Place) (a : Act) (w : World), listed.size = N -> listed.count true + fuel = N -> (∀ k, k < N -> Ef listed k = true -> ∀ j ∈ predsOf ops k, Ef listed j = true) -> (∀ k, k < N -> Ef listed k = true -> (ac k).ok = true) ->
  SimU M φ0 H0 w0 n cx φ (stF (ocOf l) ac (Ef listed) s N) (usE listed) a w -> wpAnyIn (FWr ro) k P .any ops Q fuel listed a w := by
  have fin : ∀ (listed : Array Bool) (φ : Place) (a : Act) (w : World), (∀ k, k < N -> Ef listed k = true) -> (∀ k, k < N -> Ef listed k = true -> (ac k).ok = true) -> SimU M φ0 H0 w0 n cx φ (stF (ocOf l) ac (Ef listed) s N) (usE listed) a w -> Q .normal a w := by
   intro listed φ a w hall hokl hu
   have e : ∀ k, k <= N -> stF (ocOf l) ac (Ef listed) s k = stF (ocOf l) ac (fun _ => true) s k := by
    intro k
    induction k with
    | zero => intro _; rfl
    | succ k ih => intro hk; simp only [stF, hall k (by omega), ih (by omega)]
   rw [e N (Nat.le_refl _)] at hu
   obtain ⟨k1, k2⟩ := heap_us (us' := fun id => id < s.nx + N) hu.heap (fun id h => by
    show id < s.nx + N
    rcases h with h | ⟨k, hk, _, rfl⟩ <;> omega)
   exact hQ (fun i hi => hokl i hi (hall i hi)) φ a w ⟨k1, hu.tr.trans k2, hu.size, hu.defers.mono k2, fun i => V.den_mono k2 _ _ (hu.env i)⟩
  intro fuel
  induction fuel with
  | zero =>
    intro listed φ a w hsz hcnt hcl hokl hu
    have hall : ∀ k, k < N -> Ef listed k = true := by
     intro k hk
     have h1 : listed.count true = listed.size := by omega
     rw [Array.count_eq_size] at h1
     have := h1 listed[k] (Array.getElem_mem (by omega))
     simp only [Ef, Array.getD_eq_getD_getElem?]
     rw [Array.getElem?_eq_getElem (by omega)]
     simpa using this.symm
    refine ⟨?_, fin listed φ a w hall hokl hu⟩
    rw [List.eq_nil_iff_forall_not_mem]
    intro k hk
    obtain ⟨h1, o, h2, _⟩ := mem_ready.1 hk
    have hkN : k < N := (Array.getElem?_eq_some_iff.1 h2).1
    have := hall k hkN
    simp only [Ef, Array.getD_eq_getD_getElem?] at this h1
    rw [Array.getElem?_eq_getElem (by omega)] at this h1
    simp only [Option.getD_some] at this h1
    rw [this] at h1; cases h1
  | succ fuel ih =>
    intro listed φ a w hsz hcnt hcl hokl hu
    refine ⟨fun hr => fin listed φ a w (all_listed hpr hsz hr) hokl hu, fun i hi => ?_⟩
    obtain ⟨h1, o, h2, h3⟩ := mem_ready.1 hi
    have hiN : i < N := (Array.getElem?_eq_some_iff.1 h2).1
    have hni : Ef listed i = false := by
     simp only [Ef, Array.getD_eq_getD_getElem?] at h1 ⊢
     rw [Array.getElem?_eq_getElem (by omega)] at h1 ⊢
     simpa using h1
    have hpi : ∀ j ∈ predsOf ops i, Ef listed j = true := by
     intro j hj
     simp only [predsOf, h2, List.mem_map, List.mem_filter] at hj
     obtain ⟨e, ⟨he, hb⟩, rfl⟩ := hj
     exact h3 e (Array.mem_toList_iff.1 he) hb
    have hclo : Closed N po (Ef listed) := fun k hk hek => hpo _ hcl k hk (hcl k hk hek)
    obtain ⟨ag1, ag2⟩ := agree (s := s) hpo2 hc hclo hiN hni (hpo _ hcl i hiN hpi)
    obtain ⟨g1, g2, g3, g4⟩ := lowO_spec (lowL_get _ _ i o hlow (by simpa using h2))
    have hfr : ¬ usE listed (s.nx + i) := by
     rintro (h | ⟨k, _, hk, he⟩)
     ·omega
     ·have : k = i := by omega
      subst this; rw [hni] at hk; cases hk
    have hE' : ∀ k, Ef (listed.setIfInBounds i true) k = (Ef listed k || k == i) := by
     intro k
     simp only [Ef, Array.getD_eq_getD_getElem?]
     by_cases e : k = i
     ·subst e; simp [hsz, hiN]
     ·rw [Array.getElem?_setIfInBounds_ne (Ne.symm e)]
      have : (k == i) = false := by simpa using e
      simp [this]
    have hins := insert (s := s) hc hclo hiN hni hE'
    have hcl' : ∀ k, k < N -> Ef (listed.setIfInBounds i true) k = true -> ∀ j ∈ predsOf ops k, Ef (listed.setIfInBounds i true) j = true := by
     intro k hk hek j hj
     rw [hE'] at hek ⊢
     by_cases e : k = i
     ·subst e; simp [hpi j hj]
     ·have : (k == i) = false := by simpa using e
      rw [this, Bool.or_false] at hek
      simp [hcl k hk hek j hj]
    have hcnt' : (listed.setIfInBounds i true).count true + fuel = N := by
     have hlt : i < listed.size := by omega
     have e1 : listed.setIfInBounds i true = listed.set i true hlt := by simp [Array.setIfInBounds, hlt]
     have e2 : listed[i] = false := by
      have := hni
      simp only [Ef, Array.getD_eq_getD_getElem?] at this
      rw [Array.getElem?_eq_getElem hlt] at this
      simpa using this
     rw [e1, Array.count_set hlt, e2]
     simp
     omega
    have hnext : (ac i).ok = true -> ∀ φ' a' w', SimU M φ0 H0 w0 n cx φ' (apA o.dst (ac i) (stF (ocOf l) ac (Ef listed) s N)) (fun id => usE listed id \/ id = s.nx + i) a' w' -> wpAnyIn (FWr ro) k P .any ops Q fuel (listed.setIfInBounds i true) a' w' := by
     intro hoki φ' a' w' hu'
     refine ih _ φ' a' w' (by simp [hsz]) hcnt' hcl' (fun k hk hek => ?_) ?_
     ·rw [hE'] at hek
      by_cases e : k = i
      ·subst e; exact hoki
      ·have : (k == i) = false := by simpa using e
       rw [this, Bool.or_false] at hek
       exact hokl k hk hek
     rw [hins, g2]
     obtain ⟨k1, k2⟩ := heap_us (us' := usE (listed.setIfInBounds i true)) hu'.heap (fun id h => by
      rcases h with (h | ⟨k, hk, hek, rfl⟩) | rfl
      ·exact .inl h
      ·exact .inr ⟨k, hk, by rw [hE', hek]; rfl, rfl⟩
      ·exact .inr ⟨i, hiN, by rw [hE']; simp, rfl⟩)
     exact ⟨k1, hu'.tr.trans k2, hu'.size, hu'.defers.mono k2, fun j => V.den_mono k2 _ _ (hu'.env j)⟩
    have hgfr : ∀ d want, (ocOf l i).gd = some (d, want) -> (stF (ocOf l) ac (Ef listed) s N).env d = (stF (ocOf l) ac (fun _ => true) s i).env d := fun d want hd => ag1 d (by simp [touches, tmpsOf, hd])
    have hok := hlex i hiN
    have hops : ∀ x ∈ (ocOf l i).op.operands, (stF (ocOf l) ac (Ef listed) s N).ev x = (stF (ocOf l) ac (fun _ => true) s i).ev x := fun x hx => ev_frame fun t ht => ag1 t (by
     subst ht
     simp only [touches, tmpsOf, List.mem_append, List.mem_filterMap]
     exact .inl (.inl ⟨.tmp t, Array.mem_toList_iff.2 hx, rfl⟩))
    have hnxe : (stF (ocOf l) ac (Ef listed) s N).nx = (stF (ocOf l) ac (fun _ => true) s i).nx := (stF_nx N).trans (stF_nx i).symm
    unfold wpOpIn
    simp only [h2]
    cases hac : ac i with
    | skip =>
      rw [hac] at hok hnext
      have hw := guardIs_sound hu.env g4 (guardIs_frame hgfr hok)
      simp only [hw, Bool.false_eq_true, if_false]
      refine ⟨fun _ _ => trivial, hnext rfl φ _ w ?_⟩
      have := simU_put (v := .tup []) (val := undef) hu hu.heap (Trans.refl _ _ _) ⟨#[], rfl, rfl⟩ (dst := o.dst) g3 rfl (us' := fun id => usE listed id \/ id = s.nx + i) (fun id h => .inl h)
      exact this
    | val v Δ rd =>
      rw [hac] at hok hnext
      have hw := guardIs_sound hu.env g4 (guardIs_frame hgfr hok.1)
      simp only [hw, if_true]
      obtain ⟨rd', hst⟩ := stepA_frame hops (fun id hid => ag2 id (by rw [hac]; exact hid)) hnxe hok.2
      exact stepA_wp hu hfr (fun id h => .inl (by rw [stF_nx] at h; exact h)) g1.symm g3 hst (hnext rfl)
    | pan v ws rd =>
      rw [hac] at hok
      have hw := guardIs_sound hu.env g4 (guardIs_frame hgfr hok.1)
      simp only [hw, if_true]
      have hst := stepP_frame hops (fun id hid => ag2 id (by rw [hac]; exact hid)) hnxe hok.2
      refine stepP_wp (s0 := s) (ds := dl) (wl := wl) (N := N) hu (fun id h => .inl (by rw [stF_nx] at h; exact h)) (fun id h => ?_) g1.symm hst (fun t ht => ?_) (fun id hid => ?_) (hws i v ws rd hiN hac) (stF_nx N).symm (fun φ' w' val h1 h2 => hX i v ws rd hiN hac φ' a w' val h1 h2)
      ·rw [stF_nx]
       rcases h with h | ⟨k, hk, _, rfl⟩ <;> omega
      ·refine stF_env N fun j hj e => ?_
       have := hdl j hj t e
       rw [ht] at this; cases this
      ·refine stF_o N fun j hj hm => ?_
       have := hwl j hj id hm
       rw [hid] at this; cases this
    | blk =>
      exfalso
      obtain ⟨j, hj, hbad⟩ := hblk i hiN hac
      have := hokl j (Nat.lt_trans (hpr i hiN j hj) hiN) (hpi j hj)
      rw [hbad] at this; cases this
 refine key ops.size _ φ a w (by simp [N]) (by simp [N, Array.count_replicate]) (fun k hk hek => ?_) (fun k hk hek => ?_) ?_
 ·simp [Ef, Array.getD_eq_getD_getElem?, Array.getElem?_replicate] at hek
  split at hek <;> simp at hek
 ·simp [Ef, Array.getD_eq_getD_getElem?, Array.getElem?_replicate] at hek
  split at hek <;> simp at hek
 ·have e : ∀ k, stF (ocOf l) ac (Ef (Array.replicate ops.size false)) s k = s := by
   intro k
   induction k with
   | zero => rfl
   | succ k ih =>
     have : Ef (Array.replicate ops.size false) k = false := by
      simp only [Ef, Array.getD_eq_getD_getElem?, Array.getElem?_replicate]
      split <;> rfl
     simp only [stF, this, ih]
     rfl
  rw [e]
  obtain ⟨k1, k2⟩ := heap_us (us' := usE (Array.replicate ops.size false)) hs.heap (fun id h => .inl h)
  exact ⟨k1, hs.tr.trans k2, hs.size, hs.defers.mono k2, fun j => V.den_mono k2 _ _ (hs.env j)⟩
end
end Go.Proofs.YtealblliddhgiaaGreat
