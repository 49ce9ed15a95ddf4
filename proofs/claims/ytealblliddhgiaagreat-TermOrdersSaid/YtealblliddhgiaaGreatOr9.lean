/-
  A PART OF THE PROOF (put together by program): several texts, one behind the other. Conditions: none.
-/
import Derived.RangeFuncLeaves
import Derived.TacticsIn
import Derived.RecoverIn
import Derived.Test.YtealblliddhgiaaGreatOr8
set_option linter.unusedSimpArgs false
set_option linter.unusedVariables false
namespace Go.Proofs.YtealblliddhgiaaGreat
section
variable {P : Program} {M : Nat → Prop} {φ : Place} {H : Hp} {w w' : World}
def Obj'.isArr : Obj' → Bool
  | .arr .. => true
  | _ => false
theorem frzA_eq (o : Nat → Obj') (ids : List Nat) : frzA o ids = frz o (ids.filter fun id => (o id).isArr) := by
  induction ids with
  | nil => rfl
  | cons id ids ih =>
    unfold frzA at ih ⊢
    simp only [List.filterMap_cons, List.filter_cons]
    cases hx : o id with
    | arr ep ty sz es =>
      have e : (Obj'.arr ep ty sz es).isArr = true := rfl
      rw [e, if_pos rfl, ih]
      simp only [frz, List.map_cons, hx]
    | _ => exact ih
theorem heap_us (hH : HeapOk M φ H w) {us' : Nat → Prop} (h : ∀ id, H.us id → us' id) : HeapOk M φ ⟨H.o, us'⟩ w ∧ Trans φ H w φ ⟨H.o, us'⟩ w := by
  have ht : Trans φ H w φ ⟨H.o, us'⟩ w := ⟨Keep.refl _ _, fun b hb => .inl hb, ⟨h, fun id _ hr => ⟨hr, rfl⟩, fun id e' _ he => ⟨e', he, Nat.le_refl _, fun _ => rfl⟩⟩⟩
  exact ⟨hH.of ht (fun _ => False) (fun _ h => h.elim) (fun id _ => ⟨rfl, rfl, fun _ _ _ => rfl⟩) (fun id hn => hH.fresh id fun hu => hn (h id hu)) hH.apart (fun b hb => (hH.ours b hb).2), ht⟩
theorem heap_keep (hH : HeapOk M φ H w) (hk : Keep (fun _ => False) w w') : HeapOk M φ H w' ∧ Trans φ H w φ H w' := by
  have ht : Trans φ H w φ H w' := ⟨⟨hk.os, hk.tape, hk.output, hk.size, fun k h _ => hk.block k h fun h => h⟩, fun b hb => .inl hb, StepRel.refl _ _⟩
  exact ⟨hH.of ht (fun _ => False) (fun _ h => h.elim) (fun id _ => ⟨rfl, rfl, fun hl b hb => hk.block b (hH.ours b ⟨id, hl, hb⟩).2 fun h => h⟩) hH.fresh hH.apart (fun b hb => Nat.lt_of_lt_of_le (hH.ours b hb).2 hk.size), ht⟩
theorem put_used {Δ : List (Nat × Obj')} (h : ∀ id ∈ Δ.map (·.1), H.us id) : H.put Δ = ⟨put H.o Δ, H.us⟩ := by
  unfold Hp.put
  congr 1
  funext id
  simp only [eq_iff_iff]
  exact ⟨fun h' => h'.elim (fun h => h) (h id), .inl⟩
theorem frz_ids (o : Nat → Obj') (ids : List Nat) : (frz o ids).map (·.1) = ids := by
  rw [frz_eq]; simp [Function.comp_def]
structure Cx where
  base : List Deferred
  rd : Bool
def FWr (ro : Option Nat) : Fence := { fn := fun _ => True, depth := none, alive := false, round := ro }
def mark (r : Nat) : Deferred := { target := .collected r, args := #[] }
def Marked (cx : Cx) (w0 : World) (φ : Place) (H : Hp) (w : World) (ds : List Deferred) : Prop :=
  ∃ ms : List Nat, ds = ms.map mark ++ cx.base ∧ ms.Nodup ∧ (cx.rd = true → ms = []) ∧ ∀ r ∈ ms, w0.heap.size ≤ r ∧ w.heap[r]? = some (.deferred (some [])) ∧ ¬ liveB φ H r
theorem Marked.mono {cx : Cx} {w0 : World} {φ φ' : Place} {H H' : Hp} {w w' : World} {ds : List Deferred} (ht : Trans φ H w φ' H' w') (h : Marked cx w0 φ H w ds) : Marked cx w0 φ' H' w' ds := by
  obtain ⟨ms, h1, h2, h3, h4⟩ := h
  refine ⟨ms, h1, h2, h3, fun r hr => ?_⟩
  obtain ⟨g1, g2, g3⟩ := h4 r hr
  have hlt : r < w.heap.size := by
    rcases Nat.lt_or_ge r w.heap.size with hl | hl
    · exact hl
    · rw [Array.getElem?_eq_none hl] at g2; cases g2
  refine ⟨g1, (ht.keep.block r hlt g3).trans g2, fun hl => ?_⟩
  rcases ht.grow r hl with h | h
  · exact g3 h
  · omega
structure SimC (M : Nat → Prop) (φ0 : Place) (H0 : Hp) (w0 : World) (n : Nat) (cx : Cx) (φ : Place) (s : S) (a : Act) (w : World) : Prop where
  heap : HeapOk M φ s.H w
  tr : Trans φ0 H0 w0 φ s.H w
  size : a.tmps.size = n
  defers : Marked cx w0 φ s.H w a.defers
  env : ∀ i, V.den (mutB M φ s.H) φ s.H w (s.env i) (a.tmps.getD i undef)
variable {φ0 : Place} {H0 : Hp} {w0 : World} {n : Nat} {s : S} {a : Act} {cx : Cx} {ro : Option Nat} {k : Nat}
theorem callsIn_fw {f : FuncId} {args : Array Value} {R : Ending → World → Prop} (h : Calls P f args w R) : CallsIn (FWr ro) k P f args w R :=
  ⟨trivial, fun cs _ => let ⟨e, w', fr, r, s, x⟩ := h cs; ⟨e, w', fr, r, comesIn_wide.2 s, x⟩⟩
theorem calls_fw {f : FuncId} {args : Array Value} {R : Ending → World → Prop} (h : CallsIn (FWr ro) k P f args w R) : Calls P f args w R :=
  fun cs => let ⟨e, w', fr, r, s, x⟩ := h.2 cs (fun _ h => by simp [FWr] at h); ⟨e, w', fr, r, comesIn_wide.1 s, x⟩
theorem wpIn_fw {o : Oper} {next : Act → World → Prop} {Q : Exit → Act → World → Prop} (hnd : ∀ c, o.op ≠ .defer c) (h : o.uponIn (FWr ro) k P a next Q ((execOp a.eval o).run P w)) : o.wpIn (FWr ro) k P a w next Q :=
  ⟨fun _ _ => trivial, by rw [Oper.semAt_eq _ _ _ hnd]; exact h⟩
theorem sim_put (hs : SimC M φ0 H0 w0 n cx φ s a w) {φ' : Place} {H' : Hp} (hH : HeapOk M φ' H' w') (ht : Trans φ s.H w φ' H' w') {v : V} {val : Value} (hd : V.den (mutB M φ' H') φ' H' w' v val) {dst : Option Tmp} (hdst : dstOk n dst)
    {o' : Nat → Obj'} {nx' : Nat} (ho : H'.o = o') (hu : ∀ id, H'.us id → id < nx') : SimC M φ0 H0 w0 n cx φ' ⟨putE s.env dst v, o', nx'⟩ (a.put dst val) w' := by
  obtain ⟨k1, k2⟩ := heap_us hH hu
  subst ho
  refine ⟨k1, hs.tr.trans (ht.trans k2), ?_, ?_, fun i => ?_⟩
  · cases dst <;> simp [Act.put, hs.size]
  · have := hs.defers.mono (ht.trans k2); cases dst <;> exact this
  · cases dst with
    | none => exact V.den_mono (ht.trans k2) _ _ (hs.env i)
    | some d =>
      simp only [dstOk] at hdst
      simp only [putE, upd_apply, Act.put]
      by_cases hi : i = d
      · subst hi
        have h1 : (a.tmps.setIfInBounds i val).getD i undef = val := by simp [Array.getD, hs.size, hdst]
        rw [if_pos rfl, h1]
        exact V.den_mono k2 _ _ hd
      · have h1 : (a.tmps.setIfInBounds d val).getD i undef = a.tmps.getD i undef := by
          simp only [Array.getD_eq_getD_getElem?]
          rw [Array.getElem?_setIfInBounds_ne (Ne.symm hi)]
        rw [if_neg hi, h1]
        exact V.den_mono (ht.trans k2) _ _ (hs.env i)
theorem sim_heap (hs : SimC M φ0 H0 w0 n cx φ s a w) {φ' : Place} {H' : Hp} (hH : HeapOk M φ' H' w') (ht : Trans φ s.H w φ' H' w') {o' : Nat → Obj'} {nx' : Nat} (ho : H'.o = o') (hu : ∀ id, H'.us id → id < nx') :
    SimC M φ0 H0 w0 n cx φ' ⟨s.env, o', nx'⟩ a w' := by
  obtain ⟨k1, k2⟩ := heap_us hH hu
  subst ho
  exact ⟨k1, hs.tr.trans (ht.trans k2), hs.size, hs.defers.mono (ht.trans k2), fun i => V.den_mono (ht.trans k2) _ _ (hs.env i)⟩
theorem put_us {Δ : List (Nat × Obj')} (h : ∀ id ∈ Δ.map (·.1), s.H.us id ∨ id = s.nx) (id : Nat) (hu : (s.H.put Δ).us id) : id < s.nx + 1 := by
  rcases hu with hu | hu
  · exact Nat.lt_succ_of_lt hu
  · rcases h id hu with h | h
    · exact Nat.lt_succ_of_lt h
    · omega
variable {next : Act → World → Prop} {Q : Exit → Act → World → Prop} {X : V → S → Prop} {K : S → Prop}
theorem sop_wp (hs : SimC M φ0 H0 w0 n cx φ s a w) {o : Oper} {op : Op} (hop : o.op = op) (hdst : dstOk n o.dst) (h : sop P s s.nx op fun v Δ _ => K ⟨putE s.env o.dst v, put s.o Δ, s.nx + 1⟩)
    (hN : ∀ s' φ' a' w', K s' → SimC M φ0 H0 w0 n cx φ' s' a' w' → next a' w') : o.wpIn (FWr ro) k P a w next Q := by
  obtain ⟨nx, val, w', φ', v, Δ, rd, hK, hr, hnx, g1, g2, g3, g4⟩ := sop_sound hs.heap (s := s) rfl hs.env (fr := s.nx) (by simp [S.H]) hop h
  have hsim := sim_put hs g1 g2 g3 hdst (o' := put s.o Δ) (nx' := s.nx + 1) rfl (put_us g4)
  refine wpIn_fw (fun c hc => by rw [hop] at hc; subst hc; exact h) ?_
  rw [hr]
  rcases hnx with rfl | ⟨rfl, rfl⟩
  · exact hN _ _ _ _ hK hsim
  · exact hN _ _ _ _ hK hsim
theorem V.dens_append3 {B : Nat → Prop} {asz bs cs : List V} {u v x : List Value} (h1 : V.dens B φ H w asz u) (h2 : V.dens B φ H w bs v) (h3 : V.dens B φ H w cs x) : V.dens B φ H w (asz ++ bs ++ cs) (u ++ v ++ x) :=
  V.dens_append _ _ _ _ (V.dens_append _ _ _ _ h1 h2) h3
theorem run_enter {f : FuncId} (h : Enters P f) (args : Array Value) : (callFunc f args).run P w = .ok (.enter f args) w := by
  obtain ⟨fn, h1, h2, h3⟩ := h
  have h2' : fn.name ≠ "runtime.NumGoroutine" := by simpa using h2
  have h3' : fn.body ≠ none := fun h => by rw [h] at h3; cases h3
  simp [callFunc, h1, h2', h3']
theorem retV_den : ∀ {rs : List D} {val : Value}, R.is (mutB M φ H) w (.ret rs) (.returned val) → V.den (mutB M φ H) φ H w (retV rs) val
  | [], _, h => by obtain ⟨arr, rfl, h⟩ := h; exact ⟨arr, rfl, h⟩
  | [x], _, h => h
  | x :: y :: l, _, h => by obtain ⟨arr, rfl, h⟩ := h; exact ⟨arr, rfl, (V.dens_map_d (x :: y :: l) _).2 h⟩
theorem R.flat_is {B B' : Nat → Prop} : ∀ {out : R} {e : Ending}, out.flat = true → out.is B w e → out.is B' w e
  | .ret [], .returned _, _, h => by obtain ⟨arr, rfl, h⟩ := h; exact ⟨arr, rfl, h⟩
  | .ret [x], .returned _, hf, h => by
    simp only [R.flat, D.flats, Bool.and_true] at hf
    exact D.flat_den x _ hf h
  | .ret (x :: y :: l), .returned _, hf, h => by obtain ⟨arr, rfl, h⟩ := h; exact ⟨arr, rfl, D.flats_dens (x :: y :: l) _ hf h⟩
  | .pan d, .panicked _, hf, h => by obtain ⟨v, rfl, h⟩ := h; exact ⟨v, rfl, D.flat_den d v hf h⟩
  | .ret [], .panicked _, _, h | .ret [_], .panicked _, _, h | .ret (_ :: _ :: _), .panicked _, _, h | .ret [], .outgrown, _, h | .ret [_], .outgrown, _, h | .ret (_ :: _ :: _), .outgrown, _, h | .pan _, .returned _, _, h | .pan _, .outgrown, _, h => h.elim
theorem R.nomap_is {B B' : Nat → Prop} {w' : World} (hb : ∀ b, Celly w' b → ¬ B b → ¬ B' b) : ∀ {out : R} {e : Ending}, out.nomap = true → out.is B w' e → out.is B' w' e
  | .ret [], .returned _, _, h => by obtain ⟨arr, rfl, h⟩ := h; exact ⟨arr, rfl, h⟩
  | .ret [x], .returned _, hf, h => by
    simp only [R.nomap, D.nomaps, Bool.and_true] at hf
    exact D.nomap_den (fun b hc hn => ⟨rfl, hb b hc hn⟩) x _ hf h
  | .ret (x :: y :: l), .returned _, hf, h => by obtain ⟨arr, rfl, h⟩ := h; exact ⟨arr, rfl, D.nomaps_dens (fun b hc hn => ⟨rfl, hb b hc hn⟩) (x :: y :: l) _ hf h⟩
  | .pan d, .panicked _, hf, h => by obtain ⟨v, rfl, h⟩ := h; exact ⟨v, rfl, D.nomap_den (fun b hc hn => ⟨rfl, hb b hc hn⟩) d v hf h⟩
  | .ret [], .panicked _, _, h | .ret [_], .panicked _, _, h | .ret (_ :: _ :: _), .panicked _, _, h | .ret [], .outgrown, _, h | .ret [_], .outgrown, _, h | .ret (_ :: _ :: _), .outgrown, _, h | .pan _, .returned _, _, h | .pan _, .outgrown, _, h => h.elim
theorem lends (hH : HeapOk M φ H w) {o : Nat → Obj'} : ∀ (vs : List V) (vals : List Value), (∀ id ∈ lendIds o vs, H.o id = (o id).fz) → V.dens (mutB M φ H) φ H w vs vals → V.dens (mutB M φ H) φ H w (vs.map (lendV o)) vals
  | [], _, _, h => h
  | v :: vs, _, ho, h => by
    obtain ⟨u, us, rfl, h1, h2⟩ := h
    refine ⟨u, us, rfl, ?_, lends hH vs us (fun id hid => ho id (by simp [lendIds, hid])) h2⟩
    unfold lendV
    split
    · rename_i x hx
      exact toD_den hH v x u (fun id hid => ho id (by simp [lendIds, hx, hid])) hx h1
    · exact h1
theorem lendIds_used : ∀ (vs : List V) (vals : List Value) (o : Nat → Obj'), V.dens (mutB M φ H) φ H w vs vals → ∀ id ∈ lendIds o vs, H.us id
  | [], _, _, _, j, hj => by simp [lendIds] at hj
  | v :: vs, _, o, h, j, hj => by
    obtain ⟨u, us, rfl, h1, h2⟩ := h
    simp only [lendIds, List.mem_append] at hj
    rcases hj with hj | hj
    · cases hx : toD o v with
      | none => simp [hx] at hj
      | some x => simp only [hx] at hj; exact ids_used v u h1 j hj
    · exact lendIds_used vs us o h2 j hj
theorem heap_call (hs : SimC M φ0 H0 w0 n cx φ s a w) {o : Oper} {g : FuncId} {all : List V} {vals : Array Value} (hdst : dstOk n o.dst) (hrun : Enters P g → (execOp a.eval o).run P w = .ok (.enter g vals) w) (hall : V.dens (mutB M φ s.H) φ s.H w all vals.toList)
    (h : CtK P g all s.o s.nx (fun v o' nx' => K ⟨putE s.env o.dst v, o', nx'⟩) (fun v o' nx' => X v ⟨s.env, o', nx'⟩))
    (hN : ∀ s' φ' a' w', K s' → SimC M φ0 H0 w0 n cx φ' s' a' w' → next a' w')
    (hQ : ∀ v s' φ' w' val, X v s' → SimC M φ0 H0 w0 n cx φ' s' a w' → V.den (mutB M φ' s'.H) φ' s'.H w' v val → Q (.panic [{ v := val, recovered := false }]) a w') : o.uponIn (FWr ro) k P a next Q ((execOp a.eval o).run P w) := by
  have hcall := h.2 M φ w vals hs.heap hall
  rw [hrun h.1]
  refine ⟨fun hd => by simp [FWr] at hd, callsIn_fw (hcall.mono fun e w' ⟨φ', o', nx', v, k1, k2, k3⟩ => ?_)⟩
  cases e with
  | returned val => exact hN _ _ _ _ k3.2 (sim_put hs k1 k2 k3.1 hdst rfl fun id hu => hu)
  | panicked ch =>
    obtain ⟨val, rfl, k4, k5⟩ := k3
    exact hQ _ _ _ _ val k5 (sim_heap hs k1 k2 (o' := o') (nx' := nx') rfl fun id hu => hu) k4
  | outgrown => exact k3.elim
theorem calls_wp (hs : SimC M φ0 H0 w0 n cx φ s a w) {o : Oper} {g : FuncId} {all : List V} {vals : Array Value} (hdst : dstOk n o.dst) (hrun : Enters P g → (execOp a.eval o).run P w = .ok (.enter g vals) w) (hall : V.dens (mutB M φ s.H) φ s.H w all vals.toList)
    (h : callL P s g all (fun v o' nx' => K ⟨putE s.env o.dst v, o', nx'⟩) (fun v o' nx' => X v ⟨s.env, o', nx'⟩))
    (hN : ∀ s' φ' a' w', K s' → SimC M φ0 H0 w0 n cx φ' s' a' w' → next a' w')
    (hQ : ∀ v s' φ' w' val, X v s' → SimC M φ0 H0 w0 n cx φ' s' a w' → V.den (mutB M φ' s'.H) φ' s'.H w' v val → Q (.panic [{ v := val, recovered := false }]) a w') : o.uponIn (FWr ro) k P a next Q ((execOp a.eval o).run P w) := by
  unfold callL at h
  obtain ⟨f1, f2, f3, f4, f5⟩ := freezes hs.heap (V.idss all) (idss_used all _ hall)
  have hput : s.H.put (frz s.H.o (V.idss all)) = ⟨put s.o (frz s.o (V.idss all)), s.H.us⟩ := put_used (by rw [frz_ids]; exact idss_used all _ hall)
  have hall1 := V.dens_mono f2 _ _ hall
  rcases h with ⟨ds, out, hds, hP, hK⟩ | ⟨ds, out, hds, hP, hfl, hK⟩ | ⟨ds, out, hds, hP, hnm, hK⟩ | hC | hC
  · have hdd := toDs_den f1 all ds _ f3 hds hall1
    have hM : ∀ b, mutB M φ (s.H.put (frz s.H.o (V.idss all))) b → b < w.heap.size := fun b hb => hb.elim (f1.old b) fun hl => (f1.ours b hl).2
    have hcall := hP.2 _ w vals hM hdd
    rw [hrun hP.1]
    refine ⟨fun hd => by simp [FWr] at hd, callsIn_fw (hcall.mono fun e w' ⟨hk, ho⟩ => ?_)⟩
    obtain ⟨k1, k2⟩ := heap_keep f1 hk
    cases out with
    | ret rs =>
      cases e with
      | returned val =>
        refine hN _ _ _ _ hK (sim_put hs k1 (f2.trans k2) (retV_den ho) hdst (by rw [hput]) ?_)
        intro id hu; rw [hput] at hu; exact Nat.lt_succ_of_lt hu
      | panicked ch => cases rs with | nil => exact ho.elim | cons x l => cases l <;> exact ho.elim
      | outgrown => cases rs with | nil => exact ho.elim | cons x l => cases l <;> exact ho.elim
    | pan x =>
      cases e with
      | returned val => exact ho.elim
      | panicked ch =>
        obtain ⟨val, rfl, hd⟩ := ho
        have hsim := sim_heap hs k1 (f2.trans k2) (o' := put s.o (frz s.o (V.idss all))) (nx' := s.nx + 1) (by rw [hput]) (fun id hu => by rw [hput] at hu; exact Nat.lt_succ_of_lt hu)
        refine hQ _ _ _ _ val hK hsim ?_
        have e1 : mutB M φ (S.H ⟨s.env, put s.o (frz s.o (V.idss all)), s.nx + 1⟩) = mutB M φ (s.H.put (frz s.H.o (V.idss all))) := by rw [hput]; rfl
        simp only [V.den]
        rw [e1]; exact hd
      | outgrown => exact ho.elim
  · have hdd := toDs_den f1 all ds _ f3 hds hall1
    have hM : ∀ b, mutB M φ (s.H.put (frz s.H.o (V.idss all))) b → b < w.heap.size := fun b hb => hb.elim (f1.old b) fun hl => (f1.ours b hl).2
    have hcall := hP.2 _ w vals hM hdd
    rw [hrun hP.1]
    refine ⟨fun hd => by simp [FWr] at hd, callsIn_fw (hcall.mono fun e w' ⟨hk, ho⟩ => ?_)⟩
    obtain ⟨k1, k2⟩ := heap_keep hs.heap hk
    have ho := R.flat_is (B' := mutB M φ s.H) hfl ho
    cases out with
    | ret rs =>
      cases e with
      | returned val =>
        exact hN _ _ _ _ hK (sim_put hs k1 k2 (retV_den ho) hdst rfl fun id hu => Nat.lt_succ_of_lt hu)
      | panicked ch => cases rs with | nil => exact ho.elim | cons x l => cases l <;> exact ho.elim
      | outgrown => cases rs with | nil => exact ho.elim | cons x l => cases l <;> exact ho.elim
    | pan x =>
      cases e with
      | returned val => exact ho.elim
      | panicked ch =>
        obtain ⟨val, rfl, hd⟩ := ho
        exact hQ _ _ _ _ val hK (sim_heap hs k1 k2 (o' := s.o) (nx' := s.nx + 1) rfl fun id hu => Nat.lt_succ_of_lt hu) hd
      | outgrown => exact ho.elim
  · obtain ⟨a1, a2, a3, a4, a5⟩ := freezes hs.heap ((V.idss all).filter fun id => (s.o id).isArr) (fun id hid => idss_used all _ hall id (List.mem_filter.1 hid).1)
    have hputA : s.H.put (frz s.H.o ((V.idss all).filter fun id => (s.o id).isArr)) = ⟨put s.o (frzA s.o (V.idss all)), s.H.us⟩ := by
      rw [frzA_eq]
      exact put_used (by rw [frz_ids]; exact fun id hid => idss_used all _ hall id (List.mem_filter.1 hid).1)
    have hdd := toDs_den f1 all ds _ f3 hds hall1
    have hM : ∀ b, mutB M φ (s.H.put (frz s.H.o (V.idss all))) b → b < w.heap.size := fun b hb => hb.elim (f1.old b) fun hl => (f1.ours b hl).2
    have hcall := hP.2 _ w vals hM hdd
    rw [hrun hP.1]
    refine ⟨fun hd => by simp [FWr] at hd, callsIn_fw (hcall.mono fun e w' ⟨hk, ho⟩ => ?_)⟩
    obtain ⟨k1, k2⟩ := heap_keep a1 hk
    have hsub : ∀ b, Celly w' b → ¬ mutB M φ (s.H.put (frz s.H.o (V.idss all))) b → ¬ mutB M φ (s.H.put (frz s.H.o ((V.idss all).filter fun id => (s.o id).isArr))) b := by
      intro b hc hn hm
      rcases hm with hM | ⟨id, hl, hb⟩
      · exact hn (.inl hM)
      · by_cases hid : id ∈ V.idss all
        · cases hx : s.H.o id with
          | arr ep ty sz es =>
            rw [a3 id (List.mem_filter.2 ⟨hid, by show (s.H.o id).isArr = true; rw [hx]; rfl⟩), hx] at hl
            cases hl
          | map kt vt l =>
            have hni : id ∉ (V.idss all).filter fun id => (s.o id).isArr := fun h => by
              have h2 : (s.H.o id).isArr = true := (List.mem_filter.1 h).2
              rw [hx] at h2; cases h2
            have hok := k1.ok id
            unfold ObjOk at hok
            rw [a4 id hni, hx] at hok
            obtain ⟨b', es, clock, g1, g2, _⟩ := hok
            rw [g1] at hb
            injection hb with hb
            subst hb
            obtain ⟨cs, ty, fz, hc⟩ := hc
            rw [g2] at hc
            cases hc
          | _ =>
            have hni : id ∉ (V.idss all).filter fun id => (s.o id).isArr := fun h => by
              have h2 : (s.H.o id).isArr = true := (List.mem_filter.1 h).2
              rw [hx] at h2; cases h2
            refine hn (.inr ⟨id, ?_, hb⟩)
            rw [a4 id hni, hx] at hl
            rw [f3 id hid, hx]
            exact hl
        · have hni : id ∉ (V.idss all).filter fun id => (s.o id).isArr := fun h => hid (List.mem_filter.1 h).1
          refine hn (.inr ⟨id, ?_, hb⟩)
          rw [a4 id hni] at hl
          rw [f4 id hid]
          exact hl
    have ho := R.nomap_is (w' := w') (B' := mutB M φ (s.H.put (frz s.H.o ((V.idss all).filter fun id => (s.o id).isArr)))) hsub hnm ho
    cases out with
    | ret rs =>
      cases e with
      | returned val =>
        refine hN _ _ _ _ hK (sim_put hs k1 (a2.trans k2) (retV_den ho) hdst (by rw [hputA]) ?_)
        intro id hu; rw [hputA] at hu; exact Nat.lt_succ_of_lt hu
      | panicked ch => cases rs with | nil => exact ho.elim | cons x l => cases l <;> exact ho.elim
      | outgrown => cases rs with | nil => exact ho.elim | cons x l => cases l <;> exact ho.elim
    | pan x =>
      cases e with
      | returned val => exact ho.elim
      | panicked ch =>
        obtain ⟨val, rfl, hd⟩ := ho
        have hsim := sim_heap hs k1 (a2.trans k2) (o' := put s.o (frzA s.o (V.idss all))) (nx' := s.nx + 1) (by rw [hputA]) (fun id hu => by rw [hputA] at hu; exact Nat.lt_succ_of_lt hu)
        refine hQ _ _ _ _ val hK hsim ?_
        have e1 : mutB M φ (S.H ⟨s.env, put s.o (frzA s.o (V.idss all)), s.nx + 1⟩) = mutB M φ (s.H.put (frz s.H.o ((V.idss all).filter fun id => (s.o id).isArr))) := by rw [hputA]; rfl
        simp only [V.den]
        rw [e1]; exact hd
      | outgrown => exact ho.elim
  · exact heap_call hs hdst hrun hall hC hN hQ
  · obtain ⟨f1, f2, f3, f4, f5⟩ := freezes hs.heap (lendIds s.o all) (lendIds_used all _ s.o hall)
    have hput : s.H.put (frz s.H.o (lendIds s.o all)) = hp (put s.o (frz s.o (lendIds s.o all))) s.nx := put_used (by rw [frz_ids]; exact lendIds_used all _ s.o hall)
    have hall1 := lends f1 all _ f3 (V.dens_mono f2 _ _ hall)
    rw [hput] at f1 f2 hall1
    exact heap_call (s := ⟨s.env, put s.o (frz s.o (lendIds s.o all)), s.nx⟩) (sim_heap hs f1 f2 rfl fun id hu => hu) hdst hrun hall1 hC hN hQ
theorem call_wp (hs : SimC M φ0 H0 w0 n cx φ s a w) {o : Oper} {c : Call} {f : Operand} (hop : o.op = .call c) (hc : c.callee = .value f) (hdst : dstOk n o.dst)
    (h : callW P s (s.ev f) (c.args.toList.map s.ev) (fun v o' nx' => K ⟨putE s.env o.dst v, o', nx'⟩) (fun v o' nx' => X v ⟨s.env, o', nx'⟩))
    (hN : ∀ s' φ' a' w', K s' → SimC M φ0 H0 w0 n cx φ' s' a' w' → next a' w')
    (hQ : ∀ v s' φ' w' val, X v s' → SimC M φ0 H0 w0 n cx φ' s' a w' → V.den (mutB M φ' s'.H) φ' s'.H w' v val → Q (.panic [{ v := val, recovered := false }]) a w') : o.wpIn (FWr ro) k P a w next Q := by
  refine wpIn_fw (fun c' hc' => by rw [hop] at hc'; cases hc') ?_
  have hf := ev_den (M := M) (φ := φ) (H := s.H) (w := w) s a hs.env f
  have hargs := evs_den (M := M) (φ := φ) (H := s.H) (w := w) s a hs.env c.args.toList
  unfold callW at h
  split at h
  · rename_i g first cap hfv
    rw [hfv] at hf
    obtain ⟨fa, ca, hfe, hfa, hca⟩ := hf
    have hall : V.dens (mutB M φ s.H) φ s.H w (first ++ c.args.toList.map s.ev ++ cap) (fa ++ c.args.map a.eval ++ ca).toList := by
      rw [Array.toList_append, Array.toList_append, Array.toList_map]
      exact V.dens_append3 hfa hargs hca
    generalize first ++ c.args.toList.map s.ev ++ cap = all at h hall
    generalize hvals : fa ++ c.args.map a.eval ++ ca = vals at hall
    have hrun : Enters P g → (execOp a.eval o).run P w = .ok (.enter g vals) w := by
      intro he
      have := run_enter (w := w) he (fa ++ c.args.map a.eval ++ ca)
      rw [hvals] at this
      simp [execOp, hop, resolve, hc, hfe, Deferred.ofValue, invoke, this, hvals]
    exact calls_wp hs hdst hrun hall h hN hQ
  · rename_i id hfv
    rw [hfv] at hf
    obtain ⟨_, hus, hp'⟩ := hf
    obtain ⟨hrow, hR⟩ := h
    obtain ⟨b, hφ, hfe⟩ := hp' hrow
    obtain ⟨fn, tmps, assign, body, h1, h2⟩ := hR M φ w (c.args.map a.eval) b hs.heap (by rw [Array.toList_map]; exact hargs) hφ
    have hrun : (execOp a.eval o).run P w = .ok (.round b fn tmps assign body) w := by
      simp [execOp, hop, resolve, hc, hfe, Deferred.ofValue, invoke, h1]
    rw [hrun]
    refine ⟨fun hd => by simp [FWr] at hd, RoundIn.mono (h2 (k - 1)) fun e w' ⟨φ', o', nx', v, k1, k2, k3⟩ => ?_⟩
    cases e with
    | returned val => exact hN _ _ _ _ k3.2 (sim_put hs k1 k2 k3.1 hdst rfl fun id hu => hu)
    | panicked ch =>
      obtain ⟨val, rfl, k4, k5⟩ := k3
      exact hQ _ _ _ _ val k5 (sim_heap hs k1 k2 (o' := o') (nx' := nx') rfl fun id hu => hu) k4
    | outgrown => exact k3.elim
  · exact h.elim
theorem invoke_wp (hs : SimC M φ0 H0 w0 n cx φ s a w) {o : Oper} {c : Call} {r : Operand} {m : String} {g : FuncId} {y : V} (hop : o.op = .call c) (hc : c.callee = .invoke r m) (hdst : dstOk n o.dst) (hr : recvT P m (s.ev r) = some (g, y))
    (h : callL P s g (y :: c.args.toList.map s.ev) (fun v o' nx' => K ⟨putE s.env o.dst v, o', nx'⟩) (fun v o' nx' => X v ⟨s.env, o', nx'⟩))
    (hN : ∀ s' φ' a' w', K s' → SimC M φ0 H0 w0 n cx φ' s' a' w' → next a' w')
    (hQ : ∀ v s' φ' w' val, X v s' → SimC M φ0 H0 w0 n cx φ' s' a w' → V.den (mutB M φ' s'.H) φ' s'.H w' v val → Q (.panic [{ v := val, recovered := false }]) a w') : o.wpIn (FWr ro) k P a w next Q := by
  refine wpIn_fw (fun c' hc' => by rw [hop] at hc'; cases hc') ?_
  have hf := ev_den (M := M) (φ := φ) (H := s.H) (w := w) s a hs.env r
  have hargs := evs_den (M := M) (φ := φ) (H := s.H) (w := w) s a hs.env c.args.toList
  unfold recvT at hr
  split at hr
  · rename_i t d hx
    rw [hx] at hf
    obtain ⟨val, hv, hd⟩ := hf
    split at hr
    · rename_i ti hti
      split at hr
      · rename_i mr hro
        split at hr
        · rename_i f hfn
          split at hr
          · rename_i hcond
            injection hr with hr
            injection hr with h1 h2
            subst h1; subst h2
            refine calls_wp (vals := #[val] ++ c.args.map a.eval) hs hdst ?_ ?_ h hN hQ
            · intro he
              have hrun := run_enter (w := w) he (#[val] ++ c.args.map a.eval)
              have hpa : mr.path = #[] := Array.isEmpty_iff.1 hcond.1
              have hu : ∃ u, P.underlying t = some u ∧ ∀ e, u ≠ .pointer e := by
                have := hcond.2
                unfold noPtr at this
                split at this
                · cases this
                · rename_i u hne hu; exact ⟨u, hu, fun e he => hne e he⟩
                · cases this
              obtain ⟨u, hu, hnp⟩ := hu
              have hm : (method (P.types.size + Made.depth) t val m).run P w = .ok (f, val) w := by
                have : P.types.size + Made.depth = (P.types.size + Made.depth - 1) + 1 := by simp [Made.depth]
                rw [this]
                cases u <;> first | exact absurd rfl (hnp _) | simp [method, typeInfo, hti, hro, hpa, hfn, follow, receiverAt, run_underlying hu, _root_.Go.Place.get]
              have h0 : (#[Value.iface t val] ++ Array.map a.eval c.args)[0]? = some (.iface t val) := by
                rw [Array.getElem?_append_left (by simp)]; rfl
              have h1 : (Array.map a.eval c.args).extract 0 c.args.size = Array.map a.eval c.args := by
                rw [show c.args.size = (Array.map a.eval c.args).size from by simp, Array.extract_size]
              simp [execOp, hop, resolve, hc, invoke, callMethod, hv, h0, h1, hm, hrun]
            · simp only [Array.toList_append, Array.toList_map]
              exact ⟨val, _, rfl, hd, hargs⟩
          · cases hr
        · cases hr
      · cases hr
    · cases hr
  · cases hr
theorem opW_sound (hs : SimC M φ0 H0 w0 n cx φ s a w) {o : Oper} (h : opW P n s o X K)
    (hN : ∀ s' φ' a' w', K s' → SimC M φ0 H0 w0 n cx φ' s' a' w' → next a' w')
    (hQ : ∀ v s' φ' w' val, X v s' → SimC M φ0 H0 w0 n cx φ' s' a w' → V.den (mutB M φ' s'.H) φ' s'.H w' v val → Q (.panic [{ v := val, recovered := false }]) a w') : o.wpIn (FWr ro) k P a w next Q := by
  obtain ⟨hdst, h⟩ := h
  split at h
  · rename_i c hop
    split at h
    · rename_i f hc
      exact call_wp hs hop hc hdst h hN hQ
    · rename_i r m hc
      split at h
      · rename_i g y hr; exact invoke_wp hs hop hc hdst hr h hN hQ
      · exact h.elim
    · exact sop_wp hs rfl hdst h hN
  · rename_i x hop
    have hx := ev_den (M := M) (φ := φ) (H := s.H) (w := w) s a hs.env x
    have pan : ∀ (t : TypeId) (u : Value), a.eval x = .iface t u → Q (.panic [{ v := .iface t u, recovered := false }]) a w → o.wpIn (FWr ro) k P a w next Q := by
      intro t u hu hq
      refine wpIn_fw (fun c hc => by rw [hop] at hc; cases hc) ?_
      have hr : (execOp a.eval o).run P w = .halt (.panic (.iface t u)) w := by simp [execOp, hop, hu, Instr.panic]
      rw [hr]; exact hq
    split at h
    · rename_i t y hv
      rw [hv] at hx
      obtain ⟨u, hu, hd⟩ := hx
      exact pan t u hu (hQ _ s φ w (.iface t u) h hs ⟨u, rfl, hd⟩)
    · rename_i t y hv
      rw [hv] at hx
      obtain ⟨u, hu, hd⟩ := hx
      exact pan t u hu (hQ _ s φ w (.iface t u) h hs ⟨u, rfl, hd⟩)
    · exact h.elim
  · exact sop_wp hs rfl hdst h hN
end
end Go.Proofs.YtealblliddhgiaaGreat
