/-
  A PART OF THE PROOF (put together by program): several texts, one behind the other. Conditions: none.
-/
import Derived.OrdersIn
import Derived.Test.YtealblliddhgiaaGreatOr14
set_option linter.unusedSimpArgs false
set_option linter.unusedVariables false
namespace Go.Proofs.YtealblliddhgiaaGreat
structure SimU (M : Nat → Prop) (φ0 : Place) (H0 : Hp) (w0 : World) (n : Nat) (cx : Cx) (φ : Place) (s : S) (us : Nat → Prop) (a : Act) (w : World) : Prop where
  heap : HeapOk M φ ⟨s.o, us⟩ w
  tr : Trans φ0 H0 w0 φ ⟨s.o, us⟩ w
  size : a.tmps.size = n
  defers : Marked cx w0 φ ⟨s.o, us⟩ w a.defers
  env : ∀ i, V.den (mutB M φ ⟨s.o, us⟩) φ ⟨s.o, us⟩ w (s.env i) (a.tmps.getD i undef)
section
variable {P : Program} {M : Nat → Prop} {φ φ0 : Place} {H0 : Hp} {w w' w0 : World} {n : Nat} {s : S} {us : Nat → Prop} {a : Act} {cx : Cx} {ro : Option Nat} {k : Nat}
variable {next : Act → World → Prop} {Q : Exit → Act → World → Prop}
theorem simU_put (hs : SimU M φ0 H0 w0 n cx φ s us a w) {φ' : Place} {H' : Hp} (hH : HeapOk M φ' H' w') (ht : Trans φ ⟨s.o, us⟩ w φ' H' w') {v : V} {val : Value} (hd : V.den (mutB M φ' H') φ' H' w' v val) {dst : Option Tmp} (hdst : dstOk n dst)
    {o' : Nat → Obj'} {us' : Nat → Prop} (ho : H'.o = o') (hu : ∀ id, H'.us id → us' id) : SimU M φ0 H0 w0 n cx φ' ⟨putE s.env dst v, o', s.nx⟩ us' (a.put dst val) w' := by
  obtain ⟨k1, k2⟩ := heap_us hH hu
  subst ho
  refine ⟨k1, hs.tr.trans (ht.trans k2), ?_, ?_, fun i => ?_⟩
  · cases dst <;> simp [Act.put, hs.size]
  · have := hs.defers.mono (ht.trans k2); cases dst <;> exact this
  · cases dst with
    | none => exact V.den_mono (ht.trans k2) _ _ (hs.env i)
    | some d =>
      simp only [dstOk] at hdst
      simp only [putE, upd_apply, Act.put]
      by_cases hi : i = d
      · subst hi
        have h1 : (a.tmps.setIfInBounds i val).getD i undef = val := by simp [Array.getD, hs.size, hdst]
        rw [if_pos rfl, h1]
        exact V.den_mono k2 _ _ hd
      · have h1 : (a.tmps.setIfInBounds d val).getD i undef = a.tmps.getD i undef := by
          simp only [Array.getD_eq_getD_getElem?]
          rw [Array.getElem?_setIfInBounds_ne (Ne.symm hi)]
        rw [if_neg hi, h1]
        exact V.den_mono (ht.trans k2) _ _ (hs.env i)
theorem call_args (hs : SimU M φ0 H0 w0 n cx φ s us a w) {o : Oper} {op : Op} (hop : o.op = op) {c : Call} {f : Operand} {g : FuncId} {first cap : List V} (hc : op = .call c) (hcal : c.callee = .value f) (hfv : s.ev f = .func (.func g) first cap) :
    ∃ vals : Array Value, V.dens (mutB M φ ⟨s.o, us⟩) φ ⟨s.o, us⟩ w (first ++ c.args.toList.map s.ev ++ cap) vals.toList ∧ (Enters P g → (execOp a.eval o).run P w = .ok (.enter g vals) w) := by
  have hf := ev_den (M := M) (φ := φ) (H := ⟨s.o, us⟩) (w := w) s a hs.env f
  have hargs := evs_den (M := M) (φ := φ) (H := ⟨s.o, us⟩) (w := w) s a hs.env c.args.toList
  rw [hfv] at hf
  obtain ⟨fa, ca, hfe, hfa, hca⟩ := hf
  refine ⟨fa ++ c.args.map a.eval ++ ca, ?_, fun he => ?_⟩
  · rw [Array.toList_append, Array.toList_append, Array.toList_map]
    exact V.dens_append3 hfa hargs hca
  · have := run_enter (w := w) he (fa ++ c.args.map a.eval ++ ca)
    generalize hvals : fa ++ c.args.map a.eval ++ ca = vals at this
    simp [execOp, hop, hc, resolve, hcal, hfe, Deferred.ofValue, invoke, this, hvals]
theorem stepA_wp (hs : SimU M φ0 H0 w0 n cx φ s us a w) {fr : Nat} (hfr : ¬ us fr) (hnx : ∀ id, id < s.nx → us id) {o : Oper} {op : Op} (hop : o.op = op) (hdst : dstOk n o.dst) {v : V} {Δ : List (Nat × Obj')} {rd : List Nat} (h : StepA P s fr op v Δ rd)
    (hN : ∀ φ' a' w', SimU M φ0 H0 w0 n cx φ' (apA o.dst (.val v Δ rd) s) (fun id => us id ∨ id = fr) a' w' → next a' w') : o.wpIn (FWr ro) k P a w next Q := by
  rcases h with ⟨⟨rd', h⟩, _⟩ | ⟨c, f, g, first, cap, hc, hcal, hfv, h⟩
  · have h1 := sopF_sop (K := fun v' Δ' _ => v' = v ∧ Δ' = Δ) h ⟨rfl, rfl⟩
    obtain ⟨nx, val, w', φ', v', Δ', rd', ⟨rfl, rfl⟩, hr, hnx', g1, g2, g3, g4⟩ := sop_sound hs.heap (s := s) rfl hs.env hfr hop h1
    have hsim := simU_put hs g1 g2 g3 hdst (o' := put s.o Δ') (us' := fun id => us id ∨ id = fr) rfl (fun id hu => hu.elim .inl (g4 id))
    refine wpIn_fw (fun c hc => by rw [hop] at hc; subst hc; exact h1) ?_
    rw [hr]
    rcases hnx' with rfl | ⟨rfl, rfl⟩
    · exact hN _ _ _ hsim
    · exact hN _ _ _ hsim
  · refine wpIn_fw (fun c' hc' => by rw [hop, hc] at hc'; cases hc') ?_
    obtain ⟨vals, hall, hrun⟩ := call_args (P := P) hs hop hc hcal hfv
    generalize first ++ c.args.toList.map s.ev ++ cap = all at h hall
    rcases h with ⟨ds, rs, hds, hP, rfl, _, hΔ⟩ | ⟨rs, hH, rfl, hrd⟩ | ⟨ds, hds, hP, _, rfl⟩ | ⟨hH, hrd⟩
    · obtain ⟨f1, f2, f3, f4, f5⟩ := freezes hs.heap (V.idss all) (idss_used all _ hall)
      have hput : (⟨s.o, us⟩ : Hp).put (frz s.o (V.idss all)) = ⟨put s.o (frz s.o (V.idss all)), us⟩ := put_used (H := ⟨s.o, us⟩) (by rw [frz_ids]; exact idss_used all _ hall)
      have hdd := toDs_den f1 all ds _ f3 hds (V.dens_mono f2 _ _ hall)
      have hcall := hP.2 _ w vals (fun b hb => hb.elim (f1.old b) fun hl => (f1.ours b hl).2) hdd
      rw [hrun hP.1]
      refine ⟨fun hd => by simp [FWr] at hd, callsIn_fw (hcall.mono fun e w' ⟨hk, ho⟩ => ?_)⟩
      cases e with
      | panicked ch => cases rs with | nil => exact ho.elim | cons x l => cases l <;> exact ho.elim
      | outgrown => cases rs with | nil => exact ho.elim | cons x l => cases l <;> exact ho.elim
      | returned val =>
        rcases hΔ with rfl | ⟨hfl, rfl⟩
        · obtain ⟨k1, k2⟩ := heap_keep f1 hk
          refine hN _ _ _ (simU_put hs k1 (f2.trans k2) (retV_den ho) hdst (by rw [hput]) fun id hu => ?_)
          rw [hput] at hu; exact .inl hu
        · obtain ⟨k1, k2⟩ := heap_keep hs.heap hk
          have ho := R.flat_is (out := .ret rs) (B' := mutB M φ ⟨s.o, us⟩) hfl ho
          exact hN _ _ _ (simU_put hs k1 k2 (retV_den ho) hdst rfl fun id hu => .inl hu)
    · have hcall := hH.2 s.o us M φ w vals (fun id hid => ⟨rfl, hnx id (hrd id hid)⟩) hs.heap hall
      rw [hrun hH.1]
      refine ⟨fun hd => by simp [FWr] at hd, callsIn_fw (hcall.mono fun e w' ⟨φ', k1, k2, ho⟩ => ?_)⟩
      cases e with
      | panicked ch => cases rs with | nil => exact ho.elim | cons x l => cases l <;> exact ho.elim
      | outgrown => cases rs with | nil => exact ho.elim | cons x l => cases l <;> exact ho.elim
      | returned val => exact hN _ _ _ (simU_put hs k1 k2 (retV_den ho) hdst rfl fun id hu => .inl hu)
    · obtain ⟨f1, f2, f3, f4, f5⟩ := freezes hs.heap (V.idss all) (idss_used all _ hall)
      have hput : (⟨s.o, us⟩ : Hp).put (frz s.o (V.idss all)) = ⟨put s.o (frz s.o (V.idss all)), us⟩ := put_used (H := ⟨s.o, us⟩) (by rw [frz_ids]; exact idss_used all _ hall)
      have hdd := toDs_den f1 all ds _ f3 hds (V.dens_mono f2 _ _ hall)
      have hcall := hP.2 _ w vals (fun b hb => hb.elim (f1.old b) fun hl => (f1.ours b hl).2) hdd
      rw [hrun hP.1]
      refine ⟨fun hd => by simp [FWr] at hd, callsIn_fw (hcall.mono fun e w' ⟨hk, val, he, ho⟩ => ?_)⟩
      subst he
      obtain ⟨k1, k2⟩ := heap_keep f1 hk
      refine hN _ _ _ (simU_put hs k1 (f2.trans k2) (ho _ _) hdst (by rw [hput]) fun id hu => ?_)
      rw [hput] at hu; exact .inl hu
    · have hcall := hH.2 s.o us M φ w vals (fun id hid => ⟨rfl, hnx id (hrd id hid)⟩) hfr hs.heap hall
      rw [hrun hH.1]
      refine ⟨fun hd => by simp [FWr] at hd, callsIn_fw (hcall.mono fun e w' ⟨φ', k1, k2, val, he, ho⟩ => ?_)⟩
      subst he
      exact hN _ _ _ (simU_put hs k1 k2 ho hdst rfl fun id hu => hu)
theorem heap_drop {o o2 : Nat → Obj'} {us us2 : Nat → Prop} (hH : HeapOk M φ ⟨o, us⟩ w) (ho : ∀ id, o2 id = o id ∨ o2 id = .no) (hu : ∀ id, us id → us2 id) : HeapOk M φ ⟨o2, us2⟩ w ∧ Trans φ ⟨o, us⟩ w φ ⟨o2, us2⟩ w := by
  have hl : ∀ id, (o2 id).live = true → (o id).live = true := fun id h => by
    rcases ho id with e | e
    · rw [← e]; exact h
    · rw [e] at h; cases h
  have hlb : ∀ b, liveB φ ⟨o2, us2⟩ b → liveB φ ⟨o, us⟩ b := fun b ⟨id, h1, h2⟩ => ⟨id, hl id h1, h2⟩
  have ht : Trans φ ⟨o, us⟩ w φ ⟨o2, us2⟩ w := by
    refine ⟨Keep.refl _ _, fun b hb => .inl (hlb b hb), ⟨hu, fun id _ hr => ?_, fun id e' _ he => ?_⟩⟩
    · rcases ho id with e | e
      · exact ⟨by show (o id).isRow = true; rw [← e]; exact hr, rfl⟩
      · rw [show (⟨o2, us2⟩ : Hp).o id = .no from e] at hr; cases hr
    · rcases ho id with e | e
      · exact ⟨e', by show (o id).epoch = some e'; rw [← e]; exact he, Nat.le_refl _, fun _ => rfl⟩
      · rw [show (⟨o2, us2⟩ : Hp).o id = .no from e] at he; cases he
  refine ⟨⟨fun id => ?_, fun id hn => ?_, fun i j b hi hj => hH.apart i j b (hl i hi) (hl j hj), fun b hb => hH.ours b (hlb b hb), hH.old⟩, ht⟩
  · rcases ho id with e | e
    · exact (hH.ok id).mono ht e rfl fun _ _ _ => rfl
    · unfold ObjOk; rw [show (⟨o2, us2⟩ : Hp).o id = .no from e]; trivial
  · rcases ho id with e | e
    · exact e.trans (hH.fresh id fun h => hn (hu id h))
    · exact e
def panS (ds : List Nat) (wl : List Nat) (N : Nat) (s : S) : S :=
  ⟨fun t => if ds.contains t = true then .junk else s.env t, fun id => if wl.contains id = true then .no else s.o id, s.nx + N⟩
theorem stepP_wp (hs : SimU M φ0 H0 w0 n cx φ s us a w) (hnx : ∀ id, id < s.nx → us id) {N : Nat} (hus : ∀ id, us id → id < s.nx + N) {o : Oper} {op : Op} (hop : o.op = op) {v : V} {ws rd : List Nat} (h : StepP P s op v ws rd)
    {s0 : S} {ds wl : List Nat} (hds : ∀ t, ds.contains t = false → s.env t = s0.env t) (hwl : ∀ id, wl.contains id = false → s.o id = s0.o id) (hws : ∀ id ∈ ws, wl.contains id = true) (hs0 : s0.nx = s.nx)
    (hQ : ∀ φ' w' val, SimC M φ0 H0 w0 n cx φ' (panS ds wl N s0) a w' → V.den (mutB M φ' (panS ds wl N s0).H) φ' (panS ds wl N s0).H w' v val → Q (.panic [{ v := val, recovered := false }]) a w') : o.wpIn (FWr ro) k P a w next Q := by
  obtain ⟨c, f, g, first, cap, hc, hcal, hfv, h⟩ := h
  refine wpIn_fw (fun c' hc' => by rw [hop, hc] at hc'; cases hc') ?_
  obtain ⟨vals, hall, hrun⟩ := call_args (P := P) hs hop hc hcal hfv
  generalize first ++ c.args.toList.map s.ev ++ cap = all at h hall
  
  have fin : ∀ (φ' : Place) (w' : World) (o' : Nat → Obj') (val : Value), (∀ id, wl.contains id = false → o' id = s.o id) → HeapOk M φ' ⟨o', us⟩ w' → Trans φ ⟨s.o, us⟩ w φ' ⟨o', us⟩ w' → V.den (mutB M φ' ⟨o', us⟩) φ' ⟨o', us⟩ w' v val → Q (.panic [{ v := val, recovered := false }]) a w' := by
    intro φ' w' o' val ho' k1 k2 k3
    obtain ⟨m1, m2⟩ := heap_drop (o2 := (panS ds wl N s0).o) (us2 := fun id => id < s0.nx + N) k1 (fun id => by
      show (if wl.contains id = true then Obj'.no else s0.o id) = o' id ∨ _
      by_cases hw : wl.contains id = true
      · right; simp only [panS]; rw [if_pos hw]
      · left; rw [if_neg hw, ho' id (by simpa using hw), hwl id (by simpa using hw)]) (fun id h => by rw [hs0]; exact hus id h)
    have ht := hs.tr.trans (k2.trans m2)
    refine hQ φ' w' val ⟨m1, ht, hs.size, hs.defers.mono (k2.trans m2), fun i => ?_⟩ (V.den_mono m2 _ _ k3)
    show V.den _ _ _ _ (if ds.contains i = true then V.junk else s0.env i) _
    by_cases hd : ds.contains i = true
    · rw [if_pos hd]; trivial
    · rw [if_neg hd, ← hds i (by simpa using hd)]; exact V.den_mono (k2.trans m2) _ _ (hs.env i)
  rcases h with ⟨dd, x, hdd', hP, hfl, rfl, _, rfl⟩ | ⟨x, Δ, hH, rfl, rfl, hrd⟩
  · obtain ⟨f1, f2, f3, f4, f5⟩ := freezes hs.heap (V.idss all) (idss_used all _ hall)
    have hdd := toDs_den f1 all dd _ f3 hdd' (V.dens_mono f2 _ _ hall)
    have hcall := hP.2 _ w vals (fun b hb => hb.elim (f1.old b) fun hl => (f1.ours b hl).2) hdd
    rw [hrun hP.1]
    refine ⟨fun hd => by simp [FWr] at hd, callsIn_fw (hcall.mono fun e w' ⟨hk, ho⟩ => ?_)⟩
    cases e with
    | returned val => exact ho.elim
    | outgrown => exact ho.elim
    | panicked ch =>
      obtain ⟨k1, k2⟩ := heap_keep hs.heap hk
      have ho := R.flat_is (out := .pan x) (B' := mutB M φ ⟨s.o, us⟩) hfl ho
      obtain ⟨val, rfl, hd⟩ := ho
      exact fin φ w' s.o val (fun _ _ => rfl) k1 k2 hd
  · have hcall := hH.2 s.o us M φ w vals (fun id hid => ⟨rfl, hnx id (hrd id hid)⟩) hs.heap hall
    rw [hrun hH.1]
    refine ⟨fun hd => by simp [FWr] at hd, callsIn_fw (hcall.mono fun e w' ⟨φ', k1, k2, ho⟩ => ?_)⟩
    cases e with
    | returned val => exact ho.elim
    | outgrown => exact ho.elim
    | panicked ch =>
      obtain ⟨val, rfl, hd⟩ := ho
      exact fin φ' w' _ val (fun id hid => put_not fun y hy e => by
        have := hws y.1 (List.mem_map_of_mem hy)
        rw [e, hid] at this; cases this) k1 k2 hd
theorem guardIs_sound (henv : ∀ i, V.den (mutB M φ ⟨s.o, us⟩) φ ⟨s.o, us⟩ w (s.env i) (a.tmps.getD i undef)) {ops : Array Oper} {o : Oper} {gd : Option (Nat × Bool)} {b : Bool}
    (hg : match o.guard with | none => gd = none | some (j, want) => ∃ d, dstAt ops j = some d ∧ gd = some (d, want)) (h : guardIs s gd b) : Region.wanted o (yielded ops a.tmps) = b := by
  unfold Region.wanted
  split at hg
  · rename_i hn; simp only [hn]; subst hg; exact h.symm
  · rename_i j want hn
    simp only [hn]
    obtain ⟨d, hd, rfl⟩ := hg
    unfold dstAt at hd
    unfold yielded
    simp only [hd, Option.bind_some]
    simp only [guardIs] at h
    have he := henv d
    split at h
    · rename_i c hv
      rw [hv] at he
      simp only [V.den, D.den] at he
      have : a.tmps[d]? = some (.bool c) := by
        rw [Array.getD_eq_getD_getElem?] at he
        cases hx : a.tmps[d]? with
        | none => rw [hx] at he; simp [undef] at he
        | some x => rw [hx] at he; simp at he; rw [he]
      simp only [this, h]
      cases c <;> cases want <;> rfl
    · rename_i hv
      rw [hv] at he
      obtain ⟨arr, harr, hn⟩ := he
      have : ∀ c, a.tmps[d]? ≠ some (.bool c) := by
        intro c hx
        rw [Array.getD_eq_getD_getElem?, hx] at harr
        simp at harr
      subst h
      cases hx : a.tmps[d]? with
      | none => rfl
      | some x => cases x <;> first | (exact absurd hx (this _)) | rfl
    · exact h.elim
theorem guardIs_frame {s s' : S} {gd : Option (Nat × Bool)} {b : Bool} (h : ∀ d want, gd = some (d, want) → s'.env d = s.env d) (hg : guardIs s gd b) : guardIs s' gd b := by
  unfold guardIs at *
  cases gd with
  | none => exact hg
  | some p => obtain ⟨d, want⟩ := p; simp only at hg ⊢; rw [h d want rfl]; exact hg
theorem ev_frame {s s' : S} {x : Operand} (h : ∀ t, x = .tmp t → s'.env t = s.env t) : s'.ev x = s.ev x := by
  cases x <;> simp only [S.ev]
  exact h _ rfl
theorem call_frame {s s' : S} {op : Op} {c : Call} {f : Operand} {g : FuncId} {first cap : List V} (hv : ∀ x ∈ op.operands, s'.ev x = s.ev x) (hc : op = .call c) (hcal : c.callee = .value f) (hfv : s.ev f = .func (.func g) first cap) :
    s'.ev f = .func (.func g) first cap ∧ c.args.toList.map s'.ev = c.args.toList.map s.ev := by
  subst hc
  exact ⟨(hv f (by simp only [Op.operands, Call.operands, hcal]; exact Array.mem_append.2 (.inl (by simp)))).trans hfv,
    List.map_congr_left fun x hx => hv x (by simp only [Op.operands, Call.operands]; exact Array.mem_append.2 (.inr (Array.mem_toList_iff.1 hx)))⟩
theorem HCt.frame {g : FuncId} {args : List V} {rd : List Nat} {o o' : Nat → Obj'} {out : R} {Δ : List (Nat × Obj')} (ho : ∀ id ∈ rd, o' id = o id) (h : HCt P g args rd o out Δ) : HCt P g args rd o' out Δ :=
  ⟨h.1, fun o2 us M φ w vals h1 h2 h3 => h.2 o2 us M φ w vals (fun id hid => ⟨(h1 id hid).1.trans (ho id hid), (h1 id hid).2⟩) h2 h3⟩
theorem HVt.frame {g : FuncId} {args : List V} {rd : List Nat} {o o' : Nat → Obj'} {fr : Nat} {v : V} {Δ : List (Nat × Obj')} (ho : ∀ id ∈ rd, o' id = o id) (h : HVt P g args rd o fr v Δ) : HVt P g args rd o' fr v Δ :=
  ⟨h.1, fun o2 us M φ w vals h1 h2 h3 => h.2 o2 us M φ w vals (fun id hid => ⟨(h1 id hid).1.trans (ho id hid), (h1 id hid).2⟩) h2 h3⟩
theorem stepA_frame {s s' : S} {fr : Nat} {op : Op} {v : V} {Δ : List (Nat × Obj')} {rd : List Nat} (hv : ∀ x ∈ op.operands, s'.ev x = s.ev x) (ho : ∀ id ∈ rd, s'.o id = s.o id) (hnx : s'.nx = s.nx) (h : StepA P s fr op v Δ rd) : ∃ rd', StepA P s' fr op v Δ rd' := by
  rcases h with ⟨⟨rd', h⟩, hrd⟩ | ⟨c, f, g, first, cap, rfl, hcal, hfv, h⟩
  · exact ⟨_, .inl ⟨⟨rd', by rw [sopF_frame op hv (by rw [← hrd]; exact ho)]; exact h⟩, rfl⟩⟩
  · obtain ⟨hf, hm⟩ := call_frame hv rfl hcal hfv
    rcases h with ⟨ds, rs, hds, hP, hv', hrd, hΔ⟩ | ⟨rs, hH, hv', hrd⟩ | ⟨ds, hds, hP, hrd, hΔ⟩ | ⟨hH, hrd⟩
    · have hr : ∀ id ∈ V.refss (first ++ c.args.toList.map s.ev ++ cap), s'.o id = s.o id := fun id hid => ho id (by rw [hrd]; simp only [opR, hcal, hfv]; exact hid)
      refine ⟨_, .inr ⟨c, f, g, first, cap, rfl, hcal, hf, .inl ⟨ds, rs, by rw [hm, toDs_frame _ hr]; exact hds, hP, hv', rfl, ?_⟩⟩⟩
      rw [hm, frz_frame (o := s.o) fun id hid => hr id (idss_refss _ id hid)]
      exact hΔ
    · exact ⟨rd, .inr ⟨c, f, g, first, cap, rfl, hcal, hf, .inr (.inl ⟨rs, by rw [hm]; exact hH.frame ho, hv', by rw [hnx]; exact hrd⟩)⟩⟩
    · have hr : ∀ id ∈ V.refss (first ++ c.args.toList.map s.ev ++ cap), s'.o id = s.o id := fun id hid => ho id (by rw [hrd]; simp only [opR, hcal, hfv]; exact hid)
      refine ⟨_, .inr ⟨c, f, g, first, cap, rfl, hcal, hf, .inr (.inr (.inl ⟨ds, by rw [hm, toDs_frame _ hr]; exact hds, hP, rfl, ?_⟩))⟩⟩
      rw [hm, frz_frame (o := s.o) fun id hid => hr id (idss_refss _ id hid)]
      exact hΔ
    · exact ⟨rd, .inr ⟨c, f, g, first, cap, rfl, hcal, hf, .inr (.inr (.inr ⟨by rw [hm]; exact hH.frame ho, by rw [hnx]; exact hrd⟩))⟩⟩
theorem stepP_frame {s s' : S} {op : Op} {v : V} {ws rd : List Nat} (hv : ∀ x ∈ op.operands, s'.ev x = s.ev x) (ho : ∀ id ∈ rd, s'.o id = s.o id) (hnx : s'.nx = s.nx) (h : StepP P s op v ws rd) : StepP P s' op v ws rd := by
  obtain ⟨c, f, g, first, cap, rfl, hcal, hfv, h⟩ := h
  obtain ⟨hf, hm⟩ := call_frame hv rfl hcal hfv
  refine ⟨c, f, g, first, cap, rfl, hcal, hf, ?_⟩
  rw [hm]
  rcases h with ⟨ds, x, hds, hP, hfl, hv', hrd, hws⟩ | ⟨x, Δ, hH, hv', hws, hrd⟩
  · have hr : ∀ id ∈ V.refss (first ++ c.args.toList.map s.ev ++ cap), s'.o id = s.o id := fun id hid => ho id (by rw [hrd]; simp only [opR, hcal, hfv]; exact hid)
    exact .inl ⟨ds, x, by rw [toDs_frame _ hr]; exact hds, hP, hfl, hv', by rw [hrd]; simp only [opR, hcal, hfv, hf, hm], hws⟩
  · exact .inr ⟨x, Δ, hH.frame ho, hv', hws, by rw [hnx]; exact hrd⟩
theorem lowL_get {ops : Array Oper} : ∀ (l : List Oper) (l' : List IOp) (i : Nat) (o : Oper), lowL n ops l = some l' → l[i]? = some o → lowO n ops o = some (ocOf l' i)
  | [], _, _, _, _, h => by simp at h
  | x :: l, l', i, o, h, hi => by
    simp only [lowL] at h
    split at h
    · rename_i y ys hy hys
      injection h with h; subst h
      cases i with
      | zero => simp at hi; subst hi; exact hy
      | succ i => exact lowL_get l ys i o hys (by simpa using hi)
    · cases h
theorem lowO_spec {ops : Array Oper} {o : Oper} {x : IOp} (h : lowO n ops o = some x) : x.op = o.op ∧ x.dst = o.dst ∧ dstOk n o.dst ∧
    (match o.guard with | none => x.gd = none | some (j, want) => ∃ d, dstAt ops j = some d ∧ x.gd = some (d, want)) := by
  unfold lowO at h
  split at h
  · rename_i hd
    have hdst : dstOk n o.dst := by
      unfold dstOkB at hd; unfold dstOk
      split at hd <;> simp_all
    cases hg : o.guard with
    | none => simp only [hg] at h; injection h with h; subst h; exact ⟨rfl, rfl, hdst, rfl⟩
    | some p =>
      obtain ⟨j, want⟩ := p
      simp only [hg] at h
      cases hdj : dstAt ops j with
      | none => simp [hdj] at h
      | some d => simp only [hdj] at h; injection h with h; subst h; exact ⟨rfl, rfl, hdst, d, hdj, rfl⟩
  · cases h
theorem all_listed {ops : Array Oper} {listed : Array Bool} (hpr : ∀ k, k < ops.size → ∀ j ∈ predsOf ops k, j < k) (hs : listed.size = ops.size) (hr : Region.ready .any ops listed = []) : ∀ k, k < ops.size → listed.getD k false = true := by
  intro k
  induction k using Nat.strongRecOn with
  | _ k ih =>
    intro hk
    cases hl : listed.getD k false with
    | true => rfl
    | false =>
      have : k ∈ Region.ready .any ops listed := by
        refine mem_ready.2 ⟨?_, ops[k], by simp [hk], fun e he hb => ?_⟩
        · simp only [Array.getD_eq_getD_getElem?] at hl ⊢
          rw [Array.getElem?_eq_getElem (by omega)] at hl ⊢
          simpa using hl
        · have hm : e.on ∈ predsOf ops k := by
            simp only [predsOf, Array.getElem?_eq_getElem hk, List.mem_map, List.mem_filter]
            exact ⟨e, ⟨Array.mem_toList_iff.2 he, hb⟩, rfl⟩
          exact ih _ (hpr k hk _ hm) (by have := hpr k hk _ hm; omega)
      rw [hr] at this; cases this
theorem sim_drew (hs : SimC M φ0 H0 w0 n cx φ s a w) : SimC M φ0 H0 w0 n cx φ s a { w with drawn := w.drawn + 1 } := by
  obtain ⟨k1, k2⟩ := heap_keep (w' := { w with drawn := w.drawn + 1 }) hs.heap ⟨rfl, rfl, rfl, Nat.le_refl _, fun _ _ _ => rfl⟩
  exact ⟨k1, hs.tr.trans k2, hs.size, hs.defers.mono k2, fun i => V.den_mono k2 _ _ (hs.env i)⟩
theorem stF_nx {oc : Nat → IOp} {ac : Nat → ActR} {E : Nat → Bool} : ∀ k, (stF oc ac E s k).nx = s.nx
  | 0 => rfl
  | k + 1 => by
    simp only [stF]
    split
    · cases ac k <;> exact stF_nx k
    · exact stF_nx k
theorem stF_env {oc : Nat → IOp} {ac : Nat → ActR} {E : Nat → Bool} {t : Nat} : ∀ k, (∀ j, j < k → (oc j).dst ≠ some t) → (stF oc ac E s k).env t = s.env t
  | 0, _ => rfl
  | k + 1, h => by
    have ih := stF_env (oc := oc) (ac := ac) (E := E) (t := t) k fun j hj => h j (by omega)
    simp only [stF]
    split
    · rw [apA_env_other fun d hd e => h k (by omega) (by rw [hd, e])]; exact ih
    · exact ih
theorem stF_o {oc : Nat → IOp} {ac : Nat → ActR} {E : Nat → Bool} {id : Nat} : ∀ k, (∀ j, j < k → id ∉ actW (ac j)) → (stF oc ac E s k).o id = s.o id
  | 0, _ => rfl
  | k + 1, h => by
    have ih := stF_o (oc := oc) (ac := ac) (E := E) (id := id) k fun j hj => h j (by omega)
    simp only [stF]
    split
    · rw [apA_o_other (h k (by omega))]; exact ih
    · exact ih
theorem draw_any (hmix : P.follows .mixedOrders = true) {ops : Array Oper} {l : List IOp} {id : Nat} (hlow : lowL n ops ops.toList = some l) (hpr : ∀ k, k < ops.size → ∀ j ∈ predsOf ops k, j < k) {ac : Nat → ActR} {dl wl : List Nat}
    (hs : SimC M φ0 H0 w0 n cx φ s a w) (hlex : ∀ i, i < ops.size → OkA P (stF (ocOf l) ac (fun _ => true) s i) (s.nx + i) (ocOf l i) (ac i))
    (hblk : ∀ i, i < ops.size → ac i = .blk → ∃ j ∈ predsOf ops i, (ac j).ok = false)
    {po : Nat → Nat → Prop} (hpo : ∀ E : Nat → Bool, (∀ k, k < ops.size → E k = true → ∀ j ∈ predsOf ops k, E j = true) → ∀ k, k < ops.size → (∀ j ∈ predsOf ops k, E j = true) → ∀ j, po k j → E j = true) (hpo2 : ∀ k, k < ops.size → ∀ j, po k j → j < k)
    (hc : ∀ i j, i < j → j < ops.size → ¬ po j i → Compat (ocOf l) ac (fun i => actR (ac i)) i j)
    (hdl : ∀ i, i < ops.size → ∀ t, (ocOf l i).dst = some t → dl.contains t = true) (hwl : ∀ i, i < ops.size → ∀ id ∈ actW (ac i), wl.contains id = true)
    (hws : ∀ i v ws rd, i < ops.size → ac i = .pan v ws rd → ∀ id ∈ ws, wl.contains id = true)
    (hQ : (∀ i, i < ops.size → (ac i).ok = true) → ∀ φ a w, SimC M φ0 H0 w0 n cx φ ⟨(stF (ocOf l) ac (fun _ => true) s ops.size).env, (stF (ocOf l) ac (fun _ => true) s ops.size).o, s.nx + ops.size⟩ a w → Q .normal a w)
    (hX : ∀ i v ws rd, i < ops.size → ac i = .pan v ws rd → ∀ φ a w val, SimC M φ0 H0 w0 n cx φ (panS dl wl ops.size s) a w → V.den (mutB M φ (panS dl wl ops.size s).H) φ (panS dl wl ops.size s).H w v val → Q (.panic [{ v := val, recovered := false }]) a w) :
    (Code.region id ops true).wpIn (FWr ro) k P Q a w := by
  refine wpIn_region_any hmix ?_
  have hs := sim_drew hs
  generalize ({ w with drawn := w.drawn + 1 } : World) = w at hs
  let N := ops.size
  let Ef (listed : Array Bool) (k : Nat) : Bool := listed.getD k false
  let usE (listed : Array Bool) (j : Nat) : Prop := j < s.nx ∨ ∃ k, k < N ∧ Ef listed k = true ∧ j = s.nx + k
  have key : ∀ (fuel : Nat) (listed : Array Bool) (φ : Place) (a : Act) (w : World), listed.size = N → listed.count true + fuel = N → (∀ k, k < N → Ef listed k = true → ∀ j ∈ predsOf ops k, Ef listed j = true) → (∀ k, k < N → Ef listed k = true → (ac k).ok = true) →
      SimU M φ0 H0 w0 n cx φ (stF (ocOf l) ac (Ef listed) s N) (usE listed) a w → wpAnyIn (FWr ro) k P .any ops Q fuel listed a w := by
    have fin : ∀ (listed : Array Bool) (φ : Place) (a : Act) (w : World), (∀ k, k < N → Ef listed k = true) → (∀ k, k < N → Ef listed k = true → (ac k).ok = true) → SimU M φ0 H0 w0 n cx φ (stF (ocOf l) ac (Ef listed) s N) (usE listed) a w → Q .normal a w := by
      intro listed φ a w hall hokl hu
      have e : ∀ k, k ≤ N → stF (ocOf l) ac (Ef listed) s k = stF (ocOf l) ac (fun _ => true) s k := by
        intro k
        induction k with
        | zero => intro _; rfl
        | succ k ih => intro hk; simp only [stF, hall k (by omega), ih (by omega)]
      rw [e N (Nat.le_refl _)] at hu
      obtain ⟨k1, k2⟩ := heap_us (us' := fun id => id < s.nx + N) hu.heap (fun id h => by
        show id < s.nx + N
        rcases h with h | ⟨k, hk, _, rfl⟩ <;> omega)
      exact hQ (fun i hi => hokl i hi (hall i hi)) φ a w ⟨k1, hu.tr.trans k2, hu.size, hu.defers.mono k2, fun i => V.den_mono k2 _ _ (hu.env i)⟩
    intro fuel
    induction fuel with
    | zero =>
      intro listed φ a w hsz hcnt hcl hokl hu
      have hall : ∀ k, k < N → Ef listed k = true := by
        intro k hk
        have h1 : listed.count true = listed.size := by omega
        rw [Array.count_eq_size] at h1
        have := h1 listed[k] (Array.getElem_mem (by omega))
        simp only [Ef, Array.getD_eq_getD_getElem?]
        rw [Array.getElem?_eq_getElem (by omega)]
        simpa using this.symm
      refine ⟨?_, fin listed φ a w hall hokl hu⟩
      rw [List.eq_nil_iff_forall_not_mem]
      intro k hk
      obtain ⟨h1, o, h2, _⟩ := mem_ready.1 hk
      have hkN : k < N := (Array.getElem?_eq_some_iff.1 h2).1
      have := hall k hkN
      simp only [Ef, Array.getD_eq_getD_getElem?] at this h1
      rw [Array.getElem?_eq_getElem (by omega)] at this h1
      simp only [Option.getD_some] at this h1
      rw [this] at h1; cases h1
    | succ fuel ih =>
      intro listed φ a w hsz hcnt hcl hokl hu
      refine ⟨fun hr => fin listed φ a w (all_listed hpr hsz hr) hokl hu, fun i hi => ?_⟩
      obtain ⟨h1, o, h2, h3⟩ := mem_ready.1 hi
      have hiN : i < N := (Array.getElem?_eq_some_iff.1 h2).1
      have hni : Ef listed i = false := by
        simp only [Ef, Array.getD_eq_getD_getElem?] at h1 ⊢
        rw [Array.getElem?_eq_getElem (by omega)] at h1 ⊢
        simpa using h1
      have hpi : ∀ j ∈ predsOf ops i, Ef listed j = true := by
        intro j hj
        simp only [predsOf, h2, List.mem_map, List.mem_filter] at hj
        obtain ⟨e, ⟨he, hb⟩, rfl⟩ := hj
        exact h3 e (Array.mem_toList_iff.1 he) hb
      have hclo : Closed N po (Ef listed) := fun k hk hek => hpo _ hcl k hk (hcl k hk hek)
      obtain ⟨ag1, ag2⟩ := agree (s := s) hpo2 hc hclo hiN hni (hpo _ hcl i hiN hpi)
      obtain ⟨g1, g2, g3, g4⟩ := lowO_spec (lowL_get _ _ i o hlow (by simpa using h2))
      have hfr : ¬ usE listed (s.nx + i) := by
        rintro (h | ⟨k, _, hk, he⟩)
        · omega
        · have : k = i := by omega
          subst this; rw [hni] at hk; cases hk
      have hE' : ∀ k, Ef (listed.setIfInBounds i true) k = (Ef listed k || k == i) := by
        intro k
        simp only [Ef, Array.getD_eq_getD_getElem?]
        by_cases e : k = i
        · subst e; simp [hsz, hiN]
        · rw [Array.getElem?_setIfInBounds_ne (Ne.symm e)]
          have : (k == i) = false := by simpa using e
          simp [this]
      have hins := insert (s := s) hc hclo hiN hni hE'
      have hcl' : ∀ k, k < N → Ef (listed.setIfInBounds i true) k = true → ∀ j ∈ predsOf ops k, Ef (listed.setIfInBounds i true) j = true := by
        intro k hk hek j hj
        rw [hE'] at hek ⊢
        by_cases e : k = i
        · subst e; simp [hpi j hj]
        · have : (k == i) = false := by simpa using e
          rw [this, Bool.or_false] at hek
          simp [hcl k hk hek j hj]
      have hcnt' : (listed.setIfInBounds i true).count true + fuel = N := by
        have hlt : i < listed.size := by omega
        have e1 : listed.setIfInBounds i true = listed.set i true hlt := by simp [Array.setIfInBounds, hlt]
        have e2 : listed[i] = false := by
          have := hni
          simp only [Ef, Array.getD_eq_getD_getElem?] at this
          rw [Array.getElem?_eq_getElem hlt] at this
          simpa using this
        rw [e1, Array.count_set hlt, e2]
        simp
        omega
      have hnext : (ac i).ok = true → ∀ φ' a' w', SimU M φ0 H0 w0 n cx φ' (apA o.dst (ac i) (stF (ocOf l) ac (Ef listed) s N)) (fun id => usE listed id ∨ id = s.nx + i) a' w' → wpAnyIn (FWr ro) k P .any ops Q fuel (listed.setIfInBounds i true) a' w' := by
        intro hoki φ' a' w' hu'
        refine ih _ φ' a' w' (by simp [hsz]) hcnt' hcl' (fun k hk hek => ?_) ?_
        · rw [hE'] at hek
          by_cases e : k = i
          · subst e; exact hoki
          · have : (k == i) = false := by simpa using e
            rw [this, Bool.or_false] at hek
            exact hokl k hk hek
        rw [hins, g2]
        obtain ⟨k1, k2⟩ := heap_us (us' := usE (listed.setIfInBounds i true)) hu'.heap (fun id h => by
          rcases h with (h | ⟨k, hk, hek, rfl⟩) | rfl
          · exact .inl h
          · exact .inr ⟨k, hk, by rw [hE', hek]; rfl, rfl⟩
          · exact .inr ⟨i, hiN, by rw [hE']; simp, rfl⟩)
        exact ⟨k1, hu'.tr.trans k2, hu'.size, hu'.defers.mono k2, fun j => V.den_mono k2 _ _ (hu'.env j)⟩
      have hgfr : ∀ d want, (ocOf l i).gd = some (d, want) → (stF (ocOf l) ac (Ef listed) s N).env d = (stF (ocOf l) ac (fun _ => true) s i).env d := fun d want hd => ag1 d (by simp [touches, tmpsOf, hd])
      have hok := hlex i hiN
      have hops : ∀ x ∈ (ocOf l i).op.operands, (stF (ocOf l) ac (Ef listed) s N).ev x = (stF (ocOf l) ac (fun _ => true) s i).ev x := fun x hx => ev_frame fun t ht => ag1 t (by
        subst ht
        simp only [touches, tmpsOf, List.mem_append, List.mem_filterMap]
        exact .inl (.inl ⟨.tmp t, Array.mem_toList_iff.2 hx, rfl⟩))
      have hnxe : (stF (ocOf l) ac (Ef listed) s N).nx = (stF (ocOf l) ac (fun _ => true) s i).nx := (stF_nx N).trans (stF_nx i).symm
      unfold wpOpIn
      simp only [h2]
      cases hac : ac i with
      | skip =>
        rw [hac] at hok hnext
        have hw := guardIs_sound hu.env g4 (guardIs_frame hgfr hok)
        simp only [hw, Bool.false_eq_true, if_false]
        refine ⟨fun _ _ => trivial, hnext rfl φ _ w ?_⟩
        have := simU_put (v := .tup []) (val := undef) hu hu.heap (Trans.refl _ _ _) ⟨#[], rfl, rfl⟩ (dst := o.dst) g3 rfl (us' := fun id => usE listed id ∨ id = s.nx + i) (fun id h => .inl h)
        exact this
      | val v Δ rd =>
        rw [hac] at hok hnext
        have hw := guardIs_sound hu.env g4 (guardIs_frame hgfr hok.1)
        simp only [hw, if_true]
        obtain ⟨rd', hst⟩ := stepA_frame hops (fun id hid => ag2 id (by rw [hac]; exact hid)) hnxe hok.2
        exact stepA_wp hu hfr (fun id h => .inl (by rw [stF_nx] at h; exact h)) g1.symm g3 hst (hnext rfl)
      | pan v ws rd =>
        rw [hac] at hok
        have hw := guardIs_sound hu.env g4 (guardIs_frame hgfr hok.1)
        simp only [hw, if_true]
        have hst := stepP_frame hops (fun id hid => ag2 id (by rw [hac]; exact hid)) hnxe hok.2
        refine stepP_wp (s0 := s) (ds := dl) (wl := wl) (N := N) hu (fun id h => .inl (by rw [stF_nx] at h; exact h)) (fun id h => ?_) g1.symm hst (fun t ht => ?_) (fun id hid => ?_) (hws i v ws rd hiN hac) (stF_nx N).symm (fun φ' w' val h1 h2 => hX i v ws rd hiN hac φ' a w' val h1 h2)
        · rw [stF_nx]
          rcases h with h | ⟨k, hk, _, rfl⟩ <;> omega
        · refine stF_env N fun j hj e => ?_
          have := hdl j hj t e
          rw [ht] at this; cases this
        · refine stF_o N fun j hj hm => ?_
          have := hwl j hj id hm
          rw [hid] at this; cases this
      | blk =>
        exfalso
        obtain ⟨j, hj, hbad⟩ := hblk i hiN hac
        have := hokl j (Nat.lt_trans (hpr i hiN j hj) hiN) (hpi j hj)
        rw [hbad] at this; cases this
  refine key ops.size _ φ a w (by simp [N]) (by simp [N, Array.count_replicate]) (fun k hk hek => ?_) (fun k hk hek => ?_) ?_
  · simp [Ef, Array.getD_eq_getD_getElem?, Array.getElem?_replicate] at hek
    split at hek <;> simp at hek
  · simp [Ef, Array.getD_eq_getD_getElem?, Array.getElem?_replicate] at hek
    split at hek <;> simp at hek
  · have e : ∀ k, stF (ocOf l) ac (Ef (Array.replicate ops.size false)) s k = s := by
      intro k
      induction k with
      | zero => rfl
      | succ k ih =>
        have : Ef (Array.replicate ops.size false) k = false := by
          simp only [Ef, Array.getD_eq_getD_getElem?, Array.getElem?_replicate]
          split <;> rfl
        simp only [stF, this, ih]
        rfl
    rw [e]
    obtain ⟨k1, k2⟩ := heap_us (us' := usE (Array.replicate ops.size false)) hs.heap (fun id h => .inl h)
    exact ⟨k1, hs.tr.trans k2, hs.size, hs.defers.mono k2, fun j => V.den_mono k2 _ _ (hs.env j)⟩
end
end Go.Proofs.YtealblliddhgiaaGreat
