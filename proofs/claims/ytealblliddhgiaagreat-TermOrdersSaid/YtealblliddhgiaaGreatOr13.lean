/-
  A PART OF THE PROOF (put together by program): several texts, one behind the other. Conditions: none.
-/
import Derived.Test.YtealblliddhgiaaGreatOr12
set_option linter.unusedSimpArgs false
set_option linter.unusedVariables false
namespace Go.Proofs.YtealblliddhgiaaGreat
mutual

def V.refs : V → List Nat
  | .ptr id _ => [id] | .osl id _ => [id] | .pe id _ _ _ _ => [id] | .rsl id _ _ => [id] | .mp id => [id] | .yld id => [id]
  | .agg cs => V.refss cs
  | .tup cs => V.refss cs
  | .func _ a b => V.refss a ++ V.refss b
  | .iface _ x => x.refs
  | _ => []
def V.refss : List V → List Nat
  | [] => []
  | v :: vs => v.refs ++ V.refss vs
end
mutual
theorem ids_refs : ∀ (v : V), ∀ id ∈ v.ids, id ∈ v.refs
  | .osl id _, j, h => by simpa [V.ids, V.refs] using h
  | .agg cs, j, h => by simp only [V.ids] at h; simp only [V.refs]; exact idss_refss cs j h
  | .iface _ x, j, h => by simp only [V.ids] at h; simp only [V.refs]; exact ids_refs x j h
  | .mp _, j, h => by simpa [V.ids, V.refs] using h
  | .d _, _, h | .nils, _, h | .tup _, _, h | .ptr _ _, _, h | .pe _ _ _ _ _, _, h | .pp _ _, _, h | .func _ _ _, _, h | .junk, _, h | .csl _, _, h | .rsl _ _ _, _, h | .anyb, _, h | .yld _, _, h => by simp [V.ids] at h
theorem idss_refss : ∀ (vs : List V), ∀ id ∈ V.idss vs, id ∈ V.refss vs
  | [], j, h => by simp [V.idss] at h
  | v :: vs, j, h => by
    simp only [V.idss, V.refss, List.mem_append] at h ⊢
    exact h.imp (ids_refs v j) (idss_refss vs j)
end
mutual
theorem toD_frame {o o' : Nat → Obj'} : ∀ (v : V), (∀ id ∈ v.refs, o' id = o id) → toD o' v = toD o v
  | .osl id ep, h => by simp only [toD, h id (by simp [V.refs])]
  | .mp id, h => by simp only [toD, h id (by simp [V.refs])]
  | .agg cs, h => by simp only [toD, toDs_frame cs (by simpa [V.refs] using h)]
  | .iface t x, h => by simp only [toD, toD_frame x (by simpa [V.refs] using h)]
  | .d _, _ | .nils, _ | .tup _, _ | .ptr _ _, _ | .pe _ _ _ _ _, _ | .pp _ _, _ | .func _ _ _, _ | .junk, _ | .csl _, _ | .rsl _ _ _, _ | .anyb, _ | .yld _, _ => by simp only [toD]
theorem toDs_frame {o o' : Nat → Obj'} : ∀ (vs : List V), (∀ id ∈ V.refss vs, o' id = o id) → toDs o' vs = toDs o vs
  | [], _ => rfl
  | v :: vs, h => by
    simp only [toDs, toD_frame v (fun id hid => h id (by simp [V.refss, hid])), toDs_frame vs (fun id hid => h id (by simp [V.refss, hid]))]
end
theorem frz_frame {o o' : Nat → Obj'} {ids : List Nat} (h : ∀ id ∈ ids, o' id = o id) : frz o' ids = frz o ids := by
  rw [frz_eq, frz_eq]
  exact List.map_congr_left fun id hid => by rw [h id hid]
def opR (s : S) (op : Op) : List Nat :=
  match op with
  | .load _ x => (s.ev x).refs
  | .nilCheck x => (s.ev x).refs
  | .fieldAddr _ x _ => (s.ev x).refs
  | .indexAddr _ x _ => (s.ev x).refs
  | .store _ x v => (s.ev x).refs ++ (s.ev v).refs
  | .buildSlice _ _ parts => V.refss (parts.toList.map fun p => s.ev p.2)
  | .binOp _ _ x y _ => (s.ev x).refs ++ (s.ev y).refs
  | .slice _ x _ _ _ => (s.ev x).refs
  | .lookup _ m k _ => (s.ev m).refs ++ (s.ev k).refs
  | .mapUpdate _ m k v => (s.ev m).refs ++ ((s.ev k).refs ++ (s.ev v).refs)
  | .insert _ m k v => (s.ev m).refs ++ ((s.ev k).refs ++ (s.ev v).refs)
  | .range _ x => (s.ev x).refs
  | .next x _ => (s.ev x).refs
  | .entry x => (s.ev x).refs
  | .call c => match c.callee with
    | .builtin _ => V.refss (c.args.toList.map s.ev)
    | .value f => match s.ev f with
      | .func _ first cap => V.refss (first ++ c.args.toList.map s.ev ++ cap)
      | _ => []
    | _ => []
  | _ => []
section
variable {P : Program} {s s' : S} {fr : Nat}
theorem listF_frame {o o' : Nat → Obj'} (v : V) (h : ∀ id ∈ v.refs, o' id = o id) : listF o' v = listF o v := by
  cases v with
  | osl id ep => simp only [listF, h id (by simp [V.refs])]
  | d x => cases x <;> rfl
  | _ => rfl
theorem stepF_frame {o o' : Nat → Obj'} (v : V) (q : Nat) (h : ∀ id ∈ v.refs, o' id = o id) : stepF o' v q = stepF o v q := by
  cases v <;> simp only [stepF] <;> rw [h _ (by simp [V.refs])]
theorem nilF_frame {o o' : Nat → Obj'} (v : V) (h : ∀ id ∈ v.refs, o' id = o id) : nilF o' v = nilF o v := by
  have h1 : listV o' v = listV o v := by unfold listV; rw [toD_frame v h]
  cases v <;> first | rfl | simp only [nilF, h1]
theorem mapNil_frame {o o' : Nat → Obj'} (v : V) (h : ∀ id ∈ v.refs, o' id = o id) : mapNil o' v = mapNil o v := by
  cases v with
  | mp id => simp only [mapNil, h id (by simp [V.refs])]
  | d x => cases x <;> rfl
  | _ => rfl
theorem ptrNil_frame {o o' : Nat → Obj'} (v : V) (h : ∀ id ∈ v.refs, o' id = o id) : ptrNil o' v = ptrNil o v := by
  cases v with
  | ptr id off => simp only [ptrNil, h id (by simp [V.refs])]
  | d x => cases x <;> rfl
  | _ => rfl
theorem mapEs_frame {o o' : Nat → Obj'} (v : V) (h : ∀ id ∈ v.refs, o' id = o id) : mapEs o' v = mapEs o v := by
  cases v with
  | mp id => simp only [mapEs, h id (by simp [V.refs])]
  | d x => cases x <;> rfl
  | _ => rfl
theorem mapRd_frame {o o' : Nat → Obj'} (v : V) (h : ∀ id ∈ v.refs, o' id = o id) : mapRd o' v = mapRd o v := by
  cases v with
  | mp id => simp only [mapRd, h id (by simp [V.refs])]
  | d x => cases x <;> rfl
  | _ => rfl
theorem nextF_frame {o o' : Nat → Obj'} (v : V) (str : Bool) (h : ∀ id ∈ v.refs, o' id = o id) : nextF o' v str = nextF o v str := by
  cases v with
  | ptr id off => cases off <;> simp only [nextF, h id (by simp [V.refs])]
  | _ => rfl
theorem entryF_frame {o o' : Nat → Obj'} (v : V) (h : ∀ id ∈ v.refs, o' id = o id) : entryF o' v = entryF o v := by
  cases v with
  | ptr id off => cases off <;> simp only [entryF, h id (by simp [V.refs])]
  | _ => rfl
theorem rangeF_frame {o o' : Nat → Obj'} {fr : Nat} {t : TypeId} {P : Program} (v : V) (h : ∀ id ∈ v.refs, o' id = o id) : rangeF P o' fr t v = rangeF P o fr t v := by
  unfold rangeF
  cases v with
  | mp id => simp only [h id (by simp [V.refs])]
  | d x => cases x <;> rfl
  | _ => rfl
theorem ptrRow_frame {o o' : Nat → Obj'} (v : V) (h : ∀ id ∈ v.refs, o' id = o id) : ptrRow o' v = ptrRow o v := by
  cases v with
  | ptr id off => simp only [ptrRow, h id (by simp [V.refs])]
  | _ => rfl
theorem rslRow_frame {o o' : Nat → Obj'} (v : V) (h : ∀ id ∈ v.refs, o' id = o id) : rslRow o' v = rslRow o v := by
  cases v with
  | rsl id off n => simp only [rslRow, h id (by simp [V.refs])]
  | _ => rfl
theorem sopF_frame (op : Op) (hv : ∀ x ∈ op.operands, s'.ev x = s.ev x) (ho : ∀ id ∈ opR s op, s'.o id = s.o id) : sopF P s' fr op = sopF P s fr op := by
  cases op <;> simp only [sopF]
  case move x => rw [hv x (by simp [Op.operands])]
  case assign x => rw [hv x (by simp [Op.operands])]
  case pick c a b => rw [hv c (by simp [Op.operands]), hv a (by simp [Op.operands]), hv b (by simp [Op.operands])]
  case box t x => rw [hv x (by simp [Op.operands])]
  case build t parts =>
    have : (parts.toList.map fun p => (p.1, s'.ev p.2)) = parts.toList.map fun p => (p.1, s.ev p.2) :=
      List.map_congr_left fun p hp => by rw [hv p.2 (by simp only [Op.operands]; simp; exact ⟨p.1, by simpa using hp⟩)]
    rw [this]
  case buildSlice t len parts =>
    have : (parts.toList.map fun p => (p.1, s'.ev p.2)) = parts.toList.map fun p => (p.1, s.ev p.2) :=
      List.map_congr_left fun p hp => by rw [hv p.2 (by simp only [Op.operands]; simp; exact ⟨p.1, by simpa using hp⟩)]
    rw [this]
    have e : (parts.toList.map fun p => (p.1, s.ev p.2)).map (·.2) = parts.toList.map fun p => s.ev p.2 := by simp [Function.comp_def]
    have h1 : toDs s'.o ((parts.toList.map fun p => (p.1, s.ev p.2)).map (·.2)) = toDs s.o ((parts.toList.map fun p => (p.1, s.ev p.2)).map (·.2)) := toDs_frame _ (by rw [e]; exact ho)
    have h2 : frz s'.o (V.idss ((parts.toList.map fun p => (p.1, s.ev p.2)).map (·.2))) = frz s.o (V.idss ((parts.toList.map fun p => (p.1, s.ev p.2)).map (·.2))) :=
      frz_frame fun id hid => ho id (by rw [e] at hid; exact idss_refss _ id hid)
    simp only [buildSliceF, h1, h2]
  case load t x =>
    rw [hv x (by simp [Op.operands])]
    cases hx : s.ev x <;> simp only [loadF] <;> rw [ho _ (by simp [opR, hx, V.refs])]
  case store t x y =>
    rw [hv x (by simp [Op.operands]), hv y (by simp [Op.operands])]
    have h1 : toD s'.o (s.ev y) = toD s.o (s.ev y) := toD_frame _ fun id hid => ho id (by simp [opR, hid])
    have h2 : frz s'.o (s.ev y).ids = frz s.o (s.ev y).ids := frz_frame fun id hid => ho id (by simp [opR, ids_refs _ _ hid])
    cases hx : s.ev x <;> simp only [storeF] <;> rw [ho _ (by simp [opR, hx, V.refs])]
    simp only [h1, h2]
  case nilCheck x =>
    rw [hv x (by simp [Op.operands])]
    cases hx : s.ev x with
    | ptr id off => simp only [nilCheckF]; rw [ho _ (by simp [opR, hx, V.refs])]
    | func fn a b => cases fn <;> rfl
    | _ => rfl
  case binOp op t x y yt =>
    rw [hv x (by simp [Op.operands]), hv y (by simp [Op.operands])]
    have h1 : nilF s'.o (s.ev x) = nilF s.o (s.ev x) := nilF_frame _ fun id hid => ho id (by simp [opR, hid])
    have h2 : ∀ a b, eqV P s'.o a b (s.ev x) (s.ev y) = eqV P s.o a b (s.ev x) (s.ev y) := fun a b => by
      have h3 : ∀ id ∈ (s.ev x).refs, s'.o id = s.o id := fun id hid => ho id (by simp [opR, hid])
      have h4 := mapNil_frame (s.ev x) h3
      have h5 := ptrNil_frame (s.ev x) h3
      unfold eqV
      rw [h1, h4, h5]
    unfold bin2F cmpF
    simp only [h2]
  case slice t x lo hi mx =>
    rw [hv x (by simp [Op.operands])]
    have e1 : lo.map s'.ev = lo.map s.ev := by cases lo <;> simp [hv, Op.operands]
    have e2 : hi.map s'.ev = hi.map s.ev := by cases hi <;> simp [hv, Op.operands]
    have e3 : mx.map s'.ev = mx.map s.ev := by cases mx <;> simp [hv, Op.operands]
    rw [e1, e2, e3]
    have h3 : ∀ id ∈ (s.ev x).refs, s'.o id = s.o id := fun id hid => ho id (by simp [opR, hid])
    have h1 : listV s'.o (s.ev x) = listV s.o (s.ev x) := by unfold listV; rw [toD_frame _ h3]
    have h2 : frz s'.o (s.ev x).ids = frz s.o (s.ev x).ids := frz_frame fun id hid => h3 id (ids_refs _ _ hid)
    unfold sliceF
    simp only [h1, h2, ptrRow_frame _ h3]
  case field t x f => rw [hv x (by simp [Op.operands])]
  case typeAssert x xt t ok => rw [hv x (by simp [Op.operands])]
  case makeMap t r => cases r <;> rfl
  case lookup t m k ok =>
    rw [hv m (by simp [Op.operands]), hv k (by simp [Op.operands])]
    have h3 : ∀ id ∈ (s.ev m).refs, s'.o id = s.o id := fun id hid => ho id (by simp [opR, hid])
    have h1 : toD s'.o (s.ev k) = toD s.o (s.ev k) := toD_frame _ fun id hid => ho id (by simp [opR, hid])
    unfold lookupF
    simp only [h1, mapRd_frame _ h3]
  case mapUpdate t m k v =>
    rw [hv m (by simp [Op.operands]), hv k (by simp [Op.operands]), hv v (by simp [Op.operands])]
    have h3 : ∀ id ∈ (s.ev m).refs, s'.o id = s.o id := fun id hid => ho id (by simp [opR, hid])
    have h1 : toD s'.o (s.ev k) = toD s.o (s.ev k) := toD_frame _ fun id hid => ho id (by simp [opR, hid])
    have h2 : toD s'.o (s.ev v) = toD s.o (s.ev v) := toD_frame _ fun id hid => ho id (by simp [opR, hid])
    have h4 : frz s'.o (s.ev v).ids = frz s.o (s.ev v).ids := frz_frame fun id hid => ho id (by simp [opR, ids_refs _ _ hid])
    unfold mapUpdF
    simp only [h1, h2, h4, mapEs_frame _ h3]
  case insert t m k v =>
    rw [hv m (by simp [Op.operands]), hv k (by simp [Op.operands]), hv v (by simp [Op.operands])]
    have h3 : ∀ id ∈ (s.ev m).refs, s'.o id = s.o id := fun id hid => ho id (by simp [opR, hid])
    have h1 : toD s'.o (s.ev k) = toD s.o (s.ev k) := toD_frame _ fun id hid => ho id (by simp [opR, hid])
    have h2 : toD s'.o (s.ev v) = toD s.o (s.ev v) := toD_frame _ fun id hid => ho id (by simp [opR, hid])
    have h4 : frz s'.o (s.ev v).ids = frz s.o (s.ev v).ids := frz_frame fun id hid => ho id (by simp [opR, ids_refs _ _ hid])
    unfold mapUpdF
    simp only [h1, h2, h4, mapEs_frame _ h3]
  case index t x i => rw [hv x (by simp [Op.operands]), hv i (by simp [Op.operands])]
  case range t x =>
    rw [hv x (by simp [Op.operands])]
    exact rangeF_frame _ fun id hid => ho id (by simp [opR, hid])
  case next x str =>
    rw [hv x (by simp [Op.operands])]
    exact nextF_frame _ _ fun id hid => ho id (by simp [opR, hid])
  case entry x =>
    rw [hv x (by simp [Op.operands])]
    exact entryF_frame _ fun id hid => ho id (by simp [opR, hid])
  case unOp op t x => rw [hv x (by simp [Op.operands])]
  case convert u t x => rw [hv x (by simp [Op.operands])]
  case makeInterface t x => rw [hv x (by simp [Op.operands])]
  case makeFunc fn first cap =>
    have h1 : first.toList.map s'.ev = first.toList.map s.ev := List.map_congr_left fun x hx => hv x (by simp only [Op.operands]; exact Array.mem_append.2 (.inl (Array.mem_toList_iff.1 hx)))
    have h2 : cap.toList.map s'.ev = cap.toList.map s.ev := List.map_congr_left fun x hx => hv x (by simp only [Op.operands]; exact Array.mem_append.2 (.inr (Array.mem_toList_iff.1 hx)))
    rw [h1, h2]
  case makeSlice t l c => rw [hv l (by simp [Op.operands]), hv c (by simp [Op.operands])]
  case fieldAddr t x f =>
    rw [hv x (by simp [Op.operands])]
    simp only [fieldAddrF]
    cases fieldT P t f <;> simp only
    rw [stepF_frame _ _ (by simpa [opR] using ho)]
  case indexAddr t x i =>
    rw [hv x (by simp [Op.operands]), hv i (by simp [Op.operands])]
    have h1 : ∀ q, stepF s'.o (s.ev x) q = stepF s.o (s.ev x) q := fun q => stepF_frame _ _ (by simpa [opR] using ho)
    simp only [indexAddrF, h1]
    cases hx : s.ev x with
    | osl id ep => simp only [ho id (by simp [opR, hx, V.refs])]
    | d y => cases y <;> rfl
    | _ => rfl
  case extract x i => rw [hv x (by simp [Op.operands])]
  case call c =>
    obtain ⟨cal, args, ts⟩ := c
    cases cal <;> simp only
    rename_i b
    unfold builtinF
    have hm : ∀ x ∈ args.toList, s'.ev x = s.ev x := fun x hx => hv x (by simp only [Op.operands, Call.operands]; exact Array.mem_append.2 (.inr (Array.mem_toList_iff.1 hx)))
    have hr : ∀ x ∈ args.toList, ∀ id ∈ (s.ev x).refs, s'.o id = s.o id := by
      intro x hx id hid
      refine ho id ?_
      simp only [opR]
      generalize args.toList = l at hx
      induction l with
      | nil => cases hx
      | cons y l ih =>
        simp only [List.map_cons, V.refss, List.mem_append]
        rcases List.mem_cons.1 hx with rfl | hx
        · exact .inl hid
        · exact .inr (ih hx)
    split
    · rename_i x ha
      rw [ha] at hm hr
      rw [hm x (by simp)]
      have h1 : ∀ t, lenF P t s'.o (s.ev x) = lenF P t s.o (s.ev x) := fun t => by simp only [lenF, listF_frame _ (hr x (by simp))]
      simp only [h1]
    · rename_i x y ha
      rw [ha] at hm hr
      rw [hm x (by simp), hm y (by simp)]
      simp only [appendF, listF_frame _ (hr y (by simp))]
      cases hx : s.ev x with
      | osl id ep => simp only [hr x (by simp) id (by simp [hx, V.refs])]
      | _ => rfl
    · rename_i x y ha
      rw [ha] at hm
      rw [hm x (by simp), hm y (by simp)]
    · rename_i x y ha
      rw [ha] at hm
      rw [hm x (by simp), hm y (by simp)]
    · rename_i x y z h; rw [hm x (by rw [h]; simp), hm y (by rw [h]; simp), hm z (by rw [h]; simp)]
    · rename_i x y ha
      rw [ha] at hm hr
      rw [hm x (by simp), hm y (by simp)]
      have h1 : listV s'.o (s.ev y) = listV s.o (s.ev y) := by unfold listV; rw [toD_frame _ (hr y (by simp))]
      have h2 : frz s'.o (s.ev y).ids = frz s.o (s.ev y).ids := frz_frame fun id hid => hr y (by simp) id (ids_refs _ _ hid)
      unfold copyF
      simp only [h1, h2, rslRow_frame _ (hr x (by simp))]
    · rename_i x y ha
      rw [ha] at hm hr
      rw [hm x (by simp), hm y (by simp)]
      have h1 : toD s'.o (s.ev y) = toD s.o (s.ev y) := toD_frame _ (hr y (by simp))
      have h2 := mapEs_frame _ (hr x (by simp))
      simp only [deleteF, h1, h2]
    · rfl
end
end Go.Proofs.YtealblliddhgiaaGreat
namespace Go.Proofs.YtealblliddhgiaaGreat
def Obj'.refs : Obj' → List Nat
  | .row cs => V.refss cs
  | .loop _ _ env _ _ _ _ _ => V.refss env
  | _ => []
def rst (R : List Nat) (o : Nat → Obj') : Nat → Obj' := fun id => if R.contains id = true then o id else .no
def HCt (P : Program) (g : FuncId) (args : List V) (rd : List Nat) (o : Nat → Obj') (out : R) (Δ : List (Nat × Obj')) : Prop :=
  Enters P g ∧ ∀ (o' : Nat → Obj') (us : Nat → Prop) (M : Nat → Prop) (φ : Place) (w : World) (vals : Array Value), (∀ id ∈ rd, o' id = o id ∧ us id) → HeapOk M φ ⟨o', us⟩ w → V.dens (mutB M φ ⟨o', us⟩) φ ⟨o', us⟩ w args vals.toList →
    Calls P g vals w fun e w' => ∃ φ', HeapOk M φ' ⟨put o' Δ, us⟩ w' ∧ Trans φ ⟨o', us⟩ w φ' ⟨put o' Δ, us⟩ w' ∧ out.is (mutB M φ' ⟨put o' Δ, us⟩) w' e
def HVt (P : Program) (g : FuncId) (args : List V) (rd : List Nat) (o : Nat → Obj') (fr : Nat) (v : V) (Δ : List (Nat × Obj')) : Prop :=
  Enters P g ∧ ∀ (o' : Nat → Obj') (us : Nat → Prop) (M : Nat → Prop) (φ : Place) (w : World) (vals : Array Value), (∀ id ∈ rd, o' id = o id ∧ us id) → ¬ us fr → HeapOk M φ ⟨o', us⟩ w → V.dens (mutB M φ ⟨o', us⟩) φ ⟨o', us⟩ w args vals.toList →
    Calls P g vals w fun e w' => ∃ φ', HeapOk M φ' ⟨put o' Δ, fun id => us id ∨ id = fr⟩ w' ∧ Trans φ ⟨o', us⟩ w φ' ⟨put o' Δ, fun id => us id ∨ id = fr⟩ w' ∧ ∃ val, e = .returned val ∧ V.den (mutB M φ' ⟨put o' Δ, fun id => us id ∨ id = fr⟩) φ' ⟨put o' Δ, fun id => us id ∨ id = fr⟩ w' v val
mutual
theorem V.den_refs {B B' : Nat → Prop} {φ φ' : Place} {H H' : Hp} {w : World} (hB : ∀ b, ¬ B b → ¬ B' b) : ∀ (v : V) (val : Value), (∀ id ∈ v.refs, H'.o id = H.o id ∧ φ' id = φ id ∧ H'.us id) → V.den B φ H w v val → V.den B' φ' H' w v val
  | .d x, val, _, h => D.den_mono (w := w) (w' := w) (fun b _ hn => ⟨rfl, hB b hn⟩) x val h
  | .nils, _, _, h => h
  | .junk, _, _, _ => trivial
  | .anyb, _, _, h => h
  | .csl es, val, _, h => ⟨D.den_mono (w := w) (w' := w) (fun b _ hn => ⟨rfl, hB b hn⟩) (.sl es) val h.1, h.2⟩
  | .agg cs, val, hr, h => by
    obtain ⟨a, rfl, h1, h2⟩ := h
    exact ⟨a, rfl, V.dens_refs hB cs _ (by simpa [V.refs] using hr) h1, h2⟩
  | .tup cs, val, hr, h => by
    obtain ⟨a, rfl, h1⟩ := h
    exact ⟨a, rfl, V.dens_refs hB cs _ (by simpa [V.refs] using hr) h1⟩
  | .ptr id off, val, hr, h => by
    obtain ⟨a, b, c⟩ := hr id (by simp [V.refs])
    obtain ⟨h0, h1, h2⟩ := h
    refine ⟨h0, c, fun hrow => ?_⟩
    rw [a] at hrow
    obtain ⟨x, y, z⟩ := h2 hrow
    exact ⟨x, b.trans y, z⟩
  | .osl id ep, val, hr, h => by
    obtain ⟨a, b, c⟩ := hr id (by simp [V.refs])
    obtain ⟨h0, h1, h2⟩ := h
    refine ⟨h0, c, fun e he => ?_⟩
    rw [a] at he
    obtain ⟨x, y⟩ := h2 e he
    exact ⟨x, fun heq => (y heq).trans b.symm⟩
  | .pe id ep i sz off, val, hr, h => by
    obtain ⟨a, b, c⟩ := hr id (by simp [V.refs])
    obtain ⟨h0, h1, h2⟩ := h
    refine ⟨h0, c, fun e he => ?_⟩
    rw [a] at he
    obtain ⟨x, y⟩ := h2 e he
    refine ⟨x, fun heq => ?_⟩
    obtain ⟨p, q, r, z, u⟩ := y heq
    exact ⟨p, q, r, b.trans z, u⟩
  | .pp cs off, val, _, h => by
    obtain ⟨a, ev, h1, h2, h3, h5, h4⟩ := h
    exact ⟨a, ev, h1, h2, D.dens_mono (w := w) (w' := w) (fun b _ hn => ⟨rfl, hB b hn⟩) cs ev h3, h5, h4.mono (w := w) (w' := w) (fun b _ hn => ⟨rfl, hB b hn⟩)⟩
  | .func fn first cap, val, hr, h => by
    obtain ⟨f, c, rfl, h1, h2⟩ := h
    exact ⟨f, c, rfl, V.dens_refs hB first _ (fun id hid => hr id (by simp [V.refs, hid])) h1, V.dens_refs hB cap _ (fun id hid => hr id (by simp [V.refs, hid])) h2⟩
  | .iface t x, val, hr, h => by
    obtain ⟨u, rfl, h⟩ := h
    exact ⟨u, rfl, V.den_refs hB x u (by simpa [V.refs] using hr) h⟩
  | .rsl id off n, val, hr, h => by
    obtain ⟨a, b, c⟩ := hr id (by simp [V.refs])
    obtain ⟨h0, h1, h2⟩ := h
    refine ⟨h0, c, fun hrow => ?_⟩
    rw [a] at hrow
    obtain ⟨x, y, z⟩ := h2 hrow
    exact ⟨x, b.trans y, z⟩
  | .mp id, val, hr, h => by
    obtain ⟨a, b, c⟩ := hr id (by simp [V.refs])
    obtain ⟨h0, h1, h2⟩ := h
    refine ⟨h0, c, fun hrow => ?_⟩
    rw [a] at hrow
    exact (h2 hrow).trans b.symm
  | .yld id, val, hr, h => by
    obtain ⟨a, b, c⟩ := hr id (by simp [V.refs])
    obtain ⟨h0, h1, h2⟩ := h
    refine ⟨h0, c, fun hrow => ?_⟩
    rw [a] at hrow
    obtain ⟨x, y, z⟩ := h2 hrow
    exact ⟨x, b.trans y, z⟩
theorem V.dens_refs {B B' : Nat → Prop} {φ φ' : Place} {H H' : Hp} {w : World} (hB : ∀ b, ¬ B b → ¬ B' b) : ∀ (vs : List V) (vals : List Value), (∀ id ∈ V.refss vs, H'.o id = H.o id ∧ φ' id = φ id ∧ H'.us id) → V.dens B φ H w vs vals → V.dens B' φ' H' w vs vals
  | [], _, _, h => h
  | v :: vs, _, hr, h => by
    obtain ⟨u, us, rfl, h1, h2⟩ := h
    exact ⟨u, us, rfl, V.den_refs hB v u (fun id hid => hr id (by simp [V.refss, hid])) h1, V.dens_refs hB vs us (fun id hid => hr id (by simp [V.refss, hid])) h2⟩
end
theorem envJ_refs {env : List V} {i id : Nat} (h : id ∈ (envJ env i).refs) : id ∈ V.refss env := by
  unfold envJ at h
  induction env generalizing i with
  | nil => simp [V.refs] at h
  | cons v env ih =>
    cases i with
    | zero => simp only [List.getD_cons_zero] at h; simp [V.refss, h]
    | succ i => simp only [List.getD_cons_succ] at h; simp [V.refss, ih h]
theorem ObjOk.refs {M M' : Nat → Prop} {φ φ' : Place} {H H' : Hp} {w : World} {id : Nat} (hB : ∀ b, ¬ mutB M φ H b → ¬ mutB M' φ' H' b) (ho : H'.o id = H.o id) (hφ : φ' id = φ id)
    (hr : ∀ j ∈ (H.o id).refs, H'.o j = H.o j ∧ φ' j = φ j ∧ H'.us j) (h : ObjOk M φ H w id) : ObjOk M' φ' H' w id := by
  have hd : ∀ b, Cellish w b → ¬ mutB M φ H b → w.heap[b]? = w.heap[b]? ∧ ¬ mutB M' φ' H' b := fun b _ hn => ⟨rfl, hB b hn⟩
  unfold ObjOk at *
  rw [ho]
  cases hx : H.o id with
  | no => trivial
  | row cs =>
    simp only [hx] at h ⊢
    obtain ⟨b, carr, ty, h1, h2, h3, h4⟩ := h
    exact ⟨b, carr, ty, hφ.trans h1, h2, V.dens_refs hB cs _ (fun j hj => hr j (by rw [hx]; exact hj)) h3, h4⟩
  | arr ep ty sz es =>
    simp only [hx] at h ⊢
    obtain ⟨h0, xs, h1, evs, h2, h3, h4⟩ := h
    exact ⟨h0, xs, by rw [hφ]; exact h1, evs, h2, h3, D.dens_mono hd es evs h4⟩
  | fro ep es =>
    simp only [hx] at h ⊢
    rw [hφ]
    exact D.den_mono hd (.sl es) _ h
  | map kt vt l =>
    simp only [hx] at h ⊢
    obtain ⟨b, es, clock, h1, h2, h4, h3⟩ := h
    exact ⟨b, es, clock, hφ.trans h1, h2, h4, EntsDen.mono hd l _ h3⟩
  | mfro l =>
    simp only [hx] at h ⊢
    rw [hφ]
    exact D.den_mono hd (.mp _ _) _ h
  | mit l last =>
    simp only [hx] at h ⊢
    obtain ⟨b, h1, h2⟩ := h
    exact ⟨b, hφ.trans h1, h2.mono hd rfl⟩
  | sit s pos =>
    simp only [hx] at h ⊢
    obtain ⟨b, h1, h2⟩ := h
    exact ⟨b, hφ.trans h1, h2⟩
  | loop nf n env ps ica icb st pend =>
    simp only [hx] at h ⊢
    obtain ⟨b, r, h1, h2, h0, h3, h4, h5, h6, h7, h8, h9⟩ := h
    exact ⟨b, r, hφ.trans h1, h2, h0, h3, h4, h5, h6, h7, h8, fun i => V.den_refs hB _ _ (fun j hj => hr j (by rw [hx]; exact envJ_refs hj)) (h9 i)⟩
section
variable {P : Program}
theorem put_of_mem {o o' : Nat → Obj'} {Δ : List (Nat × Obj')} {id : Nat} (h : o id = o' id) : put o Δ id = put o' Δ id := put_in' h
where put_in' {o o' : Nat → Obj'} : ∀ {Δ : List (Nat × Obj')} {id : Nat}, o id = o' id → put o Δ id = put o' Δ id
  | [], _, h => h
  | x :: Δ, id, h => by
    simp only [put, List.foldl_cons]
    refine put_in' (Δ := Δ) (o := upd o x.1 x.2) (o' := upd o' x.1 x.2) ?_
    simp only [upd_apply]
    split
    · rfl
    · exact h
theorem put_not {o : Nat → Obj'} : ∀ {Δ : List (Nat × Obj')} {id : Nat}, (∀ x ∈ Δ, x.1 ≠ id) → put o Δ id = o id
  | [], _, _ => rfl
  | x :: Δ, id, h => by
    have := put_not (o := upd o x.1 x.2) (Δ := Δ) (id := id) (fun y hy => h y (by simp [hy]))
    simp only [put, List.foldl_cons] at this ⊢
    rw [this]; simp [Ne.symm (h x (by simp))]
theorem HCt.of_ctk {g : FuncId} {args : List V} {rd : List Nat} {o : Nat → Obj'} {nx : Nat} {out : R} {Δ : List (Nat × Obj')} (hnx : ∀ id ∈ rd, id < nx) (hargs : ∀ id ∈ V.refss args, id ∈ rd) (hcl : ∀ id ∈ rd, ∀ j ∈ (o id).refs, j ∈ rd) (hΔ : ∀ x ∈ Δ, x.1 ∈ rd) (hcl2 : ∀ x ∈ Δ, ∀ j ∈ x.2.refs, j ∈ rd)
    (h : CtK P g args (rst rd o) nx
      (fun v o1 _ => (∀ id ∈ rd, o1 id = put o Δ id) ∧ ∃ vs rs, v = (match vs with | [v] => v | vs => .tup vs) ∧ toDs o1 vs = some rs ∧ out = .ret rs ∧ ∀ id ∈ V.idss vs, id ∉ rd)
      (fun v o1 _ => (∀ id ∈ rd, o1 id = put o Δ id) ∧ ∃ x, toD o1 v = some x ∧ out = .pan x ∧ ∀ id ∈ v.ids, id ∉ rd)) : HCt P g args rd o out Δ := by
  refine ⟨h.1, fun o' us M φ w vals ho hH hd => ?_⟩
  let M1 : Nat → Prop := fun b => M b ∨ ∃ id, id ∉ rd ∧ (o' id).live = true ∧ blk (φ id) = some b
  let HR : Hp := hp (rst rd o) nx
  have hrst : ∀ id, id ∈ rd → rst rd o id = o' id := fun id hid => by simp [rst, hid, (ho id hid).1]
  have hrst' : ∀ id, id ∉ rd → rst rd o id = .no := fun id hid => by simp [rst, hid]
  have hB : ∀ b, mutB M1 φ HR b ↔ mutB M φ ⟨o', us⟩ b := by
    intro b
    constructor
    · rintro ((h | ⟨id, h1, h2, h3⟩) | ⟨id, h1, h2⟩)
      · exact .inl h
      · exact .inr ⟨id, h2, h3⟩
      · by_cases hid : id ∈ rd
        · exact .inr ⟨id, by show (o' id).live = true; rw [← hrst id hid]; exact h1, h2⟩
        · have : HR.o id = .no := hrst' id hid
          rw [this] at h1; cases h1
    · rintro (h | ⟨id, h1, h2⟩)
      · exact .inl (.inl h)
      · by_cases hid : id ∈ rd
        · exact .inr ⟨id, by show (rst rd o id).live = true; rw [hrst id hid]; exact h1, h2⟩
        · exact .inl (.inr ⟨id, hid, h1, h2⟩)
  have hin : ∀ id ∈ rd, HR.o id = o' id ∧ φ id = φ id ∧ HR.us id := fun id hid => ⟨hrst id hid, rfl, hnx id hid⟩
  have hHR : HeapOk M1 φ HR w := by
    refine ⟨fun id => ?_, fun id hn => ?_, fun i j b hi hj bi bj => ?_, fun b hb => ?_, fun b hb => ?_⟩
    · by_cases hid : id ∈ rd
      · refine ObjOk.refs (H := ⟨o', us⟩) (M := M) (φ := φ) (fun b hn hb => hn ((hB b).1 hb)) (hrst id hid) rfl (fun j hj => hin j ?_) (hH.ok id)
        have : o' id = o id := (ho id hid).1
        exact hcl id hid j (by rw [← this]; exact hj)
      · unfold ObjOk
        rw [show HR.o id = .no from hrst' id hid]; trivial
    · exact hrst' id fun hid => hn (hnx id hid)
    · have live : ∀ i, (HR.o i).live = true → i ∈ rd ∧ (o' i).live = true := fun i hi => by
        by_cases hid : i ∈ rd
        · exact ⟨hid, by rw [← hrst i hid]; exact hi⟩
        · rw [show HR.o i = .no from hrst' i hid] at hi; cases hi
      exact hH.apart i j b (live i hi).2 (live j hj).2 bi bj
    · obtain ⟨id, h1, h2⟩ := hb
      have hid : id ∈ rd := by
        by_cases hid : id ∈ rd
        · exact hid
        · rw [show HR.o id = .no from hrst' id hid] at h1; cases h1
      rw [show HR.o id = o' id from hrst id hid] at h1
      obtain ⟨k1, k2⟩ := hH.ours b ⟨id, h1, h2⟩
      refine ⟨?_, k2⟩
      rintro (hM | ⟨j, j1, j2, j3⟩)
      · exact k1 hM
      · exact j1 (hH.apart j id b j2 h1 j3 h2 ▸ hid)
    · rcases hb with hb | ⟨id, h1, h2, h3⟩
      · exact hH.old b hb
      · exact (hH.ours b ⟨id, h2, h3⟩).2
  have hdR : V.dens (mutB M1 φ HR) φ HR w args vals.toList := V.dens_refs (H := ⟨o', us⟩) (fun b hn hb => hn ((hB b).1 hb)) _ _ (fun id hid => hin id (hargs id hid)) hd
  refine (h.2 M1 φ w vals hHR hdR).mono ?_
  rintro e w' ⟨φ1, o1, nx1, v, k1, k2, k3⟩
  
  have main : (∀ id ∈ rd, o1 id = put o Δ id) → ∃ φ', HeapOk M φ' ⟨put o' Δ, us⟩ w' ∧ Trans φ ⟨o', us⟩ w φ' ⟨put o' Δ, us⟩ w' ∧ ∀ b, mutB M φ' ⟨put o' Δ, us⟩ b → M1 b ∨ ∃ id ∈ rd, (o1 id).live = true ∧ blk (φ1 id) = some b := by
    intro ho1
    have hp1 : ∀ id ∈ rd, put o' Δ id = o1 id := fun id hid => (put_of_mem (ho id hid).1).trans (ho1 id hid).symm
    have hp2 : ∀ id, id ∉ rd → put o' Δ id = o' id := fun id hid => put_not fun x hx e => hid (e ▸ hΔ x hx)
    let φ2 : Place := fun id => if id ∈ rd then φ1 id else φ id
    have hφ1 : ∀ id ∈ rd, φ2 id = φ1 id := fun id hid => if_pos hid
    have hφ2 : ∀ id, id ∉ rd → φ2 id = φ id := fun id hid => if_neg hid
    let H2 : Hp := ⟨put o' Δ, us⟩
    have hlive : ∀ b, liveB φ2 H2 b → (∃ id ∈ rd, (o1 id).live = true ∧ blk (φ1 id) = some b) ∨ ∃ id, id ∉ rd ∧ (o' id).live = true ∧ blk (φ id) = some b := by
      rintro b ⟨id, h1, h2⟩
      by_cases hid : id ∈ rd
      · exact .inl ⟨id, hid, by rw [← hp1 id hid]; exact h1, by rw [← hφ1 id hid]; exact h2⟩
      · exact .inr ⟨id, hid, by rw [← hp2 id hid]; exact h1, by rw [← hφ2 id hid]; exact h2⟩
    have hB2 : ∀ b, mutB M φ2 H2 b → mutB M1 φ1 (hp o1 nx1) b := by
      rintro b (hb | hb)
      · exact .inl (.inl hb)
      · rcases hlive b hb with ⟨id, h1, h2, h3⟩ | ⟨id, h1, h2, h3⟩
        · exact .inr ⟨id, h2, h3⟩
        · exact .inl (.inr ⟨id, h1, h2, h3⟩)
    have hrel : StepRel φ ⟨o', us⟩ φ2 H2 := by
      refine ⟨fun id h => h, fun id hu hr => ?_, fun id e' hu he => ?_⟩
      · by_cases hid : id ∈ rd
        · rw [show H2.o id = o1 id from hp1 id hid] at hr
          obtain ⟨a, b⟩ := k2.rel.row id (hnx id hid) hr
          rw [show HR.o id = o' id from hrst id hid] at a
          exact ⟨a, (hφ1 id hid).trans b⟩
        · rw [show H2.o id = o' id from hp2 id hid] at hr
          exact ⟨hr, hφ2 id hid⟩
      · by_cases hid : id ∈ rd
        · rw [show H2.o id = o1 id from hp1 id hid] at he
          obtain ⟨e0, a, b, c⟩ := k2.rel.ep id e' (hnx id hid) he
          rw [show HR.o id = o' id from hrst id hid] at a
          exact ⟨e0, a, b, fun heq => (hφ1 id hid).trans (c heq)⟩
        · rw [show H2.o id = o' id from hp2 id hid] at he
          exact ⟨e', he, Nat.le_refl _, fun _ => hφ2 id hid⟩
    have hbl : ∀ b, Cellish w b → ¬ mutB M φ ⟨o', us⟩ b → w'.heap[b]? = w.heap[b]? ∧ ¬ mutB M φ2 H2 b := by
      intro b hc hn
      obtain ⟨a, c⟩ := k2.blocks (M := M1) b hc (fun hb => hn ((hB b).1 hb))
      exact ⟨a, fun hb => c (hB2 b hb)⟩
    have hnl : ∀ b, b < w.heap.size → ¬ liveB φ HR b → w'.heap[b]? = w.heap[b]? := fun b hb hl => k2.keep.block b hb hl
    have ht : Trans φ ⟨o', us⟩ w φ2 H2 w' := by
      refine ⟨⟨k2.keep.os, k2.keep.tape, k2.keep.output, k2.keep.size, fun b hb hl => hnl b hb fun ⟨id, h1, h2⟩ => hl ?_⟩, fun b hb => ?_, hrel⟩
      · by_cases hid : id ∈ rd
        · exact ⟨id, by show (o' id).live = true; rw [← hrst id hid]; exact h1, h2⟩
        · rw [show HR.o id = .no from hrst' id hid] at h1; cases h1
      · rcases hlive b hb with ⟨id, h1, h2, h3⟩ | ⟨id, h1, h2, h3⟩
        · rcases k2.grow b ⟨id, h2, h3⟩ with ⟨j, j1, j2⟩ | hge
          · by_cases hid : j ∈ rd
            · exact .inl ⟨j, by show (o' j).live = true; rw [← hrst j hid]; exact j1, j2⟩
            · rw [show HR.o j = .no from hrst' j hid] at j1; cases j1
          · exact .inr hge
        · exact .inl ⟨id, h2, h3⟩
    refine ⟨φ2, ⟨fun id => ?_, fun id hn => ?_, fun i j b hi hj bi bj => ?_, fun b hb => ?_, fun b hb => Nat.lt_of_lt_of_le (hH.old b hb) k2.keep.size⟩, ht, fun b hb => ?_⟩
    · by_cases hid : id ∈ rd
      · refine ObjOk.refs (H := hp o1 nx1) (M := M1) (φ := φ1) (fun b hn hb => hn (hB2 b hb)) (hp1 id hid) (hφ1 id hid) (fun j hj => ?_) (k1.ok id)
        have hj' : j ∈ rd := by
          have e1 : o1 id = put o Δ id := ho1 id hid
          have hj : j ∈ (put o Δ id).refs := by rw [← e1]; exact hj
          have key : ∀ (Δ' : List (Nat × Obj')) (q : Nat → Obj'), (∀ x ∈ Δ', ∀ j ∈ x.2.refs, j ∈ rd) → (∀ j ∈ (q id).refs, j ∈ rd) → ∀ j ∈ (put q Δ' id).refs, j ∈ rd := by
            intro Δ'
            induction Δ' with
            | nil => intro q _ h2; exact h2
            | cons x Δ' ih =>
              intro q h1 h2
              simp only [put, List.foldl_cons]
              refine ih (upd q x.1 x.2) (fun y hy => h1 y (by simp [hy])) ?_
              simp only [upd_apply]
              split
              · exact h1 x (by simp)
              · exact h2
          exact key Δ o hcl2 (hcl id hid) j hj
        exact ⟨hp1 j hj', hφ1 j hj', (ho j hj').2⟩
      · exact ObjOk.mono' hbl hrel (hp2 id hid) (hφ2 id hid) (fun hl b hb => hnl b (hH.ours b ⟨id, hl, hb⟩).2 fun ⟨j, j1, j2⟩ => by
          by_cases hj : j ∈ rd
          · rw [show HR.o j = o' j from hrst j hj] at j1
            exact hid (hH.apart id j b hl j1 hb j2 ▸ hj)
          · rw [show HR.o j = .no from hrst' j hj] at j1; cases j1) (hH.ok id)
    · have hid : id ∉ rd := fun hid => hn (ho id hid).2
      exact (hp2 id hid).trans (hH.fresh id hn)
    · by_cases e1 : i ∈ rd <;> by_cases e2 : j ∈ rd
      · refine k1.apart i j b ?_ ?_ (by rw [← hφ1 i e1]; exact bi) (by rw [← hφ1 j e2]; exact bj)
        · show (o1 i).live = true; rw [← hp1 i e1]; exact hi
        · show (o1 j).live = true; rw [← hp1 j e2]; exact hj
      · exfalso
        refine (k1.ours b ⟨i, by show (o1 i).live = true; rw [← hp1 i e1]; exact hi, by rw [← hφ1 i e1]; exact bi⟩).1 (.inr ⟨j, e2, by rw [← hp2 j e2]; exact hj, by rw [← hφ2 j e2]; exact bj⟩)
      · exfalso
        refine (k1.ours b ⟨j, by show (o1 j).live = true; rw [← hp1 j e2]; exact hj, by rw [← hφ1 j e2]; exact bj⟩).1 (.inr ⟨i, e1, by rw [← hp2 i e1]; exact hi, by rw [← hφ2 i e1]; exact bi⟩)
      · exact hH.apart i j b (by show (o' i).live = true; rw [← hp2 i e1]; exact hi) (by show (o' j).live = true; rw [← hp2 j e2]; exact hj) (by rw [← hφ2 i e1]; exact bi) (by rw [← hφ2 j e2]; exact bj)
    · rcases hlive b hb with ⟨id, h1, h2, h3⟩ | ⟨id, h1, h2, h3⟩
      · obtain ⟨a, c⟩ := k1.ours b ⟨id, h2, h3⟩
        exact ⟨fun hM => a (.inl hM), c⟩
      · obtain ⟨a, c⟩ := hH.ours b ⟨id, h2, h3⟩
        exact ⟨a, Nat.lt_of_lt_of_le c k2.keep.size⟩
    · rcases hb with hb | hb
      · exact .inl (.inl hb)
      · rcases hlive b hb with h | h
        · exact .inr h
        · exact .inl (.inr h)
  have res : ∀ (vs : List V) (xs : List D) (us' : List Value), (∀ id ∈ rd, o1 id = put o Δ id) → toDs o1 vs = some xs → (∀ id ∈ V.idss vs, id ∉ rd) → V.dens (mutB M1 φ1 (hp o1 nx1)) φ1 (hp o1 nx1) w' vs us' →
      ∃ φ', HeapOk M φ' ⟨put o' Δ, us⟩ w' ∧ Trans φ ⟨o', us⟩ w φ' ⟨put o' Δ, us⟩ w' ∧ D.dens (mutB M φ' ⟨put o' Δ, us⟩) w' xs us' := by
    intro vs xs us' ho1 h1 hdis h2
    obtain ⟨f1, f2, f3, f4, f5⟩ := freezes k1 (V.idss vs) (idss_used vs _ h2)
    have h3 := toDs_den f1 vs xs us' f3 h1 (V.dens_mono f2 _ _ h2)
    obtain ⟨φ', m1, m2, m3⟩ := main ho1
    refine ⟨φ', m1, m2, D.dens_mono (w := w') (w' := w') (fun b _ hn => ⟨rfl, fun hb => hn ?_⟩) xs us' h3⟩
    rcases m3 b hb with hb | ⟨id, i1, i2, i3⟩
    · exact .inl hb
    · exact .inr ⟨id, by rw [f4 id fun hm => hdis id hm i1]; exact i2, i3⟩
  cases e with
  | outgrown => exact k3.elim
  | panicked ch =>
    obtain ⟨val, rfl, g1, ho1, x, g2, rfl, g3⟩ := k3
    obtain ⟨φ', m1, m2, m3⟩ := res [v] [x] [val] ho1 (by simp [toDs, g2]) (by simpa [V.idss] using g3) ⟨val, [], rfl, g1, rfl⟩
    obtain ⟨u, us2, he, h2, _⟩ := m3
    simp at he; obtain ⟨rfl, rfl⟩ := he
    exact ⟨φ', m1, m2, val, rfl, h2⟩
  | returned val =>
    obtain ⟨g1, ho1, vs, rs, rfl, g2, rfl, g3⟩ := k3
    match vs, g1, g2, g3 with
    | [], g1, g2, g3 =>
      obtain ⟨arr, rfl, hv⟩ := g1
      simp only [toDs, Option.some.injEq] at g2; subst g2
      obtain ⟨φ', m1, m2, m3⟩ := res [] [] arr.toList ho1 rfl (by simp [V.idss]) hv
      exact ⟨φ', m1, m2, arr, rfl, m3⟩
    | [v], g1, g2, g3 =>
      obtain ⟨φ', m1, m2, m3⟩ := res [v] rs [val] ho1 g2 g3 ⟨val, [], rfl, g1, rfl⟩
      refine ⟨φ', m1, m2, ?_⟩
      cases rs with
      | nil => cases m3
      | cons x l =>
        obtain ⟨u, us2, he, h2, h3⟩ := m3
        simp at he; obtain ⟨rfl, rfl⟩ := he
        cases l with
        | nil => exact h2
        | cons y l => obtain ⟨_, _, h, _⟩ := h3; cases h
    | v :: v2 :: l, g1, g2, g3 =>
      obtain ⟨arr, rfl, hv⟩ := g1
      obtain ⟨φ', m1, m2, m3⟩ := res (v :: v2 :: l) rs arr.toList ho1 g2 g3 hv
      refine ⟨φ', m1, m2, ?_⟩
      have hl := D.dens_length _ _ m3
      have hl2 := V.dens_length _ _ hv
      match rs, hl, m3 with
      | [], hl, _ => rw [hl2] at hl; simp at hl
      | [x], hl, _ => rw [hl2] at hl; simp at hl
      | x :: y :: l, _, m3 => exact ⟨arr, rfl, m3⟩
end
end Go.Proofs.YtealblliddhgiaaGreat
