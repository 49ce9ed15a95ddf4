/-
  REGIONS WHOSE ORDER IS DRAWN (1): what an operation looks at; that it does the same wherever that is the same. Conditions: as each lemma says.
-/
import Derived.Test.YtaafchgfibbmhaaCoreN
namespace Go.Proofs.Ytaafchgfibbmhaa

mutual
/-- The objects that a value names. -/
def V.refs : V → List Nat
  | .ptr id _ => [id] | .osl id _ => [id] | .pe id _ _ _ _ => [id] | .rsl id _ _ => [id] | .mp id => [id] | .yld id => [id]
  | .agg cs => V.refss cs
  | .tup cs => V.refss cs
  | .func _ a b => V.refss a ++ V.refss b
  | .iface _ x => x.refs
  | _ => []
def V.refss : List V → List Nat
  | [] => []
  | v :: vs => v.refs ++ V.refss vs
end
mutual
theorem ids_refs : ∀ (v : V), ∀ id ∈ v.ids, id ∈ v.refs
  | .osl id _, j, h => by simpa [V.ids, V.refs] using h
  | .agg cs, j, h => by simp only [V.ids] at h; simp only [V.refs]; exact idss_refss cs j h
  | .iface _ x, j, h => by simp only [V.ids] at h; simp only [V.refs]; exact ids_refs x j h
  | .d _, _, h | .nils, _, h | .tup _, _, h | .ptr _ _, _, h | .pe _ _ _ _ _, _, h | .pp _ _, _, h | .func _ _ _, _, h | .junk, _, h | .csl _, _, h | .rsl _ _ _, _, h | .mp _, _, h | .anyb, _, h | .yld _, _, h => by simp [V.ids] at h
theorem idss_refss : ∀ (vs : List V), ∀ id ∈ V.idss vs, id ∈ V.refss vs
  | [], j, h => by simp [V.idss] at h
  | v :: vs, j, h => by
    simp only [V.idss, V.refss, List.mem_append] at h ⊢
    exact h.imp (ids_refs v j) (idss_refss vs j)
end
mutual
theorem toD_frame {o o' : Nat → Obj'} : ∀ (v : V), (∀ id ∈ v.refs, o' id = o id) → toD o' v = toD o v
  | .osl id ep, h => by simp only [toD, h id (by simp [V.refs])]
  | .agg cs, h => by simp only [toD, toDs_frame cs (by simpa [V.refs] using h)]
  | .iface t x, h => by simp only [toD, toD_frame x (by simpa [V.refs] using h)]
  | .d _, _ | .nils, _ | .tup _, _ | .ptr _ _, _ | .pe _ _ _ _ _, _ | .pp _ _, _ | .func _ _ _, _ | .junk, _ | .csl _, _ | .rsl _ _ _, _ | .mp _, _ | .anyb, _ | .yld _, _ => by simp only [toD]
theorem toDs_frame {o o' : Nat → Obj'} : ∀ (vs : List V), (∀ id ∈ V.refss vs, o' id = o id) → toDs o' vs = toDs o vs
  | [], _ => rfl
  | v :: vs, h => by
    simp only [toDs, toD_frame v (fun id hid => h id (by simp [V.refss, hid])), toDs_frame vs (fun id hid => h id (by simp [V.refss, hid]))]
end
theorem frz_frame {o o' : Nat → Obj'} {ids : List Nat} (h : ∀ id ∈ ids, o' id = o id) : frz o' ids = frz o ids := by
  rw [frz_eq, frz_eq]
  exact List.map_congr_left fun id hid => by rw [h id hid]

def Op.callF? : Op → Option (Operand × Array Operand)
  | .call c => match c.callee with
    | .value f => some (f, c.args)
    | _ => none
  | _ => none
/-- What an operation looks at in the heap. -/
def opR (s : S) (op : Op) : List Nat :=
  match op with
  | .load _ x => (s.ev x).refs
  | .nilCheck x => (s.ev x).refs
  | .fieldAddr _ x _ => (s.ev x).refs
  | .indexAddr _ x _ => (s.ev x).refs
  | .store _ x v => (s.ev x).refs ++ (s.ev v).refs
  | .buildSlice _ _ parts => V.refss (parts.toList.map fun p => s.ev p.2)
  | .binOp _ _ x y _ => (s.ev x).refs ++ (s.ev y).refs
  | .slice _ x _ _ _ => (s.ev x).refs
  | .lookup _ m k _ => (s.ev m).refs ++ (s.ev k).refs
  | .mapUpdate _ m k v => (s.ev m).refs ++ ((s.ev k).refs ++ (s.ev v).refs)
  | .call c => match c.callee with
    | .builtin _ => V.refss (c.args.toList.map s.ev)
    | .value f => match s.ev f with
      | .func _ first cap => V.refss (first ++ c.args.toList.map s.ev ++ cap)
      | _ => []
    | _ => []
  | _ => []

section
variable {P : Program} {s s' : S} {fr : Nat}

theorem listF_frame {o o' : Nat → Obj'} (v : V) (h : ∀ id ∈ v.refs, o' id = o id) : listF o' v = listF o v := by
  cases v with
  | osl id ep => simp only [listF, h id (by simp [V.refs])]
  | d x => cases x <;> rfl
  | _ => rfl
theorem stepF_frame {o o' : Nat → Obj'} (v : V) (q : Nat) (h : ∀ id ∈ v.refs, o' id = o id) : stepF o' v q = stepF o v q := by
  cases v <;> simp only [stepF] <;> rw [h _ (by simp [V.refs])]

theorem nilF_frame {o o' : Nat → Obj'} (v : V) (h : ∀ id ∈ v.refs, o' id = o id) : nilF o' v = nilF o v := by
  have h1 : listV o' v = listV o v := by unfold listV; rw [toD_frame v h]
  cases v <;> first | rfl | simp only [nilF, h1]
theorem mapNil_frame {o o' : Nat → Obj'} (v : V) (h : ∀ id ∈ v.refs, o' id = o id) : mapNil o' v = mapNil o v := by
  cases v with
  | mp id => simp only [mapNil, h id (by simp [V.refs])]
  | d x => cases x <;> rfl
  | _ => rfl
theorem ptrNil_frame {o o' : Nat → Obj'} (v : V) (h : ∀ id ∈ v.refs, o' id = o id) : ptrNil o' v = ptrNil o v := by
  cases v with
  | ptr id off => simp only [ptrNil, h id (by simp [V.refs])]
  | d x => cases x <;> rfl
  | _ => rfl
theorem mapEs_frame {o o' : Nat → Obj'} (v : V) (h : ∀ id ∈ v.refs, o' id = o id) : mapEs o' v = mapEs o v := by
  cases v with
  | mp id => simp only [mapEs, h id (by simp [V.refs])]
  | d x => cases x <;> rfl
  | _ => rfl
theorem ptrRow_frame {o o' : Nat → Obj'} (v : V) (h : ∀ id ∈ v.refs, o' id = o id) : ptrRow o' v = ptrRow o v := by
  cases v with
  | ptr id off => simp only [ptrRow, h id (by simp [V.refs])]
  | _ => rfl
theorem rslRow_frame {o o' : Nat → Obj'} (v : V) (h : ∀ id ∈ v.refs, o' id = o id) : rslRow o' v = rslRow o v := by
  cases v with
  | rsl id off n => simp only [rslRow, h id (by simp [V.refs])]
  | _ => rfl
theorem sopF_frame (op : Op) (hv : ∀ x ∈ op.operands, s'.ev x = s.ev x) (ho : ∀ id ∈ opR s op, s'.o id = s.o id) : sopF P s' fr op = sopF P s fr op := by
  cases op <;> simp only [sopF]
  case move x => rw [hv x (by simp [Op.operands])]
  case assign x => rw [hv x (by simp [Op.operands])]
  case pick c a b => rw [hv c (by simp [Op.operands]), hv a (by simp [Op.operands]), hv b (by simp [Op.operands])]
  case box t x => rw [hv x (by simp [Op.operands])]
  case build t parts =>
    have : (parts.toList.map fun p => (p.1, s'.ev p.2)) = parts.toList.map fun p => (p.1, s.ev p.2) :=
      List.map_congr_left fun p hp => by rw [hv p.2 (by simp only [Op.operands]; simp; exact ⟨p.1, by simpa using hp⟩)]
    rw [this]
  case buildSlice t len parts =>
    have : (parts.toList.map fun p => (p.1, s'.ev p.2)) = parts.toList.map fun p => (p.1, s.ev p.2) :=
      List.map_congr_left fun p hp => by rw [hv p.2 (by simp only [Op.operands]; simp; exact ⟨p.1, by simpa using hp⟩)]
    rw [this]
    have e : (parts.toList.map fun p => (p.1, s.ev p.2)).map (·.2) = parts.toList.map fun p => s.ev p.2 := by simp [Function.comp_def]
    have h1 : toDs s'.o ((parts.toList.map fun p => (p.1, s.ev p.2)).map (·.2)) = toDs s.o ((parts.toList.map fun p => (p.1, s.ev p.2)).map (·.2)) := toDs_frame _ (by rw [e]; exact ho)
    have h2 : frz s'.o (V.idss ((parts.toList.map fun p => (p.1, s.ev p.2)).map (·.2))) = frz s.o (V.idss ((parts.toList.map fun p => (p.1, s.ev p.2)).map (·.2))) :=
      frz_frame fun id hid => ho id (by rw [e] at hid; exact idss_refss _ id hid)
    simp only [buildSliceF, h1, h2]
  case load t x =>
    rw [hv x (by simp [Op.operands])]
    cases hx : s.ev x <;> simp only [loadF] <;> rw [ho _ (by simp [opR, hx, V.refs])]
  case store t x y =>
    rw [hv x (by simp [Op.operands]), hv y (by simp [Op.operands])]
    have h1 : toD s'.o (s.ev y) = toD s.o (s.ev y) := toD_frame _ fun id hid => ho id (by simp [opR, hid])
    have h2 : frz s'.o (s.ev y).ids = frz s.o (s.ev y).ids := frz_frame fun id hid => ho id (by simp [opR, ids_refs _ _ hid])
    cases hx : s.ev x <;> simp only [storeF] <;> rw [ho _ (by simp [opR, hx, V.refs])]
    simp only [h1, h2]
  case nilCheck x =>
    rw [hv x (by simp [Op.operands])]
    cases hx : s.ev x with
    | ptr id off => simp only [nilCheckF]; rw [ho _ (by simp [opR, hx, V.refs])]
    | func fn a b => cases fn <;> rfl
    | _ => rfl
  case binOp op t x y yt =>
    rw [hv x (by simp [Op.operands]), hv y (by simp [Op.operands])]
    have h1 : nilF s'.o (s.ev x) = nilF s.o (s.ev x) := nilF_frame _ fun id hid => ho id (by simp [opR, hid])
    have h2 : ∀ a b, eqV P s'.o a b (s.ev x) (s.ev y) = eqV P s.o a b (s.ev x) (s.ev y) := fun a b => by
      have h3 : ∀ id ∈ (s.ev x).refs, s'.o id = s.o id := fun id hid => ho id (by simp [opR, hid])
      have h4 := mapNil_frame (s.ev x) h3
      have h5 := ptrNil_frame (s.ev x) h3
      unfold eqV
      rw [h1, h4, h5]
    unfold bin2F cmpF
    simp only [h2]
  case slice t x lo hi mx =>
    rw [hv x (by simp [Op.operands])]
    have e1 : lo.map s'.ev = lo.map s.ev := by cases lo <;> simp [hv, Op.operands]
    have e2 : hi.map s'.ev = hi.map s.ev := by cases hi <;> simp [hv, Op.operands]
    have e3 : mx.map s'.ev = mx.map s.ev := by cases mx <;> simp [hv, Op.operands]
    rw [e1, e2, e3]
    have h3 : ∀ id ∈ (s.ev x).refs, s'.o id = s.o id := fun id hid => ho id (by simp [opR, hid])
    have h1 : listV s'.o (s.ev x) = listV s.o (s.ev x) := by unfold listV; rw [toD_frame _ h3]
    have h2 : frz s'.o (s.ev x).ids = frz s.o (s.ev x).ids := frz_frame fun id hid => h3 id (ids_refs _ _ hid)
    unfold sliceF
    simp only [h1, h2, ptrRow_frame _ h3]
  case field t x f => rw [hv x (by simp [Op.operands])]
  case typeAssert x xt t ok => rw [hv x (by simp [Op.operands])]
  case makeMap t r => cases r <;> rfl
  case lookup t m k ok =>
    rw [hv m (by simp [Op.operands]), hv k (by simp [Op.operands])]
    have h3 : ∀ id ∈ (s.ev m).refs, s'.o id = s.o id := fun id hid => ho id (by simp [opR, hid])
    have h1 : toD s'.o (s.ev k) = toD s.o (s.ev k) := toD_frame _ fun id hid => ho id (by simp [opR, hid])
    unfold lookupF
    simp only [h1, mapEs_frame _ h3]
  case mapUpdate t m k v =>
    rw [hv m (by simp [Op.operands]), hv k (by simp [Op.operands]), hv v (by simp [Op.operands])]
    have h3 : ∀ id ∈ (s.ev m).refs, s'.o id = s.o id := fun id hid => ho id (by simp [opR, hid])
    have h1 : toD s'.o (s.ev k) = toD s.o (s.ev k) := toD_frame _ fun id hid => ho id (by simp [opR, hid])
    have h2 : toD s'.o (s.ev v) = toD s.o (s.ev v) := toD_frame _ fun id hid => ho id (by simp [opR, hid])
    have h4 : frz s'.o (s.ev v).ids = frz s.o (s.ev v).ids := frz_frame fun id hid => ho id (by simp [opR, ids_refs _ _ hid])
    unfold mapUpdF
    simp only [h1, h2, h4, mapEs_frame _ h3]
  case unOp op t x => rw [hv x (by simp [Op.operands])]
  case convert u t x => rw [hv x (by simp [Op.operands])]
  case makeInterface t x => rw [hv x (by simp [Op.operands])]
  case makeFunc fn first cap =>
    have h1 : first.toList.map s'.ev = first.toList.map s.ev := List.map_congr_left fun x hx => hv x (by simp only [Op.operands]; exact Array.mem_append.2 (.inl (Array.mem_toList_iff.1 hx)))
    have h2 : cap.toList.map s'.ev = cap.toList.map s.ev := List.map_congr_left fun x hx => hv x (by simp only [Op.operands]; exact Array.mem_append.2 (.inr (Array.mem_toList_iff.1 hx)))
    rw [h1, h2]
  case makeSlice t l c => rw [hv l (by simp [Op.operands]), hv c (by simp [Op.operands])]
  case fieldAddr t x f =>
    rw [hv x (by simp [Op.operands])]
    simp only [fieldAddrF]
    cases fieldT P t f <;> simp only
    rw [stepF_frame _ _ (by simpa [opR] using ho)]
  case indexAddr t x i =>
    rw [hv x (by simp [Op.operands]), hv i (by simp [Op.operands])]
    have h1 : ∀ q, stepF s'.o (s.ev x) q = stepF s.o (s.ev x) q := fun q => stepF_frame _ _ (by simpa [opR] using ho)
    simp only [indexAddrF, h1]
    cases hx : s.ev x with
    | osl id ep => simp only [ho id (by simp [opR, hx, V.refs])]
    | d y => cases y <;> rfl
    | _ => rfl
  case extract x i => rw [hv x (by simp [Op.operands])]
  case call c =>
    obtain ⟨cal, args, ts⟩ := c
    cases cal <;> simp only
    rename_i b
    unfold builtinF
    have hm : ∀ x ∈ args.toList, s'.ev x = s.ev x := fun x hx => hv x (by simp only [Op.operands, Call.operands]; exact Array.mem_append.2 (.inr (Array.mem_toList_iff.1 hx)))
    have hr : ∀ x ∈ args.toList, ∀ id ∈ (s.ev x).refs, s'.o id = s.o id := by
      intro x hx id hid
      refine ho id ?_
      simp only [opR]
      generalize args.toList = l at hx
      induction l with
      | nil => cases hx
      | cons y l ih =>
        simp only [List.map_cons, V.refss, List.mem_append]
        rcases List.mem_cons.1 hx with rfl | hx
        · exact .inl hid
        · exact .inr (ih hx)
    split
    · rename_i x ha
      rw [ha] at hm hr
      rw [hm x (by simp)]
      have h1 : ∀ t, lenF P t s'.o (s.ev x) = lenF P t s.o (s.ev x) := fun t => by simp only [lenF, listF_frame _ (hr x (by simp))]
      simp only [h1]
    · rename_i x y ha
      rw [ha] at hm hr
      rw [hm x (by simp), hm y (by simp)]
      simp only [appendF, listF_frame _ (hr y (by simp))]
      cases hx : s.ev x with
      | osl id ep => simp only [hr x (by simp) id (by simp [hx, V.refs])]
      | _ => rfl
    · rename_i x y ha
      rw [ha] at hm
      rw [hm x (by simp), hm y (by simp)]
    · rename_i x y ha
      rw [ha] at hm
      rw [hm x (by simp), hm y (by simp)]
    · rename_i x y ha
      rw [ha] at hm hr
      rw [hm x (by simp), hm y (by simp)]
      have h1 : listV s'.o (s.ev y) = listV s.o (s.ev y) := by unfold listV; rw [toD_frame _ (hr y (by simp))]
      have h2 : frz s'.o (s.ev y).ids = frz s.o (s.ev y).ids := frz_frame fun id hid => hr y (by simp) id (ids_refs _ _ hid)
      unfold copyF
      simp only [h1, h2, rslRow_frame _ (hr x (by simp))]
    · rfl
end
end Go.Proofs.Ytaafchgfibbmhaa
