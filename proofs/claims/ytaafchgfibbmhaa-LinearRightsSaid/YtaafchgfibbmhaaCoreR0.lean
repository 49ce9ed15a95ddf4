/-
  REGIONS WHOSE ORDER IS DRAWN (4): in the text's order ('regD'). Conditions: none.
-/
import Derived.Test.YtaafchgfibbmhaaCoreQ
namespace Go.Proofs.Ytaafchgfibbmhaa

/-- A call of a function of data, in a drawn region: it returns (its arrays handed over, or lent), or panics. -/
def callD (P : Program) (g : FuncId) (ds : List D) (Kf Kb KX : V → Prop) : Prop :=
  (∃ rs, PCt P g ds (.ret rs) ∧ (Kf (retV rs) ∨ (D.flats rs = true ∧ Kb (retV rs)))) ∨ (∃ x, PCt P g ds (.pan x) ∧ x.flat = true ∧ KX (.d x)) ∨ (∃ v, PVt P g ds v ∧ Kf v)
/-- A call that sees a part of the heap. -/
def callDh (P : Program) (g : FuncId) (args : List V) (o : Nat → Obj') (nx : Nat) (K : V → List (Nat × Obj') → List Nat → Prop) (KX : V → List Nat → List Nat → Prop) : Prop :=
  ∃ rd Δ, rd.all (fun id => decide (id < nx)) = true ∧ ((∃ rs, HCt P g args rd o (.ret rs) Δ ∧ K (retV rs) Δ rd) ∨ (∃ x, HCt P g args rd o (.pan x) Δ ∧ KX (.d x) (Δ.map (·.1)) rd))
def opD (P : Program) (s : S) (fr : Nat) (o : IOp) (K : V → List (Nat × Obj') → List Nat → Prop) (KX : V → List Nat → List Nat → Prop) : Prop :=
  match o.op with
  | .call c => match c.callee with
    | .value f => match s.ev f with
      | .func (.func g) first cap => match toDs s.o (first ++ c.args.toList.map s.ev ++ cap) with
        | some ds => callD P g ds (fun v => K v (frz s.o (V.idss (first ++ c.args.toList.map s.ev ++ cap))) (opR s o.op)) (fun v => K v [] (opR s o.op)) (fun v => KX v [] (opR s o.op))
        | none => callDh P g (first ++ c.args.toList.map s.ev ++ cap) s.o s.nx K KX
      | _ => False
    | _ => match sopF P s fr o.op with
      | some (v, Δ, _) => K v Δ (opR s o.op)
      | none => False
  | op => match sopF P s fr op with
    | some (v, Δ, _) => K v Δ (opR s o.op)
    | none => False
abbrev Fp := List (List Nat × List Nat)
/-- Behind a panic: what does not wait for it must still run to its end. -/
def regB (P : Program) (KB : List Nat → Fp → Prop) (pr : List (List Nat)) : List IOp → Nat → S → Fp → List Nat → List Nat → Prop
  | [], _, _, fp, _, ws => KB ws fp
  | o :: l, fr, s, fp, bad, ws => if (pr.getD fp.length []).any (fun j => bad.contains j) = true then regB P KB pr l (fr + 1) ⟨putE s.env o.dst .junk, s.o, s.nx⟩ (fp ++ [([], [])]) (bad ++ [fp.length]) ws
    else match o.gd with
    | none => opD P s fr o (fun v Δ rd => regB P KB pr l (fr + 1) ⟨putE s.env o.dst v, put s.o Δ, s.nx⟩ (fp ++ [(rd, Δ.map (·.1))]) bad (ws ++ Δ.map (·.1))) (fun _ _ _ => False)
    | some (d, want) => match s.env d with
      | .d (.bool b) => if b = want then opD P s fr o (fun v Δ rd => regB P KB pr l (fr + 1) ⟨putE s.env o.dst v, put s.o Δ, s.nx⟩ (fp ++ [(rd, Δ.map (·.1))]) bad (ws ++ Δ.map (·.1))) (fun _ _ _ => False)
          else regB P KB pr l (fr + 1) ⟨putE s.env o.dst (.tup []), s.o, s.nx⟩ (fp ++ [([], [])]) bad ws
      | .tup [] => regB P KB pr l (fr + 1) ⟨putE s.env o.dst (.tup []), s.o, s.nx⟩ (fp ++ [([], [])]) bad ws
      | _ => False
def regD (P : Program) (K : S → Fp → Prop) (KP : V → List Nat → Fp → Prop) (pr : List (List Nat)) : List IOp → Nat → S → Fp → Prop
  | [], _, s, fp => K s fp
  | o :: l, fr, s, fp => match o.gd with
    | none => opD P s fr o (fun v Δ rd => regD P K KP pr l (fr + 1) ⟨putE s.env o.dst v, put s.o Δ, s.nx⟩ (fp ++ [(rd, Δ.map (·.1))]))
        (fun v ws rd => regB P (KP v) pr l (fr + 1) ⟨putE s.env o.dst .junk, s.o, s.nx⟩ (fp ++ [(rd, [])]) [fp.length] (ws ++ fp.flatMap (·.2)))
    | some (d, want) => match s.env d with
      | .d (.bool b) => if b = want then opD P s fr o (fun v Δ rd => regD P K KP pr l (fr + 1) ⟨putE s.env o.dst v, put s.o Δ, s.nx⟩ (fp ++ [(rd, Δ.map (·.1))]))
            (fun v ws rd => regB P (KP v) pr l (fr + 1) ⟨putE s.env o.dst .junk, s.o, s.nx⟩ (fp ++ [(rd, [])]) [fp.length] (ws ++ fp.flatMap (·.2)))
          else regD P K KP pr l (fr + 1) ⟨putE s.env o.dst (.tup []), s.o, s.nx⟩ (fp ++ [([], [])])
      | .tup [] => regD P K KP pr l (fr + 1) ⟨putE s.env o.dst (.tup []), s.o, s.nx⟩ (fp ++ [([], [])])
      | _ => False
def endD (pr : List (List Nat)) (nx : Nat) (Q : Xit → S → Prop) (s : S) (fp : Fp) : Prop := objsOk pr fp = true ∧ Q .normal ⟨s.env, s.o, nx⟩
def dstsOf (l : List IOp) : List Nat := l.filterMap (·.dst)
def endP (pr : List (List Nat)) (l : List IOp) (s0 : S) (Q : Xit → S → Prop) (v : V) (wl : List Nat) (fp : Fp) : Prop := objsOk pr fp = true ∧ Q (.pan v) (panS (dstsOf l) wl l.length s0)

def foldA : List IOp → List ActR → S → Nat → S
  | _, _, s, 0 => s
  | o :: l, x :: xs, s, j + 1 => foldA l xs (apA o.dst x s) j
  | _, _, s, _ => s
def fps (as : List ActR) : Fp := as.map fun x => (actR x, actW x)

section
variable {P : Program} {n b : Nat}

theorem opD_step {s : S} {fr : Nat} {o : IOp} {K : V → List (Nat × Obj') → List Nat → Prop} {KX : V → List Nat → List Nat → Prop} (h : opD P s fr o K KX) : (∃ v Δ rd, StepA P s fr o.op v Δ rd ∧ K v Δ rd) ∨ (∃ v ws rd, StepP P s o.op v ws rd ∧ KX v ws rd) := by
  have hs : ∀ {op : Op}, o.op = op → (match sopF P s fr op with | some (v, Δ, _) => K v Δ (opR s o.op) | none => False) → (∃ v Δ rd, StepA P s fr o.op v Δ rd ∧ K v Δ rd) := by
    intro op hop h
    split at h
    · rename_i v Δ rd he; exact ⟨v, Δ, _, .inl ⟨⟨rd, by rw [hop]; exact he⟩, rfl⟩, h⟩
    · exact h.elim
  unfold opD at h
  split at h
  · rename_i c hc
    split at h
    · rename_i f hcal
      split at h
      · rename_i g first cap hf
        split at h
        · rename_i ds hds
          rcases h with ⟨rs, hP, h | ⟨hfl, h⟩⟩ | ⟨x, hP, hfl, h⟩ | ⟨v, hP, h⟩
          · exact .inl ⟨_, _, _, .inr ⟨c, f, g, first, cap, hc, hcal, hf, .inl ⟨ds, rs, hds, hP, rfl, rfl, .inl rfl⟩⟩, h⟩
          · exact .inl ⟨_, _, _, .inr ⟨c, f, g, first, cap, hc, hcal, hf, .inl ⟨ds, rs, hds, hP, rfl, rfl, .inr ⟨hfl, rfl⟩⟩⟩, h⟩
          · exact .inr ⟨_, _, _, ⟨c, f, g, first, cap, hc, hcal, hf, .inl ⟨ds, x, hds, hP, hfl, rfl, rfl, rfl⟩⟩, h⟩
          · exact .inl ⟨_, _, _, .inr ⟨c, f, g, first, cap, hc, hcal, hf, .inr (.inr ⟨ds, hds, hP, rfl, rfl⟩)⟩, h⟩
        · obtain ⟨rd, Δ, hrd, ⟨rs, hH, h⟩ | ⟨x, hH, h⟩⟩ := h
          · exact .inl ⟨_, _, _, .inr ⟨c, f, g, first, cap, hc, hcal, hf, .inr (.inl ⟨rs, hH, rfl, fun id hid => by simpa using List.all_eq_true.1 hrd id hid⟩)⟩, h⟩
          · exact .inr ⟨_, _, _, ⟨c, f, g, first, cap, hc, hcal, hf, .inr ⟨x, Δ, hH, rfl, rfl, fun id hid => by simpa using List.all_eq_true.1 hrd id hid⟩⟩, h⟩
      · exact h.elim
    · rw [hc] at h; exact .inl (hs hc (by rw [hc]; exact h))
  · exact .inl (hs rfl h)

def LexB (P : Program) (KB : List Nat → Fp → Prop) (pr : List (List Nat)) (l : List IOp) (fr : Nat) (s : S) (fp : Fp) (bad ws : List Nat) : Prop :=
    ∃ as : List ActR, as.length = l.length ∧ (∀ j o x, l[j]? = some o → as[j]? = some x → OkA P (foldA l as s j) (fr + j) o x) ∧
      (∀ (j : Nat), as[j]? = some ActR.blk → ∃ i ∈ pr.getD (fp.length + j) [], i ∈ bad ∨ ∃ j', j' < j ∧ i = fp.length + j' ∧ as[j']? = some .blk) ∧ (∀ x ∈ as, x = .blk ∨ x.ok = true) ∧
      ∃ wl, KB wl (fp ++ fps as) ∧ (∀ id ∈ ws, id ∈ wl) ∧ ∀ x ∈ as, ∀ id ∈ actW x, id ∈ wl
theorem regB_lex {KB : List Nat → Fp → Prop} {pr : List (List Nat)} : ∀ (l : List IOp) (fr : Nat) (s : S) (fp : Fp) (bad ws : List Nat), regB P KB pr l fr s fp bad ws → LexB P KB pr l fr s fp bad ws
  | [], fr, s, fp, bad, ws, h => ⟨[], rfl, fun j o x hj => by simp at hj, fun j hj => by simp at hj, fun x hx => by simp at hx, ws, by simpa [fps, regB] using h, fun _ h => h, fun x hx => by simp at hx⟩
  | o :: l, fr, s, fp, bad, ws, h => by
    have step : ∀ (x : ActR) (bad' ws' : List Nat), OkA P s fr o x → regB P KB pr l (fr + 1) (apA o.dst x s) (fp ++ [(actR x, actW x)]) bad' ws' → (x = .blk ∨ x.ok = true) → (x = .blk → ∃ i ∈ pr.getD fp.length [], i ∈ bad) →
        (∀ i ∈ bad', i ∈ bad ∨ (i = fp.length ∧ x = .blk)) → (∀ id ∈ ws, id ∈ ws') → (∀ id ∈ actW x, id ∈ ws') →
        LexB P KB pr (o :: l) fr s fp bad ws := by
      intro x bad' ws' hok hr hbo hblk hbad hws hW
      obtain ⟨as, h1, h2, h3, h4, wl, h5, h6, h7⟩ := regB_lex l (fr + 1) _ _ bad' ws' hr
      refine ⟨x :: as, by simp [h1], fun j o' y hj hy => ?_, fun j hj => ?_, fun y hy => ?_, wl, by simpa [fps] using h5, fun id hid => h6 id (hws id hid), fun y hy id hid => ?_⟩
      · cases j with
        | zero => simp at hj hy; subst hj; subst hy; exact hok
        | succ j =>
          have := h2 j o' y (by simpa using hj) (by simpa using hy)
          rw [show fr + (j + 1) = fr + 1 + j by omega]
          exact this
      · cases j with
        | zero =>
          simp at hj
          obtain ⟨i, i1, i2⟩ := hblk hj
          exact ⟨i, by simpa using i1, .inl i2⟩
        | succ j =>
          obtain ⟨i, i1, i2⟩ := h3 j (by simpa using hj)
          simp only [List.length_append, List.length_cons, List.length_nil] at i1 i2
          refine ⟨i, by rw [show fp.length + (j + 1) = fp.length + (0 + 1) + j by omega]; exact i1, ?_⟩
          rcases i2 with i2 | ⟨j', j1, j2, j3⟩
          · rcases hbad i i2 with hb | ⟨e1, e2⟩
            · exact .inl hb
            · exact .inr ⟨0, by omega, by omega, by simp [e2]⟩
          · exact .inr ⟨j' + 1, by omega, by omega, by simpa using j3⟩
      · rcases List.mem_cons.1 hy with rfl | hy
        · exact hbo
        · exact h4 y hy
      · rcases List.mem_cons.1 hy with rfl | hy
        · exact h6 id (hW id hid)
        · exact h7 y hy id hid
    simp only [regB] at h
    split at h
    · rename_i hb
      obtain ⟨j, hj1, hj2⟩ := List.any_eq_true.1 hb
      exact step .blk _ _ trivial h (.inl rfl) (fun _ => ⟨j, hj1, by simpa using hj2⟩) (fun i hi => by
        rcases List.mem_append.1 hi with hi | hi
        · exact .inl hi
        · exact .inr ⟨by simpa using hi, rfl⟩) (fun _ h => h) (fun id hid => by simp [actW] at hid)
    · have opstep : guardIs s o.gd true → opD P s fr o (fun v Δ rd => regB P KB pr l (fr + 1) ⟨putE s.env o.dst v, put s.o Δ, s.nx⟩ (fp ++ [(rd, Δ.map (·.1))]) bad (ws ++ Δ.map (·.1))) (fun _ _ _ => False) → LexB P KB pr (o :: l) fr s fp bad ws := fun hg h => by
        rcases opD_step h with ⟨v, Δ, rd, hst, h⟩ | ⟨v, ws', rd, _, h⟩
        · exact step (.val v Δ rd) bad (ws ++ Δ.map (·.1)) ⟨hg, hst⟩ h (.inr rfl) (fun h => by cases h) (fun i hi => .inl hi) (fun id hid => List.mem_append.2 (.inl hid)) (fun id hid => List.mem_append.2 (.inr hid))
        · exact h.elim
      have skip : guardIs s o.gd false → regB P KB pr l (fr + 1) ⟨putE s.env o.dst (.tup []), s.o, s.nx⟩ (fp ++ [([], [])]) bad ws → LexB P KB pr (o :: l) fr s fp bad ws := fun hg h =>
        step .skip bad ws hg h (.inr rfl) (fun h => by cases h) (fun i hi => .inl hi) (fun id hid => hid) (fun id hid => by simp [actW] at hid)
      split at h
      · rename_i hg; exact opstep (by rw [hg]; rfl) h
      · rename_i d want hg
        split at h
        · rename_i c hv
          split at h
          · rename_i e; exact opstep (by rw [hg]; simp [guardIs, hv, e]) h
          · rename_i e; exact skip (by rw [hg]; simp [guardIs, hv, e]) h
        · rename_i hv; exact skip (by rw [hg]; simp [guardIs, hv]) h
        · exact h.elim

/-- A region's operations, in the text's order: all run; or one panics. -/
def LexD (P : Program) (K : S → Fp → Prop) (KP : V → List Nat → Fp → Prop) (pr : List (List Nat)) (l : List IOp) (fr : Nat) (s : S) (fp : Fp) : Prop :=
  ∃ as : List ActR, as.length = l.length ∧ (∀ j o x, l[j]? = some o → as[j]? = some x → OkA P (foldA l as s j) (fr + j) o x) ∧
    (((∀ x ∈ as, x.ok = true) ∧ K (foldA l as s l.length) (fp ++ fps as)) ∨
     ∃ v wl, (∀ (j : Nat) (v' : V) (ws rd : List Nat), as[j]? = some (ActR.pan v' ws rd) → v' = v ∧ ∀ id ∈ ws, id ∈ wl) ∧ (∃ x ∈ as, x.ok = false) ∧
       (∀ (j : Nat), as[j]? = some ActR.blk → ∃ i ∈ pr.getD (fp.length + j) [], ∃ j', i = fp.length + j' ∧ ∃ y, as[j']? = some y ∧ y.ok = false) ∧ KP v wl (fp ++ fps as) ∧ (∀ x ∈ as, ∀ id ∈ actW x, id ∈ wl) ∧ ∀ id ∈ fp.flatMap (·.2), id ∈ wl)

theorem regD_lex {K : S → Fp → Prop} {KP : V → List Nat → Fp → Prop} {pr : List (List Nat)} : ∀ (l : List IOp) (fr : Nat) (s : S) (fp : Fp), regD P K KP pr l fr s fp → LexD P K KP pr l fr s fp
  | [], fr, s, fp, h => ⟨[], rfl, fun j o x hj => by simp at hj, .inl ⟨fun x hx => by simp at hx, by simpa [foldA, fps, regD] using h⟩⟩
  | o :: l, fr, s, fp, h => by
    have step : ∀ (x : ActR), x.ok = true → OkA P s fr o x → regD P K KP pr l (fr + 1) (apA o.dst x s) (fp ++ [(actR x, actW x)]) → LexD P K KP pr (o :: l) fr s fp := by
      intro x hxo hok hr
      obtain ⟨as, h1, h2, h3⟩ := regD_lex l (fr + 1) _ _ hr
      refine ⟨x :: as, by simp [h1], fun j o' y hj hy => ?_, ?_⟩
      · cases j with
        | zero => simp at hj hy; subst hj; subst hy; exact hok
        | succ j =>
          have := h2 j o' y (by simpa using hj) (by simpa using hy)
          rw [show fr + (j + 1) = fr + 1 + j by omega]
          exact this
      · rcases h3 with ⟨h3, h4⟩ | ⟨v, wl, g1, g2, g3, g4, g5, g6⟩
        · left
          refine ⟨fun y hy => ?_, by simpa [foldA, fps] using h4⟩
          rcases List.mem_cons.1 hy with rfl | hy
          · exact hxo
          · exact h3 y hy
        · right
          refine ⟨v, wl, fun j v' ws rd hj => ?_, ?_, fun j hj => ?_, by simpa [fps] using g4, fun y hy id hid => ?_, fun id hid => g6 id (by simp only [List.flatMap_append, List.mem_append]; exact .inl hid)⟩
          · cases j with
            | zero => simp at hj; rw [hj] at hxo; cases hxo
            | succ j => exact g1 j v' ws rd (by simpa using hj)
          · obtain ⟨y, y1, y2⟩ := g2; exact ⟨y, by simp [y1], y2⟩
          · cases j with
            | zero => simp at hj; rw [hj] at hxo; cases hxo
            | succ j =>
              obtain ⟨i, i1, j', i2, y, i3, i4⟩ := g3 j (by simpa using hj)
              simp only [List.length_append, List.length_cons, List.length_nil] at i1 i2
              exact ⟨i, by rw [show fp.length + (j + 1) = fp.length + (0 + 1) + j by omega]; exact i1, j' + 1, by omega, y, by simpa using i3, i4⟩
          · rcases List.mem_cons.1 hy with rfl | hy
            · exact g6 id (by simp only [List.flatMap_append, List.mem_append]; exact .inr (by simpa using hid))
            · exact g5 y hy id hid
    have pan : ∀ (v : V) (ws rd : List Nat), OkA P s fr o (.pan v ws rd) → regB P (KP v) pr l (fr + 1) ⟨putE s.env o.dst .junk, s.o, s.nx⟩ (fp ++ [(rd, [])]) [fp.length] (ws ++ fp.flatMap (·.2)) → LexD P K KP pr (o :: l) fr s fp := by
      intro v ws rd hok hr
      obtain ⟨as, h1, h2, h3, h4, wl, h5, h6, h7⟩ := regB_lex l (fr + 1) _ _ _ _ hr
      refine ⟨ActR.pan v ws rd :: as, by simp [h1], fun j o' y hj hy => ?_, .inr ⟨v, wl, fun j v' ws' rd' hj => ?_, ⟨ActR.pan v ws rd, by simp, rfl⟩, fun j hj => ?_, by simpa [fps, actR, actW] using h5, fun y hy id hid => ?_, fun id hid => h6 id (List.mem_append.2 (.inr hid))⟩⟩
      · cases j with
        | zero => simp at hj hy; subst hj; subst hy; exact hok
        | succ j =>
          have := h2 j o' y (by simpa using hj) (by simpa using hy)
          rw [show fr + (j + 1) = fr + 1 + j by omega]
          exact this
      · cases j with
        | zero => simp at hj; obtain ⟨rfl, rfl, rfl⟩ := hj; exact ⟨rfl, fun id hid => h6 id (List.mem_append.2 (.inl hid))⟩
        | succ j =>
          have hm := List.mem_of_getElem? (show as[j]? = some (.pan v' ws' rd') by simpa using hj)
          rcases h4 _ hm with h | h <;> cases h
      · cases j with
        | zero => simp at hj
        | succ j =>
          obtain ⟨i, i1, i2⟩ := h3 j (by simpa using hj)
          simp only [List.length_append, List.length_cons, List.length_nil] at i1 i2
          refine ⟨i, by rw [show fp.length + (j + 1) = fp.length + (0 + 1) + j by omega]; exact i1, ?_⟩
          rcases i2 with i2 | ⟨j', j1, j2, j3⟩
          · exact ⟨0, by simpa using i2, _, rfl, rfl⟩
          · exact ⟨j' + 1, by omega, .blk, by simpa using j3, rfl⟩
      · rcases List.mem_cons.1 hy with rfl | hy
        · simp [actW] at hid
        · exact h7 y hy id hid
    have opstep : guardIs s o.gd true → opD P s fr o (fun v Δ rd => regD P K KP pr l (fr + 1) ⟨putE s.env o.dst v, put s.o Δ, s.nx⟩ (fp ++ [(rd, Δ.map (·.1))]))
        (fun v ws rd => regB P (KP v) pr l (fr + 1) ⟨putE s.env o.dst .junk, s.o, s.nx⟩ (fp ++ [(rd, [])]) [fp.length] (ws ++ fp.flatMap (·.2))) → LexD P K KP pr (o :: l) fr s fp := fun hg h => by
      rcases opD_step h with ⟨v, Δ, rd, hst, h⟩ | ⟨v, ws, rd, hst, h⟩
      · exact step (.val v Δ rd) rfl ⟨hg, hst⟩ h
      · exact pan v ws rd ⟨hg, hst⟩ h
    have skip : guardIs s o.gd false → regD P K KP pr l (fr + 1) ⟨putE s.env o.dst (.tup []), s.o, s.nx⟩ (fp ++ [([], [])]) → LexD P K KP pr (o :: l) fr s fp := fun hg h => step .skip rfl hg h
    simp only [regD] at h
    split at h
    · rename_i hg; exact opstep (by rw [hg]; rfl) h
    · rename_i d want hg
      split at h
      · rename_i c hv
        split at h
        · rename_i e; exact opstep (by rw [hg]; simp [guardIs, hv, e]) h
        · rename_i e; exact skip (by rw [hg]; simp [guardIs, hv, e]) h
      · rename_i hv; exact skip (by rw [hg]; simp [guardIs, hv]) h
      · exact h.elim
end
end Go.Proofs.Ytaafchgfibbmhaa
