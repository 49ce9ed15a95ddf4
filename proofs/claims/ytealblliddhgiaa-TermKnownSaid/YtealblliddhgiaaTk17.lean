/-
  A PART OF THE PROOF (put together by program): several texts, one behind the other. Conditions: none.
-/
import Derived.Test.YtealblliddhgiaaTk16
set_option linter.unusedSimpArgs false
set_option linter.unusedVariables false
namespace Go.Proofs.Ytealblliddhgiaa
def callD (P : Program) (g : FuncId) (ds : List D) (Kf Kb KX : V → Prop) : Prop :=
  (∃ rs, PCt P g ds (.ret rs) ∧ (Kf (retV rs) ∨ (D.flats rs = true ∧ Kb (retV rs)))) ∨ (∃ x, PCt P g ds (.pan x) ∧ x.flat = true ∧ KX (.d x)) ∨ (∃ v, PVt P g ds v ∧ Kf v)
def callDh (P : Program) (g : FuncId) (args : List V) (o : Nat → Obj') (nx fr : Nat) (K : V → List (Nat × Obj') → List Nat → Prop) (KX : V → List Nat → List Nat → Prop) : Prop :=
  ∃ rd Δ, rd.all (fun id => decide (id < nx)) = true ∧ ((∃ rs, HCt P g args rd o (.ret rs) Δ ∧ K (retV rs) Δ rd) ∨ (∃ x, HCt P g args rd o (.pan x) Δ ∧ KX (.d x) (Δ.map (·.1)) rd) ∨ (∃ v, HVt P g args rd o fr v Δ ∧ K v Δ rd))
def opD (P : Program) (s : S) (fr : Nat) (o : IOp) (K : V → List (Nat × Obj') → List Nat → Prop) (KX : V → List Nat → List Nat → Prop) : Prop :=
  match o.op with
  | .call c => match c.callee with
    | .value f => match s.ev f with
      | .func (.func g) first cap => match toDs s.o (first ++ c.args.toList.map s.ev ++ cap) with
        | some ds => callD P g ds (fun v => K v (frz s.o (V.idss (first ++ c.args.toList.map s.ev ++ cap))) (opR s o.op)) (fun v => K v [] (opR s o.op)) (fun v => KX v [] (opR s o.op)) ∨ callDh P g (first ++ c.args.toList.map s.ev ++ cap) s.o s.nx fr K KX
        | none => callDh P g (first ++ c.args.toList.map s.ev ++ cap) s.o s.nx fr K KX
      | _ => False
    | _ => match sopF P s fr o.op with
      | some (v, Δ, _) => K v Δ (opR s o.op)
      | none => False
  | op => match sopF P s fr op with
    | some (v, Δ, _) => K v Δ (opR s o.op)
    | none => False
abbrev Fp := List (List Nat × List Nat)
def regB (P : Program) (KB : List Nat → Fp → Prop) (pr : List (List Nat)) : List IOp → Nat → S → Fp → List Nat → List Nat → Prop
  | [], _, _, fp, _, ws => KB ws fp
  | o :: l, fr, s, fp, bad, ws => if (pr.getD fp.length []).any (fun j => bad.contains j) = true then regB P KB pr l (fr + 1) ⟨putE s.env o.dst .junk, s.o, s.nx⟩ (fp ++ [([], [])]) (bad ++ [fp.length]) ws
    else match o.gd with
    | none => opD P s fr o (fun v Δ rd => regB P KB pr l (fr + 1) ⟨putE s.env o.dst v, put s.o Δ, s.nx⟩ (fp ++ [(rd, Δ.map (·.1))]) bad (ws ++ Δ.map (·.1))) (fun _ _ _ => False)
    | some (d, want) => match s.env d with
      | .d (.bool b) => if b = want then opD P s fr o (fun v Δ rd => regB P KB pr l (fr + 1) ⟨putE s.env o.dst v, put s.o Δ, s.nx⟩ (fp ++ [(rd, Δ.map (·.1))]) bad (ws ++ Δ.map (·.1))) (fun _ _ _ => False)
          else regB P KB pr l (fr + 1) ⟨putE s.env o.dst (.tup []), s.o, s.nx⟩ (fp ++ [([], [])]) bad ws
      | .tup [] => regB P KB pr l (fr + 1) ⟨putE s.env o.dst (.tup []), s.o, s.nx⟩ (fp ++ [([], [])]) bad ws
      | _ => False
def regD (P : Program) (K : S → Fp → Prop) (KP : V → List Nat → Fp → Prop) (pr : List (List Nat)) : List IOp → Nat → S → Fp → Prop
  | [], _, s, fp => K s fp
  | o :: l, fr, s, fp => match o.gd with
    | none => opD P s fr o (fun v Δ rd => regD P K KP pr l (fr + 1) ⟨putE s.env o.dst v, put s.o Δ, s.nx⟩ (fp ++ [(rd, Δ.map (·.1))]))
        (fun v ws rd => regB P (KP v) pr l (fr + 1) ⟨putE s.env o.dst .junk, s.o, s.nx⟩ (fp ++ [(rd, [])]) [fp.length] (ws ++ fp.flatMap (·.2)))
    | some (d, want) => match s.env d with
      | .d (.bool b) => if b = want then opD P s fr o (fun v Δ rd => regD P K KP pr l (fr + 1) ⟨putE s.env o.dst v, put s.o Δ, s.nx⟩ (fp ++ [(rd, Δ.map (·.1))]))
            (fun v ws rd => regB P (KP v) pr l (fr + 1) ⟨putE s.env o.dst .junk, s.o, s.nx⟩ (fp ++ [(rd, [])]) [fp.length] (ws ++ fp.flatMap (·.2)))
          else regD P K KP pr l (fr + 1) ⟨putE s.env o.dst (.tup []), s.o, s.nx⟩ (fp ++ [([], [])])
      | .tup [] => regD P K KP pr l (fr + 1) ⟨putE s.env o.dst (.tup []), s.o, s.nx⟩ (fp ++ [([], [])])
      | _ => False
def endD (pr : List (List Nat)) (nx : Nat) (Q : Xit → S → Prop) (s : S) (fp : Fp) : Prop := objsOk pr fp = true ∧ Q .normal ⟨s.env, s.o, nx⟩
def dstsOf (l : List IOp) : List Nat := l.filterMap (·.dst)
def endP (pr : List (List Nat)) (l : List IOp) (s0 : S) (Q : Xit → S → Prop) (v : V) (wl : List Nat) (fp : Fp) : Prop := objsOk pr fp = true ∧ Q (.pan v) (panS (dstsOf l) wl l.length s0)
def foldA : List IOp → List ActR → S → Nat → S
  | _, _, s, 0 => s
  | o :: l, x :: xs, s, j + 1 => foldA l xs (apA o.dst x s) j
  | _, _, s, _ => s
def fps (asz : List ActR) : Fp := asz.map fun x => (actR x, actW x)
section
variable {P : Program} {n b : Nat}
theorem opD_step {s : S} {fr : Nat} {o : IOp} {K : V → List (Nat × Obj') → List Nat → Prop} {KX : V → List Nat → List Nat → Prop} (h : opD P s fr o K KX) : (∃ v Δ rd, StepA P s fr o.op v Δ rd ∧ K v Δ rd) ∨ (∃ v ws rd, StepP P s o.op v ws rd ∧ KX v ws rd) := by
  have hs : ∀ {op : Op}, o.op = op → (match sopF P s fr op with | some (v, Δ, _) => K v Δ (opR s o.op) | none => False) → (∃ v Δ rd, StepA P s fr o.op v Δ rd ∧ K v Δ rd) := by
    intro op hop h
    split at h
    · rename_i v Δ rd he; exact ⟨v, Δ, _, .inl ⟨⟨rd, by rw [hop]; exact he⟩, rfl⟩, h⟩
    · exact h.elim
  unfold opD at h
  split at h
  · rename_i c hc
    split at h
    · rename_i f hcal
      split at h
      · rename_i g first cap hf
        split at h
        · rename_i ds hds
          rcases h with (⟨rs, hP, h | ⟨hfl, h⟩⟩ | ⟨x, hP, hfl, h⟩ | ⟨v, hP, h⟩) | ⟨rd, Δ, hrd, ⟨rs, hH, h⟩ | ⟨x, hH, h⟩ | ⟨v, hH, h⟩⟩
          · exact .inl ⟨_, _, _, .inr ⟨c, f, g, first, cap, hc, hcal, hf, .inl ⟨ds, rs, hds, hP, rfl, rfl, .inl rfl⟩⟩, h⟩
          · exact .inl ⟨_, _, _, .inr ⟨c, f, g, first, cap, hc, hcal, hf, .inl ⟨ds, rs, hds, hP, rfl, rfl, .inr ⟨hfl, rfl⟩⟩⟩, h⟩
          · exact .inr ⟨_, _, _, ⟨c, f, g, first, cap, hc, hcal, hf, .inl ⟨ds, x, hds, hP, hfl, rfl, rfl, rfl⟩⟩, h⟩
          · exact .inl ⟨_, _, _, .inr ⟨c, f, g, first, cap, hc, hcal, hf, .inr (.inr (.inl ⟨ds, hds, hP, rfl, rfl⟩))⟩, h⟩
          · exact .inl ⟨_, _, _, .inr ⟨c, f, g, first, cap, hc, hcal, hf, .inr (.inl ⟨rs, hH, rfl, fun id hid => by simpa using List.all_eq_true.1 hrd id hid⟩)⟩, h⟩
          · exact .inr ⟨_, _, _, ⟨c, f, g, first, cap, hc, hcal, hf, .inr ⟨x, Δ, hH, rfl, rfl, fun id hid => by simpa using List.all_eq_true.1 hrd id hid⟩⟩, h⟩
          · exact .inl ⟨_, _, _, .inr ⟨c, f, g, first, cap, hc, hcal, hf, .inr (.inr (.inr ⟨hH, fun id hid => by simpa using List.all_eq_true.1 hrd id hid⟩))⟩, h⟩
        · obtain ⟨rd, Δ, hrd, ⟨rs, hH, h⟩ | ⟨x, hH, h⟩ | ⟨v, hH, h⟩⟩ := h
          · exact .inl ⟨_, _, _, .inr ⟨c, f, g, first, cap, hc, hcal, hf, .inr (.inl ⟨rs, hH, rfl, fun id hid => by simpa using List.all_eq_true.1 hrd id hid⟩)⟩, h⟩
          · exact .inr ⟨_, _, _, ⟨c, f, g, first, cap, hc, hcal, hf, .inr ⟨x, Δ, hH, rfl, rfl, fun id hid => by simpa using List.all_eq_true.1 hrd id hid⟩⟩, h⟩
          · exact .inl ⟨_, _, _, .inr ⟨c, f, g, first, cap, hc, hcal, hf, .inr (.inr (.inr ⟨hH, fun id hid => by simpa using List.all_eq_true.1 hrd id hid⟩))⟩, h⟩
      · exact h.elim
    · rw [hc] at h; exact .inl (hs hc (by rw [hc]; exact h))
  · exact .inl (hs rfl h)
def LexB (P : Program) (KB : List Nat → Fp → Prop) (pr : List (List Nat)) (l : List IOp) (fr : Nat) (s : S) (fp : Fp) (bad ws : List Nat) : Prop :=
    ∃ asz : List ActR, asz.length = l.length ∧ (∀ j o x, l[j]? = some o → asz[j]? = some x → OkA P (foldA l asz s j) (fr + j) o x) ∧
      (∀ (j : Nat), asz[j]? = some ActR.blk → ∃ i ∈ pr.getD (fp.length + j) [], i ∈ bad ∨ ∃ j', j' < j ∧ i = fp.length + j' ∧ asz[j']? = some .blk) ∧ (∀ x ∈ asz, x = .blk ∨ x.ok = true) ∧
      ∃ wl, KB wl (fp ++ fps asz) ∧ (∀ id ∈ ws, id ∈ wl) ∧ ∀ x ∈ asz, ∀ id ∈ actW x, id ∈ wl
theorem regB_lex {KB : List Nat → Fp → Prop} {pr : List (List Nat)} : ∀ (l : List IOp) (fr : Nat) (s : S) (fp : Fp) (bad ws : List Nat), regB P KB pr l fr s fp bad ws → LexB P KB pr l fr s fp bad ws
  | [], fr, s, fp, bad, ws, h => ⟨[], rfl, fun j o x hj => by simp at hj, fun j hj => by simp at hj, fun x hx => by simp at hx, ws, by simpa [fps, regB] using h, fun _ h => h, fun x hx => by simp at hx⟩
  | o :: l, fr, s, fp, bad, ws, h => by
    have step : ∀ (x : ActR) (bad' ws' : List Nat), OkA P s fr o x → regB P KB pr l (fr + 1) (apA o.dst x s) (fp ++ [(actR x, actW x)]) bad' ws' → (x = .blk ∨ x.ok = true) → (x = .blk → ∃ i ∈ pr.getD fp.length [], i ∈ bad) →
        (∀ i ∈ bad', i ∈ bad ∨ (i = fp.length ∧ x = .blk)) → (∀ id ∈ ws, id ∈ ws') → (∀ id ∈ actW x, id ∈ ws') →
        LexB P KB pr (o :: l) fr s fp bad ws := by
      intro x bad' ws' hok hr hbo hblk hbad hws hW
      obtain ⟨asz, h1, h2, h3, h4, wl, h5, h6, h7⟩ := regB_lex l (fr + 1) _ _ bad' ws' hr
      refine ⟨x :: asz, by simp [h1], fun j o' y hj hy => ?_, fun j hj => ?_, fun y hy => ?_, wl, by simpa [fps] using h5, fun id hid => h6 id (hws id hid), fun y hy id hid => ?_⟩
      · cases j with
        | zero => simp at hj hy; subst hj; subst hy; exact hok
        | succ j =>
          have := h2 j o' y (by simpa using hj) (by simpa using hy)
          rw [show fr + (j + 1) = fr + 1 + j by omega]
          exact this
      · cases j with
        | zero =>
          simp at hj
          obtain ⟨i, i1, i2⟩ := hblk hj
          exact ⟨i, by simpa using i1, .inl i2⟩
        | succ j =>
          obtain ⟨i, i1, i2⟩ := h3 j (by simpa using hj)
          simp only [List.length_append, List.length_cons, List.length_nil] at i1 i2
          refine ⟨i, by rw [show fp.length + (j + 1) = fp.length + (0 + 1) + j by omega]; exact i1, ?_⟩
          rcases i2 with i2 | ⟨j', j1, j2, j3⟩
          · rcases hbad i i2 with hb | ⟨e1, e2⟩
            · exact .inl hb
            · exact .inr ⟨0, by omega, by omega, by simp [e2]⟩
          · exact .inr ⟨j' + 1, by omega, by omega, by simpa using j3⟩
      · rcases List.mem_cons.1 hy with rfl | hy
        · exact hbo
        · exact h4 y hy
      · rcases List.mem_cons.1 hy with rfl | hy
        · exact h6 id (hW id hid)
        · exact h7 y hy id hid
    simp only [regB] at h
    split at h
    · rename_i hb
      obtain ⟨j, hj1, hj2⟩ := List.any_eq_true.1 hb
      exact step .blk _ _ trivial h (.inl rfl) (fun _ => ⟨j, hj1, by simpa using hj2⟩) (fun i hi => by
        rcases List.mem_append.1 hi with hi | hi
        · exact .inl hi
        · exact .inr ⟨by simpa using hi, rfl⟩) (fun _ h => h) (fun id hid => by simp [actW] at hid)
    · have opstep : guardIs s o.gd true → opD P s fr o (fun v Δ rd => regB P KB pr l (fr + 1) ⟨putE s.env o.dst v, put s.o Δ, s.nx⟩ (fp ++ [(rd, Δ.map (·.1))]) bad (ws ++ Δ.map (·.1))) (fun _ _ _ => False) → LexB P KB pr (o :: l) fr s fp bad ws := fun hg h => by
        rcases opD_step h with ⟨v, Δ, rd, hst, h⟩ | ⟨v, ws', rd, _, h⟩
        · exact step (.val v Δ rd) bad (ws ++ Δ.map (·.1)) ⟨hg, hst⟩ h (.inr rfl) (fun h => by cases h) (fun i hi => .inl hi) (fun id hid => List.mem_append.2 (.inl hid)) (fun id hid => List.mem_append.2 (.inr hid))
        · exact h.elim
      have skip : guardIs s o.gd false → regB P KB pr l (fr + 1) ⟨putE s.env o.dst (.tup []), s.o, s.nx⟩ (fp ++ [([], [])]) bad ws → LexB P KB pr (o :: l) fr s fp bad ws := fun hg h =>
        step .skip bad ws hg h (.inr rfl) (fun h => by cases h) (fun i hi => .inl hi) (fun id hid => hid) (fun id hid => by simp [actW] at hid)
      split at h
      · rename_i hg; exact opstep (by rw [hg]; rfl) h
      · rename_i d want hg
        split at h
        · rename_i c hv
          split at h
          · rename_i e; exact opstep (by rw [hg]; simp [guardIs, hv, e]) h
          · rename_i e; exact skip (by rw [hg]; simp [guardIs, hv, e]) h
        · rename_i hv; exact skip (by rw [hg]; simp [guardIs, hv]) h
        · exact h.elim
def LexD (P : Program) (K : S → Fp → Prop) (KP : V → List Nat → Fp → Prop) (pr : List (List Nat)) (l : List IOp) (fr : Nat) (s : S) (fp : Fp) : Prop :=
  ∃ asz : List ActR, asz.length = l.length ∧ (∀ j o x, l[j]? = some o → asz[j]? = some x → OkA P (foldA l asz s j) (fr + j) o x) ∧
    (((∀ x ∈ asz, x.ok = true) ∧ K (foldA l asz s l.length) (fp ++ fps asz)) ∨
     ∃ v wl, (∀ (j : Nat) (v' : V) (ws rd : List Nat), asz[j]? = some (ActR.pan v' ws rd) → v' = v ∧ ∀ id ∈ ws, id ∈ wl) ∧ (∃ x ∈ asz, x.ok = false) ∧
       (∀ (j : Nat), asz[j]? = some ActR.blk → ∃ i ∈ pr.getD (fp.length + j) [], ∃ j', i = fp.length + j' ∧ ∃ y, asz[j']? = some y ∧ y.ok = false) ∧ KP v wl (fp ++ fps asz) ∧ (∀ x ∈ asz, ∀ id ∈ actW x, id ∈ wl) ∧ ∀ id ∈ fp.flatMap (·.2), id ∈ wl)
theorem regD_lex {K : S → Fp → Prop} {KP : V → List Nat → Fp → Prop} {pr : List (List Nat)} : ∀ (l : List IOp) (fr : Nat) (s : S) (fp : Fp), regD P K KP pr l fr s fp → LexD P K KP pr l fr s fp
  | [], fr, s, fp, h => ⟨[], rfl, fun j o x hj => by simp at hj, .inl ⟨fun x hx => by simp at hx, by simpa [foldA, fps, regD] using h⟩⟩
  | o :: l, fr, s, fp, h => by
    have step : ∀ (x : ActR), x.ok = true → OkA P s fr o x → regD P K KP pr l (fr + 1) (apA o.dst x s) (fp ++ [(actR x, actW x)]) → LexD P K KP pr (o :: l) fr s fp := by
      intro x hxo hok hr
      obtain ⟨asz, h1, h2, h3⟩ := regD_lex l (fr + 1) _ _ hr
      refine ⟨x :: asz, by simp [h1], fun j o' y hj hy => ?_, ?_⟩
      · cases j with
        | zero => simp at hj hy; subst hj; subst hy; exact hok
        | succ j =>
          have := h2 j o' y (by simpa using hj) (by simpa using hy)
          rw [show fr + (j + 1) = fr + 1 + j by omega]
          exact this
      · rcases h3 with ⟨h3, h4⟩ | ⟨v, wl, g1, g2, g3, g4, g5, g6⟩
        · left
          refine ⟨fun y hy => ?_, by simpa [foldA, fps] using h4⟩
          rcases List.mem_cons.1 hy with rfl | hy
          · exact hxo
          · exact h3 y hy
        · right
          refine ⟨v, wl, fun j v' ws rd hj => ?_, ?_, fun j hj => ?_, by simpa [fps] using g4, fun y hy id hid => ?_, fun id hid => g6 id (by simp only [List.flatMap_append, List.mem_append]; exact .inl hid)⟩
          · cases j with
            | zero => simp at hj; rw [hj] at hxo; cases hxo
            | succ j => exact g1 j v' ws rd (by simpa using hj)
          · obtain ⟨y, y1, y2⟩ := g2; exact ⟨y, by simp [y1], y2⟩
          · cases j with
            | zero => simp at hj; rw [hj] at hxo; cases hxo
            | succ j =>
              obtain ⟨i, i1, j', i2, y, i3, i4⟩ := g3 j (by simpa using hj)
              simp only [List.length_append, List.length_cons, List.length_nil] at i1 i2
              exact ⟨i, by rw [show fp.length + (j + 1) = fp.length + (0 + 1) + j by omega]; exact i1, j' + 1, by omega, y, by simpa using i3, i4⟩
          · rcases List.mem_cons.1 hy with rfl | hy
            · exact g6 id (by simp only [List.flatMap_append, List.mem_append]; exact .inr (by simpa using hid))
            · exact g5 y hy id hid
    have pan : ∀ (v : V) (ws rd : List Nat), OkA P s fr o (.pan v ws rd) → regB P (KP v) pr l (fr + 1) ⟨putE s.env o.dst .junk, s.o, s.nx⟩ (fp ++ [(rd, [])]) [fp.length] (ws ++ fp.flatMap (·.2)) → LexD P K KP pr (o :: l) fr s fp := by
      intro v ws rd hok hr
      obtain ⟨asz, h1, h2, h3, h4, wl, h5, h6, h7⟩ := regB_lex l (fr + 1) _ _ _ _ hr
      refine ⟨ActR.pan v ws rd :: asz, by simp [h1], fun j o' y hj hy => ?_, .inr ⟨v, wl, fun j v' ws' rd' hj => ?_, ⟨ActR.pan v ws rd, by simp, rfl⟩, fun j hj => ?_, by simpa [fps, actR, actW] using h5, fun y hy id hid => ?_, fun id hid => h6 id (List.mem_append.2 (.inr hid))⟩⟩
      · cases j with
        | zero => simp at hj hy; subst hj; subst hy; exact hok
        | succ j =>
          have := h2 j o' y (by simpa using hj) (by simpa using hy)
          rw [show fr + (j + 1) = fr + 1 + j by omega]
          exact this
      · cases j with
        | zero => simp at hj; obtain ⟨rfl, rfl, rfl⟩ := hj; exact ⟨rfl, fun id hid => h6 id (List.mem_append.2 (.inl hid))⟩
        | succ j =>
          have hm := List.mem_of_getElem? (show asz[j]? = some (.pan v' ws' rd') by simpa using hj)
          rcases h4 _ hm with h | h <;> cases h
      · cases j with
        | zero => simp at hj
        | succ j =>
          obtain ⟨i, i1, i2⟩ := h3 j (by simpa using hj)
          simp only [List.length_append, List.length_cons, List.length_nil] at i1 i2
          refine ⟨i, by rw [show fp.length + (j + 1) = fp.length + (0 + 1) + j by omega]; exact i1, ?_⟩
          rcases i2 with i2 | ⟨j', j1, j2, j3⟩
          · exact ⟨0, by simpa using i2, _, rfl, rfl⟩
          · exact ⟨j' + 1, by omega, .blk, by simpa using j3, rfl⟩
      · rcases List.mem_cons.1 hy with rfl | hy
        · simp [actW] at hid
        · exact h7 y hy id hid
    have opstep : guardIs s o.gd true → opD P s fr o (fun v Δ rd => regD P K KP pr l (fr + 1) ⟨putE s.env o.dst v, put s.o Δ, s.nx⟩ (fp ++ [(rd, Δ.map (·.1))]))
        (fun v ws rd => regB P (KP v) pr l (fr + 1) ⟨putE s.env o.dst .junk, s.o, s.nx⟩ (fp ++ [(rd, [])]) [fp.length] (ws ++ fp.flatMap (·.2))) → LexD P K KP pr (o :: l) fr s fp := fun hg h => by
      rcases opD_step h with ⟨v, Δ, rd, hst, h⟩ | ⟨v, ws, rd, hst, h⟩
      · exact step (.val v Δ rd) rfl ⟨hg, hst⟩ h
      · exact pan v ws rd ⟨hg, hst⟩ h
    have skip : guardIs s o.gd false → regD P K KP pr l (fr + 1) ⟨putE s.env o.dst (.tup []), s.o, s.nx⟩ (fp ++ [([], [])]) → LexD P K KP pr (o :: l) fr s fp := fun hg h => step .skip rfl hg h
    simp only [regD] at h
    split at h
    · rename_i hg; exact opstep (by rw [hg]; rfl) h
    · rename_i d want hg
      split at h
      · rename_i c hv
        split at h
        · rename_i e; exact opstep (by rw [hg]; simp [guardIs, hv, e]) h
        · rename_i e; exact skip (by rw [hg]; simp [guardIs, hv, e]) h
      · rename_i hv; exact skip (by rw [hg]; simp [guardIs, hv]) h
      · exact h.elim
end
end Go.Proofs.Ytealblliddhgiaa
namespace Go.Proofs.Ytealblliddhgiaa
def setP (env : Nat → V) : List Nat → List V → Nat → V
  | t :: ps, v :: vs => setP (upd env t v) ps vs
  | _, _ => env
def icW (P : Program) (n b : Nat) (rd : Bool) : IC → (Xit → S → Prop) → S → Prop
  | .skip, Q, s => Q .normal s
  | .reg l, Q, s => regI P (fun v s => Q (.pan v) s) (Q .normal) l s
  | .drw l pr, Q, s => regD P (endD pr (s.nx + l.length) Q) (endP pr l s Q) pr l s.nx s []
  | .seq x y, Q, s => icW P n b rd x (thenQ (icW P n b rd y Q) Q) s
  | .cond c x y, Q, s => match s.ev c with
    | .d (.bool t) => condI t (icW P n b rd x Q s) (icW P n b rd y Q s)
    | .anyb => icW P n b rd x Q s ∧ icW P n b rd y Q s
    | _ => False
  | .block id x, Q, s => icW P n b rd x (blockQ id Q) s
  | .loop x, Q, s => loopI b (icW P n b rd x) Q s
  | .exit id, Q, s => Q (.exit id) s
  | .ret, Q, s => Q .ret s
  | .rng g ps x y, Q, s => rd = false ∧ rngW P n (s.ev g) ps x y Q s
  | .bad, _, _ => False
section
variable {P : Program} {n b : Nat} {rd : Bool}
theorem foldA_succ : ∀ (l : List IOp) (asz : List ActR) (s : S) (k : Nat) (o : IOp) (x : ActR), l[k]? = some o → asz[k]? = some x → foldA l asz s (k + 1) = apA o.dst x (foldA l asz s k)
  | [], _, _, _, _, _, h, _ => by simp at h
  | o :: l, [], _, _, _, _, _, h => by simp at h
  | o :: l, x :: xs, s, 0, o', x', h, h' => by simp at h h'; subst h; subst h'; cases l <;> cases xs <;> rfl
  | o :: l, x :: xs, s, k + 1, o', x', h, h' => by
    simp only [foldA]
    exact foldA_succ l xs _ k o' x' (by simpa using h) (by simpa using h')
theorem stF_foldA (l : List IOp) (asz : List ActR) (s : S) (hl : asz.length = l.length) : ∀ k, k ≤ l.length → stF (ocOf l) (fun i => asz.getD i default) (fun _ => true) s k = foldA l asz s k := by
  intro k
  induction k with
  | zero => intro _; cases l <;> cases asz <;> rfl
  | succ k ih =>
    intro hk
    have h1 : l[k]? = some (ocOf l k) := by simp [ocOf, List.getD_eq_getElem?_getD, List.getElem?_eq_getElem (by omega : k < l.length)]
    have h2 : asz[k]? = some (asz.getD k default) := by simp [List.getD_eq_getElem?_getD, List.getElem?_eq_getElem (by omega : k < asz.length)]
    simp only [stF, if_true, ih (by omega)]
    rw [foldA_succ l asz s k _ _ h1 h2]
theorem lowL_length {ops : Array Oper} : ∀ (l : List Oper) (l' : List IOp), lowL n ops l = some l' → l'.length = l.length
  | [], _, h => by simp [lowL] at h; subst h; rfl
  | o :: l, l', h => by
    simp only [lowL] at h
    split at h
    · rename_i hx; injection h with h; subst h; simp [lowL_length l _ hx]
    · cases h
theorem draw_code (hmix : P.follows .mixedOrders = true) {id : Nat} {ops : Array Oper} {l : List IOp} {Q Q' : Xit → S → Prop} {s : S} (hQ : ∀ e s, Q e s → Q' e s) (hlow : lowL n ops ops.toList = some l) (ht : tmpsOkB l (prOf ops) = true)
    (hp : prOk (prOf ops) = true) (h : regD P (endD (prOf ops) (s.nx + l.length) Q) (endP (prOf ops) l s Q) (prOf ops) l s.nx s []) : codeW P n b rd (.region id ops true) Q' s := by
  intro M φ0 H0 w0 cx φ a w ro k hs
  obtain ⟨asz, hl, hok, hfin⟩ := regD_lex l _ _ _ h
  have hlen : l.length = ops.size := by rw [lowL_length _ _ hlow]; simp
  have hpr : ∀ k, k < ops.size → (prOf ops).getD k [] = predsOf ops k := by
    intro k hk; simp [prOf, List.getD_eq_getElem?_getD, List.getElem?_map, List.getElem?_range hk]
  have hpl : (prOf ops).length = ops.size := by simp [prOf]
  have hst := stF_foldA l asz s hl
  have hoc : ∀ k, k < ops.size → l[k]? = some (ocOf l k) := fun k hk => by simp [ocOf, List.getD_eq_getElem?_getD, List.getElem?_eq_getElem (by omega : k < l.length)]
  have hac : ∀ k, k < ops.size → asz[k]? = some (asz.getD k default) := fun k hk => by simp [List.getD_eq_getElem?_getD, List.getElem?_eq_getElem (by omega : k < asz.length)]
  have hmem : ∀ k, k < ops.size → asz.getD k default ∈ asz := fun k hk => List.mem_of_getElem? (hac k hk)
  have hfp : ∀ k, k < ops.size → (fps asz)[k]? = some (actR (asz.getD k default), actW (asz.getD k default)) := fun k hk => by
    simp only [fps, List.getElem?_map, hac k hk, Option.map_some]
  have hfpl : (fps asz).length = ops.size := by simp [fps, hl, hlen]
  simp only [List.nil_append, List.length_nil, Nat.zero_add] at hfin
  have hobj : objsOk (prOf ops) (fps asz) = true := by
    rcases hfin with ⟨_, h⟩ | ⟨v, wl, _, _, _, h, _⟩
    · exact h.1
    · exact h.1
  have hprl : ∀ k, k < ops.size → ∀ j ∈ predsOf ops k, j < k := fun k hk j hj => by
    have := List.all_eq_true.1 hp k (by simpa [hpl] using hk)
    rw [hpr k hk] at this
    simpa using List.all_eq_true.1 this j hj
  have hpr0 : ∀ k, k < (prOf ops).length → ∀ j ∈ (prOf ops).getD k [], j < k := fun k hk j hj => by
    rw [hpl] at hk; rw [hpr k hk] at hj; exact hprl k hk j hj
  let po : Nat → Nat → Prop := fun k j => ((masks (prOf ops) []).getD k 0).testBit j = true
  have hpo : ∀ E : Nat → Bool, (∀ k, k < ops.size → E k = true → ∀ j ∈ predsOf ops k, E j = true) → ∀ k, k < ops.size → (∀ j ∈ predsOf ops k, E j = true) → ∀ j, po k j → E j = true := fun E hE k hk hj j hb =>
    masks_closed hpr0 (fun k hk hek j hj => by rw [hpl] at hk; rw [hpr k hk] at hj; exact hE k hk hek j hj) k (by rw [hpl]; exact hk) (by rw [hpr k hk]; exact hj) j hb
  have hpo2 : ∀ k, k < ops.size → ∀ j, po k j → j < k := fun k hk j hb => masks_lt hpr0 k (by rw [hpl]; exact hk) j hb
  have compat : ∀ i j, i < j → j < ops.size → ¬ po j i → Compat (ocOf l) (fun i => asz.getD i default) (fun i => actR (asz.getD i default)) i j := by
    intro i j hij hj hn
    have ht' := List.all_eq_true.1 (List.all_eq_true.1 ht j (by simpa [hlen] using hj)) i (by simpa using hij)
    have ho' := List.all_eq_true.1 (List.all_eq_true.1 hobj j (by simpa [hfpl] using hj)) i (by simpa using hij)
    have hnc : ((masks (prOf ops) []).getD j 0).testBit i = false := by simpa [po] using hn
    rw [hnc, Bool.false_or] at ht' ho'
    simp only [Bool.and_eq_true] at ht' ho'
    have gi := hfp i (by omega)
    have gj := hfp j hj
    simp only [List.getD_eq_getElem?_getD (l := fps asz), gi, gj, Option.getD_some] at ho'
    have dj : ∀ {xs ys : List Nat}, disj xs ys = true → ∀ x ∈ xs, x ∉ ys := fun h x hx => by simpa using List.all_eq_true.1 h x hx
    have fo : ∀ {x y : IOp}, freeOf x y = true → ∀ d, x.dst = some d → d ∉ touches y := fun h d hd => by simpa [freeOf, hd] using h
    exact ⟨fo ht'.1, fo ht'.2, fun id hid => ⟨dj ho'.1.1 id hid, dj ho'.1.2 id hid⟩, fun id hid => dj ho'.2 id hid⟩
  have hlexA : ∀ i, i < ops.size → OkA P (stF (ocOf l) (fun i => asz.getD i default) (fun _ => true) s i) (s.nx + i) (ocOf l i) (asz.getD i default) := fun i hi => by
    rw [hst i (by omega)]; exact hok i _ _ (hoc i hi) (hac i hi)
  have hdst : ∀ i, i < ops.size → ∀ t, (ocOf l i).dst = some t → (dstsOf l).contains t = true := fun i hi t ht => by
    simp only [List.contains_iff_mem, dstsOf, List.mem_filterMap]
    exact ⟨ocOf l i, List.mem_of_getElem? (hoc i hi), ht⟩
  rcases hfin with ⟨hall, hfin⟩ | ⟨v, wl, q1, q2, q3, q4, q5, q6⟩
  · refine draw_any (ac := fun i => asz.getD i default) (dl := dstsOf l) (wl := (asz.flatMap actW)) hmix hlow hprl hs hlexA (fun i hi hb => ?_) hpo hpo2 compat hdst (fun i hi id hid => ?_) (fun i v ws rd' hi hb => ?_) (fun _ φ a w hs' => ?_) (fun i v ws rd' hi hb => ?_)
    · have := hall _ (hmem i hi); rw [hb] at this; cases this
    · simp only [List.contains_iff_mem, List.mem_flatMap]; exact ⟨_, hmem i hi, hid⟩
    · have := hall _ (hmem i hi); rw [hb] at this; cases this
    · rw [hst ops.size (by omega), ← hlen] at hs'
      exact ⟨.normal, _, φ, hQ _ _ hfin.2, hs', trivial⟩
    · have := hall _ (hmem i hi); rw [hb] at this; cases this
  · refine draw_any (ac := fun i => asz.getD i default) (dl := dstsOf l) (wl := wl) hmix hlow hprl hs hlexA (fun i hi hb => ?_) hpo hpo2 compat hdst (fun i hi id hid => ?_) (fun i v' ws rd' hi hb => ?_) (fun hall φ a w hs' => ?_) (fun i v' ws rd' hi hb φ a w val hs' hd => ?_)
    · obtain ⟨j, j1, j', e, y, j3, j4⟩ := q3 i (by rw [hac i hi]; exact congrArg some hb)
      rw [hpr i hi, e] at j1
      refine ⟨j', j1, ?_⟩
      simp only [List.getD_eq_getElem?_getD, j3, Option.getD_some, j4]
    · simp only [List.contains_iff_mem]; exact q5 _ (hmem i hi) id hid
    · intro id hid
      simp only [List.contains_iff_mem]
      exact (q1 i v' ws rd' (by rw [hac i hi]; exact congrArg some hb)).2 id hid
    · obtain ⟨x, x1, x2⟩ := q2
      obtain ⟨i, hi1, hi2⟩ := List.getElem_of_mem x1
      have hi : i < ops.size := by omega
      have := hall i hi
      have e : asz.getD i default = x := by simp [List.getD_eq_getElem?_getD, List.getElem?_eq_getElem hi1, hi2]
      rw [e, x2] at this; cases this
    · have e := (q1 i v' ws rd' (by rw [hac i hi]; exact congrArg some hb)).1
      subst e
      rw [← hlen] at hs' hd
      exact ⟨.pan v', _, φ, hQ _ _ q4.2, hs', val, rfl, hd⟩
theorem rngW_mono {g : V} {ps : List Nat} {x y : IC} {Q Q' : Xit → S → Prop} {s : S} (hQ : ∀ e s, Q e s → Q' e s) (h : rngW P n g ps x y Q s) : rngW P n g ps x y Q' s := by
  obtain ⟨env, h1, h2⟩ := h
  refine ⟨env, h1, ?_⟩
  split at h2
  · refine heapW.mono (fun v o n h => ?_) (fun v o n h => hQ _ _ h) h2
    obtain ⟨nf, m, e, p, c, d, st, pd, k1, k2, k3⟩ := h
    refine ⟨nf, m, e, p, c, d, st, pd, k1, k2, ?_⟩
    cases pd with
    | none => exact hQ _ _ k3
    | some j => cases j <;> exact hQ _ _ k3
  · exact h2
theorem icW_codeW (hmix : P.follows .mixedOrders = true) : ∀ (c : Code) (Q Q' : Xit → S → Prop) (s : S), (∀ e s, Q e s → Q' e s) → icW P n b rd (low n c) Q s → codeW P n b rd c Q' s := by
  intro c
  induction c with
  | skip => exact fun Q Q' s hQ h => hQ _ _ h
  | scope x ih => exact fun Q Q' s hQ h => ih Q Q' s hQ h
  | label l => exact fun Q Q' s hQ h => hQ _ _ h
  | exit id => exact fun Q Q' s hQ h => hQ _ _ h
  | ret => exact fun Q Q' s hQ h => hQ _ _ h
  | goto l => exact fun Q Q' s hQ h => h.elim
  | refuse y => exact fun Q Q' s hQ h => h.elim
  | rangeFunc f p x y => exact fun Q Q' s hQ h => ⟨h.1, rngW_mono hQ h.2⟩
  | region id ops draw =>
    intro Q Q' s hQ h
    cases draw with
    | true =>
      simp only [low] at h
      split at h
      · rename_i l hl
        split at h
        · rename_i hc
          simp only [Bool.and_eq_true] at hc
          exact draw_code hmix hQ hl hc.1 hc.2 h
        · exact h.elim
      · exact h.elim
    | false =>
      simp only [low] at h
      split at h
      · rename_i l hl; exact regI_regW (fun s hs => hQ _ _ hs) (fun v s hs => hQ _ _ hs) _ l s hl h
      · exact h.elim
  | seq x y ihx ihy =>
    intro Q Q' s hQ h
    refine ihx _ _ s (fun e s he => ?_) h
    cases e <;> first | exact ihy Q Q' s hQ he | exact hQ _ _ he
  | cond c x y ihx ihy =>
    intro Q Q' s hQ h
    simp only [low, icW] at h
    simp only [codeW]
    split at h
    · rename_i t hc
      simp only [hc]
      exact ⟨fun ht => ihx Q Q' s hQ (h.1 ht), fun ht => ihy Q Q' s hQ (h.2 ht)⟩
    · rename_i hc
      simp only [hc]
      exact ⟨ihx Q Q' s hQ h.1, ihy Q Q' s hQ h.2⟩
    · exact h.elim
  | block id x ih =>
    intro Q Q' s hQ h
    refine ih _ _ s (fun e s he => ?_) h
    cases e <;> simp only [blockQ] at he ⊢ <;> first
      | exact hQ _ _ he
      | (split at he <;> rename_i e
         · rw [if_pos e]; exact hQ _ _ he
         · rw [if_neg e]; exact hQ _ _ he)
  | loop x ih =>
    intro Q Q' s hQ h
    obtain ⟨J, h0, hr⟩ := h
    refine ⟨J, h0, fun m s0 hJ => ih _ _ s0 (fun e s he => ?_) (hr m s0 hJ)⟩
    cases e <;> first | exact hQ _ _ he | exact he
structure FnIs (P : Program) (f : FuncId) (n : Nat) (ic : IC) (rs : List ResultVar) : Prop where
  get : ∃ fn, P.funcs[f]? = some fn ∧ (fn.name == "runtime.NumGoroutine") = false ∧ fn.ntmps = n ∧ fn.results.toList = rs ∧ ∃ c, fn.body = some c ∧ low n c = ic
theorem CtK.of_ic (hmix : P.follows .mixedOrders = true) {f : FuncId} {ic : IC} {rs : List ResultVar} (hf : FnIs P f n ic rs) {args : List V} {o : Nat → Obj'} {nx : Nat} {K X : V → (Nat → Obj') → Nat → Prop} (hl : args.length ≤ n) (h : icW P n nx false ic (endK P rs K X) ⟨argsEnv args, o, nx⟩) : CtK P f args o nx K X := by
  obtain ⟨fn, h1, h2, rfl, rfl, c, h3, rfl⟩ := hf.get
  exact CtK.of_code h1 h2 h3 hl (icW_codeW hmix c _ _ _ (fun _ _ h => h) h)
theorem PCt.of_ic (hmix : P.follows .mixedOrders = true) {f : FuncId} {ic : IC} {rs : List ResultVar} (hf : FnIs P f n ic rs) {ds : List D} {out : R} (hl : ds.length ≤ n) (h : icW P n 0 false ic (endW P rs out) ⟨argsEnv (ds.map .d), fun _ => .no, 0⟩) : PCt P f ds out := by
  obtain ⟨fn, h1, h2, rfl, rfl, c, h3, rfl⟩ := hf.get
  exact PCt.of_ctk (CtK.of_code h1 h2 h3 (by simpa using hl) (icW_codeW hmix c _ _ _ (fun e s h => endW_endK e s h) h))
end
end Go.Proofs.Ytealblliddhgiaa
namespace Go.Proofs.Ytealblliddhgiaa
def roundQ (id : Nat) (K X : V → (Nat → Obj') → Nat → Prop) (e : Xit) (s : S) : Prop :=
  match e with
  | .normal => ∃ nf m en p c d st pd, s.o id = .loop nf m en p c d st pd ∧ K (.d (.bool true)) (upd s.o id (.loop nf m en p c d .ready none)) s.nx
  | .ret => ∃ nf m en p c d st pd, s.o id = .loop nf m en p c d st pd ∧ K (.d (.bool false)) (upd s.o id (.loop nf m en p c d .done (some .ret))) s.nx
  | .exit j => ∃ nf m en p c d st pd, s.o id = .loop nf m en p c d st pd ∧ K (.d (.bool false)) (upd s.o id (.loop nf m en p c d .done (some (.exit j)))) s.nx
  | .pan v => X v s.o s.nx
def beginQ (P : Program) (n b id : Nat) (icb : IC) (K X : V → (Nat → Obj') → Nat → Prop) (e : Xit) (s : S) : Prop :=
  match e with
  | .normal => ∃ nf m en p c d pd, s.o id = .loop nf m en p c d .ready pd ∧ icW P n b true icb (roundQ id K X) ⟨s.env, upd s.o id (.loop nf m en p c d .busy pd), s.nx⟩
  | .pan v => X v s.o s.nx
  | _ => False
section
variable {P : Program} {M : Nat → Prop} {φ φ0 : Place} {H0 : Hp} {w w0 : World} {n : Nat} {s : S} {a : Act} {cx : Cx}
theorem put_loop_us {id : Nat} {x : Obj'} {s : S} (hlt : id < s.nx) (j : Nat) (hu : (s.H.put [(id, x)]).us j) : j < s.nx := by
  simp only [put_one_us] at hu
  rcases hu with hu | hu
  · exact hu
  · subst hu; exact hlt
theorem params_den {B : Nat → Prop} {H : Hp} {n : Nat} : ∀ (ps : List Nat) (vs : List V) (us : List Value) (env : Nat → V) (tmps : Array Value), tmps.size = n → ps.length = vs.length → V.dens B φ H w vs us → ps.all (fun t => decide (t < n)) = true → (∀ i, V.den B φ H w (env i) (tmps.getD i undef)) →
    ((ps.zip us).foldl (fun tmps p => tmps.setIfInBounds p.1 p.2) tmps).size = n ∧ ∀ i, V.den B φ H w (setP env ps vs i) (((ps.zip us).foldl (fun tmps p => tmps.setIfInBounds p.1 p.2) tmps).getD i undef)
  | [], [], us, env, tmps, hsz, _, hd, _, he => by simp only [V.dens] at hd; subst hd; exact ⟨hsz, he⟩
  | [], v :: vs, us, env, tmps, _, h, _, _, _ => by simp at h
  | t :: ps, [], us, env, tmps, _, h, _, _, _ => by simp at h
  | t :: ps, v :: vs, us, env, tmps, hsz, hl, hd, hp, he => by
    obtain ⟨u, us, rfl, h1, h2⟩ := hd
    simp only [List.all_cons, Bool.and_eq_true, decide_eq_true_eq] at hp
    simp only [List.zip_cons_cons, List.foldl_cons, setP]
    refine params_den ps vs us (upd env t v) (tmps.setIfInBounds t u) (by simp [hsz]) (by simpa using hl) h2 hp.2 (fun i => ?_)
    simp only [upd_apply]
    by_cases hi : i = t
    · subst hi
      have : (tmps.setIfInBounds i u).getD i undef = u := by simp [Array.getD, hsz, hp.1]
      rw [if_pos rfl, this]; exact h1
    · have : (tmps.setIfInBounds t u).getD i undef = tmps.getD i undef := by
        simp only [Array.getD_eq_getD_getElem?]
        rw [Array.getElem?_setIfInBounds_ne (Ne.symm hi)]
      rw [if_neg hi, this]; exact he i
theorem RoundK.of_ic (hmix : P.follows .mixedOrders = true) {id : Nat} {args : List V} {o : Nat → Obj'} {nx : Nat} {K X : V → (Nat → Obj') → Nat → Prop} {env : List V} {ps : List Nat} {ica icb : IC} {st : LoopState} {pd : Option Jmp}
    (ho : o id = .loop P.funcs.size n env ps ica icb st pd) (hlt : id < nx) (hps : ps.all (fun t => decide (t < n)) = true) (hl : args.length = ps.length)
    (h : icW P n nx true ica (beginQ P n nx id icb K X) ⟨setP (envJ env) ps args, o, nx⟩) : RoundK P id args o nx K X := by
  refine ⟨by rw [ho]; rfl, fun M φ w vals b hH hd hφ => ?_⟩
  have hok := hH.ok id
  simp only [ObjOk, hp, ho] at hok
  obtain ⟨b', r, h1, h2, h0, h3, h4, h5, h6, h7, h8, h9⟩ := hok
  rw [hφ] at h1; simp at h1; subst h1
  have hlen := V.dens_length _ _ hd
  have hsz : vals.size = r.params.size := by
    have : r.params.toList.length = ps.length := by rw [h5]
    simp at hlen this; omega
  let tm : Array Value := (ps.zip vals.toList).foldl (fun tmps p => tmps.setIfInBounds p.1 p.2) r.tmps
  have hfold : (r.params.zip vals).foldl (fun tmps (p : Tmp × Value) => tmps.setIfInBounds p.1 p.2) r.tmps = tm := by
    rw [← Array.foldl_toList, Array.toList_zip, h5]
  obtain ⟨p1, p2⟩ := params_den (B := mutB M φ (hp o nx)) (H := hp o nx) (φ := φ) (w := w) ps args vals.toList (envJ env) r.tmps h6 hl.symm hd hps h9
  refine ⟨r.fn, tm, r.assign, r.body, ?_, fun k => ?_⟩
  · simp only [Instr.yield, Sem.run_bind, run_getLoop h2, Result.andThen_ok, hsz, ne_eq, not_true_eq_false, if_false, Sem.run_pure]
    rw [← hfold]
  · 
    let s0 : S := ⟨setP (envJ env) ps args, o, nx⟩
    let a0 : Act := { tmps := tm, defers := [] }
    have hs0 : SimC M φ (hp o nx) w n ⟨[], true⟩ φ s0 a0 w := ⟨hH, Trans.refl _ _ _, p1, ⟨[], rfl, List.nodup_nil, fun _ => rfl, fun r hr => by cases hr⟩, p2⟩
    have nodef : ∀ {φ' s' a' w'}, SimC M φ (hp o nx) w n ⟨[], true⟩ φ' s' a' w' → a'.defers = [] := by
      intro φ' s' a' w' hs
      obtain ⟨ms, g1, _, g3, _⟩ := hs.defers
      rw [g3 rfl] at g1; exact g1
    
    have recd : ∀ {φ' s' a' w'} {nf m : Nat} {en : List V} {p : List Nat} {c d : IC} {st : LoopState} {pd : Option Jmp} (st' : LoopState) (pd' : Option Jmp), SimC M φ (hp o nx) w n ⟨[], true⟩ φ' s' a' w' → s'.o id = .loop nf m en p c d st pd →
        ∃ r', w'.heap[b]? = some (.loop r') ∧ r'.state = st ∧ r'.pending = pd.map Jmp.code ∧
          SimC M φ (hp o nx) w n ⟨[], true⟩ φ' ⟨s'.env, upd s'.o id (.loop nf m en p c d st' pd'), s'.nx⟩ a' { w' with heap := w'.heap.setIfInBounds b (.loop { r' with state := st', pending := pd'.map Jmp.code }) } := by
      intro φ' s' a' w' nf m en p c d st pd st' pd' hs hso
      have hφ' : φ' id = .pointer (some ⟨b, 0, none⟩) := by
        have := (hs.tr.rel.row id hlt (by show (s'.o id).isRow = true; rw [hso]; rfl)).2
        rw [this]; exact hφ
      have hlt' : id < s'.nx := hs.tr.rel.us id hlt
      obtain ⟨r', r1, r2, r3, r4, r5⟩ := turn_loop (st' := st') (pd' := pd') hs.heap hlt' (show s'.H.o id = _ from hso) hφ'
      exact ⟨r', r1, r2, r3, sim_heap hs r4 r5 rfl (put_loop_us hlt')⟩
    have ha := icW_codeW (P := P) (n := n) (b := nx) (rd := true) hmix r.assign _ _ s0 (fun _ _ h => h) (by rw [h7]; exact h)
    refine roundIn_of_wpV h0 (wpV_mono (code_sound (P := P) (H0 := hp o nx) (b := nx) (cx := ⟨[], true⟩) (ro := some b) (fun id hu => hu) (fun h => by cases h) r.assign _ s0 φ a0 w ha hs0) ?_)
    rintro e a1 w1 ⟨x, s1, φ1, hq, hs1, hm⟩
    cases e <;> cases x <;> first | (exact hm.elim) | skip
    · 
      obtain ⟨nf, m, en, p, c, d, pd1, q1, q2⟩ := hq
      obtain ⟨r', r1, r2, r3, hs2⟩ := recd .busy pd1 hs1 q1
      have hbegin : (Instr.beginRound b).run P w1 = .ok () { w1 with heap := w1.heap.setIfInBounds b (.loop { r' with state := .busy, pending := pd1.map Jmp.code }) } := by
        have e1 : ({ r' with state := .busy } : Loop) = { r' with state := .busy, pending := pd1.map Jmp.code } := by rw [← r3]
        simp only [Instr.beginRound, Sem.run_bind, run_getLoop r1, Result.andThen_ok, run_setObj_loop _ r1, r2, Sem.run_pure, e1]
      refine ⟨_, hbegin, ?_⟩
      
      have hrec := hs2.heap.ok id
      simp only [ObjOk, S.H, upd_apply, if_true] at hrec
      obtain ⟨b2, r2', _, _, _, _, _, _, _, _, _, _⟩ := hrec
      have hb := icW_codeW (P := P) (n := n) (b := nx) (rd := true) hmix r.body _ _ _ (fun _ _ h => h) (by rw [h8]; exact q2)
      refine wpV_mono (code_sound (P := P) (H0 := hp o nx) (b := nx) (cx := ⟨[], true⟩) (ro := some b) (fun id hu => hu) (fun h => by cases h) r.body _ _ φ1 a1 _ hb hs2) ?_
      rintro e a2 w2 ⟨x, s2, φ2, hq2, hs3, hm2⟩
      have fin : ∀ {nf m : Nat} {en : List V} {p : List Nat} {c d : IC} {st : LoopState} {pd : Option Jmp} (jump : Option Jmp) (t : Bool) (st' : LoopState), t = jump.isNone → st' = (if jump.isNone then .ready else .done) → s2.o id = .loop nf m en p c d st pd → K (.d (.bool t)) (upd s2.o id (.loop nf m en p c d st' jump)) s2.nx →
          ∃ v w', (Instr.endRound b (jump.map Jmp.code)).run P w2 = .ok v w' ∧ EndK M φ (hp o nx) w K X (.returned v) w' := by
        intro nf m en p c d st pd jump t st' ht hst ho2 hK
        obtain ⟨r3', g1, g2, g3, hs4⟩ := recd st' jump hs3 ho2
        refine ⟨.bool t, _, ?_, φ2, _, _, _, hs4.heap, hs4.tr, by simp only [V.den, D.den], hK⟩
        subst ht; subst hst
        simp only [Instr.endRound, Sem.run_bind, run_getLoop g1, Result.andThen_ok, run_setObj_loop _ g1, Sem.run_pure, Option.isNone_map]
      cases e <;> cases x <;> first | (exact hm2.elim) | skip
      · obtain ⟨nf, m, en, p, c, d, st, pd, k1, k2⟩ := hq2
        exact fin none true .ready rfl rfl k1 k2
      · rename_i j
        subst hm2
        obtain ⟨nf, m, en, p, c, d, st, pd, k1, k2⟩ := hq2
        exact fin (some (.exit _)) false .done rfl rfl k1 k2
      · obtain ⟨nf, m, en, p, c, d, st, pd, k1, k2⟩ := hq2
        exact fin (some .ret) false .done rfl rfl k1 k2
      · obtain ⟨val, rfl, k2⟩ := hm2
        exact ⟨nodef hs3, φ2, _, _, _, hs3.heap, hs3.tr, val, rfl, k2, hq2⟩
    · exact hq.elim
    · exact hq.elim
    · obtain ⟨val, rfl, k2⟩ := hm
      exact ⟨nodef hs1, φ1, _, _, _, hs1.heap, hs1.tr, val, rfl, k2, hq⟩
end
end Go.Proofs.Ytealblliddhgiaa
