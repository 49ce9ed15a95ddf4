/-
  REGIONS, CODE, FUNCTIONS, at data level: 'regW', 'codeW', contracts 'PCt' (data in, data out) and 'Ct' (with a heap). Conditions: none (definitions, small lemmas).
-/
import Derived.Test.YtaafchgfibbmhaaCoreJ
namespace Go.Proofs.Ytaafchgfibbmhaa

/-- What a call of a function of data answers: results, or a panic. -/
inductive R where
  | ret (ds : List D) | pan (d : D)

def R.is (B : Nat → Prop) (w : World) : R → Ending → Prop
  | .ret [x], .returned v => D.den B w x v
  | .ret ds, .returned v => ∃ a, v = .tuple a ∧ D.dens B w ds a.toList
  | .pan d, .panicked chain => ∃ v, chain = [{ v := v, recovered := false }] ∧ D.den B w d v
  | _, _ => False
/-- It has a body, and is no function that the model treats apart. -/
def Enters (P : Program) (f : FuncId) : Prop := ∃ fn, P.funcs[f]? = some fn ∧ (fn.name == "runtime.NumGoroutine") = false ∧ fn.body.isNone = false

/-- A FUNCTION'S CONTRACT, FROM DATA TO DATA: wherever the arguments mean these data (in memory that nobody else writes), the call ends so, and leaves all memory that was there as it was. -/
def PCt (P : Program) (f : FuncId) (ds : List D) (out : R) : Prop :=
  Enters P f ∧ ∀ (M : Nat → Prop) (w : World) (vals : Array Value), (∀ b, M b → b < w.heap.size) → D.dens M w ds vals.toList →
    Calls P f vals w fun e w' => Keep (fun _ => False) w w' ∧ out.is M w' e

def hp (o : Nat → Obj') (nx : Nat) : Hp := ⟨o, fun id => id < nx⟩
/-- How a call with a heap ends: what it answers and the heap behind it are such. -/
def EndK (M : Nat → Prop) (φ : Place) (H : Hp) (w : World) (K X : V → (Nat → Obj') → Nat → Prop) (e : Ending) (w' : World) : Prop :=
  ∃ φ' o' nx' v, HeapOk M φ' (hp o' nx') w' ∧ Trans φ H w φ' (hp o' nx') w' ∧ match e with
    | .returned val => V.den (mutB M φ' (hp o' nx')) φ' (hp o' nx') w' v val ∧ K v o' nx'
    | .panicked ch => ∃ val, ch = [{ v := val, recovered := false }] ∧ V.den (mutB M φ' (hp o' nx')) φ' (hp o' nx') w' v val ∧ X v o' nx'
    | .outgrown => False
/-- A call with a heap. -/
def CtK (P : Program) (f : FuncId) (args : List V) (o : Nat → Obj') (nx : Nat) (K X : V → (Nat → Obj') → Nat → Prop) : Prop :=
  Enters P f ∧ ∀ (M : Nat → Prop) (φ : Place) (w : World) (vals : Array Value), HeapOk M φ (hp o nx) w → V.dens (mutB M φ (hp o nx)) φ (hp o nx) w args vals.toList →
    Calls P f vals w (EndK M φ (hp o nx) w K X)
/-- A call of a yield function: a round. -/
def RoundK (P : Program) (id : Nat) (args : List V) (o : Nat → Obj') (nx : Nat) (K X : V → (Nat → Obj') → Nat → Prop) : Prop :=
  (o id).isRow = true ∧ ∀ (M : Nat → Prop) (φ : Place) (w : World) (vals : Array Value) (b : Nat), HeapOk M φ (hp o nx) w → V.dens (mutB M φ (hp o nx)) φ (hp o nx) w args vals.toList → φ id = .pointer (some ⟨b, 0, none⟩) →
    ∃ f tmps assign body, (Instr.yield b vals).run P w = .ok (.round b f tmps assign body) w ∧ ∀ n, RoundIn Fence.wide n P b f tmps assign body w (EndK M φ (hp o nx) w K X)
theorem EndK.mono {M : Nat → Prop} {φ : Place} {H : Hp} {w : World} {K X K' X' : V → (Nat → Obj') → Nat → Prop} (hK : ∀ v o n, K v o n → K' v o n) (hX : ∀ v o n, X v o n → X' v o n) {e : Ending} {w' : World} (h : EndK M φ H w K X e w') : EndK M φ H w K' X' e w' := by
  obtain ⟨φ', o', nx', v, h1, h2, h3⟩ := h
  refine ⟨φ', o', nx', v, h1, h2, ?_⟩
  cases e with
  | returned val => exact ⟨h3.1, hK _ _ _ h3.2⟩
  | panicked ch => obtain ⟨val, a, b, c⟩ := h3; exact ⟨val, a, b, hX _ _ _ c⟩
  | outgrown => exact h3
theorem CtK.mono {P : Program} {f : FuncId} {args : List V} {o : Nat → Obj'} {nx : Nat} {K X K' X' : V → (Nat → Obj') → Nat → Prop} (hK : ∀ v o n, K v o n → K' v o n) (hX : ∀ v o n, X v o n → X' v o n) (h : CtK P f args o nx K X) : CtK P f args o nx K' X' :=
  ⟨h.1, fun M φ w vals h1 h2 => (h.2 M φ w vals h1 h2).mono fun _ _ h => h.mono hK hX⟩
theorem RoundK.mono {P : Program} {id : Nat} {args : List V} {o : Nat → Obj'} {nx : Nat} {K X K' X' : V → (Nat → Obj') → Nat → Prop} (hK : ∀ v o n, K v o n → K' v o n) (hX : ∀ v o n, X v o n → X' v o n) (h : RoundK P id args o nx K X) : RoundK P id args o nx K' X' :=
  ⟨h.1, fun M φ w vals b h1 h2 h3 => let ⟨f, t, a, c, h4, h5⟩ := h.2 M φ w vals b h1 h2 h3; ⟨f, t, a, c, h4, fun n => (h5 n).mono fun _ _ h => h.mono hK hX⟩⟩

mutual
/-- Data without slices: they mean the same in every memory. -/
def D.flat : D → Bool
  | .sl _ => false
  | .agg cs => D.flats cs
  | .iface _ x => x.flat
  | _ => true
def D.flats : List D → Bool
  | [] => true
  | x :: xs => x.flat && D.flats xs
end
mutual
theorem D.flat_den {B B' : Nat → Prop} {w w' : World} : ∀ (x : D) (v : Value), x.flat = true → D.den B w x v → D.den B' w' x v
  | .int _ _, _, _, h | .bool _, _, _, h | .str _, _, _, h | .nili, _, _, h | .nilp, _, _, h | .nilf, _, _, h | .nilm, _, _, h => h
  | .agg cs, _, hf, h => by obtain ⟨a, rfl, h, h2⟩ := h; exact ⟨a, rfl, D.flats_dens cs _ hf h, h2⟩
  | .sl es, _, hf, h => by simp [D.flat] at hf
  | .iface t x, _, hf, h => by obtain ⟨u, rfl, h⟩ := h; exact ⟨u, rfl, D.flat_den x u hf h⟩
theorem D.flats_dens {B B' : Nat → Prop} {w w' : World} : ∀ (xs : List D) (vs : List Value), D.flats xs = true → D.dens B w xs vs → D.dens B' w' xs vs
  | [], _, _, h => h
  | x :: xs, _, hf, h => by
    obtain ⟨u, us, rfl, h1, h2⟩ := h
    simp only [D.flats, Bool.and_eq_true] at hf
    exact ⟨u, us, rfl, D.flat_den x u hf.1 h1, D.flats_dens xs us hf.2 h2⟩
end
def R.flat : R → Bool
  | .ret ds => D.flats ds
  | .pan d => d.flat
def retV : List D → V
  | [x] => .d x
  | ds => .tup (ds.map .d)

/-! Code -/
inductive Xit where
  | normal | exit (id : Nat) | ret | pan (v : V)

def putE (env : Nat → V) (dst : Option Tmp) (v : V) : Nat → V :=
  match dst with
  | some d => upd env d v
  | none => env
def lendV (o : Nat → Obj') (v : V) : V := match toD o v with | some x => .d x | none => v
def lendIds (o : Nat → Obj') : List V → List Nat
  | [] => []
  | v :: vs => (match toD o v with | some _ => v.ids | none => []) ++ lendIds o vs

/-- A call with a heap: its data as they are, or handed over for good. -/
def heapW (P : Program) (g : FuncId) (args : List V) (o : Nat → Obj') (nx : Nat) (K X : V → (Nat → Obj') → Nat → Prop) : Prop :=
  CtK P g args o nx K X ∨ CtK P g (args.map (lendV o)) (put o (frz o (lendIds o args))) nx K X
/-- A call: of a function of data (its arrays handed over for good; or lent, where the answer holds no slice), or of one with a heap. -/
def callW (P : Program) (s : S) (f : V) (args : List V) (K : V → (Nat → Obj') → Nat → Prop) (X : V → (Nat → Obj') → Nat → Prop) : Prop :=
  match f with
  | .func (.func g) first cap =>
    (∃ ds out, toDs s.o (first ++ args ++ cap) = some ds ∧ PCt P g ds out ∧ (match out with
      | .ret rs => K (retV rs) (put s.o (frz s.o (V.idss (first ++ args ++ cap)))) (s.nx + 1)
      | .pan x => X (.d x) (put s.o (frz s.o (V.idss (first ++ args ++ cap)))) (s.nx + 1))) ∨
    (∃ ds out, toDs s.o (first ++ args ++ cap) = some ds ∧ PCt P g ds out ∧ out.flat = true ∧ (match out with
      | .ret rs => K (retV rs) s.o (s.nx + 1)
      | .pan x => X (.d x) s.o (s.nx + 1))) ∨
    heapW P g (first ++ args ++ cap) s.o s.nx K X
  | .yld id => RoundK P id args s.o s.nx K X
  | _ => False

def dstOk (n : Nat) : Option Tmp → Prop
  | some d => d < n
  | none => True
def opW (P : Program) (n : Nat) (s : S) (o : Oper) (X : V → S → Prop) (K : S → Prop) : Prop :=
  dstOk n o.dst ∧ match o.op with
  | .call c => match c.callee with
    | .value f => callW P s (s.ev f) (c.args.toList.map s.ev) (fun v o' nx' => K ⟨putE s.env o.dst v, o', nx'⟩) (fun v o' nx' => X v ⟨s.env, o', nx'⟩)
    | _ => sop P s s.nx o.op fun v Δ _ => K ⟨putE s.env o.dst v, put s.o Δ, s.nx + 1⟩
  | .panic x => match s.ev x with
    | .d (.iface t y) => X (.d (.iface t y)) s
    | .iface t y => X (.iface t y) s
    | _ => False
  | op => sop P s s.nx op fun v Δ _ => K ⟨putE s.env o.dst v, put s.o Δ, s.nx + 1⟩
/-- An operation may stand under a condition: another one's bool. -/
def guardW (s : S) (ops : Array Oper) (g : Option (Nat × Bool)) (A B : Prop) : Prop :=
  match g with
  | none => A
  | some (j, want) => match dstAt ops j with
    | some d => match s.env d with
      | .d (.bool b) => (b = want → A) ∧ (b ≠ want → B)
      | .tup [] => B
      | _ => False
    | none => B
def regW (P : Program) (n : Nat) (ops : Array Oper) (X : V → S → Prop) (K : S → Prop) : List Oper → S → Prop
  | [], s => K s
  | o :: l, s => guardW s ops o.guard (opW P n s o X (regW P n ops X K l)) (dstOk n o.dst ∧ regW P n ops X K l ⟨putE s.env o.dst (.tup []), s.o, s.nx + 1⟩)

/-- A state that says less: of the same memory. 'b': the numbers of the heap that the function was given. -/
def SLe (b : Nat) (s s' : S) : Prop :=
  ∀ (M : Nat → Prop) (φ : Place) (w : World) (tm : Nat → Value), HeapOk M φ s.H w → (∀ i, V.den (mutB M φ s.H) φ s.H w (s.env i) (tm i)) →
    ∃ φ', HeapOk M φ' s'.H w ∧ (∀ i, V.den (mutB M φ' s'.H) φ' s'.H w (s'.env i) (tm i)) ∧ (∀ k, liveB φ' s'.H k → liveB φ s.H k) ∧ b ≤ s'.nx ∧
      (∀ id, id < b → (s'.o id).isRow = true → (s.o id).isRow = true ∧ φ' id = φ id) ∧
      (∀ id e', id < b → (s'.o id).epoch = some e' → ∃ e, (s.o id).epoch = some e ∧ e ≤ e' ∧ (e = e' → φ' id = φ id))

def thenQ (K : S → Prop) (Q : Xit → S → Prop) (e : Xit) (s : S) : Prop := match e with | .normal => K s | e => Q e s
def blockQ (id : Nat) (Q : Xit → S → Prop) (e : Xit) (s : S) : Prop := match e with | .exit j => if j = id then Q .normal s else Q (.exit j) s | e => Q e s
/-- A function's results. -/
def resV (P : Program) (s : S) : List ResultVar → Option (List V)
  | [] => some []
  | .tmp t :: rs => (resV P s rs).map (s.env t :: ·)
  | .cell a t :: rs => match s.env a with
    | .ptr id off => match s.o id with
      | .row cs => (rowGet P t cs off).bind fun v => (resV P s rs).map (v :: ·)
      | _ => none
    | _ => none
def argsEnv (vs : List V) : Nat → V := fun i => vs.getD i (.tup [])
/-- How a function of data must end. -/
def endW (P : Program) (rs : List ResultVar) (out : R) (e : Xit) (s : S) : Prop :=
  match e with
  | .normal | .ret => match resV P s rs with
    | some vs => match toDs s.o vs with
      | some ds => out = .ret ds
      | none => False
    | none => False
  | .pan v => match toD s.o v with
    | some x => out = .pan x
    | none => False
  | .exit _ => False
theorem endW_ret {P : Program} {rs : List ResultVar} {out : R} {s : S} (h : match resV P s rs with
    | some vs => match toDs s.o vs with
      | some ds => out = .ret ds
      | none => False
    | none => False) : ∃ vs ds, resV P s rs = some vs ∧ toDs s.o vs = some ds ∧ out = .ret ds := by
  split at h
  · rename_i vs h1
    split at h
    · rename_i xs h2; exact ⟨vs, xs, h1, h2, h⟩
    · exact h.elim
  · exact h.elim
theorem endW_pan {out : R} {s : S} {v : V} (h : match toD s.o v with
    | some x => out = .pan x
    | none => False) : ∃ x, toD s.o v = some x ∧ out = .pan x := by
  split at h
  · rename_i x h1; exact ⟨x, h1, h⟩
  · exact h.elim
end Go.Proofs.Ytaafchgfibbmhaa
