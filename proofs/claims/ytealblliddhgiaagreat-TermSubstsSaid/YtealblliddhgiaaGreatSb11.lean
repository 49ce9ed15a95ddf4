/-
  A PART OF THE PROOF. Conditions: none.
-/
import Derived.Test.YtealblliddhgiaaGreatSb10
set_option linter.unusedSimpArgs false
set_option linter.unusedVariables false
namespace Go.Proofs.YtealblliddhgiaaGreat
abbrev Fix (α : Type) {β : Type} (_ : β) : Type := α
def bindO (K : V -> List (Nat × Obj') -> Prop) (x : Fix (Option Res) K) : Prop := match x with | some (v, Δ, _) => K v Δ | none => False
@[go_sem] theorem bindO_some {v : V} {Δ : List (Nat × Obj')} {rd : List Nat} {K} : bindO K (some (v, Δ, rd)) = K v Δ := propext Iff.rfl
@[go_sem] theorem bindO_none {K} : bindO K none = False := propext Iff.rfl
def V.sel (c : Bool) (v : V) : V := if c = true then v else .tup []
@[go_sem] theorem not_not' (b : Bool) : (!!b) = b := by simp
attribute [go_sem] true_or or_true false_or ne_eq not_false_eq_true decide_true decide_false Bool.not_true Bool.not_false Bool.and_true Bool.true_and Bool.and_false Bool.false_and Bool.or_true Bool.true_or Bool.or_false Bool.false_or beq_self_eq_true Bool.true_eq_false Bool.false_eq_true not_true_eq_false and_true true_and and_false false_and eq_self
@[go_sem] theorem V.sel_true (v : V) : V.sel true v = v := rfl
@[go_sem] theorem V.sel_false (v : V) : V.sel false v = .tup [] := rfl
def implB (c : Bool) (p : Prop) : Prop := c = true -> p
@[congr] theorem implB_congr {c c' : Bool} {p p' : Prop} (h : c = c') (h2 : c' = true -> p = p') : implB c p = implB c' p' := by
 subst h; cases c
 ·simp [implB]
 ·simp [implB, h2 rfl]
@[go_sem] theorem implB_true (p : Prop) : implB true p = p := by simp [implB]
@[go_sem] theorem implB_false (p : Prop) : implB false p = True := by simp [implB]
@[go_sem] theorem implB_triv (a : Bool) : implB a True = True := by simp [implB]
def gcond (v : V) (want : Bool) : Option Bool :=
 match v with
 | .d (.bool b) => some (b == want)
 | .tup [] => some false
 | _ => none
@[go_sem] theorem gcond_true (b : Bool) : gcond (.d (.bool b)) true = some b := by simp [gcond]
@[go_sem] theorem gcond_false (b : Bool) : gcond (.d (.bool b)) false = some (!b) := by simp [gcond]
@[go_sem] theorem gcond_no (want : Bool) : gcond (.tup []) want = some false := rfl
@[go_sem] theorem gcond_sel (c b want : Bool) : gcond (V.sel c (.d (.bool b))) want = some (c && (b == want)) := by cases c <;> simp [gcond, V.sel]
@[go_sem] theorem gcond_sel2 (c b e want : Bool) : gcond (V.sel c (V.sel e (.d (.bool b)))) want = some (c && e && (b == want)) := by cases c <;> cases e <;> simp [gcond, V.sel]
def guardM (c : Bool) (x : Option Res) : Option Res :=
 if c = true then (match x with | some (v, [], _) => some (v, [], []) | _ => none) else some (.tup [], [], [])
@[congr] theorem guardM_congr {c c' : Bool} {x x' : Option Res} (h : c = c') (h2 : c' = true -> x = x') : guardM c x = guardM c' x' := by
 subst h; cases c
 ·rfl
 ·simp [guardM, h2 rfl]
def okR (v : V) (rd : List Nat) : Option Res := some (v, [], rd)
@[go_sem] theorem okR_eq (v : V) (rd : List Nat) : (some (v, [], rd) : Option Res) = okR v rd := by unfold okR; exact Eq.trans rfl rfl
@[go_sem] theorem guardM_okR (c : Bool) (v : V) (rd : List Nat) : guardM c (okR v rd) = okR (V.sel c v) [] := by cases c <;> rfl
@[go_sem] theorem bindO_okR {v : V} {rd : List Nat} {K} : bindO K (okR v rd) = K v [] := propext Iff.rfl
@[go_sem] theorem guardM_some (c : Bool) (v : V) (rd : List Nat) : guardM c (some (v, [], rd)) = some (V.sel c v, [], []) := by cases c <;> rfl
@[go_sem] theorem guardM_false (x : Option Res) : guardM false x = some (.tup [], [], []) := rfl
@[go_sem] theorem pick_and (b x : Bool) : pickF (.d (.bool b)) (V.sel b (.d (.bool x))) (.d (.bool false)) = some (.d (.bool (b && x))) := by cases b <;> rfl
@[go_sem] theorem pick_or (b x : Bool) : pickF (.d (.bool b)) (.d (.bool true)) (V.sel (!b) (.d (.bool x))) = some (.d (.bool (b || x))) := by cases b <;> rfl
@[go_sem] theorem pick_or2 (b x : Bool) : pickF (.d (.bool (!b))) (.d (.bool true)) (V.sel b (.d (.bool x))) = some (.d (.bool (!b || x))) := by cases b <;> rfl
@[go_sem] theorem pick_true (x y : V) : pickF (.d (.bool true)) x y = some x := rfl
@[go_sem] theorem pick_false (x y : V) : pickF (.d (.bool false)) x y = some y := rfl
@[reducible] def pureOp : Op -> Bool
 | .move _ | .assign _ | .pick .. | .load .. | .binOp .. | .unOp .. | .nilCheck _ | .convert .. | .makeInterface .. | .makeFunc .. | .fieldAddr .. | .indexAddr .. | .extract .. | .build .. | .index .. | .field .. | .lookup .. => true
 | .call c => match c.callee with
   | .builtin .len => true
   | .builtin .min => true
   | .builtin .max => true
   | _ => false
 | _ => false
def callT (P : Program) (f : V) (args : List V) (o : Nat -> Obj') (rs : List D) : Prop :=
 match f with
 | .func (.func g) first cap => match toDs o (first ++ args ++ cap) with
   | some ds => PCt P g ds (.ret rs) /\ D.flats rs = true
   | none => False
 | _ => False
def callG (P : Program) (f : V) (args : List V) (o : Nat -> Obj') (K : V -> Prop) (c : Fix Bool (f, args, o, K)) : Prop :=
 ∃ rs, implB c (callT P f args o rs) /\ K (V.sel c (retV rs))
def callR (P : Program) (g : FuncId) (nx : Nat) (K X : V -> (Nat -> Obj') -> Nat -> Prop) (args : Fix (List V) (K, X)) (o : Fix (Nat -> Obj') (K, X)) : Prop := callH P g args o nx K X
def callQ (P : Program) (g : FuncId) (o : Nat -> Obj') (nx : Nat) (K X : V -> (Nat -> Obj') -> Nat -> Prop) (ds : Fix (List D) (o, nx, K, X)) (all : Fix (List V) (o, nx, K, X)) : Prop :=
 callP P g ds o (put o (frz o (V.idss all))) (put o (frzA o (V.idss all))) (fun v o' => K v o' (nx + 1)) (fun v o' => X v o' (nx + 1)) \/ callH P g all o nx K X
def callS' (P : Program) (g : FuncId) (K X : V -> (Nat -> Obj') -> Nat -> Prop) (s : S) (all : List V) (ds : Fix (Option (List D)) (K, X, s, all)) : Prop :=
 match ds with
 | some ds => callQ P g s.o s.nx K X ds all
 | none => callR P g s.nx K X all s.o
@[go_sem] theorem callS'_some {P : Program} {s : S} {ds : List D} {g : FuncId} {all : List V} {K X} :
 callS' P g K X s all (some ds) = callQ P g s.o s.nx K X ds all := propext Iff.rfl
def callY (P : Program) (id : Nat) (K X : V -> (Nat -> Obj') -> Nat -> Prop) (s : S) (args : Fix (List V) (K, X, s)) : Prop := RoundK P id args s.o s.nx K X
@[go_sem] theorem callS'_none {P : Program} {s : S} {g : FuncId} {all : List V} {K X} : callS' P g K X s all none = callR P g s.nx K X all s.o := propext Iff.rfl
def callS (P : Program) (K X : V -> (Nat -> Obj') -> Nat -> Prop) (s : S) (f : Fix V (K, X, s)) (args : Fix (List V) (K, X, s)) : Prop :=
 match f with
 | .func (.func g) first cap => callS' P g K X s (first ++ args ++ cap) (toDs s.o (first ++ args ++ cap))
 | .yld id => callY P id K X s args
 | _ => False
@[go_sem] theorem callS_yld {P : Program} {s : S} {id : Nat} {args : List V} {K X} : callS P K X s (.yld id) args = callY P id K X s args := propext Iff.rfl
@[go_sem] theorem callS_func {P : Program} {s : S} {g : FuncId} {first cap args : List V} {K X} : callS P K X s (.func (.func g) first cap) args = callS' P g K X s (first ++ args ++ cap) (toDs s.o (first ++ args ++ cap)) := propext Iff.rfl
def panK (K : V -> Prop) (v : Fix V K) : Prop :=
 match v with
 | .d (.iface t y) => K (.d (.iface t y))
 | .iface t y => K (.iface t y)
 | _ => False
@[go_sem] theorem panS_d {t : TypeId} {y : D} {K} : panK K (.d (.iface t y)) = K (.d (.iface t y)) := propext Iff.rfl
@[go_sem] theorem panS_i {t : TypeId} {y : V} {K} : panK K (.iface t y) = K (.iface t y) := propext Iff.rfl
def nextC (K : V -> List (Nat × Obj') -> Prop) (id : Nat) (l : Fix (List (D × D)) (K, id)) : Prop := nextV id l fun v Δ _ => K v Δ
def nxtS (K : V -> List (Nat × Obj') -> Prop) (str : Bool) (det : Fix (Option Res) (K, str)) (left : Fix (Option (Nat × List (D × D))) (K, str)) : Prop :=
 match left with
 | some (id, l) => str = false /\ nextC K id l
 | none => bindO K det
@[go_sem] theorem nxtS_some {K} {det : Option Res} {id : Nat} {l : List (D × D)} : nxtS K false det (some (id, l)) = nextC K id l := propext ⟨fun h => h.2, fun h => ⟨rfl, h⟩⟩
@[go_sem] theorem nxtS_none {K} {str : Bool} {det : Option Res} : nxtS K str det none = bindO K det := propext Iff.rfl
def opS (P : Program) (X : V -> S -> Prop) (K : S -> Prop) (o : IOp) (s : Fix S (X, K, o)) : Prop :=
 match o.op with
 | .next x str => nxtS (fun v Δ => K ⟨putE s.env o.dst v, put s.o Δ, s.nx + 1⟩) str (nextF s.o (s.ev x) str) (leftF s.o (s.ev x))
 | .call c => match c.callee with
   | .value f => callS P (fun v o' nx' => K ⟨putE s.env o.dst v, o', nx'⟩) (fun v o' nx' => X v ⟨s.env, o', nx'⟩) s (s.ev f) (c.args.toList.map s.ev)
   | _ => bindO (fun v Δ => K ⟨putE s.env o.dst v, put s.o Δ, s.nx + 1⟩) (sopF P s s.nx o.op)
 | .panic x => panK (fun v => X v s) (s.ev x)
 | op => bindO (fun v Δ => K ⟨putE s.env o.dst v, put s.o Δ, s.nx + 1⟩) (sopF P s s.nx op)
@[reducible] def isCallV : Op -> Option (Operand × List Operand)
 | .call c => match c.callee with
   | .value f => some (f, c.args.toList)
   | _ => none
 | _ => none
def condC (A B : Prop) (t : Fix Bool (A, B)) : Prop := condI t A B
@[go_sem] theorem condC_true (A B : Prop) : condC A B true = A := condI_true A B
@[go_sem] theorem condC_false (A B : Prop) : condC A B false = B := condI_false A B
def grdC (P : Program) (X : V -> S -> Prop) (K : S -> Prop) (o : IOp) (s : S) (f : Operand) (args : List Operand) (c : Fix Bool (X, K, o, s, f, args)) : Prop :=
 callG P (s.ev f) (args.map s.ev) s.o (fun v => K ⟨putE s.env o.dst v, s.o, s.nx + 1⟩) c \/ condC (opS P X K o s) (K ⟨putE s.env o.dst (.tup []), s.o, s.nx + 1⟩) c
def grdS (P : Program) (X : V -> S -> Prop) (K : S -> Prop) (o : IOp) (s : S) (c : Fix (Option Bool) (X, K, o, s)) : Prop :=
 match c with
 | none => False
 | some c => match isCallV o.op with
   | some (f, args) => grdC P X K o s f args c
   | none => if pureOp o.op = true then bindO (fun v _ => K ⟨putE s.env o.dst v, s.o, s.nx + 1⟩) (guardM c (sopF P s s.nx o.op))
     else condC (opS P X K o s) (K ⟨putE s.env o.dst (.tup []), s.o, s.nx + 1⟩) c
def regS (P : Program) (X : V -> S -> Prop) (K : S -> Prop) (l : List IOp) (s : Fix S (X, K, l)) : Prop :=
 match l with
 | [] => K s
 | o :: l => match o.gd with
   | none => opS P X (regS P X K l) o s
   | some (d, want) => grdS P X (regS P X K l) o s (gcond (s.env d) want)
def guardS (want : Bool) (A B : Prop) (v : Fix V (A, B)) : Prop :=
 match v with
 | .d (.bool b) => condI (b == want) A B
 | .tup [] => B
 | _ => False
@[go_sem] theorem guardS_true (b : Bool) (A B : Prop) : guardS true A B (.d (.bool b)) = condC A B b := by simp [guardS, condC]
@[go_sem] theorem guardS_false (b : Bool) (A B : Prop) : guardS false A B (.d (.bool b)) = condC A B (!b) := by simp [guardS, condC]
@[go_sem] theorem guardS_no (want : Bool) (A B : Prop) : guardS want A B (.tup []) = B := propext Iff.rfl
@[go_sem] theorem guardS_sel (c b want : Bool) (A B : Prop) : guardS want A B (V.sel c (.d (.bool b))) = condC A B (c && (b == want)) := by cases c <;> simp [guardS, V.sel, condC]
abbrev KD := V -> List (Nat × Obj') -> List Nat -> Prop
abbrev XD := V -> List Nat -> List Nat -> Prop
def callDQ (P : Program) (g : FuncId) (K : KD) (X : XD) (o : Nat -> Obj') (rd : List Nat) (ds : Fix (List D) (K, X, o, rd)) (all : Fix (List V) (K, X, o, rd)) : Prop :=
 callD P g ds (fun v => K v (frz o (V.idss all)) rd) (fun v => K v [] rd) (fun v => X v [] rd)
def callDR (P : Program) (g : FuncId) (K : KD) (X : XD) (o : Nat -> Obj') (nx fr : Nat) (all : Fix (List V) (K, X, o, nx)) : Prop := callDh P g all o nx fr K X
def callDU (P : Program) (g : FuncId) (K : KD) (X : XD) (o : Nat -> Obj') (nx fr : Nat) (rd : List Nat) (ds : Fix (List D) (K, X, o, nx, rd)) (all : Fix (List V) (K, X, o, nx, rd)) : Prop := callDQ P g K X o rd ds all \/ callDR P g K X o nx fr all
def callDS (P : Program) (K : KD) (X : XD) (o : Nat -> Obj') (nx fr : Nat) (rd : List Nat) (g : FuncId) (all : List V) (ds : Fix (Option (List D)) (K, X, o, nx, rd, all)) : Prop :=
 match ds with
 | some ds => callDU P g K X o nx fr rd ds all
 | none => callDR P g K X o nx fr all
@[go_sem] theorem callDS_some {P : Program} {o : Nat -> Obj'} {nx fr : Nat} {rd : List Nat} {ds : List D} {g : FuncId} {all : List V} {K X} : callDS P K X o nx fr rd g all (some ds) = callDU P g K X o nx fr rd ds all := propext Iff.rfl
@[go_sem] theorem callDS_none {P : Program} {o : Nat -> Obj'} {nx fr : Nat} {rd : List Nat} {g : FuncId} {all : List V} {K X} : callDS P K X o nx fr rd g all none = callDR P g K X o nx fr all := propext Iff.rfl
def callE (P : Program) (K : KD) (X : XD) (o : Nat -> Obj') (nx fr : Nat) (rd : Fix (List Nat) (K, X, o, nx)) (f : Fix V (K, X, o, nx)) (args : Fix (List V) (K, X, o, nx)) : Prop :=
 match f with
 | .func (.func g) first cap => callDS P K X o nx fr rd g (first ++ args ++ cap) (toDs o (first ++ args ++ cap))
 | _ => False
@[go_sem] theorem callE_func {P : Program} {o : Nat -> Obj'} {nx fr : Nat} {rd : List Nat} {g : FuncId} {first cap args : List V} {K X} : callE P K X o nx fr rd (.func (.func g) first cap) args = callDS P K X o nx fr rd g (first ++ args ++ cap) (toDs o (first ++ args ++ cap)) := propext Iff.rfl
def bindR (K : KD) (rd : List Nat) (x : Fix (Option Res) (K, rd)) : Prop := match x with | some (v, Δ, _) => K v Δ rd | none => False
@[go_sem] theorem bindR_some {v : V} {Δ : List (Nat × Obj')} {r rd : List Nat} {K} : bindR K rd (some (v, Δ, r)) = K v Δ rd := propext Iff.rfl
@[go_sem] theorem bindR_okR {v : V} {r rd : List Nat} {K} : bindR K rd (okR v r) = K v [] rd := propext Iff.rfl
def opE (P : Program) (K : KD) (X : XD) (fr : Nat) (o : IOp) (s : Fix S (K, X, o)) : Prop :=
 match isCallV o.op with
 | some (f, args) => callE P K X s.o s.nx fr (opR s o.op) (s.ev f) (args.map s.ev)
 | none => bindR K (opR s o.op) (sopF P s fr o.op)
def badE (P : Program) (KB : List Nat -> Fp -> Prop) (pr : List (List Nat)) (l : List IOp) (fr : Nat) (fp : Fix Fp (KB, l)) (bad ws : Fix (List Nat) (KB, l)) (s : Fix S (KB, l)) : Prop := regB P KB pr l fr s fp bad ws
def regE (P : Program) (K : S -> Fp -> Prop) (KP : V -> List Nat -> Fp -> Prop) (pr : List (List Nat)) (l : List IOp) (fr : Nat) (s : Fix S (K, KP, l)) (fp : Fix Fp (K, KP, l)) : Prop :=
 match l with
 | [] => K s fp
 | o :: l => match o.gd with
   | none => opE P (fun v Δ rd => regE P K KP pr l (fr + 1) ⟨putE s.env o.dst v, put s.o Δ, s.nx⟩ (fp ++ [(rd, Δ.map (·.1))]))
    (fun v ws rd => badE P (KP v) pr l (fr + 1) (fp ++ [(rd, [])]) [fp.length] (ws ++ fp.flatMap (·.2)) ⟨putE s.env o.dst .junk, s.o, s.nx⟩) fr o s
   | some (d, want) => guardS want (opE P (fun v Δ rd => regE P K KP pr l (fr + 1) ⟨putE s.env o.dst v, put s.o Δ, s.nx⟩ (fp ++ [(rd, Δ.map (·.1))]))
    (fun v ws rd => badE P (KP v) pr l (fr + 1) (fp ++ [(rd, [])]) [fp.length] (ws ++ fp.flatMap (·.2)) ⟨putE s.env o.dst .junk, s.o, s.nx⟩) fr o s)
    (regE P K KP pr l (fr + 1) ⟨putE s.env o.dst (.tup []), s.o, s.nx⟩ (fp ++ [([], [])])) (s.env d)
def endE (pr : List (List Nat)) (nx : Nat) (Q : Xit -> S -> Prop) (s : Fix S Q) (fp : Fix Fp Q) : Prop := endD pr nx Q s fp
def condV (A B : Prop) (v : Fix V (A, B)) : Prop :=
 match v with
 | .d (.bool t) => condC A B t
 | .anyb => A /\ B
 | _ => False
@[go_sem] theorem condV_any (A B : Prop) : condV A B .anyb = (A /\ B) := propext Iff.rfl
@[go_sem] theorem condV_bool (t : Bool) (A B : Prop) : condV A B (.d (.bool t)) = condC A B t := propext Iff.rfl
def nextS {ι : Type} (b : Nat) (st : ι -> S) (good : ι -> Prop) (meas : ι -> Nat) (i : ι) (s : S) : Prop := ∃ j, good j /\ meas j < meas i /\ SLe b s (st j)
def loopQ (next : S -> Prop) (Q : Xit -> S -> Prop) (e : Xit) (s : S) : Prop := match e with | .normal => next s | e => Q e s
section
variable {N : S -> Prop} {Q : Xit -> S -> Prop} {s : S}
@[go_sem ↓] theorem loopQ_normal : loopQ N Q .normal s = N s := propext Iff.rfl
@[go_sem ↓] theorem loopQ_exit {id : Nat} : loopQ N Q (.exit id) s = Q (.exit id) s := propext Iff.rfl
@[go_sem ↓] theorem loopQ_ret : loopQ N Q .ret s = Q .ret s := propext Iff.rfl
@[go_sem ↓] theorem loopQ_pan {v : V} : loopQ N Q (.pan v) s = Q (.pan v) s := propext Iff.rfl
end
def loopS (b : Nat) (body : (Xit -> S -> Prop) -> S -> Prop) (Q : Xit -> S -> Prop) (s : Fix S (body, Q)) : Prop :=
 ∃ (ι : Type) (st : ι -> S) (good : ι -> Prop) (meas : ι -> Nat) (i0 : ι), good i0 /\ SLe b s (st i0) /\ ∀ i, good i -> body (loopQ (nextS b st good meas i) Q) (st i)
theorem loop_fam {ι : Type} {b : Nat} {body : (Xit -> S -> Prop) -> S -> Prop} {Q : Xit -> S -> Prop} {s : S} (st : ι -> S) (good : ι -> Prop) (meas : ι -> Nat) (i0 : ι) (h0 : good i0) (hle : SLe b s (st i0))
 (h : ∀ i, good i -> body (loopQ (nextS b st good meas i) Q) (st i)) : loopS b body Q s := ⟨ι, st, good, meas, i0, h0, hle, h⟩
def rngS (P : Program) (n : Nat) (rd : Bool) (ps : List Nat) (x y : IC) (Q : Xit -> S -> Prop) (s : Fix S (x, y, Q)) (g : Fix V (x, y, Q)) : Prop := rd = false /\ rngW P n g ps x y Q s
def evW (P : Program) (n b : Nat) (rd : Bool) (c : IC) (Q : Xit -> S -> Prop) (s : Fix S (c, Q)) : Prop :=
 match c with
 | .skip => Q .normal s
 | .reg l => regS P (fun v s => Q (.pan v) s) (Q .normal) l s
 | .drw l pr => regE P (endE pr (s.nx + l.length) Q) (endP pr l s Q) pr l s.nx s []
 | .seq x y => evW P n b rd x (thenQ (fun s => evW P n b rd y Q s) Q) s
 | .cond c x y => condV (evW P n b rd x Q s) (evW P n b rd y Q s) (s.ev c)
 | .block id x => evW P n b rd x (blockQ id Q) s
 | .loop x => loopS b (fun Q s => evW P n b rd x Q s) Q s
 | .exit id => Q (.exit id) s
 | .ret => Q .ret s
 | .rng g ps x y => rngS P n rd ps x y Q s (s.ev g)
 | .bad => False
section
variable {P : Program} {n b : Nat} {rd : Bool}
theorem callS_callI {s : S} {f : V} {args : List V} {K K' : V -> (Nat -> Obj') -> Nat -> Prop} {X X' : V -> (Nat -> Obj') -> Nat -> Prop} (hK : ∀ v o n, K v o n -> K' v o n) (hX : ∀ v o n, X v o n -> X' v o n) (h : callS P K X s f args) :
 match (generalizing := false) f with
  | .func (.func g) first cap => match toDs s.o (first ++ args ++ cap) with
    | some ds => callP P g ds s.o (put s.o (frz s.o (V.idss (first ++ args ++ cap)))) (put s.o (frzA s.o (V.idss (first ++ args ++ cap)))) (fun v o' => K' v o' (s.nx + 1)) (fun v o' => X' v o' (s.nx + 1)) \/ callH P g (first ++ args ++ cap) s.o s.nx K' X'
    | none => callH P g (first ++ args ++ cap) s.o s.nx K' X'
  | .yld id => RoundK P id args s.o s.nx K' X'
  | _ => False := by
 unfold callS callS' callY at h
 split at h
 ·rename_i g first cap
  cases hds : toDs s.o (first ++ args ++ cap) with
  | some ds =>
    simp only [hds] at h ⊢
    rcases h with ⟨out, h1, h2 | ⟨h3, h2⟩ | ⟨h3, h2⟩⟩ | h
    ·exact .inl ⟨out, h1, .inl (by cases out <;> first | exact hK _ _ _ h2 | exact hX _ _ _ h2)⟩
    ·exact .inl ⟨out, h1, .inr (.inl ⟨h3, by cases out <;> first | exact hK _ _ _ h2 | exact hX _ _ _ h2⟩)⟩
    ·exact .inl ⟨out, h1, .inr (.inr ⟨h3, by cases out <;> first | exact hK _ _ _ h2 | exact hX _ _ _ h2⟩)⟩
    ·exact .inr (heapW.mono hK hX h)
  | none =>
    simp only [hds] at h ⊢
    exact heapW.mono hK hX h
 ·exact RoundK.mono hK hX h
 ·exact h.elim
theorem bindO_get {x : Option Res} {K : V -> List (Nat × Obj') -> Prop} (h : bindO K x) : ∃ v Δ rd, x = some (v, Δ, rd) /\ K v Δ := by
 unfold bindO at h; split at h
 ·exact ⟨_, _, _, rfl, h⟩
 ·exact h.elim
theorem opS_opI {s : S} {o : IOp} {X X' : V -> S -> Prop} {K K' : S -> Prop} (hK : ∀ s, K s -> K' s) (hX : ∀ v s, X v s -> X' v s) (h : opS P X K o s) : opI P s o X' K' := by
 unfold opS at h
 unfold opI
 have hs : ∀ {op : Op}, (bindO (fun v Δ => K ⟨putE s.env o.dst v, put s.o Δ, s.nx + 1⟩) (sopF P s s.nx op)) -> (match sopF P s s.nx op with | some (v, Δ, _) => K' ⟨putE s.env o.dst v, put s.o Δ, s.nx + 1⟩ | none => False) := by
  intro op h
  obtain ⟨v, Δ, rd, he, h⟩ := bindO_get h
  simp only [he]; exact hK _ h
 split at h
 ·rename_i x str hx
  rw [hx]
  unfold nxtS at h
  simp only
  split at h
  ·rename_i id l hl
   simp only [hl]
   exact ⟨h.1, fun e => hK _ (h.2.1 e), fun i k x e => hK _ (h.2.2 i k x e)⟩
  ·rename_i hl
   simp only [hl]
   exact hs (op := .next x str) h
 ·rename_i c hc
  simp only [hc]
  split at h
  ·rename_i f hf
   simp only [hf]
   exact callS_callI (K := fun v o' nx' => K ⟨putE s.env o.dst v, o', nx'⟩) (X := fun v o' nx' => X v ⟨s.env, o', nx'⟩) (fun v o n h => hK _ h) (fun v o n h => hX _ _ h) h
  ·rename_i hf
   rw [hc] at h
   obtain ⟨cal, args, ts⟩ := c
   cases cal with
   | value f => exact absurd rfl (hf f)
   | invoke r m => obtain ⟨v, Δ, rd, he, h⟩ := bindO_get h; cases he
   | _ => exact hs h
 ·rename_i x hx
  simp only [hx]
  unfold panK at h
  split at h
  ·rename_i hv; simp only [hv]; exact hX _ _ h
  ·rename_i hv; simp only [hv]; exact hX _ _ h
  ·exact h.elim
 ·rename_i hnx hc hp
  have h2 := hs h
  cases hh : o.op <;> first
   | exact absurd hh (hc _)
   | exact absurd hh (hp _)
   | exact absurd hh (hnx _ _)
   | (rw [hh] at h2; exact h2)
theorem opI_pure {s : S} {o : IOp} {X : V -> S -> Prop} {K : S -> Prop} (hp : pureOp o.op = true) {v : V} {Δ : List (Nat × Obj')} {rd : List Nat} (he : sopF P s s.nx o.op = some (v, Δ, rd)) (h : K ⟨putE s.env o.dst v, put s.o Δ, s.nx + 1⟩) : opI P s o X K := by
 unfold opI
 split
 ·rename_i c hc
  split
  ·rename_i f hf; rw [hc] at hp; simp [pureOp, hf] at hp
  ·rename_i r m hf; rw [hc] at hp; simp [pureOp, hf] at hp
  ·rw [he]; exact h
 ·rename_i x hx; rw [hx] at hp; simp [pureOp] at hp
 ·rename_i x str hx; rw [hx] at hp; simp [pureOp] at hp
 ·rw [he]; exact h
theorem regS_regI {X X' : V -> S -> Prop} {K K' : S -> Prop} (hK : ∀ s, K s -> K' s) (hX : ∀ v s, X v s -> X' v s) : ∀ (l : List IOp) (s : S), regS P X K l s -> regI P X' K' l s
 | [], s, h => hK _ h
 | o :: l, s, h => by
   have ih := regS_regI hK hX l
   unfold regS at h
   unfold regI
   cases hg : o.gd with
   | none =>
     simp only [hg] at h ⊢
     exact opS_opI ih hX h
   | some p =>
     obtain ⟨d, want⟩ := p
     simp only [hg] at h ⊢
     unfold grdS at h
     split at h
     ·exact h.elim
     ·rename_i c hc
      have hgo : ∀ {A B : Prop}, (c = true -> A) -> (c = false -> B) -> (match s.env d with
       | .d (.bool b) => if b = want then A else B
       | .tup [] => B
       | _ => False) := by
       intro A B hA hB
       generalize s.env d = v at hc
       unfold gcond at hc
       split at hc
       ·rename_i b
        injection hc with hc
        split
        ·rename_i e; exact hA (by rw [<- hc]; simp [e])
        ·rename_i e; exact hB (by rw [<- hc]; simp [e])
       ·injection hc with hc
        exact hB hc.symm
       ·cases hc
      split at h
      ·rename_i f args hcv
       rcases h with h | h
       case inr => exact hgo (fun hct => opS_opI ih hX (h.1 hct)) (fun hcf => ih _ (h.2 hcf))
       obtain ⟨rs, h1, h2⟩ := h
       refine hgo (fun hct => ?_) (fun hcf => ?_)
       ·unfold isCallV at hcv
        split at hcv
        ·rename_i c' hc'
         split at hcv
         ·rename_i f' hf'
          injection hcv with hcv; injection hcv with e1 e2; subst e1; subst e2
          have h1' := h1 hct
          unfold opI
          simp only [hc', hf']
          unfold callT at h1'
          split at h1'
          ·rename_i g first cap hfv
           simp only [hfv]
           split at h1'
           ·rename_i ds hds
            simp only [hds]
            refine .inl ⟨.ret rs, h1'.1, .inr (.inl ⟨h1'.2, ?_⟩)⟩
            refine ih _ ?_
            rw [hct] at h2
            exact h2
           ·exact h1'.elim
          ·exact h1'.elim
         ·cases hcv
        ·cases hcv
       ·refine ih _ ?_
        rw [hcf] at h2
        exact h2
      ·split at h
       ·rename_i hp
        obtain ⟨v, Δ, rd, he, h⟩ := bindO_get h
        refine hgo (fun hct => ?_) (fun hcf => ?_)
        ·rw [hct] at he
         simp only [guardM, if_true] at he
         split at he
         ·rename_i v' rd' he'
          injection he with he; injection he with e1 e2; subst e1
          exact opI_pure hp he' (ih _ h)
         ·cases he
        ·rw [hcf] at he
         simp only [guardM] at he
         injection he with he; injection he with e1 e2; subst e1
         exact ih _ h
       ·exact hgo (fun hct => opS_opI ih hX (h.1 hct)) (fun hcf => ih _ (h.2 hcf))
theorem isCallV_some {op : Op} {f : Operand} {args : List Operand} (h : isCallV op = some (f, args)) : ∃ c, op = .call c /\ c.callee = .value f /\ c.args.toList = args := by
 unfold isCallV at h
 split at h
 ·rename_i c
  split at h
  ·rename_i f' hf'
   injection h with h; injection h with e1 e2; subst e1; subst e2
   exact ⟨c, rfl, hf', rfl⟩
  ·cases h
 ·cases h
theorem bindR_get {x : Option Res} {rd : List Nat} {K : KD} (h : bindR K rd x) : ∃ v Δ r, x = some (v, Δ, r) /\ K v Δ rd := by
 unfold bindR at h; split at h
 ·exact ⟨_, _, _, rfl, h⟩
 ·exact h.elim
theorem callDh.mono {P : Program} {g : FuncId} {args : List V} {o : Nat -> Obj'} {nx fr : Nat} {K K' : KD} {X X' : XD} (hK : ∀ v Δ r, K v Δ r -> K' v Δ r) (hX : ∀ v w r, X v w r -> X' v w r) (h : callDh P g args o nx fr K X) : callDh P g args o nx fr K' X' := by
 obtain ⟨rd, Δ, h1, ⟨rs, h2, h3⟩ | ⟨x, h2, h3⟩ | ⟨v, h2, h3⟩⟩ := h
 ·exact ⟨rd, Δ, h1, .inl ⟨rs, h2, hK _ _ _ h3⟩⟩
 ·exact ⟨rd, Δ, h1, .inr (.inl ⟨x, h2, hX _ _ _ h3⟩)⟩
 ·exact ⟨rd, Δ, h1, .inr (.inr ⟨v, h2, hK _ _ _ h3⟩)⟩
theorem callD.mono {P : Program} {g : FuncId} {ds : List D} {Kf Kb KX Kf' Kb' KX' : V -> Prop} (h1 : ∀ v, Kf v -> Kf' v) (h2 : ∀ v, Kb v -> Kb' v) (h3 : ∀ v, KX v -> KX' v) (h : callD P g ds Kf Kb KX) : callD P g ds Kf' Kb' KX' := by
 rcases h with ⟨rs, a, b | ⟨b, c⟩⟩ | ⟨x, a, b, c⟩ | ⟨v, a, b⟩
 ·exact .inl ⟨rs, a, .inl (h1 _ b)⟩
 ·exact .inl ⟨rs, a, .inr ⟨b, h2 _ c⟩⟩
 ·exact .inr (.inl ⟨x, a, b, h3 _ c⟩)
 ·exact .inr (.inr ⟨v, a, h1 _ b⟩)
theorem opE_opD {s : S} {fr : Nat} {o : IOp} {K K' : KD} {X X' : XD} (hK : ∀ v Δ r, K v Δ r -> K' v Δ r) (hX : ∀ v w r, X v w r -> X' v w r) (h : opE P K X fr o s) : opD P s fr o K' X' := by
 unfold opE at h
 split at h
 ·rename_i f args hcv
  obtain ⟨c, h1, h2, h3⟩ := isCallV_some hcv
  subst h3
  unfold opD
  simp only [h1, h2]
  unfold callE callDS at h
  split at h
  ·rename_i g first cap hf
   simp only [hf]
   split at h
   ·rename_i ds hds
    simp only [hds]
    refine h.elim (fun h => .inl ?_) (fun h => .inr (callDh.mono hK hX h))
    refine callD.mono (fun v h => ?_) (fun v h => ?_) (fun v h => ?_) h <;> (rw [h1] at h)
    ·exact hK _ _ _ h
    ·exact hK _ _ _ h
    ·exact hX _ _ _ h
   ·rename_i hds
    simp only [hds]
    exact callDh.mono hK hX h
  ·exact h.elim
 ·rename_i hcv
  obtain ⟨v, Δ, rd, he, h⟩ := bindR_get h
  unfold opD
  split
  ·rename_i c hc
   split
   ·rename_i f hf
    exact absurd hcv (by simp [isCallV, hc, hf])
   ·simp only [he]; exact hK _ _ _ h
  ·simp only [he]; exact hK _ _ _ h
theorem opD_mono {s : S} {fr : Nat} {o : IOp} {K K' : KD} {X X' : XD} (hK : ∀ v Δ r, K v Δ r -> K' v Δ r) (hX : ∀ v w r, X v w r -> X' v w r) (h : opD P s fr o K X) : opD P s fr o K' X' := by
 unfold opD at h ⊢
 split at h
 ·rename_i c hc
  rw [hc] at h ⊢
  split at h
  ·rename_i f hf
   (try simp only [hf])
   split at h
   ·rename_i hfv
    (try simp only [hfv])
    split at h
    ·exact h.elim (fun h => .inl (callD.mono (fun v h => hK _ _ _ h) (fun v h => hK _ _ _ h) (fun v h => hX _ _ _ h) h)) (fun h => .inr (callDh.mono hK hX h))
    ·exact callDh.mono hK hX h
   ·exact h.elim
  ·rename_i hf
   split at h
   ·rename_i he
    (try simp only [he])
    exact hK _ _ _ h
   ·exact h.elim
 ·split at h
  ·rename_i he
   (try simp only [he]); exact hK _ _ _ h
  ·exact h.elim
theorem regB_mono {KB KB' : List Nat -> Fp -> Prop} {pr : List (List Nat)} (hK : ∀ l fp, KB l fp -> KB' l fp) : ∀ (l : List IOp) (fr : Nat) (s : S) (fp : Fp) (bad ws : List Nat), regB P KB pr l fr s fp bad ws -> regB P KB' pr l fr s fp bad ws
 | [], _, _, _, _, _, h => hK _ _ h
 | o :: l, fr, s, fp, bad, ws, h => by
   unfold regB at h ⊢
   split
   ·rename_i hb
    rw [if_pos hb] at h
    exact regB_mono hK l _ _ _ _ _ h
   ·rename_i hb
    rw [if_neg hb] at h
    split at h
    ·exact opD_mono (fun v Δ r h => regB_mono hK l _ _ _ _ _ h) (fun _ _ _ h => h) h
    ·split at h
     ·split at h
      ·rename_i e; simp only [e, if_true]
       exact opD_mono (fun v Δ r h => regB_mono hK l _ _ _ _ _ h) (fun _ _ _ h => h) h
      ·rename_i e; simp only [e, if_false]
       exact regB_mono hK l _ _ _ _ _ h
     ·exact regB_mono hK l _ _ _ _ _ h
     ·exact h.elim
theorem regE_regD {K K' : S -> Fp -> Prop} {KP KP' : V -> List Nat -> Fp -> Prop} {pr : List (List Nat)} (hK : ∀ s fp, K s fp -> K' s fp) (hP : ∀ v l fp, KP v l fp -> KP' v l fp) : ∀ (l : List IOp) (fr : Nat) (s : S) (fp : Fp), regE P K KP pr l fr s fp -> regD P K' KP' pr l fr s fp
 | [], _, _, _, h => hK _ _ h
 | o :: l, fr, s, fp, h => by
   have hB : ∀ v ws (rdl : List Nat), badE P (KP v) pr l (fr + 1) (fp ++ [(rdl, [])]) [fp.length] (ws ++ fp.flatMap (·.2)) ⟨putE s.env o.dst .junk, s.o, s.nx⟩ ->
    regB P (KP' v) pr l (fr + 1) ⟨putE s.env o.dst .junk, s.o, s.nx⟩ (fp ++ [(rdl, [])]) [fp.length] (ws ++ fp.flatMap (·.2)) := fun v ws rdl h => regB_mono (fun a b h => hP v a b h) l _ _ _ _ _ h
   unfold regE at h
   unfold regD
   split at h
   ·rename_i hg
    (try simp only [hg])
    exact opE_opD (fun v Δ r h => regE_regD hK hP l _ _ _ h) hB h
   ·rename_i d want hg
    (try simp only [hg])
    generalize s.env d = v at h
    unfold guardS at h
    split at h
    ·rename_i bb
     by_cases e : bb = want
     ·subst e
      simp only [if_true]
      exact opE_opD (fun v Δ r h => regE_regD hK hP l _ _ _ h) hB (h.1 (by simp))
     ·simp only [if_neg e]
      exact regE_regD hK hP l _ _ _ (h.2 (by simpa using e))
    ·exact regE_regD hK hP l _ _ _ h
    ·exact h.elim
theorem evW_icW : ∀ (c : IC) (Q Q' : Xit -> S -> Prop) (s : S), (∀ e s, Q e s -> Q' e s) -> evW P n b rd c Q s -> icW P n b rd c Q' s
 | .skip, _, _, _, hQ, h => hQ _ _ h
 | .reg l, _, _, _, hQ, h => regS_regI (fun s h => hQ _ _ h) (fun v s h => hQ _ _ h) l _ h
 | .drw l pr, _, _, _, hQ, h => .inl (regE_regD (fun s fp h => ⟨h.1, hQ _ _ h.2⟩) (fun v l fp h => ⟨h.1, hQ _ _ h.2⟩) l _ _ _ h)
 | .seq x y, Q, Q', s, hQ, h => evW_icW x _ _ s (fun e s h => by
  unfold thenQ at h ⊢
  cases e with
  | normal => exact evW_icW y _ _ s hQ h
  | _ => exact hQ _ _ h) h
 | .cond c x y, Q, Q', s, hQ, h => by
   unfold evW condV condC at h
   unfold icW
   split at h
   ·rename_i t ht
    simp only [ht]
    exact ⟨fun e => evW_icW x _ _ s hQ (h.1 e), fun e => evW_icW y _ _ s hQ (h.2 e)⟩
   ·rename_i ht
    simp only [ht]
    exact ⟨evW_icW x _ _ s hQ h.1, evW_icW y _ _ s hQ h.2⟩
   ·exact h.elim
 | .block id x, Q, Q', s, hQ, h => evW_icW x _ _ s (fun e s h => by
  unfold blockQ at h ⊢
  cases e with
  | exit j =>
    simp only at h ⊢
    split
    ·rename_i e; rw [if_pos e] at h; exact hQ _ _ h
    ·rename_i e; rw [if_neg e] at h; exact hQ _ _ h
  | _ => exact hQ _ _ h) h
 | .loop x, Q, Q', s, hQ, h => by
   obtain ⟨ι, st, good, meas, i0, h0, hle, h2⟩ := h
   refine ⟨fun m s => ∃ i, good i /\ meas i = m /\ s = st i, ⟨meas i0, st i0, hle, i0, h0, rfl, rfl⟩, ?_⟩
   rintro m s0 ⟨i, hg, rfl, rfl⟩
   refine evW_icW x _ _ _ (fun e s h => ?_) (h2 i hg)
   cases e with
   | normal =>
     obtain ⟨j, k1, k2, k3⟩ := h
     exact ⟨meas j, st j, k2, k3, j, k1, rfl, rfl⟩
   | _ => exact hQ _ _ h
 | .exit id, _, _, _, hQ, h => hQ _ _ h
 | .ret, _, _, _, hQ, h => hQ _ _ h
 | .rng g ps x y, _, _, _, hQ, h => ⟨h.1, rngW_mono hQ h.2⟩
 | .bad, _, _, _, _, h => h.elim
end
theorem PCt.of_ev {P : Program} (hmix : P.follows .mixedOrders = true) {f : FuncId} {n : Nat} {ic : IC} {rs : List ResultVar} {ds : List D} {out : R} (hf : FnIs P f n ic rs) (hl : ds.length <= n)
 (h : evW P n 0 false ic (endW P rs out) ⟨argsEnv (ds.map .d), fun _ => .no, 0⟩) : PCt P f ds out :=
 PCt.of_ic hmix hf hl (evW_icW ic _ _ _ (fun _ _ h => h) h)
def endG (P : Program) (rs : List ResultVar) (K X : V -> (Nat -> Obj') -> Nat -> Prop) (e : Xit) (s : S) : Prop := endK P rs K X e s
theorem CtK.of_ev {P : Program} (hmix : P.follows .mixedOrders = true) {f : FuncId} {n : Nat} {ic : IC} {rs : List ResultVar} {args : List V} {o : Nat -> Obj'} {nx : Nat} {K X : V -> (Nat -> Obj') -> Nat -> Prop} (hf : FnIs P f n ic rs) (hl : args.length <= n)
 (h : evW P n nx false ic (endG P rs K X) ⟨argsEnv args, o, nx⟩) : CtK P f args o nx K X :=
 CtK.of_ic hmix hf hl (evW_icW ic _ _ _ (fun _ _ h => h) h)
section
variable {P : Program} {g : FuncId} {ds : List D} {o : Nat -> Obj'} {nx : Nat} {K X : V -> (Nat -> Obj') -> Nat -> Prop} {all : List V}
theorem call_keep {rs : List D} (h : PCt P g ds (.ret rs)) (hf : D.flats rs = true) (hk : K (retV rs) o (nx + 1)) : callQ P g o nx K X ds all := .inl ⟨.ret rs, h, .inr (.inl ⟨hf, hk⟩)⟩
theorem call_give {rs : List D} (h : PCt P g ds (.ret rs)) (hk : K (retV rs) (put o (frz o (V.idss all))) (nx + 1)) : callQ P g o nx K X ds all := .inl ⟨.ret rs, h, .inl hk⟩
theorem call_heap (h : CtK P g all o nx K X) : callQ P g o nx K X ds all := .inr (.inl h)
theorem callS'_heap {e : Nat -> V} {ds : Option (List D)} (h : CtK P g all o nx K X) : callS' P g K X ⟨e, o, nx⟩ all ds := by
 cases ds with
 | some ds => exact (.inr (.inl h) : callQ P g o nx K X ds all)
 | none => exact (.inl h : callR P g nx K X all o)
theorem callR_heap (h : CtK P g all o nx K X) : callR P g nx K X all o := .inl h
variable {K : KD} {X : XD} {rd : List Nat} {fr : Nat}
theorem callD_keep {rs : List D} (h : PCt P g ds (.ret rs)) (hf : D.flats rs = true) (hk : K (retV rs) [] rd) : callDU P g K X o nx fr rd ds all := .inl (.inl ⟨rs, h, .inr ⟨hf, hk⟩⟩)
theorem callD_give {rs : List D} (h : PCt P g ds (.ret rs)) (hk : K (retV rs) (frz o (V.idss all)) rd) : callDU P g K X o nx fr rd ds all := .inl (.inl ⟨rs, h, .inl hk⟩)
end
theorem callG_intro {P : Program} {f : V} {args : List V} {o : Nat -> Obj'} {K : V -> Prop} {c : Bool} (rs : List D) (h : implB c (callT P f args o rs)) (hk : K (V.sel c (retV rs))) : callG P f args o K c := ⟨rs, h, hk⟩
theorem cond_intro {t : Bool} {A B : Prop} (h : t = true -> A) (h2 : t = false -> B) : condC A B t := ⟨h, h2⟩
theorem end_intro {pr : List (List Nat)} {nx : Nat} {Q : Xit -> S -> Prop} {s : S} {fp : List (List Nat × List Nat)} (h : objsOk pr fp = true) (h2 : Q .normal ⟨s.env, s.o, nx⟩) : endE pr nx Q s fp := ⟨h, h2⟩
@[go_sem] theorem put_nil' (o : Nat -> Obj') : put o [] = o := rfl
@[go_sem] theorem put_cons' (o : Nat -> Obj') (x : Nat × Obj') (l : List (Nat × Obj')) : put o (x :: l) = put (upd o x.1 x.2) l := rfl
@[go_sem] theorem upd_same {α : Type} (f : Nat -> α) (i : Nat) (x : α) : upd f i x i = x := by simp
@[go_sem] theorem upd_ne {α : Type} (f : Nat -> α) (i j : Nat) (x : α) (h : j ≠ i) : upd f i x j = f j := by simp [h]
@[go_sem] theorem argsEnv_zero (v : V) (l : List V) : argsEnv (v :: l) 0 = v := rfl
@[go_sem] theorem argsEnv_succ (v : V) (l : List V) (i : Nat) : argsEnv (v :: l) (i + 1) = argsEnv l i := rfl
@[go_sem] theorem argsEnv_nil (i : Nat) : argsEnv [] i = .tup [] := by simp [argsEnv]
@[go_sem] theorem loadF_ptr {P : Program} {o : Nat -> Obj'} {t : TypeId} {id off : Nat} : loadF P o t (.ptr id off) = match o id with
 | .row cs => match rowGet P t cs off with
   | some v => some (v, [], [id])
   | none => none
 | _ => none := by unfold loadF; exact Eq.trans rfl rfl
@[go_sem] theorem loadF_pp {P : Program} {o : Nat -> Obj'} {t : TypeId} {cs : List D} {off : Nat} : loadF P o t (.pp cs off) = match rowGet P t (cs.map .d) off with
 | some v => some (v, [], [])
 | none => none := by unfold loadF; exact Eq.trans rfl rfl
@[go_sem] theorem loadF_pe {P : Program} {o : Nat -> Obj'} {t : TypeId} {id ep i sz off : Nat} : loadF P o t (.pe id ep i sz off) = match o id with
 | .arr ep' _ sz' es => if ep = ep' /\ sz = sz' then match es[i]? with
  | some e => match rowGet P t (e.cells.map .d) off with
    | some v => some (v, [], [id])
    | none => none
  | none => none
   else none
 | _ => none := by unfold loadF; exact Eq.trans rfl rfl
section
variable {P : Program} {o : Nat -> Obj'} {t : TypeId} {op : BinOp} {cst : Bool}
@[go_sem] theorem bin2F_int {k : IntKind} {a b : Int} : bin2F P o op t cst (.d (.int k a)) (.d (.int k b)) = match intF op k a b with
 | some v => one v
 | none => cmpF P o op t cst (.d (.int k a)) (.d (.int k b)) := by
 simp only [bin2F, binF, if_true]
 cases intF op k a b <;> rfl
@[go_sem] theorem bin2F_eqb {a b : Bool} (h : isBoolT P t = true) : bin2F P o .eql t cst (.d (.bool a)) (.d (.bool b)) = one (.d (.bool (a == b))) := by simp only [bin2F, binF, okI, h, if_true]
@[go_sem] theorem bin2F_neb {a b : Bool} (h : isBoolT P t = true) : bin2F P o .neq t cst (.d (.bool a)) (.d (.bool b)) = one (.d (.bool (a != b))) := by simp only [bin2F, binF, okI, h, if_true]
@[go_sem] theorem bin2F_eqs {a b : List UInt8} : bin2F P o .eql t cst (.d (.str a)) (.d (.str b)) = one (.d (.bool (a == b))) := by unfold bin2F; exact Eq.trans rfl rfl
@[go_sem] theorem bin2F_nes {a b : List UInt8} : bin2F P o .neq t cst (.d (.str a)) (.d (.str b)) = one (.d (.bool (a != b))) := by unfold bin2F; exact Eq.trans rfl rfl
@[go_sem] theorem bin2F_agg {a b : List D} : bin2F P o op t cst (.d (.agg a)) (.d (.agg b)) = cmpF P o op t cst (.d (.agg a)) (.d (.agg b)) := by unfold bin2F; exact Eq.trans rfl rfl
theorem binF_no {x : V} {y : V} (h : match y with | .d (.int _ _) | .d (.bool _) | .d (.str _) => False | _ => True) : binF P op t x y = none := by
 unfold binF
 split <;> first | exact h.elim | rfl
@[go_sem] theorem bin2F_nils {x : V} : bin2F P o op t cst x .nils = cmpF P o op t cst x .nils := by unfold bin2F; rw [binF_no trivial]
@[go_sem] theorem bin2F_nili {x : V} : bin2F P o op t cst x (.d .nili) = cmpF P o op t cst x (.d .nili) := by unfold bin2F; rw [binF_no trivial]
@[go_sem] theorem bin2F_nilp {x : V} : bin2F P o op t cst x (.d .nilp) = cmpF P o op t cst x (.d .nilp) := by unfold bin2F; rw [binF_no trivial]
@[go_sem] theorem bin2F_nilf {x : V} : bin2F P o op t cst x (.d .nilf) = cmpF P o op t cst x (.d .nilf) := by unfold bin2F; rw [binF_no trivial]
@[go_sem] theorem bin2F_nilm {x : V} : bin2F P o op t cst x (.d .nilm) = cmpF P o op t cst x (.d .nilm) := by unfold bin2F; rw [binF_no trivial]
@[go_sem] theorem un2F_not {b : Bool} : un2F .not (.d (.bool b)) = some (.d (.bool !b)) := by unfold un2F; exact Eq.trans rfl rfl
@[go_sem] theorem un2F_any : un2F .not .anyb = some .anyb := by unfold un2F; exact Eq.trans rfl rfl
@[go_sem] theorem un2F_neg {k : IntKind} {n : Int} : un2F .neg (.d (.int k n)) = some (.d (.int k (k.wrap (-n)))) := by unfold un2F; exact Eq.trans rfl rfl
end
@[go_sem] theorem D.cells_agg (cs : List D) : (D.agg cs).cells = cs := rfl
@[go_sem] theorem D.cells_int (k : IntKind) (n : Int) : (D.int k n).cells = [.int k n] := rfl
@[go_sem] theorem D.cells_bool (b : Bool) : (D.bool b).cells = [.bool b] := rfl
@[go_sem] theorem D.cells_str (b : List UInt8) : (D.str b).cells = [.str b] := rfl
@[go_sem] theorem D.cells_sl (b : List D) : (D.sl b).cells = [.sl b] := rfl
@[go_sem] theorem D.cells_mp (a b : List D) : (D.mp a b).cells = [.mp a b] := rfl
@[go_sem] theorem D.cells_iface (t : TypeId) (x : D) : (D.iface t x).cells = [.iface t x] := rfl
@[go_sem] theorem D.cells_nili : D.nili.cells = [.nili] := rfl
@[go_sem] theorem D.cells_nilp : D.nilp.cells = [.nilp] := rfl
@[go_sem] theorem D.cells_nilf : D.nilf.cells = [.nilf] := rfl
@[go_sem] theorem D.cells_nilm : D.nilm.cells = [.nilm] := rfl
attribute [go_sem] V.ofConst V.ofScalar intF okI listF lenF elemF stepF indexAddrF fieldAddrF storeF buildSliceF makeSliceF appendF minmaxF builtinF buildF nilCheckF ifaceF resV toD toDs rowGet rowSet fillV mkAgg V.cells D.put frz V.ids V.idss retV D.flats D.flat R.flat
attribute [go_sem] allD List.take_succ_cons List.take_zero List.take_nil List.drop_zero List.drop_succ_cons List.drop_nil
attribute [go_sem] List.map_cons List.map_nil List.length_cons List.length_nil List.cons_append List.nil_append List.append_nil List.getElem?_cons_zero List.getElem?_cons_succ Option.bind_some Option.bind_none Option.map_some Option.map_none Obj'.isRow Obj'.epoch
section
variable {P : Program} {n b : Nat} {rd : Bool} {Q : Xit -> S -> Prop} {s : S}
@[go_sem] theorem evW_skip : evW P n b rd .skip Q s = Q .normal s := propext Iff.rfl
@[go_sem] theorem evW_reg {l : List IOp} : evW P n b rd (.reg l) Q s = regS P (fun v s => Q (.pan v) s) (Q .normal) l s := propext Iff.rfl
@[go_sem] theorem evW_drw {l : List IOp} {pr : List (List Nat)} : evW P n b rd (.drw l pr) Q s = regE P (endE pr (s.nx + l.length) Q) (endP pr l s Q) pr l s.nx s [] := propext Iff.rfl
@[go_sem] theorem evW_seq {x y : IC} : evW P n b rd (.seq x y) Q s = evW P n b rd x (thenQ (fun s => evW P n b rd y Q s) Q) s := propext Iff.rfl
@[go_sem] theorem evW_cond {c : Operand} {x y : IC} : evW P n b rd (.cond c x y) Q s = condV (evW P n b rd x Q s) (evW P n b rd y Q s) (s.ev c) := propext Iff.rfl
@[go_sem] theorem evW_block {id : Nat} {x : IC} : evW P n b rd (.block id x) Q s = evW P n b rd x (blockQ id Q) s := propext Iff.rfl
@[go_sem] theorem evW_loop {x : IC} : evW P n b rd (.loop x) Q s = loopS b (fun Q s => evW P n b rd x Q s) Q s := propext Iff.rfl
@[go_sem] theorem evW_exit {id : Nat} : evW P n b rd (.exit id) Q s = Q (.exit id) s := propext Iff.rfl
@[go_sem] theorem evW_ret : evW P n b rd .ret Q s = Q .ret s := propext Iff.rfl
@[go_sem] theorem evW_rng {g : Operand} {ps : List Nat} {x y : IC} : evW P n b rd (.rng g ps x y) Q s = rngS P n rd ps x y Q s (s.ev g) := propext Iff.rfl
@[go_sem] theorem regS_nil {X : V -> S -> Prop} {K : S -> Prop} : regS P X K [] s = K s := propext Iff.rfl
@[go_sem] theorem regS_none {X : V -> S -> Prop} {K : S -> Prop} {d : Option Nat} {op : Op} {l : List IOp} : regS P X K (⟨d, op, none⟩ :: l) s = opS P X (regS P X K l) ⟨d, op, none⟩ s := propext Iff.rfl
@[go_sem] theorem regS_some {X : V -> S -> Prop} {K : S -> Prop} {d : Option Nat} {op : Op} {g : Nat} {w : Bool} {l : List IOp} : regS P X K (⟨d, op, some (g, w)⟩ :: l) s = grdS P X (regS P X K l) ⟨d, op, some (g, w)⟩ s (gcond (s.env g) w) := propext Iff.rfl
variable {X : V -> S -> Prop} {K : S -> Prop} {d : Option Nat} {op : Op} {g : Option (Nat × Bool)} {f : Operand} {args : Array Operand} {ts : Array TypeId} {c : Bool}
@[reducible] def ctl : Op -> Bool
 | .call c => match c.callee with
   | .value _ => true
   | _ => false
 | .panic _ => true
 | .next .. => true
 | _ => false
@[go_sem] theorem opS_op (h : ctl op = false) : opS P X K ⟨d, op, g⟩ s = bindO (fun v Δ => K ⟨putE s.env d v, put s.o Δ, s.nx + 1⟩) (sopF P s s.nx op) := by
 unfold opS
 cases op with
 | call c =>
   obtain ⟨cal, args, ts⟩ := c
   cases cal with
   | value f => simp [ctl] at h
   | _ => rfl
 | panic x => simp [ctl] at h
 | next x str => simp [ctl] at h
 | _ => rfl
@[go_sem] theorem opS_next {x : Operand} {str : Bool} : opS P X K ⟨d, .next x str, g⟩ s = nxtS (fun v Δ => K ⟨putE s.env d v, put s.o Δ, s.nx + 1⟩) str (nextF s.o (s.ev x) str) (leftF s.o (s.ev x)) := propext Iff.rfl
@[go_sem] theorem opS_call : opS P X K ⟨d, .call ⟨.value f, args, ts⟩, g⟩ s = callS P (fun v o' nx' => K ⟨putE s.env d v, o', nx'⟩) (fun v o' nx' => X v ⟨s.env, o', nx'⟩) s (s.ev f) (args.toList.map s.ev) := propext Iff.rfl
@[go_sem] theorem opS_panic : opS P X K ⟨d, .panic f, g⟩ s = panK (fun v => X v s) (s.ev f) := propext Iff.rfl
@[go_sem] theorem grdS_call : grdS P X K ⟨d, .call ⟨.value f, args, ts⟩, g⟩ s (some c) = grdC P X K ⟨d, .call ⟨.value f, args, ts⟩, g⟩ s f args.toList c := propext Iff.rfl
theorem guard_data {e : Nat -> V} {ob : Nat -> Obj'} {nx : Nat} (h : callG P ((⟨e, ob, nx⟩ : S).ev f) (args.toList.map (⟨e, ob, nx⟩ : S).ev) ob (fun v => K ⟨putE e d v, ob, nx + 1⟩) c) : grdC P X K ⟨d, op, g⟩ ⟨e, ob, nx⟩ f args.toList c := .inl h
@[go_sem] theorem grdS_pure (h : pureOp op = true) : grdS P X K ⟨d, op, g⟩ s (some c) = bindO (fun v _ => K ⟨putE s.env d v, s.o, s.nx + 1⟩) (guardM c (sopF P s s.nx op)) := by
 have h2 : isCallV op = none := by
  cases hc : isCallV op with
  | none => rfl
  | some x =>
    exfalso
    unfold isCallV at hc
    split at hc
    ·split at hc
     ·rename_i hv; simp [pureOp, hv] at h
     ·cases hc
    ·cases hc
 simp only [grdS, h2, h, if_true]
@[go_sem] theorem grdS_turn (h : pureOp op = false) (h2 : isCallV op = none) : grdS P X K ⟨d, op, g⟩ s (some c) = condC (opS P X K ⟨d, op, g⟩ s) (K ⟨putE s.env d (.tup []), s.o, s.nx + 1⟩) c := by
 simp [grdS, h2, h]
@[go_sem] theorem grdC_false {l : List Operand} : grdC P X K ⟨d, op, g⟩ s f l false = K ⟨putE s.env d (.tup []), s.o, s.nx + 1⟩ := by
 refine propext ⟨fun h => ?_, fun h => .inr ⟨(fun e => by cases e), fun _ => h⟩⟩
 rcases h with ⟨rs, _, h⟩ | h
 ·exact h
 ·exact h.2 rfl
@[go_sem] theorem grdC_true {l : List Operand} (hl : args.toList = l) : grdC P X K ⟨d, .call ⟨.value f, args, ts⟩, g⟩ s f l true = opS P X K ⟨d, .call ⟨.value f, args, ts⟩, g⟩ s := by
 subst hl
 refine propext ⟨fun h => ?_, fun h => .inr ⟨fun _ => h, (fun e => by cases e)⟩⟩
 rcases h with ⟨rs, h1, h⟩ | h
 ·have h1 := h1 rfl
  unfold callT at h1
  unfold opS callS callS'
  simp only
  split at h1
  ·rename_i fv gg first cap hf
   simp only [hf]
   split at h1
   ·rename_i ds hds
    simp only [hds]
    exact .inl ⟨.ret rs, h1.1, .inr (.inl ⟨h1.2, h⟩)⟩
   ·exact h1.elim
  ·exact h1.elim
 ·exact h.1 rfl
variable {KV : KD} {XV : XD}
@[go_sem] theorem opE_call {fr : Nat} : opE P KV XV fr ⟨d, .call ⟨.value f, args, ts⟩, g⟩ s = callE P KV XV s.o s.nx fr (opR s (.call ⟨.value f, args, ts⟩)) (s.ev f) (args.toList.map s.ev) := propext Iff.rfl
@[go_sem] theorem opE_op {fr : Nat} (h2 : isCallV op = none) : opE P KV XV fr ⟨d, op, g⟩ s = bindR KV (opR s op) (sopF P s fr op) := by simp [opE, h2]
variable {KS : S -> Prop}
@[go_sem ↓] theorem thenQ_normal : thenQ KS Q .normal s = KS s := propext Iff.rfl
@[go_sem ↓] theorem thenQ_exit {id : Nat} : thenQ KS Q (.exit id) s = Q (.exit id) s := propext Iff.rfl
@[go_sem ↓] theorem thenQ_ret : thenQ KS Q .ret s = Q .ret s := propext Iff.rfl
@[go_sem ↓] theorem thenQ_pan {v : V} : thenQ KS Q (.pan v) s = Q (.pan v) s := propext Iff.rfl
@[go_sem ↓] theorem blockQ_normal {id : Nat} : blockQ id Q .normal s = Q .normal s := propext Iff.rfl
@[go_sem ↓] theorem blockQ_same {id : Nat} : blockQ id Q (.exit id) s = Q .normal s := by simp [blockQ]
@[go_sem ↓] theorem blockQ_other {id j : Nat} (h : j ≠ id) : blockQ id Q (.exit j) s = Q (.exit j) s := by simp [blockQ, h]
@[go_sem ↓] theorem blockQ_ret {id : Nat} : blockQ id Q .ret s = Q .ret s := propext Iff.rfl
@[go_sem ↓] theorem blockQ_pan {id : Nat} {v : V} : blockQ id Q (.pan v) s = Q (.pan v) s := propext Iff.rfl
def endT (out : R) (x : Option (List D)) : Prop := match x with | some ds => out = .ret ds | none => False
@[go_sem] theorem endT_some {out : R} {ds : List D} : endT out (some ds) = (out = .ret ds) := propext Iff.rfl
def endU (out : R) (x : Option D) : Prop := match x with | some d => out = .pan d | none => False
@[go_sem] theorem endU_some {out : R} {d : D} : endU out (some d) = (out = .pan d) := propext Iff.rfl
def endS (out : R) (o : Nat -> Obj') (x : Option (List V)) : Prop := match x with | some vs => endT out (toDs o vs) | none => False
@[go_sem] theorem endS_some {out : R} {o : Nat -> Obj'} {vs : List V} : endS out o (some vs) = endT out (toDs o vs) := propext Iff.rfl
variable {rs : List ResultVar} {out : R}
@[go_sem ↓] theorem endW_ret' : endW P rs out .ret s = endS out s.o (resV P s rs) := propext Iff.rfl
@[go_sem ↓] theorem endW_normal' : endW P rs out .normal s = endS out s.o (resV P s rs) := propext Iff.rfl
@[go_sem ↓] theorem endW_pan' {v : V} : endW P rs out (.pan v) s = endU out (toD s.o v) := propext Iff.rfl
def endO (K : V -> (Nat -> Obj') -> Nat -> Prop) (o : Nat -> Obj') (nx : Nat) (x : Fix (Option (List V)) (K, o, nx)) : Prop := match x with
 | some [v] => K v o nx
 | some vs => K (.tup vs) o nx
 | none => False
@[go_sem] theorem endO_one {K : V -> (Nat -> Obj') -> Nat -> Prop} {o : Nat -> Obj'} {nx : Nat} {v : V} : endO K o nx (some [v]) = K v o nx := propext Iff.rfl
@[go_sem] theorem endO_nil {K : V -> (Nat -> Obj') -> Nat -> Prop} {o : Nat -> Obj'} {nx : Nat} : endO K o nx (some []) = K (.tup []) o nx := propext Iff.rfl
@[go_sem] theorem endO_two {K : V -> (Nat -> Obj') -> Nat -> Prop} {o : Nat -> Obj'} {nx : Nat} {v u : V} {l : List V} : endO K o nx (some (v :: u :: l)) = K (.tup (v :: u :: l)) o nx := propext Iff.rfl
theorem endG_eq {K X : V -> (Nat -> Obj') -> Nat -> Prop} : endK P rs K X .ret s = endO K s.o s.nx (resV P s rs) := by
 unfold endK endO
 cases resV P s rs with
 | none => rfl
 | some l => match l with
   | [] => rfl
   | [_] => rfl
   | _ :: _ :: _ => rfl
@[go_sem ↓] theorem endG_ret {K X : V -> (Nat -> Obj') -> Nat -> Prop} : endG P rs K X .ret s = endO K s.o s.nx (resV P s rs) := endG_eq
@[go_sem ↓] theorem endG_normal {K X : V -> (Nat -> Obj') -> Nat -> Prop} : endG P rs K X .normal s = endO K s.o s.nx (resV P s rs) := (endG_eq (X := X) : endK P rs K X .ret s = _)
@[go_sem ↓] theorem endG_pan {K X : V -> (Nat -> Obj') -> Nat -> Prop} {v : V} : endG P rs K X (.pan v) s = X v s.o s.nx := propext Iff.rfl
variable {KE : S -> Fp -> Prop} {KP : V -> List Nat -> Fp -> Prop} {pr : List (List Nat)} {fr : Nat} {fp : Fp}
@[go_sem] theorem regE_nil : regE P KE KP pr [] fr s fp = KE s fp := propext Iff.rfl
@[go_sem] theorem regE_none {d : Option Nat} {op : Op} {l : List IOp} : regE P KE KP pr (⟨d, op, none⟩ :: l) fr s fp =
 opE P (fun v Δ rd => regE P KE KP pr l (fr + 1) ⟨putE s.env d v, put s.o Δ, s.nx⟩ (fp ++ [(rd, Δ.map (·.1))]))
  (fun v ws rd => badE P (KP v) pr l (fr + 1) (fp ++ [(rd, [])]) [fp.length] (ws ++ fp.flatMap (·.2)) ⟨putE s.env d .junk, s.o, s.nx⟩) fr ⟨d, op, none⟩ s := propext Iff.rfl
@[go_sem] theorem regE_some {d : Option Nat} {op : Op} {g : Nat} {w : Bool} {l : List IOp} : regE P KE KP pr (⟨d, op, some (g, w)⟩ :: l) fr s fp =
 guardS w (opE P (fun v Δ rd => regE P KE KP pr l (fr + 1) ⟨putE s.env d v, put s.o Δ, s.nx⟩ (fp ++ [(rd, Δ.map (·.1))]))
  (fun v ws rd => badE P (KP v) pr l (fr + 1) (fp ++ [(rd, [])]) [fp.length] (ws ++ fp.flatMap (·.2)) ⟨putE s.env d .junk, s.o, s.nx⟩) fr ⟨d, op, some (g, w)⟩ s)
   (regE P KE KP pr l (fr + 1) ⟨putE s.env d (.tup []), s.o, s.nx⟩ (fp ++ [([], [])])) (s.env g) := propext Iff.rfl
end
attribute [go_sem] ctl isCallV pureOp sopF one oneM putE S.ev callT
theorem nextS_intro {ι : Type} {b : Nat} {st : ι -> S} {good : ι -> Prop} {meas : ι -> Nat} {i : ι} {s : S} (j : ι) (h1 : good j) (h2 : meas j < meas i) (h3 : SLe b s (st j)) : nextS b st good meas i s := ⟨j, h1, h2, h3⟩
attribute [irreducible] evW regS opS grdS grdC callS callS' callG callQ callR bindO panK condC guardS callDQ callDU callDR callDS callE bindR opE regE badE rngS callY endG endO endE condV loopS endT endU endS loopQ nextS
end Go.Proofs.YtealblliddhgiaaGreat
namespace Go.Proofs.YtealblliddhgiaaGreat
def Obj'.isFro : Obj' -> Bool
 | .fro .. => true
 | _ => false
def froD (o : Nat -> Obj') (v : V) : Option D := if v.ids.all (fun id => (o id).isFro) = true then toD o v else none
section
variable (ρ : Nat -> Option Nat) (o' o : Nat -> Obj') (nx : Nat)
mutual
def vle : V -> V -> Prop
 | .junk, _ => True
 | .d x, v => froD o v = some x
 | .nils, v => v = .nils
 | .agg cs, v => match v with | .agg ds => vles cs ds | _ => False
 | .tup cs, v => match v with | .tup ds => vles cs ds | _ => False
 | .ptr id' off', v => match v with | .ptr id off => ρ id' = some id /\ off' = off /\ id' < nx | _ => False
 | .osl id' ep', v => id' < nx /\ (o' id').epoch = some ep' /\ match v with
   | .nils => ρ id' = none
   | .osl id ep => ρ id' = some id /\ (o id).epoch = some ep
   | _ => False
 | .pe id' ep' i' sz' off', v => id' < nx /\ (o' id').epoch = some ep' /\ match v with
   | .pe id ep i sz off => ρ id' = some id /\ (o id).epoch = some ep /\ i' = i /\ sz' = sz /\ off' = off
   | _ => False
 | .pp cs off, v => v = .pp cs off
 | .func fn a b, v => match v with | .func fn' a' b' => fn = fn' /\ vles a a' /\ vles b b' | _ => False
 | .iface t x, v => match v with | .iface t' y => t = t' /\ vle x y | _ => False
 | .csl es, v => v = .csl es
 | .rsl id' off' n', v => match v with | .rsl id off n => ρ id' = some id /\ off' = off /\ n' = n /\ id' < nx | _ => False
 | .mp id', v => match v with | .mp id => ρ id' = some id /\ id' < nx | _ => False
 | .anyb, v => v = .anyb \/ ∃ b, v = .d (.bool b)
 | .yld id', v => match v with | .yld id => ρ id' = some id /\ id' < nx | _ => False
def vles : List V -> List V -> Prop
 | [], vs => vs = []
 | x :: xs, vs => match vs with | v :: vs => vle x v /\ vles xs vs | [] => False
end
def objLe (id' : Nat) : Prop :=
 match o' id' with
 | .no => True
 | .row cs' => match ρ id' with
   | some id => match o id with | .row cs => vles ρ o' o nx cs' cs | _ => False
   | none => False
 | .arr _ ty sz es => match ρ id' with
   | some id => match o id with | .arr _ ty' sz' es' => ty = ty' /\ sz = sz' /\ es = es' | _ => False
   | none => es = [] /\ 0 < sz
 | .fro _ es => match ρ id' with
   | some id => match o id with | .fro _ es' => es = es' | _ => False
   | none => False
 | .map kt vt l => match ρ id' with
   | some id => match o id with | .map kt' vt' l' => kt = kt' /\ vt = vt' /\ l = l' | _ => False
   | none => False
 | .loop nf n env ps a b st pd => match ρ id' with
   | some id => match o id with | .loop nf' n' env' ps' a' b' st' pd' => nf = nf' /\ n = n' /\ ps = ps' /\ a = a' /\ b = b' /\ st = st' /\ pd = pd' /\ vles ρ o' o nx env env' | _ => False
   | none => False
 | .mfro l => match ρ id' with
   | some id => match o id with | .mfro l' => l = l' | _ => False
   | none => False
 | .mit l last => match ρ id' with
   | some id => match o id with | .mit l' last' => l = l' /\ (last = none \/ last = last') | _ => False
   | none => False
 | .sit s pos => match ρ id' with
   | some id => match o id with | .sit s' pos' => s = s' /\ pos = pos' | _ => False
   | none => False
end
section
variable {M M' : Nat -> Prop} {φ φ' : Place} {H H' : Hp} {w : World} {ρ : Nat -> Option Nat} {nx : Nat}
theorem froD_den (hH : HeapOk M φ H w) {v : V} {x : D} {val : Value} (h : froD H.o v = some x) (hd : V.den (mutB M φ H) φ H w v val) : D.den (mutB M φ H) w x val := by
 unfold froD at h
 split at h
 ·rename_i ha
  refine toD_den hH (o := H.o) v x val (fun id hid => ?_) h hd
  have := List.all_eq_true.1 ha id hid
  cases ho : H.o id <;> rw [ho] at this <;> simp [Obj'.isFro] at this
  rfl
 ·cases h
mutual
theorem vle_den (hH : HeapOk M φ H w) (hsub : ∀ b, Cellish w b -> ¬ mutB M φ H b -> ¬ mutB M' φ' H' b) (hφ : ∀ id, φ' id = match ρ id with | some j => φ j | none => .slice none 0 0)
 (hus : ∀ id, id < nx -> H'.us id) (hrow : ∀ id' id, ρ id' = some id -> (H'.o id').isRow = true -> (H.o id).isRow = true) :
 ∀ (x v : V) (val : Value), vle ρ H'.o H.o nx x v -> V.den (mutB M φ H) φ H w v val -> V.den (mutB M' φ' H') φ' H' w x val
 | .junk, _, _, _, _ => trivial
 | .d x, v, val, h, hd => D.den_mono (fun b hb hn => ⟨rfl, hsub b hb hn⟩) x val (froD_den hH (by simpa [vle] using h) hd)
 | .nils, v, val, h, hd => by simp only [vle] at h; subst h; exact hd
 | .agg cs, v, val, h, hd => by
   unfold vle at h
   split at h
   ·obtain ⟨a, rfl, hd, hf⟩ := hd
    exact ⟨a, rfl, vles_den hH hsub hφ hus hrow _ _ _ h hd, hf⟩
   ·exact h.elim
 | .tup cs, v, val, h, hd => by
   unfold vle at h
   split at h
   ·obtain ⟨a, rfl, hd⟩ := hd
    exact ⟨a, rfl, vles_den hH hsub hφ hus hrow _ _ _ h hd⟩
   ·exact h.elim
 | .ptr id' off', v, val, h, hd => by
   unfold vle at h
   split at h
   ·obtain ⟨h1, rfl, h3⟩ := h
    obtain ⟨g1, _, g3⟩ := hd
    refine ⟨g1, hus _ h3, fun hr => ?_⟩
    obtain ⟨b, k1, k2⟩ := g3 (hrow _ _ h1 hr)
    exact ⟨b, by rw [hφ, h1]; exact k1, k2⟩
   ·exact h.elim
 | .osl id' ep', v, val, h, hd => by
   unfold vle at h
   obtain ⟨h1, h2, h3⟩ := h
   split at h3
   ·simp only [V.den] at hd; subst hd
    refine ⟨rfl, hus _ h1, fun e he => ?_⟩
    rw [h2] at he; injection he with he; subst he
    exact ⟨Nat.le_refl _, fun _ => by rw [hφ, h3]⟩
   ·obtain ⟨g1, _, g3⟩ := hd
    refine ⟨g1, hus _ h1, fun e he => ?_⟩
    rw [h2] at he; injection he with he; subst he
    exact ⟨Nat.le_refl _, fun _ => by rw [hφ, h3.1]; exact (g3 _ h3.2).2 rfl⟩
   ·exact h3.elim
 | .pe id' ep' i' sz' off', v, val, h, hd => by
   unfold vle at h
   obtain ⟨h1, h2, h3⟩ := h
   split at h3
   ·obtain ⟨h3, h4, rfl, rfl, rfl⟩ := h3
    obtain ⟨g1, _, g3⟩ := hd
    refine ⟨g1, hus _ h1, fun e he => ?_⟩
    rw [h2] at he; injection he with he; subst he
    refine ⟨Nat.le_refl _, fun _ => ?_⟩
    obtain ⟨b, n, c, k1, k2⟩ := (g3 _ h4).2 rfl
    exact ⟨b, n, c, by rw [hφ, h3]; exact k1, k2⟩
   ·exact h3.elim
 | .pp cs off, v, val, h, hd => by
   simp only [vle] at h; subst h
   obtain ⟨a, ev, h1, h2, h3, h5, h4⟩ := hd
   exact ⟨a, ev, h1, h2, D.dens_mono (fun b hb hn => ⟨rfl, hsub b hb hn⟩) cs ev h3, h5, h4.mono (fun b hb hn => ⟨rfl, hsub b hb hn⟩)⟩
 | .func fn a b, v, val, h, hd => by
   unfold vle at h
   split at h
   ·obtain ⟨rfl, h1, h2⟩ := h
    obtain ⟨f, c, rfl, k1, k2⟩ := hd
    exact ⟨f, c, rfl, vles_den hH hsub hφ hus hrow _ _ _ h1 k1, vles_den hH hsub hφ hus hrow _ _ _ h2 k2⟩
   ·exact h.elim
 | .iface t x, v, val, h, hd => by
   unfold vle at h
   split at h
   ·obtain ⟨rfl, h1⟩ := h
    obtain ⟨u, rfl, k1⟩ := hd
    exact ⟨u, rfl, vle_den hH hsub hφ hus hrow _ _ _ h1 k1⟩
   ·exact h.elim
 | .csl es, v, val, h, hd => by
   simp only [vle] at h; subst h
   exact ⟨D.den_mono (fun b hb hn => ⟨rfl, hsub b hb hn⟩) (.sl es) val hd.1, hd.2⟩
 | .rsl id' off' n', v, val, h, hd => by
   unfold vle at h
   split at h
   ·obtain ⟨h1, rfl, rfl, h3⟩ := h
    obtain ⟨g1, _, g3⟩ := hd
    refine ⟨g1, hus _ h3, fun hr => ?_⟩
    obtain ⟨b, k1, k2⟩ := g3 (hrow _ _ h1 hr)
    exact ⟨b, by rw [hφ, h1]; exact k1, k2⟩
   ·exact h.elim
 | .mp id', v, val, h, hd => by
   unfold vle at h
   split at h
   ·obtain ⟨h1, h3⟩ := h
    obtain ⟨g1, _, g3⟩ := hd
    exact ⟨g1, hus _ h3, fun hr => by rw [hφ, h1]; exact g3 (hrow _ _ h1 hr)⟩
   ·exact h.elim
 | .anyb, v, val, h, hd => by
   unfold vle at h
   rcases h with rfl | ⟨b, rfl⟩
   ·exact hd
   ·exact ⟨b, hd⟩
 | .yld id', v, val, h, hd => by
   unfold vle at h
   split at h
   ·obtain ⟨h1, h3⟩ := h
    obtain ⟨g1, _, g3⟩ := hd
    refine ⟨g1, hus _ h3, fun hr => ?_⟩
    obtain ⟨b, k1, k2⟩ := g3 (hrow _ _ h1 hr)
    exact ⟨b, by rw [hφ, h1]; exact k1, k2⟩
   ·exact h.elim
theorem vles_den (hH : HeapOk M φ H w) (hsub : ∀ b, Cellish w b -> ¬ mutB M φ H b -> ¬ mutB M' φ' H' b) (hφ : ∀ id, φ' id = match ρ id with | some j => φ j | none => .slice none 0 0)
 (hus : ∀ id, id < nx -> H'.us id) (hrow : ∀ id' id, ρ id' = some id -> (H'.o id').isRow = true -> (H.o id).isRow = true) :
 ∀ (xs vs : List V) (vals : List Value), vles ρ H'.o H.o nx xs vs -> V.dens (mutB M φ H) φ H w vs vals -> V.dens (mutB M' φ' H') φ' H' w xs vals
 | [], vs, vals, h, hd => by simp only [vles] at h; subst h; exact hd
 | x :: xs, vs, vals, h, hd => by
   unfold vles at h
   split at h
   ·obtain ⟨u, us, rfl, k1, k2⟩ := hd
    exact ⟨u, us, rfl, vle_den hH hsub hφ hus hrow _ _ _ h.1 k1, vles_den hH hsub hφ hus hrow _ _ _ h.2 k2⟩
   ·exact h.elim
end
theorem heap_sub (hH : HeapOk M φ H w) {o' : Nat -> Obj'} (ho : ∀ id, objLe ρ o' H.o nx id) (hfr : ∀ id, nx <= id -> o' id = .no)
 (hinj : ∀ i j k, (o' i).live = true -> (o' j).live = true -> ρ i = some k -> ρ j = some k -> i = j)
 (hM : ∀ b, M' b -> mutB M φ H b) (hMlt : ∀ b, M' b -> b < w.heap.size) (hMapart : ∀ b, M' b -> ¬ liveB (fun id => match ρ id with | some j => φ j | none => .slice none 0 0) ⟨o', fun id => id < nx⟩ b) :
 let φ' : Place := fun id => match ρ id with | some j => φ j | none => .slice none 0 0
 let H' : Hp := ⟨o', fun id => id < nx⟩
 HeapOk M' φ' H' w /\ (∀ b, liveB φ' H' b -> liveB φ H b) /\ (∀ b, Cellish w b -> ¬ mutB M φ H b -> ¬ mutB M' φ' H' b) /\
  (∀ x v val, vle ρ o' H.o nx x v -> V.den (mutB M φ H) φ H w v val -> V.den (mutB M' φ' H') φ' H' w x val) := by
 intro φ' H'
 have hrow : ∀ id' id, ρ id' = some id -> (H'.o id').isRow = true -> (H.o id).isRow = true := by
  intro id' id h1 h2
  have h3 := ho id'
  unfold objLe at h3
  simp only [H'] at h2
  split at h3
  ·rename_i e; rw [e] at h2; cases h2
  ·rw [h1] at h3
   simp only at h3
   split at h3
   ·rename_i e; rw [e]; rfl
   ·exact h3.elim
  ·rename_i e; rw [e] at h2; cases h2
  ·rename_i e; rw [e] at h2; cases h2
  ·rw [h1] at h3
   simp only at h3
   split at h3
   ·rename_i e; rw [e]; rfl
   ·exact h3.elim
  ·rw [h1] at h3
   simp only at h3
   split at h3
   ·rename_i e; rw [e]; rfl
   ·exact h3.elim
  ·rw [h1] at h3
   simp only at h3
   split at h3
   ·rename_i e; rw [e]; rfl
   ·exact h3.elim
  ·rw [h1] at h3
   simp only at h3
   split at h3
   ·rename_i e; rw [e]; rfl
   ·exact h3.elim
  ·rw [h1] at h3
   simp only at h3
   split at h3
   ·rename_i e; rw [e]; rfl
   ·exact h3.elim
 have hlive : ∀ id' b, (o' id').live = true -> blk (φ' id') = some b -> ∃ id, ρ id' = some id /\ (H.o id).live = true /\ blk (φ id) = some b := by
  intro id' b h1 h2
  have h3 := ho id'
  unfold objLe at h3
  simp only [φ'] at h2
  split at h3
  ·rename_i e; rw [e] at h1; cases h1
  ·cases hr : ρ id' with
   | none => rw [hr] at h3; exact h3.elim
   | some id =>
     rw [hr] at h3 h2
     simp only at h3 h2
     split at h3
     ·rename_i e; exact ⟨id, rfl, by rw [e]; rfl, h2⟩
     ·exact h3.elim
  ·cases hr : ρ id' with
   | none => rw [hr] at h2; simp [blk] at h2
   | some id =>
     rw [hr] at h3 h2
     simp only at h3 h2
     split at h3
     ·rename_i e; exact ⟨id, rfl, by rw [e]; rfl, h2⟩
     ·exact h3.elim
  ·rename_i e; rw [e] at h1; cases h1
  ·cases hr : ρ id' with
   | none => rw [hr] at h3; exact h3.elim
   | some id =>
     rw [hr] at h3 h2
     simp only at h3 h2
     split at h3
     ·rename_i e; exact ⟨id, rfl, by rw [e]; rfl, h2⟩
     ·exact h3.elim
  ·cases hr : ρ id' with
   | none => rw [hr] at h3; exact h3.elim
   | some id =>
     rw [hr] at h3 h2
     simp only at h3 h2
     split at h3
     ·rename_i e; exact ⟨id, rfl, by rw [e]; rfl, h2⟩
     ·exact h3.elim
  ·rename_i e; rw [e] at h1; cases h1
  ·cases hr : ρ id' with
   | none => rw [hr] at h3; exact h3.elim
   | some id =>
     rw [hr] at h3 h2
     simp only at h3 h2
     split at h3
     ·rename_i e; exact ⟨id, rfl, by rw [e]; rfl, h2⟩
     ·exact h3.elim
  ·cases hr : ρ id' with
   | none => rw [hr] at h3; exact h3.elim
   | some id =>
     rw [hr] at h3 h2
     simp only at h3 h2
     split at h3
     ·rename_i e; exact ⟨id, rfl, by rw [e]; rfl, h2⟩
     ·exact h3.elim
 have hlb : ∀ b, liveB φ' H' b -> liveB φ H b := by
  rintro b ⟨id', h1, h2⟩
  obtain ⟨id, _, h3, h4⟩ := hlive id' b h1 h2
  exact ⟨id, h3, h4⟩
 have hmut : ∀ b, mutB M' φ' H' b -> mutB M φ H b := by
  rintro b (h | h)
  ·exact hM b h
  ·exact .inr (hlb b h)
 have hsub : ∀ b, Cellish w b -> ¬ mutB M φ H b -> ¬ mutB M' φ' H' b := fun b _ h k => h (hmut b k)
 have hvs := vles_den (M' := M') (φ' := φ') (H' := H') (ρ := ρ) (nx := nx) hH hsub (fun _ => rfl) (fun _ h => h) hrow
 refine ⟨⟨fun id' => ?_, fun id hn => hfr id (by simpa [H'] using hn), fun i j b h1 h2 h3 h4 => ?_, fun b hb => ⟨fun hm => hMapart b hm hb, (hH.ours b (hlb b hb)).2⟩, hMlt⟩, hlb, hsub,
  vle_den (M' := M') (φ' := φ') (H' := H') (ρ := ρ) (nx := nx) hH hsub (fun _ => rfl) (fun _ h => h) hrow⟩
 ·have h3 := ho id'
  unfold objLe at h3
  unfold ObjOk
  simp only [H']
  split at h3
  ·rename_i e; rw [e]; trivial
  ·rename_i cs' e
   rw [e]
   cases hr : ρ id' with
   | none => rw [hr] at h3; exact h3.elim
   | some id =>
     rw [hr] at h3
     simp only at h3
     split at h3
     ·rename_i cs e2
      have := hH.ok id
      unfold ObjOk at this
      rw [e2] at this
      obtain ⟨b, carr, ty, k1, k2, k3, k4⟩ := this
      exact ⟨b, carr, ty, by simp only [φ', hr]; exact k1, k2, hvs _ _ _ h3 k3, k4⟩
     ·exact h3.elim
  ·rename_i ep ty sz es e
   rw [e]
   cases hr : ρ id' with
   | none =>
     rw [hr] at h3
     obtain ⟨rfl, h4⟩ := h3
     exact ⟨h4, [], by simp only [φ', hr]; exact World.ownsRow_nil _ _ _ _, [], by simp, by simp, rfl⟩
   | some id =>
     rw [hr] at h3
     simp only at h3
     split at h3
     ·rename_i e2
      obtain ⟨rfl, rfl, rfl⟩ := h3
      have := hH.ok id
      unfold ObjOk at this
      rw [e2] at this
      obtain ⟨k1, xs, k2, evs, k3, k4, k5⟩ := this
      exact ⟨k1, xs, by simp only [φ', hr]; exact k2, evs, k3, k4, D.dens_mono (fun b hb hn => ⟨rfl, hsub b hb hn⟩) _ _ k5⟩
     ·exact h3.elim
  ·rename_i ep es e
   rw [e]
   cases hr : ρ id' with
   | none => rw [hr] at h3; exact h3.elim
   | some id =>
     rw [hr] at h3
     simp only at h3
     split at h3
     ·rename_i e2
      subst h3
      have := hH.ok id
      unfold ObjOk at this
      rw [e2] at this
      simp only [φ', hr]
      exact D.den_mono (fun b hb hn => ⟨rfl, hsub b hb hn⟩) _ _ this
     ·exact h3.elim
  ·rename_i kt vt l e
   rw [e]
   cases hr : ρ id' with
   | none => rw [hr] at h3; exact h3.elim
   | some id =>
     rw [hr] at h3
     simp only at h3
     split at h3
     ·rename_i e2
      obtain ⟨rfl, rfl, rfl⟩ := h3
      have := hH.ok id
      unfold ObjOk at this
      rw [e2] at this
      obtain ⟨b, es, clock, k1, k2, k4, k3⟩ := this
      exact ⟨b, es, clock, by simp only [φ', hr]; exact k1, k2, k4, EntsDen.mono (fun b hb hn => ⟨rfl, hsub b hb hn⟩) _ _ k3⟩
     ·exact h3.elim
  ·rename_i nf n env ps a b st pd e
   rw [e]
   cases hr : ρ id' with
   | none => rw [hr] at h3; exact h3.elim
   | some id =>
     rw [hr] at h3
     simp only at h3
     split at h3
     ·rename_i e2
      obtain ⟨rfl, rfl, rfl, rfl, rfl, rfl, rfl, hv⟩ := h3
      have := hH.ok id
      unfold ObjOk at this
      rw [e2] at this
      obtain ⟨b, r, k1, k2, k3, k4, k5, k6, k7, k8, k9, k10⟩ := this
      refine ⟨b, r, by simp only [φ', hr]; exact k1, k2, k3, k4, k5, k6, k7, k8, k9, fun i => ?_⟩
      have key : ∀ (xs vs : List V), vles ρ o' H.o nx xs vs -> ∀ i, vle ρ o' H.o nx (envJ xs i) (envJ vs i) := by
       intro xs
       induction xs with
       | nil => intro vs hv i; simp [envJ, vle]
       | cons x xs ih =>
         intro vs hv i
         unfold vles at hv
         split at hv
         ·cases i with
          | zero => exact hv.1
          | succ i => exact ih _ hv.2 i
         ·exact hv.elim
      exact vle_den (M' := M') (φ' := φ') (H' := H') (ρ := ρ) (nx := nx) hH hsub (fun _ => rfl) (fun _ h => h) hrow _ _ _ (key _ _ hv i) (k10 i)
     ·exact h3.elim
  ·rename_i l e
   rw [e]
   cases hr : ρ id' with
   | none => rw [hr] at h3; exact h3.elim
   | some id =>
     rw [hr] at h3
     simp only at h3
     split at h3
     ·rename_i e2
      subst h3
      have := hH.ok id
      unfold ObjOk at this
      rw [e2] at this
      simp only [φ', hr]
      exact D.den_mono (fun b hb hn => ⟨rfl, hsub b hb hn⟩) _ _ this
     ·exact h3.elim
  ·rename_i l last e
   rw [e]
   cases hr : ρ id' with
   | none => rw [hr] at h3; exact h3.elim
   | some id =>
     rw [hr] at h3
     simp only at h3
     split at h3
     ·rename_i last' e2
      obtain ⟨rfl, h3⟩ := h3
      have := hH.ok id
      unfold ObjOk at this
      rw [e2] at this
      obtain ⟨b, k1, k2⟩ := this
      have k3 : IterOk (mutB M' φ' H') w l last' b := k2.mono (fun b hb hn => ⟨rfl, hsub b hb hn⟩) rfl
      refine ⟨b, by simp only [φ', hr]; exact k1, ?_⟩
      rcases h3 with rfl | rfl
      ·rcases k3 with ⟨a1, a2, _⟩ | ⟨m, since, seen, es, a1, a2, a3, a4, a5, _⟩
       ·exact .inl ⟨a1, a2, rfl⟩
       ·exact .inr ⟨m, since, seen, es, a1, a2, a3, a4, a5, fun _ _ e => by cases e⟩
      ·exact k3
     ·exact h3.elim
  ·rename_i s pos e
   rw [e]
   cases hr : ρ id' with
   | none => rw [hr] at h3; exact h3.elim
   | some id =>
     rw [hr] at h3
     simp only at h3
     split at h3
     ·rename_i e2
      obtain ⟨rfl, rfl⟩ := h3
      have := hH.ok id
      unfold ObjOk at this
      rw [e2] at this
      obtain ⟨b, k1, k2⟩ := this
      exact ⟨b, by simp only [φ', hr]; exact k1, k2⟩
     ·exact h3.elim
 ·obtain ⟨k1, g1, g2, g3⟩ := hlive i b h1 h3
  obtain ⟨k2, g4, g5, g6⟩ := hlive j b h2 h4
  have := hH.apart k1 k2 b g2 g5 g3 g6
  subst this
  exact hinj i j k1 h1 h2 g1 g4
theorem SLe.of_map {b : Nat} {s s' : S} (ρ : Nat -> Option Nat) (hb : b <= s'.nx) (ho : ∀ id, objLe ρ s'.o s.o s'.nx id) (hfr : ∀ id, s'.nx <= id -> s'.o id = .no)
 (hinj : ∀ i j k, (s'.o i).live = true -> (s'.o j).live = true -> ρ i = some k -> ρ j = some k -> i = j)
 (hlow : ∀ id, id < b -> ρ id = some id /\ (∀ e', (s'.o id).epoch = some e' -> ∃ e, (s.o id).epoch = some e /\ e <= e')) (henv : ∀ i, vle ρ s'.o s.o s'.nx (s'.env i) (s.env i)) : SLe b s s' := by
 intro M φ w tm hH he
 obtain ⟨h1, h2, _, h4⟩ := heap_sub (M' := M) (ρ := ρ) (nx := s'.nx) hH (o' := s'.o) ho hfr hinj (fun b hb => .inl hb) hH.old (fun b hb hl => by
  have : liveB φ s.H b := by
   obtain ⟨id', g1, g2⟩ := hl
   have h3 := ho id'
   unfold objLe at h3
   simp only at g1 g2
   split at h3
   ·rename_i e; rw [e] at g1; cases g1
   ·cases hr : ρ id' with
    | none => rw [hr] at h3; exact h3.elim
    | some id =>
      rw [hr] at h3 g2
      simp only at h3 g2
      split at h3
      ·rename_i e; exact ⟨id, by simp only [S.H]; rw [e]; rfl, g2⟩
      ·exact h3.elim
   ·cases hr : ρ id' with
    | none => rw [hr] at g2; simp [blk] at g2
    | some id =>
      rw [hr] at h3 g2
      simp only at h3 g2
      split at h3
      ·rename_i e; exact ⟨id, by simp only [S.H]; rw [e]; rfl, g2⟩
      ·exact h3.elim
   ·rename_i e; rw [e] at g1; cases g1
   ·cases hr : ρ id' with
    | none => rw [hr] at h3; exact h3.elim
    | some id =>
      rw [hr] at h3 g2
      simp only at h3 g2
      split at h3
      ·rename_i e; exact ⟨id, by simp only [S.H]; rw [e]; rfl, g2⟩
      ·exact h3.elim
   ·cases hr : ρ id' with
    | none => rw [hr] at h3; exact h3.elim
    | some id =>
      rw [hr] at h3 g2
      simp only at h3 g2
      split at h3
      ·rename_i e; exact ⟨id, by simp only [S.H]; rw [e]; rfl, g2⟩
      ·exact h3.elim
   ·rename_i e; rw [e] at g1; cases g1
   ·cases hr : ρ id' with
    | none => rw [hr] at h3; exact h3.elim
    | some id =>
      rw [hr] at h3 g2
      simp only at h3 g2
      split at h3
      ·rename_i e; exact ⟨id, by simp only [S.H]; rw [e]; rfl, g2⟩
      ·exact h3.elim
   ·cases hr : ρ id' with
    | none => rw [hr] at h3; exact h3.elim
    | some id =>
      rw [hr] at h3 g2
      simp only at h3 g2
      split at h3
      ·rename_i e; exact ⟨id, by simp only [S.H]; rw [e]; rfl, g2⟩
      ·exact h3.elim
  exact (hH.ours b this).1 hb)
 refine ⟨_, h1, fun i => h4 _ _ _ (henv i) (he i), h2, hb, fun id hid hr => ?_, fun id e' hid he' => ?_⟩
 ·obtain ⟨g1, _⟩ := hlow id hid
  refine ⟨?_, by simp only [g1]⟩
  have h3 := ho id
  unfold objLe at h3
  rw [g1] at h3
  split at h3
  ·rename_i e; rw [e] at hr; cases hr
  ·simp only at h3
   split at h3
   ·rename_i e; rw [e]; rfl
   ·exact h3.elim
  ·rename_i e; rw [e] at hr; cases hr
  ·rename_i e; rw [e] at hr; cases hr
  ·simp only at h3
   split at h3
   ·rename_i e; rw [e]; rfl
   ·exact h3.elim
  ·simp only at h3
   split at h3
   ·rename_i e; rw [e]; rfl
   ·exact h3.elim
  ·simp only at h3
   split at h3
   ·rename_i e; rw [e]; rfl
   ·exact h3.elim
  ·simp only at h3
   split at h3
   ·rename_i e; rw [e]; rfl
   ·exact h3.elim
  ·simp only at h3
   split at h3
   ·rename_i e; rw [e]; rfl
   ·exact h3.elim
 ·obtain ⟨g1, g2⟩ := hlow id hid
  obtain ⟨e, g3, g4⟩ := g2 e' he'
  exact ⟨e, g3, g4, fun _ => by simp only [g1]⟩
end
end Go.Proofs.YtealblliddhgiaaGreat
