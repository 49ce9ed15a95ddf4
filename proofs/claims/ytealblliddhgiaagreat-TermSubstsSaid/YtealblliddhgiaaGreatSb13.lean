/-
  A PART OF THE PROOF. Conditions: none.
-/
import Derived.Test.YtealblliddhgiaaGreatSb12
set_option linter.unusedSimpArgs false
set_option linter.unusedVariables false
namespace Go.Proofs.YtealblliddhgiaaGreat
inductive Tr (α : Type) where
 | e (f : Nat -> α)
 | n (x : α) (l r : Tr α)
noncomputable def Tr.get {α : Type} (t : Tr α) : Nat -> α :=
 Tr.rec (motive := fun _ => Nat -> α) (fun f => f) (fun x _ _ l r k => Bool.rec (Bool.rec (r (Nat.sub (Nat.div k 2) 1)) (l (Nat.div k 2)) (Nat.beq (Nat.mod k 2) 1)) x (Nat.beq k 0)) t
theorem Tr.get_e {α : Type} (f : Nat -> α) : (Tr.e f).get = f := rfl
noncomputable def Tr.setN {α : Type} (x : α) : Nat -> Tr α -> Nat -> Tr α
 | 0, t, k => .e (upd t.get k x)
 | d + 1, .e f, k => match Nat.beq k 0 with
   | true => .n x (.e fun i => f (2 * i + 1)) (.e fun i => f (2 * i + 2))
   | false => match Nat.beq (k % 2) 1 with
     | true => .n (f 0) (Tr.setN x d (.e fun i => f (2 * i + 1)) (k / 2)) (.e fun i => f (2 * i + 2))
     | false => .n (f 0) (.e fun i => f (2 * i + 1)) (Tr.setN x d (.e fun i => f (2 * i + 2)) (k / 2 - 1))
 | d + 1, .n y l r, k => match Nat.beq k 0 with
   | true => .n x l r
   | false => match Nat.beq (k % 2) 1 with
     | true => .n y (Tr.setN x d l (k / 2)) r
     | false => .n y l (Tr.setN x d r (k / 2 - 1))
noncomputable def Tr.set {α : Type} (t : Tr α) (k : Nat) (x : α) : Tr α := Tr.setN x 24 t k
theorem Tr.get_n {α : Type} {x : α} {l r : Tr α} {k : Nat} : (Tr.n x l r).get k = if k = 0 then x else if k % 2 = 1 then l.get (k / 2) else r.get (k / 2 - 1) := by
 show @Bool.rec (fun _ => α) (@Bool.rec (fun _ => α) (r.get (k / 2 - 1)) (l.get (k / 2)) (Nat.beq (k % 2) 1)) x (Nat.beq k 0) = _
 by_cases h : k = 0
 ·subst h; rfl
 ·have : Nat.beq k 0 = false := by cases k with | zero => exact absurd rfl h | succ k => rfl
  simp only [this, h, if_false]
  by_cases h2 : k % 2 = 1
  ·simp [h2]
  ·have : Nat.beq (k % 2) 1 = false := by
    cases hb : Nat.beq (k % 2) 1 with
    | false => rfl
    | true => exact absurd (Nat.eq_of_beq_eq_true hb) h2
   simp [h2, this]
theorem Tr.get_setN {α : Type} (x : α) : ∀ (d : Nat) (t : Tr α) (k : Nat), (Tr.setN x d t k).get = upd t.get k x
 | 0, t, k => rfl
 | d + 1, .e f, k => by
   funext i
   simp only [Tr.setN]
   have hb : ∀ a b : Nat, Nat.beq a b = decide (a = b) := fun a b => by
    cases h : Nat.beq a b with
    | true => simp [Nat.eq_of_beq_eq_true h]
    | false => simp [Nat.ne_of_beq_eq_false h]
   rw [hb, hb]
   by_cases h : k = 0
   ·subst h
    simp only [decide_true, Tr.get_n, upd_apply]
    by_cases hi : i = 0
    ·simp [hi]
    ·simp only [hi, if_false]
     by_cases h2 : i % 2 = 1
     ·simp only [h2, if_true, Tr.get_e]; congr 1; omega
     ·simp only [h2, if_false, Tr.get_e]; congr 1; omega
   ·simp only [h, decide_false]
    by_cases hk : k % 2 = 1
    ·simp only [hk, decide_true, Tr.get_n, Tr.get_setN x d, upd_apply, Tr.get_e]
     by_cases hi : i = 0
     ·subst hi; simp [Ne.symm h]
     ·simp only [hi, if_false]
      by_cases h2 : i % 2 = 1
      ·simp only [h2, if_true]
       have e1 : 2 * (i / 2) + 1 = i := by omega
       rw [e1]
       by_cases e : i = k
       ·simp [e]
       ·rw [if_neg e, if_neg (by omega)]
      ·simp only [h2, if_false]
       rw [if_neg (by intro e; subst e; exact h2 hk)]
       congr 1; omega
    ·simp only [hk, decide_false, Tr.get_n, Tr.get_setN x d, upd_apply, Tr.get_e]
     by_cases hi : i = 0
     ·subst hi; simp [Ne.symm h]
     ·simp only [hi, if_false]
      by_cases h2 : i % 2 = 1
      ·simp only [h2, if_true]
       rw [if_neg (by intro e; subst e; exact hk h2)]
       congr 1; omega
      ·simp only [h2, if_false]
       have e1 : 2 * (i / 2 - 1) + 2 = i := by omega
       rw [e1]
       by_cases e : i = k
       ·simp [e]
       ·rw [if_neg e, if_neg (by omega)]
 | d + 1, .n y l r, k => by
   funext i
   simp only [Tr.setN]
   have hb : ∀ a b : Nat, Nat.beq a b = decide (a = b) := fun a b => by
    cases h : Nat.beq a b with
    | true => simp [Nat.eq_of_beq_eq_true h]
    | false => simp [Nat.ne_of_beq_eq_false h]
   rw [hb, hb]
   by_cases h : k = 0
   ·subst h
    simp only [decide_true, Tr.get_n, upd_apply]
    by_cases hi : i = 0
    ·simp [hi]
    ·simp [hi]
   ·simp only [h, decide_false]
    by_cases hk : k % 2 = 1
    ·simp only [hk, decide_true, Tr.get_n, Tr.get_setN x d, upd_apply]
     by_cases hi : i = 0
     ·subst hi; simp [Ne.symm h]
     ·simp only [hi, if_false]
      by_cases h2 : i % 2 = 1
      ·simp only [h2, if_true]
       by_cases e : i = k
       ·simp [e]
       ·rw [if_neg e, if_neg (by omega)]
      ·simp only [h2, if_false]
       rw [if_neg (by intro e; subst e; exact h2 hk)]
    ·simp only [hk, decide_false, Tr.get_n, Tr.get_setN x d, upd_apply]
     by_cases hi : i = 0
     ·subst hi; simp [Ne.symm h]
     ·simp only [hi, if_false]
      by_cases h2 : i % 2 = 1
      ·simp only [h2, if_true]
       rw [if_neg (by intro e; subst e; exact hk h2)]
      ·simp only [h2, if_false]
       by_cases e : i = k
       ·simp [e]
       ·rw [if_neg e, if_neg (by omega)]
theorem Tr.get_set {α : Type} (t : Tr α) (k : Nat) (x : α) : (t.set k x).get = upd t.get k x := Tr.get_setN x 24 t k
noncomputable def Nat.fc {β : Type} (n : Nat) (c : Nat -> β) : β := Nat.rec (motive := fun _ => β) (c 0) (fun m _ => c (Nat.succ m)) n
theorem Nat.fc_eq {β : Type} (n : Nat) (c : Nat -> β) : Nat.fc n c = c n := by cases n <;> rfl
noncomputable def Int.fc {β : Type} (n : Int) (c : Int -> β) : β := Int.rec (motive := fun _ => β) (fun m => Nat.fc m fun m => c (.ofNat m)) (fun m => Nat.fc m fun m => c (.negSucc m)) n
theorem Int.fc_eq {β : Type} (n : Int) (c : Int -> β) : Int.fc n c = c n := by cases n <;> simp only [Int.fc, Nat.fc_eq]
mutual
noncomputable def D.fc {β : Type} : D -> (D -> β) -> β
 | .int k n, c => Int.fc n fun n => c (.int k n)
 | .bool b, c => match b with | true => c (.bool true) | false => c (.bool false)
 | .agg l, c => D.fcs l fun l => c (.agg l)
 | .sl l, c => D.fcs l fun l => c (.sl l)
 | .iface t x, c => D.fc x fun x => c (.iface t x)
 | .str s, c => c (.str s)
 | .nili, c => c .nili
 | .nilp, c => c .nilp
 | .nilf, c => c .nilf
 | .nilm, c => c .nilm
 | .mp ks vs, c => D.fcs ks fun ks => D.fcs vs fun vs => c (.mp ks vs)
noncomputable def D.fcs {β : Type} : List D -> (List D -> β) -> β
 | [], c => c []
 | x :: xs, c => D.fc x fun x => D.fcs xs fun xs => c (x :: xs)
end
mutual
theorem D.fc_eq {β : Type} : ∀ (x : D) (c : D -> β), D.fc x c = c x
 | .int k n, c => by simp only [D.fc, Int.fc_eq]
 | .bool b, c => by cases b <;> rfl
 | .agg l, c => by simp only [D.fc, D.fcs_eq l]
 | .sl l, c => by simp only [D.fc, D.fcs_eq l]
 | .iface t x, c => by simp only [D.fc, D.fc_eq x]
 | .mp ks vs, c => by simp only [D.fc, D.fcs_eq ks, D.fcs_eq vs]
 | .str _, _ | .nili, _ | .nilp, _ | .nilf, _ | .nilm, _ => by simp only [D.fc]
theorem D.fcs_eq {β : Type} : ∀ (x : List D) (c : List D -> β), D.fcs x c = c x
 | [], c => by simp only [D.fcs]
 | x :: xs, c => by simp only [D.fcs, D.fc_eq x, D.fcs_eq xs]
end
mutual
noncomputable def V.fc {β : Type} : V -> (V -> β) -> β
 | .d x, c => D.fc x fun x => c (.d x)
 | .agg l, c => V.fcs l fun l => c (.agg l)
 | .tup l, c => V.fcs l fun l => c (.tup l)
 | .ptr i o, c => Nat.fc i fun i => Nat.fc o fun o => c (.ptr i o)
 | .osl i o, c => Nat.fc i fun i => Nat.fc o fun o => c (.osl i o)
 | .pe a b i j k, c => Nat.fc a fun a => Nat.fc b fun b => Nat.fc i fun i => Nat.fc j fun j => Nat.fc k fun k => c (.pe a b i j k)
 | .pp l o, c => D.fcs l fun l => Nat.fc o fun o => c (.pp l o)
 | .func f a b, c => V.fcs a fun a => V.fcs b fun b => c (.func f a b)
 | .iface t x, c => V.fc x fun x => c (.iface t x)
 | .csl l, c => D.fcs l fun l => c (.csl l)
 | .rsl i j k, c => Nat.fc i fun i => Nat.fc j fun j => Nat.fc k fun k => c (.rsl i j k)
 | .mp i, c => Nat.fc i fun i => c (.mp i)
 | .yld i, c => Nat.fc i fun i => c (.yld i)
 | .nils, c => c .nils
 | .junk, c => c .junk
 | .anyb, c => c .anyb
noncomputable def V.fcs {β : Type} : List V -> (List V -> β) -> β
 | [], c => c []
 | x :: xs, c => V.fc x fun x => V.fcs xs fun xs => c (x :: xs)
end
mutual
theorem V.fc_eq {β : Type} : ∀ (x : V) (c : V -> β), V.fc x c = c x
 | .d x, c => by simp only [V.fc, D.fc_eq]
 | .agg l, c => by simp only [V.fc, V.fcs_eq l]
 | .tup l, c => by simp only [V.fc, V.fcs_eq l]
 | .pp l o, c => by simp only [V.fc, D.fcs_eq, Nat.fc_eq]
 | .func f a b, c => by simp only [V.fc, V.fcs_eq a, V.fcs_eq b]
 | .iface t x, c => by simp only [V.fc, V.fc_eq x]
 | .csl l, c => by simp only [V.fc, D.fcs_eq]
 | .ptr _ _, _ | .osl _ _, _ | .pe _ _ _ _ _, _ | .rsl _ _ _, _ | .mp _, _ | .yld _, _ | .nils, _ | .junk, _ | .anyb, _ => by simp only [V.fc, Nat.fc_eq]
theorem V.fcs_eq {β : Type} : ∀ (x : List V) (c : List V -> β), V.fcs x c = c x
 | [], c => by simp only [V.fcs]
 | x :: xs, c => by simp only [V.fcs, V.fc_eq x, V.fcs_eq xs]
end
section
variable {β : Type}
noncomputable def dInt (k : IntKind) (n : Int) (c : V -> β) : β := Int.fc n fun n => c (.d (.int k n))
noncomputable def dBool (b : Bool) (c : V -> β) : β := @Bool.rec (fun _ => β) (c (.d (.bool false))) (c (.d (.bool true))) b
noncomputable def dOther (x : D) (c : V -> β) : β := D.fc x fun x => c (.d x)
noncomputable def vD (x : D) : (V -> β) -> β := match x with | .int k n => dInt k n | .bool b => dBool b | x => dOther x
noncomputable def vPtr (i o : Nat) (c : V -> β) : β := Nat.fc i fun i => Nat.fc o fun o => c (.ptr i o)
noncomputable def vOsl (i o : Nat) (c : V -> β) : β := Nat.fc i fun i => Nat.fc o fun o => c (.osl i o)
noncomputable def vPe (a b i j k : Nat) (c : V -> β) : β := Nat.fc a fun a => Nat.fc b fun b => Nat.fc i fun i => Nat.fc j fun j => Nat.fc k fun k => c (.pe a b i j k)
noncomputable def V.fck (v : V) : (V -> β) -> β := match v with | .d x => vD x | .ptr i o => vPtr i o | .osl i o => vOsl i o | .pe a b i j k => vPe a b i j k | v => V.fc v
theorem V.fck_eq (v : V) (c : V -> β) : V.fck v c = c v := by
 cases v
 case d x =>
  cases x
  case int k n => simp only [V.fck, vD, dInt, Int.fc_eq]
  case bool b => cases b <;> rfl
  all_goals exact D.fc_eq _ _
 case ptr i o => simp only [V.fck, vPtr, Nat.fc_eq]
 case osl i o => simp only [V.fck, vOsl, Nat.fc_eq]
 case pe a b i j k => simp only [V.fck, vPe, Nat.fc_eq]
 all_goals exact V.fc_eq _ _
end
noncomputable def pfc {β : Type} : List (D × D) -> (List (D × D) -> β) -> β
 | [], c => c []
 | (a, b) :: l, c => D.fc a fun a => D.fc b fun b => pfc l fun l => c ((a, b) :: l)
theorem pfc_eq {β : Type} : ∀ (x : List (D × D)) (c : List (D × D) -> β), pfc x c = c x
 | [], c => rfl
 | (a, b) :: l, c => by simp only [pfc, D.fc_eq, pfc_eq l]
noncomputable def Obj'.fc {β : Type} (x : Obj') (c : Obj' -> β) : β :=
 match x with
 | .row cs => V.fcs cs fun cs => c (.row cs)
 | .arr e t s es => Nat.fc e fun e => Nat.fc s fun s => D.fcs es fun es => c (.arr e t s es)
 | .fro e es => Nat.fc e fun e => D.fcs es fun es => c (.fro e es)
 | .map kt vt l => pfc l fun l => c (.map kt vt l)
 | .mfro l => pfc l fun l => c (.mfro l)
 | .mit l last => pfc l fun l => c (.mit l last)
 | .sit l pos => Nat.fc pos fun pos => c (.sit l pos)
 | x => c x
theorem Obj'.fc_eq {β : Type} (x : Obj') (c : Obj' -> β) : Obj'.fc x c = c x := by cases x <;> simp only [Obj'.fc, V.fcs_eq, D.fcs_eq, Nat.fc_eq, pfc_eq]
noncomputable def Tr.setNc {α β : Type} (x : α) (d : Nat) : Tr α -> Nat -> (Tr α -> β) -> β :=
 Nat.rec (motive := fun _ => Tr α -> Nat -> (Tr α -> β) -> β) (fun t k c => c (.e (upd t.get k x)))
  (fun _ ih t k c => Tr.rec (motive := fun _ => β) (fun f =>
   Bool.rec (Bool.rec (ih (.e fun i => f (2 * i + 2)) (Nat.sub (Nat.div k 2) 1) fun r => c (.n (f 0) (.e fun i => f (2 * i + 1)) r)) (ih (.e fun i => f (2 * i + 1)) (Nat.div k 2) fun l => c (.n (f 0) l (.e fun i => f (2 * i + 2)))) (Nat.beq (Nat.mod k 2) 1))
    (c (.n x (.e fun i => f (2 * i + 1)) (.e fun i => f (2 * i + 2)))) (Nat.beq k 0))
   (fun y l r _ _ => Bool.rec (Bool.rec (ih r (Nat.sub (Nat.div k 2) 1) fun r => c (.n y l r)) (ih l (Nat.div k 2) fun l => c (.n y l r)) (Nat.beq (Nat.mod k 2) 1)) (c (.n x l r)) (Nat.beq k 0)) t) d
theorem Tr.setNc_eq {α β : Type} (x : α) : ∀ (d : Nat) (t : Tr α) (k : Nat) (c : Tr α -> β), Tr.setNc x d t k c = c (Tr.setN x d t k)
 | 0, t, k, c => rfl
 | d + 1, .e f, k, c => by
   show @Bool.rec (fun _ => β) (@Bool.rec (fun _ => β) (Tr.setNc x d (.e fun i => f (2 * i + 2)) (k / 2 - 1) fun r => c (.n (f 0) (.e fun i => f (2 * i + 1)) r)) (Tr.setNc x d (.e fun i => f (2 * i + 1)) (k / 2) fun l => c (.n (f 0) l (.e fun i => f (2 * i + 2)))) (Nat.beq (k % 2) 1)) (c (.n x (.e fun i => f (2 * i + 1)) (.e fun i => f (2 * i + 2)))) (Nat.beq k 0) = _
   simp only [Tr.setN, Tr.setNc_eq x d]
   cases Nat.beq k 0
   ·cases Nat.beq (k % 2) 1 <;> rfl
   ·rfl
 | d + 1, .n y l r, k, c => by
   show @Bool.rec (fun _ => β) (@Bool.rec (fun _ => β) (Tr.setNc x d r (k / 2 - 1) fun r => c (.n y l r)) (Tr.setNc x d l (k / 2) fun l => c (.n y l r)) (Nat.beq (k % 2) 1)) (c (.n x l r)) (Nat.beq k 0) = _
   simp only [Tr.setN, Tr.setNc_eq x d]
   cases Nat.beq k 0
   ·cases Nat.beq (k % 2) 1 <;> rfl
   ·rfl
noncomputable def Tr.setc {α β : Type} (t : Tr α) (k : Nat) (x : α) (c : Tr α -> β) : β := Tr.setNc x 24 t k c
theorem Tr.setc_eq {α β : Type} (t : Tr α) (k : Nat) (x : α) (c : Tr α -> β) : t.setc k x c = c (t.set k x) := Tr.setNc_eq x 24 t k c
structure St where
 env : Tr V
 o : Tr Obj'
 nx : Nat
noncomputable def St.S (st : St) : S := ⟨st.env.get, st.o.get, st.nx⟩
noncomputable def putT (o : Tr Obj') (Δ : List (Nat × Obj')) : Tr Obj' := Δ.foldl (fun f x => f.set x.1 x.2) o
noncomputable def putET (env : Tr V) (dst : Option Tmp) (v : V) : Tr V := match dst with | some d => env.set d v | none => env
noncomputable def putTc {β : Type} (o : Tr Obj') : List (Nat × Obj') -> (Tr Obj' -> β) -> β
 | [], c => c o
 | (i, x) :: Δ, c => Obj'.fc x fun x => o.setc i x fun o => putTc o Δ c
theorem putTc_eq {β : Type} : ∀ (Δ : List (Nat × Obj')) (o : Tr Obj') (c : Tr Obj' -> β), putTc o Δ c = c (putT o Δ)
 | [], o, c => rfl
 | (i, x) :: Δ, o, c => by simp only [putTc, Obj'.fc_eq, Tr.setc_eq, putTc_eq Δ]; rfl
noncomputable def putETc {β : Type} (env : Tr V) (dst : Option Tmp) (v : V) (c : Tr V -> β) : β := match dst with | some d => V.fck v fun v => env.setc d v c | none => c env
theorem putETc_eq {β : Type} (env : Tr V) (dst : Option Tmp) (v : V) (c : Tr V -> β) : putETc env dst v c = c (putET env dst v) := by
 cases dst <;> simp only [putETc, putET, V.fck_eq, Tr.setc_eq]
theorem putT_get : ∀ (Δ : List (Nat × Obj')) (o : Tr Obj'), (putT o Δ).get = put o.get Δ
 | [], _ => rfl
 | x :: Δ, o => by
   simp only [putT, put, List.foldl_cons]
   have := putT_get Δ (o.set x.1 x.2)
   simp only [putT, put] at this
   rw [this, Tr.get_set]
theorem putET_get (env : Tr V) (dst : Option Tmp) (v : V) : (putET env dst v).get = putE env.get dst v := by
 cases dst <;> simp [putET, putE, Tr.get_set]
section Staged
def kMove (x : Operand) (_ : Program) (s : S) (_ : Nat) : Option Res := one (s.ev x)
def kPick (c a b : Operand) (_ : Program) (s : S) (_ : Nat) : Option Res := oneM (pickF (s.ev c) (s.ev a) (s.ev b))
def kBuild (t : TypeId) (parts : Array (Nat × Operand)) (P : Program) (s : S) (_ : Nat) : Option Res := oneM (buildF P t (parts.toList.map fun p => (p.1, s.ev p.2)))
def kBuildSlice (t : TypeId) (len : Nat) (parts : Array (Nat × Operand)) (P : Program) (s : S) (fr : Nat) : Option Res := buildSliceF P s.o fr t len (parts.toList.map fun p => (p.1, s.ev p.2))
def kLoad (t : TypeId) (x : Operand) (P : Program) (s : S) (_ : Nat) : Option Res := loadF P s.o t (s.ev x)
def kStore (t : TypeId) (x v : Operand) (P : Program) (s : S) (_ : Nat) : Option Res := storeF P s.o t (s.ev x) (s.ev v)
def kNil (x : Operand) (_ : Program) (s : S) (_ : Nat) : Option Res := oneM (nilCheckF s.o (s.ev x))
noncomputable def intK (op : BinOp) : IntKind -> Int -> Int -> Option V :=
 match op with
 | .add => fun k a b => some (.d (.int k (k.wrap (Int.add a b))))
 | .sub => fun k a b => some (.d (.int k (k.wrap (Int.sub a b))))
 | .mul => fun k a b => some (.d (.int k (k.wrap (Int.mul a b))))
 | op => intF op
theorem intK_eq (op : BinOp) : intK op = intF op := by cases op <;> rfl
def asInt (x : V) : Option (IntKind × Int) := match x with | .d (.int k a) => some (k, a) | _ => none
def binK2 (op : BinOp) (t : TypeId) (c : Bool) (x y : V) (P : Program) (o : Nat -> Obj') : Option Res := bin2F P o op t c x y
noncomputable def kBin (op : BinOp) (t : TypeId) (x y : Operand) (P : Program) (s : S) (_ : Nat) : Option Res :=
 match asInt (s.ev x) with
 | some (k, a) => match asInt (s.ev y) with
   | some (k', b) => if k = k' then match intK op k a b with
    | some v => some (v, [], [])
    | none => binK2 op t (isConst x || isConst y) (s.ev x) (s.ev y) P s.o
     else none
   | none => binK2 op t (isConst x || isConst y) (s.ev x) (s.ev y) P s.o
 | none => binK2 op t (isConst x || isConst y) (s.ev x) (s.ev y) P s.o
theorem asInt_eq {x : V} {k : IntKind} {a : Int} (h : asInt x = some (k, a)) : x = .d (.int k a) := by
 unfold asInt at h; split at h
 ·injection h with h; cases h; rfl
 ·cases h
def kFieldAddr (t : TypeId) (x : Operand) (f : Nat) (P : Program) (s : S) (_ : Nat) : Option Res := oneM (fieldAddrF P s.o t (s.ev x) f)
def kIndexAddr (t : TypeId) (x i : Operand) (P : Program) (s : S) (_ : Nat) : Option Res := indexAddrF P s.o t (s.ev x) (s.ev i)
def kOther (op : Op) (P : Program) (s : S) (fr : Nat) : Option Res := sopF P s fr op
noncomputable def sopK (op : Op) : Program -> S -> Nat -> Option Res :=
 match op with
 | .move x => kMove x
 | .assign x => kMove x
 | .pick c a b => kPick c a b
 | .build t parts => kBuild t parts
 | .buildSlice t len parts => kBuildSlice t len parts
 | .load t x => kLoad t x
 | .store t x v => kStore t x v
 | .nilCheck x => kNil x
 | .binOp op t x y _ => kBin op t x y
 | .fieldAddr t x f => kFieldAddr t x f
 | .indexAddr t x i => kIndexAddr t x i
 | op => kOther op
theorem sopK_ok {op : Op} {P : Program} {s : S} {fr : Nat} {r : Res} (h : sopK op P s fr = some r) : sopF P s fr op = some r := by
 cases op
 case binOp op t x y yt =>
  simp only [sopK, kBin, intK_eq] at h
  have e : sopF P s fr (.binOp op t x y yt) = bin2F P s.o op t (isConst x || isConst y) (s.ev x) (s.ev y) := rfl
  rw [e]
  split at h
  ·rename_i k a hx
   split at h
   ·rename_i k' b hy
    split at h
    ·rename_i hk
     split at h
     ·rename_i v hv
      unfold bin2F binF
      simp only [asInt_eq hx, asInt_eq hy, if_pos hk, hv]
      exact h
     ·exact h
    ·cases h
   ·exact h
  ·exact h
 all_goals exact h
end Staged
inductive FD where
 | fn (n : Nat) (ic : IC) (rs : List ResultVar)
 | dfr (n : Nat) (ica icb : IC) (g t : Nat) (capo : List Operand) (rs : List ResultVar) (m r r1 : Nat) (icg : IC)
 | no
def FD.Ok (P : Program) (f : Nat) : FD -> Prop
 | .fn n ic rs => FnIs P f n ic rs
 | .dfr n ica icb g t capo rs m r r1 icg => DefIs P f n ica icb g t capo rs /\ RecIs P g m r r1 icg
 | .no => True
inductive CR where
 | ret (v : V) (o : Tr Obj') (nx : Nat) | pan (v : V) (o : Tr Obj') (nx : Nat)
def CR.to (K X : V -> (Nat -> Obj') -> Nat -> Prop) : CR -> Prop
 | .ret v o nx => K v o.get nx
 | .pan v o nx => X v o.get nx
inductive RO where
 | ok (st : St) | pan (v : V) (st : St)
def RO.to (K : S -> Prop) (X : V -> S -> Prop) : RO -> Prop
 | .ok st => K st.S
 | .pan v st => X v st.S
inductive Ans where
 | r (x : R) | c (x : CR)
abbrev Kt := Xit -> St -> Option Ans
abbrev Runs := Nat -> Bool -> Nat -> IC -> St -> Kt -> Option Ans
noncomputable def endX (P : Program) (rs : List ResultVar) (st : St) (kc : CR -> Option Ans) : Option Ans :=
 match resV P st.S rs with
 | some [v] => kc (.ret v st.o st.nx)
 | some vs => kc (.ret (.tup vs) st.o st.nx)
 | none => none
noncomputable def fnEnd (P : Program) (rs : List ResultVar) (kc : CR -> Option Ans) : Kt := fun e st =>
 match e with
 | .normal => endX P rs st kc
 | .ret => endX P rs st kc
 | .pan v => kc (.pan v st.o st.nx)
 | .exit _ => none
noncomputable def dfrEnd (P : Program) (rs : List ResultVar) (kc : CR -> Option Ans) (env : Tr V) : Kt := fun e s4 =>
 match e with
 | .normal => endX P rs ⟨env, s4.o, s4.nx⟩ kc
 | .ret => endX P rs ⟨env, s4.o, s4.nx⟩ kc
 | _ => none
def recU : Xit -> Option V
 | .normal => some (.d .nili)
 | .ret => some (.d .nili)
 | .pan v => some v
 | .exit _ => none
noncomputable def dfrRec (P : Program) (rec : Runs) (rs : List ResultVar) (caps : List V) (m r r1 : Nat) (icg : IC) (kc : CR -> Option Ans) : Kt := fun e s3 =>
 match recU e with
 | some u => if caps.length <= m then rec s3.nx true m icg ⟨.e (upd (upd (argsEnv caps) r u) r1 u), s3.o, s3.nx⟩ (dfrEnd P rs kc s3.env) else none
 | none => none
noncomputable def dfrBody (P : Program) (rec : Runs) (n t : Nat) (icb : IC) (g : Nat) (capo : List Operand) (rs : List ResultVar) (m r r1 : Nat) (icg : IC) (kc : CR -> Option Ans) : Kt := fun e s1 =>
 match e with
 | .normal => rec s1.nx false n icb ⟨s1.env.set t (.func (.func g) [] (capo.map s1.S.ev)), s1.o, s1.nx⟩ (dfrRec P rec rs (capo.map s1.S.ev) m r r1 icg kc)
 | _ => none
noncomputable def fnX (P : Program) (tab : Nat -> FD) (rec : Runs) (g : Nat) (args : List V) (o : Tr Obj') (nx : Nat) (kc : CR -> Option Ans) : Option Ans :=
 match tab g with
 | .fn n ic rs => if args.length <= n then rec nx false n ic ⟨.e (argsEnv args), o, nx⟩ (fnEnd P rs kc) else none
 | .dfr n ica icb g t capo rs m r r1 icg => if args.length <= n then rec nx true n ica ⟨.e (argsEnv args), o, nx⟩ (dfrBody P rec n t icb g capo rs m r r1 icg kc) else none
 | .no => none
def listOf : V -> List V
 | .tup vs => vs
 | v => [v]
noncomputable def dataR (r : CR) : Option R :=
 match r with
 | .ret v o _ => match v with
   | .tup [_] => none
   | v => match toDs o.get (listOf v) with
     | some rs => some (.ret rs)
     | none => none
 | .pan v o _ => match toD o.get v with
   | some x => some (.pan x)
   | none => none
noncomputable def rfc {β : Type} (x : R) (c : R -> β) : β := match x with | .ret l => D.fcs l fun l => c (.ret l) | .pan d => D.fc d fun d => c (.pan d)
theorem rfc_eq {β : Type} (x : R) (c : R -> β) : rfc x c = c x := by cases x <;> simp only [rfc, D.fcs_eq, D.fc_eq]
noncomputable def dataA (r : CR) : Option Ans := match dataR r with | some x => rfc x fun x => some (.r x) | none => none
theorem dataA_eq {r : CR} {a : Ans} (h : dataA r = some a) : ∃ x, dataR r = some x /\ a = .r x := by
 unfold dataA at h
 split at h
 ·rename_i x hx; rw [rfc_eq] at h; injection h with h; exact ⟨x, hx, h.symm⟩
 ·cases h
def outCR (out : R) (o : Tr Obj') (nx : Nat) : CR :=
 match out with
 | .ret rs => .ret (retV rs) o nx
 | .pan x => .pan (.d x) o nx
structure Cfg (P : Program) where
 dat : Nat -> Bool
 fx : Nat -> List D -> Option R
 ok : ∀ g ds out, fx g ds = some out -> PCt P g ds out
def fxOf (l : List (Nat × List D × R)) (g : Nat) (ds : List D) : Option R :=
 match l with
 | [] => none
 | x :: l => match Nat.beq x.1 g with
   | true => match D.sames x.2.1 ds with
     | true => some x.2.2
     | false => fxOf l g ds
   | false => fxOf l g ds
theorem fxOf_ok {P : Program} : ∀ {l : List (Nat × List D × R)}, (∀ x ∈ l, PCt P x.1 x.2.1 x.2.2) -> ∀ g ds out, fxOf l g ds = some out -> PCt P g ds out
 | [], _, _, _, _, h => by cases h
 | x :: l, hl, g, ds, out, h => by
   simp only [fxOf] at h
   split at h
   ·rename_i hg
    split at h
    ·rename_i hd
     injection h with h
     have := hl x (by simp)
     rw [Nat.eq_of_beq_eq_true hg, D.sames_eq _ _ hd, h] at this
     exact this
    ·exact fxOf_ok (fun y hy => hl y (by simp [hy])) g ds out h
   ·exact fxOf_ok (fun y hy => hl y (by simp [hy])) g ds out h
def Cfg.of {P : Program} (dat : Nat -> Bool) (l : List (Nat × List D × R)) (h : ∀ x ∈ l, PCt P x.1 x.2.1 x.2.2) : Cfg P := ⟨dat, fxOf l, fxOf_ok h⟩
noncomputable def datX (P : Program) (tab : Nat -> FD) (md : Cfg P) (rec : Runs) (g : Nat) (ds : List D) : Option R :=
 match md.fx g ds with
 | some out => some out
 | none => match fnX P tab rec g (ds.map .d) (.e fun _ => .no) 0 dataA with
   | some (.r x) => some x
   | _ => none
noncomputable def giveX (out : R) (o : Tr Obj') (nx : Nat) (args : List V) (kc : CR -> Option Ans) : Option Ans :=
 match out.flat with
 | true => kc (outCR out o (nx + 1))
 | false => match out.nomap with
   | true => kc (outCR out (putT o (frzA o.get (V.idss args))) (nx + 1))
   | false => kc (outCR out (putT o (frz o.get (V.idss args))) (nx + 1))
noncomputable def callX (P : Program) (tab : Nat -> FD) (md : Cfg P) (rec : Runs) (g : Nat) (args : List V) (o : Tr Obj') (nx : Nat) (kc : CR -> Option Ans) : Option Ans :=
 match md.dat g, toDs o.get args with
 | true, some ds => match datX P tab md rec g ds with
   | some out => giveX out o nx args kc
   | none => none
 | _, _ => fnX P tab rec g args o nx kc
noncomputable def yldEnd (id : Nat) (kc : CR -> Option Ans) : Kt := fun e s2 =>
 match e with
 | .pan v => kc (.pan v s2.o s2.nx)
 | e => match s2.o.get id with
   | .loop nf m en p c d _ _ => match e with
     | .normal => kc (.ret (.d (.bool true)) (s2.o.set id (.loop nf m en p c d .ready none)) s2.nx)
     | .ret => kc (.ret (.d (.bool false)) (s2.o.set id (.loop nf m en p c d .done (some .ret))) s2.nx)
     | .exit j => kc (.ret (.d (.bool false)) (s2.o.set id (.loop nf m en p c d .done (some (.exit j)))) s2.nx)
     | .pan _ => none
   | _ => none
noncomputable def yldBody (rec : Runs) (id nx n : Nat) (icb : IC) (kc : CR -> Option Ans) : Kt := fun e s1 =>
 match e with
 | .normal => match s1.o.get id with
   | .loop nf m en p c d .ready pd => rec nx true n icb ⟨s1.env, s1.o.set id (.loop nf m en p c d .busy pd), s1.nx⟩ (yldEnd id kc)
   | _ => none
 | .pan v => kc (.pan v s1.o s1.nx)
 | _ => none
noncomputable def yldX (P : Program) (rec : Runs) (id : Nat) (args : List V) (o : Tr Obj') (nx : Nat) (kc : CR -> Option Ans) : Option Ans :=
 match o.get id with
 | .loop nf n env ps ica icb _ _ => if nf = P.funcs.size /\ id < nx /\ ps.all (fun t => decide (t < n)) = true /\ args.length = ps.length then
  rec nx true n ica ⟨.e (setP (envJ env) ps args), o, nx⟩ (yldBody rec id nx n icb kc)
   else none
 | _ => none
noncomputable def simpX (P : Program) (st : St) (o : IOp) (kr : RO -> Option Ans) : Option Ans :=
 match sopK o.op P st.S st.nx with
 | some (v, Δ, _) => putETc st.env o.dst v fun e => putTc st.o Δ fun ob => Nat.fc (st.nx + 1) fun n => kr (.ok ⟨e, ob, n⟩)
 | none => none
noncomputable def crX (st : St) (dst : Option Nat) (kr : RO -> Option Ans) (c : CR) : Option Ans :=
 match c with
 | .ret v o nx => putETc st.env dst v fun e => Nat.fc nx fun nx => kr (.ok ⟨e, o, nx⟩)
 | .pan v o nx => kr (.pan v ⟨st.env, o, nx⟩)
noncomputable def kCall (c : Call) (P : Program) (tab : Nat -> FD) (md : Cfg P) (rec : Runs) (st : St) (o : IOp) (kr : RO -> Option Ans) : Option Ans :=
 match c.callee with
 | .value f => match st.S.ev f with
   | .func (.func g) first cap => callX P tab md rec g (first ++ c.args.toList.map st.S.ev ++ cap) st.o st.nx (crX st o.dst kr)
   | .yld id => yldX P rec id (c.args.toList.map st.S.ev) st.o st.nx (crX st o.dst kr)
   | _ => none
 | .invoke r m => match recvT P m (st.S.ev r) with
   | some (g, y) => callX P tab md rec g (y :: c.args.toList.map st.S.ev) st.o st.nx (crX st o.dst kr)
   | none => none
 | _ => simpX P st o kr
noncomputable def kPan (x : Operand) (P : Program) (_ : Nat -> FD) (_ : Cfg P) (_ : Runs) (st : St) (_ : IOp) (kr : RO -> Option Ans) : Option Ans :=
 match st.S.ev x with
 | .d (.iface t y) => kr (.pan (.d (.iface t y)) st)
 | .iface t y => kr (.pan (.iface t y) st)
 | _ => none
noncomputable def kSimp (P : Program) (_ : Nat -> FD) (_ : Cfg P) (_ : Runs) (st : St) (o : IOp) (kr : RO -> Option Ans) : Option Ans := simpX P st o kr
def R.same : R -> R -> Bool
 | .ret a, .ret b => D.sames a b
 | .pan a, .pan b => a.same b
 | _, _ => false
theorem R.same_eq {x y : R} (h : x.same y = true) : x = y := by
 cases x <;> cases y <;> simp only [R.same, Bool.false_eq_true] at h
 ·rw [D.sames_eq _ _ h]
 ·rw [D.same_eq _ _ h]
noncomputable def brX (f : Nat -> Option Ans) : Nat -> Option Ans
 | 0 => none
 | n + 1 => match n with
   | 0 => f 0
   | n => match brX f n with
     | some (.r a) => match f n with
       | some (.r b) => match R.same a b with
         | true => some (.r a)
         | false => none
       | _ => none
     | _ => none
theorem brX_ok {f : Nat -> Option Ans} {a : Ans} : ∀ {n : Nat}, brX f n = some a -> ∀ i, i < n -> f i = some a
 | 0, h, _, _ => by cases h
 | 1, h, i, hi => by obtain rfl : i = 0 := by omega
                     exact h
 | n + 2, h, i, hi => by
   simp only [brX] at h
   split at h
   ·rename_i x hx
    split at h
    ·rename_i y hy
     split at h
     ·rename_i he
      have e := R.same_eq he
      subst e
      rw [<- h]
      by_cases e : i = n + 1
      ·subst e; exact hy
      ·exact brX_ok hx i (by omega)
     ·cases h
    ·cases h
   ·cases h
noncomputable def nxtX (st : St) (dst : Option Nat) (kr : RO -> Option Ans) (v : V) (Δ : List (Nat × Obj')) : Option Ans :=
 putETc st.env dst v fun e => putTc st.o Δ fun ob => Nat.fc (st.nx + 1) fun n => kr (.ok ⟨e, ob, n⟩)
noncomputable def kNext (x : Operand) (str : Bool) (P : Program) (_ : Nat -> FD) (_ : Cfg P) (_ : Runs) (st : St) (o : IOp) (kr : RO -> Option Ans) : Option Ans :=
 match leftF st.o.get (st.S.ev x) with
 | some (id, l) => match str with
   | true => none
   | false => match l with
     | [] => nxtX st o.dst kr (.tup [.d (.bool false)]) []
     | _ => brX (fun i => match l[i]? with
       | some (k, x) => nxtX st o.dst kr (.tup [.d (.bool true), .d k, .d x]) [(id, .mit (l.eraseIdx i) (some (k, x)))]
       | none => none) l.length
 | none => simpX P st o kr
noncomputable def opK (op : Op) : (P : Program) -> (Nat -> FD) -> Cfg P -> Runs -> St -> IOp -> (RO -> Option Ans) -> Option Ans :=
 match op with
 | .call c => kCall c
 | .panic x => kPan x
 | .next x str => kNext x str
 | _ => kSimp
noncomputable def opX (P : Program) (tab : Nat -> FD) (md : Cfg P) (rec : Runs) (st : St) (o : IOp) (kr : RO -> Option Ans) : Option Ans := opK o.op P tab md rec st o kr
noncomputable def roK (next : St -> Option Ans) (kr : RO -> Option Ans) : RO -> Option Ans := fun r => match r with | .ok st => next st | .pan v st => kr (.pan v st)
noncomputable def regX (P : Program) (tab : Nat -> FD) (md : Cfg P) (rec : Runs) (kr : RO -> Option Ans) : List IOp -> St -> Option Ans
 | [], st => kr (.ok st)
 | o :: l, st => match (match o.gd with
     | none => some true
     | some (d, want) => match st.env.get d with
       | .d (.bool b) => some (b == want)
       | .tup [] => some false
       | _ => none) with
   | some true => opX P tab md rec st o (roK (regX P tab md rec kr l) kr)
   | some false => putETc st.env o.dst (.tup []) fun e => Nat.fc (st.nx + 1) fun n => regX P tab md rec kr l ⟨e, st.o, n⟩
   | none => none
section
variable {P : Program} {tab : Nat -> FD} {md : Cfg P}
noncomputable def RunsOk (P : Program) (rec : Runs) : Prop := ∀ b rd n ic st k a, rec b rd n ic st k = some a -> ∀ Q : Xit -> S -> Prop, (∀ e st', k e st' = some a -> Q e st'.S) -> icW P n b rd ic Q st.S
theorem endX_ok {rs : List ResultVar} {st : St} {kc : CR -> Option Ans} {a : Ans} (h : endX P rs st kc = some a) {K X : V -> (Nat -> Obj') -> Nat -> Prop} (hr : ∀ r, kc r = some a -> r.to K X) : endK P rs K X .ret st.S := by
 unfold endX at h
 unfold endK
 split at h
 ·rename_i v hv; simp only [hv]; exact hr _ h
 ·rename_i vs hv hn
  simp only [hn]
  exact hr _ h
 ·cases h
theorem fnX_ok (hmix : P.follows .mixedOrders = true) (htab : ∀ g, (tab g).Ok P g) {rec : Runs} (hrec : RunsOk P rec) {g : Nat} {args : List V} {o : Tr Obj'} {nx : Nat} {kc : CR -> Option Ans} {a : Ans} (h : fnX P tab rec g args o nx kc = some a) {K X : V -> (Nat -> Obj') -> Nat -> Prop} (hr : ∀ r, kc r = some a -> r.to K X) :
 CtK P g args o.get nx K X := by
 have hok := htab g
 unfold fnX at h
 split at h
 ·rename_i n ic rs ht
  rw [ht] at hok
  split at h
  ·rename_i hl
   refine CtK.of_ic hmix hok hl ?_
   refine hrec _ _ _ _ _ _ _ h _ fun e st he => ?_
   unfold fnEnd at he
   cases e with
   | normal => exact endX_ok he hr
   | ret => exact endX_ok he hr
   | pan v => exact hr _ he
   | exit j => cases he
  ·cases h
 ·rename_i n ica icb g' t capo rs m r0 r1 icg ht
  rw [ht] at hok
  split at h
  ·rename_i hl
   refine CtK.of_defer hmix hok.1 hok.2 hl (hrec _ _ _ _ _ _ _ h _ fun e s1 he => ?_)
   unfold dfrBody at he
   cases e with
   | normal =>
     have hb : icW P n s1.nx false icb (defEnd P m r0 r1 icg (capo.map s1.S.ev) rs K X) ⟨upd s1.env.get t (.func (.func g') [] (capo.map s1.S.ev)), s1.o.get, s1.nx⟩ := by
      have := hrec _ _ _ _ _ _ _ he (defEnd P m r0 r1 icg (capo.map s1.S.ev) rs K X) (fun e s3 he3 => by
       unfold dfrRec at he3
       split at he3
       ·rename_i u hu
        split at he3
        ·rename_i hcl
         have hrw : recW P m r0 r1 icg (capo.map s1.S.ev) u s3.o.get s3.nx fun o nx => endK P rs K X .ret ⟨s3.env.get, o, nx⟩ := by
          refine ⟨hcl, hrec _ _ _ _ _ _ _ he3 _ fun e4 s4 he4 => ?_⟩
          unfold dfrEnd at he4
          cases e4 with
          | normal => exact endX_ok (st := ⟨s3.env, s4.o, s4.nx⟩) he4 hr
          | ret => exact endX_ok (st := ⟨s3.env, s4.o, s4.nx⟩) he4 hr
          | _ => cases he4
         cases e <;> simp only [recU, Option.some.injEq, reduceCtorEq] at hu <;> subst hu <;> exact hrw
        ·cases he3
       ·cases he3)
      simp only [St.S, Tr.get_set] at this
      exact this
     exact hb
   | _ => cases he
  ·cases h
 ·cases h
theorem dataR_is {r : CR} {out : R} (ho : dataR r = some out) : r.to (fun v o _ => ∃ vs rs, v = (match vs with | [v] => v | vs => .tup vs) /\ toDs o vs = some rs /\ out = .ret rs) (fun v o _ => ∃ x, toD o v = some x /\ out = .pan x) := by
 unfold dataR at ho
 split at ho
 ·rename_i v o nx
  split at ho
  ·cases ho
  ·rename_i hv
   split at ho
   ·rename_i rs hrs
    injection ho with ho; subst ho
    refine ⟨listOf v, rs, ?_, hrs, rfl⟩
    cases v with
    | tup vs =>
      match vs, hv with
      | [], _ => rfl
      | [x], hv => exact absurd rfl (hv x)
      | _ :: _ :: _, _ => rfl
    | _ => rfl
   ·cases ho
 ·split at ho
  ·rename_i x hx
   injection ho with ho; subst ho
   exact ⟨x, hx, rfl⟩
  ·cases ho
theorem dataA_ok (hmix : P.follows .mixedOrders = true) (htab : ∀ g, (tab g).Ok P g) {rec : Runs} (hrec : RunsOk P rec) {g : Nat} {ds : List D} {out : R} (h : fnX P tab rec g (ds.map .d) (.e fun _ => .no) 0 dataA = some (.r out)) : PCt P g ds out := by
 refine PCt.of_ctk (fnX_ok hmix htab hrec h fun r hr => ?_)
 obtain ⟨x, hx, he⟩ := dataA_eq hr
 injection he with he; subst he
 exact dataR_is hx
theorem datX_ok (hmix : P.follows .mixedOrders = true) (htab : ∀ g, (tab g).Ok P g) {rec : Runs} (hrec : RunsOk P rec) {g : Nat} {ds : List D} {out : R} (h : datX P tab md rec g ds = some out) : PCt P g ds out := by
 unfold datX at h
 split at h
 ·rename_i out' ho
  injection h with h; subst h
  exact md.ok _ _ _ ho
 ·split at h
  ·rename_i x hr; injection h with h; subst h; exact dataA_ok hmix htab hrec hr
  ·cases h
theorem callX_ok (hmix : P.follows .mixedOrders = true) (htab : ∀ g, (tab g).Ok P g) {rec : Runs} (hrec : RunsOk P rec) {g : Nat} {args : List V} {o : Tr Obj'} {nx : Nat} {kc : CR -> Option Ans} {a : Ans} (h : callX P tab md rec g args o nx kc = some a) {K X : V -> (Nat -> Obj') -> Nat -> Prop} (hr : ∀ r, kc r = some a -> r.to K X) :
 callA P g args o.get nx K X := by
 unfold callX at h
 split at h
 ·rename_i ds hmd hds
  split at h
  ·rename_i out hout
   have hP := datX_ok hmix htab hrec hout
   refine .inl ⟨ds, hds, out, hP, ?_⟩
   unfold giveX at h
   split at h
   ·rename_i hf
    refine .inr (.inl ⟨hf, ?_⟩)
    cases out <;> exact hr _ h
   ·split at h
    ·rename_i hf
     refine .inr (.inr ⟨hf, ?_⟩)
     rw [<- putT_get]
     cases out <;> exact hr _ h
    ·refine .inl ?_
     rw [<- putT_get]
     cases out <;> exact hr _ h
  ·cases h
 ·exact .inr (fnX_ok hmix htab hrec h hr)
theorem yldX_ok (hmix : P.follows .mixedOrders = true) {rec : Runs} (hrec : RunsOk P rec) {id : Nat} {args : List V} {o : Tr Obj'} {nx : Nat} {kc : CR -> Option Ans} {a : Ans} (h : yldX P rec id args o nx kc = some a) {K X : V -> (Nat -> Obj') -> Nat -> Prop} (hr : ∀ r, kc r = some a -> r.to K X) :
 RoundK P id args o.get nx K X := by
 unfold yldX at h
 split at h
 ·rename_i nf n env ps ica icb st pd ho
  split at h
  ·rename_i hc
   obtain ⟨rfl, hlt, hps, hl⟩ := hc
   refine RoundK.of_ic hmix ho hlt hps hl ?_
   refine hrec _ _ _ _ _ _ _ h _ fun e s1 he => ?_
   unfold yldBody at he
   cases e with
   | normal =>
     simp only at he
     split at he
     ·rename_i nf m en p c d pd hso
      refine ⟨nf, m, en, p, c, d, pd, hso, ?_⟩
      have := hrec _ _ _ _ _ _ _ he (roundQ id K X) (fun e s2 h2 => by
       unfold yldEnd at h2
       split at h2
       ·exact hr _ h2
       ·rename_i hnp
        split at h2
        ·rename_i nf' m' en' p' c' d' st' pd' hso2
         cases e with
         | pan v => cases h2
         | normal => have h3 := hr _ h2; simp only [CR.to, Tr.get_set] at h3; exact ⟨nf', m', en', p', c', d', st', pd', hso2, h3⟩
         | ret => have h3 := hr _ h2; simp only [CR.to, Tr.get_set] at h3; exact ⟨nf', m', en', p', c', d', st', pd', hso2, h3⟩
         | exit j => have h3 := hr _ h2; simp only [CR.to, Tr.get_set] at h3; exact ⟨nf', m', en', p', c', d', st', pd', hso2, h3⟩
        ·cases h2)
      simp only [St.S, Tr.get_set] at this
      exact this
     ·cases he
   | pan v => exact hr _ he
   | _ => cases he
  ·cases h
 ·cases h
theorem simpX_ok {st : St} {o : IOp} {kr : RO -> Option Ans} {a : Ans} (h : simpX P st o kr = some a) {K : S -> Prop} {X : V -> S -> Prop} (hr : ∀ r, kr r = some a -> r.to K X) : match sopF P st.S st.S.nx o.op with
 | some (v, Δ, _) => K ⟨putE st.S.env o.dst v, put st.S.o Δ, st.S.nx + 1⟩
 | none => False := by
 unfold simpX at h
 split at h
 ·rename_i v Δ rd he
  have he := sopK_ok he
  simp only [putETc_eq, putTc_eq, Nat.fc_eq] at h
  have hr := hr _ h
  simp only [RO.to, St.S, putET_get, putT_get] at hr
  have he' : sopF P st.S st.S.nx o.op = some (v, Δ, rd) := he
  simp only [he']
  exact hr
 ·cases h
theorem nxtX_ok {st : St} {dst : Option Nat} {kr : RO -> Option Ans} {v : V} {Δ : List (Nat × Obj')} {a : Ans} (h : nxtX st dst kr v Δ = some a) {K : S -> Prop} {X : V -> S -> Prop} (hr : ∀ r, kr r = some a -> r.to K X) : K ⟨putE st.S.env dst v, put st.S.o Δ, st.S.nx + 1⟩ := by
 unfold nxtX at h
 simp only [putETc_eq, putTc_eq, Nat.fc_eq] at h
 have hr := hr _ h
 simp only [RO.to, St.S, putET_get, putT_get] at hr
 exact hr
theorem opX_ok (hmix : P.follows .mixedOrders = true) (htab : ∀ g, (tab g).Ok P g) {rec : Runs} (hrec : RunsOk P rec) {st : St} {o : IOp} {kr : RO -> Option Ans} {a : Ans} (h : opX P tab md rec st o kr = some a) {K : S -> Prop} {X : V -> S -> Prop} (hr : ∀ r, kr r = some a -> r.to K X) : opI P st.S o X K := by
 have cr : ∀ r, crX st o.dst kr r = some a -> r.to (fun v o' nx' => K ⟨putE st.S.env o.dst v, o', nx'⟩) (fun v o' nx' => X v ⟨st.S.env, o', nx'⟩) := by
  intro r hx
  unfold crX at hx
  split at hx
  ·simp only [putETc_eq, Nat.fc_eq] at hx
   have hr := hr _ hx
   simp only [RO.to, St.S, putET_get] at hr
   exact hr
  ·exact hr _ hx
 unfold opX at h
 unfold opI
 cases hop : o.op
 case call c =>
  rw [hop] at h
  have h : kCall c P tab md rec st o kr = some a := h
  unfold kCall at h
  cases hf : c.callee
  case value f =>
   simp only [hf] at h ⊢
   split at h
   ·rename_i g first cap hv
    simp only [hv]
    have := callX_ok hmix htab hrec h cr
    rcases this with ⟨ds, hds, hP⟩ | hC
    ·have hds' : toDs st.S.o (first ++ List.map st.S.ev c.args.toList ++ cap) = some ds := hds
     simp only [hds']
     exact .inl hP
    ·split
     ·exact .inr (.inl hC)
     ·exact .inl hC
   ·rename_i id hv
    simp only [hv]
    exact yldX_ok hmix hrec h cr
   ·cases h
  case invoke r m =>
   simp only [hf] at h ⊢
   split at h
   ·rename_i g y hv
    simp only [hv]
    exact callX_ok hmix htab hrec h cr
   ·cases h
  all_goals
   simp only [hf] at h ⊢
   have := simpX_ok h hr
   rw [hop] at this
   exact this
 case panic x =>
  rw [hop] at h
  have h : kPan x P tab md rec st o kr = some a := h
  unfold kPan at h
  split at h
  ·rename_i hv; simp only [hv]; exact hr _ h
  ·rename_i hv; simp only [hv]; exact hr _ h
  ·cases h
 case next x str =>
  rw [hop] at h
  have h : kNext x str P tab md rec st o kr = some a := h
  unfold kNext at h
  have hl : leftF st.S.o (st.S.ev x) = leftF st.o.get (st.S.ev x) := rfl
  simp only [hl]
  split at h
  ·rename_i id l hid
   simp only [hid]
   cases str with
   | true => cases h
   | false =>
     refine ⟨rfl, fun e => ?_, fun i k y e => ?_⟩
     ·subst e
      exact nxtX_ok h hr
     ·cases l with
      | nil => simp at e
      | cons p l =>
        have := brX_ok h i (List.getElem?_eq_some_iff.1 e).1
        rw [e] at this
        exact nxtX_ok this hr
  ·rename_i hid
   simp only [hid]
   have := simpX_ok h hr
   rw [hop] at this
   exact this
 all_goals
  have h2 : simpX P st o kr = some a := by rw [hop] at h; exact h
  have := simpX_ok h2 hr
  rw [hop] at this
  exact this
theorem regX_ok (hmix : P.follows .mixedOrders = true) (htab : ∀ g, (tab g).Ok P g) {rec : Runs} (hrec : RunsOk P rec) {kr : RO -> Option Ans} {a : Ans} {K : S -> Prop} {X : V -> S -> Prop} (hr : ∀ r, kr r = some a -> r.to K X) : ∀ (l : List IOp) (st : St), regX P tab md rec kr l st = some a -> regI P X K l st.S
 | [], st, h => hr (.ok st) h
 | o :: l, st, h => by
   simp only [regX, putETc_eq, Nat.fc_eq] at h
   simp only [regI]
   have op : opX P tab md rec st o (roK (regX P tab md rec kr l) kr) = some a -> opI P st.S o X (regI P X K l) := by
    intro h
    refine opX_ok hmix htab hrec h fun r hrr => ?_
    cases r with
    | ok st1 => exact regX_ok hmix htab hrec hr l st1 hrr
    | pan v st1 => exact hr (.pan v st1) hrr
   have sk : regX P tab md rec kr l ⟨putET st.env o.dst (.tup []), st.o, st.nx + 1⟩ = some a -> regI P X K l ⟨putE st.S.env o.dst (.tup []), st.S.o, st.S.nx + 1⟩ := by
    intro h
    have := regX_ok hmix htab hrec hr l _ h
    simp only [St.S, putET_get] at this
    exact this
   cases hg : o.gd with
   | none => simp only [hg] at h; exact op h
   | some p =>
     obtain ⟨d, want⟩ := p
     simp only [hg] at h
     have he : st.S.env d = st.env.get d := rfl
     simp only [he]
     cases hv : st.env.get d with
     | d x =>
       cases x with
       | bool b =>
         simp only [hv] at h ⊢
         by_cases e : b = want
         ·subst e
          simp only [beq_self_eq_true] at h
          rw [if_pos rfl]; exact op h
         ·have : (b == want) = false := by simpa using e
          rw [this] at h
          rw [if_neg e]; exact sk h
       | _ => simp [hv] at h
     | tup vs =>
       cases vs with
       | nil => simp only [hv] at h ⊢; exact sk h
       | cons a asz => simp [hv] at h
     | _ => simp [hv] at h
end
end Go.Proofs.YtealblliddhgiaaGreat
namespace Go.Proofs.YtealblliddhgiaaGreat
theorem HVt.of_own {P : Program} {g : FuncId} {ds : List D} {o : Nat -> Obj'} {fr : Nat} {ty : TypeId} {sz : Nat} {es : List D}
 (h : CtK P g (ds.map .d) (fun _ => .no) 0 (fun v o1 _ => (∃ j ep, v = .osl j ep /\ o1 j = .arr ep ty sz es) \/ (v = .nils /\ es = [] /\ 0 < sz)) (fun _ _ _ => False)) :
 HVt P g (ds.map .d) [] o fr (.osl fr 0) [(fr, .arr 0 ty sz es)] := by
 refine ⟨h.1, fun o' us M φ w vals _ hfr hH hd => ?_⟩
 let φ0 : Place := fun _ => .nilFunc
 have hnl : ∀ b, ¬ liveB φ0 (hp (fun _ => .no) 0) b := by rintro b ⟨id, hl, _⟩; simp [hp, Obj'.live] at hl
 have hM : ∀ b, mutB M φ ⟨o', us⟩ b -> b < w.heap.size := fun b hb => hb.elim (hH.old b) fun hl => (hH.ours b hl).2
 have hdd := (V.dens_map_d _ _).1 hd
 refine (h.2 (mutB M φ ⟨o', us⟩) φ0 w vals (emptyHeap φ0 hM) ((V.dens_map_d _ _).2 (D.dens_mono (w := w) (w' := w) (B := mutB M φ ⟨o', us⟩) (fun b _ hB => ⟨rfl, fun h => h.elim hB (hnl b)⟩) _ _ hdd))).mono ?_
 rintro e w' ⟨φ1, o1, n1, v, k1, k2, k3⟩
 have hk : Keep (fun _ => False) w w' := ⟨k2.keep.os, k2.keep.tape, k2.keep.output, k2.keep.size, fun k hk _ => k2.keep.block k hk (hnl k)⟩
 have hpe : (⟨o', us⟩ : Hp).put [(fr, .arr 0 ty sz es)] = ⟨put o' [(fr, .arr 0 ty sz es)], fun id => us id \/ id = fr⟩ := by
  simp only [Hp.put]
  congr 1
  funext id
  simp
 have fin : ∀ (val : Value) (xs : List Value), (∀ b, blk val = some b -> w.heap.size <= b /\ b < w'.heap.size) -> 0 < sz -> w'.ownsRow 0 ty sz val es.length xs ->
  (RowDen (mutB M (upd φ fr val) ((⟨o', us⟩ : Hp).put [(fr, .arr 0 ty sz es)])) w' sz es xs) ->
  val.oneCell' = true ->
  ∃ φ', HeapOk M φ' ⟨put o' [(fr, .arr 0 ty sz es)], fun id => us id \/ id = fr⟩ w' /\ Trans φ ⟨o', us⟩ w φ' ⟨put o' [(fr, .arr 0 ty sz es)], fun id => us id \/ id = fr⟩ w' /\
   ∃ val', Ending.returned val = .returned val' /\ V.den (mutB M φ' ⟨put o' [(fr, .arr 0 ty sz es)], fun id => us id \/ id = fr⟩) φ' ⟨put o' [(fr, .arr 0 ty sz es)], fun id => us id \/ id = fr⟩ w' (.osl fr 0) val' := by
  intro val xs hfresh hsz hown hrow hsl
  have hheap := heap_new hH hk hfr (.arr 0 ty sz es) val hfresh (by
   unfold ObjOk
   rw [show ((⟨o', us⟩ : Hp).put [(fr, .arr 0 ty sz es)]).o fr = .arr 0 ty sz es by simp]
   refine ⟨hsz, xs, ?_, hrow⟩
   rw [show upd φ fr val fr = val by simp]
   exact hown)
  have htr := trans_new (φ := φ) (H := ⟨o', us⟩) hk hfr (.arr 0 ty sz es) val (fun b hb => (hfresh b hb).1)
  rw [hpe] at hheap htr
  refine ⟨upd φ fr val, hheap, htr, val, rfl, hsl, .inr rfl, fun e he => ?_⟩
  have he' : 0 = e := by
   have : (put o' [(fr, Obj'.arr 0 ty sz es)] fr).epoch = some 0 := by simp [put, Obj'.epoch]
   rw [show (⟨put o' [(fr, .arr 0 ty sz es)], fun id => us id \/ id = fr⟩ : Hp).o fr = put o' [(fr, .arr 0 ty sz es)] fr from rfl, this] at he
   injection he
  exact ⟨by omega, fun _ => by simp⟩
 cases e with
 | outgrown => exact k3.elim
 | panicked ch => obtain ⟨_, _, _, h⟩ := k3; exact h.elim
 | returned val =>
   obtain ⟨g1, ⟨j, ep, rfl, hj⟩ | ⟨rfl, rfl, hsz⟩⟩ := k3
   ·obtain ⟨v0, v1, v2⟩ := g1
    have hval : val = φ1 j := (v2 ep (by show (o1 j).epoch = some ep; rw [hj]; rfl)).2 rfl
    have hlive : ∀ b, blk val = some b -> liveB φ1 (hp o1 n1) b := fun b hb => ⟨j, by show (o1 j).live = true; rw [hj]; rfl, by rw [<- hval]; exact hb⟩
    have hfresh : ∀ b, blk val = some b -> w.heap.size <= b /\ b < w'.heap.size := fun b hb => ⟨(k2.grow b (hlive b hb)).resolve_left (hnl b), (k1.ours b (hlive b hb)).2⟩
    have hob := k1.ok j
    unfold ObjOk at hob
    rw [show (hp o1 n1).o j = .arr ep ty sz es from hj] at hob
    obtain ⟨hsz, xs, hown, hrow⟩ := hob
    have hBs : ∀ b, mutB M (upd φ fr val) ((⟨o', us⟩ : Hp).put [(fr, .arr 0 ty sz es)]) b -> mutB (mutB M φ ⟨o', us⟩) φ1 (hp o1 n1) b := by
     rintro b (hb | ⟨id, hl, hb⟩)
     ·exact .inl (.inl hb)
     ·by_cases e : id = fr
      ·subst e
       simp at hb
       exact .inr (hlive b hb)
      ·simp [e] at hl hb
       exact .inl (.inr ⟨id, hl, hb⟩)
    exact fin val xs hfresh hsz (by rw [hval]; exact hown) (hrow.mono (w := w') (w' := w') (fun b _ hB => ⟨rfl, fun h => hB (hBs b h)⟩)) v0
   ·have g1 : val = .slice none 0 0 := g1
    subst g1
    exact fin _ [] (fun b hb => by cases hb) hsz (World.ownsRow_nil w' 0 ty sz) ⟨[], rfl, by simp, rfl⟩ rfl
theorem HVt.of_own2 {P : Program} {g : FuncId} {args : List V} {ds : List D} {o : Nat -> Obj'} {fr : Nat} {ty : TypeId} {sz : Nat} {es : List D}
 (hds : toDs o args = some ds) (hfl : D.flats es = true) (h : CtK P g (ds.map .d) (fun _ => .no) 0 (fun v o1 _ => (∃ j ep, v = .osl j ep /\ o1 j = .arr ep ty sz es) \/ (v = .nils /\ es = [] /\ 0 < sz)) (fun _ _ _ => False)) :
 HVt P g args (V.idss args) o fr (.osl fr 0) [(fr, .arr 0 ty sz es)] := by
 refine ⟨h.1, fun o' us M φ w vals hag hfr hH hd => ?_⟩
 obtain ⟨f1, f2, f3, f4, f5⟩ := freezes hH (V.idss args) (fun id hid => (hag id hid).2)
 generalize hHF : (⟨o', us⟩ : Hp).put (frz (⟨o', us⟩ : Hp).o (V.idss args)) = HF at f1 f2 f3
 let φ0 : Place := fun _ => .nilFunc
 have hnl : ∀ b, ¬ liveB φ0 (hp (fun _ => .no) 0) b := by rintro b ⟨id, hl, _⟩; simp [hp, Obj'.live] at hl
 have hM : ∀ b, mutB M φ HF b -> b < w.heap.size := fun b hb => hb.elim (f1.old b) fun hl => (f1.ours b hl).2
 have hdd : D.dens (mutB M φ HF) w ds vals.toList := toDs_den f1 args ds _ (fun id hid => by rw [f3 id hid]; show (o' id).fz = (o id).fz; rw [(hag id hid).1]) hds (V.dens_mono f2 _ _ hd)
 refine (h.2 (mutB M φ HF) φ0 w vals (emptyHeap φ0 hM) ((V.dens_map_d _ _).2 (D.dens_mono (w := w) (w' := w) (B := mutB M φ HF) (fun b _ hB => ⟨rfl, fun h => h.elim hB (hnl b)⟩) _ _ hdd))).mono ?_
 rintro e w' ⟨φ1, o1, n1, v, k1, k2, k3⟩
 have hk : Keep (fun _ => False) w w' := ⟨k2.keep.os, k2.keep.tape, k2.keep.output, k2.keep.size, fun k hk _ => k2.keep.block k hk (hnl k)⟩
 have hpe : (⟨o', us⟩ : Hp).put [(fr, .arr 0 ty sz es)] = ⟨put o' [(fr, .arr 0 ty sz es)], fun id => us id \/ id = fr⟩ := by
  simp only [Hp.put]
  congr 1
  funext id
  simp
 have fin : ∀ (val : Value) (xs : List Value), (∀ b, blk val = some b -> w.heap.size <= b /\ b < w'.heap.size) -> 0 < sz -> w'.ownsRow 0 ty sz val es.length xs ->
  (RowDen (mutB M (upd φ fr val) ((⟨o', us⟩ : Hp).put [(fr, .arr 0 ty sz es)])) w' sz es xs) ->
  val.oneCell' = true ->
  ∃ φ', HeapOk M φ' ⟨put o' [(fr, .arr 0 ty sz es)], fun id => us id \/ id = fr⟩ w' /\ Trans φ ⟨o', us⟩ w φ' ⟨put o' [(fr, .arr 0 ty sz es)], fun id => us id \/ id = fr⟩ w' /\
   ∃ val', Ending.returned val = .returned val' /\ V.den (mutB M φ' ⟨put o' [(fr, .arr 0 ty sz es)], fun id => us id \/ id = fr⟩) φ' ⟨put o' [(fr, .arr 0 ty sz es)], fun id => us id \/ id = fr⟩ w' (.osl fr 0) val' := by
  intro val xs hfresh hsz hown hrow hsl
  have hheap := heap_new hH hk hfr (.arr 0 ty sz es) val hfresh (by
   unfold ObjOk
   rw [show ((⟨o', us⟩ : Hp).put [(fr, .arr 0 ty sz es)]).o fr = .arr 0 ty sz es by simp]
   refine ⟨hsz, xs, ?_, hrow⟩
   rw [show upd φ fr val fr = val by simp]
   exact hown)
  have htr := trans_new (φ := φ) (H := ⟨o', us⟩) hk hfr (.arr 0 ty sz es) val (fun b hb => (hfresh b hb).1)
  rw [hpe] at hheap htr
  refine ⟨upd φ fr val, hheap, htr, val, rfl, hsl, .inr rfl, fun e he => ?_⟩
  have he' : 0 = e := by
   have : (put o' [(fr, Obj'.arr 0 ty sz es)] fr).epoch = some 0 := by simp [put, Obj'.epoch]
   rw [show (⟨put o' [(fr, .arr 0 ty sz es)], fun id => us id \/ id = fr⟩ : Hp).o fr = put o' [(fr, .arr 0 ty sz es)] fr from rfl, this] at he
   injection he
  exact ⟨by omega, fun _ => by simp⟩
 cases e with
 | outgrown => exact k3.elim
 | panicked ch => obtain ⟨_, _, _, h⟩ := k3; exact h.elim
 | returned val =>
   obtain ⟨g1, ⟨j, ep, rfl, hj⟩ | ⟨rfl, rfl, hsz⟩⟩ := k3
   ·obtain ⟨v0, v1, v2⟩ := g1
    have hval : val = φ1 j := (v2 ep (by show (o1 j).epoch = some ep; rw [hj]; rfl)).2 rfl
    have hlive : ∀ b, blk val = some b -> liveB φ1 (hp o1 n1) b := fun b hb => ⟨j, by show (o1 j).live = true; rw [hj]; rfl, by rw [<- hval]; exact hb⟩
    have hfresh : ∀ b, blk val = some b -> w.heap.size <= b /\ b < w'.heap.size := fun b hb => ⟨(k2.grow b (hlive b hb)).resolve_left (hnl b), (k1.ours b (hlive b hb)).2⟩
    have hob := k1.ok j
    unfold ObjOk at hob
    rw [show (hp o1 n1).o j = .arr ep ty sz es from hj] at hob
    obtain ⟨hsz, xs, hown, hrow⟩ := hob
    obtain ⟨evs, e1, e2, e3⟩ := hrow
    exact fin val xs hfresh hsz (by rw [hval]; exact hown) ⟨evs, e1, e2, D.flats_dens _ _ hfl e3⟩ v0
   ·have g1 : val = .slice none 0 0 := g1
    subst g1
    exact fin _ [] (fun b hb => by cases hb) hsz (World.ownsRow_nil w' 0 ty sz) ⟨[], rfl, by simp, rfl⟩ rfl
theorem HVt.of_args {P : Program} {g : FuncId} {args : List V} {ds : List D} {o0 o : Nat -> Obj'} {rd : List Nat} {fr : Nat} {v : V} {Δ : List (Nat × Obj')} (hid : V.idss args = []) (hds : toDs o0 args = some ds)
 (h : HVt P g (ds.map .d) rd o fr v Δ) : HVt P g args rd o fr v Δ :=
 ⟨h.1, fun o' us M φ w vals h1 h2 hH hd => h.2 o' us M φ w vals h1 h2 hH ((V.dens_map_d _ _).2 (toDs_den hH args ds _ (by rw [hid]; intro id h; cases h) hds hd))⟩
end Go.Proofs.YtealblliddhgiaaGreat
