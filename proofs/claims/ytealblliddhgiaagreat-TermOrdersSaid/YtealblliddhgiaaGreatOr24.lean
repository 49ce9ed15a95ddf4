/-
  A PART OF THE PROOF (put together by program): several texts, one behind the other. Conditions: none.
-/
import Derived.Test.YtealblliddhgiaaGreatOr23
set_option linter.unusedSimpArgs false
set_option linter.unusedVariables false
namespace Go.Proofs.YtealblliddhgiaaGreat
@[reducible] def mv (d s : Nat) : IOp := ⟨some d, .move (.tmp s), none⟩
@[reducible] def mvk (d : Nat) (n : Int) : IOp := ⟨some d, .move (.const (.int .i64 n)), none⟩
@[reducible] def sg (d s : Nat) : IOp := ⟨some d, .assign (.tmp s), none⟩
@[reducible] def sgk (d : Nat) (n : Int) : IOp := ⟨some d, .assign (.const (.int .i64 n)), none⟩
@[reducible] def sgb (d : Nat) (b : Bool) : IOp := ⟨some d, .assign (.const (.bool b)), none⟩
@[reducible] def ld (d t s : Nat) : IOp := ⟨some d, .load t (.tmp s), none⟩
@[reducible] def st (t a b : Nat) : IOp := ⟨none, .store t (.tmp a) (.tmp b), none⟩
@[reducible] def fa (d t s f : Nat) : IOp := ⟨some d, .fieldAddr t (.tmp s) f, none⟩
@[reducible] def ex (d s i : Nat) : IOp := ⟨some d, .extract (.tmp s) i, none⟩
@[reducible] def pkf (d c a : Nat) : IOp := ⟨some d, .pick (.tmp c) (.tmp a) (.const (.bool false)), none⟩
@[reducible] def pkt (d c a : Nat) : IOp := ⟨some d, .pick (.tmp c) (.const (.bool true)) (.tmp a), none⟩
@[reducible] def ia (d t x i : Nat) : IOp := ⟨some d, .indexAddr t (.tmp x) (.tmp i), none⟩
@[reducible] def bx (d t s : Nat) : IOp := ⟨some d, .box t (.tmp s), none⟩
@[reducible] def al (d t : Nat) : IOp := ⟨some d, .alloc t, none⟩
@[reducible] def ln (d s t : Nat) : IOp := ⟨some d, .call { callee := .builtin .len, args := #[.tmp s], argTypes := #[t] }, none⟩
@[reducible] def k0 (d f : Nat) : IOp := ⟨some d, .call { callee := .value (.func f), args := #[], argTypes := #[] }, none⟩
@[reducible] def k1 (d f a t : Nat) : IOp := ⟨some d, .call { callee := .value (.func f), args := #[.tmp a], argTypes := #[t] }, none⟩
@[reducible] def k2 (d f a b t u : Nat) : IOp := ⟨some d, .call { callee := .value (.func f), args := #[.tmp a, .tmp b], argTypes := #[t, u] }, none⟩
@[reducible] def k3 (d f a b c t u v : Nat) : IOp := ⟨some d, .call { callee := .value (.func f), args := #[.tmp a, .tmp b, .tmp c], argTypes := #[t, u, v] }, none⟩
@[reducible] def bo (op : BinOp) (d t x y u : Nat) : IOp := ⟨some d, .binOp op t (.tmp x) (.tmp y) u, none⟩
@[reducible] def bk (op : BinOp) (d t x : Nat) (n : Int) (u : Nat) : IOp := ⟨some d, .binOp op t (.tmp x) (.const (.int .i64 n)) u, none⟩
@[reducible] def nt (d t s : Nat) : IOp := ⟨some d, .unOp .not t (.tmp s), none⟩
@[reducible] def nc (d s : Nat) : IOp := ⟨some d, .nilCheck (.tmp s), none⟩
@[reducible] def gT (o : IOp) (g : Nat) : IOp := ⟨o.dst, o.op, some (g, true)⟩
@[reducible] def gF (o : IOp) (g : Nat) : IOp := ⟨o.dst, o.op, some (g, false)⟩
attribute [go_sem] mv mvk sg sgk sgb ld st fa ex pkf pkt ia bx al ln k0 k1 k2 k3 bo bk nt nc gT gF
end Go.Proofs.YtealblliddhgiaaGreat
