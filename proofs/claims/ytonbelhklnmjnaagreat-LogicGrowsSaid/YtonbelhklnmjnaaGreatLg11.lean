/-
  A PART OF THE PROOF. Conditions: none.
-/
import Derived.Test.YtonbelhklnmjnaaGreatLg10
set_option linter.unusedSimpArgs false
set_option linter.unusedVariables false
namespace Go.Proofs.YtonbelhklnmjnaaGreat
@[reducible] def mv (d s:Nat):cu:=⟨some d, .move (.tmp s),none⟩
@[reducible] def u9 (d:Nat) (n:Int):cu:=⟨some d, .move (.const (.int .i64 n)),none⟩
@[reducible] def sg (d s:Nat):cu:=⟨some d, .assign (.tmp s),none⟩
@[reducible] def dy (d:Nat) (n:Int):cu:=⟨some d, .assign (.const (.int .i64 n)),none⟩
@[reducible] def bH (d:Nat) (b:Bool):cu:=⟨some d, .assign (.const (.bool b)),none⟩
@[reducible] def ld (d t s:Nat):cu:=⟨some d, .load t (.tmp s),none⟩
@[reducible] def st (t a b:Nat):cu:=⟨none, .store t (.tmp a) (.tmp b),none⟩
@[reducible] def fa (d t s f:Nat):cu:=⟨some d, .fieldAddr t (.tmp s) f,none⟩
@[reducible] def ex (d s i:Nat):cu:=⟨some d, .extract (.tmp s) i,none⟩
@[reducible] def b8 (d c a:Nat):cu:=⟨some d, .pick (.tmp c) (.tmp a) (.const (.bool false)),none⟩
@[reducible] def dV (d c a:Nat):cu:=⟨some d, .pick (.tmp c) (.const (.bool true)) (.tmp a),none⟩
@[reducible] def ia (d t x i:Nat):cu:=⟨some d, .indexAddr t (.tmp x) (.tmp i),none⟩
@[reducible] def bx (d t s:Nat):cu:=⟨some d, .box t (.tmp s),none⟩
@[reducible] def al (d t:Nat):cu:=⟨some d, .alloc t,none⟩
@[reducible] def ln (d s t:Nat):cu:=⟨some d, .call {callee:= .builtin .len,args:=#[.tmp s],argTypes:=#[t]},none⟩
@[reducible] def k0 (d f:Nat):cu:=⟨some d, .call {callee:= .value (.func f),args:=#[],argTypes:=#[]},none⟩
@[reducible] def k1 (d f a t:Nat):cu:=⟨some d, .call {callee:= .value (.func f),args:=#[.tmp a],argTypes:=#[t]},none⟩
@[reducible] def k2 (d f a b t u:Nat):cu:=⟨some d, .call {callee:= .value (.func f),args:=#[.tmp a, .tmp b],argTypes:=#[t,u]},none⟩
@[reducible] def k3 (d f a b c t u v:Nat):cu:=⟨some d, .call {callee:= .value (.func f),args:=#[.tmp a, .tmp b, .tmp c],argTypes:=#[t,u,v]},none⟩
@[reducible] def bo (op:BinOp) (d t x y u:Nat):cu:=⟨some d, .binOp op t (.tmp x) (.tmp y) u,none⟩
@[reducible] def bk (op:BinOp) (d t x:Nat) (n:Int) (u:Nat):cu:=⟨some d, .binOp op t (.tmp x) (.const (.int .i64 n)) u,none⟩
@[reducible] def nt (d t s:Nat):cu:=⟨some d, .unOp .not t (.tmp s),none⟩
@[reducible] def nc (d s:Nat):cu:=⟨some d, .nilCheck (.tmp s),none⟩
@[reducible] def gT (o:cu) (g:Nat):cu:=⟨o.dst,o.op,some (g,true)⟩
@[reducible] def gF (o:cu) (g:Nat):cu:=⟨o.dst,o.op,some (g,false)⟩
attribute [go_sem] mv u9 sg dy bH ld st fa ex b8 dV ia bx al ln k0 k1 k2 k3 bo bk nt nc gT gF
end Go.Proofs.YtonbelhklnmjnaaGreat
