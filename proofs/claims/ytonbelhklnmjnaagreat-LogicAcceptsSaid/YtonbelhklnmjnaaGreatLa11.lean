/-
  A PART OF THE PROOF. Conditions: none.
-/
import Derived.Test.YtonbelhklnmjnaaGreatLa10
set_option linter.unusedSimpArgs false
set_option linter.unusedVariables false
namespace Go.Proofs.YtonbelhklnmjnaaGreat
@[reducible] def mv (d s:Nat):cI:=⟨some d, .move (.tmp s),none⟩
@[reducible] def vZ (d:Nat) (n:Int):cI:=⟨some d, .move (.const (.int .i64 n)),none⟩
@[reducible] def sg (d s:Nat):cI:=⟨some d, .assign (.tmp s),none⟩
@[reducible] def de (d:Nat) (n:Int):cI:=⟨some d, .assign (.const (.int .i64 n)),none⟩
@[reducible] def bD (d:Nat) (b:Bool):cI:=⟨some d, .assign (.const (.bool b)),none⟩
@[reducible] def ld (d t s:Nat):cI:=⟨some d, .load t (.tmp s),none⟩
@[reducible] def st (t a b:Nat):cI:=⟨none, .store t (.tmp a) (.tmp b),none⟩
@[reducible] def fa (d t s f:Nat):cI:=⟨some d, .fieldAddr t (.tmp s) f,none⟩
@[reducible] def ex (d s i:Nat):cI:=⟨some d, .extract (.tmp s) i,none⟩
@[reducible] def bQ (d c a:Nat):cI:=⟨some d, .pick (.tmp c) (.tmp a) (.const (.bool false)),none⟩
@[reducible] def dF (d c a:Nat):cI:=⟨some d, .pick (.tmp c) (.const (.bool true)) (.tmp a),none⟩
@[reducible] def ia (d t x i:Nat):cI:=⟨some d, .indexAddr t (.tmp x) (.tmp i),none⟩
@[reducible] def bx (d t s:Nat):cI:=⟨some d, .box t (.tmp s),none⟩
@[reducible] def al (d t:Nat):cI:=⟨some d, .alloc t,none⟩
@[reducible] def ln (d s t:Nat):cI:=⟨some d, .call {callee:= .builtin .len,args:=#[.tmp s],argTypes:=#[t]},none⟩
@[reducible] def k0 (d f:Nat):cI:=⟨some d, .call {callee:= .value (.func f),args:=#[],argTypes:=#[]},none⟩
@[reducible] def k1 (d f a t:Nat):cI:=⟨some d, .call {callee:= .value (.func f),args:=#[.tmp a],argTypes:=#[t]},none⟩
@[reducible] def k2 (d f a b t u:Nat):cI:=⟨some d, .call {callee:= .value (.func f),args:=#[.tmp a, .tmp b],argTypes:=#[t,u]},none⟩
@[reducible] def k3 (d f a b c t u v:Nat):cI:=⟨some d, .call {callee:= .value (.func f),args:=#[.tmp a, .tmp b, .tmp c],argTypes:=#[t,u,v]},none⟩
@[reducible] def bo (op:BinOp) (d t x y u:Nat):cI:=⟨some d, .binOp op t (.tmp x) (.tmp y) u,none⟩
@[reducible] def bk (op:BinOp) (d t x:Nat) (n:Int) (u:Nat):cI:=⟨some d, .binOp op t (.tmp x) (.const (.int .i64 n)) u,none⟩
@[reducible] def nt (d t s:Nat):cI:=⟨some d, .unOp .not t (.tmp s),none⟩
@[reducible] def nc (d s:Nat):cI:=⟨some d, .nilCheck (.tmp s),none⟩
@[reducible] def gT (o:cI) (g:Nat):cI:=⟨o.dst,o.op,some (g,true)⟩
@[reducible] def gF (o:cI) (g:Nat):cI:=⟨o.dst,o.op,some (g,false)⟩
attribute [go_sem] mv vZ sg de bD ld st fa ex bQ dF ia bx al ln k0 k1 k2 k3 bo bk nt nc gT gF
end Go.Proofs.YtonbelhklnmjnaaGreat
