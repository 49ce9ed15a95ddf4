/-
  A PART OF THE PROOF. Conditions: none.
-/
import Derived.Test.YtonbelhklnmjnaaGreatLt10
set_option linter.unusedSimpArgs false
set_option linter.unusedVariables false
namespace Go.Proofs.YtonbelhklnmjnaaGreat
@[reducible] def mv (d s:Nat):cz:=⟨some d, .move (.tmp s),none⟩
@[reducible] def vg (d:Nat) (n:Int):cz:=⟨some d, .move (.const (.int .i64 n)),none⟩
@[reducible] def sg (d s:Nat):cz:=⟨some d, .assign (.tmp s),none⟩
@[reducible] def dh (d:Nat) (n:Int):cz:=⟨some d, .assign (.const (.int .i64 n)),none⟩
@[reducible] def bJ (d:Nat) (b:Bool):cz:=⟨some d, .assign (.const (.bool b)),none⟩
@[reducible] def ld (d t s:Nat):cz:=⟨some d, .load t (.tmp s),none⟩
@[reducible] def st (t a b:Nat):cz:=⟨none, .store t (.tmp a) (.tmp b),none⟩
@[reducible] def fa (d t s f:Nat):cz:=⟨some d, .fieldAddr t (.tmp s) f,none⟩
@[reducible] def ex (d s i:Nat):cz:=⟨some d, .extract (.tmp s) i,none⟩
@[reducible] def cf (d c a:Nat):cz:=⟨some d, .pick (.tmp c) (.tmp a) (.const (.bool false)),none⟩
@[reducible] def ei (d c a:Nat):cz:=⟨some d, .pick (.tmp c) (.const (.bool true)) (.tmp a),none⟩
@[reducible] def ia (d t x i:Nat):cz:=⟨some d, .indexAddr t (.tmp x) (.tmp i),none⟩
@[reducible] def bx (d t s:Nat):cz:=⟨some d, .box t (.tmp s),none⟩
@[reducible] def al (d t:Nat):cz:=⟨some d, .alloc t,none⟩
@[reducible] def ln (d s t:Nat):cz:=⟨some d, .call {callee:= .builtin .len,args:=#[.tmp s],argTypes:=#[t]},none⟩
@[reducible] def k0 (d f:Nat):cz:=⟨some d, .call {callee:= .value (.func f),args:=#[],argTypes:=#[]},none⟩
@[reducible] def k1 (d f a t:Nat):cz:=⟨some d, .call {callee:= .value (.func f),args:=#[.tmp a],argTypes:=#[t]},none⟩
@[reducible] def k2 (d f a b t u:Nat):cz:=⟨some d, .call {callee:= .value (.func f),args:=#[.tmp a, .tmp b],argTypes:=#[t,u]},none⟩
@[reducible] def k3 (d f a b c t u v:Nat):cz:=⟨some d, .call {callee:= .value (.func f),args:=#[.tmp a, .tmp b, .tmp c],argTypes:=#[t,u,v]},none⟩
@[reducible] def bo (op:BinOp) (d t x y u:Nat):cz:=⟨some d, .binOp op t (.tmp x) (.tmp y) u,none⟩
@[reducible] def bk (op:BinOp) (d t x:Nat) (n:Int) (u:Nat):cz:=⟨some d, .binOp op t (.tmp x) (.const (.int .i64 n)) u,none⟩
@[reducible] def nt (d t s:Nat):cz:=⟨some d, .unOp .not t (.tmp s),none⟩
@[reducible] def nc (d s:Nat):cz:=⟨some d, .nilCheck (.tmp s),none⟩
@[reducible] def gT (o:cz) (g:Nat):cz:=⟨o.dst,o.op,some (g,true)⟩
@[reducible] def gF (o:cz) (g:Nat):cz:=⟨o.dst,o.op,some (g,false)⟩
attribute [go_sem] mv vg sg dh bJ ld st fa ex cf ei ia bx al ln k0 k1 k2 k3 bo bk nt nc gT gF
end Go.Proofs.YtonbelhklnmjnaaGreat
