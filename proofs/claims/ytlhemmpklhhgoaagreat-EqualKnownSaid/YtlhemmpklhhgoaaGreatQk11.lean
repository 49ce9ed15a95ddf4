/-
  A PART OF THE PROOF. Conditions: none.
-/
import Derived.Test.YtlhemmpklhhgoaaGreatQk10
set_option linter.unusedSimpArgs false
set_option linter.unusedVariables false
namespace Go.Proofs.YtlhemmpklhhgoaaGreat
@[reducible] def mv (d s:Nat):aP:=⟨some d, .move (.tmp s),none⟩
@[reducible] def oh (d:Nat) (n:Int):aP:=⟨some d, .move (.const (.int .i64 n)),none⟩
@[reducible] def sg (d s:Nat):aP:=⟨some d, .assign (.tmp s),none⟩
@[reducible] def b7 (d:Nat) (n:Int):aP:=⟨some d, .assign (.const (.int .i64 n)),none⟩
@[reducible] def bG (d:Nat) (b:Bool):aP:=⟨some d, .assign (.const (.bool b)),none⟩
@[reducible] def ld (d t s:Nat):aP:=⟨some d, .load t (.tmp s),none⟩
@[reducible] def st (t a b:Nat):aP:=⟨none, .store t (.tmp a) (.tmp b),none⟩
@[reducible] def fa (d t s f:Nat):aP:=⟨some d, .fieldAddr t (.tmp s) f,none⟩
@[reducible] def ex (d s i:Nat):aP:=⟨some d, .extract (.tmp s) i,none⟩
@[reducible] def cD (d c a:Nat):aP:=⟨some d, .pick (.tmp c) (.tmp a) (.const (.bool false)),none⟩
@[reducible] def ei (d c a:Nat):aP:=⟨some d, .pick (.tmp c) (.const (.bool true)) (.tmp a),none⟩
@[reducible] def ia (d t x i:Nat):aP:=⟨some d, .indexAddr t (.tmp x) (.tmp i),none⟩
@[reducible] def bx (d t s:Nat):aP:=⟨some d, .box t (.tmp s),none⟩
@[reducible] def al (d t:Nat):aP:=⟨some d, .alloc t,none⟩
@[reducible] def ln (d s t:Nat):aP:=⟨some d, .call {callee:= .builtin .len,args:=#[.tmp s],argTypes:=#[t]},none⟩
@[reducible] def k0 (d f:Nat):aP:=⟨some d, .call {callee:= .value (.func f),args:=#[],argTypes:=#[]},none⟩
@[reducible] def k1 (d f a t:Nat):aP:=⟨some d, .call {callee:= .value (.func f),args:=#[.tmp a],argTypes:=#[t]},none⟩
@[reducible] def k2 (d f a b t u:Nat):aP:=⟨some d, .call {callee:= .value (.func f),args:=#[.tmp a, .tmp b],argTypes:=#[t,u]},none⟩
@[reducible] def k3 (d f a b c t u v:Nat):aP:=⟨some d, .call {callee:= .value (.func f),args:=#[.tmp a, .tmp b, .tmp c],argTypes:=#[t,u,v]},none⟩
@[reducible] def k4 (d f a b c e t u v w:Nat):aP:=⟨some d, .call {callee:= .value (.func f),args:=#[.tmp a, .tmp b, .tmp c, .tmp e],argTypes:=#[t,u,v,w]},none⟩
@[reducible] def kg (d f:Nat) (xs:Array Operand) (ts:Array TypeId):aP:=⟨some d, .call {callee:= .value (.func f),args:=xs,argTypes:=ts},none⟩
@[reducible] def ka (d a b t:Nat):aP:=⟨some d, .call {callee:= .builtin .append,args:=#[.tmp a, .tmp b],argTypes:=#[t,t]},none⟩
@[reducible] def nh (d t x:Nat):aP:=⟨some d, .buildSlice t 1 #[(0, .tmp x)],none⟩
@[reducible] def rT (d:Nat):aP:=⟨some d, .assign (.const (.slice none 0 0)),none⟩
@[reducible] def ya (d t x:Nat) (n:Int):aP:=⟨some d, .indexAddr t (.tmp x) (.const (.int .i64 n)),none⟩
@[reducible] def bo (op:BinOp) (d t x y u:Nat):aP:=⟨some d, .binOp op t (.tmp x) (.tmp y) u,none⟩
@[reducible] def bk (op:BinOp) (d t x:Nat) (n:Int) (u:Nat):aP:=⟨some d, .binOp op t (.tmp x) (.const (.int .i64 n)) u,none⟩
@[reducible] def nt (d t s:Nat):aP:=⟨some d, .unOp .not t (.tmp s),none⟩
@[reducible] def nc (d s:Nat):aP:=⟨some d, .nilCheck (.tmp s),none⟩
@[reducible] def gT (o:aP) (g:Nat):aP:=⟨o.dst,o.op,some (g,true)⟩
@[reducible] def gF (o:aP) (g:Nat):aP:=⟨o.dst,o.op,some (g,false)⟩
attribute [go_sem] mv oh sg b7 bG ld st fa ex cD ei ia bx al ln k0 k1 k2 k3 k4 kg ka nh rT ya bo bk nt nc gT gF
end Go.Proofs.YtlhemmpklhhgoaaGreat
