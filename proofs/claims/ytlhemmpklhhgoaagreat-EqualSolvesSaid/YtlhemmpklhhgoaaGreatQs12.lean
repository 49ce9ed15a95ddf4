/-
  A PART OF THE PROOF. Conditions: none.
-/
import Derived.Test.YtlhemmpklhhgoaaGreatQs11
set_option linter.unusedSimpArgs false
set_option linter.unusedVariables false
namespace Go.Proofs.YtlhemmpklhhgoaaGreat
@[reducible] def mv (d s:Nat):bP:=⟨some d, .move (.tmp s),none⟩
@[reducible] def wC (d:Nat) (n:Int):bP:=⟨some d, .move (.const (.int .i64 n)),none⟩
@[reducible] def sg (d s:Nat):bP:=⟨some d, .assign (.tmp s),none⟩
@[reducible] def cF (d:Nat) (n:Int):bP:=⟨some d, .assign (.const (.int .i64 n)),none⟩
@[reducible] def bE (d:Nat) (b:Bool):bP:=⟨some d, .assign (.const (.bool b)),none⟩
@[reducible] def ld (d t s:Nat):bP:=⟨some d, .load t (.tmp s),none⟩
@[reducible] def st (t a b:Nat):bP:=⟨none, .store t (.tmp a) (.tmp b),none⟩
@[reducible] def fa (d t s f:Nat):bP:=⟨some d, .fieldAddr t (.tmp s) f,none⟩
@[reducible] def ex (d s i:Nat):bP:=⟨some d, .extract (.tmp s) i,none⟩
@[reducible] def dE (d c a:Nat):bP:=⟨some d, .pick (.tmp c) (.tmp a) (.const (.bool false)),none⟩
@[reducible] def fN (d c a:Nat):bP:=⟨some d, .pick (.tmp c) (.const (.bool true)) (.tmp a),none⟩
@[reducible] def ia (d t x i:Nat):bP:=⟨some d, .indexAddr t (.tmp x) (.tmp i),none⟩
@[reducible] def bx (d t s:Nat):bP:=⟨some d, .box t (.tmp s),none⟩
@[reducible] def al (d t:Nat):bP:=⟨some d, .alloc t,none⟩
@[reducible] def ln (d s t:Nat):bP:=⟨some d, .call {callee:= .builtin .len,args:=#[.tmp s],argTypes:=#[t]},none⟩
@[reducible] def k0 (d f:Nat):bP:=⟨some d, .call {callee:= .value (.func f),args:=#[],argTypes:=#[]},none⟩
@[reducible] def k1 (d f a t:Nat):bP:=⟨some d, .call {callee:= .value (.func f),args:=#[.tmp a],argTypes:=#[t]},none⟩
@[reducible] def k2 (d f a b t u:Nat):bP:=⟨some d, .call {callee:= .value (.func f),args:=#[.tmp a, .tmp b],argTypes:=#[t,u]},none⟩
@[reducible] def k3 (d f a b c t u v:Nat):bP:=⟨some d, .call {callee:= .value (.func f),args:=#[.tmp a, .tmp b, .tmp c],argTypes:=#[t,u,v]},none⟩
@[reducible] def k4 (d f a b c e t u v w:Nat):bP:=⟨some d, .call {callee:= .value (.func f),args:=#[.tmp a, .tmp b, .tmp c, .tmp e],argTypes:=#[t,u,v,w]},none⟩
@[reducible] def kg (d f:Nat) (xs:Array Operand) (ts:Array TypeId):bP:=⟨some d, .call {callee:= .value (.func f),args:=xs,argTypes:=ts},none⟩
@[reducible] def ka (d a b t:Nat):bP:=⟨some d, .call {callee:= .builtin .append,args:=#[.tmp a, .tmp b],argTypes:=#[t,t]},none⟩
@[reducible] def nZ (d t x:Nat):bP:=⟨some d, .buildSlice t 1 #[(0, .tmp x)],none⟩
@[reducible] def oR (d:Nat):bP:=⟨some d, .assign (.const (.slice none 0 0)),none⟩
@[reducible] def NI (d t x:Nat) (n:Int):bP:=⟨some d, .indexAddr t (.tmp x) (.const (.int .i64 n)),none⟩
@[reducible] def bo (op:BinOp) (d t x y u:Nat):bP:=⟨some d, .binOp op t (.tmp x) (.tmp y) u,none⟩
@[reducible] def bk (op:BinOp) (d t x:Nat) (n:Int) (u:Nat):bP:=⟨some d, .binOp op t (.tmp x) (.const (.int .i64 n)) u,none⟩
@[reducible] def nt (d t s:Nat):bP:=⟨some d, .unOp .not t (.tmp s),none⟩
@[reducible] def nc (d s:Nat):bP:=⟨some d, .nilCheck (.tmp s),none⟩
@[reducible] def gT (o:bP) (g:Nat):bP:=⟨o.dst,o.op,some (g,true)⟩
@[reducible] def gF (o:bP) (g:Nat):bP:=⟨o.dst,o.op,some (g,false)⟩
attribute [go_sem] mv wC sg cF bE ld st fa ex dE fN ia bx al ln k0 k1 k2 k3 k4 kg ka nZ oR NI bo bk nt nc gT gF
end Go.Proofs.YtlhemmpklhhgoaaGreat
