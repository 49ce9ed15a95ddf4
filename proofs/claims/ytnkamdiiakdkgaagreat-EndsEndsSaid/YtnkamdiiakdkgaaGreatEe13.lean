/-
  A PART. Conditions: none.
-/
import Derived.Test.YtnkamdiiakdkgaaGreatEe12
set_option linter.unusedSimpArgs false
set_option linter.unusedVariables false
set_option maxHeartbeats 8000000
namespace Go.Proofs.YtnkamdiiakdkgaaGreat
@[reducible] def mv (d s:Nat):b8:=⟨some d, .move (.tmp s),none⟩
@[reducible] def nU (d:Nat) (n:Int):b8:=⟨some d, .move (.const (.int .i64 n)),none⟩
@[reducible] def sg (d s:Nat):b8:=⟨some d, .assign (.tmp s),none⟩
@[reducible] def cJ (d:Nat) (n:Int):b8:=⟨some d, .assign (.const (.int .i64 n)),none⟩
@[reducible] def bw (d:Nat) (b:Bool):b8:=⟨some d, .assign (.const (.bool b)),none⟩
@[reducible] def ld (d t s:Nat):b8:=⟨some d, .load t (.tmp s),none⟩
@[reducible] def st (t a b:Nat):b8:=⟨none, .store t (.tmp a) (.tmp b),none⟩
@[reducible] def fa (d t s f:Nat):b8:=⟨some d, .fieldAddr t (.tmp s) f,none⟩
@[reducible] def ex (d s i:Nat):b8:=⟨some d, .extract (.tmp s) i,none⟩
@[reducible] def cN (d c a:Nat):b8:=⟨some d, .pick (.tmp c) (.tmp a) (.const (.bool false)),none⟩
@[reducible] def dT (d c a:Nat):b8:=⟨some d, .pick (.tmp c) (.const (.bool true)) (.tmp a),none⟩
@[reducible] def ia (d t x i:Nat):b8:=⟨some d, .indexAddr t (.tmp x) (.tmp i),none⟩
@[reducible] def bx (d t s:Nat):b8:=⟨some d, .box t (.tmp s),none⟩
@[reducible] def al (d t:Nat):b8:=⟨some d, .alloc t,none⟩
@[reducible] def ln (d s t:Nat):b8:=⟨some d, .call {callee:= .builtin .len,args:=#[.tmp s],argTypes:=#[t]},none⟩
@[reducible] def k0 (d f:Nat):b8:=⟨some d, .call {callee:= .value (.func f),args:=#[],argTypes:=#[]},none⟩
@[reducible] def k1 (d f a t:Nat):b8:=⟨some d, .call {callee:= .value (.func f),args:=#[.tmp a],argTypes:=#[t]},none⟩
@[reducible] def k2 (d f a b t u:Nat):b8:=⟨some d, .call {callee:= .value (.func f),args:=#[.tmp a, .tmp b],argTypes:=#[t,u]},none⟩
@[reducible] def k3 (d f a b c t u v:Nat):b8:=⟨some d, .call {callee:= .value (.func f),args:=#[.tmp a, .tmp b, .tmp c],argTypes:=#[t,u,v]},none⟩
@[reducible] def k4 (d f a b c e t u v w:Nat):b8:=⟨some d, .call {callee:= .value (.func f),args:=#[.tmp a, .tmp b, .tmp c, .tmp e],argTypes:=#[t,u,v,w]},none⟩
@[reducible] def kg (d f:Nat) (xs:Array Operand) (ts:Array TypeId):b8:=⟨some d, .call {callee:= .value (.func f),args:=xs,argTypes:=ts},none⟩
@[reducible] def ka (d a b t:Nat):b8:=⟨some d, .call {callee:= .builtin .append,args:=#[.tmp a, .tmp b],argTypes:=#[t,t]},none⟩
@[reducible] def mf (d t x:Nat):b8:=⟨some d, .buildSlice t 1 #[(0, .tmp x)],none⟩
@[reducible] def jY (d:Nat):b8:=⟨some d, .assign (.const (.slice none 0 0)),none⟩
@[reducible] def Rh (d t x:Nat) (n:Int):b8:=⟨some d, .indexAddr t (.tmp x) (.const (.int .i64 n)),none⟩
@[reducible] def bo (op:BinOp) (d t x y u:Nat):b8:=⟨some d, .binOp op t (.tmp x) (.tmp y) u,none⟩
@[reducible] def bk (op:BinOp) (d t x:Nat) (n:Int) (u:Nat):b8:=⟨some d, .binOp op t (.tmp x) (.const (.int .i64 n)) u,none⟩
@[reducible] def nt (d t s:Nat):b8:=⟨some d, .unOp .not t (.tmp s),none⟩
@[reducible] def nc (d s:Nat):b8:=⟨some d, .nilCheck (.tmp s),none⟩
@[reducible] def gT (o:b8) (g:Nat):b8:=⟨o.dst,o.op,some (g,true)⟩
@[reducible] def gF (o:b8) (g:Nat):b8:=⟨o.dst,o.op,some (g,false)⟩
attribute [go_sem] mv nU sg cJ bw ld st fa ex cN dT ia bx al ln k0 k1 k2 k3 k4 kg ka mf jY Rh bo bk nt nc gT gF
end Go.Proofs.YtnkamdiiakdkgaaGreat
