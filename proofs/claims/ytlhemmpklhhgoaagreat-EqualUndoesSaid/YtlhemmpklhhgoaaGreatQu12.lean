/-
  A PART OF THE PROOF. Conditions: none.
-/
import Derived.Test.YtlhemmpklhhgoaaGreatQu11
set_option linter.unusedSimpArgs false
set_option linter.unusedVariables false
namespace Go.Proofs.YtlhemmpklhhgoaaGreat
@[reducible] def mv (d s:Nat):bT:=⟨some d, .move (.tmp s),none⟩
@[reducible] def tg (d:Nat) (n:Int):bT:=⟨some d, .move (.const (.int .i64 n)),none⟩
@[reducible] def sg (d s:Nat):bT:=⟨some d, .assign (.tmp s),none⟩
@[reducible] def cP (d:Nat) (n:Int):bT:=⟨some d, .assign (.const (.int .i64 n)),none⟩
@[reducible] def bF (d:Nat) (b:Bool):bT:=⟨some d, .assign (.const (.bool b)),none⟩
@[reducible] def ld (d t s:Nat):bT:=⟨some d, .load t (.tmp s),none⟩
@[reducible] def st (t a b:Nat):bT:=⟨none, .store t (.tmp a) (.tmp b),none⟩
@[reducible] def fa (d t s f:Nat):bT:=⟨some d, .fieldAddr t (.tmp s) f,none⟩
@[reducible] def ex (d s i:Nat):bT:=⟨some d, .extract (.tmp s) i,none⟩
@[reducible] def dD (d c a:Nat):bT:=⟨some d, .pick (.tmp c) (.tmp a) (.const (.bool false)),none⟩
@[reducible] def eW (d c a:Nat):bT:=⟨some d, .pick (.tmp c) (.const (.bool true)) (.tmp a),none⟩
@[reducible] def ia (d t x i:Nat):bT:=⟨some d, .indexAddr t (.tmp x) (.tmp i),none⟩
@[reducible] def bx (d t s:Nat):bT:=⟨some d, .box t (.tmp s),none⟩
@[reducible] def al (d t:Nat):bT:=⟨some d, .alloc t,none⟩
@[reducible] def ln (d s t:Nat):bT:=⟨some d, .call {callee:= .builtin .len,args:=#[.tmp s],argTypes:=#[t]},none⟩
@[reducible] def k0 (d f:Nat):bT:=⟨some d, .call {callee:= .value (.func f),args:=#[],argTypes:=#[]},none⟩
@[reducible] def k1 (d f a t:Nat):bT:=⟨some d, .call {callee:= .value (.func f),args:=#[.tmp a],argTypes:=#[t]},none⟩
@[reducible] def k2 (d f a b t u:Nat):bT:=⟨some d, .call {callee:= .value (.func f),args:=#[.tmp a, .tmp b],argTypes:=#[t,u]},none⟩
@[reducible] def k3 (d f a b c t u v:Nat):bT:=⟨some d, .call {callee:= .value (.func f),args:=#[.tmp a, .tmp b, .tmp c],argTypes:=#[t,u,v]},none⟩
@[reducible] def k4 (d f a b c e t u v w:Nat):bT:=⟨some d, .call {callee:= .value (.func f),args:=#[.tmp a, .tmp b, .tmp c, .tmp e],argTypes:=#[t,u,v,w]},none⟩
@[reducible] def kg (d f:Nat) (xs:Array Operand) (ts:Array TypeId):bT:=⟨some d, .call {callee:= .value (.func f),args:=xs,argTypes:=ts},none⟩
@[reducible] def ka (d a b t:Nat):bT:=⟨some d, .call {callee:= .builtin .append,args:=#[.tmp a, .tmp b],argTypes:=#[t,t]},none⟩
@[reducible] def qK (d t x:Nat):bT:=⟨some d, .buildSlice t 1 #[(0, .tmp x)],none⟩
@[reducible] def sj (d:Nat):bT:=⟨some d, .assign (.const (.slice none 0 0)),none⟩
@[reducible] def OJ (d t x:Nat) (n:Int):bT:=⟨some d, .indexAddr t (.tmp x) (.const (.int .i64 n)),none⟩
@[reducible] def bo (op:BinOp) (d t x y u:Nat):bT:=⟨some d, .binOp op t (.tmp x) (.tmp y) u,none⟩
@[reducible] def bk (op:BinOp) (d t x:Nat) (n:Int) (u:Nat):bT:=⟨some d, .binOp op t (.tmp x) (.const (.int .i64 n)) u,none⟩
@[reducible] def nt (d t s:Nat):bT:=⟨some d, .unOp .not t (.tmp s),none⟩
@[reducible] def nc (d s:Nat):bT:=⟨some d, .nilCheck (.tmp s),none⟩
@[reducible] def gT (o:bT) (g:Nat):bT:=⟨o.dst,o.op,some (g,true)⟩
@[reducible] def gF (o:bT) (g:Nat):bT:=⟨o.dst,o.op,some (g,false)⟩
attribute [go_sem] mv tg sg cP bF ld st fa ex dD eW ia bx al ln k0 k1 k2 k3 k4 kg ka qK sj OJ bo bk nt nc gT gF
end Go.Proofs.YtlhemmpklhhgoaaGreat
