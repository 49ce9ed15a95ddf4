/-
  A PART OF THE PROOF. Conditions: none.
-/
import Derived.Test.YtlhemmpklhhgoaaGreatQa11
set_option linter.unusedSimpArgs false
set_option linter.unusedVariables false
namespace Go.Proofs.YtlhemmpklhhgoaaGreat
@[reducible] def mv (d s:Nat):bK:=⟨some d, .move (.tmp s),none⟩
@[reducible] def vG (d:Nat) (n:Int):bK:=⟨some d, .move (.const (.int .i64 n)),none⟩
@[reducible] def sg (d s:Nat):bK:=⟨some d, .assign (.tmp s),none⟩
@[reducible] def bV (d:Nat) (n:Int):bK:=⟨some d, .assign (.const (.int .i64 n)),none⟩
@[reducible] def bD (d:Nat) (b:Bool):bK:=⟨some d, .assign (.const (.bool b)),none⟩
@[reducible] def ld (d t s:Nat):bK:=⟨some d, .load t (.tmp s),none⟩
@[reducible] def st (t a b:Nat):bK:=⟨none, .store t (.tmp a) (.tmp b),none⟩
@[reducible] def fa (d t s f:Nat):bK:=⟨some d, .fieldAddr t (.tmp s) f,none⟩
@[reducible] def ex (d s i:Nat):bK:=⟨some d, .extract (.tmp s) i,none⟩
@[reducible] def cU (d c a:Nat):bK:=⟨some d, .pick (.tmp c) (.tmp a) (.const (.bool false)),none⟩
@[reducible] def fj (d c a:Nat):bK:=⟨some d, .pick (.tmp c) (.const (.bool true)) (.tmp a),none⟩
@[reducible] def ia (d t x i:Nat):bK:=⟨some d, .indexAddr t (.tmp x) (.tmp i),none⟩
@[reducible] def bx (d t s:Nat):bK:=⟨some d, .box t (.tmp s),none⟩
@[reducible] def al (d t:Nat):bK:=⟨some d, .alloc t,none⟩
@[reducible] def ln (d s t:Nat):bK:=⟨some d, .call {callee:= .builtin .len,args:=#[.tmp s],argTypes:=#[t]},none⟩
@[reducible] def k0 (d f:Nat):bK:=⟨some d, .call {callee:= .value (.func f),args:=#[],argTypes:=#[]},none⟩
@[reducible] def k1 (d f a t:Nat):bK:=⟨some d, .call {callee:= .value (.func f),args:=#[.tmp a],argTypes:=#[t]},none⟩
@[reducible] def k2 (d f a b t u:Nat):bK:=⟨some d, .call {callee:= .value (.func f),args:=#[.tmp a, .tmp b],argTypes:=#[t,u]},none⟩
@[reducible] def k3 (d f a b c t u v:Nat):bK:=⟨some d, .call {callee:= .value (.func f),args:=#[.tmp a, .tmp b, .tmp c],argTypes:=#[t,u,v]},none⟩
@[reducible] def k4 (d f a b c e t u v w:Nat):bK:=⟨some d, .call {callee:= .value (.func f),args:=#[.tmp a, .tmp b, .tmp c, .tmp e],argTypes:=#[t,u,v,w]},none⟩
@[reducible] def kg (d f:Nat) (xs:Array Operand) (ts:Array TypeId):bK:=⟨some d, .call {callee:= .value (.func f),args:=xs,argTypes:=ts},none⟩
@[reducible] def ka (d a b t:Nat):bK:=⟨some d, .call {callee:= .builtin .append,args:=#[.tmp a, .tmp b],argTypes:=#[t,t]},none⟩
@[reducible] def qM (d t x:Nat):bK:=⟨some d, .buildSlice t 1 #[(0, .tmp x)],none⟩
@[reducible] def oQ (d:Nat):bK:=⟨some d, .assign (.const (.slice none 0 0)),none⟩
@[reducible] def Mu (d t x:Nat) (n:Int):bK:=⟨some d, .indexAddr t (.tmp x) (.const (.int .i64 n)),none⟩
@[reducible] def bo (op:BinOp) (d t x y u:Nat):bK:=⟨some d, .binOp op t (.tmp x) (.tmp y) u,none⟩
@[reducible] def bk (op:BinOp) (d t x:Nat) (n:Int) (u:Nat):bK:=⟨some d, .binOp op t (.tmp x) (.const (.int .i64 n)) u,none⟩
@[reducible] def nt (d t s:Nat):bK:=⟨some d, .unOp .not t (.tmp s),none⟩
@[reducible] def nc (d s:Nat):bK:=⟨some d, .nilCheck (.tmp s),none⟩
@[reducible] def gT (o:bK) (g:Nat):bK:=⟨o.dst,o.op,some (g,true)⟩
@[reducible] def gF (o:bK) (g:Nat):bK:=⟨o.dst,o.op,some (g,false)⟩
attribute [go_sem] mv vG sg bV bD ld st fa ex cU fj ia bx al ln k0 k1 k2 k3 k4 kg ka qM oQ Mu bo bk nt nc gT gF
end Go.Proofs.YtlhemmpklhhgoaaGreat
