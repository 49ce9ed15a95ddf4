/-
  A PART OF THE PROOF. Conditions: none.
-/
import Derived.Test.YtpkobkdgcanmjaaGreatLo9
set_option linter.unusedSimpArgs false
set_option linter.unusedVariables false
namespace Go.Proofs.YtpkobkdgcanmjaaGreat
inductive Tr (α:Type) where
 |e (f:Nat->α)
 |n (x:α) (l r:Tr α)
noncomputable def Tr.get {α:Type}(t:Tr α):Nat->α:=
 Tr.rec (motive:=fun _=>Nat->α) (fun f=>f) (fun x _ _ l r k=>Bool.rec (Bool.rec (r (Nat.sub (Nat.div k 2) 1)) (l (Nat.div k 2)) (Nat.beq (Nat.mod k 2) 1)) x (Nat.beq k 0)) t
theorem Tr.wI {α:Type}(f:Nat->α):(Tr.e f).get=f:=rfl
noncomputable def Tr.o7 {α:Type}(x:α):Nat->Tr α->Nat->Tr α
 |0,t,k=> .e (aV t.get k x)
 |d+1, .e f,k=>match Nat.beq k 0 with
  |true=> .n x (.e fun i=>f (2*i+1)) (.e fun i=>f (2*i+2))
  |false=>match Nat.beq (k%2) 1 with
   |true=> .n (f 0) (Tr.o7 x d (.e fun i=>f (2*i+1)) (k/2)) (.e fun i=>f (2*i+2))
   |false=> .n (f 0) (.e fun i=>f (2*i+1)) (Tr.o7 x d (.e fun i=>f (2*i+2)) (k/2 - 1))
 |d+1, .n y l r,k=>match Nat.beq k 0 with
  |true=> .n x l r
  |false=>match Nat.beq (k%2) 1 with
   |true=> .n y (Tr.o7 x d l (k/2)) r
   |false=> .n y l (Tr.o7 x d r (k/2 - 1))
noncomputable def Tr.set {α:Type}(t:Tr α)(k:Nat)(x:α):Tr α:=Tr.o7 x 24 t k
theorem Tr.o8 {α:Type}{x:α}{l r:Tr α}{k:Nat}:(Tr.n x l r).get k=if k=0 then x else if k%2=1 then l.get (k/2)else r.get (k/2 - 1):=by
 show @Bool.rec (fun _=>α) (@Bool.rec (fun _=>α) (r.get (k/2 - 1)) (l.get (k/2)) (Nat.beq (k%2) 1)) x (Nat.beq k 0)=_
 by_cases h:k=0
 ·subst h;rfl
 ·have:Nat.beq k 0=false:=by cases k with|zero=>exact absurd rfl h|succ k=>rfl
  simp only[this,h,if_false]
  by_cases h2:k%2=1
  ·simp[h2]
  ·have:Nat.beq (k%2) 1=false:=by
    cases hb:Nat.beq (k%2) 1 with
    |false=>rfl
    |true=>exact absurd (Nat.eq_of_beq_eq_true hb) h2
   simp[h2,this]
theorem Tr.jI {α:Type}(x:α):∀ (d:Nat) (t:Tr α) (k:Nat),(Tr.o7 x d t k).get=aV t.get k x
 |0,t,k=>rfl
 |d+1, .e f,k=>by
  funext i
  simp only[Tr.o7]
  have hb:∀a b:Nat,Nat.beq a b=decide (a=b):=fun a b=>by
   cases h:Nat.beq a b with
   |true=>simp[Nat.eq_of_beq_eq_true h]
   |false=>simp[Nat.ne_of_beq_eq_false h]
  rw[hb,hb]
  by_cases h:k=0
  ·subst h
   simp only[decide_true,Tr.o8,aC]
   by_cases hi:i=0
   ·simp[hi]
   ·simp only[hi,if_false]
    by_cases h2:i%2=1
    ·simp only[h2,if_true,Tr.wI];congr 1;omega
    ·simp only[h2,if_false,Tr.wI];congr 1;omega
  ·simp only[h,decide_false]
   by_cases hk:k%2=1
   ·simp only[hk,decide_true,Tr.o8,Tr.jI x d,aC,Tr.wI]
    by_cases hi:i=0
    ·subst hi;simp[Ne.symm h]
    ·simp only[hi,if_false]
     by_cases h2:i%2=1
     ·simp only[h2,if_true]
      have e1:2*(i/2)+1=i:=by omega
      rw[e1]
      by_cases e:i=k
      ·simp[e]
      ·rw[if_neg e,if_neg (by omega)]
     ·simp only[h2,if_false]
      rw[if_neg (by intro e;subst e;exact h2 hk)]
      congr 1;omega
   ·simp only[hk,decide_false,Tr.o8,Tr.jI x d,aC,Tr.wI]
    by_cases hi:i=0
    ·subst hi;simp[Ne.symm h]
    ·simp only[hi,if_false]
     by_cases h2:i%2=1
     ·simp only[h2,if_true]
      rw[if_neg (by intro e;subst e;exact hk h2)]
      congr 1;omega
     ·simp only[h2,if_false]
      have e1:2*(i/2 - 1)+2=i:=by omega
      rw[e1]
      by_cases e:i=k
      ·simp[e]
      ·rw[if_neg e,if_neg (by omega)]
 |d+1, .n y l r,k=>by
  funext i
  simp only[Tr.o7]
  have hb:∀a b:Nat,Nat.beq a b=decide (a=b):=fun a b=>by
   cases h:Nat.beq a b with
   |true=>simp[Nat.eq_of_beq_eq_true h]
   |false=>simp[Nat.ne_of_beq_eq_false h]
  rw[hb,hb]
  by_cases h:k=0
  ·subst h
   simp only[decide_true,Tr.o8,aC]
   by_cases hi:i=0
   ·simp[hi]
   ·simp[hi]
  ·simp only[h,decide_false]
   by_cases hk:k%2=1
   ·simp only[hk,decide_true,Tr.o8,Tr.jI x d,aC]
    by_cases hi:i=0
    ·subst hi;simp[Ne.symm h]
    ·simp only[hi,if_false]
     by_cases h2:i%2=1
     ·simp only[h2,if_true]
      by_cases e:i=k
      ·simp[e]
      ·rw[if_neg e,if_neg (by omega)]
     ·simp only[h2,if_false]
      rw[if_neg (by intro e;subst e;exact h2 hk)]
   ·simp only[hk,decide_false,Tr.o8,Tr.jI x d,aC]
    by_cases hi:i=0
    ·subst hi;simp[Ne.symm h]
    ·simp only[hi,if_false]
     by_cases h2:i%2=1
     ·simp only[h2,if_true]
      rw[if_neg (by intro e;subst e;exact hk h2)]
     ·simp only[h2,if_false]
      by_cases e:i=k
      ·simp[e]
      ·rw[if_neg e,if_neg (by omega)]
theorem Tr.fH {α:Type}(t:Tr α)(k:Nat)(x:α):(t.set k x).get=aV t.get k x:=Tr.jI x 24 t k
noncomputable def Nat.fc {β:Type}(n:Nat)(c:Nat->β):β:=Nat.rec (motive:=fun _=>β) (c 0) (fun m _=>c (Nat.succ m)) n
theorem Nat.cj {β:Type}(n:Nat)(c:Nat->β):Nat.fc n c=c n:=by cases n<;>rfl
noncomputable def Int.fc {β:Type}(n:Int)(c:Int->β):β:=Int.rec (motive:=fun _=>β) (fun m=>Nat.fc m fun m=>c (.ofNat m)) (fun m=>Nat.fc m fun m=>c (.negSucc m)) n
theorem Int.cj {β:Type}(n:Int)(c:Int->β):Int.fc n c=c n:=by cases n<;>simp only[Int.fc,Nat.cj]
mutual
noncomputable def D.fc {β:Type}:D->(D->β)->β
 | .int k n,c=>Int.fc n fun n=>c (.int k n)
 | .bool b,c=>match b with|true=>c (.bool true)|false=>c (.bool false)
 | .agg l,c=>D.o9 l fun l=>c (.agg l)
 | .sl l,c=>D.o9 l fun l=>c (.sl l)
 | .iface t x,c=>D.fc x fun x=>c (.iface t x)
 | .str s,c=>c (.str s)
 | .dI,c=>c .dI
 | .gJ,c=>c .gJ
 | .aD,c=>c .aD
 | .dt,c=>c .dt
 | .mp ks vs,c=>D.o9 ks fun ks=>D.o9 vs fun vs=>c (.mp ks vs)
noncomputable def D.o9 {β:Type}:List D->(List D->β)->β
 |[],c=>c []
 |x::xs,c=>D.fc x fun x=>D.o9 xs fun xs=>c (x::xs)
end
mutual
theorem D.cj {β:Type}:∀ (x:D) (c:D->β),D.fc x c=c x
 | .int k n,c=>by simp only[D.fc,Int.cj]
 | .bool b,c=>by cases b<;>rfl
 | .agg l,c=>by simp only[D.fc,D.dW l]
 | .sl l,c=>by simp only[D.fc,D.dW l]
 | .iface t x,c=>by simp only[D.fc,D.cj x]
 | .mp ks vs,c=>by simp only[D.fc,D.dW ks,D.dW vs]
 | .str _,_| .dI,_| .gJ,_| .aD,_| .dt,_=>by simp only[D.fc]
theorem D.dW {β:Type}:∀ (x:List D) (c:List D->β),D.o9 x c=c x
 |[],c=>by simp only[D.o9]
 |x::xs,c=>by simp only[D.o9,D.cj x,D.dW xs]
end
mutual
noncomputable def V.fc {β:Type}:V->(V->β)->β
 | .d x,c=>D.fc x fun x=>c (.d x)
 | .agg l,c=>V.o9 l fun l=>c (.agg l)
 | .bM l,c=>V.o9 l fun l=>c (.bM l)
 | .ptr i o,c=>Nat.fc i fun i=>Nat.fc o fun o=>c (.ptr i o)
 | .osl i o,c=>Nat.fc i fun i=>Nat.fc o fun o=>c (.osl i o)
 | .pe a b i j k,c=>Nat.fc a fun a=>Nat.fc b fun b=>Nat.fc i fun i=>Nat.fc j fun j=>Nat.fc k fun k=>c (.pe a b i j k)
 | .pp l o,c=>D.o9 l fun l=>Nat.fc o fun o=>c (.pp l o)
 | .func f a b,c=>V.o9 a fun a=>V.o9 b fun b=>c (.func f a b)
 | .iface t x,c=>V.fc x fun x=>c (.iface t x)
 | .kG l,c=>D.o9 l fun l=>c (.kG l)
 | .n5 i j k,c=>Nat.fc i fun i=>Nat.fc j fun j=>Nat.fc k fun k=>c (.n5 i j k)
 | .mp i,c=>Nat.fc i fun i=>c (.mp i)
 | .jT i,c=>Nat.fc i fun i=>c (.jT i)
 | .aM,c=>c .aM
 | .aw,c=>c .aw
 | .dC,c=>c .dC
noncomputable def V.o9 {β:Type}:List V->(List V->β)->β
 |[],c=>c []
 |x::xs,c=>V.fc x fun x=>V.o9 xs fun xs=>c (x::xs)
end
mutual
theorem V.cj {β:Type}:∀ (x:V) (c:V->β),V.fc x c=c x
 | .d x,c=>by simp only[V.fc,D.cj]
 | .agg l,c=>by simp only[V.fc,V.dW l]
 | .bM l,c=>by simp only[V.fc,V.dW l]
 | .pp l o,c=>by simp only[V.fc,D.dW,Nat.cj]
 | .func f a b,c=>by simp only[V.fc,V.dW a,V.dW b]
 | .iface t x,c=>by simp only[V.fc,V.cj x]
 | .kG l,c=>by simp only[V.fc,D.dW]
 | .ptr _ _,_| .osl _ _,_| .pe _ _ _ _ _,_| .n5 _ _ _,_| .mp _,_| .jT _,_| .aM,_| .aw,_| .dC,_=>by simp only[V.fc,Nat.cj]
theorem V.dW {β:Type}:∀ (x:List V) (c:List V->β),V.o9 x c=c x
 |[],c=>by simp only[V.o9]
 |x::xs,c=>by simp only[V.o9,V.cj x,V.dW xs]
end
section
variable {β:Type}
noncomputable def H6(k:IntKind)(n:Int)(c:V->β):β:=Int.fc n fun n=>c (.d (.int k n))
noncomputable def H7(b:Bool)(c:V->β):β:= @Bool.rec (fun _=>β) (c (.d (.bool false))) (c (.d (.bool true))) b
noncomputable def EK(x:D)(c:V->β):β:=D.fc x fun x=>c (.d x)
noncomputable def vD(x:D):(V->β)->β:=match x with| .int k n=>H6 k n| .bool b=>H7 b|x=>EK x
noncomputable def H8(i o:Nat)(c:V->β):β:=Nat.fc i fun i=>Nat.fc o fun o=>c (.ptr i o)
noncomputable def H9(i o:Nat)(c:V->β):β:=Nat.fc i fun i=>Nat.fc o fun o=>c (.osl i o)
noncomputable def Q3(a b i j k:Nat)(c:V->β):β:=Nat.fc a fun a=>Nat.fc b fun b=>Nat.fc i fun i=>Nat.fc j fun j=>Nat.fc k fun k=>c (.pe a b i j k)
noncomputable def V.Gp (v:V):(V->β)->β:=match v with| .d x=>vD x| .ptr i o=>H8 i o| .osl i o=>H9 i o| .pe a b i j k=>Q3 a b i j k|v=>V.fc v
theorem V.EL (v:V)(c:V->β):V.Gp v c=c v:=by
 cases v
 case d x=>
  cases x
  case int k n=>simp only[V.Gp,vD,H6,Int.cj]
  case bool b=>cases b<;>rfl
  all_goals exact D.cj _ _
 case ptr i o=>simp only[V.Gp,H8,Nat.cj]
 case osl i o=>simp only[V.Gp,H9,Nat.cj]
 case pe a b i j k=>simp only[V.Gp,Q3,Nat.cj]
 all_goals exact V.cj _ _
end
noncomputable def Gq{β:Type}:List (D×D)->(List (D×D)->β)->β
 |[],c=>c []
 |(a,b)::l,c=>D.fc a fun a=>D.fc b fun b=>Gq l fun l=>c ((a,b)::l)
theorem zX{β:Type}:∀ (x:List (D×D)) (c:List (D×D)->β),Gq x c=c x
 |[],c=>rfl
 |(a,b)::l,c=>by simp only[Gq,D.cj,zX l]
noncomputable def aa.fc {β:Type}(x:aa)(c:aa->β):β:=
 match x with
 | .row cs=>V.o9 cs fun cs=>c (.row cs)
 | .arr e t s es=>Nat.fc e fun e=>Nat.fc s fun s=>D.o9 es fun es=>c (.arr e t s es)
 | .lu e es=>Nat.fc e fun e=>D.o9 es fun es=>c (.lu e es)
 | .map kt vt l=>Gq l fun l=>c (.map kt vt l)
 | .eg l=>Gq l fun l=>c (.eg l)
 | .my l last=>Gq l fun l=>c (.my l last)
 | .n6 l pos=>Nat.fc pos fun pos=>c (.n6 l pos)
 |x=>c x
theorem aa.cj {β:Type}(x:aa)(c:aa->β):aa.fc x c=c x:=by cases x<;>simp only[aa.fc,V.dW,D.dW,Nat.cj,zX]
noncomputable def Tr.qD {α β:Type}(x:α)(d:Nat):Tr α->Nat->(Tr α->β)->β:=
 Nat.rec (motive:=fun _=>Tr α->Nat->(Tr α->β)->β) (fun t k c=>c (.e (aV t.get k x)))
  (fun _ ih t k c=>Tr.rec (motive:=fun _=>β) (fun f=>
   Bool.rec (Bool.rec (ih (.e fun i=>f (2*i+2)) (Nat.sub (Nat.div k 2) 1) fun r=>c (.n (f 0) (.e fun i=>f (2*i+1)) r)) (ih (.e fun i=>f (2*i+1)) (Nat.div k 2) fun l=>c (.n (f 0) l (.e fun i=>f (2*i+2)))) (Nat.beq (Nat.mod k 2) 1))
    (c (.n x (.e fun i=>f (2*i+1)) (.e fun i=>f (2*i+2)))) (Nat.beq k 0))
   (fun y l r _ _=>Bool.rec (Bool.rec (ih r (Nat.sub (Nat.div k 2) 1) fun r=>c (.n y l r)) (ih l (Nat.div k 2) fun l=>c (.n y l r)) (Nat.beq (Nat.mod k 2) 1)) (c (.n x l r)) (Nat.beq k 0)) t) d
theorem Tr.pf {α β:Type}(x:α):∀ (d:Nat) (t:Tr α) (k:Nat) (c:Tr α->β),Tr.qD x d t k c=c (Tr.o7 x d t k)
 |0,t,k,c=>rfl
 |d+1, .e f,k,c=>by
  show @Bool.rec (fun _=>β) (@Bool.rec (fun _=>β) (Tr.qD x d (.e fun i=>f (2*i+2)) (k/2 - 1) fun r=>c (.n (f 0) (.e fun i=>f (2*i+1)) r)) (Tr.qD x d (.e fun i=>f (2*i+1)) (k/2) fun l=>c (.n (f 0) l (.e fun i=>f (2*i+2)))) (Nat.beq (k%2) 1)) (c (.n x (.e fun i=>f (2*i+1)) (.e fun i=>f (2*i+2)))) (Nat.beq k 0)=_
  simp only[Tr.o7,Tr.pf x d]
  cases Nat.beq k 0
  ·cases Nat.beq (k%2) 1<;>rfl
  ·rfl
 |d+1, .n y l r,k,c=>by
  show @Bool.rec (fun _=>β) (@Bool.rec (fun _=>β) (Tr.qD x d r (k/2 - 1) fun r=>c (.n y l r)) (Tr.qD x d l (k/2) fun l=>c (.n y l r)) (Nat.beq (k%2) 1)) (c (.n x l r)) (Nat.beq k 0)=_
  simp only[Tr.o7,Tr.pf x d]
  cases Nat.beq k 0
  ·cases Nat.beq (k%2) 1<;>rfl
  ·rfl
noncomputable def Tr.EM {α β:Type}(t:Tr α)(k:Nat)(x:α)(c:Tr α->β):β:=Tr.qD x 24 t k c
theorem Tr.wJ {α β:Type}(t:Tr α)(k:Nat)(x:α)(c:Tr α->β):t.EM k x c=c (t.set k x):=Tr.pf x 24 t k c
structure St where
 env:Tr V
 o:Tr aa
 nx:Nat
noncomputable def St.S (st:St):S:=⟨st.env.get,st.o.get,st.nx⟩
noncomputable def yk(o:Tr aa)(Δ:List (Nat×aa)):Tr aa:=Δ.foldl (fun f x=>f.set x.1 x.2) o
noncomputable def ns(env:Tr V)(dst:Option Tmp)(v:V):Tr V:=match dst with|some d=>env.set d v|none=>env
noncomputable def pg{β:Type}(o:Tr aa):List (Nat×aa)->(Tr aa->β)->β
 |[],c=>c o
 |(i,x)::Δ,c=>aa.fc x fun x=>o.EM i x fun o=>pg o Δ c
theorem jJ{β:Type}:∀ (Δ:List (Nat×aa)) (o:Tr aa) (c:Tr aa->β),pg o Δ c=c (yk o Δ)
 |[],o,c=>rfl
 |(i,x)::Δ,o,c=>by simp only[pg,aa.cj,Tr.wJ,jJ Δ];rfl
noncomputable def iX{β:Type}(env:Tr V)(dst:Option Tmp)(v:V)(c:Tr V->β):β:=match dst with|some d=>V.Gp v fun v=>env.EM d v c|none=>c env
theorem fO{β:Type}(env:Tr V)(dst:Option Tmp)(v:V)(c:Tr V->β):iX env dst v c=c (ns env dst v):=by
 cases dst<;>simp only[iX,ns,V.EL,Tr.wJ]
theorem gr:∀ (Δ:List (Nat×aa)) (o:Tr aa),(yk o Δ).get=put o.get Δ
 |[],_=>rfl
 |x::Δ,o=>by
  simp only[yk,put,List.foldl_cons]
  have:=gr Δ (o.set x.1 x.2)
  simp only[yk,put]at this
  rw[this,Tr.fH]
theorem dr(env:Tr V)(dst:Option Tmp)(v:V):(ns env dst v).get=aN env.get dst v:=by
 cases dst<;>simp[ns,aN,Tr.fH]
section EN
def Ds(x:Operand)(_:Program)(s:S)(_:Nat):Option eP:=one (s.ev x)
def Ia(c a b:Operand)(_:Program)(s:S)(_:Nat):Option eP:=iU (lY (s.ev c) (s.ev a) (s.ev b))
def EO(t:TypeId)(parts:Array (Nat×Operand))(P:Program)(s:S)(_:Nat):Option eP:=iU (ry P t (parts.toList.map fun p=>(p.1,s.ev p.2)))
def tU(t:TypeId)(len:Nat)(parts:Array (Nat×Operand))(P:Program)(s:S)(fr:Nat):Option eP:=eA P s.o fr t len (parts.toList.map fun p=>(p.1,s.ev p.2))
def Ib(t:TypeId)(x:Operand)(P:Program)(s:S)(_:Nat):Option eP:=jy P s.o t (s.ev x)
def EP(t:TypeId)(x v:Operand)(P:Program)(s:S)(_:Nat):Option eP:=mM P s.o t (s.ev x) (s.ev v)
def OG(x:Operand)(_:Program)(s:S)(_:Nat):Option eP:=iU (fJ s.o (s.ev x))
noncomputable def Ic(op:BinOp):IntKind->Int->Int->Option V:=
 match op with
 | .add=>fun k a b=>some (.d (.int k (k.wrap (Int.add a b))))
 | .sub=>fun k a b=>some (.d (.int k (k.wrap (Int.sub a b))))
 | .mul=>fun k a b=>some (.d (.int k (k.wrap (Int.mul a b))))
 |op=>tj op
theorem BW(op:BinOp):Ic op=tj op:=by cases op<;>rfl
def asInt(x:V):Option (IntKind×Int):=match x with| .d (.int k a)=>some (k,a)|_=>none
def zY(op:BinOp)(t:TypeId)(c:Bool)(x y:V)(P:Program)(o:Nat->aa):Option eP:=cp P o op t c x y
noncomputable def Ie(op:BinOp)(t:TypeId)(x y:Operand)(P:Program)(s:S)(_:Nat):Option eP:=
 match asInt (s.ev x)with
 |some (k,a)=>match asInt (s.ev y)with
  |some (k',b)=>if k=k' then match Ic op k a b with
   |some v=>some (v,[],[])
   |none=>zY op t (isConst x||isConst y) (s.ev x) (s.ev y) P s.o
   else none
  |none=>zY op t (isConst x||isConst y) (s.ev x) (s.ev y) P s.o
 |none=>zY op t (isConst x||isConst y) (s.ev x) (s.ev y) P s.o
theorem tV{x:V}{k:IntKind}{a:Int}(h:asInt x=some (k,a)):x= .d (.int k a):=by
 unfold asInt at h;split at h
 ·injection h with h;cases h;rfl
 ·cases h
def vE(t:TypeId)(x:Operand)(f:Nat)(P:Program)(s:S)(_:Nat):Option eP:=iU (eY P s.o t (s.ev x) f)
def vF(t:TypeId)(x i:Operand)(P:Program)(s:S)(_:Nat):Option eP:=eX P s.o t (s.ev x) (s.ev i)
def ER(op:Op)(P:Program)(s:S)(fr:Nat):Option eP:=eF P s fr op
noncomputable def BX(op:Op):Program->S->Nat->Option eP:=
 match op with
 | .move x=>Ds x
 | .assign x=>Ds x
 | .pick c a b=>Ia c a b
 | .build t parts=>EO t parts
 | .buildSlice t len parts=>tU t len parts
 | .load t x=>Ib t x
 | .store t x v=>EP t x v
 | .nilCheck x=>OG x
 | .binOp op t x y _=>Ie op t x y
 | .fieldAddr t x f=>vE t x f
 | .indexAddr t x i=>vF t x i
 |op=>ER op
theorem wK{op:Op}{P:Program}{s:S}{fr:Nat}{r:eP}(h:BX op P s fr=some r):eF P s fr op=some r:=by
 cases op
 case binOp op t x y yt=>
  simp only[BX,Ie,BW]at h
  have e:eF P s fr (.binOp op t x y yt)=cp P s.o op t (isConst x||isConst y) (s.ev x) (s.ev y):=rfl
  rw[e]
  split at h
  ·rename_i k a hx
   split at h
   ·rename_i k' b hy
    split at h
    ·rename_i hk
     split at h
     ·rename_i v hv
      unfold cp rv
      simp only[tV hx,tV hy,if_pos hk,hv]
      exact h
     ·exact h
    ·cases h
   ·exact h
  ·exact h
 all_goals exact h
end EN
inductive FD where
 |fn (n:Nat) (ic:IC) (rs:List ResultVar)
 |OH (n:Nat) (kg gv:IC) (g t:Nat) (fG:List Operand) (rs:List ResultVar) (m r r1:Nat) (tT:IC)
 |no
def FD.Ok (P:Program)(f:Nat):FD->Prop
 | .fn n ic rs=>ak P f n ic rs
 | .OH n kg gv g t fG rs m r r1 tT=>zT P f n kg gv g t fG rs/\wH P g m r r1 tT
 | .no=>True
inductive CR where
 |ret (v:V) (o:Tr aa) (nx:Nat)|ba (v:V) (o:Tr aa) (nx:Nat)
def CR.to (K X:V->(Nat->aa)->Nat->Prop):CR->Prop
 | .ret v o nx=>K v o.get nx
 | .ba v o nx=>X v o.get nx
inductive RO where
 |ok (st:St)|ba (v:V) (st:St)
def RO.to (K:S->Prop)(X:V->S->Prop):RO->Prop
 | .ok st=>K st.S
 | .ba v st=>X v st.S
inductive dk where
 |r (x:R)|c (x:CR)
abbrev Kt:=fl->St->Option dk
abbrev cP:=Nat->Bool->Nat->IC->St->Kt->Option dk
noncomputable def yl(P:Program)(rs:List ResultVar)(st:St)(kc:CR->Option dk):Option dk:=
 match iO P st.S rs with
 |some [v]=>kc (.ret v st.o st.nx)
 |some vs=>kc (.ret (.bM vs) st.o st.nx)
 |none=>none
noncomputable def Dt(P:Program)(rs:List ResultVar)(kc:CR->Option dk):Kt:=fun e st=>
 match e with
 | .normal=>yl P rs st kc
 | .ret=>yl P rs st kc
 | .ba v=>kc (.ba v st.o st.nx)
 | .exit _=>none
noncomputable def zZ(P:Program)(rs:List ResultVar)(kc:CR->Option dk)(env:Tr V):Kt:=fun e s4=>
 match e with
 | .normal=>yl P rs ⟨env,s4.o,s4.nx⟩ kc
 | .ret=>yl P rs ⟨env,s4.o,s4.nx⟩ kc
 |_=>none
def Ig:fl->Option V
 | .normal=>some (.d .dI)
 | .ret=>some (.d .dI)
 | .ba v=>some v
 | .exit _=>none
noncomputable def z5(P:Program)(rec:cP)(rs:List ResultVar)(b9:List V)(m r r1:Nat)(tT:IC)(kc:CR->Option dk):Kt:=fun e s3=>
 match Ig e with
 |some u=>if b9.length<=m then rec s3.nx true m tT ⟨.e (aV (aV (bW b9) r u) r1 u),s3.o,s3.nx⟩ (zZ P rs kc s3.env)else none
 |none=>none
noncomputable def wL(P:Program)(rec:cP)(n t:Nat)(gv:IC)(g:Nat)(fG:List Operand)(rs:List ResultVar)(m r r1:Nat)(tT:IC)(kc:CR->Option dk):Kt:=fun e s1=>
 match e with
 | .normal=>rec s1.nx false n gv ⟨s1.env.set t (.func (.func g) [] (fG.map s1.S.ev)),s1.o,s1.nx⟩ (z5 P rec rs (fG.map s1.S.ev) m r r1 tT kc)
 |_=>none
noncomputable def z6(P:Program)(bu:Nat->FD)(rec:cP)(g:Nat)(args:List V)(o:Tr aa)(nx:Nat)(kc:CR->Option dk):Option dk:=
 match bu g with
 | .fn n ic rs=>if args.length<=n then rec nx false n ic ⟨.e (bW args),o,nx⟩ (Dt P rs kc)else none
 | .OH n kg gv g t fG rs m r r1 tT=>if args.length<=n then rec nx true n kg ⟨.e (bW args),o,nx⟩ (wL P rec n t gv g fG rs m r r1 tT kc)else none
 | .no=>none
def ph:V->List V
 | .bM vs=>vs
 |v=>[v]
noncomputable def wM(r:CR):Option R:=
 match r with
 | .ret v o _=>match v with
   | .bM [_]=>none
   |v=>match bA o.get (ph v)with
    |some rs=>some (.ret rs)
    |none=>none
 | .ba v o _=>match dn o.get v with
   |some x=>some (.ba x)
   |none=>none
noncomputable def Ih{β:Type}(x:R)(c:R->β):β:=match x with| .ret l=>D.o9 l fun l=>c (.ret l)| .ba d=>D.fc d fun d=>c (.ba d)
theorem vG{β:Type}(x:R)(c:R->β):Ih x c=c x:=by cases x<;>simp only[Ih,D.dW,D.cj]
noncomputable def tW(r:CR):Option dk:=match wM r with|some x=>Ih x fun x=>some (.r x)|none=>none
theorem z7{r:CR}{a:dk}(h:tW r=some a):∃x,wM r=some x/\a= .r x:=by
 unfold tW at h
 split at h
 ·rename_i x hx;rw[vG]at h;injection h with h;exact⟨x,hx,h.symm⟩
 ·cases h
def z8(out:R)(o:Tr aa)(nx:Nat):CR:=
 match out with
 | .ret rs=> .ret (fY rs) o nx
 | .ba x=> .ba (.d x) o nx
structure mb (P:Program) where
 Ii:Nat->Bool
 fx:Nat->List D->Option R
 ok:∀g ds out,fx g ds=some out->bU P g ds out
def z9(l:List (Nat×List D×R))(g:Nat)(ds:List D):Option R:=
 match l with
 |[]=>none
 |x::l=>match Nat.beq x.1 g with
  |true=>match D.ek x.2.1 ds with
   |true=>some x.2.2
   |false=>z9 l g ds
  |false=>z9 l g ds
theorem rT{P:Program}:∀ {l:List (Nat×List D×R)},(∀x∈l,bU P x.1 x.2.1 x.2.2)->∀g ds out,z9 l g ds=some out->bU P g ds out
 |[],_,_,_,_,h=>by cases h
 |x::l,hl,g,ds,out,h=>by
  simp only[z9]at h
  split at h
  ·rename_i hg
   split at h
   ·rename_i hd
    injection h with h
    have:=hl x (by simp)
    rw[Nat.eq_of_beq_eq_true hg,D.cH _ _ hd,h]at this
    exact this
   ·exact rT (fun y hy=>hl y (by simp[hy])) g ds out h
  ·exact rT (fun y hy=>hl y (by simp[hy])) g ds out h
def mb.of {P:Program}(Ii:Nat->Bool)(l:List (Nat×List D×R))(h:∀x∈l,bU P x.1 x.2.1 x.2.2):mb P:=⟨Ii,z9 l,rT h⟩
noncomputable def BZ(P:Program)(bu:Nat->FD)(md:mb P)(rec:cP)(g:Nat)(ds:List D):Option R:=
 match md.fx g ds with
 |some out=>some out
 |none=>match z6 P bu rec g (ds.map .d) (.e fun _=> .no) 0 tW with
  |some (.r x)=>some x
  |_=>none
noncomputable def Du(out:R)(o:Tr aa)(nx:Nat)(args:List V)(kc:CR->Option dk):Option dk:=
 match out.flat with
 |true=>kc (z8 out o (nx+1))
 |false=>match out.js with
  |true=>kc (z8 out (yk o (mz o.get (V.aQ args))) (nx+1))
  |false=>kc (z8 out (yk o (cg o.get (V.aQ args))) (nx+1))
noncomputable def wN(P:Program)(bu:Nat->FD)(md:mb P)(rec:cP)(g:Nat)(args:List V)(o:Tr aa)(nx:Nat)(kc:CR->Option dk):Option dk:=
 match md.Ii g,bA o.get args with
 |true,some ds=>match BZ P bu md rec g ds with
  |some out=>Du out o nx args kc
  |none=>none
 |_,_=>z6 P bu rec g args o nx kc
noncomputable def Aa(id:Nat)(kc:CR->Option dk):Kt:=fun e s2=>
 match e with
 | .ba v=>kc (.ba v s2.o s2.nx)
 |e=>match s2.o.get id with
  | .loop nf m en p c d _ _=>match e with
    | .normal=>kc (.ret (.d (.bool true)) (s2.o.set id (.loop nf m en p c d .ready none)) s2.nx)
    | .ret=>kc (.ret (.d (.bool false)) (s2.o.set id (.loop nf m en p c d .done (some .ret))) s2.nx)
    | .exit j=>kc (.ret (.d (.bool false)) (s2.o.set id (.loop nf m en p c d .done (some (.exit j)))) s2.nx)
    | .ba _=>none
  |_=>none
noncomputable def wO(rec:cP)(id nx n:Nat)(gv:IC)(kc:CR->Option dk):Kt:=fun e s1=>
 match e with
 | .normal=>match s1.o.get id with
   | .loop nf m en p c d .ready pd=>rec nx true n gv ⟨s1.env,s1.o.set id (.loop nf m en p c d .busy pd),s1.nx⟩ (Aa id kc)
   |_=>none
 | .ba v=>kc (.ba v s1.o s1.nx)
 |_=>none
noncomputable def ES(P:Program)(rec:cP)(id:Nat)(args:List V)(o:Tr aa)(nx:Nat)(kc:CR->Option dk):Option dk:=
 match o.get id with
 | .loop nf n env ps kg gv _ _=>if nf=P.funcs.size/\id<nx/\ps.all (fun t=>decide (t<n))=true/\args.length=ps.length then
  rec nx true n kg ⟨.e (vx (bI env) ps args),o,nx⟩ (wO rec id nx n gv kc)
   else none
 |_=>none
noncomputable def qE(P:Program)(st:St)(o:bE)(kr:RO->Option dk):Option dk:=
 match BX o.op P st.S st.nx with
 |some (v,Δ,_)=>iX st.env o.dst v fun e=>pg st.o Δ fun ob=>Nat.fc (st.nx+1) fun n=>kr (.ok ⟨e,ob,n⟩)
 |none=>none
noncomputable def Ij(st:St)(dst:Option Nat)(kr:RO->Option dk)(c:CR):Option dk:=
 match c with
 | .ret v o nx=>iX st.env dst v fun e=>Nat.fc nx fun nx=>kr (.ok ⟨e,o,nx⟩)
 | .ba v o nx=>kr (.ba v ⟨st.env,o,nx⟩)
noncomputable def Ab(c:Call)(P:Program)(bu:Nat->FD)(md:mb P)(rec:cP)(st:St)(o:bE)(kr:RO->Option dk):Option dk:=
 match c.callee with
 | .value f=>match st.S.ev f with
   | .func (.func g) first cap=>wN P bu md rec g (first++c.args.toList.map st.S.ev++cap) st.o st.nx (Ij st o.dst kr)
   | .jT id=>ES P rec id (c.args.toList.map st.S.ev) st.o st.nx (Ij st o.dst kr)
   |_=>none
 | .invoke r m=>match oz P m (st.S.ev r)with
   |some (g,y)=>wN P bu md rec g (y::c.args.toList.map st.S.ev) st.o st.nx (Ij st o.dst kr)
   |none=>none
 |_=>qE P st o kr
noncomputable def ET(x:Operand)(P:Program)(_:Nat->FD)(_:mb P)(_:cP)(st:St)(_:bE)(kr:RO->Option dk):Option dk:=
 match st.S.ev x with
 | .d (.iface t y)=>kr (.ba (.d (.iface t y)) st)
 | .iface t y=>kr (.ba (.iface t y) st)
 |_=>none
noncomputable def Ik(P:Program)(_:Nat->FD)(_:mb P)(_:cP)(st:St)(o:bE)(kr:RO->Option dk):Option dk:=qE P st o kr
def R.same:R->R->Bool
 | .ret a, .ret b=>D.ek a b
 | .ba a, .ba b=>a.same b
 |_,_=>false
theorem R.c0 {x y:R}(h:x.same y=true):x=y:=by
 cases x<;>cases y<;>simp only[R.same,Bool.false_eq_true]at h
 ·rw[D.cH _ _ h]
 ·rw[D.c0 _ _ h]
noncomputable def Nd(f:Nat->Option dk):Nat->Option dk
 |0=>none
 |n+1=>match n with
  |0=>f 0
  |n=>match Nd f n with
   |some (.r a)=>match f n with
    |some (.r b)=>match R.same a b with
     |true=>some (.r a)
     |false=>none
    |_=>none
   |_=>none
theorem Ac{f:Nat->Option dk}{a:dk}:∀ {n:Nat},Nd f n=some a->∀i,i<n->f i=some a
 |0,h,_,_=>by cases h
 |1,h,i,hi=>by obtain rfl:i=0:=by omega
               exact h
 |n+2,h,i,hi=>by
  simp only[Nd]at h
  split at h
  ·rename_i x hx
   split at h
   ·rename_i y hy
    split at h
    ·rename_i he
     have e:=R.c0 he
     subst e
     rw[<- h]
     by_cases e:i=n+1
     ·subst e;exact hy
     ·exact Ac hx i (by omega)
    ·cases h
   ·cases h
  ·cases h
noncomputable def B0(st:St)(dst:Option Nat)(kr:RO->Option dk)(v:V)(Δ:List (Nat×aa)):Option dk:=
 iX st.env dst v fun e=>pg st.o Δ fun ob=>Nat.fc (st.nx+1) fun n=>kr (.ok ⟨e,ob,n⟩)
noncomputable def Ad(x:Operand)(str:Bool)(P:Program)(_:Nat->FD)(_:mb P)(_:cP)(st:St)(o:bE)(kr:RO->Option dk):Option dk:=
 match kz st.o.get (st.S.ev x)with
 |some (id,l)=>match str with
  |true=>none
  |false=>match l with
   |[]=>B0 st o.dst kr (.bM [.d (.bool false)]) []
   |_=>Nd (fun i=>match l[i]? with
    |some (k,x)=>B0 st o.dst kr (.bM [.d (.bool true), .d k, .d x]) [(id, .my (l.eraseIdx i) (some (k,x)))]
    |none=>none) l.length
 |none=>qE P st o kr
noncomputable def Tj(op:Op):(P:Program)->(Nat->FD)->mb P->cP->St->bE->(RO->Option dk)->Option dk:=
 match op with
 | .call c=>Ab c
 | .panic x=>ET x
 | .next x str=>Ad x str
 |_=>Ik
noncomputable def Nf(P:Program)(bu:Nat->FD)(md:mb P)(rec:cP)(st:St)(o:bE)(kr:RO->Option dk):Option dk:=Tj o.op P bu md rec st o kr
noncomputable def Q4(next:St->Option dk)(kr:RO->Option dk):RO->Option dk:=fun r=>match r with| .ok st=>next st| .ba v st=>kr (.ba v st)
noncomputable def rU(P:Program)(bu:Nat->FD)(md:mb P)(rec:cP)(kr:RO->Option dk):List bE->St->Option dk
 |[],st=>kr (.ok st)
 |o::l,st=>match(match o.gd with
   |none=>some true
   |some (d,want)=>match st.env.get d with
    | .d (.bool b)=>some (b==want)
    | .bM []=>some false
    |_=>none)with
  |some true=>Nf P bu md rec st o (Q4 (rU P bu md rec kr l) kr)
  |some false=>iX st.env o.dst (.bM []) fun e=>Nat.fc (st.nx+1) fun n=>rU P bu md rec kr l ⟨e,st.o,n⟩
  |none=>none
section
variable {P:Program}{bu:Nat->FD}{md:mb P}
noncomputable def dw(P:Program)(rec:cP):Prop:=∀b rd n ic st k a,rec b rd n ic st k=some a->∀Q:fl->S->Prop,(∀e st',k e st'=some a->Q e st'.S)->nQ P n b rd ic Q st.S
theorem nT{rs:List ResultVar}{st:St}{kc:CR->Option dk}{a:dk}(h:yl P rs st kc=some a){K X:V->(Nat->aa)->Nat->Prop}(hr:∀r,kc r=some a->r.to K X):iS P rs K X .ret st.S:=by
 unfold yl at h
 unfold iS
 split at h
 ·rename_i v hv;simp only[hv];exact hr _ h
 ·rename_i vs hv hn
  simp only[hn]
  exact hr _ h
 ·cases h
theorem jK(aR:P.follows .mixedOrders=true)(bR:∀g,(bu g).Ok P g){rec:cP}(a7:dw P rec){g:Nat}{args:List V}{o:Tr aa}{nx:Nat}{kc:CR->Option dk}{a:dk}(h:z6 P bu rec g args o nx kc=some a){K X:V->(Nat->aa)->Nat->Prop}(hr:∀r,kc r=some a->r.to K X):
 fm P g args o.get nx K X:=by
 have a8:=bR g
 unfold z6 at h
 split at h
 ·rename_i n ic rs ht
  rw[ht]at a8
  split at h
  ·rename_i hl
   refine fm.oT aR a8 hl ?_
   refine a7 _ _ _ _ _ _ _ h _ fun e st he=> ?_
   unfold Dt at he
   cases e with
   |normal=>exact nT he hr
   |ret=>exact nT he hr
   |ba v=>exact hr _ he
   |exit j=>cases he
  ·cases h
 ·rename_i n kg gv g' t fG rs m r0 r1 tT ht
  rw[ht]at a8
  split at h
  ·rename_i hl
   refine fm.zW aR a8.1 a8.2 hl (a7 _ _ _ _ _ _ _ h _ fun e s1 he=> ?_)
   unfold wL at he
   cases e with
   |normal=>
    have hb:nQ P n s1.nx false gv (vC P m r0 r1 tT (fG.map s1.S.ev) rs K X) ⟨aV s1.env.get t (.func (.func g') [] (fG.map s1.S.ev)),s1.o.get,s1.nx⟩:=by
     have:=a7 _ _ _ _ _ _ _ he (vC P m r0 r1 tT (fG.map s1.S.ev) rs K X) (fun e s3 Gs=>by
      unfold z5 at Gs
      split at Gs
      ·rename_i u hu
       split at Gs
       ·rename_i nB
        have Tk:yi P m r0 r1 tT (fG.map s1.S.ev) u s3.o.get s3.nx fun o nx=>iS P rs K X .ret ⟨s3.env.get,o,nx⟩:=by
         refine⟨nB,a7 _ _ _ _ _ _ _ Gs _ fun e4 s4 Ng=> ?_⟩
         unfold zZ at Ng
         cases e4 with
         |normal=>exact nT (st:=⟨s3.env,s4.o,s4.nx⟩) Ng hr
         |ret=>exact nT (st:=⟨s3.env,s4.o,s4.nx⟩) Ng hr
         |_=>cases Ng
        cases e<;>simp only[Ig,Option.some.injEq,reduceCtorEq]at hu<;>subst hu<;>exact Tk
       ·cases Gs
      ·cases Gs)
     simp only[St.S,Tr.fH]at this
     exact this
    exact hb
   |_=>cases he
  ·cases h
 ·cases h
theorem Ae{r:CR}{out:R}(ho:wM r=some out):r.to (fun v o _=>∃vs rs,v=(match vs with|[v]=>v|vs=> .bM vs)/\bA o vs=some rs/\out= .ret rs) (fun v o _=>∃x,dn o v=some x/\out= .ba x):=by
 unfold wM at ho
 split at ho
 ·rename_i v o nx
  split at ho
  ·cases ho
  ·rename_i hv
   split at ho
   ·rename_i rs GQ
    injection ho with ho;subst ho
    refine⟨ph v,rs, ?_,GQ,rfl⟩
    cases v with
    |bM vs=>
     match vs,hv with
     |[],_=>rfl
     |[x],hv=>exact absurd rfl (hv x)
     |_::_::_,_=>rfl
    |_=>rfl
   ·cases ho
 ·split at ho
  ·rename_i x hx
   injection ho with ho;subst ho
   exact⟨x,hx,rfl⟩
  ·cases ho
theorem tX(aR:P.follows .mixedOrders=true)(bR:∀g,(bu g).Ok P g){rec:cP}(a7:dw P rec){g:Nat}{ds:List D}{out:R}(h:z6 P bu rec g (ds.map .d) (.e fun _=> .no) 0 tW=some (.r out)):bU P g ds out:=by
 refine bU.kQ (jK aR bR a7 h fun r hr=> ?_)
 obtain⟨x,hx,he⟩:=z7 hr
 injection he with he;subst he
 exact Ae hx
theorem rV(aR:P.follows .mixedOrders=true)(bR:∀g,(bu g).Ok P g){rec:cP}(a7:dw P rec){g:Nat}{ds:List D}{out:R}(h:BZ P bu md rec g ds=some out):bU P g ds out:=by
 unfold BZ at h
 split at h
 ·rename_i Tl ho
  injection h with h;subst h
  exact md.ok _ _ _ ho
 ·split at h
  ·rename_i x hr;injection h with h;subst h;exact tX aR bR a7 hr
  ·cases h
theorem tY(aR:P.follows .mixedOrders=true)(bR:∀g,(bu g).Ok P g){rec:cP}(a7:dw P rec){g:Nat}{args:List V}{o:Tr aa}{nx:Nat}{kc:CR->Option dk}{a:dk}(h:wN P bu md rec g args o nx kc=some a){K X:V->(Nat->aa)->Nat->Prop}(hr:∀r,kc r=some a->r.to K X):
 CU P g args o.get nx K X:=by
 unfold wN at h
 split at h
 ·rename_i ds TV dB
  split at h
  ·rename_i out Af
   have hP:=rV aR bR a7 Af
   refine .inl ⟨ds,dB,out,hP, ?_⟩
   unfold Du at h
   split at h
   ·rename_i hf
    refine .inr (.inl ⟨hf, ?_⟩)
    cases out<;>exact hr _ h
   ·split at h
    ·rename_i hf
     refine .inr (.inr ⟨hf, ?_⟩)
     rw[<- gr]
     cases out<;>exact hr _ h
    ·refine .inl ?_
     rw[<- gr]
     cases out<;>exact hr _ h
  ·cases h
 ·exact .inr (jK aR bR a7 h hr)
theorem B1(aR:P.follows .mixedOrders=true){rec:cP}(a7:dw P rec){id:Nat}{args:List V}{o:Tr aa}{nx:Nat}{kc:CR->Option dk}{a:dk}(h:ES P rec id args o nx kc=some a){K X:V->(Nat->aa)->Nat->Prop}(hr:∀r,kc r=some a->r.to K X):
 dT P id args o.get nx K X:=by
 unfold ES at h
 split at h
 ·rename_i nf n env ps kg gv st pd ho
  split at h
  ·rename_i hc
   obtain⟨rfl,br,HS,hl⟩:=hc
   refine dT.oT aR ho br HS hl ?_
   refine a7 _ _ _ _ _ _ _ h _ fun e s1 he=> ?_
   unfold wO at he
   cases e with
   |normal=>
    simp only at he
    split at he
    ·rename_i nf m en p c d pd gW
     refine⟨nf,m,en,p,c,d,pd,gW, ?_⟩
     have:=a7 _ _ _ _ _ _ _ he (vB id K X) (fun e s2 h2=>by
      unfold Aa at h2
      split at h2
      ·exact hr _ h2
      ·rename_i CK
       split at h2
       ·rename_i HO m' OI p' c' d' st' pd' EU
        cases e with
        |ba v=>cases h2
        |normal=>have h3:=hr _ h2;simp only[CR.to,Tr.fH]at h3;exact⟨HO,m',OI,p',c',d',st',pd',EU,h3⟩
        |ret=>have h3:=hr _ h2;simp only[CR.to,Tr.fH]at h3;exact⟨HO,m',OI,p',c',d',st',pd',EU,h3⟩
        |exit j=>have h3:=hr _ h2;simp only[CR.to,Tr.fH]at h3;exact⟨HO,m',OI,p',c',d',st',pd',EU,h3⟩
       ·cases h2)
     simp only[St.S,Tr.fH]at this
     exact this
    ·cases he
   |ba v=>exact hr _ he
   |_=>cases he
  ·cases h
 ·cases h
theorem pj{st:St}{o:bE}{kr:RO->Option dk}{a:dk}(h:qE P st o kr=some a){K:S->Prop}{X:V->S->Prop}(hr:∀r,kr r=some a->r.to K X):match eF P st.S st.S.nx o.op with
 |some (v,Δ,_)=>K ⟨aN st.S.env o.dst v,put st.S.o Δ,st.S.nx+1⟩
 |none=>False:=by
 unfold qE at h
 split at h
 ·rename_i v Δ rd he
  have he:=wK he
  simp only[fO,jJ,Nat.cj]at h
  have hr:=hr _ h
  simp only[RO.to,St.S,dr,gr]at hr
  have dZ:eF P st.S st.S.nx o.op=some (v,Δ,rd):=he
  simp only[dZ]
  exact hr
 ·cases h
theorem wP{st:St}{dst:Option Nat}{kr:RO->Option dk}{v:V}{Δ:List (Nat×aa)}{a:dk}(h:B0 st dst kr v Δ=some a){K:S->Prop}{X:V->S->Prop}(hr:∀r,kr r=some a->r.to K X):K ⟨aN st.S.env dst v,put st.S.o Δ,st.S.nx+1⟩:=by
 unfold B0 at h
 simp only[fO,jJ,Nat.cj]at h
 have hr:=hr _ h
 simp only[RO.to,St.S,dr,gr]at hr
 exact hr
theorem EV(aR:P.follows .mixedOrders=true)(bR:∀g,(bu g).Ok P g){rec:cP}(a7:dw P rec){st:St}{o:bE}{kr:RO->Option dk}{a:dk}(h:Nf P bu md rec st o kr=some a){K:S->Prop}{X:V->S->Prop}(hr:∀r,kr r=some a->r.to K X):yH P st.S o X K:=by
 have cr:∀r,Ij st o.dst kr r=some a->r.to (fun v o' nx'=>K ⟨aN st.S.env o.dst v,o',nx'⟩) (fun v o' nx'=>X v ⟨st.S.env,o',nx'⟩):=by
  intro r hx
  unfold Ij at hx
  split at hx
  ·simp only[fO,Nat.cj]at hx
   have hr:=hr _ hx
   simp only[RO.to,St.S,dr]at hr
   exact hr
  ·exact hr _ hx
 unfold Nf at h
 unfold yH
 cases cO:o.op
 case call c=>
  rw[cO]at h
  have h:Ab c P bu md rec st o kr=some a:=h
  unfold Ab at h
  cases hf:c.callee
  case value f=>
   simp only[hf]at h|-
   split at h
   ·rename_i g first cap hv
    simp only[hv]
    have:=tY aR bR a7 h cr
    rcases this with⟨ds,dB,hP⟩|hC
    ·have EW:bA st.S.o (first++List.map st.S.ev c.args.toList++cap)=some ds:=dB
     simp only[EW]
     exact .inl hP
    ·split
     ·exact .inr (.inl hC)
     ·exact .inl hC
   ·rename_i id hv
    simp only[hv]
    exact B1 aR a7 h cr
   ·cases h
  case invoke r m=>
   simp only[hf]at h|-
   split at h
   ·rename_i g y hv
    simp only[hv]
    exact tY aR bR a7 h cr
   ·cases h
  all_goals
   simp only[hf]at h|-
   have:=pj h hr
   rw[cO]at this
   exact this
 case panic x=>
  rw[cO]at h
  have h:ET x P bu md rec st o kr=some a:=h
  unfold ET at h
  split at h
  ·rename_i hv;simp only[hv];exact hr _ h
  ·rename_i hv;simp only[hv];exact hr _ h
  ·cases h
 case next x str=>
  rw[cO]at h
  have h:Ad x str P bu md rec st o kr=some a:=h
  unfold Ad at h
  have hl:kz st.S.o (st.S.ev x)=kz st.o.get (st.S.ev x):=rfl
  simp only[hl]
  split at h
  ·rename_i id l ag
   simp only[ag]
   cases str with
   |true=>cases h
   |false=>
    refine⟨rfl,fun e=> ?_,fun i k y e=> ?_⟩
    ·subst e
     exact wP h hr
    ·cases l with
     |nil=>simp at e
     |cons p l=>
      have:=Ac h i (List.getElem?_eq_some_iff.1 e).1
      rw[e]at this
      exact wP this hr
  ·rename_i ag
   simp only[ag]
   have:=pj h hr
   rw[cO]at this
   exact this
 all_goals
  have h2:qE P st o kr=some a:=by rw[cO]at h;exact h
  have:=pj h2 hr
  rw[cO]at this
  exact this
theorem nU(aR:P.follows .mixedOrders=true)(bR:∀g,(bu g).Ok P g){rec:cP}(a7:dw P rec){kr:RO->Option dk}{a:dk}{K:S->Prop}{X:V->S->Prop}(hr:∀r,kr r=some a->r.to K X):∀ (l:List bE) (st:St),rU P bu md rec kr l st=some a->kS P X K l st.S
 |[],st,h=>hr (.ok st) h
 |o::l,st,h=>by
  simp only[rU,fO,Nat.cj]at h
  simp only[kS]
  have op:Nf P bu md rec st o (Q4 (rU P bu md rec kr l) kr)=some a->yH P st.S o X (kS P X K l):=by
   intro h
   refine EV aR bR a7 h fun r Q5=> ?_
   cases r with
   |ok EX=>exact nU aR bR a7 hr l EX Q5
   |ba v EX=>exact hr (.ba v EX) Q5
  have sk:rU P bu md rec kr l ⟨ns st.env o.dst (.bM []),st.o,st.nx+1⟩=some a->kS P X K l ⟨aN st.S.env o.dst (.bM []),st.S.o,st.S.nx+1⟩:=by
   intro h
   have:=nU aR bR a7 hr l _ h
   simp only[St.S,dr]at this
   exact this
  cases hg:o.gd with
  |none=>simp only[hg]at h;exact op h
  |some p=>
   obtain⟨d,want⟩:=p
   simp only[hg]at h
   have he:st.S.env d=st.env.get d:=rfl
   simp only[he]
   cases hv:st.env.get d with
   |d x=>
    cases x with
    |bool b=>
     simp only[hv]at h|-
     by_cases e:b=want
     ·subst e
      simp only[beq_self_eq_true]at h
      rw[if_pos rfl];exact op h
     ·have:(b==want)=false:=by simpa using e
      rw[this]at h
      rw[if_neg e];exact sk h
    |_=>simp[hv]at h
   |bM vs=>
    cases vs with
    |nil=>simp only[hv]at h|-;exact sk h
    |cons a bB=>simp[hv]at h
   |_=>simp[hv]at h
end
end Go.Proofs.YtpkobkdgcanmjaaGreat
namespace Go.Proofs.YtpkobkdgcanmjaaGreat
theorem vk.EY {P:Program}{g:FuncId}{ds:List D}{o:Nat->aa}{fr:Nat}{ty:TypeId}{sz:Nat}{es:List D}
 (h:fm P g (ds.map .d) (fun _=> .no) 0 (fun v o1 _=>(∃j ep,v= .osl j ep/\o1 j= .arr ep ty sz es)\/(v= .aM/\es=[]/\0<sz)) (fun _ _ _=>False)):
 vk P g (ds.map .d) [] o fr (.osl fr 0) [(fr, .arr 0 ty sz es)]:=by
 refine⟨h.1,fun o' us M φ w vals _ cZ hH hd=> ?_⟩
 let bT:Place:=fun _=> .nilFunc
 have ru:∀b, ¬bq bT (hp (fun _=> .no) 0) b:=by rintro b ⟨id,hl,_⟩;simp[hp,aa.live]at hl
 have hM:∀b,ad M φ ⟨o',us⟩ b->b<w.heap.size:=fun b hb=>hb.elim (hH.pP b) fun hl=>(hH.ours b hl).2
 have p9:=(V.bP _ _).1 hd
 refine(h.2 (ad M φ ⟨o',us⟩) bT w vals (jZ bT hM) ((V.bP _ _).2 (D.az (w:=w) (w':=w) (B:=ad M φ ⟨o',us⟩) (fun b _ hB=>⟨rfl,fun h=>h.elim hB (ru b)⟩) _ _ p9))).mono ?_
 rintro e w' ⟨fk,o1,n1,v,k1,k2,k3⟩
 have hk:dJ (fun _=>False) w w':=⟨k2.bO.os,k2.bO.tape,k2.bO.output,k2.bO.size,fun k hk _=>k2.bO.block k hk (ru k)⟩
 have GI:(⟨o',us⟩:Hp).put [(fr, .arr 0 ty sz es)]=⟨put o' [(fr, .arr 0 ty sz es)],fun id=>us id\/id=fr⟩:=by
  simp only[Hp.put]
  congr 1
  funext id
  simp
 have fin:∀ (val:Value) (xs:List Value),(∀b,dA val=some b->w.heap.size<=b/\b<w'.heap.size)->0<sz->w'.ownsRow 0 ty sz val es.length xs->
  (eT (ad M (aV φ fr val) ((⟨o',us⟩:Hp).put [(fr, .arr 0 ty sz es)])) w' sz es xs)->
  val.oneCell'=true->
  ∃aj,ai M aj ⟨put o' [(fr, .arr 0 ty sz es)],fun id=>us id\/id=fr⟩ w'/\Trans φ ⟨o',us⟩ w aj ⟨put o' [(fr, .arr 0 ty sz es)],fun id=>us id\/id=fr⟩ w'/\
   ∃Ag,Ending.returned val= .returned Ag/\V.den (ad M aj ⟨put o' [(fr, .arr 0 ty sz es)],fun id=>us id\/id=fr⟩) aj ⟨put o' [(fr, .arr 0 ty sz es)],fun id=>us id\/id=fr⟩ w' (.osl fr 0) Ag:=by
  intro val xs fT dv dN aZ OJ
  have lW:=fU hH hk cZ (.arr 0 ty sz es) val fT (by
   unfold aA
   rw[show((⟨o',us⟩:Hp).put [(fr, .arr 0 ty sz es)]).o fr= .arr 0 ty sz es by simp]
   refine⟨dv,xs, ?_,aZ⟩
   rw[show aV φ fr val fr=val by simp]
   exact dN)
  have Il:=dL (φ:=φ) (H:=⟨o',us⟩) hk cZ (.arr 0 ty sz es) val (fun b hb=>(fT b hb).1)
  rw[GI]at lW Il
  refine⟨aV φ fr val,lW,Il,val,rfl,OJ, .inr rfl,fun e he=> ?_⟩
  have dZ:0=e:=by
   have:(put o' [(fr,aa.arr 0 ty sz es)] fr).aO=some 0:=by simp[put,aa.aO]
   rw[show(⟨put o' [(fr, .arr 0 ty sz es)],fun id=>us id\/id=fr⟩:Hp).o fr=put o' [(fr, .arr 0 ty sz es)] fr from rfl,this]at he
   injection he
  exact⟨by omega,fun _=>by simp⟩
 cases e with
 |outgrown=>exact k3.elim
 |panicked ch=>obtain⟨_,_,_,h⟩:=k3;exact h.elim
 |returned val=>
  obtain⟨g1,⟨j,ep,rfl,hj⟩|⟨rfl,rfl,dv⟩⟩:=k3
  ·obtain⟨v0,v1,v2⟩:=g1
   have du:val=fk j:=(v2 ep (by show(o1 j).aO=some ep;rw[hj];rfl)).2 rfl
   have bt:∀b,dA val=some b->bq fk (hp o1 n1) b:=fun b hb=>⟨j,by show(o1 j).live=true;rw[hj];rfl,by rw[<- du];exact hb⟩
   have fT:∀b,dA val=some b->w.heap.size<=b/\b<w'.heap.size:=fun b hb=>⟨(k2.grow b (bt b hb)).resolve_left (ru b),(k1.ours b (bt b hb)).2⟩
   have EZ:=k1.ok j
   unfold aA at EZ
   rw[show(hp o1 n1).o j= .arr ep ty sz es from hj]at EZ
   obtain⟨dv,xs,dN,aZ⟩:=EZ
   have Tn:∀b,ad M (aV φ fr val) ((⟨o',us⟩:Hp).put [(fr, .arr 0 ty sz es)]) b->ad (ad M φ ⟨o',us⟩) fk (hp o1 n1) b:=by
    rintro b (hb|⟨id,hl,hb⟩)
    ·exact .inl (.inl hb)
    ·by_cases e:id=fr
     ·subst e
      simp at hb
      exact .inr (bt b hb)
     ·simp[e]at hl hb
      exact .inl (.inr ⟨id,hl,hb⟩)
   exact fin val xs fT dv (by rw[du];exact dN) (aZ.mono (w:=w') (w':=w') (fun b _ hB=>⟨rfl,fun h=>hB (Tn b h)⟩)) v0
  ·have g1:val= .slice none 0 0:=g1
   subst g1
   exact fin _ [] (fun b hb=>by cases hb) dv (World.ownsRow_nil w' 0 ty sz) ⟨[],rfl,by simp,rfl⟩ rfl
theorem vk.B2 {P:Program}{g:FuncId}{args:List V}{ds:List D}{o:Nat->aa}{fr:Nat}{ty:TypeId}{sz:Nat}{es:List D}
 (dB:bA o args=some ds) (lh:D.fX es=true) (h:fm P g (ds.map .d) (fun _=> .no) 0 (fun v o1 _=>(∃j ep,v= .osl j ep/\o1 j= .arr ep ty sz es)\/(v= .aM/\es=[]/\0<sz)) (fun _ _ _=>False)):
 vk P g args (V.aQ args) o fr (.osl fr 0) [(fr, .arr 0 ty sz es)]:=by
 refine⟨h.1,fun o' us M φ w vals Q6 cZ hH hd=> ?_⟩
 obtain⟨f1,f2,f3,f4,f5⟩:=cw hH (V.aQ args) (fun id ag=>(Q6 id ag).2)
 generalize TW:(⟨o',us⟩:Hp).put (cg (⟨o',us⟩:Hp).o (V.aQ args))=HF at f1 f2 f3
 let bT:Place:=fun _=> .nilFunc
 have ru:∀b, ¬bq bT (hp (fun _=> .no) 0) b:=by rintro b ⟨id,hl,_⟩;simp[hp,aa.live]at hl
 have hM:∀b,ad M φ HF b->b<w.heap.size:=fun b hb=>hb.elim (f1.pP b) fun hl=>(f1.ours b hl).2
 have p9:D.aq (ad M φ HF) w ds vals.toList:=cF f1 args ds _ (fun id ag=>by rw[f3 id ag];show(o' id).fz=(o id).fz;rw[(Q6 id ag).1]) dB (V.az f2 _ _ hd)
 refine(h.2 (ad M φ HF) bT w vals (jZ bT hM) ((V.bP _ _).2 (D.az (w:=w) (w':=w) (B:=ad M φ HF) (fun b _ hB=>⟨rfl,fun h=>h.elim hB (ru b)⟩) _ _ p9))).mono ?_
 rintro e w' ⟨fk,o1,n1,v,k1,k2,k3⟩
 have hk:dJ (fun _=>False) w w':=⟨k2.bO.os,k2.bO.tape,k2.bO.output,k2.bO.size,fun k hk _=>k2.bO.block k hk (ru k)⟩
 have GI:(⟨o',us⟩:Hp).put [(fr, .arr 0 ty sz es)]=⟨put o' [(fr, .arr 0 ty sz es)],fun id=>us id\/id=fr⟩:=by
  simp only[Hp.put]
  congr 1
  funext id
  simp
 have fin:∀ (val:Value) (xs:List Value),(∀b,dA val=some b->w.heap.size<=b/\b<w'.heap.size)->0<sz->w'.ownsRow 0 ty sz val es.length xs->
  (eT (ad M (aV φ fr val) ((⟨o',us⟩:Hp).put [(fr, .arr 0 ty sz es)])) w' sz es xs)->
  val.oneCell'=true->
  ∃aj,ai M aj ⟨put o' [(fr, .arr 0 ty sz es)],fun id=>us id\/id=fr⟩ w'/\Trans φ ⟨o',us⟩ w aj ⟨put o' [(fr, .arr 0 ty sz es)],fun id=>us id\/id=fr⟩ w'/\
   ∃Ag,Ending.returned val= .returned Ag/\V.den (ad M aj ⟨put o' [(fr, .arr 0 ty sz es)],fun id=>us id\/id=fr⟩) aj ⟨put o' [(fr, .arr 0 ty sz es)],fun id=>us id\/id=fr⟩ w' (.osl fr 0) Ag:=by
  intro val xs fT dv dN aZ OJ
  have lW:=fU hH hk cZ (.arr 0 ty sz es) val fT (by
   unfold aA
   rw[show((⟨o',us⟩:Hp).put [(fr, .arr 0 ty sz es)]).o fr= .arr 0 ty sz es by simp]
   refine⟨dv,xs, ?_,aZ⟩
   rw[show aV φ fr val fr=val by simp]
   exact dN)
  have Il:=dL (φ:=φ) (H:=⟨o',us⟩) hk cZ (.arr 0 ty sz es) val (fun b hb=>(fT b hb).1)
  rw[GI]at lW Il
  refine⟨aV φ fr val,lW,Il,val,rfl,OJ, .inr rfl,fun e he=> ?_⟩
  have dZ:0=e:=by
   have:(put o' [(fr,aa.arr 0 ty sz es)] fr).aO=some 0:=by simp[put,aa.aO]
   rw[show(⟨put o' [(fr, .arr 0 ty sz es)],fun id=>us id\/id=fr⟩:Hp).o fr=put o' [(fr, .arr 0 ty sz es)] fr from rfl,this]at he
   injection he
  exact⟨by omega,fun _=>by simp⟩
 cases e with
 |outgrown=>exact k3.elim
 |panicked ch=>obtain⟨_,_,_,h⟩:=k3;exact h.elim
 |returned val=>
  obtain⟨g1,⟨j,ep,rfl,hj⟩|⟨rfl,rfl,dv⟩⟩:=k3
  ·obtain⟨v0,v1,v2⟩:=g1
   have du:val=fk j:=(v2 ep (by show(o1 j).aO=some ep;rw[hj];rfl)).2 rfl
   have bt:∀b,dA val=some b->bq fk (hp o1 n1) b:=fun b hb=>⟨j,by show(o1 j).live=true;rw[hj];rfl,by rw[<- du];exact hb⟩
   have fT:∀b,dA val=some b->w.heap.size<=b/\b<w'.heap.size:=fun b hb=>⟨(k2.grow b (bt b hb)).resolve_left (ru b),(k1.ours b (bt b hb)).2⟩
   have EZ:=k1.ok j
   unfold aA at EZ
   rw[show(hp o1 n1).o j= .arr ep ty sz es from hj]at EZ
   obtain⟨dv,xs,dN,aZ⟩:=EZ
   obtain⟨evs,e1,e2,e3⟩:=aZ
   exact fin val xs fT dv (by rw[du];exact dN) ⟨evs,e1,e2,D.iM _ _ lh e3⟩ v0
  ·have g1:val= .slice none 0 0:=g1
   subst g1
   exact fin _ [] (fun b hb=>by cases hb) dv (World.ownsRow_nil w' 0 ty sz) ⟨[],rfl,by simp,rfl⟩ rfl
theorem vk.B3 {P:Program}{g:FuncId}{args:List V}{ds:List D}{o0 o:Nat->aa}{rd:List Nat}{fr:Nat}{v:V}{Δ:List (Nat×aa)}(ag:V.aQ args=[])(dB:bA o0 args=some ds)
 (h:vk P g (ds.map .d) rd o fr v Δ):vk P g args rd o fr v Δ:=
 ⟨h.1,fun o' us M φ w vals h1 h2 hH hd=>h.2 o' us M φ w vals h1 h2 hH ((V.bP _ _).2 (cF hH args ds _ (by rw[ag];intro id h;cases h) dB hd))⟩
end Go.Proofs.YtpkobkdgcanmjaaGreat
