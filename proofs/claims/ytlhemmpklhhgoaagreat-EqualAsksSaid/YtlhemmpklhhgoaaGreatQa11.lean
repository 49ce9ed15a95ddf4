/-
  A PART OF THE PROOF. Conditions: none.
-/
import Derived.Test.YtlhemmpklhhgoaaGreatQa10
set_option linter.unusedSimpArgs false
set_option linter.unusedVariables false
namespace Go.Proofs.YtlhemmpklhhgoaaGreat
section
inductive Tr (α:Type) where
 |e (f:Nat->α)
 |n (x:α) (l r:Tr α)
noncomputable def Tr.get {α:Type}(t:Tr α):Nat->α:=
 Tr.rec (motive:=fun _=>Nat->α) (fun f=>f) (fun x _ _ l r k=>Bool.rec (Bool.rec (r (Nat.sub (Nat.div k 2) 1)) (l (Nat.div k 2)) (Nat.beq (Nat.mod k 2) 1)) x (Nat.beq k 0)) t
theorem Tr.EX {α:Type}(f:Nat->α):(Tr.e f).get=f:=rfl
noncomputable def Tr.uA {α:Type}(x:α):Nat->Tr α->Nat->Tr α
 |0,t,k=> .e (aA t.get k x)
 |d+1, .e f,k=>match Nat.beq k 0 with
  |true=> .n x (.e fun i=>f (2*i+1)) (.e fun i=>f (2*i+2))
  |false=>match Nat.beq (k%2) 1 with
   |true=> .n (f 0) (Tr.uA x d (.e fun i=>f (2*i+1)) (k/2)) (.e fun i=>f (2*i+2))
   |false=> .n (f 0) (.e fun i=>f (2*i+1)) (Tr.uA x d (.e fun i=>f (2*i+2)) (k/2 - 1))
 |d+1, .n y l r,k=>match Nat.beq k 0 with
  |true=> .n x l r
  |false=>match Nat.beq (k%2) 1 with
   |true=> .n y (Tr.uA x d l (k/2)) r
   |false=> .n y l (Tr.uA x d r (k/2 - 1))
noncomputable def Tr.set {α:Type}(t:Tr α)(k:Nat)(x:α):Tr α:=Tr.uA x 24 t k
theorem Tr.uB {α:Type}{x:α}{l r:Tr α}{k:Nat}:(Tr.n x l r).get k=if k=0 then x else if k%2=1 then l.get (k/2)else r.get (k/2 - 1):=by
 show @Bool.rec (fun _=>α) (@Bool.rec (fun _=>α) (r.get (k/2 - 1)) (l.get (k/2)) (Nat.beq (k%2) 1)) x (Nat.beq k 0)=_
 by_cases h:k=0
 ·subst h;rfl
 ·have:Nat.beq k 0=false:=by cases k with|zero=>exact absurd rfl h|succ k=>rfl
  simp only[this,h,if_false]
  by_cases h2:k%2=1
  ·simp[h2]
  ·have:Nat.beq (k%2) 1=false:=by
    cases hb:Nat.beq (k%2) 1 with
    |false=>rfl
    |true=>exact absurd (Nat.eq_of_beq_eq_true hb) h2
   simp[h2,this]
theorem Tr.mQ {α:Type}(x:α):∀ (d:Nat) (t:Tr α) (k:Nat),(Tr.uA x d t k).get=aA t.get k x
 |0,t,k=>rfl
 |d+1, .e f,k=>by
  funext i
  simp only[Tr.uA]
  have hb:∀a b:Nat,Nat.beq a b=decide (a=b):=fun a b=>by
   cases h:Nat.beq a b with
   |true=>simp[Nat.eq_of_beq_eq_true h]
   |false=>simp[Nat.ne_of_beq_eq_false h]
  rw[hb,hb]
  by_cases h:k=0
  ·subst h
   simp only[decide_true,Tr.uB,aH]
   by_cases hi:i=0
   ·simp[hi]
   ·simp only[hi,if_false]
    by_cases h2:i%2=1
    ·simp only[h2,if_true,Tr.EX];congr 1;omega
    ·simp only[h2,if_false,Tr.EX];congr 1;omega
  ·simp only[h,decide_false]
   by_cases hk:k%2=1
   ·simp only[hk,decide_true,Tr.uB,Tr.mQ x d,aH,Tr.EX]
    by_cases hi:i=0
    ·exact Ed
    ·simp only[hi,if_false]
     by_cases h2:i%2=1
     ·simp only[h2,if_true]
      have e1:2*(i/2)+1=i:=ae
      rw[e1]
      by_cases e:i=k
      ·simp[e]
      ·exact D7
     ·simp only[h2,if_false]
      rw[if_neg (by intro e;subst e;exact h2 hk)]
      congr 1;omega
   ·simp only[hk,decide_false,Tr.uB,Tr.mQ x d,aH,Tr.EX]
    by_cases hi:i=0
    ·exact Ed
    ·simp only[hi,if_false]
     by_cases h2:i%2=1
     ·simp only[h2,if_true]
      rw[if_neg (by intro e;subst e;exact hk h2)]
      congr 1;omega
     ·simp only[h2,if_false]
      have e1:2*(i/2 - 1)+2=i:=ae
      rw[e1]
      by_cases e:i=k
      ·simp[e]
      ·exact D7
 |d+1, .n y l r,k=>by
  funext i
  simp only[Tr.uA]
  have hb:∀a b:Nat,Nat.beq a b=decide (a=b):=fun a b=>by
   cases h:Nat.beq a b with
   |true=>simp[Nat.eq_of_beq_eq_true h]
   |false=>simp[Nat.ne_of_beq_eq_false h]
  rw[hb,hb]
  by_cases h:k=0
  ·subst h
   simp only[decide_true,Tr.uB,aH]
   by_cases hi:i=0
   ·simp[hi]
   ·simp[hi]
  ·simp only[h,decide_false]
   by_cases hk:k%2=1
   ·simp only[hk,decide_true,Tr.uB,Tr.mQ x d,aH]
    by_cases hi:i=0
    ·exact Ed
    ·simp only[hi,if_false]
     by_cases h2:i%2=1
     ·simp only[h2,if_true]
      by_cases e:i=k
      ·simp[e]
      ·exact D7
     ·simp only[h2,if_false]
      rw[if_neg (by intro e;subst e;exact h2 hk)]
   ·simp only[hk,decide_false,Tr.uB,Tr.mQ x d,aH]
    by_cases hi:i=0
    ·exact Ed
    ·simp only[hi,if_false]
     by_cases h2:i%2=1
     ·simp only[h2,if_true]
      rw[if_neg (by intro e;subst e;exact hk h2)]
     ·simp only[h2,if_false]
      by_cases e:i=k
      ·simp[e]
      ·exact D7
theorem Tr.gz {α:Type}(t:Tr α)(k:Nat)(x:α):(t.set k x).get=aA t.get k x:=Tr.mQ x 24 t k
noncomputable def Nat.fc {β:Type}(n:Nat)(c:Nat->β):β:=Nat.rec (motive:=fun _=>β) (c 0) (fun m _=>c (Nat.succ m)) n
theorem Nat.cJ {β:Type}(n:Nat)(c:Nat->β):Nat.fc n c=c n:=by cases n<;>rfl
noncomputable def Int.fc {β:Type}(n:Int)(c:Int->β):β:=Int.rec (motive:=fun _=>β) (fun m=>Nat.fc m fun m=>c (.ofNat m)) (fun m=>Nat.fc m fun m=>c (.negSucc m)) n
theorem Int.cJ {β:Type}(n:Int)(c:Int->β):Int.fc n c=c n:=by cases n<;>simp only[Int.fc,Nat.cJ]
mutual
noncomputable def D.fc {β:Type}:D->(D->β)->β
 | .int k n,c=>Int.fc n fun n=>c (.int k n)
 | .bool b,c=>match b with|true=>c (.bool true)|false=>c (.bool false)
 | .agg l,c=>D.uC l fun l=>c (.agg l)
 | .sl l,c=>D.uC l fun l=>c (.sl l)
 | .iface t x,c=>D.fc x fun x=>c (.iface t x)
 | .str s,c=>c (.str s)
 | .eD,c=>c .eD
 | .kC,c=>c .kC
 | .b8,c=>c .b8
 | .dC,c=>c .dC
 | .mp ks vs,c=>D.uC ks fun ks=>D.uC vs fun vs=>c (.mp ks vs)
noncomputable def D.uC {β:Type}:List D->(List D->β)->β
 |[],c=>c []
 |x::xs,c=>D.fc x fun x=>D.uC xs fun xs=>c (x::xs)
end
mutual
theorem D.cJ {β:Type}:∀ (x:D) (c:D->β),D.fc x c=c x
 | .int k n,c=>by simp only[D.fc,Int.cJ]
 | .bool b,c=>by cases b<;>rfl
 | .agg l,c=>by simp only[D.fc,D.fh l]
 | .sl l,c=>by simp only[D.fc,D.fh l]
 | .iface t x,c=>by simp only[D.fc,D.cJ x]
 | .mp ks vs,c=>by simp only[D.fc,D.fh ks,D.fh vs]
 | .str _,_| .eD,_| .kC,_| .b8,_| .dC,_=>by simp only[D.fc]
theorem D.fh {β:Type}:∀ (x:List D) (c:List D->β),D.uC x c=c x
 |[],c=>by simp only[D.uC]
 |x::xs,c=>by simp only[D.uC,D.cJ x,D.fh xs]
end
mutual
noncomputable def V.fc {β:Type}:V->(V->β)->β
 | .d x,c=>D.fc x fun x=>c (.d x)
 | .agg l,c=>V.uC l fun l=>c (.agg l)
 | .bN l,c=>V.uC l fun l=>c (.bN l)
 | .ptr i o,c=>Nat.fc i fun i=>Nat.fc o fun o=>c (.ptr i o)
 | .osl i o,c=>Nat.fc i fun i=>Nat.fc o fun o=>c (.osl i o)
 | .pe a b i j k,c=>Nat.fc a fun a=>Nat.fc b fun b=>Nat.fc i fun i=>Nat.fc j fun j=>Nat.fc k fun k=>c (.pe a b i j k)
 | .pp l o,c=>D.uC l fun l=>Nat.fc o fun o=>c (.pp l o)
 | .func f a b,c=>V.uC a fun a=>V.uC b fun b=>c (.func f a b)
 | .iface t x,c=>V.fc x fun x=>c (.iface t x)
 | .oA l,c=>D.uC l fun l=>c (.oA l)
 | .wC i j k,c=>Nat.fc i fun i=>Nat.fc j fun j=>Nat.fc k fun k=>c (.wC i j k)
 | .mp i,c=>Nat.fc i fun i=>c (.mp i)
 | .kz i,c=>Nat.fc i fun i=>c (.kz i)
 | .aM,c=>c .aM
 | .ab,c=>c .ab
 | .fD,c=>c .fD
noncomputable def V.uC {β:Type}:List V->(List V->β)->β
 |[],c=>c []
 |x::xs,c=>V.fc x fun x=>V.uC xs fun xs=>c (x::xs)
end
mutual
theorem V.cJ {β:Type}:∀ (x:V) (c:V->β),V.fc x c=c x
 | .d x,c=>by simp only[V.fc,D.cJ]
 | .agg l,c=>by simp only[V.fc,V.fh l]
 | .bN l,c=>by simp only[V.fc,V.fh l]
 | .pp l o,c=>by simp only[V.fc,D.fh,Nat.cJ]
 | .func f a b,c=>by simp only[V.fc,V.fh a,V.fh b]
 | .iface t x,c=>by simp only[V.fc,V.cJ x]
 | .oA l,c=>by simp only[V.fc,D.fh]
 | .ptr _ _,_| .osl _ _,_| .pe _ _ _ _ _,_| .wC _ _ _,_| .mp _,_| .kz _,_| .aM,_| .ab,_| .fD,_=>by simp only[V.fc,Nat.cJ]
theorem V.fh {β:Type}:∀ (x:List V) (c:List V->β),V.uC x c=c x
 |[],c=>by simp only[V.uC]
 |x::xs,c=>by simp only[V.uC,V.cJ x,V.fh xs]
end
section
variable {β:Type}
noncomputable def X6(k:IntKind)(n:Int)(c:V->β):β:=Int.fc n fun n=>c (.d (.int k n))
noncomputable def X7(b:Bool)(c:V->β):β:= @Bool.rec (fun _=>β) (c (.d (.bool false))) (c (.d (.bool true))) b
noncomputable def R1(x:D)(c:V->β):β:=D.fc x fun x=>c (.d x)
noncomputable def vD(x:D):(V->β)->β:=match x with| .int k n=>X6 k n| .bool b=>X7 b|x=>R1 x
noncomputable def X8(i o:Nat)(c:V->β):β:=Nat.fc i fun i=>Nat.fc o fun o=>c (.ptr i o)
noncomputable def X9(i o:Nat)(c:V->β):β:=Nat.fc i fun i=>Nat.fc o fun o=>c (.osl i o)
noncomputable def vPe(a b i j k:Nat)(c:V->β):β:=Nat.fc a fun a=>Nat.fc b fun b=>Nat.fc i fun i=>Nat.fc j fun j=>Nat.fc k fun k=>c (.pe a b i j k)
noncomputable def V.UZ (v:V):(V->β)->β:=match v with| .d x=>vD x| .ptr i o=>X8 i o| .osl i o=>X9 i o| .pe a b i j k=>vPe a b i j k|v=>V.fc v
theorem V.R3 (v:V)(c:V->β):V.UZ v c=c v:=by
 cases v
 case d x=>
  cases x
  case int k n=>simp only[V.UZ,vD,X6,Int.cJ]
  case bool b=>cases b<;>rfl
  all_goals exact D.cJ _ _
 case ptr i o=>simp only[V.UZ,X8,Nat.cJ]
 case osl i o=>simp only[V.UZ,X9,Nat.cJ]
 case pe a b i j k=>simp only[V.UZ,vPe,Nat.cJ]
 all_goals exact V.cJ _ _
end
noncomputable def U0{β:Type}:List (D×D)->(List (D×D)->β)->β
 |[],c=>c []
 |(a,b)::l,c=>D.fc a fun a=>D.fc b fun b=>U0 l fun l=>c ((a,b)::l)
theorem Jg{β:Type}:∀ (x:List (D×D)) (c:List (D×D)->β),U0 x c=c x
 |[],c=>rfl
 |(a,b)::l,c=>by simp only[U0,D.cJ,Jg l]
noncomputable def aa.fc {β:Type}(x:aa)(c:aa->β):β:=
 match x with
 | .row cs=>V.uC cs fun cs=>c (.row cs)
 | .arr e t s es=>Nat.fc e fun e=>Nat.fc s fun s=>D.uC es fun es=>c (.arr e t s es)
 | .sZ e es=>Nat.fc e fun e=>D.uC es fun es=>c (.sZ e es)
 | .map kt vt l=>U0 l fun l=>c (.map kt vt l)
 | .cZ l=>U0 l fun l=>c (.cZ l)
 | .qS l last=>U0 l fun l=>c (.qS l last)
 | .xZ l pos=>Nat.fc pos fun pos=>c (.xZ l pos)
 |x=>c x
theorem aa.cJ {β:Type}(x:aa)(c:aa->β):aa.fc x c=c x:=by cases x<;>simp only[aa.fc,V.fh,D.fh,Nat.cJ,Jg]
noncomputable def Tr.xj {α β:Type}(x:α)(d:Nat):Tr α->Nat->(Tr α->β)->β:=
 Nat.rec (motive:=fun _=>Tr α->Nat->(Tr α->β)->β) (fun t k c=>c (.e (aA t.get k x)))
  (fun _ ih t k c=>Tr.rec (motive:=fun _=>β) (fun f=>
   Bool.rec (Bool.rec (ih (.e fun i=>f (2*i+2)) (Nat.sub (Nat.div k 2) 1) fun r=>c (.n (f 0) (.e fun i=>f (2*i+1)) r)) (ih (.e fun i=>f (2*i+1)) (Nat.div k 2) fun l=>c (.n (f 0) l (.e fun i=>f (2*i+2)))) (Nat.beq (Nat.mod k 2) 1))
    (c (.n x (.e fun i=>f (2*i+1)) (.e fun i=>f (2*i+2)))) (Nat.beq k 0))
   (fun y l r _ _=>Bool.rec (Bool.rec (ih r (Nat.sub (Nat.div k 2) 1) fun r=>c (.n y l r)) (ih l (Nat.div k 2) fun l=>c (.n y l r)) (Nat.beq (Nat.mod k 2) 1)) (c (.n x l r)) (Nat.beq k 0)) t) d
theorem Tr.uD {α β:Type}(x:α):∀ (d:Nat) (t:Tr α) (k:Nat) (c:Tr α->β),Tr.xj x d t k c=c (Tr.uA x d t k)
 |0,t,k,c=>rfl
 |d+1, .e f,k,c=>by
  show @Bool.rec (fun _=>β) (@Bool.rec (fun _=>β) (Tr.xj x d (.e fun i=>f (2*i+2)) (k/2 - 1) fun r=>c (.n (f 0) (.e fun i=>f (2*i+1)) r)) (Tr.xj x d (.e fun i=>f (2*i+1)) (k/2) fun l=>c (.n (f 0) l (.e fun i=>f (2*i+2)))) (Nat.beq (k%2) 1)) (c (.n x (.e fun i=>f (2*i+1)) (.e fun i=>f (2*i+2)))) (Nat.beq k 0)=_
  simp only[Tr.uA,Tr.uD x d]
  cases Nat.beq k 0
  ·cases Nat.beq (k%2) 1<;>rfl
  ·rfl
 |d+1, .n y l r,k,c=>by
  show @Bool.rec (fun _=>β) (@Bool.rec (fun _=>β) (Tr.xj x d r (k/2 - 1) fun r=>c (.n y l r)) (Tr.xj x d l (k/2) fun l=>c (.n y l r)) (Nat.beq (k%2) 1)) (c (.n x l r)) (Nat.beq k 0)=_
  simp only[Tr.uA,Tr.uD x d]
  cases Nat.beq k 0
  ·cases Nat.beq (k%2) 1<;>rfl
  ·rfl
noncomputable def Tr.R4 {α β:Type}(t:Tr α)(k:Nat)(x:α)(c:Tr α->β):β:=Tr.xj x 24 t k c
theorem Tr.EY {α β:Type}(t:Tr α)(k:Nat)(x:α)(c:Tr α->β):t.R4 k x c=c (t.set k x):=Tr.uD x 24 t k c
structure St where
 env:Tr V
 o:Tr aa
 nx:Nat
noncomputable def St.S (st:St):S:=⟨st.env.get,st.o.get,st.nx⟩
noncomputable def GJ(o:Tr aa)(Δ:List (Nat×aa)):Tr aa:=Δ.foldl (fun f x=>f.set x.1 x.2) o
noncomputable def sv(env:Tr V)(dst:Option Tmp)(v:V):Tr V:=match dst with|some d=>env.set d v|none=>env
noncomputable def uE{β:Type}(o:Tr aa):List (Nat×aa)->(Tr aa->β)->β
 |[],c=>c o
 |(i,x)::Δ,c=>aa.fc x fun x=>o.R4 i x fun o=>uE o Δ c
theorem mR{β:Type}:∀ (Δ:List (Nat×aa)) (o:Tr aa) (c:Tr aa->β),uE o Δ c=c (GJ o Δ)
 |[],o,c=>rfl
 |(i,x)::Δ,o,c=>by simp only[uE,aa.cJ,Tr.EY,mR Δ];rfl
noncomputable def lI{β:Type}(env:Tr V)(dst:Option Tmp)(v:V)(c:Tr V->β):β:=match dst with|some d=>V.UZ v fun v=>env.R4 d v c|none=>c env
theorem iY{β:Type}(env:Tr V)(dst:Option Tmp)(v:V)(c:Tr V->β):lI env dst v c=c (sv env dst v):=by
 cases dst<;>simp only[lI,sv,V.R3,Tr.EY]
theorem jr:∀ (Δ:List (Nat×aa)) (o:Tr aa),(GJ o Δ).get=put o.get Δ
 |[],_=>rfl
 |x::Δ,o=>by
  simp only[GJ,put,List.foldl_cons]
  have:=jr Δ (o.set x.1 x.2)
  simp only[GJ,put]at this
  rw[this,Tr.gz]
theorem iR(env:Tr V)(dst:Option Tmp)(v:V):(sv env dst v).get=aU env.get dst v:=by
 cases dst<;>simp[sv,aU,Tr.gz]
section R5
def Pb(x:Operand)(_:Program)(s:S)(_:Nat):Option fG:=one (s.ev x)
def Ya(c a b:Operand)(_:Program)(s:S)(_:Nat):Option fG:=lF (pW (s.ev c) (s.ev a) (s.ev b))
def R6(t:TypeId)(parts:Array (Nat×Operand))(P:Program)(s:S)(_:Nat):Option fG:=lF (yr P t (parts.toList.map fun p=>(p.1,s.ev p.2)))
def Bw(t:TypeId)(len:Nat)(parts:Array (Nat×Operand))(P:Program)(s:S)(fr:Nat):Option fG:=fO P s.o fr t len (parts.toList.map fun p=>(p.1,s.ev p.2))
def Yb(t:TypeId)(x:Operand)(P:Program)(s:S)(_:Nat):Option fG:=mH P s.o t (s.ev x)
def R7(t:TypeId)(x v:Operand)(P:Program)(s:S)(_:Nat):Option fG:=ri P s.o t (s.ev x) (s.ev v)
def abM(x:Operand)(_:Program)(s:S)(_:Nat):Option fG:=lF (iT s.o (s.ev x))
noncomputable def Yc(op:BinOp):IntKind->Int->Int->Option V:=
 match op with
 | .add=>fun k a b=>some (.d (.int k (k.wrap (Int.add a b))))
 | .sub=>fun k a b=>some (.d (.int k (k.wrap (Int.sub a b))))
 | .mul=>fun k a b=>some (.d (.int k (k.wrap (Int.mul a b))))
 |op=>AW op
theorem Mg(op:BinOp):Yc op=AW op:=by cases op<;>rfl
def asInt(x:V):Option (IntKind×Int):=match x with| .d (.int k a)=>some (k,a)|_=>none
def Jh(op:BinOp)(t:TypeId)(c:Bool)(x y:V)(P:Program)(o:Nat->aa):Option fG:=eZ P o op t c x y
noncomputable def Yd(op:BinOp)(t:TypeId)(x y:Operand)(P:Program)(s:S)(_:Nat):Option fG:=
 match asInt (s.ev x)with
 |some (k,a)=>match asInt (s.ev y)with
  |some (k',b)=>if k=k' then match Yc op k a b with
   |some v=>some (v,[],[])
   |none=>Jh op t (isConst x||isConst y) (s.ev x) (s.ev y) P s.o
   else none
  |none=>Jh op t (isConst x||isConst y) (s.ev x) (s.ev y) P s.o
 |none=>Jh op t (isConst x||isConst y) (s.ev x) (s.ev y) P s.o
theorem Bx{x:V}{k:IntKind}{a:Int}(h:asInt x=some (k,a)):x= .d (.int k a):=by
 unfold asInt at h;split at h
 ·injection h with h;cases h;rfl
 ·cases h
def Dn(t:TypeId)(x:Operand)(f:Nat)(P:Program)(s:S)(_:Nat):Option fG:=lF (gN P s.o t (s.ev x) f)
def Dp(t:TypeId)(x i:Operand)(P:Program)(s:S)(_:Nat):Option fG:=gM P s.o t (s.ev x) (s.ev i)
def R8(op:Op)(P:Program)(s:S)(fr:Nat):Option fG:=fX P s fr op
noncomputable def Mh(op:Op):Program->S->Nat->Option fG:=
 match op with
 | .move x=>Pb x
 | .assign x=>Pb x
 | .pick c a b=>Ya c a b
 | .build t parts=>R6 t parts
 | .buildSlice t len parts=>Bw t len parts
 | .load t x=>Yb t x
 | .store t x v=>R7 t x v
 | .nilCheck x=>abM x
 | .binOp op t x y _=>Yd op t x y
 | .fieldAddr t x f=>Dn t x f
 | .indexAddr t x i=>Dp t x i
 |op=>R8 op
theorem EZ{op:Op}{P:Program}{s:S}{fr:Nat}{r:fG}(h:Mh op P s fr=some r):fX P s fr op=some r:=by
 cases op
 case binOp op t x y yt=>
  simp only[Mh,Yd,Mg]at h
  have e:fX P s fr (.binOp op t x y yt)=eZ P s.o op t (isConst x||isConst y) (s.ev x) (s.ev y):=rfl
  rw[e]
  split at h
  ·rename_i k a hx
   split at h
   ·rename_i k' b hy
    split at h
    ·rename_i hk
     split at h
     ·rename_i v hv
      unfold eZ yq
      simp only[Bx hx,Bx hy,if_pos hk,hv]
      exact h
     ·exact h
    ·cases h
   ·exact h
  ·exact h
 all_goals exact h
end R5
inductive FD where
 |fn (n:Nat) (ic:IC) (rs:List ResultVar)
 |dfr (n:Nat) (je eT:IC) (g t:Nat) (eX:List Operand) (rs:List ResultVar) (m r r1:Nat) (xi:IC)
 |mpc
 |no
def FD.Ok (P:Program)(f:Nat):FD->Prop
 | .fn n ic rs=>aK P f n ic rs
 | .dfr n je eT g t eX rs m r r1 xi=>EU P f n je eT g t eX rs/\Br P g m r r1 xi
 | .mpc=>EV P f
 | .no=>True
inductive CR where
 |ret (v:V) (o:Tr aa) (nx:Nat)|bB (v:V) (o:Tr aa) (nx:Nat)
def CR.to (K X:V->(Nat->aa)->Nat->Prop):CR->Prop
 | .ret v o nx=>K v o.get nx
 | .bB v o nx=>X v o.get nx
inductive RO where
 |ok (st:St)|bB (v:V) (st:St)
def RO.to (K:S->Prop)(X:V->S->Prop):RO->Prop
 | .ok st=>K st.S
 | .bB v st=>X v st.S
inductive dX where
 |r (x:R)|c (x:CR)
abbrev Kt:=fw->St->Option dX
abbrev dp:=Nat->Bool->Nat->IC->St->Kt->Option dX
noncomputable def GK(P:Program)(rs:List ResultVar)(st:St)(kc:CR->Option dX):Option dX:=
 match lA P st.S rs with
 |some [v]=>kc (.ret v st.o st.nx)
 |some vs=>kc (.ret (.bN vs) st.o st.nx)
 |none=>none
noncomputable def Pc(P:Program)(rs:List ResultVar)(kc:CR->Option dX):Kt:=fun e st=>
 match e with
 | .normal=>GK P rs st kc
 | .ret=>GK P rs st kc
 | .bB v=>kc (.bB v st.o st.nx)
 | .exit _=>none
noncomputable def Ji(P:Program)(rs:List ResultVar)(kc:CR->Option dX)(env:Tr V):Kt:=fun e s4=>
 match e with
 | .normal=>GK P rs ⟨env,s4.o,s4.nx⟩ kc
 | .ret=>GK P rs ⟨env,s4.o,s4.nx⟩ kc
 |_=>none
def Ye:fw->Option V
 | .normal=>some (.d .eD)
 | .ret=>some (.d .eD)
 | .bB v=>some v
 | .exit _=>none
noncomputable def Jj(P:Program)(rec:dp)(rs:List ResultVar)(bE:List V)(m r r1:Nat)(xi:IC)(kc:CR->Option dX):Kt:=fun e s3=>
 match Ye e with
 |some u=>if bE.length<=m then rec s3.nx true m xi ⟨.e (aA (aA (bZ bE) r u) r1 u),s3.o,s3.nx⟩ (Ji P rs kc s3.env)else none
 |none=>none
noncomputable def E0(P:Program)(rec:dp)(n t:Nat)(eT:IC)(g:Nat)(eX:List Operand)(rs:List ResultVar)(m r r1:Nat)(xi:IC)(kc:CR->Option dX):Kt:=fun e s1=>
 match e with
 | .normal=>rec s1.nx false n eT ⟨s1.env.set t (.func (.func g) [] (eX.map s1.S.ev)),s1.o,s1.nx⟩ (Jj P rec rs (eX.map s1.S.ev) m r r1 xi kc)
 |_=>none
noncomputable def Jk(P:Program)(bI:Nat->FD)(rec:dp)(g:Nat)(args:List V)(o:Tr aa)(nx:Nat)(kc:CR->Option dX):Option dX:=
 match bI g with
 | .fn n ic rs=>if args.length<=n then rec nx false n ic ⟨.e (bZ args),o,nx⟩ (Pc P rs kc)else none
 | .dfr n je eT g t eX rs m r r1 xi=>if args.length<=n then rec nx true n je ⟨.e (bZ args),o,nx⟩ (E0 P rec n t eT g eX rs m r r1 xi kc)else none
 | .mpc=>match args with
   |[.mp id]=>match o.get id with
    | .map kt vt l=>kc (.ret (.mp nx) (o.set nx (.map kt vt l)) (nx+1))
    | .cZ l=>kc (.ret (.mp nx) (o.set nx (.map 0 0 l)) (nx+1))
    |_=>none
   |_=>none
 | .no=>none
def uF:V->List V
 | .bN vs=>vs
 |v=>[v]
noncomputable def E1(r:CR):Option R:=
 match r with
 | .ret v o _=>match v with
   | .bN [_]=>none
   |v=>match bR o.get (uF v)with
    |some rs=>some (.ret rs)
    |none=>none
 | .bB v o _=>match dL o.get v with
   |some x=>some (.bB x)
   |none=>none
noncomputable def Yf{β:Type}(x:R)(c:R->β):β:=match x with| .ret l=>D.uC l fun l=>c (.ret l)| .bB d=>D.fc d fun d=>c (.bB d)
theorem Dq{β:Type}(x:R)(c:R->β):Yf x c=c x:=by cases x<;>simp only[Yf,D.fh,D.cJ]
noncomputable def Bz(r:CR):Option dX:=match E1 r with|some x=>Yf x fun x=>some (.r x)|none=>none
theorem Jl{r:CR}{a:dX}(h:Bz r=some a):∃x,E1 r=some x/\a= .r x:=by
 unfold Bz at h
 split at h
 ·rename_i x hx;rw[Dq]at h;injection h with h;exact⟨x,hx,h.symm⟩
 ·cases h
def Jm(out:R)(o:Tr aa)(nx:Nat):CR:=
 match out with
 | .ret rs=> .ret (iD rs) o nx
 | .bB x=> .bB (.d x) o nx
structure qd (P:Program) where
 Yg:Nat->Bool
 fx:Nat->List D->Option R
 ok:∀g ds out,fx g ds=some out->aV P g ds out
def Jn(l:List (Nat×List D×R))(g:Nat)(ds:List D):Option R:=
 match l with
 |[]=>none
 |x::l=>match Nat.beq x.1 g with
  |true=>match D.fL x.2.1 ds with
   |true=>some x.2.2
   |false=>Jn l g ds
  |false=>Jn l g ds
theorem yN{P:Program}:∀ {l:List (Nat×List D×R)},(∀x∈l,aV P x.1 x.2.1 x.2.2)->∀g ds out,Jn l g ds=some out->aV P g ds out
 |[],_,_,_,_,h=>by cases h
 |x::l,hl,g,ds,out,h=>by
  simp only[Jn]at h
  split at h
  ·rename_i hg
   split at h
   ·rename_i hd
    injection h with h
    have:=hl x aG
    rw[Nat.eq_of_beq_eq_true hg,D.dv _ _ hd,h]at this
    exact this
   ·exact yN (fun y hy=>hl y mg) g ds out h
  ·exact yN (fun y hy=>hl y mg) g ds out h
def qd.of {P:Program}(Yg:Nat->Bool)(l:List (Nat×List D×R))(h:∀x∈l,aV P x.1 x.2.1 x.2.2):qd P:=⟨Yg,Jn l,yN h⟩
noncomputable def Mi(P:Program)(bI:Nat->FD)(md:qd P)(rec:dp)(g:Nat)(ds:List D):Option R:=
 match md.fx g ds with
 |some out=>some out
 |none=>match Jk P bI rec g (ds.map .d) (.e fun _=> .no) 0 Bz with
  |some (.r x)=>some x
  |_=>none
noncomputable def Pf(out:R)(o:Tr aa)(nx:Nat)(args:List V)(kc:CR->Option dX):Option dX:=
 match out.flat with
 |true=>kc (Jm out o (nx+1))
 |false=>match out.mC with
  |true=>kc (Jm out (GJ o (qT o.get (V.a8 args))) (nx+1))
  |false=>kc (Jm out (GJ o (b7 o.get (V.a8 args))) (nx+1))
noncomputable def E2(P:Program)(bI:Nat->FD)(md:qd P)(rec:dp)(g:Nat)(args:List V)(o:Tr aa)(nx:Nat)(kc:CR->Option dX):Option dX:=
 match md.Yg g,bR o.get args with
 |true,some ds=>match Mi P bI md rec g ds with
  |some out=>Pf out o nx args kc
  |none=>none
 |_,_=>Jk P bI rec g args o nx kc
noncomputable def Jo(id:Nat)(kc:CR->Option dX):Kt:=fun e s2=>
 match e with
 | .bB v=>kc (.bB v s2.o s2.nx)
 |e=>match s2.o.get id with
  | .loop nf m en p c d _ _=>match e with
    | .normal=>kc (.ret (.d (.bool true)) (s2.o.set id (.loop nf m en p c d .ready none)) s2.nx)
    | .ret=>kc (.ret (.d (.bool false)) (s2.o.set id (.loop nf m en p c d .done (some .ret))) s2.nx)
    | .exit j=>kc (.ret (.d (.bool false)) (s2.o.set id (.loop nf m en p c d .done (some (.exit j)))) s2.nx)
    | .bB _=>none
  |_=>none
noncomputable def E3(rec:dp)(id nx n:Nat)(eT:IC)(kc:CR->Option dX):Kt:=fun e s1=>
 match e with
 | .normal=>match s1.o.get id with
   | .loop nf m en p c d .ready pd=>rec nx true n eT ⟨s1.env,s1.o.set id (.loop nf m en p c d .busy pd),s1.nx⟩ (Jo id kc)
   |_=>none
 | .bB v=>kc (.bB v s1.o s1.nx)
 |_=>none
noncomputable def R9(P:Program)(rec:dp)(id:Nat)(args:List V)(o:Tr aa)(nx:Nat)(kc:CR->Option dX):Option dX:=
 match o.get id with
 | .loop nf n env ps je eT _ _=>if nf=P.funcs.size/\id<nx/\ps.all (fun t=>decide (t<n))=true/\args.length=ps.length then
  rec nx true n je ⟨.e (qb (bf env) ps args),o,nx⟩ (E3 rec id nx n eT kc)
   else none
 |_=>none
noncomputable def xm(P:Program)(st:St)(o:bK)(kr:RO->Option dX):Option dX:=
 match Mh o.op P st.S st.nx with
 |some (v,Δ,_)=>lI st.env o.dst v fun e=>uE st.o Δ fun ob=>Nat.fc (st.nx+1) fun n=>kr (.ok ⟨e,ob,n⟩)
 |none=>none
noncomputable def Yh(st:St)(dst:Option Nat)(kr:RO->Option dX)(c:CR):Option dX:=
 match c with
 | .ret v o nx=>lI st.env dst v fun e=>Nat.fc nx fun nx=>kr (.ok ⟨e,o,nx⟩)
 | .bB v o nx=>kr (.bB v ⟨st.env,o,nx⟩)
noncomputable def Jp(c:Call)(P:Program)(bI:Nat->FD)(md:qd P)(rec:dp)(st:St)(o:bK)(kr:RO->Option dX):Option dX:=
 match c.callee with
 | .value f=>match st.S.ev f with
   | .func (.func g) first cap=>E2 P bI md rec g (first++c.args.toList.map st.S.ev++cap) st.o st.nx (Yh st o.dst kr)
   | .kz id=>R9 P rec id (c.args.toList.map st.S.ev) st.o st.nx (Yh st o.dst kr)
   |_=>none
 | .invoke r m=>match tW P m (st.S.ev r)with
   |some (g,y)=>E2 P bI md rec g (y::c.args.toList.map st.S.ev) st.o st.nx (Yh st o.dst kr)
   |none=>none
 |_=>xm P st o kr
noncomputable def Sa(x:Operand)(P:Program)(_:Nat->FD)(_:qd P)(_:dp)(st:St)(_:bK)(kr:RO->Option dX):Option dX:=
 match st.S.ev x with
 | .d (.iface t y)=>kr (.bB (.d (.iface t y)) st)
 | .iface t y=>kr (.bB (.iface t y) st)
 |_=>none
noncomputable def Yi(P:Program)(_:Nat->FD)(_:qd P)(_:dp)(st:St)(o:bK)(kr:RO->Option dX):Option dX:=xm P st o kr
def R.same:R->R->Bool
 | .ret a, .ret b=>D.fL a b
 | .bB a, .bB b=>a.same b
 |_,_=>false
theorem R.dP {x y:R}(h:x.same y=true):x=y:=by
 cases x<;>cases y<;>simp only[R.same,Bool.false_eq_true]at h
 ·rw[D.dv _ _ h]
 ·rw[D.dP _ _ h]
noncomputable def brX(f:Nat->Option dX):Nat->Option dX
 |0=>none
 |n+1=>match n with
  |0=>f 0
  |n=>match brX f n with
   |some (.r a)=>match f n with
    |some (.r b)=>match R.same a b with
     |true=>some (.r a)
     |false=>none
    |_=>none
   |_=>none
theorem Jq{f:Nat->Option dX}{a:dX}:∀ {n:Nat},brX f n=some a->∀i,i<n->f i=some a
 |0,h,_,_=>by cases h
 |1,h,i,hi=>by obtain rfl:i=0:=ae
               exact h
 |n+2,h,i,hi=>by
  simp only[brX]at h
  split at h
  ·rename_i x hx
   split at h
   ·rename_i y hy
    split at h
    ·rename_i he
     have e:=R.dP he
     subst e
     rw[<- h]
     by_cases e:i=n+1
     ·subst e;exact hy
     ·exact Jq hx i ae
    ·cases h
   ·cases h
  ·cases h
noncomputable def Mj(st:St)(dst:Option Nat)(kr:RO->Option dX)(v:V)(Δ:List (Nat×aa)):Option dX:=
 lI st.env dst v fun e=>uE st.o Δ fun ob=>Nat.fc (st.nx+1) fun n=>kr (.ok ⟨e,ob,n⟩)
noncomputable def Jr(x:Operand)(str:Bool)(P:Program)(_:Nat->FD)(_:qd P)(_:dp)(st:St)(o:bK)(kr:RO->Option dX):Option dX:=
 match og st.o.get (st.S.ev x)with
 |some (id,l)=>match str with
  |true=>none
  |false=>match l with
   |[]=>Mj st o.dst kr (.bN [.d (.bool false)]) []
   |_=>brX (fun i=>match l[i]? with
    |some (k,x)=>Mj st o.dst kr (.bN [.d (.bool true), .d k, .d x]) [(id, .qS (l.eraseIdx i) (some (k,x)))]
    |none=>none) l.length
 |none=>xm P st o kr
noncomputable def opK(op:Op):(P:Program)->(Nat->FD)->qd P->dp->St->bK->(RO->Option dX)->Option dX:=
 match op with
 | .call c=>Jp c
 | .panic x=>Sa x
 | .next x str=>Jr x str
 |_=>Yi
noncomputable def opX(P:Program)(bI:Nat->FD)(md:qd P)(rec:dp)(st:St)(o:bK)(kr:RO->Option dX):Option dX:=opK o.op P bI md rec st o kr
noncomputable def roK(next:St->Option dX)(kr:RO->Option dX):RO->Option dX:=fun r=>match r with| .ok st=>next st| .bB v st=>kr (.bB v st)
noncomputable def yO(P:Program)(bI:Nat->FD)(md:qd P)(rec:dp)(kr:RO->Option dX):List bK->St->Option dX
 |[],st=>kr (.ok st)
 |o::l,st=>match(match o.gd with
   |none=>some true
   |some (d,want)=>match st.env.get d with
    | .d (.bool b)=>some (b==want)
    | .bN []=>some false
    |_=>none)with
  |some true=>opX P bI md rec st o (roK (yO P bI md rec kr l) kr)
  |some false=>lI st.env o.dst (.bN []) fun e=>Nat.fc (st.nx+1) fun n=>yO P bI md rec kr l ⟨e,st.o,n⟩
  |none=>none
section
variable {P:Program}{bI:Nat->FD}{md:qd P}
noncomputable def ei(P:Program)(rec:dp):Prop:=∀b rd n ic st k a,rec b rd n ic st k=some a->∀Q:fw->S->Prop,(∀e st',k e st'=some a->Q e st'.S)->ta P n b rd ic Q st.S
theorem th{rs:List ResultVar}{st:St}{kc:CR->Option dX}{a:dX}(h:GK P rs st kc=some a){K X:V->(Nat->aa)->Nat->Prop}(hr:∀r,kc r=some a->r.to K X):lC P rs K X .ret st.S:=by
 unfold GK at h
 unfold lC
 split at h
 ·rename_i v hv;simp only[hv];exact hr _ h
 ·rename_i vs hv hn
  simp only[hn]
  exact hr _ h
 ·cases h
theorem mS(aY:P.follows .mixedOrders=true)(cj:∀g,(bI g).Ok P g){rec:dp}(bw:ei P rec){g:Nat}{args:List V}{o:Tr aa}{nx:Nat}{kc:CR->Option dX}{a:dX}(h:Jk P bI rec g args o nx kc=some a){K X:V->(Nat->aa)->Nat->Prop}(hr:∀r,kc r=some a->r.to K X):
 cO P g args o.get nx K X:=by
 have aS:=cj g
 unfold Jk at h
 split at h
 ·rename_i n ic rs ht
  rw[ht]at aS
  split at h
  ·rename_i hl
   refine cO.uu aY aS hl ?_
   refine bw _ _ _ _ _ _ _ h _ fun e st he=> ?_
   unfold Pc at he
   cases e with
   |normal=>exact th he hr
   |ret=>exact th he hr
   |bB v=>exact hr _ he
   |exit j=>cases he
  ·cases h
 ·rename_i n je eT g' t eX rs m r0 r1 xi ht
  rw[ht]at aS
  split at h
  ·rename_i hl
   refine cO.Bu aY aS.1 aS.2 hl (bw _ _ _ _ _ _ _ h _ fun e s1 he=> ?_)
   unfold E0 at he
   cases e with
   |normal=>
    have hb:ta P n s1.nx false eT (yM P m r0 r1 xi (eX.map s1.S.ev) rs K X) ⟨aA s1.env.get t (.func (.func g') [] (eX.map s1.S.ev)),s1.o.get,s1.nx⟩:=by
     have:=bw _ _ _ _ _ _ _ he (yM P m r0 r1 xi (eX.map s1.S.ev) rs K X) (fun e s3 U1=>by
      unfold Jj at U1
      split at U1
      ·rename_i u hu
       split at U1
       ·rename_i qK
        have hrw:Dm P m r0 r1 xi (eX.map s1.S.ev) u s3.o.get s3.nx fun o nx=>lC P rs K X .ret ⟨s3.env.get,o,nx⟩:=by
         refine⟨qK,bw _ _ _ _ _ _ _ U1 _ fun e4 s4 he4=> ?_⟩
         unfold Ji at he4
         cases e4 with
         |normal=>exact th (st:=⟨s3.env,s4.o,s4.nx⟩) he4 hr
         |ret=>exact th (st:=⟨s3.env,s4.o,s4.nx⟩) he4 hr
         |_=>cases he4
        cases e<;>simp only[Ye,Option.some.injEq,reduceCtorEq]at hu<;>subst hu<;>exact hrw
       ·cases U1
      ·cases U1)
     simp only[St.S,Tr.gz]at this
     exact this
    exact hb
   |_=>cases he
  ·cases h
 ·rename_i ht
  rw[ht]at aS
  split at h
  ·split at h
   ·rename_i kt vt l ho
    have h2:=hr _ h
    simp only[CR.to,Tr.gz]at h2
    exact cO.R0 aS ho h2
   ·rename_i l ho
    have h2:=hr _ h
    simp only[CR.to,Tr.gz]at h2
    exact cO.EW aS ho h2
   ·cases h
  ·cases h
 ·cases h
theorem Js{r:CR}{out:R}(ho:E1 r=some out):r.to (fun v o _=>∃vs rs,v=(match vs with|[v]=>v|vs=> .bN vs)/\bR o vs=some rs/\out= .ret rs) (fun v o _=>∃x,dL o v=some x/\out= .bB x):=by
 unfold E1 at ho
 split at ho
 ·rename_i v o nx
  split at ho
  ·cases ho
  ·rename_i hv
   split at ho
   ·rename_i rs WX
    injection ho with ho;subst ho
    refine⟨uF v,rs, ?_,WX,rfl⟩
    cases v with
    |bN vs=>
     match vs,hv with
     |[],_=>rfl
     |[x],hv=>exact absurd rfl (hv x)
     |_::_::_,_=>rfl
    |_=>rfl
   ·cases ho
 ·split at ho
  ·rename_i x hx
   injection ho with ho;subst ho
   exact⟨x,hx,rfl⟩
  ·cases ho
theorem BA(aY:P.follows .mixedOrders=true)(cj:∀g,(bI g).Ok P g){rec:dp}(bw:ei P rec){g:Nat}{ds:List D}{out:R}(h:Jk P bI rec g (ds.map .d) (.e fun _=> .no) 0 Bz=some (.r out)):aV P g ds out:=by
 refine aV.lD (mS aY cj bw h fun r hr=> ?_)
 obtain⟨x,hx,he⟩:=Jl hr
 injection he with he;subst he
 exact Js hx
theorem yP(aY:P.follows .mixedOrders=true)(cj:∀g,(bI g).Ok P g){rec:dp}(bw:ei P rec){g:Nat}{ds:List D}{out:R}(h:Mi P bI md rec g ds=some out):aV P g ds out:=by
 unfold Mi at h
 split at h
 ·rename_i ac1 ho
  injection h with h;subst h
  exact md.ok _ _ _ ho
 ·split at h
  ·rename_i x hr;injection h with h;subst h;exact BA aY cj bw hr
  ·cases h
theorem BB(aY:P.follows .mixedOrders=true)(cj:∀g,(bI g).Ok P g){rec:dp}(bw:ei P rec){g:Nat}{args:List V}{o:Tr aa}{nx:Nat}{kc:CR->Option dX}{a:dX}(h:E2 P bI md rec g args o nx kc=some a){K X:V->(Nat->aa)->Nat->Prop}(hr:∀r,kc r=some a->r.to K X):
 OD P g args o.get nx K X:=by
 unfold E2 at h
 split at h
 ·rename_i ds hmd eR
  split at h
  ·rename_i out Bm
   have hP:=yP aY cj bw Bm
   refine .inl ⟨ds,eR,out,hP, ?_⟩
   unfold Pf at h
   split at h
   ·rename_i hf
    refine .inr (.inl ⟨hf, ?_⟩)
    cases out<;>exact hr _ h
   ·split at h
    ·rename_i hf
     refine .inr (.inr ⟨hf, ?_⟩)
     rw[<- jr]
     cases out<;>exact hr _ h
    ·refine .inl ?_
     rw[<- jr]
     cases out<;>exact hr _ h
  ·cases h
 ·exact .inr (mS aY cj bw h hr)
theorem Mk(aY:P.follows .mixedOrders=true){rec:dp}(bw:ei P rec){id:Nat}{args:List V}{o:Tr aa}{nx:Nat}{kc:CR->Option dX}{a:dX}(h:R9 P rec id args o nx kc=some a){K X:V->(Nat->aa)->Nat->Prop}(hr:∀r,kc r=some a->r.to K X):
 dB P id args o.get nx K X:=by
 unfold R9 at h
 split at h
 ·rename_i nf n env ps je eT st pd ho
  split at h
  ·rename_i hc
   obtain⟨rfl,bW,Jd,hl⟩:=hc
   refine dB.uu aY ho bW Jd hl ?_
   refine bw _ _ _ _ _ _ _ h _ fun e s1 he=> ?_
   unfold E3 at he
   cases e with
   |normal=>
    simp only at he
    split at he
    ·rename_i nf m en p c d pd lS
     refine⟨nf,m,en,p,c,d,pd,lS, ?_⟩
     have:=bw _ _ _ _ _ _ _ he (ku id K X) (fun e s2 h2=>by
      unfold Jo at h2
      split at h2
      ·exact hr _ h2
      ·rename_i Ow
       split at h2
       ·rename_i nf' m' en' p' c' d' st' pd' Sb
        cases e with
        |bB v=>cases h2
        |normal=>have h3:=hr _ h2;simp only[CR.to,Tr.gz]at h3;exact⟨nf',m',en',p',c',d',st',pd',Sb,h3⟩
        |ret=>have h3:=hr _ h2;simp only[CR.to,Tr.gz]at h3;exact⟨nf',m',en',p',c',d',st',pd',Sb,h3⟩
        |exit j=>have h3:=hr _ h2;simp only[CR.to,Tr.gz]at h3;exact⟨nf',m',en',p',c',d',st',pd',Sb,h3⟩
       ·cases h2)
     simp only[St.S,Tr.gz]at this
     exact this
    ·cases he
   |bB v=>exact hr _ he
   |_=>cases he
  ·cases h
 ·cases h
theorem uG{st:St}{o:bK}{kr:RO->Option dX}{a:dX}(h:xm P st o kr=some a){K:S->Prop}{X:V->S->Prop}(hr:∀r,kr r=some a->r.to K X):match fX P st.S st.S.nx o.op with
 |some (v,Δ,_)=>K ⟨aU st.S.env o.dst v,put st.S.o Δ,st.S.nx+1⟩
 |none=>False:=by
 unfold xm at h
 split at h
 ·rename_i v Δ rd he
  have he:=EZ he
  simp only[iY,mR,Nat.cJ]at h
  have hr:=hr _ h
  simp only[RO.to,St.S,iR,jr]at hr
  have pb:fX P st.S st.S.nx o.op=some (v,Δ,rd):=he
  simp only[pb]
  exact hr
 ·cases h
theorem E4{st:St}{dst:Option Nat}{kr:RO->Option dX}{v:V}{Δ:List (Nat×aa)}{a:dX}(h:Mj st dst kr v Δ=some a){K:S->Prop}{X:V->S->Prop}(hr:∀r,kr r=some a->r.to K X):K ⟨aU st.S.env dst v,put st.S.o Δ,st.S.nx+1⟩:=by
 unfold Mj at h
 simp only[iY,mR,Nat.cJ]at h
 have hr:=hr _ h
 simp only[RO.to,St.S,iR,jr]at hr
 exact hr
theorem Sc(aY:P.follows .mixedOrders=true)(cj:∀g,(bI g).Ok P g){rec:dp}(bw:ei P rec){st:St}{o:bK}{kr:RO->Option dX}{a:dX}(h:opX P bI md rec st o kr=some a){K:S->Prop}{X:V->S->Prop}(hr:∀r,kr r=some a->r.to K X):Hy P st.S o X K:=by
 have cr:∀r,Yh st o.dst kr r=some a->r.to (fun v o' nx'=>K ⟨aU st.S.env o.dst v,o',nx'⟩) (fun v o' nx'=>X v ⟨st.S.env,o',nx'⟩):=by
  intro r hx
  unfold Yh at hx
  split at hx
  ·simp only[iY,Nat.cJ]at hx
   have hr:=hr _ hx
   simp only[RO.to,St.S,iR]at hr
   exact hr
  ·exact hr _ hx
 unfold opX at h
 unfold Hy
 cases fK:o.op
 case call c=>
  rw[fK]at h
  have h:Jp c P bI md rec st o kr=some a:=h
  unfold Jp at h
  cases hf:c.callee
  case value f=>
   simp only[hf]at h|-
   split at h
   ·rename_i g first cap hv
    simp only[hv]
    have:=BB aY cj bw h cr
    rcases this with⟨ds,eR,hP⟩|hC
    ·have Sd:bR st.S.o (first++List.map st.S.ev c.args.toList++cap)=some ds:=eR
     simp only[Sd]
     exact .inl hP
    ·split
     ·exact .inr (.inl hC)
     ·exact .inl hC
   ·rename_i id hv
    simp only[hv]
    exact Mk aY bw h cr
   ·cases h
  case invoke r m=>
   simp only[hf]at h|-
   split at h
   ·rename_i g y hv
    simp only[hv]
    exact BB aY cj bw h cr
   ·cases h
  all_goals
   simp only[hf]at h|-
   have:=uG h hr
   rw[fK]at this
   exact this
 case panic x=>
  rw[fK]at h
  have h:Sa x P bI md rec st o kr=some a:=h
  unfold Sa at h
  split at h
  ·rename_i hv;simp only[hv];exact hr _ h
  ·rename_i hv;simp only[hv];exact hr _ h
  ·cases h
 case next x str=>
  rw[fK]at h
  have h:Jr x str P bI md rec st o kr=some a:=h
  unfold Jr at h
  have hl:og st.S.o (st.S.ev x)=og st.o.get (st.S.ev x):=rfl
  simp only[hl]
  split at h
  ·rename_i id l aw
   simp only[aw]
   cases str with
   |true=>cases h
   |false=>
    refine⟨rfl,fun e=> ?_,fun i k y e=> ?_⟩
    ·subst e
     exact E4 h hr
    ·cases l with
     |nil=>simp at e
     |cons p l=>
      have:=Jq h i (List.getElem?_eq_some_iff.1 e).1
      rw[e]at this
      exact E4 this hr
  ·rename_i aw
   simp only[aw]
   have:=uG h hr
   rw[fK]at this
   exact this
 all_goals
  have h2:xm P st o kr=some a:=by rw[fK]at h;exact h
  have:=uG h2 hr
  rw[fK]at this
  exact this
theorem tj(aY:P.follows .mixedOrders=true)(cj:∀g,(bI g).Ok P g){rec:dp}(bw:ei P rec){kr:RO->Option dX}{a:dX}{K:S->Prop}{X:V->S->Prop}(hr:∀r,kr r=some a->r.to K X):∀ (l:List bK) (st:St),yO P bI md rec kr l st=some a->oL P X K l st.S
 |[],st,h=>hr (.ok st) h
 |o::l,st,h=>by
  simp only[yO,iY,Nat.cJ]at h
  simp only[oL]
  have op:opX P bI md rec st o (roK (yO P bI md rec kr l) kr)=some a->Hy P st.S o X (oL P X K l):=by
   intro h
   refine Sc aY cj bw h fun r hrr=> ?_
   cases r with
   |ok Se=>exact tj aY cj bw hr l Se hrr
   |bB v Se=>exact hr (.bB v Se) hrr
  have sk:yO P bI md rec kr l ⟨sv st.env o.dst (.bN []),st.o,st.nx+1⟩=some a->oL P X K l ⟨aU st.S.env o.dst (.bN []),st.S.o,st.S.nx+1⟩:=by
   intro h
   have:=tj aY cj bw hr l _ h
   exact Ic
  cases hg:o.gd with
  |none=>simp only[hg]at h;exact op h
  |some p=>
   obtain⟨d,want⟩:=p
   simp only[hg]at h
   have he:st.S.env d=st.env.get d:=rfl
   simp only[he]
   cases hv:st.env.get d with
   |d x=>
    cases x with
    |bool b=>
     simp only[hv]at h|-
     by_cases e:b=want
     ·subst e
      simp only[beq_self_eq_true]at h
      rw[if_pos rfl];exact op h
     ·have:(b==want)=false:=by simpa using e
      rw[this]at h
      rw[if_neg e];exact sk h
    |_=>simp[hv]at h
   |bN vs=>
    cases vs with
    |nil=>simp only[hv]at h|-;exact sk h
    |cons a bU=>simp[hv]at h
   |_=>simp[hv]at h
end
end
section
mutual
def V.same:V->V->Bool
 | .d x, .d y=>x.same y
 | .aM, .aM=>true
 | .ab, .ab=>true
 | .agg a, .agg b=>V.fL a b
 | .ptr i o, .ptr j p=>Nat.beq i j&&Nat.beq o p
 | .osl i o, .osl j p=>Nat.beq i j&&Nat.beq o p
 | .oA a, .oA b=>D.fL a b
 | .iface t x, .iface u y=>Nat.beq t u&&x.same y
 | .mp i, .mp j=>Nat.beq i j
 |_,_=>false
def V.fL:List V->List V->Bool
 |[],[]=>true
 |a::bU,b::bs=>a.same b&&V.fL bU bs
 |_,_=>false
end
mutual
theorem V.dP:∀ (x y:V),x.same y=true->x=y
 | .d x,y,h=>by cases y<;>simp only[V.same,Bool.false_eq_true]at h;rw[D.dP _ _ h]
 | .aM,y,h=>by cases y<;>simp_all[V.same]
 | .ab,y,h=>by cases y<;>simp_all[V.same]
 | .agg a,y,h=>by cases y<;>simp only[V.same,Bool.false_eq_true]at h;rw[V.dv _ _ h]
 | .ptr i o,y,h=>by
   exact Wt
 | .osl i o,y,h=>by
   exact Wt
 | .oA a,y,h=>by cases y<;>simp only[V.same,Bool.false_eq_true]at h;rw[D.dv _ _ h]
 | .iface t x,y,h=>by
   cases y<;>simp only[V.same,Bool.false_eq_true,Bool.and_eq_true]at h
   rw[Nat.eq_of_beq_eq_true h.1,V.dP _ _ h.2]
 | .mp i,y,h=>by
   cases y<;>simp only[V.same,Bool.false_eq_true]at h
   rw[Nat.eq_of_beq_eq_true h]
 | .bN _,y,h| .pe _ _ _ _ _,y,h| .pp _ _,y,h| .func _ _ _,y,h| .wC _ _ _,y,h| .fD,y,h| .kz _,y,h=>by simp[V.same]at h
theorem V.dv:∀ (x y:List V),V.fL x y=true->x=y
 |[],y,h=>by cases y<;>simp_all[V.fL]
 |a::bU,y,h=>by
  cases y<;>simp only[V.fL,Bool.false_eq_true,Bool.and_eq_true]at h
  rw[V.dP _ _ h.1,V.dv _ _ h.2]
end
def uH:List (D×D)->List (D×D)->Bool
 |[],[]=>true
 |(a,b)::l,(c,d)::m=>a.same c&&(b.same d&&uH l m)
 |_,_=>false
theorem uI:∀ (l m:List (D×D)),uH l m=true->l=m
 |[],m,h=>by cases m<;>simp_all[uH]
 |(a,b)::l,m,h=>by
  cases m with
  |nil=>simp[uH]at h
  |cons p m=>
   obtain⟨c,d⟩:=p
   simp only[uH,Bool.and_eq_true]at h
   rw[D.dP _ _ h.1,D.dP _ _ h.2.1,uI l m h.2.2]
noncomputable def aa.same:aa->aa->Bool
 | .no, .no=>true
 | .row a, .row b=>V.fL a b
 | .arr e t s a, .arr f u r b=>Nat.beq e f&&Nat.beq t u&&Nat.beq s r&&D.fL a b
 | .sZ e a, .sZ f b=>Nat.beq e f&&D.fL a b
 | .map k v a, .map k' v' b=>Nat.beq k k'&&Nat.beq v v'&&uH a b
 | .cZ a, .cZ b=>uH a b
 | .xZ a i, .xZ b j=>a==b&&Nat.beq i j
 |_,_=>false
theorem aa.dP {x y:aa}(h:x.same y=true):x=y:=by
 cases x<;>cases y<;>simp only[aa.same,Bool.false_eq_true,Bool.and_eq_true]at h
 ·rfl
 ·rw[V.dv _ _ h]
 ·rw[Nat.eq_of_beq_eq_true h.1.1.1,Nat.eq_of_beq_eq_true h.1.1.2,Nat.eq_of_beq_eq_true h.1.2,D.dv _ _ h.2]
 ·rw[Nat.eq_of_beq_eq_true h.1,D.dv _ _ h.2]
 ·rw[Nat.eq_of_beq_eq_true h.1.1,Nat.eq_of_beq_eq_true h.1.2,uI _ _ h.2]
 ·rw[uI _ _ h]
 ·rw[eq_of_beq h.1,Nat.eq_of_beq_eq_true h.2]
noncomputable def reach(o:Nat->aa):Nat->List Nat->List Nat->List Nat
 |0,_,seen=>seen
 |_+1,[],seen=>seen
 |n+1,id::todo,seen=>match seen.contains id with
  |true=>reach o n todo seen
  |false=>reach o n ((o id).refs++todo) (id::seen)
noncomputable def ez(o o1:Nat->aa):List Nat->List (Nat×aa)
 |[]=>[]
 |id::l=>match(o id).same (o1 id)with
  |true=>ez o o1 l
  |false=>(id,o1 id)::ez o o1 l
theorem iu{o o1:Nat->aa}:∀ (l:List Nat) (x:Nat×aa),x∈ez o o1 l->x.1∈l/\x.2=o1 x.1
 |[],x,h=>by simp[ez]at h
 |id::l,x,h=>by
  simp only[ez]at h
  split at h
  ·obtain⟨h1,h2⟩:=iu l x h;exact⟨List.mem_cons_of_mem _ h1,h2⟩
  ·rcases List.mem_cons.1 h with rfl|h
   ·exact⟨aG,rfl⟩
   ·obtain⟨h1,h2⟩:=iu l x h;exact⟨List.mem_cons_of_mem _ h1,h2⟩
theorem mT{o o1:Nat->aa}:∀ (l:List Nat) (id:Nat),id∈l->id∉(ez o o1 l).map (·.1)->o1 id=o id
 |[],id,h,_=>by simp at h
 |j::l,id,h,hn=>by
  simp only[ez]at hn
  split at hn
  ·rename_i hs
   rcases List.mem_cons.1 h with rfl|h
   ·exact(aa.dP hs).symm
   ·exact mT l id h hn
  ·simp only[List.map_cons,List.mem_cons,not_or]at hn
   rcases List.mem_cons.1 h with rfl|h
   ·exact absurd rfl hn.1
   ·exact mT l id h hn.2
theorem BC{o1:Nat->aa}:∀ (Δ:List (Nat×aa)) (o:Nat->aa),(∀x∈Δ,x.2=o1 x.1)->∀id,id∈Δ.map (·.1)\/o id=o1 id->put o Δ id=o1 id
 |[],o,_,id,h=>by rcases h with h|h;· simp at h
                  ·exact h
 |x::Δ,o,hv,id,h=>by
  simp only[put,List.foldl_cons]
  refine BC Δ (aA o x.1 x.2) (fun y hy=>hv y (List.mem_cons_of_mem _ hy)) id ?_
  simp only[List.map_cons,List.mem_cons]at h
  simp only[aH]
  by_cases e:id=x.1
  ·right;rw[if_pos e,hv x (by simp),e]
  ·rcases h with(h|h)|h
   ·exact absurd h e
   ·exact .inl h
   ·right;rw[if_neg e];exact h
theorem sw{o o1:Nat->aa}{l:List Nat}{id:Nat}(h:id∈l):o1 id=put o (ez o o1 l) id:=by
 by_cases hm:id∈(ez o o1 l).map (·.1)
 ·exact(BC _ o (fun x hx=>(iu l x hx).2) id (.inl hm)).symm
 ·rw[fQ hm];exact mT l id h hm
inductive DR where
 |val (v:V) (Δ:List (Nat×aa)) (rd:List Nat)|bB (v:V) (ws rd:List Nat)
def DR.to (K:V->List (Nat×aa)->List Nat->Prop)(KX:V->List Nat->List Nat->Prop):DR->Prop
 | .val v Δ rd=>K v Δ rd
 | .bB v ws rd=>KX v ws rd
noncomputable def Yj(c:CR):Option dX:=some (.c c)
noncomputable def hX(P:Program)(bI:Nat->FD)(rec:dp)(g:Nat)(args:List V)(st:St):Option DR:=
 let rd:=reach st.o.get 2000 (V.aN args) []
 match rd.all (fun id=>Nat.blt id st.nx&&(st.o.get id).refs.all rd.contains)&&(V.aN args).all rd.contains with
 |true=>match Jk P bI rec g args (.e (C9 rd st.o.get)) st.nx Yj with
  |some (.c (.ret v o1 _))=>match v with
   | .bN [_]=>none
   |v=>match bR o1.get (uF v)with
    |some rs=>match(ez st.o.get o1.get rd).all (fun x=>x.2.refs.all rd.contains)&&(V.a8 (uF v)).all (fun id=> !rd.contains id)with
     |true=>some (.val (iD rs) (ez st.o.get o1.get rd) rd)
     |false=>none
    |none=>none
  |some (.c (.bB v o1 _))=>match dL o1.get v with
   |some x=>match(ez st.o.get o1.get rd).all (fun x=>x.2.refs.all rd.contains)&&v.ids.all (fun id=> !rd.contains id)with
    |true=>some (.bB (.d x) ((ez st.o.get o1.get rd).map (·.1)) rd)
    |false=>none
   |none=>none
  |_=>none
 |false=>none
noncomputable def cDX(P:Program)(bI:Nat->FD)(md:qd P)(rec:dp)(g:Nat)(args:List V)(st:St)(rd:List Nat):Option DR:=
 match bR st.o.get args with
 |some ds=>match md.Yg g with
  |false=>match Jk P bI rec g (ds.map .d) (.e fun _=> .no) 0 Yj with
   |some (.c (.ret v _ _))=>match v.refs with
    |[]=>some (.val v (b7 st.o.get (V.a8 args)) rd)
    |_=>none
   |_=>none
  |true=>match Mi P bI md rec g ds with
   |some (.ret rs)=>match D.jm rs with
    |true=>some (.val (iD rs) [] rd)
    |false=>some (.val (iD rs) (b7 st.o.get (V.a8 args)) rd)
   |some (.bB x)=>match x.flat with
    |true=>some (.bB (.d x) [] rd)
    |false=>none
   |none=>none
 |none=>hX P bI rec g args st
noncomputable def sDX(P:Program)(st:St)(fr:Nat)(op:Op):Option DR:=
 match Mh op P st.S fr with
 |some (v,Δ,_)=>some (.val v Δ (nW st.S op))
 |none=>none
def V.abN:V->Bool
 | .mp _=>true
 |_=>false
def Sf{P:Program}(md:qd P)(g:Nat)(args:List V):Bool:= !md.Yg g&&args.any V.abN
def xn(args:List V):Option (List D):=
 match V.a8 args with
 |[]=>bR (fun _=> .no) args
 |_=>none
noncomputable def Ml(P:Program)(t:TypeId)(c:CR):Option dX:=
 match c with
 | .ret v o1 _=>match v with
   | .osl j ep=>match o1.get j with
     | .arr fF ty sz es=>match Nat.beq fF ep with
       |true=>Yf (.ret [.sl es, .int .i64 (ty:Nat), .int .i64 (sz:Nat)]) fun x=>some (.r x)
       |false=>none
     |_=>none
   | .aM=>match bP P t with
     |some e=>match Nat.blt 0 (P.cellsOf e)with
      |true=>Yf (.ret [.sl [], .int .i64 (e:Nat), .int .i64 (P.cellsOf e:Nat)]) fun x=>some (.r x)
      |false=>none
     |none=>none
   |_=>none
 |_=>none
noncomputable def Sg(P:Program)(bI:Nat->FD)(rec:dp)(g:Nat)(t:TypeId)(args:List V)(st:St)(fr:Nat):Option DR:=
 match xn args with
 |some ds=>match Jk P bI rec g (ds.map .d) (.e fun _=> .no) 0 (Ml P t)with
  |some (.r (.ret [.sl es, .int .i64 (.ofNat ty), .int .i64 (.ofNat sz)]))=>some (.val (.osl fr 0) [(fr, .arr 0 ty sz es)] [])
  |_=>none
 |none=>match bR st.o.get args with
  |some ds=>match Jk P bI rec g (ds.map .d) (.e fun _=> .no) 0 (Ml P t)with
   |some (.r (.ret [.sl es, .int .i64 (.ofNat ty), .int .i64 (.ofNat sz)]))=>match D.jm es&&(V.a8 args).all (fun id=>Nat.blt id st.nx)with
    |true=>some (.val (.osl fr 0) [(fr, .arr 0 ty sz es)] (V.a8 args))
    |false=>none
   |_=>none
  |none=>none
noncomputable def Mm(P:Program)(bI:Nat->FD)(md:qd P)(rec:dp)(st:St)(fr:Nat)(op:Op):Option DR:=
 match op with
 | .call c=>match c.callee with
   | .value f=>match st.S.ev f with
     | .func (.func g) first cap=>match Sf md g (first++c.args.toList.map st.S.ev++cap)with
       |true=>hX P bI rec g (first++c.args.toList.map st.S.ev++cap) st
       |false=>match cDX P bI md rec g (first++c.args.toList.map st.S.ev++cap) st (nW st.S (.call c))with
        |some r=>some r
        |none=>Sg P bI rec g (c.argTypes.getD 0 0) (first++c.args.toList.map st.S.ev++cap) st fr
     |_=>none
   |_=>sDX P st fr (.call c)
 |op=>sDX P st fr op
noncomputable def Yk(st:St):Option (Nat×Bool)->Option Bool
 |none=>some true
 |some (d,want)=>match st.env.get d with
  | .d (.bool b)=>some (b==want)
  | .bN []=>some false
  |_=>none
noncomputable def uJ(P:Program)(bI:Nat->FD)(md:qd P)(rec:dp)(pr:List (List Nat)):List bK->Nat->St->Fp->List Nat->List Nat->Option (List Nat×Fp)
 |[],_,_,fp,_,ws=>some (ws,fp)
 |o::l,fr,st,fp,bad,ws=>match(pr.getD fp.length []).any (fun j=>bad.contains j)with
  |true=>uJ P bI md rec pr l (fr+1) ⟨sv st.env o.dst .ab,st.o,st.nx⟩ (fp++[([],[])]) (bad++[fp.length]) ws
  |false=>match Yk st o.gd with
   |some true=>match Mm P bI md rec st fr o.op with
    |some (.val v Δ rd)=>lI st.env o.dst v fun e=>uE st.o Δ fun ob=>uJ P bI md rec pr l (fr+1) ⟨e,ob,st.nx⟩ (fp++[(rd,Δ.map (·.1))]) bad (ws++Δ.map (·.1))
    |_=>none
   |some false=>uJ P bI md rec pr l (fr+1) ⟨sv st.env o.dst (.bN []),st.o,st.nx⟩ (fp++[([],[])]) bad ws
   |none=>none
inductive DQ where
 |fin (st:St) (fp:Fp)|bB (v:V) (wl:List Nat) (fp:Fp)
noncomputable def uK(P:Program)(bI:Nat->FD)(md:qd P)(rec:dp)(pr:List (List Nat)):List bK->Nat->St->Fp->Option DQ
 |[],_,st,fp=>some (.fin st fp)
 |o::l,fr,st,fp=>match Yk st o.gd with
  |some true=>match Mm P bI md rec st fr o.op with
   |some (.val v Δ rd)=>lI st.env o.dst v fun e=>uE st.o Δ fun ob=>Nat.fc (fr+1) fun fr=>uK P bI md rec pr l fr ⟨e,ob,st.nx⟩ (fp++[(rd,Δ.map (·.1))])
   |some (.bB v ws rd)=>match uJ P bI md rec pr l (fr+1) ⟨sv st.env o.dst .ab,st.o,st.nx⟩ (fp++[(rd,[])]) [fp.length] (ws++fp.flatMap (·.2))with
    |some (wl,fp)=>some (.bB v wl fp)
    |none=>none
   |none=>none
  |some false=>lI st.env o.dst (.bN []) fun e=>Nat.fc (fr+1) fun fr=>uK P bI md rec pr l fr ⟨e,st.o,st.nx⟩ (fp++[([],[])])
  |none=>none
noncomputable def quiet(fp:Fp):Bool:=fp.all fun x=>match x.2 with|[]=>true|_=>false
noncomputable def yQ(m:Nat)(x:List Nat×List Nat):Nat->Fp->Bool
 |_,[]=>true
 |i,y::l=>(match y.2,x.2 with
  |[],[]=>true
  |_,_=>m.testBit i||(j5 y.2 x.1&&j5 y.2 x.2&&j5 x.2 y.1))&&yQ m x (i+1) l
noncomputable def E5(ms:List Nat)(pre:Fp):Nat->Fp->Bool
 |_,[]=>true
 |j,x::l=>yQ (ms.getD j 0) x 0 pre&&E5 ms (pre++[x]) (j+1) l
noncomputable def Yl{β:Type}:List Nat->(List Nat->β)->β
 |[],c=>c []
 |x::xs,c=>Nat.fc x fun x=>Yl xs fun xs=>c (x::xs)
theorem Jt{β:Type}:∀ (x:List Nat) (c:List Nat->β),Yl x c=c x
 |[],c=>rfl
 |x::xs,c=>by simp only[Yl,Nat.cJ,Jt xs]
noncomputable def Mn{β:Type}:Fp->(Fp->β)->β
 |[],c=>c []
 |(a,b)::l,c=>Yl a fun a=>Yl b fun b=>Mn l fun l=>c ((a,b)::l)
theorem E6{β:Type}:∀ (x:Fp) (c:Fp->β),Mn x c=c x
 |[],c=>rfl
 |(a,b)::l,c=>by simp only[Mn,Jt,E6 l]
noncomputable def Ju(pr:List (List Nat))(fp:Fp):Bool:=match quiet fp with|true=>true|false=>Mn fp fun fp=>E5 (ej pr []) [] 0 fp
theorem xo{m:Nat}{x:List Nat×List Nat}:∀ (l:Fp) (i:Nat),yQ m x i l=true->∀k,k<l.length->(m.testBit (i+k)||(j5 (l.getD k ([],[])).2 x.1&&j5 (l.getD k ([],[])).2 x.2&&j5 x.2 (l.getD k ([],[])).1))=true
 |[],i,_,k,hk=>by simp at hk
 |y::l,i,h,k,hk=>by
  simp only[yQ,Bool.and_eq_true]at h
  cases k with
  |zero=>
   have h1:=h.1
   simp only[List.getD_cons_zero,Nat.add_zero]
   split at h1
   ·rename_i e1 e2
    rw[e1,e2];simp[j5]
   ·exact h1
  |succ k=>
   have:=xo l (i+1) h.2 k (by simpa using hk)
   rw[List.getD_cons_succ,show i+(k+1)=i+1+k by omega]
   exact this
theorem BD{ms:List Nat}:∀ (l pre:Fp),E5 ms pre pre.length l=true->∀j,pre.length<=j->j<(pre++l).length->∀i,i<j->
 ((ms.getD j 0).testBit i||(j5 ((pre++l).getD i ([],[])).2 ((pre++l).getD j ([],[])).1&&j5 ((pre++l).getD i ([],[])).2 ((pre++l).getD j ([],[])).2&&j5 ((pre++l).getD j ([],[])).2 ((pre++l).getD i ([],[])).1))=true
 |[],pre,_,j,h1,h2,i,_=>by simp at h2;omega
 |x::l,pre,h,j,h1,h2,i,hi=>by
  simp only[E5,Bool.and_eq_true]at h
  by_cases e:j=pre.length
  ·subst e
   have:=xo pre 0 h.1 i hi
   have e1:(pre++x::l).getD pre.length ([],[])=x:=by simp[List.getD_eq_getElem?_getD]
   have e2:(pre++x::l).getD i ([],[])=pre.getD i ([],[]):=by simp[List.getD_eq_getElem?_getD,List.getElem?_append_left hi]
   rw[e1,e2]
   simpa using this
  ·have h3:=h.2
   have:=BD l (pre++[x]) (by simpa using h3) j gH wx i hi
   simpa using this
noncomputable def Sh(P:Program)(bI:Nat->FD)(md:qd P)(rec:dp)(l:List bK)(pr:List (List Nat))(st:St):Option (fw×St):=
 match uK P bI md rec pr l st.nx st []with
 |some (.fin s1 fp)=>match Ju pr fp with
  |true=>Nat.fc (st.nx+l.length) fun n=>some (.normal,⟨s1.env,s1.o,n⟩)
  |false=>none
 |some (.bB v wl fp)=>match Ju pr fp with
  |true=>some (.bB v,⟨.e (uj (dstsOf l) wl l.length st.S).env, .e (uj (dstsOf l) wl l.length st.S).o,st.nx+l.length⟩)
  |false=>none
 |none=>none
noncomputable def Ym(id:Nat)(env:Tr V)(kt:Kt)(c:CR):Option dX:=
 match c with
 | .ret _ o1 zL=>match o1.get id with
   | .loop nf m e p c d Si pd=>match Si with
     | .busy=>none
     |_=>match pd with
      |none=>kt .normal ⟨env,o1.set id (.loop nf m e p c d .exhausted pd),zL⟩
      |some .ret=>kt .ret ⟨env,o1.set id (.loop nf m e p c d .exhausted pd),zL⟩
      |some (.exit j)=>kt (.exit j) ⟨env,o1.set id (.loop nf m e p c d .exhausted pd),zL⟩
   |_=>none
 | .bB v o1 zL=>kt (.bB v) ⟨env,o1,zL⟩
noncomputable def Mo(P:Program)(bI:Nat->FD)(rec:dp)(n:Nat)(g:Operand)(ps:List Nat)(x y:IC)(st:St)(kt:Kt):Option dX:=
 match st.S.ev g with
 | .func (.func f) first cap=>Jk P bI rec f (first++[.kz st.nx]++cap) (st.o.set st.nx (.loop P.funcs.size n ((List.range n).map st.env.get) ps x y .ready none)) (st.nx+1) (Ym st.nx st.env kt)
 |_=>none
abbrev oo:=(P:Program)->(Nat->FD)->qd P->dp->Nat->Bool->Nat->St->Kt->Option dX
noncomputable def roX(kt:Kt):RO->Option dX:=fun r=>match r with| .ok st=>kt .normal st| .bB v st=>kt (.bB v) st
noncomputable def abO(l:List bK):oo:=fun P bI md rec _ _ _ st kt=>yO P bI md rec (roX kt) l st
def xp:List Nat->Nat->Nat->Nat
 |[],_,c=>c
 |x::l,k,c=>match Nat.beq x (2^k - 1)with
  |true=>xp l (k+1) c
  |false=>xp l (k+1) (k+1)
def qe(pr:List (List Nat)):Nat:=xp (ej pr []) 0 0
noncomputable def Sj(l:List bK)(pr:List (List Nat)):oo:=fun P bI md rec _ _ _ st kt=>
 Nat.fc (qe pr) fun m=>match uK P bI md rec pr (l.take m) st.nx st []with
 |some (.fin s1 fp)=>match Ju pr fp with
  |true=>Nat.fc (st.nx+m) fun n=>match Nat.ble m l.length with
   |true=>yO P bI md rec (roX kt) (l.drop m) ⟨s1.env,s1.o,n⟩
   |false=>none
  |false=>none
 |some (.bB _ _ _)=>match Sh P bI md rec l pr st with
  |some (e,s1)=>kt e s1
  |none=>none
 |none=>none
noncomputable def Dr(rec:dp)(b:Nat)(rd:Bool)(n:Nat)(y:IC)(kt:Kt):Kt:=fun e s1=>match e with| .normal=>rec b rd n y s1 kt|e=>kt e s1
noncomputable def abP(x y:IC):oo:=fun _ _ _ rec b rd n st kt=>rec b rd n x st (Dr rec b rd n y kt)
noncomputable def E7(a c:Option dX):Option dX:=
 match a with
 |some (.r x)=>match c with
  |some (.r y)=>match R.same x y with
   |true=>some (.r x)
   |false=>none
  |_=>none
 |_=>none
noncomputable def Yn(c:Operand)(x y:IC):oo:=fun _ _ _ rec b rd n st kt=>match st.S.ev c with
 | .d (.bool true)=>rec b rd n x st kt
 | .d (.bool false)=>rec b rd n y st kt
 | .fD=>E7 (rec b rd n x st kt) (rec b rd n y st kt)
 |_=>none
noncomputable def Ds(id:Nat)(kt:Kt):Kt:=fun e s1=>match e with
 | .exit j=>match Nat.beq j id with
   |true=>kt .normal s1
   |false=>kt (.exit j) s1
 |e=>kt e s1
noncomputable def Sk(id:Nat)(x:IC):oo:=fun _ _ _ rec b rd n st kt=>rec b rd n x st (Ds id kt)
noncomputable def Yo(x:IC):oo:=fun _ _ _ rec b rd n st kt=>match Nat.ble b st.nx with
 |true=>rec b rd n x st (Dr rec b rd n (.loop x) kt)
 |false=>none
noncomputable def Sl(e:fw):oo:=fun _ _ _ _ _ _ _ st kt=>kt e st
noncomputable def abQ:oo:=fun _ _ _ _ _ _ _ _ _=>none
noncomputable def abR(g:Operand)(ps:List Nat)(x y:IC):oo:=fun P bI _ rec _ rd n st kt=>match rd with
 |true=>none
 |false=>Mo P bI rec n g ps x y st kt
noncomputable def Pg(ic:IC):oo:=
 match ic with
 | .skip=>Sl .normal
 | .af l=>abO l
 | .dq l pr=>Sj l pr
 | .seq x y=>abP x y
 | .cond c x y=>Yn c x y
 | .block id x=>Sk id x
 | .loop x=>Yo x
 | .exit id=>Sl (.exit id)
 | .ret=>Sl .ret
 | .Hq g ps x y=>abR g ps x y
 | .bad=>abQ
noncomputable def run(P:Program)(bI:Nat->FD)(md:qd P)(k:Nat):dp:=
 Nat.rec (motive:=fun _=>dp) (fun _ _ _ _ _ _=>none) (fun _ rec b rd n ic st kt=>Pg ic P bI md rec b rd n st kt) k
theorem Jv{P:Program}{bI:Nat->FD}{md:qd P}{k:Nat}:run P bI md (k+1)=fun b rd n ic st kt=>Pg ic P bI md (run P bI md k) b rd n st kt:=rfl
section
variable {P:Program}{bI:Nat->FD}{md:qd P}
theorem Ph(aY:P.follows .mixedOrders=true)(cj:∀g,(bI g).Ok P g){rec:dp}(bw:ei P rec){fr:Nat}{g:Nat}{args:List V}{st:St}{r:DR}(h:hX P bI rec g args st=some r){K:V->List (Nat×aa)->List Nat->Prop}{KX:V->List Nat->List Nat->Prop}(hr:r.to K KX):
 iF P g args st.S.o st.S.nx fr K KX:=by
 unfold hX at h
 simp only at h
 generalize mf:reach st.o.get 2000 (V.aN args) []=rd at h
 split at h
 ·rename_i hc
  simp only[Bool.and_eq_true,List.all_eq_true]at hc
  obtain⟨Sm,tQ⟩:=hc
  have a1:∀id∈rd,id<st.nx:=fun id aw=>Nat.le_of_ble_eq_true (Sm id aw).1
  have a2:∀id∈V.aN args,id∈rd:=fun id aw=>by simpa using tQ id aw
  have a3:∀id∈rd,∀j∈(st.o.get id).refs,j∈rd:=fun id aw j hj=>by simpa using(Sm id aw).2 j hj
  have a0:rd.all (fun id=>decide (id<st.S.nx))=true:=List.all_eq_true.2 fun id aw=>decide_eq_true (a1 id aw)
  have key:∀ {r:CR} {a:CR},Yj r=some (.c a)->r=a:=fun h=>by unfold Yj at h;injection h with h;injection h
  split at h
  ·rename_i v o1 zL hf
   split at h
   ·cases h
   ·rename_i v' pf
    split at h
    ·rename_i rs WX
     split at h
     ·rename_i Sn
      injection h with h;subst h
      simp only[Bool.and_eq_true,List.all_eq_true]at Sn
      refine⟨rd,_,a0, .inl ⟨rs,zK.lD a1 a2 a3 (fun x hx=>(iu rd x hx).1) (fun x hx j hj=>by simpa using Sn.1 x hx j hj) (mS aY cj bw hf fun r ye=> ?_),hr⟩⟩
      rw[key ye]
      refine⟨fun id aw=>sw aw,uF v,rs, ?_,WX,rfl,fun id aw=>by simpa using Sn.2 id aw⟩
      cases v with
      |bN vs=>
       match vs,pf with
       |[],_=>rfl
       |[x],hv=>exact absurd rfl (hv x)
       |_::_::_,_=>rfl
      |_=>rfl
     ·cases h
    ·cases h
  ·rename_i v o1 zL hf
   split at h
   ·rename_i x hx
    split at h
    ·rename_i Sn
     injection h with h;subst h
     simp only[Bool.and_eq_true,List.all_eq_true]at Sn
     refine⟨rd,ez st.o.get o1.get rd,a0, .inr (.inl ⟨x,zK.lD a1 a2 a3 (fun x hx=>(iu rd x hx).1) (fun x hx j hj=>by simpa using Sn.1 x hx j hj) (mS aY cj bw hf fun r ye=> ?_),hr⟩)⟩
     rw[key ye]
     exact⟨fun id aw=>sw aw,x,hx,rfl,fun id aw=>by simpa using Sn.2 id aw⟩
    ·cases h
   ·cases h
  ·cases h
 ·cases h
theorem Sp(aY:P.follows .mixedOrders=true)(cj:∀g,(bI g).Ok P g){rec:dp}(bw:ei P rec){g:Nat}{args:List V}{st:St}{rd:List Nat}{ds:List D}(eR:bR st.o.get args=some ds){r:DR}(h:cDX P bI md rec g args st rd=some r)
 {K:V->List (Nat×aa)->List Nat->Prop} {KX:V->List Nat->List Nat->Prop} (hr:r.to K KX):
 ss P g ds (fun v=>K v (b7 st.S.o (V.a8 args)) rd) (fun v=>K v [] rd) (fun v=>KX v [] rd):=by
 unfold cDX at h
 simp only[eR]at h
 split at h
 ·split at h
  ·rename_i v o1 zL Yp
   split at h
   ·rename_i hrf
    injection h with h;subst h
    exact .inr (.inr ⟨v,OI.lD hrf (mS aY cj bw Yp fun r ye=>by unfold Yj at ye;injection ye with ye;injection ye with ye;rw[ye];exact rfl),hr⟩)
   ·cases h
  ·cases h
 ·split at h
  ·rename_i rs Bm
   have hP:=yP aY cj bw Bm
   split at h
   ·rename_i hf
    injection h with h;subst h
    exact .inl ⟨rs,hP, .inr ⟨hf,hr⟩⟩
   ·injection h with h;subst h
    exact .inl ⟨rs,hP, .inl hr⟩
  ·rename_i x Bm
   have hP:=yP aY cj bw Bm
   split at h
   ·rename_i hf
    injection h with h;subst h
    exact .inr (.inl ⟨x,hP,hf,hr⟩)
   ·cases h
  ·cases h
theorem E8{t ty:TypeId}{sz:Nat}{es:List D}{r:CR}(h:Ml P t r=some (.r (.ret [.sl es, .int .i64 (.ofNat ty), .int .i64 (.ofNat sz)]))):
 r.to (fun v o1 _=>(∃j ep,v= .osl j ep/\o1 j= .arr ep ty sz es)\/(v= .aM/\es=[]/\0<sz)) (fun _ _ _=>False):=by
 unfold Ml at h
 split at h
 ·rename_i v o1 n1
  split at h
  ·rename_i j ep
   split at h
   ·rename_i fF ty' qJ es' ho
    split at h
    ·rename_i he
     have he:=Nat.eq_of_beq_eq_true he
     subst he
     rw[Dq]at h
     simp only[Option.some.injEq,dX.r.injEq,R.ret.injEq,List.cons.injEq,D.sl.injEq,D.int.injEq,true_and,and_true]at h
     obtain⟨rfl,h2,h3⟩:=h
     have h2:ty'=ty:=Int.ofNat.inj h2
     have h3:qJ=sz:=Int.ofNat.inj h3
     subst h2;subst h3
     exact .inl ⟨j,fF,rfl,ho⟩
    ·cases h
   ·cases h
  ·split at h
   ·rename_i e he
    split at h
    ·rename_i hp
     rw[Dq]at h
     simp only[Option.some.injEq,dX.r.injEq,R.ret.injEq,List.cons.injEq,D.sl.injEq,D.int.injEq,true_and,and_true]at h
     obtain⟨rfl,h2,h3⟩:=h
     have h3:P.cellsOf e=sz:=Int.ofNat.inj h3
     subst h3
     exact .inr ⟨rfl,rfl,Nat.blt_eq.mp hp⟩
    ·cases h
   ·cases h
  ·cases h
 ·cases h
theorem Mp(aY:P.follows .mixedOrders=true)(cj:∀g,(bI g).Ok P g){rec:dp}(bw:ei P rec){fr:Nat}{g:Nat}{t:TypeId}{args:List V}{st:St}{r:DR}(h:Sg P bI rec g t args st fr=some r){K:V->List (Nat×aa)->List Nat->Prop}{KX:V->List Nat->List Nat->Prop}(hr:r.to K KX):
 iF P g args st.S.o st.S.nx fr K KX:=by
 unfold Sg at h
 split at h
 ·rename_i ds eR
  split at h
  ·rename_i es ty sz Yp
   injection h with h;subst h
   unfold xn at eR
   split at eR
   ·rename_i aw
    exact⟨[],_,aG, .inr (.inr ⟨_,Da.Mf aw eR (Da.RY (mS aY cj bw Yp fun r ye=>E8 ye)),hr⟩)⟩
   ·cases eR
  ·cases h
 ·split at h
  ·rename_i ds eR
   split at h
   ·rename_i es ty sz Yp
    split at h
    ·rename_i hc
     injection h with h;subst h
     simp only[Bool.and_eq_true]at hc
     refine⟨V.a8 args,_, ?_, .inr (.inr ⟨_,Da.Me eR hc.1 (mS aY cj bw Yp fun r ye=>E8 ye),hr⟩)⟩
     exact List.all_eq_true.2 fun id aw=>decide_eq_true (Nat.blt_eq.mp (List.all_eq_true.1 hc.2 id aw))
    ·cases h
   ·cases h
  ·cases h
theorem yR(aY:P.follows .mixedOrders=true)(cj:∀g,(bI g).Ok P g){rec:dp}(bw:ei P rec){st:St}{fr:Nat}{o:bK}{r:DR}(h:Mm P bI md rec st fr o.op=some r){K:V->List (Nat×aa)->List Nat->Prop}{KX:V->List Nat->List Nat->Prop}(hr:r.to K KX):
 zM P st.S fr o K KX:=by
 have hs:sDX P st fr o.op=some r->(match fX P st.S fr o.op with|some (v,Δ,_)=>K v Δ (nW st.S o.op)|none=>False):=by
  intro h
  unfold sDX at h
  split at h
  ·rename_i v Δ rd he
   injection h with h;subst h
   simp only[EZ he]
   exact hr
  ·cases h
 unfold Mm at h
 unfold zM
 split at h
 ·rename_i c hc
  simp only[hc]
  split at h
  ·rename_i f hf
   simp only[hf]
   split at h
   ·rename_i g first cap hv
    simp only[hv]
    split at h
    ·have hh:=Ph aY cj bw h hr (fr:=fr)
     split
     ·exact .inr hh
     ·exact hh
    split at h
    ·rename_i r' Q0
     injection h with h;subst h
     cases eR:bR st.S.o (first++List.map st.S.ev c.args.toList++cap)with
     |some ds=>exact .inl (Sp aY cj bw eR Q0 hr)
     |none=>
      have Sd:bR st.o.get (first++List.map st.S.ev c.args.toList++cap)=none:=eR
      unfold cDX at Q0
      simp only[Sd]at Q0
      exact Ph aY cj bw Q0 hr
    ·have hh:=Mp aY cj bw (st:=st) h hr
     split
     ·exact .inr hh
     ·exact hh
   ·cases h
  ·rename_i eP
   rw[<- hc]at h
   have:=hs h
   rw[hc]at this
   split
   ·rename_i f hf;exact absurd hf (eP f)
   ·exact this
 ·rename_i hc
  have:=hs h
  split
  ·rename_i c hh;exact absurd hh (hc c)
  ·exact this
def gdW(s:S)(gd:Option (Nat×Bool))(A B:Prop):Prop:=
 match gd with
 |none=>A
 |some (d,want)=>match s.env d with
  | .d (.bool b)=>if b=want then A else B
  | .bN []=>B
  |_=>False
theorem yS{st:St}{gd:Option (Nat×Bool)}{t:Bool}(h:Yk st gd=some t){A B:Prop}(hA:t=true->A)(hB:t=false->B):gdW st.S gd A B:=by
 cases gd with
 |none=>simp only[Yk,Option.some.injEq]at h;exact hA h.symm
 |some p=>
  obtain⟨d,want⟩:=p
  have he:st.S.env d=st.env.get d:=rfl
  simp only[Yk]at h
  simp only[gdW,he]
  split at h
  ·rename_i b hb
   injection h with h
   by_cases e:b=want
   ·rw[if_pos e];exact hA (by rw[<- h,e];simp)
   ·rw[if_neg e];exact hB (by rw[<- h];simpa using e)
  ·rename_i hb
   injection h with h
   exact hB h.symm
  ·cases h
theorem Mq{P:Program}{KB:List Nat->Fp->Prop}{pr:List (List Nat)}{o:bK}{l:List bK}{fr:Nat}{s:S}{fp:Fp}{bad ws:List Nat}(hb:(pr.getD fp.length []).any (fun j=>bad.contains j)=false)
 (h:gdW s o.gd (zM P s fr o (fun v Δ rd=>gP P KB pr l (fr+1) ⟨aU s.env o.dst v,put s.o Δ,s.nx⟩ (fp++[(rd,Δ.map (·.1))]) bad (ws++Δ.map (·.1))) (fun _ _ _=>False)) (gP P KB pr l (fr+1) ⟨aU s.env o.dst (.bN []),s.o,s.nx⟩ (fp++[([],[])]) bad ws)):
 gP P KB pr (o::l) fr s fp bad ws:=by
 simp only[gP]
 rw[if_neg (by rw[hb];simp)]
 cases hg:o.gd with
 |none=>rw[hg]at h;exact h
 |some p=>obtain⟨d,want⟩:=p;rw[hg]at h;exact h
theorem Mr{P:Program}{K:S->Fp->Prop}{KP:V->List Nat->Fp->Prop}{pr:List (List Nat)}{o:bK}{l:List bK}{fr:Nat}{s:S}{fp:Fp}
 (h:gdW s o.gd (zM P s fr o (fun v Δ rd=>kn P K KP pr l (fr+1) ⟨aU s.env o.dst v,put s.o Δ,s.nx⟩ (fp++[(rd,Δ.map (·.1))]))
  (fun v ws rd=>gP P (KP v) pr l (fr+1) ⟨aU s.env o.dst .ab,s.o,s.nx⟩ (fp++[(rd,[])]) [fp.length] (ws++fp.flatMap (·.2)))) (kn P K KP pr l (fr+1) ⟨aU s.env o.dst (.bN []),s.o,s.nx⟩ (fp++[([],[])]))):
 kn P K KP pr (o::l) fr s fp:=by
 simp only[kn]
 cases hg:o.gd with
 |none=>rw[hg]at h;exact h
 |some p=>obtain⟨d,want⟩:=p;rw[hg]at h;exact h
theorem qf(aY:P.follows .mixedOrders=true)(cj:∀g,(bI g).Ok P g){rec:dp}(bw:ei P rec){pr:List (List Nat)}{wl:List Nat}{fp':Fp}{KB:List Nat->Fp->Prop}(hK:KB wl fp'):
 ∀ (l:List bK) (fr:Nat) (st:St) (fp:Fp) (bad ws:List Nat),uJ P bI md rec pr l fr st fp bad ws=some (wl,fp')->gP P KB pr l fr st.S fp bad ws
 |[],fr,st,fp,bad,ws,h=>by
  simp only[uJ,Option.some.injEq,Prod.mk.injEq]at h
  obtain⟨rfl,rfl⟩:=h;exact hK
 |o::l,fr,st,fp,bad,ws,h=>by
  simp only[uJ,iY,mR]at h
  split at h
  ·rename_i hb
   simp only[gP]
   rw[if_pos hb]
   have:=qf aY cj bw hK l _ _ _ _ _ h
   exact Ic
  ·rename_i hb
   refine Mq hb ?_
   split at h
   ·rename_i hg
    refine yS hg (fun _=> ?_) (fun h=>by cases h)
    split at h
    ·rename_i v Δ rd fK
     refine yR aY cj bw fK ?_
     have:=qf aY cj bw hK l _ _ _ _ _ h
     simp only[St.S,iR,jr]at this
     exact this
    ·cases h
   ·rename_i hg
    refine yS hg (fun h=>by cases h) (fun _=> ?_)
    have:=qf aY cj bw hK l _ _ _ _ _ h
    exact Ic
   ·cases h
def DQ.to (K:S->Fp->Prop)(KP:V->List Nat->Fp->Prop):DQ->Prop
 | .fin st fp=>K st.S fp
 | .bB v wl fp=>KP v wl fp
theorem mU(aY:P.follows .mixedOrders=true)(cj:∀g,(bI g).Ok P g){rec:dp}(bw:ei P rec){pr:List (List Nat)}{q:DQ}{K:S->Fp->Prop}{KP:V->List Nat->Fp->Prop}(hq:q.to K KP):
 ∀ (l:List bK) (fr:Nat) (st:St) (fp:Fp),uK P bI md rec pr l fr st fp=some q->kn P K KP pr l fr st.S fp
 |[],fr,st,fp,h=>by
  simp only[uK,Option.some.injEq]at h
  subst h;exact hq
 |o::l,fr,st,fp,h=>by
  simp only[uK,iY,mR,Nat.cJ]at h
  refine Mr ?_
  split at h
  ·rename_i hg
   refine yS hg (fun _=> ?_) (fun h=>by cases h)
   split at h
   ·rename_i v Δ rd fK
    refine yR aY cj bw fK ?_
    have:=mU aY cj bw hq l _ _ _ h
    simp only[St.S,iR,jr]at this
    exact this
   ·rename_i v ws rd fK
    split at h
    ·rename_i wl fp' hb
     injection h with h;subst h
     refine yR aY cj bw fK ?_
     have:=qf aY cj bw (KB:=KP v) hq l _ _ _ _ _ hb
     exact Ic
    ·cases h
   ·cases h
  ·rename_i hg
   refine yS hg (fun h=>by cases h) (fun _=> ?_)
   have:=mU aY cj bw hq l _ _ _ h
   exact Ic
  ·cases h
theorem yT{pr:List (List Nat)}{fp:Fp}(h:Ju pr fp=true):eC pr fp=true:=by
 unfold Ju at h
 split at h
 ·rename_i hq
  unfold quiet at hq
  have hz:∀i,(fp.getD i ([],[])).2=[]:=by
   intro i
   rw[List.getD_eq_getElem?_getD]
   cases hx:fp[i]? with
   |none=>rfl
   |some x=>
    have:=List.all_eq_true.1 hq x (List.mem_of_getElem? hx)
    simp only[Option.getD_some]
    split at this
    ·rename_i e;exact e
    ·cases this
  unfold eC
  simp only[hz,j5,List.all_nil,Bool.and_self,Bool.or_true]
  simp
 ·rw[E6]at h
  unfold eC
  rw[List.all_eq_true]
  intro j hj
  rw[List.all_eq_true]
  intro i hi
  exact BD fp [] h j (Nat.zero_le _) me i (by simpa using hi)
theorem uL:∀ (l:List Nat) (k c:Nat),c<=k->c<=xp l k c/\∀i x,l[i]? =some x->xp l k c<=k+i->x=2^(k+i) - 1
 |[],_,c,_=>⟨Nat.le_refl _,fun i x h=>by simp at h⟩
 |y::l,k,c,hc=>by
  simp only[xp]
  split
  ·rename_i he
   obtain⟨h1,h2⟩:=uL l (k+1) c ae
   refine⟨h1,fun i x hi hle=> ?_⟩
   cases i with
   |zero=>simp at hi;subst hi;simpa using Nat.eq_of_beq_eq_true he
   |succ i=>
    have:=h2 i x (by simpa using hi) ae
    rw[this,show k+(i+1)=k+1+i by omega]
  ·obtain⟨h1,h2⟩:=uL l (k+1) (k+1) (Nat.le_refl _)
   refine⟨ae,fun i x hi hle=> ?_⟩
   cases i with
   |zero=>omega
   |succ i=>
    have:=h2 i x (by simpa using hi) ae
    rw[this,show k+(i+1)=k+1+i by omega]
theorem xq:∀ (pr:List (List Nat)) (acc:List Nat),(ej pr acc).length=acc.length+pr.length
 |[],acc=>by simp[ej]
 |ps::l,acc=>by simp only[ej,xq l,List.length_append,List.length_cons,List.length_nil];omega
theorem Jw(pr:List (List Nat)):Di pr (qe pr)=true:=by
 refine List.all_eq_true.2 fun k hk=> ?_
 have hk:k<pr.length:=by simpa using hk
 by_cases h:k<qe pr
 ·simp[Nat.blt_eq.mpr h]
 ·have hl:k<(ej pr []).length:=by rw[xq];simpa using hk
  have:=(uL (ej pr []) 0 0 (Nat.le_refl _)).2 k _ (List.getElem?_eq_getElem hl) (by rw[Nat.zero_add];exact Nat.le_of_not_lt h)
  rw[Nat.zero_add]at this
  rw[List.getD_eq_getElem?_getD,List.getElem?_eq_getElem hl,Option.getD_some,this]
  simp
theorem Ms(aY:P.follows .mixedOrders=true)(cj:∀g,(bI g).Ok P g){rec:dp}(bw:ei P rec){l:List bK}{pr:List (List Nat)}{st st':St}{e:fw}(h:Sh P bI md rec l pr st=some (e,st')){Q:fw->S->Prop}(hQ:Q e st'.S):
 kn P (Dh pr (st.S.nx+l.length) Q) (A9 pr l st.S Q) pr l st.S.nx st.S []:=by
 unfold Sh at h
 split at h
 ·rename_i s1 fp hd
  split at h
  ·rename_i hf
   simp only[Nat.cJ,Option.some.injEq,Prod.mk.injEq]at h
   obtain⟨rfl,rfl⟩:=h
   exact mU aY cj bw (q:= .fin s1 fp) (K:=Dh pr (st.S.nx+l.length) Q) (KP:=A9 pr l st.S Q) (show Dh pr (st.S.nx+l.length) Q s1.S fp from⟨yT hf,hQ⟩) l _ _ _ hd
  ·cases h
 ·rename_i v wl fp hd
  split at h
  ·rename_i hf
   simp only[Option.some.injEq,Prod.mk.injEq]at h
   obtain⟨rfl,rfl⟩:=h
   exact mU aY cj bw (q:= .bB v wl fp) (K:=Dh pr (st.S.nx+l.length) Q) (KP:=A9 pr l st.S Q) (show A9 pr l st.S Q v wl fp from⟨yT hf,hQ⟩) l _ _ _ hd
  ·cases h
 ·cases h
theorem Mt(aY:P.follows .mixedOrders=true)(cj:∀g,(bI g).Ok P g){rec:dp}(bw:ei P rec){n:Nat}{g:Operand}{ps:List Nat}{x y:IC}{st:St}{kt:Kt}{a:dX}(h:Mo P bI rec n g ps x y st kt=some a){Q:fw->S->Prop}(hQ:∀e st',kt e st'=some a->Q e st'.S):
 AS P n (st.S.ev g) ps x y Q st.S:=by
 unfold Mo at h
 refine⟨(List.range n).map st.env.get,fun i=> ?_, ?_⟩
 ·unfold bf
  simp only[List.getD_eq_getElem?_getD,List.getElem?_map]
  by_cases hi:i<n
  ·right;rw[List.getElem?_range hi];rfl
  ·left;rw[List.getElem?_eq_none (by simp;omega)];rfl
 ·split at h
  ·rename_i f first cap hv
   simp only[hv]
   refine .inl ?_
   have key:=fun {K X} hr=>mS (K:=K) (X:=X) aY cj bw h hr
   simp only[Tr.gz]at key
   refine key fun r hr=> ?_
   unfold Ym at hr
   cases r with
   |ret v o1 zL=>
    simp only at hr
    split at hr
    ·rename_i nf m e p c d Si pd ho
     have hl:Si≠ .busy:=by
      intro hb;subst hb;cases hr
     refine⟨nf,m,e,p,c,d,Si,pd,ho,hl, ?_⟩
     split at hr
     ·cases hr
     ·split at hr<;>(have h3:=hQ _ _ hr;simp only[rh];simp only[St.S,Tr.gz]at h3;exact h3)
    ·cases hr
   |bB v o1 zL=>exact hQ _ _ hr
  ·cases h
theorem bM.same {b:Nat}{s:S}(h:b<=s.nx):bM b s s:=fun _ φ _ _ h1 h2=>⟨φ,h1,h2,fun _ h=>h,h,fun _ _ hr=>⟨hr,rfl⟩,fun _ e' _ he=>⟨e',he,Nat.le_refl _,fun _=>rfl⟩⟩
theorem Jx{x y:Option dX}{a:dX}(h:E7 x y=some a):x=some a/\y=some a:=by
 unfold E7 at h
 split at h
 ·rename_i r
  split at h
  ·rename_i r'
   split at h
   ·rename_i hs
    injection h with h;subst h
    rw[R.dP hs]
    exact⟨rfl,rfl⟩
   ·cases h
  ·cases h
 ·cases h
theorem Sq(aY:P.follows .mixedOrders=true)(cj:∀g,(bI g).Ok P g):∀k,∀j,j<=k->ei P (run P bI md j):=by
 intro k
 induction k with
 |zero=>intro j hj b rd n ic st kt a h;obtain rfl:j=0:=ae
        cases h
 |succ k ih=>
  intro j hj b rd n ic st kt a h Q hQ
  cases j with
  |zero=>cases h
  |succ j=>
   have bw:ei P (run P bI md j):=ih j ae
   rw[Jv]at h
   cases ic with
   |skip=>exact hQ _ _ h
   |exit id=>exact hQ _ _ h
   |ret=>exact hQ _ _ h
   |bad=>cases h
   |af l=>
    have h:yO P bI md (run P bI md j) (roX kt) l st=some a:=h
    exact tj aY cj bw (K:=Q .normal) (X:=fun v s=>Q (.bB v) s) (fun r hr=>by
     cases r with
     |ok Se=>exact hQ .normal _ hr
     |bB v Se=>exact hQ (.bB v) _ hr) l _ h
   |dq l pr=>
    have h:Sj l pr P bI md (run P bI md j) b rd n st kt=some a:=h
    unfold Sj at h
    rw[Nat.cJ]at h
    split at h
    ·rename_i s1 fp hd
     split at h
     ·rename_i hf
      rw[Nat.cJ]at h
      split at h
      ·rename_i Ht
       refine .inr ⟨qe pr,Nat.le_of_ble_eq_true Ht,Jw pr, ?_⟩
       refine mU aY cj bw (q:= .fin s1 fp) (K:=fun s' fp=>eC pr fp=true/\oL P (fun v s=>Q (.bB v) s) (Q .normal) (l.drop (qe pr)) ⟨s'.env,s'.o,st.S.nx+qe pr⟩) (KP:=fun _ _ _=>False) (show _/\_ from⟨yT hf, ?_⟩) (l.take (qe pr)) _ _ _ hd
       exact tj aY cj bw (K:=Q .normal) (X:=fun v s=>Q (.bB v) s) (fun r hr=>by
        cases r with
        |ok Se=>exact hQ .normal _ hr
        |bB v Se=>exact hQ (.bB v) _ hr) (l.drop (qe pr)) ⟨s1.env,s1.o,st.nx+qe pr⟩ h
      ·cases h
     ·cases h
    ·split at h
     ·rename_i e s1 h1
      exact .inl (Ms aY cj bw h1 (hQ _ _ h))
     ·cases h
    ·cases h
   |seq x y=>
    have h:run P bI md j b rd n x st (Dr (run P bI md j) b rd n y kt)=some a:=h
    simp only[ta]
    refine bw _ _ _ _ _ _ _ h _ fun e s1 he=> ?_
    unfold Dr at he
    cases e with
    |normal=>exact bw _ _ _ _ _ _ _ he _ hQ
    |_=>exact hQ _ _ he
   |cond c x y=>
    have h:(match st.S.ev c with| .d (.bool true)=>run P bI md j b rd n x st kt| .d (.bool false)=>run P bI md j b rd n y st kt| .fD=>E7 (run P bI md j b rd n x st kt) (run P bI md j b rd n y st kt)|_=>none)=some a:=h
    simp only[ta]
    split at h
    ·rename_i hv
     simp only[hv]
     exact(uh _ _).mpr (bw _ _ _ _ _ _ _ h _ hQ)
    ·rename_i hv
     simp only[hv]
     exact(si _ _).mpr (bw _ _ _ _ _ _ _ h _ hQ)
    ·rename_i hv
     simp only[hv]
     obtain⟨h1,h2⟩:=Jx h
     exact⟨bw _ _ _ _ _ _ _ h1 _ hQ,bw _ _ _ _ _ _ _ h2 _ hQ⟩
    ·cases h
   |block id x=>
    have h:run P bI md j b rd n x st (Ds id kt)=some a:=h
    simp only[ta]
    refine bw _ _ _ _ _ _ _ h _ fun e s1 he=> ?_
    unfold Ds at he
    cases e with
    |exit j'=>
     simp only at he
     split at he
     ·rename_i hb
      simp only[ff,Nat.eq_of_beq_eq_true hb,if_true];exact hQ _ _ he
     ·rename_i hb
      simp only[ff,Nat.ne_of_beq_eq_false hb,if_false];exact hQ _ _ he
    |_=>exact hQ _ _ he
   |loop x=>
    have unf:∀m Pj,run P bI md (m+1) b rd n (.loop x) Pj kt=some a->b<=Pj.nx/\run P bI md m b rd n x Pj (Dr (run P bI md m) b rd n (.loop x) kt)=some a:=by
     intro m Pj h
     have h:(match Nat.ble b Pj.nx with|true=>run P bI md m b rd n x Pj (Dr (run P bI md m) b rd n (.loop x) kt)|false=>none)=some a:=h
     split at h
     ·rename_i hb;exact⟨Nat.le_of_ble_eq_true hb,h⟩
     ·cases h
    have h:run P bI md (j+1) b rd n (.loop x) st kt=some a:=h
    refine⟨fun m s=>m<=k+1/\∃st,s=st.S/\run P bI md m b rd n (.loop x) st kt=some a,⟨j+1,st.S,bM.same (unf j st h).1,hj,st,rfl,h⟩, ?_⟩
    rintro m s0 ⟨hm,Pj,rfl,h0⟩
    cases m with
    |zero=>cases h0
    |succ m=>
     have Yq:ei P (run P bI md m):=ih m ae
     refine Yq _ _ _ _ _ _ _ (unf m Pj h0).2 _ fun e s1 he=> ?_
     unfold Dr at he
     cases e with
     |normal=>
      refine⟨m,s1.S,Nat.lt_succ_self _,bM.same ?_,ae,s1,rfl,he⟩
      cases m with
      |zero=>cases he
      |succ m=>exact(unf m s1 he).1
     |_=>exact hQ _ _ he
   |Hq g ps x y=>
    cases rd with
    |true=>
     have h:(none:Option dX)=some a:=h
     cases h
    |false=>
     have h:Mo P bI (run P bI md j) n g ps x y st kt=some a:=h
     exact⟨rfl,_, .inl rfl,Mt aY cj bw h hQ⟩
noncomputable def nR(P:Program)(bI:Nat->FD)(md:qd P)(k:Nat)(g:Nat)(ds:List D):Option R:=
 match Jk P bI (run P bI md k) g (ds.map .d) (.e fun _=> .no) 0 Bz with
 |some (.r x)=>some x
 |_=>none
theorem aV.gA (aY:P.follows .mixedOrders=true)(cj:∀g,(bI g).Ok P g){k g:Nat}{ds:List D}{out:R}(h:nR P bI md k g ds=some out):aV P g ds out:=by
 unfold nR at h
 split at h
 ·rename_i x hr;injection h with h;subst h;exact BA aY cj (Sq aY cj k k (Nat.le_refl _)) hr
 ·cases h
end
end
def Tr.E9 {α:Type}(p:Nat->α->Prop):Tr α->(Nat->Nat)->Prop
 | .e g,f=>∀i,p (f i) (g i)
 | .n x l r,f=>p (f 0) x/\E9 p l (fun i=>f (2*i+1))/\E9 p r (fun i=>f (2*i+2))
theorem Tr.yU {α:Type}{p:Nat->α->Prop}:∀ {f:Nat->Nat} (t:Tr α),t.E9 p f->∀k,p (f k) (t.get k)
 |f, .e g,h,k=>h k
 |f, .n x l r,h,k=>by
  obtain⟨h1,h2,h3⟩:=h
  rw[Tr.uB]
  split
  ·rename_i e;subst e;exact h1
  ·split
   ·have:=Tr.yU l h2 (k/2)
    rwa [show 2*(k/2)+1=k by omega]at this
   ·have:=Tr.yU r h3 (k/2 - 1)
    rwa [show 2*(k/2 - 1)+2=k by omega]at this
end Go.Proofs.YtlhemmpklhhgoaaGreat
