/-
  A PART OF THE PROOF. Conditions: none.
-/
import Derived.Test.YtbmnikpknlkbkaaGreatEk8
set_option linter.unusedSimpArgs false
set_option linter.unusedVariables false
namespace Go.Proofs.YtbmnikpknlkbkaaGreat
inductive Tr (α:Type) where
 |e (f:Nat->α)
 |n (x:α) (l r:Tr α)
noncomputable def Tr.get {α:Type}(t:Tr α):Nat->α:=
 Tr.rec (motive:=fun _=>Nat->α) (fun f=>f) (fun x _ _ l r k=>Bool.rec (Bool.rec (r (Nat.sub (Nat.div k 2) 1)) (l (Nat.div k 2)) (Nat.beq (Nat.mod k 2) 1)) x (Nat.beq k 0)) t
theorem Tr.rB {α:Type}(f:Nat->α):(Tr.e f).get=f:=rfl
noncomputable def Tr.lV {α:Type}(x:α):Nat->Tr α->Nat->Tr α
 |0,t,k=> .e (cN t.get k x)
 |d+1, .e f,k=>match Nat.beq k 0 with
  |true=> .n x (.e fun i=>f (2*i+1)) (.e fun i=>f (2*i+2))
  |false=>match Nat.beq (k%2) 1 with
   |true=> .n (f 0) (Tr.lV x d (.e fun i=>f (2*i+1)) (k/2)) (.e fun i=>f (2*i+2))
   |false=> .n (f 0) (.e fun i=>f (2*i+1)) (Tr.lV x d (.e fun i=>f (2*i+2)) (k/2 - 1))
 |d+1, .n y l r,k=>match Nat.beq k 0 with
  |true=> .n x l r
  |false=>match Nat.beq (k%2) 1 with
   |true=> .n y (Tr.lV x d l (k/2)) r
   |false=> .n y l (Tr.lV x d r (k/2 - 1))
noncomputable def Tr.set {α:Type}(t:Tr α)(k:Nat)(x:α):Tr α:=Tr.lV x 24 t k
theorem Tr.lW {α:Type}{x:α}{l r:Tr α}{k:Nat}:(Tr.n x l r).get k=if k=0 then x else if k%2=1 then l.get (k/2)else r.get (k/2 - 1):=by
 show @Bool.rec (fun _=>α) (@Bool.rec (fun _=>α) (r.get (k/2 - 1)) (l.get (k/2)) (Nat.beq (k%2) 1)) x (Nat.beq k 0)=_
 by_cases h:k=0
 ·subst h;rfl
 ·have:Nat.beq k 0=false:=by cases k with|zero=>exact absurd rfl h|succ k=>rfl
  simp only[this,h,if_false]
  by_cases h2:k%2=1
  ·simp[h2]
  ·have:Nat.beq (k%2) 1=false:=by
    cases hb:Nat.beq (k%2) 1 with
    |false=>rfl
    |true=>exact absurd (Nat.eq_of_beq_eq_true hb) h2
   simp[h2,this]
theorem Tr.gy {α:Type}(x:α):∀ (d:Nat) (t:Tr α) (k:Nat),(Tr.lV x d t k).get=cN t.get k x
 |0,t,k=>rfl
 |d+1, .e f,k=>by
  funext i
  simp only[Tr.lV]
  have hb:∀a b:Nat,Nat.beq a b=decide (a=b):=fun a b=>by
   cases h:Nat.beq a b with
   |true=>simp[Nat.eq_of_beq_eq_true h]
   |false=>simp[Nat.ne_of_beq_eq_false h]
  rw[hb,hb]
  by_cases h:k=0
  ·subst h
   simp only[decide_true,Tr.lW,ak]
   by_cases hi:i=0
   ·simp[hi]
   ·simp only[hi,if_false]
    by_cases h2:i%2=1
    ·simp only[h2,if_true,Tr.rB];congr 1;omega
    ·simp only[h2,if_false,Tr.rB];congr 1;omega
  ·simp only[h,decide_false]
   by_cases hk:k%2=1
   ·simp only[hk,decide_true,Tr.lW,Tr.gy x d,ak,Tr.rB]
    by_cases hi:i=0
    ·subst hi;simp[Ne.symm h]
    ·simp only[hi,if_false]
     by_cases h2:i%2=1
     ·simp only[h2,if_true]
      have e1:2*(i/2)+1=i:=by omega
      rw[e1]
      by_cases e:i=k
      ·simp[e]
      ·rw[if_neg e,if_neg (by omega)]
     ·simp only[h2,if_false]
      rw[if_neg (by intro e;subst e;exact h2 hk)]
      congr 1;omega
   ·simp only[hk,decide_false,Tr.lW,Tr.gy x d,ak,Tr.rB]
    by_cases hi:i=0
    ·subst hi;simp[Ne.symm h]
    ·simp only[hi,if_false]
     by_cases h2:i%2=1
     ·simp only[h2,if_true]
      rw[if_neg (by intro e;subst e;exact hk h2)]
      congr 1;omega
     ·simp only[h2,if_false]
      have e1:2*(i/2 - 1)+2=i:=by omega
      rw[e1]
      by_cases e:i=k
      ·simp[e]
      ·rw[if_neg e,if_neg (by omega)]
 |d+1, .n y l r,k=>by
  funext i
  simp only[Tr.lV]
  have hb:∀a b:Nat,Nat.beq a b=decide (a=b):=fun a b=>by
   cases h:Nat.beq a b with
   |true=>simp[Nat.eq_of_beq_eq_true h]
   |false=>simp[Nat.ne_of_beq_eq_false h]
  rw[hb,hb]
  by_cases h:k=0
  ·subst h
   simp only[decide_true,Tr.lW,ak]
   by_cases hi:i=0
   ·simp[hi]
   ·simp[hi]
  ·simp only[h,decide_false]
   by_cases hk:k%2=1
   ·simp only[hk,decide_true,Tr.lW,Tr.gy x d,ak]
    by_cases hi:i=0
    ·subst hi;simp[Ne.symm h]
    ·simp only[hi,if_false]
     by_cases h2:i%2=1
     ·simp only[h2,if_true]
      by_cases e:i=k
      ·simp[e]
      ·rw[if_neg e,if_neg (by omega)]
     ·simp only[h2,if_false]
      rw[if_neg (by intro e;subst e;exact h2 hk)]
   ·simp only[hk,decide_false,Tr.lW,Tr.gy x d,ak]
    by_cases hi:i=0
    ·subst hi;simp[Ne.symm h]
    ·simp only[hi,if_false]
     by_cases h2:i%2=1
     ·simp only[h2,if_true]
      rw[if_neg (by intro e;subst e;exact hk h2)]
     ·simp only[h2,if_false]
      by_cases e:i=k
      ·simp[e]
      ·rw[if_neg e,if_neg (by omega)]
theorem Tr.dY {α:Type}(t:Tr α)(k:Nat)(x:α):(t.set k x).get=cN t.get k x:=Tr.gy x 24 t k
noncomputable def Nat.fc {β:Type}(n:Nat)(c:Nat->β):β:=Nat.rec (motive:=fun _=>β) (c 0) (fun m _=>c (Nat.succ m)) n
theorem Nat.bb {β:Type}(n:Nat)(c:Nat->β):Nat.fc n c=c n:=by cases n<;>rfl
noncomputable def Int.fc {β:Type}(n:Int)(c:Int->β):β:=Int.rec (motive:=fun _=>β) (fun m=>Nat.fc m fun m=>c (.ofNat m)) (fun m=>Nat.fc m fun m=>c (.negSucc m)) n
theorem Int.bb {β:Type}(n:Int)(c:Int->β):Int.fc n c=c n:=by cases n<;>simp only[Int.fc,Nat.bb]
mutual
noncomputable def D.fc {β:Type}:D->(D->β)->β
 | .int k n,c=>Int.fc n fun n=>c (.int k n)
 | .bool b,c=>match b with|true=>c (.bool true)|false=>c (.bool false)
 | .agg l,c=>D.lX l fun l=>c (.agg l)
 | .sl l,c=>D.lX l fun l=>c (.sl l)
 | .iface t x,c=>D.fc x fun x=>c (.iface t x)
 | .str s,c=>c (.str s)
 | .dx,c=>c .dx
 | .fO,c=>c .fO
 | .fl,c=>c .fl
 | .eB,c=>c .eB
 | .mp ks vs,c=>D.lX ks fun ks=>D.lX vs fun vs=>c (.mp ks vs)
noncomputable def D.lX {β:Type}:List D->(List D->β)->β
 |[],c=>c []
 |x::xs,c=>D.fc x fun x=>D.lX xs fun xs=>c (x::xs)
end
mutual
theorem D.bb {β:Type}:∀ (x:D) (c:D->β),D.fc x c=c x
 | .int k n,c=>by simp only[D.fc,Int.bb]
 | .bool b,c=>by cases b<;>rfl
 | .agg l,c=>by simp only[D.fc,D.cL l]
 | .sl l,c=>by simp only[D.fc,D.cL l]
 | .iface t x,c=>by simp only[D.fc,D.bb x]
 | .mp ks vs,c=>by simp only[D.fc,D.cL ks,D.cL vs]
 | .str _,_| .dx,_| .fO,_| .fl,_| .eB,_=>by simp only[D.fc]
theorem D.cL {β:Type}:∀ (x:List D) (c:List D->β),D.lX x c=c x
 |[],c=>by simp only[D.lX]
 |x::xs,c=>by simp only[D.lX,D.bb x,D.cL xs]
end
mutual
noncomputable def V.fc {β:Type}:V->(V->β)->β
 | .d x,c=>D.fc x fun x=>c (.d x)
 | .agg l,c=>V.lX l fun l=>c (.agg l)
 | .a8 l,c=>V.lX l fun l=>c (.a8 l)
 | .ptr i o,c=>Nat.fc i fun i=>Nat.fc o fun o=>c (.ptr i o)
 | .osl i o,c=>Nat.fc i fun i=>Nat.fc o fun o=>c (.osl i o)
 | .pe a b i j k,c=>Nat.fc a fun a=>Nat.fc b fun b=>Nat.fc i fun i=>Nat.fc j fun j=>Nat.fc k fun k=>c (.pe a b i j k)
 | .pp l o,c=>D.lX l fun l=>Nat.fc o fun o=>c (.pp l o)
 | .func f a b,c=>V.lX a fun a=>V.lX b fun b=>c (.func f a b)
 | .iface t x,c=>V.fc x fun x=>c (.iface t x)
 | .iA l,c=>D.lX l fun l=>c (.iA l)
 | .mg i j k,c=>Nat.fc i fun i=>Nat.fc j fun j=>Nat.fc k fun k=>c (.mg i j k)
 | .mp i,c=>Nat.fc i fun i=>c (.mp i)
 | .g8 i,c=>Nat.fc i fun i=>c (.g8 i)
 | .b6,c=>c .b6
 | .bL,c=>c .bL
 | .cM,c=>c .cM
noncomputable def V.lX {β:Type}:List V->(List V->β)->β
 |[],c=>c []
 |x::xs,c=>V.fc x fun x=>V.lX xs fun xs=>c (x::xs)
end
mutual
theorem V.bb {β:Type}:∀ (x:V) (c:V->β),V.fc x c=c x
 | .d x,c=>by simp only[V.fc,D.bb]
 | .agg l,c=>by simp only[V.fc,V.cL l]
 | .a8 l,c=>by simp only[V.fc,V.cL l]
 | .pp l o,c=>by simp only[V.fc,D.cL,Nat.bb]
 | .func f a b,c=>by simp only[V.fc,V.cL a,V.cL b]
 | .iface t x,c=>by simp only[V.fc,V.bb x]
 | .iA l,c=>by simp only[V.fc,D.cL]
 | .ptr _ _,_| .osl _ _,_| .pe _ _ _ _ _,_| .mg _ _ _,_| .mp _,_| .g8 _,_| .b6,_| .bL,_| .cM,_=>by simp only[V.fc,Nat.bb]
theorem V.cL {β:Type}:∀ (x:List V) (c:List V->β),V.lX x c=c x
 |[],c=>by simp only[V.lX]
 |x::xs,c=>by simp only[V.lX,V.bb x,V.cL xs]
end
section
variable {β:Type}
noncomputable def BP(k:IntKind)(n:Int)(c:V->β):β:=Int.fc n fun n=>c (.d (.int k n))
noncomputable def BQ(b:Bool)(c:V->β):β:= @Bool.rec (fun _=>β) (c (.d (.bool false))) (c (.d (.bool true))) b
noncomputable def yJ(x:D)(c:V->β):β:=D.fc x fun x=>c (.d x)
noncomputable def vD(x:D):(V->β)->β:=match x with| .int k n=>BP k n| .bool b=>BQ b|x=>yJ x
noncomputable def BR(i o:Nat)(c:V->β):β:=Nat.fc i fun i=>Nat.fc o fun o=>c (.ptr i o)
noncomputable def BS(i o:Nat)(c:V->β):β:=Nat.fc i fun i=>Nat.fc o fun o=>c (.osl i o)
noncomputable def HK(a b i j k:Nat)(c:V->β):β:=Nat.fc a fun a=>Nat.fc b fun b=>Nat.fc i fun i=>Nat.fc j fun j=>Nat.fc k fun k=>c (.pe a b i j k)
noncomputable def V.Aa (v:V):(V->β)->β:=match v with| .d x=>vD x| .ptr i o=>BR i o| .osl i o=>BS i o| .pe a b i j k=>HK a b i j k|v=>V.fc v
theorem V.yK (v:V)(c:V->β):V.Aa v c=c v:=by
 cases v
 case d x=>
  cases x
  case int k n=>simp only[V.Aa,vD,BP,Int.bb]
  case bool b=>cases b<;>rfl
  all_goals exact D.bb _ _
 case ptr i o=>simp only[V.Aa,BR,Nat.bb]
 case osl i o=>simp only[V.Aa,BS,Nat.bb]
 case pe a b i j k=>simp only[V.Aa,HK,Nat.bb]
 all_goals exact V.bb _ _
end
noncomputable def Ab{β:Type}:List (D×D)->(List (D×D)->β)->β
 |[],c=>c []
 |(a,b)::l,c=>D.fc a fun a=>D.fc b fun b=>Ab l fun l=>c ((a,b)::l)
theorem uv{β:Type}:∀ (x:List (D×D)) (c:List (D×D)->β),Ab x c=c x
 |[],c=>rfl
 |(a,b)::l,c=>by simp only[Ab,D.bb,uv l]
noncomputable def aa.fc {β:Type}(x:aa)(c:aa->β):β:=
 match x with
 | .row cs=>V.lX cs fun cs=>c (.row cs)
 | .arr e t s es=>Nat.fc e fun e=>Nat.fc s fun s=>D.lX es fun es=>c (.arr e t s es)
 | .ko e es=>Nat.fc e fun e=>D.lX es fun es=>c (.ko e es)
 | .map kt vt l=>Ab l fun l=>c (.map kt vt l)
 | .dA l=>Ab l fun l=>c (.dA l)
 | .kX l last=>Ab l fun l=>c (.kX l last)
 | .ot l pos=>Nat.fc pos fun pos=>c (.ot l pos)
 |x=>c x
theorem aa.bb {β:Type}(x:aa)(c:aa->β):aa.fc x c=c x:=by cases x<;>simp only[aa.fc,V.cL,D.cL,Nat.bb,uv]
noncomputable def Tr.ni {α β:Type}(x:α)(d:Nat):Tr α->Nat->(Tr α->β)->β:=
 Nat.rec (motive:=fun _=>Tr α->Nat->(Tr α->β)->β) (fun t k c=>c (.e (cN t.get k x)))
  (fun _ ih t k c=>Tr.rec (motive:=fun _=>β) (fun f=>
   Bool.rec (Bool.rec (ih (.e fun i=>f (2*i+2)) (Nat.sub (Nat.div k 2) 1) fun r=>c (.n (f 0) (.e fun i=>f (2*i+1)) r)) (ih (.e fun i=>f (2*i+1)) (Nat.div k 2) fun l=>c (.n (f 0) l (.e fun i=>f (2*i+2)))) (Nat.beq (Nat.mod k 2) 1))
    (c (.n x (.e fun i=>f (2*i+1)) (.e fun i=>f (2*i+2)))) (Nat.beq k 0))
   (fun y l r _ _=>Bool.rec (Bool.rec (ih r (Nat.sub (Nat.div k 2) 1) fun r=>c (.n y l r)) (ih l (Nat.div k 2) fun l=>c (.n y l r)) (Nat.beq (Nat.mod k 2) 1)) (c (.n x l r)) (Nat.beq k 0)) t) d
theorem Tr.lY {α β:Type}(x:α):∀ (d:Nat) (t:Tr α) (k:Nat) (c:Tr α->β),Tr.ni x d t k c=c (Tr.lV x d t k)
 |0,t,k,c=>rfl
 |d+1, .e f,k,c=>by
  show @Bool.rec (fun _=>β) (@Bool.rec (fun _=>β) (Tr.ni x d (.e fun i=>f (2*i+2)) (k/2 - 1) fun r=>c (.n (f 0) (.e fun i=>f (2*i+1)) r)) (Tr.ni x d (.e fun i=>f (2*i+1)) (k/2) fun l=>c (.n (f 0) l (.e fun i=>f (2*i+2)))) (Nat.beq (k%2) 1)) (c (.n x (.e fun i=>f (2*i+1)) (.e fun i=>f (2*i+2)))) (Nat.beq k 0)=_
  simp only[Tr.lV,Tr.lY x d]
  cases Nat.beq k 0
  ·cases Nat.beq (k%2) 1<;>rfl
  ·rfl
 |d+1, .n y l r,k,c=>by
  show @Bool.rec (fun _=>β) (@Bool.rec (fun _=>β) (Tr.ni x d r (k/2 - 1) fun r=>c (.n y l r)) (Tr.ni x d l (k/2) fun l=>c (.n y l r)) (Nat.beq (k%2) 1)) (c (.n x l r)) (Nat.beq k 0)=_
  simp only[Tr.lV,Tr.lY x d]
  cases Nat.beq k 0
  ·cases Nat.beq (k%2) 1<;>rfl
  ·rfl
noncomputable def Tr.yL {α β:Type}(t:Tr α)(k:Nat)(x:α)(c:Tr α->β):β:=Tr.ni x 24 t k c
theorem Tr.rC {α β:Type}(t:Tr α)(k:Nat)(x:α)(c:Tr α->β):t.yL k x c=c (t.set k x):=Tr.lY x 24 t k c
structure St where
 env:Tr V
 o:Tr aa
 nx:Nat
noncomputable def St.S (st:St):S:=⟨st.env.get,st.o.get,st.nx⟩
noncomputable def sR(o:Tr aa)(Δ:List (Nat×aa)):Tr aa:=Δ.foldl (fun f x=>f.set x.1 x.2) o
noncomputable def kg(env:Tr V)(dst:Option Tmp)(v:V):Tr V:=match dst with|some d=>env.set d v|none=>env
noncomputable def lZ{β:Type}(o:Tr aa):List (Nat×aa)->(Tr aa->β)->β
 |[],c=>c o
 |(i,x)::Δ,c=>aa.fc x fun x=>o.yL i x fun o=>lZ o Δ c
theorem gz{β:Type}:∀ (Δ:List (Nat×aa)) (o:Tr aa) (c:Tr aa->β),lZ o Δ c=c (sR o Δ)
 |[],o,c=>rfl
 |(i,x)::Δ,o,c=>by simp only[lZ,aa.bb,Tr.rC,gz Δ];rfl
noncomputable def fK{β:Type}(env:Tr V)(dst:Option Tmp)(v:V)(c:Tr V->β):β:=match dst with|some d=>V.Aa v fun v=>env.yL d v c|none=>c env
theorem ed{β:Type}(env:Tr V)(dst:Option Tmp)(v:V)(c:Tr V->β):fK env dst v c=c (kg env dst v):=by
 cases dst<;>simp only[fK,kg,V.yK,Tr.rC]
theorem eA:∀ (Δ:List (Nat×aa)) (o:Tr aa),(sR o Δ).get=put o.get Δ
 |[],_=>rfl
 |x::Δ,o=>by
  simp only[sR,put,List.foldl_cons]
  have:=eA Δ (o.set x.1 x.2)
  simp only[sR,put]at this
  rw[this,Tr.dY]
theorem cf(env:Tr V)(dst:Option Tmp)(v:V):(kg env dst v).get=ay env.get dst v:=by
 cases dst<;>simp[kg,ay,Tr.dY]
section yM
def xI(x:Operand)(_:Program)(s:S)(_:Nat):Option dy:=one (s.ev x)
def BT(c a b:Operand)(_:Program)(s:S)(_:Nat):Option dy:=fI (jl (s.ev c) (s.ev a) (s.ev b))
def yN(t:TypeId)(parts:Array (Nat×Operand))(P:Program)(s:S)(_:Nat):Option dy:=fI (nR P t (parts.toList.map fun p=>(p.1,s.ev p.2)))
def pK(t:TypeId)(len:Nat)(parts:Array (Nat×Operand))(P:Program)(s:S)(fr:Nat):Option dy:=dc P s.o fr t len (parts.toList.map fun p=>(p.1,s.ev p.2))
def BU(t:TypeId)(x:Operand)(P:Program)(s:S)(_:Nat):Option dy:=gq P s.o t (s.ev x)
def yO(t:TypeId)(x v:Operand)(P:Program)(s:S)(_:Nat):Option dy:=jL P s.o t (s.ev x) (s.ev v)
def E9(x:Operand)(_:Program)(s:S)(_:Nat):Option dy:=fI (ea s.o (s.ev x))
noncomputable def BV(op:BinOp):IntKind->Int->Int->Option V:=
 match op with
 | .add=>fun k a b=>some (.d (.int k (k.wrap (Int.add a b))))
 | .sub=>fun k a b=>some (.d (.int k (k.wrap (Int.sub a b))))
 | .mul=>fun k a b=>some (.d (.int k (k.wrap (Int.mul a b))))
 |op=>pj op
theorem v3(op:BinOp):BV op=pj op:=by cases op<;>rfl
def asInt(x:V):Option (IntKind×Int):=match x with| .d (.int k a)=>some (k,a)|_=>none
def uw(op:BinOp)(t:TypeId)(c:Bool)(x y:V)(P:Program)(o:Nat->aa):Option dy:=bF P o op t c x y
noncomputable def BW(op:BinOp)(t:TypeId)(x y:Operand)(P:Program)(s:S)(_:Nat):Option dy:=
 match asInt (s.ev x)with
 |some (k,a)=>match asInt (s.ev y)with
  |some (k',b)=>if k=k' then match BV op k a b with
   |some v=>some (v,[],[])
   |none=>uw op t (isConst x||isConst y) (s.ev x) (s.ev y) P s.o
   else none
  |none=>uw op t (isConst x||isConst y) (s.ev x) (s.ev y) P s.o
 |none=>uw op t (isConst x||isConst y) (s.ev x) (s.ev y) P s.o
theorem pL{x:V}{k:IntKind}{a:Int}(h:asInt x=some (k,a)):x= .d (.int k a):=by
 unfold asInt at h;split at h
 ·injection h with h;cases h;rfl
 ·cases h
def qO(t:TypeId)(x:Operand)(f:Nat)(P:Program)(s:S)(_:Nat):Option dy:=fI (dF P s.o t (s.ev x) f)
def qP(t:TypeId)(x i:Operand)(P:Program)(s:S)(_:Nat):Option dy:=dE P s.o t (s.ev x) (s.ev i)
def yQ(op:Op)(P:Program)(s:S)(fr:Nat):Option dy:=dG P s fr op
noncomputable def v5(op:Op):Program->S->Nat->Option dy:=
 match op with
 | .move x=>xI x
 | .assign x=>xI x
 | .pick c a b=>BT c a b
 | .build t parts=>yN t parts
 | .buildSlice t len parts=>pK t len parts
 | .load t x=>BU t x
 | .store t x v=>yO t x v
 | .nilCheck x=>E9 x
 | .binOp op t x y _=>BW op t x y
 | .fieldAddr t x f=>qO t x f
 | .indexAddr t x i=>qP t x i
 |op=>yQ op
theorem rD{op:Op}{P:Program}{s:S}{fr:Nat}{r:dy}(h:v5 op P s fr=some r):dG P s fr op=some r:=by
 cases op
 case binOp op t x y yt=>
  simp only[v5,BW,v3]at h
  have e:dG P s fr (.binOp op t x y yt)=bF P s.o op t (isConst x||isConst y) (s.ev x) (s.ev y):=rfl
  rw[e]
  split at h
  ·rename_i k a hx
   split at h
   ·rename_i k' b hy
    split at h
    ·rename_i hk
     split at h
     ·rename_i v hv
      unfold bF nQ
      simp only[pL hx,pL hy,if_pos hk,hv]
      exact h
     ·exact h
    ·cases h
   ·exact h
  ·exact h
 all_goals exact h
end yM
inductive FD where
 |fn (n:Nat) (ic:IC) (rs:List ResultVar)
 |Fa (n:Nat) (iB fL:IC) (g t:Nat) (dX:List Operand) (rs:List ResultVar) (m r r1:Nat) (pJ:IC)
 |no
def FD.Ok (P:Program)(f:Nat):FD->Prop
 | .fn n ic rs=>ax P f n ic rs
 | .Fa n iB fL g t dX rs m r r1 pJ=>uo P f n iB fL g t dX rs/\rA P g m r r1 pJ
 | .no=>True
inductive CR where
 |ret (v:V) (o:Tr aa) (nx:Nat)|aH (v:V) (o:Tr aa) (nx:Nat)
def CR.to (K X:V->(Nat->aa)->Nat->Prop):CR->Prop
 | .ret v o nx=>K v o.get nx
 | .aH v o nx=>X v o.get nx
inductive RO where
 |ok (st:St)|aH (v:V) (st:St)
def RO.to (K:S->Prop)(X:V->S->Prop):RO->Prop
 | .ok st=>K st.S
 | .aH v st=>X v st.S
inductive b9 where
 |r (x:R)|c (x:CR)
abbrev Kt:=et->St->Option b9
abbrev bJ:=Nat->Bool->Nat->IC->St->Kt->Option b9
noncomputable def sS(P:Program)(rs:List ResultVar)(st:St)(kc:CR->Option b9):Option b9:=
 match fC P st.S rs with
 |some [v]=>kc (.ret v st.o st.nx)
 |some vs=>kc (.ret (.a8 vs) st.o st.nx)
 |none=>none
noncomputable def xJ(P:Program)(rs:List ResultVar)(kc:CR->Option b9):Kt:=fun e st=>
 match e with
 | .normal=>sS P rs st kc
 | .ret=>sS P rs st kc
 | .aH v=>kc (.aH v st.o st.nx)
 | .exit _=>none
noncomputable def ux(P:Program)(rs:List ResultVar)(kc:CR->Option b9)(env:Tr V):Kt:=fun e s4=>
 match e with
 | .normal=>sS P rs ⟨env,s4.o,s4.nx⟩ kc
 | .ret=>sS P rs ⟨env,s4.o,s4.nx⟩ kc
 |_=>none
def BX:et->Option V
 | .normal=>some (.d .dx)
 | .ret=>some (.d .dx)
 | .aH v=>some v
 | .exit _=>none
noncomputable def uy(P:Program)(rec:bJ)(rs:List ResultVar)(gU:List V)(m r r1:Nat)(pJ:IC)(kc:CR->Option b9):Kt:=fun e s3=>
 match BX e with
 |some u=>if gU.length<=m then rec s3.nx true m pJ ⟨.e (cN (cN (bq gU) r u) r1 u),s3.o,s3.nx⟩ (ux P rs kc s3.env)else none
 |none=>none
noncomputable def rE(P:Program)(rec:bJ)(n t:Nat)(fL:IC)(g:Nat)(dX:List Operand)(rs:List ResultVar)(m r r1:Nat)(pJ:IC)(kc:CR->Option b9):Kt:=fun e s1=>
 match e with
 | .normal=>rec s1.nx false n fL ⟨s1.env.set t (.func (.func g) [] (dX.map s1.S.ev)),s1.o,s1.nx⟩ (uy P rec rs (dX.map s1.S.ev) m r r1 pJ kc)
 |_=>none
noncomputable def uz(P:Program)(aI:Nat->FD)(rec:bJ)(g:Nat)(args:List V)(o:Tr aa)(nx:Nat)(kc:CR->Option b9):Option b9:=
 match aI g with
 | .fn n ic rs=>if args.length<=n then rec nx false n ic ⟨.e (bq args),o,nx⟩ (xJ P rs kc)else none
 | .Fa n iB fL g t dX rs m r r1 pJ=>if args.length<=n then rec nx true n iB ⟨.e (bq args),o,nx⟩ (rE P rec n t fL g dX rs m r r1 pJ kc)else none
 | .no=>none
def l0:V->List V
 | .a8 vs=>vs
 |v=>[v]
noncomputable def rF(r:CR):Option R:=
 match r with
 | .ret v o _=>match v with
   | .a8 [_]=>none
   |v=>match aQ o.get (l0 v)with
    |some rs=>some (.ret rs)
    |none=>none
 | .aH v o _=>match cJ o.get v with
   |some x=>some (.aH x)
   |none=>none
noncomputable def BZ{β:Type}(x:R)(c:R->β):β:=match x with| .ret l=>D.lX l fun l=>c (.ret l)| .aH d=>D.fc d fun d=>c (.aH d)
theorem qQ{β:Type}(x:R)(c:R->β):BZ x c=c x:=by cases x<;>simp only[BZ,D.cL,D.bb]
noncomputable def pM(r:CR):Option b9:=match rF r with|some x=>BZ x fun x=>some (.r x)|none=>none
theorem uA{r:CR}{a:b9}(h:pM r=some a):∃x,rF r=some x/\a= .r x:=by
 unfold pM at h
 split at h
 ·rename_i x hx;rw[qQ]at h;injection h with h;exact⟨x,hx,h.symm⟩
 ·cases h
def uB(out:R)(o:Tr aa)(nx:Nat):CR:=
 match out with
 | .ret rs=> .ret (fP rs) o nx
 | .aH x=> .aH (.d x) o nx
structure iw (P:Program) where
 B0:Nat->Bool
 fx:Nat->List D->Option R
 ok:∀g ds out,fx g ds=some out->c0 P g ds out
def uC(l:List (Nat×List D×R))(g:Nat)(ds:List D):Option R:=
 match l with
 |[]=>none
 |x::l=>match Nat.beq x.1 g with
  |true=>match D.cX x.2.1 ds with
   |true=>some x.2.2
   |false=>uC l g ds
  |false=>uC l g ds
theorem n9{P:Program}:∀ {l:List (Nat×List D×R)},(∀x∈l,c0 P x.1 x.2.1 x.2.2)->∀g ds out,uC l g ds=some out->c0 P g ds out
 |[],_,_,_,_,h=>by cases h
 |x::l,hl,g,ds,out,h=>by
  simp only[uC]at h
  split at h
  ·rename_i hg
   split at h
   ·rename_i hd
    injection h with h
    have:=hl x (by simp)
    rw[Nat.eq_of_beq_eq_true hg,D.bB _ _ hd,h]at this
    exact this
   ·exact n9 (fun y hy=>hl y (by simp[hy])) g ds out h
  ·exact n9 (fun y hy=>hl y (by simp[hy])) g ds out h
def iw.of {P:Program}(B0:Nat->Bool)(l:List (Nat×List D×R))(h:∀x∈l,c0 P x.1 x.2.1 x.2.2):iw P:=⟨B0,uC l,n9 h⟩
noncomputable def v7(P:Program)(aI:Nat->FD)(md:iw P)(rec:bJ)(g:Nat)(ds:List D):Option R:=
 match md.fx g ds with
 |some out=>some out
 |none=>match uz P aI rec g (ds.map .d) (.e fun _=> .no) 0 pM with
  |some (.r x)=>some x
  |_=>none
noncomputable def xK(out:R)(o:Tr aa)(nx:Nat)(args:List V)(kc:CR->Option b9):Option b9:=
 match out.flat with
 |true=>kc (uB out o (nx+1))
 |false=>match out.ga with
  |true=>kc (uB out (sR o (kq o.get (V.aB args))) (nx+1))
  |false=>kc (uB out (sR o (bD o.get (V.aB args))) (nx+1))
noncomputable def rG(P:Program)(aI:Nat->FD)(md:iw P)(rec:bJ)(g:Nat)(args:List V)(o:Tr aa)(nx:Nat)(kc:CR->Option b9):Option b9:=
 match md.B0 g,aQ o.get args with
 |true,some ds=>match v7 P aI md rec g ds with
  |some out=>xK out o nx args kc
  |none=>none
 |_,_=>uz P aI rec g args o nx kc
noncomputable def uD(id:Nat)(kc:CR->Option b9):Kt:=fun e s2=>
 match e with
 | .aH v=>kc (.aH v s2.o s2.nx)
 |e=>match s2.o.get id with
  | .loop nf m en p c d _ _=>match e with
    | .normal=>kc (.ret (.d (.bool true)) (s2.o.set id (.loop nf m en p c d .ready none)) s2.nx)
    | .ret=>kc (.ret (.d (.bool false)) (s2.o.set id (.loop nf m en p c d .done (some .ret))) s2.nx)
    | .exit j=>kc (.ret (.d (.bool false)) (s2.o.set id (.loop nf m en p c d .done (some (.exit j)))) s2.nx)
    | .aH _=>none
  |_=>none
noncomputable def rH(rec:bJ)(id nx n:Nat)(fL:IC)(kc:CR->Option b9):Kt:=fun e s1=>
 match e with
 | .normal=>match s1.o.get id with
   | .loop nf m en p c d .ready pd=>rec nx true n fL ⟨s1.env,s1.o.set id (.loop nf m en p c d .busy pd),s1.nx⟩ (uD id kc)
   |_=>none
 | .aH v=>kc (.aH v s1.o s1.nx)
 |_=>none
noncomputable def yU(P:Program)(rec:bJ)(id:Nat)(args:List V)(o:Tr aa)(nx:Nat)(kc:CR->Option b9):Option b9:=
 match o.get id with
 | .loop nf n env ps iB fL _ _=>if nf=P.funcs.size/\id<nx/\ps.all (fun t=>decide (t<n))=true/\args.length=ps.length then
  rec nx true n iB ⟨.e (sL (eX env) ps args),o,nx⟩ (rH rec id nx n fL kc)
   else none
 |_=>none
noncomputable def nj(P:Program)(st:St)(o:aT)(kr:RO->Option b9):Option b9:=
 match v5 o.op P st.S st.nx with
 |some (v,Δ,_)=>fK st.env o.dst v fun e=>lZ st.o Δ fun ob=>Nat.fc (st.nx+1) fun n=>kr (.ok ⟨e,ob,n⟩)
 |none=>none
noncomputable def B1(st:St)(dst:Option Nat)(kr:RO->Option b9)(c:CR):Option b9:=
 match c with
 | .ret v o nx=>fK st.env dst v fun e=>Nat.fc nx fun nx=>kr (.ok ⟨e,o,nx⟩)
 | .aH v o nx=>kr (.aH v ⟨st.env,o,nx⟩)
noncomputable def uE(c:Call)(P:Program)(aI:Nat->FD)(md:iw P)(rec:bJ)(st:St)(o:aT)(kr:RO->Option b9):Option b9:=
 match c.callee with
 | .value f=>match st.S.ev f with
   | .func (.func g) first cap=>rG P aI md rec g (first++c.args.toList.map st.S.ev++cap) st.o st.nx (B1 st o.dst kr)
   | .g8 id=>yU P rec id (c.args.toList.map st.S.ev) st.o st.nx (B1 st o.dst kr)
   |_=>none
 | .invoke r m=>match lA P m (st.S.ev r)with
   |some (g,y)=>rG P aI md rec g (y::c.args.toList.map st.S.ev) st.o st.nx (B1 st o.dst kr)
   |none=>none
 |_=>nj P st o kr
noncomputable def yV(x:Operand)(P:Program)(_:Nat->FD)(_:iw P)(_:bJ)(st:St)(_:aT)(kr:RO->Option b9):Option b9:=
 match st.S.ev x with
 | .d (.iface t y)=>kr (.aH (.d (.iface t y)) st)
 | .iface t y=>kr (.aH (.iface t y) st)
 |_=>none
noncomputable def B2(P:Program)(_:Nat->FD)(_:iw P)(_:bJ)(st:St)(o:aT)(kr:RO->Option b9):Option b9:=nj P st o kr
def R.same:R->R->Bool
 | .ret a, .ret b=>D.cX a b
 | .aH a, .aH b=>a.same b
 |_,_=>false
theorem R.bX {x y:R}(h:x.same y=true):x=y:=by
 cases x<;>cases y<;>simp only[R.same,Bool.false_eq_true]at h
 ·rw[D.bB _ _ h]
 ·rw[D.bX _ _ h]
noncomputable def DM(f:Nat->Option b9):Nat->Option b9
 |0=>none
 |n+1=>match n with
  |0=>f 0
  |n=>match DM f n with
   |some (.r a)=>match f n with
    |some (.r b)=>match R.same a b with
     |true=>some (.r a)
     |false=>none
    |_=>none
   |_=>none
theorem uF{f:Nat->Option b9}{a:b9}:∀ {n:Nat},DM f n=some a->∀i,i<n->f i=some a
 |0,h,_,_=>by cases h
 |1,h,i,hi=>by obtain rfl:i=0:=by omega
               exact h
 |n+2,h,i,hi=>by
  simp only[DM]at h
  split at h
  ·rename_i x hx
   split at h
   ·rename_i y hy
    split at h
    ·rename_i he
     have e:=R.bX he
     subst e
     rw[<- h]
     by_cases e:i=n+1
     ·subst e;exact hy
     ·exact uF hx i (by omega)
    ·cases h
   ·cases h
  ·cases h
noncomputable def v8(st:St)(dst:Option Nat)(kr:RO->Option b9)(v:V)(Δ:List (Nat×aa)):Option b9:=
 fK st.env dst v fun e=>lZ st.o Δ fun ob=>Nat.fc (st.nx+1) fun n=>kr (.ok ⟨e,ob,n⟩)
noncomputable def uG(x:Operand)(str:Bool)(P:Program)(_:Nat->FD)(_:iw P)(_:bJ)(st:St)(o:aT)(kr:RO->Option b9):Option b9:=
 match iL st.o.get (st.S.ev x)with
 |some (id,l)=>match str with
  |true=>none
  |false=>match l with
   |[]=>v8 st o.dst kr (.a8 [.d (.bool false)]) []
   |_=>DM (fun i=>match l[i]? with
    |some (k,x)=>v8 st o.dst kr (.a8 [.d (.bool true), .d k, .d x]) [(id, .kX (l.eraseIdx i) (some (k,x)))]
    |none=>none) l.length
 |none=>nj P st o kr
noncomputable def KT(op:Op):(P:Program)->(Nat->FD)->iw P->bJ->St->aT->(RO->Option b9)->Option b9:=
 match op with
 | .call c=>uE c
 | .panic x=>yV x
 | .next x str=>uG x str
 |_=>B2
noncomputable def DN(P:Program)(aI:Nat->FD)(md:iw P)(rec:bJ)(st:St)(o:aT)(kr:RO->Option b9):Option b9:=KT o.op P aI md rec st o kr
noncomputable def HL(next:St->Option b9)(kr:RO->Option b9):RO->Option b9:=fun r=>match r with| .ok st=>next st| .aH v st=>kr (.aH v st)
noncomputable def od(P:Program)(aI:Nat->FD)(md:iw P)(rec:bJ)(kr:RO->Option b9):List aT->St->Option b9
 |[],st=>kr (.ok st)
 |o::l,st=>match(match o.gd with
   |none=>some true
   |some (d,want)=>match st.env.get d with
    | .d (.bool b)=>some (b==want)
    | .a8 []=>some false
    |_=>none)with
  |some true=>DN P aI md rec st o (HL (od P aI md rec kr l) kr)
  |some false=>fK st.env o.dst (.a8 []) fun e=>Nat.fc (st.nx+1) fun n=>od P aI md rec kr l ⟨e,st.o,n⟩
  |none=>none
section
variable {P:Program}{aI:Nat->FD}{md:iw P}
noncomputable def cj(P:Program)(rec:bJ):Prop:=∀b rd n ic st k a,rec b rd n ic st k=some a->∀Q:et->S->Prop,(∀e st',k e st'=some a->Q e st'.S)->mf P n b rd ic Q st.S
theorem kT{rs:List ResultVar}{st:St}{kc:CR->Option b9}{a:b9}(h:sS P rs st kc=some a){K X:V->(Nat->aa)->Nat->Prop}(hr:∀r,kc r=some a->r.to K X):fG P rs K X .ret st.S:=by
 unfold sS at h
 unfold fG
 split at h
 ·rename_i v hv;simp only[hv];exact hr _ h
 ·rename_i vs hv hn
  simp only[hn]
  exact hr _ h
 ·cases h
theorem gA(aD:P.follows .mixedOrders=true)(aX:∀g,(aI g).Ok P g){rec:bJ}(aF:cj P rec){g:Nat}{args:List V}{o:Tr aa}{nx:Nat}{kc:CR->Option b9}{a:b9}(h:uz P aI rec g args o nx kc=some a){K X:V->(Nat->aa)->Nat->Prop}(hr:∀r,kc r=some a->r.to K X):
 jJ P g args o.get nx K X:=by
 have aG:=aX g
 unfold uz at h
 split at h
 ·rename_i n ic rs ht
  rw[ht]at aG
  split at h
  ·rename_i hl
   refine jJ.rz aD aG hl ?_
   refine aF _ _ _ _ _ _ _ h _ fun e st he=> ?_
   unfold xJ at he
   cases e with
   |normal=>exact kT he hr
   |ret=>exact kT he hr
   |aH v=>exact hr _ he
   |exit j=>cases he
  ·cases h
 ·rename_i n iB fL g' t dX rs m r0 r1 pJ ht
  rw[ht]at aG
  split at h
  ·rename_i hl
   refine jJ.uu aD aG.1 aG.2 hl (aF _ _ _ _ _ _ _ h _ fun e s1 he=> ?_)
   unfold rE at he
   cases e with
   |normal=>
    have hb:mf P n s1.nx false fL (qN P m r0 r1 pJ (dX.map s1.S.ev) rs K X) ⟨cN s1.env.get t (.func (.func g') [] (dX.map s1.S.ev)),s1.o.get,s1.nx⟩:=by
     have:=aF _ _ _ _ _ _ _ he (qN P m r0 r1 pJ (dX.map s1.S.ev) rs K X) (fun e s3 Ac=>by
      unfold uy at Ac
      split at Ac
      ·rename_i u hu
       split at Ac
       ·rename_i kA
        have KU:sP P m r0 r1 pJ (dX.map s1.S.ev) u s3.o.get s3.nx fun o nx=>fG P rs K X .ret ⟨s3.env.get,o,nx⟩:=by
         refine⟨kA,aF _ _ _ _ _ _ _ Ac _ fun e4 s4 DO=> ?_⟩
         unfold ux at DO
         cases e4 with
         |normal=>exact kT (st:=⟨s3.env,s4.o,s4.nx⟩) DO hr
         |ret=>exact kT (st:=⟨s3.env,s4.o,s4.nx⟩) DO hr
         |_=>cases DO
        cases e<;>simp only[BX,Option.some.injEq,reduceCtorEq]at hu<;>subst hu<;>exact KU
       ·cases Ac
      ·cases Ac)
     simp only[St.S,Tr.dY]at this
     exact this
    exact hb
   |_=>cases he
  ·cases h
 ·cases h
theorem uH{r:CR}{out:R}(ho:rF r=some out):r.to (fun v o _=>∃vs rs,v=(match vs with|[v]=>v|vs=> .a8 vs)/\aQ o vs=some rs/\out= .ret rs) (fun v o _=>∃x,cJ o v=some x/\out= .aH x):=by
 unfold rF at ho
 split at ho
 ·rename_i v o nx
  split at ho
  ·cases ho
  ·rename_i hv
   split at ho
   ·rename_i rs A9
    injection ho with ho;subst ho
    refine⟨l0 v,rs, ?_,A9,rfl⟩
    cases v with
    |a8 vs=>
     match vs,hv with
     |[],_=>rfl
     |[x],hv=>exact absurd rfl (hv x)
     |_::_::_,_=>rfl
    |_=>rfl
   ·cases ho
 ·split at ho
  ·rename_i x hx
   injection ho with ho;subst ho
   exact⟨x,hx,rfl⟩
  ·cases ho
theorem pN(aD:P.follows .mixedOrders=true)(aX:∀g,(aI g).Ok P g){rec:bJ}(aF:cj P rec){g:Nat}{ds:List D}{out:R}(h:uz P aI rec g (ds.map .d) (.e fun _=> .no) 0 pM=some (.r out)):c0 P g ds out:=by
 refine c0.im (gA aD aX aF h fun r hr=> ?_)
 obtain⟨x,hx,he⟩:=uA hr
 injection he with he;subst he
 exact uH hx
theorem oe(aD:P.follows .mixedOrders=true)(aX:∀g,(aI g).Ok P g){rec:bJ}(aF:cj P rec){g:Nat}{ds:List D}{out:R}(h:v7 P aI md rec g ds=some out):c0 P g ds out:=by
 unfold v7 at h
 split at h
 ·rename_i KW ho
  injection h with h;subst h
  exact md.ok _ _ _ ho
 ·split at h
  ·rename_i x hr;injection h with h;subst h;exact pN aD aX aF hr
  ·cases h
theorem pO(aD:P.follows .mixedOrders=true)(aX:∀g,(aI g).Ok P g){rec:bJ}(aF:cj P rec){g:Nat}{args:List V}{o:Tr aa}{nx:Nat}{kc:CR->Option b9}{a:b9}(h:rG P aI md rec g args o nx kc=some a){K X:V->(Nat->aa)->Nat->Prop}(hr:∀r,kc r=some a->r.to K X):
 xq P g args o.get nx K X:=by
 unfold rG at h
 split at h
 ·rename_i ds Lk dg
  split at h
  ·rename_i out uI
   have hP:=oe aD aX aF uI
   refine .inl ⟨ds,dg,out,hP, ?_⟩
   unfold xK at h
   split at h
   ·rename_i hf
    refine .inr (.inl ⟨hf, ?_⟩)
    cases out<;>exact hr _ h
   ·split at h
    ·rename_i hf
     refine .inr (.inr ⟨hf, ?_⟩)
     rw[<- eA]
     cases out<;>exact hr _ h
    ·refine .inl ?_
     rw[<- eA]
     cases out<;>exact hr _ h
  ·cases h
 ·exact .inr (gA aD aX aF h hr)
theorem v9(aD:P.follows .mixedOrders=true){rec:bJ}(aF:cj P rec){id:Nat}{args:List V}{o:Tr aa}{nx:Nat}{kc:CR->Option b9}{a:b9}(h:yU P rec id args o nx kc=some a){K X:V->(Nat->aa)->Nat->Prop}(hr:∀r,kc r=some a->r.to K X):
 eo P id args o.get nx K X:=by
 unfold yU at h
 split at h
 ·rename_i nf n env ps iB fL st pd ho
  split at h
  ·rename_i hc
   obtain⟨rfl,cu,E2,hl⟩:=hc
   refine eo.rz aD ho cu E2 hl ?_
   refine aF _ _ _ _ _ _ _ h _ fun e s1 he=> ?_
   unfold rH at he
   cases e with
   |normal=>
    simp only at he
    split at he
    ·rename_i nf m en p c d pd kP
     refine⟨nf,m,en,p,c,d,pd,kP, ?_⟩
     have:=aF _ _ _ _ _ _ _ he (um id K X) (fun e s2 h2=>by
      unfold uD at h2
      split at h2
      ·exact hr _ h2
      ·rename_i xk
       split at h2
       ·rename_i B3 m' Fb p' c' d' st' pd' yW
        cases e with
        |aH v=>cases h2
        |normal=>have h3:=hr _ h2;simp only[CR.to,Tr.dY]at h3;exact⟨B3,m',Fb,p',c',d',st',pd',yW,h3⟩
        |ret=>have h3:=hr _ h2;simp only[CR.to,Tr.dY]at h3;exact⟨B3,m',Fb,p',c',d',st',pd',yW,h3⟩
        |exit j=>have h3:=hr _ h2;simp only[CR.to,Tr.dY]at h3;exact⟨B3,m',Fb,p',c',d',st',pd',yW,h3⟩
       ·cases h2)
     simp only[St.S,Tr.dY]at this
     exact this
    ·cases he
   |aH v=>exact hr _ he
   |_=>cases he
  ·cases h
 ·cases h
theorem l3{st:St}{o:aT}{kr:RO->Option b9}{a:b9}(h:nj P st o kr=some a){K:S->Prop}{X:V->S->Prop}(hr:∀r,kr r=some a->r.to K X):match dG P st.S st.S.nx o.op with
 |some (v,Δ,_)=>K ⟨ay st.S.env o.dst v,put st.S.o Δ,st.S.nx+1⟩
 |none=>False:=by
 unfold nj at h
 split at h
 ·rename_i v Δ rd he
  have he:=rD he
  simp only[ed,gz,Nat.bb]at h
  have hr:=hr _ h
  simp only[RO.to,St.S,cf,eA]at hr
  have qV:dG P st.S st.S.nx o.op=some (v,Δ,rd):=he
  simp only[qV]
  exact hr
 ·cases h
theorem rI{st:St}{dst:Option Nat}{kr:RO->Option b9}{v:V}{Δ:List (Nat×aa)}{a:b9}(h:v8 st dst kr v Δ=some a){K:S->Prop}{X:V->S->Prop}(hr:∀r,kr r=some a->r.to K X):K ⟨ay st.S.env dst v,put st.S.o Δ,st.S.nx+1⟩:=by
 unfold v8 at h
 simp only[ed,gz,Nat.bb]at h
 have hr:=hr _ h
 simp only[RO.to,St.S,cf,eA]at hr
 exact hr
theorem yX(aD:P.follows .mixedOrders=true)(aX:∀g,(aI g).Ok P g){rec:bJ}(aF:cj P rec){st:St}{o:aT}{kr:RO->Option b9}{a:b9}(h:DN P aI md rec st o kr=some a){K:S->Prop}{X:V->S->Prop}(hr:∀r,kr r=some a->r.to K X):yr P st.S o X K:=by
 have cr:∀r,B1 st o.dst kr r=some a->r.to (fun v o' nx'=>K ⟨ay st.S.env o.dst v,o',nx'⟩) (fun v o' nx'=>X v ⟨st.S.env,o',nx'⟩):=by
  intro r hx
  unfold B1 at hx
  split at hx
  ·simp only[ed,Nat.bb]at hx
   have hr:=hr _ hx
   simp only[RO.to,St.S,cf]at hr
   exact hr
  ·exact hr _ hx
 unfold DN at h
 unfold yr
 cases bE:o.op
 case call c=>
  rw[bE]at h
  have h:uE c P aI md rec st o kr=some a:=h
  unfold uE at h
  cases hf:c.callee
  case value f=>
   simp only[hf]at h|-
   split at h
   ·rename_i g first cap hv
    simp only[hv]
    have:=pO aD aX aF h cr
    rcases this with⟨ds,dg,hP⟩|hC
    ·have yY:aQ st.S.o (first++List.map st.S.ev c.args.toList++cap)=some ds:=dg
     simp only[yY]
     exact .inl hP
    ·split
     ·exact .inr (.inl hC)
     ·exact .inl hC
   ·rename_i id hv
    simp only[hv]
    exact v9 aD aF h cr
   ·cases h
  case invoke r m=>
   simp only[hf]at h|-
   split at h
   ·rename_i g y hv
    simp only[hv]
    exact pO aD aX aF h cr
   ·cases h
  all_goals
   simp only[hf]at h|-
   have:=l3 h hr
   rw[bE]at this
   exact this
 case panic x=>
  rw[bE]at h
  have h:yV x P aI md rec st o kr=some a:=h
  unfold yV at h
  split at h
  ·rename_i hv;simp only[hv];exact hr _ h
  ·rename_i hv;simp only[hv];exact hr _ h
  ·cases h
 case next x str=>
  rw[bE]at h
  have h:uG x str P aI md rec st o kr=some a:=h
  unfold uG at h
  have hl:iL st.S.o (st.S.ev x)=iL st.o.get (st.S.ev x):=rfl
  simp only[hl]
  split at h
  ·rename_i id l ah
   simp only[ah]
   cases str with
   |true=>cases h
   |false=>
    refine⟨rfl,fun e=> ?_,fun i k y e=> ?_⟩
    ·subst e
     exact rI h hr
    ·cases l with
     |nil=>simp at e
     |cons p l=>
      have:=uF h i (List.getElem?_eq_some_iff.1 e).1
      rw[e]at this
      exact rI this hr
  ·rename_i ah
   simp only[ah]
   have:=l3 h hr
   rw[bE]at this
   exact this
 all_goals
  have h2:nj P st o kr=some a:=by rw[bE]at h;exact h
  have:=l3 h2 hr
  rw[bE]at this
  exact this
theorem kU(aD:P.follows .mixedOrders=true)(aX:∀g,(aI g).Ok P g){rec:bJ}(aF:cj P rec){kr:RO->Option b9}{a:b9}{K:S->Prop}{X:V->S->Prop}(hr:∀r,kr r=some a->r.to K X):∀ (l:List aT) (st:St),od P aI md rec kr l st=some a->jO P X K l st.S
 |[],st,h=>hr (.ok st) h
 |o::l,st,h=>by
  simp only[od,ed,Nat.bb]at h
  simp only[jO]
  have op:DN P aI md rec st o (HL (od P aI md rec kr l) kr)=some a->yr P st.S o X (jO P X K l):=by
   intro h
   refine yX aD aX aF h fun r HM=> ?_
   cases r with
   |ok yZ=>exact kU aD aX aF hr l yZ HM
   |aH v yZ=>exact hr (.aH v yZ) HM
  have sk:od P aI md rec kr l ⟨kg st.env o.dst (.a8 []),st.o,st.nx+1⟩=some a->jO P X K l ⟨ay st.S.env o.dst (.a8 []),st.S.o,st.S.nx+1⟩:=by
   intro h
   have:=kU aD aX aF hr l _ h
   simp only[St.S,cf]at this
   exact this
  cases hg:o.gd with
  |none=>simp only[hg]at h;exact op h
  |some p=>
   obtain⟨d,want⟩:=p
   simp only[hg]at h
   have he:st.S.env d=st.env.get d:=rfl
   simp only[he]
   cases hv:st.env.get d with
   |d x=>
    cases x with
    |bool b=>
     simp only[hv]at h|-
     by_cases e:b=want
     ·subst e
      simp only[beq_self_eq_true]at h
      rw[if_pos rfl];exact op h
     ·have:(b==want)=false:=by simpa using e
      rw[this]at h
      rw[if_neg e];exact sk h
    |_=>simp[hv]at h
   |a8 vs=>
    cases vs with
    |nil=>simp only[hv]at h|-;exact sk h
    |cons a aO=>simp[hv]at h
   |_=>simp[hv]at h
end
end Go.Proofs.YtbmnikpknlkbkaaGreat
namespace Go.Proofs.YtbmnikpknlkbkaaGreat
theorem qC.y0 {P:Program}{g:FuncId}{ds:List D}{o:Nat->aa}{fr:Nat}{ty:TypeId}{sz:Nat}{es:List D}
 (h:jJ P g (ds.map .d) (fun _=> .no) 0 (fun v o1 _=>(∃j ep,v= .osl j ep/\o1 j= .arr ep ty sz es)\/(v= .b6/\es=[]/\0<sz)) (fun _ _ _=>False)):
 qC P g (ds.map .d) [] o fr (.osl fr 0) [(fr, .arr 0 ty sz es)]:=by
 refine⟨h.1,fun o' us M φ w vals _ cz hH hd=> ?_⟩
 let a6:Place:=fun _=> .nilFunc
 have nP:∀b, ¬bc a6 (hp (fun _=> .no) 0) b:=by rintro b ⟨id,hl,_⟩;simp[hp,aa.live]at hl
 have hM:∀b,ad M φ ⟨o',us⟩ b->b<w.heap.size:=fun b hb=>hb.elim (hH.oy b) fun hl=>(hH.ours b hl).2
 have mH:=(V.aV _ _).1 hd
 refine(h.2 (ad M φ ⟨o',us⟩) a6 w vals (gO a6 hM) ((V.aV _ _).2 (D.aw (w:=w) (w':=w) (B:=ad M φ ⟨o',us⟩) (fun b _ hB=>⟨rfl,fun h=>h.elim hB (nP b)⟩) _ _ mH))).mono ?_
 rintro e w' ⟨dO,o1,n1,v,k1,k2,k3⟩
 have hk:cp (fun _=>False) w w':=⟨k2.aU.os,k2.aU.tape,k2.aU.output,k2.aU.size,fun k hk _=>k2.aU.block k hk (nP k)⟩
 have A5:(⟨o',us⟩:Hp).put [(fr, .arr 0 ty sz es)]=⟨put o' [(fr, .arr 0 ty sz es)],fun id=>us id\/id=fr⟩:=by
  simp only[Hp.put]
  congr 1
  funext id
  simp
 have fin:∀ (val:Value) (xs:List Value),(∀b,cI val=some b->w.heap.size<=b/\b<w'.heap.size)->0<sz->w'.ownsRow 0 ty sz val es.length xs->
  (dm (ad M (cN φ fr val) ((⟨o',us⟩:Hp).put [(fr, .arr 0 ty sz es)])) w' sz es xs)->
  val.oneCell'=true->
  ∃ai,af M ai ⟨put o' [(fr, .arr 0 ty sz es)],fun id=>us id\/id=fr⟩ w'/\Trans φ ⟨o',us⟩ w ai ⟨put o' [(fr, .arr 0 ty sz es)],fun id=>us id\/id=fr⟩ w'/\
   ∃uJ,Ending.returned val= .returned uJ/\V.den (ad M ai ⟨put o' [(fr, .arr 0 ty sz es)],fun id=>us id\/id=fr⟩) ai ⟨put o' [(fr, .arr 0 ty sz es)],fun id=>us id\/id=fr⟩ w' (.osl fr 0) uJ:=by
  intro val xs eh cl cq aL Fc
  have jj:=ei hH hk cz (.arr 0 ty sz es) val eh (by
   unfold au
   rw[show((⟨o',us⟩:Hp).put [(fr, .arr 0 ty sz es)]).o fr= .arr 0 ty sz es by simp]
   refine⟨cl,xs, ?_,aL⟩
   rw[show cN φ fr val fr=val by simp]
   exact cq)
  have B4:=cF (φ:=φ) (H:=⟨o',us⟩) hk cz (.arr 0 ty sz es) val (fun b hb=>(eh b hb).1)
  rw[A5]at jj B4
  refine⟨cN φ fr val,jj,B4,val,rfl,Fc, .inr rfl,fun e he=> ?_⟩
  have qV:0=e:=by
   have:(put o' [(fr,aa.arr 0 ty sz es)] fr).aN=some 0:=by simp[put,aa.aN]
   rw[show(⟨put o' [(fr, .arr 0 ty sz es)],fun id=>us id\/id=fr⟩:Hp).o fr=put o' [(fr, .arr 0 ty sz es)] fr from rfl,this]at he
   injection he
  exact⟨by omega,fun _=>by simp⟩
 cases e with
 |outgrown=>exact k3.elim
 |panicked ch=>obtain⟨_,_,_,h⟩:=k3;exact h.elim
 |returned val=>
  obtain⟨g1,⟨j,ep,rfl,hj⟩|⟨rfl,rfl,cl⟩⟩:=k3
  ·obtain⟨v0,v1,v2⟩:=g1
   have dP:val=dO j:=(v2 ep (by show(o1 j).aN=some ep;rw[hj];rfl)).2 rfl
   have bP:∀b,cI val=some b->bc dO (hp o1 n1) b:=fun b hb=>⟨j,by show(o1 j).live=true;rw[hj];rfl,by rw[<- dP];exact hb⟩
   have eh:∀b,cI val=some b->w.heap.size<=b/\b<w'.heap.size:=fun b hb=>⟨(k2.grow b (bP b hb)).resolve_left (nP b),(k1.ours b (bP b hb)).2⟩
   have y5:=k1.ok j
   unfold au at y5
   rw[show(hp o1 n1).o j= .arr ep ty sz es from hj]at y5
   obtain⟨cl,xs,cq,aL⟩:=y5
   have KY:∀b,ad M (cN φ fr val) ((⟨o',us⟩:Hp).put [(fr, .arr 0 ty sz es)]) b->ad (ad M φ ⟨o',us⟩) dO (hp o1 n1) b:=by
    rintro b (hb|⟨id,hl,hb⟩)
    ·exact .inl (.inl hb)
    ·by_cases e:id=fr
     ·subst e
      simp at hb
      exact .inr (bP b hb)
     ·simp[e]at hl hb
      exact .inl (.inr ⟨id,hl,hb⟩)
   exact fin val xs eh cl (by rw[dP];exact cq) (aL.mono (w:=w') (w':=w') (fun b _ hB=>⟨rfl,fun h=>hB (KY b h)⟩)) v0
  ·have g1:val= .slice none 0 0:=g1
   subst g1
   exact fin _ [] (fun b hb=>by cases hb) cl (World.ownsRow_nil w' 0 ty sz) ⟨[],rfl,by simp,rfl⟩ rfl
theorem qC.wa {P:Program}{g:FuncId}{args:List V}{ds:List D}{o:Nat->aa}{fr:Nat}{ty:TypeId}{sz:Nat}{es:List D}
 (dg:aQ o args=some ds) (iy:D.fb es=true) (h:jJ P g (ds.map .d) (fun _=> .no) 0 (fun v o1 _=>(∃j ep,v= .osl j ep/\o1 j= .arr ep ty sz es)\/(v= .b6/\es=[]/\0<sz)) (fun _ _ _=>False)):
 qC P g args (V.aB args) o fr (.osl fr 0) [(fr, .arr 0 ty sz es)]:=by
 refine⟨h.1,fun o' us M φ w vals HN cz hH hd=> ?_⟩
 obtain⟨f1,f2,f3,f4,f5⟩:=bK hH (V.aB args) (fun id ah=>(HN id ah).2)
 generalize Ll:(⟨o',us⟩:Hp).put (bD (⟨o',us⟩:Hp).o (V.aB args))=HF at f1 f2 f3
 let a6:Place:=fun _=> .nilFunc
 have nP:∀b, ¬bc a6 (hp (fun _=> .no) 0) b:=by rintro b ⟨id,hl,_⟩;simp[hp,aa.live]at hl
 have hM:∀b,ad M φ HF b->b<w.heap.size:=fun b hb=>hb.elim (f1.oy b) fun hl=>(f1.ours b hl).2
 have mH:D.aj (ad M φ HF) w ds vals.toList:=bz f1 args ds _ (fun id ah=>by rw[f3 id ah];show(o' id).fz=(o id).fz;rw[(HN id ah).1]) dg (V.aw f2 _ _ hd)
 refine(h.2 (ad M φ HF) a6 w vals (gO a6 hM) ((V.aV _ _).2 (D.aw (w:=w) (w':=w) (B:=ad M φ HF) (fun b _ hB=>⟨rfl,fun h=>h.elim hB (nP b)⟩) _ _ mH))).mono ?_
 rintro e w' ⟨dO,o1,n1,v,k1,k2,k3⟩
 have hk:cp (fun _=>False) w w':=⟨k2.aU.os,k2.aU.tape,k2.aU.output,k2.aU.size,fun k hk _=>k2.aU.block k hk (nP k)⟩
 have A5:(⟨o',us⟩:Hp).put [(fr, .arr 0 ty sz es)]=⟨put o' [(fr, .arr 0 ty sz es)],fun id=>us id\/id=fr⟩:=by
  simp only[Hp.put]
  congr 1
  funext id
  simp
 have fin:∀ (val:Value) (xs:List Value),(∀b,cI val=some b->w.heap.size<=b/\b<w'.heap.size)->0<sz->w'.ownsRow 0 ty sz val es.length xs->
  (dm (ad M (cN φ fr val) ((⟨o',us⟩:Hp).put [(fr, .arr 0 ty sz es)])) w' sz es xs)->
  val.oneCell'=true->
  ∃ai,af M ai ⟨put o' [(fr, .arr 0 ty sz es)],fun id=>us id\/id=fr⟩ w'/\Trans φ ⟨o',us⟩ w ai ⟨put o' [(fr, .arr 0 ty sz es)],fun id=>us id\/id=fr⟩ w'/\
   ∃uJ,Ending.returned val= .returned uJ/\V.den (ad M ai ⟨put o' [(fr, .arr 0 ty sz es)],fun id=>us id\/id=fr⟩) ai ⟨put o' [(fr, .arr 0 ty sz es)],fun id=>us id\/id=fr⟩ w' (.osl fr 0) uJ:=by
  intro val xs eh cl cq aL Fc
  have jj:=ei hH hk cz (.arr 0 ty sz es) val eh (by
   unfold au
   rw[show((⟨o',us⟩:Hp).put [(fr, .arr 0 ty sz es)]).o fr= .arr 0 ty sz es by simp]
   refine⟨cl,xs, ?_,aL⟩
   rw[show cN φ fr val fr=val by simp]
   exact cq)
  have B4:=cF (φ:=φ) (H:=⟨o',us⟩) hk cz (.arr 0 ty sz es) val (fun b hb=>(eh b hb).1)
  rw[A5]at jj B4
  refine⟨cN φ fr val,jj,B4,val,rfl,Fc, .inr rfl,fun e he=> ?_⟩
  have qV:0=e:=by
   have:(put o' [(fr,aa.arr 0 ty sz es)] fr).aN=some 0:=by simp[put,aa.aN]
   rw[show(⟨put o' [(fr, .arr 0 ty sz es)],fun id=>us id\/id=fr⟩:Hp).o fr=put o' [(fr, .arr 0 ty sz es)] fr from rfl,this]at he
   injection he
  exact⟨by omega,fun _=>by simp⟩
 cases e with
 |outgrown=>exact k3.elim
 |panicked ch=>obtain⟨_,_,_,h⟩:=k3;exact h.elim
 |returned val=>
  obtain⟨g1,⟨j,ep,rfl,hj⟩|⟨rfl,rfl,cl⟩⟩:=k3
  ·obtain⟨v0,v1,v2⟩:=g1
   have dP:val=dO j:=(v2 ep (by show(o1 j).aN=some ep;rw[hj];rfl)).2 rfl
   have bP:∀b,cI val=some b->bc dO (hp o1 n1) b:=fun b hb=>⟨j,by show(o1 j).live=true;rw[hj];rfl,by rw[<- dP];exact hb⟩
   have eh:∀b,cI val=some b->w.heap.size<=b/\b<w'.heap.size:=fun b hb=>⟨(k2.grow b (bP b hb)).resolve_left (nP b),(k1.ours b (bP b hb)).2⟩
   have y5:=k1.ok j
   unfold au at y5
   rw[show(hp o1 n1).o j= .arr ep ty sz es from hj]at y5
   obtain⟨cl,xs,cq,aL⟩:=y5
   obtain⟨evs,e1,e2,e3⟩:=aL
   exact fin val xs eh cl (by rw[dP];exact cq) ⟨evs,e1,e2,D.fA _ _ iy e3⟩ v0
  ·have g1:val= .slice none 0 0:=g1
   subst g1
   exact fin _ [] (fun b hb=>by cases hb) cl (World.ownsRow_nil w' 0 ty sz) ⟨[],rfl,by simp,rfl⟩ rfl
theorem qC.wb {P:Program}{g:FuncId}{args:List V}{ds:List D}{o0 o:Nat->aa}{rd:List Nat}{fr:Nat}{v:V}{Δ:List (Nat×aa)}(ah:V.aB args=[])(dg:aQ o0 args=some ds)
 (h:qC P g (ds.map .d) rd o fr v Δ):qC P g args rd o fr v Δ:=
 ⟨h.1,fun o' us M φ w vals h1 h2 hH hd=>h.2 o' us M φ w vals h1 h2 hH ((V.aV _ _).2 (bz hH args ds _ (by rw[ah];intro id h;cases h) dg hd))⟩
end Go.Proofs.YtbmnikpknlkbkaaGreat
