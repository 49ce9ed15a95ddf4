/-
  A PART OF THE PROOF. Conditions: none.
-/
import Derived.Test.YtbmnikpknlkbkaaGreatEc9
set_option linter.unusedSimpArgs false
set_option linter.unusedVariables false
namespace Go.Proofs.YtbmnikpknlkbkaaGreat
inductive Tr (α:Type) where
 |e (f:Nat->α)
 |n (x:α) (l r:Tr α)
noncomputable def Tr.get {α:Type}(t:Tr α):Nat->α:=
 Tr.rec (motive:=fun _=>Nat->α) (fun f=>f) (fun x _ _ l r k=>Bool.rec (Bool.rec (r (Nat.sub (Nat.div k 2) 1)) (l (Nat.div k 2)) (Nat.beq (Nat.mod k 2) 1)) x (Nat.beq k 0)) t
theorem Tr.uY {α:Type}(f:Nat->α):(Tr.e f).get=f:=rfl
noncomputable def Tr.n7 {α:Type}(x:α):Nat->Tr α->Nat->Tr α
 |0,t,k=> .e (aY t.get k x)
 |d+1, .e f,k=>match Nat.beq k 0 with
  |true=> .n x (.e fun i=>f (2*i+1)) (.e fun i=>f (2*i+2))
  |false=>match Nat.beq (k%2) 1 with
   |true=> .n (f 0) (Tr.n7 x d (.e fun i=>f (2*i+1)) (k/2)) (.e fun i=>f (2*i+2))
   |false=> .n (f 0) (.e fun i=>f (2*i+1)) (Tr.n7 x d (.e fun i=>f (2*i+2)) (k/2 - 1))
 |d+1, .n y l r,k=>match Nat.beq k 0 with
  |true=> .n x l r
  |false=>match Nat.beq (k%2) 1 with
   |true=> .n y (Tr.n7 x d l (k/2)) r
   |false=> .n y l (Tr.n7 x d r (k/2 - 1))
noncomputable def Tr.set {α:Type}(t:Tr α)(k:Nat)(x:α):Tr α:=Tr.n7 x 24 t k
theorem Tr.n8 {α:Type}{x:α}{l r:Tr α}{k:Nat}:(Tr.n x l r).get k=if k=0 then x else if k%2=1 then l.get (k/2)else r.get (k/2 - 1):=by
 show @Bool.rec (fun _=>α) (@Bool.rec (fun _=>α) (r.get (k/2 - 1)) (l.get (k/2)) (Nat.beq (k%2) 1)) x (Nat.beq k 0)=_
 by_cases h:k=0
 ·subst h;rfl
 ·have:Nat.beq k 0=false:=by cases k with|zero=>exact absurd rfl h|succ k=>rfl
  simp only[this,h,if_false]
  by_cases h2:k%2=1
  ·simp[h2]
  ·have:Nat.beq (k%2) 1=false:=by
    cases hb:Nat.beq (k%2) 1 with
    |false=>rfl
    |true=>exact absurd (Nat.eq_of_beq_eq_true hb) h2
   simp[h2,this]
theorem Tr.jk {α:Type}(x:α):∀ (d:Nat) (t:Tr α) (k:Nat),(Tr.n7 x d t k).get=aY t.get k x
 |0,t,k=>rfl
 |d+1, .e f,k=>by
  funext i
  simp only[Tr.n7]
  have hb:∀a b:Nat,Nat.beq a b=decide (a=b):=fun a b=>by
   cases h:Nat.beq a b with
   |true=>simp[Nat.eq_of_beq_eq_true h]
   |false=>simp[Nat.ne_of_beq_eq_false h]
  rw[hb,hb]
  by_cases h:k=0
  ·subst h
   simp only[decide_true,Tr.n8,az]
   by_cases hi:i=0
   ·simp[hi]
   ·simp only[hi,if_false]
    by_cases h2:i%2=1
    ·simp only[h2,if_true,Tr.uY];congr 1;omega
    ·simp only[h2,if_false,Tr.uY];congr 1;omega
  ·simp only[h,decide_false]
   by_cases hk:k%2=1
   ·simp only[hk,decide_true,Tr.n8,Tr.jk x d,az,Tr.uY]
    by_cases hi:i=0
    ·subst hi;simp[Ne.symm h]
    ·simp only[hi,if_false]
     by_cases h2:i%2=1
     ·simp only[h2,if_true]
      have e1:2*(i/2)+1=i:=by omega
      rw[e1]
      by_cases e:i=k
      ·simp[e]
      ·rw[if_neg e,if_neg (by omega)]
     ·simp only[h2,if_false]
      rw[if_neg (by intro e;subst e;exact h2 hk)]
      congr 1;omega
   ·simp only[hk,decide_false,Tr.n8,Tr.jk x d,az,Tr.uY]
    by_cases hi:i=0
    ·subst hi;simp[Ne.symm h]
    ·simp only[hi,if_false]
     by_cases h2:i%2=1
     ·simp only[h2,if_true]
      rw[if_neg (by intro e;subst e;exact hk h2)]
      congr 1;omega
     ·simp only[h2,if_false]
      have e1:2*(i/2 - 1)+2=i:=by omega
      rw[e1]
      by_cases e:i=k
      ·simp[e]
      ·rw[if_neg e,if_neg (by omega)]
 |d+1, .n y l r,k=>by
  funext i
  simp only[Tr.n7]
  have hb:∀a b:Nat,Nat.beq a b=decide (a=b):=fun a b=>by
   cases h:Nat.beq a b with
   |true=>simp[Nat.eq_of_beq_eq_true h]
   |false=>simp[Nat.ne_of_beq_eq_false h]
  rw[hb,hb]
  by_cases h:k=0
  ·subst h
   simp only[decide_true,Tr.n8,az]
   by_cases hi:i=0
   ·simp[hi]
   ·simp[hi]
  ·simp only[h,decide_false]
   by_cases hk:k%2=1
   ·simp only[hk,decide_true,Tr.n8,Tr.jk x d,az]
    by_cases hi:i=0
    ·subst hi;simp[Ne.symm h]
    ·simp only[hi,if_false]
     by_cases h2:i%2=1
     ·simp only[h2,if_true]
      by_cases e:i=k
      ·simp[e]
      ·rw[if_neg e,if_neg (by omega)]
     ·simp only[h2,if_false]
      rw[if_neg (by intro e;subst e;exact h2 hk)]
   ·simp only[hk,decide_false,Tr.n8,Tr.jk x d,az]
    by_cases hi:i=0
    ·subst hi;simp[Ne.symm h]
    ·simp only[hi,if_false]
     by_cases h2:i%2=1
     ·simp only[h2,if_true]
      rw[if_neg (by intro e;subst e;exact hk h2)]
     ·simp only[h2,if_false]
      by_cases e:i=k
      ·simp[e]
      ·rw[if_neg e,if_neg (by omega)]
theorem Tr.fj {α:Type}(t:Tr α)(k:Nat)(x:α):(t.set k x).get=aY t.get k x:=Tr.jk x 24 t k
noncomputable def Nat.fc {β:Type}(n:Nat)(c:Nat->β):β:=Nat.rec (motive:=fun _=>β) (c 0) (fun m _=>c (Nat.succ m)) n
theorem Nat.bY {β:Type}(n:Nat)(c:Nat->β):Nat.fc n c=c n:=by cases n<;>rfl
noncomputable def Int.fc {β:Type}(n:Int)(c:Int->β):β:=Int.rec (motive:=fun _=>β) (fun m=>Nat.fc m fun m=>c (.ofNat m)) (fun m=>Nat.fc m fun m=>c (.negSucc m)) n
theorem Int.bY {β:Type}(n:Int)(c:Int->β):Int.fc n c=c n:=by cases n<;>simp only[Int.fc,Nat.bY]
mutual
noncomputable def D.fc {β:Type}:D->(D->β)->β
 | .int k n,c=>Int.fc n fun n=>c (.int k n)
 | .bool b,c=>match b with|true=>c (.bool true)|false=>c (.bool false)
 | .agg l,c=>D.n9 l fun l=>c (.agg l)
 | .sl l,c=>D.n9 l fun l=>c (.sl l)
 | .iface t x,c=>D.fc x fun x=>c (.iface t x)
 | .str s,c=>c (.str s)
 | .dS,c=>c .dS
 | .fe,c=>c .fe
 | .aM,c=>c .aM
 | .cY,c=>c .cY
 | .mp ks vs,c=>D.n9 ks fun ks=>D.n9 vs fun vs=>c (.mp ks vs)
noncomputable def D.n9 {β:Type}:List D->(List D->β)->β
 |[],c=>c []
 |x::xs,c=>D.fc x fun x=>D.n9 xs fun xs=>c (x::xs)
end
mutual
theorem D.bY {β:Type}:∀ (x:D) (c:D->β),D.fc x c=c x
 | .int k n,c=>by simp only[D.fc,Int.bY]
 | .bool b,c=>by cases b<;>rfl
 | .agg l,c=>by simp only[D.fc,D.dH l]
 | .sl l,c=>by simp only[D.fc,D.dH l]
 | .iface t x,c=>by simp only[D.fc,D.bY x]
 | .mp ks vs,c=>by simp only[D.fc,D.dH ks,D.dH vs]
 | .str _,_| .dS,_| .fe,_| .aM,_| .cY,_=>by simp only[D.fc]
theorem D.dH {β:Type}:∀ (x:List D) (c:List D->β),D.n9 x c=c x
 |[],c=>by simp only[D.n9]
 |x::xs,c=>by simp only[D.n9,D.bY x,D.dH xs]
end
mutual
noncomputable def V.fc {β:Type}:V->(V->β)->β
 | .d x,c=>D.fc x fun x=>c (.d x)
 | .agg l,c=>V.n9 l fun l=>c (.agg l)
 | .bI l,c=>V.n9 l fun l=>c (.bI l)
 | .ptr i o,c=>Nat.fc i fun i=>Nat.fc o fun o=>c (.ptr i o)
 | .osl i o,c=>Nat.fc i fun i=>Nat.fc o fun o=>c (.osl i o)
 | .pe a b i j k,c=>Nat.fc a fun a=>Nat.fc b fun b=>Nat.fc i fun i=>Nat.fc j fun j=>Nat.fc k fun k=>c (.pe a b i j k)
 | .pp l o,c=>D.n9 l fun l=>Nat.fc o fun o=>c (.pp l o)
 | .func f a b,c=>V.n9 a fun a=>V.n9 b fun b=>c (.func f a b)
 | .iface t x,c=>V.fc x fun x=>c (.iface t x)
 | .jT l,c=>D.n9 l fun l=>c (.jT l)
 | .nk i j k,c=>Nat.fc i fun i=>Nat.fc j fun j=>Nat.fc k fun k=>c (.nk i j k)
 | .mp i,c=>Nat.fc i fun i=>c (.mp i)
 | .js i,c=>Nat.fc i fun i=>c (.js i)
 | .aI,c=>c .aI
 | .aE,c=>c .aE
 | .dx,c=>c .dx
noncomputable def V.n9 {β:Type}:List V->(List V->β)->β
 |[],c=>c []
 |x::xs,c=>V.fc x fun x=>V.n9 xs fun xs=>c (x::xs)
end
mutual
theorem V.bY {β:Type}:∀ (x:V) (c:V->β),V.fc x c=c x
 | .d x,c=>by simp only[V.fc,D.bY]
 | .agg l,c=>by simp only[V.fc,V.dH l]
 | .bI l,c=>by simp only[V.fc,V.dH l]
 | .pp l o,c=>by simp only[V.fc,D.dH,Nat.bY]
 | .func f a b,c=>by simp only[V.fc,V.dH a,V.dH b]
 | .iface t x,c=>by simp only[V.fc,V.bY x]
 | .jT l,c=>by simp only[V.fc,D.dH]
 | .ptr _ _,_| .osl _ _,_| .pe _ _ _ _ _,_| .nk _ _ _,_| .mp _,_| .js _,_| .aI,_| .aE,_| .dx,_=>by simp only[V.fc,Nat.bY]
theorem V.dH {β:Type}:∀ (x:List V) (c:List V->β),V.n9 x c=c x
 |[],c=>by simp only[V.n9]
 |x::xs,c=>by simp only[V.n9,V.bY x,V.dH xs]
end
section
variable {β:Type}
noncomputable def F4(k:IntKind)(n:Int)(c:V->β):β:=Int.fc n fun n=>c (.d (.int k n))
noncomputable def F5(b:Bool)(c:V->β):β:= @Bool.rec (fun _=>β) (c (.d (.bool false))) (c (.d (.bool true))) b
noncomputable def CY(x:D)(c:V->β):β:=D.fc x fun x=>c (.d x)
noncomputable def vD(x:D):(V->β)->β:=match x with| .int k n=>F4 k n| .bool b=>F5 b|x=>CY x
noncomputable def F6(i o:Nat)(c:V->β):β:=Nat.fc i fun i=>Nat.fc o fun o=>c (.ptr i o)
noncomputable def F7(i o:Nat)(c:V->β):β:=Nat.fc i fun i=>Nat.fc o fun o=>c (.osl i o)
noncomputable def LX(a b i j k:Nat)(c:V->β):β:=Nat.fc a fun a=>Nat.fc b fun b=>Nat.fc i fun i=>Nat.fc j fun j=>Nat.fc k fun k=>c (.pe a b i j k)
noncomputable def V.EA (v:V):(V->β)->β:=match v with| .d x=>vD x| .ptr i o=>F6 i o| .osl i o=>F7 i o| .pe a b i j k=>LX a b i j k|v=>V.fc v
theorem V.CZ (v:V)(c:V->β):V.EA v c=c v:=by
 cases v
 case d x=>
  cases x
  case int k n=>simp only[V.EA,vD,F4,Int.bY]
  case bool b=>cases b<;>rfl
  all_goals exact D.bY _ _
 case ptr i o=>simp only[V.EA,F6,Nat.bY]
 case osl i o=>simp only[V.EA,F7,Nat.bY]
 case pe a b i j k=>simp only[V.EA,LX,Nat.bY]
 all_goals exact V.bY _ _
end
noncomputable def EB{β:Type}:List (D×D)->(List (D×D)->β)->β
 |[],c=>c []
 |(a,b)::l,c=>D.fc a fun a=>D.fc b fun b=>EB l fun l=>c ((a,b)::l)
theorem x9{β:Type}:∀ (x:List (D×D)) (c:List (D×D)->β),EB x c=c x
 |[],c=>rfl
 |(a,b)::l,c=>by simp only[EB,D.bY,x9 l]
noncomputable def aa.fc {β:Type}(x:aa)(c:aa->β):β:=
 match x with
 | .row cs=>V.n9 cs fun cs=>c (.row cs)
 | .arr e t s es=>Nat.fc e fun e=>Nat.fc s fun s=>D.n9 es fun es=>c (.arr e t s es)
 | .ky e es=>Nat.fc e fun e=>D.n9 es fun es=>c (.ky e es)
 | .map kt vt l=>EB l fun l=>c (.map kt vt l)
 | .dT l=>EB l fun l=>c (.dT l)
 | .lS l last=>EB l fun l=>c (.lS l last)
 | .oA l pos=>Nat.fc pos fun pos=>c (.oA l pos)
 |x=>c x
theorem aa.bY {β:Type}(x:aa)(c:aa->β):aa.fc x c=c x:=by cases x<;>simp only[aa.fc,V.dH,D.dH,Nat.bY,x9]
noncomputable def Tr.pL {α β:Type}(x:α)(d:Nat):Tr α->Nat->(Tr α->β)->β:=
 Nat.rec (motive:=fun _=>Tr α->Nat->(Tr α->β)->β) (fun t k c=>c (.e (aY t.get k x)))
  (fun _ ih t k c=>Tr.rec (motive:=fun _=>β) (fun f=>
   Bool.rec (Bool.rec (ih (.e fun i=>f (2*i+2)) (Nat.sub (Nat.div k 2) 1) fun r=>c (.n (f 0) (.e fun i=>f (2*i+1)) r)) (ih (.e fun i=>f (2*i+1)) (Nat.div k 2) fun l=>c (.n (f 0) l (.e fun i=>f (2*i+2)))) (Nat.beq (Nat.mod k 2) 1))
    (c (.n x (.e fun i=>f (2*i+1)) (.e fun i=>f (2*i+2)))) (Nat.beq k 0))
   (fun y l r _ _=>Bool.rec (Bool.rec (ih r (Nat.sub (Nat.div k 2) 1) fun r=>c (.n y l r)) (ih l (Nat.div k 2) fun l=>c (.n y l r)) (Nat.beq (Nat.mod k 2) 1)) (c (.n x l r)) (Nat.beq k 0)) t) d
theorem Tr.od {α β:Type}(x:α):∀ (d:Nat) (t:Tr α) (k:Nat) (c:Tr α->β),Tr.pL x d t k c=c (Tr.n7 x d t k)
 |0,t,k,c=>rfl
 |d+1, .e f,k,c=>by
  show @Bool.rec (fun _=>β) (@Bool.rec (fun _=>β) (Tr.pL x d (.e fun i=>f (2*i+2)) (k/2 - 1) fun r=>c (.n (f 0) (.e fun i=>f (2*i+1)) r)) (Tr.pL x d (.e fun i=>f (2*i+1)) (k/2) fun l=>c (.n (f 0) l (.e fun i=>f (2*i+2)))) (Nat.beq (k%2) 1)) (c (.n x (.e fun i=>f (2*i+1)) (.e fun i=>f (2*i+2)))) (Nat.beq k 0)=_
  simp only[Tr.n7,Tr.od x d]
  cases Nat.beq k 0
  ·cases Nat.beq (k%2) 1<;>rfl
  ·rfl
 |d+1, .n y l r,k,c=>by
  show @Bool.rec (fun _=>β) (@Bool.rec (fun _=>β) (Tr.pL x d r (k/2 - 1) fun r=>c (.n y l r)) (Tr.pL x d l (k/2) fun l=>c (.n y l r)) (Nat.beq (k%2) 1)) (c (.n x l r)) (Nat.beq k 0)=_
  simp only[Tr.n7,Tr.od x d]
  cases Nat.beq k 0
  ·cases Nat.beq (k%2) 1<;>rfl
  ·rfl
noncomputable def Tr.C0 {α β:Type}(t:Tr α)(k:Nat)(x:α)(c:Tr α->β):β:=Tr.pL x 24 t k c
theorem Tr.uZ {α β:Type}(t:Tr α)(k:Nat)(x:α)(c:Tr α->β):t.C0 k x c=c (t.set k x):=Tr.od x 24 t k c
structure St where
 env:Tr V
 o:Tr aa
 nx:Nat
noncomputable def St.S (st:St):S:=⟨st.env.get,st.o.get,st.nx⟩
noncomputable def wu(o:Tr aa)(Δ:List (Nat×aa)):Tr aa:=Δ.foldl (fun f x=>f.set x.1 x.2) o
noncomputable def mF(env:Tr V)(dst:Option Tmp)(v:V):Tr V:=match dst with|some d=>env.set d v|none=>env
noncomputable def oe{β:Type}(o:Tr aa):List (Nat×aa)->(Tr aa->β)->β
 |[],c=>c o
 |(i,x)::Δ,c=>aa.fc x fun x=>o.C0 i x fun o=>oe o Δ c
theorem jl{β:Type}:∀ (Δ:List (Nat×aa)) (o:Tr aa) (c:Tr aa->β),oe o Δ c=c (wu o Δ)
 |[],o,c=>rfl
 |(i,x)::Δ,o,c=>by simp only[oe,aa.bY,Tr.uZ,jl Δ];rfl
noncomputable def iE{β:Type}(env:Tr V)(dst:Option Tmp)(v:V)(c:Tr V->β):β:=match dst with|some d=>V.EA v fun v=>env.C0 d v c|none=>c env
theorem fA{β:Type}(env:Tr V)(dst:Option Tmp)(v:V)(c:Tr V->β):iE env dst v c=c (mF env dst v):=by
 cases dst<;>simp only[iE,mF,V.CZ,Tr.uZ]
theorem fO:∀ (Δ:List (Nat×aa)) (o:Tr aa),(wu o Δ).get=put o.get Δ
 |[],_=>rfl
 |x::Δ,o=>by
  simp only[wu,put,List.foldl_cons]
  have:=fO Δ (o.set x.1 x.2)
  simp only[wu,put]at this
  rw[this,Tr.fj]
theorem cX(env:Tr V)(dst:Option Tmp)(v:V):(mF env dst v).get=aJ env.get dst v:=by
 cases dst<;>simp[mF,aJ,Tr.fj]
section C1
def BB(x:Operand)(_:Program)(s:S)(_:Nat):Option eu:=one (s.ev x)
def F8(c a b:Operand)(_:Program)(s:S)(_:Nat):Option eu:=iD (ll (s.ev c) (s.ev a) (s.ev b))
def C2(t:TypeId)(parts:Array (Nat×Operand))(P:Program)(s:S)(_:Nat):Option eu:=iD (qm P t (parts.toList.map fun p=>(p.1,s.ev p.2)))
def sK(t:TypeId)(len:Nat)(parts:Array (Nat×Operand))(P:Program)(s:S)(fr:Nat):Option eu:=ef P s.o fr t len (parts.toList.map fun p=>(p.1,s.ev p.2))
def F9(t:TypeId)(x:Operand)(P:Program)(s:S)(_:Nat):Option eu:=jc P s.o t (s.ev x)
def C3(t:TypeId)(x v:Operand)(P:Program)(s:S)(_:Nat):Option eu:=l6 P s.o t (s.ev x) (s.ev v)
def Jt(x:Operand)(_:Program)(s:S)(_:Nat):Option eu:=iD (fl s.o (s.ev x))
noncomputable def Ga(op:BinOp):IntKind->Int->Int->Option V:=
 match op with
 | .add=>fun k a b=>some (.d (.int k (k.wrap (Int.add a b))))
 | .sub=>fun k a b=>some (.d (.int k (k.wrap (Int.sub a b))))
 | .mul=>fun k a b=>some (.d (.int k (k.wrap (Int.mul a b))))
 |op=>r8 op
theorem z7(op:BinOp):Ga op=r8 op:=by cases op<;>rfl
def asInt(x:V):Option (IntKind×Int):=match x with| .d (.int k a)=>some (k,a)|_=>none
def ya(op:BinOp)(t:TypeId)(c:Bool)(x y:V)(P:Program)(o:Nat->aa):Option eu:=cy P o op t c x y
noncomputable def Gb(op:BinOp)(t:TypeId)(x y:Operand)(P:Program)(s:S)(_:Nat):Option eu:=
 match asInt (s.ev x)with
 |some (k,a)=>match asInt (s.ev y)with
  |some (k',b)=>if k=k' then match Ga op k a b with
   |some v=>some (v,[],[])
   |none=>ya op t (isConst x||isConst y) (s.ev x) (s.ev y) P s.o
   else none
  |none=>ya op t (isConst x||isConst y) (s.ev x) (s.ev y) P s.o
 |none=>ya op t (isConst x||isConst y) (s.ev x) (s.ev y) P s.o
theorem sL{x:V}{k:IntKind}{a:Int}(h:asInt x=some (k,a)):x= .d (.int k a):=by
 unfold asInt at h;split at h
 ·injection h with h;cases h;rfl
 ·cases h
def uc(t:TypeId)(x:Operand)(f:Nat)(P:Program)(s:S)(_:Nat):Option eu:=iD (eL P s.o t (s.ev x) f)
def ud(t:TypeId)(x i:Operand)(P:Program)(s:S)(_:Nat):Option eu:=eK P s.o t (s.ev x) (s.ev i)
def C4(op:Op)(P:Program)(s:S)(fr:Nat):Option eu:=ei P s fr op
noncomputable def z8(op:Op):Program->S->Nat->Option eu:=
 match op with
 | .move x=>BB x
 | .assign x=>BB x
 | .pick c a b=>F8 c a b
 | .build t parts=>C2 t parts
 | .buildSlice t len parts=>sK t len parts
 | .load t x=>F9 t x
 | .store t x v=>C3 t x v
 | .nilCheck x=>Jt x
 | .binOp op t x y _=>Gb op t x y
 | .fieldAddr t x f=>uc t x f
 | .indexAddr t x i=>ud t x i
 |op=>C4 op
theorem u0{op:Op}{P:Program}{s:S}{fr:Nat}{r:eu}(h:z8 op P s fr=some r):ei P s fr op=some r:=by
 cases op
 case binOp op t x y yt=>
  simp only[z8,Gb,z7]at h
  have e:ei P s fr (.binOp op t x y yt)=cy P s.o op t (isConst x||isConst y) (s.ev x) (s.ev y):=rfl
  rw[e]
  split at h
  ·rename_i k a hx
   split at h
   ·rename_i k' b hy
    split at h
    ·rename_i hk
     split at h
     ·rename_i v hv
      unfold cy ql
      simp only[sL hx,sL hy,if_pos hk,hv]
      exact h
     ·exact h
    ·cases h
   ·exact h
  ·exact h
 all_goals exact h
end C1
inductive FD where
 |fn (n:Nat) (ic:IC) (rs:List ResultVar)
 |Ju (n:Nat) (jD fV:IC) (g t:Nat) (fi:List Operand) (rs:List ResultVar) (m r r1:Nat) (sJ:IC)
 |no
def FD.Ok (P:Program)(f:Nat):FD->Prop
 | .fn n ic rs=>aF P f n ic rs
 | .Ju n jD fV g t fi rs m r r1 sJ=>x5 P f n jD fV g t fi rs/\uX P g m r r1 sJ
 | .no=>True
inductive CR where
 |ret (v:V) (o:Tr aa) (nx:Nat)|ba (v:V) (o:Tr aa) (nx:Nat)
def CR.to (K X:V->(Nat->aa)->Nat->Prop):CR->Prop
 | .ret v o nx=>K v o.get nx
 | .ba v o nx=>X v o.get nx
inductive RO where
 |ok (st:St)|ba (v:V) (st:St)
def RO.to (K:S->Prop)(X:V->S->Prop):RO->Prop
 | .ok st=>K st.S
 | .ba v st=>X v st.S
inductive cV where
 |r (x:R)|c (x:CR)
abbrev Kt:=eW->St->Option cV
abbrev cC:=Nat->Bool->Nat->IC->St->Kt->Option cV
noncomputable def wv(P:Program)(rs:List ResultVar)(st:St)(kc:CR->Option cV):Option cV:=
 match iw P st.S rs with
 |some [v]=>kc (.ret v st.o st.nx)
 |some vs=>kc (.ret (.bI vs) st.o st.nx)
 |none=>none
noncomputable def BC(P:Program)(rs:List ResultVar)(kc:CR->Option cV):Kt:=fun e st=>
 match e with
 | .normal=>wv P rs st kc
 | .ret=>wv P rs st kc
 | .ba v=>kc (.ba v st.o st.nx)
 | .exit _=>none
noncomputable def yb(P:Program)(rs:List ResultVar)(kc:CR->Option cV)(env:Tr V):Kt:=fun e s4=>
 match e with
 | .normal=>wv P rs ⟨env,s4.o,s4.nx⟩ kc
 | .ret=>wv P rs ⟨env,s4.o,s4.nx⟩ kc
 |_=>none
def Gc:eW->Option V
 | .normal=>some (.d .dS)
 | .ret=>some (.d .dS)
 | .ba v=>some v
 | .exit _=>none
noncomputable def yc(P:Program)(rec:cC)(rs:List ResultVar)(jI:List V)(m r r1:Nat)(sJ:IC)(kc:CR->Option cV):Kt:=fun e s3=>
 match Gc e with
 |some u=>if jI.length<=m then rec s3.nx true m sJ ⟨.e (aY (aY (bS jI) r u) r1 u),s3.o,s3.nx⟩ (yb P rs kc s3.env)else none
 |none=>none
noncomputable def u1(P:Program)(rec:cC)(n t:Nat)(fV:IC)(g:Nat)(fi:List Operand)(rs:List ResultVar)(m r r1:Nat)(sJ:IC)(kc:CR->Option cV):Kt:=fun e s1=>
 match e with
 | .normal=>rec s1.nx false n fV ⟨s1.env.set t (.func (.func g) [] (fi.map s1.S.ev)),s1.o,s1.nx⟩ (yc P rec rs (fi.map s1.S.ev) m r r1 sJ kc)
 |_=>none
noncomputable def yd(P:Program)(bg:Nat->FD)(rec:cC)(g:Nat)(args:List V)(o:Tr aa)(nx:Nat)(kc:CR->Option cV):Option cV:=
 match bg g with
 | .fn n ic rs=>if args.length<=n then rec nx false n ic ⟨.e (bS args),o,nx⟩ (BC P rs kc)else none
 | .Ju n jD fV g t fi rs m r r1 sJ=>if args.length<=n then rec nx true n jD ⟨.e (bS args),o,nx⟩ (u1 P rec n t fV g fi rs m r r1 sJ kc)else none
 | .no=>none
def og:V->List V
 | .bI vs=>vs
 |v=>[v]
noncomputable def u3(r:CR):Option R:=
 match r with
 | .ret v o _=>match v with
   | .bI [_]=>none
   |v=>match bt o.get (og v)with
    |some rs=>some (.ret rs)
    |none=>none
 | .ba v o _=>match dg o.get v with
   |some x=>some (.ba x)
   |none=>none
noncomputable def Gd{β:Type}(x:R)(c:R->β):β:=match x with| .ret l=>D.n9 l fun l=>c (.ret l)| .ba d=>D.fc d fun d=>c (.ba d)
theorem ue{β:Type}(x:R)(c:R->β):Gd x c=c x:=by cases x<;>simp only[Gd,D.dH,D.bY]
noncomputable def sM(r:CR):Option cV:=match u3 r with|some x=>Gd x fun x=>some (.r x)|none=>none
theorem ye{r:CR}{a:cV}(h:sM r=some a):∃x,u3 r=some x/\a= .r x:=by
 unfold sM at h
 split at h
 ·rename_i x hx;rw[ue]at h;injection h with h;exact⟨x,hx,h.symm⟩
 ·cases h
def yf(out:R)(o:Tr aa)(nx:Nat):CR:=
 match out with
 | .ret rs=> .ret (gQ rs) o nx
 | .ba x=> .ba (.d x) o nx
structure lD (P:Program) where
 Ge:Nat->Bool
 fx:Nat->List D->Option R
 ok:∀g ds out,fx g ds=some out->cQ P g ds out
def yg(l:List (Nat×List D×R))(g:Nat)(ds:List D):Option R:=
 match l with
 |[]=>none
 |x::l=>match Nat.beq x.1 g with
  |true=>match D.dY x.2.1 ds with
   |true=>some x.2.2
   |false=>yg l g ds
  |false=>yg l g ds
theorem qI{P:Program}:∀ {l:List (Nat×List D×R)},(∀x∈l,cQ P x.1 x.2.1 x.2.2)->∀g ds out,yg l g ds=some out->cQ P g ds out
 |[],_,_,_,_,h=>by cases h
 |x::l,hl,g,ds,out,h=>by
  simp only[yg]at h
  split at h
  ·rename_i hg
   split at h
   ·rename_i hd
    injection h with h
    have:=hl x (by simp)
    rw[Nat.eq_of_beq_eq_true hg,D.ct _ _ hd,h]at this
    exact this
   ·exact qI (fun y hy=>hl y (by simp[hy])) g ds out h
  ·exact qI (fun y hy=>hl y (by simp[hy])) g ds out h
def lD.of {P:Program}(Ge:Nat->Bool)(l:List (Nat×List D×R))(h:∀x∈l,cQ P x.1 x.2.1 x.2.2):lD P:=⟨Ge,yg l,qI h⟩
noncomputable def z9(P:Program)(bg:Nat->FD)(md:lD P)(rec:cC)(g:Nat)(ds:List D):Option R:=
 match md.fx g ds with
 |some out=>some out
 |none=>match yd P bg rec g (ds.map .d) (.e fun _=> .no) 0 sM with
  |some (.r x)=>some x
  |_=>none
noncomputable def BD(out:R)(o:Tr aa)(nx:Nat)(args:List V)(kc:CR->Option cV):Option cV:=
 match out.flat with
 |true=>kc (yf out o (nx+1))
 |false=>match out.iW with
  |true=>kc (yf out (wu o (lT o.get (V.aP args))) (nx+1))
  |false=>kc (yf out (wu o (b7 o.get (V.aP args))) (nx+1))
noncomputable def u4(P:Program)(bg:Nat->FD)(md:lD P)(rec:cC)(g:Nat)(args:List V)(o:Tr aa)(nx:Nat)(kc:CR->Option cV):Option cV:=
 match md.Ge g,bt o.get args with
 |true,some ds=>match z9 P bg md rec g ds with
  |some out=>BD out o nx args kc
  |none=>none
 |_,_=>yd P bg rec g args o nx kc
noncomputable def yh(id:Nat)(kc:CR->Option cV):Kt:=fun e s2=>
 match e with
 | .ba v=>kc (.ba v s2.o s2.nx)
 |e=>match s2.o.get id with
  | .loop nf m en p c d _ _=>match e with
    | .normal=>kc (.ret (.d (.bool true)) (s2.o.set id (.loop nf m en p c d .ready none)) s2.nx)
    | .ret=>kc (.ret (.d (.bool false)) (s2.o.set id (.loop nf m en p c d .done (some .ret))) s2.nx)
    | .exit j=>kc (.ret (.d (.bool false)) (s2.o.set id (.loop nf m en p c d .done (some (.exit j)))) s2.nx)
    | .ba _=>none
  |_=>none
noncomputable def u5(rec:cC)(id nx n:Nat)(fV:IC)(kc:CR->Option cV):Kt:=fun e s1=>
 match e with
 | .normal=>match s1.o.get id with
   | .loop nf m en p c d .ready pd=>rec nx true n fV ⟨s1.env,s1.o.set id (.loop nf m en p c d .busy pd),s1.nx⟩ (yh id kc)
   |_=>none
 | .ba v=>kc (.ba v s1.o s1.nx)
 |_=>none
noncomputable def C5(P:Program)(rec:cC)(id:Nat)(args:List V)(o:Tr aa)(nx:Nat)(kc:CR->Option cV):Option cV:=
 match o.get id with
 | .loop nf n env ps jD fV _ _=>if nf=P.funcs.size/\id<nx/\ps.all (fun t=>decide (t<n))=true/\args.length=ps.length then
  rec nx true n jD ⟨.e (tX (bT env) ps args),o,nx⟩ (u5 rec id nx n fV kc)
   else none
 |_=>none
noncomputable def pM(P:Program)(st:St)(o:bz)(kr:RO->Option cV):Option cV:=
 match z8 o.op P st.S st.nx with
 |some (v,Δ,_)=>iE st.env o.dst v fun e=>oe st.o Δ fun ob=>Nat.fc (st.nx+1) fun n=>kr (.ok ⟨e,ob,n⟩)
 |none=>none
noncomputable def Gf(st:St)(dst:Option Nat)(kr:RO->Option cV)(c:CR):Option cV:=
 match c with
 | .ret v o nx=>iE st.env dst v fun e=>Nat.fc nx fun nx=>kr (.ok ⟨e,o,nx⟩)
 | .ba v o nx=>kr (.ba v ⟨st.env,o,nx⟩)
noncomputable def yi(c:Call)(P:Program)(bg:Nat->FD)(md:lD P)(rec:cC)(st:St)(o:bz)(kr:RO->Option cV):Option cV:=
 match c.callee with
 | .value f=>match st.S.ev f with
   | .func (.func g) first cap=>u4 P bg md rec g (first++c.args.toList.map st.S.ev++cap) st.o st.nx (Gf st o.dst kr)
   | .js id=>C5 P rec id (c.args.toList.map st.S.ev) st.o st.nx (Gf st o.dst kr)
   |_=>none
 | .invoke r m=>match nG P m (st.S.ev r)with
   |some (g,y)=>u4 P bg md rec g (y::c.args.toList.map st.S.ev) st.o st.nx (Gf st o.dst kr)
   |none=>none
 |_=>pM P st o kr
noncomputable def C6(x:Operand)(P:Program)(_:Nat->FD)(_:lD P)(_:cC)(st:St)(_:bz)(kr:RO->Option cV):Option cV:=
 match st.S.ev x with
 | .d (.iface t y)=>kr (.ba (.d (.iface t y)) st)
 | .iface t y=>kr (.ba (.iface t y) st)
 |_=>none
noncomputable def Gg(P:Program)(_:Nat->FD)(_:lD P)(_:cC)(st:St)(o:bz)(kr:RO->Option cV):Option cV:=pM P st o kr
def R.same:R->R->Bool
 | .ret a, .ret b=>D.dY a b
 | .ba a, .ba b=>a.same b
 |_,_=>false
theorem R.cO {x y:R}(h:x.same y=true):x=y:=by
 cases x<;>cases y<;>simp only[R.same,Bool.false_eq_true]at h
 ·rw[D.ct _ _ h]
 ·rw[D.cO _ _ h]
noncomputable def HQ(f:Nat->Option cV):Nat->Option cV
 |0=>none
 |n+1=>match n with
  |0=>f 0
  |n=>match HQ f n with
   |some (.r a)=>match f n with
    |some (.r b)=>match R.same a b with
     |true=>some (.r a)
     |false=>none
    |_=>none
   |_=>none
theorem yj{f:Nat->Option cV}{a:cV}:∀ {n:Nat},HQ f n=some a->∀i,i<n->f i=some a
 |0,h,_,_=>by cases h
 |1,h,i,hi=>by obtain rfl:i=0:=by omega
               exact h
 |n+2,h,i,hi=>by
  simp only[HQ]at h
  split at h
  ·rename_i x hx
   split at h
   ·rename_i y hy
    split at h
    ·rename_i he
     have e:=R.cO he
     subst e
     rw[<- h]
     by_cases e:i=n+1
     ·subst e;exact hy
     ·exact yj hx i (by omega)
    ·cases h
   ·cases h
  ·cases h
noncomputable def Aa(st:St)(dst:Option Nat)(kr:RO->Option cV)(v:V)(Δ:List (Nat×aa)):Option cV:=
 iE st.env dst v fun e=>oe st.o Δ fun ob=>Nat.fc (st.nx+1) fun n=>kr (.ok ⟨e,ob,n⟩)
noncomputable def yk(x:Operand)(str:Bool)(P:Program)(_:Nat->FD)(_:lD P)(_:cC)(st:St)(o:bz)(kr:RO->Option cV):Option cV:=
 match kH st.o.get (st.S.ev x)with
 |some (id,l)=>match str with
  |true=>none
  |false=>match l with
   |[]=>Aa st o.dst kr (.bI [.d (.bool false)]) []
   |_=>HQ (fun i=>match l[i]? with
    |some (k,x)=>Aa st o.dst kr (.bI [.d (.bool true), .d k, .d x]) [(id, .lS (l.eraseIdx i) (some (k,x)))]
    |none=>none) l.length
 |none=>pM P st o kr
noncomputable def OR(op:Op):(P:Program)->(Nat->FD)->lD P->cC->St->bz->(RO->Option cV)->Option cV:=
 match op with
 | .call c=>yi c
 | .panic x=>C6 x
 | .next x str=>yk x str
 |_=>Gg
noncomputable def HS(P:Program)(bg:Nat->FD)(md:lD P)(rec:cC)(st:St)(o:bz)(kr:RO->Option cV):Option cV:=OR o.op P bg md rec st o kr
noncomputable def LY(next:St->Option cV)(kr:RO->Option cV):RO->Option cV:=fun r=>match r with| .ok st=>next st| .ba v st=>kr (.ba v st)
noncomputable def qJ(P:Program)(bg:Nat->FD)(md:lD P)(rec:cC)(kr:RO->Option cV):List bz->St->Option cV
 |[],st=>kr (.ok st)
 |o::l,st=>match(match o.gd with
   |none=>some true
   |some (d,want)=>match st.env.get d with
    | .d (.bool b)=>some (b==want)
    | .bI []=>some false
    |_=>none)with
  |some true=>HS P bg md rec st o (LY (qJ P bg md rec kr l) kr)
  |some false=>iE st.env o.dst (.bI []) fun e=>Nat.fc (st.nx+1) fun n=>qJ P bg md rec kr l ⟨e,st.o,n⟩
  |none=>none
section
variable {P:Program}{bg:Nat->FD}{md:lD P}
noncomputable def c0(P:Program)(rec:cC):Prop:=∀b rd n ic st k a,rec b rd n ic st k=some a->∀Q:eW->S->Prop,(∀e st',k e st'=some a->Q e st'.S)->m8 P n b rd ic Q st.S
theorem nd{rs:List ResultVar}{st:St}{kc:CR->Option cV}{a:cV}(h:wv P rs st kc=some a){K X:V->(Nat->aa)->Nat->Prop}(hr:∀r,kc r=some a->r.to K X):iB P rs K X .ret st.S:=by
 unfold wv at h
 unfold iB
 split at h
 ·rename_i v hv;simp only[hv];exact hr _ h
 ·rename_i vs hv hn
  simp only[hn]
  exact hr _ h
 ·cases h
theorem jm(aO:P.follows .mixedOrders=true)(bH:∀g,(bg g).Ok P g){rec:cC}(a7:c0 P rec){g:Nat}{args:List V}{o:Tr aa}{nx:Nat}{kc:CR->Option cV}{a:cV}(h:yd P bg rec g args o nx kc=some a){K X:V->(Nat->aa)->Nat->Prop}(hr:∀r,kc r=some a->r.to K X):
 j8 P g args o.get nx K X:=by
 have a8:=bH g
 unfold yd at h
 split at h
 ·rename_i n ic rs ht
  rw[ht]at a8
  split at h
  ·rename_i hl
   refine j8.nZ aO a8 hl ?_
   refine a7 _ _ _ _ _ _ _ h _ fun e st he=> ?_
   unfold BC at he
   cases e with
   |normal=>exact nd he hr
   |ret=>exact nd he hr
   |ba v=>exact hr _ he
   |exit j=>cases he
  ·cases h
 ·rename_i n jD fV g' t fi rs m r0 r1 sJ ht
  rw[ht]at a8
  split at h
  ·rename_i hl
   refine j8.x8 aO a8.1 a8.2 hl (a7 _ _ _ _ _ _ _ h _ fun e s1 he=> ?_)
   unfold u1 at he
   cases e with
   |normal=>
    have hb:m8 P n s1.nx false fV (ub P m r0 r1 sJ (fi.map s1.S.ev) rs K X) ⟨aY s1.env.get t (.func (.func g') [] (fi.map s1.S.ev)),s1.o.get,s1.nx⟩:=by
     have:=a7 _ _ _ _ _ _ _ he (ub P m r0 r1 sJ (fi.map s1.S.ev) rs K X) (fun e s3 EC=>by
      unfold yc at EC
      split at EC
      ·rename_i u hu
       split at EC
       ·rename_i mN
        have OS:wo P m r0 r1 sJ (fi.map s1.S.ev) u s3.o.get s3.nx fun o nx=>iB P rs K X .ret ⟨s3.env.get,o,nx⟩:=by
         refine⟨mN,a7 _ _ _ _ _ _ _ EC _ fun e4 s4 HT=> ?_⟩
         unfold yb at HT
         cases e4 with
         |normal=>exact nd (st:=⟨s3.env,s4.o,s4.nx⟩) HT hr
         |ret=>exact nd (st:=⟨s3.env,s4.o,s4.nx⟩) HT hr
         |_=>cases HT
        cases e<;>simp only[Gc,Option.some.injEq,reduceCtorEq]at hu<;>subst hu<;>exact OS
       ·cases EC
      ·cases EC)
     simp only[St.S,Tr.fj]at this
     exact this
    exact hb
   |_=>cases he
  ·cases h
 ·cases h
theorem yl{r:CR}{out:R}(ho:u3 r=some out):r.to (fun v o _=>∃vs rs,v=(match vs with|[v]=>v|vs=> .bI vs)/\bt o vs=some rs/\out= .ret rs) (fun v o _=>∃x,dg o v=some x/\out= .ba x):=by
 unfold u3 at ho
 split at ho
 ·rename_i v o nx
  split at ho
  ·cases ho
  ·rename_i hv
   split at ho
   ·rename_i rs EO
    injection ho with ho;subst ho
    refine⟨og v,rs, ?_,EO,rfl⟩
    cases v with
    |bI vs=>
     match vs,hv with
     |[],_=>rfl
     |[x],hv=>exact absurd rfl (hv x)
     |_::_::_,_=>rfl
    |_=>rfl
   ·cases ho
 ·split at ho
  ·rename_i x hx
   injection ho with ho;subst ho
   exact⟨x,hx,rfl⟩
  ·cases ho
theorem sN(aO:P.follows .mixedOrders=true)(bH:∀g,(bg g).Ok P g){rec:cC}(a7:c0 P rec){g:Nat}{ds:List D}{out:R}(h:yd P bg rec g (ds.map .d) (.e fun _=> .no) 0 sM=some (.r out)):cQ P g ds out:=by
 refine cQ.kb (jm aO bH a7 h fun r hr=> ?_)
 obtain⟨x,hx,he⟩:=ye hr
 injection he with he;subst he
 exact yl hx
theorem qK(aO:P.follows .mixedOrders=true)(bH:∀g,(bg g).Ok P g){rec:cC}(a7:c0 P rec){g:Nat}{ds:List D}{out:R}(h:z9 P bg md rec g ds=some out):cQ P g ds out:=by
 unfold z9 at h
 split at h
 ·rename_i OT ho
  injection h with h;subst h
  exact md.ok _ _ _ ho
 ·split at h
  ·rename_i x hr;injection h with h;subst h;exact sN aO bH a7 hr
  ·cases h
theorem sO(aO:P.follows .mixedOrders=true)(bH:∀g,(bg g).Ok P g){rec:cC}(a7:c0 P rec){g:Nat}{args:List V}{o:Tr aa}{nx:Nat}{kc:CR->Option cV}{a:cV}(h:u4 P bg md rec g args o nx kc=some a){K X:V->(Nat->aa)->Nat->Prop}(hr:∀r,kc r=some a->r.to K X):
 A3 P g args o.get nx K X:=by
 unfold u4 at h
 split at h
 ·rename_i ds Pr dm
  split at h
  ·rename_i out ym
   have hP:=qK aO bH a7 ym
   refine .inl ⟨ds,dm,out,hP, ?_⟩
   unfold BD at h
   split at h
   ·rename_i hf
    refine .inr (.inl ⟨hf, ?_⟩)
    cases out<;>exact hr _ h
   ·split at h
    ·rename_i hf
     refine .inr (.inr ⟨hf, ?_⟩)
     rw[<- fO]
     cases out<;>exact hr _ h
    ·refine .inl ?_
     rw[<- fO]
     cases out<;>exact hr _ h
  ·cases h
 ·exact .inr (jm aO bH a7 h hr)
theorem Ab(aO:P.follows .mixedOrders=true){rec:cC}(a7:c0 P rec){id:Nat}{args:List V}{o:Tr aa}{nx:Nat}{kc:CR->Option cV}{a:cV}(h:C5 P rec id args o nx kc=some a){K X:V->(Nat->aa)->Nat->Prop}(hr:∀r,kc r=some a->r.to K X):
 dF P id args o.get nx K X:=by
 unfold C5 at h
 split at h
 ·rename_i nf n env ps jD fV st pd ho
  split at h
  ·rename_i hc
   obtain⟨rfl,br,FT,hl⟩:=hc
   refine dF.nZ aO ho br FT hl ?_
   refine a7 _ _ _ _ _ _ _ h _ fun e s1 he=> ?_
   unfold u5 at he
   cases e with
   |normal=>
    simp only at he
    split at he
    ·rename_i nf m en p c d pd gI
     refine⟨nf,m,en,p,c,d,pd,gI, ?_⟩
     have:=a7 _ _ _ _ _ _ _ he (ua id K X) (fun e s2 h2=>by
      unfold yh at h2
      split at h2
      ·exact hr _ h2
      ·rename_i AX
       split at h2
       ·rename_i FN m' Jv p' c' d' st' pd' C7
        cases e with
        |ba v=>cases h2
        |normal=>have h3:=hr _ h2;simp only[CR.to,Tr.fj]at h3;exact⟨FN,m',Jv,p',c',d',st',pd',C7,h3⟩
        |ret=>have h3:=hr _ h2;simp only[CR.to,Tr.fj]at h3;exact⟨FN,m',Jv,p',c',d',st',pd',C7,h3⟩
        |exit j=>have h3:=hr _ h2;simp only[CR.to,Tr.fj]at h3;exact⟨FN,m',Jv,p',c',d',st',pd',C7,h3⟩
       ·cases h2)
     simp only[St.S,Tr.fj]at this
     exact this
    ·cases he
   |ba v=>exact hr _ he
   |_=>cases he
  ·cases h
 ·cases h
theorem oh{st:St}{o:bz}{kr:RO->Option cV}{a:cV}(h:pM P st o kr=some a){K:S->Prop}{X:V->S->Prop}(hr:∀r,kr r=some a->r.to K X):match ei P st.S st.S.nx o.op with
 |some (v,Δ,_)=>K ⟨aJ st.S.env o.dst v,put st.S.o Δ,st.S.nx+1⟩
 |none=>False:=by
 unfold pM at h
 split at h
 ·rename_i v Δ rd he
  have he:=u0 he
  simp only[fA,jl,Nat.bY]at h
  have hr:=hr _ h
  simp only[RO.to,St.S,cX,fO]at hr
  have dN:ei P st.S st.S.nx o.op=some (v,Δ,rd):=he
  simp only[dN]
  exact hr
 ·cases h
theorem u6{st:St}{dst:Option Nat}{kr:RO->Option cV}{v:V}{Δ:List (Nat×aa)}{a:cV}(h:Aa st dst kr v Δ=some a){K:S->Prop}{X:V->S->Prop}(hr:∀r,kr r=some a->r.to K X):K ⟨aJ st.S.env dst v,put st.S.o Δ,st.S.nx+1⟩:=by
 unfold Aa at h
 simp only[fA,jl,Nat.bY]at h
 have hr:=hr _ h
 simp only[RO.to,St.S,cX,fO]at hr
 exact hr
theorem C8(aO:P.follows .mixedOrders=true)(bH:∀g,(bg g).Ok P g){rec:cC}(a7:c0 P rec){st:St}{o:bz}{kr:RO->Option cV}{a:cV}(h:HS P bg md rec st o kr=some a){K:S->Prop}{X:V->S->Prop}(hr:∀r,kr r=some a->r.to K X):wE P st.S o X K:=by
 have cr:∀r,Gf st o.dst kr r=some a->r.to (fun v o' nx'=>K ⟨aJ st.S.env o.dst v,o',nx'⟩) (fun v o' nx'=>X v ⟨st.S.env,o',nx'⟩):=by
  intro r hx
  unfold Gf at hx
  split at hx
  ·simp only[fA,Nat.bY]at hx
   have hr:=hr _ hx
   simp only[RO.to,St.S,cX]at hr
   exact hr
  ·exact hr _ hx
 unfold HS at h
 unfold wE
 cases cw:o.op
 case call c=>
  rw[cw]at h
  have h:yi c P bg md rec st o kr=some a:=h
  unfold yi at h
  cases hf:c.callee
  case value f=>
   simp only[hf]at h|-
   split at h
   ·rename_i g first cap hv
    simp only[hv]
    have:=sO aO bH a7 h cr
    rcases this with⟨ds,dm,hP⟩|hC
    ·have C9:bt st.S.o (first++List.map st.S.ev c.args.toList++cap)=some ds:=dm
     simp only[C9]
     exact .inl hP
    ·split
     ·exact .inr (.inl hC)
     ·exact .inl hC
   ·rename_i id hv
    simp only[hv]
    exact Ab aO a7 h cr
   ·cases h
  case invoke r m=>
   simp only[hf]at h|-
   split at h
   ·rename_i g y hv
    simp only[hv]
    exact sO aO bH a7 h cr
   ·cases h
  all_goals
   simp only[hf]at h|-
   have:=oh h hr
   rw[cw]at this
   exact this
 case panic x=>
  rw[cw]at h
  have h:C6 x P bg md rec st o kr=some a:=h
  unfold C6 at h
  split at h
  ·rename_i hv;simp only[hv];exact hr _ h
  ·rename_i hv;simp only[hv];exact hr _ h
  ·cases h
 case next x str=>
  rw[cw]at h
  have h:yk x str P bg md rec st o kr=some a:=h
  unfold yk at h
  have hl:kH st.S.o (st.S.ev x)=kH st.o.get (st.S.ev x):=rfl
  simp only[hl]
  split at h
  ·rename_i id l ag
   simp only[ag]
   cases str with
   |true=>cases h
   |false=>
    refine⟨rfl,fun e=> ?_,fun i k y e=> ?_⟩
    ·subst e
     exact u6 h hr
    ·cases l with
     |nil=>simp at e
     |cons p l=>
      have:=yj h i (List.getElem?_eq_some_iff.1 e).1
      rw[e]at this
      exact u6 this hr
  ·rename_i ag
   simp only[ag]
   have:=oh h hr
   rw[cw]at this
   exact this
 all_goals
  have h2:pM P st o kr=some a:=by rw[cw]at h;exact h
  have:=oh h2 hr
  rw[cw]at this
  exact this
theorem ng(aO:P.follows .mixedOrders=true)(bH:∀g,(bg g).Ok P g){rec:cC}(a7:c0 P rec){kr:RO->Option cV}{a:cV}{K:S->Prop}{X:V->S->Prop}(hr:∀r,kr r=some a->r.to K X):∀ (l:List bz) (st:St),qJ P bg md rec kr l st=some a->kf P X K l st.S
 |[],st,h=>hr (.ok st) h
 |o::l,st,h=>by
  simp only[qJ,fA,Nat.bY]at h
  simp only[kf]
  have op:HS P bg md rec st o (LY (qJ P bg md rec kr l) kr)=some a->wE P st.S o X (kf P X K l):=by
   intro h
   refine C8 aO bH a7 h fun r LZ=> ?_
   cases r with
   |ok Da=>exact ng aO bH a7 hr l Da LZ
   |ba v Da=>exact hr (.ba v Da) LZ
  have sk:qJ P bg md rec kr l ⟨mF st.env o.dst (.bI []),st.o,st.nx+1⟩=some a->kf P X K l ⟨aJ st.S.env o.dst (.bI []),st.S.o,st.S.nx+1⟩:=by
   intro h
   have:=ng aO bH a7 hr l _ h
   simp only[St.S,cX]at this
   exact this
  cases hg:o.gd with
  |none=>simp only[hg]at h;exact op h
  |some p=>
   obtain⟨d,want⟩:=p
   simp only[hg]at h
   have he:st.S.env d=st.env.get d:=rfl
   simp only[he]
   cases hv:st.env.get d with
   |d x=>
    cases x with
    |bool b=>
     simp only[hv]at h|-
     by_cases e:b=want
     ·subst e
      simp only[beq_self_eq_true]at h
      rw[if_pos rfl];exact op h
     ·have:(b==want)=false:=by simpa using e
      rw[this]at h
      rw[if_neg e];exact sk h
    |_=>simp[hv]at h
   |bI vs=>
    cases vs with
    |nil=>simp only[hv]at h|-;exact sk h
    |cons a bu=>simp[hv]at h
   |_=>simp[hv]at h
end
end Go.Proofs.YtbmnikpknlkbkaaGreat
namespace Go.Proofs.YtbmnikpknlkbkaaGreat
theorem tO.Db {P:Program}{g:FuncId}{ds:List D}{o:Nat->aa}{fr:Nat}{ty:TypeId}{sz:Nat}{es:List D}
 (h:j8 P g (ds.map .d) (fun _=> .no) 0 (fun v o1 _=>(∃j ep,v= .osl j ep/\o1 j= .arr ep ty sz es)\/(v= .aI/\es=[]/\0<sz)) (fun _ _ _=>False)):
 tO P g (ds.map .d) [] o fr (.osl fr 0) [(fr, .arr 0 ty sz es)]:=by
 refine⟨h.1,fun o' us M φ w vals _ dq hH hd=> ?_⟩
 let bM:Place:=fun _=> .nilFunc
 have qk:∀b, ¬bp bM (hp (fun _=> .no) 0) b:=by rintro b ⟨id,hl,_⟩;simp[hp,aa.live]at hl
 have hM:∀b,ad M φ ⟨o',us⟩ b->b<w.heap.size:=fun b hb=>hb.elim (hH.oE b) fun hl=>(hH.ours b hl).2
 have o4:=(V.bE _ _).1 hd
 refine(h.2 (ad M φ ⟨o',us⟩) bM w vals (jy bM hM) ((V.bE _ _).2 (D.aw (w:=w) (w':=w) (B:=ad M φ ⟨o',us⟩) (fun b _ hB=>⟨rfl,fun h=>h.elim hB (qk b)⟩) _ _ o4))).mono ?_
 rintro e w' ⟨eV,o1,n1,v,k1,k2,k3⟩
 have hk:df (fun _=>False) w w':=⟨k2.bD.os,k2.bD.tape,k2.bD.output,k2.bD.size,fun k hk _=>k2.bD.block k hk (qk k)⟩
 have EK:(⟨o',us⟩:Hp).put [(fr, .arr 0 ty sz es)]=⟨put o' [(fr, .arr 0 ty sz es)],fun id=>us id\/id=fr⟩:=by
  simp only[Hp.put]
  congr 1
  funext id
  simp
 have fin:∀ (val:Value) (xs:List Value),(∀b,db val=some b->w.heap.size<=b/\b<w'.heap.size)->0<sz->w'.ownsRow 0 ty sz val es.length xs->
  (et (ad M (aY φ fr val) ((⟨o',us⟩:Hp).put [(fr, .arr 0 ty sz es)])) w' sz es xs)->
  val.oneCell'=true->
  ∃ai,af M ai ⟨put o' [(fr, .arr 0 ty sz es)],fun id=>us id\/id=fr⟩ w'/\Trans φ ⟨o',us⟩ w ai ⟨put o' [(fr, .arr 0 ty sz es)],fun id=>us id\/id=fr⟩ w'/\
   ∃yn,Ending.returned val= .returned yn/\V.den (ad M ai ⟨put o' [(fr, .arr 0 ty sz es)],fun id=>us id\/id=fr⟩) ai ⟨put o' [(fr, .arr 0 ty sz es)],fun id=>us id\/id=fr⟩ w' (.osl fr 0) yn:=by
  intro val xs fF cJ dh aX Jw
  have lh:=fG hH hk dq (.arr 0 ty sz es) val fF (by
   unfold au
   rw[show((⟨o',us⟩:Hp).put [(fr, .arr 0 ty sz es)]).o fr= .arr 0 ty sz es by simp]
   refine⟨cJ,xs, ?_,aX⟩
   rw[show aY φ fr val fr=val by simp]
   exact dh)
  have Gh:=dz (φ:=φ) (H:=⟨o',us⟩) hk dq (.arr 0 ty sz es) val (fun b hb=>(fF b hb).1)
  rw[EK]at lh Gh
  refine⟨aY φ fr val,lh,Gh,val,rfl,Jw, .inr rfl,fun e he=> ?_⟩
  have dN:0=e:=by
   have:(put o' [(fr,aa.arr 0 ty sz es)] fr).aL=some 0:=by simp[put,aa.aL]
   rw[show(⟨put o' [(fr, .arr 0 ty sz es)],fun id=>us id\/id=fr⟩:Hp).o fr=put o' [(fr, .arr 0 ty sz es)] fr from rfl,this]at he
   injection he
  exact⟨by omega,fun _=>by simp⟩
 cases e with
 |outgrown=>exact k3.elim
 |panicked ch=>obtain⟨_,_,_,h⟩:=k3;exact h.elim
 |returned val=>
  obtain⟨g1,⟨j,ep,rfl,hj⟩|⟨rfl,rfl,cJ⟩⟩:=k3
  ·obtain⟨v0,v1,v2⟩:=g1
   have cZ:val=eV j:=(v2 ep (by show(o1 j).aL=some ep;rw[hj];rfl)).2 rfl
   have bq:∀b,db val=some b->bp eV (hp o1 n1) b:=fun b hb=>⟨j,by show(o1 j).live=true;rw[hj];rfl,by rw[<- cZ];exact hb⟩
   have fF:∀b,db val=some b->w.heap.size<=b/\b<w'.heap.size:=fun b hb=>⟨(k2.grow b (bq b hb)).resolve_left (qk b),(k1.ours b (bq b hb)).2⟩
   have Dc:=k1.ok j
   unfold au at Dc
   rw[show(hp o1 n1).o j= .arr ep ty sz es from hj]at Dc
   obtain⟨cJ,xs,dh,aX⟩:=Dc
   have OU:∀b,ad M (aY φ fr val) ((⟨o',us⟩:Hp).put [(fr, .arr 0 ty sz es)]) b->ad (ad M φ ⟨o',us⟩) eV (hp o1 n1) b:=by
    rintro b (hb|⟨id,hl,hb⟩)
    ·exact .inl (.inl hb)
    ·by_cases e:id=fr
     ·subst e
      simp at hb
      exact .inr (bq b hb)
     ·simp[e]at hl hb
      exact .inl (.inr ⟨id,hl,hb⟩)
   exact fin val xs fF cJ (by rw[cZ];exact dh) (aX.mono (w:=w') (w':=w') (fun b _ hB=>⟨rfl,fun h=>hB (OU b h)⟩)) v0
  ·have g1:val= .slice none 0 0:=g1
   subst g1
   exact fin _ [] (fun b hb=>by cases hb) cJ (World.ownsRow_nil w' 0 ty sz) ⟨[],rfl,by simp,rfl⟩ rfl
theorem tO.Ac {P:Program}{g:FuncId}{args:List V}{ds:List D}{o:Nat->aa}{fr:Nat}{ty:TypeId}{sz:Nat}{es:List D}
 (dm:bt o args=some ds) (ku:D.gm es=true) (h:j8 P g (ds.map .d) (fun _=> .no) 0 (fun v o1 _=>(∃j ep,v= .osl j ep/\o1 j= .arr ep ty sz es)\/(v= .aI/\es=[]/\0<sz)) (fun _ _ _=>False)):
 tO P g args (V.aP args) o fr (.osl fr 0) [(fr, .arr 0 ty sz es)]:=by
 refine⟨h.1,fun o' us M φ w vals L0 dq hH hd=> ?_⟩
 obtain⟨f1,f2,f3,f4,f5⟩:=cj hH (V.aP args) (fun id ag=>(L0 id ag).2)
 generalize Ps:(⟨o',us⟩:Hp).put (b7 (⟨o',us⟩:Hp).o (V.aP args))=HF at f1 f2 f3
 let bM:Place:=fun _=> .nilFunc
 have qk:∀b, ¬bp bM (hp (fun _=> .no) 0) b:=by rintro b ⟨id,hl,_⟩;simp[hp,aa.live]at hl
 have hM:∀b,ad M φ HF b->b<w.heap.size:=fun b hb=>hb.elim (f1.oE b) fun hl=>(f1.ours b hl).2
 have o4:D.ak (ad M φ HF) w ds vals.toList:=cp f1 args ds _ (fun id ag=>by rw[f3 id ag];show(o' id).fz=(o id).fz;rw[(L0 id ag).1]) dm (V.aw f2 _ _ hd)
 refine(h.2 (ad M φ HF) bM w vals (jy bM hM) ((V.bE _ _).2 (D.aw (w:=w) (w':=w) (B:=ad M φ HF) (fun b _ hB=>⟨rfl,fun h=>h.elim hB (qk b)⟩) _ _ o4))).mono ?_
 rintro e w' ⟨eV,o1,n1,v,k1,k2,k3⟩
 have hk:df (fun _=>False) w w':=⟨k2.bD.os,k2.bD.tape,k2.bD.output,k2.bD.size,fun k hk _=>k2.bD.block k hk (qk k)⟩
 have EK:(⟨o',us⟩:Hp).put [(fr, .arr 0 ty sz es)]=⟨put o' [(fr, .arr 0 ty sz es)],fun id=>us id\/id=fr⟩:=by
  simp only[Hp.put]
  congr 1
  funext id
  simp
 have fin:∀ (val:Value) (xs:List Value),(∀b,db val=some b->w.heap.size<=b/\b<w'.heap.size)->0<sz->w'.ownsRow 0 ty sz val es.length xs->
  (et (ad M (aY φ fr val) ((⟨o',us⟩:Hp).put [(fr, .arr 0 ty sz es)])) w' sz es xs)->
  val.oneCell'=true->
  ∃ai,af M ai ⟨put o' [(fr, .arr 0 ty sz es)],fun id=>us id\/id=fr⟩ w'/\Trans φ ⟨o',us⟩ w ai ⟨put o' [(fr, .arr 0 ty sz es)],fun id=>us id\/id=fr⟩ w'/\
   ∃yn,Ending.returned val= .returned yn/\V.den (ad M ai ⟨put o' [(fr, .arr 0 ty sz es)],fun id=>us id\/id=fr⟩) ai ⟨put o' [(fr, .arr 0 ty sz es)],fun id=>us id\/id=fr⟩ w' (.osl fr 0) yn:=by
  intro val xs fF cJ dh aX Jw
  have lh:=fG hH hk dq (.arr 0 ty sz es) val fF (by
   unfold au
   rw[show((⟨o',us⟩:Hp).put [(fr, .arr 0 ty sz es)]).o fr= .arr 0 ty sz es by simp]
   refine⟨cJ,xs, ?_,aX⟩
   rw[show aY φ fr val fr=val by simp]
   exact dh)
  have Gh:=dz (φ:=φ) (H:=⟨o',us⟩) hk dq (.arr 0 ty sz es) val (fun b hb=>(fF b hb).1)
  rw[EK]at lh Gh
  refine⟨aY φ fr val,lh,Gh,val,rfl,Jw, .inr rfl,fun e he=> ?_⟩
  have dN:0=e:=by
   have:(put o' [(fr,aa.arr 0 ty sz es)] fr).aL=some 0:=by simp[put,aa.aL]
   rw[show(⟨put o' [(fr, .arr 0 ty sz es)],fun id=>us id\/id=fr⟩:Hp).o fr=put o' [(fr, .arr 0 ty sz es)] fr from rfl,this]at he
   injection he
  exact⟨by omega,fun _=>by simp⟩
 cases e with
 |outgrown=>exact k3.elim
 |panicked ch=>obtain⟨_,_,_,h⟩:=k3;exact h.elim
 |returned val=>
  obtain⟨g1,⟨j,ep,rfl,hj⟩|⟨rfl,rfl,cJ⟩⟩:=k3
  ·obtain⟨v0,v1,v2⟩:=g1
   have cZ:val=eV j:=(v2 ep (by show(o1 j).aL=some ep;rw[hj];rfl)).2 rfl
   have bq:∀b,db val=some b->bp eV (hp o1 n1) b:=fun b hb=>⟨j,by show(o1 j).live=true;rw[hj];rfl,by rw[<- cZ];exact hb⟩
   have fF:∀b,db val=some b->w.heap.size<=b/\b<w'.heap.size:=fun b hb=>⟨(k2.grow b (bq b hb)).resolve_left (qk b),(k1.ours b (bq b hb)).2⟩
   have Dc:=k1.ok j
   unfold au at Dc
   rw[show(hp o1 n1).o j= .arr ep ty sz es from hj]at Dc
   obtain⟨cJ,xs,dh,aX⟩:=Dc
   obtain⟨evs,e1,e2,e3⟩:=aX
   exact fin val xs fF cJ (by rw[cZ];exact dh) ⟨evs,e1,e2,D.ir _ _ ku e3⟩ v0
  ·have g1:val= .slice none 0 0:=g1
   subst g1
   exact fin _ [] (fun b hb=>by cases hb) cJ (World.ownsRow_nil w' 0 ty sz) ⟨[],rfl,by simp,rfl⟩ rfl
theorem tO.Ad {P:Program}{g:FuncId}{args:List V}{ds:List D}{o0 o:Nat->aa}{rd:List Nat}{fr:Nat}{v:V}{Δ:List (Nat×aa)}(ag:V.aP args=[])(dm:bt o0 args=some ds)
 (h:tO P g (ds.map .d) rd o fr v Δ):tO P g args rd o fr v Δ:=
 ⟨h.1,fun o' us M φ w vals h1 h2 hH hd=>h.2 o' us M φ w vals h1 h2 hH ((V.bE _ _).2 (cp hH args ds _ (by rw[ag];intro id h;cases h) dm hd))⟩
end Go.Proofs.YtbmnikpknlkbkaaGreat
