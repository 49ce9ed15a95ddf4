/-
  A PART OF THE PROOF. Conditions: none.
-/
import Derived.Test.YtnkamdiiakdkgaaGreatEd11
set_option linter.unusedSimpArgs false
set_option linter.unusedVariables false
namespace Go.Proofs.YtnkamdiiakdkgaaGreat
section
inductive Tr (α:Type) where
 |e (f:Nat->α)
 |n (x:α) (l r:Tr α)
noncomputable def Tr.get {α:Type}(t:Tr α):Nat->α:=
 Tr.rec (motive:=fun _=>Nat->α) (fun f=>f) (fun x _ _ l r k=>Bool.rec (Bool.rec (r (Nat.sub (Nat.div k 2) 1)) (l (Nat.div k 2)) (Nat.beq (Nat.mod k 2) 1)) x (Nat.beq k 0)) t
theorem Tr.Ff {α:Type}(f:Nat->α):(Tr.e f).get=f:=rfl
noncomputable def Tr.uB {α:Type}(x:α):Nat->Tr α->Nat->Tr α
 |0,t,k=> .e (aA t.get k x)
 |d+1, .e f,k=>match Nat.beq k 0 with
  |true=> .n x (.e fun i=>f (2*i+1)) (.e fun i=>f (2*i+2))
  |false=>match Nat.beq (k%2) 1 with
   |true=> .n (f 0) (Tr.uB x d (.e fun i=>f (2*i+1)) (k/2)) (.e fun i=>f (2*i+2))
   |false=> .n (f 0) (.e fun i=>f (2*i+1)) (Tr.uB x d (.e fun i=>f (2*i+2)) (k/2 - 1))
 |d+1, .n y l r,k=>match Nat.beq k 0 with
  |true=> .n x l r
  |false=>match Nat.beq (k%2) 1 with
   |true=> .n y (Tr.uB x d l (k/2)) r
   |false=> .n y l (Tr.uB x d r (k/2 - 1))
noncomputable def Tr.set {α:Type}(t:Tr α)(k:Nat)(x:α):Tr α:=Tr.uB x 24 t k
theorem Tr.uC {α:Type}{x:α}{l r:Tr α}{k:Nat}:(Tr.n x l r).get k=if k=0 then x else if k%2=1 then l.get (k/2)else r.get (k/2 - 1):=by
 show @Bool.rec (fun _=>α) (@Bool.rec (fun _=>α) (r.get (k/2 - 1)) (l.get (k/2)) (Nat.beq (k%2) 1)) x (Nat.beq k 0)=_
 by_cases h:k=0
 ·subst h;rfl
 ·have:Nat.beq k 0=false:=by cases k with|zero=>exact absurd rfl h|succ k=>rfl
  simp only[this,h,if_false]
  by_cases h2:k%2=1
  ·simp[h2]
  ·have:Nat.beq (k%2) 1=false:=by
    cases hb:Nat.beq (k%2) 1 with
    |false=>rfl
    |true=>exact absurd (Nat.eq_of_beq_eq_true hb) h2
   simp[h2,this]
theorem Tr.m4 {α:Type}(x:α):∀ (d:Nat) (t:Tr α) (k:Nat),(Tr.uB x d t k).get=aA t.get k x
 |0,t,k=>rfl
 |d+1, .e f,k=>by
  funext i
  simp only[Tr.uB]
  have hb:∀a b:Nat,Nat.beq a b=decide (a=b):=fun a b=>by
   cases h:Nat.beq a b with
   |true=>simp[Nat.eq_of_beq_eq_true h]
   |false=>simp[Nat.ne_of_beq_eq_false h]
  rw[hb,hb]
  by_cases h:k=0
  ·subst h
   simp only[decide_true,Tr.uC,aJ]
   by_cases hi:i=0
   ·simp[hi]
   ·simp only[hi,if_false]
    by_cases h2:i%2=1
    ·simp only[h2,if_true,Tr.Ff];congr 1;omega
    ·simp only[h2,if_false,Tr.Ff];congr 1;omega
  ·simp only[h,decide_false]
   by_cases hk:k%2=1
   ·simp only[hk,decide_true,Tr.uC,Tr.m4 x d,aJ,Tr.Ff]
    by_cases hi:i=0
    ·exact Eo
    ·simp only[hi,if_false]
     by_cases h2:i%2=1
     ·simp only[h2,if_true]
      have e1:2*(i/2)+1=i:=af
      rw[e1]
      by_cases e:i=k
      ·simp[e]
      ·exact Ek
     ·simp only[h2,if_false]
      rw[if_neg (by intro e;subst e;exact h2 hk)]
      congr 1;omega
   ·simp only[hk,decide_false,Tr.uC,Tr.m4 x d,aJ,Tr.Ff]
    by_cases hi:i=0
    ·exact Eo
    ·simp only[hi,if_false]
     by_cases h2:i%2=1
     ·simp only[h2,if_true]
      rw[if_neg (by intro e;subst e;exact hk h2)]
      congr 1;omega
     ·simp only[h2,if_false]
      have e1:2*(i/2 - 1)+2=i:=af
      rw[e1]
      by_cases e:i=k
      ·simp[e]
      ·exact Ek
 |d+1, .n y l r,k=>by
  funext i
  simp only[Tr.uB]
  have hb:∀a b:Nat,Nat.beq a b=decide (a=b):=fun a b=>by
   cases h:Nat.beq a b with
   |true=>simp[Nat.eq_of_beq_eq_true h]
   |false=>simp[Nat.ne_of_beq_eq_false h]
  rw[hb,hb]
  by_cases h:k=0
  ·subst h
   simp only[decide_true,Tr.uC,aJ]
   by_cases hi:i=0
   ·simp[hi]
   ·simp[hi]
  ·simp only[h,decide_false]
   by_cases hk:k%2=1
   ·simp only[hk,decide_true,Tr.uC,Tr.m4 x d,aJ]
    by_cases hi:i=0
    ·exact Eo
    ·simp only[hi,if_false]
     by_cases h2:i%2=1
     ·simp only[h2,if_true]
      by_cases e:i=k
      ·simp[e]
      ·exact Ek
     ·simp only[h2,if_false]
      rw[if_neg (by intro e;subst e;exact h2 hk)]
   ·simp only[hk,decide_false,Tr.uC,Tr.m4 x d,aJ]
    by_cases hi:i=0
    ·exact Eo
    ·simp only[hi,if_false]
     by_cases h2:i%2=1
     ·simp only[h2,if_true]
      rw[if_neg (by intro e;subst e;exact hk h2)]
     ·simp only[h2,if_false]
      by_cases e:i=k
      ·simp[e]
      ·exact Ek
theorem Tr.hY {α:Type}(t:Tr α)(k:Nat)(x:α):(t.set k x).get=aA t.get k x:=Tr.m4 x 24 t k
noncomputable def Nat.fc {β:Type}(n:Nat)(c:Nat->β):β:=Nat.rec (motive:=fun _=>β) (c 0) (fun m _=>c (Nat.succ m)) n
theorem Nat.cJ {β:Type}(n:Nat)(c:Nat->β):Nat.fc n c=c n:=by cases n<;>rfl
noncomputable def Int.fc {β:Type}(n:Int)(c:Int->β):β:=Int.rec (motive:=fun _=>β) (fun m=>Nat.fc m fun m=>c (.ofNat m)) (fun m=>Nat.fc m fun m=>c (.negSucc m)) n
theorem Int.cJ {β:Type}(n:Int)(c:Int->β):Int.fc n c=c n:=by cases n<;>simp only[Int.fc,Nat.cJ]
mutual
noncomputable def D.fc {β:Type}:D->(D->β)->β
 | .int k n,c=>Int.fc n fun n=>c (.int k n)
 | .bool b,c=>match b with|true=>c (.bool true)|false=>c (.bool false)
 | .agg l,c=>D.uD l fun l=>c (.agg l)
 | .sl l,c=>D.uD l fun l=>c (.sl l)
 | .iface t x,c=>D.fc x fun x=>c (.iface t x)
 | .str s,c=>c (.str s)
 | .gC,c=>c .gC
 | .ma,c=>c .ma
 | .b7,c=>c .b7
 | .ig,c=>c .ig
 | .mp ks vs,c=>D.uD ks fun ks=>D.uD vs fun vs=>c (.mp ks vs)
noncomputable def D.uD {β:Type}:List D->(List D->β)->β
 |[],c=>c []
 |x::xs,c=>D.fc x fun x=>D.uD xs fun xs=>c (x::xs)
end
mutual
theorem D.cJ {β:Type}:∀ (x:D) (c:D->β),D.fc x c=c x
 | .int k n,c=>by simp only[D.fc,Int.cJ]
 | .bool b,c=>by cases b<;>rfl
 | .agg l,c=>by simp only[D.fc,D.eY l]
 | .sl l,c=>by simp only[D.fc,D.eY l]
 | .iface t x,c=>by simp only[D.fc,D.cJ x]
 | .mp ks vs,c=>by simp only[D.fc,D.eY ks,D.eY vs]
 | .str _,_| .gC,_| .ma,_| .b7,_| .ig,_=>by simp only[D.fc]
theorem D.eY {β:Type}:∀ (x:List D) (c:List D->β),D.uD x c=c x
 |[],c=>by simp only[D.uD]
 |x::xs,c=>by simp only[D.uD,D.cJ x,D.eY xs]
end
mutual
noncomputable def V.fc {β:Type}:V->(V->β)->β
 | .d x,c=>D.fc x fun x=>c (.d x)
 | .agg l,c=>V.uD l fun l=>c (.agg l)
 | .bU l,c=>V.uD l fun l=>c (.bU l)
 | .ptr i o,c=>Nat.fc i fun i=>Nat.fc o fun o=>c (.ptr i o)
 | .osl i o,c=>Nat.fc i fun i=>Nat.fc o fun o=>c (.osl i o)
 | .pe a b i j k,c=>Nat.fc a fun a=>Nat.fc b fun b=>Nat.fc i fun i=>Nat.fc j fun j=>Nat.fc k fun k=>c (.pe a b i j k)
 | .pp l o,c=>D.uD l fun l=>Nat.fc o fun o=>c (.pp l o)
 | .func f a b,c=>V.uD a fun a=>V.uD b fun b=>c (.func f a b)
 | .iface t x,c=>V.fc x fun x=>c (.iface t x)
 | .qB l,c=>D.uD l fun l=>c (.qB l)
 | .wx i j k,c=>Nat.fc i fun i=>Nat.fc j fun j=>Nat.fc k fun k=>c (.wx i j k)
 | .mp i,c=>Nat.fc i fun i=>c (.mp i)
 | .ja i,c=>Nat.fc i fun i=>c (.ja i)
 | .bd,c=>c .bd
 | .aa,c=>c .aa
 | .eV,c=>c .eV
noncomputable def V.uD {β:Type}:List V->(List V->β)->β
 |[],c=>c []
 |x::xs,c=>V.fc x fun x=>V.uD xs fun xs=>c (x::xs)
end
mutual
theorem V.cJ {β:Type}:∀ (x:V) (c:V->β),V.fc x c=c x
 | .d x,c=>by simp only[V.fc,D.cJ]
 | .agg l,c=>by simp only[V.fc,V.eY l]
 | .bU l,c=>by simp only[V.fc,V.eY l]
 | .pp l o,c=>by simp only[V.fc,D.eY,Nat.cJ]
 | .func f a b,c=>by simp only[V.fc,V.eY a,V.eY b]
 | .iface t x,c=>by simp only[V.fc,V.cJ x]
 | .qB l,c=>by simp only[V.fc,D.eY]
 | .ptr _ _,_| .osl _ _,_| .pe _ _ _ _ _,_| .wx _ _ _,_| .mp _,_| .ja _,_| .bd,_| .aa,_| .eV,_=>by simp only[V.fc,Nat.cJ]
theorem V.eY {β:Type}:∀ (x:List V) (c:List V->β),V.uD x c=c x
 |[],c=>by simp only[V.uD]
 |x::xs,c=>by simp only[V.uD,V.cJ x,V.eY xs]
end
section
variable {β:Type}
noncomputable def ZR(k:IntKind)(n:Int)(c:V->β):β:=Int.fc n fun n=>c (.d (.int k n))
noncomputable def ZS(b:Bool)(c:V->β):β:= @Bool.rec (fun _=>β) (c (.d (.bool false))) (c (.d (.bool true))) b
noncomputable def T1(x:D)(c:V->β):β:=D.fc x fun x=>c (.d x)
noncomputable def vD(x:D):(V->β)->β:=match x with| .int k n=>ZR k n| .bool b=>ZS b|x=>T1 x
noncomputable def ZT(i o:Nat)(c:V->β):β:=Nat.fc i fun i=>Nat.fc o fun o=>c (.ptr i o)
noncomputable def ZU(i o:Nat)(c:V->β):β:=Nat.fc i fun i=>Nat.fc o fun o=>c (.osl i o)
noncomputable def vPe(a b i j k:Nat)(c:V->β):β:=Nat.fc a fun a=>Nat.fc b fun b=>Nat.fc i fun i=>Nat.fc j fun j=>Nat.fc k fun k=>c (.pe a b i j k)
noncomputable def V.W6 (v:V):(V->β)->β:=match v with| .d x=>vD x| .ptr i o=>ZT i o| .osl i o=>ZU i o| .pe a b i j k=>vPe a b i j k|v=>V.fc v
theorem V.T2 (v:V)(c:V->β):V.W6 v c=c v:=by
 cases v
 case d x=>
  cases x
  case int k n=>simp only[V.W6,vD,ZR,Int.cJ]
  case bool b=>cases b<;>rfl
  all_goals exact D.cJ _ _
 case ptr i o=>simp only[V.W6,ZT,Nat.cJ]
 case osl i o=>simp only[V.W6,ZU,Nat.cJ]
 case pe a b i j k=>simp only[V.W6,vPe,Nat.cJ]
 all_goals exact V.cJ _ _
end
noncomputable def W7{β:Type}:List (D×D)->(List (D×D)->β)->β
 |[],c=>c []
 |(a,b)::l,c=>D.fc a fun a=>D.fc b fun b=>W7 l fun l=>c ((a,b)::l)
theorem Kl{β:Type}:∀ (x:List (D×D)) (c:List (D×D)->β),W7 x c=c x
 |[],c=>rfl
 |(a,b)::l,c=>by simp only[W7,D.cJ,Kl l]
noncomputable def ab.fc {β:Type}(x:ab)(c:ab->β):β:=
 match x with
 | .row cs=>V.uD cs fun cs=>c (.row cs)
 | .arr e t s es=>Nat.fc e fun e=>Nat.fc s fun s=>D.uD es fun es=>c (.arr e t s es)
 | .rN e es=>Nat.fc e fun e=>D.uD es fun es=>c (.rN e es)
 | .map kt vt l=>W7 l fun l=>c (.map kt vt l)
 | .gH l=>W7 l fun l=>c (.gH l)
 | .oA l last=>W7 l fun l=>c (.oA l last)
 | .xT l pos=>Nat.fc pos fun pos=>c (.xT l pos)
 |x=>c x
theorem ab.cJ {β:Type}(x:ab)(c:ab->β):ab.fc x c=c x:=by cases x<;>simp only[ab.fc,V.eY,D.eY,Nat.cJ,Kl]
noncomputable def Tr.xe {α β:Type}(x:α)(d:Nat):Tr α->Nat->(Tr α->β)->β:=
 Nat.rec (motive:=fun _=>Tr α->Nat->(Tr α->β)->β) (fun t k c=>c (.e (aA t.get k x)))
  (fun _ ih t k c=>Tr.rec (motive:=fun _=>β) (fun f=>
   Bool.rec (Bool.rec (ih (.e fun i=>f (2*i+2)) (Nat.sub (Nat.div k 2) 1) fun r=>c (.n (f 0) (.e fun i=>f (2*i+1)) r)) (ih (.e fun i=>f (2*i+1)) (Nat.div k 2) fun l=>c (.n (f 0) l (.e fun i=>f (2*i+2)))) (Nat.beq (Nat.mod k 2) 1))
    (c (.n x (.e fun i=>f (2*i+1)) (.e fun i=>f (2*i+2)))) (Nat.beq k 0))
   (fun y l r _ _=>Bool.rec (Bool.rec (ih r (Nat.sub (Nat.div k 2) 1) fun r=>c (.n y l r)) (ih l (Nat.div k 2) fun l=>c (.n y l r)) (Nat.beq (Nat.mod k 2) 1)) (c (.n x l r)) (Nat.beq k 0)) t) d
theorem Tr.uE {α β:Type}(x:α):∀ (d:Nat) (t:Tr α) (k:Nat) (c:Tr α->β),Tr.xe x d t k c=c (Tr.uB x d t k)
 |0,t,k,c=>rfl
 |d+1, .e f,k,c=>by
  show @Bool.rec (fun _=>β) (@Bool.rec (fun _=>β) (Tr.xe x d (.e fun i=>f (2*i+2)) (k/2 - 1) fun r=>c (.n (f 0) (.e fun i=>f (2*i+1)) r)) (Tr.xe x d (.e fun i=>f (2*i+1)) (k/2) fun l=>c (.n (f 0) l (.e fun i=>f (2*i+2)))) (Nat.beq (k%2) 1)) (c (.n x (.e fun i=>f (2*i+1)) (.e fun i=>f (2*i+2)))) (Nat.beq k 0)=_
  simp only[Tr.uB,Tr.uE x d]
  cases Nat.beq k 0
  ·cases Nat.beq (k%2) 1<;>rfl
  ·rfl
 |d+1, .n y l r,k,c=>by
  show @Bool.rec (fun _=>β) (@Bool.rec (fun _=>β) (Tr.xe x d r (k/2 - 1) fun r=>c (.n y l r)) (Tr.xe x d l (k/2) fun l=>c (.n y l r)) (Nat.beq (k%2) 1)) (c (.n x l r)) (Nat.beq k 0)=_
  simp only[Tr.uB,Tr.uE x d]
  cases Nat.beq k 0
  ·cases Nat.beq (k%2) 1<;>rfl
  ·rfl
noncomputable def Tr.T3 {α β:Type}(t:Tr α)(k:Nat)(x:α)(c:Tr α->β):β:=Tr.xe x 24 t k c
theorem Tr.Fg {α β:Type}(t:Tr α)(k:Nat)(x:α)(c:Tr α->β):t.T3 k x c=c (t.set k x):=Tr.uE x 24 t k c
structure St where
 env:Tr V
 o:Tr ab
 nx:Nat
noncomputable def St.S (st:St):S:=⟨st.env.get,st.o.get,st.nx⟩
noncomputable def G9(o:Tr ab)(Δ:List (Nat×ab)):Tr ab:=Δ.foldl (fun f x=>f.set x.1 x.2) o
noncomputable def si(env:Tr V)(dst:Option Tmp)(v:V):Tr V:=match dst with|some d=>env.set d v|none=>env
noncomputable def uF{β:Type}(o:Tr ab):List (Nat×ab)->(Tr ab->β)->β
 |[],c=>c o
 |(i,x)::Δ,c=>ab.fc x fun x=>o.T3 i x fun o=>uF o Δ c
theorem m5{β:Type}:∀ (Δ:List (Nat×ab)) (o:Tr ab) (c:Tr ab->β),uF o Δ c=c (G9 o Δ)
 |[],o,c=>rfl
 |(i,x)::Δ,o,c=>by simp only[uF,ab.cJ,Tr.Fg,m5 Δ];rfl
noncomputable def lT{β:Type}(env:Tr V)(dst:Option Tmp)(v:V)(c:Tr V->β):β:=match dst with|some d=>V.W6 v fun v=>env.T3 d v c|none=>c env
theorem jm{β:Type}(env:Tr V)(dst:Option Tmp)(v:V)(c:Tr V->β):lT env dst v c=c (si env dst v):=by
 cases dst<;>simp only[lT,si,V.T2,Tr.Fg]
theorem jI:∀ (Δ:List (Nat×ab)) (o:Tr ab),(G9 o Δ).get=put o.get Δ
 |[],_=>rfl
 |x::Δ,o=>by
  simp only[G9,put,List.foldl_cons]
  have:=jI Δ (o.set x.1 x.2)
  simp only[G9,put]at this
  rw[this,Tr.hY]
theorem jg(env:Tr V)(dst:Option Tmp)(v:V):(si env dst v).get=aY env.get dst v:=by
 cases dst<;>simp[si,aY,Tr.hY]
section T4
def QH(x:Operand)(_:Program)(s:S)(_:Nat):Option fA:=one (s.ev x)
def ZV(c a b:Operand)(_:Program)(s:S)(_:Nat):Option fA:=lP (pL (s.ev c) (s.ev a) (s.ev b))
def T5(t:TypeId)(parts:Array (Nat×Operand))(P:Program)(s:S)(_:Nat):Option fA:=lP (yl P t (parts.toList.map fun p=>(p.1,s.ev p.2)))
def Bv(t:TypeId)(len:Nat)(parts:Array (Nat×Operand))(P:Program)(s:S)(fr:Nat):Option fA:=fM P s.o fr t len (parts.toList.map fun p=>(p.1,s.ev p.2))
def ZW(t:TypeId)(x:Operand)(P:Program)(s:S)(_:Nat):Option fA:=mQ P s.o t (s.ev x)
def T6(t:TypeId)(x v:Operand)(P:Program)(s:S)(_:Nat):Option fA:=q9 P s.o t (s.ev x) (s.ev v)
def adm(x:Operand)(_:Program)(s:S)(_:Nat):Option fA:=lP (jh s.o (s.ev x))
noncomputable def ZX(op:BinOp):IntKind->Int->Int->Option V:=
 match op with
 | .add=>fun k a b=>some (.d (.int k (k.wrap (Int.add a b))))
 | .sub=>fun k a b=>some (.d (.int k (k.wrap (Int.sub a b))))
 | .mul=>fun k a b=>some (.d (.int k (k.wrap (Int.mul a b))))
 |op=>AZ op
theorem NA(op:BinOp):ZX op=AZ op:=by cases op<;>rfl
def asInt(x:V):Option (IntKind×Int):=match x with| .d (.int k a)=>some (k,a)|_=>none
def Km(op:BinOp)(t:TypeId)(c:Bool)(x y:V)(P:Program)(o:Nat->ab):Option fA:=eT P o op t c x y
noncomputable def ZY(op:BinOp)(t:TypeId)(x y:Operand)(P:Program)(s:S)(_:Nat):Option fA:=
 match asInt (s.ev x)with
 |some (k,a)=>match asInt (s.ev y)with
  |some (k',b)=>if k=k' then match ZX op k a b with
   |some v=>some (v,[],[])
   |none=>Km op t (isConst x||isConst y) (s.ev x) (s.ev y) P s.o
   else none
  |none=>Km op t (isConst x||isConst y) (s.ev x) (s.ev y) P s.o
 |none=>Km op t (isConst x||isConst y) (s.ev x) (s.ev y) P s.o
theorem Bw{x:V}{k:IntKind}{a:Int}(h:asInt x=some (k,a)):x= .d (.int k a):=by
 unfold asInt at h;split at h
 ·injection h with h;cases h;rfl
 ·cases h
def DF(t:TypeId)(x:Operand)(f:Nat)(P:Program)(s:S)(_:Nat):Option fA:=lP (gN P s.o t (s.ev x) f)
def DG(t:TypeId)(x i:Operand)(P:Program)(s:S)(_:Nat):Option fA:=gM P s.o t (s.ev x) (s.ev i)
def T7(op:Op)(P:Program)(s:S)(fr:Nat):Option fA:=fS P s fr op
noncomputable def NB(op:Op):Program->S->Nat->Option fA:=
 match op with
 | .move x=>QH x
 | .assign x=>QH x
 | .pick c a b=>ZV c a b
 | .build t parts=>T5 t parts
 | .buildSlice t len parts=>Bv t len parts
 | .load t x=>ZW t x
 | .store t x v=>T6 t x v
 | .nilCheck x=>adm x
 | .binOp op t x y _=>ZY op t x y
 | .fieldAddr t x f=>DF t x f
 | .indexAddr t x i=>DG t x i
 |op=>T7 op
theorem Fh{op:Op}{P:Program}{s:S}{fr:Nat}{r:fA}(h:NB op P s fr=some r):fS P s fr op=some r:=by
 cases op
 case binOp op t x y yt=>
  simp only[NB,ZY,NA]at h
  have e:fS P s fr (.binOp op t x y yt)=eT P s.o op t (isConst x||isConst y) (s.ev x) (s.ev y):=rfl
  rw[e]
  split at h
  ·rename_i k a hx
   split at h
   ·rename_i k' b hy
    split at h
    ·rename_i hk
     split at h
     ·rename_i v hv
      unfold eT yk
      simp only[Bw hx,Bw hy,if_pos hk,hv]
      exact h
     ·exact h
    ·cases h
   ·exact h
  ·exact h
 all_goals exact h
end T4
inductive FD where
 |fn (n:Nat) (ic:IC) (rs:List ResultVar)
 |dfr (n:Nat) (jr fj:IC) (g t:Nat) (jd:List Operand) (rs:List ResultVar) (m r r1:Nat) (Bu:IC)
 |mpc
 |no
def FD.Ok (P:Program)(f:Nat):FD->Prop
 | .fn n ic rs=>aH P f n ic rs
 | .dfr n jr fj g t jd rs m r r1 Bu=>Ke P f n jr fj g t jd rs/\Fe P g m r r1 Bu
 | .mpc=>QG P f
 | .no=>True
inductive CR where
 |ret (v:V) (o:Tr ab) (nx:Nat)|bD (v:V) (o:Tr ab) (nx:Nat)
def CR.to (K X:V->(Nat->ab)->Nat->Prop):CR->Prop
 | .ret v o nx=>K v o.get nx
 | .bD v o nx=>X v o.get nx
inductive RO where
 |ok (st:St)|bD (v:V) (st:St)
def RO.to (K:S->Prop)(X:V->S->Prop):RO->Prop
 | .ok st=>K st.S
 | .bD v st=>X v st.S
inductive dQ where
 |r (x:R)|c (x:CR)
abbrev Kt:=fm->St->Option dQ
abbrev dg:=Nat->Bool->Nat->IC->St->Kt->Option dQ
noncomputable def Ha(P:Program)(rs:List ResultVar)(st:St)(kc:CR->Option dQ):Option dQ:=
 match lK P st.S rs with
 |some [v]=>kc (.ret v st.o st.nx)
 |some vs=>kc (.ret (.bU vs) st.o st.nx)
 |none=>none
noncomputable def QI(P:Program)(rs:List ResultVar)(kc:CR->Option dQ):Kt:=fun e st=>
 match e with
 | .normal=>Ha P rs st kc
 | .ret=>Ha P rs st kc
 | .bD v=>kc (.bD v st.o st.nx)
 | .exit _=>none
noncomputable def Kn(P:Program)(rs:List ResultVar)(kc:CR->Option dQ)(env:Tr V):Kt:=fun e s4=>
 match e with
 | .normal=>Ha P rs ⟨env,s4.o,s4.nx⟩ kc
 | .ret=>Ha P rs ⟨env,s4.o,s4.nx⟩ kc
 |_=>none
def ZZ:fm->Option V
 | .normal=>some (.d .gC)
 | .ret=>some (.d .gC)
 | .bD v=>some v
 | .exit _=>none
noncomputable def Ko(P:Program)(rec:dg)(rs:List ResultVar)(aQ:List V)(m r r1:Nat)(Bu:IC)(kc:CR->Option dQ):Kt:=fun e s3=>
 match ZZ e with
 |some u=>if aQ.length<=m then rec s3.nx true m Bu ⟨.e (aA (aA (cC aQ) r u) r1 u),s3.o,s3.nx⟩ (Kn P rs kc s3.env)else none
 |none=>none
noncomputable def Fi(P:Program)(rec:dg)(n t:Nat)(fj:IC)(g:Nat)(jd:List Operand)(rs:List ResultVar)(m r r1:Nat)(Bu:IC)(kc:CR->Option dQ):Kt:=fun e s1=>
 match e with
 | .normal=>rec s1.nx false n fj ⟨s1.env.set t (.func (.func g) [] (jd.map s1.S.ev)),s1.o,s1.nx⟩ (Ko P rec rs (jd.map s1.S.ev) m r r1 Bu kc)
 |_=>none
noncomputable def Kp(P:Program)(bJ:Nat->FD)(rec:dg)(g:Nat)(args:List V)(o:Tr ab)(nx:Nat)(kc:CR->Option dQ):Option dQ:=
 match bJ g with
 | .fn n ic rs=>if args.length<=n then rec nx false n ic ⟨.e (cC args),o,nx⟩ (QI P rs kc)else none
 | .dfr n jr fj g t jd rs m r r1 Bu=>if args.length<=n then rec nx true n jr ⟨.e (cC args),o,nx⟩ (Fi P rec n t fj g jd rs m r r1 Bu kc)else none
 | .mpc=>match args with
   |[.mp id]=>match o.get id with
    | .map kt vt l=>kc (.ret (.mp nx) (o.set nx (.map kt vt l)) (nx+1))
    |_=>none
   |_=>none
 | .no=>none
def uG:V->List V
 | .bU vs=>vs
 |v=>[v]
noncomputable def Fj(r:CR):Option R:=
 match r with
 | .ret v o _=>match v with
   | .bU [_]=>none
   |v=>match bV o.get (uG v)with
    |some rs=>some (.ret rs)
    |none=>none
 | .bD v o _=>match dE o.get v with
   |some x=>some (.bD x)
   |none=>none
noncomputable def Z0{β:Type}(x:R)(c:R->β):β:=match x with| .ret l=>D.uD l fun l=>c (.ret l)| .bD d=>D.fc d fun d=>c (.bD d)
theorem DH{β:Type}(x:R)(c:R->β):Z0 x c=c x:=by cases x<;>simp only[Z0,D.eY,D.cJ]
noncomputable def Bx(r:CR):Option dQ:=match Fj r with|some x=>Z0 x fun x=>some (.r x)|none=>none
theorem Kq{r:CR}{a:dQ}(h:Bx r=some a):∃x,Fj r=some x/\a= .r x:=by
 unfold Bx at h
 split at h
 ·rename_i x hx;rw[DH]at h;injection h with h;exact⟨x,hx,h.symm⟩
 ·cases h
def Kr(out:R)(o:Tr ab)(nx:Nat):CR:=
 match out with
 | .ret rs=> .ret (jb rs) o nx
 | .bD x=> .bD (.d x) o nx
structure pZ (P:Program) where
 Z1:Nat->Bool
 fx:Nat->List D->Option R
 ok:∀g ds out,fx g ds=some out->aT P g ds out
def Ks(l:List (Nat×List D×R))(g:Nat)(ds:List D):Option R:=
 match l with
 |[]=>none
 |x::l=>match Nat.beq x.1 g with
  |true=>match D.fI x.2.1 ds with
   |true=>some x.2.2
   |false=>Ks l g ds
  |false=>Ks l g ds
theorem yQ{P:Program}:∀ {l:List (Nat×List D×R)},(∀x∈l,aT P x.1 x.2.1 x.2.2)->∀g ds out,Ks l g ds=some out->aT P g ds out
 |[],_,_,_,_,h=>by cases h
 |x::l,hl,g,ds,out,h=>by
  simp only[Ks]at h
  split at h
  ·rename_i hg
   split at h
   ·rename_i hd
    injection h with h
    have:=hl x aL
    rw[Nat.eq_of_beq_eq_true hg,D.dp _ _ hd,h]at this
    exact this
   ·exact yQ (fun y hy=>hl y rL) g ds out h
  ·exact yQ (fun y hy=>hl y rL) g ds out h
def pZ.of {P:Program}(Z1:Nat->Bool)(l:List (Nat×List D×R))(h:∀x∈l,aT P x.1 x.2.1 x.2.2):pZ P:=⟨Z1,Ks l,yQ h⟩
noncomputable def NC(P:Program)(bJ:Nat->FD)(md:pZ P)(rec:dg)(g:Nat)(ds:List D):Option R:=
 match md.fx g ds with
 |some out=>some out
 |none=>match Kp P bJ rec g (ds.map .d) (.e fun _=> .no) 0 Bx with
  |some (.r x)=>some x
  |_=>none
noncomputable def QJ(out:R)(o:Tr ab)(nx:Nat)(args:List V)(kc:CR->Option dQ):Option dQ:=
 match out.flat with
 |true=>kc (Kr out o (nx+1))
 |false=>match out.mJ with
  |true=>kc (Kr out (G9 o (qM o.get (V.bf args))) (nx+1))
  |false=>kc (Kr out (G9 o (cg o.get (V.bf args))) (nx+1))
noncomputable def Fk(P:Program)(bJ:Nat->FD)(md:pZ P)(rec:dg)(g:Nat)(args:List V)(o:Tr ab)(nx:Nat)(kc:CR->Option dQ):Option dQ:=
 match md.Z1 g,bV o.get args with
 |true,some ds=>match NC P bJ md rec g ds with
  |some out=>QJ out o nx args kc
  |none=>none
 |_,_=>Kp P bJ rec g args o nx kc
noncomputable def Ku(id:Nat)(kc:CR->Option dQ):Kt:=fun e s2=>
 match e with
 | .bD v=>kc (.bD v s2.o s2.nx)
 |e=>match s2.o.get id with
  | .loop nf m en p c d _ _=>match e with
    | .normal=>kc (.ret (.d (.bool true)) (s2.o.set id (.loop nf m en p c d .ready none)) s2.nx)
    | .ret=>kc (.ret (.d (.bool false)) (s2.o.set id (.loop nf m en p c d .done (some .ret))) s2.nx)
    | .exit j=>kc (.ret (.d (.bool false)) (s2.o.set id (.loop nf m en p c d .done (some (.exit j)))) s2.nx)
    | .bD _=>none
  |_=>none
noncomputable def Fl(rec:dg)(id nx n:Nat)(fj:IC)(kc:CR->Option dQ):Kt:=fun e s1=>
 match e with
 | .normal=>match s1.o.get id with
   | .loop nf m en p c d .ready pd=>rec nx true n fj ⟨s1.env,s1.o.set id (.loop nf m en p c d .busy pd),s1.nx⟩ (Ku id kc)
   |_=>none
 | .bD v=>kc (.bD v s1.o s1.nx)
 |_=>none
noncomputable def T8(P:Program)(rec:dg)(id:Nat)(args:List V)(o:Tr ab)(nx:Nat)(kc:CR->Option dQ):Option dQ:=
 match o.get id with
 | .loop nf n env ps jr fj _ _=>if nf=P.funcs.size/\id<nx/\ps.all (fun t=>decide (t<n))=true/\args.length=ps.length then
  rec nx true n jr ⟨.e (mW (aS env) ps args),o,nx⟩ (Fl rec id nx n fj kc)
   else none
 |_=>none
noncomputable def xf(P:Program)(st:St)(o:bI)(kr:RO->Option dQ):Option dQ:=
 match NB o.op P st.S st.nx with
 |some (v,Δ,_)=>lT st.env o.dst v fun e=>uF st.o Δ fun ob=>Nat.fc (st.nx+1) fun n=>kr (.ok ⟨e,ob,n⟩)
 |none=>none
noncomputable def Z2(st:St)(dst:Option Nat)(kr:RO->Option dQ)(c:CR):Option dQ:=
 match c with
 | .ret v o nx=>lT st.env dst v fun e=>Nat.fc nx fun nx=>kr (.ok ⟨e,o,nx⟩)
 | .bD v o nx=>kr (.bD v ⟨st.env,o,nx⟩)
noncomputable def Kv(c:Call)(P:Program)(bJ:Nat->FD)(md:pZ P)(rec:dg)(st:St)(o:bI)(kr:RO->Option dQ):Option dQ:=
 match c.callee with
 | .value f=>match st.S.ev f with
   | .func (.func g) first cap=>Fk P bJ md rec g (first++c.args.toList.map st.S.ev++cap) st.o st.nx (Z2 st o.dst kr)
   | .ja id=>T8 P rec id (c.args.toList.map st.S.ev) st.o st.nx (Z2 st o.dst kr)
   |_=>none
 | .invoke r m=>match tX P m (st.S.ev r)with
   |some (g,y)=>Fk P bJ md rec g (y::c.args.toList.map st.S.ev) st.o st.nx (Z2 st o.dst kr)
   |none=>none
 |_=>xf P st o kr
noncomputable def T9(x:Operand)(P:Program)(_:Nat->FD)(_:pZ P)(_:dg)(st:St)(_:bI)(kr:RO->Option dQ):Option dQ:=
 match st.S.ev x with
 | .d (.iface t y)=>kr (.bD (.d (.iface t y)) st)
 | .iface t y=>kr (.bD (.iface t y) st)
 |_=>none
noncomputable def Z3(P:Program)(_:Nat->FD)(_:pZ P)(_:dg)(st:St)(o:bI)(kr:RO->Option dQ):Option dQ:=xf P st o kr
def R.same:R->R->Bool
 | .ret a, .ret b=>D.fI a b
 | .bD a, .bD b=>a.same b
 |_,_=>false
theorem R.dM {x y:R}(h:x.same y=true):x=y:=by
 cases x<;>cases y<;>simp only[R.same,Bool.false_eq_true]at h
 ·rw[D.dp _ _ h]
 ·rw[D.dM _ _ h]
noncomputable def brX(f:Nat->Option dQ):Nat->Option dQ
 |0=>none
 |n+1=>match n with
  |0=>f 0
  |n=>match brX f n with
   |some (.r a)=>match f n with
    |some (.r b)=>match R.same a b with
     |true=>some (.r a)
     |false=>none
    |_=>none
   |_=>none
theorem Kw{f:Nat->Option dQ}{a:dQ}:∀ {n:Nat},brX f n=some a->∀i,i<n->f i=some a
 |0,h,_,_=>by cases h
 |1,h,i,hi=>by obtain rfl:i=0:=af
               exact h
 |n+2,h,i,hi=>by
  simp only[brX]at h
  split at h
  ·rename_i x hx
   split at h
   ·rename_i y hy
    split at h
    ·rename_i he
     have e:=R.dM he
     subst e
     rw[<- h]
     by_cases e:i=n+1
     ·subst e;exact hy
     ·exact Kw hx i af
    ·cases h
   ·cases h
  ·cases h
noncomputable def ND(st:St)(dst:Option Nat)(kr:RO->Option dQ)(v:V)(Δ:List (Nat×ab)):Option dQ:=
 lT st.env dst v fun e=>uF st.o Δ fun ob=>Nat.fc (st.nx+1) fun n=>kr (.ok ⟨e,ob,n⟩)
noncomputable def Kx(x:Operand)(str:Bool)(P:Program)(_:Nat->FD)(_:pZ P)(_:dg)(st:St)(o:bI)(kr:RO->Option dQ):Option dQ:=
 match og st.o.get (st.S.ev x)with
 |some (id,l)=>match str with
  |true=>none
  |false=>match l with
   |[]=>ND st o.dst kr (.bU [.d (.bool false)]) []
   |_=>brX (fun i=>match l[i]? with
    |some (k,x)=>ND st o.dst kr (.bU [.d (.bool true), .d k, .d x]) [(id, .oA (l.eraseIdx i) (some (k,x)))]
    |none=>none) l.length
 |none=>xf P st o kr
noncomputable def opK(op:Op):(P:Program)->(Nat->FD)->pZ P->dg->St->bI->(RO->Option dQ)->Option dQ:=
 match op with
 | .call c=>Kv c
 | .panic x=>T9 x
 | .next x str=>Kx x str
 |_=>Z3
noncomputable def opX(P:Program)(bJ:Nat->FD)(md:pZ P)(rec:dg)(st:St)(o:bI)(kr:RO->Option dQ):Option dQ:=opK o.op P bJ md rec st o kr
noncomputable def roK(next:St->Option dQ)(kr:RO->Option dQ):RO->Option dQ:=fun r=>match r with| .ok st=>next st| .bD v st=>kr (.bD v st)
noncomputable def yU(P:Program)(bJ:Nat->FD)(md:pZ P)(rec:dg)(kr:RO->Option dQ):List bI->St->Option dQ
 |[],st=>kr (.ok st)
 |o::l,st=>match(match o.gd with
   |none=>some true
   |some (d,want)=>match st.env.get d with
    | .d (.bool b)=>some (b==want)
    | .bU []=>some false
    |_=>none)with
  |some true=>opX P bJ md rec st o (roK (yU P bJ md rec kr l) kr)
  |some false=>lT st.env o.dst (.bU []) fun e=>Nat.fc (st.nx+1) fun n=>yU P bJ md rec kr l ⟨e,st.o,n⟩
  |none=>none
section
variable {P:Program}{bJ:Nat->FD}{md:pZ P}
noncomputable def dY(P:Program)(rec:dg):Prop:=∀b rd n ic st k a,rec b rd n ic st k=some a->∀Q:fm->S->Prop,(∀e st',k e st'=some a->Q e st'.S)->ta P n b rd ic Q st.S
theorem th{rs:List ResultVar}{st:St}{kc:CR->Option dQ}{a:dQ}(h:Ha P rs st kc=some a){K X:V->(Nat->ab)->Nat->Prop}(hr:∀r,kc r=some a->r.to K X):lM P rs K X .ret st.S:=by
 unfold Ha at h
 unfold lM
 split at h
 ·rename_i v hv;simp only[hv];exact hr _ h
 ·rename_i vs hv hn
  simp only[hn]
  exact hr _ h
 ·cases h
theorem m6(bc:P.follows .mixedOrders=true)(cm:∀g,(bJ g).Ok P g){rec:dg}(bz:dY P rec){g:Nat}{args:List V}{o:Tr ab}{nx:Nat}{kc:CR->Option dQ}{a:dQ}(h:Kp P bJ rec g args o nx kc=some a){K X:V->(Nat->ab)->Nat->Prop}(hr:∀r,kc r=some a->r.to K X):
 cX P g args o.get nx K X:=by
 have aW:=cm g
 unfold Kp at h
 split at h
 ·rename_i n ic rs ht
  rw[ht]at aW
  split at h
  ·rename_i hl
   refine cX.uq bc aW hl ?_
   refine bz _ _ _ _ _ _ _ h _ fun e st he=> ?_
   unfold QI at he
   cases e with
   |normal=>exact th he hr
   |ret=>exact th he hr
   |bD v=>exact hr _ he
   |exit j=>cases he
  ·cases h
 ·rename_i n jr fj g' t jd rs m r0 r1 Bu ht
  rw[ht]at aW
  split at h
  ·rename_i hl
   refine cX.Ki bc aW.1 aW.2 hl (bz _ _ _ _ _ _ _ h _ fun e s1 he=> ?_)
   unfold Fi at he
   cases e with
   |normal=>
    have hb:ta P n s1.nx false fj (DD P m r0 r1 Bu (jd.map s1.S.ev) rs K X) ⟨aA s1.env.get t (.func (.func g') [] (jd.map s1.S.ev)),s1.o.get,s1.nx⟩:=by
     have:=bz _ _ _ _ _ _ _ he (DD P m r0 r1 Bu (jd.map s1.S.ev) rs K X) (fun e s3 W8=>by
      unfold Ko at W8
      split at W8
      ·rename_i u hu
       split at W8
       ·rename_i kV
        have hrw:G7 P m r0 r1 Bu (jd.map s1.S.ev) u s3.o.get s3.nx fun o nx=>lM P rs K X .ret ⟨s3.env.get,o,nx⟩:=by
         refine⟨kV,bz _ _ _ _ _ _ _ W8 _ fun e4 s4 he4=> ?_⟩
         unfold Kn at he4
         cases e4 with
         |normal=>exact th (st:=⟨s3.env,s4.o,s4.nx⟩) he4 hr
         |ret=>exact th (st:=⟨s3.env,s4.o,s4.nx⟩) he4 hr
         |_=>cases he4
        cases e<;>simp only[ZZ,Option.some.injEq,reduceCtorEq]at hu<;>subst hu<;>exact hrw
       ·cases W8
      ·cases W8)
     simp only[St.S,Tr.hY]at this
     exact this
    exact hb
   |_=>cases he
  ·cases h
 ·rename_i ht
  rw[ht]at aW
  split at h
  ·split at h
   ·rename_i kt vt l ho
    have h2:=hr _ h
    simp only[CR.to,Tr.hY]at h2
    exact cX.T0 aW ho h2
   ·cases h
  ·cases h
 ·cases h
theorem Ky{r:CR}{out:R}(ho:Fj r=some out):r.to (fun v o _=>∃vs rs,v=(match vs with|[v]=>v|vs=> .bU vs)/\bV o vs=some rs/\out= .ret rs) (fun v o _=>∃x,dE o v=some x/\out= .bD x):=by
 unfold Fj at ho
 split at ho
 ·rename_i v o nx
  split at ho
  ·cases ho
  ·rename_i hv
   split at ho
   ·rename_i rs YQ
    injection ho with ho;subst ho
    refine⟨uG v,rs, ?_,YQ,rfl⟩
    cases v with
    |bU vs=>
     match vs,hv with
     |[],_=>rfl
     |[x],hv=>exact absurd rfl (hv x)
     |_::_::_,_=>rfl
    |_=>rfl
   ·cases ho
 ·split at ho
  ·rename_i x hx
   injection ho with ho;subst ho
   exact⟨x,hx,rfl⟩
  ·cases ho
theorem Bz(bc:P.follows .mixedOrders=true)(cm:∀g,(bJ g).Ok P g){rec:dg}(bz:dY P rec){g:Nat}{ds:List D}{out:R}(h:Kp P bJ rec g (ds.map .d) (.e fun _=> .no) 0 Bx=some (.r out)):aT P g ds out:=by
 refine aT.mP (m6 bc cm bz h fun r hr=> ?_)
 obtain⟨x,hx,he⟩:=Kq hr
 injection he with he;subst he
 exact Ky hx
theorem yV(bc:P.follows .mixedOrders=true)(cm:∀g,(bJ g).Ok P g){rec:dg}(bz:dY P rec){g:Nat}{ds:List D}{out:R}(h:NC P bJ md rec g ds=some out):aT P g ds out:=by
 unfold NC at h
 split at h
 ·rename_i aeN ho
  injection h with h;subst h
  exact md.ok _ _ _ ho
 ·split at h
  ·rename_i x hr;injection h with h;subst h;exact Bz bc cm bz hr
  ·cases h
theorem BA(bc:P.follows .mixedOrders=true)(cm:∀g,(bJ g).Ok P g){rec:dg}(bz:dY P rec){g:Nat}{args:List V}{o:Tr ab}{nx:Nat}{kc:CR->Option dQ}{a:dQ}(h:Fk P bJ md rec g args o nx kc=some a){K X:V->(Nat->ab)->Nat->Prop}(hr:∀r,kc r=some a->r.to K X):
 P9 P g args o.get nx K X:=by
 unfold Fk at h
 split at h
 ·rename_i ds hmd eK
  split at h
  ·rename_i out Kz
   have hP:=yV bc cm bz Kz
   refine .inl ⟨ds,eK,out,hP, ?_⟩
   unfold QJ at h
   split at h
   ·rename_i hf
    refine .inr (.inl ⟨hf, ?_⟩)
    cases out<;>exact hr _ h
   ·split at h
    ·rename_i hf
     refine .inr (.inr ⟨hf, ?_⟩)
     rw[<- jI]
     cases out<;>exact hr _ h
    ·refine .inl ?_
     rw[<- jI]
     cases out<;>exact hr _ h
  ·cases h
 ·exact .inr (m6 bc cm bz h hr)
theorem NF(bc:P.follows .mixedOrders=true){rec:dg}(bz:dY P rec){id:Nat}{args:List V}{o:Tr ab}{nx:Nat}{kc:CR->Option dQ}{a:dQ}(h:T8 P rec id args o nx kc=some a){K X:V->(Nat->ab)->Nat->Prop}(hr:∀r,kc r=some a->r.to K X):
 dw P id args o.get nx K X:=by
 unfold T8 at h
 split at h
 ·rename_i nf n env ps jr fj st pd ho
  split at h
  ·rename_i hc
   obtain⟨rfl,ck,nD,hl⟩:=hc
   refine dw.uq bc ho ck nD hl ?_
   refine bz _ _ _ _ _ _ _ h _ fun e s1 he=> ?_
   unfold Fl at he
   cases e with
   |normal=>
    simp only at he
    split at he
    ·rename_i nf m en p c d pd oY
     refine⟨nf,m,en,p,c,d,pd,oY, ?_⟩
     have:=bz _ _ _ _ _ _ _ he (jH id K X) (fun e s2 h2=>by
      unfold Ku at h2
      split at h2
      ·exact hr _ h2
      ·rename_i PW
       split at h2
       ·rename_i nf' m' en' p' c' d' st' pd' Ua
        cases e with
        |bD v=>cases h2
        |normal=>have h3:=hr _ h2;simp only[CR.to,Tr.hY]at h3;exact⟨nf',m',en',p',c',d',st',pd',Ua,h3⟩
        |ret=>have h3:=hr _ h2;simp only[CR.to,Tr.hY]at h3;exact⟨nf',m',en',p',c',d',st',pd',Ua,h3⟩
        |exit j=>have h3:=hr _ h2;simp only[CR.to,Tr.hY]at h3;exact⟨nf',m',en',p',c',d',st',pd',Ua,h3⟩
       ·cases h2)
     simp only[St.S,Tr.hY]at this
     exact this
    ·cases he
   |bD v=>exact hr _ he
   |_=>cases he
  ·cases h
 ·cases h
theorem uH{st:St}{o:bI}{kr:RO->Option dQ}{a:dQ}(h:xf P st o kr=some a){K:S->Prop}{X:V->S->Prop}(hr:∀r,kr r=some a->r.to K X):match fS P st.S st.S.nx o.op with
 |some (v,Δ,_)=>K ⟨aY st.S.env o.dst v,put st.S.o Δ,st.S.nx+1⟩
 |none=>False:=by
 unfold xf at h
 split at h
 ·rename_i v Δ rd he
  have he:=Fh he
  simp only[jm,m5,Nat.cJ]at h
  have hr:=hr _ h
  simp only[RO.to,St.S,jg,jI]at hr
  have oX:fS P st.S st.S.nx o.op=some (v,Δ,rd):=he
  simp only[oX]
  exact hr
 ·cases h
theorem Fm{st:St}{dst:Option Nat}{kr:RO->Option dQ}{v:V}{Δ:List (Nat×ab)}{a:dQ}(h:ND st dst kr v Δ=some a){K:S->Prop}{X:V->S->Prop}(hr:∀r,kr r=some a->r.to K X):K ⟨aY st.S.env dst v,put st.S.o Δ,st.S.nx+1⟩:=by
 unfold ND at h
 simp only[jm,m5,Nat.cJ]at h
 have hr:=hr _ h
 simp only[RO.to,St.S,jg,jI]at hr
 exact hr
theorem Ub(bc:P.follows .mixedOrders=true)(cm:∀g,(bJ g).Ok P g){rec:dg}(bz:dY P rec){st:St}{o:bI}{kr:RO->Option dQ}{a:dQ}(h:opX P bJ md rec st o kr=some a){K:S->Prop}{X:V->S->Prop}(hr:∀r,kr r=some a->r.to K X):H9 P st.S o X K:=by
 have cr:∀r,Z2 st o.dst kr r=some a->r.to (fun v o' nx'=>K ⟨aY st.S.env o.dst v,o',nx'⟩) (fun v o' nx'=>X v ⟨st.S.env,o',nx'⟩):=by
  intro r hx
  unfold Z2 at hx
  split at hx
  ·simp only[jm,Nat.cJ]at hx
   have hr:=hr _ hx
   simp only[RO.to,St.S,jg]at hr
   exact hr
  ·exact hr _ hx
 unfold opX at h
 unfold H9
 cases gz:o.op
 case call c=>
  rw[gz]at h
  have h:Kv c P bJ md rec st o kr=some a:=h
  unfold Kv at h
  cases hf:c.callee
  case value f=>
   simp only[hf]at h|-
   split at h
   ·rename_i g first cap hv
    simp only[hv]
    have:=BA bc cm bz h cr
    rcases this with⟨ds,eK,hP⟩|hC
    ·have Uc:bV st.S.o (first++List.map st.S.ev c.args.toList++cap)=some ds:=eK
     simp only[Uc]
     exact .inl hP
    ·split
     ·exact .inr (.inl hC)
     ·exact .inl hC
   ·rename_i id hv
    simp only[hv]
    exact NF bc bz h cr
   ·cases h
  case invoke r m=>
   simp only[hf]at h|-
   split at h
   ·rename_i g y hv
    simp only[hv]
    exact BA bc cm bz h cr
   ·cases h
  all_goals
   simp only[hf]at h|-
   have:=uH h hr
   rw[gz]at this
   exact this
 case panic x=>
  rw[gz]at h
  have h:T9 x P bJ md rec st o kr=some a:=h
  unfold T9 at h
  split at h
  ·rename_i hv;simp only[hv];exact hr _ h
  ·rename_i hv;simp only[hv];exact hr _ h
  ·cases h
 case next x str=>
  rw[gz]at h
  have h:Kx x str P bJ md rec st o kr=some a:=h
  unfold Kx at h
  have hl:og st.S.o (st.S.ev x)=og st.o.get (st.S.ev x):=rfl
  simp only[hl]
  split at h
  ·rename_i id l au
   simp only[au]
   cases str with
   |true=>cases h
   |false=>
    refine⟨rfl,fun e=> ?_,fun i k y e=> ?_⟩
    ·subst e
     exact Fm h hr
    ·cases l with
     |nil=>simp at e
     |cons p l=>
      have:=Kw h i (List.getElem?_eq_some_iff.1 e).1
      rw[e]at this
      exact Fm this hr
  ·rename_i au
   simp only[au]
   have:=uH h hr
   rw[gz]at this
   exact this
 all_goals
  have h2:xf P st o kr=some a:=by rw[gz]at h;exact h
  have:=uH h2 hr
  rw[gz]at this
  exact this
theorem tj(bc:P.follows .mixedOrders=true)(cm:∀g,(bJ g).Ok P g){rec:dg}(bz:dY P rec){kr:RO->Option dQ}{a:dQ}{K:S->Prop}{X:V->S->Prop}(hr:∀r,kr r=some a->r.to K X):∀ (l:List bI) (st:St),yU P bJ md rec kr l st=some a->oN P X K l st.S
 |[],st,h=>hr (.ok st) h
 |o::l,st,h=>by
  simp only[yU,jm,Nat.cJ]at h
  simp only[oN]
  have op:opX P bJ md rec st o (roK (yU P bJ md rec kr l) kr)=some a->H9 P st.S o X (oN P X K l):=by
   intro h
   refine Ub bc cm bz h fun r hrr=> ?_
   cases r with
   |ok Ud=>exact tj bc cm bz hr l Ud hrr
   |bD v Ud=>exact hr (.bD v Ud) hrr
  have sk:yU P bJ md rec kr l ⟨si st.env o.dst (.bU []),st.o,st.nx+1⟩=some a->oN P X K l ⟨aY st.S.env o.dst (.bU []),st.S.o,st.S.nx+1⟩:=by
   intro h
   have:=tj bc cm bz hr l _ h
   exact I6
  cases hg:o.gd with
  |none=>simp only[hg]at h;exact op h
  |some p=>
   obtain⟨d,want⟩:=p
   simp only[hg]at h
   have he:st.S.env d=st.env.get d:=rfl
   simp only[he]
   cases hv:st.env.get d with
   |d x=>
    cases x with
    |bool b=>
     simp only[hv]at h|-
     by_cases e:b=want
     ·subst e
      simp only[beq_self_eq_true]at h
      rw[if_pos rfl];exact op h
     ·have:(b==want)=false:=by simpa using e
      rw[this]at h
      rw[if_neg e];exact sk h
    |_=>simp[hv]at h
   |bU vs=>
    cases vs with
    |nil=>simp only[hv]at h|-;exact sk h
    |cons a bZ=>simp[hv]at h
   |_=>simp[hv]at h
end
end
section
mutual
def V.same:V->V->Bool
 | .d x, .d y=>x.same y
 | .bd, .bd=>true
 | .aa, .aa=>true
 | .agg a, .agg b=>V.fI a b
 | .ptr i o, .ptr j p=>Nat.beq i j&&Nat.beq o p
 | .osl i o, .osl j p=>Nat.beq i j&&Nat.beq o p
 | .qB a, .qB b=>D.fI a b
 | .iface t x, .iface u y=>Nat.beq t u&&x.same y
 | .mp i, .mp j=>Nat.beq i j
 |_,_=>false
def V.fI:List V->List V->Bool
 |[],[]=>true
 |a::bZ,b::bs=>a.same b&&V.fI bZ bs
 |_,_=>false
end
mutual
theorem V.dM:∀ (x y:V),x.same y=true->x=y
 | .d x,y,h=>by cases y<;>simp only[V.same,Bool.false_eq_true]at h;rw[D.dM _ _ h]
 | .bd,y,h=>by cases y<;>simp_all[V.same]
 | .aa,y,h=>by cases y<;>simp_all[V.same]
 | .agg a,y,h=>by cases y<;>simp only[V.same,Bool.false_eq_true]at h;rw[V.dp _ _ h]
 | .ptr i o,y,h=>by
   exact Yx
 | .osl i o,y,h=>by
   exact Yx
 | .qB a,y,h=>by cases y<;>simp only[V.same,Bool.false_eq_true]at h;rw[D.dp _ _ h]
 | .iface t x,y,h=>by
   cases y<;>simp only[V.same,Bool.false_eq_true,Bool.and_eq_true]at h
   rw[Nat.eq_of_beq_eq_true h.1,V.dM _ _ h.2]
 | .mp i,y,h=>by
   cases y<;>simp only[V.same,Bool.false_eq_true]at h
   rw[Nat.eq_of_beq_eq_true h]
 | .bU _,y,h| .pe _ _ _ _ _,y,h| .pp _ _,y,h| .func _ _ _,y,h| .wx _ _ _,y,h| .eV,y,h| .ja _,y,h=>by simp[V.same]at h
theorem V.dp:∀ (x y:List V),V.fI x y=true->x=y
 |[],y,h=>by cases y<;>simp_all[V.fI]
 |a::bZ,y,h=>by
  cases y<;>simp only[V.fI,Bool.false_eq_true,Bool.and_eq_true]at h
  rw[V.dM _ _ h.1,V.dp _ _ h.2]
end
def uI:List (D×D)->List (D×D)->Bool
 |[],[]=>true
 |(a,b)::l,(c,d)::m=>a.same c&&(b.same d&&uI l m)
 |_,_=>false
theorem uJ:∀ (l m:List (D×D)),uI l m=true->l=m
 |[],m,h=>by cases m<;>simp_all[uI]
 |(a,b)::l,m,h=>by
  cases m with
  |nil=>simp[uI]at h
  |cons p m=>
   obtain⟨c,d⟩:=p
   simp only[uI,Bool.and_eq_true]at h
   rw[D.dM _ _ h.1,D.dM _ _ h.2.1,uJ l m h.2.2]
noncomputable def ab.same:ab->ab->Bool
 | .no, .no=>true
 | .row a, .row b=>V.fI a b
 | .arr e t s a, .arr f u r b=>Nat.beq e f&&Nat.beq t u&&Nat.beq s r&&D.fI a b
 | .rN e a, .rN f b=>Nat.beq e f&&D.fI a b
 | .map k v a, .map k' v' b=>Nat.beq k k'&&Nat.beq v v'&&uI a b
 | .gH a, .gH b=>uI a b
 | .xT a i, .xT b j=>a==b&&Nat.beq i j
 |_,_=>false
theorem ab.dM {x y:ab}(h:x.same y=true):x=y:=by
 cases x<;>cases y<;>simp only[ab.same,Bool.false_eq_true,Bool.and_eq_true]at h
 ·rfl
 ·rw[V.dp _ _ h]
 ·rw[Nat.eq_of_beq_eq_true h.1.1.1,Nat.eq_of_beq_eq_true h.1.1.2,Nat.eq_of_beq_eq_true h.1.2,D.dp _ _ h.2]
 ·rw[Nat.eq_of_beq_eq_true h.1,D.dp _ _ h.2]
 ·rw[Nat.eq_of_beq_eq_true h.1.1,Nat.eq_of_beq_eq_true h.1.2,uJ _ _ h.2]
 ·rw[uJ _ _ h]
 ·rw[eq_of_beq h.1,Nat.eq_of_beq_eq_true h.2]
noncomputable def reach(o:Nat->ab):Nat->List Nat->List Nat->List Nat
 |0,_,seen=>seen
 |_+1,[],seen=>seen
 |n+1,id::todo,seen=>match seen.contains id with
  |true=>reach o n todo seen
  |false=>reach o n ((o id).refs++todo) (id::seen)
noncomputable def eh(o o1:Nat->ab):List Nat->List (Nat×ab)
 |[]=>[]
 |id::l=>match(o id).same (o1 id)with
  |true=>eh o o1 l
  |false=>(id,o1 id)::eh o o1 l
theorem iA{o o1:Nat->ab}:∀ (l:List Nat) (x:Nat×ab),x∈eh o o1 l->x.1∈l/\x.2=o1 x.1
 |[],x,h=>by simp[eh]at h
 |id::l,x,h=>by
  simp only[eh]at h
  split at h
  ·obtain⟨h1,h2⟩:=iA l x h;exact⟨List.mem_cons_of_mem _ h1,h2⟩
  ·rcases List.mem_cons.1 h with rfl|h
   ·exact⟨aL,rfl⟩
   ·obtain⟨h1,h2⟩:=iA l x h;exact⟨List.mem_cons_of_mem _ h1,h2⟩
theorem m7{o o1:Nat->ab}:∀ (l:List Nat) (id:Nat),id∈l->id∉(eh o o1 l).map (·.1)->o1 id=o id
 |[],id,h,_=>by simp at h
 |j::l,id,h,hn=>by
  simp only[eh]at hn
  split at hn
  ·rename_i hs
   rcases List.mem_cons.1 h with rfl|h
   ·exact(ab.dM hs).symm
   ·exact m7 l id h hn
  ·simp only[List.map_cons,List.mem_cons,not_or]at hn
   rcases List.mem_cons.1 h with rfl|h
   ·exact absurd rfl hn.1
   ·exact m7 l id h hn.2
theorem BB{o1:Nat->ab}:∀ (Δ:List (Nat×ab)) (o:Nat->ab),(∀x∈Δ,x.2=o1 x.1)->∀id,id∈Δ.map (·.1)\/o id=o1 id->put o Δ id=o1 id
 |[],o,_,id,h=>by rcases h with h|h;· simp at h
                  ·exact h
 |x::Δ,o,hv,id,h=>by
  simp only[put,List.foldl_cons]
  refine BB Δ (aA o x.1 x.2) (fun y hy=>hv y (List.mem_cons_of_mem _ hy)) id ?_
  simp only[List.map_cons,List.mem_cons]at h
  simp only[aJ]
  by_cases e:id=x.1
  ·right;rw[if_pos e,hv x (by simp),e]
  ·rcases h with(h|h)|h
   ·exact absurd h e
   ·exact .inl h
   ·right;rw[if_neg e];exact h
theorem sj{o o1:Nat->ab}{l:List Nat}{id:Nat}(h:id∈l):o1 id=put o (eh o o1 l) id:=by
 by_cases hm:id∈(eh o o1 l).map (·.1)
 ·exact(BB _ o (fun x hx=>(iA l x hx).2) id (.inl hm)).symm
 ·rw[fO hm];exact m7 l id h hm
inductive DR where
 |val (v:V) (Δ:List (Nat×ab)) (rd:List Nat)|bD (v:V) (ws rd:List Nat)
def DR.to (K:V->List (Nat×ab)->List Nat->Prop)(KX:V->List Nat->List Nat->Prop):DR->Prop
 | .val v Δ rd=>K v Δ rd
 | .bD v ws rd=>KX v ws rd
noncomputable def Z4(c:CR):Option dQ:=some (.c c)
noncomputable def hX(P:Program)(bJ:Nat->FD)(rec:dg)(g:Nat)(args:List V)(st:St):Option DR:=
 let rd:=reach st.o.get 2000 (V.aG args) []
 match rd.all (fun id=>Nat.blt id st.nx&&(st.o.get id).refs.all rd.contains)&&(V.aG args).all rd.contains with
 |true=>match Kp P bJ rec g args (.e (Dp rd st.o.get)) st.nx Z4 with
  |some (.c (.ret v o1 _))=>match v with
   | .bU [_]=>none
   |v=>match bV o1.get (uG v)with
    |some rs=>match(eh st.o.get o1.get rd).all (fun x=>x.2.refs.all rd.contains)&&(V.bf (uG v)).all (fun id=> !rd.contains id)with
     |true=>some (.val (jb rs) (eh st.o.get o1.get rd) rd)
     |false=>none
    |none=>none
  |some (.c (.bD v o1 _))=>match dE o1.get v with
   |some x=>match(eh st.o.get o1.get rd).all (fun x=>x.2.refs.all rd.contains)&&v.ids.all (fun id=> !rd.contains id)with
    |true=>some (.bD (.d x) ((eh st.o.get o1.get rd).map (·.1)) rd)
    |false=>none
   |none=>none
  |_=>none
 |false=>none
noncomputable def cDX(P:Program)(bJ:Nat->FD)(md:pZ P)(rec:dg)(g:Nat)(args:List V)(st:St)(rd:List Nat):Option DR:=
 match bV st.o.get args with
 |some ds=>match md.Z1 g with
  |false=>match Kp P bJ rec g (ds.map .d) (.e fun _=> .no) 0 Z4 with
   |some (.c (.ret v _ _))=>match v.refs with
    |[]=>some (.val v (cg st.o.get (V.bf args)) rd)
    |_=>none
   |_=>none
  |true=>match NC P bJ md rec g ds with
   |some (.ret rs)=>match D.jy rs with
    |true=>some (.val (jb rs) [] rd)
    |false=>some (.val (jb rs) (cg st.o.get (V.bf args)) rd)
   |some (.bD x)=>match x.flat with
    |true=>some (.bD (.d x) [] rd)
    |false=>none
   |none=>none
 |none=>hX P bJ rec g args st
noncomputable def sDX(P:Program)(st:St)(fr:Nat)(op:Op):Option DR:=
 match NB op P st.S fr with
 |some (v,Δ,_)=>some (.val v Δ (n6 st.S op))
 |none=>none
def V.adn:V->Bool
 | .mp _=>true
 |_=>false
def Ue{P:Program}(md:pZ P)(g:Nat)(args:List V):Bool:= !md.Z1 g&&args.any V.adn
def xg(args:List V):Option (List D):=
 match V.bf args with
 |[]=>bV (fun _=> .no) args
 |_=>none
noncomputable def NG(P:Program)(t:TypeId)(c:CR):Option dQ:=
 match c with
 | .ret v o1 _=>match v with
   | .osl j ep=>match o1.get j with
     | .arr ij ty sz es=>match Nat.beq ij ep with
       |true=>Z0 (.ret [.sl es, .int .i64 (ty:Nat), .int .i64 (sz:Nat)]) fun x=>some (.r x)
       |false=>none
     |_=>none
   | .bd=>match bW P t with
     |some e=>match Nat.blt 0 (P.cellsOf e)with
      |true=>Z0 (.ret [.sl [], .int .i64 (e:Nat), .int .i64 (P.cellsOf e:Nat)]) fun x=>some (.r x)
      |false=>none
     |none=>none
   |_=>none
 |_=>none
noncomputable def Uf(P:Program)(bJ:Nat->FD)(rec:dg)(g:Nat)(t:TypeId)(args:List V)(st:St)(fr:Nat):Option DR:=
 match xg args with
 |some ds=>match Kp P bJ rec g (ds.map .d) (.e fun _=> .no) 0 (NG P t)with
  |some (.r (.ret [.sl es, .int .i64 (.ofNat ty), .int .i64 (.ofNat sz)]))=>some (.val (.osl fr 0) [(fr, .arr 0 ty sz es)] [])
  |_=>none
 |none=>match bV st.o.get args with
  |some ds=>match Kp P bJ rec g (ds.map .d) (.e fun _=> .no) 0 (NG P t)with
   |some (.r (.ret [.sl es, .int .i64 (.ofNat ty), .int .i64 (.ofNat sz)]))=>match D.jy es&&(V.bf args).all (fun id=>Nat.blt id st.nx)with
    |true=>some (.val (.osl fr 0) [(fr, .arr 0 ty sz es)] (V.bf args))
    |false=>none
   |_=>none
  |none=>none
noncomputable def NH(P:Program)(bJ:Nat->FD)(md:pZ P)(rec:dg)(st:St)(fr:Nat)(op:Op):Option DR:=
 match op with
 | .call c=>match c.callee with
   | .value f=>match st.S.ev f with
     | .func (.func g) first cap=>match Ue md g (first++c.args.toList.map st.S.ev++cap)with
       |true=>hX P bJ rec g (first++c.args.toList.map st.S.ev++cap) st
       |false=>match cDX P bJ md rec g (first++c.args.toList.map st.S.ev++cap) st (n6 st.S (.call c))with
        |some r=>some r
        |none=>Uf P bJ rec g (c.argTypes.getD 0 0) (first++c.args.toList.map st.S.ev++cap) st fr
     |_=>none
   |_=>sDX P st fr (.call c)
 |op=>sDX P st fr op
noncomputable def Z5(st:St):Option (Nat×Bool)->Option Bool
 |none=>some true
 |some (d,want)=>match st.env.get d with
  | .d (.bool b)=>some (b==want)
  | .bU []=>some false
  |_=>none
noncomputable def uK(P:Program)(bJ:Nat->FD)(md:pZ P)(rec:dg)(pr:List (List Nat)):List bI->Nat->St->Fp->List Nat->List Nat->Option (List Nat×Fp)
 |[],_,_,fp,_,ws=>some (ws,fp)
 |o::l,fr,st,fp,bad,ws=>match(pr.getD fp.length []).any (fun j=>bad.contains j)with
  |true=>uK P bJ md rec pr l (fr+1) ⟨si st.env o.dst .aa,st.o,st.nx⟩ (fp++[([],[])]) (bad++[fp.length]) ws
  |false=>match Z5 st o.gd with
   |some true=>match NH P bJ md rec st fr o.op with
    |some (.val v Δ rd)=>lT st.env o.dst v fun e=>uF st.o Δ fun ob=>uK P bJ md rec pr l (fr+1) ⟨e,ob,st.nx⟩ (fp++[(rd,Δ.map (·.1))]) bad (ws++Δ.map (·.1))
    |_=>none
   |some false=>uK P bJ md rec pr l (fr+1) ⟨si st.env o.dst (.bU []),st.o,st.nx⟩ (fp++[([],[])]) bad ws
   |none=>none
inductive DQ where
 |fin (st:St) (fp:Fp)|bD (v:V) (wl:List Nat) (fp:Fp)
noncomputable def uL(P:Program)(bJ:Nat->FD)(md:pZ P)(rec:dg)(pr:List (List Nat)):List bI->Nat->St->Fp->Option DQ
 |[],_,st,fp=>some (.fin st fp)
 |o::l,fr,st,fp=>match Z5 st o.gd with
  |some true=>match NH P bJ md rec st fr o.op with
   |some (.val v Δ rd)=>lT st.env o.dst v fun e=>uF st.o Δ fun ob=>Nat.fc (fr+1) fun fr=>uL P bJ md rec pr l fr ⟨e,ob,st.nx⟩ (fp++[(rd,Δ.map (·.1))])
   |some (.bD v ws rd)=>match uK P bJ md rec pr l (fr+1) ⟨si st.env o.dst .aa,st.o,st.nx⟩ (fp++[(rd,[])]) [fp.length] (ws++fp.flatMap (·.2))with
    |some (wl,fp)=>some (.bD v wl fp)
    |none=>none
   |none=>none
  |some false=>lT st.env o.dst (.bU []) fun e=>Nat.fc (fr+1) fun fr=>uL P bJ md rec pr l fr ⟨e,st.o,st.nx⟩ (fp++[([],[])])
  |none=>none
noncomputable def quiet(fp:Fp):Bool:=fp.all fun x=>match x.2 with|[]=>true|_=>false
noncomputable def yW(m:Nat)(x:List Nat×List Nat):Nat->Fp->Bool
 |_,[]=>true
 |i,y::l=>(match y.2,x.2 with
  |[],[]=>true
  |_,_=>m.testBit i||(kz y.2 x.1&&kz y.2 x.2&&kz x.2 y.1))&&yW m x (i+1) l
noncomputable def Fo(ms:List Nat)(pre:Fp):Nat->Fp->Bool
 |_,[]=>true
 |j,x::l=>yW (ms.getD j 0) x 0 pre&&Fo ms (pre++[x]) (j+1) l
noncomputable def Z6{β:Type}:List Nat->(List Nat->β)->β
 |[],c=>c []
 |x::xs,c=>Nat.fc x fun x=>Z6 xs fun xs=>c (x::xs)
theorem KA{β:Type}:∀ (x:List Nat) (c:List Nat->β),Z6 x c=c x
 |[],c=>rfl
 |x::xs,c=>by simp only[Z6,Nat.cJ,KA xs]
noncomputable def NI{β:Type}:Fp->(Fp->β)->β
 |[],c=>c []
 |(a,b)::l,c=>Z6 a fun a=>Z6 b fun b=>NI l fun l=>c ((a,b)::l)
theorem Fq{β:Type}:∀ (x:Fp) (c:Fp->β),NI x c=c x
 |[],c=>rfl
 |(a,b)::l,c=>by simp only[NI,KA,Fq l]
noncomputable def KC(pr:List (List Nat))(fp:Fp):Bool:=match quiet fp with|true=>true|false=>NI fp fun fp=>Fo (ed pr []) [] 0 fp
theorem xh{m:Nat}{x:List Nat×List Nat}:∀ (l:Fp) (i:Nat),yW m x i l=true->∀k,k<l.length->(m.testBit (i+k)||(kz (l.getD k ([],[])).2 x.1&&kz (l.getD k ([],[])).2 x.2&&kz x.2 (l.getD k ([],[])).1))=true
 |[],i,_,k,hk=>by simp at hk
 |y::l,i,h,k,hk=>by
  simp only[yW,Bool.and_eq_true]at h
  cases k with
  |zero=>
   have h1:=h.1
   simp only[List.getD_cons_zero,Nat.add_zero]
   split at h1
   ·rename_i e1 e2
    rw[e1,e2];simp[kz]
   ·exact h1
  |succ k=>
   have:=xh l (i+1) h.2 k (by simpa using hk)
   rw[List.getD_cons_succ,show i+(k+1)=i+1+k by omega]
   exact this
theorem BC{ms:List Nat}:∀ (l pre:Fp),Fo ms pre pre.length l=true->∀j,pre.length<=j->j<(pre++l).length->∀i,i<j->
 ((ms.getD j 0).testBit i||(kz ((pre++l).getD i ([],[])).2 ((pre++l).getD j ([],[])).1&&kz ((pre++l).getD i ([],[])).2 ((pre++l).getD j ([],[])).2&&kz ((pre++l).getD j ([],[])).2 ((pre++l).getD i ([],[])).1))=true
 |[],pre,_,j,h1,h2,i,_=>by simp at h2;omega
 |x::l,pre,h,j,h1,h2,i,hi=>by
  simp only[Fo,Bool.and_eq_true]at h
  by_cases e:j=pre.length
  ·subst e
   have:=xh pre 0 h.1 i hi
   have e1:(pre++x::l).getD pre.length ([],[])=x:=by simp[List.getD_eq_getElem?_getD]
   have e2:(pre++x::l).getD i ([],[])=pre.getD i ([],[]):=by simp[List.getD_eq_getElem?_getD,List.getElem?_append_left hi]
   rw[e1,e2]
   simpa using this
  ·have h3:=h.2
   have:=BC l (pre++[x]) (by simpa using h3) j oz tA i hi
   simpa using this
noncomputable def Ug(P:Program)(bJ:Nat->FD)(md:pZ P)(rec:dg)(l:List bI)(pr:List (List Nat))(st:St):Option (fm×St):=
 match uL P bJ md rec pr l st.nx st []with
 |some (.fin s1 fp)=>match KC pr fp with
  |true=>Nat.fc (st.nx+l.length) fun n=>some (.normal,⟨s1.env,s1.o,n⟩)
  |false=>none
 |some (.bD v wl fp)=>match KC pr fp with
  |true=>some (.bD v,⟨.e (uh (dstsOf l) wl l.length st.S).env, .e (uh (dstsOf l) wl l.length st.S).o,st.nx+l.length⟩)
  |false=>none
 |none=>none
noncomputable def Z7(id:Nat)(env:Tr V)(kt:Kt)(c:CR):Option dQ:=
 match c with
 | .ret _ o1 zS=>match o1.get id with
   | .loop nf m e p c d lst pd=>match lst with
     | .busy=>none
     |_=>match pd with
      |none=>kt .normal ⟨env,o1.set id (.loop nf m e p c d .exhausted pd),zS⟩
      |some .ret=>kt .ret ⟨env,o1.set id (.loop nf m e p c d .exhausted pd),zS⟩
      |some (.exit j)=>kt (.exit j) ⟨env,o1.set id (.loop nf m e p c d .exhausted pd),zS⟩
   |_=>none
 | .bD v o1 zS=>kt (.bD v) ⟨env,o1,zS⟩
noncomputable def NJ(P:Program)(bJ:Nat->FD)(rec:dg)(n:Nat)(g:Operand)(ps:List Nat)(x y:IC)(st:St)(kt:Kt):Option dQ:=
 match st.S.ev g with
 | .func (.func f) first cap=>Kp P bJ rec f (first++[.ja st.nx]++cap) (st.o.set st.nx (.loop P.funcs.size n ((List.range n).map st.env.get) ps x y .ready none)) (st.nx+1) (Z7 st.nx st.env kt)
 |_=>none
abbrev oo:=(P:Program)->(Nat->FD)->pZ P->dg->Nat->Bool->Nat->St->Kt->Option dQ
noncomputable def roX(kt:Kt):RO->Option dQ:=fun r=>match r with| .ok st=>kt .normal st| .bD v st=>kt (.bD v) st
noncomputable def ado(l:List bI):oo:=fun P bJ md rec _ _ _ st kt=>yU P bJ md rec (roX kt) l st
def xi:List Nat->Nat->Nat->Nat
 |[],_,c=>c
 |x::l,k,c=>match Nat.beq x (2^k - 1)with
  |true=>xi l (k+1) c
  |false=>xi l (k+1) (k+1)
def p6(pr:List (List Nat)):Nat:=xi (ed pr []) 0 0
noncomputable def Uh(l:List bI)(pr:List (List Nat)):oo:=fun P bJ md rec _ _ _ st kt=>
 Nat.fc (p6 pr) fun m=>match uL P bJ md rec pr (l.take m) st.nx st []with
 |some (.fin s1 fp)=>match KC pr fp with
  |true=>Nat.fc (st.nx+m) fun n=>match Nat.ble m l.length with
   |true=>yU P bJ md rec (roX kt) (l.drop m) ⟨s1.env,s1.o,n⟩
   |false=>none
  |false=>none
 |some (.bD _ _ _)=>match Ug P bJ md rec l pr st with
  |some (e,s1)=>kt e s1
  |none=>none
 |none=>none
noncomputable def DI(rec:dg)(b:Nat)(rd:Bool)(n:Nat)(y:IC)(kt:Kt):Kt:=fun e s1=>match e with| .normal=>rec b rd n y s1 kt|e=>kt e s1
noncomputable def adp(x y:IC):oo:=fun _ _ _ rec b rd n st kt=>rec b rd n x st (DI rec b rd n y kt)
noncomputable def Fs(a c:Option dQ):Option dQ:=
 match a with
 |some (.r x)=>match c with
  |some (.r y)=>match R.same x y with
   |true=>some (.r x)
   |false=>none
  |_=>none
 |_=>none
noncomputable def Z8(c:Operand)(x y:IC):oo:=fun _ _ _ rec b rd n st kt=>match st.S.ev c with
 | .d (.bool true)=>rec b rd n x st kt
 | .d (.bool false)=>rec b rd n y st kt
 | .eV=>Fs (rec b rd n x st kt) (rec b rd n y st kt)
 |_=>none
noncomputable def DJ(id:Nat)(kt:Kt):Kt:=fun e s1=>match e with
 | .exit j=>match Nat.beq j id with
   |true=>kt .normal s1
   |false=>kt (.exit j) s1
 |e=>kt e s1
noncomputable def Ui(id:Nat)(x:IC):oo:=fun _ _ _ rec b rd n st kt=>rec b rd n x st (DJ id kt)
noncomputable def Z9(x:IC):oo:=fun _ _ _ rec b rd n st kt=>match Nat.ble b st.nx with
 |true=>rec b rd n x st (DI rec b rd n (.loop x) kt)
 |false=>none
noncomputable def Uj(e:fm):oo:=fun _ _ _ _ _ _ _ st kt=>kt e st
noncomputable def adq:oo:=fun _ _ _ _ _ _ _ _ _=>none
noncomputable def adr(g:Operand)(ps:List Nat)(x y:IC):oo:=fun P bJ _ rec _ rd n st kt=>match rd with
 |true=>none
 |false=>NJ P bJ rec n g ps x y st kt
noncomputable def QK(ic:IC):oo:=
 match ic with
 | .skip=>Uj .normal
 | .ae l=>ado l
 | .cT l pr=>Uh l pr
 | .seq x y=>adp x y
 | .cond c x y=>Z8 c x y
 | .block id x=>Ui id x
 | .loop x=>Z9 x
 | .exit id=>Uj (.exit id)
 | .ret=>Uj .ret
 | .Gi g ps x y=>adr g ps x y
 | .bad=>adq
noncomputable def run(P:Program)(bJ:Nat->FD)(md:pZ P)(k:Nat):dg:=
 Nat.rec (motive:=fun _=>dg) (fun _ _ _ _ _ _=>none) (fun _ rec b rd n ic st kt=>QK ic P bJ md rec b rd n st kt) k
theorem KF{P:Program}{bJ:Nat->FD}{md:pZ P}{k:Nat}:run P bJ md (k+1)=fun b rd n ic st kt=>QK ic P bJ md (run P bJ md k) b rd n st kt:=rfl
section
variable {P:Program}{bJ:Nat->FD}{md:pZ P}
theorem QL(bc:P.follows .mixedOrders=true)(cm:∀g,(bJ g).Ok P g){rec:dg}(bz:dY P rec){fr:Nat}{g:Nat}{args:List V}{st:St}{r:DR}(h:hX P bJ rec g args st=some r){K:V->List (Nat×ab)->List Nat->Prop}{KX:V->List Nat->List Nat->Prop}(hr:r.to K KX):
 iM P g args st.S.o st.S.nx fr K KX:=by
 unfold hX at h
 simp only at h
 generalize nP:reach st.o.get 2000 (V.aG args) []=rd at h
 split at h
 ·rename_i hc
  simp only[Bool.and_eq_true,List.all_eq_true]at hc
  obtain⟨hc1,tR⟩:=hc
  have a1:∀id∈rd,id<st.nx:=fun id au=>Nat.le_of_ble_eq_true (hc1 id au).1
  have a2:∀id∈V.aG args,id∈rd:=fun id au=>by simpa using tR id au
  have a3:∀id∈rd,∀j∈(st.o.get id).refs,j∈rd:=fun id au j hj=>by simpa using(hc1 id au).2 j hj
  have a0:rd.all (fun id=>decide (id<st.S.nx))=true:=List.all_eq_true.2 fun id au=>decide_eq_true (a1 id au)
  have key:∀ {r:CR} {a:CR},Z4 r=some (.c a)->r=a:=fun h=>by unfold Z4 at h;injection h with h;injection h
  split at h
  ·rename_i v o1 zS hf
   split at h
   ·cases h
   ·rename_i v' sG
    split at h
    ·rename_i rs YQ
     split at h
     ·rename_i Uk
      injection h with h;subst h
      simp only[Bool.and_eq_true,List.all_eq_true]at Uk
      refine⟨rd,_,a0, .inl ⟨rs,EV.mP a1 a2 a3 (fun x hx=>(iA rd x hx).1) (fun x hx j hj=>by simpa using Uk.1 x hx j hj) (m6 bc cm bz hf fun r x6=> ?_),hr⟩⟩
      rw[key x6]
      refine⟨fun id au=>sj au,uG v,rs, ?_,YQ,rfl,fun id au=>by simpa using Uk.2 id au⟩
      cases v with
      |bU vs=>
       match vs,sG with
       |[],_=>rfl
       |[x],hv=>exact absurd rfl (hv x)
       |_::_::_,_=>rfl
      |_=>rfl
     ·cases h
    ·cases h
  ·rename_i v o1 zS hf
   split at h
   ·rename_i x hx
    split at h
    ·rename_i Uk
     injection h with h;subst h
     simp only[Bool.and_eq_true,List.all_eq_true]at Uk
     refine⟨rd,eh st.o.get o1.get rd,a0, .inr (.inl ⟨x,EV.mP a1 a2 a3 (fun x hx=>(iA rd x hx).1) (fun x hx j hj=>by simpa using Uk.1 x hx j hj) (m6 bc cm bz hf fun r x6=> ?_),hr⟩)⟩
     rw[key x6]
     exact⟨fun id au=>sj au,x,hx,rfl,fun id au=>by simpa using Uk.2 id au⟩
    ·cases h
   ·cases h
  ·cases h
 ·cases h
theorem Ul(bc:P.follows .mixedOrders=true)(cm:∀g,(bJ g).Ok P g){rec:dg}(bz:dY P rec){g:Nat}{args:List V}{st:St}{rd:List Nat}{ds:List D}(eK:bV st.o.get args=some ds){r:DR}(h:cDX P bJ md rec g args st rd=some r)
 {K:V->List (Nat×ab)->List Nat->Prop} {KX:V->List Nat->List Nat->Prop} (hr:r.to K KX):
 sb P g ds (fun v=>K v (cg st.S.o (V.bf args)) rd) (fun v=>K v [] rd) (fun v=>KX v [] rd):=by
 unfold cDX at h
 simp only[eK]at h
 split at h
 ·split at h
  ·rename_i v o1 zS Hb
   split at h
   ·rename_i hrf
    injection h with h;subst h
    exact .inr (.inr ⟨v,Y5.mP hrf (m6 bc cm bz Hb fun r x6=>by unfold Z4 at x6;injection x6 with x6;injection x6 with x6;rw[x6];exact rfl),hr⟩)
   ·cases h
  ·cases h
 ·split at h
  ·rename_i rs Kz
   have hP:=yV bc cm bz Kz
   split at h
   ·rename_i hf
    injection h with h;subst h
    exact .inl ⟨rs,hP, .inr ⟨hf,hr⟩⟩
   ·injection h with h;subst h
    exact .inl ⟨rs,hP, .inl hr⟩
  ·rename_i x Kz
   have hP:=yV bc cm bz Kz
   split at h
   ·rename_i hf
    injection h with h;subst h
    exact .inr (.inl ⟨x,hP,hf,hr⟩)
   ·cases h
  ·cases h
theorem Ft{t ty:TypeId}{sz:Nat}{es:List D}{r:CR}(h:NG P t r=some (.r (.ret [.sl es, .int .i64 (.ofNat ty), .int .i64 (.ofNat sz)]))):
 r.to (fun v o1 _=>(∃j ep,v= .osl j ep/\o1 j= .arr ep ty sz es)\/(v= .bd/\es=[]/\0<sz)) (fun _ _ _=>False):=by
 unfold NG at h
 split at h
 ·rename_i v o1 n1
  split at h
  ·rename_i j ep
   split at h
   ·rename_i ij ty' qC es' ho
    split at h
    ·rename_i he
     have he:=Nat.eq_of_beq_eq_true he
     subst he
     rw[DH]at h
     simp only[Option.some.injEq,dQ.r.injEq,R.ret.injEq,List.cons.injEq,D.sl.injEq,D.int.injEq,true_and,and_true]at h
     obtain⟨rfl,h2,h3⟩:=h
     have h2:ty'=ty:=Int.ofNat.inj h2
     have h3:qC=sz:=Int.ofNat.inj h3
     subst h2;subst h3
     exact .inl ⟨j,ij,rfl,ho⟩
    ·cases h
   ·cases h
  ·split at h
   ·rename_i e he
    split at h
    ·rename_i hp
     rw[DH]at h
     simp only[Option.some.injEq,dQ.r.injEq,R.ret.injEq,List.cons.injEq,D.sl.injEq,D.int.injEq,true_and,and_true]at h
     obtain⟨rfl,h2,h3⟩:=h
     have h3:P.cellsOf e=sz:=Int.ofNat.inj h3
     subst h3
     exact .inr ⟨rfl,rfl,Nat.blt_eq.mp hp⟩
    ·cases h
   ·cases h
  ·cases h
 ·cases h
theorem NK(bc:P.follows .mixedOrders=true)(cm:∀g,(bJ g).Ok P g){rec:dg}(bz:dY P rec){fr:Nat}{g:Nat}{t:TypeId}{args:List V}{st:St}{r:DR}(h:Uf P bJ rec g t args st fr=some r){K:V->List (Nat×ab)->List Nat->Prop}{KX:V->List Nat->List Nat->Prop}(hr:r.to K KX):
 iM P g args st.S.o st.S.nx fr K KX:=by
 unfold Uf at h
 split at h
 ·rename_i ds eK
  split at h
  ·rename_i es ty sz Hb
   injection h with h;subst h
   unfold xg at eK
   split at eK
   ·rename_i au
    exact⟨[],_,aL, .inr (.inr ⟨_,yw.Nz au eK (yw.Kj (m6 bc cm bz Hb fun r x6=>Ft x6)),hr⟩)⟩
   ·cases eK
  ·cases h
 ·split at h
  ·rename_i ds eK
   split at h
   ·rename_i es ty sz Hb
    split at h
    ·rename_i hc
     injection h with h;subst h
     simp only[Bool.and_eq_true]at hc
     refine⟨V.bf args,_, ?_, .inr (.inr ⟨_,yw.Ny eK hc.1 (m6 bc cm bz Hb fun r x6=>Ft x6),hr⟩)⟩
     exact List.all_eq_true.2 fun id au=>decide_eq_true (Nat.blt_eq.mp (List.all_eq_true.1 hc.2 id au))
    ·cases h
   ·cases h
  ·cases h
theorem yX(bc:P.follows .mixedOrders=true)(cm:∀g,(bJ g).Ok P g){rec:dg}(bz:dY P rec){st:St}{fr:Nat}{o:bI}{r:DR}(h:NH P bJ md rec st fr o.op=some r){K:V->List (Nat×ab)->List Nat->Prop}{KX:V->List Nat->List Nat->Prop}(hr:r.to K KX):
 zT P st.S fr o K KX:=by
 have hs:sDX P st fr o.op=some r->(match fS P st.S fr o.op with|some (v,Δ,_)=>K v Δ (n6 st.S o.op)|none=>False):=by
  intro h
  unfold sDX at h
  split at h
  ·rename_i v Δ rd he
   injection h with h;subst h
   simp only[Fh he]
   exact hr
  ·cases h
 unfold NH at h
 unfold zT
 split at h
 ·rename_i c hc
  simp only[hc]
  split at h
  ·rename_i f hf
   simp only[hf]
   split at h
   ·rename_i g first cap hv
    simp only[hv]
    split at h
    ·have hh:=QL bc cm bz h hr (fr:=fr)
     split
     ·exact .inr hh
     ·exact hh
    split at h
    ·rename_i r' SV
     injection h with h;subst h
     cases eK:bV st.S.o (first++List.map st.S.ev c.args.toList++cap)with
     |some ds=>exact .inl (Ul bc cm bz eK SV hr)
     |none=>
      have Uc:bV st.o.get (first++List.map st.S.ev c.args.toList++cap)=none:=eK
      unfold cDX at SV
      simp only[Uc]at SV
      exact QL bc cm bz SV hr
    ·have hh:=NK bc cm bz (st:=st) h hr
     split
     ·exact .inr hh
     ·exact hh
   ·cases h
  ·rename_i eI
   rw[<- hc]at h
   have:=hs h
   rw[hc]at this
   split
   ·rename_i f hf;exact absurd hf (eI f)
   ·exact this
 ·rename_i hc
  have:=hs h
  split
  ·rename_i c hh;exact absurd hh (hc c)
  ·exact this
def gdW(s:S)(gd:Option (Nat×Bool))(A B:Prop):Prop:=
 match gd with
 |none=>A
 |some (d,want)=>match s.env d with
  | .d (.bool b)=>if b=want then A else B
  | .bU []=>B
  |_=>False
theorem yY{st:St}{gd:Option (Nat×Bool)}{t:Bool}(h:Z5 st gd=some t){A B:Prop}(hA:t=true->A)(hB:t=false->B):gdW st.S gd A B:=by
 cases gd with
 |none=>simp only[Z5,Option.some.injEq]at h;exact hA h.symm
 |some p=>
  obtain⟨d,want⟩:=p
  have he:st.S.env d=st.env.get d:=rfl
  simp only[Z5]at h
  simp only[gdW,he]
  split at h
  ·rename_i b hb
   injection h with h
   by_cases e:b=want
   ·rw[if_pos e];exact hA (by rw[<- h,e];simp)
   ·rw[if_neg e];exact hB (by rw[<- h];simpa using e)
  ·rename_i hb
   injection h with h
   exact hB h.symm
  ·cases h
theorem NL{P:Program}{KB:List Nat->Fp->Prop}{pr:List (List Nat)}{o:bI}{l:List bI}{fr:Nat}{s:S}{fp:Fp}{bad ws:List Nat}(hb:(pr.getD fp.length []).any (fun j=>bad.contains j)=false)
 (h:gdW s o.gd (zT P s fr o (fun v Δ rd=>gP P KB pr l (fr+1) ⟨aY s.env o.dst v,put s.o Δ,s.nx⟩ (fp++[(rd,Δ.map (·.1))]) bad (ws++Δ.map (·.1))) (fun _ _ _=>False)) (gP P KB pr l (fr+1) ⟨aY s.env o.dst (.bU []),s.o,s.nx⟩ (fp++[([],[])]) bad ws)):
 gP P KB pr (o::l) fr s fp bad ws:=by
 simp only[gP]
 rw[if_neg (by rw[hb];simp)]
 cases hg:o.gd with
 |none=>rw[hg]at h;exact h
 |some p=>obtain⟨d,want⟩:=p;rw[hg]at h;exact h
theorem NM{P:Program}{K:S->Fp->Prop}{KP:V->List Nat->Fp->Prop}{pr:List (List Nat)}{o:bI}{l:List bI}{fr:Nat}{s:S}{fp:Fp}
 (h:gdW s o.gd (zT P s fr o (fun v Δ rd=>kG P K KP pr l (fr+1) ⟨aY s.env o.dst v,put s.o Δ,s.nx⟩ (fp++[(rd,Δ.map (·.1))]))
  (fun v ws rd=>gP P (KP v) pr l (fr+1) ⟨aY s.env o.dst .aa,s.o,s.nx⟩ (fp++[(rd,[])]) [fp.length] (ws++fp.flatMap (·.2)))) (kG P K KP pr l (fr+1) ⟨aY s.env o.dst (.bU []),s.o,s.nx⟩ (fp++[([],[])]))):
 kG P K KP pr (o::l) fr s fp:=by
 simp only[kG]
 cases hg:o.gd with
 |none=>rw[hg]at h;exact h
 |some p=>obtain⟨d,want⟩:=p;rw[hg]at h;exact h
theorem p7(bc:P.follows .mixedOrders=true)(cm:∀g,(bJ g).Ok P g){rec:dg}(bz:dY P rec){pr:List (List Nat)}{wl:List Nat}{fp':Fp}{KB:List Nat->Fp->Prop}(hK:KB wl fp'):
 ∀ (l:List bI) (fr:Nat) (st:St) (fp:Fp) (bad ws:List Nat),uK P bJ md rec pr l fr st fp bad ws=some (wl,fp')->gP P KB pr l fr st.S fp bad ws
 |[],fr,st,fp,bad,ws,h=>by
  simp only[uK,Option.some.injEq,Prod.mk.injEq]at h
  obtain⟨rfl,rfl⟩:=h;exact hK
 |o::l,fr,st,fp,bad,ws,h=>by
  simp only[uK,jm,m5]at h
  split at h
  ·rename_i hb
   simp only[gP]
   rw[if_pos hb]
   have:=p7 bc cm bz hK l _ _ _ _ _ h
   exact I6
  ·rename_i hb
   refine NL hb ?_
   split at h
   ·rename_i hg
    refine yY hg (fun _=> ?_) (fun h=>by cases h)
    split at h
    ·rename_i v Δ rd gz
     refine yX bc cm bz gz ?_
     have:=p7 bc cm bz hK l _ _ _ _ _ h
     simp only[St.S,jg,jI]at this
     exact this
    ·cases h
   ·rename_i hg
    refine yY hg (fun h=>by cases h) (fun _=> ?_)
    have:=p7 bc cm bz hK l _ _ _ _ _ h
    exact I6
   ·cases h
def DQ.to (K:S->Fp->Prop)(KP:V->List Nat->Fp->Prop):DQ->Prop
 | .fin st fp=>K st.S fp
 | .bD v wl fp=>KP v wl fp
theorem m8(bc:P.follows .mixedOrders=true)(cm:∀g,(bJ g).Ok P g){rec:dg}(bz:dY P rec){pr:List (List Nat)}{q:DQ}{K:S->Fp->Prop}{KP:V->List Nat->Fp->Prop}(hq:q.to K KP):
 ∀ (l:List bI) (fr:Nat) (st:St) (fp:Fp),uL P bJ md rec pr l fr st fp=some q->kG P K KP pr l fr st.S fp
 |[],fr,st,fp,h=>by
  simp only[uL,Option.some.injEq]at h
  subst h;exact hq
 |o::l,fr,st,fp,h=>by
  simp only[uL,jm,m5,Nat.cJ]at h
  refine NM ?_
  split at h
  ·rename_i hg
   refine yY hg (fun _=> ?_) (fun h=>by cases h)
   split at h
   ·rename_i v Δ rd gz
    refine yX bc cm bz gz ?_
    have:=m8 bc cm bz hq l _ _ _ h
    simp only[St.S,jg,jI]at this
    exact this
   ·rename_i v ws rd gz
    split at h
    ·rename_i wl fp' hb
     injection h with h;subst h
     refine yX bc cm bz gz ?_
     have:=p7 bc cm bz (KB:=KP v) hq l _ _ _ _ _ hb
     exact I6
    ·cases h
   ·cases h
  ·rename_i hg
   refine yY hg (fun h=>by cases h) (fun _=> ?_)
   have:=m8 bc cm bz hq l _ _ _ h
   exact I6
  ·cases h
theorem yZ{pr:List (List Nat)}{fp:Fp}(h:KC pr fp=true):dX pr fp=true:=by
 unfold KC at h
 split at h
 ·rename_i hq
  unfold quiet at hq
  have hz:∀i,(fp.getD i ([],[])).2=[]:=by
   intro i
   rw[List.getD_eq_getElem?_getD]
   cases hx:fp[i]? with
   |none=>rfl
   |some x=>
    have:=List.all_eq_true.1 hq x (List.mem_of_getElem? hx)
    simp only[Option.getD_some]
    split at this
    ·rename_i e;exact e
    ·cases this
  unfold dX
  simp only[hz,kz,List.all_nil,Bool.and_self,Bool.or_true]
  simp
 ·rw[Fq]at h
  unfold dX
  rw[List.all_eq_true]
  intro j hj
  rw[List.all_eq_true]
  intro i hi
  exact BC fp [] h j (Nat.zero_le _) mn i (by simpa using hi)
theorem uM:∀ (l:List Nat) (k c:Nat),c<=k->c<=xi l k c/\∀i x,l[i]? =some x->xi l k c<=k+i->x=2^(k+i) - 1
 |[],_,c,_=>⟨Nat.le_refl _,fun i x h=>by simp at h⟩
 |y::l,k,c,hc=>by
  simp only[xi]
  split
  ·rename_i he
   obtain⟨h1,h2⟩:=uM l (k+1) c af
   refine⟨h1,fun i x hi hle=> ?_⟩
   cases i with
   |zero=>simp at hi;subst hi;simpa using Nat.eq_of_beq_eq_true he
   |succ i=>
    have:=h2 i x (by simpa using hi) af
    rw[this,show k+(i+1)=k+1+i by omega]
  ·obtain⟨h1,h2⟩:=uM l (k+1) (k+1) (Nat.le_refl _)
   refine⟨af,fun i x hi hle=> ?_⟩
   cases i with
   |zero=>omega
   |succ i=>
    have:=h2 i x (by simpa using hi) af
    rw[this,show k+(i+1)=k+1+i by omega]
theorem xj:∀ (pr:List (List Nat)) (acc:List Nat),(ed pr acc).length=acc.length+pr.length
 |[],acc=>by simp[ed]
 |ps::l,acc=>by simp only[ed,xj l,List.length_append,List.length_cons,List.length_nil];omega
theorem KG(pr:List (List Nat)):yE pr (p6 pr)=true:=by
 refine List.all_eq_true.2 fun k hk=> ?_
 have hk:k<pr.length:=by simpa using hk
 by_cases h:k<p6 pr
 ·simp[Nat.blt_eq.mpr h]
 ·have hl:k<(ed pr []).length:=by rw[xj];simpa using hk
  have:=(uM (ed pr []) 0 0 (Nat.le_refl _)).2 k _ (List.getElem?_eq_getElem hl) (by rw[Nat.zero_add];exact Nat.le_of_not_lt h)
  rw[Nat.zero_add]at this
  rw[List.getD_eq_getElem?_getD,List.getElem?_eq_getElem hl,Option.getD_some,this]
  simp
theorem NN(bc:P.follows .mixedOrders=true)(cm:∀g,(bJ g).Ok P g){rec:dg}(bz:dY P rec){l:List bI}{pr:List (List Nat)}{st st':St}{e:fm}(h:Ug P bJ md rec l pr st=some (e,st')){Q:fm->S->Prop}(hQ:Q e st'.S):
 kG P (Dw pr (st.S.nx+l.length) Q) (Bc pr l st.S Q) pr l st.S.nx st.S []:=by
 unfold Ug at h
 split at h
 ·rename_i s1 fp hd
  split at h
  ·rename_i hf
   simp only[Nat.cJ,Option.some.injEq,Prod.mk.injEq]at h
   obtain⟨rfl,rfl⟩:=h
   exact m8 bc cm bz (q:= .fin s1 fp) (K:=Dw pr (st.S.nx+l.length) Q) (KP:=Bc pr l st.S Q) (show Dw pr (st.S.nx+l.length) Q s1.S fp from⟨yZ hf,hQ⟩) l _ _ _ hd
  ·cases h
 ·rename_i v wl fp hd
  split at h
  ·rename_i hf
   simp only[Option.some.injEq,Prod.mk.injEq]at h
   obtain⟨rfl,rfl⟩:=h
   exact m8 bc cm bz (q:= .bD v wl fp) (K:=Dw pr (st.S.nx+l.length) Q) (KP:=Bc pr l st.S Q) (show Bc pr l st.S Q v wl fp from⟨yZ hf,hQ⟩) l _ _ _ hd
  ·cases h
 ·cases h
theorem NO(bc:P.follows .mixedOrders=true)(cm:∀g,(bJ g).Ok P g){rec:dg}(bz:dY P rec){n:Nat}{g:Operand}{ps:List Nat}{x y:IC}{st:St}{kt:Kt}{a:dQ}(h:NJ P bJ rec n g ps x y st kt=some a){Q:fm->S->Prop}(hQ:∀e st',kt e st'=some a->Q e st'.S):
 AW P n (st.S.ev g) ps x y Q st.S:=by
 unfold NJ at h
 refine⟨(List.range n).map st.env.get,fun i=> ?_, ?_⟩
 ·unfold aS
  simp only[List.getD_eq_getElem?_getD,List.getElem?_map]
  by_cases hi:i<n
  ·right;rw[List.getElem?_range hi];rfl
  ·left;rw[List.getElem?_eq_none (by simp;omega)];rfl
 ·split at h
  ·rename_i f first cap hv
   simp only[hv]
   refine .inl ?_
   have key:=fun {K X} hr=>m6 (K:=K) (X:=X) bc cm bz h hr
   simp only[Tr.hY]at key
   refine key fun r hr=> ?_
   unfold Z7 at hr
   cases r with
   |ret v o1 zS=>
    simp only at hr
    split at hr
    ·rename_i nf m e p c d lst pd ho
     have hl:lst≠ .busy:=by
      intro hb;subst hb;cases hr
     refine⟨nf,m,e,p,c,d,lst,pd,ho,hl, ?_⟩
     split at hr
     ·cases hr
     ·split at hr<;>(have h3:=hQ _ _ hr;simp only[oL];simp only[St.S,Tr.hY]at h3;exact h3)
    ·cases hr
   |bD v o1 zS=>exact hQ _ _ hr
  ·cases h
theorem aZ.same {b:Nat}{s:S}(h:b<=s.nx):aZ b s s:=fun _ φ _ _ h1 h2=>⟨φ,h1,h2,fun _ h=>h,h,fun _ _ hr=>⟨hr,rfl⟩,fun _ e' _ he=>⟨e',he,Nat.le_refl _,fun _=>rfl⟩⟩
theorem KH{x y:Option dQ}{a:dQ}(h:Fs x y=some a):x=some a/\y=some a:=by
 unfold Fs at h
 split at h
 ·rename_i r
  split at h
  ·rename_i r'
   split at h
   ·rename_i hs
    injection h with h;subst h
    rw[R.dM hs]
    exact⟨rfl,rfl⟩
   ·cases h
  ·cases h
 ·cases h
theorem Um(bc:P.follows .mixedOrders=true)(cm:∀g,(bJ g).Ok P g):∀k,∀j,j<=k->dY P (run P bJ md j):=by
 intro k
 induction k with
 |zero=>intro j hj b rd n ic st kt a h;obtain rfl:j=0:=af
        cases h
 |succ k ih=>
  intro j hj b rd n ic st kt a h Q hQ
  cases j with
  |zero=>cases h
  |succ j=>
   have bz:dY P (run P bJ md j):=ih j af
   rw[KF]at h
   cases ic with
   |skip=>exact hQ _ _ h
   |exit id=>exact hQ _ _ h
   |ret=>exact hQ _ _ h
   |bad=>cases h
   |ae l=>
    have h:yU P bJ md (run P bJ md j) (roX kt) l st=some a:=h
    exact tj bc cm bz (K:=Q .normal) (X:=fun v s=>Q (.bD v) s) (fun r hr=>by
     cases r with
     |ok Ud=>exact hQ .normal _ hr
     |bD v Ud=>exact hQ (.bD v) _ hr) l _ h
   |cT l pr=>
    have h:Uh l pr P bJ md (run P bJ md j) b rd n st kt=some a:=h
    unfold Uh at h
    rw[Nat.cJ]at h
    split at h
    ·rename_i s1 fp hd
     split at h
     ·rename_i hf
      rw[Nat.cJ]at h
      split at h
      ·rename_i EI
       refine .inr ⟨p6 pr,Nat.le_of_ble_eq_true EI,KG pr, ?_⟩
       refine m8 bc cm bz (q:= .fin s1 fp) (K:=fun s' fp=>dX pr fp=true/\oN P (fun v s=>Q (.bD v) s) (Q .normal) (l.drop (p6 pr)) ⟨s'.env,s'.o,st.S.nx+p6 pr⟩) (KP:=fun _ _ _=>False) (show _/\_ from⟨yZ hf, ?_⟩) (l.take (p6 pr)) _ _ _ hd
       exact tj bc cm bz (K:=Q .normal) (X:=fun v s=>Q (.bD v) s) (fun r hr=>by
        cases r with
        |ok Ud=>exact hQ .normal _ hr
        |bD v Ud=>exact hQ (.bD v) _ hr) (l.drop (p6 pr)) ⟨s1.env,s1.o,st.nx+p6 pr⟩ h
      ·cases h
     ·cases h
    ·split at h
     ·rename_i e s1 h1
      exact .inl (NN bc cm bz h1 (hQ _ _ h))
     ·cases h
    ·cases h
   |seq x y=>
    have h:run P bJ md j b rd n x st (DI (run P bJ md j) b rd n y kt)=some a:=h
    simp only[ta]
    refine bz _ _ _ _ _ _ _ h _ fun e s1 he=> ?_
    unfold DI at he
    cases e with
    |normal=>exact bz _ _ _ _ _ _ _ he _ hQ
    |_=>exact hQ _ _ he
   |cond c x y=>
    have h:(match st.S.ev c with| .d (.bool true)=>run P bJ md j b rd n x st kt| .d (.bool false)=>run P bJ md j b rd n y st kt| .eV=>Fs (run P bJ md j b rd n x st kt) (run P bJ md j b rd n y st kt)|_=>none)=some a:=h
    simp only[ta]
    split at h
    ·rename_i hv
     simp only[hv]
     exact(uf _ _).mpr (bz _ _ _ _ _ _ _ h _ hQ)
    ·rename_i hv
     simp only[hv]
     exact(rZ _ _).mpr (bz _ _ _ _ _ _ _ h _ hQ)
    ·rename_i hv
     simp only[hv]
     obtain⟨h1,h2⟩:=KH h
     exact⟨bz _ _ _ _ _ _ _ h1 _ hQ,bz _ _ _ _ _ _ _ h2 _ hQ⟩
    ·cases h
   |block id x=>
    have h:run P bJ md j b rd n x st (DJ id kt)=some a:=h
    simp only[ta]
    refine bz _ _ _ _ _ _ _ h _ fun e s1 he=> ?_
    unfold DJ at he
    cases e with
    |exit j'=>
     simp only at he
     split at he
     ·rename_i hb
      simp only[eW,Nat.eq_of_beq_eq_true hb,if_true];exact hQ _ _ he
     ·rename_i hb
      simp only[eW,Nat.ne_of_beq_eq_false hb,if_false];exact hQ _ _ he
    |_=>exact hQ _ _ he
   |loop x=>
    have unf:∀m QM,run P bJ md (m+1) b rd n (.loop x) QM kt=some a->b<=QM.nx/\run P bJ md m b rd n x QM (DI (run P bJ md m) b rd n (.loop x) kt)=some a:=by
     intro m QM h
     have h:(match Nat.ble b QM.nx with|true=>run P bJ md m b rd n x QM (DI (run P bJ md m) b rd n (.loop x) kt)|false=>none)=some a:=h
     split at h
     ·rename_i hb;exact⟨Nat.le_of_ble_eq_true hb,h⟩
     ·cases h
    have h:run P bJ md (j+1) b rd n (.loop x) st kt=some a:=h
    refine⟨fun m s=>m<=k+1/\∃st,s=st.S/\run P bJ md m b rd n (.loop x) st kt=some a,⟨j+1,st.S,aZ.same (unf j st h).1,hj,st,rfl,h⟩, ?_⟩
    rintro m s0 ⟨hm,QM,rfl,h0⟩
    cases m with
    |zero=>cases h0
    |succ m=>
     have aaa:dY P (run P bJ md m):=ih m af
     refine aaa _ _ _ _ _ _ _ (unf m QM h0).2 _ fun e s1 he=> ?_
     unfold DI at he
     cases e with
     |normal=>
      refine⟨m,s1.S,Nat.lt_succ_self _,aZ.same ?_,af,s1,rfl,he⟩
      cases m with
      |zero=>cases he
      |succ m=>exact(unf m s1 he).1
     |_=>exact hQ _ _ he
   |Gi g ps x y=>
    cases rd with
    |true=>
     have h:(none:Option dQ)=some a:=h
     cases h
    |false=>
     have h:NJ P bJ (run P bJ md j) n g ps x y st kt=some a:=h
     exact⟨rfl,_, .inl rfl,NO bc cm bz h hQ⟩
noncomputable def nU(P:Program)(bJ:Nat->FD)(md:pZ P)(k:Nat)(g:Nat)(ds:List D):Option R:=
 match Kp P bJ (run P bJ md k) g (ds.map .d) (.e fun _=> .no) 0 Bx with
 |some (.r x)=>some x
 |_=>none
theorem aT.gu (bc:P.follows .mixedOrders=true)(cm:∀g,(bJ g).Ok P g){k g:Nat}{ds:List D}{out:R}(h:nU P bJ md k g ds=some out):aT P g ds out:=by
 unfold nU at h
 split at h
 ·rename_i x hr;injection h with h;subst h;exact Bz bc cm (Um bc cm k k (Nat.le_refl _)) hr
 ·cases h
end
end
def Tr.Fu {α:Type}(p:Nat->α->Prop):Tr α->(Nat->Nat)->Prop
 | .e g,f=>∀i,p (f i) (g i)
 | .n x l r,f=>p (f 0) x/\Fu p l (fun i=>f (2*i+1))/\Fu p r (fun i=>f (2*i+2))
theorem Tr.y0 {α:Type}{p:Nat->α->Prop}:∀ {f:Nat->Nat} (t:Tr α),t.Fu p f->∀k,p (f k) (t.get k)
 |f, .e g,h,k=>h k
 |f, .n x l r,h,k=>by
  obtain⟨h1,h2,h3⟩:=h
  rw[Tr.uC]
  split
  ·rename_i e;subst e;exact h1
  ·split
   ·have:=Tr.y0 l h2 (k/2)
    rwa [show 2*(k/2)+1=k by omega]at this
   ·have:=Tr.y0 r h3 (k/2 - 1)
    rwa [show 2*(k/2 - 1)+2=k by omega]at this
end Go.Proofs.YtnkamdiiakdkgaaGreat
