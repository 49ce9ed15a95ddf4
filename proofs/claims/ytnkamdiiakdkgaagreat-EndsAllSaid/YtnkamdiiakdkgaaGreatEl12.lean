/-
  A PART OF THE PROOF. Conditions: none.
-/
import Derived.Test.YtnkamdiiakdkgaaGreatEl11
set_option linter.unusedSimpArgs false
set_option linter.unusedVariables false
namespace Go.Proofs.YtnkamdiiakdkgaaGreat
section
inductive Tr (α:Type) where
 |e (f:Nat->α)
 |n (x:α) (l r:Tr α)
noncomputable def Tr.get {α:Type}(t:Tr α):Nat->α:=
 Tr.rec (motive:=fun _=>Nat->α) (fun f=>f) (fun x _ _ l r k=>Bool.rec (Bool.rec (r (Nat.sub (Nat.div k 2) 1)) (l (Nat.div k 2)) (Nat.beq (Nat.mod k 2) 1)) x (Nat.beq k 0)) t
theorem Tr.Ho {α:Type}(f:Nat->α):(Tr.e f).get=f:=rfl
noncomputable def Tr.vR {α:Type}(x:α):Nat->Tr α->Nat->Tr α
 |0,t,k=> .e (ax t.get k x)
 |d+1, .e f,k=>match Nat.beq k 0 with
  |true=> .n x (.e fun i=>f (2*i+1)) (.e fun i=>f (2*i+2))
  |false=>match Nat.beq (k%2) 1 with
   |true=> .n (f 0) (Tr.vR x d (.e fun i=>f (2*i+1)) (k/2)) (.e fun i=>f (2*i+2))
   |false=> .n (f 0) (.e fun i=>f (2*i+1)) (Tr.vR x d (.e fun i=>f (2*i+2)) (k/2 - 1))
 |d+1, .n y l r,k=>match Nat.beq k 0 with
  |true=> .n x l r
  |false=>match Nat.beq (k%2) 1 with
   |true=> .n y (Tr.vR x d l (k/2)) r
   |false=> .n y l (Tr.vR x d r (k/2 - 1))
noncomputable def Tr.set {α:Type}(t:Tr α)(k:Nat)(x:α):Tr α:=Tr.vR x 24 t k
theorem Tr.vS {α:Type}{x:α}{l r:Tr α}{k:Nat}:(Tr.n x l r).get k=if k=0 then x else if k%2=1 then l.get (k/2)else r.get (k/2 - 1):=by
 show @Bool.rec (fun _=>α) (@Bool.rec (fun _=>α) (r.get (k/2 - 1)) (l.get (k/2)) (Nat.beq (k%2) 1)) x (Nat.beq k 0)=_
 by_cases h:k=0
 ·subst h;rfl
 ·have:Nat.beq k 0=false:=by cases k with|zero=>exact absurd rfl h|succ k=>rfl
  simp only[this,h,if_false]
  by_cases h2:k%2=1
  ·simp[h2]
  ·have:Nat.beq (k%2) 1=false:=by
    cases hb:Nat.beq (k%2) 1 with
    |false=>rfl
    |true=>exact absurd (Nat.eq_of_beq_eq_true hb) h2
   simp[h2,this]
theorem Tr.nJ {α:Type}(x:α):∀ (d:Nat) (t:Tr α) (k:Nat),(Tr.vR x d t k).get=ax t.get k x
 |0,t,k=>rfl
 |d+1, .e f,k=>by
  funext i
  simp only[Tr.vR]
  have hb:∀a b:Nat,Nat.beq a b=decide (a=b):=fun a b=>by
   cases h:Nat.beq a b with
   |true=>simp[Nat.eq_of_beq_eq_true h]
   |false=>simp[Nat.ne_of_beq_eq_false h]
  rw[hb,hb]
  by_cases h:k=0
  ·subst h
   simp only[decide_true,Tr.vS,aK]
   by_cases hi:i=0
   ·simp[hi]
   ·simp only[hi,if_false]
    by_cases h2:i%2=1
    ·simp only[h2,if_true,Tr.Ho];congr 1;omega
    ·simp only[h2,if_false,Tr.Ho];congr 1;omega
  ·simp only[h,decide_false]
   by_cases hk:k%2=1
   ·simp only[hk,decide_true,Tr.vS,Tr.nJ x d,aK,Tr.Ho]
    by_cases hi:i=0
    ·exact Gv
    ·simp only[hi,if_false]
     by_cases h2:i%2=1
     ·simp only[h2,if_true]
      have e1:2*(i/2)+1=i:=ag
      rw[e1]
      by_cases e:i=k
      ·simp[e]
      ·exact Gq
     ·simp only[h2,if_false]
      rw[if_neg (by intro e;subst e;exact h2 hk)]
      congr 1;omega
   ·simp only[hk,decide_false,Tr.vS,Tr.nJ x d,aK,Tr.Ho]
    by_cases hi:i=0
    ·exact Gv
    ·simp only[hi,if_false]
     by_cases h2:i%2=1
     ·simp only[h2,if_true]
      rw[if_neg (by intro e;subst e;exact hk h2)]
      congr 1;omega
     ·simp only[h2,if_false]
      have e1:2*(i/2 - 1)+2=i:=ag
      rw[e1]
      by_cases e:i=k
      ·simp[e]
      ·exact Gq
 |d+1, .n y l r,k=>by
  funext i
  simp only[Tr.vR]
  have hb:∀a b:Nat,Nat.beq a b=decide (a=b):=fun a b=>by
   cases h:Nat.beq a b with
   |true=>simp[Nat.eq_of_beq_eq_true h]
   |false=>simp[Nat.ne_of_beq_eq_false h]
  rw[hb,hb]
  by_cases h:k=0
  ·subst h
   simp only[decide_true,Tr.vS,aK]
   by_cases hi:i=0
   ·simp[hi]
   ·simp[hi]
  ·simp only[h,decide_false]
   by_cases hk:k%2=1
   ·simp only[hk,decide_true,Tr.vS,Tr.nJ x d,aK]
    by_cases hi:i=0
    ·exact Gv
    ·simp only[hi,if_false]
     by_cases h2:i%2=1
     ·simp only[h2,if_true]
      by_cases e:i=k
      ·simp[e]
      ·exact Gq
     ·simp only[h2,if_false]
      rw[if_neg (by intro e;subst e;exact h2 hk)]
   ·simp only[hk,decide_false,Tr.vS,Tr.nJ x d,aK]
    by_cases hi:i=0
    ·exact Gv
    ·simp only[hi,if_false]
     by_cases h2:i%2=1
     ·simp only[h2,if_true]
      rw[if_neg (by intro e;subst e;exact hk h2)]
     ·simp only[h2,if_false]
      by_cases e:i=k
      ·simp[e]
      ·exact Gq
theorem Tr.iF {α:Type}(t:Tr α)(k:Nat)(x:α):(t.set k x).get=ax t.get k x:=Tr.nJ x 24 t k
noncomputable def Nat.fc {β:Type}(n:Nat)(c:Nat->β):β:=Nat.rec (motive:=fun _=>β) (c 0) (fun m _=>c (Nat.succ m)) n
theorem Nat.cU {β:Type}(n:Nat)(c:Nat->β):Nat.fc n c=c n:=by cases n<;>rfl
noncomputable def Int.fc {β:Type}(n:Int)(c:Int->β):β:=Int.rec (motive:=fun _=>β) (fun m=>Nat.fc m fun m=>c (.ofNat m)) (fun m=>Nat.fc m fun m=>c (.negSucc m)) n
theorem Int.cU {β:Type}(n:Int)(c:Int->β):Int.fc n c=c n:=by cases n<;>simp only[Int.fc,Nat.cU]
mutual
noncomputable def D.fc {β:Type}:D->(D->β)->β
 | .int k n,c=>Int.fc n fun n=>c (.int k n)
 | .bool b,c=>match b with|true=>c (.bool true)|false=>c (.bool false)
 | .agg l,c=>D.vT l fun l=>c (.agg l)
 | .sl l,c=>D.vT l fun l=>c (.sl l)
 | .iface t x,c=>D.fc x fun x=>c (.iface t x)
 | .str s,c=>c (.str s)
 | .fe,c=>c .fe
 | .mU,c=>c .mU
 | .cf,c=>c .cf
 | .hY,c=>c .hY
 | .mp ks vs,c=>D.vT ks fun ks=>D.vT vs fun vs=>c (.mp ks vs)
noncomputable def D.vT {β:Type}:List D->(List D->β)->β
 |[],c=>c []
 |x::xs,c=>D.fc x fun x=>D.vT xs fun xs=>c (x::xs)
end
mutual
theorem D.cU {β:Type}:∀ (x:D) (c:D->β),D.fc x c=c x
 | .int k n,c=>by simp only[D.fc,Int.cU]
 | .bool b,c=>by cases b<;>rfl
 | .agg l,c=>by simp only[D.fc,D.fD l]
 | .sl l,c=>by simp only[D.fc,D.fD l]
 | .iface t x,c=>by simp only[D.fc,D.cU x]
 | .mp ks vs,c=>by simp only[D.fc,D.fD ks,D.fD vs]
 | .str _,_| .fe,_| .mU,_| .cf,_| .hY,_=>by simp only[D.fc]
theorem D.fD {β:Type}:∀ (x:List D) (c:List D->β),D.vT x c=c x
 |[],c=>by simp only[D.vT]
 |x::xs,c=>by simp only[D.vT,D.cU x,D.fD xs]
end
mutual
noncomputable def V.fc {β:Type}:V->(V->β)->β
 | .d x,c=>D.fc x fun x=>c (.d x)
 | .agg l,c=>V.vT l fun l=>c (.agg l)
 | .bW l,c=>V.vT l fun l=>c (.bW l)
 | .ptr i o,c=>Nat.fc i fun i=>Nat.fc o fun o=>c (.ptr i o)
 | .osl i o,c=>Nat.fc i fun i=>Nat.fc o fun o=>c (.osl i o)
 | .pe a b i j k,c=>Nat.fc a fun a=>Nat.fc b fun b=>Nat.fc i fun i=>Nat.fc j fun j=>Nat.fc k fun k=>c (.pe a b i j k)
 | .pp l o,c=>D.vT l fun l=>Nat.fc o fun o=>c (.pp l o)
 | .func f a b,c=>V.vT a fun a=>V.vT b fun b=>c (.func f a b)
 | .iface t x,c=>V.fc x fun x=>c (.iface t x)
 | .rK l,c=>D.vT l fun l=>c (.rK l)
 | .x9 i j k,c=>Nat.fc i fun i=>Nat.fc j fun j=>Nat.fc k fun k=>c (.x9 i j k)
 | .mp i,c=>Nat.fc i fun i=>c (.mp i)
 | .ju i,c=>Nat.fc i fun i=>c (.ju i)
 | .aZ,c=>c .aZ
 | .aa,c=>c .aa
 | .ft,c=>c .ft
noncomputable def V.vT {β:Type}:List V->(List V->β)->β
 |[],c=>c []
 |x::xs,c=>V.fc x fun x=>V.vT xs fun xs=>c (x::xs)
end
mutual
theorem V.cU {β:Type}:∀ (x:V) (c:V->β),V.fc x c=c x
 | .d x,c=>by simp only[V.fc,D.cU]
 | .agg l,c=>by simp only[V.fc,V.fD l]
 | .bW l,c=>by simp only[V.fc,V.fD l]
 | .pp l o,c=>by simp only[V.fc,D.fD,Nat.cU]
 | .func f a b,c=>by simp only[V.fc,V.fD a,V.fD b]
 | .iface t x,c=>by simp only[V.fc,V.cU x]
 | .rK l,c=>by simp only[V.fc,D.fD]
 | .ptr _ _,_| .osl _ _,_| .pe _ _ _ _ _,_| .x9 _ _ _,_| .mp _,_| .ju _,_| .aZ,_| .aa,_| .ft,_=>by simp only[V.fc,Nat.cU]
theorem V.fD {β:Type}:∀ (x:List V) (c:List V->β),V.vT x c=c x
 |[],c=>by simp only[V.vT]
 |x::xs,c=>by simp only[V.vT,V.cU x,V.fD xs]
end
section
variable {β:Type}
noncomputable def aco(k:IntKind)(n:Int)(c:V->β):β:=Int.fc n fun n=>c (.d (.int k n))
noncomputable def acp(b:Bool)(c:V->β):β:= @Bool.rec (fun _=>β) (c (.d (.bool false))) (c (.d (.bool true))) b
noncomputable def Wn(x:D)(c:V->β):β:=D.fc x fun x=>c (.d x)
noncomputable def vD(x:D):(V->β)->β:=match x with| .int k n=>aco k n| .bool b=>acp b|x=>Wn x
noncomputable def acq(i o:Nat)(c:V->β):β:=Nat.fc i fun i=>Nat.fc o fun o=>c (.ptr i o)
noncomputable def acr(i o:Nat)(c:V->β):β:=Nat.fc i fun i=>Nat.fc o fun o=>c (.osl i o)
noncomputable def vPe(a b i j k:Nat)(c:V->β):β:=Nat.fc a fun a=>Nat.fc b fun b=>Nat.fc i fun i=>Nat.fc j fun j=>Nat.fc k fun k=>c (.pe a b i j k)
noncomputable def V.ZJ (v:V):(V->β)->β:=match v with| .d x=>vD x| .ptr i o=>acq i o| .osl i o=>acr i o| .pe a b i j k=>vPe a b i j k|v=>V.fc v
theorem V.Wo (v:V)(c:V->β):V.ZJ v c=c v:=by
 cases v
 case d x=>
  cases x
  case int k n=>simp only[V.ZJ,vD,aco,Int.cU]
  case bool b=>cases b<;>rfl
  all_goals exact D.cU _ _
 case ptr i o=>simp only[V.ZJ,acq,Nat.cU]
 case osl i o=>simp only[V.ZJ,acr,Nat.cU]
 case pe a b i j k=>simp only[V.ZJ,vPe,Nat.cU]
 all_goals exact V.cU _ _
end
noncomputable def ZK{β:Type}:List (D×D)->(List (D×D)->β)->β
 |[],c=>c []
 |(a,b)::l,c=>D.fc a fun a=>D.fc b fun b=>ZK l fun l=>c ((a,b)::l)
theorem Mx{β:Type}:∀ (x:List (D×D)) (c:List (D×D)->β),ZK x c=c x
 |[],c=>rfl
 |(a,b)::l,c=>by simp only[ZK,D.cU,Mx l]
noncomputable def ab.fc {β:Type}(x:ab)(c:ab->β):β:=
 match x with
 | .row cs=>V.vT cs fun cs=>c (.row cs)
 | .arr e t s es=>Nat.fc e fun e=>Nat.fc s fun s=>D.vT es fun es=>c (.arr e t s es)
 | .rV e es=>Nat.fc e fun e=>D.vT es fun es=>c (.rV e es)
 | .map kt vt l=>ZK l fun l=>c (.map kt vt l)
 | .hZ l=>ZK l fun l=>c (.hZ l)
 | .pb l last=>ZK l fun l=>c (.pb l last)
 | .zQ l pos=>Nat.fc pos fun pos=>c (.zQ l pos)
 |x=>c x
theorem ab.cU {β:Type}(x:ab)(c:ab->β):ab.fc x c=c x:=by cases x<;>simp only[ab.fc,V.fD,D.fD,Nat.cU,Mx]
noncomputable def Tr.yX {α β:Type}(x:α)(d:Nat):Tr α->Nat->(Tr α->β)->β:=
 Nat.rec (motive:=fun _=>Tr α->Nat->(Tr α->β)->β) (fun t k c=>c (.e (ax t.get k x)))
  (fun _ ih t k c=>Tr.rec (motive:=fun _=>β) (fun f=>
   Bool.rec (Bool.rec (ih (.e fun i=>f (2*i+2)) (Nat.sub (Nat.div k 2) 1) fun r=>c (.n (f 0) (.e fun i=>f (2*i+1)) r)) (ih (.e fun i=>f (2*i+1)) (Nat.div k 2) fun l=>c (.n (f 0) l (.e fun i=>f (2*i+2)))) (Nat.beq (Nat.mod k 2) 1))
    (c (.n x (.e fun i=>f (2*i+1)) (.e fun i=>f (2*i+2)))) (Nat.beq k 0))
   (fun y l r _ _=>Bool.rec (Bool.rec (ih r (Nat.sub (Nat.div k 2) 1) fun r=>c (.n y l r)) (ih l (Nat.div k 2) fun l=>c (.n y l r)) (Nat.beq (Nat.mod k 2) 1)) (c (.n x l r)) (Nat.beq k 0)) t) d
theorem Tr.vU {α β:Type}(x:α):∀ (d:Nat) (t:Tr α) (k:Nat) (c:Tr α->β),Tr.yX x d t k c=c (Tr.vR x d t k)
 |0,t,k,c=>rfl
 |d+1, .e f,k,c=>by
  show @Bool.rec (fun _=>β) (@Bool.rec (fun _=>β) (Tr.yX x d (.e fun i=>f (2*i+2)) (k/2 - 1) fun r=>c (.n (f 0) (.e fun i=>f (2*i+1)) r)) (Tr.yX x d (.e fun i=>f (2*i+1)) (k/2) fun l=>c (.n (f 0) l (.e fun i=>f (2*i+2)))) (Nat.beq (k%2) 1)) (c (.n x (.e fun i=>f (2*i+1)) (.e fun i=>f (2*i+2)))) (Nat.beq k 0)=_
  simp only[Tr.vR,Tr.vU x d]
  cases Nat.beq k 0
  ·cases Nat.beq (k%2) 1<;>rfl
  ·rfl
 |d+1, .n y l r,k,c=>by
  show @Bool.rec (fun _=>β) (@Bool.rec (fun _=>β) (Tr.yX x d r (k/2 - 1) fun r=>c (.n y l r)) (Tr.yX x d l (k/2) fun l=>c (.n y l r)) (Nat.beq (k%2) 1)) (c (.n x l r)) (Nat.beq k 0)=_
  simp only[Tr.vR,Tr.vU x d]
  cases Nat.beq k 0
  ·cases Nat.beq (k%2) 1<;>rfl
  ·rfl
noncomputable def Tr.Wp {α β:Type}(t:Tr α)(k:Nat)(x:α)(c:Tr α->β):β:=Tr.yX x 24 t k c
theorem Tr.Hq {α β:Type}(t:Tr α)(k:Nat)(x:α)(c:Tr α->β):t.Wp k x c=c (t.set k x):=Tr.vU x 24 t k c
structure St where
 env:Tr V
 o:Tr ab
 nx:Nat
noncomputable def St.S (st:St):S:=⟨st.env.get,st.o.get,st.nx⟩
noncomputable def JA(o:Tr ab)(Δ:List (Nat×ab)):Tr ab:=Δ.foldl (fun f x=>f.set x.1 x.2) o
noncomputable def tE(env:Tr V)(dst:Option Tmp)(v:V):Tr V:=match dst with|some d=>env.set d v|none=>env
noncomputable def vV{β:Type}(o:Tr ab):List (Nat×ab)->(Tr ab->β)->β
 |[],c=>c o
 |(i,x)::Δ,c=>ab.fc x fun x=>o.Wp i x fun o=>vV o Δ c
theorem nK{β:Type}:∀ (Δ:List (Nat×ab)) (o:Tr ab) (c:Tr ab->β),vV o Δ c=c (JA o Δ)
 |[],o,c=>rfl
 |(i,x)::Δ,o,c=>by simp only[vV,ab.cU,Tr.Hq,nK Δ];rfl
noncomputable def mq{β:Type}(env:Tr V)(dst:Option Tmp)(v:V)(c:Tr V->β):β:=match dst with|some d=>V.ZJ v fun v=>env.Wp d v c|none=>c env
theorem jF{β:Type}(env:Tr V)(dst:Option Tmp)(v:V)(c:Tr V->β):mq env dst v c=c (tE env dst v):=by
 cases dst<;>simp only[mq,tE,V.Wo,Tr.Hq]
theorem j6:∀ (Δ:List (Nat×ab)) (o:Tr ab),(JA o Δ).get=put o.get Δ
 |[],_=>rfl
 |x::Δ,o=>by
  simp only[JA,put,List.foldl_cons]
  have:=j6 Δ (o.set x.1 x.2)
  simp only[JA,put]at this
  rw[this,Tr.iF]
theorem jA(env:Tr V)(dst:Option Tmp)(v:V):(tE env dst v).get=aY env.get dst v:=by
 cases dst<;>simp[tE,aY,Tr.iF]
section Wq
def S4(x:Operand)(_:Program)(s:S)(_:Nat):Option fS:=one (s.ev x)
def acs(c a b:Operand)(_:Program)(s:S)(_:Nat):Option fS:=ml (qG (s.ev c) (s.ev a) (s.ev b))
def Wr(t:TypeId)(parts:Array (Nat×Operand))(P:Program)(s:S)(_:Nat):Option fS:=ml (Aj P t (parts.toList.map fun p=>(p.1,s.ev p.2)))
def Df(t:TypeId)(len:Nat)(parts:Array (Nat×Operand))(P:Program)(s:S)(fr:Nat):Option fS:=gu P s.o fr t len (parts.toList.map fun p=>(p.1,s.ev p.2))
def acu(t:TypeId)(x:Operand)(P:Program)(s:S)(_:Nat):Option fS:=nw P s.o t (s.ev x)
def Ws(t:TypeId)(x v:Operand)(P:Program)(s:S)(_:Nat):Option fS:=sn P s.o t (s.ev x) (s.ev v)
def afA(x:Operand)(_:Program)(s:S)(_:Nat):Option fS:=ml (jB s.o (s.ev x))
noncomputable def acv(op:BinOp):IntKind->Int->Int->Option V:=
 match op with
 | .add=>fun k a b=>some (.d (.int k (k.wrap (Int.add a b))))
 | .sub=>fun k a b=>some (.d (.int k (k.wrap (Int.sub a b))))
 | .mul=>fun k a b=>some (.d (.int k (k.wrap (Int.mul a b))))
 |op=>CC op
theorem PS(op:BinOp):acv op=CC op:=by cases op<;>rfl
def asInt(x:V):Option (IntKind×Int):=match x with| .d (.int k a)=>some (k,a)|_=>none
def My(op:BinOp)(t:TypeId)(c:Bool)(x y:V)(P:Program)(o:Nat->ab):Option fS:=fl P o op t c x y
noncomputable def acw(op:BinOp)(t:TypeId)(x y:Operand)(P:Program)(s:S)(_:Nat):Option fS:=
 match asInt (s.ev x)with
 |some (k,a)=>match asInt (s.ev y)with
  |some (k',b)=>if k=k' then match acv op k a b with
   |some v=>some (v,[],[])
   |none=>My op t (isConst x||isConst y) (s.ev x) (s.ev y) P s.o
   else none
  |none=>My op t (isConst x||isConst y) (s.ev x) (s.ev y) P s.o
 |none=>My op t (isConst x||isConst y) (s.ev x) (s.ev y) P s.o
theorem Dg{x:V}{k:IntKind}{a:Int}(h:asInt x=some (k,a)):x= .d (.int k a):=by
 unfold asInt at h;split at h
 ·injection h with h;cases h;rfl
 ·cases h
def FG(t:TypeId)(x:Operand)(f:Nat)(P:Program)(s:S)(_:Nat):Option fS:=ml (iq P s.o t (s.ev x) f)
def FH(t:TypeId)(x i:Operand)(P:Program)(s:S)(_:Nat):Option fS:=im P s.o t (s.ev x) (s.ev i)
def Wt(op:Op)(P:Program)(s:S)(fr:Nat):Option fS:=gC P s fr op
noncomputable def PT(op:Op):Program->S->Nat->Option fS:=
 match op with
 | .move x=>S4 x
 | .assign x=>S4 x
 | .pick c a b=>acs c a b
 | .build t parts=>Wr t parts
 | .buildSlice t len parts=>Df t len parts
 | .load t x=>acu t x
 | .store t x v=>Ws t x v
 | .nilCheck x=>afA x
 | .binOp op t x y _=>acw op t x y
 | .fieldAddr t x f=>FG t x f
 | .indexAddr t x i=>FH t x i
 |op=>Wt op
theorem Hr{op:Op}{P:Program}{s:S}{fr:Nat}{r:fS}(h:PT op P s fr=some r):gC P s fr op=some r:=by
 cases op
 case binOp op t x y yt=>
  simp only[PT,acw,PS]at h
  have e:gC P s fr (.binOp op t x y yt)=fl P s.o op t (isConst x||isConst y) (s.ev x) (s.ev y):=rfl
  rw[e]
  split at h
  ·rename_i k a hx
   split at h
   ·rename_i k' b hy
    split at h
    ·rename_i hk
     split at h
     ·rename_i v hv
      unfold fl Ai
      simp only[Dg hx,Dg hy,if_pos hk,hv]
      exact h
     ·exact h
    ·cases h
   ·exact h
  ·exact h
 all_goals exact h
end Wq
inductive FD where
 |fn (n:Nat) (ic:IC) (rs:List ResultVar)
 |dfr (n:Nat) (iZ eI:IC) (g t:Nat) (fi:List Operand) (rs:List ResultVar) (m r r1:Nat) (yW:IC)
 |mpc
 |no
def FD.Ok (P:Program)(f:Nat):FD->Prop
 | .fn n ic rs=>aN P f n ic rs
 | .dfr n iZ eI g t fi rs m r r1 yW=>Hl P f n iZ eI g t fi rs/\Db P g m r r1 yW
 | .mpc=>S3 P f
 | .no=>True
inductive CR where
 |ret (v:V) (o:Tr ab) (nx:Nat)|bE (v:V) (o:Tr ab) (nx:Nat)
def CR.to (K X:V->(Nat->ab)->Nat->Prop):CR->Prop
 | .ret v o nx=>K v o.get nx
 | .bE v o nx=>X v o.get nx
inductive RO where
 |ok (st:St)|bE (v:V) (st:St)
def RO.to (K:S->Prop)(X:V->S->Prop):RO->Prop
 | .ok st=>K st.S
 | .bE v st=>X v st.S
inductive eg where
 |r (x:R)|c (x:CR)
abbrev Kt:=fG->St->Option eg
abbrev dA:=Nat->Bool->Nat->IC->St->Kt->Option eg
noncomputable def JB(P:Program)(rs:List ResultVar)(st:St)(kc:CR->Option eg):Option eg:=
 match me P st.S rs with
 |some [v]=>kc (.ret v st.o st.nx)
 |some vs=>kc (.ret (.bW vs) st.o st.nx)
 |none=>none
noncomputable def S5(P:Program)(rs:List ResultVar)(kc:CR->Option eg):Kt:=fun e st=>
 match e with
 | .normal=>JB P rs st kc
 | .ret=>JB P rs st kc
 | .bE v=>kc (.bE v st.o st.nx)
 | .exit _=>none
noncomputable def Mz(P:Program)(rs:List ResultVar)(kc:CR->Option eg)(env:Tr V):Kt:=fun e s4=>
 match e with
 | .normal=>JB P rs ⟨env,s4.o,s4.nx⟩ kc
 | .ret=>JB P rs ⟨env,s4.o,s4.nx⟩ kc
 |_=>none
def acx:fG->Option V
 | .normal=>some (.d .fe)
 | .ret=>some (.d .fe)
 | .bE v=>some v
 | .exit _=>none
noncomputable def MA(P:Program)(rec:dA)(rs:List ResultVar)(aM:List V)(m r r1:Nat)(yW:IC)(kc:CR->Option eg):Kt:=fun e s3=>
 match acx e with
 |some u=>if aM.length<=m then rec s3.nx true m yW ⟨.e (ax (ax (cp aM) r u) r1 u),s3.o,s3.nx⟩ (Mz P rs kc s3.env)else none
 |none=>none
noncomputable def Hs(P:Program)(rec:dA)(n t:Nat)(eI:IC)(g:Nat)(fi:List Operand)(rs:List ResultVar)(m r r1:Nat)(yW:IC)(kc:CR->Option eg):Kt:=fun e s1=>
 match e with
 | .normal=>rec s1.nx false n eI ⟨s1.env.set t (.func (.func g) [] (fi.map s1.S.ev)),s1.o,s1.nx⟩ (MA P rec rs (fi.map s1.S.ev) m r r1 yW kc)
 |_=>none
noncomputable def MB(P:Program)(bN:Nat->FD)(rec:dA)(g:Nat)(args:List V)(o:Tr ab)(nx:Nat)(kc:CR->Option eg):Option eg:=
 match bN g with
 | .fn n ic rs=>if args.length<=n then rec nx false n ic ⟨.e (cp args),o,nx⟩ (S5 P rs kc)else none
 | .dfr n iZ eI g t fi rs m r r1 yW=>if args.length<=n then rec nx true n iZ ⟨.e (cp args),o,nx⟩ (Hs P rec n t eI g fi rs m r r1 yW kc)else none
 | .mpc=>match args with
   |[.mp id]=>match o.get id with
    | .map kt vt l=>kc (.ret (.mp nx) (o.set nx (.map kt vt l)) (nx+1))
    |_=>none
   |_=>none
 | .no=>none
def vW:V->List V
 | .bW vs=>vs
 |v=>[v]
noncomputable def Ht(r:CR):Option R:=
 match r with
 | .ret v o _=>match v with
   | .bW [_]=>none
   |v=>match b7 o.get (vW v)with
    |some rs=>some (.ret rs)
    |none=>none
 | .bE v o _=>match dB o.get v with
   |some x=>some (.bE x)
   |none=>none
noncomputable def rfc{β:Type}(x:R)(c:R->β):β:=match x with| .ret l=>D.vT l fun l=>c (.ret l)| .bE d=>D.fc d fun d=>c (.bE d)
theorem FI{β:Type}(x:R)(c:R->β):rfc x c=c x:=by cases x<;>simp only[rfc,D.fD,D.cU]
noncomputable def Dh(r:CR):Option eg:=match Ht r with|some x=>rfc x fun x=>some (.r x)|none=>none
theorem MC{r:CR}{a:eg}(h:Dh r=some a):∃x,Ht r=some x/\a= .r x:=by
 unfold Dh at h
 split at h
 ·rename_i x hx;rw[FI]at h;injection h with h;exact⟨x,hx,h.symm⟩
 ·cases h
def MD(out:R)(o:Tr ab)(nx:Nat):CR:=
 match out with
 | .ret rs=> .ret (jv rs) o nx
 | .bE x=> .bE (.d x) o nx
structure qT (P:Program) where
 dat:Nat->Bool
 fx:Nat->List D->Option R
 ok:∀g ds out,fx g ds=some out->aV P g ds out
def ME(l:List (Nat×List D×R))(g:Nat)(ds:List D):Option R:=
 match l with
 |[]=>none
 |x::l=>match Nat.beq x.1 g with
  |true=>match D.gh x.2.1 ds with
   |true=>some x.2.2
   |false=>ME l g ds
  |false=>ME l g ds
theorem AO{P:Program}:∀ {l:List (Nat×List D×R)},(∀x∈l,aV P x.1 x.2.1 x.2.2)->∀g ds out,ME l g ds=some out->aV P g ds out
 |[],_,_,_,_,h=>by cases h
 |x::l,hl,g,ds,out,h=>by
  simp only[ME]at h
  split at h
  ·rename_i hg
   split at h
   ·rename_i hd
    injection h with h
    have:=hl x aI
    rw[Nat.eq_of_beq_eq_true hg,D.dD _ _ hd,h]at this
    exact this
   ·exact AO (fun y hy=>hl y kD) g ds out h
  ·exact AO (fun y hy=>hl y kD) g ds out h
def qT.of {P:Program}(dat:Nat->Bool)(l:List (Nat×List D×R))(h:∀x∈l,aV P x.1 x.2.1 x.2.2):qT P:=⟨dat,ME l,AO h⟩
noncomputable def PU(P:Program)(bN:Nat->FD)(md:qT P)(rec:dA)(g:Nat)(ds:List D):Option R:=
 match md.fx g ds with
 |some out=>some out
 |none=>match MB P bN rec g (ds.map .d) (.e fun _=> .no) 0 Dh with
  |some (.r x)=>some x
  |_=>none
noncomputable def S6(out:R)(o:Tr ab)(nx:Nat)(args:List V)(kc:CR->Option eg):Option eg:=
 match out.flat with
 |true=>kc (MD out o (nx+1))
 |false=>match out.np with
  |true=>kc (MD out (JA o (rW o.get (V.bg args))) (nx+1))
  |false=>kc (MD out (JA o (bT o.get (V.bg args))) (nx+1))
noncomputable def Hu(P:Program)(bN:Nat->FD)(md:qT P)(rec:dA)(g:Nat)(args:List V)(o:Tr ab)(nx:Nat)(kc:CR->Option eg):Option eg:=
 match md.dat g,b7 o.get args with
 |true,some ds=>match PU P bN md rec g ds with
  |some out=>S6 out o nx args kc
  |none=>none
 |_,_=>MB P bN rec g args o nx kc
noncomputable def MF(id:Nat)(kc:CR->Option eg):Kt:=fun e s2=>
 match e with
 | .bE v=>kc (.bE v s2.o s2.nx)
 |e=>match s2.o.get id with
  | .loop nf m en p c d _ _=>match e with
    | .normal=>kc (.ret (.d (.bool true)) (s2.o.set id (.loop nf m en p c d .ready none)) s2.nx)
    | .ret=>kc (.ret (.d (.bool false)) (s2.o.set id (.loop nf m en p c d .done (some .ret))) s2.nx)
    | .exit j=>kc (.ret (.d (.bool false)) (s2.o.set id (.loop nf m en p c d .done (some (.exit j)))) s2.nx)
    | .bE _=>none
  |_=>none
noncomputable def Hv(rec:dA)(id nx n:Nat)(eI:IC)(kc:CR->Option eg):Kt:=fun e s1=>
 match e with
 | .normal=>match s1.o.get id with
   | .loop nf m en p c d .ready pd=>rec nx true n eI ⟨s1.env,s1.o.set id (.loop nf m en p c d .busy pd),s1.nx⟩ (MF id kc)
   |_=>none
 | .bE v=>kc (.bE v s1.o s1.nx)
 |_=>none
noncomputable def Wu(P:Program)(rec:dA)(id:Nat)(args:List V)(o:Tr ab)(nx:Nat)(kc:CR->Option eg):Option eg:=
 match o.get id with
 | .loop nf n env ps iZ eI _ _=>if nf=P.funcs.size/\id<nx/\ps.all (fun t=>decide (t<n))=true/\args.length=ps.length then
  rec nx true n iZ ⟨.e (nC (aU env) ps args),o,nx⟩ (Hv rec id nx n eI kc)
   else none
 |_=>none
noncomputable def yY(P:Program)(st:St)(o:bM)(kr:RO->Option eg):Option eg:=
 match PT o.op P st.S st.nx with
 |some (v,Δ,_)=>mq st.env o.dst v fun e=>vV st.o Δ fun ob=>Nat.fc (st.nx+1) fun n=>kr (.ok ⟨e,ob,n⟩)
 |none=>none
noncomputable def crX(st:St)(dst:Option Nat)(kr:RO->Option eg)(c:CR):Option eg:=
 match c with
 | .ret v o nx=>mq st.env dst v fun e=>Nat.fc nx fun nx=>kr (.ok ⟨e,o,nx⟩)
 | .bE v o nx=>kr (.bE v ⟨st.env,o,nx⟩)
noncomputable def MG(c:Call)(P:Program)(bN:Nat->FD)(md:qT P)(rec:dA)(st:St)(o:bM)(kr:RO->Option eg):Option eg:=
 match c.callee with
 | .value f=>match st.S.ev f with
   | .func (.func g) first cap=>Hu P bN md rec g (first++c.args.toList.map st.S.ev++cap) st.o st.nx (crX st o.dst kr)
   | .ju id=>Wu P rec id (c.args.toList.map st.S.ev) st.o st.nx (crX st o.dst kr)
   |_=>none
 | .invoke r m=>match vr P m (st.S.ev r)with
   |some (g,y)=>Hu P bN md rec g (y::c.args.toList.map st.S.ev) st.o st.nx (crX st o.dst kr)
   |none=>none
 |_=>yY P st o kr
noncomputable def Wv(x:Operand)(P:Program)(_:Nat->FD)(_:qT P)(_:dA)(st:St)(_:bM)(kr:RO->Option eg):Option eg:=
 match st.S.ev x with
 | .d (.iface t y)=>kr (.bE (.d (.iface t y)) st)
 | .iface t y=>kr (.bE (.iface t y) st)
 |_=>none
noncomputable def acy(P:Program)(_:Nat->FD)(_:qT P)(_:dA)(st:St)(o:bM)(kr:RO->Option eg):Option eg:=yY P st o kr
def R.same:R->R->Bool
 | .ret a, .ret b=>D.gh a b
 | .bE a, .bE b=>a.same b
 |_,_=>false
theorem R.dX {x y:R}(h:x.same y=true):x=y:=by
 cases x<;>cases y<;>simp only[R.same,Bool.false_eq_true]at h
 ·rw[D.dD _ _ h]
 ·rw[D.dX _ _ h]
noncomputable def brX(f:Nat->Option eg):Nat->Option eg
 |0=>none
 |n+1=>match n with
  |0=>f 0
  |n=>match brX f n with
   |some (.r a)=>match f n with
    |some (.r b)=>match R.same a b with
     |true=>some (.r a)
     |false=>none
    |_=>none
   |_=>none
theorem MH{f:Nat->Option eg}{a:eg}:∀ {n:Nat},brX f n=some a->∀i,i<n->f i=some a
 |0,h,_,_=>by cases h
 |1,h,i,hi=>by obtain rfl:i=0:=ag
               exact h
 |n+2,h,i,hi=>by
  simp only[brX]at h
  split at h
  ·rename_i x hx
   split at h
   ·rename_i y hy
    split at h
    ·rename_i he
     have e:=R.dX he
     subst e
     rw[<- h]
     by_cases e:i=n+1
     ·subst e;exact hy
     ·exact MH hx i ag
    ·cases h
   ·cases h
  ·cases h
noncomputable def PV(st:St)(dst:Option Nat)(kr:RO->Option eg)(v:V)(Δ:List (Nat×ab)):Option eg:=
 mq st.env dst v fun e=>vV st.o Δ fun ob=>Nat.fc (st.nx+1) fun n=>kr (.ok ⟨e,ob,n⟩)
noncomputable def MI(x:Operand)(str:Bool)(P:Program)(_:Nat->FD)(_:qT P)(_:dA)(st:St)(o:bM)(kr:RO->Option eg):Option eg:=
 match oS st.o.get (st.S.ev x)with
 |some (id,l)=>match str with
  |true=>none
  |false=>match l with
   |[]=>PV st o.dst kr (.bW [.d (.bool false)]) []
   |_=>brX (fun i=>match l[i]? with
    |some (k,x)=>PV st o.dst kr (.bW [.d (.bool true), .d k, .d x]) [(id, .pb (l.eraseIdx i) (some (k,x)))]
    |none=>none) l.length
 |none=>yY P st o kr
noncomputable def opK(op:Op):(P:Program)->(Nat->FD)->qT P->dA->St->bM->(RO->Option eg)->Option eg:=
 match op with
 | .call c=>MG c
 | .panic x=>Wv x
 | .next x str=>MI x str
 |_=>acy
noncomputable def opX(P:Program)(bN:Nat->FD)(md:qT P)(rec:dA)(st:St)(o:bM)(kr:RO->Option eg):Option eg:=opK o.op P bN md rec st o kr
noncomputable def roK(next:St->Option eg)(kr:RO->Option eg):RO->Option eg:=fun r=>match r with| .ok st=>next st| .bE v st=>kr (.bE v st)
noncomputable def AP(P:Program)(bN:Nat->FD)(md:qT P)(rec:dA)(kr:RO->Option eg):List bM->St->Option eg
 |[],st=>kr (.ok st)
 |o::l,st=>match(match o.gd with
   |none=>some true
   |some (d,want)=>match st.env.get d with
    | .d (.bool b)=>some (b==want)
    | .bW []=>some false
    |_=>none)with
  |some true=>opX P bN md rec st o (roK (AP P bN md rec kr l) kr)
  |some false=>mq st.env o.dst (.bW []) fun e=>Nat.fc (st.nx+1) fun n=>AP P bN md rec kr l ⟨e,st.o,n⟩
  |none=>none
section
variable {P:Program}{bN:Nat->FD}{md:qT P}
noncomputable def eA(P:Program)(rec:dA):Prop:=∀b rd n ic st k a,rec b rd n ic st k=some a->∀Q:fG->S->Prop,(∀e st',k e st'=some a->Q e st'.S)->uH P n b rd ic Q st.S
theorem uL{rs:List ResultVar}{st:St}{kc:CR->Option eg}{a:eg}(h:JB P rs st kc=some a){K X:V->(Nat->ab)->Nat->Prop}(hr:∀r,kc r=some a->r.to K X):mi P rs K X .ret st.S:=by
 unfold JB at h
 unfold mi
 split at h
 ·rename_i v hv;simp only[hv];exact hr _ h
 ·rename_i vs hv hn
  simp only[hn]
  exact hr _ h
 ·cases h
theorem nL(bd:P.follows .mixedOrders=true)(cD:∀g,(bN g).Ok P g){rec:dA}(bC:eA P rec){g:Nat}{args:List V}{o:Tr ab}{nx:Nat}{kc:CR->Option eg}{a:eg}(h:MB P bN rec g args o nx kc=some a){K X:V->(Nat->ab)->Nat->Prop}(hr:∀r,kc r=some a->r.to K X):
 cH P g args o.get nx K X:=by
 have aW:=cD g
 unfold MB at h
 split at h
 ·rename_i n ic rs ht
  rw[ht]at aW
  split at h
  ·rename_i hl
   refine cH.vK bd aW hl ?_
   refine bC _ _ _ _ _ _ _ h _ fun e st he=> ?_
   unfold S5 at he
   cases e with
   |normal=>exact uL he hr
   |ret=>exact uL he hr
   |bE v=>exact hr _ he
   |exit j=>cases he
  ·cases h
 ·rename_i n iZ eI g' t fi rs m r0 r1 yW ht
  rw[ht]at aW
  split at h
  ·rename_i hl
   refine cH.De bd aW.1 aW.2 hl (bC _ _ _ _ _ _ _ h _ fun e s1 he=> ?_)
   unfold Hs at he
   cases e with
   |normal=>
    have hb:uH P n s1.nx false eI (AM P m r0 r1 yW (fi.map s1.S.ev) rs K X) ⟨ax s1.env.get t (.func (.func g') [] (fi.map s1.S.ev)),s1.o.get,s1.nx⟩:=by
     have:=bC _ _ _ _ _ _ _ he (AM P m r0 r1 yW (fi.map s1.S.ev) rs K X) (fun e s3 ZL=>by
      unfold MA at ZL
      split at ZL
      ·rename_i u hu
       split at ZL
       ·rename_i mX
        have hrw:FE P m r0 r1 yW (fi.map s1.S.ev) u s3.o.get s3.nx fun o nx=>mi P rs K X .ret ⟨s3.env.get,o,nx⟩:=by
         refine⟨mX,bC _ _ _ _ _ _ _ ZL _ fun e4 s4 he4=> ?_⟩
         unfold Mz at he4
         cases e4 with
         |normal=>exact uL (st:=⟨s3.env,s4.o,s4.nx⟩) he4 hr
         |ret=>exact uL (st:=⟨s3.env,s4.o,s4.nx⟩) he4 hr
         |_=>cases he4
        cases e<;>simp only[acx,Option.some.injEq,reduceCtorEq]at hu<;>subst hu<;>exact hrw
       ·cases ZL
      ·cases ZL)
     simp only[St.S,Tr.iF]at this
     exact this
    exact hb
   |_=>cases he
  ·cases h
 ·rename_i ht
  rw[ht]at aW
  split at h
  ·split at h
   ·rename_i kt vt l ho
    have h2:=hr _ h
    simp only[CR.to,Tr.iF]at h2
    exact cH.Wm aW ho h2
   ·cases h
  ·cases h
 ·cases h
theorem MJ{r:CR}{out:R}(ho:Ht r=some out):r.to (fun v o _=>∃vs rs,v=(match vs with|[v]=>v|vs=> .bW vs)/\b7 o vs=some rs/\out= .ret rs) (fun v o _=>∃x,dB o v=some x/\out= .bE x):=by
 unfold Ht at ho
 split at ho
 ·rename_i v o nx
  split at ho
  ·cases ho
  ·rename_i hv
   split at ho
   ·rename_i rs hrs
    injection ho with ho;subst ho
    refine⟨vW v,rs, ?_,hrs,rfl⟩
    cases v with
    |bW vs=>
     match vs,hv with
     |[],_=>rfl
     |[x],hv=>exact absurd rfl (hv x)
     |_::_::_,_=>rfl
    |_=>rfl
   ·cases ho
 ·split at ho
  ·rename_i x hx
   injection ho with ho;subst ho
   exact⟨x,hx,rfl⟩
  ·cases ho
theorem Di(bd:P.follows .mixedOrders=true)(cD:∀g,(bN g).Ok P g){rec:dA}(bC:eA P rec){g:Nat}{ds:List D}{out:R}(h:MB P bN rec g (ds.map .d) (.e fun _=> .no) 0 Dh=some (.r out)):aV P g ds out:=by
 refine aV.jd (nL bd cD bC h fun r hr=> ?_)
 obtain⟨x,hx,he⟩:=MC hr
 injection he with he;subst he
 exact MJ hx
theorem AQ(bd:P.follows .mixedOrders=true)(cD:∀g,(bN g).Ok P g){rec:dA}(bC:eA P rec){g:Nat}{ds:List D}{out:R}(h:PU P bN md rec g ds=some out):aV P g ds out:=by
 unfold PU at h
 split at h
 ·rename_i agP ho
  injection h with h;subst h
  exact md.ok _ _ _ ho
 ·split at h
  ·rename_i x hr;injection h with h;subst h;exact Di bd cD bC hr
  ·cases h
theorem Dj(bd:P.follows .mixedOrders=true)(cD:∀g,(bN g).Ok P g){rec:dA}(bC:eA P rec){g:Nat}{args:List V}{o:Tr ab}{nx:Nat}{kc:CR->Option eg}{a:eg}(h:Hu P bN md rec g args o nx kc=some a){K X:V->(Nat->ab)->Nat->Prop}(hr:∀r,kc r=some a->r.to K X):
 Sx P g args o.get nx K X:=by
 unfold Hu at h
 split at h
 ·rename_i ds hmd eZ
  split at h
  ·rename_i out Dk
   have hP:=AQ bd cD bC Dk
   refine .inl ⟨ds,eZ,out,hP, ?_⟩
   unfold S6 at h
   split at h
   ·rename_i hf
    refine .inr (.inl ⟨hf, ?_⟩)
    cases out<;>exact hr _ h
   ·split at h
    ·rename_i hf
     refine .inr (.inr ⟨hf, ?_⟩)
     rw[<- j6]
     cases out<;>exact hr _ h
    ·refine .inl ?_
     rw[<- j6]
     cases out<;>exact hr _ h
  ·cases h
 ·exact .inr (nL bd cD bC h hr)
theorem PW(bd:P.follows .mixedOrders=true){rec:dA}(bC:eA P rec){id:Nat}{args:List V}{o:Tr ab}{nx:Nat}{kc:CR->Option eg}{a:eg}(h:Wu P rec id args o nx kc=some a){K X:V->(Nat->ab)->Nat->Prop}(hr:∀r,kc r=some a->r.to K X):
 dI P id args o.get nx K X:=by
 unfold Wu at h
 split at h
 ·rename_i nf n env ps iZ eI st pd ho
  split at h
  ·rename_i hc
   obtain⟨rfl,cG,xI,hl⟩:=hc
   refine dI.vK bd ho cG xI hl ?_
   refine bC _ _ _ _ _ _ _ h _ fun e s1 he=> ?_
   unfold Hv at he
   cases e with
   |normal=>
    simp only at he
    split at he
    ·rename_i nf m en p c d pd pX
     refine⟨nf,m,en,p,c,d,pd,pX, ?_⟩
     have:=bC _ _ _ _ _ _ _ he (jZ id K X) (fun e s2 h2=>by
      unfold MF at h2
      split at h2
      ·exact hr _ h2
      ·rename_i Sq
       split at h2
       ·rename_i nf' m' en' p' c' d' st' pd' Ww
        cases e with
        |bE v=>cases h2
        |normal=>have h3:=hr _ h2;simp only[CR.to,Tr.iF]at h3;exact⟨nf',m',en',p',c',d',st',pd',Ww,h3⟩
        |ret=>have h3:=hr _ h2;simp only[CR.to,Tr.iF]at h3;exact⟨nf',m',en',p',c',d',st',pd',Ww,h3⟩
        |exit j=>have h3:=hr _ h2;simp only[CR.to,Tr.iF]at h3;exact⟨nf',m',en',p',c',d',st',pd',Ww,h3⟩
       ·cases h2)
     simp only[St.S,Tr.iF]at this
     exact this
    ·cases he
   |bE v=>exact hr _ he
   |_=>cases he
  ·cases h
 ·cases h
theorem vX{st:St}{o:bM}{kr:RO->Option eg}{a:eg}(h:yY P st o kr=some a){K:S->Prop}{X:V->S->Prop}(hr:∀r,kr r=some a->r.to K X):match gC P st.S st.S.nx o.op with
 |some (v,Δ,_)=>K ⟨aY st.S.env o.dst v,put st.S.o Δ,st.S.nx+1⟩
 |none=>False:=by
 unfold yY at h
 split at h
 ·rename_i v Δ rd he
  have he:=Hr he
  simp only[jF,nK,Nat.cU]at h
  have hr:=hr _ h
  simp only[RO.to,St.S,jA,j6]at hr
  have pW:gC P st.S st.S.nx o.op=some (v,Δ,rd):=he
  simp only[pW]
  exact hr
 ·cases h
theorem Hw{st:St}{dst:Option Nat}{kr:RO->Option eg}{v:V}{Δ:List (Nat×ab)}{a:eg}(h:PV st dst kr v Δ=some a){K:S->Prop}{X:V->S->Prop}(hr:∀r,kr r=some a->r.to K X):K ⟨aY st.S.env dst v,put st.S.o Δ,st.S.nx+1⟩:=by
 unfold PV at h
 simp only[jF,nK,Nat.cU]at h
 have hr:=hr _ h
 simp only[RO.to,St.S,jA,j6]at hr
 exact hr
theorem Wx(bd:P.follows .mixedOrders=true)(cD:∀g,(bN g).Ok P g){rec:dA}(bC:eA P rec){st:St}{o:bM}{kr:RO->Option eg}{a:eg}(h:opX P bN md rec st o kr=some a){K:S->Prop}{X:V->S->Prop}(hr:∀r,kr r=some a->r.to K X):KH P st.S o X K:=by
 have cr:∀r,crX st o.dst kr r=some a->r.to (fun v o' nx'=>K ⟨aY st.S.env o.dst v,o',nx'⟩) (fun v o' nx'=>X v ⟨st.S.env,o',nx'⟩):=by
  intro r hx
  unfold crX at hx
  split at hx
  ·simp only[jF,Nat.cU]at hx
   have hr:=hr _ hx
   simp only[RO.to,St.S,jA]at hr
   exact hr
  ·exact hr _ hx
 unfold opX at h
 unfold KH
 cases gW:o.op
 case call c=>
  rw[gW]at h
  have h:MG c P bN md rec st o kr=some a:=h
  unfold MG at h
  cases hf:c.callee
  case value f=>
   simp only[hf]at h|-
   split at h
   ·rename_i g first cap hv
    simp only[hv]
    have:=Dj bd cD bC h cr
    rcases this with⟨ds,eZ,hP⟩|hC
    ·have Wy:b7 st.S.o (first++List.map st.S.ev c.args.toList++cap)=some ds:=eZ
     simp only[Wy]
     exact .inl hP
    ·split
     ·exact .inr (.inl hC)
     ·exact .inl hC
   ·rename_i id hv
    simp only[hv]
    exact PW bd bC h cr
   ·cases h
  case invoke r m=>
   simp only[hf]at h|-
   split at h
   ·rename_i g y hv
    simp only[hv]
    exact Dj bd cD bC h cr
   ·cases h
  all_goals
   simp only[hf]at h|-
   have:=vX h hr
   rw[gW]at this
   exact this
 case panic x=>
  rw[gW]at h
  have h:Wv x P bN md rec st o kr=some a:=h
  unfold Wv at h
  split at h
  ·rename_i hv;simp only[hv];exact hr _ h
  ·rename_i hv;simp only[hv];exact hr _ h
  ·cases h
 case next x str=>
  rw[gW]at h
  have h:MI x str P bN md rec st o kr=some a:=h
  unfold MI at h
  have hl:oS st.S.o (st.S.ev x)=oS st.o.get (st.S.ev x):=rfl
  simp only[hl]
  split at h
  ·rename_i id l aq
   simp only[aq]
   cases str with
   |true=>cases h
   |false=>
    refine⟨rfl,fun e=> ?_,fun i k y e=> ?_⟩
    ·subst e
     exact Hw h hr
    ·cases l with
     |nil=>simp at e
     |cons p l=>
      have:=MH h i (List.getElem?_eq_some_iff.1 e).1
      rw[e]at this
      exact Hw this hr
  ·rename_i aq
   simp only[aq]
   have:=vX h hr
   rw[gW]at this
   exact this
 all_goals
  have h2:yY P st o kr=some a:=by rw[gW]at h;exact h
  have:=vX h2 hr
  rw[gW]at this
  exact this
theorem uM(bd:P.follows .mixedOrders=true)(cD:∀g,(bN g).Ok P g){rec:dA}(bC:eA P rec){kr:RO->Option eg}{a:eg}{K:S->Prop}{X:V->S->Prop}(hr:∀r,kr r=some a->r.to K X):∀ (l:List bM) (st:St),AP P bN md rec kr l st=some a->pA P X K l st.S
 |[],st,h=>hr (.ok st) h
 |o::l,st,h=>by
  simp only[AP,jF,Nat.cU]at h
  simp only[pA]
  have op:opX P bN md rec st o (roK (AP P bN md rec kr l) kr)=some a->KH P st.S o X (pA P X K l):=by
   intro h
   refine Wx bd cD bC h fun r hrr=> ?_
   cases r with
   |ok Wz=>exact uM bd cD bC hr l Wz hrr
   |bE v Wz=>exact hr (.bE v Wz) hrr
  have sk:AP P bN md rec kr l ⟨tE st.env o.dst (.bW []),st.o,st.nx+1⟩=some a->pA P X K l ⟨aY st.S.env o.dst (.bW []),st.S.o,st.S.nx+1⟩:=by
   intro h
   have:=uM bd cD bC hr l _ h
   exact Lv
  cases hg:o.gd with
  |none=>simp only[hg]at h;exact op h
  |some p=>
   obtain⟨d,want⟩:=p
   simp only[hg]at h
   have he:st.S.env d=st.env.get d:=rfl
   simp only[he]
   cases hv:st.env.get d with
   |d x=>
    cases x with
    |bool b=>
     simp only[hv]at h|-
     by_cases e:b=want
     ·subst e
      simp only[beq_self_eq_true]at h
      rw[if_pos rfl];exact op h
     ·have:(b==want)=false:=by simpa using e
      rw[this]at h
      rw[if_neg e];exact sk h
    |_=>simp[hv]at h
   |bW vs=>
    cases vs with
    |nil=>simp only[hv]at h|-;exact sk h
    |cons a cc=>simp[hv]at h
   |_=>simp[hv]at h
end
end
section
mutual
def V.same:V->V->Bool
 | .d x, .d y=>x.same y
 | .aZ, .aZ=>true
 | .aa, .aa=>true
 | .agg a, .agg b=>V.gh a b
 | .ptr i o, .ptr j p=>Nat.beq i j&&Nat.beq o p
 | .osl i o, .osl j p=>Nat.beq i j&&Nat.beq o p
 | .rK a, .rK b=>D.gh a b
 | .iface t x, .iface u y=>Nat.beq t u&&x.same y
 | .mp i, .mp j=>Nat.beq i j
 |_,_=>false
def V.gh:List V->List V->Bool
 |[],[]=>true
 |a::cc,b::bs=>a.same b&&V.gh cc bs
 |_,_=>false
end
mutual
theorem V.dX:∀ (x y:V),x.same y=true->x=y
 | .d x,y,h=>by cases y<;>simp only[V.same,Bool.false_eq_true]at h;rw[D.dX _ _ h]
 | .aZ,y,h=>by cases y<;>simp_all[V.same]
 | .aa,y,h=>by cases y<;>simp_all[V.same]
 | .agg a,y,h=>by cases y<;>simp only[V.same,Bool.false_eq_true]at h;rw[V.dD _ _ h]
 | .ptr i o,y,h=>by
   exact abd
 | .osl i o,y,h=>by
   exact abd
 | .rK a,y,h=>by cases y<;>simp only[V.same,Bool.false_eq_true]at h;rw[D.dD _ _ h]
 | .iface t x,y,h=>by
   cases y<;>simp only[V.same,Bool.false_eq_true,Bool.and_eq_true]at h
   rw[Nat.eq_of_beq_eq_true h.1,V.dX _ _ h.2]
 | .mp i,y,h=>by
   cases y<;>simp only[V.same,Bool.false_eq_true]at h
   rw[Nat.eq_of_beq_eq_true h]
 | .bW _,y,h| .pe _ _ _ _ _,y,h| .pp _ _,y,h| .func _ _ _,y,h| .x9 _ _ _,y,h| .ft,y,h| .ju _,y,h=>by simp[V.same]at h
theorem V.dD:∀ (x y:List V),V.gh x y=true->x=y
 |[],y,h=>by cases y<;>simp_all[V.gh]
 |a::cc,y,h=>by
  cases y<;>simp only[V.gh,Bool.false_eq_true,Bool.and_eq_true]at h
  rw[V.dX _ _ h.1,V.dD _ _ h.2]
end
def vY:List (D×D)->List (D×D)->Bool
 |[],[]=>true
 |(a,b)::l,(c,d)::m=>a.same c&&(b.same d&&vY l m)
 |_,_=>false
theorem vZ:∀ (l m:List (D×D)),vY l m=true->l=m
 |[],m,h=>by cases m<;>simp_all[vY]
 |(a,b)::l,m,h=>by
  cases m with
  |nil=>simp[vY]at h
  |cons p m=>
   obtain⟨c,d⟩:=p
   simp only[vY,Bool.and_eq_true]at h
   rw[D.dX _ _ h.1,D.dX _ _ h.2.1,vZ l m h.2.2]
noncomputable def ab.same:ab->ab->Bool
 | .no, .no=>true
 | .row a, .row b=>V.gh a b
 | .arr e t s a, .arr f u r b=>Nat.beq e f&&Nat.beq t u&&Nat.beq s r&&D.gh a b
 | .rV e a, .rV f b=>Nat.beq e f&&D.gh a b
 | .map k v a, .map k' v' b=>Nat.beq k k'&&Nat.beq v v'&&vY a b
 | .hZ a, .hZ b=>vY a b
 | .zQ a i, .zQ b j=>a==b&&Nat.beq i j
 |_,_=>false
theorem ab.dX {x y:ab}(h:x.same y=true):x=y:=by
 cases x<;>cases y<;>simp only[ab.same,Bool.false_eq_true,Bool.and_eq_true]at h
 ·rfl
 ·rw[V.dD _ _ h]
 ·rw[Nat.eq_of_beq_eq_true h.1.1.1,Nat.eq_of_beq_eq_true h.1.1.2,Nat.eq_of_beq_eq_true h.1.2,D.dD _ _ h.2]
 ·rw[Nat.eq_of_beq_eq_true h.1,D.dD _ _ h.2]
 ·rw[Nat.eq_of_beq_eq_true h.1.1,Nat.eq_of_beq_eq_true h.1.2,vZ _ _ h.2]
 ·rw[vZ _ _ h]
 ·rw[eq_of_beq h.1,Nat.eq_of_beq_eq_true h.2]
noncomputable def reach(o:Nat->ab):Nat->List Nat->List Nat->List Nat
 |0,_,seen=>seen
 |_+1,[],seen=>seen
 |n+1,id::todo,seen=>match seen.contains id with
  |true=>reach o n todo seen
  |false=>reach o n ((o id).refs++todo) (id::seen)
noncomputable def eF(o o1:Nat->ab):List Nat->List (Nat×ab)
 |[]=>[]
 |id::l=>match(o id).same (o1 id)with
  |true=>eF o o1 l
  |false=>(id,o1 id)::eF o o1 l
theorem iP{o o1:Nat->ab}:∀ (l:List Nat) (x:Nat×ab),x∈eF o o1 l->x.1∈l/\x.2=o1 x.1
 |[],x,h=>by simp[eF]at h
 |id::l,x,h=>by
  simp only[eF]at h
  split at h
  ·obtain⟨h1,h2⟩:=iP l x h;exact⟨List.mem_cons_of_mem _ h1,h2⟩
  ·rcases List.mem_cons.1 h with rfl|h
   ·exact⟨aI,rfl⟩
   ·obtain⟨h1,h2⟩:=iP l x h;exact⟨List.mem_cons_of_mem _ h1,h2⟩
theorem nM{o o1:Nat->ab}:∀ (l:List Nat) (id:Nat),id∈l->id∉(eF o o1 l).map (·.1)->o1 id=o id
 |[],id,h,_=>by simp at h
 |j::l,id,h,hn=>by
  simp only[eF]at hn
  split at hn
  ·rename_i hs
   rcases List.mem_cons.1 h with rfl|h
   ·exact(ab.dX hs).symm
   ·exact nM l id h hn
  ·simp only[List.map_cons,List.mem_cons,not_or]at hn
   rcases List.mem_cons.1 h with rfl|h
   ·exact absurd rfl hn.1
   ·exact nM l id h hn.2
theorem Dl{o1:Nat->ab}:∀ (Δ:List (Nat×ab)) (o:Nat->ab),(∀x∈Δ,x.2=o1 x.1)->∀id,id∈Δ.map (·.1)\/o id=o1 id->put o Δ id=o1 id
 |[],o,_,id,h=>by rcases h with h|h;· simp at h
                  ·exact h
 |x::Δ,o,hv,id,h=>by
  simp only[put,List.foldl_cons]
  refine Dl Δ (ax o x.1 x.2) (fun y hy=>hv y (List.mem_cons_of_mem _ hy)) id ?_
  simp only[List.map_cons,List.mem_cons]at h
  simp only[aK]
  by_cases e:id=x.1
  ·right;rw[if_pos e,hv x (by simp),e]
  ·rcases h with(h|h)|h
   ·exact absurd h e
   ·exact .inl h
   ·right;rw[if_neg e];exact h
theorem tF{o o1:Nat->ab}{l:List Nat}{id:Nat}(h:id∈l):o1 id=put o (eF o o1 l) id:=by
 by_cases hm:id∈(eF o o1 l).map (·.1)
 ·exact(Dl _ o (fun x hx=>(iP l x hx).2) id (.inl hm)).symm
 ·rw[gw hm];exact nM l id h hm
inductive DR where
 |val (v:V) (Δ:List (Nat×ab)) (rd:List Nat)|bE (v:V) (ws rd:List Nat)
def DR.to (K:V->List (Nat×ab)->List Nat->Prop)(KX:V->List Nat->List Nat->Prop):DR->Prop
 | .val v Δ rd=>K v Δ rd
 | .bE v ws rd=>KX v ws rd
noncomputable def crA(c:CR):Option eg:=some (.c c)
noncomputable def hX(P:Program)(bN:Nat->FD)(rec:dA)(g:Nat)(args:List V)(st:St):Option DR:=
 let rd:=reach st.o.get 2000 (V.aE args) []
 match rd.all (fun id=>Nat.blt id st.nx&&(st.o.get id).refs.all rd.contains)&&(V.aE args).all rd.contains with
 |true=>match MB P bN rec g args (.e (xE rd st.o.get)) st.nx crA with
  |some (.c (.ret v o1 _))=>match v with
   | .bW [_]=>none
   |v=>match b7 o1.get (vW v)with
    |some rs=>match(eF st.o.get o1.get rd).all (fun x=>x.2.refs.all rd.contains)&&(V.bg (vW v)).all (fun id=> !rd.contains id)with
     |true=>some (.val (jv rs) (eF st.o.get o1.get rd) rd)
     |false=>none
    |none=>none
  |some (.c (.bE v o1 _))=>match dB o1.get v with
   |some x=>match(eF st.o.get o1.get rd).all (fun x=>x.2.refs.all rd.contains)&&v.ids.all (fun id=> !rd.contains id)with
    |true=>some (.bE (.d x) ((eF st.o.get o1.get rd).map (·.1)) rd)
    |false=>none
   |none=>none
  |_=>none
 |false=>none
noncomputable def cDX(P:Program)(bN:Nat->FD)(md:qT P)(rec:dA)(g:Nat)(args:List V)(st:St)(rd:List Nat):Option DR:=
 match b7 st.o.get args with
 |some ds=>match md.dat g with
  |false=>match MB P bN rec g (ds.map .d) (.e fun _=> .no) 0 crA with
   |some (.c (.ret v _ _))=>match v.refs with
    |[]=>some (.val v (bT st.o.get (V.bg args)) rd)
    |_=>none
   |_=>none
  |true=>match PU P bN md rec g ds with
   |some (.ret rs)=>match D.jR rs with
    |true=>some (.val (jv rs) [] rd)
    |false=>some (.val (jv rs) (bT st.o.get (V.bg args)) rd)
   |some (.bE x)=>match x.flat with
    |true=>some (.bE (.d x) [] rd)
    |false=>none
   |none=>none
 |none=>hX P bN rec g args st
noncomputable def sDX(P:Program)(st:St)(fr:Nat)(op:Op):Option DR:=
 match PT op P st.S fr with
 |some (v,Δ,_)=>some (.val v Δ (oM st.S op))
 |none=>none
def V.afB:V->Bool
 | .mp _=>true
 |_=>false
def WA{P:Program}(md:qT P)(g:Nat)(args:List V):Bool:= !md.dat g&&args.any V.afB
def yZ(args:List V):Option (List D):=
 match V.bg args with
 |[]=>b7 (fun _=> .no) args
 |_=>none
noncomputable def PX(P:Program)(t:TypeId)(c:CR):Option eg:=
 match c with
 | .ret v o1 _=>match v with
   | .osl j ep=>match o1.get j with
     | .arr fF ty sz es=>match Nat.beq fF ep with
       |true=>rfc (.ret [.sl es, .int .i64 (ty:Nat), .int .i64 (sz:Nat)]) fun x=>some (.r x)
       |false=>none
     |_=>none
   | .aZ=>match bV P t with
     |some e=>match Nat.blt 0 (P.cellsOf e)with
      |true=>rfc (.ret [.sl [], .int .i64 (e:Nat), .int .i64 (P.cellsOf e:Nat)]) fun x=>some (.r x)
      |false=>none
     |none=>none
   |_=>none
 |_=>none
noncomputable def WB(P:Program)(bN:Nat->FD)(rec:dA)(g:Nat)(t:TypeId)(args:List V)(st:St)(fr:Nat):Option DR:=
 match yZ args with
 |some ds=>match MB P bN rec g (ds.map .d) (.e fun _=> .no) 0 (PX P t)with
  |some (.r (.ret [.sl es, .int .i64 (.ofNat ty), .int .i64 (.ofNat sz)]))=>some (.val (.osl fr 0) [(fr, .arr 0 ty sz es)] [])
  |_=>none
 |none=>match b7 st.o.get args with
  |some ds=>match MB P bN rec g (ds.map .d) (.e fun _=> .no) 0 (PX P t)with
   |some (.r (.ret [.sl es, .int .i64 (.ofNat ty), .int .i64 (.ofNat sz)]))=>match D.jR es&&(V.bg args).all (fun id=>Nat.blt id st.nx)with
    |true=>some (.val (.osl fr 0) [(fr, .arr 0 ty sz es)] (V.bg args))
    |false=>none
   |_=>none
  |none=>none
noncomputable def PY(P:Program)(bN:Nat->FD)(md:qT P)(rec:dA)(st:St)(fr:Nat)(op:Op):Option DR:=
 match op with
 | .call c=>match c.callee with
   | .value f=>match st.S.ev f with
     | .func (.func g) first cap=>match WA md g (first++c.args.toList.map st.S.ev++cap)with
       |true=>hX P bN rec g (first++c.args.toList.map st.S.ev++cap) st
       |false=>match cDX P bN md rec g (first++c.args.toList.map st.S.ev++cap) st (oM st.S (.call c))with
        |some r=>some r
        |none=>WB P bN rec g (c.argTypes.getD 0 0) (first++c.args.toList.map st.S.ev++cap) st fr
     |_=>none
   |_=>sDX P st fr (.call c)
 |op=>sDX P st fr op
noncomputable def gdX(st:St):Option (Nat×Bool)->Option Bool
 |none=>some true
 |some (d,want)=>match st.env.get d with
  | .d (.bool b)=>some (b==want)
  | .bW []=>some false
  |_=>none
noncomputable def v7(P:Program)(bN:Nat->FD)(md:qT P)(rec:dA)(pr:List (List Nat)):List bM->Nat->St->Fp->List Nat->List Nat->Option (List Nat×Fp)
 |[],_,_,fp,_,ws=>some (ws,fp)
 |o::l,fr,st,fp,bad,ws=>match(pr.getD fp.length []).any (fun j=>bad.contains j)with
  |true=>v7 P bN md rec pr l (fr+1) ⟨tE st.env o.dst .aa,st.o,st.nx⟩ (fp++[([],[])]) (bad++[fp.length]) ws
  |false=>match gdX st o.gd with
   |some true=>match PY P bN md rec st fr o.op with
    |some (.val v Δ rd)=>mq st.env o.dst v fun e=>vV st.o Δ fun ob=>v7 P bN md rec pr l (fr+1) ⟨e,ob,st.nx⟩ (fp++[(rd,Δ.map (·.1))]) bad (ws++Δ.map (·.1))
    |_=>none
   |some false=>v7 P bN md rec pr l (fr+1) ⟨tE st.env o.dst (.bW []),st.o,st.nx⟩ (fp++[([],[])]) bad ws
   |none=>none
inductive DQ where
 |fin (st:St) (fp:Fp)|bE (v:V) (wl:List Nat) (fp:Fp)
noncomputable def v8(P:Program)(bN:Nat->FD)(md:qT P)(rec:dA)(pr:List (List Nat)):List bM->Nat->St->Fp->Option DQ
 |[],_,st,fp=>some (.fin st fp)
 |o::l,fr,st,fp=>match gdX st o.gd with
  |some true=>match PY P bN md rec st fr o.op with
   |some (.val v Δ rd)=>mq st.env o.dst v fun e=>vV st.o Δ fun ob=>Nat.fc (fr+1) fun fr=>v8 P bN md rec pr l fr ⟨e,ob,st.nx⟩ (fp++[(rd,Δ.map (·.1))])
   |some (.bE v ws rd)=>match v7 P bN md rec pr l (fr+1) ⟨tE st.env o.dst .aa,st.o,st.nx⟩ (fp++[(rd,[])]) [fp.length] (ws++fp.flatMap (·.2))with
    |some (wl,fp)=>some (.bE v wl fp)
    |none=>none
   |none=>none
  |some false=>mq st.env o.dst (.bW []) fun e=>Nat.fc (fr+1) fun fr=>v8 P bN md rec pr l fr ⟨e,st.o,st.nx⟩ (fp++[([],[])])
  |none=>none
noncomputable def quiet(fp:Fp):Bool:=fp.all fun x=>match x.2 with|[]=>true|_=>false
noncomputable def AR(m:Nat)(x:List Nat×List Nat):Nat->Fp->Bool
 |_,[]=>true
 |i,y::l=>(match y.2,x.2 with
  |[],[]=>true
  |_,_=>m.testBit i||(kX y.2 x.1&&kX y.2 x.2&&kX x.2 y.1))&&AR m x (i+1) l
noncomputable def Hx(ms:List Nat)(pre:Fp):Nat->Fp->Bool
 |_,[]=>true
 |j,x::l=>AR (ms.getD j 0) x 0 pre&&Hx ms (pre++[x]) (j+1) l
noncomputable def nfc{β:Type}:List Nat->(List Nat->β)->β
 |[],c=>c []
 |x::xs,c=>Nat.fc x fun x=>nfc xs fun xs=>c (x::xs)
theorem MK{β:Type}:∀ (x:List Nat) (c:List Nat->β),nfc x c=c x
 |[],c=>rfl
 |x::xs,c=>by simp only[nfc,Nat.cU,MK xs]
noncomputable def PZ{β:Type}:Fp->(Fp->β)->β
 |[],c=>c []
 |(a,b)::l,c=>nfc a fun a=>nfc b fun b=>PZ l fun l=>c ((a,b)::l)
theorem Hy{β:Type}:∀ (x:Fp) (c:Fp->β),PZ x c=c x
 |[],c=>rfl
 |(a,b)::l,c=>by simp only[PZ,MK,Hy l]
noncomputable def ML(pr:List (List Nat))(fp:Fp):Bool:=match quiet fp with|true=>true|false=>PZ fp fun fp=>Hx (eB pr []) [] 0 fp
theorem y0{m:Nat}{x:List Nat×List Nat}:∀ (l:Fp) (i:Nat),AR m x i l=true->∀k,k<l.length->(m.testBit (i+k)||(kX (l.getD k ([],[])).2 x.1&&kX (l.getD k ([],[])).2 x.2&&kX x.2 (l.getD k ([],[])).1))=true
 |[],i,_,k,hk=>by simp at hk
 |y::l,i,h,k,hk=>by
  simp only[AR,Bool.and_eq_true]at h
  cases k with
  |zero=>
   have h1:=h.1
   simp only[List.getD_cons_zero,Nat.add_zero]
   split at h1
   ·rename_i e1 e2
    rw[e1,e2];simp[kX]
   ·exact h1
  |succ k=>
   have:=y0 l (i+1) h.2 k (by simpa using hk)
   rw[List.getD_cons_succ,show i+(k+1)=i+1+k by omega]
   exact this
theorem Dm{ms:List Nat}:∀ (l pre:Fp),Hx ms pre pre.length l=true->∀j,pre.length<=j->j<(pre++l).length->∀i,i<j->
 ((ms.getD j 0).testBit i||(kX ((pre++l).getD i ([],[])).2 ((pre++l).getD j ([],[])).1&&kX ((pre++l).getD i ([],[])).2 ((pre++l).getD j ([],[])).2&&kX ((pre++l).getD j ([],[])).2 ((pre++l).getD i ([],[])).1))=true
 |[],pre,_,j,h1,h2,i,_=>by simp at h2;omega
 |x::l,pre,h,j,h1,h2,i,hi=>by
  simp only[Hx,Bool.and_eq_true]at h
  by_cases e:j=pre.length
  ·subst e
   have:=y0 pre 0 h.1 i hi
   have e1:(pre++x::l).getD pre.length ([],[])=x:=by simp[List.getD_eq_getElem?_getD]
   have e2:(pre++x::l).getD i ([],[])=pre.getD i ([],[]):=by simp[List.getD_eq_getElem?_getD,List.getElem?_append_left hi]
   rw[e1,e2]
   simpa using this
  ·have h3:=h.2
   have:=Dm l (pre++[x]) (by simpa using h3) j gE uZ i hi
   simpa using this
noncomputable def WC(P:Program)(bN:Nat->FD)(md:qT P)(rec:dA)(l:List bM)(pr:List (List Nat))(st:St):Option (fG×St):=
 match v8 P bN md rec pr l st.nx st []with
 |some (.fin s1 fp)=>match ML pr fp with
  |true=>Nat.fc (st.nx+l.length) fun n=>some (.normal,⟨s1.env,s1.o,n⟩)
  |false=>none
 |some (.bE v wl fp)=>match ML pr fp with
  |true=>some (.bE v,⟨.e (uh (dstsOf l) wl l.length st.S).env, .e (uh (dstsOf l) wl l.length st.S).o,st.nx+l.length⟩)
  |false=>none
 |none=>none
noncomputable def acz(id:Nat)(env:Tr V)(kt:Kt)(c:CR):Option eg:=
 match c with
 | .ret _ o1 BE=>match o1.get id with
   | .loop nf m e p c d lst pd=>match lst with
     | .busy=>none
     |_=>match pd with
      |none=>kt .normal ⟨env,o1.set id (.loop nf m e p c d .exhausted pd),BE⟩
      |some .ret=>kt .ret ⟨env,o1.set id (.loop nf m e p c d .exhausted pd),BE⟩
      |some (.exit j)=>kt (.exit j) ⟨env,o1.set id (.loop nf m e p c d .exhausted pd),BE⟩
   |_=>none
 | .bE v o1 BE=>kt (.bE v) ⟨env,o1,BE⟩
noncomputable def P6(P:Program)(bN:Nat->FD)(rec:dA)(n:Nat)(g:Operand)(ps:List Nat)(x y:IC)(st:St)(kt:Kt):Option eg:=
 match st.S.ev g with
 | .func (.func f) first cap=>MB P bN rec f (first++[.ju st.nx]++cap) (st.o.set st.nx (.loop P.funcs.size n ((List.range n).map st.env.get) ps x y .ready none)) (st.nx+1) (acz st.nx st.env kt)
 |_=>none
abbrev oY:=(P:Program)->(Nat->FD)->qT P->dA->Nat->Bool->Nat->St->Kt->Option eg
noncomputable def roX(kt:Kt):RO->Option eg:=fun r=>match r with| .ok st=>kt .normal st| .bE v st=>kt (.bE v) st
noncomputable def afC(l:List bM):oY:=fun P bN md rec _ _ _ st kt=>AP P bN md rec (roX kt) l st
def y9:List Nat->Nat->Nat->Nat
 |[],_,c=>c
 |x::l,k,c=>match Nat.beq x (2^k - 1)with
  |true=>y9 l (k+1) c
  |false=>y9 l (k+1) (k+1)
def qU(pr:List (List Nat)):Nat:=y9 (eB pr []) 0 0
noncomputable def WD(l:List bM)(pr:List (List Nat)):oY:=fun P bN md rec _ _ _ st kt=>
 Nat.fc (qU pr) fun m=>match v8 P bN md rec pr (l.take m) st.nx st []with
 |some (.fin s1 fp)=>match ML pr fp with
  |true=>Nat.fc (st.nx+m) fun n=>match Nat.ble m l.length with
   |true=>AP P bN md rec (roX kt) (l.drop m) ⟨s1.env,s1.o,n⟩
   |false=>none
  |false=>none
 |some (.bE _ _ _)=>match WC P bN md rec l pr st with
  |some (e,s1)=>kt e s1
  |none=>none
 |none=>none
noncomputable def FJ(rec:dA)(b:Nat)(rd:Bool)(n:Nat)(y:IC)(kt:Kt):Kt:=fun e s1=>match e with| .normal=>rec b rd n y s1 kt|e=>kt e s1
noncomputable def afD(x y:IC):oY:=fun _ _ _ rec b rd n st kt=>rec b rd n x st (FJ rec b rd n y kt)
noncomputable def Hz(a c:Option eg):Option eg:=
 match a with
 |some (.r x)=>match c with
  |some (.r y)=>match R.same x y with
   |true=>some (.r x)
   |false=>none
  |_=>none
 |_=>none
noncomputable def acA(c:Operand)(x y:IC):oY:=fun _ _ _ rec b rd n st kt=>match st.S.ev c with
 | .d (.bool true)=>rec b rd n x st kt
 | .d (.bool false)=>rec b rd n y st kt
 | .ft=>Hz (rec b rd n x st kt) (rec b rd n y st kt)
 |_=>none
noncomputable def FK(id:Nat)(kt:Kt):Kt:=fun e s1=>match e with
 | .exit j=>match Nat.beq j id with
   |true=>kt .normal s1
   |false=>kt (.exit j) s1
 |e=>kt e s1
noncomputable def WE(id:Nat)(x:IC):oY:=fun _ _ _ rec b rd n st kt=>rec b rd n x st (FK id kt)
noncomputable def acB(x:IC):oY:=fun _ _ _ rec b rd n st kt=>match Nat.ble b st.nx with
 |true=>rec b rd n x st (FJ rec b rd n (.loop x) kt)
 |false=>none
noncomputable def WG(e:fG):oY:=fun _ _ _ _ _ _ _ st kt=>kt e st
noncomputable def afE:oY:=fun _ _ _ _ _ _ _ _ _=>none
noncomputable def afF(g:Operand)(ps:List Nat)(x y:IC):oY:=fun P bN _ rec _ rd n st kt=>match rd with
 |true=>none
 |false=>P6 P bN rec n g ps x y st kt
noncomputable def S7(ic:IC):oY:=
 match ic with
 | .skip=>WG .normal
 | .ah l=>afC l
 | .dw l pr=>WD l pr
 | .seq x y=>afD x y
 | .cond c x y=>acA c x y
 | .block id x=>WE id x
 | .loop x=>acB x
 | .exit id=>WG (.exit id)
 | .ret=>WG .ret
 | .IJ g ps x y=>afF g ps x y
 | .bad=>afE
noncomputable def run(P:Program)(bN:Nat->FD)(md:qT P)(k:Nat):dA:=
 Nat.rec (motive:=fun _=>dA) (fun _ _ _ _ _ _=>none) (fun _ rec b rd n ic st kt=>S7 ic P bN md rec b rd n st kt) k
theorem MM{P:Program}{bN:Nat->FD}{md:qT P}{k:Nat}:run P bN md (k+1)=fun b rd n ic st kt=>S7 ic P bN md (run P bN md k) b rd n st kt:=rfl
section
variable {P:Program}{bN:Nat->FD}{md:qT P}
theorem S8(bd:P.follows .mixedOrders=true)(cD:∀g,(bN g).Ok P g){rec:dA}(bC:eA P rec){fr:Nat}{g:Nat}{args:List V}{st:St}{r:DR}(h:hX P bN rec g args st=some r){K:V->List (Nat×ab)->List Nat->Prop}{KX:V->List Nat->List Nat->Prop}(hr:r.to K KX):
 je P g args st.S.o st.S.nx fr K KX:=by
 unfold hX at h
 simp only at h
 generalize m5:reach st.o.get 2000 (V.aE args) []=rd at h
 split at h
 ·rename_i hc
  simp only[Bool.and_eq_true,List.all_eq_true]at hc
  obtain⟨hc1,th⟩:=hc
  have a1:∀id∈rd,id<st.nx:=fun id aq=>Nat.le_of_ble_eq_true (hc1 id aq).1
  have a2:∀id∈V.aE args,id∈rd:=fun id aq=>by simpa using th id aq
  have a3:∀id∈rd,∀j∈(st.o.get id).refs,j∈rd:=fun id aq j hj=>by simpa using(hc1 id aq).2 j hj
  have a0:rd.all (fun id=>decide (id<st.S.nx))=true:=List.all_eq_true.2 fun id aq=>decide_eq_true (a1 id aq)
  have key:∀ {r:CR} {a:CR},crA r=some (.c a)->r=a:=fun h=>by unfold crA at h;injection h with h;injection h
  split at h
  ·rename_i v o1 BE hf
   split at h
   ·cases h
   ·rename_i v' tY
    split at h
    ·rename_i rs hrs
     split at h
     ·rename_i WH
      injection h with h;subst h
      simp only[Bool.and_eq_true,List.all_eq_true]at WH
      refine⟨rd,_,a0, .inl ⟨rs,xF.jd a1 a2 a3 (fun x hx=>(iP rd x hx).1) (fun x hx j hj=>by simpa using WH.1 x hx j hj) (nL bd cD bC hf fun r zY=> ?_),hr⟩⟩
      rw[key zY]
      refine⟨fun id aq=>tF aq,vW v,rs, ?_,hrs,rfl,fun id aq=>by simpa using WH.2 id aq⟩
      cases v with
      |bW vs=>
       match vs,tY with
       |[],_=>rfl
       |[x],hv=>exact absurd rfl (hv x)
       |_::_::_,_=>rfl
      |_=>rfl
     ·cases h
    ·cases h
  ·rename_i v o1 BE hf
   split at h
   ·rename_i x hx
    split at h
    ·rename_i WH
     injection h with h;subst h
     simp only[Bool.and_eq_true,List.all_eq_true]at WH
     refine⟨rd,eF st.o.get o1.get rd,a0, .inr (.inl ⟨x,xF.jd a1 a2 a3 (fun x hx=>(iP rd x hx).1) (fun x hx j hj=>by simpa using WH.1 x hx j hj) (nL bd cD bC hf fun r zY=> ?_),hr⟩)⟩
     rw[key zY]
     exact⟨fun id aq=>tF aq,x,hx,rfl,fun id aq=>by simpa using WH.2 id aq⟩
    ·cases h
   ·cases h
  ·cases h
 ·cases h
theorem WI(bd:P.follows .mixedOrders=true)(cD:∀g,(bN g).Ok P g){rec:dA}(bC:eA P rec){g:Nat}{args:List V}{st:St}{rd:List Nat}{ds:List D}(eZ:b7 st.o.get args=some ds){r:DR}(h:cDX P bN md rec g args st rd=some r)
 {K:V->List (Nat×ab)->List Nat->Prop} {KX:V->List Nat->List Nat->Prop} (hr:r.to K KX):
 tz P g ds (fun v=>K v (bT st.S.o (V.bg args)) rd) (fun v=>K v [] rd) (fun v=>KX v [] rd):=by
 unfold cDX at h
 simp only[eZ]at h
 split at h
 ·split at h
  ·rename_i v o1 BE ED
   split at h
   ·rename_i hrf
    injection h with h;subst h
    exact .inr (.inr ⟨v,PVt.jd hrf (nL bd cD bC ED fun r zY=>by unfold crA at zY;injection zY with zY;injection zY with zY;rw[zY];exact rfl),hr⟩)
   ·cases h
  ·cases h
 ·split at h
  ·rename_i rs Dk
   have hP:=AQ bd cD bC Dk
   split at h
   ·rename_i hf
    injection h with h;subst h
    exact .inl ⟨rs,hP, .inr ⟨hf,hr⟩⟩
   ·injection h with h;subst h
    exact .inl ⟨rs,hP, .inl hr⟩
  ·rename_i x Dk
   have hP:=AQ bd cD bC Dk
   split at h
   ·rename_i hf
    injection h with h;subst h
    exact .inr (.inl ⟨x,hP,hf,hr⟩)
   ·cases h
  ·cases h
theorem HA{t ty:TypeId}{sz:Nat}{es:List D}{r:CR}(h:PX P t r=some (.r (.ret [.sl es, .int .i64 (.ofNat ty), .int .i64 (.ofNat sz)]))):
 r.to (fun v o1 _=>(∃j ep,v= .osl j ep/\o1 j= .arr ep ty sz es)\/(v= .aZ/\es=[]/\0<sz)) (fun _ _ _=>False):=by
 unfold PX at h
 split at h
 ·rename_i v o1 n1
  split at h
  ·rename_i j ep
   split at h
   ·rename_i fF ty' rL es' ho
    split at h
    ·rename_i he
     have he:=Nat.eq_of_beq_eq_true he
     subst he
     rw[FI]at h
     simp only[Option.some.injEq,eg.r.injEq,R.ret.injEq,List.cons.injEq,D.sl.injEq,D.int.injEq,true_and,and_true]at h
     obtain⟨rfl,h2,h3⟩:=h
     have h2:ty'=ty:=Int.ofNat.inj h2
     have h3:rL=sz:=Int.ofNat.inj h3
     subst h2;subst h3
     exact .inl ⟨j,fF,rfl,ho⟩
    ·cases h
   ·cases h
  ·split at h
   ·rename_i e he
    split at h
    ·rename_i hp
     rw[FI]at h
     simp only[Option.some.injEq,eg.r.injEq,R.ret.injEq,List.cons.injEq,D.sl.injEq,D.int.injEq,true_and,and_true]at h
     obtain⟨rfl,h2,h3⟩:=h
     have h3:P.cellsOf e=sz:=Int.ofNat.inj h3
     subst h3
     exact .inr ⟨rfl,rfl,Nat.blt_eq.mp hp⟩
    ·cases h
   ·cases h
  ·cases h
 ·cases h
theorem P7(bd:P.follows .mixedOrders=true)(cD:∀g,(bN g).Ok P g){rec:dA}(bC:eA P rec){fr:Nat}{g:Nat}{t:TypeId}{args:List V}{st:St}{r:DR}(h:WB P bN rec g t args st fr=some r){K:V->List (Nat×ab)->List Nat->Prop}{KX:V->List Nat->List Nat->Prop}(hr:r.to K KX):
 je P g args st.S.o st.S.nx fr K KX:=by
 unfold WB at h
 split at h
 ·rename_i ds eZ
  split at h
  ·rename_i es ty sz ED
   injection h with h;subst h
   unfold yZ at eZ
   split at eZ
   ·rename_i aq
    exact⟨[],_,aI, .inr (.inr ⟨_,Ar.PR aq eZ (Ar.Mv (nL bd cD bC ED fun r zY=>HA zY)),hr⟩)⟩
   ·cases eZ
  ·cases h
 ·split at h
  ·rename_i ds eZ
   split at h
   ·rename_i es ty sz ED
    split at h
    ·rename_i hc
     injection h with h;subst h
     simp only[Bool.and_eq_true]at hc
     refine⟨V.bg args,_, ?_, .inr (.inr ⟨_,Ar.PQ eZ hc.1 (nL bd cD bC ED fun r zY=>HA zY),hr⟩)⟩
     exact List.all_eq_true.2 fun id aq=>decide_eq_true (Nat.blt_eq.mp (List.all_eq_true.1 hc.2 id aq))
    ·cases h
   ·cases h
  ·cases h
theorem AS(bd:P.follows .mixedOrders=true)(cD:∀g,(bN g).Ok P g){rec:dA}(bC:eA P rec){st:St}{fr:Nat}{o:bM}{r:DR}(h:PY P bN md rec st fr o.op=some r){K:V->List (Nat×ab)->List Nat->Prop}{KX:V->List Nat->List Nat->Prop}(hr:r.to K KX):
 BF P st.S fr o K KX:=by
 have hs:sDX P st fr o.op=some r->(match gC P st.S fr o.op with|some (v,Δ,_)=>K v Δ (oM st.S o.op)|none=>False):=by
  intro h
  unfold sDX at h
  split at h
  ·rename_i v Δ rd he
   injection h with h;subst h
   simp only[Hr he]
   exact hr
  ·cases h
 unfold PY at h
 unfold BF
 split at h
 ·rename_i c hc
  simp only[hc]
  split at h
  ·rename_i f hf
   simp only[hf]
   split at h
   ·rename_i g first cap hv
    simp only[hv]
    split at h
    ·have hh:=S8 bd cD bC h hr (fr:=fr)
     split
     ·exact .inr hh
     ·exact hh
    split at h
    ·rename_i r' Vj
     injection h with h;subst h
     cases eZ:b7 st.S.o (first++List.map st.S.ev c.args.toList++cap)with
     |some ds=>exact .inl (WI bd cD bC eZ Vj hr)
     |none=>
      have Wy:b7 st.o.get (first++List.map st.S.ev c.args.toList++cap)=none:=eZ
      unfold cDX at Vj
      simp only[Wy]at Vj
      exact S8 bd cD bC Vj hr
    ·have hh:=P7 bd cD bC (st:=st) h hr
     split
     ·exact .inr hh
     ·exact hh
   ·cases h
  ·rename_i eX
   rw[<- hc]at h
   have:=hs h
   rw[hc]at this
   split
   ·rename_i f hf;exact absurd hf (eX f)
   ·exact this
 ·rename_i hc
  have:=hs h
  split
  ·rename_i c hh;exact absurd hh (hc c)
  ·exact this
def gdW(s:S)(gd:Option (Nat×Bool))(A B:Prop):Prop:=
 match gd with
 |none=>A
 |some (d,want)=>match s.env d with
  | .d (.bool b)=>if b=want then A else B
  | .bW []=>B
  |_=>False
theorem AU{st:St}{gd:Option (Nat×Bool)}{t:Bool}(h:gdX st gd=some t){A B:Prop}(hA:t=true->A)(hB:t=false->B):gdW st.S gd A B:=by
 cases gd with
 |none=>simp only[gdX,Option.some.injEq]at h;exact hA h.symm
 |some p=>
  obtain⟨d,want⟩:=p
  have he:st.S.env d=st.env.get d:=rfl
  simp only[gdX]at h
  simp only[gdW,he]
  split at h
  ·rename_i b hb
   injection h with h
   by_cases e:b=want
   ·rw[if_pos e];exact hA (by rw[<- h,e];simp)
   ·rw[if_neg e];exact hB (by rw[<- h];simpa using e)
  ·rename_i hb
   injection h with h
   exact hB h.symm
  ·cases h
theorem P8{P:Program}{KB:List Nat->Fp->Prop}{pr:List (List Nat)}{o:bM}{l:List bM}{fr:Nat}{s:S}{fp:Fp}{bad ws:List Nat}(hb:(pr.getD fp.length []).any (fun j=>bad.contains j)=false)
 (h:gdW s o.gd (BF P s fr o (fun v Δ rd=>iu P KB pr l (fr+1) ⟨aY s.env o.dst v,put s.o Δ,s.nx⟩ (fp++[(rd,Δ.map (·.1))]) bad (ws++Δ.map (·.1))) (fun _ _ _=>False)) (iu P KB pr l (fr+1) ⟨aY s.env o.dst (.bW []),s.o,s.nx⟩ (fp++[([],[])]) bad ws)):
 iu P KB pr (o::l) fr s fp bad ws:=by
 simp only[iu]
 rw[if_neg (by rw[hb];simp)]
 cases hg:o.gd with
 |none=>rw[hg]at h;exact h
 |some p=>obtain⟨d,want⟩:=p;rw[hg]at h;exact h
theorem P9{P:Program}{K:S->Fp->Prop}{KP:V->List Nat->Fp->Prop}{pr:List (List Nat)}{o:bM}{l:List bM}{fr:Nat}{s:S}{fp:Fp}
 (h:gdW s o.gd (BF P s fr o (fun v Δ rd=>lh P K KP pr l (fr+1) ⟨aY s.env o.dst v,put s.o Δ,s.nx⟩ (fp++[(rd,Δ.map (·.1))]))
  (fun v ws rd=>iu P (KP v) pr l (fr+1) ⟨aY s.env o.dst .aa,s.o,s.nx⟩ (fp++[(rd,[])]) [fp.length] (ws++fp.flatMap (·.2)))) (lh P K KP pr l (fr+1) ⟨aY s.env o.dst (.bW []),s.o,s.nx⟩ (fp++[([],[])]))):
 lh P K KP pr (o::l) fr s fp:=by
 simp only[lh]
 cases hg:o.gd with
 |none=>rw[hg]at h;exact h
 |some p=>obtain⟨d,want⟩:=p;rw[hg]at h;exact h
theorem qV(bd:P.follows .mixedOrders=true)(cD:∀g,(bN g).Ok P g){rec:dA}(bC:eA P rec){pr:List (List Nat)}{wl:List Nat}{fp':Fp}{KB:List Nat->Fp->Prop}(hK:KB wl fp'):
 ∀ (l:List bM) (fr:Nat) (st:St) (fp:Fp) (bad ws:List Nat),v7 P bN md rec pr l fr st fp bad ws=some (wl,fp')->iu P KB pr l fr st.S fp bad ws
 |[],fr,st,fp,bad,ws,h=>by
  simp only[v7,Option.some.injEq,Prod.mk.injEq]at h
  obtain⟨rfl,rfl⟩:=h;exact hK
 |o::l,fr,st,fp,bad,ws,h=>by
  simp only[v7,jF,nK]at h
  split at h
  ·rename_i hb
   simp only[iu]
   rw[if_pos hb]
   have:=qV bd cD bC hK l _ _ _ _ _ h
   exact Lv
  ·rename_i hb
   refine P8 hb ?_
   split at h
   ·rename_i hg
    refine AU hg (fun _=> ?_) (fun h=>by cases h)
    split at h
    ·rename_i v Δ rd gW
     refine AS bd cD bC gW ?_
     have:=qV bd cD bC hK l _ _ _ _ _ h
     simp only[St.S,jA,j6]at this
     exact this
    ·cases h
   ·rename_i hg
    refine AU hg (fun h=>by cases h) (fun _=> ?_)
    have:=qV bd cD bC hK l _ _ _ _ _ h
    exact Lv
   ·cases h
def DQ.to (K:S->Fp->Prop)(KP:V->List Nat->Fp->Prop):DQ->Prop
 | .fin st fp=>K st.S fp
 | .bE v wl fp=>KP v wl fp
theorem nN(bd:P.follows .mixedOrders=true)(cD:∀g,(bN g).Ok P g){rec:dA}(bC:eA P rec){pr:List (List Nat)}{q:DQ}{K:S->Fp->Prop}{KP:V->List Nat->Fp->Prop}(hq:q.to K KP):
 ∀ (l:List bM) (fr:Nat) (st:St) (fp:Fp),v8 P bN md rec pr l fr st fp=some q->lh P K KP pr l fr st.S fp
 |[],fr,st,fp,h=>by
  simp only[v8,Option.some.injEq]at h
  subst h;exact hq
 |o::l,fr,st,fp,h=>by
  simp only[v8,jF,nK,Nat.cU]at h
  refine P9 ?_
  split at h
  ·rename_i hg
   refine AU hg (fun _=> ?_) (fun h=>by cases h)
   split at h
   ·rename_i v Δ rd gW
    refine AS bd cD bC gW ?_
    have:=nN bd cD bC hq l _ _ _ h
    simp only[St.S,jA,j6]at this
    exact this
   ·rename_i v ws rd gW
    split at h
    ·rename_i wl fp' hb
     injection h with h;subst h
     refine AS bd cD bC gW ?_
     have:=qV bd cD bC (KB:=KP v) hq l _ _ _ _ _ hb
     exact Lv
    ·cases h
   ·cases h
  ·rename_i hg
   refine AU hg (fun h=>by cases h) (fun _=> ?_)
   have:=nN bd cD bC hq l _ _ _ h
   exact Lv
  ·cases h
theorem AV{pr:List (List Nat)}{fp:Fp}(h:ML pr fp=true):ez pr fp=true:=by
 unfold ML at h
 split at h
 ·rename_i hq
  unfold quiet at hq
  have hz:∀i,(fp.getD i ([],[])).2=[]:=by
   intro i
   rw[List.getD_eq_getElem?_getD]
   cases hx:fp[i]? with
   |none=>rfl
   |some x=>
    have:=List.all_eq_true.1 hq x (List.mem_of_getElem? hx)
    simp only[Option.getD_some]
    split at this
    ·rename_i e;exact e
    ·cases this
  unfold ez
  simp only[hz,kX,List.all_nil,Bool.and_self,Bool.or_true]
  simp
 ·rw[Hy]at h
  unfold ez
  rw[List.all_eq_true]
  intro j hj
  rw[List.all_eq_true]
  intro i hi
  exact Dm fp [] h j (Nat.zero_le _) m4 i (by simpa using hi)
theorem wa:∀ (l:List Nat) (k c:Nat),c<=k->c<=y9 l k c/\∀i x,l[i]? =some x->y9 l k c<=k+i->x=2^(k+i) - 1
 |[],_,c,_=>⟨Nat.le_refl _,fun i x h=>by simp at h⟩
 |y::l,k,c,hc=>by
  simp only[y9]
  split
  ·rename_i he
   obtain⟨h1,h2⟩:=wa l (k+1) c ag
   refine⟨h1,fun i x hi hle=> ?_⟩
   cases i with
   |zero=>simp at hi;subst hi;simpa using Nat.eq_of_beq_eq_true he
   |succ i=>
    have:=h2 i x (by simpa using hi) ag
    rw[this,show k+(i+1)=k+1+i by omega]
  ·obtain⟨h1,h2⟩:=wa l (k+1) (k+1) (Nat.le_refl _)
   refine⟨ag,fun i x hi hle=> ?_⟩
   cases i with
   |zero=>omega
   |succ i=>
    have:=h2 i x (by simpa using hi) ag
    rw[this,show k+(i+1)=k+1+i by omega]
theorem za:∀ (pr:List (List Nat)) (acc:List Nat),(eB pr acc).length=acc.length+pr.length
 |[],acc=>by simp[eB]
 |ps::l,acc=>by simp only[eB,za l,List.length_append,List.length_cons,List.length_nil];omega
theorem MN(pr:List (List Nat)):Az pr (qU pr)=true:=by
 refine List.all_eq_true.2 fun k hk=> ?_
 have hk:k<pr.length:=by simpa using hk
 by_cases h:k<qU pr
 ·simp[Nat.blt_eq.mpr h]
 ·have hl:k<(eB pr []).length:=by rw[za];simpa using hk
  have:=(wa (eB pr []) 0 0 (Nat.le_refl _)).2 k _ (List.getElem?_eq_getElem hl) (by rw[Nat.zero_add];exact Nat.le_of_not_lt h)
  rw[Nat.zero_add]at this
  rw[List.getD_eq_getElem?_getD,List.getElem?_eq_getElem hl,Option.getD_some,this]
  simp
theorem Qa(bd:P.follows .mixedOrders=true)(cD:∀g,(bN g).Ok P g){rec:dA}(bC:eA P rec){l:List bM}{pr:List (List Nat)}{st st':St}{e:fG}(h:WC P bN md rec l pr st=some (e,st')){Q:fG->S->Prop}(hQ:Q e st'.S):
 lh P (Fv pr (st.S.nx+l.length) Q) (CQ pr l st.S Q) pr l st.S.nx st.S []:=by
 unfold WC at h
 split at h
 ·rename_i s1 fp hd
  split at h
  ·rename_i hf
   simp only[Nat.cU,Option.some.injEq,Prod.mk.injEq]at h
   obtain⟨rfl,rfl⟩:=h
   exact nN bd cD bC (q:= .fin s1 fp) (K:=Fv pr (st.S.nx+l.length) Q) (KP:=CQ pr l st.S Q) (show Fv pr (st.S.nx+l.length) Q s1.S fp from⟨AV hf,hQ⟩) l _ _ _ hd
  ·cases h
 ·rename_i v wl fp hd
  split at h
  ·rename_i hf
   simp only[Option.some.injEq,Prod.mk.injEq]at h
   obtain⟨rfl,rfl⟩:=h
   exact nN bd cD bC (q:= .bE v wl fp) (K:=Fv pr (st.S.nx+l.length) Q) (KP:=CQ pr l st.S Q) (show CQ pr l st.S Q v wl fp from⟨AV hf,hQ⟩) l _ _ _ hd
  ·cases h
 ·cases h
theorem Qb(bd:P.follows .mixedOrders=true)(cD:∀g,(bN g).Ok P g){rec:dA}(bC:eA P rec){n:Nat}{g:Operand}{ps:List Nat}{x y:IC}{st:St}{kt:Kt}{a:eg}(h:P6 P bN rec n g ps x y st kt=some a){Q:fG->S->Prop}(hQ:∀e st',kt e st'=some a->Q e st'.S):
 Cz P n (st.S.ev g) ps x y Q st.S:=by
 unfold P6 at h
 refine⟨(List.range n).map st.env.get,fun i=> ?_, ?_⟩
 ·unfold aU
  simp only[List.getD_eq_getElem?_getD,List.getElem?_map]
  by_cases hi:i<n
  ·right;rw[List.getElem?_range hi];rfl
  ·left;rw[List.getElem?_eq_none (by simp;omega)];rfl
 ·split at h
  ·rename_i f first cap hv
   simp only[hv]
   refine .inl ?_
   have key:=fun {K X} hr=>nL (K:=K) (X:=X) bd cD bC h hr
   simp only[Tr.iF]at key
   refine key fun r hr=> ?_
   unfold acz at hr
   cases r with
   |ret v o1 BE=>
    simp only at hr
    split at hr
    ·rename_i nf m e p c d lst pd ho
     have hl:lst≠ .busy:=by
      intro hb;subst hb;cases hr
     refine⟨nf,m,e,p,c,d,lst,pd,ho,hl, ?_⟩
     split at hr
     ·cases hr
     ·split at hr<;>(have h3:=hQ _ _ hr;simp only[px];simp only[St.S,Tr.iF]at h3;exact h3)
    ·cases hr
   |bE v o1 BE=>exact hQ _ _ hr
  ·cases h
theorem bt.same {b:Nat}{s:S}(h:b<=s.nx):bt b s s:=fun _ φ _ _ h1 h2=>⟨φ,h1,h2,fun _ h=>h,h,fun _ _ hr=>⟨hr,rfl⟩,fun _ e' _ he=>⟨e',he,Nat.le_refl _,fun _=>rfl⟩⟩
theorem MO{x y:Option eg}{a:eg}(h:Hz x y=some a):x=some a/\y=some a:=by
 unfold Hz at h
 split at h
 ·rename_i r
  split at h
  ·rename_i r'
   split at h
   ·rename_i hs
    injection h with h;subst h
    rw[R.dX hs]
    exact⟨rfl,rfl⟩
   ·cases h
  ·cases h
 ·cases h
theorem WK(bd:P.follows .mixedOrders=true)(cD:∀g,(bN g).Ok P g):∀k,∀j,j<=k->eA P (run P bN md j):=by
 intro k
 induction k with
 |zero=>intro j hj b rd n ic st kt a h;obtain rfl:j=0:=ag
        cases h
 |succ k ih=>
  intro j hj b rd n ic st kt a h Q hQ
  cases j with
  |zero=>cases h
  |succ j=>
   have bC:eA P (run P bN md j):=ih j ag
   rw[MM]at h
   cases ic with
   |skip=>exact hQ _ _ h
   |exit id=>exact hQ _ _ h
   |ret=>exact hQ _ _ h
   |bad=>cases h
   |ah l=>
    have h:AP P bN md (run P bN md j) (roX kt) l st=some a:=h
    exact uM bd cD bC (K:=Q .normal) (X:=fun v s=>Q (.bE v) s) (fun r hr=>by
     cases r with
     |ok Wz=>exact hQ .normal _ hr
     |bE v Wz=>exact hQ (.bE v) _ hr) l _ h
   |dw l pr=>
    have h:WD l pr P bN md (run P bN md j) b rd n st kt=some a:=h
    unfold WD at h
    rw[Nat.cU]at h
    split at h
    ·rename_i s1 fp hd
     split at h
     ·rename_i hf
      rw[Nat.cU]at h
      split at h
      ·rename_i IY
       refine .inr ⟨qU pr,Nat.le_of_ble_eq_true IY,MN pr, ?_⟩
       refine nN bd cD bC (q:= .fin s1 fp) (K:=fun s' fp=>ez pr fp=true/\pA P (fun v s=>Q (.bE v) s) (Q .normal) (l.drop (qU pr)) ⟨s'.env,s'.o,st.S.nx+qU pr⟩) (KP:=fun _ _ _=>False) (show _/\_ from⟨AV hf, ?_⟩) (l.take (qU pr)) _ _ _ hd
       exact uM bd cD bC (K:=Q .normal) (X:=fun v s=>Q (.bE v) s) (fun r hr=>by
        cases r with
        |ok Wz=>exact hQ .normal _ hr
        |bE v Wz=>exact hQ (.bE v) _ hr) (l.drop (qU pr)) ⟨s1.env,s1.o,st.nx+qU pr⟩ h
      ·cases h
     ·cases h
    ·split at h
     ·rename_i e s1 h1
      exact .inl (Qa bd cD bC h1 (hQ _ _ h))
     ·cases h
    ·cases h
   |seq x y=>
    have h:run P bN md j b rd n x st (FJ (run P bN md j) b rd n y kt)=some a:=h
    simp only[uH]
    refine bC _ _ _ _ _ _ _ h _ fun e s1 he=> ?_
    unfold FJ at he
    cases e with
    |normal=>exact bC _ _ _ _ _ _ _ he _ hQ
    |_=>exact hQ _ _ he
   |cond c x y=>
    have h:(match st.S.ev c with| .d (.bool true)=>run P bN md j b rd n x st kt| .d (.bool false)=>run P bN md j b rd n y st kt| .ft=>Hz (run P bN md j b rd n x st kt) (run P bN md j b rd n y st kt)|_=>none)=some a:=h
    simp only[uH]
    split at h
    ·rename_i hv
     simp only[hv]
     exact(vC _ _).mpr (bC _ _ _ _ _ _ _ h _ hQ)
    ·rename_i hv
     simp only[hv]
     exact(tu _ _).mpr (bC _ _ _ _ _ _ _ h _ hQ)
    ·rename_i hv
     simp only[hv]
     obtain⟨h1,h2⟩:=MO h
     exact⟨bC _ _ _ _ _ _ _ h1 _ hQ,bC _ _ _ _ _ _ _ h2 _ hQ⟩
    ·cases h
   |block id x=>
    have h:run P bN md j b rd n x st (FK id kt)=some a:=h
    simp only[uH]
    refine bC _ _ _ _ _ _ _ h _ fun e s1 he=> ?_
    unfold FK at he
    cases e with
    |exit j'=>
     simp only at he
     split at he
     ·rename_i hb
      simp only[fw,Nat.eq_of_beq_eq_true hb,if_true];exact hQ _ _ he
     ·rename_i hb
      simp only[fw,Nat.ne_of_beq_eq_false hb,if_false];exact hQ _ _ he
    |_=>exact hQ _ _ he
   |loop x=>
    have unf:∀m S9,run P bN md (m+1) b rd n (.loop x) S9 kt=some a->b<=S9.nx/\run P bN md m b rd n x S9 (FJ (run P bN md m) b rd n (.loop x) kt)=some a:=by
     intro m S9 h
     have h:(match Nat.ble b S9.nx with|true=>run P bN md m b rd n x S9 (FJ (run P bN md m) b rd n (.loop x) kt)|false=>none)=some a:=h
     split at h
     ·rename_i hb;exact⟨Nat.le_of_ble_eq_true hb,h⟩
     ·cases h
    have h:run P bN md (j+1) b rd n (.loop x) st kt=some a:=h
    refine⟨fun m s=>m<=k+1/\∃st,s=st.S/\run P bN md m b rd n (.loop x) st kt=some a,⟨j+1,st.S,bt.same (unf j st h).1,hj,st,rfl,h⟩, ?_⟩
    rintro m s0 ⟨hm,S9,rfl,h0⟩
    cases m with
    |zero=>cases h0
    |succ m=>
     have acC:eA P (run P bN md m):=ih m ag
     refine acC _ _ _ _ _ _ _ (unf m S9 h0).2 _ fun e s1 he=> ?_
     unfold FJ at he
     cases e with
     |normal=>
      refine⟨m,s1.S,Nat.lt_succ_self _,bt.same ?_,ag,s1,rfl,he⟩
      cases m with
      |zero=>cases he
      |succ m=>exact(unf m s1 he).1
     |_=>exact hQ _ _ he
   |IJ g ps x y=>
    cases rd with
    |true=>
     have h:(none:Option eg)=some a:=h
     cases h
    |false=>
     have h:P6 P bN (run P bN md j) n g ps x y st kt=some a:=h
     exact⟨rfl,_, .inl rfl,Qb bd cD bC h hQ⟩
noncomputable def oH(P:Program)(bN:Nat->FD)(md:qT P)(k:Nat)(g:Nat)(ds:List D):Option R:=
 match MB P bN (run P bN md k) g (ds.map .d) (.e fun _=> .no) 0 Dh with
 |some (.r x)=>some x
 |_=>none
theorem aV.gP (bd:P.follows .mixedOrders=true)(cD:∀g,(bN g).Ok P g){k g:Nat}{ds:List D}{out:R}(h:oH P bN md k g ds=some out):aV P g ds out:=by
 unfold oH at h
 split at h
 ·rename_i x hr;injection h with h;subst h;exact Di bd cD (WK bd cD k k (Nat.le_refl _)) hr
 ·cases h
end
end
def Tr.HB {α:Type}(p:Nat->α->Prop):Tr α->(Nat->Nat)->Prop
 | .e g,f=>∀i,p (f i) (g i)
 | .n x l r,f=>p (f 0) x/\HB p l (fun i=>f (2*i+1))/\HB p r (fun i=>f (2*i+2))
theorem Tr.AW {α:Type}{p:Nat->α->Prop}:∀ {f:Nat->Nat} (t:Tr α),t.HB p f->∀k,p (f k) (t.get k)
 |f, .e g,h,k=>h k
 |f, .n x l r,h,k=>by
  obtain⟨h1,h2,h3⟩:=h
  rw[Tr.vS]
  split
  ·rename_i e;subst e;exact h1
  ·split
   ·have:=Tr.AW l h2 (k/2)
    rwa [show 2*(k/2)+1=k by omega]at this
   ·have:=Tr.AW r h3 (k/2 - 1)
    rwa [show 2*(k/2 - 1)+2=k by omega]at this
end Go.Proofs.YtnkamdiiakdkgaaGreat
