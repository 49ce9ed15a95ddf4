/-
  A PART OF THE PROOF. Conditions: none.
-/
import Derived.Test.YtlhemmpklhhgoaaGreatQc10
set_option linter.unusedSimpArgs false
set_option linter.unusedVariables false
namespace Go.Proofs.YtlhemmpklhhgoaaGreat
section
inductive Tr (α:Type) where
 |e (f:Nat->α)
 |n (x:α) (l r:Tr α)
noncomputable def Tr.get {α:Type}(t:Tr α):Nat->α:=
 Tr.rec (motive:=fun _=>Nat->α) (fun f=>f) (fun x _ _ l r k=>Bool.rec (Bool.rec (r (Nat.sub (Nat.div k 2) 1)) (l (Nat.div k 2)) (Nat.beq (Nat.mod k 2) 1)) x (Nat.beq k 0)) t
theorem Tr.BI {α:Type}(f:Nat->α):(Tr.e f).get=f:=rfl
noncomputable def Tr.rI {α:Type}(x:α):Nat->Tr α->Nat->Tr α
 |0,t,k=> .e (aM t.get k x)
 |d+1, .e f,k=>match Nat.beq k 0 with
  |true=> .n x (.e fun i=>f (2*i+1)) (.e fun i=>f (2*i+2))
  |false=>match Nat.beq (k%2) 1 with
   |true=> .n (f 0) (Tr.rI x d (.e fun i=>f (2*i+1)) (k/2)) (.e fun i=>f (2*i+2))
   |false=> .n (f 0) (.e fun i=>f (2*i+1)) (Tr.rI x d (.e fun i=>f (2*i+2)) (k/2 - 1))
 |d+1, .n y l r,k=>match Nat.beq k 0 with
  |true=> .n x l r
  |false=>match Nat.beq (k%2) 1 with
   |true=> .n y (Tr.rI x d l (k/2)) r
   |false=> .n y l (Tr.rI x d r (k/2 - 1))
noncomputable def Tr.set {α:Type}(t:Tr α)(k:Nat)(x:α):Tr α:=Tr.rI x 24 t k
theorem Tr.rJ {α:Type}{x:α}{l r:Tr α}{k:Nat}:(Tr.n x l r).get k=if k=0 then x else if k%2=1 then l.get (k/2)else r.get (k/2 - 1):=by
 show @Bool.rec (fun _=>α) (@Bool.rec (fun _=>α) (r.get (k/2 - 1)) (l.get (k/2)) (Nat.beq (k%2) 1)) x (Nat.beq k 0)=_
 by_cases h:k=0
 ·subst h;rfl
 ·have:Nat.beq k 0=false:=by cases k with|zero=>exact absurd rfl h|succ k=>rfl
  simp only[this,h,if_false]
  by_cases h2:k%2=1
  ·simp[h2]
  ·have:Nat.beq (k%2) 1=false:=by
    cases hb:Nat.beq (k%2) 1 with
    |false=>rfl
    |true=>exact absurd (Nat.eq_of_beq_eq_true hb) h2
   simp[h2,this]
theorem Tr.kR {α:Type}(x:α):∀ (d:Nat) (t:Tr α) (k:Nat),(Tr.rI x d t k).get=aM t.get k x
 |0,t,k=>rfl
 |d+1, .e f,k=>by
  funext i
  simp only[Tr.rI]
  have hb:∀a b:Nat,Nat.beq a b=decide (a=b):=fun a b=>by
   cases h:Nat.beq a b with
   |true=>simp[Nat.eq_of_beq_eq_true h]
   |false=>simp[Nat.ne_of_beq_eq_false h]
  rw[hb,hb]
  by_cases h:k=0
  ·subst h
   simp only[decide_true,Tr.rJ,aC]
   by_cases hi:i=0
   ·simp[hi]
   ·simp only[hi,if_false]
    by_cases h2:i%2=1
    ·simp only[h2,if_true,Tr.BI];congr 1;omega
    ·simp only[h2,if_false,Tr.BI];congr 1;omega
  ·simp only[h,decide_false]
   by_cases hk:k%2=1
   ·simp only[hk,decide_true,Tr.rJ,Tr.kR x d,aC,Tr.BI]
    by_cases hi:i=0
    ·exact A2
    ·simp only[hi,if_false]
     by_cases h2:i%2=1
     ·simp only[h2,if_true]
      have e1:2*(i/2)+1=i:=af
      rw[e1]
      by_cases e:i=k
      ·simp[e]
      ·exact He
     ·simp only[h2,if_false]
      rw[if_neg (by intro e;subst e;exact h2 hk)]
      congr 1;omega
   ·simp only[hk,decide_false,Tr.rJ,Tr.kR x d,aC,Tr.BI]
    by_cases hi:i=0
    ·exact A2
    ·simp only[hi,if_false]
     by_cases h2:i%2=1
     ·simp only[h2,if_true]
      rw[if_neg (by intro e;subst e;exact hk h2)]
      congr 1;omega
     ·simp only[h2,if_false]
      have e1:2*(i/2 - 1)+2=i:=af
      rw[e1]
      by_cases e:i=k
      ·simp[e]
      ·exact He
 |d+1, .n y l r,k=>by
  funext i
  simp only[Tr.rI]
  have hb:∀a b:Nat,Nat.beq a b=decide (a=b):=fun a b=>by
   cases h:Nat.beq a b with
   |true=>simp[Nat.eq_of_beq_eq_true h]
   |false=>simp[Nat.ne_of_beq_eq_false h]
  rw[hb,hb]
  by_cases h:k=0
  ·subst h
   simp only[decide_true,Tr.rJ,aC]
   by_cases hi:i=0
   ·simp[hi]
   ·simp[hi]
  ·simp only[h,decide_false]
   by_cases hk:k%2=1
   ·simp only[hk,decide_true,Tr.rJ,Tr.kR x d,aC]
    by_cases hi:i=0
    ·exact A2
    ·simp only[hi,if_false]
     by_cases h2:i%2=1
     ·simp only[h2,if_true]
      by_cases e:i=k
      ·simp[e]
      ·exact He
     ·simp only[h2,if_false]
      rw[if_neg (by intro e;subst e;exact h2 hk)]
   ·simp only[hk,decide_false,Tr.rJ,Tr.kR x d,aC]
    by_cases hi:i=0
    ·exact A2
    ·simp only[hi,if_false]
     by_cases h2:i%2=1
     ·simp only[h2,if_true]
      rw[if_neg (by intro e;subst e;exact hk h2)]
     ·simp only[h2,if_false]
      by_cases e:i=k
      ·simp[e]
      ·exact He
theorem Tr.eX {α:Type}(t:Tr α)(k:Nat)(x:α):(t.set k x).get=aM t.get k x:=Tr.kR x 24 t k
noncomputable def Nat.fc {β:Type}(n:Nat)(c:Nat->β):β:=Nat.rec (motive:=fun _=>β) (c 0) (fun m _=>c (Nat.succ m)) n
theorem Nat.cj {β:Type}(n:Nat)(c:Nat->β):Nat.fc n c=c n:=by cases n<;>rfl
noncomputable def Int.fc {β:Type}(n:Int)(c:Int->β):β:=Int.rec (motive:=fun _=>β) (fun m=>Nat.fc m fun m=>c (.ofNat m)) (fun m=>Nat.fc m fun m=>c (.negSucc m)) n
theorem Int.cj {β:Type}(n:Int)(c:Int->β):Int.fc n c=c n:=by cases n<;>simp only[Int.fc,Nat.cj]
mutual
noncomputable def D.fc {β:Type}:D->(D->β)->β
 | .int k n,c=>Int.fc n fun n=>c (.int k n)
 | .bool b,c=>match b with|true=>c (.bool true)|false=>c (.bool false)
 | .agg l,c=>D.rK l fun l=>c (.agg l)
 | .sl l,c=>D.rK l fun l=>c (.sl l)
 | .iface t x,c=>D.fc x fun x=>c (.iface t x)
 | .str s,c=>c (.str s)
 | .e9,c=>c .e9
 | .j6,c=>c .j6
 | .bK,c=>c .bK
 | .eJ,c=>c .eJ
 | .mp ks vs,c=>D.rK ks fun ks=>D.rK vs fun vs=>c (.mp ks vs)
noncomputable def D.rK {β:Type}:List D->(List D->β)->β
 |[],c=>c []
 |x::xs,c=>D.fc x fun x=>D.rK xs fun xs=>c (x::xs)
end
mutual
theorem D.cj {β:Type}:∀ (x:D) (c:D->β),D.fc x c=c x
 | .int k n,c=>by simp only[D.fc,Int.cj]
 | .bool b,c=>by cases b<;>rfl
 | .agg l,c=>by simp only[D.fc,D.dX l]
 | .sl l,c=>by simp only[D.fc,D.dX l]
 | .iface t x,c=>by simp only[D.fc,D.cj x]
 | .mp ks vs,c=>by simp only[D.fc,D.dX ks,D.dX vs]
 | .str _,_| .e9,_| .j6,_| .bK,_| .eJ,_=>by simp only[D.fc]
theorem D.dX {β:Type}:∀ (x:List D) (c:List D->β),D.rK x c=c x
 |[],c=>by simp only[D.rK]
 |x::xs,c=>by simp only[D.rK,D.cj x,D.dX xs]
end
mutual
noncomputable def V.fc {β:Type}:V->(V->β)->β
 | .d x,c=>D.fc x fun x=>c (.d x)
 | .agg l,c=>V.rK l fun l=>c (.agg l)
 | .bC l,c=>V.rK l fun l=>c (.bC l)
 | .ptr i o,c=>Nat.fc i fun i=>Nat.fc o fun o=>c (.ptr i o)
 | .osl i o,c=>Nat.fc i fun i=>Nat.fc o fun o=>c (.osl i o)
 | .pe a b i j k,c=>Nat.fc a fun a=>Nat.fc b fun b=>Nat.fc i fun i=>Nat.fc j fun j=>Nat.fc k fun k=>c (.pe a b i j k)
 | .pp l o,c=>D.rK l fun l=>Nat.fc o fun o=>c (.pp l o)
 | .func f a b,c=>V.rK a fun a=>V.rK b fun b=>c (.func f a b)
 | .iface t x,c=>V.fc x fun x=>c (.iface t x)
 | .oj l,c=>D.rK l fun l=>c (.oj l)
 | .tu i j k,c=>Nat.fc i fun i=>Nat.fc j fun j=>Nat.fc k fun k=>c (.tu i j k)
 | .mp i,c=>Nat.fc i fun i=>c (.mp i)
 | .jc i,c=>Nat.fc i fun i=>c (.jc i)
 | .a8,c=>c .a8
 | .ab,c=>c .ab
 | .ek,c=>c .ek
noncomputable def V.rK {β:Type}:List V->(List V->β)->β
 |[],c=>c []
 |x::xs,c=>V.fc x fun x=>V.rK xs fun xs=>c (x::xs)
end
mutual
theorem V.cj {β:Type}:∀ (x:V) (c:V->β),V.fc x c=c x
 | .d x,c=>by simp only[V.fc,D.cj]
 | .agg l,c=>by simp only[V.fc,V.dX l]
 | .bC l,c=>by simp only[V.fc,V.dX l]
 | .pp l o,c=>by simp only[V.fc,D.dX,Nat.cj]
 | .func f a b,c=>by simp only[V.fc,V.dX a,V.dX b]
 | .iface t x,c=>by simp only[V.fc,V.cj x]
 | .oj l,c=>by simp only[V.fc,D.dX]
 | .ptr _ _,_| .osl _ _,_| .pe _ _ _ _ _,_| .tu _ _ _,_| .mp _,_| .jc _,_| .a8,_| .ab,_| .ek,_=>by simp only[V.fc,Nat.cj]
theorem V.dX {β:Type}:∀ (x:List V) (c:List V->β),V.rK x c=c x
 |[],c=>by simp only[V.rK]
 |x::xs,c=>by simp only[V.rK,V.cj x,V.dX xs]
end
section
variable {β:Type}
noncomputable def Th(k:IntKind)(n:Int)(c:V->β):β:=Int.fc n fun n=>c (.d (.int k n))
noncomputable def Ti(b:Bool)(c:V->β):β:= @Bool.rec (fun _=>β) (c (.d (.bool false))) (c (.d (.bool true))) b
noncomputable def Nc(x:D)(c:V->β):β:=D.fc x fun x=>c (.d x)
noncomputable def vD(x:D):(V->β)->β:=match x with| .int k n=>Th k n| .bool b=>Ti b|x=>Nc x
noncomputable def Tj(i o:Nat)(c:V->β):β:=Nat.fc i fun i=>Nat.fc o fun o=>c (.ptr i o)
noncomputable def Tk(i o:Nat)(c:V->β):β:=Nat.fc i fun i=>Nat.fc o fun o=>c (.osl i o)
noncomputable def vPe(a b i j k:Nat)(c:V->β):β:=Nat.fc a fun a=>Nat.fc b fun b=>Nat.fc i fun i=>Nat.fc j fun j=>Nat.fc k fun k=>c (.pe a b i j k)
noncomputable def V.Qb (v:V):(V->β)->β:=match v with| .d x=>vD x| .ptr i o=>Tj i o| .osl i o=>Tk i o| .pe a b i j k=>vPe a b i j k|v=>V.fc v
theorem V.Nd (v:V)(c:V->β):V.Qb v c=c v:=by
 cases v
 case d x=>
  cases x
  case int k n=>simp only[V.Qb,vD,Th,Int.cj]
  case bool b=>cases b<;>rfl
  all_goals exact D.cj _ _
 case ptr i o=>simp only[V.Qb,Tj,Nat.cj]
 case osl i o=>simp only[V.Qb,Tk,Nat.cj]
 case pe a b i j k=>simp only[V.Qb,vPe,Nat.cj]
 all_goals exact V.cj _ _
end
noncomputable def Qc{β:Type}:List (D×D)->(List (D×D)->β)->β
 |[],c=>c []
 |(a,b)::l,c=>D.fc a fun a=>D.fc b fun b=>Qc l fun l=>c ((a,b)::l)
theorem Fv{β:Type}:∀ (x:List (D×D)) (c:List (D×D)->β),Qc x c=c x
 |[],c=>rfl
 |(a,b)::l,c=>by simp only[Qc,D.cj,Fv l]
noncomputable def aa.fc {β:Type}(x:aa)(c:aa->β):β:=
 match x with
 | .row cs=>V.rK cs fun cs=>c (.row cs)
 | .arr e t s es=>Nat.fc e fun e=>Nat.fc s fun s=>D.rK es fun es=>c (.arr e t s es)
 | .qo e es=>Nat.fc e fun e=>D.rK es fun es=>c (.qo e es)
 | .map kt vt l=>Qc l fun l=>c (.map kt vt l)
 | .cO l=>Qc l fun l=>c (.cO l)
 | .oB l last=>Qc l fun l=>c (.oB l last)
 | .uP l pos=>Nat.fc pos fun pos=>c (.uP l pos)
 |x=>c x
theorem aa.cj {β:Type}(x:aa)(c:aa->β):aa.fc x c=c x:=by cases x<;>simp only[aa.fc,V.dX,D.dX,Nat.cj,Fv]
noncomputable def Tr.uh {α β:Type}(x:α)(d:Nat):Tr α->Nat->(Tr α->β)->β:=
 Nat.rec (motive:=fun _=>Tr α->Nat->(Tr α->β)->β) (fun t k c=>c (.e (aM t.get k x)))
  (fun _ ih t k c=>Tr.rec (motive:=fun _=>β) (fun f=>
   Bool.rec (Bool.rec (ih (.e fun i=>f (2*i+2)) (Nat.sub (Nat.div k 2) 1) fun r=>c (.n (f 0) (.e fun i=>f (2*i+1)) r)) (ih (.e fun i=>f (2*i+1)) (Nat.div k 2) fun l=>c (.n (f 0) l (.e fun i=>f (2*i+2)))) (Nat.beq (Nat.mod k 2) 1))
    (c (.n x (.e fun i=>f (2*i+1)) (.e fun i=>f (2*i+2)))) (Nat.beq k 0))
   (fun y l r _ _=>Bool.rec (Bool.rec (ih r (Nat.sub (Nat.div k 2) 1) fun r=>c (.n y l r)) (ih l (Nat.div k 2) fun l=>c (.n y l r)) (Nat.beq (Nat.mod k 2) 1)) (c (.n x l r)) (Nat.beq k 0)) t) d
theorem Tr.rL {α β:Type}(x:α):∀ (d:Nat) (t:Tr α) (k:Nat) (c:Tr α->β),Tr.uh x d t k c=c (Tr.rI x d t k)
 |0,t,k,c=>rfl
 |d+1, .e f,k,c=>by
  show @Bool.rec (fun _=>β) (@Bool.rec (fun _=>β) (Tr.uh x d (.e fun i=>f (2*i+2)) (k/2 - 1) fun r=>c (.n (f 0) (.e fun i=>f (2*i+1)) r)) (Tr.uh x d (.e fun i=>f (2*i+1)) (k/2) fun l=>c (.n (f 0) l (.e fun i=>f (2*i+2)))) (Nat.beq (k%2) 1)) (c (.n x (.e fun i=>f (2*i+1)) (.e fun i=>f (2*i+2)))) (Nat.beq k 0)=_
  simp only[Tr.rI,Tr.rL x d]
  cases Nat.beq k 0
  ·cases Nat.beq (k%2) 1<;>rfl
  ·rfl
 |d+1, .n y l r,k,c=>by
  show @Bool.rec (fun _=>β) (@Bool.rec (fun _=>β) (Tr.uh x d r (k/2 - 1) fun r=>c (.n y l r)) (Tr.uh x d l (k/2) fun l=>c (.n y l r)) (Nat.beq (k%2) 1)) (c (.n x l r)) (Nat.beq k 0)=_
  simp only[Tr.rI,Tr.rL x d]
  cases Nat.beq k 0
  ·cases Nat.beq (k%2) 1<;>rfl
  ·rfl
noncomputable def Tr.Nf {α β:Type}(t:Tr α)(k:Nat)(x:α)(c:Tr α->β):β:=Tr.uh x 24 t k c
theorem Tr.BJ {α β:Type}(t:Tr α)(k:Nat)(x:α)(c:Tr α->β):t.Nf k x c=c (t.set k x):=Tr.rL x 24 t k c
structure St where
 env:Tr V
 o:Tr aa
 nx:Nat
noncomputable def St.S (st:St):S:=⟨st.env.get,st.o.get,st.nx⟩
noncomputable def Da(o:Tr aa)(Δ:List (Nat×aa)):Tr aa:=Δ.foldl (fun f x=>f.set x.1 x.2) o
noncomputable def pQ(env:Tr V)(dst:Option Tmp)(v:V):Tr V:=match dst with|some d=>env.set d v|none=>env
noncomputable def rM{β:Type}(o:Tr aa):List (Nat×aa)->(Tr aa->β)->β
 |[],c=>c o
 |(i,x)::Δ,c=>aa.fc x fun x=>o.Nf i x fun o=>rM o Δ c
theorem kS{β:Type}:∀ (Δ:List (Nat×aa)) (o:Tr aa) (c:Tr aa->β),rM o Δ c=c (Da o Δ)
 |[],o,c=>rfl
 |(i,x)::Δ,o,c=>by simp only[rM,aa.cj,Tr.BJ,kS Δ];rfl
noncomputable def jN{β:Type}(env:Tr V)(dst:Option Tmp)(v:V)(c:Tr V->β):β:=match dst with|some d=>V.Qb v fun v=>env.Nf d v c|none=>c env
theorem gK{β:Type}(env:Tr V)(dst:Option Tmp)(v:V)(c:Tr V->β):jN env dst v c=c (pQ env dst v):=by
 cases dst<;>simp only[jN,pQ,V.Nd,Tr.BJ]
theorem ij:∀ (Δ:List (Nat×aa)) (o:Tr aa),(Da o Δ).get=put o.get Δ
 |[],_=>rfl
 |x::Δ,o=>by
  simp only[Da,put,List.foldl_cons]
  have:=ij Δ (o.set x.1 x.2)
  simp only[Da,put]at this
  rw[this,Tr.eX]
theorem gC(env:Tr V)(dst:Option Tmp)(v:V):(pQ env dst v).get=aQ env.get dst v:=by
 cases dst<;>simp[pQ,aQ,Tr.eX]
section Ng
def Kq(x:Operand)(_:Program)(s:S)(_:Nat):Option et:=one (s.ev x)
def Tl(c a b:Operand)(_:Program)(s:S)(_:Nat):Option et:=jL (nB (s.ev c) (s.ev a) (s.ev b))
def Nh(t:TypeId)(parts:Array (Nat×Operand))(P:Program)(s:S)(_:Nat):Option et:=jL (vl P t (parts.toList.map fun p=>(p.1,s.ev p.2)))
def yd(t:TypeId)(len:Nat)(parts:Array (Nat×Operand))(P:Program)(s:S)(fr:Nat):Option et:=eC P s.o fr t len (parts.toList.map fun p=>(p.1,s.ev p.2))
def Tn(t:TypeId)(x:Operand)(P:Program)(s:S)(_:Nat):Option et:=kH P s.o t (s.ev x)
def Ni(t:TypeId)(x v:Operand)(P:Program)(s:S)(_:Nat):Option et:=oP P s.o t (s.ev x) (s.ev v)
def Yj(x:Operand)(_:Program)(s:S)(_:Nat):Option et:=jL (gE s.o (s.ev x))
noncomputable def To(op:BinOp):IntKind->Int->Int->Option V:=
 match op with
 | .add=>fun k a b=>some (.d (.int k (k.wrap (Int.add a b))))
 | .sub=>fun k a b=>some (.d (.int k (k.wrap (Int.sub a b))))
 | .mul=>fun k a b=>some (.d (.int k (k.wrap (Int.mul a b))))
 |op=>xE op
theorem H7(op:BinOp):To op=xE op:=by cases op<;>rfl
def asInt(x:V):Option (IntKind×Int):=match x with| .d (.int k a)=>some (k,a)|_=>none
def Fw(op:BinOp)(t:TypeId)(c:Bool)(x y:V)(P:Program)(o:Nat->aa):Option et:=dS P o op t c x y
noncomputable def Tp(op:BinOp)(t:TypeId)(x y:Operand)(P:Program)(s:S)(_:Nat):Option et:=
 match asInt (s.ev x)with
 |some (k,a)=>match asInt (s.ev y)with
  |some (k',b)=>if k=k' then match To op k a b with
   |some v=>some (v,[],[])
   |none=>Fw op t (isConst x||isConst y) (s.ev x) (s.ev y) P s.o
   else none
  |none=>Fw op t (isConst x||isConst y) (s.ev x) (s.ev y) P s.o
 |none=>Fw op t (isConst x||isConst y) (s.ev x) (s.ev y) P s.o
theorem ye{x:V}{k:IntKind}{a:Int}(h:asInt x=some (k,a)):x= .d (.int k a):=by
 unfold asInt at h;split at h
 ·injection h with h;cases h;rfl
 ·cases h
def Ad(t:TypeId)(x:Operand)(f:Nat)(P:Program)(s:S)(_:Nat):Option et:=jL (fk P s.o t (s.ev x) f)
def Ae(t:TypeId)(x i:Operand)(P:Program)(s:S)(_:Nat):Option et:=fj P s.o t (s.ev x) (s.ev i)
def Nj(op:Op)(P:Program)(s:S)(fr:Nat):Option et:=eK P s fr op
noncomputable def H8(op:Op):Program->S->Nat->Option et:=
 match op with
 | .move x=>Kq x
 | .assign x=>Kq x
 | .pick c a b=>Tl c a b
 | .build t parts=>Nh t parts
 | .buildSlice t len parts=>yd t len parts
 | .load t x=>Tn t x
 | .store t x v=>Ni t x v
 | .nilCheck x=>Yj x
 | .binOp op t x y _=>Tp op t x y
 | .fieldAddr t x f=>Ad t x f
 | .indexAddr t x i=>Ae t x i
 |op=>Nj op
theorem BK{op:Op}{P:Program}{s:S}{fr:Nat}{r:et}(h:H8 op P s fr=some r):eK P s fr op=some r:=by
 cases op
 case binOp op t x y yt=>
  simp only[H8,Tp,H7]at h
  have e:eK P s fr (.binOp op t x y yt)=dS P s.o op t (isConst x||isConst y) (s.ev x) (s.ev y):=rfl
  rw[e]
  split at h
  ·rename_i k a hx
   split at h
   ·rename_i k' b hy
    split at h
    ·rename_i hk
     split at h
     ·rename_i v hv
      unfold dS vk
      simp only[ye hx,ye hy,if_pos hk,hv]
      exact h
     ·exact h
    ·cases h
   ·exact h
  ·exact h
 all_goals exact h
end Ng
inductive FD where
 |fn (n:Nat) (ic:IC) (rs:List ResultVar)
 |Yk (n:Nat) (iR eL:IC) (g t:Nat) (gz:List Operand) (rs:List ResultVar) (m r r1:Nat) (yc:IC)
 |Yl
 |no
def FD.Ok (P:Program)(f:Nat):FD->Prop
 | .fn n ic rs=>aE P f n ic rs
 | .Yk n iR eL g t gz rs m r r1 yc=>Fo P f n iR eL g t gz rs/\BG P g m r r1 yc
 | .Yl=>BH P f
 | .no=>True
inductive CR where
 |ret (v:V) (o:Tr aa) (nx:Nat)|bf (v:V) (o:Tr aa) (nx:Nat)
def CR.to (K X:V->(Nat->aa)->Nat->Prop):CR->Prop
 | .ret v o nx=>K v o.get nx
 | .bf v o nx=>X v o.get nx
inductive RO where
 |ok (st:St)|bf (v:V) (st:St)
def RO.to (K:S->Prop)(X:V->S->Prop):RO->Prop
 | .ok st=>K st.S
 | .bf v st=>X v st.S
inductive dq where
 |r (x:R)|c (x:CR)
abbrev Kt:=eM->St->Option dq
abbrev cP:=Nat->Bool->Nat->IC->St->Kt->Option dq
noncomputable def Db(P:Program)(rs:List ResultVar)(st:St)(kc:CR->Option dq):Option dq:=
 match jG P st.S rs with
 |some [v]=>kc (.ret v st.o st.nx)
 |some vs=>kc (.ret (.bC vs) st.o st.nx)
 |none=>none
noncomputable def Kr(P:Program)(rs:List ResultVar)(kc:CR->Option dq):Kt:=fun e st=>
 match e with
 | .normal=>Db P rs st kc
 | .ret=>Db P rs st kc
 | .bf v=>kc (.bf v st.o st.nx)
 | .exit _=>none
noncomputable def Fx(P:Program)(rs:List ResultVar)(kc:CR->Option dq)(env:Tr V):Kt:=fun e s4=>
 match e with
 | .normal=>Db P rs ⟨env,s4.o,s4.nx⟩ kc
 | .ret=>Db P rs ⟨env,s4.o,s4.nx⟩ kc
 |_=>none
def Tq:eM->Option V
 | .normal=>some (.d .e9)
 | .ret=>some (.d .e9)
 | .bf v=>some v
 | .exit _=>none
noncomputable def Fy(P:Program)(rec:cP)(rs:List ResultVar)(cp:List V)(m r r1:Nat)(yc:IC)(kc:CR->Option dq):Kt:=fun e s3=>
 match Tq e with
 |some u=>if cp.length<=m then rec s3.nx true m yc ⟨.e (aM (aM (cc cp) r u) r1 u),s3.o,s3.nx⟩ (Fx P rs kc s3.env)else none
 |none=>none
noncomputable def BM(P:Program)(rec:cP)(n t:Nat)(eL:IC)(g:Nat)(gz:List Operand)(rs:List ResultVar)(m r r1:Nat)(yc:IC)(kc:CR->Option dq):Kt:=fun e s1=>
 match e with
 | .normal=>rec s1.nx false n eL ⟨s1.env.set t (.func (.func g) [] (gz.map s1.S.ev)),s1.o,s1.nx⟩ (Fy P rec rs (gz.map s1.S.ev) m r r1 yc kc)
 |_=>none
noncomputable def Fz(P:Program)(bu:Nat->FD)(rec:cP)(g:Nat)(args:List V)(o:Tr aa)(nx:Nat)(kc:CR->Option dq):Option dq:=
 match bu g with
 | .fn n ic rs=>if args.length<=n then rec nx false n ic ⟨.e (cc args),o,nx⟩ (Kr P rs kc)else none
 | .Yk n iR eL g t gz rs m r r1 yc=>if args.length<=n then rec nx true n iR ⟨.e (cc args),o,nx⟩ (BM P rec n t eL g gz rs m r r1 yc kc)else none
 | .Yl=>match args with
   |[.mp id]=>match o.get id with
    | .map kt vt l=>kc (.ret (.mp nx) (o.set nx (.map kt vt l)) (nx+1))
    | .cO l=>kc (.ret (.mp nx) (o.set nx (.map 0 0 l)) (nx+1))
    |_=>none
   |_=>none
 | .no=>none
def rN:V->List V
 | .bC vs=>vs
 |v=>[v]
noncomputable def BN(r:CR):Option R:=
 match r with
 | .ret v o _=>match v with
   | .bC [_]=>none
   |v=>match bD o.get (rN v)with
    |some rs=>some (.ret rs)
    |none=>none
 | .bf v o _=>match du o.get v with
   |some x=>some (.bf x)
   |none=>none
noncomputable def Ts{β:Type}(x:R)(c:R->β):β:=match x with| .ret l=>D.rK l fun l=>c (.ret l)| .bf d=>D.fc d fun d=>c (.bf d)
theorem Af{β:Type}(x:R)(c:R->β):Ts x c=c x:=by cases x<;>simp only[Ts,D.dX,D.cj]
noncomputable def yf(r:CR):Option dq:=match BN r with|some x=>Ts x fun x=>some (.r x)|none=>none
theorem FA{r:CR}{a:dq}(h:yf r=some a):∃x,BN r=some x/\a= .r x:=by
 unfold yf at h
 split at h
 ·rename_i x hx;rw[Af]at h;injection h with h;exact⟨x,hx,h.symm⟩
 ·cases h
def FB(out:R)(o:Tr aa)(nx:Nat):CR:=
 match out with
 | .ret rs=> .ret (gY rs) o nx
 | .bf x=> .bf (.d x) o nx
structure nJ (P:Program) where
 Tt:Nat->Bool
 fx:Nat->List D->Option R
 ok:∀g ds out,fx g ds=some out->aY P g ds out
def FC(l:List (Nat×List D×R))(g:Nat)(ds:List D):Option R:=
 match l with
 |[]=>none
 |x::l=>match Nat.beq x.1 g with
  |true=>match D.ez x.2.1 ds with
   |true=>some x.2.2
   |false=>FC l g ds
  |false=>FC l g ds
theorem vL{P:Program}:∀ {l:List (Nat×List D×R)},(∀x∈l,aY P x.1 x.2.1 x.2.2)->∀g ds out,FC l g ds=some out->aY P g ds out
 |[],_,_,_,_,h=>by cases h
 |x::l,hl,g,ds,out,h=>by
  simp only[FC]at h
  split at h
  ·rename_i hg
   split at h
   ·rename_i hd
    injection h with h
    have:=hl x aK
    rw[Nat.eq_of_beq_eq_true hg,D.cR _ _ hd,h]at this
    exact this
   ·exact vL (fun y hy=>hl y lS) g ds out h
  ·exact vL (fun y hy=>hl y lS) g ds out h
def nJ.of {P:Program}(Tt:Nat->Bool)(l:List (Nat×List D×R))(h:∀x∈l,aY P x.1 x.2.1 x.2.2):nJ P:=⟨Tt,FC l,vL h⟩
noncomputable def H9(P:Program)(bu:Nat->FD)(md:nJ P)(rec:cP)(g:Nat)(ds:List D):Option R:=
 match md.fx g ds with
 |some out=>some out
 |none=>match Fz P bu rec g (ds.map .d) (.e fun _=> .no) 0 yf with
  |some (.r x)=>some x
  |_=>none
noncomputable def Ks(out:R)(o:Tr aa)(nx:Nat)(args:List V)(kc:CR->Option dq):Option dq:=
 match out.flat with
 |true=>kc (FB out o (nx+1))
 |false=>match out.kC with
  |true=>kc (FB out (Da o (oC o.get (V.aV args))) (nx+1))
  |false=>kc (FB out (Da o (cq o.get (V.aV args))) (nx+1))
noncomputable def BO(P:Program)(bu:Nat->FD)(md:nJ P)(rec:cP)(g:Nat)(args:List V)(o:Tr aa)(nx:Nat)(kc:CR->Option dq):Option dq:=
 match md.Tt g,bD o.get args with
 |true,some ds=>match H9 P bu md rec g ds with
  |some out=>Ks out o nx args kc
  |none=>none
 |_,_=>Fz P bu rec g args o nx kc
noncomputable def FE(id:Nat)(kc:CR->Option dq):Kt:=fun e s2=>
 match e with
 | .bf v=>kc (.bf v s2.o s2.nx)
 |e=>match s2.o.get id with
  | .loop nf m en p c d _ _=>match e with
    | .normal=>kc (.ret (.d (.bool true)) (s2.o.set id (.loop nf m en p c d .ready none)) s2.nx)
    | .ret=>kc (.ret (.d (.bool false)) (s2.o.set id (.loop nf m en p c d .done (some .ret))) s2.nx)
    | .exit j=>kc (.ret (.d (.bool false)) (s2.o.set id (.loop nf m en p c d .done (some (.exit j)))) s2.nx)
    | .bf _=>none
  |_=>none
noncomputable def BP(rec:cP)(id nx n:Nat)(eL:IC)(kc:CR->Option dq):Kt:=fun e s1=>
 match e with
 | .normal=>match s1.o.get id with
   | .loop nf m en p c d .ready pd=>rec nx true n eL ⟨s1.env,s1.o.set id (.loop nf m en p c d .busy pd),s1.nx⟩ (FE id kc)
   |_=>none
 | .bf v=>kc (.bf v s1.o s1.nx)
 |_=>none
noncomputable def Nk(P:Program)(rec:cP)(id:Nat)(args:List V)(o:Tr aa)(nx:Nat)(kc:CR->Option dq):Option dq:=
 match o.get id with
 | .loop nf n env ps iR eL _ _=>if nf=P.funcs.size/\id<nx/\ps.all (fun t=>decide (t<n))=true/\args.length=ps.length then
  rec nx true n iR ⟨.e (nH (bc env) ps args),o,nx⟩ (BP rec id nx n eL kc)
   else none
 |_=>none
noncomputable def ui(P:Program)(st:St)(o:bw)(kr:RO->Option dq):Option dq:=
 match H8 o.op P st.S st.nx with
 |some (v,Δ,_)=>jN st.env o.dst v fun e=>rM st.o Δ fun ob=>Nat.fc (st.nx+1) fun n=>kr (.ok ⟨e,ob,n⟩)
 |none=>none
noncomputable def Tu(st:St)(dst:Option Nat)(kr:RO->Option dq)(c:CR):Option dq:=
 match c with
 | .ret v o nx=>jN st.env dst v fun e=>Nat.fc nx fun nx=>kr (.ok ⟨e,o,nx⟩)
 | .bf v o nx=>kr (.bf v ⟨st.env,o,nx⟩)
noncomputable def FF(c:Call)(P:Program)(bu:Nat->FD)(md:nJ P)(rec:cP)(st:St)(o:bw)(kr:RO->Option dq):Option dq:=
 match c.callee with
 | .value f=>match st.S.ev f with
   | .func (.func g) first cap=>BO P bu md rec g (first++c.args.toList.map st.S.ev++cap) st.o st.nx (Tu st o.dst kr)
   | .jc id=>Nk P rec id (c.args.toList.map st.S.ev) st.o st.nx (Tu st o.dst kr)
   |_=>none
 | .invoke r m=>match ra P m (st.S.ev r)with
   |some (g,y)=>BO P bu md rec g (y::c.args.toList.map st.S.ev) st.o st.nx (Tu st o.dst kr)
   |none=>none
 |_=>ui P st o kr
noncomputable def Nl(x:Operand)(P:Program)(_:Nat->FD)(_:nJ P)(_:cP)(st:St)(_:bw)(kr:RO->Option dq):Option dq:=
 match st.S.ev x with
 | .d (.iface t y)=>kr (.bf (.d (.iface t y)) st)
 | .iface t y=>kr (.bf (.iface t y) st)
 |_=>none
noncomputable def Tv(P:Program)(_:Nat->FD)(_:nJ P)(_:cP)(st:St)(o:bw)(kr:RO->Option dq):Option dq:=ui P st o kr
def R.same:R->R->Bool
 | .ret a, .ret b=>D.ez a b
 | .bf a, .bf b=>a.same b
 |_,_=>false
theorem R.dh {x y:R}(h:x.same y=true):x=y:=by
 cases x<;>cases y<;>simp only[R.same,Bool.false_eq_true]at h
 ·rw[D.cR _ _ h]
 ·rw[D.dh _ _ h]
noncomputable def Wu(f:Nat->Option dq):Nat->Option dq
 |0=>none
 |n+1=>match n with
  |0=>f 0
  |n=>match Wu f n with
   |some (.r a)=>match f n with
    |some (.r b)=>match R.same a b with
     |true=>some (.r a)
     |false=>none
    |_=>none
   |_=>none
theorem FG{f:Nat->Option dq}{a:dq}:∀ {n:Nat},Wu f n=some a->∀i,i<n->f i=some a
 |0,h,_,_=>by cases h
 |1,h,i,hi=>by obtain rfl:i=0:=af
               exact h
 |n+2,h,i,hi=>by
  simp only[Wu]at h
  split at h
  ·rename_i x hx
   split at h
   ·rename_i y hy
    split at h
    ·rename_i he
     have e:=R.dh he
     subst e
     rw[<- h]
     by_cases e:i=n+1
     ·subst e;exact hy
     ·exact FG hx i af
    ·cases h
   ·cases h
  ·cases h
noncomputable def Ia(st:St)(dst:Option Nat)(kr:RO->Option dq)(v:V)(Δ:List (Nat×aa)):Option dq:=
 jN st.env dst v fun e=>rM st.o Δ fun ob=>Nat.fc (st.nx+1) fun n=>kr (.ok ⟨e,ob,n⟩)
noncomputable def FH(x:Operand)(str:Bool)(P:Program)(_:Nat->FD)(_:nJ P)(_:cP)(st:St)(o:bw)(kr:RO->Option dq):Option dq:=
 match lZ st.o.get (st.S.ev x)with
 |some (id,l)=>match str with
  |true=>none
  |false=>match l with
   |[]=>Ia st o.dst kr (.bC [.d (.bool false)]) []
   |_=>Wu (fun i=>match l[i]? with
    |some (k,x)=>Ia st o.dst kr (.bC [.d (.bool true), .d k, .d x]) [(id, .oB (l.eraseIdx i) (some (k,x)))]
    |none=>none) l.length
 |none=>ui P st o kr
noncomputable def opK(op:Op):(P:Program)->(Nat->FD)->nJ P->cP->St->bw->(RO->Option dq)->Option dq:=
 match op with
 | .call c=>FF c
 | .panic x=>Nl x
 | .next x str=>FH x str
 |_=>Tv
noncomputable def Wv(P:Program)(bu:Nat->FD)(md:nJ P)(rec:cP)(st:St)(o:bw)(kr:RO->Option dq):Option dq:=opK o.op P bu md rec st o kr
noncomputable def roK(next:St->Option dq)(kr:RO->Option dq):RO->Option dq:=fun r=>match r with| .ok st=>next st| .bf v st=>kr (.bf v st)
noncomputable def vM(P:Program)(bu:Nat->FD)(md:nJ P)(rec:cP)(kr:RO->Option dq):List bw->St->Option dq
 |[],st=>kr (.ok st)
 |o::l,st=>match(match o.gd with
   |none=>some true
   |some (d,want)=>match st.env.get d with
    | .d (.bool b)=>some (b==want)
    | .bC []=>some false
    |_=>none)with
  |some true=>Wv P bu md rec st o (roK (vM P bu md rec kr l) kr)
  |some false=>jN st.env o.dst (.bC []) fun e=>Nat.fc (st.nx+1) fun n=>vM P bu md rec kr l ⟨e,st.o,n⟩
  |none=>none
section
variable {P:Program}{bu:Nat->FD}{md:nJ P}
noncomputable def dz(P:Program)(rec:cP):Prop:=∀b rd n ic st k a,rec b rd n ic st k=some a->∀Q:eM->S->Prop,(∀e st',k e st'=some a->Q e st'.S)->qu P n b rd ic Q st.S
theorem qy{rs:List ResultVar}{st:St}{kc:CR->Option dq}{a:dq}(h:Db P rs st kc=some a){K X:V->(Nat->aa)->Nat->Prop}(hr:∀r,kc r=some a->r.to K X):jI P rs K X .ret st.S:=by
 unfold Db at h
 unfold jI
 split at h
 ·rename_i v hv;simp only[hv];exact hr _ h
 ·rename_i vs hv hn
  simp only[hn]
  exact hr _ h
 ·cases h
theorem kT(aU:P.follows .mixedOrders=true)(bU:∀g,(bu g).Ok P g){rec:cP}(a7:dz P rec){g:Nat}{args:List V}{o:Tr aa}{nx:Nat}{kc:CR->Option dq}{a:dq}(h:Fz P bu rec g args o nx kc=some a){K X:V->(Nat->aa)->Nat->Prop}(hr:∀r,kc r=some a->r.to K X):
 dV P g args o.get nx K X:=by
 have aP:=bU g
 unfold Fz at h
 split at h
 ·rename_i n ic rs ht
  rw[ht]at aP
  split at h
  ·rename_i hl
   refine dV.rB aU aP hl ?_
   refine a7 _ _ _ _ _ _ _ h _ fun e st he=> ?_
   unfold Kr at he
   cases e with
   |normal=>exact qy he hr
   |ret=>exact qy he hr
   |bf v=>exact hr _ he
   |exit j=>cases he
  ·cases h
 ·rename_i n iR eL g' t gz rs m r0 r1 yc ht
  rw[ht]at aP
  split at h
  ·rename_i hl
   refine dV.Ft aU aP.1 aP.2 hl (a7 _ _ _ _ _ _ _ h _ fun e s1 he=> ?_)
   unfold BM at he
   cases e with
   |normal=>
    have hb:qu P n s1.nx false eL (Ac P m r0 r1 yc (gz.map s1.S.ev) rs K X) ⟨aM s1.env.get t (.func (.func g') [] (gz.map s1.S.ev)),s1.o.get,s1.nx⟩:=by
     have:=a7 _ _ _ _ _ _ _ he (Ac P m r0 r1 yc (gz.map s1.S.ev) rs K X) (fun e s3 Qd=>by
      unfold Fy at Qd
      split at Qd
      ·rename_i u hu
       split at Qd
       ·rename_i qd
        have hrw:C8 P m r0 r1 yc (gz.map s1.S.ev) u s3.o.get s3.nx fun o nx=>jI P rs K X .ret ⟨s3.env.get,o,nx⟩:=by
         refine⟨qd,a7 _ _ _ _ _ _ _ Qd _ fun e4 s4 Ww=> ?_⟩
         unfold Fx at Ww
         cases e4 with
         |normal=>exact qy (st:=⟨s3.env,s4.o,s4.nx⟩) Ww hr
         |ret=>exact qy (st:=⟨s3.env,s4.o,s4.nx⟩) Ww hr
         |_=>cases Ww
        cases e<;>simp only[Tq,Option.some.injEq,reduceCtorEq]at hu<;>subst hu<;>exact hrw
       ·cases Qd
      ·cases Qd)
     simp only[St.S,Tr.eX]at this
     exact this
    exact hb
   |_=>cases he
  ·cases h
 ·rename_i ht
  rw[ht]at aP
  split at h
  ·split at h
   ·rename_i kt vt l ho
    have h2:=hr _ h
    simp only[CR.to,Tr.eX]at h2
    exact dV.Nb aP ho h2
   ·rename_i l ho
    have h2:=hr _ h
    simp only[CR.to,Tr.eX]at h2
    exact dV.H6 aP ho h2
   ·cases h
  ·cases h
 ·cases h
theorem FI{r:CR}{out:R}(ho:BN r=some out):r.to (fun v o _=>∃vs rs,v=(match vs with|[v]=>v|vs=> .bC vs)/\bD o vs=some rs/\out= .ret rs) (fun v o _=>∃x,du o v=some x/\out= .bf x):=by
 unfold BN at ho
 split at ho
 ·rename_i v o nx
  split at ho
  ·cases ho
  ·rename_i hv
   split at ho
   ·rename_i rs R7
    injection ho with ho;subst ho
    refine⟨rN v,rs, ?_,R7,rfl⟩
    cases v with
    |bC vs=>
     match vs,hv with
     |[],_=>rfl
     |[x],hv=>exact absurd rfl (hv x)
     |_::_::_,_=>rfl
    |_=>rfl
   ·cases ho
 ·split at ho
  ·rename_i x hx
   injection ho with ho;subst ho
   exact⟨x,hx,rfl⟩
  ·cases ho
theorem yg(aU:P.follows .mixedOrders=true)(bU:∀g,(bu g).Ok P g){rec:cP}(a7:dz P rec){g:Nat}{ds:List D}{out:R}(h:Fz P bu rec g (ds.map .d) (.e fun _=> .no) 0 yf=some (.r out)):aY P g ds out:=by
 refine aY.mz (kT aU bU a7 h fun r hr=> ?_)
 obtain⟨x,hx,he⟩:=FA hr
 injection he with he;subst he
 exact FI hx
theorem vN(aU:P.follows .mixedOrders=true)(bU:∀g,(bu g).Ok P g){rec:cP}(a7:dz P rec){g:Nat}{ds:List D}{out:R}(h:H9 P bu md rec g ds=some out):aY P g ds out:=by
 unfold H9 at h
 split at h
 ·rename_i aah ho
  injection h with h;subst h
  exact md.ok _ _ _ ho
 ·split at h
  ·rename_i x hr;injection h with h;subst h;exact yg aU bU a7 hr
  ·cases h
theorem yh(aU:P.follows .mixedOrders=true)(bU:∀g,(bu g).Ok P g){rec:cP}(a7:dz P rec){g:Nat}{args:List V}{o:Tr aa}{nx:Nat}{kc:CR->Option dq}{a:dq}(h:BO P bu md rec g args o nx kc=some a){K X:V->(Nat->aa)->Nat->Prop}(hr:∀r,kc r=some a->r.to K X):
 JT P g args o.get nx K X:=by
 unfold BO at h
 split at h
 ·rename_i ds hmd dM
  split at h
  ·rename_i out FJ
   have hP:=vN aU bU a7 FJ
   refine .inl ⟨ds,dM,out,hP, ?_⟩
   unfold Ks at h
   split at h
   ·rename_i hf
    refine .inr (.inl ⟨hf, ?_⟩)
    cases out<;>exact hr _ h
   ·split at h
    ·rename_i hf
     refine .inr (.inr ⟨hf, ?_⟩)
     rw[<- ij]
     cases out<;>exact hr _ h
    ·refine .inl ?_
     rw[<- ij]
     cases out<;>exact hr _ h
  ·cases h
 ·exact .inr (kT aU bU a7 h hr)
theorem Ib(aU:P.follows .mixedOrders=true){rec:cP}(a7:dz P rec){id:Nat}{args:List V}{o:Tr aa}{nx:Nat}{kc:CR->Option dq}{a:dq}(h:Nk P rec id args o nx kc=some a){K X:V->(Nat->aa)->Nat->Prop}(hr:∀r,kc r=some a->r.to K X):
 cV P id args o.get nx K X:=by
 unfold Nk at h
 split at h
 ·rename_i nf n env ps iR eL st pd ho
  split at h
  ·rename_i hc
   obtain⟨rfl,bQ,Fm,hl⟩:=hc
   refine cV.rB aU ho bQ Fm hl ?_
   refine a7 _ _ _ _ _ _ _ h _ fun e s1 he=> ?_
   unfold BP at he
   cases e with
   |normal=>
    simp only at he
    split at he
    ·rename_i nf m en p c d pd mR
     refine⟨nf,m,en,p,c,d,pd,mR, ?_⟩
     have:=a7 _ _ _ _ _ _ _ he (ja id K X) (fun e s2 h2=>by
      unfold FE at h2
      split at h2
      ·exact hr _ h2
      ·rename_i JL
       split at h2
       ·rename_i Ym m' Yn p' c' d' st' pd' Nn
        cases e with
        |bf v=>cases h2
        |normal=>have h3:=hr _ h2;simp only[CR.to,Tr.eX]at h3;exact⟨Ym,m',Yn,p',c',d',st',pd',Nn,h3⟩
        |ret=>have h3:=hr _ h2;simp only[CR.to,Tr.eX]at h3;exact⟨Ym,m',Yn,p',c',d',st',pd',Nn,h3⟩
        |exit j=>have h3:=hr _ h2;simp only[CR.to,Tr.eX]at h3;exact⟨Ym,m',Yn,p',c',d',st',pd',Nn,h3⟩
       ·cases h2)
     simp only[St.S,Tr.eX]at this
     exact this
    ·cases he
   |bf v=>exact hr _ he
   |_=>cases he
  ·cases h
 ·cases h
theorem rO{st:St}{o:bw}{kr:RO->Option dq}{a:dq}(h:ui P st o kr=some a){K:S->Prop}{X:V->S->Prop}(hr:∀r,kr r=some a->r.to K X):match eK P st.S st.S.nx o.op with
 |some (v,Δ,_)=>K ⟨aQ st.S.env o.dst v,put st.S.o Δ,st.S.nx+1⟩
 |none=>False:=by
 unfold ui at h
 split at h
 ·rename_i v Δ rd he
  have he:=BK he
  simp only[gK,kS,Nat.cj]at h
  have hr:=hr _ h
  simp only[RO.to,St.S,gC,ij]at hr
  have mO:eK P st.S st.S.nx o.op=some (v,Δ,rd):=he
  simp only[mO]
  exact hr
 ·cases h
theorem BQ{st:St}{dst:Option Nat}{kr:RO->Option dq}{v:V}{Δ:List (Nat×aa)}{a:dq}(h:Ia st dst kr v Δ=some a){K:S->Prop}{X:V->S->Prop}(hr:∀r,kr r=some a->r.to K X):K ⟨aQ st.S.env dst v,put st.S.o Δ,st.S.nx+1⟩:=by
 unfold Ia at h
 simp only[gK,kS,Nat.cj]at h
 have hr:=hr _ h
 simp only[RO.to,St.S,gC,ij]at hr
 exact hr
theorem Np(aU:P.follows .mixedOrders=true)(bU:∀g,(bu g).Ok P g){rec:cP}(a7:dz P rec){st:St}{o:bw}{kr:RO->Option dq}{a:dq}(h:Wv P bu md rec st o kr=some a){K:S->Prop}{X:V->S->Prop}(hr:∀r,kr r=some a->r.to K X):DX P st.S o X K:=by
 have cr:∀r,Tu st o.dst kr r=some a->r.to (fun v o' nx'=>K ⟨aQ st.S.env o.dst v,o',nx'⟩) (fun v o' nx'=>X v ⟨st.S.env,o',nx'⟩):=by
  intro r hx
  unfold Tu at hx
  split at hx
  ·simp only[gK,Nat.cj]at hx
   have hr:=hr _ hx
   simp only[RO.to,St.S,gC]at hr
   exact hr
  ·exact hr _ hx
 unfold Wv at h
 unfold DX
 cases e8:o.op
 case call c=>
  rw[e8]at h
  have h:FF c P bu md rec st o kr=some a:=h
  unfold FF at h
  cases hf:c.callee
  case value f=>
   simp only[hf]at h|-
   split at h
   ·rename_i g first cap hv
    simp only[hv]
    have:=yh aU bU a7 h cr
    rcases this with⟨ds,dM,hP⟩|hC
    ·have Nq:bD st.S.o (first++List.map st.S.ev c.args.toList++cap)=some ds:=dM
     simp only[Nq]
     exact .inl hP
    ·split
     ·exact .inr (.inl hC)
     ·exact .inl hC
   ·rename_i id hv
    simp only[hv]
    exact Ib aU a7 h cr
   ·cases h
  case invoke r m=>
   simp only[hf]at h|-
   split at h
   ·rename_i g y hv
    simp only[hv]
    exact yh aU bU a7 h cr
   ·cases h
  all_goals
   simp only[hf]at h|-
   have:=rO h hr
   rw[e8]at this
   exact this
 case panic x=>
  rw[e8]at h
  have h:Nl x P bu md rec st o kr=some a:=h
  unfold Nl at h
  split at h
  ·rename_i hv;simp only[hv];exact hr _ h
  ·rename_i hv;simp only[hv];exact hr _ h
  ·cases h
 case next x str=>
  rw[e8]at h
  have h:FH x str P bu md rec st o kr=some a:=h
  unfold FH at h
  have hl:lZ st.S.o (st.S.ev x)=lZ st.o.get (st.S.ev x):=rfl
  simp only[hl]
  split at h
  ·rename_i id l aq
   simp only[aq]
   cases str with
   |true=>cases h
   |false=>
    refine⟨rfl,fun e=> ?_,fun i k y e=> ?_⟩
    ·subst e
     exact BQ h hr
    ·cases l with
     |nil=>simp at e
     |cons p l=>
      have:=FG h i (List.getElem?_eq_some_iff.1 e).1
      rw[e]at this
      exact BQ this hr
  ·rename_i aq
   simp only[aq]
   have:=rO h hr
   rw[e8]at this
   exact this
 all_goals
  have h2:ui P st o kr=some a:=by rw[e8]at h;exact h
  have:=rO h2 hr
  rw[e8]at this
  exact this
theorem qz(aU:P.follows .mixedOrders=true)(bU:∀g,(bu g).Ok P g){rec:cP}(a7:dz P rec){kr:RO->Option dq}{a:dq}{K:S->Prop}{X:V->S->Prop}(hr:∀r,kr r=some a->r.to K X):∀ (l:List bw) (st:St),vM P bu md rec kr l st=some a->mA P X K l st.S
 |[],st,h=>hr (.ok st) h
 |o::l,st,h=>by
  simp only[vM,gK,Nat.cj]at h
  simp only[mA]
  have op:Wv P bu md rec st o (roK (vM P bu md rec kr l) kr)=some a->DX P st.S o X (mA P X K l):=by
   intro h
   refine Np aU bU a7 h fun r hrr=> ?_
   cases r with
   |ok Nr=>exact qz aU bU a7 hr l Nr hrr
   |bf v Nr=>exact hr (.bf v Nr) hrr
  have sk:vM P bu md rec kr l ⟨pQ st.env o.dst (.bC []),st.o,st.nx+1⟩=some a->mA P X K l ⟨aQ st.S.env o.dst (.bC []),st.S.o,st.S.nx+1⟩:=by
   intro h
   have:=qz aU bU a7 hr l _ h
   exact Eo
  cases hg:o.gd with
  |none=>simp only[hg]at h;exact op h
  |some p=>
   obtain⟨d,want⟩:=p
   simp only[hg]at h
   have he:st.S.env d=st.env.get d:=rfl
   simp only[he]
   cases hv:st.env.get d with
   |d x=>
    cases x with
    |bool b=>
     simp only[hv]at h|-
     by_cases e:b=want
     ·subst e
      simp only[beq_self_eq_true]at h
      rw[if_pos rfl];exact op h
     ·have:(b==want)=false:=by simpa using e
      rw[this]at h
      rw[if_neg e];exact sk h
    |_=>simp[hv]at h
   |bC vs=>
    cases vs with
    |nil=>simp only[hv]at h|-;exact sk h
    |cons a bF=>simp[hv]at h
   |_=>simp[hv]at h
end
end
section
mutual
def V.same:V->V->Bool
 | .d x, .d y=>x.same y
 | .a8, .a8=>true
 | .ab, .ab=>true
 | .agg a, .agg b=>V.ez a b
 | .ptr i o, .ptr j p=>Nat.beq i j&&Nat.beq o p
 | .osl i o, .osl j p=>Nat.beq i j&&Nat.beq o p
 | .oj a, .oj b=>D.ez a b
 | .iface t x, .iface u y=>Nat.beq t u&&x.same y
 | .mp i, .mp j=>Nat.beq i j
 |_,_=>false
def V.ez:List V->List V->Bool
 |[],[]=>true
 |a::bF,b::bs=>a.same b&&V.ez bF bs
 |_,_=>false
end
mutual
theorem V.dh:∀ (x y:V),x.same y=true->x=y
 | .d x,y,h=>by cases y<;>simp only[V.same,Bool.false_eq_true]at h;rw[D.dh _ _ h]
 | .a8,y,h=>by cases y<;>simp_all[V.same]
 | .ab,y,h=>by cases y<;>simp_all[V.same]
 | .agg a,y,h=>by cases y<;>simp only[V.same,Bool.false_eq_true]at h;rw[V.cR _ _ h]
 | .ptr i o,y,h=>by
   exact Rw
 | .osl i o,y,h=>by
   exact Rw
 | .oj a,y,h=>by cases y<;>simp only[V.same,Bool.false_eq_true]at h;rw[D.cR _ _ h]
 | .iface t x,y,h=>by
   cases y<;>simp only[V.same,Bool.false_eq_true,Bool.and_eq_true]at h
   rw[Nat.eq_of_beq_eq_true h.1,V.dh _ _ h.2]
 | .mp i,y,h=>by
   cases y<;>simp only[V.same,Bool.false_eq_true]at h
   rw[Nat.eq_of_beq_eq_true h]
 | .bC _,y,h| .pe _ _ _ _ _,y,h| .pp _ _,y,h| .func _ _ _,y,h| .tu _ _ _,y,h| .ek,y,h| .jc _,y,h=>by simp[V.same]at h
theorem V.cR:∀ (x y:List V),V.ez x y=true->x=y
 |[],y,h=>by cases y<;>simp_all[V.ez]
 |a::bF,y,h=>by
  cases y<;>simp only[V.ez,Bool.false_eq_true,Bool.and_eq_true]at h
  rw[V.dh _ _ h.1,V.cR _ _ h.2]
end
def rP:List (D×D)->List (D×D)->Bool
 |[],[]=>true
 |(a,b)::l,(c,d)::m=>a.same c&&(b.same d&&rP l m)
 |_,_=>false
theorem rQ:∀ (l m:List (D×D)),rP l m=true->l=m
 |[],m,h=>by cases m<;>simp_all[rP]
 |(a,b)::l,m,h=>by
  cases m with
  |nil=>simp[rP]at h
  |cons p m=>
   obtain⟨c,d⟩:=p
   simp only[rP,Bool.and_eq_true]at h
   rw[D.dh _ _ h.1,D.dh _ _ h.2.1,rQ l m h.2.2]
noncomputable def aa.same:aa->aa->Bool
 | .no, .no=>true
 | .row a, .row b=>V.ez a b
 | .arr e t s a, .arr f u r b=>Nat.beq e f&&Nat.beq t u&&Nat.beq s r&&D.ez a b
 | .qo e a, .qo f b=>Nat.beq e f&&D.ez a b
 | .map k v a, .map k' v' b=>Nat.beq k k'&&Nat.beq v v'&&rP a b
 | .cO a, .cO b=>rP a b
 | .uP a i, .uP b j=>a==b&&Nat.beq i j
 |_,_=>false
theorem aa.dh {x y:aa}(h:x.same y=true):x=y:=by
 cases x<;>cases y<;>simp only[aa.same,Bool.false_eq_true,Bool.and_eq_true]at h
 ·rfl
 ·rw[V.cR _ _ h]
 ·rw[Nat.eq_of_beq_eq_true h.1.1.1,Nat.eq_of_beq_eq_true h.1.1.2,Nat.eq_of_beq_eq_true h.1.2,D.cR _ _ h.2]
 ·rw[Nat.eq_of_beq_eq_true h.1,D.cR _ _ h.2]
 ·rw[Nat.eq_of_beq_eq_true h.1.1,Nat.eq_of_beq_eq_true h.1.2,rQ _ _ h.2]
 ·rw[rQ _ _ h]
 ·rw[eq_of_beq h.1,Nat.eq_of_beq_eq_true h.2]
noncomputable def reach(o:Nat->aa):Nat->List Nat->List Nat->List Nat
 |0,_,seen=>seen
 |_+1,[],seen=>seen
 |n+1,id::todo,seen=>match seen.contains id with
  |true=>reach o n todo seen
  |false=>reach o n ((o id).refs++todo) (id::seen)
noncomputable def dD(o o1:Nat->aa):List Nat->List (Nat×aa)
 |[]=>[]
 |id::l=>match(o id).same (o1 id)with
  |true=>dD o o1 l
  |false=>(id,o1 id)::dD o o1 l
theorem fS{o o1:Nat->aa}:∀ (l:List Nat) (x:Nat×aa),x∈dD o o1 l->x.1∈l/\x.2=o1 x.1
 |[],x,h=>by simp[dD]at h
 |id::l,x,h=>by
  simp only[dD]at h
  split at h
  ·obtain⟨h1,h2⟩:=fS l x h;exact⟨List.mem_cons_of_mem _ h1,h2⟩
  ·rcases List.mem_cons.1 h with rfl|h
   ·exact⟨aK,rfl⟩
   ·obtain⟨h1,h2⟩:=fS l x h;exact⟨List.mem_cons_of_mem _ h1,h2⟩
theorem kU{o o1:Nat->aa}:∀ (l:List Nat) (id:Nat),id∈l->id∉(dD o o1 l).map (·.1)->o1 id=o id
 |[],id,h,_=>by simp at h
 |j::l,id,h,hn=>by
  simp only[dD]at hn
  split at hn
  ·rename_i hs
   rcases List.mem_cons.1 h with rfl|h
   ·exact(aa.dh hs).symm
   ·exact kU l id h hn
  ·simp only[List.map_cons,List.mem_cons,not_or]at hn
   rcases List.mem_cons.1 h with rfl|h
   ·exact absurd rfl hn.1
   ·exact kU l id h hn.2
theorem yi{o1:Nat->aa}:∀ (Δ:List (Nat×aa)) (o:Nat->aa),(∀x∈Δ,x.2=o1 x.1)->∀id,id∈Δ.map (·.1)\/o id=o1 id->put o Δ id=o1 id
 |[],o,_,id,h=>by rcases h with h|h;· simp at h
                  ·exact h
 |x::Δ,o,hv,id,h=>by
  simp only[put,List.foldl_cons]
  refine yi Δ (aM o x.1 x.2) (fun y hy=>hv y (List.mem_cons_of_mem _ hy)) id ?_
  simp only[List.map_cons,List.mem_cons]at h
  simp only[aC]
  by_cases e:id=x.1
  ·right;rw[if_pos e,hv x (by simp),e]
  ·rcases h with(h|h)|h
   ·exact absurd h e
   ·exact .inl h
   ·right;rw[if_neg e];exact h
theorem pR{o o1:Nat->aa}{l:List Nat}{id:Nat}(h:id∈l):o1 id=put o (dD o o1 l) id:=by
 by_cases hm:id∈(dD o o1 l).map (·.1)
 ·exact(yi _ o (fun x hx=>(fS l x hx).2) id (.inl hm)).symm
 ·rw[eE hm];exact kU l id h hm
inductive DR where
 |val (v:V) (Δ:List (Nat×aa)) (rd:List Nat)|bf (v:V) (ws rd:List Nat)
def DR.to (K:V->List (Nat×aa)->List Nat->Prop)(KX:V->List Nat->List Nat->Prop):DR->Prop
 | .val v Δ rd=>K v Δ rd
 | .bf v ws rd=>KX v ws rd
noncomputable def Tw(c:CR):Option dq:=some (.c c)
noncomputable def hX(P:Program)(bu:Nat->FD)(rec:cP)(g:Nat)(args:List V)(st:St):Option DR:=
 let rd:=reach st.o.get 2000 (V.aO args) []
 match rd.all (fun id=>Nat.blt id st.nx&&(st.o.get id).refs.all rd.contains)&&(V.aO args).all rd.contains with
 |true=>match Fz P bu rec g args (.e (JX rd st.o.get)) st.nx Tw with
  |some (.c (.ret v o1 _))=>match v with
   | .bC [_]=>none
   |v=>match bD o1.get (rN v)with
    |some rs=>match(dD st.o.get o1.get rd).all (fun x=>x.2.refs.all rd.contains)&&(V.aV (rN v)).all (fun id=> !rd.contains id)with
     |true=>some (.val (gY rs) (dD st.o.get o1.get rd) rd)
     |false=>none
    |none=>none
  |some (.c (.bf v o1 _))=>match du o1.get v with
   |some x=>match(dD st.o.get o1.get rd).all (fun x=>x.2.refs.all rd.contains)&&v.ids.all (fun id=> !rd.contains id)with
    |true=>some (.bf (.d x) ((dD st.o.get o1.get rd).map (·.1)) rd)
    |false=>none
   |none=>none
  |_=>none
 |false=>none
noncomputable def Wx(P:Program)(bu:Nat->FD)(md:nJ P)(rec:cP)(g:Nat)(args:List V)(st:St)(rd:List Nat):Option DR:=
 match bD st.o.get args with
 |some ds=>match md.Tt g with
  |false=>match Fz P bu rec g (ds.map .d) (.e fun _=> .no) 0 Tw with
   |some (.c (.ret v _ _))=>match v.refs with
    |[]=>some (.val v (cq st.o.get (V.aV args)) rd)
    |_=>none
   |_=>none
  |true=>match H9 P bu md rec g ds with
   |some (.ret rs)=>match D.gX rs with
    |true=>some (.val (gY rs) [] rd)
    |false=>some (.val (gY rs) (cq st.o.get (V.aV args)) rd)
   |some (.bf x)=>match x.flat with
    |true=>some (.bf (.d x) [] rd)
    |false=>none
   |none=>none
 |none=>hX P bu rec g args st
noncomputable def Wy(P:Program)(st:St)(fr:Nat)(op:Op):Option DR:=
 match H8 op P st.S fr with
 |some (v,Δ,_)=>some (.val v Δ (lQ st.S op))
 |none=>none
def V.Yo:V->Bool
 | .mp _=>true
 |_=>false
def Ns{P:Program}(md:nJ P)(g:Nat)(args:List V):Bool:= !md.Tt g&&args.any V.Yo
def uj(args:List V):Option (List D):=
 match V.aV args with
 |[]=>bD (fun _=> .no) args
 |_=>none
noncomputable def Ic(P:Program)(t:TypeId)(c:CR):Option dq:=
 match c with
 | .ret v o1 _=>match v with
   | .osl j ep=>match o1.get j with
     | .arr fK ty sz es=>match Nat.beq fK ep with
       |true=>Ts (.ret [.sl es, .int .i64 (ty:Nat), .int .i64 (sz:Nat)]) fun x=>some (.r x)
       |false=>none
     |_=>none
   | .a8=>match bJ P t with
     |some e=>match Nat.blt 0 (P.cellsOf e)with
      |true=>Ts (.ret [.sl [], .int .i64 (e:Nat), .int .i64 (P.cellsOf e:Nat)]) fun x=>some (.r x)
      |false=>none
     |none=>none
   |_=>none
 |_=>none
noncomputable def Nu(P:Program)(bu:Nat->FD)(rec:cP)(g:Nat)(t:TypeId)(args:List V)(st:St)(fr:Nat):Option DR:=
 match uj args with
 |some ds=>match Fz P bu rec g (ds.map .d) (.e fun _=> .no) 0 (Ic P t)with
  |some (.r (.ret [.sl es, .int .i64 (.ofNat ty), .int .i64 (.ofNat sz)]))=>some (.val (.osl fr 0) [(fr, .arr 0 ty sz es)] [])
  |_=>none
 |none=>match bD st.o.get args with
  |some ds=>match Fz P bu rec g (ds.map .d) (.e fun _=> .no) 0 (Ic P t)with
   |some (.r (.ret [.sl es, .int .i64 (.ofNat ty), .int .i64 (.ofNat sz)]))=>match D.gX es&&(V.aV args).all (fun id=>Nat.blt id st.nx)with
    |true=>some (.val (.osl fr 0) [(fr, .arr 0 ty sz es)] (V.aV args))
    |false=>none
   |_=>none
  |none=>none
noncomputable def Ie(P:Program)(bu:Nat->FD)(md:nJ P)(rec:cP)(st:St)(fr:Nat)(op:Op):Option DR:=
 match op with
 | .call c=>match c.callee with
   | .value f=>match st.S.ev f with
     | .func (.func g) first cap=>match Ns md g (first++c.args.toList.map st.S.ev++cap)with
       |true=>hX P bu rec g (first++c.args.toList.map st.S.ev++cap) st
       |false=>match Wx P bu md rec g (first++c.args.toList.map st.S.ev++cap) st (lQ st.S (.call c))with
        |some r=>some r
        |none=>Nu P bu rec g (c.argTypes.getD 0 0) (first++c.args.toList.map st.S.ev++cap) st fr
     |_=>none
   |_=>Wy P st fr (.call c)
 |op=>Wy P st fr op
noncomputable def Tx(st:St):Option (Nat×Bool)->Option Bool
 |none=>some true
 |some (d,want)=>match st.env.get d with
  | .d (.bool b)=>some (b==want)
  | .bC []=>some false
  |_=>none
noncomputable def rR(P:Program)(bu:Nat->FD)(md:nJ P)(rec:cP)(pr:List (List Nat)):List bw->Nat->St->Fp->List Nat->List Nat->Option (List Nat×Fp)
 |[],_,_,fp,_,ws=>some (ws,fp)
 |o::l,fr,st,fp,bad,ws=>match(pr.getD fp.length []).any (fun j=>bad.contains j)with
  |true=>rR P bu md rec pr l (fr+1) ⟨pQ st.env o.dst .ab,st.o,st.nx⟩ (fp++[([],[])]) (bad++[fp.length]) ws
  |false=>match Tx st o.gd with
   |some true=>match Ie P bu md rec st fr o.op with
    |some (.val v Δ rd)=>jN st.env o.dst v fun e=>rM st.o Δ fun ob=>rR P bu md rec pr l (fr+1) ⟨e,ob,st.nx⟩ (fp++[(rd,Δ.map (·.1))]) bad (ws++Δ.map (·.1))
    |_=>none
   |some false=>rR P bu md rec pr l (fr+1) ⟨pQ st.env o.dst (.bC []),st.o,st.nx⟩ (fp++[([],[])]) bad ws
   |none=>none
inductive DQ where
 |fin (st:St) (fp:Fp)|bf (v:V) (wl:List Nat) (fp:Fp)
noncomputable def rS(P:Program)(bu:Nat->FD)(md:nJ P)(rec:cP)(pr:List (List Nat)):List bw->Nat->St->Fp->Option DQ
 |[],_,st,fp=>some (.fin st fp)
 |o::l,fr,st,fp=>match Tx st o.gd with
  |some true=>match Ie P bu md rec st fr o.op with
   |some (.val v Δ rd)=>jN st.env o.dst v fun e=>rM st.o Δ fun ob=>Nat.fc (fr+1) fun fr=>rS P bu md rec pr l fr ⟨e,ob,st.nx⟩ (fp++[(rd,Δ.map (·.1))])
   |some (.bf v ws rd)=>match rR P bu md rec pr l (fr+1) ⟨pQ st.env o.dst .ab,st.o,st.nx⟩ (fp++[(rd,[])]) [fp.length] (ws++fp.flatMap (·.2))with
    |some (wl,fp)=>some (.bf v wl fp)
    |none=>none
   |none=>none
  |some false=>jN st.env o.dst (.bC []) fun e=>Nat.fc (fr+1) fun fr=>rS P bu md rec pr l fr ⟨e,st.o,st.nx⟩ (fp++[([],[])])
  |none=>none
noncomputable def quiet(fp:Fp):Bool:=fp.all fun x=>match x.2 with|[]=>true|_=>false
noncomputable def vO(m:Nat)(x:List Nat×List Nat):Nat->Fp->Bool
 |_,[]=>true
 |i,y::l=>(match y.2,x.2 with
  |[],[]=>true
  |_,_=>m.testBit i||(kn y.2 x.1&&kn y.2 x.2&&kn x.2 y.1))&&vO m x (i+1) l
noncomputable def BR(ms:List Nat)(pre:Fp):Nat->Fp->Bool
 |_,[]=>true
 |j,x::l=>vO (ms.getD j 0) x 0 pre&&BR ms (pre++[x]) (j+1) l
noncomputable def Ty{β:Type}:List Nat->(List Nat->β)->β
 |[],c=>c []
 |x::xs,c=>Nat.fc x fun x=>Ty xs fun xs=>c (x::xs)
theorem FK{β:Type}:∀ (x:List Nat) (c:List Nat->β),Ty x c=c x
 |[],c=>rfl
 |x::xs,c=>by simp only[Ty,Nat.cj,FK xs]
noncomputable def Ig{β:Type}:Fp->(Fp->β)->β
 |[],c=>c []
 |(a,b)::l,c=>Ty a fun a=>Ty b fun b=>Ig l fun l=>c ((a,b)::l)
theorem BS{β:Type}:∀ (x:Fp) (c:Fp->β),Ig x c=c x
 |[],c=>rfl
 |(a,b)::l,c=>by simp only[Ig,FK,BS l]
noncomputable def FL(pr:List (List Nat))(fp:Fp):Bool:=match quiet fp with|true=>true|false=>Ig fp fun fp=>BR (dA pr []) [] 0 fp
theorem uk{m:Nat}{x:List Nat×List Nat}:∀ (l:Fp) (i:Nat),vO m x i l=true->∀k,k<l.length->(m.testBit (i+k)||(kn (l.getD k ([],[])).2 x.1&&kn (l.getD k ([],[])).2 x.2&&kn x.2 (l.getD k ([],[])).1))=true
 |[],i,_,k,hk=>by simp at hk
 |y::l,i,h,k,hk=>by
  simp only[vO,Bool.and_eq_true]at h
  cases k with
  |zero=>
   have h1:=h.1
   simp only[List.getD_cons_zero,Nat.add_zero]
   split at h1
   ·rename_i e1 e2
    rw[e1,e2];simp[kn]
   ·exact h1
  |succ k=>
   have:=uk l (i+1) h.2 k (by simpa using hk)
   rw[List.getD_cons_succ,show i+(k+1)=i+1+k by omega]
   exact this
theorem yj{ms:List Nat}:∀ (l pre:Fp),BR ms pre pre.length l=true->∀j,pre.length<=j->j<(pre++l).length->∀i,i<j->
 ((ms.getD j 0).testBit i||(kn ((pre++l).getD i ([],[])).2 ((pre++l).getD j ([],[])).1&&kn ((pre++l).getD i ([],[])).2 ((pre++l).getD j ([],[])).2&&kn ((pre++l).getD j ([],[])).2 ((pre++l).getD i ([],[])).1))=true
 |[],pre,_,j,h1,h2,i,_=>by simp at h2;omega
 |x::l,pre,h,j,h1,h2,i,hi=>by
  simp only[BR,Bool.and_eq_true]at h
  by_cases e:j=pre.length
  ·subst e
   have:=uk pre 0 h.1 i hi
   have e1:(pre++x::l).getD pre.length ([],[])=x:=by simp[List.getD_eq_getElem?_getD]
   have e2:(pre++x::l).getD i ([],[])=pre.getD i ([],[]):=by simp[List.getD_eq_getElem?_getD,List.getElem?_append_left hi]
   rw[e1,e2]
   simpa using this
  ·have h3:=h.2
   have:=yj l (pre++[x]) (by simpa using h3) j tt tl i hi
   simpa using this
noncomputable def Nv(P:Program)(bu:Nat->FD)(md:nJ P)(rec:cP)(l:List bw)(pr:List (List Nat))(st:St):Option (eM×St):=
 match rS P bu md rec pr l st.nx st []with
 |some (.fin s1 fp)=>match FL pr fp with
  |true=>Nat.fc (st.nx+l.length) fun n=>some (.normal,⟨s1.env,s1.o,n⟩)
  |false=>none
 |some (.bf v wl fp)=>match FL pr fp with
  |true=>some (.bf v,⟨.e (rr (dstsOf l) wl l.length st.S).env, .e (rr (dstsOf l) wl l.length st.S).o,st.nx+l.length⟩)
  |false=>none
 |none=>none
noncomputable def Tz(id:Nat)(env:Tr V)(kt:Kt)(c:CR):Option dq:=
 match c with
 | .ret _ o1 wF=>match o1.get id with
   | .loop nf m e p c d Wz pd=>match Wz with
     | .busy=>none
     |_=>match pd with
      |none=>kt .normal ⟨env,o1.set id (.loop nf m e p c d .exhausted pd),wF⟩
      |some .ret=>kt .ret ⟨env,o1.set id (.loop nf m e p c d .exhausted pd),wF⟩
      |some (.exit j)=>kt (.exit j) ⟨env,o1.set id (.loop nf m e p c d .exhausted pd),wF⟩
   |_=>none
 | .bf v o1 wF=>kt (.bf v) ⟨env,o1,wF⟩
noncomputable def Ih(P:Program)(bu:Nat->FD)(rec:cP)(n:Nat)(g:Operand)(ps:List Nat)(x y:IC)(st:St)(kt:Kt):Option dq:=
 match st.S.ev g with
 | .func (.func f) first cap=>Fz P bu rec f (first++[.jc st.nx]++cap) (st.o.set st.nx (.loop P.funcs.size n ((List.range n).map st.env.get) ps x y .ready none)) (st.nx+1) (Tz st.nx st.env kt)
 |_=>none
abbrev l8:=(P:Program)->(Nat->FD)->nJ P->cP->Nat->Bool->Nat->St->Kt->Option dq
noncomputable def Yp(kt:Kt):RO->Option dq:=fun r=>match r with| .ok st=>kt .normal st| .bf v st=>kt (.bf v) st
noncomputable def Yq(l:List bw):l8:=fun P bu md rec _ _ _ st kt=>vM P bu md rec (Yp kt) l st
def um:List Nat->Nat->Nat->Nat
 |[],_,c=>c
 |x::l,k,c=>match Nat.beq x (2^k - 1)with
  |true=>um l (k+1) c
  |false=>um l (k+1) (k+1)
def nK(pr:List (List Nat)):Nat:=um (dA pr []) 0 0
noncomputable def Nw(l:List bw)(pr:List (List Nat)):l8:=fun P bu md rec _ _ _ st kt=>
 Nat.fc (nK pr) fun m=>match rS P bu md rec pr (l.take m) st.nx st []with
 |some (.fin s1 fp)=>match FL pr fp with
  |true=>Nat.fc (st.nx+m) fun n=>match Nat.ble m l.length with
   |true=>vM P bu md rec (Yp kt) (l.drop m) ⟨s1.env,s1.o,n⟩
   |false=>none
  |false=>none
 |some (.bf _ _ _)=>match Nv P bu md rec l pr st with
  |some (e,s1)=>kt e s1
  |none=>none
 |none=>none
noncomputable def Ag(rec:cP)(b:Nat)(rd:Bool)(n:Nat)(y:IC)(kt:Kt):Kt:=fun e s1=>match e with| .normal=>rec b rd n y s1 kt|e=>kt e s1
noncomputable def Yr(x y:IC):l8:=fun _ _ _ rec b rd n st kt=>rec b rd n x st (Ag rec b rd n y kt)
noncomputable def BT(a c:Option dq):Option dq:=
 match a with
 |some (.r x)=>match c with
  |some (.r y)=>match R.same x y with
   |true=>some (.r x)
   |false=>none
  |_=>none
 |_=>none
noncomputable def TA(c:Operand)(x y:IC):l8:=fun _ _ _ rec b rd n st kt=>match st.S.ev c with
 | .d (.bool true)=>rec b rd n x st kt
 | .d (.bool false)=>rec b rd n y st kt
 | .ek=>BT (rec b rd n x st kt) (rec b rd n y st kt)
 |_=>none
noncomputable def Ah(id:Nat)(kt:Kt):Kt:=fun e s1=>match e with
 | .exit j=>match Nat.beq j id with
   |true=>kt .normal s1
   |false=>kt (.exit j) s1
 |e=>kt e s1
noncomputable def Nx(id:Nat)(x:IC):l8:=fun _ _ _ rec b rd n st kt=>rec b rd n x st (Ah id kt)
noncomputable def TC(x:IC):l8:=fun _ _ _ rec b rd n st kt=>match Nat.ble b st.nx with
 |true=>rec b rd n x st (Ag rec b rd n (.loop x) kt)
 |false=>none
noncomputable def Ny(e:eM):l8:=fun _ _ _ _ _ _ _ st kt=>kt e st
noncomputable def Ys:l8:=fun _ _ _ _ _ _ _ _ _=>none
noncomputable def Yt(g:Operand)(ps:List Nat)(x y:IC):l8:=fun P bu _ rec _ rd n st kt=>match rd with
 |true=>none
 |false=>Ih P bu rec n g ps x y st kt
noncomputable def Ku(ic:IC):l8:=
 match ic with
 | .skip=>Ny .normal
 | .ad l=>Yq l
 | .c0 l pr=>Nw l pr
 | .seq x y=>Yr x y
 | .cond c x y=>TA c x y
 | .block id x=>Nx id x
 | .loop x=>TC x
 | .exit id=>Ny (.exit id)
 | .ret=>Ny .ret
 | .DL g ps x y=>Yt g ps x y
 | .bad=>Ys
noncomputable def run(P:Program)(bu:Nat->FD)(md:nJ P)(k:Nat):cP:=
 Nat.rec (motive:=fun _=>cP) (fun _ _ _ _ _ _=>none) (fun _ rec b rd n ic st kt=>Ku ic P bu md rec b rd n st kt) k
theorem FM{P:Program}{bu:Nat->FD}{md:nJ P}{k:Nat}:run P bu md (k+1)=fun b rd n ic st kt=>Ku ic P bu md (run P bu md k) b rd n st kt:=rfl
section
variable {P:Program}{bu:Nat->FD}{md:nJ P}
theorem Kv(aU:P.follows .mixedOrders=true)(bU:∀g,(bu g).Ok P g){rec:cP}(a7:dz P rec){fr:Nat}{g:Nat}{args:List V}{st:St}{r:DR}(h:hX P bu rec g args st=some r){K:V->List (Nat×aa)->List Nat->Prop}{KX:V->List Nat->List Nat->Prop}(hr:r.to K KX):
 gf P g args st.S.o st.S.nx fr K KX:=by
 unfold hX at h
 simp only at h
 generalize me:reach st.o.get 2000 (V.aO args) []=rd at h
 split at h
 ·rename_i hc
  simp only[Bool.and_eq_true,List.all_eq_true]at hc
  obtain⟨hc1,qX⟩:=hc
  have a1:∀id∈rd,id<st.nx:=fun id aq=>Nat.le_of_ble_eq_true (hc1 id aq).1
  have a2:∀id∈V.aO args,id∈rd:=fun id aq=>by simpa using qX id aq
  have a3:∀id∈rd,∀j∈(st.o.get id).refs,j∈rd:=fun id aq j hj=>by simpa using(hc1 id aq).2 j hj
  have a0:rd.all (fun id=>decide (id<st.S.nx))=true:=List.all_eq_true.2 fun id aq=>decide_eq_true (a1 id aq)
  have key:∀ {r:CR} {a:CR},Tw r=some (.c a)->r=a:=fun h=>by unfold Tw at h;injection h with h;injection h
  split at h
  ·rename_i v o1 wF hf
   split at h
   ·cases h
   ·rename_i v' mQ
    split at h
    ·rename_i rs R7
     split at h
     ·rename_i Nz
      injection h with h;subst h
      simp only[Bool.and_eq_true,List.all_eq_true]at Nz
      refine⟨rd,_,a0, .inl ⟨rs,E5.mz a1 a2 a3 (fun x hx=>(fS rd x hx).1) (fun x hx j hj=>by simpa using Nz.1 x hx j hj) (kT aU bU a7 hf fun r u0=> ?_),hr⟩⟩
      rw[key u0]
      refine⟨fun id aq=>pR aq,rN v,rs, ?_,R7,rfl,fun id aq=>by simpa using Nz.2 id aq⟩
      cases v with
      |bC vs=>
       match vs,mQ with
       |[],_=>rfl
       |[x],hv=>exact absurd rfl (hv x)
       |_::_::_,_=>rfl
      |_=>rfl
     ·cases h
    ·cases h
  ·rename_i v o1 wF hf
   split at h
   ·rename_i x hx
    split at h
    ·rename_i Nz
     injection h with h;subst h
     simp only[Bool.and_eq_true,List.all_eq_true]at Nz
     refine⟨rd,dD st.o.get o1.get rd,a0, .inr (.inl ⟨x,E5.mz a1 a2 a3 (fun x hx=>(fS rd x hx).1) (fun x hx j hj=>by simpa using Nz.1 x hx j hj) (kT aU bU a7 hf fun r u0=> ?_),hr⟩)⟩
     rw[key u0]
     exact⟨fun id aq=>pR aq,x,hx,rfl,fun id aq=>by simpa using Nz.2 id aq⟩
    ·cases h
   ·cases h
  ·cases h
 ·cases h
theorem NA(aU:P.follows .mixedOrders=true)(bU:∀g,(bu g).Ok P g){rec:cP}(a7:dz P rec){g:Nat}{args:List V}{st:St}{rd:List Nat}{ds:List D}(dM:bD st.o.get args=some ds){r:DR}(h:Wx P bu md rec g args st rd=some r)
 {K:V->List (Nat×aa)->List Nat->Prop} {KX:V->List Nat->List Nat->Prop} (hr:r.to K KX):
 pO P g ds (fun v=>K v (cq st.S.o (V.aV args)) rd) (fun v=>K v [] rd) (fun v=>KX v [] rd):=by
 unfold Wx at h
 simp only[dM]at h
 split at h
 ·split at h
  ·rename_i v o1 wF TD
   split at h
   ·rename_i hrf
    injection h with h;subst h
    exact .inr (.inr ⟨v,Sr.mz hrf (kT aU bU a7 TD fun r u0=>by unfold Tw at u0;injection u0 with u0;injection u0 with u0;rw[u0];exact rfl),hr⟩)
   ·cases h
  ·cases h
 ·split at h
  ·rename_i rs FJ
   have hP:=vN aU bU a7 FJ
   split at h
   ·rename_i hf
    injection h with h;subst h
    exact .inl ⟨rs,hP, .inr ⟨hf,hr⟩⟩
   ·injection h with h;subst h
    exact .inl ⟨rs,hP, .inl hr⟩
  ·rename_i x FJ
   have hP:=vN aU bU a7 FJ
   split at h
   ·rename_i hf
    injection h with h;subst h
    exact .inr (.inl ⟨x,hP,hf,hr⟩)
   ·cases h
  ·cases h
theorem BU{t ty:TypeId}{sz:Nat}{es:List D}{r:CR}(h:Ic P t r=some (.r (.ret [.sl es, .int .i64 (.ofNat ty), .int .i64 (.ofNat sz)]))):
 r.to (fun v o1 _=>(∃j ep,v= .osl j ep/\o1 j= .arr ep ty sz es)\/(v= .a8/\es=[]/\0<sz)) (fun _ _ _=>False):=by
 unfold Ic at h
 split at h
 ·rename_i v o1 n1
  split at h
  ·rename_i j ep
   split at h
   ·rename_i fK ty' om es' ho
    split at h
    ·rename_i he
     have he:=Nat.eq_of_beq_eq_true he
     subst he
     rw[Af]at h
     simp only[Option.some.injEq,dq.r.injEq,R.ret.injEq,List.cons.injEq,D.sl.injEq,D.int.injEq,true_and,and_true]at h
     obtain⟨rfl,h2,h3⟩:=h
     have h2:ty'=ty:=Int.ofNat.inj h2
     have h3:om=sz:=Int.ofNat.inj h3
     subst h2;subst h3
     exact .inl ⟨j,fK,rfl,ho⟩
    ·cases h
   ·cases h
  ·split at h
   ·rename_i e he
    split at h
    ·rename_i hp
     rw[Af]at h
     simp only[Option.some.injEq,dq.r.injEq,R.ret.injEq,List.cons.injEq,D.sl.injEq,D.int.injEq,true_and,and_true]at h
     obtain⟨rfl,h2,h3⟩:=h
     have h3:P.cellsOf e=sz:=Int.ofNat.inj h3
     subst h3
     exact .inr ⟨rfl,rfl,Nat.blt_eq.mp hp⟩
    ·cases h
   ·cases h
  ·cases h
 ·cases h
theorem Ii(aU:P.follows .mixedOrders=true)(bU:∀g,(bu g).Ok P g){rec:cP}(a7:dz P rec){fr:Nat}{g:Nat}{t:TypeId}{args:List V}{st:St}{r:DR}(h:Nu P bu rec g t args st fr=some r){K:V->List (Nat×aa)->List Nat->Prop}{KX:V->List Nat->List Nat->Prop}(hr:r.to K KX):
 gf P g args st.S.o st.S.nx fr K KX:=by
 unfold Nu at h
 split at h
 ·rename_i ds dM
  split at h
  ·rename_i es ty sz TD
   injection h with h;subst h
   unfold uj at dM
   split at dM
   ·rename_i aq
    exact⟨[],_,aK, .inr (.inr ⟨_,zS.H5 aq dM (zS.M9 (kT aU bU a7 TD fun r u0=>BU u0)),hr⟩)⟩
   ·cases dM
  ·cases h
 ·split at h
  ·rename_i ds dM
   split at h
   ·rename_i es ty sz TD
    split at h
    ·rename_i hc
     injection h with h;subst h
     simp only[Bool.and_eq_true]at hc
     refine⟨V.aV args,_, ?_, .inr (.inr ⟨_,zS.H4 dM hc.1 (kT aU bU a7 TD fun r u0=>BU u0),hr⟩)⟩
     exact List.all_eq_true.2 fun id aq=>decide_eq_true (Nat.blt_eq.mp (List.all_eq_true.1 hc.2 id aq))
    ·cases h
   ·cases h
  ·cases h
theorem vP(aU:P.follows .mixedOrders=true)(bU:∀g,(bu g).Ok P g){rec:cP}(a7:dz P rec){st:St}{fr:Nat}{o:bw}{r:DR}(h:Ie P bu md rec st fr o.op=some r){K:V->List (Nat×aa)->List Nat->Prop}{KX:V->List Nat->List Nat->Prop}(hr:r.to K KX):
 wG P st.S fr o K KX:=by
 have hs:Wy P st fr o.op=some r->(match eK P st.S fr o.op with|some (v,Δ,_)=>K v Δ (lQ st.S o.op)|none=>False):=by
  intro h
  unfold Wy at h
  split at h
  ·rename_i v Δ rd he
   injection h with h;subst h
   simp only[BK he]
   exact hr
  ·cases h
 unfold Ie at h
 unfold wG
 split at h
 ·rename_i c hc
  simp only[hc]
  split at h
  ·rename_i f hf
   simp only[hf]
   split at h
   ·rename_i g first cap hv
    simp only[hv]
    split at h
    ·have hh:=Kv aU bU a7 h hr (fr:=fr)
     split
     ·exact .inr hh
     ·exact hh
    split at h
    ·rename_i r' L8
     injection h with h;subst h
     cases dM:bD st.S.o (first++List.map st.S.ev c.args.toList++cap)with
     |some ds=>exact .inl (NA aU bU a7 dM L8 hr)
     |none=>
      have Nq:bD st.o.get (first++List.map st.S.ev c.args.toList++cap)=none:=dM
      unfold Wx at L8
      simp only[Nq]at L8
      exact Kv aU bU a7 L8 hr
    ·have hh:=Ii aU bU a7 (st:=st) h hr
     split
     ·exact .inr hh
     ·exact hh
   ·cases h
  ·rename_i dL
   rw[<- hc]at h
   have:=hs h
   rw[hc]at this
   split
   ·rename_i f hf;exact absurd hf (dL f)
   ·exact this
 ·rename_i hc
  have:=hs h
  split
  ·rename_i c hh;exact absurd hh (hc c)
  ·exact this
def WA(s:S)(gd:Option (Nat×Bool))(A B:Prop):Prop:=
 match gd with
 |none=>A
 |some (d,want)=>match s.env d with
  | .d (.bool b)=>if b=want then A else B
  | .bC []=>B
  |_=>False
theorem vQ{st:St}{gd:Option (Nat×Bool)}{t:Bool}(h:Tx st gd=some t){A B:Prop}(hA:t=true->A)(hB:t=false->B):WA st.S gd A B:=by
 cases gd with
 |none=>simp only[Tx,Option.some.injEq]at h;exact hA h.symm
 |some p=>
  obtain⟨d,want⟩:=p
  have he:st.S.env d=st.env.get d:=rfl
  simp only[Tx]at h
  simp only[WA,he]
  split at h
  ·rename_i b hb
   injection h with h
   by_cases e:b=want
   ·rw[if_pos e];exact hA (by rw[<- h,e];simp)
   ·rw[if_neg e];exact hB (by rw[<- h];simpa using e)
  ·rename_i hb
   injection h with h
   exact hB h.symm
  ·cases h
theorem Ij{P:Program}{KB:List Nat->Fp->Prop}{pr:List (List Nat)}{o:bw}{l:List bw}{fr:Nat}{s:S}{fp:Fp}{bad ws:List Nat}(hb:(pr.getD fp.length []).any (fun j=>bad.contains j)=false)
 (h:WA s o.gd (wG P s fr o (fun v Δ rd=>fq P KB pr l (fr+1) ⟨aQ s.env o.dst v,put s.o Δ,s.nx⟩ (fp++[(rd,Δ.map (·.1))]) bad (ws++Δ.map (·.1))) (fun _ _ _=>False)) (fq P KB pr l (fr+1) ⟨aQ s.env o.dst (.bC []),s.o,s.nx⟩ (fp++[([],[])]) bad ws)):
 fq P KB pr (o::l) fr s fp bad ws:=by
 simp only[fq]
 rw[if_neg (by rw[hb];simp)]
 cases hg:o.gd with
 |none=>rw[hg]at h;exact h
 |some p=>obtain⟨d,want⟩:=p;rw[hg]at h;exact h
theorem Ik{P:Program}{K:S->Fp->Prop}{KP:V->List Nat->Fp->Prop}{pr:List (List Nat)}{o:bw}{l:List bw}{fr:Nat}{s:S}{fp:Fp}
 (h:WA s o.gd (wG P s fr o (fun v Δ rd=>iW P K KP pr l (fr+1) ⟨aQ s.env o.dst v,put s.o Δ,s.nx⟩ (fp++[(rd,Δ.map (·.1))]))
  (fun v ws rd=>fq P (KP v) pr l (fr+1) ⟨aQ s.env o.dst .ab,s.o,s.nx⟩ (fp++[(rd,[])]) [fp.length] (ws++fp.flatMap (·.2)))) (iW P K KP pr l (fr+1) ⟨aQ s.env o.dst (.bC []),s.o,s.nx⟩ (fp++[([],[])]))):
 iW P K KP pr (o::l) fr s fp:=by
 simp only[iW]
 cases hg:o.gd with
 |none=>rw[hg]at h;exact h
 |some p=>obtain⟨d,want⟩:=p;rw[hg]at h;exact h
theorem nL(aU:P.follows .mixedOrders=true)(bU:∀g,(bu g).Ok P g){rec:cP}(a7:dz P rec){pr:List (List Nat)}{wl:List Nat}{Yu:Fp}{KB:List Nat->Fp->Prop}(hK:KB wl Yu):
 ∀ (l:List bw) (fr:Nat) (st:St) (fp:Fp) (bad ws:List Nat),rR P bu md rec pr l fr st fp bad ws=some (wl,Yu)->fq P KB pr l fr st.S fp bad ws
 |[],fr,st,fp,bad,ws,h=>by
  simp only[rR,Option.some.injEq,Prod.mk.injEq]at h
  obtain⟨rfl,rfl⟩:=h;exact hK
 |o::l,fr,st,fp,bad,ws,h=>by
  simp only[rR,gK,kS]at h
  split at h
  ·rename_i hb
   simp only[fq]
   rw[if_pos hb]
   have:=nL aU bU a7 hK l _ _ _ _ _ h
   exact Eo
  ·rename_i hb
   refine Ij hb ?_
   split at h
   ·rename_i hg
    refine vQ hg (fun _=> ?_) (fun h=>by cases h)
    split at h
    ·rename_i v Δ rd e8
     refine vP aU bU a7 e8 ?_
     have:=nL aU bU a7 hK l _ _ _ _ _ h
     simp only[St.S,gC,ij]at this
     exact this
    ·cases h
   ·rename_i hg
    refine vQ hg (fun h=>by cases h) (fun _=> ?_)
    have:=nL aU bU a7 hK l _ _ _ _ _ h
    exact Eo
   ·cases h
def DQ.to (K:S->Fp->Prop)(KP:V->List Nat->Fp->Prop):DQ->Prop
 | .fin st fp=>K st.S fp
 | .bf v wl fp=>KP v wl fp
theorem kV(aU:P.follows .mixedOrders=true)(bU:∀g,(bu g).Ok P g){rec:cP}(a7:dz P rec){pr:List (List Nat)}{q:DQ}{K:S->Fp->Prop}{KP:V->List Nat->Fp->Prop}(hq:q.to K KP):
 ∀ (l:List bw) (fr:Nat) (st:St) (fp:Fp),rS P bu md rec pr l fr st fp=some q->iW P K KP pr l fr st.S fp
 |[],fr,st,fp,h=>by
  simp only[rS,Option.some.injEq]at h
  subst h;exact hq
 |o::l,fr,st,fp,h=>by
  simp only[rS,gK,kS,Nat.cj]at h
  refine Ik ?_
  split at h
  ·rename_i hg
   refine vQ hg (fun _=> ?_) (fun h=>by cases h)
   split at h
   ·rename_i v Δ rd e8
    refine vP aU bU a7 e8 ?_
    have:=kV aU bU a7 hq l _ _ _ h
    simp only[St.S,gC,ij]at this
    exact this
   ·rename_i v ws rd e8
    split at h
    ·rename_i wl Yu hb
     injection h with h;subst h
     refine vP aU bU a7 e8 ?_
     have:=nL aU bU a7 (KB:=KP v) hq l _ _ _ _ _ hb
     exact Eo
    ·cases h
   ·cases h
  ·rename_i hg
   refine vQ hg (fun h=>by cases h) (fun _=> ?_)
   have:=kV aU bU a7 hq l _ _ _ h
   exact Eo
  ·cases h
theorem vR{pr:List (List Nat)}{fp:Fp}(h:FL pr fp=true):fY pr fp=true:=by
 unfold FL at h
 split at h
 ·rename_i hq
  unfold quiet at hq
  have hz:∀i,(fp.getD i ([],[])).2=[]:=by
   intro i
   rw[List.getD_eq_getElem?_getD]
   cases hx:fp[i]? with
   |none=>rfl
   |some x=>
    have:=List.all_eq_true.1 hq x (List.mem_of_getElem? hx)
    simp only[Option.getD_some]
    split at this
    ·rename_i e;exact e
    ·cases this
  unfold fY
  simp only[hz,kn,List.all_nil,Bool.and_self,Bool.or_true]
  simp
 ·rw[BS]at h
  unfold fY
  rw[List.all_eq_true]
  intro j hj
  rw[List.all_eq_true]
  intro i hi
  exact yj fp [] h j (Nat.zero_le _) ki i (by simpa using hi)
theorem rT:∀ (l:List Nat) (k c:Nat),c<=k->c<=um l k c/\∀i x,l[i]? =some x->um l k c<=k+i->x=2^(k+i) - 1
 |[],_,c,_=>⟨Nat.le_refl _,fun i x h=>by simp at h⟩
 |y::l,k,c,hc=>by
  simp only[um]
  split
  ·rename_i he
   obtain⟨h1,h2⟩:=rT l (k+1) c af
   refine⟨h1,fun i x hi hle=> ?_⟩
   cases i with
   |zero=>simp at hi;subst hi;simpa using Nat.eq_of_beq_eq_true he
   |succ i=>
    have:=h2 i x (by simpa using hi) af
    rw[this,show k+(i+1)=k+1+i by omega]
  ·obtain⟨h1,h2⟩:=rT l (k+1) (k+1) (Nat.le_refl _)
   refine⟨af,fun i x hi hle=> ?_⟩
   cases i with
   |zero=>omega
   |succ i=>
    have:=h2 i x (by simpa using hi) af
    rw[this,show k+(i+1)=k+1+i by omega]
theorem uo:∀ (pr:List (List Nat)) (acc:List Nat),(dA pr acc).length=acc.length+pr.length
 |[],acc=>by simp[dA]
 |ps::l,acc=>by simp only[dA,uo l,List.length_append,List.length_cons,List.length_nil];omega
theorem FN(pr:List (List Nat)):z7 pr (nK pr)=true:=by
 refine List.all_eq_true.2 fun k hk=> ?_
 have hk:k<pr.length:=by simpa using hk
 by_cases h:k<nK pr
 ·simp[Nat.blt_eq.mpr h]
 ·have hl:k<(dA pr []).length:=by rw[uo];simpa using hk
  have:=(rT (dA pr []) 0 0 (Nat.le_refl _)).2 k _ (List.getElem?_eq_getElem hl) (by rw[Nat.zero_add];exact Nat.le_of_not_lt h)
  rw[Nat.zero_add]at this
  rw[List.getD_eq_getElem?_getD,List.getElem?_eq_getElem hl,Option.getD_some,this]
  simp
theorem Il(aU:P.follows .mixedOrders=true)(bU:∀g,(bu g).Ok P g){rec:cP}(a7:dz P rec){l:List bw}{pr:List (List Nat)}{st st':St}{e:eM}(h:Nv P bu md rec l pr st=some (e,st')){Q:eM->S->Prop}(hQ:Q e st'.S):
 iW P (zZ pr (st.S.nx+l.length) Q) (xR pr l st.S Q) pr l st.S.nx st.S []:=by
 unfold Nv at h
 split at h
 ·rename_i s1 fp hd
  split at h
  ·rename_i hf
   simp only[Nat.cj,Option.some.injEq,Prod.mk.injEq]at h
   obtain⟨rfl,rfl⟩:=h
   exact kV aU bU a7 (q:= .fin s1 fp) (K:=zZ pr (st.S.nx+l.length) Q) (KP:=xR pr l st.S Q) (show zZ pr (st.S.nx+l.length) Q s1.S fp from⟨vR hf,hQ⟩) l _ _ _ hd
  ·cases h
 ·rename_i v wl fp hd
  split at h
  ·rename_i hf
   simp only[Option.some.injEq,Prod.mk.injEq]at h
   obtain⟨rfl,rfl⟩:=h
   exact kV aU bU a7 (q:= .bf v wl fp) (K:=zZ pr (st.S.nx+l.length) Q) (KP:=xR pr l st.S Q) (show xR pr l st.S Q v wl fp from⟨vR hf,hQ⟩) l _ _ _ hd
  ·cases h
 ·cases h
theorem Im(aU:P.follows .mixedOrders=true)(bU:∀g,(bu g).Ok P g){rec:cP}(a7:dz P rec){n:Nat}{g:Operand}{ps:List Nat}{x y:IC}{st:St}{kt:Kt}{a:dq}(h:Ih P bu rec n g ps x y st kt=some a){Q:eM->S->Prop}(hQ:∀e st',kt e st'=some a->Q e st'.S):
 xB P n (st.S.ev g) ps x y Q st.S:=by
 unfold Ih at h
 refine⟨(List.range n).map st.env.get,fun i=> ?_, ?_⟩
 ·unfold bc
  simp only[List.getD_eq_getElem?_getD,List.getElem?_map]
  by_cases hi:i<n
  ·right;rw[List.getElem?_range hi];rfl
  ·left;rw[List.getElem?_eq_none (by simp;omega)];rfl
 ·split at h
  ·rename_i f first cap hv
   simp only[hv]
   refine .inl ?_
   have key:=fun {K X} hr=>kT (K:=K) (X:=X) aU bU a7 h hr
   simp only[Tr.eX]at key
   refine key fun r hr=> ?_
   unfold Tz at hr
   cases r with
   |ret v o1 wF=>
    simp only at hr
    split at hr
    ·rename_i nf m e p c d Wz pd ho
     have hl:Wz≠ .busy:=by
      intro hb;subst hb;cases hr
     refine⟨nf,m,e,p,c,d,Wz,pd,ho,hl, ?_⟩
     split at hr
     ·cases hr
     ·split at hr<;>(have h3:=hQ _ _ hr;simp only[oO];simp only[St.S,Tr.eX]at h3;exact h3)
    ·cases hr
   |bf v o1 wF=>exact hQ _ _ hr
  ·cases h
theorem bM.same {b:Nat}{s:S}(h:b<=s.nx):bM b s s:=fun _ φ _ _ h1 h2=>⟨φ,h1,h2,fun _ h=>h,h,fun _ _ hr=>⟨hr,rfl⟩,fun _ e' _ he=>⟨e',he,Nat.le_refl _,fun _=>rfl⟩⟩
theorem FO{x y:Option dq}{a:dq}(h:BT x y=some a):x=some a/\y=some a:=by
 unfold BT at h
 split at h
 ·rename_i r
  split at h
  ·rename_i r'
   split at h
   ·rename_i hs
    injection h with h;subst h
    rw[R.dh hs]
    exact⟨rfl,rfl⟩
   ·cases h
  ·cases h
 ·cases h
theorem NB(aU:P.follows .mixedOrders=true)(bU:∀g,(bu g).Ok P g):∀k,∀j,j<=k->dz P (run P bu md j):=by
 intro k
 induction k with
 |zero=>intro j hj b rd n ic st kt a h;obtain rfl:j=0:=af
        cases h
 |succ k ih=>
  intro j hj b rd n ic st kt a h Q hQ
  cases j with
  |zero=>cases h
  |succ j=>
   have a7:dz P (run P bu md j):=ih j af
   rw[FM]at h
   cases ic with
   |skip=>exact hQ _ _ h
   |exit id=>exact hQ _ _ h
   |ret=>exact hQ _ _ h
   |bad=>cases h
   |ad l=>
    have h:vM P bu md (run P bu md j) (Yp kt) l st=some a:=h
    exact qz aU bU a7 (K:=Q .normal) (X:=fun v s=>Q (.bf v) s) (fun r hr=>by
     cases r with
     |ok Nr=>exact hQ .normal _ hr
     |bf v Nr=>exact hQ (.bf v) _ hr) l _ h
   |c0 l pr=>
    have h:Nw l pr P bu md (run P bu md j) b rd n st kt=some a:=h
    unfold Nw at h
    rw[Nat.cj]at h
    split at h
    ·rename_i s1 fp hd
     split at h
     ·rename_i hf
      rw[Nat.cj]at h
      split at h
      ·rename_i DO
       refine .inr ⟨nK pr,Nat.le_of_ble_eq_true DO,FN pr, ?_⟩
       refine kV aU bU a7 (q:= .fin s1 fp) (K:=fun s' fp=>fY pr fp=true/\mA P (fun v s=>Q (.bf v) s) (Q .normal) (l.drop (nK pr)) ⟨s'.env,s'.o,st.S.nx+nK pr⟩) (KP:=fun _ _ _=>False) (show _/\_ from⟨vR hf, ?_⟩) (l.take (nK pr)) _ _ _ hd
       exact qz aU bU a7 (K:=Q .normal) (X:=fun v s=>Q (.bf v) s) (fun r hr=>by
        cases r with
        |ok Nr=>exact hQ .normal _ hr
        |bf v Nr=>exact hQ (.bf v) _ hr) (l.drop (nK pr)) ⟨s1.env,s1.o,st.nx+nK pr⟩ h
      ·cases h
     ·cases h
    ·split at h
     ·rename_i e s1 h1
      exact .inl (Il aU bU a7 h1 (hQ _ _ h))
     ·cases h
    ·cases h
   |seq x y=>
    have h:run P bu md j b rd n x st (Ag (run P bu md j) b rd n y kt)=some a:=h
    simp only[qu]
    refine a7 _ _ _ _ _ _ _ h _ fun e s1 he=> ?_
    unfold Ag at he
    cases e with
    |normal=>exact a7 _ _ _ _ _ _ _ he _ hQ
    |_=>exact hQ _ _ he
   |cond c x y=>
    have h:(match st.S.ev c with| .d (.bool true)=>run P bu md j b rd n x st kt| .d (.bool false)=>run P bu md j b rd n y st kt| .ek=>BT (run P bu md j b rd n x st kt) (run P bu md j b rd n y st kt)|_=>none)=some a:=h
    simp only[qu]
    split at h
    ·rename_i hv
     simp only[hv]
     exact(rp _ _).mpr (a7 _ _ _ _ _ _ _ h _ hQ)
    ·rename_i hv
     simp only[hv]
     exact(pK _ _).mpr (a7 _ _ _ _ _ _ _ h _ hQ)
    ·rename_i hv
     simp only[hv]
     obtain⟨h1,h2⟩:=FO h
     exact⟨a7 _ _ _ _ _ _ _ h1 _ hQ,a7 _ _ _ _ _ _ _ h2 _ hQ⟩
    ·cases h
   |block id x=>
    have h:run P bu md j b rd n x st (Ah id kt)=some a:=h
    simp only[qu]
    refine a7 _ _ _ _ _ _ _ h _ fun e s1 he=> ?_
    unfold Ah at he
    cases e with
    |exit j'=>
     simp only at he
     split at he
     ·rename_i hb
      simp only[dW,Nat.eq_of_beq_eq_true hb,if_true];exact hQ _ _ he
     ·rename_i hb
      simp only[dW,Nat.ne_of_beq_eq_false hb,if_false];exact hQ _ _ he
    |_=>exact hQ _ _ he
   |loop x=>
    have Yv:∀m Kw,run P bu md (m+1) b rd n (.loop x) Kw kt=some a->b<=Kw.nx/\run P bu md m b rd n x Kw (Ag (run P bu md m) b rd n (.loop x) kt)=some a:=by
     intro m Kw h
     have h:(match Nat.ble b Kw.nx with|true=>run P bu md m b rd n x Kw (Ag (run P bu md m) b rd n (.loop x) kt)|false=>none)=some a:=h
     split at h
     ·rename_i hb;exact⟨Nat.le_of_ble_eq_true hb,h⟩
     ·cases h
    have h:run P bu md (j+1) b rd n (.loop x) st kt=some a:=h
    refine⟨fun m s=>m<=k+1/\∃st,s=st.S/\run P bu md m b rd n (.loop x) st kt=some a,⟨j+1,st.S,bM.same (Yv j st h).1,hj,st,rfl,h⟩, ?_⟩
    rintro m s0 ⟨hm,Kw,rfl,h0⟩
    cases m with
    |zero=>cases h0
    |succ m=>
     have TE:dz P (run P bu md m):=ih m af
     refine TE _ _ _ _ _ _ _ (Yv m Kw h0).2 _ fun e s1 he=> ?_
     unfold Ag at he
     cases e with
     |normal=>
      refine⟨m,s1.S,Nat.lt_succ_self _,bM.same ?_,af,s1,rfl,he⟩
      cases m with
      |zero=>cases he
      |succ m=>exact(Yv m s1 he).1
     |_=>exact hQ _ _ he
   |DL g ps x y=>
    cases rd with
    |true=>
     have h:(none:Option dq)=some a:=h
     cases h
    |false=>
     have h:Ih P bu (run P bu md j) n g ps x y st kt=some a:=h
     exact⟨rfl,_, .inl rfl,Im aU bU a7 h hQ⟩
noncomputable def lM(P:Program)(bu:Nat->FD)(md:nJ P)(k:Nat)(g:Nat)(ds:List D):Option R:=
 match Fz P bu (run P bu md k) g (ds.map .d) (.e fun _=> .no) 0 yf with
 |some (.r x)=>some x
 |_=>none
theorem aY.eY (aU:P.follows .mixedOrders=true)(bU:∀g,(bu g).Ok P g){k g:Nat}{ds:List D}{out:R}(h:lM P bu md k g ds=some out):aY P g ds out:=by
 unfold lM at h
 split at h
 ·rename_i x hr;injection h with h;subst h;exact yg aU bU (NB aU bU k k (Nat.le_refl _)) hr
 ·cases h
end
end
def Tr.BV {α:Type}(p:Nat->α->Prop):Tr α->(Nat->Nat)->Prop
 | .e g,f=>∀i,p (f i) (g i)
 | .n x l r,f=>p (f 0) x/\BV p l (fun i=>f (2*i+1))/\BV p r (fun i=>f (2*i+2))
theorem Tr.vS {α:Type}{p:Nat->α->Prop}:∀ {f:Nat->Nat} (t:Tr α),t.BV p f->∀k,p (f k) (t.get k)
 |f, .e g,h,k=>h k
 |f, .n x l r,h,k=>by
  obtain⟨h1,h2,h3⟩:=h
  rw[Tr.rJ]
  split
  ·rename_i e;subst e;exact h1
  ·split
   ·have:=Tr.vS l h2 (k/2)
    rwa [show 2*(k/2)+1=k by omega]at this
   ·have:=Tr.vS r h3 (k/2 - 1)
    rwa [show 2*(k/2 - 1)+2=k by omega]at this
end Go.Proofs.YtlhemmpklhhgoaaGreat
