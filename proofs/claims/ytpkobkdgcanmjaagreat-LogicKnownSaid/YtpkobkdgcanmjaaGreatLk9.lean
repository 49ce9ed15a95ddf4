/-
  A PART OF THE PROOF. Conditions: none.
-/
import Derived.Test.YtpkobkdgcanmjaaGreatLk8
set_option linter.unusedSimpArgs false
set_option linter.unusedVariables false
namespace Go.Proofs.YtpkobkdgcanmjaaGreat
inductive Tr (α:Type) where
 |e (f:Nat->α)
 |n (x:α) (l r:Tr α)
noncomputable def Tr.get {α:Type}(t:Tr α):Nat->α:=
 Tr.rec (motive:=fun _=>Nat->α) (fun f=>f) (fun x _ _ l r k=>Bool.rec (Bool.rec (r (Nat.sub (Nat.div k 2) 1)) (l (Nat.div k 2)) (Nat.beq (Nat.mod k 2) 1)) x (Nat.beq k 0)) t
theorem Tr.rj {α:Type}(f:Nat->α):(Tr.e f).get=f:=rfl
noncomputable def Tr.lQ {α:Type}(x:α):Nat->Tr α->Nat->Tr α
 |0,t,k=> .e (cK t.get k x)
 |d+1, .e f,k=>match Nat.beq k 0 with
  |true=> .n x (.e fun i=>f (2*i+1)) (.e fun i=>f (2*i+2))
  |false=>match Nat.beq (k%2) 1 with
   |true=> .n (f 0) (Tr.lQ x d (.e fun i=>f (2*i+1)) (k/2)) (.e fun i=>f (2*i+2))
   |false=> .n (f 0) (.e fun i=>f (2*i+1)) (Tr.lQ x d (.e fun i=>f (2*i+2)) (k/2 - 1))
 |d+1, .n y l r,k=>match Nat.beq k 0 with
  |true=> .n x l r
  |false=>match Nat.beq (k%2) 1 with
   |true=> .n y (Tr.lQ x d l (k/2)) r
   |false=> .n y l (Tr.lQ x d r (k/2 - 1))
noncomputable def Tr.set {α:Type}(t:Tr α)(k:Nat)(x:α):Tr α:=Tr.lQ x 24 t k
theorem Tr.lR {α:Type}{x:α}{l r:Tr α}{k:Nat}:(Tr.n x l r).get k=if k=0 then x else if k%2=1 then l.get (k/2)else r.get (k/2 - 1):=by
 show @Bool.rec (fun _=>α) (@Bool.rec (fun _=>α) (r.get (k/2 - 1)) (l.get (k/2)) (Nat.beq (k%2) 1)) x (Nat.beq k 0)=_
 by_cases h:k=0
 ·subst h;rfl
 ·have:Nat.beq k 0=false:=by cases k with|zero=>exact absurd rfl h|succ k=>rfl
  simp only[this,h,if_false]
  by_cases h2:k%2=1
  ·simp[h2]
  ·have:Nat.beq (k%2) 1=false:=by
    cases hb:Nat.beq (k%2) 1 with
    |false=>rfl
    |true=>exact absurd (Nat.eq_of_beq_eq_true hb) h2
   simp[h2,this]
theorem Tr.gr {α:Type}(x:α):∀ (d:Nat) (t:Tr α) (k:Nat),(Tr.lQ x d t k).get=cK t.get k x
 |0,t,k=>rfl
 |d+1, .e f,k=>by
  funext i
  simp only[Tr.lQ]
  have hb:∀a b:Nat,Nat.beq a b=decide (a=b):=fun a b=>by
   cases h:Nat.beq a b with
   |true=>simp[Nat.eq_of_beq_eq_true h]
   |false=>simp[Nat.ne_of_beq_eq_false h]
  rw[hb,hb]
  by_cases h:k=0
  ·subst h
   simp only[decide_true,Tr.lR,ao]
   by_cases hi:i=0
   ·simp[hi]
   ·simp only[hi,if_false]
    by_cases h2:i%2=1
    ·simp only[h2,if_true,Tr.rj];congr 1;omega
    ·simp only[h2,if_false,Tr.rj];congr 1;omega
  ·simp only[h,decide_false]
   by_cases hk:k%2=1
   ·simp only[hk,decide_true,Tr.lR,Tr.gr x d,ao,Tr.rj]
    by_cases hi:i=0
    ·subst hi;simp[Ne.symm h]
    ·simp only[hi,if_false]
     by_cases h2:i%2=1
     ·simp only[h2,if_true]
      have e1:2*(i/2)+1=i:=by omega
      rw[e1]
      by_cases e:i=k
      ·simp[e]
      ·rw[if_neg e,if_neg (by omega)]
     ·simp only[h2,if_false]
      rw[if_neg (by intro e;subst e;exact h2 hk)]
      congr 1;omega
   ·simp only[hk,decide_false,Tr.lR,Tr.gr x d,ao,Tr.rj]
    by_cases hi:i=0
    ·subst hi;simp[Ne.symm h]
    ·simp only[hi,if_false]
     by_cases h2:i%2=1
     ·simp only[h2,if_true]
      rw[if_neg (by intro e;subst e;exact hk h2)]
      congr 1;omega
     ·simp only[h2,if_false]
      have e1:2*(i/2 - 1)+2=i:=by omega
      rw[e1]
      by_cases e:i=k
      ·simp[e]
      ·rw[if_neg e,if_neg (by omega)]
 |d+1, .n y l r,k=>by
  funext i
  simp only[Tr.lQ]
  have hb:∀a b:Nat,Nat.beq a b=decide (a=b):=fun a b=>by
   cases h:Nat.beq a b with
   |true=>simp[Nat.eq_of_beq_eq_true h]
   |false=>simp[Nat.ne_of_beq_eq_false h]
  rw[hb,hb]
  by_cases h:k=0
  ·subst h
   simp only[decide_true,Tr.lR,ao]
   by_cases hi:i=0
   ·simp[hi]
   ·simp[hi]
  ·simp only[h,decide_false]
   by_cases hk:k%2=1
   ·simp only[hk,decide_true,Tr.lR,Tr.gr x d,ao]
    by_cases hi:i=0
    ·subst hi;simp[Ne.symm h]
    ·simp only[hi,if_false]
     by_cases h2:i%2=1
     ·simp only[h2,if_true]
      by_cases e:i=k
      ·simp[e]
      ·rw[if_neg e,if_neg (by omega)]
     ·simp only[h2,if_false]
      rw[if_neg (by intro e;subst e;exact h2 hk)]
   ·simp only[hk,decide_false,Tr.lR,Tr.gr x d,ao]
    by_cases hi:i=0
    ·subst hi;simp[Ne.symm h]
    ·simp only[hi,if_false]
     by_cases h2:i%2=1
     ·simp only[h2,if_true]
      rw[if_neg (by intro e;subst e;exact hk h2)]
     ·simp only[h2,if_false]
      by_cases e:i=k
      ·simp[e]
      ·rw[if_neg e,if_neg (by omega)]
theorem Tr.dX {α:Type}(t:Tr α)(k:Nat)(x:α):(t.set k x).get=cK t.get k x:=Tr.gr x 24 t k
noncomputable def Nat.fc {β:Type}(n:Nat)(c:Nat->β):β:=Nat.rec (motive:=fun _=>β) (c 0) (fun m _=>c (Nat.succ m)) n
theorem Nat.bd {β:Type}(n:Nat)(c:Nat->β):Nat.fc n c=c n:=by cases n<;>rfl
noncomputable def Int.fc {β:Type}(n:Int)(c:Int->β):β:=Int.rec (motive:=fun _=>β) (fun m=>Nat.fc m fun m=>c (.ofNat m)) (fun m=>Nat.fc m fun m=>c (.negSucc m)) n
theorem Int.bd {β:Type}(n:Int)(c:Int->β):Int.fc n c=c n:=by cases n<;>simp only[Int.fc,Nat.bd]
mutual
noncomputable def D.fc {β:Type}:D->(D->β)->β
 | .int k n,c=>Int.fc n fun n=>c (.int k n)
 | .bool b,c=>match b with|true=>c (.bool true)|false=>c (.bool false)
 | .agg l,c=>D.lS l fun l=>c (.agg l)
 | .sl l,c=>D.lS l fun l=>c (.sl l)
 | .iface t x,c=>D.fc x fun x=>c (.iface t x)
 | .str s,c=>c (.str s)
 | .dv,c=>c .dv
 | .fL,c=>c .fL
 | .fj,c=>c .fj
 | .eA,c=>c .eA
 | .mp ks vs,c=>D.lS ks fun ks=>D.lS vs fun vs=>c (.mp ks vs)
noncomputable def D.lS {β:Type}:List D->(List D->β)->β
 |[],c=>c []
 |x::xs,c=>D.fc x fun x=>D.lS xs fun xs=>c (x::xs)
end
mutual
theorem D.bd {β:Type}:∀ (x:D) (c:D->β),D.fc x c=c x
 | .int k n,c=>by simp only[D.fc,Int.bd]
 | .bool b,c=>by cases b<;>rfl
 | .agg l,c=>by simp only[D.fc,D.cI l]
 | .sl l,c=>by simp only[D.fc,D.cI l]
 | .iface t x,c=>by simp only[D.fc,D.bd x]
 | .mp ks vs,c=>by simp only[D.fc,D.cI ks,D.cI vs]
 | .str _,_| .dv,_| .fL,_| .fj,_| .eA,_=>by simp only[D.fc]
theorem D.cI {β:Type}:∀ (x:List D) (c:List D->β),D.lS x c=c x
 |[],c=>by simp only[D.lS]
 |x::xs,c=>by simp only[D.lS,D.bd x,D.cI xs]
end
mutual
noncomputable def V.fc {β:Type}:V->(V->β)->β
 | .d x,c=>D.fc x fun x=>c (.d x)
 | .agg l,c=>V.lS l fun l=>c (.agg l)
 | .a8 l,c=>V.lS l fun l=>c (.a8 l)
 | .ptr i o,c=>Nat.fc i fun i=>Nat.fc o fun o=>c (.ptr i o)
 | .osl i o,c=>Nat.fc i fun i=>Nat.fc o fun o=>c (.osl i o)
 | .pe a b i j k,c=>Nat.fc a fun a=>Nat.fc b fun b=>Nat.fc i fun i=>Nat.fc j fun j=>Nat.fc k fun k=>c (.pe a b i j k)
 | .pp l o,c=>D.lS l fun l=>Nat.fc o fun o=>c (.pp l o)
 | .func f a b,c=>V.lS a fun a=>V.lS b fun b=>c (.func f a b)
 | .iface t x,c=>V.fc x fun x=>c (.iface t x)
 | .ir l,c=>D.lS l fun l=>c (.ir l)
 | .mb i j k,c=>Nat.fc i fun i=>Nat.fc j fun j=>Nat.fc k fun k=>c (.mb i j k)
 | .mp i,c=>Nat.fc i fun i=>c (.mp i)
 | .gW i,c=>Nat.fc i fun i=>c (.gW i)
 | .cu,c=>c .cu
 | .bO,c=>c .bO
 | .cJ,c=>c .cJ
noncomputable def V.lS {β:Type}:List V->(List V->β)->β
 |[],c=>c []
 |x::xs,c=>V.fc x fun x=>V.lS xs fun xs=>c (x::xs)
end
mutual
theorem V.bd {β:Type}:∀ (x:V) (c:V->β),V.fc x c=c x
 | .d x,c=>by simp only[V.fc,D.bd]
 | .agg l,c=>by simp only[V.fc,V.cI l]
 | .a8 l,c=>by simp only[V.fc,V.cI l]
 | .pp l o,c=>by simp only[V.fc,D.cI,Nat.bd]
 | .func f a b,c=>by simp only[V.fc,V.cI a,V.cI b]
 | .iface t x,c=>by simp only[V.fc,V.bd x]
 | .ir l,c=>by simp only[V.fc,D.cI]
 | .ptr _ _,_| .osl _ _,_| .pe _ _ _ _ _,_| .mb _ _ _,_| .mp _,_| .gW _,_| .cu,_| .bO,_| .cJ,_=>by simp only[V.fc,Nat.bd]
theorem V.cI {β:Type}:∀ (x:List V) (c:List V->β),V.lS x c=c x
 |[],c=>by simp only[V.lS]
 |x::xs,c=>by simp only[V.lS,V.bd x,V.cI xs]
end
section
variable {β:Type}
noncomputable def Bq(k:IntKind)(n:Int)(c:V->β):β:=Int.fc n fun n=>c (.d (.int k n))
noncomputable def Br(b:Bool)(c:V->β):β:= @Bool.rec (fun _=>β) (c (.d (.bool false))) (c (.d (.bool true))) b
noncomputable def yj(x:D)(c:V->β):β:=D.fc x fun x=>c (.d x)
noncomputable def vD(x:D):(V->β)->β:=match x with| .int k n=>Bq k n| .bool b=>Br b|x=>yj x
noncomputable def Bs(i o:Nat)(c:V->β):β:=Nat.fc i fun i=>Nat.fc o fun o=>c (.ptr i o)
noncomputable def Bt(i o:Nat)(c:V->β):β:=Nat.fc i fun i=>Nat.fc o fun o=>c (.osl i o)
noncomputable def JX(a b i j k:Nat)(c:V->β):β:=Nat.fc a fun a=>Nat.fc b fun b=>Nat.fc i fun i=>Nat.fc j fun j=>Nat.fc k fun k=>c (.pe a b i j k)
noncomputable def V.zF (v:V):(V->β)->β:=match v with| .d x=>vD x| .ptr i o=>Bs i o| .osl i o=>Bt i o| .pe a b i j k=>JX a b i j k|v=>V.fc v
theorem V.yk (v:V)(c:V->β):V.zF v c=c v:=by
 cases v
 case d x=>
  cases x
  case int k n=>simp only[V.zF,vD,Bq,Int.bd]
  case bool b=>cases b<;>rfl
  all_goals exact D.bd _ _
 case ptr i o=>simp only[V.zF,Bs,Nat.bd]
 case osl i o=>simp only[V.zF,Bt,Nat.bd]
 case pe a b i j k=>simp only[V.zF,JX,Nat.bd]
 all_goals exact V.bd _ _
end
noncomputable def zG{β:Type}:List (D×D)->(List (D×D)->β)->β
 |[],c=>c []
 |(a,b)::l,c=>D.fc a fun a=>D.fc b fun b=>zG l fun l=>c ((a,b)::l)
theorem ue{β:Type}:∀ (x:List (D×D)) (c:List (D×D)->β),zG x c=c x
 |[],c=>rfl
 |(a,b)::l,c=>by simp only[zG,D.bd,ue l]
noncomputable def ab.fc {β:Type}(x:ab)(c:ab->β):β:=
 match x with
 | .row cs=>V.lS cs fun cs=>c (.row cs)
 | .arr e t s es=>Nat.fc e fun e=>Nat.fc s fun s=>D.lS es fun es=>c (.arr e t s es)
 | .kf e es=>Nat.fc e fun e=>D.lS es fun es=>c (.kf e es)
 | .map kt vt l=>zG l fun l=>c (.map kt vt l)
 | .dw l=>zG l fun l=>c (.dw l)
 | .kQ l last=>zG l fun l=>c (.kQ l last)
 | .oe l pos=>Nat.fc pos fun pos=>c (.oe l pos)
 |x=>c x
theorem ab.bd {β:Type}(x:ab)(c:ab->β):ab.fc x c=c x:=by cases x<;>simp only[ab.fc,V.cI,D.cI,Nat.bd,ue]
noncomputable def Tr.m6 {α β:Type}(x:α)(d:Nat):Tr α->Nat->(Tr α->β)->β:=
 Nat.rec (motive:=fun _=>Tr α->Nat->(Tr α->β)->β) (fun t k c=>c (.e (cK t.get k x)))
  (fun _ ih t k c=>Tr.rec (motive:=fun _=>β) (fun f=>
   Bool.rec (Bool.rec (ih (.e fun i=>f (2*i+2)) (Nat.sub (Nat.div k 2) 1) fun r=>c (.n (f 0) (.e fun i=>f (2*i+1)) r)) (ih (.e fun i=>f (2*i+1)) (Nat.div k 2) fun l=>c (.n (f 0) l (.e fun i=>f (2*i+2)))) (Nat.beq (Nat.mod k 2) 1))
    (c (.n x (.e fun i=>f (2*i+1)) (.e fun i=>f (2*i+2)))) (Nat.beq k 0))
   (fun y l r _ _=>Bool.rec (Bool.rec (ih r (Nat.sub (Nat.div k 2) 1) fun r=>c (.n y l r)) (ih l (Nat.div k 2) fun l=>c (.n y l r)) (Nat.beq (Nat.mod k 2) 1)) (c (.n x l r)) (Nat.beq k 0)) t) d
theorem Tr.lT {α β:Type}(x:α):∀ (d:Nat) (t:Tr α) (k:Nat) (c:Tr α->β),Tr.m6 x d t k c=c (Tr.lQ x d t k)
 |0,t,k,c=>rfl
 |d+1, .e f,k,c=>by
  show @Bool.rec (fun _=>β) (@Bool.rec (fun _=>β) (Tr.m6 x d (.e fun i=>f (2*i+2)) (k/2 - 1) fun r=>c (.n (f 0) (.e fun i=>f (2*i+1)) r)) (Tr.m6 x d (.e fun i=>f (2*i+1)) (k/2) fun l=>c (.n (f 0) l (.e fun i=>f (2*i+2)))) (Nat.beq (k%2) 1)) (c (.n x (.e fun i=>f (2*i+1)) (.e fun i=>f (2*i+2)))) (Nat.beq k 0)=_
  simp only[Tr.lQ,Tr.lT x d]
  cases Nat.beq k 0
  ·cases Nat.beq (k%2) 1<;>rfl
  ·rfl
 |d+1, .n y l r,k,c=>by
  show @Bool.rec (fun _=>β) (@Bool.rec (fun _=>β) (Tr.m6 x d r (k/2 - 1) fun r=>c (.n y l r)) (Tr.m6 x d l (k/2) fun l=>c (.n y l r)) (Nat.beq (k%2) 1)) (c (.n x l r)) (Nat.beq k 0)=_
  simp only[Tr.lQ,Tr.lT x d]
  cases Nat.beq k 0
  ·cases Nat.beq (k%2) 1<;>rfl
  ·rfl
noncomputable def Tr.yl {α β:Type}(t:Tr α)(k:Nat)(x:α)(c:Tr α->β):β:=Tr.m6 x 24 t k c
theorem Tr.rk {α β:Type}(t:Tr α)(k:Nat)(x:α)(c:Tr α->β):t.yl k x c=c (t.set k x):=Tr.lT x 24 t k c
structure St where
 env:Tr V
 o:Tr ab
 nx:Nat
noncomputable def St.S (st:St):S:=⟨st.env.get,st.o.get,st.nx⟩
noncomputable def sE(o:Tr ab)(Δ:List (Nat×ab)):Tr ab:=Δ.foldl (fun f x=>f.set x.1 x.2) o
noncomputable def j9(env:Tr V)(dst:Option Tmp)(v:V):Tr V:=match dst with|some d=>env.set d v|none=>env
noncomputable def lU{β:Type}(o:Tr ab):List (Nat×ab)->(Tr ab->β)->β
 |[],c=>c o
 |(i,x)::Δ,c=>ab.fc x fun x=>o.yl i x fun o=>lU o Δ c
theorem gu{β:Type}:∀ (Δ:List (Nat×ab)) (o:Tr ab) (c:Tr ab->β),lU o Δ c=c (sE o Δ)
 |[],o,c=>rfl
 |(i,x)::Δ,o,c=>by simp only[lU,ab.bd,Tr.rk,gu Δ];rfl
noncomputable def fH{β:Type}(env:Tr V)(dst:Option Tmp)(v:V)(c:Tr V->β):β:=match dst with|some d=>V.zF v fun v=>env.yl d v c|none=>c env
theorem ec{β:Type}(env:Tr V)(dst:Option Tmp)(v:V)(c:Tr V->β):fH env dst v c=c (j9 env dst v):=by
 cases dst<;>simp only[fH,j9,V.yk,Tr.rk]
theorem ez:∀ (Δ:List (Nat×ab)) (o:Tr ab),(sE o Δ).get=put o.get Δ
 |[],_=>rfl
 |x::Δ,o=>by
  simp only[sE,put,List.foldl_cons]
  have:=ez Δ (o.set x.1 x.2)
  simp only[sE,put]at this
  rw[this,Tr.dX]
theorem cc(env:Tr V)(dst:Option Tmp)(v:V):(j9 env dst v).get=ay env.get dst v:=by
 cases dst<;>simp[j9,ay,Tr.dX]
section ym
def xj(x:Operand)(_:Program)(s:S)(_:Nat):Option dH:=one (s.ev x)
def Bu(c a b:Operand)(_:Program)(s:S)(_:Nat):Option dH:=fF (jf (s.ev c) (s.ev a) (s.ev b))
def yn(t:TypeId)(parts:Array (Nat×Operand))(P:Program)(s:S)(_:Nat):Option dH:=fF (nI P t (parts.toList.map fun p=>(p.1,s.ev p.2)))
def pA(t:TypeId)(len:Nat)(parts:Array (Nat×Operand))(P:Program)(s:S)(fr:Nat):Option dH:=cZ P s.o fr t len (parts.toList.map fun p=>(p.1,s.ev p.2))
def Bv(t:TypeId)(x:Operand)(P:Program)(s:S)(_:Nat):Option dH:=gb P s.o t (s.ev x)
def yo(t:TypeId)(x v:Operand)(P:Program)(s:S)(_:Nat):Option dH:=jG P s.o t (s.ev x) (s.ev v)
def Hk(x:Operand)(_:Program)(s:S)(_:Nat):Option dH:=fF (dZ s.o (s.ev x))
noncomputable def Bw(op:BinOp):IntKind->Int->Int->Option V:=
 match op with
 | .add=>fun k a b=>some (.d (.int k (k.wrap (Int.add a b))))
 | .sub=>fun k a b=>some (.d (.int k (k.wrap (Int.sub a b))))
 | .mul=>fun k a b=>some (.d (.int k (k.wrap (Int.mul a b))))
 |op=>o7 op
theorem vG(op:BinOp):Bw op=o7 op:=by cases op<;>rfl
def asInt(x:V):Option (IntKind×Int):=match x with| .d (.int k a)=>some (k,a)|_=>none
def uf(op:BinOp)(t:TypeId)(c:Bool)(x y:V)(P:Program)(o:Nat->ab):Option dH:=bI P o op t c x y
noncomputable def Bx(op:BinOp)(t:TypeId)(x y:Operand)(P:Program)(s:S)(_:Nat):Option dH:=
 match asInt (s.ev x)with
 |some (k,a)=>match asInt (s.ev y)with
  |some (k',b)=>if k=k' then match Bw op k a b with
   |some v=>some (v,[],[])
   |none=>uf op t (isConst x||isConst y) (s.ev x) (s.ev y) P s.o
   else none
  |none=>uf op t (isConst x||isConst y) (s.ev x) (s.ev y) P s.o
 |none=>uf op t (isConst x||isConst y) (s.ev x) (s.ev y) P s.o
theorem pB{x:V}{k:IntKind}{a:Int}(h:asInt x=some (k,a)):x= .d (.int k a):=by
 unfold asInt at h;split at h
 ·injection h with h;cases h;rfl
 ·cases h
def qA(t:TypeId)(x:Operand)(f:Nat)(P:Program)(s:S)(_:Nat):Option dH:=fF (dB P s.o t (s.ev x) f)
def qB(t:TypeId)(x i:Operand)(P:Program)(s:S)(_:Nat):Option dH:=dA P s.o t (s.ev x) (s.ev i)
def yp(op:Op)(P:Program)(s:S)(fr:Nat):Option dH:=dC P s fr op
noncomputable def vH(op:Op):Program->S->Nat->Option dH:=
 match op with
 | .move x=>xj x
 | .assign x=>xj x
 | .pick c a b=>Bu c a b
 | .build t parts=>yn t parts
 | .buildSlice t len parts=>pA t len parts
 | .load t x=>Bv t x
 | .store t x v=>yo t x v
 | .nilCheck x=>Hk x
 | .binOp op t x y _=>Bx op t x y
 | .fieldAddr t x f=>qA t x f
 | .indexAddr t x i=>qB t x i
 |op=>yp op
theorem rl{op:Op}{P:Program}{s:S}{fr:Nat}{r:dH}(h:vH op P s fr=some r):dC P s fr op=some r:=by
 cases op
 case binOp op t x y yt=>
  simp only[vH,Bx,vG]at h
  have e:dC P s fr (.binOp op t x y yt)=bI P s.o op t (isConst x||isConst y) (s.ev x) (s.ev y):=rfl
  rw[e]
  split at h
  ·rename_i k a hx
   split at h
   ·rename_i k' b hy
    split at h
    ·rename_i hk
     split at h
     ·rename_i v hv
      unfold bI nH
      simp only[pB hx,pB hy,if_pos hk,hv]
      exact h
     ·exact h
    ·cases h
   ·exact h
  ·exact h
 all_goals exact h
end ym
inductive FD where
 |fn (n:Nat) (ic:IC) (rs:List ResultVar)
 |Hl (n:Nat) (iu fI:IC) (g t:Nat) (dW:List Operand) (rs:List ResultVar) (m r r1:Nat) (pz:IC)
 |no
def FD.Ok (P:Program)(f:Nat):FD->Prop
 | .fn n ic rs=>ag P f n ic rs
 | .Hl n iu fI g t dW rs m r r1 pz=>ua P f n iu fI g t dW rs/\ri P g m r r1 pz
 | .no=>True
inductive CR where
 |ret (v:V) (o:Tr ab) (nx:Nat)|aJ (v:V) (o:Tr ab) (nx:Nat)
def CR.to (K X:V->(Nat->ab)->Nat->Prop):CR->Prop
 | .ret v o nx=>K v o.get nx
 | .aJ v o nx=>X v o.get nx
inductive RO where
 |ok (st:St)|aJ (v:V) (st:St)
def RO.to (K:S->Prop)(X:V->S->Prop):RO->Prop
 | .ok st=>K st.S
 | .aJ v st=>X v st.S
inductive b8 where
 |r (x:R)|c (x:CR)
abbrev Kt:=eo->St->Option b8
abbrev bM:=Nat->Bool->Nat->IC->St->Kt->Option b8
noncomputable def sF(P:Program)(rs:List ResultVar)(st:St)(kc:CR->Option b8):Option b8:=
 match fy P st.S rs with
 |some [v]=>kc (.ret v st.o st.nx)
 |some vs=>kc (.ret (.a8 vs) st.o st.nx)
 |none=>none
noncomputable def xk(P:Program)(rs:List ResultVar)(kc:CR->Option b8):Kt:=fun e st=>
 match e with
 | .normal=>sF P rs st kc
 | .ret=>sF P rs st kc
 | .aJ v=>kc (.aJ v st.o st.nx)
 | .exit _=>none
noncomputable def ug(P:Program)(rs:List ResultVar)(kc:CR->Option b8)(env:Tr V):Kt:=fun e s4=>
 match e with
 | .normal=>sF P rs ⟨env,s4.o,s4.nx⟩ kc
 | .ret=>sF P rs ⟨env,s4.o,s4.nx⟩ kc
 |_=>none
def Bz:eo->Option V
 | .normal=>some (.d .dv)
 | .ret=>some (.d .dv)
 | .aJ v=>some v
 | .exit _=>none
noncomputable def uh(P:Program)(rec:bM)(rs:List ResultVar)(gO:List V)(m r r1:Nat)(pz:IC)(kc:CR->Option b8):Kt:=fun e s3=>
 match Bz e with
 |some u=>if gO.length<=m then rec s3.nx true m pz ⟨.e (cK (cK (bt gO) r u) r1 u),s3.o,s3.nx⟩ (ug P rs kc s3.env)else none
 |none=>none
noncomputable def rm(P:Program)(rec:bM)(n t:Nat)(fI:IC)(g:Nat)(dW:List Operand)(rs:List ResultVar)(m r r1:Nat)(pz:IC)(kc:CR->Option b8):Kt:=fun e s1=>
 match e with
 | .normal=>rec s1.nx false n fI ⟨s1.env.set t (.func (.func g) [] (dW.map s1.S.ev)),s1.o,s1.nx⟩ (uh P rec rs (dW.map s1.S.ev) m r r1 pz kc)
 |_=>none
noncomputable def ui(P:Program)(aK:Nat->FD)(rec:bM)(g:Nat)(args:List V)(o:Tr ab)(nx:Nat)(kc:CR->Option b8):Option b8:=
 match aK g with
 | .fn n ic rs=>if args.length<=n then rec nx false n ic ⟨.e (bt args),o,nx⟩ (xk P rs kc)else none
 | .Hl n iu fI g t dW rs m r r1 pz=>if args.length<=n then rec nx true n iu ⟨.e (bt args),o,nx⟩ (rm P rec n t fI g dW rs m r r1 pz kc)else none
 | .no=>none
def lV:V->List V
 | .a8 vs=>vs
 |v=>[v]
noncomputable def rn(r:CR):Option R:=
 match r with
 | .ret v o _=>match v with
   | .a8 [_]=>none
   |v=>match aR o.get (lV v)with
    |some rs=>some (.ret rs)
    |none=>none
 | .aJ v o _=>match cD o.get v with
   |some x=>some (.aJ x)
   |none=>none
noncomputable def BA{β:Type}(x:R)(c:R->β):β:=match x with| .ret l=>D.lS l fun l=>c (.ret l)| .aJ d=>D.fc d fun d=>c (.aJ d)
theorem qC{β:Type}(x:R)(c:R->β):BA x c=c x:=by cases x<;>simp only[BA,D.cI,D.bd]
noncomputable def pC(r:CR):Option b8:=match rn r with|some x=>BA x fun x=>some (.r x)|none=>none
theorem uj{r:CR}{a:b8}(h:pC r=some a):∃x,rn r=some x/\a= .r x:=by
 unfold pC at h
 split at h
 ·rename_i x hx;rw[qC]at h;injection h with h;exact⟨x,hx,h.symm⟩
 ·cases h
def uk(out:R)(o:Tr ab)(nx:Nat):CR:=
 match out with
 | .ret rs=> .ret (fM rs) o nx
 | .aJ x=> .aJ (.d x) o nx
structure il (P:Program) where
 BB:Nat->Bool
 fx:Nat->List D->Option R
 ok:∀g ds out,fx g ds=some out->dN P g ds out
def um(l:List (Nat×List D×R))(g:Nat)(ds:List D):Option R:=
 match l with
 |[]=>none
 |x::l=>match Nat.beq x.1 g with
  |true=>match D.cT x.2.1 ds with
   |true=>some x.2.2
   |false=>um l g ds
  |false=>um l g ds
theorem nX{P:Program}:∀ {l:List (Nat×List D×R)},(∀x∈l,dN P x.1 x.2.1 x.2.2)->∀g ds out,um l g ds=some out->dN P g ds out
 |[],_,_,_,_,h=>by cases h
 |x::l,hl,g,ds,out,h=>by
  simp only[um]at h
  split at h
  ·rename_i hg
   split at h
   ·rename_i hd
    injection h with h
    have:=hl x (by simp)
    rw[Nat.eq_of_beq_eq_true hg,D.bF _ _ hd,h]at this
    exact this
   ·exact nX (fun y hy=>hl y (by simp[hy])) g ds out h
  ·exact nX (fun y hy=>hl y (by simp[hy])) g ds out h
def il.of {P:Program}(BB:Nat->Bool)(l:List (Nat×List D×R))(h:∀x∈l,dN P x.1 x.2.1 x.2.2):il P:=⟨BB,um l,nX h⟩
noncomputable def vI(P:Program)(aK:Nat->FD)(md:il P)(rec:bM)(g:Nat)(ds:List D):Option R:=
 match md.fx g ds with
 |some out=>some out
 |none=>match ui P aK rec g (ds.map .d) (.e fun _=> .no) 0 pC with
  |some (.r x)=>some x
  |_=>none
noncomputable def xl(out:R)(o:Tr ab)(nx:Nat)(args:List V)(kc:CR->Option b8):Option b8:=
 match out.flat with
 |true=>kc (uk out o (nx+1))
 |false=>match out.fV with
  |true=>kc (uk out (sE o (ki o.get (V.aA args))) (nx+1))
  |false=>kc (uk out (sE o (bH o.get (V.aA args))) (nx+1))
noncomputable def rp(P:Program)(aK:Nat->FD)(md:il P)(rec:bM)(g:Nat)(args:List V)(o:Tr ab)(nx:Nat)(kc:CR->Option b8):Option b8:=
 match md.BB g,aR o.get args with
 |true,some ds=>match vI P aK md rec g ds with
  |some out=>xl out o nx args kc
  |none=>none
 |_,_=>ui P aK rec g args o nx kc
noncomputable def uo(id:Nat)(kc:CR->Option b8):Kt:=fun e s2=>
 match e with
 | .aJ v=>kc (.aJ v s2.o s2.nx)
 |e=>match s2.o.get id with
  | .loop nf m en p c d _ _=>match e with
    | .normal=>kc (.ret (.d (.bool true)) (s2.o.set id (.loop nf m en p c d .ready none)) s2.nx)
    | .ret=>kc (.ret (.d (.bool false)) (s2.o.set id (.loop nf m en p c d .done (some .ret))) s2.nx)
    | .exit j=>kc (.ret (.d (.bool false)) (s2.o.set id (.loop nf m en p c d .done (some (.exit j)))) s2.nx)
    | .aJ _=>none
  |_=>none
noncomputable def rq(rec:bM)(id nx n:Nat)(fI:IC)(kc:CR->Option b8):Kt:=fun e s1=>
 match e with
 | .normal=>match s1.o.get id with
   | .loop nf m en p c d .ready pd=>rec nx true n fI ⟨s1.env,s1.o.set id (.loop nf m en p c d .busy pd),s1.nx⟩ (uo id kc)
   |_=>none
 | .aJ v=>kc (.aJ v s1.o s1.nx)
 |_=>none
noncomputable def yq(P:Program)(rec:bM)(id:Nat)(args:List V)(o:Tr ab)(nx:Nat)(kc:CR->Option b8):Option b8:=
 match o.get id with
 | .loop nf n env ps iu fI _ _=>if nf=P.funcs.size/\id<nx/\ps.all (fun t=>decide (t<n))=true/\args.length=ps.length then
  rec nx true n iu ⟨.e (sx (eV env) ps args),o,nx⟩ (rq rec id nx n fI kc)
   else none
 |_=>none
noncomputable def m7(P:Program)(st:St)(o:aV)(kr:RO->Option b8):Option b8:=
 match vH o.op P st.S st.nx with
 |some (v,Δ,_)=>fH st.env o.dst v fun e=>lU st.o Δ fun ob=>Nat.fc (st.nx+1) fun n=>kr (.ok ⟨e,ob,n⟩)
 |none=>none
noncomputable def BC(st:St)(dst:Option Nat)(kr:RO->Option b8)(c:CR):Option b8:=
 match c with
 | .ret v o nx=>fH st.env dst v fun e=>Nat.fc nx fun nx=>kr (.ok ⟨e,o,nx⟩)
 | .aJ v o nx=>kr (.aJ v ⟨st.env,o,nx⟩)
noncomputable def uq(c:Call)(P:Program)(aK:Nat->FD)(md:il P)(rec:bM)(st:St)(o:aV)(kr:RO->Option b8):Option b8:=
 match c.callee with
 | .value f=>match st.S.ev f with
   | .func (.func g) first cap=>rp P aK md rec g (first++c.args.toList.map st.S.ev++cap) st.o st.nx (BC st o.dst kr)
   | .gW id=>yq P rec id (c.args.toList.map st.S.ev) st.o st.nx (BC st o.dst kr)
   |_=>none
 | .invoke r m=>match lq P m (st.S.ev r)with
   |some (g,y)=>rp P aK md rec g (y::c.args.toList.map st.S.ev) st.o st.nx (BC st o.dst kr)
   |none=>none
 |_=>m7 P st o kr
noncomputable def yr(x:Operand)(P:Program)(_:Nat->FD)(_:il P)(_:bM)(st:St)(_:aV)(kr:RO->Option b8):Option b8:=
 match st.S.ev x with
 | .d (.iface t y)=>kr (.aJ (.d (.iface t y)) st)
 | .iface t y=>kr (.aJ (.iface t y) st)
 |_=>none
noncomputable def BD(P:Program)(_:Nat->FD)(_:il P)(_:bM)(st:St)(o:aV)(kr:RO->Option b8):Option b8:=m7 P st o kr
def R.same:R->R->Bool
 | .ret a, .ret b=>D.cT a b
 | .aJ a, .aJ b=>a.same b
 |_,_=>false
theorem R.bY {x y:R}(h:x.same y=true):x=y:=by
 cases x<;>cases y<;>simp only[R.same,Bool.false_eq_true]at h
 ·rw[D.bF _ _ h]
 ·rw[D.bY _ _ h]
noncomputable def F2(f:Nat->Option b8):Nat->Option b8
 |0=>none
 |n+1=>match n with
  |0=>f 0
  |n=>match F2 f n with
   |some (.r a)=>match f n with
    |some (.r b)=>match R.same a b with
     |true=>some (.r a)
     |false=>none
    |_=>none
   |_=>none
theorem ur{f:Nat->Option b8}{a:b8}:∀ {n:Nat},F2 f n=some a->∀i,i<n->f i=some a
 |0,h,_,_=>by cases h
 |1,h,i,hi=>by obtain rfl:i=0:=by omega
               exact h
 |n+2,h,i,hi=>by
  simp only[F2]at h
  split at h
  ·rename_i x hx
   split at h
   ·rename_i y hy
    split at h
    ·rename_i he
     have e:=R.bY he
     subst e
     rw[<- h]
     by_cases e:i=n+1
     ·subst e;exact hy
     ·exact ur hx i (by omega)
    ·cases h
   ·cases h
  ·cases h
noncomputable def vJ(st:St)(dst:Option Nat)(kr:RO->Option b8)(v:V)(Δ:List (Nat×ab)):Option b8:=
 fH st.env dst v fun e=>lU st.o Δ fun ob=>Nat.fc (st.nx+1) fun n=>kr (.ok ⟨e,ob,n⟩)
noncomputable def uu(x:Operand)(str:Bool)(P:Program)(_:Nat->FD)(_:il P)(_:bM)(st:St)(o:aV)(kr:RO->Option b8):Option b8:=
 match iF st.o.get (st.S.ev x)with
 |some (id,l)=>match str with
  |true=>none
  |false=>match l with
   |[]=>vJ st o.dst kr (.a8 [.d (.bool false)]) []
   |_=>F2 (fun i=>match l[i]? with
    |some (k,x)=>vJ st o.dst kr (.a8 [.d (.bool true), .d k, .d x]) [(id, .kQ (l.eraseIdx i) (some (k,x)))]
    |none=>none) l.length
 |none=>m7 P st o kr
noncomputable def MU(op:Op):(P:Program)->(Nat->FD)->il P->bM->St->aV->(RO->Option b8)->Option b8:=
 match op with
 | .call c=>uq c
 | .panic x=>yr x
 | .next x str=>uu x str
 |_=>BD
noncomputable def F3(P:Program)(aK:Nat->FD)(md:il P)(rec:bM)(st:St)(o:aV)(kr:RO->Option b8):Option b8:=MU o.op P aK md rec st o kr
noncomputable def JY(next:St->Option b8)(kr:RO->Option b8):RO->Option b8:=fun r=>match r with| .ok st=>next st| .aJ v st=>kr (.aJ v st)
noncomputable def nY(P:Program)(aK:Nat->FD)(md:il P)(rec:bM)(kr:RO->Option b8):List aV->St->Option b8
 |[],st=>kr (.ok st)
 |o::l,st=>match(match o.gd with
   |none=>some true
   |some (d,want)=>match st.env.get d with
    | .d (.bool b)=>some (b==want)
    | .a8 []=>some false
    |_=>none)with
  |some true=>F3 P aK md rec st o (JY (nY P aK md rec kr l) kr)
  |some false=>fH st.env o.dst (.a8 []) fun e=>Nat.fc (st.nx+1) fun n=>nY P aK md rec kr l ⟨e,st.o,n⟩
  |none=>none
section
variable {P:Program}{aK:Nat->FD}{md:il P}
noncomputable def cf(P:Program)(rec:bM):Prop:=∀b rd n ic st k a,rec b rd n ic st k=some a->∀Q:eo->S->Prop,(∀e st',k e st'=some a->Q e st'.S)->ma P n b rd ic Q st.S
theorem kM{rs:List ResultVar}{st:St}{kc:CR->Option b8}{a:b8}(h:sF P rs st kc=some a){K X:V->(Nat->ab)->Nat->Prop}(hr:∀r,kc r=some a->r.to K X):fD P rs K X .ret st.S:=by
 unfold sF at h
 unfold fD
 split at h
 ·rename_i v hv;simp only[hv];exact hr _ h
 ·rename_i vs hv hn
  simp only[hn]
  exact hr _ h
 ·cases h
theorem gv(aC:P.follows .mixedOrders=true)(aZ:∀g,(aK g).Ok P g){rec:bM}(aF:cf P rec){g:Nat}{args:List V}{o:Tr ab}{nx:Nat}{kc:CR->Option b8}{a:b8}(h:ui P aK rec g args o nx kc=some a){K X:V->(Nat->ab)->Nat->Prop}(hr:∀r,kc r=some a->r.to K X):
 jE P g args o.get nx K X:=by
 have aI:=aZ g
 unfold ui at h
 split at h
 ·rename_i n ic rs ht
  rw[ht]at aI
  split at h
  ·rename_i hl
   refine jE.rh aC aI hl ?_
   refine aF _ _ _ _ _ _ _ h _ fun e st he=> ?_
   unfold xk at he
   cases e with
   |normal=>exact kM he hr
   |ret=>exact kM he hr
   |aJ v=>exact hr _ he
   |exit j=>cases he
  ·cases h
 ·rename_i n iu fI g' t dW rs m r0 r1 pz ht
  rw[ht]at aI
  split at h
  ·rename_i hl
   refine jE.ud aC aI.1 aI.2 hl (aF _ _ _ _ _ _ _ h _ fun e s1 he=> ?_)
   unfold rm at he
   cases e with
   |normal=>
    have hb:ma P n s1.nx false fI (qz P m r0 r1 pz (dW.map s1.S.ev) rs K X) ⟨cK s1.env.get t (.func (.func g') [] (dW.map s1.S.ev)),s1.o.get,s1.nx⟩:=by
     have:=aF _ _ _ _ _ _ _ he (qz P m r0 r1 pz (dW.map s1.S.ev) rs K X) (fun e s3 zH=>by
      unfold uh at zH
      split at zH
      ·rename_i u hu
       split at zH
       ·rename_i kq
        have MV:sC P m r0 r1 pz (dW.map s1.S.ev) u s3.o.get s3.nx fun o nx=>fD P rs K X .ret ⟨s3.env.get,o,nx⟩:=by
         refine⟨kq,aF _ _ _ _ _ _ _ zH _ fun e4 s4 F4=> ?_⟩
         unfold ug at F4
         cases e4 with
         |normal=>exact kM (st:=⟨s3.env,s4.o,s4.nx⟩) F4 hr
         |ret=>exact kM (st:=⟨s3.env,s4.o,s4.nx⟩) F4 hr
         |_=>cases F4
        cases e<;>simp only[Bz,Option.some.injEq,reduceCtorEq]at hu<;>subst hu<;>exact MV
       ·cases zH
      ·cases zH)
     simp only[St.S,Tr.dX]at this
     exact this
    exact hb
   |_=>cases he
  ·cases h
 ·cases h
theorem uv{r:CR}{out:R}(ho:rn r=some out):r.to (fun v o _=>∃vs rs,v=(match vs with|[v]=>v|vs=> .a8 vs)/\aR o vs=some rs/\out= .ret rs) (fun v o _=>∃x,cD o v=some x/\out= .aJ x):=by
 unfold rn at ho
 split at ho
 ·rename_i v o nx
  split at ho
  ·cases ho
  ·rename_i hv
   split at ho
   ·rename_i rs AJ
    injection ho with ho;subst ho
    refine⟨lV v,rs, ?_,AJ,rfl⟩
    cases v with
    |a8 vs=>
     match vs,hv with
     |[],_=>rfl
     |[x],hv=>exact absurd rfl (hv x)
     |_::_::_,_=>rfl
    |_=>rfl
   ·cases ho
 ·split at ho
  ·rename_i x hx
   injection ho with ho;subst ho
   exact⟨x,hx,rfl⟩
  ·cases ho
theorem pD(aC:P.follows .mixedOrders=true)(aZ:∀g,(aK g).Ok P g){rec:bM}(aF:cf P rec){g:Nat}{ds:List D}{out:R}(h:ui P aK rec g (ds.map .d) (.e fun _=> .no) 0 pC=some (.r out)):dN P g ds out:=by
 refine dN.ib (gv aC aZ aF h fun r hr=> ?_)
 obtain⟨x,hx,he⟩:=uj hr
 injection he with he;subst he
 exact uv hx
theorem nZ(aC:P.follows .mixedOrders=true)(aZ:∀g,(aK g).Ok P g){rec:bM}(aF:cf P rec){g:Nat}{ds:List D}{out:R}(h:vI P aK md rec g ds=some out):dN P g ds out:=by
 unfold vI at h
 split at h
 ·rename_i MW ho
  injection h with h;subst h
  exact md.ok _ _ _ ho
 ·split at h
  ·rename_i x hr;injection h with h;subst h;exact pD aC aZ aF hr
  ·cases h
theorem pE(aC:P.follows .mixedOrders=true)(aZ:∀g,(aK g).Ok P g){rec:bM}(aF:cf P rec){g:Nat}{args:List V}{o:Tr ab}{nx:Nat}{kc:CR->Option b8}{a:b8}(h:rp P aK md rec g args o nx kc=some a){K X:V->(Nat->ab)->Nat->Prop}(hr:∀r,kc r=some a->r.to K X):
 wZ P g args o.get nx K X:=by
 unfold rp at h
 split at h
 ·rename_i ds Nl dc
  split at h
  ·rename_i out uw
   have hP:=nZ aC aZ aF uw
   refine .inl ⟨ds,dc,out,hP, ?_⟩
   unfold xl at h
   split at h
   ·rename_i hf
    refine .inr (.inl ⟨hf, ?_⟩)
    cases out<;>exact hr _ h
   ·split at h
    ·rename_i hf
     refine .inr (.inr ⟨hf, ?_⟩)
     rw[<- ez]
     cases out<;>exact hr _ h
    ·refine .inl ?_
     rw[<- ez]
     cases out<;>exact hr _ h
  ·cases h
 ·exact .inr (gv aC aZ aF h hr)
theorem vK(aC:P.follows .mixedOrders=true){rec:bM}(aF:cf P rec){id:Nat}{args:List V}{o:Tr ab}{nx:Nat}{kc:CR->Option b8}{a:b8}(h:yq P rec id args o nx kc=some a){K X:V->(Nat->ab)->Nat->Prop}(hr:∀r,kc r=some a->r.to K X):
 ek P id args o.get nx K X:=by
 unfold yq at h
 split at h
 ·rename_i nf n env ps iu fI st pd ho
  split at h
  ·rename_i hc
   obtain⟨rfl,cm,Hd,hl⟩:=hc
   refine ek.rh aC ho cm Hd hl ?_
   refine aF _ _ _ _ _ _ _ h _ fun e s1 he=> ?_
   unfold rq at he
   cases e with
   |normal=>
    simp only at he
    split at he
    ·rename_i nf m en p c d pd kI
     refine⟨nf,m,en,p,c,d,pd,kI, ?_⟩
     have:=aF _ _ _ _ _ _ _ he (tZ id K X) (fun e s2 h2=>by
      unfold uo at h2
      split at h2
      ·exact hr _ h2
      ·rename_i wT
       split at h2
       ·rename_i BE m' Hm p' c' d' st' pd' yu
        cases e with
        |aJ v=>cases h2
        |normal=>have h3:=hr _ h2;simp only[CR.to,Tr.dX]at h3;exact⟨BE,m',Hm,p',c',d',st',pd',yu,h3⟩
        |ret=>have h3:=hr _ h2;simp only[CR.to,Tr.dX]at h3;exact⟨BE,m',Hm,p',c',d',st',pd',yu,h3⟩
        |exit j=>have h3:=hr _ h2;simp only[CR.to,Tr.dX]at h3;exact⟨BE,m',Hm,p',c',d',st',pd',yu,h3⟩
       ·cases h2)
     simp only[St.S,Tr.dX]at this
     exact this
    ·cases he
   |aJ v=>exact hr _ he
   |_=>cases he
  ·cases h
 ·cases h
theorem lW{st:St}{o:aV}{kr:RO->Option b8}{a:b8}(h:m7 P st o kr=some a){K:S->Prop}{X:V->S->Prop}(hr:∀r,kr r=some a->r.to K X):match dC P st.S st.S.nx o.op with
 |some (v,Δ,_)=>K ⟨ay st.S.env o.dst v,put st.S.o Δ,st.S.nx+1⟩
 |none=>False:=by
 unfold m7 at h
 split at h
 ·rename_i v Δ rd he
  have he:=rl he
  simp only[ec,gu,Nat.bd]at h
  have hr:=hr _ h
  simp only[RO.to,St.S,cc,ez]at hr
  have qI:dC P st.S st.S.nx o.op=some (v,Δ,rd):=he
  simp only[qI]
  exact hr
 ·cases h
theorem rr{st:St}{dst:Option Nat}{kr:RO->Option b8}{v:V}{Δ:List (Nat×ab)}{a:b8}(h:vJ st dst kr v Δ=some a){K:S->Prop}{X:V->S->Prop}(hr:∀r,kr r=some a->r.to K X):K ⟨ay st.S.env dst v,put st.S.o Δ,st.S.nx+1⟩:=by
 unfold vJ at h
 simp only[ec,gu,Nat.bd]at h
 have hr:=hr _ h
 simp only[RO.to,St.S,cc,ez]at hr
 exact hr
theorem yw(aC:P.follows .mixedOrders=true)(aZ:∀g,(aK g).Ok P g){rec:bM}(aF:cf P rec){st:St}{o:aV}{kr:RO->Option b8}{a:b8}(h:F3 P aK md rec st o kr=some a){K:S->Prop}{X:V->S->Prop}(hr:∀r,kr r=some a->r.to K X):x5 P st.S o X K:=by
 have cr:∀r,BC st o.dst kr r=some a->r.to (fun v o' nx'=>K ⟨ay st.S.env o.dst v,o',nx'⟩) (fun v o' nx'=>X v ⟨st.S.env,o',nx'⟩):=by
  intro r hx
  unfold BC at hx
  split at hx
  ·simp only[ec,Nat.bd]at hx
   have hr:=hr _ hx
   simp only[RO.to,St.S,cc]at hr
   exact hr
  ·exact hr _ hx
 unfold F3 at h
 unfold x5
 cases bL:o.op
 case call c=>
  rw[bL]at h
  have h:uq c P aK md rec st o kr=some a:=h
  unfold uq at h
  cases hf:c.callee
  case value f=>
   simp only[hf]at h|-
   split at h
   ·rename_i g first cap hv
    simp only[hv]
    have:=pE aC aZ aF h cr
    rcases this with⟨ds,dc,hP⟩|hC
    ·have yx:aR st.S.o (first++List.map st.S.ev c.args.toList++cap)=some ds:=dc
     simp only[yx]
     exact .inl hP
    ·split
     ·exact .inr (.inl hC)
     ·exact .inl hC
   ·rename_i id hv
    simp only[hv]
    exact vK aC aF h cr
   ·cases h
  case invoke r m=>
   simp only[hf]at h|-
   split at h
   ·rename_i g y hv
    simp only[hv]
    exact pE aC aZ aF h cr
   ·cases h
  all_goals
   simp only[hf]at h|-
   have:=lW h hr
   rw[bL]at this
   exact this
 case panic x=>
  rw[bL]at h
  have h:yr x P aK md rec st o kr=some a:=h
  unfold yr at h
  split at h
  ·rename_i hv;simp only[hv];exact hr _ h
  ·rename_i hv;simp only[hv];exact hr _ h
  ·cases h
 case next x str=>
  rw[bL]at h
  have h:uu x str P aK md rec st o kr=some a:=h
  unfold uu at h
  have hl:iF st.S.o (st.S.ev x)=iF st.o.get (st.S.ev x):=rfl
  simp only[hl]
  split at h
  ·rename_i id l ai
   simp only[ai]
   cases str with
   |true=>cases h
   |false=>
    refine⟨rfl,fun e=> ?_,fun i k y e=> ?_⟩
    ·subst e
     exact rr h hr
    ·cases l with
     |nil=>simp at e
     |cons p l=>
      have:=ur h i (List.getElem?_eq_some_iff.1 e).1
      rw[e]at this
      exact rr this hr
  ·rename_i ai
   simp only[ai]
   have:=lW h hr
   rw[bL]at this
   exact this
 all_goals
  have h2:m7 P st o kr=some a:=by rw[bL]at h;exact h
  have:=lW h2 hr
  rw[bL]at this
  exact this
theorem kN(aC:P.follows .mixedOrders=true)(aZ:∀g,(aK g).Ok P g){rec:bM}(aF:cf P rec){kr:RO->Option b8}{a:b8}{K:S->Prop}{X:V->S->Prop}(hr:∀r,kr r=some a->r.to K X):∀ (l:List aV) (st:St),nY P aK md rec kr l st=some a->jJ P X K l st.S
 |[],st,h=>hr (.ok st) h
 |o::l,st,h=>by
  simp only[nY,ec,Nat.bd]at h
  simp only[jJ]
  have op:F3 P aK md rec st o (JY (nY P aK md rec kr l) kr)=some a->x5 P st.S o X (jJ P X K l):=by
   intro h
   refine yw aC aZ aF h fun r JZ=> ?_
   cases r with
   |ok yy=>exact kN aC aZ aF hr l yy JZ
   |aJ v yy=>exact hr (.aJ v yy) JZ
  have sk:nY P aK md rec kr l ⟨j9 st.env o.dst (.a8 []),st.o,st.nx+1⟩=some a->jJ P X K l ⟨ay st.S.env o.dst (.a8 []),st.S.o,st.S.nx+1⟩:=by
   intro h
   have:=kN aC aZ aF hr l _ h
   simp only[St.S,cc]at this
   exact this
  cases hg:o.gd with
  |none=>simp only[hg]at h;exact op h
  |some p=>
   obtain⟨d,want⟩:=p
   simp only[hg]at h
   have he:st.S.env d=st.env.get d:=rfl
   simp only[he]
   cases hv:st.env.get d with
   |d x=>
    cases x with
    |bool b=>
     simp only[hv]at h|-
     by_cases e:b=want
     ·subst e
      simp only[beq_self_eq_true]at h
      rw[if_pos rfl];exact op h
     ·have:(b==want)=false:=by simpa using e
      rw[this]at h
      rw[if_neg e];exact sk h
    |_=>simp[hv]at h
   |a8 vs=>
    cases vs with
    |nil=>simp only[hv]at h|-;exact sk h
    |cons a aP=>simp[hv]at h
   |_=>simp[hv]at h
end
end Go.Proofs.YtpkobkdgcanmjaaGreat
namespace Go.Proofs.YtpkobkdgcanmjaaGreat
theorem qn.yz {P:Program}{g:FuncId}{ds:List D}{o:Nat->ab}{fr:Nat}{ty:TypeId}{sz:Nat}{es:List D}
 (h:jE P g (ds.map .d) (fun _=> .no) 0 (fun v o1 _=>(∃j ep,v= .osl j ep/\o1 j= .arr ep ty sz es)\/(v= .cu/\es=[]/\0<sz)) (fun _ _ _=>False)):
 qn P g (ds.map .d) [] o fr (.osl fr 0) [(fr, .arr 0 ty sz es)]:=by
 refine⟨h.1,fun o' us M φ w vals _ cE hH hd=> ?_⟩
 let a7:Place:=fun _=> .nilFunc
 have nG:∀b, ¬bf a7 (hp (fun _=> .no) 0) b:=by rintro b ⟨id,hl,_⟩;simp[hp,ab.live]at hl
 have hM:∀b,ad M φ ⟨o',us⟩ b->b<w.heap.size:=fun b hb=>hb.elim (hH.om b) fun hl=>(hH.ours b hl).2
 have mA:=(V.aX _ _).1 hd
 refine(h.2 (ad M φ ⟨o',us⟩) a7 w vals (gI a7 hM) ((V.aX _ _).2 (D.ax (w:=w) (w':=w) (B:=ad M φ ⟨o',us⟩) (fun b _ hB=>⟨rfl,fun h=>h.elim hB (nG b)⟩) _ _ mA))).mono ?_
 rintro e w' ⟨dM,o1,n1,v,k1,k2,k3⟩
 have hk:cw (fun _=>False) w w':=⟨k2.aW.os,k2.aW.tape,k2.aW.output,k2.aW.size,fun k hk _=>k2.aW.block k hk (nG k)⟩
 have Az:(⟨o',us⟩:Hp).put [(fr, .arr 0 ty sz es)]=⟨put o' [(fr, .arr 0 ty sz es)],fun id=>us id\/id=fr⟩:=by
  simp only[Hp.put]
  congr 1
  funext id
  simp
 have fin:∀ (val:Value) (xs:List Value),(∀b,cF val=some b->w.heap.size<=b/\b<w'.heap.size)->0<sz->w'.ownsRow 0 ty sz val es.length xs->
  (dx (ad M (cK φ fr val) ((⟨o',us⟩:Hp).put [(fr, .arr 0 ty sz es)])) w' sz es xs)->
  val.oneCell'=true->
  ∃aj,af M aj ⟨put o' [(fr, .arr 0 ty sz es)],fun id=>us id\/id=fr⟩ w'/\Trans φ ⟨o',us⟩ w aj ⟨put o' [(fr, .arr 0 ty sz es)],fun id=>us id\/id=fr⟩ w'/\
   ∃ux,Ending.returned val= .returned ux/\V.den (ad M aj ⟨put o' [(fr, .arr 0 ty sz es)],fun id=>us id\/id=fr⟩) aj ⟨put o' [(fr, .arr 0 ty sz es)],fun id=>us id\/id=fr⟩ w' (.osl fr 0) ux:=by
  intro val xs eg cG cA aM Hn
  have jd:=eh hH hk cE (.arr 0 ty sz es) val eg (by
   unfold aw
   rw[show((⟨o',us⟩:Hp).put [(fr, .arr 0 ty sz es)]).o fr= .arr 0 ty sz es by simp]
   refine⟨cG,xs, ?_,aM⟩
   rw[show cK φ fr val fr=val by simp]
   exact cA)
  have BF:=cz (φ:=φ) (H:=⟨o',us⟩) hk cE (.arr 0 ty sz es) val (fun b hb=>(eg b hb).1)
  rw[Az]at jd BF
  refine⟨cK φ fr val,jd,BF,val,rfl,Hn, .inr rfl,fun e he=> ?_⟩
  have qI:0=e:=by
   have:(put o' [(fr,ab.arr 0 ty sz es)] fr).aO=some 0:=by simp[put,ab.aO]
   rw[show(⟨put o' [(fr, .arr 0 ty sz es)],fun id=>us id\/id=fr⟩:Hp).o fr=put o' [(fr, .arr 0 ty sz es)] fr from rfl,this]at he
   injection he
  exact⟨by omega,fun _=>by simp⟩
 cases e with
 |outgrown=>exact k3.elim
 |panicked ch=>obtain⟨_,_,_,h⟩:=k3;exact h.elim
 |returned val=>
  obtain⟨g1,⟨j,ep,rfl,hj⟩|⟨rfl,rfl,cG⟩⟩:=k3
  ·obtain⟨v0,v1,v2⟩:=g1
   have dO:val=dM j:=(v2 ep (by show(o1 j).aO=some ep;rw[hj];rfl)).2 rfl
   have bR:∀b,cF val=some b->bf dM (hp o1 n1) b:=fun b hb=>⟨j,by show(o1 j).live=true;rw[hj];rfl,by rw[<- dO];exact hb⟩
   have eg:∀b,cF val=some b->w.heap.size<=b/\b<w'.heap.size:=fun b hb=>⟨(k2.grow b (bR b hb)).resolve_left (nG b),(k1.ours b (bR b hb)).2⟩
   have yA:=k1.ok j
   unfold aw at yA
   rw[show(hp o1 n1).o j= .arr ep ty sz es from hj]at yA
   obtain⟨cG,xs,cA,aM⟩:=yA
   have MX:∀b,ad M (cK φ fr val) ((⟨o',us⟩:Hp).put [(fr, .arr 0 ty sz es)]) b->ad (ad M φ ⟨o',us⟩) dM (hp o1 n1) b:=by
    rintro b (hb|⟨id,hl,hb⟩)
    ·exact .inl (.inl hb)
    ·by_cases e:id=fr
     ·subst e
      simp at hb
      exact .inr (bR b hb)
     ·simp[e]at hl hb
      exact .inl (.inr ⟨id,hl,hb⟩)
   exact fin val xs eg cG (by rw[dO];exact cA) (aM.mono (w:=w') (w':=w') (fun b _ hB=>⟨rfl,fun h=>hB (MX b h)⟩)) v0
  ·have g1:val= .slice none 0 0:=g1
   subst g1
   exact fin _ [] (fun b hb=>by cases hb) cG (World.ownsRow_nil w' 0 ty sz) ⟨[],rfl,by simp,rfl⟩ rfl
theorem qn.vL {P:Program}{g:FuncId}{args:List V}{ds:List D}{o:Nat->ab}{fr:Nat}{ty:TypeId}{sz:Nat}{es:List D}
 (dc:aR o args=some ds) (im:D.e8 es=true) (h:jE P g (ds.map .d) (fun _=> .no) 0 (fun v o1 _=>(∃j ep,v= .osl j ep/\o1 j= .arr ep ty sz es)\/(v= .cu/\es=[]/\0<sz)) (fun _ _ _=>False)):
 qn P g args (V.aA args) o fr (.osl fr 0) [(fr, .arr 0 ty sz es)]:=by
 refine⟨h.1,fun o' us M φ w vals J0 cE hH hd=> ?_⟩
 obtain⟨f1,f2,f3,f4,f5⟩:=bN hH (V.aA args) (fun id ai=>(J0 id ai).2)
 generalize Nm:(⟨o',us⟩:Hp).put (bH (⟨o',us⟩:Hp).o (V.aA args))=HF at f1 f2 f3
 let a7:Place:=fun _=> .nilFunc
 have nG:∀b, ¬bf a7 (hp (fun _=> .no) 0) b:=by rintro b ⟨id,hl,_⟩;simp[hp,ab.live]at hl
 have hM:∀b,ad M φ HF b->b<w.heap.size:=fun b hb=>hb.elim (f1.om b) fun hl=>(f1.ours b hl).2
 have mA:D.ak (ad M φ HF) w ds vals.toList:=bD f1 args ds _ (fun id ai=>by rw[f3 id ai];show(o' id).fz=(o id).fz;rw[(J0 id ai).1]) dc (V.ax f2 _ _ hd)
 refine(h.2 (ad M φ HF) a7 w vals (gI a7 hM) ((V.aX _ _).2 (D.ax (w:=w) (w':=w) (B:=ad M φ HF) (fun b _ hB=>⟨rfl,fun h=>h.elim hB (nG b)⟩) _ _ mA))).mono ?_
 rintro e w' ⟨dM,o1,n1,v,k1,k2,k3⟩
 have hk:cw (fun _=>False) w w':=⟨k2.aW.os,k2.aW.tape,k2.aW.output,k2.aW.size,fun k hk _=>k2.aW.block k hk (nG k)⟩
 have Az:(⟨o',us⟩:Hp).put [(fr, .arr 0 ty sz es)]=⟨put o' [(fr, .arr 0 ty sz es)],fun id=>us id\/id=fr⟩:=by
  simp only[Hp.put]
  congr 1
  funext id
  simp
 have fin:∀ (val:Value) (xs:List Value),(∀b,cF val=some b->w.heap.size<=b/\b<w'.heap.size)->0<sz->w'.ownsRow 0 ty sz val es.length xs->
  (dx (ad M (cK φ fr val) ((⟨o',us⟩:Hp).put [(fr, .arr 0 ty sz es)])) w' sz es xs)->
  val.oneCell'=true->
  ∃aj,af M aj ⟨put o' [(fr, .arr 0 ty sz es)],fun id=>us id\/id=fr⟩ w'/\Trans φ ⟨o',us⟩ w aj ⟨put o' [(fr, .arr 0 ty sz es)],fun id=>us id\/id=fr⟩ w'/\
   ∃ux,Ending.returned val= .returned ux/\V.den (ad M aj ⟨put o' [(fr, .arr 0 ty sz es)],fun id=>us id\/id=fr⟩) aj ⟨put o' [(fr, .arr 0 ty sz es)],fun id=>us id\/id=fr⟩ w' (.osl fr 0) ux:=by
  intro val xs eg cG cA aM Hn
  have jd:=eh hH hk cE (.arr 0 ty sz es) val eg (by
   unfold aw
   rw[show((⟨o',us⟩:Hp).put [(fr, .arr 0 ty sz es)]).o fr= .arr 0 ty sz es by simp]
   refine⟨cG,xs, ?_,aM⟩
   rw[show cK φ fr val fr=val by simp]
   exact cA)
  have BF:=cz (φ:=φ) (H:=⟨o',us⟩) hk cE (.arr 0 ty sz es) val (fun b hb=>(eg b hb).1)
  rw[Az]at jd BF
  refine⟨cK φ fr val,jd,BF,val,rfl,Hn, .inr rfl,fun e he=> ?_⟩
  have qI:0=e:=by
   have:(put o' [(fr,ab.arr 0 ty sz es)] fr).aO=some 0:=by simp[put,ab.aO]
   rw[show(⟨put o' [(fr, .arr 0 ty sz es)],fun id=>us id\/id=fr⟩:Hp).o fr=put o' [(fr, .arr 0 ty sz es)] fr from rfl,this]at he
   injection he
  exact⟨by omega,fun _=>by simp⟩
 cases e with
 |outgrown=>exact k3.elim
 |panicked ch=>obtain⟨_,_,_,h⟩:=k3;exact h.elim
 |returned val=>
  obtain⟨g1,⟨j,ep,rfl,hj⟩|⟨rfl,rfl,cG⟩⟩:=k3
  ·obtain⟨v0,v1,v2⟩:=g1
   have dO:val=dM j:=(v2 ep (by show(o1 j).aO=some ep;rw[hj];rfl)).2 rfl
   have bR:∀b,cF val=some b->bf dM (hp o1 n1) b:=fun b hb=>⟨j,by show(o1 j).live=true;rw[hj];rfl,by rw[<- dO];exact hb⟩
   have eg:∀b,cF val=some b->w.heap.size<=b/\b<w'.heap.size:=fun b hb=>⟨(k2.grow b (bR b hb)).resolve_left (nG b),(k1.ours b (bR b hb)).2⟩
   have yA:=k1.ok j
   unfold aw at yA
   rw[show(hp o1 n1).o j= .arr ep ty sz es from hj]at yA
   obtain⟨cG,xs,cA,aM⟩:=yA
   obtain⟨evs,e1,e2,e3⟩:=aM
   exact fin val xs eg cG (by rw[dO];exact cA) ⟨evs,e1,e2,D.fu _ _ im e3⟩ v0
  ·have g1:val= .slice none 0 0:=g1
   subst g1
   exact fin _ [] (fun b hb=>by cases hb) cG (World.ownsRow_nil w' 0 ty sz) ⟨[],rfl,by simp,rfl⟩ rfl
theorem qn.vM {P:Program}{g:FuncId}{args:List V}{ds:List D}{o0 o:Nat->ab}{rd:List Nat}{fr:Nat}{v:V}{Δ:List (Nat×ab)}(ai:V.aA args=[])(dc:aR o0 args=some ds)
 (h:qn P g (ds.map .d) rd o fr v Δ):qn P g args rd o fr v Δ:=
 ⟨h.1,fun o' us M φ w vals h1 h2 hH hd=>h.2 o' us M φ w vals h1 h2 hH ((V.aX _ _).2 (bD hH args ds _ (by rw[ai];intro id h;cases h) dc hd))⟩
end Go.Proofs.YtpkobkdgcanmjaaGreat
