/-
  A PART OF THE PROOF. Conditions: none.
-/
import Derived.Test.YtlhemmpklhhgoaaGreatQk9
set_option linter.unusedSimpArgs false
set_option linter.unusedVariables false
namespace Go.Proofs.YtlhemmpklhhgoaaGreat
section
inductive Tr (α:Type) where
 |e (f:Nat->α)
 |n (x:α) (l r:Tr α)
noncomputable def Tr.get {α:Type}(t:Tr α):Nat->α:=
 Tr.rec (motive:=fun _=>Nat->α) (fun f=>f) (fun x _ _ l r k=>Bool.rec (Bool.rec (r (Nat.sub (Nat.div k 2) 1)) (l (Nat.div k 2)) (Nat.beq (Nat.mod k 2) 1)) x (Nat.beq k 0)) t
theorem Tr.rG {α:Type}(f:Nat->α):(Tr.e f).get=f:=rfl
noncomputable def Tr.lK {α:Type}(x:α):Nat->Tr α->Nat->Tr α
 |0,t,k=> .e (cn t.get k x)
 |d+1, .e f,k=>match Nat.beq k 0 with
  |true=> .n x (.e fun i=>f (2*i+1)) (.e fun i=>f (2*i+2))
  |false=>match Nat.beq (k%2) 1 with
   |true=> .n (f 0) (Tr.lK x d (.e fun i=>f (2*i+1)) (k/2)) (.e fun i=>f (2*i+2))
   |false=> .n (f 0) (.e fun i=>f (2*i+1)) (Tr.lK x d (.e fun i=>f (2*i+2)) (k/2 - 1))
 |d+1, .n y l r,k=>match Nat.beq k 0 with
  |true=> .n x l r
  |false=>match Nat.beq (k%2) 1 with
   |true=> .n y (Tr.lK x d l (k/2)) r
   |false=> .n y l (Tr.lK x d r (k/2 - 1))
noncomputable def Tr.set {α:Type}(t:Tr α)(k:Nat)(x:α):Tr α:=Tr.lK x 24 t k
theorem Tr.lL {α:Type}{x:α}{l r:Tr α}{k:Nat}:(Tr.n x l r).get k=if k=0 then x else if k%2=1 then l.get (k/2)else r.get (k/2 - 1):=by
 show @Bool.rec (fun _=>α) (@Bool.rec (fun _=>α) (r.get (k/2 - 1)) (l.get (k/2)) (Nat.beq (k%2) 1)) x (Nat.beq k 0)=_
 by_cases h:k=0
 ·subst h;rfl
 ·have:Nat.beq k 0=false:=by cases k with|zero=>exact absurd rfl h|succ k=>rfl
  simp only[this,h,if_false]
  by_cases h2:k%2=1
  ·simp[h2]
  ·have:Nat.beq (k%2) 1=false:=by
    cases hb:Nat.beq (k%2) 1 with
    |false=>rfl
    |true=>exact absurd (Nat.eq_of_beq_eq_true hb) h2
   simp[h2,this]
theorem Tr.gh {α:Type}(x:α):∀ (d:Nat) (t:Tr α) (k:Nat),(Tr.lK x d t k).get=cn t.get k x
 |0,t,k=>rfl
 |d+1, .e f,k=>by
  funext i
  simp only[Tr.lK]
  have hb:∀a b:Nat,Nat.beq a b=decide (a=b):=fun a b=>by
   cases h:Nat.beq a b with
   |true=>simp[Nat.eq_of_beq_eq_true h]
   |false=>simp[Nat.ne_of_beq_eq_false h]
  rw[hb,hb]
  by_cases h:k=0
  ·subst h
   simp only[decide_true,Tr.lL,aq]
   by_cases hi:i=0
   ·simp[hi]
   ·simp only[hi,if_false]
    by_cases h2:i%2=1
    ·simp only[h2,if_true,Tr.rG];congr 1;omega
    ·simp only[h2,if_false,Tr.rG];congr 1;omega
  ·simp only[h,decide_false]
   by_cases hk:k%2=1
   ·simp only[hk,decide_true,Tr.lL,Tr.gh x d,aq,Tr.rG]
    by_cases hi:i=0
    ·exact vG
    ·simp only[hi,if_false]
     by_cases h2:i%2=1
     ·simp only[h2,if_true]
      have e1:2*(i/2)+1=i:=aN
      rw[e1]
      by_cases e:i=k
      ·simp[e]
      ·exact vB
     ·simp only[h2,if_false]
      rw[if_neg (by intro e;subst e;exact h2 hk)]
      congr 1;omega
   ·simp only[hk,decide_false,Tr.lL,Tr.gh x d,aq,Tr.rG]
    by_cases hi:i=0
    ·exact vG
    ·simp only[hi,if_false]
     by_cases h2:i%2=1
     ·simp only[h2,if_true]
      rw[if_neg (by intro e;subst e;exact hk h2)]
      congr 1;omega
     ·simp only[h2,if_false]
      have e1:2*(i/2 - 1)+2=i:=aN
      rw[e1]
      by_cases e:i=k
      ·simp[e]
      ·exact vB
 |d+1, .n y l r,k=>by
  funext i
  simp only[Tr.lK]
  have hb:∀a b:Nat,Nat.beq a b=decide (a=b):=fun a b=>by
   cases h:Nat.beq a b with
   |true=>simp[Nat.eq_of_beq_eq_true h]
   |false=>simp[Nat.ne_of_beq_eq_false h]
  rw[hb,hb]
  by_cases h:k=0
  ·subst h
   simp only[decide_true,Tr.lL,aq]
   by_cases hi:i=0
   ·simp[hi]
   ·simp[hi]
  ·simp only[h,decide_false]
   by_cases hk:k%2=1
   ·simp only[hk,decide_true,Tr.lL,Tr.gh x d,aq]
    by_cases hi:i=0
    ·exact vG
    ·simp only[hi,if_false]
     by_cases h2:i%2=1
     ·simp only[h2,if_true]
      by_cases e:i=k
      ·simp[e]
      ·exact vB
     ·simp only[h2,if_false]
      rw[if_neg (by intro e;subst e;exact h2 hk)]
   ·simp only[hk,decide_false,Tr.lL,Tr.gh x d,aq]
    by_cases hi:i=0
    ·exact vG
    ·simp only[hi,if_false]
     by_cases h2:i%2=1
     ·simp only[h2,if_true]
      rw[if_neg (by intro e;subst e;exact hk h2)]
     ·simp only[h2,if_false]
      by_cases e:i=k
      ·simp[e]
      ·exact vB
theorem Tr.df {α:Type}(t:Tr α)(k:Nat)(x:α):(t.set k x).get=cn t.get k x:=Tr.gh x 24 t k
noncomputable def Nat.fc {β:Type}(n:Nat)(c:Nat->β):β:=Nat.rec (motive:=fun _=>β) (c 0) (fun m _=>c (Nat.succ m)) n
theorem Nat.bc {β:Type}(n:Nat)(c:Nat->β):Nat.fc n c=c n:=by cases n<;>rfl
noncomputable def Int.fc {β:Type}(n:Int)(c:Int->β):β:=Int.rec (motive:=fun _=>β) (fun m=>Nat.fc m fun m=>c (.ofNat m)) (fun m=>Nat.fc m fun m=>c (.negSucc m)) n
theorem Int.bc {β:Type}(n:Int)(c:Int->β):Int.fc n c=c n:=by cases n<;>simp only[Int.fc,Nat.bc]
mutual
noncomputable def D.fc {β:Type}:D->(D->β)->β
 | .int k n,c=>Int.fc n fun n=>c (.int k n)
 | .bool b,c=>match b with|true=>c (.bool true)|false=>c (.bool false)
 | .agg l,c=>D.lM l fun l=>c (.agg l)
 | .sl l,c=>D.lM l fun l=>c (.sl l)
 | .iface t x,c=>D.fc x fun x=>c (.iface t x)
 | .str s,c=>c (.str s)
 | .dk,c=>c .dk
 | .fD,c=>c .fD
 | .e9,c=>c .e9
 | .ej,c=>c .ej
 | .mp ks vs,c=>D.lM ks fun ks=>D.lM vs fun vs=>c (.mp ks vs)
noncomputable def D.lM {β:Type}:List D->(List D->β)->β
 |[],c=>c []
 |x::xs,c=>D.fc x fun x=>D.lM xs fun xs=>c (x::xs)
end
mutual
theorem D.bc {β:Type}:∀ (x:D) (c:D->β),D.fc x c=c x
 | .int k n,c=>by simp only[D.fc,Int.bc]
 | .bool b,c=>by cases b<;>rfl
 | .agg l,c=>by simp only[D.fc,D.cO l]
 | .sl l,c=>by simp only[D.fc,D.cO l]
 | .iface t x,c=>by simp only[D.fc,D.bc x]
 | .mp ks vs,c=>by simp only[D.fc,D.cO ks,D.cO vs]
 | .str _,_| .dk,_| .fD,_| .e9,_| .ej,_=>by simp only[D.fc]
theorem D.cO {β:Type}:∀ (x:List D) (c:List D->β),D.lM x c=c x
 |[],c=>by simp only[D.lM]
 |x::xs,c=>by simp only[D.lM,D.bc x,D.cO xs]
end
mutual
noncomputable def V.fc {β:Type}:V->(V->β)->β
 | .d x,c=>D.fc x fun x=>c (.d x)
 | .agg l,c=>V.lM l fun l=>c (.agg l)
 | .a7 l,c=>V.lM l fun l=>c (.a7 l)
 | .ptr i o,c=>Nat.fc i fun i=>Nat.fc o fun o=>c (.ptr i o)
 | .osl i o,c=>Nat.fc i fun i=>Nat.fc o fun o=>c (.osl i o)
 | .pe a b i j k,c=>Nat.fc a fun a=>Nat.fc b fun b=>Nat.fc i fun i=>Nat.fc j fun j=>Nat.fc k fun k=>c (.pe a b i j k)
 | .pp l o,c=>D.lM l fun l=>Nat.fc o fun o=>c (.pp l o)
 | .func f a b,c=>V.lM a fun a=>V.lM b fun b=>c (.func f a b)
 | .iface t x,c=>V.fc x fun x=>c (.iface t x)
 | .jN l,c=>D.lM l fun l=>c (.jN l)
 | .oo i j k,c=>Nat.fc i fun i=>Nat.fc j fun j=>Nat.fc k fun k=>c (.oo i j k)
 | .mp i,c=>Nat.fc i fun i=>c (.mp i)
 | .jl i,c=>Nat.fc i fun i=>c (.jl i)
 | .cG,c=>c .cG
 | .bT,c=>c .bT
 | .c7,c=>c .c7
noncomputable def V.lM {β:Type}:List V->(List V->β)->β
 |[],c=>c []
 |x::xs,c=>V.fc x fun x=>V.lM xs fun xs=>c (x::xs)
end
mutual
theorem V.bc {β:Type}:∀ (x:V) (c:V->β),V.fc x c=c x
 | .d x,c=>by simp only[V.fc,D.bc]
 | .agg l,c=>by simp only[V.fc,V.cO l]
 | .a7 l,c=>by simp only[V.fc,V.cO l]
 | .pp l o,c=>by simp only[V.fc,D.cO,Nat.bc]
 | .func f a b,c=>by simp only[V.fc,V.cO a,V.cO b]
 | .iface t x,c=>by simp only[V.fc,V.bc x]
 | .jN l,c=>by simp only[V.fc,D.cO]
 | .ptr _ _,_| .osl _ _,_| .pe _ _ _ _ _,_| .oo _ _ _,_| .mp _,_| .jl _,_| .cG,_| .bT,_| .c7,_=>by simp only[V.fc,Nat.bc]
theorem V.cO {β:Type}:∀ (x:List V) (c:List V->β),V.lM x c=c x
 |[],c=>by simp only[V.lM]
 |x::xs,c=>by simp only[V.lM,V.bc x,V.cO xs]
end
section
variable {β:Type}
noncomputable def DX(k:IntKind)(n:Int)(c:V->β):β:=Int.fc n fun n=>c (.d (.int k n))
noncomputable def DY(b:Bool)(c:V->β):β:= @Bool.rec (fun _=>β) (c (.d (.bool false))) (c (.d (.bool true))) b
noncomputable def zJ(x:D)(c:V->β):β:=D.fc x fun x=>c (.d x)
noncomputable def vD(x:D):(V->β)->β:=match x with| .int k n=>DX k n| .bool b=>DY b|x=>zJ x
noncomputable def DZ(i o:Nat)(c:V->β):β:=Nat.fc i fun i=>Nat.fc o fun o=>c (.ptr i o)
noncomputable def D0(i o:Nat)(c:V->β):β:=Nat.fc i fun i=>Nat.fc o fun o=>c (.osl i o)
noncomputable def Ls(a b i j k:Nat)(c:V->β):β:=Nat.fc a fun a=>Nat.fc b fun b=>Nat.fc i fun i=>Nat.fc j fun j=>Nat.fc k fun k=>c (.pe a b i j k)
noncomputable def V.Bi (v:V):(V->β)->β:=match v with| .d x=>vD x| .ptr i o=>DZ i o| .osl i o=>D0 i o| .pe a b i j k=>Ls a b i j k|v=>V.fc v
theorem V.zK (v:V)(c:V->β):V.Bi v c=c v:=by
 cases v
 case d x=>
  cases x
  case int k n=>simp only[V.Bi,vD,DX,Int.bc]
  case bool b=>cases b<;>rfl
  all_goals exact D.bc _ _
 case ptr i o=>simp only[V.Bi,DZ,Nat.bc]
 case osl i o=>simp only[V.Bi,D0,Nat.bc]
 case pe a b i j k=>simp only[V.Bi,Ls,Nat.bc]
 all_goals exact V.bc _ _
end
noncomputable def Bj{β:Type}:List (D×D)->(List (D×D)->β)->β
 |[],c=>c []
 |(a,b)::l,c=>D.fc a fun a=>D.fc b fun b=>Bj l fun l=>c ((a,b)::l)
theorem uF{β:Type}:∀ (x:List (D×D)) (c:List (D×D)->β),Bj x c=c x
 |[],c=>rfl
 |(a,b)::l,c=>by simp only[Bj,D.bc,uF l]
noncomputable def aa.fc {β:Type}(x:aa)(c:aa->β):β:=
 match x with
 | .row cs=>V.lM cs fun cs=>c (.row cs)
 | .arr e t s es=>Nat.fc e fun e=>Nat.fc s fun s=>D.lM es fun es=>c (.arr e t s es)
 | .l5 e es=>Nat.fc e fun e=>D.lM es fun es=>c (.l5 e es)
 | .map kt vt l=>Bj l fun l=>c (.map kt vt l)
 | .dm l=>Bj l fun l=>c (.dm l)
 | .l8 l last=>Bj l fun l=>c (.l8 l last)
 | .pX l pos=>Nat.fc pos fun pos=>c (.pX l pos)
 |x=>c x
theorem aa.bc {β:Type}(x:aa)(c:aa->β):aa.fc x c=c x:=by cases x<;>simp only[aa.fc,V.cO,D.cO,Nat.bc,uF]
noncomputable def Tr.m8 {α β:Type}(x:α)(d:Nat):Tr α->Nat->(Tr α->β)->β:=
 Nat.rec (motive:=fun _=>Tr α->Nat->(Tr α->β)->β) (fun t k c=>c (.e (cn t.get k x)))
  (fun _ ih t k c=>Tr.rec (motive:=fun _=>β) (fun f=>
   Bool.rec (Bool.rec (ih (.e fun i=>f (2*i+2)) (Nat.sub (Nat.div k 2) 1) fun r=>c (.n (f 0) (.e fun i=>f (2*i+1)) r)) (ih (.e fun i=>f (2*i+1)) (Nat.div k 2) fun l=>c (.n (f 0) l (.e fun i=>f (2*i+2)))) (Nat.beq (Nat.mod k 2) 1))
    (c (.n x (.e fun i=>f (2*i+1)) (.e fun i=>f (2*i+2)))) (Nat.beq k 0))
   (fun y l r _ _=>Bool.rec (Bool.rec (ih r (Nat.sub (Nat.div k 2) 1) fun r=>c (.n y l r)) (ih l (Nat.div k 2) fun l=>c (.n y l r)) (Nat.beq (Nat.mod k 2) 1)) (c (.n x l r)) (Nat.beq k 0)) t) d
theorem Tr.lN {α β:Type}(x:α):∀ (d:Nat) (t:Tr α) (k:Nat) (c:Tr α->β),Tr.m8 x d t k c=c (Tr.lK x d t k)
 |0,t,k,c=>rfl
 |d+1, .e f,k,c=>by
  show @Bool.rec (fun _=>β) (@Bool.rec (fun _=>β) (Tr.m8 x d (.e fun i=>f (2*i+2)) (k/2 - 1) fun r=>c (.n (f 0) (.e fun i=>f (2*i+1)) r)) (Tr.m8 x d (.e fun i=>f (2*i+1)) (k/2) fun l=>c (.n (f 0) l (.e fun i=>f (2*i+2)))) (Nat.beq (k%2) 1)) (c (.n x (.e fun i=>f (2*i+1)) (.e fun i=>f (2*i+2)))) (Nat.beq k 0)=_
  simp only[Tr.lK,Tr.lN x d]
  cases Nat.beq k 0
  ·cases Nat.beq (k%2) 1<;>rfl
  ·rfl
 |d+1, .n y l r,k,c=>by
  show @Bool.rec (fun _=>β) (@Bool.rec (fun _=>β) (Tr.m8 x d r (k/2 - 1) fun r=>c (.n y l r)) (Tr.m8 x d l (k/2) fun l=>c (.n y l r)) (Nat.beq (k%2) 1)) (c (.n x l r)) (Nat.beq k 0)=_
  simp only[Tr.lK,Tr.lN x d]
  cases Nat.beq k 0
  ·cases Nat.beq (k%2) 1<;>rfl
  ·rfl
noncomputable def Tr.zL {α β:Type}(t:Tr α)(k:Nat)(x:α)(c:Tr α->β):β:=Tr.m8 x 24 t k c
theorem Tr.rH {α β:Type}(t:Tr α)(k:Nat)(x:α)(c:Tr α->β):t.zL k x c=c (t.set k x):=Tr.lN x 24 t k c
structure St where
 env:Tr V
 o:Tr aa
 nx:Nat
noncomputable def St.S (st:St):S:=⟨st.env.get,st.o.get,st.nx⟩
noncomputable def s5(o:Tr aa)(Δ:List (Nat×aa)):Tr aa:=Δ.foldl (fun f x=>f.set x.1 x.2) o
noncomputable def j8(env:Tr V)(dst:Option Tmp)(v:V):Tr V:=match dst with|some d=>env.set d v|none=>env
noncomputable def lO{β:Type}(o:Tr aa):List (Nat×aa)->(Tr aa->β)->β
 |[],c=>c o
 |(i,x)::Δ,c=>aa.fc x fun x=>o.zL i x fun o=>lO o Δ c
theorem gk{β:Type}:∀ (Δ:List (Nat×aa)) (o:Tr aa) (c:Tr aa->β),lO o Δ c=c (s5 o Δ)
 |[],o,c=>rfl
 |(i,x)::Δ,o,c=>by simp only[lO,aa.bc,Tr.rH,gk Δ];rfl
noncomputable def fy{β:Type}(env:Tr V)(dst:Option Tmp)(v:V)(c:Tr V->β):β:=match dst with|some d=>V.Bi v fun v=>env.zL d v c|none=>c env
theorem dU{β:Type}(env:Tr V)(dst:Option Tmp)(v:V)(c:Tr V->β):fy env dst v c=c (j8 env dst v):=by
 cases dst<;>simp only[fy,j8,V.zK,Tr.rH]
theorem eh:∀ (Δ:List (Nat×aa)) (o:Tr aa),(s5 o Δ).get=put o.get Δ
 |[],_=>rfl
 |x::Δ,o=>by
  simp only[s5,put,List.foldl_cons]
  have:=eh Δ (o.set x.1 x.2)
  simp only[s5,put]at this
  rw[this,Tr.df]
theorem dQ(env:Tr V)(dst:Option Tmp)(v:V):(j8 env dst v).get=az env.get dst v:=by
 cases dst<;>simp[j8,az,Tr.df]
section zM
def x4(x:Operand)(_:Program)(s:S)(_:Nat):Option dn:=one (s.ev x)
def D1(c a b:Operand)(_:Program)(s:S)(_:Nat):Option dn:=fu (ja (s.ev c) (s.ev a) (s.ev b))
def zN(t:TypeId)(parts:Array (Nat×Operand))(P:Program)(s:S)(_:Nat):Option dn:=fu (nM P t (parts.toList.map fun p=>(p.1,s.ev p.2)))
def pK(t:TypeId)(len:Nat)(parts:Array (Nat×Operand))(P:Program)(s:S)(fr:Nat):Option dn:=cZ P s.o fr t len (parts.toList.map fun p=>(p.1,s.ev p.2))
def D2(t:TypeId)(x:Operand)(P:Program)(s:S)(_:Nat):Option dn:=fX P s.o t (s.ev x)
def zO(t:TypeId)(x v:Operand)(P:Program)(s:S)(_:Nat):Option dn:=jE P s.o t (s.ev x) (s.ev v)
def Jz(x:Operand)(_:Program)(s:S)(_:Nat):Option dn:=fu (dS s.o (s.ev x))
noncomputable def D3(op:BinOp):IntKind->Int->Int->Option V:=
 match op with
 | .add=>fun k a b=>some (.d (.int k (k.wrap (Int.add a b))))
 | .sub=>fun k a b=>some (.d (.int k (k.wrap (Int.sub a b))))
 | .mul=>fun k a b=>some (.d (.int k (k.wrap (Int.mul a b))))
 |op=>pn op
theorem wz(op:BinOp):D3 op=pn op:=by cases op<;>rfl
def asInt(x:V):Option (IntKind×Int):=match x with| .d (.int k a)=>some (k,a)|_=>none
def uG(op:BinOp)(t:TypeId)(c:Bool)(x y:V)(P:Program)(o:Nat->aa):Option dn:=cK P o op t c x y
noncomputable def D4(op:BinOp)(t:TypeId)(x y:Operand)(P:Program)(s:S)(_:Nat):Option dn:=
 match asInt (s.ev x)with
 |some (k,a)=>match asInt (s.ev y)with
  |some (k',b)=>if k=k' then match D3 op k a b with
   |some v=>some (v,[],[])
   |none=>uG op t (isConst x||isConst y) (s.ev x) (s.ev y) P s.o
   else none
  |none=>uG op t (isConst x||isConst y) (s.ev x) (s.ev y) P s.o
 |none=>uG op t (isConst x||isConst y) (s.ev x) (s.ev y) P s.o
theorem pL{x:V}{k:IntKind}{a:Int}(h:asInt x=some (k,a)):x= .d (.int k a):=by
 unfold asInt at h;split at h
 ·injection h with h;cases h;rfl
 ·cases h
def qN(t:TypeId)(x:Operand)(f:Nat)(P:Program)(s:S)(_:Nat):Option dn:=fu (dv P s.o t (s.ev x) f)
def qO(t:TypeId)(x i:Operand)(P:Program)(s:S)(_:Nat):Option dn:=du P s.o t (s.ev x) (s.ev i)
def zP(op:Op)(P:Program)(s:S)(fr:Nat):Option dn:=dw P s fr op
noncomputable def wA(op:Op):Program->S->Nat->Option dn:=
 match op with
 | .move x=>x4 x
 | .assign x=>x4 x
 | .pick c a b=>D1 c a b
 | .build t parts=>zN t parts
 | .buildSlice t len parts=>pK t len parts
 | .load t x=>D2 t x
 | .store t x v=>zO t x v
 | .nilCheck x=>Jz x
 | .binOp op t x y _=>D4 op t x y
 | .fieldAddr t x f=>qN t x f
 | .indexAddr t x i=>qO t x i
 |op=>zP op
theorem rI{op:Op}{P:Program}{s:S}{fr:Nat}{r:dn}(h:wA op P s fr=some r):dw P s fr op=some r:=by
 cases op
 case binOp op t x y yt=>
  simp only[wA,D4,wz]at h
  have e:dw P s fr (.binOp op t x y yt)=cK P s.o op t (isConst x||isConst y) (s.ev x) (s.ev y):=rfl
  rw[e]
  split at h
  ·rename_i k a hx
   split at h
   ·rename_i k' b hy
    split at h
    ·rename_i hk
     split at h
     ·rename_i v hv
      unfold cK nL
      simp only[pL hx,pL hy,if_pos hk,hv]
      exact h
     ·exact h
    ·cases h
   ·exact h
  ·exact h
 all_goals exact h
end zM
inductive FD where
 |fn (n:Nat) (ic:IC) (rs:List ResultVar)
 |JA (n:Nat) (gU eY:IC) (g t:Nat) (dP:List Operand) (rs:List ResultVar) (m r r1:Nat) (pJ:IC)
 |JB
 |no
def FD.Ok (P:Program)(f:Nat):FD->Prop
 | .fn n ic rs=>ay P f n ic rs
 | .JA n gU eY g t dP rs m r r1 pJ=>uA P f n gU eY g t dP rs/\rE P g m r r1 pJ
 | .JB=>rF P f
 | .no=>True
inductive CR where
 |ret (v:V) (o:Tr aa) (nx:Nat)|aJ (v:V) (o:Tr aa) (nx:Nat)
def CR.to (K X:V->(Nat->aa)->Nat->Prop):CR->Prop
 | .ret v o nx=>K v o.get nx
 | .aJ v o nx=>X v o.get nx
inductive RO where
 |ok (st:St)|aJ (v:V) (st:St)
def RO.to (K:S->Prop)(X:V->S->Prop):RO->Prop
 | .ok st=>K st.S
 | .aJ v st=>X v st.S
inductive b6 where
 |r (x:R)|c (x:CR)
abbrev Kt:=dM->St->Option b6
abbrev bJ:=Nat->Bool->Nat->IC->St->Kt->Option b6
noncomputable def s6(P:Program)(rs:List ResultVar)(st:St)(kc:CR->Option b6):Option b6:=
 match fl P st.S rs with
 |some [v]=>kc (.ret v st.o st.nx)
 |some vs=>kc (.ret (.a7 vs) st.o st.nx)
 |none=>none
noncomputable def x5(P:Program)(rs:List ResultVar)(kc:CR->Option b6):Kt:=fun e st=>
 match e with
 | .normal=>s6 P rs st kc
 | .ret=>s6 P rs st kc
 | .aJ v=>kc (.aJ v st.o st.nx)
 | .exit _=>none
noncomputable def uH(P:Program)(rs:List ResultVar)(kc:CR->Option b6)(env:Tr V):Kt:=fun e s4=>
 match e with
 | .normal=>s6 P rs ⟨env,s4.o,s4.nx⟩ kc
 | .ret=>s6 P rs ⟨env,s4.o,s4.nx⟩ kc
 |_=>none
def D5:dM->Option V
 | .normal=>some (.d .dk)
 | .ret=>some (.d .dk)
 | .aJ v=>some v
 | .exit _=>none
noncomputable def uI(P:Program)(rec:bJ)(rs:List ResultVar)(gJ:List V)(m r r1:Nat)(pJ:IC)(kc:CR->Option b6):Kt:=fun e s3=>
 match D5 e with
 |some u=>if gJ.length<=m then rec s3.nx true m pJ ⟨.e (cn (cn (br gJ) r u) r1 u),s3.o,s3.nx⟩ (uH P rs kc s3.env)else none
 |none=>none
noncomputable def rJ(P:Program)(rec:bJ)(n t:Nat)(eY:IC)(g:Nat)(dP:List Operand)(rs:List ResultVar)(m r r1:Nat)(pJ:IC)(kc:CR->Option b6):Kt:=fun e s1=>
 match e with
 | .normal=>rec s1.nx false n eY ⟨s1.env.set t (.func (.func g) [] (dP.map s1.S.ev)),s1.o,s1.nx⟩ (uI P rec rs (dP.map s1.S.ev) m r r1 pJ kc)
 |_=>none
noncomputable def uJ(P:Program)(aG:Nat->FD)(rec:bJ)(g:Nat)(args:List V)(o:Tr aa)(nx:Nat)(kc:CR->Option b6):Option b6:=
 match aG g with
 | .fn n ic rs=>if args.length<=n then rec nx false n ic ⟨.e (br args),o,nx⟩ (x5 P rs kc)else none
 | .JA n gU eY g t dP rs m r r1 pJ=>if args.length<=n then rec nx true n gU ⟨.e (br args),o,nx⟩ (rJ P rec n t eY g dP rs m r r1 pJ kc)else none
 | .JB=>match args with
   |[.mp id]=>match o.get id with
    | .map kt vt l=>kc (.ret (.mp nx) (o.set nx (.map kt vt l)) (nx+1))
    | .dm l=>kc (.ret (.mp nx) (o.set nx (.map 0 0 l)) (nx+1))
    |_=>none
   |_=>none
 | .no=>none
def lP:V->List V
 | .a7 vs=>vs
 |v=>[v]
noncomputable def rK(r:CR):Option R:=
 match r with
 | .ret v o _=>match v with
   | .a7 [_]=>none
   |v=>match aT o.get (lP v)with
    |some rs=>some (.ret rs)
    |none=>none
 | .aJ v o _=>match cN o.get v with
   |some x=>some (.aJ x)
   |none=>none
noncomputable def D6{β:Type}(x:R)(c:R->β):β:=match x with| .ret l=>D.lM l fun l=>c (.ret l)| .aJ d=>D.fc d fun d=>c (.aJ d)
theorem qP{β:Type}(x:R)(c:R->β):D6 x c=c x:=by cases x<;>simp only[D6,D.cO,D.bc]
noncomputable def pM(r:CR):Option b6:=match rK r with|some x=>D6 x fun x=>some (.r x)|none=>none
theorem uK{r:CR}{a:b6}(h:pM r=some a):∃x,rK r=some x/\a= .r x:=by
 unfold pM at h
 split at h
 ·rename_i x hx;rw[qP]at h;injection h with h;exact⟨x,hx,h.symm⟩
 ·cases h
def uL(out:R)(o:Tr aa)(nx:Nat):CR:=
 match out with
 | .ret rs=> .ret (fE rs) o nx
 | .aJ x=> .aJ (.d x) o nx
structure gm (P:Program) where
 D7:Nat->Bool
 fx:Nat->List D->Option R
 ok:∀g ds out,fx g ds=some out->bt P g ds out
def uM(l:List (Nat×List D×R))(g:Nat)(ds:List D):Option R:=
 match l with
 |[]=>none
 |x::l=>match Nat.beq x.1 g with
  |true=>match D.cW x.2.1 ds with
   |true=>some x.2.2
   |false=>uM l g ds
  |false=>uM l g ds
theorem n3{P:Program}:∀ {l:List (Nat×List D×R)},(∀x∈l,bt P x.1 x.2.1 x.2.2)->∀g ds out,uM l g ds=some out->bt P g ds out
 |[],_,_,_,_,h=>by cases h
 |x::l,hl,g,ds,out,h=>by
  simp only[uM]at h
  split at h
  ·rename_i hg
   split at h
   ·rename_i hd
    injection h with h
    have:=hl x aU
    rw[Nat.eq_of_beq_eq_true hg,D.bL _ _ hd,h]at this
    exact this
   ·exact n3 (fun y hy=>hl y (by simp[hy])) g ds out h
  ·exact n3 (fun y hy=>hl y (by simp[hy])) g ds out h
def gm.of {P:Program}(D7:Nat->Bool)(l:List (Nat×List D×R))(h:∀x∈l,bt P x.1 x.2.1 x.2.2):gm P:=⟨D7,uM l,n3 h⟩
noncomputable def wB(P:Program)(aG:Nat->FD)(md:gm P)(rec:bJ)(g:Nat)(ds:List D):Option R:=
 match md.fx g ds with
 |some out=>some out
 |none=>match uJ P aG rec g (ds.map .d) (.e fun _=> .no) 0 pM with
  |some (.r x)=>some x
  |_=>none
noncomputable def x6(out:R)(o:Tr aa)(nx:Nat)(args:List V)(kc:CR->Option b6):Option b6:=
 match out.flat with
 |true=>kc (uL out o (nx+1))
 |false=>match out.fR with
  |true=>kc (uL out (s5 o (kj o.get (V.aC args))) (nx+1))
  |false=>kc (uL out (s5 o (bH o.get (V.aC args))) (nx+1))
noncomputable def rL(P:Program)(aG:Nat->FD)(md:gm P)(rec:bJ)(g:Nat)(args:List V)(o:Tr aa)(nx:Nat)(kc:CR->Option b6):Option b6:=
 match md.D7 g,aT o.get args with
 |true,some ds=>match wB P aG md rec g ds with
  |some out=>x6 out o nx args kc
  |none=>none
 |_,_=>uJ P aG rec g args o nx kc
noncomputable def uN(id:Nat)(kc:CR->Option b6):Kt:=fun e s2=>
 match e with
 | .aJ v=>kc (.aJ v s2.o s2.nx)
 |e=>match s2.o.get id with
  | .loop nf m en p c d _ _=>match e with
    | .normal=>kc (.ret (.d (.bool true)) (s2.o.set id (.loop nf m en p c d .ready none)) s2.nx)
    | .ret=>kc (.ret (.d (.bool false)) (s2.o.set id (.loop nf m en p c d .done (some .ret))) s2.nx)
    | .exit j=>kc (.ret (.d (.bool false)) (s2.o.set id (.loop nf m en p c d .done (some (.exit j)))) s2.nx)
    | .aJ _=>none
  |_=>none
noncomputable def rM(rec:bJ)(id nx n:Nat)(eY:IC)(kc:CR->Option b6):Kt:=fun e s1=>
 match e with
 | .normal=>match s1.o.get id with
   | .loop nf m en p c d .ready pd=>rec nx true n eY ⟨s1.env,s1.o.set id (.loop nf m en p c d .busy pd),s1.nx⟩ (uN id kc)
   |_=>none
 | .aJ v=>kc (.aJ v s1.o s1.nx)
 |_=>none
noncomputable def zQ(P:Program)(rec:bJ)(id:Nat)(args:List V)(o:Tr aa)(nx:Nat)(kc:CR->Option b6):Option b6:=
 match o.get id with
 | .loop nf n env ps gU eY _ _=>if nf=P.funcs.size/\id<nx/\ps.all (fun t=>decide (t<n))=true/\args.length=ps.length then
  rec nx true n gU ⟨.e (sU (gS env) ps args),o,nx⟩ (rM rec id nx n eY kc)
   else none
 |_=>none
noncomputable def m9(P:Program)(st:St)(o:aP)(kr:RO->Option b6):Option b6:=
 match wA o.op P st.S st.nx with
 |some (v,Δ,_)=>fy st.env o.dst v fun e=>lO st.o Δ fun ob=>Nat.fc (st.nx+1) fun n=>kr (.ok ⟨e,ob,n⟩)
 |none=>none
noncomputable def D8(st:St)(dst:Option Nat)(kr:RO->Option b6)(c:CR):Option b6:=
 match c with
 | .ret v o nx=>fy st.env dst v fun e=>Nat.fc nx fun nx=>kr (.ok ⟨e,o,nx⟩)
 | .aJ v o nx=>kr (.aJ v ⟨st.env,o,nx⟩)
noncomputable def uO(c:Call)(P:Program)(aG:Nat->FD)(md:gm P)(rec:bJ)(st:St)(o:aP)(kr:RO->Option b6):Option b6:=
 match c.callee with
 | .value f=>match st.S.ev f with
   | .func (.func g) first cap=>rL P aG md rec g (first++c.args.toList.map st.S.ev++cap) st.o st.nx (D8 st o.dst kr)
   | .jl id=>zQ P rec id (c.args.toList.map st.S.ev) st.o st.nx (D8 st o.dst kr)
   |_=>none
 | .invoke r m=>match lk P m (st.S.ev r)with
   |some (g,y)=>rL P aG md rec g (y::c.args.toList.map st.S.ev) st.o st.nx (D8 st o.dst kr)
   |none=>none
 |_=>m9 P st o kr
noncomputable def zR(x:Operand)(P:Program)(_:Nat->FD)(_:gm P)(_:bJ)(st:St)(_:aP)(kr:RO->Option b6):Option b6:=
 match st.S.ev x with
 | .d (.iface t y)=>kr (.aJ (.d (.iface t y)) st)
 | .iface t y=>kr (.aJ (.iface t y) st)
 |_=>none
noncomputable def D9(P:Program)(_:Nat->FD)(_:gm P)(_:bJ)(st:St)(o:aP)(kr:RO->Option b6):Option b6:=m9 P st o kr
def R.same:R->R->Bool
 | .ret a, .ret b=>D.cW a b
 | .aJ a, .aJ b=>a.same b
 |_,_=>false
theorem R.bY {x y:R}(h:x.same y=true):x=y:=by
 cases x<;>cases y<;>simp only[R.same,Bool.false_eq_true]at h
 ·rw[D.bL _ _ h]
 ·rw[D.bY _ _ h]
noncomputable def HJ(f:Nat->Option b6):Nat->Option b6
 |0=>none
 |n+1=>match n with
  |0=>f 0
  |n=>match HJ f n with
   |some (.r a)=>match f n with
    |some (.r b)=>match R.same a b with
     |true=>some (.r a)
     |false=>none
    |_=>none
   |_=>none
theorem uP{f:Nat->Option b6}{a:b6}:∀ {n:Nat},HJ f n=some a->∀i,i<n->f i=some a
 |0,h,_,_=>by cases h
 |1,h,i,hi=>by obtain rfl:i=0:=aN
               exact h
 |n+2,h,i,hi=>by
  simp only[HJ]at h
  split at h
  ·rename_i x hx
   split at h
   ·rename_i y hy
    split at h
    ·rename_i he
     have e:=R.bY he
     subst e
     rw[<- h]
     by_cases e:i=n+1
     ·subst e;exact hy
     ·exact uP hx i aN
    ·cases h
   ·cases h
  ·cases h
noncomputable def wC(st:St)(dst:Option Nat)(kr:RO->Option b6)(v:V)(Δ:List (Nat×aa)):Option b6:=
 fy st.env dst v fun e=>lO st.o Δ fun ob=>Nat.fc (st.nx+1) fun n=>kr (.ok ⟨e,ob,n⟩)
noncomputable def uQ(x:Operand)(str:Bool)(P:Program)(_:Nat->FD)(_:gm P)(_:bJ)(st:St)(o:aP)(kr:RO->Option b6):Option b6:=
 match iD st.o.get (st.S.ev x)with
 |some (id,l)=>match str with
  |true=>none
  |false=>match l with
   |[]=>wC st o.dst kr (.a7 [.d (.bool false)]) []
   |_=>HJ (fun i=>match l[i]? with
    |some (k,x)=>wC st o.dst kr (.a7 [.d (.bool true), .d k, .d x]) [(id, .l8 (l.eraseIdx i) (some (k,x)))]
    |none=>none) l.length
 |none=>m9 P st o kr
noncomputable def Nu(op:Op):(P:Program)->(Nat->FD)->gm P->bJ->St->aP->(RO->Option b6)->Option b6:=
 match op with
 | .call c=>uO c
 | .panic x=>zR x
 | .next x str=>uQ x str
 |_=>D9
noncomputable def HK(P:Program)(aG:Nat->FD)(md:gm P)(rec:bJ)(st:St)(o:aP)(kr:RO->Option b6):Option b6:=Nu o.op P aG md rec st o kr
noncomputable def Lt(next:St->Option b6)(kr:RO->Option b6):RO->Option b6:=fun r=>match r with| .ok st=>next st| .aJ v st=>kr (.aJ v st)
noncomputable def n4(P:Program)(aG:Nat->FD)(md:gm P)(rec:bJ)(kr:RO->Option b6):List aP->St->Option b6
 |[],st=>kr (.ok st)
 |o::l,st=>match(match o.gd with
   |none=>some true
   |some (d,want)=>match st.env.get d with
    | .d (.bool b)=>some (b==want)
    | .a7 []=>some false
    |_=>none)with
  |some true=>HK P aG md rec st o (Lt (n4 P aG md rec kr l) kr)
  |some false=>fy st.env o.dst (.a7 []) fun e=>Nat.fc (st.nx+1) fun n=>n4 P aG md rec kr l ⟨e,st.o,n⟩
  |none=>none
section
variable {P:Program}{aG:Nat->FD}{md:gm P}
noncomputable def cf(P:Program)(rec:bJ):Prop:=∀b rd n ic st k a,rec b rd n ic st k=some a->∀Q:dM->S->Prop,(∀e st',k e st'=some a->Q e st'.S)->l7 P n b rd ic Q st.S
theorem kP{rs:List ResultVar}{st:St}{kc:CR->Option b6}{a:b6}(h:s6 P rs st kc=some a){K X:V->(Nat->aa)->Nat->Prop}(hr:∀r,kc r=some a->r.to K X):fq P rs K X .ret st.S:=by
 unfold s6 at h
 unfold fq
 split at h
 ·rename_i v hv;simp only[hv];exact hr _ h
 ·rename_i vs hv hn
  simp only[hn]
  exact hr _ h
 ·cases h
theorem gq(aD:P.follows .mixedOrders=true)(aX:∀g,(aG g).Ok P g){rec:bJ}(aF:cf P rec){g:Nat}{args:List V}{o:Tr aa}{nx:Nat}{kc:CR->Option b6}{a:b6}(h:uJ P aG rec g args o nx kc=some a){K X:V->(Nat->aa)->Nat->Prop}(hr:∀r,kc r=some a->r.to K X):
 gI P g args o.get nx K X:=by
 have aI:=aX g
 unfold uJ at h
 split at h
 ·rename_i n ic rs ht
  rw[ht]at aI
  split at h
  ·rename_i hl
   refine gI.rD aD aI hl ?_
   refine aF _ _ _ _ _ _ _ h _ fun e st he=> ?_
   unfold x5 at he
   cases e with
   |normal=>exact kP he hr
   |ret=>exact kP he hr
   |aJ v=>exact hr _ he
   |exit j=>cases he
  ·cases h
 ·rename_i n gU eY g' t dP rs m r0 r1 pJ ht
  rw[ht]at aI
  split at h
  ·rename_i hl
   refine gI.uD aD aI.1 aI.2 hl (aF _ _ _ _ _ _ _ h _ fun e s1 he=> ?_)
   unfold rJ at he
   cases e with
   |normal=>
    have hb:l7 P n s1.nx false eY (qM P m r0 r1 pJ (dP.map s1.S.ev) rs K X) ⟨cn s1.env.get t (.func (.func g') [] (dP.map s1.S.ev)),s1.o.get,s1.nx⟩:=by
     have:=aF _ _ _ _ _ _ _ he (qM P m r0 r1 pJ (dP.map s1.S.ev) rs K X) (fun e s3 Bk=>by
      unfold uI at Bk
      split at Bk
      ·rename_i u hu
       split at Bk
       ·rename_i ku
        have Nv:sY P m r0 r1 pJ (dP.map s1.S.ev) u s3.o.get s3.nx fun o nx=>fq P rs K X .ret ⟨s3.env.get,o,nx⟩:=by
         refine⟨ku,aF _ _ _ _ _ _ _ Bk _ fun e4 s4 HL=> ?_⟩
         unfold uH at HL
         cases e4 with
         |normal=>exact kP (st:=⟨s3.env,s4.o,s4.nx⟩) HL hr
         |ret=>exact kP (st:=⟨s3.env,s4.o,s4.nx⟩) HL hr
         |_=>cases HL
        cases e<;>simp only[D5,Option.some.injEq,reduceCtorEq]at hu<;>subst hu<;>exact Nv
       ·cases Bk
      ·cases Bk)
     simp only[St.S,Tr.df]at this
     exact this
    exact hb
   |_=>cases he
  ·cases h
 ·rename_i ht
  rw[ht]at aI
  split at h
  ·split at h
   ·rename_i kt vt l ho
    have h2:=hr _ h
    simp only[CR.to,Tr.df]at h2
    exact gI.zI aI ho h2
   ·rename_i l ho
    have h2:=hr _ h
    simp only[CR.to,Tr.df]at h2
    exact gI.wy aI ho h2
   ·cases h
  ·cases h
 ·cases h
theorem uR{r:CR}{out:R}(ho:rK r=some out):r.to (fun v o _=>∃vs rs,v=(match vs with|[v]=>v|vs=> .a7 vs)/\aT o vs=some rs/\out= .ret rs) (fun v o _=>∃x,cN o v=some x/\out= .aJ x):=by
 unfold rK at ho
 split at ho
 ·rename_i v o nx
  split at ho
  ·cases ho
  ·rename_i hv
   split at ho
   ·rename_i rs Dg
    injection ho with ho;subst ho
    refine⟨lP v,rs, ?_,Dg,rfl⟩
    cases v with
    |a7 vs=>
     match vs,hv with
     |[],_=>rfl
     |[x],hv=>exact absurd rfl (hv x)
     |_::_::_,_=>rfl
    |_=>rfl
   ·cases ho
 ·split at ho
  ·rename_i x hx
   injection ho with ho;subst ho
   exact⟨x,hx,rfl⟩
  ·cases ho
theorem pN(aD:P.follows .mixedOrders=true)(aX:∀g,(aG g).Ok P g){rec:bJ}(aF:cf P rec){g:Nat}{ds:List D}{out:R}(h:uJ P aG rec g (ds.map .d) (.e fun _=> .no) 0 pM=some (.r out)):bt P g ds out:=by
 refine bt.ig (gq aD aX aF h fun r hr=> ?_)
 obtain⟨x,hx,he⟩:=uK hr
 injection he with he;subst he
 exact uR hx
theorem n6(aD:P.follows .mixedOrders=true)(aX:∀g,(aG g).Ok P g){rec:bJ}(aF:cf P rec){g:Nat}{ds:List D}{out:R}(h:wB P aG md rec g ds=some out):bt P g ds out:=by
 unfold wB at h
 split at h
 ·rename_i Nw ho
  injection h with h;subst h
  exact md.ok _ _ _ ho
 ·split at h
  ·rename_i x hr;injection h with h;subst h;exact pN aD aX aF hr
  ·cases h
theorem pO(aD:P.follows .mixedOrders=true)(aX:∀g,(aG g).Ok P g){rec:bJ}(aF:cf P rec){g:Nat}{args:List V}{o:Tr aa}{nx:Nat}{kc:CR->Option b6}{a:b6}(h:rL P aG md rec g args o nx kc=some a){K X:V->(Nat->aa)->Nat->Prop}(hr:∀r,kc r=some a->r.to K X):
 xO P g args o.get nx K X:=by
 unfold rL at h
 split at h
 ·rename_i ds NO dh
  split at h
  ·rename_i out uS
   have hP:=n6 aD aX aF uS
   refine .inl ⟨ds,dh,out,hP, ?_⟩
   unfold x6 at h
   split at h
   ·rename_i hf
    refine .inr (.inl ⟨hf, ?_⟩)
    cases out<;>exact hr _ h
   ·split at h
    ·rename_i hf
     refine .inr (.inr ⟨hf, ?_⟩)
     rw[<- eh]
     cases out<;>exact hr _ h
    ·refine .inl ?_
     rw[<- eh]
     cases out<;>exact hr _ h
  ·cases h
 ·exact .inr (gq aD aX aF h hr)
theorem wD(aD:P.follows .mixedOrders=true){rec:bJ}(aF:cf P rec){id:Nat}{args:List V}{o:Tr aa}{nx:Nat}{kc:CR->Option b6}{a:b6}(h:zQ P rec id args o nx kc=some a){K X:V->(Nat->aa)->Nat->Prop}(hr:∀r,kc r=some a->r.to K X):
 ee P id args o.get nx K X:=by
 unfold zQ at h
 split at h
 ·rename_i nf n env ps gU eY st pd ho
  split at h
  ·rename_i hc
   obtain⟨rfl,cm,Jr,hl⟩:=hc
   refine ee.rD aD ho cm Jr hl ?_
   refine aF _ _ _ _ _ _ _ h _ fun e s1 he=> ?_
   unfold rM at he
   cases e with
   |normal=>
    simp only at he
    split at he
    ·rename_i nf m en p c d pd kK
     refine⟨nf,m,en,p,c,d,pd,kK, ?_⟩
     have:=aF _ _ _ _ _ _ _ he (uz id K X) (fun e s2 h2=>by
      unfold uN at h2
      split at h2
      ·exact hr _ h2
      ·rename_i xI
       split at h2
       ·rename_i JC m' JD p' c' d' st' pd' zS
        cases e with
        |aJ v=>cases h2
        |normal=>have h3:=hr _ h2;simp only[CR.to,Tr.df]at h3;exact⟨JC,m',JD,p',c',d',st',pd',zS,h3⟩
        |ret=>have h3:=hr _ h2;simp only[CR.to,Tr.df]at h3;exact⟨JC,m',JD,p',c',d',st',pd',zS,h3⟩
        |exit j=>have h3:=hr _ h2;simp only[CR.to,Tr.df]at h3;exact⟨JC,m',JD,p',c',d',st',pd',zS,h3⟩
       ·cases h2)
     simp only[St.S,Tr.df]at this
     exact this
    ·cases he
   |aJ v=>exact hr _ he
   |_=>cases he
  ·cases h
 ·cases h
theorem lQ{st:St}{o:aP}{kr:RO->Option b6}{a:b6}(h:m9 P st o kr=some a){K:S->Prop}{X:V->S->Prop}(hr:∀r,kr r=some a->r.to K X):match dw P st.S st.S.nx o.op with
 |some (v,Δ,_)=>K ⟨az st.S.env o.dst v,put st.S.o Δ,st.S.nx+1⟩
 |none=>False:=by
 unfold m9 at h
 split at h
 ·rename_i v Δ rd he
  have he:=rI he
  simp only[dU,gk,Nat.bc]at h
  have hr:=hr _ h
  simp only[RO.to,St.S,dQ,eh]at hr
  have vq:dw P st.S st.S.nx o.op=some (v,Δ,rd):=he
  simp only[vq]
  exact hr
 ·cases h
theorem rN{st:St}{dst:Option Nat}{kr:RO->Option b6}{v:V}{Δ:List (Nat×aa)}{a:b6}(h:wC st dst kr v Δ=some a){K:S->Prop}{X:V->S->Prop}(hr:∀r,kr r=some a->r.to K X):K ⟨az st.S.env dst v,put st.S.o Δ,st.S.nx+1⟩:=by
 unfold wC at h
 simp only[dU,gk,Nat.bc]at h
 have hr:=hr _ h
 simp only[RO.to,St.S,dQ,eh]at hr
 exact hr
theorem zT(aD:P.follows .mixedOrders=true)(aX:∀g,(aG g).Ok P g){rec:bJ}(aF:cf P rec){st:St}{o:aP}{kr:RO->Option b6}{a:b6}(h:HK P aG md rec st o kr=some a){K:S->Prop}{X:V->S->Prop}(hr:∀r,kr r=some a->r.to K X):zm P st.S o X K:=by
 have cr:∀r,D8 st o.dst kr r=some a->r.to (fun v o' nx'=>K ⟨az st.S.env o.dst v,o',nx'⟩) (fun v o' nx'=>X v ⟨st.S.env,o',nx'⟩):=by
  intro r hx
  unfold D8 at hx
  split at hx
  ·simp only[dU,Nat.bc]at hx
   have hr:=hr _ hx
   simp only[RO.to,St.S,dQ]at hr
   exact hr
  ·exact hr _ hx
 unfold HK at h
 unfold zm
 cases dg:o.op
 case call c=>
  rw[dg]at h
  have h:uO c P aG md rec st o kr=some a:=h
  unfold uO at h
  cases hf:c.callee
  case value f=>
   simp only[hf]at h|-
   split at h
   ·rename_i g first cap hv
    simp only[hv]
    have:=pO aD aX aF h cr
    rcases this with⟨ds,dh,hP⟩|hC
    ·have zU:aT st.S.o (first++List.map st.S.ev c.args.toList++cap)=some ds:=dh
     simp only[zU]
     exact .inl hP
    ·split
     ·exact .inr (.inl hC)
     ·exact .inl hC
   ·rename_i id hv
    simp only[hv]
    exact wD aD aF h cr
   ·cases h
  case invoke r m=>
   simp only[hf]at h|-
   split at h
   ·rename_i g y hv
    simp only[hv]
    exact pO aD aX aF h cr
   ·cases h
  all_goals
   simp only[hf]at h|-
   have:=lQ h hr
   rw[dg]at this
   exact this
 case panic x=>
  rw[dg]at h
  have h:zR x P aG md rec st o kr=some a:=h
  unfold zR at h
  split at h
  ·rename_i hv;simp only[hv];exact hr _ h
  ·rename_i hv;simp only[hv];exact hr _ h
  ·cases h
 case next x str=>
  rw[dg]at h
  have h:uQ x str P aG md rec st o kr=some a:=h
  unfold uQ at h
  have hl:iD st.S.o (st.S.ev x)=iD st.o.get (st.S.ev x):=rfl
  simp only[hl]
  split at h
  ·rename_i id l aj
   simp only[aj]
   cases str with
   |true=>cases h
   |false=>
    refine⟨rfl,fun e=> ?_,fun i k y e=> ?_⟩
    ·subst e
     exact rN h hr
    ·cases l with
     |nil=>simp at e
     |cons p l=>
      have:=uP h i (List.getElem?_eq_some_iff.1 e).1
      rw[e]at this
      exact rN this hr
  ·rename_i aj
   simp only[aj]
   have:=lQ h hr
   rw[dg]at this
   exact this
 all_goals
  have h2:m9 P st o kr=some a:=by rw[dg]at h;exact h
  have:=lQ h2 hr
  rw[dg]at this
  exact this
theorem kQ(aD:P.follows .mixedOrders=true)(aX:∀g,(aG g).Ok P g){rec:bJ}(aF:cf P rec){kr:RO->Option b6}{a:b6}{K:S->Prop}{X:V->S->Prop}(hr:∀r,kr r=some a->r.to K X):∀ (l:List aP) (st:St),n4 P aG md rec kr l st=some a->jH P X K l st.S
 |[],st,h=>hr (.ok st) h
 |o::l,st,h=>by
  simp only[n4,dU,Nat.bc]at h
  simp only[jH]
  have op:HK P aG md rec st o (Lt (n4 P aG md rec kr l) kr)=some a->zm P st.S o X (jH P X K l):=by
   intro h
   refine zT aD aX aF h fun r Lu=> ?_
   cases r with
   |ok zV=>exact kQ aD aX aF hr l zV Lu
   |aJ v zV=>exact hr (.aJ v zV) Lu
  have sk:n4 P aG md rec kr l ⟨j8 st.env o.dst (.a7 []),st.o,st.nx+1⟩=some a->jH P X K l ⟨az st.S.env o.dst (.a7 []),st.S.o,st.S.nx+1⟩:=by
   intro h
   have:=kQ aD aX aF hr l _ h
   exact tl
  cases hg:o.gd with
  |none=>simp only[hg]at h;exact op h
  |some p=>
   obtain⟨d,want⟩:=p
   simp only[hg]at h
   have he:st.S.env d=st.env.get d:=rfl
   simp only[he]
   cases hv:st.env.get d with
   |d x=>
    cases x with
    |bool b=>
     simp only[hv]at h|-
     by_cases e:b=want
     ·subst e
      simp only[beq_self_eq_true]at h
      rw[if_pos rfl];exact op h
     ·have:(b==want)=false:=by simpa using e
      rw[this]at h
      rw[if_neg e];exact sk h
    |_=>simp[hv]at h
   |a7 vs=>
    cases vs with
    |nil=>simp only[hv]at h|-;exact sk h
    |cons a aR=>simp[hv]at h
   |_=>simp[hv]at h
end
end
section
mutual
def V.same:V->V->Bool
 | .d x, .d y=>x.same y
 | .cG, .cG=>true
 | .bT, .bT=>true
 | .agg a, .agg b=>V.cW a b
 | .ptr i o, .ptr j p=>Nat.beq i j&&Nat.beq o p
 | .osl i o, .osl j p=>Nat.beq i j&&Nat.beq o p
 | .jN a, .jN b=>D.cW a b
 | .iface t x, .iface u y=>Nat.beq t u&&x.same y
 | .mp i, .mp j=>Nat.beq i j
 |_,_=>false
def V.cW:List V->List V->Bool
 |[],[]=>true
 |a::aR,b::bs=>a.same b&&V.cW aR bs
 |_,_=>false
end
mutual
theorem V.bY:∀ (x y:V),x.same y=true->x=y
 | .d x,y,h=>by cases y<;>simp only[V.same,Bool.false_eq_true]at h;rw[D.bY _ _ h]
 | .cG,y,h=>by cases y<;>simp_all[V.same]
 | .bT,y,h=>by cases y<;>simp_all[V.same]
 | .agg a,y,h=>by cases y<;>simp only[V.same,Bool.false_eq_true]at h;rw[V.bL _ _ h]
 | .ptr i o,y,h=>by
   exact CK
 | .osl i o,y,h=>by
   exact CK
 | .jN a,y,h=>by cases y<;>simp only[V.same,Bool.false_eq_true]at h;rw[D.bL _ _ h]
 | .iface t x,y,h=>by
   cases y<;>simp only[V.same,Bool.false_eq_true,Bool.and_eq_true]at h
   rw[Nat.eq_of_beq_eq_true h.1,V.bY _ _ h.2]
 | .mp i,y,h=>by
   cases y<;>simp only[V.same,Bool.false_eq_true]at h
   rw[Nat.eq_of_beq_eq_true h]
 | .a7 _,y,h| .pe _ _ _ _ _,y,h| .pp _ _,y,h| .func _ _ _,y,h| .oo _ _ _,y,h| .c7,y,h| .jl _,y,h=>by simp[V.same]at h
theorem V.bL:∀ (x y:List V),V.cW x y=true->x=y
 |[],y,h=>by cases y<;>simp_all[V.cW]
 |a::aR,y,h=>by
  cases y<;>simp only[V.cW,Bool.false_eq_true,Bool.and_eq_true]at h
  rw[V.bY _ _ h.1,V.bL _ _ h.2]
end
def lR:List (D×D)->List (D×D)->Bool
 |[],[]=>true
 |(a,b)::l,(c,d)::m=>a.same c&&(b.same d&&lR l m)
 |_,_=>false
theorem lS:∀ (l m:List (D×D)),lR l m=true->l=m
 |[],m,h=>by cases m<;>simp_all[lR]
 |(a,b)::l,m,h=>by
  cases m with
  |nil=>simp[lR]at h
  |cons p m=>
   obtain⟨c,d⟩:=p
   simp only[lR,Bool.and_eq_true]at h
   rw[D.bY _ _ h.1,D.bY _ _ h.2.1,lS l m h.2.2]
noncomputable def aa.same:aa->aa->Bool
 | .no, .no=>true
 | .row a, .row b=>V.cW a b
 | .arr e t s a, .arr f u r b=>Nat.beq e f&&Nat.beq t u&&Nat.beq s r&&D.cW a b
 | .l5 e a, .l5 f b=>Nat.beq e f&&D.cW a b
 | .map k v a, .map k' v' b=>Nat.beq k k'&&Nat.beq v v'&&lR a b
 | .dm a, .dm b=>lR a b
 | .pX a i, .pX b j=>a==b&&Nat.beq i j
 |_,_=>false
theorem aa.bY {x y:aa}(h:x.same y=true):x=y:=by
 cases x<;>cases y<;>simp only[aa.same,Bool.false_eq_true,Bool.and_eq_true]at h
 ·rfl
 ·rw[V.bL _ _ h]
 ·rw[Nat.eq_of_beq_eq_true h.1.1.1,Nat.eq_of_beq_eq_true h.1.1.2,Nat.eq_of_beq_eq_true h.1.2,D.bL _ _ h.2]
 ·rw[Nat.eq_of_beq_eq_true h.1,D.bL _ _ h.2]
 ·rw[Nat.eq_of_beq_eq_true h.1.1,Nat.eq_of_beq_eq_true h.1.2,lS _ _ h.2]
 ·rw[lS _ _ h]
 ·rw[eq_of_beq h.1,Nat.eq_of_beq_eq_true h.2]
noncomputable def reach(o:Nat->aa):Nat->List Nat->List Nat->List Nat
 |0,_,seen=>seen
 |_+1,[],seen=>seen
 |n+1,id::todo,seen=>match seen.contains id with
  |true=>reach o n todo seen
  |false=>reach o n ((o id).refs++todo) (id::seen)
noncomputable def cl(o o1:Nat->aa):List Nat->List (Nat×aa)
 |[]=>[]
 |id::l=>match(o id).same (o1 id)with
  |true=>cl o o1 l
  |false=>(id,o1 id)::cl o o1 l
theorem dG{o o1:Nat->aa}:∀ (l:List Nat) (x:Nat×aa),x∈cl o o1 l->x.1∈l/\x.2=o1 x.1
 |[],x,h=>by simp[cl]at h
 |id::l,x,h=>by
  simp only[cl]at h
  split at h
  ·obtain⟨h1,h2⟩:=dG l x h;exact⟨List.mem_cons_of_mem _ h1,h2⟩
  ·rcases List.mem_cons.1 h with rfl|h
   ·exact⟨aU,rfl⟩
   ·obtain⟨h1,h2⟩:=dG l x h;exact⟨List.mem_cons_of_mem _ h1,h2⟩
theorem gr{o o1:Nat->aa}:∀ (l:List Nat) (id:Nat),id∈l->id∉(cl o o1 l).map (·.1)->o1 id=o id
 |[],id,h,_=>by simp at h
 |j::l,id,h,hn=>by
  simp only[cl]at hn
  split at hn
  ·rename_i hs
   rcases List.mem_cons.1 h with rfl|h
   ·exact(aa.bY hs).symm
   ·exact gr l id h hn
  ·simp only[List.map_cons,List.mem_cons,not_or]at hn
   rcases List.mem_cons.1 h with rfl|h
   ·exact absurd rfl hn.1
   ·exact gr l id h hn.2
theorem pP{o1:Nat->aa}:∀ (Δ:List (Nat×aa)) (o:Nat->aa),(∀x∈Δ,x.2=o1 x.1)->∀id,id∈Δ.map (·.1)\/o id=o1 id->put o Δ id=o1 id
 |[],o,_,id,h=>by rcases h with h|h;· simp at h
                  ·exact h
 |x::Δ,o,hv,id,h=>by
  simp only[put,List.foldl_cons]
  refine pP Δ (cn o x.1 x.2) (fun y hy=>hv y (List.mem_cons_of_mem _ hy)) id ?_
  simp only[List.map_cons,List.mem_cons]at h
  simp only[aq]
  by_cases e:id=x.1
  ·right;rw[if_pos e,hv x (by simp),e]
  ·rcases h with(h|h)|h
   ·exact absurd h e
   ·exact .inl h
   ·right;rw[if_neg e];exact h
theorem j9{o o1:Nat->aa}{l:List Nat}{id:Nat}(h:id∈l):o1 id=put o (cl o o1 l) id:=by
 by_cases hm:id∈(cl o o1 l).map (·.1)
 ·exact(pP _ o (fun x hx=>(dG l x hx).2) id (.inl hm)).symm
 ·rw[c0 hm];exact gr l id h hm
inductive DR where
 |val (v:V) (Δ:List (Nat×aa)) (rd:List Nat)|aJ (v:V) (ws rd:List Nat)
def DR.to (K:V->List (Nat×aa)->List Nat->Prop)(KX:V->List Nat->List Nat->Prop):DR->Prop
 | .val v Δ rd=>K v Δ rd
 | .aJ v ws rd=>KX v ws rd
noncomputable def Ea(c:CR):Option b6:=some (.c c)
noncomputable def hX(P:Program)(aG:Nat->FD)(rec:bJ)(g:Nat)(args:List V)(st:St):Option DR:=
 let rd:=reach st.o.get 2000 (V.bp args) []
 match rd.all (fun id=>Nat.blt id st.nx&&(st.o.get id).refs.all rd.contains)&&(V.bp args).all rd.contains with
 |true=>match uJ P aG rec g args (.e (xS rd st.o.get)) st.nx Ea with
  |some (.c (.ret v o1 _))=>match v with
   | .a7 [_]=>none
   |v=>match aT o1.get (lP v)with
    |some rs=>match(cl st.o.get o1.get rd).all (fun x=>x.2.refs.all rd.contains)&&(V.aC (lP v)).all (fun id=> !rd.contains id)with
     |true=>some (.val (fE rs) (cl st.o.get o1.get rd) rd)
     |false=>none
    |none=>none
  |some (.c (.aJ v o1 _))=>match cN o1.get v with
   |some x=>match(cl st.o.get o1.get rd).all (fun x=>x.2.refs.all rd.contains)&&v.ids.all (fun id=> !rd.contains id)with
    |true=>some (.aJ (.d x) ((cl st.o.get o1.get rd).map (·.1)) rd)
    |false=>none
   |none=>none
  |_=>none
 |false=>none
noncomputable def HM(P:Program)(aG:Nat->FD)(md:gm P)(rec:bJ)(g:Nat)(args:List V)(st:St)(rd:List Nat):Option DR:=
 match aT st.o.get args with
 |some ds=>match md.D7 g with
  |false=>match uJ P aG rec g (ds.map .d) (.e fun _=> .no) 0 Ea with
   |some (.c (.ret v _ _))=>match v.refs with
    |[]=>some (.val v (bH st.o.get (V.aC args)) rd)
    |_=>none
   |_=>none
  |true=>match wB P aG md rec g ds with
   |some (.ret rs)=>match D.eT rs with
    |true=>some (.val (fE rs) [] rd)
    |false=>some (.val (fE rs) (bH st.o.get (V.aC args)) rd)
   |some (.aJ x)=>match x.flat with
    |true=>some (.aJ (.d x) [] rd)
    |false=>none
   |none=>none
 |none=>hX P aG rec g args st
noncomputable def HN(P:Program)(st:St)(fr:Nat)(op:Op):Option DR:=
 match wA op P st.S fr with
 |some (v,Δ,_)=>some (.val v Δ (gK st.S op))
 |none=>none
def V.JE:V->Bool
 | .mp _=>true
 |_=>false
def zW{P:Program}(md:gm P)(g:Nat)(args:List V):Bool:= !md.D7 g&&args.any V.JE
def na(args:List V):Option (List D):=
 match V.aC args with
 |[]=>aT (fun _=> .no) args
 |_=>none
noncomputable def wE(P:Program)(t:TypeId)(c:CR):Option b6:=
 match c with
 | .ret v o1 _=>match v with
   | .osl j ep=>match o1.get j with
     | .arr dL ty sz es=>match Nat.beq dL ep with
       |true=>D6 (.ret [.sl es, .int .i64 (ty:Nat), .int .i64 (sz:Nat)]) fun x=>some (.r x)
       |false=>none
     |_=>none
   | .cG=>match bI P t with
     |some e=>match Nat.blt 0 (P.cellsOf e)with
      |true=>D6 (.ret [.sl [], .int .i64 (e:Nat), .int .i64 (P.cellsOf e:Nat)]) fun x=>some (.r x)
      |false=>none
     |none=>none
   |_=>none
 |_=>none
noncomputable def zX(P:Program)(aG:Nat->FD)(rec:bJ)(g:Nat)(t:TypeId)(args:List V)(st:St)(fr:Nat):Option DR:=
 match na args with
 |some ds=>match uJ P aG rec g (ds.map .d) (.e fun _=> .no) 0 (wE P t)with
  |some (.r (.ret [.sl es, .int .i64 (.ofNat ty), .int .i64 (.ofNat sz)]))=>some (.val (.osl fr 0) [(fr, .arr 0 ty sz es)] [])
  |_=>none
 |none=>match aT st.o.get args with
  |some ds=>match uJ P aG rec g (ds.map .d) (.e fun _=> .no) 0 (wE P t)with
   |some (.r (.ret [.sl es, .int .i64 (.ofNat ty), .int .i64 (.ofNat sz)]))=>match D.eT es&&(V.aC args).all (fun id=>Nat.blt id st.nx)with
    |true=>some (.val (.osl fr 0) [(fr, .arr 0 ty sz es)] (V.aC args))
    |false=>none
   |_=>none
  |none=>none
noncomputable def wF(P:Program)(aG:Nat->FD)(md:gm P)(rec:bJ)(st:St)(fr:Nat)(op:Op):Option DR:=
 match op with
 | .call c=>match c.callee with
   | .value f=>match st.S.ev f with
     | .func (.func g) first cap=>match zW md g (first++c.args.toList.map st.S.ev++cap)with
       |true=>hX P aG rec g (first++c.args.toList.map st.S.ev++cap) st
       |false=>match HM P aG md rec g (first++c.args.toList.map st.S.ev++cap) st (gK st.S (.call c))with
        |some r=>some r
        |none=>zX P aG rec g (c.argTypes.getD 0 0) (first++c.args.toList.map st.S.ev++cap) st fr
     |_=>none
   |_=>HN P st fr (.call c)
 |op=>HN P st fr op
noncomputable def Eb(st:St):Option (Nat×Bool)->Option Bool
 |none=>some true
 |some (d,want)=>match st.env.get d with
  | .d (.bool b)=>some (b==want)
  | .a7 []=>some false
  |_=>none
noncomputable def lT(P:Program)(aG:Nat->FD)(md:gm P)(rec:bJ)(pr:List (List Nat)):List aP->Nat->St->Fp->List Nat->List Nat->Option (List Nat×Fp)
 |[],_,_,fp,_,ws=>some (ws,fp)
 |o::l,fr,st,fp,bad,ws=>match(pr.getD fp.length []).any (fun j=>bad.contains j)with
  |true=>lT P aG md rec pr l (fr+1) ⟨j8 st.env o.dst .bT,st.o,st.nx⟩ (fp++[([],[])]) (bad++[fp.length]) ws
  |false=>match Eb st o.gd with
   |some true=>match wF P aG md rec st fr o.op with
    |some (.val v Δ rd)=>fy st.env o.dst v fun e=>lO st.o Δ fun ob=>lT P aG md rec pr l (fr+1) ⟨e,ob,st.nx⟩ (fp++[(rd,Δ.map (·.1))]) bad (ws++Δ.map (·.1))
    |_=>none
   |some false=>lT P aG md rec pr l (fr+1) ⟨j8 st.env o.dst (.a7 []),st.o,st.nx⟩ (fp++[([],[])]) bad ws
   |none=>none
inductive DQ where
 |fin (st:St) (fp:Fp)|aJ (v:V) (wl:List Nat) (fp:Fp)
noncomputable def lU(P:Program)(aG:Nat->FD)(md:gm P)(rec:bJ)(pr:List (List Nat)):List aP->Nat->St->Fp->Option DQ
 |[],_,st,fp=>some (.fin st fp)
 |o::l,fr,st,fp=>match Eb st o.gd with
  |some true=>match wF P aG md rec st fr o.op with
   |some (.val v Δ rd)=>fy st.env o.dst v fun e=>lO st.o Δ fun ob=>Nat.fc (fr+1) fun fr=>lU P aG md rec pr l fr ⟨e,ob,st.nx⟩ (fp++[(rd,Δ.map (·.1))])
   |some (.aJ v ws rd)=>match lT P aG md rec pr l (fr+1) ⟨j8 st.env o.dst .bT,st.o,st.nx⟩ (fp++[(rd,[])]) [fp.length] (ws++fp.flatMap (·.2))with
    |some (wl,fp)=>some (.aJ v wl fp)
    |none=>none
   |none=>none
  |some false=>fy st.env o.dst (.a7 []) fun e=>Nat.fc (fr+1) fun fr=>lU P aG md rec pr l fr ⟨e,st.o,st.nx⟩ (fp++[([],[])])
  |none=>none
noncomputable def quiet(fp:Fp):Bool:=fp.all fun x=>match x.2 with|[]=>true|_=>false
noncomputable def n8(m:Nat)(x:List Nat×List Nat):Nat->Fp->Bool
 |_,[]=>true
 |i,y::l=>(match y.2,x.2 with
  |[],[]=>true
  |_,_=>m.testBit i||(gH y.2 x.1&&gH y.2 x.2&&gH x.2 y.1))&&n8 m x (i+1) l
noncomputable def rO(ms:List Nat)(pre:Fp):Nat->Fp->Bool
 |_,[]=>true
 |j,x::l=>n8 (ms.getD j 0) x 0 pre&&rO ms (pre++[x]) (j+1) l
noncomputable def Ec{β:Type}:List Nat->(List Nat->β)->β
 |[],c=>c []
 |x::xs,c=>Nat.fc x fun x=>Ec xs fun xs=>c (x::xs)
theorem uT{β:Type}:∀ (x:List Nat) (c:List Nat->β),Ec x c=c x
 |[],c=>rfl
 |x::xs,c=>by simp only[Ec,Nat.bc,uT xs]
noncomputable def wG{β:Type}:Fp->(Fp->β)->β
 |[],c=>c []
 |(a,b)::l,c=>Ec a fun a=>Ec b fun b=>wG l fun l=>c ((a,b)::l)
theorem rP{β:Type}:∀ (x:Fp) (c:Fp->β),wG x c=c x
 |[],c=>rfl
 |(a,b)::l,c=>by simp only[wG,uT,rP l]
noncomputable def uU(pr:List (List Nat))(fp:Fp):Bool:=match quiet fp with|true=>true|false=>wG fp fun fp=>rO (cj pr []) [] 0 fp
theorem nb{m:Nat}{x:List Nat×List Nat}:∀ (l:Fp) (i:Nat),n8 m x i l=true->∀k,k<l.length->(m.testBit (i+k)||(gH (l.getD k ([],[])).2 x.1&&gH (l.getD k ([],[])).2 x.2&&gH x.2 (l.getD k ([],[])).1))=true
 |[],i,_,k,hk=>by simp at hk
 |y::l,i,h,k,hk=>by
  simp only[n8,Bool.and_eq_true]at h
  cases k with
  |zero=>
   have h1:=h.1
   simp only[List.getD_cons_zero,Nat.add_zero]
   split at h1
   ·rename_i e1 e2
    rw[e1,e2];simp[gH]
   ·exact h1
  |succ k=>
   have:=nb l (i+1) h.2 k (by simpa using hk)
   rw[List.getD_cons_succ,show i+(k+1)=i+1+k by omega]
   exact this
theorem pQ{ms:List Nat}:∀ (l pre:Fp),rO ms pre pre.length l=true->∀j,pre.length<=j->j<(pre++l).length->∀i,i<j->
 ((ms.getD j 0).testBit i||(gH ((pre++l).getD i ([],[])).2 ((pre++l).getD j ([],[])).1&&gH ((pre++l).getD i ([],[])).2 ((pre++l).getD j ([],[])).2&&gH ((pre++l).getD j ([],[])).2 ((pre++l).getD i ([],[])).1))=true
 |[],pre,_,j,h1,h2,i,_=>by simp at h2;omega
 |x::l,pre,h,j,h1,h2,i,hi=>by
  simp only[rO,Bool.and_eq_true]at h
  by_cases e:j=pre.length
  ·subst e
   have:=nb pre 0 h.1 i hi
   have e1:(pre++x::l).getD pre.length ([],[])=x:=by simp[List.getD_eq_getElem?_getD]
   have e2:(pre++x::l).getD i ([],[])=pre.getD i ([],[]):=by simp[List.getD_eq_getElem?_getD,List.getElem?_append_left hi]
   rw[e1,e2]
   simpa using this
  ·have h3:=h.2
   have:=pQ l (pre++[x]) (by simpa using h3) j sa r8 i hi
   simpa using this
noncomputable def zY(P:Program)(aG:Nat->FD)(md:gm P)(rec:bJ)(l:List aP)(pr:List (List Nat))(st:St):Option (dM×St):=
 match lU P aG md rec pr l st.nx st []with
 |some (.fin s1 fp)=>match uU pr fp with
  |true=>Nat.fc (st.nx+l.length) fun n=>some (.normal,⟨s1.env,s1.o,n⟩)
  |false=>none
 |some (.aJ v wl fp)=>match uU pr fp with
  |true=>some (.aJ v,⟨.e (lC (dstsOf l) wl l.length st.S).env, .e (lC (dstsOf l) wl l.length st.S).o,st.nx+l.length⟩)
  |false=>none
 |none=>none
noncomputable def Ed(id:Nat)(env:Tr V)(kt:Kt)(c:CR):Option b6:=
 match c with
 | .ret _ o1 qD=>match o1.get id with
   | .loop nf m e p c d HO pd=>match HO with
     | .busy=>none
     |_=>match pd with
      |none=>kt .normal ⟨env,o1.set id (.loop nf m e p c d .exhausted pd),qD⟩
      |some .ret=>kt .ret ⟨env,o1.set id (.loop nf m e p c d .exhausted pd),qD⟩
      |some (.exit j)=>kt (.exit j) ⟨env,o1.set id (.loop nf m e p c d .exhausted pd),qD⟩
   |_=>none
 | .aJ v o1 qD=>kt (.aJ v) ⟨env,o1,qD⟩
noncomputable def wH(P:Program)(aG:Nat->FD)(rec:bJ)(n:Nat)(g:Operand)(ps:List Nat)(x y:IC)(st:St)(kt:Kt):Option b6:=
 match st.S.ev g with
 | .func (.func f) first cap=>uJ P aG rec f (first++[.jl st.nx]++cap) (st.o.set st.nx (.loop P.funcs.size n ((List.range n).map st.env.get) ps x y .ready none)) (st.nx+1) (Ed st.nx st.env kt)
 |_=>none
abbrev gP:=(P:Program)->(Nat->FD)->gm P->bJ->Nat->Bool->Nat->St->Kt->Option b6
noncomputable def JF(kt:Kt):RO->Option b6:=fun r=>match r with| .ok st=>kt .normal st| .aJ v st=>kt (.aJ v) st
noncomputable def JG(l:List aP):gP:=fun P aG md rec _ _ _ st kt=>n4 P aG md rec (JF kt) l st
def nd:List Nat->Nat->Nat->Nat
 |[],_,c=>c
 |x::l,k,c=>match Nat.beq x (2^k - 1)with
  |true=>nd l (k+1) c
  |false=>nd l (k+1) (k+1)
def jh(pr:List (List Nat)):Nat:=nd (cj pr []) 0 0
noncomputable def zZ(l:List aP)(pr:List (List Nat)):gP:=fun P aG md rec _ _ _ st kt=>
 Nat.fc (jh pr) fun m=>match lU P aG md rec pr (l.take m) st.nx st []with
 |some (.fin s1 fp)=>match uU pr fp with
  |true=>Nat.fc (st.nx+m) fun n=>match Nat.ble m l.length with
   |true=>n4 P aG md rec (JF kt) (l.drop m) ⟨s1.env,s1.o,n⟩
   |false=>none
  |false=>none
 |some (.aJ _ _ _)=>match zY P aG md rec l pr st with
  |some (e,s1)=>kt e s1
  |none=>none
 |none=>none
noncomputable def qQ(rec:bJ)(b:Nat)(rd:Bool)(n:Nat)(y:IC)(kt:Kt):Kt:=fun e s1=>match e with| .normal=>rec b rd n y s1 kt|e=>kt e s1
noncomputable def JH(x y:IC):gP:=fun _ _ _ rec b rd n st kt=>rec b rd n x st (qQ rec b rd n y kt)
noncomputable def rQ(a c:Option b6):Option b6:=
 match a with
 |some (.r x)=>match c with
  |some (.r y)=>match R.same x y with
   |true=>some (.r x)
   |false=>none
  |_=>none
 |_=>none
noncomputable def Ee(c:Operand)(x y:IC):gP:=fun _ _ _ rec b rd n st kt=>match st.S.ev c with
 | .d (.bool true)=>rec b rd n x st kt
 | .d (.bool false)=>rec b rd n y st kt
 | .c7=>rQ (rec b rd n x st kt) (rec b rd n y st kt)
 |_=>none
noncomputable def qR(id:Nat)(kt:Kt):Kt:=fun e s1=>match e with
 | .exit j=>match Nat.beq j id with
   |true=>kt .normal s1
   |false=>kt (.exit j) s1
 |e=>kt e s1
noncomputable def z6(id:Nat)(x:IC):gP:=fun _ _ _ rec b rd n st kt=>rec b rd n x st (qR id kt)
noncomputable def Eg(x:IC):gP:=fun _ _ _ rec b rd n st kt=>match Nat.ble b st.nx with
 |true=>rec b rd n x st (qQ rec b rd n (.loop x) kt)
 |false=>none
noncomputable def z7(e:dM):gP:=fun _ _ _ _ _ _ _ st kt=>kt e st
noncomputable def JI:gP:=fun _ _ _ _ _ _ _ _ _=>none
noncomputable def JJ(g:Operand)(ps:List Nat)(x y:IC):gP:=fun P aG _ rec _ rd n st kt=>match rd with
 |true=>none
 |false=>wH P aG rec n g ps x y st kt
noncomputable def x7(ic:IC):gP:=
 match ic with
 | .skip=>z7 .normal
 | .ab l=>JG l
 | .b9 l pr=>zZ l pr
 | .seq x y=>JH x y
 | .cond c x y=>Ee c x y
 | .block id x=>z6 id x
 | .loop x=>Eg x
 | .exit id=>z7 (.exit id)
 | .ret=>z7 .ret
 | .tq g ps x y=>JJ g ps x y
 | .bad=>JI
noncomputable def run(P:Program)(aG:Nat->FD)(md:gm P)(k:Nat):bJ:=
 Nat.rec (motive:=fun _=>bJ) (fun _ _ _ _ _ _=>none) (fun _ rec b rd n ic st kt=>x7 ic P aG md rec b rd n st kt) k
theorem uV{P:Program}{aG:Nat->FD}{md:gm P}{k:Nat}:run P aG md (k+1)=fun b rd n ic st kt=>x7 ic P aG md (run P aG md k) b rd n st kt:=rfl
section
variable {P:Program}{aG:Nat->FD}{md:gm P}
theorem x8(aD:P.follows .mixedOrders=true)(aX:∀g,(aG g).Ok P g){rec:bJ}(aF:cf P rec){fr:Nat}{g:Nat}{args:List V}{st:St}{r:DR}(h:hX P aG rec g args st=some r){K:V->List (Nat×aa)->List Nat->Prop}{KX:V->List Nat->List Nat->Prop}(hr:r.to K KX):
 ga P g args st.S.o st.S.nx fr K KX:=by
 unfold hX at h
 simp only at h
 generalize gQ:reach st.o.get 2000 (V.bp args) []=rd at h
 split at h
 ·rename_i hc
  simp only[Bool.and_eq_true,List.all_eq_true]at hc
  obtain⟨Lv,p0⟩:=hc
  have a1:∀id∈rd,id<st.nx:=fun id aj=>Nat.le_of_ble_eq_true (Lv id aj).1
  have a2:∀id∈V.bp args,id∈rd:=fun id aj=>by simpa using p0 id aj
  have a3:∀id∈rd,∀j∈(st.o.get id).refs,j∈rd:=fun id aj j hj=>by simpa using(Lv id aj).2 j hj
  have a0:rd.all (fun id=>decide (id<st.S.nx))=true:=List.all_eq_true.2 fun id aj=>decide_eq_true (a1 id aj)
  have key:∀ {r:CR} {a:CR},Ea r=some (.c a)->r=a:=fun h=>by unfold Ea at h;injection h with h;injection h
  split at h
  ·rename_i v o1 qD hf
   split at h
   ·cases h
   ·rename_i v' jn
    split at h
    ·rename_i rs Dg
     split at h
     ·rename_i z8
      injection h with h;subst h
      simp only[Bool.and_eq_true,List.all_eq_true]at z8
      refine⟨rd,_,a0, .inl ⟨rs,uk.ig a1 a2 a3 (fun x hx=>(dG rd x hx).1) (fun x hx j hj=>by simpa using z8.1 x hx j hj) (gq aD aX aF hf fun r nz=> ?_),hr⟩⟩
      rw[key nz]
      refine⟨fun id aj=>j9 aj,lP v,rs, ?_,Dg,rfl,fun id aj=>by simpa using z8.2 id aj⟩
      cases v with
      |a7 vs=>
       match vs,jn with
       |[],_=>rfl
       |[x],hv=>exact absurd rfl (hv x)
       |_::_::_,_=>rfl
      |_=>rfl
     ·cases h
    ·cases h
  ·rename_i v o1 qD hf
   split at h
   ·rename_i x hx
    split at h
    ·rename_i z8
     injection h with h;subst h
     simp only[Bool.and_eq_true,List.all_eq_true]at z8
     refine⟨rd,cl st.o.get o1.get rd,a0, .inr (.inl ⟨x,uk.ig a1 a2 a3 (fun x hx=>(dG rd x hx).1) (fun x hx j hj=>by simpa using z8.1 x hx j hj) (gq aD aX aF hf fun r nz=> ?_),hr⟩)⟩
     rw[key nz]
     exact⟨fun id aj=>j9 aj,x,hx,rfl,fun id aj=>by simpa using z8.2 id aj⟩
    ·cases h
   ·cases h
  ·cases h
 ·cases h
theorem Aa(aD:P.follows .mixedOrders=true)(aX:∀g,(aG g).Ok P g){rec:bJ}(aF:cf P rec){g:Nat}{args:List V}{st:St}{rd:List Nat}{ds:List D}(dh:aT st.o.get args=some ds){r:DR}(h:HM P aG md rec g args st rd=some r)
 {K:V->List (Nat×aa)->List Nat->Prop} {KX:V->List Nat->List Nat->Prop} (hr:r.to K KX):
 m4 P g ds (fun v=>K v (bH st.S.o (V.aC args)) rd) (fun v=>K v [] rd) (fun v=>KX v [] rd):=by
 unfold HM at h
 simp only[dh]at h
 split at h
 ·split at h
  ·rename_i v o1 qD Eh
   split at h
   ·rename_i Nx
    injection h with h;subst h
    exact .inr (.inr ⟨v,DC.ig Nx (gq aD aX aF Eh fun r nz=>by unfold Ea at nz;injection nz with nz;injection nz with nz;rw[nz];exact rfl),hr⟩)
   ·cases h
  ·cases h
 ·split at h
  ·rename_i rs uS
   have hP:=n6 aD aX aF uS
   split at h
   ·rename_i hf
    injection h with h;subst h
    exact .inl ⟨rs,hP, .inr ⟨hf,hr⟩⟩
   ·injection h with h;subst h
    exact .inl ⟨rs,hP, .inl hr⟩
  ·rename_i x uS
   have hP:=n6 aD aX aF uS
   split at h
   ·rename_i hf
    injection h with h;subst h
    exact .inr (.inl ⟨x,hP,hf,hr⟩)
   ·cases h
  ·cases h
theorem rR{t ty:TypeId}{sz:Nat}{es:List D}{r:CR}(h:wE P t r=some (.r (.ret [.sl es, .int .i64 (.ofNat ty), .int .i64 (.ofNat sz)]))):
 r.to (fun v o1 _=>(∃j ep,v= .osl j ep/\o1 j= .arr ep ty sz es)\/(v= .cG/\es=[]/\0<sz)) (fun _ _ _=>False):=by
 unfold wE at h
 split at h
 ·rename_i v o1 n1
  split at h
  ·rename_i j ep
   split at h
   ·rename_i dL Ny jm es' ho
    split at h
    ·rename_i he
     have he:=Nat.eq_of_beq_eq_true he
     subst he
     rw[qP]at h
     simp only[Option.some.injEq,b6.r.injEq,R.ret.injEq,List.cons.injEq,D.sl.injEq,D.int.injEq,true_and,and_true]at h
     obtain⟨rfl,h2,h3⟩:=h
     have h2:Ny=ty:=Int.ofNat.inj h2
     have h3:jm=sz:=Int.ofNat.inj h3
     subst h2;subst h3
     exact .inl ⟨j,dL,rfl,ho⟩
    ·cases h
   ·cases h
  ·split at h
   ·rename_i e he
    split at h
    ·rename_i hp
     rw[qP]at h
     simp only[Option.some.injEq,b6.r.injEq,R.ret.injEq,List.cons.injEq,D.sl.injEq,D.int.injEq,true_and,and_true]at h
     obtain⟨rfl,h2,h3⟩:=h
     have h3:P.cellsOf e=sz:=Int.ofNat.inj h3
     subst h3
     exact .inr ⟨rfl,rfl,Nat.blt_eq.mp hp⟩
    ·cases h
   ·cases h
  ·cases h
 ·cases h
theorem wI(aD:P.follows .mixedOrders=true)(aX:∀g,(aG g).Ok P g){rec:bJ}(aF:cf P rec){fr:Nat}{g:Nat}{t:TypeId}{args:List V}{st:St}{r:DR}(h:zX P aG rec g t args st fr=some r){K:V->List (Nat×aa)->List Nat->Prop}{KX:V->List Nat->List Nat->Prop}(hr:r.to K KX):
 ga P g args st.S.o st.S.nx fr K KX:=by
 unfold zX at h
 split at h
 ·rename_i ds dh
  split at h
  ·rename_i es ty sz Eh
   injection h with h;subst h
   unfold na at dh
   split at dh
   ·rename_i aj
    exact⟨[],_,aU, .inr (.inr ⟨_,qB.wx aj dh (qB.zG (gq aD aX aF Eh fun r nz=>rR nz)),hr⟩)⟩
   ·cases dh
  ·cases h
 ·split at h
  ·rename_i ds dh
   split at h
   ·rename_i es ty sz Eh
    split at h
    ·rename_i hc
     injection h with h;subst h
     simp only[Bool.and_eq_true]at hc
     refine⟨V.aC args,_, ?_, .inr (.inr ⟨_,qB.wv dh hc.1 (gq aD aX aF Eh fun r nz=>rR nz),hr⟩)⟩
     exact List.all_eq_true.2 fun id aj=>decide_eq_true (Nat.blt_eq.mp (List.all_eq_true.1 hc.2 id aj))
    ·cases h
   ·cases h
  ·cases h
theorem n9(aD:P.follows .mixedOrders=true)(aX:∀g,(aG g).Ok P g){rec:bJ}(aF:cf P rec){st:St}{fr:Nat}{o:aP}{r:DR}(h:wF P aG md rec st fr o.op=some r){K:V->List (Nat×aa)->List Nat->Prop}{KX:V->List Nat->List Nat->Prop}(hr:r.to K KX):
 tg P st.S fr o K KX:=by
 have hs:HN P st fr o.op=some r->(match dw P st.S fr o.op with|some (v,Δ,_)=>K v Δ (gK st.S o.op)|none=>False):=by
  intro h
  unfold HN at h
  split at h
  ·rename_i v Δ rd he
   injection h with h;subst h
   simp only[rI he]
   exact hr
  ·cases h
 unfold wF at h
 unfold tg
 split at h
 ·rename_i c hc
  simp only[hc]
  split at h
  ·rename_i f hf
   simp only[hf]
   split at h
   ·rename_i g first cap hv
    simp only[hv]
    split at h
    ·have hh:=x8 aD aX aF h hr (fr:=fr)
     split
     ·exact .inr hh
     ·exact hh
    split at h
    ·rename_i r' za
     injection h with h;subst h
     cases dh:aT st.S.o (first++List.map st.S.ev c.args.toList++cap)with
     |some ds=>exact .inl (Aa aD aX aF dh za hr)
     |none=>
      have zU:aT st.o.get (first++List.map st.S.ev c.args.toList++cap)=none:=dh
      unfold HM at za
      simp only[zU]at za
      exact x8 aD aX aF za hr
    ·have hh:=wI aD aX aF (st:=st) h hr
     split
     ·exact .inr hh
     ·exact hh
   ·cases h
  ·rename_i cE
   rw[<- hc]at h
   have:=hs h
   rw[hc]at this
   split
   ·rename_i f hf;exact absurd hf (cE f)
   ·exact this
 ·rename_i hc
  have:=hs h
  split
  ·rename_i c hh;exact absurd hh (hc c)
  ·exact this
def HP(s:S)(gd:Option (Nat×Bool))(A B:Prop):Prop:=
 match gd with
 |none=>A
 |some (d,want)=>match s.env d with
  | .d (.bool b)=>if b=want then A else B
  | .a7 []=>B
  |_=>False
theorem od{st:St}{gd:Option (Nat×Bool)}{t:Bool}(h:Eb st gd=some t){A B:Prop}(hA:t=true->A)(hB:t=false->B):HP st.S gd A B:=by
 cases gd with
 |none=>simp only[Eb,Option.some.injEq]at h;exact hA h.symm
 |some p=>
  obtain⟨d,want⟩:=p
  have he:st.S.env d=st.env.get d:=rfl
  simp only[Eb]at h
  simp only[HP,he]
  split at h
  ·rename_i b hb
   injection h with h
   by_cases e:b=want
   ·rw[if_pos e];exact hA (by rw[<- h,e];simp)
   ·rw[if_neg e];exact hB (by rw[<- h];simpa using e)
  ·rename_i hb
   injection h with h
   exact hB h.symm
  ·cases h
theorem wJ{P:Program}{KB:List Nat->Fp->Prop}{pr:List (List Nat)}{o:aP}{l:List aP}{fr:Nat}{s:S}{fp:Fp}{bad ws:List Nat}(hb:(pr.getD fp.length []).any (fun j=>bad.contains j)=false)
 (h:HP s o.gd (tg P s fr o (fun v Δ rd=>eg P KB pr l (fr+1) ⟨az s.env o.dst v,put s.o Δ,s.nx⟩ (fp++[(rd,Δ.map (·.1))]) bad (ws++Δ.map (·.1))) (fun _ _ _=>False)) (eg P KB pr l (fr+1) ⟨az s.env o.dst (.a7 []),s.o,s.nx⟩ (fp++[([],[])]) bad ws)):
 eg P KB pr (o::l) fr s fp bad ws:=by
 simp only[eg]
 rw[if_neg (by rw[hb];simp)]
 cases hg:o.gd with
 |none=>rw[hg]at h;exact h
 |some p=>obtain⟨d,want⟩:=p;rw[hg]at h;exact h
theorem wK{P:Program}{K:S->Fp->Prop}{KP:V->List Nat->Fp->Prop}{pr:List (List Nat)}{o:aP}{l:List aP}{fr:Nat}{s:S}{fp:Fp}
 (h:HP s o.gd (tg P s fr o (fun v Δ rd=>fw P K KP pr l (fr+1) ⟨az s.env o.dst v,put s.o Δ,s.nx⟩ (fp++[(rd,Δ.map (·.1))]))
  (fun v ws rd=>eg P (KP v) pr l (fr+1) ⟨az s.env o.dst .bT,s.o,s.nx⟩ (fp++[(rd,[])]) [fp.length] (ws++fp.flatMap (·.2)))) (fw P K KP pr l (fr+1) ⟨az s.env o.dst (.a7 []),s.o,s.nx⟩ (fp++[([],[])]))):
 fw P K KP pr (o::l) fr s fp:=by
 simp only[fw]
 cases hg:o.gd with
 |none=>rw[hg]at h;exact h
 |some p=>obtain⟨d,want⟩:=p;rw[hg]at h;exact h
theorem ji(aD:P.follows .mixedOrders=true)(aX:∀g,(aG g).Ok P g){rec:bJ}(aF:cf P rec){pr:List (List Nat)}{wl:List Nat}{JK:Fp}{KB:List Nat->Fp->Prop}(hK:KB wl JK):
 ∀ (l:List aP) (fr:Nat) (st:St) (fp:Fp) (bad ws:List Nat),lT P aG md rec pr l fr st fp bad ws=some (wl,JK)->eg P KB pr l fr st.S fp bad ws
 |[],fr,st,fp,bad,ws,h=>by
  simp only[lT,Option.some.injEq,Prod.mk.injEq]at h
  obtain⟨rfl,rfl⟩:=h;exact hK
 |o::l,fr,st,fp,bad,ws,h=>by
  simp only[lT,dU,gk]at h
  split at h
  ·rename_i hb
   simp only[eg]
   rw[if_pos hb]
   have:=ji aD aX aF hK l _ _ _ _ _ h
   exact tl
  ·rename_i hb
   refine wJ hb ?_
   split at h
   ·rename_i hg
    refine od hg (fun _=> ?_) (fun h=>by cases h)
    split at h
    ·rename_i v Δ rd dg
     refine n9 aD aX aF dg ?_
     have:=ji aD aX aF hK l _ _ _ _ _ h
     simp only[St.S,dQ,eh]at this
     exact this
    ·cases h
   ·rename_i hg
    refine od hg (fun h=>by cases h) (fun _=> ?_)
    have:=ji aD aX aF hK l _ _ _ _ _ h
    exact tl
   ·cases h
def DQ.to (K:S->Fp->Prop)(KP:V->List Nat->Fp->Prop):DQ->Prop
 | .fin st fp=>K st.S fp
 | .aJ v wl fp=>KP v wl fp
theorem gu(aD:P.follows .mixedOrders=true)(aX:∀g,(aG g).Ok P g){rec:bJ}(aF:cf P rec){pr:List (List Nat)}{q:DQ}{K:S->Fp->Prop}{KP:V->List Nat->Fp->Prop}(hq:q.to K KP):
 ∀ (l:List aP) (fr:Nat) (st:St) (fp:Fp),lU P aG md rec pr l fr st fp=some q->fw P K KP pr l fr st.S fp
 |[],fr,st,fp,h=>by
  simp only[lU,Option.some.injEq]at h
  subst h;exact hq
 |o::l,fr,st,fp,h=>by
  simp only[lU,dU,gk,Nat.bc]at h
  refine wK ?_
  split at h
  ·rename_i hg
   refine od hg (fun _=> ?_) (fun h=>by cases h)
   split at h
   ·rename_i v Δ rd dg
    refine n9 aD aX aF dg ?_
    have:=gu aD aX aF hq l _ _ _ h
    simp only[St.S,dQ,eh]at this
    exact this
   ·rename_i v ws rd dg
    split at h
    ·rename_i wl JK hb
     injection h with h;subst h
     refine n9 aD aX aF dg ?_
     have:=ji aD aX aF (KB:=KP v) hq l _ _ _ _ _ hb
     exact tl
    ·cases h
   ·cases h
  ·rename_i hg
   refine od hg (fun h=>by cases h) (fun _=> ?_)
   have:=gu aD aX aF hq l _ _ _ h
   exact tl
  ·cases h
theorem oe{pr:List (List Nat)}{fp:Fp}(h:uU pr fp=true):e8 pr fp=true:=by
 unfold uU at h
 split at h
 ·rename_i hq
  unfold quiet at hq
  have hz:∀i,(fp.getD i ([],[])).2=[]:=by
   intro i
   rw[List.getD_eq_getElem?_getD]
   cases hx:fp[i]? with
   |none=>rfl
   |some x=>
    have:=List.all_eq_true.1 hq x (List.mem_of_getElem? hx)
    simp only[Option.getD_some]
    split at this
    ·rename_i e;exact e
    ·cases this
  unfold e8
  simp only[hz,gH,List.all_nil,Bool.and_self,Bool.or_true]
  simp
 ·rw[rP]at h
  unfold e8
  rw[List.all_eq_true]
  intro j hj
  rw[List.all_eq_true]
  intro i hi
  exact pQ fp [] h j (Nat.zero_le _) fG i (by simpa using hi)
theorem lV:∀ (l:List Nat) (k c:Nat),c<=k->c<=nd l k c/\∀i x,l[i]? =some x->nd l k c<=k+i->x=2^(k+i) - 1
 |[],_,c,_=>⟨Nat.le_refl _,fun i x h=>by simp at h⟩
 |y::l,k,c,hc=>by
  simp only[nd]
  split
  ·rename_i he
   obtain⟨h1,h2⟩:=lV l (k+1) c aN
   refine⟨h1,fun i x hi hle=> ?_⟩
   cases i with
   |zero=>simp at hi;subst hi;simpa using Nat.eq_of_beq_eq_true he
   |succ i=>
    have:=h2 i x (by simpa using hi) aN
    rw[this,show k+(i+1)=k+1+i by omega]
  ·obtain⟨h1,h2⟩:=lV l (k+1) (k+1) (Nat.le_refl _)
   refine⟨aN,fun i x hi hle=> ?_⟩
   cases i with
   |zero=>omega
   |succ i=>
    have:=h2 i x (by simpa using hi) aN
    rw[this,show k+(i+1)=k+1+i by omega]
theorem ng:∀ (pr:List (List Nat)) (acc:List Nat),(cj pr acc).length=acc.length+pr.length
 |[],acc=>by simp[cj]
 |ps::l,acc=>by simp only[cj,ng l,List.length_append,List.length_cons,List.length_nil];omega
theorem uW(pr:List (List Nat)):qK pr (jh pr)=true:=by
 refine List.all_eq_true.2 fun k hk=> ?_
 have hk:k<pr.length:=by simpa using hk
 by_cases h:k<jh pr
 ·simp[Nat.blt_eq.mpr h]
 ·have hl:k<(cj pr []).length:=by rw[ng];simpa using hk
  have:=(lV (cj pr []) 0 0 (Nat.le_refl _)).2 k _ (List.getElem?_eq_getElem hl) (by rw[Nat.zero_add];exact Nat.le_of_not_lt h)
  rw[Nat.zero_add]at this
  rw[List.getD_eq_getElem?_getD,List.getElem?_eq_getElem hl,Option.getD_some,this]
  simp
theorem wL(aD:P.follows .mixedOrders=true)(aX:∀g,(aG g).Ok P g){rec:bJ}(aF:cf P rec){l:List aP}{pr:List (List Nat)}{st st':St}{e:dM}(h:zY P aG md rec l pr st=some (e,st')){Q:dM->S->Prop}(hQ:Q e st'.S):
 fw P (qJ pr (st.S.nx+l.length) Q) (pE pr l st.S Q) pr l st.S.nx st.S []:=by
 unfold zY at h
 split at h
 ·rename_i s1 fp hd
  split at h
  ·rename_i hf
   simp only[Nat.bc,Option.some.injEq,Prod.mk.injEq]at h
   obtain⟨rfl,rfl⟩:=h
   exact gu aD aX aF (q:= .fin s1 fp) (K:=qJ pr (st.S.nx+l.length) Q) (KP:=pE pr l st.S Q) (show qJ pr (st.S.nx+l.length) Q s1.S fp from⟨oe hf,hQ⟩) l _ _ _ hd
  ·cases h
 ·rename_i v wl fp hd
  split at h
  ·rename_i hf
   simp only[Option.some.injEq,Prod.mk.injEq]at h
   obtain⟨rfl,rfl⟩:=h
   exact gu aD aX aF (q:= .aJ v wl fp) (K:=qJ pr (st.S.nx+l.length) Q) (KP:=pE pr l st.S Q) (show pE pr l st.S Q v wl fp from⟨oe hf,hQ⟩) l _ _ _ hd
  ·cases h
 ·cases h
theorem wM(aD:P.follows .mixedOrders=true)(aX:∀g,(aG g).Ok P g){rec:bJ}(aF:cf P rec){n:Nat}{g:Operand}{ps:List Nat}{x y:IC}{st:St}{kt:Kt}{a:b6}(h:wH P aG rec n g ps x y st kt=some a){Q:dM->S->Prop}(hQ:∀e st',kt e st'=some a->Q e st'.S):
 qq P n (st.S.ev g) ps x y Q st.S:=by
 unfold wH at h
 refine⟨(List.range n).map st.env.get,fun i=> ?_, ?_⟩
 ·unfold gS
  simp only[List.getD_eq_getElem?_getD,List.getElem?_map]
  by_cases hi:i<n
  ·right;rw[List.getElem?_range hi];rfl
  ·left;rw[List.getElem?_eq_none (by simp;omega)];rfl
 ·split at h
  ·rename_i f first cap hv
   simp only[hv]
   refine .inl ?_
   have key:=fun {K X} hr=>gq (K:=K) (X:=X) aD aX aF h hr
   simp only[Tr.df]at key
   refine key fun r hr=> ?_
   unfold Ed at hr
   cases r with
   |ret v o1 qD=>
    simp only at hr
    split at hr
    ·rename_i nf m e p c d HO pd ho
     have hl:HO≠ .busy:=by
      intro hb;subst hb;cases hr
     refine⟨nf,m,e,p,c,d,HO,pd,ho,hl, ?_⟩
     split at hr
     ·cases hr
     ·split at hr<;>(have h3:=hQ _ _ hr;simp only[zj];simp only[St.S,Tr.df]at h3;exact h3)
    ·cases hr
   |aJ v o1 qD=>exact hQ _ _ hr
  ·cases h
theorem sE.same {b:Nat}{s:S}(h:b<=s.nx):sE b s s:=fun _ φ _ _ h1 h2=>⟨φ,h1,h2,fun _ h=>h,h,fun _ _ hr=>⟨hr,rfl⟩,fun _ e' _ he=>⟨e',he,Nat.le_refl _,fun _=>rfl⟩⟩
theorem uX{x y:Option b6}{a:b6}(h:rQ x y=some a):x=some a/\y=some a:=by
 unfold rQ at h
 split at h
 ·rename_i r
  split at h
  ·rename_i r'
   split at h
   ·rename_i hs
    injection h with h;subst h
    rw[R.bY hs]
    exact⟨rfl,rfl⟩
   ·cases h
  ·cases h
 ·cases h
theorem Ab(aD:P.follows .mixedOrders=true)(aX:∀g,(aG g).Ok P g):∀k,∀j,j<=k->cf P (run P aG md j):=by
 intro k
 induction k with
 |zero=>intro j hj b rd n ic st kt a h;obtain rfl:j=0:=aN
        cases h
 |succ k ih=>
  intro j hj b rd n ic st kt a h Q hQ
  cases j with
  |zero=>cases h
  |succ j=>
   have aF:cf P (run P aG md j):=ih j aN
   rw[uV]at h
   cases ic with
   |skip=>exact hQ _ _ h
   |exit id=>exact hQ _ _ h
   |ret=>exact hQ _ _ h
   |bad=>cases h
   |ab l=>
    have h:n4 P aG md (run P aG md j) (JF kt) l st=some a:=h
    exact kQ aD aX aF (K:=Q .normal) (X:=fun v s=>Q (.aJ v) s) (fun r hr=>by
     cases r with
     |ok zV=>exact hQ .normal _ hr
     |aJ v zV=>exact hQ (.aJ v) _ hr) l _ h
   |b9 l pr=>
    have h:zZ l pr P aG md (run P aG md j) b rd n st kt=some a:=h
    unfold zZ at h
    rw[Nat.bc]at h
    split at h
    ·rename_i s1 fp hd
     split at h
     ·rename_i hf
      rw[Nat.bc]at h
      split at h
      ·rename_i vW
       refine .inr ⟨jh pr,Nat.le_of_ble_eq_true vW,uW pr, ?_⟩
       refine gu aD aX aF (q:= .fin s1 fp) (K:=fun s' fp=>e8 pr fp=true/\jH P (fun v s=>Q (.aJ v) s) (Q .normal) (l.drop (jh pr)) ⟨s'.env,s'.o,st.S.nx+jh pr⟩) (KP:=fun _ _ _=>False) (show _/\_ from⟨oe hf, ?_⟩) (l.take (jh pr)) _ _ _ hd
       exact kQ aD aX aF (K:=Q .normal) (X:=fun v s=>Q (.aJ v) s) (fun r hr=>by
        cases r with
        |ok zV=>exact hQ .normal _ hr
        |aJ v zV=>exact hQ (.aJ v) _ hr) (l.drop (jh pr)) ⟨s1.env,s1.o,st.nx+jh pr⟩ h
      ·cases h
     ·cases h
    ·split at h
     ·rename_i e s1 h1
      exact .inl (wL aD aX aF h1 (hQ _ _ h))
     ·cases h
    ·cases h
   |seq x y=>
    have h:run P aG md j b rd n x st (qQ (run P aG md j) b rd n y kt)=some a:=h
    simp only[l7]
    refine aF _ _ _ _ _ _ _ h _ fun e s1 he=> ?_
    unfold qQ at he
    cases e with
    |normal=>exact aF _ _ _ _ _ _ _ he _ hQ
    |_=>exact hQ _ _ he
   |cond c x y=>
    have h:(match st.S.ev c with| .d (.bool true)=>run P aG md j b rd n x st kt| .d (.bool false)=>run P aG md j b rd n y st kt| .c7=>rQ (run P aG md j b rd n x st kt) (run P aG md j b rd n y st kt)|_=>none)=some a:=h
    simp only[l7]
    split at h
    ·rename_i hv
     simp only[hv]
     exact(lA _ _).mpr (aF _ _ _ _ _ _ _ h _ hQ)
    ·rename_i hv
     simp only[hv]
     exact(jZ _ _).mpr (aF _ _ _ _ _ _ _ h _ hQ)
    ·rename_i hv
     simp only[hv]
     obtain⟨h1,h2⟩:=uX h
     exact⟨aF _ _ _ _ _ _ _ h1 _ hQ,aF _ _ _ _ _ _ _ h2 _ hQ⟩
    ·cases h
   |block id x=>
    have h:run P aG md j b rd n x st (qR id kt)=some a:=h
    simp only[l7]
    refine aF _ _ _ _ _ _ _ h _ fun e s1 he=> ?_
    unfold qR at he
    cases e with
    |exit j'=>
     simp only at he
     split at he
     ·rename_i hb
      simp only[cV,Nat.eq_of_beq_eq_true hb,if_true];exact hQ _ _ he
     ·rename_i hb
      simp only[cV,Nat.ne_of_beq_eq_false hb,if_false];exact hQ _ _ he
    |_=>exact hQ _ _ he
   |loop x=>
    have JL:∀m x9,run P aG md (m+1) b rd n (.loop x) x9 kt=some a->b<=x9.nx/\run P aG md m b rd n x x9 (qQ (run P aG md m) b rd n (.loop x) kt)=some a:=by
     intro m x9 h
     have h:(match Nat.ble b x9.nx with|true=>run P aG md m b rd n x x9 (qQ (run P aG md m) b rd n (.loop x) kt)|false=>none)=some a:=h
     split at h
     ·rename_i hb;exact⟨Nat.le_of_ble_eq_true hb,h⟩
     ·cases h
    have h:run P aG md (j+1) b rd n (.loop x) st kt=some a:=h
    refine⟨fun m s=>m<=k+1/\∃st,s=st.S/\run P aG md m b rd n (.loop x) st kt=some a,⟨j+1,st.S,sE.same (JL j st h).1,hj,st,rfl,h⟩, ?_⟩
    rintro m s0 ⟨hm,x9,rfl,h0⟩
    cases m with
    |zero=>cases h0
    |succ m=>
     have Ei:cf P (run P aG md m):=ih m aN
     refine Ei _ _ _ _ _ _ _ (JL m x9 h0).2 _ fun e s1 he=> ?_
     unfold qQ at he
     cases e with
     |normal=>
      refine⟨m,s1.S,Nat.lt_succ_self _,sE.same ?_,aN,s1,rfl,he⟩
      cases m with
      |zero=>cases he
      |succ m=>exact(JL m s1 he).1
     |_=>exact hQ _ _ he
   |tq g ps x y=>
    cases rd with
    |true=>
     have h:(none:Option b6)=some a:=h
     cases h
    |false=>
     have h:wH P aG (run P aG md j) n g ps x y st kt=some a:=h
     exact⟨rfl,_, .inl rfl,wM aD aX aF h hQ⟩
noncomputable def cp(P:Program)(aG:Nat->FD)(md:gm P)(k:Nat)(g:Nat)(ds:List D):Option R:=
 match uJ P aG (run P aG md k) g (ds.map .d) (.e fun _=> .no) 0 pM with
 |some (.r x)=>some x
 |_=>none
theorem bt.aL (aD:P.follows .mixedOrders=true)(aX:∀g,(aG g).Ok P g){k g:Nat}{ds:List D}{out:R}(h:cp P aG md k g ds=some out):bt P g ds out:=by
 unfold cp at h
 split at h
 ·rename_i x hr;injection h with h;subst h;exact pN aD aX (Ab aD aX k k (Nat.le_refl _)) hr
 ·cases h
end
end
def Tr.rS {α:Type}(p:Nat->α->Prop):Tr α->(Nat->Nat)->Prop
 | .e g,f=>∀i,p (f i) (g i)
 | .n x l r,f=>p (f 0) x/\rS p l (fun i=>f (2*i+1))/\rS p r (fun i=>f (2*i+2))
theorem Tr.og {α:Type}{p:Nat->α->Prop}:∀ {f:Nat->Nat} (t:Tr α),t.rS p f->∀k,p (f k) (t.get k)
 |f, .e g,h,k=>h k
 |f, .n x l r,h,k=>by
  obtain⟨h1,h2,h3⟩:=h
  rw[Tr.lL]
  split
  ·rename_i e;subst e;exact h1
  ·split
   ·have:=Tr.og l h2 (k/2)
    rwa [show 2*(k/2)+1=k by omega]at this
   ·have:=Tr.og r h3 (k/2 - 1)
    rwa [show 2*(k/2 - 1)+2=k by omega]at this
end Go.Proofs.YtlhemmpklhhgoaaGreat
