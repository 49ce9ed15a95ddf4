/-
  A PART OF THE PROOF. Conditions: none.
-/
import Derived.Test.YtealblliddhgiaaGreatVr9
set_option linter.unusedSimpArgs false
set_option linter.unusedVariables false
namespace Go.Proofs.YtealblliddhgiaaGreat
inductive Tr (α:Type) where
 |e (f:Nat->α)
 |n (x:α) (l r:Tr α)
noncomputable def Tr.get {α:Type}(t:Tr α):Nat->α:=
 Tr.rec (motive:=fun _=>Nat->α) (fun f=>f) (fun x _ _ l r k=>Bool.rec (Bool.rec (r (Nat.sub (Nat.div k 2) 1)) (l (Nat.div k 2)) (Nat.beq (Nat.mod k 2) 1)) x (Nat.beq k 0)) t
theorem Tr.Bo {α:Type}(f:Nat->α):(Tr.e f).get=f:=rfl
noncomputable def Tr.sv {α:Type}(x:α):Nat->Tr α->Nat->Tr α
 |0,t,k=> .e (ao t.get k x)
 |d+1, .e f,k=>match Nat.beq k 0 with
  |true=> .n x (.e fun i=>f (2*i+1)) (.e fun i=>f (2*i+2))
  |false=>match Nat.beq (k%2) 1 with
   |true=> .n (f 0) (Tr.sv x d (.e fun i=>f (2*i+1)) (k/2)) (.e fun i=>f (2*i+2))
   |false=> .n (f 0) (.e fun i=>f (2*i+1)) (Tr.sv x d (.e fun i=>f (2*i+2)) (k/2 - 1))
 |d+1, .n y l r,k=>match Nat.beq k 0 with
  |true=> .n x l r
  |false=>match Nat.beq (k%2) 1 with
   |true=> .n y (Tr.sv x d l (k/2)) r
   |false=> .n y l (Tr.sv x d r (k/2 - 1))
noncomputable def Tr.set {α:Type}(t:Tr α)(k:Nat)(x:α):Tr α:=Tr.sv x 24 t k
theorem Tr.sw {α:Type}{x:α}{l r:Tr α}{k:Nat}:(Tr.n x l r).get k=if k=0 then x else if k%2=1 then l.get (k/2)else r.get (k/2 - 1):=by
 show @Bool.rec (fun _=>α) (@Bool.rec (fun _=>α) (r.get (k/2 - 1)) (l.get (k/2)) (Nat.beq (k%2) 1)) x (Nat.beq k 0)=_
 by_cases h:k=0
 ·subst h;rfl
 ·have:Nat.beq k 0=false:=by cases k with|zero=>exact absurd rfl h|succ k=>rfl
  simp only[this,h,if_false]
  by_cases h2:k%2=1
  ·simp[h2]
  ·have:Nat.beq (k%2) 1=false:=by
    cases hb:Nat.beq (k%2) 1 with
    |false=>rfl
    |true=>exact absurd (Nat.eq_of_beq_eq_true hb) h2
   simp[h2,this]
theorem Tr.mu {α:Type}(x:α):∀ (d:Nat) (t:Tr α) (k:Nat),(Tr.sv x d t k).get=ao t.get k x
 |0,t,k=>rfl
 |d+1, .e f,k=>by
  funext i
  simp only[Tr.sv]
  have hb:∀a b:Nat,Nat.beq a b=decide (a=b):=fun a b=>by
   cases h:Nat.beq a b with
   |true=>simp[Nat.eq_of_beq_eq_true h]
   |false=>simp[Nat.ne_of_beq_eq_false h]
  rw[hb,hb]
  by_cases h:k=0
  ·subst h
   simp only[decide_true,Tr.sw,aL]
   by_cases hi:i=0
   ·simp[hi]
   ·simp only[hi,if_false]
    by_cases h2:i%2=1
    ·simp only[h2,if_true,Tr.Bo];congr 1;omega
    ·simp only[h2,if_false,Tr.Bo];congr 1;omega
  ·simp only[h,decide_false]
   by_cases hk:k%2=1
   ·simp only[hk,decide_true,Tr.sw,Tr.mu x d,aL,Tr.Bo]
    by_cases hi:i=0
    ·subst hi;simp[Ne.symm h]
    ·simp only[hi,if_false]
     by_cases h2:i%2=1
     ·simp only[h2,if_true]
      have e1:2*(i/2)+1=i:=by omega
      rw[e1]
      by_cases e:i=k
      ·simp[e]
      ·rw[if_neg e,if_neg (by omega)]
     ·simp only[h2,if_false]
      rw[if_neg (by intro e;subst e;exact h2 hk)]
      congr 1;omega
   ·simp only[hk,decide_false,Tr.sw,Tr.mu x d,aL,Tr.Bo]
    by_cases hi:i=0
    ·subst hi;simp[Ne.symm h]
    ·simp only[hi,if_false]
     by_cases h2:i%2=1
     ·simp only[h2,if_true]
      rw[if_neg (by intro e;subst e;exact hk h2)]
      congr 1;omega
     ·simp only[h2,if_false]
      have e1:2*(i/2 - 1)+2=i:=by omega
      rw[e1]
      by_cases e:i=k
      ·simp[e]
      ·rw[if_neg e,if_neg (by omega)]
 |d+1, .n y l r,k=>by
  funext i
  simp only[Tr.sv]
  have hb:∀a b:Nat,Nat.beq a b=decide (a=b):=fun a b=>by
   cases h:Nat.beq a b with
   |true=>simp[Nat.eq_of_beq_eq_true h]
   |false=>simp[Nat.ne_of_beq_eq_false h]
  rw[hb,hb]
  by_cases h:k=0
  ·subst h
   simp only[decide_true,Tr.sw,aL]
   by_cases hi:i=0
   ·simp[hi]
   ·simp[hi]
  ·simp only[h,decide_false]
   by_cases hk:k%2=1
   ·simp only[hk,decide_true,Tr.sw,Tr.mu x d,aL]
    by_cases hi:i=0
    ·subst hi;simp[Ne.symm h]
    ·simp only[hi,if_false]
     by_cases h2:i%2=1
     ·simp only[h2,if_true]
      by_cases e:i=k
      ·simp[e]
      ·rw[if_neg e,if_neg (by omega)]
     ·simp only[h2,if_false]
      rw[if_neg (by intro e;subst e;exact h2 hk)]
   ·simp only[hk,decide_false,Tr.sw,Tr.mu x d,aL]
    by_cases hi:i=0
    ·subst hi;simp[Ne.symm h]
    ·simp only[hi,if_false]
     by_cases h2:i%2=1
     ·simp only[h2,if_true]
      rw[if_neg (by intro e;subst e;exact hk h2)]
     ·simp only[h2,if_false]
      by_cases e:i=k
      ·simp[e]
      ·rw[if_neg e,if_neg (by omega)]
theorem Tr.iI {α:Type}(t:Tr α)(k:Nat)(x:α):(t.set k x).get=ao t.get k x:=Tr.mu x 24 t k
noncomputable def Nat.fc {β:Type}(n:Nat)(c:Nat->β):β:=Nat.rec (motive:=fun _=>β) (c 0) (fun m _=>c (Nat.succ m)) n
theorem Nat.cS {β:Type}(n:Nat)(c:Nat->β):Nat.fc n c=c n:=by cases n<;>rfl
noncomputable def Int.fc {β:Type}(n:Int)(c:Int->β):β:=Int.rec (motive:=fun _=>β) (fun m=>Nat.fc m fun m=>c (.ofNat m)) (fun m=>Nat.fc m fun m=>c (.negSucc m)) n
theorem Int.cS {β:Type}(n:Int)(c:Int->β):Int.fc n c=c n:=by cases n<;>simp only[Int.fc,Nat.cS]
mutual
noncomputable def D.fc {β:Type}:D->(D->β)->β
 | .int k n,c=>Int.fc n fun n=>c (.int k n)
 | .bool b,c=>match b with|true=>c (.bool true)|false=>c (.bool false)
 | .agg l,c=>D.sx l fun l=>c (.agg l)
 | .sl l,c=>D.sx l fun l=>c (.sl l)
 | .iface t x,c=>D.fc x fun x=>c (.iface t x)
 | .str s,c=>c (.str s)
 | .ft,c=>c .ft
 | .gy,c=>c .gy
 | .aW,c=>c .aW
 | .cI,c=>c .cI
 | .mp ks vs,c=>D.sx ks fun ks=>D.sx vs fun vs=>c (.mp ks vs)
noncomputable def D.sx {β:Type}:List D->(List D->β)->β
 |[],c=>c []
 |x::xs,c=>D.fc x fun x=>D.sx xs fun xs=>c (x::xs)
end
mutual
theorem D.cS {β:Type}:∀ (x:D) (c:D->β),D.fc x c=c x
 | .int k n,c=>by simp only[D.fc,Int.cS]
 | .bool b,c=>by cases b<;>rfl
 | .agg l,c=>by simp only[D.fc,D.eZ l]
 | .sl l,c=>by simp only[D.fc,D.eZ l]
 | .iface t x,c=>by simp only[D.fc,D.cS x]
 | .mp ks vs,c=>by simp only[D.fc,D.eZ ks,D.eZ vs]
 | .str _,_| .ft,_| .gy,_| .aW,_| .cI,_=>by simp only[D.fc]
theorem D.eZ {β:Type}:∀ (x:List D) (c:List D->β),D.sx x c=c x
 |[],c=>by simp only[D.sx]
 |x::xs,c=>by simp only[D.sx,D.cS x,D.eZ xs]
end
mutual
noncomputable def V.fc {β:Type}:V->(V->β)->β
 | .d x,c=>D.fc x fun x=>c (.d x)
 | .agg l,c=>V.sx l fun l=>c (.agg l)
 | .bT l,c=>V.sx l fun l=>c (.bT l)
 | .ptr i o,c=>Nat.fc i fun i=>Nat.fc o fun o=>c (.ptr i o)
 | .osl i o,c=>Nat.fc i fun i=>Nat.fc o fun o=>c (.osl i o)
 | .pe a b i j k,c=>Nat.fc a fun a=>Nat.fc b fun b=>Nat.fc i fun i=>Nat.fc j fun j=>Nat.fc k fun k=>c (.pe a b i j k)
 | .pp l o,c=>D.sx l fun l=>Nat.fc o fun o=>c (.pp l o)
 | .func f a b,c=>V.sx a fun a=>V.sx b fun b=>c (.func f a b)
 | .iface t x,c=>V.fc x fun x=>c (.iface t x)
 | .nr l,c=>D.sx l fun l=>c (.nr l)
 | .rk i j k,c=>Nat.fc i fun i=>Nat.fc j fun j=>Nat.fc k fun k=>c (.rk i j k)
 | .mp i,c=>Nat.fc i fun i=>c (.mp i)
 | .ke i,c=>Nat.fc i fun i=>c (.ke i)
 | .aX,c=>c .aX
 | .aa,c=>c .aa
 | .eO,c=>c .eO
noncomputable def V.sx {β:Type}:List V->(List V->β)->β
 |[],c=>c []
 |x::xs,c=>V.fc x fun x=>V.sx xs fun xs=>c (x::xs)
end
mutual
theorem V.cS {β:Type}:∀ (x:V) (c:V->β),V.fc x c=c x
 | .d x,c=>by simp only[V.fc,D.cS]
 | .agg l,c=>by simp only[V.fc,V.eZ l]
 | .bT l,c=>by simp only[V.fc,V.eZ l]
 | .pp l o,c=>by simp only[V.fc,D.eZ,Nat.cS]
 | .func f a b,c=>by simp only[V.fc,V.eZ a,V.eZ b]
 | .iface t x,c=>by simp only[V.fc,V.cS x]
 | .nr l,c=>by simp only[V.fc,D.eZ]
 | .ptr _ _,_| .osl _ _,_| .pe _ _ _ _ _,_| .rk _ _ _,_| .mp _,_| .ke _,_| .aX,_| .aa,_| .eO,_=>by simp only[V.fc,Nat.cS]
theorem V.eZ {β:Type}:∀ (x:List V) (c:List V->β),V.sx x c=c x
 |[],c=>by simp only[V.sx]
 |x::xs,c=>by simp only[V.sx,V.cS x,V.eZ xs]
end
section
variable {β:Type}
noncomputable def Ov(k:IntKind)(n:Int)(c:V->β):β:=Int.fc n fun n=>c (.d (.int k n))
noncomputable def Ow(b:Bool)(c:V->β):β:= @Bool.rec (fun _=>β) (c (.d (.bool false))) (c (.d (.bool true))) b
noncomputable def KM(x:D)(c:V->β):β:=D.fc x fun x=>c (.d x)
noncomputable def vD(x:D):(V->β)->β:=match x with| .int k n=>Ov k n| .bool b=>Ow b|x=>KM x
noncomputable def Ox(i o:Nat)(c:V->β):β:=Nat.fc i fun i=>Nat.fc o fun o=>c (.ptr i o)
noncomputable def Oy(i o:Nat)(c:V->β):β:=Nat.fc i fun i=>Nat.fc o fun o=>c (.osl i o)
noncomputable def VN(a b i j k:Nat)(c:V->β):β:=Nat.fc a fun a=>Nat.fc b fun b=>Nat.fc i fun i=>Nat.fc j fun j=>Nat.fc k fun k=>c (.pe a b i j k)
noncomputable def V.MN (v:V):(V->β)->β:=match v with| .d x=>vD x| .ptr i o=>Ox i o| .osl i o=>Oy i o| .pe a b i j k=>VN a b i j k|v=>V.fc v
theorem V.KN (v:V)(c:V->β):V.MN v c=c v:=by
 cases v
 case d x=>
  cases x
  case int k n=>simp only[V.MN,vD,Ov,Int.cS]
  case bool b=>cases b<;>rfl
  all_goals exact D.cS _ _
 case ptr i o=>simp only[V.MN,Ox,Nat.cS]
 case osl i o=>simp only[V.MN,Oy,Nat.cS]
 case pe a b i j k=>simp only[V.MN,VN,Nat.cS]
 all_goals exact V.cS _ _
end
noncomputable def MO{β:Type}:List (D×D)->(List (D×D)->β)->β
 |[],c=>c []
 |(a,b)::l,c=>D.fc a fun a=>D.fc b fun b=>MO l fun l=>c ((a,b)::l)
theorem E2{β:Type}:∀ (x:List (D×D)) (c:List (D×D)->β),MO x c=c x
 |[],c=>rfl
 |(a,b)::l,c=>by simp only[MO,D.cS,E2 l]
noncomputable def ae.fc {β:Type}(x:ae)(c:ae->β):β:=
 match x with
 | .row cs=>V.sx cs fun cs=>c (.row cs)
 | .arr e t s es=>Nat.fc e fun e=>Nat.fc s fun s=>D.sx es fun es=>c (.arr e t s es)
 | .nW e es=>Nat.fc e fun e=>D.sx es fun es=>c (.nW e es)
 | .map kt vt l=>MO l fun l=>c (.map kt vt l)
 | .dZ l=>MO l fun l=>c (.dZ l)
 | .kg l last=>MO l fun l=>c (.kg l last)
 | .rl l pos=>Nat.fc pos fun pos=>c (.rl l pos)
 |x=>c x
theorem ae.cS {β:Type}(x:ae)(c:ae->β):ae.fc x c=c x:=by cases x<;>simp only[ae.fc,V.eZ,D.eZ,Nat.cS,E2]
noncomputable def Tr.uK {α β:Type}(x:α)(d:Nat):Tr α->Nat->(Tr α->β)->β:=
 Nat.rec (motive:=fun _=>Tr α->Nat->(Tr α->β)->β) (fun t k c=>c (.e (ao t.get k x)))
  (fun _ ih t k c=>Tr.rec (motive:=fun _=>β) (fun f=>
   Bool.rec (Bool.rec (ih (.e fun i=>f (2*i+2)) (Nat.sub (Nat.div k 2) 1) fun r=>c (.n (f 0) (.e fun i=>f (2*i+1)) r)) (ih (.e fun i=>f (2*i+1)) (Nat.div k 2) fun l=>c (.n (f 0) l (.e fun i=>f (2*i+2)))) (Nat.beq (Nat.mod k 2) 1))
    (c (.n x (.e fun i=>f (2*i+1)) (.e fun i=>f (2*i+2)))) (Nat.beq k 0))
   (fun y l r _ _=>Bool.rec (Bool.rec (ih r (Nat.sub (Nat.div k 2) 1) fun r=>c (.n y l r)) (ih l (Nat.div k 2) fun l=>c (.n y l r)) (Nat.beq (Nat.mod k 2) 1)) (c (.n x l r)) (Nat.beq k 0)) t) d
theorem Tr.sy {α β:Type}(x:α):∀ (d:Nat) (t:Tr α) (k:Nat) (c:Tr α->β),Tr.uK x d t k c=c (Tr.sv x d t k)
 |0,t,k,c=>rfl
 |d+1, .e f,k,c=>by
  show @Bool.rec (fun _=>β) (@Bool.rec (fun _=>β) (Tr.uK x d (.e fun i=>f (2*i+2)) (k/2 - 1) fun r=>c (.n (f 0) (.e fun i=>f (2*i+1)) r)) (Tr.uK x d (.e fun i=>f (2*i+1)) (k/2) fun l=>c (.n (f 0) l (.e fun i=>f (2*i+2)))) (Nat.beq (k%2) 1)) (c (.n x (.e fun i=>f (2*i+1)) (.e fun i=>f (2*i+2)))) (Nat.beq k 0)=_
  simp only[Tr.sv,Tr.sy x d]
  cases Nat.beq k 0
  ·cases Nat.beq (k%2) 1<;>rfl
  ·rfl
 |d+1, .n y l r,k,c=>by
  show @Bool.rec (fun _=>β) (@Bool.rec (fun _=>β) (Tr.uK x d r (k/2 - 1) fun r=>c (.n y l r)) (Tr.uK x d l (k/2) fun l=>c (.n y l r)) (Nat.beq (k%2) 1)) (c (.n x l r)) (Nat.beq k 0)=_
  simp only[Tr.sv,Tr.sy x d]
  cases Nat.beq k 0
  ·cases Nat.beq (k%2) 1<;>rfl
  ·rfl
noncomputable def Tr.KO {α β:Type}(t:Tr α)(k:Nat)(x:α)(c:Tr α->β):β:=Tr.uK x 24 t k c
theorem Tr.Bp {α β:Type}(t:Tr α)(k:Nat)(x:α)(c:Tr α->β):t.KO k x c=c (t.set k x):=Tr.sy x 24 t k c
structure St where
 env:Tr V
 o:Tr ae
 nx:Nat
noncomputable def St.S (st:St):S:=⟨st.env.get,st.o.get,st.nx⟩
noncomputable def CU(o:Tr ae)(Δ:List (Nat×ae)):Tr ae:=Δ.foldl (fun f x=>f.set x.1 x.2) o
noncomputable def qs(env:Tr V)(dst:Option Tmp)(v:V):Tr V:=match dst with|some d=>env.set d v|none=>env
noncomputable def sA{β:Type}(o:Tr ae):List (Nat×ae)->(Tr ae->β)->β
 |[],c=>c o
 |(i,x)::Δ,c=>ae.fc x fun x=>o.KO i x fun o=>sA o Δ c
theorem mw{β:Type}:∀ (Δ:List (Nat×ae)) (o:Tr ae) (c:Tr ae->β),sA o Δ c=c (CU o Δ)
 |[],o,c=>rfl
 |(i,x)::Δ,o,c=>by simp only[sA,ae.cS,Tr.Bp,mw Δ];rfl
noncomputable def lr{β:Type}(env:Tr V)(dst:Option Tmp)(v:V)(c:Tr V->β):β:=match dst with|some d=>V.MN v fun v=>env.KO d v c|none=>c env
theorem iV{β:Type}(env:Tr V)(dst:Option Tmp)(v:V)(c:Tr V->β):lr env dst v c=c (qs env dst v):=by
 cases dst<;>simp only[lr,qs,V.KN,Tr.Bp]
theorem jo:∀ (Δ:List (Nat×ae)) (o:Tr ae),(CU o Δ).get=put o.get Δ
 |[],_=>rfl
 |x::Δ,o=>by
  simp only[CU,put,List.foldl_cons]
  have:=jo Δ (o.set x.1 x.2)
  simp only[CU,put]at this
  rw[this,Tr.iI]
theorem eo(env:Tr V)(dst:Option Tmp)(v:V):(qs env dst v).get=aY env.get dst v:=by
 cases dst<;>simp[qs,aY,Tr.iI]
section KQ
def I9(x:Operand)(_:Program)(s:S)(_:Nat):Option fW:=one (s.ev x)
def Oz(c a b:Operand)(_:Program)(s:S)(_:Nat):Option fW:=lj (oI (s.ev c) (s.ev a) (s.ev b))
def KR(t:TypeId)(parts:Array (Nat×Operand))(P:Program)(s:S)(_:Nat):Option fW:=lj (vG P t (parts.toList.map fun p=>(p.1,s.ev p.2)))
def ya(t:TypeId)(len:Nat)(parts:Array (Nat×Operand))(P:Program)(s:S)(fr:Nat):Option fW:=fL P s.o fr t len (parts.toList.map fun p=>(p.1,s.ev p.2))
def OA(t:TypeId)(x:Operand)(P:Program)(s:S)(_:Nat):Option fW:=mf P s.o t (s.ev x)
def KT(t:TypeId)(x v:Operand)(P:Program)(s:S)(_:Nat):Option fW:=pH P s.o t (s.ev x) (s.ev v)
def Tg(x:Operand)(_:Program)(s:S)(_:Nat):Option fW:=lj (iP s.o (s.ev x))
noncomputable def OB(op:BinOp):IntKind->Int->Int->Option V:=
 match op with
 | .add=>fun k a b=>some (.d (.int k (k.wrap (Int.add a b))))
 | .sub=>fun k a b=>some (.d (.int k (k.wrap (Int.sub a b))))
 | .mul=>fun k a b=>some (.d (.int k (k.wrap (Int.mul a b))))
 |op=>xC op
theorem Hk(op:BinOp):OB op=xC op:=by cases op<;>rfl
def asInt(x:V):Option (IntKind×Int):=match x with| .d (.int k a)=>some (k,a)|_=>none
def E3(op:BinOp)(t:TypeId)(c:Bool)(x y:V)(P:Program)(o:Nat->ae):Option fW:=dt P o op t c x y
noncomputable def OC(op:BinOp)(t:TypeId)(x y:Operand)(P:Program)(s:S)(_:Nat):Option fW:=
 match asInt (s.ev x)with
 |some (k,a)=>match asInt (s.ev y)with
  |some (k',b)=>if k=k' then match OB op k a b with
   |some v=>some (v,[],[])
   |none=>E3 op t (isConst x||isConst y) (s.ev x) (s.ev y) P s.o
   else none
  |none=>E3 op t (isConst x||isConst y) (s.ev x) (s.ev y) P s.o
 |none=>E3 op t (isConst x||isConst y) (s.ev x) (s.ev y) P s.o
theorem yc{x:V}{k:IntKind}{a:Int}(h:asInt x=some (k,a)):x= .d (.int k a):=by
 unfold asInt at h;split at h
 ·injection h with h;cases h;rfl
 ·cases h
def Aj(t:TypeId)(x:Operand)(f:Nat)(P:Program)(s:S)(_:Nat):Option fW:=lj (gG P s.o t (s.ev x) f)
def Ak(t:TypeId)(x i:Operand)(P:Program)(s:S)(_:Nat):Option fW:=gE P s.o t (s.ev x) (s.ev i)
def KU(op:Op)(P:Program)(s:S)(fr:Nat):Option fW:=fT P s fr op
noncomputable def Hl(op:Op):Program->S->Nat->Option fW:=
 match op with
 | .move x=>I9 x
 | .assign x=>I9 x
 | .pick c a b=>Oz c a b
 | .build t parts=>KR t parts
 | .buildSlice t len parts=>ya t len parts
 | .load t x=>OA t x
 | .store t x v=>KT t x v
 | .nilCheck x=>Tg x
 | .binOp op t x y _=>OC op t x y
 | .fieldAddr t x f=>Aj t x f
 | .indexAddr t x i=>Ak t x i
 |op=>KU op
theorem Bq{op:Op}{P:Program}{s:S}{fr:Nat}{r:fW}(h:Hl op P s fr=some r):fT P s fr op=some r:=by
 cases op
 case binOp op t x y yt=>
  simp only[Hl,OC,Hk]at h
  have e:fT P s fr (.binOp op t x y yt)=dt P s.o op t (isConst x||isConst y) (s.ev x) (s.ev y):=rfl
  rw[e]
  split at h
  ·rename_i k a hx
   split at h
   ·rename_i k' b hy
    split at h
    ·rename_i hk
     split at h
     ·rename_i v hv
      unfold dt vF
      simp only[yc hx,yc hy,if_pos hk,hv]
      exact h
     ·exact h
    ·cases h
   ·exact h
  ·exact h
 all_goals exact h
end KQ
inductive FD where
 |fn (n:Nat) (ic:IC) (rs:List ResultVar)
 |Th (n:Nat) (lO gU:IC) (g t:Nat) (iH:List Operand) (rs:List ResultVar) (m r r1:Nat) (x9:IC)
 |no
def FD.Ok (P:Program)(f:Nat):FD->Prop
 | .fn n ic rs=>aN P f n ic rs
 | .Th n lO gU g t iH rs m r r1 x9=>EY P f n lO gU g t iH rs/\Bn P g m r r1 x9
 | .no=>True
inductive CR where
 |ret (v:V) (o:Tr ae) (nx:Nat)|bK (v:V) (o:Tr ae) (nx:Nat)
def CR.to (K X:V->(Nat->ae)->Nat->Prop):CR->Prop
 | .ret v o nx=>K v o.get nx
 | .bK v o nx=>X v o.get nx
inductive RO where
 |ok (st:St)|bK (v:V) (st:St)
def RO.to (K:S->Prop)(X:V->S->Prop):RO->Prop
 | .ok st=>K st.S
 | .bK v st=>X v st.S
inductive eh where
 |r (x:R)|c (x:CR)
abbrev Kt:=e9->St->Option eh
abbrev dy:=Nat->Bool->Nat->IC->St->Kt->Option eh
noncomputable def CV(P:Program)(rs:List ResultVar)(st:St)(kc:CR->Option eh):Option eh:=
 match kX P st.S rs with
 |some [v]=>kc (.ret v st.o st.nx)
 |some vs=>kc (.ret (.bT vs) st.o st.nx)
 |none=>none
noncomputable def Ja(P:Program)(rs:List ResultVar)(kc:CR->Option eh):Kt:=fun e st=>
 match e with
 | .normal=>CV P rs st kc
 | .ret=>CV P rs st kc
 | .bK v=>kc (.bK v st.o st.nx)
 | .exit _=>none
noncomputable def E4(P:Program)(rs:List ResultVar)(kc:CR->Option eh)(env:Tr V):Kt:=fun e s4=>
 match e with
 | .normal=>CV P rs ⟨env,s4.o,s4.nx⟩ kc
 | .ret=>CV P rs ⟨env,s4.o,s4.nx⟩ kc
 |_=>none
def OD:e9->Option V
 | .normal=>some (.d .ft)
 | .ret=>some (.d .ft)
 | .bK v=>some v
 | .exit _=>none
noncomputable def E5(P:Program)(rec:dy)(rs:List ResultVar)(dx:List V)(m r r1:Nat)(x9:IC)(kc:CR->Option eh):Kt:=fun e s3=>
 match OD e with
 |some u=>if dx.length<=m then rec s3.nx true m x9 ⟨.e (ao (ao (cH dx) r u) r1 u),s3.o,s3.nx⟩ (E4 P rs kc s3.env)else none
 |none=>none
noncomputable def Br(P:Program)(rec:dy)(n t:Nat)(gU:IC)(g:Nat)(iH:List Operand)(rs:List ResultVar)(m r r1:Nat)(x9:IC)(kc:CR->Option eh):Kt:=fun e s1=>
 match e with
 | .normal=>rec s1.nx false n gU ⟨s1.env.set t (.func (.func g) [] (iH.map s1.S.ev)),s1.o,s1.nx⟩ (E5 P rec rs (iH.map s1.S.ev) m r r1 x9 kc)
 |_=>none
noncomputable def E6(P:Program)(bX:Nat->FD)(rec:dy)(g:Nat)(args:List V)(o:Tr ae)(nx:Nat)(kc:CR->Option eh):Option eh:=
 match bX g with
 | .fn n ic rs=>if args.length<=n then rec nx false n ic ⟨.e (cH args),o,nx⟩ (Ja P rs kc)else none
 | .Th n lO gU g t iH rs m r r1 x9=>if args.length<=n then rec nx true n lO ⟨.e (cH args),o,nx⟩ (Br P rec n t gU g iH rs m r r1 x9 kc)else none
 | .no=>none
def sB:V->List V
 | .bT vs=>vs
 |v=>[v]
noncomputable def Bs(r:CR):Option R:=
 match r with
 | .ret v o _=>match v with
   | .bT [_]=>none
   |v=>match bU o.get (sB v)with
    |some rs=>some (.ret rs)
    |none=>none
 | .bK v o _=>match dz o.get v with
   |some x=>some (.bK x)
   |none=>none
noncomputable def OE{β:Type}(x:R)(c:R->β):β:=match x with| .ret l=>D.sx l fun l=>c (.ret l)| .bK d=>D.fc d fun d=>c (.bK d)
theorem Am{β:Type}(x:R)(c:R->β):OE x c=c x:=by cases x<;>simp only[OE,D.eZ,D.cS]
noncomputable def yd(r:CR):Option eh:=match Bs r with|some x=>OE x fun x=>some (.r x)|none=>none
theorem E7{r:CR}{a:eh}(h:yd r=some a):∃x,Bs r=some x/\a= .r x:=by
 unfold yd at h
 split at h
 ·rename_i x hx;rw[Am]at h;injection h with h;exact⟨x,hx,h.symm⟩
 ·cases h
def E8(out:R)(o:Tr ae)(nx:Nat):CR:=
 match out with
 | .ret rs=> .ret (iD rs) o nx
 | .bK x=> .bK (.d x) o nx
structure qO (P:Program) where
 OG:Nat->Bool
 fx:Nat->List D->Option R
 ok:∀g ds out,fx g ds=some out->cj P g ds out
def E9(l:List (Nat×List D×R))(g:Nat)(ds:List D):Option R:=
 match l with
 |[]=>none
 |x::l=>match Nat.beq x.1 g with
  |true=>match D.fE x.2.1 ds with
   |true=>some x.2.2
   |false=>E9 l g ds
  |false=>E9 l g ds
theorem vY{P:Program}:∀ {l:List (Nat×List D×R)},(∀x∈l,cj P x.1 x.2.1 x.2.2)->∀g ds out,E9 l g ds=some out->cj P g ds out
 |[],_,_,_,_,h=>by cases h
 |x::l,hl,g,ds,out,h=>by
  simp only[E9]at h
  split at h
  ·rename_i hg
   split at h
   ·rename_i hd
    injection h with h
    have:=hl x (by simp)
    rw[Nat.eq_of_beq_eq_true hg,D.dq _ _ hd,h]at this
    exact this
   ·exact vY (fun y hy=>hl y (by simp[hy])) g ds out h
  ·exact vY (fun y hy=>hl y (by simp[hy])) g ds out h
def qO.of {P:Program}(OG:Nat->Bool)(l:List (Nat×List D×R))(h:∀x∈l,cj P x.1 x.2.1 x.2.2):qO P:=⟨OG,E9 l,vY h⟩
noncomputable def Hm(P:Program)(bX:Nat->FD)(md:qO P)(rec:dy)(g:Nat)(ds:List D):Option R:=
 match md.fx g ds with
 |some out=>some out
 |none=>match E6 P bX rec g (ds.map .d) (.e fun _=> .no) 0 yd with
  |some (.r x)=>some x
  |_=>none
noncomputable def Jb(out:R)(o:Tr ae)(nx:Nat)(args:List V)(kc:CR->Option eh):Option eh:=
 match out.flat with
 |true=>kc (E8 out o (nx+1))
 |false=>match out.l8 with
  |true=>kc (E8 out (CU o (qC o.get (V.a8 args))) (nx+1))
  |false=>kc (E8 out (CU o (ck o.get (V.a8 args))) (nx+1))
noncomputable def Bt(P:Program)(bX:Nat->FD)(md:qO P)(rec:dy)(g:Nat)(args:List V)(o:Tr ae)(nx:Nat)(kc:CR->Option eh):Option eh:=
 match md.OG g,bU o.get args with
 |true,some ds=>match Hm P bX md rec g ds with
  |some out=>Jb out o nx args kc
  |none=>none
 |_,_=>E6 P bX rec g args o nx kc
noncomputable def Fa(id:Nat)(kc:CR->Option eh):Kt:=fun e s2=>
 match e with
 | .bK v=>kc (.bK v s2.o s2.nx)
 |e=>match s2.o.get id with
  | .loop nf m en p c d _ _=>match e with
    | .normal=>kc (.ret (.d (.bool true)) (s2.o.set id (.loop nf m en p c d .ready none)) s2.nx)
    | .ret=>kc (.ret (.d (.bool false)) (s2.o.set id (.loop nf m en p c d .done (some .ret))) s2.nx)
    | .exit j=>kc (.ret (.d (.bool false)) (s2.o.set id (.loop nf m en p c d .done (some (.exit j)))) s2.nx)
    | .bK _=>none
  |_=>none
noncomputable def Bu(rec:dy)(id nx n:Nat)(gU:IC)(kc:CR->Option eh):Kt:=fun e s1=>
 match e with
 | .normal=>match s1.o.get id with
   | .loop nf m en p c d .ready pd=>rec nx true n gU ⟨s1.env,s1.o.set id (.loop nf m en p c d .busy pd),s1.nx⟩ (Fa id kc)
   |_=>none
 | .bK v=>kc (.bK v s1.o s1.nx)
 |_=>none
noncomputable def KW(P:Program)(rec:dy)(id:Nat)(args:List V)(o:Tr ae)(nx:Nat)(kc:CR->Option eh):Option eh:=
 match o.get id with
 | .loop nf n env ps lO gU _ _=>if nf=P.funcs.size/\id<nx/\ps.all (fun t=>decide (t<n))=true/\args.length=ps.length then
  rec nx true n lO ⟨.e (sc (bF env) ps args),o,nx⟩ (Bu rec id nx n gU kc)
   else none
 |_=>none
noncomputable def uL(P:Program)(st:St)(o:b7)(kr:RO->Option eh):Option eh:=
 match Hl o.op P st.S st.nx with
 |some (v,Δ,_)=>lr st.env o.dst v fun e=>sA st.o Δ fun ob=>Nat.fc (st.nx+1) fun n=>kr (.ok ⟨e,ob,n⟩)
 |none=>none
noncomputable def OH(st:St)(dst:Option Nat)(kr:RO->Option eh)(c:CR):Option eh:=
 match c with
 | .ret v o nx=>lr st.env dst v fun e=>Nat.fc nx fun nx=>kr (.ok ⟨e,o,nx⟩)
 | .bK v o nx=>kr (.bK v ⟨st.env,o,nx⟩)
noncomputable def Fb(c:Call)(P:Program)(bX:Nat->FD)(md:qO P)(rec:dy)(st:St)(o:b7)(kr:RO->Option eh):Option eh:=
 match c.callee with
 | .value f=>match st.S.ev f with
   | .func (.func g) first cap=>Bt P bX md rec g (first++c.args.toList.map st.S.ev++cap) st.o st.nx (OH st o.dst kr)
   | .ke id=>KW P rec id (c.args.toList.map st.S.ev) st.o st.nx (OH st o.dst kr)
   |_=>none
 | .invoke r m=>match xo P m (st.S.ev r)with
   |some (g,y)=>Bt P bX md rec g (y::c.args.toList.map st.S.ev) st.o st.nx (OH st o.dst kr)
   |none=>none
 |_=>uL P st o kr
noncomputable def KY(x:Operand)(P:Program)(_:Nat->FD)(_:qO P)(_:dy)(st:St)(_:b7)(kr:RO->Option eh):Option eh:=
 match st.S.ev x with
 | .d (.iface t y)=>kr (.bK (.d (.iface t y)) st)
 | .iface t y=>kr (.bK (.iface t y) st)
 |_=>none
noncomputable def OI(P:Program)(_:Nat->FD)(_:qO P)(_:dy)(st:St)(o:b7)(kr:RO->Option eh):Option eh:=uL P st o kr
def R.same:R->R->Bool
 | .ret a, .ret b=>D.fE a b
 | .bK a, .bK b=>a.same b
 |_,_=>false
theorem R.dS {x y:R}(h:x.same y=true):x=y:=by
 cases x<;>cases y<;>simp only[R.same,Bool.false_eq_true]at h
 ·rw[D.dq _ _ h]
 ·rw[D.dS _ _ h]
noncomputable def RJ(f:Nat->Option eh):Nat->Option eh
 |0=>none
 |n+1=>match n with
  |0=>f 0
  |n=>match RJ f n with
   |some (.r a)=>match f n with
    |some (.r b)=>match R.same a b with
     |true=>some (.r a)
     |false=>none
    |_=>none
   |_=>none
theorem Fc{f:Nat->Option eh}{a:eh}:∀ {n:Nat},RJ f n=some a->∀i,i<n->f i=some a
 |0,h,_,_=>by cases h
 |1,h,i,hi=>by obtain rfl:i=0:=by omega
               exact h
 |n+2,h,i,hi=>by
  simp only[RJ]at h
  split at h
  ·rename_i x hx
   split at h
   ·rename_i y hy
    split at h
    ·rename_i he
     have e:=R.dS he
     subst e
     rw[<- h]
     by_cases e:i=n+1
     ·subst e;exact hy
     ·exact Fc hx i (by omega)
    ·cases h
   ·cases h
  ·cases h
noncomputable def Hn(st:St)(dst:Option Nat)(kr:RO->Option eh)(v:V)(Δ:List (Nat×ae)):Option eh:=
 lr st.env dst v fun e=>sA st.o Δ fun ob=>Nat.fc (st.nx+1) fun n=>kr (.ok ⟨e,ob,n⟩)
noncomputable def Fe(x:Operand)(str:Bool)(P:Program)(_:Nat->FD)(_:qO P)(_:dy)(st:St)(o:b7)(kr:RO->Option eh):Option eh:=
 match nd st.o.get (st.S.ev x)with
 |some (id,l)=>match str with
  |true=>none
  |false=>match l with
   |[]=>Hn st o.dst kr (.bT [.d (.bool false)]) []
   |_=>RJ (fun i=>match l[i]? with
    |some (k,x)=>Hn st o.dst kr (.bT [.d (.bool true), .d k, .d x]) [(id, .kg (l.eraseIdx i) (some (k,x)))]
    |none=>none) l.length
 |none=>uL P st o kr
noncomputable def Yd(op:Op):(P:Program)->(Nat->FD)->qO P->dy->St->b7->(RO->Option eh)->Option eh:=
 match op with
 | .call c=>Fb c
 | .panic x=>KY x
 | .next x str=>Fe x str
 |_=>OI
noncomputable def RK(P:Program)(bX:Nat->FD)(md:qO P)(rec:dy)(st:St)(o:b7)(kr:RO->Option eh):Option eh:=Yd o.op P bX md rec st o kr
noncomputable def VO(next:St->Option eh)(kr:RO->Option eh):RO->Option eh:=fun r=>match r with| .ok st=>next st| .bK v st=>kr (.bK v st)
noncomputable def vZ(P:Program)(bX:Nat->FD)(md:qO P)(rec:dy)(kr:RO->Option eh):List b7->St->Option eh
 |[],st=>kr (.ok st)
 |o::l,st=>match(match o.gd with
   |none=>some true
   |some (d,want)=>match st.env.get d with
    | .d (.bool b)=>some (b==want)
    | .bT []=>some false
    |_=>none)with
  |some true=>RK P bX md rec st o (VO (vZ P bX md rec kr l) kr)
  |some false=>lr st.env o.dst (.bT []) fun e=>Nat.fc (st.nx+1) fun n=>vZ P bX md rec kr l ⟨e,st.o,n⟩
  |none=>none
section
variable {P:Program}{bX:Nat->FD}{md:qO P}
noncomputable def eu(P:Program)(rec:dy):Prop:=∀b rd n ic st k a,rec b rd n ic st k=some a->∀Q:e9->S->Prop,(∀e st',k e st'=some a->Q e st'.S)->qU P n b rd ic Q st.S
theorem qY{rs:List ResultVar}{st:St}{kc:CR->Option eh}{a:eh}(h:CV P rs st kc=some a){K X:V->(Nat->ae)->Nat->Prop}(hr:∀r,kc r=some a->r.to K X):lb P rs K X .ret st.S:=by
 unfold CV at h
 unfold lb
 split at h
 ·rename_i v hv;simp only[hv];exact hr _ h
 ·rename_i vs hv hn
  simp only[hn]
  exact hr _ h
 ·cases h
theorem my(ba:P.follows .mixedOrders=true)(cy:∀g,(bX g).Ok P g){rec:dy}(bD:eu P rec){g:Nat}{args:List V}{o:Tr ae}{nx:Nat}{kc:CR->Option eh}{a:eh}(h:E6 P bX rec g args o nx kc=some a){K X:V->(Nat->ae)->Nat->Prop}(hr:∀r,kc r=some a->r.to K X):
 eI P g args o.get nx K X:=by
 have bz:=cy g
 unfold E6 at h
 split at h
 ·rename_i n ic rs ht
  rw[ht]at bz
  split at h
  ·rename_i hl
   refine eI.se ba bz hl ?_
   refine bD _ _ _ _ _ _ _ h _ fun e st he=> ?_
   unfold Ja at he
   cases e with
   |normal=>exact qY he hr
   |ret=>exact qY he hr
   |bK v=>exact hr _ he
   |exit j=>cases he
  ·cases h
 ·rename_i n lO gU g' t iH rs m r0 r1 x9 ht
  rw[ht]at bz
  split at h
  ·rename_i hl
   refine eI.E1 ba bz.1 bz.2 hl (bD _ _ _ _ _ _ _ h _ fun e s1 he=> ?_)
   unfold Br at he
   cases e with
   |normal=>
    have hb:qU P n s1.nx false gU (Ah P m r0 r1 x9 (iH.map s1.S.ev) rs K X) ⟨ao s1.env.get t (.func (.func g') [] (iH.map s1.S.ev)),s1.o.get,s1.nx⟩:=by
     have:=bD _ _ _ _ _ _ _ he (Ah P m r0 r1 x9 (iH.map s1.S.ev) rs K X) (fun e s3 MP=>by
      unfold E5 at MP
      split at MP
      ·rename_i u hu
       split at MP
       ·rename_i jB
        have Ye:CS P m r0 r1 x9 (iH.map s1.S.ev) u s3.o.get s3.nx fun o nx=>lb P rs K X .ret ⟨s3.env.get,o,nx⟩:=by
         refine⟨jB,bD _ _ _ _ _ _ _ MP _ fun e4 s4 RL=> ?_⟩
         unfold E4 at RL
         cases e4 with
         |normal=>exact qY (st:=⟨s3.env,s4.o,s4.nx⟩) RL hr
         |ret=>exact qY (st:=⟨s3.env,s4.o,s4.nx⟩) RL hr
         |_=>cases RL
        cases e<;>simp only[OD,Option.some.injEq,reduceCtorEq]at hu<;>subst hu<;>exact Ye
       ·cases MP
      ·cases MP)
     simp only[St.S,Tr.iI]at this
     exact this
    exact hb
   |_=>cases he
  ·cases h
 ·cases h
theorem Ff{r:CR}{out:R}(ho:Bs r=some out):r.to (fun v o _=>∃vs rs,v=(match vs with|[v]=>v|vs=> .bT vs)/\bU o vs=some rs/\out= .ret rs) (fun v o _=>∃x,dz o v=some x/\out= .bK x):=by
 unfold Bs at ho
 split at ho
 ·rename_i v o nx
  split at ho
  ·cases ho
  ·rename_i hv
   split at ho
   ·rename_i rs Nk
    injection ho with ho;subst ho
    refine⟨sB v,rs, ?_,Nk,rfl⟩
    cases v with
    |bT vs=>
     match vs,hv with
     |[],_=>rfl
     |[x],hv=>exact absurd rfl (hv x)
     |_::_::_,_=>rfl
    |_=>rfl
   ·cases ho
 ·split at ho
  ·rename_i x hx
   injection ho with ho;subst ho
   exact⟨x,hx,rfl⟩
  ·cases ho
theorem ye(ba:P.follows .mixedOrders=true)(cy:∀g,(bX g).Ok P g){rec:dy}(bD:eu P rec){g:Nat}{ds:List D}{out:R}(h:E6 P bX rec g (ds.map .d) (.e fun _=> .no) 0 yd=some (.r out)):cj P g ds out:=by
 refine cj.lg (my ba cy bD h fun r hr=> ?_)
 obtain⟨x,hx,he⟩:=E7 hr
 injection he with he;subst he
 exact Ff hx
theorem v7(ba:P.follows .mixedOrders=true)(cy:∀g,(bX g).Ok P g){rec:dy}(bD:eu P rec){g:Nat}{ds:List D}{out:R}(h:Hm P bX md rec g ds=some out):cj P g ds out:=by
 unfold Hm at h
 split at h
 ·rename_i Yf ho
  injection h with h;subst h
  exact md.ok _ _ _ ho
 ·split at h
  ·rename_i x hr;injection h with h;subst h;exact ye ba cy bD hr
  ·cases h
theorem yf(ba:P.follows .mixedOrders=true)(cy:∀g,(bX g).Ok P g){rec:dy}(bD:eu P rec){g:Nat}{args:List V}{o:Tr ae}{nx:Nat}{kc:CR->Option eh}{a:eh}(h:Bt P bX md rec g args o nx kc=some a){K X:V->(Nat->ae)->Nat->Prop}(hr:∀r,kc r=some a->r.to K X):
 Iy P g args o.get nx K X:=by
 unfold Bt at h
 split at h
 ·rename_i ds Y3 eM
  split at h
  ·rename_i out Fg
   have hP:=v7 ba cy bD Fg
   refine .inl ⟨ds,eM,out,hP, ?_⟩
   unfold Jb at h
   split at h
   ·rename_i hf
    refine .inr (.inl ⟨hf, ?_⟩)
    cases out<;>exact hr _ h
   ·split at h
    ·rename_i hf
     refine .inr (.inr ⟨hf, ?_⟩)
     rw[<- jo]
     cases out<;>exact hr _ h
    ·refine .inl ?_
     rw[<- jo]
     cases out<;>exact hr _ h
  ·cases h
 ·exact .inr (my ba cy bD h hr)
theorem Ho(ba:P.follows .mixedOrders=true){rec:dy}(bD:eu P rec){id:Nat}{args:List V}{o:Tr ae}{nx:Nat}{kc:CR->Option eh}{a:eh}(h:KW P rec id args o nx kc=some a){K X:V->(Nat->ae)->Nat->Prop}(hr:∀r,kc r=some a->r.to K X):
 dD P id args o.get nx K X:=by
 unfold KW at h
 split at h
 ·rename_i nf n env ps lO gU st pd ho
  split at h
  ·rename_i hc
   obtain⟨rfl,bL,Hj,hl⟩:=hc
   refine dD.se ba ho bL Hj hl ?_
   refine bD _ _ _ _ _ _ _ h _ fun e s1 he=> ?_
   unfold Bu at he
   cases e with
   |normal=>
    simp only at he
    split at he
    ·rename_i nf m en p c d pd j8
     refine⟨nf,m,en,p,c,d,pd,j8, ?_⟩
     have:=bD _ _ _ _ _ _ _ he (lq id K X) (fun e s2 h2=>by
      unfold Fa at h2
      split at h2
      ·exact hr _ h2
      ·rename_i Iq
       split at h2
       ·rename_i Oe m' Ti p' c' d' st' pd' KZ
        cases e with
        |bK v=>cases h2
        |normal=>have h3:=hr _ h2;simp only[CR.to,Tr.iI]at h3;exact⟨Oe,m',Ti,p',c',d',st',pd',KZ,h3⟩
        |ret=>have h3:=hr _ h2;simp only[CR.to,Tr.iI]at h3;exact⟨Oe,m',Ti,p',c',d',st',pd',KZ,h3⟩
        |exit j=>have h3:=hr _ h2;simp only[CR.to,Tr.iI]at h3;exact⟨Oe,m',Ti,p',c',d',st',pd',KZ,h3⟩
       ·cases h2)
     simp only[St.S,Tr.iI]at this
     exact this
    ·cases he
   |bK v=>exact hr _ he
   |_=>cases he
  ·cases h
 ·cases h
theorem sC{st:St}{o:b7}{kr:RO->Option eh}{a:eh}(h:uL P st o kr=some a){K:S->Prop}{X:V->S->Prop}(hr:∀r,kr r=some a->r.to K X):match fT P st.S st.S.nx o.op with
 |some (v,Δ,_)=>K ⟨aY st.S.env o.dst v,put st.S.o Δ,st.S.nx+1⟩
 |none=>False:=by
 unfold uL at h
 split at h
 ·rename_i v Δ rd he
  have he:=Bq he
  simp only[iV,mw,Nat.cS]at h
  have hr:=hr _ h
  simp only[RO.to,St.S,eo,jo]at hr
  have e8:fT P st.S st.S.nx o.op=some (v,Δ,rd):=he
  simp only[e8]
  exact hr
 ·cases h
theorem Bv{st:St}{dst:Option Nat}{kr:RO->Option eh}{v:V}{Δ:List (Nat×ae)}{a:eh}(h:Hn st dst kr v Δ=some a){K:S->Prop}{X:V->S->Prop}(hr:∀r,kr r=some a->r.to K X):K ⟨aY st.S.env dst v,put st.S.o Δ,st.S.nx+1⟩:=by
 unfold Hn at h
 simp only[iV,mw,Nat.cS]at h
 have hr:=hr _ h
 simp only[RO.to,St.S,eo,jo]at hr
 exact hr
theorem K0(ba:P.follows .mixedOrders=true)(cy:∀g,(bX g).Ok P g){rec:dy}(bD:eu P rec){st:St}{o:b7}{kr:RO->Option eh}{a:eh}(h:RK P bX md rec st o kr=some a){K:S->Prop}{X:V->S->Prop}(hr:∀r,kr r=some a->r.to K X):DU P st.S o X K:=by
 have cr:∀r,OH st o.dst kr r=some a->r.to (fun v o' nx'=>K ⟨aY st.S.env o.dst v,o',nx'⟩) (fun v o' nx'=>X v ⟨st.S.env,o',nx'⟩):=by
  intro r hx
  unfold OH at hx
  split at hx
  ·simp only[iV,Nat.cS]at hx
   have hr:=hr _ hx
   simp only[RO.to,St.S,eo]at hr
   exact hr
  ·exact hr _ hx
 unfold RK at h
 unfold DU
 cases dw:o.op
 case call c=>
  rw[dw]at h
  have h:Fb c P bX md rec st o kr=some a:=h
  unfold Fb at h
  cases hf:c.callee
  case value f=>
   simp only[hf]at h|-
   split at h
   ·rename_i g first cap hv
    simp only[hv]
    have:=yf ba cy bD h cr
    rcases this with⟨ds,eM,hP⟩|hC
    ·have K1:bU st.S.o (first++List.map st.S.ev c.args.toList++cap)=some ds:=eM
     simp only[K1]
     exact .inl hP
    ·split
     ·exact .inr (.inl hC)
     ·exact .inl hC
   ·rename_i id hv
    simp only[hv]
    exact Ho ba bD h cr
   ·cases h
  case invoke r m=>
   simp only[hf]at h|-
   split at h
   ·rename_i g y hv
    simp only[hv]
    exact yf ba cy bD h cr
   ·cases h
  all_goals
   simp only[hf]at h|-
   have:=sC h hr
   rw[dw]at this
   exact this
 case panic x=>
  rw[dw]at h
  have h:KY x P bX md rec st o kr=some a:=h
  unfold KY at h
  split at h
  ·rename_i hv;simp only[hv];exact hr _ h
  ·rename_i hv;simp only[hv];exact hr _ h
  ·cases h
 case next x str=>
  rw[dw]at h
  have h:Fe x str P bX md rec st o kr=some a:=h
  unfold Fe at h
  have hl:nd st.S.o (st.S.ev x)=nd st.o.get (st.S.ev x):=rfl
  simp only[hl]
  split at h
  ·rename_i id l aj
   simp only[aj]
   cases str with
   |true=>cases h
   |false=>
    refine⟨rfl,fun e=> ?_,fun i k y e=> ?_⟩
    ·subst e
     exact Bv h hr
    ·cases l with
     |nil=>simp at e
     |cons p l=>
      have:=Fc h i (List.getElem?_eq_some_iff.1 e).1
      rw[e]at this
      exact Bv this hr
  ·rename_i aj
   simp only[aj]
   have:=sC h hr
   rw[dw]at this
   exact this
 all_goals
  have h2:uL P st o kr=some a:=by rw[dw]at h;exact h
  have:=sC h2 hr
  rw[dw]at this
  exact this
theorem qZ(ba:P.follows .mixedOrders=true)(cy:∀g,(bX g).Ok P g){rec:dy}(bD:eu P rec){kr:RO->Option eh}{a:eh}{K:S->Prop}{X:V->S->Prop}(hr:∀r,kr r=some a->r.to K X):∀ (l:List b7) (st:St),vZ P bX md rec kr l st=some a->nG P X K l st.S
 |[],st,h=>hr (.ok st) h
 |o::l,st,h=>by
  simp only[vZ,iV,Nat.cS]at h
  simp only[nG]
  have op:RK P bX md rec st o (VO (vZ P bX md rec kr l) kr)=some a->DU P st.S o X (nG P X K l):=by
   intro h
   refine K0 ba cy bD h fun r VP=> ?_
   cases r with
   |ok K2=>exact qZ ba cy bD hr l K2 VP
   |bK v K2=>exact hr (.bK v K2) VP
  have sk:vZ P bX md rec kr l ⟨qs st.env o.dst (.bT []),st.o,st.nx+1⟩=some a->nG P X K l ⟨aY st.S.env o.dst (.bT []),st.S.o,st.S.nx+1⟩:=by
   intro h
   have:=qZ ba cy bD hr l _ h
   simp only[St.S,eo]at this
   exact this
  cases hg:o.gd with
  |none=>simp only[hg]at h;exact op h
  |some p=>
   obtain⟨d,want⟩:=p
   simp only[hg]at h
   have he:st.S.env d=st.env.get d:=rfl
   simp only[he]
   cases hv:st.env.get d with
   |d x=>
    cases x with
    |bool b=>
     simp only[hv]at h|-
     by_cases e:b=want
     ·subst e
      simp only[beq_self_eq_true]at h
      rw[if_pos rfl];exact op h
     ·have:(b==want)=false:=by simpa using e
      rw[this]at h
      rw[if_neg e];exact sk h
    |_=>simp[hv]at h
   |bT vs=>
    cases vs with
    |nil=>simp only[hv]at h|-;exact sk h
    |cons a bY=>simp[hv]at h
   |_=>simp[hv]at h
end
end Go.Proofs.YtealblliddhgiaaGreat
namespace Go.Proofs.YtealblliddhgiaaGreat
theorem zU.K4 {P:Program}{g:FuncId}{ds:List D}{o:Nat->ae}{fr:Nat}{ty:TypeId}{sz:Nat}{es:List D}
 (h:eI P g (ds.map .d) (fun _=> .no) 0 (fun v o1 _=>(∃j ep,v= .osl j ep/\o1 j= .arr ep ty sz es)\/(v= .aX/\es=[]/\0<sz)) (fun _ _ _=>False)):
 zU P g (ds.map .d) [] o fr (.osl fr 0) [(fr, .arr 0 ty sz es)]:=by
 refine⟨h.1,fun o' us M φ w vals _ cU hH hd=> ?_⟩
 let ct:Place:=fun _=> .nilFunc
 have nE:∀b, ¬bO ct (hp (fun _=> .no) 0) b:=by rintro b ⟨id,hl,_⟩;simp[hp,ae.live]at hl
 have hM:∀b,ai M φ ⟨o',us⟩ b->b<w.heap.size:=fun b hb=>hb.elim (hH.tv b) fun hl=>(hH.ours b hl).2
 have tV:=(V.cd _ _).1 hd
 refine(h.2 (ai M φ ⟨o',us⟩) ct w vals (kz ct hM) ((V.cd _ _).2 (D.aI (w:=w) (w':=w) (B:=ai M φ ⟨o',us⟩) (fun b _ hB=>⟨rfl,fun h=>h.elim hB (nE b)⟩) _ _ tV))).mono ?_
 rintro e w' ⟨hZ,o1,n1,v,k1,k2,k3⟩
 have hk:eF (fun _=>False) w w':=⟨k2.b8.os,k2.b8.tape,k2.b8.output,k2.b8.size,fun k hk _=>k2.b8.block k hk (nE k)⟩
 have Gp:(⟨o',us⟩:Hp).put [(fr, .arr 0 ty sz es)]=⟨put o' [(fr, .arr 0 ty sz es)],fun id=>us id\/id=fr⟩:=by
  simp only[Hp.put]
  congr 1
  funext id
  simp
 have fin:∀ (val:Value) (xs:List Value),(∀b,eC val=some b->w.heap.size<=b/\b<w'.heap.size)->0<sz->w'.ownsRow 0 ty sz val es.length xs->
  (gA (ai M (ao φ fr val) ((⟨o',us⟩:Hp).put [(fr, .arr 0 ty sz es)])) w' sz es xs)->
  val.oneCell'=true->
  ∃ay,au M ay ⟨put o' [(fr, .arr 0 ty sz es)],fun id=>us id\/id=fr⟩ w'/\Trans φ ⟨o',us⟩ w ay ⟨put o' [(fr, .arr 0 ty sz es)],fun id=>us id\/id=fr⟩ w'/\
   ∃Fh,Ending.returned val= .returned Fh/\V.den (ai M ay ⟨put o' [(fr, .arr 0 ty sz es)],fun id=>us id\/id=fr⟩) ay ⟨put o' [(fr, .arr 0 ty sz es)],fun id=>us id\/id=fr⟩ w' (.osl fr 0) Fh:=by
  intro val xs jc dX eR a7 Tj
  have oG:=jd hH hk cU (.arr 0 ty sz es) val jc (by
   unfold aK
   rw[show((⟨o',us⟩:Hp).put [(fr, .arr 0 ty sz es)]).o fr= .arr 0 ty sz es by simp]
   refine⟨dX,xs, ?_,a7⟩
   rw[show ao φ fr val fr=val by simp]
   exact eR)
  have OJ:=eQ (φ:=φ) (H:=⟨o',us⟩) hk cU (.arr 0 ty sz es) val (fun b hb=>(jc b hb).1)
  rw[Gp]at oG OJ
  refine⟨ao φ fr val,oG,OJ,val,rfl,Tj, .inr rfl,fun e he=> ?_⟩
  have e8:0=e:=by
   have:(put o' [(fr,ae.arr 0 ty sz es)] fr).aZ=some 0:=by simp[put,ae.aZ]
   rw[show(⟨put o' [(fr, .arr 0 ty sz es)],fun id=>us id\/id=fr⟩:Hp).o fr=put o' [(fr, .arr 0 ty sz es)] fr from rfl,this]at he
   injection he
  exact⟨by omega,fun _=>by simp⟩
 cases e with
 |outgrown=>exact k3.elim
 |panicked ch=>obtain⟨_,_,_,h⟩:=k3;exact h.elim
 |returned val=>
  obtain⟨g1,⟨j,ep,rfl,hj⟩|⟨rfl,rfl,dX⟩⟩:=k3
  ·obtain⟨v0,v1,v2⟩:=g1
   have dP:val=hZ j:=(v2 ep (by show(o1 j).aZ=some ep;rw[hj];rfl)).2 rfl
   have bS:∀b,eC val=some b->bO hZ (hp o1 n1) b:=fun b hb=>⟨j,by show(o1 j).live=true;rw[hj];rfl,by rw[<- dP];exact hb⟩
   have jc:∀b,eC val=some b->w.heap.size<=b/\b<w'.heap.size:=fun b hb=>⟨(k2.grow b (bS b hb)).resolve_left (nE b),(k1.ours b (bS b hb)).2⟩
   have K5:=k1.ok j
   unfold aK at K5
   rw[show(hp o1 n1).o j= .arr ep ty sz es from hj]at K5
   obtain⟨dX,xs,eR,a7⟩:=K5
   have Yg:∀b,ai M (ao φ fr val) ((⟨o',us⟩:Hp).put [(fr, .arr 0 ty sz es)]) b->ai (ai M φ ⟨o',us⟩) hZ (hp o1 n1) b:=by
    rintro b (hb|⟨id,hl,hb⟩)
    ·exact .inl (.inl hb)
    ·by_cases e:id=fr
     ·subst e
      simp at hb
      exact .inr (bS b hb)
     ·simp[e]at hl hb
      exact .inl (.inr ⟨id,hl,hb⟩)
   exact fin val xs jc dX (by rw[dP];exact eR) (a7.mono (w:=w') (w':=w') (fun b _ hB=>⟨rfl,fun h=>hB (Yg b h)⟩)) v0
  ·have g1:val= .slice none 0 0:=g1
   subst g1
   exact fin _ [] (fun b hb=>by cases hb) dX (World.ownsRow_nil w' 0 ty sz) ⟨[],rfl,by simp,rfl⟩ rfl
theorem zU.Hq {P:Program}{g:FuncId}{args:List V}{ds:List D}{o:Nat->ae}{fr:Nat}{ty:TypeId}{sz:Nat}{es:List D}
 (eM:bU o args=some ds) (kS:D.jg es=true) (h:eI P g (ds.map .d) (fun _=> .no) 0 (fun v o1 _=>(∃j ep,v= .osl j ep/\o1 j= .arr ep ty sz es)\/(v= .aX/\es=[]/\0<sz)) (fun _ _ _=>False)):
 zU P g args (V.a8 args) o fr (.osl fr 0) [(fr, .arr 0 ty sz es)]:=by
 refine⟨h.1,fun o' us M φ w vals VQ cU hH hd=> ?_⟩
 obtain⟨f1,f2,f3,f4,f5⟩:=cG hH (V.a8 args) (fun id aj=>(VQ id aj).2)
 generalize Y4:(⟨o',us⟩:Hp).put (ck (⟨o',us⟩:Hp).o (V.a8 args))=HF at f1 f2 f3
 let ct:Place:=fun _=> .nilFunc
 have nE:∀b, ¬bO ct (hp (fun _=> .no) 0) b:=by rintro b ⟨id,hl,_⟩;simp[hp,ae.live]at hl
 have hM:∀b,ai M φ HF b->b<w.heap.size:=fun b hb=>hb.elim (f1.tv b) fun hl=>(f1.ours b hl).2
 have tV:D.aC (ai M φ HF) w ds vals.toList:=dn f1 args ds _ (fun id aj=>by rw[f3 id aj];show(o' id).fz=(o id).fz;rw[(VQ id aj).1]) eM (V.aI f2 _ _ hd)
 refine(h.2 (ai M φ HF) ct w vals (kz ct hM) ((V.cd _ _).2 (D.aI (w:=w) (w':=w) (B:=ai M φ HF) (fun b _ hB=>⟨rfl,fun h=>h.elim hB (nE b)⟩) _ _ tV))).mono ?_
 rintro e w' ⟨hZ,o1,n1,v,k1,k2,k3⟩
 have hk:eF (fun _=>False) w w':=⟨k2.b8.os,k2.b8.tape,k2.b8.output,k2.b8.size,fun k hk _=>k2.b8.block k hk (nE k)⟩
 have Gp:(⟨o',us⟩:Hp).put [(fr, .arr 0 ty sz es)]=⟨put o' [(fr, .arr 0 ty sz es)],fun id=>us id\/id=fr⟩:=by
  simp only[Hp.put]
  congr 1
  funext id
  simp
 have fin:∀ (val:Value) (xs:List Value),(∀b,eC val=some b->w.heap.size<=b/\b<w'.heap.size)->0<sz->w'.ownsRow 0 ty sz val es.length xs->
  (gA (ai M (ao φ fr val) ((⟨o',us⟩:Hp).put [(fr, .arr 0 ty sz es)])) w' sz es xs)->
  val.oneCell'=true->
  ∃ay,au M ay ⟨put o' [(fr, .arr 0 ty sz es)],fun id=>us id\/id=fr⟩ w'/\Trans φ ⟨o',us⟩ w ay ⟨put o' [(fr, .arr 0 ty sz es)],fun id=>us id\/id=fr⟩ w'/\
   ∃Fh,Ending.returned val= .returned Fh/\V.den (ai M ay ⟨put o' [(fr, .arr 0 ty sz es)],fun id=>us id\/id=fr⟩) ay ⟨put o' [(fr, .arr 0 ty sz es)],fun id=>us id\/id=fr⟩ w' (.osl fr 0) Fh:=by
  intro val xs jc dX eR a7 Tj
  have oG:=jd hH hk cU (.arr 0 ty sz es) val jc (by
   unfold aK
   rw[show((⟨o',us⟩:Hp).put [(fr, .arr 0 ty sz es)]).o fr= .arr 0 ty sz es by simp]
   refine⟨dX,xs, ?_,a7⟩
   rw[show ao φ fr val fr=val by simp]
   exact eR)
  have OJ:=eQ (φ:=φ) (H:=⟨o',us⟩) hk cU (.arr 0 ty sz es) val (fun b hb=>(jc b hb).1)
  rw[Gp]at oG OJ
  refine⟨ao φ fr val,oG,OJ,val,rfl,Tj, .inr rfl,fun e he=> ?_⟩
  have e8:0=e:=by
   have:(put o' [(fr,ae.arr 0 ty sz es)] fr).aZ=some 0:=by simp[put,ae.aZ]
   rw[show(⟨put o' [(fr, .arr 0 ty sz es)],fun id=>us id\/id=fr⟩:Hp).o fr=put o' [(fr, .arr 0 ty sz es)] fr from rfl,this]at he
   injection he
  exact⟨by omega,fun _=>by simp⟩
 cases e with
 |outgrown=>exact k3.elim
 |panicked ch=>obtain⟨_,_,_,h⟩:=k3;exact h.elim
 |returned val=>
  obtain⟨g1,⟨j,ep,rfl,hj⟩|⟨rfl,rfl,dX⟩⟩:=k3
  ·obtain⟨v0,v1,v2⟩:=g1
   have dP:val=hZ j:=(v2 ep (by show(o1 j).aZ=some ep;rw[hj];rfl)).2 rfl
   have bS:∀b,eC val=some b->bO hZ (hp o1 n1) b:=fun b hb=>⟨j,by show(o1 j).live=true;rw[hj];rfl,by rw[<- dP];exact hb⟩
   have jc:∀b,eC val=some b->w.heap.size<=b/\b<w'.heap.size:=fun b hb=>⟨(k2.grow b (bS b hb)).resolve_left (nE b),(k1.ours b (bS b hb)).2⟩
   have K5:=k1.ok j
   unfold aK at K5
   rw[show(hp o1 n1).o j= .arr ep ty sz es from hj]at K5
   obtain⟨dX,xs,eR,a7⟩:=K5
   obtain⟨evs,e1,e2,e3⟩:=a7
   exact fin val xs jc dX (by rw[dP];exact eR) ⟨evs,e1,e2,D.kV _ _ kS e3⟩ v0
  ·have g1:val= .slice none 0 0:=g1
   subst g1
   exact fin _ [] (fun b hb=>by cases hb) dX (World.ownsRow_nil w' 0 ty sz) ⟨[],rfl,by simp,rfl⟩ rfl
theorem zU.Hr {P:Program}{g:FuncId}{args:List V}{ds:List D}{o0 o:Nat->ae}{rd:List Nat}{fr:Nat}{v:V}{Δ:List (Nat×ae)}(aj:V.a8 args=[])(eM:bU o0 args=some ds)
 (h:zU P g (ds.map .d) rd o fr v Δ):zU P g args rd o fr v Δ:=
 ⟨h.1,fun o' us M φ w vals h1 h2 hH hd=>h.2 o' us M φ w vals h1 h2 hH ((V.cd _ _).2 (dn hH args ds _ (by rw[aj];intro id h;cases h) eM hd))⟩
end Go.Proofs.YtealblliddhgiaaGreat
