/-
  A PART OF THE PROOF. Conditions: none.
-/
import Derived.Test.YtonbelhklnmjnaaGreatLt9
set_option linter.unusedSimpArgs false
set_option linter.unusedVariables false
namespace Go.Proofs.YtonbelhklnmjnaaGreat
inductive Tr (α:Type) where
 |e (f:Nat->α)
 |n (x:α) (l r:Tr α)
noncomputable def Tr.get {α:Type}(t:Tr α):Nat->α:=
 Tr.rec (motive:=fun _=>Nat->α) (fun f=>f) (fun x _ _ l r k=>Bool.rec (Bool.rec (r (Nat.sub (Nat.div k 2) 1)) (l (Nat.div k 2)) (Nat.beq (Nat.mod k 2) 1)) x (Nat.beq k 0)) t
theorem Tr.FF {α:Type}(f:Nat->α):(Tr.e f).get=f:=rfl
noncomputable def Tr.uY {α:Type}(x:α):Nat->Tr α->Nat->Tr α
 |0,t,k=> .e (aM t.get k x)
 |d+1, .e f,k=>match Nat.beq k 0 with
  |true=> .n x (.e fun i=>f (2*i+1)) (.e fun i=>f (2*i+2))
  |false=>match Nat.beq (k%2) 1 with
   |true=> .n (f 0) (Tr.uY x d (.e fun i=>f (2*i+1)) (k/2)) (.e fun i=>f (2*i+2))
   |false=> .n (f 0) (.e fun i=>f (2*i+1)) (Tr.uY x d (.e fun i=>f (2*i+2)) (k/2 - 1))
 |d+1, .n y l r,k=>match Nat.beq k 0 with
  |true=> .n x l r
  |false=>match Nat.beq (k%2) 1 with
   |true=> .n y (Tr.uY x d l (k/2)) r
   |false=> .n y l (Tr.uY x d r (k/2 - 1))
noncomputable def Tr.set {α:Type}(t:Tr α)(k:Nat)(x:α):Tr α:=Tr.uY x 24 t k
theorem Tr.uZ {α:Type}{x:α}{l r:Tr α}{k:Nat}:(Tr.n x l r).get k=if k=0 then x else if k%2=1 then l.get (k/2)else r.get (k/2 - 1):=by
 show @Bool.rec (fun _=>α) (@Bool.rec (fun _=>α) (r.get (k/2 - 1)) (l.get (k/2)) (Nat.beq (k%2) 1)) x (Nat.beq k 0)=_
 by_cases h:k=0
 ·subst h;rfl
 ·have:Nat.beq k 0=false:=by cases k with|zero=>exact absurd rfl h|succ k=>rfl
  simp only[this,h,if_false]
  by_cases h2:k%2=1
  ·simp[h2]
  ·have:Nat.beq (k%2) 1=false:=by
    cases hb:Nat.beq (k%2) 1 with
    |false=>rfl
    |true=>exact absurd (Nat.eq_of_beq_eq_true hb) h2
   simp[h2,this]
theorem Tr.nC {α:Type}(x:α):∀ (d:Nat) (t:Tr α) (k:Nat),(Tr.uY x d t k).get=aM t.get k x
 |0,t,k=>rfl
 |d+1, .e f,k=>by
  funext i
  simp only[Tr.uY]
  have hb:∀a b:Nat,Nat.beq a b=decide (a=b):=fun a b=>by
   cases h:Nat.beq a b with
   |true=>simp[Nat.eq_of_beq_eq_true h]
   |false=>simp[Nat.ne_of_beq_eq_false h]
  rw[hb,hb]
  by_cases h:k=0
  ·subst h
   simp only[decide_true,Tr.uZ,aS]
   by_cases hi:i=0
   ·simp[hi]
   ·simp only[hi,if_false]
    by_cases h2:i%2=1
    ·simp only[h2,if_true,Tr.FF];congr 1;omega
    ·simp only[h2,if_false,Tr.FF];congr 1;omega
  ·simp only[h,decide_false]
   by_cases hk:k%2=1
   ·simp only[hk,decide_true,Tr.uZ,Tr.nC x d,aS,Tr.FF]
    by_cases hi:i=0
    ·subst hi;simp[Ne.symm h]
    ·simp only[hi,if_false]
     by_cases h2:i%2=1
     ·simp only[h2,if_true]
      have e1:2*(i/2)+1=i:=ad
      rw[e1]
      by_cases e:i=k
      ·simp[e]
      ·exact M9
     ·simp only[h2,if_false]
      rw[if_neg (by intro e;subst e;exact h2 hk)]
      congr 1;omega
   ·simp only[hk,decide_false,Tr.uZ,Tr.nC x d,aS,Tr.FF]
    by_cases hi:i=0
    ·subst hi;simp[Ne.symm h]
    ·simp only[hi,if_false]
     by_cases h2:i%2=1
     ·simp only[h2,if_true]
      rw[if_neg (by intro e;subst e;exact hk h2)]
      congr 1;omega
     ·simp only[h2,if_false]
      have e1:2*(i/2 - 1)+2=i:=ad
      rw[e1]
      by_cases e:i=k
      ·simp[e]
      ·exact M9
 |d+1, .n y l r,k=>by
  funext i
  simp only[Tr.uY]
  have hb:∀a b:Nat,Nat.beq a b=decide (a=b):=fun a b=>by
   cases h:Nat.beq a b with
   |true=>simp[Nat.eq_of_beq_eq_true h]
   |false=>simp[Nat.ne_of_beq_eq_false h]
  rw[hb,hb]
  by_cases h:k=0
  ·subst h
   simp only[decide_true,Tr.uZ,aS]
   by_cases hi:i=0
   ·simp[hi]
   ·simp[hi]
  ·simp only[h,decide_false]
   by_cases hk:k%2=1
   ·simp only[hk,decide_true,Tr.uZ,Tr.nC x d,aS]
    by_cases hi:i=0
    ·subst hi;simp[Ne.symm h]
    ·simp only[hi,if_false]
     by_cases h2:i%2=1
     ·simp only[h2,if_true]
      by_cases e:i=k
      ·simp[e]
      ·exact M9
     ·simp only[h2,if_false]
      rw[if_neg (by intro e;subst e;exact h2 hk)]
   ·simp only[hk,decide_false,Tr.uZ,Tr.nC x d,aS]
    by_cases hi:i=0
    ·subst hi;simp[Ne.symm h]
    ·simp only[hi,if_false]
     by_cases h2:i%2=1
     ·simp only[h2,if_true]
      rw[if_neg (by intro e;subst e;exact hk h2)]
     ·simp only[h2,if_false]
      by_cases e:i=k
      ·simp[e]
      ·exact M9
theorem Tr.jm {α:Type}(t:Tr α)(k:Nat)(x:α):(t.set k x).get=aM t.get k x:=Tr.nC x 24 t k
noncomputable def Nat.fc {β:Type}(n:Nat)(c:Nat->β):β:=Nat.rec (motive:=fun _=>β) (c 0) (fun m _=>c (Nat.succ m)) n
theorem Nat.dg {β:Type}(n:Nat)(c:Nat->β):Nat.fc n c=c n:=by cases n<;>rfl
noncomputable def Int.fc {β:Type}(n:Int)(c:Int->β):β:=Int.rec (motive:=fun _=>β) (fun m=>Nat.fc m fun m=>c (.ofNat m)) (fun m=>Nat.fc m fun m=>c (.negSucc m)) n
theorem Int.dg {β:Type}(n:Int)(c:Int->β):Int.fc n c=c n:=by cases n<;>simp only[Int.fc,Nat.dg]
mutual
noncomputable def D.fc {β:Type}:D->(D->β)->β
 | .int k n,c=>Int.fc n fun n=>c (.int k n)
 | .bool b,c=>match b with|true=>c (.bool true)|false=>c (.bool false)
 | .agg l,c=>D.u0 l fun l=>c (.agg l)
 | .sl l,c=>D.u0 l fun l=>c (.sl l)
 | .iface t x,c=>D.fc x fun x=>c (.iface t x)
 | .str s,c=>c (.str s)
 | .fD,c=>c .fD
 | .mM,c=>c .mM
 | .bW,c=>c .bW
 | .jq,c=>c .jq
 | .mp ks vs,c=>D.u0 ks fun ks=>D.u0 vs fun vs=>c (.mp ks vs)
noncomputable def D.u0 {β:Type}:List D->(List D->β)->β
 |[],c=>c []
 |x::xs,c=>D.fc x fun x=>D.u0 xs fun xs=>c (x::xs)
end
mutual
theorem D.dg {β:Type}:∀ (x:D) (c:D->β),D.fc x c=c x
 | .int k n,c=>by simp only[D.fc,Int.dg]
 | .bool b,c=>by cases b<;>rfl
 | .agg l,c=>by simp only[D.fc,D.fW l]
 | .sl l,c=>by simp only[D.fc,D.fW l]
 | .iface t x,c=>by simp only[D.fc,D.dg x]
 | .mp ks vs,c=>by simp only[D.fc,D.fW ks,D.fW vs]
 | .str _,_| .fD,_| .mM,_| .bW,_| .jq,_=>by simp only[D.fc]
theorem D.fW {β:Type}:∀ (x:List D) (c:List D->β),D.u0 x c=c x
 |[],c=>by simp only[D.u0]
 |x::xs,c=>by simp only[D.u0,D.dg x,D.fW xs]
end
mutual
noncomputable def V.fc {β:Type}:V->(V->β)->β
 | .d x,c=>D.fc x fun x=>c (.d x)
 | .agg l,c=>V.u0 l fun l=>c (.agg l)
 | .cp l,c=>V.u0 l fun l=>c (.cp l)
 | .ptr i o,c=>Nat.fc i fun i=>Nat.fc o fun o=>c (.ptr i o)
 | .osl i o,c=>Nat.fc i fun i=>Nat.fc o fun o=>c (.osl i o)
 | .pe a b i j k,c=>Nat.fc a fun a=>Nat.fc b fun b=>Nat.fc i fun i=>Nat.fc j fun j=>Nat.fc k fun k=>c (.pe a b i j k)
 | .pp l o,c=>D.u0 l fun l=>Nat.fc o fun o=>c (.pp l o)
 | .func f a b,c=>V.u0 a fun a=>V.u0 b fun b=>c (.func f a b)
 | .iface t x,c=>V.fc x fun x=>c (.iface t x)
 | .qZ l,c=>D.u0 l fun l=>c (.qZ l)
 | .xd i j k,c=>Nat.fc i fun i=>Nat.fc j fun j=>Nat.fc k fun k=>c (.xd i j k)
 | .mp i,c=>Nat.fc i fun i=>c (.mp i)
 | .jU i,c=>Nat.fc i fun i=>c (.jU i)
 | .bO,c=>c .bO
 | .aa,c=>c .aa
 | .fh,c=>c .fh
noncomputable def V.u0 {β:Type}:List V->(List V->β)->β
 |[],c=>c []
 |x::xs,c=>V.fc x fun x=>V.u0 xs fun xs=>c (x::xs)
end
mutual
theorem V.dg {β:Type}:∀ (x:V) (c:V->β),V.fc x c=c x
 | .d x,c=>by simp only[V.fc,D.dg]
 | .agg l,c=>by simp only[V.fc,V.fW l]
 | .cp l,c=>by simp only[V.fc,V.fW l]
 | .pp l o,c=>by simp only[V.fc,D.fW,Nat.dg]
 | .func f a b,c=>by simp only[V.fc,V.fW a,V.fW b]
 | .iface t x,c=>by simp only[V.fc,V.dg x]
 | .qZ l,c=>by simp only[V.fc,D.fW]
 | .ptr _ _,_| .osl _ _,_| .pe _ _ _ _ _,_| .xd _ _ _,_| .mp _,_| .jU _,_| .bO,_| .aa,_| .fh,_=>by simp only[V.fc,Nat.dg]
theorem V.fW {β:Type}:∀ (x:List V) (c:List V->β),V.u0 x c=c x
 |[],c=>by simp only[V.u0]
 |x::xs,c=>by simp only[V.u0,V.dg x,V.fW xs]
end
section
variable {β:Type}
noncomputable def Ze(k:IntKind)(n:Int)(c:V->β):β:=Int.fc n fun n=>c (.d (.int k n))
noncomputable def Zf(b:Bool)(c:V->β):β:= @Bool.rec (fun _=>β) (c (.d (.bool false))) (c (.d (.bool true))) b
noncomputable def Uj(x:D)(c:V->β):β:=D.fc x fun x=>c (.d x)
noncomputable def vD(x:D):(V->β)->β:=match x with| .int k n=>Ze k n| .bool b=>Zf b|x=>Uj x
noncomputable def Zg(i o:Nat)(c:V->β):β:=Nat.fc i fun i=>Nat.fc o fun o=>c (.ptr i o)
noncomputable def Zh(i o:Nat)(c:V->β):β:=Nat.fc i fun i=>Nat.fc o fun o=>c (.osl i o)
noncomputable def vPe(a b i j k:Nat)(c:V->β):β:=Nat.fc a fun a=>Nat.fc b fun b=>Nat.fc i fun i=>Nat.fc j fun j=>Nat.fc k fun k=>c (.pe a b i j k)
noncomputable def V.XH (v:V):(V->β)->β:=match v with| .d x=>vD x| .ptr i o=>Zg i o| .osl i o=>Zh i o| .pe a b i j k=>vPe a b i j k|v=>V.fc v
theorem V.Uk (v:V)(c:V->β):V.XH v c=c v:=by
 cases v
 case d x=>
  cases x
  case int k n=>simp only[V.XH,vD,Ze,Int.dg]
  case bool b=>cases b<;>rfl
  all_goals exact D.dg _ _
 case ptr i o=>simp only[V.XH,Zg,Nat.dg]
 case osl i o=>simp only[V.XH,Zh,Nat.dg]
 case pe a b i j k=>simp only[V.XH,vPe,Nat.dg]
 all_goals exact V.dg _ _
end
noncomputable def XI{β:Type}:List (D×D)->(List (D×D)->β)->β
 |[],c=>c []
 |(a,b)::l,c=>D.fc a fun a=>D.fc b fun b=>XI l fun l=>c ((a,b)::l)
theorem Ku{β:Type}:∀ (x:List (D×D)) (c:List (D×D)->β),XI x c=c x
 |[],c=>rfl
 |(a,b)::l,c=>by simp only[XI,D.dg,Ku l]
noncomputable def ab.fc {β:Type}(x:ab)(c:ab->β):β:=
 match x with
 | .row cs=>V.u0 cs fun cs=>c (.row cs)
 | .arr e t s es=>Nat.fc e fun e=>Nat.fc s fun s=>D.u0 es fun es=>c (.arr e t s es)
 | .sv e es=>Nat.fc e fun e=>D.u0 es fun es=>c (.sv e es)
 | .map kt vt l=>XI l fun l=>c (.map kt vt l)
 | .iP l=>XI l fun l=>c (.iP l)
 | .mW l last=>XI l fun l=>c (.mW l last)
 | .za l pos=>Nat.fc pos fun pos=>c (.za l pos)
 |x=>c x
theorem ab.dg {β:Type}(x:ab)(c:ab->β):ab.fc x c=c x:=by cases x<;>simp only[ab.fc,V.fW,D.fW,Nat.dg,Ku]
noncomputable def Tr.x8 {α β:Type}(x:α)(d:Nat):Tr α->Nat->(Tr α->β)->β:=
 Nat.rec (motive:=fun _=>Tr α->Nat->(Tr α->β)->β) (fun t k c=>c (.e (aM t.get k x)))
  (fun _ ih t k c=>Tr.rec (motive:=fun _=>β) (fun f=>
   Bool.rec (Bool.rec (ih (.e fun i=>f (2*i+2)) (Nat.sub (Nat.div k 2) 1) fun r=>c (.n (f 0) (.e fun i=>f (2*i+1)) r)) (ih (.e fun i=>f (2*i+1)) (Nat.div k 2) fun l=>c (.n (f 0) l (.e fun i=>f (2*i+2)))) (Nat.beq (Nat.mod k 2) 1))
    (c (.n x (.e fun i=>f (2*i+1)) (.e fun i=>f (2*i+2)))) (Nat.beq k 0))
   (fun y l r _ _=>Bool.rec (Bool.rec (ih r (Nat.sub (Nat.div k 2) 1) fun r=>c (.n y l r)) (ih l (Nat.div k 2) fun l=>c (.n y l r)) (Nat.beq (Nat.mod k 2) 1)) (c (.n x l r)) (Nat.beq k 0)) t) d
theorem Tr.u1 {α β:Type}(x:α):∀ (d:Nat) (t:Tr α) (k:Nat) (c:Tr α->β),Tr.x8 x d t k c=c (Tr.uY x d t k)
 |0,t,k,c=>rfl
 |d+1, .e f,k,c=>by
  show @Bool.rec (fun _=>β) (@Bool.rec (fun _=>β) (Tr.x8 x d (.e fun i=>f (2*i+2)) (k/2 - 1) fun r=>c (.n (f 0) (.e fun i=>f (2*i+1)) r)) (Tr.x8 x d (.e fun i=>f (2*i+1)) (k/2) fun l=>c (.n (f 0) l (.e fun i=>f (2*i+2)))) (Nat.beq (k%2) 1)) (c (.n x (.e fun i=>f (2*i+1)) (.e fun i=>f (2*i+2)))) (Nat.beq k 0)=_
  simp only[Tr.uY,Tr.u1 x d]
  cases Nat.beq k 0
  ·cases Nat.beq (k%2) 1<;>rfl
  ·rfl
 |d+1, .n y l r,k,c=>by
  show @Bool.rec (fun _=>β) (@Bool.rec (fun _=>β) (Tr.x8 x d r (k/2 - 1) fun r=>c (.n y l r)) (Tr.x8 x d l (k/2) fun l=>c (.n y l r)) (Nat.beq (k%2) 1)) (c (.n x l r)) (Nat.beq k 0)=_
  simp only[Tr.uY,Tr.u1 x d]
  cases Nat.beq k 0
  ·cases Nat.beq (k%2) 1<;>rfl
  ·rfl
noncomputable def Tr.Ul {α β:Type}(t:Tr α)(k:Nat)(x:α)(c:Tr α->β):β:=Tr.x8 x 24 t k c
theorem Tr.FG {α β:Type}(t:Tr α)(k:Nat)(x:α)(c:Tr α->β):t.Ul k x c=c (t.set k x):=Tr.u1 x 24 t k c
structure St where
 env:Tr V
 o:Tr ab
 nx:Nat
noncomputable def St.S (st:St):S:=⟨st.env.get,st.o.get,st.nx⟩
noncomputable def HM(o:Tr ab)(Δ:List (Nat×ab)):Tr ab:=Δ.foldl (fun f x=>f.set x.1 x.2) o
noncomputable def sP(env:Tr V)(dst:Option Tmp)(v:V):Tr V:=match dst with|some d=>env.set d v|none=>env
noncomputable def u3{β:Type}(o:Tr ab):List (Nat×ab)->(Tr ab->β)->β
 |[],c=>c o
 |(i,x)::Δ,c=>ab.fc x fun x=>o.Ul i x fun o=>u3 o Δ c
theorem nD{β:Type}:∀ (Δ:List (Nat×ab)) (o:Tr ab) (c:Tr ab->β),u3 o Δ c=c (HM o Δ)
 |[],o,c=>rfl
 |(i,x)::Δ,o,c=>by simp only[u3,ab.dg,Tr.FG,nD Δ];rfl
noncomputable def mm{β:Type}(env:Tr V)(dst:Option Tmp)(v:V)(c:Tr V->β):β:=match dst with|some d=>V.XH v fun v=>env.Ul d v c|none=>c env
theorem jY{β:Type}(env:Tr V)(dst:Option Tmp)(v:V)(c:Tr V->β):mm env dst v c=c (sP env dst v):=by
 cases dst<;>simp only[mm,sP,V.Uk,Tr.FG]
theorem kC:∀ (Δ:List (Nat×ab)) (o:Tr ab),(HM o Δ).get=put o.get Δ
 |[],_=>rfl
 |x::Δ,o=>by
  simp only[HM,put,List.foldl_cons]
  have:=kC Δ (o.set x.1 x.2)
  simp only[HM,put]at this
  rw[this,Tr.jm]
theorem eT(env:Tr V)(dst:Option Tmp)(v:V):(sP env dst v).get=bu env.get dst v:=by
 cases dst<;>simp[sP,bu,Tr.jm]
section Um
def QD(x:Operand)(_:Program)(s:S)(_:Nat):Option gL:=one (s.ev x)
def Zi(c a b:Operand)(_:Program)(s:S)(_:Nat):Option gL:=lN (qm (s.ev c) (s.ev a) (s.ev b))
def Un(t:TypeId)(parts:Array (Nat×Operand))(P:Program)(s:S)(_:Nat):Option gL:=lN (rJ P t (parts.toList.map fun p=>(p.1,s.ev p.2)))
def Ch(t:TypeId)(len:Nat)(parts:Array (Nat×Operand))(P:Program)(s:S)(fr:Nat):Option gL:=hY P s.o fr t len (parts.toList.map fun p=>(p.1,s.ev p.2))
def Zj(t:TypeId)(x:Operand)(P:Program)(s:S)(_:Nat):Option gL:=nq P s.o t (s.ev x)
def Uo(t:TypeId)(x v:Operand)(P:Program)(s:S)(_:Nat):Option gL:=rI P s.o t (s.ev x) (s.ev v)
def ace(x:Operand)(_:Program)(s:S)(_:Nat):Option gL:=lN (jV s.o (s.ev x))
noncomputable def Zk(op:BinOp):IntKind->Int->Int->Option V:=
 match op with
 | .add=>fun k a b=>some (.d (.int k (k.wrap (Int.add a b))))
 | .sub=>fun k a b=>some (.d (.int k (k.wrap (Int.sub a b))))
 | .mul=>fun k a b=>some (.d (.int k (k.wrap (Int.mul a b))))
 |op=>BH op
theorem Oa(op:BinOp):Zk op=BH op:=by cases op<;>rfl
def asInt(x:V):Option (IntKind×Int):=match x with| .d (.int k a)=>some (k,a)|_=>none
def Kv(op:BinOp)(t:TypeId)(c:Bool)(x y:V)(P:Program)(o:Nat->ab):Option gL:=eH P o op t c x y
noncomputable def Zl(op:BinOp)(t:TypeId)(x y:Operand)(P:Program)(s:S)(_:Nat):Option gL:=
 match asInt (s.ev x)with
 |some (k,a)=>match asInt (s.ev y)with
  |some (k',b)=>if k=k' then match Zk op k a b with
   |some v=>some (v,[],[])
   |none=>Kv op t (isConst x||isConst y) (s.ev x) (s.ev y) P s.o
   else none
  |none=>Kv op t (isConst x||isConst y) (s.ev x) (s.ev y) P s.o
 |none=>Kv op t (isConst x||isConst y) (s.ev x) (s.ev y) P s.o
theorem Ci{x:V}{k:IntKind}{a:Int}(h:asInt x=some (k,a)):x= .d (.int k a):=by
 unfold asInt at h;split at h
 ·injection h with h;cases h;rfl
 ·cases h
def Eo(t:TypeId)(x:Operand)(f:Nat)(P:Program)(s:S)(_:Nat):Option gL:=lN (iV P s.o t (s.ev x) f)
def Ep(t:TypeId)(x i:Operand)(P:Program)(s:S)(_:Nat):Option gL:=iU P s.o t (s.ev x) (s.ev i)
def Up(op:Op)(P:Program)(s:S)(fr:Nat):Option gL:=gN P s fr op
noncomputable def Ob(op:Op):Program->S->Nat->Option gL:=
 match op with
 | .move x=>QD x
 | .assign x=>QD x
 | .pick c a b=>Zi c a b
 | .build t parts=>Un t parts
 | .buildSlice t len parts=>Ch t len parts
 | .load t x=>Zj t x
 | .store t x v=>Uo t x v
 | .nilCheck x=>ace x
 | .binOp op t x y _=>Zl op t x y
 | .fieldAddr t x f=>Eo t x f
 | .indexAddr t x i=>Ep t x i
 |op=>Up op
theorem FH{op:Op}{P:Program}{s:S}{fr:Nat}{r:gL}(h:Ob op P s fr=some r):gN P s fr op=some r:=by
 cases op
 case binOp op t x y yt=>
  simp only[Ob,Zl,Oa]at h
  have e:gN P s fr (.binOp op t x y yt)=eH P s.o op t (isConst x||isConst y) (s.ev x) (s.ev y):=rfl
  rw[e]
  split at h
  ·rename_i k a hx
   split at h
   ·rename_i k' b hy
    split at h
    ·rename_i hk
     split at h
     ·rename_i v hv
      unfold eH zC
      simp only[Ci hx,Ci hy,if_pos hk,hv]
      exact h
     ·exact h
    ·cases h
   ·exact h
  ·exact h
 all_goals exact h
end Um
inductive FD where
 |fn (n:Nat) (ic:IC) (rs:List ResultVar)
 |dfr (n:Nat) (iQ eJ:IC) (g t:Nat) (fI:List Operand) (rs:List ResultVar) (m r r1:Nat) (x7:IC)
 |mpc
 |no
def FD.Ok (P:Program)(f:Nat):FD->Prop
 | .fn n ic rs=>aF P f n ic rs
 | .dfr n iQ eJ g t fI rs m r r1 x7=>FE P f n iQ eJ g t fI rs/\Cd P g m r r1 x7
 | .mpc=>QC P f
 | .no=>True
inductive CR where
 |ret (v:V) (o:Tr ab) (nx:Nat)|bU (v:V) (o:Tr ab) (nx:Nat)
def CR.to (K X:V->(Nat->ab)->Nat->Prop):CR->Prop
 | .ret v o nx=>K v o.get nx
 | .bU v o nx=>X v o.get nx
inductive RO where
 |ok (st:St)|bU (v:V) (st:St)
def RO.to (K:S->Prop)(X:V->S->Prop):RO->Prop
 | .ok st=>K st.S
 | .bU v st=>X v st.S
inductive eN where
 |r (x:R)|c (x:CR)
abbrev Kt:=fS->St->Option eN
abbrev dR:=Nat->Bool->Nat->IC->St->Kt->Option eN
noncomputable def HN(P:Program)(rs:List ResultVar)(st:St)(kc:CR->Option eN):Option eN:=
 match mc P st.S rs with
 |some [v]=>kc (.ret v st.o st.nx)
 |some vs=>kc (.ret (.cp vs) st.o st.nx)
 |none=>none
noncomputable def QE(P:Program)(rs:List ResultVar)(kc:CR->Option eN):Kt:=fun e st=>
 match e with
 | .normal=>HN P rs st kc
 | .ret=>HN P rs st kc
 | .bU v=>kc (.bU v st.o st.nx)
 | .exit _=>none
noncomputable def Kw(P:Program)(rs:List ResultVar)(kc:CR->Option eN)(env:Tr V):Kt:=fun e s4=>
 match e with
 | .normal=>HN P rs ⟨env,s4.o,s4.nx⟩ kc
 | .ret=>HN P rs ⟨env,s4.o,s4.nx⟩ kc
 |_=>none
def Zm:fS->Option V
 | .normal=>some (.d .fD)
 | .ret=>some (.d .fD)
 | .bU v=>some v
 | .exit _=>none
noncomputable def Kx(P:Program)(rec:dR)(rs:List ResultVar)(aG:List V)(m r r1:Nat)(x7:IC)(kc:CR->Option eN):Kt:=fun e s3=>
 match Zm e with
 |some u=>if aG.length<=m then rec s3.nx true m x7 ⟨.e (aM (aM (cF aG) r u) r1 u),s3.o,s3.nx⟩ (Kw P rs kc s3.env)else none
 |none=>none
noncomputable def FI(P:Program)(rec:dR)(n t:Nat)(eJ:IC)(g:Nat)(fI:List Operand)(rs:List ResultVar)(m r r1:Nat)(x7:IC)(kc:CR->Option eN):Kt:=fun e s1=>
 match e with
 | .normal=>rec s1.nx false n eJ ⟨s1.env.set t (.func (.func g) [] (fI.map s1.S.ev)),s1.o,s1.nx⟩ (Kx P rec rs (fI.map s1.S.ev) m r r1 x7 kc)
 |_=>none
noncomputable def Ky(P:Program)(cm:Nat->FD)(rec:dR)(g:Nat)(args:List V)(o:Tr ab)(nx:Nat)(kc:CR->Option eN):Option eN:=
 match cm g with
 | .fn n ic rs=>if args.length<=n then rec nx false n ic ⟨.e (cF args),o,nx⟩ (QE P rs kc)else none
 | .dfr n iQ eJ g t fI rs m r r1 x7=>if args.length<=n then rec nx true n iQ ⟨.e (cF args),o,nx⟩ (FI P rec n t eJ g fI rs m r r1 x7 kc)else none
 | .mpc=>match args with
   |[.mp id]=>match o.get id with
    | .map kt vt l=>kc (.ret (.mp nx) (o.set nx (.map kt vt l)) (nx+1))
    |_=>none
   |_=>none
 | .no=>none
def u5:V->List V
 | .cp vs=>vs
 |v=>[v]
noncomputable def FJ(r:CR):Option R:=
 match r with
 | .ret v o _=>match v with
   | .cp [_]=>none
   |v=>match ct o.get (u5 v)with
    |some rs=>some (.ret rs)
    |none=>none
 | .bU v o _=>match eg o.get v with
   |some x=>some (.bU x)
   |none=>none
noncomputable def Zn{β:Type}(x:R)(c:R->β):β:=match x with| .ret l=>D.u0 l fun l=>c (.ret l)| .bU d=>D.fc d fun d=>c (.bU d)
theorem Er{β:Type}(x:R)(c:R->β):Zn x c=c x:=by cases x<;>simp only[Zn,D.fW,D.dg]
noncomputable def Cj(r:CR):Option eN:=match FJ r with|some x=>Zn x fun x=>some (.r x)|none=>none
theorem Kz{r:CR}{a:eN}(h:Cj r=some a):∃x,FJ r=some x/\a= .r x:=by
 unfold Cj at h
 split at h
 ·rename_i x hx;rw[Er]at h;injection h with h;exact⟨x,hx,h.symm⟩
 ·cases h
def KA(out:R)(o:Tr ab)(nx:Nat):CR:=
 match out with
 | .ret rs=> .ret (jO rs) o nx
 | .bU x=> .bU (.d x) o nx
structure qx (P:Program) where
 Zo:Nat->Bool
 fx:Nat->List D->Option R
 ok:∀g ds out,fx g ds=some out->a8 P g ds out
def KC(l:List (Nat×List D×R))(g:Nat)(ds:List D):Option R:=
 match l with
 |[]=>none
 |x::l=>match Nat.beq x.1 g with
  |true=>match D.gW x.2.1 ds with
   |true=>some x.2.2
   |false=>KC l g ds
  |false=>KC l g ds
theorem zX{P:Program}:∀ {l:List (Nat×List D×R)},(∀x∈l,a8 P x.1 x.2.1 x.2.2)->∀g ds out,KC l g ds=some out->a8 P g ds out
 |[],_,_,_,_,h=>by cases h
 |x::l,hl,g,ds,out,h=>by
  simp only[KC]at h
  split at h
  ·rename_i hg
   split at h
   ·rename_i hd
    injection h with h
    have:=hl x aj
    rw[Nat.eq_of_beq_eq_true hg,D.dJ _ _ hd,h]at this
    exact this
   ·exact zX (fun y hy=>hl y tc) g ds out h
  ·exact zX (fun y hy=>hl y tc) g ds out h
def qx.of {P:Program}(Zo:Nat->Bool)(l:List (Nat×List D×R))(h:∀x∈l,a8 P x.1 x.2.1 x.2.2):qx P:=⟨Zo,KC l,zX h⟩
noncomputable def Oc(P:Program)(cm:Nat->FD)(md:qx P)(rec:dR)(g:Nat)(ds:List D):Option R:=
 match md.fx g ds with
 |some out=>some out
 |none=>match Ky P cm rec g (ds.map .d) (.e fun _=> .no) 0 Cj with
  |some (.r x)=>some x
  |_=>none
noncomputable def QF(out:R)(o:Tr ab)(nx:Nat)(args:List V)(kc:CR->Option eN):Option eN:=
 match out.flat with
 |true=>kc (KA out o (nx+1))
 |false=>match out.ni with
  |true=>kc (KA out (HM o (rp o.get (V.bF args))) (nx+1))
  |false=>kc (KA out (HM o (dn o.get (V.bF args))) (nx+1))
noncomputable def FK(P:Program)(cm:Nat->FD)(md:qx P)(rec:dR)(g:Nat)(args:List V)(o:Tr ab)(nx:Nat)(kc:CR->Option eN):Option eN:=
 match md.Zo g,ct o.get args with
 |true,some ds=>match Oc P cm md rec g ds with
  |some out=>QF out o nx args kc
  |none=>none
 |_,_=>Ky P cm rec g args o nx kc
noncomputable def KF(id:Nat)(kc:CR->Option eN):Kt:=fun e s2=>
 match e with
 | .bU v=>kc (.bU v s2.o s2.nx)
 |e=>match s2.o.get id with
  | .loop nf m en p c d _ _=>match e with
    | .normal=>kc (.ret (.d (.bool true)) (s2.o.set id (.loop nf m en p c d .ready none)) s2.nx)
    | .ret=>kc (.ret (.d (.bool false)) (s2.o.set id (.loop nf m en p c d .done (some .ret))) s2.nx)
    | .exit j=>kc (.ret (.d (.bool false)) (s2.o.set id (.loop nf m en p c d .done (some (.exit j)))) s2.nx)
    | .bU _=>none
  |_=>none
noncomputable def FL(rec:dR)(id nx n:Nat)(eJ:IC)(kc:CR->Option eN):Kt:=fun e s1=>
 match e with
 | .normal=>match s1.o.get id with
   | .loop nf m en p c d .ready pd=>rec nx true n eJ ⟨s1.env,s1.o.set id (.loop nf m en p c d .busy pd),s1.nx⟩ (KF id kc)
   |_=>none
 | .bU v=>kc (.bU v s1.o s1.nx)
 |_=>none
noncomputable def Uq(P:Program)(rec:dR)(id:Nat)(args:List V)(o:Tr ab)(nx:Nat)(kc:CR->Option eN):Option eN:=
 match o.get id with
 | .loop nf n env ps iQ eJ _ _=>if nf=P.funcs.size/\id<nx/\ps.all (fun t=>decide (t<n))=true/\args.length=ps.length then
  rec nx true n iQ ⟨.e (nw (bB env) ps args),o,nx⟩ (FL rec id nx n eJ kc)
   else none
 |_=>none
noncomputable def x9(P:Program)(st:St)(o:cz)(kr:RO->Option eN):Option eN:=
 match Ob o.op P st.S st.nx with
 |some (v,Δ,_)=>mm st.env o.dst v fun e=>u3 st.o Δ fun ob=>Nat.fc (st.nx+1) fun n=>kr (.ok ⟨e,ob,n⟩)
 |none=>none
noncomputable def Zp(st:St)(dst:Option Nat)(kr:RO->Option eN)(c:CR):Option eN:=
 match c with
 | .ret v o nx=>mm st.env dst v fun e=>Nat.fc nx fun nx=>kr (.ok ⟨e,o,nx⟩)
 | .bU v o nx=>kr (.bU v ⟨st.env,o,nx⟩)
noncomputable def KG(c:Call)(P:Program)(cm:Nat->FD)(md:qx P)(rec:dR)(st:St)(o:cz)(kr:RO->Option eN):Option eN:=
 match c.callee with
 | .value f=>match st.S.ev f with
   | .func (.func g) first cap=>FK P cm md rec g (first++c.args.toList.map st.S.ev++cap) st.o st.nx (Zp st o.dst kr)
   | .jU id=>Uq P rec id (c.args.toList.map st.S.ev) st.o st.nx (Zp st o.dst kr)
   |_=>none
 | .invoke r m=>match uD P m (st.S.ev r)with
   |some (g,y)=>FK P cm md rec g (y::c.args.toList.map st.S.ev) st.o st.nx (Zp st o.dst kr)
   |none=>none
 |_=>x9 P st o kr
noncomputable def Ur(x:Operand)(P:Program)(_:Nat->FD)(_:qx P)(_:dR)(st:St)(_:cz)(kr:RO->Option eN):Option eN:=
 match st.S.ev x with
 | .d (.iface t y)=>kr (.bU (.d (.iface t y)) st)
 | .iface t y=>kr (.bU (.iface t y) st)
 |_=>none
noncomputable def Zq(P:Program)(_:Nat->FD)(_:qx P)(_:dR)(st:St)(o:cz)(kr:RO->Option eN):Option eN:=x9 P st o kr
def R.same:R->R->Bool
 | .ret a, .ret b=>D.gW a b
 | .bU a, .bU b=>a.same b
 |_,_=>false
theorem R.eB {x y:R}(h:x.same y=true):x=y:=by
 cases x<;>cases y<;>simp only[R.same,Bool.false_eq_true]at h
 ·rw[D.dJ _ _ h]
 ·rw[D.eB _ _ h]
noncomputable def brX(f:Nat->Option eN):Nat->Option eN
 |0=>none
 |n+1=>match n with
  |0=>f 0
  |n=>match brX f n with
   |some (.r a)=>match f n with
    |some (.r b)=>match R.same a b with
     |true=>some (.r a)
     |false=>none
    |_=>none
   |_=>none
theorem KH{f:Nat->Option eN}{a:eN}:∀ {n:Nat},brX f n=some a->∀i,i<n->f i=some a
 |0,h,_,_=>by cases h
 |1,h,i,hi=>by obtain rfl:i=0:=ad
               exact h
 |n+2,h,i,hi=>by
  simp only[brX]at h
  split at h
  ·rename_i x hx
   split at h
   ·rename_i y hy
    split at h
    ·rename_i he
     have e:=R.eB he
     subst e
     rw[<- h]
     by_cases e:i=n+1
     ·subst e;exact hy
     ·exact KH hx i ad
    ·cases h
   ·cases h
  ·cases h
noncomputable def Od(st:St)(dst:Option Nat)(kr:RO->Option eN)(v:V)(Δ:List (Nat×ab)):Option eN:=
 mm st.env dst v fun e=>u3 st.o Δ fun ob=>Nat.fc (st.nx+1) fun n=>kr (.ok ⟨e,ob,n⟩)
noncomputable def KI(x:Operand)(str:Bool)(P:Program)(_:Nat->FD)(_:qx P)(_:dR)(st:St)(o:cz)(kr:RO->Option eN):Option eN:=
 match oH st.o.get (st.S.ev x)with
 |some (id,l)=>match str with
  |true=>none
  |false=>match l with
   |[]=>Od st o.dst kr (.cp [.d (.bool false)]) []
   |_=>brX (fun i=>match l[i]? with
    |some (k,x)=>Od st o.dst kr (.cp [.d (.bool true), .d k, .d x]) [(id, .mW (l.eraseIdx i) (some (k,x)))]
    |none=>none) l.length
 |none=>x9 P st o kr
noncomputable def opK(op:Op):(P:Program)->(Nat->FD)->qx P->dR->St->cz->(RO->Option eN)->Option eN:=
 match op with
 | .call c=>KG c
 | .panic x=>Ur x
 | .next x str=>KI x str
 |_=>Zq
noncomputable def opX(P:Program)(cm:Nat->FD)(md:qx P)(rec:dR)(st:St)(o:cz)(kr:RO->Option eN):Option eN:=opK o.op P cm md rec st o kr
noncomputable def roK(next:St->Option eN)(kr:RO->Option eN):RO->Option eN:=fun r=>match r with| .ok st=>next st| .bU v st=>kr (.bU v st)
noncomputable def zY(P:Program)(cm:Nat->FD)(md:qx P)(rec:dR)(kr:RO->Option eN):List cz->St->Option eN
 |[],st=>kr (.ok st)
 |o::l,st=>match(match o.gd with
   |none=>some true
   |some (d,want)=>match st.env.get d with
    | .d (.bool b)=>some (b==want)
    | .cp []=>some false
    |_=>none)with
  |some true=>opX P cm md rec st o (roK (zY P cm md rec kr l) kr)
  |some false=>mm st.env o.dst (.cp []) fun e=>Nat.fc (st.nx+1) fun n=>zY P cm md rec kr l ⟨e,st.o,n⟩
  |none=>none
section
variable {P:Program}{cm:Nat->FD}{md:qx P}
noncomputable def eW(P:Program)(rec:dR):Prop:=∀b rd n ic st k a,rec b rd n ic st k=some a->∀Q:fS->S->Prop,(∀e st',k e st'=some a->Q e st'.S)->tP P n b rd ic Q st.S
theorem tS{rs:List ResultVar}{st:St}{kc:CR->Option eN}{a:eN}(h:HN P rs st kc=some a){K X:V->(Nat->ab)->Nat->Prop}(hr:∀r,kc r=some a->r.to K X):mi P rs K X .ret st.S:=by
 unfold HN at h
 unfold mi
 split at h
 ·rename_i v hv;simp only[hv];exact hr _ h
 ·rename_i vs hv hn
  simp only[hn]
  exact hr _ h
 ·cases h
theorem nE(bD:P.follows .mixedOrders=true)(cV:∀g,(cm g).Ok P g){rec:dR}(bV:eW P rec){g:Nat}{args:List V}{o:Tr ab}{nx:Nat}{kc:CR->Option eN}{a:eN}(h:Ky P cm rec g args o nx kc=some a){K X:V->(Nat->ab)->Nat->Prop}(hr:∀r,kc r=some a->r.to K X):
 cO P g args o.get nx K X:=by
 have bp:=cV g
 unfold Ky at h
 split at h
 ·rename_i n ic rs ht
  rw[ht]at bp
  split at h
  ·rename_i hl
   refine cO.uS bD bp hl ?_
   refine bV _ _ _ _ _ _ _ h _ fun e st he=> ?_
   unfold QE at he
   cases e with
   |normal=>exact tS he hr
   |ret=>exact tS he hr
   |bU v=>exact hr _ he
   |exit j=>cases he
  ·cases h
 ·rename_i n iQ eJ g' t fI rs m r0 r1 x7 ht
  rw[ht]at bp
  split at h
  ·rename_i hl
   refine cO.Cg bD bp.1 bp.2 hl (bV _ _ _ _ _ _ _ h _ fun e s1 he=> ?_)
   unfold FI at he
   cases e with
   |normal=>
    have hb:tP P n s1.nx false eJ (zV P m r0 r1 x7 (fI.map s1.S.ev) rs K X) ⟨aM s1.env.get t (.func (.func g') [] (fI.map s1.S.ev)),s1.o.get,s1.nx⟩:=by
     have:=bV _ _ _ _ _ _ _ he (zV P m r0 r1 x7 (fI.map s1.S.ev) rs K X) (fun e s3 XJ=>by
      unfold Kx at XJ
      split at XJ
      ·rename_i u hu
       split at XJ
       ·rename_i pL
        have hrw:Em P m r0 r1 x7 (fI.map s1.S.ev) u s3.o.get s3.nx fun o nx=>mi P rs K X .ret ⟨s3.env.get,o,nx⟩:=by
         refine⟨pL,bV _ _ _ _ _ _ _ XJ _ fun e4 s4 he4=> ?_⟩
         unfold Kw at he4
         cases e4 with
         |normal=>exact tS (st:=⟨s3.env,s4.o,s4.nx⟩) he4 hr
         |ret=>exact tS (st:=⟨s3.env,s4.o,s4.nx⟩) he4 hr
         |_=>cases he4
        cases e<;>simp only[Zm,Option.some.injEq,reduceCtorEq]at hu<;>subst hu<;>exact hrw
       ·cases XJ
      ·cases XJ)
     simp only[St.S,Tr.jm]at this
     exact this
    exact hb
   |_=>cases he
  ·cases h
 ·rename_i ht
  rw[ht]at bp
  split at h
  ·split at h
   ·rename_i kt vt l ho
    have h2:=hr _ h
    simp only[CR.to,Tr.jm]at h2
    exact cO.Ui bp ho h2
   ·cases h
  ·cases h
 ·cases h
theorem KJ{r:CR}{out:R}(ho:FJ r=some out):r.to (fun v o _=>∃vs rs,v=(match vs with|[v]=>v|vs=> .cp vs)/\ct o vs=some rs/\out= .ret rs) (fun v o _=>∃x,eg o v=some x/\out= .bU x):=by
 unfold FJ at ho
 split at ho
 ·rename_i v o nx
  split at ho
  ·cases ho
  ·rename_i hv
   split at ho
   ·rename_i rs Yg
    injection ho with ho;subst ho
    refine⟨u5 v,rs, ?_,Yg,rfl⟩
    cases v with
    |cp vs=>
     match vs,hv with
     |[],_=>rfl
     |[x],hv=>exact absurd rfl (hv x)
     |_::_::_,_=>rfl
    |_=>rfl
   ·cases ho
 ·split at ho
  ·rename_i x hx
   injection ho with ho;subst ho
   exact⟨x,hx,rfl⟩
  ·cases ho
theorem Ck(bD:P.follows .mixedOrders=true)(cV:∀g,(cm g).Ok P g){rec:dR}(bV:eW P rec){g:Nat}{ds:List D}{out:R}(h:Ky P cm rec g (ds.map .d) (.e fun _=> .no) 0 Cj=some (.r out)):a8 P g ds out:=by
 refine a8.mj (nE bD cV bV h fun r hr=> ?_)
 obtain⟨x,hx,he⟩:=Kz hr
 injection he with he;subst he
 exact KJ hx
theorem zZ(bD:P.follows .mixedOrders=true)(cV:∀g,(cm g).Ok P g){rec:dR}(bV:eW P rec){g:Nat}{ds:List D}{out:R}(h:Oc P cm md rec g ds=some out):a8 P g ds out:=by
 unfold Oc at h
 split at h
 ·rename_i adE ho
  injection h with h;subst h
  exact md.ok _ _ _ ho
 ·split at h
  ·rename_i x hr;injection h with h;subst h;exact Ck bD cV bV hr
  ·cases h
theorem Cl(bD:P.follows .mixedOrders=true)(cV:∀g,(cm g).Ok P g){rec:dR}(bV:eW P rec){g:Nat}{args:List V}{o:Tr ab}{nx:Nat}{kc:CR->Option eN}{a:eN}(h:FK P cm md rec g args o nx kc=some a){K X:V->(Nat->ab)->Nat->Prop}(hr:∀r,kc r=some a->r.to K X):
 P6 P g args o.get nx K X:=by
 unfold FK at h
 split at h
 ·rename_i ds hmd fe
  split at h
  ·rename_i out KK
   have hP:=zZ bD cV bV KK
   refine .inl ⟨ds,fe,out,hP, ?_⟩
   unfold QF at h
   split at h
   ·rename_i hf
    refine .inr (.inl ⟨hf, ?_⟩)
    cases out<;>exact hr _ h
   ·split at h
    ·rename_i hf
     refine .inr (.inr ⟨hf, ?_⟩)
     rw[<- kC]
     cases out<;>exact hr _ h
    ·refine .inl ?_
     rw[<- kC]
     cases out<;>exact hr _ h
  ·cases h
 ·exact .inr (nE bD cV bV h hr)
theorem Oe(bD:P.follows .mixedOrders=true){rec:dR}(bV:eW P rec){id:Nat}{args:List V}{o:Tr ab}{nx:Nat}{kc:CR->Option eN}{a:eN}(h:Uq P rec id args o nx kc=some a){K X:V->(Nat->ab)->Nat->Prop}(hr:∀r,kc r=some a->r.to K X):
 ec P id args o.get nx K X:=by
 unfold Uq at h
 split at h
 ·rename_i nf n env ps iQ eJ st pd ho
  split at h
  ·rename_i hc
   obtain⟨rfl,cJ,El,hl⟩:=hc
   refine ec.uS bD ho cJ El hl ?_
   refine bV _ _ _ _ _ _ _ h _ fun e s1 he=> ?_
   unfold FL at he
   cases e with
   |normal=>
    simp only at he
    split at he
    ·rename_i nf m en p c d pd pM
     refine⟨nf,m,en,p,c,d,pd,pM, ?_⟩
     have:=bV _ _ _ _ _ _ _ he (jI id K X) (fun e s2 h2=>by
      unfold KF at h2
      split at h2
      ·exact hr _ h2
      ·rename_i PU
       split at h2
       ·rename_i nf' m' en' p' c' d' st' pd' Us
        cases e with
        |bU v=>cases h2
        |normal=>have h3:=hr _ h2;simp only[CR.to,Tr.jm]at h3;exact⟨nf',m',en',p',c',d',st',pd',Us,h3⟩
        |ret=>have h3:=hr _ h2;simp only[CR.to,Tr.jm]at h3;exact⟨nf',m',en',p',c',d',st',pd',Us,h3⟩
        |exit j=>have h3:=hr _ h2;simp only[CR.to,Tr.jm]at h3;exact⟨nf',m',en',p',c',d',st',pd',Us,h3⟩
       ·cases h2)
     simp only[St.S,Tr.jm]at this
     exact this
    ·cases he
   |bU v=>exact hr _ he
   |_=>cases he
  ·cases h
 ·cases h
theorem u6{st:St}{o:cz}{kr:RO->Option eN}{a:eN}(h:x9 P st o kr=some a){K:S->Prop}{X:V->S->Prop}(hr:∀r,kr r=some a->r.to K X):match gN P st.S st.S.nx o.op with
 |some (v,Δ,_)=>K ⟨bu st.S.env o.dst v,put st.S.o Δ,st.S.nx+1⟩
 |none=>False:=by
 unfold x9 at h
 split at h
 ·rename_i v Δ rd he
  have he:=FH he
  simp only[jY,nD,Nat.dg]at h
  have hr:=hr _ h
  simp only[RO.to,St.S,eT,kC]at hr
  have oD:gN P st.S st.S.nx o.op=some (v,Δ,rd):=he
  simp only[oD]
  exact hr
 ·cases h
theorem FM{st:St}{dst:Option Nat}{kr:RO->Option eN}{v:V}{Δ:List (Nat×ab)}{a:eN}(h:Od st dst kr v Δ=some a){K:S->Prop}{X:V->S->Prop}(hr:∀r,kr r=some a->r.to K X):K ⟨bu st.S.env dst v,put st.S.o Δ,st.S.nx+1⟩:=by
 unfold Od at h
 simp only[jY,nD,Nat.dg]at h
 have hr:=hr _ h
 simp only[RO.to,St.S,eT,kC]at hr
 exact hr
theorem Ut(bD:P.follows .mixedOrders=true)(cV:∀g,(cm g).Ok P g){rec:dR}(bV:eW P rec){st:St}{o:cz}{kr:RO->Option eN}{a:eN}(h:opX P cm md rec st o kr=some a){K:S->Prop}{X:V->S->Prop}(hr:∀r,kr r=some a->r.to K X):I4 P st.S o X K:=by
 have cr:∀r,Zp st o.dst kr r=some a->r.to (fun v o' nx'=>K ⟨bu st.S.env o.dst v,o',nx'⟩) (fun v o' nx'=>X v ⟨st.S.env,o',nx'⟩):=by
  intro r hx
  unfold Zp at hx
  split at hx
  ·simp only[jY,Nat.dg]at hx
   have hr:=hr _ hx
   simp only[RO.to,St.S,eT]at hr
   exact hr
  ·exact hr _ hx
 unfold opX at h
 unfold I4
 cases fA:o.op
 case call c=>
  rw[fA]at h
  have h:KG c P cm md rec st o kr=some a:=h
  unfold KG at h
  cases hf:c.callee
  case value f=>
   simp only[hf]at h|-
   split at h
   ·rename_i g first cap hv
    simp only[hv]
    have:=Cl bD cV bV h cr
    rcases this with⟨ds,fe,hP⟩|hC
    ·have Uu:ct st.S.o (first++List.map st.S.ev c.args.toList++cap)=some ds:=fe
     simp only[Uu]
     exact .inl hP
    ·split
     ·exact .inr (.inl hC)
     ·exact .inl hC
   ·rename_i id hv
    simp only[hv]
    exact Oe bD bV h cr
   ·cases h
  case invoke r m=>
   simp only[hf]at h|-
   split at h
   ·rename_i g y hv
    simp only[hv]
    exact Cl bD cV bV h cr
   ·cases h
  all_goals
   simp only[hf]at h|-
   have:=u6 h hr
   rw[fA]at this
   exact this
 case panic x=>
  rw[fA]at h
  have h:Ur x P cm md rec st o kr=some a:=h
  unfold Ur at h
  split at h
  ·rename_i hv;simp only[hv];exact hr _ h
  ·rename_i hv;simp only[hv];exact hr _ h
  ·cases h
 case next x str=>
  rw[fA]at h
  have h:KI x str P cm md rec st o kr=some a:=h
  unfold KI at h
  have hl:oH st.S.o (st.S.ev x)=oH st.o.get (st.S.ev x):=rfl
  simp only[hl]
  split at h
  ·rename_i id l aC
   simp only[aC]
   cases str with
   |true=>cases h
   |false=>
    refine⟨rfl,fun e=> ?_,fun i k y e=> ?_⟩
    ·subst e
     exact FM h hr
    ·cases l with
     |nil=>simp at e
     |cons p l=>
      have:=KH h i (List.getElem?_eq_some_iff.1 e).1
      rw[e]at this
      exact FM this hr
  ·rename_i aC
   simp only[aC]
   have:=u6 h hr
   rw[fA]at this
   exact this
 all_goals
  have h2:x9 P st o kr=some a:=by rw[fA]at h;exact h
  have:=u6 h2 hr
  rw[fA]at this
  exact this
theorem tT(bD:P.follows .mixedOrders=true)(cV:∀g,(cm g).Ok P g){rec:dR}(bV:eW P rec){kr:RO->Option eN}{a:eN}{K:S->Prop}{X:V->S->Prop}(hr:∀r,kr r=some a->r.to K X):∀ (l:List cz) (st:St),zY P cm md rec kr l st=some a->pk P X K l st.S
 |[],st,h=>hr (.ok st) h
 |o::l,st,h=>by
  simp only[zY,jY,Nat.dg]at h
  simp only[pk]
  have op:opX P cm md rec st o (roK (zY P cm md rec kr l) kr)=some a->I4 P st.S o X (pk P X K l):=by
   intro h
   refine Ut bD cV bV h fun r hrr=> ?_
   cases r with
   |ok Uv=>exact tT bD cV bV hr l Uv hrr
   |bU v Uv=>exact hr (.bU v Uv) hrr
  have sk:zY P cm md rec kr l ⟨sP st.env o.dst (.cp []),st.o,st.nx+1⟩=some a->pk P X K l ⟨bu st.S.env o.dst (.cp []),st.S.o,st.S.nx+1⟩:=by
   intro h
   have:=tT bD cV bV hr l _ h
   simp only[St.S,eT]at this
   exact this
  cases hg:o.gd with
  |none=>simp only[hg]at h;exact op h
  |some p=>
   obtain⟨d,want⟩:=p
   simp only[hg]at h
   have he:st.S.env d=st.env.get d:=rfl
   simp only[he]
   cases hv:st.env.get d with
   |d x=>
    cases x with
    |bool b=>
     simp only[hv]at h|-
     by_cases e:b=want
     ·subst e
      simp only[beq_self_eq_true]at h
      rw[if_pos rfl];exact op h
     ·have:(b==want)=false:=by simpa using e
      rw[this]at h
      rw[if_neg e];exact sk h
    |_=>simp[hv]at h
   |cp vs=>
    cases vs with
    |nil=>simp only[hv]at h|-;exact sk h
    |cons a cu=>simp[hv]at h
   |_=>simp[hv]at h
end
end Go.Proofs.YtonbelhklnmjnaaGreat
namespace Go.Proofs.YtonbelhklnmjnaaGreat
mutual
def V.same:V->V->Bool
 | .d x, .d y=>x.same y
 | .bO, .bO=>true
 | .aa, .aa=>true
 | .agg a, .agg b=>V.gW a b
 | .ptr i o, .ptr j p=>Nat.beq i j&&Nat.beq o p
 | .osl i o, .osl j p=>Nat.beq i j&&Nat.beq o p
 | .qZ a, .qZ b=>D.gW a b
 | .iface t x, .iface u y=>Nat.beq t u&&x.same y
 | .mp i, .mp j=>Nat.beq i j
 |_,_=>false
def V.gW:List V->List V->Bool
 |[],[]=>true
 |a::cu,b::bs=>a.same b&&V.gW cu bs
 |_,_=>false
end
mutual
theorem V.eB:∀ (x y:V),x.same y=true->x=y
 | .d x,y,h=>by cases y<;>simp only[V.same,Bool.false_eq_true]at h;rw[D.eB _ _ h]
 | .bO,y,h=>by cases y<;>simp_all[V.same]
 | .aa,y,h=>by cases y<;>simp_all[V.same]
 | .agg a,y,h=>by cases y<;>simp only[V.same,Bool.false_eq_true]at h;rw[V.dJ _ _ h]
 | .ptr i o,y,h=>by
   cases y<;>simp only[V.same,Bool.false_eq_true,Bool.and_eq_true]at h
   rw[Nat.eq_of_beq_eq_true h.1,Nat.eq_of_beq_eq_true h.2]
 | .osl i o,y,h=>by
   cases y<;>simp only[V.same,Bool.false_eq_true,Bool.and_eq_true]at h
   rw[Nat.eq_of_beq_eq_true h.1,Nat.eq_of_beq_eq_true h.2]
 | .qZ a,y,h=>by cases y<;>simp only[V.same,Bool.false_eq_true]at h;rw[D.dJ _ _ h]
 | .iface t x,y,h=>by
   cases y<;>simp only[V.same,Bool.false_eq_true,Bool.and_eq_true]at h
   rw[Nat.eq_of_beq_eq_true h.1,V.eB _ _ h.2]
 | .mp i,y,h=>by
   cases y<;>simp only[V.same,Bool.false_eq_true]at h
   rw[Nat.eq_of_beq_eq_true h]
 | .cp _,y,h| .pe _ _ _ _ _,y,h| .pp _ _,y,h| .func _ _ _,y,h| .xd _ _ _,y,h| .fh,y,h| .jU _,y,h=>by simp[V.same]at h
theorem V.dJ:∀ (x y:List V),V.gW x y=true->x=y
 |[],y,h=>by cases y<;>simp_all[V.gW]
 |a::cu,y,h=>by
  cases y<;>simp only[V.gW,Bool.false_eq_true,Bool.and_eq_true]at h
  rw[V.eB _ _ h.1,V.dJ _ _ h.2]
end
def u7:List (D×D)->List (D×D)->Bool
 |[],[]=>true
 |(a,b)::l,(c,d)::m=>a.same c&&(b.same d&&u7 l m)
 |_,_=>false
theorem u9:∀ (l m:List (D×D)),u7 l m=true->l=m
 |[],m,h=>by cases m<;>simp_all[u7]
 |(a,b)::l,m,h=>by
  cases m with
  |nil=>simp[u7]at h
  |cons p m=>
   obtain⟨c,d⟩:=p
   simp only[u7,Bool.and_eq_true]at h
   rw[D.eB _ _ h.1,D.eB _ _ h.2.1,u9 l m h.2.2]
noncomputable def ab.same:ab->ab->Bool
 | .no, .no=>true
 | .row a, .row b=>V.gW a b
 | .arr e t s a, .arr f u r b=>Nat.beq e f&&Nat.beq t u&&Nat.beq s r&&D.gW a b
 | .sv e a, .sv f b=>Nat.beq e f&&D.gW a b
 | .map k v a, .map k' v' b=>Nat.beq k k'&&Nat.beq v v'&&u7 a b
 | .iP a, .iP b=>u7 a b
 | .za a i, .za b j=>a==b&&Nat.beq i j
 |_,_=>false
theorem ab.eB {x y:ab}(h:x.same y=true):x=y:=by
 cases x<;>cases y<;>simp only[ab.same,Bool.false_eq_true,Bool.and_eq_true]at h
 ·rfl
 ·rw[V.dJ _ _ h]
 ·rw[Nat.eq_of_beq_eq_true h.1.1.1,Nat.eq_of_beq_eq_true h.1.1.2,Nat.eq_of_beq_eq_true h.1.2,D.dJ _ _ h.2]
 ·rw[Nat.eq_of_beq_eq_true h.1,D.dJ _ _ h.2]
 ·rw[Nat.eq_of_beq_eq_true h.1.1,Nat.eq_of_beq_eq_true h.1.2,u9 _ _ h.2]
 ·rw[u9 _ _ h]
 ·rw[eq_of_beq h.1,Nat.eq_of_beq_eq_true h.2]
noncomputable def reach(o:Nat->ab):Nat->List Nat->List Nat->List Nat
 |0,_,seen=>seen
 |_+1,[],seen=>seen
 |n+1,id::todo,seen=>match seen.contains id with
  |true=>reach o n todo seen
  |false=>reach o n ((o id).refs++todo) (id::seen)
noncomputable def eZ(o o1:Nat->ab):List Nat->List (Nat×ab)
 |[]=>[]
 |id::l=>match(o id).same (o1 id)with
  |true=>eZ o o1 l
  |false=>(id,o1 id)::eZ o o1 l
theorem jx{o o1:Nat->ab}:∀ (l:List Nat) (x:Nat×ab),x∈eZ o o1 l->x.1∈l/\x.2=o1 x.1
 |[],x,h=>by simp[eZ]at h
 |id::l,x,h=>by
  simp only[eZ]at h
  split at h
  ·obtain⟨h1,h2⟩:=jx l x h;exact⟨List.mem_cons_of_mem _ h1,h2⟩
  ·rcases List.mem_cons.1 h with rfl|h
   ·exact⟨aj,rfl⟩
   ·obtain⟨h1,h2⟩:=jx l x h;exact⟨List.mem_cons_of_mem _ h1,h2⟩
theorem nF{o o1:Nat->ab}:∀ (l:List Nat) (id:Nat),id∈l->id∉(eZ o o1 l).map (·.1)->o1 id=o id
 |[],id,h,_=>by simp at h
 |j::l,id,h,hn=>by
  simp only[eZ]at hn
  split at hn
  ·rename_i hs
   rcases List.mem_cons.1 h with rfl|h
   ·exact(ab.eB hs).symm
   ·exact nF l id h hn
  ·simp only[List.map_cons,List.mem_cons,not_or]at hn
   rcases List.mem_cons.1 h with rfl|h
   ·exact absurd rfl hn.1
   ·exact nF l id h hn.2
theorem Cm{o1:Nat->ab}:∀ (Δ:List (Nat×ab)) (o:Nat->ab),(∀x∈Δ,x.2=o1 x.1)->∀id,id∈Δ.map (·.1)\/o id=o1 id->put o Δ id=o1 id
 |[],o,_,id,h=>by rcases h with h|h;· simp at h
                  ·exact h
 |x::Δ,o,hv,id,h=>by
  simp only[put,List.foldl_cons]
  refine Cm Δ (aM o x.1 x.2) (fun y hy=>hv y (List.mem_cons_of_mem _ hy)) id ?_
  simp only[List.map_cons,List.mem_cons]at h
  simp only[aS]
  by_cases e:id=x.1
  ·right;rw[if_pos e,hv x (by simp),e]
  ·rcases h with(h|h)|h
   ·exact absurd h e
   ·exact .inl h
   ·right;rw[if_neg e];exact h
theorem sQ{o o1:Nat->ab}{l:List Nat}{id:Nat}(h:id∈l):o1 id=put o (eZ o o1 l) id:=by
 by_cases hm:id∈(eZ o o1 l).map (·.1)
 ·exact(Cm _ o (fun x hx=>(jx l x hx).2) id (.inl hm)).symm
 ·rw[ij hm];exact nF l id h hm
inductive DR where
 |val (v:V) (Δ:List (Nat×ab)) (rd:List Nat)|bU (v:V) (ws rd:List Nat)
def DR.to (K:V->List (Nat×ab)->List Nat->Prop)(KX:V->List Nat->List Nat->Prop):DR->Prop
 | .val v Δ rd=>K v Δ rd
 | .bU v ws rd=>KX v ws rd
noncomputable def Zr(c:CR):Option eN:=some (.c c)
noncomputable def hX(P:Program)(cm:Nat->FD)(rec:dR)(g:Nat)(args:List V)(st:St):Option DR:=
 let rd:=reach st.o.get 2000 (V.aO args) []
 match rd.all (fun id=>Nat.blt id st.nx&&(st.o.get id).refs.all rd.contains)&&(V.aO args).all rd.contains with
 |true=>match Ky P cm rec g args (.e (D7 rd st.o.get)) st.nx Zr with
  |some (.c (.ret v o1 _))=>match v with
   | .cp [_]=>none
   |v=>match ct o1.get (u5 v)with
    |some rs=>match(eZ st.o.get o1.get rd).all (fun x=>x.2.refs.all rd.contains)&&(V.bF (u5 v)).all (fun id=> !rd.contains id)with
     |true=>some (.val (jO rs) (eZ st.o.get o1.get rd) rd)
     |false=>none
    |none=>none
  |some (.c (.bU v o1 _))=>match eg o1.get v with
   |some x=>match(eZ st.o.get o1.get rd).all (fun x=>x.2.refs.all rd.contains)&&v.ids.all (fun id=> !rd.contains id)with
    |true=>some (.bU (.d x) ((eZ st.o.get o1.get rd).map (·.1)) rd)
    |false=>none
   |none=>none
  |_=>none
 |false=>none
noncomputable def cDX(P:Program)(cm:Nat->FD)(md:qx P)(rec:dR)(g:Nat)(args:List V)(st:St)(rd:List Nat):Option DR:=
 match ct st.o.get args with
 |some ds=>match md.Zo g with
  |false=>match Ky P cm rec g (ds.map .d) (.e fun _=> .no) 0 Zr with
   |some (.c (.ret v _ _))=>match v.refs with
    |[]=>some (.val v (dn st.o.get (V.bF args)) rd)
    |_=>none
   |_=>none
  |true=>match Oc P cm md rec g ds with
   |some (.ret rs)=>match D.ko rs with
    |true=>some (.val (jO rs) [] rd)
    |false=>some (.val (jO rs) (dn st.o.get (V.bF args)) rd)
   |some (.bU x)=>match x.flat with
    |true=>some (.bU (.d x) [] rd)
    |false=>none
   |none=>none
 |none=>hX P cm rec g args st
noncomputable def sDX(P:Program)(st:St)(fr:Nat)(op:Op):Option DR:=
 match Ob op P st.S fr with
 |some (v,Δ,_)=>some (.val v Δ (pI st.S op))
 |none=>none
def V.acf:V->Bool
 | .mp _=>true
 |_=>false
def Uw{P:Program}(md:qx P)(g:Nat)(args:List V):Bool:= !md.Zo g&&args.any V.acf
def ya(args:List V):Option (List D):=
 match V.bF args with
 |[]=>ct (fun _=> .no) args
 |_=>none
noncomputable def Of(P:Program)(t:TypeId)(c:CR):Option eN:=
 match c with
 | .ret v o1 _=>match v with
   | .osl j ep=>match o1.get j with
     | .arr jr ty sz es=>match Nat.beq jr ep with
       |true=>Zn (.ret [.sl es, .int .i64 (ty:Nat), .int .i64 (sz:Nat)]) fun x=>some (.r x)
       |false=>none
     |_=>none
   | .bO=>match cK P t with
     |some e=>match Nat.blt 0 (P.cellsOf e)with
      |true=>Zn (.ret [.sl [], .int .i64 (e:Nat), .int .i64 (P.cellsOf e:Nat)]) fun x=>some (.r x)
      |false=>none
     |none=>none
   |_=>none
 |_=>none
noncomputable def Ux(P:Program)(cm:Nat->FD)(rec:dR)(g:Nat)(t:TypeId)(args:List V)(st:St)(fr:Nat):Option DR:=
 match ya args with
 |some ds=>match Ky P cm rec g (ds.map .d) (.e fun _=> .no) 0 (Of P t)with
  |some (.r (.ret [.sl es, .int .i64 (.ofNat ty), .int .i64 (.ofNat sz)]))=>some (.val (.osl fr 0) [(fr, .arr 0 ty sz es)] [])
  |_=>none
 |none=>match ct st.o.get args with
  |some ds=>match Ky P cm rec g (ds.map .d) (.e fun _=> .no) 0 (Of P t)with
   |some (.r (.ret [.sl es, .int .i64 (.ofNat ty), .int .i64 (.ofNat sz)]))=>match D.ko es&&(V.bF args).all (fun id=>Nat.blt id st.nx)with
    |true=>some (.val (.osl fr 0) [(fr, .arr 0 ty sz es)] (V.bF args))
    |false=>none
   |_=>none
  |none=>none
noncomputable def Og(P:Program)(cm:Nat->FD)(md:qx P)(rec:dR)(st:St)(fr:Nat)(op:Op):Option DR:=
 match op with
 | .call c=>match c.callee with
   | .value f=>match st.S.ev f with
     | .func (.func g) first cap=>match Uw md g (first++c.args.toList.map st.S.ev++cap)with
       |true=>hX P cm rec g (first++c.args.toList.map st.S.ev++cap) st
       |false=>match cDX P cm md rec g (first++c.args.toList.map st.S.ev++cap) st (pI st.S (.call c))with
        |some r=>some r
        |none=>Ux P cm rec g (c.argTypes.getD 0 0) (first++c.args.toList.map st.S.ev++cap) st fr
     |_=>none
   |_=>sDX P st fr (.call c)
 |op=>sDX P st fr op
noncomputable def Zs(st:St):Option (Nat×Bool)->Option Bool
 |none=>some true
 |some (d,want)=>match st.env.get d with
  | .d (.bool b)=>some (b==want)
  | .cp []=>some false
  |_=>none
noncomputable def va(P:Program)(cm:Nat->FD)(md:qx P)(rec:dR)(pr:List (List Nat)):List cz->Nat->St->Fp->List Nat->List Nat->Option (List Nat×Fp)
 |[],_,_,fp,_,ws=>some (ws,fp)
 |o::l,fr,st,fp,bad,ws=>match(pr.getD fp.length []).any (fun j=>bad.contains j)with
  |true=>va P cm md rec pr l (fr+1) ⟨sP st.env o.dst .aa,st.o,st.nx⟩ (fp++[([],[])]) (bad++[fp.length]) ws
  |false=>match Zs st o.gd with
   |some true=>match Og P cm md rec st fr o.op with
    |some (.val v Δ rd)=>mm st.env o.dst v fun e=>u3 st.o Δ fun ob=>va P cm md rec pr l (fr+1) ⟨e,ob,st.nx⟩ (fp++[(rd,Δ.map (·.1))]) bad (ws++Δ.map (·.1))
    |_=>none
   |some false=>va P cm md rec pr l (fr+1) ⟨sP st.env o.dst (.cp []),st.o,st.nx⟩ (fp++[([],[])]) bad ws
   |none=>none
inductive DQ where
 |fin (st:St) (fp:Fp)|bU (v:V) (wl:List Nat) (fp:Fp)
noncomputable def vc(P:Program)(cm:Nat->FD)(md:qx P)(rec:dR)(pr:List (List Nat)):List cz->Nat->St->Fp->Option DQ
 |[],_,st,fp=>some (.fin st fp)
 |o::l,fr,st,fp=>match Zs st o.gd with
  |some true=>match Og P cm md rec st fr o.op with
   |some (.val v Δ rd)=>mm st.env o.dst v fun e=>u3 st.o Δ fun ob=>Nat.fc (fr+1) fun fr=>vc P cm md rec pr l fr ⟨e,ob,st.nx⟩ (fp++[(rd,Δ.map (·.1))])
   |some (.bU v ws rd)=>match va P cm md rec pr l (fr+1) ⟨sP st.env o.dst .aa,st.o,st.nx⟩ (fp++[(rd,[])]) [fp.length] (ws++fp.flatMap (·.2))with
    |some (wl,fp)=>some (.bU v wl fp)
    |none=>none
   |none=>none
  |some false=>mm st.env o.dst (.cp []) fun e=>Nat.fc (fr+1) fun fr=>vc P cm md rec pr l fr ⟨e,st.o,st.nx⟩ (fp++[([],[])])
  |none=>none
noncomputable def quiet(fp:Fp):Bool:=fp.all fun x=>match x.2 with|[]=>true|_=>false
noncomputable def z6(m:Nat)(x:List Nat×List Nat):Nat->Fp->Bool
 |_,[]=>true
 |i,y::l=>(match y.2,x.2 with
  |[],[]=>true
  |_,_=>m.testBit i||(mV y.2 x.1&&mV y.2 x.2&&mV x.2 y.1))&&z6 m x (i+1) l
noncomputable def FN(ms:List Nat)(pre:Fp):Nat->Fp->Bool
 |_,[]=>true
 |j,x::l=>z6 (ms.getD j 0) x 0 pre&&FN ms (pre++[x]) (j+1) l
noncomputable def Zt{β:Type}:List Nat->(List Nat->β)->β
 |[],c=>c []
 |x::xs,c=>Nat.fc x fun x=>Zt xs fun xs=>c (x::xs)
theorem KL{β:Type}:∀ (x:List Nat) (c:List Nat->β),Zt x c=c x
 |[],c=>rfl
 |x::xs,c=>by simp only[Zt,Nat.dg,KL xs]
noncomputable def Oh{β:Type}:Fp->(Fp->β)->β
 |[],c=>c []
 |(a,b)::l,c=>Zt a fun a=>Zt b fun b=>Oh l fun l=>c ((a,b)::l)
theorem FO{β:Type}:∀ (x:Fp) (c:Fp->β),Oh x c=c x
 |[],c=>rfl
 |(a,b)::l,c=>by simp only[Oh,KL,FO l]
noncomputable def KM(pr:List (List Nat))(fp:Fp):Bool:=match quiet fp with|true=>true|false=>Oh fp fun fp=>FN (eI pr []) [] 0 fp
theorem yc{m:Nat}{x:List Nat×List Nat}:∀ (l:Fp) (i:Nat),z6 m x i l=true->∀k,k<l.length->(m.testBit (i+k)||(mV (l.getD k ([],[])).2 x.1&&mV (l.getD k ([],[])).2 x.2&&mV x.2 (l.getD k ([],[])).1))=true
 |[],i,_,k,hk=>by simp at hk
 |y::l,i,h,k,hk=>by
  simp only[z6,Bool.and_eq_true]at h
  cases k with
  |zero=>
   have h1:=h.1
   simp only[List.getD_cons_zero,Nat.add_zero]
   split at h1
   ·rename_i e1 e2
    rw[e1,e2];simp[mV]
   ·exact h1
  |succ k=>
   have:=yc l (i+1) h.2 k (by simpa using hk)
   rw[List.getD_cons_succ,show i+(k+1)=i+1+k by omega]
   exact this
theorem Cn{ms:List Nat}:∀ (l pre:Fp),FN ms pre pre.length l=true->∀j,pre.length<=j->j<(pre++l).length->∀i,i<j->
 ((ms.getD j 0).testBit i||(mV ((pre++l).getD i ([],[])).2 ((pre++l).getD j ([],[])).1&&mV ((pre++l).getD i ([],[])).2 ((pre++l).getD j ([],[])).2&&mV ((pre++l).getD j ([],[])).2 ((pre++l).getD i ([],[])).1))=true
 |[],pre,_,j,h1,h2,i,_=>by simp at h2;omega
 |x::l,pre,h,j,h1,h2,i,hi=>by
  simp only[FN,Bool.and_eq_true]at h
  by_cases e:j=pre.length
  ·subst e
   have:=yc pre 0 h.1 i hi
   have e1:(pre++x::l).getD pre.length ([],[])=x:=by simp[List.getD_eq_getElem?_getD]
   have e2:(pre++x::l).getD i ([],[])=pre.getD i ([],[]):=by simp[List.getD_eq_getElem?_getD,List.getElem?_append_left hi]
   rw[e1,e2]
   simpa using this
  ·have h3:=h.2
   have:=Cn l (pre++[x]) (by simpa using h3) j AZ Dy i hi
   simpa using this
noncomputable def Uy(P:Program)(cm:Nat->FD)(md:qx P)(rec:dR)(l:List cz)(pr:List (List Nat))(st:St):Option (fS×St):=
 match vc P cm md rec pr l st.nx st []with
 |some (.fin s1 fp)=>match KM pr fp with
  |true=>Nat.fc (st.nx+l.length) fun n=>some (.normal,⟨s1.env,s1.o,n⟩)
  |false=>none
 |some (.bU v wl fp)=>match KM pr fp with
  |true=>some (.bU v,⟨.e (pO (dstsOf l) wl l.length st.S).env, .e (pO (dstsOf l) wl l.length st.S).o,st.nx+l.length⟩)
  |false=>none
 |none=>none
noncomputable def Zu(id:Nat)(env:Tr V)(kt:Kt)(c:CR):Option eN:=
 match c with
 | .ret _ o1 AP=>match o1.get id with
   | .loop nf m e p c d lst pd=>match lst with
     | .busy=>none
     |_=>match pd with
      |none=>kt .normal ⟨env,o1.set id (.loop nf m e p c d .exhausted pd),AP⟩
      |some .ret=>kt .ret ⟨env,o1.set id (.loop nf m e p c d .exhausted pd),AP⟩
      |some (.exit j)=>kt (.exit j) ⟨env,o1.set id (.loop nf m e p c d .exhausted pd),AP⟩
   |_=>none
 | .bU v o1 AP=>kt (.bU v) ⟨env,o1,AP⟩
noncomputable def Oi(P:Program)(cm:Nat->FD)(rec:dR)(n:Nat)(g:Operand)(ps:List Nat)(x y:IC)(st:St)(kt:Kt):Option eN:=
 match st.S.ev g with
 | .func (.func f) first cap=>Ky P cm rec f (first++[.jU st.nx]++cap) (st.o.set st.nx (.loop P.funcs.size n ((List.range n).map st.env.get) ps x y .ready none)) (st.nx+1) (Zu st.nx st.env kt)
 |_=>none
abbrev oM:=(P:Program)->(Nat->FD)->qx P->dR->Nat->Bool->Nat->St->Kt->Option eN
noncomputable def roX(kt:Kt):RO->Option eN:=fun r=>match r with| .ok st=>kt .normal st| .bU v st=>kt (.bU v) st
noncomputable def acg(l:List cz):oM:=fun P cm md rec _ _ _ st kt=>zY P cm md rec (roX kt) l st
def yd:List Nat->Nat->Nat->Nat
 |[],_,c=>c
 |x::l,k,c=>match Nat.beq x (2^k - 1)with
  |true=>yd l (k+1) c
  |false=>yd l (k+1) (k+1)
def qy(pr:List (List Nat)):Nat:=yd (eI pr []) 0 0
noncomputable def Uz(l:List cz)(pr:List (List Nat)):oM:=fun P cm md rec _ _ _ st kt=>
 Nat.fc (qy pr) fun m=>match vc P cm md rec pr (l.take m) st.nx st []with
 |some (.fin s1 fp)=>match KM pr fp with
  |true=>Nat.fc (st.nx+m) fun n=>match Nat.ble m l.length with
   |true=>zY P cm md rec (roX kt) (l.drop m) ⟨s1.env,s1.o,n⟩
   |false=>none
  |false=>none
 |some (.bU _ _ _)=>match Uy P cm md rec l pr st with
  |some (e,s1)=>kt e s1
  |none=>none
 |none=>none
noncomputable def Es(rec:dR)(b:Nat)(rd:Bool)(n:Nat)(y:IC)(kt:Kt):Kt:=fun e s1=>match e with| .normal=>rec b rd n y s1 kt|e=>kt e s1
noncomputable def ach(x y:IC):oM:=fun _ _ _ rec b rd n st kt=>rec b rd n x st (Es rec b rd n y kt)
noncomputable def FP(a c:Option eN):Option eN:=
 match a with
 |some (.r x)=>match c with
  |some (.r y)=>match R.same x y with
   |true=>some (.r x)
   |false=>none
  |_=>none
 |_=>none
noncomputable def Zv(c:Operand)(x y:IC):oM:=fun _ _ _ rec b rd n st kt=>match st.S.ev c with
 | .d (.bool true)=>rec b rd n x st kt
 | .d (.bool false)=>rec b rd n y st kt
 | .fh=>FP (rec b rd n x st kt) (rec b rd n y st kt)
 |_=>none
noncomputable def Et(id:Nat)(kt:Kt):Kt:=fun e s1=>match e with
 | .exit j=>match Nat.beq j id with
   |true=>kt .normal s1
   |false=>kt (.exit j) s1
 |e=>kt e s1
noncomputable def UA(id:Nat)(x:IC):oM:=fun _ _ _ rec b rd n st kt=>rec b rd n x st (Et id kt)
noncomputable def Zw(x:IC):oM:=fun _ _ _ rec b rd n st kt=>match Nat.ble b st.nx with
 |true=>rec b rd n x st (Es rec b rd n (.loop x) kt)
 |false=>none
noncomputable def UB(e:fS):oM:=fun _ _ _ _ _ _ _ st kt=>kt e st
noncomputable def aci:oM:=fun _ _ _ _ _ _ _ _ _=>none
noncomputable def acj(g:Operand)(ps:List Nat)(x y:IC):oM:=fun P cm _ rec _ rd n st kt=>match rd with
 |true=>none
 |false=>Oi P cm rec n g ps x y st kt
noncomputable def QG(ic:IC):oM:=
 match ic with
 | .skip=>UB .normal
 | .ag l=>acg l
 | .eX l pr=>Uz l pr
 | .seq x y=>ach x y
 | .cond c x y=>Zv c x y
 | .block id x=>UA id x
 | .loop x=>Zw x
 | .exit id=>UB (.exit id)
 | .ret=>UB .ret
 | .GX g ps x y=>acj g ps x y
 | .bad=>aci
noncomputable def run(P:Program)(cm:Nat->FD)(md:qx P)(k:Nat):dR:=
 Nat.rec (motive:=fun _=>dR) (fun _ _ _ _ _ _=>none) (fun _ rec b rd n ic st kt=>QG ic P cm md rec b rd n st kt) k
theorem KN{P:Program}{cm:Nat->FD}{md:qx P}{k:Nat}:run P cm md (k+1)=fun b rd n ic st kt=>QG ic P cm md (run P cm md k) b rd n st kt:=rfl
section
variable {P:Program}{cm:Nat->FD}{md:qx P}
theorem QH(bD:P.follows .mixedOrders=true)(cV:∀g,(cm g).Ok P g){rec:dR}(bV:eW P rec){fr:Nat}{g:Nat}{args:List V}{st:St}{r:DR}(h:hX P cm rec g args st=some r){K:V->List (Nat×ab)->List Nat->Prop}{KX:V->List Nat->List Nat->Prop}(hr:r.to K KX):
 jG P g args st.S.o st.S.nx fr K KX:=by
 unfold hX at h
 simp only at h
 generalize mS:reach st.o.get 2000 (V.aO args) []=rd at h
 split at h
 ·rename_i hc
  simp only[Bool.and_eq_true,List.all_eq_true]at hc
  obtain⟨hc1,tl⟩:=hc
  have a1:∀id∈rd,id<st.nx:=fun id aC=>Nat.le_of_ble_eq_true (hc1 id aC).1
  have a2:∀id∈V.aO args,id∈rd:=fun id aC=>by simpa using tl id aC
  have a3:∀id∈rd,∀j∈(st.o.get id).refs,j∈rd:=fun id aC j hj=>by simpa using(hc1 id aC).2 j hj
  have a0:rd.all (fun id=>decide (id<st.S.nx))=true:=List.all_eq_true.2 fun id aC=>decide_eq_true (a1 id aC)
  have key:∀ {r:CR} {a:CR},Zr r=some (.c a)->r=a:=fun h=>by unfold Zr at h;injection h with h;injection h
  split at h
  ·rename_i v o1 AP hf
   split at h
   ·cases h
   ·rename_i v' tg
    split at h
    ·rename_i rs Yg
     split at h
     ·rename_i UC
      injection h with h;subst h
      simp only[Bool.and_eq_true,List.all_eq_true]at UC
      refine⟨rd,_,a0, .inl ⟨rs,Fs.mj a1 a2 a3 (fun x hx=>(jx rd x hx).1) (fun x hx j hj=>by simpa using UC.1 x hx j hj) (nE bD cV bV hf fun r zh=> ?_),hr⟩⟩
      rw[key zh]
      refine⟨fun id aC=>sQ aC,u5 v,rs, ?_,Yg,rfl,fun id aC=>by simpa using UC.2 id aC⟩
      cases v with
      |cp vs=>
       match vs,tg with
       |[],_=>rfl
       |[x],hv=>exact absurd rfl (hv x)
       |_::_::_,_=>rfl
      |_=>rfl
     ·cases h
    ·cases h
  ·rename_i v o1 AP hf
   split at h
   ·rename_i x hx
    split at h
    ·rename_i UC
     injection h with h;subst h
     simp only[Bool.and_eq_true,List.all_eq_true]at UC
     refine⟨rd,eZ st.o.get o1.get rd,a0, .inr (.inl ⟨x,Fs.mj a1 a2 a3 (fun x hx=>(jx rd x hx).1) (fun x hx j hj=>by simpa using UC.1 x hx j hj) (nE bD cV bV hf fun r zh=> ?_),hr⟩)⟩
     rw[key zh]
     exact⟨fun id aC=>sQ aC,x,hx,rfl,fun id aC=>by simpa using UC.2 id aC⟩
    ·cases h
   ·cases h
  ·cases h
 ·cases h
theorem UD(bD:P.follows .mixedOrders=true)(cV:∀g,(cm g).Ok P g){rec:dR}(bV:eW P rec){g:Nat}{args:List V}{st:St}{rd:List Nat}{ds:List D}(fe:ct st.o.get args=some ds){r:DR}(h:cDX P cm md rec g args st rd=some r)
 {K:V->List (Nat×ab)->List Nat->Prop} {KX:V->List Nat->List Nat->Prop} (hr:r.to K KX):
 sM P g ds (fun v=>K v (dn st.S.o (V.bF args)) rd) (fun v=>K v [] rd) (fun v=>KX v [] rd):=by
 unfold cDX at h
 simp only[fe]at h
 split at h
 ·split at h
  ·rename_i v o1 AP KO
   split at h
   ·rename_i hrf
    injection h with h;subst h
    exact .inr (.inr ⟨v,Qa.mj hrf (nE bD cV bV KO fun r zh=>by unfold Zr at zh;injection zh with zh;injection zh with zh;rw[zh];exact rfl),hr⟩)
   ·cases h
  ·cases h
 ·split at h
  ·rename_i rs KK
   have hP:=zZ bD cV bV KK
   split at h
   ·rename_i hf
    injection h with h;subst h
    exact .inl ⟨rs,hP, .inr ⟨hf,hr⟩⟩
   ·injection h with h;subst h
    exact .inl ⟨rs,hP, .inl hr⟩
  ·rename_i x KK
   have hP:=zZ bD cV bV KK
   split at h
   ·rename_i hf
    injection h with h;subst h
    exact .inr (.inl ⟨x,hP,hf,hr⟩)
   ·cases h
  ·cases h
theorem FQ{t ty:TypeId}{sz:Nat}{es:List D}{r:CR}(h:Of P t r=some (.r (.ret [.sl es, .int .i64 (.ofNat ty), .int .i64 (.ofNat sz)]))):
 r.to (fun v o1 _=>(∃j ep,v= .osl j ep/\o1 j= .arr ep ty sz es)\/(v= .bO/\es=[]/\0<sz)) (fun _ _ _=>False):=by
 unfold Of at h
 split at h
 ·rename_i v o1 n1
  split at h
  ·rename_i j ep
   split at h
   ·rename_i jr ty' ra es' ho
    split at h
    ·rename_i he
     have he:=Nat.eq_of_beq_eq_true he
     subst he
     rw[Er]at h
     simp only[Option.some.injEq,eN.r.injEq,R.ret.injEq,List.cons.injEq,D.sl.injEq,D.int.injEq,true_and,and_true]at h
     obtain⟨rfl,h2,h3⟩:=h
     have h2:ty'=ty:=Int.ofNat.inj h2
     have h3:ra=sz:=Int.ofNat.inj h3
     subst h2;subst h3
     exact .inl ⟨j,jr,rfl,ho⟩
    ·cases h
   ·cases h
  ·split at h
   ·rename_i e he
    split at h
    ·rename_i hp
     rw[Er]at h
     simp only[Option.some.injEq,eN.r.injEq,R.ret.injEq,List.cons.injEq,D.sl.injEq,D.int.injEq,true_and,and_true]at h
     obtain⟨rfl,h2,h3⟩:=h
     have h3:P.cellsOf e=sz:=Int.ofNat.inj h3
     subst h3
     exact .inr ⟨rfl,rfl,Nat.blt_eq.mp hp⟩
    ·cases h
   ·cases h
  ·cases h
 ·cases h
theorem Oj(bD:P.follows .mixedOrders=true)(cV:∀g,(cm g).Ok P g){rec:dR}(bV:eW P rec){fr:Nat}{g:Nat}{t:TypeId}{args:List V}{st:St}{r:DR}(h:Ux P cm rec g t args st fr=some r){K:V->List (Nat×ab)->List Nat->Prop}{KX:V->List Nat->List Nat->Prop}(hr:r.to K KX):
 jG P g args st.S.o st.S.nx fr K KX:=by
 unfold Ux at h
 split at h
 ·rename_i ds fe
  split at h
  ·rename_i es ty sz KO
   injection h with h;subst h
   unfold ya at fe
   split at fe
   ·rename_i aC
    exact⟨[],_,aj, .inr (.inr ⟨_,xN.N9 aC fe (xN.En (nE bD cV bV KO fun r zh=>FQ zh)),hr⟩)⟩
   ·cases fe
  ·cases h
 ·split at h
  ·rename_i ds fe
   split at h
   ·rename_i es ty sz KO
    split at h
    ·rename_i hc
     injection h with h;subst h
     simp only[Bool.and_eq_true]at hc
     refine⟨V.bF args,_, ?_, .inr (.inr ⟨_,xN.N8 fe hc.1 (nE bD cV bV KO fun r zh=>FQ zh),hr⟩)⟩
     exact List.all_eq_true.2 fun id aC=>decide_eq_true (Nat.blt_eq.mp (List.all_eq_true.1 hc.2 id aC))
    ·cases h
   ·cases h
  ·cases h
theorem z7(bD:P.follows .mixedOrders=true)(cV:∀g,(cm g).Ok P g){rec:dR}(bV:eW P rec){st:St}{fr:Nat}{o:cz}{r:DR}(h:Og P cm md rec st fr o.op=some r){K:V->List (Nat×ab)->List Nat->Prop}{KX:V->List Nat->List Nat->Prop}(hr:r.to K KX):
 AQ P st.S fr o K KX:=by
 have hs:sDX P st fr o.op=some r->(match gN P st.S fr o.op with|some (v,Δ,_)=>K v Δ (pI st.S o.op)|none=>False):=by
  intro h
  unfold sDX at h
  split at h
  ·rename_i v Δ rd he
   injection h with h;subst h
   simp only[FH he]
   exact hr
  ·cases h
 unfold Og at h
 unfold AQ
 split at h
 ·rename_i c hc
  simp only[hc]
  split at h
  ·rename_i f hf
   simp only[hf]
   split at h
   ·rename_i g first cap hv
    simp only[hv]
    split at h
    ·have hh:=QH bD cV bV h hr (fr:=fr)
     split
     ·exact .inr hh
     ·exact hh
    split at h
    ·rename_i r' Tj
     injection h with h;subst h
     cases fe:ct st.S.o (first++List.map st.S.ev c.args.toList++cap)with
     |some ds=>exact .inl (UD bD cV bV fe Tj hr)
     |none=>
      have Uu:ct st.o.get (first++List.map st.S.ev c.args.toList++cap)=none:=fe
      unfold cDX at Tj
      simp only[Uu]at Tj
      exact QH bD cV bV Tj hr
    ·have hh:=Oj bD cV bV (st:=st) h hr
     split
     ·exact .inr hh
     ·exact hh
   ·cases h
  ·rename_i eV
   rw[<- hc]at h
   have:=hs h
   rw[hc]at this
   split
   ·rename_i f hf;exact absurd hf (eV f)
   ·exact this
 ·rename_i hc
  have:=hs h
  split
  ·rename_i c hh;exact absurd hh (hc c)
  ·exact this
def gdW(s:S)(gd:Option (Nat×Bool))(A B:Prop):Prop:=
 match gd with
 |none=>A
 |some (d,want)=>match s.env d with
  | .d (.bool b)=>if b=want then A else B
  | .cp []=>B
  |_=>False
theorem z8{st:St}{gd:Option (Nat×Bool)}{t:Bool}(h:Zs st gd=some t){A B:Prop}(hA:t=true->A)(hB:t=false->B):gdW st.S gd A B:=by
 cases gd with
 |none=>simp only[Zs,Option.some.injEq]at h;exact hA h.symm
 |some p=>
  obtain⟨d,want⟩:=p
  have he:st.S.env d=st.env.get d:=rfl
  simp only[Zs]at h
  simp only[gdW,he]
  split at h
  ·rename_i b hb
   injection h with h
   by_cases e:b=want
   ·rw[if_pos e];exact hA (by rw[<- h,e];simp)
   ·rw[if_neg e];exact hB (by rw[<- h];simpa using e)
  ·rename_i hb
   injection h with h
   exact hB h.symm
  ·cases h
theorem Ol{P:Program}{KB:List Nat->Fp->Prop}{pr:List (List Nat)}{o:cz}{l:List cz}{fr:Nat}{s:S}{fp:Fp}{bad ws:List Nat}(hb:(pr.getD fp.length []).any (fun j=>bad.contains j)=false)
 (h:gdW s o.gd (AQ P s fr o (fun v Δ rd=>iY P KB pr l (fr+1) ⟨bu s.env o.dst v,put s.o Δ,s.nx⟩ (fp++[(rd,Δ.map (·.1))]) bad (ws++Δ.map (·.1))) (fun _ _ _=>False)) (iY P KB pr l (fr+1) ⟨bu s.env o.dst (.cp []),s.o,s.nx⟩ (fp++[([],[])]) bad ws)):
 iY P KB pr (o::l) fr s fp bad ws:=by
 simp only[iY]
 rw[if_neg (by rw[hb];simp)]
 cases hg:o.gd with
 |none=>rw[hg]at h;exact h
 |some p=>obtain⟨d,want⟩:=p;rw[hg]at h;exact h
theorem Om{P:Program}{K:S->Fp->Prop}{KP:V->List Nat->Fp->Prop}{pr:List (List Nat)}{o:cz}{l:List cz}{fr:Nat}{s:S}{fp:Fp}
 (h:gdW s o.gd (AQ P s fr o (fun v Δ rd=>lq P K KP pr l (fr+1) ⟨bu s.env o.dst v,put s.o Δ,s.nx⟩ (fp++[(rd,Δ.map (·.1))]))
  (fun v ws rd=>iY P (KP v) pr l (fr+1) ⟨bu s.env o.dst .aa,s.o,s.nx⟩ (fp++[(rd,[])]) [fp.length] (ws++fp.flatMap (·.2)))) (lq P K KP pr l (fr+1) ⟨bu s.env o.dst (.cp []),s.o,s.nx⟩ (fp++[([],[])]))):
 lq P K KP pr (o::l) fr s fp:=by
 simp only[lq]
 cases hg:o.gd with
 |none=>rw[hg]at h;exact h
 |some p=>obtain⟨d,want⟩:=p;rw[hg]at h;exact h
theorem qz(bD:P.follows .mixedOrders=true)(cV:∀g,(cm g).Ok P g){rec:dR}(bV:eW P rec){pr:List (List Nat)}{wl:List Nat}{fp':Fp}{KB:List Nat->Fp->Prop}(hK:KB wl fp'):
 ∀ (l:List cz) (fr:Nat) (st:St) (fp:Fp) (bad ws:List Nat),va P cm md rec pr l fr st fp bad ws=some (wl,fp')->iY P KB pr l fr st.S fp bad ws
 |[],fr,st,fp,bad,ws,h=>by
  simp only[va,Option.some.injEq,Prod.mk.injEq]at h
  obtain⟨rfl,rfl⟩:=h;exact hK
 |o::l,fr,st,fp,bad,ws,h=>by
  simp only[va,jY,nD]at h
  split at h
  ·rename_i hb
   simp only[iY]
   rw[if_pos hb]
   have:=qz bD cV bV hK l _ _ _ _ _ h
   simp only[St.S,eT]at this
   exact this
  ·rename_i hb
   refine Ol hb ?_
   split at h
   ·rename_i hg
    refine z8 hg (fun _=> ?_) (fun h=>by cases h)
    split at h
    ·rename_i v Δ rd fA
     refine z7 bD cV bV fA ?_
     have:=qz bD cV bV hK l _ _ _ _ _ h
     simp only[St.S,eT,kC]at this
     exact this
    ·cases h
   ·rename_i hg
    refine z8 hg (fun h=>by cases h) (fun _=> ?_)
    have:=qz bD cV bV hK l _ _ _ _ _ h
    simp only[St.S,eT]at this
    exact this
   ·cases h
def DQ.to (K:S->Fp->Prop)(KP:V->List Nat->Fp->Prop):DQ->Prop
 | .fin st fp=>K st.S fp
 | .bU v wl fp=>KP v wl fp
theorem nG(bD:P.follows .mixedOrders=true)(cV:∀g,(cm g).Ok P g){rec:dR}(bV:eW P rec){pr:List (List Nat)}{q:DQ}{K:S->Fp->Prop}{KP:V->List Nat->Fp->Prop}(hq:q.to K KP):
 ∀ (l:List cz) (fr:Nat) (st:St) (fp:Fp),vc P cm md rec pr l fr st fp=some q->lq P K KP pr l fr st.S fp
 |[],fr,st,fp,h=>by
  simp only[vc,Option.some.injEq]at h
  subst h;exact hq
 |o::l,fr,st,fp,h=>by
  simp only[vc,jY,nD,Nat.dg]at h
  refine Om ?_
  split at h
  ·rename_i hg
   refine z8 hg (fun _=> ?_) (fun h=>by cases h)
   split at h
   ·rename_i v Δ rd fA
    refine z7 bD cV bV fA ?_
    have:=nG bD cV bV hq l _ _ _ h
    simp only[St.S,eT,kC]at this
    exact this
   ·rename_i v ws rd fA
    split at h
    ·rename_i wl fp' hb
     injection h with h;subst h
     refine z7 bD cV bV fA ?_
     have:=qz bD cV bV (KB:=KP v) hq l _ _ _ _ _ hb
     simp only[St.S,eT]at this
     exact this
    ·cases h
   ·cases h
  ·rename_i hg
   refine z8 hg (fun h=>by cases h) (fun _=> ?_)
   have:=nG bD cV bV hq l _ _ _ h
   simp only[St.S,eT]at this
   exact this
  ·cases h
theorem Aa{pr:List (List Nat)}{fp:Fp}(h:KM pr fp=true):iO pr fp=true:=by
 unfold KM at h
 split at h
 ·rename_i hq
  unfold quiet at hq
  have hz:∀i,(fp.getD i ([],[])).2=[]:=by
   intro i
   rw[List.getD_eq_getElem?_getD]
   cases hx:fp[i]? with
   |none=>rfl
   |some x=>
    have:=List.all_eq_true.1 hq x (List.mem_of_getElem? hx)
    simp only[Option.getD_some]
    split at this
    ·rename_i e;exact e
    ·cases this
  unfold iO
  simp only[hz,mV,List.all_nil,Bool.and_self,Bool.or_true]
  simp
 ·rw[FO]at h
  unfold iO
  rw[List.all_eq_true]
  intro j hj
  rw[List.all_eq_true]
  intro i hi
  exact Cn fp [] h j (Nat.zero_le _) la i GS
theorem ve:∀ (l:List Nat) (k c:Nat),c<=k->c<=yd l k c/\∀i x,l[i]? =some x->yd l k c<=k+i->x=2^(k+i) - 1
 |[],_,c,_=>⟨Nat.le_refl _,fun i x h=>by simp at h⟩
 |y::l,k,c,hc=>by
  simp only[yd]
  split
  ·rename_i he
   obtain⟨h1,h2⟩:=ve l (k+1) c ad
   refine⟨h1,fun i x hi hle=> ?_⟩
   cases i with
   |zero=>simp at hi;subst hi;simpa using Nat.eq_of_beq_eq_true he
   |succ i=>
    have:=h2 i x GS ad
    rw[this,show k+(i+1)=k+1+i by omega]
  ·obtain⟨h1,h2⟩:=ve l (k+1) (k+1) (Nat.le_refl _)
   refine⟨ad,fun i x hi hle=> ?_⟩
   cases i with
   |zero=>omega
   |succ i=>
    have:=h2 i x GS ad
    rw[this,show k+(i+1)=k+1+i by omega]
theorem ye:∀ (pr:List (List Nat)) (acc:List Nat),(eI pr acc).length=acc.length+pr.length
 |[],acc=>by simp[eI]
 |ps::l,acc=>by simp only[eI,ye l,List.length_append,List.length_cons,List.length_nil];omega
theorem KQ(pr:List (List Nat)):Kd pr (qy pr)=true:=by
 refine List.all_eq_true.2 fun k hk=> ?_
 have hk:k<pr.length:=by simpa using hk
 by_cases h:k<qy pr
 ·simp[Nat.blt_eq.mpr h]
 ·have hl:k<(eI pr []).length:=by rw[ye];simpa using hk
  have:=(ve (eI pr []) 0 0 (Nat.le_refl _)).2 k _ (List.getElem?_eq_getElem hl) (by rw[Nat.zero_add];exact Nat.le_of_not_lt h)
  rw[Nat.zero_add]at this
  rw[List.getD_eq_getElem?_getD,List.getElem?_eq_getElem hl,Option.getD_some,this]
  simp
theorem On(bD:P.follows .mixedOrders=true)(cV:∀g,(cm g).Ok P g){rec:dR}(bV:eW P rec){l:List cz}{pr:List (List Nat)}{st st':St}{e:fS}(h:Uy P cm md rec l pr st=some (e,st')){Q:fS->S->Prop}(hQ:Q e st'.S):
 lq P (Eg pr (st.S.nx+l.length) Q) (BV pr l st.S Q) pr l st.S.nx st.S []:=by
 unfold Uy at h
 split at h
 ·rename_i s1 fp hd
  split at h
  ·rename_i hf
   simp only[Nat.dg,Option.some.injEq,Prod.mk.injEq]at h
   obtain⟨rfl,rfl⟩:=h
   exact nG bD cV bV (q:= .fin s1 fp) (K:=Eg pr (st.S.nx+l.length) Q) (KP:=BV pr l st.S Q) (show Eg pr (st.S.nx+l.length) Q s1.S fp from⟨Aa hf,hQ⟩) l _ _ _ hd
  ·cases h
 ·rename_i v wl fp hd
  split at h
  ·rename_i hf
   simp only[Option.some.injEq,Prod.mk.injEq]at h
   obtain⟨rfl,rfl⟩:=h
   exact nG bD cV bV (q:= .bU v wl fp) (K:=Eg pr (st.S.nx+l.length) Q) (KP:=BV pr l st.S Q) (show BV pr l st.S Q v wl fp from⟨Aa hf,hQ⟩) l _ _ _ hd
  ·cases h
 ·cases h
theorem Oo(bD:P.follows .mixedOrders=true)(cV:∀g,(cm g).Ok P g){rec:dR}(bV:eW P rec){n:Nat}{g:Operand}{ps:List Nat}{x y:IC}{st:St}{kt:Kt}{a:eN}(h:Oi P cm rec n g ps x y st kt=some a){Q:fS->S->Prop}(hQ:∀e st',kt e st'=some a->Q e st'.S):
 BE P n (st.S.ev g) ps x y Q st.S:=by
 unfold Oi at h
 refine⟨(List.range n).map st.env.get,fun i=> ?_, ?_⟩
 ·unfold bB
  simp only[List.getD_eq_getElem?_getD,List.getElem?_map]
  by_cases hi:i<n
  ·right;rw[List.getElem?_range hi];rfl
  ·left;rw[List.getElem?_eq_none (by simp;omega)];rfl
 ·split at h
  ·rename_i f first cap hv
   simp only[hv]
   refine .inl ?_
   have key:=fun {K X} hr=>nE (K:=K) (X:=X) bD cV bV h hr
   simp only[Tr.jm]at key
   refine key fun r hr=> ?_
   unfold Zu at hr
   cases r with
   |ret v o1 AP=>
    simp only at hr
    split at hr
    ·rename_i nf m e p c d lst pd ho
     have hl:lst≠ .busy:=by
      intro hb;subst hb;cases hr
     refine⟨nf,m,e,p,c,d,lst,pd,ho,hl, ?_⟩
     split at hr
     ·cases hr
     ·split at hr<;>(have h3:=hQ _ _ hr;simp only[ph];simp only[St.S,Tr.jm]at h3;exact h3)
    ·cases hr
   |bU v o1 AP=>exact hQ _ _ hr
  ·cases h
theorem bM.same {b:Nat}{s:S}(h:b<=s.nx):bM b s s:=fun _ φ _ _ h1 h2=>⟨φ,h1,h2,fun _ h=>h,h,fun _ _ hr=>⟨hr,rfl⟩,fun _ e' _ he=>⟨e',he,Nat.le_refl _,fun _=>rfl⟩⟩
theorem KT{x y:Option eN}{a:eN}(h:FP x y=some a):x=some a/\y=some a:=by
 unfold FP at h
 split at h
 ·rename_i r
  split at h
  ·rename_i r'
   split at h
   ·rename_i hs
    injection h with h;subst h
    rw[R.eB hs]
    exact⟨rfl,rfl⟩
   ·cases h
  ·cases h
 ·cases h
theorem UE(bD:P.follows .mixedOrders=true)(cV:∀g,(cm g).Ok P g):∀k,∀j,j<=k->eW P (run P cm md j):=by
 intro k
 induction k with
 |zero=>intro j hj b rd n ic st kt a h;obtain rfl:j=0:=ad
        cases h
 |succ k ih=>
  intro j hj b rd n ic st kt a h Q hQ
  cases j with
  |zero=>cases h
  |succ j=>
   have bV:eW P (run P cm md j):=ih j ad
   rw[KN]at h
   cases ic with
   |skip=>exact hQ _ _ h
   |exit id=>exact hQ _ _ h
   |ret=>exact hQ _ _ h
   |bad=>cases h
   |ag l=>
    have h:zY P cm md (run P cm md j) (roX kt) l st=some a:=h
    exact tT bD cV bV (K:=Q .normal) (X:=fun v s=>Q (.bU v) s) (fun r hr=>by
     cases r with
     |ok Uv=>exact hQ .normal _ hr
     |bU v Uv=>exact hQ (.bU v) _ hr) l _ h
   |eX l pr=>
    have h:Uz l pr P cm md (run P cm md j) b rd n st kt=some a:=h
    unfold Uz at h
    rw[Nat.dg]at h
    split at h
    ·rename_i s1 fp hd
     split at h
     ·rename_i hf
      rw[Nat.dg]at h
      split at h
      ·rename_i NC
       refine .inr ⟨qy pr,Nat.le_of_ble_eq_true NC,KQ pr, ?_⟩
       refine nG bD cV bV (q:= .fin s1 fp) (K:=fun s' fp=>iO pr fp=true/\pk P (fun v s=>Q (.bU v) s) (Q .normal) (l.drop (qy pr)) ⟨s'.env,s'.o,st.S.nx+qy pr⟩) (KP:=fun _ _ _=>False) (show _/\_ from⟨Aa hf, ?_⟩) (l.take (qy pr)) _ _ _ hd
       exact tT bD cV bV (K:=Q .normal) (X:=fun v s=>Q (.bU v) s) (fun r hr=>by
        cases r with
        |ok Uv=>exact hQ .normal _ hr
        |bU v Uv=>exact hQ (.bU v) _ hr) (l.drop (qy pr)) ⟨s1.env,s1.o,st.nx+qy pr⟩ h
      ·cases h
     ·cases h
    ·split at h
     ·rename_i e s1 h1
      exact .inl (On bD cV bV h1 (hQ _ _ h))
     ·cases h
    ·cases h
   |seq x y=>
    have h:run P cm md j b rd n x st (Es (run P cm md j) b rd n y kt)=some a:=h
    simp only[tP]
    refine bV _ _ _ _ _ _ _ h _ fun e s1 he=> ?_
    unfold Es at he
    cases e with
    |normal=>exact bV _ _ _ _ _ _ _ he _ hQ
    |_=>exact hQ _ _ he
   |cond c x y=>
    have h:(match st.S.ev c with| .d (.bool true)=>run P cm md j b rd n x st kt| .d (.bool false)=>run P cm md j b rd n y st kt| .fh=>FP (run P cm md j b rd n x st kt) (run P cm md j b rd n y st kt)|_=>none)=some a:=h
    simp only[tP]
    split at h
    ·rename_i hv
     simp only[hv]
     exact(uL _ _).mpr (bV _ _ _ _ _ _ _ h _ hQ)
    ·rename_i hv
     simp only[hv]
     exact(sH _ _).mpr (bV _ _ _ _ _ _ _ h _ hQ)
    ·rename_i hv
     simp only[hv]
     obtain⟨h1,h2⟩:=KT h
     exact⟨bV _ _ _ _ _ _ _ h1 _ hQ,bV _ _ _ _ _ _ _ h2 _ hQ⟩
    ·cases h
   |block id x=>
    have h:run P cm md j b rd n x st (Et id kt)=some a:=h
    simp only[tP]
    refine bV _ _ _ _ _ _ _ h _ fun e s1 he=> ?_
    unfold Et at he
    cases e with
    |exit j'=>
     simp only at he
     split at he
     ·rename_i hb
      simp only[fT,Nat.eq_of_beq_eq_true hb,if_true];exact hQ _ _ he
     ·rename_i hb
      simp only[fT,Nat.ne_of_beq_eq_false hb,if_false];exact hQ _ _ he
    |_=>exact hQ _ _ he
   |loop x=>
    have unf:∀m QI,run P cm md (m+1) b rd n (.loop x) QI kt=some a->b<=QI.nx/\run P cm md m b rd n x QI (Es (run P cm md m) b rd n (.loop x) kt)=some a:=by
     intro m QI h
     have h:(match Nat.ble b QI.nx with|true=>run P cm md m b rd n x QI (Es (run P cm md m) b rd n (.loop x) kt)|false=>none)=some a:=h
     split at h
     ·rename_i hb;exact⟨Nat.le_of_ble_eq_true hb,h⟩
     ·cases h
    have h:run P cm md (j+1) b rd n (.loop x) st kt=some a:=h
    refine⟨fun m s=>m<=k+1/\∃st,s=st.S/\run P cm md m b rd n (.loop x) st kt=some a,⟨j+1,st.S,bM.same (unf j st h).1,hj,st,rfl,h⟩, ?_⟩
    rintro m s0 ⟨hm,QI,rfl,h0⟩
    cases m with
    |zero=>cases h0
    |succ m=>
     have Zx:eW P (run P cm md m):=ih m ad
     refine Zx _ _ _ _ _ _ _ (unf m QI h0).2 _ fun e s1 he=> ?_
     unfold Es at he
     cases e with
     |normal=>
      refine⟨m,s1.S,Nat.lt_succ_self _,bM.same ?_,ad,s1,rfl,he⟩
      cases m with
      |zero=>cases he
      |succ m=>exact(unf m s1 he).1
     |_=>exact hQ _ _ he
   |GX g ps x y=>
    cases rd with
    |true=>
     have h:(none:Option eN)=some a:=h
     cases h
    |false=>
     have h:Oi P cm (run P cm md j) n g ps x y st kt=some a:=h
     exact⟨rfl,_, .inl rfl,Oo bD cV bV h hQ⟩
noncomputable def Ab(P:Program)(cm:Nat->FD)(md:qx P)(k:Nat)(g:Nat)(ds:List D):Option R:=
 match Ky P cm (run P cm md k) g (ds.map .d) (.e fun _=> .no) 0 Cj with
 |some (.r x)=>some x
 |_=>none
theorem a8.pv (bD:P.follows .mixedOrders=true)(cV:∀g,(cm g).Ok P g){k g:Nat}{ds:List D}{out:R}(h:Ab P cm md k g ds=some out):a8 P g ds out:=by
 unfold Ab at h
 split at h
 ·rename_i x hr;injection h with h;subst h;exact Ck bD cV (UE bD cV k k (Nat.le_refl _)) hr
 ·cases h
end
end Go.Proofs.YtonbelhklnmjnaaGreat
namespace Go.Proofs.YtonbelhklnmjnaaGreat
def Tr.FR {α:Type}(p:Nat->α->Prop):Tr α->(Nat->Nat)->Prop
 | .e g,f=>∀i,p (f i) (g i)
 | .n x l r,f=>p (f 0) x/\FR p l (fun i=>f (2*i+1))/\FR p r (fun i=>f (2*i+2))
theorem Tr.Ac {α:Type}{p:Nat->α->Prop}:∀ {f:Nat->Nat} (t:Tr α),t.FR p f->∀k,p (f k) (t.get k)
 |f, .e g,h,k=>h k
 |f, .n x l r,h,k=>by
  obtain⟨h1,h2,h3⟩:=h
  rw[Tr.uZ]
  split
  ·rename_i e;subst e;exact h1
  ·split
   ·have:=Tr.Ac l h2 (k/2)
    rwa [show 2*(k/2)+1=k by omega]at this
   ·have:=Tr.Ac r h3 (k/2 - 1)
    rwa [show 2*(k/2 - 1)+2=k by omega]at this
end Go.Proofs.YtonbelhklnmjnaaGreat
