/-
  A PART OF THE PROOF. Conditions: none.
-/
import Derived.Test.YtlhemmpklhhgoaaGreatQb10
set_option linter.unusedSimpArgs false
set_option linter.unusedVariables false
namespace Go.Proofs.YtlhemmpklhhgoaaGreat
section
inductive Tr (α:Type) where
 |e (f:Nat->α)
 |n (x:α) (l r:Tr α)
noncomputable def Tr.get {α:Type}(t:Tr α):Nat->α:=
 Tr.rec (motive:=fun _=>Nat->α) (fun f=>f) (fun x _ _ l r k=>Bool.rec (Bool.rec (r (Nat.sub (Nat.div k 2) 1)) (l (Nat.div k 2)) (Nat.beq (Nat.mod k 2) 1)) x (Nat.beq k 0)) t
theorem Tr.Cw {α:Type}(f:Nat->α):(Tr.e f).get=f:=rfl
noncomputable def Tr.sd {α:Type}(x:α):Nat->Tr α->Nat->Tr α
 |0,t,k=> .e (aI t.get k x)
 |d+1, .e f,k=>match Nat.beq k 0 with
  |true=> .n x (.e fun i=>f (2*i+1)) (.e fun i=>f (2*i+2))
  |false=>match Nat.beq (k%2) 1 with
   |true=> .n (f 0) (Tr.sd x d (.e fun i=>f (2*i+1)) (k/2)) (.e fun i=>f (2*i+2))
   |false=> .n (f 0) (.e fun i=>f (2*i+1)) (Tr.sd x d (.e fun i=>f (2*i+2)) (k/2 - 1))
 |d+1, .n y l r,k=>match Nat.beq k 0 with
  |true=> .n x l r
  |false=>match Nat.beq (k%2) 1 with
   |true=> .n y (Tr.sd x d l (k/2)) r
   |false=> .n y l (Tr.sd x d r (k/2 - 1))
noncomputable def Tr.set {α:Type}(t:Tr α)(k:Nat)(x:α):Tr α:=Tr.sd x 24 t k
theorem Tr.se {α:Type}{x:α}{l r:Tr α}{k:Nat}:(Tr.n x l r).get k=if k=0 then x else if k%2=1 then l.get (k/2)else r.get (k/2 - 1):=by
 show @Bool.rec (fun _=>α) (@Bool.rec (fun _=>α) (r.get (k/2 - 1)) (l.get (k/2)) (Nat.beq (k%2) 1)) x (Nat.beq k 0)=_
 by_cases h:k=0
 ·subst h;rfl
 ·have:Nat.beq k 0=false:=by cases k with|zero=>exact absurd rfl h|succ k=>rfl
  simp only[this,h,if_false]
  by_cases h2:k%2=1
  ·simp[h2]
  ·have:Nat.beq (k%2) 1=false:=by
    cases hb:Nat.beq (k%2) 1 with
    |false=>rfl
    |true=>exact absurd (Nat.eq_of_beq_eq_true hb) h2
   simp[h2,this]
theorem Tr.lh {α:Type}(x:α):∀ (d:Nat) (t:Tr α) (k:Nat),(Tr.sd x d t k).get=aI t.get k x
 |0,t,k=>rfl
 |d+1, .e f,k=>by
  funext i
  simp only[Tr.sd]
  have hb:∀a b:Nat,Nat.beq a b=decide (a=b):=fun a b=>by
   cases h:Nat.beq a b with
   |true=>simp[Nat.eq_of_beq_eq_true h]
   |false=>simp[Nat.ne_of_beq_eq_false h]
  rw[hb,hb]
  by_cases h:k=0
  ·subst h
   simp only[decide_true,Tr.se,aC]
   by_cases hi:i=0
   ·simp[hi]
   ·simp only[hi,if_false]
    by_cases h2:i%2=1
    ·simp only[h2,if_true,Tr.Cw];congr 1;omega
    ·simp only[h2,if_false,Tr.Cw];congr 1;omega
  ·simp only[h,decide_false]
   by_cases hk:k%2=1
   ·simp only[hk,decide_true,Tr.se,Tr.lh x d,aC,Tr.Cw]
    by_cases hi:i=0
    ·exact BP
    ·simp only[hi,if_false]
     by_cases h2:i%2=1
     ·simp only[h2,if_true]
      have e1:2*(i/2)+1=i:=af
      rw[e1]
      by_cases e:i=k
      ·simp[e]
      ·exact BI
     ·simp only[h2,if_false]
      rw[if_neg (by intro e;subst e;exact h2 hk)]
      congr 1;omega
   ·simp only[hk,decide_false,Tr.se,Tr.lh x d,aC,Tr.Cw]
    by_cases hi:i=0
    ·exact BP
    ·simp only[hi,if_false]
     by_cases h2:i%2=1
     ·simp only[h2,if_true]
      rw[if_neg (by intro e;subst e;exact hk h2)]
      congr 1;omega
     ·simp only[h2,if_false]
      have e1:2*(i/2 - 1)+2=i:=af
      rw[e1]
      by_cases e:i=k
      ·simp[e]
      ·exact BI
 |d+1, .n y l r,k=>by
  funext i
  simp only[Tr.sd]
  have hb:∀a b:Nat,Nat.beq a b=decide (a=b):=fun a b=>by
   cases h:Nat.beq a b with
   |true=>simp[Nat.eq_of_beq_eq_true h]
   |false=>simp[Nat.ne_of_beq_eq_false h]
  rw[hb,hb]
  by_cases h:k=0
  ·subst h
   simp only[decide_true,Tr.se,aC]
   by_cases hi:i=0
   ·simp[hi]
   ·simp[hi]
  ·simp only[h,decide_false]
   by_cases hk:k%2=1
   ·simp only[hk,decide_true,Tr.se,Tr.lh x d,aC]
    by_cases hi:i=0
    ·exact BP
    ·simp only[hi,if_false]
     by_cases h2:i%2=1
     ·simp only[h2,if_true]
      by_cases e:i=k
      ·simp[e]
      ·exact BI
     ·simp only[h2,if_false]
      rw[if_neg (by intro e;subst e;exact h2 hk)]
   ·simp only[hk,decide_false,Tr.se,Tr.lh x d,aC]
    by_cases hi:i=0
    ·exact BP
    ·simp only[hi,if_false]
     by_cases h2:i%2=1
     ·simp only[h2,if_true]
      rw[if_neg (by intro e;subst e;exact hk h2)]
     ·simp only[h2,if_false]
      by_cases e:i=k
      ·simp[e]
      ·exact BI
theorem Tr.e9 {α:Type}(t:Tr α)(k:Nat)(x:α):(t.set k x).get=aI t.get k x:=Tr.lh x 24 t k
noncomputable def Nat.fc {β:Type}(n:Nat)(c:Nat->β):β:=Nat.rec (motive:=fun _=>β) (c 0) (fun m _=>c (Nat.succ m)) n
theorem Nat.cu {β:Type}(n:Nat)(c:Nat->β):Nat.fc n c=c n:=by cases n<;>rfl
noncomputable def Int.fc {β:Type}(n:Int)(c:Int->β):β:=Int.rec (motive:=fun _=>β) (fun m=>Nat.fc m fun m=>c (.ofNat m)) (fun m=>Nat.fc m fun m=>c (.negSucc m)) n
theorem Int.cu {β:Type}(n:Int)(c:Int->β):Int.fc n c=c n:=by cases n<;>simp only[Int.fc,Nat.cu]
mutual
noncomputable def D.fc {β:Type}:D->(D->β)->β
 | .int k n,c=>Int.fc n fun n=>c (.int k n)
 | .bool b,c=>match b with|true=>c (.bool true)|false=>c (.bool false)
 | .agg l,c=>D.si l fun l=>c (.agg l)
 | .sl l,c=>D.si l fun l=>c (.sl l)
 | .iface t x,c=>D.fc x fun x=>c (.iface t x)
 | .str s,c=>c (.str s)
 | .fi,c=>c .fi
 | .kz,c=>c .kz
 | .bO,c=>c .bO
 | .eQ,c=>c .eQ
 | .mp ks vs,c=>D.si ks fun ks=>D.si vs fun vs=>c (.mp ks vs)
noncomputable def D.si {β:Type}:List D->(List D->β)->β
 |[],c=>c []
 |x::xs,c=>D.fc x fun x=>D.si xs fun xs=>c (x::xs)
end
mutual
theorem D.cu {β:Type}:∀ (x:D) (c:D->β),D.fc x c=c x
 | .int k n,c=>by simp only[D.fc,Int.cu]
 | .bool b,c=>by cases b<;>rfl
 | .agg l,c=>by simp only[D.fc,D.ei l]
 | .sl l,c=>by simp only[D.fc,D.ei l]
 | .iface t x,c=>by simp only[D.fc,D.cu x]
 | .mp ks vs,c=>by simp only[D.fc,D.ei ks,D.ei vs]
 | .str _,_| .fi,_| .kz,_| .bO,_| .eQ,_=>by simp only[D.fc]
theorem D.ei {β:Type}:∀ (x:List D) (c:List D->β),D.si x c=c x
 |[],c=>by simp only[D.si]
 |x::xs,c=>by simp only[D.si,D.cu x,D.ei xs]
end
mutual
noncomputable def V.fc {β:Type}:V->(V->β)->β
 | .d x,c=>D.fc x fun x=>c (.d x)
 | .agg l,c=>V.si l fun l=>c (.agg l)
 | .bH l,c=>V.si l fun l=>c (.bH l)
 | .ptr i o,c=>Nat.fc i fun i=>Nat.fc o fun o=>c (.ptr i o)
 | .osl i o,c=>Nat.fc i fun i=>Nat.fc o fun o=>c (.osl i o)
 | .pe a b i j k,c=>Nat.fc a fun a=>Nat.fc b fun b=>Nat.fc i fun i=>Nat.fc j fun j=>Nat.fc k fun k=>c (.pe a b i j k)
 | .pp l o,c=>D.si l fun l=>Nat.fc o fun o=>c (.pp l o)
 | .func f a b,c=>V.si a fun a=>V.si b fun b=>c (.func f a b)
 | .iface t x,c=>V.fc x fun x=>c (.iface t x)
 | .oO l,c=>D.si l fun l=>c (.oO l)
 | .uc i j k,c=>Nat.fc i fun i=>Nat.fc j fun j=>Nat.fc k fun k=>c (.uc i j k)
 | .mp i,c=>Nat.fc i fun i=>c (.mp i)
 | .js i,c=>Nat.fc i fun i=>c (.js i)
 | .aE,c=>c .aE
 | .aa,c=>c .aa
 | .eg,c=>c .eg
noncomputable def V.si {β:Type}:List V->(List V->β)->β
 |[],c=>c []
 |x::xs,c=>V.fc x fun x=>V.si xs fun xs=>c (x::xs)
end
mutual
theorem V.cu {β:Type}:∀ (x:V) (c:V->β),V.fc x c=c x
 | .d x,c=>by simp only[V.fc,D.cu]
 | .agg l,c=>by simp only[V.fc,V.ei l]
 | .bH l,c=>by simp only[V.fc,V.ei l]
 | .pp l o,c=>by simp only[V.fc,D.ei,Nat.cu]
 | .func f a b,c=>by simp only[V.fc,V.ei a,V.ei b]
 | .iface t x,c=>by simp only[V.fc,V.cu x]
 | .oO l,c=>by simp only[V.fc,D.ei]
 | .ptr _ _,_| .osl _ _,_| .pe _ _ _ _ _,_| .uc _ _ _,_| .mp _,_| .js _,_| .aE,_| .aa,_| .eg,_=>by simp only[V.fc,Nat.cu]
theorem V.ei {β:Type}:∀ (x:List V) (c:List V->β),V.si x c=c x
 |[],c=>by simp only[V.si]
 |x::xs,c=>by simp only[V.si,V.cu x,V.ei xs]
end
section
variable {β:Type}
noncomputable def UA(k:IntKind)(n:Int)(c:V->β):β:=Int.fc n fun n=>c (.d (.int k n))
noncomputable def UB(b:Bool)(c:V->β):β:= @Bool.rec (fun _=>β) (c (.d (.bool false))) (c (.d (.bool true))) b
noncomputable def Oz(x:D)(c:V->β):β:=D.fc x fun x=>c (.d x)
noncomputable def vD(x:D):(V->β)->β:=match x with| .int k n=>UA k n| .bool b=>UB b|x=>Oz x
noncomputable def UC(i o:Nat)(c:V->β):β:=Nat.fc i fun i=>Nat.fc o fun o=>c (.ptr i o)
noncomputable def UD(i o:Nat)(c:V->β):β:=Nat.fc i fun i=>Nat.fc o fun o=>c (.osl i o)
noncomputable def vPe(a b i j k:Nat)(c:V->β):β:=Nat.fc a fun a=>Nat.fc b fun b=>Nat.fc i fun i=>Nat.fc j fun j=>Nat.fc k fun k=>c (.pe a b i j k)
noncomputable def V.Rt (v:V):(V->β)->β:=match v with| .d x=>vD x| .ptr i o=>UC i o| .osl i o=>UD i o| .pe a b i j k=>vPe a b i j k|v=>V.fc v
theorem V.OA (v:V)(c:V->β):V.Rt v c=c v:=by
 cases v
 case d x=>
  cases x
  case int k n=>simp only[V.Rt,vD,UA,Int.cu]
  case bool b=>cases b<;>rfl
  all_goals exact D.cu _ _
 case ptr i o=>simp only[V.Rt,UC,Nat.cu]
 case osl i o=>simp only[V.Rt,UD,Nat.cu]
 case pe a b i j k=>simp only[V.Rt,vPe,Nat.cu]
 all_goals exact V.cu _ _
end
noncomputable def Ru{β:Type}:List (D×D)->(List (D×D)->β)->β
 |[],c=>c []
 |(a,b)::l,c=>D.fc a fun a=>D.fc b fun b=>Ru l fun l=>c ((a,b)::l)
theorem Gs{β:Type}:∀ (x:List (D×D)) (c:List (D×D)->β),Ru x c=c x
 |[],c=>rfl
 |(a,b)::l,c=>by simp only[Ru,D.cu,Gs l]
noncomputable def ab.fc {β:Type}(x:ab)(c:ab->β):β:=
 match x with
 | .row cs=>V.si cs fun cs=>c (.row cs)
 | .arr e t s es=>Nat.fc e fun e=>Nat.fc s fun s=>D.si es fun es=>c (.arr e t s es)
 | .qN e es=>Nat.fc e fun e=>D.si es fun es=>c (.qN e es)
 | .map kt vt l=>Ru l fun l=>c (.map kt vt l)
 | .cM l=>Ru l fun l=>c (.cM l)
 | .oX l last=>Ru l fun l=>c (.oX l last)
 | .vy l pos=>Nat.fc pos fun pos=>c (.vy l pos)
 |x=>c x
theorem ab.cu {β:Type}(x:ab)(c:ab->β):ab.fc x c=c x:=by cases x<;>simp only[ab.fc,V.ei,D.ei,Nat.cu,Gs]
noncomputable def Tr.uR {α β:Type}(x:α)(d:Nat):Tr α->Nat->(Tr α->β)->β:=
 Nat.rec (motive:=fun _=>Tr α->Nat->(Tr α->β)->β) (fun t k c=>c (.e (aI t.get k x)))
  (fun _ ih t k c=>Tr.rec (motive:=fun _=>β) (fun f=>
   Bool.rec (Bool.rec (ih (.e fun i=>f (2*i+2)) (Nat.sub (Nat.div k 2) 1) fun r=>c (.n (f 0) (.e fun i=>f (2*i+1)) r)) (ih (.e fun i=>f (2*i+1)) (Nat.div k 2) fun l=>c (.n (f 0) l (.e fun i=>f (2*i+2)))) (Nat.beq (Nat.mod k 2) 1))
    (c (.n x (.e fun i=>f (2*i+1)) (.e fun i=>f (2*i+2)))) (Nat.beq k 0))
   (fun y l r _ _=>Bool.rec (Bool.rec (ih r (Nat.sub (Nat.div k 2) 1) fun r=>c (.n y l r)) (ih l (Nat.div k 2) fun l=>c (.n y l r)) (Nat.beq (Nat.mod k 2) 1)) (c (.n x l r)) (Nat.beq k 0)) t) d
theorem Tr.sj {α β:Type}(x:α):∀ (d:Nat) (t:Tr α) (k:Nat) (c:Tr α->β),Tr.uR x d t k c=c (Tr.sd x d t k)
 |0,t,k,c=>rfl
 |d+1, .e f,k,c=>by
  show @Bool.rec (fun _=>β) (@Bool.rec (fun _=>β) (Tr.uR x d (.e fun i=>f (2*i+2)) (k/2 - 1) fun r=>c (.n (f 0) (.e fun i=>f (2*i+1)) r)) (Tr.uR x d (.e fun i=>f (2*i+1)) (k/2) fun l=>c (.n (f 0) l (.e fun i=>f (2*i+2)))) (Nat.beq (k%2) 1)) (c (.n x (.e fun i=>f (2*i+1)) (.e fun i=>f (2*i+2)))) (Nat.beq k 0)=_
  simp only[Tr.sd,Tr.sj x d]
  cases Nat.beq k 0
  ·cases Nat.beq (k%2) 1<;>rfl
  ·rfl
 |d+1, .n y l r,k,c=>by
  show @Bool.rec (fun _=>β) (@Bool.rec (fun _=>β) (Tr.uR x d r (k/2 - 1) fun r=>c (.n y l r)) (Tr.uR x d l (k/2) fun l=>c (.n y l r)) (Nat.beq (k%2) 1)) (c (.n x l r)) (Nat.beq k 0)=_
  simp only[Tr.sd,Tr.sj x d]
  cases Nat.beq k 0
  ·cases Nat.beq (k%2) 1<;>rfl
  ·rfl
noncomputable def Tr.OB {α β:Type}(t:Tr α)(k:Nat)(x:α)(c:Tr α->β):β:=Tr.uR x 24 t k c
theorem Tr.Cy {α β:Type}(t:Tr α)(k:Nat)(x:α)(c:Tr α->β):t.OB k x c=c (t.set k x):=Tr.sj x 24 t k c
structure St where
 env:Tr V
 o:Tr ab
 nx:Nat
noncomputable def St.S (st:St):S:=⟨st.env.get,st.o.get,st.nx⟩
noncomputable def D6(o:Tr ab)(Δ:List (Nat×ab)):Tr ab:=Δ.foldl (fun f x=>f.set x.1 x.2) o
noncomputable def qj(env:Tr V)(dst:Option Tmp)(v:V):Tr V:=match dst with|some d=>env.set d v|none=>env
noncomputable def sn{β:Type}(o:Tr ab):List (Nat×ab)->(Tr ab->β)->β
 |[],c=>c o
 |(i,x)::Δ,c=>ab.fc x fun x=>o.OB i x fun o=>sn o Δ c
theorem ll{β:Type}:∀ (Δ:List (Nat×ab)) (o:Tr ab) (c:Tr ab->β),sn o Δ c=c (D6 o Δ)
 |[],o,c=>rfl
 |(i,x)::Δ,o,c=>by simp only[sn,ab.cu,Tr.Cy,ll Δ];rfl
noncomputable def j6{β:Type}(env:Tr V)(dst:Option Tmp)(v:V)(c:Tr V->β):β:=match dst with|some d=>V.Rt v fun v=>env.OB d v c|none=>c env
theorem gY{β:Type}(env:Tr V)(dst:Option Tmp)(v:V)(c:Tr V->β):j6 env dst v c=c (qj env dst v):=by
 cases dst<;>simp only[j6,qj,V.OA,Tr.Cy]
theorem iB:∀ (Δ:List (Nat×ab)) (o:Tr ab),(D6 o Δ).get=put o.get Δ
 |[],_=>rfl
 |x::Δ,o=>by
  simp only[D6,put,List.foldl_cons]
  have:=iB Δ (o.set x.1 x.2)
  simp only[D6,put]at this
  rw[this,Tr.e9]
theorem gQ(env:Tr V)(dst:Option Tmp)(v:V):(qj env dst v).get=aS env.get dst v:=by
 cases dst<;>simp[qj,aS,Tr.e9]
section OC
def LM(x:Operand)(_:Program)(s:S)(_:Nat):Option eD:=one (s.ev x)
def UE(c a b:Operand)(_:Program)(s:S)(_:Nat):Option eD:=jY (nV (s.ev c) (s.ev a) (s.ev b))
def OD(t:TypeId)(parts:Array (Nat×Operand))(P:Program)(s:S)(_:Nat):Option eD:=jY (vX P t (parts.toList.map fun p=>(p.1,s.ev p.2)))
def yQ(t:TypeId)(len:Nat)(parts:Array (Nat×Operand))(P:Program)(s:S)(fr:Nat):Option eD:=eL P s.o fr t len (parts.toList.map fun p=>(p.1,s.ev p.2))
def UF(t:TypeId)(x:Operand)(P:Program)(s:S)(_:Nat):Option eD:=kV P s.o t (s.ev x)
def OE(t:TypeId)(x v:Operand)(P:Program)(s:S)(_:Nat):Option eD:=pt P s.o t (s.ev x) (s.ev v)
def Zw(x:Operand)(_:Program)(s:S)(_:Nat):Option eD:=jY (gS s.o (s.ev x))
noncomputable def UG(op:BinOp):IntKind->Int->Int->Option V:=
 match op with
 | .add=>fun k a b=>some (.d (.int k (k.wrap (Int.add a b))))
 | .sub=>fun k a b=>some (.d (.int k (k.wrap (Int.sub a b))))
 | .mul=>fun k a b=>some (.d (.int k (k.wrap (Int.mul a b))))
 |op=>yi op
theorem Jf(op:BinOp):UG op=yi op:=by cases op<;>rfl
def asInt(x:V):Option (IntKind×Int):=match x with| .d (.int k a)=>some (k,a)|_=>none
def Gt(op:BinOp)(t:TypeId)(c:Bool)(x y:V)(P:Program)(o:Nat->ab):Option eD:=ed P o op t c x y
noncomputable def UH(op:BinOp)(t:TypeId)(x y:Operand)(P:Program)(s:S)(_:Nat):Option eD:=
 match asInt (s.ev x)with
 |some (k,a)=>match asInt (s.ev y)with
  |some (k',b)=>if k=k' then match UG op k a b with
   |some v=>some (v,[],[])
   |none=>Gt op t (isConst x||isConst y) (s.ev x) (s.ev y) P s.o
   else none
  |none=>Gt op t (isConst x||isConst y) (s.ev x) (s.ev y) P s.o
 |none=>Gt op t (isConst x||isConst y) (s.ev x) (s.ev y) P s.o
theorem yR{x:V}{k:IntKind}{a:Int}(h:asInt x=some (k,a)):x= .d (.int k a):=by
 unfold asInt at h;split at h
 ·injection h with h;cases h;rfl
 ·cases h
def A1(t:TypeId)(x:Operand)(f:Nat)(P:Program)(s:S)(_:Nat):Option eD:=jY (fD P s.o t (s.ev x) f)
def A2(t:TypeId)(x i:Operand)(P:Program)(s:S)(_:Nat):Option eD:=fC P s.o t (s.ev x) (s.ev i)
def OG(op:Op)(P:Program)(s:S)(fr:Nat):Option eD:=eR P s fr op
noncomputable def Jg(op:Op):Program->S->Nat->Option eD:=
 match op with
 | .move x=>LM x
 | .assign x=>LM x
 | .pick c a b=>UE c a b
 | .build t parts=>OD t parts
 | .buildSlice t len parts=>yQ t len parts
 | .load t x=>UF t x
 | .store t x v=>OE t x v
 | .nilCheck x=>Zw x
 | .binOp op t x y _=>UH op t x y
 | .fieldAddr t x f=>A1 t x f
 | .indexAddr t x i=>A2 t x i
 |op=>OG op
theorem Cz{op:Op}{P:Program}{s:S}{fr:Nat}{r:eD}(h:Jg op P s fr=some r):eR P s fr op=some r:=by
 cases op
 case binOp op t x y yt=>
  simp only[Jg,UH,Jf]at h
  have e:eR P s fr (.binOp op t x y yt)=ed P s.o op t (isConst x||isConst y) (s.ev x) (s.ev y):=rfl
  rw[e]
  split at h
  ·rename_i k a hx
   split at h
   ·rename_i k' b hy
    split at h
    ·rename_i hk
     split at h
     ·rename_i v hv
      unfold ed vW
      simp only[yR hx,yR hy,if_pos hk,hv]
      exact h
     ·exact h
    ·cases h
   ·exact h
  ·exact h
 all_goals exact h
end OC
inductive FD where
 |fn (n:Nat) (ic:IC) (rs:List ResultVar)
 |Zx (n:Nat) (jg eS:IC) (g t:Nat) (gL:List Operand) (rs:List ResultVar) (m r r1:Nat) (yP:IC)
 |Zy
 |no
def FD.Ok (P:Program)(f:Nat):FD->Prop
 | .fn n ic rs=>aG P f n ic rs
 | .Zx n jg eS g t gL rs m r r1 yP=>Gj P f n jg eS g t gL rs/\Cu P g m r r1 yP
 | .Zy=>Cv P f
 | .no=>True
inductive CR where
 |ret (v:V) (o:Tr ab) (nx:Nat)|bu (v:V) (o:Tr ab) (nx:Nat)
def CR.to (K X:V->(Nat->ab)->Nat->Prop):CR->Prop
 | .ret v o nx=>K v o.get nx
 | .bu v o nx=>X v o.get nx
inductive RO where
 |ok (st:St)|bu (v:V) (st:St)
def RO.to (K:S->Prop)(X:V->S->Prop):RO->Prop
 | .ok st=>K st.S
 | .bu v st=>X v st.S
inductive dx where
 |r (x:R)|c (x:CR)
abbrev Kt:=eT->St->Option dx
abbrev cV:=Nat->Bool->Nat->IC->St->Kt->Option dx
noncomputable def D7(P:Program)(rs:List ResultVar)(st:St)(kc:CR->Option dx):Option dx:=
 match jU P st.S rs with
 |some [v]=>kc (.ret v st.o st.nx)
 |some vs=>kc (.ret (.bH vs) st.o st.nx)
 |none=>none
noncomputable def LN(P:Program)(rs:List ResultVar)(kc:CR->Option dx):Kt:=fun e st=>
 match e with
 | .normal=>D7 P rs st kc
 | .ret=>D7 P rs st kc
 | .bu v=>kc (.bu v st.o st.nx)
 | .exit _=>none
noncomputable def Gu(P:Program)(rs:List ResultVar)(kc:CR->Option dx)(env:Tr V):Kt:=fun e s4=>
 match e with
 | .normal=>D7 P rs ⟨env,s4.o,s4.nx⟩ kc
 | .ret=>D7 P rs ⟨env,s4.o,s4.nx⟩ kc
 |_=>none
def UI:eT->Option V
 | .normal=>some (.d .fi)
 | .ret=>some (.d .fi)
 | .bu v=>some v
 | .exit _=>none
noncomputable def Gv(P:Program)(rec:cV)(rs:List ResultVar)(cz:List V)(m r r1:Nat)(yP:IC)(kc:CR->Option dx):Kt:=fun e s3=>
 match UI e with
 |some u=>if cz.length<=m then rec s3.nx true m yP ⟨.e (aI (aI (cj cz) r u) r1 u),s3.o,s3.nx⟩ (Gu P rs kc s3.env)else none
 |none=>none
noncomputable def CA(P:Program)(rec:cV)(n t:Nat)(eS:IC)(g:Nat)(gL:List Operand)(rs:List ResultVar)(m r r1:Nat)(yP:IC)(kc:CR->Option dx):Kt:=fun e s1=>
 match e with
 | .normal=>rec s1.nx false n eS ⟨s1.env.set t (.func (.func g) [] (gL.map s1.S.ev)),s1.o,s1.nx⟩ (Gv P rec rs (gL.map s1.S.ev) m r r1 yP kc)
 |_=>none
noncomputable def Gw(P:Program)(bA:Nat->FD)(rec:cV)(g:Nat)(args:List V)(o:Tr ab)(nx:Nat)(kc:CR->Option dx):Option dx:=
 match bA g with
 | .fn n ic rs=>if args.length<=n then rec nx false n ic ⟨.e (cj args),o,nx⟩ (LN P rs kc)else none
 | .Zx n jg eS g t gL rs m r r1 yP=>if args.length<=n then rec nx true n jg ⟨.e (cj args),o,nx⟩ (CA P rec n t eS g gL rs m r r1 yP kc)else none
 | .Zy=>match args with
   |[.mp id]=>match o.get id with
    | .map kt vt l=>kc (.ret (.mp nx) (o.set nx (.map kt vt l)) (nx+1))
    | .cM l=>kc (.ret (.mp nx) (o.set nx (.map 0 0 l)) (nx+1))
    |_=>none
   |_=>none
 | .no=>none
def sq:V->List V
 | .bH vs=>vs
 |v=>[v]
noncomputable def CB(r:CR):Option R:=
 match r with
 | .ret v o _=>match v with
   | .bH [_]=>none
   |v=>match bI o.get (sq v)with
    |some rs=>some (.ret rs)
    |none=>none
 | .bu v o _=>match dv o.get v with
   |some x=>some (.bu x)
   |none=>none
noncomputable def UJ{β:Type}(x:R)(c:R->β):β:=match x with| .ret l=>D.si l fun l=>c (.ret l)| .bu d=>D.fc d fun d=>c (.bu d)
theorem A3{β:Type}(x:R)(c:R->β):UJ x c=c x:=by cases x<;>simp only[UJ,D.ei,D.cu]
noncomputable def yS(r:CR):Option dx:=match CB r with|some x=>UJ x fun x=>some (.r x)|none=>none
theorem Gx{r:CR}{a:dx}(h:yS r=some a):∃x,CB r=some x/\a= .r x:=by
 unfold yS at h
 split at h
 ·rename_i x hx;rw[A3]at h;injection h with h;exact⟨x,hx,h.symm⟩
 ·cases h
def Gy(out:R)(o:Tr ab)(nx:Nat):CR:=
 match out with
 | .ret rs=> .ret (ir rs) o nx
 | .bu x=> .bu (.d x) o nx
structure oe (P:Program) where
 UK:Nat->Bool
 fx:Nat->List D->Option R
 ok:∀g ds out,fx g ds=some out->aX P g ds out
def Gz(l:List (Nat×List D×R))(g:Nat)(ds:List D):Option R:=
 match l with
 |[]=>none
 |x::l=>match Nat.beq x.1 g with
  |true=>match D.eI x.2.1 ds with
   |true=>some x.2.2
   |false=>Gz l g ds
  |false=>Gz l g ds
theorem wA{P:Program}:∀ {l:List (Nat×List D×R)},(∀x∈l,aX P x.1 x.2.1 x.2.2)->∀g ds out,Gz l g ds=some out->aX P g ds out
 |[],_,_,_,_,h=>by cases h
 |x::l,hl,g,ds,out,h=>by
  simp only[Gz]at h
  split at h
  ·rename_i hg
   split at h
   ·rename_i hd
    injection h with h
    have:=hl x aK
    rw[Nat.eq_of_beq_eq_true hg,D.cW _ _ hd,h]at this
    exact this
   ·exact wA (fun y hy=>hl y mj) g ds out h
  ·exact wA (fun y hy=>hl y mj) g ds out h
def oe.of {P:Program}(UK:Nat->Bool)(l:List (Nat×List D×R))(h:∀x∈l,aX P x.1 x.2.1 x.2.2):oe P:=⟨UK,Gz l,wA h⟩
noncomputable def Jh(P:Program)(bA:Nat->FD)(md:oe P)(rec:cV)(g:Nat)(ds:List D):Option R:=
 match md.fx g ds with
 |some out=>some out
 |none=>match Gw P bA rec g (ds.map .d) (.e fun _=> .no) 0 yS with
  |some (.r x)=>some x
  |_=>none
noncomputable def LO(out:R)(o:Tr ab)(nx:Nat)(args:List V)(kc:CR->Option dx):Option dx:=
 match out.flat with
 |true=>kc (Gy out o (nx+1))
 |false=>match out.kQ with
  |true=>kc (Gy out (D6 o (oY o.get (V.aZ args))) (nx+1))
  |false=>kc (Gy out (D6 o (bP o.get (V.aZ args))) (nx+1))
noncomputable def CC(P:Program)(bA:Nat->FD)(md:oe P)(rec:cV)(g:Nat)(args:List V)(o:Tr ab)(nx:Nat)(kc:CR->Option dx):Option dx:=
 match md.UK g,bI o.get args with
 |true,some ds=>match Jh P bA md rec g ds with
  |some out=>LO out o nx args kc
  |none=>none
 |_,_=>Gw P bA rec g args o nx kc
noncomputable def GA(id:Nat)(kc:CR->Option dx):Kt:=fun e s2=>
 match e with
 | .bu v=>kc (.bu v s2.o s2.nx)
 |e=>match s2.o.get id with
  | .loop nf m en p c d _ _=>match e with
    | .normal=>kc (.ret (.d (.bool true)) (s2.o.set id (.loop nf m en p c d .ready none)) s2.nx)
    | .ret=>kc (.ret (.d (.bool false)) (s2.o.set id (.loop nf m en p c d .done (some .ret))) s2.nx)
    | .exit j=>kc (.ret (.d (.bool false)) (s2.o.set id (.loop nf m en p c d .done (some (.exit j)))) s2.nx)
    | .bu _=>none
  |_=>none
noncomputable def CD(rec:cV)(id nx n:Nat)(eS:IC)(kc:CR->Option dx):Kt:=fun e s1=>
 match e with
 | .normal=>match s1.o.get id with
   | .loop nf m en p c d .ready pd=>rec nx true n eS ⟨s1.env,s1.o.set id (.loop nf m en p c d .busy pd),s1.nx⟩ (GA id kc)
   |_=>none
 | .bu v=>kc (.bu v s1.o s1.nx)
 |_=>none
noncomputable def OH(P:Program)(rec:cV)(id:Nat)(args:List V)(o:Tr ab)(nx:Nat)(kc:CR->Option dx):Option dx:=
 match o.get id with
 | .loop nf n env ps jg eS _ _=>if nf=P.funcs.size/\id<nx/\ps.all (fun t=>decide (t<n))=true/\args.length=ps.length then
  rec nx true n jg ⟨.e (n9 (ba env) ps args),o,nx⟩ (CD rec id nx n eS kc)
   else none
 |_=>none
noncomputable def uS(P:Program)(st:St)(o:bB)(kr:RO->Option dx):Option dx:=
 match Jg o.op P st.S st.nx with
 |some (v,Δ,_)=>j6 st.env o.dst v fun e=>sn st.o Δ fun ob=>Nat.fc (st.nx+1) fun n=>kr (.ok ⟨e,ob,n⟩)
 |none=>none
noncomputable def UL(st:St)(dst:Option Nat)(kr:RO->Option dx)(c:CR):Option dx:=
 match c with
 | .ret v o nx=>j6 st.env dst v fun e=>Nat.fc nx fun nx=>kr (.ok ⟨e,o,nx⟩)
 | .bu v o nx=>kr (.bu v ⟨st.env,o,nx⟩)
noncomputable def GC(c:Call)(P:Program)(bA:Nat->FD)(md:oe P)(rec:cV)(st:St)(o:bB)(kr:RO->Option dx):Option dx:=
 match c.callee with
 | .value f=>match st.S.ev f with
   | .func (.func g) first cap=>CC P bA md rec g (first++c.args.toList.map st.S.ev++cap) st.o st.nx (UL st o.dst kr)
   | .js id=>OH P rec id (c.args.toList.map st.S.ev) st.o st.nx (UL st o.dst kr)
   |_=>none
 | .invoke r m=>match rH P m (st.S.ev r)with
   |some (g,y)=>CC P bA md rec g (y::c.args.toList.map st.S.ev) st.o st.nx (UL st o.dst kr)
   |none=>none
 |_=>uS P st o kr
noncomputable def OI(x:Operand)(P:Program)(_:Nat->FD)(_:oe P)(_:cV)(st:St)(_:bB)(kr:RO->Option dx):Option dx:=
 match st.S.ev x with
 | .d (.iface t y)=>kr (.bu (.d (.iface t y)) st)
 | .iface t y=>kr (.bu (.iface t y) st)
 |_=>none
noncomputable def UM(P:Program)(_:Nat->FD)(_:oe P)(_:cV)(st:St)(o:bB)(kr:RO->Option dx):Option dx:=uS P st o kr
def R.same:R->R->Bool
 | .ret a, .ret b=>D.eI a b
 | .bu a, .bu b=>a.same b
 |_,_=>false
theorem R.dp {x y:R}(h:x.same y=true):x=y:=by
 cases x<;>cases y<;>simp only[R.same,Bool.false_eq_true]at h
 ·rw[D.cW _ _ h]
 ·rw[D.dp _ _ h]
noncomputable def XK(f:Nat->Option dx):Nat->Option dx
 |0=>none
 |n+1=>match n with
  |0=>f 0
  |n=>match XK f n with
   |some (.r a)=>match f n with
    |some (.r b)=>match R.same a b with
     |true=>some (.r a)
     |false=>none
    |_=>none
   |_=>none
theorem GD{f:Nat->Option dx}{a:dx}:∀ {n:Nat},XK f n=some a->∀i,i<n->f i=some a
 |0,h,_,_=>by cases h
 |1,h,i,hi=>by obtain rfl:i=0:=af
               exact h
 |n+2,h,i,hi=>by
  simp only[XK]at h
  split at h
  ·rename_i x hx
   split at h
   ·rename_i y hy
    split at h
    ·rename_i he
     have e:=R.dp he
     subst e
     rw[<- h]
     by_cases e:i=n+1
     ·subst e;exact hy
     ·exact GD hx i af
    ·cases h
   ·cases h
  ·cases h
noncomputable def Ji(st:St)(dst:Option Nat)(kr:RO->Option dx)(v:V)(Δ:List (Nat×ab)):Option dx:=
 j6 st.env dst v fun e=>sn st.o Δ fun ob=>Nat.fc (st.nx+1) fun n=>kr (.ok ⟨e,ob,n⟩)
noncomputable def GF(x:Operand)(str:Bool)(P:Program)(_:Nat->FD)(_:oe P)(_:cV)(st:St)(o:bB)(kr:RO->Option dx):Option dx:=
 match my st.o.get (st.S.ev x)with
 |some (id,l)=>match str with
  |true=>none
  |false=>match l with
   |[]=>Ji st o.dst kr (.bH [.d (.bool false)]) []
   |_=>XK (fun i=>match l[i]? with
    |some (k,x)=>Ji st o.dst kr (.bH [.d (.bool true), .d k, .d x]) [(id, .oX (l.eraseIdx i) (some (k,x)))]
    |none=>none) l.length
 |none=>uS P st o kr
noncomputable def opK(op:Op):(P:Program)->(Nat->FD)->oe P->cV->St->bB->(RO->Option dx)->Option dx:=
 match op with
 | .call c=>GC c
 | .panic x=>OI x
 | .next x str=>GF x str
 |_=>UM
noncomputable def XL(P:Program)(bA:Nat->FD)(md:oe P)(rec:cV)(st:St)(o:bB)(kr:RO->Option dx):Option dx:=opK o.op P bA md rec st o kr
noncomputable def roK(next:St->Option dx)(kr:RO->Option dx):RO->Option dx:=fun r=>match r with| .ok st=>next st| .bu v st=>kr (.bu v st)
noncomputable def wB(P:Program)(bA:Nat->FD)(md:oe P)(rec:cV)(kr:RO->Option dx):List bB->St->Option dx
 |[],st=>kr (.ok st)
 |o::l,st=>match(match o.gd with
   |none=>some true
   |some (d,want)=>match st.env.get d with
    | .d (.bool b)=>some (b==want)
    | .bH []=>some false
    |_=>none)with
  |some true=>XL P bA md rec st o (roK (wB P bA md rec kr l) kr)
  |some false=>j6 st.env o.dst (.bH []) fun e=>Nat.fc (st.nx+1) fun n=>wB P bA md rec kr l ⟨e,st.o,n⟩
  |none=>none
section
variable {P:Program}{bA:Nat->FD}{md:oe P}
noncomputable def dE(P:Program)(rec:cV):Prop:=∀b rd n ic st k a,rec b rd n ic st k=some a->∀Q:eT->S->Prop,(∀e st',k e st'=some a->Q e st'.S)->qS P n b rd ic Q st.S
theorem qW{rs:List ResultVar}{st:St}{kc:CR->Option dx}{a:dx}(h:D7 P rs st kc=some a){K X:V->(Nat->ab)->Nat->Prop}(hr:∀r,kc r=some a->r.to K X):jW P rs K X .ret st.S:=by
 unfold D7 at h
 unfold jW
 split at h
 ·rename_i v hv;simp only[hv];exact hr _ h
 ·rename_i vs hv hn
  simp only[hn]
  exact hr _ h
 ·cases h
theorem lp(aY:P.follows .mixedOrders=true)(bY:∀g,(bA g).Ok P g){rec:cV}(bg:dE P rec){g:Nat}{args:List V}{o:Tr ab}{nx:Nat}{kc:CR->Option dx}{a:dx}(h:Gw P bA rec g args o nx kc=some a){K X:V->(Nat->ab)->Nat->Prop}(hr:∀r,kc r=some a->r.to K X):
 dA P g args o.get nx K X:=by
 have aQ:=bY g
 unfold Gw at h
 split at h
 ·rename_i n ic rs ht
  rw[ht]at aQ
  split at h
  ·rename_i hl
   refine dA.rZ aY aQ hl ?_
   refine bg _ _ _ _ _ _ _ h _ fun e st he=> ?_
   unfold LN at he
   cases e with
   |normal=>exact qW he hr
   |ret=>exact qW he hr
   |bu v=>exact hr _ he
   |exit j=>cases he
  ·cases h
 ·rename_i n jg eS g' t gL rs m r0 r1 yP ht
  rw[ht]at aQ
  split at h
  ·rename_i hl
   refine dA.Gm aY aQ.1 aQ.2 hl (bg _ _ _ _ _ _ _ h _ fun e s1 he=> ?_)
   unfold CA at he
   cases e with
   |normal=>
    have hb:qS P n s1.nx false eS (A0 P m r0 r1 yP (gL.map s1.S.ev) rs K X) ⟨aI s1.env.get t (.func (.func g') [] (gL.map s1.S.ev)),s1.o.get,s1.nx⟩:=by
     have:=bg _ _ _ _ _ _ _ he (A0 P m r0 r1 yP (gL.map s1.S.ev) rs K X) (fun e s3 Rv=>by
      unfold Gv at Rv
      split at Rv
      ·rename_i u hu
       split at Rv
       ·rename_i qA
        have hrw:D4 P m r0 r1 yP (gL.map s1.S.ev) u s3.o.get s3.nx fun o nx=>jW P rs K X .ret ⟨s3.env.get,o,nx⟩:=by
         refine⟨qA,bg _ _ _ _ _ _ _ Rv _ fun e4 s4 XM=> ?_⟩
         unfold Gu at XM
         cases e4 with
         |normal=>exact qW (st:=⟨s3.env,s4.o,s4.nx⟩) XM hr
         |ret=>exact qW (st:=⟨s3.env,s4.o,s4.nx⟩) XM hr
         |_=>cases XM
        cases e<;>simp only[UI,Option.some.injEq,reduceCtorEq]at hu<;>subst hu<;>exact hrw
       ·cases Rv
      ·cases Rv)
     simp only[St.S,Tr.e9]at this
     exact this
    exact hb
   |_=>cases he
  ·cases h
 ·rename_i ht
  rw[ht]at aQ
  split at h
  ·split at h
   ·rename_i kt vt l ho
    have h2:=hr _ h
    simp only[CR.to,Tr.e9]at h2
    exact dA.Oy aQ ho h2
   ·rename_i l ho
    have h2:=hr _ h
    simp only[CR.to,Tr.e9]at h2
    exact dA.Je aQ ho h2
   ·cases h
  ·cases h
 ·cases h
theorem GG{r:CR}{out:R}(ho:CB r=some out):r.to (fun v o _=>∃vs rs,v=(match vs with|[v]=>v|vs=> .bH vs)/\bI o vs=some rs/\out= .ret rs) (fun v o _=>∃x,dv o v=some x/\out= .bu x):=by
 unfold CB at ho
 split at ho
 ·rename_i v o nx
  split at ho
  ·cases ho
  ·rename_i hv
   split at ho
   ·rename_i rs Tt
    injection ho with ho;subst ho
    refine⟨sq v,rs, ?_,Tt,rfl⟩
    cases v with
    |bH vs=>
     match vs,hv with
     |[],_=>rfl
     |[x],hv=>exact absurd rfl (hv x)
     |_::_::_,_=>rfl
    |_=>rfl
   ·cases ho
 ·split at ho
  ·rename_i x hx
   injection ho with ho;subst ho
   exact⟨x,hx,rfl⟩
  ·cases ho
theorem yT(aY:P.follows .mixedOrders=true)(bY:∀g,(bA g).Ok P g){rec:cV}(bg:dE P rec){g:Nat}{ds:List D}{out:R}(h:Gw P bA rec g (ds.map .d) (.e fun _=> .no) 0 yS=some (.r out)):aX P g ds out:=by
 refine aX.mS (lp aY bY bg h fun r hr=> ?_)
 obtain⟨x,hx,he⟩:=Gx hr
 injection he with he;subst he
 exact GG hx
theorem wC(aY:P.follows .mixedOrders=true)(bY:∀g,(bA g).Ok P g){rec:cV}(bg:dE P rec){g:Nat}{ds:List D}{out:R}(h:Jh P bA md rec g ds=some out):aX P g ds out:=by
 unfold Jh at h
 split at h
 ·rename_i aaU ho
  injection h with h;subst h
  exact md.ok _ _ _ ho
 ·split at h
  ·rename_i x hr;injection h with h;subst h;exact yT aY bY bg hr
  ·cases h
theorem yU(aY:P.follows .mixedOrders=true)(bY:∀g,(bA g).Ok P g){rec:cV}(bg:dE P rec){g:Nat}{args:List V}{o:Tr ab}{nx:Nat}{kc:CR->Option dx}{a:dx}(h:CC P bA md rec g args o nx kc=some a){K X:V->(Nat->ab)->Nat->Prop}(hr:∀r,kc r=some a->r.to K X):
 Lf P g args o.get nx K X:=by
 unfold CC at h
 split at h
 ·rename_i ds hmd dT
  split at h
  ·rename_i out GH
   have hP:=wC aY bY bg GH
   refine .inl ⟨ds,dT,out,hP, ?_⟩
   unfold LO at h
   split at h
   ·rename_i hf
    refine .inr (.inl ⟨hf, ?_⟩)
    cases out<;>exact hr _ h
   ·split at h
    ·rename_i hf
     refine .inr (.inr ⟨hf, ?_⟩)
     rw[<- iB]
     cases out<;>exact hr _ h
    ·refine .inl ?_
     rw[<- iB]
     cases out<;>exact hr _ h
  ·cases h
 ·exact .inr (lp aY bY bg h hr)
theorem Jj(aY:P.follows .mixedOrders=true){rec:cV}(bg:dE P rec){id:Nat}{args:List V}{o:Tr ab}{nx:Nat}{kc:CR->Option dx}{a:dx}(h:OH P rec id args o nx kc=some a){K X:V->(Nat->ab)->Nat->Prop}(hr:∀r,kc r=some a->r.to K X):
 c6 P id args o.get nx K X:=by
 unfold OH at h
 split at h
 ·rename_i nf n env ps jg eS st pd ho
  split at h
  ·rename_i hc
   obtain⟨rfl,bR,Gi,hl⟩:=hc
   refine c6.rZ aY ho bR Gi hl ?_
   refine bg _ _ _ _ _ _ _ h _ fun e s1 he=> ?_
   unfold CD at he
   cases e with
   |normal=>
    simp only at he
    split at he
    ·rename_i nf m en p c d pd np
     refine⟨nf,m,en,p,c,d,pd,np, ?_⟩
     have:=bg _ _ _ _ _ _ _ he (jo id K X) (fun e s2 h2=>by
      unfold GA at h2
      split at h2
      ·exact hr _ h2
      ·rename_i K7
       split at h2
       ·rename_i Zz m' ZA p' c' d' st' pd' OJ
        cases e with
        |bu v=>cases h2
        |normal=>have h3:=hr _ h2;simp only[CR.to,Tr.e9]at h3;exact⟨Zz,m',ZA,p',c',d',st',pd',OJ,h3⟩
        |ret=>have h3:=hr _ h2;simp only[CR.to,Tr.e9]at h3;exact⟨Zz,m',ZA,p',c',d',st',pd',OJ,h3⟩
        |exit j=>have h3:=hr _ h2;simp only[CR.to,Tr.e9]at h3;exact⟨Zz,m',ZA,p',c',d',st',pd',OJ,h3⟩
       ·cases h2)
     simp only[St.S,Tr.e9]at this
     exact this
    ·cases he
   |bu v=>exact hr _ he
   |_=>cases he
  ·cases h
 ·cases h
theorem ss{st:St}{o:bB}{kr:RO->Option dx}{a:dx}(h:uS P st o kr=some a){K:S->Prop}{X:V->S->Prop}(hr:∀r,kr r=some a->r.to K X):match eR P st.S st.S.nx o.op with
 |some (v,Δ,_)=>K ⟨aS st.S.env o.dst v,put st.S.o Δ,st.S.nx+1⟩
 |none=>False:=by
 unfold uS at h
 split at h
 ·rename_i v Δ rd he
  have he:=Cz he
  simp only[gY,ll,Nat.cu]at h
  have hr:=hr _ h
  simp only[RO.to,St.S,gQ,iB]at hr
  have ni:eR P st.S st.S.nx o.op=some (v,Δ,rd):=he
  simp only[ni]
  exact hr
 ·cases h
theorem CE{st:St}{dst:Option Nat}{kr:RO->Option dx}{v:V}{Δ:List (Nat×ab)}{a:dx}(h:Ji st dst kr v Δ=some a){K:S->Prop}{X:V->S->Prop}(hr:∀r,kr r=some a->r.to K X):K ⟨aS st.S.env dst v,put st.S.o Δ,st.S.nx+1⟩:=by
 unfold Ji at h
 simp only[gY,ll,Nat.cu]at h
 have hr:=hr _ h
 simp only[RO.to,St.S,gQ,iB]at hr
 exact hr
theorem OK(aY:P.follows .mixedOrders=true)(bY:∀g,(bA g).Ok P g){rec:cV}(bg:dE P rec){st:St}{o:bB}{kr:RO->Option dx}{a:dx}(h:XL P bA md rec st o kr=some a){K:S->Prop}{X:V->S->Prop}(hr:∀r,kr r=some a->r.to K X):ES P st.S o X K:=by
 have cr:∀r,UL st o.dst kr r=some a->r.to (fun v o' nx'=>K ⟨aS st.S.env o.dst v,o',nx'⟩) (fun v o' nx'=>X v ⟨st.S.env,o',nx'⟩):=by
  intro r hx
  unfold UL at hx
  split at hx
  ·simp only[gY,Nat.cu]at hx
   have hr:=hr _ hx
   simp only[RO.to,St.S,gQ]at hr
   exact hr
  ·exact hr _ hx
 unfold XL at h
 unfold ES
 cases fh:o.op
 case call c=>
  rw[fh]at h
  have h:GC c P bA md rec st o kr=some a:=h
  unfold GC at h
  cases hf:c.callee
  case value f=>
   simp only[hf]at h|-
   split at h
   ·rename_i g first cap hv
    simp only[hv]
    have:=yU aY bY bg h cr
    rcases this with⟨ds,dT,hP⟩|hC
    ·have OL:bI st.S.o (first++List.map st.S.ev c.args.toList++cap)=some ds:=dT
     simp only[OL]
     exact .inl hP
    ·split
     ·exact .inr (.inl hC)
     ·exact .inl hC
   ·rename_i id hv
    simp only[hv]
    exact Jj aY bg h cr
   ·cases h
  case invoke r m=>
   simp only[hf]at h|-
   split at h
   ·rename_i g y hv
    simp only[hv]
    exact yU aY bY bg h cr
   ·cases h
  all_goals
   simp only[hf]at h|-
   have:=ss h hr
   rw[fh]at this
   exact this
 case panic x=>
  rw[fh]at h
  have h:OI x P bA md rec st o kr=some a:=h
  unfold OI at h
  split at h
  ·rename_i hv;simp only[hv];exact hr _ h
  ·rename_i hv;simp only[hv];exact hr _ h
  ·cases h
 case next x str=>
  rw[fh]at h
  have h:GF x str P bA md rec st o kr=some a:=h
  unfold GF at h
  have hl:my st.S.o (st.S.ev x)=my st.o.get (st.S.ev x):=rfl
  simp only[hl]
  split at h
  ·rename_i id l au
   simp only[au]
   cases str with
   |true=>cases h
   |false=>
    refine⟨rfl,fun e=> ?_,fun i k y e=> ?_⟩
    ·subst e
     exact CE h hr
    ·cases l with
     |nil=>simp at e
     |cons p l=>
      have:=GD h i (List.getElem?_eq_some_iff.1 e).1
      rw[e]at this
      exact CE this hr
  ·rename_i au
   simp only[au]
   have:=ss h hr
   rw[fh]at this
   exact this
 all_goals
  have h2:uS P st o kr=some a:=by rw[fh]at h;exact h
  have:=ss h2 hr
  rw[fh]at this
  exact this
theorem qX(aY:P.follows .mixedOrders=true)(bY:∀g,(bA g).Ok P g){rec:cV}(bg:dE P rec){kr:RO->Option dx}{a:dx}{K:S->Prop}{X:V->S->Prop}(hr:∀r,kr r=some a->r.to K X):∀ (l:List bB) (st:St),wB P bA md rec kr l st=some a->mT P X K l st.S
 |[],st,h=>hr (.ok st) h
 |o::l,st,h=>by
  simp only[wB,gY,Nat.cu]at h
  simp only[mT]
  have op:XL P bA md rec st o (roK (wB P bA md rec kr l) kr)=some a->ES P st.S o X (mT P X K l):=by
   intro h
   refine OK aY bY bg h fun r hrr=> ?_
   cases r with
   |ok OM=>exact qX aY bY bg hr l OM hrr
   |bu v OM=>exact hr (.bu v OM) hrr
  have sk:wB P bA md rec kr l ⟨qj st.env o.dst (.bH []),st.o,st.nx+1⟩=some a->mT P X K l ⟨aS st.S.env o.dst (.bH []),st.S.o,st.S.nx+1⟩:=by
   intro h
   have:=qX aY bY bg hr l _ h
   exact Fi
  cases hg:o.gd with
  |none=>simp only[hg]at h;exact op h
  |some p=>
   obtain⟨d,want⟩:=p
   simp only[hg]at h
   have he:st.S.env d=st.env.get d:=rfl
   simp only[he]
   cases hv:st.env.get d with
   |d x=>
    cases x with
    |bool b=>
     simp only[hv]at h|-
     by_cases e:b=want
     ·subst e
      simp only[beq_self_eq_true]at h
      rw[if_pos rfl];exact op h
     ·have:(b==want)=false:=by simpa using e
      rw[this]at h
      rw[if_neg e];exact sk h
    |_=>simp[hv]at h
   |bH vs=>
    cases vs with
    |nil=>simp only[hv]at h|-;exact sk h
    |cons a bK=>simp[hv]at h
   |_=>simp[hv]at h
end
end
section
mutual
def V.same:V->V->Bool
 | .d x, .d y=>x.same y
 | .aE, .aE=>true
 | .aa, .aa=>true
 | .agg a, .agg b=>V.eI a b
 | .ptr i o, .ptr j p=>Nat.beq i j&&Nat.beq o p
 | .osl i o, .osl j p=>Nat.beq i j&&Nat.beq o p
 | .oO a, .oO b=>D.eI a b
 | .iface t x, .iface u y=>Nat.beq t u&&x.same y
 | .mp i, .mp j=>Nat.beq i j
 |_,_=>false
def V.eI:List V->List V->Bool
 |[],[]=>true
 |a::bK,b::bs=>a.same b&&V.eI bK bs
 |_,_=>false
end
mutual
theorem V.dp:∀ (x y:V),x.same y=true->x=y
 | .d x,y,h=>by cases y<;>simp only[V.same,Bool.false_eq_true]at h;rw[D.dp _ _ h]
 | .aE,y,h=>by cases y<;>simp_all[V.same]
 | .aa,y,h=>by cases y<;>simp_all[V.same]
 | .agg a,y,h=>by cases y<;>simp only[V.same,Bool.false_eq_true]at h;rw[V.cW _ _ h]
 | .ptr i o,y,h=>by
   exact SX
 | .osl i o,y,h=>by
   exact SX
 | .oO a,y,h=>by cases y<;>simp only[V.same,Bool.false_eq_true]at h;rw[D.cW _ _ h]
 | .iface t x,y,h=>by
   cases y<;>simp only[V.same,Bool.false_eq_true,Bool.and_eq_true]at h
   rw[Nat.eq_of_beq_eq_true h.1,V.dp _ _ h.2]
 | .mp i,y,h=>by
   cases y<;>simp only[V.same,Bool.false_eq_true]at h
   rw[Nat.eq_of_beq_eq_true h]
 | .bH _,y,h| .pe _ _ _ _ _,y,h| .pp _ _,y,h| .func _ _ _,y,h| .uc _ _ _,y,h| .eg,y,h| .js _,y,h=>by simp[V.same]at h
theorem V.cW:∀ (x y:List V),V.eI x y=true->x=y
 |[],y,h=>by cases y<;>simp_all[V.eI]
 |a::bK,y,h=>by
  cases y<;>simp only[V.eI,Bool.false_eq_true,Bool.and_eq_true]at h
  rw[V.dp _ _ h.1,V.cW _ _ h.2]
end
def su:List (D×D)->List (D×D)->Bool
 |[],[]=>true
 |(a,b)::l,(c,d)::m=>a.same c&&(b.same d&&su l m)
 |_,_=>false
theorem sv:∀ (l m:List (D×D)),su l m=true->l=m
 |[],m,h=>by cases m<;>simp_all[su]
 |(a,b)::l,m,h=>by
  cases m with
  |nil=>simp[su]at h
  |cons p m=>
   obtain⟨c,d⟩:=p
   simp only[su,Bool.and_eq_true]at h
   rw[D.dp _ _ h.1,D.dp _ _ h.2.1,sv l m h.2.2]
noncomputable def ab.same:ab->ab->Bool
 | .no, .no=>true
 | .row a, .row b=>V.eI a b
 | .arr e t s a, .arr f u r b=>Nat.beq e f&&Nat.beq t u&&Nat.beq s r&&D.eI a b
 | .qN e a, .qN f b=>Nat.beq e f&&D.eI a b
 | .map k v a, .map k' v' b=>Nat.beq k k'&&Nat.beq v v'&&su a b
 | .cM a, .cM b=>su a b
 | .vy a i, .vy b j=>a==b&&Nat.beq i j
 |_,_=>false
theorem ab.dp {x y:ab}(h:x.same y=true):x=y:=by
 cases x<;>cases y<;>simp only[ab.same,Bool.false_eq_true,Bool.and_eq_true]at h
 ·rfl
 ·rw[V.cW _ _ h]
 ·rw[Nat.eq_of_beq_eq_true h.1.1.1,Nat.eq_of_beq_eq_true h.1.1.2,Nat.eq_of_beq_eq_true h.1.2,D.cW _ _ h.2]
 ·rw[Nat.eq_of_beq_eq_true h.1,D.cW _ _ h.2]
 ·rw[Nat.eq_of_beq_eq_true h.1.1,Nat.eq_of_beq_eq_true h.1.2,sv _ _ h.2]
 ·rw[sv _ _ h]
 ·rw[eq_of_beq h.1,Nat.eq_of_beq_eq_true h.2]
noncomputable def reach(o:Nat->ab):Nat->List Nat->List Nat->List Nat
 |0,_,seen=>seen
 |_+1,[],seen=>seen
 |n+1,id::todo,seen=>match seen.contains id with
  |true=>reach o n todo seen
  |false=>reach o n ((o id).refs++todo) (id::seen)
noncomputable def dI(o o1:Nat->ab):List Nat->List (Nat×ab)
 |[]=>[]
 |id::l=>match(o id).same (o1 id)with
  |true=>dI o o1 l
  |false=>(id,o1 id)::dI o o1 l
theorem gr{o o1:Nat->ab}:∀ (l:List Nat) (x:Nat×ab),x∈dI o o1 l->x.1∈l/\x.2=o1 x.1
 |[],x,h=>by simp[dI]at h
 |id::l,x,h=>by
  simp only[dI]at h
  split at h
  ·obtain⟨h1,h2⟩:=gr l x h;exact⟨List.mem_cons_of_mem _ h1,h2⟩
  ·rcases List.mem_cons.1 h with rfl|h
   ·exact⟨aK,rfl⟩
   ·obtain⟨h1,h2⟩:=gr l x h;exact⟨List.mem_cons_of_mem _ h1,h2⟩
theorem lq{o o1:Nat->ab}:∀ (l:List Nat) (id:Nat),id∈l->id∉(dI o o1 l).map (·.1)->o1 id=o id
 |[],id,h,_=>by simp at h
 |j::l,id,h,hn=>by
  simp only[dI]at hn
  split at hn
  ·rename_i hs
   rcases List.mem_cons.1 h with rfl|h
   ·exact(ab.dp hs).symm
   ·exact lq l id h hn
  ·simp only[List.map_cons,List.mem_cons,not_or]at hn
   rcases List.mem_cons.1 h with rfl|h
   ·exact absurd rfl hn.1
   ·exact lq l id h hn.2
theorem yV{o1:Nat->ab}:∀ (Δ:List (Nat×ab)) (o:Nat->ab),(∀x∈Δ,x.2=o1 x.1)->∀id,id∈Δ.map (·.1)\/o id=o1 id->put o Δ id=o1 id
 |[],o,_,id,h=>by rcases h with h|h;· simp at h
                  ·exact h
 |x::Δ,o,hv,id,h=>by
  simp only[put,List.foldl_cons]
  refine yV Δ (aI o x.1 x.2) (fun y hy=>hv y (List.mem_cons_of_mem _ hy)) id ?_
  simp only[List.map_cons,List.mem_cons]at h
  simp only[aC]
  by_cases e:id=x.1
  ·right;rw[if_pos e,hv x (by simp),e]
  ·rcases h with(h|h)|h
   ·exact absurd h e
   ·exact .inl h
   ·right;rw[if_neg e];exact h
theorem qk{o o1:Nat->ab}{l:List Nat}{id:Nat}(h:id∈l):o1 id=put o (dI o o1 l) id:=by
 by_cases hm:id∈(dI o o1 l).map (·.1)
 ·exact(yV _ o (fun x hx=>(gr l x hx).2) id (.inl hm)).symm
 ·rw[eN hm];exact lq l id h hm
inductive DR where
 |val (v:V) (Δ:List (Nat×ab)) (rd:List Nat)|bu (v:V) (ws rd:List Nat)
def DR.to (K:V->List (Nat×ab)->List Nat->Prop)(KX:V->List Nat->List Nat->Prop):DR->Prop
 | .val v Δ rd=>K v Δ rd
 | .bu v ws rd=>KX v ws rd
noncomputable def UN(c:CR):Option dx:=some (.c c)
noncomputable def hX(P:Program)(bA:Nat->FD)(rec:cV)(g:Nat)(args:List V)(st:St):Option DR:=
 let rd:=reach st.o.get 2000 (V.aP args) []
 match rd.all (fun id=>Nat.blt id st.nx&&(st.o.get id).refs.all rd.contains)&&(V.aP args).all rd.contains with
 |true=>match Gw P bA rec g args (.e (Lj rd st.o.get)) st.nx UN with
  |some (.c (.ret v o1 _))=>match v with
   | .bH [_]=>none
   |v=>match bI o1.get (sq v)with
    |some rs=>match(dI st.o.get o1.get rd).all (fun x=>x.2.refs.all rd.contains)&&(V.aZ (sq v)).all (fun id=> !rd.contains id)with
     |true=>some (.val (ir rs) (dI st.o.get o1.get rd) rd)
     |false=>none
    |none=>none
  |some (.c (.bu v o1 _))=>match dv o1.get v with
   |some x=>match(dI st.o.get o1.get rd).all (fun x=>x.2.refs.all rd.contains)&&v.ids.all (fun id=> !rd.contains id)with
    |true=>some (.bu (.d x) ((dI st.o.get o1.get rd).map (·.1)) rd)
    |false=>none
   |none=>none
  |_=>none
 |false=>none
noncomputable def XN(P:Program)(bA:Nat->FD)(md:oe P)(rec:cV)(g:Nat)(args:List V)(st:St)(rd:List Nat):Option DR:=
 match bI st.o.get args with
 |some ds=>match md.UK g with
  |false=>match Gw P bA rec g (ds.map .d) (.e fun _=> .no) 0 UN with
   |some (.c (.ret v _ _))=>match v.refs with
    |[]=>some (.val v (bP st.o.get (V.aZ args)) rd)
    |_=>none
   |_=>none
  |true=>match Jh P bA md rec g ds with
   |some (.ret rs)=>match D.iq rs with
    |true=>some (.val (ir rs) [] rd)
    |false=>some (.val (ir rs) (bP st.o.get (V.aZ args)) rd)
   |some (.bu x)=>match x.flat with
    |true=>some (.bu (.d x) [] rd)
    |false=>none
   |none=>none
 |none=>hX P bA rec g args st
noncomputable def XO(P:Program)(st:St)(fr:Nat)(op:Op):Option DR:=
 match Jg op P st.S fr with
 |some (v,Δ,_)=>some (.val v Δ (mh st.S op))
 |none=>none
def V.ZB:V->Bool
 | .mp _=>true
 |_=>false
def ON{P:Program}(md:oe P)(g:Nat)(args:List V):Bool:= !md.UK g&&args.any V.ZB
def uT(args:List V):Option (List D):=
 match V.aZ args with
 |[]=>bI (fun _=> .no) args
 |_=>none
noncomputable def Jk(P:Program)(t:TypeId)(c:CR):Option dx:=
 match c with
 | .ret v o1 _=>match v with
   | .osl j ep=>match o1.get j with
     | .arr fU ty sz es=>match Nat.beq fU ep with
       |true=>UJ (.ret [.sl es, .int .i64 (ty:Nat), .int .i64 (sz:Nat)]) fun x=>some (.r x)
       |false=>none
     |_=>none
   | .aE=>match bN P t with
     |some e=>match Nat.blt 0 (P.cellsOf e)with
      |true=>UJ (.ret [.sl [], .int .i64 (e:Nat), .int .i64 (P.cellsOf e:Nat)]) fun x=>some (.r x)
      |false=>none
     |none=>none
   |_=>none
 |_=>none
noncomputable def OO(P:Program)(bA:Nat->FD)(rec:cV)(g:Nat)(t:TypeId)(args:List V)(st:St)(fr:Nat):Option DR:=
 match uT args with
 |some ds=>match Gw P bA rec g (ds.map .d) (.e fun _=> .no) 0 (Jk P t)with
  |some (.r (.ret [.sl es, .int .i64 (.ofNat ty), .int .i64 (.ofNat sz)]))=>some (.val (.osl fr 0) [(fr, .arr 0 ty sz es)] [])
  |_=>none
 |none=>match bI st.o.get args with
  |some ds=>match Gw P bA rec g (ds.map .d) (.e fun _=> .no) 0 (Jk P t)with
   |some (.r (.ret [.sl es, .int .i64 (.ofNat ty), .int .i64 (.ofNat sz)]))=>match D.iq es&&(V.aZ args).all (fun id=>Nat.blt id st.nx)with
    |true=>some (.val (.osl fr 0) [(fr, .arr 0 ty sz es)] (V.aZ args))
    |false=>none
   |_=>none
  |none=>none
noncomputable def Jl(P:Program)(bA:Nat->FD)(md:oe P)(rec:cV)(st:St)(fr:Nat)(op:Op):Option DR:=
 match op with
 | .call c=>match c.callee with
   | .value f=>match st.S.ev f with
     | .func (.func g) first cap=>match ON md g (first++c.args.toList.map st.S.ev++cap)with
       |true=>hX P bA rec g (first++c.args.toList.map st.S.ev++cap) st
       |false=>match XN P bA md rec g (first++c.args.toList.map st.S.ev++cap) st (mh st.S (.call c))with
        |some r=>some r
        |none=>OO P bA rec g (c.argTypes.getD 0 0) (first++c.args.toList.map st.S.ev++cap) st fr
     |_=>none
   |_=>XO P st fr (.call c)
 |op=>XO P st fr op
noncomputable def UO(st:St):Option (Nat×Bool)->Option Bool
 |none=>some true
 |some (d,want)=>match st.env.get d with
  | .d (.bool b)=>some (b==want)
  | .bH []=>some false
  |_=>none
noncomputable def sw(P:Program)(bA:Nat->FD)(md:oe P)(rec:cV)(pr:List (List Nat)):List bB->Nat->St->Fp->List Nat->List Nat->Option (List Nat×Fp)
 |[],_,_,fp,_,ws=>some (ws,fp)
 |o::l,fr,st,fp,bad,ws=>match(pr.getD fp.length []).any (fun j=>bad.contains j)with
  |true=>sw P bA md rec pr l (fr+1) ⟨qj st.env o.dst .aa,st.o,st.nx⟩ (fp++[([],[])]) (bad++[fp.length]) ws
  |false=>match UO st o.gd with
   |some true=>match Jl P bA md rec st fr o.op with
    |some (.val v Δ rd)=>j6 st.env o.dst v fun e=>sn st.o Δ fun ob=>sw P bA md rec pr l (fr+1) ⟨e,ob,st.nx⟩ (fp++[(rd,Δ.map (·.1))]) bad (ws++Δ.map (·.1))
    |_=>none
   |some false=>sw P bA md rec pr l (fr+1) ⟨qj st.env o.dst (.bH []),st.o,st.nx⟩ (fp++[([],[])]) bad ws
   |none=>none
inductive DQ where
 |fin (st:St) (fp:Fp)|bu (v:V) (wl:List Nat) (fp:Fp)
noncomputable def sx(P:Program)(bA:Nat->FD)(md:oe P)(rec:cV)(pr:List (List Nat)):List bB->Nat->St->Fp->Option DQ
 |[],_,st,fp=>some (.fin st fp)
 |o::l,fr,st,fp=>match UO st o.gd with
  |some true=>match Jl P bA md rec st fr o.op with
   |some (.val v Δ rd)=>j6 st.env o.dst v fun e=>sn st.o Δ fun ob=>Nat.fc (fr+1) fun fr=>sx P bA md rec pr l fr ⟨e,ob,st.nx⟩ (fp++[(rd,Δ.map (·.1))])
   |some (.bu v ws rd)=>match sw P bA md rec pr l (fr+1) ⟨qj st.env o.dst .aa,st.o,st.nx⟩ (fp++[(rd,[])]) [fp.length] (ws++fp.flatMap (·.2))with
    |some (wl,fp)=>some (.bu v wl fp)
    |none=>none
   |none=>none
  |some false=>j6 st.env o.dst (.bH []) fun e=>Nat.fc (fr+1) fun fr=>sx P bA md rec pr l fr ⟨e,st.o,st.nx⟩ (fp++[([],[])])
  |none=>none
noncomputable def quiet(fp:Fp):Bool:=fp.all fun x=>match x.2 with|[]=>true|_=>false
noncomputable def wD(m:Nat)(x:List Nat×List Nat):Nat->Fp->Bool
 |_,[]=>true
 |i,y::l=>(match y.2,x.2 with
  |[],[]=>true
  |_,_=>m.testBit i||(je y.2 x.1&&je y.2 x.2&&je x.2 y.1))&&wD m x (i+1) l
noncomputable def CF(ms:List Nat)(pre:Fp):Nat->Fp->Bool
 |_,[]=>true
 |j,x::l=>wD (ms.getD j 0) x 0 pre&&CF ms (pre++[x]) (j+1) l
noncomputable def UP{β:Type}:List Nat->(List Nat->β)->β
 |[],c=>c []
 |x::xs,c=>Nat.fc x fun x=>UP xs fun xs=>c (x::xs)
theorem GI{β:Type}:∀ (x:List Nat) (c:List Nat->β),UP x c=c x
 |[],c=>rfl
 |x::xs,c=>by simp only[UP,Nat.cu,GI xs]
noncomputable def Jm{β:Type}:Fp->(Fp->β)->β
 |[],c=>c []
 |(a,b)::l,c=>UP a fun a=>UP b fun b=>Jm l fun l=>c ((a,b)::l)
theorem CG{β:Type}:∀ (x:Fp) (c:Fp->β),Jm x c=c x
 |[],c=>rfl
 |(a,b)::l,c=>by simp only[Jm,GI,CG l]
noncomputable def GJ(pr:List (List Nat))(fp:Fp):Bool:=match quiet fp with|true=>true|false=>Jm fp fun fp=>CF (dF pr []) [] 0 fp
theorem uU{m:Nat}{x:List Nat×List Nat}:∀ (l:Fp) (i:Nat),wD m x i l=true->∀k,k<l.length->(m.testBit (i+k)||(je (l.getD k ([],[])).2 x.1&&je (l.getD k ([],[])).2 x.2&&je x.2 (l.getD k ([],[])).1))=true
 |[],i,_,k,hk=>by simp at hk
 |y::l,i,h,k,hk=>by
  simp only[wD,Bool.and_eq_true]at h
  cases k with
  |zero=>
   have h1:=h.1
   simp only[List.getD_cons_zero,Nat.add_zero]
   split at h1
   ·rename_i e1 e2
    rw[e1,e2];simp[je]
   ·exact h1
  |succ k=>
   have:=uU l (i+1) h.2 k (by simpa using hk)
   rw[List.getD_cons_succ,show i+(k+1)=i+1+k by omega]
   exact this
theorem yW{ms:List Nat}:∀ (l pre:Fp),CF ms pre pre.length l=true->∀j,pre.length<=j->j<(pre++l).length->∀i,i<j->
 ((ms.getD j 0).testBit i||(je ((pre++l).getD i ([],[])).2 ((pre++l).getD j ([],[])).1&&je ((pre++l).getD i ([],[])).2 ((pre++l).getD j ([],[])).2&&je ((pre++l).getD j ([],[])).2 ((pre++l).getD i ([],[])).1))=true
 |[],pre,_,j,h1,h2,i,_=>by simp at h2;omega
 |x::l,pre,h,j,h1,h2,i,hi=>by
  simp only[CF,Bool.and_eq_true]at h
  by_cases e:j=pre.length
  ·subst e
   have:=uU pre 0 h.1 i hi
   have e1:(pre++x::l).getD pre.length ([],[])=x:=by simp[List.getD_eq_getElem?_getD]
   have e2:(pre++x::l).getD i ([],[])=pre.getD i ([],[]):=by simp[List.getD_eq_getElem?_getD,List.getElem?_append_left hi]
   rw[e1,e2]
   simpa using this
  ·have h3:=h.2
   have:=yW l (pre++[x]) (by simpa using h3) j tZ tV i hi
   simpa using this
noncomputable def OP(P:Program)(bA:Nat->FD)(md:oe P)(rec:cV)(l:List bB)(pr:List (List Nat))(st:St):Option (eT×St):=
 match sx P bA md rec pr l st.nx st []with
 |some (.fin s1 fp)=>match GJ pr fp with
  |true=>Nat.fc (st.nx+l.length) fun n=>some (.normal,⟨s1.env,s1.o,n⟩)
  |false=>none
 |some (.bu v wl fp)=>match GJ pr fp with
  |true=>some (.bu v,⟨.e (rT (dstsOf l) wl l.length st.S).env, .e (rT (dstsOf l) wl l.length st.S).o,st.nx+l.length⟩)
  |false=>none
 |none=>none
noncomputable def UQ(id:Nat)(env:Tr V)(kt:Kt)(c:CR):Option dx:=
 match c with
 | .ret _ o1 xn=>match o1.get id with
   | .loop nf m e p c d XP pd=>match XP with
     | .busy=>none
     |_=>match pd with
      |none=>kt .normal ⟨env,o1.set id (.loop nf m e p c d .exhausted pd),xn⟩
      |some .ret=>kt .ret ⟨env,o1.set id (.loop nf m e p c d .exhausted pd),xn⟩
      |some (.exit j)=>kt (.exit j) ⟨env,o1.set id (.loop nf m e p c d .exhausted pd),xn⟩
   |_=>none
 | .bu v o1 xn=>kt (.bu v) ⟨env,o1,xn⟩
noncomputable def Jn(P:Program)(bA:Nat->FD)(rec:cV)(n:Nat)(g:Operand)(ps:List Nat)(x y:IC)(st:St)(kt:Kt):Option dx:=
 match st.S.ev g with
 | .func (.func f) first cap=>Gw P bA rec f (first++[.js st.nx]++cap) (st.o.set st.nx (.loop P.funcs.size n ((List.range n).map st.env.get) ps x y .ready none)) (st.nx+1) (UQ st.nx st.env kt)
 |_=>none
abbrev mE:=(P:Program)->(Nat->FD)->oe P->cV->Nat->Bool->Nat->St->Kt->Option dx
noncomputable def ZC(kt:Kt):RO->Option dx:=fun r=>match r with| .ok st=>kt .normal st| .bu v st=>kt (.bu v) st
noncomputable def ZD(l:List bB):mE:=fun P bA md rec _ _ _ st kt=>wB P bA md rec (ZC kt) l st
def uV:List Nat->Nat->Nat->Nat
 |[],_,c=>c
 |x::l,k,c=>match Nat.beq x (2^k - 1)with
  |true=>uV l (k+1) c
  |false=>uV l (k+1) (k+1)
def og(pr:List (List Nat)):Nat:=uV (dF pr []) 0 0
noncomputable def OQ(l:List bB)(pr:List (List Nat)):mE:=fun P bA md rec _ _ _ st kt=>
 Nat.fc (og pr) fun m=>match sx P bA md rec pr (l.take m) st.nx st []with
 |some (.fin s1 fp)=>match GJ pr fp with
  |true=>Nat.fc (st.nx+m) fun n=>match Nat.ble m l.length with
   |true=>wB P bA md rec (ZC kt) (l.drop m) ⟨s1.env,s1.o,n⟩
   |false=>none
  |false=>none
 |some (.bu _ _ _)=>match OP P bA md rec l pr st with
  |some (e,s1)=>kt e s1
  |none=>none
 |none=>none
noncomputable def A4(rec:cV)(b:Nat)(rd:Bool)(n:Nat)(y:IC)(kt:Kt):Kt:=fun e s1=>match e with| .normal=>rec b rd n y s1 kt|e=>kt e s1
noncomputable def ZE(x y:IC):mE:=fun _ _ _ rec b rd n st kt=>rec b rd n x st (A4 rec b rd n y kt)
noncomputable def CH(a c:Option dx):Option dx:=
 match a with
 |some (.r x)=>match c with
  |some (.r y)=>match R.same x y with
   |true=>some (.r x)
   |false=>none
  |_=>none
 |_=>none
noncomputable def UR(c:Operand)(x y:IC):mE:=fun _ _ _ rec b rd n st kt=>match st.S.ev c with
 | .d (.bool true)=>rec b rd n x st kt
 | .d (.bool false)=>rec b rd n y st kt
 | .eg=>CH (rec b rd n x st kt) (rec b rd n y st kt)
 |_=>none
noncomputable def A5(id:Nat)(kt:Kt):Kt:=fun e s1=>match e with
 | .exit j=>match Nat.beq j id with
   |true=>kt .normal s1
   |false=>kt (.exit j) s1
 |e=>kt e s1
noncomputable def OR(id:Nat)(x:IC):mE:=fun _ _ _ rec b rd n st kt=>rec b rd n x st (A5 id kt)
noncomputable def US(x:IC):mE:=fun _ _ _ rec b rd n st kt=>match Nat.ble b st.nx with
 |true=>rec b rd n x st (A4 rec b rd n (.loop x) kt)
 |false=>none
noncomputable def OS(e:eT):mE:=fun _ _ _ _ _ _ _ st kt=>kt e st
noncomputable def ZF:mE:=fun _ _ _ _ _ _ _ _ _=>none
noncomputable def ZG(g:Operand)(ps:List Nat)(x y:IC):mE:=fun P bA _ rec _ rd n st kt=>match rd with
 |true=>none
 |false=>Jn P bA rec n g ps x y st kt
noncomputable def LP(ic:IC):mE:=
 match ic with
 | .skip=>OS .normal
 | .ad l=>ZD l
 | .cX l pr=>OQ l pr
 | .seq x y=>ZE x y
 | .cond c x y=>UR c x y
 | .block id x=>OR id x
 | .loop x=>US x
 | .exit id=>OS (.exit id)
 | .ret=>OS .ret
 | .EI g ps x y=>ZG g ps x y
 | .bad=>ZF
noncomputable def run(P:Program)(bA:Nat->FD)(md:oe P)(k:Nat):cV:=
 Nat.rec (motive:=fun _=>cV) (fun _ _ _ _ _ _=>none) (fun _ rec b rd n ic st kt=>LP ic P bA md rec b rd n st kt) k
theorem GK{P:Program}{bA:Nat->FD}{md:oe P}{k:Nat}:run P bA md (k+1)=fun b rd n ic st kt=>LP ic P bA md (run P bA md k) b rd n st kt:=rfl
section
variable {P:Program}{bA:Nat->FD}{md:oe P}
theorem LQ(aY:P.follows .mixedOrders=true)(bY:∀g,(bA g).Ok P g){rec:cV}(bg:dE P rec){fr:Nat}{g:Nat}{args:List V}{st:St}{r:DR}(h:hX P bA rec g args st=some r){K:V->List (Nat×ab)->List Nat->Prop}{KX:V->List Nat->List Nat->Prop}(hr:r.to K KX):
 gB P g args st.S.o st.S.nx fr K KX:=by
 unfold hX at h
 simp only at h
 generalize l6:reach st.o.get 2000 (V.aP args) []=rd at h
 split at h
 ·rename_i hc
  simp only[Bool.and_eq_true,List.all_eq_true]at hc
  obtain⟨hc1,rC⟩:=hc
  have a1:∀id∈rd,id<st.nx:=fun id au=>Nat.le_of_ble_eq_true (hc1 id au).1
  have a2:∀id∈V.aP args,id∈rd:=fun id au=>by simpa using rC id au
  have a3:∀id∈rd,∀j∈(st.o.get id).refs,j∈rd:=fun id au j hj=>by simpa using(hc1 id au).2 j hj
  have a0:rd.all (fun id=>decide (id<st.S.nx))=true:=List.all_eq_true.2 fun id au=>decide_eq_true (a1 id au)
  have key:∀ {r:CR} {a:CR},UN r=some (.c a)->r=a:=fun h=>by unfold UN at h;injection h with h;injection h
  split at h
  ·rename_i v o1 xn hf
   split at h
   ·cases h
   ·rename_i v' nm
    split at h
    ·rename_i rs Tt
     split at h
     ·rename_i OT
      injection h with h;subst h
      simp only[Bool.and_eq_true,List.all_eq_true]at OT
      refine⟨rd,_,a0, .inl ⟨rs,F2.mS a1 a2 a3 (fun x hx=>(gr rd x hx).1) (fun x hx j hj=>by simpa using OT.1 x hx j hj) (lp aY bY bg hf fun r vK=> ?_),hr⟩⟩
      rw[key vK]
      refine⟨fun id au=>qk au,sq v,rs, ?_,Tt,rfl,fun id au=>by simpa using OT.2 id au⟩
      cases v with
      |bH vs=>
       match vs,nm with
       |[],_=>rfl
       |[x],hv=>exact absurd rfl (hv x)
       |_::_::_,_=>rfl
      |_=>rfl
     ·cases h
    ·cases h
  ·rename_i v o1 xn hf
   split at h
   ·rename_i x hx
    split at h
    ·rename_i OT
     injection h with h;subst h
     simp only[Bool.and_eq_true,List.all_eq_true]at OT
     refine⟨rd,dI st.o.get o1.get rd,a0, .inr (.inl ⟨x,F2.mS a1 a2 a3 (fun x hx=>(gr rd x hx).1) (fun x hx j hj=>by simpa using OT.1 x hx j hj) (lp aY bY bg hf fun r vK=> ?_),hr⟩)⟩
     rw[key vK]
     exact⟨fun id au=>qk au,x,hx,rfl,fun id au=>by simpa using OT.2 id au⟩
    ·cases h
   ·cases h
  ·cases h
 ·cases h
theorem OU(aY:P.follows .mixedOrders=true)(bY:∀g,(bA g).Ok P g){rec:cV}(bg:dE P rec){g:Nat}{args:List V}{st:St}{rd:List Nat}{ds:List D}(dT:bI st.o.get args=some ds){r:DR}(h:XN P bA md rec g args st rd=some r)
 {K:V->List (Nat×ab)->List Nat->Prop} {KX:V->List Nat->List Nat->Prop} (hr:r.to K KX):
 qh P g ds (fun v=>K v (bP st.S.o (V.aZ args)) rd) (fun v=>K v [] rd) (fun v=>KX v [] rd):=by
 unfold XN at h
 simp only[dT]at h
 split at h
 ·split at h
  ·rename_i v o1 xn UT
   split at h
   ·rename_i hrf
    injection h with h;subst h
    exact .inr (.inr ⟨v,TM.mS hrf (lp aY bY bg UT fun r vK=>by unfold UN at vK;injection vK with vK;injection vK with vK;rw[vK];exact rfl),hr⟩)
   ·cases h
  ·cases h
 ·split at h
  ·rename_i rs GH
   have hP:=wC aY bY bg GH
   split at h
   ·rename_i hf
    injection h with h;subst h
    exact .inl ⟨rs,hP, .inr ⟨hf,hr⟩⟩
   ·injection h with h;subst h
    exact .inl ⟨rs,hP, .inl hr⟩
  ·rename_i x GH
   have hP:=wC aY bY bg GH
   split at h
   ·rename_i hf
    injection h with h;subst h
    exact .inr (.inl ⟨x,hP,hf,hr⟩)
   ·cases h
  ·cases h
theorem CI{t ty:TypeId}{sz:Nat}{es:List D}{r:CR}(h:Jk P t r=some (.r (.ret [.sl es, .int .i64 (.ofNat ty), .int .i64 (.ofNat sz)]))):
 r.to (fun v o1 _=>(∃j ep,v= .osl j ep/\o1 j= .arr ep ty sz es)\/(v= .aE/\es=[]/\0<sz)) (fun _ _ _=>False):=by
 unfold Jk at h
 split at h
 ·rename_i v o1 n1
  split at h
  ·rename_i j ep
   split at h
   ·rename_i fU ty' oP es' ho
    split at h
    ·rename_i he
     have he:=Nat.eq_of_beq_eq_true he
     subst he
     rw[A3]at h
     simp only[Option.some.injEq,dx.r.injEq,R.ret.injEq,List.cons.injEq,D.sl.injEq,D.int.injEq,true_and,and_true]at h
     obtain⟨rfl,h2,h3⟩:=h
     have h2:ty'=ty:=Int.ofNat.inj h2
     have h3:oP=sz:=Int.ofNat.inj h3
     subst h2;subst h3
     exact .inl ⟨j,fU,rfl,ho⟩
    ·cases h
   ·cases h
  ·split at h
   ·rename_i e he
    split at h
    ·rename_i hp
     rw[A3]at h
     simp only[Option.some.injEq,dx.r.injEq,R.ret.injEq,List.cons.injEq,D.sl.injEq,D.int.injEq,true_and,and_true]at h
     obtain⟨rfl,h2,h3⟩:=h
     have h3:P.cellsOf e=sz:=Int.ofNat.inj h3
     subst h3
     exact .inr ⟨rfl,rfl,Nat.blt_eq.mp hp⟩
    ·cases h
   ·cases h
  ·cases h
 ·cases h
theorem Jo(aY:P.follows .mixedOrders=true)(bY:∀g,(bA g).Ok P g){rec:cV}(bg:dE P rec){fr:Nat}{g:Nat}{t:TypeId}{args:List V}{st:St}{r:DR}(h:OO P bA rec g t args st fr=some r){K:V->List (Nat×ab)->List Nat->Prop}{KX:V->List Nat->List Nat->Prop}(hr:r.to K KX):
 gB P g args st.S.o st.S.nx fr K KX:=by
 unfold OO at h
 split at h
 ·rename_i ds dT
  split at h
  ·rename_i es ty sz UT
   injection h with h;subst h
   unfold uT at dT
   split at dT
   ·rename_i au
    exact⟨[],_,aK, .inr (.inr ⟨_,xm.Jd au dT (xm.Gp (lp aY bY bg UT fun r vK=>CI vK)),hr⟩)⟩
   ·cases dT
  ·cases h
 ·split at h
  ·rename_i ds dT
   split at h
   ·rename_i es ty sz UT
    split at h
    ·rename_i hc
     injection h with h;subst h
     simp only[Bool.and_eq_true]at hc
     refine⟨V.aZ args,_, ?_, .inr (.inr ⟨_,xm.Jc dT hc.1 (lp aY bY bg UT fun r vK=>CI vK),hr⟩)⟩
     exact List.all_eq_true.2 fun id au=>decide_eq_true (Nat.blt_eq.mp (List.all_eq_true.1 hc.2 id au))
    ·cases h
   ·cases h
  ·cases h
theorem wE(aY:P.follows .mixedOrders=true)(bY:∀g,(bA g).Ok P g){rec:cV}(bg:dE P rec){st:St}{fr:Nat}{o:bB}{r:DR}(h:Jl P bA md rec st fr o.op=some r){K:V->List (Nat×ab)->List Nat->Prop}{KX:V->List Nat->List Nat->Prop}(hr:r.to K KX):
 xo P st.S fr o K KX:=by
 have hs:XO P st fr o.op=some r->(match eR P st.S fr o.op with|some (v,Δ,_)=>K v Δ (mh st.S o.op)|none=>False):=by
  intro h
  unfold XO at h
  split at h
  ·rename_i v Δ rd he
   injection h with h;subst h
   simp only[Cz he]
   exact hr
  ·cases h
 unfold Jl at h
 unfold xo
 split at h
 ·rename_i c hc
  simp only[hc]
  split at h
  ·rename_i f hf
   simp only[hf]
   split at h
   ·rename_i g first cap hv
    simp only[hv]
    split at h
    ·have hh:=LQ aY bY bg h hr (fr:=fr)
     split
     ·exact .inr hh
     ·exact hh
    split at h
    ·rename_i r' Nw
     injection h with h;subst h
     cases dT:bI st.S.o (first++List.map st.S.ev c.args.toList++cap)with
     |some ds=>exact .inl (OU aY bY bg dT Nw hr)
     |none=>
      have OL:bI st.o.get (first++List.map st.S.ev c.args.toList++cap)=none:=dT
      unfold XN at Nw
      simp only[OL]at Nw
      exact LQ aY bY bg Nw hr
    ·have hh:=Jo aY bY bg (st:=st) h hr
     split
     ·exact .inr hh
     ·exact hh
   ·cases h
  ·rename_i dS
   rw[<- hc]at h
   have:=hs h
   rw[hc]at this
   split
   ·rename_i f hf;exact absurd hf (dS f)
   ·exact this
 ·rename_i hc
  have:=hs h
  split
  ·rename_i c hh;exact absurd hh (hc c)
  ·exact this
def XQ(s:S)(gd:Option (Nat×Bool))(A B:Prop):Prop:=
 match gd with
 |none=>A
 |some (d,want)=>match s.env d with
  | .d (.bool b)=>if b=want then A else B
  | .bH []=>B
  |_=>False
theorem wF{st:St}{gd:Option (Nat×Bool)}{t:Bool}(h:UO st gd=some t){A B:Prop}(hA:t=true->A)(hB:t=false->B):XQ st.S gd A B:=by
 cases gd with
 |none=>simp only[UO,Option.some.injEq]at h;exact hA h.symm
 |some p=>
  obtain⟨d,want⟩:=p
  have he:st.S.env d=st.env.get d:=rfl
  simp only[UO]at h
  simp only[XQ,he]
  split at h
  ·rename_i b hb
   injection h with h
   by_cases e:b=want
   ·rw[if_pos e];exact hA (by rw[<- h,e];simp)
   ·rw[if_neg e];exact hB (by rw[<- h];simpa using e)
  ·rename_i hb
   injection h with h
   exact hB h.symm
  ·cases h
theorem Jp{P:Program}{KB:List Nat->Fp->Prop}{pr:List (List Nat)}{o:bB}{l:List bB}{fr:Nat}{s:S}{fp:Fp}{bad ws:List Nat}(hb:(pr.getD fp.length []).any (fun j=>bad.contains j)=false)
 (h:XQ s o.gd (xo P s fr o (fun v Δ rd=>fF P KB pr l (fr+1) ⟨aS s.env o.dst v,put s.o Δ,s.nx⟩ (fp++[(rd,Δ.map (·.1))]) bad (ws++Δ.map (·.1))) (fun _ _ _=>False)) (fF P KB pr l (fr+1) ⟨aS s.env o.dst (.bH []),s.o,s.nx⟩ (fp++[([],[])]) bad ws)):
 fF P KB pr (o::l) fr s fp bad ws:=by
 simp only[fF]
 rw[if_neg (by rw[hb];simp)]
 cases hg:o.gd with
 |none=>rw[hg]at h;exact h
 |some p=>obtain⟨d,want⟩:=p;rw[hg]at h;exact h
theorem Jq{P:Program}{K:S->Fp->Prop}{KP:V->List Nat->Fp->Prop}{pr:List (List Nat)}{o:bB}{l:List bB}{fr:Nat}{s:S}{fp:Fp}
 (h:XQ s o.gd (xo P s fr o (fun v Δ rd=>jl P K KP pr l (fr+1) ⟨aS s.env o.dst v,put s.o Δ,s.nx⟩ (fp++[(rd,Δ.map (·.1))]))
  (fun v ws rd=>fF P (KP v) pr l (fr+1) ⟨aS s.env o.dst .aa,s.o,s.nx⟩ (fp++[(rd,[])]) [fp.length] (ws++fp.flatMap (·.2)))) (jl P K KP pr l (fr+1) ⟨aS s.env o.dst (.bH []),s.o,s.nx⟩ (fp++[([],[])]))):
 jl P K KP pr (o::l) fr s fp:=by
 simp only[jl]
 cases hg:o.gd with
 |none=>rw[hg]at h;exact h
 |some p=>obtain⟨d,want⟩:=p;rw[hg]at h;exact h
theorem oh(aY:P.follows .mixedOrders=true)(bY:∀g,(bA g).Ok P g){rec:cV}(bg:dE P rec){pr:List (List Nat)}{wl:List Nat}{ZH:Fp}{KB:List Nat->Fp->Prop}(hK:KB wl ZH):
 ∀ (l:List bB) (fr:Nat) (st:St) (fp:Fp) (bad ws:List Nat),sw P bA md rec pr l fr st fp bad ws=some (wl,ZH)->fF P KB pr l fr st.S fp bad ws
 |[],fr,st,fp,bad,ws,h=>by
  simp only[sw,Option.some.injEq,Prod.mk.injEq]at h
  obtain⟨rfl,rfl⟩:=h;exact hK
 |o::l,fr,st,fp,bad,ws,h=>by
  simp only[sw,gY,ll]at h
  split at h
  ·rename_i hb
   simp only[fF]
   rw[if_pos hb]
   have:=oh aY bY bg hK l _ _ _ _ _ h
   exact Fi
  ·rename_i hb
   refine Jp hb ?_
   split at h
   ·rename_i hg
    refine wF hg (fun _=> ?_) (fun h=>by cases h)
    split at h
    ·rename_i v Δ rd fh
     refine wE aY bY bg fh ?_
     have:=oh aY bY bg hK l _ _ _ _ _ h
     simp only[St.S,gQ,iB]at this
     exact this
    ·cases h
   ·rename_i hg
    refine wF hg (fun h=>by cases h) (fun _=> ?_)
    have:=oh aY bY bg hK l _ _ _ _ _ h
    exact Fi
   ·cases h
def DQ.to (K:S->Fp->Prop)(KP:V->List Nat->Fp->Prop):DQ->Prop
 | .fin st fp=>K st.S fp
 | .bu v wl fp=>KP v wl fp
theorem lr(aY:P.follows .mixedOrders=true)(bY:∀g,(bA g).Ok P g){rec:cV}(bg:dE P rec){pr:List (List Nat)}{q:DQ}{K:S->Fp->Prop}{KP:V->List Nat->Fp->Prop}(hq:q.to K KP):
 ∀ (l:List bB) (fr:Nat) (st:St) (fp:Fp),sx P bA md rec pr l fr st fp=some q->jl P K KP pr l fr st.S fp
 |[],fr,st,fp,h=>by
  simp only[sx,Option.some.injEq]at h
  subst h;exact hq
 |o::l,fr,st,fp,h=>by
  simp only[sx,gY,ll,Nat.cu]at h
  refine Jq ?_
  split at h
  ·rename_i hg
   refine wF hg (fun _=> ?_) (fun h=>by cases h)
   split at h
   ·rename_i v Δ rd fh
    refine wE aY bY bg fh ?_
    have:=lr aY bY bg hq l _ _ _ h
    simp only[St.S,gQ,iB]at this
    exact this
   ·rename_i v ws rd fh
    split at h
    ·rename_i wl ZH hb
     injection h with h;subst h
     refine wE aY bY bg fh ?_
     have:=oh aY bY bg (KB:=KP v) hq l _ _ _ _ _ hb
     exact Fi
    ·cases h
   ·cases h
  ·rename_i hg
   refine wF hg (fun h=>by cases h) (fun _=> ?_)
   have:=lr aY bY bg hq l _ _ _ h
   exact Fi
  ·cases h
theorem wG{pr:List (List Nat)}{fp:Fp}(h:GJ pr fp=true):dK pr fp=true:=by
 unfold GJ at h
 split at h
 ·rename_i hq
  unfold quiet at hq
  have hz:∀i,(fp.getD i ([],[])).2=[]:=by
   intro i
   rw[List.getD_eq_getElem?_getD]
   cases hx:fp[i]? with
   |none=>rfl
   |some x=>
    have:=List.all_eq_true.1 hq x (List.mem_of_getElem? hx)
    simp only[Option.getD_some]
    split at this
    ·rename_i e;exact e
    ·cases this
  unfold dK
  simp only[hz,je,List.all_nil,Bool.and_self,Bool.or_true]
  simp
 ·rw[CG]at h
  unfold dK
  rw[List.all_eq_true]
  intro j hj
  rw[List.all_eq_true]
  intro i hi
  exact yW fp [] h j (Nat.zero_le _) kF i (by simpa using hi)
theorem sy:∀ (l:List Nat) (k c:Nat),c<=k->c<=uV l k c/\∀i x,l[i]? =some x->uV l k c<=k+i->x=2^(k+i) - 1
 |[],_,c,_=>⟨Nat.le_refl _,fun i x h=>by simp at h⟩
 |y::l,k,c,hc=>by
  simp only[uV]
  split
  ·rename_i he
   obtain⟨h1,h2⟩:=sy l (k+1) c af
   refine⟨h1,fun i x hi hle=> ?_⟩
   cases i with
   |zero=>simp at hi;subst hi;simpa using Nat.eq_of_beq_eq_true he
   |succ i=>
    have:=h2 i x (by simpa using hi) af
    rw[this,show k+(i+1)=k+1+i by omega]
  ·obtain⟨h1,h2⟩:=sy l (k+1) (k+1) (Nat.le_refl _)
   refine⟨af,fun i x hi hle=> ?_⟩
   cases i with
   |zero=>omega
   |succ i=>
    have:=h2 i x (by simpa using hi) af
    rw[this,show k+(i+1)=k+1+i by omega]
theorem uW:∀ (pr:List (List Nat)) (acc:List Nat),(dF pr acc).length=acc.length+pr.length
 |[],acc=>by simp[dF]
 |ps::l,acc=>by simp only[dF,uW l,List.length_append,List.length_cons,List.length_nil];omega
theorem GL(pr:List (List Nat)):AW pr (og pr)=true:=by
 refine List.all_eq_true.2 fun k hk=> ?_
 have hk:k<pr.length:=by simpa using hk
 by_cases h:k<og pr
 ·simp[Nat.blt_eq.mpr h]
 ·have hl:k<(dF pr []).length:=by rw[uW];simpa using hk
  have:=(sy (dF pr []) 0 0 (Nat.le_refl _)).2 k _ (List.getElem?_eq_getElem hl) (by rw[Nat.zero_add];exact Nat.le_of_not_lt h)
  rw[Nat.zero_add]at this
  rw[List.getD_eq_getElem?_getD,List.getElem?_eq_getElem hl,Option.getD_some,this]
  simp
theorem Jr(aY:P.follows .mixedOrders=true)(bY:∀g,(bA g).Ok P g){rec:cV}(bg:dE P rec){l:List bB}{pr:List (List Nat)}{st st':St}{e:eT}(h:OP P bA md rec l pr st=some (e,st')){Q:eT->S->Prop}(hQ:Q e st'.S):
 jl P (AV pr (st.S.nx+l.length) Q) (yy pr l st.S Q) pr l st.S.nx st.S []:=by
 unfold OP at h
 split at h
 ·rename_i s1 fp hd
  split at h
  ·rename_i hf
   simp only[Nat.cu,Option.some.injEq,Prod.mk.injEq]at h
   obtain⟨rfl,rfl⟩:=h
   exact lr aY bY bg (q:= .fin s1 fp) (K:=AV pr (st.S.nx+l.length) Q) (KP:=yy pr l st.S Q) (show AV pr (st.S.nx+l.length) Q s1.S fp from⟨wG hf,hQ⟩) l _ _ _ hd
  ·cases h
 ·rename_i v wl fp hd
  split at h
  ·rename_i hf
   simp only[Option.some.injEq,Prod.mk.injEq]at h
   obtain⟨rfl,rfl⟩:=h
   exact lr aY bY bg (q:= .bu v wl fp) (K:=AV pr (st.S.nx+l.length) Q) (KP:=yy pr l st.S Q) (show yy pr l st.S Q v wl fp from⟨wG hf,hQ⟩) l _ _ _ hd
  ·cases h
 ·cases h
theorem Js(aY:P.follows .mixedOrders=true)(bY:∀g,(bA g).Ok P g){rec:cV}(bg:dE P rec){n:Nat}{g:Operand}{ps:List Nat}{x y:IC}{st:St}{kt:Kt}{a:dx}(h:Jn P bA rec n g ps x y st kt=some a){Q:eT->S->Prop}(hQ:∀e st',kt e st'=some a->Q e st'.S):
 yf P n (st.S.ev g) ps x y Q st.S:=by
 unfold Jn at h
 refine⟨(List.range n).map st.env.get,fun i=> ?_, ?_⟩
 ·unfold ba
  simp only[List.getD_eq_getElem?_getD,List.getElem?_map]
  by_cases hi:i<n
  ·right;rw[List.getElem?_range hi];rfl
  ·left;rw[List.getElem?_eq_none (by simp;omega)];rfl
 ·split at h
  ·rename_i f first cap hv
   simp only[hv]
   refine .inl ?_
   have key:=fun {K X} hr=>lp (K:=K) (X:=X) aY bY bg h hr
   simp only[Tr.e9]at key
   refine key fun r hr=> ?_
   unfold UQ at hr
   cases r with
   |ret v o1 xn=>
    simp only at hr
    split at hr
    ·rename_i nf m e p c d XP pd ho
     have hl:XP≠ .busy:=by
      intro hb;subst hb;cases hr
     refine⟨nf,m,e,p,c,d,XP,pd,ho,hl, ?_⟩
     split at hr
     ·cases hr
     ·split at hr<;>(have h3:=hQ _ _ hr;simp only[pq];simp only[St.S,Tr.e9]at h3;exact h3)
    ·cases hr
   |bu v o1 xn=>exact hQ _ _ hr
  ·cases h
theorem bG.same {b:Nat}{s:S}(h:b<=s.nx):bG b s s:=fun _ φ _ _ h1 h2=>⟨φ,h1,h2,fun _ h=>h,h,fun _ _ hr=>⟨hr,rfl⟩,fun _ e' _ he=>⟨e',he,Nat.le_refl _,fun _=>rfl⟩⟩
theorem GM{x y:Option dx}{a:dx}(h:CH x y=some a):x=some a/\y=some a:=by
 unfold CH at h
 split at h
 ·rename_i r
  split at h
  ·rename_i r'
   split at h
   ·rename_i hs
    injection h with h;subst h
    rw[R.dp hs]
    exact⟨rfl,rfl⟩
   ·cases h
  ·cases h
 ·cases h
theorem OV(aY:P.follows .mixedOrders=true)(bY:∀g,(bA g).Ok P g):∀k,∀j,j<=k->dE P (run P bA md j):=by
 intro k
 induction k with
 |zero=>intro j hj b rd n ic st kt a h;obtain rfl:j=0:=af
        cases h
 |succ k ih=>
  intro j hj b rd n ic st kt a h Q hQ
  cases j with
  |zero=>cases h
  |succ j=>
   have bg:dE P (run P bA md j):=ih j af
   rw[GK]at h
   cases ic with
   |skip=>exact hQ _ _ h
   |exit id=>exact hQ _ _ h
   |ret=>exact hQ _ _ h
   |bad=>cases h
   |ad l=>
    have h:wB P bA md (run P bA md j) (ZC kt) l st=some a:=h
    exact qX aY bY bg (K:=Q .normal) (X:=fun v s=>Q (.bu v) s) (fun r hr=>by
     cases r with
     |ok OM=>exact hQ .normal _ hr
     |bu v OM=>exact hQ (.bu v) _ hr) l _ h
   |cX l pr=>
    have h:OQ l pr P bA md (run P bA md j) b rd n st kt=some a:=h
    unfold OQ at h
    rw[Nat.cu]at h
    split at h
    ·rename_i s1 fp hd
     split at h
     ·rename_i hf
      rw[Nat.cu]at h
      split at h
      ·rename_i B5
       refine .inr ⟨og pr,Nat.le_of_ble_eq_true B5,GL pr, ?_⟩
       refine lr aY bY bg (q:= .fin s1 fp) (K:=fun s' fp=>dK pr fp=true/\mT P (fun v s=>Q (.bu v) s) (Q .normal) (l.drop (og pr)) ⟨s'.env,s'.o,st.S.nx+og pr⟩) (KP:=fun _ _ _=>False) (show _/\_ from⟨wG hf, ?_⟩) (l.take (og pr)) _ _ _ hd
       exact qX aY bY bg (K:=Q .normal) (X:=fun v s=>Q (.bu v) s) (fun r hr=>by
        cases r with
        |ok OM=>exact hQ .normal _ hr
        |bu v OM=>exact hQ (.bu v) _ hr) (l.drop (og pr)) ⟨s1.env,s1.o,st.nx+og pr⟩ h
      ·cases h
     ·cases h
    ·split at h
     ·rename_i e s1 h1
      exact .inl (Jr aY bY bg h1 (hQ _ _ h))
     ·cases h
    ·cases h
   |seq x y=>
    have h:run P bA md j b rd n x st (A4 (run P bA md j) b rd n y kt)=some a:=h
    simp only[qS]
    refine bg _ _ _ _ _ _ _ h _ fun e s1 he=> ?_
    unfold A4 at he
    cases e with
    |normal=>exact bg _ _ _ _ _ _ _ he _ hQ
    |_=>exact hQ _ _ he
   |cond c x y=>
    have h:(match st.S.ev c with| .d (.bool true)=>run P bA md j b rd n x st kt| .d (.bool false)=>run P bA md j b rd n y st kt| .eg=>CH (run P bA md j b rd n x st kt) (run P bA md j b rd n y st kt)|_=>none)=some a:=h
    simp only[qS]
    split at h
    ·rename_i hv
     simp only[hv]
     exact(rR _ _).mpr (bg _ _ _ _ _ _ _ h _ hQ)
    ·rename_i hv
     simp only[hv]
     exact(qd _ _).mpr (bg _ _ _ _ _ _ _ h _ hQ)
    ·rename_i hv
     simp only[hv]
     obtain⟨h1,h2⟩:=GM h
     exact⟨bg _ _ _ _ _ _ _ h1 _ hQ,bg _ _ _ _ _ _ _ h2 _ hQ⟩
    ·cases h
   |block id x=>
    have h:run P bA md j b rd n x st (A5 id kt)=some a:=h
    simp only[qS]
    refine bg _ _ _ _ _ _ _ h _ fun e s1 he=> ?_
    unfold A5 at he
    cases e with
    |exit j'=>
     simp only at he
     split at he
     ·rename_i hb
      simp only[eh,Nat.eq_of_beq_eq_true hb,if_true];exact hQ _ _ he
     ·rename_i hb
      simp only[eh,Nat.ne_of_beq_eq_false hb,if_false];exact hQ _ _ he
    |_=>exact hQ _ _ he
   |loop x=>
    have ZI:∀m LR,run P bA md (m+1) b rd n (.loop x) LR kt=some a->b<=LR.nx/\run P bA md m b rd n x LR (A4 (run P bA md m) b rd n (.loop x) kt)=some a:=by
     intro m LR h
     have h:(match Nat.ble b LR.nx with|true=>run P bA md m b rd n x LR (A4 (run P bA md m) b rd n (.loop x) kt)|false=>none)=some a:=h
     split at h
     ·rename_i hb;exact⟨Nat.le_of_ble_eq_true hb,h⟩
     ·cases h
    have h:run P bA md (j+1) b rd n (.loop x) st kt=some a:=h
    refine⟨fun m s=>m<=k+1/\∃st,s=st.S/\run P bA md m b rd n (.loop x) st kt=some a,⟨j+1,st.S,bG.same (ZI j st h).1,hj,st,rfl,h⟩, ?_⟩
    rintro m s0 ⟨hm,LR,rfl,h0⟩
    cases m with
    |zero=>cases h0
    |succ m=>
     have UU:dE P (run P bA md m):=ih m af
     refine UU _ _ _ _ _ _ _ (ZI m LR h0).2 _ fun e s1 he=> ?_
     unfold A4 at he
     cases e with
     |normal=>
      refine⟨m,s1.S,Nat.lt_succ_self _,bG.same ?_,af,s1,rfl,he⟩
      cases m with
      |zero=>cases he
      |succ m=>exact(ZI m s1 he).1
     |_=>exact hQ _ _ he
   |EI g ps x y=>
    cases rd with
    |true=>
     have h:(none:Option dx)=some a:=h
     cases h
    |false=>
     have h:Jn P bA (run P bA md j) n g ps x y st kt=some a:=h
     exact⟨rfl,_, .inl rfl,Js aY bY bg h hQ⟩
noncomputable def ma(P:Program)(bA:Nat->FD)(md:oe P)(k:Nat)(g:Nat)(ds:List D):Option R:=
 match Gw P bA (run P bA md k) g (ds.map .d) (.e fun _=> .no) 0 yS with
 |some (.r x)=>some x
 |_=>none
theorem aX.fe (aY:P.follows .mixedOrders=true)(bY:∀g,(bA g).Ok P g){k g:Nat}{ds:List D}{out:R}(h:ma P bA md k g ds=some out):aX P g ds out:=by
 unfold ma at h
 split at h
 ·rename_i x hr;injection h with h;subst h;exact yT aY bY (OV aY bY k k (Nat.le_refl _)) hr
 ·cases h
end
end
def Tr.CJ {α:Type}(p:Nat->α->Prop):Tr α->(Nat->Nat)->Prop
 | .e g,f=>∀i,p (f i) (g i)
 | .n x l r,f=>p (f 0) x/\CJ p l (fun i=>f (2*i+1))/\CJ p r (fun i=>f (2*i+2))
theorem Tr.wH {α:Type}{p:Nat->α->Prop}:∀ {f:Nat->Nat} (t:Tr α),t.CJ p f->∀k,p (f k) (t.get k)
 |f, .e g,h,k=>h k
 |f, .n x l r,h,k=>by
  obtain⟨h1,h2,h3⟩:=h
  rw[Tr.se]
  split
  ·rename_i e;subst e;exact h1
  ·split
   ·have:=Tr.wH l h2 (k/2)
    rwa [show 2*(k/2)+1=k by omega]at this
   ·have:=Tr.wH r h3 (k/2 - 1)
    rwa [show 2*(k/2 - 1)+2=k by omega]at this
end Go.Proofs.YtlhemmpklhhgoaaGreat
