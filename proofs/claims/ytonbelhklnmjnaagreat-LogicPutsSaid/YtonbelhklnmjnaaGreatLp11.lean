/-
  A PART OF THE PROOF. Conditions: none.
-/
import Derived.Test.YtonbelhklnmjnaaGreatLp10
set_option linter.unusedSimpArgs false
set_option linter.unusedVariables false
namespace Go.Proofs.YtonbelhklnmjnaaGreat
section
inductive Tr (α:Type) where
 |e (f:Nat->α)
 |n (x:α) (l r:Tr α)
noncomputable def Tr.get {α:Type}(t:Tr α):Nat->α:=
 Tr.rec (motive:=fun _=>Nat->α) (fun f=>f) (fun x _ _ l r k=>Bool.rec (Bool.rec (r (Nat.sub (Nat.div k 2) 1)) (l (Nat.div k 2)) (Nat.beq (Nat.mod k 2) 1)) x (Nat.beq k 0)) t
theorem Tr.GM {α:Type}(f:Nat->α):(Tr.e f).get=f:=rfl
noncomputable def Tr.vC {α:Type}(x:α):Nat->Tr α->Nat->Tr α
 |0,t,k=> .e (aK t.get k x)
 |d+1, .e f,k=>match Nat.beq k 0 with
  |true=> .n x (.e fun i=>f (2*i+1)) (.e fun i=>f (2*i+2))
  |false=>match Nat.beq (k%2) 1 with
   |true=> .n (f 0) (Tr.vC x d (.e fun i=>f (2*i+1)) (k/2)) (.e fun i=>f (2*i+2))
   |false=> .n (f 0) (.e fun i=>f (2*i+1)) (Tr.vC x d (.e fun i=>f (2*i+2)) (k/2 - 1))
 |d+1, .n y l r,k=>match Nat.beq k 0 with
  |true=> .n x l r
  |false=>match Nat.beq (k%2) 1 with
   |true=> .n y (Tr.vC x d l (k/2)) r
   |false=> .n y l (Tr.vC x d r (k/2 - 1))
noncomputable def Tr.set {α:Type}(t:Tr α)(k:Nat)(x:α):Tr α:=Tr.vC x 24 t k
theorem Tr.vE {α:Type}{x:α}{l r:Tr α}{k:Nat}:(Tr.n x l r).get k=if k=0 then x else if k%2=1 then l.get (k/2)else r.get (k/2 - 1):=by
 show @Bool.rec (fun _=>α) (@Bool.rec (fun _=>α) (r.get (k/2 - 1)) (l.get (k/2)) (Nat.beq (k%2) 1)) x (Nat.beq k 0)=_
 by_cases h:k=0
 ·subst h;rfl
 ·have:Nat.beq k 0=false:=by cases k with|zero=>exact absurd rfl h|succ k=>rfl
  simp only[this,h,if_false]
  by_cases h2:k%2=1
  ·simp[h2]
  ·have:Nat.beq (k%2) 1=false:=by
    cases hb:Nat.beq (k%2) 1 with
    |false=>rfl
    |true=>exact absurd (Nat.eq_of_beq_eq_true hb) h2
   simp[h2,this]
theorem Tr.nL {α:Type}(x:α):∀ (d:Nat) (t:Tr α) (k:Nat),(Tr.vC x d t k).get=aK t.get k x
 |0,t,k=>rfl
 |d+1, .e f,k=>by
  funext i
  simp only[Tr.vC]
  have hb:∀a b:Nat,Nat.beq a b=decide (a=b):=fun a b=>by
   cases h:Nat.beq a b with
   |true=>simp[Nat.eq_of_beq_eq_true h]
   |false=>simp[Nat.ne_of_beq_eq_false h]
  rw[hb,hb]
  by_cases h:k=0
  ·subst h
   simp only[decide_true,Tr.vE,aQ]
   by_cases hi:i=0
   ·simp[hi]
   ·simp only[hi,if_false]
    by_cases h2:i%2=1
    ·simp only[h2,if_true,Tr.GM];congr 1;omega
    ·simp only[h2,if_false,Tr.GM];congr 1;omega
  ·simp only[h,decide_false]
   by_cases hk:k%2=1
   ·simp only[hk,decide_true,Tr.vE,Tr.nL x d,aQ,Tr.GM]
    by_cases hi:i=0
    ·exact F5
    ·simp only[hi,if_false]
     by_cases h2:i%2=1
     ·simp only[h2,if_true]
      have e1:2*(i/2)+1=i:=ah
      rw[e1]
      by_cases e:i=k
      ·simp[e]
      ·exact F0
     ·simp only[h2,if_false]
      rw[if_neg (by intro e;subst e;exact h2 hk)]
      congr 1;omega
   ·simp only[hk,decide_false,Tr.vE,Tr.nL x d,aQ,Tr.GM]
    by_cases hi:i=0
    ·exact F5
    ·simp only[hi,if_false]
     by_cases h2:i%2=1
     ·simp only[h2,if_true]
      rw[if_neg (by intro e;subst e;exact hk h2)]
      congr 1;omega
     ·simp only[h2,if_false]
      have e1:2*(i/2 - 1)+2=i:=ah
      rw[e1]
      by_cases e:i=k
      ·simp[e]
      ·exact F0
 |d+1, .n y l r,k=>by
  funext i
  simp only[Tr.vC]
  have hb:∀a b:Nat,Nat.beq a b=decide (a=b):=fun a b=>by
   cases h:Nat.beq a b with
   |true=>simp[Nat.eq_of_beq_eq_true h]
   |false=>simp[Nat.ne_of_beq_eq_false h]
  rw[hb,hb]
  by_cases h:k=0
  ·subst h
   simp only[decide_true,Tr.vE,aQ]
   by_cases hi:i=0
   ·simp[hi]
   ·simp[hi]
  ·simp only[h,decide_false]
   by_cases hk:k%2=1
   ·simp only[hk,decide_true,Tr.vE,Tr.nL x d,aQ]
    by_cases hi:i=0
    ·exact F5
    ·simp only[hi,if_false]
     by_cases h2:i%2=1
     ·simp only[h2,if_true]
      by_cases e:i=k
      ·simp[e]
      ·exact F0
     ·simp only[h2,if_false]
      rw[if_neg (by intro e;subst e;exact h2 hk)]
   ·simp only[hk,decide_false,Tr.vE,Tr.nL x d,aQ]
    by_cases hi:i=0
    ·exact F5
    ·simp only[hi,if_false]
     by_cases h2:i%2=1
     ·simp only[h2,if_true]
      rw[if_neg (by intro e;subst e;exact hk h2)]
     ·simp only[h2,if_false]
      by_cases e:i=k
      ·simp[e]
      ·exact F0
theorem Tr.js {α:Type}(t:Tr α)(k:Nat)(x:α):(t.set k x).get=aK t.get k x:=Tr.nL x 24 t k
noncomputable def Nat.fc {β:Type}(n:Nat)(c:Nat->β):β:=Nat.rec (motive:=fun _=>β) (c 0) (fun m _=>c (Nat.succ m)) n
theorem Nat.dg {β:Type}(n:Nat)(c:Nat->β):Nat.fc n c=c n:=by cases n<;>rfl
noncomputable def Int.fc {β:Type}(n:Int)(c:Int->β):β:=Int.rec (motive:=fun _=>β) (fun m=>Nat.fc m fun m=>c (.ofNat m)) (fun m=>Nat.fc m fun m=>c (.negSucc m)) n
theorem Int.dg {β:Type}(n:Int)(c:Int->β):Int.fc n c=c n:=by cases n<;>simp only[Int.fc,Nat.dg]
mutual
noncomputable def D.fc {β:Type}:D->(D->β)->β
 | .int k n,c=>Int.fc n fun n=>c (.int k n)
 | .bool b,c=>match b with|true=>c (.bool true)|false=>c (.bool false)
 | .agg l,c=>D.vF l fun l=>c (.agg l)
 | .sl l,c=>D.vF l fun l=>c (.sl l)
 | .iface t x,c=>D.fc x fun x=>c (.iface t x)
 | .str s,c=>c (.str s)
 | .fI,c=>c .fI
 | .mU,c=>c .mU
 | .bN,c=>c .bN
 | .jw,c=>c .jw
 | .mp ks vs,c=>D.vF ks fun ks=>D.vF vs fun vs=>c (.mp ks vs)
noncomputable def D.vF {β:Type}:List D->(List D->β)->β
 |[],c=>c []
 |x::xs,c=>D.fc x fun x=>D.vF xs fun xs=>c (x::xs)
end
mutual
theorem D.dg {β:Type}:∀ (x:D) (c:D->β),D.fc x c=c x
 | .int k n,c=>by simp only[D.fc,Int.dg]
 | .bool b,c=>by cases b<;>rfl
 | .agg l,c=>by simp only[D.fc,D.gf l]
 | .sl l,c=>by simp only[D.fc,D.gf l]
 | .iface t x,c=>by simp only[D.fc,D.dg x]
 | .mp ks vs,c=>by simp only[D.fc,D.gf ks,D.gf vs]
 | .str _,_| .fI,_| .mU,_| .bN,_| .jw,_=>by simp only[D.fc]
theorem D.gf {β:Type}:∀ (x:List D) (c:List D->β),D.vF x c=c x
 |[],c=>by simp only[D.vF]
 |x::xs,c=>by simp only[D.vF,D.dg x,D.gf xs]
end
mutual
noncomputable def V.fc {β:Type}:V->(V->β)->β
 | .d x,c=>D.fc x fun x=>c (.d x)
 | .agg l,c=>V.vF l fun l=>c (.agg l)
 | .cg l,c=>V.vF l fun l=>c (.cg l)
 | .ptr i o,c=>Nat.fc i fun i=>Nat.fc o fun o=>c (.ptr i o)
 | .osl i o,c=>Nat.fc i fun i=>Nat.fc o fun o=>c (.osl i o)
 | .pe a b i j k,c=>Nat.fc a fun a=>Nat.fc b fun b=>Nat.fc i fun i=>Nat.fc j fun j=>Nat.fc k fun k=>c (.pe a b i j k)
 | .pp l o,c=>D.vF l fun l=>Nat.fc o fun o=>c (.pp l o)
 | .func f a b,c=>V.vF a fun a=>V.vF b fun b=>c (.func f a b)
 | .iface t x,c=>V.fc x fun x=>c (.iface t x)
 | .rF l,c=>D.vF l fun l=>c (.rF l)
 | .xR i j k,c=>Nat.fc i fun i=>Nat.fc j fun j=>Nat.fc k fun k=>c (.xR i j k)
 | .mp i,c=>Nat.fc i fun i=>c (.mp i)
 | .jW i,c=>Nat.fc i fun i=>c (.jW i)
 | .br,c=>c .br
 | .aa,c=>c .aa
 | .fq,c=>c .fq
noncomputable def V.vF {β:Type}:List V->(List V->β)->β
 |[],c=>c []
 |x::xs,c=>V.fc x fun x=>V.vF xs fun xs=>c (x::xs)
end
mutual
theorem V.dg {β:Type}:∀ (x:V) (c:V->β),V.fc x c=c x
 | .d x,c=>by simp only[V.fc,D.dg]
 | .agg l,c=>by simp only[V.fc,V.gf l]
 | .cg l,c=>by simp only[V.fc,V.gf l]
 | .pp l o,c=>by simp only[V.fc,D.gf,Nat.dg]
 | .func f a b,c=>by simp only[V.fc,V.gf a,V.gf b]
 | .iface t x,c=>by simp only[V.fc,V.dg x]
 | .rF l,c=>by simp only[V.fc,D.gf]
 | .ptr _ _,_| .osl _ _,_| .pe _ _ _ _ _,_| .xR _ _ _,_| .mp _,_| .jW _,_| .br,_| .aa,_| .fq,_=>by simp only[V.fc,Nat.dg]
theorem V.gf {β:Type}:∀ (x:List V) (c:List V->β),V.vF x c=c x
 |[],c=>by simp only[V.vF]
 |x::xs,c=>by simp only[V.vF,V.dg x,V.gf xs]
end
section
variable {β:Type}
noncomputable def acL(k:IntKind)(n:Int)(c:V->β):β:=Int.fc n fun n=>c (.d (.int k n))
noncomputable def acM(b:Bool)(c:V->β):β:= @Bool.rec (fun _=>β) (c (.d (.bool false))) (c (.d (.bool true))) b
noncomputable def Xy(x:D)(c:V->β):β:=D.fc x fun x=>c (.d x)
noncomputable def vD(x:D):(V->β)->β:=match x with| .int k n=>acL k n| .bool b=>acM b|x=>Xy x
noncomputable def acN(i o:Nat)(c:V->β):β:=Nat.fc i fun i=>Nat.fc o fun o=>c (.ptr i o)
noncomputable def acO(i o:Nat)(c:V->β):β:=Nat.fc i fun i=>Nat.fc o fun o=>c (.osl i o)
noncomputable def vPe(a b i j k:Nat)(c:V->β):β:=Nat.fc a fun a=>Nat.fc b fun b=>Nat.fc i fun i=>Nat.fc j fun j=>Nat.fc k fun k=>c (.pe a b i j k)
noncomputable def V.fck (v:V):(V->β)->β:=match v with| .d x=>vD x| .ptr i o=>acN i o| .osl i o=>acO i o| .pe a b i j k=>vPe a b i j k|v=>V.fc v
theorem V.Xz (v:V)(c:V->β):V.fck v c=c v:=by
 cases v
 case d x=>
  cases x
  case int k n=>simp only[V.fck,vD,acL,Int.dg]
  case bool b=>cases b<;>rfl
  all_goals exact D.dg _ _
 case ptr i o=>simp only[V.fck,acN,Nat.dg]
 case osl i o=>simp only[V.fck,acO,Nat.dg]
 case pe a b i j k=>simp only[V.fck,vPe,Nat.dg]
 all_goals exact V.dg _ _
end
noncomputable def pfc{β:Type}:List (D×D)->(List (D×D)->β)->β
 |[],c=>c []
 |(a,b)::l,c=>D.fc a fun a=>D.fc b fun b=>pfc l fun l=>c ((a,b)::l)
theorem Mo{β:Type}:∀ (x:List (D×D)) (c:List (D×D)->β),pfc x c=c x
 |[],c=>rfl
 |(a,b)::l,c=>by simp only[pfc,D.dg,Mo l]
noncomputable def ab.fc {β:Type}(x:ab)(c:ab->β):β:=
 match x with
 | .row cs=>V.vF cs fun cs=>c (.row cs)
 | .arr e t s es=>Nat.fc e fun e=>Nat.fc s fun s=>D.vF es fun es=>c (.arr e t s es)
 | .qg e es=>Nat.fc e fun e=>D.vF es fun es=>c (.qg e es)
 | .map kt vt l=>pfc l fun l=>c (.map kt vt l)
 | .iV l=>pfc l fun l=>c (.iV l)
 | .nh l last=>pfc l fun l=>c (.nh l last)
 | .zS l pos=>Nat.fc pos fun pos=>c (.zS l pos)
 |x=>c x
theorem ab.dg {β:Type}(x:ab)(c:ab->β):ab.fc x c=c x:=by cases x<;>simp only[ab.fc,V.gf,D.gf,Nat.dg,Mo]
noncomputable def Tr.yH {α β:Type}(x:α)(d:Nat):Tr α->Nat->(Tr α->β)->β:=
 Nat.rec (motive:=fun _=>Tr α->Nat->(Tr α->β)->β) (fun t k c=>c (.e (aK t.get k x)))
  (fun _ ih t k c=>Tr.rec (motive:=fun _=>β) (fun f=>
   Bool.rec (Bool.rec (ih (.e fun i=>f (2*i+2)) (Nat.sub (Nat.div k 2) 1) fun r=>c (.n (f 0) (.e fun i=>f (2*i+1)) r)) (ih (.e fun i=>f (2*i+1)) (Nat.div k 2) fun l=>c (.n (f 0) l (.e fun i=>f (2*i+2)))) (Nat.beq (Nat.mod k 2) 1))
    (c (.n x (.e fun i=>f (2*i+1)) (.e fun i=>f (2*i+2)))) (Nat.beq k 0))
   (fun y l r _ _=>Bool.rec (Bool.rec (ih r (Nat.sub (Nat.div k 2) 1) fun r=>c (.n y l r)) (ih l (Nat.div k 2) fun l=>c (.n y l r)) (Nat.beq (Nat.mod k 2) 1)) (c (.n x l r)) (Nat.beq k 0)) t) d
theorem Tr.vG {α β:Type}(x:α):∀ (d:Nat) (t:Tr α) (k:Nat) (c:Tr α->β),Tr.yH x d t k c=c (Tr.vC x d t k)
 |0,t,k,c=>rfl
 |d+1, .e f,k,c=>by
  show @Bool.rec (fun _=>β) (@Bool.rec (fun _=>β) (Tr.yH x d (.e fun i=>f (2*i+2)) (k/2 - 1) fun r=>c (.n (f 0) (.e fun i=>f (2*i+1)) r)) (Tr.yH x d (.e fun i=>f (2*i+1)) (k/2) fun l=>c (.n (f 0) l (.e fun i=>f (2*i+2)))) (Nat.beq (k%2) 1)) (c (.n x (.e fun i=>f (2*i+1)) (.e fun i=>f (2*i+2)))) (Nat.beq k 0)=_
  simp only[Tr.vC,Tr.vG x d]
  cases Nat.beq k 0
  ·cases Nat.beq (k%2) 1<;>rfl
  ·rfl
 |d+1, .n y l r,k,c=>by
  show @Bool.rec (fun _=>β) (@Bool.rec (fun _=>β) (Tr.yH x d r (k/2 - 1) fun r=>c (.n y l r)) (Tr.yH x d l (k/2) fun l=>c (.n y l r)) (Nat.beq (k%2) 1)) (c (.n x l r)) (Nat.beq k 0)=_
  simp only[Tr.vC,Tr.vG x d]
  cases Nat.beq k 0
  ·cases Nat.beq (k%2) 1<;>rfl
  ·rfl
noncomputable def Tr.XA {α β:Type}(t:Tr α)(k:Nat)(x:α)(c:Tr α->β):β:=Tr.yH x 24 t k c
theorem Tr.GN {α β:Type}(t:Tr α)(k:Nat)(x:α)(c:Tr α->β):t.XA k x c=c (t.set k x):=Tr.vG x 24 t k c
structure St where
 env:Tr V
 o:Tr ab
 nx:Nat
noncomputable def St.S (st:St):S:=⟨st.env.get,st.o.get,st.nx⟩
noncomputable def I0(o:Tr ab)(Δ:List (Nat×ab)):Tr ab:=Δ.foldl (fun f x=>f.set x.1 x.2) o
noncomputable def tp(env:Tr V)(dst:Option Tmp)(v:V):Tr V:=match dst with|some d=>env.set d v|none=>env
noncomputable def vH{β:Type}(o:Tr ab):List (Nat×ab)->(Tr ab->β)->β
 |[],c=>c o
 |(i,x)::Δ,c=>ab.fc x fun x=>o.XA i x fun o=>vH o Δ c
theorem nM{β:Type}:∀ (Δ:List (Nat×ab)) (o:Tr ab) (c:Tr ab->β),vH o Δ c=c (I0 o Δ)
 |[],o,c=>rfl
 |(i,x)::Δ,o,c=>by simp only[vH,ab.dg,Tr.GN,nM Δ];rfl
noncomputable def mB{β:Type}(env:Tr V)(dst:Option Tmp)(v:V)(c:Tr V->β):β:=match dst with|some d=>V.fck v fun v=>env.XA d v c|none=>c env
theorem j5{β:Type}(env:Tr V)(dst:Option Tmp)(v:V)(c:Tr V->β):mB env dst v c=c (tp env dst v):=by
 cases dst<;>simp only[mB,tp,V.Xz,Tr.GN]
theorem kF:∀ (Δ:List (Nat×ab)) (o:Tr ab),(I0 o Δ).get=put o.get Δ
 |[],_=>rfl
 |x::Δ,o=>by
  simp only[I0,put,List.foldl_cons]
  have:=kF Δ (o.set x.1 x.2)
  simp only[I0,put]at this
  rw[this,Tr.js]
theorem jV(env:Tr V)(dst:Option Tmp)(v:V):(tp env dst v).get=bt env.get dst v:=by
 cases dst<;>simp[tp,bt,Tr.js]
section XB
def TL(x:Operand)(_:Program)(s:S)(_:Nat):Option gN:=one (s.ev x)
def acP(c a b:Operand)(_:Program)(s:S)(_:Nat):Option gN:=lW (qF (s.ev c) (s.ev a) (s.ev b))
def XC(t:TypeId)(parts:Array (Nat×Operand))(P:Program)(s:S)(_:Nat):Option gN:=lW (se P t (parts.toList.map fun p=>(p.1,s.ev p.2)))
def C4(t:TypeId)(len:Nat)(parts:Array (Nat×Operand))(P:Program)(s:S)(fr:Nat):Option gN:=hU P s.o fr t len (parts.toList.map fun p=>(p.1,s.ev p.2))
def acQ(t:TypeId)(x:Operand)(P:Program)(s:S)(_:Nat):Option gN:=nB P s.o t (s.ev x)
def XE(t:TypeId)(x v:Operand)(P:Program)(s:S)(_:Nat):Option gN:=sd P s.o t (s.ev x) (s.ev v)
def afS(x:Operand)(_:Program)(s:S)(_:Nat):Option gN:=lW (jX s.o (s.ev x))
noncomputable def acR(op:BinOp):IntKind->Int->Int->Option V:=
 match op with
 | .add=>fun k a b=>some (.d (.int k (k.wrap (Int.add a b))))
 | .sub=>fun k a b=>some (.d (.int k (k.wrap (Int.sub a b))))
 | .mul=>fun k a b=>some (.d (.int k (k.wrap (Int.mul a b))))
 |op=>Cv op
theorem Qb(op:BinOp):acR op=Cv op:=by cases op<;>rfl
def asInt(x:V):Option (IntKind×Int):=match x with| .d (.int k a)=>some (k,a)|_=>none
def Mp(op:BinOp)(t:TypeId)(c:Bool)(x y:V)(P:Program)(o:Nat->ab):Option gN:=eP P o op t c x y
noncomputable def acS(op:BinOp)(t:TypeId)(x y:Operand)(P:Program)(s:S)(_:Nat):Option gN:=
 match asInt (s.ev x)with
 |some (k,a)=>match asInt (s.ev y)with
  |some (k',b)=>if k=k' then match acR op k a b with
   |some v=>some (v,[],[])
   |none=>Mp op t (isConst x||isConst y) (s.ev x) (s.ev y) P s.o
   else none
  |none=>Mp op t (isConst x||isConst y) (s.ev x) (s.ev y) P s.o
 |none=>Mp op t (isConst x||isConst y) (s.ev x) (s.ev y) P s.o
theorem C5{x:V}{k:IntKind}{a:Int}(h:asInt x=some (k,a)):x= .d (.int k a):=by
 unfold asInt at h;split at h
 ·injection h with h;cases h;rfl
 ·cases h
def Fc(t:TypeId)(x:Operand)(f:Nat)(P:Program)(s:S)(_:Nat):Option gN:=lW (jb P s.o t (s.ev x) f)
def Fe(t:TypeId)(x i:Operand)(P:Program)(s:S)(_:Nat):Option gN:=ja P s.o t (s.ev x) (s.ev i)
def XF(op:Op)(P:Program)(s:S)(fr:Nat):Option gN:=gQ P s fr op
noncomputable def Qc(op:Op):Program->S->Nat->Option gN:=
 match op with
 | .move x=>TL x
 | .assign x=>TL x
 | .pick c a b=>acP c a b
 | .build t parts=>XC t parts
 | .buildSlice t len parts=>C4 t len parts
 | .load t x=>acQ t x
 | .store t x v=>XE t x v
 | .nilCheck x=>afS x
 | .binOp op t x y _=>acS op t x y
 | .fieldAddr t x f=>Fc t x f
 | .indexAddr t x i=>Fe t x i
 |op=>XF op
theorem GO{op:Op}{P:Program}{s:S}{fr:Nat}{r:gN}(h:Qc op P s fr=some r):gQ P s fr op=some r:=by
 cases op
 case binOp op t x y yt=>
  simp only[Qc,acS,Qb]at h
  have e:gQ P s fr (.binOp op t x y yt)=eP P s.o op t (isConst x||isConst y) (s.ev x) (s.ev y):=rfl
  rw[e]
  split at h
  ·rename_i k a hx
   split at h
   ·rename_i k' b hy
    split at h
    ·rename_i hk
     split at h
     ·rename_i v hv
      unfold eP Aj
      simp only[C5 hx,C5 hy,if_pos hk,hv]
      exact h
     ·exact h
    ·cases h
   ·exact h
  ·exact h
 all_goals exact h
end XB
inductive FD where
 |fn (n:Nat) (ic:IC) (rs:List ResultVar)
 |dfr (n:Nat) (iW eS:IC) (g t:Nat) (fP:List Operand) (rs:List ResultVar) (m r r1:Nat) (yG:IC)
 |mpc
 |no
def FD.Ok (P:Program)(f:Nat):FD->Prop
 | .fn n ic rs=>aG P f n ic rs
 | .dfr n iW eS g t fP rs m r r1 yG=>GL P f n iW eS g t fP rs/\C0 P g m r r1 yG
 | .mpc=>TK P f
 | .no=>True
inductive CR where
 |ret (v:V) (o:Tr ab) (nx:Nat)|bP (v:V) (o:Tr ab) (nx:Nat)
def CR.to (K X:V->(Nat->ab)->Nat->Prop):CR->Prop
 | .ret v o nx=>K v o.get nx
 | .bP v o nx=>X v o.get nx
inductive RO where
 |ok (st:St)|bP (v:V) (st:St)
def RO.to (K:S->Prop)(X:V->S->Prop):RO->Prop
 | .ok st=>K st.S
 | .bP v st=>X v st.S
inductive eV where
 |r (x:R)|c (x:CR)
abbrev Kt:=fX->St->Option eV
abbrev dQ:=Nat->Bool->Nat->IC->St->Kt->Option eV
noncomputable def I1(P:Program)(rs:List ResultVar)(st:St)(kc:CR->Option eV):Option eV:=
 match mq P st.S rs with
 |some [v]=>kc (.ret v st.o st.nx)
 |some vs=>kc (.ret (.cg vs) st.o st.nx)
 |none=>none
noncomputable def TM(P:Program)(rs:List ResultVar)(kc:CR->Option eV):Kt:=fun e st=>
 match e with
 | .normal=>I1 P rs st kc
 | .ret=>I1 P rs st kc
 | .bP v=>kc (.bP v st.o st.nx)
 | .exit _=>none
noncomputable def Mq(P:Program)(rs:List ResultVar)(kc:CR->Option eV)(env:Tr V):Kt:=fun e s4=>
 match e with
 | .normal=>I1 P rs ⟨env,s4.o,s4.nx⟩ kc
 | .ret=>I1 P rs ⟨env,s4.o,s4.nx⟩ kc
 |_=>none
def acT:fX->Option V
 | .normal=>some (.d .fI)
 | .ret=>some (.d .fI)
 | .bP v=>some v
 | .exit _=>none
noncomputable def Mr(P:Program)(rec:dQ)(rs:List ResultVar)(aI:List V)(m r r1:Nat)(yG:IC)(kc:CR->Option eV):Kt:=fun e s3=>
 match acT e with
 |some u=>if aI.length<=m then rec s3.nx true m yG ⟨.e (aK (aK (cE aI) r u) r1 u),s3.o,s3.nx⟩ (Mq P rs kc s3.env)else none
 |none=>none
noncomputable def GP(P:Program)(rec:dQ)(n t:Nat)(eS:IC)(g:Nat)(fP:List Operand)(rs:List ResultVar)(m r r1:Nat)(yG:IC)(kc:CR->Option eV):Kt:=fun e s1=>
 match e with
 | .normal=>rec s1.nx false n eS ⟨s1.env.set t (.func (.func g) [] (fP.map s1.S.ev)),s1.o,s1.nx⟩ (Mr P rec rs (fP.map s1.S.ev) m r r1 yG kc)
 |_=>none
noncomputable def Ms(P:Program)(cf:Nat->FD)(rec:dQ)(g:Nat)(args:List V)(o:Tr ab)(nx:Nat)(kc:CR->Option eV):Option eV:=
 match cf g with
 | .fn n ic rs=>if args.length<=n then rec nx false n ic ⟨.e (cE args),o,nx⟩ (TM P rs kc)else none
 | .dfr n iW eS g t fP rs m r r1 yG=>if args.length<=n then rec nx true n iW ⟨.e (cE args),o,nx⟩ (GP P rec n t eS g fP rs m r r1 yG kc)else none
 | .mpc=>match args with
   |[.mp id]=>match o.get id with
    | .map kt vt l=>kc (.ret (.mp nx) (o.set nx (.map kt vt l)) (nx+1))
    |_=>none
   |_=>none
 | .no=>none
def vI:V->List V
 | .cg vs=>vs
 |v=>[v]
noncomputable def GQ(r:CR):Option R:=
 match r with
 | .ret v o _=>match v with
   | .cg [_]=>none
   |v=>match ct o.get (vI v)with
    |some rs=>some (.ret rs)
    |none=>none
 | .bP v o _=>match ew o.get v with
   |some x=>some (.bP x)
   |none=>none
noncomputable def rfc{β:Type}(x:R)(c:R->β):β:=match x with| .ret l=>D.vF l fun l=>c (.ret l)| .bP d=>D.fc d fun d=>c (.bP d)
theorem Ff{β:Type}(x:R)(c:R->β):rfc x c=c x:=by cases x<;>simp only[rfc,D.gf,D.dg]
noncomputable def C6(r:CR):Option eV:=match GQ r with|some x=>rfc x fun x=>some (.r x)|none=>none
theorem Mt{r:CR}{a:eV}(h:C6 r=some a):∃x,GQ r=some x/\a= .r x:=by
 unfold C6 at h
 split at h
 ·rename_i x hx;rw[Ff]at h;injection h with h;exact⟨x,hx,h.symm⟩
 ·cases h
def Mu(out:R)(o:Tr ab)(nx:Nat):CR:=
 match out with
 | .ret rs=> .ret (jR rs) o nx
 | .bP x=> .bP (.d x) o nx
structure qO (P:Program) where
 dat:Nat->Bool
 fx:Nat->List D->Option R
 ok:∀g ds out,fx g ds=some out->aR P g ds out
def Mv(l:List (Nat×List D×R))(g:Nat)(ds:List D):Option R:=
 match l with
 |[]=>none
 |x::l=>match Nat.beq x.1 g with
  |true=>match D.gX x.2.1 ds with
   |true=>some x.2.2
   |false=>Mv l g ds
  |false=>Mv l g ds
theorem AG{P:Program}:∀ {l:List (Nat×List D×R)},(∀x∈l,aR P x.1 x.2.1 x.2.2)->∀g ds out,Mv l g ds=some out->aR P g ds out
 |[],_,_,_,_,h=>by cases h
 |x::l,hl,g,ds,out,h=>by
  simp only[Mv]at h
  split at h
  ·rename_i hg
   split at h
   ·rename_i hd
    injection h with h
    have:=hl x ao
    rw[Nat.eq_of_beq_eq_true hg,D.dY _ _ hd,h]at this
    exact this
   ·exact AG (fun y hy=>hl y sV) g ds out h
  ·exact AG (fun y hy=>hl y sV) g ds out h
def qO.of {P:Program}(dat:Nat->Bool)(l:List (Nat×List D×R))(h:∀x∈l,aR P x.1 x.2.1 x.2.2):qO P:=⟨dat,Mv l,AG h⟩
noncomputable def Qd(P:Program)(cf:Nat->FD)(md:qO P)(rec:dQ)(g:Nat)(ds:List D):Option R:=
 match md.fx g ds with
 |some out=>some out
 |none=>match Ms P cf rec g (ds.map .d) (.e fun _=> .no) 0 C6 with
  |some (.r x)=>some x
  |_=>none
noncomputable def TN(out:R)(o:Tr ab)(nx:Nat)(args:List V)(kc:CR->Option eV):Option eV:=
 match out.flat with
 |true=>kc (Mu out o (nx+1))
 |false=>match out.nu with
  |true=>kc (Mu out (I0 o (rQ o.get (V.bD args))) (nx+1))
  |false=>kc (Mu out (I0 o (dk o.get (V.bD args))) (nx+1))
noncomputable def GR(P:Program)(cf:Nat->FD)(md:qO P)(rec:dQ)(g:Nat)(args:List V)(o:Tr ab)(nx:Nat)(kc:CR->Option eV):Option eV:=
 match md.dat g,ct o.get args with
 |true,some ds=>match Qd P cf md rec g ds with
  |some out=>TN out o nx args kc
  |none=>none
 |_,_=>Ms P cf rec g args o nx kc
noncomputable def Mw(id:Nat)(kc:CR->Option eV):Kt:=fun e s2=>
 match e with
 | .bP v=>kc (.bP v s2.o s2.nx)
 |e=>match s2.o.get id with
  | .loop nf m en p c d _ _=>match e with
    | .normal=>kc (.ret (.d (.bool true)) (s2.o.set id (.loop nf m en p c d .ready none)) s2.nx)
    | .ret=>kc (.ret (.d (.bool false)) (s2.o.set id (.loop nf m en p c d .done (some .ret))) s2.nx)
    | .exit j=>kc (.ret (.d (.bool false)) (s2.o.set id (.loop nf m en p c d .done (some (.exit j)))) s2.nx)
    | .bP _=>none
  |_=>none
noncomputable def GS(rec:dQ)(id nx n:Nat)(eS:IC)(kc:CR->Option eV):Kt:=fun e s1=>
 match e with
 | .normal=>match s1.o.get id with
   | .loop nf m en p c d .ready pd=>rec nx true n eS ⟨s1.env,s1.o.set id (.loop nf m en p c d .busy pd),s1.nx⟩ (Mw id kc)
   |_=>none
 | .bP v=>kc (.bP v s1.o s1.nx)
 |_=>none
noncomputable def XG(P:Program)(rec:dQ)(id:Nat)(args:List V)(o:Tr ab)(nx:Nat)(kc:CR->Option eV):Option eV:=
 match o.get id with
 | .loop nf n env ps iW eS _ _=>if nf=P.funcs.size/\id<nx/\ps.all (fun t=>decide (t<n))=true/\args.length=ps.length then
  rec nx true n iW ⟨.e (nG (bp env) ps args),o,nx⟩ (GS rec id nx n eS kc)
   else none
 |_=>none
noncomputable def yI(P:Program)(st:St)(o:ck)(kr:RO->Option eV):Option eV:=
 match Qc o.op P st.S st.nx with
 |some (v,Δ,_)=>mB st.env o.dst v fun e=>vH st.o Δ fun ob=>Nat.fc (st.nx+1) fun n=>kr (.ok ⟨e,ob,n⟩)
 |none=>none
noncomputable def crX(st:St)(dst:Option Nat)(kr:RO->Option eV)(c:CR):Option eV:=
 match c with
 | .ret v o nx=>mB st.env dst v fun e=>Nat.fc nx fun nx=>kr (.ok ⟨e,o,nx⟩)
 | .bP v o nx=>kr (.bP v ⟨st.env,o,nx⟩)
noncomputable def Mx(c:Call)(P:Program)(cf:Nat->FD)(md:qO P)(rec:dQ)(st:St)(o:ck)(kr:RO->Option eV):Option eV:=
 match c.callee with
 | .value f=>match st.S.ev f with
   | .func (.func g) first cap=>GR P cf md rec g (first++c.args.toList.map st.S.ev++cap) st.o st.nx (crX st o.dst kr)
   | .jW id=>XG P rec id (c.args.toList.map st.S.ev) st.o st.nx (crX st o.dst kr)
   |_=>none
 | .invoke r m=>match u5 P m (st.S.ev r)with
   |some (g,y)=>GR P cf md rec g (y::c.args.toList.map st.S.ev) st.o st.nx (crX st o.dst kr)
   |none=>none
 |_=>yI P st o kr
noncomputable def XH(x:Operand)(P:Program)(_:Nat->FD)(_:qO P)(_:dQ)(st:St)(_:ck)(kr:RO->Option eV):Option eV:=
 match st.S.ev x with
 | .d (.iface t y)=>kr (.bP (.d (.iface t y)) st)
 | .iface t y=>kr (.bP (.iface t y) st)
 |_=>none
noncomputable def acU(P:Program)(_:Nat->FD)(_:qO P)(_:dQ)(st:St)(o:ck)(kr:RO->Option eV):Option eV:=yI P st o kr
def R.same:R->R->Bool
 | .ret a, .ret b=>D.gX a b
 | .bP a, .bP b=>a.same b
 |_,_=>false
theorem R.eJ {x y:R}(h:x.same y=true):x=y:=by
 cases x<;>cases y<;>simp only[R.same,Bool.false_eq_true]at h
 ·rw[D.dY _ _ h]
 ·rw[D.eJ _ _ h]
noncomputable def brX(f:Nat->Option eV):Nat->Option eV
 |0=>none
 |n+1=>match n with
  |0=>f 0
  |n=>match brX f n with
   |some (.r a)=>match f n with
    |some (.r b)=>match R.same a b with
     |true=>some (.r a)
     |false=>none
    |_=>none
   |_=>none
theorem My{f:Nat->Option eV}{a:eV}:∀ {n:Nat},brX f n=some a->∀i,i<n->f i=some a
 |0,h,_,_=>by cases h
 |1,h,i,hi=>by obtain rfl:i=0:=ah
               exact h
 |n+2,h,i,hi=>by
  simp only[brX]at h
  split at h
  ·rename_i x hx
   split at h
   ·rename_i y hy
    split at h
    ·rename_i he
     have e:=R.eJ he
     subst e
     rw[<- h]
     by_cases e:i=n+1
     ·subst e;exact hy
     ·exact My hx i ah
    ·cases h
   ·cases h
  ·cases h
noncomputable def Qe(st:St)(dst:Option Nat)(kr:RO->Option eV)(v:V)(Δ:List (Nat×ab)):Option eV:=
 mB st.env dst v fun e=>vH st.o Δ fun ob=>Nat.fc (st.nx+1) fun n=>kr (.ok ⟨e,ob,n⟩)
noncomputable def Mz(x:Operand)(str:Bool)(P:Program)(_:Nat->FD)(_:qO P)(_:dQ)(st:St)(o:ck)(kr:RO->Option eV):Option eV:=
 match oZ st.o.get (st.S.ev x)with
 |some (id,l)=>match str with
  |true=>none
  |false=>match l with
   |[]=>Qe st o.dst kr (.cg [.d (.bool false)]) []
   |_=>brX (fun i=>match l[i]? with
    |some (k,x)=>Qe st o.dst kr (.cg [.d (.bool true), .d k, .d x]) [(id, .nh (l.eraseIdx i) (some (k,x)))]
    |none=>none) l.length
 |none=>yI P st o kr
noncomputable def opK(op:Op):(P:Program)->(Nat->FD)->qO P->dQ->St->ck->(RO->Option eV)->Option eV:=
 match op with
 | .call c=>Mx c
 | .panic x=>XH x
 | .next x str=>Mz x str
 |_=>acU
noncomputable def opX(P:Program)(cf:Nat->FD)(md:qO P)(rec:dQ)(st:St)(o:ck)(kr:RO->Option eV):Option eV:=opK o.op P cf md rec st o kr
noncomputable def roK(next:St->Option eV)(kr:RO->Option eV):RO->Option eV:=fun r=>match r with| .ok st=>next st| .bP v st=>kr (.bP v st)
noncomputable def AH(P:Program)(cf:Nat->FD)(md:qO P)(rec:dQ)(kr:RO->Option eV):List ck->St->Option eV
 |[],st=>kr (.ok st)
 |o::l,st=>match(match o.gd with
   |none=>some true
   |some (d,want)=>match st.env.get d with
    | .d (.bool b)=>some (b==want)
    | .cg []=>some false
    |_=>none)with
  |some true=>opX P cf md rec st o (roK (AH P cf md rec kr l) kr)
  |some false=>mB st.env o.dst (.cg []) fun e=>Nat.fc (st.nx+1) fun n=>AH P cf md rec kr l ⟨e,st.o,n⟩
  |none=>none
section
variable {P:Program}{cf:Nat->FD}{md:qO P}
noncomputable def e7(P:Program)(rec:dQ):Prop:=∀b rd n ic st k a,rec b rd n ic st k=some a->∀Q:fX->S->Prop,(∀e st',k e st'=some a->Q e st'.S)->uo P n b rd ic Q st.S
theorem uu{rs:List ResultVar}{st:St}{kc:CR->Option eV}{a:eV}(h:I1 P rs st kc=some a){K X:V->(Nat->ab)->Nat->Prop}(hr:∀r,kc r=some a->r.to K X):my P rs K X .ret st.S:=by
 unfold I1 at h
 unfold my
 split at h
 ·rename_i v hv;simp only[hv];exact hr _ h
 ·rename_i vs hv hn
  simp only[hn]
  exact hr _ h
 ·cases h
theorem nN(bB:P.follows .mixedOrders=true)(cP:∀g,(cf g).Ok P g){rec:dQ}(bL:e7 P rec){g:Nat}{args:List V}{o:Tr ab}{nx:Nat}{kc:CR->Option eV}{a:eV}(h:Ms P cf rec g args o nx kc=some a){K X:V->(Nat->ab)->Nat->Prop}(hr:∀r,kc r=some a->r.to K X):
 cK P g args o.get nx K X:=by
 have bn:=cP g
 unfold Ms at h
 split at h
 ·rename_i n ic rs ht
  rw[ht]at bn
  split at h
  ·rename_i hl
   refine cK.vu bB bn hl ?_
   refine bL _ _ _ _ _ _ _ h _ fun e st he=> ?_
   unfold TM at he
   cases e with
   |normal=>exact uu he hr
   |ret=>exact uu he hr
   |bP v=>exact hr _ he
   |exit j=>cases he
  ·cases h
 ·rename_i n iW eS g' t fP rs m r0 r1 yG ht
  rw[ht]at bn
  split at h
  ·rename_i hl
   refine cK.C3 bB bn.1 bn.2 hl (bL _ _ _ _ _ _ _ h _ fun e s1 he=> ?_)
   unfold GP at he
   cases e with
   |normal=>
    have hb:uo P n s1.nx false eS (AE P m r0 r1 yG (fP.map s1.S.ev) rs K X) ⟨aK s1.env.get t (.func (.func g') [] (fP.map s1.S.ev)),s1.o.get,s1.nx⟩:=by
     have:=bL _ _ _ _ _ _ _ he (AE P m r0 r1 yG (fP.map s1.S.ev) rs K X) (fun e s3 he3=>by
      unfold Mr at he3
      split at he3
      ·rename_i u hu
       split at he3
       ·rename_i p6
        have hrw:Fa P m r0 r1 yG (fP.map s1.S.ev) u s3.o.get s3.nx fun o nx=>my P rs K X .ret ⟨s3.env.get,o,nx⟩:=by
         refine⟨p6,bL _ _ _ _ _ _ _ he3 _ fun e4 s4 he4=> ?_⟩
         unfold Mq at he4
         cases e4 with
         |normal=>exact uu (st:=⟨s3.env,s4.o,s4.nx⟩) he4 hr
         |ret=>exact uu (st:=⟨s3.env,s4.o,s4.nx⟩) he4 hr
         |_=>cases he4
        cases e<;>simp only[acT,Option.some.injEq,reduceCtorEq]at hu<;>subst hu<;>exact hrw
       ·cases he3
      ·cases he3)
     simp only[St.S,Tr.js]at this
     exact this
    exact hb
   |_=>cases he
  ·cases h
 ·rename_i ht
  rw[ht]at bn
  split at h
  ·split at h
   ·rename_i kt vt l ho
    have h2:=hr _ h
    simp only[CR.to,Tr.js]at h2
    exact cK.Xx bn ho h2
   ·cases h
  ·cases h
 ·cases h
theorem MA{r:CR}{out:R}(ho:GQ r=some out):r.to (fun v o _=>∃vs rs,v=(match vs with|[v]=>v|vs=> .cg vs)/\ct o vs=some rs/\out= .ret rs) (fun v o _=>∃x,ew o v=some x/\out= .bP x):=by
 unfold GQ at ho
 split at ho
 ·rename_i v o nx
  split at ho
  ·cases ho
  ·rename_i hv
   split at ho
   ·rename_i rs hrs
    injection ho with ho;subst ho
    refine⟨vI v,rs, ?_,hrs,rfl⟩
    cases v with
    |cg vs=>
     match vs,hv with
     |[],_=>rfl
     |[x],hv=>exact absurd rfl (hv x)
     |_::_::_,_=>rfl
    |_=>rfl
   ·cases ho
 ·split at ho
  ·rename_i x hx
   injection ho with ho;subst ho
   exact⟨x,hx,rfl⟩
  ·cases ho
theorem C7(bB:P.follows .mixedOrders=true)(cP:∀g,(cf g).Ok P g){rec:dQ}(bL:e7 P rec){g:Nat}{ds:List D}{out:R}(h:Ms P cf rec g (ds.map .d) (.e fun _=> .no) 0 C6=some (.r out)):aR P g ds out:=by
 refine aR.mz (nN bB cP bL h fun r hr=> ?_)
 obtain⟨x,hx,he⟩:=Mt hr
 injection he with he;subst he
 exact MA hx
theorem AJ(bB:P.follows .mixedOrders=true)(cP:∀g,(cf g).Ok P g){rec:dQ}(bL:e7 P rec){g:Nat}{ds:List D}{out:R}(h:Qd P cf md rec g ds=some out):aR P g ds out:=by
 unfold Qd at h
 split at h
 ·rename_i ahq ho
  injection h with h;subst h
  exact md.ok _ _ _ ho
 ·split at h
  ·rename_i x hr;injection h with h;subst h;exact C7 bB cP bL hr
  ·cases h
theorem C8(bB:P.follows .mixedOrders=true)(cP:∀g,(cf g).Ok P g){rec:dQ}(bL:e7 P rec){g:Nat}{args:List V}{o:Tr ab}{nx:Nat}{kc:CR->Option eV}{a:eV}(h:GR P cf md rec g args o nx kc=some a){K X:V->(Nat->ab)->Nat->Prop}(hr:∀r,kc r=some a->r.to K X):
 Tb P g args o.get nx K X:=by
 unfold GR at h
 split at h
 ·rename_i ds hmd fG
  split at h
  ·rename_i out MB
   have hP:=AJ bB cP bL MB
   refine .inl ⟨ds,fG,out,hP, ?_⟩
   unfold TN at h
   split at h
   ·rename_i hf
    refine .inr (.inl ⟨hf, ?_⟩)
    cases out<;>exact hr _ h
   ·split at h
    ·rename_i hf
     refine .inr (.inr ⟨hf, ?_⟩)
     rw[<- kF]
     cases out<;>exact hr _ h
    ·refine .inl ?_
     rw[<- kF]
     cases out<;>exact hr _ h
  ·cases h
 ·exact .inr (nN bB cP bL h hr)
theorem Qf(bB:P.follows .mixedOrders=true){rec:dQ}(bL:e7 P rec){id:Nat}{args:List V}{o:Tr ab}{nx:Nat}{kc:CR->Option eV}{a:eV}(h:XG P rec id args o nx kc=some a){K X:V->(Nat->ab)->Nat->Prop}(hr:∀r,kc r=some a->r.to K X):
 eh P id args o.get nx K X:=by
 unfold XG at h
 split at h
 ·rename_i nf n env ps iW eS st pd ho
  split at h
  ·rename_i hc
   obtain⟨rfl,cM,E9,hl⟩:=hc
   refine eh.vu bB ho cM E9 hl ?_
   refine bL _ _ _ _ _ _ _ h _ fun e s1 he=> ?_
   unfold GS at he
   cases e with
   |normal=>
    simp only at he
    split at he
    ·rename_i nf m en p c d pd p7
     refine⟨nf,m,en,p,c,d,pd,p7, ?_⟩
     have:=bL _ _ _ _ _ _ _ he (jL id K X) (fun e s2 h2=>by
      unfold Mw at h2
      split at h2
      ·exact hr _ h2
      ·rename_i S5
       split at h2
       ·rename_i nf' m' en' p' c' d' st' pd' XI
        cases e with
        |bP v=>cases h2
        |normal=>have h3:=hr _ h2;simp only[CR.to,Tr.js]at h3;exact⟨nf',m',en',p',c',d',st',pd',XI,h3⟩
        |ret=>have h3:=hr _ h2;simp only[CR.to,Tr.js]at h3;exact⟨nf',m',en',p',c',d',st',pd',XI,h3⟩
        |exit j=>have h3:=hr _ h2;simp only[CR.to,Tr.js]at h3;exact⟨nf',m',en',p',c',d',st',pd',XI,h3⟩
       ·cases h2)
     simp only[St.S,Tr.js]at this
     exact this
    ·cases he
   |bP v=>exact hr _ he
   |_=>cases he
  ·cases h
 ·cases h
theorem vJ{st:St}{o:ck}{kr:RO->Option eV}{a:eV}(h:yI P st o kr=some a){K:S->Prop}{X:V->S->Prop}(hr:∀r,kr r=some a->r.to K X):match gQ P st.S st.S.nx o.op with
 |some (v,Δ,_)=>K ⟨bt st.S.env o.dst v,put st.S.o Δ,st.S.nx+1⟩
 |none=>False:=by
 unfold yI at h
 split at h
 ·rename_i v Δ rd he
  have he:=GO he
  simp only[j5,nM,Nat.dg]at h
  have hr:=hr _ h
  simp only[RO.to,St.S,jV,kF]at hr
  have pZ:gQ P st.S st.S.nx o.op=some (v,Δ,rd):=he
  simp only[pZ]
  exact hr
 ·cases h
theorem GU{st:St}{dst:Option Nat}{kr:RO->Option eV}{v:V}{Δ:List (Nat×ab)}{a:eV}(h:Qe st dst kr v Δ=some a){K:S->Prop}{X:V->S->Prop}(hr:∀r,kr r=some a->r.to K X):K ⟨bt st.S.env dst v,put st.S.o Δ,st.S.nx+1⟩:=by
 unfold Qe at h
 simp only[j5,nM,Nat.dg]at h
 have hr:=hr _ h
 simp only[RO.to,St.S,jV,kF]at hr
 exact hr
theorem XJ(bB:P.follows .mixedOrders=true)(cP:∀g,(cf g).Ok P g){rec:dQ}(bL:e7 P rec){st:St}{o:ck}{kr:RO->Option eV}{a:eV}(h:opX P cf md rec st o kr=some a){K:S->Prop}{X:V->S->Prop}(hr:∀r,kr r=some a->r.to K X):J9 P st.S o X K:=by
 have cr:∀r,crX st o.dst kr r=some a->r.to (fun v o' nx'=>K ⟨bt st.S.env o.dst v,o',nx'⟩) (fun v o' nx'=>X v ⟨st.S.env,o',nx'⟩):=by
  intro r hx
  unfold crX at hx
  split at hx
  ·simp only[j5,Nat.dg]at hx
   have hr:=hr _ hx
   simp only[RO.to,St.S,jV]at hr
   exact hr
  ·exact hr _ hx
 unfold opX at h
 unfold J9
 cases fl:o.op
 case call c=>
  rw[fl]at h
  have h:Mx c P cf md rec st o kr=some a:=h
  unfold Mx at h
  cases hf:c.callee
  case value f=>
   simp only[hf]at h|-
   split at h
   ·rename_i g first cap hv
    simp only[hv]
    have:=C8 bB cP bL h cr
    rcases this with⟨ds,fG,hP⟩|hC
    ·have XK:ct st.S.o (first++List.map st.S.ev c.args.toList++cap)=some ds:=fG
     simp only[XK]
     exact .inl hP
    ·split
     ·exact .inr (.inl hC)
     ·exact .inl hC
   ·rename_i id hv
    simp only[hv]
    exact Qf bB bL h cr
   ·cases h
  case invoke r m=>
   simp only[hf]at h|-
   split at h
   ·rename_i g y hv
    simp only[hv]
    exact C8 bB cP bL h cr
   ·cases h
  all_goals
   simp only[hf]at h|-
   have:=vJ h hr
   rw[fl]at this
   exact this
 case panic x=>
  rw[fl]at h
  have h:XH x P cf md rec st o kr=some a:=h
  unfold XH at h
  split at h
  ·rename_i hv;simp only[hv];exact hr _ h
  ·rename_i hv;simp only[hv];exact hr _ h
  ·cases h
 case next x str=>
  rw[fl]at h
  have h:Mz x str P cf md rec st o kr=some a:=h
  unfold Mz at h
  have hl:oZ st.S.o (st.S.ev x)=oZ st.o.get (st.S.ev x):=rfl
  simp only[hl]
  split at h
  ·rename_i id l aC
   simp only[aC]
   cases str with
   |true=>cases h
   |false=>
    refine⟨rfl,fun e=> ?_,fun i k y e=> ?_⟩
    ·subst e
     exact GU h hr
    ·cases l with
     |nil=>simp at e
     |cons p l=>
      have:=My h i (List.getElem?_eq_some_iff.1 e).1
      rw[e]at this
      exact GU this hr
  ·rename_i aC
   simp only[aC]
   have:=vJ h hr
   rw[fl]at this
   exact this
 all_goals
  have h2:yI P st o kr=some a:=by rw[fl]at h;exact h
  have:=vJ h2 hr
  rw[fl]at this
  exact this
theorem uv(bB:P.follows .mixedOrders=true)(cP:∀g,(cf g).Ok P g){rec:dQ}(bL:e7 P rec){kr:RO->Option eV}{a:eV}{K:S->Prop}{X:V->S->Prop}(hr:∀r,kr r=some a->r.to K X):∀ (l:List ck) (st:St),AH P cf md rec kr l st=some a->pH P X K l st.S
 |[],st,h=>hr (.ok st) h
 |o::l,st,h=>by
  simp only[AH,j5,Nat.dg]at h
  simp only[pH]
  have op:opX P cf md rec st o (roK (AH P cf md rec kr l) kr)=some a->J9 P st.S o X (pH P X K l):=by
   intro h
   refine XJ bB cP bL h fun r hrr=> ?_
   cases r with
   |ok XL=>exact uv bB cP bL hr l XL hrr
   |bP v XL=>exact hr (.bP v XL) hrr
  have sk:AH P cf md rec kr l ⟨tp st.env o.dst (.cg []),st.o,st.nx+1⟩=some a->pH P X K l ⟨bt st.S.env o.dst (.cg []),st.S.o,st.S.nx+1⟩:=by
   intro h
   have:=uv bB cP bL hr l _ h
   exact La
  cases hg:o.gd with
  |none=>simp only[hg]at h;exact op h
  |some p=>
   obtain⟨d,want⟩:=p
   simp only[hg]at h
   have he:st.S.env d=st.env.get d:=rfl
   simp only[he]
   cases hv:st.env.get d with
   |d x=>
    cases x with
    |bool b=>
     simp only[hv]at h|-
     by_cases e:b=want
     ·subst e
      simp only[beq_self_eq_true]at h
      rw[if_pos rfl];exact op h
     ·have:(b==want)=false:=by simpa using e
      rw[this]at h
      rw[if_neg e];exact sk h
    |_=>simp[hv]at h
   |cg vs=>
    cases vs with
    |nil=>simp only[hv]at h|-;exact sk h
    |cons a cw=>simp[hv]at h
   |_=>simp[hv]at h
end
end
section
mutual
def V.same:V->V->Bool
 | .d x, .d y=>x.same y
 | .br, .br=>true
 | .aa, .aa=>true
 | .agg a, .agg b=>V.gX a b
 | .ptr i o, .ptr j p=>Nat.beq i j&&Nat.beq o p
 | .osl i o, .osl j p=>Nat.beq i j&&Nat.beq o p
 | .rF a, .rF b=>D.gX a b
 | .iface t x, .iface u y=>Nat.beq t u&&x.same y
 | .mp i, .mp j=>Nat.beq i j
 |_,_=>false
def V.gX:List V->List V->Bool
 |[],[]=>true
 |a::cw,b::bs=>a.same b&&V.gX cw bs
 |_,_=>false
end
mutual
theorem V.eJ:∀ (x y:V),x.same y=true->x=y
 | .d x,y,h=>by cases y<;>simp only[V.same,Bool.false_eq_true]at h;rw[D.eJ _ _ h]
 | .br,y,h=>by cases y<;>simp_all[V.same]
 | .aa,y,h=>by cases y<;>simp_all[V.same]
 | .agg a,y,h=>by cases y<;>simp only[V.same,Bool.false_eq_true]at h;rw[V.dY _ _ h]
 | .ptr i o,y,h=>by
   exact R4
 | .osl i o,y,h=>by
   exact R4
 | .rF a,y,h=>by cases y<;>simp only[V.same,Bool.false_eq_true]at h;rw[D.dY _ _ h]
 | .iface t x,y,h=>by
   cases y<;>simp only[V.same,Bool.false_eq_true,Bool.and_eq_true]at h
   rw[Nat.eq_of_beq_eq_true h.1,V.eJ _ _ h.2]
 | .mp i,y,h=>by
   cases y<;>simp only[V.same,Bool.false_eq_true]at h
   rw[Nat.eq_of_beq_eq_true h]
 | .cg _,y,h| .pe _ _ _ _ _,y,h| .pp _ _,y,h| .func _ _ _,y,h| .xR _ _ _,y,h| .fq,y,h| .jW _,y,h=>by simp[V.same]at h
theorem V.dY:∀ (x y:List V),V.gX x y=true->x=y
 |[],y,h=>by cases y<;>simp_all[V.gX]
 |a::cw,y,h=>by
  cases y<;>simp only[V.gX,Bool.false_eq_true,Bool.and_eq_true]at h
  rw[V.eJ _ _ h.1,V.dY _ _ h.2]
end
def vK:List (D×D)->List (D×D)->Bool
 |[],[]=>true
 |(a,b)::l,(c,d)::m=>a.same c&&(b.same d&&vK l m)
 |_,_=>false
theorem vL:∀ (l m:List (D×D)),vK l m=true->l=m
 |[],m,h=>by cases m<;>simp_all[vK]
 |(a,b)::l,m,h=>by
  cases m with
  |nil=>simp[vK]at h
  |cons p m=>
   obtain⟨c,d⟩:=p
   simp only[vK,Bool.and_eq_true]at h
   rw[D.eJ _ _ h.1,D.eJ _ _ h.2.1,vL l m h.2.2]
noncomputable def ab.same:ab->ab->Bool
 | .no, .no=>true
 | .row a, .row b=>V.gX a b
 | .arr e t s a, .arr f u r b=>Nat.beq e f&&Nat.beq t u&&Nat.beq s r&&D.gX a b
 | .qg e a, .qg f b=>Nat.beq e f&&D.gX a b
 | .map k v a, .map k' v' b=>Nat.beq k k'&&Nat.beq v v'&&vK a b
 | .iV a, .iV b=>vK a b
 | .zS a i, .zS b j=>a==b&&Nat.beq i j
 |_,_=>false
theorem ab.eJ {x y:ab}(h:x.same y=true):x=y:=by
 cases x<;>cases y<;>simp only[ab.same,Bool.false_eq_true,Bool.and_eq_true]at h
 ·rfl
 ·rw[V.dY _ _ h]
 ·rw[Nat.eq_of_beq_eq_true h.1.1.1,Nat.eq_of_beq_eq_true h.1.1.2,Nat.eq_of_beq_eq_true h.1.2,D.dY _ _ h.2]
 ·rw[Nat.eq_of_beq_eq_true h.1,D.dY _ _ h.2]
 ·rw[Nat.eq_of_beq_eq_true h.1.1,Nat.eq_of_beq_eq_true h.1.2,vL _ _ h.2]
 ·rw[vL _ _ h]
 ·rw[eq_of_beq h.1,Nat.eq_of_beq_eq_true h.2]
noncomputable def reach(o:Nat->ab):Nat->List Nat->List Nat->List Nat
 |0,_,seen=>seen
 |_+1,[],seen=>seen
 |n+1,id::todo,seen=>match seen.contains id with
  |true=>reach o n todo seen
  |false=>reach o n ((o id).refs++todo) (id::seen)
noncomputable def fh(o o1:Nat->ab):List Nat->List (Nat×ab)
 |[]=>[]
 |id::l=>match(o id).same (o1 id)with
  |true=>fh o o1 l
  |false=>(id,o1 id)::fh o o1 l
theorem jC{o o1:Nat->ab}:∀ (l:List Nat) (x:Nat×ab),x∈fh o o1 l->x.1∈l/\x.2=o1 x.1
 |[],x,h=>by simp[fh]at h
 |id::l,x,h=>by
  simp only[fh]at h
  split at h
  ·obtain⟨h1,h2⟩:=jC l x h;exact⟨List.mem_cons_of_mem _ h1,h2⟩
  ·rcases List.mem_cons.1 h with rfl|h
   ·exact⟨ao,rfl⟩
   ·obtain⟨h1,h2⟩:=jC l x h;exact⟨List.mem_cons_of_mem _ h1,h2⟩
theorem nO{o o1:Nat->ab}:∀ (l:List Nat) (id:Nat),id∈l->id∉(fh o o1 l).map (·.1)->o1 id=o id
 |[],id,h,_=>by simp at h
 |j::l,id,h,hn=>by
  simp only[fh]at hn
  split at hn
  ·rename_i hs
   rcases List.mem_cons.1 h with rfl|h
   ·exact(ab.eJ hs).symm
   ·exact nO l id h hn
  ·simp only[List.map_cons,List.mem_cons,not_or]at hn
   rcases List.mem_cons.1 h with rfl|h
   ·exact absurd rfl hn.1
   ·exact nO l id h hn.2
theorem C9{o1:Nat->ab}:∀ (Δ:List (Nat×ab)) (o:Nat->ab),(∀x∈Δ,x.2=o1 x.1)->∀id,id∈Δ.map (·.1)\/o id=o1 id->put o Δ id=o1 id
 |[],o,_,id,h=>by rcases h with h|h;· simp at h
                  ·exact h
 |x::Δ,o,hv,id,h=>by
  simp only[put,List.foldl_cons]
  refine C9 Δ (aK o x.1 x.2) (fun y hy=>hv y (List.mem_cons_of_mem _ hy)) id ?_
  simp only[List.map_cons,List.mem_cons]at h
  simp only[aQ]
  by_cases e:id=x.1
  ·right;rw[if_pos e,hv x (by simp),e]
  ·rcases h with(h|h)|h
   ·exact absurd h e
   ·exact .inl h
   ·right;rw[if_neg e];exact h
theorem tq{o o1:Nat->ab}{l:List Nat}{id:Nat}(h:id∈l):o1 id=put o (fh o o1 l) id:=by
 by_cases hm:id∈(fh o o1 l).map (·.1)
 ·exact(C9 _ o (fun x hx=>(jC l x hx).2) id (.inl hm)).symm
 ·rw[hZ hm];exact nO l id h hm
inductive DR where
 |val (v:V) (Δ:List (Nat×ab)) (rd:List Nat)|bP (v:V) (ws rd:List Nat)
def DR.to (K:V->List (Nat×ab)->List Nat->Prop)(KX:V->List Nat->List Nat->Prop):DR->Prop
 | .val v Δ rd=>K v Δ rd
 | .bP v ws rd=>KX v ws rd
noncomputable def crA(c:CR):Option eV:=some (.c c)
noncomputable def hX(P:Program)(cf:Nat->FD)(rec:dQ)(g:Nat)(args:List V)(st:St):Option DR:=
 let rd:=reach st.o.get 2000 (V.aL args) []
 match rd.all (fun id=>Nat.blt id st.nx&&(st.o.get id).refs.all rd.contains)&&(V.aL args).all rd.contains with
 |true=>match Ms P cf rec g args (.e (EX rd st.o.get)) st.nx crA with
  |some (.c (.ret v o1 _))=>match v with
   | .cg [_]=>none
   |v=>match ct o1.get (vI v)with
    |some rs=>match(fh st.o.get o1.get rd).all (fun x=>x.2.refs.all rd.contains)&&(V.bD (vI v)).all (fun id=> !rd.contains id)with
     |true=>some (.val (jR rs) (fh st.o.get o1.get rd) rd)
     |false=>none
    |none=>none
  |some (.c (.bP v o1 _))=>match ew o1.get v with
   |some x=>match(fh st.o.get o1.get rd).all (fun x=>x.2.refs.all rd.contains)&&v.ids.all (fun id=> !rd.contains id)with
    |true=>some (.bP (.d x) ((fh st.o.get o1.get rd).map (·.1)) rd)
    |false=>none
   |none=>none
  |_=>none
 |false=>none
noncomputable def cDX(P:Program)(cf:Nat->FD)(md:qO P)(rec:dQ)(g:Nat)(args:List V)(st:St)(rd:List Nat):Option DR:=
 match ct st.o.get args with
 |some ds=>match md.dat g with
  |false=>match Ms P cf rec g (ds.map .d) (.e fun _=> .no) 0 crA with
   |some (.c (.ret v _ _))=>match v.refs with
    |[]=>some (.val v (dk st.o.get (V.bD args)) rd)
    |_=>none
   |_=>none
  |true=>match Qd P cf md rec g ds with
   |some (.ret rs)=>match D.ku rs with
    |true=>some (.val (jR rs) [] rd)
    |false=>some (.val (jR rs) (dk st.o.get (V.bD args)) rd)
   |some (.bP x)=>match x.flat with
    |true=>some (.bP (.d x) [] rd)
    |false=>none
   |none=>none
 |none=>hX P cf rec g args st
noncomputable def sDX(P:Program)(st:St)(fr:Nat)(op:Op):Option DR:=
 match Qc op P st.S fr with
 |some (v,Δ,_)=>some (.val v Δ (oS st.S op))
 |none=>none
def V.afT:V->Bool
 | .mp _=>true
 |_=>false
def XM{P:Program}(md:qO P)(g:Nat)(args:List V):Bool:= !md.dat g&&args.any V.afT
def yJ(args:List V):Option (List D):=
 match V.bD args with
 |[]=>ct (fun _=> .no) args
 |_=>none
noncomputable def Qg(P:Program)(t:TypeId)(c:CR):Option eV:=
 match c with
 | .ret v o1 _=>match v with
   | .osl j ep=>match o1.get j with
     | .arr jx ty sz es=>match Nat.beq jx ep with
       |true=>rfc (.ret [.sl es, .int .i64 (ty:Nat), .int .i64 (sz:Nat)]) fun x=>some (.r x)
       |false=>none
     |_=>none
   | .br=>match cC P t with
     |some e=>match Nat.blt 0 (P.cellsOf e)with
      |true=>rfc (.ret [.sl [], .int .i64 (e:Nat), .int .i64 (P.cellsOf e:Nat)]) fun x=>some (.r x)
      |false=>none
     |none=>none
   |_=>none
 |_=>none
noncomputable def XN(P:Program)(cf:Nat->FD)(rec:dQ)(g:Nat)(t:TypeId)(args:List V)(st:St)(fr:Nat):Option DR:=
 match yJ args with
 |some ds=>match Ms P cf rec g (ds.map .d) (.e fun _=> .no) 0 (Qg P t)with
  |some (.r (.ret [.sl es, .int .i64 (.ofNat ty), .int .i64 (.ofNat sz)]))=>some (.val (.osl fr 0) [(fr, .arr 0 ty sz es)] [])
  |_=>none
 |none=>match ct st.o.get args with
  |some ds=>match Ms P cf rec g (ds.map .d) (.e fun _=> .no) 0 (Qg P t)with
   |some (.r (.ret [.sl es, .int .i64 (.ofNat ty), .int .i64 (.ofNat sz)]))=>match D.ku es&&(V.bD args).all (fun id=>Nat.blt id st.nx)with
    |true=>some (.val (.osl fr 0) [(fr, .arr 0 ty sz es)] (V.bD args))
    |false=>none
   |_=>none
  |none=>none
noncomputable def Qh(P:Program)(cf:Nat->FD)(md:qO P)(rec:dQ)(st:St)(fr:Nat)(op:Op):Option DR:=
 match op with
 | .call c=>match c.callee with
   | .value f=>match st.S.ev f with
     | .func (.func g) first cap=>match XM md g (first++c.args.toList.map st.S.ev++cap)with
       |true=>hX P cf rec g (first++c.args.toList.map st.S.ev++cap) st
       |false=>match cDX P cf md rec g (first++c.args.toList.map st.S.ev++cap) st (oS st.S (.call c))with
        |some r=>some r
        |none=>XN P cf rec g (c.argTypes.getD 0 0) (first++c.args.toList.map st.S.ev++cap) st fr
     |_=>none
   |_=>sDX P st fr (.call c)
 |op=>sDX P st fr op
noncomputable def gdX(st:St):Option (Nat×Bool)->Option Bool
 |none=>some true
 |some (d,want)=>match st.env.get d with
  | .d (.bool b)=>some (b==want)
  | .cg []=>some false
  |_=>none
noncomputable def vM(P:Program)(cf:Nat->FD)(md:qO P)(rec:dQ)(pr:List (List Nat)):List ck->Nat->St->Fp->List Nat->List Nat->Option (List Nat×Fp)
 |[],_,_,fp,_,ws=>some (ws,fp)
 |o::l,fr,st,fp,bad,ws=>match(pr.getD fp.length []).any (fun j=>bad.contains j)with
  |true=>vM P cf md rec pr l (fr+1) ⟨tp st.env o.dst .aa,st.o,st.nx⟩ (fp++[([],[])]) (bad++[fp.length]) ws
  |false=>match gdX st o.gd with
   |some true=>match Qh P cf md rec st fr o.op with
    |some (.val v Δ rd)=>mB st.env o.dst v fun e=>vH st.o Δ fun ob=>vM P cf md rec pr l (fr+1) ⟨e,ob,st.nx⟩ (fp++[(rd,Δ.map (·.1))]) bad (ws++Δ.map (·.1))
    |_=>none
   |some false=>vM P cf md rec pr l (fr+1) ⟨tp st.env o.dst (.cg []),st.o,st.nx⟩ (fp++[([],[])]) bad ws
   |none=>none
inductive DQ where
 |fin (st:St) (fp:Fp)|bP (v:V) (wl:List Nat) (fp:Fp)
noncomputable def vN(P:Program)(cf:Nat->FD)(md:qO P)(rec:dQ)(pr:List (List Nat)):List ck->Nat->St->Fp->Option DQ
 |[],_,st,fp=>some (.fin st fp)
 |o::l,fr,st,fp=>match gdX st o.gd with
  |some true=>match Qh P cf md rec st fr o.op with
   |some (.val v Δ rd)=>mB st.env o.dst v fun e=>vH st.o Δ fun ob=>Nat.fc (fr+1) fun fr=>vN P cf md rec pr l fr ⟨e,ob,st.nx⟩ (fp++[(rd,Δ.map (·.1))])
   |some (.bP v ws rd)=>match vM P cf md rec pr l (fr+1) ⟨tp st.env o.dst .aa,st.o,st.nx⟩ (fp++[(rd,[])]) [fp.length] (ws++fp.flatMap (·.2))with
    |some (wl,fp)=>some (.bP v wl fp)
    |none=>none
   |none=>none
  |some false=>mB st.env o.dst (.cg []) fun e=>Nat.fc (fr+1) fun fr=>vN P cf md rec pr l fr ⟨e,st.o,st.nx⟩ (fp++[([],[])])
  |none=>none
noncomputable def quiet(fp:Fp):Bool:=fp.all fun x=>match x.2 with|[]=>true|_=>false
noncomputable def AK(m:Nat)(x:List Nat×List Nat):Nat->Fp->Bool
 |_,[]=>true
 |i,y::l=>(match y.2,x.2 with
  |[],[]=>true
  |_,_=>m.testBit i||(ng y.2 x.1&&ng y.2 x.2&&ng x.2 y.1))&&AK m x (i+1) l
noncomputable def GV(ms:List Nat)(pre:Fp):Nat->Fp->Bool
 |_,[]=>true
 |j,x::l=>AK (ms.getD j 0) x 0 pre&&GV ms (pre++[x]) (j+1) l
noncomputable def nfc{β:Type}:List Nat->(List Nat->β)->β
 |[],c=>c []
 |x::xs,c=>Nat.fc x fun x=>nfc xs fun xs=>c (x::xs)
theorem MC{β:Type}:∀ (x:List Nat) (c:List Nat->β),nfc x c=c x
 |[],c=>rfl
 |x::xs,c=>by simp only[nfc,Nat.dg,MC xs]
noncomputable def Qi{β:Type}:Fp->(Fp->β)->β
 |[],c=>c []
 |(a,b)::l,c=>nfc a fun a=>nfc b fun b=>Qi l fun l=>c ((a,b)::l)
theorem GW{β:Type}:∀ (x:Fp) (c:Fp->β),Qi x c=c x
 |[],c=>rfl
 |(a,b)::l,c=>by simp only[Qi,MC,GW l]
noncomputable def MD(pr:List (List Nat))(fp:Fp):Bool:=match quiet fp with|true=>true|false=>Qi fp fun fp=>GV (eR pr []) [] 0 fp
theorem yK{m:Nat}{x:List Nat×List Nat}:∀ (l:Fp) (i:Nat),AK m x i l=true->∀k,k<l.length->(m.testBit (i+k)||(ng (l.getD k ([],[])).2 x.1&&ng (l.getD k ([],[])).2 x.2&&ng x.2 (l.getD k ([],[])).1))=true
 |[],i,_,k,hk=>by simp at hk
 |y::l,i,h,k,hk=>by
  simp only[AK,Bool.and_eq_true]at h
  cases k with
  |zero=>
   have h1:=h.1
   simp only[List.getD_cons_zero,Nat.add_zero]
   split at h1
   ·rename_i e1 e2
    rw[e1,e2];simp[ng]
   ·exact h1
  |succ k=>
   have:=yK l (i+1) h.2 k (by simpa using hk)
   rw[List.getD_cons_succ,show i+(k+1)=i+1+k by omega]
   exact this
theorem Da{ms:List Nat}:∀ (l pre:Fp),GV ms pre pre.length l=true->∀j,pre.length<=j->j<(pre++l).length->∀i,i<j->
 ((ms.getD j 0).testBit i||(ng ((pre++l).getD i ([],[])).2 ((pre++l).getD j ([],[])).1&&ng ((pre++l).getD i ([],[])).2 ((pre++l).getD j ([],[])).2&&ng ((pre++l).getD j ([],[])).2 ((pre++l).getD i ([],[])).1))=true
 |[],pre,_,j,h1,h2,i,_=>by simp at h2;omega
 |x::l,pre,h,j,h1,h2,i,hi=>by
  simp only[GV,Bool.and_eq_true]at h
  by_cases e:j=pre.length
  ·subst e
   have:=yK pre 0 h.1 i hi
   have e1:(pre++x::l).getD pre.length ([],[])=x:=by simp[List.getD_eq_getElem?_getD]
   have e2:(pre++x::l).getD i ([],[])=pre.getD i ([],[]):=by simp[List.getD_eq_getElem?_getD,List.getElem?_append_left hi]
   rw[e1,e2]
   simpa using this
  ·have h3:=h.2
   have:=Da l (pre++[x]) (by simpa using h3) j qb qa i hi
   simpa using this
noncomputable def XO(P:Program)(cf:Nat->FD)(md:qO P)(rec:dQ)(l:List ck)(pr:List (List Nat))(st:St):Option (fX×St):=
 match vN P cf md rec pr l st.nx st []with
 |some (.fin s1 fp)=>match MD pr fp with
  |true=>Nat.fc (st.nx+l.length) fun n=>some (.normal,⟨s1.env,s1.o,n⟩)
  |false=>none
 |some (.bP v wl fp)=>match MD pr fp with
  |true=>some (.bP v,⟨.e (rJ (dstsOf l) wl l.length st.S).env, .e (rJ (dstsOf l) wl l.length st.S).o,st.nx+l.length⟩)
  |false=>none
 |none=>none
noncomputable def acV(id:Nat)(env:Tr V)(kt:Kt)(c:CR):Option eV:=
 match c with
 | .ret _ o1 Bu=>match o1.get id with
   | .loop nf m e p c d lst pd=>match lst with
     | .busy=>none
     |_=>match pd with
      |none=>kt .normal ⟨env,o1.set id (.loop nf m e p c d .exhausted pd),Bu⟩
      |some .ret=>kt .ret ⟨env,o1.set id (.loop nf m e p c d .exhausted pd),Bu⟩
      |some (.exit j)=>kt (.exit j) ⟨env,o1.set id (.loop nf m e p c d .exhausted pd),Bu⟩
   |_=>none
 | .bP v o1 Bu=>kt (.bP v) ⟨env,o1,Bu⟩
noncomputable def Qj(P:Program)(cf:Nat->FD)(rec:dQ)(n:Nat)(g:Operand)(ps:List Nat)(x y:IC)(st:St)(kt:Kt):Option eV:=
 match st.S.ev g with
 | .func (.func f) first cap=>Ms P cf rec f (first++[.jW st.nx]++cap) (st.o.set st.nx (.loop P.funcs.size n ((List.range n).map st.env.get) ps x y .ready none)) (st.nx+1) (acV st.nx st.env kt)
 |_=>none
abbrev o9:=(P:Program)->(Nat->FD)->qO P->dQ->Nat->Bool->Nat->St->Kt->Option eV
noncomputable def roX(kt:Kt):RO->Option eV:=fun r=>match r with| .ok st=>kt .normal st| .bP v st=>kt (.bP v) st
noncomputable def afU(l:List ck):o9:=fun P cf md rec _ _ _ st kt=>AH P cf md rec (roX kt) l st
def yL:List Nat->Nat->Nat->Nat
 |[],_,c=>c
 |x::l,k,c=>match Nat.beq x (2^k - 1)with
  |true=>yL l (k+1) c
  |false=>yL l (k+1) (k+1)
def qP(pr:List (List Nat)):Nat:=yL (eR pr []) 0 0
noncomputable def XP(l:List ck)(pr:List (List Nat)):o9:=fun P cf md rec _ _ _ st kt=>
 Nat.fc (qP pr) fun m=>match vN P cf md rec pr (l.take m) st.nx st []with
 |some (.fin s1 fp)=>match MD pr fp with
  |true=>Nat.fc (st.nx+m) fun n=>match Nat.ble m l.length with
   |true=>AH P cf md rec (roX kt) (l.drop m) ⟨s1.env,s1.o,n⟩
   |false=>none
  |false=>none
 |some (.bP _ _ _)=>match XO P cf md rec l pr st with
  |some (e,s1)=>kt e s1
  |none=>none
 |none=>none
noncomputable def Fg(rec:dQ)(b:Nat)(rd:Bool)(n:Nat)(y:IC)(kt:Kt):Kt:=fun e s1=>match e with| .normal=>rec b rd n y s1 kt|e=>kt e s1
noncomputable def afV(x y:IC):o9:=fun _ _ _ rec b rd n st kt=>rec b rd n x st (Fg rec b rd n y kt)
noncomputable def GX(a c:Option eV):Option eV:=
 match a with
 |some (.r x)=>match c with
  |some (.r y)=>match R.same x y with
   |true=>some (.r x)
   |false=>none
  |_=>none
 |_=>none
noncomputable def acW(c:Operand)(x y:IC):o9:=fun _ _ _ rec b rd n st kt=>match st.S.ev c with
 | .d (.bool true)=>rec b rd n x st kt
 | .d (.bool false)=>rec b rd n y st kt
 | .fq=>GX (rec b rd n x st kt) (rec b rd n y st kt)
 |_=>none
noncomputable def Fh(id:Nat)(kt:Kt):Kt:=fun e s1=>match e with
 | .exit j=>match Nat.beq j id with
   |true=>kt .normal s1
   |false=>kt (.exit j) s1
 |e=>kt e s1
noncomputable def XQ(id:Nat)(x:IC):o9:=fun _ _ _ rec b rd n st kt=>rec b rd n x st (Fh id kt)
noncomputable def acX(x:IC):o9:=fun _ _ _ rec b rd n st kt=>match Nat.ble b st.nx with
 |true=>rec b rd n x st (Fg rec b rd n (.loop x) kt)
 |false=>none
noncomputable def XR(e:fX):o9:=fun _ _ _ _ _ _ _ st kt=>kt e st
noncomputable def afW:o9:=fun _ _ _ _ _ _ _ _ _=>none
noncomputable def afX(g:Operand)(ps:List Nat)(x y:IC):o9:=fun P cf _ rec _ rd n st kt=>match rd with
 |true=>none
 |false=>Qj P cf rec n g ps x y st kt
noncomputable def TO(ic:IC):o9:=
 match ic with
 | .skip=>XR .normal
 | .ae l=>afU l
 | .dZ l pr=>XP l pr
 | .seq x y=>afV x y
 | .cond c x y=>acW c x y
 | .block id x=>XQ id x
 | .loop x=>acX x
 | .exit id=>XR (.exit id)
 | .ret=>XR .ret
 | .H6 g ps x y=>afX g ps x y
 | .bad=>afW
noncomputable def run(P:Program)(cf:Nat->FD)(md:qO P)(k:Nat):dQ:=
 Nat.rec (motive:=fun _=>dQ) (fun _ _ _ _ _ _=>none) (fun _ rec b rd n ic st kt=>TO ic P cf md rec b rd n st kt) k
theorem ME{P:Program}{cf:Nat->FD}{md:qO P}{k:Nat}:run P cf md (k+1)=fun b rd n ic st kt=>TO ic P cf md (run P cf md k) b rd n st kt:=rfl
section
variable {P:Program}{cf:Nat->FD}{md:qO P}
theorem TP(bB:P.follows .mixedOrders=true)(cP:∀g,(cf g).Ok P g){rec:dQ}(bL:e7 P rec){fr:Nat}{g:Nat}{args:List V}{st:St}{r:DR}(h:hX P cf rec g args st=some r){K:V->List (Nat×ab)->List Nat->Prop}{KX:V->List Nat->List Nat->Prop}(hr:r.to K KX):
 jJ P g args st.S.o st.S.nx fr K KX:=by
 unfold hX at h
 simp only at h
 generalize oO:reach st.o.get 2000 (V.aL args) []=rd at h
 split at h
 ·rename_i hc
  simp only[Bool.and_eq_true,List.all_eq_true]at hc
  obtain⟨hc1,uZ⟩:=hc
  have a1:∀id∈rd,id<st.nx:=fun id aC=>Nat.le_of_ble_eq_true (hc1 id aC).1
  have a2:∀id∈V.aL args,id∈rd:=fun id aC=>by simpa using uZ id aC
  have a3:∀id∈rd,∀j∈(st.o.get id).refs,j∈rd:=fun id aC j hj=>by simpa using(hc1 id aC).2 j hj
  have a0:rd.all (fun id=>decide (id<st.S.nx))=true:=List.all_eq_true.2 fun id aC=>decide_eq_true (a1 id aC)
  have key:∀ {r:CR} {a:CR},crA r=some (.c a)->r=a:=fun h=>by unfold crA at h;injection h with h;injection h
  split at h
  ·rename_i v o1 Bu hf
   split at h
   ·cases h
   ·rename_i v' tL
    split at h
    ·rename_i rs hrs
     split at h
     ·rename_i XS
      injection h with h;subst h
      simp only[Bool.and_eq_true,List.all_eq_true]at XS
      refine⟨rd,_,a0, .inl ⟨rs,Gz.mz a1 a2 a3 (fun x hx=>(jC rd x hx).1) (fun x hx j hj=>by simpa using XS.1 x hx j hj) (nN bB cP bL hf fun r zY=> ?_),hr⟩⟩
      rw[key zY]
      refine⟨fun id aC=>tq aC,vI v,rs, ?_,hrs,rfl,fun id aC=>by simpa using XS.2 id aC⟩
      cases v with
      |cg vs=>
       match vs,tL with
       |[],_=>rfl
       |[x],hv=>exact absurd rfl (hv x)
       |_::_::_,_=>rfl
      |_=>rfl
     ·cases h
    ·cases h
  ·rename_i v o1 Bu hf
   split at h
   ·rename_i x hx
    split at h
    ·rename_i XS
     injection h with h;subst h
     simp only[Bool.and_eq_true,List.all_eq_true]at XS
     refine⟨rd,fh st.o.get o1.get rd,a0, .inr (.inl ⟨x,Gz.mz a1 a2 a3 (fun x hx=>(jC rd x hx).1) (fun x hx j hj=>by simpa using XS.1 x hx j hj) (nN bB cP bL hf fun r zY=> ?_),hr⟩)⟩
     rw[key zY]
     exact⟨fun id aC=>tq aC,x,hx,rfl,fun id aC=>by simpa using XS.2 id aC⟩
    ·cases h
   ·cases h
  ·cases h
 ·cases h
theorem XT(bB:P.follows .mixedOrders=true)(cP:∀g,(cf g).Ok P g){rec:dQ}(bL:e7 P rec){g:Nat}{args:List V}{st:St}{rd:List Nat}{ds:List D}(fG:ct st.o.get args=some ds){r:DR}(h:cDX P cf md rec g args st rd=some r)
 {K:V->List (Nat×ab)->List Nat->Prop} {KX:V->List Nat->List Nat->Prop} (hr:r.to K KX):
 tj P g ds (fun v=>K v (dk st.S.o (V.bD args)) rd) (fun v=>K v [] rd) (fun v=>KX v [] rd):=by
 unfold cDX at h
 simp only[fG]at h
 split at h
 ·split at h
  ·rename_i v o1 Bu MF
   split at h
   ·rename_i hrf
    injection h with h;subst h
    exact .inr (.inr ⟨v,Tf.mz hrf (nN bB cP bL MF fun r zY=>by unfold crA at zY;injection zY with zY;injection zY with zY;rw[zY];exact rfl),hr⟩)
   ·cases h
  ·cases h
 ·split at h
  ·rename_i rs MB
   have hP:=AJ bB cP bL MB
   split at h
   ·rename_i hf
    injection h with h;subst h
    exact .inl ⟨rs,hP, .inr ⟨hf,hr⟩⟩
   ·injection h with h;subst h
    exact .inl ⟨rs,hP, .inl hr⟩
  ·rename_i x MB
   have hP:=AJ bB cP bL MB
   split at h
   ·rename_i hf
    injection h with h;subst h
    exact .inr (.inl ⟨x,hP,hf,hr⟩)
   ·cases h
  ·cases h
theorem GY{t ty:TypeId}{sz:Nat}{es:List D}{r:CR}(h:Qg P t r=some (.r (.ret [.sl es, .int .i64 (.ofNat ty), .int .i64 (.ofNat sz)]))):
 r.to (fun v o1 _=>(∃j ep,v= .osl j ep/\o1 j= .arr ep ty sz es)\/(v= .br/\es=[]/\0<sz)) (fun _ _ _=>False):=by
 unfold Qg at h
 split at h
 ·rename_i v o1 n1
  split at h
  ·rename_i j ep
   split at h
   ·rename_i jx ty' rG es' ho
    split at h
    ·rename_i he
     have he:=Nat.eq_of_beq_eq_true he
     subst he
     rw[Ff]at h
     simp only[Option.some.injEq,eV.r.injEq,R.ret.injEq,List.cons.injEq,D.sl.injEq,D.int.injEq,true_and,and_true]at h
     obtain⟨rfl,h2,h3⟩:=h
     have h2:ty'=ty:=Int.ofNat.inj h2
     have h3:rG=sz:=Int.ofNat.inj h3
     subst h2;subst h3
     exact .inl ⟨j,jx,rfl,ho⟩
    ·cases h
   ·cases h
  ·split at h
   ·rename_i e he
    split at h
    ·rename_i hp
     rw[Ff]at h
     simp only[Option.some.injEq,eV.r.injEq,R.ret.injEq,List.cons.injEq,D.sl.injEq,D.int.injEq,true_and,and_true]at h
     obtain⟨rfl,h2,h3⟩:=h
     have h3:P.cellsOf e=sz:=Int.ofNat.inj h3
     subst h3
     exact .inr ⟨rfl,rfl,Nat.blt_eq.mp hp⟩
    ·cases h
   ·cases h
  ·cases h
 ·cases h
theorem Qk(bB:P.follows .mixedOrders=true)(cP:∀g,(cf g).Ok P g){rec:dQ}(bL:e7 P rec){fr:Nat}{g:Nat}{t:TypeId}{args:List V}{st:St}{r:DR}(h:XN P cf rec g t args st fr=some r){K:V->List (Nat×ab)->List Nat->Prop}{KX:V->List Nat->List Nat->Prop}(hr:r.to K KX):
 jJ P g args st.S.o st.S.nx fr K KX:=by
 unfold XN at h
 split at h
 ·rename_i ds fG
  split at h
  ·rename_i es ty sz MF
   injection h with h;subst h
   unfold yJ at fG
   split at fG
   ·rename_i aC
    exact⟨[],_,ao, .inr (.inr ⟨_,yq.Qa aC fG (yq.Fb (nN bB cP bL MF fun r zY=>GY zY)),hr⟩)⟩
   ·cases fG
  ·cases h
 ·split at h
  ·rename_i ds fG
   split at h
   ·rename_i es ty sz MF
    split at h
    ·rename_i hc
     injection h with h;subst h
     simp only[Bool.and_eq_true]at hc
     refine⟨V.bD args,_, ?_, .inr (.inr ⟨_,yq.P9 fG hc.1 (nN bB cP bL MF fun r zY=>GY zY),hr⟩)⟩
     exact List.all_eq_true.2 fun id aC=>decide_eq_true (Nat.blt_eq.mp (List.all_eq_true.1 hc.2 id aC))
    ·cases h
   ·cases h
  ·cases h
theorem AL(bB:P.follows .mixedOrders=true)(cP:∀g,(cf g).Ok P g){rec:dQ}(bL:e7 P rec){st:St}{fr:Nat}{o:ck}{r:DR}(h:Qh P cf md rec st fr o.op=some r){K:V->List (Nat×ab)->List Nat->Prop}{KX:V->List Nat->List Nat->Prop}(hr:r.to K KX):
 Bv P st.S fr o K KX:=by
 have hs:sDX P st fr o.op=some r->(match gQ P st.S fr o.op with|some (v,Δ,_)=>K v Δ (oS st.S o.op)|none=>False):=by
  intro h
  unfold sDX at h
  split at h
  ·rename_i v Δ rd he
   injection h with h;subst h
   simp only[GO he]
   exact hr
  ·cases h
 unfold Qh at h
 unfold Bv
 split at h
 ·rename_i c hc
  simp only[hc]
  split at h
  ·rename_i f hf
   simp only[hf]
   split at h
   ·rename_i g first cap hv
    simp only[hv]
    split at h
    ·have hh:=TP bB cP bL h hr (fr:=fr)
     split
     ·exact .inr hh
     ·exact hh
    split at h
    ·rename_i r' Wy
     injection h with h;subst h
     cases fG:ct st.S.o (first++List.map st.S.ev c.args.toList++cap)with
     |some ds=>exact .inl (XT bB cP bL fG Wy hr)
     |none=>
      have XK:ct st.o.get (first++List.map st.S.ev c.args.toList++cap)=none:=fG
      unfold cDX at Wy
      simp only[XK]at Wy
      exact TP bB cP bL Wy hr
    ·have hh:=Qk bB cP bL (st:=st) h hr
     split
     ·exact .inr hh
     ·exact hh
   ·cases h
  ·rename_i fF
   rw[<- hc]at h
   have:=hs h
   rw[hc]at this
   split
   ·rename_i f hf;exact absurd hf (fF f)
   ·exact this
 ·rename_i hc
  have:=hs h
  split
  ·rename_i c hh;exact absurd hh (hc c)
  ·exact this
def gdW(s:S)(gd:Option (Nat×Bool))(A B:Prop):Prop:=
 match gd with
 |none=>A
 |some (d,want)=>match s.env d with
  | .d (.bool b)=>if b=want then A else B
  | .cg []=>B
  |_=>False
theorem AM{st:St}{gd:Option (Nat×Bool)}{t:Bool}(h:gdX st gd=some t){A B:Prop}(hA:t=true->A)(hB:t=false->B):gdW st.S gd A B:=by
 cases gd with
 |none=>simp only[gdX,Option.some.injEq]at h;exact hA h.symm
 |some p=>
  obtain⟨d,want⟩:=p
  have he:st.S.env d=st.env.get d:=rfl
  simp only[gdX]at h
  simp only[gdW,he]
  split at h
  ·rename_i b hb
   injection h with h
   by_cases e:b=want
   ·rw[if_pos e];exact hA (by rw[<- h,e];simp)
   ·rw[if_neg e];exact hB (by rw[<- h];simpa using e)
  ·rename_i hb
   injection h with h
   exact hB h.symm
  ·cases h
theorem Ql{P:Program}{KB:List Nat->Fp->Prop}{pr:List (List Nat)}{o:ck}{l:List ck}{fr:Nat}{s:S}{fp:Fp}{bad ws:List Nat}(hb:(pr.getD fp.length []).any (fun j=>bad.contains j)=false)
 (h:gdW s o.gd (Bv P s fr o (fun v Δ rd=>je P KB pr l (fr+1) ⟨bt s.env o.dst v,put s.o Δ,s.nx⟩ (fp++[(rd,Δ.map (·.1))]) bad (ws++Δ.map (·.1))) (fun _ _ _=>False)) (je P KB pr l (fr+1) ⟨bt s.env o.dst (.cg []),s.o,s.nx⟩ (fp++[([],[])]) bad ws)):
 je P KB pr (o::l) fr s fp bad ws:=by
 simp only[je]
 rw[if_neg (by rw[hb];simp)]
 cases hg:o.gd with
 |none=>rw[hg]at h;exact h
 |some p=>obtain⟨d,want⟩:=p;rw[hg]at h;exact h
theorem Qm{P:Program}{K:S->Fp->Prop}{KP:V->List Nat->Fp->Prop}{pr:List (List Nat)}{o:ck}{l:List ck}{fr:Nat}{s:S}{fp:Fp}
 (h:gdW s o.gd (Bv P s fr o (fun v Δ rd=>lD P K KP pr l (fr+1) ⟨bt s.env o.dst v,put s.o Δ,s.nx⟩ (fp++[(rd,Δ.map (·.1))]))
  (fun v ws rd=>je P (KP v) pr l (fr+1) ⟨bt s.env o.dst .aa,s.o,s.nx⟩ (fp++[(rd,[])]) [fp.length] (ws++fp.flatMap (·.2)))) (lD P K KP pr l (fr+1) ⟨bt s.env o.dst (.cg []),s.o,s.nx⟩ (fp++[([],[])]))):
 lD P K KP pr (o::l) fr s fp:=by
 simp only[lD]
 cases hg:o.gd with
 |none=>rw[hg]at h;exact h
 |some p=>obtain⟨d,want⟩:=p;rw[hg]at h;exact h
theorem qQ(bB:P.follows .mixedOrders=true)(cP:∀g,(cf g).Ok P g){rec:dQ}(bL:e7 P rec){pr:List (List Nat)}{wl:List Nat}{fp':Fp}{KB:List Nat->Fp->Prop}(hK:KB wl fp'):
 ∀ (l:List ck) (fr:Nat) (st:St) (fp:Fp) (bad ws:List Nat),vM P cf md rec pr l fr st fp bad ws=some (wl,fp')->je P KB pr l fr st.S fp bad ws
 |[],fr,st,fp,bad,ws,h=>by
  simp only[vM,Option.some.injEq,Prod.mk.injEq]at h
  obtain⟨rfl,rfl⟩:=h;exact hK
 |o::l,fr,st,fp,bad,ws,h=>by
  simp only[vM,j5,nM]at h
  split at h
  ·rename_i hb
   simp only[je]
   rw[if_pos hb]
   have:=qQ bB cP bL hK l _ _ _ _ _ h
   exact La
  ·rename_i hb
   refine Ql hb ?_
   split at h
   ·rename_i hg
    refine AM hg (fun _=> ?_) (fun h=>by cases h)
    split at h
    ·rename_i v Δ rd fl
     refine AL bB cP bL fl ?_
     have:=qQ bB cP bL hK l _ _ _ _ _ h
     simp only[St.S,jV,kF]at this
     exact this
    ·cases h
   ·rename_i hg
    refine AM hg (fun h=>by cases h) (fun _=> ?_)
    have:=qQ bB cP bL hK l _ _ _ _ _ h
    exact La
   ·cases h
def DQ.to (K:S->Fp->Prop)(KP:V->List Nat->Fp->Prop):DQ->Prop
 | .fin st fp=>K st.S fp
 | .bP v wl fp=>KP v wl fp
theorem nP(bB:P.follows .mixedOrders=true)(cP:∀g,(cf g).Ok P g){rec:dQ}(bL:e7 P rec){pr:List (List Nat)}{q:DQ}{K:S->Fp->Prop}{KP:V->List Nat->Fp->Prop}(hq:q.to K KP):
 ∀ (l:List ck) (fr:Nat) (st:St) (fp:Fp),vN P cf md rec pr l fr st fp=some q->lD P K KP pr l fr st.S fp
 |[],fr,st,fp,h=>by
  simp only[vN,Option.some.injEq]at h
  subst h;exact hq
 |o::l,fr,st,fp,h=>by
  simp only[vN,j5,nM,Nat.dg]at h
  refine Qm ?_
  split at h
  ·rename_i hg
   refine AM hg (fun _=> ?_) (fun h=>by cases h)
   split at h
   ·rename_i v Δ rd fl
    refine AL bB cP bL fl ?_
    have:=nP bB cP bL hq l _ _ _ h
    simp only[St.S,jV,kF]at this
    exact this
   ·rename_i v ws rd fl
    split at h
    ·rename_i wl fp' hb
     injection h with h;subst h
     refine AL bB cP bL fl ?_
     have:=qQ bB cP bL (KB:=KP v) hq l _ _ _ _ _ hb
     exact La
    ·cases h
   ·cases h
  ·rename_i hg
   refine AM hg (fun h=>by cases h) (fun _=> ?_)
   have:=nP bB cP bL hq l _ _ _ h
   exact La
  ·cases h
theorem AO{pr:List (List Nat)}{fp:Fp}(h:MD pr fp=true):iU pr fp=true:=by
 unfold MD at h
 split at h
 ·rename_i hq
  unfold quiet at hq
  have hz:∀i,(fp.getD i ([],[])).2=[]:=by
   intro i
   rw[List.getD_eq_getElem?_getD]
   cases hx:fp[i]? with
   |none=>rfl
   |some x=>
    have:=List.all_eq_true.1 hq x (List.mem_of_getElem? hx)
    simp only[Option.getD_some]
    split at this
    ·rename_i e;exact e
    ·cases this
  unfold iU
  simp only[hz,ng,List.all_nil,Bool.and_self,Bool.or_true]
  simp
 ·rw[GW]at h
  unfold iU
  rw[List.all_eq_true]
  intro j hj
  rw[List.all_eq_true]
  intro i hi
  exact Da fp [] h j (Nat.zero_le _) na i (by simpa using hi)
theorem vO:∀ (l:List Nat) (k c:Nat),c<=k->c<=yL l k c/\∀i x,l[i]? =some x->yL l k c<=k+i->x=2^(k+i) - 1
 |[],_,c,_=>⟨Nat.le_refl _,fun i x h=>by simp at h⟩
 |y::l,k,c,hc=>by
  simp only[yL]
  split
  ·rename_i he
   obtain⟨h1,h2⟩:=vO l (k+1) c ah
   refine⟨h1,fun i x hi hle=> ?_⟩
   cases i with
   |zero=>simp at hi;subst hi;simpa using Nat.eq_of_beq_eq_true he
   |succ i=>
    have:=h2 i x (by simpa using hi) ah
    rw[this,show k+(i+1)=k+1+i by omega]
  ·obtain⟨h1,h2⟩:=vO l (k+1) (k+1) (Nat.le_refl _)
   refine⟨ah,fun i x hi hle=> ?_⟩
   cases i with
   |zero=>omega
   |succ i=>
    have:=h2 i x (by simpa using hi) ah
    rw[this,show k+(i+1)=k+1+i by omega]
theorem yM:∀ (pr:List (List Nat)) (acc:List Nat),(eR pr acc).length=acc.length+pr.length
 |[],acc=>by simp[eR]
 |ps::l,acc=>by simp only[eR,yM l,List.length_append,List.length_cons,List.length_nil];omega
theorem MG(pr:List (List Nat)):Ma pr (qP pr)=true:=by
 refine List.all_eq_true.2 fun k hk=> ?_
 have hk:k<pr.length:=by simpa using hk
 by_cases h:k<qP pr
 ·simp[Nat.blt_eq.mpr h]
 ·have hl:k<(eR pr []).length:=by rw[yM];simpa using hk
  have:=(vO (eR pr []) 0 0 (Nat.le_refl _)).2 k _ (List.getElem?_eq_getElem hl) (by rw[Nat.zero_add];exact Nat.le_of_not_lt h)
  rw[Nat.zero_add]at this
  rw[List.getD_eq_getElem?_getD,List.getElem?_eq_getElem hl,Option.getD_some,this]
  simp
theorem Qn(bB:P.follows .mixedOrders=true)(cP:∀g,(cf g).Ok P g){rec:dQ}(bL:e7 P rec){l:List ck}{pr:List (List Nat)}{st st':St}{e:fX}(h:XO P cf md rec l pr st=some (e,st')){Q:fX->S->Prop}(hQ:Q e st'.S):
 lD P (E4 pr (st.S.nx+l.length) Q) (CJ pr l st.S Q) pr l st.S.nx st.S []:=by
 unfold XO at h
 split at h
 ·rename_i s1 fp hd
  split at h
  ·rename_i hf
   simp only[Nat.dg,Option.some.injEq,Prod.mk.injEq]at h
   obtain⟨rfl,rfl⟩:=h
   exact nP bB cP bL (q:= .fin s1 fp) (K:=E4 pr (st.S.nx+l.length) Q) (KP:=CJ pr l st.S Q) (show E4 pr (st.S.nx+l.length) Q s1.S fp from⟨AO hf,hQ⟩) l _ _ _ hd
  ·cases h
 ·rename_i v wl fp hd
  split at h
  ·rename_i hf
   simp only[Option.some.injEq,Prod.mk.injEq]at h
   obtain⟨rfl,rfl⟩:=h
   exact nP bB cP bL (q:= .bP v wl fp) (K:=E4 pr (st.S.nx+l.length) Q) (KP:=CJ pr l st.S Q) (show CJ pr l st.S Q v wl fp from⟨AO hf,hQ⟩) l _ _ _ hd
  ·cases h
 ·cases h
theorem Qo(bB:P.follows .mixedOrders=true)(cP:∀g,(cf g).Ok P g){rec:dQ}(bL:e7 P rec){n:Nat}{g:Operand}{ps:List Nat}{x y:IC}{st:St}{kt:Kt}{a:eV}(h:Qj P cf rec n g ps x y st kt=some a){Q:fX->S->Prop}(hQ:∀e st',kt e st'=some a->Q e st'.S):
 Cs P n (st.S.ev g) ps x y Q st.S:=by
 unfold Qj at h
 refine⟨(List.range n).map st.env.get,fun i=> ?_, ?_⟩
 ·unfold bp
  simp only[List.getD_eq_getElem?_getD,List.getElem?_map]
  by_cases hi:i<n
  ·right;rw[List.getElem?_range hi];rfl
  ·left;rw[List.getElem?_eq_none (by simp;omega)];rfl
 ·split at h
  ·rename_i f first cap hv
   simp only[hv]
   refine .inl ?_
   have key:=fun {K X} hr=>nN (K:=K) (X:=X) bB cP bL h hr
   simp only[Tr.js]at key
   refine key fun r hr=> ?_
   unfold acV at hr
   cases r with
   |ret v o1 Bu=>
    simp only at hr
    split at hr
    ·rename_i nf m e p c d lst pd ho
     have hl:lst≠ .busy:=by
      intro hb;subst hb;cases hr
     refine⟨nf,m,e,p,c,d,lst,pd,ho,hl, ?_⟩
     split at hr
     ·cases hr
     ·split at hr<;>(have h3:=hQ _ _ hr;simp only[pG];simp only[St.S,Tr.js]at h3;exact h3)
    ·cases hr
   |bP v o1 Bu=>exact hQ _ _ hr
  ·cases h
theorem bJ.same {b:Nat}{s:S}(h:b<=s.nx):bJ b s s:=fun _ φ _ _ h1 h2=>⟨φ,h1,h2,fun _ h=>h,h,fun _ _ hr=>⟨hr,rfl⟩,fun _ e' _ he=>⟨e',he,Nat.le_refl _,fun _=>rfl⟩⟩
theorem MH{x y:Option eV}{a:eV}(h:GX x y=some a):x=some a/\y=some a:=by
 unfold GX at h
 split at h
 ·rename_i r
  split at h
  ·rename_i r'
   split at h
   ·rename_i hs
    injection h with h;subst h
    rw[R.eJ hs]
    exact⟨rfl,rfl⟩
   ·cases h
  ·cases h
 ·cases h
theorem XU(bB:P.follows .mixedOrders=true)(cP:∀g,(cf g).Ok P g):∀k,∀j,j<=k->e7 P (run P cf md j):=by
 intro k
 induction k with
 |zero=>intro j hj b rd n ic st kt a h;obtain rfl:j=0:=ah
        cases h
 |succ k ih=>
  intro j hj b rd n ic st kt a h Q hQ
  cases j with
  |zero=>cases h
  |succ j=>
   have bL:e7 P (run P cf md j):=ih j ah
   rw[ME]at h
   cases ic with
   |skip=>exact hQ _ _ h
   |exit id=>exact hQ _ _ h
   |ret=>exact hQ _ _ h
   |bad=>cases h
   |ae l=>
    have h:AH P cf md (run P cf md j) (roX kt) l st=some a:=h
    exact uv bB cP bL (K:=Q .normal) (X:=fun v s=>Q (.bP v) s) (fun r hr=>by
     cases r with
     |ok XL=>exact hQ .normal _ hr
     |bP v XL=>exact hQ (.bP v) _ hr) l _ h
   |dZ l pr=>
    have h:XP l pr P cf md (run P cf md j) b rd n st kt=some a:=h
    unfold XP at h
    rw[Nat.dg]at h
    split at h
    ·rename_i s1 fp hd
     split at h
     ·rename_i hf
      rw[Nat.dg]at h
      split at h
      ·rename_i Pz
       refine .inr ⟨qP pr,Nat.le_of_ble_eq_true Pz,MG pr, ?_⟩
       refine nP bB cP bL (q:= .fin s1 fp) (K:=fun s' fp=>iU pr fp=true/\pH P (fun v s=>Q (.bP v) s) (Q .normal) (l.drop (qP pr)) ⟨s'.env,s'.o,st.S.nx+qP pr⟩) (KP:=fun _ _ _=>False) (show _/\_ from⟨AO hf, ?_⟩) (l.take (qP pr)) _ _ _ hd
       exact uv bB cP bL (K:=Q .normal) (X:=fun v s=>Q (.bP v) s) (fun r hr=>by
        cases r with
        |ok XL=>exact hQ .normal _ hr
        |bP v XL=>exact hQ (.bP v) _ hr) (l.drop (qP pr)) ⟨s1.env,s1.o,st.nx+qP pr⟩ h
      ·cases h
     ·cases h
    ·split at h
     ·rename_i e s1 h1
      exact .inl (Qn bB cP bL h1 (hQ _ _ h))
     ·cases h
    ·cases h
   |seq x y=>
    have h:run P cf md j b rd n x st (Fg (run P cf md j) b rd n y kt)=some a:=h
    simp only[uo]
    refine bL _ _ _ _ _ _ _ h _ fun e s1 he=> ?_
    unfold Fg at he
    cases e with
    |normal=>exact bL _ _ _ _ _ _ _ he _ hQ
    |_=>exact hQ _ _ he
   |cond c x y=>
    have h:(match st.S.ev c with| .d (.bool true)=>run P cf md j b rd n x st kt| .d (.bool false)=>run P cf md j b rd n y st kt| .fq=>GX (run P cf md j b rd n x st kt) (run P cf md j b rd n y st kt)|_=>none)=some a:=h
    simp only[uo]
    split at h
    ·rename_i hv
     simp only[hv]
     exact(vg _ _).mpr (bL _ _ _ _ _ _ _ h _ hQ)
    ·rename_i hv
     simp only[hv]
     exact(te _ _).mpr (bL _ _ _ _ _ _ _ h _ hQ)
    ·rename_i hv
     simp only[hv]
     obtain⟨h1,h2⟩:=MH h
     exact⟨bL _ _ _ _ _ _ _ h1 _ hQ,bL _ _ _ _ _ _ _ h2 _ hQ⟩
    ·cases h
   |block id x=>
    have h:run P cf md j b rd n x st (Fh id kt)=some a:=h
    simp only[uo]
    refine bL _ _ _ _ _ _ _ h _ fun e s1 he=> ?_
    unfold Fh at he
    cases e with
    |exit j'=>
     simp only at he
     split at he
     ·rename_i hb
      simp only[fY,Nat.eq_of_beq_eq_true hb,if_true];exact hQ _ _ he
     ·rename_i hb
      simp only[fY,Nat.ne_of_beq_eq_false hb,if_false];exact hQ _ _ he
    |_=>exact hQ _ _ he
   |loop x=>
    have unf:∀m TQ,run P cf md (m+1) b rd n (.loop x) TQ kt=some a->b<=TQ.nx/\run P cf md m b rd n x TQ (Fg (run P cf md m) b rd n (.loop x) kt)=some a:=by
     intro m TQ h
     have h:(match Nat.ble b TQ.nx with|true=>run P cf md m b rd n x TQ (Fg (run P cf md m) b rd n (.loop x) kt)|false=>none)=some a:=h
     split at h
     ·rename_i hb;exact⟨Nat.le_of_ble_eq_true hb,h⟩
     ·cases h
    have h:run P cf md (j+1) b rd n (.loop x) st kt=some a:=h
    refine⟨fun m s=>m<=k+1/\∃st,s=st.S/\run P cf md m b rd n (.loop x) st kt=some a,⟨j+1,st.S,bJ.same (unf j st h).1,hj,st,rfl,h⟩, ?_⟩
    rintro m s0 ⟨hm,TQ,rfl,h0⟩
    cases m with
    |zero=>cases h0
    |succ m=>
     have acY:e7 P (run P cf md m):=ih m ah
     refine acY _ _ _ _ _ _ _ (unf m TQ h0).2 _ fun e s1 he=> ?_
     unfold Fg at he
     cases e with
     |normal=>
      refine⟨m,s1.S,Nat.lt_succ_self _,bJ.same ?_,ah,s1,rfl,he⟩
      cases m with
      |zero=>cases he
      |succ m=>exact(unf m s1 he).1
     |_=>exact hQ _ _ he
   |H6 g ps x y=>
    cases rd with
    |true=>
     have h:(none:Option eV)=some a:=h
     cases h
    |false=>
     have h:Qj P cf (run P cf md j) n g ps x y st kt=some a:=h
     exact⟨rfl,_, .inl rfl,Qo bB cP bL h hQ⟩
noncomputable def xl(P:Program)(cf:Nat->FD)(md:qO P)(k:Nat)(g:Nat)(ds:List D):Option R:=
 match Ms P cf (run P cf md k) g (ds.map .d) (.e fun _=> .no) 0 C6 with
 |some (.r x)=>some x
 |_=>none
theorem aR.nQ (bB:P.follows .mixedOrders=true)(cP:∀g,(cf g).Ok P g){k g:Nat}{ds:List D}{out:R}(h:xl P cf md k g ds=some out):aR P g ds out:=by
 unfold xl at h
 split at h
 ·rename_i x hr;injection h with h;subst h;exact C7 bB cP (XU bB cP k k (Nat.le_refl _)) hr
 ·cases h
end
end
def Tr.GZ {α:Type}(p:Nat->α->Prop):Tr α->(Nat->Nat)->Prop
 | .e g,f=>∀i,p (f i) (g i)
 | .n x l r,f=>p (f 0) x/\GZ p l (fun i=>f (2*i+1))/\GZ p r (fun i=>f (2*i+2))
theorem Tr.AP {α:Type}{p:Nat->α->Prop}:∀ {f:Nat->Nat} (t:Tr α),t.GZ p f->∀k,p (f k) (t.get k)
 |f, .e g,h,k=>h k
 |f, .n x l r,h,k=>by
  obtain⟨h1,h2,h3⟩:=h
  rw[Tr.vE]
  split
  ·rename_i e;subst e;exact h1
  ·split
   ·have:=Tr.AP l h2 (k/2)
    rwa [show 2*(k/2)+1=k by omega]at this
   ·have:=Tr.AP r h3 (k/2 - 1)
    rwa [show 2*(k/2 - 1)+2=k by omega]at this
end Go.Proofs.YtonbelhklnmjnaaGreat
