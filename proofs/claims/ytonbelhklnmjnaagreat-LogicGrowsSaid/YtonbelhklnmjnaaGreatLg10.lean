/-
  A PART OF THE PROOF. Conditions: none.
-/
import Derived.Test.YtonbelhklnmjnaaGreatLg9
set_option linter.unusedSimpArgs false
set_option linter.unusedVariables false
namespace Go.Proofs.YtonbelhklnmjnaaGreat
inductive Tr (α:Type) where
 |e (f:Nat->α)
 |n (x:α) (l r:Tr α)
noncomputable def Tr.get {α:Type}(t:Tr α):Nat->α:=
 Tr.rec (motive:=fun _=>Nat->α) (fun f=>f) (fun x _ _ l r k=>Bool.rec (Bool.rec (r (Nat.sub (Nat.div k 2) 1)) (l (Nat.div k 2)) (Nat.beq (Nat.mod k 2) 1)) x (Nat.beq k 0)) t
theorem Tr.Fm {α:Type}(f:Nat->α):(Tr.e f).get=f:=rfl
noncomputable def Tr.uV {α:Type}(x:α):Nat->Tr α->Nat->Tr α
 |0,t,k=> .e (aL t.get k x)
 |d+1, .e f,k=>match Nat.beq k 0 with
  |true=> .n x (.e fun i=>f (2*i+1)) (.e fun i=>f (2*i+2))
  |false=>match Nat.beq (k%2) 1 with
   |true=> .n (f 0) (Tr.uV x d (.e fun i=>f (2*i+1)) (k/2)) (.e fun i=>f (2*i+2))
   |false=> .n (f 0) (.e fun i=>f (2*i+1)) (Tr.uV x d (.e fun i=>f (2*i+2)) (k/2 - 1))
 |d+1, .n y l r,k=>match Nat.beq k 0 with
  |true=> .n x l r
  |false=>match Nat.beq (k%2) 1 with
   |true=> .n y (Tr.uV x d l (k/2)) r
   |false=> .n y l (Tr.uV x d r (k/2 - 1))
noncomputable def Tr.set {α:Type}(t:Tr α)(k:Nat)(x:α):Tr α:=Tr.uV x 24 t k
theorem Tr.uW {α:Type}{x:α}{l r:Tr α}{k:Nat}:(Tr.n x l r).get k=if k=0 then x else if k%2=1 then l.get (k/2)else r.get (k/2 - 1):=by
 show @Bool.rec (fun _=>α) (@Bool.rec (fun _=>α) (r.get (k/2 - 1)) (l.get (k/2)) (Nat.beq (k%2) 1)) x (Nat.beq k 0)=_
 by_cases h:k=0
 ·subst h;rfl
 ·have:Nat.beq k 0=false:=by cases k with|zero=>exact absurd rfl h|succ k=>rfl
  simp only[this,h,if_false]
  by_cases h2:k%2=1
  ·simp[h2]
  ·have:Nat.beq (k%2) 1=false:=by
    cases hb:Nat.beq (k%2) 1 with
    |false=>rfl
    |true=>exact absurd (Nat.eq_of_beq_eq_true hb) h2
   simp[h2,this]
theorem Tr.nu {α:Type}(x:α):∀ (d:Nat) (t:Tr α) (k:Nat),(Tr.uV x d t k).get=aL t.get k x
 |0,t,k=>rfl
 |d+1, .e f,k=>by
  funext i
  simp only[Tr.uV]
  have hb:∀a b:Nat,Nat.beq a b=decide (a=b):=fun a b=>by
   cases h:Nat.beq a b with
   |true=>simp[Nat.eq_of_beq_eq_true h]
   |false=>simp[Nat.ne_of_beq_eq_false h]
  rw[hb,hb]
  by_cases h:k=0
  ·subst h
   simp only[decide_true,Tr.uW,aR]
   by_cases hi:i=0
   ·simp[hi]
   ·simp only[hi,if_false]
    by_cases h2:i%2=1
    ·simp only[h2,if_true,Tr.Fm];congr 1;omega
    ·simp only[h2,if_false,Tr.Fm];congr 1;omega
  ·simp only[h,decide_false]
   by_cases hk:k%2=1
   ·simp only[hk,decide_true,Tr.uW,Tr.nu x d,aR,Tr.Fm]
    by_cases hi:i=0
    ·subst hi;simp[Ne.symm h]
    ·simp only[hi,if_false]
     by_cases h2:i%2=1
     ·simp only[h2,if_true]
      have e1:2*(i/2)+1=i:=ad
      rw[e1]
      by_cases e:i=k
      ·simp[e]
      ·exact MK
     ·simp only[h2,if_false]
      rw[if_neg (by intro e;subst e;exact h2 hk)]
      congr 1;omega
   ·simp only[hk,decide_false,Tr.uW,Tr.nu x d,aR,Tr.Fm]
    by_cases hi:i=0
    ·subst hi;simp[Ne.symm h]
    ·simp only[hi,if_false]
     by_cases h2:i%2=1
     ·simp only[h2,if_true]
      rw[if_neg (by intro e;subst e;exact hk h2)]
      congr 1;omega
     ·simp only[h2,if_false]
      have e1:2*(i/2 - 1)+2=i:=ad
      rw[e1]
      by_cases e:i=k
      ·simp[e]
      ·exact MK
 |d+1, .n y l r,k=>by
  funext i
  simp only[Tr.uV]
  have hb:∀a b:Nat,Nat.beq a b=decide (a=b):=fun a b=>by
   cases h:Nat.beq a b with
   |true=>simp[Nat.eq_of_beq_eq_true h]
   |false=>simp[Nat.ne_of_beq_eq_false h]
  rw[hb,hb]
  by_cases h:k=0
  ·subst h
   simp only[decide_true,Tr.uW,aR]
   by_cases hi:i=0
   ·simp[hi]
   ·simp[hi]
  ·simp only[h,decide_false]
   by_cases hk:k%2=1
   ·simp only[hk,decide_true,Tr.uW,Tr.nu x d,aR]
    by_cases hi:i=0
    ·subst hi;simp[Ne.symm h]
    ·simp only[hi,if_false]
     by_cases h2:i%2=1
     ·simp only[h2,if_true]
      by_cases e:i=k
      ·simp[e]
      ·exact MK
     ·simp only[h2,if_false]
      rw[if_neg (by intro e;subst e;exact h2 hk)]
   ·simp only[hk,decide_false,Tr.uW,Tr.nu x d,aR]
    by_cases hi:i=0
    ·subst hi;simp[Ne.symm h]
    ·simp only[hi,if_false]
     by_cases h2:i%2=1
     ·simp only[h2,if_true]
      rw[if_neg (by intro e;subst e;exact hk h2)]
     ·simp only[h2,if_false]
      by_cases e:i=k
      ·simp[e]
      ·exact MK
theorem Tr.jg {α:Type}(t:Tr α)(k:Nat)(x:α):(t.set k x).get=aL t.get k x:=Tr.nu x 24 t k
noncomputable def Nat.fc {β:Type}(n:Nat)(c:Nat->β):β:=Nat.rec (motive:=fun _=>β) (c 0) (fun m _=>c (Nat.succ m)) n
theorem Nat.df {β:Type}(n:Nat)(c:Nat->β):Nat.fc n c=c n:=by cases n<;>rfl
noncomputable def Int.fc {β:Type}(n:Int)(c:Int->β):β:=Int.rec (motive:=fun _=>β) (fun m=>Nat.fc m fun m=>c (.ofNat m)) (fun m=>Nat.fc m fun m=>c (.negSucc m)) n
theorem Int.df {β:Type}(n:Int)(c:Int->β):Int.fc n c=c n:=by cases n<;>simp only[Int.fc,Nat.df]
mutual
noncomputable def D.fc {β:Type}:D->(D->β)->β
 | .int k n,c=>Int.fc n fun n=>c (.int k n)
 | .bool b,c=>match b with|true=>c (.bool true)|false=>c (.bool false)
 | .agg l,c=>D.uX l fun l=>c (.agg l)
 | .sl l,c=>D.uX l fun l=>c (.sl l)
 | .iface t x,c=>D.fc x fun x=>c (.iface t x)
 | .str s,c=>c (.str s)
 | .fq,c=>c .fq
 | .mH,c=>c .mH
 | .bT,c=>c .bT
 | .ji,c=>c .ji
 | .mp ks vs,c=>D.uX ks fun ks=>D.uX vs fun vs=>c (.mp ks vs)
noncomputable def D.uX {β:Type}:List D->(List D->β)->β
 |[],c=>c []
 |x::xs,c=>D.fc x fun x=>D.uX xs fun xs=>c (x::xs)
end
mutual
theorem D.df {β:Type}:∀ (x:D) (c:D->β),D.fc x c=c x
 | .int k n,c=>by simp only[D.fc,Int.df]
 | .bool b,c=>by cases b<;>rfl
 | .agg l,c=>by simp only[D.fc,D.fR l]
 | .sl l,c=>by simp only[D.fc,D.fR l]
 | .iface t x,c=>by simp only[D.fc,D.df x]
 | .mp ks vs,c=>by simp only[D.fc,D.fR ks,D.fR vs]
 | .str _,_| .fq,_| .mH,_| .bT,_| .ji,_=>by simp only[D.fc]
theorem D.fR {β:Type}:∀ (x:List D) (c:List D->β),D.uX x c=c x
 |[],c=>by simp only[D.uX]
 |x::xs,c=>by simp only[D.uX,D.df x,D.fR xs]
end
mutual
noncomputable def V.fc {β:Type}:V->(V->β)->β
 | .d x,c=>D.fc x fun x=>c (.d x)
 | .agg l,c=>V.uX l fun l=>c (.agg l)
 | .ck l,c=>V.uX l fun l=>c (.ck l)
 | .ptr i o,c=>Nat.fc i fun i=>Nat.fc o fun o=>c (.ptr i o)
 | .osl i o,c=>Nat.fc i fun i=>Nat.fc o fun o=>c (.osl i o)
 | .pe a b i j k,c=>Nat.fc a fun a=>Nat.fc b fun b=>Nat.fc i fun i=>Nat.fc j fun j=>Nat.fc k fun k=>c (.pe a b i j k)
 | .pp l o,c=>D.uX l fun l=>Nat.fc o fun o=>c (.pp l o)
 | .func f a b,c=>V.uX a fun a=>V.uX b fun b=>c (.func f a b)
 | .iface t x,c=>V.fc x fun x=>c (.iface t x)
 | .qT l,c=>D.uX l fun l=>c (.qT l)
 | .wY i j k,c=>Nat.fc i fun i=>Nat.fc j fun j=>Nat.fc k fun k=>c (.wY i j k)
 | .mp i,c=>Nat.fc i fun i=>c (.mp i)
 | .jO i,c=>Nat.fc i fun i=>c (.jO i)
 | .bW,c=>c .bW
 | .aa,c=>c .aa
 | .eZ,c=>c .eZ
noncomputable def V.uX {β:Type}:List V->(List V->β)->β
 |[],c=>c []
 |x::xs,c=>V.fc x fun x=>V.uX xs fun xs=>c (x::xs)
end
mutual
theorem V.df {β:Type}:∀ (x:V) (c:V->β),V.fc x c=c x
 | .d x,c=>by simp only[V.fc,D.df]
 | .agg l,c=>by simp only[V.fc,V.fR l]
 | .ck l,c=>by simp only[V.fc,V.fR l]
 | .pp l o,c=>by simp only[V.fc,D.fR,Nat.df]
 | .func f a b,c=>by simp only[V.fc,V.fR a,V.fR b]
 | .iface t x,c=>by simp only[V.fc,V.df x]
 | .qT l,c=>by simp only[V.fc,D.fR]
 | .ptr _ _,_| .osl _ _,_| .pe _ _ _ _ _,_| .wY _ _ _,_| .mp _,_| .jO _,_| .bW,_| .aa,_| .eZ,_=>by simp only[V.fc,Nat.df]
theorem V.fR {β:Type}:∀ (x:List V) (c:List V->β),V.uX x c=c x
 |[],c=>by simp only[V.uX]
 |x::xs,c=>by simp only[V.uX,V.df x,V.fR xs]
end
section
variable {β:Type}
noncomputable def YN(k:IntKind)(n:Int)(c:V->β):β:=Int.fc n fun n=>c (.d (.int k n))
noncomputable def YO(b:Bool)(c:V->β):β:= @Bool.rec (fun _=>β) (c (.d (.bool false))) (c (.d (.bool true))) b
noncomputable def TX(x:D)(c:V->β):β:=D.fc x fun x=>c (.d x)
noncomputable def vD(x:D):(V->β)->β:=match x with| .int k n=>YN k n| .bool b=>YO b|x=>TX x
noncomputable def YP(i o:Nat)(c:V->β):β:=Nat.fc i fun i=>Nat.fc o fun o=>c (.ptr i o)
noncomputable def YQ(i o:Nat)(c:V->β):β:=Nat.fc i fun i=>Nat.fc o fun o=>c (.osl i o)
noncomputable def vPe(a b i j k:Nat)(c:V->β):β:=Nat.fc a fun a=>Nat.fc b fun b=>Nat.fc i fun i=>Nat.fc j fun j=>Nat.fc k fun k=>c (.pe a b i j k)
noncomputable def V.Xi (v:V):(V->β)->β:=match v with| .d x=>vD x| .ptr i o=>YP i o| .osl i o=>YQ i o| .pe a b i j k=>vPe a b i j k|v=>V.fc v
theorem V.TY (v:V)(c:V->β):V.Xi v c=c v:=by
 cases v
 case d x=>
  cases x
  case int k n=>simp only[V.Xi,vD,YN,Int.df]
  case bool b=>cases b<;>rfl
  all_goals exact D.df _ _
 case ptr i o=>simp only[V.Xi,YP,Nat.df]
 case osl i o=>simp only[V.Xi,YQ,Nat.df]
 case pe a b i j k=>simp only[V.Xi,vPe,Nat.df]
 all_goals exact V.df _ _
end
noncomputable def Xj{β:Type}:List (D×D)->(List (D×D)->β)->β
 |[],c=>c []
 |(a,b)::l,c=>D.fc a fun a=>D.fc b fun b=>Xj l fun l=>c ((a,b)::l)
theorem J2{β:Type}:∀ (x:List (D×D)) (c:List (D×D)->β),Xj x c=c x
 |[],c=>rfl
 |(a,b)::l,c=>by simp only[Xj,D.df,J2 l]
noncomputable def ab.fc {β:Type}(x:ab)(c:ab->β):β:=
 match x with
 | .row cs=>V.uX cs fun cs=>c (.row cs)
 | .arr e t s es=>Nat.fc e fun e=>Nat.fc s fun s=>D.uX es fun es=>c (.arr e t s es)
 | .su e es=>Nat.fc e fun e=>D.uX es fun es=>c (.su e es)
 | .map kt vt l=>Xj l fun l=>c (.map kt vt l)
 | .iJ l=>Xj l fun l=>c (.iJ l)
 | .mP l last=>Xj l fun l=>c (.mP l last)
 | .yR l pos=>Nat.fc pos fun pos=>c (.yR l pos)
 |x=>c x
theorem ab.df {β:Type}(x:ab)(c:ab->β):ab.fc x c=c x:=by cases x<;>simp only[ab.fc,V.fR,D.fR,Nat.df,J2]
noncomputable def Tr.xT {α β:Type}(x:α)(d:Nat):Tr α->Nat->(Tr α->β)->β:=
 Nat.rec (motive:=fun _=>Tr α->Nat->(Tr α->β)->β) (fun t k c=>c (.e (aL t.get k x)))
  (fun _ ih t k c=>Tr.rec (motive:=fun _=>β) (fun f=>
   Bool.rec (Bool.rec (ih (.e fun i=>f (2*i+2)) (Nat.sub (Nat.div k 2) 1) fun r=>c (.n (f 0) (.e fun i=>f (2*i+1)) r)) (ih (.e fun i=>f (2*i+1)) (Nat.div k 2) fun l=>c (.n (f 0) l (.e fun i=>f (2*i+2)))) (Nat.beq (Nat.mod k 2) 1))
    (c (.n x (.e fun i=>f (2*i+1)) (.e fun i=>f (2*i+2)))) (Nat.beq k 0))
   (fun y l r _ _=>Bool.rec (Bool.rec (ih r (Nat.sub (Nat.div k 2) 1) fun r=>c (.n y l r)) (ih l (Nat.div k 2) fun l=>c (.n y l r)) (Nat.beq (Nat.mod k 2) 1)) (c (.n x l r)) (Nat.beq k 0)) t) d
theorem Tr.uY {α β:Type}(x:α):∀ (d:Nat) (t:Tr α) (k:Nat) (c:Tr α->β),Tr.xT x d t k c=c (Tr.uV x d t k)
 |0,t,k,c=>rfl
 |d+1, .e f,k,c=>by
  show @Bool.rec (fun _=>β) (@Bool.rec (fun _=>β) (Tr.xT x d (.e fun i=>f (2*i+2)) (k/2 - 1) fun r=>c (.n (f 0) (.e fun i=>f (2*i+1)) r)) (Tr.xT x d (.e fun i=>f (2*i+1)) (k/2) fun l=>c (.n (f 0) l (.e fun i=>f (2*i+2)))) (Nat.beq (k%2) 1)) (c (.n x (.e fun i=>f (2*i+1)) (.e fun i=>f (2*i+2)))) (Nat.beq k 0)=_
  simp only[Tr.uV,Tr.uY x d]
  cases Nat.beq k 0
  ·cases Nat.beq (k%2) 1<;>rfl
  ·rfl
 |d+1, .n y l r,k,c=>by
  show @Bool.rec (fun _=>β) (@Bool.rec (fun _=>β) (Tr.xT x d r (k/2 - 1) fun r=>c (.n y l r)) (Tr.xT x d l (k/2) fun l=>c (.n y l r)) (Nat.beq (k%2) 1)) (c (.n x l r)) (Nat.beq k 0)=_
  simp only[Tr.uV,Tr.uY x d]
  cases Nat.beq k 0
  ·cases Nat.beq (k%2) 1<;>rfl
  ·rfl
noncomputable def Tr.TZ {α β:Type}(t:Tr α)(k:Nat)(x:α)(c:Tr α->β):β:=Tr.xT x 24 t k c
theorem Tr.Fo {α β:Type}(t:Tr α)(k:Nat)(x:α)(c:Tr α->β):t.TZ k x c=c (t.set k x):=Tr.uY x 24 t k c
structure St where
 env:Tr V
 o:Tr ab
 nx:Nat
noncomputable def St.S (st:St):S:=⟨st.env.get,st.o.get,st.nx⟩
noncomputable def Hs(o:Tr ab)(Δ:List (Nat×ab)):Tr ab:=Δ.foldl (fun f x=>f.set x.1 x.2) o
noncomputable def sN(env:Tr V)(dst:Option Tmp)(v:V):Tr V:=match dst with|some d=>env.set d v|none=>env
noncomputable def uZ{β:Type}(o:Tr ab):List (Nat×ab)->(Tr ab->β)->β
 |[],c=>c o
 |(i,x)::Δ,c=>ab.fc x fun x=>o.TZ i x fun o=>uZ o Δ c
theorem nv{β:Type}:∀ (Δ:List (Nat×ab)) (o:Tr ab) (c:Tr ab->β),uZ o Δ c=c (Hs o Δ)
 |[],o,c=>rfl
 |(i,x)::Δ,o,c=>by simp only[uZ,ab.df,Tr.Fo,nv Δ];rfl
noncomputable def mi{β:Type}(env:Tr V)(dst:Option Tmp)(v:V)(c:Tr V->β):β:=match dst with|some d=>V.Xi v fun v=>env.TZ d v c|none=>c env
theorem jS{β:Type}(env:Tr V)(dst:Option Tmp)(v:V)(c:Tr V->β):mi env dst v c=c (sN env dst v):=by
 cases dst<;>simp only[mi,sN,V.TY,Tr.Fo]
theorem kq:∀ (Δ:List (Nat×ab)) (o:Tr ab),(Hs o Δ).get=put o.get Δ
 |[],_=>rfl
 |x::Δ,o=>by
  simp only[Hs,put,List.foldl_cons]
  have:=kq Δ (o.set x.1 x.2)
  simp only[Hs,put]at this
  rw[this,Tr.jg]
theorem eN(env:Tr V)(dst:Option Tmp)(v:V):(sN env dst v).get=bu env.get dst v:=by
 cases dst<;>simp[sN,bu,Tr.jg]
section T0
def Qh(x:Operand)(_:Program)(s:S)(_:Nat):Option gB:=one (s.ev x)
def YR(c a b:Operand)(_:Program)(s:S)(_:Nat):Option gB:=lJ (qh (s.ev c) (s.ev a) (s.ev b))
def T1(t:TypeId)(parts:Array (Nat×Operand))(P:Program)(s:S)(_:Nat):Option gB:=lJ (rE P t (parts.toList.map fun p=>(p.1,s.ev p.2)))
def Cc(t:TypeId)(len:Nat)(parts:Array (Nat×Operand))(P:Program)(s:S)(fr:Nat):Option gB:=gQ P s.o fr t len (parts.toList.map fun p=>(p.1,s.ev p.2))
def YS(t:TypeId)(x:Operand)(P:Program)(s:S)(_:Nat):Option gB:=nh P s.o t (s.ev x)
def T2(t:TypeId)(x v:Operand)(P:Program)(s:S)(_:Nat):Option gB:=rD P s.o t (s.ev x) (s.ev v)
def abM(x:Operand)(_:Program)(s:S)(_:Nat):Option gB:=lJ (jP s.o (s.ev x))
noncomputable def YT(op:BinOp):IntKind->Int->Int->Option V:=
 match op with
 | .add=>fun k a b=>some (.d (.int k (k.wrap (Int.add a b))))
 | .sub=>fun k a b=>some (.d (.int k (k.wrap (Int.sub a b))))
 | .mul=>fun k a b=>some (.d (.int k (k.wrap (Int.mul a b))))
 |op=>BC op
theorem NN(op:BinOp):YT op=BC op:=by cases op<;>rfl
def asInt(x:V):Option (IntKind×Int):=match x with| .d (.int k a)=>some (k,a)|_=>none
def J3(op:BinOp)(t:TypeId)(c:Bool)(x y:V)(P:Program)(o:Nat->ab):Option gB:=eC P o op t c x y
noncomputable def YU(op:BinOp)(t:TypeId)(x y:Operand)(P:Program)(s:S)(_:Nat):Option gB:=
 match asInt (s.ev x)with
 |some (k,a)=>match asInt (s.ev y)with
  |some (k',b)=>if k=k' then match YT op k a b with
   |some v=>some (v,[],[])
   |none=>J3 op t (isConst x||isConst y) (s.ev x) (s.ev y) P s.o
   else none
  |none=>J3 op t (isConst x||isConst y) (s.ev x) (s.ev y) P s.o
 |none=>J3 op t (isConst x||isConst y) (s.ev x) (s.ev y) P s.o
theorem Cd{x:V}{k:IntKind}{a:Int}(h:asInt x=some (k,a)):x= .d (.int k a):=by
 unfold asInt at h;split at h
 ·injection h with h;cases h;rfl
 ·cases h
def D9(t:TypeId)(x:Operand)(f:Nat)(P:Program)(s:S)(_:Nat):Option gB:=lJ (iP P s.o t (s.ev x) f)
def Ea(t:TypeId)(x i:Operand)(P:Program)(s:S)(_:Nat):Option gB:=iO P s.o t (s.ev x) (s.ev i)
def T3(op:Op)(P:Program)(s:S)(fr:Nat):Option gB:=gD P s fr op
noncomputable def NO(op:Op):Program->S->Nat->Option gB:=
 match op with
 | .move x=>Qh x
 | .assign x=>Qh x
 | .pick c a b=>YR c a b
 | .build t parts=>T1 t parts
 | .buildSlice t len parts=>Cc t len parts
 | .load t x=>YS t x
 | .store t x v=>T2 t x v
 | .nilCheck x=>abM x
 | .binOp op t x y _=>YU op t x y
 | .fieldAddr t x f=>D9 t x f
 | .indexAddr t x i=>Ea t x i
 |op=>T3 op
theorem Fq{op:Op}{P:Program}{s:S}{fr:Nat}{r:gB}(h:NO op P s fr=some r):gD P s fr op=some r:=by
 cases op
 case binOp op t x y yt=>
  simp only[NO,YU,NN]at h
  have e:gD P s fr (.binOp op t x y yt)=eC P s.o op t (isConst x||isConst y) (s.ev x) (s.ev y):=rfl
  rw[e]
  split at h
  ·rename_i k a hx
   split at h
   ·rename_i k' b hy
    split at h
    ·rename_i hk
     split at h
     ·rename_i v hv
      unfold eC zp
      simp only[Cd hx,Cd hy,if_pos hk,hv]
      exact h
     ·exact h
    ·cases h
   ·exact h
  ·exact h
 all_goals exact h
end T0
inductive FD where
 |fn (n:Nat) (ic:IC) (rs:List ResultVar)
 |dfr (n:Nat) (iK eE:IC) (g t:Nat) (fA:List Operand) (rs:List ResultVar) (m r r1:Nat) (xS:IC)
 |mpc
 |no
def FD.Ok (P:Program)(f:Nat):FD->Prop
 | .fn n ic rs=>aF P f n ic rs
 | .dfr n iK eE g t fA rs m r r1 xS=>Fl P f n iK eE g t fA rs/\B8 P g m r r1 xS
 | .mpc=>Qg P f
 | .no=>True
inductive CR where
 |ret (v:V) (o:Tr ab) (nx:Nat)|bR (v:V) (o:Tr ab) (nx:Nat)
def CR.to (K X:V->(Nat->ab)->Nat->Prop):CR->Prop
 | .ret v o nx=>K v o.get nx
 | .bR v o nx=>X v o.get nx
inductive RO where
 |ok (st:St)|bR (v:V) (st:St)
def RO.to (K:S->Prop)(X:V->S->Prop):RO->Prop
 | .ok st=>K st.S
 | .bR v st=>X v st.S
inductive eI where
 |r (x:R)|c (x:CR)
abbrev Kt:=fN->St->Option eI
abbrev dN:=Nat->Bool->Nat->IC->St->Kt->Option eI
noncomputable def Ht(P:Program)(rs:List ResultVar)(st:St)(kc:CR->Option eI):Option eI:=
 match l8 P st.S rs with
 |some [v]=>kc (.ret v st.o st.nx)
 |some vs=>kc (.ret (.ck vs) st.o st.nx)
 |none=>none
noncomputable def Qi(P:Program)(rs:List ResultVar)(kc:CR->Option eI):Kt:=fun e st=>
 match e with
 | .normal=>Ht P rs st kc
 | .ret=>Ht P rs st kc
 | .bR v=>kc (.bR v st.o st.nx)
 | .exit _=>none
noncomputable def J4(P:Program)(rs:List ResultVar)(kc:CR->Option eI)(env:Tr V):Kt:=fun e s4=>
 match e with
 | .normal=>Ht P rs ⟨env,s4.o,s4.nx⟩ kc
 | .ret=>Ht P rs ⟨env,s4.o,s4.nx⟩ kc
 |_=>none
def YV:fN->Option V
 | .normal=>some (.d .fq)
 | .ret=>some (.d .fq)
 | .bR v=>some v
 | .exit _=>none
noncomputable def J5(P:Program)(rec:dN)(rs:List ResultVar)(aG:List V)(m r r1:Nat)(xS:IC)(kc:CR->Option eI):Kt:=fun e s3=>
 match YV e with
 |some u=>if aG.length<=m then rec s3.nx true m xS ⟨.e (aL (aL (cB aG) r u) r1 u),s3.o,s3.nx⟩ (J4 P rs kc s3.env)else none
 |none=>none
noncomputable def Fs(P:Program)(rec:dN)(n t:Nat)(eE:IC)(g:Nat)(fA:List Operand)(rs:List ResultVar)(m r r1:Nat)(xS:IC)(kc:CR->Option eI):Kt:=fun e s1=>
 match e with
 | .normal=>rec s1.nx false n eE ⟨s1.env.set t (.func (.func g) [] (fA.map s1.S.ev)),s1.o,s1.nx⟩ (J5 P rec rs (fA.map s1.S.ev) m r r1 xS kc)
 |_=>none
noncomputable def J6(P:Program)(cg:Nat->FD)(rec:dN)(g:Nat)(args:List V)(o:Tr ab)(nx:Nat)(kc:CR->Option eI):Option eI:=
 match cg g with
 | .fn n ic rs=>if args.length<=n then rec nx false n ic ⟨.e (cB args),o,nx⟩ (Qi P rs kc)else none
 | .dfr n iK eE g t fA rs m r r1 xS=>if args.length<=n then rec nx true n iK ⟨.e (cB args),o,nx⟩ (Fs P rec n t eE g fA rs m r r1 xS kc)else none
 | .mpc=>match args with
   |[.mp id]=>match o.get id with
    | .map kt vt l=>kc (.ret (.mp nx) (o.set nx (.map kt vt l)) (nx+1))
    |_=>none
   |_=>none
 | .no=>none
def u0:V->List V
 | .ck vs=>vs
 |v=>[v]
noncomputable def Ft(r:CR):Option R:=
 match r with
 | .ret v o _=>match v with
   | .ck [_]=>none
   |v=>match cn o.get (u0 v)with
    |some rs=>some (.ret rs)
    |none=>none
 | .bR v o _=>match dZ o.get v with
   |some x=>some (.bR x)
   |none=>none
noncomputable def YW{β:Type}(x:R)(c:R->β):β:=match x with| .ret l=>D.uX l fun l=>c (.ret l)| .bR d=>D.fc d fun d=>c (.bR d)
theorem Eb{β:Type}(x:R)(c:R->β):YW x c=c x:=by cases x<;>simp only[YW,D.fR,D.df]
noncomputable def Ce(r:CR):Option eI:=match Ft r with|some x=>YW x fun x=>some (.r x)|none=>none
theorem J7{r:CR}{a:eI}(h:Ce r=some a):∃x,Ft r=some x/\a= .r x:=by
 unfold Ce at h
 split at h
 ·rename_i x hx;rw[Eb]at h;injection h with h;exact⟨x,hx,h.symm⟩
 ·cases h
def J8(out:R)(o:Tr ab)(nx:Nat):CR:=
 match out with
 | .ret rs=> .ret (jJ rs) o nx
 | .bR x=> .bR (.d x) o nx
structure qs (P:Program) where
 YX:Nat->Bool
 fx:Nat->List D->Option R
 ok:∀g ds out,fx g ds=some out->a7 P g ds out
def J9(l:List (Nat×List D×R))(g:Nat)(ds:List D):Option R:=
 match l with
 |[]=>none
 |x::l=>match Nat.beq x.1 g with
  |true=>match D.gL x.2.1 ds with
   |true=>some x.2.2
   |false=>J9 l g ds
  |false=>J9 l g ds
theorem zO{P:Program}:∀ {l:List (Nat×List D×R)},(∀x∈l,a7 P x.1 x.2.1 x.2.2)->∀g ds out,J9 l g ds=some out->a7 P g ds out
 |[],_,_,_,_,h=>by cases h
 |x::l,hl,g,ds,out,h=>by
  simp only[J9]at h
  split at h
  ·rename_i hg
   split at h
   ·rename_i hd
    injection h with h
    have:=hl x aj
    rw[Nat.eq_of_beq_eq_true hg,D.dG _ _ hd,h]at this
    exact this
   ·exact zO (fun y hy=>hl y AU) g ds out h
  ·exact zO (fun y hy=>hl y AU) g ds out h
def qs.of {P:Program}(YX:Nat->Bool)(l:List (Nat×List D×R))(h:∀x∈l,a7 P x.1 x.2.1 x.2.2):qs P:=⟨YX,J9 l,zO h⟩
noncomputable def NP(P:Program)(cg:Nat->FD)(md:qs P)(rec:dN)(g:Nat)(ds:List D):Option R:=
 match md.fx g ds with
 |some out=>some out
 |none=>match J6 P cg rec g (ds.map .d) (.e fun _=> .no) 0 Ce with
  |some (.r x)=>some x
  |_=>none
noncomputable def Qj(out:R)(o:Tr ab)(nx:Nat)(args:List V)(kc:CR->Option eI):Option eI:=
 match out.flat with
 |true=>kc (J8 out o (nx+1))
 |false=>match out.mZ with
  |true=>kc (J8 out (Hs o (ri o.get (V.bF args))) (nx+1))
  |false=>kc (J8 out (Hs o (dk o.get (V.bF args))) (nx+1))
noncomputable def Fu(P:Program)(cg:Nat->FD)(md:qs P)(rec:dN)(g:Nat)(args:List V)(o:Tr ab)(nx:Nat)(kc:CR->Option eI):Option eI:=
 match md.YX g,cn o.get args with
 |true,some ds=>match NP P cg md rec g ds with
  |some out=>Qj out o nx args kc
  |none=>none
 |_,_=>J6 P cg rec g args o nx kc
noncomputable def Ka(id:Nat)(kc:CR->Option eI):Kt:=fun e s2=>
 match e with
 | .bR v=>kc (.bR v s2.o s2.nx)
 |e=>match s2.o.get id with
  | .loop nf m en p c d _ _=>match e with
    | .normal=>kc (.ret (.d (.bool true)) (s2.o.set id (.loop nf m en p c d .ready none)) s2.nx)
    | .ret=>kc (.ret (.d (.bool false)) (s2.o.set id (.loop nf m en p c d .done (some .ret))) s2.nx)
    | .exit j=>kc (.ret (.d (.bool false)) (s2.o.set id (.loop nf m en p c d .done (some (.exit j)))) s2.nx)
    | .bR _=>none
  |_=>none
noncomputable def Fv(rec:dN)(id nx n:Nat)(eE:IC)(kc:CR->Option eI):Kt:=fun e s1=>
 match e with
 | .normal=>match s1.o.get id with
   | .loop nf m en p c d .ready pd=>rec nx true n eE ⟨s1.env,s1.o.set id (.loop nf m en p c d .busy pd),s1.nx⟩ (Ka id kc)
   |_=>none
 | .bR v=>kc (.bR v s1.o s1.nx)
 |_=>none
noncomputable def T4(P:Program)(rec:dN)(id:Nat)(args:List V)(o:Tr ab)(nx:Nat)(kc:CR->Option eI):Option eI:=
 match o.get id with
 | .loop nf n env ps iK eE _ _=>if nf=P.funcs.size/\id<nx/\ps.all (fun t=>decide (t<n))=true/\args.length=ps.length then
  rec nx true n iK ⟨.e (nn (bA env) ps args),o,nx⟩ (Fv rec id nx n eE kc)
   else none
 |_=>none
noncomputable def xU(P:Program)(st:St)(o:cu)(kr:RO->Option eI):Option eI:=
 match NO o.op P st.S st.nx with
 |some (v,Δ,_)=>mi st.env o.dst v fun e=>uZ st.o Δ fun ob=>Nat.fc (st.nx+1) fun n=>kr (.ok ⟨e,ob,n⟩)
 |none=>none
noncomputable def YY(st:St)(dst:Option Nat)(kr:RO->Option eI)(c:CR):Option eI:=
 match c with
 | .ret v o nx=>mi st.env dst v fun e=>Nat.fc nx fun nx=>kr (.ok ⟨e,o,nx⟩)
 | .bR v o nx=>kr (.bR v ⟨st.env,o,nx⟩)
noncomputable def Kc(c:Call)(P:Program)(cg:Nat->FD)(md:qs P)(rec:dN)(st:St)(o:cu)(kr:RO->Option eI):Option eI:=
 match c.callee with
 | .value f=>match st.S.ev f with
   | .func (.func g) first cap=>Fu P cg md rec g (first++c.args.toList.map st.S.ev++cap) st.o st.nx (YY st o.dst kr)
   | .jO id=>T4 P rec id (c.args.toList.map st.S.ev) st.o st.nx (YY st o.dst kr)
   |_=>none
 | .invoke r m=>match uA P m (st.S.ev r)with
   |some (g,y)=>Fu P cg md rec g (y::c.args.toList.map st.S.ev) st.o st.nx (YY st o.dst kr)
   |none=>none
 |_=>xU P st o kr
noncomputable def T5(x:Operand)(P:Program)(_:Nat->FD)(_:qs P)(_:dN)(st:St)(_:cu)(kr:RO->Option eI):Option eI:=
 match st.S.ev x with
 | .d (.iface t y)=>kr (.bR (.d (.iface t y)) st)
 | .iface t y=>kr (.bR (.iface t y) st)
 |_=>none
noncomputable def YZ(P:Program)(_:Nat->FD)(_:qs P)(_:dN)(st:St)(o:cu)(kr:RO->Option eI):Option eI:=xU P st o kr
def R.same:R->R->Bool
 | .ret a, .ret b=>D.gL a b
 | .bR a, .bR b=>a.same b
 |_,_=>false
theorem R.ew {x y:R}(h:x.same y=true):x=y:=by
 cases x<;>cases y<;>simp only[R.same,Bool.false_eq_true]at h
 ·rw[D.dG _ _ h]
 ·rw[D.ew _ _ h]
noncomputable def brX(f:Nat->Option eI):Nat->Option eI
 |0=>none
 |n+1=>match n with
  |0=>f 0
  |n=>match brX f n with
   |some (.r a)=>match f n with
    |some (.r b)=>match R.same a b with
     |true=>some (.r a)
     |false=>none
    |_=>none
   |_=>none
theorem Kd{f:Nat->Option eI}{a:eI}:∀ {n:Nat},brX f n=some a->∀i,i<n->f i=some a
 |0,h,_,_=>by cases h
 |1,h,i,hi=>by obtain rfl:i=0:=ad
               exact h
 |n+2,h,i,hi=>by
  simp only[brX]at h
  split at h
  ·rename_i x hx
   split at h
   ·rename_i y hy
    split at h
    ·rename_i he
     have e:=R.ew he
     subst e
     rw[<- h]
     by_cases e:i=n+1
     ·subst e;exact hy
     ·exact Kd hx i ad
    ·cases h
   ·cases h
  ·cases h
noncomputable def NQ(st:St)(dst:Option Nat)(kr:RO->Option eI)(v:V)(Δ:List (Nat×ab)):Option eI:=
 mi st.env dst v fun e=>uZ st.o Δ fun ob=>Nat.fc (st.nx+1) fun n=>kr (.ok ⟨e,ob,n⟩)
noncomputable def Ke(x:Operand)(str:Bool)(P:Program)(_:Nat->FD)(_:qs P)(_:dN)(st:St)(o:cu)(kr:RO->Option eI):Option eI:=
 match oA st.o.get (st.S.ev x)with
 |some (id,l)=>match str with
  |true=>none
  |false=>match l with
   |[]=>NQ st o.dst kr (.ck [.d (.bool false)]) []
   |_=>brX (fun i=>match l[i]? with
    |some (k,x)=>NQ st o.dst kr (.ck [.d (.bool true), .d k, .d x]) [(id, .mP (l.eraseIdx i) (some (k,x)))]
    |none=>none) l.length
 |none=>xU P st o kr
noncomputable def opK(op:Op):(P:Program)->(Nat->FD)->qs P->dN->St->cu->(RO->Option eI)->Option eI:=
 match op with
 | .call c=>Kc c
 | .panic x=>T5 x
 | .next x str=>Ke x str
 |_=>YZ
noncomputable def opX(P:Program)(cg:Nat->FD)(md:qs P)(rec:dN)(st:St)(o:cu)(kr:RO->Option eI):Option eI:=opK o.op P cg md rec st o kr
noncomputable def roK(next:St->Option eI)(kr:RO->Option eI):RO->Option eI:=fun r=>match r with| .ok st=>next st| .bR v st=>kr (.bR v st)
noncomputable def zP(P:Program)(cg:Nat->FD)(md:qs P)(rec:dN)(kr:RO->Option eI):List cu->St->Option eI
 |[],st=>kr (.ok st)
 |o::l,st=>match(match o.gd with
   |none=>some true
   |some (d,want)=>match st.env.get d with
    | .d (.bool b)=>some (b==want)
    | .ck []=>some false
    |_=>none)with
  |some true=>opX P cg md rec st o (roK (zP P cg md rec kr l) kr)
  |some false=>mi st.env o.dst (.ck []) fun e=>Nat.fc (st.nx+1) fun n=>zP P cg md rec kr l ⟨e,st.o,n⟩
  |none=>none
section
variable {P:Program}{cg:Nat->FD}{md:qs P}
noncomputable def eQ(P:Program)(rec:dN):Prop:=∀b rd n ic st k a,rec b rd n ic st k=some a->∀Q:fN->S->Prop,(∀e st',k e st'=some a->Q e st'.S)->tO P n b rd ic Q st.S
theorem tR{rs:List ResultVar}{st:St}{kc:CR->Option eI}{a:eI}(h:Ht P rs st kc=some a){K X:V->(Nat->ab)->Nat->Prop}(hr:∀r,kc r=some a->r.to K X):me P rs K X .ret st.S:=by
 unfold Ht at h
 unfold me
 split at h
 ·rename_i v hv;simp only[hv];exact hr _ h
 ·rename_i vs hv hn
  simp only[hn]
  exact hr _ h
 ·cases h
theorem nw(bD:P.follows .mixedOrders=true)(cS:∀g,(cg g).Ok P g){rec:dN}(bS:eQ P rec){g:Nat}{args:List V}{o:Tr ab}{nx:Nat}{kc:CR->Option eI}{a:eI}(h:J6 P cg rec g args o nx kc=some a){K X:V->(Nat->ab)->Nat->Prop}(hr:∀r,kc r=some a->r.to K X):
 cK P g args o.get nx K X:=by
 have bn:=cS g
 unfold J6 at h
 split at h
 ·rename_i n ic rs ht
  rw[ht]at bn
  split at h
  ·rename_i hl
   refine cK.uP bD bn hl ?_
   refine bS _ _ _ _ _ _ _ h _ fun e st he=> ?_
   unfold Qi at he
   cases e with
   |normal=>exact tR he hr
   |ret=>exact tR he hr
   |bR v=>exact hr _ he
   |exit j=>cases he
  ·cases h
 ·rename_i n iK eE g' t fA rs m r0 r1 xS ht
  rw[ht]at bn
  split at h
  ·rename_i hl
   refine cK.Cb bD bn.1 bn.2 hl (bS _ _ _ _ _ _ _ h _ fun e s1 he=> ?_)
   unfold Fs at he
   cases e with
   |normal=>
    have hb:tO P n s1.nx false eE (zM P m r0 r1 xS (fA.map s1.S.ev) rs K X) ⟨aL s1.env.get t (.func (.func g') [] (fA.map s1.S.ev)),s1.o.get,s1.nx⟩:=by
     have:=bS _ _ _ _ _ _ _ he (zM P m r0 r1 xS (fA.map s1.S.ev) rs K X) (fun e s3 Xk=>by
      unfold J5 at Xk
      split at Xk
      ·rename_i u hu
       split at Xk
       ·rename_i pE
        have hrw:D7 P m r0 r1 xS (fA.map s1.S.ev) u s3.o.get s3.nx fun o nx=>me P rs K X .ret ⟨s3.env.get,o,nx⟩:=by
         refine⟨pE,bS _ _ _ _ _ _ _ Xk _ fun e4 s4 he4=> ?_⟩
         unfold J4 at he4
         cases e4 with
         |normal=>exact tR (st:=⟨s3.env,s4.o,s4.nx⟩) he4 hr
         |ret=>exact tR (st:=⟨s3.env,s4.o,s4.nx⟩) he4 hr
         |_=>cases he4
        cases e<;>simp only[YV,Option.some.injEq,reduceCtorEq]at hu<;>subst hu<;>exact hrw
       ·cases Xk
      ·cases Xk)
     simp only[St.S,Tr.jg]at this
     exact this
    exact hb
   |_=>cases he
  ·cases h
 ·rename_i ht
  rw[ht]at bn
  split at h
  ·split at h
   ·rename_i kt vt l ho
    have h2:=hr _ h
    simp only[CR.to,Tr.jg]at h2
    exact cK.TW bn ho h2
   ·cases h
  ·cases h
 ·cases h
theorem Kg{r:CR}{out:R}(ho:Ft r=some out):r.to (fun v o _=>∃vs rs,v=(match vs with|[v]=>v|vs=> .ck vs)/\cn o vs=some rs/\out= .ret rs) (fun v o _=>∃x,dZ o v=some x/\out= .bR x):=by
 unfold Ft at ho
 split at ho
 ·rename_i v o nx
  split at ho
  ·cases ho
  ·rename_i hv
   split at ho
   ·rename_i rs XM
    injection ho with ho;subst ho
    refine⟨u0 v,rs, ?_,XM,rfl⟩
    cases v with
    |ck vs=>
     match vs,hv with
     |[],_=>rfl
     |[x],hv=>exact absurd rfl (hv x)
     |_::_::_,_=>rfl
    |_=>rfl
   ·cases ho
 ·split at ho
  ·rename_i x hx
   injection ho with ho;subst ho
   exact⟨x,hx,rfl⟩
  ·cases ho
theorem Cf(bD:P.follows .mixedOrders=true)(cS:∀g,(cg g).Ok P g){rec:dN}(bS:eQ P rec){g:Nat}{ds:List D}{out:R}(h:J6 P cg rec g (ds.map .d) (.e fun _=> .no) 0 Ce=some (.r out)):a7 P g ds out:=by
 refine a7.mf (nw bD cS bS h fun r hr=> ?_)
 obtain⟨x,hx,he⟩:=J7 hr
 injection he with he;subst he
 exact Kg hx
theorem zQ(bD:P.follows .mixedOrders=true)(cS:∀g,(cg g).Ok P g){rec:dN}(bS:eQ P rec){g:Nat}{ds:List D}{out:R}(h:NP P cg md rec g ds=some out):a7 P g ds out:=by
 unfold NP at h
 split at h
 ·rename_i ac9 ho
  injection h with h;subst h
  exact md.ok _ _ _ ho
 ·split at h
  ·rename_i x hr;injection h with h;subst h;exact Cf bD cS bS hr
  ·cases h
theorem Cg(bD:P.follows .mixedOrders=true)(cS:∀g,(cg g).Ok P g){rec:dN}(bS:eQ P rec){g:Nat}{args:List V}{o:Tr ab}{nx:Nat}{kc:CR->Option eI}{a:eI}(h:Fu P cg md rec g args o nx kc=some a){K X:V->(Nat->ab)->Nat->Prop}(hr:∀r,kc r=some a->r.to K X):
 PD P g args o.get nx K X:=by
 unfold Fu at h
 split at h
 ·rename_i ds hmd eX
  split at h
  ·rename_i out Kh
   have hP:=zQ bD cS bS Kh
   refine .inl ⟨ds,eX,out,hP, ?_⟩
   unfold Qj at h
   split at h
   ·rename_i hf
    refine .inr (.inl ⟨hf, ?_⟩)
    cases out<;>exact hr _ h
   ·split at h
    ·rename_i hf
     refine .inr (.inr ⟨hf, ?_⟩)
     rw[<- kq]
     cases out<;>exact hr _ h
    ·refine .inl ?_
     rw[<- kq]
     cases out<;>exact hr _ h
  ·cases h
 ·exact .inr (nw bD cS bS h hr)
theorem NR(bD:P.follows .mixedOrders=true){rec:dN}(bS:eQ P rec){id:Nat}{args:List V}{o:Tr ab}{nx:Nat}{kc:CR->Option eI}{a:eI}(h:T4 P rec id args o nx kc=some a){K X:V->(Nat->ab)->Nat->Prop}(hr:∀r,kc r=some a->r.to K X):
 dU P id args o.get nx K X:=by
 unfold T4 at h
 split at h
 ·rename_i nf n env ps iK eE st pd ho
  split at h
  ·rename_i hc
   obtain⟨rfl,cU,D6,hl⟩:=hc
   refine dU.uP bD ho cU D6 hl ?_
   refine bS _ _ _ _ _ _ _ h _ fun e s1 he=> ?_
   unfold Fv at he
   cases e with
   |normal=>
    simp only at he
    split at he
    ·rename_i nf m en p c d pd pF
     refine⟨nf,m,en,p,c,d,pd,pF, ?_⟩
     have:=bS _ _ _ _ _ _ _ he (jB id K X) (fun e s2 h2=>by
      unfold Ka at h2
      split at h2
      ·exact hr _ h2
      ·rename_i Px
       split at h2
       ·rename_i nf' m' en' p' c' d' st' pd' T6
        cases e with
        |bR v=>cases h2
        |normal=>have h3:=hr _ h2;simp only[CR.to,Tr.jg]at h3;exact⟨nf',m',en',p',c',d',st',pd',T6,h3⟩
        |ret=>have h3:=hr _ h2;simp only[CR.to,Tr.jg]at h3;exact⟨nf',m',en',p',c',d',st',pd',T6,h3⟩
        |exit j=>have h3:=hr _ h2;simp only[CR.to,Tr.jg]at h3;exact⟨nf',m',en',p',c',d',st',pd',T6,h3⟩
       ·cases h2)
     simp only[St.S,Tr.jg]at this
     exact this
    ·cases he
   |bR v=>exact hr _ he
   |_=>cases he
  ·cases h
 ·cases h
theorem u1{st:St}{o:cu}{kr:RO->Option eI}{a:eI}(h:xU P st o kr=some a){K:S->Prop}{X:V->S->Prop}(hr:∀r,kr r=some a->r.to K X):match gD P st.S st.S.nx o.op with
 |some (v,Δ,_)=>K ⟨bu st.S.env o.dst v,put st.S.o Δ,st.S.nx+1⟩
 |none=>False:=by
 unfold xU at h
 split at h
 ·rename_i v Δ rd he
  have he:=Fq he
  simp only[jS,nv,Nat.df]at h
  have hr:=hr _ h
  simp only[RO.to,St.S,eN,kq]at hr
  have ou:gD P st.S st.S.nx o.op=some (v,Δ,rd):=he
  simp only[ou]
  exact hr
 ·cases h
theorem Fx{st:St}{dst:Option Nat}{kr:RO->Option eI}{v:V}{Δ:List (Nat×ab)}{a:eI}(h:NQ st dst kr v Δ=some a){K:S->Prop}{X:V->S->Prop}(hr:∀r,kr r=some a->r.to K X):K ⟨bu st.S.env dst v,put st.S.o Δ,st.S.nx+1⟩:=by
 unfold NQ at h
 simp only[jS,nv,Nat.df]at h
 have hr:=hr _ h
 simp only[RO.to,St.S,eN,kq]at hr
 exact hr
theorem T7(bD:P.follows .mixedOrders=true)(cS:∀g,(cg g).Ok P g){rec:dN}(bS:eQ P rec){st:St}{o:cu}{kr:RO->Option eI}{a:eI}(h:opX P cg md rec st o kr=some a){K:S->Prop}{X:V->S->Prop}(hr:∀r,kr r=some a->r.to K X):IB P st.S o X K:=by
 have cr:∀r,YY st o.dst kr r=some a->r.to (fun v o' nx'=>K ⟨bu st.S.env o.dst v,o',nx'⟩) (fun v o' nx'=>X v ⟨st.S.env,o',nx'⟩):=by
  intro r hx
  unfold YY at hx
  split at hx
  ·simp only[jS,Nat.df]at hx
   have hr:=hr _ hx
   simp only[RO.to,St.S,eN]at hr
   exact hr
  ·exact hr _ hx
 unfold opX at h
 unfold IB
 cases fl:o.op
 case call c=>
  rw[fl]at h
  have h:Kc c P cg md rec st o kr=some a:=h
  unfold Kc at h
  cases hf:c.callee
  case value f=>
   simp only[hf]at h|-
   split at h
   ·rename_i g first cap hv
    simp only[hv]
    have:=Cg bD cS bS h cr
    rcases this with⟨ds,eX,hP⟩|hC
    ·have T8:cn st.S.o (first++List.map st.S.ev c.args.toList++cap)=some ds:=eX
     simp only[T8]
     exact .inl hP
    ·split
     ·exact .inr (.inl hC)
     ·exact .inl hC
   ·rename_i id hv
    simp only[hv]
    exact NR bD bS h cr
   ·cases h
  case invoke r m=>
   simp only[hf]at h|-
   split at h
   ·rename_i g y hv
    simp only[hv]
    exact Cg bD cS bS h cr
   ·cases h
  all_goals
   simp only[hf]at h|-
   have:=u1 h hr
   rw[fl]at this
   exact this
 case panic x=>
  rw[fl]at h
  have h:T5 x P cg md rec st o kr=some a:=h
  unfold T5 at h
  split at h
  ·rename_i hv;simp only[hv];exact hr _ h
  ·rename_i hv;simp only[hv];exact hr _ h
  ·cases h
 case next x str=>
  rw[fl]at h
  have h:Ke x str P cg md rec st o kr=some a:=h
  unfold Ke at h
  have hl:oA st.S.o (st.S.ev x)=oA st.o.get (st.S.ev x):=rfl
  simp only[hl]
  split at h
  ·rename_i id l aB
   simp only[aB]
   cases str with
   |true=>cases h
   |false=>
    refine⟨rfl,fun e=> ?_,fun i k y e=> ?_⟩
    ·subst e
     exact Fx h hr
    ·cases l with
     |nil=>simp at e
     |cons p l=>
      have:=Kd h i (List.getElem?_eq_some_iff.1 e).1
      rw[e]at this
      exact Fx this hr
  ·rename_i aB
   simp only[aB]
   have:=u1 h hr
   rw[fl]at this
   exact this
 all_goals
  have h2:xU P st o kr=some a:=by rw[fl]at h;exact h
  have:=u1 h2 hr
  rw[fl]at this
  exact this
theorem tS(bD:P.follows .mixedOrders=true)(cS:∀g,(cg g).Ok P g){rec:dN}(bS:eQ P rec){kr:RO->Option eI}{a:eI}{K:S->Prop}{X:V->S->Prop}(hr:∀r,kr r=some a->r.to K X):∀ (l:List cu) (st:St),zP P cg md rec kr l st=some a->oZ P X K l st.S
 |[],st,h=>hr (.ok st) h
 |o::l,st,h=>by
  simp only[zP,jS,Nat.df]at h
  simp only[oZ]
  have op:opX P cg md rec st o (roK (zP P cg md rec kr l) kr)=some a->IB P st.S o X (oZ P X K l):=by
   intro h
   refine T7 bD cS bS h fun r hrr=> ?_
   cases r with
   |ok T9=>exact tS bD cS bS hr l T9 hrr
   |bR v T9=>exact hr (.bR v T9) hrr
  have sk:zP P cg md rec kr l ⟨sN st.env o.dst (.ck []),st.o,st.nx+1⟩=some a->oZ P X K l ⟨bu st.S.env o.dst (.ck []),st.S.o,st.S.nx+1⟩:=by
   intro h
   have:=tS bD cS bS hr l _ h
   simp only[St.S,eN]at this
   exact this
  cases hg:o.gd with
  |none=>simp only[hg]at h;exact op h
  |some p=>
   obtain⟨d,want⟩:=p
   simp only[hg]at h
   have he:st.S.env d=st.env.get d:=rfl
   simp only[he]
   cases hv:st.env.get d with
   |d x=>
    cases x with
    |bool b=>
     simp only[hv]at h|-
     by_cases e:b=want
     ·subst e
      simp only[beq_self_eq_true]at h
      rw[if_pos rfl];exact op h
     ·have:(b==want)=false:=by simpa using e
      rw[this]at h
      rw[if_neg e];exact sk h
    |_=>simp[hv]at h
   |ck vs=>
    cases vs with
    |nil=>simp only[hv]at h|-;exact sk h
    |cons a cp=>simp[hv]at h
   |_=>simp[hv]at h
end
end Go.Proofs.YtonbelhklnmjnaaGreat
namespace Go.Proofs.YtonbelhklnmjnaaGreat
mutual
def V.same:V->V->Bool
 | .d x, .d y=>x.same y
 | .bW, .bW=>true
 | .aa, .aa=>true
 | .agg a, .agg b=>V.gL a b
 | .ptr i o, .ptr j p=>Nat.beq i j&&Nat.beq o p
 | .osl i o, .osl j p=>Nat.beq i j&&Nat.beq o p
 | .qT a, .qT b=>D.gL a b
 | .iface t x, .iface u y=>Nat.beq t u&&x.same y
 | .mp i, .mp j=>Nat.beq i j
 |_,_=>false
def V.gL:List V->List V->Bool
 |[],[]=>true
 |a::cp,b::bs=>a.same b&&V.gL cp bs
 |_,_=>false
end
mutual
theorem V.ew:∀ (x y:V),x.same y=true->x=y
 | .d x,y,h=>by cases y<;>simp only[V.same,Bool.false_eq_true]at h;rw[D.ew _ _ h]
 | .bW,y,h=>by cases y<;>simp_all[V.same]
 | .aa,y,h=>by cases y<;>simp_all[V.same]
 | .agg a,y,h=>by cases y<;>simp only[V.same,Bool.false_eq_true]at h;rw[V.dG _ _ h]
 | .ptr i o,y,h=>by
   cases y<;>simp only[V.same,Bool.false_eq_true,Bool.and_eq_true]at h
   rw[Nat.eq_of_beq_eq_true h.1,Nat.eq_of_beq_eq_true h.2]
 | .osl i o,y,h=>by
   cases y<;>simp only[V.same,Bool.false_eq_true,Bool.and_eq_true]at h
   rw[Nat.eq_of_beq_eq_true h.1,Nat.eq_of_beq_eq_true h.2]
 | .qT a,y,h=>by cases y<;>simp only[V.same,Bool.false_eq_true]at h;rw[D.dG _ _ h]
 | .iface t x,y,h=>by
   cases y<;>simp only[V.same,Bool.false_eq_true,Bool.and_eq_true]at h
   rw[Nat.eq_of_beq_eq_true h.1,V.ew _ _ h.2]
 | .mp i,y,h=>by
   cases y<;>simp only[V.same,Bool.false_eq_true]at h
   rw[Nat.eq_of_beq_eq_true h]
 | .ck _,y,h| .pe _ _ _ _ _,y,h| .pp _ _,y,h| .func _ _ _,y,h| .wY _ _ _,y,h| .eZ,y,h| .jO _,y,h=>by simp[V.same]at h
theorem V.dG:∀ (x y:List V),V.gL x y=true->x=y
 |[],y,h=>by cases y<;>simp_all[V.gL]
 |a::cp,y,h=>by
  cases y<;>simp only[V.gL,Bool.false_eq_true,Bool.and_eq_true]at h
  rw[V.ew _ _ h.1,V.dG _ _ h.2]
end
def u3:List (D×D)->List (D×D)->Bool
 |[],[]=>true
 |(a,b)::l,(c,d)::m=>a.same c&&(b.same d&&u3 l m)
 |_,_=>false
theorem u4:∀ (l m:List (D×D)),u3 l m=true->l=m
 |[],m,h=>by cases m<;>simp_all[u3]
 |(a,b)::l,m,h=>by
  cases m with
  |nil=>simp[u3]at h
  |cons p m=>
   obtain⟨c,d⟩:=p
   simp only[u3,Bool.and_eq_true]at h
   rw[D.ew _ _ h.1,D.ew _ _ h.2.1,u4 l m h.2.2]
noncomputable def ab.same:ab->ab->Bool
 | .no, .no=>true
 | .row a, .row b=>V.gL a b
 | .arr e t s a, .arr f u r b=>Nat.beq e f&&Nat.beq t u&&Nat.beq s r&&D.gL a b
 | .su e a, .su f b=>Nat.beq e f&&D.gL a b
 | .map k v a, .map k' v' b=>Nat.beq k k'&&Nat.beq v v'&&u3 a b
 | .iJ a, .iJ b=>u3 a b
 | .yR a i, .yR b j=>a==b&&Nat.beq i j
 |_,_=>false
theorem ab.ew {x y:ab}(h:x.same y=true):x=y:=by
 cases x<;>cases y<;>simp only[ab.same,Bool.false_eq_true,Bool.and_eq_true]at h
 ·rfl
 ·rw[V.dG _ _ h]
 ·rw[Nat.eq_of_beq_eq_true h.1.1.1,Nat.eq_of_beq_eq_true h.1.1.2,Nat.eq_of_beq_eq_true h.1.2,D.dG _ _ h.2]
 ·rw[Nat.eq_of_beq_eq_true h.1,D.dG _ _ h.2]
 ·rw[Nat.eq_of_beq_eq_true h.1.1,Nat.eq_of_beq_eq_true h.1.2,u4 _ _ h.2]
 ·rw[u4 _ _ h]
 ·rw[eq_of_beq h.1,Nat.eq_of_beq_eq_true h.2]
noncomputable def reach(o:Nat->ab):Nat->List Nat->List Nat->List Nat
 |0,_,seen=>seen
 |_+1,[],seen=>seen
 |n+1,id::todo,seen=>match seen.contains id with
  |true=>reach o n todo seen
  |false=>reach o n ((o id).refs++todo) (id::seen)
noncomputable def eU(o o1:Nat->ab):List Nat->List (Nat×ab)
 |[]=>[]
 |id::l=>match(o id).same (o1 id)with
  |true=>eU o o1 l
  |false=>(id,o1 id)::eU o o1 l
theorem jq{o o1:Nat->ab}:∀ (l:List Nat) (x:Nat×ab),x∈eU o o1 l->x.1∈l/\x.2=o1 x.1
 |[],x,h=>by simp[eU]at h
 |id::l,x,h=>by
  simp only[eU]at h
  split at h
  ·obtain⟨h1,h2⟩:=jq l x h;exact⟨List.mem_cons_of_mem _ h1,h2⟩
  ·rcases List.mem_cons.1 h with rfl|h
   ·exact⟨aj,rfl⟩
   ·obtain⟨h1,h2⟩:=jq l x h;exact⟨List.mem_cons_of_mem _ h1,h2⟩
theorem ny{o o1:Nat->ab}:∀ (l:List Nat) (id:Nat),id∈l->id∉(eU o o1 l).map (·.1)->o1 id=o id
 |[],id,h,_=>by simp at h
 |j::l,id,h,hn=>by
  simp only[eU]at hn
  split at hn
  ·rename_i hs
   rcases List.mem_cons.1 h with rfl|h
   ·exact(ab.ew hs).symm
   ·exact ny l id h hn
  ·simp only[List.map_cons,List.mem_cons,not_or]at hn
   rcases List.mem_cons.1 h with rfl|h
   ·exact absurd rfl hn.1
   ·exact ny l id h hn.2
theorem Ch{o1:Nat->ab}:∀ (Δ:List (Nat×ab)) (o:Nat->ab),(∀x∈Δ,x.2=o1 x.1)->∀id,id∈Δ.map (·.1)\/o id=o1 id->put o Δ id=o1 id
 |[],o,_,id,h=>by rcases h with h|h;· simp at h
                  ·exact h
 |x::Δ,o,hv,id,h=>by
  simp only[put,List.foldl_cons]
  refine Ch Δ (aL o x.1 x.2) (fun y hy=>hv y (List.mem_cons_of_mem _ hy)) id ?_
  simp only[List.map_cons,List.mem_cons]at h
  simp only[aR]
  by_cases e:id=x.1
  ·right;rw[if_pos e,hv x (by simp),e]
  ·rcases h with(h|h)|h
   ·exact absurd h e
   ·exact .inl h
   ·right;rw[if_neg e];exact h
theorem sO{o o1:Nat->ab}{l:List Nat}{id:Nat}(h:id∈l):o1 id=put o (eU o o1 l) id:=by
 by_cases hm:id∈(eU o o1 l).map (·.1)
 ·exact(Ch _ o (fun x hx=>(jq l x hx).2) id (.inl hm)).symm
 ·rw[gU hm];exact ny l id h hm
inductive DR where
 |val (v:V) (Δ:List (Nat×ab)) (rd:List Nat)|bR (v:V) (ws rd:List Nat)
def DR.to (K:V->List (Nat×ab)->List Nat->Prop)(KX:V->List Nat->List Nat->Prop):DR->Prop
 | .val v Δ rd=>K v Δ rd
 | .bR v ws rd=>KX v ws rd
noncomputable def Y0(c:CR):Option eI:=some (.c c)
noncomputable def hX(P:Program)(cg:Nat->FD)(rec:dN)(g:Nat)(args:List V)(st:St):Option DR:=
 let rd:=reach st.o.get 2000 (V.aN args) []
 match rd.all (fun id=>Nat.blt id st.nx&&(st.o.get id).refs.all rd.contains)&&(V.aN args).all rd.contains with
 |true=>match J6 P cg rec g args (.e (DU rd st.o.get)) st.nx Y0 with
  |some (.c (.ret v o1 _))=>match v with
   | .ck [_]=>none
   |v=>match cn o1.get (u0 v)with
    |some rs=>match(eU st.o.get o1.get rd).all (fun x=>x.2.refs.all rd.contains)&&(V.bF (u0 v)).all (fun id=> !rd.contains id)with
     |true=>some (.val (jJ rs) (eU st.o.get o1.get rd) rd)
     |false=>none
    |none=>none
  |some (.c (.bR v o1 _))=>match dZ o1.get v with
   |some x=>match(eU st.o.get o1.get rd).all (fun x=>x.2.refs.all rd.contains)&&v.ids.all (fun id=> !rd.contains id)with
    |true=>some (.bR (.d x) ((eU st.o.get o1.get rd).map (·.1)) rd)
    |false=>none
   |none=>none
  |_=>none
 |false=>none
noncomputable def cDX(P:Program)(cg:Nat->FD)(md:qs P)(rec:dN)(g:Nat)(args:List V)(st:St)(rd:List Nat):Option DR:=
 match cn st.o.get args with
 |some ds=>match md.YX g with
  |false=>match J6 P cg rec g (ds.map .d) (.e fun _=> .no) 0 Y0 with
   |some (.c (.ret v _ _))=>match v.refs with
    |[]=>some (.val v (dk st.o.get (V.bF args)) rd)
    |_=>none
   |_=>none
  |true=>match NP P cg md rec g ds with
   |some (.ret rs)=>match D.j9 rs with
    |true=>some (.val (jJ rs) [] rd)
    |false=>some (.val (jJ rs) (dk st.o.get (V.bF args)) rd)
   |some (.bR x)=>match x.flat with
    |true=>some (.bR (.d x) [] rd)
    |false=>none
   |none=>none
 |none=>hX P cg rec g args st
noncomputable def sDX(P:Program)(st:St)(fr:Nat)(op:Op):Option DR:=
 match NO op P st.S fr with
 |some (v,Δ,_)=>some (.val v Δ (pC st.S op))
 |none=>none
def V.abN:V->Bool
 | .mp _=>true
 |_=>false
def Ua{P:Program}(md:qs P)(g:Nat)(args:List V):Bool:= !md.YX g&&args.any V.abN
def xV(args:List V):Option (List D):=
 match V.bF args with
 |[]=>cn (fun _=> .no) args
 |_=>none
noncomputable def NS(P:Program)(t:TypeId)(c:CR):Option eI:=
 match c with
 | .ret v o1 _=>match v with
   | .osl j ep=>match o1.get j with
     | .arr jj ty sz es=>match Nat.beq jj ep with
       |true=>YW (.ret [.sl es, .int .i64 (ty:Nat), .int .i64 (sz:Nat)]) fun x=>some (.r x)
       |false=>none
     |_=>none
   | .bW=>match cI P t with
     |some e=>match Nat.blt 0 (P.cellsOf e)with
      |true=>YW (.ret [.sl [], .int .i64 (e:Nat), .int .i64 (P.cellsOf e:Nat)]) fun x=>some (.r x)
      |false=>none
     |none=>none
   |_=>none
 |_=>none
noncomputable def Ub(P:Program)(cg:Nat->FD)(rec:dN)(g:Nat)(t:TypeId)(args:List V)(st:St)(fr:Nat):Option DR:=
 match xV args with
 |some ds=>match J6 P cg rec g (ds.map .d) (.e fun _=> .no) 0 (NS P t)with
  |some (.r (.ret [.sl es, .int .i64 (.ofNat ty), .int .i64 (.ofNat sz)]))=>some (.val (.osl fr 0) [(fr, .arr 0 ty sz es)] [])
  |_=>none
 |none=>match cn st.o.get args with
  |some ds=>match J6 P cg rec g (ds.map .d) (.e fun _=> .no) 0 (NS P t)with
   |some (.r (.ret [.sl es, .int .i64 (.ofNat ty), .int .i64 (.ofNat sz)]))=>match D.j9 es&&(V.bF args).all (fun id=>Nat.blt id st.nx)with
    |true=>some (.val (.osl fr 0) [(fr, .arr 0 ty sz es)] (V.bF args))
    |false=>none
   |_=>none
  |none=>none
noncomputable def NT(P:Program)(cg:Nat->FD)(md:qs P)(rec:dN)(st:St)(fr:Nat)(op:Op):Option DR:=
 match op with
 | .call c=>match c.callee with
   | .value f=>match st.S.ev f with
     | .func (.func g) first cap=>match Ua md g (first++c.args.toList.map st.S.ev++cap)with
       |true=>hX P cg rec g (first++c.args.toList.map st.S.ev++cap) st
       |false=>match cDX P cg md rec g (first++c.args.toList.map st.S.ev++cap) st (pC st.S (.call c))with
        |some r=>some r
        |none=>Ub P cg rec g (c.argTypes.getD 0 0) (first++c.args.toList.map st.S.ev++cap) st fr
     |_=>none
   |_=>sDX P st fr (.call c)
 |op=>sDX P st fr op
noncomputable def Y1(st:St):Option (Nat×Bool)->Option Bool
 |none=>some true
 |some (d,want)=>match st.env.get d with
  | .d (.bool b)=>some (b==want)
  | .ck []=>some false
  |_=>none
noncomputable def u5(P:Program)(cg:Nat->FD)(md:qs P)(rec:dN)(pr:List (List Nat)):List cu->Nat->St->Fp->List Nat->List Nat->Option (List Nat×Fp)
 |[],_,_,fp,_,ws=>some (ws,fp)
 |o::l,fr,st,fp,bad,ws=>match(pr.getD fp.length []).any (fun j=>bad.contains j)with
  |true=>u5 P cg md rec pr l (fr+1) ⟨sN st.env o.dst .aa,st.o,st.nx⟩ (fp++[([],[])]) (bad++[fp.length]) ws
  |false=>match Y1 st o.gd with
   |some true=>match NT P cg md rec st fr o.op with
    |some (.val v Δ rd)=>mi st.env o.dst v fun e=>uZ st.o Δ fun ob=>u5 P cg md rec pr l (fr+1) ⟨e,ob,st.nx⟩ (fp++[(rd,Δ.map (·.1))]) bad (ws++Δ.map (·.1))
    |_=>none
   |some false=>u5 P cg md rec pr l (fr+1) ⟨sN st.env o.dst (.ck []),st.o,st.nx⟩ (fp++[([],[])]) bad ws
   |none=>none
inductive DQ where
 |fin (st:St) (fp:Fp)|bR (v:V) (wl:List Nat) (fp:Fp)
noncomputable def u6(P:Program)(cg:Nat->FD)(md:qs P)(rec:dN)(pr:List (List Nat)):List cu->Nat->St->Fp->Option DQ
 |[],_,st,fp=>some (.fin st fp)
 |o::l,fr,st,fp=>match Y1 st o.gd with
  |some true=>match NT P cg md rec st fr o.op with
   |some (.val v Δ rd)=>mi st.env o.dst v fun e=>uZ st.o Δ fun ob=>Nat.fc (fr+1) fun fr=>u6 P cg md rec pr l fr ⟨e,ob,st.nx⟩ (fp++[(rd,Δ.map (·.1))])
   |some (.bR v ws rd)=>match u5 P cg md rec pr l (fr+1) ⟨sN st.env o.dst .aa,st.o,st.nx⟩ (fp++[(rd,[])]) [fp.length] (ws++fp.flatMap (·.2))with
    |some (wl,fp)=>some (.bR v wl fp)
    |none=>none
   |none=>none
  |some false=>mi st.env o.dst (.ck []) fun e=>Nat.fc (fr+1) fun fr=>u6 P cg md rec pr l fr ⟨e,st.o,st.nx⟩ (fp++[([],[])])
  |none=>none
noncomputable def quiet(fp:Fp):Bool:=fp.all fun x=>match x.2 with|[]=>true|_=>false
noncomputable def zR(m:Nat)(x:List Nat×List Nat):Nat->Fp->Bool
 |_,[]=>true
 |i,y::l=>(match y.2,x.2 with
  |[],[]=>true
  |_,_=>m.testBit i||(mO y.2 x.1&&mO y.2 x.2&&mO x.2 y.1))&&zR m x (i+1) l
noncomputable def Fy(ms:List Nat)(pre:Fp):Nat->Fp->Bool
 |_,[]=>true
 |j,x::l=>zR (ms.getD j 0) x 0 pre&&Fy ms (pre++[x]) (j+1) l
noncomputable def Y2{β:Type}:List Nat->(List Nat->β)->β
 |[],c=>c []
 |x::xs,c=>Nat.fc x fun x=>Y2 xs fun xs=>c (x::xs)
theorem Ki{β:Type}:∀ (x:List Nat) (c:List Nat->β),Y2 x c=c x
 |[],c=>rfl
 |x::xs,c=>by simp only[Y2,Nat.df,Ki xs]
noncomputable def NU{β:Type}:Fp->(Fp->β)->β
 |[],c=>c []
 |(a,b)::l,c=>Y2 a fun a=>Y2 b fun b=>NU l fun l=>c ((a,b)::l)
theorem Fz{β:Type}:∀ (x:Fp) (c:Fp->β),NU x c=c x
 |[],c=>rfl
 |(a,b)::l,c=>by simp only[NU,Ki,Fz l]
noncomputable def Kj(pr:List (List Nat))(fp:Fp):Bool:=match quiet fp with|true=>true|false=>NU fp fun fp=>Fy (eD pr []) [] 0 fp
theorem xW{m:Nat}{x:List Nat×List Nat}:∀ (l:Fp) (i:Nat),zR m x i l=true->∀k,k<l.length->(m.testBit (i+k)||(mO (l.getD k ([],[])).2 x.1&&mO (l.getD k ([],[])).2 x.2&&mO x.2 (l.getD k ([],[])).1))=true
 |[],i,_,k,hk=>by simp at hk
 |y::l,i,h,k,hk=>by
  simp only[zR,Bool.and_eq_true]at h
  cases k with
  |zero=>
   have h1:=h.1
   simp only[List.getD_cons_zero,Nat.add_zero]
   split at h1
   ·rename_i e1 e2
    rw[e1,e2];simp[mO]
   ·exact h1
  |succ k=>
   have:=xW l (i+1) h.2 k (by simpa using hk)
   rw[List.getD_cons_succ,show i+(k+1)=i+1+k by omega]
   exact this
theorem Ci{ms:List Nat}:∀ (l pre:Fp),Fy ms pre pre.length l=true->∀j,pre.length<=j->j<(pre++l).length->∀i,i<j->
 ((ms.getD j 0).testBit i||(mO ((pre++l).getD i ([],[])).2 ((pre++l).getD j ([],[])).1&&mO ((pre++l).getD i ([],[])).2 ((pre++l).getD j ([],[])).2&&mO ((pre++l).getD j ([],[])).2 ((pre++l).getD i ([],[])).1))=true
 |[],pre,_,j,h1,h2,i,_=>by simp at h2;omega
 |x::l,pre,h,j,h1,h2,i,hi=>by
  simp only[Fy,Bool.and_eq_true]at h
  by_cases e:j=pre.length
  ·subst e
   have:=xW pre 0 h.1 i hi
   have e1:(pre++x::l).getD pre.length ([],[])=x:=by simp[List.getD_eq_getElem?_getD]
   have e2:(pre++x::l).getD i ([],[])=pre.getD i ([],[]):=by simp[List.getD_eq_getElem?_getD,List.getElem?_append_left hi]
   rw[e1,e2]
   simpa using this
  ·have h3:=h.2
   have:=Ci l (pre++[x]) (by simpa using h3) j AS Dk i hi
   simpa using this
noncomputable def Uc(P:Program)(cg:Nat->FD)(md:qs P)(rec:dN)(l:List cu)(pr:List (List Nat))(st:St):Option (fN×St):=
 match u6 P cg md rec pr l st.nx st []with
 |some (.fin s1 fp)=>match Kj pr fp with
  |true=>Nat.fc (st.nx+l.length) fun n=>some (.normal,⟨s1.env,s1.o,n⟩)
  |false=>none
 |some (.bR v wl fp)=>match Kj pr fp with
  |true=>some (.bR v,⟨.e (pH (dstsOf l) wl l.length st.S).env, .e (pH (dstsOf l) wl l.length st.S).o,st.nx+l.length⟩)
  |false=>none
 |none=>none
noncomputable def Y3(id:Nat)(env:Tr V)(kt:Kt)(c:CR):Option eI:=
 match c with
 | .ret _ o1 AJ=>match o1.get id with
   | .loop nf m e p c d lst pd=>match lst with
     | .busy=>none
     |_=>match pd with
      |none=>kt .normal ⟨env,o1.set id (.loop nf m e p c d .exhausted pd),AJ⟩
      |some .ret=>kt .ret ⟨env,o1.set id (.loop nf m e p c d .exhausted pd),AJ⟩
      |some (.exit j)=>kt (.exit j) ⟨env,o1.set id (.loop nf m e p c d .exhausted pd),AJ⟩
   |_=>none
 | .bR v o1 AJ=>kt (.bR v) ⟨env,o1,AJ⟩
noncomputable def NV(P:Program)(cg:Nat->FD)(rec:dN)(n:Nat)(g:Operand)(ps:List Nat)(x y:IC)(st:St)(kt:Kt):Option eI:=
 match st.S.ev g with
 | .func (.func f) first cap=>J6 P cg rec f (first++[.jO st.nx]++cap) (st.o.set st.nx (.loop P.funcs.size n ((List.range n).map st.env.get) ps x y .ready none)) (st.nx+1) (Y3 st.nx st.env kt)
 |_=>none
abbrev oF:=(P:Program)->(Nat->FD)->qs P->dN->Nat->Bool->Nat->St->Kt->Option eI
noncomputable def roX(kt:Kt):RO->Option eI:=fun r=>match r with| .ok st=>kt .normal st| .bR v st=>kt (.bR v) st
noncomputable def abO(l:List cu):oF:=fun P cg md rec _ _ _ st kt=>zP P cg md rec (roX kt) l st
def xX:List Nat->Nat->Nat->Nat
 |[],_,c=>c
 |x::l,k,c=>match Nat.beq x (2^k - 1)with
  |true=>xX l (k+1) c
  |false=>xX l (k+1) (k+1)
def qt(pr:List (List Nat)):Nat:=xX (eD pr []) 0 0
noncomputable def Ud(l:List cu)(pr:List (List Nat)):oF:=fun P cg md rec _ _ _ st kt=>
 Nat.fc (qt pr) fun m=>match u6 P cg md rec pr (l.take m) st.nx st []with
 |some (.fin s1 fp)=>match Kj pr fp with
  |true=>Nat.fc (st.nx+m) fun n=>match Nat.ble m l.length with
   |true=>zP P cg md rec (roX kt) (l.drop m) ⟨s1.env,s1.o,n⟩
   |false=>none
  |false=>none
 |some (.bR _ _ _)=>match Uc P cg md rec l pr st with
  |some (e,s1)=>kt e s1
  |none=>none
 |none=>none
noncomputable def Ec(rec:dN)(b:Nat)(rd:Bool)(n:Nat)(y:IC)(kt:Kt):Kt:=fun e s1=>match e with| .normal=>rec b rd n y s1 kt|e=>kt e s1
noncomputable def abP(x y:IC):oF:=fun _ _ _ rec b rd n st kt=>rec b rd n x st (Ec rec b rd n y kt)
noncomputable def FA(a c:Option eI):Option eI:=
 match a with
 |some (.r x)=>match c with
  |some (.r y)=>match R.same x y with
   |true=>some (.r x)
   |false=>none
  |_=>none
 |_=>none
noncomputable def Y4(c:Operand)(x y:IC):oF:=fun _ _ _ rec b rd n st kt=>match st.S.ev c with
 | .d (.bool true)=>rec b rd n x st kt
 | .d (.bool false)=>rec b rd n y st kt
 | .eZ=>FA (rec b rd n x st kt) (rec b rd n y st kt)
 |_=>none
noncomputable def Ed(id:Nat)(kt:Kt):Kt:=fun e s1=>match e with
 | .exit j=>match Nat.beq j id with
   |true=>kt .normal s1
   |false=>kt (.exit j) s1
 |e=>kt e s1
noncomputable def Ue(id:Nat)(x:IC):oF:=fun _ _ _ rec b rd n st kt=>rec b rd n x st (Ed id kt)
noncomputable def Y5(x:IC):oF:=fun _ _ _ rec b rd n st kt=>match Nat.ble b st.nx with
 |true=>rec b rd n x st (Ec rec b rd n (.loop x) kt)
 |false=>none
noncomputable def Uf(e:fN):oF:=fun _ _ _ _ _ _ _ st kt=>kt e st
noncomputable def abQ:oF:=fun _ _ _ _ _ _ _ _ _=>none
noncomputable def abR(g:Operand)(ps:List Nat)(x y:IC):oF:=fun P cg _ rec _ rd n st kt=>match rd with
 |true=>none
 |false=>NV P cg rec n g ps x y st kt
noncomputable def Qk(ic:IC):oF:=
 match ic with
 | .skip=>Uf .normal
 | .ag l=>abO l
 | .eS l pr=>Ud l pr
 | .seq x y=>abP x y
 | .cond c x y=>Y4 c x y
 | .block id x=>Ue id x
 | .loop x=>Y5 x
 | .exit id=>Uf (.exit id)
 | .ret=>Uf .ret
 | .GA g ps x y=>abR g ps x y
 | .bad=>abQ
noncomputable def run(P:Program)(cg:Nat->FD)(md:qs P)(k:Nat):dN:=
 Nat.rec (motive:=fun _=>dN) (fun _ _ _ _ _ _=>none) (fun _ rec b rd n ic st kt=>Qk ic P cg md rec b rd n st kt) k
theorem Kk{P:Program}{cg:Nat->FD}{md:qs P}{k:Nat}:run P cg md (k+1)=fun b rd n ic st kt=>Qk ic P cg md (run P cg md k) b rd n st kt:=rfl
section
variable {P:Program}{cg:Nat->FD}{md:qs P}
theorem Ql(bD:P.follows .mixedOrders=true)(cS:∀g,(cg g).Ok P g){rec:dN}(bS:eQ P rec){fr:Nat}{g:Nat}{args:List V}{st:St}{r:DR}(h:hX P cg rec g args st=some r){K:V->List (Nat×ab)->List Nat->Prop}{KX:V->List Nat->List Nat->Prop}(hr:r.to K KX):
 jz P g args st.S.o st.S.nx fr K KX:=by
 unfold hX at h
 simp only at h
 generalize mL:reach st.o.get 2000 (V.aN args) []=rd at h
 split at h
 ·rename_i hc
  simp only[Bool.and_eq_true,List.all_eq_true]at hc
  obtain⟨hc1,tj⟩:=hc
  have a1:∀id∈rd,id<st.nx:=fun id aB=>Nat.le_of_ble_eq_true (hc1 id aB).1
  have a2:∀id∈V.aN args,id∈rd:=fun id aB=>by simpa using tj id aB
  have a3:∀id∈rd,∀j∈(st.o.get id).refs,j∈rd:=fun id aB j hj=>by simpa using(hc1 id aB).2 j hj
  have a0:rd.all (fun id=>decide (id<st.S.nx))=true:=List.all_eq_true.2 fun id aB=>decide_eq_true (a1 id aB)
  have key:∀ {r:CR} {a:CR},Y0 r=some (.c a)->r=a:=fun h=>by unfold Y0 at h;injection h with h;injection h
  split at h
  ·rename_i v o1 AJ hf
   split at h
   ·cases h
   ·rename_i v' tf
    split at h
    ·rename_i rs XM
     split at h
     ·rename_i Ug
      injection h with h;subst h
      simp only[Bool.and_eq_true,List.all_eq_true]at Ug
      refine⟨rd,_,a0, .inl ⟨rs,Fa.mf a1 a2 a3 (fun x hx=>(jq rd x hx).1) (fun x hx j hj=>by simpa using Ug.1 x hx j hj) (nw bD cS bS hf fun r yZ=> ?_),hr⟩⟩
      rw[key yZ]
      refine⟨fun id aB=>sO aB,u0 v,rs, ?_,XM,rfl,fun id aB=>by simpa using Ug.2 id aB⟩
      cases v with
      |ck vs=>
       match vs,tf with
       |[],_=>rfl
       |[x],hv=>exact absurd rfl (hv x)
       |_::_::_,_=>rfl
      |_=>rfl
     ·cases h
    ·cases h
  ·rename_i v o1 AJ hf
   split at h
   ·rename_i x hx
    split at h
    ·rename_i Ug
     injection h with h;subst h
     simp only[Bool.and_eq_true,List.all_eq_true]at Ug
     refine⟨rd,eU st.o.get o1.get rd,a0, .inr (.inl ⟨x,Fa.mf a1 a2 a3 (fun x hx=>(jq rd x hx).1) (fun x hx j hj=>by simpa using Ug.1 x hx j hj) (nw bD cS bS hf fun r yZ=> ?_),hr⟩)⟩
     rw[key yZ]
     exact⟨fun id aB=>sO aB,x,hx,rfl,fun id aB=>by simpa using Ug.2 id aB⟩
    ·cases h
   ·cases h
  ·cases h
 ·cases h
theorem Uh(bD:P.follows .mixedOrders=true)(cS:∀g,(cg g).Ok P g){rec:dN}(bS:eQ P rec){g:Nat}{args:List V}{st:St}{rd:List Nat}{ds:List D}(eX:cn st.o.get args=some ds){r:DR}(h:cDX P cg md rec g args st rd=some r)
 {K:V->List (Nat×ab)->List Nat->Prop} {KX:V->List Nat->List Nat->Prop} (hr:r.to K KX):
 sK P g ds (fun v=>K v (dk st.S.o (V.bF args)) rd) (fun v=>K v [] rd) (fun v=>KX v [] rd):=by
 unfold cDX at h
 simp only[eX]at h
 split at h
 ·split at h
  ·rename_i v o1 AJ Kl
   split at h
   ·rename_i hrf
    injection h with h;subst h
    exact .inr (.inr ⟨v,PH.mf hrf (nw bD cS bS Kl fun r yZ=>by unfold Y0 at yZ;injection yZ with yZ;injection yZ with yZ;rw[yZ];exact rfl),hr⟩)
   ·cases h
  ·cases h
 ·split at h
  ·rename_i rs Kh
   have hP:=zQ bD cS bS Kh
   split at h
   ·rename_i hf
    injection h with h;subst h
    exact .inl ⟨rs,hP, .inr ⟨hf,hr⟩⟩
   ·injection h with h;subst h
    exact .inl ⟨rs,hP, .inl hr⟩
  ·rename_i x Kh
   have hP:=zQ bD cS bS Kh
   split at h
   ·rename_i hf
    injection h with h;subst h
    exact .inr (.inl ⟨x,hP,hf,hr⟩)
   ·cases h
  ·cases h
theorem FB{t ty:TypeId}{sz:Nat}{es:List D}{r:CR}(h:NS P t r=some (.r (.ret [.sl es, .int .i64 (.ofNat ty), .int .i64 (.ofNat sz)]))):
 r.to (fun v o1 _=>(∃j ep,v= .osl j ep/\o1 j= .arr ep ty sz es)\/(v= .bW/\es=[]/\0<sz)) (fun _ _ _=>False):=by
 unfold NS at h
 split at h
 ·rename_i v o1 n1
  split at h
  ·rename_i j ep
   split at h
   ·rename_i jj ty' qU es' ho
    split at h
    ·rename_i he
     have he:=Nat.eq_of_beq_eq_true he
     subst he
     rw[Eb]at h
     simp only[Option.some.injEq,eI.r.injEq,R.ret.injEq,List.cons.injEq,D.sl.injEq,D.int.injEq,true_and,and_true]at h
     obtain⟨rfl,h2,h3⟩:=h
     have h2:ty'=ty:=Int.ofNat.inj h2
     have h3:qU=sz:=Int.ofNat.inj h3
     subst h2;subst h3
     exact .inl ⟨j,jj,rfl,ho⟩
    ·cases h
   ·cases h
  ·split at h
   ·rename_i e he
    split at h
    ·rename_i hp
     rw[Eb]at h
     simp only[Option.some.injEq,eI.r.injEq,R.ret.injEq,List.cons.injEq,D.sl.injEq,D.int.injEq,true_and,and_true]at h
     obtain⟨rfl,h2,h3⟩:=h
     have h3:P.cellsOf e=sz:=Int.ofNat.inj h3
     subst h3
     exact .inr ⟨rfl,rfl,Nat.blt_eq.mp hp⟩
    ·cases h
   ·cases h
  ·cases h
 ·cases h
theorem NW(bD:P.follows .mixedOrders=true)(cS:∀g,(cg g).Ok P g){rec:dN}(bS:eQ P rec){fr:Nat}{g:Nat}{t:TypeId}{args:List V}{st:St}{r:DR}(h:Ub P cg rec g t args st fr=some r){K:V->List (Nat×ab)->List Nat->Prop}{KX:V->List Nat->List Nat->Prop}(hr:r.to K KX):
 jz P g args st.S.o st.S.nx fr K KX:=by
 unfold Ub at h
 split at h
 ·rename_i ds eX
  split at h
  ·rename_i es ty sz Kl
   injection h with h;subst h
   unfold xV at eX
   split at eX
   ·rename_i aB
    exact⟨[],_,aj, .inr (.inr ⟨_,xE.NM aB eX (xE.D8 (nw bD cS bS Kl fun r yZ=>FB yZ)),hr⟩)⟩
   ·cases eX
  ·cases h
 ·split at h
  ·rename_i ds eX
   split at h
   ·rename_i es ty sz Kl
    split at h
    ·rename_i hc
     injection h with h;subst h
     simp only[Bool.and_eq_true]at hc
     refine⟨V.bF args,_, ?_, .inr (.inr ⟨_,xE.NL eX hc.1 (nw bD cS bS Kl fun r yZ=>FB yZ),hr⟩)⟩
     exact List.all_eq_true.2 fun id aB=>decide_eq_true (Nat.blt_eq.mp (List.all_eq_true.1 hc.2 id aB))
    ·cases h
   ·cases h
  ·cases h
theorem zS(bD:P.follows .mixedOrders=true)(cS:∀g,(cg g).Ok P g){rec:dN}(bS:eQ P rec){st:St}{fr:Nat}{o:cu}{r:DR}(h:NT P cg md rec st fr o.op=some r){K:V->List (Nat×ab)->List Nat->Prop}{KX:V->List Nat->List Nat->Prop}(hr:r.to K KX):
 AK P st.S fr o K KX:=by
 have hs:sDX P st fr o.op=some r->(match gD P st.S fr o.op with|some (v,Δ,_)=>K v Δ (pC st.S o.op)|none=>False):=by
  intro h
  unfold sDX at h
  split at h
  ·rename_i v Δ rd he
   injection h with h;subst h
   simp only[Fq he]
   exact hr
  ·cases h
 unfold NT at h
 unfold AK
 split at h
 ·rename_i c hc
  simp only[hc]
  split at h
  ·rename_i f hf
   simp only[hf]
   split at h
   ·rename_i g first cap hv
    simp only[hv]
    split at h
    ·have hh:=Ql bD cS bS h hr (fr:=fr)
     split
     ·exact .inr hh
     ·exact hh
    split at h
    ·rename_i r' SV
     injection h with h;subst h
     cases eX:cn st.S.o (first++List.map st.S.ev c.args.toList++cap)with
     |some ds=>exact .inl (Uh bD cS bS eX SV hr)
     |none=>
      have T8:cn st.o.get (first++List.map st.S.ev c.args.toList++cap)=none:=eX
      unfold cDX at SV
      simp only[T8]at SV
      exact Ql bD cS bS SV hr
    ·have hh:=NW bD cS bS (st:=st) h hr
     split
     ·exact .inr hh
     ·exact hh
   ·cases h
  ·rename_i eP
   rw[<- hc]at h
   have:=hs h
   rw[hc]at this
   split
   ·rename_i f hf;exact absurd hf (eP f)
   ·exact this
 ·rename_i hc
  have:=hs h
  split
  ·rename_i c hh;exact absurd hh (hc c)
  ·exact this
def gdW(s:S)(gd:Option (Nat×Bool))(A B:Prop):Prop:=
 match gd with
 |none=>A
 |some (d,want)=>match s.env d with
  | .d (.bool b)=>if b=want then A else B
  | .ck []=>B
  |_=>False
theorem zT{st:St}{gd:Option (Nat×Bool)}{t:Bool}(h:Y1 st gd=some t){A B:Prop}(hA:t=true->A)(hB:t=false->B):gdW st.S gd A B:=by
 cases gd with
 |none=>simp only[Y1,Option.some.injEq]at h;exact hA h.symm
 |some p=>
  obtain⟨d,want⟩:=p
  have he:st.S.env d=st.env.get d:=rfl
  simp only[Y1]at h
  simp only[gdW,he]
  split at h
  ·rename_i b hb
   injection h with h
   by_cases e:b=want
   ·rw[if_pos e];exact hA (by rw[<- h,e];simp)
   ·rw[if_neg e];exact hB (by rw[<- h];simpa using e)
  ·rename_i hb
   injection h with h
   exact hB h.symm
  ·cases h
theorem NX{P:Program}{KB:List Nat->Fp->Prop}{pr:List (List Nat)}{o:cu}{l:List cu}{fr:Nat}{s:S}{fp:Fp}{bad ws:List Nat}(hb:(pr.getD fp.length []).any (fun j=>bad.contains j)=false)
 (h:gdW s o.gd (AK P s fr o (fun v Δ rd=>iS P KB pr l (fr+1) ⟨bu s.env o.dst v,put s.o Δ,s.nx⟩ (fp++[(rd,Δ.map (·.1))]) bad (ws++Δ.map (·.1))) (fun _ _ _=>False)) (iS P KB pr l (fr+1) ⟨bu s.env o.dst (.ck []),s.o,s.nx⟩ (fp++[([],[])]) bad ws)):
 iS P KB pr (o::l) fr s fp bad ws:=by
 simp only[iS]
 rw[if_neg (by rw[hb];simp)]
 cases hg:o.gd with
 |none=>rw[hg]at h;exact h
 |some p=>obtain⟨d,want⟩:=p;rw[hg]at h;exact h
theorem NY{P:Program}{K:S->Fp->Prop}{KP:V->List Nat->Fp->Prop}{pr:List (List Nat)}{o:cu}{l:List cu}{fr:Nat}{s:S}{fp:Fp}
 (h:gdW s o.gd (AK P s fr o (fun v Δ rd=>lg P K KP pr l (fr+1) ⟨bu s.env o.dst v,put s.o Δ,s.nx⟩ (fp++[(rd,Δ.map (·.1))]))
  (fun v ws rd=>iS P (KP v) pr l (fr+1) ⟨bu s.env o.dst .aa,s.o,s.nx⟩ (fp++[(rd,[])]) [fp.length] (ws++fp.flatMap (·.2)))) (lg P K KP pr l (fr+1) ⟨bu s.env o.dst (.ck []),s.o,s.nx⟩ (fp++[([],[])]))):
 lg P K KP pr (o::l) fr s fp:=by
 simp only[lg]
 cases hg:o.gd with
 |none=>rw[hg]at h;exact h
 |some p=>obtain⟨d,want⟩:=p;rw[hg]at h;exact h
theorem qu(bD:P.follows .mixedOrders=true)(cS:∀g,(cg g).Ok P g){rec:dN}(bS:eQ P rec){pr:List (List Nat)}{wl:List Nat}{fp':Fp}{KB:List Nat->Fp->Prop}(hK:KB wl fp'):
 ∀ (l:List cu) (fr:Nat) (st:St) (fp:Fp) (bad ws:List Nat),u5 P cg md rec pr l fr st fp bad ws=some (wl,fp')->iS P KB pr l fr st.S fp bad ws
 |[],fr,st,fp,bad,ws,h=>by
  simp only[u5,Option.some.injEq,Prod.mk.injEq]at h
  obtain⟨rfl,rfl⟩:=h;exact hK
 |o::l,fr,st,fp,bad,ws,h=>by
  simp only[u5,jS,nv]at h
  split at h
  ·rename_i hb
   simp only[iS]
   rw[if_pos hb]
   have:=qu bD cS bS hK l _ _ _ _ _ h
   simp only[St.S,eN]at this
   exact this
  ·rename_i hb
   refine NX hb ?_
   split at h
   ·rename_i hg
    refine zT hg (fun _=> ?_) (fun h=>by cases h)
    split at h
    ·rename_i v Δ rd fl
     refine zS bD cS bS fl ?_
     have:=qu bD cS bS hK l _ _ _ _ _ h
     simp only[St.S,eN,kq]at this
     exact this
    ·cases h
   ·rename_i hg
    refine zT hg (fun h=>by cases h) (fun _=> ?_)
    have:=qu bD cS bS hK l _ _ _ _ _ h
    simp only[St.S,eN]at this
    exact this
   ·cases h
def DQ.to (K:S->Fp->Prop)(KP:V->List Nat->Fp->Prop):DQ->Prop
 | .fin st fp=>K st.S fp
 | .bR v wl fp=>KP v wl fp
theorem nz(bD:P.follows .mixedOrders=true)(cS:∀g,(cg g).Ok P g){rec:dN}(bS:eQ P rec){pr:List (List Nat)}{q:DQ}{K:S->Fp->Prop}{KP:V->List Nat->Fp->Prop}(hq:q.to K KP):
 ∀ (l:List cu) (fr:Nat) (st:St) (fp:Fp),u6 P cg md rec pr l fr st fp=some q->lg P K KP pr l fr st.S fp
 |[],fr,st,fp,h=>by
  simp only[u6,Option.some.injEq]at h
  subst h;exact hq
 |o::l,fr,st,fp,h=>by
  simp only[u6,jS,nv,Nat.df]at h
  refine NY ?_
  split at h
  ·rename_i hg
   refine zT hg (fun _=> ?_) (fun h=>by cases h)
   split at h
   ·rename_i v Δ rd fl
    refine zS bD cS bS fl ?_
    have:=nz bD cS bS hq l _ _ _ h
    simp only[St.S,eN,kq]at this
    exact this
   ·rename_i v ws rd fl
    split at h
    ·rename_i wl fp' hb
     injection h with h;subst h
     refine zS bD cS bS fl ?_
     have:=qu bD cS bS (KB:=KP v) hq l _ _ _ _ _ hb
     simp only[St.S,eN]at this
     exact this
    ·cases h
   ·cases h
  ·rename_i hg
   refine zT hg (fun h=>by cases h) (fun _=> ?_)
   have:=nz bD cS bS hq l _ _ _ h
   simp only[St.S,eN]at this
   exact this
  ·cases h
theorem zU{pr:List (List Nat)}{fp:Fp}(h:Kj pr fp=true):iI pr fp=true:=by
 unfold Kj at h
 split at h
 ·rename_i hq
  unfold quiet at hq
  have hz:∀i,(fp.getD i ([],[])).2=[]:=by
   intro i
   rw[List.getD_eq_getElem?_getD]
   cases hx:fp[i]? with
   |none=>rfl
   |some x=>
    have:=List.all_eq_true.1 hq x (List.mem_of_getElem? hx)
    simp only[Option.getD_some]
    split at this
    ·rename_i e;exact e
    ·cases this
  unfold iI
  simp only[hz,mO,List.all_nil,Bool.and_self,Bool.or_true]
  simp
 ·rw[Fz]at h
  unfold iI
  rw[List.all_eq_true]
  intro j hj
  rw[List.all_eq_true]
  intro i hi
  exact Ci fp [] h j (Nat.zero_le _) kW i IZ
theorem u7:∀ (l:List Nat) (k c:Nat),c<=k->c<=xX l k c/\∀i x,l[i]? =some x->xX l k c<=k+i->x=2^(k+i) - 1
 |[],_,c,_=>⟨Nat.le_refl _,fun i x h=>by simp at h⟩
 |y::l,k,c,hc=>by
  simp only[xX]
  split
  ·rename_i he
   obtain⟨h1,h2⟩:=u7 l (k+1) c ad
   refine⟨h1,fun i x hi hle=> ?_⟩
   cases i with
   |zero=>simp at hi;subst hi;simpa using Nat.eq_of_beq_eq_true he
   |succ i=>
    have:=h2 i x IZ ad
    rw[this,show k+(i+1)=k+1+i by omega]
  ·obtain⟨h1,h2⟩:=u7 l (k+1) (k+1) (Nat.le_refl _)
   refine⟨ad,fun i x hi hle=> ?_⟩
   cases i with
   |zero=>omega
   |succ i=>
    have:=h2 i x IZ ad
    rw[this,show k+(i+1)=k+1+i by omega]
theorem xY:∀ (pr:List (List Nat)) (acc:List Nat),(eD pr acc).length=acc.length+pr.length
 |[],acc=>by simp[eD]
 |ps::l,acc=>by simp only[eD,xY l,List.length_append,List.length_cons,List.length_nil];omega
theorem Km(pr:List (List Nat)):JN pr (qt pr)=true:=by
 refine List.all_eq_true.2 fun k hk=> ?_
 have hk:k<pr.length:=by simpa using hk
 by_cases h:k<qt pr
 ·simp[Nat.blt_eq.mpr h]
 ·have hl:k<(eD pr []).length:=by rw[xY];simpa using hk
  have:=(u7 (eD pr []) 0 0 (Nat.le_refl _)).2 k _ (List.getElem?_eq_getElem hl) (by rw[Nat.zero_add];exact Nat.le_of_not_lt h)
  rw[Nat.zero_add]at this
  rw[List.getD_eq_getElem?_getD,List.getElem?_eq_getElem hl,Option.getD_some,this]
  simp
theorem NZ(bD:P.follows .mixedOrders=true)(cS:∀g,(cg g).Ok P g){rec:dN}(bS:eQ P rec){l:List cu}{pr:List (List Nat)}{st st':St}{e:fN}(h:Uc P cg md rec l pr st=some (e,st')){Q:fN->S->Prop}(hQ:Q e st'.S):
 lg P (D2 pr (st.S.nx+l.length) Q) (BQ pr l st.S Q) pr l st.S.nx st.S []:=by
 unfold Uc at h
 split at h
 ·rename_i s1 fp hd
  split at h
  ·rename_i hf
   simp only[Nat.df,Option.some.injEq,Prod.mk.injEq]at h
   obtain⟨rfl,rfl⟩:=h
   exact nz bD cS bS (q:= .fin s1 fp) (K:=D2 pr (st.S.nx+l.length) Q) (KP:=BQ pr l st.S Q) (show D2 pr (st.S.nx+l.length) Q s1.S fp from⟨zU hf,hQ⟩) l _ _ _ hd
  ·cases h
 ·rename_i v wl fp hd
  split at h
  ·rename_i hf
   simp only[Option.some.injEq,Prod.mk.injEq]at h
   obtain⟨rfl,rfl⟩:=h
   exact nz bD cS bS (q:= .bR v wl fp) (K:=D2 pr (st.S.nx+l.length) Q) (KP:=BQ pr l st.S Q) (show BQ pr l st.S Q v wl fp from⟨zU hf,hQ⟩) l _ _ _ hd
  ·cases h
 ·cases h
theorem N0(bD:P.follows .mixedOrders=true)(cS:∀g,(cg g).Ok P g){rec:dN}(bS:eQ P rec){n:Nat}{g:Operand}{ps:List Nat}{x y:IC}{st:St}{kt:Kt}{a:eI}(h:NV P cg rec n g ps x y st kt=some a){Q:fN->S->Prop}(hQ:∀e st',kt e st'=some a->Q e st'.S):
 Bz P n (st.S.ev g) ps x y Q st.S:=by
 unfold NV at h
 refine⟨(List.range n).map st.env.get,fun i=> ?_, ?_⟩
 ·unfold bA
  simp only[List.getD_eq_getElem?_getD,List.getElem?_map]
  by_cases hi:i<n
  ·right;rw[List.getElem?_range hi];rfl
  ·left;rw[List.getElem?_eq_none (by simp;omega)];rfl
 ·split at h
  ·rename_i f first cap hv
   simp only[hv]
   refine .inl ?_
   have key:=fun {K X} hr=>nw (K:=K) (X:=X) bD cS bS h hr
   simp only[Tr.jg]at key
   refine key fun r hr=> ?_
   unfold Y3 at hr
   cases r with
   |ret v o1 AJ=>
    simp only at hr
    split at hr
    ·rename_i nf m e p c d lst pd ho
     have hl:lst≠ .busy:=by
      intro hb;subst hb;cases hr
     refine⟨nf,m,e,p,c,d,lst,pd,ho,hl, ?_⟩
     split at hr
     ·cases hr
     ·split at hr<;>(have h3:=hQ _ _ hr;simp only[oX];simp only[St.S,Tr.jg]at h3;exact h3)
    ·cases hr
   |bR v o1 AJ=>exact hQ _ _ hr
  ·cases h
theorem bL.same {b:Nat}{s:S}(h:b<=s.nx):bL b s s:=fun _ φ _ _ h1 h2=>⟨φ,h1,h2,fun _ h=>h,h,fun _ _ hr=>⟨hr,rfl⟩,fun _ e' _ he=>⟨e',he,Nat.le_refl _,fun _=>rfl⟩⟩
theorem Kn{x y:Option eI}{a:eI}(h:FA x y=some a):x=some a/\y=some a:=by
 unfold FA at h
 split at h
 ·rename_i r
  split at h
  ·rename_i r'
   split at h
   ·rename_i hs
    injection h with h;subst h
    rw[R.ew hs]
    exact⟨rfl,rfl⟩
   ·cases h
  ·cases h
 ·cases h
theorem Ui(bD:P.follows .mixedOrders=true)(cS:∀g,(cg g).Ok P g):∀k,∀j,j<=k->eQ P (run P cg md j):=by
 intro k
 induction k with
 |zero=>intro j hj b rd n ic st kt a h;obtain rfl:j=0:=ad
        cases h
 |succ k ih=>
  intro j hj b rd n ic st kt a h Q hQ
  cases j with
  |zero=>cases h
  |succ j=>
   have bS:eQ P (run P cg md j):=ih j ad
   rw[Kk]at h
   cases ic with
   |skip=>exact hQ _ _ h
   |exit id=>exact hQ _ _ h
   |ret=>exact hQ _ _ h
   |bad=>cases h
   |ag l=>
    have h:zP P cg md (run P cg md j) (roX kt) l st=some a:=h
    exact tS bD cS bS (K:=Q .normal) (X:=fun v s=>Q (.bR v) s) (fun r hr=>by
     cases r with
     |ok T9=>exact hQ .normal _ hr
     |bR v T9=>exact hQ (.bR v) _ hr) l _ h
   |eS l pr=>
    have h:Ud l pr P cg md (run P cg md j) b rd n st kt=some a:=h
    unfold Ud at h
    rw[Nat.df]at h
    split at h
    ·rename_i s1 fp hd
     split at h
     ·rename_i hf
      rw[Nat.df]at h
      split at h
      ·rename_i Nc
       refine .inr ⟨qt pr,Nat.le_of_ble_eq_true Nc,Km pr, ?_⟩
       refine nz bD cS bS (q:= .fin s1 fp) (K:=fun s' fp=>iI pr fp=true/\oZ P (fun v s=>Q (.bR v) s) (Q .normal) (l.drop (qt pr)) ⟨s'.env,s'.o,st.S.nx+qt pr⟩) (KP:=fun _ _ _=>False) (show _/\_ from⟨zU hf, ?_⟩) (l.take (qt pr)) _ _ _ hd
       exact tS bD cS bS (K:=Q .normal) (X:=fun v s=>Q (.bR v) s) (fun r hr=>by
        cases r with
        |ok T9=>exact hQ .normal _ hr
        |bR v T9=>exact hQ (.bR v) _ hr) (l.drop (qt pr)) ⟨s1.env,s1.o,st.nx+qt pr⟩ h
      ·cases h
     ·cases h
    ·split at h
     ·rename_i e s1 h1
      exact .inl (NZ bD cS bS h1 (hQ _ _ h))
     ·cases h
    ·cases h
   |seq x y=>
    have h:run P cg md j b rd n x st (Ec (run P cg md j) b rd n y kt)=some a:=h
    simp only[tO]
    refine bS _ _ _ _ _ _ _ h _ fun e s1 he=> ?_
    unfold Ec at he
    cases e with
    |normal=>exact bS _ _ _ _ _ _ _ he _ hQ
    |_=>exact hQ _ _ he
   |cond c x y=>
    have h:(match st.S.ev c with| .d (.bool true)=>run P cg md j b rd n x st kt| .d (.bool false)=>run P cg md j b rd n y st kt| .eZ=>FA (run P cg md j b rd n x st kt) (run P cg md j b rd n y st kt)|_=>none)=some a:=h
    simp only[tO]
    split at h
    ·rename_i hv
     simp only[hv]
     exact(uI _ _).mpr (bS _ _ _ _ _ _ _ h _ hQ)
    ·rename_i hv
     simp only[hv]
     exact(sF _ _).mpr (bS _ _ _ _ _ _ _ h _ hQ)
    ·rename_i hv
     simp only[hv]
     obtain⟨h1,h2⟩:=Kn h
     exact⟨bS _ _ _ _ _ _ _ h1 _ hQ,bS _ _ _ _ _ _ _ h2 _ hQ⟩
    ·cases h
   |block id x=>
    have h:run P cg md j b rd n x st (Ed id kt)=some a:=h
    simp only[tO]
    refine bS _ _ _ _ _ _ _ h _ fun e s1 he=> ?_
    unfold Ed at he
    cases e with
    |exit j'=>
     simp only at he
     split at he
     ·rename_i hb
      simp only[fO,Nat.eq_of_beq_eq_true hb,if_true];exact hQ _ _ he
     ·rename_i hb
      simp only[fO,Nat.ne_of_beq_eq_false hb,if_false];exact hQ _ _ he
    |_=>exact hQ _ _ he
   |loop x=>
    have unf:∀m Qm,run P cg md (m+1) b rd n (.loop x) Qm kt=some a->b<=Qm.nx/\run P cg md m b rd n x Qm (Ec (run P cg md m) b rd n (.loop x) kt)=some a:=by
     intro m Qm h
     have h:(match Nat.ble b Qm.nx with|true=>run P cg md m b rd n x Qm (Ec (run P cg md m) b rd n (.loop x) kt)|false=>none)=some a:=h
     split at h
     ·rename_i hb;exact⟨Nat.le_of_ble_eq_true hb,h⟩
     ·cases h
    have h:run P cg md (j+1) b rd n (.loop x) st kt=some a:=h
    refine⟨fun m s=>m<=k+1/\∃st,s=st.S/\run P cg md m b rd n (.loop x) st kt=some a,⟨j+1,st.S,bL.same (unf j st h).1,hj,st,rfl,h⟩, ?_⟩
    rintro m s0 ⟨hm,Qm,rfl,h0⟩
    cases m with
    |zero=>cases h0
    |succ m=>
     have Y6:eQ P (run P cg md m):=ih m ad
     refine Y6 _ _ _ _ _ _ _ (unf m Qm h0).2 _ fun e s1 he=> ?_
     unfold Ec at he
     cases e with
     |normal=>
      refine⟨m,s1.S,Nat.lt_succ_self _,bL.same ?_,ad,s1,rfl,he⟩
      cases m with
      |zero=>cases he
      |succ m=>exact(unf m s1 he).1
     |_=>exact hQ _ _ he
   |GA g ps x y=>
    cases rd with
    |true=>
     have h:(none:Option eI)=some a:=h
     cases h
    |false=>
     have h:NV P cg (run P cg md j) n g ps x y st kt=some a:=h
     exact⟨rfl,_, .inl rfl,N0 bD cS bS h hQ⟩
noncomputable def zV(P:Program)(cg:Nat->FD)(md:qs P)(k:Nat)(g:Nat)(ds:List D):Option R:=
 match J6 P cg (run P cg md k) g (ds.map .d) (.e fun _=> .no) 0 Ce with
 |some (.r x)=>some x
 |_=>none
theorem a7.o9 (bD:P.follows .mixedOrders=true)(cS:∀g,(cg g).Ok P g){k g:Nat}{ds:List D}{out:R}(h:zV P cg md k g ds=some out):a7 P g ds out:=by
 unfold zV at h
 split at h
 ·rename_i x hr;injection h with h;subst h;exact Cf bD cS (Ui bD cS k k (Nat.le_refl _)) hr
 ·cases h
end
end Go.Proofs.YtonbelhklnmjnaaGreat
namespace Go.Proofs.YtonbelhklnmjnaaGreat
def Tr.FC {α:Type}(p:Nat->α->Prop):Tr α->(Nat->Nat)->Prop
 | .e g,f=>∀i,p (f i) (g i)
 | .n x l r,f=>p (f 0) x/\FC p l (fun i=>f (2*i+1))/\FC p r (fun i=>f (2*i+2))
theorem Tr.zW {α:Type}{p:Nat->α->Prop}:∀ {f:Nat->Nat} (t:Tr α),t.FC p f->∀k,p (f k) (t.get k)
 |f, .e g,h,k=>h k
 |f, .n x l r,h,k=>by
  obtain⟨h1,h2,h3⟩:=h
  rw[Tr.uW]
  split
  ·rename_i e;subst e;exact h1
  ·split
   ·have:=Tr.zW l h2 (k/2)
    rwa [show 2*(k/2)+1=k by omega]at this
   ·have:=Tr.zW r h3 (k/2 - 1)
    rwa [show 2*(k/2 - 1)+2=k by omega]at this
end Go.Proofs.YtonbelhklnmjnaaGreat
