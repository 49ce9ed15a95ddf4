/-
  A PART OF THE PROOF. Conditions: none.
-/
import Derived.Test.YtlhemmpklhhgoaaGreatQt10
set_option linter.unusedSimpArgs false
set_option linter.unusedVariables false
namespace Go.Proofs.YtlhemmpklhhgoaaGreat
section
inductive Tr (α:Type) where
 |e (f:Nat->α)
 |n (x:α) (l r:Tr α)
noncomputable def Tr.get {α:Type}(t:Tr α):Nat->α:=
 Tr.rec (motive:=fun _=>Nat->α) (fun f=>f) (fun x _ _ l r k=>Bool.rec (Bool.rec (r (Nat.sub (Nat.div k 2) 1)) (l (Nat.div k 2)) (Nat.beq (Nat.mod k 2) 1)) x (Nat.beq k 0)) t
theorem Tr.GA {α:Type}(f:Nat->α):(Tr.e f).get=f:=rfl
noncomputable def Tr.vT {α:Type}(x:α):Nat->Tr α->Nat->Tr α
 |0,t,k=> .e (ay t.get k x)
 |d+1, .e f,k=>match Nat.beq k 0 with
  |true=> .n x (.e fun i=>f (2*i+1)) (.e fun i=>f (2*i+2))
  |false=>match Nat.beq (k%2) 1 with
   |true=> .n (f 0) (Tr.vT x d (.e fun i=>f (2*i+1)) (k/2)) (.e fun i=>f (2*i+2))
   |false=> .n (f 0) (.e fun i=>f (2*i+1)) (Tr.vT x d (.e fun i=>f (2*i+2)) (k/2 - 1))
 |d+1, .n y l r,k=>match Nat.beq k 0 with
  |true=> .n x l r
  |false=>match Nat.beq (k%2) 1 with
   |true=> .n y (Tr.vT x d l (k/2)) r
   |false=> .n y l (Tr.vT x d r (k/2 - 1))
noncomputable def Tr.set {α:Type}(t:Tr α)(k:Nat)(x:α):Tr α:=Tr.vT x 24 t k
theorem Tr.vU {α:Type}{x:α}{l r:Tr α}{k:Nat}:(Tr.n x l r).get k=if k=0 then x else if k%2=1 then l.get (k/2)else r.get (k/2 - 1):=by
 show @Bool.rec (fun _=>α) (@Bool.rec (fun _=>α) (r.get (k/2 - 1)) (l.get (k/2)) (Nat.beq (k%2) 1)) x (Nat.beq k 0)=_
 by_cases h:k=0
 ·subst h;rfl
 ·have:Nat.beq k 0=false:=by cases k with|zero=>exact absurd rfl h|succ k=>rfl
  simp only[this,h,if_false]
  by_cases h2:k%2=1
  ·simp[h2]
  ·have:Nat.beq (k%2) 1=false:=by
    cases hb:Nat.beq (k%2) 1 with
    |false=>rfl
    |true=>exact absurd (Nat.eq_of_beq_eq_true hb) h2
   simp[h2,this]
theorem Tr.nD {α:Type}(x:α):∀ (d:Nat) (t:Tr α) (k:Nat),(Tr.vT x d t k).get=ay t.get k x
 |0,t,k=>rfl
 |d+1, .e f,k=>by
  funext i
  simp only[Tr.vT]
  have hb:∀a b:Nat,Nat.beq a b=decide (a=b):=fun a b=>by
   cases h:Nat.beq a b with
   |true=>simp[Nat.eq_of_beq_eq_true h]
   |false=>simp[Nat.ne_of_beq_eq_false h]
  rw[hb,hb]
  by_cases h:k=0
  ·subst h
   simp only[decide_true,Tr.vU,aL]
   by_cases hi:i=0
   ·simp[hi]
   ·simp only[hi,if_false]
    by_cases h2:i%2=1
    ·simp only[h2,if_true,Tr.GA];congr 1;omega
    ·simp only[h2,if_false,Tr.GA];congr 1;omega
  ·simp only[h,decide_false]
   by_cases hk:k%2=1
   ·simp only[hk,decide_true,Tr.vU,Tr.nD x d,aL,Tr.GA]
    by_cases hi:i=0
    ·exact FM
    ·simp only[hi,if_false]
     by_cases h2:i%2=1
     ·simp only[h2,if_true]
      have e1:2*(i/2)+1=i:=af
      rw[e1]
      by_cases e:i=k
      ·simp[e]
      ·exact FE
     ·simp only[h2,if_false]
      rw[if_neg (by intro e;subst e;exact h2 hk)]
      congr 1;omega
   ·simp only[hk,decide_false,Tr.vU,Tr.nD x d,aL,Tr.GA]
    by_cases hi:i=0
    ·exact FM
    ·simp only[hi,if_false]
     by_cases h2:i%2=1
     ·simp only[h2,if_true]
      rw[if_neg (by intro e;subst e;exact hk h2)]
      congr 1;omega
     ·simp only[h2,if_false]
      have e1:2*(i/2 - 1)+2=i:=af
      rw[e1]
      by_cases e:i=k
      ·simp[e]
      ·exact FE
 |d+1, .n y l r,k=>by
  funext i
  simp only[Tr.vT]
  have hb:∀a b:Nat,Nat.beq a b=decide (a=b):=fun a b=>by
   cases h:Nat.beq a b with
   |true=>simp[Nat.eq_of_beq_eq_true h]
   |false=>simp[Nat.ne_of_beq_eq_false h]
  rw[hb,hb]
  by_cases h:k=0
  ·subst h
   simp only[decide_true,Tr.vU,aL]
   by_cases hi:i=0
   ·simp[hi]
   ·simp[hi]
  ·simp only[h,decide_false]
   by_cases hk:k%2=1
   ·simp only[hk,decide_true,Tr.vU,Tr.nD x d,aL]
    by_cases hi:i=0
    ·exact FM
    ·simp only[hi,if_false]
     by_cases h2:i%2=1
     ·simp only[h2,if_true]
      by_cases e:i=k
      ·simp[e]
      ·exact FE
     ·simp only[h2,if_false]
      rw[if_neg (by intro e;subst e;exact h2 hk)]
   ·simp only[hk,decide_false,Tr.vU,Tr.nD x d,aL]
    by_cases hi:i=0
    ·exact FM
    ·simp only[hi,if_false]
     by_cases h2:i%2=1
     ·simp only[h2,if_true]
      rw[if_neg (by intro e;subst e;exact hk h2)]
     ·simp only[h2,if_false]
      by_cases e:i=k
      ·simp[e]
      ·exact FE
theorem Tr.gR {α:Type}(t:Tr α)(k:Nat)(x:α):(t.set k x).get=ay t.get k x:=Tr.nD x 24 t k
noncomputable def Nat.fc {β:Type}(n:Nat)(c:Nat->β):β:=Nat.rec (motive:=fun _=>β) (c 0) (fun m _=>c (Nat.succ m)) n
theorem Nat.cZ {β:Type}(n:Nat)(c:Nat->β):Nat.fc n c=c n:=by cases n<;>rfl
noncomputable def Int.fc {β:Type}(n:Int)(c:Int->β):β:=Int.rec (motive:=fun _=>β) (fun m=>Nat.fc m fun m=>c (.ofNat m)) (fun m=>Nat.fc m fun m=>c (.negSucc m)) n
theorem Int.cZ {β:Type}(n:Int)(c:Int->β):Int.fc n c=c n:=by cases n<;>simp only[Int.fc,Nat.cZ]
mutual
noncomputable def D.fc {β:Type}:D->(D->β)->β
 | .int k n,c=>Int.fc n fun n=>c (.int k n)
 | .bool b,c=>match b with|true=>c (.bool true)|false=>c (.bool false)
 | .agg l,c=>D.vV l fun l=>c (.agg l)
 | .sl l,c=>D.vV l fun l=>c (.sl l)
 | .iface t x,c=>D.fc x fun x=>c (.iface t x)
 | .str s,c=>c (.str s)
 | .eT,c=>c .eT
 | .lu,c=>c .lu
 | .cz,c=>c .cz
 | .dK,c=>c .dK
 | .mp ks vs,c=>D.vV ks fun ks=>D.vV vs fun vs=>c (.mp ks vs)
noncomputable def D.vV {β:Type}:List D->(List D->β)->β
 |[],c=>c []
 |x::xs,c=>D.fc x fun x=>D.vV xs fun xs=>c (x::xs)
end
mutual
theorem D.cZ {β:Type}:∀ (x:D) (c:D->β),D.fc x c=c x
 | .int k n,c=>by simp only[D.fc,Int.cZ]
 | .bool b,c=>by cases b<;>rfl
 | .agg l,c=>by simp only[D.fc,D.fG l]
 | .sl l,c=>by simp only[D.fc,D.fG l]
 | .iface t x,c=>by simp only[D.fc,D.cZ x]
 | .mp ks vs,c=>by simp only[D.fc,D.fG ks,D.fG vs]
 | .str _,_| .eT,_| .lu,_| .cz,_| .dK,_=>by simp only[D.fc]
theorem D.fG {β:Type}:∀ (x:List D) (c:List D->β),D.vV x c=c x
 |[],c=>by simp only[D.vV]
 |x::xs,c=>by simp only[D.vV,D.cZ x,D.fG xs]
end
mutual
noncomputable def V.fc {β:Type}:V->(V->β)->β
 | .d x,c=>D.fc x fun x=>c (.d x)
 | .agg l,c=>V.vV l fun l=>c (.agg l)
 | .bS l,c=>V.vV l fun l=>c (.bS l)
 | .ptr i o,c=>Nat.fc i fun i=>Nat.fc o fun o=>c (.ptr i o)
 | .osl i o,c=>Nat.fc i fun i=>Nat.fc o fun o=>c (.osl i o)
 | .pe a b i j k,c=>Nat.fc a fun a=>Nat.fc b fun b=>Nat.fc i fun i=>Nat.fc j fun j=>Nat.fc k fun k=>c (.pe a b i j k)
 | .pp l o,c=>D.vV l fun l=>Nat.fc o fun o=>c (.pp l o)
 | .func f a b,c=>V.vV a fun a=>V.vV b fun b=>c (.func f a b)
 | .iface t x,c=>V.fc x fun x=>c (.iface t x)
 | .oV l,c=>D.vV l fun l=>c (.oV l)
 | .x4 i j k,c=>Nat.fc i fun i=>Nat.fc j fun j=>Nat.fc k fun k=>c (.x4 i j k)
 | .mp i,c=>Nat.fc i fun i=>c (.mp i)
 | .kn i,c=>Nat.fc i fun i=>c (.kn i)
 | .ax,c=>c .ax
 | .ad,c=>c .ad
 | .fC,c=>c .fC
noncomputable def V.vV {β:Type}:List V->(List V->β)->β
 |[],c=>c []
 |x::xs,c=>V.fc x fun x=>V.vV xs fun xs=>c (x::xs)
end
mutual
theorem V.cZ {β:Type}:∀ (x:V) (c:V->β),V.fc x c=c x
 | .d x,c=>by simp only[V.fc,D.cZ]
 | .agg l,c=>by simp only[V.fc,V.fG l]
 | .bS l,c=>by simp only[V.fc,V.fG l]
 | .pp l o,c=>by simp only[V.fc,D.fG,Nat.cZ]
 | .func f a b,c=>by simp only[V.fc,V.fG a,V.fG b]
 | .iface t x,c=>by simp only[V.fc,V.cZ x]
 | .oV l,c=>by simp only[V.fc,D.fG]
 | .ptr _ _,_| .osl _ _,_| .pe _ _ _ _ _,_| .x4 _ _ _,_| .mp _,_| .kn _,_| .ax,_| .ad,_| .fC,_=>by simp only[V.fc,Nat.cZ]
theorem V.fG {β:Type}:∀ (x:List V) (c:List V->β),V.vV x c=c x
 |[],c=>by simp only[V.vV]
 |x::xs,c=>by simp only[V.vV,V.cZ x,V.fG xs]
end
section
variable {β:Type}
noncomputable def aaP(k:IntKind)(n:Int)(c:V->β):β:=Int.fc n fun n=>c (.d (.int k n))
noncomputable def aaQ(b:Bool)(c:V->β):β:= @Bool.rec (fun _=>β) (c (.d (.bool false))) (c (.d (.bool true))) b
noncomputable def UN(x:D)(c:V->β):β:=D.fc x fun x=>c (.d x)
noncomputable def vD(x:D):(V->β)->β:=match x with| .int k n=>aaP k n| .bool b=>aaQ b|x=>UN x
noncomputable def aaR(i o:Nat)(c:V->β):β:=Nat.fc i fun i=>Nat.fc o fun o=>c (.ptr i o)
noncomputable def aaS(i o:Nat)(c:V->β):β:=Nat.fc i fun i=>Nat.fc o fun o=>c (.osl i o)
noncomputable def vPe(a b i j k:Nat)(c:V->β):β:=Nat.fc a fun a=>Nat.fc b fun b=>Nat.fc i fun i=>Nat.fc j fun j=>Nat.fc k fun k=>c (.pe a b i j k)
noncomputable def V.XN (v:V):(V->β)->β:=match v with| .d x=>vD x| .ptr i o=>aaR i o| .osl i o=>aaS i o| .pe a b i j k=>vPe a b i j k|v=>V.fc v
theorem V.UO (v:V)(c:V->β):V.XN v c=c v:=by
 cases v
 case d x=>
  cases x
  case int k n=>simp only[V.XN,vD,aaP,Int.cZ]
  case bool b=>cases b<;>rfl
  all_goals exact D.cZ _ _
 case ptr i o=>simp only[V.XN,aaR,Nat.cZ]
 case osl i o=>simp only[V.XN,aaS,Nat.cZ]
 case pe a b i j k=>simp only[V.XN,vPe,Nat.cZ]
 all_goals exact V.cZ _ _
end
noncomputable def XO{β:Type}:List (D×D)->(List (D×D)->β)->β
 |[],c=>c []
 |(a,b)::l,c=>D.fc a fun a=>D.fc b fun b=>XO l fun l=>c ((a,b)::l)
theorem Lc{β:Type}:∀ (x:List (D×D)) (c:List (D×D)->β),XO x c=c x
 |[],c=>rfl
 |(a,b)::l,c=>by simp only[XO,D.cZ,Lc l]
noncomputable def ab.fc {β:Type}(x:ab)(c:ab->β):β:=
 match x with
 | .row cs=>V.vV cs fun cs=>c (.row cs)
 | .arr e t s es=>Nat.fc e fun e=>Nat.fc s fun s=>D.vV es fun es=>c (.arr e t s es)
 | .uo e es=>Nat.fc e fun e=>D.vV es fun es=>c (.uo e es)
 | .map kt vt l=>XO l fun l=>c (.map kt vt l)
 | .b7 l=>XO l fun l=>c (.b7 l)
 | .rG l last=>XO l fun l=>c (.rG l last)
 | .zH l pos=>Nat.fc pos fun pos=>c (.zH l pos)
 |x=>c x
theorem ab.cZ {β:Type}(x:ab)(c:ab->β):ab.fc x c=c x:=by cases x<;>simp only[ab.fc,V.fG,D.fG,Nat.cZ,Lc]
noncomputable def Tr.yM {α β:Type}(x:α)(d:Nat):Tr α->Nat->(Tr α->β)->β:=
 Nat.rec (motive:=fun _=>Tr α->Nat->(Tr α->β)->β) (fun t k c=>c (.e (ay t.get k x)))
  (fun _ ih t k c=>Tr.rec (motive:=fun _=>β) (fun f=>
   Bool.rec (Bool.rec (ih (.e fun i=>f (2*i+2)) (Nat.sub (Nat.div k 2) 1) fun r=>c (.n (f 0) (.e fun i=>f (2*i+1)) r)) (ih (.e fun i=>f (2*i+1)) (Nat.div k 2) fun l=>c (.n (f 0) l (.e fun i=>f (2*i+2)))) (Nat.beq (Nat.mod k 2) 1))
    (c (.n x (.e fun i=>f (2*i+1)) (.e fun i=>f (2*i+2)))) (Nat.beq k 0))
   (fun y l r _ _=>Bool.rec (Bool.rec (ih r (Nat.sub (Nat.div k 2) 1) fun r=>c (.n y l r)) (ih l (Nat.div k 2) fun l=>c (.n y l r)) (Nat.beq (Nat.mod k 2) 1)) (c (.n x l r)) (Nat.beq k 0)) t) d
theorem Tr.vW {α β:Type}(x:α):∀ (d:Nat) (t:Tr α) (k:Nat) (c:Tr α->β),Tr.yM x d t k c=c (Tr.vT x d t k)
 |0,t,k,c=>rfl
 |d+1, .e f,k,c=>by
  show @Bool.rec (fun _=>β) (@Bool.rec (fun _=>β) (Tr.yM x d (.e fun i=>f (2*i+2)) (k/2 - 1) fun r=>c (.n (f 0) (.e fun i=>f (2*i+1)) r)) (Tr.yM x d (.e fun i=>f (2*i+1)) (k/2) fun l=>c (.n (f 0) l (.e fun i=>f (2*i+2)))) (Nat.beq (k%2) 1)) (c (.n x (.e fun i=>f (2*i+1)) (.e fun i=>f (2*i+2)))) (Nat.beq k 0)=_
  simp only[Tr.vT,Tr.vW x d]
  cases Nat.beq k 0
  ·cases Nat.beq (k%2) 1<;>rfl
  ·rfl
 |d+1, .n y l r,k,c=>by
  show @Bool.rec (fun _=>β) (@Bool.rec (fun _=>β) (Tr.yM x d r (k/2 - 1) fun r=>c (.n y l r)) (Tr.yM x d l (k/2) fun l=>c (.n y l r)) (Nat.beq (k%2) 1)) (c (.n x l r)) (Nat.beq k 0)=_
  simp only[Tr.vT,Tr.vW x d]
  cases Nat.beq k 0
  ·cases Nat.beq (k%2) 1<;>rfl
  ·rfl
noncomputable def Tr.UP {α β:Type}(t:Tr α)(k:Nat)(x:α)(c:Tr α->β):β:=Tr.yM x 24 t k c
theorem Tr.GC {α β:Type}(t:Tr α)(k:Nat)(x:α)(c:Tr α->β):t.UP k x c=c (t.set k x):=Tr.vW x 24 t k c
structure St where
 env:Tr V
 o:Tr ab
 nx:Nat
noncomputable def St.S (st:St):S:=⟨st.env.get,st.o.get,st.nx⟩
noncomputable def Iv(o:Tr ab)(Δ:List (Nat×ab)):Tr ab:=Δ.foldl (fun f x=>f.set x.1 x.2) o
noncomputable def tD(env:Tr V)(dst:Option Tmp)(v:V):Tr V:=match dst with|some d=>env.set d v|none=>env
noncomputable def vX{β:Type}(o:Tr ab):List (Nat×ab)->(Tr ab->β)->β
 |[],c=>c o
 |(i,x)::Δ,c=>ab.fc x fun x=>o.UP i x fun o=>vX o Δ c
theorem nE{β:Type}:∀ (Δ:List (Nat×ab)) (o:Tr ab) (c:Tr ab->β),vX o Δ c=c (Iv o Δ)
 |[],o,c=>rfl
 |(i,x)::Δ,o,c=>by simp only[vX,ab.cZ,Tr.GC,nE Δ];rfl
noncomputable def mn{β:Type}(env:Tr V)(dst:Option Tmp)(v:V)(c:Tr V->β):β:=match dst with|some d=>V.XN v fun v=>env.UP d v c|none=>c env
theorem jv{β:Type}(env:Tr V)(dst:Option Tmp)(v:V)(c:Tr V->β):mn env dst v c=c (tD env dst v):=by
 cases dst<;>simp only[mn,tD,V.UO,Tr.GC]
theorem jP:∀ (Δ:List (Nat×ab)) (o:Tr ab),(Iv o Δ).get=put o.get Δ
 |[],_=>rfl
 |x::Δ,o=>by
  simp only[Iv,put,List.foldl_cons]
  have:=jP Δ (o.set x.1 x.2)
  simp only[Iv,put]at this
  rw[this,Tr.gR]
theorem jn(env:Tr V)(dst:Option Tmp)(v:V):(tD env dst v).get=a8 env.get dst v:=by
 cases dst<;>simp[tD,a8,Tr.gR]
section UQ
def RK(x:Operand)(_:Program)(s:S)(_:Nat):Option fX:=one (s.ev x)
def aaT(c a b:Operand)(_:Program)(s:S)(_:Nat):Option fX:=mh (qI (s.ev c) (s.ev a) (s.ev b))
def UR(t:TypeId)(parts:Array (Nat×Operand))(P:Program)(s:S)(_:Nat):Option fX:=mh (Ad P t (parts.toList.map fun p=>(p.1,s.ev p.2)))
def CT(t:TypeId)(len:Nat)(parts:Array (Nat×Operand))(P:Program)(s:S)(fr:Nat):Option fX:=gu P s.o fr t len (parts.toList.map fun p=>(p.1,s.ev p.2))
def aaU(t:TypeId)(x:Operand)(P:Program)(s:S)(_:Nat):Option fX:=nr P s.o t (s.ev x)
def US(t:TypeId)(x v:Operand)(P:Program)(s:S)(_:Nat):Option fX:=sn P s.o t (s.ev x) (s.ev v)
def aem(x:Operand)(_:Program)(s:S)(_:Nat):Option fX:=mh (jq s.o (s.ev x))
noncomputable def aaV(op:BinOp):IntKind->Int->Int->Option V:=
 match op with
 | .add=>fun k a b=>some (.d (.int k (k.wrap (Int.add a b))))
 | .sub=>fun k a b=>some (.d (.int k (k.wrap (Int.sub a b))))
 | .mul=>fun k a b=>some (.d (.int k (k.wrap (Int.mul a b))))
 |op=>Ci op
theorem Oq(op:BinOp):aaV op=Ci op:=by cases op<;>rfl
def asInt(x:V):Option (IntKind×Int):=match x with| .d (.int k a)=>some (k,a)|_=>none
def Ld(op:BinOp)(t:TypeId)(c:Bool)(x y:V)(P:Program)(o:Nat->ab):Option fX:=fw P o op t c x y
noncomputable def aaW(op:BinOp)(t:TypeId)(x y:Operand)(P:Program)(s:S)(_:Nat):Option fX:=
 match asInt (s.ev x)with
 |some (k,a)=>match asInt (s.ev y)with
  |some (k',b)=>if k=k' then match aaV op k a b with
   |some v=>some (v,[],[])
   |none=>Ld op t (isConst x||isConst y) (s.ev x) (s.ev y) P s.o
   else none
  |none=>Ld op t (isConst x||isConst y) (s.ev x) (s.ev y) P s.o
 |none=>Ld op t (isConst x||isConst y) (s.ev x) (s.ev y) P s.o
theorem CU{x:V}{k:IntKind}{a:Int}(h:asInt x=some (k,a)):x= .d (.int k a):=by
 unfold asInt at h;split at h
 ·injection h with h;cases h;rfl
 ·cases h
def ER(t:TypeId)(x:Operand)(f:Nat)(P:Program)(s:S)(_:Nat):Option fX:=mh (il P s.o t (s.ev x) f)
def ES(t:TypeId)(x i:Operand)(P:Program)(s:S)(_:Nat):Option fX:=ik P s.o t (s.ev x) (s.ev i)
def UT(op:Op)(P:Program)(s:S)(fr:Nat):Option fX:=gG P s fr op
noncomputable def Ot(op:Op):Program->S->Nat->Option fX:=
 match op with
 | .move x=>RK x
 | .assign x=>RK x
 | .pick c a b=>aaT c a b
 | .build t parts=>UR t parts
 | .buildSlice t len parts=>CT t len parts
 | .load t x=>aaU t x
 | .store t x v=>US t x v
 | .nilCheck x=>aem x
 | .binOp op t x y _=>aaW op t x y
 | .fieldAddr t x f=>ER t x f
 | .indexAddr t x i=>ES t x i
 |op=>UT op
theorem GD{op:Op}{P:Program}{s:S}{fr:Nat}{r:fX}(h:Ot op P s fr=some r):gG P s fr op=some r:=by
 cases op
 case binOp op t x y yt=>
  simp only[Ot,aaW,Oq]at h
  have e:gG P s fr (.binOp op t x y yt)=fw P s.o op t (isConst x||isConst y) (s.ev x) (s.ev y):=rfl
  rw[e]
  split at h
  ·rename_i k a hx
   split at h
   ·rename_i k' b hy
    split at h
    ·rename_i hk
     split at h
     ·rename_i v hv
      unfold fw Ac
      simp only[CU hx,CU hy,if_pos hk,hv]
      exact h
     ·exact h
    ·cases h
   ·exact h
  ·exact h
 all_goals exact h
end UQ
inductive FD where
 |fn (n:Nat) (ic:IC) (rs:List ResultVar)
 |dfr (n:Nat) (jE fh:IC) (g t:Nat) (ft:List Operand) (rs:List ResultVar) (m r r1:Nat) (yL:IC)
 |mpc
 |no
def FD.Ok (P:Program)(f:Nat):FD->Prop
 | .fn n ic rs=>aN P f n ic rs
 | .dfr n jE fh g t ft rs m r r1 yL=>Gx P f n jE fh g t ft rs/\CO P g m r r1 yL
 | .mpc=>Gy P f
 | .no=>True
inductive CR where
 |ret (v:V) (o:Tr ab) (nx:Nat)|bL (v:V) (o:Tr ab) (nx:Nat)
def CR.to (K X:V->(Nat->ab)->Nat->Prop):CR->Prop
 | .ret v o nx=>K v o.get nx
 | .bL v o nx=>X v o.get nx
inductive RO where
 |ok (st:St)|bL (v:V) (st:St)
def RO.to (K:S->Prop)(X:V->S->Prop):RO->Prop
 | .ok st=>K st.S
 | .bL v st=>X v st.S
inductive eA where
 |r (x:R)|c (x:CR)
abbrev Kt:=fL->St->Option eA
abbrev dH:=Nat->Bool->Nat->IC->St->Kt->Option eA
noncomputable def Iw(P:Program)(rs:List ResultVar)(st:St)(kc:CR->Option eA):Option eA:=
 match mc P st.S rs with
 |some [v]=>kc (.ret v st.o st.nx)
 |some vs=>kc (.ret (.bS vs) st.o st.nx)
 |none=>none
noncomputable def RL(P:Program)(rs:List ResultVar)(kc:CR->Option eA):Kt:=fun e st=>
 match e with
 | .normal=>Iw P rs st kc
 | .ret=>Iw P rs st kc
 | .bL v=>kc (.bL v st.o st.nx)
 | .exit _=>none
noncomputable def Le(P:Program)(rs:List ResultVar)(kc:CR->Option eA)(env:Tr V):Kt:=fun e s4=>
 match e with
 | .normal=>Iw P rs ⟨env,s4.o,s4.nx⟩ kc
 | .ret=>Iw P rs ⟨env,s4.o,s4.nx⟩ kc
 |_=>none
def aaX:fL->Option V
 | .normal=>some (.d .eT)
 | .ret=>some (.d .eT)
 | .bL v=>some v
 | .exit _=>none
noncomputable def Lf(P:Program)(rec:dH)(rs:List ResultVar)(bP:List V)(m r r1:Nat)(yL:IC)(kc:CR->Option eA):Kt:=fun e s3=>
 match aaX e with
 |some u=>if bP.length<=m then rec s3.nx true m yL ⟨.e (ay (ay (cw bP) r u) r1 u),s3.o,s3.nx⟩ (Le P rs kc s3.env)else none
 |none=>none
noncomputable def GF(P:Program)(rec:dH)(n t:Nat)(fh:IC)(g:Nat)(ft:List Operand)(rs:List ResultVar)(m r r1:Nat)(yL:IC)(kc:CR->Option eA):Kt:=fun e s1=>
 match e with
 | .normal=>rec s1.nx false n fh ⟨s1.env.set t (.func (.func g) [] (ft.map s1.S.ev)),s1.o,s1.nx⟩ (Lf P rec rs (ft.map s1.S.ev) m r r1 yL kc)
 |_=>none
noncomputable def Lg(P:Program)(bU:Nat->FD)(rec:dH)(g:Nat)(args:List V)(o:Tr ab)(nx:Nat)(kc:CR->Option eA):Option eA:=
 match bU g with
 | .fn n ic rs=>if args.length<=n then rec nx false n ic ⟨.e (cw args),o,nx⟩ (RL P rs kc)else none
 | .dfr n jE fh g t ft rs m r r1 yL=>if args.length<=n then rec nx true n jE ⟨.e (cw args),o,nx⟩ (GF P rec n t fh g ft rs m r r1 yL kc)else none
 | .mpc=>match args with
   |[.mp id]=>match o.get id with
    | .map kt vt l=>kc (.ret (.mp nx) (o.set nx (.map kt vt l)) (nx+1))
    | .b7 l=>kc (.ret (.mp nx) (o.set nx (.map 0 0 l)) (nx+1))
    |_=>none
   |_=>none
 | .no=>none
def vY:V->List V
 | .bS vs=>vs
 |v=>[v]
noncomputable def GG(r:CR):Option R:=
 match r with
 | .ret v o _=>match v with
   | .bS [_]=>none
   |v=>match cf o.get (vY v)with
    |some rs=>some (.ret rs)
    |none=>none
 | .bL v o _=>match dQ o.get v with
   |some x=>some (.bL x)
   |none=>none
noncomputable def rfc{β:Type}(x:R)(c:R->β):β:=match x with| .ret l=>D.vV l fun l=>c (.ret l)| .bL d=>D.fc d fun d=>c (.bL d)
theorem ET{β:Type}(x:R)(c:R->β):rfc x c=c x:=by cases x<;>simp only[rfc,D.fG,D.cZ]
noncomputable def CV(r:CR):Option eA:=match GG r with|some x=>rfc x fun x=>some (.r x)|none=>none
theorem Lh{r:CR}{a:eA}(h:CV r=some a):∃x,GG r=some x/\a= .r x:=by
 unfold CV at h
 split at h
 ·rename_i x hx;rw[ET]at h;injection h with h;exact⟨x,hx,h.symm⟩
 ·cases h
def Li(out:R)(o:Tr ab)(nx:Nat):CR:=
 match out with
 | .ret rs=> .ret (iV rs) o nx
 | .bL x=> .bL (.d x) o nx
structure qQ (P:Program) where
 dat:Nat->Bool
 fx:Nat->List D->Option R
 ok:∀g ds out,fx g ds=some out->aV P g ds out
def Lj(l:List (Nat×List D×R))(g:Nat)(ds:List D):Option R:=
 match l with
 |[]=>none
 |x::l=>match Nat.beq x.1 g with
  |true=>match D.gh x.2.1 ds with
   |true=>some x.2.2
   |false=>Lj l g ds
  |false=>Lj l g ds
theorem Ay{P:Program}:∀ {l:List (Nat×List D×R)},(∀x∈l,aV P x.1 x.2.1 x.2.2)->∀g ds out,Lj l g ds=some out->aV P g ds out
 |[],_,_,_,_,h=>by cases h
 |x::l,hl,g,ds,out,h=>by
  simp only[Lj]at h
  split at h
  ·rename_i hg
   split at h
   ·rename_i hd
    injection h with h
    have:=hl x aH
    rw[Nat.eq_of_beq_eq_true hg,D.dJ _ _ hd,h]at this
    exact this
   ·exact Ay (fun y hy=>hl y mK) g ds out h
  ·exact Ay (fun y hy=>hl y mK) g ds out h
def qQ.of {P:Program}(dat:Nat->Bool)(l:List (Nat×List D×R))(h:∀x∈l,aV P x.1 x.2.1 x.2.2):qQ P:=⟨dat,Lj l,Ay h⟩
noncomputable def Ou(P:Program)(bU:Nat->FD)(md:qQ P)(rec:dH)(g:Nat)(ds:List D):Option R:=
 match md.fx g ds with
 |some out=>some out
 |none=>match Lg P bU rec g (ds.map .d) (.e fun _=> .no) 0 CV with
  |some (.r x)=>some x
  |_=>none
noncomputable def RM(out:R)(o:Tr ab)(nx:Nat)(args:List V)(kc:CR->Option eA):Option eA:=
 match out.flat with
 |true=>kc (Li out o (nx+1))
 |false=>match out.nj with
  |true=>kc (Li out (Iv o (rV o.get (V.bp args))) (nx+1))
  |false=>kc (Li out (Iv o (bE o.get (V.bp args))) (nx+1))
noncomputable def GH(P:Program)(bU:Nat->FD)(md:qQ P)(rec:dH)(g:Nat)(args:List V)(o:Tr ab)(nx:Nat)(kc:CR->Option eA):Option eA:=
 match md.dat g,cf o.get args with
 |true,some ds=>match Ou P bU md rec g ds with
  |some out=>RM out o nx args kc
  |none=>none
 |_,_=>Lg P bU rec g args o nx kc
noncomputable def Lk(id:Nat)(kc:CR->Option eA):Kt:=fun e s2=>
 match e with
 | .bL v=>kc (.bL v s2.o s2.nx)
 |e=>match s2.o.get id with
  | .loop nf m en p c d _ _=>match e with
    | .normal=>kc (.ret (.d (.bool true)) (s2.o.set id (.loop nf m en p c d .ready none)) s2.nx)
    | .ret=>kc (.ret (.d (.bool false)) (s2.o.set id (.loop nf m en p c d .done (some .ret))) s2.nx)
    | .exit j=>kc (.ret (.d (.bool false)) (s2.o.set id (.loop nf m en p c d .done (some (.exit j)))) s2.nx)
    | .bL _=>none
  |_=>none
noncomputable def GI(rec:dH)(id nx n:Nat)(fh:IC)(kc:CR->Option eA):Kt:=fun e s1=>
 match e with
 | .normal=>match s1.o.get id with
   | .loop nf m en p c d .ready pd=>rec nx true n fh ⟨s1.env,s1.o.set id (.loop nf m en p c d .busy pd),s1.nx⟩ (Lk id kc)
   |_=>none
 | .bL v=>kc (.bL v s1.o s1.nx)
 |_=>none
noncomputable def UU(P:Program)(rec:dH)(id:Nat)(args:List V)(o:Tr ab)(nx:Nat)(kc:CR->Option eA):Option eA:=
 match o.get id with
 | .loop nf n env ps jE fh _ _=>if nf=P.funcs.size/\id<nx/\ps.all (fun t=>decide (t<n))=true/\args.length=ps.length then
  rec nx true n jE ⟨.e (pH (aY env) ps args),o,nx⟩ (GI rec id nx n fh kc)
   else none
 |_=>none
noncomputable def yN(P:Program)(st:St)(o:bV)(kr:RO->Option eA):Option eA:=
 match Ot o.op P st.S st.nx with
 |some (v,Δ,_)=>mn st.env o.dst v fun e=>vX st.o Δ fun ob=>Nat.fc (st.nx+1) fun n=>kr (.ok ⟨e,ob,n⟩)
 |none=>none
noncomputable def crX(st:St)(dst:Option Nat)(kr:RO->Option eA)(c:CR):Option eA:=
 match c with
 | .ret v o nx=>mn st.env dst v fun e=>Nat.fc nx fun nx=>kr (.ok ⟨e,o,nx⟩)
 | .bL v o nx=>kr (.bL v ⟨st.env,o,nx⟩)
noncomputable def Ll(c:Call)(P:Program)(bU:Nat->FD)(md:qQ P)(rec:dH)(st:St)(o:bV)(kr:RO->Option eA):Option eA:=
 match c.callee with
 | .value f=>match st.S.ev f with
   | .func (.func g) first cap=>GH P bU md rec g (first++c.args.toList.map st.S.ev++cap) st.o st.nx (crX st o.dst kr)
   | .kn id=>UU P rec id (c.args.toList.map st.S.ev) st.o st.nx (crX st o.dst kr)
   |_=>none
 | .invoke r m=>match vo P m (st.S.ev r)with
   |some (g,y)=>GH P bU md rec g (y::c.args.toList.map st.S.ev) st.o st.nx (crX st o.dst kr)
   |none=>none
 |_=>yN P st o kr
noncomputable def UW(x:Operand)(P:Program)(_:Nat->FD)(_:qQ P)(_:dH)(st:St)(_:bV)(kr:RO->Option eA):Option eA:=
 match st.S.ev x with
 | .d (.iface t y)=>kr (.bL (.d (.iface t y)) st)
 | .iface t y=>kr (.bL (.iface t y) st)
 |_=>none
noncomputable def aaY(P:Program)(_:Nat->FD)(_:qQ P)(_:dH)(st:St)(o:bV)(kr:RO->Option eA):Option eA:=yN P st o kr
def R.same:R->R->Bool
 | .ret a, .ret b=>D.gh a b
 | .bL a, .bL b=>a.same b
 |_,_=>false
theorem R.dZ {x y:R}(h:x.same y=true):x=y:=by
 cases x<;>cases y<;>simp only[R.same,Bool.false_eq_true]at h
 ·rw[D.dJ _ _ h]
 ·rw[D.dZ _ _ h]
noncomputable def brX(f:Nat->Option eA):Nat->Option eA
 |0=>none
 |n+1=>match n with
  |0=>f 0
  |n=>match brX f n with
   |some (.r a)=>match f n with
    |some (.r b)=>match R.same a b with
     |true=>some (.r a)
     |false=>none
    |_=>none
   |_=>none
theorem Lm{f:Nat->Option eA}{a:eA}:∀ {n:Nat},brX f n=some a->∀i,i<n->f i=some a
 |0,h,_,_=>by cases h
 |1,h,i,hi=>by obtain rfl:i=0:=af
               exact h
 |n+2,h,i,hi=>by
  simp only[brX]at h
  split at h
  ·rename_i x hx
   split at h
   ·rename_i y hy
    split at h
    ·rename_i he
     have e:=R.dZ he
     subst e
     rw[<- h]
     by_cases e:i=n+1
     ·subst e;exact hy
     ·exact Lm hx i af
    ·cases h
   ·cases h
  ·cases h
noncomputable def Ov(st:St)(dst:Option Nat)(kr:RO->Option eA)(v:V)(Δ:List (Nat×ab)):Option eA:=
 mn st.env dst v fun e=>vX st.o Δ fun ob=>Nat.fc (st.nx+1) fun n=>kr (.ok ⟨e,ob,n⟩)
noncomputable def Ln(x:Operand)(str:Bool)(P:Program)(_:Nat->FD)(_:qQ P)(_:dH)(st:St)(o:bV)(kr:RO->Option eA):Option eA:=
 match o7 st.o.get (st.S.ev x)with
 |some (id,l)=>match str with
  |true=>none
  |false=>match l with
   |[]=>Ov st o.dst kr (.bS [.d (.bool false)]) []
   |_=>brX (fun i=>match l[i]? with
    |some (k,x)=>Ov st o.dst kr (.bS [.d (.bool true), .d k, .d x]) [(id, .rG (l.eraseIdx i) (some (k,x)))]
    |none=>none) l.length
 |none=>yN P st o kr
noncomputable def opK(op:Op):(P:Program)->(Nat->FD)->qQ P->dH->St->bV->(RO->Option eA)->Option eA:=
 match op with
 | .call c=>Ll c
 | .panic x=>UW x
 | .next x str=>Ln x str
 |_=>aaY
noncomputable def opX(P:Program)(bU:Nat->FD)(md:qQ P)(rec:dH)(st:St)(o:bV)(kr:RO->Option eA):Option eA:=opK o.op P bU md rec st o kr
noncomputable def roK(next:St->Option eA)(kr:RO->Option eA):RO->Option eA:=fun r=>match r with| .ok st=>next st| .bL v st=>kr (.bL v st)
noncomputable def Az(P:Program)(bU:Nat->FD)(md:qQ P)(rec:dH)(kr:RO->Option eA):List bV->St->Option eA
 |[],st=>kr (.ok st)
 |o::l,st=>match(match o.gd with
   |none=>some true
   |some (d,want)=>match st.env.get d with
    | .d (.bool b)=>some (b==want)
    | .bS []=>some false
    |_=>none)with
  |some true=>opX P bU md rec st o (roK (Az P bU md rec kr l) kr)
  |some false=>mn st.env o.dst (.bS []) fun e=>Nat.fc (st.nx+1) fun n=>Az P bU md rec kr l ⟨e,st.o,n⟩
  |none=>none
section
variable {P:Program}{bU:Nat->FD}{md:qQ P}
noncomputable def eI(P:Program)(rec:dH):Prop:=∀b rd n ic st k a,rec b rd n ic st k=some a->∀Q:fL->S->Prop,(∀e st',k e st'=some a->Q e st'.S)->ux P n b rd ic Q st.S
theorem uC{rs:List ResultVar}{st:St}{kc:CR->Option eA}{a:eA}(h:Iw P rs st kc=some a){K X:V->(Nat->ab)->Nat->Prop}(hr:∀r,kc r=some a->r.to K X):mf P rs K X .ret st.S:=by
 unfold Iw at h
 unfold mf
 split at h
 ·rename_i v hv;simp only[hv];exact hr _ h
 ·rename_i vs hv hn
  simp only[hn]
  exact hr _ h
 ·cases h
theorem nF(br:P.follows .mixedOrders=true)(cI:∀g,(bU g).Ok P g){rec:dH}(bg:eI P rec){g:Nat}{args:List V}{o:Tr ab}{nx:Nat}{kc:CR->Option eA}{a:eA}(h:Lg P bU rec g args o nx kc=some a){K X:V->(Nat->ab)->Nat->Prop}(hr:∀r,kc r=some a->r.to K X):
 bZ P g args o.get nx K X:=by
 have aW:=cI g
 unfold Lg at h
 split at h
 ·rename_i n ic rs ht
  rw[ht]at aW
  split at h
  ·rename_i hl
   refine bZ.vN br aW hl ?_
   refine bg _ _ _ _ _ _ _ h _ fun e st he=> ?_
   unfold RL at he
   cases e with
   |normal=>exact uC he hr
   |ret=>exact uC he hr
   |bL v=>exact hr _ he
   |exit j=>cases he
  ·cases h
 ·rename_i n jE fh g' t ft rs m r0 r1 yL ht
  rw[ht]at aW
  split at h
  ·rename_i hl
   refine bZ.CS br aW.1 aW.2 hl (bg _ _ _ _ _ _ _ h _ fun e s1 he=> ?_)
   unfold GF at he
   cases e with
   |normal=>
    have hb:ux P n s1.nx false fh (Ax P m r0 r1 yL (ft.map s1.S.ev) rs K X) ⟨ay s1.env.get t (.func (.func g') [] (ft.map s1.S.ev)),s1.o.get,s1.nx⟩:=by
     have:=bg _ _ _ _ _ _ _ he (Ax P m r0 r1 yL (ft.map s1.S.ev) rs K X) (fun e s3 XP=>by
      unfold Lf at XP
      split at XP
      ·rename_i u hu
       split at XP
       ·rename_i rI
        have hrw:EP P m r0 r1 yL (ft.map s1.S.ev) u s3.o.get s3.nx fun o nx=>mf P rs K X .ret ⟨s3.env.get,o,nx⟩:=by
         refine⟨rI,bg _ _ _ _ _ _ _ XP _ fun e4 s4 he4=> ?_⟩
         unfold Le at he4
         cases e4 with
         |normal=>exact uC (st:=⟨s3.env,s4.o,s4.nx⟩) he4 hr
         |ret=>exact uC (st:=⟨s3.env,s4.o,s4.nx⟩) he4 hr
         |_=>cases he4
        cases e<;>simp only[aaX,Option.some.injEq,reduceCtorEq]at hu<;>subst hu<;>exact hrw
       ·cases XP
      ·cases XP)
     simp only[St.S,Tr.gR]at this
     exact this
    exact hb
   |_=>cases he
  ·cases h
 ·rename_i ht
  rw[ht]at aW
  split at h
  ·split at h
   ·rename_i kt vt l ho
    have h2:=hr _ h
    simp only[CR.to,Tr.gR]at h2
    exact bZ.UM aW ho h2
   ·rename_i l ho
    have h2:=hr _ h
    simp only[CR.to,Tr.gR]at h2
    exact bZ.Gz aW ho h2
   ·cases h
  ·cases h
 ·cases h
theorem Lo{r:CR}{out:R}(ho:GG r=some out):r.to (fun v o _=>∃vs rs,v=(match vs with|[v]=>v|vs=> .bS vs)/\cf o vs=some rs/\out= .ret rs) (fun v o _=>∃x,dQ o v=some x/\out= .bL x):=by
 unfold GG at ho
 split at ho
 ·rename_i v o nx
  split at ho
  ·cases ho
  ·rename_i hv
   split at ho
   ·rename_i rs ZQ
    injection ho with ho;subst ho
    refine⟨vY v,rs, ?_,ZQ,rfl⟩
    cases v with
    |bS vs=>
     match vs,hv with
     |[],_=>rfl
     |[x],hv=>exact absurd rfl (hv x)
     |_::_::_,_=>rfl
    |_=>rfl
   ·cases ho
 ·split at ho
  ·rename_i x hx
   injection ho with ho;subst ho
   exact⟨x,hx,rfl⟩
  ·cases ho
theorem CW(br:P.follows .mixedOrders=true)(cI:∀g,(bU g).Ok P g){rec:dH}(bg:eI P rec){g:Nat}{ds:List D}{out:R}(h:Lg P bU rec g (ds.map .d) (.e fun _=> .no) 0 CV=some (.r out)):aV P g ds out:=by
 refine aV.kM (nF br cI bg h fun r hr=> ?_)
 obtain⟨x,hx,he⟩:=Lh hr
 injection he with he;subst he
 exact Lo hx
theorem AA(br:P.follows .mixedOrders=true)(cI:∀g,(bU g).Ok P g){rec:dH}(bg:eI P rec){g:Nat}{ds:List D}{out:R}(h:Ou P bU md rec g ds=some out):aV P g ds out:=by
 unfold Ou at h
 split at h
 ·rename_i afD ho
  injection h with h;subst h
  exact md.ok _ _ _ ho
 ·split at h
  ·rename_i x hr;injection h with h;subst h;exact CW br cI bg hr
  ·cases h
theorem CX(br:P.follows .mixedOrders=true)(cI:∀g,(bU g).Ok P g){rec:dH}(bg:eI P rec){g:Nat}{args:List V}{o:Tr ab}{nx:Nat}{kc:CR->Option eA}{a:eA}(h:GH P bU md rec g args o nx kc=some a){K X:V->(Nat->ab)->Nat->Prop}(hr:∀r,kc r=some a->r.to K X):
 Rf P g args o.get nx K X:=by
 unfold GH at h
 split at h
 ·rename_i ds hmd ff
  split at h
  ·rename_i out CJ
   have hP:=AA br cI bg CJ
   refine .inl ⟨ds,ff,out,hP, ?_⟩
   unfold RM at h
   split at h
   ·rename_i hf
    refine .inr (.inl ⟨hf, ?_⟩)
    cases out<;>exact hr _ h
   ·split at h
    ·rename_i hf
     refine .inr (.inr ⟨hf, ?_⟩)
     rw[<- jP]
     cases out<;>exact hr _ h
    ·refine .inl ?_
     rw[<- jP]
     cases out<;>exact hr _ h
  ·cases h
 ·exact .inr (nF br cI bg h hr)
theorem Ow(br:P.follows .mixedOrders=true){rec:dH}(bg:eI P rec){id:Nat}{args:List V}{o:Tr ab}{nx:Nat}{kc:CR->Option eA}{a:eA}(h:UU P rec id args o nx kc=some a){K X:V->(Nat->ab)->Nat->Prop}(hr:∀r,kc r=some a->r.to K X):
 dO P id args o.get nx K X:=by
 unfold UU at h
 split at h
 ·rename_i nf n env ps jE fh st pd ho
  split at h
  ·rename_i hc
   obtain⟨rfl,ck,EO,hl⟩:=hc
   refine dO.vN br ho ck EO hl ?_
   refine bg _ _ _ _ _ _ _ h _ fun e s1 he=> ?_
   unfold GI at he
   cases e with
   |normal=>
    simp only at he
    split at he
    ·rename_i nf m en p c d pd mL
     refine⟨nf,m,en,p,c,d,pd,mL, ?_⟩
     have:=bg _ _ _ _ _ _ _ he (kV id K X) (fun e s2 h2=>by
      unfold Lk at h2
      split at h2
      ·exact hr _ h2
      ·rename_i Q7
       split at h2
       ·rename_i nf' m' en' p' c' d' st' pd' UX
        cases e with
        |bL v=>cases h2
        |normal=>have h3:=hr _ h2;simp only[CR.to,Tr.gR]at h3;exact⟨nf',m',en',p',c',d',st',pd',UX,h3⟩
        |ret=>have h3:=hr _ h2;simp only[CR.to,Tr.gR]at h3;exact⟨nf',m',en',p',c',d',st',pd',UX,h3⟩
        |exit j=>have h3:=hr _ h2;simp only[CR.to,Tr.gR]at h3;exact⟨nf',m',en',p',c',d',st',pd',UX,h3⟩
       ·cases h2)
     simp only[St.S,Tr.gR]at this
     exact this
    ·cases he
   |bL v=>exact hr _ he
   |_=>cases he
  ·cases h
 ·cases h
theorem vZ{st:St}{o:bV}{kr:RO->Option eA}{a:eA}(h:yN P st o kr=some a){K:S->Prop}{X:V->S->Prop}(hr:∀r,kr r=some a->r.to K X):match gG P st.S st.S.nx o.op with
 |some (v,Δ,_)=>K ⟨a8 st.S.env o.dst v,put st.S.o Δ,st.S.nx+1⟩
 |none=>False:=by
 unfold yN at h
 split at h
 ·rename_i v Δ rd he
  have he:=GD he
  simp only[jv,nE,Nat.cZ]at h
  have hr:=hr _ h
  simp only[RO.to,St.S,jn,jP]at hr
  have p9:gG P st.S st.S.nx o.op=some (v,Δ,rd):=he
  simp only[p9]
  exact hr
 ·cases h
theorem GJ{st:St}{dst:Option Nat}{kr:RO->Option eA}{v:V}{Δ:List (Nat×ab)}{a:eA}(h:Ov st dst kr v Δ=some a){K:S->Prop}{X:V->S->Prop}(hr:∀r,kr r=some a->r.to K X):K ⟨a8 st.S.env dst v,put st.S.o Δ,st.S.nx+1⟩:=by
 unfold Ov at h
 simp only[jv,nE,Nat.cZ]at h
 have hr:=hr _ h
 simp only[RO.to,St.S,jn,jP]at hr
 exact hr
theorem UY(br:P.follows .mixedOrders=true)(cI:∀g,(bU g).Ok P g){rec:dH}(bg:eI P rec){st:St}{o:bV}{kr:RO->Option eA}{a:eA}(h:opX P bU md rec st o kr=some a){K:S->Prop}{X:V->S->Prop}(hr:∀r,kr r=some a->r.to K X):Jq P st.S o X K:=by
 have cr:∀r,crX st o.dst kr r=some a->r.to (fun v o' nx'=>K ⟨a8 st.S.env o.dst v,o',nx'⟩) (fun v o' nx'=>X v ⟨st.S.env,o',nx'⟩):=by
  intro r hx
  unfold crX at hx
  split at hx
  ·simp only[jv,Nat.cZ]at hx
   have hr:=hr _ hx
   simp only[RO.to,St.S,jn]at hr
   exact hr
  ·exact hr _ hx
 unfold opX at h
 unfold Jq
 cases gf:o.op
 case call c=>
  rw[gf]at h
  have h:Ll c P bU md rec st o kr=some a:=h
  unfold Ll at h
  cases hf:c.callee
  case value f=>
   simp only[hf]at h|-
   split at h
   ·rename_i g first cap hv
    simp only[hv]
    have:=CX br cI bg h cr
    rcases this with⟨ds,ff,hP⟩|hC
    ·have UZ:cf st.S.o (first++List.map st.S.ev c.args.toList++cap)=some ds:=ff
     simp only[UZ]
     exact .inl hP
    ·split
     ·exact .inr (.inl hC)
     ·exact .inl hC
   ·rename_i id hv
    simp only[hv]
    exact Ow br bg h cr
   ·cases h
  case invoke r m=>
   simp only[hf]at h|-
   split at h
   ·rename_i g y hv
    simp only[hv]
    exact CX br cI bg h cr
   ·cases h
  all_goals
   simp only[hf]at h|-
   have:=vZ h hr
   rw[gf]at this
   exact this
 case panic x=>
  rw[gf]at h
  have h:UW x P bU md rec st o kr=some a:=h
  unfold UW at h
  split at h
  ·rename_i hv;simp only[hv];exact hr _ h
  ·rename_i hv;simp only[hv];exact hr _ h
  ·cases h
 case next x str=>
  rw[gf]at h
  have h:Ln x str P bU md rec st o kr=some a:=h
  unfold Ln at h
  have hl:o7 st.S.o (st.S.ev x)=o7 st.o.get (st.S.ev x):=rfl
  simp only[hl]
  split at h
  ·rename_i id l aw
   simp only[aw]
   cases str with
   |true=>cases h
   |false=>
    refine⟨rfl,fun e=> ?_,fun i k y e=> ?_⟩
    ·subst e
     exact GJ h hr
    ·cases l with
     |nil=>simp at e
     |cons p l=>
      have:=Lm h i (List.getElem?_eq_some_iff.1 e).1
      rw[e]at this
      exact GJ this hr
  ·rename_i aw
   simp only[aw]
   have:=vZ h hr
   rw[gf]at this
   exact this
 all_goals
  have h2:yN P st o kr=some a:=by rw[gf]at h;exact h
  have:=vZ h2 hr
  rw[gf]at this
  exact this
theorem uD(br:P.follows .mixedOrders=true)(cI:∀g,(bU g).Ok P g){rec:dH}(bg:eI P rec){kr:RO->Option eA}{a:eA}{K:S->Prop}{X:V->S->Prop}(hr:∀r,kr r=some a->r.to K X):∀ (l:List bV) (st:St),Az P bU md rec kr l st=some a->pF P X K l st.S
 |[],st,h=>hr (.ok st) h
 |o::l,st,h=>by
  simp only[Az,jv,Nat.cZ]at h
  simp only[pF]
  have op:opX P bU md rec st o (roK (Az P bU md rec kr l) kr)=some a->Jq P st.S o X (pF P X K l):=by
   intro h
   refine UY br cI bg h fun r hrr=> ?_
   cases r with
   |ok U0=>exact uD br cI bg hr l U0 hrr
   |bL v U0=>exact hr (.bL v U0) hrr
  have sk:Az P bU md rec kr l ⟨tD st.env o.dst (.bS []),st.o,st.nx+1⟩=some a->pF P X K l ⟨a8 st.S.env o.dst (.bS []),st.S.o,st.S.nx+1⟩:=by
   intro h
   have:=uD br cI bg hr l _ h
   exact J3
  cases hg:o.gd with
  |none=>simp only[hg]at h;exact op h
  |some p=>
   obtain⟨d,want⟩:=p
   simp only[hg]at h
   have he:st.S.env d=st.env.get d:=rfl
   simp only[he]
   cases hv:st.env.get d with
   |d x=>
    cases x with
    |bool b=>
     simp only[hv]at h|-
     by_cases e:b=want
     ·subst e
      simp only[beq_self_eq_true]at h
      rw[if_pos rfl];exact op h
     ·have:(b==want)=false:=by simpa using e
      rw[this]at h
      rw[if_neg e];exact sk h
    |_=>simp[hv]at h
   |bS vs=>
    cases vs with
    |nil=>simp only[hv]at h|-;exact sk h
    |cons a cm=>simp[hv]at h
   |_=>simp[hv]at h
end
end
section
mutual
def V.same:V->V->Bool
 | .d x, .d y=>x.same y
 | .ax, .ax=>true
 | .ad, .ad=>true
 | .agg a, .agg b=>V.gh a b
 | .ptr i o, .ptr j p=>Nat.beq i j&&Nat.beq o p
 | .osl i o, .osl j p=>Nat.beq i j&&Nat.beq o p
 | .oV a, .oV b=>D.gh a b
 | .iface t x, .iface u y=>Nat.beq t u&&x.same y
 | .mp i, .mp j=>Nat.beq i j
 |_,_=>false
def V.gh:List V->List V->Bool
 |[],[]=>true
 |a::cm,b::bs=>a.same b&&V.gh cm bs
 |_,_=>false
end
mutual
theorem V.dZ:∀ (x y:V),x.same y=true->x=y
 | .d x,y,h=>by cases y<;>simp only[V.same,Bool.false_eq_true]at h;rw[D.dZ _ _ h]
 | .ax,y,h=>by cases y<;>simp_all[V.same]
 | .ad,y,h=>by cases y<;>simp_all[V.same]
 | .agg a,y,h=>by cases y<;>simp only[V.same,Bool.false_eq_true]at h;rw[V.dJ _ _ h]
 | .ptr i o,y,h=>by
   exact Zp
 | .osl i o,y,h=>by
   exact Zp
 | .oV a,y,h=>by cases y<;>simp only[V.same,Bool.false_eq_true]at h;rw[D.dJ _ _ h]
 | .iface t x,y,h=>by
   cases y<;>simp only[V.same,Bool.false_eq_true,Bool.and_eq_true]at h
   rw[Nat.eq_of_beq_eq_true h.1,V.dZ _ _ h.2]
 | .mp i,y,h=>by
   cases y<;>simp only[V.same,Bool.false_eq_true]at h
   rw[Nat.eq_of_beq_eq_true h]
 | .bS _,y,h| .pe _ _ _ _ _,y,h| .pp _ _,y,h| .func _ _ _,y,h| .x4 _ _ _,y,h| .fC,y,h| .kn _,y,h=>by simp[V.same]at h
theorem V.dJ:∀ (x y:List V),V.gh x y=true->x=y
 |[],y,h=>by cases y<;>simp_all[V.gh]
 |a::cm,y,h=>by
  cases y<;>simp only[V.gh,Bool.false_eq_true,Bool.and_eq_true]at h
  rw[V.dZ _ _ h.1,V.dJ _ _ h.2]
end
def v7:List (D×D)->List (D×D)->Bool
 |[],[]=>true
 |(a,b)::l,(c,d)::m=>a.same c&&(b.same d&&v7 l m)
 |_,_=>false
theorem v8:∀ (l m:List (D×D)),v7 l m=true->l=m
 |[],m,h=>by cases m<;>simp_all[v7]
 |(a,b)::l,m,h=>by
  cases m with
  |nil=>simp[v7]at h
  |cons p m=>
   obtain⟨c,d⟩:=p
   simp only[v7,Bool.and_eq_true]at h
   rw[D.dZ _ _ h.1,D.dZ _ _ h.2.1,v8 l m h.2.2]
noncomputable def ab.same:ab->ab->Bool
 | .no, .no=>true
 | .row a, .row b=>V.gh a b
 | .arr e t s a, .arr f u r b=>Nat.beq e f&&Nat.beq t u&&Nat.beq s r&&D.gh a b
 | .uo e a, .uo f b=>Nat.beq e f&&D.gh a b
 | .map k v a, .map k' v' b=>Nat.beq k k'&&Nat.beq v v'&&v7 a b
 | .b7 a, .b7 b=>v7 a b
 | .zH a i, .zH b j=>a==b&&Nat.beq i j
 |_,_=>false
theorem ab.dZ {x y:ab}(h:x.same y=true):x=y:=by
 cases x<;>cases y<;>simp only[ab.same,Bool.false_eq_true,Bool.and_eq_true]at h
 ·rfl
 ·rw[V.dJ _ _ h]
 ·rw[Nat.eq_of_beq_eq_true h.1.1.1,Nat.eq_of_beq_eq_true h.1.1.2,Nat.eq_of_beq_eq_true h.1.2,D.dJ _ _ h.2]
 ·rw[Nat.eq_of_beq_eq_true h.1,D.dJ _ _ h.2]
 ·rw[Nat.eq_of_beq_eq_true h.1.1,Nat.eq_of_beq_eq_true h.1.2,v8 _ _ h.2]
 ·rw[v8 _ _ h]
 ·rw[eq_of_beq h.1,Nat.eq_of_beq_eq_true h.2]
noncomputable def reach(o:Nat->ab):Nat->List Nat->List Nat->List Nat
 |0,_,seen=>seen
 |_+1,[],seen=>seen
 |n+1,id::todo,seen=>match seen.contains id with
  |true=>reach o n todo seen
  |false=>reach o n ((o id).refs++todo) (id::seen)
noncomputable def eN(o o1:Nat->ab):List Nat->List (Nat×ab)
 |[]=>[]
 |id::l=>match(o id).same (o1 id)with
  |true=>eN o o1 l
  |false=>(id,o1 id)::eN o o1 l
theorem iO{o o1:Nat->ab}:∀ (l:List Nat) (x:Nat×ab),x∈eN o o1 l->x.1∈l/\x.2=o1 x.1
 |[],x,h=>by simp[eN]at h
 |id::l,x,h=>by
  simp only[eN]at h
  split at h
  ·obtain⟨h1,h2⟩:=iO l x h;exact⟨List.mem_cons_of_mem _ h1,h2⟩
  ·rcases List.mem_cons.1 h with rfl|h
   ·exact⟨aH,rfl⟩
   ·obtain⟨h1,h2⟩:=iO l x h;exact⟨List.mem_cons_of_mem _ h1,h2⟩
theorem nG{o o1:Nat->ab}:∀ (l:List Nat) (id:Nat),id∈l->id∉(eN o o1 l).map (·.1)->o1 id=o id
 |[],id,h,_=>by simp at h
 |j::l,id,h,hn=>by
  simp only[eN]at hn
  split at hn
  ·rename_i hs
   rcases List.mem_cons.1 h with rfl|h
   ·exact(ab.dZ hs).symm
   ·exact nG l id h hn
  ·simp only[List.map_cons,List.mem_cons,not_or]at hn
   rcases List.mem_cons.1 h with rfl|h
   ·exact absurd rfl hn.1
   ·exact nG l id h hn.2
theorem CY{o1:Nat->ab}:∀ (Δ:List (Nat×ab)) (o:Nat->ab),(∀x∈Δ,x.2=o1 x.1)->∀id,id∈Δ.map (·.1)\/o id=o1 id->put o Δ id=o1 id
 |[],o,_,id,h=>by rcases h with h|h;· simp at h
                  ·exact h
 |x::Δ,o,hv,id,h=>by
  simp only[put,List.foldl_cons]
  refine CY Δ (ay o x.1 x.2) (fun y hy=>hv y (List.mem_cons_of_mem _ hy)) id ?_
  simp only[List.map_cons,List.mem_cons]at h
  simp only[aL]
  by_cases e:id=x.1
  ·right;rw[if_pos e,hv x (by simp),e]
  ·rcases h with(h|h)|h
   ·exact absurd h e
   ·exact .inl h
   ·right;rw[if_neg e];exact h
theorem tE{o o1:Nat->ab}{l:List Nat}{id:Nat}(h:id∈l):o1 id=put o (eN o o1 l) id:=by
 by_cases hm:id∈(eN o o1 l).map (·.1)
 ·exact(CY _ o (fun x hx=>(iO l x hx).2) id (.inl hm)).symm
 ·rw[gw hm];exact nG l id h hm
inductive DR where
 |val (v:V) (Δ:List (Nat×ab)) (rd:List Nat)|bL (v:V) (ws rd:List Nat)
def DR.to (K:V->List (Nat×ab)->List Nat->Prop)(KX:V->List Nat->List Nat->Prop):DR->Prop
 | .val v Δ rd=>K v Δ rd
 | .bL v ws rd=>KX v ws rd
noncomputable def crA(c:CR):Option eA:=some (.c c)
noncomputable def hX(P:Program)(bU:Nat->FD)(rec:dH)(g:Nat)(args:List V)(st:St):Option DR:=
 let rd:=reach st.o.get 2000 (V.aO args) []
 match rd.all (fun id=>Nat.blt id st.nx&&(st.o.get id).refs.all rd.contains)&&(V.aO args).all rd.contains with
 |true=>match Lg P bU rec g args (.e (EC rd st.o.get)) st.nx crA with
  |some (.c (.ret v o1 _))=>match v with
   | .bS [_]=>none
   |v=>match cf o1.get (vY v)with
    |some rs=>match(eN st.o.get o1.get rd).all (fun x=>x.2.refs.all rd.contains)&&(V.bp (vY v)).all (fun id=> !rd.contains id)with
     |true=>some (.val (iV rs) (eN st.o.get o1.get rd) rd)
     |false=>none
    |none=>none
  |some (.c (.bL v o1 _))=>match dQ o1.get v with
   |some x=>match(eN st.o.get o1.get rd).all (fun x=>x.2.refs.all rd.contains)&&v.ids.all (fun id=> !rd.contains id)with
    |true=>some (.bL (.d x) ((eN st.o.get o1.get rd).map (·.1)) rd)
    |false=>none
   |none=>none
  |_=>none
 |false=>none
noncomputable def cDX(P:Program)(bU:Nat->FD)(md:qQ P)(rec:dH)(g:Nat)(args:List V)(st:St)(rd:List Nat):Option DR:=
 match cf st.o.get args with
 |some ds=>match md.dat g with
  |false=>match Lg P bU rec g (ds.map .d) (.e fun _=> .no) 0 crA with
   |some (.c (.ret v _ _))=>match v.refs with
    |[]=>some (.val v (bE st.o.get (V.bp args)) rd)
    |_=>none
   |_=>none
  |true=>match Ou P bU md rec g ds with
   |some (.ret rs)=>match D.jL rs with
    |true=>some (.val (iV rs) [] rd)
    |false=>some (.val (iV rs) (bE st.o.get (V.bp args)) rd)
   |some (.bL x)=>match x.flat with
    |true=>some (.bL (.d x) [] rd)
    |false=>none
   |none=>none
 |none=>hX P bU rec g args st
noncomputable def sDX(P:Program)(st:St)(fr:Nat)(op:Op):Option DR:=
 match Ot op P st.S fr with
 |some (v,Δ,_)=>some (.val v Δ (oR st.S op))
 |none=>none
def V.aen:V->Bool
 | .mp _=>true
 |_=>false
def U1{P:Program}(md:qQ P)(g:Nat)(args:List V):Bool:= !md.dat g&&args.any V.aen
def yO(args:List V):Option (List D):=
 match V.bp args with
 |[]=>cf (fun _=> .no) args
 |_=>none
noncomputable def Ox(P:Program)(t:TypeId)(c:CR):Option eA:=
 match c with
 | .ret v o1 _=>match v with
   | .osl j ep=>match o1.get j with
     | .arr fW ty sz es=>match Nat.beq fW ep with
       |true=>rfc (.ret [.sl es, .int .i64 (ty:Nat), .int .i64 (sz:Nat)]) fun x=>some (.r x)
       |false=>none
     |_=>none
   | .ax=>match b8 P t with
     |some e=>match Nat.blt 0 (P.cellsOf e)with
      |true=>rfc (.ret [.sl [], .int .i64 (e:Nat), .int .i64 (P.cellsOf e:Nat)]) fun x=>some (.r x)
      |false=>none
     |none=>none
   |_=>none
 |_=>none
noncomputable def U2(P:Program)(bU:Nat->FD)(rec:dH)(g:Nat)(t:TypeId)(args:List V)(st:St)(fr:Nat):Option DR:=
 match yO args with
 |some ds=>match Lg P bU rec g (ds.map .d) (.e fun _=> .no) 0 (Ox P t)with
  |some (.r (.ret [.sl es, .int .i64 (.ofNat ty), .int .i64 (.ofNat sz)]))=>some (.val (.osl fr 0) [(fr, .arr 0 ty sz es)] [])
  |_=>none
 |none=>match cf st.o.get args with
  |some ds=>match Lg P bU rec g (ds.map .d) (.e fun _=> .no) 0 (Ox P t)with
   |some (.r (.ret [.sl es, .int .i64 (.ofNat ty), .int .i64 (.ofNat sz)]))=>match D.jL es&&(V.bp args).all (fun id=>Nat.blt id st.nx)with
    |true=>some (.val (.osl fr 0) [(fr, .arr 0 ty sz es)] (V.bp args))
    |false=>none
   |_=>none
  |none=>none
noncomputable def Oy(P:Program)(bU:Nat->FD)(md:qQ P)(rec:dH)(st:St)(fr:Nat)(op:Op):Option DR:=
 match op with
 | .call c=>match c.callee with
   | .value f=>match st.S.ev f with
     | .func (.func g) first cap=>match U1 md g (first++c.args.toList.map st.S.ev++cap)with
       |true=>hX P bU rec g (first++c.args.toList.map st.S.ev++cap) st
       |false=>match cDX P bU md rec g (first++c.args.toList.map st.S.ev++cap) st (oR st.S (.call c))with
        |some r=>some r
        |none=>U2 P bU rec g (c.argTypes.getD 0 0) (first++c.args.toList.map st.S.ev++cap) st fr
     |_=>none
   |_=>sDX P st fr (.call c)
 |op=>sDX P st fr op
noncomputable def gdX(st:St):Option (Nat×Bool)->Option Bool
 |none=>some true
 |some (d,want)=>match st.env.get d with
  | .d (.bool b)=>some (b==want)
  | .bS []=>some false
  |_=>none
noncomputable def wa(P:Program)(bU:Nat->FD)(md:qQ P)(rec:dH)(pr:List (List Nat)):List bV->Nat->St->Fp->List Nat->List Nat->Option (List Nat×Fp)
 |[],_,_,fp,_,ws=>some (ws,fp)
 |o::l,fr,st,fp,bad,ws=>match(pr.getD fp.length []).any (fun j=>bad.contains j)with
  |true=>wa P bU md rec pr l (fr+1) ⟨tD st.env o.dst .ad,st.o,st.nx⟩ (fp++[([],[])]) (bad++[fp.length]) ws
  |false=>match gdX st o.gd with
   |some true=>match Oy P bU md rec st fr o.op with
    |some (.val v Δ rd)=>mn st.env o.dst v fun e=>vX st.o Δ fun ob=>wa P bU md rec pr l (fr+1) ⟨e,ob,st.nx⟩ (fp++[(rd,Δ.map (·.1))]) bad (ws++Δ.map (·.1))
    |_=>none
   |some false=>wa P bU md rec pr l (fr+1) ⟨tD st.env o.dst (.bS []),st.o,st.nx⟩ (fp++[([],[])]) bad ws
   |none=>none
inductive DQ where
 |fin (st:St) (fp:Fp)|bL (v:V) (wl:List Nat) (fp:Fp)
noncomputable def wb(P:Program)(bU:Nat->FD)(md:qQ P)(rec:dH)(pr:List (List Nat)):List bV->Nat->St->Fp->Option DQ
 |[],_,st,fp=>some (.fin st fp)
 |o::l,fr,st,fp=>match gdX st o.gd with
  |some true=>match Oy P bU md rec st fr o.op with
   |some (.val v Δ rd)=>mn st.env o.dst v fun e=>vX st.o Δ fun ob=>Nat.fc (fr+1) fun fr=>wb P bU md rec pr l fr ⟨e,ob,st.nx⟩ (fp++[(rd,Δ.map (·.1))])
   |some (.bL v ws rd)=>match wa P bU md rec pr l (fr+1) ⟨tD st.env o.dst .ad,st.o,st.nx⟩ (fp++[(rd,[])]) [fp.length] (ws++fp.flatMap (·.2))with
    |some (wl,fp)=>some (.bL v wl fp)
    |none=>none
   |none=>none
  |some false=>mn st.env o.dst (.bS []) fun e=>Nat.fc (fr+1) fun fr=>wb P bU md rec pr l fr ⟨e,st.o,st.nx⟩ (fp++[([],[])])
  |none=>none
noncomputable def quiet(fp:Fp):Bool:=fp.all fun x=>match x.2 with|[]=>true|_=>false
noncomputable def AB(m:Nat)(x:List Nat×List Nat):Nat->Fp->Bool
 |_,[]=>true
 |i,y::l=>(match y.2,x.2 with
  |[],[]=>true
  |_,_=>m.testBit i||(kJ y.2 x.1&&kJ y.2 x.2&&kJ x.2 y.1))&&AB m x (i+1) l
noncomputable def GK(ms:List Nat)(pre:Fp):Nat->Fp->Bool
 |_,[]=>true
 |j,x::l=>AB (ms.getD j 0) x 0 pre&&GK ms (pre++[x]) (j+1) l
noncomputable def nfc{β:Type}:List Nat->(List Nat->β)->β
 |[],c=>c []
 |x::xs,c=>Nat.fc x fun x=>nfc xs fun xs=>c (x::xs)
theorem Lp{β:Type}:∀ (x:List Nat) (c:List Nat->β),nfc x c=c x
 |[],c=>rfl
 |x::xs,c=>by simp only[nfc,Nat.cZ,Lp xs]
noncomputable def Oz{β:Type}:Fp->(Fp->β)->β
 |[],c=>c []
 |(a,b)::l,c=>nfc a fun a=>nfc b fun b=>Oz l fun l=>c ((a,b)::l)
theorem GL{β:Type}:∀ (x:Fp) (c:Fp->β),Oz x c=c x
 |[],c=>rfl
 |(a,b)::l,c=>by simp only[Oz,Lp,GL l]
noncomputable def Lq(pr:List (List Nat))(fp:Fp):Bool:=match quiet fp with|true=>true|false=>Oz fp fun fp=>GK (eJ pr []) [] 0 fp
theorem yP{m:Nat}{x:List Nat×List Nat}:∀ (l:Fp) (i:Nat),AB m x i l=true->∀k,k<l.length->(m.testBit (i+k)||(kJ (l.getD k ([],[])).2 x.1&&kJ (l.getD k ([],[])).2 x.2&&kJ x.2 (l.getD k ([],[])).1))=true
 |[],i,_,k,hk=>by simp at hk
 |y::l,i,h,k,hk=>by
  simp only[AB,Bool.and_eq_true]at h
  cases k with
  |zero=>
   have h1:=h.1
   simp only[List.getD_cons_zero,Nat.add_zero]
   split at h1
   ·rename_i e1 e2
    rw[e1,e2];simp[kJ]
   ·exact h1
  |succ k=>
   have:=yP l (i+1) h.2 k (by simpa using hk)
   rw[List.getD_cons_succ,show i+(k+1)=i+1+k by omega]
   exact this
theorem CZ{ms:List Nat}:∀ (l pre:Fp),GK ms pre pre.length l=true->∀j,pre.length<=j->j<(pre++l).length->∀i,i<j->
 ((ms.getD j 0).testBit i||(kJ ((pre++l).getD i ([],[])).2 ((pre++l).getD j ([],[])).1&&kJ ((pre++l).getD i ([],[])).2 ((pre++l).getD j ([],[])).2&&kJ ((pre++l).getD j ([],[])).2 ((pre++l).getD i ([],[])).1))=true
 |[],pre,_,j,h1,h2,i,_=>by simp at h2;omega
 |x::l,pre,h,j,h1,h2,i,hi=>by
  simp only[GK,Bool.and_eq_true]at h
  by_cases e:j=pre.length
  ·subst e
   have:=yP pre 0 h.1 i hi
   have e1:(pre++x::l).getD pre.length ([],[])=x:=by simp[List.getD_eq_getElem?_getD]
   have e2:(pre++x::l).getD i ([],[])=pre.getD i ([],[]):=by simp[List.getD_eq_getElem?_getD,List.getElem?_append_left hi]
   rw[e1,e2]
   simpa using this
  ·have h3:=h.2
   have:=CZ l (pre++[x]) (by simpa using h3) j fI xW i hi
   simpa using this
noncomputable def U3(P:Program)(bU:Nat->FD)(md:qQ P)(rec:dH)(l:List bV)(pr:List (List Nat))(st:St):Option (fL×St):=
 match wb P bU md rec pr l st.nx st []with
 |some (.fin s1 fp)=>match Lq pr fp with
  |true=>Nat.fc (st.nx+l.length) fun n=>some (.normal,⟨s1.env,s1.o,n⟩)
  |false=>none
 |some (.bL v wl fp)=>match Lq pr fp with
  |true=>some (.bL v,⟨.e (vG (dstsOf l) wl l.length st.S).env, .e (vG (dstsOf l) wl l.length st.S).o,st.nx+l.length⟩)
  |false=>none
 |none=>none
noncomputable def aaZ(id:Nat)(env:Tr V)(kt:Kt)(c:CR):Option eA:=
 match c with
 | .ret _ o1 Bp=>match o1.get id with
   | .loop nf m e p c d RN pd=>match RN with
     | .busy=>none
     |_=>match pd with
      |none=>kt .normal ⟨env,o1.set id (.loop nf m e p c d .exhausted pd),Bp⟩
      |some .ret=>kt .ret ⟨env,o1.set id (.loop nf m e p c d .exhausted pd),Bp⟩
      |some (.exit j)=>kt (.exit j) ⟨env,o1.set id (.loop nf m e p c d .exhausted pd),Bp⟩
   |_=>none
 | .bL v o1 Bp=>kt (.bL v) ⟨env,o1,Bp⟩
noncomputable def OA(P:Program)(bU:Nat->FD)(rec:dH)(n:Nat)(g:Operand)(ps:List Nat)(x y:IC)(st:St)(kt:Kt):Option eA:=
 match st.S.ev g with
 | .func (.func f) first cap=>Lg P bU rec f (first++[.kn st.nx]++cap) (st.o.set st.nx (.loop P.funcs.size n ((List.range n).map st.env.get) ps x y .ready none)) (st.nx+1) (aaZ st.nx st.env kt)
 |_=>none
abbrev pc:=(P:Program)->(Nat->FD)->qQ P->dH->Nat->Bool->Nat->St->Kt->Option eA
noncomputable def roX(kt:Kt):RO->Option eA:=fun r=>match r with| .ok st=>kt .normal st| .bL v st=>kt (.bL v) st
noncomputable def aeo(l:List bV):pc:=fun P bU md rec _ _ _ st kt=>Az P bU md rec (roX kt) l st
def yQ:List Nat->Nat->Nat->Nat
 |[],_,c=>c
 |x::l,k,c=>match Nat.beq x (2^k - 1)with
  |true=>yQ l (k+1) c
  |false=>yQ l (k+1) (k+1)
def qR(pr:List (List Nat)):Nat:=yQ (eJ pr []) 0 0
noncomputable def U4(l:List bV)(pr:List (List Nat)):pc:=fun P bU md rec _ _ _ st kt=>
 Nat.fc (qR pr) fun m=>match wb P bU md rec pr (l.take m) st.nx st []with
 |some (.fin s1 fp)=>match Lq pr fp with
  |true=>Nat.fc (st.nx+m) fun n=>match Nat.ble m l.length with
   |true=>Az P bU md rec (roX kt) (l.drop m) ⟨s1.env,s1.o,n⟩
   |false=>none
  |false=>none
 |some (.bL _ _ _)=>match U3 P bU md rec l pr st with
  |some (e,s1)=>kt e s1
  |none=>none
 |none=>none
noncomputable def EU(rec:dH)(b:Nat)(rd:Bool)(n:Nat)(y:IC)(kt:Kt):Kt:=fun e s1=>match e with| .normal=>rec b rd n y s1 kt|e=>kt e s1
noncomputable def aep(x y:IC):pc:=fun _ _ _ rec b rd n st kt=>rec b rd n x st (EU rec b rd n y kt)
noncomputable def GM(a c:Option eA):Option eA:=
 match a with
 |some (.r x)=>match c with
  |some (.r y)=>match R.same x y with
   |true=>some (.r x)
   |false=>none
  |_=>none
 |_=>none
noncomputable def aa0(c:Operand)(x y:IC):pc:=fun _ _ _ rec b rd n st kt=>match st.S.ev c with
 | .d (.bool true)=>rec b rd n x st kt
 | .d (.bool false)=>rec b rd n y st kt
 | .fC=>GM (rec b rd n x st kt) (rec b rd n y st kt)
 |_=>none
noncomputable def EV(id:Nat)(kt:Kt):Kt:=fun e s1=>match e with
 | .exit j=>match Nat.beq j id with
   |true=>kt .normal s1
   |false=>kt (.exit j) s1
 |e=>kt e s1
noncomputable def U5(id:Nat)(x:IC):pc:=fun _ _ _ rec b rd n st kt=>rec b rd n x st (EV id kt)
noncomputable def aa1(x:IC):pc:=fun _ _ _ rec b rd n st kt=>match Nat.ble b st.nx with
 |true=>rec b rd n x st (EU rec b rd n (.loop x) kt)
 |false=>none
noncomputable def U6(e:fL):pc:=fun _ _ _ _ _ _ _ st kt=>kt e st
noncomputable def aeq:pc:=fun _ _ _ _ _ _ _ _ _=>none
noncomputable def aer(g:Operand)(ps:List Nat)(x y:IC):pc:=fun P bU _ rec _ rd n st kt=>match rd with
 |true=>none
 |false=>OA P bU rec n g ps x y st kt
noncomputable def RP(ic:IC):pc:=
 match ic with
 | .skip=>U6 .normal
 | .ag l=>aeo l
 | .de l pr=>U4 l pr
 | .seq x y=>aep x y
 | .cond c x y=>aa0 c x y
 | .block id x=>U5 id x
 | .loop x=>aa1 x
 | .exit id=>U6 (.exit id)
 | .ret=>U6 .ret
 | .Jj g ps x y=>aer g ps x y
 | .bad=>aeq
noncomputable def run(P:Program)(bU:Nat->FD)(md:qQ P)(k:Nat):dH:=
 Nat.rec (motive:=fun _=>dH) (fun _ _ _ _ _ _=>none) (fun _ rec b rd n ic st kt=>RP ic P bU md rec b rd n st kt) k
theorem Lr{P:Program}{bU:Nat->FD}{md:qQ P}{k:Nat}:run P bU md (k+1)=fun b rd n ic st kt=>RP ic P bU md (run P bU md k) b rd n st kt:=rfl
section
variable {P:Program}{bU:Nat->FD}{md:qQ P}
theorem RQ(br:P.follows .mixedOrders=true)(cI:∀g,(bU g).Ok P g){rec:dH}(bg:eI P rec){fr:Nat}{g:Nat}{args:List V}{st:St}{r:DR}(h:hX P bU rec g args st=some r){K:V->List (Nat×ab)->List Nat->Prop}{KX:V->List Nat->List Nat->Prop}(hr:r.to K KX):
 iX P g args st.S.o st.S.nx fr K KX:=by
 unfold hX at h
 simp only at h
 generalize mJ:reach st.o.get 2000 (V.aO args) []=rd at h
 split at h
 ·rename_i hc
  simp only[Bool.and_eq_true,List.all_eq_true]at hc
  obtain⟨U7,vi⟩:=hc
  have a1:∀id∈rd,id<st.nx:=fun id aw=>Nat.le_of_ble_eq_true (U7 id aw).1
  have a2:∀id∈V.aO args,id∈rd:=fun id aw=>by simpa using vi id aw
  have a3:∀id∈rd,∀j∈(st.o.get id).refs,j∈rd:=fun id aw j hj=>by simpa using(U7 id aw).2 j hj
  have a0:rd.all (fun id=>decide (id<st.S.nx))=true:=List.all_eq_true.2 fun id aw=>decide_eq_true (a1 id aw)
  have key:∀ {r:CR} {a:CR},crA r=some (.c a)->r=a:=fun h=>by unfold crA at h;injection h with h;injection h
  split at h
  ·rename_i v o1 Bp hf
   split at h
   ·cases h
   ·rename_i v' qa
    split at h
    ·rename_i rs ZQ
     split at h
     ·rename_i U8
      injection h with h;subst h
      simp only[Bool.and_eq_true,List.all_eq_true]at U8
      refine⟨rd,_,a0, .inl ⟨rs,Bn.kM a1 a2 a3 (fun x hx=>(iO rd x hx).1) (fun x hx j hj=>by simpa using U8.1 x hx j hj) (nF br cI bg hf fun r xG=> ?_),hr⟩⟩
      rw[key xG]
      refine⟨fun id aw=>tE aw,vY v,rs, ?_,ZQ,rfl,fun id aw=>by simpa using U8.2 id aw⟩
      cases v with
      |bS vs=>
       match vs,qa with
       |[],_=>rfl
       |[x],hv=>exact absurd rfl (hv x)
       |_::_::_,_=>rfl
      |_=>rfl
     ·cases h
    ·cases h
  ·rename_i v o1 Bp hf
   split at h
   ·rename_i x hx
    split at h
    ·rename_i U8
     injection h with h;subst h
     simp only[Bool.and_eq_true,List.all_eq_true]at U8
     refine⟨rd,eN st.o.get o1.get rd,a0, .inr (.inl ⟨x,Bn.kM a1 a2 a3 (fun x hx=>(iO rd x hx).1) (fun x hx j hj=>by simpa using U8.1 x hx j hj) (nF br cI bg hf fun r xG=> ?_),hr⟩)⟩
     rw[key xG]
     exact⟨fun id aw=>tE aw,x,hx,rfl,fun id aw=>by simpa using U8.2 id aw⟩
    ·cases h
   ·cases h
  ·cases h
 ·cases h
theorem U9(br:P.follows .mixedOrders=true)(cI:∀g,(bU g).Ok P g){rec:dH}(bg:eI P rec){g:Nat}{args:List V}{st:St}{rd:List Nat}{ds:List D}(ff:cf st.o.get args=some ds){r:DR}(h:cDX P bU md rec g args st rd=some r)
 {K:V->List (Nat×ab)->List Nat->Prop} {KX:V->List Nat->List Nat->Prop} (hr:r.to K KX):
 tA P g ds (fun v=>K v (bE st.S.o (V.bp args)) rd) (fun v=>K v [] rd) (fun v=>KX v [] rd):=by
 unfold cDX at h
 simp only[ff]at h
 split at h
 ·split at h
  ·rename_i v o1 Bp hr0
   split at h
   ·rename_i hrf
    injection h with h;subst h
    exact .inr (.inr ⟨v,Nd.kM hrf (nF br cI bg hr0 fun r xG=>by unfold crA at xG;injection xG with xG;injection xG with xG;rw[xG];exact rfl),hr⟩)
   ·cases h
  ·cases h
 ·split at h
  ·rename_i rs CJ
   have hP:=AA br cI bg CJ
   split at h
   ·rename_i hf
    injection h with h;subst h
    exact .inl ⟨rs,hP, .inr ⟨hf,hr⟩⟩
   ·injection h with h;subst h
    exact .inl ⟨rs,hP, .inl hr⟩
  ·rename_i x CJ
   have hP:=AA br cI bg CJ
   split at h
   ·rename_i hf
    injection h with h;subst h
    exact .inr (.inl ⟨x,hP,hf,hr⟩)
   ·cases h
  ·cases h
theorem GN{t ty:TypeId}{sz:Nat}{es:List D}{r:CR}(h:Ox P t r=some (.r (.ret [.sl es, .int .i64 (.ofNat ty), .int .i64 (.ofNat sz)]))):
 r.to (fun v o1 _=>(∃j ep,v= .osl j ep/\o1 j= .arr ep ty sz es)\/(v= .ax/\es=[]/\0<sz)) (fun _ _ _=>False):=by
 unfold Ox at h
 split at h
 ·rename_i v o1 n1
  split at h
  ·rename_i j ep
   split at h
   ·rename_i fW ty' rH es' ho
    split at h
    ·rename_i he
     have he:=Nat.eq_of_beq_eq_true he
     subst he
     rw[ET]at h
     simp only[Option.some.injEq,eA.r.injEq,R.ret.injEq,List.cons.injEq,D.sl.injEq,D.int.injEq,true_and,and_true]at h
     obtain⟨rfl,h2,h3⟩:=h
     have h2:ty'=ty:=Int.ofNat.inj h2
     have h3:rH=sz:=Int.ofNat.inj h3
     subst h2;subst h3
     exact .inl ⟨j,fW,rfl,ho⟩
    ·cases h
   ·cases h
  ·split at h
   ·rename_i e he
    split at h
    ·rename_i hp
     rw[ET]at h
     simp only[Option.some.injEq,eA.r.injEq,R.ret.injEq,List.cons.injEq,D.sl.injEq,D.int.injEq,true_and,and_true]at h
     obtain⟨rfl,h2,h3⟩:=h
     have h3:P.cellsOf e=sz:=Int.ofNat.inj h3
     subst h3
     exact .inr ⟨rfl,rfl,Nat.blt_eq.mp hp⟩
    ·cases h
   ·cases h
  ·cases h
 ·cases h
theorem OB(br:P.follows .mixedOrders=true)(cI:∀g,(bU g).Ok P g){rec:dH}(bg:eI P rec){fr:Nat}{g:Nat}{t:TypeId}{args:List V}{st:St}{r:DR}(h:U2 P bU rec g t args st fr=some r){K:V->List (Nat×ab)->List Nat->Prop}{KX:V->List Nat->List Nat->Prop}(hr:r.to K KX):
 iX P g args st.S.o st.S.nx fr K KX:=by
 unfold U2 at h
 split at h
 ·rename_i ds ff
  split at h
  ·rename_i es ty sz hr0
   injection h with h;subst h
   unfold yO at ff
   split at ff
   ·rename_i aw
    exact⟨[],_,aH, .inr (.inr ⟨_,Bo.Oo aw ff (Bo.K9 (nF br cI bg hr0 fun r xG=>GN xG)),hr⟩)⟩
   ·cases ff
  ·cases h
 ·split at h
  ·rename_i ds ff
   split at h
   ·rename_i es ty sz hr0
    split at h
    ·rename_i hc
     injection h with h;subst h
     simp only[Bool.and_eq_true]at hc
     refine⟨V.bp args,_, ?_, .inr (.inr ⟨_,Bo.On ff hc.1 (nF br cI bg hr0 fun r xG=>GN xG),hr⟩)⟩
     exact List.all_eq_true.2 fun id aw=>decide_eq_true (Nat.blt_eq.mp (List.all_eq_true.1 hc.2 id aw))
    ·cases h
   ·cases h
  ·cases h
theorem AD(br:P.follows .mixedOrders=true)(cI:∀g,(bU g).Ok P g){rec:dH}(bg:eI P rec){st:St}{fr:Nat}{o:bV}{r:DR}(h:Oy P bU md rec st fr o.op=some r){K:V->List (Nat×ab)->List Nat->Prop}{KX:V->List Nat->List Nat->Prop}(hr:r.to K KX):
 Bq P st.S fr o K KX:=by
 have hs:sDX P st fr o.op=some r->(match gG P st.S fr o.op with|some (v,Δ,_)=>K v Δ (oR st.S o.op)|none=>False):=by
  intro h
  unfold sDX at h
  split at h
  ·rename_i v Δ rd he
   injection h with h;subst h
   simp only[GD he]
   exact hr
  ·cases h
 unfold Oy at h
 unfold Bq
 split at h
 ·rename_i c hc
  simp only[hc]
  split at h
  ·rename_i f hf
   simp only[hf]
   split at h
   ·rename_i g first cap hv
    simp only[hv]
    split at h
    ·have hh:=RQ br cI bg h hr (fr:=fr)
     split
     ·exact .inr hh
     ·exact hh
    split at h
    ·rename_i r' TR
     injection h with h;subst h
     cases ff:cf st.S.o (first++List.map st.S.ev c.args.toList++cap)with
     |some ds=>exact .inl (U9 br cI bg ff TR hr)
     |none=>
      have UZ:cf st.o.get (first++List.map st.S.ev c.args.toList++cap)=none:=ff
      unfold cDX at TR
      simp only[UZ]at TR
      exact RQ br cI bg TR hr
    ·have hh:=OB br cI bg (st:=st) h hr
     split
     ·exact .inr hh
     ·exact hh
   ·cases h
  ·rename_i fe
   rw[<- hc]at h
   have:=hs h
   rw[hc]at this
   split
   ·rename_i f hf;exact absurd hf (fe f)
   ·exact this
 ·rename_i hc
  have:=hs h
  split
  ·rename_i c hh;exact absurd hh (hc c)
  ·exact this
def gdW(s:S)(gd:Option (Nat×Bool))(A B:Prop):Prop:=
 match gd with
 |none=>A
 |some (d,want)=>match s.env d with
  | .d (.bool b)=>if b=want then A else B
  | .bS []=>B
  |_=>False
theorem AE{st:St}{gd:Option (Nat×Bool)}{t:Bool}(h:gdX st gd=some t){A B:Prop}(hA:t=true->A)(hB:t=false->B):gdW st.S gd A B:=by
 cases gd with
 |none=>simp only[gdX,Option.some.injEq]at h;exact hA h.symm
 |some p=>
  obtain⟨d,want⟩:=p
  have he:st.S.env d=st.env.get d:=rfl
  simp only[gdX]at h
  simp only[gdW,he]
  split at h
  ·rename_i b hb
   injection h with h
   by_cases e:b=want
   ·rw[if_pos e];exact hA (by rw[<- h,e];simp)
   ·rw[if_neg e];exact hB (by rw[<- h];simpa using e)
  ·rename_i hb
   injection h with h
   exact hB h.symm
  ·cases h
theorem OC{P:Program}{KB:List Nat->Fp->Prop}{pr:List (List Nat)}{o:bV}{l:List bV}{fr:Nat}{s:S}{fp:Fp}{bad ws:List Nat}(hb:(pr.getD fp.length []).any (fun j=>bad.contains j)=false)
 (h:gdW s o.gd (Bq P s fr o (fun v Δ rd=>iq P KB pr l (fr+1) ⟨a8 s.env o.dst v,put s.o Δ,s.nx⟩ (fp++[(rd,Δ.map (·.1))]) bad (ws++Δ.map (·.1))) (fun _ _ _=>False)) (iq P KB pr l (fr+1) ⟨a8 s.env o.dst (.bS []),s.o,s.nx⟩ (fp++[([],[])]) bad ws)):
 iq P KB pr (o::l) fr s fp bad ws:=by
 simp only[iq]
 rw[if_neg (by rw[hb];simp)]
 cases hg:o.gd with
 |none=>rw[hg]at h;exact h
 |some p=>obtain⟨d,want⟩:=p;rw[hg]at h;exact h
theorem OD{P:Program}{K:S->Fp->Prop}{KP:V->List Nat->Fp->Prop}{pr:List (List Nat)}{o:bV}{l:List bV}{fr:Nat}{s:S}{fp:Fp}
 (h:gdW s o.gd (Bq P s fr o (fun v Δ rd=>kQ P K KP pr l (fr+1) ⟨a8 s.env o.dst v,put s.o Δ,s.nx⟩ (fp++[(rd,Δ.map (·.1))]))
  (fun v ws rd=>iq P (KP v) pr l (fr+1) ⟨a8 s.env o.dst .ad,s.o,s.nx⟩ (fp++[(rd,[])]) [fp.length] (ws++fp.flatMap (·.2)))) (kQ P K KP pr l (fr+1) ⟨a8 s.env o.dst (.bS []),s.o,s.nx⟩ (fp++[([],[])]))):
 kQ P K KP pr (o::l) fr s fp:=by
 simp only[kQ]
 cases hg:o.gd with
 |none=>rw[hg]at h;exact h
 |some p=>obtain⟨d,want⟩:=p;rw[hg]at h;exact h
theorem qS(br:P.follows .mixedOrders=true)(cI:∀g,(bU g).Ok P g){rec:dH}(bg:eI P rec){pr:List (List Nat)}{wl:List Nat}{fp':Fp}{KB:List Nat->Fp->Prop}(hK:KB wl fp'):
 ∀ (l:List bV) (fr:Nat) (st:St) (fp:Fp) (bad ws:List Nat),wa P bU md rec pr l fr st fp bad ws=some (wl,fp')->iq P KB pr l fr st.S fp bad ws
 |[],fr,st,fp,bad,ws,h=>by
  simp only[wa,Option.some.injEq,Prod.mk.injEq]at h
  obtain⟨rfl,rfl⟩:=h;exact hK
 |o::l,fr,st,fp,bad,ws,h=>by
  simp only[wa,jv,nE]at h
  split at h
  ·rename_i hb
   simp only[iq]
   rw[if_pos hb]
   have:=qS br cI bg hK l _ _ _ _ _ h
   exact J3
  ·rename_i hb
   refine OC hb ?_
   split at h
   ·rename_i hg
    refine AE hg (fun _=> ?_) (fun h=>by cases h)
    split at h
    ·rename_i v Δ rd gf
     refine AD br cI bg gf ?_
     have:=qS br cI bg hK l _ _ _ _ _ h
     simp only[St.S,jn,jP]at this
     exact this
    ·cases h
   ·rename_i hg
    refine AE hg (fun h=>by cases h) (fun _=> ?_)
    have:=qS br cI bg hK l _ _ _ _ _ h
    exact J3
   ·cases h
def DQ.to (K:S->Fp->Prop)(KP:V->List Nat->Fp->Prop):DQ->Prop
 | .fin st fp=>K st.S fp
 | .bL v wl fp=>KP v wl fp
theorem nH(br:P.follows .mixedOrders=true)(cI:∀g,(bU g).Ok P g){rec:dH}(bg:eI P rec){pr:List (List Nat)}{q:DQ}{K:S->Fp->Prop}{KP:V->List Nat->Fp->Prop}(hq:q.to K KP):
 ∀ (l:List bV) (fr:Nat) (st:St) (fp:Fp),wb P bU md rec pr l fr st fp=some q->kQ P K KP pr l fr st.S fp
 |[],fr,st,fp,h=>by
  simp only[wb,Option.some.injEq]at h
  subst h;exact hq
 |o::l,fr,st,fp,h=>by
  simp only[wb,jv,nE,Nat.cZ]at h
  refine OD ?_
  split at h
  ·rename_i hg
   refine AE hg (fun _=> ?_) (fun h=>by cases h)
   split at h
   ·rename_i v Δ rd gf
    refine AD br cI bg gf ?_
    have:=nH br cI bg hq l _ _ _ h
    simp only[St.S,jn,jP]at this
    exact this
   ·rename_i v ws rd gf
    split at h
    ·rename_i wl fp' hb
     injection h with h;subst h
     refine AD br cI bg gf ?_
     have:=qS br cI bg (KB:=KP v) hq l _ _ _ _ _ hb
     exact J3
    ·cases h
   ·cases h
  ·rename_i hg
   refine AE hg (fun h=>by cases h) (fun _=> ?_)
   have:=nH br cI bg hq l _ _ _ h
   exact J3
  ·cases h
theorem AF{pr:List (List Nat)}{fp:Fp}(h:Lq pr fp=true):eS pr fp=true:=by
 unfold Lq at h
 split at h
 ·rename_i hq
  unfold quiet at hq
  have hz:∀i,(fp.getD i ([],[])).2=[]:=by
   intro i
   rw[List.getD_eq_getElem?_getD]
   cases hx:fp[i]? with
   |none=>rfl
   |some x=>
    have:=List.all_eq_true.1 hq x (List.mem_of_getElem? hx)
    simp only[Option.getD_some]
    split at this
    ·rename_i e;exact e
    ·cases this
  unfold eS
  simp only[hz,kJ,List.all_nil,Bool.and_self,Bool.or_true]
  simp
 ·rw[GL]at h
  unfold eS
  rw[List.all_eq_true]
  intro j hj
  rw[List.all_eq_true]
  intro i hi
  exact CZ fp [] h j (Nat.zero_le _) mP i (by simpa using hi)
theorem wc:∀ (l:List Nat) (k c:Nat),c<=k->c<=yQ l k c/\∀i x,l[i]? =some x->yQ l k c<=k+i->x=2^(k+i) - 1
 |[],_,c,_=>⟨Nat.le_refl _,fun i x h=>by simp at h⟩
 |y::l,k,c,hc=>by
  simp only[yQ]
  split
  ·rename_i he
   obtain⟨h1,h2⟩:=wc l (k+1) c af
   refine⟨h1,fun i x hi hle=> ?_⟩
   cases i with
   |zero=>simp at hi;subst hi;simpa using Nat.eq_of_beq_eq_true he
   |succ i=>
    have:=h2 i x (by simpa using hi) af
    rw[this,show k+(i+1)=k+1+i by omega]
  ·obtain⟨h1,h2⟩:=wc l (k+1) (k+1) (Nat.le_refl _)
   refine⟨af,fun i x hi hle=> ?_⟩
   cases i with
   |zero=>omega
   |succ i=>
    have:=h2 i x (by simpa using hi) af
    rw[this,show k+(i+1)=k+1+i by omega]
theorem yR:∀ (pr:List (List Nat)) (acc:List Nat),(eJ pr acc).length=acc.length+pr.length
 |[],acc=>by simp[eJ]
 |ps::l,acc=>by simp only[eJ,yR l,List.length_append,List.length_cons,List.length_nil];omega
theorem Ls(pr:List (List Nat)):EK pr (qR pr)=true:=by
 refine List.all_eq_true.2 fun k hk=> ?_
 have hk:k<pr.length:=by simpa using hk
 by_cases h:k<qR pr
 ·simp[Nat.blt_eq.mpr h]
 ·have hl:k<(eJ pr []).length:=by rw[yR];simpa using hk
  have:=(wc (eJ pr []) 0 0 (Nat.le_refl _)).2 k _ (List.getElem?_eq_getElem hl) (by rw[Nat.zero_add];exact Nat.le_of_not_lt h)
  rw[Nat.zero_add]at this
  rw[List.getD_eq_getElem?_getD,List.getElem?_eq_getElem hl,Option.getD_some,this]
  simp
theorem OE(br:P.follows .mixedOrders=true)(cI:∀g,(bU g).Ok P g){rec:dH}(bg:eI P rec){l:List bV}{pr:List (List Nat)}{st st':St}{e:fL}(h:U3 P bU md rec l pr st=some (e,st')){Q:fL->S->Prop}(hQ:Q e st'.S):
 kQ P (EJ pr (st.S.nx+l.length) Q) (Cw pr l st.S Q) pr l st.S.nx st.S []:=by
 unfold U3 at h
 split at h
 ·rename_i s1 fp hd
  split at h
  ·rename_i hf
   simp only[Nat.cZ,Option.some.injEq,Prod.mk.injEq]at h
   obtain⟨rfl,rfl⟩:=h
   exact nH br cI bg (q:= .fin s1 fp) (K:=EJ pr (st.S.nx+l.length) Q) (KP:=Cw pr l st.S Q) (show EJ pr (st.S.nx+l.length) Q s1.S fp from⟨AF hf,hQ⟩) l _ _ _ hd
  ·cases h
 ·rename_i v wl fp hd
  split at h
  ·rename_i hf
   simp only[Option.some.injEq,Prod.mk.injEq]at h
   obtain⟨rfl,rfl⟩:=h
   exact nH br cI bg (q:= .bL v wl fp) (K:=EJ pr (st.S.nx+l.length) Q) (KP:=Cw pr l st.S Q) (show Cw pr l st.S Q v wl fp from⟨AF hf,hQ⟩) l _ _ _ hd
  ·cases h
 ·cases h
theorem OG(br:P.follows .mixedOrders=true)(cI:∀g,(bU g).Ok P g){rec:dH}(bg:eI P rec){n:Nat}{g:Operand}{ps:List Nat}{x y:IC}{st:St}{kt:Kt}{a:eA}(h:OA P bU rec n g ps x y st kt=some a){Q:fL->S->Prop}(hQ:∀e st',kt e st'=some a->Q e st'.S):
 Cf P n (st.S.ev g) ps x y Q st.S:=by
 unfold OA at h
 refine⟨(List.range n).map st.env.get,fun i=> ?_, ?_⟩
 ·unfold aY
  simp only[List.getD_eq_getElem?_getD,List.getElem?_map]
  by_cases hi:i<n
  ·right;rw[List.getElem?_range hi];rfl
  ·left;rw[List.getElem?_eq_none (by simp;omega)];rfl
 ·split at h
  ·rename_i f first cap hv
   simp only[hv]
   refine .inl ?_
   have key:=fun {K X} hr=>nF (K:=K) (X:=X) br cI bg h hr
   simp only[Tr.gR]at key
   refine key fun r hr=> ?_
   unfold aaZ at hr
   cases r with
   |ret v o1 Bp=>
    simp only at hr
    split at hr
    ·rename_i nf m e p c d RN pd ho
     have hl:RN≠ .busy:=by
      intro hb;subst hb;cases hr
     refine⟨nf,m,e,p,c,d,RN,pd,ho,hl, ?_⟩
     split at hr
     ·cases hr
     ·split at hr<;>(have h3:=hQ _ _ hr;simp only[qF];simp only[St.S,Tr.gR]at h3;exact h3)
    ·cases hr
   |bL v o1 Bp=>exact hQ _ _ hr
  ·cases h
theorem bH.same {b:Nat}{s:S}(h:b<=s.nx):bH b s s:=fun _ φ _ _ h1 h2=>⟨φ,h1,h2,fun _ h=>h,h,fun _ _ hr=>⟨hr,rfl⟩,fun _ e' _ he=>⟨e',he,Nat.le_refl _,fun _=>rfl⟩⟩
theorem Lt{x y:Option eA}{a:eA}(h:GM x y=some a):x=some a/\y=some a:=by
 unfold GM at h
 split at h
 ·rename_i r
  split at h
  ·rename_i r'
   split at h
   ·rename_i hs
    injection h with h;subst h
    rw[R.dZ hs]
    exact⟨rfl,rfl⟩
   ·cases h
  ·cases h
 ·cases h
theorem Va(br:P.follows .mixedOrders=true)(cI:∀g,(bU g).Ok P g):∀k,∀j,j<=k->eI P (run P bU md j):=by
 intro k
 induction k with
 |zero=>intro j hj b rd n ic st kt a h;obtain rfl:j=0:=af
        cases h
 |succ k ih=>
  intro j hj b rd n ic st kt a h Q hQ
  cases j with
  |zero=>cases h
  |succ j=>
   have bg:eI P (run P bU md j):=ih j af
   rw[Lr]at h
   cases ic with
   |skip=>exact hQ _ _ h
   |exit id=>exact hQ _ _ h
   |ret=>exact hQ _ _ h
   |bad=>cases h
   |ag l=>
    have h:Az P bU md (run P bU md j) (roX kt) l st=some a:=h
    exact uD br cI bg (K:=Q .normal) (X:=fun v s=>Q (.bL v) s) (fun r hr=>by
     cases r with
     |ok U0=>exact hQ .normal _ hr
     |bL v U0=>exact hQ (.bL v) _ hr) l _ h
   |de l pr=>
    have h:U4 l pr P bU md (run P bU md j) b rd n st kt=some a:=h
    unfold U4 at h
    rw[Nat.cZ]at h
    split at h
    ·rename_i s1 fp hd
     split at h
     ·rename_i hf
      rw[Nat.cZ]at h
      split at h
      ·rename_i Jl
       refine .inr ⟨qR pr,Nat.le_of_ble_eq_true Jl,Ls pr, ?_⟩
       refine nH br cI bg (q:= .fin s1 fp) (K:=fun s' fp=>eS pr fp=true/\pF P (fun v s=>Q (.bL v) s) (Q .normal) (l.drop (qR pr)) ⟨s'.env,s'.o,st.S.nx+qR pr⟩) (KP:=fun _ _ _=>False) (show _/\_ from⟨AF hf, ?_⟩) (l.take (qR pr)) _ _ _ hd
       exact uD br cI bg (K:=Q .normal) (X:=fun v s=>Q (.bL v) s) (fun r hr=>by
        cases r with
        |ok U0=>exact hQ .normal _ hr
        |bL v U0=>exact hQ (.bL v) _ hr) (l.drop (qR pr)) ⟨s1.env,s1.o,st.nx+qR pr⟩ h
      ·cases h
     ·cases h
    ·split at h
     ·rename_i e s1 h1
      exact .inl (OE br cI bg h1 (hQ _ _ h))
     ·cases h
    ·cases h
   |seq x y=>
    have h:run P bU md j b rd n x st (EU (run P bU md j) b rd n y kt)=some a:=h
    simp only[ux]
    refine bg _ _ _ _ _ _ _ h _ fun e s1 he=> ?_
    unfold EU at he
    cases e with
    |normal=>exact bg _ _ _ _ _ _ _ he _ hQ
    |_=>exact hQ _ _ he
   |cond c x y=>
    have h:(match st.S.ev c with| .d (.bool true)=>run P bU md j b rd n x st kt| .d (.bool false)=>run P bU md j b rd n y st kt| .fC=>GM (run P bU md j b rd n x st kt) (run P bU md j b rd n y st kt)|_=>none)=some a:=h
    simp only[ux]
    split at h
    ·rename_i hv
     simp only[hv]
     exact(vE _ _).mpr (bg _ _ _ _ _ _ _ h _ hQ)
    ·rename_i hv
     simp only[hv]
     exact(tv _ _).mpr (bg _ _ _ _ _ _ _ h _ hQ)
    ·rename_i hv
     simp only[hv]
     obtain⟨h1,h2⟩:=Lt h
     exact⟨bg _ _ _ _ _ _ _ h1 _ hQ,bg _ _ _ _ _ _ _ h2 _ hQ⟩
    ·cases h
   |block id x=>
    have h:run P bU md j b rd n x st (EV id kt)=some a:=h
    simp only[ux]
    refine bg _ _ _ _ _ _ _ h _ fun e s1 he=> ?_
    unfold EV at he
    cases e with
    |exit j'=>
     simp only at he
     split at he
     ·rename_i hb
      simp only[fF,Nat.eq_of_beq_eq_true hb,if_true];exact hQ _ _ he
     ·rename_i hb
      simp only[fF,Nat.ne_of_beq_eq_false hb,if_false];exact hQ _ _ he
    |_=>exact hQ _ _ he
   |loop x=>
    have unf:∀m RR,run P bU md (m+1) b rd n (.loop x) RR kt=some a->b<=RR.nx/\run P bU md m b rd n x RR (EU (run P bU md m) b rd n (.loop x) kt)=some a:=by
     intro m RR h
     have h:(match Nat.ble b RR.nx with|true=>run P bU md m b rd n x RR (EU (run P bU md m) b rd n (.loop x) kt)|false=>none)=some a:=h
     split at h
     ·rename_i hb;exact⟨Nat.le_of_ble_eq_true hb,h⟩
     ·cases h
    have h:run P bU md (j+1) b rd n (.loop x) st kt=some a:=h
    refine⟨fun m s=>m<=k+1/\∃st,s=st.S/\run P bU md m b rd n (.loop x) st kt=some a,⟨j+1,st.S,bH.same (unf j st h).1,hj,st,rfl,h⟩, ?_⟩
    rintro m s0 ⟨hm,RR,rfl,h0⟩
    cases m with
    |zero=>cases h0
    |succ m=>
     have aa2:eI P (run P bU md m):=ih m af
     refine aa2 _ _ _ _ _ _ _ (unf m RR h0).2 _ fun e s1 he=> ?_
     unfold EU at he
     cases e with
     |normal=>
      refine⟨m,s1.S,Nat.lt_succ_self _,bH.same ?_,af,s1,rfl,he⟩
      cases m with
      |zero=>cases he
      |succ m=>exact(unf m s1 he).1
     |_=>exact hQ _ _ he
   |Jj g ps x y=>
    cases rd with
    |true=>
     have h:(none:Option eA)=some a:=h
     cases h
    |false=>
     have h:OA P bU (run P bU md j) n g ps x y st kt=some a:=h
     exact⟨rfl,_, .inl rfl,OG br cI bg h hQ⟩
noncomputable def oK(P:Program)(bU:Nat->FD)(md:qQ P)(k:Nat)(g:Nat)(ds:List D):Option R:=
 match Lg P bU (run P bU md k) g (ds.map .d) (.e fun _=> .no) 0 CV with
 |some (.r x)=>some x
 |_=>none
theorem aV.gS (br:P.follows .mixedOrders=true)(cI:∀g,(bU g).Ok P g){k g:Nat}{ds:List D}{out:R}(h:oK P bU md k g ds=some out):aV P g ds out:=by
 unfold oK at h
 split at h
 ·rename_i x hr;injection h with h;subst h;exact CW br cI (Va br cI k k (Nat.le_refl _)) hr
 ·cases h
end
end
def Tr.GO {α:Type}(p:Nat->α->Prop):Tr α->(Nat->Nat)->Prop
 | .e g,f=>∀i,p (f i) (g i)
 | .n x l r,f=>p (f 0) x/\GO p l (fun i=>f (2*i+1))/\GO p r (fun i=>f (2*i+2))
theorem Tr.AG {α:Type}{p:Nat->α->Prop}:∀ {f:Nat->Nat} (t:Tr α),t.GO p f->∀k,p (f k) (t.get k)
 |f, .e g,h,k=>h k
 |f, .n x l r,h,k=>by
  obtain⟨h1,h2,h3⟩:=h
  rw[Tr.vU]
  split
  ·rename_i e;subst e;exact h1
  ·split
   ·have:=Tr.AG l h2 (k/2)
    rwa [show 2*(k/2)+1=k by omega]at this
   ·have:=Tr.AG r h3 (k/2 - 1)
    rwa [show 2*(k/2 - 1)+2=k by omega]at this
end Go.Proofs.YtlhemmpklhhgoaaGreat
