/-
  A PART OF THE PROOF. Conditions: none.
-/
import Derived.Test.YtonbelhklnmjnaaGreatLl10
set_option linter.unusedSimpArgs false
set_option linter.unusedVariables false
namespace Go.Proofs.YtonbelhklnmjnaaGreat
section
inductive Tr (α:Type) where
 |e (f:Nat->α)
 |n (x:α) (l r:Tr α)
noncomputable def Tr.get {α:Type}(t:Tr α):Nat->α:=
 Tr.rec (motive:=fun _=>Nat->α) (fun f=>f) (fun x _ _ l r k=>Bool.rec (Bool.rec (r (Nat.sub (Nat.div k 2) 1)) (l (Nat.div k 2)) (Nat.beq (Nat.mod k 2) 1)) x (Nat.beq k 0)) t
theorem Tr.HK {α:Type}(f:Nat->α):(Tr.e f).get=f:=rfl
noncomputable def Tr.wc {α:Type}(x:α):Nat->Tr α->Nat->Tr α
 |0,t,k=> .e (aM t.get k x)
 |d+1, .e f,k=>match Nat.beq k 0 with
  |true=> .n x (.e fun i=>f (2*i+1)) (.e fun i=>f (2*i+2))
  |false=>match Nat.beq (k%2) 1 with
   |true=> .n (f 0) (Tr.wc x d (.e fun i=>f (2*i+1)) (k/2)) (.e fun i=>f (2*i+2))
   |false=> .n (f 0) (.e fun i=>f (2*i+1)) (Tr.wc x d (.e fun i=>f (2*i+2)) (k/2 - 1))
 |d+1, .n y l r,k=>match Nat.beq k 0 with
  |true=> .n x l r
  |false=>match Nat.beq (k%2) 1 with
   |true=> .n y (Tr.wc x d l (k/2)) r
   |false=> .n y l (Tr.wc x d r (k/2 - 1))
noncomputable def Tr.set {α:Type}(t:Tr α)(k:Nat)(x:α):Tr α:=Tr.wc x 24 t k
theorem Tr.we {α:Type}{x:α}{l r:Tr α}{k:Nat}:(Tr.n x l r).get k=if k=0 then x else if k%2=1 then l.get (k/2)else r.get (k/2 - 1):=by
 show @Bool.rec (fun _=>α) (@Bool.rec (fun _=>α) (r.get (k/2 - 1)) (l.get (k/2)) (Nat.beq (k%2) 1)) x (Nat.beq k 0)=_
 by_cases h:k=0
 ·subst h;rfl
 ·have:Nat.beq k 0=false:=by cases k with|zero=>exact absurd rfl h|succ k=>rfl
  simp only[this,h,if_false]
  by_cases h2:k%2=1
  ·simp[h2]
  ·have:Nat.beq (k%2) 1=false:=by
    cases hb:Nat.beq (k%2) 1 with
    |false=>rfl
    |true=>exact absurd (Nat.eq_of_beq_eq_true hb) h2
   simp[h2,this]
theorem Tr.oh {α:Type}(x:α):∀ (d:Nat) (t:Tr α) (k:Nat),(Tr.wc x d t k).get=aM t.get k x
 |0,t,k=>rfl
 |d+1, .e f,k=>by
  funext i
  simp only[Tr.wc]
  have hb:∀a b:Nat,Nat.beq a b=decide (a=b):=fun a b=>by
   cases h:Nat.beq a b with
   |true=>simp[Nat.eq_of_beq_eq_true h]
   |false=>simp[Nat.ne_of_beq_eq_false h]
  rw[hb,hb]
  by_cases h:k=0
  ·subst h
   simp only[decide_true,Tr.we,aW]
   by_cases hi:i=0
   ·simp[hi]
   ·simp only[hi,if_false]
    by_cases h2:i%2=1
    ·simp only[h2,if_true,Tr.HK];congr 1;omega
    ·simp only[h2,if_false,Tr.HK];congr 1;omega
  ·simp only[h,decide_false]
   by_cases hk:k%2=1
   ·simp only[hk,decide_true,Tr.we,Tr.oh x d,aW,Tr.HK]
    by_cases hi:i=0
    ·exact GZ
    ·simp only[hi,if_false]
     by_cases h2:i%2=1
     ·simp only[h2,if_true]
      have e1:2*(i/2)+1=i:=af
      rw[e1]
      by_cases e:i=k
      ·simp[e]
      ·exact GS
     ·simp only[h2,if_false]
      rw[if_neg (by intro e;subst e;exact h2 hk)]
      congr 1;omega
   ·simp only[hk,decide_false,Tr.we,Tr.oh x d,aW,Tr.HK]
    by_cases hi:i=0
    ·exact GZ
    ·simp only[hi,if_false]
     by_cases h2:i%2=1
     ·simp only[h2,if_true]
      rw[if_neg (by intro e;subst e;exact hk h2)]
      congr 1;omega
     ·simp only[h2,if_false]
      have e1:2*(i/2 - 1)+2=i:=af
      rw[e1]
      by_cases e:i=k
      ·simp[e]
      ·exact GS
 |d+1, .n y l r,k=>by
  funext i
  simp only[Tr.wc]
  have hb:∀a b:Nat,Nat.beq a b=decide (a=b):=fun a b=>by
   cases h:Nat.beq a b with
   |true=>simp[Nat.eq_of_beq_eq_true h]
   |false=>simp[Nat.ne_of_beq_eq_false h]
  rw[hb,hb]
  by_cases h:k=0
  ·subst h
   simp only[decide_true,Tr.we,aW]
   by_cases hi:i=0
   ·simp[hi]
   ·simp[hi]
  ·simp only[h,decide_false]
   by_cases hk:k%2=1
   ·simp only[hk,decide_true,Tr.we,Tr.oh x d,aW]
    by_cases hi:i=0
    ·exact GZ
    ·simp only[hi,if_false]
     by_cases h2:i%2=1
     ·simp only[h2,if_true]
      by_cases e:i=k
      ·simp[e]
      ·exact GS
     ·simp only[h2,if_false]
      rw[if_neg (by intro e;subst e;exact h2 hk)]
   ·simp only[hk,decide_false,Tr.we,Tr.oh x d,aW]
    by_cases hi:i=0
    ·exact GZ
    ·simp only[hi,if_false]
     by_cases h2:i%2=1
     ·simp only[h2,if_true]
      rw[if_neg (by intro e;subst e;exact hk h2)]
     ·simp only[h2,if_false]
      by_cases e:i=k
      ·simp[e]
      ·exact GS
theorem Tr.jA {α:Type}(t:Tr α)(k:Nat)(x:α):(t.set k x).get=aM t.get k x:=Tr.oh x 24 t k
noncomputable def Nat.fc {β:Type}(n:Nat)(c:Nat->β):β:=Nat.rec (motive:=fun _=>β) (c 0) (fun m _=>c (Nat.succ m)) n
theorem Nat.du {β:Type}(n:Nat)(c:Nat->β):Nat.fc n c=c n:=by cases n<;>rfl
noncomputable def Int.fc {β:Type}(n:Int)(c:Int->β):β:=Int.rec (motive:=fun _=>β) (fun m=>Nat.fc m fun m=>c (.ofNat m)) (fun m=>Nat.fc m fun m=>c (.negSucc m)) n
theorem Int.du {β:Type}(n:Int)(c:Int->β):Int.fc n c=c n:=by cases n<;>simp only[Int.fc,Nat.du]
mutual
noncomputable def D.fc {β:Type}:D->(D->β)->β
 | .int k n,c=>Int.fc n fun n=>c (.int k n)
 | .bool b,c=>match b with|true=>c (.bool true)|false=>c (.bool false)
 | .agg l,c=>D.wg l fun l=>c (.agg l)
 | .sl l,c=>D.wg l fun l=>c (.sl l)
 | .iface t x,c=>D.fc x fun x=>c (.iface t x)
 | .str s,c=>c (.str s)
 | .fV,c=>c .fV
 | .nn,c=>c .nn
 | .bV,c=>c .bV
 | .jD,c=>c .jD
 | .mp ks vs,c=>D.wg ks fun ks=>D.wg vs fun vs=>c (.mp ks vs)
noncomputable def D.wg {β:Type}:List D->(List D->β)->β
 |[],c=>c []
 |x::xs,c=>D.fc x fun x=>D.wg xs fun xs=>c (x::xs)
end
mutual
theorem D.du {β:Type}:∀ (x:D) (c:D->β),D.fc x c=c x
 | .int k n,c=>by simp only[D.fc,Int.du]
 | .bool b,c=>by cases b<;>rfl
 | .agg l,c=>by simp only[D.fc,D.gB l]
 | .sl l,c=>by simp only[D.fc,D.gB l]
 | .iface t x,c=>by simp only[D.fc,D.du x]
 | .mp ks vs,c=>by simp only[D.fc,D.gB ks,D.gB vs]
 | .str _,_| .fV,_| .nn,_| .bV,_| .jD,_=>by simp only[D.fc]
theorem D.gB {β:Type}:∀ (x:List D) (c:List D->β),D.wg x c=c x
 |[],c=>by simp only[D.wg]
 |x::xs,c=>by simp only[D.wg,D.du x,D.gB xs]
end
mutual
noncomputable def V.fc {β:Type}:V->(V->β)->β
 | .d x,c=>D.fc x fun x=>c (.d x)
 | .agg l,c=>V.wg l fun l=>c (.agg l)
 | .cn l,c=>V.wg l fun l=>c (.cn l)
 | .ptr i o,c=>Nat.fc i fun i=>Nat.fc o fun o=>c (.ptr i o)
 | .osl i o,c=>Nat.fc i fun i=>Nat.fc o fun o=>c (.osl i o)
 | .pe a b i j k,c=>Nat.fc a fun a=>Nat.fc b fun b=>Nat.fc i fun i=>Nat.fc j fun j=>Nat.fc k fun k=>c (.pe a b i j k)
 | .pp l o,c=>D.wg l fun l=>Nat.fc o fun o=>c (.pp l o)
 | .func f a b,c=>V.wg a fun a=>V.wg b fun b=>c (.func f a b)
 | .iface t x,c=>V.fc x fun x=>c (.iface t x)
 | .sn l,c=>D.wg l fun l=>c (.sn l)
 | .yJ i j k,c=>Nat.fc i fun i=>Nat.fc j fun j=>Nat.fc k fun k=>c (.yJ i j k)
 | .mp i,c=>Nat.fc i fun i=>c (.mp i)
 | .kq i,c=>Nat.fc i fun i=>c (.kq i)
 | .bO,c=>c .bO
 | .aa,c=>c .aa
 | .fI,c=>c .fI
noncomputable def V.wg {β:Type}:List V->(List V->β)->β
 |[],c=>c []
 |x::xs,c=>V.fc x fun x=>V.wg xs fun xs=>c (x::xs)
end
mutual
theorem V.du {β:Type}:∀ (x:V) (c:V->β),V.fc x c=c x
 | .d x,c=>by simp only[V.fc,D.du]
 | .agg l,c=>by simp only[V.fc,V.gB l]
 | .cn l,c=>by simp only[V.fc,V.gB l]
 | .pp l o,c=>by simp only[V.fc,D.gB,Nat.du]
 | .func f a b,c=>by simp only[V.fc,V.gB a,V.gB b]
 | .iface t x,c=>by simp only[V.fc,V.du x]
 | .sn l,c=>by simp only[V.fc,D.gB]
 | .ptr _ _,_| .osl _ _,_| .pe _ _ _ _ _,_| .yJ _ _ _,_| .mp _,_| .kq _,_| .bO,_| .aa,_| .fI,_=>by simp only[V.fc,Nat.du]
theorem V.gB {β:Type}:∀ (x:List V) (c:List V->β),V.wg x c=c x
 |[],c=>by simp only[V.wg]
 |x::xs,c=>by simp only[V.wg,V.du x,V.gB xs]
end
section
variable {β:Type}
noncomputable def aee(k:IntKind)(n:Int)(c:V->β):β:=Int.fc n fun n=>c (.d (.int k n))
noncomputable def aef(b:Bool)(c:V->β):β:= @Bool.rec (fun _=>β) (c (.d (.bool false))) (c (.d (.bool true))) b
noncomputable def Y3(x:D)(c:V->β):β:=D.fc x fun x=>c (.d x)
noncomputable def vD(x:D):(V->β)->β:=match x with| .int k n=>aee k n| .bool b=>aef b|x=>Y3 x
noncomputable def aeg(i o:Nat)(c:V->β):β:=Nat.fc i fun i=>Nat.fc o fun o=>c (.ptr i o)
noncomputable def aeh(i o:Nat)(c:V->β):β:=Nat.fc i fun i=>Nat.fc o fun o=>c (.osl i o)
noncomputable def vPe(a b i j k:Nat)(c:V->β):β:=Nat.fc a fun a=>Nat.fc b fun b=>Nat.fc i fun i=>Nat.fc j fun j=>Nat.fc k fun k=>c (.pe a b i j k)
noncomputable def V.fck (v:V):(V->β)->β:=match v with| .d x=>vD x| .ptr i o=>aeg i o| .osl i o=>aeh i o| .pe a b i j k=>vPe a b i j k|v=>V.fc v
theorem V.Y4 (v:V)(c:V->β):V.fck v c=c v:=by
 cases v
 case d x=>
  cases x
  case int k n=>simp only[V.fck,vD,aee,Int.du]
  case bool b=>cases b<;>rfl
  all_goals exact D.du _ _
 case ptr i o=>simp only[V.fck,aeg,Nat.du]
 case osl i o=>simp only[V.fck,aeh,Nat.du]
 case pe a b i j k=>simp only[V.fck,vPe,Nat.du]
 all_goals exact V.du _ _
end
noncomputable def pfc{β:Type}:List (D×D)->(List (D×D)->β)->β
 |[],c=>c []
 |(a,b)::l,c=>D.fc a fun a=>D.fc b fun b=>pfc l fun l=>c ((a,b)::l)
theorem NF{β:Type}:∀ (x:List (D×D)) (c:List (D×D)->β),pfc x c=c x
 |[],c=>rfl
 |(a,b)::l,c=>by simp only[pfc,D.du,NF l]
noncomputable def ab.fc {β:Type}(x:ab)(c:ab->β):β:=
 match x with
 | .row cs=>V.wg cs fun cs=>c (.row cs)
 | .arr e t s es=>Nat.fc e fun e=>Nat.fc s fun s=>D.wg es fun es=>c (.arr e t s es)
 | .sF e es=>Nat.fc e fun e=>D.wg es fun es=>c (.sF e es)
 | .map kt vt l=>pfc l fun l=>c (.map kt vt l)
 | .jf l=>pfc l fun l=>c (.jf l)
 | .nD l last=>pfc l fun l=>c (.nD l last)
 | .AK l pos=>Nat.fc pos fun pos=>c (.AK l pos)
 |x=>c x
theorem ab.du {β:Type}(x:ab)(c:ab->β):ab.fc x c=c x:=by cases x<;>simp only[ab.fc,V.gB,D.gB,Nat.du,NF]
noncomputable def Tr.zD {α β:Type}(x:α)(d:Nat):Tr α->Nat->(Tr α->β)->β:=
 Nat.rec (motive:=fun _=>Tr α->Nat->(Tr α->β)->β) (fun t k c=>c (.e (aM t.get k x)))
  (fun _ ih t k c=>Tr.rec (motive:=fun _=>β) (fun f=>
   Bool.rec (Bool.rec (ih (.e fun i=>f (2*i+2)) (Nat.sub (Nat.div k 2) 1) fun r=>c (.n (f 0) (.e fun i=>f (2*i+1)) r)) (ih (.e fun i=>f (2*i+1)) (Nat.div k 2) fun l=>c (.n (f 0) l (.e fun i=>f (2*i+2)))) (Nat.beq (Nat.mod k 2) 1))
    (c (.n x (.e fun i=>f (2*i+1)) (.e fun i=>f (2*i+2)))) (Nat.beq k 0))
   (fun y l r _ _=>Bool.rec (Bool.rec (ih r (Nat.sub (Nat.div k 2) 1) fun r=>c (.n y l r)) (ih l (Nat.div k 2) fun l=>c (.n y l r)) (Nat.beq (Nat.mod k 2) 1)) (c (.n x l r)) (Nat.beq k 0)) t) d
theorem Tr.wh {α β:Type}(x:α):∀ (d:Nat) (t:Tr α) (k:Nat) (c:Tr α->β),Tr.zD x d t k c=c (Tr.wc x d t k)
 |0,t,k,c=>rfl
 |d+1, .e f,k,c=>by
  show @Bool.rec (fun _=>β) (@Bool.rec (fun _=>β) (Tr.zD x d (.e fun i=>f (2*i+2)) (k/2 - 1) fun r=>c (.n (f 0) (.e fun i=>f (2*i+1)) r)) (Tr.zD x d (.e fun i=>f (2*i+1)) (k/2) fun l=>c (.n (f 0) l (.e fun i=>f (2*i+2)))) (Nat.beq (k%2) 1)) (c (.n x (.e fun i=>f (2*i+1)) (.e fun i=>f (2*i+2)))) (Nat.beq k 0)=_
  simp only[Tr.wc,Tr.wh x d]
  cases Nat.beq k 0
  ·cases Nat.beq (k%2) 1<;>rfl
  ·rfl
 |d+1, .n y l r,k,c=>by
  show @Bool.rec (fun _=>β) (@Bool.rec (fun _=>β) (Tr.zD x d r (k/2 - 1) fun r=>c (.n y l r)) (Tr.zD x d l (k/2) fun l=>c (.n y l r)) (Nat.beq (k%2) 1)) (c (.n x l r)) (Nat.beq k 0)=_
  simp only[Tr.wc,Tr.wh x d]
  cases Nat.beq k 0
  ·cases Nat.beq (k%2) 1<;>rfl
  ·rfl
noncomputable def Tr.Y5 {α β:Type}(t:Tr α)(k:Nat)(x:α)(c:Tr α->β):β:=Tr.zD x 24 t k c
theorem Tr.HL {α β:Type}(t:Tr α)(k:Nat)(x:α)(c:Tr α->β):t.Y5 k x c=c (t.set k x):=Tr.wh x 24 t k c
structure St where
 env:Tr V
 o:Tr ab
 nx:Nat
noncomputable def St.S (st:St):S:=⟨st.env.get,st.o.get,st.nx⟩
noncomputable def JQ(o:Tr ab)(Δ:List (Nat×ab)):Tr ab:=Δ.foldl (fun f x=>f.set x.1 x.2) o
noncomputable def tU(env:Tr V)(dst:Option Tmp)(v:V):Tr V:=match dst with|some d=>env.set d v|none=>env
noncomputable def wk{β:Type}(o:Tr ab):List (Nat×ab)->(Tr ab->β)->β
 |[],c=>c o
 |(i,x)::Δ,c=>ab.fc x fun x=>o.Y5 i x fun o=>wk o Δ c
theorem oi{β:Type}:∀ (Δ:List (Nat×ab)) (o:Tr ab) (c:Tr ab->β),wk o Δ c=c (JQ o Δ)
 |[],o,c=>rfl
 |(i,x)::Δ,o,c=>by simp only[wk,ab.du,Tr.HL,oi Δ];rfl
noncomputable def mP{β:Type}(env:Tr V)(dst:Option Tmp)(v:V)(c:Tr V->β):β:=match dst with|some d=>V.fck v fun v=>env.Y5 d v c|none=>c env
theorem kz{β:Type}(env:Tr V)(dst:Option Tmp)(v:V)(c:Tr V->β):mP env dst v c=c (tU env dst v):=by
 cases dst<;>simp only[mP,tU,V.Y4,Tr.HL]
theorem kV:∀ (Δ:List (Nat×ab)) (o:Tr ab),(JQ o Δ).get=put o.get Δ
 |[],_=>rfl
 |x::Δ,o=>by
  simp only[JQ,put,List.foldl_cons]
  have:=kV Δ (o.set x.1 x.2)
  simp only[JQ,put]at this
  rw[this,Tr.jA]
theorem ko(env:Tr V)(dst:Option Tmp)(v:V):(tU env dst v).get=bB env.get dst v:=by
 cases dst<;>simp[tU,bB,Tr.jA]
section Y6
def Vk(x:Operand)(_:Program)(s:S)(_:Nat):Option gY:=one (s.ev x)
def aei(c a b:Operand)(_:Program)(s:S)(_:Nat):Option gY:=mc (rp (s.ev c) (s.ev a) (s.ev b))
def Y7(t:TypeId)(parts:Array (Nat×Operand))(P:Program)(s:S)(_:Nat):Option gY:=mc (sU P t (parts.toList.map fun p=>(p.1,s.ev p.2)))
def DO(t:TypeId)(len:Nat)(parts:Array (Nat×Operand))(P:Program)(s:S)(fr:Nat):Option gY:=iw P s.o fr t len (parts.toList.map fun p=>(p.1,s.ev p.2))
def aej(t:TypeId)(x:Operand)(P:Program)(s:S)(_:Nat):Option gY:=nT P s.o t (s.ev x)
def Y8(t:TypeId)(x v:Operand)(P:Program)(s:S)(_:Nat):Option gY:=sT P s.o t (s.ev x) (s.ev v)
def aid(x:Operand)(_:Program)(s:S)(_:Nat):Option gY:=mc (ku s.o (s.ev x))
noncomputable def aek(op:BinOp):IntKind->Int->Int->Option V:=
 match op with
 | .add=>fun k a b=>some (.d (.int k (k.wrap (Int.add a b))))
 | .sub=>fun k a b=>some (.d (.int k (k.wrap (Int.sub a b))))
 | .mul=>fun k a b=>some (.d (.int k (k.wrap (Int.mul a b))))
 |op=>Df op
theorem Rw(op:BinOp):aek op=Df op:=by cases op<;>rfl
def asInt(x:V):Option (IntKind×Int):=match x with| .d (.int k a)=>some (k,a)|_=>none
def NG(op:BinOp)(t:TypeId)(c:Bool)(x y:V)(P:Program)(o:Nat->ab):Option gY:=e7 P o op t c x y
noncomputable def ael(op:BinOp)(t:TypeId)(x y:Operand)(P:Program)(s:S)(_:Nat):Option gY:=
 match asInt (s.ev x)with
 |some (k,a)=>match asInt (s.ev y)with
  |some (k',b)=>if k=k' then match aek op k a b with
   |some v=>some (v,[],[])
   |none=>NG op t (isConst x||isConst y) (s.ev x) (s.ev y) P s.o
   else none
  |none=>NG op t (isConst x||isConst y) (s.ev x) (s.ev y) P s.o
 |none=>NG op t (isConst x||isConst y) (s.ev x) (s.ev y) P s.o
theorem DP{x:V}{k:IntKind}{a:Int}(h:asInt x=some (k,a)):x= .d (.int k a):=by
 unfold asInt at h;split at h
 ·injection h with h;cases h;rfl
 ·cases h
def F3(t:TypeId)(x:Operand)(f:Nat)(P:Program)(s:S)(_:Nat):Option gY:=mc (jl P s.o t (s.ev x) f)
def F4(t:TypeId)(x i:Operand)(P:Program)(s:S)(_:Nat):Option gY:=jk P s.o t (s.ev x) (s.ev i)
def Y9(op:Op)(P:Program)(s:S)(fr:Nat):Option gY:=gZ P s fr op
noncomputable def Rx(op:Op):Program->S->Nat->Option gY:=
 match op with
 | .move x=>Vk x
 | .assign x=>Vk x
 | .pick c a b=>aei c a b
 | .build t parts=>Y7 t parts
 | .buildSlice t len parts=>DO t len parts
 | .load t x=>aej t x
 | .store t x v=>Y8 t x v
 | .nilCheck x=>aid x
 | .binOp op t x y _=>ael op t x y
 | .fieldAddr t x f=>F3 t x f
 | .indexAddr t x i=>F4 t x i
 |op=>Y9 op
theorem HM{op:Op}{P:Program}{s:S}{fr:Nat}{r:gY}(h:Rx op P s fr=some r):gZ P s fr op=some r:=by
 cases op
 case binOp op t x y yt=>
  simp only[Rx,ael,Rw]at h
  have e:gZ P s fr (.binOp op t x y yt)=e7 P s.o op t (isConst x||isConst y) (s.ev x) (s.ev y):=rfl
  rw[e]
  split at h
  ·rename_i k a hx
   split at h
   ·rename_i k' b hy
    split at h
    ·rename_i hk
     split at h
     ·rename_i v hv
      unfold e7 A4
      simp only[DP hx,DP hy,if_pos hk,hv]
      exact h
     ·exact h
    ·cases h
   ·exact h
  ·exact h
 all_goals exact h
end Y6
inductive FD where
 |fn (n:Nat) (ic:IC) (rs:List ResultVar)
 |dfr (n:Nat) (jg fe:IC) (g t:Nat) (gk:List Operand) (rs:List ResultVar) (m r r1:Nat) (zC:IC)
 |mpc
 |no
def FD.Ok (P:Program)(f:Nat):FD->Prop
 | .fn n ic rs=>aE P f n ic rs
 | .dfr n jg fe g t gk rs m r r1 zC=>HJ P f n jg fe g t gk rs/\DK P g m r r1 zC
 | .mpc=>Vj P f
 | .no=>True
inductive CR where
 |ret (v:V) (o:Tr ab) (nx:Nat)|bW (v:V) (o:Tr ab) (nx:Nat)
def CR.to (K X:V->(Nat->ab)->Nat->Prop):CR->Prop
 | .ret v o nx=>K v o.get nx
 | .bW v o nx=>X v o.get nx
inductive RO where
 |ok (st:St)|bW (v:V) (st:St)
def RO.to (K:S->Prop)(X:V->S->Prop):RO->Prop
 | .ok st=>K st.S
 | .bW v st=>X v st.S
inductive fi where
 |r (x:R)|c (x:CR)
abbrev Kt:=gf->St->Option fi
abbrev ei:=Nat->Bool->Nat->IC->St->Kt->Option fi
noncomputable def JR(P:Program)(rs:List ResultVar)(st:St)(kc:CR->Option fi):Option fi:=
 match mJ P st.S rs with
 |some [v]=>kc (.ret v st.o st.nx)
 |some vs=>kc (.ret (.cn vs) st.o st.nx)
 |none=>none
noncomputable def Vl(P:Program)(rs:List ResultVar)(kc:CR->Option fi):Kt:=fun e st=>
 match e with
 | .normal=>JR P rs st kc
 | .ret=>JR P rs st kc
 | .bW v=>kc (.bW v st.o st.nx)
 | .exit _=>none
noncomputable def NH(P:Program)(rs:List ResultVar)(kc:CR->Option fi)(env:Tr V):Kt:=fun e s4=>
 match e with
 | .normal=>JR P rs ⟨env,s4.o,s4.nx⟩ kc
 | .ret=>JR P rs ⟨env,s4.o,s4.nx⟩ kc
 |_=>none
def aem:gf->Option V
 | .normal=>some (.d .fV)
 | .ret=>some (.d .fV)
 | .bW v=>some v
 | .exit _=>none
noncomputable def NI(P:Program)(rec:ei)(rs:List ResultVar)(aK:List V)(m r r1:Nat)(zC:IC)(kc:CR->Option fi):Kt:=fun e s3=>
 match aem e with
 |some u=>if aK.length<=m then rec s3.nx true m zC ⟨.e (aM (aM (cN aK) r u) r1 u),s3.o,s3.nx⟩ (NH P rs kc s3.env)else none
 |none=>none
noncomputable def HN(P:Program)(rec:ei)(n t:Nat)(fe:IC)(g:Nat)(gk:List Operand)(rs:List ResultVar)(m r r1:Nat)(zC:IC)(kc:CR->Option fi):Kt:=fun e s1=>
 match e with
 | .normal=>rec s1.nx false n fe ⟨s1.env.set t (.func (.func g) [] (gk.map s1.S.ev)),s1.o,s1.nx⟩ (NI P rec rs (gk.map s1.S.ev) m r r1 zC kc)
 |_=>none
noncomputable def NJ(P:Program)(cl:Nat->FD)(rec:ei)(g:Nat)(args:List V)(o:Tr ab)(nx:Nat)(kc:CR->Option fi):Option fi:=
 match cl g with
 | .fn n ic rs=>if args.length<=n then rec nx false n ic ⟨.e (cN args),o,nx⟩ (Vl P rs kc)else none
 | .dfr n jg fe g t gk rs m r r1 zC=>if args.length<=n then rec nx true n jg ⟨.e (cN args),o,nx⟩ (HN P rec n t fe g gk rs m r r1 zC kc)else none
 | .mpc=>match args with
   |[.mp id]=>match o.get id with
    | .map kt vt l=>kc (.ret (.mp nx) (o.set nx (.map kt vt l)) (nx+1))
    |_=>none
   |_=>none
 | .no=>none
def wm:V->List V
 | .cn vs=>vs
 |v=>[v]
noncomputable def HO(r:CR):Option R:=
 match r with
 | .ret v o _=>match v with
   | .cn [_]=>none
   |v=>match cA o.get (wm v)with
    |some rs=>some (.ret rs)
    |none=>none
 | .bW v o _=>match eI o.get v with
   |some x=>some (.bW x)
   |none=>none
noncomputable def rfc{β:Type}(x:R)(c:R->β):β:=match x with| .ret l=>D.wg l fun l=>c (.ret l)| .bW d=>D.fc d fun d=>c (.bW d)
theorem F5{β:Type}(x:R)(c:R->β):rfc x c=c x:=by cases x<;>simp only[rfc,D.gB,D.du]
noncomputable def DS(r:CR):Option fi:=match HO r with|some x=>rfc x fun x=>some (.r x)|none=>none
theorem NK{r:CR}{a:fi}(h:DS r=some a):∃x,HO r=some x/\a= .r x:=by
 unfold DS at h
 split at h
 ·rename_i x hx;rw[F5]at h;injection h with h;exact⟨x,hx,h.symm⟩
 ·cases h
def NL(out:R)(o:Tr ab)(nx:Nat):CR:=
 match out with
 | .ret rs=> .ret (ke rs) o nx
 | .bW x=> .bW (.d x) o nx
structure rE (P:Program) where
 dat:Nat->Bool
 fx:Nat->List D->Option R
 ok:∀g ds out,fx g ds=some out->aQ P g ds out
def NM(l:List (Nat×List D×R))(g:Nat)(ds:List D):Option R:=
 match l with
 |[]=>none
 |x::l=>match Nat.beq x.1 g with
  |true=>match D.iq x.2.1 ds with
   |true=>some x.2.2
   |false=>NM l g ds
  |false=>NM l g ds
theorem Bp{P:Program}:∀ {l:List (Nat×List D×R)},(∀x∈l,aQ P x.1 x.2.1 x.2.2)->∀g ds out,NM l g ds=some out->aQ P g ds out
 |[],_,_,_,_,h=>by cases h
 |x::l,hl,g,ds,out,h=>by
  simp only[NM]at h
  split at h
  ·rename_i hg
   split at h
   ·rename_i hd
    injection h with h
    have:=hl x ao
    rw[Nat.eq_of_beq_eq_true hg,D.ey _ _ hd,h]at this
    exact this
   ·exact Bp (fun y hy=>hl y pD) g ds out h
  ·exact Bp (fun y hy=>hl y pD) g ds out h
def rE.of {P:Program}(dat:Nat->Bool)(l:List (Nat×List D×R))(h:∀x∈l,aQ P x.1 x.2.1 x.2.2):rE P:=⟨dat,NM l,Bp h⟩
noncomputable def Ry(P:Program)(cl:Nat->FD)(md:rE P)(rec:ei)(g:Nat)(ds:List D):Option R:=
 match md.fx g ds with
 |some out=>some out
 |none=>match NJ P cl rec g (ds.map .d) (.e fun _=> .no) 0 DS with
  |some (.r x)=>some x
  |_=>none
noncomputable def Vm(out:R)(o:Tr ab)(nx:Nat)(args:List V)(kc:CR->Option fi):Option fi:=
 match out.flat with
 |true=>kc (NL out o (nx+1))
 |false=>match out.nO with
  |true=>kc (NL out (JQ o (sG o.get (V.bK args))) (nx+1))
  |false=>kc (NL out (JQ o (dw o.get (V.bK args))) (nx+1))
noncomputable def HP(P:Program)(cl:Nat->FD)(md:rE P)(rec:ei)(g:Nat)(args:List V)(o:Tr ab)(nx:Nat)(kc:CR->Option fi):Option fi:=
 match md.dat g,cA o.get args with
 |true,some ds=>match Ry P cl md rec g ds with
  |some out=>Vm out o nx args kc
  |none=>none
 |_,_=>NJ P cl rec g args o nx kc
noncomputable def NN(id:Nat)(kc:CR->Option fi):Kt:=fun e s2=>
 match e with
 | .bW v=>kc (.bW v s2.o s2.nx)
 |e=>match s2.o.get id with
  | .loop nf m en p c d _ _=>match e with
    | .normal=>kc (.ret (.d (.bool true)) (s2.o.set id (.loop nf m en p c d .ready none)) s2.nx)
    | .ret=>kc (.ret (.d (.bool false)) (s2.o.set id (.loop nf m en p c d .done (some .ret))) s2.nx)
    | .exit j=>kc (.ret (.d (.bool false)) (s2.o.set id (.loop nf m en p c d .done (some (.exit j)))) s2.nx)
    | .bW _=>none
  |_=>none
noncomputable def HQ(rec:ei)(id nx n:Nat)(fe:IC)(kc:CR->Option fi):Kt:=fun e s1=>
 match e with
 | .normal=>match s1.o.get id with
   | .loop nf m en p c d .ready pd=>rec nx true n fe ⟨s1.env,s1.o.set id (.loop nf m en p c d .busy pd),s1.nx⟩ (NN id kc)
   |_=>none
 | .bW v=>kc (.bW v s1.o s1.nx)
 |_=>none
noncomputable def Za(P:Program)(rec:ei)(id:Nat)(args:List V)(o:Tr ab)(nx:Nat)(kc:CR->Option fi):Option fi:=
 match o.get id with
 | .loop nf n env ps jg fe _ _=>if nf=P.funcs.size/\id<nx/\ps.all (fun t=>decide (t<n))=true/\args.length=ps.length then
  rec nx true n jg ⟨.e (nY (br env) ps args),o,nx⟩ (HQ rec id nx n fe kc)
   else none
 |_=>none
noncomputable def zE(P:Program)(st:St)(o:cq)(kr:RO->Option fi):Option fi:=
 match Rx o.op P st.S st.nx with
 |some (v,Δ,_)=>mP st.env o.dst v fun e=>wk st.o Δ fun ob=>Nat.fc (st.nx+1) fun n=>kr (.ok ⟨e,ob,n⟩)
 |none=>none
noncomputable def crX(st:St)(dst:Option Nat)(kr:RO->Option fi)(c:CR):Option fi:=
 match c with
 | .ret v o nx=>mP st.env dst v fun e=>Nat.fc nx fun nx=>kr (.ok ⟨e,o,nx⟩)
 | .bW v o nx=>kr (.bW v ⟨st.env,o,nx⟩)
noncomputable def NO(c:Call)(P:Program)(cl:Nat->FD)(md:rE P)(rec:ei)(st:St)(o:cq)(kr:RO->Option fi):Option fi:=
 match c.callee with
 | .value f=>match st.S.ev f with
   | .func (.func g) first cap=>HP P cl md rec g (first++c.args.toList.map st.S.ev++cap) st.o st.nx (crX st o.dst kr)
   | .kq id=>Za P rec id (c.args.toList.map st.S.ev) st.o st.nx (crX st o.dst kr)
   |_=>none
 | .invoke r m=>match vL P m (st.S.ev r)with
   |some (g,y)=>HP P cl md rec g (y::c.args.toList.map st.S.ev) st.o st.nx (crX st o.dst kr)
   |none=>none
 |_=>zE P st o kr
noncomputable def Zb(x:Operand)(P:Program)(_:Nat->FD)(_:rE P)(_:ei)(st:St)(_:cq)(kr:RO->Option fi):Option fi:=
 match st.S.ev x with
 | .d (.iface t y)=>kr (.bW (.d (.iface t y)) st)
 | .iface t y=>kr (.bW (.iface t y) st)
 |_=>none
noncomputable def aen(P:Program)(_:Nat->FD)(_:rE P)(_:ei)(st:St)(o:cq)(kr:RO->Option fi):Option fi:=zE P st o kr
def R.same:R->R->Bool
 | .ret a, .ret b=>D.iq a b
 | .bW a, .bW b=>a.same b
 |_,_=>false
theorem R.eU {x y:R}(h:x.same y=true):x=y:=by
 cases x<;>cases y<;>simp only[R.same,Bool.false_eq_true]at h
 ·rw[D.ey _ _ h]
 ·rw[D.eU _ _ h]
noncomputable def brX(f:Nat->Option fi):Nat->Option fi
 |0=>none
 |n+1=>match n with
  |0=>f 0
  |n=>match brX f n with
   |some (.r a)=>match f n with
    |some (.r b)=>match R.same a b with
     |true=>some (.r a)
     |false=>none
    |_=>none
   |_=>none
theorem NP{f:Nat->Option fi}{a:fi}:∀ {n:Nat},brX f n=some a->∀i,i<n->f i=some a
 |0,h,_,_=>by cases h
 |1,h,i,hi=>by obtain rfl:i=0:=af
               exact h
 |n+2,h,i,hi=>by
  simp only[brX]at h
  split at h
  ·rename_i x hx
   split at h
   ·rename_i y hy
    split at h
    ·rename_i he
     have e:=R.eU he
     subst e
     rw[<- h]
     by_cases e:i=n+1
     ·subst e;exact hy
     ·exact NP hx i af
    ·cases h
   ·cases h
  ·cases h
noncomputable def Rz(st:St)(dst:Option Nat)(kr:RO->Option fi)(v:V)(Δ:List (Nat×ab)):Option fi:=
 mP st.env dst v fun e=>wk st.o Δ fun ob=>Nat.fc (st.nx+1) fun n=>kr (.ok ⟨e,ob,n⟩)
noncomputable def NQ(x:Operand)(str:Bool)(P:Program)(_:Nat->FD)(_:rE P)(_:ei)(st:St)(o:cq)(kr:RO->Option fi):Option fi:=
 match pI st.o.get (st.S.ev x)with
 |some (id,l)=>match str with
  |true=>none
  |false=>match l with
   |[]=>Rz st o.dst kr (.cn [.d (.bool false)]) []
   |_=>brX (fun i=>match l[i]? with
    |some (k,x)=>Rz st o.dst kr (.cn [.d (.bool true), .d k, .d x]) [(id, .nD (l.eraseIdx i) (some (k,x)))]
    |none=>none) l.length
 |none=>zE P st o kr
noncomputable def opK(op:Op):(P:Program)->(Nat->FD)->rE P->ei->St->cq->(RO->Option fi)->Option fi:=
 match op with
 | .call c=>NO c
 | .panic x=>Zb x
 | .next x str=>NQ x str
 |_=>aen
noncomputable def opX(P:Program)(cl:Nat->FD)(md:rE P)(rec:ei)(st:St)(o:cq)(kr:RO->Option fi):Option fi:=opK o.op P cl md rec st o kr
noncomputable def roK(next:St->Option fi)(kr:RO->Option fi):RO->Option fi:=fun r=>match r with| .ok st=>next st| .bW v st=>kr (.bW v st)
noncomputable def Bq(P:Program)(cl:Nat->FD)(md:rE P)(rec:ei)(kr:RO->Option fi):List cq->St->Option fi
 |[],st=>kr (.ok st)
 |o::l,st=>match(match o.gd with
   |none=>some true
   |some (d,want)=>match st.env.get d with
    | .d (.bool b)=>some (b==want)
    | .cn []=>some false
    |_=>none)with
  |some true=>opX P cl md rec st o (roK (Bq P cl md rec kr l) kr)
  |some false=>mP st.env o.dst (.cn []) fun e=>Nat.fc (st.nx+1) fun n=>Bq P cl md rec kr l ⟨e,st.o,n⟩
  |none=>none
section
variable {P:Program}{cl:Nat->FD}{md:rE P}
noncomputable def fw(P:Program)(rec:ei):Prop:=∀b rd n ic st k a,rec b rd n ic st k=some a->∀Q:gf->S->Prop,(∀e st',k e st'=some a->Q e st'.S)->uV P n b rd ic Q st.S
theorem uY{rs:List ResultVar}{st:St}{kc:CR->Option fi}{a:fi}(h:JR P rs st kc=some a){K X:V->(Nat->ab)->Nat->Prop}(hr:∀r,kc r=some a->r.to K X):mM P rs K X .ret st.S:=by
 unfold JR at h
 unfold mM
 split at h
 ·rename_i v hv;simp only[hv];exact hr _ h
 ·rename_i vs hv hn
  simp only[hn]
  exact hr _ h
 ·cases h
theorem oj(bI:P.follows .mixedOrders=true)(cY:∀g,(cl g).Ok P g){rec:ei}(bU:fw P rec){g:Nat}{args:List V}{o:Tr ab}{nx:Nat}{kc:CR->Option fi}{a:fi}(h:NJ P cl rec g args o nx kc=some a){K X:V->(Nat->ab)->Nat->Prop}(hr:∀r,kc r=some a->r.to K X):
 cR P g args o.get nx K X:=by
 have bw:=cY g
 unfold NJ at h
 split at h
 ·rename_i n ic rs ht
  rw[ht]at bw
  split at h
  ·rename_i hl
   refine cR.vZ bI bw hl ?_
   refine bU _ _ _ _ _ _ _ h _ fun e st he=> ?_
   unfold Vl at he
   cases e with
   |normal=>exact uY he hr
   |ret=>exact uY he hr
   |bW v=>exact hr _ he
   |exit j=>cases he
  ·cases h
 ·rename_i n jg fe g' t gk rs m r0 r1 zC ht
  rw[ht]at bw
  split at h
  ·rename_i hl
   refine cR.DN bI bw.1 bw.2 hl (bU _ _ _ _ _ _ _ h _ fun e s1 he=> ?_)
   unfold HN at he
   cases e with
   |normal=>
    have hb:uV P n s1.nx false fe (Bn P m r0 r1 zC (gk.map s1.S.ev) rs K X) ⟨aM s1.env.get t (.func (.func g') [] (gk.map s1.S.ev)),s1.o.get,s1.nx⟩:=by
     have:=bU _ _ _ _ _ _ _ he (Bn P m r0 r1 zC (gk.map s1.S.ev) rs K X) (fun e s3 he3=>by
      unfold NI at he3
      split at he3
      ·rename_i u hu
       split at he3
       ·rename_i p8
        have hrw:F1 P m r0 r1 zC (gk.map s1.S.ev) u s3.o.get s3.nx fun o nx=>mM P rs K X .ret ⟨s3.env.get,o,nx⟩:=by
         refine⟨p8,bU _ _ _ _ _ _ _ he3 _ fun e4 s4 he4=> ?_⟩
         unfold NH at he4
         cases e4 with
         |normal=>exact uY (st:=⟨s3.env,s4.o,s4.nx⟩) he4 hr
         |ret=>exact uY (st:=⟨s3.env,s4.o,s4.nx⟩) he4 hr
         |_=>cases he4
        cases e<;>simp only[aem,Option.some.injEq,reduceCtorEq]at hu<;>subst hu<;>exact hrw
       ·cases he3
      ·cases he3)
     simp only[St.S,Tr.jA]at this
     exact this
    exact hb
   |_=>cases he
  ·cases h
 ·rename_i ht
  rw[ht]at bw
  split at h
  ·split at h
   ·rename_i kt vt l ho
    have h2:=hr _ h
    simp only[CR.to,Tr.jA]at h2
    exact cR.Y2 bw ho h2
   ·cases h
  ·cases h
 ·cases h
theorem NR{r:CR}{out:R}(ho:HO r=some out):r.to (fun v o _=>∃vs rs,v=(match vs with|[v]=>v|vs=> .cn vs)/\cA o vs=some rs/\out= .ret rs) (fun v o _=>∃x,eI o v=some x/\out= .bW x):=by
 unfold HO at ho
 split at ho
 ·rename_i v o nx
  split at ho
  ·cases ho
  ·rename_i hv
   split at ho
   ·rename_i rs hrs
    injection ho with ho;subst ho
    refine⟨wm v,rs, ?_,hrs,rfl⟩
    cases v with
    |cn vs=>
     match vs,hv with
     |[],_=>rfl
     |[x],hv=>exact absurd rfl (hv x)
     |_::_::_,_=>rfl
    |_=>rfl
   ·cases ho
 ·split at ho
  ·rename_i x hx
   injection ho with ho;subst ho
   exact⟨x,hx,rfl⟩
  ·cases ho
theorem DT(bI:P.follows .mixedOrders=true)(cY:∀g,(cl g).Ok P g){rec:ei}(bU:fw P rec){g:Nat}{ds:List D}{out:R}(h:NJ P cl rec g (ds.map .d) (.e fun _=> .no) 0 DS=some (.r out)):aQ P g ds out:=by
 refine aQ.mN (oj bI cY bU h fun r hr=> ?_)
 obtain⟨x,hx,he⟩:=NK hr
 injection he with he;subst he
 exact NR hx
theorem Br(bI:P.follows .mixedOrders=true)(cY:∀g,(cl g).Ok P g){rec:ei}(bU:fw P rec){g:Nat}{ds:List D}{out:R}(h:Ry P cl md rec g ds=some out):aQ P g ds out:=by
 unfold Ry at h
 split at h
 ·rename_i ajG ho
  injection h with h;subst h
  exact md.ok _ _ _ ho
 ·split at h
  ·rename_i x hr;injection h with h;subst h;exact DT bI cY bU hr
  ·cases h
theorem DU(bI:P.follows .mixedOrders=true)(cY:∀g,(cl g).Ok P g){rec:ei}(bU:fw P rec){g:Nat}{args:List V}{o:Tr ab}{nx:Nat}{kc:CR->Option fi}{a:fi}(h:HP P cl md rec g args o nx kc=some a){K X:V->(Nat->ab)->Nat->Prop}(hr:∀r,kc r=some a->r.to K X):
 UN P g args o.get nx K X:=by
 unfold HP at h
 split at h
 ·rename_i ds hmd fT
  split at h
  ·rename_i out NS
   have hP:=Br bI cY bU NS
   refine .inl ⟨ds,fT,out,hP, ?_⟩
   unfold Vm at h
   split at h
   ·rename_i hf
    refine .inr (.inl ⟨hf, ?_⟩)
    cases out<;>exact hr _ h
   ·split at h
    ·rename_i hf
     refine .inr (.inr ⟨hf, ?_⟩)
     rw[<- kV]
     cases out<;>exact hr _ h
    ·refine .inl ?_
     rw[<- kV]
     cases out<;>exact hr _ h
  ·cases h
 ·exact .inr (oj bI cY bU h hr)
theorem RA(bI:P.follows .mixedOrders=true){rec:ei}(bU:fw P rec){id:Nat}{args:List V}{o:Tr ab}{nx:Nat}{kc:CR->Option fi}{a:fi}(h:Za P rec id args o nx kc=some a){K X:V->(Nat->ab)->Nat->Prop}(hr:∀r,kc r=some a->r.to K X):
 eD P id args o.get nx K X:=by
 unfold Za at h
 split at h
 ·rename_i nf n env ps jg fe st pd ho
  split at h
  ·rename_i hc
   obtain⟨rfl,cD,DJ,hl⟩:=hc
   refine eD.vZ bI ho cD DJ hl ?_
   refine bU _ _ _ _ _ _ _ h _ fun e s1 he=> ?_
   unfold HQ at he
   cases e with
   |normal=>
    simp only at he
    split at he
    ·rename_i nf m en p c d pd qA
     refine⟨nf,m,en,p,c,d,pd,qA, ?_⟩
     have:=bU _ _ _ _ _ _ _ he (jU id K X) (fun e s2 h2=>by
      unfold NN at h2
      split at h2
      ·exact hr _ h2
      ·rename_i UH
       split at h2
       ·rename_i nf' m' en' p' c' d' st' pd' Zc
        cases e with
        |bW v=>cases h2
        |normal=>have h3:=hr _ h2;simp only[CR.to,Tr.jA]at h3;exact⟨nf',m',en',p',c',d',st',pd',Zc,h3⟩
        |ret=>have h3:=hr _ h2;simp only[CR.to,Tr.jA]at h3;exact⟨nf',m',en',p',c',d',st',pd',Zc,h3⟩
        |exit j=>have h3:=hr _ h2;simp only[CR.to,Tr.jA]at h3;exact⟨nf',m',en',p',c',d',st',pd',Zc,h3⟩
       ·cases h2)
     simp only[St.S,Tr.jA]at this
     exact this
    ·cases he
   |bW v=>exact hr _ he
   |_=>cases he
  ·cases h
 ·cases h
theorem wo{st:St}{o:cq}{kr:RO->Option fi}{a:fi}(h:zE P st o kr=some a){K:S->Prop}{X:V->S->Prop}(hr:∀r,kr r=some a->r.to K X):match gZ P st.S st.S.nx o.op with
 |some (v,Δ,_)=>K ⟨bB st.S.env o.dst v,put st.S.o Δ,st.S.nx+1⟩
 |none=>False:=by
 unfold zE at h
 split at h
 ·rename_i v Δ rd he
  have he:=HM he
  simp only[kz,oi,Nat.du]at h
  have hr:=hr _ h
  simp only[RO.to,St.S,ko,kV]at hr
  have qz:gZ P st.S st.S.nx o.op=some (v,Δ,rd):=he
  simp only[qz]
  exact hr
 ·cases h
theorem HS{st:St}{dst:Option Nat}{kr:RO->Option fi}{v:V}{Δ:List (Nat×ab)}{a:fi}(h:Rz st dst kr v Δ=some a){K:S->Prop}{X:V->S->Prop}(hr:∀r,kr r=some a->r.to K X):K ⟨bB st.S.env dst v,put st.S.o Δ,st.S.nx+1⟩:=by
 unfold Rz at h
 simp only[kz,oi,Nat.du]at h
 have hr:=hr _ h
 simp only[RO.to,St.S,ko,kV]at hr
 exact hr
theorem Zd(bI:P.follows .mixedOrders=true)(cY:∀g,(cl g).Ok P g){rec:ei}(bU:fw P rec){st:St}{o:cq}{kr:RO->Option fi}{a:fi}(h:opX P cl md rec st o kr=some a){K:S->Prop}{X:V->S->Prop}(hr:∀r,kr r=some a->r.to K X):Lf P st.S o X K:=by
 have cr:∀r,crX st o.dst kr r=some a->r.to (fun v o' nx'=>K ⟨bB st.S.env o.dst v,o',nx'⟩) (fun v o' nx'=>X v ⟨st.S.env,o',nx'⟩):=by
  intro r hx
  unfold crX at hx
  split at hx
  ·simp only[kz,Nat.du]at hx
   have hr:=hr _ hx
   simp only[RO.to,St.S,ko]at hr
   exact hr
  ·exact hr _ hx
 unfold opX at h
 unfold Lf
 cases eJ:o.op
 case call c=>
  rw[eJ]at h
  have h:NO c P cl md rec st o kr=some a:=h
  unfold NO at h
  cases hf:c.callee
  case value f=>
   simp only[hf]at h|-
   split at h
   ·rename_i g first cap hv
    simp only[hv]
    have:=DU bI cY bU h cr
    rcases this with⟨ds,fT,hP⟩|hC
    ·have Ze:cA st.S.o (first++List.map st.S.ev c.args.toList++cap)=some ds:=fT
     simp only[Ze]
     exact .inl hP
    ·split
     ·exact .inr (.inl hC)
     ·exact .inl hC
   ·rename_i id hv
    simp only[hv]
    exact RA bI bU h cr
   ·cases h
  case invoke r m=>
   simp only[hf]at h|-
   split at h
   ·rename_i g y hv
    simp only[hv]
    exact DU bI cY bU h cr
   ·cases h
  all_goals
   simp only[hf]at h|-
   have:=wo h hr
   rw[eJ]at this
   exact this
 case panic x=>
  rw[eJ]at h
  have h:Zb x P cl md rec st o kr=some a:=h
  unfold Zb at h
  split at h
  ·rename_i hv;simp only[hv];exact hr _ h
  ·rename_i hv;simp only[hv];exact hr _ h
  ·cases h
 case next x str=>
  rw[eJ]at h
  have h:NQ x str P cl md rec st o kr=some a:=h
  unfold NQ at h
  have hl:pI st.S.o (st.S.ev x)=pI st.o.get (st.S.ev x):=rfl
  simp only[hl]
  split at h
  ·rename_i id l aG
   simp only[aG]
   cases str with
   |true=>cases h
   |false=>
    refine⟨rfl,fun e=> ?_,fun i k y e=> ?_⟩
    ·subst e
     exact HS h hr
    ·cases l with
     |nil=>simp at e
     |cons p l=>
      have:=NP h i (List.getElem?_eq_some_iff.1 e).1
      rw[e]at this
      exact HS this hr
  ·rename_i aG
   simp only[aG]
   have:=wo h hr
   rw[eJ]at this
   exact this
 all_goals
  have h2:zE P st o kr=some a:=by rw[eJ]at h;exact h
  have:=wo h2 hr
  rw[eJ]at this
  exact this
theorem uZ(bI:P.follows .mixedOrders=true)(cY:∀g,(cl g).Ok P g){rec:ei}(bU:fw P rec){kr:RO->Option fi}{a:fi}{K:S->Prop}{X:V->S->Prop}(hr:∀r,kr r=some a->r.to K X):∀ (l:List cq) (st:St),Bq P cl md rec kr l st=some a->qe P X K l st.S
 |[],st,h=>hr (.ok st) h
 |o::l,st,h=>by
  simp only[Bq,kz,Nat.du]at h
  simp only[qe]
  have op:opX P cl md rec st o (roK (Bq P cl md rec kr l) kr)=some a->Lf P st.S o X (qe P X K l):=by
   intro h
   refine Zd bI cY bU h fun r hrr=> ?_
   cases r with
   |ok Zf=>exact uZ bI cY bU hr l Zf hrr
   |bW v Zf=>exact hr (.bW v Zf) hrr
  have sk:Bq P cl md rec kr l ⟨tU st.env o.dst (.cn []),st.o,st.nx+1⟩=some a->qe P X K l ⟨bB st.S.env o.dst (.cn []),st.S.o,st.S.nx+1⟩:=by
   intro h
   have:=uZ bI cY bU hr l _ h
   exact Cv
  cases hg:o.gd with
  |none=>simp only[hg]at h;exact op h
  |some p=>
   obtain⟨d,want⟩:=p
   simp only[hg]at h
   have he:st.S.env d=st.env.get d:=rfl
   simp only[he]
   cases hv:st.env.get d with
   |d x=>
    cases x with
    |bool b=>
     simp only[hv]at h|-
     by_cases e:b=want
     ·subst e
      simp only[beq_self_eq_true]at h
      rw[if_pos rfl];exact op h
     ·have:(b==want)=false:=by simpa using e
      rw[this]at h
      rw[if_neg e];exact sk h
    |_=>simp[hv]at h
   |cn vs=>
    cases vs with
    |nil=>simp only[hv]at h|-;exact sk h
    |cons a cE=>simp[hv]at h
   |_=>simp[hv]at h
end
end
section
mutual
def V.same:V->V->Bool
 | .d x, .d y=>x.same y
 | .bO, .bO=>true
 | .aa, .aa=>true
 | .agg a, .agg b=>V.iq a b
 | .ptr i o, .ptr j p=>Nat.beq i j&&Nat.beq o p
 | .osl i o, .osl j p=>Nat.beq i j&&Nat.beq o p
 | .sn a, .sn b=>D.iq a b
 | .iface t x, .iface u y=>Nat.beq t u&&x.same y
 | .mp i, .mp j=>Nat.beq i j
 |_,_=>false
def V.iq:List V->List V->Bool
 |[],[]=>true
 |a::cE,b::bs=>a.same b&&V.iq cE bs
 |_,_=>false
end
mutual
theorem V.eU:∀ (x y:V),x.same y=true->x=y
 | .d x,y,h=>by cases y<;>simp only[V.same,Bool.false_eq_true]at h;rw[D.eU _ _ h]
 | .bO,y,h=>by cases y<;>simp_all[V.same]
 | .aa,y,h=>by cases y<;>simp_all[V.same]
 | .agg a,y,h=>by cases y<;>simp only[V.same,Bool.false_eq_true]at h;rw[V.ey _ _ h]
 | .ptr i o,y,h=>by
   exact TF
 | .osl i o,y,h=>by
   exact TF
 | .sn a,y,h=>by cases y<;>simp only[V.same,Bool.false_eq_true]at h;rw[D.ey _ _ h]
 | .iface t x,y,h=>by
   cases y<;>simp only[V.same,Bool.false_eq_true,Bool.and_eq_true]at h
   rw[Nat.eq_of_beq_eq_true h.1,V.eU _ _ h.2]
 | .mp i,y,h=>by
   cases y<;>simp only[V.same,Bool.false_eq_true]at h
   rw[Nat.eq_of_beq_eq_true h]
 | .cn _,y,h| .pe _ _ _ _ _,y,h| .pp _ _,y,h| .func _ _ _,y,h| .yJ _ _ _,y,h| .fI,y,h| .kq _,y,h=>by simp[V.same]at h
theorem V.ey:∀ (x y:List V),V.iq x y=true->x=y
 |[],y,h=>by cases y<;>simp_all[V.iq]
 |a::cE,y,h=>by
  cases y<;>simp only[V.iq,Bool.false_eq_true,Bool.and_eq_true]at h
  rw[V.eU _ _ h.1,V.ey _ _ h.2]
end
def wq:List (D×D)->List (D×D)->Bool
 |[],[]=>true
 |(a,b)::l,(c,d)::m=>a.same c&&(b.same d&&wq l m)
 |_,_=>false
theorem wu:∀ (l m:List (D×D)),wq l m=true->l=m
 |[],m,h=>by cases m<;>simp_all[wq]
 |(a,b)::l,m,h=>by
  cases m with
  |nil=>simp[wq]at h
  |cons p m=>
   obtain⟨c,d⟩:=p
   simp only[wq,Bool.and_eq_true]at h
   rw[D.eU _ _ h.1,D.eU _ _ h.2.1,wu l m h.2.2]
noncomputable def ab.same:ab->ab->Bool
 | .no, .no=>true
 | .row a, .row b=>V.iq a b
 | .arr e t s a, .arr f u r b=>Nat.beq e f&&Nat.beq t u&&Nat.beq s r&&D.iq a b
 | .sF e a, .sF f b=>Nat.beq e f&&D.iq a b
 | .map k v a, .map k' v' b=>Nat.beq k k'&&Nat.beq v v'&&wq a b
 | .jf a, .jf b=>wq a b
 | .AK a i, .AK b j=>a==b&&Nat.beq i j
 |_,_=>false
theorem ab.eU {x y:ab}(h:x.same y=true):x=y:=by
 cases x<;>cases y<;>simp only[ab.same,Bool.false_eq_true,Bool.and_eq_true]at h
 ·rfl
 ·rw[V.ey _ _ h]
 ·rw[Nat.eq_of_beq_eq_true h.1.1.1,Nat.eq_of_beq_eq_true h.1.1.2,Nat.eq_of_beq_eq_true h.1.2,D.ey _ _ h.2]
 ·rw[Nat.eq_of_beq_eq_true h.1,D.ey _ _ h.2]
 ·rw[Nat.eq_of_beq_eq_true h.1.1,Nat.eq_of_beq_eq_true h.1.2,wu _ _ h.2]
 ·rw[wu _ _ h]
 ·rw[eq_of_beq h.1,Nat.eq_of_beq_eq_true h.2]
noncomputable def reach(o:Nat->ab):Nat->List Nat->List Nat->List Nat
 |0,_,seen=>seen
 |_+1,[],seen=>seen
 |n+1,id::todo,seen=>match seen.contains id with
  |true=>reach o n todo seen
  |false=>reach o n ((o id).refs++todo) (id::seen)
noncomputable def fC(o o1:Nat->ab):List Nat->List (Nat×ab)
 |[]=>[]
 |id::l=>match(o id).same (o1 id)with
  |true=>fC o o1 l
  |false=>(id,o1 id)::fC o o1 l
theorem jJ{o o1:Nat->ab}:∀ (l:List Nat) (x:Nat×ab),x∈fC o o1 l->x.1∈l/\x.2=o1 x.1
 |[],x,h=>by simp[fC]at h
 |id::l,x,h=>by
  simp only[fC]at h
  split at h
  ·obtain⟨h1,h2⟩:=jJ l x h;exact⟨List.mem_cons_of_mem _ h1,h2⟩
  ·rcases List.mem_cons.1 h with rfl|h
   ·exact⟨ao,rfl⟩
   ·obtain⟨h1,h2⟩:=jJ l x h;exact⟨List.mem_cons_of_mem _ h1,h2⟩
theorem om{o o1:Nat->ab}:∀ (l:List Nat) (id:Nat),id∈l->id∉(fC o o1 l).map (·.1)->o1 id=o id
 |[],id,h,_=>by simp at h
 |j::l,id,h,hn=>by
  simp only[fC]at hn
  split at hn
  ·rename_i hs
   rcases List.mem_cons.1 h with rfl|h
   ·exact(ab.eU hs).symm
   ·exact om l id h hn
  ·simp only[List.map_cons,List.mem_cons,not_or]at hn
   rcases List.mem_cons.1 h with rfl|h
   ·exact absurd rfl hn.1
   ·exact om l id h hn.2
theorem DV{o1:Nat->ab}:∀ (Δ:List (Nat×ab)) (o:Nat->ab),(∀x∈Δ,x.2=o1 x.1)->∀id,id∈Δ.map (·.1)\/o id=o1 id->put o Δ id=o1 id
 |[],o,_,id,h=>by rcases h with h|h;· simp at h
                  ·exact h
 |x::Δ,o,hv,id,h=>by
  simp only[put,List.foldl_cons]
  refine DV Δ (aM o x.1 x.2) (fun y hy=>hv y (List.mem_cons_of_mem _ hy)) id ?_
  simp only[List.map_cons,List.mem_cons]at h
  simp only[aW]
  by_cases e:id=x.1
  ·right;rw[if_pos e,hv x (by simp),e]
  ·rcases h with(h|h)|h
   ·exact absurd h e
   ·exact .inl h
   ·right;rw[if_neg e];exact h
theorem tV{o o1:Nat->ab}{l:List Nat}{id:Nat}(h:id∈l):o1 id=put o (fC o o1 l) id:=by
 by_cases hm:id∈(fC o o1 l).map (·.1)
 ·exact(DV _ o (fun x hx=>(jJ l x hx).2) id (.inl hm)).symm
 ·rw[iz hm];exact om l id h hm
inductive DR where
 |val (v:V) (Δ:List (Nat×ab)) (rd:List Nat)|bW (v:V) (ws rd:List Nat)
def DR.to (K:V->List (Nat×ab)->List Nat->Prop)(KX:V->List Nat->List Nat->Prop):DR->Prop
 | .val v Δ rd=>K v Δ rd
 | .bW v ws rd=>KX v ws rd
noncomputable def crA(c:CR):Option fi:=some (.c c)
noncomputable def hX(P:Program)(cl:Nat->FD)(rec:ei)(g:Nat)(args:List V)(st:St):Option DR:=
 let rd:=reach st.o.get 2000 (V.aO args) []
 match rd.all (fun id=>Nat.blt id st.nx&&(st.o.get id).refs.all rd.contains)&&(V.aO args).all rd.contains with
 |true=>match NJ P cl rec g args (.e (FO rd st.o.get)) st.nx crA with
  |some (.c (.ret v o1 _))=>match v with
   | .cn [_]=>none
   |v=>match cA o1.get (wm v)with
    |some rs=>match(fC st.o.get o1.get rd).all (fun x=>x.2.refs.all rd.contains)&&(V.bK (wm v)).all (fun id=> !rd.contains id)with
     |true=>some (.val (ke rs) (fC st.o.get o1.get rd) rd)
     |false=>none
    |none=>none
  |some (.c (.bW v o1 _))=>match eI o1.get v with
   |some x=>match(fC st.o.get o1.get rd).all (fun x=>x.2.refs.all rd.contains)&&v.ids.all (fun id=> !rd.contains id)with
    |true=>some (.bW (.d x) ((fC st.o.get o1.get rd).map (·.1)) rd)
    |false=>none
   |none=>none
  |_=>none
 |false=>none
noncomputable def cDX(P:Program)(cl:Nat->FD)(md:rE P)(rec:ei)(g:Nat)(args:List V)(st:St)(rd:List Nat):Option DR:=
 match cA st.o.get args with
 |some ds=>match md.dat g with
  |false=>match NJ P cl rec g (ds.map .d) (.e fun _=> .no) 0 crA with
   |some (.c (.ret v _ _))=>match v.refs with
    |[]=>some (.val v (dw st.o.get (V.bK args)) rd)
    |_=>none
   |_=>none
  |true=>match Ry P cl md rec g ds with
   |some (.ret rs)=>match D.kO rs with
    |true=>some (.val (ke rs) [] rd)
    |false=>some (.val (ke rs) (dw st.o.get (V.bK args)) rd)
   |some (.bW x)=>match x.flat with
    |true=>some (.bW (.d x) [] rd)
    |false=>none
   |none=>none
 |none=>hX P cl rec g args st
noncomputable def sDX(P:Program)(st:St)(fr:Nat)(op:Op):Option DR:=
 match Rx op P st.S fr with
 |some (v,Δ,_)=>some (.val v Δ (pB st.S op))
 |none=>none
def V.aie:V->Bool
 | .mp _=>true
 |_=>false
def Zg{P:Program}(md:rE P)(g:Nat)(args:List V):Bool:= !md.dat g&&args.any V.aie
def zF(args:List V):Option (List D):=
 match V.bK args with
 |[]=>cA (fun _=> .no) args
 |_=>none
noncomputable def RB(P:Program)(t:TypeId)(c:CR):Option fi:=
 match c with
 | .ret v o1 _=>match v with
   | .osl j ep=>match o1.get j with
     | .arr jE ty sz es=>match Nat.beq jE ep with
       |true=>rfc (.ret [.sl es, .int .i64 (ty:Nat), .int .i64 (sz:Nat)]) fun x=>some (.r x)
       |false=>none
     |_=>none
   | .bO=>match cO P t with
     |some e=>match Nat.blt 0 (P.cellsOf e)with
      |true=>rfc (.ret [.sl [], .int .i64 (e:Nat), .int .i64 (P.cellsOf e:Nat)]) fun x=>some (.r x)
      |false=>none
     |none=>none
   |_=>none
 |_=>none
noncomputable def Zh(P:Program)(cl:Nat->FD)(rec:ei)(g:Nat)(t:TypeId)(args:List V)(st:St)(fr:Nat):Option DR:=
 match zF args with
 |some ds=>match NJ P cl rec g (ds.map .d) (.e fun _=> .no) 0 (RB P t)with
  |some (.r (.ret [.sl es, .int .i64 (.ofNat ty), .int .i64 (.ofNat sz)]))=>some (.val (.osl fr 0) [(fr, .arr 0 ty sz es)] [])
  |_=>none
 |none=>match cA st.o.get args with
  |some ds=>match NJ P cl rec g (ds.map .d) (.e fun _=> .no) 0 (RB P t)with
   |some (.r (.ret [.sl es, .int .i64 (.ofNat ty), .int .i64 (.ofNat sz)]))=>match D.kO es&&(V.bK args).all (fun id=>Nat.blt id st.nx)with
    |true=>some (.val (.osl fr 0) [(fr, .arr 0 ty sz es)] (V.bK args))
    |false=>none
   |_=>none
  |none=>none
noncomputable def RC(P:Program)(cl:Nat->FD)(md:rE P)(rec:ei)(st:St)(fr:Nat)(op:Op):Option DR:=
 match op with
 | .call c=>match c.callee with
   | .value f=>match st.S.ev f with
     | .func (.func g) first cap=>match Zg md g (first++c.args.toList.map st.S.ev++cap)with
       |true=>hX P cl rec g (first++c.args.toList.map st.S.ev++cap) st
       |false=>match cDX P cl md rec g (first++c.args.toList.map st.S.ev++cap) st (pB st.S (.call c))with
        |some r=>some r
        |none=>Zh P cl rec g (c.argTypes.getD 0 0) (first++c.args.toList.map st.S.ev++cap) st fr
     |_=>none
   |_=>sDX P st fr (.call c)
 |op=>sDX P st fr op
noncomputable def gdX(st:St):Option (Nat×Bool)->Option Bool
 |none=>some true
 |some (d,want)=>match st.env.get d with
  | .d (.bool b)=>some (b==want)
  | .cn []=>some false
  |_=>none
noncomputable def wv(P:Program)(cl:Nat->FD)(md:rE P)(rec:ei)(pr:List (List Nat)):List cq->Nat->St->Fp->List Nat->List Nat->Option (List Nat×Fp)
 |[],_,_,fp,_,ws=>some (ws,fp)
 |o::l,fr,st,fp,bad,ws=>match(pr.getD fp.length []).any (fun j=>bad.contains j)with
  |true=>wv P cl md rec pr l (fr+1) ⟨tU st.env o.dst .aa,st.o,st.nx⟩ (fp++[([],[])]) (bad++[fp.length]) ws
  |false=>match gdX st o.gd with
   |some true=>match RC P cl md rec st fr o.op with
    |some (.val v Δ rd)=>mP st.env o.dst v fun e=>wk st.o Δ fun ob=>wv P cl md rec pr l (fr+1) ⟨e,ob,st.nx⟩ (fp++[(rd,Δ.map (·.1))]) bad (ws++Δ.map (·.1))
    |_=>none
   |some false=>wv P cl md rec pr l (fr+1) ⟨tU st.env o.dst (.cn []),st.o,st.nx⟩ (fp++[([],[])]) bad ws
   |none=>none
inductive DQ where
 |fin (st:St) (fp:Fp)|bW (v:V) (wl:List Nat) (fp:Fp)
noncomputable def wx(P:Program)(cl:Nat->FD)(md:rE P)(rec:ei)(pr:List (List Nat)):List cq->Nat->St->Fp->Option DQ
 |[],_,st,fp=>some (.fin st fp)
 |o::l,fr,st,fp=>match gdX st o.gd with
  |some true=>match RC P cl md rec st fr o.op with
   |some (.val v Δ rd)=>mP st.env o.dst v fun e=>wk st.o Δ fun ob=>Nat.fc (fr+1) fun fr=>wx P cl md rec pr l fr ⟨e,ob,st.nx⟩ (fp++[(rd,Δ.map (·.1))])
   |some (.bW v ws rd)=>match wv P cl md rec pr l (fr+1) ⟨tU st.env o.dst .aa,st.o,st.nx⟩ (fp++[(rd,[])]) [fp.length] (ws++fp.flatMap (·.2))with
    |some (wl,fp)=>some (.bW v wl fp)
    |none=>none
   |none=>none
  |some false=>mP st.env o.dst (.cn []) fun e=>Nat.fc (fr+1) fun fr=>wx P cl md rec pr l fr ⟨e,st.o,st.nx⟩ (fp++[([],[])])
  |none=>none
noncomputable def quiet(fp:Fp):Bool:=fp.all fun x=>match x.2 with|[]=>true|_=>false
noncomputable def Bs(m:Nat)(x:List Nat×List Nat):Nat->Fp->Bool
 |_,[]=>true
 |i,y::l=>(match y.2,x.2 with
  |[],[]=>true
  |_,_=>m.testBit i||(nC y.2 x.1&&nC y.2 x.2&&nC x.2 y.1))&&Bs m x (i+1) l
noncomputable def HT(ms:List Nat)(pre:Fp):Nat->Fp->Bool
 |_,[]=>true
 |j,x::l=>Bs (ms.getD j 0) x 0 pre&&HT ms (pre++[x]) (j+1) l
noncomputable def nfc{β:Type}:List Nat->(List Nat->β)->β
 |[],c=>c []
 |x::xs,c=>Nat.fc x fun x=>nfc xs fun xs=>c (x::xs)
theorem NT{β:Type}:∀ (x:List Nat) (c:List Nat->β),nfc x c=c x
 |[],c=>rfl
 |x::xs,c=>by simp only[nfc,Nat.du,NT xs]
noncomputable def RD{β:Type}:Fp->(Fp->β)->β
 |[],c=>c []
 |(a,b)::l,c=>nfc a fun a=>nfc b fun b=>RD l fun l=>c ((a,b)::l)
theorem HU{β:Type}:∀ (x:Fp) (c:Fp->β),RD x c=c x
 |[],c=>rfl
 |(a,b)::l,c=>by simp only[RD,NT,HU l]
noncomputable def NU(pr:List (List Nat))(fp:Fp):Bool:=match quiet fp with|true=>true|false=>RD fp fun fp=>HT (fb pr []) [] 0 fp
theorem zG{m:Nat}{x:List Nat×List Nat}:∀ (l:Fp) (i:Nat),Bs m x i l=true->∀k,k<l.length->(m.testBit (i+k)||(nC (l.getD k ([],[])).2 x.1&&nC (l.getD k ([],[])).2 x.2&&nC x.2 (l.getD k ([],[])).1))=true
 |[],i,_,k,hk=>by simp at hk
 |y::l,i,h,k,hk=>by
  simp only[Bs,Bool.and_eq_true]at h
  cases k with
  |zero=>
   have h1:=h.1
   simp only[List.getD_cons_zero,Nat.add_zero]
   split at h1
   ·rename_i e1 e2
    rw[e1,e2];simp[nC]
   ·exact h1
  |succ k=>
   have:=zG l (i+1) h.2 k (by simpa using hk)
   rw[List.getD_cons_succ,show i+(k+1)=i+1+k by omega]
   exact this
theorem DW{ms:List Nat}:∀ (l pre:Fp),HT ms pre pre.length l=true->∀j,pre.length<=j->j<(pre++l).length->∀i,i<j->
 ((ms.getD j 0).testBit i||(nC ((pre++l).getD i ([],[])).2 ((pre++l).getD j ([],[])).1&&nC ((pre++l).getD i ([],[])).2 ((pre++l).getD j ([],[])).2&&nC ((pre++l).getD j ([],[])).2 ((pre++l).getD i ([],[])).1))=true
 |[],pre,_,j,h1,h2,i,_=>by simp at h2;omega
 |x::l,pre,h,j,h1,h2,i,hi=>by
  simp only[HT,Bool.and_eq_true]at h
  by_cases e:j=pre.length
  ·subst e
   have:=zG pre 0 h.1 i hi
   have e1:(pre++x::l).getD pre.length ([],[])=x:=by simp[List.getD_eq_getElem?_getD]
   have e2:(pre++x::l).getD i ([],[])=pre.getD i ([],[]):=by simp[List.getD_eq_getElem?_getD,List.getElem?_append_left hi]
   rw[e1,e2]
   simpa using this
  ·have h3:=h.2
   have:=DW l (pre++[x]) (by simpa using h3) j qE qD i hi
   simpa using this
noncomputable def Zi(P:Program)(cl:Nat->FD)(md:rE P)(rec:ei)(l:List cq)(pr:List (List Nat))(st:St):Option (gf×St):=
 match wx P cl md rec pr l st.nx st []with
 |some (.fin s1 fp)=>match NU pr fp with
  |true=>Nat.fc (st.nx+l.length) fun n=>some (.normal,⟨s1.env,s1.o,n⟩)
  |false=>none
 |some (.bW v wl fp)=>match NU pr fp with
  |true=>some (.bW v,⟨.e (sv (dstsOf l) wl l.length st.S).env, .e (sv (dstsOf l) wl l.length st.S).o,st.nx+l.length⟩)
  |false=>none
 |none=>none
noncomputable def aeo(id:Nat)(env:Tr V)(kt:Kt)(c:CR):Option fi:=
 match c with
 | .ret _ o1 Cc=>match o1.get id with
   | .loop nf m e p c d lst pd=>match lst with
     | .busy=>none
     |_=>match pd with
      |none=>kt .normal ⟨env,o1.set id (.loop nf m e p c d .exhausted pd),Cc⟩
      |some .ret=>kt .ret ⟨env,o1.set id (.loop nf m e p c d .exhausted pd),Cc⟩
      |some (.exit j)=>kt (.exit j) ⟨env,o1.set id (.loop nf m e p c d .exhausted pd),Cc⟩
   |_=>none
 | .bW v o1 Cc=>kt (.bW v) ⟨env,o1,Cc⟩
noncomputable def RE(P:Program)(cl:Nat->FD)(rec:ei)(n:Nat)(g:Operand)(ps:List Nat)(x y:IC)(st:St)(kt:Kt):Option fi:=
 match st.S.ev g with
 | .func (.func f) first cap=>NJ P cl rec f (first++[.kq st.nx]++cap) (st.o.set st.nx (.loop P.funcs.size n ((List.range n).map st.env.get) ps x y .ready none)) (st.nx+1) (aeo st.nx st.env kt)
 |_=>none
abbrev pN:=(P:Program)->(Nat->FD)->rE P->ei->Nat->Bool->Nat->St->Kt->Option fi
noncomputable def roX(kt:Kt):RO->Option fi:=fun r=>match r with| .ok st=>kt .normal st| .bW v st=>kt (.bW v) st
noncomputable def aif(l:List cq):pN:=fun P cl md rec _ _ _ st kt=>Bq P cl md rec (roX kt) l st
def zH:List Nat->Nat->Nat->Nat
 |[],_,c=>c
 |x::l,k,c=>match Nat.beq x (2^k - 1)with
  |true=>zH l (k+1) c
  |false=>zH l (k+1) (k+1)
def rF(pr:List (List Nat)):Nat:=zH (fb pr []) 0 0
noncomputable def Zj(l:List cq)(pr:List (List Nat)):pN:=fun P cl md rec _ _ _ st kt=>
 Nat.fc (rF pr) fun m=>match wx P cl md rec pr (l.take m) st.nx st []with
 |some (.fin s1 fp)=>match NU pr fp with
  |true=>Nat.fc (st.nx+m) fun n=>match Nat.ble m l.length with
   |true=>Bq P cl md rec (roX kt) (l.drop m) ⟨s1.env,s1.o,n⟩
   |false=>none
  |false=>none
 |some (.bW _ _ _)=>match Zi P cl md rec l pr st with
  |some (e,s1)=>kt e s1
  |none=>none
 |none=>none
noncomputable def F6(rec:ei)(b:Nat)(rd:Bool)(n:Nat)(y:IC)(kt:Kt):Kt:=fun e s1=>match e with| .normal=>rec b rd n y s1 kt|e=>kt e s1
noncomputable def aih(x y:IC):pN:=fun _ _ _ rec b rd n st kt=>rec b rd n x st (F6 rec b rd n y kt)
noncomputable def HV(a c:Option fi):Option fi:=
 match a with
 |some (.r x)=>match c with
  |some (.r y)=>match R.same x y with
   |true=>some (.r x)
   |false=>none
  |_=>none
 |_=>none
noncomputable def aep(c:Operand)(x y:IC):pN:=fun _ _ _ rec b rd n st kt=>match st.S.ev c with
 | .d (.bool true)=>rec b rd n x st kt
 | .d (.bool false)=>rec b rd n y st kt
 | .fI=>HV (rec b rd n x st kt) (rec b rd n y st kt)
 |_=>none
noncomputable def F7(id:Nat)(kt:Kt):Kt:=fun e s1=>match e with
 | .exit j=>match Nat.beq j id with
   |true=>kt .normal s1
   |false=>kt (.exit j) s1
 |e=>kt e s1
noncomputable def Zk(id:Nat)(x:IC):pN:=fun _ _ _ rec b rd n st kt=>rec b rd n x st (F7 id kt)
noncomputable def aeq(x:IC):pN:=fun _ _ _ rec b rd n st kt=>match Nat.ble b st.nx with
 |true=>rec b rd n x st (F6 rec b rd n (.loop x) kt)
 |false=>none
noncomputable def Zl(e:gf):pN:=fun _ _ _ _ _ _ _ st kt=>kt e st
noncomputable def aii:pN:=fun _ _ _ _ _ _ _ _ _=>none
noncomputable def aij(g:Operand)(ps:List Nat)(x y:IC):pN:=fun P cl _ rec _ rd n st kt=>match rd with
 |true=>none
 |false=>RE P cl rec n g ps x y st kt
noncomputable def Vn(ic:IC):pN:=
 match ic with
 | .skip=>Zl .normal
 | .ad l=>aif l
 | .dp l pr=>Zj l pr
 | .seq x y=>aih x y
 | .cond c x y=>aep c x y
 | .block id x=>Zk id x
 | .loop x=>aeq x
 | .exit id=>Zl (.exit id)
 | .ret=>Zl .ret
 | .I8 g ps x y=>aij g ps x y
 | .bad=>aii
noncomputable def run(P:Program)(cl:Nat->FD)(md:rE P)(k:Nat):ei:=
 Nat.rec (motive:=fun _=>ei) (fun _ _ _ _ _ _=>none) (fun _ rec b rd n ic st kt=>Vn ic P cl md rec b rd n st kt) k
theorem NV{P:Program}{cl:Nat->FD}{md:rE P}{k:Nat}:run P cl md (k+1)=fun b rd n ic st kt=>Vn ic P cl md (run P cl md k) b rd n st kt:=rfl
section
variable {P:Program}{cl:Nat->FD}{md:rE P}
theorem Vo(bI:P.follows .mixedOrders=true)(cY:∀g,(cl g).Ok P g){rec:ei}(bU:fw P rec){fr:Nat}{g:Nat}{args:List V}{st:St}{r:DR}(h:hX P cl rec g args st=some r){K:V->List (Nat×ab)->List Nat->Prop}{KX:V->List Nat->List Nat->Prop}(hr:r.to K KX):
 jR P g args st.S.o st.S.nx fr K KX:=by
 unfold hX at h
 simp only at h
 generalize pw:reach st.o.get 2000 (V.aO args) []=rd at h
 split at h
 ·rename_i hc
  simp only[Bool.and_eq_true,List.all_eq_true]at hc
  obtain⟨hc1,uw⟩:=hc
  have a1:∀id∈rd,id<st.nx:=fun id aG=>Nat.le_of_ble_eq_true (hc1 id aG).1
  have a2:∀id∈V.aO args,id∈rd:=fun id aG=>by simpa using uw id aG
  have a3:∀id∈rd,∀j∈(st.o.get id).refs,j∈rd:=fun id aG j hj=>by simpa using(hc1 id aG).2 j hj
  have a0:rd.all (fun id=>decide (id<st.S.nx))=true:=List.all_eq_true.2 fun id aG=>decide_eq_true (a1 id aG)
  have key:∀ {r:CR} {a:CR},crA r=some (.c a)->r=a:=fun h=>by unfold crA at h;injection h with h;injection h
  split at h
  ·rename_i v o1 Cc hf
   split at h
   ·cases h
   ·rename_i v' uu
    split at h
    ·rename_i rs hrs
     split at h
     ·rename_i Zm
      injection h with h;subst h
      simp only[Bool.and_eq_true,List.all_eq_true]at Zm
      refine⟨rd,_,a0, .inl ⟨rs,Hy.mN a1 a2 a3 (fun x hx=>(jJ rd x hx).1) (fun x hx j hj=>by simpa using Zm.1 x hx j hj) (oj bI cY bU hf fun r AR=> ?_),hr⟩⟩
      rw[key AR]
      refine⟨fun id aG=>tV aG,wm v,rs, ?_,hrs,rfl,fun id aG=>by simpa using Zm.2 id aG⟩
      cases v with
      |cn vs=>
       match vs,uu with
       |[],_=>rfl
       |[x],hv=>exact absurd rfl (hv x)
       |_::_::_,_=>rfl
      |_=>rfl
     ·cases h
    ·cases h
  ·rename_i v o1 Cc hf
   split at h
   ·rename_i x hx
    split at h
    ·rename_i Zm
     injection h with h;subst h
     simp only[Bool.and_eq_true,List.all_eq_true]at Zm
     refine⟨rd,fC st.o.get o1.get rd,a0, .inr (.inl ⟨x,Hy.mN a1 a2 a3 (fun x hx=>(jJ rd x hx).1) (fun x hx j hj=>by simpa using Zm.1 x hx j hj) (oj bI cY bU hf fun r AR=> ?_),hr⟩)⟩
     rw[key AR]
     exact⟨fun id aG=>tV aG,x,hx,rfl,fun id aG=>by simpa using Zm.2 id aG⟩
    ·cases h
   ·cases h
  ·cases h
 ·cases h
theorem Zn(bI:P.follows .mixedOrders=true)(cY:∀g,(cl g).Ok P g){rec:ei}(bU:fw P rec){g:Nat}{args:List V}{st:St}{rd:List Nat}{ds:List D}(fT:cA st.o.get args=some ds){r:DR}(h:cDX P cl md rec g args st rd=some r)
 {K:V->List (Nat×ab)->List Nat->Prop} {KX:V->List Nat->List Nat->Prop} (hr:r.to K KX):
 tR P g ds (fun v=>K v (dw st.S.o (V.bK args)) rd) (fun v=>K v [] rd) (fun v=>KX v [] rd):=by
 unfold cDX at h
 simp only[fT]at h
 split at h
 ·split at h
  ·rename_i v o1 Cc NW
   split at h
   ·rename_i Zo
    injection h with h;subst h
    exact .inr (.inr ⟨v,UR.mN Zo (oj bI cY bU NW fun r AR=>by unfold crA at AR;injection AR with AR;injection AR with AR;rw[AR];exact rfl),hr⟩)
   ·cases h
  ·cases h
 ·split at h
  ·rename_i rs NS
   have hP:=Br bI cY bU NS
   split at h
   ·rename_i hf
    injection h with h;subst h
    exact .inl ⟨rs,hP, .inr ⟨hf,hr⟩⟩
   ·injection h with h;subst h
    exact .inl ⟨rs,hP, .inl hr⟩
  ·rename_i x NS
   have hP:=Br bI cY bU NS
   split at h
   ·rename_i hf
    injection h with h;subst h
    exact .inr (.inl ⟨x,hP,hf,hr⟩)
   ·cases h
  ·cases h
theorem HW{t ty:TypeId}{sz:Nat}{es:List D}{r:CR}(h:RB P t r=some (.r (.ret [.sl es, .int .i64 (.ofNat ty), .int .i64 (.ofNat sz)]))):
 r.to (fun v o1 _=>(∃j ep,v= .osl j ep/\o1 j= .arr ep ty sz es)\/(v= .bO/\es=[]/\0<sz)) (fun _ _ _=>False):=by
 unfold RB at h
 split at h
 ·rename_i v o1 n1
  split at h
  ·rename_i j ep
   split at h
   ·rename_i jE ty' sq es' ho
    split at h
    ·rename_i he
     have he:=Nat.eq_of_beq_eq_true he
     subst he
     rw[F5]at h
     simp only[Option.some.injEq,fi.r.injEq,R.ret.injEq,List.cons.injEq,D.sl.injEq,D.int.injEq,true_and,and_true]at h
     obtain⟨rfl,h2,h3⟩:=h
     have h2:ty'=ty:=Int.ofNat.inj h2
     have h3:sq=sz:=Int.ofNat.inj h3
     subst h2;subst h3
     exact .inl ⟨j,jE,rfl,ho⟩
    ·cases h
   ·cases h
  ·split at h
   ·rename_i e he
    split at h
    ·rename_i hp
     rw[F5]at h
     simp only[Option.some.injEq,fi.r.injEq,R.ret.injEq,List.cons.injEq,D.sl.injEq,D.int.injEq,true_and,and_true]at h
     obtain⟨rfl,h2,h3⟩:=h
     have h3:P.cellsOf e=sz:=Int.ofNat.inj h3
     subst h3
     exact .inr ⟨rfl,rfl,Nat.blt_eq.mp hp⟩
    ·cases h
   ·cases h
  ·cases h
 ·cases h
theorem RF(bI:P.follows .mixedOrders=true)(cY:∀g,(cl g).Ok P g){rec:ei}(bU:fw P rec){fr:Nat}{g:Nat}{t:TypeId}{args:List V}{st:St}{r:DR}(h:Zh P cl rec g t args st fr=some r){K:V->List (Nat×ab)->List Nat->Prop}{KX:V->List Nat->List Nat->Prop}(hr:r.to K KX):
 jR P g args st.S.o st.S.nx fr K KX:=by
 unfold Zh at h
 split at h
 ·rename_i ds fT
  split at h
  ·rename_i es ty sz NW
   injection h with h;subst h
   unfold zF at fT
   split at fT
   ·rename_i aG
    exact⟨[],_,ao, .inr (.inr ⟨_,zi.Rv aG fT (zi.F2 (oj bI cY bU NW fun r AR=>HW AR)),hr⟩)⟩
   ·cases fT
  ·cases h
 ·split at h
  ·rename_i ds fT
   split at h
   ·rename_i es ty sz NW
    split at h
    ·rename_i hc
     injection h with h;subst h
     simp only[Bool.and_eq_true]at hc
     refine⟨V.bK args,_, ?_, .inr (.inr ⟨_,zi.Ru fT hc.1 (oj bI cY bU NW fun r AR=>HW AR),hr⟩)⟩
     exact List.all_eq_true.2 fun id aG=>decide_eq_true (Nat.blt_eq.mp (List.all_eq_true.1 hc.2 id aG))
    ·cases h
   ·cases h
  ·cases h
theorem Bt(bI:P.follows .mixedOrders=true)(cY:∀g,(cl g).Ok P g){rec:ei}(bU:fw P rec){st:St}{fr:Nat}{o:cq}{r:DR}(h:RC P cl md rec st fr o.op=some r){K:V->List (Nat×ab)->List Nat->Prop}{KX:V->List Nat->List Nat->Prop}(hr:r.to K KX):
 Cd P st.S fr o K KX:=by
 have hs:sDX P st fr o.op=some r->(match gZ P st.S fr o.op with|some (v,Δ,_)=>K v Δ (pB st.S o.op)|none=>False):=by
  intro h
  unfold sDX at h
  split at h
  ·rename_i v Δ rd he
   injection h with h;subst h
   simp only[HM he]
   exact hr
  ·cases h
 unfold RC at h
 unfold Cd
 split at h
 ·rename_i c hc
  simp only[hc]
  split at h
  ·rename_i f hf
   simp only[hf]
   split at h
   ·rename_i g first cap hv
    simp only[hv]
    split at h
    ·have hh:=Vo bI cY bU h hr (fr:=fr)
     split
     ·exact .inr hh
     ·exact hh
    split at h
    ·rename_i r' X5
     injection h with h;subst h
     cases fT:cA st.S.o (first++List.map st.S.ev c.args.toList++cap)with
     |some ds=>exact .inl (Zn bI cY bU fT X5 hr)
     |none=>
      have Ze:cA st.o.get (first++List.map st.S.ev c.args.toList++cap)=none:=fT
      unfold cDX at X5
      simp only[Ze]at X5
      exact Vo bI cY bU X5 hr
    ·have hh:=RF bI cY bU (st:=st) h hr
     split
     ·exact .inr hh
     ·exact hh
   ·cases h
  ·rename_i fS
   rw[<- hc]at h
   have:=hs h
   rw[hc]at this
   split
   ·rename_i f hf;exact absurd hf (fS f)
   ·exact this
 ·rename_i hc
  have:=hs h
  split
  ·rename_i c hh;exact absurd hh (hc c)
  ·exact this
def gdW(s:S)(gd:Option (Nat×Bool))(A B:Prop):Prop:=
 match gd with
 |none=>A
 |some (d,want)=>match s.env d with
  | .d (.bool b)=>if b=want then A else B
  | .cn []=>B
  |_=>False
theorem Bu{st:St}{gd:Option (Nat×Bool)}{t:Bool}(h:gdX st gd=some t){A B:Prop}(hA:t=true->A)(hB:t=false->B):gdW st.S gd A B:=by
 cases gd with
 |none=>simp only[gdX,Option.some.injEq]at h;exact hA h.symm
 |some p=>
  obtain⟨d,want⟩:=p
  have he:st.S.env d=st.env.get d:=rfl
  simp only[gdX]at h
  simp only[gdW,he]
  split at h
  ·rename_i b hb
   injection h with h
   by_cases e:b=want
   ·rw[if_pos e];exact hA (by rw[<- h,e];simp)
   ·rw[if_neg e];exact hB (by rw[<- h];simpa using e)
  ·rename_i hb
   injection h with h
   exact hB h.symm
  ·cases h
theorem RG{P:Program}{KB:List Nat->Fp->Prop}{pr:List (List Nat)}{o:cq}{l:List cq}{fr:Nat}{s:S}{fp:Fp}{bad ws:List Nat}(hb:(pr.getD fp.length []).any (fun j=>bad.contains j)=false)
 (h:gdW s o.gd (Cd P s fr o (fun v Δ rd=>jo P KB pr l (fr+1) ⟨bB s.env o.dst v,put s.o Δ,s.nx⟩ (fp++[(rd,Δ.map (·.1))]) bad (ws++Δ.map (·.1))) (fun _ _ _=>False)) (jo P KB pr l (fr+1) ⟨bB s.env o.dst (.cn []),s.o,s.nx⟩ (fp++[([],[])]) bad ws)):
 jo P KB pr (o::l) fr s fp bad ws:=by
 simp only[jo]
 rw[if_neg (by rw[hb];simp)]
 cases hg:o.gd with
 |none=>rw[hg]at h;exact h
 |some p=>obtain⟨d,want⟩:=p;rw[hg]at h;exact h
theorem RH{P:Program}{K:S->Fp->Prop}{KP:V->List Nat->Fp->Prop}{pr:List (List Nat)}{o:cq}{l:List cq}{fr:Nat}{s:S}{fp:Fp}
 (h:gdW s o.gd (Cd P s fr o (fun v Δ rd=>lR P K KP pr l (fr+1) ⟨bB s.env o.dst v,put s.o Δ,s.nx⟩ (fp++[(rd,Δ.map (·.1))]))
  (fun v ws rd=>jo P (KP v) pr l (fr+1) ⟨bB s.env o.dst .aa,s.o,s.nx⟩ (fp++[(rd,[])]) [fp.length] (ws++fp.flatMap (·.2)))) (lR P K KP pr l (fr+1) ⟨bB s.env o.dst (.cn []),s.o,s.nx⟩ (fp++[([],[])]))):
 lR P K KP pr (o::l) fr s fp:=by
 simp only[lR]
 cases hg:o.gd with
 |none=>rw[hg]at h;exact h
 |some p=>obtain⟨d,want⟩:=p;rw[hg]at h;exact h
theorem rG(bI:P.follows .mixedOrders=true)(cY:∀g,(cl g).Ok P g){rec:ei}(bU:fw P rec){pr:List (List Nat)}{wl:List Nat}{fp':Fp}{KB:List Nat->Fp->Prop}(hK:KB wl fp'):
 ∀ (l:List cq) (fr:Nat) (st:St) (fp:Fp) (bad ws:List Nat),wv P cl md rec pr l fr st fp bad ws=some (wl,fp')->jo P KB pr l fr st.S fp bad ws
 |[],fr,st,fp,bad,ws,h=>by
  simp only[wv,Option.some.injEq,Prod.mk.injEq]at h
  obtain⟨rfl,rfl⟩:=h;exact hK
 |o::l,fr,st,fp,bad,ws,h=>by
  simp only[wv,kz,oi]at h
  split at h
  ·rename_i hb
   simp only[jo]
   rw[if_pos hb]
   have:=rG bI cY bU hK l _ _ _ _ _ h
   exact Cv
  ·rename_i hb
   refine RG hb ?_
   split at h
   ·rename_i hg
    refine Bu hg (fun _=> ?_) (fun h=>by cases h)
    split at h
    ·rename_i v Δ rd eJ
     refine Bt bI cY bU eJ ?_
     have:=rG bI cY bU hK l _ _ _ _ _ h
     simp only[St.S,ko,kV]at this
     exact this
    ·cases h
   ·rename_i hg
    refine Bu hg (fun h=>by cases h) (fun _=> ?_)
    have:=rG bI cY bU hK l _ _ _ _ _ h
    exact Cv
   ·cases h
def DQ.to (K:S->Fp->Prop)(KP:V->List Nat->Fp->Prop):DQ->Prop
 | .fin st fp=>K st.S fp
 | .bW v wl fp=>KP v wl fp
theorem oo(bI:P.follows .mixedOrders=true)(cY:∀g,(cl g).Ok P g){rec:ei}(bU:fw P rec){pr:List (List Nat)}{q:DQ}{K:S->Fp->Prop}{KP:V->List Nat->Fp->Prop}(hq:q.to K KP):
 ∀ (l:List cq) (fr:Nat) (st:St) (fp:Fp),wx P cl md rec pr l fr st fp=some q->lR P K KP pr l fr st.S fp
 |[],fr,st,fp,h=>by
  simp only[wx,Option.some.injEq]at h
  subst h;exact hq
 |o::l,fr,st,fp,h=>by
  simp only[wx,kz,oi,Nat.du]at h
  refine RH ?_
  split at h
  ·rename_i hg
   refine Bu hg (fun _=> ?_) (fun h=>by cases h)
   split at h
   ·rename_i v Δ rd eJ
    refine Bt bI cY bU eJ ?_
    have:=oo bI cY bU hq l _ _ _ h
    simp only[St.S,ko,kV]at this
    exact this
   ·rename_i v ws rd eJ
    split at h
    ·rename_i wl fp' hb
     injection h with h;subst h
     refine Bt bI cY bU eJ ?_
     have:=rG bI cY bU (KB:=KP v) hq l _ _ _ _ _ hb
     exact Cv
    ·cases h
   ·cases h
  ·rename_i hg
   refine Bu hg (fun h=>by cases h) (fun _=> ?_)
   have:=oo bI cY bU hq l _ _ _ h
   exact Cv
  ·cases h
theorem Bv{pr:List (List Nat)}{fp:Fp}(h:NU pr fp=true):je pr fp=true:=by
 unfold NU at h
 split at h
 ·rename_i hq
  unfold quiet at hq
  have hz:∀i,(fp.getD i ([],[])).2=[]:=by
   intro i
   rw[List.getD_eq_getElem?_getD]
   cases hx:fp[i]? with
   |none=>rfl
   |some x=>
    have:=List.all_eq_true.1 hq x (List.mem_of_getElem? hx)
    simp only[Option.getD_some]
    split at this
    ·rename_i e;exact e
    ·cases this
  unfold je
  simp only[hz,nC,List.all_nil,Bool.and_self,Bool.or_true]
  simp
 ·rw[HU]at h
  unfold je
  rw[List.all_eq_true]
  intro j hj
  rw[List.all_eq_true]
  intro i hi
  exact DW fp [] h j (Nat.zero_le _) nz i (by simpa using hi)
theorem wy:∀ (l:List Nat) (k c:Nat),c<=k->c<=zH l k c/\∀i x,l[i]? =some x->zH l k c<=k+i->x=2^(k+i) - 1
 |[],_,c,_=>⟨Nat.le_refl _,fun i x h=>by simp at h⟩
 |y::l,k,c,hc=>by
  simp only[zH]
  split
  ·rename_i he
   obtain⟨h1,h2⟩:=wy l (k+1) c af
   refine⟨h1,fun i x hi hle=> ?_⟩
   cases i with
   |zero=>simp at hi;subst hi;simpa using Nat.eq_of_beq_eq_true he
   |succ i=>
    have:=h2 i x (by simpa using hi) af
    rw[this,show k+(i+1)=k+1+i by omega]
  ·obtain⟨h1,h2⟩:=wy l (k+1) (k+1) (Nat.le_refl _)
   refine⟨af,fun i x hi hle=> ?_⟩
   cases i with
   |zero=>omega
   |succ i=>
    have:=h2 i x (by simpa using hi) af
    rw[this,show k+(i+1)=k+1+i by omega]
theorem zI:∀ (pr:List (List Nat)) (acc:List Nat),(fb pr acc).length=acc.length+pr.length
 |[],acc=>by simp[fb]
 |ps::l,acc=>by simp only[fb,zI l,List.length_append,List.length_cons,List.length_nil];omega
theorem NX(pr:List (List Nat)):Np pr (rF pr)=true:=by
 refine List.all_eq_true.2 fun k hk=> ?_
 have hk:k<pr.length:=by simpa using hk
 by_cases h:k<rF pr
 ·simp[Nat.blt_eq.mpr h]
 ·have hl:k<(fb pr []).length:=by rw[zI];simpa using hk
  have:=(wy (fb pr []) 0 0 (Nat.le_refl _)).2 k _ (List.getElem?_eq_getElem hl) (by rw[Nat.zero_add];exact Nat.le_of_not_lt h)
  rw[Nat.zero_add]at this
  rw[List.getD_eq_getElem?_getD,List.getElem?_eq_getElem hl,Option.getD_some,this]
  simp
theorem RI(bI:P.follows .mixedOrders=true)(cY:∀g,(cl g).Ok P g){rec:ei}(bU:fw P rec){l:List cq}{pr:List (List Nat)}{st st':St}{e:gf}(h:Zi P cl md rec l pr st=some (e,st')){Q:gf->S->Prop}(hQ:Q e st'.S):
 lR P (FW pr (st.S.nx+l.length) Q) (Dt pr l st.S Q) pr l st.S.nx st.S []:=by
 unfold Zi at h
 split at h
 ·rename_i s1 fp hd
  split at h
  ·rename_i hf
   simp only[Nat.du,Option.some.injEq,Prod.mk.injEq]at h
   obtain⟨rfl,rfl⟩:=h
   exact oo bI cY bU (q:= .fin s1 fp) (K:=FW pr (st.S.nx+l.length) Q) (KP:=Dt pr l st.S Q) (show FW pr (st.S.nx+l.length) Q s1.S fp from⟨Bv hf,hQ⟩) l _ _ _ hd
  ·cases h
 ·rename_i v wl fp hd
  split at h
  ·rename_i hf
   simp only[Option.some.injEq,Prod.mk.injEq]at h
   obtain⟨rfl,rfl⟩:=h
   exact oo bI cY bU (q:= .bW v wl fp) (K:=FW pr (st.S.nx+l.length) Q) (KP:=Dt pr l st.S Q) (show Dt pr l st.S Q v wl fp from⟨Bv hf,hQ⟩) l _ _ _ hd
  ·cases h
 ·cases h
theorem RJ(bI:P.follows .mixedOrders=true)(cY:∀g,(cl g).Ok P g){rec:ei}(bU:fw P rec){n:Nat}{g:Operand}{ps:List Nat}{x y:IC}{st:St}{kt:Kt}{a:fi}(h:RE P cl rec n g ps x y st kt=some a){Q:gf->S->Prop}(hQ:∀e st',kt e st'=some a->Q e st'.S):
 Dc P n (st.S.ev g) ps x y Q st.S:=by
 unfold RE at h
 refine⟨(List.range n).map st.env.get,fun i=> ?_, ?_⟩
 ·unfold br
  simp only[List.getD_eq_getElem?_getD,List.getElem?_map]
  by_cases hi:i<n
  ·right;rw[List.getElem?_range hi];rfl
  ·left;rw[List.getElem?_eq_none (by simp;omega)];rfl
 ·split at h
  ·rename_i f first cap hv
   simp only[hv]
   refine .inl ?_
   have key:=fun {K X} hr=>oj (K:=K) (X:=X) bI cY bU h hr
   simp only[Tr.jA]at key
   refine key fun r hr=> ?_
   unfold aeo at hr
   cases r with
   |ret v o1 Cc=>
    simp only at hr
    split at hr
    ·rename_i nf m e p c d lst pd ho
     have hl:lst≠ .busy:=by
      intro hb;subst hb;cases hr
     refine⟨nf,m,e,p,c,d,lst,pd,ho,hl, ?_⟩
     split at hr
     ·cases hr
     ·split at hr<;>(have h3:=hQ _ _ hr;simp only[qd];simp only[St.S,Tr.jA]at h3;exact h3)
    ·cases hr
   |bW v o1 Cc=>exact hQ _ _ hr
  ·cases h
theorem bM.same {b:Nat}{s:S}(h:b<=s.nx):bM b s s:=fun _ φ _ _ h1 h2=>⟨φ,h1,h2,fun _ h=>h,h,fun _ _ hr=>⟨hr,rfl⟩,fun _ e' _ he=>⟨e',he,Nat.le_refl _,fun _=>rfl⟩⟩
theorem NY{x y:Option fi}{a:fi}(h:HV x y=some a):x=some a/\y=some a:=by
 unfold HV at h
 split at h
 ·rename_i r
  split at h
  ·rename_i r'
   split at h
   ·rename_i hs
    injection h with h;subst h
    rw[R.eU hs]
    exact⟨rfl,rfl⟩
   ·cases h
  ·cases h
 ·cases h
theorem Zp(bI:P.follows .mixedOrders=true)(cY:∀g,(cl g).Ok P g):∀k,∀j,j<=k->fw P (run P cl md j):=by
 intro k
 induction k with
 |zero=>intro j hj b rd n ic st kt a h;obtain rfl:j=0:=af
        cases h
 |succ k ih=>
  intro j hj b rd n ic st kt a h Q hQ
  cases j with
  |zero=>cases h
  |succ j=>
   have bU:fw P (run P cl md j):=ih j af
   rw[NV]at h
   cases ic with
   |skip=>exact hQ _ _ h
   |exit id=>exact hQ _ _ h
   |ret=>exact hQ _ _ h
   |bad=>cases h
   |ad l=>
    have h:Bq P cl md (run P cl md j) (roX kt) l st=some a:=h
    exact uZ bI cY bU (K:=Q .normal) (X:=fun v s=>Q (.bW v) s) (fun r hr=>by
     cases r with
     |ok Zf=>exact hQ .normal _ hr
     |bW v Zf=>exact hQ (.bW v) _ hr) l _ h
   |dp l pr=>
    have h:Zj l pr P cl md (run P cl md j) b rd n st kt=some a:=h
    unfold Zj at h
    rw[Nat.du]at h
    split at h
    ·rename_i s1 fp hd
     split at h
     ·rename_i hf
      rw[Nat.du]at h
      split at h
      ·rename_i QY
       refine .inr ⟨rF pr,Nat.le_of_ble_eq_true QY,NX pr, ?_⟩
       refine oo bI cY bU (q:= .fin s1 fp) (K:=fun s' fp=>je pr fp=true/\qe P (fun v s=>Q (.bW v) s) (Q .normal) (l.drop (rF pr)) ⟨s'.env,s'.o,st.S.nx+rF pr⟩) (KP:=fun _ _ _=>False) (show _/\_ from⟨Bv hf, ?_⟩) (l.take (rF pr)) _ _ _ hd
       exact uZ bI cY bU (K:=Q .normal) (X:=fun v s=>Q (.bW v) s) (fun r hr=>by
        cases r with
        |ok Zf=>exact hQ .normal _ hr
        |bW v Zf=>exact hQ (.bW v) _ hr) (l.drop (rF pr)) ⟨s1.env,s1.o,st.nx+rF pr⟩ h
      ·cases h
     ·cases h
    ·split at h
     ·rename_i e s1 h1
      exact .inl (RI bI cY bU h1 (hQ _ _ h))
     ·cases h
    ·cases h
   |seq x y=>
    have h:run P cl md j b rd n x st (F6 (run P cl md j) b rd n y kt)=some a:=h
    simp only[uV]
    refine bU _ _ _ _ _ _ _ h _ fun e s1 he=> ?_
    unfold F6 at he
    cases e with
    |normal=>exact bU _ _ _ _ _ _ _ he _ hQ
    |_=>exact hQ _ _ he
   |cond c x y=>
    have h:(match st.S.ev c with| .d (.bool true)=>run P cl md j b rd n x st kt| .d (.bool false)=>run P cl md j b rd n y st kt| .fI=>HV (run P cl md j b rd n x st kt) (run P cl md j b rd n y st kt)|_=>none)=some a:=h
    simp only[uV]
    split at h
    ·rename_i hv
     simp only[hv]
     exact(vS _ _).mpr (bU _ _ _ _ _ _ _ h _ hQ)
    ·rename_i hv
     simp only[hv]
     exact(tN _ _).mpr (bU _ _ _ _ _ _ _ h _ hQ)
    ·rename_i hv
     simp only[hv]
     obtain⟨h1,h2⟩:=NY h
     exact⟨bU _ _ _ _ _ _ _ h1 _ hQ,bU _ _ _ _ _ _ _ h2 _ hQ⟩
    ·cases h
   |block id x=>
    have h:run P cl md j b rd n x st (F7 id kt)=some a:=h
    simp only[uV]
    refine bU _ _ _ _ _ _ _ h _ fun e s1 he=> ?_
    unfold F7 at he
    cases e with
    |exit j'=>
     simp only at he
     split at he
     ·rename_i hb
      simp only[gA,Nat.eq_of_beq_eq_true hb,if_true];exact hQ _ _ he
     ·rename_i hb
      simp only[gA,Nat.ne_of_beq_eq_false hb,if_false];exact hQ _ _ he
    |_=>exact hQ _ _ he
   |loop x=>
    have unf:∀m Vp,run P cl md (m+1) b rd n (.loop x) Vp kt=some a->b<=Vp.nx/\run P cl md m b rd n x Vp (F6 (run P cl md m) b rd n (.loop x) kt)=some a:=by
     intro m Vp h
     have h:(match Nat.ble b Vp.nx with|true=>run P cl md m b rd n x Vp (F6 (run P cl md m) b rd n (.loop x) kt)|false=>none)=some a:=h
     split at h
     ·rename_i hb;exact⟨Nat.le_of_ble_eq_true hb,h⟩
     ·cases h
    have h:run P cl md (j+1) b rd n (.loop x) st kt=some a:=h
    refine⟨fun m s=>m<=k+1/\∃st,s=st.S/\run P cl md m b rd n (.loop x) st kt=some a,⟨j+1,st.S,bM.same (unf j st h).1,hj,st,rfl,h⟩, ?_⟩
    rintro m s0 ⟨hm,Vp,rfl,h0⟩
    cases m with
    |zero=>cases h0
    |succ m=>
     have aer:fw P (run P cl md m):=ih m af
     refine aer _ _ _ _ _ _ _ (unf m Vp h0).2 _ fun e s1 he=> ?_
     unfold F6 at he
     cases e with
     |normal=>
      refine⟨m,s1.S,Nat.lt_succ_self _,bM.same ?_,af,s1,rfl,he⟩
      cases m with
      |zero=>cases he
      |succ m=>exact(unf m s1 he).1
     |_=>exact hQ _ _ he
   |I8 g ps x y=>
    cases rd with
    |true=>
     have h:(none:Option fi)=some a:=h
     cases h
    |false=>
     have h:RE P cl (run P cl md j) n g ps x y st kt=some a:=h
     exact⟨rfl,_, .inl rfl,RJ bI cY bU h hQ⟩
noncomputable def ya(P:Program)(cl:Nat->FD)(md:rE P)(k:Nat)(g:Nat)(ds:List D):Option R:=
 match NJ P cl (run P cl md k) g (ds.map .d) (.e fun _=> .no) 0 DS with
 |some (.r x)=>some x
 |_=>none
theorem aQ.oq (bI:P.follows .mixedOrders=true)(cY:∀g,(cl g).Ok P g){k g:Nat}{ds:List D}{out:R}(h:ya P cl md k g ds=some out):aQ P g ds out:=by
 unfold ya at h
 split at h
 ·rename_i x hr;injection h with h;subst h;exact DT bI cY (Zp bI cY k k (Nat.le_refl _)) hr
 ·cases h
end
end
def Tr.HX {α:Type}(p:Nat->α->Prop):Tr α->(Nat->Nat)->Prop
 | .e g,f=>∀i,p (f i) (g i)
 | .n x l r,f=>p (f 0) x/\HX p l (fun i=>f (2*i+1))/\HX p r (fun i=>f (2*i+2))
theorem Tr.Bw {α:Type}{p:Nat->α->Prop}:∀ {f:Nat->Nat} (t:Tr α),t.HX p f->∀k,p (f k) (t.get k)
 |f, .e g,h,k=>h k
 |f, .n x l r,h,k=>by
  obtain⟨h1,h2,h3⟩:=h
  rw[Tr.we]
  split
  ·rename_i e;subst e;exact h1
  ·split
   ·have:=Tr.Bw l h2 (k/2)
    rwa [show 2*(k/2)+1=k by omega]at this
   ·have:=Tr.Bw r h3 (k/2 - 1)
    rwa [show 2*(k/2 - 1)+2=k by omega]at this
end Go.Proofs.YtonbelhklnmjnaaGreat
