/-
  A PART. Conditions: none.
-/
import Derived.Test.YtnkamdiiakdkgaaGreatEe11
set_option linter.unusedSimpArgs false
set_option linter.unusedVariables false
set_option maxHeartbeats 8000000
namespace Go.Proofs.YtnkamdiiakdkgaaGreat
section
inductive Tr (α:Type) where
 |e (f:Nat->α)
 |n (x:α) (l r:Tr α)
noncomputable def Tr.get {α:Type}(t:Tr α):Nat->α:=
 Tr.rec (motive:=fun _=>Nat->α) (fun f=>f) (fun x _ _ l r k=>Bool.rec (Bool.rec (r (Nat.sub (Nat.div k 2) 1)) (l (Nat.div k 2)) (Nat.beq (Nat.mod k 2) 1)) x (Nat.beq k 0)) t
theorem Tr.Jt {α:Type}(f:Nat->α):(Tr.e f).get=f:=rfl
noncomputable def Tr.xA {α:Type}(x:α):Nat->Tr α->Nat->Tr α
 |0,t,k=> .e (au t.get k x)
 |d+1, .e f,k=>match Nat.beq k 0 with
  |true=> .n x (.e fun i=>f (2*i+1)) (.e fun i=>f (2*i+2))
  |false=>match Nat.beq (k%2) 1 with
   |true=> .n (f 0) (Tr.xA x d (.e fun i=>f (2*i+1)) (k/2)) (.e fun i=>f (2*i+2))
   |false=> .n (f 0) (.e fun i=>f (2*i+1)) (Tr.xA x d (.e fun i=>f (2*i+2)) (k/2 - 1))
 |d+1, .n y l r,k=>match Nat.beq k 0 with
  |true=> .n x l r
  |false=>match Nat.beq (k%2) 1 with
   |true=> .n y (Tr.xA x d l (k/2)) r
   |false=> .n y l (Tr.xA x d r (k/2 - 1))
noncomputable def Tr.set {α:Type}(t:Tr α)(k:Nat)(x:α):Tr α:=Tr.xA x 24 t k
theorem Tr.xB {α:Type}{x:α}{l r:Tr α}{k:Nat}:(Tr.n x l r).get k=if k=0 then x else if k%2=1 then l.get (k/2)else r.get (k/2 - 1):=by
 show @Bool.rec (fun _=>α) (@Bool.rec (fun _=>α) (r.get (k/2 - 1)) (l.get (k/2)) (Nat.beq (k%2) 1)) x (Nat.beq k 0)=_
 by_cases h:k=0
 ·subst h;rfl
 ·have:Nat.beq k 0=false:=by cases k with|zero=>exact absurd rfl h|succ k=>rfl
  simp only[this,h,if_false]
  by_cases h2:k%2=1
  ·simp[h2]
  ·have:Nat.beq (k%2) 1=false:=by
    cases hb:Nat.beq (k%2) 1 with
    |false=>rfl
    |true=>exact absurd (Nat.eq_of_beq_eq_true hb) h2
   simp[h2,this]
theorem Tr.oV {α:Type}(x:α):∀ (d:Nat) (t:Tr α) (k:Nat),(Tr.xA x d t k).get=au t.get k x
 |0,t,k=>rfl
 |d+1, .e f,k=>by
  funext i
  simp only[Tr.xA]
  have hb:∀a b:Nat,Nat.beq a b=decide (a=b):=fun a b=>by
   cases h:Nat.beq a b with
   |true=>simp[Nat.eq_of_beq_eq_true h]
   |false=>simp[Nat.ne_of_beq_eq_false h]
  rw[hb,hb]
  by_cases h:k=0
  ·subst h
   simp only[decide_true,Tr.xB,aR]
   by_cases hi:i=0
   ·simp[hi]
   ·simp only[hi,if_false]
    by_cases h2:i%2=1
    ·simp only[h2,if_true,Tr.Jt];congr 1;omega
    ·simp only[h2,if_false,Tr.Jt];congr 1;omega
  ·simp only[h,decide_false]
   by_cases hk:k%2=1
   ·simp only[hk,decide_true,Tr.xB,Tr.oV x d,aR,Tr.Jt]
    by_cases hi:i=0
    ·exact Is
    ·simp only[hi,if_false]
     by_cases h2:i%2=1
     ·simp only[h2,if_true]
      have e1:2*(i/2)+1=i:=ae
      rw[e1]
      by_cases e:i=k
      ·simp[e]
      ·exact Im
     ·simp only[h2,if_false]
      rw[if_neg (by intro e;subst e;exact h2 hk)]
      congr 1;omega
   ·simp only[hk,decide_false,Tr.xB,Tr.oV x d,aR,Tr.Jt]
    by_cases hi:i=0
    ·exact Is
    ·simp only[hi,if_false]
     by_cases h2:i%2=1
     ·simp only[h2,if_true]
      rw[if_neg (by intro e;subst e;exact hk h2)]
      congr 1;omega
     ·simp only[h2,if_false]
      have e1:2*(i/2 - 1)+2=i:=ae
      rw[e1]
      by_cases e:i=k
      ·simp[e]
      ·exact Im
 |d+1, .n y l r,k=>by
  funext i
  simp only[Tr.xA]
  have hb:∀a b:Nat,Nat.beq a b=decide (a=b):=fun a b=>by
   cases h:Nat.beq a b with
   |true=>simp[Nat.eq_of_beq_eq_true h]
   |false=>simp[Nat.ne_of_beq_eq_false h]
  rw[hb,hb]
  by_cases h:k=0
  ·subst h
   simp only[decide_true,Tr.xB,aR]
   by_cases hi:i=0
   ·simp[hi]
   ·simp[hi]
  ·simp only[h,decide_false]
   by_cases hk:k%2=1
   ·simp only[hk,decide_true,Tr.xB,Tr.oV x d,aR]
    by_cases hi:i=0
    ·exact Is
    ·simp only[hi,if_false]
     by_cases h2:i%2=1
     ·simp only[h2,if_true]
      by_cases e:i=k
      ·simp[e]
      ·exact Im
     ·simp only[h2,if_false]
      rw[if_neg (by intro e;subst e;exact h2 hk)]
   ·simp only[hk,decide_false,Tr.xB,Tr.oV x d,aR]
    by_cases hi:i=0
    ·exact Is
    ·simp only[hi,if_false]
     by_cases h2:i%2=1
     ·simp only[h2,if_true]
      rw[if_neg (by intro e;subst e;exact hk h2)]
     ·simp only[h2,if_false]
      by_cases e:i=k
      ·simp[e]
      ·exact Im
theorem Tr.iL {α:Type}(t:Tr α)(k:Nat)(x:α):(t.set k x).get=au t.get k x:=Tr.oV x 24 t k
noncomputable def Nat.fc {β:Type}(n:Nat)(c:Nat->β):β:=Nat.rec (motive:=fun _=>β) (c 0) (fun m _=>c (Nat.succ m)) n
theorem Nat.dq {β:Type}(n:Nat)(c:Nat->β):Nat.fc n c=c n:=by cases n<;>rfl
noncomputable def Int.fc {β:Type}(n:Int)(c:Int->β):β:=Int.rec (motive:=fun _=>β) (fun m=>Nat.fc m fun m=>c (.ofNat m)) (fun m=>Nat.fc m fun m=>c (.negSucc m)) n
theorem Int.dq {β:Type}(n:Int)(c:Int->β):Int.fc n c=c n:=by cases n<;>simp only[Int.fc,Nat.dq]
mutual
noncomputable def D.fc {β:Type}:D->(D->β)->β
 | .int k n,c=>Int.fc n fun n=>c (.int k n)
 | .bool b,c=>match b with|true=>c (.bool true)|false=>c (.bool false)
 | .agg l,c=>D.xC l fun l=>c (.agg l)
 | .sl l,c=>D.xC l fun l=>c (.sl l)
 | .iface t x,c=>D.fc x fun x=>c (.iface t x)
 | .str s,c=>c (.str s)
 | .fN,c=>c .fN
 | .nR,c=>c .nR
 | .cK,c=>c .cK
 | .iY,c=>c .iY
 | .mp ks vs,c=>D.xC ks fun ks=>D.xC vs fun vs=>c (.mp ks vs)
noncomputable def D.xC {β:Type}:List D->(List D->β)->β
 |[],c=>c []
 |x::xs,c=>D.fc x fun x=>D.xC xs fun xs=>c (x::xs)
end
mutual
theorem D.dq {β:Type}:∀ (x:D) (c:D->β),D.fc x c=c x
 | .int k n,c=>by simp only[D.fc,Int.dq]
 | .bool b,c=>by cases b<;>rfl
 | .agg l,c=>by simp only[D.fc,D.gh l]
 | .sl l,c=>by simp only[D.fc,D.gh l]
 | .iface t x,c=>by simp only[D.fc,D.dq x]
 | .mp ks vs,c=>by simp only[D.fc,D.gh ks,D.gh vs]
 | .str _,_| .fN,_| .nR,_| .cK,_| .iY,_=>by simp only[D.fc]
theorem D.gh {β:Type}:∀ (x:List D) (c:List D->β),D.xC x c=c x
 |[],c=>by simp only[D.xC]
 |x::xs,c=>by simp only[D.xC,D.dq x,D.gh xs]
end
mutual
noncomputable def V.fc {β:Type}:V->(V->β)->β
 | .d x,c=>D.fc x fun x=>c (.d x)
 | .agg l,c=>V.xC l fun l=>c (.agg l)
 | .cc l,c=>V.xC l fun l=>c (.cc l)
 | .ptr i o,c=>Nat.fc i fun i=>Nat.fc o fun o=>c (.ptr i o)
 | .osl i o,c=>Nat.fc i fun i=>Nat.fc o fun o=>c (.osl i o)
 | .pe a b i j k,c=>Nat.fc a fun a=>Nat.fc b fun b=>Nat.fc i fun i=>Nat.fc j fun j=>Nat.fc k fun k=>c (.pe a b i j k)
 | .pp l o,c=>D.xC l fun l=>Nat.fc o fun o=>c (.pp l o)
 | .func f a b,c=>V.xC a fun a=>V.xC b fun b=>c (.func f a b)
 | .iface t x,c=>V.fc x fun x=>c (.iface t x)
 | .qx l,c=>D.xC l fun l=>c (.qx l)
 | .jo i j k q,c=>Nat.fc i fun i=>Nat.fc j fun j=>Nat.fc k fun k=>Nat.fc q fun q=>c (.jo i j k q)
 | .mp i,c=>Nat.fc i fun i=>c (.mp i)
 | .jI i,c=>Nat.fc i fun i=>c (.jI i)
 | .aU,c=>c .aU
 | .ag,c=>c .ag
 | .fl,c=>c .fl
noncomputable def V.xC {β:Type}:List V->(List V->β)->β
 |[],c=>c []
 |x::xs,c=>V.fc x fun x=>V.xC xs fun xs=>c (x::xs)
end
mutual
theorem V.dq {β:Type}:∀ (x:V) (c:V->β),V.fc x c=c x
 | .d x,c=>by simp only[V.fc,D.dq]
 | .agg l,c=>by simp only[V.fc,V.gh l]
 | .cc l,c=>by simp only[V.fc,V.gh l]
 | .pp l o,c=>by simp only[V.fc,D.gh,Nat.dq]
 | .func f a b,c=>by simp only[V.fc,V.gh a,V.gh b]
 | .iface t x,c=>by simp only[V.fc,V.dq x]
 | .qx l,c=>by simp only[V.fc,D.gh]
 | .ptr _ _,_| .osl _ _,_| .pe _ _ _ _ _,_| .jo _ _ _ _,_| .mp _,_| .jI _,_| .aU,_| .ag,_| .fl,_=>by simp only[V.fc,Nat.dq]
theorem V.gh {β:Type}:∀ (x:List V) (c:List V->β),V.xC x c=c x
 |[],c=>by simp only[V.xC]
 |x::xs,c=>by simp only[V.xC,V.dq x,V.gh xs]
end
section
variable {β:Type}
noncomputable def aez(k:IntKind)(n:Int)(c:V->β):β:=Int.fc n fun n=>c (.d (.int k n))
noncomputable def aeA(b:Bool)(c:V->β):β:= @Bool.rec (fun _=>β) (c (.d (.bool false))) (c (.d (.bool true))) b
noncomputable def Zo(x:D)(c:V->β):β:=D.fc x fun x=>c (.d x)
noncomputable def vD(x:D):(V->β)->β:=match x with| .int k n=>aez k n| .bool b=>aeA b|x=>Zo x
noncomputable def aeB(i o:Nat)(c:V->β):β:=Nat.fc i fun i=>Nat.fc o fun o=>c (.ptr i o)
noncomputable def aeC(i o:Nat)(c:V->β):β:=Nat.fc i fun i=>Nat.fc o fun o=>c (.osl i o)
noncomputable def vPe(a b i j k:Nat)(c:V->β):β:=Nat.fc a fun a=>Nat.fc b fun b=>Nat.fc i fun i=>Nat.fc j fun j=>Nat.fc k fun k=>c (.pe a b i j k)
noncomputable def V.fck (v:V):(V->β)->β:=match v with| .d x=>vD x| .ptr i o=>aeB i o| .osl i o=>aeC i o| .pe a b i j k=>vPe a b i j k|v=>V.fc v
theorem V.Zp (v:V)(c:V->β):V.fck v c=c v:=by
 cases v
 case d x=>
  cases x
  case int k n=>simp only[V.fck,vD,aez,Int.dq]
  case bool b=>cases b<;>rfl
  all_goals exact D.dq _ _
 case ptr i o=>simp only[V.fck,aeB,Nat.dq]
 case osl i o=>simp only[V.fck,aeC,Nat.dq]
 case pe a b i j k=>simp only[V.fck,vPe,Nat.dq]
 all_goals exact V.dq _ _
end
noncomputable def pfc{β:Type}:List (D×D)->(List (D×D)->β)->β
 |[],c=>c []
 |(a,b)::l,c=>D.fc a fun a=>D.fc b fun b=>pfc l fun l=>c ((a,b)::l)
theorem OW{β:Type}:∀ (x:List (D×D)) (c:List (D×D)->β),pfc x c=c x
 |[],c=>rfl
 |(a,b)::l,c=>by simp only[pfc,D.dq,OW l]
noncomputable def aa.fc {β:Type}(x:aa)(c:aa->β):β:=
 match x with
 | .row cs=>V.xC cs fun cs=>c (.row cs)
 | .arr e t s es=>Nat.fc e fun e=>Nat.fc s fun s=>D.xC es fun es=>c (.arr e t s es)
 | .qg e es=>Nat.fc e fun e=>D.xC es fun es=>c (.qg e es)
 | .map kt vt l=>pfc l fun l=>c (.map kt vt l)
 | .gw l=>pfc l fun l=>c (.gw l)
 | .pW l last=>pfc l fun l=>c (.pW l last)
 | .yY l pos=>Nat.fc pos fun pos=>c (.yY l pos)
 |x=>c x
theorem aa.dq {β:Type}(x:aa)(c:aa->β):aa.fc x c=c x:=by cases x<;>simp only[aa.fc,V.gh,D.gh,Nat.dq,OW]
noncomputable def Tr.Av {α β:Type}(x:α)(d:Nat):Tr α->Nat->(Tr α->β)->β:=
 Nat.rec (motive:=fun _=>Tr α->Nat->(Tr α->β)->β) (fun t k c=>c (.e (au t.get k x)))
  (fun _ ih t k c=>Tr.rec (motive:=fun _=>β) (fun f=>
   Bool.rec (Bool.rec (ih (.e fun i=>f (2*i+2)) (Nat.sub (Nat.div k 2) 1) fun r=>c (.n (f 0) (.e fun i=>f (2*i+1)) r)) (ih (.e fun i=>f (2*i+1)) (Nat.div k 2) fun l=>c (.n (f 0) l (.e fun i=>f (2*i+2)))) (Nat.beq (Nat.mod k 2) 1))
    (c (.n x (.e fun i=>f (2*i+1)) (.e fun i=>f (2*i+2)))) (Nat.beq k 0))
   (fun y l r _ _=>Bool.rec (Bool.rec (ih r (Nat.sub (Nat.div k 2) 1) fun r=>c (.n y l r)) (ih l (Nat.div k 2) fun l=>c (.n y l r)) (Nat.beq (Nat.mod k 2) 1)) (c (.n x l r)) (Nat.beq k 0)) t) d
theorem Tr.xD {α β:Type}(x:α):∀ (d:Nat) (t:Tr α) (k:Nat) (c:Tr α->β),Tr.Av x d t k c=c (Tr.xA x d t k)
 |0,t,k,c=>rfl
 |d+1, .e f,k,c=>by
  show @Bool.rec (fun _=>β) (@Bool.rec (fun _=>β) (Tr.Av x d (.e fun i=>f (2*i+2)) (k/2 - 1) fun r=>c (.n (f 0) (.e fun i=>f (2*i+1)) r)) (Tr.Av x d (.e fun i=>f (2*i+1)) (k/2) fun l=>c (.n (f 0) l (.e fun i=>f (2*i+2)))) (Nat.beq (k%2) 1)) (c (.n x (.e fun i=>f (2*i+1)) (.e fun i=>f (2*i+2)))) (Nat.beq k 0)=_
  simp only[Tr.xA,Tr.xD x d]
  cases Nat.beq k 0
  ·cases Nat.beq (k%2) 1<;>rfl
  ·rfl
 |d+1, .n y l r,k,c=>by
  show @Bool.rec (fun _=>β) (@Bool.rec (fun _=>β) (Tr.Av x d r (k/2 - 1) fun r=>c (.n y l r)) (Tr.Av x d l (k/2) fun l=>c (.n y l r)) (Nat.beq (k%2) 1)) (c (.n x l r)) (Nat.beq k 0)=_
  simp only[Tr.xA,Tr.xD x d]
  cases Nat.beq k 0
  ·cases Nat.beq (k%2) 1<;>rfl
  ·rfl
noncomputable def Tr.Zq {α β:Type}(t:Tr α)(k:Nat)(x:α)(c:Tr α->β):β:=Tr.Av x 24 t k c
theorem Tr.Ju {α β:Type}(t:Tr α)(k:Nat)(x:α)(c:Tr α->β):t.Zq k x c=c (t.set k x):=Tr.xD x 24 t k c
structure St where
 env:Tr V
 o:Tr aa
 nx:Nat
noncomputable def St.S (st:St):S:=⟨st.env.get,st.o.get,st.nx⟩
noncomputable def LD(o:Tr aa)(Δ:List (Nat×aa)):Tr aa:=Δ.foldl (fun f x=>f.set x.1 x.2) o
noncomputable def uT(env:Tr V)(dst:Option Tmp)(v:V):Tr V:=match dst with|some d=>env.set d v|none=>env
noncomputable def xE{β:Type}(o:Tr aa):List (Nat×aa)->(Tr aa->β)->β
 |[],c=>c o
 |(i,x)::Δ,c=>aa.fc x fun x=>o.Zq i x fun o=>xE o Δ c
theorem oW{β:Type}:∀ (Δ:List (Nat×aa)) (o:Tr aa) (c:Tr aa->β),xE o Δ c=c (LD o Δ)
 |[],o,c=>rfl
 |(i,x)::Δ,o,c=>by simp only[xE,aa.dq,Tr.Ju,oW Δ];rfl
noncomputable def nv{β:Type}(env:Tr V)(dst:Option Tmp)(v:V)(c:Tr V->β):β:=match dst with|some d=>V.fck v fun v=>env.Zq d v c|none=>c env
theorem kx{β:Type}(env:Tr V)(dst:Option Tmp)(v:V)(c:Tr V->β):nv env dst v c=c (uT env dst v):=by
 cases dst<;>simp only[nv,uT,V.Zp,Tr.Ju]
theorem kY:∀ (Δ:List (Nat×aa)) (o:Tr aa),(LD o Δ).get=put o.get Δ
 |[],_=>rfl
 |x::Δ,o=>by
  simp only[LD,put,List.foldl_cons]
  have:=kY Δ (o.set x.1 x.2)
  simp only[LD,put]at this
  rw[this,Tr.iL]
theorem kj(env:Tr V)(dst:Option Tmp)(v:V):(uT env dst v).get=bf env.get dst v:=by
 cases dst<;>simp[uT,bf,Tr.iL]
section Zr
def Wc(x:Operand)(_:Program)(s:S)(_:Nat):Option gM:=one (s.ev x)
def aeD(c a b:Operand)(_:Program)(s:S)(_:Nat):Option gM:=np (rQ (s.ev c) (s.ev a) (s.ev b))
def Zs(t:TypeId)(parts:Array (Nat×Operand))(P:Program)(s:S)(_:Nat):Option gM:=np (BG P t (parts.toList.map fun p=>(p.1,s.ev p.2)))
def EB(t:TypeId)(len:Nat)(parts:Array (Nat×Operand))(P:Program)(s:S)(fr:Nat):Option gM:=hY P s.o fr t len (parts.toList.map fun p=>(p.1,s.ev p.2))
def aeE(t:TypeId)(x:Operand)(P:Program)(s:S)(_:Nat):Option gM:=oK P s.o t (s.ev x)
def Zt(t:TypeId)(x v:Operand)(P:Program)(s:S)(_:Nat):Option gM:=tK P s.o t (s.ev x) (s.ev v)
def ahW(x:Operand)(_:Program)(s:S)(_:Nat):Option gM:=np (kn s.o (s.ev x))
noncomputable def aeF(op:BinOp):IntKind->Int->Int->Option V:=
 match op with
 | .add=>fun k a b=>some (.d (.int k (k.wrap (Int.add a b))))
 | .sub=>fun k a b=>some (.d (.int k (k.wrap (Int.sub a b))))
 | .mul=>fun k a b=>some (.d (.int k (k.wrap (Int.mul a b))))
 |op=>DZ op
theorem SB(op:BinOp):aeF op=DZ op:=by cases op<;>rfl
def asInt(x:V):Option (IntKind×Int):=match x with| .d (.int k a)=>some (k,a)|_=>none
def OX(op:BinOp)(t:TypeId)(c:Bool)(x y:V)(P:Program)(o:Nat->aa):Option gM:=fU P o op t c x y
noncomputable def aeG(op:BinOp)(t:TypeId)(x y:Operand)(P:Program)(s:S)(_:Nat):Option gM:=
 match asInt (s.ev x)with
 |some (k,a)=>match asInt (s.ev y)with
  |some (k',b)=>if k=k' then match aeF op k a b with
   |some v=>some (v,[],[])
   |none=>OX op t (isConst x||isConst y) (s.ev x) (s.ev y) P s.o
   else none
  |none=>OX op t (isConst x||isConst y) (s.ev x) (s.ev y) P s.o
 |none=>OX op t (isConst x||isConst y) (s.ev x) (s.ev y) P s.o
theorem EC{x:V}{k:IntKind}{a:Int}(h:asInt x=some (k,a)):x= .d (.int k a):=by
 unfold asInt at h;split at h
 ·injection h with h;cases h;rfl
 ·cases h
def Hl(t:TypeId)(x:Operand)(f:Nat)(P:Program)(s:S)(_:Nat):Option gM:=np (je P s.o t (s.ev x) f)
def Hn(t:TypeId)(x i:Operand)(P:Program)(s:S)(_:Nat):Option gM:=jd P s.o t (s.ev x) (s.ev i)
def Zu(op:Op)(P:Program)(s:S)(fr:Nat):Option gM:=gA P s fr op
noncomputable def SC(op:Op):Program->S->Nat->Option gM:=
 match op with
 | .move x=>Wc x
 | .assign x=>Wc x
 | .pick c a b=>aeD c a b
 | .build t parts=>Zs t parts
 | .buildSlice t len parts=>EB t len parts
 | .load t x=>aeE t x
 | .store t x v=>Zt t x v
 | .nilCheck x=>ahW x
 | .binOp op t x y _=>aeG op t x y
 | .fieldAddr t x f=>Hl t x f
 | .indexAddr t x i=>Hn t x i
 |op=>Zu op
theorem Jv{op:Op}{P:Program}{s:S}{fr:Nat}{r:gM}(h:SC op P s fr=some r):gA P s fr op=some r:=by
 cases op
 case binOp op t x y yt=>
  simp only[SC,aeG,SB]at h
  have e:gA P s fr (.binOp op t x y yt)=fU P s.o op t (isConst x||isConst y) (s.ev x) (s.ev y):=rfl
  rw[e]
  split at h
  ·rename_i k a hx
   split at h
   ·rename_i k' b hy
    split at h
    ·rename_i hk
     split at h
     ·rename_i v hv
      unfold fU BF
      simp only[EC hx,EC hy,if_pos hk,hv]
      exact h
     ·exact h
    ·cases h
   ·exact h
  ·exact h
 all_goals exact h
end Zr
inductive FD where
 |fn (n:Nat) (ic:IC) (rs:List ResultVar)
 |dfr (n:Nat) (jM fm:IC) (g t:Nat) (fR:List Operand) (rs:List ResultVar) (m r r1:Nat) (Au:IC)
 |mpc
 |no
def FD.Ok (P:Program)(f:Nat):FD->Prop
 | .fn n ic rs=>aL P f n ic rs
 | .dfr n jM fm g t fR rs m r r1 Au=>Jr P f n jM fm g t fR rs/\Ex P g m r r1 Au
 | .mpc=>OV P f
 | .no=>True
inductive CR where
 |ret (v:V) (o:Tr aa) (nx:Nat)|bU (v:V) (o:Tr aa) (nx:Nat)
def CR.to (K X:V->(Nat->aa)->Nat->Prop):CR->Prop
 | .ret v o nx=>K v o.get nx
 | .bU v o nx=>X v o.get nx
inductive RO where
 |ok (st:St)|bU (v:V) (st:St)
def RO.to (K:S->Prop)(X:V->S->Prop):RO->Prop
 | .ok st=>K st.S
 | .bU v st=>X v st.S
inductive eN where
 |r (x:R)|c (x:CR)
abbrev Kt:=fW->St->Option eN
abbrev dV:=Nat->Bool->Nat->IC->St->Kt->Option eN
noncomputable def LF(P:Program)(rs:List ResultVar)(st:St)(kc:CR->Option eN):Option eN:=
 match ni P st.S rs with
 |some [v]=>kc (.ret v st.o st.nx)
 |some vs=>kc (.ret (.cc vs) st.o st.nx)
 |none=>none
noncomputable def Wd(P:Program)(rs:List ResultVar)(kc:CR->Option eN):Kt:=fun e st=>
 match e with
 | .normal=>LF P rs st kc
 | .ret=>LF P rs st kc
 | .bU v=>kc (.bU v st.o st.nx)
 | .exit _=>none
noncomputable def OY(P:Program)(rs:List ResultVar)(kc:CR->Option eN)(env:Tr V):Kt:=fun e s4=>
 match e with
 | .normal=>LF P rs ⟨env,s4.o,s4.nx⟩ kc
 | .ret=>LF P rs ⟨env,s4.o,s4.nx⟩ kc
 |_=>none
def aeH:fW->Option V
 | .normal=>some (.d .fN)
 | .ret=>some (.d .fN)
 | .bU v=>some v
 | .exit _=>none
noncomputable def OZ(P:Program)(rec:dV)(rs:List ResultVar)(aX:List V)(m r r1:Nat)(Au:IC)(kc:CR->Option eN):Kt:=fun e s3=>
 match aeH e with
 |some u=>if aX.length<=m then rec s3.nx true m Au ⟨.e (au (au (cR aX) r u) r1 u),s3.o,s3.nx⟩ (OY P rs kc s3.env)else none
 |none=>none
noncomputable def Jw(P:Program)(rec:dV)(n t:Nat)(fm:IC)(g:Nat)(fR:List Operand)(rs:List ResultVar)(m r r1:Nat)(Au:IC)(kc:CR->Option eN):Kt:=fun e s1=>
 match e with
 | .normal=>rec s1.nx false n fm ⟨s1.env.set t (.func (.func g) [] (fR.map s1.S.ev)),s1.o,s1.nx⟩ (OZ P rec rs (fR.map s1.S.ev) m r r1 Au kc)
 |_=>none
noncomputable def O0(P:Program)(tab:Nat->FD)(rec:dV)(g:Nat)(args:List V)(o:Tr aa)(nx:Nat)(kc:CR->Option eN):Option eN:=
 match tab g with
 | .fn n ic rs=>if args.length<=n then rec nx false n ic ⟨.e (cR args),o,nx⟩ (Wd P rs kc)else none
 | .dfr n jM fm g t fR rs m r r1 Au=>if args.length<=n then rec nx true n jM ⟨.e (cR args),o,nx⟩ (Jw P rec n t fm g fR rs m r r1 Au kc)else none
 | .mpc=>match args with
   |[.mp id]=>match o.get id with
    | .map kt vt l=>kc (.ret (.mp nx) (o.set nx (.map kt vt l)) (nx+1))
    | .gw l=>kc (.ret (.mp nx) (o.set nx (.map 0 0 l)) (nx+1))
    |_=>none
   |_=>none
 | .no=>none
def xF:V->List V
 | .cc vs=>vs
 |v=>[v]
noncomputable def Jx(r:CR):Option R:=
 match r with
 | .ret v o _=>match v with
   | .cc [_]=>none
   |v=>match cF o.get (xF v)with
    |some rs=>some (.ret rs)
    |none=>none
 | .bU v o _=>match dS o.get v with
   |some x=>some (.bU x)
   |none=>none
noncomputable def rfc{β:Type}(x:R)(c:R->β):β:=match x with| .ret l=>D.xC l fun l=>c (.ret l)| .bU d=>D.fc d fun d=>c (.bU d)
theorem Ho{β:Type}(x:R)(c:R->β):rfc x c=c x:=by cases x<;>simp only[rfc,D.gh,D.dq]
noncomputable def ED(r:CR):Option eN:=match Jx r with|some x=>rfc x fun x=>some (.r x)|none=>none
theorem O1{r:CR}{a:eN}(h:ED r=some a):∃x,Jx r=some x/\a= .r x:=by
 unfold ED at h
 split at h
 ·rename_i x hx;rw[Ho]at h;injection h with h;exact⟨x,hx,h.symm⟩
 ·cases h
def O2(out:R)(o:Tr aa)(nx:Nat):CR:=
 match out with
 | .ret rs=> .ret (kb rs) o nx
 | .bU x=> .bU (.d x) o nx
structure se (P:Program) where
 dat:Nat->Bool
 fx:Nat->List D->Option R
 ok:∀g ds out,fx g ds=some out->aW P g ds out
def O3(l:List (Nat×List D×R))(g:Nat)(ds:List D):Option R:=
 match l with
 |[]=>none
 |x::l=>match Nat.beq x.1 g with
  |true=>match D.gZ x.2.1 ds with
   |true=>some x.2.2
   |false=>O3 l g ds
  |false=>O3 l g ds
theorem B9{P:Program}:∀ {l:List (Nat×List D×R)},(∀x∈l,aW P x.1 x.2.1 x.2.2)->∀g ds out,O3 l g ds=some out->aW P g ds out
 |[],_,_,_,_,h=>by cases h
 |x::l,hl,g,ds,out,h=>by
  simp only[O3]at h
  split at h
  ·rename_i hg
   split at h
   ·rename_i hd
    injection h with h
    have:=hl x aJ
    rw[Nat.eq_of_beq_eq_true hg,D.dZ _ _ hd,h]at this
    exact this
   ·exact B9 (fun y hy=>hl y mj) g ds out h
  ·exact B9 (fun y hy=>hl y mj) g ds out h
def se.of {P:Program}(dat:Nat->Bool)(l:List (Nat×List D×R))(h:∀x∈l,aW P x.1 x.2.1 x.2.2):se P:=⟨dat,O3 l,B9 h⟩
noncomputable def SD(P:Program)(tab:Nat->FD)(md:se P)(rec:dV)(g:Nat)(ds:List D):Option R:=
 match md.fx g ds with
 |some out=>some out
 |none=>match O0 P tab rec g (ds.map .d) (.e fun _=> .no) 0 ED with
  |some (.r x)=>some x
  |_=>none
noncomputable def We(out:R)(o:Tr aa)(nx:Nat)(args:List V)(kc:CR->Option eN):Option eN:=
 match out.flat with
 |true=>kc (O2 out o (nx+1))
 |false=>match out.oF with
  |true=>kc (O2 out (LD o (tq o.get (V.bC args))) (nx+1))
  |false=>kc (O2 out (LD o (bY o.get (V.bC args))) (nx+1))
noncomputable def Jy(P:Program)(tab:Nat->FD)(md:se P)(rec:dV)(g:Nat)(args:List V)(o:Tr aa)(nx:Nat)(kc:CR->Option eN):Option eN:=
 match md.dat g,cF o.get args with
 |true,some ds=>match SD P tab md rec g ds with
  |some out=>We out o nx args kc
  |none=>none
 |_,_=>O0 P tab rec g args o nx kc
noncomputable def O4(id:Nat)(kc:CR->Option eN):Kt:=fun e s2=>
 match e with
 | .bU v=>kc (.bU v s2.o s2.nx)
 |e=>match s2.o.get id with
  | .loop nf m en p c d _ _=>match e with
    | .normal=>kc (.ret (.d (.bool true)) (s2.o.set id (.loop nf m en p c d .ready none)) s2.nx)
    | .ret=>kc (.ret (.d (.bool false)) (s2.o.set id (.loop nf m en p c d .done (some .ret))) s2.nx)
    | .exit j=>kc (.ret (.d (.bool false)) (s2.o.set id (.loop nf m en p c d .done (some (.exit j)))) s2.nx)
    | .bU _=>none
  |_=>none
noncomputable def Jz(rec:dV)(id nx n:Nat)(fm:IC)(kc:CR->Option eN):Kt:=fun e s1=>
 match e with
 | .normal=>match s1.o.get id with
   | .loop nf m en p c d .ready pd=>rec nx true n fm ⟨s1.env,s1.o.set id (.loop nf m en p c d .busy pd),s1.nx⟩ (O4 id kc)
   |_=>none
 | .bU v=>kc (.bU v s1.o s1.nx)
 |_=>none
noncomputable def Zv(P:Program)(rec:dV)(id:Nat)(args:List V)(o:Tr aa)(nx:Nat)(kc:CR->Option eN):Option eN:=
 match o.get id with
 | .loop nf n env ps jM fm _ _=>if nf=P.funcs.size/\id<nx/\ps.all (fun t=>decide (t<n))=true/\args.length=ps.length then
  rec nx true n jM ⟨.e (oP (aT env) ps args),o,nx⟩ (Jz rec id nx n fm kc)
   else none
 |_=>none
noncomputable def Aw(P:Program)(st:St)(o:b8)(kr:RO->Option eN):Option eN:=
 match SC o.op P st.S st.nx with
 |some (v,Δ,_)=>nv st.env o.dst v fun e=>xE st.o Δ fun ob=>Nat.fc (st.nx+1) fun n=>kr (.ok ⟨e,ob,n⟩)
 |none=>none
noncomputable def crX(st:St)(dst:Option Nat)(kr:RO->Option eN)(c:CR):Option eN:=
 match c with
 | .ret v o nx=>nv st.env dst v fun e=>Nat.fc nx fun nx=>kr (.ok ⟨e,o,nx⟩)
 | .bU v o nx=>kr (.bU v ⟨st.env,o,nx⟩)
noncomputable def O5(c:Call)(P:Program)(tab:Nat->FD)(md:se P)(rec:dV)(st:St)(o:b8)(kr:RO->Option eN):Option eN:=
 match c.callee with
 | .value f=>match st.S.ev f with
   | .func (.func g) first cap=>Jy P tab md rec g (first++c.args.toList.map st.S.ev++cap) st.o st.nx (crX st o.dst kr)
   | .jI id=>Zv P rec id (c.args.toList.map st.S.ev) st.o st.nx (crX st o.dst kr)
   |_=>none
 | .invoke r m=>match wZ P m (st.S.ev r)with
   |some (g,y)=>Jy P tab md rec g (y::c.args.toList.map st.S.ev) st.o st.nx (crX st o.dst kr)
   |none=>none
 |_=>Aw P st o kr
noncomputable def Zw(x:Operand)(P:Program)(_:Nat->FD)(_:se P)(_:dV)(st:St)(_:b8)(kr:RO->Option eN):Option eN:=
 match st.S.ev x with
 | .d (.iface t y)=>kr (.bU (.d (.iface t y)) st)
 | .iface t y=>kr (.bU (.iface t y) st)
 |_=>none
noncomputable def aeI(P:Program)(_:Nat->FD)(_:se P)(_:dV)(st:St)(o:b8)(kr:RO->Option eN):Option eN:=Aw P st o kr
def R.same:R->R->Bool
 | .ret a, .ret b=>D.gZ a b
 | .bU a, .bU b=>a.same b
 |_,_=>false
theorem R.eH {x y:R}(h:x.same y=true):x=y:=by
 cases x<;>cases y<;>simp only[R.same,Bool.false_eq_true]at h
 ·rw[D.dZ _ _ h]
 ·rw[D.eH _ _ h]
noncomputable def brX(f:Nat->Option eN):Nat->Option eN
 |0=>none
 |n+1=>match n with
  |0=>f 0
  |n=>match brX f n with
   |some (.r a)=>match f n with
    |some (.r b)=>match R.same a b with
     |true=>some (.r a)
     |false=>none
    |_=>none
   |_=>none
theorem O6{f:Nat->Option eN}{a:eN}:∀ {n:Nat},brX f n=some a->∀i,i<n->f i=some a
 |0,h,_,_=>by cases h
 |1,h,i,hi=>by obtain rfl:i=0:=ae
               exact h
 |n+2,h,i,hi=>by
  simp only[brX]at h
  split at h
  ·rename_i x hx
   split at h
   ·rename_i y hy
    split at h
    ·rename_i he
     have e:=R.eH he
     subst e
     rw[<- h]
     by_cases e:i=n+1
     ·subst e;exact hy
     ·exact O6 hx i ae
    ·cases h
   ·cases h
  ·cases h
noncomputable def SE(st:St)(dst:Option Nat)(kr:RO->Option eN)(v:V)(Δ:List (Nat×aa)):Option eN:=
 nv st.env dst v fun e=>xE st.o Δ fun ob=>Nat.fc (st.nx+1) fun n=>kr (.ok ⟨e,ob,n⟩)
noncomputable def O7(x:Operand)(str:Bool)(P:Program)(_:Nat->FD)(_:se P)(_:dV)(st:St)(o:b8)(kr:RO->Option eN):Option eN:=
 match ql st.o.get (st.S.ev x)with
 |some (id,l)=>match str with
  |true=>none
  |false=>match l with
   |[]=>SE st o.dst kr (.cc [.d (.bool false)]) []
   |_=>brX (fun i=>match l[i]? with
    |some (k,x)=>SE st o.dst kr (.cc [.d (.bool true), .d k, .d x]) [(id, .pW (l.eraseIdx i) (some (k,x)))]
    |none=>none) l.length
 |none=>Aw P st o kr
noncomputable def opK(op:Op):(P:Program)->(Nat->FD)->se P->dV->St->b8->(RO->Option eN)->Option eN:=
 match op with
 | .call c=>O5 c
 | .panic x=>Zw x
 | .next x str=>O7 x str
 |_=>aeI
noncomputable def opX(P:Program)(tab:Nat->FD)(md:se P)(rec:dV)(st:St)(o:b8)(kr:RO->Option eN):Option eN:=opK o.op P tab md rec st o kr
noncomputable def roK(next:St->Option eN)(kr:RO->Option eN):RO->Option eN:=fun r=>match r with| .ok st=>next st| .bU v st=>kr (.bU v st)
noncomputable def Ca(P:Program)(tab:Nat->FD)(md:se P)(rec:dV)(kr:RO->Option eN):List b8->St->Option eN
 |[],st=>kr (.ok st)
 |o::l,st=>match(match o.gd with
   |none=>some true
   |some (d,want)=>match st.env.get d with
    | .d (.bool b)=>some (b==want)
    | .cc []=>some false
    |_=>none)with
  |some true=>opX P tab md rec st o (roK (Ca P tab md rec kr l) kr)
  |some false=>nv st.env o.dst (.cc []) fun e=>Nat.fc (st.nx+1) fun n=>Ca P tab md rec kr l ⟨e,st.o,n⟩
  |none=>none
section
variable {P:Program}{tab:Nat->FD}{md:se P}
noncomputable def eZ(P:Program)(rec:dV):Prop:=∀b rd n ic st k a,rec b rd n ic st k=some a->∀Q:fW->S->Prop,(∀e st',k e st'=some a->Q e st'.S)->vQ P n b rd ic Q st.S
theorem vV{rs:List ResultVar}{st:St}{kc:CR->Option eN}{a:eN}(h:LF P rs st kc=some a){K X:V->(Nat->aa)->Nat->Prop}(hr:∀r,kc r=some a->r.to K X):nk P rs K X .ret st.S:=by
 unfold LF at h
 unfold nk
 split at h
 ·rename_i v hv;simp only[hv];exact hr _ h
 ·rename_i vs hv hn
  simp only[hn]
  exact hr _ h
 ·cases h
theorem oX(bB:P.follows .mixedOrders=true)(c7:∀g,(tab g).Ok P g){rec:dV}(bN:eZ P rec){g:Nat}{args:List V}{o:Tr aa}{nx:Nat}{kc:CR->Option eN}{a:eN}(h:O0 P tab rec g args o nx kc=some a){K X:V->(Nat->aa)->Nat->Prop}(hr:∀r,kc r=some a->r.to K X):
 cX P g args o.get nx K X:=by
 have bp:=c7 g
 unfold O0 at h
 split at h
 ·rename_i n ic rs ht
  rw[ht]at bp
  split at h
  ·rename_i hl
   refine cX.xn bB bp hl ?_
   refine bN _ _ _ _ _ _ _ h _ fun e st he=> ?_
   unfold Wd at he
   cases e with
   |normal=>exact vV he hr
   |ret=>exact vV he hr
   |bU v=>exact hr _ he
   |exit j=>cases he
  ·cases h
 ·rename_i n jM fm g' t fR rs m r0 r1 Au ht
  rw[ht]at bp
  split at h
  ·rename_i hl
   refine cX.EA bB bp.1 bp.2 hl (bN _ _ _ _ _ _ _ h _ fun e s1 he=> ?_)
   unfold Jw at he
   cases e with
   |normal=>
    have hb:vQ P n s1.nx false fm (B8 P m r0 r1 Au (fR.map s1.S.ev) rs K X) ⟨au s1.env.get t (.func (.func g') [] (fR.map s1.S.ev)),s1.o.get,s1.nx⟩:=by
     have:=bN _ _ _ _ _ _ _ he (B8 P m r0 r1 Au (fR.map s1.S.ev) rs K X) (fun e s3 he3=>by
      unfold OZ at he3
      split at he3
      ·rename_i u hu
       split at he3
       ·rename_i mY
        have hrw:Hj P m r0 r1 Au (fR.map s1.S.ev) u s3.o.get s3.nx fun o nx=>nk P rs K X .ret ⟨s3.env.get,o,nx⟩:=by
         refine⟨mY,bN _ _ _ _ _ _ _ he3 _ fun e4 s4 he4=> ?_⟩
         unfold OY at he4
         cases e4 with
         |normal=>exact vV (st:=⟨s3.env,s4.o,s4.nx⟩) he4 hr
         |ret=>exact vV (st:=⟨s3.env,s4.o,s4.nx⟩) he4 hr
         |_=>cases he4
        cases e<;>simp only[aeH,Option.some.injEq,reduceCtorEq]at hu<;>subst hu<;>exact hrw
       ·cases he3
      ·cases he3)
     simp only[St.S,Tr.iL]at this
     exact this
    exact hb
   |_=>cases he
  ·cases h
 ·rename_i ht
  rw[ht]at bp
  split at h
  ·split at h
   ·rename_i kt vt l ho
    have h2:=hr _ h
    simp only[CR.to,Tr.iL]at h2
    exact cX.Zn bp ho h2
   ·rename_i l ho
    have h2:=hr _ h
    simp only[CR.to,Tr.iL]at h2
    exact cX.SA bp ho h2
   ·cases h
  ·cases h
 ·cases h
theorem O8{r:CR}{out:R}(ho:Jx r=some out):r.to (fun v o _=>∃vs rs,v=(match vs with|[v]=>v|vs=> .cc vs)/\cF o vs=some rs/\out= .ret rs) (fun v o _=>∃x,dS o v=some x/\out= .bU x):=by
 unfold Jx at ho
 split at ho
 ·rename_i v o nx
  split at ho
  ·cases ho
  ·rename_i hv
   split at ho
   ·rename_i rs hrs
    injection ho with ho;subst ho
    refine⟨xF v,rs, ?_,hrs,rfl⟩
    cases v with
    |cc vs=>
     match vs,hv with
     |[],_=>rfl
     |[x],hv=>exact absurd rfl (hv x)
     |_::_::_,_=>rfl
    |_=>rfl
   ·cases ho
 ·split at ho
  ·rename_i x hx
   injection ho with ho;subst ho
   exact⟨x,hx,rfl⟩
  ·cases ho
theorem EE(bB:P.follows .mixedOrders=true)(c7:∀g,(tab g).Ok P g){rec:dV}(bN:eZ P rec){g:Nat}{ds:List D}{out:R}(h:O0 P tab rec g (ds.map .d) (.e fun _=> .no) 0 ED=some (.r out)):aW P g ds out:=by
 refine aW.jP (oX bB c7 bN h fun r hr=> ?_)
 obtain⟨x,hx,he⟩:=O1 hr
 injection he with he;subst he
 exact O8 hx
theorem Cb(bB:P.follows .mixedOrders=true)(c7:∀g,(tab g).Ok P g){rec:dV}(bN:eZ P rec){g:Nat}{ds:List D}{out:R}(h:SD P tab md rec g ds=some out):aW P g ds out:=by
 unfold SD at h
 split at h
 ·rename_i ajw ho
  injection h with h;subst h
  exact md.ok _ _ _ ho
 ·split at h
  ·rename_i x hr;injection h with h;subst h;exact EE bB c7 bN hr
  ·cases h
theorem EF(bB:P.follows .mixedOrders=true)(c7:∀g,(tab g).Ok P g){rec:dV}(bN:eZ P rec){g:Nat}{args:List V}{o:Tr aa}{nx:Nat}{kc:CR->Option eN}{a:eN}(h:Jy P tab md rec g args o nx kc=some a){K X:V->(Nat->aa)->Nat->Prop}(hr:∀r,kc r=some a->r.to K X):
 VA P g args o.get nx K X:=by
 unfold Jy at h
 split at h
 ·rename_i ds hmd fL
  split at h
  ·rename_i out EG
   have hP:=Cb bB c7 bN EG
   refine .inl ⟨ds,fL,out,hP, ?_⟩
   unfold We at h
   split at h
   ·rename_i hf
    refine .inr (.inl ⟨hf, ?_⟩)
    cases out<;>exact hr _ h
   ·split at h
    ·rename_i hf
     refine .inr (.inr ⟨hf, ?_⟩)
     rw[<- kY]
     cases out<;>exact hr _ h
    ·refine .inl ?_
     rw[<- kY]
     cases out<;>exact hr _ h
  ·cases h
 ·exact .inr (oX bB c7 bN h hr)
theorem SF(bB:P.follows .mixedOrders=true){rec:dV}(bN:eZ P rec){id:Nat}{args:List V}{o:Tr aa}{nx:Nat}{kc:CR->Option eN}{a:eN}(h:Zv P rec id args o nx kc=some a){K X:V->(Nat->aa)->Nat->Prop}(hr:∀r,kc r=some a->r.to K X):
 eu P id args o.get nx K X:=by
 unfold Zv at h
 split at h
 ·rename_i nf n env ps jM fm st pd ho
  split at h
  ·rename_i hc
   obtain⟨rfl,cS,pL,hl⟩:=hc
   refine eu.xn bB ho cS pL hl ?_
   refine bN _ _ _ _ _ _ _ h _ fun e s1 he=> ?_
   unfold Jz at he
   cases e with
   |normal=>
    simp only at he
    split at he
    ·rename_i nf m en p c d pd qZ
     refine⟨nf,m,en,p,c,d,pd,qZ, ?_⟩
     have:=bN _ _ _ _ _ _ _ he (kX id K X) (fun e s2 h2=>by
      unfold O4 at h2
      split at h2
      ·exact hr _ h2
      ·rename_i Vu
       split at h2
       ·rename_i nf' m' en' p' c' d' st' pd' Zx
        cases e with
        |bU v=>cases h2
        |normal=>have h3:=hr _ h2;simp only[CR.to,Tr.iL]at h3;exact⟨nf',m',en',p',c',d',st',pd',Zx,h3⟩
        |ret=>have h3:=hr _ h2;simp only[CR.to,Tr.iL]at h3;exact⟨nf',m',en',p',c',d',st',pd',Zx,h3⟩
        |exit j=>have h3:=hr _ h2;simp only[CR.to,Tr.iL]at h3;exact⟨nf',m',en',p',c',d',st',pd',Zx,h3⟩
       ·cases h2)
     simp only[St.S,Tr.iL]at this
     exact this
    ·cases he
   |bU v=>exact hr _ he
   |_=>cases he
  ·cases h
 ·cases h
theorem xG{st:St}{o:b8}{kr:RO->Option eN}{a:eN}(h:Aw P st o kr=some a){K:S->Prop}{X:V->S->Prop}(hr:∀r,kr r=some a->r.to K X):match gA P st.S st.S.nx o.op with
 |some (v,Δ,_)=>K ⟨bf st.S.env o.dst v,put st.S.o Δ,st.S.nx+1⟩
 |none=>False:=by
 unfold Aw at h
 split at h
 ·rename_i v Δ rd he
  have he:=Jv he
  simp only[kx,oW,Nat.dq]at h
  have hr:=hr _ h
  simp only[RO.to,St.S,kj,kY]at hr
  have mc:gA P st.S st.S.nx o.op=some (v,Δ,rd):=he
  simp only[mc]
  exact hr
 ·cases h
theorem JA{st:St}{dst:Option Nat}{kr:RO->Option eN}{v:V}{Δ:List (Nat×aa)}{a:eN}(h:SE st dst kr v Δ=some a){K:S->Prop}{X:V->S->Prop}(hr:∀r,kr r=some a->r.to K X):K ⟨bf st.S.env dst v,put st.S.o Δ,st.S.nx+1⟩:=by
 unfold SE at h
 simp only[kx,oW,Nat.dq]at h
 have hr:=hr _ h
 simp only[RO.to,St.S,kj,kY]at hr
 exact hr
theorem Zy(bB:P.follows .mixedOrders=true)(c7:∀g,(tab g).Ok P g){rec:dV}(bN:eZ P rec){st:St}{o:b8}{kr:RO->Option eN}{a:eN}(h:opX P tab md rec st o kr=some a){K:S->Prop}{X:V->S->Prop}(hr:∀r,kr r=some a->r.to K X):MM P st.S o X K:=by
 have cr:∀r,crX st o.dst kr r=some a->r.to (fun v o' nx'=>K ⟨bf st.S.env o.dst v,o',nx'⟩) (fun v o' nx'=>X v ⟨st.S.env,o',nx'⟩):=by
  intro r hx
  unfold crX at hx
  split at hx
  ·simp only[kx,Nat.dq]at hx
   have hr:=hr _ hx
   simp only[RO.to,St.S,kj]at hr
   exact hr
  ·exact hr _ hx
 unfold opX at h
 unfold MM
 cases iS:o.op
 case call c=>
  rw[iS]at h
  have h:O5 c P tab md rec st o kr=some a:=h
  unfold O5 at h
  cases hf:c.callee
  case value f=>
   simp only[hf]at h|-
   split at h
   ·rename_i g first cap hv
    simp only[hv]
    have:=EF bB c7 bN h cr
    rcases this with⟨ds,fL,hP⟩|hC
    ·have Zz:cF st.S.o (first++List.map st.S.ev c.args.toList++cap)=some ds:=fL
     simp only[Zz]
     exact .inl hP
    ·split
     ·exact .inr (.inl hC)
     ·exact .inl hC
   ·rename_i id hv
    simp only[hv]
    exact SF bB bN h cr
   ·cases h
  case invoke r m=>
   simp only[hf]at h|-
   split at h
   ·rename_i g y hv
    simp only[hv]
    exact EF bB c7 bN h cr
   ·cases h
  all_goals
   simp only[hf]at h|-
   have:=xG h hr
   rw[iS]at this
   exact .inl this
 case panic x=>
  rw[iS]at h
  have h:Zw x P tab md rec st o kr=some a:=h
  unfold Zw at h
  split at h
  ·rename_i hv;simp only[hv];exact hr _ h
  ·rename_i hv;simp only[hv];exact hr _ h
  ·cases h
 case next x str=>
  rw[iS]at h
  have h:O7 x str P tab md rec st o kr=some a:=h
  unfold O7 at h
  have hl:ql st.S.o (st.S.ev x)=ql st.o.get (st.S.ev x):=rfl
  simp only[hl]
  split at h
  ·rename_i id l aq
   simp only[aq]
   cases str with
   |true=>cases h
   |false=>
    refine⟨rfl,fun e=> ?_,fun i k y e=> ?_⟩
    ·subst e
     exact JA h hr
    ·cases l with
     |nil=>simp at e
     |cons p l=>
      have:=O6 h i (List.getElem?_eq_some_iff.1 e).1
      rw[e]at this
      exact JA this hr
  ·rename_i aq
   simp only[aq]
   have:=xG h hr
   rw[iS]at this
   exact this
 all_goals
  have h2:Aw P st o kr=some a:=by rw[iS]at h;exact h
  have:=xG h2 hr
  rw[iS]at this
  exact this
theorem vW(bB:P.follows .mixedOrders=true)(c7:∀g,(tab g).Ok P g){rec:dV}(bN:eZ P rec){kr:RO->Option eN}{a:eN}{K:S->Prop}{X:V->S->Prop}(hr:∀r,kr r=some a->r.to K X):∀ (l:List b8) (st:St),Ca P tab md rec kr l st=some a->qL P X K l st.S
 |[],st,h=>hr (.ok st) h
 |o::l,st,h=>by
  simp only[Ca,kx,Nat.dq]at h
  simp only[qL]
  have op:opX P tab md rec st o (roK (Ca P tab md rec kr l) kr)=some a->MM P st.S o X (qL P X K l):=by
   intro h
   refine Zy bB c7 bN h fun r hrr=> ?_
   cases r with
   |ok ZA=>exact vW bB c7 bN hr l ZA hrr
   |bU v ZA=>exact hr (.bU v ZA) hrr
  have sk:Ca P tab md rec kr l ⟨uT st.env o.dst (.cc []),st.o,st.nx+1⟩=some a->qL P X K l ⟨bf st.S.env o.dst (.cc []),st.S.o,st.S.nx+1⟩:=by
   intro h
   have:=vW bB c7 bN hr l _ h
   exact ND
  cases hg:o.gd with
  |none=>simp only[hg]at h;exact op h
  |some p=>
   obtain⟨d,want⟩:=p
   simp only[hg]at h
   have he:st.S.env d=st.env.get d:=rfl
   simp only[he]
   cases hv:st.env.get d with
   |d x=>
    cases x with
    |bool b=>
     simp only[hv]at h|-
     by_cases e:b=want
     ·subst e
      simp only[beq_self_eq_true]at h
      rw[if_pos rfl];exact op h
     ·have:(b==want)=false:=by simpa using e
      rw[this]at h
      rw[if_neg e];exact sk h
    |_=>simp[hv]at h
   |cc vs=>
    cases vs with
    |nil=>simp only[hv]at h|-;exact sk h
    |cons a cI=>simp[hv]at h
   |_=>simp[hv]at h
end
end
section
mutual
def V.same:V->V->Bool
 | .d x, .d y=>x.same y
 | .aU, .aU=>true
 | .ag, .ag=>true
 | .agg a, .agg b=>V.gZ a b
 | .ptr i o, .ptr j p=>Nat.beq i j&&Nat.beq o p
 | .osl i o, .osl j p=>Nat.beq i j&&Nat.beq o p
 | .qx a, .qx b=>D.gZ a b
 | .iface t x, .iface u y=>Nat.beq t u&&x.same y
 | .mp i, .mp j=>Nat.beq i j
 |_,_=>false
def V.gZ:List V->List V->Bool
 |[],[]=>true
 |a::cI,b::bs=>a.same b&&V.gZ cI bs
 |_,_=>false
end
mutual
theorem V.eH:∀ (x y:V),x.same y=true->x=y
 | .d x,y,h=>by cases y<;>simp only[V.same,Bool.false_eq_true]at h;rw[D.eH _ _ h]
 | .aU,y,h=>by cases y<;>simp_all[V.same]
 | .ag,y,h=>by cases y<;>simp_all[V.same]
 | .agg a,y,h=>by cases y<;>simp only[V.same,Bool.false_eq_true]at h;rw[V.dZ _ _ h]
 | .ptr i o,y,h=>by
   exact adr
 | .osl i o,y,h=>by
   exact adr
 | .qx a,y,h=>by cases y<;>simp only[V.same,Bool.false_eq_true]at h;rw[D.dZ _ _ h]
 | .iface t x,y,h=>by
   cases y<;>simp only[V.same,Bool.false_eq_true,Bool.and_eq_true]at h
   rw[Nat.eq_of_beq_eq_true h.1,V.eH _ _ h.2]
 | .mp i,y,h=>by
   cases y<;>simp only[V.same,Bool.false_eq_true]at h
   rw[Nat.eq_of_beq_eq_true h]
 | .cc _,y,h| .pe _ _ _ _ _,y,h| .pp _ _,y,h| .func _ _ _,y,h| .jo _ _ _ _,y,h| .fl,y,h| .jI _,y,h=>by simp[V.same]at h
theorem V.dZ:∀ (x y:List V),V.gZ x y=true->x=y
 |[],y,h=>by cases y<;>simp_all[V.gZ]
 |a::cI,y,h=>by
  cases y<;>simp only[V.gZ,Bool.false_eq_true,Bool.and_eq_true]at h
  rw[V.eH _ _ h.1,V.dZ _ _ h.2]
end
def xH:List (D×D)->List (D×D)->Bool
 |[],[]=>true
 |(a,b)::l,(c,d)::m=>a.same c&&(b.same d&&xH l m)
 |_,_=>false
theorem xI:∀ (l m:List (D×D)),xH l m=true->l=m
 |[],m,h=>by cases m<;>simp_all[xH]
 |(a,b)::l,m,h=>by
  cases m with
  |nil=>simp[xH]at h
  |cons p m=>
   obtain⟨c,d⟩:=p
   simp only[xH,Bool.and_eq_true]at h
   rw[D.eH _ _ h.1,D.eH _ _ h.2.1,xI l m h.2.2]
noncomputable def aa.same:aa->aa->Bool
 | .no, .no=>true
 | .row a, .row b=>V.gZ a b
 | .arr e t s a, .arr f u r b=>Nat.beq e f&&Nat.beq t u&&Nat.beq s r&&D.gZ a b
 | .qg e a, .qg f b=>Nat.beq e f&&D.gZ a b
 | .map k v a, .map k' v' b=>Nat.beq k k'&&Nat.beq v v'&&xH a b
 | .gw a, .gw b=>xH a b
 | .yY a i, .yY b j=>a==b&&Nat.beq i j
 |_,_=>false
theorem aa.eH {x y:aa}(h:x.same y=true):x=y:=by
 cases x<;>cases y<;>simp only[aa.same,Bool.false_eq_true,Bool.and_eq_true]at h
 ·rfl
 ·rw[V.dZ _ _ h]
 ·rw[Nat.eq_of_beq_eq_true h.1.1.1,Nat.eq_of_beq_eq_true h.1.1.2,Nat.eq_of_beq_eq_true h.1.2,D.dZ _ _ h.2]
 ·rw[Nat.eq_of_beq_eq_true h.1,D.dZ _ _ h.2]
 ·rw[Nat.eq_of_beq_eq_true h.1.1,Nat.eq_of_beq_eq_true h.1.2,xI _ _ h.2]
 ·rw[xI _ _ h]
 ·rw[eq_of_beq h.1,Nat.eq_of_beq_eq_true h.2]
noncomputable def reach(o:Nat->aa):Nat->List Nat->List Nat->List Nat
 |0,_,seen=>seen
 |_+1,[],seen=>seen
 |n+1,id::todo,seen=>match seen.contains id with
  |true=>reach o n todo seen
  |false=>reach o n ((o id).refs++todo) (id::seen)
noncomputable def fh(o o1:Nat->aa):List Nat->List (Nat×aa)
 |[]=>[]
 |id::l=>match(o id).same (o1 id)with
  |true=>fh o o1 l
  |false=>(id,o1 id)::fh o o1 l
theorem jB{o o1:Nat->aa}:∀ (l:List Nat) (x:Nat×aa),x∈fh o o1 l->x.1∈l/\x.2=o1 x.1
 |[],x,h=>by simp[fh]at h
 |id::l,x,h=>by
  simp only[fh]at h
  split at h
  ·obtain⟨h1,h2⟩:=jB l x h;exact⟨List.mem_cons_of_mem _ h1,h2⟩
  ·rcases List.mem_cons.1 h with rfl|h
   ·exact⟨aJ,rfl⟩
   ·obtain⟨h1,h2⟩:=jB l x h;exact⟨List.mem_cons_of_mem _ h1,h2⟩
theorem oY{o o1:Nat->aa}:∀ (l:List Nat) (id:Nat),id∈l->id∉(fh o o1 l).map (·.1)->o1 id=o id
 |[],id,h,_=>by simp at h
 |j::l,id,h,hn=>by
  simp only[fh]at hn
  split at hn
  ·rename_i hs
   rcases List.mem_cons.1 h with rfl|h
   ·exact(aa.eH hs).symm
   ·exact oY l id h hn
  ·simp only[List.map_cons,List.mem_cons,not_or]at hn
   rcases List.mem_cons.1 h with rfl|h
   ·exact absurd rfl hn.1
   ·exact oY l id h hn.2
theorem EH{o1:Nat->aa}:∀ (Δ:List (Nat×aa)) (o:Nat->aa),(∀x∈Δ,x.2=o1 x.1)->∀id,id∈Δ.map (·.1)\/o id=o1 id->put o Δ id=o1 id
 |[],o,_,id,h=>by rcases h with h|h;· simp at h
                  ·exact h
 |x::Δ,o,hv,id,h=>by
  simp only[put,List.foldl_cons]
  refine EH Δ (au o x.1 x.2) (fun y hy=>hv y (List.mem_cons_of_mem _ hy)) id ?_
  simp only[List.map_cons,List.mem_cons]at h
  simp only[aR]
  by_cases e:id=x.1
  ·right;rw[if_pos e,hv x (by simp),e]
  ·rcases h with(h|h)|h
   ·exact absurd h e
   ·exact .inl h
   ·right;rw[if_neg e];exact h
theorem uU{o o1:Nat->aa}{l:List Nat}{id:Nat}(h:id∈l):o1 id=put o (fh o o1 l) id:=by
 by_cases hm:id∈(fh o o1 l).map (·.1)
 ·exact(EH _ o (fun x hx=>(jB l x hx).2) id (.inl hm)).symm
 ·rw[ig hm];exact oY l id h hm
inductive DR where
 |val (v:V) (Δ:List (Nat×aa)) (rd:List Nat)|bU (v:V) (ws rd:List Nat)
def DR.to (K:V->List (Nat×aa)->List Nat->Prop)(KX:V->List Nat->List Nat->Prop):DR->Prop
 | .val v Δ rd=>K v Δ rd
 | .bU v ws rd=>KX v ws rd
noncomputable def crA(c:CR):Option eN:=some (.c c)
noncomputable def hX(P:Program)(tab:Nat->FD)(rec:dV)(g:Nat)(args:List V)(st:St):Option DR:=
 let rd:=reach st.o.get 2000 (V.aM args) []
 match rd.all (fun id=>Nat.blt id st.nx&&(st.o.get id).refs.all rd.contains)&&(V.aM args).all rd.contains with
 |true=>match O0 P tab rec g args (.e (zg rd st.o.get)) st.nx crA with
  |some (.c (.ret v o1 _))=>match v with
   | .cc [_]=>none
   |v=>match cF o1.get (xF v)with
    |some rs=>match(fh st.o.get o1.get rd).all (fun x=>x.2.refs.all rd.contains)&&(V.bC (xF v)).all (fun id=> !rd.contains id)with
     |true=>some (.val (kb rs) (fh st.o.get o1.get rd) rd)
     |false=>none
    |none=>none
  |some (.c (.bU v o1 _))=>match dS o1.get v with
   |some x=>match(fh st.o.get o1.get rd).all (fun x=>x.2.refs.all rd.contains)&&v.ids.all (fun id=> !rd.contains id)with
    |true=>some (.bU (.d x) ((fh st.o.get o1.get rd).map (·.1)) rd)
    |false=>none
   |none=>none
  |_=>none
 |false=>none
noncomputable def cDX(P:Program)(tab:Nat->FD)(md:se P)(rec:dV)(g:Nat)(args:List V)(st:St)(rd:List Nat):Option DR:=
 match cF st.o.get args with
 |some ds=>match md.dat g with
  |false=>match O0 P tab rec g (ds.map .d) (.e fun _=> .no) 0 crA with
   |some (.c (.ret v _ _))=>match v.refs with
    |[]=>some (.val v (bY st.o.get (V.bC args)) rd)
    |_=>none
   |_=>none
  |true=>match SD P tab md rec g ds with
   |some (.ret rs)=>match D.kN rs with
    |true=>some (.val (kb rs) [] rd)
    |false=>some (.val (kb rs) (bY st.o.get (V.bC args)) rd)
   |some (.bU x)=>match x.flat with
    |true=>some (.bU (.d x) [] rd)
    |false=>none
   |none=>none
 |none=>hX P tab rec g args st
noncomputable def sDX(P:Program)(st:St)(fr:Nat)(op:Op):Option DR:=
 match SC op P st.S fr with
 |some (v,Δ,_)=>some (.val v Δ (pV st.S op))
 |none=>none
def V.ahX:V->Bool
 | .mp _=>true
 |_=>false
def ZB{P:Program}(md:se P)(g:Nat)(args:List V):Bool:= !md.dat g&&args.any V.ahX
def Ax(args:List V):Option (List D):=
 match V.bC args with
 |[]=>cF (fun _=> .no) args
 |_=>none
noncomputable def SG(P:Program)(t:TypeId)(c:CR):Option eN:=
 match c with
 | .ret v o1 _=>match v with
   | .osl j ep=>match o1.get j with
     | .arr fq ty sz es=>match Nat.beq fq ep with
       |true=>rfc (.ret [.sl es, .int .i64 (ty:Nat), .int .i64 (sz:Nat)]) fun x=>some (.r x)
       |false=>none
     |_=>none
   | .aU=>match bR P t with
     |some e=>match Nat.blt 0 (P.cellsOf e)with
      |true=>rfc (.ret [.sl [], .int .i64 (e:Nat), .int .i64 (P.cellsOf e:Nat)]) fun x=>some (.r x)
      |false=>none
     |none=>none
   |_=>none
 |_=>none
noncomputable def ZC(P:Program)(tab:Nat->FD)(rec:dV)(g:Nat)(t:TypeId)(args:List V)(st:St)(fr:Nat):Option DR:=
 match Ax args with
 |some ds=>match O0 P tab rec g (ds.map .d) (.e fun _=> .no) 0 (SG P t)with
  |some (.r (.ret [.sl es, .int .i64 (.ofNat ty), .int .i64 (.ofNat sz)]))=>some (.val (.osl fr 0) [(fr, .arr 0 ty sz es)] [])
  |_=>none
 |none=>match cF st.o.get args with
  |some ds=>match O0 P tab rec g (ds.map .d) (.e fun _=> .no) 0 (SG P t)with
   |some (.r (.ret [.sl es, .int .i64 (.ofNat ty), .int .i64 (.ofNat sz)]))=>match D.kN es&&(V.bC args).all (fun id=>Nat.blt id st.nx)with
    |true=>some (.val (.osl fr 0) [(fr, .arr 0 ty sz es)] (V.bC args))
    |false=>none
   |_=>none
  |none=>none
noncomputable def SH(P:Program)(tab:Nat->FD)(md:se P)(rec:dV)(st:St)(fr:Nat)(op:Op):Option DR:=
 match op with
 | .call c=>match c.callee with
   | .value f=>match st.S.ev f with
     | .func (.func g) first cap=>match ZB md g (first++c.args.toList.map st.S.ev++cap)with
       |true=>hX P tab rec g (first++c.args.toList.map st.S.ev++cap) st
       |false=>match cDX P tab md rec g (first++c.args.toList.map st.S.ev++cap) st (pV st.S (.call c))with
        |some r=>some r
        |none=>ZC P tab rec g (c.argTypes.getD 0 0) (first++c.args.toList.map st.S.ev++cap) st fr
     |_=>none
   |_=>sDX P st fr (.call c)
 |op=>sDX P st fr op
noncomputable def gdX(st:St):Option (Nat×Bool)->Option Bool
 |none=>some true
 |some (d,want)=>match st.env.get d with
  | .d (.bool b)=>some (b==want)
  | .cc []=>some false
  |_=>none
noncomputable def xJ(P:Program)(tab:Nat->FD)(md:se P)(rec:dV)(pr:List (List Nat)):List b8->Nat->St->Fp->List Nat->List Nat->Option (List Nat×Fp)
 |[],_,_,fp,_,ws=>some (ws,fp)
 |o::l,fr,st,fp,bad,ws=>match(pr.getD fp.length []).any (fun j=>bad.contains j)with
  |true=>xJ P tab md rec pr l (fr+1) ⟨uT st.env o.dst .ag,st.o,st.nx⟩ (fp++[([],[])]) (bad++[fp.length]) ws
  |false=>match gdX st o.gd with
   |some true=>match SH P tab md rec st fr o.op with
    |some (.val v Δ rd)=>nv st.env o.dst v fun e=>xE st.o Δ fun ob=>xJ P tab md rec pr l (fr+1) ⟨e,ob,st.nx⟩ (fp++[(rd,Δ.map (·.1))]) bad (ws++Δ.map (·.1))
    |_=>none
   |some false=>xJ P tab md rec pr l (fr+1) ⟨uT st.env o.dst (.cc []),st.o,st.nx⟩ (fp++[([],[])]) bad ws
   |none=>none
inductive DQ where
 |fin (st:St) (fp:Fp)|bU (v:V) (wl:List Nat) (fp:Fp)
noncomputable def xK(P:Program)(tab:Nat->FD)(md:se P)(rec:dV)(pr:List (List Nat)):List b8->Nat->St->Fp->Option DQ
 |[],_,st,fp=>some (.fin st fp)
 |o::l,fr,st,fp=>match gdX st o.gd with
  |some true=>match SH P tab md rec st fr o.op with
   |some (.val v Δ rd)=>nv st.env o.dst v fun e=>xE st.o Δ fun ob=>Nat.fc (fr+1) fun fr=>xK P tab md rec pr l fr ⟨e,ob,st.nx⟩ (fp++[(rd,Δ.map (·.1))])
   |some (.bU v ws rd)=>match xJ P tab md rec pr l (fr+1) ⟨uT st.env o.dst .ag,st.o,st.nx⟩ (fp++[(rd,[])]) [fp.length] (ws++fp.flatMap (·.2))with
    |some (wl,fp)=>some (.bU v wl fp)
    |none=>none
   |none=>none
  |some false=>nv st.env o.dst (.cc []) fun e=>Nat.fc (fr+1) fun fr=>xK P tab md rec pr l fr ⟨e,st.o,st.nx⟩ (fp++[([],[])])
  |none=>none
noncomputable def quiet(fp:Fp):Bool:=fp.all fun x=>match x.2 with|[]=>true|_=>false
noncomputable def Cc(m:Nat)(x:List Nat×List Nat):Nat->Fp->Bool
 |_,[]=>true
 |i,y::l=>(match y.2,x.2 with
  |[],[]=>true
  |_,_=>m.testBit i||(lX y.2 x.1&&lX y.2 x.2&&lX x.2 y.1))&&Cc m x (i+1) l
noncomputable def JB(ms:List Nat)(pre:Fp):Nat->Fp->Bool
 |_,[]=>true
 |j,x::l=>Cc (ms.getD j 0) x 0 pre&&JB ms (pre++[x]) (j+1) l
noncomputable def nfc{β:Type}:List Nat->(List Nat->β)->β
 |[],c=>c []
 |x::xs,c=>Nat.fc x fun x=>nfc xs fun xs=>c (x::xs)
theorem O9{β:Type}:∀ (x:List Nat) (c:List Nat->β),nfc x c=c x
 |[],c=>rfl
 |x::xs,c=>by simp only[nfc,Nat.dq,O9 xs]
noncomputable def SI{β:Type}:Fp->(Fp->β)->β
 |[],c=>c []
 |(a,b)::l,c=>nfc a fun a=>nfc b fun b=>SI l fun l=>c ((a,b)::l)
theorem JC{β:Type}:∀ (x:Fp) (c:Fp->β),SI x c=c x
 |[],c=>rfl
 |(a,b)::l,c=>by simp only[SI,O9,JC l]
noncomputable def Pb(pr:List (List Nat))(fp:Fp):Bool:=match quiet fp with|true=>true|false=>SI fp fun fp=>JB (fb pr []) [] 0 fp
theorem Ay{m:Nat}{x:List Nat×List Nat}:∀ (l:Fp) (i:Nat),Cc m x i l=true->∀k,k<l.length->(m.testBit (i+k)||(lX (l.getD k ([],[])).2 x.1&&lX (l.getD k ([],[])).2 x.2&&lX x.2 (l.getD k ([],[])).1))=true
 |[],i,_,k,hk=>by simp at hk
 |y::l,i,h,k,hk=>by
  simp only[Cc,Bool.and_eq_true]at h
  cases k with
  |zero=>
   have h1:=h.1
   simp only[List.getD_cons_zero,Nat.add_zero]
   split at h1
   ·rename_i e1 e2
    rw[e1,e2];simp[lX]
   ·exact h1
  |succ k=>
   have:=Ay l (i+1) h.2 k (by simpa using hk)
   rw[List.getD_cons_succ,show i+(k+1)=i+1+k by omega]
   exact this
theorem EI{ms:List Nat}:∀ (l pre:Fp),JB ms pre pre.length l=true->∀j,pre.length<=j->j<(pre++l).length->∀i,i<j->
 ((ms.getD j 0).testBit i||(lX ((pre++l).getD i ([],[])).2 ((pre++l).getD j ([],[])).1&&lX ((pre++l).getD i ([],[])).2 ((pre++l).getD j ([],[])).2&&lX ((pre++l).getD j ([],[])).2 ((pre++l).getD i ([],[])).1))=true
 |[],pre,_,j,h1,h2,i,_=>by simp at h2;omega
 |x::l,pre,h,j,h1,h2,i,hi=>by
  simp only[JB,Bool.and_eq_true]at h
  by_cases e:j=pre.length
  ·subst e
   have:=Ay pre 0 h.1 i hi
   have e1:(pre++x::l).getD pre.length ([],[])=x:=by simp[List.getD_eq_getElem?_getD]
   have e2:(pre++x::l).getD i ([],[])=pre.getD i ([],[]):=by simp[List.getD_eq_getElem?_getD,List.getElem?_append_left hi]
   rw[e1,e2]
   simpa using this
  ·have h3:=h.2
   have:=EI l (pre++[x]) (by simpa using h3) j iA wv i hi
   simpa using this
noncomputable def ZD(P:Program)(tab:Nat->FD)(md:se P)(rec:dV)(l:List b8)(pr:List (List Nat))(st:St):Option (fW×St):=
 match xK P tab md rec pr l st.nx st []with
 |some (.fin s1 fp)=>match Pb pr fp with
  |true=>Nat.fc (st.nx+l.length) fun n=>some (.normal,⟨s1.env,s1.o,n⟩)
  |false=>none
 |some (.bU v wl fp)=>match Pb pr fp with
  |true=>some (.bU v,⟨.e (vu (dstsOf l) wl l.length st.S).env, .e (vu (dstsOf l) wl l.length st.S).o,st.nx+l.length⟩)
  |false=>none
 |none=>none
noncomputable def aeJ(id:Nat)(env:Tr V)(kt:Kt)(c:CR):Option eN:=
 match c with
 | .ret _ o1 G6=>match o1.get id with
   | .loop nf m e p c d lst pd=>match lst with
     | .busy=>none
     |_=>match pd with
      |none=>kt .normal ⟨env,o1.set id (.loop nf m e p c d .exhausted pd),G6⟩
      |some .ret=>kt .ret ⟨env,o1.set id (.loop nf m e p c d .exhausted pd),G6⟩
      |some (.exit j)=>kt (.exit j) ⟨env,o1.set id (.loop nf m e p c d .exhausted pd),G6⟩
   |_=>none
 | .bU v o1 G6=>kt (.bU v) ⟨env,o1,G6⟩
noncomputable def SJ(P:Program)(tab:Nat->FD)(rec:dV)(n:Nat)(g:Operand)(ps:List Nat)(x y:IC)(st:St)(kt:Kt):Option eN:=
 match st.S.ev g with
 | .func (.func f) first cap=>O0 P tab rec f (first++[.jI st.nx]++cap) (st.o.set st.nx (.loop P.funcs.size n ((List.range n).map st.env.get) ps x y .ready none)) (st.nx+1) (aeJ st.nx st.env kt)
 |_=>none
abbrev qs:=(P:Program)->(Nat->FD)->se P->dV->Nat->Bool->Nat->St->Kt->Option eN
noncomputable def roX(kt:Kt):RO->Option eN:=fun r=>match r with| .ok st=>kt .normal st| .bU v st=>kt (.bU v) st
noncomputable def ahY(l:List b8):qs:=fun P tab md rec _ _ _ st kt=>Ca P tab md rec (roX kt) l st
def Az:List Nat->Nat->Nat->Nat
 |[],_,c=>c
 |x::l,k,c=>match Nat.beq x (2^k - 1)with
  |true=>Az l (k+1) c
  |false=>Az l (k+1) (k+1)
def si(pr:List (List Nat)):Nat:=Az (fb pr []) 0 0
noncomputable def ZE(l:List b8)(pr:List (List Nat)):qs:=fun P tab md rec _ _ _ st kt=>
 Nat.fc (si pr) fun m=>match xK P tab md rec pr (l.take m) st.nx st []with
 |some (.fin s1 fp)=>match Pb pr fp with
  |true=>Nat.fc (st.nx+m) fun n=>match Nat.ble m l.length with
   |true=>Ca P tab md rec (roX kt) (l.drop m) ⟨s1.env,s1.o,n⟩
   |false=>none
  |false=>none
 |some (.bU _ _ _)=>match ZD P tab md rec l pr st with
  |some (e,s1)=>kt e s1
  |none=>none
 |none=>none
noncomputable def Hq(rec:dV)(b:Nat)(rd:Bool)(n:Nat)(y:IC)(kt:Kt):Kt:=fun e s1=>match e with| .normal=>rec b rd n y s1 kt|e=>kt e s1
noncomputable def ahZ(x y:IC):qs:=fun _ _ _ rec b rd n st kt=>rec b rd n x st (Hq rec b rd n y kt)
noncomputable def JD(a c:Option eN):Option eN:=
 match a with
 |some (.r x)=>match c with
  |some (.r y)=>match R.same x y with
   |true=>some (.r x)
   |false=>none
  |_=>none
 |_=>none
noncomputable def aeK(c:Operand)(x y:IC):qs:=fun _ _ _ rec b rd n st kt=>match st.S.ev c with
 | .d (.bool true)=>rec b rd n x st kt
 | .d (.bool false)=>rec b rd n y st kt
 | .fl=>JD (rec b rd n x st kt) (rec b rd n y st kt)
 |_=>none
noncomputable def Hr(id:Nat)(kt:Kt):Kt:=fun e s1=>match e with
 | .exit j=>match Nat.beq j id with
   |true=>kt .normal s1
   |false=>kt (.exit j) s1
 |e=>kt e s1
noncomputable def ZF(id:Nat)(x:IC):qs:=fun _ _ _ rec b rd n st kt=>rec b rd n x st (Hr id kt)
noncomputable def aeL(x:IC):qs:=fun _ _ _ rec b rd n st kt=>match Nat.ble b st.nx with
 |true=>rec b rd n x st (Hq rec b rd n (.loop x) kt)
 |false=>none
noncomputable def ZG(e:fW):qs:=fun _ _ _ _ _ _ _ st kt=>kt e st
noncomputable def ah0:qs:=fun _ _ _ _ _ _ _ _ _=>none
noncomputable def ah1(g:Operand)(ps:List Nat)(x y:IC):qs:=fun P tab _ rec _ rd n st kt=>match rd with
 |true=>none
 |false=>SJ P tab rec n g ps x y st kt
noncomputable def Wf(ic:IC):qs:=
 match ic with
 | .skip=>ZG .normal
 | .bA l=>ahY l
 | .dm l pr=>ZE l pr
 | .seq x y=>ahZ x y
 | .cond c x y=>aeK c x y
 | .block id x=>ZF id x
 | .loop x=>aeL x
 | .exit id=>ZG (.exit id)
 | .ret=>ZG .ret
 | .KG g ps x y=>ah1 g ps x y
 | .bad=>ah0
noncomputable def run(P:Program)(tab:Nat->FD)(md:se P)(k:Nat):dV:=
 Nat.rec (motive:=fun _=>dV) (fun _ _ _ _ _ _=>none) (fun _ rec b rd n ic st kt=>Wf ic P tab md rec b rd n st kt) k
theorem Pc{P:Program}{tab:Nat->FD}{md:se P}{k:Nat}:run P tab md (k+1)=fun b rd n ic st kt=>Wf ic P tab md (run P tab md k) b rd n st kt:=rfl
section
variable {P:Program}{tab:Nat->FD}{md:se P}
theorem Wg(bB:P.follows .mixedOrders=true)(c7:∀g,(tab g).Ok P g){rec:dV}(bN:eZ P rec){fr:Nat}{g:Nat}{args:List V}{st:St}{r:DR}(h:hX P tab rec g args st=some r){K:V->List (Nat×aa)->List Nat->Prop}{KX:V->List Nat->List Nat->Prop}(hr:r.to K KX):
 jQ P g args st.S.o st.S.nx fr K KX:=by
 unfold hX at h
 simp only at h
 generalize nP:reach st.o.get 2000 (V.aM args) []=rd at h
 split at h
 ·rename_i hc
  simp only[Bool.and_eq_true,List.all_eq_true]at hc
  obtain⟨C1,uE⟩:=hc
  have a1:∀id∈rd,id<st.nx:=fun id aq=>Nat.le_of_ble_eq_true (C1 id aq).1
  have a2:∀id∈V.aM args,id∈rd:=fun id aq=>by simpa using uE id aq
  have a3:∀id∈rd,∀j∈(st.o.get id).refs,j∈rd:=fun id aq j hj=>by simpa using(C1 id aq).2 j hj
  have a0:rd.all (fun id=>decide (id<st.S.nx))=true:=List.all_eq_true.2 fun id aq=>decide_eq_true (a1 id aq)
  have key:∀ {r:CR} {a:CR},crA r=some (.c a)->r=a:=fun h=>by unfold crA at h;injection h with h;injection h
  split at h
  ·rename_i v o1 G6 hf
   split at h
   ·cases h
   ·rename_i v' tc
    split at h
    ·rename_i rs hrs
     split at h
     ·rename_i ZH
      injection h with h;subst h
      simp only[Bool.and_eq_true,List.all_eq_true]at ZH
      refine⟨rd,_,a0, .inl ⟨rs,zh.jP a1 a2 a3 (fun x hx=>(jB rd x hx).1) (fun x hx j hj=>by simpa using ZH.1 x hx j hj) (oX bB c7 bN hf fun r tH=> ?_),hr⟩⟩
      rw[key tH]
      refine⟨fun id aq=>uU aq,xF v,rs, ?_,hrs,rfl,fun id aq=>by simpa using ZH.2 id aq⟩
      cases v with
      |cc vs=>
       match vs,tc with
       |[],_=>rfl
       |[x],hv=>exact absurd rfl (hv x)
       |_::_::_,_=>rfl
      |_=>rfl
     ·cases h
    ·cases h
  ·rename_i v o1 G6 hf
   split at h
   ·rename_i x hx
    split at h
    ·rename_i ZH
     injection h with h;subst h
     simp only[Bool.and_eq_true,List.all_eq_true]at ZH
     refine⟨rd,fh st.o.get o1.get rd,a0, .inr (.inl ⟨x,zh.jP a1 a2 a3 (fun x hx=>(jB rd x hx).1) (fun x hx j hj=>by simpa using ZH.1 x hx j hj) (oX bB c7 bN hf fun r tH=> ?_),hr⟩)⟩
     rw[key tH]
     exact⟨fun id aq=>uU aq,x,hx,rfl,fun id aq=>by simpa using ZH.2 id aq⟩
    ·cases h
   ·cases h
  ·cases h
 ·cases h
theorem ZI(bB:P.follows .mixedOrders=true)(c7:∀g,(tab g).Ok P g){rec:dV}(bN:eZ P rec){g:Nat}{args:List V}{st:St}{rd:List Nat}{ds:List D}(fL:cF st.o.get args=some ds){r:DR}(h:cDX P tab md rec g args st rd=some r)
 {K:V->List (Nat×aa)->List Nat->Prop} {KX:V->List Nat->List Nat->Prop} (hr:r.to K KX):
 uO P g ds (fun v=>K v (bY st.S.o (V.bC args)) rd) (fun v=>K v [] rd) (fun v=>KX v [] rd):=by
 unfold cDX at h
 simp only[fL]at h
 split at h
 ·split at h
  ·rename_i v o1 G6 LG
   split at h
   ·rename_i hrf
    injection h with h;subst h
    exact .inr (.inr ⟨v,PVt.jP hrf (oX bB c7 bN LG fun r tH=>by unfold crA at tH;injection tH with tH;injection tH with tH;rw[tH];exact rfl),hr⟩)
   ·cases h
  ·cases h
 ·split at h
  ·rename_i rs EG
   have hP:=Cb bB c7 bN EG
   split at h
   ·rename_i hf
    injection h with h;subst h
    exact .inl ⟨rs,hP, .inr ⟨hf,hr⟩⟩
   ·injection h with h;subst h
    exact .inl ⟨rs,hP, .inl hr⟩
  ·rename_i x EG
   have hP:=Cb bB c7 bN EG
   split at h
   ·rename_i hf
    injection h with h;subst h
    exact .inr (.inl ⟨x,hP,hf,hr⟩)
   ·cases h
  ·cases h
theorem JE{t ty:TypeId}{sz:Nat}{es:List D}{r:CR}(h:SG P t r=some (.r (.ret [.sl es, .int .i64 (.ofNat ty), .int .i64 (.ofNat sz)]))):
 r.to (fun v o1 _=>(∃j ep,v= .osl j ep/\o1 j= .arr ep ty sz es)\/(v= .aU/\es=[]/\0<sz)) (fun _ _ _=>False):=by
 unfold SG at h
 split at h
 ·rename_i v o1 n1
  split at h
  ·rename_i j ep
   split at h
   ·rename_i fq ty' pX es' ho
    split at h
    ·rename_i he
     have he:=Nat.eq_of_beq_eq_true he
     subst he
     rw[Ho]at h
     simp only[Option.some.injEq,eN.r.injEq,R.ret.injEq,List.cons.injEq,D.sl.injEq,D.int.injEq,true_and,and_true]at h
     obtain⟨rfl,h2,h3⟩:=h
     have h2:ty'=ty:=Int.ofNat.inj h2
     have h3:pX=sz:=Int.ofNat.inj h3
     subst h2;subst h3
     exact .inl ⟨j,fq,rfl,ho⟩
    ·cases h
   ·cases h
  ·split at h
   ·rename_i e he
    split at h
    ·rename_i hp
     rw[Ho]at h
     simp only[Option.some.injEq,eN.r.injEq,R.ret.injEq,List.cons.injEq,D.sl.injEq,D.int.injEq,true_and,and_true]at h
     obtain⟨rfl,h2,h3⟩:=h
     have h3:P.cellsOf e=sz:=Int.ofNat.inj h3
     subst h3
     exact .inr ⟨rfl,rfl,Nat.blt_eq.mp hp⟩
    ·cases h
   ·cases h
  ·cases h
 ·cases h
theorem SK(bB:P.follows .mixedOrders=true)(c7:∀g,(tab g).Ok P g){rec:dV}(bN:eZ P rec){fr:Nat}{g:Nat}{t:TypeId}{args:List V}{st:St}{r:DR}(h:ZC P tab rec g t args st fr=some r){K:V->List (Nat×aa)->List Nat->Prop}{KX:V->List Nat->List Nat->Prop}(hr:r.to K KX):
 jQ P g args st.S.o st.S.nx fr K KX:=by
 unfold ZC at h
 split at h
 ·rename_i ds fL
  split at h
  ·rename_i es ty sz LG
   injection h with h;subst h
   unfold Ax at fL
   split at fL
   ·rename_i aq
    exact⟨[],_,aJ, .inr (.inr ⟨_,BO.Sz aq fL (BO.OT (oX bB c7 bN LG fun r tH=>JE tH)),hr⟩)⟩
   ·cases fL
  ·cases h
 ·split at h
  ·rename_i ds fL
   split at h
   ·rename_i es ty sz LG
    split at h
    ·rename_i hc
     injection h with h;subst h
     simp only[Bool.and_eq_true]at hc
     refine⟨V.bC args,_, ?_, .inr (.inr ⟨_,BO.Sy fL hc.1 (oX bB c7 bN LG fun r tH=>JE tH),hr⟩)⟩
     exact List.all_eq_true.2 fun id aq=>decide_eq_true (Nat.blt_eq.mp (List.all_eq_true.1 hc.2 id aq))
    ·cases h
   ·cases h
  ·cases h
theorem Cd(bB:P.follows .mixedOrders=true)(c7:∀g,(tab g).Ok P g){rec:dV}(bN:eZ P rec){st:St}{fr:Nat}{o:b8}{r:DR}(h:SH P tab md rec st fr o.op=some r){K:V->List (Nat×aa)->List Nat->Prop}{KX:V->List Nat->List Nat->Prop}(hr:r.to K KX):
 C4 P st.S fr o K KX:=by
 have hs:sDX P st fr o.op=some r->(match gA P st.S fr o.op with|some (v,Δ,_)=>K v Δ (pV st.S o.op)|none=>False):=by
  intro h
  unfold sDX at h
  split at h
  ·rename_i v Δ rd he
   injection h with h;subst h
   simp only[Jv he]
   exact hr
  ·cases h
 unfold SH at h
 unfold C4
 split at h
 ·rename_i c hc
  simp only[hc]
  split at h
  ·rename_i f hf
   simp only[hf]
   split at h
   ·rename_i g first cap hv
    simp only[hv]
    split at h
    ·have hh:=Wg bB c7 bN h hr (fr:=fr)
     split
     ·exact .inr hh
     ·exact hh
    split at h
    ·rename_i r' Yl
     injection h with h;subst h
     cases fL:cF st.S.o (first++List.map st.S.ev c.args.toList++cap)with
     |some ds=>exact .inl (ZI bB c7 bN fL Yl hr)
     |none=>
      have Zz:cF st.o.get (first++List.map st.S.ev c.args.toList++cap)=none:=fL
      unfold cDX at Yl
      simp only[Zz]at Yl
      exact Wg bB c7 bN Yl hr
    ·have hh:=SK bB c7 bN (st:=st) h hr
     split
     ·exact .inr hh
     ·exact hh
   ·cases h
  ·rename_i fI
   rw[<- hc]at h
   have:=hs h
   rw[hc]at this
   split
   ·rename_i f hf;exact absurd hf (fI f)
   ·exact this
 ·rename_i hc
  have:=hs h
  split
  ·rename_i c hh;exact absurd hh (hc c)
  ·exact this
def gdW(s:S)(gd:Option (Nat×Bool))(A B:Prop):Prop:=
 match gd with
 |none=>A
 |some (d,want)=>match s.env d with
  | .d (.bool b)=>if b=want then A else B
  | .cc []=>B
  |_=>False
theorem Ce{st:St}{gd:Option (Nat×Bool)}{t:Bool}(h:gdX st gd=some t){A B:Prop}(hA:t=true->A)(hB:t=false->B):gdW st.S gd A B:=by
 cases gd with
 |none=>simp only[gdX,Option.some.injEq]at h;exact hA h.symm
 |some p=>
  obtain⟨d,want⟩:=p
  have he:st.S.env d=st.env.get d:=rfl
  simp only[gdX]at h
  simp only[gdW,he]
  split at h
  ·rename_i b hb
   injection h with h
   by_cases e:b=want
   ·rw[if_pos e];exact hA (by rw[<- h,e];simp)
   ·rw[if_neg e];exact hB (by rw[<- h];simpa using e)
  ·rename_i hb
   injection h with h
   exact hB h.symm
  ·cases h
theorem SL{P:Program}{KB:List Nat->Fp->Prop}{pr:List (List Nat)}{o:b8}{l:List b8}{fr:Nat}{s:S}{fp:Fp}{bad ws:List Nat}(hb:(pr.getD fp.length []).any (fun j=>bad.contains j)=false)
 (h:gdW s o.gd (C4 P s fr o (fun v Δ rd=>jg P KB pr l (fr+1) ⟨bf s.env o.dst v,put s.o Δ,s.nx⟩ (fp++[(rd,Δ.map (·.1))]) bad (ws++Δ.map (·.1))) (fun _ _ _=>False)) (jg P KB pr l (fr+1) ⟨bf s.env o.dst (.cc []),s.o,s.nx⟩ (fp++[([],[])]) bad ws)):
 jg P KB pr (o::l) fr s fp bad ws:=by
 simp only[jg]
 rw[if_neg (by rw[hb];simp)]
 cases hg:o.gd with
 |none=>rw[hg]at h;exact h
 |some p=>obtain⟨d,want⟩:=p;rw[hg]at h;exact h
theorem SM{P:Program}{K:S->Fp->Prop}{KP:V->List Nat->Fp->Prop}{pr:List (List Nat)}{o:b8}{l:List b8}{fr:Nat}{s:S}{fp:Fp}
 (h:gdW s o.gd (C4 P s fr o (fun v Δ rd=>l7 P K KP pr l (fr+1) ⟨bf s.env o.dst v,put s.o Δ,s.nx⟩ (fp++[(rd,Δ.map (·.1))]))
  (fun v ws rd=>jg P (KP v) pr l (fr+1) ⟨bf s.env o.dst .ag,s.o,s.nx⟩ (fp++[(rd,[])]) [fp.length] (ws++fp.flatMap (·.2)))) (l7 P K KP pr l (fr+1) ⟨bf s.env o.dst (.cc []),s.o,s.nx⟩ (fp++[([],[])]))):
 l7 P K KP pr (o::l) fr s fp:=by
 simp only[l7]
 cases hg:o.gd with
 |none=>rw[hg]at h;exact h
 |some p=>obtain⟨d,want⟩:=p;rw[hg]at h;exact h
theorem sj(bB:P.follows .mixedOrders=true)(c7:∀g,(tab g).Ok P g){rec:dV}(bN:eZ P rec){pr:List (List Nat)}{wl:List Nat}{fp':Fp}{KB:List Nat->Fp->Prop}(hK:KB wl fp'):
 ∀ (l:List b8) (fr:Nat) (st:St) (fp:Fp) (bad ws:List Nat),xJ P tab md rec pr l fr st fp bad ws=some (wl,fp')->jg P KB pr l fr st.S fp bad ws
 |[],fr,st,fp,bad,ws,h=>by
  simp only[xJ,Option.some.injEq,Prod.mk.injEq]at h
  obtain⟨rfl,rfl⟩:=h;exact hK
 |o::l,fr,st,fp,bad,ws,h=>by
  simp only[xJ,kx,oW]at h
  split at h
  ·rename_i hb
   simp only[jg]
   rw[if_pos hb]
   have:=sj bB c7 bN hK l _ _ _ _ _ h
   exact ND
  ·rename_i hb
   refine SL hb ?_
   split at h
   ·rename_i hg
    refine Ce hg (fun _=> ?_) (fun h=>by cases h)
    split at h
    ·rename_i v Δ rd iS
     refine Cd bB c7 bN iS ?_
     have:=sj bB c7 bN hK l _ _ _ _ _ h
     simp only[St.S,kj,kY]at this
     exact this
    ·cases h
   ·rename_i hg
    refine Ce hg (fun h=>by cases h) (fun _=> ?_)
    have:=sj bB c7 bN hK l _ _ _ _ _ h
    exact ND
   ·cases h
def DQ.to (K:S->Fp->Prop)(KP:V->List Nat->Fp->Prop):DQ->Prop
 | .fin st fp=>K st.S fp
 | .bU v wl fp=>KP v wl fp
theorem oZ(bB:P.follows .mixedOrders=true)(c7:∀g,(tab g).Ok P g){rec:dV}(bN:eZ P rec){pr:List (List Nat)}{q:DQ}{K:S->Fp->Prop}{KP:V->List Nat->Fp->Prop}(hq:q.to K KP):
 ∀ (l:List b8) (fr:Nat) (st:St) (fp:Fp),xK P tab md rec pr l fr st fp=some q->l7 P K KP pr l fr st.S fp
 |[],fr,st,fp,h=>by
  simp only[xK,Option.some.injEq]at h
  subst h;exact hq
 |o::l,fr,st,fp,h=>by
  simp only[xK,kx,oW,Nat.dq]at h
  refine SM ?_
  split at h
  ·rename_i hg
   refine Ce hg (fun _=> ?_) (fun h=>by cases h)
   split at h
   ·rename_i v Δ rd iS
    refine Cd bB c7 bN iS ?_
    have:=oZ bB c7 bN hq l _ _ _ h
    simp only[St.S,kj,kY]at this
    exact this
   ·rename_i v ws rd iS
    split at h
    ·rename_i wl fp' hb
     injection h with h;subst h
     refine Cd bB c7 bN iS ?_
     have:=sj bB c7 bN (KB:=KP v) hq l _ _ _ _ _ hb
     exact ND
    ·cases h
   ·cases h
  ·rename_i hg
   refine Ce hg (fun h=>by cases h) (fun _=> ?_)
   have:=oZ bB c7 bN hq l _ _ _ h
   exact ND
  ·cases h
theorem Cf{pr:List (List Nat)}{fp:Fp}(h:Pb pr fp=true):eX pr fp=true:=by
 unfold Pb at h
 split at h
 ·rename_i hq
  unfold quiet at hq
  have hz:∀i,(fp.getD i ([],[])).2=[]:=by
   intro i
   rw[List.getD_eq_getElem?_getD]
   cases hx:fp[i]? with
   |none=>rfl
   |some x=>
    have:=List.all_eq_true.1 hq x (List.mem_of_getElem? hx)
    simp only[Option.getD_some]
    split at this
    ·rename_i e;exact e
    ·cases this
  unfold eX
  simp only[hz,lX,List.all_nil,Bool.and_self,Bool.or_true]
  simp
 ·rw[JC]at h
  unfold eX
  rw[List.all_eq_true]
  intro j hj
  rw[List.all_eq_true]
  intro i hi
  exact EI fp [] h j (Nat.zero_le _) od i (by simpa using hi)
theorem xL:∀ (l:List Nat) (k c:Nat),c<=k->c<=Az l k c/\∀i x,l[i]? =some x->Az l k c<=k+i->x=2^(k+i) - 1
 |[],_,c,_=>⟨Nat.le_refl _,fun i x h=>by simp at h⟩
 |y::l,k,c,hc=>by
  simp only[Az]
  split
  ·rename_i he
   obtain⟨h1,h2⟩:=xL l (k+1) c ae
   refine⟨h1,fun i x hi hle=> ?_⟩
   cases i with
   |zero=>simp at hi;subst hi;simpa using Nat.eq_of_beq_eq_true he
   |succ i=>
    have:=h2 i x (by simpa using hi) ae
    rw[this,show k+(i+1)=k+1+i by omega]
  ·obtain⟨h1,h2⟩:=xL l (k+1) (k+1) (Nat.le_refl _)
   refine⟨ae,fun i x hi hle=> ?_⟩
   cases i with
   |zero=>omega
   |succ i=>
    have:=h2 i x (by simpa using hi) ae
    rw[this,show k+(i+1)=k+1+i by omega]
theorem AA:∀ (pr:List (List Nat)) (acc:List Nat),(fb pr acc).length=acc.length+pr.length
 |[],acc=>by simp[fb]
 |ps::l,acc=>by simp only[fb,AA l,List.length_append,List.length_cons,List.length_nil];omega
theorem Pf(pr:List (List Nat)):BV pr (si pr)=true:=by
 refine List.all_eq_true.2 fun k hk=> ?_
 have hk:k<pr.length:=by simpa using hk
 by_cases h:k<si pr
 ·simp[Nat.blt_eq.mpr h]
 ·have hl:k<(fb pr []).length:=by rw[AA];simpa using hk
  have:=(xL (fb pr []) 0 0 (Nat.le_refl _)).2 k _ (List.getElem?_eq_getElem hl) (by rw[Nat.zero_add];exact Nat.le_of_not_lt h)
  rw[Nat.zero_add]at this
  rw[List.getD_eq_getElem?_getD,List.getElem?_eq_getElem hl,Option.getD_some,this]
  simp
theorem SN(bB:P.follows .mixedOrders=true)(c7:∀g,(tab g).Ok P g){rec:dV}(bN:eZ P rec){l:List b8}{pr:List (List Nat)}{st st':St}{e:fW}(h:ZD P tab md rec l pr st=some (e,st')){Q:fW->S->Prop}(hQ:Q e st'.S):
 l7 P (Hc pr (st.S.nx+l.length) Q) (Ed pr l st.S Q) pr l st.S.nx st.S []:=by
 unfold ZD at h
 split at h
 ·rename_i s1 fp hd
  split at h
  ·rename_i hf
   simp only[Nat.dq,Option.some.injEq,Prod.mk.injEq]at h
   obtain⟨rfl,rfl⟩:=h
   exact oZ bB c7 bN (q:= .fin s1 fp) (K:=Hc pr (st.S.nx+l.length) Q) (KP:=Ed pr l st.S Q) (show Hc pr (st.S.nx+l.length) Q s1.S fp from⟨Cf hf,hQ⟩) l _ _ _ hd
  ·cases h
 ·rename_i v wl fp hd
  split at h
  ·rename_i hf
   simp only[Option.some.injEq,Prod.mk.injEq]at h
   obtain⟨rfl,rfl⟩:=h
   exact oZ bB c7 bN (q:= .bU v wl fp) (K:=Hc pr (st.S.nx+l.length) Q) (KP:=Ed pr l st.S Q) (show Ed pr l st.S Q v wl fp from⟨Cf hf,hQ⟩) l _ _ _ hd
  ·cases h
 ·cases h
theorem SO(bB:P.follows .mixedOrders=true)(c7:∀g,(tab g).Ok P g){rec:dV}(bN:eZ P rec){n:Nat}{g:Operand}{ps:List Nat}{x y:IC}{st:St}{kt:Kt}{a:eN}(h:SJ P tab rec n g ps x y st kt=some a){Q:fW->S->Prop}(hQ:∀e st',kt e st'=some a->Q e st'.S):
 DW P n (st.S.ev g) ps x y Q st.S:=by
 unfold SJ at h
 refine⟨(List.range n).map st.env.get,fun i=> ?_, ?_⟩
 ·unfold aT
  simp only[List.getD_eq_getElem?_getD,List.getElem?_map]
  by_cases hi:i<n
  ·right;rw[List.getElem?_range hi];rfl
  ·left;rw[List.getElem?_eq_none (by simp;omega)];rfl
 ·split at h
  ·rename_i f first cap hv
   simp only[hv]
   refine .inl ?_
   have key:=fun {K X} hr=>oX (K:=K) (X:=X) bB c7 bN h hr
   simp only[Tr.iL]at key
   refine key fun r hr=> ?_
   unfold aeJ at hr
   cases r with
   |ret v o1 G6=>
    simp only at hr
    split at hr
    ·rename_i nf m e p c d lst pd ho
     have hl:lst≠ .busy:=by
      intro hb;subst hb;cases hr
     refine⟨nf,m,e,p,c,d,lst,pd,ho,hl, ?_⟩
     split at hr
     ·cases hr
     ·split at hr<;>(have h3:=hQ _ _ hr;simp only[qI];simp only[St.S,Tr.iL]at h3;exact h3)
    ·cases hr
   |bU v o1 G6=>exact hQ _ _ hr
  ·cases h
theorem aZ.same {b:Nat}{s:S}(h:b<=s.nx):aZ b s s:=fun _ φ _ _ h1 h2=>⟨φ,h1,h2,fun _ h=>h,h,fun _ _ hr=>⟨hr,rfl⟩,fun _ e' _ he=>⟨e',he,Nat.le_refl _,fun _=>rfl⟩⟩
theorem Ph{x y:Option eN}{a:eN}(h:JD x y=some a):x=some a/\y=some a:=by
 unfold JD at h
 split at h
 ·rename_i r
  split at h
  ·rename_i r'
   split at h
   ·rename_i hs
    injection h with h;subst h
    rw[R.eH hs]
    exact⟨rfl,rfl⟩
   ·cases h
  ·cases h
 ·cases h
theorem ZJ(bB:P.follows .mixedOrders=true)(c7:∀g,(tab g).Ok P g):∀k,∀j,j<=k->eZ P (run P tab md j):=by
 intro k
 induction k with
 |zero=>intro j hj b rd n ic st kt a h;obtain rfl:j=0:=ae
        cases h
 |succ k ih=>
  intro j hj b rd n ic st kt a h Q hQ
  cases j with
  |zero=>cases h
  |succ j=>
   have bN:eZ P (run P tab md j):=ih j ae
   rw[Pc]at h
   cases ic with
   |skip=>exact hQ _ _ h
   |exit id=>exact hQ _ _ h
   |ret=>exact hQ _ _ h
   |bad=>cases h
   |bA l=>
    have h:Ca P tab md (run P tab md j) (roX kt) l st=some a:=h
    exact vW bB c7 bN (K:=Q .normal) (X:=fun v s=>Q (.bU v) s) (fun r hr=>by
     cases r with
     |ok ZA=>exact hQ .normal _ hr
     |bU v ZA=>exact hQ (.bU v) _ hr) l _ h
   |dm l pr=>
    have h:ZE l pr P tab md (run P tab md j) b rd n st kt=some a:=h
    unfold ZE at h
    rw[Nat.dq]at h
    split at h
    ·rename_i s1 fp hd
     split at h
     ·rename_i hf
      rw[Nat.dq]at h
      split at h
      ·rename_i IU
       refine .inr ⟨si pr,Nat.le_of_ble_eq_true IU,Pf pr, ?_⟩
       refine oZ bB c7 bN (q:= .fin s1 fp) (K:=fun s' fp=>eX pr fp=true/\qL P (fun v s=>Q (.bU v) s) (Q .normal) (l.drop (si pr)) ⟨s'.env,s'.o,st.S.nx+si pr⟩) (KP:=fun _ _ _=>False) (show _/\_ from⟨Cf hf, ?_⟩) (l.take (si pr)) _ _ _ hd
       exact vW bB c7 bN (K:=Q .normal) (X:=fun v s=>Q (.bU v) s) (fun r hr=>by
        cases r with
        |ok ZA=>exact hQ .normal _ hr
        |bU v ZA=>exact hQ (.bU v) _ hr) (l.drop (si pr)) ⟨s1.env,s1.o,st.nx+si pr⟩ h
      ·cases h
     ·cases h
    ·split at h
     ·rename_i e s1 h1
      exact .inl (SN bB c7 bN h1 (hQ _ _ h))
     ·cases h
    ·cases h
   |seq x y=>
    have h:run P tab md j b rd n x st (Hq (run P tab md j) b rd n y kt)=some a:=h
    simp only[vQ]
    refine bN _ _ _ _ _ _ _ h _ fun e s1 he=> ?_
    unfold Hq at he
    cases e with
    |normal=>exact bN _ _ _ _ _ _ _ he _ hQ
    |_=>exact hQ _ _ he
   |cond c x y=>
    have h:(match st.S.ev c with| .d (.bool true)=>run P tab md j b rd n x st kt| .d (.bool false)=>run P tab md j b rd n y st kt| .fl=>JD (run P tab md j b rd n x st kt) (run P tab md j b rd n y st kt)|_=>none)=some a:=h
    simp only[vQ]
    split at h
    ·rename_i hv
     simp only[hv]
     exact(xf _ _).mpr (bN _ _ _ _ _ _ _ h _ hQ)
    ·rename_i hv
     simp only[hv]
     exact(uK _ _).mpr (bN _ _ _ _ _ _ _ h _ hQ)
    ·rename_i hv
     simp only[hv]
     obtain⟨h1,h2⟩:=Ph h
     exact⟨bN _ _ _ _ _ _ _ h1 _ hQ,bN _ _ _ _ _ _ _ h2 _ hQ⟩
    ·cases h
   |block id x=>
    have h:run P tab md j b rd n x st (Hr id kt)=some a:=h
    simp only[vQ]
    refine bN _ _ _ _ _ _ _ h _ fun e s1 he=> ?_
    unfold Hr at he
    cases e with
    |exit j'=>
     simp only at he
     split at he
     ·rename_i hb
      simp only[fZ,Nat.eq_of_beq_eq_true hb,if_true];exact hQ _ _ he
     ·rename_i hb
      simp only[fZ,Nat.ne_of_beq_eq_false hb,if_false];exact hQ _ _ he
    |_=>exact hQ _ _ he
   |loop x=>
    have unf:∀m Wh,run P tab md (m+1) b rd n (.loop x) Wh kt=some a->b<=Wh.nx/\run P tab md m b rd n x Wh (Hq (run P tab md m) b rd n (.loop x) kt)=some a:=by
     intro m Wh h
     have h:(match Nat.ble b Wh.nx with|true=>run P tab md m b rd n x Wh (Hq (run P tab md m) b rd n (.loop x) kt)|false=>none)=some a:=h
     split at h
     ·rename_i hb;exact⟨Nat.le_of_ble_eq_true hb,h⟩
     ·cases h
    have h:run P tab md (j+1) b rd n (.loop x) st kt=some a:=h
    refine⟨fun m s=>m<=k+1/\∃st,s=st.S/\run P tab md m b rd n (.loop x) st kt=some a,⟨j+1,st.S,aZ.same (unf j st h).1,hj,st,rfl,h⟩, ?_⟩
    rintro m s0 ⟨hm,Wh,rfl,h0⟩
    cases m with
    |zero=>cases h0
    |succ m=>
     have aeM:eZ P (run P tab md m):=ih m ae
     refine aeM _ _ _ _ _ _ _ (unf m Wh h0).2 _ fun e s1 he=> ?_
     unfold Hq at he
     cases e with
     |normal=>
      refine⟨m,s1.S,Nat.lt_succ_self _,aZ.same ?_,ae,s1,rfl,he⟩
      cases m with
      |zero=>cases he
      |succ m=>exact(unf m s1 he).1
     |_=>exact hQ _ _ he
   |KG g ps x y=>
    cases rd with
    |true=>
     have h:(none:Option eN)=some a:=h
     cases h
    |false=>
     have h:SJ P tab (run P tab md j) n g ps x y st kt=some a:=h
     exact⟨rfl,_, .inl rfl,SO bB c7 bN h hQ⟩
noncomputable def p9(P:Program)(tab:Nat->FD)(md:se P)(k:Nat)(g:Nat)(ds:List D):Option R:=
 match O0 P tab (run P tab md k) g (ds.map .d) (.e fun _=> .no) 0 ED with
 |some (.r x)=>some x
 |_=>none
theorem aW.iM (bB:P.follows .mixedOrders=true)(c7:∀g,(tab g).Ok P g){k g:Nat}{ds:List D}{out:R}(h:p9 P tab md k g ds=some out):aW P g ds out:=by
 unfold p9 at h
 split at h
 ·rename_i x hr;injection h with h;subst h;exact EE bB c7 (ZJ bB c7 k k (Nat.le_refl _)) hr
 ·cases h
end
end
def Tr.JF {α:Type}(p:Nat->α->Prop):Tr α->(Nat->Nat)->Prop
 | .e g,f=>∀i,p (f i) (g i)
 | .n x l r,f=>p (f 0) x/\JF p l (fun i=>f (2*i+1))/\JF p r (fun i=>f (2*i+2))
theorem Tr.Cg {α:Type}{p:Nat->α->Prop}:∀ {f:Nat->Nat} (t:Tr α),t.JF p f->∀k,p (f k) (t.get k)
 |f, .e g,h,k=>h k
 |f, .n x l r,h,k=>by
  obtain⟨h1,h2,h3⟩:=h
  rw[Tr.xB]
  split
  ·rename_i e;subst e;exact h1
  ·split
   ·have:=Tr.Cg l h2 (k/2)
    rwa [show 2*(k/2)+1=k by omega]at this
   ·have:=Tr.Cg r h3 (k/2 - 1)
    rwa [show 2*(k/2 - 1)+2=k by omega]at this
end Go.Proofs.YtnkamdiiakdkgaaGreat
