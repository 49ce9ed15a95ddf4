/-
  A PART OF THE PROOF. Conditions: none.
-/
import Derived.Test.YtpkobkdgcanmjaaGreatLv9
set_option linter.unusedSimpArgs false
set_option linter.unusedVariables false
namespace Go.Proofs.YtpkobkdgcanmjaaGreat
inductive Tr (α:Type) where
 |e (f:Nat->α)
 |n (x:α) (l r:Tr α)
noncomputable def Tr.get {α:Type}(t:Tr α):Nat->α:=
 Tr.rec (motive:=fun _=>Nat->α) (fun f=>f) (fun x _ _ l r k=>Bool.rec (Bool.rec (r (Nat.sub (Nat.div k 2) 1)) (l (Nat.div k 2)) (Nat.beq (Nat.mod k 2) 1)) x (Nat.beq k 0)) t
theorem Tr.wQ {α:Type}(f:Nat->α):(Tr.e f).get=f:=rfl
noncomputable def Tr.px {α:Type}(x:α):Nat->Tr α->Nat->Tr α
 |0,t,k=> .e (aQ t.get k x)
 |d+1, .e f,k=>match Nat.beq k 0 with
  |true=> .n x (.e fun i=>f (2*i+1)) (.e fun i=>f (2*i+2))
  |false=>match Nat.beq (k%2) 1 with
   |true=> .n (f 0) (Tr.px x d (.e fun i=>f (2*i+1)) (k/2)) (.e fun i=>f (2*i+2))
   |false=> .n (f 0) (.e fun i=>f (2*i+1)) (Tr.px x d (.e fun i=>f (2*i+2)) (k/2 - 1))
 |d+1, .n y l r,k=>match Nat.beq k 0 with
  |true=> .n x l r
  |false=>match Nat.beq (k%2) 1 with
   |true=> .n y (Tr.px x d l (k/2)) r
   |false=> .n y l (Tr.px x d r (k/2 - 1))
noncomputable def Tr.set {α:Type}(t:Tr α)(k:Nat)(x:α):Tr α:=Tr.px x 24 t k
theorem Tr.py {α:Type}{x:α}{l r:Tr α}{k:Nat}:(Tr.n x l r).get k=if k=0 then x else if k%2=1 then l.get (k/2)else r.get (k/2 - 1):=by
 show @Bool.rec (fun _=>α) (@Bool.rec (fun _=>α) (r.get (k/2 - 1)) (l.get (k/2)) (Nat.beq (k%2) 1)) x (Nat.beq k 0)=_
 by_cases h:k=0
 ·subst h;rfl
 ·have:Nat.beq k 0=false:=by cases k with|zero=>exact absurd rfl h|succ k=>rfl
  simp only[this,h,if_false]
  by_cases h2:k%2=1
  ·simp[h2]
  ·have:Nat.beq (k%2) 1=false:=by
    cases hb:Nat.beq (k%2) 1 with
    |false=>rfl
    |true=>exact absurd (Nat.eq_of_beq_eq_true hb) h2
   simp[h2,this]
theorem Tr.jQ {α:Type}(x:α):∀ (d:Nat) (t:Tr α) (k:Nat),(Tr.px x d t k).get=aQ t.get k x
 |0,t,k=>rfl
 |d+1, .e f,k=>by
  funext i
  simp only[Tr.px]
  have hb:∀a b:Nat,Nat.beq a b=decide (a=b):=fun a b=>by
   cases h:Nat.beq a b with
   |true=>simp[Nat.eq_of_beq_eq_true h]
   |false=>simp[Nat.ne_of_beq_eq_false h]
  rw[hb,hb]
  by_cases h:k=0
  ·subst h
   simp only[decide_true,Tr.py,aE]
   by_cases hi:i=0
   ·simp[hi]
   ·simp only[hi,if_false]
    by_cases h2:i%2=1
    ·simp only[h2,if_true,Tr.wQ];congr 1;omega
    ·simp only[h2,if_false,Tr.wQ];congr 1;omega
  ·simp only[h,decide_false]
   by_cases hk:k%2=1
   ·simp only[hk,decide_true,Tr.py,Tr.jQ x d,aE,Tr.wQ]
    by_cases hi:i=0
    ·subst hi;simp[Ne.symm h]
    ·simp only[hi,if_false]
     by_cases h2:i%2=1
     ·simp only[h2,if_true]
      have e1:2*(i/2)+1=i:=by omega
      rw[e1]
      by_cases e:i=k
      ·simp[e]
      ·rw[if_neg e,if_neg (by omega)]
     ·simp only[h2,if_false]
      rw[if_neg (by intro e;subst e;exact h2 hk)]
      congr 1;omega
   ·simp only[hk,decide_false,Tr.py,Tr.jQ x d,aE,Tr.wQ]
    by_cases hi:i=0
    ·subst hi;simp[Ne.symm h]
    ·simp only[hi,if_false]
     by_cases h2:i%2=1
     ·simp only[h2,if_true]
      rw[if_neg (by intro e;subst e;exact hk h2)]
      congr 1;omega
     ·simp only[h2,if_false]
      have e1:2*(i/2 - 1)+2=i:=by omega
      rw[e1]
      by_cases e:i=k
      ·simp[e]
      ·rw[if_neg e,if_neg (by omega)]
 |d+1, .n y l r,k=>by
  funext i
  simp only[Tr.px]
  have hb:∀a b:Nat,Nat.beq a b=decide (a=b):=fun a b=>by
   cases h:Nat.beq a b with
   |true=>simp[Nat.eq_of_beq_eq_true h]
   |false=>simp[Nat.ne_of_beq_eq_false h]
  rw[hb,hb]
  by_cases h:k=0
  ·subst h
   simp only[decide_true,Tr.py,aE]
   by_cases hi:i=0
   ·simp[hi]
   ·simp[hi]
  ·simp only[h,decide_false]
   by_cases hk:k%2=1
   ·simp only[hk,decide_true,Tr.py,Tr.jQ x d,aE]
    by_cases hi:i=0
    ·subst hi;simp[Ne.symm h]
    ·simp only[hi,if_false]
     by_cases h2:i%2=1
     ·simp only[h2,if_true]
      by_cases e:i=k
      ·simp[e]
      ·rw[if_neg e,if_neg (by omega)]
     ·simp only[h2,if_false]
      rw[if_neg (by intro e;subst e;exact h2 hk)]
   ·simp only[hk,decide_false,Tr.py,Tr.jQ x d,aE]
    by_cases hi:i=0
    ·subst hi;simp[Ne.symm h]
    ·simp only[hi,if_false]
     by_cases h2:i%2=1
     ·simp only[h2,if_true]
      rw[if_neg (by intro e;subst e;exact hk h2)]
     ·simp only[h2,if_false]
      by_cases e:i=k
      ·simp[e]
      ·rw[if_neg e,if_neg (by omega)]
theorem Tr.fJ {α:Type}(t:Tr α)(k:Nat)(x:α):(t.set k x).get=aQ t.get k x:=Tr.jQ x 24 t k
noncomputable def Nat.fc {β:Type}(n:Nat)(c:Nat->β):β:=Nat.rec (motive:=fun _=>β) (c 0) (fun m _=>c (Nat.succ m)) n
theorem Nat.cp {β:Type}(n:Nat)(c:Nat->β):Nat.fc n c=c n:=by cases n<;>rfl
noncomputable def Int.fc {β:Type}(n:Int)(c:Int->β):β:=Int.rec (motive:=fun _=>β) (fun m=>Nat.fc m fun m=>c (.ofNat m)) (fun m=>Nat.fc m fun m=>c (.negSucc m)) n
theorem Int.cp {β:Type}(n:Int)(c:Int->β):Int.fc n c=c n:=by cases n<;>simp only[Int.fc,Nat.cp]
mutual
noncomputable def D.fc {β:Type}:D->(D->β)->β
 | .int k n,c=>Int.fc n fun n=>c (.int k n)
 | .bool b,c=>match b with|true=>c (.bool true)|false=>c (.bool false)
 | .agg l,c=>D.pz l fun l=>c (.agg l)
 | .sl l,c=>D.pz l fun l=>c (.sl l)
 | .iface t x,c=>D.fc x fun x=>c (.iface t x)
 | .str s,c=>c (.str s)
 | .dI,c=>c .dI
 | .gO,c=>c .gO
 | .aF,c=>c .aF
 | .dr,c=>c .dr
 | .mp ks vs,c=>D.pz ks fun ks=>D.pz vs fun vs=>c (.mp ks vs)
noncomputable def D.pz {β:Type}:List D->(List D->β)->β
 |[],c=>c []
 |x::xs,c=>D.fc x fun x=>D.pz xs fun xs=>c (x::xs)
end
mutual
theorem D.cp {β:Type}:∀ (x:D) (c:D->β),D.fc x c=c x
 | .int k n,c=>by simp only[D.fc,Int.cp]
 | .bool b,c=>by cases b<;>rfl
 | .agg l,c=>by simp only[D.fc,D.dV l]
 | .sl l,c=>by simp only[D.fc,D.dV l]
 | .iface t x,c=>by simp only[D.fc,D.cp x]
 | .mp ks vs,c=>by simp only[D.fc,D.dV ks,D.dV vs]
 | .str _,_| .dI,_| .gO,_| .aF,_| .dr,_=>by simp only[D.fc]
theorem D.dV {β:Type}:∀ (x:List D) (c:List D->β),D.pz x c=c x
 |[],c=>by simp only[D.pz]
 |x::xs,c=>by simp only[D.pz,D.cp x,D.dV xs]
end
mutual
noncomputable def V.fc {β:Type}:V->(V->β)->β
 | .d x,c=>D.fc x fun x=>c (.d x)
 | .agg l,c=>V.pz l fun l=>c (.agg l)
 | .bQ l,c=>V.pz l fun l=>c (.bQ l)
 | .ptr i o,c=>Nat.fc i fun i=>Nat.fc o fun o=>c (.ptr i o)
 | .osl i o,c=>Nat.fc i fun i=>Nat.fc o fun o=>c (.osl i o)
 | .pe a b i j k,c=>Nat.fc a fun a=>Nat.fc b fun b=>Nat.fc i fun i=>Nat.fc j fun j=>Nat.fc k fun k=>c (.pe a b i j k)
 | .pp l o,c=>D.pz l fun l=>Nat.fc o fun o=>c (.pp l o)
 | .func f a b,c=>V.pz a fun a=>V.pz b fun b=>c (.func f a b)
 | .iface t x,c=>V.fc x fun x=>c (.iface t x)
 | .kQ l,c=>D.pz l fun l=>c (.kQ l)
 | .oo i j k,c=>Nat.fc i fun i=>Nat.fc j fun j=>Nat.fc k fun k=>c (.oo i j k)
 | .mp i,c=>Nat.fc i fun i=>c (.mp i)
 | .j7 i,c=>Nat.fc i fun i=>c (.j7 i)
 | .aM,c=>c .aM
 | .ak,c=>c .ak
 | .dB,c=>c .dB
noncomputable def V.pz {β:Type}:List V->(List V->β)->β
 |[],c=>c []
 |x::xs,c=>V.fc x fun x=>V.pz xs fun xs=>c (x::xs)
end
mutual
theorem V.cp {β:Type}:∀ (x:V) (c:V->β),V.fc x c=c x
 | .d x,c=>by simp only[V.fc,D.cp]
 | .agg l,c=>by simp only[V.fc,V.dV l]
 | .bQ l,c=>by simp only[V.fc,V.dV l]
 | .pp l o,c=>by simp only[V.fc,D.dV,Nat.cp]
 | .func f a b,c=>by simp only[V.fc,V.dV a,V.dV b]
 | .iface t x,c=>by simp only[V.fc,V.cp x]
 | .kQ l,c=>by simp only[V.fc,D.dV]
 | .ptr _ _,_| .osl _ _,_| .pe _ _ _ _ _,_| .oo _ _ _,_| .mp _,_| .j7 _,_| .aM,_| .ak,_| .dB,_=>by simp only[V.fc,Nat.cp]
theorem V.dV {β:Type}:∀ (x:List V) (c:List V->β),V.pz x c=c x
 |[],c=>by simp only[V.pz]
 |x::xs,c=>by simp only[V.pz,V.cp x,V.dV xs]
end
section
variable {β:Type}
noncomputable def Ia(k:IntKind)(n:Int)(c:V->β):β:=Int.fc n fun n=>c (.d (.int k n))
noncomputable def Ib(b:Bool)(c:V->β):β:= @Bool.rec (fun _=>β) (c (.d (.bool false))) (c (.d (.bool true))) b
noncomputable def EO(x:D)(c:V->β):β:=D.fc x fun x=>c (.d x)
noncomputable def vD(x:D):(V->β)->β:=match x with| .int k n=>Ia k n| .bool b=>Ib b|x=>EO x
noncomputable def Ic(i o:Nat)(c:V->β):β:=Nat.fc i fun i=>Nat.fc o fun o=>c (.ptr i o)
noncomputable def Ie(i o:Nat)(c:V->β):β:=Nat.fc i fun i=>Nat.fc o fun o=>c (.osl i o)
noncomputable def Rf(a b i j k:Nat)(c:V->β):β:=Nat.fc a fun a=>Nat.fc b fun b=>Nat.fc i fun i=>Nat.fc j fun j=>Nat.fc k fun k=>c (.pe a b i j k)
noncomputable def V.Gp (v:V):(V->β)->β:=match v with| .d x=>vD x| .ptr i o=>Ic i o| .osl i o=>Ie i o| .pe a b i j k=>Rf a b i j k|v=>V.fc v
theorem V.EP (v:V)(c:V->β):V.Gp v c=c v:=by
 cases v
 case d x=>
  cases x
  case int k n=>simp only[V.Gp,vD,Ia,Int.cp]
  case bool b=>cases b<;>rfl
  all_goals exact D.cp _ _
 case ptr i o=>simp only[V.Gp,Ic,Nat.cp]
 case osl i o=>simp only[V.Gp,Ie,Nat.cp]
 case pe a b i j k=>simp only[V.Gp,Rf,Nat.cp]
 all_goals exact V.cp _ _
end
noncomputable def Gq{β:Type}:List (D×D)->(List (D×D)->β)->β
 |[],c=>c []
 |(a,b)::l,c=>D.fc a fun a=>D.fc b fun b=>Gq l fun l=>c ((a,b)::l)
theorem z7{β:Type}:∀ (x:List (D×D)) (c:List (D×D)->β),Gq x c=c x
 |[],c=>rfl
 |(a,b)::l,c=>by simp only[Gq,D.cp,z7 l]
noncomputable def aa.fc {β:Type}(x:aa)(c:aa->β):β:=
 match x with
 | .row cs=>V.pz cs fun cs=>c (.row cs)
 | .arr e t s es=>Nat.fc e fun e=>Nat.fc s fun s=>D.pz es fun es=>c (.arr e t s es)
 | .lG e es=>Nat.fc e fun e=>D.pz es fun es=>c (.lG e es)
 | .map kt vt l=>Gq l fun l=>c (.map kt vt l)
 | .ef l=>Gq l fun l=>c (.ef l)
 | .mJ l last=>Gq l fun l=>c (.mJ l last)
 | .oq l pos=>Nat.fc pos fun pos=>c (.oq l pos)
 |x=>c x
theorem aa.cp {β:Type}(x:aa)(c:aa->β):aa.fc x c=c x:=by cases x<;>simp only[aa.fc,V.dV,D.dV,Nat.cp,z7]
noncomputable def Tr.qS {α β:Type}(x:α)(d:Nat):Tr α->Nat->(Tr α->β)->β:=
 Nat.rec (motive:=fun _=>Tr α->Nat->(Tr α->β)->β) (fun t k c=>c (.e (aQ t.get k x)))
  (fun _ ih t k c=>Tr.rec (motive:=fun _=>β) (fun f=>
   Bool.rec (Bool.rec (ih (.e fun i=>f (2*i+2)) (Nat.sub (Nat.div k 2) 1) fun r=>c (.n (f 0) (.e fun i=>f (2*i+1)) r)) (ih (.e fun i=>f (2*i+1)) (Nat.div k 2) fun l=>c (.n (f 0) l (.e fun i=>f (2*i+2)))) (Nat.beq (Nat.mod k 2) 1))
    (c (.n x (.e fun i=>f (2*i+1)) (.e fun i=>f (2*i+2)))) (Nat.beq k 0))
   (fun y l r _ _=>Bool.rec (Bool.rec (ih r (Nat.sub (Nat.div k 2) 1) fun r=>c (.n y l r)) (ih l (Nat.div k 2) fun l=>c (.n y l r)) (Nat.beq (Nat.mod k 2) 1)) (c (.n x l r)) (Nat.beq k 0)) t) d
theorem Tr.pA {α β:Type}(x:α):∀ (d:Nat) (t:Tr α) (k:Nat) (c:Tr α->β),Tr.qS x d t k c=c (Tr.px x d t k)
 |0,t,k,c=>rfl
 |d+1, .e f,k,c=>by
  show @Bool.rec (fun _=>β) (@Bool.rec (fun _=>β) (Tr.qS x d (.e fun i=>f (2*i+2)) (k/2 - 1) fun r=>c (.n (f 0) (.e fun i=>f (2*i+1)) r)) (Tr.qS x d (.e fun i=>f (2*i+1)) (k/2) fun l=>c (.n (f 0) l (.e fun i=>f (2*i+2)))) (Nat.beq (k%2) 1)) (c (.n x (.e fun i=>f (2*i+1)) (.e fun i=>f (2*i+2)))) (Nat.beq k 0)=_
  simp only[Tr.px,Tr.pA x d]
  cases Nat.beq k 0
  ·cases Nat.beq (k%2) 1<;>rfl
  ·rfl
 |d+1, .n y l r,k,c=>by
  show @Bool.rec (fun _=>β) (@Bool.rec (fun _=>β) (Tr.qS x d r (k/2 - 1) fun r=>c (.n y l r)) (Tr.qS x d l (k/2) fun l=>c (.n y l r)) (Nat.beq (k%2) 1)) (c (.n x l r)) (Nat.beq k 0)=_
  simp only[Tr.px,Tr.pA x d]
  cases Nat.beq k 0
  ·cases Nat.beq (k%2) 1<;>rfl
  ·rfl
noncomputable def Tr.ER {α β:Type}(t:Tr α)(k:Nat)(x:α)(c:Tr α->β):β:=Tr.qS x 24 t k c
theorem Tr.wR {α β:Type}(t:Tr α)(k:Nat)(x:α)(c:Tr α->β):t.ER k x c=c (t.set k x):=Tr.pA x 24 t k c
structure St where
 env:Tr V
 o:Tr aa
 nx:Nat
noncomputable def St.S (st:St):S:=⟨st.env.get,st.o.get,st.nx⟩
noncomputable def ym(o:Tr aa)(Δ:List (Nat×aa)):Tr aa:=Δ.foldl (fun f x=>f.set x.1 x.2) o
noncomputable def nD(env:Tr V)(dst:Option Tmp)(v:V):Tr V:=match dst with|some d=>env.set d v|none=>env
noncomputable def pB{β:Type}(o:Tr aa):List (Nat×aa)->(Tr aa->β)->β
 |[],c=>c o
 |(i,x)::Δ,c=>aa.fc x fun x=>o.ER i x fun o=>pB o Δ c
theorem jR{β:Type}:∀ (Δ:List (Nat×aa)) (o:Tr aa) (c:Tr aa->β),pB o Δ c=c (ym o Δ)
 |[],o,c=>rfl
 |(i,x)::Δ,o,c=>by simp only[pB,aa.cp,Tr.wR,jR Δ];rfl
noncomputable def jc{β:Type}(env:Tr V)(dst:Option Tmp)(v:V)(c:Tr V->β):β:=match dst with|some d=>V.Gp v fun v=>env.ER d v c|none=>c env
theorem fR{β:Type}(env:Tr V)(dst:Option Tmp)(v:V)(c:Tr V->β):jc env dst v c=c (nD env dst v):=by
 cases dst<;>simp only[jc,nD,V.EP,Tr.wR]
theorem gw:∀ (Δ:List (Nat×aa)) (o:Tr aa),(ym o Δ).get=put o.get Δ
 |[],_=>rfl
 |x::Δ,o=>by
  simp only[ym,put,List.foldl_cons]
  have:=gw Δ (o.set x.1 x.2)
  simp only[ym,put]at this
  rw[this,Tr.fJ]
theorem dq(env:Tr V)(dst:Option Tmp)(v:V):(nD env dst v).get=aO env.get dst v:=by
 cases dst<;>simp[nD,aO,Tr.fJ]
section ES
def Dw(x:Operand)(_:Program)(s:S)(_:Nat):Option eQ:=one (s.ev x)
def Ig(c a b:Operand)(_:Program)(s:S)(_:Nat):Option eQ:=iZ (l9 (s.ev c) (s.ev a) (s.ev b))
def ET(t:TypeId)(parts:Array (Nat×Operand))(P:Program)(s:S)(_:Nat):Option eQ:=iZ (rM P t (parts.toList.map fun p=>(p.1,s.ev p.2)))
def um(t:TypeId)(len:Nat)(parts:Array (Nat×Operand))(P:Program)(s:S)(fr:Nat):Option eQ:=eA P s.o fr t len (parts.toList.map fun p=>(p.1,s.ev p.2))
def Ih(t:TypeId)(x:Operand)(P:Program)(s:S)(_:Nat):Option eQ:=jG P s.o t (s.ev x)
def EU(t:TypeId)(x v:Operand)(P:Program)(s:S)(_:Nat):Option eQ:=mX P s.o t (s.ev x) (s.ev v)
def OR(x:Operand)(_:Program)(s:S)(_:Nat):Option eQ:=iZ (fM s.o (s.ev x))
noncomputable def Ii(op:BinOp):IntKind->Int->Int->Option V:=
 match op with
 | .add=>fun k a b=>some (.d (.int k (k.wrap (Int.add a b))))
 | .sub=>fun k a b=>some (.d (.int k (k.wrap (Int.sub a b))))
 | .mul=>fun k a b=>some (.d (.int k (k.wrap (Int.mul a b))))
 |op=>tH op
theorem BW(op:BinOp):Ii op=tH op:=by cases op<;>rfl
def asInt(x:V):Option (IntKind×Int):=match x with| .d (.int k a)=>some (k,a)|_=>none
def z8(op:BinOp)(t:TypeId)(c:Bool)(x y:V)(P:Program)(o:Nat->aa):Option eQ:=cz P o op t c x y
noncomputable def Ij(op:BinOp)(t:TypeId)(x y:Operand)(P:Program)(s:S)(_:Nat):Option eQ:=
 match asInt (s.ev x)with
 |some (k,a)=>match asInt (s.ev y)with
  |some (k',b)=>if k=k' then match Ii op k a b with
   |some v=>some (v,[],[])
   |none=>z8 op t (isConst x||isConst y) (s.ev x) (s.ev y) P s.o
   else none
  |none=>z8 op t (isConst x||isConst y) (s.ev x) (s.ev y) P s.o
 |none=>z8 op t (isConst x||isConst y) (s.ev x) (s.ev y) P s.o
theorem uo{x:V}{k:IntKind}{a:Int}(h:asInt x=some (k,a)):x= .d (.int k a):=by
 unfold asInt at h;split at h
 ·injection h with h;cases h;rfl
 ·cases h
def vP(t:TypeId)(x:Operand)(f:Nat)(P:Program)(s:S)(_:Nat):Option eQ:=iZ (eZ P s.o t (s.ev x) f)
def vQ(t:TypeId)(x i:Operand)(P:Program)(s:S)(_:Nat):Option eQ:=eY P s.o t (s.ev x) (s.ev i)
def EV(op:Op)(P:Program)(s:S)(fr:Nat):Option eQ:=eG P s fr op
noncomputable def BX(op:Op):Program->S->Nat->Option eQ:=
 match op with
 | .move x=>Dw x
 | .assign x=>Dw x
 | .pick c a b=>Ig c a b
 | .build t parts=>ET t parts
 | .buildSlice t len parts=>um t len parts
 | .load t x=>Ih t x
 | .store t x v=>EU t x v
 | .nilCheck x=>OR x
 | .binOp op t x y _=>Ij op t x y
 | .fieldAddr t x f=>vP t x f
 | .indexAddr t x i=>vQ t x i
 |op=>EV op
theorem wS{op:Op}{P:Program}{s:S}{fr:Nat}{r:eQ}(h:BX op P s fr=some r):eG P s fr op=some r:=by
 cases op
 case binOp op t x y yt=>
  simp only[BX,Ij,BW]at h
  have e:eG P s fr (.binOp op t x y yt)=cz P s.o op t (isConst x||isConst y) (s.ev x) (s.ev y):=rfl
  rw[e]
  split at h
  ·rename_i k a hx
   split at h
   ·rename_i k' b hy
    split at h
    ·rename_i hk
     split at h
     ·rename_i v hv
      unfold cz rL
      simp only[uo hx,uo hy,if_pos hk,hv]
      exact h
     ·exact h
    ·cases h
   ·exact h
  ·exact h
 all_goals exact h
end ES
inductive FD where
 |fn (n:Nat) (ic:IC) (rs:List ResultVar)
 |OS (n:Nat) (kA gB:IC) (g t:Nat) (fI:List Operand) (rs:List ResultVar) (m r r1:Nat) (uk:IC)
 |no
def FD.Ok (P:Program)(f:Nat):FD->Prop
 | .fn n ic rs=>ao P f n ic rs
 | .OS n kA gB g t fI rs m r r1 uk=>zY P f n kA gB g t fI rs/\wP P g m r r1 uk
 | .no=>True
inductive CR where
 |ret (v:V) (o:Tr aa) (nx:Nat)|bf (v:V) (o:Tr aa) (nx:Nat)
def CR.to (K X:V->(Nat->aa)->Nat->Prop):CR->Prop
 | .ret v o nx=>K v o.get nx
 | .bf v o nx=>X v o.get nx
inductive RO where
 |ok (st:St)|bf (v:V) (st:St)
def RO.to (K:S->Prop)(X:V->S->Prop):RO->Prop
 | .ok st=>K st.S
 | .bf v st=>X v st.S
inductive dm where
 |r (x:R)|c (x:CR)
abbrev Kt:=fq->St->Option dm
abbrev cQ:=Nat->Bool->Nat->IC->St->Kt->Option dm
noncomputable def yn(P:Program)(rs:List ResultVar)(st:St)(kc:CR->Option dm):Option dm:=
 match iT P st.S rs with
 |some [v]=>kc (.ret v st.o st.nx)
 |some vs=>kc (.ret (.bQ vs) st.o st.nx)
 |none=>none
noncomputable def Dx(P:Program)(rs:List ResultVar)(kc:CR->Option dm):Kt:=fun e st=>
 match e with
 | .normal=>yn P rs st kc
 | .ret=>yn P rs st kc
 | .bf v=>kc (.bf v st.o st.nx)
 | .exit _=>none
noncomputable def z9(P:Program)(rs:List ResultVar)(kc:CR->Option dm)(env:Tr V):Kt:=fun e s4=>
 match e with
 | .normal=>yn P rs ⟨env,s4.o,s4.nx⟩ kc
 | .ret=>yn P rs ⟨env,s4.o,s4.nx⟩ kc
 |_=>none
def Ik:fq->Option V
 | .normal=>some (.d .dI)
 | .ret=>some (.d .dI)
 | .bf v=>some v
 | .exit _=>none
noncomputable def Aa(P:Program)(rec:cQ)(rs:List ResultVar)(cj:List V)(m r r1:Nat)(uk:IC)(kc:CR->Option dm):Kt:=fun e s3=>
 match Ik e with
 |some u=>if cj.length<=m then rec s3.nx true m uk ⟨.e (aQ (aQ (b9 cj) r u) r1 u),s3.o,s3.nx⟩ (z9 P rs kc s3.env)else none
 |none=>none
noncomputable def wT(P:Program)(rec:cQ)(n t:Nat)(gB:IC)(g:Nat)(fI:List Operand)(rs:List ResultVar)(m r r1:Nat)(uk:IC)(kc:CR->Option dm):Kt:=fun e s1=>
 match e with
 | .normal=>rec s1.nx false n gB ⟨s1.env.set t (.func (.func g) [] (fI.map s1.S.ev)),s1.o,s1.nx⟩ (Aa P rec rs (fI.map s1.S.ev) m r r1 uk kc)
 |_=>none
noncomputable def Ab(P:Program)(bB:Nat->FD)(rec:cQ)(g:Nat)(args:List V)(o:Tr aa)(nx:Nat)(kc:CR->Option dm):Option dm:=
 match bB g with
 | .fn n ic rs=>if args.length<=n then rec nx false n ic ⟨.e (b9 args),o,nx⟩ (Dx P rs kc)else none
 | .OS n kA gB g t fI rs m r r1 uk=>if args.length<=n then rec nx true n kA ⟨.e (b9 args),o,nx⟩ (wT P rec n t gB g fI rs m r r1 uk kc)else none
 | .no=>none
def pC:V->List V
 | .bQ vs=>vs
 |v=>[v]
noncomputable def wU(r:CR):Option R:=
 match r with
 | .ret v o _=>match v with
   | .bQ [_]=>none
   |v=>match bG o.get (pC v)with
    |some rs=>some (.ret rs)
    |none=>none
 | .bf v o _=>match dn o.get v with
   |some x=>some (.bf x)
   |none=>none
noncomputable def Il{β:Type}(x:R)(c:R->β):β:=match x with| .ret l=>D.pz l fun l=>c (.ret l)| .bf d=>D.fc d fun d=>c (.bf d)
theorem vR{β:Type}(x:R)(c:R->β):Il x c=c x:=by cases x<;>simp only[Il,D.dV,D.cp]
noncomputable def uq(r:CR):Option dm:=match wU r with|some x=>Il x fun x=>some (.r x)|none=>none
theorem Ac{r:CR}{a:dm}(h:uq r=some a):∃x,wU r=some x/\a= .r x:=by
 unfold uq at h
 split at h
 ·rename_i x hx;rw[vR]at h;injection h with h;exact⟨x,hx,h.symm⟩
 ·cases h
def Ad(out:R)(o:Tr aa)(nx:Nat):CR:=
 match out with
 | .ret rs=> .ret (gh rs) o nx
 | .bf x=> .bf (.d x) o nx
structure mn (P:Program) where
 Im:Nat->Bool
 fx:Nat->List D->Option R
 ok:∀g ds out,fx g ds=some out->bJ P g ds out
def Ae(l:List (Nat×List D×R))(g:Nat)(ds:List D):Option R:=
 match l with
 |[]=>none
 |x::l=>match Nat.beq x.1 g with
  |true=>match D.ek x.2.1 ds with
   |true=>some x.2.2
   |false=>Ae l g ds
  |false=>Ae l g ds
theorem sf{P:Program}:∀ {l:List (Nat×List D×R)},(∀x∈l,bJ P x.1 x.2.1 x.2.2)->∀g ds out,Ae l g ds=some out->bJ P g ds out
 |[],_,_,_,_,h=>by cases h
 |x::l,hl,g,ds,out,h=>by
  simp only[Ae]at h
  split at h
  ·rename_i hg
   split at h
   ·rename_i hd
    injection h with h
    have:=hl x (by simp)
    rw[Nat.eq_of_beq_eq_true hg,D.cK _ _ hd,h]at this
    exact this
   ·exact sf (fun y hy=>hl y (by simp[hy])) g ds out h
  ·exact sf (fun y hy=>hl y (by simp[hy])) g ds out h
def mn.of {P:Program}(Im:Nat->Bool)(l:List (Nat×List D×R))(h:∀x∈l,bJ P x.1 x.2.1 x.2.2):mn P:=⟨Im,Ae l,sf h⟩
noncomputable def BZ(P:Program)(bB:Nat->FD)(md:mn P)(rec:cQ)(g:Nat)(ds:List D):Option R:=
 match md.fx g ds with
 |some out=>some out
 |none=>match Ab P bB rec g (ds.map .d) (.e fun _=> .no) 0 uq with
  |some (.r x)=>some x
  |_=>none
noncomputable def Dy(out:R)(o:Tr aa)(nx:Nat)(args:List V)(kc:CR->Option dm):Option dm:=
 match out.flat with
 |true=>kc (Ad out o (nx+1))
 |false=>match out.jz with
  |true=>kc (Ad out (ym o (mK o.get (V.aR args))) (nx+1))
  |false=>kc (Ad out (ym o (cn o.get (V.aR args))) (nx+1))
noncomputable def wV(P:Program)(bB:Nat->FD)(md:mn P)(rec:cQ)(g:Nat)(args:List V)(o:Tr aa)(nx:Nat)(kc:CR->Option dm):Option dm:=
 match md.Im g,bG o.get args with
 |true,some ds=>match BZ P bB md rec g ds with
  |some out=>Dy out o nx args kc
  |none=>none
 |_,_=>Ab P bB rec g args o nx kc
noncomputable def Af(id:Nat)(kc:CR->Option dm):Kt:=fun e s2=>
 match e with
 | .bf v=>kc (.bf v s2.o s2.nx)
 |e=>match s2.o.get id with
  | .loop nf m en p c d _ _=>match e with
    | .normal=>kc (.ret (.d (.bool true)) (s2.o.set id (.loop nf m en p c d .ready none)) s2.nx)
    | .ret=>kc (.ret (.d (.bool false)) (s2.o.set id (.loop nf m en p c d .done (some .ret))) s2.nx)
    | .exit j=>kc (.ret (.d (.bool false)) (s2.o.set id (.loop nf m en p c d .done (some (.exit j)))) s2.nx)
    | .bf _=>none
  |_=>none
noncomputable def wW(rec:cQ)(id nx n:Nat)(gB:IC)(kc:CR->Option dm):Kt:=fun e s1=>
 match e with
 | .normal=>match s1.o.get id with
   | .loop nf m en p c d .ready pd=>rec nx true n gB ⟨s1.env,s1.o.set id (.loop nf m en p c d .busy pd),s1.nx⟩ (Af id kc)
   |_=>none
 | .bf v=>kc (.bf v s1.o s1.nx)
 |_=>none
noncomputable def EW(P:Program)(rec:cQ)(id:Nat)(args:List V)(o:Tr aa)(nx:Nat)(kc:CR->Option dm):Option dm:=
 match o.get id with
 | .loop nf n env ps kA gB _ _=>if nf=P.funcs.size/\id<nx/\ps.all (fun t=>decide (t<n))=true/\args.length=ps.length then
  rec nx true n kA ⟨.e (vK (bD env) ps args),o,nx⟩ (wW rec id nx n gB kc)
   else none
 |_=>none
noncomputable def qT(P:Program)(st:St)(o:bK)(kr:RO->Option dm):Option dm:=
 match BX o.op P st.S st.nx with
 |some (v,Δ,_)=>jc st.env o.dst v fun e=>pB st.o Δ fun ob=>Nat.fc (st.nx+1) fun n=>kr (.ok ⟨e,ob,n⟩)
 |none=>none
noncomputable def Io(st:St)(dst:Option Nat)(kr:RO->Option dm)(c:CR):Option dm:=
 match c with
 | .ret v o nx=>jc st.env dst v fun e=>Nat.fc nx fun nx=>kr (.ok ⟨e,o,nx⟩)
 | .bf v o nx=>kr (.bf v ⟨st.env,o,nx⟩)
noncomputable def Ag(c:Call)(P:Program)(bB:Nat->FD)(md:mn P)(rec:cQ)(st:St)(o:bK)(kr:RO->Option dm):Option dm:=
 match c.callee with
 | .value f=>match st.S.ev f with
   | .func (.func g) first cap=>wV P bB md rec g (first++c.args.toList.map st.S.ev++cap) st.o st.nx (Io st o.dst kr)
   | .j7 id=>EW P rec id (c.args.toList.map st.S.ev) st.o st.nx (Io st o.dst kr)
   |_=>none
 | .invoke r m=>match oL P m (st.S.ev r)with
   |some (g,y)=>wV P bB md rec g (y::c.args.toList.map st.S.ev) st.o st.nx (Io st o.dst kr)
   |none=>none
 |_=>qT P st o kr
noncomputable def EX(x:Operand)(P:Program)(_:Nat->FD)(_:mn P)(_:cQ)(st:St)(_:bK)(kr:RO->Option dm):Option dm:=
 match st.S.ev x with
 | .d (.iface t y)=>kr (.bf (.d (.iface t y)) st)
 | .iface t y=>kr (.bf (.iface t y) st)
 |_=>none
noncomputable def Ip(P:Program)(_:Nat->FD)(_:mn P)(_:cQ)(st:St)(o:bK)(kr:RO->Option dm):Option dm:=qT P st o kr
def R.same:R->R->Bool
 | .ret a, .ret b=>D.ek a b
 | .bf a, .bf b=>a.same b
 |_,_=>false
theorem R.da {x y:R}(h:x.same y=true):x=y:=by
 cases x<;>cases y<;>simp only[R.same,Bool.false_eq_true]at h
 ·rw[D.cK _ _ h]
 ·rw[D.da _ _ h]
noncomputable def Nr(f:Nat->Option dm):Nat->Option dm
 |0=>none
 |n+1=>match n with
  |0=>f 0
  |n=>match Nr f n with
   |some (.r a)=>match f n with
    |some (.r b)=>match R.same a b with
     |true=>some (.r a)
     |false=>none
    |_=>none
   |_=>none
theorem Ah{f:Nat->Option dm}{a:dm}:∀ {n:Nat},Nr f n=some a->∀i,i<n->f i=some a
 |0,h,_,_=>by cases h
 |1,h,i,hi=>by obtain rfl:i=0:=by omega
               exact h
 |n+2,h,i,hi=>by
  simp only[Nr]at h
  split at h
  ·rename_i x hx
   split at h
   ·rename_i y hy
    split at h
    ·rename_i he
     have e:=R.da he
     subst e
     rw[<- h]
     by_cases e:i=n+1
     ·subst e;exact hy
     ·exact Ah hx i (by omega)
    ·cases h
   ·cases h
  ·cases h
noncomputable def B0(st:St)(dst:Option Nat)(kr:RO->Option dm)(v:V)(Δ:List (Nat×aa)):Option dm:=
 jc st.env dst v fun e=>pB st.o Δ fun ob=>Nat.fc (st.nx+1) fun n=>kr (.ok ⟨e,ob,n⟩)
noncomputable def Ai(x:Operand)(str:Bool)(P:Program)(_:Nat->FD)(_:mn P)(_:cQ)(st:St)(o:bK)(kr:RO->Option dm):Option dm:=
 match kJ st.o.get (st.S.ev x)with
 |some (id,l)=>match str with
  |true=>none
  |false=>match l with
   |[]=>B0 st o.dst kr (.bQ [.d (.bool false)]) []
   |_=>Nr (fun i=>match l[i]? with
    |some (k,x)=>B0 st o.dst kr (.bQ [.d (.bool true), .d k, .d x]) [(id, .mJ (l.eraseIdx i) (some (k,x)))]
    |none=>none) l.length
 |none=>qT P st o kr
noncomputable def Tp(op:Op):(P:Program)->(Nat->FD)->mn P->cQ->St->bK->(RO->Option dm)->Option dm:=
 match op with
 | .call c=>Ag c
 | .panic x=>EX x
 | .next x str=>Ai x str
 |_=>Ip
noncomputable def Ns(P:Program)(bB:Nat->FD)(md:mn P)(rec:cQ)(st:St)(o:bK)(kr:RO->Option dm):Option dm:=Tp o.op P bB md rec st o kr
noncomputable def Rg(next:St->Option dm)(kr:RO->Option dm):RO->Option dm:=fun r=>match r with| .ok st=>next st| .bf v st=>kr (.bf v st)
noncomputable def si(P:Program)(bB:Nat->FD)(md:mn P)(rec:cQ)(kr:RO->Option dm):List bK->St->Option dm
 |[],st=>kr (.ok st)
 |o::l,st=>match(match o.gd with
   |none=>some true
   |some (d,want)=>match st.env.get d with
    | .d (.bool b)=>some (b==want)
    | .bQ []=>some false
    |_=>none)with
  |some true=>Ns P bB md rec st o (Rg (si P bB md rec kr l) kr)
  |some false=>jc st.env o.dst (.bQ []) fun e=>Nat.fc (st.nx+1) fun n=>si P bB md rec kr l ⟨e,st.o,n⟩
  |none=>none
section
variable {P:Program}{bB:Nat->FD}{md:mn P}
noncomputable def dv(P:Program)(rec:cQ):Prop:=∀b rd n ic st k a,rec b rd n ic st k=some a->∀Q:fq->S->Prop,(∀e st',k e st'=some a->Q e st'.S)->n5 P n b rd ic Q st.S
theorem n8{rs:List ResultVar}{st:St}{kc:CR->Option dm}{a:dm}(h:yn P rs st kc=some a){K X:V->(Nat->aa)->Nat->Prop}(hr:∀r,kc r=some a->r.to K X):iX P rs K X .ret st.S:=by
 unfold yn at h
 unfold iX
 split at h
 ·rename_i v hv;simp only[hv];exact hr _ h
 ·rename_i vs hv hn
  simp only[hn]
  exact hr _ h
 ·cases h
theorem jS(aS:P.follows .mixedOrders=true)(bY:∀g,(bB g).Ok P g){rec:cQ}(a9:dv P rec){g:Nat}{args:List V}{o:Tr aa}{nx:Nat}{kc:CR->Option dm}{a:dm}(h:Ab P bB rec g args o nx kc=some a){K X:V->(Nat->aa)->Nat->Prop}(hr:∀r,kc r=some a->r.to K X):
 ft P g args o.get nx K X:=by
 have ba:=bY g
 unfold Ab at h
 split at h
 ·rename_i n ic rs ht
  rw[ht]at ba
  split at h
  ·rename_i hl
   refine ft.pf aS ba hl ?_
   refine a9 _ _ _ _ _ _ _ h _ fun e st he=> ?_
   unfold Dx at he
   cases e with
   |normal=>exact n8 he hr
   |ret=>exact n8 he hr
   |bf v=>exact hr _ he
   |exit j=>cases he
  ·cases h
 ·rename_i n kA gB g' t fI rs m r0 r1 uk ht
  rw[ht]at ba
  split at h
  ·rename_i hl
   refine ft.z6 aS ba.1 ba.2 hl (a9 _ _ _ _ _ _ _ h _ fun e s1 he=> ?_)
   unfold wT at he
   cases e with
   |normal=>
    have hb:n5 P n s1.nx false gB (vO P m r0 r1 uk (fI.map s1.S.ev) rs K X) ⟨aQ s1.env.get t (.func (.func g') [] (fI.map s1.S.ev)),s1.o.get,s1.nx⟩:=by
     have:=a9 _ _ _ _ _ _ _ he (vO P m r0 r1 uk (fI.map s1.S.ev) rs K X) (fun e s3 Gs=>by
      unfold Aa at Gs
      split at Gs
      ·rename_i u hu
       split at Gs
       ·rename_i nK
        have Tq:yk P m r0 r1 uk (fI.map s1.S.ev) u s3.o.get s3.nx fun o nx=>iX P rs K X .ret ⟨s3.env.get,o,nx⟩:=by
         refine⟨nK,a9 _ _ _ _ _ _ _ Gs _ fun e4 s4 Nt=> ?_⟩
         unfold z9 at Nt
         cases e4 with
         |normal=>exact n8 (st:=⟨s3.env,s4.o,s4.nx⟩) Nt hr
         |ret=>exact n8 (st:=⟨s3.env,s4.o,s4.nx⟩) Nt hr
         |_=>cases Nt
        cases e<;>simp only[Ik,Option.some.injEq,reduceCtorEq]at hu<;>subst hu<;>exact Tq
       ·cases Gs
      ·cases Gs)
     simp only[St.S,Tr.fJ]at this
     exact this
    exact hb
   |_=>cases he
  ·cases h
 ·cases h
theorem Aj{r:CR}{out:R}(ho:wU r=some out):r.to (fun v o _=>∃vs rs,v=(match vs with|[v]=>v|vs=> .bQ vs)/\bG o vs=some rs/\out= .ret rs) (fun v o _=>∃x,dn o v=some x/\out= .bf x):=by
 unfold wU at ho
 split at ho
 ·rename_i v o nx
  split at ho
  ·cases ho
  ·rename_i hv
   split at ho
   ·rename_i rs GV
    injection ho with ho;subst ho
    refine⟨pC v,rs, ?_,GV,rfl⟩
    cases v with
    |bQ vs=>
     match vs,hv with
     |[],_=>rfl
     |[x],hv=>exact absurd rfl (hv x)
     |_::_::_,_=>rfl
    |_=>rfl
   ·cases ho
 ·split at ho
  ·rename_i x hx
   injection ho with ho;subst ho
   exact⟨x,hx,rfl⟩
  ·cases ho
theorem ur(aS:P.follows .mixedOrders=true)(bY:∀g,(bB g).Ok P g){rec:cQ}(a9:dv P rec){g:Nat}{ds:List D}{out:R}(h:Ab P bB rec g (ds.map .d) (.e fun _=> .no) 0 uq=some (.r out)):bJ P g ds out:=by
 refine bJ.la (jS aS bY a9 h fun r hr=> ?_)
 obtain⟨x,hx,he⟩:=Ac hr
 injection he with he;subst he
 exact Aj hx
theorem sj(aS:P.follows .mixedOrders=true)(bY:∀g,(bB g).Ok P g){rec:cQ}(a9:dv P rec){g:Nat}{ds:List D}{out:R}(h:BZ P bB md rec g ds=some out):bJ P g ds out:=by
 unfold BZ at h
 split at h
 ·rename_i Ts ho
  injection h with h;subst h
  exact md.ok _ _ _ ho
 ·split at h
  ·rename_i x hr;injection h with h;subst h;exact ur aS bY a9 hr
  ·cases h
theorem uu(aS:P.follows .mixedOrders=true)(bY:∀g,(bB g).Ok P g){rec:cQ}(a9:dv P rec){g:Nat}{args:List V}{o:Tr aa}{nx:Nat}{kc:CR->Option dm}{a:dm}(h:wV P bB md rec g args o nx kc=some a){K X:V->(Nat->aa)->Nat->Prop}(hr:∀r,kc r=some a->r.to K X):
 CY P g args o.get nx K X:=by
 unfold wV at h
 split at h
 ·rename_i ds TX dA
  split at h
  ·rename_i out Ak
   have hP:=sj aS bY a9 Ak
   refine .inl ⟨ds,dA,out,hP, ?_⟩
   unfold Dy at h
   split at h
   ·rename_i hf
    refine .inr (.inl ⟨hf, ?_⟩)
    cases out<;>exact hr _ h
   ·split at h
    ·rename_i hf
     refine .inr (.inr ⟨hf, ?_⟩)
     rw[<- gw]
     cases out<;>exact hr _ h
    ·refine .inl ?_
     rw[<- gw]
     cases out<;>exact hr _ h
  ·cases h
 ·exact .inr (jS aS bY a9 h hr)
theorem B1(aS:P.follows .mixedOrders=true){rec:cQ}(a9:dv P rec){id:Nat}{args:List V}{o:Tr aa}{nx:Nat}{kc:CR->Option dm}{a:dm}(h:EW P rec id args o nx kc=some a){K X:V->(Nat->aa)->Nat->Prop}(hr:∀r,kc r=some a->r.to K X):
 dS P id args o.get nx K X:=by
 unfold EW at h
 split at h
 ·rename_i nf n env ps kA gB st pd ho
  split at h
  ·rename_i hc
   obtain⟨rfl,bz,HW,hl⟩:=hc
   refine dS.pf aS ho bz HW hl ?_
   refine a9 _ _ _ _ _ _ _ h _ fun e s1 he=> ?_
   unfold wW at he
   cases e with
   |normal=>
    simp only at he
    split at he
    ·rename_i nf m en p c d pd hU
     refine⟨nf,m,en,p,c,d,pd,hU, ?_⟩
     have:=a9 _ _ _ _ _ _ _ he (vN id K X) (fun e s2 h2=>by
      unfold Af at h2
      split at h2
      ·exact hr _ h2
      ·rename_i CO
       split at h2
       ·rename_i HT m' OT p' c' d' st' pd' EY
        cases e with
        |bf v=>cases h2
        |normal=>have h3:=hr _ h2;simp only[CR.to,Tr.fJ]at h3;exact⟨HT,m',OT,p',c',d',st',pd',EY,h3⟩
        |ret=>have h3:=hr _ h2;simp only[CR.to,Tr.fJ]at h3;exact⟨HT,m',OT,p',c',d',st',pd',EY,h3⟩
        |exit j=>have h3:=hr _ h2;simp only[CR.to,Tr.fJ]at h3;exact⟨HT,m',OT,p',c',d',st',pd',EY,h3⟩
       ·cases h2)
     simp only[St.S,Tr.fJ]at this
     exact this
    ·cases he
   |bf v=>exact hr _ he
   |_=>cases he
  ·cases h
 ·cases h
theorem pD{st:St}{o:bK}{kr:RO->Option dm}{a:dm}(h:qT P st o kr=some a){K:S->Prop}{X:V->S->Prop}(hr:∀r,kr r=some a->r.to K X):match eG P st.S st.S.nx o.op with
 |some (v,Δ,_)=>K ⟨aO st.S.env o.dst v,put st.S.o Δ,st.S.nx+1⟩
 |none=>False:=by
 unfold qT at h
 split at h
 ·rename_i v Δ rd he
  have he:=wS he
  simp only[fR,jR,Nat.cp]at h
  have hr:=hr _ h
  simp only[RO.to,St.S,dq,gw]at hr
  have dY:eG P st.S st.S.nx o.op=some (v,Δ,rd):=he
  simp only[dY]
  exact hr
 ·cases h
theorem wX{st:St}{dst:Option Nat}{kr:RO->Option dm}{v:V}{Δ:List (Nat×aa)}{a:dm}(h:B0 st dst kr v Δ=some a){K:S->Prop}{X:V->S->Prop}(hr:∀r,kr r=some a->r.to K X):K ⟨aO st.S.env dst v,put st.S.o Δ,st.S.nx+1⟩:=by
 unfold B0 at h
 simp only[fR,jR,Nat.cp]at h
 have hr:=hr _ h
 simp only[RO.to,St.S,dq,gw]at hr
 exact hr
theorem EZ(aS:P.follows .mixedOrders=true)(bY:∀g,(bB g).Ok P g){rec:cQ}(a9:dv P rec){st:St}{o:bK}{kr:RO->Option dm}{a:dm}(h:Ns P bB md rec st o kr=some a){K:S->Prop}{X:V->S->Prop}(hr:∀r,kr r=some a->r.to K X):yL P st.S o X K:=by
 have cr:∀r,Io st o.dst kr r=some a->r.to (fun v o' nx'=>K ⟨aO st.S.env o.dst v,o',nx'⟩) (fun v o' nx'=>X v ⟨st.S.env,o',nx'⟩):=by
  intro r hx
  unfold Io at hx
  split at hx
  ·simp only[fR,Nat.cp]at hx
   have hr:=hr _ hx
   simp only[RO.to,St.S,dq]at hr
   exact hr
  ·exact hr _ hx
 unfold Ns at h
 unfold yL
 cases cP:o.op
 case call c=>
  rw[cP]at h
  have h:Ag c P bB md rec st o kr=some a:=h
  unfold Ag at h
  cases hf:c.callee
  case value f=>
   simp only[hf]at h|-
   split at h
   ·rename_i g first cap hv
    simp only[hv]
    have:=uu aS bY a9 h cr
    rcases this with⟨ds,dA,hP⟩|hC
    ·have E0:bG st.S.o (first++List.map st.S.ev c.args.toList++cap)=some ds:=dA
     simp only[E0]
     exact .inl hP
    ·split
     ·exact .inr (.inl hC)
     ·exact .inl hC
   ·rename_i id hv
    simp only[hv]
    exact B1 aS a9 h cr
   ·cases h
  case invoke r m=>
   simp only[hf]at h|-
   split at h
   ·rename_i g y hv
    simp only[hv]
    exact uu aS bY a9 h cr
   ·cases h
  all_goals
   simp only[hf]at h|-
   have:=pD h hr
   rw[cP]at this
   exact this
 case panic x=>
  rw[cP]at h
  have h:EX x P bB md rec st o kr=some a:=h
  unfold EX at h
  split at h
  ·rename_i hv;simp only[hv];exact hr _ h
  ·rename_i hv;simp only[hv];exact hr _ h
  ·cases h
 case next x str=>
  rw[cP]at h
  have h:Ai x str P bB md rec st o kr=some a:=h
  unfold Ai at h
  have hl:kJ st.S.o (st.S.ev x)=kJ st.o.get (st.S.ev x):=rfl
  simp only[hl]
  split at h
  ·rename_i id l ah
   simp only[ah]
   cases str with
   |true=>cases h
   |false=>
    refine⟨rfl,fun e=> ?_,fun i k y e=> ?_⟩
    ·subst e
     exact wX h hr
    ·cases l with
     |nil=>simp at e
     |cons p l=>
      have:=Ah h i (List.getElem?_eq_some_iff.1 e).1
      rw[e]at this
      exact wX this hr
  ·rename_i ah
   simp only[ah]
   have:=pD h hr
   rw[cP]at this
   exact this
 all_goals
  have h2:qT P st o kr=some a:=by rw[cP]at h;exact h
  have:=pD h2 hr
  rw[cP]at this
  exact this
theorem n9(aS:P.follows .mixedOrders=true)(bY:∀g,(bB g).Ok P g){rec:cQ}(a9:dv P rec){kr:RO->Option dm}{a:dm}{K:S->Prop}{X:V->S->Prop}(hr:∀r,kr r=some a->r.to K X):∀ (l:List bK) (st:St),si P bB md rec kr l st=some a->lg P X K l st.S
 |[],st,h=>hr (.ok st) h
 |o::l,st,h=>by
  simp only[si,fR,Nat.cp]at h
  simp only[lg]
  have op:Ns P bB md rec st o (Rg (si P bB md rec kr l) kr)=some a->yL P st.S o X (lg P X K l):=by
   intro h
   refine EZ aS bY a9 h fun r Rh=> ?_
   cases r with
   |ok E1=>exact n9 aS bY a9 hr l E1 Rh
   |bf v E1=>exact hr (.bf v E1) Rh
  have sk:si P bB md rec kr l ⟨nD st.env o.dst (.bQ []),st.o,st.nx+1⟩=some a->lg P X K l ⟨aO st.S.env o.dst (.bQ []),st.S.o,st.S.nx+1⟩:=by
   intro h
   have:=n9 aS bY a9 hr l _ h
   simp only[St.S,dq]at this
   exact this
  cases hg:o.gd with
  |none=>simp only[hg]at h;exact op h
  |some p=>
   obtain⟨d,want⟩:=p
   simp only[hg]at h
   have he:st.S.env d=st.env.get d:=rfl
   simp only[he]
   cases hv:st.env.get d with
   |d x=>
    cases x with
    |bool b=>
     simp only[hv]at h|-
     by_cases e:b=want
     ·subst e
      simp only[beq_self_eq_true]at h
      rw[if_pos rfl];exact op h
     ·have:(b==want)=false:=by simpa using e
      rw[this]at h
      rw[if_neg e];exact sk h
    |_=>simp[hv]at h
   |bQ vs=>
    cases vs with
    |nil=>simp only[hv]at h|-;exact sk h
    |cons a bH=>simp[hv]at h
   |_=>simp[hv]at h
end
end Go.Proofs.YtpkobkdgcanmjaaGreat
namespace Go.Proofs.YtpkobkdgcanmjaaGreat
theorem vA.E2 {P:Program}{g:FuncId}{ds:List D}{o:Nat->aa}{fr:Nat}{ty:TypeId}{sz:Nat}{es:List D}
 (h:ft P g (ds.map .d) (fun _=> .no) 0 (fun v o1 _=>(∃j ep,v= .osl j ep/\o1 j= .arr ep ty sz es)\/(v= .aM/\es=[]/\0<sz)) (fun _ _ _=>False)):
 vA P g (ds.map .d) [] o fr (.osl fr 0) [(fr, .arr 0 ty sz es)]:=by
 refine⟨h.1,fun o' us M φ w vals _ c0 hH hd=> ?_⟩
 let b7:Place:=fun _=> .nilFunc
 have rK:∀b, ¬bw b7 (hp (fun _=> .no) 0) b:=by rintro b ⟨id,hl,_⟩;simp[hp,aa.live]at hl
 have hM:∀b,ad M φ ⟨o',us⟩ b->b<w.heap.size:=fun b hb=>hb.elim (hH.p7 b) fun hl=>(hH.ours b hl).2
 have qo:=(V.bV _ _).1 hd
 refine(h.2 (ad M φ ⟨o',us⟩) b7 w vals (kj b7 hM) ((V.bV _ _).2 (D.aB (w:=w) (w':=w) (B:=ad M φ ⟨o',us⟩) (fun b _ hB=>⟨rfl,fun h=>h.elim hB (rK b)⟩) _ _ qo))).mono ?_
 rintro e w' ⟨fm,o1,n1,v,k1,k2,k3⟩
 have hk:dJ (fun _=>False) w w':=⟨k2.bU.os,k2.bU.tape,k2.bU.output,k2.bU.size,fun k hk _=>k2.bU.block k hk (rK k)⟩
 have GM:(⟨o',us⟩:Hp).put [(fr, .arr 0 ty sz es)]=⟨put o' [(fr, .arr 0 ty sz es)],fun id=>us id\/id=fr⟩:=by
  simp only[Hp.put]
  congr 1
  funext id
  simp
 have fin:∀ (val:Value) (xs:List Value),(∀b,dz val=some b->w.heap.size<=b/\b<w'.heap.size)->0<sz->w'.ownsRow 0 ty sz val es.length xs->
  (eU (ad M (aQ φ fr val) ((⟨o',us⟩:Hp).put [(fr, .arr 0 ty sz es)])) w' sz es xs)->
  val.oneCell'=true->
  ∃aj,ai M aj ⟨put o' [(fr, .arr 0 ty sz es)],fun id=>us id\/id=fr⟩ w'/\Trans φ ⟨o',us⟩ w aj ⟨put o' [(fr, .arr 0 ty sz es)],fun id=>us id\/id=fr⟩ w'/\
   ∃Al,Ending.returned val= .returned Al/\V.den (ad M aj ⟨put o' [(fr, .arr 0 ty sz es)],fun id=>us id\/id=fr⟩) aj ⟨put o' [(fr, .arr 0 ty sz es)],fun id=>us id\/id=fr⟩ w' (.osl fr 0) Al:=by
  intro val xs fW du dN a8 OU
  have l7:=fX hH hk c0 (.arr 0 ty sz es) val fW (by
   unfold aC
   rw[show((⟨o',us⟩:Hp).put [(fr, .arr 0 ty sz es)]).o fr= .arr 0 ty sz es by simp]
   refine⟨du,xs, ?_,a8⟩
   rw[show aQ φ fr val fr=val by simp]
   exact dN)
  have Iq:=dL (φ:=φ) (H:=⟨o',us⟩) hk c0 (.arr 0 ty sz es) val (fun b hb=>(fW b hb).1)
  rw[GM]at l7 Iq
  refine⟨aQ φ fr val,l7,Iq,val,rfl,OU, .inr rfl,fun e he=> ?_⟩
  have dY:0=e:=by
   have:(put o' [(fr,aa.arr 0 ty sz es)] fr).aP=some 0:=by simp[put,aa.aP]
   rw[show(⟨put o' [(fr, .arr 0 ty sz es)],fun id=>us id\/id=fr⟩:Hp).o fr=put o' [(fr, .arr 0 ty sz es)] fr from rfl,this]at he
   injection he
  exact⟨by omega,fun _=>by simp⟩
 cases e with
 |outgrown=>exact k3.elim
 |panicked ch=>obtain⟨_,_,_,h⟩:=k3;exact h.elim
 |returned val=>
  obtain⟨g1,⟨j,ep,rfl,hj⟩|⟨rfl,rfl,du⟩⟩:=k3
  ·obtain⟨v0,v1,v2⟩:=g1
   have dt:val=fm j:=(v2 ep (by show(o1 j).aP=some ep;rw[hj];rfl)).2 rfl
   have bA:∀b,dz val=some b->bw fm (hp o1 n1) b:=fun b hb=>⟨j,by show(o1 j).live=true;rw[hj];rfl,by rw[<- dt];exact hb⟩
   have fW:∀b,dz val=some b->w.heap.size<=b/\b<w'.heap.size:=fun b hb=>⟨(k2.grow b (bA b hb)).resolve_left (rK b),(k1.ours b (bA b hb)).2⟩
   have E3:=k1.ok j
   unfold aC at E3
   rw[show(hp o1 n1).o j= .arr ep ty sz es from hj]at E3
   obtain⟨du,xs,dN,a8⟩:=E3
   have Tt:∀b,ad M (aQ φ fr val) ((⟨o',us⟩:Hp).put [(fr, .arr 0 ty sz es)]) b->ad (ad M φ ⟨o',us⟩) fm (hp o1 n1) b:=by
    rintro b (hb|⟨id,hl,hb⟩)
    ·exact .inl (.inl hb)
    ·by_cases e:id=fr
     ·subst e
      simp at hb
      exact .inr (bA b hb)
     ·simp[e]at hl hb
      exact .inl (.inr ⟨id,hl,hb⟩)
   exact fin val xs fW du (by rw[dt];exact dN) (a8.mono (w:=w') (w':=w') (fun b _ hB=>⟨rfl,fun h=>hB (Tt b h)⟩)) v0
  ·have g1:val= .slice none 0 0:=g1
   subst g1
   exact fin _ [] (fun b hb=>by cases hb) du (World.ownsRow_nil w' 0 ty sz) ⟨[],rfl,by simp,rfl⟩ rfl
theorem vA.B2 {P:Program}{g:FuncId}{args:List V}{ds:List D}{o:Nat->aa}{fr:Nat}{ty:TypeId}{sz:Nat}{es:List D}
 (dA:bG o args=some ds) (lA:D.gf es=true) (h:ft P g (ds.map .d) (fun _=> .no) 0 (fun v o1 _=>(∃j ep,v= .osl j ep/\o1 j= .arr ep ty sz es)\/(v= .aM/\es=[]/\0<sz)) (fun _ _ _=>False)):
 vA P g args (V.aR args) o fr (.osl fr 0) [(fr, .arr 0 ty sz es)]:=by
 refine⟨h.1,fun o' us M φ w vals Ri c0 hH hd=> ?_⟩
 obtain⟨f1,f2,f3,f4,f5⟩:=cB hH (V.aR args) (fun id ah=>(Ri id ah).2)
 generalize TY:(⟨o',us⟩:Hp).put (cn (⟨o',us⟩:Hp).o (V.aR args))=HF at f1 f2 f3
 let b7:Place:=fun _=> .nilFunc
 have rK:∀b, ¬bw b7 (hp (fun _=> .no) 0) b:=by rintro b ⟨id,hl,_⟩;simp[hp,aa.live]at hl
 have hM:∀b,ad M φ HF b->b<w.heap.size:=fun b hb=>hb.elim (f1.p7 b) fun hl=>(f1.ours b hl).2
 have qo:D.au (ad M φ HF) w ds vals.toList:=cI f1 args ds _ (fun id ah=>by rw[f3 id ah];show(o' id).fz=(o id).fz;rw[(Ri id ah).1]) dA (V.aB f2 _ _ hd)
 refine(h.2 (ad M φ HF) b7 w vals (kj b7 hM) ((V.bV _ _).2 (D.aB (w:=w) (w':=w) (B:=ad M φ HF) (fun b _ hB=>⟨rfl,fun h=>h.elim hB (rK b)⟩) _ _ qo))).mono ?_
 rintro e w' ⟨fm,o1,n1,v,k1,k2,k3⟩
 have hk:dJ (fun _=>False) w w':=⟨k2.bU.os,k2.bU.tape,k2.bU.output,k2.bU.size,fun k hk _=>k2.bU.block k hk (rK k)⟩
 have GM:(⟨o',us⟩:Hp).put [(fr, .arr 0 ty sz es)]=⟨put o' [(fr, .arr 0 ty sz es)],fun id=>us id\/id=fr⟩:=by
  simp only[Hp.put]
  congr 1
  funext id
  simp
 have fin:∀ (val:Value) (xs:List Value),(∀b,dz val=some b->w.heap.size<=b/\b<w'.heap.size)->0<sz->w'.ownsRow 0 ty sz val es.length xs->
  (eU (ad M (aQ φ fr val) ((⟨o',us⟩:Hp).put [(fr, .arr 0 ty sz es)])) w' sz es xs)->
  val.oneCell'=true->
  ∃aj,ai M aj ⟨put o' [(fr, .arr 0 ty sz es)],fun id=>us id\/id=fr⟩ w'/\Trans φ ⟨o',us⟩ w aj ⟨put o' [(fr, .arr 0 ty sz es)],fun id=>us id\/id=fr⟩ w'/\
   ∃Al,Ending.returned val= .returned Al/\V.den (ad M aj ⟨put o' [(fr, .arr 0 ty sz es)],fun id=>us id\/id=fr⟩) aj ⟨put o' [(fr, .arr 0 ty sz es)],fun id=>us id\/id=fr⟩ w' (.osl fr 0) Al:=by
  intro val xs fW du dN a8 OU
  have l7:=fX hH hk c0 (.arr 0 ty sz es) val fW (by
   unfold aC
   rw[show((⟨o',us⟩:Hp).put [(fr, .arr 0 ty sz es)]).o fr= .arr 0 ty sz es by simp]
   refine⟨du,xs, ?_,a8⟩
   rw[show aQ φ fr val fr=val by simp]
   exact dN)
  have Iq:=dL (φ:=φ) (H:=⟨o',us⟩) hk c0 (.arr 0 ty sz es) val (fun b hb=>(fW b hb).1)
  rw[GM]at l7 Iq
  refine⟨aQ φ fr val,l7,Iq,val,rfl,OU, .inr rfl,fun e he=> ?_⟩
  have dY:0=e:=by
   have:(put o' [(fr,aa.arr 0 ty sz es)] fr).aP=some 0:=by simp[put,aa.aP]
   rw[show(⟨put o' [(fr, .arr 0 ty sz es)],fun id=>us id\/id=fr⟩:Hp).o fr=put o' [(fr, .arr 0 ty sz es)] fr from rfl,this]at he
   injection he
  exact⟨by omega,fun _=>by simp⟩
 cases e with
 |outgrown=>exact k3.elim
 |panicked ch=>obtain⟨_,_,_,h⟩:=k3;exact h.elim
 |returned val=>
  obtain⟨g1,⟨j,ep,rfl,hj⟩|⟨rfl,rfl,du⟩⟩:=k3
  ·obtain⟨v0,v1,v2⟩:=g1
   have dt:val=fm j:=(v2 ep (by show(o1 j).aP=some ep;rw[hj];rfl)).2 rfl
   have bA:∀b,dz val=some b->bw fm (hp o1 n1) b:=fun b hb=>⟨j,by show(o1 j).live=true;rw[hj];rfl,by rw[<- dt];exact hb⟩
   have fW:∀b,dz val=some b->w.heap.size<=b/\b<w'.heap.size:=fun b hb=>⟨(k2.grow b (bA b hb)).resolve_left (rK b),(k1.ours b (bA b hb)).2⟩
   have E3:=k1.ok j
   unfold aC at E3
   rw[show(hp o1 n1).o j= .arr ep ty sz es from hj]at E3
   obtain⟨du,xs,dN,a8⟩:=E3
   obtain⟨evs,e1,e2,e3⟩:=a8
   exact fin val xs fW du (by rw[dt];exact dN) ⟨evs,e1,e2,D.iR _ _ lA e3⟩ v0
  ·have g1:val= .slice none 0 0:=g1
   subst g1
   exact fin _ [] (fun b hb=>by cases hb) du (World.ownsRow_nil w' 0 ty sz) ⟨[],rfl,by simp,rfl⟩ rfl
theorem vA.B3 {P:Program}{g:FuncId}{args:List V}{ds:List D}{o0 o:Nat->aa}{rd:List Nat}{fr:Nat}{v:V}{Δ:List (Nat×aa)}(ah:V.aR args=[])(dA:bG o0 args=some ds)
 (h:vA P g (ds.map .d) rd o fr v Δ):vA P g args rd o fr v Δ:=
 ⟨h.1,fun o' us M φ w vals h1 h2 hH hd=>h.2 o' us M φ w vals h1 h2 hH ((V.bV _ _).2 (cI hH args ds _ (by rw[ah];intro id h;cases h) dA hd))⟩
end Go.Proofs.YtpkobkdgcanmjaaGreat
