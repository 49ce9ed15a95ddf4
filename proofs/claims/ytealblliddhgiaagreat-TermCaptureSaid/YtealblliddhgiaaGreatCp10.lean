/-
  A PART OF THE PROOF. Conditions: none.
-/
import Derived.Test.YtealblliddhgiaaGreatCp9
set_option linter.unusedSimpArgs false
set_option linter.unusedVariables false
namespace Go.Proofs.YtealblliddhgiaaGreat
inductive Tr (α:Type) where
 |e (f:Nat->α)
 |n (x:α) (l r:Tr α)
noncomputable def Tr.get {α:Type}(t:Tr α):Nat->α:=
 Tr.rec (motive:=fun _=>Nat->α) (fun f=>f) (fun x _ _ l r k=>Bool.rec (Bool.rec (r (Nat.sub (Nat.div k 2) 1)) (l (Nat.div k 2)) (Nat.beq (Nat.mod k 2) 1)) x (Nat.beq k 0)) t
theorem Tr.BN {α:Type}(f:Nat->α):(Tr.e f).get=f:=rfl
noncomputable def Tr.sF {α:Type}(x:α):Nat->Tr α->Nat->Tr α
 |0,t,k=> .e (aq t.get k x)
 |d+1, .e f,k=>match Nat.beq k 0 with
  |true=> .n x (.e fun i=>f (2*i+1)) (.e fun i=>f (2*i+2))
  |false=>match Nat.beq (k%2) 1 with
   |true=> .n (f 0) (Tr.sF x d (.e fun i=>f (2*i+1)) (k/2)) (.e fun i=>f (2*i+2))
   |false=> .n (f 0) (.e fun i=>f (2*i+1)) (Tr.sF x d (.e fun i=>f (2*i+2)) (k/2 - 1))
 |d+1, .n y l r,k=>match Nat.beq k 0 with
  |true=> .n x l r
  |false=>match Nat.beq (k%2) 1 with
   |true=> .n y (Tr.sF x d l (k/2)) r
   |false=> .n y l (Tr.sF x d r (k/2 - 1))
noncomputable def Tr.set {α:Type}(t:Tr α)(k:Nat)(x:α):Tr α:=Tr.sF x 24 t k
theorem Tr.sG {α:Type}{x:α}{l r:Tr α}{k:Nat}:(Tr.n x l r).get k=if k=0 then x else if k%2=1 then l.get (k/2)else r.get (k/2 - 1):=by
 show @Bool.rec (fun _=>α) (@Bool.rec (fun _=>α) (r.get (k/2 - 1)) (l.get (k/2)) (Nat.beq (k%2) 1)) x (Nat.beq k 0)=_
 by_cases h:k=0
 ·subst h;rfl
 ·have:Nat.beq k 0=false:=by cases k with|zero=>exact absurd rfl h|succ k=>rfl
  simp only[this,h,if_false]
  by_cases h2:k%2=1
  ·simp[h2]
  ·have:Nat.beq (k%2) 1=false:=by
    cases hb:Nat.beq (k%2) 1 with
    |false=>rfl
    |true=>exact absurd (Nat.eq_of_beq_eq_true hb) h2
   simp[h2,this]
theorem Tr.mF {α:Type}(x:α):∀ (d:Nat) (t:Tr α) (k:Nat),(Tr.sF x d t k).get=aq t.get k x
 |0,t,k=>rfl
 |d+1, .e f,k=>by
  funext i
  simp only[Tr.sF]
  have hb:∀a b:Nat,Nat.beq a b=decide (a=b):=fun a b=>by
   cases h:Nat.beq a b with
   |true=>simp[Nat.eq_of_beq_eq_true h]
   |false=>simp[Nat.ne_of_beq_eq_false h]
  rw[hb,hb]
  by_cases h:k=0
  ·subst h
   simp only[decide_true,Tr.sG,aJ]
   by_cases hi:i=0
   ·simp[hi]
   ·simp only[hi,if_false]
    by_cases h2:i%2=1
    ·simp only[h2,if_true,Tr.BN];congr 1;omega
    ·simp only[h2,if_false,Tr.BN];congr 1;omega
  ·simp only[h,decide_false]
   by_cases hk:k%2=1
   ·simp only[hk,decide_true,Tr.sG,Tr.mF x d,aJ,Tr.BN]
    by_cases hi:i=0
    ·subst hi;simp[Ne.symm h]
    ·simp only[hi,if_false]
     by_cases h2:i%2=1
     ·simp only[h2,if_true]
      have e1:2*(i/2)+1=i:=by omega
      rw[e1]
      by_cases e:i=k
      ·simp[e]
      ·rw[if_neg e,if_neg (by omega)]
     ·simp only[h2,if_false]
      rw[if_neg (by intro e;subst e;exact h2 hk)]
      congr 1;omega
   ·simp only[hk,decide_false,Tr.sG,Tr.mF x d,aJ,Tr.BN]
    by_cases hi:i=0
    ·subst hi;simp[Ne.symm h]
    ·simp only[hi,if_false]
     by_cases h2:i%2=1
     ·simp only[h2,if_true]
      rw[if_neg (by intro e;subst e;exact hk h2)]
      congr 1;omega
     ·simp only[h2,if_false]
      have e1:2*(i/2 - 1)+2=i:=by omega
      rw[e1]
      by_cases e:i=k
      ·simp[e]
      ·rw[if_neg e,if_neg (by omega)]
 |d+1, .n y l r,k=>by
  funext i
  simp only[Tr.sF]
  have hb:∀a b:Nat,Nat.beq a b=decide (a=b):=fun a b=>by
   cases h:Nat.beq a b with
   |true=>simp[Nat.eq_of_beq_eq_true h]
   |false=>simp[Nat.ne_of_beq_eq_false h]
  rw[hb,hb]
  by_cases h:k=0
  ·subst h
   simp only[decide_true,Tr.sG,aJ]
   by_cases hi:i=0
   ·simp[hi]
   ·simp[hi]
  ·simp only[h,decide_false]
   by_cases hk:k%2=1
   ·simp only[hk,decide_true,Tr.sG,Tr.mF x d,aJ]
    by_cases hi:i=0
    ·subst hi;simp[Ne.symm h]
    ·simp only[hi,if_false]
     by_cases h2:i%2=1
     ·simp only[h2,if_true]
      by_cases e:i=k
      ·simp[e]
      ·rw[if_neg e,if_neg (by omega)]
     ·simp only[h2,if_false]
      rw[if_neg (by intro e;subst e;exact h2 hk)]
   ·simp only[hk,decide_false,Tr.sG,Tr.mF x d,aJ]
    by_cases hi:i=0
    ·subst hi;simp[Ne.symm h]
    ·simp only[hi,if_false]
     by_cases h2:i%2=1
     ·simp only[h2,if_true]
      rw[if_neg (by intro e;subst e;exact hk h2)]
     ·simp only[h2,if_false]
      by_cases e:i=k
      ·simp[e]
      ·rw[if_neg e,if_neg (by omega)]
theorem Tr.iR {α:Type}(t:Tr α)(k:Nat)(x:α):(t.set k x).get=aq t.get k x:=Tr.mF x 24 t k
noncomputable def Nat.fc {β:Type}(n:Nat)(c:Nat->β):β:=Nat.rec (motive:=fun _=>β) (c 0) (fun m _=>c (Nat.succ m)) n
theorem Nat.cZ {β:Type}(n:Nat)(c:Nat->β):Nat.fc n c=c n:=by cases n<;>rfl
noncomputable def Int.fc {β:Type}(n:Int)(c:Int->β):β:=Int.rec (motive:=fun _=>β) (fun m=>Nat.fc m fun m=>c (.ofNat m)) (fun m=>Nat.fc m fun m=>c (.negSucc m)) n
theorem Int.cZ {β:Type}(n:Int)(c:Int->β):Int.fc n c=c n:=by cases n<;>simp only[Int.fc,Nat.cZ]
mutual
noncomputable def D.fc {β:Type}:D->(D->β)->β
 | .int k n,c=>Int.fc n fun n=>c (.int k n)
 | .bool b,c=>match b with|true=>c (.bool true)|false=>c (.bool false)
 | .agg l,c=>D.sH l fun l=>c (.agg l)
 | .sl l,c=>D.sH l fun l=>c (.sl l)
 | .iface t x,c=>D.fc x fun x=>c (.iface t x)
 | .str s,c=>c (.str s)
 | .fH,c=>c .fH
 | .gE,c=>c .gE
 | .aV,c=>c .aV
 | .cO,c=>c .cO
 | .mp ks vs,c=>D.sH ks fun ks=>D.sH vs fun vs=>c (.mp ks vs)
noncomputable def D.sH {β:Type}:List D->(List D->β)->β
 |[],c=>c []
 |x::xs,c=>D.fc x fun x=>D.sH xs fun xs=>c (x::xs)
end
mutual
theorem D.cZ {β:Type}:∀ (x:D) (c:D->β),D.fc x c=c x
 | .int k n,c=>by simp only[D.fc,Int.cZ]
 | .bool b,c=>by cases b<;>rfl
 | .agg l,c=>by simp only[D.fc,D.fl l]
 | .sl l,c=>by simp only[D.fc,D.fl l]
 | .iface t x,c=>by simp only[D.fc,D.cZ x]
 | .mp ks vs,c=>by simp only[D.fc,D.fl ks,D.fl vs]
 | .str _,_| .fH,_| .gE,_| .aV,_| .cO,_=>by simp only[D.fc]
theorem D.fl {β:Type}:∀ (x:List D) (c:List D->β),D.sH x c=c x
 |[],c=>by simp only[D.sH]
 |x::xs,c=>by simp only[D.sH,D.cZ x,D.fl xs]
end
mutual
noncomputable def V.fc {β:Type}:V->(V->β)->β
 | .d x,c=>D.fc x fun x=>c (.d x)
 | .agg l,c=>V.sH l fun l=>c (.agg l)
 | .bW l,c=>V.sH l fun l=>c (.bW l)
 | .ptr i o,c=>Nat.fc i fun i=>Nat.fc o fun o=>c (.ptr i o)
 | .osl i o,c=>Nat.fc i fun i=>Nat.fc o fun o=>c (.osl i o)
 | .pe a b i j k,c=>Nat.fc a fun a=>Nat.fc b fun b=>Nat.fc i fun i=>Nat.fc j fun j=>Nat.fc k fun k=>c (.pe a b i j k)
 | .pp l o,c=>D.sH l fun l=>Nat.fc o fun o=>c (.pp l o)
 | .func f a b,c=>V.sH a fun a=>V.sH b fun b=>c (.func f a b)
 | .iface t x,c=>V.fc x fun x=>c (.iface t x)
 | .nC l,c=>D.sH l fun l=>c (.nC l)
 | .rz i j k,c=>Nat.fc i fun i=>Nat.fc j fun j=>Nat.fc k fun k=>c (.rz i j k)
 | .mp i,c=>Nat.fc i fun i=>c (.mp i)
 | .ko i,c=>Nat.fc i fun i=>c (.ko i)
 | .aW,c=>c .aW
 | .ab,c=>c .ab
 | .eY,c=>c .eY
noncomputable def V.sH {β:Type}:List V->(List V->β)->β
 |[],c=>c []
 |x::xs,c=>V.fc x fun x=>V.sH xs fun xs=>c (x::xs)
end
mutual
theorem V.cZ {β:Type}:∀ (x:V) (c:V->β),V.fc x c=c x
 | .d x,c=>by simp only[V.fc,D.cZ]
 | .agg l,c=>by simp only[V.fc,V.fl l]
 | .bW l,c=>by simp only[V.fc,V.fl l]
 | .pp l o,c=>by simp only[V.fc,D.fl,Nat.cZ]
 | .func f a b,c=>by simp only[V.fc,V.fl a,V.fl b]
 | .iface t x,c=>by simp only[V.fc,V.cZ x]
 | .nC l,c=>by simp only[V.fc,D.fl]
 | .ptr _ _,_| .osl _ _,_| .pe _ _ _ _ _,_| .rz _ _ _,_| .mp _,_| .ko _,_| .aW,_| .ab,_| .eY,_=>by simp only[V.fc,Nat.cZ]
theorem V.fl {β:Type}:∀ (x:List V) (c:List V->β),V.sH x c=c x
 |[],c=>by simp only[V.sH]
 |x::xs,c=>by simp only[V.sH,V.cZ x,V.fl xs]
end
section
variable {β:Type}
noncomputable def Pl(k:IntKind)(n:Int)(c:V->β):β:=Int.fc n fun n=>c (.d (.int k n))
noncomputable def Pm(b:Bool)(c:V->β):β:= @Bool.rec (fun _=>β) (c (.d (.bool false))) (c (.d (.bool true))) b
noncomputable def Lw(x:D)(c:V->β):β:=D.fc x fun x=>c (.d x)
noncomputable def vD(x:D):(V->β)->β:=match x with| .int k n=>Pl k n| .bool b=>Pm b|x=>Lw x
noncomputable def Pn(i o:Nat)(c:V->β):β:=Nat.fc i fun i=>Nat.fc o fun o=>c (.ptr i o)
noncomputable def Po(i o:Nat)(c:V->β):β:=Nat.fc i fun i=>Nat.fc o fun o=>c (.osl i o)
noncomputable def WD(a b i j k:Nat)(c:V->β):β:=Nat.fc a fun a=>Nat.fc b fun b=>Nat.fc i fun i=>Nat.fc j fun j=>Nat.fc k fun k=>c (.pe a b i j k)
noncomputable def V.Ny (v:V):(V->β)->β:=match v with| .d x=>vD x| .ptr i o=>Pn i o| .osl i o=>Po i o| .pe a b i j k=>WD a b i j k|v=>V.fc v
theorem V.Lx (v:V)(c:V->β):V.Ny v c=c v:=by
 cases v
 case d x=>
  cases x
  case int k n=>simp only[V.Ny,vD,Pl,Int.cZ]
  case bool b=>cases b<;>rfl
  all_goals exact D.cZ _ _
 case ptr i o=>simp only[V.Ny,Pn,Nat.cZ]
 case osl i o=>simp only[V.Ny,Po,Nat.cZ]
 case pe a b i j k=>simp only[V.Ny,WD,Nat.cZ]
 all_goals exact V.cZ _ _
end
noncomputable def Nz{β:Type}:List (D×D)->(List (D×D)->β)->β
 |[],c=>c []
 |(a,b)::l,c=>D.fc a fun a=>D.fc b fun b=>Nz l fun l=>c ((a,b)::l)
theorem FG{β:Type}:∀ (x:List (D×D)) (c:List (D×D)->β),Nz x c=c x
 |[],c=>rfl
 |(a,b)::l,c=>by simp only[Nz,D.cZ,FG l]
noncomputable def ae.fc {β:Type}(x:ae)(c:ae->β):β:=
 match x with
 | .row cs=>V.sH cs fun cs=>c (.row cs)
 | .arr e t s es=>Nat.fc e fun e=>Nat.fc s fun s=>D.sH es fun es=>c (.arr e t s es)
 | .oh e es=>Nat.fc e fun e=>D.sH es fun es=>c (.oh e es)
 | .map kt vt l=>Nz l fun l=>c (.map kt vt l)
 | .et l=>Nz l fun l=>c (.et l)
 | .kg l last=>Nz l fun l=>c (.kg l last)
 | .rA l pos=>Nat.fc pos fun pos=>c (.rA l pos)
 |x=>c x
theorem ae.cZ {β:Type}(x:ae)(c:ae->β):ae.fc x c=c x:=by cases x<;>simp only[ae.fc,V.fl,D.fl,Nat.cZ,FG]
noncomputable def Tr.uP {α β:Type}(x:α)(d:Nat):Tr α->Nat->(Tr α->β)->β:=
 Nat.rec (motive:=fun _=>Tr α->Nat->(Tr α->β)->β) (fun t k c=>c (.e (aq t.get k x)))
  (fun _ ih t k c=>Tr.rec (motive:=fun _=>β) (fun f=>
   Bool.rec (Bool.rec (ih (.e fun i=>f (2*i+2)) (Nat.sub (Nat.div k 2) 1) fun r=>c (.n (f 0) (.e fun i=>f (2*i+1)) r)) (ih (.e fun i=>f (2*i+1)) (Nat.div k 2) fun l=>c (.n (f 0) l (.e fun i=>f (2*i+2)))) (Nat.beq (Nat.mod k 2) 1))
    (c (.n x (.e fun i=>f (2*i+1)) (.e fun i=>f (2*i+2)))) (Nat.beq k 0))
   (fun y l r _ _=>Bool.rec (Bool.rec (ih r (Nat.sub (Nat.div k 2) 1) fun r=>c (.n y l r)) (ih l (Nat.div k 2) fun l=>c (.n y l r)) (Nat.beq (Nat.mod k 2) 1)) (c (.n x l r)) (Nat.beq k 0)) t) d
theorem Tr.sI {α β:Type}(x:α):∀ (d:Nat) (t:Tr α) (k:Nat) (c:Tr α->β),Tr.uP x d t k c=c (Tr.sF x d t k)
 |0,t,k,c=>rfl
 |d+1, .e f,k,c=>by
  show @Bool.rec (fun _=>β) (@Bool.rec (fun _=>β) (Tr.uP x d (.e fun i=>f (2*i+2)) (k/2 - 1) fun r=>c (.n (f 0) (.e fun i=>f (2*i+1)) r)) (Tr.uP x d (.e fun i=>f (2*i+1)) (k/2) fun l=>c (.n (f 0) l (.e fun i=>f (2*i+2)))) (Nat.beq (k%2) 1)) (c (.n x (.e fun i=>f (2*i+1)) (.e fun i=>f (2*i+2)))) (Nat.beq k 0)=_
  simp only[Tr.sF,Tr.sI x d]
  cases Nat.beq k 0
  ·cases Nat.beq (k%2) 1<;>rfl
  ·rfl
 |d+1, .n y l r,k,c=>by
  show @Bool.rec (fun _=>β) (@Bool.rec (fun _=>β) (Tr.uP x d r (k/2 - 1) fun r=>c (.n y l r)) (Tr.uP x d l (k/2) fun l=>c (.n y l r)) (Nat.beq (k%2) 1)) (c (.n x l r)) (Nat.beq k 0)=_
  simp only[Tr.sF,Tr.sI x d]
  cases Nat.beq k 0
  ·cases Nat.beq (k%2) 1<;>rfl
  ·rfl
noncomputable def Tr.Ly {α β:Type}(t:Tr α)(k:Nat)(x:α)(c:Tr α->β):β:=Tr.uP x 24 t k c
theorem Tr.BO {α β:Type}(t:Tr α)(k:Nat)(x:α)(c:Tr α->β):t.Ly k x c=c (t.set k x):=Tr.sI x 24 t k c
structure St where
 env:Tr V
 o:Tr ae
 nx:Nat
noncomputable def St.S (st:St):S:=⟨st.env.get,st.o.get,st.nx⟩
noncomputable def Dp(o:Tr ae)(Δ:List (Nat×ae)):Tr ae:=Δ.foldl (fun f x=>f.set x.1 x.2) o
noncomputable def qB(env:Tr V)(dst:Option Tmp)(v:V):Tr V:=match dst with|some d=>env.set d v|none=>env
noncomputable def sJ{β:Type}(o:Tr ae):List (Nat×ae)->(Tr ae->β)->β
 |[],c=>c o
 |(i,x)::Δ,c=>ae.fc x fun x=>o.Ly i x fun o=>sJ o Δ c
theorem mG{β:Type}:∀ (Δ:List (Nat×ae)) (o:Tr ae) (c:Tr ae->β),sJ o Δ c=c (Dp o Δ)
 |[],o,c=>rfl
 |(i,x)::Δ,o,c=>by simp only[sJ,ae.cZ,Tr.BO,mG Δ];rfl
noncomputable def lC{β:Type}(env:Tr V)(dst:Option Tmp)(v:V)(c:Tr V->β):β:=match dst with|some d=>V.Ny v fun v=>env.Ly d v c|none=>c env
theorem ja{β:Type}(env:Tr V)(dst:Option Tmp)(v:V)(c:Tr V->β):lC env dst v c=c (qB env dst v):=by
 cases dst<;>simp only[lC,qB,V.Lx,Tr.BO]
theorem ju:∀ (Δ:List (Nat×ae)) (o:Tr ae),(Dp o Δ).get=put o.get Δ
 |[],_=>rfl
 |x::Δ,o=>by
  simp only[Dp,put,List.foldl_cons]
  have:=ju Δ (o.set x.1 x.2)
  simp only[Dp,put]at this
  rw[this,Tr.iR]
theorem eD(env:Tr V)(dst:Option Tmp)(v:V):(qB env dst v).get=aY env.get dst v:=by
 cases dst<;>simp[qB,aY,Tr.iR]
section Lz
def JJ(x:Operand)(_:Program)(s:S)(_:Nat):Option gq:=one (s.ev x)
def Pp(c a b:Operand)(_:Program)(s:S)(_:Nat):Option gq:=lz (oT (s.ev c) (s.ev a) (s.ev b))
def LA(t:TypeId)(parts:Array (Nat×Operand))(P:Program)(s:S)(_:Nat):Option gq:=lz (vS P t (parts.toList.map fun p=>(p.1,s.ev p.2)))
def yu(t:TypeId)(len:Nat)(parts:Array (Nat×Operand))(P:Program)(s:S)(fr:Nat):Option gq:=fU P s.o fr t len (parts.toList.map fun p=>(p.1,s.ev p.2))
def Pq(t:TypeId)(x:Operand)(P:Program)(s:S)(_:Nat):Option gq:=mu P s.o t (s.ev x)
def LB(t:TypeId)(x v:Operand)(P:Program)(s:S)(_:Nat):Option gq:=pS P s.o t (s.ev x) (s.ev v)
def T0(x:Operand)(_:Program)(s:S)(_:Nat):Option gq:=lz (iV s.o (s.ev x))
noncomputable def Pr(op:BinOp):IntKind->Int->Int->Option V:=
 match op with
 | .add=>fun k a b=>some (.d (.int k (k.wrap (Int.add a b))))
 | .sub=>fun k a b=>some (.d (.int k (k.wrap (Int.sub a b))))
 | .mul=>fun k a b=>some (.d (.int k (k.wrap (Int.mul a b))))
 |op=>xT op
theorem HZ(op:BinOp):Pr op=xT op:=by cases op<;>rfl
def asInt(x:V):Option (IntKind×Int):=match x with| .d (.int k a)=>some (k,a)|_=>none
def FH(op:BinOp)(t:TypeId)(c:Bool)(x y:V)(P:Program)(o:Nat->ae):Option gq:=dA P o op t c x y
noncomputable def Ps(op:BinOp)(t:TypeId)(x y:Operand)(P:Program)(s:S)(_:Nat):Option gq:=
 match asInt (s.ev x)with
 |some (k,a)=>match asInt (s.ev y)with
  |some (k',b)=>if k=k' then match Pr op k a b with
   |some v=>some (v,[],[])
   |none=>FH op t (isConst x||isConst y) (s.ev x) (s.ev y) P s.o
   else none
  |none=>FH op t (isConst x||isConst y) (s.ev x) (s.ev y) P s.o
 |none=>FH op t (isConst x||isConst y) (s.ev x) (s.ev y) P s.o
theorem yw{x:V}{k:IntKind}{a:Int}(h:asInt x=some (k,a)):x= .d (.int k a):=by
 unfold asInt at h;split at h
 ·injection h with h;cases h;rfl
 ·cases h
def AK(t:TypeId)(x:Operand)(f:Nat)(P:Program)(s:S)(_:Nat):Option gq:=lz (gN P s.o t (s.ev x) f)
def AL(t:TypeId)(x i:Operand)(P:Program)(s:S)(_:Nat):Option gq:=gM P s.o t (s.ev x) (s.ev i)
def LC(op:Op)(P:Program)(s:S)(fr:Nat):Option gq:=gf P s fr op
noncomputable def H3(op:Op):Program->S->Nat->Option gq:=
 match op with
 | .move x=>JJ x
 | .assign x=>JJ x
 | .pick c a b=>Pp c a b
 | .build t parts=>LA t parts
 | .buildSlice t len parts=>yu t len parts
 | .load t x=>Pq t x
 | .store t x v=>LB t x v
 | .nilCheck x=>T0 x
 | .binOp op t x y _=>Ps op t x y
 | .fieldAddr t x f=>AK t x f
 | .indexAddr t x i=>AL t x i
 |op=>LC op
theorem BP{op:Op}{P:Program}{s:S}{fr:Nat}{r:gq}(h:H3 op P s fr=some r):gf P s fr op=some r:=by
 cases op
 case binOp op t x y yt=>
  simp only[H3,Ps,HZ]at h
  have e:gf P s fr (.binOp op t x y yt)=dA P s.o op t (isConst x||isConst y) (s.ev x) (s.ev y):=rfl
  rw[e]
  split at h
  ·rename_i k a hx
   split at h
   ·rename_i k' b hy
    split at h
    ·rename_i hk
     split at h
     ·rename_i v hv
      unfold dA vR
      simp only[yw hx,yw hy,if_pos hk,hv]
      exact h
     ·exact h
    ·cases h
   ·exact h
  ·exact h
 all_goals exact h
end Lz
inductive FD where
 |fn (n:Nat) (ic:IC) (rs:List ResultVar)
 |T1 (n:Nat) (lS gY:IC) (g t:Nat) (iQ:List Operand) (rs:List ResultVar) (m r r1:Nat) (yr:IC)
 |no
def FD.Ok (P:Program)(f:Nat):FD->Prop
 | .fn n ic rs=>aN P f n ic rs
 | .T1 n lS gY g t iQ rs m r r1 yr=>FB P f n lS gY g t iQ rs/\BM P g m r r1 yr
 | .no=>True
inductive CR where
 |ret (v:V) (o:Tr ae) (nx:Nat)|bK (v:V) (o:Tr ae) (nx:Nat)
def CR.to (K X:V->(Nat->ae)->Nat->Prop):CR->Prop
 | .ret v o nx=>K v o.get nx
 | .bK v o nx=>X v o.get nx
inductive RO where
 |ok (st:St)|bK (v:V) (st:St)
def RO.to (K:S->Prop)(X:V->S->Prop):RO->Prop
 | .ok st=>K st.S
 | .bK v st=>X v st.S
inductive eB where
 |r (x:R)|c (x:CR)
abbrev Kt:=fq->St->Option eB
abbrev dF:=Nat->Bool->Nat->IC->St->Kt->Option eB
noncomputable def Dq(P:Program)(rs:List ResultVar)(st:St)(kc:CR->Option eB):Option eB:=
 match lj P st.S rs with
 |some [v]=>kc (.ret v st.o st.nx)
 |some vs=>kc (.ret (.bW vs) st.o st.nx)
 |none=>none
noncomputable def JK(P:Program)(rs:List ResultVar)(kc:CR->Option eB):Kt:=fun e st=>
 match e with
 | .normal=>Dq P rs st kc
 | .ret=>Dq P rs st kc
 | .bK v=>kc (.bK v st.o st.nx)
 | .exit _=>none
noncomputable def FI(P:Program)(rs:List ResultVar)(kc:CR->Option eB)(env:Tr V):Kt:=fun e s4=>
 match e with
 | .normal=>Dq P rs ⟨env,s4.o,s4.nx⟩ kc
 | .ret=>Dq P rs ⟨env,s4.o,s4.nx⟩ kc
 |_=>none
def Pt:fq->Option V
 | .normal=>some (.d .fH)
 | .ret=>some (.d .fH)
 | .bK v=>some v
 | .exit _=>none
noncomputable def FJ(P:Program)(rec:dF)(rs:List ResultVar)(dE:List V)(m r r1:Nat)(yr:IC)(kc:CR->Option eB):Kt:=fun e s3=>
 match Pt e with
 |some u=>if dE.length<=m then rec s3.nx true m yr ⟨.e (aq (aq (cN dE) r u) r1 u),s3.o,s3.nx⟩ (FI P rs kc s3.env)else none
 |none=>none
noncomputable def BQ(P:Program)(rec:dF)(n t:Nat)(gY:IC)(g:Nat)(iQ:List Operand)(rs:List ResultVar)(m r r1:Nat)(yr:IC)(kc:CR->Option eB):Kt:=fun e s1=>
 match e with
 | .normal=>rec s1.nx false n gY ⟨s1.env.set t (.func (.func g) [] (iQ.map s1.S.ev)),s1.o,s1.nx⟩ (FJ P rec rs (iQ.map s1.S.ev) m r r1 yr kc)
 |_=>none
noncomputable def FK(P:Program)(b9:Nat->FD)(rec:dF)(g:Nat)(args:List V)(o:Tr ae)(nx:Nat)(kc:CR->Option eB):Option eB:=
 match b9 g with
 | .fn n ic rs=>if args.length<=n then rec nx false n ic ⟨.e (cN args),o,nx⟩ (JK P rs kc)else none
 | .T1 n lS gY g t iQ rs m r r1 yr=>if args.length<=n then rec nx true n lS ⟨.e (cN args),o,nx⟩ (BQ P rec n t gY g iQ rs m r r1 yr kc)else none
 | .no=>none
def sK:V->List V
 | .bW vs=>vs
 |v=>[v]
noncomputable def BR(r:CR):Option R:=
 match r with
 | .ret v o _=>match v with
   | .bW [_]=>none
   |v=>match bZ o.get (sK v)with
    |some rs=>some (.ret rs)
    |none=>none
 | .bK v o _=>match dG o.get v with
   |some x=>some (.bK x)
   |none=>none
noncomputable def Pu{β:Type}(x:R)(c:R->β):β:=match x with| .ret l=>D.sH l fun l=>c (.ret l)| .bK d=>D.fc d fun d=>c (.bK d)
theorem AM{β:Type}(x:R)(c:R->β):Pu x c=c x:=by cases x<;>simp only[Pu,D.fl,D.cZ]
noncomputable def yx(r:CR):Option eB:=match BR r with|some x=>Pu x fun x=>some (.r x)|none=>none
theorem FL{r:CR}{a:eB}(h:yx r=some a):∃x,BR r=some x/\a= .r x:=by
 unfold yx at h
 split at h
 ·rename_i x hx;rw[AM]at h;injection h with h;exact⟨x,hx,h.symm⟩
 ·cases h
def FM(out:R)(o:Tr ae)(nx:Nat):CR:=
 match out with
 | .ret rs=> .ret (iM rs) o nx
 | .bK x=> .bK (.d x) o nx
structure qY (P:Program) where
 Pv:Nat->Bool
 fx:Nat->List D->Option R
 ok:∀g ds out,fx g ds=some out->cq P g ds out
def FN(l:List (Nat×List D×R))(g:Nat)(ds:List D):Option R:=
 match l with
 |[]=>none
 |x::l=>match Nat.beq x.1 g with
  |true=>match D.fO x.2.1 ds with
   |true=>some x.2.2
   |false=>FN l g ds
  |false=>FN l g ds
theorem wo{P:Program}:∀ {l:List (Nat×List D×R)},(∀x∈l,cq P x.1 x.2.1 x.2.2)->∀g ds out,FN l g ds=some out->cq P g ds out
 |[],_,_,_,_,h=>by cases h
 |x::l,hl,g,ds,out,h=>by
  simp only[FN]at h
  split at h
  ·rename_i hg
   split at h
   ·rename_i hd
    injection h with h
    have:=hl x (by simp)
    rw[Nat.eq_of_beq_eq_true hg,D.dx _ _ hd,h]at this
    exact this
   ·exact wo (fun y hy=>hl y (by simp[hy])) g ds out h
  ·exact wo (fun y hy=>hl y (by simp[hy])) g ds out h
def qY.of {P:Program}(Pv:Nat->Bool)(l:List (Nat×List D×R))(h:∀x∈l,cq P x.1 x.2.1 x.2.2):qY P:=⟨Pv,FN l,wo h⟩
noncomputable def H4(P:Program)(b9:Nat->FD)(md:qY P)(rec:dF)(g:Nat)(ds:List D):Option R:=
 match md.fx g ds with
 |some out=>some out
 |none=>match FK P b9 rec g (ds.map .d) (.e fun _=> .no) 0 yx with
  |some (.r x)=>some x
  |_=>none
noncomputable def JL(out:R)(o:Tr ae)(nx:Nat)(args:List V)(kc:CR->Option eB):Option eB:=
 match out.flat with
 |true=>kc (FM out o (nx+1))
 |false=>match out.mh with
  |true=>kc (FM out (Dp o (qM o.get (V.ba args))) (nx+1))
  |false=>kc (FM out (Dp o (cw o.get (V.ba args))) (nx+1))
noncomputable def BS(P:Program)(b9:Nat->FD)(md:qY P)(rec:dF)(g:Nat)(args:List V)(o:Tr ae)(nx:Nat)(kc:CR->Option eB):Option eB:=
 match md.Pv g,bZ o.get args with
 |true,some ds=>match H4 P b9 md rec g ds with
  |some out=>JL out o nx args kc
  |none=>none
 |_,_=>FK P b9 rec g args o nx kc
noncomputable def FO(id:Nat)(kc:CR->Option eB):Kt:=fun e s2=>
 match e with
 | .bK v=>kc (.bK v s2.o s2.nx)
 |e=>match s2.o.get id with
  | .loop nf m en p c d _ _=>match e with
    | .normal=>kc (.ret (.d (.bool true)) (s2.o.set id (.loop nf m en p c d .ready none)) s2.nx)
    | .ret=>kc (.ret (.d (.bool false)) (s2.o.set id (.loop nf m en p c d .done (some .ret))) s2.nx)
    | .exit j=>kc (.ret (.d (.bool false)) (s2.o.set id (.loop nf m en p c d .done (some (.exit j)))) s2.nx)
    | .bK _=>none
  |_=>none
noncomputable def BT(rec:dF)(id nx n:Nat)(gY:IC)(kc:CR->Option eB):Kt:=fun e s1=>
 match e with
 | .normal=>match s1.o.get id with
   | .loop nf m en p c d .ready pd=>rec nx true n gY ⟨s1.env,s1.o.set id (.loop nf m en p c d .busy pd),s1.nx⟩ (FO id kc)
   |_=>none
 | .bK v=>kc (.bK v s1.o s1.nx)
 |_=>none
noncomputable def LD(P:Program)(rec:dF)(id:Nat)(args:List V)(o:Tr ae)(nx:Nat)(kc:CR->Option eB):Option eB:=
 match o.get id with
 | .loop nf n env ps lS gY _ _=>if nf=P.funcs.size/\id<nx/\ps.all (fun t=>decide (t<n))=true/\args.length=ps.length then
  rec nx true n lS ⟨.e (sr (bB env) ps args),o,nx⟩ (BT rec id nx n gY kc)
   else none
 |_=>none
noncomputable def uQ(P:Program)(st:St)(o:cf)(kr:RO->Option eB):Option eB:=
 match H3 o.op P st.S st.nx with
 |some (v,Δ,_)=>lC st.env o.dst v fun e=>sJ st.o Δ fun ob=>Nat.fc (st.nx+1) fun n=>kr (.ok ⟨e,ob,n⟩)
 |none=>none
noncomputable def Pw(st:St)(dst:Option Nat)(kr:RO->Option eB)(c:CR):Option eB:=
 match c with
 | .ret v o nx=>lC st.env dst v fun e=>Nat.fc nx fun nx=>kr (.ok ⟨e,o,nx⟩)
 | .bK v o nx=>kr (.bK v ⟨st.env,o,nx⟩)
noncomputable def FP(c:Call)(P:Program)(b9:Nat->FD)(md:qY P)(rec:dF)(st:St)(o:cf)(kr:RO->Option eB):Option eB:=
 match c.callee with
 | .value f=>match st.S.ev f with
   | .func (.func g) first cap=>BS P b9 md rec g (first++c.args.toList.map st.S.ev++cap) st.o st.nx (Pw st o.dst kr)
   | .ko id=>LD P rec id (c.args.toList.map st.S.ev) st.o st.nx (Pw st o.dst kr)
   |_=>none
 | .invoke r m=>match xJ P m (st.S.ev r)with
   |some (g,y)=>BS P b9 md rec g (y::c.args.toList.map st.S.ev) st.o st.nx (Pw st o.dst kr)
   |none=>none
 |_=>uQ P st o kr
noncomputable def LF(x:Operand)(P:Program)(_:Nat->FD)(_:qY P)(_:dF)(st:St)(_:cf)(kr:RO->Option eB):Option eB:=
 match st.S.ev x with
 | .d (.iface t y)=>kr (.bK (.d (.iface t y)) st)
 | .iface t y=>kr (.bK (.iface t y) st)
 |_=>none
noncomputable def Px(P:Program)(_:Nat->FD)(_:qY P)(_:dF)(st:St)(o:cf)(kr:RO->Option eB):Option eB:=uQ P st o kr
def R.same:R->R->Bool
 | .ret a, .ret b=>D.fO a b
 | .bK a, .bK b=>a.same b
 |_,_=>false
theorem R.ee {x y:R}(h:x.same y=true):x=y:=by
 cases x<;>cases y<;>simp only[R.same,Bool.false_eq_true]at h
 ·rw[D.dx _ _ h]
 ·rw[D.ee _ _ h]
noncomputable def Sz(f:Nat->Option eB):Nat->Option eB
 |0=>none
 |n+1=>match n with
  |0=>f 0
  |n=>match Sz f n with
   |some (.r a)=>match f n with
    |some (.r b)=>match R.same a b with
     |true=>some (.r a)
     |false=>none
    |_=>none
   |_=>none
theorem FQ{f:Nat->Option eB}{a:eB}:∀ {n:Nat},Sz f n=some a->∀i,i<n->f i=some a
 |0,h,_,_=>by cases h
 |1,h,i,hi=>by obtain rfl:i=0:=by omega
               exact h
 |n+2,h,i,hi=>by
  simp only[Sz]at h
  split at h
  ·rename_i x hx
   split at h
   ·rename_i y hy
    split at h
    ·rename_i he
     have e:=R.ee he
     subst e
     rw[<- h]
     by_cases e:i=n+1
     ·subst e;exact hy
     ·exact FQ hx i (by omega)
    ·cases h
   ·cases h
  ·cases h
noncomputable def H5(st:St)(dst:Option Nat)(kr:RO->Option eB)(v:V)(Δ:List (Nat×ae)):Option eB:=
 lC st.env dst v fun e=>sJ st.o Δ fun ob=>Nat.fc (st.nx+1) fun n=>kr (.ok ⟨e,ob,n⟩)
noncomputable def FR(x:Operand)(str:Bool)(P:Program)(_:Nat->FD)(_:qY P)(_:dF)(st:St)(o:cf)(kr:RO->Option eB):Option eB:=
 match np st.o.get (st.S.ev x)with
 |some (id,l)=>match str with
  |true=>none
  |false=>match l with
   |[]=>H5 st o.dst kr (.bW [.d (.bool false)]) []
   |_=>Sz (fun i=>match l[i]? with
    |some (k,x)=>H5 st o.dst kr (.bW [.d (.bool true), .d k, .d x]) [(id, .kg (l.eraseIdx i) (some (k,x)))]
    |none=>none) l.length
 |none=>uQ P st o kr
noncomputable def Za(op:Op):(P:Program)->(Nat->FD)->qY P->dF->St->cf->(RO->Option eB)->Option eB:=
 match op with
 | .call c=>FP c
 | .panic x=>LF x
 | .next x str=>FR x str
 |_=>Px
noncomputable def SA(P:Program)(b9:Nat->FD)(md:qY P)(rec:dF)(st:St)(o:cf)(kr:RO->Option eB):Option eB:=Za o.op P b9 md rec st o kr
noncomputable def WE(next:St->Option eB)(kr:RO->Option eB):RO->Option eB:=fun r=>match r with| .ok st=>next st| .bK v st=>kr (.bK v st)
noncomputable def wq(P:Program)(b9:Nat->FD)(md:qY P)(rec:dF)(kr:RO->Option eB):List cf->St->Option eB
 |[],st=>kr (.ok st)
 |o::l,st=>match(match o.gd with
   |none=>some true
   |some (d,want)=>match st.env.get d with
    | .d (.bool b)=>some (b==want)
    | .bW []=>some false
    |_=>none)with
  |some true=>SA P b9 md rec st o (WE (wq P b9 md rec kr l) kr)
  |some false=>lC st.env o.dst (.bW []) fun e=>Nat.fc (st.nx+1) fun n=>wq P b9 md rec kr l ⟨e,st.o,n⟩
  |none=>none
section
variable {P:Program}{b9:Nat->FD}{md:qY P}
noncomputable def eG(P:Program)(rec:dF):Prop:=∀b rd n ic st k a,rec b rd n ic st k=some a->∀Q:fq->S->Prop,(∀e st',k e st'=some a->Q e st'.S)->rh P n b rd ic Q st.S
theorem rl{rs:List ResultVar}{st:St}{kc:CR->Option eB}{a:eB}(h:Dq P rs st kc=some a){K X:V->(Nat->ae)->Nat->Prop}(hr:∀r,kc r=some a->r.to K X):lu P rs K X .ret st.S:=by
 unfold Dq at h
 unfold lu
 split at h
 ·rename_i v hv;simp only[hv];exact hr _ h
 ·rename_i vs hv hn
  simp only[hn]
  exact hr _ h
 ·cases h
theorem mH(bc:P.follows .mixedOrders=true)(cF:∀g,(b9 g).Ok P g){rec:dF}(bG:eG P rec){g:Nat}{args:List V}{o:Tr ae}{nx:Nat}{kc:CR->Option eB}{a:eB}(h:FK P b9 rec g args o nx kc=some a){K X:V->(Nat->ae)->Nat->Prop}(hr:∀r,kc r=some a->r.to K X):
 eN P g args o.get nx K X:=by
 have bz:=cF g
 unfold FK at h
 split at h
 ·rename_i n ic rs ht
  rw[ht]at bz
  split at h
  ·rename_i hl
   refine eN.su bc bz hl ?_
   refine bG _ _ _ _ _ _ _ h _ fun e st he=> ?_
   unfold JK at he
   cases e with
   |normal=>exact rl he hr
   |ret=>exact rl he hr
   |bK v=>exact hr _ he
   |exit j=>cases he
  ·cases h
 ·rename_i n lS gY g' t iQ rs m r0 r1 yr ht
  rw[ht]at bz
  split at h
  ·rename_i hl
   refine eN.FF bc bz.1 bz.2 hl (bG _ _ _ _ _ _ _ h _ fun e s1 he=> ?_)
   unfold BQ at he
   cases e with
   |normal=>
    have hb:rh P n s1.nx false gY (AH P m r0 r1 yr (iQ.map s1.S.ev) rs K X) ⟨aq s1.env.get t (.func (.func g') [] (iQ.map s1.S.ev)),s1.o.get,s1.nx⟩:=by
     have:=bG _ _ _ _ _ _ _ he (AH P m r0 r1 yr (iQ.map s1.S.ev) rs K X) (fun e s3 NA=>by
      unfold FJ at NA
      split at NA
      ·rename_i u hu
       split at NA
       ·rename_i jA
        have Zb:Dm P m r0 r1 yr (iQ.map s1.S.ev) u s3.o.get s3.nx fun o nx=>lu P rs K X .ret ⟨s3.env.get,o,nx⟩:=by
         refine⟨jA,bG _ _ _ _ _ _ _ NA _ fun e4 s4 SB=> ?_⟩
         unfold FI at SB
         cases e4 with
         |normal=>exact rl (st:=⟨s3.env,s4.o,s4.nx⟩) SB hr
         |ret=>exact rl (st:=⟨s3.env,s4.o,s4.nx⟩) SB hr
         |_=>cases SB
        cases e<;>simp only[Pt,Option.some.injEq,reduceCtorEq]at hu<;>subst hu<;>exact Zb
       ·cases NA
      ·cases NA)
     simp only[St.S,Tr.iR]at this
     exact this
    exact hb
   |_=>cases he
  ·cases h
 ·cases h
theorem FT{r:CR}{out:R}(ho:BR r=some out):r.to (fun v o _=>∃vs rs,v=(match vs with|[v]=>v|vs=> .bW vs)/\bZ o vs=some rs/\out= .ret rs) (fun v o _=>∃x,dG o v=some x/\out= .bK x):=by
 unfold BR at ho
 split at ho
 ·rename_i v o nx
  split at ho
  ·cases ho
  ·rename_i hv
   split at ho
   ·rename_i rs N8
    injection ho with ho;subst ho
    refine⟨sK v,rs, ?_,N8,rfl⟩
    cases v with
    |bW vs=>
     match vs,hv with
     |[],_=>rfl
     |[x],hv=>exact absurd rfl (hv x)
     |_::_::_,_=>rfl
    |_=>rfl
   ·cases ho
 ·split at ho
  ·rename_i x hx
   injection ho with ho;subst ho
   exact⟨x,hx,rfl⟩
  ·cases ho
theorem yy(bc:P.follows .mixedOrders=true)(cF:∀g,(b9 g).Ok P g){rec:dF}(bG:eG P rec){g:Nat}{ds:List D}{out:R}(h:FK P b9 rec g (ds.map .d) (.e fun _=> .no) 0 yx=some (.r out)):cq P g ds out:=by
 refine cq.lx (mH bc cF bG h fun r hr=> ?_)
 obtain⟨x,hx,he⟩:=FL hr
 injection he with he;subst he
 exact FT hx
theorem wu(bc:P.follows .mixedOrders=true)(cF:∀g,(b9 g).Ok P g){rec:dF}(bG:eG P rec){g:Nat}{ds:List D}{out:R}(h:H4 P b9 md rec g ds=some out):cq P g ds out:=by
 unfold H4 at h
 split at h
 ·rename_i Zc ho
  injection h with h;subst h
  exact md.ok _ _ _ ho
 ·split at h
  ·rename_i x hr;injection h with h;subst h;exact yy bc cF bG hr
  ·cases h
theorem yz(bc:P.follows .mixedOrders=true)(cF:∀g,(b9 g).Ok P g){rec:dF}(bG:eG P rec){g:Nat}{args:List V}{o:Tr ae}{nx:Nat}{kc:CR->Option eB}{a:eB}(h:BS P b9 md rec g args o nx kc=some a){K X:V->(Nat->ae)->Nat->Prop}(hr:∀r,kc r=some a->r.to K X):
 Je P g args o.get nx K X:=by
 unfold BS at h
 split at h
 ·rename_i ds Z0 eW
  split at h
  ·rename_i out FU
   have hP:=wu bc cF bG FU
   refine .inl ⟨ds,eW,out,hP, ?_⟩
   unfold JL at h
   split at h
   ·rename_i hf
    refine .inr (.inl ⟨hf, ?_⟩)
    cases out<;>exact hr _ h
   ·split at h
    ·rename_i hf
     refine .inr (.inr ⟨hf, ?_⟩)
     rw[<- ju]
     cases out<;>exact hr _ h
    ·refine .inl ?_
     rw[<- ju]
     cases out<;>exact hr _ h
  ·cases h
 ·exact .inr (mH bc cF bG h hr)
theorem H6(bc:P.follows .mixedOrders=true){rec:dF}(bG:eG P rec){id:Nat}{args:List V}{o:Tr ae}{nx:Nat}{kc:CR->Option eB}{a:eB}(h:LD P rec id args o nx kc=some a){K X:V->(Nat->ae)->Nat->Prop}(hr:∀r,kc r=some a->r.to K X):
 dM P id args o.get nx K X:=by
 unfold LD at h
 split at h
 ·rename_i nf n env ps lS gY st pd ho
  split at h
  ·rename_i hc
   obtain⟨rfl,bM,HY,hl⟩:=hc
   refine dM.su bc ho bM HY hl ?_
   refine bG _ _ _ _ _ _ _ h _ fun e s1 he=> ?_
   unfold BT at he
   cases e with
   |normal=>
    simp only at he
    split at he
    ·rename_i nf m en p c d pd jB
     refine⟨nf,m,en,p,c,d,pd,jB, ?_⟩
     have:=bG _ _ _ _ _ _ _ he (lB id K X) (fun e s2 h2=>by
      unfold FO at h2
      split at h2
      ·exact hr _ h2
      ·rename_i I5
       split at h2
       ·rename_i O4 m' T2 p' c' d' st' pd' LG
        cases e with
        |bK v=>cases h2
        |normal=>have h3:=hr _ h2;simp only[CR.to,Tr.iR]at h3;exact⟨O4,m',T2,p',c',d',st',pd',LG,h3⟩
        |ret=>have h3:=hr _ h2;simp only[CR.to,Tr.iR]at h3;exact⟨O4,m',T2,p',c',d',st',pd',LG,h3⟩
        |exit j=>have h3:=hr _ h2;simp only[CR.to,Tr.iR]at h3;exact⟨O4,m',T2,p',c',d',st',pd',LG,h3⟩
       ·cases h2)
     simp only[St.S,Tr.iR]at this
     exact this
    ·cases he
   |bK v=>exact hr _ he
   |_=>cases he
  ·cases h
 ·cases h
theorem sL{st:St}{o:cf}{kr:RO->Option eB}{a:eB}(h:uQ P st o kr=some a){K:S->Prop}{X:V->S->Prop}(hr:∀r,kr r=some a->r.to K X):match gf P st.S st.S.nx o.op with
 |some (v,Δ,_)=>K ⟨aY st.S.env o.dst v,put st.S.o Δ,st.S.nx+1⟩
 |none=>False:=by
 unfold uQ at h
 split at h
 ·rename_i v Δ rd he
  have he:=BP he
  simp only[ja,mG,Nat.cZ]at h
  have hr:=hr _ h
  simp only[RO.to,St.S,eD,ju]at hr
  have fm:gf P st.S st.S.nx o.op=some (v,Δ,rd):=he
  simp only[fm]
  exact hr
 ·cases h
theorem BU{st:St}{dst:Option Nat}{kr:RO->Option eB}{v:V}{Δ:List (Nat×ae)}{a:eB}(h:H5 st dst kr v Δ=some a){K:S->Prop}{X:V->S->Prop}(hr:∀r,kr r=some a->r.to K X):K ⟨aY st.S.env dst v,put st.S.o Δ,st.S.nx+1⟩:=by
 unfold H5 at h
 simp only[ja,mG,Nat.cZ]at h
 have hr:=hr _ h
 simp only[RO.to,St.S,eD,ju]at hr
 exact hr
theorem LH(bc:P.follows .mixedOrders=true)(cF:∀g,(b9 g).Ok P g){rec:dF}(bG:eG P rec){st:St}{o:cf}{kr:RO->Option eB}{a:eB}(h:SA P b9 md rec st o kr=some a){K:S->Prop}{X:V->S->Prop}(hr:∀r,kr r=some a->r.to K X):Eu P st.S o X K:=by
 have cr:∀r,Pw st o.dst kr r=some a->r.to (fun v o' nx'=>K ⟨aY st.S.env o.dst v,o',nx'⟩) (fun v o' nx'=>X v ⟨st.S.env,o',nx'⟩):=by
  intro r hx
  unfold Pw at hx
  split at hx
  ·simp only[ja,Nat.cZ]at hx
   have hr:=hr _ hx
   simp only[RO.to,St.S,eD]at hr
   exact hr
  ·exact hr _ hx
 unfold SA at h
 unfold Eu
 cases dD:o.op
 case call c=>
  rw[dD]at h
  have h:FP c P b9 md rec st o kr=some a:=h
  unfold FP at h
  cases hf:c.callee
  case value f=>
   simp only[hf]at h|-
   split at h
   ·rename_i g first cap hv
    simp only[hv]
    have:=yz bc cF bG h cr
    rcases this with⟨ds,eW,hP⟩|hC
    ·have LI:bZ st.S.o (first++List.map st.S.ev c.args.toList++cap)=some ds:=eW
     simp only[LI]
     exact .inl hP
    ·split
     ·exact .inr (.inl hC)
     ·exact .inl hC
   ·rename_i id hv
    simp only[hv]
    exact H6 bc bG h cr
   ·cases h
  case invoke r m=>
   simp only[hf]at h|-
   split at h
   ·rename_i g y hv
    simp only[hv]
    exact yz bc cF bG h cr
   ·cases h
  all_goals
   simp only[hf]at h|-
   have:=sL h hr
   rw[dD]at this
   exact this
 case panic x=>
  rw[dD]at h
  have h:LF x P b9 md rec st o kr=some a:=h
  unfold LF at h
  split at h
  ·rename_i hv;simp only[hv];exact hr _ h
  ·rename_i hv;simp only[hv];exact hr _ h
  ·cases h
 case next x str=>
  rw[dD]at h
  have h:FR x str P b9 md rec st o kr=some a:=h
  unfold FR at h
  have hl:np st.S.o (st.S.ev x)=np st.o.get (st.S.ev x):=rfl
  simp only[hl]
  split at h
  ·rename_i id l aj
   simp only[aj]
   cases str with
   |true=>cases h
   |false=>
    refine⟨rfl,fun e=> ?_,fun i k y e=> ?_⟩
    ·subst e
     exact BU h hr
    ·cases l with
     |nil=>simp at e
     |cons p l=>
      have:=FQ h i (List.getElem?_eq_some_iff.1 e).1
      rw[e]at this
      exact BU this hr
  ·rename_i aj
   simp only[aj]
   have:=sL h hr
   rw[dD]at this
   exact this
 all_goals
  have h2:uQ P st o kr=some a:=by rw[dD]at h;exact h
  have:=sL h2 hr
  rw[dD]at this
  exact this
theorem rm(bc:P.follows .mixedOrders=true)(cF:∀g,(b9 g).Ok P g){rec:dF}(bG:eG P rec){kr:RO->Option eB}{a:eB}{K:S->Prop}{X:V->S->Prop}(hr:∀r,kr r=some a->r.to K X):∀ (l:List cf) (st:St),wq P b9 md rec kr l st=some a->nP P X K l st.S
 |[],st,h=>hr (.ok st) h
 |o::l,st,h=>by
  simp only[wq,ja,Nat.cZ]at h
  simp only[nP]
  have op:SA P b9 md rec st o (WE (wq P b9 md rec kr l) kr)=some a->Eu P st.S o X (nP P X K l):=by
   intro h
   refine LH bc cF bG h fun r WG=> ?_
   cases r with
   |ok LJ=>exact rm bc cF bG hr l LJ WG
   |bK v LJ=>exact hr (.bK v LJ) WG
  have sk:wq P b9 md rec kr l ⟨qB st.env o.dst (.bW []),st.o,st.nx+1⟩=some a->nP P X K l ⟨aY st.S.env o.dst (.bW []),st.S.o,st.S.nx+1⟩:=by
   intro h
   have:=rm bc cF bG hr l _ h
   simp only[St.S,eD]at this
   exact this
  cases hg:o.gd with
  |none=>simp only[hg]at h;exact op h
  |some p=>
   obtain⟨d,want⟩:=p
   simp only[hg]at h
   have he:st.S.env d=st.env.get d:=rfl
   simp only[he]
   cases hv:st.env.get d with
   |d x=>
    cases x with
    |bool b=>
     simp only[hv]at h|-
     by_cases e:b=want
     ·subst e
      simp only[beq_self_eq_true]at h
      rw[if_pos rfl];exact op h
     ·have:(b==want)=false:=by simpa using e
      rw[this]at h
      rw[if_neg e];exact sk h
    |_=>simp[hv]at h
   |bW vs=>
    cases vs with
    |nil=>simp only[hv]at h|-;exact sk h
    |cons a cc=>simp[hv]at h
   |_=>simp[hv]at h
end
end Go.Proofs.YtealblliddhgiaaGreat
namespace Go.Proofs.YtealblliddhgiaaGreat
theorem Aq.LK {P:Program}{g:FuncId}{ds:List D}{o:Nat->ae}{fr:Nat}{ty:TypeId}{sz:Nat}{es:List D}
 (h:eN P g (ds.map .d) (fun _=> .no) 0 (fun v o1 _=>(∃j ep,v= .osl j ep/\o1 j= .arr ep ty sz es)\/(v= .aW/\es=[]/\0<sz)) (fun _ _ _=>False)):
 Aq P g (ds.map .d) [] o fr (.osl fr 0) [(fr, .arr 0 ty sz es)]:=by
 refine⟨h.1,fun o' us M φ w vals _ dU hH hd=> ?_⟩
 let cC:Place:=fun _=> .nilFunc
 have nN:∀b, ¬bR cC (hp (fun _=> .no) 0) b:=by rintro b ⟨id,hl,_⟩;simp[hp,ae.live]at hl
 have hM:∀b,ai M φ ⟨o',us⟩ b->b<w.heap.size:=fun b hb=>hb.elim (hH.tA b) fun hl=>(hH.ours b hl).2
 have tZ:=(V.ck _ _).1 hd
 refine(h.2 (ai M φ ⟨o',us⟩) cC w vals (kC cC hM) ((V.ck _ _).2 (D.aI (w:=w) (w':=w) (B:=ai M φ ⟨o',us⟩) (fun b _ hB=>⟨rfl,fun h=>h.elim hB (nN b)⟩) _ _ tZ))).mono ?_
 rintro e w' ⟨iy,o1,n1,v,k1,k2,k3⟩
 have hk:eM (fun _=>False) w w':=⟨k2.cg.os,k2.cg.tape,k2.cg.output,k2.cg.size,fun k hk _=>k2.cg.block k hk (nN k)⟩
 have EJ:(⟨o',us⟩:Hp).put [(fr, .arr 0 ty sz es)]=⟨put o' [(fr, .arr 0 ty sz es)],fun id=>us id\/id=fr⟩:=by
  simp only[Hp.put]
  congr 1
  funext id
  simp
 have fin:∀ (val:Value) (xs:List Value),(∀b,dS val=some b->w.heap.size<=b/\b<w'.heap.size)->0<sz->w'.ownsRow 0 ty sz val es.length xs->
  (gm (ai M (aq φ fr val) ((⟨o',us⟩:Hp).put [(fr, .arr 0 ty sz es)])) w' sz es xs)->
  val.oneCell'=true->
  ∃ax,au M ax ⟨put o' [(fr, .arr 0 ty sz es)],fun id=>us id\/id=fr⟩ w'/\Trans φ ⟨o',us⟩ w ax ⟨put o' [(fr, .arr 0 ty sz es)],fun id=>us id\/id=fr⟩ w'/\
   ∃FV,Ending.returned val= .returned FV/\V.den (ai M ax ⟨put o' [(fr, .arr 0 ty sz es)],fun id=>us id\/id=fr⟩) ax ⟨put o' [(fr, .arr 0 ty sz es)],fun id=>us id\/id=fr⟩ w' (.osl fr 0) FV:=by
  intro val xs jg ej eF a8 LL
  have oR:=jh hH hk dU (.arr 0 ty sz es) val jg (by
   unfold aL
   rw[show((⟨o',us⟩:Hp).put [(fr, .arr 0 ty sz es)]).o fr= .arr 0 ty sz es by simp]
   refine⟨ej,xs, ?_,a8⟩
   rw[show aq φ fr val fr=val by simp]
   exact eF)
  have JM:=e8 (φ:=φ) (H:=⟨o',us⟩) hk dU (.arr 0 ty sz es) val (fun b hb=>(jg b hb).1)
  rw[EJ]at oR JM
  refine⟨aq φ fr val,oR,JM,val,rfl,LL, .inr rfl,fun e he=> ?_⟩
  have fm:0=e:=by
   have:(put o' [(fr,ae.arr 0 ty sz es)] fr).aZ=some 0:=by simp[put,ae.aZ]
   rw[show(⟨put o' [(fr, .arr 0 ty sz es)],fun id=>us id\/id=fr⟩:Hp).o fr=put o' [(fr, .arr 0 ty sz es)] fr from rfl,this]at he
   injection he
  exact⟨by omega,fun _=>by simp⟩
 cases e with
 |outgrown=>exact k3.elim
 |panicked ch=>obtain⟨_,_,_,h⟩:=k3;exact h.elim
 |returned val=>
  obtain⟨g1,⟨j,ep,rfl,hj⟩|⟨rfl,rfl,ej⟩⟩:=k3
  ·obtain⟨v0,v1,v2⟩:=g1
   have ec:val=iy j:=(v2 ep (by show(o1 j).aZ=some ep;rw[hj];rfl)).2 rfl
   have bS:∀b,dS val=some b->bR iy (hp o1 n1) b:=fun b hb=>⟨j,by show(o1 j).live=true;rw[hj];rfl,by rw[<- ec];exact hb⟩
   have jg:∀b,dS val=some b->w.heap.size<=b/\b<w'.heap.size:=fun b hb=>⟨(k2.grow b (bS b hb)).resolve_left (nN b),(k1.ours b (bS b hb)).2⟩
   have FW:=k1.ok j
   unfold aL at FW
   rw[show(hp o1 n1).o j= .arr ep ty sz es from hj]at FW
   obtain⟨ej,xs,eF,a8⟩:=FW
   have Zd:∀b,ai M (aq φ fr val) ((⟨o',us⟩:Hp).put [(fr, .arr 0 ty sz es)]) b->ai (ai M φ ⟨o',us⟩) iy (hp o1 n1) b:=by
    rintro b (hb|⟨id,hl,hb⟩)
    ·exact .inl (.inl hb)
    ·by_cases e:id=fr
     ·subst e
      simp at hb
      exact .inr (bS b hb)
     ·simp[e]at hl hb
      exact .inl (.inr ⟨id,hl,hb⟩)
   exact fin val xs jg ej (by rw[ec];exact eF) (a8.mono (w:=w') (w':=w') (fun b _ hB=>⟨rfl,fun h=>hB (Zd b h)⟩)) v0
  ·have g1:val= .slice none 0 0:=g1
   subst g1
   exact fin _ [] (fun b hb=>by cases hb) ej (World.ownsRow_nil w' 0 ty sz) ⟨[],rfl,by simp,rfl⟩ rfl
theorem Aq.H7 {P:Program}{g:FuncId}{args:List V}{ds:List D}{o:Nat->ae}{fr:Nat}{ty:TypeId}{sz:Nat}{es:List D}
 (eW:bZ o args=some ds) (la:D.jk es=true) (h:eN P g (ds.map .d) (fun _=> .no) 0 (fun v o1 _=>(∃j ep,v= .osl j ep/\o1 j= .arr ep ty sz es)\/(v= .aW/\es=[]/\0<sz)) (fun _ _ _=>False)):
 Aq P g args (V.ba args) o fr (.osl fr 0) [(fr, .arr 0 ty sz es)]:=by
 refine⟨h.1,fun o' us M φ w vals WH dU hH hd=> ?_⟩
 obtain⟨f1,f2,f3,f4,f5⟩:=cM hH (V.ba args) (fun id aj=>(WH id aj).2)
 generalize Z1:(⟨o',us⟩:Hp).put (cw (⟨o',us⟩:Hp).o (V.ba args))=HF at f1 f2 f3
 let cC:Place:=fun _=> .nilFunc
 have nN:∀b, ¬bR cC (hp (fun _=> .no) 0) b:=by rintro b ⟨id,hl,_⟩;simp[hp,ae.live]at hl
 have hM:∀b,ai M φ HF b->b<w.heap.size:=fun b hb=>hb.elim (f1.tA b) fun hl=>(f1.ours b hl).2
 have tZ:D.aB (ai M φ HF) w ds vals.toList:=dv f1 args ds _ (fun id aj=>by rw[f3 id aj];show(o' id).fz=(o id).fz;rw[(WH id aj).1]) eW (V.aI f2 _ _ hd)
 refine(h.2 (ai M φ HF) cC w vals (kC cC hM) ((V.ck _ _).2 (D.aI (w:=w) (w':=w) (B:=ai M φ HF) (fun b _ hB=>⟨rfl,fun h=>h.elim hB (nN b)⟩) _ _ tZ))).mono ?_
 rintro e w' ⟨iy,o1,n1,v,k1,k2,k3⟩
 have hk:eM (fun _=>False) w w':=⟨k2.cg.os,k2.cg.tape,k2.cg.output,k2.cg.size,fun k hk _=>k2.cg.block k hk (nN k)⟩
 have EJ:(⟨o',us⟩:Hp).put [(fr, .arr 0 ty sz es)]=⟨put o' [(fr, .arr 0 ty sz es)],fun id=>us id\/id=fr⟩:=by
  simp only[Hp.put]
  congr 1
  funext id
  simp
 have fin:∀ (val:Value) (xs:List Value),(∀b,dS val=some b->w.heap.size<=b/\b<w'.heap.size)->0<sz->w'.ownsRow 0 ty sz val es.length xs->
  (gm (ai M (aq φ fr val) ((⟨o',us⟩:Hp).put [(fr, .arr 0 ty sz es)])) w' sz es xs)->
  val.oneCell'=true->
  ∃ax,au M ax ⟨put o' [(fr, .arr 0 ty sz es)],fun id=>us id\/id=fr⟩ w'/\Trans φ ⟨o',us⟩ w ax ⟨put o' [(fr, .arr 0 ty sz es)],fun id=>us id\/id=fr⟩ w'/\
   ∃FV,Ending.returned val= .returned FV/\V.den (ai M ax ⟨put o' [(fr, .arr 0 ty sz es)],fun id=>us id\/id=fr⟩) ax ⟨put o' [(fr, .arr 0 ty sz es)],fun id=>us id\/id=fr⟩ w' (.osl fr 0) FV:=by
  intro val xs jg ej eF a8 LL
  have oR:=jh hH hk dU (.arr 0 ty sz es) val jg (by
   unfold aL
   rw[show((⟨o',us⟩:Hp).put [(fr, .arr 0 ty sz es)]).o fr= .arr 0 ty sz es by simp]
   refine⟨ej,xs, ?_,a8⟩
   rw[show aq φ fr val fr=val by simp]
   exact eF)
  have JM:=e8 (φ:=φ) (H:=⟨o',us⟩) hk dU (.arr 0 ty sz es) val (fun b hb=>(jg b hb).1)
  rw[EJ]at oR JM
  refine⟨aq φ fr val,oR,JM,val,rfl,LL, .inr rfl,fun e he=> ?_⟩
  have fm:0=e:=by
   have:(put o' [(fr,ae.arr 0 ty sz es)] fr).aZ=some 0:=by simp[put,ae.aZ]
   rw[show(⟨put o' [(fr, .arr 0 ty sz es)],fun id=>us id\/id=fr⟩:Hp).o fr=put o' [(fr, .arr 0 ty sz es)] fr from rfl,this]at he
   injection he
  exact⟨by omega,fun _=>by simp⟩
 cases e with
 |outgrown=>exact k3.elim
 |panicked ch=>obtain⟨_,_,_,h⟩:=k3;exact h.elim
 |returned val=>
  obtain⟨g1,⟨j,ep,rfl,hj⟩|⟨rfl,rfl,ej⟩⟩:=k3
  ·obtain⟨v0,v1,v2⟩:=g1
   have ec:val=iy j:=(v2 ep (by show(o1 j).aZ=some ep;rw[hj];rfl)).2 rfl
   have bS:∀b,dS val=some b->bR iy (hp o1 n1) b:=fun b hb=>⟨j,by show(o1 j).live=true;rw[hj];rfl,by rw[<- ec];exact hb⟩
   have jg:∀b,dS val=some b->w.heap.size<=b/\b<w'.heap.size:=fun b hb=>⟨(k2.grow b (bS b hb)).resolve_left (nN b),(k1.ours b (bS b hb)).2⟩
   have FW:=k1.ok j
   unfold aL at FW
   rw[show(hp o1 n1).o j= .arr ep ty sz es from hj]at FW
   obtain⟨ej,xs,eF,a8⟩:=FW
   obtain⟨evs,e1,e2,e3⟩:=a8
   exact fin val xs jg ej (by rw[ec];exact eF) ⟨evs,e1,e2,D.lg _ _ la e3⟩ v0
  ·have g1:val= .slice none 0 0:=g1
   subst g1
   exact fin _ [] (fun b hb=>by cases hb) ej (World.ownsRow_nil w' 0 ty sz) ⟨[],rfl,by simp,rfl⟩ rfl
theorem Aq.H8 {P:Program}{g:FuncId}{args:List V}{ds:List D}{o0 o:Nat->ae}{rd:List Nat}{fr:Nat}{v:V}{Δ:List (Nat×ae)}(aj:V.ba args=[])(eW:bZ o0 args=some ds)
 (h:Aq P g (ds.map .d) rd o fr v Δ):Aq P g args rd o fr v Δ:=
 ⟨h.1,fun o' us M φ w vals h1 h2 hH hd=>h.2 o' us M φ w vals h1 h2 hH ((V.ck _ _).2 (dv hH args ds _ (by rw[aj];intro id h;cases h) eW hd))⟩
end Go.Proofs.YtealblliddhgiaaGreat
