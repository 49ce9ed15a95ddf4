/-
  A PART OF THE PROOF. Conditions: none.
-/
import Derived.Test.YtnkamdiiakdkgaaGreatEt11
set_option linter.unusedSimpArgs false
set_option linter.unusedVariables false
namespace Go.Proofs.YtnkamdiiakdkgaaGreat
section
inductive Tr (α:Type) where
 |e (f:Nat->α)
 |n (x:α) (l r:Tr α)
noncomputable def Tr.get {α:Type}(t:Tr α):Nat->α:=
 Tr.rec (motive:=fun _=>Nat->α) (fun f=>f) (fun x _ _ l r k=>Bool.rec (Bool.rec (r (Nat.sub (Nat.div k 2) 1)) (l (Nat.div k 2)) (Nat.beq (Nat.mod k 2) 1)) x (Nat.beq k 0)) t
theorem Tr.EJ {α:Type}(f:Nat->α):(Tr.e f).get=f:=rfl
noncomputable def Tr.um {α:Type}(x:α):Nat->Tr α->Nat->Tr α
 |0,t,k=> .e (aD t.get k x)
 |d+1, .e f,k=>match Nat.beq k 0 with
  |true=> .n x (.e fun i=>f (2*i+1)) (.e fun i=>f (2*i+2))
  |false=>match Nat.beq (k%2) 1 with
   |true=> .n (f 0) (Tr.um x d (.e fun i=>f (2*i+1)) (k/2)) (.e fun i=>f (2*i+2))
   |false=> .n (f 0) (.e fun i=>f (2*i+1)) (Tr.um x d (.e fun i=>f (2*i+2)) (k/2 - 1))
 |d+1, .n y l r,k=>match Nat.beq k 0 with
  |true=> .n x l r
  |false=>match Nat.beq (k%2) 1 with
   |true=> .n y (Tr.um x d l (k/2)) r
   |false=> .n y l (Tr.um x d r (k/2 - 1))
noncomputable def Tr.set {α:Type}(t:Tr α)(k:Nat)(x:α):Tr α:=Tr.um x 24 t k
theorem Tr.uo {α:Type}{x:α}{l r:Tr α}{k:Nat}:(Tr.n x l r).get k=if k=0 then x else if k%2=1 then l.get (k/2)else r.get (k/2 - 1):=by
 show @Bool.rec (fun _=>α) (@Bool.rec (fun _=>α) (r.get (k/2 - 1)) (l.get (k/2)) (Nat.beq (k%2) 1)) x (Nat.beq k 0)=_
 by_cases h:k=0
 ·subst h;rfl
 ·have:Nat.beq k 0=false:=by cases k with|zero=>exact absurd rfl h|succ k=>rfl
  simp only[this,h,if_false]
  by_cases h2:k%2=1
  ·simp[h2]
  ·have:Nat.beq (k%2) 1=false:=by
    cases hb:Nat.beq (k%2) 1 with
    |false=>rfl
    |true=>exact absurd (Nat.eq_of_beq_eq_true hb) h2
   simp[h2,this]
theorem Tr.mS {α:Type}(x:α):∀ (d:Nat) (t:Tr α) (k:Nat),(Tr.um x d t k).get=aD t.get k x
 |0,t,k=>rfl
 |d+1, .e f,k=>by
  funext i
  simp only[Tr.um]
  have hb:∀a b:Nat,Nat.beq a b=decide (a=b):=fun a b=>by
   cases h:Nat.beq a b with
   |true=>simp[Nat.eq_of_beq_eq_true h]
   |false=>simp[Nat.ne_of_beq_eq_false h]
  rw[hb,hb]
  by_cases h:k=0
  ·subst h
   simp only[decide_true,Tr.uo,aG]
   by_cases hi:i=0
   ·simp[hi]
   ·simp only[hi,if_false]
    by_cases h2:i%2=1
    ·simp only[h2,if_true,Tr.EJ];congr 1;omega
    ·simp only[h2,if_false,Tr.EJ];congr 1;omega
  ·simp only[h,decide_false]
   by_cases hk:k%2=1
   ·simp only[hk,decide_true,Tr.uo,Tr.mS x d,aG,Tr.EJ]
    by_cases hi:i=0
    ·exact DZ
    ·simp only[hi,if_false]
     by_cases h2:i%2=1
     ·simp only[h2,if_true]
      have e1:2*(i/2)+1=i:=ae
      rw[e1]
      by_cases e:i=k
      ·simp[e]
      ·exact DV
     ·simp only[h2,if_false]
      rw[if_neg (by intro e;subst e;exact h2 hk)]
      congr 1;omega
   ·simp only[hk,decide_false,Tr.uo,Tr.mS x d,aG,Tr.EJ]
    by_cases hi:i=0
    ·exact DZ
    ·simp only[hi,if_false]
     by_cases h2:i%2=1
     ·simp only[h2,if_true]
      rw[if_neg (by intro e;subst e;exact hk h2)]
      congr 1;omega
     ·simp only[h2,if_false]
      have e1:2*(i/2 - 1)+2=i:=ae
      rw[e1]
      by_cases e:i=k
      ·simp[e]
      ·exact DV
 |d+1, .n y l r,k=>by
  funext i
  simp only[Tr.um]
  have hb:∀a b:Nat,Nat.beq a b=decide (a=b):=fun a b=>by
   cases h:Nat.beq a b with
   |true=>simp[Nat.eq_of_beq_eq_true h]
   |false=>simp[Nat.ne_of_beq_eq_false h]
  rw[hb,hb]
  by_cases h:k=0
  ·subst h
   simp only[decide_true,Tr.uo,aG]
   by_cases hi:i=0
   ·simp[hi]
   ·simp[hi]
  ·simp only[h,decide_false]
   by_cases hk:k%2=1
   ·simp only[hk,decide_true,Tr.uo,Tr.mS x d,aG]
    by_cases hi:i=0
    ·exact DZ
    ·simp only[hi,if_false]
     by_cases h2:i%2=1
     ·simp only[h2,if_true]
      by_cases e:i=k
      ·simp[e]
      ·exact DV
     ·simp only[h2,if_false]
      rw[if_neg (by intro e;subst e;exact h2 hk)]
   ·simp only[hk,decide_false,Tr.uo,Tr.mS x d,aG]
    by_cases hi:i=0
    ·exact DZ
    ·simp only[hi,if_false]
     by_cases h2:i%2=1
     ·simp only[h2,if_true]
      rw[if_neg (by intro e;subst e;exact hk h2)]
     ·simp only[h2,if_false]
      by_cases e:i=k
      ·simp[e]
      ·exact DV
theorem Tr.hU {α:Type}(t:Tr α)(k:Nat)(x:α):(t.set k x).get=aD t.get k x:=Tr.mS x 24 t k
noncomputable def Nat.fc {β:Type}(n:Nat)(c:Nat->β):β:=Nat.rec (motive:=fun _=>β) (c 0) (fun m _=>c (Nat.succ m)) n
theorem Nat.cJ {β:Type}(n:Nat)(c:Nat->β):Nat.fc n c=c n:=by cases n<;>rfl
noncomputable def Int.fc {β:Type}(n:Int)(c:Int->β):β:=Int.rec (motive:=fun _=>β) (fun m=>Nat.fc m fun m=>c (.ofNat m)) (fun m=>Nat.fc m fun m=>c (.negSucc m)) n
theorem Int.cJ {β:Type}(n:Int)(c:Int->β):Int.fc n c=c n:=by cases n<;>simp only[Int.fc,Nat.cJ]
mutual
noncomputable def D.fc {β:Type}:D->(D->β)->β
 | .int k n,c=>Int.fc n fun n=>c (.int k n)
 | .bool b,c=>match b with|true=>c (.bool true)|false=>c (.bool false)
 | .agg l,c=>D.uq l fun l=>c (.agg l)
 | .sl l,c=>D.uq l fun l=>c (.sl l)
 | .iface t x,c=>D.fc x fun x=>c (.iface t x)
 | .str s,c=>c (.str s)
 | .gA,c=>c .gA
 | .lY,c=>c .lY
 | .bZ,c=>c .bZ
 | .hZ,c=>c .hZ
 | .mp ks vs,c=>D.uq ks fun ks=>D.uq vs fun vs=>c (.mp ks vs)
noncomputable def D.uq {β:Type}:List D->(List D->β)->β
 |[],c=>c []
 |x::xs,c=>D.fc x fun x=>D.uq xs fun xs=>c (x::xs)
end
mutual
theorem D.cJ {β:Type}:∀ (x:D) (c:D->β),D.fc x c=c x
 | .int k n,c=>by simp only[D.fc,Int.cJ]
 | .bool b,c=>by cases b<;>rfl
 | .agg l,c=>by simp only[D.fc,D.fb l]
 | .sl l,c=>by simp only[D.fc,D.fb l]
 | .iface t x,c=>by simp only[D.fc,D.cJ x]
 | .mp ks vs,c=>by simp only[D.fc,D.fb ks,D.fb vs]
 | .str _,_| .gA,_| .lY,_| .bZ,_| .hZ,_=>by simp only[D.fc]
theorem D.fb {β:Type}:∀ (x:List D) (c:List D->β),D.uq x c=c x
 |[],c=>by simp only[D.uq]
 |x::xs,c=>by simp only[D.uq,D.cJ x,D.fb xs]
end
mutual
noncomputable def V.fc {β:Type}:V->(V->β)->β
 | .d x,c=>D.fc x fun x=>c (.d x)
 | .agg l,c=>V.uq l fun l=>c (.agg l)
 | .bT l,c=>V.uq l fun l=>c (.bT l)
 | .ptr i o,c=>Nat.fc i fun i=>Nat.fc o fun o=>c (.ptr i o)
 | .osl i o,c=>Nat.fc i fun i=>Nat.fc o fun o=>c (.osl i o)
 | .pe a b i j k,c=>Nat.fc a fun a=>Nat.fc b fun b=>Nat.fc i fun i=>Nat.fc j fun j=>Nat.fc k fun k=>c (.pe a b i j k)
 | .pp l o,c=>D.uq l fun l=>Nat.fc o fun o=>c (.pp l o)
 | .func f a b,c=>V.uq a fun a=>V.uq b fun b=>c (.func f a b)
 | .iface t x,c=>V.fc x fun x=>c (.iface t x)
 | .qn l,c=>D.uq l fun l=>c (.qn l)
 | .vX i j k,c=>Nat.fc i fun i=>Nat.fc j fun j=>Nat.fc k fun k=>c (.vX i j k)
 | .mp i,c=>Nat.fc i fun i=>c (.mp i)
 | .iW i,c=>Nat.fc i fun i=>c (.iW i)
 | .bu,c=>c .bu
 | .aa,c=>c .aa
 | .eW,c=>c .eW
noncomputable def V.uq {β:Type}:List V->(List V->β)->β
 |[],c=>c []
 |x::xs,c=>V.fc x fun x=>V.uq xs fun xs=>c (x::xs)
end
mutual
theorem V.cJ {β:Type}:∀ (x:V) (c:V->β),V.fc x c=c x
 | .d x,c=>by simp only[V.fc,D.cJ]
 | .agg l,c=>by simp only[V.fc,V.fb l]
 | .bT l,c=>by simp only[V.fc,V.fb l]
 | .pp l o,c=>by simp only[V.fc,D.fb,Nat.cJ]
 | .func f a b,c=>by simp only[V.fc,V.fb a,V.fb b]
 | .iface t x,c=>by simp only[V.fc,V.cJ x]
 | .qn l,c=>by simp only[V.fc,D.fb]
 | .ptr _ _,_| .osl _ _,_| .pe _ _ _ _ _,_| .vX _ _ _,_| .mp _,_| .iW _,_| .bu,_| .aa,_| .eW,_=>by simp only[V.fc,Nat.cJ]
theorem V.fb {β:Type}:∀ (x:List V) (c:List V->β),V.uq x c=c x
 |[],c=>by simp only[V.uq]
 |x::xs,c=>by simp only[V.uq,V.cJ x,V.fb xs]
end
section
variable {β:Type}
noncomputable def Zc(k:IntKind)(n:Int)(c:V->β):β:=Int.fc n fun n=>c (.d (.int k n))
noncomputable def Zd(b:Bool)(c:V->β):β:= @Bool.rec (fun _=>β) (c (.d (.bool false))) (c (.d (.bool true))) b
noncomputable def S7(x:D)(c:V->β):β:=D.fc x fun x=>c (.d x)
noncomputable def vD(x:D):(V->β)->β:=match x with| .int k n=>Zc k n| .bool b=>Zd b|x=>S7 x
noncomputable def Ze(i o:Nat)(c:V->β):β:=Nat.fc i fun i=>Nat.fc o fun o=>c (.ptr i o)
noncomputable def Zf(i o:Nat)(c:V->β):β:=Nat.fc i fun i=>Nat.fc o fun o=>c (.osl i o)
noncomputable def vPe(a b i j k:Nat)(c:V->β):β:=Nat.fc a fun a=>Nat.fc b fun b=>Nat.fc i fun i=>Nat.fc j fun j=>Nat.fc k fun k=>c (.pe a b i j k)
noncomputable def V.Wf (v:V):(V->β)->β:=match v with| .d x=>vD x| .ptr i o=>Ze i o| .osl i o=>Zf i o| .pe a b i j k=>vPe a b i j k|v=>V.fc v
theorem V.S8 (v:V)(c:V->β):V.Wf v c=c v:=by
 cases v
 case d x=>
  cases x
  case int k n=>simp only[V.Wf,vD,Zc,Int.cJ]
  case bool b=>cases b<;>rfl
  all_goals exact D.cJ _ _
 case ptr i o=>simp only[V.Wf,Ze,Nat.cJ]
 case osl i o=>simp only[V.Wf,Zf,Nat.cJ]
 case pe a b i j k=>simp only[V.Wf,vPe,Nat.cJ]
 all_goals exact V.cJ _ _
end
noncomputable def Wg{β:Type}:List (D×D)->(List (D×D)->β)->β
 |[],c=>c []
 |(a,b)::l,c=>D.fc a fun a=>D.fc b fun b=>Wg l fun l=>c ((a,b)::l)
theorem JF{β:Type}:∀ (x:List (D×D)) (c:List (D×D)->β),Wg x c=c x
 |[],c=>rfl
 |(a,b)::l,c=>by simp only[Wg,D.cJ,JF l]
noncomputable def ab.fc {β:Type}(x:ab)(c:ab->β):β:=
 match x with
 | .row cs=>V.uq cs fun cs=>c (.row cs)
 | .arr e t s es=>Nat.fc e fun e=>Nat.fc s fun s=>D.uq es fun es=>c (.arr e t s es)
 | .rz e es=>Nat.fc e fun e=>D.uq es fun es=>c (.rz e es)
 | .map kt vt l=>Wg l fun l=>c (.map kt vt l)
 | .gH l=>Wg l fun l=>c (.gH l)
 | .oh l last=>Wg l fun l=>c (.oh l last)
 | .xG l pos=>Nat.fc pos fun pos=>c (.xG l pos)
 |x=>c x
theorem ab.cJ {β:Type}(x:ab)(c:ab->β):ab.fc x c=c x:=by cases x<;>simp only[ab.fc,V.fb,D.fb,Nat.cJ,JF]
noncomputable def Tr.wU {α β:Type}(x:α)(d:Nat):Tr α->Nat->(Tr α->β)->β:=
 Nat.rec (motive:=fun _=>Tr α->Nat->(Tr α->β)->β) (fun t k c=>c (.e (aD t.get k x)))
  (fun _ ih t k c=>Tr.rec (motive:=fun _=>β) (fun f=>
   Bool.rec (Bool.rec (ih (.e fun i=>f (2*i+2)) (Nat.sub (Nat.div k 2) 1) fun r=>c (.n (f 0) (.e fun i=>f (2*i+1)) r)) (ih (.e fun i=>f (2*i+1)) (Nat.div k 2) fun l=>c (.n (f 0) l (.e fun i=>f (2*i+2)))) (Nat.beq (Nat.mod k 2) 1))
    (c (.n x (.e fun i=>f (2*i+1)) (.e fun i=>f (2*i+2)))) (Nat.beq k 0))
   (fun y l r _ _=>Bool.rec (Bool.rec (ih r (Nat.sub (Nat.div k 2) 1) fun r=>c (.n y l r)) (ih l (Nat.div k 2) fun l=>c (.n y l r)) (Nat.beq (Nat.mod k 2) 1)) (c (.n x l r)) (Nat.beq k 0)) t) d
theorem Tr.ur {α β:Type}(x:α):∀ (d:Nat) (t:Tr α) (k:Nat) (c:Tr α->β),Tr.wU x d t k c=c (Tr.um x d t k)
 |0,t,k,c=>rfl
 |d+1, .e f,k,c=>by
  show @Bool.rec (fun _=>β) (@Bool.rec (fun _=>β) (Tr.wU x d (.e fun i=>f (2*i+2)) (k/2 - 1) fun r=>c (.n (f 0) (.e fun i=>f (2*i+1)) r)) (Tr.wU x d (.e fun i=>f (2*i+1)) (k/2) fun l=>c (.n (f 0) l (.e fun i=>f (2*i+2)))) (Nat.beq (k%2) 1)) (c (.n x (.e fun i=>f (2*i+1)) (.e fun i=>f (2*i+2)))) (Nat.beq k 0)=_
  simp only[Tr.um,Tr.ur x d]
  cases Nat.beq k 0
  ·cases Nat.beq (k%2) 1<;>rfl
  ·rfl
 |d+1, .n y l r,k,c=>by
  show @Bool.rec (fun _=>β) (@Bool.rec (fun _=>β) (Tr.wU x d r (k/2 - 1) fun r=>c (.n y l r)) (Tr.wU x d l (k/2) fun l=>c (.n y l r)) (Nat.beq (k%2) 1)) (c (.n x l r)) (Nat.beq k 0)=_
  simp only[Tr.um,Tr.ur x d]
  cases Nat.beq k 0
  ·cases Nat.beq (k%2) 1<;>rfl
  ·rfl
noncomputable def Tr.S9 {α β:Type}(t:Tr α)(k:Nat)(x:α)(c:Tr α->β):β:=Tr.wU x 24 t k c
theorem Tr.EK {α β:Type}(t:Tr α)(k:Nat)(x:α)(c:Tr α->β):t.S9 k x c=c (t.set k x):=Tr.ur x 24 t k c
structure St where
 env:Tr V
 o:Tr ab
 nx:Nat
noncomputable def St.S (st:St):S:=⟨st.env.get,st.o.get,st.nx⟩
noncomputable def GK(o:Tr ab)(Δ:List (Nat×ab)):Tr ab:=Δ.foldl (fun f x=>f.set x.1 x.2) o
noncomputable def rR(env:Tr V)(dst:Option Tmp)(v:V):Tr V:=match dst with|some d=>env.set d v|none=>env
noncomputable def uu{β:Type}(o:Tr ab):List (Nat×ab)->(Tr ab->β)->β
 |[],c=>c o
 |(i,x)::Δ,c=>ab.fc x fun x=>o.S9 i x fun o=>uu o Δ c
theorem mT{β:Type}:∀ (Δ:List (Nat×ab)) (o:Tr ab) (c:Tr ab->β),uu o Δ c=c (GK o Δ)
 |[],o,c=>rfl
 |(i,x)::Δ,o,c=>by simp only[uu,ab.cJ,Tr.EK,mT Δ];rfl
noncomputable def lL{β:Type}(env:Tr V)(dst:Option Tmp)(v:V)(c:Tr V->β):β:=match dst with|some d=>V.Wf v fun v=>env.S9 d v c|none=>c env
theorem ji{β:Type}(env:Tr V)(dst:Option Tmp)(v:V)(c:Tr V->β):lL env dst v c=c (rR env dst v):=by
 cases dst<;>simp only[lL,rR,V.S8,Tr.EK]
theorem jE:∀ (Δ:List (Nat×ab)) (o:Tr ab),(GK o Δ).get=put o.get Δ
 |[],_=>rfl
 |x::Δ,o=>by
  simp only[GK,put,List.foldl_cons]
  have:=jE Δ (o.set x.1 x.2)
  simp only[GK,put]at this
  rw[this,Tr.hU]
theorem jc(env:Tr V)(dst:Option Tmp)(v:V):(rR env dst v).get=aU env.get dst v:=by
 cases dst<;>simp[rR,aU,Tr.hU]
section Ta
def PL(x:Operand)(_:Program)(s:S)(_:Nat):Option fy:=one (s.ev x)
def Zg(c a b:Operand)(_:Program)(s:S)(_:Nat):Option fy:=lI (pG (s.ev c) (s.ev a) (s.ev b))
def Tb(t:TypeId)(parts:Array (Nat×Operand))(P:Program)(s:S)(_:Nat):Option fy:=lI (x9 P t (parts.toList.map fun p=>(p.1,s.ev p.2)))
def Bm(t:TypeId)(len:Nat)(parts:Array (Nat×Operand))(P:Program)(s:S)(fr:Nat):Option fy:=fN P s.o fr t len (parts.toList.map fun p=>(p.1,s.ev p.2))
def Zh(t:TypeId)(x:Operand)(P:Program)(s:S)(_:Nat):Option fy:=mE P s.o t (s.ev x)
def Tc(t:TypeId)(x v:Operand)(P:Program)(s:S)(_:Nat):Option fy:=qK P s.o t (s.ev x) (s.ev v)
def acz(x:Operand)(_:Program)(s:S)(_:Nat):Option fy:=lI (jd s.o (s.ev x))
noncomputable def Zi(op:BinOp):IntKind->Int->Int->Option V:=
 match op with
 | .add=>fun k a b=>some (.d (.int k (k.wrap (Int.add a b))))
 | .sub=>fun k a b=>some (.d (.int k (k.wrap (Int.sub a b))))
 | .mul=>fun k a b=>some (.d (.int k (k.wrap (Int.mul a b))))
 |op=>AP op
theorem MO(op:BinOp):Zi op=AP op:=by cases op<;>rfl
def asInt(x:V):Option (IntKind×Int):=match x with| .d (.int k a)=>some (k,a)|_=>none
def JG(op:BinOp)(t:TypeId)(c:Bool)(x y:V)(P:Program)(o:Nat->ab):Option fy:=eV P o op t c x y
noncomputable def Zj(op:BinOp)(t:TypeId)(x y:Operand)(P:Program)(s:S)(_:Nat):Option fy:=
 match asInt (s.ev x)with
 |some (k,a)=>match asInt (s.ev y)with
  |some (k',b)=>if k=k' then match Zi op k a b with
   |some v=>some (v,[],[])
   |none=>JG op t (isConst x||isConst y) (s.ev x) (s.ev y) P s.o
   else none
  |none=>JG op t (isConst x||isConst y) (s.ev x) (s.ev y) P s.o
 |none=>JG op t (isConst x||isConst y) (s.ev x) (s.ev y) P s.o
theorem Bn{x:V}{k:IntKind}{a:Int}(h:asInt x=some (k,a)):x= .d (.int k a):=by
 unfold asInt at h;split at h
 ·injection h with h;cases h;rfl
 ·cases h
def Di(t:TypeId)(x:Operand)(f:Nat)(P:Program)(s:S)(_:Nat):Option fy:=lI (gN P s.o t (s.ev x) f)
def Dj(t:TypeId)(x i:Operand)(P:Program)(s:S)(_:Nat):Option fy:=gM P s.o t (s.ev x) (s.ev i)
def Td(op:Op)(P:Program)(s:S)(fr:Nat):Option fy:=fS P s fr op
noncomputable def MP(op:Op):Program->S->Nat->Option fy:=
 match op with
 | .move x=>PL x
 | .assign x=>PL x
 | .pick c a b=>Zg c a b
 | .build t parts=>Tb t parts
 | .buildSlice t len parts=>Bm t len parts
 | .load t x=>Zh t x
 | .store t x v=>Tc t x v
 | .nilCheck x=>acz x
 | .binOp op t x y _=>Zj op t x y
 | .fieldAddr t x f=>Di t x f
 | .indexAddr t x i=>Dj t x i
 |op=>Td op
theorem EL{op:Op}{P:Program}{s:S}{fr:Nat}{r:fy}(h:MP op P s fr=some r):fS P s fr op=some r:=by
 cases op
 case binOp op t x y yt=>
  simp only[MP,Zj,MO]at h
  have e:fS P s fr (.binOp op t x y yt)=eV P s.o op t (isConst x||isConst y) (s.ev x) (s.ev y):=rfl
  rw[e]
  split at h
  ·rename_i k a hx
   split at h
   ·rename_i k' b hy
    split at h
    ·rename_i hk
     split at h
     ·rename_i v hv
      unfold eV x8
      simp only[Bn hx,Bn hy,if_pos hk,hv]
      exact h
     ·exact h
    ·cases h
   ·exact h
  ·exact h
 all_goals exact h
end Ta
inductive FD where
 |fn (n:Nat) (ic:IC) (rs:List ResultVar)
 |dfr (n:Nat) (jn fl:IC) (g t:Nat) (ja:List Operand) (rs:List ResultVar) (m r r1:Nat) (Bl:IC)
 |mpc
 |no
def FD.Ok (P:Program)(f:Nat):FD->Prop
 | .fn n ic rs=>aI P f n ic rs
 | .dfr n jn fl g t ja rs m r r1 Bl=>Jz P f n jn fl g t ja rs/\EI P g m r r1 Bl
 | .mpc=>PK P f
 | .no=>True
inductive CR where
 |ret (v:V) (o:Tr ab) (nx:Nat)|bB (v:V) (o:Tr ab) (nx:Nat)
def CR.to (K X:V->(Nat->ab)->Nat->Prop):CR->Prop
 | .ret v o nx=>K v o.get nx
 | .bB v o nx=>X v o.get nx
inductive RO where
 |ok (st:St)|bB (v:V) (st:St)
def RO.to (K:S->Prop)(X:V->S->Prop):RO->Prop
 | .ok st=>K st.S
 | .bB v st=>X v st.S
inductive dP where
 |r (x:R)|c (x:CR)
abbrev Kt:=fL->St->Option dP
abbrev dg:=Nat->Bool->Nat->IC->St->Kt->Option dP
noncomputable def GL(P:Program)(rs:List ResultVar)(st:St)(kc:CR->Option dP):Option dP:=
 match lD P st.S rs with
 |some [v]=>kc (.ret v st.o st.nx)
 |some vs=>kc (.ret (.bT vs) st.o st.nx)
 |none=>none
noncomputable def PM(P:Program)(rs:List ResultVar)(kc:CR->Option dP):Kt:=fun e st=>
 match e with
 | .normal=>GL P rs st kc
 | .ret=>GL P rs st kc
 | .bB v=>kc (.bB v st.o st.nx)
 | .exit _=>none
noncomputable def JH(P:Program)(rs:List ResultVar)(kc:CR->Option dP)(env:Tr V):Kt:=fun e s4=>
 match e with
 | .normal=>GL P rs ⟨env,s4.o,s4.nx⟩ kc
 | .ret=>GL P rs ⟨env,s4.o,s4.nx⟩ kc
 |_=>none
def Zk:fL->Option V
 | .normal=>some (.d .gA)
 | .ret=>some (.d .gA)
 | .bB v=>some v
 | .exit _=>none
noncomputable def JI(P:Program)(rec:dg)(rs:List ResultVar)(aP:List V)(m r r1:Nat)(Bl:IC)(kc:CR->Option dP):Kt:=fun e s3=>
 match Zk e with
 |some u=>if aP.length<=m then rec s3.nx true m Bl ⟨.e (aD (aD (cA aP) r u) r1 u),s3.o,s3.nx⟩ (JH P rs kc s3.env)else none
 |none=>none
noncomputable def EM(P:Program)(rec:dg)(n t:Nat)(fl:IC)(g:Nat)(ja:List Operand)(rs:List ResultVar)(m r r1:Nat)(Bl:IC)(kc:CR->Option dP):Kt:=fun e s1=>
 match e with
 | .normal=>rec s1.nx false n fl ⟨s1.env.set t (.func (.func g) [] (ja.map s1.S.ev)),s1.o,s1.nx⟩ (JI P rec rs (ja.map s1.S.ev) m r r1 Bl kc)
 |_=>none
noncomputable def JJ(P:Program)(bI:Nat->FD)(rec:dg)(g:Nat)(args:List V)(o:Tr ab)(nx:Nat)(kc:CR->Option dP):Option dP:=
 match bI g with
 | .fn n ic rs=>if args.length<=n then rec nx false n ic ⟨.e (cA args),o,nx⟩ (PM P rs kc)else none
 | .dfr n jn fl g t ja rs m r r1 Bl=>if args.length<=n then rec nx true n jn ⟨.e (cA args),o,nx⟩ (EM P rec n t fl g ja rs m r r1 Bl kc)else none
 | .mpc=>match args with
   |[.mp id]=>match o.get id with
    | .map kt vt l=>kc (.ret (.mp nx) (o.set nx (.map kt vt l)) (nx+1))
    |_=>none
   |_=>none
 | .no=>none
def uv:V->List V
 | .bT vs=>vs
 |v=>[v]
noncomputable def EN(r:CR):Option R:=
 match r with
 | .ret v o _=>match v with
   | .bT [_]=>none
   |v=>match bU o.get (uv v)with
    |some rs=>some (.ret rs)
    |none=>none
 | .bB v o _=>match dC o.get v with
   |some x=>some (.bB x)
   |none=>none
noncomputable def Zl{β:Type}(x:R)(c:R->β):β:=match x with| .ret l=>D.uq l fun l=>c (.ret l)| .bB d=>D.fc d fun d=>c (.bB d)
theorem Dk{β:Type}(x:R)(c:R->β):Zl x c=c x:=by cases x<;>simp only[Zl,D.fb,D.cJ]
noncomputable def Bo(r:CR):Option dP:=match EN r with|some x=>Zl x fun x=>some (.r x)|none=>none
theorem JK{r:CR}{a:dP}(h:Bo r=some a):∃x,EN r=some x/\a= .r x:=by
 unfold Bo at h
 split at h
 ·rename_i x hx;rw[Dk]at h;injection h with h;exact⟨x,hx,h.symm⟩
 ·cases h
def JL(out:R)(o:Tr ab)(nx:Nat):CR:=
 match out with
 | .ret rs=> .ret (iX rs) o nx
 | .bB x=> .bB (.d x) o nx
structure pT (P:Program) where
 Zm:Nat->Bool
 fx:Nat->List D->Option R
 ok:∀g ds out,fx g ds=some out->aV P g ds out
def JM(l:List (Nat×List D×R))(g:Nat)(ds:List D):Option R:=
 match l with
 |[]=>none
 |x::l=>match Nat.beq x.1 g with
  |true=>match D.fI x.2.1 ds with
   |true=>some x.2.2
   |false=>JM l g ds
  |false=>JM l g ds
theorem yG{P:Program}:∀ {l:List (Nat×List D×R)},(∀x∈l,aV P x.1 x.2.1 x.2.2)->∀g ds out,JM l g ds=some out->aV P g ds out
 |[],_,_,_,_,h=>by cases h
 |x::l,hl,g,ds,out,h=>by
  simp only[JM]at h
  split at h
  ·rename_i hg
   split at h
   ·rename_i hd
    injection h with h
    have:=hl x aJ
    rw[Nat.eq_of_beq_eq_true hg,D.dk _ _ hd,h]at this
    exact this
   ·exact yG (fun y hy=>hl y oY) g ds out h
  ·exact yG (fun y hy=>hl y oY) g ds out h
def pT.of {P:Program}(Zm:Nat->Bool)(l:List (Nat×List D×R))(h:∀x∈l,aV P x.1 x.2.1 x.2.2):pT P:=⟨Zm,JM l,yG h⟩
noncomputable def MQ(P:Program)(bI:Nat->FD)(md:pT P)(rec:dg)(g:Nat)(ds:List D):Option R:=
 match md.fx g ds with
 |some out=>some out
 |none=>match JJ P bI rec g (ds.map .d) (.e fun _=> .no) 0 Bo with
  |some (.r x)=>some x
  |_=>none
noncomputable def PN(out:R)(o:Tr ab)(nx:Nat)(args:List V)(kc:CR->Option dP):Option dP:=
 match out.flat with
 |true=>kc (JL out o (nx+1))
 |false=>match out.mu with
  |true=>kc (JL out (GK o (qy o.get (V.bc args))) (nx+1))
  |false=>kc (JL out (GK o (cc o.get (V.bc args))) (nx+1))
noncomputable def EO(P:Program)(bI:Nat->FD)(md:pT P)(rec:dg)(g:Nat)(args:List V)(o:Tr ab)(nx:Nat)(kc:CR->Option dP):Option dP:=
 match md.Zm g,bU o.get args with
 |true,some ds=>match MQ P bI md rec g ds with
  |some out=>PN out o nx args kc
  |none=>none
 |_,_=>JJ P bI rec g args o nx kc
noncomputable def JN(id:Nat)(kc:CR->Option dP):Kt:=fun e s2=>
 match e with
 | .bB v=>kc (.bB v s2.o s2.nx)
 |e=>match s2.o.get id with
  | .loop nf m en p c d _ _=>match e with
    | .normal=>kc (.ret (.d (.bool true)) (s2.o.set id (.loop nf m en p c d .ready none)) s2.nx)
    | .ret=>kc (.ret (.d (.bool false)) (s2.o.set id (.loop nf m en p c d .done (some .ret))) s2.nx)
    | .exit j=>kc (.ret (.d (.bool false)) (s2.o.set id (.loop nf m en p c d .done (some (.exit j)))) s2.nx)
    | .bB _=>none
  |_=>none
noncomputable def EP(rec:dg)(id nx n:Nat)(fl:IC)(kc:CR->Option dP):Kt:=fun e s1=>
 match e with
 | .normal=>match s1.o.get id with
   | .loop nf m en p c d .ready pd=>rec nx true n fl ⟨s1.env,s1.o.set id (.loop nf m en p c d .busy pd),s1.nx⟩ (JN id kc)
   |_=>none
 | .bB v=>kc (.bB v s1.o s1.nx)
 |_=>none
noncomputable def Te(P:Program)(rec:dg)(id:Nat)(args:List V)(o:Tr ab)(nx:Nat)(kc:CR->Option dP):Option dP:=
 match o.get id with
 | .loop nf n env ps jn fl _ _=>if nf=P.funcs.size/\id<nx/\ps.all (fun t=>decide (t<n))=true/\args.length=ps.length then
  rec nx true n jn ⟨.e (mJ (a7 env) ps args),o,nx⟩ (EP rec id nx n fl kc)
   else none
 |_=>none
noncomputable def wV(P:Program)(st:St)(o:bH)(kr:RO->Option dP):Option dP:=
 match MP o.op P st.S st.nx with
 |some (v,Δ,_)=>lL st.env o.dst v fun e=>uu st.o Δ fun ob=>Nat.fc (st.nx+1) fun n=>kr (.ok ⟨e,ob,n⟩)
 |none=>none
noncomputable def Zn(st:St)(dst:Option Nat)(kr:RO->Option dP)(c:CR):Option dP:=
 match c with
 | .ret v o nx=>lL st.env dst v fun e=>Nat.fc nx fun nx=>kr (.ok ⟨e,o,nx⟩)
 | .bB v o nx=>kr (.bB v ⟨st.env,o,nx⟩)
noncomputable def JO(c:Call)(P:Program)(bI:Nat->FD)(md:pT P)(rec:dg)(st:St)(o:bH)(kr:RO->Option dP):Option dP:=
 match c.callee with
 | .value f=>match st.S.ev f with
   | .func (.func g) first cap=>EO P bI md rec g (first++c.args.toList.map st.S.ev++cap) st.o st.nx (Zn st o.dst kr)
   | .iW id=>Te P rec id (c.args.toList.map st.S.ev) st.o st.nx (Zn st o.dst kr)
   |_=>none
 | .invoke r m=>match tJ P m (st.S.ev r)with
   |some (g,y)=>EO P bI md rec g (y::c.args.toList.map st.S.ev) st.o st.nx (Zn st o.dst kr)
   |none=>none
 |_=>wV P st o kr
noncomputable def Tf(x:Operand)(P:Program)(_:Nat->FD)(_:pT P)(_:dg)(st:St)(_:bH)(kr:RO->Option dP):Option dP:=
 match st.S.ev x with
 | .d (.iface t y)=>kr (.bB (.d (.iface t y)) st)
 | .iface t y=>kr (.bB (.iface t y) st)
 |_=>none
noncomputable def Zo(P:Program)(_:Nat->FD)(_:pT P)(_:dg)(st:St)(o:bH)(kr:RO->Option dP):Option dP:=wV P st o kr
def R.same:R->R->Bool
 | .ret a, .ret b=>D.fI a b
 | .bB a, .bB b=>a.same b
 |_,_=>false
theorem R.dK {x y:R}(h:x.same y=true):x=y:=by
 cases x<;>cases y<;>simp only[R.same,Bool.false_eq_true]at h
 ·rw[D.dk _ _ h]
 ·rw[D.dK _ _ h]
noncomputable def brX(f:Nat->Option dP):Nat->Option dP
 |0=>none
 |n+1=>match n with
  |0=>f 0
  |n=>match brX f n with
   |some (.r a)=>match f n with
    |some (.r b)=>match R.same a b with
     |true=>some (.r a)
     |false=>none
    |_=>none
   |_=>none
theorem JP{f:Nat->Option dP}{a:dP}:∀ {n:Nat},brX f n=some a->∀i,i<n->f i=some a
 |0,h,_,_=>by cases h
 |1,h,i,hi=>by obtain rfl:i=0:=ae
               exact h
 |n+2,h,i,hi=>by
  simp only[brX]at h
  split at h
  ·rename_i x hx
   split at h
   ·rename_i y hy
    split at h
    ·rename_i he
     have e:=R.dK he
     subst e
     rw[<- h]
     by_cases e:i=n+1
     ·subst e;exact hy
     ·exact JP hx i ae
    ·cases h
   ·cases h
  ·cases h
noncomputable def MR(st:St)(dst:Option Nat)(kr:RO->Option dP)(v:V)(Δ:List (Nat×ab)):Option dP:=
 lL st.env dst v fun e=>uu st.o Δ fun ob=>Nat.fc (st.nx+1) fun n=>kr (.ok ⟨e,ob,n⟩)
noncomputable def JQ(x:Operand)(str:Bool)(P:Program)(_:Nat->FD)(_:pT P)(_:dg)(st:St)(o:bH)(kr:RO->Option dP):Option dP:=
 match nV st.o.get (st.S.ev x)with
 |some (id,l)=>match str with
  |true=>none
  |false=>match l with
   |[]=>MR st o.dst kr (.bT [.d (.bool false)]) []
   |_=>brX (fun i=>match l[i]? with
    |some (k,x)=>MR st o.dst kr (.bT [.d (.bool true), .d k, .d x]) [(id, .oh (l.eraseIdx i) (some (k,x)))]
    |none=>none) l.length
 |none=>wV P st o kr
noncomputable def opK(op:Op):(P:Program)->(Nat->FD)->pT P->dg->St->bH->(RO->Option dP)->Option dP:=
 match op with
 | .call c=>JO c
 | .panic x=>Tf x
 | .next x str=>JQ x str
 |_=>Zo
noncomputable def opX(P:Program)(bI:Nat->FD)(md:pT P)(rec:dg)(st:St)(o:bH)(kr:RO->Option dP):Option dP:=opK o.op P bI md rec st o kr
noncomputable def roK(next:St->Option dP)(kr:RO->Option dP):RO->Option dP:=fun r=>match r with| .ok st=>next st| .bB v st=>kr (.bB v st)
noncomputable def yH(P:Program)(bI:Nat->FD)(md:pT P)(rec:dg)(kr:RO->Option dP):List bH->St->Option dP
 |[],st=>kr (.ok st)
 |o::l,st=>match(match o.gd with
   |none=>some true
   |some (d,want)=>match st.env.get d with
    | .d (.bool b)=>some (b==want)
    | .bT []=>some false
    |_=>none)with
  |some true=>opX P bI md rec st o (roK (yH P bI md rec kr l) kr)
  |some false=>lL st.env o.dst (.bT []) fun e=>Nat.fc (st.nx+1) fun n=>yH P bI md rec kr l ⟨e,st.o,n⟩
  |none=>none
section
variable {P:Program}{bI:Nat->FD}{md:pT P}
noncomputable def ed(P:Program)(rec:dg):Prop:=∀b rd n ic st k a,rec b rd n ic st k=some a->∀Q:fL->S->Prop,(∀e st',k e st'=some a->Q e st'.S)->sQ P n b rd ic Q st.S
theorem sV{rs:List ResultVar}{st:St}{kc:CR->Option dP}{a:dP}(h:GL P rs st kc=some a){K X:V->(Nat->ab)->Nat->Prop}(hr:∀r,kc r=some a->r.to K X):lF P rs K X .ret st.S:=by
 unfold GL at h
 unfold lF
 split at h
 ·rename_i v hv;simp only[hv];exact hr _ h
 ·rename_i vs hv hn
  simp only[hn]
  exact hr _ h
 ·cases h
theorem mU(ba:P.follows .mixedOrders=true)(ck:∀g,(bI g).Ok P g){rec:dg}(bw:ed P rec){g:Nat}{args:List V}{o:Tr ab}{nx:Nat}{kc:CR->Option dP}{a:dP}(h:JJ P bI rec g args o nx kc=some a){K X:V->(Nat->ab)->Nat->Prop}(hr:∀r,kc r=some a->r.to K X):
 cX P g args o.get nx K X:=by
 have aS:=ck g
 unfold JJ at h
 split at h
 ·rename_i n ic rs ht
  rw[ht]at aS
  split at h
  ·rename_i hl
   refine cX.ua ba aS hl ?_
   refine bw _ _ _ _ _ _ _ h _ fun e st he=> ?_
   unfold PM at he
   cases e with
   |normal=>exact sV he hr
   |ret=>exact sV he hr
   |bB v=>exact hr _ he
   |exit j=>cases he
  ·cases h
 ·rename_i n jn fl g' t ja rs m r0 r1 Bl ht
  rw[ht]at aS
  split at h
  ·rename_i hl
   refine cX.JC ba aS.1 aS.2 hl (bw _ _ _ _ _ _ _ h _ fun e s1 he=> ?_)
   unfold EM at he
   cases e with
   |normal=>
    have hb:sQ P n s1.nx false fl (Dg P m r0 r1 Bl (ja.map s1.S.ev) rs K X) ⟨aD s1.env.get t (.func (.func g') [] (ja.map s1.S.ev)),s1.o.get,s1.nx⟩:=by
     have:=bw _ _ _ _ _ _ _ he (Dg P m r0 r1 Bl (ja.map s1.S.ev) rs K X) (fun e s3 Wh=>by
      unfold JI at Wh
      split at Wh
      ·rename_i u hu
       split at Wh
       ·rename_i l6
        have hrw:GI P m r0 r1 Bl (ja.map s1.S.ev) u s3.o.get s3.nx fun o nx=>lF P rs K X .ret ⟨s3.env.get,o,nx⟩:=by
         refine⟨l6,bw _ _ _ _ _ _ _ Wh _ fun e4 s4 he4=> ?_⟩
         unfold JH at he4
         cases e4 with
         |normal=>exact sV (st:=⟨s3.env,s4.o,s4.nx⟩) he4 hr
         |ret=>exact sV (st:=⟨s3.env,s4.o,s4.nx⟩) he4 hr
         |_=>cases he4
        cases e<;>simp only[Zk,Option.some.injEq,reduceCtorEq]at hu<;>subst hu<;>exact hrw
       ·cases Wh
      ·cases Wh)
     simp only[St.S,Tr.hU]at this
     exact this
    exact hb
   |_=>cases he
  ·cases h
 ·rename_i ht
  rw[ht]at aS
  split at h
  ·split at h
   ·rename_i kt vt l ho
    have h2:=hr _ h
    simp only[CR.to,Tr.hU]at h2
    exact cX.S6 aS ho h2
   ·cases h
  ·cases h
 ·cases h
theorem JR{r:CR}{out:R}(ho:EN r=some out):r.to (fun v o _=>∃vs rs,v=(match vs with|[v]=>v|vs=> .bT vs)/\bU o vs=some rs/\out= .ret rs) (fun v o _=>∃x,dC o v=some x/\out= .bB x):=by
 unfold EN at ho
 split at ho
 ·rename_i v o nx
  split at ho
  ·cases ho
  ·rename_i hv
   split at ho
   ·rename_i rs X7
    injection ho with ho;subst ho
    refine⟨uv v,rs, ?_,X7,rfl⟩
    cases v with
    |bT vs=>
     match vs,hv with
     |[],_=>rfl
     |[x],hv=>exact absurd rfl (hv x)
     |_::_::_,_=>rfl
    |_=>rfl
   ·cases ho
 ·split at ho
  ·rename_i x hx
   injection ho with ho;subst ho
   exact⟨x,hx,rfl⟩
  ·cases ho
theorem Bp(ba:P.follows .mixedOrders=true)(ck:∀g,(bI g).Ok P g){rec:dg}(bw:ed P rec){g:Nat}{ds:List D}{out:R}(h:JJ P bI rec g (ds.map .d) (.e fun _=> .no) 0 Bo=some (.r out)):aV P g ds out:=by
 refine aV.mC (mU ba ck bw h fun r hr=> ?_)
 obtain⟨x,hx,he⟩:=JK hr
 injection he with he;subst he
 exact JR hx
theorem yI(ba:P.follows .mixedOrders=true)(ck:∀g,(bI g).Ok P g){rec:dg}(bw:ed P rec){g:Nat}{ds:List D}{out:R}(h:MQ P bI md rec g ds=some out):aV P g ds out:=by
 unfold MQ at h
 split at h
 ·rename_i adV ho
  injection h with h;subst h
  exact md.ok _ _ _ ho
 ·split at h
  ·rename_i x hr;injection h with h;subst h;exact Bp ba ck bw hr
  ·cases h
theorem Bq(ba:P.follows .mixedOrders=true)(ck:∀g,(bI g).Ok P g){rec:dg}(bw:ed P rec){g:Nat}{args:List V}{o:Tr ab}{nx:Nat}{kc:CR->Option dP}{a:dP}(h:EO P bI md rec g args o nx kc=some a){K X:V->(Nat->ab)->Nat->Prop}(hr:∀r,kc r=some a->r.to K X):
 O9 P g args o.get nx K X:=by
 unfold EO at h
 split at h
 ·rename_i ds hmd eL
  split at h
  ·rename_i out JS
   have hP:=yI ba ck bw JS
   refine .inl ⟨ds,eL,out,hP, ?_⟩
   unfold PN at h
   split at h
   ·rename_i hf
    refine .inr (.inl ⟨hf, ?_⟩)
    cases out<;>exact hr _ h
   ·split at h
    ·rename_i hf
     refine .inr (.inr ⟨hf, ?_⟩)
     rw[<- jE]
     cases out<;>exact hr _ h
    ·refine .inl ?_
     rw[<- jE]
     cases out<;>exact hr _ h
  ·cases h
 ·exact .inr (mU ba ck bw h hr)
theorem MS(ba:P.follows .mixedOrders=true){rec:dg}(bw:ed P rec){id:Nat}{args:List V}{o:Tr ab}{nx:Nat}{kc:CR->Option dP}{a:dP}(h:Te P rec id args o nx kc=some a){K X:V->(Nat->ab)->Nat->Prop}(hr:∀r,kc r=some a->r.to K X):
 dt P id args o.get nx K X:=by
 unfold Te at h
 split at h
 ·rename_i nf n env ps jn fl st pd ho
  split at h
  ·rename_i hc
   obtain⟨rfl,cm,vE,hl⟩:=hc
   refine dt.ua ba ho cm vE hl ?_
   refine bw _ _ _ _ _ _ _ h _ fun e s1 he=> ?_
   unfold EP at he
   cases e with
   |normal=>
    simp only at he
    split at he
    ·rename_i nf m en p c d pd oT
     refine⟨nf,m,en,p,c,d,pd,oT, ?_⟩
     have:=bw _ _ _ _ _ _ _ he (jD id K X) (fun e s2 h2=>by
      unfold JN at h2
      split at h2
      ·exact hr _ h2
      ·rename_i O2
       split at h2
       ·rename_i nf' m' en' p' c' d' st' pd' Tg
        cases e with
        |bB v=>cases h2
        |normal=>have h3:=hr _ h2;simp only[CR.to,Tr.hU]at h3;exact⟨nf',m',en',p',c',d',st',pd',Tg,h3⟩
        |ret=>have h3:=hr _ h2;simp only[CR.to,Tr.hU]at h3;exact⟨nf',m',en',p',c',d',st',pd',Tg,h3⟩
        |exit j=>have h3:=hr _ h2;simp only[CR.to,Tr.hU]at h3;exact⟨nf',m',en',p',c',d',st',pd',Tg,h3⟩
       ·cases h2)
     simp only[St.S,Tr.hU]at this
     exact this
    ·cases he
   |bB v=>exact hr _ he
   |_=>cases he
  ·cases h
 ·cases h
theorem uw{st:St}{o:bH}{kr:RO->Option dP}{a:dP}(h:wV P st o kr=some a){K:S->Prop}{X:V->S->Prop}(hr:∀r,kr r=some a->r.to K X):match fS P st.S st.S.nx o.op with
 |some (v,Δ,_)=>K ⟨aU st.S.env o.dst v,put st.S.o Δ,st.S.nx+1⟩
 |none=>False:=by
 unfold wV at h
 split at h
 ·rename_i v Δ rd he
  have he:=EL he
  simp only[ji,mT,Nat.cJ]at h
  have hr:=hr _ h
  simp only[RO.to,St.S,jc,jE]at hr
  have oQ:fS P st.S st.S.nx o.op=some (v,Δ,rd):=he
  simp only[oQ]
  exact hr
 ·cases h
theorem ER{st:St}{dst:Option Nat}{kr:RO->Option dP}{v:V}{Δ:List (Nat×ab)}{a:dP}(h:MR st dst kr v Δ=some a){K:S->Prop}{X:V->S->Prop}(hr:∀r,kr r=some a->r.to K X):K ⟨aU st.S.env dst v,put st.S.o Δ,st.S.nx+1⟩:=by
 unfold MR at h
 simp only[ji,mT,Nat.cJ]at h
 have hr:=hr _ h
 simp only[RO.to,St.S,jc,jE]at hr
 exact hr
theorem Th(ba:P.follows .mixedOrders=true)(ck:∀g,(bI g).Ok P g){rec:dg}(bw:ed P rec){st:St}{o:bH}{kr:RO->Option dP}{a:dP}(h:opX P bI md rec st o kr=some a){K:S->Prop}{X:V->S->Prop}(hr:∀r,kr r=some a->r.to K X):HC P st.S o X K:=by
 have cr:∀r,Zn st o.dst kr r=some a->r.to (fun v o' nx'=>K ⟨aU st.S.env o.dst v,o',nx'⟩) (fun v o' nx'=>X v ⟨st.S.env,o',nx'⟩):=by
  intro r hx
  unfold Zn at hx
  split at hx
  ·simp only[ji,Nat.cJ]at hx
   have hr:=hr _ hx
   simp only[RO.to,St.S,jc]at hr
   exact hr
  ·exact hr _ hx
 unfold opX at h
 unfold HC
 cases gy:o.op
 case call c=>
  rw[gy]at h
  have h:JO c P bI md rec st o kr=some a:=h
  unfold JO at h
  cases hf:c.callee
  case value f=>
   simp only[hf]at h|-
   split at h
   ·rename_i g first cap hv
    simp only[hv]
    have:=Bq ba ck bw h cr
    rcases this with⟨ds,eL,hP⟩|hC
    ·have Ti:bU st.S.o (first++List.map st.S.ev c.args.toList++cap)=some ds:=eL
     simp only[Ti]
     exact .inl hP
    ·split
     ·exact .inr (.inl hC)
     ·exact .inl hC
   ·rename_i id hv
    simp only[hv]
    exact MS ba bw h cr
   ·cases h
  case invoke r m=>
   simp only[hf]at h|-
   split at h
   ·rename_i g y hv
    simp only[hv]
    exact Bq ba ck bw h cr
   ·cases h
  all_goals
   simp only[hf]at h|-
   have:=uw h hr
   rw[gy]at this
   exact this
 case panic x=>
  rw[gy]at h
  have h:Tf x P bI md rec st o kr=some a:=h
  unfold Tf at h
  split at h
  ·rename_i hv;simp only[hv];exact hr _ h
  ·rename_i hv;simp only[hv];exact hr _ h
  ·cases h
 case next x str=>
  rw[gy]at h
  have h:JQ x str P bI md rec st o kr=some a:=h
  unfold JQ at h
  have hl:nV st.S.o (st.S.ev x)=nV st.o.get (st.S.ev x):=rfl
  simp only[hl]
  split at h
  ·rename_i id l au
   simp only[au]
   cases str with
   |true=>cases h
   |false=>
    refine⟨rfl,fun e=> ?_,fun i k y e=> ?_⟩
    ·subst e
     exact ER h hr
    ·cases l with
     |nil=>simp at e
     |cons p l=>
      have:=JP h i (List.getElem?_eq_some_iff.1 e).1
      rw[e]at this
      exact ER this hr
  ·rename_i au
   simp only[au]
   have:=uw h hr
   rw[gy]at this
   exact this
 all_goals
  have h2:wV P st o kr=some a:=by rw[gy]at h;exact h
  have:=uw h2 hr
  rw[gy]at this
  exact this
theorem sW(ba:P.follows .mixedOrders=true)(ck:∀g,(bI g).Ok P g){rec:dg}(bw:ed P rec){kr:RO->Option dP}{a:dP}{K:S->Prop}{X:V->S->Prop}(hr:∀r,kr r=some a->r.to K X):∀ (l:List bH) (st:St),yH P bI md rec kr l st=some a->oC P X K l st.S
 |[],st,h=>hr (.ok st) h
 |o::l,st,h=>by
  simp only[yH,ji,Nat.cJ]at h
  simp only[oC]
  have op:opX P bI md rec st o (roK (yH P bI md rec kr l) kr)=some a->HC P st.S o X (oC P X K l):=by
   intro h
   refine Th ba ck bw h fun r hrr=> ?_
   cases r with
   |ok Tj=>exact sW ba ck bw hr l Tj hrr
   |bB v Tj=>exact hr (.bB v Tj) hrr
  have sk:yH P bI md rec kr l ⟨rR st.env o.dst (.bT []),st.o,st.nx+1⟩=some a->oC P X K l ⟨aU st.S.env o.dst (.bT []),st.S.o,st.S.nx+1⟩:=by
   intro h
   have:=sW ba ck bw hr l _ h
   exact Iq
  cases hg:o.gd with
  |none=>simp only[hg]at h;exact op h
  |some p=>
   obtain⟨d,want⟩:=p
   simp only[hg]at h
   have he:st.S.env d=st.env.get d:=rfl
   simp only[he]
   cases hv:st.env.get d with
   |d x=>
    cases x with
    |bool b=>
     simp only[hv]at h|-
     by_cases e:b=want
     ·subst e
      simp only[beq_self_eq_true]at h
      rw[if_pos rfl];exact op h
     ·have:(b==want)=false:=by simpa using e
      rw[this]at h
      rw[if_neg e];exact sk h
    |_=>simp[hv]at h
   |bT vs=>
    cases vs with
    |nil=>simp only[hv]at h|-;exact sk h
    |cons a bY=>simp[hv]at h
   |_=>simp[hv]at h
end
end
section
mutual
def V.same:V->V->Bool
 | .d x, .d y=>x.same y
 | .bu, .bu=>true
 | .aa, .aa=>true
 | .agg a, .agg b=>V.fI a b
 | .ptr i o, .ptr j p=>Nat.beq i j&&Nat.beq o p
 | .osl i o, .osl j p=>Nat.beq i j&&Nat.beq o p
 | .qn a, .qn b=>D.fI a b
 | .iface t x, .iface u y=>Nat.beq t u&&x.same y
 | .mp i, .mp j=>Nat.beq i j
 |_,_=>false
def V.fI:List V->List V->Bool
 |[],[]=>true
 |a::bY,b::bs=>a.same b&&V.fI bY bs
 |_,_=>false
end
mutual
theorem V.dK:∀ (x y:V),x.same y=true->x=y
 | .d x,y,h=>by cases y<;>simp only[V.same,Bool.false_eq_true]at h;rw[D.dK _ _ h]
 | .bu,y,h=>by cases y<;>simp_all[V.same]
 | .aa,y,h=>by cases y<;>simp_all[V.same]
 | .agg a,y,h=>by cases y<;>simp only[V.same,Bool.false_eq_true]at h;rw[V.dk _ _ h]
 | .ptr i o,y,h=>by
   exact XI
 | .osl i o,y,h=>by
   exact XI
 | .qn a,y,h=>by cases y<;>simp only[V.same,Bool.false_eq_true]at h;rw[D.dk _ _ h]
 | .iface t x,y,h=>by
   cases y<;>simp only[V.same,Bool.false_eq_true,Bool.and_eq_true]at h
   rw[Nat.eq_of_beq_eq_true h.1,V.dK _ _ h.2]
 | .mp i,y,h=>by
   cases y<;>simp only[V.same,Bool.false_eq_true]at h
   rw[Nat.eq_of_beq_eq_true h]
 | .bT _,y,h| .pe _ _ _ _ _,y,h| .pp _ _,y,h| .func _ _ _,y,h| .vX _ _ _,y,h| .eW,y,h| .iW _,y,h=>by simp[V.same]at h
theorem V.dk:∀ (x y:List V),V.fI x y=true->x=y
 |[],y,h=>by cases y<;>simp_all[V.fI]
 |a::bY,y,h=>by
  cases y<;>simp only[V.fI,Bool.false_eq_true,Bool.and_eq_true]at h
  rw[V.dK _ _ h.1,V.dk _ _ h.2]
end
def ux:List (D×D)->List (D×D)->Bool
 |[],[]=>true
 |(a,b)::l,(c,d)::m=>a.same c&&(b.same d&&ux l m)
 |_,_=>false
theorem uy:∀ (l m:List (D×D)),ux l m=true->l=m
 |[],m,h=>by cases m<;>simp_all[ux]
 |(a,b)::l,m,h=>by
  cases m with
  |nil=>simp[ux]at h
  |cons p m=>
   obtain⟨c,d⟩:=p
   simp only[ux,Bool.and_eq_true]at h
   rw[D.dK _ _ h.1,D.dK _ _ h.2.1,uy l m h.2.2]
noncomputable def ab.same:ab->ab->Bool
 | .no, .no=>true
 | .row a, .row b=>V.fI a b
 | .arr e t s a, .arr f u r b=>Nat.beq e f&&Nat.beq t u&&Nat.beq s r&&D.fI a b
 | .rz e a, .rz f b=>Nat.beq e f&&D.fI a b
 | .map k v a, .map k' v' b=>Nat.beq k k'&&Nat.beq v v'&&ux a b
 | .gH a, .gH b=>ux a b
 | .xG a i, .xG b j=>a==b&&Nat.beq i j
 |_,_=>false
theorem ab.dK {x y:ab}(h:x.same y=true):x=y:=by
 cases x<;>cases y<;>simp only[ab.same,Bool.false_eq_true,Bool.and_eq_true]at h
 ·rfl
 ·rw[V.dk _ _ h]
 ·rw[Nat.eq_of_beq_eq_true h.1.1.1,Nat.eq_of_beq_eq_true h.1.1.2,Nat.eq_of_beq_eq_true h.1.2,D.dk _ _ h.2]
 ·rw[Nat.eq_of_beq_eq_true h.1,D.dk _ _ h.2]
 ·rw[Nat.eq_of_beq_eq_true h.1.1,Nat.eq_of_beq_eq_true h.1.2,uy _ _ h.2]
 ·rw[uy _ _ h]
 ·rw[eq_of_beq h.1,Nat.eq_of_beq_eq_true h.2]
noncomputable def reach(o:Nat->ab):Nat->List Nat->List Nat->List Nat
 |0,_,seen=>seen
 |_+1,[],seen=>seen
 |n+1,id::todo,seen=>match seen.contains id with
  |true=>reach o n todo seen
  |false=>reach o n ((o id).refs++todo) (id::seen)
noncomputable def ei(o o1:Nat->ab):List Nat->List (Nat×ab)
 |[]=>[]
 |id::l=>match(o id).same (o1 id)with
  |true=>ei o o1 l
  |false=>(id,o1 id)::ei o o1 l
theorem iB{o o1:Nat->ab}:∀ (l:List Nat) (x:Nat×ab),x∈ei o o1 l->x.1∈l/\x.2=o1 x.1
 |[],x,h=>by simp[ei]at h
 |id::l,x,h=>by
  simp only[ei]at h
  split at h
  ·obtain⟨h1,h2⟩:=iB l x h;exact⟨List.mem_cons_of_mem _ h1,h2⟩
  ·rcases List.mem_cons.1 h with rfl|h
   ·exact⟨aJ,rfl⟩
   ·obtain⟨h1,h2⟩:=iB l x h;exact⟨List.mem_cons_of_mem _ h1,h2⟩
theorem mV{o o1:Nat->ab}:∀ (l:List Nat) (id:Nat),id∈l->id∉(ei o o1 l).map (·.1)->o1 id=o id
 |[],id,h,_=>by simp at h
 |j::l,id,h,hn=>by
  simp only[ei]at hn
  split at hn
  ·rename_i hs
   rcases List.mem_cons.1 h with rfl|h
   ·exact(ab.dK hs).symm
   ·exact mV l id h hn
  ·simp only[List.map_cons,List.mem_cons,not_or]at hn
   rcases List.mem_cons.1 h with rfl|h
   ·exact absurd rfl hn.1
   ·exact mV l id h hn.2
theorem Br{o1:Nat->ab}:∀ (Δ:List (Nat×ab)) (o:Nat->ab),(∀x∈Δ,x.2=o1 x.1)->∀id,id∈Δ.map (·.1)\/o id=o1 id->put o Δ id=o1 id
 |[],o,_,id,h=>by rcases h with h|h;· simp at h
                  ·exact h
 |x::Δ,o,hv,id,h=>by
  simp only[put,List.foldl_cons]
  refine Br Δ (aD o x.1 x.2) (fun y hy=>hv y (List.mem_cons_of_mem _ hy)) id ?_
  simp only[List.map_cons,List.mem_cons]at h
  simp only[aG]
  by_cases e:id=x.1
  ·right;rw[if_pos e,hv x (by simp),e]
  ·rcases h with(h|h)|h
   ·exact absurd h e
   ·exact .inl h
   ·right;rw[if_neg e];exact h
theorem rS{o o1:Nat->ab}{l:List Nat}{id:Nat}(h:id∈l):o1 id=put o (ei o o1 l) id:=by
 by_cases hm:id∈(ei o o1 l).map (·.1)
 ·exact(Br _ o (fun x hx=>(iB l x hx).2) id (.inl hm)).symm
 ·rw[fP hm];exact mV l id h hm
inductive DR where
 |val (v:V) (Δ:List (Nat×ab)) (rd:List Nat)|bB (v:V) (ws rd:List Nat)
def DR.to (K:V->List (Nat×ab)->List Nat->Prop)(KX:V->List Nat->List Nat->Prop):DR->Prop
 | .val v Δ rd=>K v Δ rd
 | .bB v ws rd=>KX v ws rd
noncomputable def Zp(c:CR):Option dP:=some (.c c)
noncomputable def hX(P:Program)(bI:Nat->FD)(rec:dg)(g:Nat)(args:List V)(st:St):Option DR:=
 let rd:=reach st.o.get 2000 (V.aE args) []
 match rd.all (fun id=>Nat.blt id st.nx&&(st.o.get id).refs.all rd.contains)&&(V.aE args).all rd.contains with
 |true=>match JJ P bI rec g args (.e (C3 rd st.o.get)) st.nx Zp with
  |some (.c (.ret v o1 _))=>match v with
   | .bT [_]=>none
   |v=>match bU o1.get (uv v)with
    |some rs=>match(ei st.o.get o1.get rd).all (fun x=>x.2.refs.all rd.contains)&&(V.bc (uv v)).all (fun id=> !rd.contains id)with
     |true=>some (.val (iX rs) (ei st.o.get o1.get rd) rd)
     |false=>none
    |none=>none
  |some (.c (.bB v o1 _))=>match dC o1.get v with
   |some x=>match(ei st.o.get o1.get rd).all (fun x=>x.2.refs.all rd.contains)&&v.ids.all (fun id=> !rd.contains id)with
    |true=>some (.bB (.d x) ((ei st.o.get o1.get rd).map (·.1)) rd)
    |false=>none
   |none=>none
  |_=>none
 |false=>none
noncomputable def cDX(P:Program)(bI:Nat->FD)(md:pT P)(rec:dg)(g:Nat)(args:List V)(st:St)(rd:List Nat):Option DR:=
 match bU st.o.get args with
 |some ds=>match md.Zm g with
  |false=>match JJ P bI rec g (ds.map .d) (.e fun _=> .no) 0 Zp with
   |some (.c (.ret v _ _))=>match v.refs with
    |[]=>some (.val v (cc st.o.get (V.bc args)) rd)
    |_=>none
   |_=>none
  |true=>match MQ P bI md rec g ds with
   |some (.ret rs)=>match D.jv rs with
    |true=>some (.val (iX rs) [] rd)
    |false=>some (.val (iX rs) (cc st.o.get (V.bc args)) rd)
   |some (.bB x)=>match x.flat with
    |true=>some (.bB (.d x) [] rd)
    |false=>none
   |none=>none
 |none=>hX P bI rec g args st
noncomputable def sDX(P:Program)(st:St)(fr:Nat)(op:Op):Option DR:=
 match MP op P st.S fr with
 |some (v,Δ,_)=>some (.val v Δ (nP st.S op))
 |none=>none
def V.acA:V->Bool
 | .mp _=>true
 |_=>false
def Tk{P:Program}(md:pT P)(g:Nat)(args:List V):Bool:= !md.Zm g&&args.any V.acA
def wW(args:List V):Option (List D):=
 match V.bc args with
 |[]=>bU (fun _=> .no) args
 |_=>none
noncomputable def MT(P:Program)(t:TypeId)(c:CR):Option dP:=
 match c with
 | .ret v o1 _=>match v with
   | .osl j ep=>match o1.get j with
     | .arr ig ty sz es=>match Nat.beq ig ep with
       |true=>Zl (.ret [.sl es, .int .i64 (ty:Nat), .int .i64 (sz:Nat)]) fun x=>some (.r x)
       |false=>none
     |_=>none
   | .bu=>match bV P t with
     |some e=>match Nat.blt 0 (P.cellsOf e)with
      |true=>Zl (.ret [.sl [], .int .i64 (e:Nat), .int .i64 (P.cellsOf e:Nat)]) fun x=>some (.r x)
      |false=>none
     |none=>none
   |_=>none
 |_=>none
noncomputable def Tl(P:Program)(bI:Nat->FD)(rec:dg)(g:Nat)(t:TypeId)(args:List V)(st:St)(fr:Nat):Option DR:=
 match wW args with
 |some ds=>match JJ P bI rec g (ds.map .d) (.e fun _=> .no) 0 (MT P t)with
  |some (.r (.ret [.sl es, .int .i64 (.ofNat ty), .int .i64 (.ofNat sz)]))=>some (.val (.osl fr 0) [(fr, .arr 0 ty sz es)] [])
  |_=>none
 |none=>match bU st.o.get args with
  |some ds=>match JJ P bI rec g (ds.map .d) (.e fun _=> .no) 0 (MT P t)with
   |some (.r (.ret [.sl es, .int .i64 (.ofNat ty), .int .i64 (.ofNat sz)]))=>match D.jv es&&(V.bc args).all (fun id=>Nat.blt id st.nx)with
    |true=>some (.val (.osl fr 0) [(fr, .arr 0 ty sz es)] (V.bc args))
    |false=>none
   |_=>none
  |none=>none
noncomputable def MU(P:Program)(bI:Nat->FD)(md:pT P)(rec:dg)(st:St)(fr:Nat)(op:Op):Option DR:=
 match op with
 | .call c=>match c.callee with
   | .value f=>match st.S.ev f with
     | .func (.func g) first cap=>match Tk md g (first++c.args.toList.map st.S.ev++cap)with
       |true=>hX P bI rec g (first++c.args.toList.map st.S.ev++cap) st
       |false=>match cDX P bI md rec g (first++c.args.toList.map st.S.ev++cap) st (nP st.S (.call c))with
        |some r=>some r
        |none=>Tl P bI rec g (c.argTypes.getD 0 0) (first++c.args.toList.map st.S.ev++cap) st fr
     |_=>none
   |_=>sDX P st fr (.call c)
 |op=>sDX P st fr op
noncomputable def Zq(st:St):Option (Nat×Bool)->Option Bool
 |none=>some true
 |some (d,want)=>match st.env.get d with
  | .d (.bool b)=>some (b==want)
  | .bT []=>some false
  |_=>none
noncomputable def uz(P:Program)(bI:Nat->FD)(md:pT P)(rec:dg)(pr:List (List Nat)):List bH->Nat->St->Fp->List Nat->List Nat->Option (List Nat×Fp)
 |[],_,_,fp,_,ws=>some (ws,fp)
 |o::l,fr,st,fp,bad,ws=>match(pr.getD fp.length []).any (fun j=>bad.contains j)with
  |true=>uz P bI md rec pr l (fr+1) ⟨rR st.env o.dst .aa,st.o,st.nx⟩ (fp++[([],[])]) (bad++[fp.length]) ws
  |false=>match Zq st o.gd with
   |some true=>match MU P bI md rec st fr o.op with
    |some (.val v Δ rd)=>lL st.env o.dst v fun e=>uu st.o Δ fun ob=>uz P bI md rec pr l (fr+1) ⟨e,ob,st.nx⟩ (fp++[(rd,Δ.map (·.1))]) bad (ws++Δ.map (·.1))
    |_=>none
   |some false=>uz P bI md rec pr l (fr+1) ⟨rR st.env o.dst (.bT []),st.o,st.nx⟩ (fp++[([],[])]) bad ws
   |none=>none
inductive DQ where
 |fin (st:St) (fp:Fp)|bB (v:V) (wl:List Nat) (fp:Fp)
noncomputable def uA(P:Program)(bI:Nat->FD)(md:pT P)(rec:dg)(pr:List (List Nat)):List bH->Nat->St->Fp->Option DQ
 |[],_,st,fp=>some (.fin st fp)
 |o::l,fr,st,fp=>match Zq st o.gd with
  |some true=>match MU P bI md rec st fr o.op with
   |some (.val v Δ rd)=>lL st.env o.dst v fun e=>uu st.o Δ fun ob=>Nat.fc (fr+1) fun fr=>uA P bI md rec pr l fr ⟨e,ob,st.nx⟩ (fp++[(rd,Δ.map (·.1))])
   |some (.bB v ws rd)=>match uz P bI md rec pr l (fr+1) ⟨rR st.env o.dst .aa,st.o,st.nx⟩ (fp++[(rd,[])]) [fp.length] (ws++fp.flatMap (·.2))with
    |some (wl,fp)=>some (.bB v wl fp)
    |none=>none
   |none=>none
  |some false=>lL st.env o.dst (.bT []) fun e=>Nat.fc (fr+1) fun fr=>uA P bI md rec pr l fr ⟨e,st.o,st.nx⟩ (fp++[([],[])])
  |none=>none
noncomputable def quiet(fp:Fp):Bool:=fp.all fun x=>match x.2 with|[]=>true|_=>false
noncomputable def yJ(m:Nat)(x:List Nat×List Nat):Nat->Fp->Bool
 |_,[]=>true
 |i,y::l=>(match y.2,x.2 with
  |[],[]=>true
  |_,_=>m.testBit i||(kp y.2 x.1&&kp y.2 x.2&&kp x.2 y.1))&&yJ m x (i+1) l
noncomputable def ES(ms:List Nat)(pre:Fp):Nat->Fp->Bool
 |_,[]=>true
 |j,x::l=>yJ (ms.getD j 0) x 0 pre&&ES ms (pre++[x]) (j+1) l
noncomputable def Zr{β:Type}:List Nat->(List Nat->β)->β
 |[],c=>c []
 |x::xs,c=>Nat.fc x fun x=>Zr xs fun xs=>c (x::xs)
theorem JT{β:Type}:∀ (x:List Nat) (c:List Nat->β),Zr x c=c x
 |[],c=>rfl
 |x::xs,c=>by simp only[Zr,Nat.cJ,JT xs]
noncomputable def MV{β:Type}:Fp->(Fp->β)->β
 |[],c=>c []
 |(a,b)::l,c=>Zr a fun a=>Zr b fun b=>MV l fun l=>c ((a,b)::l)
theorem ET{β:Type}:∀ (x:Fp) (c:Fp->β),MV x c=c x
 |[],c=>rfl
 |(a,b)::l,c=>by simp only[MV,JT,ET l]
noncomputable def JU(pr:List (List Nat))(fp:Fp):Bool:=match quiet fp with|true=>true|false=>MV fp fun fp=>ES (ee pr []) [] 0 fp
theorem wX{m:Nat}{x:List Nat×List Nat}:∀ (l:Fp) (i:Nat),yJ m x i l=true->∀k,k<l.length->(m.testBit (i+k)||(kp (l.getD k ([],[])).2 x.1&&kp (l.getD k ([],[])).2 x.2&&kp x.2 (l.getD k ([],[])).1))=true
 |[],i,_,k,hk=>by simp at hk
 |y::l,i,h,k,hk=>by
  simp only[yJ,Bool.and_eq_true]at h
  cases k with
  |zero=>
   have h1:=h.1
   simp only[List.getD_cons_zero,Nat.add_zero]
   split at h1
   ·rename_i e1 e2
    rw[e1,e2];simp[kp]
   ·exact h1
  |succ k=>
   have:=wX l (i+1) h.2 k (by simpa using hk)
   rw[List.getD_cons_succ,show i+(k+1)=i+1+k by omega]
   exact this
theorem Bs{ms:List Nat}:∀ (l pre:Fp),ES ms pre pre.length l=true->∀j,pre.length<=j->j<(pre++l).length->∀i,i<j->
 ((ms.getD j 0).testBit i||(kp ((pre++l).getD i ([],[])).2 ((pre++l).getD j ([],[])).1&&kp ((pre++l).getD i ([],[])).2 ((pre++l).getD j ([],[])).2&&kp ((pre++l).getD j ([],[])).2 ((pre++l).getD i ([],[])).1))=true
 |[],pre,_,j,h1,h2,i,_=>by simp at h2;omega
 |x::l,pre,h,j,h1,h2,i,hi=>by
  simp only[ES,Bool.and_eq_true]at h
  by_cases e:j=pre.length
  ·subst e
   have:=wX pre 0 h.1 i hi
   have e1:(pre++x::l).getD pre.length ([],[])=x:=by simp[List.getD_eq_getElem?_getD]
   have e2:(pre++x::l).getD i ([],[])=pre.getD i ([],[]):=by simp[List.getD_eq_getElem?_getD,List.getElem?_append_left hi]
   rw[e1,e2]
   simpa using this
  ·have h3:=h.2
   have:=Bs l (pre++[x]) (by simpa using h3) j oW te i hi
   simpa using this
noncomputable def Tn(P:Program)(bI:Nat->FD)(md:pT P)(rec:dg)(l:List bH)(pr:List (List Nat))(st:St):Option (fL×St):=
 match uA P bI md rec pr l st.nx st []with
 |some (.fin s1 fp)=>match JU pr fp with
  |true=>Nat.fc (st.nx+l.length) fun n=>some (.normal,⟨s1.env,s1.o,n⟩)
  |false=>none
 |some (.bB v wl fp)=>match JU pr fp with
  |true=>some (.bB v,⟨.e (tU (dstsOf l) wl l.length st.S).env, .e (tU (dstsOf l) wl l.length st.S).o,st.nx+l.length⟩)
  |false=>none
 |none=>none
noncomputable def Zs(id:Nat)(env:Tr V)(kt:Kt)(c:CR):Option dP:=
 match c with
 | .ret _ o1 zN=>match o1.get id with
   | .loop nf m e p c d lst pd=>match lst with
     | .busy=>none
     |_=>match pd with
      |none=>kt .normal ⟨env,o1.set id (.loop nf m e p c d .exhausted pd),zN⟩
      |some .ret=>kt .ret ⟨env,o1.set id (.loop nf m e p c d .exhausted pd),zN⟩
      |some (.exit j)=>kt (.exit j) ⟨env,o1.set id (.loop nf m e p c d .exhausted pd),zN⟩
   |_=>none
 | .bB v o1 zN=>kt (.bB v) ⟨env,o1,zN⟩
noncomputable def MW(P:Program)(bI:Nat->FD)(rec:dg)(n:Nat)(g:Operand)(ps:List Nat)(x y:IC)(st:St)(kt:Kt):Option dP:=
 match st.S.ev g with
 | .func (.func f) first cap=>JJ P bI rec f (first++[.iW st.nx]++cap) (st.o.set st.nx (.loop P.funcs.size n ((List.range n).map st.env.get) ps x y .ready none)) (st.nx+1) (Zs st.nx st.env kt)
 |_=>none
abbrev n6:=(P:Program)->(Nat->FD)->pT P->dg->Nat->Bool->Nat->St->Kt->Option dP
noncomputable def roX(kt:Kt):RO->Option dP:=fun r=>match r with| .ok st=>kt .normal st| .bB v st=>kt (.bB v) st
noncomputable def acB(l:List bH):n6:=fun P bI md rec _ _ _ st kt=>yH P bI md rec (roX kt) l st
def wY:List Nat->Nat->Nat->Nat
 |[],_,c=>c
 |x::l,k,c=>match Nat.beq x (2^k - 1)with
  |true=>wY l (k+1) c
  |false=>wY l (k+1) (k+1)
def pU(pr:List (List Nat)):Nat:=wY (ee pr []) 0 0
noncomputable def To(l:List bH)(pr:List (List Nat)):n6:=fun P bI md rec _ _ _ st kt=>
 Nat.fc (pU pr) fun m=>match uA P bI md rec pr (l.take m) st.nx st []with
 |some (.fin s1 fp)=>match JU pr fp with
  |true=>Nat.fc (st.nx+m) fun n=>match Nat.ble m l.length with
   |true=>yH P bI md rec (roX kt) (l.drop m) ⟨s1.env,s1.o,n⟩
   |false=>none
  |false=>none
 |some (.bB _ _ _)=>match Tn P bI md rec l pr st with
  |some (e,s1)=>kt e s1
  |none=>none
 |none=>none
noncomputable def Dl(rec:dg)(b:Nat)(rd:Bool)(n:Nat)(y:IC)(kt:Kt):Kt:=fun e s1=>match e with| .normal=>rec b rd n y s1 kt|e=>kt e s1
noncomputable def acC(x y:IC):n6:=fun _ _ _ rec b rd n st kt=>rec b rd n x st (Dl rec b rd n y kt)
noncomputable def EU(a c:Option dP):Option dP:=
 match a with
 |some (.r x)=>match c with
  |some (.r y)=>match R.same x y with
   |true=>some (.r x)
   |false=>none
  |_=>none
 |_=>none
noncomputable def Zt(c:Operand)(x y:IC):n6:=fun _ _ _ rec b rd n st kt=>match st.S.ev c with
 | .d (.bool true)=>rec b rd n x st kt
 | .d (.bool false)=>rec b rd n y st kt
 | .eW=>EU (rec b rd n x st kt) (rec b rd n y st kt)
 |_=>none
noncomputable def Dm(id:Nat)(kt:Kt):Kt:=fun e s1=>match e with
 | .exit j=>match Nat.beq j id with
   |true=>kt .normal s1
   |false=>kt (.exit j) s1
 |e=>kt e s1
noncomputable def Tp(id:Nat)(x:IC):n6:=fun _ _ _ rec b rd n st kt=>rec b rd n x st (Dm id kt)
noncomputable def Zu(x:IC):n6:=fun _ _ _ rec b rd n st kt=>match Nat.ble b st.nx with
 |true=>rec b rd n x st (Dl rec b rd n (.loop x) kt)
 |false=>none
noncomputable def Tq(e:fL):n6:=fun _ _ _ _ _ _ _ st kt=>kt e st
noncomputable def acD:n6:=fun _ _ _ _ _ _ _ _ _=>none
noncomputable def acE(g:Operand)(ps:List Nat)(x y:IC):n6:=fun P bI _ rec _ rd n st kt=>match rd with
 |true=>none
 |false=>MW P bI rec n g ps x y st kt
noncomputable def PO(ic:IC):n6:=
 match ic with
 | .skip=>Tq .normal
 | .ad l=>acB l
 | .db l pr=>To l pr
 | .seq x y=>acC x y
 | .cond c x y=>Zt c x y
 | .block id x=>Tp id x
 | .loop x=>Zu x
 | .exit id=>Tq (.exit id)
 | .ret=>Tq .ret
 | .FT g ps x y=>acE g ps x y
 | .bad=>acD
noncomputable def run(P:Program)(bI:Nat->FD)(md:pT P)(k:Nat):dg:=
 Nat.rec (motive:=fun _=>dg) (fun _ _ _ _ _ _=>none) (fun _ rec b rd n ic st kt=>PO ic P bI md rec b rd n st kt) k
theorem JV{P:Program}{bI:Nat->FD}{md:pT P}{k:Nat}:run P bI md (k+1)=fun b rd n ic st kt=>PO ic P bI md (run P bI md k) b rd n st kt:=rfl
section
variable {P:Program}{bI:Nat->FD}{md:pT P}
theorem PQ(ba:P.follows .mixedOrders=true)(ck:∀g,(bI g).Ok P g){rec:dg}(bw:ed P rec){fr:Nat}{g:Nat}{args:List V}{st:St}{r:DR}(h:hX P bI rec g args st=some r){K:V->List (Nat×ab)->List Nat->Prop}{KX:V->List Nat->List Nat->Prop}(hr:r.to K KX):
 iM P g args st.S.o st.S.nx fr K KX:=by
 unfold hX at h
 simp only at h
 generalize nG:reach st.o.get 2000 (V.aE args) []=rd at h
 split at h
 ·rename_i hc
  simp only[Bool.and_eq_true,List.all_eq_true]at hc
  obtain⟨hc1,tC⟩:=hc
  have a1:∀id∈rd,id<st.nx:=fun id au=>Nat.le_of_ble_eq_true (hc1 id au).1
  have a2:∀id∈V.aE args,id∈rd:=fun id au=>by simpa using tC id au
  have a3:∀id∈rd,∀j∈(st.o.get id).refs,j∈rd:=fun id au j hj=>by simpa using(hc1 id au).2 j hj
  have a0:rd.all (fun id=>decide (id<st.S.nx))=true:=List.all_eq_true.2 fun id au=>decide_eq_true (a1 id au)
  have key:∀ {r:CR} {a:CR},Zp r=some (.c a)->r=a:=fun h=>by unfold Zp at h;injection h with h;injection h
  split at h
  ·rename_i v o1 zN hf
   split at h
   ·cases h
   ·rename_i v' sm
    split at h
    ·rename_i rs X7
     split at h
     ·rename_i Ts
      injection h with h;subst h
      simp only[Bool.and_eq_true,List.all_eq_true]at Ts
      refine⟨rd,_,a0, .inl ⟨rs,Er.mC a1 a2 a3 (fun x hx=>(iB rd x hx).1) (fun x hx j hj=>by simpa using Ts.1 x hx j hj) (mU ba ck bw hf fun r xP=> ?_),hr⟩⟩
      rw[key xP]
      refine⟨fun id au=>rS au,uv v,rs, ?_,X7,rfl,fun id au=>by simpa using Ts.2 id au⟩
      cases v with
      |bT vs=>
       match vs,sm with
       |[],_=>rfl
       |[x],hv=>exact absurd rfl (hv x)
       |_::_::_,_=>rfl
      |_=>rfl
     ·cases h
    ·cases h
  ·rename_i v o1 zN hf
   split at h
   ·rename_i x hx
    split at h
    ·rename_i Ts
     injection h with h;subst h
     simp only[Bool.and_eq_true,List.all_eq_true]at Ts
     refine⟨rd,ei st.o.get o1.get rd,a0, .inr (.inl ⟨x,Er.mC a1 a2 a3 (fun x hx=>(iB rd x hx).1) (fun x hx j hj=>by simpa using Ts.1 x hx j hj) (mU ba ck bw hf fun r xP=> ?_),hr⟩)⟩
     rw[key xP]
     exact⟨fun id au=>rS au,x,hx,rfl,fun id au=>by simpa using Ts.2 id au⟩
    ·cases h
   ·cases h
  ·cases h
 ·cases h
theorem Tt(ba:P.follows .mixedOrders=true)(ck:∀g,(bI g).Ok P g){rec:dg}(bw:ed P rec){g:Nat}{args:List V}{st:St}{rd:List Nat}{ds:List D}(eL:bU st.o.get args=some ds){r:DR}(h:cDX P bI md rec g args st rd=some r)
 {K:V->List (Nat×ab)->List Nat->Prop} {KX:V->List Nat->List Nat->Prop} (hr:r.to K KX):
 rO P g ds (fun v=>K v (cc st.S.o (V.bc args)) rd) (fun v=>K v [] rd) (fun v=>KX v [] rd):=by
 unfold cDX at h
 simp only[eL]at h
 split at h
 ·split at h
  ·rename_i v o1 zN GM
   split at h
   ·rename_i hrf
    injection h with h;subst h
    exact .inr (.inr ⟨v,Yq.mC hrf (mU ba ck bw GM fun r xP=>by unfold Zp at xP;injection xP with xP;injection xP with xP;rw[xP];exact rfl),hr⟩)
   ·cases h
  ·cases h
 ·split at h
  ·rename_i rs JS
   have hP:=yI ba ck bw JS
   split at h
   ·rename_i hf
    injection h with h;subst h
    exact .inl ⟨rs,hP, .inr ⟨hf,hr⟩⟩
   ·injection h with h;subst h
    exact .inl ⟨rs,hP, .inl hr⟩
  ·rename_i x JS
   have hP:=yI ba ck bw JS
   split at h
   ·rename_i hf
    injection h with h;subst h
    exact .inr (.inl ⟨x,hP,hf,hr⟩)
   ·cases h
  ·cases h
theorem EV{t ty:TypeId}{sz:Nat}{es:List D}{r:CR}(h:MT P t r=some (.r (.ret [.sl es, .int .i64 (.ofNat ty), .int .i64 (.ofNat sz)]))):
 r.to (fun v o1 _=>(∃j ep,v= .osl j ep/\o1 j= .arr ep ty sz es)\/(v= .bu/\es=[]/\0<sz)) (fun _ _ _=>False):=by
 unfold MT at h
 split at h
 ·rename_i v o1 n1
  split at h
  ·rename_i j ep
   split at h
   ·rename_i ig ty' qo es' ho
    split at h
    ·rename_i he
     have he:=Nat.eq_of_beq_eq_true he
     subst he
     rw[Dk]at h
     simp only[Option.some.injEq,dP.r.injEq,R.ret.injEq,List.cons.injEq,D.sl.injEq,D.int.injEq,true_and,and_true]at h
     obtain⟨rfl,h2,h3⟩:=h
     have h2:ty'=ty:=Int.ofNat.inj h2
     have h3:qo=sz:=Int.ofNat.inj h3
     subst h2;subst h3
     exact .inl ⟨j,ig,rfl,ho⟩
    ·cases h
   ·cases h
  ·split at h
   ·rename_i e he
    split at h
    ·rename_i hp
     rw[Dk]at h
     simp only[Option.some.injEq,dP.r.injEq,R.ret.injEq,List.cons.injEq,D.sl.injEq,D.int.injEq,true_and,and_true]at h
     obtain⟨rfl,h2,h3⟩:=h
     have h3:P.cellsOf e=sz:=Int.ofNat.inj h3
     subst h3
     exact .inr ⟨rfl,rfl,Nat.blt_eq.mp hp⟩
    ·cases h
   ·cases h
  ·cases h
 ·cases h
theorem MX(ba:P.follows .mixedOrders=true)(ck:∀g,(bI g).Ok P g){rec:dg}(bw:ed P rec){fr:Nat}{g:Nat}{t:TypeId}{args:List V}{st:St}{r:DR}(h:Tl P bI rec g t args st fr=some r){K:V->List (Nat×ab)->List Nat->Prop}{KX:V->List Nat->List Nat->Prop}(hr:r.to K KX):
 iM P g args st.S.o st.S.nx fr K KX:=by
 unfold Tl at h
 split at h
 ·rename_i ds eL
  split at h
  ·rename_i es ty sz GM
   injection h with h;subst h
   unfold wW at eL
   split at eL
   ·rename_i au
    exact⟨[],_,aJ, .inr (.inr ⟨_,yi.MN au eL (yi.JD (mU ba ck bw GM fun r xP=>EV xP)),hr⟩)⟩
   ·cases eL
  ·cases h
 ·split at h
  ·rename_i ds eL
   split at h
   ·rename_i es ty sz GM
    split at h
    ·rename_i hc
     injection h with h;subst h
     simp only[Bool.and_eq_true]at hc
     refine⟨V.bc args,_, ?_, .inr (.inr ⟨_,yi.MM eL hc.1 (mU ba ck bw GM fun r xP=>EV xP),hr⟩)⟩
     exact List.all_eq_true.2 fun id au=>decide_eq_true (Nat.blt_eq.mp (List.all_eq_true.1 hc.2 id au))
    ·cases h
   ·cases h
  ·cases h
theorem yK(ba:P.follows .mixedOrders=true)(ck:∀g,(bI g).Ok P g){rec:dg}(bw:ed P rec){st:St}{fr:Nat}{o:bH}{r:DR}(h:MU P bI md rec st fr o.op=some r){K:V->List (Nat×ab)->List Nat->Prop}{KX:V->List Nat->List Nat->Prop}(hr:r.to K KX):
 zO P st.S fr o K KX:=by
 have hs:sDX P st fr o.op=some r->(match fS P st.S fr o.op with|some (v,Δ,_)=>K v Δ (nP st.S o.op)|none=>False):=by
  intro h
  unfold sDX at h
  split at h
  ·rename_i v Δ rd he
   injection h with h;subst h
   simp only[EL he]
   exact hr
  ·cases h
 unfold MU at h
 unfold zO
 split at h
 ·rename_i c hc
  simp only[hc]
  split at h
  ·rename_i f hf
   simp only[hf]
   split at h
   ·rename_i g first cap hv
    simp only[hv]
    split at h
    ·have hh:=PQ ba ck bw h hr (fr:=fr)
     split
     ·exact .inr hh
     ·exact hh
    split at h
    ·rename_i r' RY
     injection h with h;subst h
     cases eL:bU st.S.o (first++List.map st.S.ev c.args.toList++cap)with
     |some ds=>exact .inl (Tt ba ck bw eL RY hr)
     |none=>
      have Ti:bU st.o.get (first++List.map st.S.ev c.args.toList++cap)=none:=eL
      unfold cDX at RY
      simp only[Ti]at RY
      exact PQ ba ck bw RY hr
    ·have hh:=MX ba ck bw (st:=st) h hr
     split
     ·exact .inr hh
     ·exact hh
   ·cases h
  ·rename_i eJ
   rw[<- hc]at h
   have:=hs h
   rw[hc]at this
   split
   ·rename_i f hf;exact absurd hf (eJ f)
   ·exact this
 ·rename_i hc
  have:=hs h
  split
  ·rename_i c hh;exact absurd hh (hc c)
  ·exact this
def gdW(s:S)(gd:Option (Nat×Bool))(A B:Prop):Prop:=
 match gd with
 |none=>A
 |some (d,want)=>match s.env d with
  | .d (.bool b)=>if b=want then A else B
  | .bT []=>B
  |_=>False
theorem yL{st:St}{gd:Option (Nat×Bool)}{t:Bool}(h:Zq st gd=some t){A B:Prop}(hA:t=true->A)(hB:t=false->B):gdW st.S gd A B:=by
 cases gd with
 |none=>simp only[Zq,Option.some.injEq]at h;exact hA h.symm
 |some p=>
  obtain⟨d,want⟩:=p
  have he:st.S.env d=st.env.get d:=rfl
  simp only[Zq]at h
  simp only[gdW,he]
  split at h
  ·rename_i b hb
   injection h with h
   by_cases e:b=want
   ·rw[if_pos e];exact hA (by rw[<- h,e];simp)
   ·rw[if_neg e];exact hB (by rw[<- h];simpa using e)
  ·rename_i hb
   injection h with h
   exact hB h.symm
  ·cases h
theorem MY{P:Program}{KB:List Nat->Fp->Prop}{pr:List (List Nat)}{o:bH}{l:List bH}{fr:Nat}{s:S}{fp:Fp}{bad ws:List Nat}(hb:(pr.getD fp.length []).any (fun j=>bad.contains j)=false)
 (h:gdW s o.gd (zO P s fr o (fun v Δ rd=>gP P KB pr l (fr+1) ⟨aU s.env o.dst v,put s.o Δ,s.nx⟩ (fp++[(rd,Δ.map (·.1))]) bad (ws++Δ.map (·.1))) (fun _ _ _=>False)) (gP P KB pr l (fr+1) ⟨aU s.env o.dst (.bT []),s.o,s.nx⟩ (fp++[([],[])]) bad ws)):
 gP P KB pr (o::l) fr s fp bad ws:=by
 simp only[gP]
 rw[if_neg (by rw[hb];simp)]
 cases hg:o.gd with
 |none=>rw[hg]at h;exact h
 |some p=>obtain⟨d,want⟩:=p;rw[hg]at h;exact h
theorem MZ{P:Program}{K:S->Fp->Prop}{KP:V->List Nat->Fp->Prop}{pr:List (List Nat)}{o:bH}{l:List bH}{fr:Nat}{s:S}{fp:Fp}
 (h:gdW s o.gd (zO P s fr o (fun v Δ rd=>kz P K KP pr l (fr+1) ⟨aU s.env o.dst v,put s.o Δ,s.nx⟩ (fp++[(rd,Δ.map (·.1))]))
  (fun v ws rd=>gP P (KP v) pr l (fr+1) ⟨aU s.env o.dst .aa,s.o,s.nx⟩ (fp++[(rd,[])]) [fp.length] (ws++fp.flatMap (·.2)))) (kz P K KP pr l (fr+1) ⟨aU s.env o.dst (.bT []),s.o,s.nx⟩ (fp++[([],[])]))):
 kz P K KP pr (o::l) fr s fp:=by
 simp only[kz]
 cases hg:o.gd with
 |none=>rw[hg]at h;exact h
 |some p=>obtain⟨d,want⟩:=p;rw[hg]at h;exact h
theorem pV(ba:P.follows .mixedOrders=true)(ck:∀g,(bI g).Ok P g){rec:dg}(bw:ed P rec){pr:List (List Nat)}{wl:List Nat}{fp':Fp}{KB:List Nat->Fp->Prop}(hK:KB wl fp'):
 ∀ (l:List bH) (fr:Nat) (st:St) (fp:Fp) (bad ws:List Nat),uz P bI md rec pr l fr st fp bad ws=some (wl,fp')->gP P KB pr l fr st.S fp bad ws
 |[],fr,st,fp,bad,ws,h=>by
  simp only[uz,Option.some.injEq,Prod.mk.injEq]at h
  obtain⟨rfl,rfl⟩:=h;exact hK
 |o::l,fr,st,fp,bad,ws,h=>by
  simp only[uz,ji,mT]at h
  split at h
  ·rename_i hb
   simp only[gP]
   rw[if_pos hb]
   have:=pV ba ck bw hK l _ _ _ _ _ h
   exact Iq
  ·rename_i hb
   refine MY hb ?_
   split at h
   ·rename_i hg
    refine yL hg (fun _=> ?_) (fun h=>by cases h)
    split at h
    ·rename_i v Δ rd gy
     refine yK ba ck bw gy ?_
     have:=pV ba ck bw hK l _ _ _ _ _ h
     simp only[St.S,jc,jE]at this
     exact this
    ·cases h
   ·rename_i hg
    refine yL hg (fun h=>by cases h) (fun _=> ?_)
    have:=pV ba ck bw hK l _ _ _ _ _ h
    exact Iq
   ·cases h
def DQ.to (K:S->Fp->Prop)(KP:V->List Nat->Fp->Prop):DQ->Prop
 | .fin st fp=>K st.S fp
 | .bB v wl fp=>KP v wl fp
theorem mW(ba:P.follows .mixedOrders=true)(ck:∀g,(bI g).Ok P g){rec:dg}(bw:ed P rec){pr:List (List Nat)}{q:DQ}{K:S->Fp->Prop}{KP:V->List Nat->Fp->Prop}(hq:q.to K KP):
 ∀ (l:List bH) (fr:Nat) (st:St) (fp:Fp),uA P bI md rec pr l fr st fp=some q->kz P K KP pr l fr st.S fp
 |[],fr,st,fp,h=>by
  simp only[uA,Option.some.injEq]at h
  subst h;exact hq
 |o::l,fr,st,fp,h=>by
  simp only[uA,ji,mT,Nat.cJ]at h
  refine MZ ?_
  split at h
  ·rename_i hg
   refine yL hg (fun _=> ?_) (fun h=>by cases h)
   split at h
   ·rename_i v Δ rd gy
    refine yK ba ck bw gy ?_
    have:=mW ba ck bw hq l _ _ _ h
    simp only[St.S,jc,jE]at this
    exact this
   ·rename_i v ws rd gy
    split at h
    ·rename_i wl fp' hb
     injection h with h;subst h
     refine yK ba ck bw gy ?_
     have:=pV ba ck bw (KB:=KP v) hq l _ _ _ _ _ hb
     exact Iq
    ·cases h
   ·cases h
  ·rename_i hg
   refine yL hg (fun h=>by cases h) (fun _=> ?_)
   have:=mW ba ck bw hq l _ _ _ h
   exact Iq
  ·cases h
theorem yM{pr:List (List Nat)}{fp:Fp}(h:JU pr fp=true):dY pr fp=true:=by
 unfold JU at h
 split at h
 ·rename_i hq
  unfold quiet at hq
  have hz:∀i,(fp.getD i ([],[])).2=[]:=by
   intro i
   rw[List.getD_eq_getElem?_getD]
   cases hx:fp[i]? with
   |none=>rfl
   |some x=>
    have:=List.all_eq_true.1 hq x (List.mem_of_getElem? hx)
    simp only[Option.getD_some]
    split at this
    ·rename_i e;exact e
    ·cases this
  unfold dY
  simp only[hz,kp,List.all_nil,Bool.and_self,Bool.or_true]
  simp
 ·rw[ET]at h
  unfold dY
  rw[List.all_eq_true]
  intro j hj
  rw[List.all_eq_true]
  intro i hi
  exact Bs fp [] h j (Nat.zero_le _) l7 i (by simpa using hi)
theorem uB:∀ (l:List Nat) (k c:Nat),c<=k->c<=wY l k c/\∀i x,l[i]? =some x->wY l k c<=k+i->x=2^(k+i) - 1
 |[],_,c,_=>⟨Nat.le_refl _,fun i x h=>by simp at h⟩
 |y::l,k,c,hc=>by
  simp only[wY]
  split
  ·rename_i he
   obtain⟨h1,h2⟩:=uB l (k+1) c ae
   refine⟨h1,fun i x hi hle=> ?_⟩
   cases i with
   |zero=>simp at hi;subst hi;simpa using Nat.eq_of_beq_eq_true he
   |succ i=>
    have:=h2 i x (by simpa using hi) ae
    rw[this,show k+(i+1)=k+1+i by omega]
  ·obtain⟨h1,h2⟩:=uB l (k+1) (k+1) (Nat.le_refl _)
   refine⟨ae,fun i x hi hle=> ?_⟩
   cases i with
   |zero=>omega
   |succ i=>
    have:=h2 i x (by simpa using hi) ae
    rw[this,show k+(i+1)=k+1+i by omega]
theorem wZ:∀ (pr:List (List Nat)) (acc:List Nat),(ee pr acc).length=acc.length+pr.length
 |[],acc=>by simp[ee]
 |ps::l,acc=>by simp only[ee,wZ l,List.length_append,List.length_cons,List.length_nil];omega
theorem JW(pr:List (List Nat)):yp pr (pU pr)=true:=by
 refine List.all_eq_true.2 fun k hk=> ?_
 have hk:k<pr.length:=by simpa using hk
 by_cases h:k<pU pr
 ·simp[Nat.blt_eq.mpr h]
 ·have hl:k<(ee pr []).length:=by rw[wZ];simpa using hk
  have:=(uB (ee pr []) 0 0 (Nat.le_refl _)).2 k _ (List.getElem?_eq_getElem hl) (by rw[Nat.zero_add];exact Nat.le_of_not_lt h)
  rw[Nat.zero_add]at this
  rw[List.getD_eq_getElem?_getD,List.getElem?_eq_getElem hl,Option.getD_some,this]
  simp
theorem M0(ba:P.follows .mixedOrders=true)(ck:∀g,(bI g).Ok P g){rec:dg}(bw:ed P rec){l:List bH}{pr:List (List Nat)}{st st':St}{e:fL}(h:Tn P bI md rec l pr st=some (e,st')){Q:fL->S->Prop}(hQ:Q e st'.S):
 kz P (Da pr (st.S.nx+l.length) Q) (A3 pr l st.S Q) pr l st.S.nx st.S []:=by
 unfold Tn at h
 split at h
 ·rename_i s1 fp hd
  split at h
  ·rename_i hf
   simp only[Nat.cJ,Option.some.injEq,Prod.mk.injEq]at h
   obtain⟨rfl,rfl⟩:=h
   exact mW ba ck bw (q:= .fin s1 fp) (K:=Da pr (st.S.nx+l.length) Q) (KP:=A3 pr l st.S Q) (show Da pr (st.S.nx+l.length) Q s1.S fp from⟨yM hf,hQ⟩) l _ _ _ hd
  ·cases h
 ·rename_i v wl fp hd
  split at h
  ·rename_i hf
   simp only[Option.some.injEq,Prod.mk.injEq]at h
   obtain⟨rfl,rfl⟩:=h
   exact mW ba ck bw (q:= .bB v wl fp) (K:=Da pr (st.S.nx+l.length) Q) (KP:=A3 pr l st.S Q) (show A3 pr l st.S Q v wl fp from⟨yM hf,hQ⟩) l _ _ _ hd
  ·cases h
 ·cases h
theorem M3(ba:P.follows .mixedOrders=true)(ck:∀g,(bI g).Ok P g){rec:dg}(bw:ed P rec){n:Nat}{g:Operand}{ps:List Nat}{x y:IC}{st:St}{kt:Kt}{a:dP}(h:MW P bI rec n g ps x y st kt=some a){Q:fL->S->Prop}(hQ:∀e st',kt e st'=some a->Q e st'.S):
 AL P n (st.S.ev g) ps x y Q st.S:=by
 unfold MW at h
 refine⟨(List.range n).map st.env.get,fun i=> ?_, ?_⟩
 ·unfold a7
  simp only[List.getD_eq_getElem?_getD,List.getElem?_map]
  by_cases hi:i<n
  ·right;rw[List.getElem?_range hi];rfl
  ·left;rw[List.getElem?_eq_none (by simp;omega)];rfl
 ·split at h
  ·rename_i f first cap hv
   simp only[hv]
   refine .inl ?_
   have key:=fun {K X} hr=>mU (K:=K) (X:=X) ba ck bw h hr
   simp only[Tr.hU]at key
   refine key fun r hr=> ?_
   unfold Zs at hr
   cases r with
   |ret v o1 zN=>
    simp only at hr
    split at hr
    ·rename_i nf m e p c d lst pd ho
     have hl:lst≠ .busy:=by
      intro hb;subst hb;cases hr
     refine⟨nf,m,e,p,c,d,lst,pd,ho,hl, ?_⟩
     split at hr
     ·cases hr
     ·split at hr<;>(have h3:=hQ _ _ hr;simp only[oA];simp only[St.S,Tr.hU]at h3;exact h3)
    ·cases hr
   |bB v o1 zN=>exact hQ _ _ hr
  ·cases h
theorem br.same {b:Nat}{s:S}(h:b<=s.nx):br b s s:=fun _ φ _ _ h1 h2=>⟨φ,h1,h2,fun _ h=>h,h,fun _ _ hr=>⟨hr,rfl⟩,fun _ e' _ he=>⟨e',he,Nat.le_refl _,fun _=>rfl⟩⟩
theorem JX{x y:Option dP}{a:dP}(h:EU x y=some a):x=some a/\y=some a:=by
 unfold EU at h
 split at h
 ·rename_i r
  split at h
  ·rename_i r'
   split at h
   ·rename_i hs
    injection h with h;subst h
    rw[R.dK hs]
    exact⟨rfl,rfl⟩
   ·cases h
  ·cases h
 ·cases h
theorem Tu(ba:P.follows .mixedOrders=true)(ck:∀g,(bI g).Ok P g):∀k,∀j,j<=k->ed P (run P bI md j):=by
 intro k
 induction k with
 |zero=>intro j hj b rd n ic st kt a h;obtain rfl:j=0:=ae
        cases h
 |succ k ih=>
  intro j hj b rd n ic st kt a h Q hQ
  cases j with
  |zero=>cases h
  |succ j=>
   have bw:ed P (run P bI md j):=ih j ae
   rw[JV]at h
   cases ic with
   |skip=>exact hQ _ _ h
   |exit id=>exact hQ _ _ h
   |ret=>exact hQ _ _ h
   |bad=>cases h
   |ad l=>
    have h:yH P bI md (run P bI md j) (roX kt) l st=some a:=h
    exact sW ba ck bw (K:=Q .normal) (X:=fun v s=>Q (.bB v) s) (fun r hr=>by
     cases r with
     |ok Tj=>exact hQ .normal _ hr
     |bB v Tj=>exact hQ (.bB v) _ hr) l _ h
   |db l pr=>
    have h:To l pr P bI md (run P bI md j) b rd n st kt=some a:=h
    unfold To at h
    rw[Nat.cJ]at h
    split at h
    ·rename_i s1 fp hd
     split at h
     ·rename_i hf
      rw[Nat.cJ]at h
      split at h
      ·rename_i F3
       refine .inr ⟨pU pr,Nat.le_of_ble_eq_true F3,JW pr, ?_⟩
       refine mW ba ck bw (q:= .fin s1 fp) (K:=fun s' fp=>dY pr fp=true/\oC P (fun v s=>Q (.bB v) s) (Q .normal) (l.drop (pU pr)) ⟨s'.env,s'.o,st.S.nx+pU pr⟩) (KP:=fun _ _ _=>False) (show _/\_ from⟨yM hf, ?_⟩) (l.take (pU pr)) _ _ _ hd
       exact sW ba ck bw (K:=Q .normal) (X:=fun v s=>Q (.bB v) s) (fun r hr=>by
        cases r with
        |ok Tj=>exact hQ .normal _ hr
        |bB v Tj=>exact hQ (.bB v) _ hr) (l.drop (pU pr)) ⟨s1.env,s1.o,st.nx+pU pr⟩ h
      ·cases h
     ·cases h
    ·split at h
     ·rename_i e s1 h1
      exact .inl (M0 ba ck bw h1 (hQ _ _ h))
     ·cases h
    ·cases h
   |seq x y=>
    have h:run P bI md j b rd n x st (Dl (run P bI md j) b rd n y kt)=some a:=h
    simp only[sQ]
    refine bw _ _ _ _ _ _ _ h _ fun e s1 he=> ?_
    unfold Dl at he
    cases e with
    |normal=>exact bw _ _ _ _ _ _ _ he _ hQ
    |_=>exact hQ _ _ he
   |cond c x y=>
    have h:(match st.S.ev c with| .d (.bool true)=>run P bI md j b rd n x st kt| .d (.bool false)=>run P bI md j b rd n y st kt| .eW=>EU (run P bI md j b rd n x st kt) (run P bI md j b rd n y st kt)|_=>none)=some a:=h
    simp only[sQ]
    split at h
    ·rename_i hv
     simp only[hv]
     exact(tS _ _).mpr (bw _ _ _ _ _ _ _ h _ hQ)
    ·rename_i hv
     simp only[hv]
     exact(rK _ _).mpr (bw _ _ _ _ _ _ _ h _ hQ)
    ·rename_i hv
     simp only[hv]
     obtain⟨h1,h2⟩:=JX h
     exact⟨bw _ _ _ _ _ _ _ h1 _ hQ,bw _ _ _ _ _ _ _ h2 _ hQ⟩
    ·cases h
   |block id x=>
    have h:run P bI md j b rd n x st (Dm id kt)=some a:=h
    simp only[sQ]
    refine bw _ _ _ _ _ _ _ h _ fun e s1 he=> ?_
    unfold Dm at he
    cases e with
    |exit j'=>
     simp only at he
     split at he
     ·rename_i hb
      simp only[eX,Nat.eq_of_beq_eq_true hb,if_true];exact hQ _ _ he
     ·rename_i hb
      simp only[eX,Nat.ne_of_beq_eq_false hb,if_false];exact hQ _ _ he
    |_=>exact hQ _ _ he
   |loop x=>
    have unf:∀m PR,run P bI md (m+1) b rd n (.loop x) PR kt=some a->b<=PR.nx/\run P bI md m b rd n x PR (Dl (run P bI md m) b rd n (.loop x) kt)=some a:=by
     intro m PR h
     have h:(match Nat.ble b PR.nx with|true=>run P bI md m b rd n x PR (Dl (run P bI md m) b rd n (.loop x) kt)|false=>none)=some a:=h
     split at h
     ·rename_i hb;exact⟨Nat.le_of_ble_eq_true hb,h⟩
     ·cases h
    have h:run P bI md (j+1) b rd n (.loop x) st kt=some a:=h
    refine⟨fun m s=>m<=k+1/\∃st,s=st.S/\run P bI md m b rd n (.loop x) st kt=some a,⟨j+1,st.S,br.same (unf j st h).1,hj,st,rfl,h⟩, ?_⟩
    rintro m s0 ⟨hm,PR,rfl,h0⟩
    cases m with
    |zero=>cases h0
    |succ m=>
     have Zv:ed P (run P bI md m):=ih m ae
     refine Zv _ _ _ _ _ _ _ (unf m PR h0).2 _ fun e s1 he=> ?_
     unfold Dl at he
     cases e with
     |normal=>
      refine⟨m,s1.S,Nat.lt_succ_self _,br.same ?_,ae,s1,rfl,he⟩
      cases m with
      |zero=>cases he
      |succ m=>exact(unf m s1 he).1
     |_=>exact hQ _ _ he
   |FT g ps x y=>
    cases rd with
    |true=>
     have h:(none:Option dP)=some a:=h
     cases h
    |false=>
     have h:MW P bI (run P bI md j) n g ps x y st kt=some a:=h
     exact⟨rfl,_, .inl rfl,M3 ba ck bw h hQ⟩
noncomputable def nL(P:Program)(bI:Nat->FD)(md:pT P)(k:Nat)(g:Nat)(ds:List D):Option R:=
 match JJ P bI (run P bI md k) g (ds.map .d) (.e fun _=> .no) 0 Bo with
 |some (.r x)=>some x
 |_=>none
theorem aV.gk (ba:P.follows .mixedOrders=true)(ck:∀g,(bI g).Ok P g){k g:Nat}{ds:List D}{out:R}(h:nL P bI md k g ds=some out):aV P g ds out:=by
 unfold nL at h
 split at h
 ·rename_i x hr;injection h with h;subst h;exact Bp ba ck (Tu ba ck k k (Nat.le_refl _)) hr
 ·cases h
end
end
def Tr.EW {α:Type}(p:Nat->α->Prop):Tr α->(Nat->Nat)->Prop
 | .e g,f=>∀i,p (f i) (g i)
 | .n x l r,f=>p (f 0) x/\EW p l (fun i=>f (2*i+1))/\EW p r (fun i=>f (2*i+2))
theorem Tr.yN {α:Type}{p:Nat->α->Prop}:∀ {f:Nat->Nat} (t:Tr α),t.EW p f->∀k,p (f k) (t.get k)
 |f, .e g,h,k=>h k
 |f, .n x l r,h,k=>by
  obtain⟨h1,h2,h3⟩:=h
  rw[Tr.uo]
  split
  ·rename_i e;subst e;exact h1
  ·split
   ·have:=Tr.yN l h2 (k/2)
    rwa [show 2*(k/2)+1=k by omega]at this
   ·have:=Tr.yN r h3 (k/2 - 1)
    rwa [show 2*(k/2 - 1)+2=k by omega]at this
end Go.Proofs.YtnkamdiiakdkgaaGreat
