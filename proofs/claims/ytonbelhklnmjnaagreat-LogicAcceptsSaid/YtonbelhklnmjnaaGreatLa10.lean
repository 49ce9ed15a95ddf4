/-
  A PART OF THE PROOF. Conditions: none.
-/
import Derived.Test.YtonbelhklnmjnaaGreatLa9
set_option linter.unusedSimpArgs false
set_option linter.unusedVariables false
namespace Go.Proofs.YtonbelhklnmjnaaGreat
inductive Tr (α:Type) where
 |e (f:Nat->α)
 |n (x:α) (l r:Tr α)
noncomputable def Tr.get {α:Type}(t:Tr α):Nat->α:=
 Tr.rec (motive:=fun _=>Nat->α) (fun f=>f) (fun x _ _ l r k=>Bool.rec (Bool.rec (r (Nat.sub (Nat.div k 2) 1)) (l (Nat.div k 2)) (Nat.beq (Nat.mod k 2) 1)) x (Nat.beq k 0)) t
theorem Tr.Gp {α:Type}(f:Nat->α):(Tr.e f).get=f:=rfl
noncomputable def Tr.vN {α:Type}(x:α):Nat->Tr α->Nat->Tr α
 |0,t,k=> .e (aK t.get k x)
 |d+1, .e f,k=>match Nat.beq k 0 with
  |true=> .n x (.e fun i=>f (2*i+1)) (.e fun i=>f (2*i+2))
  |false=>match Nat.beq (k%2) 1 with
   |true=> .n (f 0) (Tr.vN x d (.e fun i=>f (2*i+1)) (k/2)) (.e fun i=>f (2*i+2))
   |false=> .n (f 0) (.e fun i=>f (2*i+1)) (Tr.vN x d (.e fun i=>f (2*i+2)) (k/2 - 1))
 |d+1, .n y l r,k=>match Nat.beq k 0 with
  |true=> .n x l r
  |false=>match Nat.beq (k%2) 1 with
   |true=> .n y (Tr.vN x d l (k/2)) r
   |false=> .n y l (Tr.vN x d r (k/2 - 1))
noncomputable def Tr.set {α:Type}(t:Tr α)(k:Nat)(x:α):Tr α:=Tr.vN x 24 t k
theorem Tr.vO {α:Type}{x:α}{l r:Tr α}{k:Nat}:(Tr.n x l r).get k=if k=0 then x else if k%2=1 then l.get (k/2)else r.get (k/2 - 1):=by
 show @Bool.rec (fun _=>α) (@Bool.rec (fun _=>α) (r.get (k/2 - 1)) (l.get (k/2)) (Nat.beq (k%2) 1)) x (Nat.beq k 0)=_
 by_cases h:k=0
 ·subst h;rfl
 ·have:Nat.beq k 0=false:=by cases k with|zero=>exact absurd rfl h|succ k=>rfl
  simp only[this,h,if_false]
  by_cases h2:k%2=1
  ·simp[h2]
  ·have:Nat.beq (k%2) 1=false:=by
    cases hb:Nat.beq (k%2) 1 with
    |false=>rfl
    |true=>exact absurd (Nat.eq_of_beq_eq_true hb) h2
   simp[h2,this]
theorem Tr.nR {α:Type}(x:α):∀ (d:Nat) (t:Tr α) (k:Nat),(Tr.vN x d t k).get=aK t.get k x
 |0,t,k=>rfl
 |d+1, .e f,k=>by
  funext i
  simp only[Tr.vN]
  have hb:∀a b:Nat,Nat.beq a b=decide (a=b):=fun a b=>by
   cases h:Nat.beq a b with
   |true=>simp[Nat.eq_of_beq_eq_true h]
   |false=>simp[Nat.ne_of_beq_eq_false h]
  rw[hb,hb]
  by_cases h:k=0
  ·subst h
   simp only[decide_true,Tr.vO,aW]
   by_cases hi:i=0
   ·simp[hi]
   ·simp only[hi,if_false]
    by_cases h2:i%2=1
    ·simp only[h2,if_true,Tr.Gp];congr 1;omega
    ·simp only[h2,if_false,Tr.Gp];congr 1;omega
  ·simp only[h,decide_false]
   by_cases hk:k%2=1
   ·simp only[hk,decide_true,Tr.vO,Tr.nR x d,aW,Tr.Gp]
    by_cases hi:i=0
    ·subst hi;simp[Ne.symm h]
    ·simp only[hi,if_false]
     by_cases h2:i%2=1
     ·simp only[h2,if_true]
      have e1:2*(i/2)+1=i:=ad
      rw[e1]
      by_cases e:i=k
      ·simp[e]
      ·exact N6
     ·simp only[h2,if_false]
      rw[if_neg (by intro e;subst e;exact h2 hk)]
      congr 1;omega
   ·simp only[hk,decide_false,Tr.vO,Tr.nR x d,aW,Tr.Gp]
    by_cases hi:i=0
    ·subst hi;simp[Ne.symm h]
    ·simp only[hi,if_false]
     by_cases h2:i%2=1
     ·simp only[h2,if_true]
      rw[if_neg (by intro e;subst e;exact hk h2)]
      congr 1;omega
     ·simp only[h2,if_false]
      have e1:2*(i/2 - 1)+2=i:=ad
      rw[e1]
      by_cases e:i=k
      ·simp[e]
      ·exact N6
 |d+1, .n y l r,k=>by
  funext i
  simp only[Tr.vN]
  have hb:∀a b:Nat,Nat.beq a b=decide (a=b):=fun a b=>by
   cases h:Nat.beq a b with
   |true=>simp[Nat.eq_of_beq_eq_true h]
   |false=>simp[Nat.ne_of_beq_eq_false h]
  rw[hb,hb]
  by_cases h:k=0
  ·subst h
   simp only[decide_true,Tr.vO,aW]
   by_cases hi:i=0
   ·simp[hi]
   ·simp[hi]
  ·simp only[h,decide_false]
   by_cases hk:k%2=1
   ·simp only[hk,decide_true,Tr.vO,Tr.nR x d,aW]
    by_cases hi:i=0
    ·subst hi;simp[Ne.symm h]
    ·simp only[hi,if_false]
     by_cases h2:i%2=1
     ·simp only[h2,if_true]
      by_cases e:i=k
      ·simp[e]
      ·exact N6
     ·simp only[h2,if_false]
      rw[if_neg (by intro e;subst e;exact h2 hk)]
   ·simp only[hk,decide_false,Tr.vO,Tr.nR x d,aW]
    by_cases hi:i=0
    ·subst hi;simp[Ne.symm h]
    ·simp only[hi,if_false]
     by_cases h2:i%2=1
     ·simp only[h2,if_true]
      rw[if_neg (by intro e;subst e;exact hk h2)]
     ·simp only[h2,if_false]
      by_cases e:i=k
      ·simp[e]
      ·exact N6
theorem Tr.js {α:Type}(t:Tr α)(k:Nat)(x:α):(t.set k x).get=aK t.get k x:=Tr.nR x 24 t k
noncomputable def Nat.fc {β:Type}(n:Nat)(c:Nat->β):β:=Nat.rec (motive:=fun _=>β) (c 0) (fun m _=>c (Nat.succ m)) n
theorem Nat.dv {β:Type}(n:Nat)(c:Nat->β):Nat.fc n c=c n:=by cases n<;>rfl
noncomputable def Int.fc {β:Type}(n:Int)(c:Int->β):β:=Int.rec (motive:=fun _=>β) (fun m=>Nat.fc m fun m=>c (.ofNat m)) (fun m=>Nat.fc m fun m=>c (.negSucc m)) n
theorem Int.dv {β:Type}(n:Int)(c:Int->β):Int.fc n c=c n:=by cases n<;>simp only[Int.fc,Nat.dv]
mutual
noncomputable def D.fc {β:Type}:D->(D->β)->β
 | .int k n,c=>Int.fc n fun n=>c (.int k n)
 | .bool b,c=>match b with|true=>c (.bool true)|false=>c (.bool false)
 | .agg l,c=>D.vP l fun l=>c (.agg l)
 | .sl l,c=>D.vP l fun l=>c (.sl l)
 | .iface t x,c=>D.fc x fun x=>c (.iface t x)
 | .str s,c=>c (.str s)
 | .fK,c=>c .fK
 | .mY,c=>c .mY
 | .cj,c=>c .cj
 | .jt,c=>c .jt
 | .mp ks vs,c=>D.vP ks fun ks=>D.vP vs fun vs=>c (.mp ks vs)
noncomputable def D.vP {β:Type}:List D->(List D->β)->β
 |[],c=>c []
 |x::xs,c=>D.fc x fun x=>D.vP xs fun xs=>c (x::xs)
end
mutual
theorem D.dv {β:Type}:∀ (x:D) (c:D->β),D.fc x c=c x
 | .int k n,c=>by simp only[D.fc,Int.dv]
 | .bool b,c=>by cases b<;>rfl
 | .agg l,c=>by simp only[D.fc,D.gf l]
 | .sl l,c=>by simp only[D.fc,D.gf l]
 | .iface t x,c=>by simp only[D.fc,D.dv x]
 | .mp ks vs,c=>by simp only[D.fc,D.gf ks,D.gf vs]
 | .str _,_| .fK,_| .mY,_| .cj,_| .jt,_=>by simp only[D.fc]
theorem D.gf {β:Type}:∀ (x:List D) (c:List D->β),D.vP x c=c x
 |[],c=>by simp only[D.vP]
 |x::xs,c=>by simp only[D.vP,D.dv x,D.gf xs]
end
mutual
noncomputable def V.fc {β:Type}:V->(V->β)->β
 | .d x,c=>D.fc x fun x=>c (.d x)
 | .agg l,c=>V.vP l fun l=>c (.agg l)
 | .cA l,c=>V.vP l fun l=>c (.cA l)
 | .ptr i o,c=>Nat.fc i fun i=>Nat.fc o fun o=>c (.ptr i o)
 | .osl i o,c=>Nat.fc i fun i=>Nat.fc o fun o=>c (.osl i o)
 | .pe a b i j k,c=>Nat.fc a fun a=>Nat.fc b fun b=>Nat.fc i fun i=>Nat.fc j fun j=>Nat.fc k fun k=>c (.pe a b i j k)
 | .pp l o,c=>D.vP l fun l=>Nat.fc o fun o=>c (.pp l o)
 | .func f a b,c=>V.vP a fun a=>V.vP b fun b=>c (.func f a b)
 | .iface t x,c=>V.fc x fun x=>c (.iface t x)
 | .rP l,c=>D.vP l fun l=>c (.rP l)
 | .xW i j k,c=>Nat.fc i fun i=>Nat.fc j fun j=>Nat.fc k fun k=>c (.xW i j k)
 | .mp i,c=>Nat.fc i fun i=>c (.mp i)
 | .j6 i,c=>Nat.fc i fun i=>c (.j6 i)
 | .bT,c=>c .bT
 | .aa,c=>c .aa
 | .fm,c=>c .fm
noncomputable def V.vP {β:Type}:List V->(List V->β)->β
 |[],c=>c []
 |x::xs,c=>V.fc x fun x=>V.vP xs fun xs=>c (x::xs)
end
mutual
theorem V.dv {β:Type}:∀ (x:V) (c:V->β),V.fc x c=c x
 | .d x,c=>by simp only[V.fc,D.dv]
 | .agg l,c=>by simp only[V.fc,V.gf l]
 | .cA l,c=>by simp only[V.fc,V.gf l]
 | .pp l o,c=>by simp only[V.fc,D.gf,Nat.dv]
 | .func f a b,c=>by simp only[V.fc,V.gf a,V.gf b]
 | .iface t x,c=>by simp only[V.fc,V.dv x]
 | .rP l,c=>by simp only[V.fc,D.gf]
 | .ptr _ _,_| .osl _ _,_| .pe _ _ _ _ _,_| .xW _ _ _,_| .mp _,_| .j6 _,_| .bT,_| .aa,_| .fm,_=>by simp only[V.fc,Nat.dv]
theorem V.gf {β:Type}:∀ (x:List V) (c:List V->β),V.vP x c=c x
 |[],c=>by simp only[V.vP]
 |x::xs,c=>by simp only[V.vP,V.dv x,V.gf xs]
end
section
variable {β:Type}
noncomputable def aae(k:IntKind)(n:Int)(c:V->β):β:=Int.fc n fun n=>c (.d (.int k n))
noncomputable def aaf(b:Bool)(c:V->β):β:= @Bool.rec (fun _=>β) (c (.d (.bool false))) (c (.d (.bool true))) b
noncomputable def Vl(x:D)(c:V->β):β:=D.fc x fun x=>c (.d x)
noncomputable def vD(x:D):(V->β)->β:=match x with| .int k n=>aae k n| .bool b=>aaf b|x=>Vl x
noncomputable def aag(i o:Nat)(c:V->β):β:=Nat.fc i fun i=>Nat.fc o fun o=>c (.ptr i o)
noncomputable def aah(i o:Nat)(c:V->β):β:=Nat.fc i fun i=>Nat.fc o fun o=>c (.osl i o)
noncomputable def vPe(a b i j k:Nat)(c:V->β):β:=Nat.fc a fun a=>Nat.fc b fun b=>Nat.fc i fun i=>Nat.fc j fun j=>Nat.fc k fun k=>c (.pe a b i j k)
noncomputable def V.YO (v:V):(V->β)->β:=match v with| .d x=>vD x| .ptr i o=>aag i o| .osl i o=>aah i o| .pe a b i j k=>vPe a b i j k|v=>V.fc v
theorem V.Vm (v:V)(c:V->β):V.YO v c=c v:=by
 cases v
 case d x=>
  cases x
  case int k n=>simp only[V.YO,vD,aae,Int.dv]
  case bool b=>cases b<;>rfl
  all_goals exact D.dv _ _
 case ptr i o=>simp only[V.YO,aag,Nat.dv]
 case osl i o=>simp only[V.YO,aah,Nat.dv]
 case pe a b i j k=>simp only[V.YO,vPe,Nat.dv]
 all_goals exact V.dv _ _
end
noncomputable def YP{β:Type}:List (D×D)->(List (D×D)->β)->β
 |[],c=>c []
 |(a,b)::l,c=>D.fc a fun a=>D.fc b fun b=>YP l fun l=>c ((a,b)::l)
theorem Lp{β:Type}:∀ (x:List (D×D)) (c:List (D×D)->β),YP x c=c x
 |[],c=>rfl
 |(a,b)::l,c=>by simp only[YP,D.dv,Lp l]
noncomputable def ae.fc {β:Type}(x:ae)(c:ae->β):β:=
 match x with
 | .row cs=>V.vP cs fun cs=>c (.row cs)
 | .arr e t s es=>Nat.fc e fun e=>Nat.fc s fun s=>D.vP es fun es=>c (.arr e t s es)
 | .tc e es=>Nat.fc e fun e=>D.vP es fun es=>c (.tc e es)
 | .map kt vt l=>YP l fun l=>c (.map kt vt l)
 | .iY l=>YP l fun l=>c (.iY l)
 | .nq l last=>YP l fun l=>c (.nq l last)
 | .zX l pos=>Nat.fc pos fun pos=>c (.zX l pos)
 |x=>c x
theorem ae.dv {β:Type}(x:ae)(c:ae->β):ae.fc x c=c x:=by cases x<;>simp only[ae.fc,V.gf,D.gf,Nat.dv,Lp]
noncomputable def Tr.yN {α β:Type}(x:α)(d:Nat):Tr α->Nat->(Tr α->β)->β:=
 Nat.rec (motive:=fun _=>Tr α->Nat->(Tr α->β)->β) (fun t k c=>c (.e (aK t.get k x)))
  (fun _ ih t k c=>Tr.rec (motive:=fun _=>β) (fun f=>
   Bool.rec (Bool.rec (ih (.e fun i=>f (2*i+2)) (Nat.sub (Nat.div k 2) 1) fun r=>c (.n (f 0) (.e fun i=>f (2*i+1)) r)) (ih (.e fun i=>f (2*i+1)) (Nat.div k 2) fun l=>c (.n (f 0) l (.e fun i=>f (2*i+2)))) (Nat.beq (Nat.mod k 2) 1))
    (c (.n x (.e fun i=>f (2*i+1)) (.e fun i=>f (2*i+2)))) (Nat.beq k 0))
   (fun y l r _ _=>Bool.rec (Bool.rec (ih r (Nat.sub (Nat.div k 2) 1) fun r=>c (.n y l r)) (ih l (Nat.div k 2) fun l=>c (.n y l r)) (Nat.beq (Nat.mod k 2) 1)) (c (.n x l r)) (Nat.beq k 0)) t) d
theorem Tr.vQ {α β:Type}(x:α):∀ (d:Nat) (t:Tr α) (k:Nat) (c:Tr α->β),Tr.yN x d t k c=c (Tr.vN x d t k)
 |0,t,k,c=>rfl
 |d+1, .e f,k,c=>by
  show @Bool.rec (fun _=>β) (@Bool.rec (fun _=>β) (Tr.yN x d (.e fun i=>f (2*i+2)) (k/2 - 1) fun r=>c (.n (f 0) (.e fun i=>f (2*i+1)) r)) (Tr.yN x d (.e fun i=>f (2*i+1)) (k/2) fun l=>c (.n (f 0) l (.e fun i=>f (2*i+2)))) (Nat.beq (k%2) 1)) (c (.n x (.e fun i=>f (2*i+1)) (.e fun i=>f (2*i+2)))) (Nat.beq k 0)=_
  simp only[Tr.vN,Tr.vQ x d]
  cases Nat.beq k 0
  ·cases Nat.beq (k%2) 1<;>rfl
  ·rfl
 |d+1, .n y l r,k,c=>by
  show @Bool.rec (fun _=>β) (@Bool.rec (fun _=>β) (Tr.yN x d r (k/2 - 1) fun r=>c (.n y l r)) (Tr.yN x d l (k/2) fun l=>c (.n y l r)) (Nat.beq (k%2) 1)) (c (.n x l r)) (Nat.beq k 0)=_
  simp only[Tr.vN,Tr.vQ x d]
  cases Nat.beq k 0
  ·cases Nat.beq (k%2) 1<;>rfl
  ·rfl
noncomputable def Tr.Vn {α β:Type}(t:Tr α)(k:Nat)(x:α)(c:Tr α->β):β:=Tr.yN x 24 t k c
theorem Tr.Gq {α β:Type}(t:Tr α)(k:Nat)(x:α)(c:Tr α->β):t.Vn k x c=c (t.set k x):=Tr.vQ x 24 t k c
structure St where
 env:Tr V
 o:Tr ae
 nx:Nat
noncomputable def St.S (st:St):S:=⟨st.env.get,st.o.get,st.nx⟩
noncomputable def IA(o:Tr ae)(Δ:List (Nat×ae)):Tr ae:=Δ.foldl (fun f x=>f.set x.1 x.2) o
noncomputable def tE(env:Tr V)(dst:Option Tmp)(v:V):Tr V:=match dst with|some d=>env.set d v|none=>env
noncomputable def vR{β:Type}(o:Tr ae):List (Nat×ae)->(Tr ae->β)->β
 |[],c=>c o
 |(i,x)::Δ,c=>ae.fc x fun x=>o.Vn i x fun o=>vR o Δ c
theorem nS{β:Type}:∀ (Δ:List (Nat×ae)) (o:Tr ae) (c:Tr ae->β),vR o Δ c=c (IA o Δ)
 |[],o,c=>rfl
 |(i,x)::Δ,o,c=>by simp only[vR,ae.dv,Tr.Gq,nS Δ];rfl
noncomputable def mE{β:Type}(env:Tr V)(dst:Option Tmp)(v:V)(c:Tr V->β):β:=match dst with|some d=>V.YO v fun v=>env.Vn d v c|none=>c env
theorem ke{β:Type}(env:Tr V)(dst:Option Tmp)(v:V)(c:Tr V->β):mE env dst v c=c (tE env dst v):=by
 cases dst<;>simp only[mE,tE,V.Vm,Tr.Gq]
theorem kG:∀ (Δ:List (Nat×ae)) (o:Tr ae),(IA o Δ).get=put o.get Δ
 |[],_=>rfl
 |x::Δ,o=>by
  simp only[IA,put,List.foldl_cons]
  have:=kG Δ (o.set x.1 x.2)
  simp only[IA,put]at this
  rw[this,Tr.js]
theorem eW(env:Tr V)(dst:Option Tmp)(v:V):(tE env dst v).get=bF env.get dst v:=by
 cases dst<;>simp[tE,bF,Tr.js]
section Vo
def RE(x:Operand)(_:Program)(s:S)(_:Nat):Option gO:=one (s.ev x)
def aai(c a b:Operand)(_:Program)(s:S)(_:Nat):Option gO:=lW (qT (s.ev c) (s.ev a) (s.ev b))
def Vp(t:TypeId)(parts:Array (Nat×Operand))(P:Program)(s:S)(_:Nat):Option gO:=lW (sB P t (parts.toList.map fun p=>(p.1,s.ev p.2)))
def C3(t:TypeId)(len:Nat)(parts:Array (Nat×Operand))(P:Program)(s:S)(fr:Nat):Option gO:=ig P s.o fr t len (parts.toList.map fun p=>(p.1,s.ev p.2))
def aaj(t:TypeId)(x:Operand)(P:Program)(s:S)(_:Nat):Option gO:=nI P s.o t (s.ev x)
def Vq(t:TypeId)(x v:Operand)(P:Program)(s:S)(_:Nat):Option gO:=sA P s.o t (s.ev x) (s.ev v)
def ad7(x:Operand)(_:Program)(s:S)(_:Nat):Option gO:=lW (j7 s.o (s.ev x))
noncomputable def aak(op:BinOp):IntKind->Int->Int->Option V:=
 match op with
 | .add=>fun k a b=>some (.d (.int k (k.wrap (Int.add a b))))
 | .sub=>fun k a b=>some (.d (.int k (k.wrap (Int.sub a b))))
 | .mul=>fun k a b=>some (.d (.int k (k.wrap (Int.mul a b))))
 |op=>Cs op
theorem Pb(op:BinOp):aak op=Cs op:=by cases op<;>rfl
def asInt(x:V):Option (IntKind×Int):=match x with| .d (.int k a)=>some (k,a)|_=>none
def Lq(op:BinOp)(t:TypeId)(c:Bool)(x y:V)(P:Program)(o:Nat->ae):Option gO:=eL P o op t c x y
noncomputable def aal(op:BinOp)(t:TypeId)(x y:Operand)(P:Program)(s:S)(_:Nat):Option gO:=
 match asInt (s.ev x)with
 |some (k,a)=>match asInt (s.ev y)with
  |some (k',b)=>if k=k' then match aak op k a b with
   |some v=>some (v,[],[])
   |none=>Lq op t (isConst x||isConst y) (s.ev x) (s.ev y) P s.o
   else none
  |none=>Lq op t (isConst x||isConst y) (s.ev x) (s.ev y) P s.o
 |none=>Lq op t (isConst x||isConst y) (s.ev x) (s.ev y) P s.o
theorem C4{x:V}{k:IntKind}{a:Int}(h:asInt x=some (k,a)):x= .d (.int k a):=by
 unfold asInt at h;split at h
 ·injection h with h;cases h;rfl
 ·cases h
def E7(t:TypeId)(x:Operand)(f:Nat)(P:Program)(s:S)(_:Nat):Option gO:=lW (je P s.o t (s.ev x) f)
def E8(t:TypeId)(x i:Operand)(P:Program)(s:S)(_:Nat):Option gO:=jd P s.o t (s.ev x) (s.ev i)
def Vr(op:Op)(P:Program)(s:S)(fr:Nat):Option gO:=gQ P s fr op
noncomputable def Pc(op:Op):Program->S->Nat->Option gO:=
 match op with
 | .move x=>RE x
 | .assign x=>RE x
 | .pick c a b=>aai c a b
 | .build t parts=>Vp t parts
 | .buildSlice t len parts=>C3 t len parts
 | .load t x=>aaj t x
 | .store t x v=>Vq t x v
 | .nilCheck x=>ad7 x
 | .binOp op t x y _=>aal op t x y
 | .fieldAddr t x f=>E7 t x f
 | .indexAddr t x i=>E8 t x i
 |op=>Vr op
theorem Gs{op:Op}{P:Program}{s:S}{fr:Nat}{r:gO}(h:Pc op P s fr=some r):gQ P s fr op=some r:=by
 cases op
 case binOp op t x y yt=>
  simp only[Pc,aal,Pb]at h
  have e:gQ P s fr (.binOp op t x y yt)=eL P s.o op t (isConst x||isConst y) (s.ev x) (s.ev y):=rfl
  rw[e]
  split at h
  ·rename_i k a hx
   split at h
   ·rename_i k' b hy
    split at h
    ·rename_i hk
     split at h
     ·rename_i v hv
      unfold eL An
      simp only[C4 hx,C4 hy,if_pos hk,hv]
      exact h
     ·exact h
    ·cases h
   ·exact h
  ·exact h
 all_goals exact h
end Vo
inductive FD where
 |fn (n:Nat) (ic:IC) (rs:List ResultVar)
 |dfr (n:Nat) (iZ eN:IC) (g t:Nat) (fP:List Operand) (rs:List ResultVar) (m r r1:Nat) (yM:IC)
 |mpc
 |no
def FD.Ok (P:Program)(f:Nat):FD->Prop
 | .fn n ic rs=>aD P f n ic rs
 | .dfr n iZ eN g t fP rs m r r1 yM=>Gn P f n iZ eN g t fP rs/\CZ P g m r r1 yM
 | .mpc=>RD P f
 | .no=>True
inductive CR where
 |ret (v:V) (o:Tr ae) (nx:Nat)|cc (v:V) (o:Tr ae) (nx:Nat)
def CR.to (K X:V->(Nat->ae)->Nat->Prop):CR->Prop
 | .ret v o nx=>K v o.get nx
 | .cc v o nx=>X v o.get nx
inductive RO where
 |ok (st:St)|cc (v:V) (st:St)
def RO.to (K:S->Prop)(X:V->S->Prop):RO->Prop
 | .ok st=>K st.S
 | .cc v st=>X v st.S
inductive eR where
 |r (x:R)|c (x:CR)
abbrev Kt:=fG->St->Option eR
abbrev dW:=Nat->Bool->Nat->IC->St->Kt->Option eR
noncomputable def IB(P:Program)(rs:List ResultVar)(st:St)(kc:CR->Option eR):Option eR:=
 match mu P st.S rs with
 |some [v]=>kc (.ret v st.o st.nx)
 |some vs=>kc (.ret (.cA vs) st.o st.nx)
 |none=>none
noncomputable def RF(P:Program)(rs:List ResultVar)(kc:CR->Option eR):Kt:=fun e st=>
 match e with
 | .normal=>IB P rs st kc
 | .ret=>IB P rs st kc
 | .cc v=>kc (.cc v st.o st.nx)
 | .exit _=>none
noncomputable def Lr(P:Program)(rs:List ResultVar)(kc:CR->Option eR)(env:Tr V):Kt:=fun e s4=>
 match e with
 | .normal=>IB P rs ⟨env,s4.o,s4.nx⟩ kc
 | .ret=>IB P rs ⟨env,s4.o,s4.nx⟩ kc
 |_=>none
def aam:fG->Option V
 | .normal=>some (.d .fK)
 | .ret=>some (.d .fK)
 | .cc v=>some v
 | .exit _=>none
noncomputable def Ls(P:Program)(rec:dW)(rs:List ResultVar)(aL:List V)(m r r1:Nat)(yM:IC)(kc:CR->Option eR):Kt:=fun e s3=>
 match aam e with
 |some u=>if aL.length<=m then rec s3.nx true m yM ⟨.e (aK (aK (cN aL) r u) r1 u),s3.o,s3.nx⟩ (Lr P rs kc s3.env)else none
 |none=>none
noncomputable def Gt(P:Program)(rec:dW)(n t:Nat)(eN:IC)(g:Nat)(fP:List Operand)(rs:List ResultVar)(m r r1:Nat)(yM:IC)(kc:CR->Option eR):Kt:=fun e s1=>
 match e with
 | .normal=>rec s1.nx false n eN ⟨s1.env.set t (.func (.func g) [] (fP.map s1.S.ev)),s1.o,s1.nx⟩ (Ls P rec rs (fP.map s1.S.ev) m r r1 yM kc)
 |_=>none
noncomputable def Lt(P:Program)(cu:Nat->FD)(rec:dW)(g:Nat)(args:List V)(o:Tr ae)(nx:Nat)(kc:CR->Option eR):Option eR:=
 match cu g with
 | .fn n ic rs=>if args.length<=n then rec nx false n ic ⟨.e (cN args),o,nx⟩ (RF P rs kc)else none
 | .dfr n iZ eN g t fP rs m r r1 yM=>if args.length<=n then rec nx true n iZ ⟨.e (cN args),o,nx⟩ (Gt P rec n t eN g fP rs m r r1 yM kc)else none
 | .mpc=>match args with
   |[.mp id]=>match o.get id with
    | .map kt vt l=>kc (.ret (.mp nx) (o.set nx (.map kt vt l)) (nx+1))
    |_=>none
   |_=>none
 | .no=>none
def vS:V->List V
 | .cA vs=>vs
 |v=>[v]
noncomputable def Gu(r:CR):Option R:=
 match r with
 | .ret v o _=>match v with
   | .cA [_]=>none
   |v=>match cE o.get (vS v)with
    |some rs=>some (.ret rs)
    |none=>none
 | .cc v o _=>match eu o.get v with
   |some x=>some (.cc x)
   |none=>none
noncomputable def rfc{β:Type}(x:R)(c:R->β):β:=match x with| .ret l=>D.vP l fun l=>c (.ret l)| .cc d=>D.fc d fun d=>c (.cc d)
theorem E9{β:Type}(x:R)(c:R->β):rfc x c=c x:=by cases x<;>simp only[rfc,D.gf,D.dv]
noncomputable def C5(r:CR):Option eR:=match Gu r with|some x=>rfc x fun x=>some (.r x)|none=>none
theorem Lu{r:CR}{a:eR}(h:C5 r=some a):∃x,Gu r=some x/\a= .r x:=by
 unfold C5 at h
 split at h
 ·rename_i x hx;rw[E9]at h;injection h with h;exact⟨x,hx,h.symm⟩
 ·cases h
def Lv(out:R)(o:Tr ae)(nx:Nat):CR:=
 match out with
 | .ret rs=> .ret (jT rs) o nx
 | .cc x=> .cc (.d x) o nx
structure ri (P:Program) where
 dat:Nat->Bool
 fx:Nat->List D->Option R
 ok:∀g ds out,fx g ds=some out->aR P g ds out
def Lw(l:List (Nat×List D×R))(g:Nat)(ds:List D):Option R:=
 match l with
 |[]=>none
 |x::l=>match Nat.beq x.1 g with
  |true=>match D.gY x.2.1 ds with
   |true=>some x.2.2
   |false=>Lw l g ds
  |false=>Lw l g ds
theorem AL{P:Program}:∀ {l:List (Nat×List D×R)},(∀x∈l,aR P x.1 x.2.1 x.2.2)->∀g ds out,Lw l g ds=some out->aR P g ds out
 |[],_,_,_,_,h=>by cases h
 |x::l,hl,g,ds,out,h=>by
  simp only[Lw]at h
  split at h
  ·rename_i hg
   split at h
   ·rename_i hd
    injection h with h
    have:=hl x au
    rw[Nat.eq_of_beq_eq_true hg,D.dP _ _ hd,h]at this
    exact this
   ·exact AL (fun y hy=>hl y BI) g ds out h
  ·exact AL (fun y hy=>hl y BI) g ds out h
def ri.of {P:Program}(dat:Nat->Bool)(l:List (Nat×List D×R))(h:∀x∈l,aR P x.1 x.2.1 x.2.2):ri P:=⟨dat,Lw l,AL h⟩
noncomputable def Ph(P:Program)(cu:Nat->FD)(md:ri P)(rec:dW)(g:Nat)(ds:List D):Option R:=
 match md.fx g ds with
 |some out=>some out
 |none=>match Lt P cu rec g (ds.map .d) (.e fun _=> .no) 0 C5 with
  |some (.r x)=>some x
  |_=>none
noncomputable def RG(out:R)(o:Tr ae)(nx:Nat)(args:List V)(kc:CR->Option eR):Option eR:=
 match out.flat with
 |true=>kc (Lv out o (nx+1))
 |false=>match out.nC with
  |true=>kc (Lv out (IA o (sc o.get (V.bO args))) (nx+1))
  |false=>kc (Lv out (IA o (dy o.get (V.bO args))) (nx+1))
noncomputable def Gv(P:Program)(cu:Nat->FD)(md:ri P)(rec:dW)(g:Nat)(args:List V)(o:Tr ae)(nx:Nat)(kc:CR->Option eR):Option eR:=
 match md.dat g,cE o.get args with
 |true,some ds=>match Ph P cu md rec g ds with
  |some out=>RG out o nx args kc
  |none=>none
 |_,_=>Lt P cu rec g args o nx kc
noncomputable def Lx(id:Nat)(kc:CR->Option eR):Kt:=fun e s2=>
 match e with
 | .cc v=>kc (.cc v s2.o s2.nx)
 |e=>match s2.o.get id with
  | .loop nf m en p c d _ _=>match e with
    | .normal=>kc (.ret (.d (.bool true)) (s2.o.set id (.loop nf m en p c d .ready none)) s2.nx)
    | .ret=>kc (.ret (.d (.bool false)) (s2.o.set id (.loop nf m en p c d .done (some .ret))) s2.nx)
    | .exit j=>kc (.ret (.d (.bool false)) (s2.o.set id (.loop nf m en p c d .done (some (.exit j)))) s2.nx)
    | .cc _=>none
  |_=>none
noncomputable def Gw(rec:dW)(id nx n:Nat)(eN:IC)(kc:CR->Option eR):Kt:=fun e s1=>
 match e with
 | .normal=>match s1.o.get id with
   | .loop nf m en p c d .ready pd=>rec nx true n eN ⟨s1.env,s1.o.set id (.loop nf m en p c d .busy pd),s1.nx⟩ (Lx id kc)
   |_=>none
 | .cc v=>kc (.cc v s1.o s1.nx)
 |_=>none
noncomputable def Vs(P:Program)(rec:dW)(id:Nat)(args:List V)(o:Tr ae)(nx:Nat)(kc:CR->Option eR):Option eR:=
 match o.get id with
 | .loop nf n env ps iZ eN _ _=>if nf=P.funcs.size/\id<nx/\ps.all (fun t=>decide (t<n))=true/\args.length=ps.length then
  rec nx true n iZ ⟨.e (m8 (bz env) ps args),o,nx⟩ (Gw rec id nx n eN kc)
   else none
 |_=>none
noncomputable def yO(P:Program)(st:St)(o:cI)(kr:RO->Option eR):Option eR:=
 match Pc o.op P st.S st.nx with
 |some (v,Δ,_)=>mE st.env o.dst v fun e=>vR st.o Δ fun ob=>Nat.fc (st.nx+1) fun n=>kr (.ok ⟨e,ob,n⟩)
 |none=>none
noncomputable def crX(st:St)(dst:Option Nat)(kr:RO->Option eR)(c:CR):Option eR:=
 match c with
 | .ret v o nx=>mE st.env dst v fun e=>Nat.fc nx fun nx=>kr (.ok ⟨e,o,nx⟩)
 | .cc v o nx=>kr (.cc v ⟨st.env,o,nx⟩)
noncomputable def Ly(c:Call)(P:Program)(cu:Nat->FD)(md:ri P)(rec:dW)(st:St)(o:cI)(kr:RO->Option eR):Option eR:=
 match c.callee with
 | .value f=>match st.S.ev f with
   | .func (.func g) first cap=>Gv P cu md rec g (first++c.args.toList.map st.S.ev++cap) st.o st.nx (crX st o.dst kr)
   | .j6 id=>Vs P rec id (c.args.toList.map st.S.ev) st.o st.nx (crX st o.dst kr)
   |_=>none
 | .invoke r m=>match vm P m (st.S.ev r)with
   |some (g,y)=>Gv P cu md rec g (y::c.args.toList.map st.S.ev) st.o st.nx (crX st o.dst kr)
   |none=>none
 |_=>yO P st o kr
noncomputable def Vt(x:Operand)(P:Program)(_:Nat->FD)(_:ri P)(_:dW)(st:St)(_:cI)(kr:RO->Option eR):Option eR:=
 match st.S.ev x with
 | .d (.iface t y)=>kr (.cc (.d (.iface t y)) st)
 | .iface t y=>kr (.cc (.iface t y) st)
 |_=>none
noncomputable def aan(P:Program)(_:Nat->FD)(_:ri P)(_:dW)(st:St)(o:cI)(kr:RO->Option eR):Option eR:=yO P st o kr
def R.same:R->R->Bool
 | .ret a, .ret b=>D.gY a b
 | .cc a, .cc b=>a.same b
 |_,_=>false
theorem R.eG {x y:R}(h:x.same y=true):x=y:=by
 cases x<;>cases y<;>simp only[R.same,Bool.false_eq_true]at h
 ·rw[D.dP _ _ h]
 ·rw[D.eG _ _ h]
noncomputable def brX(f:Nat->Option eR):Nat->Option eR
 |0=>none
 |n+1=>match n with
  |0=>f 0
  |n=>match brX f n with
   |some (.r a)=>match f n with
    |some (.r b)=>match R.same a b with
     |true=>some (.r a)
     |false=>none
    |_=>none
   |_=>none
theorem Lz{f:Nat->Option eR}{a:eR}:∀ {n:Nat},brX f n=some a->∀i,i<n->f i=some a
 |0,h,_,_=>by cases h
 |1,h,i,hi=>by obtain rfl:i=0:=ad
               exact h
 |n+2,h,i,hi=>by
  simp only[brX]at h
  split at h
  ·rename_i x hx
   split at h
   ·rename_i y hy
    split at h
    ·rename_i he
     have e:=R.eG he
     subst e
     rw[<- h]
     by_cases e:i=n+1
     ·subst e;exact hy
     ·exact Lz hx i ad
    ·cases h
   ·cases h
  ·cases h
noncomputable def Pj(st:St)(dst:Option Nat)(kr:RO->Option eR)(v:V)(Δ:List (Nat×ae)):Option eR:=
 mE st.env dst v fun e=>vR st.o Δ fun ob=>Nat.fc (st.nx+1) fun n=>kr (.ok ⟨e,ob,n⟩)
noncomputable def LA(x:Operand)(str:Bool)(P:Program)(_:Nat->FD)(_:ri P)(_:dW)(st:St)(o:cI)(kr:RO->Option eR):Option eR:=
 match pg st.o.get (st.S.ev x)with
 |some (id,l)=>match str with
  |true=>none
  |false=>match l with
   |[]=>Pj st o.dst kr (.cA [.d (.bool false)]) []
   |_=>brX (fun i=>match l[i]? with
    |some (k,x)=>Pj st o.dst kr (.cA [.d (.bool true), .d k, .d x]) [(id, .nq (l.eraseIdx i) (some (k,x)))]
    |none=>none) l.length
 |none=>yO P st o kr
noncomputable def opK(op:Op):(P:Program)->(Nat->FD)->ri P->dW->St->cI->(RO->Option eR)->Option eR:=
 match op with
 | .call c=>Ly c
 | .panic x=>Vt x
 | .next x str=>LA x str
 |_=>aan
noncomputable def opX(P:Program)(cu:Nat->FD)(md:ri P)(rec:dW)(st:St)(o:cI)(kr:RO->Option eR):Option eR:=opK o.op P cu md rec st o kr
noncomputable def roK(next:St->Option eR)(kr:RO->Option eR):RO->Option eR:=fun r=>match r with| .ok st=>next st| .cc v st=>kr (.cc v st)
noncomputable def AM(P:Program)(cu:Nat->FD)(md:ri P)(rec:dW)(kr:RO->Option eR):List cI->St->Option eR
 |[],st=>kr (.ok st)
 |o::l,st=>match(match o.gd with
   |none=>some true
   |some (d,want)=>match st.env.get d with
    | .d (.bool b)=>some (b==want)
    | .cA []=>some false
    |_=>none)with
  |some true=>opX P cu md rec st o (roK (AM P cu md rec kr l) kr)
  |some false=>mE st.env o.dst (.cA []) fun e=>Nat.fc (st.nx+1) fun n=>AM P cu md rec kr l ⟨e,st.o,n⟩
  |none=>none
section
variable {P:Program}{cu:Nat->FD}{md:ri P}
noncomputable def e8(P:Program)(rec:dW):Prop:=∀b rd n ic st k a,rec b rd n ic st k=some a->∀Q:fG->S->Prop,(∀e st',k e st'=some a->Q e st'.S)->uD P n b rd ic Q st.S
theorem uG{rs:List ResultVar}{st:St}{kc:CR->Option eR}{a:eR}(h:IB P rs st kc=some a){K X:V->(Nat->ae)->Nat->Prop}(hr:∀r,kc r=some a->r.to K X):mB P rs K X .ret st.S:=by
 unfold IB at h
 unfold mB
 split at h
 ·rename_i v hv;simp only[hv];exact hr _ h
 ·rename_i vs hv hn
  simp only[hn]
  exact hr _ h
 ·cases h
theorem nT(bM:P.follows .mixedOrders=true)(c7:∀g,(cu g).Ok P g){rec:dW}(cf:e8 P rec){g:Nat}{args:List V}{o:Tr ae}{nx:Nat}{kc:CR->Option eR}{a:eR}(h:Lt P cu rec g args o nx kc=some a){K X:V->(Nat->ae)->Nat->Prop}(hr:∀r,kc r=some a->r.to K X):
 cU P g args o.get nx K X:=by
 have bA:=c7 g
 unfold Lt at h
 split at h
 ·rename_i n ic rs ht
  rw[ht]at bA
  split at h
  ·rename_i hl
   refine cU.vI bM bA hl ?_
   refine cf _ _ _ _ _ _ _ h _ fun e st he=> ?_
   unfold RF at he
   cases e with
   |normal=>exact uG he hr
   |ret=>exact uG he hr
   |cc v=>exact hr _ he
   |exit j=>cases he
  ·cases h
 ·rename_i n iZ eN g' t fP rs m r0 r1 yM ht
  rw[ht]at bA
  split at h
  ·rename_i hl
   refine cU.C2 bM bA.1 bA.2 hl (cf _ _ _ _ _ _ _ h _ fun e s1 he=> ?_)
   unfold Gt at he
   cases e with
   |normal=>
    have hb:uD P n s1.nx false eN (AJ P m r0 r1 yM (fP.map s1.S.ev) rs K X) ⟨aK s1.env.get t (.func (.func g') [] (fP.map s1.S.ev)),s1.o.get,s1.nx⟩:=by
     have:=cf _ _ _ _ _ _ _ he (AJ P m r0 r1 yM (fP.map s1.S.ev) rs K X) (fun e s3 YQ=>by
      unfold Ls at YQ
      split at YQ
      ·rename_i u hu
       split at YQ
       ·rename_i pI
        have hrw:E5 P m r0 r1 yM (fP.map s1.S.ev) u s3.o.get s3.nx fun o nx=>mB P rs K X .ret ⟨s3.env.get,o,nx⟩:=by
         refine⟨pI,cf _ _ _ _ _ _ _ YQ _ fun e4 s4 he4=> ?_⟩
         unfold Lr at he4
         cases e4 with
         |normal=>exact uG (st:=⟨s3.env,s4.o,s4.nx⟩) he4 hr
         |ret=>exact uG (st:=⟨s3.env,s4.o,s4.nx⟩) he4 hr
         |_=>cases he4
        cases e<;>simp only[aam,Option.some.injEq,reduceCtorEq]at hu<;>subst hu<;>exact hrw
       ·cases YQ
      ·cases YQ)
     simp only[St.S,Tr.js]at this
     exact this
    exact hb
   |_=>cases he
  ·cases h
 ·rename_i ht
  rw[ht]at bA
  split at h
  ·split at h
   ·rename_i kt vt l ho
    have h2:=hr _ h
    simp only[CR.to,Tr.js]at h2
    exact cU.Vk bA ho h2
   ·cases h
  ·cases h
 ·cases h
theorem LB{r:CR}{out:R}(ho:Gu r=some out):r.to (fun v o _=>∃vs rs,v=(match vs with|[v]=>v|vs=> .cA vs)/\cE o vs=some rs/\out= .ret rs) (fun v o _=>∃x,eu o v=some x/\out= .cc x):=by
 unfold Gu at ho
 split at ho
 ·rename_i v o nx
  split at ho
  ·cases ho
  ·rename_i hv
   split at ho
   ·rename_i rs Zj
    injection ho with ho;subst ho
    refine⟨vS v,rs, ?_,Zj,rfl⟩
    cases v with
    |cA vs=>
     match vs,hv with
     |[],_=>rfl
     |[x],hv=>exact absurd rfl (hv x)
     |_::_::_,_=>rfl
    |_=>rfl
   ·cases ho
 ·split at ho
  ·rename_i x hx
   injection ho with ho;subst ho
   exact⟨x,hx,rfl⟩
  ·cases ho
theorem C6(bM:P.follows .mixedOrders=true)(c7:∀g,(cu g).Ok P g){rec:dW}(cf:e8 P rec){g:Nat}{ds:List D}{out:R}(h:Lt P cu rec g (ds.map .d) (.e fun _=> .no) 0 C5=some (.r out)):aR P g ds out:=by
 refine aR.mC (nT bM c7 cf h fun r hr=> ?_)
 obtain⟨x,hx,he⟩:=Lu hr
 injection he with he;subst he
 exact LB hx
theorem AO(bM:P.follows .mixedOrders=true)(c7:∀g,(cu g).Ok P g){rec:dW}(cf:e8 P rec){g:Nat}{ds:List D}{out:R}(h:Ph P cu md rec g ds=some out):aR P g ds out:=by
 unfold Ph at h
 split at h
 ·rename_i afr ho
  injection h with h;subst h
  exact md.ok _ _ _ ho
 ·split at h
  ·rename_i x hr;injection h with h;subst h;exact C6 bM c7 cf hr
  ·cases h
theorem C7(bM:P.follows .mixedOrders=true)(c7:∀g,(cu g).Ok P g){rec:dW}(cf:e8 P rec){g:Nat}{args:List V}{o:Tr ae}{nx:Nat}{kc:CR->Option eR}{a:eR}(h:Gv P cu md rec g args o nx kc=some a){K X:V->(Nat->ae)->Nat->Prop}(hr:∀r,kc r=some a->r.to K X):
 Q6 P g args o.get nx K X:=by
 unfold Gv at h
 split at h
 ·rename_i ds hmd fk
  split at h
  ·rename_i out LC
   have hP:=AO bM c7 cf LC
   refine .inl ⟨ds,fk,out,hP, ?_⟩
   unfold RG at h
   split at h
   ·rename_i hf
    refine .inr (.inl ⟨hf, ?_⟩)
    cases out<;>exact hr _ h
   ·split at h
    ·rename_i hf
     refine .inr (.inr ⟨hf, ?_⟩)
     rw[<- kG]
     cases out<;>exact hr _ h
    ·refine .inl ?_
     rw[<- kG]
     cases out<;>exact hr _ h
  ·cases h
 ·exact .inr (nT bM c7 cf h hr)
theorem Pk(bM:P.follows .mixedOrders=true){rec:dW}(cf:e8 P rec){id:Nat}{args:List V}{o:Tr ae}{nx:Nat}{kc:CR->Option eR}{a:eR}(h:Vs P rec id args o nx kc=some a){K X:V->(Nat->ae)->Nat->Prop}(hr:∀r,kc r=some a->r.to K X):
 eh P id args o.get nx K X:=by
 unfold Vs at h
 split at h
 ·rename_i nf n env ps iZ eN st pd ho
  split at h
  ·rename_i hc
   obtain⟨rfl,db,CY,hl⟩:=hc
   refine eh.vI bM ho db CY hl ?_
   refine cf _ _ _ _ _ _ _ h _ fun e s1 he=> ?_
   unfold Gw at he
   cases e with
   |normal=>
    simp only at he
    split at he
    ·rename_i nf m en p c d pd qm
     refine⟨nf,m,en,p,c,d,pd,qm, ?_⟩
     have:=cf _ _ _ _ _ _ _ he (jM id K X) (fun e s2 h2=>by
      unfold Lx at h2
      split at h2
      ·exact hr _ h2
      ·rename_i Q0
       split at h2
       ·rename_i nf' m' en' p' c' d' st' pd' Vu
        cases e with
        |cc v=>cases h2
        |normal=>have h3:=hr _ h2;simp only[CR.to,Tr.js]at h3;exact⟨nf',m',en',p',c',d',st',pd',Vu,h3⟩
        |ret=>have h3:=hr _ h2;simp only[CR.to,Tr.js]at h3;exact⟨nf',m',en',p',c',d',st',pd',Vu,h3⟩
        |exit j=>have h3:=hr _ h2;simp only[CR.to,Tr.js]at h3;exact⟨nf',m',en',p',c',d',st',pd',Vu,h3⟩
       ·cases h2)
     simp only[St.S,Tr.js]at this
     exact this
    ·cases he
   |cc v=>exact hr _ he
   |_=>cases he
  ·cases h
 ·cases h
theorem vT{st:St}{o:cI}{kr:RO->Option eR}{a:eR}(h:yO P st o kr=some a){K:S->Prop}{X:V->S->Prop}(hr:∀r,kr r=some a->r.to K X):match gQ P st.S st.S.nx o.op with
 |some (v,Δ,_)=>K ⟨bF st.S.env o.dst v,put st.S.o Δ,st.S.nx+1⟩
 |none=>False:=by
 unfold yO at h
 split at h
 ·rename_i v Δ rd he
  have he:=Gs he
  simp only[ke,nS,Nat.dv]at h
  have hr:=hr _ h
  simp only[RO.to,St.S,eW,kG]at hr
  have o7:gQ P st.S st.S.nx o.op=some (v,Δ,rd):=he
  simp only[o7]
  exact hr
 ·cases h
theorem Gx{st:St}{dst:Option Nat}{kr:RO->Option eR}{v:V}{Δ:List (Nat×ae)}{a:eR}(h:Pj st dst kr v Δ=some a){K:S->Prop}{X:V->S->Prop}(hr:∀r,kr r=some a->r.to K X):K ⟨bF st.S.env dst v,put st.S.o Δ,st.S.nx+1⟩:=by
 unfold Pj at h
 simp only[ke,nS,Nat.dv]at h
 have hr:=hr _ h
 simp only[RO.to,St.S,eW,kG]at hr
 exact hr
theorem Vv(bM:P.follows .mixedOrders=true)(c7:∀g,(cu g).Ok P g){rec:dW}(cf:e8 P rec){st:St}{o:cI}{kr:RO->Option eR}{a:eR}(h:opX P cu md rec st o kr=some a){K:S->Prop}{X:V->S->Prop}(hr:∀r,kr r=some a->r.to K X):JR P st.S o X K:=by
 have cr:∀r,crX st o.dst kr r=some a->r.to (fun v o' nx'=>K ⟨bF st.S.env o.dst v,o',nx'⟩) (fun v o' nx'=>X v ⟨st.S.env,o',nx'⟩):=by
  intro r hx
  unfold crX at hx
  split at hx
  ·simp only[ke,Nat.dv]at hx
   have hr:=hr _ hx
   simp only[RO.to,St.S,eW]at hr
   exact hr
  ·exact hr _ hx
 unfold opX at h
 unfold JR
 cases ey:o.op
 case call c=>
  rw[ey]at h
  have h:Ly c P cu md rec st o kr=some a:=h
  unfold Ly at h
  cases hf:c.callee
  case value f=>
   simp only[hf]at h|-
   split at h
   ·rename_i g first cap hv
    simp only[hv]
    have:=C7 bM c7 cf h cr
    rcases this with⟨ds,fk,hP⟩|hC
    ·have Vw:cE st.S.o (first++List.map st.S.ev c.args.toList++cap)=some ds:=fk
     simp only[Vw]
     exact .inl hP
    ·split
     ·exact .inr (.inl hC)
     ·exact .inl hC
   ·rename_i id hv
    simp only[hv]
    exact Pk bM cf h cr
   ·cases h
  case invoke r m=>
   simp only[hf]at h|-
   split at h
   ·rename_i g y hv
    simp only[hv]
    exact C7 bM c7 cf h cr
   ·cases h
  all_goals
   simp only[hf]at h|-
   have:=vT h hr
   rw[ey]at this
   exact this
 case panic x=>
  rw[ey]at h
  have h:Vt x P cu md rec st o kr=some a:=h
  unfold Vt at h
  split at h
  ·rename_i hv;simp only[hv];exact hr _ h
  ·rename_i hv;simp only[hv];exact hr _ h
  ·cases h
 case next x str=>
  rw[ey]at h
  have h:LA x str P cu md rec st o kr=some a:=h
  unfold LA at h
  have hl:pg st.S.o (st.S.ev x)=pg st.o.get (st.S.ev x):=rfl
  simp only[hl]
  split at h
  ·rename_i id l aC
   simp only[aC]
   cases str with
   |true=>cases h
   |false=>
    refine⟨rfl,fun e=> ?_,fun i k y e=> ?_⟩
    ·subst e
     exact Gx h hr
    ·cases l with
     |nil=>simp at e
     |cons p l=>
      have:=Lz h i (List.getElem?_eq_some_iff.1 e).1
      rw[e]at this
      exact Gx this hr
  ·rename_i aC
   simp only[aC]
   have:=vT h hr
   rw[ey]at this
   exact this
 all_goals
  have h2:yO P st o kr=some a:=by rw[ey]at h;exact h
  have:=vT h2 hr
  rw[ey]at this
  exact this
theorem uH(bM:P.follows .mixedOrders=true)(c7:∀g,(cu g).Ok P g){rec:dW}(cf:e8 P rec){kr:RO->Option eR}{a:eR}{K:S->Prop}{X:V->S->Prop}(hr:∀r,kr r=some a->r.to K X):∀ (l:List cI) (st:St),AM P cu md rec kr l st=some a->pP P X K l st.S
 |[],st,h=>hr (.ok st) h
 |o::l,st,h=>by
  simp only[AM,ke,Nat.dv]at h
  simp only[pP]
  have op:opX P cu md rec st o (roK (AM P cu md rec kr l) kr)=some a->JR P st.S o X (pP P X K l):=by
   intro h
   refine Vv bM c7 cf h fun r hrr=> ?_
   cases r with
   |ok Vx=>exact uH bM c7 cf hr l Vx hrr
   |cc v Vx=>exact hr (.cc v Vx) hrr
  have sk:AM P cu md rec kr l ⟨tE st.env o.dst (.cA []),st.o,st.nx+1⟩=some a->pP P X K l ⟨bF st.S.env o.dst (.cA []),st.S.o,st.S.nx+1⟩:=by
   intro h
   have:=uH bM c7 cf hr l _ h
   simp only[St.S,eW]at this
   exact this
  cases hg:o.gd with
  |none=>simp only[hg]at h;exact op h
  |some p=>
   obtain⟨d,want⟩:=p
   simp only[hg]at h
   have he:st.S.env d=st.env.get d:=rfl
   simp only[he]
   cases hv:st.env.get d with
   |d x=>
    cases x with
    |bool b=>
     simp only[hv]at h|-
     by_cases e:b=want
     ·subst e
      simp only[beq_self_eq_true]at h
      rw[if_pos rfl];exact op h
     ·have:(b==want)=false:=by simpa using e
      rw[this]at h
      rw[if_neg e];exact sk h
    |_=>simp[hv]at h
   |cA vs=>
    cases vs with
    |nil=>simp only[hv]at h|-;exact sk h
    |cons a cF=>simp[hv]at h
   |_=>simp[hv]at h
end
end Go.Proofs.YtonbelhklnmjnaaGreat
namespace Go.Proofs.YtonbelhklnmjnaaGreat
mutual
def V.same:V->V->Bool
 | .d x, .d y=>x.same y
 | .bT, .bT=>true
 | .aa, .aa=>true
 | .agg a, .agg b=>V.gY a b
 | .ptr i o, .ptr j p=>Nat.beq i j&&Nat.beq o p
 | .osl i o, .osl j p=>Nat.beq i j&&Nat.beq o p
 | .rP a, .rP b=>D.gY a b
 | .iface t x, .iface u y=>Nat.beq t u&&x.same y
 | .mp i, .mp j=>Nat.beq i j
 |_,_=>false
def V.gY:List V->List V->Bool
 |[],[]=>true
 |a::cF,b::bs=>a.same b&&V.gY cF bs
 |_,_=>false
end
mutual
theorem V.eG:∀ (x y:V),x.same y=true->x=y
 | .d x,y,h=>by cases y<;>simp only[V.same,Bool.false_eq_true]at h;rw[D.eG _ _ h]
 | .bT,y,h=>by cases y<;>simp_all[V.same]
 | .aa,y,h=>by cases y<;>simp_all[V.same]
 | .agg a,y,h=>by cases y<;>simp only[V.same,Bool.false_eq_true]at h;rw[V.dP _ _ h]
 | .ptr i o,y,h=>by
   cases y<;>simp only[V.same,Bool.false_eq_true,Bool.and_eq_true]at h
   rw[Nat.eq_of_beq_eq_true h.1,Nat.eq_of_beq_eq_true h.2]
 | .osl i o,y,h=>by
   cases y<;>simp only[V.same,Bool.false_eq_true,Bool.and_eq_true]at h
   rw[Nat.eq_of_beq_eq_true h.1,Nat.eq_of_beq_eq_true h.2]
 | .rP a,y,h=>by cases y<;>simp only[V.same,Bool.false_eq_true]at h;rw[D.dP _ _ h]
 | .iface t x,y,h=>by
   cases y<;>simp only[V.same,Bool.false_eq_true,Bool.and_eq_true]at h
   rw[Nat.eq_of_beq_eq_true h.1,V.eG _ _ h.2]
 | .mp i,y,h=>by
   cases y<;>simp only[V.same,Bool.false_eq_true]at h
   rw[Nat.eq_of_beq_eq_true h]
 | .cA _,y,h| .pe _ _ _ _ _,y,h| .pp _ _,y,h| .func _ _ _,y,h| .xW _ _ _,y,h| .fm,y,h| .j6 _,y,h=>by simp[V.same]at h
theorem V.dP:∀ (x y:List V),V.gY x y=true->x=y
 |[],y,h=>by cases y<;>simp_all[V.gY]
 |a::cF,y,h=>by
  cases y<;>simp only[V.gY,Bool.false_eq_true,Bool.and_eq_true]at h
  rw[V.eG _ _ h.1,V.dP _ _ h.2]
end
def vU:List (D×D)->List (D×D)->Bool
 |[],[]=>true
 |(a,b)::l,(c,d)::m=>a.same c&&(b.same d&&vU l m)
 |_,_=>false
theorem vV:∀ (l m:List (D×D)),vU l m=true->l=m
 |[],m,h=>by cases m<;>simp_all[vU]
 |(a,b)::l,m,h=>by
  cases m with
  |nil=>simp[vU]at h
  |cons p m=>
   obtain⟨c,d⟩:=p
   simp only[vU,Bool.and_eq_true]at h
   rw[D.eG _ _ h.1,D.eG _ _ h.2.1,vV l m h.2.2]
noncomputable def ae.same:ae->ae->Bool
 | .no, .no=>true
 | .row a, .row b=>V.gY a b
 | .arr e t s a, .arr f u r b=>Nat.beq e f&&Nat.beq t u&&Nat.beq s r&&D.gY a b
 | .tc e a, .tc f b=>Nat.beq e f&&D.gY a b
 | .map k v a, .map k' v' b=>Nat.beq k k'&&Nat.beq v v'&&vU a b
 | .iY a, .iY b=>vU a b
 | .zX a i, .zX b j=>a==b&&Nat.beq i j
 |_,_=>false
theorem ae.eG {x y:ae}(h:x.same y=true):x=y:=by
 cases x<;>cases y<;>simp only[ae.same,Bool.false_eq_true,Bool.and_eq_true]at h
 ·rfl
 ·rw[V.dP _ _ h]
 ·rw[Nat.eq_of_beq_eq_true h.1.1.1,Nat.eq_of_beq_eq_true h.1.1.2,Nat.eq_of_beq_eq_true h.1.2,D.dP _ _ h.2]
 ·rw[Nat.eq_of_beq_eq_true h.1,D.dP _ _ h.2]
 ·rw[Nat.eq_of_beq_eq_true h.1.1,Nat.eq_of_beq_eq_true h.1.2,vV _ _ h.2]
 ·rw[vV _ _ h]
 ·rw[eq_of_beq h.1,Nat.eq_of_beq_eq_true h.2]
noncomputable def reach(o:Nat->ae):Nat->List Nat->List Nat->List Nat
 |0,_,seen=>seen
 |_+1,[],seen=>seen
 |n+1,id::todo,seen=>match seen.contains id with
  |true=>reach o n todo seen
  |false=>reach o n ((o id).refs++todo) (id::seen)
noncomputable def fh(o o1:Nat->ae):List Nat->List (Nat×ae)
 |[]=>[]
 |id::l=>match(o id).same (o1 id)with
  |true=>fh o o1 l
  |false=>(id,o1 id)::fh o o1 l
theorem jC{o o1:Nat->ae}:∀ (l:List Nat) (x:Nat×ae),x∈fh o o1 l->x.1∈l/\x.2=o1 x.1
 |[],x,h=>by simp[fh]at h
 |id::l,x,h=>by
  simp only[fh]at h
  split at h
  ·obtain⟨h1,h2⟩:=jC l x h;exact⟨List.mem_cons_of_mem _ h1,h2⟩
  ·rcases List.mem_cons.1 h with rfl|h
   ·exact⟨au,rfl⟩
   ·obtain⟨h1,h2⟩:=jC l x h;exact⟨List.mem_cons_of_mem _ h1,h2⟩
theorem nU{o o1:Nat->ae}:∀ (l:List Nat) (id:Nat),id∈l->id∉(fh o o1 l).map (·.1)->o1 id=o id
 |[],id,h,_=>by simp at h
 |j::l,id,h,hn=>by
  simp only[fh]at hn
  split at hn
  ·rename_i hs
   rcases List.mem_cons.1 h with rfl|h
   ·exact(ae.eG hs).symm
   ·exact nU l id h hn
  ·simp only[List.map_cons,List.mem_cons,not_or]at hn
   rcases List.mem_cons.1 h with rfl|h
   ·exact absurd rfl hn.1
   ·exact nU l id h hn.2
theorem C8{o1:Nat->ae}:∀ (Δ:List (Nat×ae)) (o:Nat->ae),(∀x∈Δ,x.2=o1 x.1)->∀id,id∈Δ.map (·.1)\/o id=o1 id->put o Δ id=o1 id
 |[],o,_,id,h=>by rcases h with h|h;· simp at h
                  ·exact h
 |x::Δ,o,hv,id,h=>by
  simp only[put,List.foldl_cons]
  refine C8 Δ (aK o x.1 x.2) (fun y hy=>hv y (List.mem_cons_of_mem _ hy)) id ?_
  simp only[List.map_cons,List.mem_cons]at h
  simp only[aW]
  by_cases e:id=x.1
  ·right;rw[if_pos e,hv x (by simp),e]
  ·rcases h with(h|h)|h
   ·exact absurd h e
   ·exact .inl h
   ·right;rw[if_neg e];exact h
theorem tF{o o1:Nat->ae}{l:List Nat}{id:Nat}(h:id∈l):o1 id=put o (fh o o1 l) id:=by
 by_cases hm:id∈(fh o o1 l).map (·.1)
 ·exact(C8 _ o (fun x hx=>(jC l x hx).2) id (.inl hm)).symm
 ·rw[il hm];exact nU l id h hm
inductive DR where
 |val (v:V) (Δ:List (Nat×ae)) (rd:List Nat)|cc (v:V) (ws rd:List Nat)
def DR.to (K:V->List (Nat×ae)->List Nat->Prop)(KX:V->List Nat->List Nat->Prop):DR->Prop
 | .val v Δ rd=>K v Δ rd
 | .cc v ws rd=>KX v ws rd
noncomputable def crA(c:CR):Option eR:=some (.c c)
noncomputable def hX(P:Program)(cu:Nat->FD)(rec:dW)(g:Nat)(args:List V)(st:St):Option DR:=
 let rd:=reach st.o.get 2000 (V.aQ args) []
 match rd.all (fun id=>Nat.blt id st.nx&&(st.o.get id).refs.all rd.contains)&&(V.aQ args).all rd.contains with
 |true=>match Lt P cu rec g args (.e (ET rd st.o.get)) st.nx crA with
  |some (.c (.ret v o1 _))=>match v with
   | .cA [_]=>none
   |v=>match cE o1.get (vS v)with
    |some rs=>match(fh st.o.get o1.get rd).all (fun x=>x.2.refs.all rd.contains)&&(V.bO (vS v)).all (fun id=> !rd.contains id)with
     |true=>some (.val (jT rs) (fh st.o.get o1.get rd) rd)
     |false=>none
    |none=>none
  |some (.c (.cc v o1 _))=>match eu o1.get v with
   |some x=>match(fh st.o.get o1.get rd).all (fun x=>x.2.refs.all rd.contains)&&v.ids.all (fun id=> !rd.contains id)with
    |true=>some (.cc (.d x) ((fh st.o.get o1.get rd).map (·.1)) rd)
    |false=>none
   |none=>none
  |_=>none
 |false=>none
noncomputable def cDX(P:Program)(cu:Nat->FD)(md:ri P)(rec:dW)(g:Nat)(args:List V)(st:St)(rd:List Nat):Option DR:=
 match cE st.o.get args with
 |some ds=>match md.dat g with
  |false=>match Lt P cu rec g (ds.map .d) (.e fun _=> .no) 0 crA with
   |some (.c (.ret v _ _))=>match v.refs with
    |[]=>some (.val v (dy st.o.get (V.bO args)) rd)
    |_=>none
   |_=>none
  |true=>match Ph P cu md rec g ds with
   |some (.ret rs)=>match D.kz rs with
    |true=>some (.val (jT rs) [] rd)
    |false=>some (.val (jT rs) (dy st.o.get (V.bO args)) rd)
   |some (.cc x)=>match x.flat with
    |true=>some (.cc (.d x) [] rd)
    |false=>none
   |none=>none
 |none=>hX P cu rec g args st
noncomputable def sDX(P:Program)(st:St)(fr:Nat)(op:Op):Option DR:=
 match Pc op P st.S fr with
 |some (v,Δ,_)=>some (.val v Δ (qk st.S op))
 |none=>none
def V.ad8:V->Bool
 | .mp _=>true
 |_=>false
def Vy{P:Program}(md:ri P)(g:Nat)(args:List V):Bool:= !md.dat g&&args.any V.ad8
def yP(args:List V):Option (List D):=
 match V.bO args with
 |[]=>cE (fun _=> .no) args
 |_=>none
noncomputable def Pl(P:Program)(t:TypeId)(c:CR):Option eR:=
 match c with
 | .ret v o1 _=>match v with
   | .osl j ep=>match o1.get j with
     | .arr ju ty sz es=>match Nat.beq ju ep with
       |true=>rfc (.ret [.sl es, .int .i64 (ty:Nat), .int .i64 (sz:Nat)]) fun x=>some (.r x)
       |false=>none
     |_=>none
   | .bT=>match cS P t with
     |some e=>match Nat.blt 0 (P.cellsOf e)with
      |true=>rfc (.ret [.sl [], .int .i64 (e:Nat), .int .i64 (P.cellsOf e:Nat)]) fun x=>some (.r x)
      |false=>none
     |none=>none
   |_=>none
 |_=>none
noncomputable def Vz(P:Program)(cu:Nat->FD)(rec:dW)(g:Nat)(t:TypeId)(args:List V)(st:St)(fr:Nat):Option DR:=
 match yP args with
 |some ds=>match Lt P cu rec g (ds.map .d) (.e fun _=> .no) 0 (Pl P t)with
  |some (.r (.ret [.sl es, .int .i64 (.ofNat ty), .int .i64 (.ofNat sz)]))=>some (.val (.osl fr 0) [(fr, .arr 0 ty sz es)] [])
  |_=>none
 |none=>match cE st.o.get args with
  |some ds=>match Lt P cu rec g (ds.map .d) (.e fun _=> .no) 0 (Pl P t)with
   |some (.r (.ret [.sl es, .int .i64 (.ofNat ty), .int .i64 (.ofNat sz)]))=>match D.kz es&&(V.bO args).all (fun id=>Nat.blt id st.nx)with
    |true=>some (.val (.osl fr 0) [(fr, .arr 0 ty sz es)] (V.bO args))
    |false=>none
   |_=>none
  |none=>none
noncomputable def Pm(P:Program)(cu:Nat->FD)(md:ri P)(rec:dW)(st:St)(fr:Nat)(op:Op):Option DR:=
 match op with
 | .call c=>match c.callee with
   | .value f=>match st.S.ev f with
     | .func (.func g) first cap=>match Vy md g (first++c.args.toList.map st.S.ev++cap)with
       |true=>hX P cu rec g (first++c.args.toList.map st.S.ev++cap) st
       |false=>match cDX P cu md rec g (first++c.args.toList.map st.S.ev++cap) st (qk st.S (.call c))with
        |some r=>some r
        |none=>Vz P cu rec g (c.argTypes.getD 0 0) (first++c.args.toList.map st.S.ev++cap) st fr
     |_=>none
   |_=>sDX P st fr (.call c)
 |op=>sDX P st fr op
noncomputable def gdX(st:St):Option (Nat×Bool)->Option Bool
 |none=>some true
 |some (d,want)=>match st.env.get d with
  | .d (.bool b)=>some (b==want)
  | .cA []=>some false
  |_=>none
noncomputable def vW(P:Program)(cu:Nat->FD)(md:ri P)(rec:dW)(pr:List (List Nat)):List cI->Nat->St->Fp->List Nat->List Nat->Option (List Nat×Fp)
 |[],_,_,fp,_,ws=>some (ws,fp)
 |o::l,fr,st,fp,bad,ws=>match(pr.getD fp.length []).any (fun j=>bad.contains j)with
  |true=>vW P cu md rec pr l (fr+1) ⟨tE st.env o.dst .aa,st.o,st.nx⟩ (fp++[([],[])]) (bad++[fp.length]) ws
  |false=>match gdX st o.gd with
   |some true=>match Pm P cu md rec st fr o.op with
    |some (.val v Δ rd)=>mE st.env o.dst v fun e=>vR st.o Δ fun ob=>vW P cu md rec pr l (fr+1) ⟨e,ob,st.nx⟩ (fp++[(rd,Δ.map (·.1))]) bad (ws++Δ.map (·.1))
    |_=>none
   |some false=>vW P cu md rec pr l (fr+1) ⟨tE st.env o.dst (.cA []),st.o,st.nx⟩ (fp++[([],[])]) bad ws
   |none=>none
inductive DQ where
 |fin (st:St) (fp:Fp)|cc (v:V) (wl:List Nat) (fp:Fp)
noncomputable def vX(P:Program)(cu:Nat->FD)(md:ri P)(rec:dW)(pr:List (List Nat)):List cI->Nat->St->Fp->Option DQ
 |[],_,st,fp=>some (.fin st fp)
 |o::l,fr,st,fp=>match gdX st o.gd with
  |some true=>match Pm P cu md rec st fr o.op with
   |some (.val v Δ rd)=>mE st.env o.dst v fun e=>vR st.o Δ fun ob=>Nat.fc (fr+1) fun fr=>vX P cu md rec pr l fr ⟨e,ob,st.nx⟩ (fp++[(rd,Δ.map (·.1))])
   |some (.cc v ws rd)=>match vW P cu md rec pr l (fr+1) ⟨tE st.env o.dst .aa,st.o,st.nx⟩ (fp++[(rd,[])]) [fp.length] (ws++fp.flatMap (·.2))with
    |some (wl,fp)=>some (.cc v wl fp)
    |none=>none
   |none=>none
  |some false=>mE st.env o.dst (.cA []) fun e=>Nat.fc (fr+1) fun fr=>vX P cu md rec pr l fr ⟨e,st.o,st.nx⟩ (fp++[([],[])])
  |none=>none
noncomputable def quiet(fp:Fp):Bool:=fp.all fun x=>match x.2 with|[]=>true|_=>false
noncomputable def AP(m:Nat)(x:List Nat×List Nat):Nat->Fp->Bool
 |_,[]=>true
 |i,y::l=>(match y.2,x.2 with
  |[],[]=>true
  |_,_=>m.testBit i||(np y.2 x.1&&np y.2 x.2&&np x.2 y.1))&&AP m x (i+1) l
noncomputable def Gy(ms:List Nat)(pre:Fp):Nat->Fp->Bool
 |_,[]=>true
 |j,x::l=>AP (ms.getD j 0) x 0 pre&&Gy ms (pre++[x]) (j+1) l
noncomputable def nfc{β:Type}:List Nat->(List Nat->β)->β
 |[],c=>c []
 |x::xs,c=>Nat.fc x fun x=>nfc xs fun xs=>c (x::xs)
theorem LD{β:Type}:∀ (x:List Nat) (c:List Nat->β),nfc x c=c x
 |[],c=>rfl
 |x::xs,c=>by simp only[nfc,Nat.dv,LD xs]
noncomputable def Po{β:Type}:Fp->(Fp->β)->β
 |[],c=>c []
 |(a,b)::l,c=>nfc a fun a=>nfc b fun b=>Po l fun l=>c ((a,b)::l)
theorem Gz{β:Type}:∀ (x:Fp) (c:Fp->β),Po x c=c x
 |[],c=>rfl
 |(a,b)::l,c=>by simp only[Po,LD,Gz l]
noncomputable def LF(pr:List (List Nat))(fp:Fp):Bool:=match quiet fp with|true=>true|false=>Po fp fun fp=>Gy (eM pr []) [] 0 fp
theorem yQ{m:Nat}{x:List Nat×List Nat}:∀ (l:Fp) (i:Nat),AP m x i l=true->∀k,k<l.length->(m.testBit (i+k)||(np (l.getD k ([],[])).2 x.1&&np (l.getD k ([],[])).2 x.2&&np x.2 (l.getD k ([],[])).1))=true
 |[],i,_,k,hk=>by simp at hk
 |y::l,i,h,k,hk=>by
  simp only[AP,Bool.and_eq_true]at h
  cases k with
  |zero=>
   have h1:=h.1
   simp only[List.getD_cons_zero,Nat.add_zero]
   split at h1
   ·rename_i e1 e2
    rw[e1,e2];simp[np]
   ·exact h1
  |succ k=>
   have:=yQ l (i+1) h.2 k (by simpa using hk)
   rw[List.getD_cons_succ,show i+(k+1)=i+1+k by omega]
   exact this
theorem C9{ms:List Nat}:∀ (l pre:Fp),Gy ms pre pre.length l=true->∀j,pre.length<=j->j<(pre++l).length->∀i,i<j->
 ((ms.getD j 0).testBit i||(np ((pre++l).getD i ([],[])).2 ((pre++l).getD j ([],[])).1&&np ((pre++l).getD i ([],[])).2 ((pre++l).getD j ([],[])).2&&np ((pre++l).getD j ([],[])).2 ((pre++l).getD i ([],[])).1))=true
 |[],pre,_,j,h1,h2,i,_=>by simp at h2;omega
 |x::l,pre,h,j,h1,h2,i,hi=>by
  simp only[Gy,Bool.and_eq_true]at h
  by_cases e:j=pre.length
  ·subst e
   have:=yQ pre 0 h.1 i hi
   have e1:(pre++x::l).getD pre.length ([],[])=x:=by simp[List.getD_eq_getElem?_getD]
   have e2:(pre++x::l).getD i ([],[])=pre.getD i ([],[]):=by simp[List.getD_eq_getElem?_getD,List.getElem?_append_left hi]
   rw[e1,e2]
   simpa using this
  ·have h3:=h.2
   have:=C9 l (pre++[x]) (by simpa using h3) j BH Em i hi
   simpa using this
noncomputable def VA(P:Program)(cu:Nat->FD)(md:ri P)(rec:dW)(l:List cI)(pr:List (List Nat))(st:St):Option (fG×St):=
 match vX P cu md rec pr l st.nx st []with
 |some (.fin s1 fp)=>match LF pr fp with
  |true=>Nat.fc (st.nx+l.length) fun n=>some (.normal,⟨s1.env,s1.o,n⟩)
  |false=>none
 |some (.cc v wl fp)=>match LF pr fp with
  |true=>some (.cc v,⟨.e (qq (dstsOf l) wl l.length st.S).env, .e (qq (dstsOf l) wl l.length st.S).o,st.nx+l.length⟩)
  |false=>none
 |none=>none
noncomputable def aao(id:Nat)(env:Tr V)(kt:Kt)(c:CR):Option eR:=
 match c with
 | .ret _ o1 Bx=>match o1.get id with
   | .loop nf m e p c d lst pd=>match lst with
     | .busy=>none
     |_=>match pd with
      |none=>kt .normal ⟨env,o1.set id (.loop nf m e p c d .exhausted pd),Bx⟩
      |some .ret=>kt .ret ⟨env,o1.set id (.loop nf m e p c d .exhausted pd),Bx⟩
      |some (.exit j)=>kt (.exit j) ⟨env,o1.set id (.loop nf m e p c d .exhausted pd),Bx⟩
   |_=>none
 | .cc v o1 Bx=>kt (.cc v) ⟨env,o1,Bx⟩
noncomputable def Pp(P:Program)(cu:Nat->FD)(rec:dW)(n:Nat)(g:Operand)(ps:List Nat)(x y:IC)(st:St)(kt:Kt):Option eR:=
 match st.S.ev g with
 | .func (.func f) first cap=>Lt P cu rec f (first++[.j6 st.nx]++cap) (st.o.set st.nx (.loop P.funcs.size n ((List.range n).map st.env.get) ps x y .ready none)) (st.nx+1) (aao st.nx st.env kt)
 |_=>none
abbrev pq:=(P:Program)->(Nat->FD)->ri P->dW->Nat->Bool->Nat->St->Kt->Option eR
noncomputable def roX(kt:Kt):RO->Option eR:=fun r=>match r with| .ok st=>kt .normal st| .cc v st=>kt (.cc v) st
noncomputable def ad9(l:List cI):pq:=fun P cu md rec _ _ _ st kt=>AM P cu md rec (roX kt) l st
def yR:List Nat->Nat->Nat->Nat
 |[],_,c=>c
 |x::l,k,c=>match Nat.beq x (2^k - 1)with
  |true=>yR l (k+1) c
  |false=>yR l (k+1) (k+1)
def rj(pr:List (List Nat)):Nat:=yR (eM pr []) 0 0
noncomputable def VB(l:List cI)(pr:List (List Nat)):pq:=fun P cu md rec _ _ _ st kt=>
 Nat.fc (rj pr) fun m=>match vX P cu md rec pr (l.take m) st.nx st []with
 |some (.fin s1 fp)=>match LF pr fp with
  |true=>Nat.fc (st.nx+m) fun n=>match Nat.ble m l.length with
   |true=>AM P cu md rec (roX kt) (l.drop m) ⟨s1.env,s1.o,n⟩
   |false=>none
  |false=>none
 |some (.cc _ _ _)=>match VA P cu md rec l pr st with
  |some (e,s1)=>kt e s1
  |none=>none
 |none=>none
noncomputable def Fa(rec:dW)(b:Nat)(rd:Bool)(n:Nat)(y:IC)(kt:Kt):Kt:=fun e s1=>match e with| .normal=>rec b rd n y s1 kt|e=>kt e s1
noncomputable def aea(x y:IC):pq:=fun _ _ _ rec b rd n st kt=>rec b rd n x st (Fa rec b rd n y kt)
noncomputable def GA(a c:Option eR):Option eR:=
 match a with
 |some (.r x)=>match c with
  |some (.r y)=>match R.same x y with
   |true=>some (.r x)
   |false=>none
  |_=>none
 |_=>none
noncomputable def aap(c:Operand)(x y:IC):pq:=fun _ _ _ rec b rd n st kt=>match st.S.ev c with
 | .d (.bool true)=>rec b rd n x st kt
 | .d (.bool false)=>rec b rd n y st kt
 | .fm=>GA (rec b rd n x st kt) (rec b rd n y st kt)
 |_=>none
noncomputable def Fb(id:Nat)(kt:Kt):Kt:=fun e s1=>match e with
 | .exit j=>match Nat.beq j id with
   |true=>kt .normal s1
   |false=>kt (.exit j) s1
 |e=>kt e s1
noncomputable def VC(id:Nat)(x:IC):pq:=fun _ _ _ rec b rd n st kt=>rec b rd n x st (Fb id kt)
noncomputable def aaq(x:IC):pq:=fun _ _ _ rec b rd n st kt=>match Nat.ble b st.nx with
 |true=>rec b rd n x st (Fa rec b rd n (.loop x) kt)
 |false=>none
noncomputable def VD(e:fG):pq:=fun _ _ _ _ _ _ _ st kt=>kt e st
noncomputable def aeb:pq:=fun _ _ _ _ _ _ _ _ _=>none
noncomputable def aec(g:Operand)(ps:List Nat)(x y:IC):pq:=fun P cu _ rec _ rd n st kt=>match rd with
 |true=>none
 |false=>Pp P cu rec n g ps x y st kt
noncomputable def RH(ic:IC):pq:=
 match ic with
 | .skip=>VD .normal
 | .af l=>ad9 l
 | .dx l pr=>VB l pr
 | .seq x y=>aea x y
 | .cond c x y=>aap c x y
 | .block id x=>VC id x
 | .loop x=>aaq x
 | .exit id=>VD (.exit id)
 | .ret=>VD .ret
 | .HI g ps x y=>aec g ps x y
 | .bad=>aeb
noncomputable def run(P:Program)(cu:Nat->FD)(md:ri P)(k:Nat):dW:=
 Nat.rec (motive:=fun _=>dW) (fun _ _ _ _ _ _=>none) (fun _ rec b rd n ic st kt=>RH ic P cu md rec b rd n st kt) k
theorem LG{P:Program}{cu:Nat->FD}{md:ri P}{k:Nat}:run P cu md (k+1)=fun b rd n ic st kt=>RH ic P cu md (run P cu md k) b rd n st kt:=rfl
section
variable {P:Program}{cu:Nat->FD}{md:ri P}
theorem RI(bM:P.follows .mixedOrders=true)(c7:∀g,(cu g).Ok P g){rec:dW}(cf:e8 P rec){fr:Nat}{g:Nat}{args:List V}{st:St}{r:DR}(h:hX P cu rec g args st=some r){K:V->List (Nat×ae)->List Nat->Prop}{KX:V->List Nat->List Nat->Prop}(hr:r.to K KX):
 jK P g args st.S.o st.S.nx fr K KX:=by
 unfold hX at h
 simp only at h
 generalize nk:reach st.o.get 2000 (V.aQ args) []=rd at h
 split at h
 ·rename_i hc
  simp only[Bool.and_eq_true,List.all_eq_true]at hc
  obtain⟨hc1,vg⟩:=hc
  have a1:∀id∈rd,id<st.nx:=fun id aC=>Nat.le_of_ble_eq_true (hc1 id aC).1
  have a2:∀id∈V.aQ args,id∈rd:=fun id aC=>by simpa using vg id aC
  have a3:∀id∈rd,∀j∈(st.o.get id).refs,j∈rd:=fun id aC j hj=>by simpa using(hc1 id aC).2 j hj
  have a0:rd.all (fun id=>decide (id<st.S.nx))=true:=List.all_eq_true.2 fun id aC=>decide_eq_true (a1 id aC)
  have key:∀ {r:CR} {a:CR},crA r=some (.c a)->r=a:=fun h=>by unfold crA at h;injection h with h;injection h
  split at h
  ·rename_i v o1 Bx hf
   split at h
   ·cases h
   ·rename_i v' tZ
    split at h
    ·rename_i rs Zj
     split at h
     ·rename_i VE
      injection h with h;subst h
      simp only[Bool.and_eq_true,List.all_eq_true]at VE
      refine⟨rd,_,a0, .inl ⟨rs,Gd.mC a1 a2 a3 (fun x hx=>(jC rd x hx).1) (fun x hx j hj=>by simpa using VE.1 x hx j hj) (nT bM c7 cf hf fun r Ab=> ?_),hr⟩⟩
      rw[key Ab]
      refine⟨fun id aC=>tF aC,vS v,rs, ?_,Zj,rfl,fun id aC=>by simpa using VE.2 id aC⟩
      cases v with
      |cA vs=>
       match vs,tZ with
       |[],_=>rfl
       |[x],hv=>exact absurd rfl (hv x)
       |_::_::_,_=>rfl
      |_=>rfl
     ·cases h
    ·cases h
  ·rename_i v o1 Bx hf
   split at h
   ·rename_i x hx
    split at h
    ·rename_i VE
     injection h with h;subst h
     simp only[Bool.and_eq_true,List.all_eq_true]at VE
     refine⟨rd,fh st.o.get o1.get rd,a0, .inr (.inl ⟨x,Gd.mC a1 a2 a3 (fun x hx=>(jC rd x hx).1) (fun x hx j hj=>by simpa using VE.1 x hx j hj) (nT bM c7 cf hf fun r Ab=> ?_),hr⟩)⟩
     rw[key Ab]
     exact⟨fun id aC=>tF aC,x,hx,rfl,fun id aC=>by simpa using VE.2 id aC⟩
    ·cases h
   ·cases h
  ·cases h
 ·cases h
theorem VF(bM:P.follows .mixedOrders=true)(c7:∀g,(cu g).Ok P g){rec:dW}(cf:e8 P rec){g:Nat}{args:List V}{st:St}{rd:List Nat}{ds:List D}(fk:cE st.o.get args=some ds){r:DR}(h:cDX P cu md rec g args st rd=some r)
 {K:V->List (Nat×ae)->List Nat->Prop} {KX:V->List Nat->List Nat->Prop} (hr:r.to K KX):
 tA P g ds (fun v=>K v (dy st.S.o (V.bO args)) rd) (fun v=>K v [] rd) (fun v=>KX v [] rd):=by
 unfold cDX at h
 simp only[fk]at h
 split at h
 ·split at h
  ·rename_i v o1 Bx LH
   split at h
   ·rename_i VG
    injection h with h;subst h
    exact .inr (.inr ⟨v,Ra.mC VG (nT bM c7 cf LH fun r Ab=>by unfold crA at Ab;injection Ab with Ab;injection Ab with Ab;rw[Ab];exact rfl),hr⟩)
   ·cases h
  ·cases h
 ·split at h
  ·rename_i rs LC
   have hP:=AO bM c7 cf LC
   split at h
   ·rename_i hf
    injection h with h;subst h
    exact .inl ⟨rs,hP, .inr ⟨hf,hr⟩⟩
   ·injection h with h;subst h
    exact .inl ⟨rs,hP, .inl hr⟩
  ·rename_i x LC
   have hP:=AO bM c7 cf LC
   split at h
   ·rename_i hf
    injection h with h;subst h
    exact .inr (.inl ⟨x,hP,hf,hr⟩)
   ·cases h
  ·cases h
theorem GC{t ty:TypeId}{sz:Nat}{es:List D}{r:CR}(h:Pl P t r=some (.r (.ret [.sl es, .int .i64 (.ofNat ty), .int .i64 (.ofNat sz)]))):
 r.to (fun v o1 _=>(∃j ep,v= .osl j ep/\o1 j= .arr ep ty sz es)\/(v= .bT/\es=[]/\0<sz)) (fun _ _ _=>False):=by
 unfold Pl at h
 split at h
 ·rename_i v o1 n1
  split at h
  ·rename_i j ep
   split at h
   ·rename_i ju ty' rQ es' ho
    split at h
    ·rename_i he
     have he:=Nat.eq_of_beq_eq_true he
     subst he
     rw[E9]at h
     simp only[Option.some.injEq,eR.r.injEq,R.ret.injEq,List.cons.injEq,D.sl.injEq,D.int.injEq,true_and,and_true]at h
     obtain⟨rfl,h2,h3⟩:=h
     have h2:ty'=ty:=Int.ofNat.inj h2
     have h3:rQ=sz:=Int.ofNat.inj h3
     subst h2;subst h3
     exact .inl ⟨j,ju,rfl,ho⟩
    ·cases h
   ·cases h
  ·split at h
   ·rename_i e he
    split at h
    ·rename_i hp
     rw[E9]at h
     simp only[Option.some.injEq,eR.r.injEq,R.ret.injEq,List.cons.injEq,D.sl.injEq,D.int.injEq,true_and,and_true]at h
     obtain⟨rfl,h2,h3⟩:=h
     have h3:P.cellsOf e=sz:=Int.ofNat.inj h3
     subst h3
     exact .inr ⟨rfl,rfl,Nat.blt_eq.mp hp⟩
    ·cases h
   ·cases h
  ·cases h
 ·cases h
theorem Pq(bM:P.follows .mixedOrders=true)(c7:∀g,(cu g).Ok P g){rec:dW}(cf:e8 P rec){fr:Nat}{g:Nat}{t:TypeId}{args:List V}{st:St}{r:DR}(h:Vz P cu rec g t args st fr=some r){K:V->List (Nat×ae)->List Nat->Prop}{KX:V->List Nat->List Nat->Prop}(hr:r.to K KX):
 jK P g args st.S.o st.S.nx fr K KX:=by
 unfold Vz at h
 split at h
 ·rename_i ds fk
  split at h
  ·rename_i es ty sz LH
   injection h with h;subst h
   unfold yP at fk
   split at fk
   ·rename_i aC
    exact⟨[],_,au, .inr (.inr ⟨_,yz.Pa aC fk (yz.E6 (nT bM c7 cf LH fun r Ab=>GC Ab)),hr⟩)⟩
   ·cases fk
  ·cases h
 ·split at h
  ·rename_i ds fk
   split at h
   ·rename_i es ty sz LH
    split at h
    ·rename_i hc
     injection h with h;subst h
     simp only[Bool.and_eq_true]at hc
     refine⟨V.bO args,_, ?_, .inr (.inr ⟨_,yz.O9 fk hc.1 (nT bM c7 cf LH fun r Ab=>GC Ab),hr⟩)⟩
     exact List.all_eq_true.2 fun id aC=>decide_eq_true (Nat.blt_eq.mp (List.all_eq_true.1 hc.2 id aC))
    ·cases h
   ·cases h
  ·cases h
theorem AQ(bM:P.follows .mixedOrders=true)(c7:∀g,(cu g).Ok P g){rec:dW}(cf:e8 P rec){st:St}{fr:Nat}{o:cI}{r:DR}(h:Pm P cu md rec st fr o.op=some r){K:V->List (Nat×ae)->List Nat->Prop}{KX:V->List Nat->List Nat->Prop}(hr:r.to K KX):
 Bz P st.S fr o K KX:=by
 have hs:sDX P st fr o.op=some r->(match gQ P st.S fr o.op with|some (v,Δ,_)=>K v Δ (qk st.S o.op)|none=>False):=by
  intro h
  unfold sDX at h
  split at h
  ·rename_i v Δ rd he
   injection h with h;subst h
   simp only[Gs he]
   exact hr
  ·cases h
 unfold Pm at h
 unfold Bz
 split at h
 ·rename_i c hc
  simp only[hc]
  split at h
  ·rename_i f hf
   simp only[hf]
   split at h
   ·rename_i g first cap hv
    simp only[hv]
    split at h
    ·have hh:=RI bM c7 cf h hr (fr:=fr)
     split
     ·exact .inr hh
     ·exact hh
    split at h
    ·rename_i r' Ul
     injection h with h;subst h
     cases fk:cE st.S.o (first++List.map st.S.ev c.args.toList++cap)with
     |some ds=>exact .inl (VF bM c7 cf fk Ul hr)
     |none=>
      have Vw:cE st.o.get (first++List.map st.S.ev c.args.toList++cap)=none:=fk
      unfold cDX at Ul
      simp only[Vw]at Ul
      exact RI bM c7 cf Ul hr
    ·have hh:=Pq bM c7 cf (st:=st) h hr
     split
     ·exact .inr hh
     ·exact hh
   ·cases h
  ·rename_i e7
   rw[<- hc]at h
   have:=hs h
   rw[hc]at this
   split
   ·rename_i f hf;exact absurd hf (e7 f)
   ·exact this
 ·rename_i hc
  have:=hs h
  split
  ·rename_i c hh;exact absurd hh (hc c)
  ·exact this
def gdW(s:S)(gd:Option (Nat×Bool))(A B:Prop):Prop:=
 match gd with
 |none=>A
 |some (d,want)=>match s.env d with
  | .d (.bool b)=>if b=want then A else B
  | .cA []=>B
  |_=>False
theorem AR{st:St}{gd:Option (Nat×Bool)}{t:Bool}(h:gdX st gd=some t){A B:Prop}(hA:t=true->A)(hB:t=false->B):gdW st.S gd A B:=by
 cases gd with
 |none=>simp only[gdX,Option.some.injEq]at h;exact hA h.symm
 |some p=>
  obtain⟨d,want⟩:=p
  have he:st.S.env d=st.env.get d:=rfl
  simp only[gdX]at h
  simp only[gdW,he]
  split at h
  ·rename_i b hb
   injection h with h
   by_cases e:b=want
   ·rw[if_pos e];exact hA (by rw[<- h,e];simp)
   ·rw[if_neg e];exact hB (by rw[<- h];simpa using e)
  ·rename_i hb
   injection h with h
   exact hB h.symm
  ·cases h
theorem Pr{P:Program}{KB:List Nat->Fp->Prop}{pr:List (List Nat)}{o:cI}{l:List cI}{fr:Nat}{s:S}{fp:Fp}{bad ws:List Nat}(hb:(pr.getD fp.length []).any (fun j=>bad.contains j)=false)
 (h:gdW s o.gd (Bz P s fr o (fun v Δ rd=>jh P KB pr l (fr+1) ⟨bF s.env o.dst v,put s.o Δ,s.nx⟩ (fp++[(rd,Δ.map (·.1))]) bad (ws++Δ.map (·.1))) (fun _ _ _=>False)) (jh P KB pr l (fr+1) ⟨bF s.env o.dst (.cA []),s.o,s.nx⟩ (fp++[([],[])]) bad ws)):
 jh P KB pr (o::l) fr s fp bad ws:=by
 simp only[jh]
 rw[if_neg (by rw[hb];simp)]
 cases hg:o.gd with
 |none=>rw[hg]at h;exact h
 |some p=>obtain⟨d,want⟩:=p;rw[hg]at h;exact h
theorem Ps{P:Program}{K:S->Fp->Prop}{KP:V->List Nat->Fp->Prop}{pr:List (List Nat)}{o:cI}{l:List cI}{fr:Nat}{s:S}{fp:Fp}
 (h:gdW s o.gd (Bz P s fr o (fun v Δ rd=>lE P K KP pr l (fr+1) ⟨bF s.env o.dst v,put s.o Δ,s.nx⟩ (fp++[(rd,Δ.map (·.1))]))
  (fun v ws rd=>jh P (KP v) pr l (fr+1) ⟨bF s.env o.dst .aa,s.o,s.nx⟩ (fp++[(rd,[])]) [fp.length] (ws++fp.flatMap (·.2)))) (lE P K KP pr l (fr+1) ⟨bF s.env o.dst (.cA []),s.o,s.nx⟩ (fp++[([],[])]))):
 lE P K KP pr (o::l) fr s fp:=by
 simp only[lE]
 cases hg:o.gd with
 |none=>rw[hg]at h;exact h
 |some p=>obtain⟨d,want⟩:=p;rw[hg]at h;exact h
theorem rk(bM:P.follows .mixedOrders=true)(c7:∀g,(cu g).Ok P g){rec:dW}(cf:e8 P rec){pr:List (List Nat)}{wl:List Nat}{fp':Fp}{KB:List Nat->Fp->Prop}(hK:KB wl fp'):
 ∀ (l:List cI) (fr:Nat) (st:St) (fp:Fp) (bad ws:List Nat),vW P cu md rec pr l fr st fp bad ws=some (wl,fp')->jh P KB pr l fr st.S fp bad ws
 |[],fr,st,fp,bad,ws,h=>by
  simp only[vW,Option.some.injEq,Prod.mk.injEq]at h
  obtain⟨rfl,rfl⟩:=h;exact hK
 |o::l,fr,st,fp,bad,ws,h=>by
  simp only[vW,ke,nS]at h
  split at h
  ·rename_i hb
   simp only[jh]
   rw[if_pos hb]
   have:=rk bM c7 cf hK l _ _ _ _ _ h
   simp only[St.S,eW]at this
   exact this
  ·rename_i hb
   refine Pr hb ?_
   split at h
   ·rename_i hg
    refine AR hg (fun _=> ?_) (fun h=>by cases h)
    split at h
    ·rename_i v Δ rd ey
     refine AQ bM c7 cf ey ?_
     have:=rk bM c7 cf hK l _ _ _ _ _ h
     simp only[St.S,eW,kG]at this
     exact this
    ·cases h
   ·rename_i hg
    refine AR hg (fun h=>by cases h) (fun _=> ?_)
    have:=rk bM c7 cf hK l _ _ _ _ _ h
    simp only[St.S,eW]at this
    exact this
   ·cases h
def DQ.to (K:S->Fp->Prop)(KP:V->List Nat->Fp->Prop):DQ->Prop
 | .fin st fp=>K st.S fp
 | .cc v wl fp=>KP v wl fp
theorem nV(bM:P.follows .mixedOrders=true)(c7:∀g,(cu g).Ok P g){rec:dW}(cf:e8 P rec){pr:List (List Nat)}{q:DQ}{K:S->Fp->Prop}{KP:V->List Nat->Fp->Prop}(hq:q.to K KP):
 ∀ (l:List cI) (fr:Nat) (st:St) (fp:Fp),vX P cu md rec pr l fr st fp=some q->lE P K KP pr l fr st.S fp
 |[],fr,st,fp,h=>by
  simp only[vX,Option.some.injEq]at h
  subst h;exact hq
 |o::l,fr,st,fp,h=>by
  simp only[vX,ke,nS,Nat.dv]at h
  refine Ps ?_
  split at h
  ·rename_i hg
   refine AR hg (fun _=> ?_) (fun h=>by cases h)
   split at h
   ·rename_i v Δ rd ey
    refine AQ bM c7 cf ey ?_
    have:=nV bM c7 cf hq l _ _ _ h
    simp only[St.S,eW,kG]at this
    exact this
   ·rename_i v ws rd ey
    split at h
    ·rename_i wl fp' hb
     injection h with h;subst h
     refine AQ bM c7 cf ey ?_
     have:=rk bM c7 cf (KB:=KP v) hq l _ _ _ _ _ hb
     simp only[St.S,eW]at this
     exact this
    ·cases h
   ·cases h
  ·rename_i hg
   refine AR hg (fun h=>by cases h) (fun _=> ?_)
   have:=nV bM c7 cf hq l _ _ _ h
   simp only[St.S,eW]at this
   exact this
  ·cases h
theorem AS{pr:List (List Nat)}{fp:Fp}(h:LF pr fp=true):iX pr fp=true:=by
 unfold LF at h
 split at h
 ·rename_i hq
  unfold quiet at hq
  have hz:∀i,(fp.getD i ([],[])).2=[]:=by
   intro i
   rw[List.getD_eq_getElem?_getD]
   cases hx:fp[i]? with
   |none=>rfl
   |some x=>
    have:=List.all_eq_true.1 hq x (List.mem_of_getElem? hx)
    simp only[Option.getD_some]
    split at this
    ·rename_i e;exact e
    ·cases this
  unfold iX
  simp only[hz,np,List.all_nil,Bool.and_self,Bool.or_true]
  simp
 ·rw[Gz]at h
  unfold iX
  rw[List.all_eq_true]
  intro j hj
  rw[List.all_eq_true]
  intro i hi
  exact C9 fp [] h j (Nat.zero_le _) ly i J9
theorem vY:∀ (l:List Nat) (k c:Nat),c<=k->c<=yR l k c/\∀i x,l[i]? =some x->yR l k c<=k+i->x=2^(k+i) - 1
 |[],_,c,_=>⟨Nat.le_refl _,fun i x h=>by simp at h⟩
 |y::l,k,c,hc=>by
  simp only[yR]
  split
  ·rename_i he
   obtain⟨h1,h2⟩:=vY l (k+1) c ad
   refine⟨h1,fun i x hi hle=> ?_⟩
   cases i with
   |zero=>simp at hi;subst hi;simpa using Nat.eq_of_beq_eq_true he
   |succ i=>
    have:=h2 i x J9 ad
    rw[this,show k+(i+1)=k+1+i by omega]
  ·obtain⟨h1,h2⟩:=vY l (k+1) (k+1) (Nat.le_refl _)
   refine⟨ad,fun i x hi hle=> ?_⟩
   cases i with
   |zero=>omega
   |succ i=>
    have:=h2 i x J9 ad
    rw[this,show k+(i+1)=k+1+i by omega]
theorem yS:∀ (pr:List (List Nat)) (acc:List Nat),(eM pr acc).length=acc.length+pr.length
 |[],acc=>by simp[eM]
 |ps::l,acc=>by simp only[eM,yS l,List.length_append,List.length_cons,List.length_nil];omega
theorem LI(pr:List (List Nat)):K9 pr (rj pr)=true:=by
 refine List.all_eq_true.2 fun k hk=> ?_
 have hk:k<pr.length:=by simpa using hk
 by_cases h:k<rj pr
 ·simp[Nat.blt_eq.mpr h]
 ·have hl:k<(eM pr []).length:=by rw[yS];simpa using hk
  have:=(vY (eM pr []) 0 0 (Nat.le_refl _)).2 k _ (List.getElem?_eq_getElem hl) (by rw[Nat.zero_add];exact Nat.le_of_not_lt h)
  rw[Nat.zero_add]at this
  rw[List.getD_eq_getElem?_getD,List.getElem?_eq_getElem hl,Option.getD_some,this]
  simp
theorem Pt(bM:P.follows .mixedOrders=true)(c7:∀g,(cu g).Ok P g){rec:dW}(cf:e8 P rec){l:List cI}{pr:List (List Nat)}{st st':St}{e:fG}(h:VA P cu md rec l pr st=some (e,st')){Q:fG->S->Prop}(hQ:Q e st'.S):
 lE P (E1 pr (st.S.nx+l.length) Q) (CH pr l st.S Q) pr l st.S.nx st.S []:=by
 unfold VA at h
 split at h
 ·rename_i s1 fp hd
  split at h
  ·rename_i hf
   simp only[Nat.dv,Option.some.injEq,Prod.mk.injEq]at h
   obtain⟨rfl,rfl⟩:=h
   exact nV bM c7 cf (q:= .fin s1 fp) (K:=E1 pr (st.S.nx+l.length) Q) (KP:=CH pr l st.S Q) (show E1 pr (st.S.nx+l.length) Q s1.S fp from⟨AS hf,hQ⟩) l _ _ _ hd
  ·cases h
 ·rename_i v wl fp hd
  split at h
  ·rename_i hf
   simp only[Option.some.injEq,Prod.mk.injEq]at h
   obtain⟨rfl,rfl⟩:=h
   exact nV bM c7 cf (q:= .cc v wl fp) (K:=E1 pr (st.S.nx+l.length) Q) (KP:=CH pr l st.S Q) (show CH pr l st.S Q v wl fp from⟨AS hf,hQ⟩) l _ _ _ hd
  ·cases h
 ·cases h
theorem Pu(bM:P.follows .mixedOrders=true)(c7:∀g,(cu g).Ok P g){rec:dW}(cf:e8 P rec){n:Nat}{g:Operand}{ps:List Nat}{x y:IC}{st:St}{kt:Kt}{a:eR}(h:Pp P cu rec n g ps x y st kt=some a){Q:fG->S->Prop}(hQ:∀e st',kt e st'=some a->Q e st'.S):
 Cp P n (st.S.ev g) ps x y Q st.S:=by
 unfold Pp at h
 refine⟨(List.range n).map st.env.get,fun i=> ?_, ?_⟩
 ·unfold bz
  simp only[List.getD_eq_getElem?_getD,List.getElem?_map]
  by_cases hi:i<n
  ·right;rw[List.getElem?_range hi];rfl
  ·left;rw[List.getElem?_eq_none (by simp;omega)];rfl
 ·split at h
  ·rename_i f first cap hv
   simp only[hv]
   refine .inl ?_
   have key:=fun {K X} hr=>nT (K:=K) (X:=X) bM c7 cf h hr
   simp only[Tr.js]at key
   refine key fun r hr=> ?_
   unfold aao at hr
   cases r with
   |ret v o1 Bx=>
    simp only at hr
    split at hr
    ·rename_i nf m e p c d lst pd ho
     have hl:lst≠ .busy:=by
      intro hb;subst hb;cases hr
     refine⟨nf,m,e,p,c,d,lst,pd,ho,hl, ?_⟩
     split at hr
     ·cases hr
     ·split at hr<;>(have h3:=hQ _ _ hr;simp only[oW];simp only[St.S,Tr.js]at h3;exact h3)
    ·cases hr
   |cc v o1 Bx=>exact hQ _ _ hr
  ·cases h
theorem bE.same {b:Nat}{s:S}(h:b<=s.nx):bE b s s:=fun _ φ _ _ h1 h2=>⟨φ,h1,h2,fun _ h=>h,h,fun _ _ hr=>⟨hr,rfl⟩,fun _ e' _ he=>⟨e',he,Nat.le_refl _,fun _=>rfl⟩⟩
theorem LJ{x y:Option eR}{a:eR}(h:GA x y=some a):x=some a/\y=some a:=by
 unfold GA at h
 split at h
 ·rename_i r
  split at h
  ·rename_i r'
   split at h
   ·rename_i hs
    injection h with h;subst h
    rw[R.eG hs]
    exact⟨rfl,rfl⟩
   ·cases h
  ·cases h
 ·cases h
theorem VH(bM:P.follows .mixedOrders=true)(c7:∀g,(cu g).Ok P g):∀k,∀j,j<=k->e8 P (run P cu md j):=by
 intro k
 induction k with
 |zero=>intro j hj b rd n ic st kt a h;obtain rfl:j=0:=ad
        cases h
 |succ k ih=>
  intro j hj b rd n ic st kt a h Q hQ
  cases j with
  |zero=>cases h
  |succ j=>
   have cf:e8 P (run P cu md j):=ih j ad
   rw[LG]at h
   cases ic with
   |skip=>exact hQ _ _ h
   |exit id=>exact hQ _ _ h
   |ret=>exact hQ _ _ h
   |bad=>cases h
   |af l=>
    have h:AM P cu md (run P cu md j) (roX kt) l st=some a:=h
    exact uH bM c7 cf (K:=Q .normal) (X:=fun v s=>Q (.cc v) s) (fun r hr=>by
     cases r with
     |ok Vx=>exact hQ .normal _ hr
     |cc v Vx=>exact hQ (.cc v) _ hr) l _ h
   |dx l pr=>
    have h:VB l pr P cu md (run P cu md j) b rd n st kt=some a:=h
    unfold VB at h
    rw[Nat.dv]at h
    split at h
    ·rename_i s1 fp hd
     split at h
     ·rename_i hf
      rw[Nat.dv]at h
      split at h
      ·rename_i OC
       refine .inr ⟨rj pr,Nat.le_of_ble_eq_true OC,LI pr, ?_⟩
       refine nV bM c7 cf (q:= .fin s1 fp) (K:=fun s' fp=>iX pr fp=true/\pP P (fun v s=>Q (.cc v) s) (Q .normal) (l.drop (rj pr)) ⟨s'.env,s'.o,st.S.nx+rj pr⟩) (KP:=fun _ _ _=>False) (show _/\_ from⟨AS hf, ?_⟩) (l.take (rj pr)) _ _ _ hd
       exact uH bM c7 cf (K:=Q .normal) (X:=fun v s=>Q (.cc v) s) (fun r hr=>by
        cases r with
        |ok Vx=>exact hQ .normal _ hr
        |cc v Vx=>exact hQ (.cc v) _ hr) (l.drop (rj pr)) ⟨s1.env,s1.o,st.nx+rj pr⟩ h
      ·cases h
     ·cases h
    ·split at h
     ·rename_i e s1 h1
      exact .inl (Pt bM c7 cf h1 (hQ _ _ h))
     ·cases h
    ·cases h
   |seq x y=>
    have h:run P cu md j b rd n x st (Fa (run P cu md j) b rd n y kt)=some a:=h
    simp only[uD]
    refine cf _ _ _ _ _ _ _ h _ fun e s1 he=> ?_
    unfold Fa at he
    cases e with
    |normal=>exact cf _ _ _ _ _ _ _ he _ hQ
    |_=>exact hQ _ _ he
   |cond c x y=>
    have h:(match st.S.ev c with| .d (.bool true)=>run P cu md j b rd n x st kt| .d (.bool false)=>run P cu md j b rd n y st kt| .fm=>GA (run P cu md j b rd n x st kt) (run P cu md j b rd n y st kt)|_=>none)=some a:=h
    simp only[uD]
    split at h
    ·rename_i hv
     simp only[hv]
     exact(vA _ _).mpr (cf _ _ _ _ _ _ _ h _ hQ)
    ·rename_i hv
     simp only[hv]
     exact(tu _ _).mpr (cf _ _ _ _ _ _ _ h _ hQ)
    ·rename_i hv
     simp only[hv]
     obtain⟨h1,h2⟩:=LJ h
     exact⟨cf _ _ _ _ _ _ _ h1 _ hQ,cf _ _ _ _ _ _ _ h2 _ hQ⟩
    ·cases h
   |block id x=>
    have h:run P cu md j b rd n x st (Fb id kt)=some a:=h
    simp only[uD]
    refine cf _ _ _ _ _ _ _ h _ fun e s1 he=> ?_
    unfold Fb at he
    cases e with
    |exit j'=>
     simp only at he
     split at he
     ·rename_i hb
      simp only[fY,Nat.eq_of_beq_eq_true hb,if_true];exact hQ _ _ he
     ·rename_i hb
      simp only[fY,Nat.ne_of_beq_eq_false hb,if_false];exact hQ _ _ he
    |_=>exact hQ _ _ he
   |loop x=>
    have unf:∀m RJ,run P cu md (m+1) b rd n (.loop x) RJ kt=some a->b<=RJ.nx/\run P cu md m b rd n x RJ (Fa (run P cu md m) b rd n (.loop x) kt)=some a:=by
     intro m RJ h
     have h:(match Nat.ble b RJ.nx with|true=>run P cu md m b rd n x RJ (Fa (run P cu md m) b rd n (.loop x) kt)|false=>none)=some a:=h
     split at h
     ·rename_i hb;exact⟨Nat.le_of_ble_eq_true hb,h⟩
     ·cases h
    have h:run P cu md (j+1) b rd n (.loop x) st kt=some a:=h
    refine⟨fun m s=>m<=k+1/\∃st,s=st.S/\run P cu md m b rd n (.loop x) st kt=some a,⟨j+1,st.S,bE.same (unf j st h).1,hj,st,rfl,h⟩, ?_⟩
    rintro m s0 ⟨hm,RJ,rfl,h0⟩
    cases m with
    |zero=>cases h0
    |succ m=>
     have aar:e8 P (run P cu md m):=ih m ad
     refine aar _ _ _ _ _ _ _ (unf m RJ h0).2 _ fun e s1 he=> ?_
     unfold Fa at he
     cases e with
     |normal=>
      refine⟨m,s1.S,Nat.lt_succ_self _,bE.same ?_,ad,s1,rfl,he⟩
      cases m with
      |zero=>cases he
      |succ m=>exact(unf m s1 he).1
     |_=>exact hQ _ _ he
   |HI g ps x y=>
    cases rd with
    |true=>
     have h:(none:Option eR)=some a:=h
     cases h
    |false=>
     have h:Pp P cu (run P cu md j) n g ps x y st kt=some a:=h
     exact⟨rfl,_, .inl rfl,Pu bM c7 cf h hQ⟩
noncomputable def AU(P:Program)(cu:Nat->FD)(md:ri P)(k:Nat)(g:Nat)(ds:List D):Option R:=
 match Lt P cu (run P cu md k) g (ds.map .d) (.e fun _=> .no) 0 C5 with
 |some (.r x)=>some x
 |_=>none
theorem aR.pT (bM:P.follows .mixedOrders=true)(c7:∀g,(cu g).Ok P g){k g:Nat}{ds:List D}{out:R}(h:AU P cu md k g ds=some out):aR P g ds out:=by
 unfold AU at h
 split at h
 ·rename_i x hr;injection h with h;subst h;exact C6 bM c7 (VH bM c7 k k (Nat.le_refl _)) hr
 ·cases h
end
end Go.Proofs.YtonbelhklnmjnaaGreat
namespace Go.Proofs.YtonbelhklnmjnaaGreat
def Tr.GD {α:Type}(p:Nat->α->Prop):Tr α->(Nat->Nat)->Prop
 | .e g,f=>∀i,p (f i) (g i)
 | .n x l r,f=>p (f 0) x/\GD p l (fun i=>f (2*i+1))/\GD p r (fun i=>f (2*i+2))
theorem Tr.AV {α:Type}{p:Nat->α->Prop}:∀ {f:Nat->Nat} (t:Tr α),t.GD p f->∀k,p (f k) (t.get k)
 |f, .e g,h,k=>h k
 |f, .n x l r,h,k=>by
  obtain⟨h1,h2,h3⟩:=h
  rw[Tr.vO]
  split
  ·rename_i e;subst e;exact h1
  ·split
   ·have:=Tr.AV l h2 (k/2)
    rwa [show 2*(k/2)+1=k by omega]at this
   ·have:=Tr.AV r h3 (k/2 - 1)
    rwa [show 2*(k/2 - 1)+2=k by omega]at this
end Go.Proofs.YtonbelhklnmjnaaGreat
