/-
  A PART OF THE PROOF. Conditions: none.
-/
import Derived.Test.YtlhemmpklhhgoaaGreatQu10
set_option linter.unusedSimpArgs false
set_option linter.unusedVariables false
namespace Go.Proofs.YtlhemmpklhhgoaaGreat
section
inductive Tr (α:Type) where
 |e (f:Nat->α)
 |n (x:α) (l r:Tr α)
noncomputable def Tr.get {α:Type}(t:Tr α):Nat->α:=
 Tr.rec (motive:=fun _=>Nat->α) (fun f=>f) (fun x _ _ l r k=>Bool.rec (Bool.rec (r (Nat.sub (Nat.div k 2) 1)) (l (Nat.div k 2)) (Nat.beq (Nat.mod k 2) 1)) x (Nat.beq k 0)) t
theorem Tr.Gs {α:Type}(f:Nat->α):(Tr.e f).get=f:=rfl
noncomputable def Tr.vr {α:Type}(x:α):Nat->Tr α->Nat->Tr α
 |0,t,k=> .e (ay t.get k x)
 |d+1, .e f,k=>match Nat.beq k 0 with
  |true=> .n x (.e fun i=>f (2*i+1)) (.e fun i=>f (2*i+2))
  |false=>match Nat.beq (k%2) 1 with
   |true=> .n (f 0) (Tr.vr x d (.e fun i=>f (2*i+1)) (k/2)) (.e fun i=>f (2*i+2))
   |false=> .n (f 0) (.e fun i=>f (2*i+1)) (Tr.vr x d (.e fun i=>f (2*i+2)) (k/2 - 1))
 |d+1, .n y l r,k=>match Nat.beq k 0 with
  |true=> .n x l r
  |false=>match Nat.beq (k%2) 1 with
   |true=> .n y (Tr.vr x d l (k/2)) r
   |false=> .n y l (Tr.vr x d r (k/2 - 1))
noncomputable def Tr.set {α:Type}(t:Tr α)(k:Nat)(x:α):Tr α:=Tr.vr x 24 t k
theorem Tr.vu {α:Type}{x:α}{l r:Tr α}{k:Nat}:(Tr.n x l r).get k=if k=0 then x else if k%2=1 then l.get (k/2)else r.get (k/2 - 1):=by
 show @Bool.rec (fun _=>α) (@Bool.rec (fun _=>α) (r.get (k/2 - 1)) (l.get (k/2)) (Nat.beq (k%2) 1)) x (Nat.beq k 0)=_
 by_cases h:k=0
 ·subst h;rfl
 ·have:Nat.beq k 0=false:=by cases k with|zero=>exact absurd rfl h|succ k=>rfl
  simp only[this,h,if_false]
  by_cases h2:k%2=1
  ·simp[h2]
  ·have:Nat.beq (k%2) 1=false:=by
    cases hb:Nat.beq (k%2) 1 with
    |false=>rfl
    |true=>exact absurd (Nat.eq_of_beq_eq_true hb) h2
   simp[h2,this]
theorem Tr.nv {α:Type}(x:α):∀ (d:Nat) (t:Tr α) (k:Nat),(Tr.vr x d t k).get=ay t.get k x
 |0,t,k=>rfl
 |d+1, .e f,k=>by
  funext i
  simp only[Tr.vr]
  have hb:∀a b:Nat,Nat.beq a b=decide (a=b):=fun a b=>by
   cases h:Nat.beq a b with
   |true=>simp[Nat.eq_of_beq_eq_true h]
   |false=>simp[Nat.ne_of_beq_eq_false h]
  rw[hb,hb]
  by_cases h:k=0
  ·subst h
   simp only[decide_true,Tr.vu,aL]
   by_cases hi:i=0
   ·simp[hi]
   ·simp only[hi,if_false]
    by_cases h2:i%2=1
    ·simp only[h2,if_true,Tr.Gs];congr 1;omega
    ·simp only[h2,if_false,Tr.Gs];congr 1;omega
  ·simp only[h,decide_false]
   by_cases hk:k%2=1
   ·simp only[hk,decide_true,Tr.vu,Tr.nv x d,aL,Tr.Gs]
    by_cases hi:i=0
    ·exact FC
    ·simp only[hi,if_false]
     by_cases h2:i%2=1
     ·simp only[h2,if_true]
      have e1:2*(i/2)+1=i:=af
      rw[e1]
      by_cases e:i=k
      ·simp[e]
      ·exact Fv
     ·simp only[h2,if_false]
      rw[if_neg (by intro e;subst e;exact h2 hk)]
      congr 1;omega
   ·simp only[hk,decide_false,Tr.vu,Tr.nv x d,aL,Tr.Gs]
    by_cases hi:i=0
    ·exact FC
    ·simp only[hi,if_false]
     by_cases h2:i%2=1
     ·simp only[h2,if_true]
      rw[if_neg (by intro e;subst e;exact hk h2)]
      congr 1;omega
     ·simp only[h2,if_false]
      have e1:2*(i/2 - 1)+2=i:=af
      rw[e1]
      by_cases e:i=k
      ·simp[e]
      ·exact Fv
 |d+1, .n y l r,k=>by
  funext i
  simp only[Tr.vr]
  have hb:∀a b:Nat,Nat.beq a b=decide (a=b):=fun a b=>by
   cases h:Nat.beq a b with
   |true=>simp[Nat.eq_of_beq_eq_true h]
   |false=>simp[Nat.ne_of_beq_eq_false h]
  rw[hb,hb]
  by_cases h:k=0
  ·subst h
   simp only[decide_true,Tr.vu,aL]
   by_cases hi:i=0
   ·simp[hi]
   ·simp[hi]
  ·simp only[h,decide_false]
   by_cases hk:k%2=1
   ·simp only[hk,decide_true,Tr.vu,Tr.nv x d,aL]
    by_cases hi:i=0
    ·exact FC
    ·simp only[hi,if_false]
     by_cases h2:i%2=1
     ·simp only[h2,if_true]
      by_cases e:i=k
      ·simp[e]
      ·exact Fv
     ·simp only[h2,if_false]
      rw[if_neg (by intro e;subst e;exact h2 hk)]
   ·simp only[hk,decide_false,Tr.vu,Tr.nv x d,aL]
    by_cases hi:i=0
    ·exact FC
    ·simp only[hi,if_false]
     by_cases h2:i%2=1
     ·simp only[h2,if_true]
      rw[if_neg (by intro e;subst e;exact hk h2)]
     ·simp only[h2,if_false]
      by_cases e:i=k
      ·simp[e]
      ·exact Fv
theorem Tr.gL {α:Type}(t:Tr α)(k:Nat)(x:α):(t.set k x).get=ay t.get k x:=Tr.nv x 24 t k
noncomputable def Nat.fc {β:Type}(n:Nat)(c:Nat->β):β:=Nat.rec (motive:=fun _=>β) (c 0) (fun m _=>c (Nat.succ m)) n
theorem Nat.c9 {β:Type}(n:Nat)(c:Nat->β):Nat.fc n c=c n:=by cases n<;>rfl
noncomputable def Int.fc {β:Type}(n:Int)(c:Int->β):β:=Int.rec (motive:=fun _=>β) (fun m=>Nat.fc m fun m=>c (.ofNat m)) (fun m=>Nat.fc m fun m=>c (.negSucc m)) n
theorem Int.c9 {β:Type}(n:Int)(c:Int->β):Int.fc n c=c n:=by cases n<;>simp only[Int.fc,Nat.c9]
mutual
noncomputable def D.fc {β:Type}:D->(D->β)->β
 | .int k n,c=>Int.fc n fun n=>c (.int k n)
 | .bool b,c=>match b with|true=>c (.bool true)|false=>c (.bool false)
 | .agg l,c=>D.vw l fun l=>c (.agg l)
 | .sl l,c=>D.vw l fun l=>c (.sl l)
 | .iface t x,c=>D.fc x fun x=>c (.iface t x)
 | .str s,c=>c (.str s)
 | .eP,c=>c .eP
 | .kT,c=>c .kT
 | .cz,c=>c .cz
 | .dH,c=>c .dH
 | .mp ks vs,c=>D.vw ks fun ks=>D.vw vs fun vs=>c (.mp ks vs)
noncomputable def D.vw {β:Type}:List D->(List D->β)->β
 |[],c=>c []
 |x::xs,c=>D.fc x fun x=>D.vw xs fun xs=>c (x::xs)
end
mutual
theorem D.c9 {β:Type}:∀ (x:D) (c:D->β),D.fc x c=c x
 | .int k n,c=>by simp only[D.fc,Int.c9]
 | .bool b,c=>by cases b<;>rfl
 | .agg l,c=>by simp only[D.fc,D.fD l]
 | .sl l,c=>by simp only[D.fc,D.fD l]
 | .iface t x,c=>by simp only[D.fc,D.c9 x]
 | .mp ks vs,c=>by simp only[D.fc,D.fD ks,D.fD vs]
 | .str _,_| .eP,_| .kT,_| .cz,_| .dH,_=>by simp only[D.fc]
theorem D.fD {β:Type}:∀ (x:List D) (c:List D->β),D.vw x c=c x
 |[],c=>by simp only[D.vw]
 |x::xs,c=>by simp only[D.vw,D.c9 x,D.fD xs]
end
mutual
noncomputable def V.fc {β:Type}:V->(V->β)->β
 | .d x,c=>D.fc x fun x=>c (.d x)
 | .agg l,c=>V.vw l fun l=>c (.agg l)
 | .bP l,c=>V.vw l fun l=>c (.bP l)
 | .ptr i o,c=>Nat.fc i fun i=>Nat.fc o fun o=>c (.ptr i o)
 | .osl i o,c=>Nat.fc i fun i=>Nat.fc o fun o=>c (.osl i o)
 | .pe a b i j k,c=>Nat.fc a fun a=>Nat.fc b fun b=>Nat.fc i fun i=>Nat.fc j fun j=>Nat.fc k fun k=>c (.pe a b i j k)
 | .pp l o,c=>D.vw l fun l=>Nat.fc o fun o=>c (.pp l o)
 | .func f a b,c=>V.vw a fun a=>V.vw b fun b=>c (.func f a b)
 | .iface t x,c=>V.fc x fun x=>c (.iface t x)
 | .oM l,c=>D.vw l fun l=>c (.oM l)
 | .xz i j k,c=>Nat.fc i fun i=>Nat.fc j fun j=>Nat.fc k fun k=>c (.xz i j k)
 | .mp i,c=>Nat.fc i fun i=>c (.mp i)
 | .j7 i,c=>Nat.fc i fun i=>c (.j7 i)
 | .aq,c=>c .aq
 | .aa,c=>c .aa
 | .fw,c=>c .fw
noncomputable def V.vw {β:Type}:List V->(List V->β)->β
 |[],c=>c []
 |x::xs,c=>V.fc x fun x=>V.vw xs fun xs=>c (x::xs)
end
mutual
theorem V.c9 {β:Type}:∀ (x:V) (c:V->β),V.fc x c=c x
 | .d x,c=>by simp only[V.fc,D.c9]
 | .agg l,c=>by simp only[V.fc,V.fD l]
 | .bP l,c=>by simp only[V.fc,V.fD l]
 | .pp l o,c=>by simp only[V.fc,D.fD,Nat.c9]
 | .func f a b,c=>by simp only[V.fc,V.fD a,V.fD b]
 | .iface t x,c=>by simp only[V.fc,V.c9 x]
 | .oM l,c=>by simp only[V.fc,D.fD]
 | .ptr _ _,_| .osl _ _,_| .pe _ _ _ _ _,_| .xz _ _ _,_| .mp _,_| .j7 _,_| .aq,_| .aa,_| .fw,_=>by simp only[V.fc,Nat.c9]
theorem V.fD {β:Type}:∀ (x:List V) (c:List V->β),V.vw x c=c x
 |[],c=>by simp only[V.vw]
 |x::xs,c=>by simp only[V.vw,V.c9 x,V.fD xs]
end
section
variable {β:Type}
noncomputable def aaW(k:IntKind)(n:Int)(c:V->β):β:=Int.fc n fun n=>c (.d (.int k n))
noncomputable def aaX(b:Bool)(c:V->β):β:= @Bool.rec (fun _=>β) (c (.d (.bool false))) (c (.d (.bool true))) b
noncomputable def UQ(x:D)(c:V->β):β:=D.fc x fun x=>c (.d x)
noncomputable def vD(x:D):(V->β)->β:=match x with| .int k n=>aaW k n| .bool b=>aaX b|x=>UQ x
noncomputable def aaY(i o:Nat)(c:V->β):β:=Nat.fc i fun i=>Nat.fc o fun o=>c (.ptr i o)
noncomputable def aaZ(i o:Nat)(c:V->β):β:=Nat.fc i fun i=>Nat.fc o fun o=>c (.osl i o)
noncomputable def vPe(a b i j k:Nat)(c:V->β):β:=Nat.fc a fun a=>Nat.fc b fun b=>Nat.fc i fun i=>Nat.fc j fun j=>Nat.fc k fun k=>c (.pe a b i j k)
noncomputable def V.XW (v:V):(V->β)->β:=match v with| .d x=>vD x| .ptr i o=>aaY i o| .osl i o=>aaZ i o| .pe a b i j k=>vPe a b i j k|v=>V.fc v
theorem V.UR (v:V)(c:V->β):V.XW v c=c v:=by
 cases v
 case d x=>
  cases x
  case int k n=>simp only[V.XW,vD,aaW,Int.c9]
  case bool b=>cases b<;>rfl
  all_goals exact D.c9 _ _
 case ptr i o=>simp only[V.XW,aaY,Nat.c9]
 case osl i o=>simp only[V.XW,aaZ,Nat.c9]
 case pe a b i j k=>simp only[V.XW,vPe,Nat.c9]
 all_goals exact V.c9 _ _
end
noncomputable def XX{β:Type}:List (D×D)->(List (D×D)->β)->β
 |[],c=>c []
 |(a,b)::l,c=>D.fc a fun a=>D.fc b fun b=>XX l fun l=>c ((a,b)::l)
theorem Ld{β:Type}:∀ (x:List (D×D)) (c:List (D×D)->β),XX x c=c x
 |[],c=>rfl
 |(a,b)::l,c=>by simp only[XX,D.c9,Ld l]
noncomputable def ad.fc {β:Type}(x:ad)(c:ad->β):β:=
 match x with
 | .row cs=>V.vw cs fun cs=>c (.row cs)
 | .arr e t s es=>Nat.fc e fun e=>Nat.fc s fun s=>D.vw es fun es=>c (.arr e t s es)
 | .tP e es=>Nat.fc e fun e=>D.vw es fun es=>c (.tP e es)
 | .map kt vt l=>XX l fun l=>c (.map kt vt l)
 | .b8 l=>XX l fun l=>c (.b8 l)
 | .rq l last=>XX l fun l=>c (.rq l last)
 | .yX l pos=>Nat.fc pos fun pos=>c (.yX l pos)
 |x=>c x
theorem ad.c9 {β:Type}(x:ad)(c:ad->β):ad.fc x c=c x:=by cases x<;>simp only[ad.fc,V.fD,D.fD,Nat.c9,Ld]
noncomputable def Tr.yh {α β:Type}(x:α)(d:Nat):Tr α->Nat->(Tr α->β)->β:=
 Nat.rec (motive:=fun _=>Tr α->Nat->(Tr α->β)->β) (fun t k c=>c (.e (ay t.get k x)))
  (fun _ ih t k c=>Tr.rec (motive:=fun _=>β) (fun f=>
   Bool.rec (Bool.rec (ih (.e fun i=>f (2*i+2)) (Nat.sub (Nat.div k 2) 1) fun r=>c (.n (f 0) (.e fun i=>f (2*i+1)) r)) (ih (.e fun i=>f (2*i+1)) (Nat.div k 2) fun l=>c (.n (f 0) l (.e fun i=>f (2*i+2)))) (Nat.beq (Nat.mod k 2) 1))
    (c (.n x (.e fun i=>f (2*i+1)) (.e fun i=>f (2*i+2)))) (Nat.beq k 0))
   (fun y l r _ _=>Bool.rec (Bool.rec (ih r (Nat.sub (Nat.div k 2) 1) fun r=>c (.n y l r)) (ih l (Nat.div k 2) fun l=>c (.n y l r)) (Nat.beq (Nat.mod k 2) 1)) (c (.n x l r)) (Nat.beq k 0)) t) d
theorem Tr.vy {α β:Type}(x:α):∀ (d:Nat) (t:Tr α) (k:Nat) (c:Tr α->β),Tr.yh x d t k c=c (Tr.vr x d t k)
 |0,t,k,c=>rfl
 |d+1, .e f,k,c=>by
  show @Bool.rec (fun _=>β) (@Bool.rec (fun _=>β) (Tr.yh x d (.e fun i=>f (2*i+2)) (k/2 - 1) fun r=>c (.n (f 0) (.e fun i=>f (2*i+1)) r)) (Tr.yh x d (.e fun i=>f (2*i+1)) (k/2) fun l=>c (.n (f 0) l (.e fun i=>f (2*i+2)))) (Nat.beq (k%2) 1)) (c (.n x (.e fun i=>f (2*i+1)) (.e fun i=>f (2*i+2)))) (Nat.beq k 0)=_
  simp only[Tr.vr,Tr.vy x d]
  cases Nat.beq k 0
  ·cases Nat.beq (k%2) 1<;>rfl
  ·rfl
 |d+1, .n y l r,k,c=>by
  show @Bool.rec (fun _=>β) (@Bool.rec (fun _=>β) (Tr.yh x d r (k/2 - 1) fun r=>c (.n y l r)) (Tr.yh x d l (k/2) fun l=>c (.n y l r)) (Nat.beq (k%2) 1)) (c (.n x l r)) (Nat.beq k 0)=_
  simp only[Tr.vr,Tr.vy x d]
  cases Nat.beq k 0
  ·cases Nat.beq (k%2) 1<;>rfl
  ·rfl
noncomputable def Tr.US {α β:Type}(t:Tr α)(k:Nat)(x:α)(c:Tr α->β):β:=Tr.yh x 24 t k c
theorem Tr.Gt {α β:Type}(t:Tr α)(k:Nat)(x:α)(c:Tr α->β):t.US k x c=c (t.set k x):=Tr.vy x 24 t k c
structure St where
 env:Tr V
 o:Tr ad
 nx:Nat
noncomputable def St.S (st:St):S:=⟨st.env.get,st.o.get,st.nx⟩
noncomputable def Iy(o:Tr ad)(Δ:List (Nat×ad)):Tr ad:=Δ.foldl (fun f x=>f.set x.1 x.2) o
noncomputable def te(env:Tr V)(dst:Option Tmp)(v:V):Tr V:=match dst with|some d=>env.set d v|none=>env
noncomputable def vz{β:Type}(o:Tr ad):List (Nat×ad)->(Tr ad->β)->β
 |[],c=>c o
 |(i,x)::Δ,c=>ad.fc x fun x=>o.US i x fun o=>vz o Δ c
theorem ny{β:Type}:∀ (Δ:List (Nat×ad)) (o:Tr ad) (c:Tr ad->β),vz o Δ c=c (Iy o Δ)
 |[],o,c=>rfl
 |(i,x)::Δ,o,c=>by simp only[vz,ad.c9,Tr.Gt,ny Δ];rfl
noncomputable def mc{β:Type}(env:Tr V)(dst:Option Tmp)(v:V)(c:Tr V->β):β:=match dst with|some d=>V.XW v fun v=>env.US d v c|none=>c env
theorem jo{β:Type}(env:Tr V)(dst:Option Tmp)(v:V)(c:Tr V->β):mc env dst v c=c (te env dst v):=by
 cases dst<;>simp only[mc,te,V.UR,Tr.Gt]
theorem jJ:∀ (Δ:List (Nat×ad)) (o:Tr ad),(Iy o Δ).get=put o.get Δ
 |[],_=>rfl
 |x::Δ,o=>by
  simp only[Iy,put,List.foldl_cons]
  have:=jJ Δ (o.set x.1 x.2)
  simp only[Iy,put]at this
  rw[this,Tr.gL]
theorem jj(env:Tr V)(dst:Option Tmp)(v:V):(te env dst v).get=aX env.get dst v:=by
 cases dst<;>simp[te,aX,Tr.gL]
section UT
def RJ(x:Operand)(_:Program)(s:S)(_:Nat):Option fS:=one (s.ev x)
def aa0(c a b:Operand)(_:Program)(s:S)(_:Nat):Option fS:=l7 (qz (s.ev c) (s.ev a) (s.ev b))
def UU(t:TypeId)(parts:Array (Nat×Operand))(P:Program)(s:S)(_:Nat):Option fS:=l7 (zB P t (parts.toList.map fun p=>(p.1,s.ev p.2)))
def Cu(t:TypeId)(len:Nat)(parts:Array (Nat×Operand))(P:Program)(s:S)(fr:Nat):Option fS:=fZ P s.o fr t len (parts.toList.map fun p=>(p.1,s.ev p.2))
def aa1(t:TypeId)(x:Operand)(P:Program)(s:S)(_:Nat):Option fS:=ni P s.o t (s.ev x)
def UW(t:TypeId)(x v:Operand)(P:Program)(s:S)(_:Nat):Option fS:=rV P s.o t (s.ev x) (s.ev v)
def aei(x:Operand)(_:Program)(s:S)(_:Nat):Option fS:=l7 (jk s.o (s.ev x))
noncomputable def aa2(op:BinOp):IntKind->Int->Int->Option V:=
 match op with
 | .add=>fun k a b=>some (.d (.int k (k.wrap (Int.add a b))))
 | .sub=>fun k a b=>some (.d (.int k (k.wrap (Int.sub a b))))
 | .mul=>fun k a b=>some (.d (.int k (k.wrap (Int.mul a b))))
 |op=>BU op
theorem Ou(op:BinOp):aa2 op=BU op:=by cases op<;>rfl
def asInt(x:V):Option (IntKind×Int):=match x with| .d (.int k a)=>some (k,a)|_=>none
def Le(op:BinOp)(t:TypeId)(c:Bool)(x y:V)(P:Program)(o:Nat->ad):Option fS:=ft P o op t c x y
noncomputable def aa3(op:BinOp)(t:TypeId)(x y:Operand)(P:Program)(s:S)(_:Nat):Option fS:=
 match asInt (s.ev x)with
 |some (k,a)=>match asInt (s.ev y)with
  |some (k',b)=>if k=k' then match aa2 op k a b with
   |some v=>some (v,[],[])
   |none=>Le op t (isConst x||isConst y) (s.ev x) (s.ev y) P s.o
   else none
  |none=>Le op t (isConst x||isConst y) (s.ev x) (s.ev y) P s.o
 |none=>Le op t (isConst x||isConst y) (s.ev x) (s.ev y) P s.o
theorem Cv{x:V}{k:IntKind}{a:Int}(h:asInt x=some (k,a)):x= .d (.int k a):=by
 unfold asInt at h;split at h
 ·injection h with h;cases h;rfl
 ·cases h
def EA(t:TypeId)(x:Operand)(f:Nat)(P:Program)(s:S)(_:Nat):Option fS:=l7 (hZ P s.o t (s.ev x) f)
def EB(t:TypeId)(x i:Operand)(P:Program)(s:S)(_:Nat):Option fS:=hY P s.o t (s.ev x) (s.ev i)
def UX(op:Op)(P:Program)(s:S)(fr:Nat):Option fS:=gA P s fr op
noncomputable def Ov(op:Op):Program->S->Nat->Option fS:=
 match op with
 | .move x=>RJ x
 | .assign x=>RJ x
 | .pick c a b=>aa0 c a b
 | .build t parts=>UU t parts
 | .buildSlice t len parts=>Cu t len parts
 | .load t x=>aa1 t x
 | .store t x v=>UW t x v
 | .nilCheck x=>aei x
 | .binOp op t x y _=>aa3 op t x y
 | .fieldAddr t x f=>EA t x f
 | .indexAddr t x i=>EB t x i
 |op=>UX op
theorem Gu{op:Op}{P:Program}{s:S}{fr:Nat}{r:fS}(h:Ov op P s fr=some r):gA P s fr op=some r:=by
 cases op
 case binOp op t x y yt=>
  simp only[Ov,aa3,Ou]at h
  have e:gA P s fr (.binOp op t x y yt)=ft P s.o op t (isConst x||isConst y) (s.ev x) (s.ev y):=rfl
  rw[e]
  split at h
  ·rename_i k a hx
   split at h
   ·rename_i k' b hy
    split at h
    ·rename_i hk
     split at h
     ·rename_i v hv
      unfold ft zA
      simp only[Cv hx,Cv hy,if_pos hk,hv]
      exact h
     ·exact h
    ·cases h
   ·exact h
  ·exact h
 all_goals exact h
end UT
inductive FD where
 |fn (n:Nat) (ic:IC) (rs:List ResultVar)
 |dfr (n:Nat) (jv e9:IC) (g t:Nat) (fk:List Operand) (rs:List ResultVar) (m r r1:Nat) (yg:IC)
 |mpc
 |no
def FD.Ok (P:Program)(f:Nat):FD->Prop
 | .fn n ic rs=>aQ P f n ic rs
 | .dfr n jv e9 g t fk rs m r r1 yg=>Gn P f n jv e9 g t fk rs/\Cq P g m r r1 yg
 | .mpc=>Gp P f
 | .no=>True
inductive CR where
 |ret (v:V) (o:Tr ad) (nx:Nat)|bJ (v:V) (o:Tr ad) (nx:Nat)
def CR.to (K X:V->(Nat->ad)->Nat->Prop):CR->Prop
 | .ret v o nx=>K v o.get nx
 | .bJ v o nx=>X v o.get nx
inductive RO where
 |ok (st:St)|bJ (v:V) (st:St)
def RO.to (K:S->Prop)(X:V->S->Prop):RO->Prop
 | .ok st=>K st.S
 | .bJ v st=>X v st.S
inductive ek where
 |r (x:R)|c (x:CR)
abbrev Kt:=fH->St->Option ek
abbrev dC:=Nat->Bool->Nat->IC->St->Kt->Option ek
noncomputable def Iz(P:Program)(rs:List ResultVar)(st:St)(kc:CR->Option ek):Option ek:=
 match lY P st.S rs with
 |some [v]=>kc (.ret v st.o st.nx)
 |some vs=>kc (.ret (.bP vs) st.o st.nx)
 |none=>none
noncomputable def RK(P:Program)(rs:List ResultVar)(kc:CR->Option ek):Kt:=fun e st=>
 match e with
 | .normal=>Iz P rs st kc
 | .ret=>Iz P rs st kc
 | .bJ v=>kc (.bJ v st.o st.nx)
 | .exit _=>none
noncomputable def Lf(P:Program)(rs:List ResultVar)(kc:CR->Option ek)(env:Tr V):Kt:=fun e s4=>
 match e with
 | .normal=>Iz P rs ⟨env,s4.o,s4.nx⟩ kc
 | .ret=>Iz P rs ⟨env,s4.o,s4.nx⟩ kc
 |_=>none
def aa4:fH->Option V
 | .normal=>some (.d .eP)
 | .ret=>some (.d .eP)
 | .bJ v=>some v
 | .exit _=>none
noncomputable def Lg(P:Program)(rec:dC)(rs:List ResultVar)(bM:List V)(m r r1:Nat)(yg:IC)(kc:CR->Option ek):Kt:=fun e s3=>
 match aa4 e with
 |some u=>if bM.length<=m then rec s3.nx true m yg ⟨.e (ay (ay (cw bM) r u) r1 u),s3.o,s3.nx⟩ (Lf P rs kc s3.env)else none
 |none=>none
noncomputable def Gv(P:Program)(rec:dC)(n t:Nat)(e9:IC)(g:Nat)(fk:List Operand)(rs:List ResultVar)(m r r1:Nat)(yg:IC)(kc:CR->Option ek):Kt:=fun e s1=>
 match e with
 | .normal=>rec s1.nx false n e9 ⟨s1.env.set t (.func (.func g) [] (fk.map s1.S.ev)),s1.o,s1.nx⟩ (Lg P rec rs (fk.map s1.S.ev) m r r1 yg kc)
 |_=>none
noncomputable def Lh(P:Program)(bR:Nat->FD)(rec:dC)(g:Nat)(args:List V)(o:Tr ad)(nx:Nat)(kc:CR->Option ek):Option ek:=
 match bR g with
 | .fn n ic rs=>if args.length<=n then rec nx false n ic ⟨.e (cw args),o,nx⟩ (RK P rs kc)else none
 | .dfr n jv e9 g t fk rs m r r1 yg=>if args.length<=n then rec nx true n jv ⟨.e (cw args),o,nx⟩ (Gv P rec n t e9 g fk rs m r r1 yg kc)else none
 | .mpc=>match args with
   |[.mp id]=>match o.get id with
    | .map kt vt l=>kc (.ret (.mp nx) (o.set nx (.map kt vt l)) (nx+1))
    | .b8 l=>kc (.ret (.mp nx) (o.set nx (.map 0 0 l)) (nx+1))
    |_=>none
   |_=>none
 | .no=>none
def vA:V->List V
 | .bP vs=>vs
 |v=>[v]
noncomputable def Gw(r:CR):Option R:=
 match r with
 | .ret v o _=>match v with
   | .bP [_]=>none
   |v=>match cc o.get (vA v)with
    |some rs=>some (.ret rs)
    |none=>none
 | .bJ v o _=>match dN o.get v with
   |some x=>some (.bJ x)
   |none=>none
noncomputable def rfc{β:Type}(x:R)(c:R->β):β:=match x with| .ret l=>D.vw l fun l=>c (.ret l)| .bJ d=>D.fc d fun d=>c (.bJ d)
theorem EC{β:Type}(x:R)(c:R->β):rfc x c=c x:=by cases x<;>simp only[rfc,D.fD,D.c9]
noncomputable def Cw(r:CR):Option ek:=match Gw r with|some x=>rfc x fun x=>some (.r x)|none=>none
theorem Li{r:CR}{a:ek}(h:Cw r=some a):∃x,Gw r=some x/\a= .r x:=by
 unfold Cw at h
 split at h
 ·rename_i x hx;rw[EC]at h;injection h with h;exact⟨x,hx,h.symm⟩
 ·cases h
def Lj(out:R)(o:Tr ad)(nx:Nat):CR:=
 match out with
 | .ret rs=> .ret (iR rs) o nx
 | .bJ x=> .bJ (.d x) o nx
structure qH (P:Program) where
 dat:Nat->Bool
 fx:Nat->List D->Option R
 ok:∀g ds out,fx g ds=some out->aW P g ds out
def Lk(l:List (Nat×List D×R))(g:Nat)(ds:List D):Option R:=
 match l with
 |[]=>none
 |x::l=>match Nat.beq x.1 g with
  |true=>match D.fW x.2.1 ds with
   |true=>some x.2.2
   |false=>Lk l g ds
  |false=>Lk l g ds
theorem zW{P:Program}:∀ {l:List (Nat×List D×R)},(∀x∈l,aW P x.1 x.2.1 x.2.2)->∀g ds out,Lk l g ds=some out->aW P g ds out
 |[],_,_,_,_,h=>by cases h
 |x::l,hl,g,ds,out,h=>by
  simp only[Lk]at h
  split at h
  ·rename_i hg
   split at h
   ·rename_i hd
    injection h with h
    have:=hl x aE
    rw[Nat.eq_of_beq_eq_true hg,D.dG _ _ hd,h]at this
    exact this
   ·exact zW (fun y hy=>hl y kQ) g ds out h
  ·exact zW (fun y hy=>hl y kQ) g ds out h
def qH.of {P:Program}(dat:Nat->Bool)(l:List (Nat×List D×R))(h:∀x∈l,aW P x.1 x.2.1 x.2.2):qH P:=⟨dat,Lk l,zW h⟩
noncomputable def Ow(P:Program)(bR:Nat->FD)(md:qH P)(rec:dC)(g:Nat)(ds:List D):Option R:=
 match md.fx g ds with
 |some out=>some out
 |none=>match Lh P bR rec g (ds.map .d) (.e fun _=> .no) 0 Cw with
  |some (.r x)=>some x
  |_=>none
noncomputable def RL(out:R)(o:Tr ad)(nx:Nat)(args:List V)(kc:CR->Option ek):Option ek:=
 match out.flat with
 |true=>kc (Lj out o (nx+1))
 |false=>match out.m7 with
  |true=>kc (Lj out (Iy o (rJ o.get (V.ba args))) (nx+1))
  |false=>kc (Lj out (Iy o (bw o.get (V.ba args))) (nx+1))
noncomputable def Gx(P:Program)(bR:Nat->FD)(md:qH P)(rec:dC)(g:Nat)(args:List V)(o:Tr ad)(nx:Nat)(kc:CR->Option ek):Option ek:=
 match md.dat g,cc o.get args with
 |true,some ds=>match Ow P bR md rec g ds with
  |some out=>RL out o nx args kc
  |none=>none
 |_,_=>Lh P bR rec g args o nx kc
noncomputable def Ll(id:Nat)(kc:CR->Option ek):Kt:=fun e s2=>
 match e with
 | .bJ v=>kc (.bJ v s2.o s2.nx)
 |e=>match s2.o.get id with
  | .loop nf m en p c d _ _=>match e with
    | .normal=>kc (.ret (.d (.bool true)) (s2.o.set id (.loop nf m en p c d .ready none)) s2.nx)
    | .ret=>kc (.ret (.d (.bool false)) (s2.o.set id (.loop nf m en p c d .done (some .ret))) s2.nx)
    | .exit j=>kc (.ret (.d (.bool false)) (s2.o.set id (.loop nf m en p c d .done (some (.exit j)))) s2.nx)
    | .bJ _=>none
  |_=>none
noncomputable def Gy(rec:dC)(id nx n:Nat)(e9:IC)(kc:CR->Option ek):Kt:=fun e s1=>
 match e with
 | .normal=>match s1.o.get id with
   | .loop nf m en p c d .ready pd=>rec nx true n e9 ⟨s1.env,s1.o.set id (.loop nf m en p c d .busy pd),s1.nx⟩ (Ll id kc)
   |_=>none
 | .bJ v=>kc (.bJ v s1.o s1.nx)
 |_=>none
noncomputable def UY(P:Program)(rec:dC)(id:Nat)(args:List V)(o:Tr ad)(nx:Nat)(kc:CR->Option ek):Option ek:=
 match o.get id with
 | .loop nf n env ps jv e9 _ _=>if nf=P.funcs.size/\id<nx/\ps.all (fun t=>decide (t<n))=true/\args.length=ps.length then
  rec nx true n jv ⟨.e (px (aY env) ps args),o,nx⟩ (Gy rec id nx n e9 kc)
   else none
 |_=>none
noncomputable def yi(P:Program)(st:St)(o:bT)(kr:RO->Option ek):Option ek:=
 match Ov o.op P st.S st.nx with
 |some (v,Δ,_)=>mc st.env o.dst v fun e=>vz st.o Δ fun ob=>Nat.fc (st.nx+1) fun n=>kr (.ok ⟨e,ob,n⟩)
 |none=>none
noncomputable def crX(st:St)(dst:Option Nat)(kr:RO->Option ek)(c:CR):Option ek:=
 match c with
 | .ret v o nx=>mc st.env dst v fun e=>Nat.fc nx fun nx=>kr (.ok ⟨e,o,nx⟩)
 | .bJ v o nx=>kr (.bJ v ⟨st.env,o,nx⟩)
noncomputable def Lm(c:Call)(P:Program)(bR:Nat->FD)(md:qH P)(rec:dC)(st:St)(o:bT)(kr:RO->Option ek):Option ek:=
 match c.callee with
 | .value f=>match st.S.ev f with
   | .func (.func g) first cap=>Gx P bR md rec g (first++c.args.toList.map st.S.ev++cap) st.o st.nx (crX st o.dst kr)
   | .j7 id=>UY P rec id (c.args.toList.map st.S.ev) st.o st.nx (crX st o.dst kr)
   |_=>none
 | .invoke r m=>match uS P m (st.S.ev r)with
   |some (g,y)=>Gx P bR md rec g (y::c.args.toList.map st.S.ev) st.o st.nx (crX st o.dst kr)
   |none=>none
 |_=>yi P st o kr
noncomputable def UZ(x:Operand)(P:Program)(_:Nat->FD)(_:qH P)(_:dC)(st:St)(_:bT)(kr:RO->Option ek):Option ek:=
 match st.S.ev x with
 | .d (.iface t y)=>kr (.bJ (.d (.iface t y)) st)
 | .iface t y=>kr (.bJ (.iface t y) st)
 |_=>none
noncomputable def aa5(P:Program)(_:Nat->FD)(_:qH P)(_:dC)(st:St)(o:bT)(kr:RO->Option ek):Option ek:=yi P st o kr
def R.same:R->R->Bool
 | .ret a, .ret b=>D.fW a b
 | .bJ a, .bJ b=>a.same b
 |_,_=>false
theorem R.dY {x y:R}(h:x.same y=true):x=y:=by
 cases x<;>cases y<;>simp only[R.same,Bool.false_eq_true]at h
 ·rw[D.dG _ _ h]
 ·rw[D.dY _ _ h]
noncomputable def brX(f:Nat->Option ek):Nat->Option ek
 |0=>none
 |n+1=>match n with
  |0=>f 0
  |n=>match brX f n with
   |some (.r a)=>match f n with
    |some (.r b)=>match R.same a b with
     |true=>some (.r a)
     |false=>none
    |_=>none
   |_=>none
theorem Ln{f:Nat->Option ek}{a:ek}:∀ {n:Nat},brX f n=some a->∀i,i<n->f i=some a
 |0,h,_,_=>by cases h
 |1,h,i,hi=>by obtain rfl:i=0:=af
               exact h
 |n+2,h,i,hi=>by
  simp only[brX]at h
  split at h
  ·rename_i x hx
   split at h
   ·rename_i y hy
    split at h
    ·rename_i he
     have e:=R.dY he
     subst e
     rw[<- h]
     by_cases e:i=n+1
     ·subst e;exact hy
     ·exact Ln hx i af
    ·cases h
   ·cases h
  ·cases h
noncomputable def Ox(st:St)(dst:Option Nat)(kr:RO->Option ek)(v:V)(Δ:List (Nat×ad)):Option ek:=
 mc st.env dst v fun e=>vz st.o Δ fun ob=>Nat.fc (st.nx+1) fun n=>kr (.ok ⟨e,ob,n⟩)
noncomputable def Lo(x:Operand)(str:Bool)(P:Program)(_:Nat->FD)(_:qH P)(_:dC)(st:St)(o:bT)(kr:RO->Option ek):Option ek:=
 match oS st.o.get (st.S.ev x)with
 |some (id,l)=>match str with
  |true=>none
  |false=>match l with
   |[]=>Ox st o.dst kr (.bP [.d (.bool false)]) []
   |_=>brX (fun i=>match l[i]? with
    |some (k,x)=>Ox st o.dst kr (.bP [.d (.bool true), .d k, .d x]) [(id, .rq (l.eraseIdx i) (some (k,x)))]
    |none=>none) l.length
 |none=>yi P st o kr
noncomputable def opK(op:Op):(P:Program)->(Nat->FD)->qH P->dC->St->bT->(RO->Option ek)->Option ek:=
 match op with
 | .call c=>Lm c
 | .panic x=>UZ x
 | .next x str=>Lo x str
 |_=>aa5
noncomputable def opX(P:Program)(bR:Nat->FD)(md:qH P)(rec:dC)(st:St)(o:bT)(kr:RO->Option ek):Option ek:=opK o.op P bR md rec st o kr
noncomputable def roK(next:St->Option ek)(kr:RO->Option ek):RO->Option ek:=fun r=>match r with| .ok st=>next st| .bJ v st=>kr (.bJ v st)
noncomputable def zX(P:Program)(bR:Nat->FD)(md:qH P)(rec:dC)(kr:RO->Option ek):List bT->St->Option ek
 |[],st=>kr (.ok st)
 |o::l,st=>match(match o.gd with
   |none=>some true
   |some (d,want)=>match st.env.get d with
    | .d (.bool b)=>some (b==want)
    | .bP []=>some false
    |_=>none)with
  |some true=>opX P bR md rec st o (roK (zX P bR md rec kr l) kr)
  |some false=>mc st.env o.dst (.bP []) fun e=>Nat.fc (st.nx+1) fun n=>zX P bR md rec kr l ⟨e,st.o,n⟩
  |none=>none
section
variable {P:Program}{bR:Nat->FD}{md:qH P}
noncomputable def eF(P:Program)(rec:dC):Prop:=∀b rd n ic st k a,rec b rd n ic st k=some a->∀Q:fH->S->Prop,(∀e st',k e st'=some a->Q e st'.S)->tV P n b rd ic Q st.S
theorem tZ{rs:List ResultVar}{st:St}{kc:CR->Option ek}{a:ek}(h:Iz P rs st kc=some a){K X:V->(Nat->ad)->Nat->Prop}(hr:∀r,kc r=some a->r.to K X):l0 P rs K X .ret st.S:=by
 unfold Iz at h
 unfold l0
 split at h
 ·rename_i v hv;simp only[hv];exact hr _ h
 ·rename_i vs hv hn
  simp only[hn]
  exact hr _ h
 ·cases h
theorem nz(bc:P.follows .mixedOrders=true)(cJ:∀g,(bR g).Ok P g){rec:dC}(bD:eF P rec){g:Nat}{args:List V}{o:Tr ad}{nx:Nat}{kc:CR->Option ek}{a:ek}(h:Lh P bR rec g args o nx kc=some a){K X:V->(Nat->ad)->Nat->Prop}(hr:∀r,kc r=some a->r.to K X):
 bQ P g args o.get nx K X:=by
 have aV:=cJ g
 unfold Lh at h
 split at h
 ·rename_i n ic rs ht
  rw[ht]at aV
  split at h
  ·rename_i hl
   refine bQ.vj bc aV hl ?_
   refine bD _ _ _ _ _ _ _ h _ fun e st he=> ?_
   unfold RK at he
   cases e with
   |normal=>exact tZ he hr
   |ret=>exact tZ he hr
   |bJ v=>exact hr _ he
   |exit j=>cases he
  ·cases h
 ·rename_i n jv e9 g' t fk rs m r0 r1 yg ht
  rw[ht]at aV
  split at h
  ·rename_i hl
   refine bQ.Ct bc aV.1 aV.2 hl (bD _ _ _ _ _ _ _ h _ fun e s1 he=> ?_)
   unfold Gv at he
   cases e with
   |normal=>
    have hb:tV P n s1.nx false e9 (zV P m r0 r1 yg (fk.map s1.S.ev) rs K X) ⟨ay s1.env.get t (.func (.func g') [] (fk.map s1.S.ev)),s1.o.get,s1.nx⟩:=by
     have:=bD _ _ _ _ _ _ _ he (zV P m r0 r1 yg (fk.map s1.S.ev) rs K X) (fun e s3 XY=>by
      unfold Lg at XY
      split at XY
      ·rename_i u hu
       split at XY
       ·rename_i rv
        have hrw:Ez P m r0 r1 yg (fk.map s1.S.ev) u s3.o.get s3.nx fun o nx=>l0 P rs K X .ret ⟨s3.env.get,o,nx⟩:=by
         refine⟨rv,bD _ _ _ _ _ _ _ XY _ fun e4 s4 he4=> ?_⟩
         unfold Lf at he4
         cases e4 with
         |normal=>exact tZ (st:=⟨s3.env,s4.o,s4.nx⟩) he4 hr
         |ret=>exact tZ (st:=⟨s3.env,s4.o,s4.nx⟩) he4 hr
         |_=>cases he4
        cases e<;>simp only[aa4,Option.some.injEq,reduceCtorEq]at hu<;>subst hu<;>exact hrw
       ·cases XY
      ·cases XY)
     simp only[St.S,Tr.gL]at this
     exact this
    exact hb
   |_=>cases he
  ·cases h
 ·rename_i ht
  rw[ht]at aV
  split at h
  ·split at h
   ·rename_i kt vt l ho
    have h2:=hr _ h
    simp only[CR.to,Tr.gL]at h2
    exact bQ.UP aV ho h2
   ·rename_i l ho
    have h2:=hr _ h
    simp only[CR.to,Tr.gL]at h2
    exact bQ.Gq aV ho h2
   ·cases h
  ·cases h
 ·cases h
theorem Lp{r:CR}{out:R}(ho:Gw r=some out):r.to (fun v o _=>∃vs rs,v=(match vs with|[v]=>v|vs=> .bP vs)/\cc o vs=some rs/\out= .ret rs) (fun v o _=>∃x,dN o v=some x/\out= .bJ x):=by
 unfold Gw at ho
 split at ho
 ·rename_i v o nx
  split at ho
  ·cases ho
  ·rename_i hv
   split at ho
   ·rename_i rs Z0
    injection ho with ho;subst ho
    refine⟨vA v,rs, ?_,Z0,rfl⟩
    cases v with
    |bP vs=>
     match vs,hv with
     |[],_=>rfl
     |[x],hv=>exact absurd rfl (hv x)
     |_::_::_,_=>rfl
    |_=>rfl
   ·cases ho
 ·split at ho
  ·rename_i x hx
   injection ho with ho;subst ho
   exact⟨x,hx,rfl⟩
  ·cases ho
theorem Cy(bc:P.follows .mixedOrders=true)(cJ:∀g,(bR g).Ok P g){rec:dC}(bD:eF P rec){g:Nat}{ds:List D}{out:R}(h:Lh P bR rec g (ds.map .d) (.e fun _=> .no) 0 Cw=some (.r out)):aW P g ds out:=by
 refine aW.kF (nz bc cJ bD h fun r hr=> ?_)
 obtain⟨x,hx,he⟩:=Li hr
 injection he with he;subst he
 exact Lp hx
theorem zY(bc:P.follows .mixedOrders=true)(cJ:∀g,(bR g).Ok P g){rec:dC}(bD:eF P rec){g:Nat}{ds:List D}{out:R}(h:Ow P bR md rec g ds=some out):aW P g ds out:=by
 unfold Ow at h
 split at h
 ·rename_i afw ho
  injection h with h;subst h
  exact md.ok _ _ _ ho
 ·split at h
  ·rename_i x hr;injection h with h;subst h;exact Cy bc cJ bD hr
  ·cases h
theorem Cz(bc:P.follows .mixedOrders=true)(cJ:∀g,(bR g).Ok P g){rec:dC}(bD:eF P rec){g:Nat}{args:List V}{o:Tr ad}{nx:Nat}{kc:CR->Option ek}{a:ek}(h:Gx P bR md rec g args o nx kc=some a){K X:V->(Nat->ad)->Nat->Prop}(hr:∀r,kc r=some a->r.to K X):
 Rc P g args o.get nx K X:=by
 unfold Gx at h
 split at h
 ·rename_i ds hmd e7
  split at h
  ·rename_i out Ck
   have hP:=zY bc cJ bD Ck
   refine .inl ⟨ds,e7,out,hP, ?_⟩
   unfold RL at h
   split at h
   ·rename_i hf
    refine .inr (.inl ⟨hf, ?_⟩)
    cases out<;>exact hr _ h
   ·split at h
    ·rename_i hf
     refine .inr (.inr ⟨hf, ?_⟩)
     rw[<- jJ]
     cases out<;>exact hr _ h
    ·refine .inl ?_
     rw[<- jJ]
     cases out<;>exact hr _ h
  ·cases h
 ·exact .inr (nz bc cJ bD h hr)
theorem Oy(bc:P.follows .mixedOrders=true){rec:dC}(bD:eF P rec){id:Nat}{args:List V}{o:Tr ad}{nx:Nat}{kc:CR->Option ek}{a:ek}(h:UY P rec id args o nx kc=some a){K X:V->(Nat->ad)->Nat->Prop}(hr:∀r,kc r=some a->r.to K X):
 dL P id args o.get nx K X:=by
 unfold UY at h
 split at h
 ·rename_i nf n env ps jv e9 st pd ho
  split at h
  ·rename_i hc
   obtain⟨rfl,ck,Ey,hl⟩:=hc
   refine dL.vj bc ho ck Ey hl ?_
   refine bD _ _ _ _ _ _ _ h _ fun e s1 he=> ?_
   unfold Gy at he
   cases e with
   |normal=>
    simp only at he
    split at he
    ·rename_i nf m en p c d pd pT
     refine⟨nf,m,en,p,c,d,pd,pT, ?_⟩
     have:=bD _ _ _ _ _ _ _ he (kO id K X) (fun e s2 h2=>by
      unfold Ll at h2
      split at h2
      ·exact hr _ h2
      ·rename_i Q6
       split at h2
       ·rename_i nf' m' en' p' c' d' st' pd' U0
        cases e with
        |bJ v=>cases h2
        |normal=>have h3:=hr _ h2;simp only[CR.to,Tr.gL]at h3;exact⟨nf',m',en',p',c',d',st',pd',U0,h3⟩
        |ret=>have h3:=hr _ h2;simp only[CR.to,Tr.gL]at h3;exact⟨nf',m',en',p',c',d',st',pd',U0,h3⟩
        |exit j=>have h3:=hr _ h2;simp only[CR.to,Tr.gL]at h3;exact⟨nf',m',en',p',c',d',st',pd',U0,h3⟩
       ·cases h2)
     simp only[St.S,Tr.gL]at this
     exact this
    ·cases he
   |bJ v=>exact hr _ he
   |_=>cases he
  ·cases h
 ·cases h
theorem vB{st:St}{o:bT}{kr:RO->Option ek}{a:ek}(h:yi P st o kr=some a){K:S->Prop}{X:V->S->Prop}(hr:∀r,kr r=some a->r.to K X):match gA P st.S st.S.nx o.op with
 |some (v,Δ,_)=>K ⟨aX st.S.env o.dst v,put st.S.o Δ,st.S.nx+1⟩
 |none=>False:=by
 unfold yi at h
 split at h
 ·rename_i v Δ rd he
  have he:=Gu he
  simp only[jo,ny,Nat.c9]at h
  have hr:=hr _ h
  simp only[RO.to,St.S,jj,jJ]at hr
  have pQ:gA P st.S st.S.nx o.op=some (v,Δ,rd):=he
  simp only[pQ]
  exact hr
 ·cases h
theorem Gz{st:St}{dst:Option Nat}{kr:RO->Option ek}{v:V}{Δ:List (Nat×ad)}{a:ek}(h:Ox st dst kr v Δ=some a){K:S->Prop}{X:V->S->Prop}(hr:∀r,kr r=some a->r.to K X):K ⟨aX st.S.env dst v,put st.S.o Δ,st.S.nx+1⟩:=by
 unfold Ox at h
 simp only[jo,ny,Nat.c9]at h
 have hr:=hr _ h
 simp only[RO.to,St.S,jj,jJ]at hr
 exact hr
theorem U1(bc:P.follows .mixedOrders=true)(cJ:∀g,(bR g).Ok P g){rec:dC}(bD:eF P rec){st:St}{o:bT}{kr:RO->Option ek}{a:ek}(h:opX P bR md rec st o kr=some a){K:S->Prop}{X:V->S->Prop}(hr:∀r,kr r=some a->r.to K X):Jp P st.S o X K:=by
 have cr:∀r,crX st o.dst kr r=some a->r.to (fun v o' nx'=>K ⟨aX st.S.env o.dst v,o',nx'⟩) (fun v o' nx'=>X v ⟨st.S.env,o',nx'⟩):=by
  intro r hx
  unfold crX at hx
  split at hx
  ·simp only[jo,Nat.c9]at hx
   have hr:=hr _ hx
   simp only[RO.to,St.S,jj]at hr
   exact hr
  ·exact hr _ hx
 unfold opX at h
 unfold Jp
 cases fV:o.op
 case call c=>
  rw[fV]at h
  have h:Lm c P bR md rec st o kr=some a:=h
  unfold Lm at h
  cases hf:c.callee
  case value f=>
   simp only[hf]at h|-
   split at h
   ·rename_i g first cap hv
    simp only[hv]
    have:=Cz bc cJ bD h cr
    rcases this with⟨ds,e7,hP⟩|hC
    ·have U2:cc st.S.o (first++List.map st.S.ev c.args.toList++cap)=some ds:=e7
     simp only[U2]
     exact .inl hP
    ·split
     ·exact .inr (.inl hC)
     ·exact .inl hC
   ·rename_i id hv
    simp only[hv]
    exact Oy bc bD h cr
   ·cases h
  case invoke r m=>
   simp only[hf]at h|-
   split at h
   ·rename_i g y hv
    simp only[hv]
    exact Cz bc cJ bD h cr
   ·cases h
  all_goals
   simp only[hf]at h|-
   have:=vB h hr
   rw[fV]at this
   exact this
 case panic x=>
  rw[fV]at h
  have h:UZ x P bR md rec st o kr=some a:=h
  unfold UZ at h
  split at h
  ·rename_i hv;simp only[hv];exact hr _ h
  ·rename_i hv;simp only[hv];exact hr _ h
  ·cases h
 case next x str=>
  rw[fV]at h
  have h:Lo x str P bR md rec st o kr=some a:=h
  unfold Lo at h
  have hl:oS st.S.o (st.S.ev x)=oS st.o.get (st.S.ev x):=rfl
  simp only[hl]
  split at h
  ·rename_i id l ax
   simp only[ax]
   cases str with
   |true=>cases h
   |false=>
    refine⟨rfl,fun e=> ?_,fun i k y e=> ?_⟩
    ·subst e
     exact Gz h hr
    ·cases l with
     |nil=>simp at e
     |cons p l=>
      have:=Ln h i (List.getElem?_eq_some_iff.1 e).1
      rw[e]at this
      exact Gz this hr
  ·rename_i ax
   simp only[ax]
   have:=vB h hr
   rw[fV]at this
   exact this
 all_goals
  have h2:yi P st o kr=some a:=by rw[fV]at h;exact h
  have:=vB h2 hr
  rw[fV]at this
  exact this
theorem uc(bc:P.follows .mixedOrders=true)(cJ:∀g,(bR g).Ok P g){rec:dC}(bD:eF P rec){kr:RO->Option ek}{a:ek}{K:S->Prop}{X:V->S->Prop}(hr:∀r,kr r=some a->r.to K X):∀ (l:List bT) (st:St),zX P bR md rec kr l st=some a->pv P X K l st.S
 |[],st,h=>hr (.ok st) h
 |o::l,st,h=>by
  simp only[zX,jo,Nat.c9]at h
  simp only[pv]
  have op:opX P bR md rec st o (roK (zX P bR md rec kr l) kr)=some a->Jp P st.S o X (pv P X K l):=by
   intro h
   refine U1 bc cJ bD h fun r hrr=> ?_
   cases r with
   |ok U3=>exact uc bc cJ bD hr l U3 hrr
   |bJ v U3=>exact hr (.bJ v U3) hrr
  have sk:zX P bR md rec kr l ⟨te st.env o.dst (.bP []),st.o,st.nx+1⟩=some a->pv P X K l ⟨aX st.S.env o.dst (.bP []),st.S.o,st.S.nx+1⟩:=by
   intro h
   have:=uc bc cJ bD hr l _ h
   exact J3
  cases hg:o.gd with
  |none=>simp only[hg]at h;exact op h
  |some p=>
   obtain⟨d,want⟩:=p
   simp only[hg]at h
   have he:st.S.env d=st.env.get d:=rfl
   simp only[he]
   cases hv:st.env.get d with
   |d x=>
    cases x with
    |bool b=>
     simp only[hv]at h|-
     by_cases e:b=want
     ·subst e
      simp only[beq_self_eq_true]at h
      rw[if_pos rfl];exact op h
     ·have:(b==want)=false:=by simpa using e
      rw[this]at h
      rw[if_neg e];exact sk h
    |_=>simp[hv]at h
   |bP vs=>
    cases vs with
    |nil=>simp only[hv]at h|-;exact sk h
    |cons a cj=>simp[hv]at h
   |_=>simp[hv]at h
end
end
section
mutual
def V.same:V->V->Bool
 | .d x, .d y=>x.same y
 | .aq, .aq=>true
 | .aa, .aa=>true
 | .agg a, .agg b=>V.fW a b
 | .ptr i o, .ptr j p=>Nat.beq i j&&Nat.beq o p
 | .osl i o, .osl j p=>Nat.beq i j&&Nat.beq o p
 | .oM a, .oM b=>D.fW a b
 | .iface t x, .iface u y=>Nat.beq t u&&x.same y
 | .mp i, .mp j=>Nat.beq i j
 |_,_=>false
def V.fW:List V->List V->Bool
 |[],[]=>true
 |a::cj,b::bs=>a.same b&&V.fW cj bs
 |_,_=>false
end
mutual
theorem V.dY:∀ (x y:V),x.same y=true->x=y
 | .d x,y,h=>by cases y<;>simp only[V.same,Bool.false_eq_true]at h;rw[D.dY _ _ h]
 | .aq,y,h=>by cases y<;>simp_all[V.same]
 | .aa,y,h=>by cases y<;>simp_all[V.same]
 | .agg a,y,h=>by cases y<;>simp only[V.same,Bool.false_eq_true]at h;rw[V.dG _ _ h]
 | .ptr i o,y,h=>by
   exact Zy
 | .osl i o,y,h=>by
   exact Zy
 | .oM a,y,h=>by cases y<;>simp only[V.same,Bool.false_eq_true]at h;rw[D.dG _ _ h]
 | .iface t x,y,h=>by
   cases y<;>simp only[V.same,Bool.false_eq_true,Bool.and_eq_true]at h
   rw[Nat.eq_of_beq_eq_true h.1,V.dY _ _ h.2]
 | .mp i,y,h=>by
   cases y<;>simp only[V.same,Bool.false_eq_true]at h
   rw[Nat.eq_of_beq_eq_true h]
 | .bP _,y,h| .pe _ _ _ _ _,y,h| .pp _ _,y,h| .func _ _ _,y,h| .xz _ _ _,y,h| .fw,y,h| .j7 _,y,h=>by simp[V.same]at h
theorem V.dG:∀ (x y:List V),V.fW x y=true->x=y
 |[],y,h=>by cases y<;>simp_all[V.fW]
 |a::cj,y,h=>by
  cases y<;>simp only[V.fW,Bool.false_eq_true,Bool.and_eq_true]at h
  rw[V.dY _ _ h.1,V.dG _ _ h.2]
end
def vC:List (D×D)->List (D×D)->Bool
 |[],[]=>true
 |(a,b)::l,(c,d)::m=>a.same c&&(b.same d&&vC l m)
 |_,_=>false
theorem vE:∀ (l m:List (D×D)),vC l m=true->l=m
 |[],m,h=>by cases m<;>simp_all[vC]
 |(a,b)::l,m,h=>by
  cases m with
  |nil=>simp[vC]at h
  |cons p m=>
   obtain⟨c,d⟩:=p
   simp only[vC,Bool.and_eq_true]at h
   rw[D.dY _ _ h.1,D.dY _ _ h.2.1,vE l m h.2.2]
noncomputable def ad.same:ad->ad->Bool
 | .no, .no=>true
 | .row a, .row b=>V.fW a b
 | .arr e t s a, .arr f u r b=>Nat.beq e f&&Nat.beq t u&&Nat.beq s r&&D.fW a b
 | .tP e a, .tP f b=>Nat.beq e f&&D.fW a b
 | .map k v a, .map k' v' b=>Nat.beq k k'&&Nat.beq v v'&&vC a b
 | .b8 a, .b8 b=>vC a b
 | .yX a i, .yX b j=>a==b&&Nat.beq i j
 |_,_=>false
theorem ad.dY {x y:ad}(h:x.same y=true):x=y:=by
 cases x<;>cases y<;>simp only[ad.same,Bool.false_eq_true,Bool.and_eq_true]at h
 ·rfl
 ·rw[V.dG _ _ h]
 ·rw[Nat.eq_of_beq_eq_true h.1.1.1,Nat.eq_of_beq_eq_true h.1.1.2,Nat.eq_of_beq_eq_true h.1.2,D.dG _ _ h.2]
 ·rw[Nat.eq_of_beq_eq_true h.1,D.dG _ _ h.2]
 ·rw[Nat.eq_of_beq_eq_true h.1.1,Nat.eq_of_beq_eq_true h.1.2,vE _ _ h.2]
 ·rw[vE _ _ h]
 ·rw[eq_of_beq h.1,Nat.eq_of_beq_eq_true h.2]
noncomputable def reach(o:Nat->ad):Nat->List Nat->List Nat->List Nat
 |0,_,seen=>seen
 |_+1,[],seen=>seen
 |n+1,id::todo,seen=>match seen.contains id with
  |true=>reach o n todo seen
  |false=>reach o n ((o id).refs++todo) (id::seen)
noncomputable def eK(o o1:Nat->ad):List Nat->List (Nat×ad)
 |[]=>[]
 |id::l=>match(o id).same (o1 id)with
  |true=>eK o o1 l
  |false=>(id,o1 id)::eK o o1 l
theorem iK{o o1:Nat->ad}:∀ (l:List Nat) (x:Nat×ad),x∈eK o o1 l->x.1∈l/\x.2=o1 x.1
 |[],x,h=>by simp[eK]at h
 |id::l,x,h=>by
  simp only[eK]at h
  split at h
  ·obtain⟨h1,h2⟩:=iK l x h;exact⟨List.mem_cons_of_mem _ h1,h2⟩
  ·rcases List.mem_cons.1 h with rfl|h
   ·exact⟨aE,rfl⟩
   ·obtain⟨h1,h2⟩:=iK l x h;exact⟨List.mem_cons_of_mem _ h1,h2⟩
theorem nA{o o1:Nat->ad}:∀ (l:List Nat) (id:Nat),id∈l->id∉(eK o o1 l).map (·.1)->o1 id=o id
 |[],id,h,_=>by simp at h
 |j::l,id,h,hn=>by
  simp only[eK]at hn
  split at hn
  ·rename_i hs
   rcases List.mem_cons.1 h with rfl|h
   ·exact(ad.dY hs).symm
   ·exact nA l id h hn
  ·simp only[List.map_cons,List.mem_cons,not_or]at hn
   rcases List.mem_cons.1 h with rfl|h
   ·exact absurd rfl hn.1
   ·exact nA l id h hn.2
theorem CA{o1:Nat->ad}:∀ (Δ:List (Nat×ad)) (o:Nat->ad),(∀x∈Δ,x.2=o1 x.1)->∀id,id∈Δ.map (·.1)\/o id=o1 id->put o Δ id=o1 id
 |[],o,_,id,h=>by rcases h with h|h;· simp at h
                  ·exact h
 |x::Δ,o,hv,id,h=>by
  simp only[put,List.foldl_cons]
  refine CA Δ (ay o x.1 x.2) (fun y hy=>hv y (List.mem_cons_of_mem _ hy)) id ?_
  simp only[List.map_cons,List.mem_cons]at h
  simp only[aL]
  by_cases e:id=x.1
  ·right;rw[if_pos e,hv x (by simp),e]
  ·rcases h with(h|h)|h
   ·exact absurd h e
   ·exact .inl h
   ·right;rw[if_neg e];exact h
theorem tf{o o1:Nat->ad}{l:List Nat}{id:Nat}(h:id∈l):o1 id=put o (eK o o1 l) id:=by
 by_cases hm:id∈(eK o o1 l).map (·.1)
 ·exact(CA _ o (fun x hx=>(iK l x hx).2) id (.inl hm)).symm
 ·rw[gh hm];exact nA l id h hm
inductive DR where
 |val (v:V) (Δ:List (Nat×ad)) (rd:List Nat)|bJ (v:V) (ws rd:List Nat)
def DR.to (K:V->List (Nat×ad)->List Nat->Prop)(KX:V->List Nat->List Nat->Prop):DR->Prop
 | .val v Δ rd=>K v Δ rd
 | .bJ v ws rd=>KX v ws rd
noncomputable def crA(c:CR):Option ek:=some (.c c)
noncomputable def hX(P:Program)(bR:Nat->FD)(rec:dC)(g:Nat)(args:List V)(st:St):Option DR:=
 let rd:=reach st.o.get 2000 (V.aK args) []
 match rd.all (fun id=>Nat.blt id st.nx&&(st.o.get id).refs.all rd.contains)&&(V.aK args).all rd.contains with
 |true=>match Lh P bR rec g args (.e (El rd st.o.get)) st.nx crA with
  |some (.c (.ret v o1 _))=>match v with
   | .bP [_]=>none
   |v=>match cc o1.get (vA v)with
    |some rs=>match(eK st.o.get o1.get rd).all (fun x=>x.2.refs.all rd.contains)&&(V.ba (vA v)).all (fun id=> !rd.contains id)with
     |true=>some (.val (iR rs) (eK st.o.get o1.get rd) rd)
     |false=>none
    |none=>none
  |some (.c (.bJ v o1 _))=>match dN o1.get v with
   |some x=>match(eK st.o.get o1.get rd).all (fun x=>x.2.refs.all rd.contains)&&v.ids.all (fun id=> !rd.contains id)with
    |true=>some (.bJ (.d x) ((eK st.o.get o1.get rd).map (·.1)) rd)
    |false=>none
   |none=>none
  |_=>none
 |false=>none
noncomputable def cDX(P:Program)(bR:Nat->FD)(md:qH P)(rec:dC)(g:Nat)(args:List V)(st:St)(rd:List Nat):Option DR:=
 match cc st.o.get args with
 |some ds=>match md.dat g with
  |false=>match Lh P bR rec g (ds.map .d) (.e fun _=> .no) 0 crA with
   |some (.c (.ret v _ _))=>match v.refs with
    |[]=>some (.val v (bw st.o.get (V.ba args)) rd)
    |_=>none
   |_=>none
  |true=>match Ow P bR md rec g ds with
   |some (.ret rs)=>match D.jF rs with
    |true=>some (.val (iR rs) [] rd)
    |false=>some (.val (iR rs) (bw st.o.get (V.ba args)) rd)
   |some (.bJ x)=>match x.flat with
    |true=>some (.bJ (.d x) [] rd)
    |false=>none
   |none=>none
 |none=>hX P bR rec g args st
noncomputable def sDX(P:Program)(st:St)(fr:Nat)(op:Op):Option DR:=
 match Ov op P st.S fr with
 |some (v,Δ,_)=>some (.val v Δ (oJ st.S op))
 |none=>none
def V.aej:V->Bool
 | .mp _=>true
 |_=>false
def U4{P:Program}(md:qH P)(g:Nat)(args:List V):Bool:= !md.dat g&&args.any V.aej
def yj(args:List V):Option (List D):=
 match V.ba args with
 |[]=>cc (fun _=> .no) args
 |_=>none
noncomputable def Oz(P:Program)(t:TypeId)(c:CR):Option ek:=
 match c with
 | .ret v o1 _=>match v with
   | .osl j ep=>match o1.get j with
     | .arr fR ty sz es=>match Nat.beq fR ep with
       |true=>rfc (.ret [.sl es, .int .i64 (ty:Nat), .int .i64 (sz:Nat)]) fun x=>some (.r x)
       |false=>none
     |_=>none
   | .aq=>match b7 P t with
     |some e=>match Nat.blt 0 (P.cellsOf e)with
      |true=>rfc (.ret [.sl [], .int .i64 (e:Nat), .int .i64 (P.cellsOf e:Nat)]) fun x=>some (.r x)
      |false=>none
     |none=>none
   |_=>none
 |_=>none
noncomputable def U5(P:Program)(bR:Nat->FD)(rec:dC)(g:Nat)(t:TypeId)(args:List V)(st:St)(fr:Nat):Option DR:=
 match yj args with
 |some ds=>match Lh P bR rec g (ds.map .d) (.e fun _=> .no) 0 (Oz P t)with
  |some (.r (.ret [.sl es, .int .i64 (.ofNat ty), .int .i64 (.ofNat sz)]))=>some (.val (.osl fr 0) [(fr, .arr 0 ty sz es)] [])
  |_=>none
 |none=>match cc st.o.get args with
  |some ds=>match Lh P bR rec g (ds.map .d) (.e fun _=> .no) 0 (Oz P t)with
   |some (.r (.ret [.sl es, .int .i64 (.ofNat ty), .int .i64 (.ofNat sz)]))=>match D.jF es&&(V.ba args).all (fun id=>Nat.blt id st.nx)with
    |true=>some (.val (.osl fr 0) [(fr, .arr 0 ty sz es)] (V.ba args))
    |false=>none
   |_=>none
  |none=>none
noncomputable def OA(P:Program)(bR:Nat->FD)(md:qH P)(rec:dC)(st:St)(fr:Nat)(op:Op):Option DR:=
 match op with
 | .call c=>match c.callee with
   | .value f=>match st.S.ev f with
     | .func (.func g) first cap=>match U4 md g (first++c.args.toList.map st.S.ev++cap)with
       |true=>hX P bR rec g (first++c.args.toList.map st.S.ev++cap) st
       |false=>match cDX P bR md rec g (first++c.args.toList.map st.S.ev++cap) st (oJ st.S (.call c))with
        |some r=>some r
        |none=>U5 P bR rec g (c.argTypes.getD 0 0) (first++c.args.toList.map st.S.ev++cap) st fr
     |_=>none
   |_=>sDX P st fr (.call c)
 |op=>sDX P st fr op
noncomputable def gdX(st:St):Option (Nat×Bool)->Option Bool
 |none=>some true
 |some (d,want)=>match st.env.get d with
  | .d (.bool b)=>some (b==want)
  | .bP []=>some false
  |_=>none
noncomputable def vF(P:Program)(bR:Nat->FD)(md:qH P)(rec:dC)(pr:List (List Nat)):List bT->Nat->St->Fp->List Nat->List Nat->Option (List Nat×Fp)
 |[],_,_,fp,_,ws=>some (ws,fp)
 |o::l,fr,st,fp,bad,ws=>match(pr.getD fp.length []).any (fun j=>bad.contains j)with
  |true=>vF P bR md rec pr l (fr+1) ⟨te st.env o.dst .aa,st.o,st.nx⟩ (fp++[([],[])]) (bad++[fp.length]) ws
  |false=>match gdX st o.gd with
   |some true=>match OA P bR md rec st fr o.op with
    |some (.val v Δ rd)=>mc st.env o.dst v fun e=>vz st.o Δ fun ob=>vF P bR md rec pr l (fr+1) ⟨e,ob,st.nx⟩ (fp++[(rd,Δ.map (·.1))]) bad (ws++Δ.map (·.1))
    |_=>none
   |some false=>vF P bR md rec pr l (fr+1) ⟨te st.env o.dst (.bP []),st.o,st.nx⟩ (fp++[([],[])]) bad ws
   |none=>none
inductive DQ where
 |fin (st:St) (fp:Fp)|bJ (v:V) (wl:List Nat) (fp:Fp)
noncomputable def vG(P:Program)(bR:Nat->FD)(md:qH P)(rec:dC)(pr:List (List Nat)):List bT->Nat->St->Fp->Option DQ
 |[],_,st,fp=>some (.fin st fp)
 |o::l,fr,st,fp=>match gdX st o.gd with
  |some true=>match OA P bR md rec st fr o.op with
   |some (.val v Δ rd)=>mc st.env o.dst v fun e=>vz st.o Δ fun ob=>Nat.fc (fr+1) fun fr=>vG P bR md rec pr l fr ⟨e,ob,st.nx⟩ (fp++[(rd,Δ.map (·.1))])
   |some (.bJ v ws rd)=>match vF P bR md rec pr l (fr+1) ⟨te st.env o.dst .aa,st.o,st.nx⟩ (fp++[(rd,[])]) [fp.length] (ws++fp.flatMap (·.2))with
    |some (wl,fp)=>some (.bJ v wl fp)
    |none=>none
   |none=>none
  |some false=>mc st.env o.dst (.bP []) fun e=>Nat.fc (fr+1) fun fr=>vG P bR md rec pr l fr ⟨e,st.o,st.nx⟩ (fp++[([],[])])
  |none=>none
noncomputable def quiet(fp:Fp):Bool:=fp.all fun x=>match x.2 with|[]=>true|_=>false
noncomputable def zZ(m:Nat)(x:List Nat×List Nat):Nat->Fp->Bool
 |_,[]=>true
 |i,y::l=>(match y.2,x.2 with
  |[],[]=>true
  |_,_=>m.testBit i||(kC y.2 x.1&&kC y.2 x.2&&kC x.2 y.1))&&zZ m x (i+1) l
noncomputable def GA(ms:List Nat)(pre:Fp):Nat->Fp->Bool
 |_,[]=>true
 |j,x::l=>zZ (ms.getD j 0) x 0 pre&&GA ms (pre++[x]) (j+1) l
noncomputable def nfc{β:Type}:List Nat->(List Nat->β)->β
 |[],c=>c []
 |x::xs,c=>Nat.fc x fun x=>nfc xs fun xs=>c (x::xs)
theorem Lq{β:Type}:∀ (x:List Nat) (c:List Nat->β),nfc x c=c x
 |[],c=>rfl
 |x::xs,c=>by simp only[nfc,Nat.c9,Lq xs]
noncomputable def OB{β:Type}:Fp->(Fp->β)->β
 |[],c=>c []
 |(a,b)::l,c=>nfc a fun a=>nfc b fun b=>OB l fun l=>c ((a,b)::l)
theorem GC{β:Type}:∀ (x:Fp) (c:Fp->β),OB x c=c x
 |[],c=>rfl
 |(a,b)::l,c=>by simp only[OB,Lq,GC l]
noncomputable def Lr(pr:List (List Nat))(fp:Fp):Bool:=match quiet fp with|true=>true|false=>OB fp fun fp=>GA (eG pr []) [] 0 fp
theorem yk{m:Nat}{x:List Nat×List Nat}:∀ (l:Fp) (i:Nat),zZ m x i l=true->∀k,k<l.length->(m.testBit (i+k)||(kC (l.getD k ([],[])).2 x.1&&kC (l.getD k ([],[])).2 x.2&&kC x.2 (l.getD k ([],[])).1))=true
 |[],i,_,k,hk=>by simp at hk
 |y::l,i,h,k,hk=>by
  simp only[zZ,Bool.and_eq_true]at h
  cases k with
  |zero=>
   have h1:=h.1
   simp only[List.getD_cons_zero,Nat.add_zero]
   split at h1
   ·rename_i e1 e2
    rw[e1,e2];simp[kC]
   ·exact h1
  |succ k=>
   have:=yk l (i+1) h.2 k (by simpa using hk)
   rw[List.getD_cons_succ,show i+(k+1)=i+1+k by omega]
   exact this
theorem CB{ms:List Nat}:∀ (l pre:Fp),GA ms pre pre.length l=true->∀j,pre.length<=j->j<(pre++l).length->∀i,i<j->
 ((ms.getD j 0).testBit i||(kC ((pre++l).getD i ([],[])).2 ((pre++l).getD j ([],[])).1&&kC ((pre++l).getD i ([],[])).2 ((pre++l).getD j ([],[])).2&&kC ((pre++l).getD j ([],[])).2 ((pre++l).getD i ([],[])).1))=true
 |[],pre,_,j,h1,h2,i,_=>by simp at h2;omega
 |x::l,pre,h,j,h1,h2,i,hi=>by
  simp only[GA,Bool.and_eq_true]at h
  by_cases e:j=pre.length
  ·subst e
   have:=yk pre 0 h.1 i hi
   have e1:(pre++x::l).getD pre.length ([],[])=x:=by simp[List.getD_eq_getElem?_getD]
   have e2:(pre++x::l).getD i ([],[])=pre.getD i ([],[]):=by simp[List.getD_eq_getElem?_getD,List.getElem?_append_left hi]
   rw[e1,e2]
   simpa using this
  ·have h3:=h.2
   have:=CB l (pre++[x]) (by simpa using h3) j gz xq i hi
   simpa using this
noncomputable def U6(P:Program)(bR:Nat->FD)(md:qH P)(rec:dC)(l:List bT)(pr:List (List Nat))(st:St):Option (fH×St):=
 match vG P bR md rec pr l st.nx st []with
 |some (.fin s1 fp)=>match Lr pr fp with
  |true=>Nat.fc (st.nx+l.length) fun n=>some (.normal,⟨s1.env,s1.o,n⟩)
  |false=>none
 |some (.bJ v wl fp)=>match Lr pr fp with
  |true=>some (.bJ v,⟨.e (u9 (dstsOf l) wl l.length st.S).env, .e (u9 (dstsOf l) wl l.length st.S).o,st.nx+l.length⟩)
  |false=>none
 |none=>none
noncomputable def aa6(id:Nat)(env:Tr V)(kt:Kt)(c:CR):Option ek:=
 match c with
 | .ret _ o1 A0=>match o1.get id with
   | .loop nf m e p c d RM pd=>match RM with
     | .busy=>none
     |_=>match pd with
      |none=>kt .normal ⟨env,o1.set id (.loop nf m e p c d .exhausted pd),A0⟩
      |some .ret=>kt .ret ⟨env,o1.set id (.loop nf m e p c d .exhausted pd),A0⟩
      |some (.exit j)=>kt (.exit j) ⟨env,o1.set id (.loop nf m e p c d .exhausted pd),A0⟩
   |_=>none
 | .bJ v o1 A0=>kt (.bJ v) ⟨env,o1,A0⟩
noncomputable def OC(P:Program)(bR:Nat->FD)(rec:dC)(n:Nat)(g:Operand)(ps:List Nat)(x y:IC)(st:St)(kt:Kt):Option ek:=
 match st.S.ev g with
 | .func (.func f) first cap=>Lh P bR rec f (first++[.j7 st.nx]++cap) (st.o.set st.nx (.loop P.funcs.size n ((List.range n).map st.env.get) ps x y .ready none)) (st.nx+1) (aa6 st.nx st.env kt)
 |_=>none
abbrev oX:=(P:Program)->(Nat->FD)->qH P->dC->Nat->Bool->Nat->St->Kt->Option ek
noncomputable def roX(kt:Kt):RO->Option ek:=fun r=>match r with| .ok st=>kt .normal st| .bJ v st=>kt (.bJ v) st
noncomputable def aek(l:List bT):oX:=fun P bR md rec _ _ _ st kt=>zX P bR md rec (roX kt) l st
def yl:List Nat->Nat->Nat->Nat
 |[],_,c=>c
 |x::l,k,c=>match Nat.beq x (2^k - 1)with
  |true=>yl l (k+1) c
  |false=>yl l (k+1) (k+1)
def qI(pr:List (List Nat)):Nat:=yl (eG pr []) 0 0
noncomputable def U7(l:List bT)(pr:List (List Nat)):oX:=fun P bR md rec _ _ _ st kt=>
 Nat.fc (qI pr) fun m=>match vG P bR md rec pr (l.take m) st.nx st []with
 |some (.fin s1 fp)=>match Lr pr fp with
  |true=>Nat.fc (st.nx+m) fun n=>match Nat.ble m l.length with
   |true=>zX P bR md rec (roX kt) (l.drop m) ⟨s1.env,s1.o,n⟩
   |false=>none
  |false=>none
 |some (.bJ _ _ _)=>match U6 P bR md rec l pr st with
  |some (e,s1)=>kt e s1
  |none=>none
 |none=>none
noncomputable def ED(rec:dC)(b:Nat)(rd:Bool)(n:Nat)(y:IC)(kt:Kt):Kt:=fun e s1=>match e with| .normal=>rec b rd n y s1 kt|e=>kt e s1
noncomputable def ael(x y:IC):oX:=fun _ _ _ rec b rd n st kt=>rec b rd n x st (ED rec b rd n y kt)
noncomputable def GD(a c:Option ek):Option ek:=
 match a with
 |some (.r x)=>match c with
  |some (.r y)=>match R.same x y with
   |true=>some (.r x)
   |false=>none
  |_=>none
 |_=>none
noncomputable def aa7(c:Operand)(x y:IC):oX:=fun _ _ _ rec b rd n st kt=>match st.S.ev c with
 | .d (.bool true)=>rec b rd n x st kt
 | .d (.bool false)=>rec b rd n y st kt
 | .fw=>GD (rec b rd n x st kt) (rec b rd n y st kt)
 |_=>none
noncomputable def EE(id:Nat)(kt:Kt):Kt:=fun e s1=>match e with
 | .exit j=>match Nat.beq j id with
   |true=>kt .normal s1
   |false=>kt (.exit j) s1
 |e=>kt e s1
noncomputable def U8(id:Nat)(x:IC):oX:=fun _ _ _ rec b rd n st kt=>rec b rd n x st (EE id kt)
noncomputable def aa8(x:IC):oX:=fun _ _ _ rec b rd n st kt=>match Nat.ble b st.nx with
 |true=>rec b rd n x st (ED rec b rd n (.loop x) kt)
 |false=>none
noncomputable def U9(e:fH):oX:=fun _ _ _ _ _ _ _ st kt=>kt e st
noncomputable def aem:oX:=fun _ _ _ _ _ _ _ _ _=>none
noncomputable def aen(g:Operand)(ps:List Nat)(x y:IC):oX:=fun P bR _ rec _ rd n st kt=>match rd with
 |true=>none
 |false=>OC P bR rec n g ps x y st kt
noncomputable def RN(ic:IC):oX:=
 match ic with
 | .skip=>U9 .normal
 | .ag l=>aek l
 | .dO l pr=>U7 l pr
 | .seq x y=>ael x y
 | .cond c x y=>aa7 c x y
 | .block id x=>U8 id x
 | .loop x=>aa8 x
 | .exit id=>U9 (.exit id)
 | .ret=>U9 .ret
 | .Ji g ps x y=>aen g ps x y
 | .bad=>aem
noncomputable def run(P:Program)(bR:Nat->FD)(md:qH P)(k:Nat):dC:=
 Nat.rec (motive:=fun _=>dC) (fun _ _ _ _ _ _=>none) (fun _ rec b rd n ic st kt=>RN ic P bR md rec b rd n st kt) k
theorem Ls{P:Program}{bR:Nat->FD}{md:qH P}{k:Nat}:run P bR md (k+1)=fun b rd n ic st kt=>RN ic P bR md (run P bR md k) b rd n st kt:=rfl
section
variable {P:Program}{bR:Nat->FD}{md:qH P}
theorem RP(bc:P.follows .mixedOrders=true)(cJ:∀g,(bR g).Ok P g){rec:dC}(bD:eF P rec){fr:Nat}{g:Nat}{args:List V}{st:St}{r:DR}(h:hX P bR rec g args st=some r){K:V->List (Nat×ad)->List Nat->Prop}{KX:V->List Nat->List Nat->Prop}(hr:r.to K KX):
 iT P g args st.S.o st.S.nx fr K KX:=by
 unfold hX at h
 simp only at h
 generalize mC:reach st.o.get 2000 (V.aK args) []=rd at h
 split at h
 ·rename_i hc
  simp only[Bool.and_eq_true,List.all_eq_true]at hc
  obtain⟨Va,uM⟩:=hc
  have a1:∀id∈rd,id<st.nx:=fun id ax=>Nat.le_of_ble_eq_true (Va id ax).1
  have a2:∀id∈V.aK args,id∈rd:=fun id ax=>by simpa using uM id ax
  have a3:∀id∈rd,∀j∈(st.o.get id).refs,j∈rd:=fun id ax j hj=>by simpa using(Va id ax).2 j hj
  have a0:rd.all (fun id=>decide (id<st.S.nx))=true:=List.all_eq_true.2 fun id ax=>decide_eq_true (a1 id ax)
  have key:∀ {r:CR} {a:CR},crA r=some (.c a)->r=a:=fun h=>by unfold crA at h;injection h with h;injection h
  split at h
  ·rename_i v o1 A0 hf
   split at h
   ·cases h
   ·rename_i v' pS
    split at h
    ·rename_i rs Z0
     split at h
     ·rename_i Vb
      injection h with h;subst h
      simp only[Bool.and_eq_true,List.all_eq_true]at Vb
      refine⟨rd,_,a0, .inl ⟨rs,AY.kF a1 a2 a3 (fun x hx=>(iK rd x hx).1) (fun x hx j hj=>by simpa using Vb.1 x hx j hj) (nz bc cJ bD hf fun r uQ=> ?_),hr⟩⟩
      rw[key uQ]
      refine⟨fun id ax=>tf ax,vA v,rs, ?_,Z0,rfl,fun id ax=>by simpa using Vb.2 id ax⟩
      cases v with
      |bP vs=>
       match vs,pS with
       |[],_=>rfl
       |[x],hv=>exact absurd rfl (hv x)
       |_::_::_,_=>rfl
      |_=>rfl
     ·cases h
    ·cases h
  ·rename_i v o1 A0 hf
   split at h
   ·rename_i x hx
    split at h
    ·rename_i Vb
     injection h with h;subst h
     simp only[Bool.and_eq_true,List.all_eq_true]at Vb
     refine⟨rd,eK st.o.get o1.get rd,a0, .inr (.inl ⟨x,AY.kF a1 a2 a3 (fun x hx=>(iK rd x hx).1) (fun x hx j hj=>by simpa using Vb.1 x hx j hj) (nz bc cJ bD hf fun r uQ=> ?_),hr⟩)⟩
     rw[key uQ]
     exact⟨fun id ax=>tf ax,x,hx,rfl,fun id ax=>by simpa using Vb.2 id ax⟩
    ·cases h
   ·cases h
  ·cases h
 ·cases h
theorem Vc(bc:P.follows .mixedOrders=true)(cJ:∀g,(bR g).Ok P g){rec:dC}(bD:eF P rec){g:Nat}{args:List V}{st:St}{rd:List Nat}{ds:List D}(e7:cc st.o.get args=some ds){r:DR}(h:cDX P bR md rec g args st rd=some r)
 {K:V->List (Nat×ad)->List Nat->Prop} {KX:V->List Nat->List Nat->Prop} (hr:r.to K KX):
 ta P g ds (fun v=>K v (bw st.S.o (V.ba args)) rd) (fun v=>K v [] rd) (fun v=>KX v [] rd):=by
 unfold cDX at h
 simp only[e7]at h
 split at h
 ·split at h
  ·rename_i v o1 A0 hr0
   split at h
   ·rename_i hrf
    injection h with h;subst h
    exact .inr (.inr ⟨v,Ng.kF hrf (nz bc cJ bD hr0 fun r uQ=>by unfold crA at uQ;injection uQ with uQ;injection uQ with uQ;rw[uQ];exact rfl),hr⟩)
   ·cases h
  ·cases h
 ·split at h
  ·rename_i rs Ck
   have hP:=zY bc cJ bD Ck
   split at h
   ·rename_i hf
    injection h with h;subst h
    exact .inl ⟨rs,hP, .inr ⟨hf,hr⟩⟩
   ·injection h with h;subst h
    exact .inl ⟨rs,hP, .inl hr⟩
  ·rename_i x Ck
   have hP:=zY bc cJ bD Ck
   split at h
   ·rename_i hf
    injection h with h;subst h
    exact .inr (.inl ⟨x,hP,hf,hr⟩)
   ·cases h
  ·cases h
theorem GF{t ty:TypeId}{sz:Nat}{es:List D}{r:CR}(h:Oz P t r=some (.r (.ret [.sl es, .int .i64 (.ofNat ty), .int .i64 (.ofNat sz)]))):
 r.to (fun v o1 _=>(∃j ep,v= .osl j ep/\o1 j= .arr ep ty sz es)\/(v= .aq/\es=[]/\0<sz)) (fun _ _ _=>False):=by
 unfold Oz at h
 split at h
 ·rename_i v o1 n1
  split at h
  ·rename_i j ep
   split at h
   ·rename_i fR ty' rr es' ho
    split at h
    ·rename_i he
     have he:=Nat.eq_of_beq_eq_true he
     subst he
     rw[EC]at h
     simp only[Option.some.injEq,ek.r.injEq,R.ret.injEq,List.cons.injEq,D.sl.injEq,D.int.injEq,true_and,and_true]at h
     obtain⟨rfl,h2,h3⟩:=h
     have h2:ty'=ty:=Int.ofNat.inj h2
     have h3:rr=sz:=Int.ofNat.inj h3
     subst h2;subst h3
     exact .inl ⟨j,fR,rfl,ho⟩
    ·cases h
   ·cases h
  ·split at h
   ·rename_i e he
    split at h
    ·rename_i hp
     rw[EC]at h
     simp only[Option.some.injEq,ek.r.injEq,R.ret.injEq,List.cons.injEq,D.sl.injEq,D.int.injEq,true_and,and_true]at h
     obtain⟨rfl,h2,h3⟩:=h
     have h3:P.cellsOf e=sz:=Int.ofNat.inj h3
     subst h3
     exact .inr ⟨rfl,rfl,Nat.blt_eq.mp hp⟩
    ·cases h
   ·cases h
  ·cases h
 ·cases h
theorem OD(bc:P.follows .mixedOrders=true)(cJ:∀g,(bR g).Ok P g){rec:dC}(bD:eF P rec){fr:Nat}{g:Nat}{t:TypeId}{args:List V}{st:St}{r:DR}(h:U5 P bR rec g t args st fr=some r){K:V->List (Nat×ad)->List Nat->Prop}{KX:V->List Nat->List Nat->Prop}(hr:r.to K KX):
 iT P g args st.S.o st.S.nx fr K KX:=by
 unfold U5 at h
 split at h
 ·rename_i ds e7
  split at h
  ·rename_i es ty sz hr0
   injection h with h;subst h
   unfold yj at e7
   split at e7
   ·rename_i ax
    exact⟨[],_,aE, .inr (.inr ⟨_,AZ.Ot ax e7 (AZ.La (nz bc cJ bD hr0 fun r uQ=>GF uQ)),hr⟩)⟩
   ·cases e7
  ·cases h
 ·split at h
  ·rename_i ds e7
   split at h
   ·rename_i es ty sz hr0
    split at h
    ·rename_i hc
     injection h with h;subst h
     simp only[Bool.and_eq_true]at hc
     refine⟨V.ba args,_, ?_, .inr (.inr ⟨_,AZ.Oq e7 hc.1 (nz bc cJ bD hr0 fun r uQ=>GF uQ),hr⟩)⟩
     exact List.all_eq_true.2 fun id ax=>decide_eq_true (Nat.blt_eq.mp (List.all_eq_true.1 hc.2 id ax))
    ·cases h
   ·cases h
  ·cases h
theorem z7(bc:P.follows .mixedOrders=true)(cJ:∀g,(bR g).Ok P g){rec:dC}(bD:eF P rec){st:St}{fr:Nat}{o:bT}{r:DR}(h:OA P bR md rec st fr o.op=some r){K:V->List (Nat×ad)->List Nat->Prop}{KX:V->List Nat->List Nat->Prop}(hr:r.to K KX):
 A1 P st.S fr o K KX:=by
 have hs:sDX P st fr o.op=some r->(match gA P st.S fr o.op with|some (v,Δ,_)=>K v Δ (oJ st.S o.op)|none=>False):=by
  intro h
  unfold sDX at h
  split at h
  ·rename_i v Δ rd he
   injection h with h;subst h
   simp only[Gu he]
   exact hr
  ·cases h
 unfold OA at h
 unfold A1
 split at h
 ·rename_i c hc
  simp only[hc]
  split at h
  ·rename_i f hf
   simp only[hf]
   split at h
   ·rename_i g first cap hv
    simp only[hv]
    split at h
    ·have hh:=RP bc cJ bD h hr (fr:=fr)
     split
     ·exact .inr hh
     ·exact hh
    split at h
    ·rename_i r' TT
     injection h with h;subst h
     cases e7:cc st.S.o (first++List.map st.S.ev c.args.toList++cap)with
     |some ds=>exact .inl (Vc bc cJ bD e7 TT hr)
     |none=>
      have U2:cc st.o.get (first++List.map st.S.ev c.args.toList++cap)=none:=e7
      unfold cDX at TT
      simp only[U2]at TT
      exact RP bc cJ bD TT hr
    ·have hh:=OD bc cJ bD (st:=st) h hr
     split
     ·exact .inr hh
     ·exact hh
   ·cases h
  ·rename_i eZ
   rw[<- hc]at h
   have:=hs h
   rw[hc]at this
   split
   ·rename_i f hf;exact absurd hf (eZ f)
   ·exact this
 ·rename_i hc
  have:=hs h
  split
  ·rename_i c hh;exact absurd hh (hc c)
  ·exact this
def gdW(s:S)(gd:Option (Nat×Bool))(A B:Prop):Prop:=
 match gd with
 |none=>A
 |some (d,want)=>match s.env d with
  | .d (.bool b)=>if b=want then A else B
  | .bP []=>B
  |_=>False
theorem z8{st:St}{gd:Option (Nat×Bool)}{t:Bool}(h:gdX st gd=some t){A B:Prop}(hA:t=true->A)(hB:t=false->B):gdW st.S gd A B:=by
 cases gd with
 |none=>simp only[gdX,Option.some.injEq]at h;exact hA h.symm
 |some p=>
  obtain⟨d,want⟩:=p
  have he:st.S.env d=st.env.get d:=rfl
  simp only[gdX]at h
  simp only[gdW,he]
  split at h
  ·rename_i b hb
   injection h with h
   by_cases e:b=want
   ·rw[if_pos e];exact hA (by rw[<- h,e];simp)
   ·rw[if_neg e];exact hB (by rw[<- h];simpa using e)
  ·rename_i hb
   injection h with h
   exact hB h.symm
  ·cases h
theorem OE{P:Program}{KB:List Nat->Fp->Prop}{pr:List (List Nat)}{o:bT}{l:List bT}{fr:Nat}{s:S}{fp:Fp}{bad ws:List Nat}(hb:(pr.getD fp.length []).any (fun j=>bad.contains j)=false)
 (h:gdW s o.gd (A1 P s fr o (fun v Δ rd=>ij P KB pr l (fr+1) ⟨aX s.env o.dst v,put s.o Δ,s.nx⟩ (fp++[(rd,Δ.map (·.1))]) bad (ws++Δ.map (·.1))) (fun _ _ _=>False)) (ij P KB pr l (fr+1) ⟨aX s.env o.dst (.bP []),s.o,s.nx⟩ (fp++[([],[])]) bad ws)):
 ij P KB pr (o::l) fr s fp bad ws:=by
 simp only[ij]
 rw[if_neg (by rw[hb];simp)]
 cases hg:o.gd with
 |none=>rw[hg]at h;exact h
 |some p=>obtain⟨d,want⟩:=p;rw[hg]at h;exact h
theorem OG{P:Program}{K:S->Fp->Prop}{KP:V->List Nat->Fp->Prop}{pr:List (List Nat)}{o:bT}{l:List bT}{fr:Nat}{s:S}{fp:Fp}
 (h:gdW s o.gd (A1 P s fr o (fun v Δ rd=>kJ P K KP pr l (fr+1) ⟨aX s.env o.dst v,put s.o Δ,s.nx⟩ (fp++[(rd,Δ.map (·.1))]))
  (fun v ws rd=>ij P (KP v) pr l (fr+1) ⟨aX s.env o.dst .aa,s.o,s.nx⟩ (fp++[(rd,[])]) [fp.length] (ws++fp.flatMap (·.2)))) (kJ P K KP pr l (fr+1) ⟨aX s.env o.dst (.bP []),s.o,s.nx⟩ (fp++[([],[])]))):
 kJ P K KP pr (o::l) fr s fp:=by
 simp only[kJ]
 cases hg:o.gd with
 |none=>rw[hg]at h;exact h
 |some p=>obtain⟨d,want⟩:=p;rw[hg]at h;exact h
theorem qJ(bc:P.follows .mixedOrders=true)(cJ:∀g,(bR g).Ok P g){rec:dC}(bD:eF P rec){pr:List (List Nat)}{wl:List Nat}{fp':Fp}{KB:List Nat->Fp->Prop}(hK:KB wl fp'):
 ∀ (l:List bT) (fr:Nat) (st:St) (fp:Fp) (bad ws:List Nat),vF P bR md rec pr l fr st fp bad ws=some (wl,fp')->ij P KB pr l fr st.S fp bad ws
 |[],fr,st,fp,bad,ws,h=>by
  simp only[vF,Option.some.injEq,Prod.mk.injEq]at h
  obtain⟨rfl,rfl⟩:=h;exact hK
 |o::l,fr,st,fp,bad,ws,h=>by
  simp only[vF,jo,ny]at h
  split at h
  ·rename_i hb
   simp only[ij]
   rw[if_pos hb]
   have:=qJ bc cJ bD hK l _ _ _ _ _ h
   exact J3
  ·rename_i hb
   refine OE hb ?_
   split at h
   ·rename_i hg
    refine z8 hg (fun _=> ?_) (fun h=>by cases h)
    split at h
    ·rename_i v Δ rd fV
     refine z7 bc cJ bD fV ?_
     have:=qJ bc cJ bD hK l _ _ _ _ _ h
     simp only[St.S,jj,jJ]at this
     exact this
    ·cases h
   ·rename_i hg
    refine z8 hg (fun h=>by cases h) (fun _=> ?_)
    have:=qJ bc cJ bD hK l _ _ _ _ _ h
    exact J3
   ·cases h
def DQ.to (K:S->Fp->Prop)(KP:V->List Nat->Fp->Prop):DQ->Prop
 | .fin st fp=>K st.S fp
 | .bJ v wl fp=>KP v wl fp
theorem nB(bc:P.follows .mixedOrders=true)(cJ:∀g,(bR g).Ok P g){rec:dC}(bD:eF P rec){pr:List (List Nat)}{q:DQ}{K:S->Fp->Prop}{KP:V->List Nat->Fp->Prop}(hq:q.to K KP):
 ∀ (l:List bT) (fr:Nat) (st:St) (fp:Fp),vG P bR md rec pr l fr st fp=some q->kJ P K KP pr l fr st.S fp
 |[],fr,st,fp,h=>by
  simp only[vG,Option.some.injEq]at h
  subst h;exact hq
 |o::l,fr,st,fp,h=>by
  simp only[vG,jo,ny,Nat.c9]at h
  refine OG ?_
  split at h
  ·rename_i hg
   refine z8 hg (fun _=> ?_) (fun h=>by cases h)
   split at h
   ·rename_i v Δ rd fV
    refine z7 bc cJ bD fV ?_
    have:=nB bc cJ bD hq l _ _ _ h
    simp only[St.S,jj,jJ]at this
    exact this
   ·rename_i v ws rd fV
    split at h
    ·rename_i wl fp' hb
     injection h with h;subst h
     refine z7 bc cJ bD fV ?_
     have:=qJ bc cJ bD (KB:=KP v) hq l _ _ _ _ _ hb
     exact J3
    ·cases h
   ·cases h
  ·rename_i hg
   refine z8 hg (fun h=>by cases h) (fun _=> ?_)
   have:=nB bc cJ bD hq l _ _ _ h
   exact J3
  ·cases h
theorem Aa{pr:List (List Nat)}{fp:Fp}(h:Lr pr fp=true):eO pr fp=true:=by
 unfold Lr at h
 split at h
 ·rename_i hq
  unfold quiet at hq
  have hz:∀i,(fp.getD i ([],[])).2=[]:=by
   intro i
   rw[List.getD_eq_getElem?_getD]
   cases hx:fp[i]? with
   |none=>rfl
   |some x=>
    have:=List.all_eq_true.1 hq x (List.mem_of_getElem? hx)
    simp only[Option.getD_some]
    split at this
    ·rename_i e;exact e
    ·cases this
  unfold eO
  simp only[hz,kC,List.all_nil,Bool.and_self,Bool.or_true]
  simp
 ·rw[GC]at h
  unfold eO
  rw[List.all_eq_true]
  intro j hj
  rw[List.all_eq_true]
  intro i hi
  exact CB fp [] h j (Nat.zero_le _) mL i (by simpa using hi)
theorem vH:∀ (l:List Nat) (k c:Nat),c<=k->c<=yl l k c/\∀i x,l[i]? =some x->yl l k c<=k+i->x=2^(k+i) - 1
 |[],_,c,_=>⟨Nat.le_refl _,fun i x h=>by simp at h⟩
 |y::l,k,c,hc=>by
  simp only[yl]
  split
  ·rename_i he
   obtain⟨h1,h2⟩:=vH l (k+1) c af
   refine⟨h1,fun i x hi hle=> ?_⟩
   cases i with
   |zero=>simp at hi;subst hi;simpa using Nat.eq_of_beq_eq_true he
   |succ i=>
    have:=h2 i x (by simpa using hi) af
    rw[this,show k+(i+1)=k+1+i by omega]
  ·obtain⟨h1,h2⟩:=vH l (k+1) (k+1) (Nat.le_refl _)
   refine⟨af,fun i x hi hle=> ?_⟩
   cases i with
   |zero=>omega
   |succ i=>
    have:=h2 i x (by simpa using hi) af
    rw[this,show k+(i+1)=k+1+i by omega]
theorem ym:∀ (pr:List (List Nat)) (acc:List Nat),(eG pr acc).length=acc.length+pr.length
 |[],acc=>by simp[eG]
 |ps::l,acc=>by simp only[eG,ym l,List.length_append,List.length_cons,List.length_nil];omega
theorem Lt(pr:List (List Nat)):Eu pr (qI pr)=true:=by
 refine List.all_eq_true.2 fun k hk=> ?_
 have hk:k<pr.length:=by simpa using hk
 by_cases h:k<qI pr
 ·simp[Nat.blt_eq.mpr h]
 ·have hl:k<(eG pr []).length:=by rw[ym];simpa using hk
  have:=(vH (eG pr []) 0 0 (Nat.le_refl _)).2 k _ (List.getElem?_eq_getElem hl) (by rw[Nat.zero_add];exact Nat.le_of_not_lt h)
  rw[Nat.zero_add]at this
  rw[List.getD_eq_getElem?_getD,List.getElem?_eq_getElem hl,Option.getD_some,this]
  simp
theorem OH(bc:P.follows .mixedOrders=true)(cJ:∀g,(bR g).Ok P g){rec:dC}(bD:eF P rec){l:List bT}{pr:List (List Nat)}{st st':St}{e:fH}(h:U6 P bR md rec l pr st=some (e,st')){Q:fH->S->Prop}(hQ:Q e st'.S):
 kJ P (Et pr (st.S.nx+l.length) Q) (B8 pr l st.S Q) pr l st.S.nx st.S []:=by
 unfold U6 at h
 split at h
 ·rename_i s1 fp hd
  split at h
  ·rename_i hf
   simp only[Nat.c9,Option.some.injEq,Prod.mk.injEq]at h
   obtain⟨rfl,rfl⟩:=h
   exact nB bc cJ bD (q:= .fin s1 fp) (K:=Et pr (st.S.nx+l.length) Q) (KP:=B8 pr l st.S Q) (show Et pr (st.S.nx+l.length) Q s1.S fp from⟨Aa hf,hQ⟩) l _ _ _ hd
  ·cases h
 ·rename_i v wl fp hd
  split at h
  ·rename_i hf
   simp only[Option.some.injEq,Prod.mk.injEq]at h
   obtain⟨rfl,rfl⟩:=h
   exact nB bc cJ bD (q:= .bJ v wl fp) (K:=Et pr (st.S.nx+l.length) Q) (KP:=B8 pr l st.S Q) (show B8 pr l st.S Q v wl fp from⟨Aa hf,hQ⟩) l _ _ _ hd
  ·cases h
 ·cases h
theorem OI(bc:P.follows .mixedOrders=true)(cJ:∀g,(bR g).Ok P g){rec:dC}(bD:eF P rec){n:Nat}{g:Operand}{ps:List Nat}{x y:IC}{st:St}{kt:Kt}{a:ek}(h:OC P bR rec n g ps x y st kt=some a){Q:fH->S->Prop}(hQ:∀e st',kt e st'=some a->Q e st'.S):
 BR P n (st.S.ev g) ps x y Q st.S:=by
 unfold OC at h
 refine⟨(List.range n).map st.env.get,fun i=> ?_, ?_⟩
 ·unfold aY
  simp only[List.getD_eq_getElem?_getD,List.getElem?_map]
  by_cases hi:i<n
  ·right;rw[List.getElem?_range hi];rfl
  ·left;rw[List.getElem?_eq_none (by simp;omega)];rfl
 ·split at h
  ·rename_i f first cap hv
   simp only[hv]
   refine .inl ?_
   have key:=fun {K X} hr=>nz (K:=K) (X:=X) bc cJ bD h hr
   simp only[Tr.gL]at key
   refine key fun r hr=> ?_
   unfold aa6 at hr
   cases r with
   |ret v o1 A0=>
    simp only at hr
    split at hr
    ·rename_i nf m e p c d RM pd ho
     have hl:RM≠ .busy:=by
      intro hb;subst hb;cases hr
     refine⟨nf,m,e,p,c,d,RM,pd,ho,hl, ?_⟩
     split at hr
     ·cases hr
     ·split at hr<;>(have h3:=hQ _ _ hr;simp only[qw];simp only[St.S,Tr.gL]at h3;exact h3)
    ·cases hr
   |bJ v o1 A0=>exact hQ _ _ hr
  ·cases h
theorem bI.same {b:Nat}{s:S}(h:b<=s.nx):bI b s s:=fun _ φ _ _ h1 h2=>⟨φ,h1,h2,fun _ h=>h,h,fun _ _ hr=>⟨hr,rfl⟩,fun _ e' _ he=>⟨e',he,Nat.le_refl _,fun _=>rfl⟩⟩
theorem Lu{x y:Option ek}{a:ek}(h:GD x y=some a):x=some a/\y=some a:=by
 unfold GD at h
 split at h
 ·rename_i r
  split at h
  ·rename_i r'
   split at h
   ·rename_i hs
    injection h with h;subst h
    rw[R.dY hs]
    exact⟨rfl,rfl⟩
   ·cases h
  ·cases h
 ·cases h
theorem Vd(bc:P.follows .mixedOrders=true)(cJ:∀g,(bR g).Ok P g):∀k,∀j,j<=k->eF P (run P bR md j):=by
 intro k
 induction k with
 |zero=>intro j hj b rd n ic st kt a h;obtain rfl:j=0:=af
        cases h
 |succ k ih=>
  intro j hj b rd n ic st kt a h Q hQ
  cases j with
  |zero=>cases h
  |succ j=>
   have bD:eF P (run P bR md j):=ih j af
   rw[Ls]at h
   cases ic with
   |skip=>exact hQ _ _ h
   |exit id=>exact hQ _ _ h
   |ret=>exact hQ _ _ h
   |bad=>cases h
   |ag l=>
    have h:zX P bR md (run P bR md j) (roX kt) l st=some a:=h
    exact uc bc cJ bD (K:=Q .normal) (X:=fun v s=>Q (.bJ v) s) (fun r hr=>by
     cases r with
     |ok U3=>exact hQ .normal _ hr
     |bJ v U3=>exact hQ (.bJ v) _ hr) l _ h
   |dO l pr=>
    have h:U7 l pr P bR md (run P bR md j) b rd n st kt=some a:=h
    unfold U7 at h
    rw[Nat.c9]at h
    split at h
    ·rename_i s1 fp hd
     split at h
     ·rename_i hf
      rw[Nat.c9]at h
      split at h
      ·rename_i HN
       refine .inr ⟨qI pr,Nat.le_of_ble_eq_true HN,Lt pr, ?_⟩
       refine nB bc cJ bD (q:= .fin s1 fp) (K:=fun s' fp=>eO pr fp=true/\pv P (fun v s=>Q (.bJ v) s) (Q .normal) (l.drop (qI pr)) ⟨s'.env,s'.o,st.S.nx+qI pr⟩) (KP:=fun _ _ _=>False) (show _/\_ from⟨Aa hf, ?_⟩) (l.take (qI pr)) _ _ _ hd
       exact uc bc cJ bD (K:=Q .normal) (X:=fun v s=>Q (.bJ v) s) (fun r hr=>by
        cases r with
        |ok U3=>exact hQ .normal _ hr
        |bJ v U3=>exact hQ (.bJ v) _ hr) (l.drop (qI pr)) ⟨s1.env,s1.o,st.nx+qI pr⟩ h
      ·cases h
     ·cases h
    ·split at h
     ·rename_i e s1 h1
      exact .inl (OH bc cJ bD h1 (hQ _ _ h))
     ·cases h
    ·cases h
   |seq x y=>
    have h:run P bR md j b rd n x st (ED (run P bR md j) b rd n y kt)=some a:=h
    simp only[tV]
    refine bD _ _ _ _ _ _ _ h _ fun e s1 he=> ?_
    unfold ED at he
    cases e with
    |normal=>exact bD _ _ _ _ _ _ _ he _ hQ
    |_=>exact hQ _ _ he
   |cond c x y=>
    have h:(match st.S.ev c with| .d (.bool true)=>run P bR md j b rd n x st kt| .d (.bool false)=>run P bR md j b rd n y st kt| .fw=>GD (run P bR md j b rd n x st kt) (run P bR md j b rd n y st kt)|_=>none)=some a:=h
    simp only[tV]
    split at h
    ·rename_i hv
     simp only[hv]
     exact(u6 _ _).mpr (bD _ _ _ _ _ _ _ h _ hQ)
    ·rename_i hv
     simp only[hv]
     exact(sZ _ _).mpr (bD _ _ _ _ _ _ _ h _ hQ)
    ·rename_i hv
     simp only[hv]
     obtain⟨h1,h2⟩:=Lu h
     exact⟨bD _ _ _ _ _ _ _ h1 _ hQ,bD _ _ _ _ _ _ _ h2 _ hQ⟩
    ·cases h
   |block id x=>
    have h:run P bR md j b rd n x st (EE id kt)=some a:=h
    simp only[tV]
    refine bD _ _ _ _ _ _ _ h _ fun e s1 he=> ?_
    unfold EE at he
    cases e with
    |exit j'=>
     simp only at he
     split at he
     ·rename_i hb
      simp only[fC,Nat.eq_of_beq_eq_true hb,if_true];exact hQ _ _ he
     ·rename_i hb
      simp only[fC,Nat.ne_of_beq_eq_false hb,if_false];exact hQ _ _ he
    |_=>exact hQ _ _ he
   |loop x=>
    have unf:∀m RQ,run P bR md (m+1) b rd n (.loop x) RQ kt=some a->b<=RQ.nx/\run P bR md m b rd n x RQ (ED (run P bR md m) b rd n (.loop x) kt)=some a:=by
     intro m RQ h
     have h:(match Nat.ble b RQ.nx with|true=>run P bR md m b rd n x RQ (ED (run P bR md m) b rd n (.loop x) kt)|false=>none)=some a:=h
     split at h
     ·rename_i hb;exact⟨Nat.le_of_ble_eq_true hb,h⟩
     ·cases h
    have h:run P bR md (j+1) b rd n (.loop x) st kt=some a:=h
    refine⟨fun m s=>m<=k+1/\∃st,s=st.S/\run P bR md m b rd n (.loop x) st kt=some a,⟨j+1,st.S,bI.same (unf j st h).1,hj,st,rfl,h⟩, ?_⟩
    rintro m s0 ⟨hm,RQ,rfl,h0⟩
    cases m with
    |zero=>cases h0
    |succ m=>
     have aa9:eF P (run P bR md m):=ih m af
     refine aa9 _ _ _ _ _ _ _ (unf m RQ h0).2 _ fun e s1 he=> ?_
     unfold ED at he
     cases e with
     |normal=>
      refine⟨m,s1.S,Nat.lt_succ_self _,bI.same ?_,af,s1,rfl,he⟩
      cases m with
      |zero=>cases he
      |succ m=>exact(unf m s1 he).1
     |_=>exact hQ _ _ he
   |Ji g ps x y=>
    cases rd with
    |true=>
     have h:(none:Option ek)=some a:=h
     cases h
    |false=>
     have h:OC P bR (run P bR md j) n g ps x y st kt=some a:=h
     exact⟨rfl,_, .inl rfl,OI bc cJ bD h hQ⟩
noncomputable def oD(P:Program)(bR:Nat->FD)(md:qH P)(k:Nat)(g:Nat)(ds:List D):Option R:=
 match Lh P bR (run P bR md k) g (ds.map .d) (.e fun _=> .no) 0 Cw with
 |some (.r x)=>some x
 |_=>none
theorem aW.gM (bc:P.follows .mixedOrders=true)(cJ:∀g,(bR g).Ok P g){k g:Nat}{ds:List D}{out:R}(h:oD P bR md k g ds=some out):aW P g ds out:=by
 unfold oD at h
 split at h
 ·rename_i x hr;injection h with h;subst h;exact Cy bc cJ (Vd bc cJ k k (Nat.le_refl _)) hr
 ·cases h
end
end
def Tr.GG {α:Type}(p:Nat->α->Prop):Tr α->(Nat->Nat)->Prop
 | .e g,f=>∀i,p (f i) (g i)
 | .n x l r,f=>p (f 0) x/\GG p l (fun i=>f (2*i+1))/\GG p r (fun i=>f (2*i+2))
theorem Tr.Ab {α:Type}{p:Nat->α->Prop}:∀ {f:Nat->Nat} (t:Tr α),t.GG p f->∀k,p (f k) (t.get k)
 |f, .e g,h,k=>h k
 |f, .n x l r,h,k=>by
  obtain⟨h1,h2,h3⟩:=h
  rw[Tr.vu]
  split
  ·rename_i e;subst e;exact h1
  ·split
   ·have:=Tr.Ab l h2 (k/2)
    rwa [show 2*(k/2)+1=k by omega]at this
   ·have:=Tr.Ab r h3 (k/2 - 1)
    rwa [show 2*(k/2 - 1)+2=k by omega]at this
end Go.Proofs.YtlhemmpklhhgoaaGreat
