/-
  A PART OF THE PROOF. Conditions: none.
-/
import Derived.Test.YtlhemmpklhhgoaaGreatQs10
set_option linter.unusedSimpArgs false
set_option linter.unusedVariables false
namespace Go.Proofs.YtlhemmpklhhgoaaGreat
section
inductive Tr (α:Type) where
 |e (f:Nat->α)
 |n (x:α) (l r:Tr α)
noncomputable def Tr.get {α:Type}(t:Tr α):Nat->α:=
 Tr.rec (motive:=fun _=>Nat->α) (fun f=>f) (fun x _ _ l r k=>Bool.rec (Bool.rec (r (Nat.sub (Nat.div k 2) 1)) (l (Nat.div k 2)) (Nat.beq (Nat.mod k 2) 1)) x (Nat.beq k 0)) t
theorem Tr.FM {α:Type}(f:Nat->α):(Tr.e f).get=f:=rfl
noncomputable def Tr.vn {α:Type}(x:α):Nat->Tr α->Nat->Tr α
 |0,t,k=> .e (az t.get k x)
 |d+1, .e f,k=>match Nat.beq k 0 with
  |true=> .n x (.e fun i=>f (2*i+1)) (.e fun i=>f (2*i+2))
  |false=>match Nat.beq (k%2) 1 with
   |true=> .n (f 0) (Tr.vn x d (.e fun i=>f (2*i+1)) (k/2)) (.e fun i=>f (2*i+2))
   |false=> .n (f 0) (.e fun i=>f (2*i+1)) (Tr.vn x d (.e fun i=>f (2*i+2)) (k/2 - 1))
 |d+1, .n y l r,k=>match Nat.beq k 0 with
  |true=> .n x l r
  |false=>match Nat.beq (k%2) 1 with
   |true=> .n y (Tr.vn x d l (k/2)) r
   |false=> .n y l (Tr.vn x d r (k/2 - 1))
noncomputable def Tr.set {α:Type}(t:Tr α)(k:Nat)(x:α):Tr α:=Tr.vn x 24 t k
theorem Tr.vo {α:Type}{x:α}{l r:Tr α}{k:Nat}:(Tr.n x l r).get k=if k=0 then x else if k%2=1 then l.get (k/2)else r.get (k/2 - 1):=by
 show @Bool.rec (fun _=>α) (@Bool.rec (fun _=>α) (r.get (k/2 - 1)) (l.get (k/2)) (Nat.beq (k%2) 1)) x (Nat.beq k 0)=_
 by_cases h:k=0
 ·subst h;rfl
 ·have:Nat.beq k 0=false:=by cases k with|zero=>exact absurd rfl h|succ k=>rfl
  simp only[this,h,if_false]
  by_cases h2:k%2=1
  ·simp[h2]
  ·have:Nat.beq (k%2) 1=false:=by
    cases hb:Nat.beq (k%2) 1 with
    |false=>rfl
    |true=>exact absurd (Nat.eq_of_beq_eq_true hb) h2
   simp[h2,this]
theorem Tr.nq {α:Type}(x:α):∀ (d:Nat) (t:Tr α) (k:Nat),(Tr.vn x d t k).get=az t.get k x
 |0,t,k=>rfl
 |d+1, .e f,k=>by
  funext i
  simp only[Tr.vn]
  have hb:∀a b:Nat,Nat.beq a b=decide (a=b):=fun a b=>by
   cases h:Nat.beq a b with
   |true=>simp[Nat.eq_of_beq_eq_true h]
   |false=>simp[Nat.ne_of_beq_eq_false h]
  rw[hb,hb]
  by_cases h:k=0
  ·subst h
   simp only[decide_true,Tr.vo,aH]
   by_cases hi:i=0
   ·simp[hi]
   ·simp only[hi,if_false]
    by_cases h2:i%2=1
    ·simp only[h2,if_true,Tr.FM];congr 1;omega
    ·simp only[h2,if_false,Tr.FM];congr 1;omega
  ·simp only[h,decide_false]
   by_cases hk:k%2=1
   ·simp only[hk,decide_true,Tr.vo,Tr.nq x d,aH,Tr.FM]
    by_cases hi:i=0
    ·exact E0
    ·simp only[hi,if_false]
     by_cases h2:i%2=1
     ·simp only[h2,if_true]
      have e1:2*(i/2)+1=i:=af
      rw[e1]
      by_cases e:i=k
      ·simp[e]
      ·exact ES
     ·simp only[h2,if_false]
      rw[if_neg (by intro e;subst e;exact h2 hk)]
      congr 1;omega
   ·simp only[hk,decide_false,Tr.vo,Tr.nq x d,aH,Tr.FM]
    by_cases hi:i=0
    ·exact E0
    ·simp only[hi,if_false]
     by_cases h2:i%2=1
     ·simp only[h2,if_true]
      rw[if_neg (by intro e;subst e;exact hk h2)]
      congr 1;omega
     ·simp only[h2,if_false]
      have e1:2*(i/2 - 1)+2=i:=af
      rw[e1]
      by_cases e:i=k
      ·simp[e]
      ·exact ES
 |d+1, .n y l r,k=>by
  funext i
  simp only[Tr.vn]
  have hb:∀a b:Nat,Nat.beq a b=decide (a=b):=fun a b=>by
   cases h:Nat.beq a b with
   |true=>simp[Nat.eq_of_beq_eq_true h]
   |false=>simp[Nat.ne_of_beq_eq_false h]
  rw[hb,hb]
  by_cases h:k=0
  ·subst h
   simp only[decide_true,Tr.vo,aH]
   by_cases hi:i=0
   ·simp[hi]
   ·simp[hi]
  ·simp only[h,decide_false]
   by_cases hk:k%2=1
   ·simp only[hk,decide_true,Tr.vo,Tr.nq x d,aH]
    by_cases hi:i=0
    ·exact E0
    ·simp only[hi,if_false]
     by_cases h2:i%2=1
     ·simp only[h2,if_true]
      by_cases e:i=k
      ·simp[e]
      ·exact ES
     ·simp only[h2,if_false]
      rw[if_neg (by intro e;subst e;exact h2 hk)]
   ·simp only[hk,decide_false,Tr.vo,Tr.nq x d,aH]
    by_cases hi:i=0
    ·exact E0
    ·simp only[hi,if_false]
     by_cases h2:i%2=1
     ·simp only[h2,if_true]
      rw[if_neg (by intro e;subst e;exact hk h2)]
     ·simp only[h2,if_false]
      by_cases e:i=k
      ·simp[e]
      ·exact ES
theorem Tr.gG {α:Type}(t:Tr α)(k:Nat)(x:α):(t.set k x).get=az t.get k x:=Tr.nq x 24 t k
noncomputable def Nat.fc {β:Type}(n:Nat)(c:Nat->β):β:=Nat.rec (motive:=fun _=>β) (c 0) (fun m _=>c (Nat.succ m)) n
theorem Nat.cR {β:Type}(n:Nat)(c:Nat->β):Nat.fc n c=c n:=by cases n<;>rfl
noncomputable def Int.fc {β:Type}(n:Int)(c:Int->β):β:=Int.rec (motive:=fun _=>β) (fun m=>Nat.fc m fun m=>c (.ofNat m)) (fun m=>Nat.fc m fun m=>c (.negSucc m)) n
theorem Int.cR {β:Type}(n:Int)(c:Int->β):Int.fc n c=c n:=by cases n<;>simp only[Int.fc,Nat.cR]
mutual
noncomputable def D.fc {β:Type}:D->(D->β)->β
 | .int k n,c=>Int.fc n fun n=>c (.int k n)
 | .bool b,c=>match b with|true=>c (.bool true)|false=>c (.bool false)
 | .agg l,c=>D.vq l fun l=>c (.agg l)
 | .sl l,c=>D.vq l fun l=>c (.sl l)
 | .iface t x,c=>D.fc x fun x=>c (.iface t x)
 | .str s,c=>c (.str s)
 | .eF,c=>c .eF
 | .lN,c=>c .lN
 | .ck,c=>c .ck
 | .fj,c=>c .fj
 | .mp ks vs,c=>D.vq ks fun ks=>D.vq vs fun vs=>c (.mp ks vs)
noncomputable def D.vq {β:Type}:List D->(List D->β)->β
 |[],c=>c []
 |x::xs,c=>D.fc x fun x=>D.vq xs fun xs=>c (x::xs)
end
mutual
theorem D.cR {β:Type}:∀ (x:D) (c:D->β),D.fc x c=c x
 | .int k n,c=>by simp only[D.fc,Int.cR]
 | .bool b,c=>by cases b<;>rfl
 | .agg l,c=>by simp only[D.fc,D.fg l]
 | .sl l,c=>by simp only[D.fc,D.fg l]
 | .iface t x,c=>by simp only[D.fc,D.cR x]
 | .mp ks vs,c=>by simp only[D.fc,D.fg ks,D.fg vs]
 | .str _,_| .eF,_| .lN,_| .ck,_| .fj,_=>by simp only[D.fc]
theorem D.fg {β:Type}:∀ (x:List D) (c:List D->β),D.vq x c=c x
 |[],c=>by simp only[D.vq]
 |x::xs,c=>by simp only[D.vq,D.cR x,D.fg xs]
end
mutual
noncomputable def V.fc {β:Type}:V->(V->β)->β
 | .d x,c=>D.fc x fun x=>c (.d x)
 | .agg l,c=>V.vq l fun l=>c (.agg l)
 | .bT l,c=>V.vq l fun l=>c (.bT l)
 | .ptr i o,c=>Nat.fc i fun i=>Nat.fc o fun o=>c (.ptr i o)
 | .osl i o,c=>Nat.fc i fun i=>Nat.fc o fun o=>c (.osl i o)
 | .pe a b i j k,c=>Nat.fc a fun a=>Nat.fc b fun b=>Nat.fc i fun i=>Nat.fc j fun j=>Nat.fc k fun k=>c (.pe a b i j k)
 | .pp l o,c=>D.vq l fun l=>Nat.fc o fun o=>c (.pp l o)
 | .func f a b,c=>V.vq a fun a=>V.vq b fun b=>c (.func f a b)
 | .iface t x,c=>V.fc x fun x=>c (.iface t x)
 | .q9 l,c=>D.vq l fun l=>c (.q9 l)
 | .xn i j k,c=>Nat.fc i fun i=>Nat.fc j fun j=>Nat.fc k fun k=>c (.xn i j k)
 | .mp i,c=>Nat.fc i fun i=>c (.mp i)
 | .j7 i,c=>Nat.fc i fun i=>c (.j7 i)
 | .aJ,c=>c .aJ
 | .aa,c=>c .aa
 | .fH,c=>c .fH
noncomputable def V.vq {β:Type}:List V->(List V->β)->β
 |[],c=>c []
 |x::xs,c=>V.fc x fun x=>V.vq xs fun xs=>c (x::xs)
end
mutual
theorem V.cR {β:Type}:∀ (x:V) (c:V->β),V.fc x c=c x
 | .d x,c=>by simp only[V.fc,D.cR]
 | .agg l,c=>by simp only[V.fc,V.fg l]
 | .bT l,c=>by simp only[V.fc,V.fg l]
 | .pp l o,c=>by simp only[V.fc,D.fg,Nat.cR]
 | .func f a b,c=>by simp only[V.fc,V.fg a,V.fg b]
 | .iface t x,c=>by simp only[V.fc,V.cR x]
 | .q9 l,c=>by simp only[V.fc,D.fg]
 | .ptr _ _,_| .osl _ _,_| .pe _ _ _ _ _,_| .xn _ _ _,_| .mp _,_| .j7 _,_| .aJ,_| .aa,_| .fH,_=>by simp only[V.fc,Nat.cR]
theorem V.fg {β:Type}:∀ (x:List V) (c:List V->β),V.vq x c=c x
 |[],c=>by simp only[V.vq]
 |x::xs,c=>by simp only[V.vq,V.cR x,V.fg xs]
end
section
variable {β:Type}
noncomputable def ZW(k:IntKind)(n:Int)(c:V->β):β:=Int.fc n fun n=>c (.d (.int k n))
noncomputable def ZX(b:Bool)(c:V->β):β:= @Bool.rec (fun _=>β) (c (.d (.bool false))) (c (.d (.bool true))) b
noncomputable def TE(x:D)(c:V->β):β:=D.fc x fun x=>c (.d x)
noncomputable def vD(x:D):(V->β)->β:=match x with| .int k n=>ZW k n| .bool b=>ZX b|x=>TE x
noncomputable def ZY(i o:Nat)(c:V->β):β:=Nat.fc i fun i=>Nat.fc o fun o=>c (.ptr i o)
noncomputable def ZZ(i o:Nat)(c:V->β):β:=Nat.fc i fun i=>Nat.fc o fun o=>c (.osl i o)
noncomputable def vPe(a b i j k:Nat)(c:V->β):β:=Nat.fc a fun a=>Nat.fc b fun b=>Nat.fc i fun i=>Nat.fc j fun j=>Nat.fc k fun k=>c (.pe a b i j k)
noncomputable def V.WD (v:V):(V->β)->β:=match v with| .d x=>vD x| .ptr i o=>ZY i o| .osl i o=>ZZ i o| .pe a b i j k=>vPe a b i j k|v=>V.fc v
theorem V.TF (v:V)(c:V->β):V.WD v c=c v:=by
 cases v
 case d x=>
  cases x
  case int k n=>simp only[V.WD,vD,ZW,Int.cR]
  case bool b=>cases b<;>rfl
  all_goals exact D.cR _ _
 case ptr i o=>simp only[V.WD,ZY,Nat.cR]
 case osl i o=>simp only[V.WD,ZZ,Nat.cR]
 case pe a b i j k=>simp only[V.WD,vPe,Nat.cR]
 all_goals exact V.cR _ _
end
noncomputable def WE{β:Type}:List (D×D)->(List (D×D)->β)->β
 |[],c=>c []
 |(a,b)::l,c=>D.fc a fun a=>D.fc b fun b=>WE l fun l=>c ((a,b)::l)
theorem Kg{β:Type}:∀ (x:List (D×D)) (c:List (D×D)->β),WE x c=c x
 |[],c=>rfl
 |(a,b)::l,c=>by simp only[WE,D.cR,Kg l]
noncomputable def ad.fc {β:Type}(x:ad)(c:ad->β):β:=
 match x with
 | .row cs=>V.vq cs fun cs=>c (.row cs)
 | .arr e t s es=>Nat.fc e fun e=>Nat.fc s fun s=>D.vq es fun es=>c (.arr e t s es)
 | .tw e es=>Nat.fc e fun e=>D.vq es fun es=>c (.tw e es)
 | .map kt vt l=>WE l fun l=>c (.map kt vt l)
 | .bU l=>WE l fun l=>c (.bU l)
 | .ra l last=>WE l fun l=>c (.ra l last)
 | .yI l pos=>Nat.fc pos fun pos=>c (.yI l pos)
 |x=>c x
theorem ad.cR {β:Type}(x:ad)(c:ad->β):ad.fc x c=c x:=by cases x<;>simp only[ad.fc,V.fg,D.fg,Nat.cR,Kg]
noncomputable def Tr.x7 {α β:Type}(x:α)(d:Nat):Tr α->Nat->(Tr α->β)->β:=
 Nat.rec (motive:=fun _=>Tr α->Nat->(Tr α->β)->β) (fun t k c=>c (.e (az t.get k x)))
  (fun _ ih t k c=>Tr.rec (motive:=fun _=>β) (fun f=>
   Bool.rec (Bool.rec (ih (.e fun i=>f (2*i+2)) (Nat.sub (Nat.div k 2) 1) fun r=>c (.n (f 0) (.e fun i=>f (2*i+1)) r)) (ih (.e fun i=>f (2*i+1)) (Nat.div k 2) fun l=>c (.n (f 0) l (.e fun i=>f (2*i+2)))) (Nat.beq (Nat.mod k 2) 1))
    (c (.n x (.e fun i=>f (2*i+1)) (.e fun i=>f (2*i+2)))) (Nat.beq k 0))
   (fun y l r _ _=>Bool.rec (Bool.rec (ih r (Nat.sub (Nat.div k 2) 1) fun r=>c (.n y l r)) (ih l (Nat.div k 2) fun l=>c (.n y l r)) (Nat.beq (Nat.mod k 2) 1)) (c (.n x l r)) (Nat.beq k 0)) t) d
theorem Tr.vr {α β:Type}(x:α):∀ (d:Nat) (t:Tr α) (k:Nat) (c:Tr α->β),Tr.x7 x d t k c=c (Tr.vn x d t k)
 |0,t,k,c=>rfl
 |d+1, .e f,k,c=>by
  show @Bool.rec (fun _=>β) (@Bool.rec (fun _=>β) (Tr.x7 x d (.e fun i=>f (2*i+2)) (k/2 - 1) fun r=>c (.n (f 0) (.e fun i=>f (2*i+1)) r)) (Tr.x7 x d (.e fun i=>f (2*i+1)) (k/2) fun l=>c (.n (f 0) l (.e fun i=>f (2*i+2)))) (Nat.beq (k%2) 1)) (c (.n x (.e fun i=>f (2*i+1)) (.e fun i=>f (2*i+2)))) (Nat.beq k 0)=_
  simp only[Tr.vn,Tr.vr x d]
  cases Nat.beq k 0
  ·cases Nat.beq (k%2) 1<;>rfl
  ·rfl
 |d+1, .n y l r,k,c=>by
  show @Bool.rec (fun _=>β) (@Bool.rec (fun _=>β) (Tr.x7 x d r (k/2 - 1) fun r=>c (.n y l r)) (Tr.x7 x d l (k/2) fun l=>c (.n y l r)) (Nat.beq (k%2) 1)) (c (.n x l r)) (Nat.beq k 0)=_
  simp only[Tr.vn,Tr.vr x d]
  cases Nat.beq k 0
  ·cases Nat.beq (k%2) 1<;>rfl
  ·rfl
noncomputable def Tr.TG {α β:Type}(t:Tr α)(k:Nat)(x:α)(c:Tr α->β):β:=Tr.x7 x 24 t k c
theorem Tr.FN {α β:Type}(t:Tr α)(k:Nat)(x:α)(c:Tr α->β):t.TG k x c=c (t.set k x):=Tr.vr x 24 t k c
structure St where
 env:Tr V
 o:Tr ad
 nx:Nat
noncomputable def St.S (st:St):S:=⟨st.env.get,st.o.get,st.nx⟩
noncomputable def HD(o:Tr ad)(Δ:List (Nat×ad)):Tr ad:=Δ.foldl (fun f x=>f.set x.1 x.2) o
noncomputable def ta(env:Tr V)(dst:Option Tmp)(v:V):Tr V:=match dst with|some d=>env.set d v|none=>env
noncomputable def vu{β:Type}(o:Tr ad):List (Nat×ad)->(Tr ad->β)->β
 |[],c=>c o
 |(i,x)::Δ,c=>ad.fc x fun x=>o.TG i x fun o=>vu o Δ c
theorem nr{β:Type}:∀ (Δ:List (Nat×ad)) (o:Tr ad) (c:Tr ad->β),vu o Δ c=c (HD o Δ)
 |[],o,c=>rfl
 |(i,x)::Δ,o,c=>by simp only[vu,ad.cR,Tr.FN,nr Δ];rfl
noncomputable def l7{β:Type}(env:Tr V)(dst:Option Tmp)(v:V)(c:Tr V->β):β:=match dst with|some d=>V.WD v fun v=>env.TG d v c|none=>c env
theorem jj{β:Type}(env:Tr V)(dst:Option Tmp)(v:V)(c:Tr V->β):l7 env dst v c=c (ta env dst v):=by
 cases dst<;>simp only[l7,ta,V.TF,Tr.FN]
theorem jG:∀ (Δ:List (Nat×ad)) (o:Tr ad),(HD o Δ).get=put o.get Δ
 |[],_=>rfl
 |x::Δ,o=>by
  simp only[HD,put,List.foldl_cons]
  have:=jG Δ (o.set x.1 x.2)
  simp only[HD,put]at this
  rw[this,Tr.gG]
theorem jd(env:Tr V)(dst:Option Tmp)(v:V):(ta env dst v).get=ba env.get dst v:=by
 cases dst<;>simp[ta,ba,Tr.gG]
section TH
def Qv(x:Operand)(_:Program)(s:S)(_:Nat):Option fK:=one (s.ev x)
def Z0(c a b:Operand)(_:Program)(s:S)(_:Nat):Option fK:=lZ (qu (s.ev c) (s.ev a) (s.ev b))
def TI(t:TypeId)(parts:Array (Nat×Operand))(P:Program)(s:S)(_:Nat):Option fK:=lZ (zd P t (parts.toList.map fun p=>(p.1,s.ev p.2)))
def BZ(t:TypeId)(len:Nat)(parts:Array (Nat×Operand))(P:Program)(s:S)(fr:Nat):Option fK:=fT P s.o fr t len (parts.toList.map fun p=>(p.1,s.ev p.2))
def Z1(t:TypeId)(x:Operand)(P:Program)(s:S)(_:Nat):Option fK:=m8 P s.o t (s.ev x)
def TJ(t:TypeId)(x v:Operand)(P:Program)(s:S)(_:Nat):Option fK:=rK P s.o t (s.ev x) (s.ev v)
def adB(x:Operand)(_:Program)(s:S)(_:Nat):Option fK:=lZ (je s.o (s.ev x))
noncomputable def Z2(op:BinOp):IntKind->Int->Int->Option V:=
 match op with
 | .add=>fun k a b=>some (.d (.int k (k.wrap (Int.add a b))))
 | .sub=>fun k a b=>some (.d (.int k (k.wrap (Int.sub a b))))
 | .mul=>fun k a b=>some (.d (.int k (k.wrap (Int.mul a b))))
 |op=>Bo op
theorem Ns(op:BinOp):Z2 op=Bo op:=by cases op<;>rfl
def asInt(x:V):Option (IntKind×Int):=match x with| .d (.int k a)=>some (k,a)|_=>none
def Kh(op:BinOp)(t:TypeId)(c:Bool)(x y:V)(P:Program)(o:Nat->ad):Option fK:=eZ P o op t c x y
noncomputable def Z3(op:BinOp)(t:TypeId)(x y:Operand)(P:Program)(s:S)(_:Nat):Option fK:=
 match asInt (s.ev x)with
 |some (k,a)=>match asInt (s.ev y)with
  |some (k',b)=>if k=k' then match Z2 op k a b with
   |some v=>some (v,[],[])
   |none=>Kh op t (isConst x||isConst y) (s.ev x) (s.ev y) P s.o
   else none
  |none=>Kh op t (isConst x||isConst y) (s.ev x) (s.ev y) P s.o
 |none=>Kh op t (isConst x||isConst y) (s.ev x) (s.ev y) P s.o
theorem B0{x:V}{k:IntKind}{a:Int}(h:asInt x=some (k,a)):x= .d (.int k a):=by
 unfold asInt at h;split at h
 ·injection h with h;cases h;rfl
 ·cases h
def D1(t:TypeId)(x:Operand)(f:Nat)(P:Program)(s:S)(_:Nat):Option fK:=lZ (gX P s.o t (s.ev x) f)
def D2(t:TypeId)(x i:Operand)(P:Program)(s:S)(_:Nat):Option fK:=gW P s.o t (s.ev x) (s.ev i)
def TK(op:Op)(P:Program)(s:S)(fr:Nat):Option fK:=gr P s fr op
noncomputable def Nu(op:Op):Program->S->Nat->Option fK:=
 match op with
 | .move x=>Qv x
 | .assign x=>Qv x
 | .pick c a b=>Z0 c a b
 | .build t parts=>TI t parts
 | .buildSlice t len parts=>BZ t len parts
 | .load t x=>Z1 t x
 | .store t x v=>TJ t x v
 | .nilCheck x=>adB x
 | .binOp op t x y _=>Z3 op t x y
 | .fieldAddr t x f=>D1 t x f
 | .indexAddr t x i=>D2 t x i
 |op=>TK op
theorem FO{op:Op}{P:Program}{s:S}{fr:Nat}{r:fK}(h:Nu op P s fr=some r):gr P s fr op=some r:=by
 cases op
 case binOp op t x y yt=>
  simp only[Nu,Z3,Ns]at h
  have e:gr P s fr (.binOp op t x y yt)=eZ P s.o op t (isConst x||isConst y) (s.ev x) (s.ev y):=rfl
  rw[e]
  split at h
  ·rename_i k a hx
   split at h
   ·rename_i k' b hy
    split at h
    ·rename_i hk
     split at h
     ·rename_i v hv
      unfold eZ zc
      simp only[B0 hx,B0 hy,if_pos hk,hv]
      exact h
     ·exact h
    ·cases h
   ·exact h
  ·exact h
 all_goals exact h
end TH
inductive FD where
 |fn (n:Nat) (ic:IC) (rs:List ResultVar)
 |dfr (n:Nat) (jr eR:IC) (g t:Nat) (eW:List Operand) (rs:List ResultVar) (m r r1:Nat) (x6:IC)
 |mpc
 |no
def FD.Ok (P:Program)(f:Nat):FD->Prop
 | .fn n ic rs=>aL P f n ic rs
 | .dfr n jr eR g t eW rs m r r1 x6=>FK P f n jr eR g t eW rs/\BU P g m r r1 x6
 | .mpc=>FL P f
 | .no=>True
inductive CR where
 |ret (v:V) (o:Tr ad) (nx:Nat)|bF (v:V) (o:Tr ad) (nx:Nat)
def CR.to (K X:V->(Nat->ad)->Nat->Prop):CR->Prop
 | .ret v o nx=>K v o.get nx
 | .bF v o nx=>X v o.get nx
inductive RO where
 |ok (st:St)|bF (v:V) (st:St)
def RO.to (K:S->Prop)(X:V->S->Prop):RO->Prop
 | .ok st=>K st.S
 | .bF v st=>X v st.S
inductive dX where
 |r (x:R)|c (x:CR)
abbrev Kt:=fk->St->Option dX
abbrev dv:=Nat->Bool->Nat->IC->St->Kt->Option dX
noncomputable def HE(P:Program)(rs:List ResultVar)(st:St)(kc:CR->Option dX):Option dX:=
 match lV P st.S rs with
 |some [v]=>kc (.ret v st.o st.nx)
 |some vs=>kc (.ret (.bT vs) st.o st.nx)
 |none=>none
noncomputable def Qw(P:Program)(rs:List ResultVar)(kc:CR->Option dX):Kt:=fun e st=>
 match e with
 | .normal=>HE P rs st kc
 | .ret=>HE P rs st kc
 | .bF v=>kc (.bF v st.o st.nx)
 | .exit _=>none
noncomputable def Ki(P:Program)(rs:List ResultVar)(kc:CR->Option dX)(env:Tr V):Kt:=fun e s4=>
 match e with
 | .normal=>HE P rs ⟨env,s4.o,s4.nx⟩ kc
 | .ret=>HE P rs ⟨env,s4.o,s4.nx⟩ kc
 |_=>none
def Z4:fk->Option V
 | .normal=>some (.d .eF)
 | .ret=>some (.d .eF)
 | .bF v=>some v
 | .exit _=>none
noncomputable def Kj(P:Program)(rec:dv)(rs:List ResultVar)(bI:List V)(m r r1:Nat)(x6:IC)(kc:CR->Option dX):Kt:=fun e s3=>
 match Z4 e with
 |some u=>if bI.length<=m then rec s3.nx true m x6 ⟨.e (az (az (cj bI) r u) r1 u),s3.o,s3.nx⟩ (Ki P rs kc s3.env)else none
 |none=>none
noncomputable def FP(P:Program)(rec:dv)(n t:Nat)(eR:IC)(g:Nat)(eW:List Operand)(rs:List ResultVar)(m r r1:Nat)(x6:IC)(kc:CR->Option dX):Kt:=fun e s1=>
 match e with
 | .normal=>rec s1.nx false n eR ⟨s1.env.set t (.func (.func g) [] (eW.map s1.S.ev)),s1.o,s1.nx⟩ (Kj P rec rs (eW.map s1.S.ev) m r r1 x6 kc)
 |_=>none
noncomputable def Kk(P:Program)(bO:Nat->FD)(rec:dv)(g:Nat)(args:List V)(o:Tr ad)(nx:Nat)(kc:CR->Option dX):Option dX:=
 match bO g with
 | .fn n ic rs=>if args.length<=n then rec nx false n ic ⟨.e (cj args),o,nx⟩ (Qw P rs kc)else none
 | .dfr n jr eR g t eW rs m r r1 x6=>if args.length<=n then rec nx true n jr ⟨.e (cj args),o,nx⟩ (FP P rec n t eR g eW rs m r r1 x6 kc)else none
 | .mpc=>match args with
   |[.mp id]=>match o.get id with
    | .map kt vt l=>kc (.ret (.mp nx) (o.set nx (.map kt vt l)) (nx+1))
    | .bU l=>kc (.ret (.mp nx) (o.set nx (.map 0 0 l)) (nx+1))
    |_=>none
   |_=>none
 | .no=>none
def vw:V->List V
 | .bT vs=>vs
 |v=>[v]
noncomputable def FQ(r:CR):Option R:=
 match r with
 | .ret v o _=>match v with
   | .bT [_]=>none
   |v=>match bZ o.get (vw v)with
    |some rs=>some (.ret rs)
    |none=>none
 | .bF v o _=>match dU o.get v with
   |some x=>some (.bF x)
   |none=>none
noncomputable def Z5{β:Type}(x:R)(c:R->β):β:=match x with| .ret l=>D.vq l fun l=>c (.ret l)| .bF d=>D.fc d fun d=>c (.bF d)
theorem D3{β:Type}(x:R)(c:R->β):Z5 x c=c x:=by cases x<;>simp only[Z5,D.fg,D.cR]
noncomputable def B2(r:CR):Option dX:=match FQ r with|some x=>Z5 x fun x=>some (.r x)|none=>none
theorem Kl{r:CR}{a:dX}(h:B2 r=some a):∃x,FQ r=some x/\a= .r x:=by
 unfold B2 at h
 split at h
 ·rename_i x hx;rw[D3]at h;injection h with h;exact⟨x,hx,h.symm⟩
 ·cases h
def Km(out:R)(o:Tr ad)(nx:Nat):CR:=
 match out with
 | .ret rs=> .ret (iP rs) o nx
 | .bF x=> .bF (.d x) o nx
structure qB (P:Program) where
 Z6:Nat->Bool
 fx:Nat->List D->Option R
 ok:∀g ds out,fx g ds=some out->a8 P g ds out
def Kn(l:List (Nat×List D×R))(g:Nat)(ds:List D):Option R:=
 match l with
 |[]=>none
 |x::l=>match Nat.beq x.1 g with
  |true=>match D.fQ x.2.1 ds with
   |true=>some x.2.2
   |false=>Kn l g ds
  |false=>Kn l g ds
theorem zG{P:Program}:∀ {l:List (Nat×List D×R)},(∀x∈l,a8 P x.1 x.2.1 x.2.2)->∀g ds out,Kn l g ds=some out->a8 P g ds out
 |[],_,_,_,_,h=>by cases h
 |x::l,hl,g,ds,out,h=>by
  simp only[Kn]at h
  split at h
  ·rename_i hg
   split at h
   ·rename_i hd
    injection h with h
    have:=hl x aF
    rw[Nat.eq_of_beq_eq_true hg,D.dx _ _ hd,h]at this
    exact this
   ·exact zG (fun y hy=>hl y lJ) g ds out h
  ·exact zG (fun y hy=>hl y lJ) g ds out h
def qB.of {P:Program}(Z6:Nat->Bool)(l:List (Nat×List D×R))(h:∀x∈l,a8 P x.1 x.2.1 x.2.2):qB P:=⟨Z6,Kn l,zG h⟩
noncomputable def Nv(P:Program)(bO:Nat->FD)(md:qB P)(rec:dv)(g:Nat)(ds:List D):Option R:=
 match md.fx g ds with
 |some out=>some out
 |none=>match Kk P bO rec g (ds.map .d) (.e fun _=> .no) 0 B2 with
  |some (.r x)=>some x
  |_=>none
noncomputable def Qx(out:R)(o:Tr ad)(nx:Nat)(args:List V)(kc:CR->Option dX):Option dX:=
 match out.flat with
 |true=>kc (Km out o (nx+1))
 |false=>match out.mV with
  |true=>kc (Km out (HD o (rv o.get (V.br args))) (nx+1))
  |false=>kc (Km out (HD o (bL o.get (V.br args))) (nx+1))
noncomputable def FR(P:Program)(bO:Nat->FD)(md:qB P)(rec:dv)(g:Nat)(args:List V)(o:Tr ad)(nx:Nat)(kc:CR->Option dX):Option dX:=
 match md.Z6 g,bZ o.get args with
 |true,some ds=>match Nv P bO md rec g ds with
  |some out=>Qx out o nx args kc
  |none=>none
 |_,_=>Kk P bO rec g args o nx kc
noncomputable def Ko(id:Nat)(kc:CR->Option dX):Kt:=fun e s2=>
 match e with
 | .bF v=>kc (.bF v s2.o s2.nx)
 |e=>match s2.o.get id with
  | .loop nf m en p c d _ _=>match e with
    | .normal=>kc (.ret (.d (.bool true)) (s2.o.set id (.loop nf m en p c d .ready none)) s2.nx)
    | .ret=>kc (.ret (.d (.bool false)) (s2.o.set id (.loop nf m en p c d .done (some .ret))) s2.nx)
    | .exit j=>kc (.ret (.d (.bool false)) (s2.o.set id (.loop nf m en p c d .done (some (.exit j)))) s2.nx)
    | .bF _=>none
  |_=>none
noncomputable def FT(rec:dv)(id nx n:Nat)(eR:IC)(kc:CR->Option dX):Kt:=fun e s1=>
 match e with
 | .normal=>match s1.o.get id with
   | .loop nf m en p c d .ready pd=>rec nx true n eR ⟨s1.env,s1.o.set id (.loop nf m en p c d .busy pd),s1.nx⟩ (Ko id kc)
   |_=>none
 | .bF v=>kc (.bF v s1.o s1.nx)
 |_=>none
noncomputable def TL(P:Program)(rec:dv)(id:Nat)(args:List V)(o:Tr ad)(nx:Nat)(kc:CR->Option dX):Option dX:=
 match o.get id with
 | .loop nf n env ps jr eR _ _=>if nf=P.funcs.size/\id<nx/\ps.all (fun t=>decide (t<n))=true/\args.length=ps.length then
  rec nx true n jr ⟨.e (pq (aX env) ps args),o,nx⟩ (FT rec id nx n eR kc)
   else none
 |_=>none
noncomputable def x8(P:Program)(st:St)(o:bP)(kr:RO->Option dX):Option dX:=
 match Nu o.op P st.S st.nx with
 |some (v,Δ,_)=>l7 st.env o.dst v fun e=>vu st.o Δ fun ob=>Nat.fc (st.nx+1) fun n=>kr (.ok ⟨e,ob,n⟩)
 |none=>none
noncomputable def Z7(st:St)(dst:Option Nat)(kr:RO->Option dX)(c:CR):Option dX:=
 match c with
 | .ret v o nx=>l7 st.env dst v fun e=>Nat.fc nx fun nx=>kr (.ok ⟨e,o,nx⟩)
 | .bF v o nx=>kr (.bF v ⟨st.env,o,nx⟩)
noncomputable def Kp(c:Call)(P:Program)(bO:Nat->FD)(md:qB P)(rec:dv)(st:St)(o:bP)(kr:RO->Option dX):Option dX:=
 match c.callee with
 | .value f=>match st.S.ev f with
   | .func (.func g) first cap=>FR P bO md rec g (first++c.args.toList.map st.S.ev++cap) st.o st.nx (Z7 st o.dst kr)
   | .j7 id=>TL P rec id (c.args.toList.map st.S.ev) st.o st.nx (Z7 st o.dst kr)
   |_=>none
 | .invoke r m=>match uR P m (st.S.ev r)with
   |some (g,y)=>FR P bO md rec g (y::c.args.toList.map st.S.ev) st.o st.nx (Z7 st o.dst kr)
   |none=>none
 |_=>x8 P st o kr
noncomputable def TM(x:Operand)(P:Program)(_:Nat->FD)(_:qB P)(_:dv)(st:St)(_:bP)(kr:RO->Option dX):Option dX:=
 match st.S.ev x with
 | .d (.iface t y)=>kr (.bF (.d (.iface t y)) st)
 | .iface t y=>kr (.bF (.iface t y) st)
 |_=>none
noncomputable def Z8(P:Program)(_:Nat->FD)(_:qB P)(_:dv)(st:St)(o:bP)(kr:RO->Option dX):Option dX:=x8 P st o kr
def R.same:R->R->Bool
 | .ret a, .ret b=>D.fQ a b
 | .bF a, .bF b=>a.same b
 |_,_=>false
theorem R.dQ {x y:R}(h:x.same y=true):x=y:=by
 cases x<;>cases y<;>simp only[R.same,Bool.false_eq_true]at h
 ·rw[D.dx _ _ h]
 ·rw[D.dQ _ _ h]
noncomputable def brX(f:Nat->Option dX):Nat->Option dX
 |0=>none
 |n+1=>match n with
  |0=>f 0
  |n=>match brX f n with
   |some (.r a)=>match f n with
    |some (.r b)=>match R.same a b with
     |true=>some (.r a)
     |false=>none
    |_=>none
   |_=>none
theorem Kq{f:Nat->Option dX}{a:dX}:∀ {n:Nat},brX f n=some a->∀i,i<n->f i=some a
 |0,h,_,_=>by cases h
 |1,h,i,hi=>by obtain rfl:i=0:=af
               exact h
 |n+2,h,i,hi=>by
  simp only[brX]at h
  split at h
  ·rename_i x hx
   split at h
   ·rename_i y hy
    split at h
    ·rename_i he
     have e:=R.dQ he
     subst e
     rw[<- h]
     by_cases e:i=n+1
     ·subst e;exact hy
     ·exact Kq hx i af
    ·cases h
   ·cases h
  ·cases h
noncomputable def Nw(st:St)(dst:Option Nat)(kr:RO->Option dX)(v:V)(Δ:List (Nat×ad)):Option dX:=
 l7 st.env dst v fun e=>vu st.o Δ fun ob=>Nat.fc (st.nx+1) fun n=>kr (.ok ⟨e,ob,n⟩)
noncomputable def Kr(x:Operand)(str:Bool)(P:Program)(_:Nat->FD)(_:qB P)(_:dv)(st:St)(o:bP)(kr:RO->Option dX):Option dX:=
 match oL st.o.get (st.S.ev x)with
 |some (id,l)=>match str with
  |true=>none
  |false=>match l with
   |[]=>Nw st o.dst kr (.bT [.d (.bool false)]) []
   |_=>brX (fun i=>match l[i]? with
    |some (k,x)=>Nw st o.dst kr (.bT [.d (.bool true), .d k, .d x]) [(id, .ra (l.eraseIdx i) (some (k,x)))]
    |none=>none) l.length
 |none=>x8 P st o kr
noncomputable def opK(op:Op):(P:Program)->(Nat->FD)->qB P->dv->St->bP->(RO->Option dX)->Option dX:=
 match op with
 | .call c=>Kp c
 | .panic x=>TM x
 | .next x str=>Kr x str
 |_=>Z8
noncomputable def opX(P:Program)(bO:Nat->FD)(md:qB P)(rec:dv)(st:St)(o:bP)(kr:RO->Option dX):Option dX:=opK o.op P bO md rec st o kr
noncomputable def roK(next:St->Option dX)(kr:RO->Option dX):RO->Option dX:=fun r=>match r with| .ok st=>next st| .bF v st=>kr (.bF v st)
noncomputable def zH(P:Program)(bO:Nat->FD)(md:qB P)(rec:dv)(kr:RO->Option dX):List bP->St->Option dX
 |[],st=>kr (.ok st)
 |o::l,st=>match(match o.gd with
   |none=>some true
   |some (d,want)=>match st.env.get d with
    | .d (.bool b)=>some (b==want)
    | .bT []=>some false
    |_=>none)with
  |some true=>opX P bO md rec st o (roK (zH P bO md rec kr l) kr)
  |some false=>l7 st.env o.dst (.bT []) fun e=>Nat.fc (st.nx+1) fun n=>zH P bO md rec kr l ⟨e,st.o,n⟩
  |none=>none
section
variable {P:Program}{bO:Nat->FD}{md:qB P}
noncomputable def ej(P:Program)(rec:dv):Prop:=∀b rd n ic st k a,rec b rd n ic st k=some a->∀Q:fk->S->Prop,(∀e st',k e st'=some a->Q e st'.S)->tY P n b rd ic Q st.S
theorem ue{rs:List ResultVar}{st:St}{kc:CR->Option dX}{a:dX}(h:HE P rs st kc=some a){K X:V->(Nat->ad)->Nat->Prop}(hr:∀r,kc r=some a->r.to K X):lX P rs K X .ret st.S:=by
 unfold HE at h
 unfold lX
 split at h
 ·rename_i v hv;simp only[hv];exact hr _ h
 ·rename_i vs hv hn
  simp only[hn]
  exact hr _ h
 ·cases h
theorem nu(bn:P.follows .mixedOrders=true)(cy:∀g,(bO g).Ok P g){rec:dv}(aY:ej P rec){g:Nat}{args:List V}{o:Tr ad}{nx:Nat}{kc:CR->Option dX}{a:dX}(h:Kk P bO rec g args o nx kc=some a){K X:V->(Nat->ad)->Nat->Prop}(hr:∀r,kc r=some a->r.to K X):
 cI P g args o.get nx K X:=by
 have aW:=cy g
 unfold Kk at h
 split at h
 ·rename_i n ic rs ht
  rw[ht]at aW
  split at h
  ·rename_i hl
   refine cI.vg bn aW hl ?_
   refine aY _ _ _ _ _ _ _ h _ fun e st he=> ?_
   unfold Qw at he
   cases e with
   |normal=>exact ue he hr
   |ret=>exact ue he hr
   |bF v=>exact hr _ he
   |exit j=>cases he
  ·cases h
 ·rename_i n jr eR g' t eW rs m r0 r1 x6 ht
  rw[ht]at aW
  split at h
  ·rename_i hl
   refine cI.BX bn aW.1 aW.2 hl (aY _ _ _ _ _ _ _ h _ fun e s1 he=> ?_)
   unfold FP at he
   cases e with
   |normal=>
    have hb:tY P n s1.nx false eR (zE P m r0 r1 x6 (eW.map s1.S.ev) rs K X) ⟨az s1.env.get t (.func (.func g') [] (eW.map s1.S.ev)),s1.o.get,s1.nx⟩:=by
     have:=aY _ _ _ _ _ _ _ he (zE P m r0 r1 x6 (eW.map s1.S.ev) rs K X) (fun e s3 WG=>by
      unfold Kj at WG
      split at WG
      ·rename_i u hu
       split at WG
       ·rename_i re
        have hrw:D0 P m r0 r1 x6 (eW.map s1.S.ev) u s3.o.get s3.nx fun o nx=>lX P rs K X .ret ⟨s3.env.get,o,nx⟩:=by
         refine⟨re,aY _ _ _ _ _ _ _ WG _ fun e4 s4 he4=> ?_⟩
         unfold Ki at he4
         cases e4 with
         |normal=>exact ue (st:=⟨s3.env,s4.o,s4.nx⟩) he4 hr
         |ret=>exact ue (st:=⟨s3.env,s4.o,s4.nx⟩) he4 hr
         |_=>cases he4
        cases e<;>simp only[Z4,Option.some.injEq,reduceCtorEq]at hu<;>subst hu<;>exact hrw
       ·cases WG
      ·cases WG)
     simp only[St.S,Tr.gG]at this
     exact this
    exact hb
   |_=>cases he
  ·cases h
 ·rename_i ht
  rw[ht]at aW
  split at h
  ·split at h
   ·rename_i kt vt l ho
    have h2:=hr _ h
    simp only[CR.to,Tr.gG]at h2
    exact cI.TD aW ho h2
   ·rename_i l ho
    have h2:=hr _ h
    simp only[CR.to,Tr.gG]at h2
    exact cI.Nr aW ho h2
   ·cases h
  ·cases h
 ·cases h
theorem Ks{r:CR}{out:R}(ho:FQ r=some out):r.to (fun v o _=>∃vs rs,v=(match vs with|[v]=>v|vs=> .bT vs)/\bZ o vs=some rs/\out= .ret rs) (fun v o _=>∃x,dU o v=some x/\out= .bF x):=by
 unfold FQ at ho
 split at ho
 ·rename_i v o nx
  split at ho
  ·cases ho
  ·rename_i hv
   split at ho
   ·rename_i rs YP
    injection ho with ho;subst ho
    refine⟨vw v,rs, ?_,YP,rfl⟩
    cases v with
    |bT vs=>
     match vs,hv with
     |[],_=>rfl
     |[x],hv=>exact absurd rfl (hv x)
     |_::_::_,_=>rfl
    |_=>rfl
   ·cases ho
 ·split at ho
  ·rename_i x hx
   injection ho with ho;subst ho
   exact⟨x,hx,rfl⟩
  ·cases ho
theorem B4(bn:P.follows .mixedOrders=true)(cy:∀g,(bO g).Ok P g){rec:dv}(aY:ej P rec){g:Nat}{ds:List D}{out:R}(h:Kk P bO rec g (ds.map .d) (.e fun _=> .no) 0 B2=some (.r out)):a8 P g ds out:=by
 refine a8.m7 (nu bn cy aY h fun r hr=> ?_)
 obtain⟨x,hx,he⟩:=Kl hr
 injection he with he;subst he
 exact Ks hx
theorem zI(bn:P.follows .mixedOrders=true)(cy:∀g,(bO g).Ok P g){rec:dv}(aY:ej P rec){g:Nat}{ds:List D}{out:R}(h:Nv P bO md rec g ds=some out):a8 P g ds out:=by
 unfold Nv at h
 split at h
 ·rename_i aeQ ho
  injection h with h;subst h
  exact md.ok _ _ _ ho
 ·split at h
  ·rename_i x hr;injection h with h;subst h;exact B4 bn cy aY hr
  ·cases h
theorem B5(bn:P.follows .mixedOrders=true)(cy:∀g,(bO g).Ok P g){rec:dv}(aY:ej P rec){g:Nat}{args:List V}{o:Tr ad}{nx:Nat}{kc:CR->Option dX}{a:dX}(h:FR P bO md rec g args o nx kc=some a){K X:V->(Nat->ad)->Nat->Prop}(hr:∀r,kc r=some a->r.to K X):
 PR P g args o.get nx K X:=by
 unfold FR at h
 split at h
 ·rename_i ds hmd eP
  split at h
  ·rename_i out BP
   have hP:=zI bn cy aY BP
   refine .inl ⟨ds,eP,out,hP, ?_⟩
   unfold Qx at h
   split at h
   ·rename_i hf
    refine .inr (.inl ⟨hf, ?_⟩)
    cases out<;>exact hr _ h
   ·split at h
    ·rename_i hf
     refine .inr (.inr ⟨hf, ?_⟩)
     rw[<- jG]
     cases out<;>exact hr _ h
    ·refine .inl ?_
     rw[<- jG]
     cases out<;>exact hr _ h
  ·cases h
 ·exact .inr (nu bn cy aY h hr)
theorem Nx(bn:P.follows .mixedOrders=true){rec:dv}(aY:ej P rec){id:Nat}{args:List V}{o:Tr ad}{nx:Nat}{kc:CR->Option dX}{a:dX}(h:TL P rec id args o nx kc=some a){K X:V->(Nat->ad)->Nat->Prop}(hr:∀r,kc r=some a->r.to K X):
 dB P id args o.get nx K X:=by
 unfold TL at h
 split at h
 ·rename_i nf n env ps jr eR st pd ho
  split at h
  ·rename_i hc
   obtain⟨rfl,b8,DZ,hl⟩:=hc
   refine dB.vg bn ho b8 DZ hl ?_
   refine aY _ _ _ _ _ _ _ h _ fun e s1 he=> ?_
   unfold FT at he
   cases e with
   |normal=>
    simp only at he
    split at he
    ·rename_i nf m en p c d pd mo
     refine⟨nf,m,en,p,c,d,pd,mo, ?_⟩
     have:=aY _ _ _ _ _ _ _ he (kP id K X) (fun e s2 h2=>by
      unfold Ko at h2
      split at h2
      ·exact hr _ h2
      ·rename_i PJ
       split at h2
       ·rename_i nf' m' en' p' c' d' st' pd' TN
        cases e with
        |bF v=>cases h2
        |normal=>have h3:=hr _ h2;simp only[CR.to,Tr.gG]at h3;exact⟨nf',m',en',p',c',d',st',pd',TN,h3⟩
        |ret=>have h3:=hr _ h2;simp only[CR.to,Tr.gG]at h3;exact⟨nf',m',en',p',c',d',st',pd',TN,h3⟩
        |exit j=>have h3:=hr _ h2;simp only[CR.to,Tr.gG]at h3;exact⟨nf',m',en',p',c',d',st',pd',TN,h3⟩
       ·cases h2)
     simp only[St.S,Tr.gG]at this
     exact this
    ·cases he
   |bF v=>exact hr _ he
   |_=>cases he
  ·cases h
 ·cases h
theorem vy{st:St}{o:bP}{kr:RO->Option dX}{a:dX}(h:x8 P st o kr=some a){K:S->Prop}{X:V->S->Prop}(hr:∀r,kr r=some a->r.to K X):match gr P st.S st.S.nx o.op with
 |some (v,Δ,_)=>K ⟨ba st.S.env o.dst v,put st.S.o Δ,st.S.nx+1⟩
 |none=>False:=by
 unfold x8 at h
 split at h
 ·rename_i v Δ rd he
  have he:=FO he
  simp only[jj,nr,Nat.cR]at h
  have hr:=hr _ h
  simp only[RO.to,St.S,jd,jG]at hr
  have pM:gr P st.S st.S.nx o.op=some (v,Δ,rd):=he
  simp only[pM]
  exact hr
 ·cases h
theorem FU{st:St}{dst:Option Nat}{kr:RO->Option dX}{v:V}{Δ:List (Nat×ad)}{a:dX}(h:Nw st dst kr v Δ=some a){K:S->Prop}{X:V->S->Prop}(hr:∀r,kr r=some a->r.to K X):K ⟨ba st.S.env dst v,put st.S.o Δ,st.S.nx+1⟩:=by
 unfold Nw at h
 simp only[jj,nr,Nat.cR]at h
 have hr:=hr _ h
 simp only[RO.to,St.S,jd,jG]at hr
 exact hr
theorem TO(bn:P.follows .mixedOrders=true)(cy:∀g,(bO g).Ok P g){rec:dv}(aY:ej P rec){st:St}{o:bP}{kr:RO->Option dX}{a:dX}(h:opX P bO md rec st o kr=some a){K:S->Prop}{X:V->S->Prop}(hr:∀r,kr r=some a->r.to K X):IF P st.S o X K:=by
 have cr:∀r,Z7 st o.dst kr r=some a->r.to (fun v o' nx'=>K ⟨ba st.S.env o.dst v,o',nx'⟩) (fun v o' nx'=>X v ⟨st.S.env,o',nx'⟩):=by
  intro r hx
  unfold Z7 at hx
  split at hx
  ·simp only[jj,Nat.cR]at hx
   have hr:=hr _ hx
   simp only[RO.to,St.S,jd]at hr
   exact hr
  ·exact hr _ hx
 unfold opX at h
 unfold IF
 cases fP:o.op
 case call c=>
  rw[fP]at h
  have h:Kp c P bO md rec st o kr=some a:=h
  unfold Kp at h
  cases hf:c.callee
  case value f=>
   simp only[hf]at h|-
   split at h
   ·rename_i g first cap hv
    simp only[hv]
    have:=B5 bn cy aY h cr
    rcases this with⟨ds,eP,hP⟩|hC
    ·have TP:bZ st.S.o (first++List.map st.S.ev c.args.toList++cap)=some ds:=eP
     simp only[TP]
     exact .inl hP
    ·split
     ·exact .inr (.inl hC)
     ·exact .inl hC
   ·rename_i id hv
    simp only[hv]
    exact Nx bn aY h cr
   ·cases h
  case invoke r m=>
   simp only[hf]at h|-
   split at h
   ·rename_i g y hv
    simp only[hv]
    exact B5 bn cy aY h cr
   ·cases h
  all_goals
   simp only[hf]at h|-
   have:=vy h hr
   rw[fP]at this
   exact this
 case panic x=>
  rw[fP]at h
  have h:TM x P bO md rec st o kr=some a:=h
  unfold TM at h
  split at h
  ·rename_i hv;simp only[hv];exact hr _ h
  ·rename_i hv;simp only[hv];exact hr _ h
  ·cases h
 case next x str=>
  rw[fP]at h
  have h:Kr x str P bO md rec st o kr=some a:=h
  unfold Kr at h
  have hl:oL st.S.o (st.S.ev x)=oL st.o.get (st.S.ev x):=rfl
  simp only[hl]
  split at h
  ·rename_i id l au
   simp only[au]
   cases str with
   |true=>cases h
   |false=>
    refine⟨rfl,fun e=> ?_,fun i k y e=> ?_⟩
    ·subst e
     exact FU h hr
    ·cases l with
     |nil=>simp at e
     |cons p l=>
      have:=Kq h i (List.getElem?_eq_some_iff.1 e).1
      rw[e]at this
      exact FU this hr
  ·rename_i au
   simp only[au]
   have:=vy h hr
   rw[fP]at this
   exact this
 all_goals
  have h2:x8 P st o kr=some a:=by rw[fP]at h;exact h
  have:=vy h2 hr
  rw[fP]at this
  exact this
theorem uf(bn:P.follows .mixedOrders=true)(cy:∀g,(bO g).Ok P g){rec:dv}(aY:ej P rec){kr:RO->Option dX}{a:dX}{K:S->Prop}{X:V->S->Prop}(hr:∀r,kr r=some a->r.to K X):∀ (l:List bP) (st:St),zH P bO md rec kr l st=some a->pk P X K l st.S
 |[],st,h=>hr (.ok st) h
 |o::l,st,h=>by
  simp only[zH,jj,Nat.cR]at h
  simp only[pk]
  have op:opX P bO md rec st o (roK (zH P bO md rec kr l) kr)=some a->IF P st.S o X (pk P X K l):=by
   intro h
   refine TO bn cy aY h fun r hrr=> ?_
   cases r with
   |ok TQ=>exact uf bn cy aY hr l TQ hrr
   |bF v TQ=>exact hr (.bF v TQ) hrr
  have sk:zH P bO md rec kr l ⟨ta st.env o.dst (.bT []),st.o,st.nx+1⟩=some a->pk P X K l ⟨ba st.S.env o.dst (.bT []),st.S.o,st.S.nx+1⟩:=by
   intro h
   have:=uf bn cy aY hr l _ h
   exact Jj
  cases hg:o.gd with
  |none=>simp only[hg]at h;exact op h
  |some p=>
   obtain⟨d,want⟩:=p
   simp only[hg]at h
   have he:st.S.env d=st.env.get d:=rfl
   simp only[he]
   cases hv:st.env.get d with
   |d x=>
    cases x with
    |bool b=>
     simp only[hv]at h|-
     by_cases e:b=want
     ·subst e
      simp only[beq_self_eq_true]at h
      rw[if_pos rfl];exact op h
     ·have:(b==want)=false:=by simpa using e
      rw[this]at h
      rw[if_neg e];exact sk h
    |_=>simp[hv]at h
   |bT vs=>
    cases vs with
    |nil=>simp only[hv]at h|-;exact sk h
    |cons a b9=>simp[hv]at h
   |_=>simp[hv]at h
end
end
section
mutual
def V.same:V->V->Bool
 | .d x, .d y=>x.same y
 | .aJ, .aJ=>true
 | .aa, .aa=>true
 | .agg a, .agg b=>V.fQ a b
 | .ptr i o, .ptr j p=>Nat.beq i j&&Nat.beq o p
 | .osl i o, .osl j p=>Nat.beq i j&&Nat.beq o p
 | .q9 a, .q9 b=>D.fQ a b
 | .iface t x, .iface u y=>Nat.beq t u&&x.same y
 | .mp i, .mp j=>Nat.beq i j
 |_,_=>false
def V.fQ:List V->List V->Bool
 |[],[]=>true
 |a::b9,b::bs=>a.same b&&V.fQ b9 bs
 |_,_=>false
end
mutual
theorem V.dQ:∀ (x y:V),x.same y=true->x=y
 | .d x,y,h=>by cases y<;>simp only[V.same,Bool.false_eq_true]at h;rw[D.dQ _ _ h]
 | .aJ,y,h=>by cases y<;>simp_all[V.same]
 | .aa,y,h=>by cases y<;>simp_all[V.same]
 | .agg a,y,h=>by cases y<;>simp only[V.same,Bool.false_eq_true]at h;rw[V.dx _ _ h]
 | .ptr i o,y,h=>by
   exact Yo
 | .osl i o,y,h=>by
   exact Yo
 | .q9 a,y,h=>by cases y<;>simp only[V.same,Bool.false_eq_true]at h;rw[D.dx _ _ h]
 | .iface t x,y,h=>by
   cases y<;>simp only[V.same,Bool.false_eq_true,Bool.and_eq_true]at h
   rw[Nat.eq_of_beq_eq_true h.1,V.dQ _ _ h.2]
 | .mp i,y,h=>by
   cases y<;>simp only[V.same,Bool.false_eq_true]at h
   rw[Nat.eq_of_beq_eq_true h]
 | .bT _,y,h| .pe _ _ _ _ _,y,h| .pp _ _,y,h| .func _ _ _,y,h| .xn _ _ _,y,h| .fH,y,h| .j7 _,y,h=>by simp[V.same]at h
theorem V.dx:∀ (x y:List V),V.fQ x y=true->x=y
 |[],y,h=>by cases y<;>simp_all[V.fQ]
 |a::b9,y,h=>by
  cases y<;>simp only[V.fQ,Bool.false_eq_true,Bool.and_eq_true]at h
  rw[V.dQ _ _ h.1,V.dx _ _ h.2]
end
def vz:List (D×D)->List (D×D)->Bool
 |[],[]=>true
 |(a,b)::l,(c,d)::m=>a.same c&&(b.same d&&vz l m)
 |_,_=>false
theorem vA:∀ (l m:List (D×D)),vz l m=true->l=m
 |[],m,h=>by cases m<;>simp_all[vz]
 |(a,b)::l,m,h=>by
  cases m with
  |nil=>simp[vz]at h
  |cons p m=>
   obtain⟨c,d⟩:=p
   simp only[vz,Bool.and_eq_true]at h
   rw[D.dQ _ _ h.1,D.dQ _ _ h.2.1,vA l m h.2.2]
noncomputable def ad.same:ad->ad->Bool
 | .no, .no=>true
 | .row a, .row b=>V.fQ a b
 | .arr e t s a, .arr f u r b=>Nat.beq e f&&Nat.beq t u&&Nat.beq s r&&D.fQ a b
 | .tw e a, .tw f b=>Nat.beq e f&&D.fQ a b
 | .map k v a, .map k' v' b=>Nat.beq k k'&&Nat.beq v v'&&vz a b
 | .bU a, .bU b=>vz a b
 | .yI a i, .yI b j=>a==b&&Nat.beq i j
 |_,_=>false
theorem ad.dQ {x y:ad}(h:x.same y=true):x=y:=by
 cases x<;>cases y<;>simp only[ad.same,Bool.false_eq_true,Bool.and_eq_true]at h
 ·rfl
 ·rw[V.dx _ _ h]
 ·rw[Nat.eq_of_beq_eq_true h.1.1.1,Nat.eq_of_beq_eq_true h.1.1.2,Nat.eq_of_beq_eq_true h.1.2,D.dx _ _ h.2]
 ·rw[Nat.eq_of_beq_eq_true h.1,D.dx _ _ h.2]
 ·rw[Nat.eq_of_beq_eq_true h.1.1,Nat.eq_of_beq_eq_true h.1.2,vA _ _ h.2]
 ·rw[vA _ _ h]
 ·rw[eq_of_beq h.1,Nat.eq_of_beq_eq_true h.2]
noncomputable def reach(o:Nat->ad):Nat->List Nat->List Nat->List Nat
 |0,_,seen=>seen
 |_+1,[],seen=>seen
 |n+1,id::todo,seen=>match seen.contains id with
  |true=>reach o n todo seen
  |false=>reach o n ((o id).refs++todo) (id::seen)
noncomputable def ez(o o1:Nat->ad):List Nat->List (Nat×ad)
 |[]=>[]
 |id::l=>match(o id).same (o1 id)with
  |true=>ez o o1 l
  |false=>(id,o1 id)::ez o o1 l
theorem iG{o o1:Nat->ad}:∀ (l:List Nat) (x:Nat×ad),x∈ez o o1 l->x.1∈l/\x.2=o1 x.1
 |[],x,h=>by simp[ez]at h
 |id::l,x,h=>by
  simp only[ez]at h
  split at h
  ·obtain⟨h1,h2⟩:=iG l x h;exact⟨List.mem_cons_of_mem _ h1,h2⟩
  ·rcases List.mem_cons.1 h with rfl|h
   ·exact⟨aF,rfl⟩
   ·obtain⟨h1,h2⟩:=iG l x h;exact⟨List.mem_cons_of_mem _ h1,h2⟩
theorem nv{o o1:Nat->ad}:∀ (l:List Nat) (id:Nat),id∈l->id∉(ez o o1 l).map (·.1)->o1 id=o id
 |[],id,h,_=>by simp at h
 |j::l,id,h,hn=>by
  simp only[ez]at hn
  split at hn
  ·rename_i hs
   rcases List.mem_cons.1 h with rfl|h
   ·exact(ad.dQ hs).symm
   ·exact nv l id h hn
  ·simp only[List.map_cons,List.mem_cons,not_or]at hn
   rcases List.mem_cons.1 h with rfl|h
   ·exact absurd rfl hn.1
   ·exact nv l id h hn.2
theorem B7{o1:Nat->ad}:∀ (Δ:List (Nat×ad)) (o:Nat->ad),(∀x∈Δ,x.2=o1 x.1)->∀id,id∈Δ.map (·.1)\/o id=o1 id->put o Δ id=o1 id
 |[],o,_,id,h=>by rcases h with h|h;· simp at h
                  ·exact h
 |x::Δ,o,hv,id,h=>by
  simp only[put,List.foldl_cons]
  refine B7 Δ (az o x.1 x.2) (fun y hy=>hv y (List.mem_cons_of_mem _ hy)) id ?_
  simp only[List.map_cons,List.mem_cons]at h
  simp only[aH]
  by_cases e:id=x.1
  ·right;rw[if_pos e,hv x (by simp),e]
  ·rcases h with(h|h)|h
   ·exact absurd h e
   ·exact .inl h
   ·right;rw[if_neg e];exact h
theorem tc{o o1:Nat->ad}{l:List Nat}{id:Nat}(h:id∈l):o1 id=put o (ez o o1 l) id:=by
 by_cases hm:id∈(ez o o1 l).map (·.1)
 ·exact(B7 _ o (fun x hx=>(iG l x hx).2) id (.inl hm)).symm
 ·rw[fV hm];exact nv l id h hm
inductive DR where
 |val (v:V) (Δ:List (Nat×ad)) (rd:List Nat)|bF (v:V) (ws rd:List Nat)
def DR.to (K:V->List (Nat×ad)->List Nat->Prop)(KX:V->List Nat->List Nat->Prop):DR->Prop
 | .val v Δ rd=>K v Δ rd
 | .bF v ws rd=>KX v ws rd
noncomputable def Z9(c:CR):Option dX:=some (.c c)
noncomputable def hX(P:Program)(bO:Nat->FD)(rec:dv)(g:Nat)(args:List V)(st:St):Option DR:=
 let rd:=reach st.o.get 2000 (V.aQ args) []
 match rd.all (fun id=>Nat.blt id st.nx&&(st.o.get id).refs.all rd.contains)&&(V.aQ args).all rd.contains with
 |true=>match Kk P bO rec g args (.e (DJ rd st.o.get)) st.nx Z9 with
  |some (.c (.ret v o1 _))=>match v with
   | .bT [_]=>none
   |v=>match bZ o1.get (vw v)with
    |some rs=>match(ez st.o.get o1.get rd).all (fun x=>x.2.refs.all rd.contains)&&(V.br (vw v)).all (fun id=> !rd.contains id)with
     |true=>some (.val (iP rs) (ez st.o.get o1.get rd) rd)
     |false=>none
    |none=>none
  |some (.c (.bF v o1 _))=>match dU o1.get v with
   |some x=>match(ez st.o.get o1.get rd).all (fun x=>x.2.refs.all rd.contains)&&v.ids.all (fun id=> !rd.contains id)with
    |true=>some (.bF (.d x) ((ez st.o.get o1.get rd).map (·.1)) rd)
    |false=>none
   |none=>none
  |_=>none
 |false=>none
noncomputable def cDX(P:Program)(bO:Nat->FD)(md:qB P)(rec:dv)(g:Nat)(args:List V)(st:St)(rd:List Nat):Option DR:=
 match bZ st.o.get args with
 |some ds=>match md.Z6 g with
  |false=>match Kk P bO rec g (ds.map .d) (.e fun _=> .no) 0 Z9 with
   |some (.c (.ret v _ _))=>match v.refs with
    |[]=>some (.val v (bL st.o.get (V.br args)) rd)
    |_=>none
   |_=>none
  |true=>match Nv P bO md rec g ds with
   |some (.ret rs)=>match D.jB rs with
    |true=>some (.val (iP rs) [] rd)
    |false=>some (.val (iP rs) (bL st.o.get (V.br args)) rd)
   |some (.bF x)=>match x.flat with
    |true=>some (.bF (.d x) [] rd)
    |false=>none
   |none=>none
 |none=>hX P bO rec g args st
noncomputable def sDX(P:Program)(st:St)(fr:Nat)(op:Op):Option DR:=
 match Nu op P st.S fr with
 |some (v,Δ,_)=>some (.val v Δ (oE st.S op))
 |none=>none
def V.adC:V->Bool
 | .mp _=>true
 |_=>false
def TR{P:Program}(md:qB P)(g:Nat)(args:List V):Bool:= !md.Z6 g&&args.any V.adC
def x9(args:List V):Option (List D):=
 match V.br args with
 |[]=>bZ (fun _=> .no) args
 |_=>none
noncomputable def Ny(P:Program)(t:TypeId)(c:CR):Option dX:=
 match c with
 | .ret v o1 _=>match v with
   | .osl j ep=>match o1.get j with
     | .arr e7 ty sz es=>match Nat.beq e7 ep with
       |true=>Z5 (.ret [.sl es, .int .i64 (ty:Nat), .int .i64 (sz:Nat)]) fun x=>some (.r x)
       |false=>none
     |_=>none
   | .aJ=>match bS P t with
     |some e=>match Nat.blt 0 (P.cellsOf e)with
      |true=>Z5 (.ret [.sl [], .int .i64 (e:Nat), .int .i64 (P.cellsOf e:Nat)]) fun x=>some (.r x)
      |false=>none
     |none=>none
   |_=>none
 |_=>none
noncomputable def TS(P:Program)(bO:Nat->FD)(rec:dv)(g:Nat)(t:TypeId)(args:List V)(st:St)(fr:Nat):Option DR:=
 match x9 args with
 |some ds=>match Kk P bO rec g (ds.map .d) (.e fun _=> .no) 0 (Ny P t)with
  |some (.r (.ret [.sl es, .int .i64 (.ofNat ty), .int .i64 (.ofNat sz)]))=>some (.val (.osl fr 0) [(fr, .arr 0 ty sz es)] [])
  |_=>none
 |none=>match bZ st.o.get args with
  |some ds=>match Kk P bO rec g (ds.map .d) (.e fun _=> .no) 0 (Ny P t)with
   |some (.r (.ret [.sl es, .int .i64 (.ofNat ty), .int .i64 (.ofNat sz)]))=>match D.jB es&&(V.br args).all (fun id=>Nat.blt id st.nx)with
    |true=>some (.val (.osl fr 0) [(fr, .arr 0 ty sz es)] (V.br args))
    |false=>none
   |_=>none
  |none=>none
noncomputable def Nz(P:Program)(bO:Nat->FD)(md:qB P)(rec:dv)(st:St)(fr:Nat)(op:Op):Option DR:=
 match op with
 | .call c=>match c.callee with
   | .value f=>match st.S.ev f with
     | .func (.func g) first cap=>match TR md g (first++c.args.toList.map st.S.ev++cap)with
       |true=>hX P bO rec g (first++c.args.toList.map st.S.ev++cap) st
       |false=>match cDX P bO md rec g (first++c.args.toList.map st.S.ev++cap) st (oE st.S (.call c))with
        |some r=>some r
        |none=>TS P bO rec g (c.argTypes.getD 0 0) (first++c.args.toList.map st.S.ev++cap) st fr
     |_=>none
   |_=>sDX P st fr (.call c)
 |op=>sDX P st fr op
noncomputable def gdX(st:St):Option (Nat×Bool)->Option Bool
 |none=>some true
 |some (d,want)=>match st.env.get d with
  | .d (.bool b)=>some (b==want)
  | .bT []=>some false
  |_=>none
noncomputable def vB(P:Program)(bO:Nat->FD)(md:qB P)(rec:dv)(pr:List (List Nat)):List bP->Nat->St->Fp->List Nat->List Nat->Option (List Nat×Fp)
 |[],_,_,fp,_,ws=>some (ws,fp)
 |o::l,fr,st,fp,bad,ws=>match(pr.getD fp.length []).any (fun j=>bad.contains j)with
  |true=>vB P bO md rec pr l (fr+1) ⟨ta st.env o.dst .aa,st.o,st.nx⟩ (fp++[([],[])]) (bad++[fp.length]) ws
  |false=>match gdX st o.gd with
   |some true=>match Nz P bO md rec st fr o.op with
    |some (.val v Δ rd)=>l7 st.env o.dst v fun e=>vu st.o Δ fun ob=>vB P bO md rec pr l (fr+1) ⟨e,ob,st.nx⟩ (fp++[(rd,Δ.map (·.1))]) bad (ws++Δ.map (·.1))
    |_=>none
   |some false=>vB P bO md rec pr l (fr+1) ⟨ta st.env o.dst (.bT []),st.o,st.nx⟩ (fp++[([],[])]) bad ws
   |none=>none
inductive DQ where
 |fin (st:St) (fp:Fp)|bF (v:V) (wl:List Nat) (fp:Fp)
noncomputable def vC(P:Program)(bO:Nat->FD)(md:qB P)(rec:dv)(pr:List (List Nat)):List bP->Nat->St->Fp->Option DQ
 |[],_,st,fp=>some (.fin st fp)
 |o::l,fr,st,fp=>match gdX st o.gd with
  |some true=>match Nz P bO md rec st fr o.op with
   |some (.val v Δ rd)=>l7 st.env o.dst v fun e=>vu st.o Δ fun ob=>Nat.fc (fr+1) fun fr=>vC P bO md rec pr l fr ⟨e,ob,st.nx⟩ (fp++[(rd,Δ.map (·.1))])
   |some (.bF v ws rd)=>match vB P bO md rec pr l (fr+1) ⟨ta st.env o.dst .aa,st.o,st.nx⟩ (fp++[(rd,[])]) [fp.length] (ws++fp.flatMap (·.2))with
    |some (wl,fp)=>some (.bF v wl fp)
    |none=>none
   |none=>none
  |some false=>l7 st.env o.dst (.bT []) fun e=>Nat.fc (fr+1) fun fr=>vC P bO md rec pr l fr ⟨e,st.o,st.nx⟩ (fp++[([],[])])
  |none=>none
noncomputable def quiet(fp:Fp):Bool:=fp.all fun x=>match x.2 with|[]=>true|_=>false
noncomputable def zJ(m:Nat)(x:List Nat×List Nat):Nat->Fp->Bool
 |_,[]=>true
 |i,y::l=>(match y.2,x.2 with
  |[],[]=>true
  |_,_=>m.testBit i||(kE y.2 x.1&&kE y.2 x.2&&kE x.2 y.1))&&zJ m x (i+1) l
noncomputable def FV(ms:List Nat)(pre:Fp):Nat->Fp->Bool
 |_,[]=>true
 |j,x::l=>zJ (ms.getD j 0) x 0 pre&&FV ms (pre++[x]) (j+1) l
noncomputable def nfc{β:Type}:List Nat->(List Nat->β)->β
 |[],c=>c []
 |x::xs,c=>Nat.fc x fun x=>nfc xs fun xs=>c (x::xs)
theorem Ku{β:Type}:∀ (x:List Nat) (c:List Nat->β),nfc x c=c x
 |[],c=>rfl
 |x::xs,c=>by simp only[nfc,Nat.cR,Ku xs]
noncomputable def NA{β:Type}:Fp->(Fp->β)->β
 |[],c=>c []
 |(a,b)::l,c=>nfc a fun a=>nfc b fun b=>NA l fun l=>c ((a,b)::l)
theorem FW{β:Type}:∀ (x:Fp) (c:Fp->β),NA x c=c x
 |[],c=>rfl
 |(a,b)::l,c=>by simp only[NA,Ku,FW l]
noncomputable def Kv(pr:List (List Nat))(fp:Fp):Bool:=match quiet fp with|true=>true|false=>NA fp fun fp=>FV (ek pr []) [] 0 fp
theorem ya{m:Nat}{x:List Nat×List Nat}:∀ (l:Fp) (i:Nat),zJ m x i l=true->∀k,k<l.length->(m.testBit (i+k)||(kE (l.getD k ([],[])).2 x.1&&kE (l.getD k ([],[])).2 x.2&&kE x.2 (l.getD k ([],[])).1))=true
 |[],i,_,k,hk=>by simp at hk
 |y::l,i,h,k,hk=>by
  simp only[zJ,Bool.and_eq_true]at h
  cases k with
  |zero=>
   have h1:=h.1
   simp only[List.getD_cons_zero,Nat.add_zero]
   split at h1
   ·rename_i e1 e2
    rw[e1,e2];simp[kE]
   ·exact h1
  |succ k=>
   have:=ya l (i+1) h.2 k (by simpa using hk)
   rw[List.getD_cons_succ,show i+(k+1)=i+1+k by omega]
   exact this
theorem B8{ms:List Nat}:∀ (l pre:Fp),FV ms pre pre.length l=true->∀j,pre.length<=j->j<(pre++l).length->∀i,i<j->
 ((ms.getD j 0).testBit i||(kE ((pre++l).getD i ([],[])).2 ((pre++l).getD j ([],[])).1&&kE ((pre++l).getD i ([],[])).2 ((pre++l).getD j ([],[])).2&&kE ((pre++l).getD j ([],[])).2 ((pre++l).getD i ([],[])).1))=true
 |[],pre,_,j,h1,h2,i,_=>by simp at h2;omega
 |x::l,pre,h,j,h1,h2,i,hi=>by
  simp only[FV,Bool.and_eq_true]at h
  by_cases e:j=pre.length
  ·subst e
   have:=ya pre 0 h.1 i hi
   have e1:(pre++x::l).getD pre.length ([],[])=x:=by simp[List.getD_eq_getElem?_getD]
   have e2:(pre++x::l).getD i ([],[])=pre.getD i ([],[]):=by simp[List.getD_eq_getElem?_getD,List.getElem?_append_left hi]
   rw[e1,e2]
   simpa using this
  ·have h3:=h.2
   have:=B8 l (pre++[x]) (by simpa using h3) j oY xi i hi
   simpa using this
noncomputable def TT(P:Program)(bO:Nat->FD)(md:qB P)(rec:dv)(l:List bP)(pr:List (List Nat))(st:St):Option (fk×St):=
 match vC P bO md rec pr l st.nx st []with
 |some (.fin s1 fp)=>match Kv pr fp with
  |true=>Nat.fc (st.nx+l.length) fun n=>some (.normal,⟨s1.env,s1.o,n⟩)
  |false=>none
 |some (.bF v wl fp)=>match Kv pr fp with
  |true=>some (.bF v,⟨.e (u5 (dstsOf l) wl l.length st.S).env, .e (u5 (dstsOf l) wl l.length st.S).o,st.nx+l.length⟩)
  |false=>none
 |none=>none
noncomputable def aaa(id:Nat)(env:Tr V)(kt:Kt)(c:CR):Option dX:=
 match c with
 | .ret _ o1 Ar=>match o1.get id with
   | .loop nf m e p c d WH pd=>match WH with
     | .busy=>none
     |_=>match pd with
      |none=>kt .normal ⟨env,o1.set id (.loop nf m e p c d .exhausted pd),Ar⟩
      |some .ret=>kt .ret ⟨env,o1.set id (.loop nf m e p c d .exhausted pd),Ar⟩
      |some (.exit j)=>kt (.exit j) ⟨env,o1.set id (.loop nf m e p c d .exhausted pd),Ar⟩
   |_=>none
 | .bF v o1 Ar=>kt (.bF v) ⟨env,o1,Ar⟩
noncomputable def NB(P:Program)(bO:Nat->FD)(rec:dv)(n:Nat)(g:Operand)(ps:List Nat)(x y:IC)(st:St)(kt:Kt):Option dX:=
 match st.S.ev g with
 | .func (.func f) first cap=>Kk P bO rec f (first++[.j7 st.nx]++cap) (st.o.set st.nx (.loop P.funcs.size n ((List.range n).map st.env.get) ps x y .ready none)) (st.nx+1) (aaa st.nx st.env kt)
 |_=>none
abbrev oQ:=(P:Program)->(Nat->FD)->qB P->dv->Nat->Bool->Nat->St->Kt->Option dX
noncomputable def roX(kt:Kt):RO->Option dX:=fun r=>match r with| .ok st=>kt .normal st| .bF v st=>kt (.bF v) st
noncomputable def adD(l:List bP):oQ:=fun P bO md rec _ _ _ st kt=>zH P bO md rec (roX kt) l st
def yc:List Nat->Nat->Nat->Nat
 |[],_,c=>c
 |x::l,k,c=>match Nat.beq x (2^k - 1)with
  |true=>yc l (k+1) c
  |false=>yc l (k+1) (k+1)
def qC(pr:List (List Nat)):Nat:=yc (ek pr []) 0 0
noncomputable def TU(l:List bP)(pr:List (List Nat)):oQ:=fun P bO md rec _ _ _ st kt=>
 Nat.fc (qC pr) fun m=>match vC P bO md rec pr (l.take m) st.nx st []with
 |some (.fin s1 fp)=>match Kv pr fp with
  |true=>Nat.fc (st.nx+m) fun n=>match Nat.ble m l.length with
   |true=>zH P bO md rec (roX kt) (l.drop m) ⟨s1.env,s1.o,n⟩
   |false=>none
  |false=>none
 |some (.bF _ _ _)=>match TT P bO md rec l pr st with
  |some (e,s1)=>kt e s1
  |none=>none
 |none=>none
noncomputable def D4(rec:dv)(b:Nat)(rd:Bool)(n:Nat)(y:IC)(kt:Kt):Kt:=fun e s1=>match e with| .normal=>rec b rd n y s1 kt|e=>kt e s1
noncomputable def adE(x y:IC):oQ:=fun _ _ _ rec b rd n st kt=>rec b rd n x st (D4 rec b rd n y kt)
noncomputable def FX(a c:Option dX):Option dX:=
 match a with
 |some (.r x)=>match c with
  |some (.r y)=>match R.same x y with
   |true=>some (.r x)
   |false=>none
  |_=>none
 |_=>none
noncomputable def aab(c:Operand)(x y:IC):oQ:=fun _ _ _ rec b rd n st kt=>match st.S.ev c with
 | .d (.bool true)=>rec b rd n x st kt
 | .d (.bool false)=>rec b rd n y st kt
 | .fH=>FX (rec b rd n x st kt) (rec b rd n y st kt)
 |_=>none
noncomputable def D5(id:Nat)(kt:Kt):Kt:=fun e s1=>match e with
 | .exit j=>match Nat.beq j id with
   |true=>kt .normal s1
   |false=>kt (.exit j) s1
 |e=>kt e s1
noncomputable def TV(id:Nat)(x:IC):oQ:=fun _ _ _ rec b rd n st kt=>rec b rd n x st (D5 id kt)
noncomputable def aac(x:IC):oQ:=fun _ _ _ rec b rd n st kt=>match Nat.ble b st.nx with
 |true=>rec b rd n x st (D4 rec b rd n (.loop x) kt)
 |false=>none
noncomputable def TW(e:fk):oQ:=fun _ _ _ _ _ _ _ st kt=>kt e st
noncomputable def adF:oQ:=fun _ _ _ _ _ _ _ _ _=>none
noncomputable def adG(g:Operand)(ps:List Nat)(x y:IC):oQ:=fun P bO _ rec _ rd n st kt=>match rd with
 |true=>none
 |false=>NB P bO rec n g ps x y st kt
noncomputable def Qy(ic:IC):oQ:=
 match ic with
 | .skip=>TW .normal
 | .ag l=>adD l
 | .dm l pr=>TU l pr
 | .seq x y=>adE x y
 | .cond c x y=>aab c x y
 | .block id x=>TV id x
 | .loop x=>aac x
 | .exit id=>TW (.exit id)
 | .ret=>TW .ret
 | .It g ps x y=>adG g ps x y
 | .bad=>adF
noncomputable def run(P:Program)(bO:Nat->FD)(md:qB P)(k:Nat):dv:=
 Nat.rec (motive:=fun _=>dv) (fun _ _ _ _ _ _=>none) (fun _ rec b rd n ic st kt=>Qy ic P bO md rec b rd n st kt) k
theorem Kw{P:Program}{bO:Nat->FD}{md:qB P}{k:Nat}:run P bO md (k+1)=fun b rd n ic st kt=>Qy ic P bO md (run P bO md k) b rd n st kt:=rfl
section
variable {P:Program}{bO:Nat->FD}{md:qB P}
theorem Qz(bn:P.follows .mixedOrders=true)(cy:∀g,(bO g).Ok P g){rec:dv}(aY:ej P rec){fr:Nat}{g:Nat}{args:List V}{st:St}{r:DR}(h:hX P bO rec g args st=some r){K:V->List (Nat×ad)->List Nat->Prop}{KX:V->List Nat->List Nat->Prop}(hr:r.to K KX):
 iR P g args st.S.o st.S.nx fr K KX:=by
 unfold hX at h
 simp only at h
 generalize mG:reach st.o.get 2000 (V.aQ args) []=rd at h
 split at h
 ·rename_i hc
  simp only[Bool.and_eq_true,List.all_eq_true]at hc
  obtain⟨TX,uM⟩:=hc
  have a1:∀id∈rd,id<st.nx:=fun id au=>Nat.le_of_ble_eq_true (TX id au).1
  have a2:∀id∈V.aQ args,id∈rd:=fun id au=>by simpa using uM id au
  have a3:∀id∈rd,∀j∈(st.o.get id).refs,j∈rd:=fun id au j hj=>by simpa using(TX id au).2 j hj
  have a0:rd.all (fun id=>decide (id<st.S.nx))=true:=List.all_eq_true.2 fun id au=>decide_eq_true (a1 id au)
  have key:∀ {r:CR} {a:CR},Z9 r=some (.c a)->r=a:=fun h=>by unfold Z9 at h;injection h with h;injection h
  split at h
  ·rename_i v o1 Ar hf
   split at h
   ·cases h
   ·rename_i v' pN
    split at h
    ·rename_i rs YP
     split at h
     ·rename_i TY
      injection h with h;subst h
      simp only[Bool.and_eq_true,List.all_eq_true]at TY
      refine⟨rd,_,a0, .inl ⟨rs,Aq.m7 a1 a2 a3 (fun x hx=>(iG rd x hx).1) (fun x hx j hj=>by simpa using TY.1 x hx j hj) (nu bn cy aY hf fun r rh=> ?_),hr⟩⟩
      rw[key rh]
      refine⟨fun id au=>tc au,vw v,rs, ?_,YP,rfl,fun id au=>by simpa using TY.2 id au⟩
      cases v with
      |bT vs=>
       match vs,pN with
       |[],_=>rfl
       |[x],hv=>exact absurd rfl (hv x)
       |_::_::_,_=>rfl
      |_=>rfl
     ·cases h
    ·cases h
  ·rename_i v o1 Ar hf
   split at h
   ·rename_i x hx
    split at h
    ·rename_i TY
     injection h with h;subst h
     simp only[Bool.and_eq_true,List.all_eq_true]at TY
     refine⟨rd,ez st.o.get o1.get rd,a0, .inr (.inl ⟨x,Aq.m7 a1 a2 a3 (fun x hx=>(iG rd x hx).1) (fun x hx j hj=>by simpa using TY.1 x hx j hj) (nu bn cy aY hf fun r rh=> ?_),hr⟩)⟩
     rw[key rh]
     exact⟨fun id au=>tc au,x,hx,rfl,fun id au=>by simpa using TY.2 id au⟩
    ·cases h
   ·cases h
  ·cases h
 ·cases h
theorem TZ(bn:P.follows .mixedOrders=true)(cy:∀g,(bO g).Ok P g){rec:dv}(aY:ej P rec){g:Nat}{args:List V}{st:St}{rd:List Nat}{ds:List D}(eP:bZ st.o.get args=some ds){r:DR}(h:cDX P bO md rec g args st rd=some r)
 {K:V->List (Nat×ad)->List Nat->Prop} {KX:V->List Nat->List Nat->Prop} (hr:r.to K KX):
 s7 P g ds (fun v=>K v (bL st.S.o (V.br args)) rd) (fun v=>K v [] rd) (fun v=>KX v [] rd):=by
 unfold cDX at h
 simp only[eP]at h
 split at h
 ·split at h
  ·rename_i v o1 Ar hr0
   split at h
   ·rename_i hrf
    injection h with h;subst h
    exact .inr (.inr ⟨v,Y8.m7 hrf (nu bn cy aY hr0 fun r rh=>by unfold Z9 at rh;injection rh with rh;injection rh with rh;rw[rh];exact rfl),hr⟩)
   ·cases h
  ·cases h
 ·split at h
  ·rename_i rs BP
   have hP:=zI bn cy aY BP
   split at h
   ·rename_i hf
    injection h with h;subst h
    exact .inl ⟨rs,hP, .inr ⟨hf,hr⟩⟩
   ·injection h with h;subst h
    exact .inl ⟨rs,hP, .inl hr⟩
  ·rename_i x BP
   have hP:=zI bn cy aY BP
   split at h
   ·rename_i hf
    injection h with h;subst h
    exact .inr (.inl ⟨x,hP,hf,hr⟩)
   ·cases h
  ·cases h
theorem FY{t ty:TypeId}{sz:Nat}{es:List D}{r:CR}(h:Ny P t r=some (.r (.ret [.sl es, .int .i64 (.ofNat ty), .int .i64 (.ofNat sz)]))):
 r.to (fun v o1 _=>(∃j ep,v= .osl j ep/\o1 j= .arr ep ty sz es)\/(v= .aJ/\es=[]/\0<sz)) (fun _ _ _=>False):=by
 unfold Ny at h
 split at h
 ·rename_i v o1 n1
  split at h
  ·rename_i j ep
   split at h
   ·rename_i e7 ty' rb es' ho
    split at h
    ·rename_i he
     have he:=Nat.eq_of_beq_eq_true he
     subst he
     rw[D3]at h
     simp only[Option.some.injEq,dX.r.injEq,R.ret.injEq,List.cons.injEq,D.sl.injEq,D.int.injEq,true_and,and_true]at h
     obtain⟨rfl,h2,h3⟩:=h
     have h2:ty'=ty:=Int.ofNat.inj h2
     have h3:rb=sz:=Int.ofNat.inj h3
     subst h2;subst h3
     exact .inl ⟨j,e7,rfl,ho⟩
    ·cases h
   ·cases h
  ·split at h
   ·rename_i e he
    split at h
    ·rename_i hp
     rw[D3]at h
     simp only[Option.some.injEq,dX.r.injEq,R.ret.injEq,List.cons.injEq,D.sl.injEq,D.int.injEq,true_and,and_true]at h
     obtain⟨rfl,h2,h3⟩:=h
     have h3:P.cellsOf e=sz:=Int.ofNat.inj h3
     subst h3
     exact .inr ⟨rfl,rfl,Nat.blt_eq.mp hp⟩
    ·cases h
   ·cases h
  ·cases h
 ·cases h
theorem NC(bn:P.follows .mixedOrders=true)(cy:∀g,(bO g).Ok P g){rec:dv}(aY:ej P rec){fr:Nat}{g:Nat}{t:TypeId}{args:List V}{st:St}{r:DR}(h:TS P bO rec g t args st fr=some r){K:V->List (Nat×ad)->List Nat->Prop}{KX:V->List Nat->List Nat->Prop}(hr:r.to K KX):
 iR P g args st.S.o st.S.nx fr K KX:=by
 unfold TS at h
 split at h
 ·rename_i ds eP
  split at h
  ·rename_i es ty sz hr0
   injection h with h;subst h
   unfold x9 at eP
   split at eP
   ·rename_i au
    exact⟨[],_,aF, .inr (.inr ⟨_,DK.Nq au eP (DK.TA (nu bn cy aY hr0 fun r rh=>FY rh)),hr⟩)⟩
   ·cases eP
  ·cases h
 ·split at h
  ·rename_i ds eP
   split at h
   ·rename_i es ty sz hr0
    split at h
    ·rename_i hc
     injection h with h;subst h
     simp only[Bool.and_eq_true]at hc
     refine⟨V.br args,_, ?_, .inr (.inr ⟨_,DK.Np eP hc.1 (nu bn cy aY hr0 fun r rh=>FY rh),hr⟩)⟩
     exact List.all_eq_true.2 fun id au=>decide_eq_true (Nat.blt_eq.mp (List.all_eq_true.1 hc.2 id au))
    ·cases h
   ·cases h
  ·cases h
theorem zK(bn:P.follows .mixedOrders=true)(cy:∀g,(bO g).Ok P g){rec:dv}(aY:ej P rec){st:St}{fr:Nat}{o:bP}{r:DR}(h:Nz P bO md rec st fr o.op=some r){K:V->List (Nat×ad)->List Nat->Prop}{KX:V->List Nat->List Nat->Prop}(hr:r.to K KX):
 As P st.S fr o K KX:=by
 have hs:sDX P st fr o.op=some r->(match gr P st.S fr o.op with|some (v,Δ,_)=>K v Δ (oE st.S o.op)|none=>False):=by
  intro h
  unfold sDX at h
  split at h
  ·rename_i v Δ rd he
   injection h with h;subst h
   simp only[FO he]
   exact hr
  ·cases h
 unfold Nz at h
 unfold As
 split at h
 ·rename_i c hc
  simp only[hc]
  split at h
  ·rename_i f hf
   simp only[hf]
   split at h
   ·rename_i g first cap hv
    simp only[hv]
    split at h
    ·have hh:=Qz bn cy aY h hr (fr:=fr)
     split
     ·exact .inr hh
     ·exact hh
    split at h
    ·rename_i r' SA
     injection h with h;subst h
     cases eP:bZ st.S.o (first++List.map st.S.ev c.args.toList++cap)with
     |some ds=>exact .inl (TZ bn cy aY eP SA hr)
     |none=>
      have TP:bZ st.o.get (first++List.map st.S.ev c.args.toList++cap)=none:=eP
      unfold cDX at SA
      simp only[TP]at SA
      exact Qz bn cy aY SA hr
    ·have hh:=NC bn cy aY (st:=st) h hr
     split
     ·exact .inr hh
     ·exact hh
   ·cases h
  ·rename_i eN
   rw[<- hc]at h
   have:=hs h
   rw[hc]at this
   split
   ·rename_i f hf;exact absurd hf (eN f)
   ·exact this
 ·rename_i hc
  have:=hs h
  split
  ·rename_i c hh;exact absurd hh (hc c)
  ·exact this
def gdW(s:S)(gd:Option (Nat×Bool))(A B:Prop):Prop:=
 match gd with
 |none=>A
 |some (d,want)=>match s.env d with
  | .d (.bool b)=>if b=want then A else B
  | .bT []=>B
  |_=>False
theorem zL{st:St}{gd:Option (Nat×Bool)}{t:Bool}(h:gdX st gd=some t){A B:Prop}(hA:t=true->A)(hB:t=false->B):gdW st.S gd A B:=by
 cases gd with
 |none=>simp only[gdX,Option.some.injEq]at h;exact hA h.symm
 |some p=>
  obtain⟨d,want⟩:=p
  have he:st.S.env d=st.env.get d:=rfl
  simp only[gdX]at h
  simp only[gdW,he]
  split at h
  ·rename_i b hb
   injection h with h
   by_cases e:b=want
   ·rw[if_pos e];exact hA (by rw[<- h,e];simp)
   ·rw[if_neg e];exact hB (by rw[<- h];simpa using e)
  ·rename_i hb
   injection h with h
   exact hB h.symm
  ·cases h
theorem ND{P:Program}{KB:List Nat->Fp->Prop}{pr:List (List Nat)}{o:bP}{l:List bP}{fr:Nat}{s:S}{fp:Fp}{bad ws:List Nat}(hb:(pr.getD fp.length []).any (fun j=>bad.contains j)=false)
 (h:gdW s o.gd (As P s fr o (fun v Δ rd=>gZ P KB pr l (fr+1) ⟨ba s.env o.dst v,put s.o Δ,s.nx⟩ (fp++[(rd,Δ.map (·.1))]) bad (ws++Δ.map (·.1))) (fun _ _ _=>False)) (gZ P KB pr l (fr+1) ⟨ba s.env o.dst (.bT []),s.o,s.nx⟩ (fp++[([],[])]) bad ws)):
 gZ P KB pr (o::l) fr s fp bad ws:=by
 simp only[gZ]
 rw[if_neg (by rw[hb];simp)]
 cases hg:o.gd with
 |none=>rw[hg]at h;exact h
 |some p=>obtain⟨d,want⟩:=p;rw[hg]at h;exact h
theorem NF{P:Program}{K:S->Fp->Prop}{KP:V->List Nat->Fp->Prop}{pr:List (List Nat)}{o:bP}{l:List bP}{fr:Nat}{s:S}{fp:Fp}
 (h:gdW s o.gd (As P s fr o (fun v Δ rd=>kK P K KP pr l (fr+1) ⟨ba s.env o.dst v,put s.o Δ,s.nx⟩ (fp++[(rd,Δ.map (·.1))]))
  (fun v ws rd=>gZ P (KP v) pr l (fr+1) ⟨ba s.env o.dst .aa,s.o,s.nx⟩ (fp++[(rd,[])]) [fp.length] (ws++fp.flatMap (·.2)))) (kK P K KP pr l (fr+1) ⟨ba s.env o.dst (.bT []),s.o,s.nx⟩ (fp++[([],[])]))):
 kK P K KP pr (o::l) fr s fp:=by
 simp only[kK]
 cases hg:o.gd with
 |none=>rw[hg]at h;exact h
 |some p=>obtain⟨d,want⟩:=p;rw[hg]at h;exact h
theorem qD(bn:P.follows .mixedOrders=true)(cy:∀g,(bO g).Ok P g){rec:dv}(aY:ej P rec){pr:List (List Nat)}{wl:List Nat}{fp':Fp}{KB:List Nat->Fp->Prop}(hK:KB wl fp'):
 ∀ (l:List bP) (fr:Nat) (st:St) (fp:Fp) (bad ws:List Nat),vB P bO md rec pr l fr st fp bad ws=some (wl,fp')->gZ P KB pr l fr st.S fp bad ws
 |[],fr,st,fp,bad,ws,h=>by
  simp only[vB,Option.some.injEq,Prod.mk.injEq]at h
  obtain⟨rfl,rfl⟩:=h;exact hK
 |o::l,fr,st,fp,bad,ws,h=>by
  simp only[vB,jj,nr]at h
  split at h
  ·rename_i hb
   simp only[gZ]
   rw[if_pos hb]
   have:=qD bn cy aY hK l _ _ _ _ _ h
   exact Jj
  ·rename_i hb
   refine ND hb ?_
   split at h
   ·rename_i hg
    refine zL hg (fun _=> ?_) (fun h=>by cases h)
    split at h
    ·rename_i v Δ rd fP
     refine zK bn cy aY fP ?_
     have:=qD bn cy aY hK l _ _ _ _ _ h
     simp only[St.S,jd,jG]at this
     exact this
    ·cases h
   ·rename_i hg
    refine zL hg (fun h=>by cases h) (fun _=> ?_)
    have:=qD bn cy aY hK l _ _ _ _ _ h
    exact Jj
   ·cases h
def DQ.to (K:S->Fp->Prop)(KP:V->List Nat->Fp->Prop):DQ->Prop
 | .fin st fp=>K st.S fp
 | .bF v wl fp=>KP v wl fp
theorem nw(bn:P.follows .mixedOrders=true)(cy:∀g,(bO g).Ok P g){rec:dv}(aY:ej P rec){pr:List (List Nat)}{q:DQ}{K:S->Fp->Prop}{KP:V->List Nat->Fp->Prop}(hq:q.to K KP):
 ∀ (l:List bP) (fr:Nat) (st:St) (fp:Fp),vC P bO md rec pr l fr st fp=some q->kK P K KP pr l fr st.S fp
 |[],fr,st,fp,h=>by
  simp only[vC,Option.some.injEq]at h
  subst h;exact hq
 |o::l,fr,st,fp,h=>by
  simp only[vC,jj,nr,Nat.cR]at h
  refine NF ?_
  split at h
  ·rename_i hg
   refine zL hg (fun _=> ?_) (fun h=>by cases h)
   split at h
   ·rename_i v Δ rd fP
    refine zK bn cy aY fP ?_
    have:=nw bn cy aY hq l _ _ _ h
    simp only[St.S,jd,jG]at this
    exact this
   ·rename_i v ws rd fP
    split at h
    ·rename_i wl fp' hb
     injection h with h;subst h
     refine zK bn cy aY fP ?_
     have:=qD bn cy aY (KB:=KP v) hq l _ _ _ _ _ hb
     exact Jj
    ·cases h
   ·cases h
  ·rename_i hg
   refine zL hg (fun h=>by cases h) (fun _=> ?_)
   have:=nw bn cy aY hq l _ _ _ h
   exact Jj
  ·cases h
theorem zM{pr:List (List Nat)}{fp:Fp}(h:Kv pr fp=true):eE pr fp=true:=by
 unfold Kv at h
 split at h
 ·rename_i hq
  unfold quiet at hq
  have hz:∀i,(fp.getD i ([],[])).2=[]:=by
   intro i
   rw[List.getD_eq_getElem?_getD]
   cases hx:fp[i]? with
   |none=>rfl
   |some x=>
    have:=List.all_eq_true.1 hq x (List.mem_of_getElem? hx)
    simp only[Option.getD_some]
    split at this
    ·rename_i e;exact e
    ·cases this
  unfold eE
  simp only[hz,kE,List.all_nil,Bool.and_self,Bool.or_true]
  simp
 ·rw[FW]at h
  unfold eE
  rw[List.all_eq_true]
  intro j hj
  rw[List.all_eq_true]
  intro i hi
  exact B8 fp [] h j (Nat.zero_le _) mF i (by simpa using hi)
theorem vE:∀ (l:List Nat) (k c:Nat),c<=k->c<=yc l k c/\∀i x,l[i]? =some x->yc l k c<=k+i->x=2^(k+i) - 1
 |[],_,c,_=>⟨Nat.le_refl _,fun i x h=>by simp at h⟩
 |y::l,k,c,hc=>by
  simp only[yc]
  split
  ·rename_i he
   obtain⟨h1,h2⟩:=vE l (k+1) c af
   refine⟨h1,fun i x hi hle=> ?_⟩
   cases i with
   |zero=>simp at hi;subst hi;simpa using Nat.eq_of_beq_eq_true he
   |succ i=>
    have:=h2 i x (by simpa using hi) af
    rw[this,show k+(i+1)=k+1+i by omega]
  ·obtain⟨h1,h2⟩:=vE l (k+1) (k+1) (Nat.le_refl _)
   refine⟨af,fun i x hi hle=> ?_⟩
   cases i with
   |zero=>omega
   |succ i=>
    have:=h2 i x (by simpa using hi) af
    rw[this,show k+(i+1)=k+1+i by omega]
theorem yd:∀ (pr:List (List Nat)) (acc:List Nat),(ek pr acc).length=acc.length+pr.length
 |[],acc=>by simp[ek]
 |ps::l,acc=>by simp only[ek,yd l,List.length_append,List.length_cons,List.length_nil];omega
theorem Kx(pr:List (List Nat)):DU pr (qC pr)=true:=by
 refine List.all_eq_true.2 fun k hk=> ?_
 have hk:k<pr.length:=by simpa using hk
 by_cases h:k<qC pr
 ·simp[Nat.blt_eq.mpr h]
 ·have hl:k<(ek pr []).length:=by rw[yd];simpa using hk
  have:=(vE (ek pr []) 0 0 (Nat.le_refl _)).2 k _ (List.getElem?_eq_getElem hl) (by rw[Nat.zero_add];exact Nat.le_of_not_lt h)
  rw[Nat.zero_add]at this
  rw[List.getD_eq_getElem?_getD,List.getElem?_eq_getElem hl,Option.getD_some,this]
  simp
theorem NG(bn:P.follows .mixedOrders=true)(cy:∀g,(bO g).Ok P g){rec:dv}(aY:ej P rec){l:List bP}{pr:List (List Nat)}{st st':St}{e:fk}(h:TT P bO md rec l pr st=some (e,st')){Q:fk->S->Prop}(hQ:Q e st'.S):
 kK P (DT pr (st.S.nx+l.length) Q) (BC pr l st.S Q) pr l st.S.nx st.S []:=by
 unfold TT at h
 split at h
 ·rename_i s1 fp hd
  split at h
  ·rename_i hf
   simp only[Nat.cR,Option.some.injEq,Prod.mk.injEq]at h
   obtain⟨rfl,rfl⟩:=h
   exact nw bn cy aY (q:= .fin s1 fp) (K:=DT pr (st.S.nx+l.length) Q) (KP:=BC pr l st.S Q) (show DT pr (st.S.nx+l.length) Q s1.S fp from⟨zM hf,hQ⟩) l _ _ _ hd
  ·cases h
 ·rename_i v wl fp hd
  split at h
  ·rename_i hf
   simp only[Option.some.injEq,Prod.mk.injEq]at h
   obtain⟨rfl,rfl⟩:=h
   exact nw bn cy aY (q:= .bF v wl fp) (K:=DT pr (st.S.nx+l.length) Q) (KP:=BC pr l st.S Q) (show BC pr l st.S Q v wl fp from⟨zM hf,hQ⟩) l _ _ _ hd
  ·cases h
 ·cases h
theorem NH(bn:P.follows .mixedOrders=true)(cy:∀g,(bO g).Ok P g){rec:dv}(aY:ej P rec){n:Nat}{g:Operand}{ps:List Nat}{x y:IC}{st:St}{kt:Kt}{a:dX}(h:NB P bO rec n g ps x y st kt=some a){Q:fk->S->Prop}(hQ:∀e st',kt e st'=some a->Q e st'.S):
 Bl P n (st.S.ev g) ps x y Q st.S:=by
 unfold NB at h
 refine⟨(List.range n).map st.env.get,fun i=> ?_, ?_⟩
 ·unfold aX
  simp only[List.getD_eq_getElem?_getD,List.getElem?_map]
  by_cases hi:i<n
  ·right;rw[List.getElem?_range hi];rfl
  ·left;rw[List.getElem?_eq_none (by simp;omega)];rfl
 ·split at h
  ·rename_i f first cap hv
   simp only[hv]
   refine .inl ?_
   have key:=fun {K X} hr=>nu (K:=K) (X:=X) bn cy aY h hr
   simp only[Tr.gG]at key
   refine key fun r hr=> ?_
   unfold aaa at hr
   cases r with
   |ret v o1 Ar=>
    simp only at hr
    split at hr
    ·rename_i nf m e p c d WH pd ho
     have hl:WH≠ .busy:=by
      intro hb;subst hb;cases hr
     refine⟨nf,m,e,p,c,d,WH,pd,ho,hl, ?_⟩
     split at hr
     ·cases hr
     ·split at hr<;>(have h3:=hQ _ _ hr;simp only[qp];simp only[St.S,Tr.gG]at h3;exact h3)
    ·cases hr
   |bF v o1 Ar=>exact hQ _ _ hr
  ·cases h
theorem bA.same {b:Nat}{s:S}(h:b<=s.nx):bA b s s:=fun _ φ _ _ h1 h2=>⟨φ,h1,h2,fun _ h=>h,h,fun _ _ hr=>⟨hr,rfl⟩,fun _ e' _ he=>⟨e',he,Nat.le_refl _,fun _=>rfl⟩⟩
theorem Ky{x y:Option dX}{a:dX}(h:FX x y=some a):x=some a/\y=some a:=by
 unfold FX at h
 split at h
 ·rename_i r
  split at h
  ·rename_i r'
   split at h
   ·rename_i hs
    injection h with h;subst h
    rw[R.dQ hs]
    exact⟨rfl,rfl⟩
   ·cases h
  ·cases h
 ·cases h
theorem T0(bn:P.follows .mixedOrders=true)(cy:∀g,(bO g).Ok P g):∀k,∀j,j<=k->ej P (run P bO md j):=by
 intro k
 induction k with
 |zero=>intro j hj b rd n ic st kt a h;obtain rfl:j=0:=af
        cases h
 |succ k ih=>
  intro j hj b rd n ic st kt a h Q hQ
  cases j with
  |zero=>cases h
  |succ j=>
   have aY:ej P (run P bO md j):=ih j af
   rw[Kw]at h
   cases ic with
   |skip=>exact hQ _ _ h
   |exit id=>exact hQ _ _ h
   |ret=>exact hQ _ _ h
   |bad=>cases h
   |ag l=>
    have h:zH P bO md (run P bO md j) (roX kt) l st=some a:=h
    exact uf bn cy aY (K:=Q .normal) (X:=fun v s=>Q (.bF v) s) (fun r hr=>by
     cases r with
     |ok TQ=>exact hQ .normal _ hr
     |bF v TQ=>exact hQ (.bF v) _ hr) l _ h
   |dm l pr=>
    have h:TU l pr P bO md (run P bO md j) b rd n st kt=some a:=h
    unfold TU at h
    rw[Nat.cR]at h
    split at h
    ·rename_i s1 fp hd
     split at h
     ·rename_i hf
      rw[Nat.cR]at h
      split at h
      ·rename_i Iw
       refine .inr ⟨qC pr,Nat.le_of_ble_eq_true Iw,Kx pr, ?_⟩
       refine nw bn cy aY (q:= .fin s1 fp) (K:=fun s' fp=>eE pr fp=true/\pk P (fun v s=>Q (.bF v) s) (Q .normal) (l.drop (qC pr)) ⟨s'.env,s'.o,st.S.nx+qC pr⟩) (KP:=fun _ _ _=>False) (show _/\_ from⟨zM hf, ?_⟩) (l.take (qC pr)) _ _ _ hd
       exact uf bn cy aY (K:=Q .normal) (X:=fun v s=>Q (.bF v) s) (fun r hr=>by
        cases r with
        |ok TQ=>exact hQ .normal _ hr
        |bF v TQ=>exact hQ (.bF v) _ hr) (l.drop (qC pr)) ⟨s1.env,s1.o,st.nx+qC pr⟩ h
      ·cases h
     ·cases h
    ·split at h
     ·rename_i e s1 h1
      exact .inl (NG bn cy aY h1 (hQ _ _ h))
     ·cases h
    ·cases h
   |seq x y=>
    have h:run P bO md j b rd n x st (D4 (run P bO md j) b rd n y kt)=some a:=h
    simp only[tY]
    refine aY _ _ _ _ _ _ _ h _ fun e s1 he=> ?_
    unfold D4 at he
    cases e with
    |normal=>exact aY _ _ _ _ _ _ _ he _ hQ
    |_=>exact hQ _ _ he
   |cond c x y=>
    have h:(match st.S.ev c with| .d (.bool true)=>run P bO md j b rd n x st kt| .d (.bool false)=>run P bO md j b rd n y st kt| .fH=>FX (run P bO md j b rd n x st kt) (run P bO md j b rd n y st kt)|_=>none)=some a:=h
    simp only[tY]
    split at h
    ·rename_i hv
     simp only[hv]
     exact(uZ _ _).mpr (aY _ _ _ _ _ _ _ h _ hQ)
    ·rename_i hv
     simp only[hv]
     exact(sW _ _).mpr (aY _ _ _ _ _ _ _ h _ hQ)
    ·rename_i hv
     simp only[hv]
     obtain⟨h1,h2⟩:=Ky h
     exact⟨aY _ _ _ _ _ _ _ h1 _ hQ,aY _ _ _ _ _ _ _ h2 _ hQ⟩
    ·cases h
   |block id x=>
    have h:run P bO md j b rd n x st (D5 id kt)=some a:=h
    simp only[tY]
    refine aY _ _ _ _ _ _ _ h _ fun e s1 he=> ?_
    unfold D5 at he
    cases e with
    |exit j'=>
     simp only at he
     split at he
     ·rename_i hb
      simp only[ff,Nat.eq_of_beq_eq_true hb,if_true];exact hQ _ _ he
     ·rename_i hb
      simp only[ff,Nat.ne_of_beq_eq_false hb,if_false];exact hQ _ _ he
    |_=>exact hQ _ _ he
   |loop x=>
    have unf:∀m QA,run P bO md (m+1) b rd n (.loop x) QA kt=some a->b<=QA.nx/\run P bO md m b rd n x QA (D4 (run P bO md m) b rd n (.loop x) kt)=some a:=by
     intro m QA h
     have h:(match Nat.ble b QA.nx with|true=>run P bO md m b rd n x QA (D4 (run P bO md m) b rd n (.loop x) kt)|false=>none)=some a:=h
     split at h
     ·rename_i hb;exact⟨Nat.le_of_ble_eq_true hb,h⟩
     ·cases h
    have h:run P bO md (j+1) b rd n (.loop x) st kt=some a:=h
    refine⟨fun m s=>m<=k+1/\∃st,s=st.S/\run P bO md m b rd n (.loop x) st kt=some a,⟨j+1,st.S,bA.same (unf j st h).1,hj,st,rfl,h⟩, ?_⟩
    rintro m s0 ⟨hm,QA,rfl,h0⟩
    cases m with
    |zero=>cases h0
    |succ m=>
     have aad:ej P (run P bO md m):=ih m af
     refine aad _ _ _ _ _ _ _ (unf m QA h0).2 _ fun e s1 he=> ?_
     unfold D4 at he
     cases e with
     |normal=>
      refine⟨m,s1.S,Nat.lt_succ_self _,bA.same ?_,af,s1,rfl,he⟩
      cases m with
      |zero=>cases he
      |succ m=>exact(unf m s1 he).1
     |_=>exact hQ _ _ he
   |It g ps x y=>
    cases rd with
    |true=>
     have h:(none:Option dX)=some a:=h
     cases h
    |false=>
     have h:NB P bO (run P bO md j) n g ps x y st kt=some a:=h
     exact⟨rfl,_, .inl rfl,NH bn cy aY h hQ⟩
noncomputable def oz(P:Program)(bO:Nat->FD)(md:qB P)(k:Nat)(g:Nat)(ds:List D):Option R:=
 match Kk P bO (run P bO md k) g (ds.map .d) (.e fun _=> .no) 0 B2 with
 |some (.r x)=>some x
 |_=>none
theorem a8.gH (bn:P.follows .mixedOrders=true)(cy:∀g,(bO g).Ok P g){k g:Nat}{ds:List D}{out:R}(h:oz P bO md k g ds=some out):a8 P g ds out:=by
 unfold oz at h
 split at h
 ·rename_i x hr;injection h with h;subst h;exact B4 bn cy (T0 bn cy k k (Nat.le_refl _)) hr
 ·cases h
end
end
def Tr.FZ {α:Type}(p:Nat->α->Prop):Tr α->(Nat->Nat)->Prop
 | .e g,f=>∀i,p (f i) (g i)
 | .n x l r,f=>p (f 0) x/\FZ p l (fun i=>f (2*i+1))/\FZ p r (fun i=>f (2*i+2))
theorem Tr.zN {α:Type}{p:Nat->α->Prop}:∀ {f:Nat->Nat} (t:Tr α),t.FZ p f->∀k,p (f k) (t.get k)
 |f, .e g,h,k=>h k
 |f, .n x l r,h,k=>by
  obtain⟨h1,h2,h3⟩:=h
  rw[Tr.vo]
  split
  ·rename_i e;subst e;exact h1
  ·split
   ·have:=Tr.zN l h2 (k/2)
    rwa [show 2*(k/2)+1=k by omega]at this
   ·have:=Tr.zN r h3 (k/2 - 1)
    rwa [show 2*(k/2 - 1)+2=k by omega]at this
end Go.Proofs.YtlhemmpklhhgoaaGreat
