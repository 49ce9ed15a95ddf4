/-
  A PART OF THE PROOF. Conditions: none.
-/
import Derived.Test.YtnkamdiiakdkgaaGreatEd9
set_option linter.unusedSimpArgs false
set_option linter.unusedVariables false
namespace Go.Proofs.YtnkamdiiakdkgaaGreat
section
abbrev Fix(α:Type){β:Type}(_:β):Type:=α
def ko(K:V->List (Nat×ab)->Prop)(x:Fix (Option fA) K):Prop:=match x with|some (v,Δ,_)=>K v Δ|none=>False
@[go_sem] theorem Tf {v:V} {Δ:List (Nat×ab)} {rd:List Nat} {K}:ko K (some (v,Δ,rd))=K v Δ:=propext Iff.rfl
@[go_sem] theorem Tg {K}:ko K none=False:=propext Iff.rfl
def V.yG (c:Bool)(v:V):V:=if c=true then v else .bU []
@[go_sem] theorem Zb (b:Bool):(!!b)=b:=aL
attribute [go_sem] true_or or_true false_or ne_eq not_false_eq_true decide_true decide_false Bool.not_true Bool.not_false Bool.and_true Bool.true_and Bool.and_false Bool.false_and Bool.or_true Bool.true_or Bool.or_false Bool.false_or beq_self_eq_true Bool.true_eq_false Bool.false_eq_true not_true_eq_false and_true true_and and_false false_and eq_self
@[go_sem] theorem V.Zc (v:V):V.yG true v=v:=rfl
@[go_sem] theorem V.Wk (v:V):V.yG false v= .bU []:=rfl
def l0(c:Bool)(p:Prop):Prop:=c=true->p
@[congr] theorem Qi {c c':Bool} {p p':Prop} (h:c=c') (h2:c'=true->p=p'):l0 c p=l0 c' p':=by
  subst h;cases c
  ·simp[l0]
  ·simp[l0,h2 rfl]
@[go_sem] theorem Th (p:Prop):l0 true p=p:=by simp[l0]
@[go_sem] theorem Qj (p:Prop):l0 false p=True:=by simp[l0]
@[go_sem] theorem Ti (a:Bool):l0 a True=True:=by simp[l0]
def l4(v:V)(want:Bool):Option Bool:=
 match v with
 | .d (.bool b)=>some (b==want)
 | .bU []=>some false
 |_=>none
@[go_sem] theorem Tj (b:Bool):l4 (.d (.bool b)) true=some b:=by simp[l4]
@[go_sem] theorem Qk (b:Bool):l4 (.d (.bool b)) false=some (!b):=by simp[l4]
@[go_sem] theorem Zd (want:Bool):l4 (.bU []) want=some false:=rfl
@[go_sem] theorem Wl (c b want:Bool):l4 (V.yG c (.d (.bool b))) want=some (c&&(b==want)):=by cases c<;>simp[l4,V.yG]
@[go_sem] theorem Tk (c b e want:Bool):l4 (V.yG c (V.yG e (.d (.bool b)))) want=some (c&&e&&(b==want)):=by cases c<;>cases e<;>simp[l4,V.yG]
def kH(c:Bool)(x:Option fA):Option fA:=
 if c=true then(match x with|some (v,[],_)=>some (v,[],[])|_=>none)else some (.bU [],[],[])
@[congr] theorem Ng {c c':Bool} {x x':Option fA} (h:c=c') (h2:c'=true->x=x'):kH c x=kH c' x':=by
  subst h;cases c
  ·rfl
  ·simp[kH,h2 rfl]
def Wm(v:V)(rd:List Nat):Option fA:=some (v,[],rd)
@[go_sem] theorem ac9 (v:V) (rd:List Nat):(some (v,[],rd):Option fA)=Wm v rd:=by unfold Wm;exact Eq.trans rfl rfl
@[go_sem] theorem Tl (c:Bool) (v:V) (rd:List Nat):kH c (Wm v rd)=Wm (V.yG c v) []:=by cases c<;>rfl
@[go_sem] theorem Wn {v:V} {rd:List Nat} {K}:ko K (Wm v rd)=K v []:=propext Iff.rfl
@[go_sem] theorem Ql (c:Bool) (v:V) (rd:List Nat):kH c (some (v,[],rd))=some (V.yG c v,[],[]):=by cases c<;>rfl
@[go_sem] theorem Nh (x:Option fA):kH false x=some (.bU [],[],[]):=rfl
@[go_sem] theorem Ze (b x:Bool):pL (.d (.bool b)) (V.yG b (.d (.bool x))) (.d (.bool false))=some (.d (.bool (b&&x))):=Ac
@[go_sem] theorem ack (b x:Bool):pL (.d (.bool b)) (.d (.bool true)) (V.yG (!b) (.d (.bool x)))=some (.d (.bool (b||x))):=Ac
@[go_sem] theorem Zf (b x:Bool):pL (.d (.bool (!b))) (.d (.bool true)) (V.yG b (.d (.bool x)))=some (.d (.bool (!b||x))):=Ac
@[go_sem] theorem Wo (x y:V):pL (.d (.bool true)) x y=some x:=rfl
@[go_sem] theorem Tn (x y:V):pL (.d (.bool false)) x y=some y:=rfl
@[reducible] def kI:Op->Bool
  | .move _| .assign _| .pick .. | .load .. | .binOp .. | .unOp .. | .nilCheck _| .convert .. | .makeInterface .. | .makeFunc .. | .fieldAddr .. | .indexAddr .. | .extract .. | .build .. | .index .. | .field .. | .lookup .. =>true
  | .call c=>match c.callee with
    | .builtin .len=>true
    | .builtin .min=>true
    | .builtin .max=>true
    |_=>false
  |_=>false
def Bf(P:Program)(f:V)(args:List V)(o:Nat->ab)(rs:List D):Prop:=
 match f with
 | .func (.func g) first cap=>match bV o (first++args++cap)with
   |some ds=>aT P g ds (.ret rs)/\D.jy rs=true
   |none=>False
 |_=>False
def E1(P:Program)(f:V)(args:List V)(o:Nat->ab)(K:V->Prop)(c:Fix Bool (f,args,o,K)):Prop:=
 ∃rs,l0 c (Bf P f args o rs)/\K (V.yG c (jb rs))
def Bg(P:Program)(g:FuncId)(nx:Nat)(K X:V->(Nat->ab)->Nat->Prop)(args:Fix (List V) (K,X))(o:Fix (Nat->ab) (K,X)):Prop:=rY P g args o nx K X
def ur(P:Program)(g:FuncId)(o:Nat->ab)(nx:Nat)(K X:V->(Nat->ab)->Nat->Prop)(ds:Fix (List D) (o,nx,K,X))(all:Fix (List V) (o,nx,K,X)):Prop:=
 ue P g ds o (put o (cg o (V.bf all))) (put o (qM o (V.bf all))) (fun v o'=>K v o' (nx+1)) (fun v o'=>X v o' (nx+1))\/rY P g all o nx K X
def mY(P:Program)(g:FuncId)(K X:V->(Nat->ab)->Nat->Prop)(s:S)(all:List V)(ds:Fix (Option (List D)) (K,X,s,all)):Prop:=
 match ds with
 |some ds=>ur P g s.o s.nx K X ds all
 |none=>Bg P g s.nx K X all s.o
@[go_sem] theorem Qm {P:Program} {s:S} {ds:List D} {g:FuncId} {all:List V} {K X}:
 mY P g K X s all (some ds)=ur P g s.o s.nx K X ds all:=propext Iff.rfl
def w9(P:Program)(id:Nat)(K X:V->(Nat->ab)->Nat->Prop)(s:S)(args:Fix (List V) (K,X,s)):Prop:=dw P id args s.o s.nx K X
@[go_sem] theorem Qn {P:Program} {s:S} {g:FuncId} {all:List V} {K X}:mY P g K X s all none=Bg P g s.nx K X all s.o:=propext Iff.rfl
def sc(P:Program)(K X:V->(Nat->ab)->Nat->Prop)(s:S)(f:Fix V (K,X,s))(args:Fix (List V) (K,X,s)):Prop:=
 match f with
 | .func (.func g) first cap=>mY P g K X s (first++args++cap) (bV s.o (first++args++cap))
 | .ja id=>w9 P id K X s args
 |_=>False
@[go_sem] theorem Wp {P:Program} {s:S} {id:Nat} {args:List V} {K X}:sc P K X s (.ja id) args=w9 P id K X s args:=propext Iff.rfl
@[go_sem] theorem To {P:Program} {s:S} {g:FuncId} {first cap args:List V} {K X}:sc P K X s (.func (.func g) first cap) args=mY P g K X s (first++args++cap) (bV s.o (first++args++cap)):=propext Iff.rfl
def JW(P:Program)(g:FuncId)(o:Nat->ab)(nx:Nat)(K X:V->(Nat->ab)->Nat->Prop)(ds:Fix (List D) (o,nx,K,X))(all:Fix (List V) (o,nx,K,X)):Prop:=
 ue P g ds o (put o (cg o (V.bf all))) (put o (qM o (V.bf all))) (fun v o'=>K v o' (nx+1)) (fun v o'=>X v o' (nx+1))
def Bh(P:Program)(g:FuncId)(K X:V->(Nat->ab)->Nat->Prop)(s:S)(all:List V)(ds:Fix (Option (List D)) (K,X,s,all)):Prop:=
 match ds with
 |some ds=>JW P g s.o s.nx K X ds all
 |none=>False
@[go_sem] theorem Tp {P:Program} {s:S} {ds:List D} {g:FuncId} {all:List V} {K X}:Bh P g K X s all (some ds)=JW P g s.o s.nx K X ds all:=propext Iff.rfl
def JX(P:Program)(K X:V->(Nat->ab)->Nat->Prop)(s:S)(args:Fix (List V) (K,X,s))(r:Fix (Option (FuncId×V)) (K,X,s)):Prop:=
 match r with
 |some (g,y)=>Bh P g K X s (y::args) (bV s.o (y::args))
 |none=>False
@[go_sem] theorem Wq {P:Program} {s:S} {g:FuncId} {y:V} {args:List V} {K X}:JX P K X s args (some (g,y))=Bh P g K X s (y::args) (bV s.o (y::args)):=propext Iff.rfl
def GZ(K:V->Prop)(v:Fix V K):Prop:=
 match v with
 | .d (.iface t y)=>K (.d (.iface t y))
 | .iface t y=>K (.iface t y)
 |_=>False
@[go_sem] theorem ada {t:TypeId} {y:D} {K}:GZ K (.d (.iface t y))=K (.d (.iface t y)):=propext Iff.rfl
@[go_sem] theorem adb {t:TypeId} {y:V} {K}:GZ K (.iface t y)=K (.iface t y):=propext Iff.rfl
def E2(K:V->List (Nat×ab)->Prop)(id:Nat)(l:Fix (List (D×D)) (K,id)):Prop:=EB id l fun v Δ _=>K v Δ
def JY(K:V->List (Nat×ab)->Prop)(str:Bool)(Wr:Fix (Option fA) (K,str))(left:Fix (Option (Nat×List (D×D))) (K,str)):Prop:=
 match left with
 |some (id,l)=>str=false/\E2 K id l
 |none=>ko K Wr
@[go_sem] theorem Ws {K} {Wr:Option fA} {id:Nat} {l:List (D×D)}:JY K false Wr (some (id,l))=E2 K id l:=propext ⟨fun h=>h.2,fun h=>⟨rfl,h⟩⟩
@[go_sem] theorem Wt {K} {str:Bool} {Wr:Option fA}:JY K str Wr none=ko K Wr:=propext Iff.rfl
def Bi(P:Program)(X:V->S->Prop)(K:S->Prop)(o:bI)(s:Fix S (X,K,o)):Prop:=
 match o.op with
 | .next x str=>JY (fun v Δ=>K ⟨aY s.env o.dst v,put s.o Δ,s.nx+1⟩) str (oe s.o (s.ev x) str) (og s.o (s.ev x))
 | .call c=>match c.callee with
   | .value f=>sc P (fun v o' nx'=>K ⟨aY s.env o.dst v,o',nx'⟩) (fun v o' nx'=>X v ⟨s.env,o',nx'⟩) s (s.ev f) (c.args.toList.map s.ev)
   | .invoke r m=>JX P (fun v o' nx'=>K ⟨aY s.env o.dst v,o',nx'⟩) (fun v o' nx'=>X v ⟨s.env,o',nx'⟩) s (c.args.toList.map s.ev) (tX P m (s.ev r))
   |_=>ko (fun v Δ=>K ⟨aY s.env o.dst v,put s.o Δ,s.nx+1⟩) (fS P s s.nx o.op)
 | .panic x=>GZ (fun v=>X v s) (s.ev x)
 |op=>ko (fun v Δ=>K ⟨aY s.env o.dst v,put s.o Δ,s.nx+1⟩) (fS P s s.nx op)
@[reducible] def eg:Op->Option (Operand×List Operand)
  | .call c=>match c.callee with
    | .value f=>some (f,c.args.toList)
    |_=>none
  |_=>none
def iw(A B:Prop)(t:Fix Bool (A,B)):Prop:=pR t A B
@[go_sem] theorem Tq (A B:Prop):iw A B true=A:=uf A B
@[go_sem] theorem Qo (A B:Prop):iw A B false=B:=rZ A B
def Dy(P:Program)(X:V->S->Prop)(K:S->Prop)(o:bI)(s:S)(f:Operand)(args:List Operand)(c:Fix Bool (X,K,o,s,f,args)):Prop:=
 E1 P (s.ev f) (args.map s.ev) s.o (fun v=>K ⟨aY s.env o.dst v,s.o,s.nx+1⟩) c\/iw (Bi P X K o s) (K ⟨aY s.env o.dst (.bU []),s.o,s.nx+1⟩) c
def yH(P:Program)(X:V->S->Prop)(K:S->Prop)(o:bI)(s:S)(c:Fix (Option Bool) (X,K,o,s)):Prop:=
 match c with
 |none=>False
 |some c=>match eg o.op with
  |some (f,args)=>Dy P X K o s f args c
  |none=>if kI o.op=true then ko (fun v _=>K ⟨aY s.env o.dst v,s.o,s.nx+1⟩) (kH c (fS P s s.nx o.op))
   else iw (Bi P X K o s) (K ⟨aY s.env o.dst (.bU []),s.o,s.nx+1⟩) c
def pT(P:Program)(X:V->S->Prop)(K:S->Prop)(l:List bI)(s:Fix S (X,K,l)):Prop:=
 match l with
 |[]=>K s
 |o::l=>match o.gd with
  |none=>Bi P X (pT P X K l) o s
  |some (d,want)=>yH P X (pT P X K l) o s (l4 (s.env d) want)
def jB(want:Bool)(A B:Prop)(v:Fix V (A,B)):Prop:=
 match v with
 | .d (.bool b)=>pR (b==want) A B
 | .bU []=>B
 |_=>False
@[go_sem] theorem Qp (b:Bool) (A B:Prop):jB true A B (.d (.bool b))=iw A B b:=by simp[jB,iw]
@[go_sem] theorem Ni (b:Bool) (A B:Prop):jB false A B (.d (.bool b))=iw A B (!b):=by simp[jB,iw]
@[go_sem] theorem Wu (want:Bool) (A B:Prop):jB want A B (.bU [])=B:=propext Iff.rfl
@[go_sem] theorem Ts (c b want:Bool) (A B:Prop):jB want A B (V.yG c (.d (.bool b)))=iw A B (c&&(b==want)):=by cases c<;>simp[jB,V.yG,iw]
abbrev KD:=V->List (Nat×ab)->List Nat->Prop
abbrev XD:=V->List Nat->List Nat->Prop
def JZ(P:Program)(g:FuncId)(K:KD)(X:XD)(o:Nat->ab)(rd:List Nat)(ds:Fix (List D) (K,X,o,rd))(all:Fix (List V) (K,X,o,rd)):Prop:=
 sb P g ds (fun v=>K v (cg o (V.bf all)) rd) (fun v=>K v [] rd) (fun v=>X v [] rd)
def ri(P:Program)(g:FuncId)(K:KD)(X:XD)(o:Nat->ab)(nx fr:Nat)(all:Fix (List V) (K,X,o,nx)):Prop:=iM P g all o nx fr K X
def rj(P:Program)(g:FuncId)(K:KD)(X:XD)(o:Nat->ab)(nx fr:Nat)(rd:List Nat)(ds:Fix (List D) (K,X,o,nx,rd))(all:Fix (List V) (K,X,o,nx,rd)):Prop:=JZ P g K X o rd ds all\/ri P g K X o nx fr all
def rk(P:Program)(K:KD)(X:XD)(o:Nat->ab)(nx fr:Nat)(rd:List Nat)(g:FuncId)(all:List V)(ds:Fix (Option (List D)) (K,X,o,nx,rd,all)):Prop:=
 match ds with
 |some ds=>rj P g K X o nx fr rd ds all
 |none=>ri P g K X o nx fr all
@[go_sem] theorem Qq {P:Program} {o:Nat->ab} {nx fr:Nat} {rd:List Nat} {ds:List D} {g:FuncId} {all:List V} {K X}:rk P K X o nx fr rd g all (some ds)=rj P g K X o nx fr rd ds all:=propext Iff.rfl
@[go_sem] theorem Qr {P:Program} {o:Nat->ab} {nx fr:Nat} {rd:List Nat} {g:FuncId} {all:List V} {K X}:rk P K X o nx fr rd g all none=ri P g K X o nx fr all:=propext Iff.rfl
def Bj(P:Program)(K:KD)(X:XD)(o:Nat->ab)(nx fr:Nat)(rd:Fix (List Nat) (K,X,o,nx))(f:Fix V (K,X,o,nx))(args:Fix (List V) (K,X,o,nx)):Prop:=
 match f with
 | .func (.func g) first cap=>rk P K X o nx fr rd g (first++args++cap) (bV o (first++args++cap))
 |_=>False
@[go_sem] theorem Tt {P:Program} {o:Nat->ab} {nx fr:Nat} {rd:List Nat} {g:FuncId} {first cap args:List V} {K X}:Bj P K X o nx fr rd (.func (.func g) first cap) args=rk P K X o nx fr rd g (first++args++cap) (bV o (first++args++cap)):=propext Iff.rfl
def uu(K:KD)(rd:List Nat)(x:Fix (Option fA) (K,rd)):Prop:=match x with|some (v,Δ,_)=>K v Δ rd|none=>False
@[go_sem] theorem Tu {v:V} {Δ:List (Nat×ab)} {r rd:List Nat} {K}:uu K rd (some (v,Δ,r))=K v Δ rd:=propext Iff.rfl
@[go_sem] theorem Wv {v:V} {r rd:List Nat} {K}:uu K rd (Wm v r)=K v [] rd:=propext Iff.rfl
def Mh(P:Program)(K:KD)(X:XD)(fr:Nat)(o:bI)(s:Fix S (K,X,o)):Prop:=
 match eg o.op with
 |some (f,args)=>Bj P K X s.o s.nx fr (n6 s o.op) (s.ev f) (args.map s.ev)
 |none=>uu K (n6 s o.op) (fS P s fr o.op)
def G0(P:Program)(KB:List Nat->Fp->Prop)(pr:List (List Nat))(l:List bI)(fr:Nat)(fp:Fix Fp (KB,l))(bad ws:Fix (List Nat) (KB,l))(s:Fix S (KB,l)):Prop:=gP P KB pr l fr s fp bad ws
def nS(P:Program)(K:S->Fp->Prop)(KP:V->List Nat->Fp->Prop)(pr:List (List Nat))(l:List bI)(fr:Nat)(s:Fix S (K,KP,l))(fp:Fix Fp (K,KP,l)):Prop:=
 match l with
 |[]=>K s fp
 |o::l=>match o.gd with
  |none=>Mh P (fun v Δ rd=>nS P K KP pr l (fr+1) ⟨aY s.env o.dst v,put s.o Δ,s.nx⟩ (fp++[(rd,Δ.map (·.1))]))
   (fun v ws rd=>G0 P (KP v) pr l (fr+1) (fp++[(rd,[])]) [fp.length] (ws++fp.flatMap (·.2)) ⟨aY s.env o.dst .aa,s.o,s.nx⟩) fr o s
  |some (d,want)=>jB want (Mh P (fun v Δ rd=>nS P K KP pr l (fr+1) ⟨aY s.env o.dst v,put s.o Δ,s.nx⟩ (fp++[(rd,Δ.map (·.1))]))
   (fun v ws rd=>G0 P (KP v) pr l (fr+1) (fp++[(rd,[])]) [fp.length] (ws++fp.flatMap (·.2)) ⟨aY s.env o.dst .aa,s.o,s.nx⟩) fr o s)
   (nS P K KP pr l (fr+1) ⟨aY s.env o.dst (.bU []),s.o,s.nx⟩ (fp++[([],[])])) (s.env d)
def Nj(pr:List (List Nat))(nx:Nat)(Q:fm->S->Prop)(s:Fix S Q)(fp:Fix Fp Q):Prop:=Dw pr nx Q s fp
def rl(l:List bI)(k:Fix Nat l):Option Nat:=match l with
 |[]=>none
 |o::l=>match o.gd,eg o.op with
  |none,some (.tmp _,_)=>some k
  |_,_=>rl l (k+1)
def E3(P:Program)(pr:List (List Nat))(l:List bI)(nx:Nat)(Q:fm->S->Prop)(s:Fix S (P,pr,l,nx,Q))(fp:Fix Fp (P,pr,l,nx,Q)):Prop:=dX pr fp=true/\pT P (fun v s=>Q (.bD v) s) (Q .normal) l ⟨s.env,s.o,nx⟩
def J0(P:Program)(l:List bI)(pr:List (List Nat))(Q:fm->S->Prop)(s:S)(sp:Fix (Option Nat) (P,l,pr,Q,s)):Prop:=match sp with
 |none=>nS P (Nj pr (s.nx+l.length) Q) (Bc pr l s Q) pr l s.nx s []
 |some m=>m<=l.length/\yE pr m=true/\nS P (E3 P pr (l.drop m) (s.nx+m) Q) (fun _ _ _=>False) pr (l.take m) s.nx s []
def xa(A B:Prop)(v:Fix V (A,B)):Prop:=
 match v with
 | .d (.bool t)=>iw A B t
 | .eV=>A/\B
 |_=>False
@[go_sem] theorem Ww (A B:Prop):xa A B .eV=(A/\B):=propext Iff.rfl
@[go_sem] theorem Tv (t:Bool) (A B:Prop):xa A B (.d (.bool t))=iw A B t:=propext Iff.rfl
def E4{ι:Type}(b:Nat)(st:ι->S)(bA:ι->Prop)(oP:ι->Nat)(i:ι)(s:S):Prop:=∃j,bA j/\oP j<oP i/\aZ b s (st j)
def uv(next:S->Prop)(Q:fm->S->Prop)(e:fm)(s:S):Prop:=match e with| .normal=>next s|e=>Q e s
section
variable {N:S->Prop}{Q:fm->S->Prop}{s:S}
@[go_sem ↓] theorem Nk:uv N Q .normal s=N s:=propext Iff.rfl
@[go_sem ↓] theorem Tw {id:Nat}:uv N Q (.exit id) s=Q (.exit id) s:=propext Iff.rfl
@[go_sem ↓] theorem Wx:uv N Q .ret s=Q .ret s:=propext Iff.rfl
@[go_sem ↓] theorem Wy {v:V}:uv N Q (.bD v) s=Q (.bD v) s:=propext Iff.rfl
end
def uw(b:Nat)(body:(fm->S->Prop)->S->Prop)(Q:fm->S->Prop)(s:Fix S (body,Q)):Prop:=
 ∃ (ι:Type) (st:ι->S) (bA:ι->Prop) (oP:ι->Nat) (i0:ι),bA i0/\aZ b s (st i0)/\∀i,bA i->body (uv (E4 b st bA oP i) Q) (st i)
theorem aw{ι:Type}{b:Nat}{body:(fm->S->Prop)->S->Prop}{Q:fm->S->Prop}{s:S}(st:ι->S)(bA:ι->Prop)(oP:ι->Nat)(i0:ι)(h0:bA i0)(hle:aZ b s (st i0))
 (h:∀i,bA i->body (uv (E4 b st bA oP i) Q) (st i)):uw b body Q s:=⟨ι,st,bA,oP,i0,h0,hle,h⟩
def yI(P:Program)(n b:Nat)(rd:Bool)(gop:Operand)(ps:List Nat)(x y:IC)(Q:fm->S->Prop)(s:Fix S (x,y,Q))(g:Fix V (x,y,Q)):Prop:=rd=false/\(AW P n g ps x y Q s\/∃s',aZ b s s'/\AW P n (s'.ev gop) ps x y Q s')
def lQ(P:Program)(n b:Nat)(rd:Bool)(c:IC)(Q:fm->S->Prop)(s:Fix S (c,Q)):Prop:=
 match c with
 | .skip=>Q .normal s
 | .ae l=>pT P (fun v s=>Q (.bD v) s) (Q .normal) l s
 | .cT l pr=>J0 P l pr Q s (rl l 0)
 | .seq x y=>lQ P n b rd x (pE (fun s=>lQ P n b rd y Q s) Q) s
 | .cond c x y=>xa (lQ P n b rd x Q s) (lQ P n b rd y Q s) (s.ev c)
 | .block id x=>lQ P n b rd x (eW id Q) s
 | .loop x=>uw b (fun Q s=>lQ P n b rd x Q s) Q s
 | .exit id=>Q (.exit id) s
 | .ret=>Q .ret s
 | .Gi g ps x y=>yI P n b rd g ps x y Q s (s.ev g)
 | .bad=>False
section
variable {P:Program}{n b:Nat}{rd:Bool}
theorem Bk{s:S}{f:V}{args:List V}{K K':V->(Nat->ab)->Nat->Prop}{X X':V->(Nat->ab)->Nat->Prop}(hK:∀v o n,K v o n->K' v o n)(hX:∀v o n,X v o n->X' v o n)(h:sc P K X s f args):
 match(generalizing:=false) f with
  | .func (.func g) first cap=>match bV s.o (first++args++cap)with
    |some ds=>ue P g ds s.o (put s.o (cg s.o (V.bf (first++args++cap)))) (put s.o (qM s.o (V.bf (first++args++cap)))) (fun v o'=>K' v o' (s.nx+1)) (fun v o'=>X' v o' (s.nx+1))\/rY P g (first++args++cap) s.o s.nx K' X'
    |none=>rY P g (first++args++cap) s.o s.nx K' X'
  | .ja id=>dw P id args s.o s.nx K' X'
  |_=>False:=by
 unfold sc mY w9 at h
 split at h
 ·rename_i g first cap
  cases eK:bV s.o (first++args++cap)with
  |some ds=>
   simp only[eK]at h|-
   rcases h with⟨out,h1,h2|⟨h3,h2⟩|⟨h3,h2⟩⟩|h
   ·exact .inl ⟨out,h1, .inl (by cases out<;>first|exact hK _ _ _ h2|exact hX _ _ _ h2)⟩
   ·exact .inl ⟨out,h1, .inr (.inl ⟨h3,by cases out<;>first|exact hK _ _ _ h2|exact hX _ _ _ h2⟩)⟩
   ·exact .inl ⟨out,h1, .inr (.inr ⟨h3,by cases out<;>first|exact hK _ _ _ h2|exact hX _ _ _ h2⟩)⟩
   ·exact .inr (n7.mono hK hX h)
  |none=>
   simp only[eK]at h|-
   exact n7.mono hK hX h
 ·exact dw.mono hK hX h
 ·exact h.elim
theorem xb{x:Option fA}{K:V->List (Nat×ab)->Prop}(h:ko K x):∃v Δ rd,x=some (v,Δ,rd)/\K v Δ:=by
 unfold ko at h;split at h
 ·exact⟨_,_,_,rfl,h⟩
 ·exact h.elim
theorem yJ{s:S}{o:bI}{X X':V->S->Prop}{K K':S->Prop}(hK:∀s,K s->K' s)(hX:∀v s,X v s->X' v s)(h:Bi P X K o s):H9 P s o X' K':=by
 unfold Bi at h
 unfold H9
 have hs:∀ {op:Op},(ko (fun v Δ=>K ⟨aY s.env o.dst v,put s.o Δ,s.nx+1⟩) (fS P s s.nx op))->(match fS P s s.nx op with|some (v,Δ,_)=>K' ⟨aY s.env o.dst v,put s.o Δ,s.nx+1⟩|none=>False):=by
  intro op h
  obtain⟨v,Δ,rd,he,h⟩:=xb h
  simp only[he];exact hK _ h
 split at h
 ·rename_i x str hx
  rw[hx]
  unfold JY at h
  simp only
  split at h
  ·rename_i id l hl
   simp only[hl]
   exact⟨h.1,fun e=>hK _ (h.2.1 e),fun i k x e=>hK _ (h.2.2 i k x e)⟩
  ·rename_i hl
   simp only[hl]
   exact hs (op:= .next x str) h
 ·rename_i c hc
  simp only[hc]
  split at h
  ·rename_i f hf
   simp only[hf]
   exact Bk (K:=fun v o' nx'=>K ⟨aY s.env o.dst v,o',nx'⟩) (X:=fun v o' nx'=>X v ⟨s.env,o',nx'⟩) (fun v o n h=>hK _ h) (fun v o n h=>hX _ _ h) h
  ·rename_i r m hf
   simp only[hf]
   unfold JX at h
   split at h
   ·rename_i g y hr
    simp only[hr]
    unfold Bh at h
    split at h
    ·rename_i ds eK
     obtain⟨out,h1,h2⟩:=h
     refine .inl ⟨ds,eK,out,h1, ?_⟩
     rcases h2 with h2|⟨h3,h2⟩|⟨h3,h2⟩
     ·exact .inl (by cases out<;>first|exact hK _ h2|exact hX _ _ h2)
     ·exact .inr (.inl ⟨h3,by cases out<;>first|exact hK _ h2|exact hX _ _ h2⟩)
     ·exact .inr (.inr ⟨h3,by cases out<;>first|exact hK _ h2|exact hX _ _ h2⟩)
    ·exact h.elim
   ·exact h.elim
  ·rename_i hf hi
   rw[hc]at h
   obtain⟨Jy,args,ts⟩:=c
   cases Jy with
   |value f=>exact absurd rfl (hf f)
   |invoke r m=>exact absurd rfl (hi r m)
   |_=>exact hs h
 ·rename_i x hx
  simp only[hx]
  unfold GZ at h
  split at h
  ·rename_i hv;simp only[hv];exact hX _ _ h
  ·rename_i hv;simp only[hv];exact hX _ _ h
  ·exact h.elim
 ·rename_i vG hc hp
  have h2:=hs h
  cases hh:o.op<;>first
   |exact absurd hh (hc _)
   |exact absurd hh (hp _)
   |exact absurd hh (vG _ _)
   |(rw[hh]at h2;exact h2)
theorem J1{s:S}{o:bI}{X:V->S->Prop}{K:S->Prop}(hp:kI o.op=true){v:V}{Δ:List (Nat×ab)}{rd:List Nat}(he:fS P s s.nx o.op=some (v,Δ,rd))(h:K ⟨aY s.env o.dst v,put s.o Δ,s.nx+1⟩):H9 P s o X K:=by
 unfold H9
 split
 ·rename_i c hc
  split
  ·rename_i f hf;rw[hc]at hp;simp[kI,hf]at hp
  ·rename_i r m hf;rw[hc]at hp;simp[kI,hf]at hp
  ·rw[he];exact h
 ·rename_i x hx;rw[hx]at hp;simp[kI]at hp
 ·rename_i x str hx;rw[hx]at hp;simp[kI]at hp
 ·rw[he];exact h
theorem rm{X X':V->S->Prop}{K K':S->Prop}(hK:∀s,K s->K' s)(hX:∀v s,X v s->X' v s):∀ (l:List bI) (s:S),pT P X K l s->oN P X' K' l s
 |[],s,h=>hK _ h
 |o::l,s,h=>by
  have ih:=rm hK hX l
  unfold pT at h
  unfold oN
  cases hg:o.gd with
  |none=>
   simp only[hg]at h|-
   exact yJ ih hX h
  |some p=>
   obtain⟨d,want⟩:=p
   simp only[hg]at h|-
   unfold yH at h
   split at h
   ·exact h.elim
   ·rename_i c hc
    have hgo:∀ {A B:Prop},(c=true->A)->(c=false->B)->(match s.env d with
     | .d (.bool b)=>if b=want then A else B
     | .bU []=>B
     |_=>False):=by
     intro A B hA hB
     generalize s.env d=v at hc
     unfold l4 at hc
     split at hc
     ·rename_i b
      injection hc with hc
      split
      ·rename_i e;exact hA (by rw[<- hc];simp[e])
      ·rename_i e;exact hB (by rw[<- hc];simp[e])
     ·injection hc with hc
      exact hB hc.symm
     ·cases hc
    split at h
    ·rename_i f args Ia
     rcases h with h|h
     case inr=>exact hgo (fun Qs=>yJ ih hX (h.1 Qs)) (fun Tx=>ih _ (h.2 Tx))
     obtain⟨rs,h1,h2⟩:=h
     refine hgo (fun Qs=> ?_) (fun Tx=> ?_)
     ·unfold eg at Ia
      split at Ia
      ·rename_i c' AS
       split at Ia
       ·rename_i f' kC
        injection Ia with Ia;injection Ia with e1 e2;subst e1;subst e2
        have mG:=h1 Qs
        unfold H9
        simp only[AS,kC]
        unfold Bf at mG
        split at mG
        ·rename_i g first cap vL
         simp only[vL]
         split at mG
         ·rename_i ds eK
          simp only[eK]
          refine .inl ⟨.ret rs,mG.1, .inr (.inl ⟨mG.2, ?_⟩)⟩
          refine ih _ ?_
          rw[Qs]at h2
          exact h2
         ·exact mG.elim
        ·exact mG.elim
       ·cases Ia
      ·cases Ia
     ·refine ih _ ?_
      rw[Tx]at h2
      exact h2
    ·split at h
     ·rename_i hp
      obtain⟨v,Δ,rd,he,h⟩:=xb h
      refine hgo (fun Qs=> ?_) (fun Tx=> ?_)
      ·rw[Qs]at he
       simp only[kH,if_true]at he
       split at he
       ·rename_i v' s5 oX
        injection he with he;injection he with e1 e2;subst e1
        exact J1 hp oX (ih _ h)
       ·cases he
      ·rw[Tx]at he
       simp only[kH]at he
       injection he with he;injection he with e1 e2;subst e1
       exact ih _ h
     ·exact hgo (fun Qs=>yJ ih hX (h.1 Qs)) (fun Tx=>ih _ (h.2 Tx))
theorem yK{op:Op}{f:Operand}{args:List Operand}(h:eg op=some (f,args)):∃c,op= .call c/\c.callee= .value f/\c.args.toList=args:=by
 unfold eg at h
 split at h
 ·rename_i c
  split at h
  ·rename_i f' kC
   injection h with h;injection h with e1 e2;subst e1;subst e2
   exact⟨c,rfl,kC,rfl⟩
  ·cases h
 ·cases h
theorem G1{x:Option fA}{rd:List Nat}{K:KD}(h:uu K rd x):∃v Δ r,x=some (v,Δ,r)/\K v Δ rd:=by
 unfold uu at h;split at h
 ·exact⟨_,_,_,rfl,h⟩
 ·exact h.elim
theorem iM.mono {P:Program}{g:FuncId}{args:List V}{o:Nat->ab}{nx fr:Nat}{K K':KD}{X X':XD}(hK:∀v Δ r,K v Δ r->K' v Δ r)(hX:∀v w r,X v w r->X' v w r)(h:iM P g args o nx fr K X):iM P g args o nx fr K' X':=by
 obtain⟨rd,Δ,h1,⟨rs,h2,h3⟩|⟨x,h2,h3⟩|⟨v,h2,h3⟩⟩:=h
 ·exact⟨rd,Δ,h1, .inl ⟨rs,h2,hK _ _ _ h3⟩⟩
 ·exact⟨rd,Δ,h1, .inr (.inl ⟨x,h2,hX _ _ _ h3⟩)⟩
 ·exact⟨rd,Δ,h1, .inr (.inr ⟨v,h2,hK _ _ _ h3⟩)⟩
theorem sb.mono {P:Program}{g:FuncId}{ds:List D}{Kf Kb KX Kf' Kb' KX':V->Prop}(h1:∀v,Kf v->Kf' v)(h2:∀v,Kb v->Kb' v)(h3:∀v,KX v->KX' v)(h:sb P g ds Kf Kb KX):sb P g ds Kf' Kb' KX':=by
 rcases h with⟨rs,a,b|⟨b,c⟩⟩|⟨x,a,b,c⟩|⟨v,a,b⟩
 ·exact .inl ⟨rs,a, .inl (h1 _ b)⟩
 ·exact .inl ⟨rs,a, .inr ⟨b,h2 _ c⟩⟩
 ·exact .inr (.inl ⟨x,a,b,h3 _ c⟩)
 ·exact .inr (.inr ⟨v,a,h1 _ b⟩)
theorem E5{s:S}{fr:Nat}{o:bI}{K K':KD}{X X':XD}(hK:∀v Δ r,K v Δ r->K' v Δ r)(hX:∀v w r,X v w r->X' v w r)(h:Mh P K X fr o s):zT P s fr o K' X':=by
 unfold Mh at h
 split at h
 ·rename_i f args Ia
  obtain⟨c,h1,h2,h3⟩:=yK Ia
  subst h3
  unfold zT
  simp only[h1,h2]
  unfold Bj rk at h
  split at h
  ·rename_i g first cap hf
   simp only[hf]
   split at h
   ·rename_i ds eK
    simp only[eK]
    refine h.elim (fun h=> .inl ?_) (fun h=> .inr (iM.mono hK hX h))
    refine sb.mono (fun v h=> ?_) (fun v h=> ?_) (fun v h=> ?_) h<;>(rw[h1]at h)
    ·exact hK _ _ _ h
    ·exact hK _ _ _ h
    ·exact hX _ _ _ h
   ·rename_i eK
    simp only[eK]
    exact iM.mono hK hX h
  ·exact h.elim
 ·rename_i Ia
  obtain⟨v,Δ,rd,he,h⟩:=G1 h
  unfold zT
  split
  ·rename_i c hc
   split
   ·rename_i f hf
    exact absurd Ia (by simp[eg,hc,hf])
   ·simp only[he];exact hK _ _ _ h
  ·simp only[he];exact hK _ _ _ h
theorem Bl{s:S}{fr:Nat}{o:bI}{K K':KD}{X X':XD}(hK:∀v Δ r,K v Δ r->K' v Δ r)(hX:∀v w r,X v w r->X' v w r)(h:zT P s fr o K X):zT P s fr o K' X':=by
 unfold zT at h|-
 split at h
 ·rename_i c hc
  rw[hc]at h|-
  split at h
  ·rename_i f hf
   (try simp only[hf])
   split at h
   ·rename_i vL
    (try simp only[vL])
    split at h
    ·exact h.elim (fun h=> .inl (sb.mono (fun v h=>hK _ _ _ h) (fun v h=>hK _ _ _ h) (fun v h=>hX _ _ _ h) h)) (fun h=> .inr (iM.mono hK hX h))
    ·exact iM.mono hK hX h
   ·exact h.elim
  ·rename_i hf
   split at h
   ·rename_i he
    (try simp only[he])
    exact hK _ _ _ h
   ·exact h.elim
 ·split at h
  ·rename_i he
   (try simp only[he]);exact hK _ _ _ h
  ·exact h.elim
theorem jj{KB KB':List Nat->Fp->Prop}{pr:List (List Nat)}(hK:∀l fp,KB l fp->KB' l fp):∀ (l:List bI) (fr:Nat) (s:S) (fp:Fp) (bad ws:List Nat),gP P KB pr l fr s fp bad ws->gP P KB' pr l fr s fp bad ws
 |[],_,_,_,_,_,h=>hK _ _ h
 |o::l,fr,s,fp,bad,ws,h=>by
  unfold gP at h|-
  split
  ·rename_i hb
   rw[if_pos hb]at h
   exact jj hK l _ _ _ _ _ h
  ·rename_i hb
   rw[if_neg hb]at h
   split at h
   ·exact Bl (fun v Δ r h=>jj hK l _ _ _ _ _ h) (fun _ _ _ h=>h) h
   ·split at h
    ·split at h
     ·rename_i e;simp only[e,if_true]
      exact Bl (fun v Δ r h=>jj hK l _ _ _ _ _ h) (fun _ _ _ h=>h) h
     ·rename_i e;simp only[e,if_false]
      exact jj hK l _ _ _ _ _ h
    ·exact jj hK l _ _ _ _ _ h
    ·exact h.elim
theorem jk{K K':S->Fp->Prop}{KP KP':V->List Nat->Fp->Prop}{pr:List (List Nat)}(hK:∀s fp,K s fp->K' s fp)(hP:∀v l fp,KP v l fp->KP' v l fp):∀ (l:List bI) (fr:Nat) (s:S) (fp:Fp),nS P K KP pr l fr s fp->kG P K' KP' pr l fr s fp
 |[],_,_,_,h=>hK _ _ h
 |o::l,fr,s,fp,h=>by
  have hB:∀v ws (rdl:List Nat),G0 P (KP v) pr l (fr+1) (fp++[(rdl,[])]) [fp.length] (ws++fp.flatMap (·.2)) ⟨aY s.env o.dst .aa,s.o,s.nx⟩->
   gP P (KP' v) pr l (fr+1) ⟨aY s.env o.dst .aa,s.o,s.nx⟩ (fp++[(rdl,[])]) [fp.length] (ws++fp.flatMap (·.2)):=fun v ws rdl h=>jj (fun a b h=>hP v a b h) l _ _ _ _ _ h
  unfold nS at h
  unfold kG
  split at h
  ·rename_i hg
   (try simp only[hg])
   exact E5 (fun v Δ r h=>jk hK hP l _ _ _ h) hB h
  ·rename_i d want hg
   (try simp only[hg])
   generalize s.env d=v at h
   unfold jB at h
   split at h
   ·rename_i bb
    by_cases e:bb=want
    ·subst e
     simp only[if_true]
     exact E5 (fun v Δ r h=>jk hK hP l _ _ _ h) hB (h.1 aL)
    ·simp only[if_neg e]
     exact jk hK hP l _ _ _ (h.2 (by simpa using e))
   ·exact jk hK hP l _ _ _ h
   ·exact h.elim
theorem fq:∀ (c:IC) (Q Q':fm->S->Prop) (s:S),(∀e s,Q e s->Q' e s)->lQ P n b rd c Q s->ta P n b rd c Q' s
 | .skip,_,_,_,hQ,h=>hQ _ _ h
 | .ae l,_,_,_,hQ,h=>rm (fun s h=>hQ _ _ h) (fun v s h=>hQ _ _ h) l _ h
 | .cT l pr,_,_,_,hQ,h=>by
   unfold lQ at h
   generalize rl l 0=sp at h
   cases sp with
   |none=>exact .inl (jk (fun s fp h=>⟨h.1,hQ _ _ h.2⟩) (fun v l fp h=>⟨h.1,hQ _ _ h.2⟩) l _ _ _ h)
   |some m=>exact .inr ⟨m,h.1,h.2.1,jk (fun s fp h=>⟨h.1,rm (fun s h=>hQ _ _ h) (fun v s h=>hQ _ _ h) _ _ h.2⟩) (fun v l fp h=>h.elim) _ _ _ _ h.2.2⟩
 | .seq x y,Q,Q',s,hQ,h=>fq x _ _ s (fun e s h=>by
  unfold pE at h|-
  cases e with
  |normal=>exact fq y _ _ s hQ h
  |_=>exact hQ _ _ h) h
 | .cond c x y,Q,Q',s,hQ,h=>by
   unfold lQ xa iw at h
   unfold ta
   split at h
   ·rename_i t ht
    simp only[ht]
    exact⟨fun e=>fq x _ _ s hQ (h.1 e),fun e=>fq y _ _ s hQ (h.2 e)⟩
   ·rename_i ht
    simp only[ht]
    exact⟨fq x _ _ s hQ h.1,fq y _ _ s hQ h.2⟩
   ·exact h.elim
 | .block id x,Q,Q',s,hQ,h=>fq x _ _ s (fun e s h=>by
  unfold eW at h|-
  cases e with
  |exit j=>
   simp only at h|-
   split
   ·rename_i e;rw[if_pos e]at h;exact hQ _ _ h
   ·rename_i e;rw[if_neg e]at h;exact hQ _ _ h
  |_=>exact hQ _ _ h) h
 | .loop x,Q,Q',s,hQ,h=>by
   obtain⟨ι,st,bA,oP,i0,h0,hle,h2⟩:=h
   refine⟨fun m s=>∃i,bA i/\oP i=m/\s=st i,⟨oP i0,st i0,hle,i0,h0,rfl,rfl⟩, ?_⟩
   rintro m s0 ⟨i,hg,rfl,rfl⟩
   refine fq x _ _ _ (fun e s h=> ?_) (h2 i hg)
   cases e with
   |normal=>
    obtain⟨j,k1,k2,k3⟩:=h
    exact⟨oP j,st j,k2,k3,j,k1,rfl,rfl⟩
   |_=>exact hQ _ _ h
 | .exit id,_,_,_,hQ,h=>hQ _ _ h
 | .ret,_,_,_,hQ,h=>hQ _ _ h
 | .Gi g ps x y,_,_,_,hQ,h=>⟨h.1,match h.2 with
   | .inl h=>⟨_, .inl rfl,rh hQ h⟩
   | .inr ⟨s',hle,h⟩=>⟨s', .inr hle,rh hQ h⟩⟩
 | .bad,_,_,_,_,h=>h.elim
end
theorem aT.aF {P:Program}(bc:P.follows .mixedOrders=true){f:FuncId}{n:Nat}{ic:IC}{rs:List ResultVar}{ds:List D}{out:R}(hf:aH P f n ic rs)(hl:ds.length<=n)
 (h:lQ P n 0 false ic (Dc P rs out) ⟨cC (ds.map .d),fun _=> .no,0⟩):aT P f ds out:=
 aT.uq bc hf hl (fq ic _ _ _ (fun _ _ h=>h) h)
def J2(P:Program)(rs:List ResultVar)(K X:V->(Nat->ab)->Nat->Prop)(e:fm)(s:S):Prop:=lM P rs K X e s
theorem cX.aF {P:Program}(bc:P.follows .mixedOrders=true){f:FuncId}{n:Nat}{ic:IC}{rs:List ResultVar}{args:List V}{o:Nat->ab}{nx:Nat}{K X:V->(Nat->ab)->Nat->Prop}(hf:aH P f n ic rs)(hl:args.length<=n)
 (h:lQ P n nx false ic (J2 P rs K X) ⟨cC args,o,nx⟩):cX P f args o nx K X:=
 cX.uq bc hf hl (fq ic _ _ _ (fun _ _ h=>h) h)
section
variable {P:Program}{g:FuncId}{ds:List D}{o:Nat->ab}{nx:Nat}{K X:V->(Nat->ab)->Nat->Prop}{all:List V}
theorem aC{rs:List D}(h:aT P g ds (.ret rs))(hf:D.jy rs=true)(hk:K (jb rs) o (nx+1)):ur P g o nx K X ds all:= .inl ⟨.ret rs,h, .inr (.inl ⟨hf,hk⟩)⟩
theorem a8{rs:List D}(h:aT P g ds (.ret rs))(hk:K (jb rs) (put o (cg o (V.bf all))) (nx+1)):ur P g o nx K X ds all:= .inl ⟨.ret rs,h, .inl hk⟩
theorem fP(h:cX P g all o nx K X):ur P g o nx K X ds all:= .inr (.inl h)
theorem dF{e:Nat->V}{ds:Option (List D)}(h:cX P g all o nx K X):mY P g K X ⟨e,o,nx⟩ all ds:=by
 cases ds with
 |some ds=>exact(.inr (.inl h):ur P g o nx K X ds all)
 |none=>exact(.inl h:Bg P g nx K X all o)
theorem bg(h:cX P g all o nx K X):Bg P g nx K X all o:= .inl h
variable {K:KD}{X:XD}{rd:List Nat}{fr:Nat}
theorem aV{rs:List D}(h:aT P g ds (.ret rs))(hf:D.jy rs=true)(hk:K (jb rs) [] rd):rj P g K X o nx fr rd ds all:= .inl (.inl ⟨rs,h, .inr ⟨hf,hk⟩⟩)
theorem dc{rs:List D}(h:aT P g ds (.ret rs))(hk:K (jb rs) (cg o (V.bf all)) rd):rj P g K X o nx fr rd ds all:= .inl (.inl ⟨rs,h, .inl hk⟩)
theorem rn{v:V}{s5:List Nat}{Δ:List (Nat×ab)}(nP:s5.all (fun id=>decide (id<nx))=true)(h:yw P g all s5 o fr v Δ)(hk:K v Δ s5):rj P g K X o nx fr rd ds all:= .inr ⟨s5,Δ,nP, .inr (.inr ⟨v,h,hk⟩)⟩
end
theorem eC{P:Program}{f:V}{args:List V}{o:Nat->ab}{K:V->Prop}{c:Bool}(rs:List D)(h:l0 c (Bf P f args o rs))(hk:K (V.yG c (jb rs))):E1 P f args o K c:=⟨rs,h,hk⟩
theorem ai{t:Bool}{A B:Prop}(h:t=true->A)(h2:t=false->B):iw A B t:=⟨h,h2⟩
theorem aI{pr:List (List Nat)}{nx:Nat}{Q:fm->S->Prop}{s:S}{fp:List (List Nat×List Nat)}(h:dX pr fp=true)(h2:Q .normal ⟨s.env,s.o,nx⟩):Nj pr nx Q s fp:=⟨h,h2⟩
@[go_sem] theorem Zg (o:Nat->ab):put o []=o:=rfl
@[go_sem] theorem Wz (o:Nat->ab) (x:Nat×ab) (l:List (Nat×ab)):put o (x::l)=put (aA o x.1 x.2) l:=rfl
@[go_sem] theorem ad {α:Type} (f:Nat->α) (i:Nat) (x:α):aA f i x i=x:=aL
@[go_sem] theorem ag {α:Type} (f:Nat->α) (i j:Nat) (x:α) (h:j≠i):aA f i x j=f j:=by simp[h]
@[go_sem] theorem Nl (v:V) (l:List V):cC (v::l) 0=v:=rfl
@[go_sem] theorem Nn (v:V) (l:List V) (i:Nat):cC (v::l) (i+1)=cC l i:=rfl
@[go_sem] theorem Qt (i:Nat):cC [] i= .bU []:=by simp[cC]
@[go_sem] theorem WA {P:Program} {o:Nat->ab} {t:TypeId} {id off:Nat}:mQ P o t (.ptr id off)=match o id with
 | .row cs=>match ew P t cs off with
   |some v=>some (v,[],[id])
   |none=>none
 |_=>none:=by unfold mQ;exact Eq.trans rfl rfl
@[go_sem] theorem Zh {P:Program} {o:Nat->ab} {t:TypeId} {cs:List D} {off:Nat}:mQ P o t (.pp cs off)=match ew P t (cs.map .d) off with
 |some v=>some (v,[],[])
 |none=>none:=by unfold mQ;exact Eq.trans rfl rfl
@[go_sem] theorem Zi {P:Program} {o:Nat->ab} {t:TypeId} {id ep i sz off:Nat}:mQ P o t (.pe id ep i sz off)=match o id with
 | .arr ij _ qC es=>if ep=ij/\sz=qC then match es[i]? with
  |some e=>match ew P t (e.cells.map .d) off with
   |some v=>some (v,[],[id])
   |none=>none
  |none=>none
   else none
 |_=>none:=by unfold mQ;exact Eq.trans rfl rfl
section
variable {P:Program}{o:Nat->ab}{t:TypeId}{op:BinOp}{oD:Bool}
@[go_sem] theorem WB {k:IntKind} {a b:Int}:eT P o op t oD (.d (.int k a)) (.d (.int k b))=match AZ op k a b with
 |some v=>one v
 |none=>qR P o op t oD (.d (.int k a)) (.d (.int k b)):=by
  simp only[eT,yk,if_true]
  cases AZ op k a b<;>rfl
@[go_sem] theorem WC {a b:Bool} (h:lN P t=true):eT P o .eql t oD (.d (.bool a)) (.d (.bool b))=one (.d (.bool (a==b))):=by simp only[eT,yk,JI,h,if_true]
@[go_sem] theorem WD {a b:Bool} (h:lN P t=true):eT P o .neq t oD (.d (.bool a)) (.d (.bool b))=one (.d (.bool (a !=b))):=by simp only[eT,yk,JI,h,if_true]
@[go_sem] theorem WE {a b:List UInt8}:eT P o .eql t oD (.d (.str a)) (.d (.str b))=one (.d (.bool (a==b))):=IU
@[go_sem] theorem WG {a b:List UInt8}:eT P o .neq t oD (.d (.str a)) (.d (.str b))=one (.d (.bool (a !=b))):=IU
@[go_sem] theorem WH {a b:List D}:eT P o op t oD (.d (.agg a)) (.d (.agg b))=qR P o op t oD (.d (.agg a)) (.d (.agg b)):=IU
theorem MF{x:V}{y:V}(h:match y with| .d (.int _ _)| .d (.bool _)| .d (.str _)=>False|_=>True):yk P op t x y=none:=by
 unfold yk
 split<;>first|exact h.elim|rfl
@[go_sem] theorem Ty {x:V}:eT P o op t oD x .bd=qR P o op t oD x .bd:=Iy
@[go_sem] theorem Tz {x:V}:eT P o op t oD x (.d .gC)=qR P o op t oD x (.d .gC):=Iy
@[go_sem] theorem TA {x:V}:eT P o op t oD x (.d .ma)=qR P o op t oD x (.d .ma):=Iy
@[go_sem] theorem TC {x:V}:eT P o op t oD x (.d .b7)=qR P o op t oD x (.d .b7):=Iy
@[go_sem] theorem TD {x:V}:eT P o op t oD x (.d .ig)=qR P o op t oD x (.d .ig):=Iy
@[go_sem] theorem Zj {b:Bool}:Gf .not (.d (.bool b))=some (.d (.bool !b)):=IX
@[go_sem] theorem Zk:Gf .not .eV=some .eV:=IX
@[go_sem] theorem Zl {k:IntKind} {n:Int}:Gf .neg (.d (.int k n))=some (.d (.int k (k.wrap (-n)))):=IX
end
@[go_sem] theorem D.WI (cs:List D):(D.agg cs).cells=cs:=rfl
@[go_sem] theorem D.WK (k:IntKind) (n:Int):(D.int k n).cells=[.int k n]:=rfl
@[go_sem] theorem D.TE (b:Bool):(D.bool b).cells=[.bool b]:=rfl
@[go_sem] theorem D.WL (b:List UInt8):(D.str b).cells=[.str b]:=rfl
@[go_sem] theorem D.Zm (b:List D):(D.sl b).cells=[.sl b]:=rfl
@[go_sem] theorem D.Zn (a b:List D):(D.mp a b).cells=[.mp a b]:=rfl
@[go_sem] theorem D.Qu (t:TypeId) (x:D):(D.iface t x).cells=[.iface t x]:=rfl
@[go_sem] theorem D.TF:D.gC.cells=[.gC]:=rfl
@[go_sem] theorem D.TG:D.ma.cells=[.ma]:=rfl
@[go_sem] theorem D.TH:D.b7.cells=[.b7]:=rfl
@[go_sem] theorem D.TI:D.ig.cells=[.ig]:=rfl
attribute [go_sem] V.ofConst V.cZ AZ JI pM Di wV oj gM gN q9 fM lO pO pP pQ yl jh JJ lK dE bV ew xW rO pc V.cells D.put cg V.ids V.bf jb D.jy D.flat R.flat
attribute [go_sem] xV List.take_succ_cons List.take_zero List.take_nil List.drop_zero List.drop_succ_cons List.drop_nil
attribute [go_sem] List.map_cons List.map_nil List.length_cons List.length_nil List.cons_append List.nil_append List.append_nil List.getElem?_cons_zero List.getElem?_cons_succ Option.bind_some Option.bind_none Option.map_some Option.map_none ab.b8 ab.bY
section
variable {P:Program}{n b:Nat}{rd:Bool}{Q:fm->S->Prop}{s:S}
@[go_sem] theorem Zo:lQ P n b rd .skip Q s=Q .normal s:=propext Iff.rfl
@[go_sem] theorem acm {l:List bI}:lQ P n b rd (.ae l) Q s=pT P (fun v s=>Q (.bD v) s) (Q .normal) l s:=propext Iff.rfl
@[go_sem] theorem acn {l:List bI} {pr:List (List Nat)}:lQ P n b rd (.cT l pr) Q s=J0 P l pr Q s (rl l 0):=propext Iff.rfl
@[go_sem] theorem WM {l:List bI} {pr:List (List Nat)}:J0 P l pr Q s none=nS P (Nj pr (s.nx+l.length) Q) (Bc pr l s Q) pr l s.nx s []:=propext Iff.rfl
theorem Dz{l:List bI}{pr:List (List Nat)}{m:Nat}(h1:m<=l.length)(h2:yE pr m=true)(h3:nS P (E3 P pr (l.drop m) (s.nx+m) Q) (fun _ _ _=>False) pr (l.take m) s.nx s []):J0 P l pr Q s (some m):=⟨h1,h2,h3⟩
theorem mZ{pr:List (List Nat)}{l:List bI}{nx:Nat}{fp:Fp}(h:dX pr fp=true)(h2:pT P (fun v s=>Q (.bD v) s) (Q .normal) l ⟨s.env,s.o,nx⟩):E3 P pr l nx Q s fp:=⟨h,h2⟩
@[go_sem] theorem Zp {k:Nat}:rl [] k=none:=rfl
@[go_sem] theorem Zq {d:Option Nat} {t:Nat} {args:Array Operand} {ts:Array TypeId} {l:List bI} {k:Nat}:rl (⟨d, .call ⟨.value (.tmp t),args,ts⟩,none⟩::l) k=some k:=rfl
@[go_sem] theorem aco {d:Option Nat} {op:Op} {g:Nat×Bool} {l:List bI} {k:Nat}:rl (⟨d,op,some g⟩::l) k=rl l (k+1):=rfl
@[go_sem] theorem Zr {d:Option Nat} {f:Nat} {args:Array Operand} {ts:Array TypeId} {l:List bI} {k:Nat}:rl (⟨d, .call ⟨.value (.func f),args,ts⟩,none⟩::l) k=rl l (k+1):=rfl
@[go_sem] theorem acp {d:Option Nat} {op:Op} {l:List bI} {k:Nat} (h:eg op=none):rl (⟨d,op,none⟩::l) k=rl l (k+1):=by rw[rl.eq_2];simp only[h]
@[go_sem] theorem acq {x y:IC}:lQ P n b rd (.seq x y) Q s=lQ P n b rd x (pE (fun s=>lQ P n b rd y Q s) Q) s:=propext Iff.rfl
@[go_sem] theorem Zs {c:Operand} {x y:IC}:lQ P n b rd (.cond c x y) Q s=xa (lQ P n b rd x Q s) (lQ P n b rd y Q s) (s.ev c):=propext Iff.rfl
@[go_sem] theorem WN {id:Nat} {x:IC}:lQ P n b rd (.block id x) Q s=lQ P n b rd x (eW id Q) s:=propext Iff.rfl
@[go_sem] theorem Zt {x:IC}:lQ P n b rd (.loop x) Q s=uw b (fun Q s=>lQ P n b rd x Q s) Q s:=propext Iff.rfl
@[go_sem] theorem Zu {id:Nat}:lQ P n b rd (.exit id) Q s=Q (.exit id) s:=propext Iff.rfl
@[go_sem] theorem acr:lQ P n b rd .ret Q s=Q .ret s:=propext Iff.rfl
@[go_sem] theorem acs {g:Operand} {ps:List Nat} {x y:IC}:lQ P n b rd (.Gi g ps x y) Q s=yI P n b rd g ps x y Q s (s.ev g):=propext Iff.rfl
@[go_sem] theorem Zv {X:V->S->Prop} {K:S->Prop}:pT P X K [] s=K s:=propext Iff.rfl
@[go_sem] theorem WO {X:V->S->Prop} {K:S->Prop} {d:Option Nat} {op:Op} {l:List bI}:pT P X K (⟨d,op,none⟩::l) s=Bi P X (pT P X K l) ⟨d,op,none⟩ s:=propext Iff.rfl
@[go_sem] theorem WQ {X:V->S->Prop} {K:S->Prop} {d:Option Nat} {op:Op} {g:Nat} {w:Bool} {l:List bI}:pT P X K (⟨d,op,some (g,w)⟩::l) s=yH P X (pT P X K l) ⟨d,op,some (g,w)⟩ s (l4 (s.env g) w):=propext Iff.rfl
variable {X:V->S->Prop}{K:S->Prop}{d:Option Nat}{op:Op}{g:Option (Nat×Bool)}{f:Operand}{args:Array Operand}{ts:Array TypeId}{c:Bool}
@[reducible] def WR:Op->Bool
  | .call c=>match c.callee with
    | .value _=>true
    | .invoke .. =>true
    |_=>false
  | .panic _=>true
  | .next .. =>true
  |_=>false
@[go_sem] theorem ade (h:WR op=false):Bi P X K ⟨d,op,g⟩ s=ko (fun v Δ=>K ⟨aY s.env d v,put s.o Δ,s.nx+1⟩) (fS P s s.nx op):=by
  unfold Bi
  cases op with
  |call c=>
   obtain⟨Jy,args,ts⟩:=c
   cases Jy with
   |value f=>simp[WR]at h
   |invoke r m=>simp[WR]at h
   |_=>rfl
  |panic x=>simp[WR]at h
  |next x str=>simp[WR]at h
  |_=>rfl
@[go_sem] theorem Zw {x:Operand} {str:Bool}:Bi P X K ⟨d, .next x str,g⟩ s=JY (fun v Δ=>K ⟨aY s.env d v,put s.o Δ,s.nx+1⟩) str (oe s.o (s.ev x) str) (og s.o (s.ev x)):=propext Iff.rfl
@[go_sem] theorem Zx:Bi P X K ⟨d, .call ⟨.value f,args,ts⟩,g⟩ s=sc P (fun v o' nx'=>K ⟨aY s.env d v,o',nx'⟩) (fun v o' nx'=>X v ⟨s.env,o',nx'⟩) s (s.ev f) (args.toList.map s.ev):=propext Iff.rfl
@[go_sem] theorem TJ {m:String}:Bi P X K ⟨d, .call ⟨.invoke f m,args,ts⟩,g⟩ s=JX P (fun v o' nx'=>K ⟨aY s.env d v,o',nx'⟩) (fun v o' nx'=>X v ⟨s.env,o',nx'⟩) s (args.toList.map s.ev) (tX P m (s.ev f)):=propext Iff.rfl
@[go_sem] theorem WS:Bi P X K ⟨d, .panic f,g⟩ s=GZ (fun v=>X v s) (s.ev f):=propext Iff.rfl
@[go_sem] theorem WT:yH P X K ⟨d, .call ⟨.value f,args,ts⟩,g⟩ s (some c)=Dy P X K ⟨d, .call ⟨.value f,args,ts⟩,g⟩ s f args.toList c:=propext Iff.rfl
theorem fD{e:Nat->V}{ob:Nat->ab}{nx:Nat}(h:E1 P ((⟨e,ob,nx⟩:S).ev f) (args.toList.map (⟨e,ob,nx⟩:S).ev) ob (fun v=>K ⟨aY e d v,ob,nx+1⟩) c):Dy P X K ⟨d,op,g⟩ ⟨e,ob,nx⟩ f args.toList c:= .inl h
theorem Bm{s:S}{o:bI}{l:List Operand}(h:iw (Bi P X K o s) (K ⟨aY s.env o.dst (.bU []),s.o,s.nx+1⟩) c):Dy P X K o s f l c:= .inr h
@[go_sem] theorem WU (h:kI op=true):yH P X K ⟨d,op,g⟩ s (some c)=ko (fun v _=>K ⟨aY s.env d v,s.o,s.nx+1⟩) (kH c (fS P s s.nx op)):=by
  have h2:eg op=none:=by
   cases hc:eg op with
   |none=>rfl
   |some x=>
    exfalso
    unfold eg at hc
    split at hc
    ·split at hc
     ·rename_i hv;simp[kI,hv]at h
     ·cases hc
    ·cases hc
  simp only[yH,h2,h,if_true]
@[go_sem] theorem WV (h:kI op=false) (h2:eg op=none):yH P X K ⟨d,op,g⟩ s (some c)=iw (Bi P X K ⟨d,op,g⟩ s) (K ⟨aY s.env d (.bU []),s.o,s.nx+1⟩) c:=by
  simp[yH,h2,h]
@[go_sem] theorem TK {l:List Operand}:Dy P X K ⟨d,op,g⟩ s f l false=K ⟨aY s.env d (.bU []),s.o,s.nx+1⟩:=by
  refine propext ⟨fun h=> ?_,fun h=> .inr ⟨(fun e=>by cases e),fun _=>h⟩⟩
  rcases h with⟨rs,_,h⟩|h
  ·exact h
  ·exact h.2 rfl
@[go_sem] theorem WW {l:List Operand} (hl:args.toList=l):Dy P X K ⟨d, .call ⟨.value f,args,ts⟩,g⟩ s f l true=Bi P X K ⟨d, .call ⟨.value f,args,ts⟩,g⟩ s:=by
  subst hl
  refine propext ⟨fun h=> ?_,fun h=> .inr ⟨fun _=>h,(fun e=>by cases e)⟩⟩
  rcases h with⟨rs,h1,h⟩|h
  ·have h1:=h1 rfl
   unfold Bf at h1
   unfold Bi sc mY
   simp only
   split at h1
   ·rename_i fv gg first cap hf
    simp only[hf]
    split at h1
    ·rename_i ds eK
     simp only[eK]
     exact .inl ⟨.ret rs,h1.1, .inr (.inl ⟨h1.2,h⟩)⟩
    ·exact h1.elim
   ·exact h1.elim
  ·exact h.1 rfl
variable {KV:KD}{XV:XD}
@[go_sem] theorem Zy {fr:Nat}:Mh P KV XV fr ⟨d, .call ⟨.value f,args,ts⟩,g⟩ s=Bj P KV XV s.o s.nx fr (n6 s (.call ⟨.value f,args,ts⟩)) (s.ev f) (args.toList.map s.ev):=propext Iff.rfl
@[go_sem] theorem adf {fr:Nat} (h2:eg op=none):Mh P KV XV fr ⟨d,op,g⟩ s=uu KV (n6 s op) (fS P s fr op):=by simp[Mh,h2]
variable {KS:S->Prop}
@[go_sem ↓] theorem Np:pE KS Q .normal s=KS s:=propext Iff.rfl
@[go_sem ↓] theorem TL {id:Nat}:pE KS Q (.exit id) s=Q (.exit id) s:=propext Iff.rfl
@[go_sem ↓] theorem WX:pE KS Q .ret s=Q .ret s:=propext Iff.rfl
@[go_sem ↓] theorem WY {v:V}:pE KS Q (.bD v) s=Q (.bD v) s:=propext Iff.rfl
@[go_sem ↓] theorem Mi {id:Nat}:eW id Q .normal s=Q .normal s:=propext Iff.rfl
@[go_sem ↓] theorem Qv {id:Nat}:eW id Q (.exit id) s=Q .normal s:=by simp[eW]
@[go_sem ↓] theorem Nq {id j:Nat} (h:j≠id):eW id Q (.exit j) s=Q (.exit j) s:=by simp[eW,h]
@[go_sem ↓] theorem TM {id:Nat}:eW id Q .ret s=Q .ret s:=propext Iff.rfl
@[go_sem ↓] theorem TN {id:Nat} {v:V}:eW id Q (.bD v) s=Q (.bD v) s:=propext Iff.rfl
def Nr(out:R)(x:Option (List D)):Prop:=match x with|some ds=>out= .ret ds|none=>False
@[go_sem] theorem WZ {out:R} {ds:List D}:Nr out (some ds)=(out= .ret ds):=propext Iff.rfl
def TO(out:R)(x:Option D):Prop:=match x with|some d=>out= .bD d|none=>False
@[go_sem] theorem W0 {out:R} {d:D}:TO out (some d)=(out= .bD d):=propext Iff.rfl
def Ns(out:R)(o:Nat->ab)(x:Option (List V)):Prop:=match x with|some vs=>Nr out (bV o vs)|none=>False
@[go_sem] theorem W1 {out:R} {o:Nat->ab} {vs:List V}:Ns out o (some vs)=Nr out (bV o vs):=propext Iff.rfl
variable {rs:List ResultVar}{out:R}
@[go_sem ↓] theorem W2:Dc P rs out .ret s=Ns out s.o (lK P s rs):=propext Iff.rfl
@[go_sem ↓] theorem Nt:Dc P rs out .normal s=Ns out s.o (lK P s rs):=propext Iff.rfl
@[go_sem ↓] theorem W3 {v:V}:Dc P rs out (.bD v) s=TO out (dE s.o v):=propext Iff.rfl
def Bn(K:V->(Nat->ab)->Nat->Prop)(o:Nat->ab)(nx:Nat)(x:Fix (Option (List V)) (K,o,nx)):Prop:=match x with
 |some [v]=>K v o nx
 |some vs=>K (.bU vs) o nx
 |none=>False
@[go_sem] theorem Zz {K:V->(Nat->ab)->Nat->Prop} {o:Nat->ab} {nx:Nat} {v:V}:Bn K o nx (some [v])=K v o nx:=propext Iff.rfl
@[go_sem] theorem ZA {K:V->(Nat->ab)->Nat->Prop} {o:Nat->ab} {nx:Nat}:Bn K o nx (some [])=K (.bU []) o nx:=propext Iff.rfl
@[go_sem] theorem ZB {K:V->(Nat->ab)->Nat->Prop} {o:Nat->ab} {nx:Nat} {v u:V} {l:List V}:Bn K o nx (some (v::u::l))=K (.bU (v::u::l)) o nx:=propext Iff.rfl
theorem E6{K X:V->(Nat->ab)->Nat->Prop}:lM P rs K X .ret s=Bn K s.o s.nx (lK P s rs):=by
 unfold lM Bn
 cases lK P s rs with
 |none=>rfl
 |some l=>match l with
  |[]=>rfl
  |[_]=>rfl
  |_::_::_=>rfl
@[go_sem ↓] theorem ZC {K X:V->(Nat->ab)->Nat->Prop}:J2 P rs K X .ret s=Bn K s.o s.nx (lK P s rs):=E6
@[go_sem ↓] theorem Qw {K X:V->(Nat->ab)->Nat->Prop}:J2 P rs K X .normal s=Bn K s.o s.nx (lK P s rs):=(E6 (X:=X):lM P rs K X .ret s=_)
@[go_sem ↓] theorem ZD {K X:V->(Nat->ab)->Nat->Prop} {v:V}:J2 P rs K X (.bD v) s=X v s.o s.nx:=propext Iff.rfl
variable {KE:S->Fp->Prop}{KP:V->List Nat->Fp->Prop}{pr:List (List Nat)}{fr:Nat}{fp:Fp}
@[go_sem] theorem ZE:nS P KE KP pr [] fr s fp=KE s fp:=propext Iff.rfl
@[go_sem] theorem W4 {d:Option Nat} {op:Op} {l:List bI}:nS P KE KP pr (⟨d,op,none⟩::l) fr s fp=
 Mh P (fun v Δ rd=>nS P KE KP pr l (fr+1) ⟨aY s.env d v,put s.o Δ,s.nx⟩ (fp++[(rd,Δ.map (·.1))]))
  (fun v ws rd=>G0 P (KP v) pr l (fr+1) (fp++[(rd,[])]) [fp.length] (ws++fp.flatMap (·.2)) ⟨aY s.env d .aa,s.o,s.nx⟩) fr ⟨d,op,none⟩ s:=propext Iff.rfl
@[go_sem] theorem W5 {d:Option Nat} {op:Op} {g:Nat} {w:Bool} {l:List bI}:nS P KE KP pr (⟨d,op,some (g,w)⟩::l) fr s fp=
 jB w (Mh P (fun v Δ rd=>nS P KE KP pr l (fr+1) ⟨aY s.env d v,put s.o Δ,s.nx⟩ (fp++[(rd,Δ.map (·.1))]))
  (fun v ws rd=>G0 P (KP v) pr l (fr+1) (fp++[(rd,[])]) [fp.length] (ws++fp.flatMap (·.2)) ⟨aY s.env d .aa,s.o,s.nx⟩) fr ⟨d,op,some (g,w)⟩ s)
   (nS P KE KP pr l (fr+1) ⟨aY s.env d (.bU []),s.o,s.nx⟩ (fp++[([],[])])) (s.env g):=propext Iff.rfl
end
attribute [go_sem] WR eg kI fS one lP aY S.ev Bf
theorem aj{ι:Type}{b:Nat}{st:ι->S}{bA:ι->Prop}{oP:ι->Nat}{i:ι}{s:S}(j:ι)(h1:bA j)(h2:oP j<oP i)(h3:aZ b s (st j)):E4 b st bA oP i s:=⟨j,h1,h2,h3⟩
attribute [irreducible] J0 E3 lQ pT Bi yH Dy sc mY Bh JW JX E1 ur Bg ko GZ iw jB JZ rj ri rk Bj uu Mh nS G0 yI w9 J2 Bn Nj xa uw Nr TO Ns uv E4
end
section
section
variable (ρ:Nat->Option Nat)(o' o:Nat->ab)(nx:Nat)
end
section
variable {M M':Nat->Prop}{φ aE:Place}{H H':Hp}{w:World}{ρ:Nat->Option Nat}{nx:Nat}
end
end
@[go_sem] theorem ny (v:V) (l:List V):aS (v::l) 0=v:=rfl
@[go_sem] theorem nz (v:V) (l:List V) (i:Nat):aS (v::l) (i+1)=aS l i:=rfl
@[go_sem] theorem pU (i:Nat):aS [] i= .aa:=by simp[aS]
@[go_sem] theorem Qx (k:Nat):(0<=(k:Int))=True:=aL
attribute [go_sem] List.getElem?_map List.length_map Int.toNat_natCast
attribute [go_sem] ey List.flatMap_cons List.flatMap_nil
attribute [go_sem] isConst qR MI qP qQ Al qO pg CV MJ wA Gk oB oC wz tL tM ph
attribute [go_sem] n6 V.refs V.aG
attribute [go_sem] List.all_nil List.all_cons Option.some.injEq D.int.injEq D.bool.injEq Nat.zero_add Nat.add_zero
theorem wrap64{n:Int}(h1: -9223372036854775808<=n)(h2:n<=9223372036854775807):IntKind.i64.wrap n=n:=by
 unfold IntKind.wrap
 have e1:((2:Int)^IntKind.i64.bits)=18446744073709551616:=bF
 have e2:((2:Int)^(IntKind.i64.bits - 1))=9223372036854775808:=bF
 have e3:IntKind.i64.signed=true:=rfl
 simp only[e1,e2,e3,Bool.true_and,decide_eq_true_eq]
 split<;>omega
structure Good (o:Nat->ab) (nx:Nat):Prop where
 fresh:∀id,nx<=id->o id= .no
 refs:∀id,∀r∈(o id).refs,r<nx
theorem Good.nil {nx:Nat}:Good (fun _=> .no) nx:=⟨fun _ _=>rfl,fun id r h=>by cases h⟩
theorem Good.aA {o:Nat->ab}{nx i:Nat}{x:ab}(h:Good o nx)(hi:i<nx)(hx:x.refs.all (fun r=>decide (r<nx))=true):Good (aA o i x) nx:=by
 refine⟨fun id au=> ?_,fun id r hr=> ?_⟩
 ·rw[ag _ _ _ _ (by omega)];exact h.fresh id au
 ·by_cases e:id=i
  ·subst e
   rw[ad]at hr
   simpa using List.all_eq_true.1 hx r hr
  ·rw[ag _ _ _ _ e]at hr
   exact h.refs id r hr
theorem Good.mono {o:Nat->ab}{nx m:Nat}(h:Good o nx)(hm:nx<=m):Good o m:=⟨fun id au=>h.fresh id af,fun id r hr=>Nat.lt_of_lt_of_le (h.refs id r hr) hm⟩
theorem Good.lt {o:Nat->ab}{nx id:Nat}(h:Good o nx)(hn:o id≠ .no):id<nx:=by
 rcases Nat.lt_or_ge id nx with hl|hl
 ·exact hl
 ·exact absurd (h.fresh id hl) hn
theorem V.wk:∀ (l:List V) (i:Nat),∀r∈(aS l i).refs,r∈V.aG l
 |[],i,r,h=>by rw[pU]at h;cases h
 |v::l,0,r,h=>by rw[ny]at h;simp only[V.aG,List.mem_append];exact .inl h
 |v::l,i+1,r,h=>by rw[nz]at h;simp only[V.aG,List.mem_append];exact .inr (V.wk l i r h)
theorem aZ.back {b:Nat}{s:S}{env:Nat->V}{o:Nat->ab}{nx:Nat}(hb:b<=nx)(hn:nx<=s.nx)(hg:Good o nx)(ho:∀id,id<nx->s.o id=o id)
 (he:∀i,env i= .aa\/(env i=s.env i/\∀r∈(env i).refs,r<nx)):aZ b s ⟨env,o,nx⟩:=by
 intro M φ w tm hH hd
 have cB:∀k,cA φ (hp o nx) k->cA φ s.H k:=by
  rintro k ⟨id,h1,h2⟩
  have au:id<nx:=hg.lt (fun e=>by simp only[hp]at h1;rw[e]at h1;cases h1)
  exact⟨id,by simp only[S.H];rw[ho id au];exact h1,h2⟩
 have hB:∀k, ¬ak M φ s.H k-> ¬ak M φ (hp o nx) k:=fun k h h'=>h (h'.imp id (cB k))
 have eJ:∀ (v:V) (val:Value),(∀r∈v.refs,r<nx)->V.den (ak M φ s.H) φ s.H w v val->V.den (ak M φ (hp o nx)) φ (hp o nx) w v val:=fun v val hr h=>
  V.mT (H:=s.H) (H':=hp o nx) hB v val (fun id au=>⟨(ho id (hr id au)).symm,rfl,hr id au⟩) h
 have kP:∀ (v:List V) (val:List Value),(∀r∈V.aG v,r<nx)->V.aD (ak M φ s.H) φ s.H w v val->V.aD (ak M φ (hp o nx)) φ (hp o nx) w v val:=fun v val hr h=>
  V.fN (H:=s.H) (H':=hp o nx) hB v val (fun id au=>⟨(ho id (hr id au)).symm,rfl,hr id au⟩) h
 refine⟨φ,⟨fun id=> ?_,fun id hu=>hg.fresh id (by simpa[S.H]using hu),fun i j k h1 h2 h3 h4=> ?_,fun k hk=>hH.ours k (cB k hk),hH.zO⟩,fun i=> ?_,cB,hb,fun id au hr=> ?_,fun id e' au oX=> ?_⟩
 ·have a7:=hH.ok id
  have hrefs:=hg.refs id
  unfold aN at a7|-
  by_cases au:id<nx
  ·have e:s.H.o id=o id:=ho id au
   rw[e]at a7
   simp only[S.H]at a7|-
   cases hx:o id with
   |no=>trivial
   |row cs=>
    simp only[hx]at a7 hrefs|-
    exact Pq
   |arr ep ty sz es=>
    simp only[hx]at a7|-
    obtain⟨k1,xs,k2,evs,k3,k4,k5⟩:=a7
    exact OQ
   |rN ep es=>
    simp only[hx]at a7|-
    exact MB
   |map kt vt es=>
    simp only[hx]at a7|-
    obtain⟨b,es',clock,k1,k2,k4,k3⟩:=a7
    exact X7
   |gH l=>
    simp only[hx]at a7|-
    exact MB
   |oA l last=>
    simp only[hx]at a7|-
    obtain⟨b,k1,k2⟩:=a7
    exact Pb
   |xT s pos=>
    simp only[hx]at a7|-
    exact a7
   |loop nf n env ps a b st pd=>
    simp only[hx]at a7 hrefs|-
    exact PG
  ·simp only[S.H]
   rw[hg.fresh id (by omega)]
   trivial
 ·have hi:i<nx:=hg.lt (fun e=>by simp only[S.H]at h1;rw[e]at h1;cases h1)
  have hj:j<nx:=hg.lt (fun e=>by simp only[S.H]at h2;rw[e]at h2;cases h2)
  exact hH.apart i j k (by simp only[S.H];rw[ho i hi];exact h1) (by simp only[S.H];rw[ho j hj];exact h2) h3 h4
 ·rcases he i with h|⟨h1,h2⟩
  ·simp only[h];trivial
  ·have:=hd i
   rw[<- h1]at this
   exact eJ _ _ h2 this
 ·have ck:id<nx:=af
  exact⟨by rw[ho id ck];exact hr,rfl⟩
 ·have ck:id<nx:=af
  exact⟨e',by rw[ho id ck];exact oX,Nat.le_refl _,fun _=>rfl⟩
def lb(nx:Nat)(env:Nat->V):List V->Nat->Prop
 |[],_=>True
 |v::l,i=>(v= .aa\/(v=env i/\∀r∈v.refs,r<nx))/\lb nx env l (i+1)
theorem aZ.aR {b:Nat}{e:Nat->V}{so:Nat->ab}{m:Nat}(l:List V){o:Nat->ab}{nx:Nat}(hb:b<=nx)(hn:nx<=m)(hg:Good o nx)(ho:∀id,id<nx->so id=o id)(he:lb nx e l 0):aZ b ⟨e,so,m⟩ ⟨aS l,o,nx⟩:=by
 refine aZ.back hb hn hg ho ?_
 have key:∀ (l:List V) (i:Nat),lb nx e l i->∀j,aS l j= .aa\/(aS l j=e (i+j)/\∀r∈(aS l j).refs,r<nx):=by
  intro l
  induction l with
  |nil=>intro i _ j;rw[pU];exact .inl rfl
  |cons v l ih=>
   intro i h j
   cases j with
   |zero=>rw[ny];exact h.1
   |succ j=>
    rw[nz]
    have:=ih (i+1) h.2 j
    rwa [show i+1+j=i+(j+1) by omega]at this
 intro i
 have:=key l 0 he i
 rwa [Nat.zero_add]at this
theorem F7{nx:Nat}{env:Nat->V}{i:Nat}:lb nx env [] i:=trivial
theorem CK{nx:Nat}{env:Nat->V}{l:List V}{i:Nat}(h:lb nx env l (i+1)):lb nx env (.aa::l) i:=⟨.inl rfl,h⟩
theorem Eh{nx:Nat}{env:Nat->V}{l:List V}{i:Nat}{x:D}(he:env i= .d x)(h:lb nx env l (i+1)):lb nx env (.d x::l) i:=⟨.inr ⟨he.symm,fun r hr=>by simp[V.refs]at hr⟩,h⟩
theorem Mu{nx:Nat}{env:Nat->V}{l:List V}{i:Nat}{v:V}(he:env i=v)(hr:∀r∈v.refs,r<nx)(h:lb nx env l (i+1)):lb nx env (v::l) i:=⟨.inr ⟨he.symm,hr⟩,h⟩
theorem aZ.d0 {e:Nat->V}{so:Nat->ab}{m:Nat}(l:List V)(he:lb 0 e l 0):aZ 0 ⟨e,so,m⟩ ⟨aS l,fun _=> .no,0⟩:=aZ.aR l (Nat.le_refl 0) (Nat.zero_le _) Good.nil (fun _ h=>absurd h (Nat.not_lt_zero _)) he
theorem Io{k:Nat}(h:(k:Int)+1<=9223372036854775807):IntKind.i64.wrap ((k:Int)+1)=((k+1:Nat):Int):=by rw[wrap64 (by omega) h];rfl
theorem Im{k:IntKind}{a b:Int}(h:a=b):V.d (D.int k a)=V.d (D.int k b):=by rw[h]
theorem Bo{P:Program}{g:FuncId}{K:KD}{X:XD}{o:Nat->ab}{nx fr:Nat}{all:List V}{rd:List Nat}{rs:List D}{Δ:List (Nat×ab)}(nP:rd.all (fun id=>decide (id<nx))=true)(h:EV P g all rd o (.ret rs) Δ)(hk:K (jb rs) Δ rd):ri P g K X o nx fr all:=by
 unfold ri
 exact⟨rd,Δ,nP, .inl ⟨rs,h,hk⟩⟩
abbrev D.i (n:Int):D:= .int .i64 n
structure iV where
 name:List UInt8
 args:Int
structure bE where
 cons:List iV
 bB:List iV
inductive Tm where
 |mk (op n:Int) (kids:List Tm)
 deriving Inhabited
structure TB where
 var:Int
 term:Tm
def Tm.op:Tm->Int| .mk op _ _=>op
def Tm.n:Tm->Int| .mk _ n _=>n
def Tm.kids:Tm->List Tm| .mk _ _ l=>l
theorem Tm.ind {P:Tm->Prop}(h:∀op n kids,(∀k∈kids,P k)->P (.mk op n kids)):∀t,P t:=
 fun t=>Tm.rec (motive_1:=P) (motive_2:=fun l=>∀k∈l,P k) (fun op n kids ih=>h op n kids ih) (fun _ h=>by cases h)
  (fun x l hx hl k hk=>(List.mem_cons.1 hk).elim (fun e=>e ▸ hx) (hl k)) t
mutual
def Tm.d:Tm->D
 | .mk op n kids=> .agg [.i op, .i n, .sl (Tm.ds kids)]
def Tm.ds:List Tm->List D
 |[]=>[]
 |t::l=>t.d::Tm.ds l
end
theorem Tm.DA:∀l:List Tm,Tm.ds l=l.map Tm.d
 |[]=>rfl
 |t::l=>by simp[Tm.ds,Tm.DA l]
theorem Tm.ZF (t:Tm):t.d= .agg [.i t.op, .i t.n, .sl (t.kids.map Tm.d)]:=by cases t;simp[Tm.d,Tm.DA,Tm.op,Tm.n,Tm.kids]
@[go_sem] theorem Tm.adg (t:Tm):D.agg [.i t.op, .i t.n, .sl (t.kids.map Tm.d)]=t.d:=(Tm.ZF t).symm
@[go_sem] theorem Tm.acu (t:Tm):D.cells t.d=[.i t.op, .i t.n, .sl (t.kids.map Tm.d)]:=by rw[Tm.ZF];rfl
theorem Tm.dN {P:Tm->Prop}(h:∀t:Tm,(∀k∈t.kids,P k)->P t):∀t,P t:=Tm.ind fun op n kids ih=>h (.mk op n kids) ih
theorem Tm.Bp (op n:Int)(l:List Tm):(Tm.mk op n l).d= .agg [.i op, .i n, .sl (l.map Tm.d)]:=by simp[Tm.d,Tm.DA]
@[reducible] def iV.d (x:iV):D:= .agg [.str x.name, .i x.args]
@[reducible] def bE.d (s:bE):D:= .agg [.sl (s.cons.map iV.d), .sl (s.bB.map iV.d)]
@[reducible] def TB.d (b:TB):D:= .agg [.i b.var, .i b.term.op, .i b.term.n, .sl (b.term.kids.map Tm.d)]
mutual
def Tm.fits:Tm->Prop
 | .mk _ _ kids=>kids.length<=9223372036854775807/\Tm.Bq kids
def Tm.Bq:List Tm->Prop
 |[]=>True
 |t::l=>t.fits/\Tm.Bq l
end
theorem Tm.xc:∀l:List Tm,Tm.Bq l↔∀k∈l,k.fits
 |[]=>by simp[Tm.Bq]
 |t::l=>by simp[Tm.Bq,Tm.xc l]
theorem Tm.bu (t:Tm):t.fits↔t.kids.length<=9223372036854775807/\∀k∈t.kids,k.fits:=by cases t;simp[Tm.fits,Tm.xc,Tm.kids]
mutual
def Tm.l5:Tm->Nat
 | .mk _ _ kids=>1+Tm.lR kids
def Tm.lR:List Tm->Nat
 |[]=>0
 |k::l=>Nat.max k.l5 (Tm.lR l)
end
theorem Tm.Br:∀ {l:List Tm} {k:Tm},k∈l->k.l5<=Tm.lR l
 |x::l,k,h=>by
  simp only[Tm.lR]
  rcases List.mem_cons.1 h with rfl|h
  ·exact Nat.le_max_left _ _
  ·exact Nat.le_trans (Tm.Br h) (Nat.le_max_right _ _)
theorem Tm.nA {t k:Tm}(h:k∈t.kids):k.l5+1<=t.l5:=by
 cases t;simp only[Tm.kids]at h;simp only[Tm.l5];have:=Tm.Br h;omega
mutual
def pre:Tm->Int->List (Tm×Int)
 | .mk op n kids,d=>(.mk op n kids,d)::Nu kids (d+1)
def Nu:List Tm->Int->List (Tm×Int)
 |[],_=>[]
 |k::l,d=>pre k d++Nu l d
end
theorem G2(l:List Tm)(d:Int):Nu l d=l.flatMap fun k=>pre k d:=by
 induction l with
 |nil=>rfl
 |cons k l ih=>simp[Nu,ih]
theorem jC(t:Tm)(d:Int):pre t d=(t,d)::t.kids.flatMap fun k=>pre k (d+1):=by cases t;simp[pre,G2,Tm.kids]
def dG(n low high:Int):Bool:=decide (low<=n)&&decide (n<=high)
def letterF(b:UInt8):Bool:= !((decide ((b.toNat:Int)<97)||decide (122<(b.toNat:Int)))&&(decide ((b.toNat:Int)<65)||decide (90<(b.toNat:Int))))
def jD(s:List UInt8):Bool:=s.all letterF&&dG s.length 1 8
def bT:List iV->List (List UInt8)->Option (List (List UInt8))
 |[],before=>some before
 |x::l,before=>if before.any (· ==x.name)then none else if(!jD x.name|| !dG x.args 0 4)=true then none else bT l (before++[x.name])
def fB:List UInt8:=[70,97,108,115,101]
def tB:List UInt8:=[84,114,117,101]
def mb(x:iV)(s:List UInt8):Bool:=x.name==s&&x.args==0
def jc(s:bE):Bool:=
 if(!dG s.cons.length 2 12||decide (8<(s.bB.length:Int)))=true then false else
 match s.cons with
 |a::b::_=>if(!mb a fB|| !mb b tB)=true then false else
  match bT s.cons []with
  |none=>false
  |some l=>(bT s.bB l).isSome
 |_=>false
mutual
def iy:Tm->Int->Int->Int
 | .mk _ _ kids,left,depth=>if left<1\/depth<1 then -1 else cc kids (left - 1) (depth - 1)
def cc:List Tm->Int->Int->Int
 |[],left,_=>left
 |k::l,left,depth=>if 0<=left then cc l (iy k left depth) depth else left
end
def fE(l:List iV)(n:Int):Int:=match l[n.toNat]? with|some x=>x.args|none=>0
def bt(s:bE)(t:Tm):Bool:=
 let k:Int:=t.kids.length
 if t.op=1 then k==0&&dG t.n 0 19
 else if t.op=2 then k==0&&dG t.n (-1000000) 1000000
 else if t.op=3 then dG t.n 0 (s.cons.length - 1)&&k==fE s.cons t.n
 else if t.op=4 then dG t.n 0 (s.bB.length - 1)&&k==fE s.bB t.n
 else if t.op=5 then dG t.n 0 (s.bB.length - 1)&&decide (k<fE s.bB t.n)
 else if t.op=8 then k==2&&dG t.n 0 19
 else if(dG t.op 6 15)=true then k==2&&t.n==0
 else false
mutual
def jE(s:bE):Tm->Bool
 | .mk op n kids=>bt s (.mk op n kids)&&tc s kids
def tc(s:bE):List Tm->Bool
 |[]=>true
 |k::l=>jE s k&&tc s l
end
def fg(s:bE)(t:Tm):Bool:=decide (0<=iy t 40 12)&&jE s t
mutual
def gr:Tm->Tm->Bool
 | .mk op n kids, .mk op' n' Qy=>op==op'&&n==n'&&kids.length==Qy.length&&iN kids Qy
def iN:List Tm->List Tm->Bool
 |[],_=>true
 |k::l,k'::l'=>gr k k'&&iN l l'
 |_::_,[]=>true
end
def kJ(t:Tm):Bool:=decide (0<=iy t 50 14)
def ft(l:List iV):Bool:=l.all fun x=>decide ((x.name.length:Int)<=30)
def gR(s:bE):Bool:= !(decide (16<(s.cons.length:Int))||decide (12<(s.bB.length:Int)))&&ft s.cons&&ft s.bB
structure cp where
 f:Int
 t:Int
 l:Bool
@[reducible] def cp.d (a:cp):D:= .agg [.i a.f, .i a.t, .bool a.l]
def cp.k (a:cp):Nat:=(a.f*4+a.t).toNat
def cp.v (a:cp):Int:=if a.l=true then 2 else 1
def cp.Mj (a:cp):Prop:=0<=a.f/\a.f<4/\0<=a.t/\a.t<4
def jV:List cp->Int->List Int->Option (List Int)
 |[],_,m=>some m
 |a::l,last,m=>if a.f<0\/4<=a.f\/a.t<0\/4<=a.t\/a.f*4+a.t<=last then none else jV l (a.f*4+a.t) (m.set a.k a.v)
def xd:List Int:=[0,0,0,0,0,0,0,0,0,0,0,0,0,0,0,0]
def sd:Int->List cp->Prop
 |_,[]=>True
 |last,a::l=>a.Mj/\last<a.f*4+a.t/\sd (a.f*4+a.t) l
theorem pV:∀ (l:List cp) (last:Int) (m:List Int),(jV l last m).isSome=true↔sd last l
 |[],_,_=>by simp[jV,sd]
 |a::l,last,m=>by
  have ih:=pV l (a.f*4+a.t) (m.set a.k a.v)
  unfold jV sd cp.Mj
  split
  ·rename_i h
   simp only[Option.isSome_none,Bool.false_eq_true,false_iff]
   rintro⟨⟨h1,h2,h3,h4⟩,h5,_⟩
   omega
  ·rename_i h
   rw[ih]
   constructor
   ·intro h2;exact⟨af,af,h2⟩
   ·intro h2;exact h2.2.2
theorem jl:∀ (l:List cp) (last:Int),sd last l->∀a∈l,a.Mj/\last<a.f*4+a.t
 |[],_,_,a,h=>by cases h
 |b::l,last,hs,a,h=>by
  obtain⟨h1,h2,h3⟩:=hs
  rcases List.mem_cons.1 h with rfl|h
  ·exact⟨h1,h2⟩
  ·have:=jl l _ h3 a h
   exact⟨this.1,af⟩
theorem E7:∀ (l:List cp) (last:Int) (m m':List Int),m.length=16->jV l last m=some m'->m'.length=16/\∀p,p<16->m'[p]? =(match l.find? (fun a=>a.k==p)with|some a=>some a.v|none=>m[p]?)
 |[],_,m,m',hm,h=>by simp only[jV,Option.some.injEq]at h;subst h;exact⟨hm,fun p _=>rfl⟩
 |a::l,last,m,m',hm,h=>by
  have hs:sd last (a::l):=(pV _ _ m).1 (by rw[h];rfl)
  obtain⟨h1,h2,h3⟩:=hs
  unfold jV at h
  rw[if_neg (by unfold cp.Mj at h1;omega)]at h
  obtain⟨e1,e2⟩:=E7 l _ _ m' (by simpa using hm) h
  refine⟨e1,fun p hp=> ?_⟩
  rw[e2 p hp,List.find?_cons]
  by_cases e:a.k=p
  ·have e':(a.k==p)=true:=by simpa using e
   rw[e']
   have:l.find? (fun a=>a.k==p)=none:=by
    rw[List.find?_eq_none]
    intro b hb
    have h4:=jl l _ h3 b hb
    have h5:=h4.1
    unfold cp.Mj at h1 h5
    simp only[beq_iff_eq]
    unfold cp.k at e|-
    omega
   rw[this]
   simp only
   rw[List.getElem?_set,if_pos e,if_pos (by rw[hm];omega)]
  ·have e':(a.k==p)=false:=by simpa using e
   rw[e']
   simp only
   cases l.find? (fun a=>a.k==p)with
   |some b=>rfl
   |none=>
    simp only
    rw[List.getElem?_set,if_neg e]
def sQ(a b:List Int)(i j:Nat)(acc:Int)(k:Nat):Int:=
 if a.getD (i*4+k) 0≠0/\b.getD (k*4+j) 0≠0 then max (max acc (a.getD (i*4+k) 0)) (b.getD (k*4+j) 0)else acc
def cP(a b:List Int)(i j:Nat)(n:Nat):Int:=(List.range n).foldl (sQ a b i j) 0
def nT(a b:List cp)(i j:Int):Bool×Bool:=
 (a.any fun x=>b.any fun y=>x.f==i&&x.t==y.f&&y.t==j,a.any fun x=>b.any fun y=>(x.f==i&&x.t==y.f&&y.t==j)&&(x.l||y.l))
def J3(l:List cp)(m:List Int):Prop:=∀i k:Nat,i<4->k<4->(m.getD (i*4+k) 0≠0↔∃x∈l,x.f=i/\x.t=k)/\(m.getD (i*4+k) 0=2↔∃x∈l,x.f=i/\x.t=k/\x.l=true)/\0<=m.getD (i*4+k) 0/\m.getD (i*4+k) 0<=2
theorem E8{l:List cp}{m:List Int}(h:jV l (-1) xd=some m):m.length=16/\J3 l m:=by
 have hs:sd (-1) l:=(pV _ _ xd).1 (by rw[h];rfl)
 obtain⟨e1,e2⟩:=E7 l _ _ m rfl h
 refine⟨e1,fun i k hi hk=> ?_⟩
 have hp:i*4+k<16:=af
 have e3:=e2 _ hp
 have z0:xd[i*4+k]? =some 0:=by
  have:∀p,p<16->xd[p]? =some 0:=bF
  exact this _ hp
 have key:∀x∈l,(x.k=i*4+k↔x.f=i/\x.t=k):=fun x hx=>by
  have h1:=(jl l _ hs x hx).1
  unfold cp.Mj at h1
  unfold cp.k
  omega
 rw[List.getD_eq_getElem?_getD,e3]
 cases hf:l.find? (fun a=>a.k==i*4+k)with
 |some x=>
  have hx:=List.mem_of_find?_eq_some hf
  have Ex:=List.find?_some hf
  simp only[beq_iff_eq]at Ex
  have We:=(key x hx).1 Ex
  simp only[Option.getD_some]
  unfold cp.v
  have uniq:∀y∈l,y.f=i/\y.t=k->y.l=x.l:=by
   intro y hy hyk
   have:∀ (l:List cp) (last:Int),sd last l->∀x∈l,∀y∈l,x.f=y.f->x.t=y.t->y=x:=by
    intro l
    induction l with
    |nil=>intro _ _ x hx;cases hx
    |cons a l ih=>
     intro last hs x hx y hy h1 h2
     obtain⟨g1,g2,g3⟩:=hs
     rcases List.mem_cons.1 hx with e1|qE
     ·rcases List.mem_cons.1 hy with e2|GQ
      ·rw[e1,e2]
      ·have:=(jl l _ g3 y GQ).2;rw[<- e1]at this;omega
     ·rcases List.mem_cons.1 hy with e2|GQ
      ·have:=(jl l _ g3 x qE).2;rw[<- e2]at this;omega
      ·exact ih _ g3 x qE y GQ h1 h2
   rw[this l _ hs x hx y hy (by omega) (by omega)]
  refine⟨⟨fun _=>⟨x,hx,We.1,We.2⟩,fun _=>by split<;>decide⟩,⟨fun h=>⟨x,hx,We.1,We.2, ?_⟩,fun h=> ?_⟩,by split<;>decide,by split<;>decide⟩
  ·cases hl:x.l with
   |true=>rfl
   |false=>rw[hl]at h;simp at h
  ·obtain⟨y,hy,h1,h2,h3⟩:=h
   rw[<- uniq y hy ⟨h1,h2⟩,h3];rfl
 |none=>
  rw[List.find?_eq_none]at hf
  simp only[z0,Option.getD_some]
  refine⟨⟨fun h=>absurd rfl h,fun⟨x,hx,h⟩=>absurd ((key x hx).2 h) (by simpa using hf x hx)⟩,⟨(fun h=>by cases h),fun⟨x,hx,h1,h2,_⟩=>absurd ((key x hx).2 ⟨h1,h2⟩) (by simpa using hf x hx)⟩,bF,bF⟩
theorem Nv{a b:List cp}{m n:List Int}(hm:J3 a m)(hn:J3 b n)(ha:∀x∈a,x.Mj)(i j:Nat)(hi:i<4)(hj:j<4):
 (cP m n i j 4≠0↔(nT a b i j).1=true)/\(cP m n i j 4=2↔(nT a b i j).2=true)/\0<=cP m n i j 4/\cP m n i j 4<=2:=by
 have key:∀q,q<=4->(cP m n i j q≠0↔∃k:Nat,k<q/\(∃x∈a,x.f=i/\x.t=k)/\∃y∈b,y.f=k/\y.t=j)/\(cP m n i j q=2↔∃k:Nat,k<q/\∃x∈a,∃y∈b,x.f=i/\x.t=k/\y.f=k/\y.t=j/\(x.l||y.l)=true)/\0<=cP m n i j q/\cP m n i j q<=2:=by
  intro q
  induction q with
  |zero=>intro _;simp[cP]
  |succ q ih=>
   intro hq
   obtain⟨i1,i2,i3,i4⟩:=ih af
   have e:cP m n i j (q+1)=sQ m n i j (cP m n i j q) q:=by
    exact Sm
   obtain⟨a1,a2,a3,a4⟩:=hm i q hi af
   obtain⟨b1,b2,b3,b4⟩:=hn q j af hj
   rw[e]
   unfold sQ
   by_cases h:m.getD (i*4+q) 0≠0/\n.getD (q*4+j) 0≠0
   ·rw[if_pos h]
    obtain⟨x,hx,x1,x2⟩:=a1.1 h.1
    obtain⟨y,hy,y1,y2⟩:=b1.1 h.2
    refine⟨⟨fun _=>⟨q,af,⟨x,hx,x1,x2⟩,y,hy,y1,y2⟩,fun _=>af⟩,⟨fun h2=> ?_,fun h2=> ?_⟩,af,af⟩
    ·rcases(by omega:cP m n i j q=2\/m.getD (i*4+q) 0=2\/n.getD (q*4+j) 0=2)with g|g|g
     ·obtain⟨k,k1,k2⟩:=i2.1 g
      exact Et
     ·obtain⟨x',qE,z1,z2,z3⟩:=a2.1 g
      exact⟨q,af,x',qE,y,hy,z1,z2,y1,y2,by rw[z3];rfl⟩
     ·obtain⟨y',GQ,z1,z2,z3⟩:=b2.1 g
      exact⟨q,af,x,hx,y',GQ,x1,x2,z1,z2,by rw[z3];simp⟩
    ·obtain⟨k,k1,x',qE,y',GQ,z1,z2,z3,z4,z5⟩:=h2
     rcases(by omega:k<q\/k=q)with g|g
     ·have:=i2.2 ⟨k,g,x',qE,y',GQ,z1,z2,z3,z4,z5⟩
      omega
     ·subst g
      rw[Bool.or_eq_true]at z5
      rcases z5 with z5|z5
      ·have:=a2.2 ⟨x',qE,z1,z2,z5⟩;omega
      ·have:=b2.2 ⟨y',GQ,z3,z4,z5⟩;omega
   ·rw[if_neg h]
    refine⟨⟨fun h2=> ?_,fun h2=> ?_⟩,⟨fun h2=> ?_,fun h2=> ?_⟩,i3,i4⟩
    ·obtain⟨k,k1,k2⟩:=i1.1 h2
     exact Et
    ·obtain⟨k,k1,k2,k3⟩:=h2
     rcases(by omega:k<q\/k=q)with g|g
     ·exact i1.2 ⟨k,g,k2,k3⟩
     ·subst g;exact absurd ⟨a1.2 k2,b1.2 k3⟩ h
    ·obtain⟨k,k1,k2⟩:=i2.1 h2
     exact Et
    ·obtain⟨k,k1,x',qE,y',GQ,z1,z2,z3,z4,z5⟩:=h2
     rcases(by omega:k<q\/k=q)with g|g
     ·exact i2.2 ⟨k,g,x',qE,y',GQ,z1,z2,z3,z4,z5⟩
     ·subst g;exact absurd ⟨a1.2 ⟨x',qE,z1,z2⟩,b1.2 ⟨y',GQ,z3,z4⟩⟩ h
 obtain⟨k1,k2,k3,k4⟩:=key 4 (Nat.le_refl _)
 refine⟨k1.trans ?_,k2.trans ?_,k3,k4⟩
 ·simp only[nT,List.any_eq_true,Bool.and_eq_true,beq_iff_eq]
  constructor
  ·rintro⟨k,_,⟨x,hx,x1,x2⟩,y,hy,y1,y2⟩
   exact⟨x,hx,y,hy,⟨x1,af⟩,y2⟩
  ·rintro⟨x,hx,y,hy,⟨x1,x2⟩,y2⟩
   have h1:=ha x hx
   unfold cp.Mj at h1
   exact⟨x.t.toNat,af,⟨x,hx,x1,af⟩,y,hy,af,y2⟩
 ·simp only[nT,List.any_eq_true,Bool.and_eq_true,beq_iff_eq]
  constructor
  ·rintro⟨k,_,x,hx,y,hy,x1,x2,y1,y2,h5⟩
   exact⟨x,hx,y,hy,⟨⟨x1,af⟩,y2⟩,h5⟩
  ·rintro⟨x,hx,y,hy,⟨⟨x1,x2⟩,y2⟩,h5⟩
   have h1:=ha x hx
   unfold cp.Mj at h1
   exact⟨x.t.toNat,af,x,hx,y,hy,x1,af,af,y2,h5⟩
def fT(m n:List Int):List Int:=(List.range 16).map fun p=>cP m n (p/4) (p%4) 4
def cL(m:List Int)(q:Nat):List cp:=(List.range q).filterMap fun p=>if m.getD p 0≠0 then some ⟨(p/4:Nat),(p%4:Nat),m.getD p 0==2⟩else none
def rp(a b:List cp)(q:Nat):List cp:=(List.range q).filterMap fun p=>if(nT a b (p/4:Nat) (p%4:Nat)).1=true then some ⟨(p/4:Nat),(p%4:Nat),(nT a b (p/4:Nat) (p%4:Nat)).2⟩else none
theorem ux{α β:Type}{f g:α->Option β}:∀ {l:List α},(∀x∈l,f x=g x)->l.filterMap f=l.filterMap g
 |[],_=>rfl
 |x::l,h=>by
  have ih:=ux (l:=l) fun y hy=>h y rL
  rw[List.filterMap_cons,List.filterMap_cons,h x (by simp),ih]
theorem J4{a b:List cp}{m n:List Int}(h1:jV a (-1) xd=some m)(h2:jV b (-1) xd=some n):cL (fT m n) 16=rp a b 16:=by
 obtain⟨_,hm⟩:=E8 h1
 obtain⟨_,hn⟩:=E8 h2
 have ha:∀x∈a,x.Mj:=fun x hx=>(jl a (-1) ((pV _ _ xd).1 tC) x hx).1
 unfold cL rp
 refine ux fun p hp=> ?_
 have hp:p<16:=by simpa using hp
 have e:(fT m n).getD p 0=cP m n (p/4) (p%4) 4:=by
  unfold fT
  rw[List.getD_eq_getElem?_getD,List.getElem?_map,List.getElem?_range hp];rfl
 obtain⟨k1,k2,k3,k4⟩:=Nv hm hn ha (p/4) (p%4) af af
 rw[e]
 by_cases h:cP m n (p/4) (p%4) 4≠0
 ·rw[if_pos h,if_pos (k1.1 h)]
  have:(cP m n (p/4) (p%4) 4==2)=(nT a b (p/4:Nat) (p%4:Nat)).2:=by
   rw[Bool.eq_iff_iff,beq_iff_eq];exact k2
  rw[this]
 ·rw[if_neg h,if_neg (fun h2=>h (k1.2 h2))]
def jW(m n:List Int)(i k j:Nat):List Int:=(List.range 16).map fun p=>if p/4<i then cP m n (p/4) (p%4) 4 else if p/4=i then cP m n (p/4) (p%4) (if p%4<j then k+1 else k)else 0
theorem fh(m n:List Int)(i k j:Nat):(jW m n i k j).length=16:=by simp[jW]
theorem jF(m n:List Int)(i k j p:Nat)(hp:p<16):(jW m n i k j)[p]? =some (if p/4<i then cP m n (p/4) (p%4) 4 else if p/4=i then cP m n (p/4) (p%4) (if p%4<j then k+1 else k)else 0):=by
 unfold jW;rw[List.getElem?_map,List.getElem?_range hp];rfl
theorem iz{l l':List Int}(h1:l.length=16)(h2:l'.length=16)(h:∀p,p<16->l[p]? =l'[p]?):l=l':=by
 apply List.ext_getElem?
 intro p
 by_cases hp:p<16
 ·exact h p hp
 ·rw[List.getElem?_eq_none (by omega),List.getElem?_eq_none (by omega)]
theorem outS_0(m n:List Int):jW m n 0 0 0=xd:=by rfl
theorem TP(m n:List Int)(i k:Nat):jW m n i k 4=jW m n i (k+1) 0:=by
 refine iz (fh ..) (fh ..) fun p hp=> ?_
 rw[jF _ _ _ _ _ _ hp,jF _ _ _ _ _ _ hp,if_pos (Nat.mod_lt p (by omega)),if_neg (Nat.not_lt_zero _)]
theorem TQ(m n:List Int)(i:Nat):jW m n i 4 0=jW m n (i+1) 0 0:=by
 refine iz (fh ..) (fh ..) fun p hp=> ?_
 rw[jF _ _ _ _ _ _ hp,jF _ _ _ _ _ _ hp,if_neg (Nat.not_lt_zero _)]
 by_cases h1:p/4<i
 ·rw[if_pos h1,if_pos (by omega)]
 ·rw[if_neg h1]
  by_cases h2:p/4=i
  ·rw[if_pos h2,if_pos (by omega)]
  ·rw[if_neg h2,if_neg (by omega)]
   split<;>rfl
theorem TR(m n:List Int):jW m n 4 0 0=fT m n:=by
 unfold jW fT
 apply List.map_congr_left
 intro p hp
 have hp:p<16:=by simpa using hp
 rw[if_pos (by omega)]
theorem J5(m n:List Int)(i j k:Nat):cP m n i j (k+1)=sQ m n i j (cP m n i j k) k:=by
 exact Sm
theorem E9(m n:List Int)(i k j:Nat)(hi:i<4)(hj:j<4):(jW m n i k j)[i*4+j]? =some (cP m n i j k):=by
 rw[jF _ _ _ _ _ _ (by omega)]
 have e1:(i*4+j)/4=i:=af
 have e2:(i*4+j)%4=j:=af
 rw[e1,e2,if_neg (Nat.lt_irrefl _),if_pos rfl,if_neg (Nat.lt_irrefl _)]
theorem G3(m n:List Int)(i k j:Nat)(hi:i<4)(hj:j<4):jW m n i k (j+1)=(jW m n i k j).set (i*4+j) (sQ m n i j (cP m n i j k) k):=by
 refine iz (fh ..) (by rw[List.length_set];exact fh ..) fun p hp=> ?_
 rw[List.getElem?_set,jF _ _ _ _ _ _ hp]
 by_cases h:i*4+j=p
 ·rw[if_pos h,if_pos (show i*4+j<(jW m n i k j).length by rw[fh];omega)]
  have e1:p/4=i:=af
  have e2:p%4=j:=af
  rw[e1,e2,if_neg (Nat.lt_irrefl _),if_pos rfl,if_pos (by omega),J5]
 ·rw[if_neg h,jF _ _ _ _ _ _ hp]
  by_cases h1:p/4=i
  ·by_cases h2:p%4<j
   ·rw[if_pos (by omega:p%4<j+1),if_pos h2]
   ·rw[if_neg (by omega: ¬p%4<j+1),if_neg h2]
  ·rw[if_neg h1,if_neg h1]
theorem J6(m:List Int)(q:Nat):cL m (q+1)=cL m q++(if m.getD q 0≠0 then [⟨(q/4:Nat),(q%4:Nat),m.getD q 0==2⟩]else []):=by
 unfold cL
 rw[List.range_succ,List.filterMap_append]
 congr 1
 by_cases h:m.getD q 0≠0
 ·exact OY
 ·exact OZ
theorem J7(a b:List cp)(q:Nat):rp a b (q+1)=rp a b q++(if(nT a b (q/4:Nat) (q%4:Nat)).1=true then [⟨(q/4:Nat),(q%4:Nat),(nT a b (q/4:Nat) (q%4:Nat)).2⟩]else []):=by
 unfold rp
 rw[List.range_succ,List.filterMap_append]
 congr 1
 by_cases h:(nT a b (q/4:Nat) (q%4:Nat)).1=true
 ·exact OY
 ·exact OZ
theorem nB(m:List Int)(q:Nat):(cL m q).length<=q:=by
 unfold cL
 have:=List.length_filterMap_le (fun p=>if m.getD p 0≠0 then some (⟨(p/4:Nat),(p%4:Nat),m.getD p 0==2⟩:cp)else none) (List.range q)
 simpa using this
end Go.Proofs.YtnkamdiiakdkgaaGreat
