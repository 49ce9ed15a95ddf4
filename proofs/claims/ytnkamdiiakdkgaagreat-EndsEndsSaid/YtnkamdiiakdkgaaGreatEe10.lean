/-
  A PART. Conditions: none.
-/
import Derived.Test.YtnkamdiiakdkgaaGreatEe9
set_option linter.unusedSimpArgs false
set_option linter.unusedVariables false
set_option maxHeartbeats 8000000
namespace Go.Proofs.YtnkamdiiakdkgaaGreat
section
abbrev Fix(α:Type){β:Type}(_:β):Type:=α
def jx(K:V->List (Nat×aa)->Prop)(x:Fix (Option gM) K):Prop:=match x with|some (v,Δ,_)=>K v Δ|none=>False
@[go_sem] theorem YE {v:V} {Δ:List (Nat×aa)} {rd:List Nat} {K}:jx K (some (v,Δ,rd))=K v Δ:=propext Iff.rfl
@[go_sem] theorem YF {K}:jx K none=False:=propext Iff.rfl
def V.BX (c:Bool)(v:V):V:=if c=true then v else .cc []
@[go_sem] theorem adW (b:Bool):(!!b)=b:=aJ
attribute [go_sem] true_or or_true false_or ne_eq not_false_eq_true decide_true decide_false Bool.not_true Bool.not_false Bool.and_true Bool.true_and Bool.and_false Bool.false_and Bool.or_true Bool.true_or Bool.or_false Bool.false_or beq_self_eq_true Bool.true_eq_false Bool.false_eq_true not_true_eq_false and_true true_and and_false false_and eq_self
@[go_sem] theorem V.adX (v:V):V.BX true v=v:=rfl
@[go_sem] theorem V.abw (v:V):V.BX false v= .cc []:=rfl
def nI(c:Bool)(p:Prop):Prop:=c=true->p
@[congr] theorem VK {c c':Bool} {p p':Prop} (h:c=c') (h2:c'=true->p=p'):nI c p=nI c' p':=by
  subst h;cases c
  ·simp[nI]
  ·simp[nI,h2 rfl]
@[go_sem] theorem YG (p:Prop):nI true p=p:=by simp[nI]
@[go_sem] theorem VL (p:Prop):nI false p=True:=by simp[nI]
@[go_sem] theorem YH (a:Bool):nI a True=True:=by simp[nI]
def nJ(v:V)(want:Bool):Option Bool:=
 match v with
 | .d (.bool b)=>some (b==want)
 | .cc []=>some false
 |_=>none
@[go_sem] theorem YI (b:Bool):nJ (.d (.bool b)) true=some b:=by simp[nJ]
@[go_sem] theorem VM (b:Bool):nJ (.d (.bool b)) false=some (!b):=by simp[nJ]
@[go_sem] theorem adY (want:Bool):nJ (.cc []) want=some false:=rfl
@[go_sem] theorem abx (c b want:Bool):nJ (V.BX c (.d (.bool b))) want=some (c&&(b==want)):=by cases c<;>simp[nJ,V.BX]
@[go_sem] theorem YJ (c b e want:Bool):nJ (V.BX c (V.BX e (.d (.bool b)))) want=some (c&&e&&(b==want)):=by cases c<;>cases e<;>simp[nJ,V.BX]
def l8(c:Bool)(x:Option gM):Option gM:=
 if c=true then(match x with|some (v,[],_)=>some (v,[],[])|_=>none)else some (.cc [],[],[])
@[congr] theorem Sd {c c':Bool} {x x':Option gM} (h:c=c') (h2:c'=true->x=x'):l8 c x=l8 c' x':=by
  subst h;cases c
  ·rfl
  ·simp[l8,h2 rfl]
def YK(v:V)(rd:List Nat):Option gM:=some (v,[],rd)
@[go_sem] theorem ahH (v:V) (rd:List Nat):(some (v,[],rd):Option gM)=YK v rd:=by unfold YK;exact Eq.trans rfl rfl
@[go_sem] theorem YL (c:Bool) (v:V) (rd:List Nat):l8 c (YK v rd)=YK (V.BX c v) []:=by cases c<;>rfl
@[go_sem] theorem aby {v:V} {rd:List Nat} {K}:jx K (YK v rd)=K v []:=propext Iff.rfl
@[go_sem] theorem VN (c:Bool) (v:V) (rd:List Nat):l8 c (some (v,[],rd))=some (V.BX c v,[],[]):=by cases c<;>rfl
@[go_sem] theorem Se (x:Option gM):l8 false x=some (.cc [],[],[]):=rfl
@[go_sem] theorem adZ (b x:Bool):rQ (.d (.bool b)) (V.BX b (.d (.bool x))) (.d (.bool false))=some (.d (.bool (b&&x))):=Di
@[go_sem] theorem agQ (b x:Bool):rQ (.d (.bool b)) (.d (.bool true)) (V.BX (!b) (.d (.bool x)))=some (.d (.bool (b||x))):=Di
@[go_sem] theorem ad0 (b x:Bool):rQ (.d (.bool (!b))) (.d (.bool true)) (V.BX b (.d (.bool x)))=some (.d (.bool (!b||x))):=Di
@[go_sem] theorem abz (x y:V):rQ (.d (.bool true)) x y=some x:=rfl
@[go_sem] theorem YM (x y:V):rQ (.d (.bool false)) x y=some y:=rfl
@[reducible] def l9:Op->Bool
  | .move _| .assign _| .pick .. | .load .. | .binOp .. | .unOp .. | .nilCheck _| .convert .. | .makeInterface .. | .makeFunc .. | .fieldAddr .. | .indexAddr .. | .extract .. | .build .. | .index .. | .field .. | .lookup .. =>true
  | .call c=>match c.callee with
    | .builtin .len=>true
    | .builtin .min=>true
    | .builtin .max=>true
    |_=>false
  |_=>false
def Eh(P:Program)(f:V)(args:List V)(o:Nat->aa)(rs:List D):Prop:=
 match f with
 | .func (.func g) first cap=>match cF o (first++args++cap)with
   |some ds=>aW P g ds (.ret rs)/\D.kN rs=true
   |none=>False
 |_=>False
def Jd(P:Program)(f:V)(args:List V)(o:Nat->aa)(K:V->Prop)(c:Fix Bool (f,args,o,K)):Prop:=
 ∃rs,nI c (Eh P f args o rs)/\K (V.BX c (kb rs))
def Ei(P:Program)(g:FuncId)(nx:Nat)(K X:V->(Nat->aa)->Nat->Prop)(args:Fix (List V) (K,X))(o:Fix (Nat->aa) (K,X)):Prop:=uJ P g args o nx K X
def uP(P:Program)(g:FuncId)(o:Nat->aa)(nx:Nat)(K X:V->(Nat->aa)->Nat->Prop)(ds:Fix (List D) (o,nx,K,X))(all:Fix (List V) (o,nx,K,X)):Prop:=
 xe P g ds o (put o (bY o (V.bC all))) (put o (tq o (V.bC all))) (fun v o'=>K v o' (nx+1)) (fun v o'=>X v o' (nx+1))\/uJ P g all o nx K X
def oR(P:Program)(g:FuncId)(K X:V->(Nat->aa)->Nat->Prop)(s:S)(all:List V)(ds:Fix (Option (List D)) (K,X,s,all)):Prop:=
 match ds with
 |some ds=>uP P g s.o s.nx K X ds all
 |none=>Ei P g s.nx K X all s.o
@[go_sem] theorem VO {P:Program} {s:S} {ds:List D} {g:FuncId} {all:List V} {K X}:
 oR P g K X s all (some ds)=uP P g s.o s.nx K X ds all:=propext Iff.rfl
def Am(P:Program)(id:Nat)(K X:V->(Nat->aa)->Nat->Prop)(s:S)(args:Fix (List V) (K,X,s)):Prop:=eu P id args s.o s.nx K X
@[go_sem] theorem VP {P:Program} {s:S} {g:FuncId} {all:List V} {K X}:oR P g K X s all none=Ei P g s.nx K X all s.o:=propext Iff.rfl
def uQ(P:Program)(K X:V->(Nat->aa)->Nat->Prop)(s:S)(f:Fix V (K,X,s))(args:Fix (List V) (K,X,s)):Prop:=
 match f with
 | .func (.func g) first cap=>oR P g K X s (first++args++cap) (cF s.o (first++args++cap))
 | .jI id=>Am P id K X s args
 |_=>False
@[go_sem] theorem abA {P:Program} {s:S} {id:Nat} {args:List V} {K X}:uQ P K X s (.jI id) args=Am P id K X s args:=propext Iff.rfl
@[go_sem] theorem YN {P:Program} {s:S} {g:FuncId} {first cap args:List V} {K X}:uQ P K X s (.func (.func g) first cap) args=oR P g K X s (first++args++cap) (cF s.o (first++args++cap)):=propext Iff.rfl
def Ov(P:Program)(g:FuncId)(o:Nat->aa)(nx:Nat)(K X:V->(Nat->aa)->Nat->Prop)(ds:Fix (List D) (o,nx,K,X))(all:Fix (List V) (o,nx,K,X)):Prop:=
 xe P g ds o (put o (bY o (V.bC all))) (put o (tq o (V.bC all))) (fun v o'=>K v o' (nx+1)) (fun v o'=>X v o' (nx+1))
def Ej(P:Program)(g:FuncId)(K X:V->(Nat->aa)->Nat->Prop)(s:S)(all:List V)(ds:Fix (Option (List D)) (K,X,s,all)):Prop:=
 match ds with
 |some ds=>Ov P g s.o s.nx K X ds all
 |none=>False
@[go_sem] theorem YO {P:Program} {s:S} {ds:List D} {g:FuncId} {all:List V} {K X}:Ej P g K X s all (some ds)=Ov P g s.o s.nx K X ds all:=propext Iff.rfl
def Ow(P:Program)(K X:V->(Nat->aa)->Nat->Prop)(s:S)(args:Fix (List V) (K,X,s))(r:Fix (Option (FuncId×V)) (K,X,s)):Prop:=
 match r with
 |some (g,y)=>Ej P g K X s (y::args) (cF s.o (y::args))
 |none=>False
@[go_sem] theorem abB {P:Program} {s:S} {g:FuncId} {y:V} {args:List V} {K X}:Ow P K X s args (some (g,y))=Ej P g K X s (y::args) (cF s.o (y::args)):=propext Iff.rfl
def Ls(K:V->Prop)(v:Fix V K):Prop:=
 match v with
 | .d (.iface t y)=>K (.d (.iface t y))
 | .iface t y=>K (.iface t y)
 |_=>False
@[go_sem] theorem ahI {t:TypeId} {y:D} {K}:Ls K (.d (.iface t y))=K (.d (.iface t y)):=propext Iff.rfl
@[go_sem] theorem ahJ {t:TypeId} {y:V} {K}:Ls K (.iface t y)=K (.iface t y):=propext Iff.rfl
def Je(K:V->List (Nat×aa)->Prop)(id:Nat)(l:Fix (List (D×D)) (K,id)):Prop:=IF id l fun v Δ _=>K v Δ
def Ox(K:V->List (Nat×aa)->Prop)(str:Bool)(det:Fix (Option gM) (K,str))(left:Fix (Option (Nat×List (D×D))) (K,str)):Prop:=
 match left with
 |some (id,l)=>str=false/\Je K id l
 |none=>jx K det
@[go_sem] theorem abC {K} {det:Option gM} {id:Nat} {l:List (D×D)}:Ox K false det (some (id,l))=Je K id l:=propext ⟨fun h=>h.2,fun h=>⟨rfl,h⟩⟩
@[go_sem] theorem abD {K} {str:Bool} {det:Option gM}:Ox K str det none=jx K det:=propext Iff.rfl
theorem Sf{P:Program}{s:S}{args:Array Operand}{ts:Array TypeId}{K}:VB P s (.call ⟨.builtin .append,args,ts⟩) K=Yj P s.o s.nx ts K (args.toList.map s.ev):=by
 have hx:∀l:List Operand,(match l with|[x,y]=>wF P s.o s.nx ts (s.ev x) (s.ev y) fun v Δ _=>K v Δ|_=>False)=Yj P s.o s.nx ts K (l.map s.ev):=fun l=>
  match l with
  |[]=>rfl
  |[_]=>rfl
  |[_,_]=>rfl
  |_::_::_::_=>rfl
 exact hx args.toList
def C5(P:Program)(X:V->S->Prop)(K:S->Prop)(o:b8)(s:Fix S (X,K,o)):Prop:=
 match o.op with
 | .next x str=>Ox (fun v Δ=>K ⟨bf s.env o.dst v,put s.o Δ,s.nx+1⟩) str (qk s.o (s.ev x) str) (ql s.o (s.ev x))
 | .call c=>match c.callee with
   | .value f=>uQ P (fun v o' nx'=>K ⟨bf s.env o.dst v,o',nx'⟩) (fun v o' nx'=>X v ⟨s.env,o',nx'⟩) s (s.ev f) (c.args.toList.map s.ev)
   | .invoke r m=>Ow P (fun v o' nx'=>K ⟨bf s.env o.dst v,o',nx'⟩) (fun v o' nx'=>X v ⟨s.env,o',nx'⟩) s (c.args.toList.map s.ev) (wZ P m (s.ev r))
   | .builtin .append=>bif wdT (c.argTypes.getD 0 0)then VB P s o.op (fun v Δ=>K ⟨bf s.env o.dst v,put s.o Δ,s.nx+1⟩)else jx (fun v Δ=>K ⟨bf s.env o.dst v,put s.o Δ,s.nx+1⟩) (gA P s s.nx o.op)
   |_=>jx (fun v Δ=>K ⟨bf s.env o.dst v,put s.o Δ,s.nx+1⟩) (gA P s s.nx o.op)
 | .panic x=>Ls (fun v=>X v s) (s.ev x)
 |op=>jx (fun v Δ=>K ⟨bf s.env o.dst v,put s.o Δ,s.nx+1⟩) (gA P s s.nx op)
@[reducible] def ff:Op->Option (Operand×List Operand)
  | .call c=>match c.callee with
    | .value f=>some (f,c.args.toList)
    |_=>none
  |_=>none
def jy(A B:Prop)(t:Fix Bool (A,B)):Prop:=rV t A B
@[go_sem] theorem YP (A B:Prop):jy A B true=A:=xf A B
@[go_sem] theorem VQ (A B:Prop):jy A B false=B:=uK A B
def He(P:Program)(X:V->S->Prop)(K:S->Prop)(o:b8)(s:S)(f:Operand)(args:List Operand)(c:Fix Bool (X,K,o,s,f,args)):Prop:=
 Jd P (s.ev f) (args.map s.ev) s.o (fun v=>K ⟨bf s.env o.dst v,s.o,s.nx+1⟩) c\/jy (C5 P X K o s) (K ⟨bf s.env o.dst (.cc []),s.o,s.nx+1⟩) c
def BZ(P:Program)(X:V->S->Prop)(K:S->Prop)(o:b8)(s:S)(c:Fix (Option Bool) (X,K,o,s)):Prop:=
 match c with
 |none=>False
 |some c=>match ff o.op with
  |some (f,args)=>He P X K o s f args c
  |none=>if l9 o.op=true then jx (fun v _=>K ⟨bf s.env o.dst v,s.o,s.nx+1⟩) (l8 c (gA P s s.nx o.op))
   else jy (C5 P X K o s) (K ⟨bf s.env o.dst (.cc []),s.o,s.nx+1⟩) c
def rW(P:Program)(X:V->S->Prop)(K:S->Prop)(l:List b8)(s:Fix S (X,K,l)):Prop:=
 match l with
 |[]=>K s
 |o::l=>match o.gd with
  |none=>C5 P X (rW P X K l) o s
  |some (d,want)=>BZ P X (rW P X K l) o s (nJ (s.env d) want)
def kR(want:Bool)(A B:Prop)(v:Fix V (A,B)):Prop:=
 match v with
 | .d (.bool b)=>rV (b==want) A B
 | .cc []=>B
 |_=>False
@[go_sem] theorem VR (b:Bool) (A B:Prop):kR true A B (.d (.bool b))=jy A B b:=by simp[kR,jy]
@[go_sem] theorem Sg (b:Bool) (A B:Prop):kR false A B (.d (.bool b))=jy A B (!b):=by simp[kR,jy]
@[go_sem] theorem abE (want:Bool) (A B:Prop):kR want A B (.cc [])=B:=propext Iff.rfl
@[go_sem] theorem YQ (c b want:Bool) (A B:Prop):kR want A B (V.BX c (.d (.bool b)))=jy A B (c&&(b==want)):=by cases c<;>simp[kR,V.BX,jy]
abbrev KD:=V->List (Nat×aa)->List Nat->Prop
abbrev XD:=V->List Nat->List Nat->Prop
def Oy(P:Program)(g:FuncId)(K:KD)(X:XD)(o:Nat->aa)(rd:List Nat)(ds:Fix (List D) (K,X,o,rd))(all:Fix (List V) (K,X,o,rd)):Prop:=
 uO P g ds (fun v=>K v (bY o (V.bC all)) rd) (fun v=>K v [] rd) (fun v=>X v [] rd)
def oS(P:Program)(g:FuncId)(K:KD)(X:XD)(o:Nat->aa)(nx fr:Nat)(all:Fix (List V) (K,X,o,nx)):Prop:=jQ P g all o nx fr K X
def tO(P:Program)(g:FuncId)(K:KD)(X:XD)(o:Nat->aa)(nx fr:Nat)(rd:List Nat)(ds:Fix (List D) (K,X,o,nx,rd))(all:Fix (List V) (K,X,o,nx,rd)):Prop:=Oy P g K X o rd ds all\/oS P g K X o nx fr all
def tP(P:Program)(K:KD)(X:XD)(o:Nat->aa)(nx fr:Nat)(rd:List Nat)(g:FuncId)(all:List V)(ds:Fix (Option (List D)) (K,X,o,nx,rd,all)):Prop:=
 match ds with
 |some ds=>tO P g K X o nx fr rd ds all
 |none=>oS P g K X o nx fr all
@[go_sem] theorem VS {P:Program} {o:Nat->aa} {nx fr:Nat} {rd:List Nat} {ds:List D} {g:FuncId} {all:List V} {K X}:tP P K X o nx fr rd g all (some ds)=tO P g K X o nx fr rd ds all:=propext Iff.rfl
@[go_sem] theorem VT {P:Program} {o:Nat->aa} {nx fr:Nat} {rd:List Nat} {g:FuncId} {all:List V} {K X}:tP P K X o nx fr rd g all none=oS P g K X o nx fr all:=propext Iff.rfl
def Ek(P:Program)(K:KD)(X:XD)(o:Nat->aa)(nx fr:Nat)(rd:Fix (List Nat) (K,X,o,nx))(f:Fix V (K,X,o,nx))(args:Fix (List V) (K,X,o,nx)):Prop:=
 match f with
 | .func (.func g) first cap=>tP P K X o nx fr rd g (first++args++cap) (cF o (first++args++cap))
 |_=>False
@[go_sem] theorem YR {P:Program} {o:Nat->aa} {nx fr:Nat} {rd:List Nat} {g:FuncId} {first cap args:List V} {K X}:Ek P K X o nx fr rd (.func (.func g) first cap) args=tP P K X o nx fr rd g (first++args++cap) (cF o (first++args++cap)):=propext Iff.rfl
def xo(K:KD)(rd:List Nat)(x:Fix (Option gM) (K,rd)):Prop:=match x with|some (v,Δ,_)=>K v Δ rd|none=>False
@[go_sem] theorem YS {v:V} {Δ:List (Nat×aa)} {r rd:List Nat} {K}:xo K rd (some (v,Δ,r))=K v Δ rd:=propext Iff.rfl
@[go_sem] theorem abF {v:V} {r rd:List Nat} {K}:xo K rd (YK v r)=K v [] rd:=propext Iff.rfl
def Q8(P:Program)(K:KD)(X:XD)(fr:Nat)(o:b8)(s:Fix S (K,X,o)):Prop:=
 match ff o.op with
 |some (f,args)=>Ek P K X s.o s.nx fr (pV s o.op) (s.ev f) (args.map s.ev)
 |none=>xo K (pV s o.op) (gA P s fr o.op)
def El(P:Program)(KB:List Nat->Fp->Prop)(pr:List (List Nat))(l:List b8)(fr:Nat)(fp:Fix Fp (KB,l))(bad ws:Fix (List Nat) (KB,l))(s:Fix S (KB,l)):Prop:=jg P KB pr l fr s fp bad ws
def pZ(P:Program)(K:S->Fp->Prop)(KP:V->List Nat->Fp->Prop)(pr:List (List Nat))(l:List b8)(fr:Nat)(s:Fix S (K,KP,l))(fp:Fix Fp (K,KP,l)):Prop:=
 match l with
 |[]=>K s fp
 |o::l=>match o.gd with
  |none=>Q8 P (fun v Δ rd=>pZ P K KP pr l (fr+1) ⟨bf s.env o.dst v,put s.o Δ,s.nx⟩ (fp++[(rd,Δ.map (·.1))]))
   (fun v ws rd=>El P (KP v) pr l (fr+1) (fp++[(rd,[])]) [fp.length] (ws++fp.flatMap (·.2)) ⟨bf s.env o.dst .ag,s.o,s.nx⟩) fr o s
  |some (d,want)=>kR want (Q8 P (fun v Δ rd=>pZ P K KP pr l (fr+1) ⟨bf s.env o.dst v,put s.o Δ,s.nx⟩ (fp++[(rd,Δ.map (·.1))]))
   (fun v ws rd=>El P (KP v) pr l (fr+1) (fp++[(rd,[])]) [fp.length] (ws++fp.flatMap (·.2)) ⟨bf s.env o.dst .ag,s.o,s.nx⟩) fr o s)
   (pZ P K KP pr l (fr+1) ⟨bf s.env o.dst (.cc []),s.o,s.nx⟩ (fp++[([],[])])) (s.env d)
def Sh(pr:List (List Nat))(nx:Nat)(Q:fW->S->Prop)(s:Fix S Q)(fp:Fix Fp Q):Prop:=Hc pr nx Q s fp
def rX(l:List b8)(k:Fix Nat l):Option Nat:=match l with
 |[]=>none
 |o::l=>match o.gd,ff o.op with
  |none,some (.tmp _,_)=>some k
  |none,some (.func f,_)=>bif YD f then some k else rX l (k+1)
  |_,_=>rX l (k+1)
def Jf(P:Program)(pr:List (List Nat))(l:List b8)(nx:Nat)(Q:fW->S->Prop)(s:Fix S (P,pr,l,nx,Q))(fp:Fix Fp (P,pr,l,nx,Q)):Prop:=eX pr fp=true/\rW P (fun v s=>Q (.bU v) s) (Q .normal) l ⟨s.env,s.o,nx⟩
def Oz(P:Program)(l:List b8)(pr:List (List Nat))(Q:fW->S->Prop)(s:S)(sp:Fix (Option Nat) (P,l,pr,Q,s)):Prop:=match sp with
 |none=>pZ P (Sh pr (s.nx+l.length) Q) (Ed pr l s Q) pr l s.nx s []
 |some m=>m<=l.length/\BV pr m=true/\pZ P (Jf P pr (l.drop m) (s.nx+m) Q) (fun _ _ _=>False) pr (l.take m) s.nx s []
def An(A B:Prop)(v:Fix V (A,B)):Prop:=
 match v with
 | .d (.bool t)=>jy A B t
 | .fl=>A/\B
 |_=>False
@[go_sem] theorem abG (A B:Prop):An A B .fl=(A/\B):=propext Iff.rfl
@[go_sem] theorem YT (t:Bool) (A B:Prop):An A B (.d (.bool t))=jy A B t:=propext Iff.rfl
def Jg{ι:Type}(b:Nat)(st:ι->S)(bE:ι->Prop)(qO:ι->Nat)(i:ι)(s:S):Prop:=∃j,bE j/\qO j<qO i/\aZ b s (st j)
def xp(next:S->Prop)(Q:fW->S->Prop)(e:fW)(s:S):Prop:=match e with| .normal=>next s|e=>Q e s
section
variable {N:S->Prop}{Q:fW->S->Prop}{s:S}
@[go_sem ↓] theorem Si:xp N Q .normal s=N s:=propext Iff.rfl
@[go_sem ↓] theorem YU {id:Nat}:xp N Q (.exit id) s=Q (.exit id) s:=propext Iff.rfl
@[go_sem ↓] theorem abH:xp N Q .ret s=Q .ret s:=propext Iff.rfl
@[go_sem ↓] theorem Lt {v:V}:xp N Q (.bU v) s=Q (.bU v) s:=propext Iff.rfl
end
def xq(b:Nat)(body:(fW->S->Prop)->S->Prop)(Q:fW->S->Prop)(s:Fix S (body,Q)):Prop:=
 ∃ (ι:Type) (st:ι->S) (bE:ι->Prop) (qO:ι->Nat) (i0:ι),bE i0/\aZ b s (st i0)/\∀i,bE i->body (xp (Jg b st bE qO i) Q) (st i)
theorem aw{ι:Type}{b:Nat}{body:(fW->S->Prop)->S->Prop}{Q:fW->S->Prop}{s:S}(st:ι->S)(bE:ι->Prop)(qO:ι->Nat)(i0:ι)(h0:bE i0)(hle:aZ b s (st i0))
 (h:∀i,bE i->body (xp (Jg b st bE qO i) Q) (st i)):xq b body Q s:=⟨ι,st,bE,qO,i0,h0,hle,h⟩
def B0(P:Program)(n b:Nat)(rd:Bool)(gop:Operand)(ps:List Nat)(x y:IC)(Q:fW->S->Prop)(s:Fix S (x,y,Q))(g:Fix V (x,y,Q)):Prop:=rd=false/\(DW P n g ps x y Q s\/∃s',aZ b s s'/\DW P n (s'.ev gop) ps x y Q s')
def lz(P:Program)(n b:Nat)(rd:Bool)(c:IC)(Q:fW->S->Prop)(s:Fix S (c,Q)):Prop:=
 match c with
 | .skip=>Q .normal s
 | .bA l=>rW P (fun v s=>Q (.bU v) s) (Q .normal) l s
 | .dm l pr=>Oz P l pr Q s (rX l 0)
 | .seq x y=>lz P n b rd x (rK (fun s=>lz P n b rd y Q s) Q) s
 | .cond c x y=>An (lz P n b rd x Q s) (lz P n b rd y Q s) (s.ev c)
 | .block id x=>lz P n b rd x (fZ id Q) s
 | .loop x=>xq b (fun Q s=>lz P n b rd x Q s) Q s
 | .exit id=>Q (.exit id) s
 | .ret=>Q .ret s
 | .KG g ps x y=>B0 P n b rd g ps x y Q s (s.ev g)
 | .bad=>False
section
variable {P:Program}{n b:Nat}{rd:Bool}
theorem Em{s:S}{f:V}{args:List V}{K K':V->(Nat->aa)->Nat->Prop}{X X':V->(Nat->aa)->Nat->Prop}(hK:∀v o n,K v o n->K' v o n)(hX:∀v o n,X v o n->X' v o n)(h:uQ P K X s f args):
 match(generalizing:=false) f with
  | .func (.func g) first cap=>match cF s.o (first++args++cap)with
    |some ds=>xe P g ds s.o (put s.o (bY s.o (V.bC (first++args++cap)))) (put s.o (tq s.o (V.bC (first++args++cap)))) (fun v o'=>K' v o' (s.nx+1)) (fun v o'=>X' v o' (s.nx+1))\/uJ P g (first++args++cap) s.o s.nx K' X'
    |none=>uJ P g (first++args++cap) s.o s.nx K' X'
  | .jI id=>eu P id args s.o s.nx K' X'
  |_=>False:=by
 unfold uQ oR Am at h
 split at h
 ·rename_i g first cap
  cases fL:cF s.o (first++args++cap)with
  |some ds=>
   simp only[fL]at h|-
   rcases h with⟨out,h1,h2|⟨h3,h2⟩|⟨h3,h2⟩⟩|h
   ·exact .inl ⟨out,h1, .inl (by cases out<;>first|exact hK _ _ _ h2|exact hX _ _ _ h2)⟩
   ·exact .inl ⟨out,h1, .inr (.inl ⟨h3,by cases out<;>first|exact hK _ _ _ h2|exact hX _ _ _ h2⟩)⟩
   ·exact .inl ⟨out,h1, .inr (.inr ⟨h3,by cases out<;>first|exact hK _ _ _ h2|exact hX _ _ _ h2⟩)⟩
   ·exact .inr (qf.mono hK hX h)
  |none=>
   simp only[fL]at h|-
   exact qf.mono hK hX h
 ·exact eu.mono hK hX h
 ·exact h.elim
theorem Ao{x:Option gM}{K:V->List (Nat×aa)->Prop}(h:jx K x):∃v Δ rd,x=some (v,Δ,rd)/\K v Δ:=by
 unfold jx at h;split at h
 ·exact⟨_,_,_,rfl,h⟩
 ·exact h.elim
theorem B1{s:S}{o:b8}{X X':V->S->Prop}{K K':S->Prop}(hK:∀s,K s->K' s)(hX:∀v s,X v s->X' v s)(h:C5 P X K o s):MM P s o X' K':=by
 unfold C5 at h
 unfold MM
 have hs:∀ {op:Op},(jx (fun v Δ=>K ⟨bf s.env o.dst v,put s.o Δ,s.nx+1⟩) (gA P s s.nx op))->(match gA P s s.nx op with|some (v,Δ,_)=>K' ⟨bf s.env o.dst v,put s.o Δ,s.nx+1⟩|none=>False):=by
  intro op h
  obtain⟨v,Δ,rd,he,h⟩:=Ao h
  simp only[he];exact hK _ h
 split at h
 ·rename_i x str hx
  rw[hx]
  unfold Ox at h
  simp only
  split at h
  ·rename_i id l hl
   simp only[hl]
   exact⟨h.1,fun e=>hK _ (h.2.1 e),fun i k x e=>hK _ (h.2.2 i k x e)⟩
  ·rename_i hl
   simp only[hl]
   exact hs (op:= .next x str) h
 ·rename_i c hc
  simp only[hc]
  split at h
  ·rename_i f hf
   simp only[hf]
   exact Em (K:=fun v o' nx'=>K ⟨bf s.env o.dst v,o',nx'⟩) (X:=fun v o' nx'=>X v ⟨s.env,o',nx'⟩) (fun v o n h=>hK _ h) (fun v o n h=>hX _ _ h) h
  ·rename_i r m hf
   simp only[hf]
   unfold Ow at h
   split at h
   ·rename_i g y hr
    simp only[hr]
    unfold Ej at h
    split at h
    ·rename_i ds fL
     obtain⟨out,h1,h2⟩:=h
     refine .inl ⟨ds,fL,out,h1, ?_⟩
     rcases h2 with h2|⟨h3,h2⟩|⟨h3,h2⟩
     ·exact .inl (by cases out<;>first|exact hK _ h2|exact hX _ _ h2)
     ·exact .inr (.inl ⟨h3,by cases out<;>first|exact hK _ h2|exact hX _ _ h2⟩)
     ·exact .inr (.inr ⟨h3,by cases out<;>first|exact hK _ h2|exact hX _ _ h2⟩)
    ·exact h.elim
   ·exact h.elim
  ·rename_i hf
   simp only[hf]
   rw[hc]at h
   cases hw:wdT (c.argTypes.getD 0 0)with
   |true=>
    rw[hw]at h
    exact .inr (D2 (fun v Δ h=>hK _ h) h)
   |false=>
    rw[hw]at h
    exact .inl (hs h)
  ·rename_i hf hi hb
   rw[hc]at h
   obtain⟨N4,args,ts⟩:=c
   cases N4 with
   |value f=>exact absurd rfl (hf f)
   |invoke r m=>exact absurd rfl (hi r m)
   |builtin b=>exact .inl (hs h)
 ·rename_i x hx
  simp only[hx]
  unfold Ls at h
  split at h
  ·rename_i hv;simp only[hv];exact hX _ _ h
  ·rename_i hv;simp only[hv];exact hX _ _ h
  ·exact h.elim
 ·rename_i w8 hc hp
  have h2:=hs h
  cases hh:o.op<;>first
   |exact absurd hh (hc _)
   |exact absurd hh (hp _)
   |exact absurd hh (w8 _ _)
   |(rw[hh]at h2;exact h2)
theorem OA{s:S}{o:b8}{X:V->S->Prop}{K:S->Prop}(hp:l9 o.op=true){v:V}{Δ:List (Nat×aa)}{rd:List Nat}(he:gA P s s.nx o.op=some (v,Δ,rd))(h:K ⟨bf s.env o.dst v,put s.o Δ,s.nx+1⟩):MM P s o X K:=by
 unfold MM
 split
 ·rename_i c hc
  split
  ·rename_i f hf;rw[hc]at hp;simp[l9,hf]at hp
  ·rename_i r m hf;rw[hc]at hp;simp[l9,hf]at hp
  ·rw[he];exact .inl h
 ·rename_i x hx;rw[hx]at hp;simp[l9]at hp
 ·rename_i x str hx;rw[hx]at hp;simp[l9]at hp
 ·rw[he];exact h
theorem tQ{X X':V->S->Prop}{K K':S->Prop}(hK:∀s,K s->K' s)(hX:∀v s,X v s->X' v s):∀ (l:List b8) (s:S),rW P X K l s->qL P X' K' l s
 |[],s,h=>hK _ h
 |o::l,s,h=>by
  have ih:=tQ hK hX l
  unfold rW at h
  unfold qL
  cases hg:o.gd with
  |none=>
   simp only[hg]at h|-
   exact B1 ih hX h
  |some p=>
   obtain⟨d,want⟩:=p
   simp only[hg]at h|-
   unfold BZ at h
   split at h
   ·exact h.elim
   ·rename_i c hc
    have pH:∀ {A B:Prop},(c=true->A)->(c=false->B)->(match s.env d with
     | .d (.bool b)=>if b=want then A else B
     | .cc []=>B
     |_=>False):=by
     intro A B hA hB
     generalize s.env d=v at hc
     unfold nJ at hc
     split at hc
     ·rename_i b
      injection hc with hc
      split
      ·rename_i e;exact hA (by rw[<- hc];simp[e])
      ·rename_i e;exact hB (by rw[<- hc];simp[e])
     ·injection hc with hc
      exact hB hc.symm
     ·cases hc
    split at h
    ·rename_i f args MN
     rcases h with h|h
     case inr=>exact pH (fun VU=>B1 ih hX (h.1 VU)) (fun YV=>ih _ (h.2 YV))
     obtain⟨rs,h1,h2⟩:=h
     refine pH (fun VU=> ?_) (fun YV=> ?_)
     ·unfold ff at MN
      split at MN
      ·rename_i c' uw
       split at MN
       ·rename_i f' l0
        injection MN with MN;injection MN with e1 e2;subst e1;subst e2
        have nS:=h1 VU
        unfold MM
        simp only[uw,l0]
        unfold Eh at nS
        split at nS
        ·rename_i g first cap yX
         simp only[yX]
         split at nS
         ·rename_i ds fL
          simp only[fL]
          refine .inl ⟨.ret rs,nS.1, .inr (.inl ⟨nS.2, ?_⟩)⟩
          refine ih _ ?_
          rw[VU]at h2
          exact h2
         ·exact nS.elim
        ·exact nS.elim
       ·cases MN
      ·cases MN
     ·refine ih _ ?_
      rw[YV]at h2
      exact h2
    ·split at h
     ·rename_i hp
      obtain⟨v,Δ,rd,he,h⟩:=Ao h
      refine pH (fun VU=> ?_) (fun YV=> ?_)
      ·rw[VU]at he
       simp only[l8,if_true]at he
       split at he
       ·rename_i v' vJ mc
        injection he with he;injection he with e1 e2;subst e1
        exact OA hp mc (ih _ h)
       ·cases he
      ·rw[YV]at he
       simp only[l8]at he
       injection he with he;injection he with e1 e2;subst e1
       exact ih _ h
     ·exact pH (fun VU=>B1 ih hX (h.1 VU)) (fun YV=>ih _ (h.2 YV))
theorem B3{op:Op}{f:Operand}{args:List Operand}(h:ff op=some (f,args)):∃c,op= .call c/\c.callee= .value f/\c.args.toList=args:=by
 unfold ff at h
 split at h
 ·rename_i c
  split at h
  ·rename_i f' l0
   injection h with h;injection h with e1 e2;subst e1;subst e2
   exact⟨c,rfl,l0,rfl⟩
  ·cases h
 ·cases h
theorem Lu{x:Option gM}{rd:List Nat}{K:KD}(h:xo K rd x):∃v Δ r,x=some (v,Δ,r)/\K v Δ rd:=by
 unfold xo at h;split at h
 ·exact⟨_,_,_,rfl,h⟩
 ·exact h.elim
theorem jQ.mono {P:Program}{g:FuncId}{args:List V}{o:Nat->aa}{nx fr:Nat}{K K':KD}{X X':XD}(hK:∀v Δ r,K v Δ r->K' v Δ r)(hX:∀v w r,X v w r->X' v w r)(h:jQ P g args o nx fr K X):jQ P g args o nx fr K' X':=by
 obtain⟨rd,Δ,h1,⟨rs,h2,h3⟩|⟨x,h2,h3⟩|⟨v,h2,h3⟩⟩:=h
 ·exact⟨rd,Δ,h1, .inl ⟨rs,h2,hK _ _ _ h3⟩⟩
 ·exact⟨rd,Δ,h1, .inr (.inl ⟨x,h2,hX _ _ _ h3⟩)⟩
 ·exact⟨rd,Δ,h1, .inr (.inr ⟨v,h2,hK _ _ _ h3⟩)⟩
theorem uO.mono {P:Program}{g:FuncId}{ds:List D}{Kf Kb KX Kf' Kb' KX':V->Prop}(h1:∀v,Kf v->Kf' v)(h2:∀v,Kb v->Kb' v)(h3:∀v,KX v->KX' v)(h:uO P g ds Kf Kb KX):uO P g ds Kf' Kb' KX':=by
 rcases h with⟨rs,a,b|⟨b,c⟩⟩|⟨x,a,b,c⟩|⟨v,a,b⟩
 ·exact .inl ⟨rs,a, .inl (h1 _ b)⟩
 ·exact .inl ⟨rs,a, .inr ⟨b,h2 _ c⟩⟩
 ·exact .inr (.inl ⟨x,a,b,h3 _ c⟩)
 ·exact .inr (.inr ⟨v,a,h1 _ b⟩)
theorem Jh{s:S}{fr:Nat}{o:b8}{K K':KD}{X X':XD}(hK:∀v Δ r,K v Δ r->K' v Δ r)(hX:∀v w r,X v w r->X' v w r)(h:Q8 P K X fr o s):C4 P s fr o K' X':=by
 unfold Q8 at h
 split at h
 ·rename_i f args MN
  obtain⟨c,h1,h2,h3⟩:=B3 MN
  subst h3
  unfold C4
  simp only[h1,h2]
  unfold Ek tP at h
  split at h
  ·rename_i g first cap hf
   simp only[hf]
   split at h
   ·rename_i ds fL
    simp only[fL]
    refine h.elim (fun h=> .inl ?_) (fun h=> .inr (jQ.mono hK hX h))
    refine uO.mono (fun v h=> ?_) (fun v h=> ?_) (fun v h=> ?_) h<;>(rw[h1]at h)
    ·exact hK _ _ _ h
    ·exact hK _ _ _ h
    ·exact hX _ _ _ h
   ·rename_i fL
    simp only[fL]
    exact jQ.mono hK hX h
  ·exact h.elim
 ·rename_i MN
  obtain⟨v,Δ,rd,he,h⟩:=Lu h
  unfold C4
  split
  ·rename_i c hc
   split
   ·rename_i f hf
    exact absurd MN (by simp[ff,hc,hf])
   ·simp only[he];exact hK _ _ _ h
  ·simp only[he];exact hK _ _ _ h
theorem En{s:S}{fr:Nat}{o:b8}{K K':KD}{X X':XD}(hK:∀v Δ r,K v Δ r->K' v Δ r)(hX:∀v w r,X v w r->X' v w r)(h:C4 P s fr o K X):C4 P s fr o K' X':=by
 unfold C4 at h|-
 split at h
 ·rename_i c hc
  rw[hc]at h|-
  split at h
  ·rename_i f hf
   (try simp only[hf])
   split at h
   ·rename_i yX
    (try simp only[yX])
    split at h
    ·exact h.elim (fun h=> .inl (uO.mono (fun v h=>hK _ _ _ h) (fun v h=>hK _ _ _ h) (fun v h=>hX _ _ _ h) h)) (fun h=> .inr (jQ.mono hK hX h))
    ·exact jQ.mono hK hX h
   ·exact h.elim
  ·rename_i hf
   split at h
   ·rename_i he
    (try simp only[he])
    exact hK _ _ _ h
   ·exact h.elim
 ·split at h
  ·rename_i he
   (try simp only[he]);exact hK _ _ _ h
  ·exact h.elim
theorem kp{KB KB':List Nat->Fp->Prop}{pr:List (List Nat)}(hK:∀l fp,KB l fp->KB' l fp):∀ (l:List b8) (fr:Nat) (s:S) (fp:Fp) (bad ws:List Nat),jg P KB pr l fr s fp bad ws->jg P KB' pr l fr s fp bad ws
 |[],_,_,_,_,_,h=>hK _ _ h
 |o::l,fr,s,fp,bad,ws,h=>by
  unfold jg at h|-
  split
  ·rename_i hb
   rw[if_pos hb]at h
   exact kp hK l _ _ _ _ _ h
  ·rename_i hb
   rw[if_neg hb]at h
   split at h
   ·exact En (fun v Δ r h=>kp hK l _ _ _ _ _ h) (fun _ _ _ h=>h) h
   ·split at h
    ·split at h
     ·rename_i e;simp only[e,if_true]
      exact En (fun v Δ r h=>kp hK l _ _ _ _ _ h) (fun _ _ _ h=>h) h
     ·rename_i e;simp only[e,if_false]
      exact kp hK l _ _ _ _ _ h
    ·exact kp hK l _ _ _ _ _ h
    ·exact h.elim
theorem kq{K K':S->Fp->Prop}{KP KP':V->List Nat->Fp->Prop}{pr:List (List Nat)}(hK:∀s fp,K s fp->K' s fp)(hP:∀v l fp,KP v l fp->KP' v l fp):∀ (l:List b8) (fr:Nat) (s:S) (fp:Fp),pZ P K KP pr l fr s fp->l7 P K' KP' pr l fr s fp
 |[],_,_,_,h=>hK _ _ h
 |o::l,fr,s,fp,h=>by
  have hB:∀v ws (rdl:List Nat),El P (KP v) pr l (fr+1) (fp++[(rdl,[])]) [fp.length] (ws++fp.flatMap (·.2)) ⟨bf s.env o.dst .ag,s.o,s.nx⟩->
   jg P (KP' v) pr l (fr+1) ⟨bf s.env o.dst .ag,s.o,s.nx⟩ (fp++[(rdl,[])]) [fp.length] (ws++fp.flatMap (·.2)):=fun v ws rdl h=>kp (fun a b h=>hP v a b h) l _ _ _ _ _ h
  unfold pZ at h
  unfold l7
  split at h
  ·rename_i hg
   (try simp only[hg])
   exact Jh (fun v Δ r h=>kq hK hP l _ _ _ h) hB h
  ·rename_i d want hg
   (try simp only[hg])
   generalize s.env d=v at h
   unfold kR at h
   split at h
   ·rename_i bb
    by_cases e:bb=want
    ·subst e
     simp only[if_true]
     exact Jh (fun v Δ r h=>kq hK hP l _ _ _ h) hB (h.1 aJ)
    ·simp only[if_neg e]
     exact kq hK hP l _ _ _ (h.2 (by simpa using e))
   ·exact kq hK hP l _ _ _ h
   ·exact h.elim
theorem eI:∀ (c:IC) (Q Q':fW->S->Prop) (s:S),(∀e s,Q e s->Q' e s)->lz P n b rd c Q s->vQ P n b rd c Q' s
 | .skip,_,_,_,hQ,h=>hQ _ _ h
 | .bA l,_,_,_,hQ,h=>tQ (fun s h=>hQ _ _ h) (fun v s h=>hQ _ _ h) l _ h
 | .dm l pr,_,_,_,hQ,h=>by
   unfold lz at h
   generalize rX l 0=sp at h
   cases sp with
   |none=>exact .inl (kq (fun s fp h=>⟨h.1,hQ _ _ h.2⟩) (fun v l fp h=>⟨h.1,hQ _ _ h.2⟩) l _ _ _ h)
   |some m=>exact .inr ⟨m,h.1,h.2.1,kq (fun s fp h=>⟨h.1,tQ (fun s h=>hQ _ _ h) (fun v s h=>hQ _ _ h) _ _ h.2⟩) (fun v l fp h=>h.elim) _ _ _ _ h.2.2⟩
 | .seq x y,Q,Q',s,hQ,h=>eI x _ _ s (fun e s h=>by
  unfold rK at h|-
  cases e with
  |normal=>exact eI y _ _ s hQ h
  |_=>exact hQ _ _ h) h
 | .cond c x y,Q,Q',s,hQ,h=>by
   unfold lz An jy at h
   unfold vQ
   split at h
   ·rename_i t ht
    simp only[ht]
    exact⟨fun e=>eI x _ _ s hQ (h.1 e),fun e=>eI y _ _ s hQ (h.2 e)⟩
   ·rename_i ht
    simp only[ht]
    exact⟨eI x _ _ s hQ h.1,eI y _ _ s hQ h.2⟩
   ·exact h.elim
 | .block id x,Q,Q',s,hQ,h=>eI x _ _ s (fun e s h=>by
  unfold fZ at h|-
  cases e with
  |exit j=>
   simp only at h|-
   split
   ·rename_i e;rw[if_pos e]at h;exact hQ _ _ h
   ·rename_i e;rw[if_neg e]at h;exact hQ _ _ h
  |_=>exact hQ _ _ h) h
 | .loop x,Q,Q',s,hQ,h=>by
   obtain⟨ι,st,bE,qO,i0,h0,hle,h2⟩:=h
   refine⟨fun m s=>∃i,bE i/\qO i=m/\s=st i,⟨qO i0,st i0,hle,i0,h0,rfl,rfl⟩, ?_⟩
   rintro m s0 ⟨i,hg,rfl,rfl⟩
   refine eI x _ _ _ (fun e s h=> ?_) (h2 i hg)
   cases e with
   |normal=>
    obtain⟨j,k1,k2,k3⟩:=h
    exact⟨qO j,st j,k2,k3,j,k1,rfl,rfl⟩
   |_=>exact hQ _ _ h
 | .exit id,_,_,_,hQ,h=>hQ _ _ h
 | .ret,_,_,_,hQ,h=>hQ _ _ h
 | .KG g ps x y,_,_,_,hQ,h=>⟨h.1,match h.2 with
   | .inl h=>⟨_, .inl rfl,tN hQ h⟩
   | .inr ⟨s',hle,h⟩=>⟨s', .inr hle,tN hQ h⟩⟩
 | .bad,_,_,_,_,h=>h.elim
end
theorem aW.aI {P:Program}(bB:P.follows .mixedOrders=true){f:FuncId}{n:Nat}{ic:IC}{rs:List ResultVar}{ds:List D}{out:R}(hf:aL P f n ic rs)(hl:ds.length<=n)
 (h:lz P n 0 false ic (GN P rs out) ⟨cR (ds.map .d),fun _=> .no,0⟩):aW P f ds out:=
 aW.xn bB hf hl (eI ic _ _ _ (fun _ _ h=>h) h)
def rY(P:Program)(rs:List ResultVar)(K X:V->(Nat->aa)->Nat->Prop)(e:fW)(s:S):Prop:=nk P rs K X e s
theorem cX.aI {P:Program}(bB:P.follows .mixedOrders=true){f:FuncId}{n:Nat}{ic:IC}{rs:List ResultVar}{args:List V}{o:Nat->aa}{nx:Nat}{K X:V->(Nat->aa)->Nat->Prop}(hf:aL P f n ic rs)(hl:args.length<=n)
 (h:lz P n nx false ic (rY P rs K X) ⟨cR args,o,nx⟩):cX P f args o nx K X:=
 cX.xn bB hf hl (eI ic _ _ _ (fun _ _ h=>h) h)
section
variable {P:Program}{g:FuncId}{ds:List D}{o:Nat->aa}{nx:Nat}{K X:V->(Nat->aa)->Nat->Prop}{all:List V}
theorem aF{rs:List D}(h:aW P g ds (.ret rs))(hf:D.kN rs=true)(hk:K (kb rs) o (nx+1)):uP P g o nx K X ds all:= .inl ⟨.ret rs,h, .inr (.inl ⟨hf,hk⟩)⟩
theorem br{rs:List D}(h:aW P g ds (.ret rs))(hk:K (kb rs) (put o (bY o (V.bC all))) (nx+1)):uP P g o nx K X ds all:= .inl ⟨.ret rs,h, .inl hk⟩
theorem eU(h:cX P g all o nx K X):uP P g o nx K X ds all:= .inr (.inl h)
theorem ij{e:Nat->V}{ds:Option (List D)}(h:cX P g all o nx K X):oR P g K X ⟨e,o,nx⟩ all ds:=by
 cases ds with
 |some ds=>exact(.inr (.inl h):uP P g o nx K X ds all)
 |none=>exact(.inl h:Ei P g nx K X all o)
theorem bg(h:cX P g all o nx K X):Ei P g nx K X all o:= .inl h
variable {K:KD}{X:XD}{rd:List Nat}{fr:Nat}
theorem aY{rs:List D}(h:aW P g ds (.ret rs))(hf:D.kN rs=true)(hk:K (kb rs) [] rd):tO P g K X o nx fr rd ds all:= .inl (.inl ⟨rs,h, .inr ⟨hf,hk⟩⟩)
theorem cf{rs:List D}(h:aW P g ds (.ret rs))(hk:K (kb rs) (bY o (V.bC all)) rd):tO P g K X o nx fr rd ds all:= .inl (.inl ⟨rs,h, .inl hk⟩)
theorem tR{v:V}{vJ:List Nat}{Δ:List (Nat×aa)}(nP:vJ.all (fun id=>decide (id<nx))=true)(h:BO P g all vJ o fr v Δ)(hk:K v Δ vJ):tO P g K X o nx fr rd ds all:= .inr ⟨vJ,Δ,nP, .inr (.inr ⟨v,h,hk⟩)⟩
end
theorem fD{P:Program}{f:V}{args:List V}{o:Nat->aa}{K:V->Prop}{c:Bool}(rs:List D)(h:nI c (Eh P f args o rs))(hk:K (V.BX c (kb rs))):Jd P f args o K c:=⟨rs,h,hk⟩
theorem aj{t:Bool}{A B:Prop}(h:t=true->A)(h2:t=false->B):jy A B t:=⟨h,h2⟩
theorem aB{pr:List (List Nat)}{nx:Nat}{Q:fW->S->Prop}{s:S}{fp:List (List Nat×List Nat)}(h:eX pr fp=true)(h2:Q .normal ⟨s.env,s.o,nx⟩):Sh pr nx Q s fp:=⟨h,h2⟩
@[go_sem] theorem ad1 (o:Nat->aa):put o []=o:=rfl
@[go_sem] theorem abI (o:Nat->aa) (x:Nat×aa) (l:List (Nat×aa)):put o (x::l)=put (au o x.1 x.2) l:=rfl
@[go_sem] theorem af {α:Type} (f:Nat->α) (i:Nat) (x:α):au f i x i=x:=aJ
@[go_sem] theorem ab {α:Type} (f:Nat->α) (i j:Nat) (x:α) (h:j≠i):au f i x j=f j:=by simp[h]
@[go_sem] theorem Sj (v:V) (l:List V):cR (v::l) 0=v:=rfl
@[go_sem] theorem Sk (v:V) (l:List V) (i:Nat):cR (v::l) (i+1)=cR l i:=rfl
@[go_sem] theorem VV (i:Nat):cR [] i= .cc []:=by simp[cR]
@[go_sem] theorem abJ {P:Program} {o:Nat->aa} {t:TypeId} {id off:Nat}:oK P o t (.ptr id off)=match o id with
 | .row cs=>match fw P t cs off with
   |some v=>some (v,[],[id])
   |none=>none
 |_=>none:=by unfold oK;exact Eq.trans rfl rfl
@[go_sem] theorem ad2 {P:Program} {o:Nat->aa} {t:TypeId} {cs:List D} {off:Nat}:oK P o t (.pp cs off)=match fw P t (cs.map .d) off with
 |some v=>some (v,[],[])
 |none=>none:=by unfold oK;exact Eq.trans rfl rfl
@[go_sem] theorem ad3 {P:Program} {o:Nat->aa} {t:TypeId} {id ep i sz off:Nat}:oK P o t (.pe id ep i sz off)=match o id with
 | .arr fq _ pX es=>if ep=fq/\sz=pX then match es[i]? with
  |some e=>match fw P t (e.cells.map .d) off with
   |some v=>some (v,[],[id])
   |none=>none
  |none=>none
   else none
 |_=>none:=by unfold oK;exact Eq.trans rfl rfl
section
variable {P:Program}{o:Nat->aa}{t:TypeId}{op:BinOp}{oo:Bool}
@[go_sem] theorem abK {k:IntKind} {a b:Int}:fU P o op t oo (.d (.int k a)) (.d (.int k b))=match DZ op k a b with
 |some v=>one v
 |none=>tw P o op t oo (.d (.int k a)) (.d (.int k b)):=by
  simp only[fU,BF,if_true]
  cases DZ op k a b<;>rfl
@[go_sem] theorem abL {a b:Bool} (h:nm P t=true):fU P o .eql t oo (.d (.bool a)) (.d (.bool b))=one (.d (.bool (a==b))):=by simp only[fU,BF,Oe,h,if_true]
@[go_sem] theorem abM {a b:Bool} (h:nm P t=true):fU P o .neq t oo (.d (.bool a)) (.d (.bool b))=one (.d (.bool (a !=b))):=by simp only[fU,BF,Oe,h,if_true]
@[go_sem] theorem abN {a b:List UInt8}:fU P o .eql t oo (.d (.str a)) (.d (.str b))=one (.d (.bool (a==b))):=Nr
@[go_sem] theorem abO {a b:List UInt8}:fU P o .neq t oo (.d (.str a)) (.d (.str b))=one (.d (.bool (a !=b))):=Nr
@[go_sem] theorem abP {a b:List D}:fU P o op t oo (.d (.agg a)) (.d (.agg b))=tw P o op t oo (.d (.agg a)) (.d (.agg b)):=Nr
theorem RD{x:V}{y:V}(h:match y with| .d (.int _ _)| .d (.bool _)| .d (.str _)=>False|_=>True):BF P op t x y=none:=by
 unfold BF
 split<;>first|exact h.elim|rfl
@[go_sem] theorem YW {x:V}:fU P o op t oo x .aU=tw P o op t oo x .aU:=M6
@[go_sem] theorem YX {x:V}:fU P o op t oo x (.d .fN)=tw P o op t oo x (.d .fN):=M6
@[go_sem] theorem YY {x:V}:fU P o op t oo x (.d .nR)=tw P o op t oo x (.d .nR):=M6
@[go_sem] theorem YZ {x:V}:fU P o op t oo x (.d .cK)=tw P o op t oo x (.d .cK):=M6
@[go_sem] theorem Y0 {x:V}:fU P o op t oo x (.d .iY)=tw P o op t oo x (.d .iY):=M6
@[go_sem] theorem ad4 {b:Bool}:KC .not (.d (.bool b))=some (.d (.bool !b)):=Nu
@[go_sem] theorem ad5:KC .not .fl=some .fl:=Nu
@[go_sem] theorem ad6 {k:IntKind} {n:Int}:KC .neg (.d (.int k n))=some (.d (.int k (k.wrap (-n)))):=Nu
end
@[go_sem] theorem D.abQ (cs:List D):(D.agg cs).cells=cs:=rfl
@[go_sem] theorem D.abR (k:IntKind) (n:Int):(D.int k n).cells=[.int k n]:=rfl
@[go_sem] theorem D.Y1 (b:Bool):(D.bool b).cells=[.bool b]:=rfl
@[go_sem] theorem D.abS (b:List UInt8):(D.str b).cells=[.str b]:=rfl
@[go_sem] theorem D.ad7 (b:List D):(D.sl b).cells=[.sl b]:=rfl
@[go_sem] theorem D.ad8 (a b:List D):(D.mp a b).cells=[.mp a b]:=rfl
@[go_sem] theorem D.VW (t:TypeId) (x:D):(D.iface t x).cells=[.iface t x]:=rfl
@[go_sem] theorem D.Y2:D.fN.cells=[.fN]:=rfl
@[go_sem] theorem D.Y3:D.nR.cells=[.nR]:=rfl
@[go_sem] theorem D.Y4:D.cK.cells=[.cK]:=rfl
@[go_sem] theorem D.Y5:D.iY.cells=[.iY]:=rfl
attribute [go_sem] V.ofConst V.dM DZ Oe rR GY Ae qo jd je tK hY nn rS rT rU BG kn Of ni dS cF fw Bi uz qi V.cells D.put bY V.ids V.bC kb D.kN D.flat R.flat
attribute [go_sem] qy List.take_succ_cons List.take_zero List.take_nil List.drop_zero List.drop_succ_cons List.drop_nil
attribute [go_sem] List.map_cons List.map_nil List.length_cons List.length_nil List.cons_append List.nil_append List.append_nil List.getElem?_cons_zero List.getElem?_cons_succ Option.bind_some Option.bind_none Option.map_some Option.map_none aa.bF aa.bV
section
variable {P:Program}{n b:Nat}{rd:Bool}{Q:fW->S->Prop}{s:S}
@[go_sem] theorem ad9:lz P n b rd .skip Q s=Q .normal s:=propext Iff.rfl
@[go_sem] theorem agR {l:List b8}:lz P n b rd (.bA l) Q s=rW P (fun v s=>Q (.bU v) s) (Q .normal) l s:=propext Iff.rfl
@[go_sem] theorem agS {l:List b8} {pr:List (List Nat)}:lz P n b rd (.dm l pr) Q s=Oz P l pr Q s (rX l 0):=propext Iff.rfl
@[go_sem] theorem abT {l:List b8} {pr:List (List Nat)}:Oz P l pr Q s none=pZ P (Sh pr (s.nx+l.length) Q) (Ed pr l s Q) pr l s.nx s []:=propext Iff.rfl
theorem nq{l:List b8}{pr:List (List Nat)}{m:Nat}(h1:m<=l.length)(h2:BV pr m=true)(h3:pZ P (Jf P pr (l.drop m) (s.nx+m) Q) (fun _ _ _=>False) pr (l.take m) s.nx s []):Oz P l pr Q s (some m):=⟨h1,h2,h3⟩
theorem ik{pr:List (List Nat)}{l:List b8}{nx:Nat}{fp:Fp}(h:eX pr fp=true)(h2:rW P (fun v s=>Q (.bU v) s) (Q .normal) l ⟨s.env,s.o,nx⟩):Jf P pr l nx Q s fp:=⟨h,h2⟩
@[go_sem] theorem aea {k:Nat}:rX [] k=none:=rfl
@[go_sem] theorem aeb {d:Option Nat} {t:Nat} {args:Array Operand} {ts:Array TypeId} {l:List b8} {k:Nat}:rX (⟨d, .call ⟨.value (.tmp t),args,ts⟩,none⟩::l) k=some k:=rfl
@[go_sem] theorem agT {d:Option Nat} {op:Op} {g:Nat×Bool} {l:List b8} {k:Nat}:rX (⟨d,op,some g⟩::l) k=rX l (k+1):=rfl
@[go_sem] theorem aec {d:Option Nat} {f:Nat} {args:Array Operand} {ts:Array TypeId} {l:List b8} {k:Nat}:rX (⟨d, .call ⟨.value (.func f),args,ts⟩,none⟩::l) k=bif YD f then some k else rX l (k+1):=rfl
@[go_sem] theorem ahK {α:Type} (a b:α):(bif true then a else b)=a:=rfl
@[go_sem] theorem ahL {α:Type} (a b:α):(bif false then a else b)=b:=rfl
@[go_sem] theorem agU {d:Option Nat} {op:Op} {l:List b8} {k:Nat} (h:ff op=none):rX (⟨d,op,none⟩::l) k=rX l (k+1):=by rw[rX.eq_2];simp only[h]
@[go_sem] theorem agV {x y:IC}:lz P n b rd (.seq x y) Q s=lz P n b rd x (rK (fun s=>lz P n b rd y Q s) Q) s:=propext Iff.rfl
@[go_sem] theorem aed {c:Operand} {x y:IC}:lz P n b rd (.cond c x y) Q s=An (lz P n b rd x Q s) (lz P n b rd y Q s) (s.ev c):=propext Iff.rfl
@[go_sem] theorem abU {id:Nat} {x:IC}:lz P n b rd (.block id x) Q s=lz P n b rd x (fZ id Q) s:=propext Iff.rfl
@[go_sem] theorem aee {x:IC}:lz P n b rd (.loop x) Q s=xq b (fun Q s=>lz P n b rd x Q s) Q s:=propext Iff.rfl
@[go_sem] theorem aef {id:Nat}:lz P n b rd (.exit id) Q s=Q (.exit id) s:=propext Iff.rfl
@[go_sem] theorem agW:lz P n b rd .ret Q s=Q .ret s:=propext Iff.rfl
@[go_sem] theorem agX {g:Operand} {ps:List Nat} {x y:IC}:lz P n b rd (.KG g ps x y) Q s=B0 P n b rd g ps x y Q s (s.ev g):=propext Iff.rfl
@[go_sem] theorem aeg {X:V->S->Prop} {K:S->Prop}:rW P X K [] s=K s:=propext Iff.rfl
@[go_sem] theorem abV {X:V->S->Prop} {K:S->Prop} {d:Option Nat} {op:Op} {l:List b8}:rW P X K (⟨d,op,none⟩::l) s=C5 P X (rW P X K l) ⟨d,op,none⟩ s:=propext Iff.rfl
@[go_sem] theorem abW {X:V->S->Prop} {K:S->Prop} {d:Option Nat} {op:Op} {g:Nat} {w:Bool} {l:List b8}:rW P X K (⟨d,op,some (g,w)⟩::l) s=BZ P X (rW P X K l) ⟨d,op,some (g,w)⟩ s (nJ (s.env g) w):=propext Iff.rfl
variable {X:V->S->Prop}{K:S->Prop}{d:Option Nat}{op:Op}{g:Option (Nat×Bool)}{f:Operand}{args:Array Operand}{ts:Array TypeId}{c:Bool}
@[reducible] def Y6:Op->Bool
  | .call c=>match c.callee with
    | .value _=>true
    | .invoke .. =>true
    | .builtin .append=>true
    |_=>false
  | .panic _=>true
  | .next .. =>true
  |_=>false
@[go_sem] theorem agY {t t':TypeId}:C5 P X K ⟨d, .call ⟨.builtin .append,args,#[t,t']⟩,g⟩ s=bif wdT t then Yj P s.o s.nx #[t,t'] (fun v Δ=>K ⟨bf s.env d v,put s.o Δ,s.nx+1⟩) (args.toList.map s.ev)else jx (fun v Δ=>K ⟨bf s.env d v,put s.o Δ,s.nx+1⟩) (gA P s s.nx (.call ⟨.builtin .append,args,#[t,t']⟩)):=by
  rw[<- Sf]
  rfl
@[go_sem] theorem ahM (h:Y6 op=false):C5 P X K ⟨d,op,g⟩ s=jx (fun v Δ=>K ⟨bf s.env d v,put s.o Δ,s.nx+1⟩) (gA P s s.nx op):=by
  unfold C5
  cases op with
  |call c=>
   obtain⟨N4,args,ts⟩:=c
   cases N4 with
   |value f=>simp[Y6]at h
   |invoke r m=>simp[Y6]at h
   |builtin b=>cases b<;>first|rfl|simp[Y6]at h
  |panic x=>simp[Y6]at h
  |next x str=>simp[Y6]at h
  |_=>rfl
@[go_sem] theorem aeh {x:Operand} {str:Bool}:C5 P X K ⟨d, .next x str,g⟩ s=Ox (fun v Δ=>K ⟨bf s.env d v,put s.o Δ,s.nx+1⟩) str (qk s.o (s.ev x) str) (ql s.o (s.ev x)):=propext Iff.rfl
@[go_sem] theorem aei:C5 P X K ⟨d, .call ⟨.value f,args,ts⟩,g⟩ s=uQ P (fun v o' nx'=>K ⟨bf s.env d v,o',nx'⟩) (fun v o' nx'=>X v ⟨s.env,o',nx'⟩) s (s.ev f) (args.toList.map s.ev):=propext Iff.rfl
@[go_sem] theorem Y7 {m:String}:C5 P X K ⟨d, .call ⟨.invoke f m,args,ts⟩,g⟩ s=Ow P (fun v o' nx'=>K ⟨bf s.env d v,o',nx'⟩) (fun v o' nx'=>X v ⟨s.env,o',nx'⟩) s (args.toList.map s.ev) (wZ P m (s.ev f)):=propext Iff.rfl
@[go_sem] theorem abX:C5 P X K ⟨d, .panic f,g⟩ s=Ls (fun v=>X v s) (s.ev f):=propext Iff.rfl
@[go_sem] theorem abY:BZ P X K ⟨d, .call ⟨.value f,args,ts⟩,g⟩ s (some c)=He P X K ⟨d, .call ⟨.value f,args,ts⟩,g⟩ s f args.toList c:=propext Iff.rfl
theorem gU{e:Nat->V}{ob:Nat->aa}{nx:Nat}(h:Jd P ((⟨e,ob,nx⟩:S).ev f) (args.toList.map (⟨e,ob,nx⟩:S).ev) ob (fun v=>K ⟨bf e d v,ob,nx+1⟩) c):He P X K ⟨d,op,g⟩ ⟨e,ob,nx⟩ f args.toList c:= .inl h
theorem Eo{s:S}{o:b8}{l:List Operand}(h:jy (C5 P X K o s) (K ⟨bf s.env o.dst (.cc []),s.o,s.nx+1⟩) c):He P X K o s f l c:= .inr h
@[go_sem] theorem abZ (h:l9 op=true):BZ P X K ⟨d,op,g⟩ s (some c)=jx (fun v _=>K ⟨bf s.env d v,s.o,s.nx+1⟩) (l8 c (gA P s s.nx op)):=by
  have h2:ff op=none:=by
   cases hc:ff op with
   |none=>rfl
   |some x=>
    exfalso
    unfold ff at hc
    split at hc
    ·split at hc
     ·rename_i hv;simp[l9,hv]at h
     ·cases hc
    ·cases hc
  simp only[BZ,h2,h,if_true]
@[go_sem] theorem ab0 (h:l9 op=false) (h2:ff op=none):BZ P X K ⟨d,op,g⟩ s (some c)=jy (C5 P X K ⟨d,op,g⟩ s) (K ⟨bf s.env d (.cc []),s.o,s.nx+1⟩) c:=by
  simp[BZ,h2,h]
@[go_sem] theorem Y8 {l:List Operand}:He P X K ⟨d,op,g⟩ s f l false=K ⟨bf s.env d (.cc []),s.o,s.nx+1⟩:=by
  refine propext ⟨fun h=> ?_,fun h=> .inr ⟨(fun e=>by cases e),fun _=>h⟩⟩
  rcases h with⟨rs,_,h⟩|h
  ·exact h
  ·exact h.2 rfl
@[go_sem] theorem ab1 {l:List Operand} (hl:args.toList=l):He P X K ⟨d, .call ⟨.value f,args,ts⟩,g⟩ s f l true=C5 P X K ⟨d, .call ⟨.value f,args,ts⟩,g⟩ s:=by
  subst hl
  refine propext ⟨fun h=> ?_,fun h=> .inr ⟨fun _=>h,(fun e=>by cases e)⟩⟩
  rcases h with⟨rs,h1,h⟩|h
  ·have h1:=h1 rfl
   unfold Eh at h1
   unfold C5 uQ oR
   simp only
   split at h1
   ·rename_i fv gg first cap hf
    simp only[hf]
    split at h1
    ·rename_i ds fL
     simp only[fL]
     exact .inl ⟨.ret rs,h1.1, .inr (.inl ⟨h1.2,h⟩)⟩
    ·exact h1.elim
   ·exact h1.elim
  ·exact h.1 rfl
variable {KV:KD}{XV:XD}
@[go_sem] theorem aej {fr:Nat}:Q8 P KV XV fr ⟨d, .call ⟨.value f,args,ts⟩,g⟩ s=Ek P KV XV s.o s.nx fr (pV s (.call ⟨.value f,args,ts⟩)) (s.ev f) (args.toList.map s.ev):=propext Iff.rfl
@[go_sem] theorem ahN {fr:Nat} (h2:ff op=none):Q8 P KV XV fr ⟨d,op,g⟩ s=xo KV (pV s op) (gA P s fr op):=by simp[Q8,h2]
variable {KS:S->Prop}
@[go_sem ↓] theorem Sl:rK KS Q .normal s=KS s:=propext Iff.rfl
@[go_sem ↓] theorem Y9 {id:Nat}:rK KS Q (.exit id) s=Q (.exit id) s:=propext Iff.rfl
@[go_sem ↓] theorem ab2:rK KS Q .ret s=Q .ret s:=propext Iff.rfl
@[go_sem ↓] theorem Lv {v:V}:rK KS Q (.bU v) s=Q (.bU v) s:=propext Iff.rfl
@[go_sem ↓] theorem Q9 {id:Nat}:fZ id Q .normal s=Q .normal s:=propext Iff.rfl
@[go_sem ↓] theorem VX {id:Nat}:fZ id Q (.exit id) s=Q .normal s:=by simp[fZ]
@[go_sem ↓] theorem Sm {id j:Nat} (h:j≠id):fZ id Q (.exit j) s=Q (.exit j) s:=by simp[fZ,h]
@[go_sem ↓] theorem Za {id:Nat}:fZ id Q .ret s=Q .ret s:=propext Iff.rfl
@[go_sem ↓] theorem Hf {id:Nat} {v:V}:fZ id Q (.bU v) s=Q (.bU v) s:=propext Iff.rfl
def Sn(out:R)(x:Option (List D)):Prop:=match x with|some ds=>out= .ret ds|none=>False
@[go_sem] theorem ab3 {out:R} {ds:List D}:Sn out (some ds)=(out= .ret ds):=propext Iff.rfl
def Zb(out:R)(x:Option D):Prop:=match x with|some d=>out= .bU d|none=>False
@[go_sem] theorem ab4 {out:R} {d:D}:Zb out (some d)=(out= .bU d):=propext Iff.rfl
def Sq(out:R)(o:Nat->aa)(x:Option (List V)):Prop:=match x with|some vs=>Sn out (cF o vs)|none=>False
@[go_sem] theorem ab5 {out:R} {o:Nat->aa} {vs:List V}:Sq out o (some vs)=Sn out (cF o vs):=propext Iff.rfl
variable {rs:List ResultVar}{out:R}
@[go_sem ↓] theorem ab6:GN P rs out .ret s=Sq out s.o (ni P s rs):=propext Iff.rfl
@[go_sem ↓] theorem Sr:GN P rs out .normal s=Sq out s.o (ni P s rs):=propext Iff.rfl
@[go_sem ↓] theorem ab7 {v:V}:GN P rs out (.bU v) s=Zb out (dS s.o v):=propext Iff.rfl
def Ep(K:V->(Nat->aa)->Nat->Prop)(o:Nat->aa)(nx:Nat)(x:Fix (Option (List V)) (K,o,nx)):Prop:=match x with
 |some [v]=>K v o nx
 |some vs=>K (.cc vs) o nx
 |none=>False
@[go_sem] theorem aek {K:V->(Nat->aa)->Nat->Prop} {o:Nat->aa} {nx:Nat} {v:V}:Ep K o nx (some [v])=K v o nx:=propext Iff.rfl
@[go_sem] theorem ael {K:V->(Nat->aa)->Nat->Prop} {o:Nat->aa} {nx:Nat}:Ep K o nx (some [])=K (.cc []) o nx:=propext Iff.rfl
@[go_sem] theorem aem {K:V->(Nat->aa)->Nat->Prop} {o:Nat->aa} {nx:Nat} {v u:V} {l:List V}:Ep K o nx (some (v::u::l))=K (.cc (v::u::l)) o nx:=propext Iff.rfl
theorem Ji{K X:V->(Nat->aa)->Nat->Prop}:nk P rs K X .ret s=Ep K s.o s.nx (ni P s rs):=by
 unfold nk Ep
 cases ni P s rs with
 |none=>rfl
 |some l=>match l with
  |[]=>rfl
  |[_]=>rfl
  |_::_::_=>rfl
@[go_sem ↓] theorem aen {K X:V->(Nat->aa)->Nat->Prop}:rY P rs K X .ret s=Ep K s.o s.nx (ni P s rs):=Ji
@[go_sem ↓] theorem VY {K X:V->(Nat->aa)->Nat->Prop}:rY P rs K X .normal s=Ep K s.o s.nx (ni P s rs):=(Ji (X:=X):nk P rs K X .ret s=_)
@[go_sem ↓] theorem OB {K X:V->(Nat->aa)->Nat->Prop} {v:V}:rY P rs K X (.bU v) s=X v s.o s.nx:=propext Iff.rfl
variable {KE:S->Fp->Prop}{KP:V->List Nat->Fp->Prop}{pr:List (List Nat)}{fr:Nat}{fp:Fp}
@[go_sem] theorem aeo:pZ P KE KP pr [] fr s fp=KE s fp:=propext Iff.rfl
@[go_sem] theorem ab8 {d:Option Nat} {op:Op} {l:List b8}:pZ P KE KP pr (⟨d,op,none⟩::l) fr s fp=
 Q8 P (fun v Δ rd=>pZ P KE KP pr l (fr+1) ⟨bf s.env d v,put s.o Δ,s.nx⟩ (fp++[(rd,Δ.map (·.1))]))
  (fun v ws rd=>El P (KP v) pr l (fr+1) (fp++[(rd,[])]) [fp.length] (ws++fp.flatMap (·.2)) ⟨bf s.env d .ag,s.o,s.nx⟩) fr ⟨d,op,none⟩ s:=propext Iff.rfl
@[go_sem] theorem ab9 {d:Option Nat} {op:Op} {g:Nat} {w:Bool} {l:List b8}:pZ P KE KP pr (⟨d,op,some (g,w)⟩::l) fr s fp=
 kR w (Q8 P (fun v Δ rd=>pZ P KE KP pr l (fr+1) ⟨bf s.env d v,put s.o Δ,s.nx⟩ (fp++[(rd,Δ.map (·.1))]))
  (fun v ws rd=>El P (KP v) pr l (fr+1) (fp++[(rd,[])]) [fp.length] (ws++fp.flatMap (·.2)) ⟨bf s.env d .ag,s.o,s.nx⟩) fr ⟨d,op,some (g,w)⟩ s)
   (pZ P KE KP pr l (fr+1) ⟨bf s.env d (.cc []),s.o,s.nx⟩ (fp++[([],[])])) (s.env g):=propext Iff.rfl
end
attribute [go_sem] Y6 ff l9 gA one np bf S.ev Eh
theorem ai{ι:Type}{b:Nat}{st:ι->S}{bE:ι->Prop}{qO:ι->Nat}{i:ι}{s:S}(j:ι)(h1:bE j)(h2:qO j<qO i)(h3:aZ b s (st j)):Jg b st bE qO i s:=⟨j,h1,h2,h3⟩
attribute [irreducible] Oz Jf lz rW C5 BZ He uQ oR Ej Ov Ow Jd uP Ei jx Ls jy kR Oy tO oS tP Ek xo Q8 pZ El B0 Am rY Ep Sh An xq Sn Zb Sq xp Jg
end
section
def aa.VZ:aa->Bool
 | .qg .. =>true
 |_=>false
def OC(o:Nat->aa)(v:V):Option D:=if v.ids.all (fun id=>(o id).VZ)=true then dS o v else none
section
variable (ρ:Nat->Option Nat)(o' o:Nat->aa)(nx:Nat)
mutual
def p6:V->V->Prop
 | .ag,_=>True
 | .d x,v=>OC o v=some x
 | .aU,v=>v= .aU
 | .agg cs,v=>match v with| .agg ds=>p7 cs ds|_=>False
 | .cc cs,v=>match v with| .cc ds=>p7 cs ds|_=>False
 | .ptr dw Er,v=>match v with| .ptr id off=>ρ dw=some id/\Er=off/\dw<nx|_=>False
 | .osl dw fq,v=>dw<nx/\(o' dw).bV=some fq/\match v with
   | .aU=>ρ dw=none
   | .osl id ep=>ρ dw=some id/\(o id).bV=some ep
   |_=>False
 | .pe dw fq i' pX Er,v=>dw<nx/\(o' dw).bV=some fq/\match v with
   | .pe id ep i sz off=>ρ dw=some id/\(o id).bV=some ep/\i'=i/\pX=sz/\Er=off
   |_=>False
 | .pp cs off,v=>v= .pp cs off
 | .func fn a b,v=>match v with| .func fn' a' b'=>fn=fn'/\p7 a a'/\p7 b b'|_=>False
 | .iface t x,v=>match v with| .iface t' y=>t=t'/\p6 x y|_=>False
 | .qx es,v=>v= .qx es
 | .jo dw Er n' c',v=>match v with| .jo id off n c=>ρ dw=some id/\Er=off/\n'=n/\c'=c/\dw<nx|_=>False
 | .mp dw,v=>match v with| .mp id=>ρ dw=some id/\dw<nx|_=>False
 | .fl,v=>v= .fl\/∃b,v= .d (.bool b)
 | .jI dw,v=>match v with| .jI id=>ρ dw=some id/\dw<nx|_=>False
def p7:List V->List V->Prop
 |[],vs=>vs=[]
 |x::xs,vs=>match vs with|v::vs=>p6 x v/\p7 xs vs|[]=>False
end
def mC(dw:Nat):Prop:=
 match o' dw with
 | .no=>True
 | .row cs'=>match ρ dw with
   |some id=>match o id with| .row cs=>p7 ρ o' o nx cs' cs|_=>False
   |none=>False
 | .arr _ ty sz es=>match ρ dw with
   |some id=>match o id with| .arr _ ty' pX es'=>ty=ty'/\sz=pX/\es=es'|_=>False
   |none=>es=[]/\0<sz
 | .qg _ es=>match ρ dw with
   |some id=>match o id with| .qg _ es'=>es=es'|_=>False
   |none=>False
 | .map kt vt l=>match ρ dw with
   |some id=>match o id with| .map Gd Ge l'=>kt=Gd/\vt=Ge/\l=l'|_=>False
   |none=>False
 | .loop nf n env ps a b st pd=>match ρ dw with
   |some id=>match o id with| .loop nf' n' ahO ps' a' b' st' pd'=>nf=nf'/\n=n'/\ps=ps'/\a=a'/\b=b'/\st=st'/\pd=pd'/\p7 ρ o' o nx env ahO|_=>False
   |none=>False
 | .gw l=>match ρ dw with
   |some id=>match o id with| .gw l'=>l=l'|_=>False
   |none=>False
 | .pW l last=>match ρ dw with
   |some id=>match o id with| .pW l' OD=>l=l'/\(last=none\/last=OD)|_=>False
   |none=>False
 | .yY s pos=>match ρ dw with
   |some id=>match o id with| .yY s' pos'=>s=s'/\pos=pos'|_=>False
   |none=>False
end
section
variable {M M':Nat->Prop}{φ aH:Place}{H H':Hp}{w:World}{ρ:Nat->Option Nat}{nx:Nat}
theorem OE(hH:ay M φ H w){v:V}{x:D}{val:Value}(h:OC H.o v=some x)(hd:V.den (ao M φ H) φ H w v val):D.den (ao M φ H) w x val:=by
 unfold OC at h
 split at h
 ·rename_i ha
  refine eG hH (o:=H.o) v x val (fun id aq=> ?_) h hd
  have:=List.all_eq_true.1 ha id aq
  cases ho:H.o id<;>rw[ho]at this<;>simp[aa.VZ]at this
  rfl
 ·cases h
mutual
theorem vR(hH:ay M φ H w)(dH:∀b,cP w b-> ¬ao M φ H b-> ¬ao M' aH H' b)(dz:∀id,aH id=match ρ id with|some j=>φ j|none=> .slice none 0 0)
 (dg:∀id,id<nx->H'.us id) (bD:∀dw id,ρ dw=some id->(H'.o dw).bF=true->(H.o id).bF=true):
 ∀ (x v:V) (val:Value),p6 ρ H'.o H.o nx x v->V.den (ao M φ H) φ H w v val->V.den (ao M' aH H') aH H' w x val
 | .ag,_,_,_,_=>trivial
 | .d x,v,val,h,hd=>D.aS (fun b hb hn=>⟨rfl,dH b hb hn⟩) x val (OE hH (by simpa[p6]using h) hd)
 | .aU,v,val,h,hd=>by simp only[p6]at h;subst h;exact hd
 | .agg cs,v,val,h,hd=>by
   unfold p6 at h
   split at h
   ·obtain⟨a,rfl,hd,hf⟩:=hd
    exact⟨a,rfl,mE hH dH dz dg bD _ _ _ h hd,hf⟩
   ·exact h.elim
 | .cc cs,v,val,h,hd=>by
   unfold p6 at h
   split at h
   ·obtain⟨a,rfl,hd⟩:=hd
    exact⟨a,rfl,mE hH dH dz dg bD _ _ _ h hd⟩
   ·exact h.elim
 | .ptr dw Er,v,val,h,hd=>by
   unfold p6 at h
   split at h
   ·obtain⟨h1,rfl,h3⟩:=h
    exact X1
   ·exact h.elim
 | .osl dw fq,v,val,h,hd=>by
   unfold p6 at h
   obtain⟨h1,h2,h3⟩:=h
   split at h3
   ·simp only[V.den]at hd;subst hd
    refine⟨rfl,dg _ h1,fun e he=> ?_⟩
    rw[h2]at he;injection he with he;subst he
    exact⟨Nat.le_refl _,fun _=>by rw[dz,h3]⟩
   ·obtain⟨g1,_,g3⟩:=hd
    refine⟨g1,dg _ h1,fun e he=> ?_⟩
    rw[h2]at he;injection he with he;subst he
    exact⟨Nat.le_refl _,fun _=>by rw[dz,h3.1];exact(g3 _ h3.2).2 rfl⟩
   ·exact h3.elim
 | .pe dw fq i' pX Er,v,val,h,hd=>by
   unfold p6 at h
   obtain⟨h1,h2,h3⟩:=h
   split at h3
   ·obtain⟨h3,h4,rfl,rfl,rfl⟩:=h3
    obtain⟨g1,_,g3⟩:=hd
    refine⟨g1,dg _ h1,fun e he=> ?_⟩
    rw[h2]at he;injection he with he;subst he
    refine⟨Nat.le_refl _,fun _=> ?_⟩
    obtain⟨b,n,c,k1,k2⟩:=(g3 _ h4).2 rfl
    exact⟨b,n,c,by rw[dz,h3];exact k1,k2⟩
   ·exact h3.elim
 | .pp cs off,v,val,h,hd=>by
   simp only[p6]at h;subst h
   obtain⟨a,ev,h1,h2,h3,h5,h4⟩:=hd
   exact⟨a,ev,h1,h2,D.aQ (fun b hb hn=>⟨rfl,dH b hb hn⟩) cs ev h3,h5,h4.mono (fun b hb hn=>⟨rfl,dH b hb hn⟩)⟩
 | .func fn a b,v,val,h,hd=>by
   unfold p6 at h
   split at h
   ·obtain⟨rfl,h1,h2⟩:=h
    obtain⟨f,c,rfl,k1,k2⟩:=hd
    exact⟨f,c,rfl,mE hH dH dz dg bD _ _ _ h1 k1,mE hH dH dz dg bD _ _ _ h2 k2⟩
   ·exact h.elim
 | .iface t x,v,val,h,hd=>by
   unfold p6 at h
   split at h
   ·obtain⟨rfl,h1⟩:=h
    obtain⟨u,rfl,k1⟩:=hd
    exact⟨u,rfl,vR hH dH dz dg bD _ _ _ h1 k1⟩
   ·exact h.elim
 | .qx es,v,val,h,hd=>by
   simp only[p6]at h;subst h
   exact⟨D.aS (fun b hb hn=>⟨rfl,dH b hb hn⟩) (.sl es) val hd.1,hd.2⟩
 | .jo dw Er n' c',v,val,h,hd=>by
   unfold p6 at h
   split at h
   ·obtain⟨h1,rfl,rfl,rfl,h3⟩:=h
    exact X1
   ·exact h.elim
 | .mp dw,v,val,h,hd=>by
   unfold p6 at h
   split at h
   ·obtain⟨h1,h3⟩:=h
    obtain⟨g1,_,g3⟩:=hd
    exact⟨g1,dg _ h3,fun hr=>by rw[dz,h1];exact g3 (bD _ _ h1 hr)⟩
   ·exact h.elim
 | .fl,v,val,h,hd=>by
   unfold p6 at h
   rcases h with rfl|⟨b,rfl⟩
   ·exact hd
   ·exact⟨b,hd⟩
 | .jI dw,v,val,h,hd=>by
   unfold p6 at h
   split at h
   ·obtain⟨h1,h3⟩:=h
    exact X1
   ·exact h.elim
theorem mE(hH:ay M φ H w)(dH:∀b,cP w b-> ¬ao M φ H b-> ¬ao M' aH H' b)(dz:∀id,aH id=match ρ id with|some j=>φ j|none=> .slice none 0 0)
 (dg:∀id,id<nx->H'.us id) (bD:∀dw id,ρ dw=some id->(H'.o dw).bF=true->(H.o id).bF=true):
 ∀ (xs vs:List V) (vals:List Value),p7 ρ H'.o H.o nx xs vs->V.aG (ao M φ H) φ H w vs vals->V.aG (ao M' aH H') aH H' w xs vals
 |[],vs,vals,h,hd=>by simp only[p7]at h;subst h;exact hd
 |x::xs,vs,vals,h,hd=>by
  unfold p7 at h
  split at h
  ·obtain⟨u,us,rfl,k1,k2⟩:=hd
   exact⟨u,us,rfl,vR hH dH dz dg bD _ _ _ h.1 k1,mE hH dH dz dg bD _ _ _ h.2 k2⟩
  ·exact h.elim
end
theorem OG(hH:ay M φ H w){o':Nat->aa}(ho:∀id,mC ρ o' H.o nx id)(c8:∀id,nx<=id->o' id= .no)
 (GU:∀i j k,(o' i).live=true->(o' j).live=true->ρ i=some k->ρ j=some k->i=j)
 (hM:∀b,M' b->ao M φ H b) (ahP:∀b,M' b->b<w.heap.size) (Ss:∀b,M' b-> ¬cw (fun id=>match ρ id with|some j=>φ j|none=> .slice none 0 0) ⟨o',fun id=>id<nx⟩ b):
 let aH:Place:=fun id=>match ρ id with|some j=>φ j|none=> .slice none 0 0
 let H':Hp:=⟨o',fun id=>id<nx⟩
 ay M' aH H' w/\(∀b,cw aH H' b->cw φ H b)/\(∀b,cP w b-> ¬ao M φ H b-> ¬ao M' aH H' b)/\
  (∀x v val,p6 ρ o' H.o nx x v->V.den (ao M φ H) φ H w v val->V.den (ao M' aH H') aH H' w x val):=by
 intro aH H'
 have bD:∀dw id,ρ dw=some id->(H'.o dw).bF=true->(H.o id).bF=true:=by
  intro dw id h1 h2
  have h3:=ho dw
  unfold mC at h3
  simp only[H']at h2
  split at h3
  ·rename_i e;rw[e]at h2;cases h2
  ·rw[h1]at h3
   simp only at h3
   split at h3
   ·rename_i e;rw[e];rfl
   ·exact h3.elim
  ·rename_i e;rw[e]at h2;cases h2
  ·rename_i e;rw[e]at h2;cases h2
  ·rw[h1]at h3
   simp only at h3
   split at h3
   ·rename_i e;rw[e];rfl
   ·exact h3.elim
  ·rw[h1]at h3
   simp only at h3
   split at h3
   ·rename_i e;rw[e];rfl
   ·exact h3.elim
  ·rw[h1]at h3
   simp only at h3
   split at h3
   ·rename_i e;rw[e];rfl
   ·exact h3.elim
  ·rw[h1]at h3
   simp only at h3
   split at h3
   ·rename_i e;rw[e];rfl
   ·exact h3.elim
  ·rw[h1]at h3
   simp only at h3
   split at h3
   ·rename_i e;rw[e];rfl
   ·exact h3.elim
 have cU:∀dw b,(o' dw).live=true->dG (aH dw)=some b->∃id,ρ dw=some id/\(H.o id).live=true/\dG (φ id)=some b:=by
  intro dw b h1 h2
  have h3:=ho dw
  unfold mC at h3
  simp only[aH]at h2
  split at h3
  ·rename_i e;rw[e]at h1;cases h1
  ·cases hr:ρ dw with
   |none=>exact n9
   |some id=>
    rw[hr]at h3 h2
    simp only at h3 h2
    split at h3
    ·rename_i e;exact⟨id,rfl,by rw[e];rfl,h2⟩
    ·exact h3.elim
  ·cases hr:ρ dw with
   |none=>rw[hr]at h2;simp[dG]at h2
   |some id=>
    rw[hr]at h3 h2
    simp only at h3 h2
    split at h3
    ·rename_i e;exact⟨id,rfl,by rw[e];rfl,h2⟩
    ·exact h3.elim
  ·rename_i e;rw[e]at h1;cases h1
  ·cases hr:ρ dw with
   |none=>exact n9
   |some id=>
    rw[hr]at h3 h2
    simp only at h3 h2
    split at h3
    ·rename_i e;exact⟨id,rfl,by rw[e];rfl,h2⟩
    ·exact h3.elim
  ·cases hr:ρ dw with
   |none=>exact n9
   |some id=>
    rw[hr]at h3 h2
    simp only at h3 h2
    split at h3
    ·rename_i e;exact⟨id,rfl,by rw[e];rfl,h2⟩
    ·exact h3.elim
  ·rename_i e;rw[e]at h1;cases h1
  ·cases hr:ρ dw with
   |none=>exact n9
   |some id=>
    rw[hr]at h3 h2
    simp only at h3 h2
    split at h3
    ·rename_i e;exact⟨id,rfl,by rw[e];rfl,h2⟩
    ·exact h3.elim
  ·cases hr:ρ dw with
   |none=>exact n9
   |some id=>
    rw[hr]at h3 h2
    simp only at h3 h2
    split at h3
    ·rename_i e;exact⟨id,rfl,by rw[e];rfl,h2⟩
    ·exact h3.elim
 have Q4:∀b,cw aH H' b->cw φ H b:=by
  rintro b ⟨dw,h1,h2⟩
  obtain⟨id,_,h3,h4⟩:=cU dw b h1 h2
  exact⟨id,h3,h4⟩
 have ahQ:∀b,ao M' aH H' b->ao M φ H b:=by
  rintro b (h|h)
  ·exact hM b h
  ·exact .inr (Q4 b h)
 have dH:∀b,cP w b-> ¬ao M φ H b-> ¬ao M' aH H' b:=fun b _ h k=>h (ahQ b k)
 have V0:=mE (M':=M') (aH:=aH) (H':=H') (ρ:=ρ) (nx:=nx) hH dH (fun _=>rfl) (fun _ h=>h) bD
 refine⟨⟨fun dw=> ?_,fun id hn=>c8 id (by simpa[H']using hn),fun i j b h1 h2 h3 h4=> ?_,fun b hb=>⟨fun hm=>Ss b hm hb,(hH.ours b (Q4 b hb)).2⟩,ahP⟩,Q4,dH,
  vR (M':=M') (aH:=aH) (H':=H') (ρ:=ρ) (nx:=nx) hH dH (fun _=>rfl) (fun _ h=>h) bD⟩
 ·have h3:=ho dw
  unfold mC at h3
  unfold aO
  simp only[H']
  split at h3
  ·rename_i e;rw[e];trivial
  ·rename_i cs' e
   rw[e]
   cases hr:ρ dw with
   |none=>exact n9
   |some id=>
    rw[hr]at h3
    simp only at h3
    split at h3
    ·rename_i cs e2
     have:=hH.ok id
     unfold aO at this
     rw[e2]at this
     obtain⟨b,dk,ty,k1,k2,k3,k4⟩:=this
     exact⟨b,dk,ty,by simp only[aH,hr];exact k1,k2,V0 _ _ _ h3 k3,k4⟩
    ·exact h3.elim
  ·rename_i ep ty sz es e
   rw[e]
   cases hr:ρ dw with
   |none=>
    rw[hr]at h3
    obtain⟨rfl,h4⟩:=h3
    exact⟨h4,[],by simp only[aH,hr];exact World.ownsRow_nil _ _ _ _,[],aJ,aJ,rfl⟩
   |some id=>
    rw[hr]at h3
    simp only at h3
    split at h3
    ·rename_i e2
     obtain⟨rfl,rfl,rfl⟩:=h3
     have:=hH.ok id
     unfold aO at this
     rw[e2]at this
     obtain⟨k1,xs,k2,evs,k3,k4,k5⟩:=this
     exact⟨k1,xs,by simp only[aH,hr];exact k2,evs,k3,k4,D.aQ (fun b hb hn=>⟨rfl,dH b hb hn⟩) _ _ k5⟩
    ·exact h3.elim
  ·rename_i ep es e
   rw[e]
   cases hr:ρ dw with
   |none=>exact n9
   |some id=>
    rw[hr]at h3
    simp only at h3
    split at h3
    ·rename_i e2
     subst h3
     have:=hH.ok id
     unfold aO at this
     rw[e2]at this
     simp only[aH,hr]
     exact D.aS (fun b hb hn=>⟨rfl,dH b hb hn⟩) _ _ this
    ·exact h3.elim
  ·rename_i kt vt l e
   rw[e]
   cases hr:ρ dw with
   |none=>exact n9
   |some id=>
    rw[hr]at h3
    simp only at h3
    split at h3
    ·rename_i e2
     obtain⟨rfl,rfl,rfl⟩:=h3
     have:=hH.ok id
     unfold aO at this
     rw[e2]at this
     obtain⟨b,es,clock,k1,k2,k4,k3⟩:=this
     exact⟨b,es,clock,by simp only[aH,hr];exact k1,k2,k4,aN.mono (fun b hb hn=>⟨rfl,dH b hb hn⟩) _ _ k3⟩
    ·exact h3.elim
  ·rename_i nf n env ps a b st pd e
   rw[e]
   cases hr:ρ dw with
   |none=>exact n9
   |some id=>
    rw[hr]at h3
    simp only at h3
    split at h3
    ·rename_i e2
     obtain⟨rfl,rfl,rfl,rfl,rfl,rfl,rfl,hv⟩:=h3
     have:=hH.ok id
     unfold aO at this
     rw[e2]at this
     obtain⟨b,r,k1,k2,k3,k4,k5,k6,k7,k8,k9,k10⟩:=this
     refine⟨b,r,by simp only[aH,hr];exact k1,k2,k3,k4,k5,k6,k7,k8,k9,fun i=> ?_⟩
     have key:∀ (xs vs:List V),p7 ρ o' H.o nx xs vs->∀i,p6 ρ o' H.o nx (aT xs i) (aT vs i):=by
      intro xs
      induction xs with
      |nil=>intro vs hv i;simp[aT,p6]
      |cons x xs ih=>
       intro vs hv i
       unfold p7 at hv
       split at hv
       ·cases i with
        |zero=>exact hv.1
        |succ i=>exact ih _ hv.2 i
       ·exact hv.elim
     exact vR (M':=M') (aH:=aH) (H':=H') (ρ:=ρ) (nx:=nx) hH dH (fun _=>rfl) (fun _ h=>h) bD _ _ _ (key _ _ hv i) (k10 i)
    ·exact h3.elim
  ·rename_i l e
   rw[e]
   cases hr:ρ dw with
   |none=>exact n9
   |some id=>
    rw[hr]at h3
    simp only at h3
    split at h3
    ·rename_i e2
     subst h3
     have:=hH.ok id
     unfold aO at this
     rw[e2]at this
     simp only[aH,hr]
     exact kE.mono (fun b hb hn=>⟨rfl,dH b hb hn⟩) this
    ·exact h3.elim
  ·rename_i l last e
   rw[e]
   cases hr:ρ dw with
   |none=>exact n9
   |some id=>
    rw[hr]at h3
    simp only at h3
    split at h3
    ·rename_i OD e2
     obtain⟨rfl,h3⟩:=h3
     have:=hH.ok id
     unfold aO at this
     rw[e2]at this
     obtain⟨b,k1,k2⟩:=this
     have k3:wB (ao M' aH H') w l OD b:=k2.mono (fun b hb hn=>⟨rfl,dH b hb hn⟩) rfl
     refine⟨b,by simp only[aH,hr];exact k1, ?_⟩
     rcases h3 with rfl|rfl
     ·rcases k3 with⟨a1,a2,_⟩|⟨m,since,seen,es,a1,a2,a3,a4,a5,_⟩
      ·exact .inl ⟨a1,a2,rfl⟩
      ·exact .inr ⟨m,since,seen,es,a1,a2,a3,a4,a5,fun _ _ e=>by cases e⟩
     ·exact k3
    ·exact h3.elim
  ·rename_i s pos e
   rw[e]
   cases hr:ρ dw with
   |none=>exact n9
   |some id=>
    rw[hr]at h3
    simp only at h3
    split at h3
    ·rename_i e2
     obtain⟨rfl,rfl⟩:=h3
     have:=hH.ok id
     unfold aO at this
     rw[e2]at this
     obtain⟨b,k1,k2⟩:=this
     exact⟨b,by simp only[aH,hr];exact k1,k2⟩
    ·exact h3.elim
 ·obtain⟨k1,g1,g2,g3⟩:=cU i b h1 h3
  obtain⟨k2,g4,g5,g6⟩:=cU j b h2 h4
  have:=hH.apart k1 k2 b g2 g5 g3 g6
  subst this
  exact GU i j k1 h1 h2 g1 g4
theorem aZ.of_map {b:Nat}{s s':S}(ρ:Nat->Option Nat)(hb:b<=s'.nx)(ho:∀id,mC ρ s'.o s.o s'.nx id)(c8:∀id,s'.nx<=id->s'.o id= .no)
 (GU:∀i j k,(s'.o i).live=true->(s'.o j).live=true->ρ i=some k->ρ j=some k->i=j)
 (pY:∀id,id<b->ρ id=some id/\(∀e',(s'.o id).bV=some e'->∃e,(s.o id).bV=some e/\e<=e')) (eA:∀i,p6 ρ s'.o s.o s'.nx (s'.env i) (s.env i)):aZ b s s':=by
 intro M φ w tm hH he
 obtain⟨h1,h2,_,h4⟩:=OG (M':=M) (ρ:=ρ) (nx:=s'.nx) hH (o':=s'.o) ho c8 GU (fun b hb=> .inl hb) hH.Bh (fun b hb hl=>by
  have:cw φ s.H b:=by
   obtain⟨dw,g1,g2⟩:=hl
   have h3:=ho dw
   unfold mC at h3
   simp only at g1 g2
   split at h3
   ·rename_i e;rw[e]at g1;cases g1
   ·cases hr:ρ dw with
    |none=>exact n9
    |some id=>
     rw[hr]at h3 g2
     simp only at h3 g2
     split at h3
     ·rename_i e;exact⟨id,by simp only[S.H];rw[e];rfl,g2⟩
     ·exact h3.elim
   ·cases hr:ρ dw with
    |none=>rw[hr]at g2;simp[dG]at g2
    |some id=>
     rw[hr]at h3 g2
     simp only at h3 g2
     split at h3
     ·rename_i e;exact⟨id,by simp only[S.H];rw[e];rfl,g2⟩
     ·exact h3.elim
   ·rename_i e;rw[e]at g1;cases g1
   ·cases hr:ρ dw with
    |none=>exact n9
    |some id=>
     rw[hr]at h3 g2
     simp only at h3 g2
     split at h3
     ·rename_i e;exact⟨id,by simp only[S.H];rw[e];rfl,g2⟩
     ·exact h3.elim
   ·cases hr:ρ dw with
    |none=>exact n9
    |some id=>
     rw[hr]at h3 g2
     simp only at h3 g2
     split at h3
     ·rename_i e;exact⟨id,by simp only[S.H];rw[e];rfl,g2⟩
     ·exact h3.elim
   ·rename_i e;rw[e]at g1;cases g1
   ·cases hr:ρ dw with
    |none=>exact n9
    |some id=>
     rw[hr]at h3 g2
     simp only at h3 g2
     split at h3
     ·rename_i e;exact⟨id,by simp only[S.H];rw[e];rfl,g2⟩
     ·exact h3.elim
   ·cases hr:ρ dw with
    |none=>exact n9
    |some id=>
     rw[hr]at h3 g2
     simp only at h3 g2
     split at h3
     ·rename_i e;exact⟨id,by simp only[S.H];rw[e];rfl,g2⟩
     ·exact h3.elim
  exact(hH.ours b this).1 hb)
 refine⟨_,h1,fun i=>h4 _ _ _ (eA i) (he i),h2,hb,fun id aq hr=> ?_,fun id e' aq mc=> ?_⟩
 ·obtain⟨g1,_⟩:=pY id aq
  refine⟨?_,by simp only[g1]⟩
  have h3:=ho id
  unfold mC at h3
  rw[g1]at h3
  split at h3
  ·rename_i e;rw[e]at hr;cases hr
  ·simp only at h3
   split at h3
   ·rename_i e;rw[e];rfl
   ·exact h3.elim
  ·rename_i e;rw[e]at hr;cases hr
  ·rename_i e;rw[e]at hr;cases hr
  ·simp only at h3
   split at h3
   ·rename_i e;rw[e];rfl
   ·exact h3.elim
  ·simp only at h3
   split at h3
   ·rename_i e;rw[e];rfl
   ·exact h3.elim
  ·simp only at h3
   split at h3
   ·rename_i e;rw[e];rfl
   ·exact h3.elim
  ·simp only at h3
   split at h3
   ·rename_i e;rw[e];rfl
   ·exact h3.elim
  ·simp only at h3
   split at h3
   ·rename_i e;rw[e];rfl
   ·exact h3.elim
 ·obtain⟨g1,g2⟩:=pY id aq
  obtain⟨e,g3,g4⟩:=g2 e' mc
  exact⟨e,g3,g4,fun _=>by simp only[g1]⟩
end
end
@[go_sem] theorem mF (v:V) (l:List V):aT (v::l) 0=v:=rfl
@[go_sem] theorem mG (v:V) (l:List V) (i:Nat):aT (v::l) (i+1)=aT l i:=rfl
@[go_sem] theorem oT (i:Nat):aT [] i= .ag:=by simp[aT]
def V1:List (Nat×Option Nat)->Nat->Option Nat
 |[],id=>some id
 |(i,r)::R,id=>if i=id then r else V1 R id
def V2(ρ:Nat->Option Nat)(o' o:Nat->aa)(nx:Nat)(env:Nat->V):List V->Nat->Prop
 |[],_=>True
 |v::l,i=>p6 ρ o' o nx v (env i)/\V2 ρ o' o nx env l (i+1)
def OH(ρ:Nat->Option Nat)(o' o:Nat->aa)(nx:Nat):List Nat->Prop
 |[]=>True
 |i::l=>mC ρ o' o nx i/\OH ρ o' o nx l
def aep:Option Nat->Option Nat->Prop
 |none,_=>True
 |some _,none=>False
 |some a,some b=>b<=a
def V3(b:Nat)(o' o:Nat->aa):List Nat->Prop
 |[]=>True
 |i::l=>(i<b->aep (o' i).bV (o i).bV)/\V3 b o' o l
@[go_sem] theorem V4 (k:Nat):(0<=(k:Int))=True:=aJ
attribute [go_sem] List.getElem?_map List.length_map Int.toNat_natCast
attribute [go_sem] dA List.flatMap_cons List.flatMap_nil
attribute [go_sem] GX isConst tw RI tu tv Ds tt rn Gu RJ zJ KI qz qA zI wH wI rp
attribute [go_sem] pV V.refs V.aM
attribute [go_sem] V2 OH V3 aep p6 p7 mC V1 OC List.all_nil List.all_cons Option.some.injEq D.int.injEq D.bool.injEq Nat.zero_add Nat.add_zero
theorem wrap64{n:Int}(h1: -9223372036854775808<=n)(h2:n<=9223372036854775807):IntKind.i64.wrap n=n:=by
 unfold IntKind.wrap
 have e1:((2:Int)^IntKind.i64.bits)=18446744073709551616:=bG
 have e2:((2:Int)^(IntKind.i64.bits - 1))=9223372036854775808:=bG
 have e3:IntKind.i64.signed=true:=rfl
 simp only[e1,e2,e3,Bool.true_and,decide_eq_true_eq]
 split<;>omega
@[reducible] def gr (l:List V):List V:= .ag:: .ag:: .ag:: .ag:: .ag:: .ag:: .ag:: .ag::l
structure Good (o:Nat->aa) (nx:Nat):Prop where
 fresh:∀id,nx<=id->o id= .no
 refs:∀id,∀r∈(o id).refs,r<nx
theorem Good.nil {nx:Nat}:Good (fun _=> .no) nx:=⟨fun _ _=>rfl,fun id r h=>by cases h⟩
theorem Good.au {o:Nat->aa}{nx i:Nat}{x:aa}(h:Good o nx)(hi:i<nx)(hx:x.refs.all (fun r=>decide (r<nx))=true):Good (au o i x) nx:=by
 refine⟨fun id aq=> ?_,fun id r hr=> ?_⟩
 ·rw[ab _ _ _ _ (by omega)];exact h.fresh id aq
 ·by_cases e:id=i
  ·subst e
   rw[af]at hr
   simpa using List.all_eq_true.1 hx r hr
  ·rw[ab _ _ _ _ e]at hr
   exact h.refs id r hr
theorem Good.mono {o:Nat->aa}{nx m:Nat}(h:Good o nx)(hm:nx<=m):Good o m:=⟨fun id aq=>h.fresh id ae,fun id r hr=>Nat.lt_of_lt_of_le (h.refs id r hr) hm⟩
theorem Good.lt {o:Nat->aa}{nx id:Nat}(h:Good o nx)(hn:o id≠ .no):id<nx:=by
 rcases Nat.lt_or_ge id nx with hl|hl
 ·exact hl
 ·exact absurd (h.fresh id hl) hn
theorem V.zB:∀ (l:List V) (i:Nat),∀r∈(aT l i).refs,r∈V.aM l
 |[],i,r,h=>by rw[oT]at h;cases h
 |v::l,0,r,h=>by rw[mF]at h;simp only[V.aM,List.mem_append];exact .inl h
 |v::l,i+1,r,h=>by rw[mG]at h;simp only[V.aM,List.mem_append];exact .inr (V.zB l i r h)
theorem aZ.back {b:Nat}{s:S}{env:Nat->V}{o:Nat->aa}{nx:Nat}(hb:b<=nx)(hn:nx<=s.nx)(hg:Good o nx)(ho:∀id,id<nx->s.o id=o id)
 (he:∀i,env i= .ag\/(env i=s.env i/\∀r∈(env i).refs,r<nx)):aZ b s ⟨env,o,nx⟩:=by
 intro M φ w tm hH hd
 have cU:∀k,cw φ (hp o nx) k->cw φ s.H k:=by
  rintro k ⟨id,h1,h2⟩
  have aq:id<nx:=hg.lt (fun e=>by simp only[hp]at h1;rw[e]at h1;cases h1)
  exact⟨id,by simp only[S.H];rw[ho id aq];exact h1,h2⟩
 have hB:∀k, ¬ao M φ s.H k-> ¬ao M φ (hp o nx) k:=fun k h h'=>h (h'.imp id (cU k))
 have fK:∀ (v:V) (val:Value),(∀r∈v.refs,r<nx)->V.den (ao M φ s.H) φ s.H w v val->V.den (ao M φ (hp o nx)) φ (hp o nx) w v val:=fun v val hr h=>
  V.oM (H:=s.H) (H':=hp o nx) hB v val (fun id aq=>⟨(ho id (hr id aq)).symm,rfl,hr id aq⟩) h
 have kD:∀ (v:List V) (val:List Value),(∀r∈V.aM v,r<nx)->V.aG (ao M φ s.H) φ s.H w v val->V.aG (ao M φ (hp o nx)) φ (hp o nx) w v val:=fun v val hr h=>
  V.hZ (H:=s.H) (H':=hp o nx) hB v val (fun id aq=>⟨(ho id (hr id aq)).symm,rfl,hr id aq⟩) h
 refine⟨φ,⟨fun id=> ?_,fun id hu=>hg.fresh id (by simpa[S.H]using hu),fun i j k h1 h2 h3 h4=> ?_,fun k hk=>hH.ours k (cU k hk),hH.Bh⟩,fun i=> ?_,cU,hb,fun id aq hr=> ?_,fun id e' aq mc=> ?_⟩
 ·have bu:=hH.ok id
  have hrefs:=hg.refs id
  unfold aO at bu|-
  by_cases aq:id<nx
  ·have e:s.H.o id=o id:=ho id aq
   rw[e]at bu
   simp only[S.H]at bu|-
   cases hx:o id with
   |no=>trivial
   |row cs=>
    simp only[hx]at bu hrefs|-
    exact UY
   |arr ep ty sz es=>
    simp only[hx]at bu|-
    obtain⟨k1,xs,k2,evs,k3,k4,k5⟩:=bu
    exact Ue
   |qg ep es=>
    simp only[hx]at bu|-
    exact D.aS (fun b _ hn=>⟨rfl,hB b hn⟩) _ _ bu
   |map kt vt es=>
    simp only[hx]at bu|-
    obtain⟨b,es',clock,k1,k2,k4,k3⟩:=bu
    exact Uc
   |gw l=>
    simp only[hx]at bu|-
    exact kE.mono (fun b _ hn=>⟨rfl,hB b hn⟩) bu
   |pW l last=>
    simp only[hx]at bu|-
    obtain⟨b,k1,k2⟩:=bu
    exact UG
   |yY s pos=>
    simp only[hx]at bu|-
    exact bu
   |loop nf n env ps a b st pd=>
    simp only[hx]at bu hrefs|-
    exact Vg
  ·simp only[S.H]
   rw[hg.fresh id (by omega)]
   trivial
 ·have hi:i<nx:=hg.lt (fun e=>by simp only[S.H]at h1;rw[e]at h1;cases h1)
  have hj:j<nx:=hg.lt (fun e=>by simp only[S.H]at h2;rw[e]at h2;cases h2)
  exact hH.apart i j k (by simp only[S.H];rw[ho i hi];exact h1) (by simp only[S.H];rw[ho j hj];exact h2) h3 h4
 ·rcases he i with h|⟨h1,h2⟩
  ·simp only[h];trivial
  ·have:=hd i
   rw[<- h1]at this
   exact fK _ _ h2 this
 ·have cS:id<nx:=ae
  exact⟨by rw[ho id cS];exact hr,rfl⟩
 ·have cS:id<nx:=ae
  exact⟨e',by rw[ho id cS];exact mc,Nat.le_refl _,fun _=>rfl⟩
def mH(nx:Nat)(env:Nat->V):List V->Nat->Prop
 |[],_=>True
 |v::l,i=>(v= .ag\/(v=env i/\∀r∈v.refs,r<nx))/\mH nx env l (i+1)
theorem aZ.aV {b:Nat}{e:Nat->V}{so:Nat->aa}{m:Nat}(l:List V){o:Nat->aa}{nx:Nat}(hb:b<=nx)(hn:nx<=m)(hg:Good o nx)(ho:∀id,id<nx->so id=o id)(he:mH nx e l 0):aZ b ⟨e,so,m⟩ ⟨aT l,o,nx⟩:=by
 refine aZ.back hb hn hg ho ?_
 have key:∀ (l:List V) (i:Nat),mH nx e l i->∀j,aT l j= .ag\/(aT l j=e (i+j)/\∀r∈(aT l j).refs,r<nx):=by
  intro l
  induction l with
  |nil=>intro i _ j;rw[oT];exact .inl rfl
  |cons v l ih=>
   intro i h j
   cases j with
   |zero=>rw[mF];exact h.1
   |succ j=>
    rw[mG]
    have:=ih (i+1) h.2 j
    rwa [show i+1+j=i+(j+1) by omega]at this
 intro i
 have:=key l 0 he i
 rwa [Nat.zero_add]at this
theorem Ku{nx:Nat}{env:Nat->V}{i:Nat}:mH nx env [] i:=trivial
theorem Gi{nx:Nat}{env:Nat->V}{l:List V}{i:Nat}(h:mH nx env l (i+1)):mH nx env (.ag::l) i:=⟨.inl rfl,h⟩
theorem Ij{nx:Nat}{env:Nat->V}{l:List V}{i:Nat}{x:D}(he:env i= .d x)(h:mH nx env l (i+1)):mH nx env (.d x::l) i:=⟨.inr ⟨he.symm,fun r hr=>by simp[V.refs]at hr⟩,h⟩
theorem Rs{nx:Nat}{env:Nat->V}{l:List V}{i:Nat}{v:V}(he:env i=v)(hr:∀r∈v.refs,r<nx)(h:mH nx env l (i+1)):mH nx env (v::l) i:=⟨.inr ⟨he.symm,hr⟩,h⟩
theorem aZ.d0 {e:Nat->V}{so:Nat->aa}{m:Nat}(l:List V)(he:mH 0 e l 0):aZ 0 ⟨e,so,m⟩ ⟨aT l,fun _=> .no,0⟩:=aZ.aV l (Nat.le_refl 0) (Nat.zero_le _) Good.nil (fun _ h=>absurd h (Nat.not_lt_zero _)) he
theorem wk{k:Nat}(h:(k:Int)+1<=9223372036854775807):IntKind.i64.wrap ((k:Int)+1)=((k+1:Nat):Int):=by rw[wrap64 (by omega) h];rfl
theorem wh{k:IntKind}{a b:Int}(h:a=b):V.d (D.int k a)=V.d (D.int k b):=by rw[h]
theorem oU{P:Program}{g:FuncId}{K:KD}{X:XD}{o:Nat->aa}{nx fr:Nat}{all:List V}{rd:List Nat}{rs:List D}{Δ:List (Nat×aa)}(nP:rd.all (fun id=>decide (id<nx))=true)(h:zh P g all rd o (.ret rs) Δ)(hk:K (kb rs) Δ rd):oS P g K X o nx fr all:=by
 unfold oS
 exact⟨rd,Δ,nP, .inl ⟨rs,h,hk⟩⟩
end Go.Proofs.YtnkamdiiakdkgaaGreat
