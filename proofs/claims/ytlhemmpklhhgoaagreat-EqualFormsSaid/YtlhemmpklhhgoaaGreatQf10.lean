/-
  A PART. Conditions: none.
-/
import Derived.Test.YtlhemmpklhhgoaaGreatQf9
set_option linter.unusedSimpArgs false
set_option linter.unusedVariables false
set_option maxHeartbeats 8000000
namespace Go.Proofs.YtlhemmpklhhgoaaGreat
section
abbrev Fix(α:Type){β:Type}(_:β):Type:=α
def lK(K:V->List (Nat×aa)->Prop)(x:Fix (Option gS) K):Prop:=match x with|some (v,Δ,_)=>K v Δ|none=>False
@[go_sem] theorem XM {v:V} {Δ:List (Nat×aa)} {rd:List Nat} {K}:lK K (some (v,Δ,rd))=K v Δ:=propext Iff.rfl
@[go_sem] theorem XN {K}:lK K none=False:=propext Iff.rfl
def V.BE (c:Bool)(v:V):V:=if c=true then v else .cf []
@[go_sem] theorem ac9 (b:Bool):(!!b)=b:=aF
attribute [go_sem] true_or or_true false_or ne_eq not_false_eq_true decide_true decide_false Bool.not_true Bool.not_false Bool.and_true Bool.true_and Bool.and_false Bool.false_and Bool.or_true Bool.true_or Bool.or_false Bool.false_or beq_self_eq_true Bool.true_eq_false Bool.false_eq_true not_true_eq_false and_true true_and and_false false_and eq_self
@[go_sem] theorem V.ada (v:V):V.BE true v=v:=rfl
@[go_sem] theorem V.aaF (v:V):V.BE false v= .cf []:=rfl
def nN(c:Bool)(p:Prop):Prop:=c=true->p
@[congr] theorem U2 {c c':Bool} {p p':Prop} (h:c=c') (h2:c'=true->p=p'):nN c p=nN c' p':=by
  subst h;cases c
  ·simp[nN]
  ·simp[nN,h2 rfl]
@[go_sem] theorem XO (p:Prop):nN true p=p:=by simp[nN]
@[go_sem] theorem U3 (p:Prop):nN false p=True:=by simp[nN]
@[go_sem] theorem XP (a:Bool):nN a True=True:=by simp[nN]
def nO(v:V)(want:Bool):Option Bool:=
 match v with
 | .d (.bool b)=>some (b==want)
 | .cf []=>some false
 |_=>none
@[go_sem] theorem XQ (b:Bool):nO (.d (.bool b)) true=some b:=by simp[nO]
@[go_sem] theorem U4 (b:Bool):nO (.d (.bool b)) false=some (!b):=by simp[nO]
@[go_sem] theorem adb (want:Bool):nO (.cf []) want=some false:=rfl
@[go_sem] theorem aaG (c b want:Bool):nO (V.BE c (.d (.bool b))) want=some (c&&(b==want)):=by cases c<;>simp[nO,V.BE]
@[go_sem] theorem XR (c b e want:Bool):nO (V.BE c (V.BE e (.d (.bool b)))) want=some (c&&e&&(b==want)):=by cases c<;>cases e<;>simp[nO,V.BE]
def mg(c:Bool)(x:Option gS):Option gS:=
 if c=true then(match x with|some (v,[],_)=>some (v,[],[])|_=>none)else some (.cf [],[],[])
@[congr] theorem Rj {c c':Bool} {x x':Option gS} (h:c=c') (h2:c'=true->x=x'):mg c x=mg c' x':=by
  subst h;cases c
  ·rfl
  ·simp[mg,h2 rfl]
def okR(v:V)(rd:List Nat):Option gS:=some (v,[],rd)
@[go_sem] theorem agJ (v:V) (rd:List Nat):(some (v,[],rd):Option gS)=okR v rd:=by unfold okR;exact Eq.trans rfl rfl
@[go_sem] theorem XS (c:Bool) (v:V) (rd:List Nat):mg c (okR v rd)=okR (V.BE c v) []:=by cases c<;>rfl
@[go_sem] theorem aaH {v:V} {rd:List Nat} {K}:lK K (okR v rd)=K v []:=propext Iff.rfl
@[go_sem] theorem U5 (c:Bool) (v:V) (rd:List Nat):mg c (some (v,[],rd))=some (V.BE c v,[],[]):=by cases c<;>rfl
@[go_sem] theorem Rk (x:Option gS):mg false x=some (.cf [],[],[]):=rfl
@[go_sem] theorem ade (b x:Bool):rV (.d (.bool b)) (V.BE b (.d (.bool x))) (.d (.bool false))=some (.d (.bool (b&&x))):=CQ
@[go_sem] theorem afS (b x:Bool):rV (.d (.bool b)) (.d (.bool true)) (V.BE (!b) (.d (.bool x)))=some (.d (.bool (b||x))):=CQ
@[go_sem] theorem adf (b x:Bool):rV (.d (.bool (!b))) (.d (.bool true)) (V.BE b (.d (.bool x)))=some (.d (.bool (!b||x))):=CQ
@[go_sem] theorem aaI (x y:V):rV (.d (.bool true)) x y=some x:=rfl
@[go_sem] theorem XT (x y:V):rV (.d (.bool false)) x y=some y:=rfl
@[reducible] def mh:Op->Bool
  | .move _| .assign _| .pick .. | .load .. | .binOp .. | .unOp .. | .nilCheck _| .convert .. | .makeInterface .. | .makeFunc .. | .fieldAddr .. | .indexAddr .. | .extract .. | .build .. | .index .. | .field .. | .lookup .. =>true
  | .call c=>match c.callee with
    | .builtin .len=>true
    | .builtin .min=>true
    | .builtin .max=>true
    |_=>false
  |_=>false
def DT(P:Program)(f:V)(args:List V)(o:Nat->aa)(rs:List D):Prop:=
 match f with
 | .func (.func g) first cap=>match cA o (first++args++cap)with
   |some ds=>a7 P g ds (.ret rs)/\D.kN rs=true
   |none=>False
 |_=>False
def Ix(P:Program)(f:V)(args:List V)(o:Nat->aa)(K:V->Prop)(c:Fix Bool (f,args,o,K)):Prop:=
 ∃rs,nN c (DT P f args o rs)/\K (V.BE c (jM rs))
def DU(P:Program)(g:FuncId)(nx:Nat)(K X:V->(Nat->aa)->Nat->Prop)(args:Fix (List V) (K,X))(o:Fix (Nat->aa) (K,X)):Prop:=uM P g args o nx K X
def xf(P:Program)(g:FuncId)(o:Nat->aa)(nx:Nat)(K X:V->(Nat->aa)->Nat->Prop)(ds:Fix (List D) (o,nx,K,X))(all:Fix (List V) (o,nx,K,X)):Prop:=
 wY P g ds o (put o (bK o (V.bw all))) (put o (tp o (V.bw all))) (fun v o'=>K v o' (nx+1)) (fun v o'=>X v o' (nx+1))\/uM P g all o nx K X
def oF(P:Program)(g:FuncId)(K X:V->(Nat->aa)->Nat->Prop)(s:S)(all:List V)(ds:Fix (Option (List D)) (K,X,s,all)):Prop:=
 match ds with
 |some ds=>xf P g s.o s.nx K X ds all
 |none=>DU P g s.nx K X all s.o
@[go_sem] theorem U6 {P:Program} {s:S} {ds:List D} {g:FuncId} {all:List V} {K X}:
 oF P g K X s all (some ds)=xf P g s.o s.nx K X ds all:=propext Iff.rfl
def Af(P:Program)(id:Nat)(K X:V->(Nat->aa)->Nat->Prop)(s:S)(args:Fix (List V) (K,X,s)):Prop:=ej P id args s.o s.nx K X
@[go_sem] theorem U7 {P:Program} {s:S} {g:FuncId} {all:List V} {K X}:oF P g K X s all none=DU P g s.nx K X all s.o:=propext Iff.rfl
def uS(P:Program)(K X:V->(Nat->aa)->Nat->Prop)(s:S)(f:Fix V (K,X,s))(args:Fix (List V) (K,X,s)):Prop:=
 match f with
 | .func (.func g) first cap=>oF P g K X s (first++args++cap) (cA s.o (first++args++cap))
 | .lC id=>Af P id K X s args
 |_=>False
@[go_sem] theorem aaJ {P:Program} {s:S} {id:Nat} {args:List V} {K X}:uS P K X s (.lC id) args=Af P id K X s args:=propext Iff.rfl
@[go_sem] theorem XU {P:Program} {s:S} {g:FuncId} {first cap args:List V} {K X}:uS P K X s (.func (.func g) first cap) args=oF P g K X s (first++args++cap) (cA s.o (first++args++cap)):=propext Iff.rfl
def NG(P:Program)(g:FuncId)(o:Nat->aa)(nx:Nat)(K X:V->(Nat->aa)->Nat->Prop)(ds:Fix (List D) (o,nx,K,X))(all:Fix (List V) (o,nx,K,X)):Prop:=
 wY P g ds o (put o (bK o (V.bw all))) (put o (tp o (V.bw all))) (fun v o'=>K v o' (nx+1)) (fun v o'=>X v o' (nx+1))
def DV(P:Program)(g:FuncId)(K X:V->(Nat->aa)->Nat->Prop)(s:S)(all:List V)(ds:Fix (Option (List D)) (K,X,s,all)):Prop:=
 match ds with
 |some ds=>NG P g s.o s.nx K X ds all
 |none=>False
@[go_sem] theorem XW {P:Program} {s:S} {ds:List D} {g:FuncId} {all:List V} {K X}:DV P g K X s all (some ds)=NG P g s.o s.nx K X ds all:=propext Iff.rfl
def NH(P:Program)(K X:V->(Nat->aa)->Nat->Prop)(s:S)(args:Fix (List V) (K,X,s))(r:Fix (Option (FuncId×V)) (K,X,s)):Prop:=
 match r with
 |some (g,y)=>DV P g K X s (y::args) (cA s.o (y::args))
 |none=>False
@[go_sem] theorem aaK {P:Program} {s:S} {g:FuncId} {y:V} {args:List V} {K X}:NH P K X s args (some (g,y))=DV P g K X s (y::args) (cA s.o (y::args)):=propext Iff.rfl
def K6(K:V->Prop)(v:Fix V K):Prop:=
 match v with
 | .d (.iface t y)=>K (.d (.iface t y))
 | .iface t y=>K (.iface t y)
 |_=>False
@[go_sem] theorem agK {t:TypeId} {y:D} {K}:K6 K (.d (.iface t y))=K (.d (.iface t y)):=propext Iff.rfl
@[go_sem] theorem agL {t:TypeId} {y:V} {K}:K6 K (.iface t y)=K (.iface t y):=propext Iff.rfl
def Iy(K:V->List (Nat×aa)->Prop)(id:Nat)(l:Fix (List (D×D)) (K,id)):Prop:=H5 id l fun v Δ _=>K v Δ
def NI(K:V->List (Nat×aa)->Prop)(str:Bool)(det:Fix (Option gS) (K,str))(left:Fix (Option (Nat×List (D×D))) (K,str)):Prop:=
 match left with
 |some (id,l)=>str=false/\Iy K id l
 |none=>lK K det
@[go_sem] theorem aaL {K} {det:Option gS} {id:Nat} {l:List (D×D)}:NI K false det (some (id,l))=Iy K id l:=propext ⟨fun h=>h.2,fun h=>⟨rfl,h⟩⟩
@[go_sem] theorem aaM {K} {str:Bool} {det:Option gS}:NI K str det none=lK K det:=propext Iff.rfl
def DW(P:Program)(X:V->S->Prop)(K:S->Prop)(o:cg)(s:Fix S (X,K,o)):Prop:=
 match o.op with
 | .next x str=>NI (fun v Δ=>K ⟨ba s.env o.dst v,put s.o Δ,s.nx+1⟩) str (qa s.o (s.ev x) str) (qb s.o (s.ev x))
 | .call c=>match c.callee with
   | .value f=>uS P (fun v o' nx'=>K ⟨ba s.env o.dst v,o',nx'⟩) (fun v o' nx'=>X v ⟨s.env,o',nx'⟩) s (s.ev f) (c.args.toList.map s.ev)
   | .invoke r m=>NH P (fun v o' nx'=>K ⟨ba s.env o.dst v,o',nx'⟩) (fun v o' nx'=>X v ⟨s.env,o',nx'⟩) s (c.args.toList.map s.ev) (wR P m (s.ev r))
   |_=>lK (fun v Δ=>K ⟨ba s.env o.dst v,put s.o Δ,s.nx+1⟩) (iu P s s.nx o.op)
 | .panic x=>K6 (fun v=>X v s) (s.ev x)
 |op=>lK (fun v Δ=>K ⟨ba s.env o.dst v,put s.o Δ,s.nx+1⟩) (iu P s s.nx op)
@[reducible] def fi:Op->Option (Operand×List Operand)
  | .call c=>match c.callee with
    | .value f=>some (f,c.args.toList)
    |_=>none
  |_=>none
def jE(A B:Prop)(t:Fix Bool (A,B)):Prop:=r8 t A B
@[go_sem] theorem XX (A B:Prop):jE A B true=A:=wZ A B
@[go_sem] theorem U8 (A B:Prop):jE A B false=B:=uN A B
def Gw(P:Program)(X:V->S->Prop)(K:S->Prop)(o:cg)(s:S)(f:Operand)(args:List Operand)(c:Fix Bool (X,K,o,s,f,args)):Prop:=
 Ix P (s.ev f) (args.map s.ev) s.o (fun v=>K ⟨ba s.env o.dst v,s.o,s.nx+1⟩) c\/jE (DW P X K o s) (K ⟨ba s.env o.dst (.cf []),s.o,s.nx+1⟩) c
def BF(P:Program)(X:V->S->Prop)(K:S->Prop)(o:cg)(s:S)(c:Fix (Option Bool) (X,K,o,s)):Prop:=
 match c with
 |none=>False
 |some c=>match fi o.op with
  |some (f,args)=>Gw P X K o s f args c
  |none=>if mh o.op=true then lK (fun v _=>K ⟨ba s.env o.dst v,s.o,s.nx+1⟩) (mg c (iu P s s.nx o.op))
   else jE (DW P X K o s) (K ⟨ba s.env o.dst (.cf []),s.o,s.nx+1⟩) c
def tM(P:Program)(X:V->S->Prop)(K:S->Prop)(l:List cg)(s:Fix S (X,K,l)):Prop:=
 match l with
 |[]=>K s
 |o::l=>match o.gd with
  |none=>DW P X (tM P X K l) o s
  |some (d,want)=>BF P X (tM P X K l) o s (nO (s.env d) want)
def kP(want:Bool)(A B:Prop)(v:Fix V (A,B)):Prop:=
 match v with
 | .d (.bool b)=>r8 (b==want) A B
 | .cf []=>B
 |_=>False
@[go_sem] theorem U9 (b:Bool) (A B:Prop):kP true A B (.d (.bool b))=jE A B b:=by simp[kP,jE]
@[go_sem] theorem Rl (b:Bool) (A B:Prop):kP false A B (.d (.bool b))=jE A B (!b):=by simp[kP,jE]
@[go_sem] theorem aaN (want:Bool) (A B:Prop):kP want A B (.cf [])=B:=propext Iff.rfl
@[go_sem] theorem XY (c b want:Bool) (A B:Prop):kP want A B (V.BE c (.d (.bool b)))=jE A B (c&&(b==want)):=by cases c<;>simp[kP,V.BE,jE]
abbrev KD:=V->List (Nat×aa)->List Nat->Prop
abbrev XD:=V->List Nat->List Nat->Prop
def NJ(P:Program)(g:FuncId)(K:KD)(X:XD)(o:Nat->aa)(rd:List Nat)(ds:Fix (List D) (K,X,o,rd))(all:Fix (List V) (K,X,o,rd)):Prop:=
 uR P g ds (fun v=>K v (bK o (V.bw all)) rd) (fun v=>K v [] rd) (fun v=>X v [] rd)
def tN(P:Program)(g:FuncId)(K:KD)(X:XD)(o:Nat->aa)(nx fr:Nat)(all:Fix (List V) (K,X,o,nx)):Prop:=jO P g all o nx fr K X
def nu(P:Program)(g:FuncId)(K:KD)(X:XD)(o:Nat->aa)(nx fr:Nat)(rd:List Nat)(ds:Fix (List D) (K,X,o,nx,rd))(all:Fix (List V) (K,X,o,nx,rd)):Prop:=NJ P g K X o rd ds all\/tN P g K X o nx fr all
def tO(P:Program)(K:KD)(X:XD)(o:Nat->aa)(nx fr:Nat)(rd:List Nat)(g:FuncId)(all:List V)(ds:Fix (Option (List D)) (K,X,o,nx,rd,all)):Prop:=
 match ds with
 |some ds=>nu P g K X o nx fr rd ds all
 |none=>tN P g K X o nx fr all
@[go_sem] theorem Va {P:Program} {o:Nat->aa} {nx fr:Nat} {rd:List Nat} {ds:List D} {g:FuncId} {all:List V} {K X}:tO P K X o nx fr rd g all (some ds)=nu P g K X o nx fr rd ds all:=propext Iff.rfl
@[go_sem] theorem Vb {P:Program} {o:Nat->aa} {nx fr:Nat} {rd:List Nat} {g:FuncId} {all:List V} {K X}:tO P K X o nx fr rd g all none=tN P g K X o nx fr all:=propext Iff.rfl
def DX(P:Program)(K:KD)(X:XD)(o:Nat->aa)(nx fr:Nat)(rd:Fix (List Nat) (K,X,o,nx))(f:Fix V (K,X,o,nx))(args:Fix (List V) (K,X,o,nx)):Prop:=
 match f with
 | .func (.func g) first cap=>tO P K X o nx fr rd g (first++args++cap) (cA o (first++args++cap))
 |_=>False
@[go_sem] theorem XZ {P:Program} {o:Nat->aa} {nx fr:Nat} {rd:List Nat} {g:FuncId} {first cap args:List V} {K X}:DX P K X o nx fr rd (.func (.func g) first cap) args=tO P K X o nx fr rd g (first++args++cap) (cA o (first++args++cap)):=propext Iff.rfl
def xg(K:KD)(rd:List Nat)(x:Fix (Option gS) (K,rd)):Prop:=match x with|some (v,Δ,_)=>K v Δ rd|none=>False
@[go_sem] theorem X0 {v:V} {Δ:List (Nat×aa)} {r rd:List Nat} {K}:xg K rd (some (v,Δ,r))=K v Δ rd:=propext Iff.rfl
@[go_sem] theorem aaO {v:V} {r rd:List Nat} {K}:xg K rd (okR v r)=K v [] rd:=propext Iff.rfl
def Ql(P:Program)(K:KD)(X:XD)(fr:Nat)(o:cg)(s:Fix S (K,X,o)):Prop:=
 match fi o.op with
 |some (f,args)=>DX P K X s.o s.nx fr (pV s o.op) (s.ev f) (args.map s.ev)
 |none=>xg K (pV s o.op) (iu P s fr o.op)
def K7(P:Program)(KB:List Nat->Fp->Prop)(pr:List (List Nat))(l:List cg)(fr:Nat)(fp:Fix Fp (KB,l))(bad ws:Fix (List Nat) (KB,l))(s:Fix S (KB,l)):Prop:=ji P KB pr l fr s fp bad ws
def qI(P:Program)(K:S->Fp->Prop)(KP:V->List Nat->Fp->Prop)(pr:List (List Nat))(l:List cg)(fr:Nat)(s:Fix S (K,KP,l))(fp:Fix Fp (K,KP,l)):Prop:=
 match l with
 |[]=>K s fp
 |o::l=>match o.gd with
  |none=>Ql P (fun v Δ rd=>qI P K KP pr l (fr+1) ⟨ba s.env o.dst v,put s.o Δ,s.nx⟩ (fp++[(rd,Δ.map (·.1))]))
   (fun v ws rd=>K7 P (KP v) pr l (fr+1) (fp++[(rd,[])]) [fp.length] (ws++fp.flatMap (·.2)) ⟨ba s.env o.dst .ai,s.o,s.nx⟩) fr o s
  |some (d,want)=>kP want (Ql P (fun v Δ rd=>qI P K KP pr l (fr+1) ⟨ba s.env o.dst v,put s.o Δ,s.nx⟩ (fp++[(rd,Δ.map (·.1))]))
   (fun v ws rd=>K7 P (KP v) pr l (fr+1) (fp++[(rd,[])]) [fp.length] (ws++fp.flatMap (·.2)) ⟨ba s.env o.dst .ai,s.o,s.nx⟩) fr o s)
   (qI P K KP pr l (fr+1) ⟨ba s.env o.dst (.cf []),s.o,s.nx⟩ (fp++[([],[])])) (s.env d)
def Rm(pr:List (List Nat))(nx:Nat)(Q:gr->S->Prop)(s:Fix S Q)(fp:Fix Fp Q):Prop:=Gt pr nx Q s fp
def tQ(l:List cg)(k:Fix Nat l):Option Nat:=match l with
 |[]=>none
 |o::l=>match o.gd,fi o.op with
  |none,some (.tmp _,_)=>some k
  |_,_=>tQ l (k+1)
def Vc(P:Program)(pr:List (List Nat))(l:List cg)(nx:Nat)(Q:gr->S->Prop)(s:Fix S (P,pr,l,nx,Q))(fp:Fix Fp (P,pr,l,nx,Q)):Prop:=fD pr fp=true/\tM P (fun v s=>Q (.bU v) s) (Q .normal) l ⟨s.env,s.o,nx⟩
def Rn(P:Program)(l:List cg)(pr:List (List Nat))(Q:gr->S->Prop)(s:S)(sp:Fix (Option Nat) (P,l,pr,Q,s)):Prop:=match sp with
 |none=>qI P (Rm pr (s.nx+l.length) Q) (DO pr l s Q) pr l s.nx s []
 |some m=>m<=l.length/\Gu pr m=true/\qI P (Vc P pr (l.drop m) (s.nx+m) Q) (fun _ _ _=>False) pr (l.take m) s.nx s []
def Ag(A B:Prop)(v:Fix V (A,B)):Prop:=
 match v with
 | .d (.bool t)=>jE A B t
 | .gh=>A/\B
 |_=>False
@[go_sem] theorem aaP (A B:Prop):Ag A B .gh=(A/\B):=propext Iff.rfl
@[go_sem] theorem X1 (t:Bool) (A B:Prop):Ag A B (.d (.bool t))=jE A B t:=propext Iff.rfl
def Iz{ι:Type}(b:Nat)(st:ι->S)(cW:ι->Prop)(qJ:ι->Nat)(i:ι)(s:S):Prop:=∃j,cW j/\qJ j<qJ i/\bM b s (st j)
def xh(next:S->Prop)(Q:gr->S->Prop)(e:gr)(s:S):Prop:=match e with| .normal=>next s|e=>Q e s
section
variable {N:S->Prop}{Q:gr->S->Prop}{s:S}
@[go_sem ↓] theorem Ro:xh N Q .normal s=N s:=propext Iff.rfl
@[go_sem ↓] theorem X2 {id:Nat}:xh N Q (.exit id) s=Q (.exit id) s:=propext Iff.rfl
@[go_sem ↓] theorem aaQ:xh N Q .ret s=Q .ret s:=propext Iff.rfl
@[go_sem ↓] theorem aaR {v:V}:xh N Q (.bU v) s=Q (.bU v) s:=propext Iff.rfl
end
def IA(b:Nat)(body:(gr->S->Prop)->S->Prop)(Q:gr->S->Prop)(s:Fix S (body,Q)):Prop:=
 ∃ (ι:Type) (st:ι->S) (cW:ι->Prop) (qJ:ι->Nat) (i0:ι),cW i0/\bM b s (st i0)/\∀i,cW i->body (xh (Iz b st cW qJ i) Q) (st i)
theorem aC{ι:Type}{b:Nat}{body:(gr->S->Prop)->S->Prop}{Q:gr->S->Prop}{s:S}(st:ι->S)(cW:ι->Prop)(qJ:ι->Nat)(i0:ι)(h0:cW i0)(hle:bM b s (st i0))
 (h:∀i,cW i->body (xh (Iz b st cW qJ i) Q) (st i)):IA b body Q s:=⟨ι,st,cW,qJ,i0,h0,hle,h⟩
def vA(P:Program)(n b:Nat)(rd:Bool)(gop:Operand)(ps:List Nat)(x y:IC)(Q:gr->S->Prop)(s:Fix S (x,y,Q))(g:Fix V (x,y,Q)):Prop:=rd=false/\(Dx P n g ps x y Q s\/∃s',bM b s s'/\Dx P n (s'.ev gop) ps x y Q s')
def kQ(P:Program)(n b:Nat)(rd:Bool)(c:IC)(Q:gr->S->Prop)(s:Fix S (c,Q)):Prop:=
 match c with
 | .skip=>Q .normal s
 | .ck l=>tM P (fun v s=>Q (.bU v) s) (Q .normal) l s
 | .iW l pr=>Rn P l pr Q s (tQ l 0)
 | .seq x y=>kQ P n b rd x (rO (fun s=>kQ P n b rd y Q s) Q) s
 | .cond c x y=>Ag (kQ P n b rd x Q s) (kQ P n b rd y Q s) (s.ev c)
 | .block id x=>kQ P n b rd x (gu id Q) s
 | .loop x=>IA b (fun Q s=>kQ P n b rd x Q s) Q s
 | .exit id=>Q (.exit id) s
 | .ret=>Q .ret s
 | .LU g ps x y=>vA P n b rd g ps x y Q s (s.ev g)
 | .bad=>False
section
variable {P:Program}{n b:Nat}{rd:Bool}
theorem DY{s:S}{f:V}{args:List V}{K K':V->(Nat->aa)->Nat->Prop}{X X':V->(Nat->aa)->Nat->Prop}(hK:∀v o n,K v o n->K' v o n)(hX:∀v o n,X v o n->X' v o n)(h:uS P K X s f args):
 match(generalizing:=false) f with
  | .func (.func g) first cap=>match cA s.o (first++args++cap)with
    |some ds=>wY P g ds s.o (put s.o (bK s.o (V.bw (first++args++cap)))) (put s.o (tp s.o (V.bw (first++args++cap)))) (fun v o'=>K' v o' (s.nx+1)) (fun v o'=>X' v o' (s.nx+1))\/uM P g (first++args++cap) s.o s.nx K' X'
    |none=>uM P g (first++args++cap) s.o s.nx K' X'
  | .lC id=>ej P id args s.o s.nx K' X'
  |_=>False:=by
 unfold uS oF Af at h
 split at h
 ·rename_i g first cap
  cases fT:cA s.o (first++args++cap)with
  |some ds=>
   simp only[fT]at h|-
   rcases h with⟨out,h1,h2|⟨h3,h2⟩|⟨h3,h2⟩⟩|h
   ·exact .inl ⟨out,h1, .inl (by cases out<;>first|exact hK _ _ _ h2|exact hX _ _ _ h2)⟩
   ·exact .inl ⟨out,h1, .inr (.inl ⟨h3,by cases out<;>first|exact hK _ _ _ h2|exact hX _ _ _ h2⟩)⟩
   ·exact .inl ⟨out,h1, .inr (.inr ⟨h3,by cases out<;>first|exact hK _ _ _ h2|exact hX _ _ _ h2⟩)⟩
   ·exact .inr (pW.mono hK hX h)
  |none=>
   simp only[fT]at h|-
   exact pW.mono hK hX h
 ·exact ej.mono hK hX h
 ·exact h.elim
theorem Ah{x:Option gS}{K:V->List (Nat×aa)->Prop}(h:lK K x):∃v Δ rd,x=some (v,Δ,rd)/\K v Δ:=by
 unfold lK at h;split at h
 ·exact⟨_,_,_,rfl,h⟩
 ·exact h.elim
theorem BG{s:S}{o:cg}{X X':V->S->Prop}{K K':S->Prop}(hK:∀s,K s->K' s)(hX:∀v s,X v s->X' v s)(h:DW P X K o s):LZ P s o X' K':=by
 unfold DW at h
 unfold LZ
 have hs:∀ {op:Op},(lK (fun v Δ=>K ⟨ba s.env o.dst v,put s.o Δ,s.nx+1⟩) (iu P s s.nx op))->(match iu P s s.nx op with|some (v,Δ,_)=>K' ⟨ba s.env o.dst v,put s.o Δ,s.nx+1⟩|none=>False):=by
  intro op h
  obtain⟨v,Δ,rd,he,h⟩:=Ah h
  simp only[he];exact hK _ h
 split at h
 ·rename_i x str hx
  rw[hx]
  unfold NI at h
  simp only
  split at h
  ·rename_i id l hl
   simp only[hl]
   exact⟨h.1,fun e=>hK _ (h.2.1 e),fun i k x e=>hK _ (h.2.2 i k x e)⟩
  ·rename_i hl
   simp only[hl]
   exact hs (op:= .next x str) h
 ·rename_i c hc
  simp only[hc]
  split at h
  ·rename_i f hf
   simp only[hf]
   exact DY (K:=fun v o' nx'=>K ⟨ba s.env o.dst v,o',nx'⟩) (X:=fun v o' nx'=>X v ⟨s.env,o',nx'⟩) (fun v o n h=>hK _ h) (fun v o n h=>hX _ _ h) h
  ·rename_i r m hf
   simp only[hf]
   unfold NH at h
   split at h
   ·rename_i g y hr
    simp only[hr]
    unfold DV at h
    split at h
    ·rename_i ds fT
     obtain⟨out,h1,h2⟩:=h
     refine .inl ⟨ds,fT,out,h1, ?_⟩
     rcases h2 with h2|⟨h3,h2⟩|⟨h3,h2⟩
     ·exact .inl (by cases out<;>first|exact hK _ h2|exact hX _ _ h2)
     ·exact .inr (.inl ⟨h3,by cases out<;>first|exact hK _ h2|exact hX _ _ h2⟩)
     ·exact .inr (.inr ⟨h3,by cases out<;>first|exact hK _ h2|exact hX _ _ h2⟩)
    ·exact h.elim
   ·exact h.elim
  ·rename_i hf hi
   rw[hc]at h
   obtain⟨Nd,args,ts⟩:=c
   cases Nd with
   |value f=>exact absurd rfl (hf f)
   |invoke r m=>exact absurd rfl (hi r m)
   |_=>exact hs h
 ·rename_i x hx
  simp only[hx]
  unfold K6 at h
  split at h
  ·rename_i hv;simp only[hv];exact hX _ _ h
  ·rename_i hv;simp only[hv];exact hX _ _ h
  ·exact h.elim
 ·rename_i vl hc hp
  have h2:=hs h
  cases hh:o.op<;>first
   |exact absurd hh (hc _)
   |exact absurd hh (hp _)
   |exact absurd hh (vl _ _)
   |(rw[hh]at h2;exact h2)
theorem NK{s:S}{o:cg}{X:V->S->Prop}{K:S->Prop}(hp:mh o.op=true){v:V}{Δ:List (Nat×aa)}{rd:List Nat}(he:iu P s s.nx o.op=some (v,Δ,rd))(h:K ⟨ba s.env o.dst v,put s.o Δ,s.nx+1⟩):LZ P s o X K:=by
 unfold LZ
 split
 ·rename_i c hc
  split
  ·rename_i f hf;rw[hc]at hp;simp[mh,hf]at hp
  ·rename_i r m hf;rw[hc]at hp;simp[mh,hf]at hp
  ·rw[he];exact h
 ·rename_i x hx;rw[hx]at hp;simp[mh]at hp
 ·rename_i x str hx;rw[hx]at hp;simp[mh]at hp
 ·rw[he];exact h
theorem tR{X X':V->S->Prop}{K K':S->Prop}(hK:∀s,K s->K' s)(hX:∀v s,X v s->X' v s):∀ (l:List cg) (s:S),tM P X K l s->qF P X' K' l s
 |[],s,h=>hK _ h
 |o::l,s,h=>by
  have ih:=tR hK hX l
  unfold tM at h
  unfold qF
  cases hg:o.gd with
  |none=>
   simp only[hg]at h|-
   exact BG ih hX h
  |some p=>
   obtain⟨d,want⟩:=p
   simp only[hg]at h|-
   unfold BF at h
   split at h
   ·exact h.elim
   ·rename_i c hc
    have CF:∀ {A B:Prop},(c=true->A)->(c=false->B)->(match s.env d with
     | .d (.bool b)=>if b=want then A else B
     | .cf []=>B
     |_=>False):=by
     intro A B hA hB
     generalize s.env d=v at hc
     unfold nO at hc
     split at hc
     ·rename_i b
      injection hc with hc
      split
      ·rename_i e;exact hA (by rw[<- hc];simp[e])
      ·rename_i e;exact hB (by rw[<- hc];simp[e])
     ·injection hc with hc
      exact hB hc.symm
     ·cases hc
    split at h
    ·rename_i f args L0
     rcases h with h|h
     case inr=>exact CF (fun Vd=>BG ih hX (h.1 Vd)) (fun X4=>ih _ (h.2 X4))
     obtain⟨rs,h1,h2⟩:=h
     refine CF (fun Vd=> ?_) (fun X4=> ?_)
     ·unfold fi at L0
      split at L0
      ·rename_i c' zT
       split at L0
       ·rename_i f' yQ
        injection L0 with L0;injection L0 with e1 e2;subst e1;subst e2
        have fP:=h1 Vd
        unfold LZ
        simp only[zT,yQ]
        unfold DT at fP
        split at fP
        ·rename_i g first cap yG
         simp only[yG]
         split at fP
         ·rename_i ds fT
          simp only[fT]
          refine .inl ⟨.ret rs,fP.1, .inr (.inl ⟨fP.2, ?_⟩)⟩
          refine ih _ ?_
          rw[Vd]at h2
          exact h2
         ·exact fP.elim
        ·exact fP.elim
       ·cases L0
      ·cases L0
     ·refine ih _ ?_
      rw[X4]at h2
      exact h2
    ·split at h
     ·rename_i hp
      obtain⟨v,Δ,rd,he,h⟩:=Ah h
      refine CF (fun Vd=> ?_) (fun X4=> ?_)
      ·rw[Vd]at he
       simp only[mg,if_true]at he
       split at he
       ·rename_i v' vF rb
        injection he with he;injection he with e1 e2;subst e1
        exact NK hp rb (ih _ h)
       ·cases he
      ·rw[X4]at he
       simp only[mg]at he
       injection he with he;injection he with e1 e2;subst e1
       exact ih _ h
     ·exact CF (fun Vd=>BG ih hX (h.1 Vd)) (fun X4=>ih _ (h.2 X4))
theorem BH{op:Op}{f:Operand}{args:List Operand}(h:fi op=some (f,args)):∃c,op= .call c/\c.callee= .value f/\c.args.toList=args:=by
 unfold fi at h
 split at h
 ·rename_i c
  split at h
  ·rename_i f' yQ
   injection h with h;injection h with e1 e2;subst e1;subst e2
   exact⟨c,rfl,yQ,rfl⟩
  ·cases h
 ·cases h
theorem K8{x:Option gS}{rd:List Nat}{K:KD}(h:xg K rd x):∃v Δ r,x=some (v,Δ,r)/\K v Δ rd:=by
 unfold xg at h;split at h
 ·exact⟨_,_,_,rfl,h⟩
 ·exact h.elim
theorem jO.mono {P:Program}{g:FuncId}{args:List V}{o:Nat->aa}{nx fr:Nat}{K K':KD}{X X':XD}(hK:∀v Δ r,K v Δ r->K' v Δ r)(hX:∀v w r,X v w r->X' v w r)(h:jO P g args o nx fr K X):jO P g args o nx fr K' X':=by
 obtain⟨rd,Δ,h1,⟨rs,h2,h3⟩|⟨x,h2,h3⟩|⟨v,h2,h3⟩⟩:=h
 ·exact⟨rd,Δ,h1, .inl ⟨rs,h2,hK _ _ _ h3⟩⟩
 ·exact⟨rd,Δ,h1, .inr (.inl ⟨x,h2,hX _ _ _ h3⟩)⟩
 ·exact⟨rd,Δ,h1, .inr (.inr ⟨v,h2,hK _ _ _ h3⟩)⟩
theorem uR.mono {P:Program}{g:FuncId}{ds:List D}{Kf Kb KX Kf' Kb' KX':V->Prop}(h1:∀v,Kf v->Kf' v)(h2:∀v,Kb v->Kb' v)(h3:∀v,KX v->KX' v)(h:uR P g ds Kf Kb KX):uR P g ds Kf' Kb' KX':=by
 rcases h with⟨rs,a,b|⟨b,c⟩⟩|⟨x,a,b,c⟩|⟨v,a,b⟩
 ·exact .inl ⟨rs,a, .inl (h1 _ b)⟩
 ·exact .inl ⟨rs,a, .inr ⟨b,h2 _ c⟩⟩
 ·exact .inr (.inl ⟨x,a,b,h3 _ c⟩)
 ·exact .inr (.inr ⟨v,a,h1 _ b⟩)
theorem IB{s:S}{fr:Nat}{o:cg}{K K':KD}{X X':XD}(hK:∀v Δ r,K v Δ r->K' v Δ r)(hX:∀v w r,X v w r->X' v w r)(h:Ql P K X fr o s):CE P s fr o K' X':=by
 unfold Ql at h
 split at h
 ·rename_i f args L0
  obtain⟨c,h1,h2,h3⟩:=BH L0
  subst h3
  unfold CE
  simp only[h1,h2]
  unfold DX tO at h
  split at h
  ·rename_i g first cap hf
   simp only[hf]
   split at h
   ·rename_i ds fT
    simp only[fT]
    refine h.elim (fun h=> .inl ?_) (fun h=> .inr (jO.mono hK hX h))
    refine uR.mono (fun v h=> ?_) (fun v h=> ?_) (fun v h=> ?_) h<;>(rw[h1]at h)
    ·exact hK _ _ _ h
    ·exact hK _ _ _ h
    ·exact hX _ _ _ h
   ·rename_i fT
    simp only[fT]
    exact jO.mono hK hX h
  ·exact h.elim
 ·rename_i L0
  obtain⟨v,Δ,rd,he,h⟩:=K8 h
  unfold CE
  split
  ·rename_i c hc
   split
   ·rename_i f hf
    exact absurd L0 (by simp[fi,hc,hf])
   ·simp only[he];exact hK _ _ _ h
  ·simp only[he];exact hK _ _ _ h
theorem DZ{s:S}{fr:Nat}{o:cg}{K K':KD}{X X':XD}(hK:∀v Δ r,K v Δ r->K' v Δ r)(hX:∀v w r,X v w r->X' v w r)(h:CE P s fr o K X):CE P s fr o K' X':=by
 unfold CE at h|-
 split at h
 ·rename_i c hc
  rw[hc]at h|-
  split at h
  ·rename_i f hf
   (try simp only[hf])
   split at h
   ·rename_i yG
    (try simp only[yG])
    split at h
    ·exact h.elim (fun h=> .inl (uR.mono (fun v h=>hK _ _ _ h) (fun v h=>hK _ _ _ h) (fun v h=>hX _ _ _ h) h)) (fun h=> .inr (jO.mono hK hX h))
    ·exact jO.mono hK hX h
   ·exact h.elim
  ·rename_i hf
   split at h
   ·rename_i he
    (try simp only[he])
    exact hK _ _ _ h
   ·exact h.elim
 ·split at h
  ·rename_i he
   (try simp only[he]);exact hK _ _ _ h
  ·exact h.elim
theorem ki{KB KB':List Nat->Fp->Prop}{pr:List (List Nat)}(hK:∀l fp,KB l fp->KB' l fp):∀ (l:List cg) (fr:Nat) (s:S) (fp:Fp) (bad ws:List Nat),ji P KB pr l fr s fp bad ws->ji P KB' pr l fr s fp bad ws
 |[],_,_,_,_,_,h=>hK _ _ h
 |o::l,fr,s,fp,bad,ws,h=>by
  unfold ji at h|-
  split
  ·rename_i hb
   rw[if_pos hb]at h
   exact ki hK l _ _ _ _ _ h
  ·rename_i hb
   rw[if_neg hb]at h
   split at h
   ·exact DZ (fun v Δ r h=>ki hK l _ _ _ _ _ h) (fun _ _ _ h=>h) h
   ·split at h
    ·split at h
     ·rename_i e;simp only[e,if_true]
      exact DZ (fun v Δ r h=>ki hK l _ _ _ _ _ h) (fun _ _ _ h=>h) h
     ·rename_i e;simp only[e,if_false]
      exact ki hK l _ _ _ _ _ h
    ·exact ki hK l _ _ _ _ _ h
    ·exact h.elim
theorem kj{K K':S->Fp->Prop}{KP KP':V->List Nat->Fp->Prop}{pr:List (List Nat)}(hK:∀s fp,K s fp->K' s fp)(hP:∀v l fp,KP v l fp->KP' v l fp):∀ (l:List cg) (fr:Nat) (s:S) (fp:Fp),qI P K KP pr l fr s fp->me P K' KP' pr l fr s fp
 |[],_,_,_,h=>hK _ _ h
 |o::l,fr,s,fp,h=>by
  have hB:∀v ws (rdl:List Nat),K7 P (KP v) pr l (fr+1) (fp++[(rdl,[])]) [fp.length] (ws++fp.flatMap (·.2)) ⟨ba s.env o.dst .ai,s.o,s.nx⟩->
   ji P (KP' v) pr l (fr+1) ⟨ba s.env o.dst .ai,s.o,s.nx⟩ (fp++[(rdl,[])]) [fp.length] (ws++fp.flatMap (·.2)):=fun v ws rdl h=>ki (fun a b h=>hP v a b h) l _ _ _ _ _ h
  unfold qI at h
  unfold me
  split at h
  ·rename_i hg
   (try simp only[hg])
   exact IB (fun v Δ r h=>kj hK hP l _ _ _ h) hB h
  ·rename_i d want hg
   (try simp only[hg])
   generalize s.env d=v at h
   unfold kP at h
   split at h
   ·rename_i bb
    by_cases e:bb=want
    ·subst e
     simp only[if_true]
     exact IB (fun v Δ r h=>kj hK hP l _ _ _ h) hB (h.1 aF)
    ·simp only[if_neg e]
     exact kj hK hP l _ _ _ (h.2 (by simpa using e))
   ·exact kj hK hP l _ _ _ h
   ·exact h.elim
theorem eL:∀ (c:IC) (Q Q':gr->S->Prop) (s:S),(∀e s,Q e s->Q' e s)->kQ P n b rd c Q s->vN P n b rd c Q' s
 | .skip,_,_,_,hQ,h=>hQ _ _ h
 | .ck l,_,_,_,hQ,h=>tR (fun s h=>hQ _ _ h) (fun v s h=>hQ _ _ h) l _ h
 | .iW l pr,_,_,_,hQ,h=>by
   unfold kQ at h
   generalize tQ l 0=sp at h
   cases sp with
   |none=>exact .inl (kj (fun s fp h=>⟨h.1,hQ _ _ h.2⟩) (fun v l fp h=>⟨h.1,hQ _ _ h.2⟩) l _ _ _ h)
   |some m=>exact .inr ⟨m,h.1,h.2.1,kj (fun s fp h=>⟨h.1,tR (fun s h=>hQ _ _ h) (fun v s h=>hQ _ _ h) _ _ h.2⟩) (fun v l fp h=>h.elim) _ _ _ _ h.2.2⟩
 | .seq x y,Q,Q',s,hQ,h=>eL x _ _ s (fun e s h=>by
  unfold rO at h|-
  cases e with
  |normal=>exact eL y _ _ s hQ h
  |_=>exact hQ _ _ h) h
 | .cond c x y,Q,Q',s,hQ,h=>by
   unfold kQ Ag jE at h
   unfold vN
   split at h
   ·rename_i t ht
    simp only[ht]
    exact⟨fun e=>eL x _ _ s hQ (h.1 e),fun e=>eL y _ _ s hQ (h.2 e)⟩
   ·rename_i ht
    simp only[ht]
    exact⟨eL x _ _ s hQ h.1,eL y _ _ s hQ h.2⟩
   ·exact h.elim
 | .block id x,Q,Q',s,hQ,h=>eL x _ _ s (fun e s h=>by
  unfold gu at h|-
  cases e with
  |exit j=>
   simp only at h|-
   split
   ·rename_i e;rw[if_pos e]at h;exact hQ _ _ h
   ·rename_i e;rw[if_neg e]at h;exact hQ _ _ h
  |_=>exact hQ _ _ h) h
 | .loop x,Q,Q',s,hQ,h=>by
   obtain⟨ι,st,cW,qJ,i0,h0,hle,h2⟩:=h
   refine⟨fun m s=>∃i,cW i/\qJ i=m/\s=st i,⟨qJ i0,st i0,hle,i0,h0,rfl,rfl⟩, ?_⟩
   rintro m s0 ⟨i,hg,rfl,rfl⟩
   refine eL x _ _ _ (fun e s h=> ?_) (h2 i hg)
   cases e with
   |normal=>
    obtain⟨j,k1,k2,k3⟩:=h
    exact⟨qJ j,st j,k2,k3,j,k1,rfl,rfl⟩
   |_=>exact hQ _ _ h
 | .exit id,_,_,_,hQ,h=>hQ _ _ h
 | .ret,_,_,_,hQ,h=>hQ _ _ h
 | .LU g ps x y,_,_,_,hQ,h=>⟨h.1,match h.2 with
   | .inl h=>⟨_, .inl rfl,tL hQ h⟩
   | .inr ⟨s',hle,h⟩=>⟨s', .inr hle,tL hQ h⟩⟩
 | .bad,_,_,_,_,h=>h.elim
end
theorem a7.aH {P:Program}(bz:P.follows .mixedOrders=true){f:FuncId}{n:Nat}{ic:IC}{rs:List ResultVar}{ds:List D}{out:R}(hf:aS P f n ic rs)(hl:ds.length<=n)
 (h:kQ P n 0 false ic (Bj P rs out) ⟨cG (ds.map .d),fun _=> .no,0⟩):a7 P f ds out:=
 a7.xe bz hf hl (eL ic _ _ _ (fun _ _ h=>h) h)
def tS(P:Program)(rs:List ResultVar)(K X:V->(Nat->aa)->Nat->Prop)(e:gr)(s:S):Prop:=nk P rs K X e s
theorem bJ.aH {P:Program}(bz:P.follows .mixedOrders=true){f:FuncId}{n:Nat}{ic:IC}{rs:List ResultVar}{args:List V}{o:Nat->aa}{nx:Nat}{K X:V->(Nat->aa)->Nat->Prop}(hf:aS P f n ic rs)(hl:args.length<=n)
 (h:kQ P n nx false ic (tS P rs K X) ⟨cG args,o,nx⟩):bJ P f args o nx K X:=
 bJ.xe bz hf hl (eL ic _ _ _ (fun _ _ h=>h) h)
section
variable {P:Program}{g:FuncId}{ds:List D}{o:Nat->aa}{nx:Nat}{K X:V->(Nat->aa)->Nat->Prop}{all:List V}
theorem ax{rs:List D}(h:a7 P g ds (.ret rs))(hf:D.kN rs=true)(hk:K (jM rs) o (nx+1)):xf P g o nx K X ds all:= .inl ⟨.ret rs,h, .inr (.inl ⟨hf,hk⟩)⟩
theorem bC{rs:List D}(h:a7 P g ds (.ret rs))(hk:K (jM rs) (put o (bK o (V.bw all))) (nx+1)):xf P g o nx K X ds all:= .inl ⟨.ret rs,h, .inl hk⟩
theorem bI(h:bJ P g all o nx K X):xf P g o nx K X ds all:= .inr (.inl h)
theorem ij{e:Nat->V}{ds:Option (List D)}(h:bJ P g all o nx K X):oF P g K X ⟨e,o,nx⟩ all ds:=by
 cases ds with
 |some ds=>exact(.inr (.inl h):xf P g o nx K X ds all)
 |none=>exact(.inl h:DU P g nx K X all o)
theorem aT(h:bJ P g all o nx K X):DU P g nx K X all o:= .inl h
variable {K:KD}{X:XD}{rd:List Nat}{fr:Nat}
theorem bf{rs:List D}(h:a7 P g ds (.ret rs))(hf:D.kN rs=true)(hk:K (jM rs) [] rd):nu P g K X o nx fr rd ds all:= .inl (.inl ⟨rs,h, .inr ⟨hf,hk⟩⟩)
theorem aZ{rs:List D}(h:a7 P g ds (.ret rs))(hk:K (jM rs) (bK o (V.bw all)) rd):nu P g K X o nx fr rd ds all:= .inl (.inl ⟨rs,h, .inl hk⟩)
theorem Ai{v:V}(h:Qk P g ds v)(hk:K v (bK o (V.bw all)) rd):nu P g K X o nx fr rd ds all:= .inl (.inr (.inr ⟨v,h,hk⟩))
theorem K9{v:V}{vF:List Nat}{Δ:List (Nat×aa)}(nR:vF.all (fun id=>decide (id<nx))=true)(h:CD P g all vF o fr v Δ)(hk:K v Δ vF):nu P g K X o nx fr rd ds all:= .inr ⟨vF,Δ,nR, .inr (.inr ⟨v,h,hk⟩)⟩
end
theorem ik{P:Program}{f:V}{args:List V}{o:Nat->aa}{K:V->Prop}{c:Bool}(rs:List D)(h:nN c (DT P f args o rs))(hk:K (V.BE c (jM rs))):Ix P f args o K c:=⟨rs,h,hk⟩
theorem ak{t:Bool}{A B:Prop}(h:t=true->A)(h2:t=false->B):jE A B t:=⟨h,h2⟩
theorem aL{pr:List (List Nat)}{nx:Nat}{Q:gr->S->Prop}{s:S}{fp:List (List Nat×List Nat)}(h:fD pr fp=true)(h2:Q .normal ⟨s.env,s.o,nx⟩):Rm pr nx Q s fp:=⟨h,h2⟩
@[go_sem] theorem NL (o:Nat->aa):put o []=o:=rfl
@[go_sem] theorem aaS (o:Nat->aa) (x:Nat×aa) (l:List (Nat×aa)):put o (x::l)=put (aw o x.1 x.2) l:=rfl
@[go_sem] theorem ab {α:Type} (f:Nat->α) (i:Nat) (x:α):aw f i x i=x:=aF
@[go_sem] theorem af {α:Type} (f:Nat->α) (i j:Nat) (x:α) (h:j≠i):aw f i x j=f j:=by simp[h]
@[go_sem] theorem Rp (v:V) (l:List V):cG (v::l) 0=v:=rfl
@[go_sem] theorem Rq (v:V) (l:List V) (i:Nat):cG (v::l) (i+1)=cG l i:=rfl
@[go_sem] theorem Ve (i:Nat):cG [] i= .cf []:=by simp[cG]
@[go_sem] theorem aaT {P:Program} {o:Nat->aa} {t:TypeId} {id off:Nat}:oz P o t (.ptr id off)=match o id with
 | .row cs=>match fF P t cs off with
   |some v=>some (v,[],[id])
   |none=>none
 |_=>none:=by unfold oz;exact Eq.trans rfl rfl
@[go_sem] theorem adg {P:Program} {o:Nat->aa} {t:TypeId} {cs:List D} {off:Nat}:oz P o t (.pp cs off)=match fF P t (cs.map .d) off with
 |some v=>some (v,[],[])
 |none=>none:=by unfold oz;exact Eq.trans rfl rfl
@[go_sem] theorem adh {P:Program} {o:Nat->aa} {t:TypeId} {id ep i sz off:Nat}:oz P o t (.pe id ep i sz off)=match o id with
 | .arr gM _ s9 es=>if ep=gM/\sz=s9 then match es[i]? with
  |some e=>match fF P t (e.cells.map .d) off with
   |some v=>some (v,[],[id])
   |none=>none
  |none=>none
   else none
 |_=>none:=by unfold oz;exact Eq.trans rfl rfl
section
variable {P:Program}{o:Nat->aa}{t:TypeId}{op:BinOp}{pO:Bool}
@[go_sem] theorem aaU {k:IntKind} {a b:Int}:fZ P o op t pO (.d (.int k a)) (.d (.int k b))=match DB op k a b with
 |some v=>one v
 |none=>tv P o op t pO (.d (.int k a)) (.d (.int k b)):=by
  simp only[fZ,Bo,if_true]
  cases DB op k a b<;>rfl
@[go_sem] theorem aaV {a b:Bool} (h:nm P t=true):fZ P o .eql t pO (.d (.bool a)) (.d (.bool b))=one (.d (.bool (a==b))):=by simp only[fZ,Bo,Nr,h,if_true]
@[go_sem] theorem aaW {a b:Bool} (h:nm P t=true):fZ P o .neq t pO (.d (.bool a)) (.d (.bool b))=one (.d (.bool (a !=b))):=by simp only[fZ,Bo,Nr,h,if_true]
@[go_sem] theorem aaX {a b:List UInt8}:fZ P o .eql t pO (.d (.str a)) (.d (.str b))=one (.d (.bool (a==b))):=My
@[go_sem] theorem aaY {a b:List UInt8}:fZ P o .neq t pO (.d (.str a)) (.d (.str b))=one (.d (.bool (a !=b))):=My
@[go_sem] theorem aaZ {a b:List D}:fZ P o op t pO (.d (.agg a)) (.d (.agg b))=tv P o op t pO (.d (.agg a)) (.d (.agg b)):=My
theorem QG{x:V}{y:V}(h:match y with| .d (.int _ _)| .d (.bool _)| .d (.str _)=>False|_=>True):Bo P op t x y=none:=by
 unfold Bo
 split<;>first|exact h.elim|rfl
@[go_sem] theorem X5 {x:V}:fZ P o op t pO x .ao=tv P o op t pO x .ao:=CL
@[go_sem] theorem X6 {x:V}:fZ P o op t pO x (.d .fE)=tv P o op t pO x (.d .fE):=CL
@[go_sem] theorem X7 {x:V}:fZ P o op t pO x (.d .mu)=tv P o op t pO x (.d .mu):=CL
@[go_sem] theorem X8 {x:V}:fZ P o op t pO x (.d .cJ)=tv P o op t pO x (.d .cJ):=CL
@[go_sem] theorem X9 {x:V}:fZ P o op t pO x (.d .dX)=tv P o op t pO x (.d .dX):=CL
@[go_sem] theorem adi {b:Bool}:Ka .not (.d (.bool b))=some (.d (.bool !b)):=MA
@[go_sem] theorem adj:Ka .not .gh=some .gh:=MA
@[go_sem] theorem adk {k:IntKind} {n:Int}:Ka .neg (.d (.int k n))=some (.d (.int k (k.wrap (-n)))):=MA
end
@[go_sem] theorem D.aa0 (cs:List D):(D.agg cs).cells=cs:=rfl
@[go_sem] theorem D.aa1 (k:IntKind) (n:Int):(D.int k n).cells=[.int k n]:=rfl
@[go_sem] theorem D.Ya (b:Bool):(D.bool b).cells=[.bool b]:=rfl
@[go_sem] theorem D.aa2 (b:List UInt8):(D.str b).cells=[.str b]:=rfl
@[go_sem] theorem D.adl (b:List D):(D.sl b).cells=[.sl b]:=rfl
@[go_sem] theorem D.adm (a b:List D):(D.mp a b).cells=[.mp a b]:=rfl
@[go_sem] theorem D.Vf (t:TypeId) (x:D):(D.iface t x).cells=[.iface t x]:=rfl
@[go_sem] theorem D.Yb:D.fE.cells=[.fE]:=rfl
@[go_sem] theorem D.Yc:D.mu.cells=[.mu]:=rfl
@[go_sem] theorem D.Yd:D.cJ.cells=[.cJ]:=rfl
@[go_sem] theorem D.Ye:D.dX.cells=[.dX]:=rfl
attribute [go_sem] V.ofConst V.dM DB Nr rW Gd zZ qh jf jg tH hY np rX rY rZ Bp j9 Ns ni ef cA fF A7 uA nM V.cells D.put bK V.ids V.bw jM D.kN D.flat R.flat
attribute [go_sem] FN List.take_succ_cons List.take_zero List.take_nil List.drop_zero List.drop_succ_cons List.drop_nil
attribute [go_sem] List.map_cons List.map_nil List.length_cons List.length_nil List.cons_append List.nil_append List.append_nil List.getElem?_cons_zero List.getElem?_cons_succ Option.bind_some Option.bind_none Option.map_some Option.map_none aa.cF aa.cu
section
variable {P:Program}{n b:Nat}{rd:Bool}{Q:gr->S->Prop}{s:S}
@[go_sem] theorem adn:kQ P n b rd .skip Q s=Q .normal s:=propext Iff.rfl
@[go_sem] theorem afT {l:List cg}:kQ P n b rd (.ck l) Q s=tM P (fun v s=>Q (.bU v) s) (Q .normal) l s:=propext Iff.rfl
@[go_sem] theorem afU {l:List cg} {pr:List (List Nat)}:kQ P n b rd (.iW l pr) Q s=Rn P l pr Q s (tQ l 0):=propext Iff.rfl
@[go_sem] theorem aa3 {l:List cg} {pr:List (List Nat)}:Rn P l pr Q s none=qI P (Rm pr (s.nx+l.length) Q) (DO pr l s Q) pr l s.nx s []:=propext Iff.rfl
@[go_sem] theorem ado {k:Nat}:tQ [] k=none:=rfl
@[go_sem] theorem adp {d:Option Nat} {t:Nat} {args:Array Operand} {ts:Array TypeId} {l:List cg} {k:Nat}:tQ (⟨d, .call ⟨.value (.tmp t),args,ts⟩,none⟩::l) k=some k:=rfl
@[go_sem] theorem afV {d:Option Nat} {op:Op} {g:Nat×Bool} {l:List cg} {k:Nat}:tQ (⟨d,op,some g⟩::l) k=tQ l (k+1):=rfl
@[go_sem] theorem adq {d:Option Nat} {f:Nat} {args:Array Operand} {ts:Array TypeId} {l:List cg} {k:Nat}:tQ (⟨d, .call ⟨.value (.func f),args,ts⟩,none⟩::l) k=tQ l (k+1):=rfl
@[go_sem] theorem afW {d:Option Nat} {op:Op} {l:List cg} {k:Nat} (h:fi op=none):tQ (⟨d,op,none⟩::l) k=tQ l (k+1):=by rw[tQ.eq_2];simp only[h]
@[go_sem] theorem afX {x y:IC}:kQ P n b rd (.seq x y) Q s=kQ P n b rd x (rO (fun s=>kQ P n b rd y Q s) Q) s:=propext Iff.rfl
@[go_sem] theorem adr {c:Operand} {x y:IC}:kQ P n b rd (.cond c x y) Q s=Ag (kQ P n b rd x Q s) (kQ P n b rd y Q s) (s.ev c):=propext Iff.rfl
@[go_sem] theorem aa4 {id:Nat} {x:IC}:kQ P n b rd (.block id x) Q s=kQ P n b rd x (gu id Q) s:=propext Iff.rfl
@[go_sem] theorem ads {x:IC}:kQ P n b rd (.loop x) Q s=IA b (fun Q s=>kQ P n b rd x Q s) Q s:=propext Iff.rfl
@[go_sem] theorem adt {id:Nat}:kQ P n b rd (.exit id) Q s=Q (.exit id) s:=propext Iff.rfl
@[go_sem] theorem afY:kQ P n b rd .ret Q s=Q .ret s:=propext Iff.rfl
@[go_sem] theorem afZ {g:Operand} {ps:List Nat} {x y:IC}:kQ P n b rd (.LU g ps x y) Q s=vA P n b rd g ps x y Q s (s.ev g):=propext Iff.rfl
@[go_sem] theorem adu {X:V->S->Prop} {K:S->Prop}:tM P X K [] s=K s:=propext Iff.rfl
@[go_sem] theorem aa5 {X:V->S->Prop} {K:S->Prop} {d:Option Nat} {op:Op} {l:List cg}:tM P X K (⟨d,op,none⟩::l) s=DW P X (tM P X K l) ⟨d,op,none⟩ s:=propext Iff.rfl
@[go_sem] theorem aa6 {X:V->S->Prop} {K:S->Prop} {d:Option Nat} {op:Op} {g:Nat} {w:Bool} {l:List cg}:tM P X K (⟨d,op,some (g,w)⟩::l) s=BF P X (tM P X K l) ⟨d,op,some (g,w)⟩ s (nO (s.env g) w):=propext Iff.rfl
variable {X:V->S->Prop}{K:S->Prop}{d:Option Nat}{op:Op}{g:Option (Nat×Bool)}{f:Operand}{args:Array Operand}{ts:Array TypeId}{c:Bool}
@[reducible] def ctl:Op->Bool
  | .call c=>match c.callee with
    | .value _=>true
    | .invoke .. =>true
    |_=>false
  | .panic _=>true
  | .next .. =>true
  |_=>false
@[go_sem] theorem agM (h:ctl op=false):DW P X K ⟨d,op,g⟩ s=lK (fun v Δ=>K ⟨ba s.env d v,put s.o Δ,s.nx+1⟩) (iu P s s.nx op):=by
  unfold DW
  cases op with
  |call c=>
   obtain⟨Nd,args,ts⟩:=c
   cases Nd with
   |value f=>simp[ctl]at h
   |invoke r m=>simp[ctl]at h
   |_=>rfl
  |panic x=>simp[ctl]at h
  |next x str=>simp[ctl]at h
  |_=>rfl
@[go_sem] theorem adv {x:Operand} {str:Bool}:DW P X K ⟨d, .next x str,g⟩ s=NI (fun v Δ=>K ⟨ba s.env d v,put s.o Δ,s.nx+1⟩) str (qa s.o (s.ev x) str) (qb s.o (s.ev x)):=propext Iff.rfl
@[go_sem] theorem adw:DW P X K ⟨d, .call ⟨.value f,args,ts⟩,g⟩ s=uS P (fun v o' nx'=>K ⟨ba s.env d v,o',nx'⟩) (fun v o' nx'=>X v ⟨s.env,o',nx'⟩) s (s.ev f) (args.toList.map s.ev):=propext Iff.rfl
@[go_sem] theorem Yf {m:String}:DW P X K ⟨d, .call ⟨.invoke f m,args,ts⟩,g⟩ s=NH P (fun v o' nx'=>K ⟨ba s.env d v,o',nx'⟩) (fun v o' nx'=>X v ⟨s.env,o',nx'⟩) s (args.toList.map s.ev) (wR P m (s.ev f)):=propext Iff.rfl
@[go_sem] theorem aa7:DW P X K ⟨d, .panic f,g⟩ s=K6 (fun v=>X v s) (s.ev f):=propext Iff.rfl
@[go_sem] theorem aa8:BF P X K ⟨d, .call ⟨.value f,args,ts⟩,g⟩ s (some c)=Gw P X K ⟨d, .call ⟨.value f,args,ts⟩,g⟩ s f args.toList c:=propext Iff.rfl
theorem jk{e:Nat->V}{ob:Nat->aa}{nx:Nat}(h:Ix P ((⟨e,ob,nx⟩:S).ev f) (args.toList.map (⟨e,ob,nx⟩:S).ev) ob (fun v=>K ⟨ba e d v,ob,nx+1⟩) c):Gw P X K ⟨d,op,g⟩ ⟨e,ob,nx⟩ f args.toList c:= .inl h
theorem D0{s:S}{o:cg}{l:List Operand}(h:jE (DW P X K o s) (K ⟨ba s.env o.dst (.cf []),s.o,s.nx+1⟩) c):Gw P X K o s f l c:= .inr h
@[go_sem] theorem aa9 (h:mh op=true):BF P X K ⟨d,op,g⟩ s (some c)=lK (fun v _=>K ⟨ba s.env d v,s.o,s.nx+1⟩) (mg c (iu P s s.nx op)):=by
  have h2:fi op=none:=by
   cases hc:fi op with
   |none=>rfl
   |some x=>
    exfalso
    unfold fi at hc
    split at hc
    ·split at hc
     ·rename_i hv;simp[mh,hv]at h
     ·cases hc
    ·cases hc
  simp only[BF,h2,h,if_true]
@[go_sem] theorem aba (h:mh op=false) (h2:fi op=none):BF P X K ⟨d,op,g⟩ s (some c)=jE (DW P X K ⟨d,op,g⟩ s) (K ⟨ba s.env d (.cf []),s.o,s.nx+1⟩) c:=by
  simp[BF,h2,h]
@[go_sem] theorem Yg {l:List Operand}:Gw P X K ⟨d,op,g⟩ s f l false=K ⟨ba s.env d (.cf []),s.o,s.nx+1⟩:=by
  refine propext ⟨fun h=> ?_,fun h=> .inr ⟨(fun e=>by cases e),fun _=>h⟩⟩
  rcases h with⟨rs,_,h⟩|h
  ·exact h
  ·exact h.2 rfl
@[go_sem] theorem abb {l:List Operand} (hl:args.toList=l):Gw P X K ⟨d, .call ⟨.value f,args,ts⟩,g⟩ s f l true=DW P X K ⟨d, .call ⟨.value f,args,ts⟩,g⟩ s:=by
  subst hl
  refine propext ⟨fun h=> ?_,fun h=> .inr ⟨fun _=>h,(fun e=>by cases e)⟩⟩
  rcases h with⟨rs,h1,h⟩|h
  ·have h1:=h1 rfl
   unfold DT at h1
   unfold DW uS oF
   simp only
   split at h1
   ·rename_i fv gg first cap hf
    simp only[hf]
    split at h1
    ·rename_i ds fT
     simp only[fT]
     exact .inl ⟨.ret rs,h1.1, .inr (.inl ⟨h1.2,h⟩)⟩
    ·exact h1.elim
   ·exact h1.elim
  ·exact h.1 rfl
variable {KV:KD}{XV:XD}
@[go_sem] theorem adx {fr:Nat}:Ql P KV XV fr ⟨d, .call ⟨.value f,args,ts⟩,g⟩ s=DX P KV XV s.o s.nx fr (pV s (.call ⟨.value f,args,ts⟩)) (s.ev f) (args.toList.map s.ev):=propext Iff.rfl
@[go_sem] theorem agN {fr:Nat} (h2:fi op=none):Ql P KV XV fr ⟨d,op,g⟩ s=xg KV (pV s op) (iu P s fr op):=by simp[Ql,h2]
variable {KS:S->Prop}
@[go_sem ↓] theorem Rr:rO KS Q .normal s=KS s:=propext Iff.rfl
@[go_sem ↓] theorem Yh {id:Nat}:rO KS Q (.exit id) s=Q (.exit id) s:=propext Iff.rfl
@[go_sem ↓] theorem abc:rO KS Q .ret s=Q .ret s:=propext Iff.rfl
@[go_sem ↓] theorem abd {v:V}:rO KS Q (.bU v) s=Q (.bU v) s:=propext Iff.rfl
@[go_sem ↓] theorem Qm {id:Nat}:gu id Q .normal s=Q .normal s:=propext Iff.rfl
@[go_sem ↓] theorem Vg {id:Nat}:gu id Q (.exit id) s=Q .normal s:=by simp[gu]
@[go_sem ↓] theorem Ru {id j:Nat} (h:j≠id):gu id Q (.exit j) s=Q (.exit j) s:=by simp[gu,h]
@[go_sem ↓] theorem Yi {id:Nat}:gu id Q .ret s=Q .ret s:=propext Iff.rfl
@[go_sem ↓] theorem Yj {id:Nat} {v:V}:gu id Q (.bU v) s=Q (.bU v) s:=propext Iff.rfl
def Rv(out:R)(x:Option (List D)):Prop:=match x with|some ds=>out= .ret ds|none=>False
@[go_sem] theorem abe {out:R} {ds:List D}:Rv out (some ds)=(out= .ret ds):=propext Iff.rfl
def Yk(out:R)(x:Option D):Prop:=match x with|some d=>out= .bU d|none=>False
@[go_sem] theorem abf {out:R} {d:D}:Yk out (some d)=(out= .bU d):=propext Iff.rfl
def Rw(out:R)(o:Nat->aa)(x:Option (List V)):Prop:=match x with|some vs=>Rv out (cA o vs)|none=>False
@[go_sem] theorem abg {out:R} {o:Nat->aa} {vs:List V}:Rw out o (some vs)=Rv out (cA o vs):=propext Iff.rfl
variable {rs:List ResultVar}{out:R}
@[go_sem ↓] theorem abh:Bj P rs out .ret s=Rw out s.o (ni P s rs):=propext Iff.rfl
@[go_sem ↓] theorem Rx:Bj P rs out .normal s=Rw out s.o (ni P s rs):=propext Iff.rfl
@[go_sem ↓] theorem abi {v:V}:Bj P rs out (.bU v) s=Yk out (ef s.o v):=propext Iff.rfl
def D1(K:V->(Nat->aa)->Nat->Prop)(o:Nat->aa)(nx:Nat)(x:Fix (Option (List V)) (K,o,nx)):Prop:=match x with
 |some [v]=>K v o nx
 |some vs=>K (.cf vs) o nx
 |none=>False
@[go_sem] theorem ady {K:V->(Nat->aa)->Nat->Prop} {o:Nat->aa} {nx:Nat} {v:V}:D1 K o nx (some [v])=K v o nx:=propext Iff.rfl
@[go_sem] theorem adz {K:V->(Nat->aa)->Nat->Prop} {o:Nat->aa} {nx:Nat}:D1 K o nx (some [])=K (.cf []) o nx:=propext Iff.rfl
@[go_sem] theorem adA {K:V->(Nat->aa)->Nat->Prop} {o:Nat->aa} {nx:Nat} {v u:V} {l:List V}:D1 K o nx (some (v::u::l))=K (.cf (v::u::l)) o nx:=propext Iff.rfl
theorem ID{K X:V->(Nat->aa)->Nat->Prop}:nk P rs K X .ret s=D1 K s.o s.nx (ni P s rs):=by
 unfold nk D1
 cases ni P s rs with
 |none=>rfl
 |some l=>match l with
  |[]=>rfl
  |[_]=>rfl
  |_::_::_=>rfl
@[go_sem ↓] theorem adB {K X:V->(Nat->aa)->Nat->Prop}:tS P rs K X .ret s=D1 K s.o s.nx (ni P s rs):=ID
@[go_sem ↓] theorem Vh {K X:V->(Nat->aa)->Nat->Prop}:tS P rs K X .normal s=D1 K s.o s.nx (ni P s rs):=(ID (X:=X):nk P rs K X .ret s=_)
@[go_sem ↓] theorem adC {K X:V->(Nat->aa)->Nat->Prop} {v:V}:tS P rs K X (.bU v) s=X v s.o s.nx:=propext Iff.rfl
variable {KE:S->Fp->Prop}{KP:V->List Nat->Fp->Prop}{pr:List (List Nat)}{fr:Nat}{fp:Fp}
@[go_sem] theorem adD:qI P KE KP pr [] fr s fp=KE s fp:=propext Iff.rfl
@[go_sem] theorem abj {d:Option Nat} {op:Op} {l:List cg}:qI P KE KP pr (⟨d,op,none⟩::l) fr s fp=
 Ql P (fun v Δ rd=>qI P KE KP pr l (fr+1) ⟨ba s.env d v,put s.o Δ,s.nx⟩ (fp++[(rd,Δ.map (·.1))]))
  (fun v ws rd=>K7 P (KP v) pr l (fr+1) (fp++[(rd,[])]) [fp.length] (ws++fp.flatMap (·.2)) ⟨ba s.env d .ai,s.o,s.nx⟩) fr ⟨d,op,none⟩ s:=propext Iff.rfl
@[go_sem] theorem abk {d:Option Nat} {op:Op} {g:Nat} {w:Bool} {l:List cg}:qI P KE KP pr (⟨d,op,some (g,w)⟩::l) fr s fp=
 kP w (Ql P (fun v Δ rd=>qI P KE KP pr l (fr+1) ⟨ba s.env d v,put s.o Δ,s.nx⟩ (fp++[(rd,Δ.map (·.1))]))
  (fun v ws rd=>K7 P (KP v) pr l (fr+1) (fp++[(rd,[])]) [fp.length] (ws++fp.flatMap (·.2)) ⟨ba s.env d .ai,s.o,s.nx⟩) fr ⟨d,op,some (g,w)⟩ s)
   (qI P KE KP pr l (fr+1) ⟨ba s.env d (.cf []),s.o,s.nx⟩ (fp++[([],[])])) (s.env g):=propext Iff.rfl
end
attribute [go_sem] ctl fi mh iu one nq ba S.ev DT
theorem aj{ι:Type}{b:Nat}{st:ι->S}{cW:ι->Prop}{qJ:ι->Nat}{i:ι}{s:S}(j:ι)(h1:cW j)(h2:qJ j<qJ i)(h3:bM b s (st j)):Iz b st cW qJ i s:=⟨j,h1,h2,h3⟩
attribute [irreducible] Rn Vc kQ tM DW BF Gw uS oF DV NG NH Ix xf DU lK K6 jE kP NJ nu tN tO DX xg Ql qI K7 vA Af tS D1 Rm Ag IA Rv Yk Rw xh Iz
end
section
section
variable (ρ:Nat->Option Nat)(o' o:Nat->aa)(nx:Nat)
end
section
variable {M M':Nat->Prop}{φ aI:Place}{H H':Hp}{w:World}{ρ:Nat->Option Nat}{nx:Nat}
end
end
@[go_sem] theorem pn (v:V) (l:List V):aY (v::l) 0=v:=rfl
@[go_sem] theorem pq (v:V) (l:List V) (i:Nat):aY (v::l) (i+1)=aY l i:=rfl
@[go_sem] theorem r9 (i:Nat):aY [] i= .ai:=by simp[aY]
@[go_sem] theorem Vi (k:Nat):(0<=(k:Int))=True:=aF
attribute [go_sem] List.getElem?_map List.length_map Int.toNat_natCast
attribute [go_sem] fG List.flatMap_cons List.flatMap_nil
attribute [go_sem] isConst tv QQ tt tu C1 tq rr FO QR zE Kk qw qx zD wC wD rv
attribute [go_sem] pV V.refs V.aN
attribute [go_sem] List.all_nil List.all_cons Option.some.injEq D.int.injEq D.bool.injEq Nat.zero_add Nat.add_zero
theorem wrap64{n:Int}(h1: -9223372036854775808<=n)(h2:n<=9223372036854775807):IntKind.i64.wrap n=n:=by
 unfold IntKind.wrap
 have e1:((2:Int)^IntKind.i64.bits)=18446744073709551616:=bF
 have e2:((2:Int)^(IntKind.i64.bits - 1))=9223372036854775808:=bF
 have e3:IntKind.i64.signed=true:=rfl
 simp only[e1,e2,e3,Bool.true_and,decide_eq_true_eq]
 split<;>omega
@[reducible] def dy (l:List V):List V:= .ai:: .ai:: .ai:: .ai:: .ai:: .ai:: .ai:: .ai::l
structure Good (o:Nat->aa) (nx:Nat):Prop where
 fresh:∀id,nx<=id->o id= .no
 refs:∀id,∀r∈(o id).refs,r<nx
theorem Good.nil {nx:Nat}:Good (fun _=> .no) nx:=⟨fun _ _=>rfl,fun id r h=>by cases h⟩
theorem Good.aw {o:Nat->aa}{nx i:Nat}{x:aa}(h:Good o nx)(hi:i<nx)(hx:x.refs.all (fun r=>decide (r<nx))=true):Good (aw o i x) nx:=by
 refine⟨fun id ay=> ?_,fun id r hr=> ?_⟩
 ·rw[af _ _ _ _ (by omega)];exact h.fresh id ay
 ·by_cases e:id=i
  ·subst e
   rw[ab]at hr
   simpa using List.all_eq_true.1 hx r hr
  ·rw[af _ _ _ _ e]at hr
   exact h.refs id r hr
theorem Good.mono {o:Nat->aa}{nx m:Nat}(h:Good o nx)(hm:nx<=m):Good o m:=⟨fun id ay=>h.fresh id ad,fun id r hr=>Nat.lt_of_lt_of_le (h.refs id r hr) hm⟩
theorem Good.lt {o:Nat->aa}{nx id:Nat}(h:Good o nx)(hn:o id≠ .no):id<nx:=by
 rcases Nat.lt_or_ge id nx with hl|hl
 ·exact hl
 ·exact absurd (h.fresh id hl) hn
def Ry(P:Program)(g:FuncId)(args:List V)(o:Nat->aa)(v:V):Prop:=
 ∀nx,Good o nx->∀K X,(∀o' nx',nx<=nx'->Good o' nx'->(∀id,id<nx->o' id=o id)->K v o' nx')->bJ P g args o nx K X
theorem V.zj:∀ (l:List V) (i:Nat),∀r∈(aY l i).refs,r∈V.aN l
 |[],i,r,h=>by rw[r9]at h;cases h
 |v::l,0,r,h=>by rw[pn]at h;simp only[V.aN,List.mem_append];exact .inl h
 |v::l,i+1,r,h=>by rw[pq]at h;simp only[V.aN,List.mem_append];exact .inr (V.zj l i r h)
theorem bM.back {b:Nat}{s:S}{env:Nat->V}{o:Nat->aa}{nx:Nat}(hb:b<=nx)(hn:nx<=s.nx)(hg:Good o nx)(ho:∀id,id<nx->s.o id=o id)
 (he:∀i,env i= .ai\/(env i=s.env i/\∀r∈(env i).refs,r<nx)):bM b s ⟨env,o,nx⟩:=by
 intro M φ w tm hH hd
 have dg:∀k,cO φ (hp o nx) k->cO φ s.H k:=by
  rintro k ⟨id,h1,h2⟩
  have ay:id<nx:=hg.lt (fun e=>by simp only[hp]at h1;rw[e]at h1;cases h1)
  exact⟨id,by simp only[S.H];rw[ho id ay];exact h1,h2⟩
 have hB:∀k, ¬aq M φ s.H k-> ¬aq M φ (hp o nx) k:=fun k h h'=>h (h'.imp id (dg k))
 have fR:∀ (v:V) (val:Value),(∀r∈v.refs,r<nx)->V.den (aq M φ s.H) φ s.H w v val->V.den (aq M φ (hp o nx)) φ (hp o nx) w v val:=fun v val hr h=>
  V.oB (H:=s.H) (H':=hp o nx) hB v val (fun id ay=>⟨(ho id (hr id ay)).symm,rfl,hr id ay⟩) h
 have kF:∀ (v:List V) (val:List Value),(∀r∈V.aN v,r<nx)->V.aG (aq M φ s.H) φ s.H w v val->V.aG (aq M φ (hp o nx)) φ (hp o nx) w v val:=fun v val hr h=>
  V.hZ (H:=s.H) (H':=hp o nx) hB v val (fun id ay=>⟨(ho id (hr id ay)).symm,rfl,hr id ay⟩) h
 refine⟨φ,⟨fun id=> ?_,fun id hu=>hg.fresh id (by simpa[S.H]using hu),fun i j k h1 h2 h3 h4=> ?_,fun k hk=>hH.ours k (dg k hk),hH.Cy⟩,fun i=> ?_,dg,hb,fun id ay hr=> ?_,fun id e' ay rb=> ?_⟩
 ·have bu:=hH.ok id
  have hrefs:=hg.refs id
  unfold aU at bu|-
  by_cases ay:id<nx
  ·have e:s.H.o id=o id:=ho id ay
   rw[e]at bu
   simp only[S.H]at bu|-
   cases hx:o id with
   |no=>trivial
   |row cs=>
    simp only[hx]at bu hrefs|-
    exact T5
   |arr ep ty sz es=>
    simp only[hx]at bu|-
    obtain⟨k1,xs,k2,evs,k3,k4,k5⟩:=bu
    exact Tw
   |vg ep es=>
    simp only[hx]at bu|-
    exact D.aV (fun b _ hn=>⟨rfl,hB b hn⟩) _ _ bu
   |map kt vt es=>
    simp only[hx]at bu|-
    obtain⟨b,es',clock,k1,k2,k4,k3⟩:=bu
    exact Tu
   |bZ l=>
    simp only[hx]at bu|-
    exact lZ.mono (fun b _ hn=>⟨rfl,hB b hn⟩) bu
   |s8 l last=>
    simp only[hx]at bu|-
    obtain⟨b,k1,k2⟩:=bu
    exact TY
   |A4 s pos=>
    simp only[hx]at bu|-
    exact bu
   |loop nf n env ps a b st pd=>
    simp only[hx]at bu hrefs|-
    exact Ur
  ·simp only[S.H]
   rw[hg.fresh id (by omega)]
   trivial
 ·have hi:i<nx:=hg.lt (fun e=>by simp only[S.H]at h1;rw[e]at h1;cases h1)
  have hj:j<nx:=hg.lt (fun e=>by simp only[S.H]at h2;rw[e]at h2;cases h2)
  exact hH.apart i j k (by simp only[S.H];rw[ho i hi];exact h1) (by simp only[S.H];rw[ho j hj];exact h2) h3 h4
 ·rcases he i with h|⟨h1,h2⟩
  ·simp only[h];trivial
  ·have:=hd i
   rw[<- h1]at this
   exact fR _ _ h2 this
 ·have cD:id<nx:=ad
  exact⟨by rw[ho id cD];exact hr,rfl⟩
 ·have cD:id<nx:=ad
  exact⟨e',by rw[ho id cD];exact rb,Nat.le_refl _,fun _=>rfl⟩
def mG(nx:Nat)(env:Nat->V):List V->Nat->Prop
 |[],_=>True
 |v::l,i=>(v= .ai\/(v=env i/\∀r∈v.refs,r<nx))/\mG nx env l (i+1)
theorem bM.bQ {b:Nat}{e:Nat->V}{so:Nat->aa}{m:Nat}(l:List V){o:Nat->aa}{nx:Nat}(hb:b<=nx)(hn:nx<=m)(hg:Good o nx)(ho:∀id,id<nx->so id=o id)(he:mG nx e l 0):bM b ⟨e,so,m⟩ ⟨aY l,o,nx⟩:=by
 refine bM.back hb hn hg ho ?_
 have key:∀ (l:List V) (i:Nat),mG nx e l i->∀j,aY l j= .ai\/(aY l j=e (i+j)/\∀r∈(aY l j).refs,r<nx):=by
  intro l
  induction l with
  |nil=>intro i _ j;rw[r9];exact .inl rfl
  |cons v l ih=>
   intro i h j
   cases j with
   |zero=>rw[pn];exact h.1
   |succ j=>
    rw[pq]
    have:=ih (i+1) h.2 j
    rwa [show i+1+j=i+(j+1) by omega]at this
 intro i
 have:=key l 0 he i
 rwa [Nat.zero_add]at this
theorem zh{nx:Nat}{env:Nat->V}{i:Nat}:mG nx env [] i:=trivial
theorem gQ{nx:Nat}{env:Nat->V}{l:List V}{i:Nat}(h:mG nx env l (i+1)):mG nx env (.ai::l) i:=⟨.inl rfl,h⟩
theorem o8{nx:Nat}{env:Nat->V}{l:List V}{i:Nat}{x:D}(he:env i= .d x)(h:mG nx env l (i+1)):mG nx env (.d x::l) i:=⟨.inr ⟨he.symm,fun r hr=>by simp[V.refs]at hr⟩,h⟩
theorem Hw{nx:Nat}{env:Nat->V}{l:List V}{i:Nat}{v:V}(he:env i=v)(hr:∀r∈v.refs,r<nx)(h:mG nx env l (i+1)):mG nx env (v::l) i:=⟨.inr ⟨he.symm,hr⟩,h⟩
theorem bM.d0 {e:Nat->V}{so:Nat->aa}{m:Nat}(l:List V)(he:mG 0 e l 0):bM 0 ⟨e,so,m⟩ ⟨aY l,fun _=> .no,0⟩:=bM.bQ l (Nat.le_refl 0) (Nat.zero_le _) Good.nil (fun _ h=>absurd h (Nat.not_lt_zero _)) he
theorem pU{k:Nat}(h:(k:Int)+1<=9223372036854775807):IntKind.i64.wrap ((k:Int)+1)=((k+1:Nat):Int):=by rw[wrap64 (by omega) h];rfl
theorem nK{k:IntKind}{a b:Int}(h:a=b):V.d (D.int k a)=V.d (D.int k b):=by rw[h]
theorem CC.Yl {P:Program}{g:FuncId}{args:List V}{rd:List Nat}{o:Nat->aa}{x:D}(nx:Nat)(vl:rd.all (fun id=>decide (id<nx))=true)(dV:∀id∈V.aN args,id∈rd)(pg:∀id∈rd,∀j∈(o id).refs,j∈rd)
 (h:Ry P g args (Gj rd o) (.d x)):CC P g args rd o (.ret [x]) []:=by
 have cD:∀id∈rd,id<nx:=fun id ay=>by simpa using List.all_eq_true.1 vl id ay
 have Cz:∀id,id∈rd->Gj rd o id=o id:=fun id ay=>by simp[Gj,ay]
 have D2:∀id,id∉rd->Gj rd o id= .no:=fun id ay=>by simp[Gj,ay]
 have adE:Good (Gj rd o) nx:=by
  refine⟨fun id ay=>D2 id (fun hm=>by have:=cD id hm;omega),fun id r hr=> ?_⟩
  by_cases ay:id∈rd
  ·rw[Cz id ay]at hr;exact cD r (pg id ay r hr)
  ·rw[D2 id ay]at hr;cases hr
 refine CC.l8 (nx:=nx) cD dV pg (fun x hx=>by cases hx) (fun x hx=>by cases hx) (h nx adE _ _ fun o' nx' _ _ h3=>⟨fun id ay=> ?_,[.d x],[x],rfl,rfl,rfl,fun id ay=>by simp[V.bw,V.ids]at ay⟩)
 rw[h3 id (cD id ay),Cz id ay];rfl
theorem D3{P:Program}{g:FuncId}{K:KD}{X:XD}{o:Nat->aa}{nx fr:Nat}{all:List V}{rd:List Nat}{rs:List D}{Δ:List (Nat×aa)}(nR:rd.all (fun id=>decide (id<nx))=true)(h:CC P g all rd o (.ret rs) Δ)(hk:K (jM rs) Δ rd):tN P g K X o nx fr all:=by
 unfold tN
 exact⟨rd,Δ,nR, .inl ⟨rs,h,hk⟩⟩
abbrev D.i (n:Int):D:= .int .i64 n
structure fj where
 name:List UInt8
 args:Int
structure az where
 cons:List fj
 ct:List fj
inductive Tm where
 |mk (op n:Int) (kids:List Tm)
 deriving Inhabited
structure TB where
 var:Int
 term:Tm
def Tm.op:Tm->Int| .mk op _ _=>op
def Tm.n:Tm->Int| .mk _ n _=>n
def Tm.kids:Tm->List Tm| .mk _ _ l=>l
theorem Tm.eta (t:Tm):Tm.mk t.op t.n t.kids=t:=by cases t;rfl
theorem Tm.ind {P:Tm->Prop}(h:∀op n kids,(∀k∈kids,P k)->P (.mk op n kids)):∀t,P t:=
 fun t=>Tm.rec (motive_1:=P) (motive_2:=fun l=>∀k∈l,P k) (fun op n kids ih=>h op n kids ih) (fun _ h=>by cases h)
  (fun x l hx hl k hk=>(List.mem_cons.1 hk).elim (fun e=>e ▸ hx) (hl k)) t
mutual
def Tm.d:Tm->D
 | .mk op n kids=> .agg [.i op, .i n, .sl (Tm.ds kids)]
def Tm.ds:List Tm->List D
 |[]=>[]
 |t::l=>t.d::Tm.ds l
end
theorem Tm.Gx:∀l:List Tm,Tm.ds l=l.map Tm.d
 |[]=>rfl
 |t::l=>by simp[Tm.ds,Tm.Gx l]
theorem Tm.adF (t:Tm):t.d= .agg [.i t.op, .i t.n, .sl (t.kids.map Tm.d)]:=by cases t;simp[Tm.d,Tm.Gx,Tm.op,Tm.n,Tm.kids]
@[go_sem] theorem Tm.agO (t:Tm):D.agg [.i t.op, .i t.n, .sl (t.kids.map Tm.d)]=t.d:=(Tm.adF t).symm
@[go_sem] theorem Tm.af0 (t:Tm):D.cells t.d=[.i t.op, .i t.n, .sl (t.kids.map Tm.d)]:=by rw[Tm.adF];rfl
theorem Tm.eM {P:Tm->Prop}(h:∀t:Tm,(∀k∈t.kids,P k)->P t):∀t,P t:=Tm.ind fun op n kids ih=>h (.mk op n kids) ih
theorem Tm.D4 (op n:Int)(l:List Tm):(Tm.mk op n l).d= .agg [.i op, .i n, .sl (l.map Tm.d)]:=by simp[Tm.d,Tm.Gx]
@[reducible] def fj.d (x:fj):D:= .agg [.str x.name, .i x.args]
@[reducible] def az.d (s:az):D:= .agg [.sl (s.cons.map fj.d), .sl (s.ct.map fj.d)]
@[reducible] def TB.d (b:TB):D:= .agg [.i b.var, .i b.term.op, .i b.term.n, .sl (b.term.kids.map Tm.d)]
mutual
def Tm.fits:Tm->Prop
 | .mk _ _ kids=>kids.length<=9223372036854775807/\Tm.D5 kids
def Tm.D5:List Tm->Prop
 |[]=>True
 |t::l=>t.fits/\Tm.D5 l
end
theorem Tm.Aj:∀l:List Tm,Tm.D5 l↔∀k∈l,k.fits
 |[]=>by simp[Tm.D5]
 |t::l=>by simp[Tm.D5,Tm.Aj l]
theorem Tm.cH (t:Tm):t.fits↔t.kids.length<=9223372036854775807/\∀k∈t.kids,k.fits:=by cases t;simp[Tm.fits,Tm.Aj,Tm.kids]
mutual
def Tm.lL:Tm->Nat
 | .mk _ _ kids=>1+Tm.gH kids
def Tm.gH:List Tm->Nat
 |[]=>0
 |k::l=>Nat.max k.lL (Tm.gH l)
end
theorem Tm.xi:∀ {l:List Tm} {k:Tm},k∈l->k.lL<=Tm.gH l
 |x::l,k,h=>by
  simp only[Tm.gH]
  rcases List.mem_cons.1 h with rfl|h
  ·exact Nat.le_max_left _ _
  ·exact Nat.le_trans (Tm.xi h) (Nat.le_max_right _ _)
theorem Tm.vO {t k:Tm}(h:k∈t.kids):k.lL+1<=t.lL:=by
 cases t;simp only[Tm.kids]at h;simp only[Tm.lL];have:=Tm.xi h;omega
mutual
def pre:Tm->Int->List (Tm×Int)
 | .mk op n kids,d=>(.mk op n kids,d)::Rz kids (d+1)
def Rz:List Tm->Int->List (Tm×Int)
 |[],_=>[]
 |k::l,d=>pre k d++Rz l d
end
theorem La(l:List Tm)(d:Int):Rz l d=l.flatMap fun k=>pre k d:=by
 induction l with
 |nil=>rfl
 |cons k l ih=>simp[Rz,ih]
theorem oG(t:Tm)(d:Int):pre t d=(t,d)::t.kids.flatMap fun k=>pre k (d+1):=by cases t;simp[pre,La,Tm.kids]
def eS(n low high:Int):Bool:=decide (low<=n)&&decide (n<=high)
def letterF(b:UInt8):Bool:= !((decide ((b.toNat:Int)<97)||decide (122<(b.toNat:Int)))&&(decide ((b.toNat:Int)<65)||decide (90<(b.toNat:Int))))
def kR(s:List UInt8):Bool:=s.all letterF&&eS s.length 1 8
def cM:List fj->List (List UInt8)->Option (List (List UInt8))
 |[],before=>some before
 |x::l,before=>if before.any (· ==x.name)then none else if(!kR x.name|| !eS x.args 0 4)=true then none else cM l (before++[x.name])
def fB:List UInt8:=[70,97,108,115,101]
def tB:List UInt8:=[84,114,117,101]
def nS(x:fj)(s:List UInt8):Bool:=x.name==s&&x.args==0
def jP(s:az):Bool:=
 if(!eS s.cons.length 2 12||decide (8<(s.ct.length:Int)))=true then false else
 match s.cons with
 |a::b::_=>if(!nS a fB|| !nS b tB)=true then false else
  match cM s.cons []with
  |none=>false
  |some l=>(cM s.ct l).isSome
 |_=>false
mutual
def gf:Tm->Int->Int->Int
 | .mk _ _ kids,left,depth=>if left<1\/depth<1 then -1 else cN kids (left - 1) (depth - 1)
def cN:List Tm->Int->Int->Int
 |[],left,_=>left
 |k::l,left,depth=>if 0<=left then cN l (gf k left depth) depth else left
end
def kS(l:List fj)(n:Int):Int:=match l[n.toNat]? with|some x=>x.args|none=>0
def bG(s:az)(t:Tm):Bool:=
 let k:Int:=t.kids.length
 if t.op=1 then k==0&&eS t.n 0 19
 else if t.op=2 then k==0&&eS t.n (-1000000) 1000000
 else if t.op=3 then eS t.n 0 (s.cons.length - 1)&&k==kS s.cons t.n
 else if t.op=4 then eS t.n 0 (s.ct.length - 1)&&k==kS s.ct t.n
 else if t.op=5 then eS t.n 0 (s.ct.length - 1)&&decide (k<kS s.ct t.n)
 else if t.op=8 then k==2&&eS t.n 0 19
 else if(eS t.op 6 15)=true then k==2&&t.n==0
 else false
mutual
def jl(s:az):Tm->Bool
 | .mk op n kids=>bG s (.mk op n kids)&&vP s kids
def vP(s:az):List Tm->Bool
 |[]=>true
 |k::l=>jl s k&&vP s l
end
def il(s:az)(t:Tm):Bool:=decide (0<=gf t 40 12)&&jl s t
mutual
def fL:Tm->Bool
 | .mk op _ kids=>vQ kids&&((decide (1<=op)&&decide (op<=3))||op==5)
def vQ:List Tm->Bool
 |[]=>true
 |k::l=>fL k&&vQ l
end
mutual
def iH:Tm->Tm->Bool
 | .mk op n kids, .mk op' n' Vj=>op==op'&&n==n'&&kids.length==Vj.length&&jm kids Vj
def jm:List Tm->List Tm->Bool
 |[],_=>true
 |k::l,k'::l'=>iH k k'&&jm l l'
 |_::_,[]=>true
end
def dI(t:Tm):Bool:=decide (0<=gf t 50 14)
def gO(l:List fj):Bool:=l.all fun x=>decide ((x.name.length:Int)<=30)
def eW(s:az):Bool:= !(decide (16<(s.cons.length:Int))||decide (12<(s.ct.length:Int)))&&gO s.cons&&gO s.ct
section
def mi(id:Nat)(K X:V->(Nat->aa)->Nat->Prop)(e:gr)(s:S):Prop:=
 match e with
 | .normal=>∃nf m en p c d st pd,s.o id= .loop nf m en p c d st pd/\K (.d (.bool true)) (aw s.o id (.loop nf m en p c d .ready none)) s.nx
 | .ret=>∃nf m en p c d st pd,s.o id= .loop nf m en p c d st pd/\K (.d (.bool false)) (aw s.o id (.loop nf m en p c d .done (some .ret))) s.nx
 | .exit j=>∃nf m en p c d st pd,s.o id= .loop nf m en p c d st pd/\K (.d (.bool false)) (aw s.o id (.loop nf m en p c d .done (some (.exit j)))) s.nx
 | .bU v=>X v s.o s.nx
def Ym(P:Program)(n b id:Nat)(fV:IC)(K X:V->(Nat->aa)->Nat->Prop)(e:gr)(s:S):Prop:=
 match e with
 | .normal=>∃nf m en p c d pd,s.o id= .loop nf m en p c d .ready pd/\vN P n b true fV (mi id K X) ⟨s.env,aw s.o id (.loop nf m en p c d .busy pd),s.nx⟩
 | .bU v=>X v s.o s.nx
 |_=>False
section
variable {P:Program}{M:Nat->Prop}{φ cY:Place}{H0:Hp}{w w0:World}{n:Nat}{s:S}{a:Act}{cx:Cx}
theorem D6{id:Nat}{x:aa}{s:S}(cD:id<s.nx)(j:Nat)(hu:(s.H.put [(id,x)]).us j):j<s.nx:=by
 simp only[eJ]at hu
 rcases hu with hu|hu
 ·exact hu
 ·subst hu;exact cD
theorem xj{B:Nat->Prop}{H:Hp}{n:Nat}:∀ (ps:List Nat) (vs:List V) (us:List Value) (env:Nat->V) (tmps:Array Value),tmps.size=n->ps.length=vs.length->V.aG B φ H w vs us->ps.all (fun t=>decide (t<n))=true->(∀i,V.den B φ H w (env i) (tmps.getD i undef))->
 ((ps.zip us).foldl (fun tmps p=>tmps.setIfInBounds p.1 p.2) tmps).size=n/\∀i,V.den B φ H w (qH env ps vs i) (((ps.zip us).foldl (fun tmps p=>tmps.setIfInBounds p.1 p.2) tmps).getD i undef)
 |[],[],us,env,tmps,eD,_,hd,_,he=>by simp only[V.aG]at hd;subst hd;exact⟨eD,he⟩
 |[],v::vs,us,env,tmps,_,h,_,_,_=>by simp at h
 |t::ps,[],us,env,tmps,_,h,_,_,_=>by simp at h
 |t::ps,v::vs,us,env,tmps,eD,hl,hd,hp,he=>by
  obtain⟨u,us,rfl,h1,h2⟩:=hd
  simp only[List.all_cons,Bool.and_eq_true,decide_eq_true_eq]at hp
  simp only[List.zip_cons_cons,List.foldl_cons,qH]
  refine xj ps vs us (aw env t v) (tmps.setIfInBounds t u) (by simp[eD]) (by simpa using hl) h2 hp.2 (fun i=> ?_)
  simp only[aQ]
  by_cases hi:i=t
  ·subst hi
   have:(tmps.setIfInBounds i u).getD i undef=u:=by simp[Array.getD,eD,hp.1]
   rw[if_pos rfl,this];exact h1
  ·have:(tmps.setIfInBounds t u).getD i undef=tmps.getD i undef:=by
    exact Xh
   rw[if_neg hi,this];exact he i
theorem ej.xe (bz:P.follows .mixedOrders=true){id:Nat}{args:List V}{o:Nat->aa}{nx:Nat}{K X:V->(Nat->aa)->Nat->Prop}{env:List V}{ps:List Nat}{kG fV:IC}{st:LoopState}{pd:Option lh}
 (ho:o id= .loop P.funcs.size n env ps kG fV st pd) (cD:id<nx) (Gy:ps.all (fun t=>decide (t<n))=true) (hl:args.length=ps.length)
 (h:vN P n nx true kG (Ym P n nx id fV K X) ⟨qH (aY env) ps args,o,nx⟩):ej P id args o nx K X:=by
 refine⟨by rw[ho];rfl,fun M φ w vals b hH hd fA=> ?_⟩
 have a8:=hH.ok id
 simp only[aU,hp,ho]at a8
 obtain⟨b',r,h1,h2,h0,h3,h4,h5,h6,h7,h8,h9⟩:=a8
 rw[fA]at h1;simp at h1;subst h1
 have hlen:=V.aE _ _ hd
 have eD:vals.size=r.params.size:=by
  have:r.params.toList.length=ps.length:=by rw[h5]
  simp at hlen this;omega
 let tm:Array Value:=(ps.zip vals.toList).foldl (fun tmps p=>tmps.setIfInBounds p.1 p.2) r.tmps
 have adG:(r.params.zip vals).foldl (fun tmps (p:Tmp×Value)=>tmps.setIfInBounds p.1 p.2) r.tmps=tm:=by
  rw[<- Array.foldl_toList,Array.toList_zip,h5]
 obtain⟨p1,p2⟩:=xj (B:=aq M φ (hp o nx)) (H:=hp o nx) (φ:=φ) (w:=w) ps args vals.toList (aY env) r.tmps h6 hl.symm hd Gy h9
 refine⟨r.fn,tm,r.assign,r.body, ?_,fun k=> ?_⟩
 ·simp only[Instr.yield,Sem.run_bind,lJ h2,Result.andThen_ok,eD,ne_eq,not_true_eq_false,if_false,Sem.run_pure]
  rw[<- adG]
 ·
   let s0:S:=⟨qH (aY env) ps args,o,nx⟩
   let a0:Act:={tmps:=tm,defers:=[]}
   have pQ:cB M φ (hp o nx) w n ⟨[],true⟩ φ s0 a0 w:=⟨hH,Trans.refl _ _ _,p1,⟨[],rfl,List.nodup_nil,fun _=>rfl,fun r hr=>by cases hr⟩,p2⟩
   have xk:∀ {aI s' a' w'},cB M φ (hp o nx) w n ⟨[],true⟩ aI s' a' w'->a'.defers=[]:=by
    intro aI s' a' w' hs
    obtain⟨ms,g1,_,g3,_⟩:=hs.defers
    rw[g3 rfl]at g1;exact g1
   have adH:∀ {aI s' a' w'} {nf m:Nat} {en:List V} {p:List Nat} {c d:IC} {st:LoopState} {pd:Option lh} (st':LoopState) (pd':Option lh),cB M φ (hp o nx) w n ⟨[],true⟩ aI s' a' w'->s'.o id= .loop nf m en p c d st pd->
    ∃r',w'.heap[b]? =some (.loop r')/\r'.state=st/\r'.pending=pd.map lh.code/\
     cB M φ (hp o nx) w n ⟨[],true⟩ aI ⟨s'.env,aw s'.o id (.loop nf m en p c d st' pd'),s'.nx⟩ a' {w' with heap:=w'.heap.setIfInBounds b (.loop {r' with state:=st',pending:=pd'.map lh.code})}:=by
    intro aI s' a' w' nf m en p c d st pd st' pd' hs ri
    have XE:aI id= .pointer (some ⟨b,0,none⟩):=by
     have:=(hs.tr.rel.row id cD (by show(s'.o id).cF=true;rw[ri];rfl)).2
     rw[this];exact fA
    have adI:id<s'.nx:=hs.tr.rel.us id cD
    obtain⟨r',r1,r2,r3,r4,r5⟩:=zX (st':=st') (pd':=pd') hs.heap adI (show s'.H.o id=_ from ri) XE
    exact⟨r',r1,r2,r3,fC hs r4 r5 rfl (D6 adI)⟩
   have ha:=jj (P:=P) (n:=n) (b:=nx) (rd:=true) bz r.assign _ _ s0 (fun _ _ h=>h) (by rw[h7];exact h)
   refine wV h0 (iF (je (P:=P) (H0:=hp o nx) (b:=nx) (cx:=⟨[],true⟩) (ro:=some b) (fun id hu=>hu) (fun h=>by cases h) r.assign _ s0 φ a0 w ha pQ) ?_)
   rintro e a1 w1 ⟨x,s1,jI,hq,ta,hm⟩
   cases e<;>cases x<;>first|(exact hm.elim)|skip
   ·
     obtain⟨nf,m,en,p,c,d,pd1,q1,q2⟩:=hq
     obtain⟨r',r1,r2,r3,Im⟩:=adH .busy pd1 ta q1
     have Yn:(Instr.beginRound b).run P w1= .ok () {w1 with heap:=w1.heap.setIfInBounds b (.loop {r' with state:= .busy,pending:=pd1.map lh.code})}:=by
      have e1:({r' with state:= .busy}:Loop)={r' with state:= .busy,pending:=pd1.map lh.code}:=by rw[<- r3]
      simp only[Instr.beginRound,Sem.run_bind,lJ r1,Result.andThen_ok,jN _ r1,r2,Sem.run_pure,e1]
     refine⟨_,Yn, ?_⟩
     have bP:=Im.heap.ok id
     simp only[aU,S.H,aQ,if_true]at bP
     obtain⟨b2,r2',_,_,_,_,_,_,_,_,_,_⟩:=bP
     have hb:=jj (P:=P) (n:=n) (b:=nx) (rd:=true) bz r.body _ _ _ (fun _ _ h=>h) (by rw[h8];exact q2)
     refine iF (je (P:=P) (H0:=hp o nx) (b:=nx) (cx:=⟨[],true⟩) (ro:=some b) (fun id hu=>hu) (fun h=>by cases h) r.body _ _ jI a1 _ hb Im) ?_
     rintro e a2 w2 ⟨x,s2,Gb,hq2,Io,Qg⟩
     have fin:∀ {nf m:Nat} {en:List V} {p:List Nat} {c d:IC} {st:LoopState} {pd:Option lh} (jump:Option lh) (t:Bool) (st':LoopState),t=jump.isNone->st'=(if jump.isNone then .ready else .done)->s2.o id= .loop nf m en p c d st pd->K (.d (.bool t)) (aw s2.o id (.loop nf m en p c d st' jump)) s2.nx->
      ∃v w',(Instr.endRound b (jump.map lh.code)).run P w2= .ok v w'/\oj M φ (hp o nx) w K X (.returned v) w':=by
      intro nf m en p c d st pd jump t st' ht kC RA hK
      obtain⟨r3',g1,g2,g3,hs4⟩:=adH st' jump Io RA
      refine⟨.bool t,_, ?_,Gb,_,_,_,hs4.heap,hs4.tr,by simp only[V.den,D.den],hK⟩
      subst ht;subst kC
      simp only[Instr.endRound,Sem.run_bind,lJ g1,Result.andThen_ok,jN _ g1,Sem.run_pure,Option.isNone_map]
     cases e<;>cases x<;>first|(exact Qg.elim)|skip
     ·obtain⟨nf,m,en,p,c,d,st,pd,k1,k2⟩:=hq2
      exact fin none true .ready rfl rfl k1 k2
     ·rename_i j
      subst Qg
      obtain⟨nf,m,en,p,c,d,st,pd,k1,k2⟩:=hq2
      exact fin (some (.exit _)) false .done rfl rfl k1 k2
     ·obtain⟨nf,m,en,p,c,d,st,pd,k1,k2⟩:=hq2
      exact fin (some .ret) false .done rfl rfl k1 k2
     ·obtain⟨val,rfl,k2⟩:=Qg
      exact⟨xk Io,Gb,_,_,_,Io.heap,Io.tr,val,rfl,k2,hq2⟩
   ·exact hq.elim
   ·exact hq.elim
   ·obtain⟨val,rfl,k2⟩:=hm
    exact⟨xk ta,jI,_,_,_,ta.heap,ta.tr,val,rfl,k2,hq⟩
end
end
end Go.Proofs.YtlhemmpklhhgoaaGreat
