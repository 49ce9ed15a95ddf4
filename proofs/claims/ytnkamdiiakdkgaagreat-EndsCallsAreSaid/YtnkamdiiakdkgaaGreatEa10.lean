/-
  A PART OF THE PROOF. Conditions: none.
-/
import Derived.Test.YtnkamdiiakdkgaaGreatEa9
set_option linter.unusedSimpArgs false
set_option linter.unusedVariables false
namespace Go.Proofs.YtnkamdiiakdkgaaGreat
section
abbrev Fix(α:Type){β:Type}(_:β):Type:=α
def jA(K:V->List (Nat×ab)->Prop)(x:Fix (Option eR) K):Prop:=match x with|some (v,Δ,_)=>K v Δ|none=>False
@[go_sem] theorem Qs {v:V} {Δ:List (Nat×ab)} {rd:List Nat} {K}:jA K (some (v,Δ,rd))=K v Δ:=propext Iff.rfl
@[go_sem] theorem Qt {K}:jA K none=False:=propext Iff.rfl
def V.xg (c:Bool)(v:V):V:=if c=true then v else .bP []
@[go_sem] theorem Wf (b:Bool):(!!b)=b:=aK
attribute [go_sem] true_or or_true false_or ne_eq not_false_eq_true decide_true decide_false Bool.not_true Bool.not_false Bool.and_true Bool.true_and Bool.and_false Bool.false_and Bool.or_true Bool.true_or Bool.or_false Bool.false_or beq_self_eq_true Bool.true_eq_false Bool.false_eq_true not_true_eq_false and_true true_and and_false false_and eq_self
@[go_sem] theorem V.Wg (v:V):V.xg true v=v:=rfl
@[go_sem] theorem V.Tj (v:V):V.xg false v= .bP []:=rfl
def kY(c:Bool)(p:Prop):Prop:=c=true->p
@[congr] theorem Nz {c c':Bool} {p p':Prop} (h:c=c') (h2:c'=true->p=p'):kY c p=kY c' p':=by
  subst h;cases c
  ·simp[kY]
  ·simp[kY,h2 rfl]
@[go_sem] theorem Qu (p:Prop):kY true p=p:=by simp[kY]
@[go_sem] theorem NA (p:Prop):kY false p=True:=by simp[kY]
@[go_sem] theorem Qv (a:Bool):kY a True=True:=by simp[kY]
def kZ(v:V)(want:Bool):Option Bool:=
 match v with
 | .d (.bool b)=>some (b==want)
 | .bP []=>some false
 |_=>none
@[go_sem] theorem Qw (b:Bool):kZ (.d (.bool b)) true=some b:=by simp[kZ]
@[go_sem] theorem NB (b:Bool):kZ (.d (.bool b)) false=some (!b):=by simp[kZ]
@[go_sem] theorem Wh (want:Bool):kZ (.bP []) want=some false:=rfl
@[go_sem] theorem Tk (c b want:Bool):kZ (V.xg c (.d (.bool b))) want=some (c&&(b==want)):=by cases c<;>simp[kZ,V.xg]
@[go_sem] theorem Qx (c b e want:Bool):kZ (V.xg c (V.xg e (.d (.bool b)))) want=some (c&&e&&(b==want)):=by cases c<;>cases e<;>simp[kZ,V.xg]
def jL(c:Bool)(x:Option eR):Option eR:=
 if c=true then(match x with|some (v,[],_)=>some (v,[],[])|_=>none)else some (.bP [],[],[])
@[congr] theorem KO {c c':Bool} {x x':Option eR} (h:c=c') (h2:c'=true->x=x'):jL c x=jL c' x':=by
  subst h;cases c
  ·rfl
  ·simp[jL,h2 rfl]
def Tl(v:V)(rd:List Nat):Option eR:=some (v,[],rd)
@[go_sem] theorem aaM (v:V) (rd:List Nat):(some (v,[],rd):Option eR)=Tl v rd:=by unfold Tl;exact Eq.trans rfl rfl
@[go_sem] theorem Qy (c:Bool) (v:V) (rd:List Nat):jL c (Tl v rd)=Tl (V.xg c v) []:=by cases c<;>rfl
@[go_sem] theorem Tn {v:V} {rd:List Nat} {K}:jA K (Tl v rd)=K v []:=propext Iff.rfl
@[go_sem] theorem NC (c:Bool) (v:V) (rd:List Nat):jL c (some (v,[],rd))=some (V.xg c v,[],[]):=by cases c<;>rfl
@[go_sem] theorem KQ (x:Option eR):jL false x=some (.bP [],[],[]):=rfl
@[go_sem] theorem Wi (b x:Bool):oE (.d (.bool b)) (V.xg b (.d (.bool x))) (.d (.bool false))=some (.d (.bool (b&&x))):=yl
@[go_sem] theorem ZI (b x:Bool):oE (.d (.bool b)) (.d (.bool true)) (V.xg (!b) (.d (.bool x)))=some (.d (.bool (b||x))):=yl
@[go_sem] theorem Wj (b x:Bool):oE (.d (.bool (!b))) (.d (.bool true)) (V.xg b (.d (.bool x)))=some (.d (.bool (!b||x))):=yl
@[go_sem] theorem To (x y:V):oE (.d (.bool true)) x y=some x:=rfl
@[go_sem] theorem Qz (x y:V):oE (.d (.bool false)) x y=some y:=rfl
@[reducible] def jM:Op->Bool
  | .move _| .assign _| .pick .. | .load .. | .binOp .. | .unOp .. | .nilCheck _| .convert .. | .makeInterface .. | .makeFunc .. | .fieldAddr .. | .indexAddr .. | .extract .. | .build .. | .index .. | .field .. | .lookup .. =>true
  | .call c=>match c.callee with
    | .builtin .len=>true
    | .builtin .min=>true
    | .builtin .max=>true
    |_=>false
  |_=>false
def zC(P:Program)(f:V)(args:List V)(o:Nat->ab)(rs:List D):Prop:=
 match f with
 | .func (.func g) first cap=>match bQ o (first++args++cap)with
   |some ds=>aR P g ds (.ret rs)/\D.iS rs=true
   |none=>False
 |_=>False
def De(P:Program)(f:V)(args:List V)(o:Nat->ab)(K:V->Prop)(c:Fix Bool (f,args,o,K)):Prop:=
 ∃rs,kY c (zC P f args o rs)/\K (V.xg c (iu rs))
def zD(P:Program)(g:FuncId)(nx:Nat)(K X:V->(Nat->ab)->Nat->Prop)(args:Fix (List V) (K,X))(o:Fix (Nat->ab) (K,X)):Prop:=qG P g args o nx K X
def sO(P:Program)(g:FuncId)(o:Nat->ab)(nx:Nat)(K X:V->(Nat->ab)->Nat->Prop)(ds:Fix (List D) (o,nx,K,X))(all:Fix (List V) (o,nx,K,X)):Prop:=
 sE P g ds o (put o (bZ o (V.a7 all))) (put o (pG o (V.a7 all))) (fun v o'=>K v o' (nx+1)) (fun v o'=>X v o' (nx+1))\/qG P g all o nx K X
def l4(P:Program)(g:FuncId)(K X:V->(Nat->ab)->Nat->Prop)(s:S)(all:List V)(ds:Fix (Option (List D)) (K,X,s,all)):Prop:=
 match ds with
 |some ds=>sO P g s.o s.nx K X ds all
 |none=>zD P g s.nx K X all s.o
@[go_sem] theorem ND {P:Program} {s:S} {ds:List D} {g:FuncId} {all:List V} {K X}:
 l4 P g K X s all (some ds)=sO P g s.o s.nx K X ds all:=propext Iff.rfl
def vy(P:Program)(id:Nat)(K X:V->(Nat->ab)->Nat->Prop)(s:S)(args:Fix (List V) (K,X,s)):Prop:=dc P id args s.o s.nx K X
@[go_sem] theorem NF {P:Program} {s:S} {g:FuncId} {all:List V} {K X}:l4 P g K X s all none=zD P g s.nx K X all s.o:=propext Iff.rfl
def qM(P:Program)(K X:V->(Nat->ab)->Nat->Prop)(s:S)(f:Fix V (K,X,s))(args:Fix (List V) (K,X,s)):Prop:=
 match f with
 | .func (.func g) first cap=>l4 P g K X s (first++args++cap) (bQ s.o (first++args++cap))
 | .ir id=>vy P id K X s args
 |_=>False
@[go_sem] theorem Tp {P:Program} {s:S} {id:Nat} {args:List V} {K X}:qM P K X s (.ir id) args=vy P id K X s args:=propext Iff.rfl
@[go_sem] theorem QA {P:Program} {s:S} {g:FuncId} {first cap args:List V} {K X}:qM P K X s (.func (.func g) first cap) args=l4 P g K X s (first++args++cap) (bQ s.o (first++args++cap)):=propext Iff.rfl
def HD(P:Program)(g:FuncId)(o:Nat->ab)(nx:Nat)(K X:V->(Nat->ab)->Nat->Prop)(ds:Fix (List D) (o,nx,K,X))(all:Fix (List V) (o,nx,K,X)):Prop:=
 sE P g ds o (put o (bZ o (V.a7 all))) (put o (pG o (V.a7 all))) (fun v o'=>K v o' (nx+1)) (fun v o'=>X v o' (nx+1))
def zE(P:Program)(g:FuncId)(K X:V->(Nat->ab)->Nat->Prop)(s:S)(all:List V)(ds:Fix (Option (List D)) (K,X,s,all)):Prop:=
 match ds with
 |some ds=>HD P g s.o s.nx K X ds all
 |none=>False
@[go_sem] theorem QB {P:Program} {s:S} {ds:List D} {g:FuncId} {all:List V} {K X}:zE P g K X s all (some ds)=HD P g s.o s.nx K X ds all:=propext Iff.rfl
def HE(P:Program)(K X:V->(Nat->ab)->Nat->Prop)(s:S)(args:Fix (List V) (K,X,s))(r:Fix (Option (FuncId×V)) (K,X,s)):Prop:=
 match r with
 |some (g,y)=>zE P g K X s (y::args) (bQ s.o (y::args))
 |none=>False
@[go_sem] theorem Tq {P:Program} {s:S} {g:FuncId} {y:V} {args:List V} {K X}:HE P K X s args (some (g,y))=zE P g K X s (y::args) (bQ s.o (y::args)):=propext Iff.rfl
def EZ(K:V->Prop)(v:Fix V K):Prop:=
 match v with
 | .d (.iface t y)=>K (.d (.iface t y))
 | .iface t y=>K (.iface t y)
 |_=>False
@[go_sem] theorem aaN {t:TypeId} {y:D} {K}:EZ K (.d (.iface t y))=K (.d (.iface t y)):=propext Iff.rfl
@[go_sem] theorem aaO {t:TypeId} {y:V} {K}:EZ K (.iface t y)=K (.iface t y):=propext Iff.rfl
def Df(K:V->List (Nat×ab)->Prop)(id:Nat)(l:Fix (List (D×D)) (K,id)):Prop:=CP id l fun v Δ _=>K v Δ
def HG(K:V->List (Nat×ab)->Prop)(str:Bool)(Ts:Fix (Option eR) (K,str))(left:Fix (Option (Nat×List (D×D))) (K,str)):Prop:=
 match left with
 |some (id,l)=>str=false/\Df K id l
 |none=>jA K Ts
@[go_sem] theorem Tt {K} {Ts:Option eR} {id:Nat} {l:List (D×D)}:HG K false Ts (some (id,l))=Df K id l:=propext ⟨fun h=>h.2,fun h=>⟨rfl,h⟩⟩
@[go_sem] theorem Tu {K} {str:Bool} {Ts:Option eR}:HG K str Ts none=jA K Ts:=propext Iff.rfl
def zF(P:Program)(X:V->S->Prop)(K:S->Prop)(o:bI)(s:Fix S (X,K,o)):Prop:=
 match o.op with
 | .next x str=>HG (fun v Δ=>K ⟨aT s.env o.dst v,put s.o Δ,s.nx+1⟩) str (na s.o (s.ev x) str) (nb s.o (s.ev x))
 | .call c=>match c.callee with
   | .value f=>qM P (fun v o' nx'=>K ⟨aT s.env o.dst v,o',nx'⟩) (fun v o' nx'=>X v ⟨s.env,o',nx'⟩) s (s.ev f) (c.args.toList.map s.ev)
   | .invoke r m=>HE P (fun v o' nx'=>K ⟨aT s.env o.dst v,o',nx'⟩) (fun v o' nx'=>X v ⟨s.env,o',nx'⟩) s (c.args.toList.map s.ev) (sw P m (s.ev r))
   |_=>jA (fun v Δ=>K ⟨aT s.env o.dst v,put s.o Δ,s.nx+1⟩) (fm P s s.nx o.op)
 | .panic x=>EZ (fun v=>X v s) (s.ev x)
 |op=>jA (fun v Δ=>K ⟨aT s.env o.dst v,put s.o Δ,s.nx+1⟩) (fm P s s.nx op)
@[reducible] def dL:Op->Option (Operand×List Operand)
  | .call c=>match c.callee with
    | .value f=>some (f,c.args.toList)
    |_=>none
  |_=>none
def gK(A B:Prop)(t:Fix Bool (A,B)):Prop:=oJ t A B
@[go_sem] theorem QC (A B:Prop):gK A B true=A:=sF A B
@[go_sem] theorem NG (A B:Prop):gK A B false=B:=qH A B
def BZ(P:Program)(X:V->S->Prop)(K:S->Prop)(o:bI)(s:S)(f:Operand)(args:List Operand)(c:Fix Bool (X,K,o,s,f,args)):Prop:=
 De P (s.ev f) (args.map s.ev) s.o (fun v=>K ⟨aT s.env o.dst v,s.o,s.nx+1⟩) c\/gK (zF P X K o s) (K ⟨aT s.env o.dst (.bP []),s.o,s.nx+1⟩) c
def xh(P:Program)(X:V->S->Prop)(K:S->Prop)(o:bI)(s:S)(c:Fix (Option Bool) (X,K,o,s)):Prop:=
 match c with
 |none=>False
 |some c=>match dL o.op with
  |some (f,args)=>BZ P X K o s f args c
  |none=>if jM o.op=true then jA (fun v _=>K ⟨aT s.env o.dst v,s.o,s.nx+1⟩) (jL c (fm P s s.nx o.op))
   else gK (zF P X K o s) (K ⟨aT s.env o.dst (.bP []),s.o,s.nx+1⟩) c
def oK(P:Program)(X:V->S->Prop)(K:S->Prop)(l:List bI)(s:Fix S (X,K,l)):Prop:=
 match l with
 |[]=>K s
 |o::l=>match o.gd with
  |none=>zF P X (oK P X K l) o s
  |some (d,want)=>xh P X (oK P X K l) o s (kZ (s.env d) want)
def iW(want:Bool)(A B:Prop)(v:Fix V (A,B)):Prop:=
 match v with
 | .d (.bool b)=>oJ (b==want) A B
 | .bP []=>B
 |_=>False
@[go_sem] theorem NH (b:Bool) (A B:Prop):iW true A B (.d (.bool b))=gK A B b:=by simp[iW,gK]
@[go_sem] theorem KR (b:Bool) (A B:Prop):iW false A B (.d (.bool b))=gK A B (!b):=by simp[iW,gK]
@[go_sem] theorem Tv (want:Bool) (A B:Prop):iW want A B (.bP [])=B:=propext Iff.rfl
@[go_sem] theorem QD (c b want:Bool) (A B:Prop):iW want A B (V.xg c (.d (.bool b)))=gK A B (c&&(b==want)):=by cases c<;>simp[iW,V.xg,gK]
abbrev KD:=V->List (Nat×ab)->List Nat->Prop
abbrev XD:=V->List Nat->List Nat->Prop
def HH(P:Program)(g:FuncId)(K:KD)(X:XD)(o:Nat->ab)(rd:List Nat)(ds:Fix (List D) (K,X,o,rd))(all:Fix (List V) (K,X,o,rd)):Prop:=
 qL P g ds (fun v=>K v (bZ o (V.a7 all)) rd) (fun v=>K v [] rd) (fun v=>X v [] rd)
def pY(P:Program)(g:FuncId)(K:KD)(X:XD)(o:Nat->ab)(nx fr:Nat)(all:Fix (List V) (K,X,o,nx)):Prop:=gY P g all o nx fr K X
def pZ(P:Program)(g:FuncId)(K:KD)(X:XD)(o:Nat->ab)(nx fr:Nat)(rd:List Nat)(ds:Fix (List D) (K,X,o,nx,rd))(all:Fix (List V) (K,X,o,nx,rd)):Prop:=HH P g K X o rd ds all\/pY P g K X o nx fr all
def p6(P:Program)(K:KD)(X:XD)(o:Nat->ab)(nx fr:Nat)(rd:List Nat)(g:FuncId)(all:List V)(ds:Fix (Option (List D)) (K,X,o,nx,rd,all)):Prop:=
 match ds with
 |some ds=>pZ P g K X o nx fr rd ds all
 |none=>pY P g K X o nx fr all
@[go_sem] theorem NI {P:Program} {o:Nat->ab} {nx fr:Nat} {rd:List Nat} {ds:List D} {g:FuncId} {all:List V} {K X}:p6 P K X o nx fr rd g all (some ds)=pZ P g K X o nx fr rd ds all:=propext Iff.rfl
@[go_sem] theorem NJ {P:Program} {o:Nat->ab} {nx fr:Nat} {rd:List Nat} {g:FuncId} {all:List V} {K X}:p6 P K X o nx fr rd g all none=pY P g K X o nx fr all:=propext Iff.rfl
def zG(P:Program)(K:KD)(X:XD)(o:Nat->ab)(nx fr:Nat)(rd:Fix (List Nat) (K,X,o,nx))(f:Fix V (K,X,o,nx))(args:Fix (List V) (K,X,o,nx)):Prop:=
 match f with
 | .func (.func g) first cap=>p6 P K X o nx fr rd g (first++args++cap) (bQ o (first++args++cap))
 |_=>False
@[go_sem] theorem QE {P:Program} {o:Nat->ab} {nx fr:Nat} {rd:List Nat} {g:FuncId} {first cap args:List V} {K X}:zG P K X o nx fr rd (.func (.func g) first cap) args=p6 P K X o nx fr rd g (first++args++cap) (bQ o (first++args++cap)):=propext Iff.rfl
def sP(K:KD)(rd:List Nat)(x:Fix (Option eR) (K,rd)):Prop:=match x with|some (v,Δ,_)=>K v Δ rd|none=>False
@[go_sem] theorem QF {v:V} {Δ:List (Nat×ab)} {r rd:List Nat} {K}:sP K rd (some (v,Δ,r))=K v Δ rd:=propext Iff.rfl
@[go_sem] theorem Tw {v:V} {r rd:List Nat} {K}:sP K rd (Tl v r)=K v [] rd:=propext Iff.rfl
def JL(P:Program)(K:KD)(X:XD)(fr:Nat)(o:bI)(s:Fix S (K,X,o)):Prop:=
 match dL o.op with
 |some (f,args)=>zG P K X s.o s.nx fr (m5 s o.op) (s.ev f) (args.map s.ev)
 |none=>sP K (m5 s o.op) (fm P s fr o.op)
def E0(P:Program)(KB:List Nat->Fp->Prop)(pr:List (List Nat))(l:List bI)(fr:Nat)(fp:Fix Fp (KB,l))(bad ws:Fix (List Nat) (KB,l))(s:Fix S (KB,l)):Prop:=gk P KB pr l fr s fp bad ws
def mV(P:Program)(K:S->Fp->Prop)(KP:V->List Nat->Fp->Prop)(pr:List (List Nat))(l:List bI)(fr:Nat)(s:Fix S (K,KP,l))(fp:Fix Fp (K,KP,l)):Prop:=
 match l with
 |[]=>K s fp
 |o::l=>match o.gd with
  |none=>JL P (fun v Δ rd=>mV P K KP pr l (fr+1) ⟨aT s.env o.dst v,put s.o Δ,s.nx⟩ (fp++[(rd,Δ.map (·.1))]))
   (fun v ws rd=>E0 P (KP v) pr l (fr+1) (fp++[(rd,[])]) [fp.length] (ws++fp.flatMap (·.2)) ⟨aT s.env o.dst .aa,s.o,s.nx⟩) fr o s
  |some (d,want)=>iW want (JL P (fun v Δ rd=>mV P K KP pr l (fr+1) ⟨aT s.env o.dst v,put s.o Δ,s.nx⟩ (fp++[(rd,Δ.map (·.1))]))
   (fun v ws rd=>E0 P (KP v) pr l (fr+1) (fp++[(rd,[])]) [fp.length] (ws++fp.flatMap (·.2)) ⟨aT s.env o.dst .aa,s.o,s.nx⟩) fr o s)
   (mV P K KP pr l (fr+1) ⟨aT s.env o.dst (.bP []),s.o,s.nx⟩ (fp++[([],[])])) (s.env d)
def KT(pr:List (List Nat))(nx:Nat)(Q:eK->S->Prop)(s:Fix S Q)(fp:Fix Fp Q):Prop:=BW pr nx Q s fp
def p7(l:List bI)(k:Fix Nat l):Option Nat:=match l with
 |[]=>none
 |o::l=>match o.gd,dL o.op with
  |none,some (.tmp _,_)=>some k
  |_,_=>p7 l (k+1)
def Dg(P:Program)(pr:List (List Nat))(l:List bI)(nx:Nat)(Q:eK->S->Prop)(s:Fix S (P,pr,l,nx,Q))(fp:Fix Fp (P,pr,l,nx,Q)):Prop:=dH pr fp=true/\oK P (fun v s=>Q (.bD v) s) (Q .normal) l ⟨s.env,s.o,nx⟩
def HI(P:Program)(l:List bI)(pr:List (List Nat))(Q:eK->S->Prop)(s:S)(sp:Fix (Option Nat) (P,l,pr,Q,s)):Prop:=match sp with
 |none=>mV P (KT pr (s.nx+l.length) Q) (zy pr l s Q) pr l s.nx s []
 |some m=>m<=l.length/\xe pr m=true/\mV P (Dg P pr (l.drop m) (s.nx+m) Q) (fun _ _ _=>False) pr (l.take m) s.nx s []
def vz(A B:Prop)(v:Fix V (A,B)):Prop:=
 match v with
 | .d (.bool t)=>gK A B t
 | .ey=>A/\B
 |_=>False
@[go_sem] theorem Tx (A B:Prop):vz A B .ey=(A/\B):=propext Iff.rfl
@[go_sem] theorem QG (t:Bool) (A B:Prop):vz A B (.d (.bool t))=gK A B t:=propext Iff.rfl
def Dh{ι:Type}(b:Nat)(st:ι->S)(bB:ι->Prop)(nF:ι->Nat)(i:ι)(s:S):Prop:=∃j,bB j/\nF j<nF i/\bf b s (st j)
def sQ(next:S->Prop)(Q:eK->S->Prop)(e:eK)(s:S):Prop:=match e with| .normal=>next s|e=>Q e s
section
variable {N:S->Prop}{Q:eK->S->Prop}{s:S}
@[go_sem ↓] theorem KU:sQ N Q .normal s=N s:=propext Iff.rfl
@[go_sem ↓] theorem QH {id:Nat}:sQ N Q (.exit id) s=Q (.exit id) s:=propext Iff.rfl
@[go_sem ↓] theorem Ty:sQ N Q .ret s=Q .ret s:=propext Iff.rfl
@[go_sem ↓] theorem Tz {v:V}:sQ N Q (.bD v) s=Q (.bD v) s:=propext Iff.rfl
end
def sR(b:Nat)(body:(eK->S->Prop)->S->Prop)(Q:eK->S->Prop)(s:Fix S (body,Q)):Prop:=
 ∃ (ι:Type) (st:ι->S) (bB:ι->Prop) (nF:ι->Nat) (i0:ι),bB i0/\bf b s (st i0)/\∀i,bB i->body (sQ (Dh b st bB nF i) Q) (st i)
theorem aC{ι:Type}{b:Nat}{body:(eK->S->Prop)->S->Prop}{Q:eK->S->Prop}{s:S}(st:ι->S)(bB:ι->Prop)(nF:ι->Nat)(i0:ι)(h0:bB i0)(hle:bf b s (st i0))
 (h:∀i,bB i->body (sQ (Dh b st bB nF i) Q) (st i)):sR b body Q s:=⟨ι,st,bB,nF,i0,h0,hle,h⟩
def xi(P:Program)(n b:Nat)(rd:Bool)(gop:Operand)(ps:List Nat)(x y:IC)(Q:eK->S->Prop)(s:Fix S (x,y,Q))(g:Fix V (x,y,Q)):Prop:=rd=false/\(ze P n g ps x y Q s\/∃s',bf b s s'/\ze P n (s'.ev gop) ps x y Q s')
def kN(P:Program)(n b:Nat)(rd:Bool)(c:IC)(Q:eK->S->Prop)(s:Fix S (c,Q)):Prop:=
 match c with
 | .skip=>Q .normal s
 | .ae l=>oK P (fun v s=>Q (.bD v) s) (Q .normal) l s
 | .cU l pr=>HI P l pr Q s (p7 l 0)
 | .seq x y=>kN P n b rd x (ox (fun s=>kN P n b rd y Q s) Q) s
 | .cond c x y=>vz (kN P n b rd x Q s) (kN P n b rd y Q s) (s.ev c)
 | .block id x=>kN P n b rd x (ez id Q) s
 | .loop x=>sR b (fun Q s=>kN P n b rd x Q s) Q s
 | .exit id=>Q (.exit id) s
 | .ret=>Q .ret s
 | .El g ps x y=>xi P n b rd g ps x y Q s (s.ev g)
 | .bad=>False
section
variable {P:Program}{n b:Nat}{rd:Bool}
theorem zH{s:S}{f:V}{args:List V}{K K':V->(Nat->ab)->Nat->Prop}{X X':V->(Nat->ab)->Nat->Prop}(hK:∀v o n,K v o n->K' v o n)(hX:∀v o n,X v o n->X' v o n)(h:qM P K X s f args):
 match(generalizing:=false) f with
  | .func (.func g) first cap=>match bQ s.o (first++args++cap)with
    |some ds=>sE P g ds s.o (put s.o (bZ s.o (V.a7 (first++args++cap)))) (put s.o (pG s.o (V.a7 (first++args++cap)))) (fun v o'=>K' v o' (s.nx+1)) (fun v o'=>X' v o' (s.nx+1))\/qG P g (first++args++cap) s.o s.nx K' X'
    |none=>qG P g (first++args++cap) s.o s.nx K' X'
  | .ir id=>dc P id args s.o s.nx K' X'
  |_=>False:=by
 unfold qM l4 vy at h
 split at h
 ·rename_i g first cap
  cases eg:bQ s.o (first++args++cap)with
  |some ds=>
   simp only[eg]at h|-
   rcases h with⟨out,h1,h2|⟨h3,h2⟩|⟨h3,h2⟩⟩|h
   ·exact .inl ⟨out,h1, .inl (by cases out<;>first|exact hK _ _ _ h2|exact hX _ _ _ h2)⟩
   ·exact .inl ⟨out,h1, .inr (.inl ⟨h3,by cases out<;>first|exact hK _ _ _ h2|exact hX _ _ _ h2⟩)⟩
   ·exact .inl ⟨out,h1, .inr (.inr ⟨h3,by cases out<;>first|exact hK _ _ _ h2|exact hX _ _ _ h2⟩)⟩
   ·exact .inr (m6.mono hK hX h)
  |none=>
   simp only[eg]at h|-
   exact m6.mono hK hX h
 ·exact dc.mono hK hX h
 ·exact h.elim
theorem vA{x:Option eR}{K:V->List (Nat×ab)->Prop}(h:jA K x):∃v Δ rd,x=some (v,Δ,rd)/\K v Δ:=by
 unfold jA at h;split at h
 ·exact⟨_,_,_,rfl,h⟩
 ·exact h.elim
theorem xj{s:S}{o:bI}{X X':V->S->Prop}{K K':S->Prop}(hK:∀s,K s->K' s)(hX:∀v s,X v s->X' v s)(h:zF P X K o s):F4 P s o X' K':=by
 unfold zF at h
 unfold F4
 have hs:∀ {op:Op},(jA (fun v Δ=>K ⟨aT s.env o.dst v,put s.o Δ,s.nx+1⟩) (fm P s s.nx op))->(match fm P s s.nx op with|some (v,Δ,_)=>K' ⟨aT s.env o.dst v,put s.o Δ,s.nx+1⟩|none=>False):=by
  intro op h
  obtain⟨v,Δ,rd,he,h⟩:=vA h
  simp only[he];exact hK _ h
 split at h
 ·rename_i x str hx
  rw[hx]
  unfold HG at h
  simp only
  split at h
  ·rename_i id l hl
   simp only[hl]
   exact⟨h.1,fun e=>hK _ (h.2.1 e),fun i k x e=>hK _ (h.2.2 i k x e)⟩
  ·rename_i hl
   simp only[hl]
   exact hs (op:= .next x str) h
 ·rename_i c hc
  simp only[hc]
  split at h
  ·rename_i f hf
   simp only[hf]
   exact zH (K:=fun v o' nx'=>K ⟨aT s.env o.dst v,o',nx'⟩) (X:=fun v o' nx'=>X v ⟨s.env,o',nx'⟩) (fun v o n h=>hK _ h) (fun v o n h=>hX _ _ h) h
  ·rename_i r m hf
   simp only[hf]
   unfold HE at h
   split at h
   ·rename_i g y hr
    simp only[hr]
    unfold zE at h
    split at h
    ·rename_i ds eg
     obtain⟨out,h1,h2⟩:=h
     refine .inl ⟨ds,eg,out,h1, ?_⟩
     rcases h2 with h2|⟨h3,h2⟩|⟨h3,h2⟩
     ·exact .inl (by cases out<;>first|exact hK _ h2|exact hX _ _ h2)
     ·exact .inr (.inl ⟨h3,by cases out<;>first|exact hK _ h2|exact hX _ _ h2⟩)
     ·exact .inr (.inr ⟨h3,by cases out<;>first|exact hK _ h2|exact hX _ _ h2⟩)
    ·exact h.elim
   ·exact h.elim
  ·rename_i hf hi
   rw[hc]at h
   obtain⟨Hd,args,ts⟩:=c
   cases Hd with
   |value f=>exact absurd rfl (hf f)
   |invoke r m=>exact absurd rfl (hi r m)
   |_=>exact hs h
 ·rename_i x hx
  simp only[hx]
  unfold EZ at h
  split at h
  ·rename_i hv;simp only[hv];exact hX _ _ h
  ·rename_i hv;simp only[hv];exact hX _ _ h
  ·exact h.elim
 ·rename_i ud hc hp
  have h2:=hs h
  cases hh:o.op<;>first
   |exact absurd hh (hc _)
   |exact absurd hh (hp _)
   |exact absurd hh (ud _ _)
   |(rw[hh]at h2;exact h2)
theorem HJ{s:S}{o:bI}{X:V->S->Prop}{K:S->Prop}(hp:jM o.op=true){v:V}{Δ:List (Nat×ab)}{rd:List Nat}(he:fm P s s.nx o.op=some (v,Δ,rd))(h:K ⟨aT s.env o.dst v,put s.o Δ,s.nx+1⟩):F4 P s o X K:=by
 unfold F4
 split
 ·rename_i c hc
  split
  ·rename_i f hf;rw[hc]at hp;simp[jM,hf]at hp
  ·rename_i r m hf;rw[hc]at hp;simp[jM,hf]at hp
  ·rw[he];exact h
 ·rename_i x hx;rw[hx]at hp;simp[jM]at hp
 ·rename_i x str hx;rw[hx]at hp;simp[jM]at hp
 ·rw[he];exact h
theorem p8{X X':V->S->Prop}{K K':S->Prop}(hK:∀s,K s->K' s)(hX:∀v s,X v s->X' v s):∀ (l:List bI) (s:S),oK P X K l s->nD P X' K' l s
 |[],s,h=>hK _ h
 |o::l,s,h=>by
  have ih:=p8 hK hX l
  unfold oK at h
  unfold nD
  cases hg:o.gd with
  |none=>
   simp only[hg]at h|-
   exact xj ih hX h
  |some p=>
   obtain⟨d,want⟩:=p
   simp only[hg]at h|-
   unfold xh at h
   split at h
   ·exact h.elim
   ·rename_i c hc
    have ZJ:∀ {A B:Prop},(c=true->A)->(c=false->B)->(match s.env d with
     | .d (.bool b)=>if b=want then A else B
     | .bP []=>B
     |_=>False):=by
     intro A B hA hB
     generalize s.env d=v at hc
     unfold kZ at hc
     split at hc
     ·rename_i b
      injection hc with hc
      split
      ·rename_i e;exact hA (by rw[<- hc];simp[e])
      ·rename_i e;exact hB (by rw[<- hc];simp[e])
     ·injection hc with hc
      exact hB hc.symm
     ·cases hc
    split at h
    ·rename_i f args F5
     rcases h with h|h
     case inr=>exact ZJ (fun NK=>xj ih hX (h.1 NK)) (fun QI=>ih _ (h.2 QI))
     obtain⟨rs,h1,h2⟩:=h
     refine ZJ (fun NK=> ?_) (fun QI=> ?_)
     ·unfold dL at F5
      split at F5
      ·rename_i c' EH
       split at F5
       ·rename_i f' jG
        injection F5 with F5;injection F5 with e1 e2;subst e1;subst e2
        have om:=h1 NK
        unfold F4
        simp only[EH,jG]
        unfold zC at om
        split at om
        ·rename_i g first cap ui
         simp only[ui]
         split at om
         ·rename_i ds eg
          simp only[eg]
          refine .inl ⟨.ret rs,om.1, .inr (.inl ⟨om.2, ?_⟩)⟩
          refine ih _ ?_
          rw[NK]at h2
          exact h2
         ·exact om.elim
        ·exact om.elim
       ·cases F5
      ·cases F5
     ·refine ih _ ?_
      rw[QI]at h2
      exact h2
    ·split at h
     ·rename_i hp
      obtain⟨v,Δ,rd,he,h⟩:=vA h
      refine ZJ (fun NK=> ?_) (fun QI=> ?_)
      ·rw[NK]at he
       simp only[jL,if_true]at he
       split at he
       ·rename_i v' rE nM
        injection he with he;injection he with e1 e2;subst e1
        exact HJ hp nM (ih _ h)
       ·cases he
      ·rw[QI]at he
       simp only[jL]at he
       injection he with he;injection he with e1 e2;subst e1
       exact ih _ h
     ·exact ZJ (fun NK=>xj ih hX (h.1 NK)) (fun QI=>ih _ (h.2 QI))
theorem xk{op:Op}{f:Operand}{args:List Operand}(h:dL op=some (f,args)):∃c,op= .call c/\c.callee= .value f/\c.args.toList=args:=by
 unfold dL at h
 split at h
 ·rename_i c
  split at h
  ·rename_i f' jG
   injection h with h;injection h with e1 e2;subst e1;subst e2
   exact⟨c,rfl,jG,rfl⟩
  ·cases h
 ·cases h
theorem E1{x:Option eR}{rd:List Nat}{K:KD}(h:sP K rd x):∃v Δ r,x=some (v,Δ,r)/\K v Δ rd:=by
 unfold sP at h;split at h
 ·exact⟨_,_,_,rfl,h⟩
 ·exact h.elim
theorem gY.mono {P:Program}{g:FuncId}{args:List V}{o:Nat->ab}{nx fr:Nat}{K K':KD}{X X':XD}(hK:∀v Δ r,K v Δ r->K' v Δ r)(hX:∀v w r,X v w r->X' v w r)(h:gY P g args o nx fr K X):gY P g args o nx fr K' X':=by
 obtain⟨rd,Δ,h1,⟨rs,h2,h3⟩|⟨x,h2,h3⟩|⟨v,h2,h3⟩⟩:=h
 ·exact⟨rd,Δ,h1, .inl ⟨rs,h2,hK _ _ _ h3⟩⟩
 ·exact⟨rd,Δ,h1, .inr (.inl ⟨x,h2,hX _ _ _ h3⟩)⟩
 ·exact⟨rd,Δ,h1, .inr (.inr ⟨v,h2,hK _ _ _ h3⟩)⟩
theorem qL.mono {P:Program}{g:FuncId}{ds:List D}{Kf Kb KX Kf' Kb' KX':V->Prop}(h1:∀v,Kf v->Kf' v)(h2:∀v,Kb v->Kb' v)(h3:∀v,KX v->KX' v)(h:qL P g ds Kf Kb KX):qL P g ds Kf' Kb' KX':=by
 rcases h with⟨rs,a,b|⟨b,c⟩⟩|⟨x,a,b,c⟩|⟨v,a,b⟩
 ·exact .inl ⟨rs,a, .inl (h1 _ b)⟩
 ·exact .inl ⟨rs,a, .inr ⟨b,h2 _ c⟩⟩
 ·exact .inr (.inl ⟨x,a,b,h3 _ c⟩)
 ·exact .inr (.inr ⟨v,a,h1 _ b⟩)
theorem Di{s:S}{fr:Nat}{o:bI}{K K':KD}{X X':XD}(hK:∀v Δ r,K v Δ r->K' v Δ r)(hX:∀v w r,X v w r->X' v w r)(h:JL P K X fr o s):ya P s fr o K' X':=by
 unfold JL at h
 split at h
 ·rename_i f args F5
  obtain⟨c,h1,h2,h3⟩:=xk F5
  subst h3
  unfold ya
  simp only[h1,h2]
  unfold zG p6 at h
  split at h
  ·rename_i g first cap hf
   simp only[hf]
   split at h
   ·rename_i ds eg
    simp only[eg]
    refine h.elim (fun h=> .inl ?_) (fun h=> .inr (gY.mono hK hX h))
    refine qL.mono (fun v h=> ?_) (fun v h=> ?_) (fun v h=> ?_) h<;>(rw[h1]at h)
    ·exact hK _ _ _ h
    ·exact hK _ _ _ h
    ·exact hX _ _ _ h
   ·rename_i eg
    simp only[eg]
    exact gY.mono hK hX h
  ·exact h.elim
 ·rename_i F5
  obtain⟨v,Δ,rd,he,h⟩:=E1 h
  unfold ya
  split
  ·rename_i c hc
   split
   ·rename_i f hf
    exact absurd F5 (by simp[dL,hc,hf])
   ·simp only[he];exact hK _ _ _ h
  ·simp only[he];exact hK _ _ _ h
theorem zI{s:S}{fr:Nat}{o:bI}{K K':KD}{X X':XD}(hK:∀v Δ r,K v Δ r->K' v Δ r)(hX:∀v w r,X v w r->X' v w r)(h:ya P s fr o K X):ya P s fr o K' X':=by
 unfold ya at h|-
 split at h
 ·rename_i c hc
  rw[hc]at h|-
  split at h
  ·rename_i f hf
   (try simp only[hf])
   split at h
   ·rename_i ui
    (try simp only[ui])
    split at h
    ·exact h.elim (fun h=> .inl (qL.mono (fun v h=>hK _ _ _ h) (fun v h=>hK _ _ _ h) (fun v h=>hX _ _ _ h) h)) (fun h=> .inr (gY.mono hK hX h))
    ·exact gY.mono hK hX h
   ·exact h.elim
  ·rename_i hf
   split at h
   ·rename_i he
    (try simp only[he])
    exact hK _ _ _ h
   ·exact h.elim
 ·split at h
  ·rename_i he
   (try simp only[he]);exact hK _ _ _ h
  ·exact h.elim
theorem iD{KB KB':List Nat->Fp->Prop}{pr:List (List Nat)}(hK:∀l fp,KB l fp->KB' l fp):∀ (l:List bI) (fr:Nat) (s:S) (fp:Fp) (bad ws:List Nat),gk P KB pr l fr s fp bad ws->gk P KB' pr l fr s fp bad ws
 |[],_,_,_,_,_,h=>hK _ _ h
 |o::l,fr,s,fp,bad,ws,h=>by
  unfold gk at h|-
  split
  ·rename_i hb
   rw[if_pos hb]at h
   exact iD hK l _ _ _ _ _ h
  ·rename_i hb
   rw[if_neg hb]at h
   split at h
   ·exact zI (fun v Δ r h=>iD hK l _ _ _ _ _ h) (fun _ _ _ h=>h) h
   ·split at h
    ·split at h
     ·rename_i e;simp only[e,if_true]
      exact zI (fun v Δ r h=>iD hK l _ _ _ _ _ h) (fun _ _ _ h=>h) h
     ·rename_i e;simp only[e,if_false]
      exact iD hK l _ _ _ _ _ h
    ·exact iD hK l _ _ _ _ _ h
    ·exact h.elim
theorem iE{K K':S->Fp->Prop}{KP KP':V->List Nat->Fp->Prop}{pr:List (List Nat)}(hK:∀s fp,K s fp->K' s fp)(hP:∀v l fp,KP v l fp->KP' v l fp):∀ (l:List bI) (fr:Nat) (s:S) (fp:Fp),mV P K KP pr l fr s fp->jK P K' KP' pr l fr s fp
 |[],_,_,_,h=>hK _ _ h
 |o::l,fr,s,fp,h=>by
  have hB:∀v ws (rdl:List Nat),E0 P (KP v) pr l (fr+1) (fp++[(rdl,[])]) [fp.length] (ws++fp.flatMap (·.2)) ⟨aT s.env o.dst .aa,s.o,s.nx⟩->
   gk P (KP' v) pr l (fr+1) ⟨aT s.env o.dst .aa,s.o,s.nx⟩ (fp++[(rdl,[])]) [fp.length] (ws++fp.flatMap (·.2)):=fun v ws rdl h=>iD (fun a b h=>hP v a b h) l _ _ _ _ _ h
  unfold mV at h
  unfold jK
  split at h
  ·rename_i hg
   (try simp only[hg])
   exact Di (fun v Δ r h=>iE hK hP l _ _ _ h) hB h
  ·rename_i d want hg
   (try simp only[hg])
   generalize s.env d=v at h
   unfold iW at h
   split at h
   ·rename_i bb
    by_cases e:bb=want
    ·subst e
     simp only[if_true]
     exact Di (fun v Δ r h=>iE hK hP l _ _ _ h) hB (h.1 aK)
    ·simp only[if_neg e]
     exact iE hK hP l _ _ _ (h.2 (by simpa using e))
   ·exact iE hK hP l _ _ _ h
   ·exact h.elim
theorem eL:∀ (c:IC) (Q Q':eK->S->Prop) (s:S),(∀e s,Q e s->Q' e s)->kN P n b rd c Q s->rJ P n b rd c Q' s
 | .skip,_,_,_,hQ,h=>hQ _ _ h
 | .ae l,_,_,_,hQ,h=>p8 (fun s h=>hQ _ _ h) (fun v s h=>hQ _ _ h) l _ h
 | .cU l pr,_,_,_,hQ,h=>by
   unfold kN at h
   generalize p7 l 0=sp at h
   cases sp with
   |none=>exact .inl (iE (fun s fp h=>⟨h.1,hQ _ _ h.2⟩) (fun v l fp h=>⟨h.1,hQ _ _ h.2⟩) l _ _ _ h)
   |some m=>exact .inr ⟨m,h.1,h.2.1,iE (fun s fp h=>⟨h.1,p8 (fun s h=>hQ _ _ h) (fun v s h=>hQ _ _ h) _ _ h.2⟩) (fun v l fp h=>h.elim) _ _ _ _ h.2.2⟩
 | .seq x y,Q,Q',s,hQ,h=>eL x _ _ s (fun e s h=>by
  unfold ox at h|-
  cases e with
  |normal=>exact eL y _ _ s hQ h
  |_=>exact hQ _ _ h) h
 | .cond c x y,Q,Q',s,hQ,h=>by
   unfold kN vz gK at h
   unfold rJ
   split at h
   ·rename_i t ht
    simp only[ht]
    exact⟨fun e=>eL x _ _ s hQ (h.1 e),fun e=>eL y _ _ s hQ (h.2 e)⟩
   ·rename_i ht
    simp only[ht]
    exact⟨eL x _ _ s hQ h.1,eL y _ _ s hQ h.2⟩
   ·exact h.elim
 | .block id x,Q,Q',s,hQ,h=>eL x _ _ s (fun e s h=>by
  unfold ez at h|-
  cases e with
  |exit j=>
   simp only at h|-
   split
   ·rename_i e;rw[if_pos e]at h;exact hQ _ _ h
   ·rename_i e;rw[if_neg e]at h;exact hQ _ _ h
  |_=>exact hQ _ _ h) h
 | .loop x,Q,Q',s,hQ,h=>by
   obtain⟨ι,st,bB,nF,i0,h0,hle,h2⟩:=h
   refine⟨fun m s=>∃i,bB i/\nF i=m/\s=st i,⟨nF i0,st i0,hle,i0,h0,rfl,rfl⟩, ?_⟩
   rintro m s0 ⟨i,hg,rfl,rfl⟩
   refine eL x _ _ _ (fun e s h=> ?_) (h2 i hg)
   cases e with
   |normal=>
    obtain⟨j,k1,k2,k3⟩:=h
    exact⟨nF j,st j,k2,k3,j,k1,rfl,rfl⟩
   |_=>exact hQ _ _ h
 | .exit id,_,_,_,hQ,h=>hQ _ _ h
 | .ret,_,_,_,hQ,h=>hQ _ _ h
 | .El g ps x y,_,_,_,hQ,h=>⟨h.1,match h.2 with
   | .inl h=>⟨_, .inl rfl,pX hQ h⟩
   | .inr ⟨s',hle,h⟩=>⟨s', .inr hle,pX hQ h⟩⟩
 | .bad,_,_,_,_,h=>h.elim
end
theorem aR.aG {P:Program}(aZ:P.follows .mixedOrders=true){f:FuncId}{n:Nat}{ic:IC}{rs:List ResultVar}{ds:List D}{out:R}(hf:aF P f n ic rs)(hl:ds.length<=n)
 (h:kN P n 0 false ic (BD P rs out) ⟨ct (ds.map .d),fun _=> .no,0⟩):aR P f ds out:=
 aR.sN aZ hf hl (eL ic _ _ _ (fun _ _ h=>h) h)
def HK(P:Program)(rs:List ResultVar)(K X:V->(Nat->ab)->Nat->Prop)(e:eK)(s:S):Prop:=kJ P rs K X e s
theorem cZ.aG {P:Program}(aZ:P.follows .mixedOrders=true){f:FuncId}{n:Nat}{ic:IC}{rs:List ResultVar}{args:List V}{o:Nat->ab}{nx:Nat}{K X:V->(Nat->ab)->Nat->Prop}(hf:aF P f n ic rs)(hl:args.length<=n)
 (h:kN P n nx false ic (HK P rs K X) ⟨ct args,o,nx⟩):cZ P f args o nx K X:=
 cZ.sN aZ hf hl (eL ic _ _ _ (fun _ _ h=>h) h)
section
variable {P:Program}{g:FuncId}{ds:List D}{o:Nat->ab}{nx:Nat}{K X:V->(Nat->ab)->Nat->Prop}{all:List V}
theorem aD{rs:List D}(h:aR P g ds (.ret rs))(hf:D.iS rs=true)(hk:K (iu rs) o (nx+1)):sO P g o nx K X ds all:= .inl ⟨.ret rs,h, .inr (.inl ⟨hf,hk⟩)⟩
theorem bz{rs:List D}(h:aR P g ds (.ret rs))(hk:K (iu rs) (put o (bZ o (V.a7 all))) (nx+1)):sO P g o nx K X ds all:= .inl ⟨.ret rs,h, .inl hk⟩
theorem fh(h:cZ P g all o nx K X):sO P g o nx K X ds all:= .inr (.inl h)
theorem fi{e:Nat->V}{ds:Option (List D)}(h:cZ P g all o nx K X):l4 P g K X ⟨e,o,nx⟩ all ds:=by
 cases ds with
 |some ds=>exact(.inr (.inl h):sO P g o nx K X ds all)
 |none=>exact(.inl h:zD P g nx K X all o)
theorem br(h:cZ P g all o nx K X):zD P g nx K X all o:= .inl h
variable {K:KD}{X:XD}{rd:List Nat}{fr:Nat}
theorem aQ{rs:List D}(h:aR P g ds (.ret rs))(hf:D.iS rs=true)(hk:K (iu rs) [] rd):pZ P g K X o nx fr rd ds all:= .inl (.inl ⟨rs,h, .inr ⟨hf,hk⟩⟩)
theorem cW{rs:List D}(h:aR P g ds (.ret rs))(hk:K (iu rs) (bZ o (V.a7 all)) rd):pZ P g K X o nx fr rd ds all:= .inl (.inl ⟨rs,h, .inl hk⟩)
theorem p9{v:V}{rE:List Nat}{Δ:List (Nat×ab)}(mP:rE.all (fun id=>decide (id<nx))=true)(h:w7 P g all rE o fr v Δ)(hk:K v Δ rE):pZ P g K X o nx fr rd ds all:= .inr ⟨rE,Δ,mP, .inr (.inr ⟨v,h,hk⟩)⟩
end
theorem dX{P:Program}{f:V}{args:List V}{o:Nat->ab}{K:V->Prop}{c:Bool}(rs:List D)(h:kY c (zC P f args o rs))(hk:K (V.xg c (iu rs))):De P f args o K c:=⟨rs,h,hk⟩
theorem ai{t:Bool}{A B:Prop}(h:t=true->A)(h2:t=false->B):gK A B t:=⟨h,h2⟩
theorem aO{pr:List (List Nat)}{nx:Nat}{Q:eK->S->Prop}{s:S}{fp:List (List Nat×List Nat)}(h:dH pr fp=true)(h2:Q .normal ⟨s.env,s.o,nx⟩):KT pr nx Q s fp:=⟨h,h2⟩
@[go_sem] theorem Wk (o:Nat->ab):put o []=o:=rfl
@[go_sem] theorem TA (o:Nat->ab) (x:Nat×ab) (l:List (Nat×ab)):put o (x::l)=put (aA o x.1 x.2) l:=rfl
@[go_sem] theorem ad {α:Type} (f:Nat->α) (i:Nat) (x:α):aA f i x i=x:=aK
@[go_sem] theorem af {α:Type} (f:Nat->α) (i j:Nat) (x:α) (h:j≠i):aA f i x j=f j:=by simp[h]
@[go_sem] theorem KW (v:V) (l:List V):ct (v::l) 0=v:=rfl
@[go_sem] theorem KY (v:V) (l:List V) (i:Nat):ct (v::l) (i+1)=ct l i:=rfl
@[go_sem] theorem NL (i:Nat):ct [] i= .bP []:=by simp[ct]
@[go_sem] theorem TC {P:Program} {o:Nat->ab} {t:TypeId} {id off:Nat}:lU P o t (.ptr id off)=match o id with
 | .row cs=>match dS P t cs off with
   |some v=>some (v,[],[id])
   |none=>none
 |_=>none:=by unfold lU;exact Eq.trans rfl rfl
@[go_sem] theorem Wl {P:Program} {o:Nat->ab} {t:TypeId} {cs:List D} {off:Nat}:lU P o t (.pp cs off)=match dS P t (cs.map .d) off with
 |some v=>some (v,[],[])
 |none=>none:=by unfold lU;exact Eq.trans rfl rfl
@[go_sem] theorem Wm {P:Program} {o:Nat->ab} {t:TypeId} {id ep i sz off:Nat}:lU P o t (.pe id ep i sz off)=match o id with
 | .arr gG _ py es=>if ep=gG/\sz=py then match es[i]? with
  |some e=>match dS P t (e.cells.map .d) off with
   |some v=>some (v,[],[id])
   |none=>none
  |none=>none
   else none
 |_=>none:=by unfold lU;exact Eq.trans rfl rfl
section
variable {P:Program}{o:Nat->ab}{t:TypeId}{op:BinOp}{mS:Bool}
@[go_sem] theorem TD {k:IntKind} {a b:Int}:ew P o op t mS (.d (.int k a)) (.d (.int k b))=match zh op k a b with
 |some v=>one v
 |none=>pL P o op t mS (.d (.int k a)) (.d (.int k b)):=by
  simp only[ew,wS,if_true]
  cases zh op k a b<;>rfl
@[go_sem] theorem TE {a b:Bool} (h:kK P t=true):ew P o .eql t mS (.d (.bool a)) (.d (.bool b))=one (.d (.bool (a==b))):=by simp only[ew,wS,Hq,h,if_true]
@[go_sem] theorem TF {a b:Bool} (h:kK P t=true):ew P o .neq t mS (.d (.bool a)) (.d (.bool b))=one (.d (.bool (a !=b))):=by simp only[ew,wS,Hq,h,if_true]
@[go_sem] theorem TG {a b:List UInt8}:ew P o .eql t mS (.d (.str a)) (.d (.str b))=one (.d (.bool (a==b))):=Gz
@[go_sem] theorem TH {a b:List UInt8}:ew P o .neq t mS (.d (.str a)) (.d (.str b))=one (.d (.bool (a !=b))):=Gz
@[go_sem] theorem TI {a b:List D}:ew P o op t mS (.d (.agg a)) (.d (.agg b))=pL P o op t mS (.d (.agg a)) (.d (.agg b)):=Gz
theorem J4{x:V}{y:V}(h:match y with| .d (.int _ _)| .d (.bool _)| .d (.str _)=>False|_=>True):wS P op t x y=none:=by
 unfold wS
 split<;>first|exact h.elim|rfl
@[go_sem] theorem QJ {x:V}:ew P o op t mS x .a8=pL P o op t mS x .a8:=Gl
@[go_sem] theorem QK {x:V}:ew P o op t mS x (.d .fP)=pL P o op t mS x (.d .fP):=Gl
@[go_sem] theorem QL {x:V}:ew P o op t mS x (.d .lp)=pL P o op t mS x (.d .lp):=Gl
@[go_sem] theorem QM {x:V}:ew P o op t mS x (.d .bV)=pL P o op t mS x (.d .bV):=Gl
@[go_sem] theorem QN {x:V}:ew P o op t mS x (.d .gE)=pL P o op t mS x (.d .gE):=Gl
@[go_sem] theorem Wn {b:Bool}:Ei .not (.d (.bool b))=some (.d (.bool !b)):=GD
@[go_sem] theorem Wo:Ei .not .ey=some .ey:=GD
@[go_sem] theorem Wp {k:IntKind} {n:Int}:Ei .neg (.d (.int k n))=some (.d (.int k (k.wrap (-n)))):=GD
end
@[go_sem] theorem D.TJ (cs:List D):(D.agg cs).cells=cs:=rfl
@[go_sem] theorem D.TK (k:IntKind) (n:Int):(D.int k n).cells=[.int k n]:=rfl
@[go_sem] theorem D.QO (b:Bool):(D.bool b).cells=[.bool b]:=rfl
@[go_sem] theorem D.TL (b:List UInt8):(D.str b).cells=[.str b]:=rfl
@[go_sem] theorem D.Wq (b:List D):(D.sl b).cells=[.sl b]:=rfl
@[go_sem] theorem D.Wr (a b:List D):(D.mp a b).cells=[.mp a b]:=rfl
@[go_sem] theorem D.NM (t:TypeId) (x:D):(D.iface t x).cells=[.iface t x]:=rfl
@[go_sem] theorem D.QP:D.fP.cells=[.fP]:=rfl
@[go_sem] theorem D.QQ:D.lp.cells=[.lp]:=rfl
@[go_sem] theorem D.QR:D.bV.cells=[.bV]:=rfl
@[go_sem] theorem D.QS:D.gE.cells=[.gE]:=rfl
attribute [go_sem] V.ofConst V.cP zh Hq oF BJ vm nh fZ gf pT fe kL oG oH oI wT iB Hr kH dp bQ dS wA qv nW V.cells D.put bZ V.ids V.a7 iu D.iS D.flat R.flat
attribute [go_sem] wz List.take_succ_cons List.take_zero List.take_nil List.drop_zero List.drop_succ_cons List.drop_nil
attribute [go_sem] List.map_cons List.map_nil List.length_cons List.length_nil List.cons_append List.nil_append List.append_nil List.getElem?_cons_zero List.getElem?_cons_succ Option.bind_some Option.bind_none Option.map_some Option.map_none ab.bW ab.bT
section
variable {P:Program}{n b:Nat}{rd:Bool}{Q:eK->S->Prop}{s:S}
@[go_sem] theorem Ws:kN P n b rd .skip Q s=Q .normal s:=propext Iff.rfl
@[go_sem] theorem ZK {l:List bI}:kN P n b rd (.ae l) Q s=oK P (fun v s=>Q (.bD v) s) (Q .normal) l s:=propext Iff.rfl
@[go_sem] theorem ZL {l:List bI} {pr:List (List Nat)}:kN P n b rd (.cU l pr) Q s=HI P l pr Q s (p7 l 0):=propext Iff.rfl
@[go_sem] theorem TM {l:List bI} {pr:List (List Nat)}:HI P l pr Q s none=mV P (KT pr (s.nx+l.length) Q) (zy pr l s Q) pr l s.nx s []:=propext Iff.rfl
theorem B0{l:List bI}{pr:List (List Nat)}{m:Nat}(h1:m<=l.length)(h2:xe pr m=true)(h3:mV P (Dg P pr (l.drop m) (s.nx+m) Q) (fun _ _ _=>False) pr (l.take m) s.nx s []):HI P l pr Q s (some m):=⟨h1,h2,h3⟩
theorem l5{pr:List (List Nat)}{l:List bI}{nx:Nat}{fp:Fp}(h:dH pr fp=true)(h2:oK P (fun v s=>Q (.bD v) s) (Q .normal) l ⟨s.env,s.o,nx⟩):Dg P pr l nx Q s fp:=⟨h,h2⟩
@[go_sem] theorem Wt {k:Nat}:p7 [] k=none:=rfl
@[go_sem] theorem Wu {d:Option Nat} {t:Nat} {args:Array Operand} {ts:Array TypeId} {l:List bI} {k:Nat}:p7 (⟨d, .call ⟨.value (.tmp t),args,ts⟩,none⟩::l) k=some k:=rfl
@[go_sem] theorem ZM {d:Option Nat} {op:Op} {g:Nat×Bool} {l:List bI} {k:Nat}:p7 (⟨d,op,some g⟩::l) k=p7 l (k+1):=rfl
@[go_sem] theorem Wv {d:Option Nat} {f:Nat} {args:Array Operand} {ts:Array TypeId} {l:List bI} {k:Nat}:p7 (⟨d, .call ⟨.value (.func f),args,ts⟩,none⟩::l) k=p7 l (k+1):=rfl
@[go_sem] theorem ZN {d:Option Nat} {op:Op} {l:List bI} {k:Nat} (h:dL op=none):p7 (⟨d,op,none⟩::l) k=p7 l (k+1):=by rw[p7.eq_2];simp only[h]
@[go_sem] theorem ZO {x y:IC}:kN P n b rd (.seq x y) Q s=kN P n b rd x (ox (fun s=>kN P n b rd y Q s) Q) s:=propext Iff.rfl
@[go_sem] theorem Ww {c:Operand} {x y:IC}:kN P n b rd (.cond c x y) Q s=vz (kN P n b rd x Q s) (kN P n b rd y Q s) (s.ev c):=propext Iff.rfl
@[go_sem] theorem TN {id:Nat} {x:IC}:kN P n b rd (.block id x) Q s=kN P n b rd x (ez id Q) s:=propext Iff.rfl
@[go_sem] theorem Wx {x:IC}:kN P n b rd (.loop x) Q s=sR b (fun Q s=>kN P n b rd x Q s) Q s:=propext Iff.rfl
@[go_sem] theorem Wy {id:Nat}:kN P n b rd (.exit id) Q s=Q (.exit id) s:=propext Iff.rfl
@[go_sem] theorem ZP:kN P n b rd .ret Q s=Q .ret s:=propext Iff.rfl
@[go_sem] theorem ZQ {g:Operand} {ps:List Nat} {x y:IC}:kN P n b rd (.El g ps x y) Q s=xi P n b rd g ps x y Q s (s.ev g):=propext Iff.rfl
@[go_sem] theorem Wz {X:V->S->Prop} {K:S->Prop}:oK P X K [] s=K s:=propext Iff.rfl
@[go_sem] theorem TO {X:V->S->Prop} {K:S->Prop} {d:Option Nat} {op:Op} {l:List bI}:oK P X K (⟨d,op,none⟩::l) s=zF P X (oK P X K l) ⟨d,op,none⟩ s:=propext Iff.rfl
@[go_sem] theorem TP {X:V->S->Prop} {K:S->Prop} {d:Option Nat} {op:Op} {g:Nat} {w:Bool} {l:List bI}:oK P X K (⟨d,op,some (g,w)⟩::l) s=xh P X (oK P X K l) ⟨d,op,some (g,w)⟩ s (kZ (s.env g) w):=propext Iff.rfl
variable {X:V->S->Prop}{K:S->Prop}{d:Option Nat}{op:Op}{g:Option (Nat×Bool)}{f:Operand}{args:Array Operand}{ts:Array TypeId}{c:Bool}
@[reducible] def TQ:Op->Bool
  | .call c=>match c.callee with
    | .value _=>true
    | .invoke .. =>true
    |_=>false
  | .panic _=>true
  | .next .. =>true
  |_=>false
@[go_sem] theorem aaP (h:TQ op=false):zF P X K ⟨d,op,g⟩ s=jA (fun v Δ=>K ⟨aT s.env d v,put s.o Δ,s.nx+1⟩) (fm P s s.nx op):=by
  unfold zF
  cases op with
  |call c=>
   obtain⟨Hd,args,ts⟩:=c
   cases Hd with
   |value f=>simp[TQ]at h
   |invoke r m=>simp[TQ]at h
   |_=>rfl
  |panic x=>simp[TQ]at h
  |next x str=>simp[TQ]at h
  |_=>rfl
@[go_sem] theorem WA {x:Operand} {str:Bool}:zF P X K ⟨d, .next x str,g⟩ s=HG (fun v Δ=>K ⟨aT s.env d v,put s.o Δ,s.nx+1⟩) str (na s.o (s.ev x) str) (nb s.o (s.ev x)):=propext Iff.rfl
@[go_sem] theorem WB:zF P X K ⟨d, .call ⟨.value f,args,ts⟩,g⟩ s=qM P (fun v o' nx'=>K ⟨aT s.env d v,o',nx'⟩) (fun v o' nx'=>X v ⟨s.env,o',nx'⟩) s (s.ev f) (args.toList.map s.ev):=propext Iff.rfl
@[go_sem] theorem QT {m:String}:zF P X K ⟨d, .call ⟨.invoke f m,args,ts⟩,g⟩ s=HE P (fun v o' nx'=>K ⟨aT s.env d v,o',nx'⟩) (fun v o' nx'=>X v ⟨s.env,o',nx'⟩) s (args.toList.map s.ev) (sw P m (s.ev f)):=propext Iff.rfl
@[go_sem] theorem TR:zF P X K ⟨d, .panic f,g⟩ s=EZ (fun v=>X v s) (s.ev f):=propext Iff.rfl
@[go_sem] theorem TS:xh P X K ⟨d, .call ⟨.value f,args,ts⟩,g⟩ s (some c)=BZ P X K ⟨d, .call ⟨.value f,args,ts⟩,g⟩ s f args.toList c:=propext Iff.rfl
theorem eT{e:Nat->V}{ob:Nat->ab}{nx:Nat}(h:De P ((⟨e,ob,nx⟩:S).ev f) (args.toList.map (⟨e,ob,nx⟩:S).ev) ob (fun v=>K ⟨aT e d v,ob,nx+1⟩) c):BZ P X K ⟨d,op,g⟩ ⟨e,ob,nx⟩ f args.toList c:= .inl h
theorem zJ{s:S}{o:bI}{l:List Operand}(h:gK (zF P X K o s) (K ⟨aT s.env o.dst (.bP []),s.o,s.nx+1⟩) c):BZ P X K o s f l c:= .inr h
@[go_sem] theorem TT (h:jM op=true):xh P X K ⟨d,op,g⟩ s (some c)=jA (fun v _=>K ⟨aT s.env d v,s.o,s.nx+1⟩) (jL c (fm P s s.nx op)):=by
  have h2:dL op=none:=by
   cases hc:dL op with
   |none=>rfl
   |some x=>
    exfalso
    unfold dL at hc
    split at hc
    ·split at hc
     ·rename_i hv;simp[jM,hv]at h
     ·cases hc
    ·cases hc
  simp only[xh,h2,h,if_true]
@[go_sem] theorem TU (h:jM op=false) (h2:dL op=none):xh P X K ⟨d,op,g⟩ s (some c)=gK (zF P X K ⟨d,op,g⟩ s) (K ⟨aT s.env d (.bP []),s.o,s.nx+1⟩) c:=by
  simp[xh,h2,h]
@[go_sem] theorem QU {l:List Operand}:BZ P X K ⟨d,op,g⟩ s f l false=K ⟨aT s.env d (.bP []),s.o,s.nx+1⟩:=by
  refine propext ⟨fun h=> ?_,fun h=> .inr ⟨(fun e=>by cases e),fun _=>h⟩⟩
  rcases h with⟨rs,_,h⟩|h
  ·exact h
  ·exact h.2 rfl
@[go_sem] theorem TV {l:List Operand} (hl:args.toList=l):BZ P X K ⟨d, .call ⟨.value f,args,ts⟩,g⟩ s f l true=zF P X K ⟨d, .call ⟨.value f,args,ts⟩,g⟩ s:=by
  subst hl
  refine propext ⟨fun h=> ?_,fun h=> .inr ⟨fun _=>h,(fun e=>by cases e)⟩⟩
  rcases h with⟨rs,h1,h⟩|h
  ·have h1:=h1 rfl
   unfold zC at h1
   unfold zF qM l4
   simp only
   split at h1
   ·rename_i fv gg first cap hf
    simp only[hf]
    split at h1
    ·rename_i ds eg
     simp only[eg]
     exact .inl ⟨.ret rs,h1.1, .inr (.inl ⟨h1.2,h⟩)⟩
    ·exact h1.elim
   ·exact h1.elim
  ·exact h.1 rfl
variable {KV:KD}{XV:XD}
@[go_sem] theorem WC {fr:Nat}:JL P KV XV fr ⟨d, .call ⟨.value f,args,ts⟩,g⟩ s=zG P KV XV s.o s.nx fr (m5 s (.call ⟨.value f,args,ts⟩)) (s.ev f) (args.toList.map s.ev):=propext Iff.rfl
@[go_sem] theorem aaQ {fr:Nat} (h2:dL op=none):JL P KV XV fr ⟨d,op,g⟩ s=sP KV (m5 s op) (fm P s fr op):=by simp[JL,h2]
variable {KS:S->Prop}
@[go_sem ↓] theorem KZ:ox KS Q .normal s=KS s:=propext Iff.rfl
@[go_sem ↓] theorem QV {id:Nat}:ox KS Q (.exit id) s=Q (.exit id) s:=propext Iff.rfl
@[go_sem ↓] theorem TW:ox KS Q .ret s=Q .ret s:=propext Iff.rfl
@[go_sem ↓] theorem TX {v:V}:ox KS Q (.bD v) s=Q (.bD v) s:=propext Iff.rfl
@[go_sem ↓] theorem JM {id:Nat}:ez id Q .normal s=Q .normal s:=propext Iff.rfl
@[go_sem ↓] theorem NN {id:Nat}:ez id Q (.exit id) s=Q .normal s:=by simp[ez]
@[go_sem ↓] theorem K0 {id j:Nat} (h:j≠id):ez id Q (.exit j) s=Q (.exit j) s:=by simp[ez,h]
@[go_sem ↓] theorem QW {id:Nat}:ez id Q .ret s=Q .ret s:=propext Iff.rfl
@[go_sem ↓] theorem QX {id:Nat} {v:V}:ez id Q (.bD v) s=Q (.bD v) s:=propext Iff.rfl
def K1(out:R)(x:Option (List D)):Prop:=match x with|some ds=>out= .ret ds|none=>False
@[go_sem] theorem TY {out:R} {ds:List D}:K1 out (some ds)=(out= .ret ds):=propext Iff.rfl
def QY(out:R)(x:Option D):Prop:=match x with|some d=>out= .bD d|none=>False
@[go_sem] theorem TZ {out:R} {d:D}:QY out (some d)=(out= .bD d):=propext Iff.rfl
def K2(out:R)(o:Nat->ab)(x:Option (List V)):Prop:=match x with|some vs=>K1 out (bQ o vs)|none=>False
@[go_sem] theorem T0 {out:R} {o:Nat->ab} {vs:List V}:K2 out o (some vs)=K1 out (bQ o vs):=propext Iff.rfl
variable {rs:List ResultVar}{out:R}
@[go_sem ↓] theorem T1:BD P rs out .ret s=K2 out s.o (kH P s rs):=propext Iff.rfl
@[go_sem ↓] theorem K4:BD P rs out .normal s=K2 out s.o (kH P s rs):=propext Iff.rfl
@[go_sem ↓] theorem T2 {v:V}:BD P rs out (.bD v) s=QY out (dp s.o v):=propext Iff.rfl
def zK(K:V->(Nat->ab)->Nat->Prop)(o:Nat->ab)(nx:Nat)(x:Fix (Option (List V)) (K,o,nx)):Prop:=match x with
 |some [v]=>K v o nx
 |some vs=>K (.bP vs) o nx
 |none=>False
@[go_sem] theorem WD {K:V->(Nat->ab)->Nat->Prop} {o:Nat->ab} {nx:Nat} {v:V}:zK K o nx (some [v])=K v o nx:=propext Iff.rfl
@[go_sem] theorem WE {K:V->(Nat->ab)->Nat->Prop} {o:Nat->ab} {nx:Nat}:zK K o nx (some [])=K (.bP []) o nx:=propext Iff.rfl
@[go_sem] theorem WG {K:V->(Nat->ab)->Nat->Prop} {o:Nat->ab} {nx:Nat} {v u:V} {l:List V}:zK K o nx (some (v::u::l))=K (.bP (v::u::l)) o nx:=propext Iff.rfl
theorem Dj{K X:V->(Nat->ab)->Nat->Prop}:kJ P rs K X .ret s=zK K s.o s.nx (kH P s rs):=by
 unfold kJ zK
 cases kH P s rs with
 |none=>rfl
 |some l=>match l with
  |[]=>rfl
  |[_]=>rfl
  |_::_::_=>rfl
@[go_sem ↓] theorem WH {K X:V->(Nat->ab)->Nat->Prop}:HK P rs K X .ret s=zK K s.o s.nx (kH P s rs):=Dj
@[go_sem ↓] theorem NO {K X:V->(Nat->ab)->Nat->Prop}:HK P rs K X .normal s=zK K s.o s.nx (kH P s rs):=(Dj (X:=X):kJ P rs K X .ret s=_)
@[go_sem ↓] theorem WI {K X:V->(Nat->ab)->Nat->Prop} {v:V}:HK P rs K X (.bD v) s=X v s.o s.nx:=propext Iff.rfl
variable {KE:S->Fp->Prop}{KP:V->List Nat->Fp->Prop}{pr:List (List Nat)}{fr:Nat}{fp:Fp}
@[go_sem] theorem WJ:mV P KE KP pr [] fr s fp=KE s fp:=propext Iff.rfl
@[go_sem] theorem T3 {d:Option Nat} {op:Op} {l:List bI}:mV P KE KP pr (⟨d,op,none⟩::l) fr s fp=
 JL P (fun v Δ rd=>mV P KE KP pr l (fr+1) ⟨aT s.env d v,put s.o Δ,s.nx⟩ (fp++[(rd,Δ.map (·.1))]))
  (fun v ws rd=>E0 P (KP v) pr l (fr+1) (fp++[(rd,[])]) [fp.length] (ws++fp.flatMap (·.2)) ⟨aT s.env d .aa,s.o,s.nx⟩) fr ⟨d,op,none⟩ s:=propext Iff.rfl
@[go_sem] theorem T4 {d:Option Nat} {op:Op} {g:Nat} {w:Bool} {l:List bI}:mV P KE KP pr (⟨d,op,some (g,w)⟩::l) fr s fp=
 iW w (JL P (fun v Δ rd=>mV P KE KP pr l (fr+1) ⟨aT s.env d v,put s.o Δ,s.nx⟩ (fp++[(rd,Δ.map (·.1))]))
  (fun v ws rd=>E0 P (KP v) pr l (fr+1) (fp++[(rd,[])]) [fp.length] (ws++fp.flatMap (·.2)) ⟨aT s.env d .aa,s.o,s.nx⟩) fr ⟨d,op,some (g,w)⟩ s)
   (mV P KE KP pr l (fr+1) ⟨aT s.env d (.bP []),s.o,s.nx⟩ (fp++[([],[])])) (s.env g):=propext Iff.rfl
end
attribute [go_sem] TQ dL jM fm one kM aT S.ev zC
theorem aj{ι:Type}{b:Nat}{st:ι->S}{bB:ι->Prop}{nF:ι->Nat}{i:ι}{s:S}(j:ι)(h1:bB j)(h2:nF j<nF i)(h3:bf b s (st j)):Dh b st bB nF i s:=⟨j,h1,h2,h3⟩
attribute [irreducible] HI Dg kN oK zF xh BZ qM l4 zE HD HE De sO zD jA EZ gK iW HH pZ pY p6 zG sP JL mV E0 xi vy HK zK KT vz sR K1 QY K2 sQ Dh
end
section
section
variable (ρ:Nat->Option Nat)(o' o:Nat->ab)(nx:Nat)
end
section
variable {M M':Nat->Prop}{φ aE:Place}{H H':Hp}{w:World}{ρ:Nat->Option Nat}{nx:Nat}
end
end
@[go_sem] theorem mE (v:V) (l:List V):aW (v::l) 0=v:=rfl
@[go_sem] theorem mF (v:V) (l:List V) (i:Nat):aW (v::l) (i+1)=aW l i:=rfl
@[go_sem] theorem oL (i:Nat):aW [] i= .aa:=by simp[aW]
@[go_sem] theorem NP (k:Nat):(0<=(k:Int))=True:=aK
attribute [go_sem] List.getElem?_map List.length_map Int.toNat_natCast
attribute [go_sem] dT List.flatMap_cons List.flatMap_nil
attribute [go_sem] isConst pL Kc pI pK yx pH nY Bk Kd uY Eo nq nr uX se si nZ
attribute [go_sem] m5 V.refs V.aJ
attribute [go_sem] List.all_nil List.all_cons Option.some.injEq D.int.injEq D.bool.injEq Nat.zero_add Nat.add_zero
theorem wrap64{n:Int}(h1: -9223372036854775808<=n)(h2:n<=9223372036854775807):IntKind.i64.wrap n=n:=by
 unfold IntKind.wrap
 have e1:((2:Int)^IntKind.i64.bits)=18446744073709551616:=cl
 have e2:((2:Int)^(IntKind.i64.bits - 1))=9223372036854775808:=cl
 have e3:IntKind.i64.signed=true:=rfl
 simp only[e1,e2,e3,Bool.true_and,decide_eq_true_eq]
 split<;>omega
structure Good (o:Nat->ab) (nx:Nat):Prop where
 fresh:∀id,nx<=id->o id= .no
 refs:∀id,∀r∈(o id).refs,r<nx
theorem Good.nil {nx:Nat}:Good (fun _=> .no) nx:=⟨fun _ _=>rfl,fun id r h=>by cases h⟩
theorem Good.aA {o:Nat->ab}{nx i:Nat}{x:ab}(h:Good o nx)(hi:i<nx)(hx:x.refs.all (fun r=>decide (r<nx))=true):Good (aA o i x) nx:=by
 refine⟨fun id au=> ?_,fun id r hr=> ?_⟩
 ·rw[af _ _ _ _ (by omega)];exact h.fresh id au
 ·by_cases e:id=i
  ·subst e
   rw[ad]at hr
   simpa using List.all_eq_true.1 hx r hr
  ·rw[af _ _ _ _ e]at hr
   exact h.refs id r hr
theorem Good.mono {o:Nat->ab}{nx m:Nat}(h:Good o nx)(hm:nx<=m):Good o m:=⟨fun id au=>h.fresh id ag,fun id r hr=>Nat.lt_of_lt_of_le (h.refs id r hr) hm⟩
theorem Good.lt {o:Nat->ab}{nx id:Nat}(h:Good o nx)(hn:o id≠ .no):id<nx:=by
 rcases Nat.lt_or_ge id nx with hl|hl
 ·exact hl
 ·exact absurd (h.fresh id hl) hn
theorem V.uN:∀ (l:List V) (i:Nat),∀r∈(aW l i).refs,r∈V.aJ l
 |[],i,r,h=>by rw[oL]at h;cases h
 |v::l,0,r,h=>by rw[mE]at h;simp only[V.aJ,List.mem_append];exact .inl h
 |v::l,i+1,r,h=>by rw[mF]at h;simp only[V.aJ,List.mem_append];exact .inr (V.uN l i r h)
theorem bf.back {b:Nat}{s:S}{env:Nat->V}{o:Nat->ab}{nx:Nat}(hb:b<=nx)(hn:nx<=s.nx)(hg:Good o nx)(ho:∀id,id<nx->s.o id=o id)
 (he:∀i,env i= .aa\/(env i=s.env i/\∀r∈(env i).refs,r<nx)):bf b s ⟨env,o,nx⟩:=by
 intro M φ w tm hH hd
 have cq:∀k,cp φ (hp o nx) k->cp φ s.H k:=by
  rintro k ⟨id,h1,h2⟩
  have au:id<nx:=hg.lt (fun e=>by simp only[hp]at h1;rw[e]at h1;cases h1)
  exact⟨id,by simp only[S.H];rw[ho id au];exact h1,h2⟩
 have hB:∀k, ¬ak M φ s.H k-> ¬ak M φ (hp o nx) k:=fun k h h'=>h (h'.imp id (cq k))
 have ef:∀ (v:V) (val:Value),(∀r∈v.refs,r<nx)->V.den (ak M φ s.H) φ s.H w v val->V.den (ak M φ (hp o nx)) φ (hp o nx) w v val:=fun v val hr h=>
  V.lW (H:=s.H) (H':=hp o nx) hB v val (fun id au=>⟨(ho id (hr id au)).symm,rfl,hr id au⟩) h
 have jR:∀ (v:List V) (val:List Value),(∀r∈V.aJ v,r<nx)->V.az (ak M φ s.H) φ s.H w v val->V.az (ak M φ (hp o nx)) φ (hp o nx) w v val:=fun v val hr h=>
  V.ff (H:=s.H) (H':=hp o nx) hB v val (fun id au=>⟨(ho id (hr id au)).symm,rfl,hr id au⟩) h
 refine⟨φ,⟨fun id=> ?_,fun id hu=>hg.fresh id (by simpa[S.H]using hu),fun i j k h1 h2 h3 h4=> ?_,fun k hk=>hH.ours k (cq k hk),hH.x5⟩,fun i=> ?_,cq,hb,fun id au hr=> ?_,fun id e' au nM=> ?_⟩
 ·have aX:=hH.ok id
  have hrefs:=hg.refs id
  unfold aM at aX|-
  by_cases au:id<nx
  ·have e:s.H.o id=o id:=ho id au
   rw[e]at aX
   simp only[S.H]at aX|-
   cases hx:o id with
   |no=>trivial
   |row cs=>
    simp only[hx]at aX hrefs|-
    exact MG
   |arr ep ty sz es=>
    simp only[hx]at aX|-
    obtain⟨k1,xs,k2,evs,k3,k4,k5⟩:=aX
    exact U5
   |qu ep es=>
    simp only[hx]at aX|-
    exact J0
   |map kt vt es=>
    simp only[hx]at aX|-
    obtain⟨b,es',clock,k1,k2,k4,k3⟩:=aX
    exact U3
   |fU l=>
    simp only[hx]at aX|-
    exact J0
   |np l last=>
    simp only[hx]at aX|-
    obtain⟨b,k1,k2⟩:=aX
    exact MA
   |wx s pos=>
    simp only[hx]at aX|-
    exact aX
   |loop nf n env ps a b st pd=>
    simp only[hx]at aX hrefs|-
    exact MY
  ·simp only[S.H]
   rw[hg.fresh id (by omega)]
   trivial
 ·have hi:i<nx:=hg.lt (fun e=>by simp only[S.H]at h1;rw[e]at h1;cases h1)
  have hj:j<nx:=hg.lt (fun e=>by simp only[S.H]at h2;rw[e]at h2;cases h2)
  exact hH.apart i j k (by simp only[S.H];rw[ho i hi];exact h1) (by simp only[S.H];rw[ho j hj];exact h2) h3 h4
 ·rcases he i with h|⟨h1,h2⟩
  ·simp only[h];trivial
  ·have:=hd i
   rw[<- h1]at this
   exact ef _ _ h2 this
 ·have cc:id<nx:=ag
  exact⟨by rw[ho id cc];exact hr,rfl⟩
 ·have cc:id<nx:=ag
  exact⟨e',by rw[ho id cc];exact nM,Nat.le_refl _,fun _=>rfl⟩
def j8(nx:Nat)(env:Nat->V):List V->Nat->Prop
 |[],_=>True
 |v::l,i=>(v= .aa\/(v=env i/\∀r∈v.refs,r<nx))/\j8 nx env l (i+1)
theorem bf.bC {b:Nat}{e:Nat->V}{so:Nat->ab}{m:Nat}(l:List V){o:Nat->ab}{nx:Nat}(hb:b<=nx)(hn:nx<=m)(hg:Good o nx)(ho:∀id,id<nx->so id=o id)(he:j8 nx e l 0):bf b ⟨e,so,m⟩ ⟨aW l,o,nx⟩:=by
 refine bf.back hb hn hg ho ?_
 have key:∀ (l:List V) (i:Nat),j8 nx e l i->∀j,aW l j= .aa\/(aW l j=e (i+j)/\∀r∈(aW l j).refs,r<nx):=by
  intro l
  induction l with
  |nil=>intro i _ j;rw[oL];exact .inl rfl
  |cons v l ih=>
   intro i h j
   cases j with
   |zero=>rw[mE];exact h.1
   |succ j=>
    rw[mF]
    have:=ih (i+1) h.2 j
    rwa [show i+1+j=i+(j+1) by omega]at this
 intro i
 have:=key l 0 he i
 rwa [Nat.zero_add]at this
theorem D9{nx:Nat}{env:Nat->V}{i:Nat}:j8 nx env [] i:=trivial
theorem Bb{nx:Nat}{env:Nat->V}{l:List V}{i:Nat}(h:j8 nx env l (i+1)):j8 nx env (.aa::l) i:=⟨.inl rfl,h⟩
theorem CB{nx:Nat}{env:Nat->V}{l:List V}{i:Nat}{x:D}(he:env i= .d x)(h:j8 nx env l (i+1)):j8 nx env (.d x::l) i:=⟨.inr ⟨he.symm,fun r hr=>by simp[V.refs]at hr⟩,h⟩
theorem JU{nx:Nat}{env:Nat->V}{l:List V}{i:Nat}{v:V}(he:env i=v)(hr:∀r∈v.refs,r<nx)(h:j8 nx env l (i+1)):j8 nx env (v::l) i:=⟨.inr ⟨he.symm,hr⟩,h⟩
theorem bf.d0 {e:Nat->V}{so:Nat->ab}{m:Nat}(l:List V)(he:j8 0 e l 0):bf 0 ⟨e,so,m⟩ ⟨aW l,fun _=> .no,0⟩:=bf.bC l (Nat.le_refl 0) (Nat.zero_le _) Good.nil (fun _ h=>absurd h (Nat.not_lt_zero _)) he
theorem Gb{k:Nat}(h:(k:Int)+1<=9223372036854775807):IntKind.i64.wrap ((k:Int)+1)=((k+1:Nat):Int):=by rw[wrap64 (by omega) h];rfl
theorem Ga{k:IntKind}{a b:Int}(h:a=b):V.d (D.int k a)=V.d (D.int k b):=by rw[h]
theorem zL{P:Program}{g:FuncId}{K:KD}{X:XD}{o:Nat->ab}{nx fr:Nat}{all:List V}{rd:List Nat}{rs:List D}{Δ:List (Nat×ab)}(mP:rd.all (fun id=>decide (id<nx))=true)(h:C8 P g all rd o (.ret rs) Δ)(hk:K (iu rs) Δ rd):pY P g K X o nx fr all:=by
 unfold pY
 exact⟨rd,Δ,mP, .inl ⟨rs,h,hk⟩⟩
abbrev D.i (n:Int):D:= .int .i64 n
structure il where
 name:List UInt8
 args:Int
structure bE where
 cons:List il
 bu:List il
inductive Tm where
 |mk (op n:Int) (kids:List Tm)
 deriving Inhabited
structure TB where
 var:Int
 term:Tm
def Tm.op:Tm->Int| .mk op _ _=>op
def Tm.n:Tm->Int| .mk _ n _=>n
def Tm.kids:Tm->List Tm| .mk _ _ l=>l
theorem Tm.ind {P:Tm->Prop}(h:∀op n kids,(∀k∈kids,P k)->P (.mk op n kids)):∀t,P t:=
 fun t=>Tm.rec (motive_1:=P) (motive_2:=fun l=>∀k∈l,P k) (fun op n kids ih=>h op n kids ih) (fun _ h=>by cases h)
  (fun x l hx hl k hk=>(List.mem_cons.1 hk).elim (fun e=>e ▸ hx) (hl k)) t
mutual
def Tm.d:Tm->D
 | .mk op n kids=> .agg [.i op, .i n, .sl (Tm.ds kids)]
def Tm.ds:List Tm->List D
 |[]=>[]
 |t::l=>t.d::Tm.ds l
end
theorem Tm.B1:∀l:List Tm,Tm.ds l=l.map Tm.d
 |[]=>rfl
 |t::l=>by simp[Tm.ds,Tm.B1 l]
theorem Tm.WK (t:Tm):t.d= .agg [.i t.op, .i t.n, .sl (t.kids.map Tm.d)]:=by cases t;simp[Tm.d,Tm.B1,Tm.op,Tm.n,Tm.kids]
@[go_sem] theorem Tm.aaR (t:Tm):D.agg [.i t.op, .i t.n, .sl (t.kids.map Tm.d)]=t.d:=(Tm.WK t).symm
@[go_sem] theorem Tm.ZR (t:Tm):D.cells t.d=[.i t.op, .i t.n, .sl (t.kids.map Tm.d)]:=by rw[Tm.WK];rfl
theorem Tm.dy {P:Tm->Prop}(h:∀t:Tm,(∀k∈t.kids,P k)->P t):∀t,P t:=Tm.ind fun op n kids ih=>h (.mk op n kids) ih
theorem Tm.K5 (op n:Int)(l:List Tm):(Tm.mk op n l).d= .agg [.i op, .i n, .sl (l.map Tm.d)]:=by simp[Tm.d,Tm.B1]
@[reducible] def il.d (x:il):D:= .agg [.str x.name, .i x.args]
@[reducible] def bE.d (s:bE):D:= .agg [.sl (s.cons.map il.d), .sl (s.bu.map il.d)]
@[reducible] def TB.d (b:TB):D:= .agg [.i b.var, .i b.term.op, .i b.term.n, .sl (b.term.kids.map Tm.d)]
mutual
def Tm.fits:Tm->Prop
 | .mk _ _ kids=>kids.length<=9223372036854775807/\Tm.zM kids
def Tm.zM:List Tm->Prop
 |[]=>True
 |t::l=>t.fits/\Tm.zM l
end
theorem Tm.vB:∀l:List Tm,Tm.zM l↔∀k∈l,k.fits
 |[]=>by simp[Tm.zM]
 |t::l=>by simp[Tm.zM,Tm.vB l]
theorem Tm.bg (t:Tm):t.fits↔t.kids.length<=9223372036854775807/\∀k∈t.kids,k.fits:=by cases t;simp[Tm.fits,Tm.vB,Tm.kids]
mutual
def Tm.la:Tm->Nat
 | .mk _ _ kids=>1+Tm.kO kids
def Tm.kO:List Tm->Nat
 |[]=>0
 |k::l=>Nat.max k.la (Tm.kO l)
end
theorem Tm.zN:∀ {l:List Tm} {k:Tm},k∈l->k.la<=Tm.kO l
 |x::l,k,h=>by
  simp only[Tm.kO]
  rcases List.mem_cons.1 h with rfl|h
  ·exact Nat.le_max_left _ _
  ·exact Nat.le_trans (Tm.zN h) (Nat.le_max_right _ _)
theorem Tm.mG {t k:Tm}(h:k∈t.kids):k.la+1<=t.la:=by
 cases t;simp only[Tm.kids]at h;simp only[Tm.la];have:=Tm.zN h;omega
mutual
def pre:Tm->Int->List (Tm×Int)
 | .mk op n kids,d=>(.mk op n kids,d)::K6 kids (d+1)
def K6:List Tm->Int->List (Tm×Int)
 |[],_=>[]
 |k::l,d=>pre k d++K6 l d
end
theorem E2(l:List Tm)(d:Int):K6 l d=l.flatMap fun k=>pre k d:=by
 induction l with
 |nil=>rfl
 |cons k l ih=>simp[K6,ih]
theorem iX(t:Tm)(d:Int):pre t d=(t,d)::t.kids.flatMap fun k=>pre k (d+1):=by cases t;simp[pre,E2,Tm.kids]
def dQ(n low high:Int):Bool:=decide (low<=n)&&decide (n<=high)
def letterF(b:UInt8):Bool:= !((decide ((b.toNat:Int)<97)||decide (122<(b.toNat:Int)))&&(decide ((b.toNat:Int)<65)||decide (90<(b.toNat:Int))))
def iY(s:List UInt8):Bool:=s.all letterF&&dQ s.length 1 8
def bN:List il->List (List UInt8)->Option (List (List UInt8))
 |[],before=>some before
 |x::l,before=>if before.any (· ==x.name)then none else if(!iY x.name|| !dQ x.args 0 4)=true then none else bN l (before++[x.name])
def fB:List UInt8:=[70,97,108,115,101]
def tB:List UInt8:=[84,114,117,101]
def lq(x:il)(s:List UInt8):Bool:=x.name==s&&x.args==0
def iw(s:bE):Bool:=
 if(!dQ s.cons.length 2 12||decide (8<(s.bu.length:Int)))=true then false else
 match s.cons with
 |a::b::_=>if(!lq a fB|| !lq b tB)=true then false else
  match bN s.cons []with
  |none=>false
  |some l=>(bN s.bu l).isSome
 |_=>false
mutual
def gL:Tm->Int->Int->Int
 | .mk _ _ kids,left,depth=>if left<1\/depth<1 then -1 else bY kids (left - 1) (depth - 1)
def bY:List Tm->Int->Int->Int
 |[],left,_=>left
 |k::l,left,depth=>if 0<=left then bY l (gL k left depth) depth else left
end
def eU(l:List il)(n:Int):Int:=match l[n.toNat]? with|some x=>x.args|none=>0
def bd(s:bE)(t:Tm):Bool:=
 let k:Int:=t.kids.length
 if t.op=1 then k==0&&dQ t.n 0 19
 else if t.op=2 then k==0&&dQ t.n (-1000000) 1000000
 else if t.op=3 then dQ t.n 0 (s.cons.length - 1)&&k==eU s.cons t.n
 else if t.op=4 then dQ t.n 0 (s.bu.length - 1)&&k==eU s.bu t.n
 else if t.op=5 then dQ t.n 0 (s.bu.length - 1)&&decide (k<eU s.bu t.n)
 else if t.op=8 then k==2&&dQ t.n 0 19
 else if(dQ t.op 6 15)=true then k==2&&t.n==0
 else false
mutual
def iZ(s:bE):Tm->Bool
 | .mk op n kids=>bd s (.mk op n kids)&&rK s kids
def rK(s:bE):List Tm->Bool
 |[]=>true
 |k::l=>iZ s k&&rK s l
end
def eG(s:bE)(t:Tm):Bool:=decide (0<=gL t 40 12)&&iZ s t
mutual
def fF:Tm->Tm->Bool
 | .mk op n kids, .mk op' n' NQ=>op==op'&&n==n'&&kids.length==NQ.length&&gZ kids NQ
def gZ:List Tm->List Tm->Bool
 |[],_=>true
 |k::l,k'::l'=>fF k k'&&gZ l l'
 |_::_,[]=>true
end
def jN(t:Tm):Bool:=decide (0<=gL t 50 14)
def eM(l:List il):Bool:=l.all fun x=>decide ((x.name.length:Int)<=30)
def gu(s:bE):Bool:= !(decide (16<(s.cons.length:Int))||decide (12<(s.bu.length:Int)))&&eM s.cons&&eM s.bu
structure lb where
 f:Int
 t:Int
 l:Bool
@[reducible] def lb.d (a:lb):D:= .agg [.i a.f, .i a.t, .bool a.l]
def lb.k (a:lb):Nat:=(a.f*4+a.t).toNat
def lb.v (a:lb):Int:=if a.l=true then 2 else 1
def z16:List Int:=[0,0,0,0,0,0,0,0,0,0,0,0,0,0,0,0]
def sS(m:List Int)(q:Nat):List lb:=(List.range q).filterMap fun p=>if m.getD p 0≠0 then some ⟨(p/4:Nat),(p%4:Nat),m.getD p 0==2⟩else none
theorem zO{α β:Type}{f g:α->Option β}:∀ {l:List α},(∀x∈l,f x=g x)->l.filterMap f=l.filterMap g
 |[],_=>rfl
 |x::l,h=>by
  have ih:=zO (l:=l) fun y hy=>h y rY
  rw[List.filterMap_cons,List.filterMap_cons,h x (by simp),ih]
theorem oM{l l':List Int}(h1:l.length=16)(h2:l'.length=16)(h:∀p,p<16->l[p]? =l'[p]?):l=l':=by
 apply List.ext_getElem?
 intro p
 by_cases hp:p<16
 ·exact h p hp
 ·rw[List.getElem?_eq_none (by omega),List.getElem?_eq_none (by omega)]
theorem HL(m:List Int)(q:Nat):sS m (q+1)=sS m q++(if m.getD q 0≠0 then [⟨(q/4:Nat),(q%4:Nat),m.getD q 0==2⟩]else []):=by
 unfold sS
 rw[List.range_succ,List.filterMap_append]
 congr 1
 by_cases h:m.getD q 0≠0
 ·rw[if_pos h];simp only[List.filterMap_cons,if_pos h,List.filterMap_nil]
 ·rw[if_neg h];simp only[List.filterMap_cons,if_neg h,List.filterMap_nil]
theorem K7(m:List Int)(q:Nat):(sS m q).length<=q:=by
 unfold sS
 have:=List.length_filterMap_le (fun p=>if m.getD p 0≠0 then some (⟨(p/4:Nat),(p%4:Nat),m.getD p 0==2⟩:lb)else none) (List.range q)
 simpa using this
def Mat(m:List Int):Prop:=m.length=16/\∀x∈m,0<=x/\x<=2
def mg(m:List Int)(i j:Nat):Int:=m.getD (i*4+j) 0
section
def ja(id:Nat)(K X:V->(Nat->ab)->Nat->Prop)(e:eK)(s:S):Prop:=
 match e with
 | .normal=>∃nf m en p c d st pd,s.o id= .loop nf m en p c d st pd/\K (.d (.bool true)) (aA s.o id (.loop nf m en p c d .ready none)) s.nx
 | .ret=>∃nf m en p c d st pd,s.o id= .loop nf m en p c d st pd/\K (.d (.bool false)) (aA s.o id (.loop nf m en p c d .done (some .ret))) s.nx
 | .exit j=>∃nf m en p c d st pd,s.o id= .loop nf m en p c d st pd/\K (.d (.bool false)) (aA s.o id (.loop nf m en p c d .done (some (.exit j)))) s.nx
 | .bD v=>X v s.o s.nx
def QZ(P:Program)(n b id:Nat)(eI:IC)(K X:V->(Nat->ab)->Nat->Prop)(e:eK)(s:S):Prop:=
 match e with
 | .normal=>∃nf m en p c d pd,s.o id= .loop nf m en p c d .ready pd/\rJ P n b true eI (ja id K X) ⟨s.env,aA s.o id (.loop nf m en p c d .busy pd),s.nx⟩
 | .bD v=>X v s.o s.nx
 |_=>False
section
variable {P:Program}{M:Nat->Prop}{φ b7:Place}{H0:Hp}{w w0:World}{n:Nat}{s:S}{a:Act}{cx:Cx}
theorem zP{id:Nat}{x:ab}{s:S}(cc:id<s.nx)(j:Nat)(hu:(s.H.put [(id,x)]).us j):j<s.nx:=by
 simp only[dw]at hu
 rcases hu with hu|hu
 ·exact hu
 ·subst hu;exact cc
theorem sT{B:Nat->Prop}{H:Hp}{n:Nat}:∀ (ps:List Nat) (vs:List V) (us:List Value) (env:Nat->V) (tmps:Array Value),tmps.size=n->ps.length=vs.length->V.az B φ H w vs us->ps.all (fun t=>decide (t<n))=true->(∀i,V.den B φ H w (env i) (tmps.getD i undef))->
 ((ps.zip us).foldl (fun tmps p=>tmps.setIfInBounds p.1 p.2) tmps).size=n/\∀i,V.den B φ H w (lZ env ps vs i) (((ps.zip us).foldl (fun tmps p=>tmps.setIfInBounds p.1 p.2) tmps).getD i undef)
 |[],[],us,env,tmps,dh,_,hd,_,he=>by simp only[V.az]at hd;subst hd;exact⟨dh,he⟩
 |[],v::vs,us,env,tmps,_,h,_,_,_=>by simp at h
 |t::ps,[],us,env,tmps,_,h,_,_,_=>by simp at h
 |t::ps,v::vs,us,env,tmps,dh,hl,hd,hp,he=>by
  obtain⟨u,us,rfl,h1,h2⟩:=hd
  simp only[List.all_cons,Bool.and_eq_true,decide_eq_true_eq]at hp
  simp only[List.zip_cons_cons,List.foldl_cons,lZ]
  refine sT ps vs us (aA env t v) (tmps.setIfInBounds t u) (by simp[dh]) (by simpa using hl) h2 hp.2 (fun i=> ?_)
  simp only[aH]
  by_cases hi:i=t
  ·subst hi
   have:(tmps.setIfInBounds i u).getD i undef=u:=by simp[Array.getD,dh,hp.1]
   rw[if_pos rfl,this];exact h1
  ·have:(tmps.setIfInBounds t u).getD i undef=tmps.getD i undef:=by
    exact PL
   rw[if_neg hi,this];exact he i
theorem dc.sN (aZ:P.follows .mixedOrders=true){id:Nat}{args:List V}{o:Nat->ab}{nx:Nat}{K X:V->(Nat->ab)->Nat->Prop}{env:List V}{ps:List Nat}{iL eI:IC}{st:LoopState}{pd:Option jh}
 (ho:o id= .loop P.funcs.size n env ps iL eI st pd) (cc:id<nx) (mH:ps.all (fun t=>decide (t<n))=true) (hl:args.length=ps.length)
 (h:rJ P n nx true iL (QZ P n nx id eI K X) ⟨lZ (aW env) ps args,o,nx⟩):dc P id args o nx K X:=by
 refine⟨by rw[ho];rfl,fun M φ w vals b hH hd dD=> ?_⟩
 have aU:=hH.ok id
 simp only[aM,hp,ho]at aU
 obtain⟨b',r,h1,h2,h0,h3,h4,h5,h6,h7,h8,h9⟩:=aU
 rw[dD]at h1;simp at h1;subst h1
 have hlen:=V.ay _ _ hd
 have dh:vals.size=r.params.size:=by
  have:r.params.toList.length=ps.length:=by rw[h5]
  simp at hlen this;omega
 let tm:Array Value:=(ps.zip vals.toList).foldl (fun tmps p=>tmps.setIfInBounds p.1 p.2) r.tmps
 have WL:(r.params.zip vals).foldl (fun tmps (p:Tmp×Value)=>tmps.setIfInBounds p.1 p.2) r.tmps=tm:=by
  rw[<- Array.foldl_toList,Array.toList_zip,h5]
 obtain⟨p1,p2⟩:=sT (B:=ak M φ (hp o nx)) (H:=hp o nx) (φ:=φ) (w:=w) ps args vals.toList (aW env) r.tmps h6 hl.symm hd mH h9
 refine⟨r.fn,tm,r.assign,r.body, ?_,fun k=> ?_⟩
 ·simp only[Instr.yield,Sem.run_bind,jz h2,Result.andThen_ok,dh,ne_eq,not_true_eq_false,if_false,Sem.run_pure]
  rw[<- WL]
 ·
   let s0:S:=⟨lZ (aW env) ps args,o,nx⟩
   let a0:Act:={tmps:=tm,defers:=[]}
   have iT:bS M φ (hp o nx) w n ⟨[],true⟩ φ s0 a0 w:=⟨hH,Trans.refl _ _ _,p1,⟨[],rfl,List.nodup_nil,fun _=>rfl,fun r hr=>by cases hr⟩,p2⟩
   have sU:∀ {aE s' a' w'},bS M φ (hp o nx) w n ⟨[],true⟩ aE s' a' w'->a'.defers=[]:=by
    intro aE s' a' w' hs
    obtain⟨ms,g1,_,g3,_⟩:=hs.defers
    rw[g3 rfl]at g1;exact g1
   have WM:∀ {aE s' a' w'} {nf m:Nat} {en:List V} {p:List Nat} {c d:IC} {st:LoopState} {pd:Option jh} (st':LoopState) (pd':Option jh),bS M φ (hp o nx) w n ⟨[],true⟩ aE s' a' w'->s'.o id= .loop nf m en p c d st pd->
    ∃r',w'.heap[b]? =some (.loop r')/\r'.state=st/\r'.pending=pd.map jh.code/\
     bS M φ (hp o nx) w n ⟨[],true⟩ aE ⟨s'.env,aA s'.o id (.loop nf m en p c d st' pd'),s'.nx⟩ a' {w' with heap:=w'.heap.setIfInBounds b (.loop {r' with state:=st',pending:=pd'.map jh.code})}:=by
    intro aE s' a' w' nf m en p c d st pd st' pd' hs nO
    have Qi:aE id= .pointer (some ⟨b,0,none⟩):=by
     have:=(hs.tr.rel.row id cc (by show(s'.o id).bW=true;rw[nO];rfl)).2
     rw[this];exact dD
    have WN:id<s'.nx:=hs.tr.rel.us id cc
    obtain⟨r',r1,r2,r3,r4,r5⟩:=vj (st':=st') (pd':=pd') hs.heap WN (show s'.H.o id=_ from nO) Qi
    exact⟨r',r1,r2,r3,dR hs r4 r5 rfl (zP WN)⟩
   have ha:=gr (P:=P) (n:=n) (b:=nx) (rd:=true) aZ r.assign _ _ s0 (fun _ _ h=>h) (by rw[h7];exact h)
   refine sA h0 (fD (fY (P:=P) (H0:=hp o nx) (b:=nx) (cx:=⟨[],true⟩) (ro:=some b) (fun id hu=>hu) (fun h=>by cases h) r.assign _ s0 φ a0 w ha iT) ?_)
   rintro e a1 w1 ⟨x,s1,gU,hq,vl,hm⟩
   cases e<;>cases x<;>first|(exact hm.elim)|skip
   ·
     obtain⟨nf,m,en,p,c,d,pd1,q1,q2⟩:=hq
     obtain⟨r',r1,r2,r3,JK⟩:=WM .busy pd1 vl q1
     have Q0:(Instr.beginRound b).run P w1= .ok () {w1 with heap:=w1.heap.setIfInBounds b (.loop {r' with state:= .busy,pending:=pd1.map jh.code})}:=by
      have e1:({r' with state:= .busy}:Loop)={r' with state:= .busy,pending:=pd1.map jh.code}:=by rw[<- r3]
      simp only[Instr.beginRound,Sem.run_bind,jz r1,Result.andThen_ok,gX _ r1,r2,Sem.run_pure,e1]
     refine⟨_,Q0, ?_⟩
     have bt:=JK.heap.ok id
     simp only[aM,S.H,aH,if_true]at bt
     obtain⟨b2,r2',_,_,_,_,_,_,_,_,_,_⟩:=bt
     have hb:=gr (P:=P) (n:=n) (b:=nx) (rd:=true) aZ r.body _ _ _ (fun _ _ h=>h) (by rw[h8];exact q2)
     refine fD (fY (P:=P) (H0:=hp o nx) (b:=nx) (cx:=⟨[],true⟩) (ro:=some b) (fun id hu=>hu) (fun h=>by cases h) r.body _ _ gU a1 _ hb JK) ?_
     rintro e a2 w2 ⟨x,s2,EK,Th,C5,Kx⟩
     have fin:∀ {nf m:Nat} {en:List V} {p:List Nat} {c d:IC} {st:LoopState} {pd:Option jh} (jump:Option jh) (t:Bool) (st':LoopState),t=jump.isNone->st'=(if jump.isNone then .ready else .done)->s2.o id= .loop nf m en p c d st pd->K (.d (.bool t)) (aA s2.o id (.loop nf m en p c d st' jump)) s2.nx->
      ∃v w',(Instr.endRound b (jump.map jh.code)).run P w2= .ok v w'/\lN M φ (hp o nx) w K X (.returned v) w':=by
      intro nf m en p c d st pd jump t st' ht ly ho2 hK
      obtain⟨r3',g1,g2,g3,Ti⟩:=WM st' jump C5 ho2
      refine⟨.bool t,_, ?_,EK,_,_,_,Ti.heap,Ti.tr,by simp only[V.den,D.den],hK⟩
      subst ht;subst ly
      simp only[Instr.endRound,Sem.run_bind,jz g1,Result.andThen_ok,gX _ g1,Sem.run_pure,Option.isNone_map]
     cases e<;>cases x<;>first|(exact Kx.elim)|skip
     ·obtain⟨nf,m,en,p,c,d,st,pd,k1,k2⟩:=Th
      exact fin none true .ready rfl rfl k1 k2
     ·rename_i j
      subst Kx
      obtain⟨nf,m,en,p,c,d,st,pd,k1,k2⟩:=Th
      exact fin (some (.exit _)) false .done rfl rfl k1 k2
     ·obtain⟨nf,m,en,p,c,d,st,pd,k1,k2⟩:=Th
      exact fin (some .ret) false .done rfl rfl k1 k2
     ·obtain⟨val,rfl,k2⟩:=Kx
      exact⟨sU C5,EK,_,_,_,C5.heap,C5.tr,val,rfl,k2,Th⟩
   ·exact hq.elim
   ·exact hq.elim
   ·obtain⟨val,rfl,k2⟩:=hm
    exact⟨sU vl,gU,_,_,_,vl.heap,vl.tr,val,rfl,k2,hq⟩
end
end
end Go.Proofs.YtnkamdiiakdkgaaGreat
