/-
  A PART OF THE PROOF. Conditions: none.
-/
import Derived.Test.YtlhemmpklhhgoaaGreatQn9
set_option linter.unusedSimpArgs false
set_option linter.unusedVariables false
namespace Go.Proofs.YtlhemmpklhhgoaaGreat
section
abbrev Fix(α:Type){β:Type}(_:β):Type:=α
def kV(K:V->List (Nat×ab)->Prop)(x:Fix (Option gz) K):Prop:=match x with|some (v,Δ,_)=>K v Δ|none=>False
@[go_sem] theorem Wm {v:V} {Δ:List (Nat×ab)} {rd:List Nat} {K}:kV K (some (v,Δ,rd))=K v Δ:=propext Iff.rfl
@[go_sem] theorem Wn {K}:kV K none=False:=propext Iff.rfl
def V.A2 (c:Bool)(v:V):V:=if c=true then v else .bW []
@[go_sem] theorem ab7 (b:Bool):(!!b)=b:=aE
attribute [go_sem] true_or or_true false_or ne_eq not_false_eq_true decide_true decide_false Bool.not_true Bool.not_false Bool.and_true Bool.true_and Bool.and_false Bool.false_and Bool.or_true Bool.true_or Bool.or_false Bool.false_or beq_self_eq_true Bool.true_eq_false Bool.false_eq_true not_true_eq_false and_true true_and and_false false_and eq_self
@[go_sem] theorem V.ab8 (v:V):V.A2 true v=v:=rfl
@[go_sem] theorem V.Zp (v:V):V.A2 false v= .bW []:=rfl
def mZ(c:Bool)(p:Prop):Prop:=c=true->p
@[congr] theorem TI {c c':Bool} {p p':Prop} (h:c=c') (h2:c'=true->p=p'):mZ c p=mZ c' p':=by
  subst h;cases c
  ·simp[mZ]
  ·simp[mZ,h2 rfl]
@[go_sem] theorem Wo (p:Prop):mZ true p=p:=by simp[mZ]
@[go_sem] theorem TJ (p:Prop):mZ false p=True:=by simp[mZ]
@[go_sem] theorem Wp (a:Bool):mZ a True=True:=by simp[mZ]
def m7(v:V)(want:Bool):Option Bool:=
 match v with
 | .d (.bool b)=>some (b==want)
 | .bW []=>some false
 |_=>none
@[go_sem] theorem Wq (b:Bool):m7 (.d (.bool b)) true=some b:=by simp[m7]
@[go_sem] theorem TK (b:Bool):m7 (.d (.bool b)) false=some (!b):=by simp[m7]
@[go_sem] theorem ab9 (want:Bool):m7 (.bW []) want=some false:=rfl
@[go_sem] theorem Zq (c b want:Bool):m7 (V.A2 c (.d (.bool b))) want=some (c&&(b==want)):=by cases c<;>simp[m7,V.A2]
@[go_sem] theorem Wr (c b e want:Bool):m7 (V.A2 c (V.A2 e (.d (.bool b)))) want=some (c&&e&&(b==want)):=by cases c<;>cases e<;>simp[m7,V.A2]
def lF(c:Bool)(x:Option gz):Option gz:=
 if c=true then(match x with|some (v,[],_)=>some (v,[],[])|_=>none)else some (.bW [],[],[])
@[congr] theorem Qe {c c':Bool} {x x':Option gz} (h:c=c') (h2:c'=true->x=x'):lF c x=lF c' x':=by
  subst h;cases c
  ·rfl
  ·simp[lF,h2 rfl]
def Zr(v:V)(rd:List Nat):Option gz:=some (v,[],rd)
@[go_sem] theorem af7 (v:V) (rd:List Nat):(some (v,[],rd):Option gz)=Zr v rd:=by unfold Zr;exact Eq.trans rfl rfl
@[go_sem] theorem Ws (c:Bool) (v:V) (rd:List Nat):lF c (Zr v rd)=Zr (V.A2 c v) []:=by cases c<;>rfl
@[go_sem] theorem Zs {v:V} {rd:List Nat} {K}:kV K (Zr v rd)=K v []:=propext Iff.rfl
@[go_sem] theorem TL (c:Bool) (v:V) (rd:List Nat):lF c (some (v,[],rd))=some (V.A2 c v,[],[]):=by cases c<;>rfl
@[go_sem] theorem Qf (x:Option gz):lF false x=some (.bW [],[],[]):=rfl
@[go_sem] theorem aca (b x:Bool):rn (.d (.bool b)) (V.A2 b (.d (.bool x))) (.d (.bool false))=some (.d (.bool (b&&x))):=B5
@[go_sem] theorem afj (b x:Bool):rn (.d (.bool b)) (.d (.bool true)) (V.A2 (!b) (.d (.bool x)))=some (.d (.bool (b||x))):=B5
@[go_sem] theorem acb (b x:Bool):rn (.d (.bool (!b))) (.d (.bool true)) (V.A2 b (.d (.bool x)))=some (.d (.bool (!b||x))):=B5
@[go_sem] theorem Zt (x y:V):rn (.d (.bool true)) x y=some x:=rfl
@[go_sem] theorem Wt (x y:V):rn (.d (.bool false)) x y=some y:=rfl
@[reducible] def lG:Op->Bool
  | .move _| .assign _| .pick .. | .load .. | .binOp .. | .unOp .. | .nilCheck _| .convert .. | .makeInterface .. | .makeFunc .. | .fieldAddr .. | .indexAddr .. | .extract .. | .build .. | .index .. | .field .. | .lookup .. =>true
  | .call c=>match c.callee with
    | .builtin .len=>true
    | .builtin .min=>true
    | .builtin .max=>true
    |_=>false
  |_=>false
def C4(P:Program)(f:V)(args:List V)(o:Nat->ab)(rs:List D):Prop:=
 match f with
 | .func (.func g) first cap=>match cn o (first++args++cap)with
   |some ds=>aX P g ds (.ret rs)/\D.j7 rs=true
   |none=>False
 |_=>False
def Ht(P:Program)(f:V)(args:List V)(o:Nat->ab)(K:V->Prop)(c:Fix Bool (f,args,o,K)):Prop:=
 ∃rs,mZ c (C4 P f args o rs)/\K (V.A2 c (jq rs))
def C5(P:Program)(g:FuncId)(nx:Nat)(K X:V->(Nat->ab)->Nat->Prop)(args:Fix (List V) (K,X))(o:Fix (Nat->ab) (K,X)):Prop:=tS P g args o nx K X
def wk(P:Program)(g:FuncId)(o:Nat->ab)(nx:Nat)(K X:V->(Nat->ab)->Nat->Prop)(ds:Fix (List D) (o,nx,K,X))(all:Fix (List V) (o,nx,K,X)):Prop:=
 vW P g ds o (put o (bG o (V.bg all))) (put o (sF o (V.bg all))) (fun v o'=>K v o' (nx+1)) (fun v o'=>X v o' (nx+1))\/tS P g all o nx K X
def nR(P:Program)(g:FuncId)(K X:V->(Nat->ab)->Nat->Prop)(s:S)(all:List V)(ds:Fix (Option (List D)) (K,X,s,all)):Prop:=
 match ds with
 |some ds=>wk P g s.o s.nx K X ds all
 |none=>C5 P g s.nx K X all s.o
@[go_sem] theorem TM {P:Program} {s:S} {ds:List D} {g:FuncId} {all:List V} {K X}:
 nR P g K X s all (some ds)=wk P g s.o s.nx K X ds all:=propext Iff.rfl
def zl(P:Program)(id:Nat)(K X:V->(Nat->ab)->Nat->Prop)(s:S)(args:Fix (List V) (K,X,s)):Prop:=dQ P id args s.o s.nx K X
@[go_sem] theorem TN {P:Program} {s:S} {g:FuncId} {all:List V} {K X}:nR P g K X s all none=C5 P g s.nx K X all s.o:=propext Iff.rfl
def tY(P:Program)(K X:V->(Nat->ab)->Nat->Prop)(s:S)(f:Fix V (K,X,s))(args:Fix (List V) (K,X,s)):Prop:=
 match f with
 | .func (.func g) first cap=>nR P g K X s (first++args++cap) (cn s.o (first++args++cap))
 | .kM id=>zl P id K X s args
 |_=>False
@[go_sem] theorem Zu {P:Program} {s:S} {id:Nat} {args:List V} {K X}:tY P K X s (.kM id) args=zl P id K X s args:=propext Iff.rfl
@[go_sem] theorem Wu {P:Program} {s:S} {g:FuncId} {first cap args:List V} {K X}:tY P K X s (.func (.func g) first cap) args=nR P g K X s (first++args++cap) (cn s.o (first++args++cap)):=propext Iff.rfl
def MD(P:Program)(g:FuncId)(o:Nat->ab)(nx:Nat)(K X:V->(Nat->ab)->Nat->Prop)(ds:Fix (List D) (o,nx,K,X))(all:Fix (List V) (o,nx,K,X)):Prop:=
 vW P g ds o (put o (bG o (V.bg all))) (put o (sF o (V.bg all))) (fun v o'=>K v o' (nx+1)) (fun v o'=>X v o' (nx+1))
def C6(P:Program)(g:FuncId)(K X:V->(Nat->ab)->Nat->Prop)(s:S)(all:List V)(ds:Fix (Option (List D)) (K,X,s,all)):Prop:=
 match ds with
 |some ds=>MD P g s.o s.nx K X ds all
 |none=>False
@[go_sem] theorem Wv {P:Program} {s:S} {ds:List D} {g:FuncId} {all:List V} {K X}:C6 P g K X s all (some ds)=MD P g s.o s.nx K X ds all:=propext Iff.rfl
def ME(P:Program)(K X:V->(Nat->ab)->Nat->Prop)(s:S)(args:Fix (List V) (K,X,s))(r:Fix (Option (FuncId×V)) (K,X,s)):Prop:=
 match r with
 |some (g,y)=>C6 P g K X s (y::args) (cn s.o (y::args))
 |none=>False
@[go_sem] theorem Zv {P:Program} {s:S} {g:FuncId} {y:V} {args:List V} {K X}:ME P K X s args (some (g,y))=C6 P g K X s (y::args) (cn s.o (y::args)):=propext Iff.rfl
def JU(K:V->Prop)(v:Fix V K):Prop:=
 match v with
 | .d (.iface t y)=>K (.d (.iface t y))
 | .iface t y=>K (.iface t y)
 |_=>False
@[go_sem] theorem af8 {t:TypeId} {y:D} {K}:JU K (.d (.iface t y))=K (.d (.iface t y)):=propext Iff.rfl
@[go_sem] theorem af9 {t:TypeId} {y:V} {K}:JU K (.iface t y)=K (.iface t y):=propext Iff.rfl
def Hu(K:V->List (Nat×ab)->Prop)(id:Nat)(l:Fix (List (D×D)) (K,id)):Prop:=G3 id l fun v Δ _=>K v Δ
def MF(K:V->List (Nat×ab)->Prop)(str:Bool)(Zw:Fix (Option gz) (K,str))(left:Fix (Option (Nat×List (D×D))) (K,str)):Prop:=
 match left with
 |some (id,l)=>str=false/\Hu K id l
 |none=>kV K Zw
@[go_sem] theorem Zx {K} {Zw:Option gz} {id:Nat} {l:List (D×D)}:MF K false Zw (some (id,l))=Hu K id l:=propext ⟨fun h=>h.2,fun h=>⟨rfl,h⟩⟩
@[go_sem] theorem Zy {K} {str:Bool} {Zw:Option gz}:MF K str Zw none=kV K Zw:=propext Iff.rfl
def C7(P:Program)(X:V->S->Prop)(K:S->Prop)(o:bZ)(s:Fix S (X,K,o)):Prop:=
 match o.op with
 | .next x str=>MF (fun v Δ=>K ⟨ba s.env o.dst v,put s.o Δ,s.nx+1⟩) str (pK s.o (s.ev x) str) (pL s.o (s.ev x))
 | .call c=>match c.callee with
   | .value f=>tY P (fun v o' nx'=>K ⟨ba s.env o.dst v,o',nx'⟩) (fun v o' nx'=>X v ⟨s.env,o',nx'⟩) s (s.ev f) (c.args.toList.map s.ev)
   | .invoke r m=>ME P (fun v o' nx'=>K ⟨ba s.env o.dst v,o',nx'⟩) (fun v o' nx'=>X v ⟨s.env,o',nx'⟩) s (c.args.toList.map s.ev) (vP P m (s.ev r))
   |_=>kV (fun v Δ=>K ⟨ba s.env o.dst v,put s.o Δ,s.nx+1⟩) (gQ P s s.nx o.op)
 | .panic x=>JU (fun v=>X v s) (s.ev x)
 |op=>kV (fun v Δ=>K ⟨ba s.env o.dst v,put s.o Δ,s.nx+1⟩) (gQ P s s.nx op)
@[reducible] def eS:Op->Option (Operand×List Operand)
  | .call c=>match c.callee with
    | .value f=>some (f,c.args.toList)
    |_=>none
  |_=>none
def jg(A B:Prop)(t:Fix Bool (A,B)):Prop:=rz t A B
@[go_sem] theorem Ww (A B:Prop):jg A B true=A:=vX A B
@[go_sem] theorem TO (A B:Prop):jg A B false=B:=tT A B
def FE(P:Program)(X:V->S->Prop)(K:S->Prop)(o:bZ)(s:S)(f:Operand)(args:List Operand)(c:Fix Bool (X,K,o,s,f,args)):Prop:=
 Ht P (s.ev f) (args.map s.ev) s.o (fun v=>K ⟨ba s.env o.dst v,s.o,s.nx+1⟩) c\/jg (C7 P X K o s) (K ⟨ba s.env o.dst (.bW []),s.o,s.nx+1⟩) c
def A3(P:Program)(X:V->S->Prop)(K:S->Prop)(o:bZ)(s:S)(c:Fix (Option Bool) (X,K,o,s)):Prop:=
 match c with
 |none=>False
 |some c=>match eS o.op with
  |some (f,args)=>FE P X K o s f args c
  |none=>if lG o.op=true then kV (fun v _=>K ⟨ba s.env o.dst v,s.o,s.nx+1⟩) (lF c (gQ P s s.nx o.op))
   else jg (C7 P X K o s) (K ⟨ba s.env o.dst (.bW []),s.o,s.nx+1⟩) c
def sX(P:Program)(X:V->S->Prop)(K:S->Prop)(l:List bZ)(s:Fix S (X,K,l)):Prop:=
 match l with
 |[]=>K s
 |o::l=>match o.gd with
  |none=>C7 P X (sX P X K l) o s
  |some (d,want)=>A3 P X (sX P X K l) o s (m7 (s.env d) want)
def j9(want:Bool)(A B:Prop)(v:Fix V (A,B)):Prop:=
 match v with
 | .d (.bool b)=>rz (b==want) A B
 | .bW []=>B
 |_=>False
@[go_sem] theorem TP (b:Bool) (A B:Prop):j9 true A B (.d (.bool b))=jg A B b:=by simp[j9,jg]
@[go_sem] theorem Qg (b:Bool) (A B:Prop):j9 false A B (.d (.bool b))=jg A B (!b):=by simp[j9,jg]
@[go_sem] theorem Zz (want:Bool) (A B:Prop):j9 want A B (.bW [])=B:=propext Iff.rfl
@[go_sem] theorem Wx (c b want:Bool) (A B:Prop):j9 want A B (V.A2 c (.d (.bool b)))=jg A B (c&&(b==want)):=by cases c<;>simp[j9,V.A2,jg]
abbrev KD:=V->List (Nat×ab)->List Nat->Prop
abbrev XD:=V->List Nat->List Nat->Prop
def MG(P:Program)(g:FuncId)(K:KD)(X:XD)(o:Nat->ab)(rd:List Nat)(ds:Fix (List D) (K,X,o,rd))(all:Fix (List V) (K,X,o,rd)):Prop:=
 tX P g ds (fun v=>K v (bG o (V.bg all)) rd) (fun v=>K v [] rd) (fun v=>X v [] rd)
def sY(P:Program)(g:FuncId)(K:KD)(X:XD)(o:Nat->ab)(nx fr:Nat)(all:Fix (List V) (K,X,o,nx)):Prop:=js P g all o nx fr K X
def mJ(P:Program)(g:FuncId)(K:KD)(X:XD)(o:Nat->ab)(nx fr:Nat)(rd:List Nat)(ds:Fix (List D) (K,X,o,nx,rd))(all:Fix (List V) (K,X,o,nx,rd)):Prop:=MG P g K X o rd ds all\/sY P g K X o nx fr all
def sZ(P:Program)(K:KD)(X:XD)(o:Nat->ab)(nx fr:Nat)(rd:List Nat)(g:FuncId)(all:List V)(ds:Fix (Option (List D)) (K,X,o,nx,rd,all)):Prop:=
 match ds with
 |some ds=>mJ P g K X o nx fr rd ds all
 |none=>sY P g K X o nx fr all
@[go_sem] theorem TQ {P:Program} {o:Nat->ab} {nx fr:Nat} {rd:List Nat} {ds:List D} {g:FuncId} {all:List V} {K X}:sZ P K X o nx fr rd g all (some ds)=mJ P g K X o nx fr rd ds all:=propext Iff.rfl
@[go_sem] theorem TR {P:Program} {o:Nat->ab} {nx fr:Nat} {rd:List Nat} {g:FuncId} {all:List V} {K X}:sZ P K X o nx fr rd g all none=sY P g K X o nx fr all:=propext Iff.rfl
def C8(P:Program)(K:KD)(X:XD)(o:Nat->ab)(nx fr:Nat)(rd:Fix (List Nat) (K,X,o,nx))(f:Fix V (K,X,o,nx))(args:Fix (List V) (K,X,o,nx)):Prop:=
 match f with
 | .func (.func g) first cap=>sZ P K X o nx fr rd g (first++args++cap) (cn o (first++args++cap))
 |_=>False
@[go_sem] theorem Wy {P:Program} {o:Nat->ab} {nx fr:Nat} {rd:List Nat} {g:FuncId} {first cap args:List V} {K X}:C8 P K X o nx fr rd (.func (.func g) first cap) args=sZ P K X o nx fr rd g (first++args++cap) (cn o (first++args++cap)):=propext Iff.rfl
def wm(K:KD)(rd:List Nat)(x:Fix (Option gz) (K,rd)):Prop:=match x with|some (v,Δ,_)=>K v Δ rd|none=>False
@[go_sem] theorem Wz {v:V} {Δ:List (Nat×ab)} {r rd:List Nat} {K}:wm K rd (some (v,Δ,r))=K v Δ rd:=propext Iff.rfl
@[go_sem] theorem ZA {v:V} {r rd:List Nat} {K}:wm K rd (Zr v r)=K v [] rd:=propext Iff.rfl
def O5(P:Program)(K:KD)(X:XD)(fr:Nat)(o:bZ)(s:Fix S (K,X,o)):Prop:=
 match eS o.op with
 |some (f,args)=>C8 P K X s.o s.nx fr (pC s o.op) (s.ev f) (args.map s.ev)
 |none=>wm K (pC s o.op) (gQ P s fr o.op)
def JV(P:Program)(KB:List Nat->Fp->Prop)(pr:List (List Nat))(l:List bZ)(fr:Nat)(fp:Fix Fp (KB,l))(bad ws:Fix (List Nat) (KB,l))(s:Fix S (KB,l)):Prop:=iP P KB pr l fr s fp bad ws
def ql(P:Program)(K:S->Fp->Prop)(KP:V->List Nat->Fp->Prop)(pr:List (List Nat))(l:List bZ)(fr:Nat)(s:Fix S (K,KP,l))(fp:Fix Fp (K,KP,l)):Prop:=
 match l with
 |[]=>K s fp
 |o::l=>match o.gd with
  |none=>O5 P (fun v Δ rd=>ql P K KP pr l (fr+1) ⟨ba s.env o.dst v,put s.o Δ,s.nx⟩ (fp++[(rd,Δ.map (·.1))]))
   (fun v ws rd=>JV P (KP v) pr l (fr+1) (fp++[(rd,[])]) [fp.length] (ws++fp.flatMap (·.2)) ⟨ba s.env o.dst .ad,s.o,s.nx⟩) fr o s
  |some (d,want)=>j9 want (O5 P (fun v Δ rd=>ql P K KP pr l (fr+1) ⟨ba s.env o.dst v,put s.o Δ,s.nx⟩ (fp++[(rd,Δ.map (·.1))]))
   (fun v ws rd=>JV P (KP v) pr l (fr+1) (fp++[(rd,[])]) [fp.length] (ws++fp.flatMap (·.2)) ⟨ba s.env o.dst .ad,s.o,s.nx⟩) fr o s)
   (ql P K KP pr l (fr+1) ⟨ba s.env o.dst (.bW []),s.o,s.nx⟩ (fp++[([],[])])) (s.env d)
def Qh(pr:List (List Nat))(nx:Nat)(Q:fS->S->Prop)(s:Fix S Q)(fp:Fix Fp Q):Prop:=FA pr nx Q s fp
def s7(l:List bZ)(k:Fix Nat l):Option Nat:=match l with
 |[]=>none
 |o::l=>match o.gd,eS o.op with
  |none,some (.tmp _,_)=>some k
  |_,_=>s7 l (k+1)
def TS(P:Program)(pr:List (List Nat))(l:List bZ)(nx:Nat)(Q:fS->S->Prop)(s:Fix S (P,pr,l,nx,Q))(fp:Fix Fp (P,pr,l,nx,Q)):Prop:=ff pr fp=true/\sX P (fun v s=>Q (.bN v) s) (Q .normal) l ⟨s.env,s.o,nx⟩
def Qi(P:Program)(l:List bZ)(pr:List (List Nat))(Q:fS->S->Prop)(s:S)(sp:Fix (Option Nat) (P,l,pr,Q,s)):Prop:=match sp with
 |none=>ql P (Qh pr (s.nx+l.length) Q) (C1 pr l s Q) pr l s.nx s []
 |some m=>m<=l.length/\FB pr m=true/\ql P (TS P pr (l.drop m) (s.nx+m) Q) (fun _ _ _=>False) pr (l.take m) s.nx s []
def zm(A B:Prop)(v:Fix V (A,B)):Prop:=
 match v with
 | .d (.bool t)=>jg A B t
 | .fF=>A/\B
 |_=>False
@[go_sem] theorem ZB (A B:Prop):zm A B .fF=(A/\B):=propext Iff.rfl
@[go_sem] theorem WA (t:Bool) (A B:Prop):zm A B (.d (.bool t))=jg A B t:=propext Iff.rfl
def Hv{ι:Type}(b:Nat)(st:ι->S)(cH:ι->Prop)(qm:ι->Nat)(i:ι)(s:S):Prop:=∃j,cH j/\qm j<qm i/\bO b s (st j)
def wo(next:S->Prop)(Q:fS->S->Prop)(e:fS)(s:S):Prop:=match e with| .normal=>next s|e=>Q e s
section
variable {N:S->Prop}{Q:fS->S->Prop}{s:S}
@[go_sem ↓] theorem Qj:wo N Q .normal s=N s:=propext Iff.rfl
@[go_sem ↓] theorem WB {id:Nat}:wo N Q (.exit id) s=Q (.exit id) s:=propext Iff.rfl
@[go_sem ↓] theorem ZC:wo N Q .ret s=Q .ret s:=propext Iff.rfl
@[go_sem ↓] theorem ZD {v:V}:wo N Q (.bN v) s=Q (.bN v) s:=propext Iff.rfl
end
def Hw(b:Nat)(body:(fS->S->Prop)->S->Prop)(Q:fS->S->Prop)(s:Fix S (body,Q)):Prop:=
 ∃ (ι:Type) (st:ι->S) (cH:ι->Prop) (qm:ι->Nat) (i0:ι),cH i0/\bO b s (st i0)/\∀i,cH i->body (wo (Hv b st cH qm i) Q) (st i)
theorem aD{ι:Type}{b:Nat}{body:(fS->S->Prop)->S->Prop}{Q:fS->S->Prop}{s:S}(st:ι->S)(cH:ι->Prop)(qm:ι->Nat)(i0:ι)(h0:cH i0)(hle:bO b s (st i0))
 (h:∀i,cH i->body (wo (Hv b st cH qm i) Q) (st i)):Hw b body Q s:=⟨ι,st,cH,qm,i0,h0,hle,h⟩
def uJ(P:Program)(n b:Nat)(rd:Bool)(gop:Operand)(ps:List Nat)(x y:IC)(Q:fS->S->Prop)(s:Fix S (x,y,Q))(g:Fix V (x,y,Q)):Prop:=rd=false/\(CK P n g ps x y Q s\/∃s',bO b s s'/\CK P n (s'.ev gop) ps x y Q s')
def ke(P:Program)(n b:Nat)(rd:Bool)(c:IC)(Q:fS->S->Prop)(s:Fix S (c,Q)):Prop:=
 match c with
 | .skip=>Q .normal s
 | .ag l=>sX P (fun v s=>Q (.bN v) s) (Q .normal) l s
 | .dH l pr=>Qi P l pr Q s (s7 l 0)
 | .seq x y=>ke P n b rd x (re (fun s=>ke P n b rd y Q s) Q) s
 | .cond c x y=>zm (ke P n b rd x Q s) (ke P n b rd y Q s) (s.ev c)
 | .block id x=>ke P n b rd x (fU id Q) s
 | .loop x=>Hw b (fun Q s=>ke P n b rd x Q s) Q s
 | .exit id=>Q (.exit id) s
 | .ret=>Q .ret s
 | .KJ g ps x y=>uJ P n b rd g ps x y Q s (s.ev g)
 | .bad=>False
section
variable {P:Program}{n b:Nat}{rd:Bool}
theorem C9{s:S}{f:V}{args:List V}{K K':V->(Nat->ab)->Nat->Prop}{X X':V->(Nat->ab)->Nat->Prop}(hK:∀v o n,K v o n->K' v o n)(hX:∀v o n,X v o n->X' v o n)(h:tY P K X s f args):
 match(generalizing:=false) f with
  | .func (.func g) first cap=>match cn s.o (first++args++cap)with
    |some ds=>vW P g ds s.o (put s.o (bG s.o (V.bg (first++args++cap)))) (put s.o (sF s.o (V.bg (first++args++cap)))) (fun v o'=>K' v o' (s.nx+1)) (fun v o'=>X' v o' (s.nx+1))\/tS P g (first++args++cap) s.o s.nx K' X'
    |none=>tS P g (first++args++cap) s.o s.nx K' X'
  | .kM id=>dQ P id args s.o s.nx K' X'
  |_=>False:=by
 unfold tY nR zl at h
 split at h
 ·rename_i g first cap
  cases fD:cn s.o (first++args++cap)with
  |some ds=>
   simp only[fD]at h|-
   rcases h with⟨out,h1,h2|⟨h3,h2⟩|⟨h3,h2⟩⟩|h
   ·exact .inl ⟨out,h1, .inl (by cases out<;>first|exact hK _ _ _ h2|exact hX _ _ _ h2)⟩
   ·exact .inl ⟨out,h1, .inr (.inl ⟨h3,by cases out<;>first|exact hK _ _ _ h2|exact hX _ _ _ h2⟩)⟩
   ·exact .inl ⟨out,h1, .inr (.inr ⟨h3,by cases out<;>first|exact hK _ _ _ h2|exact hX _ _ _ h2⟩)⟩
   ·exact .inr (pD.mono hK hX h)
  |none=>
   simp only[fD]at h|-
   exact pD.mono hK hX h
 ·exact dQ.mono hK hX h
 ·exact h.elim
theorem zo{x:Option gz}{K:V->List (Nat×ab)->Prop}(h:kV K x):∃v Δ rd,x=some (v,Δ,rd)/\K v Δ:=by
 unfold kV at h;split at h
 ·exact⟨_,_,_,rfl,h⟩
 ·exact h.elim
theorem A4{s:S}{o:bZ}{X X':V->S->Prop}{K K':S->Prop}(hK:∀s,K s->K' s)(hX:∀v s,X v s->X' v s)(h:C7 P X K o s):KZ P s o X' K':=by
 unfold C7 at h
 unfold KZ
 have hs:∀ {op:Op},(kV (fun v Δ=>K ⟨ba s.env o.dst v,put s.o Δ,s.nx+1⟩) (gQ P s s.nx op))->(match gQ P s s.nx op with|some (v,Δ,_)=>K' ⟨ba s.env o.dst v,put s.o Δ,s.nx+1⟩|none=>False):=by
  intro op h
  obtain⟨v,Δ,rd,he,h⟩:=zo h
  simp only[he];exact hK _ h
 split at h
 ·rename_i x str hx
  rw[hx]
  unfold MF at h
  simp only
  split at h
  ·rename_i id l hl
   simp only[hl]
   exact⟨h.1,fun e=>hK _ (h.2.1 e),fun i k x e=>hK _ (h.2.2 i k x e)⟩
  ·rename_i hl
   simp only[hl]
   exact hs (op:= .next x str) h
 ·rename_i c hc
  simp only[hc]
  split at h
  ·rename_i f hf
   simp only[hf]
   exact C9 (K:=fun v o' nx'=>K ⟨ba s.env o.dst v,o',nx'⟩) (X:=fun v o' nx'=>X v ⟨s.env,o',nx'⟩) (fun v o n h=>hK _ h) (fun v o n h=>hX _ _ h) h
  ·rename_i r m hf
   simp only[hf]
   unfold ME at h
   split at h
   ·rename_i g y hr
    simp only[hr]
    unfold C6 at h
    split at h
    ·rename_i ds fD
     obtain⟨out,h1,h2⟩:=h
     refine .inl ⟨ds,fD,out,h1, ?_⟩
     rcases h2 with h2|⟨h3,h2⟩|⟨h3,h2⟩
     ·exact .inl (by cases out<;>first|exact hK _ h2|exact hX _ _ h2)
     ·exact .inr (.inl ⟨h3,by cases out<;>first|exact hK _ h2|exact hX _ _ h2⟩)
     ·exact .inr (.inr ⟨h3,by cases out<;>first|exact hK _ h2|exact hX _ _ h2⟩)
    ·exact h.elim
   ·exact h.elim
  ·rename_i hf hi
   rw[hc]at h
   obtain⟨Me,args,ts⟩:=c
   cases Me with
   |value f=>exact absurd rfl (hf f)
   |invoke r m=>exact absurd rfl (hi r m)
   |_=>exact hs h
 ·rename_i x hx
  simp only[hx]
  unfold JU at h
  split at h
  ·rename_i hv;simp only[hv];exact hX _ _ h
  ·rename_i hv;simp only[hv];exact hX _ _ h
  ·exact h.elim
 ·rename_i uz hc hp
  have h2:=hs h
  cases hh:o.op<;>first
   |exact absurd hh (hc _)
   |exact absurd hh (hp _)
   |exact absurd hh (uz _ _)
   |(rw[hh]at h2;exact h2)
theorem MH{s:S}{o:bZ}{X:V->S->Prop}{K:S->Prop}(hp:lG o.op=true){v:V}{Δ:List (Nat×ab)}{rd:List Nat}(he:gQ P s s.nx o.op=some (v,Δ,rd))(h:K ⟨ba s.env o.dst v,put s.o Δ,s.nx+1⟩):KZ P s o X K:=by
 unfold KZ
 split
 ·rename_i c hc
  split
  ·rename_i f hf;rw[hc]at hp;simp[lG,hf]at hp
  ·rename_i r m hf;rw[hc]at hp;simp[lG,hf]at hp
  ·rw[he];exact h
 ·rename_i x hx;rw[hx]at hp;simp[lG]at hp
 ·rename_i x str hx;rw[hx]at hp;simp[lG]at hp
 ·rw[he];exact h
theorem s8{X X':V->S->Prop}{K K':S->Prop}(hK:∀s,K s->K' s)(hX:∀v s,X v s->X' v s):∀ (l:List bZ) (s:S),sX P X K l s->qi P X' K' l s
 |[],s,h=>hK _ h
 |o::l,s,h=>by
  have ih:=s8 hK hX l
  unfold sX at h
  unfold qi
  cases hg:o.gd with
  |none=>
   simp only[hg]at h|-
   exact A4 ih hX h
  |some p=>
   obtain⟨d,want⟩:=p
   simp only[hg]at h|-
   unfold A3 at h
   split at h
   ·exact h.elim
   ·rename_i c hc
    have WC:∀ {A B:Prop},(c=true->A)->(c=false->B)->(match s.env d with
     | .d (.bool b)=>if b=want then A else B
     | .bW []=>B
     |_=>False):=by
     intro A B hA hB
     generalize s.env d=v at hc
     unfold m7 at hc
     split at hc
     ·rename_i b
      injection hc with hc
      split
      ·rename_i e;exact hA (by rw[<- hc];simp[e])
      ·rename_i e;exact hB (by rw[<- hc];simp[e])
     ·injection hc with hc
      exact hB hc.symm
     ·cases hc
    split at h
    ·rename_i f args K0
     rcases h with h|h
     case inr=>exact WC (fun TT=>A4 ih hX (h.1 TT)) (fun WD=>ih _ (h.2 WD))
     obtain⟨rs,h1,h2⟩:=h
     refine WC (fun TT=> ?_) (fun WD=> ?_)
     ·unfold eS at K0
      split at K0
      ·rename_i c' yW
       split at K0
       ·rename_i f' xT
        injection K0 with K0;injection K0 with e1 e2;subst e1;subst e2
        have eW:=h1 TT
        unfold KZ
        simp only[yW,xT]
        unfold C4 at eW
        split at eW
        ·rename_i g first cap xL
         simp only[xL]
         split at eW
         ·rename_i ds fD
          simp only[fD]
          refine .inl ⟨.ret rs,eW.1, .inr (.inl ⟨eW.2, ?_⟩)⟩
          refine ih _ ?_
          rw[TT]at h2
          exact h2
         ·exact eW.elim
        ·exact eW.elim
       ·cases K0
      ·cases K0
     ·refine ih _ ?_
      rw[WD]at h2
      exact h2
    ·split at h
     ·rename_i hp
      obtain⟨v,Δ,rd,he,h⟩:=zo h
      refine WC (fun TT=> ?_) (fun WD=> ?_)
      ·rw[TT]at he
       simp only[lF,if_true]at he
       split at he
       ·rename_i v' uN qF
        injection he with he;injection he with e1 e2;subst e1
        exact MH hp qF (ih _ h)
       ·cases he
      ·rw[WD]at he
       simp only[lF]at he
       injection he with he;injection he with e1 e2;subst e1
       exact ih _ h
     ·exact WC (fun TT=>A4 ih hX (h.1 TT)) (fun WD=>ih _ (h.2 WD))
theorem A5{op:Op}{f:Operand}{args:List Operand}(h:eS op=some (f,args)):∃c,op= .call c/\c.callee= .value f/\c.args.toList=args:=by
 unfold eS at h
 split at h
 ·rename_i c
  split at h
  ·rename_i f' xT
   injection h with h;injection h with e1 e2;subst e1;subst e2
   exact⟨c,rfl,xT,rfl⟩
  ·cases h
 ·cases h
theorem JW{x:Option gz}{rd:List Nat}{K:KD}(h:wm K rd x):∃v Δ r,x=some (v,Δ,r)/\K v Δ rd:=by
 unfold wm at h;split at h
 ·exact⟨_,_,_,rfl,h⟩
 ·exact h.elim
theorem js.mono {P:Program}{g:FuncId}{args:List V}{o:Nat->ab}{nx fr:Nat}{K K':KD}{X X':XD}(hK:∀v Δ r,K v Δ r->K' v Δ r)(hX:∀v w r,X v w r->X' v w r)(h:js P g args o nx fr K X):js P g args o nx fr K' X':=by
 obtain⟨rd,Δ,h1,⟨rs,h2,h3⟩|⟨x,h2,h3⟩|⟨v,h2,h3⟩⟩:=h
 ·exact⟨rd,Δ,h1, .inl ⟨rs,h2,hK _ _ _ h3⟩⟩
 ·exact⟨rd,Δ,h1, .inr (.inl ⟨x,h2,hX _ _ _ h3⟩)⟩
 ·exact⟨rd,Δ,h1, .inr (.inr ⟨v,h2,hK _ _ _ h3⟩)⟩
theorem tX.mono {P:Program}{g:FuncId}{ds:List D}{Kf Kb KX Kf' Kb' KX':V->Prop}(h1:∀v,Kf v->Kf' v)(h2:∀v,Kb v->Kb' v)(h3:∀v,KX v->KX' v)(h:tX P g ds Kf Kb KX):tX P g ds Kf' Kb' KX':=by
 rcases h with⟨rs,a,b|⟨b,c⟩⟩|⟨x,a,b,c⟩|⟨v,a,b⟩
 ·exact .inl ⟨rs,a, .inl (h1 _ b)⟩
 ·exact .inl ⟨rs,a, .inr ⟨b,h2 _ c⟩⟩
 ·exact .inr (.inl ⟨x,a,b,h3 _ c⟩)
 ·exact .inr (.inr ⟨v,a,h1 _ b⟩)
theorem Hx{s:S}{fr:Nat}{o:bZ}{K K':KD}{X X':XD}(hK:∀v Δ r,K v Δ r->K' v Δ r)(hX:∀v w r,X v w r->X' v w r)(h:O5 P K X fr o s):BS P s fr o K' X':=by
 unfold O5 at h
 split at h
 ·rename_i f args K0
  obtain⟨c,h1,h2,h3⟩:=A5 K0
  subst h3
  unfold BS
  simp only[h1,h2]
  unfold C8 sZ at h
  split at h
  ·rename_i g first cap hf
   simp only[hf]
   split at h
   ·rename_i ds fD
    simp only[fD]
    refine h.elim (fun h=> .inl ?_) (fun h=> .inr (js.mono hK hX h))
    refine tX.mono (fun v h=> ?_) (fun v h=> ?_) (fun v h=> ?_) h<;>(rw[h1]at h)
    ·exact hK _ _ _ h
    ·exact hK _ _ _ h
    ·exact hX _ _ _ h
   ·rename_i fD
    simp only[fD]
    exact js.mono hK hX h
  ·exact h.elim
 ·rename_i K0
  obtain⟨v,Δ,rd,he,h⟩:=JW h
  unfold BS
  split
  ·rename_i c hc
   split
   ·rename_i f hf
    exact absurd K0 (by simp[eS,hc,hf])
   ·simp only[he];exact hK _ _ _ h
  ·simp only[he];exact hK _ _ _ h
theorem Da{s:S}{fr:Nat}{o:bZ}{K K':KD}{X X':XD}(hK:∀v Δ r,K v Δ r->K' v Δ r)(hX:∀v w r,X v w r->X' v w r)(h:BS P s fr o K X):BS P s fr o K' X':=by
 unfold BS at h|-
 split at h
 ·rename_i c hc
  rw[hc]at h|-
  split at h
  ·rename_i f hf
   (try simp only[hf])
   split at h
   ·rename_i xL
    (try simp only[xL])
    split at h
    ·exact h.elim (fun h=> .inl (tX.mono (fun v h=>hK _ _ _ h) (fun v h=>hK _ _ _ h) (fun v h=>hX _ _ _ h) h)) (fun h=> .inr (js.mono hK hX h))
    ·exact js.mono hK hX h
   ·exact h.elim
  ·rename_i hf
   split at h
   ·rename_i he
    (try simp only[he])
    exact hK _ _ _ h
   ·exact h.elim
 ·split at h
  ·rename_i he
   (try simp only[he]);exact hK _ _ _ h
  ·exact h.elim
theorem jK{KB KB':List Nat->Fp->Prop}{pr:List (List Nat)}(hK:∀l fp,KB l fp->KB' l fp):∀ (l:List bZ) (fr:Nat) (s:S) (fp:Fp) (bad ws:List Nat),iP P KB pr l fr s fp bad ws->iP P KB' pr l fr s fp bad ws
 |[],_,_,_,_,_,h=>hK _ _ h
 |o::l,fr,s,fp,bad,ws,h=>by
  unfold iP at h|-
  split
  ·rename_i hb
   rw[if_pos hb]at h
   exact jK hK l _ _ _ _ _ h
  ·rename_i hb
   rw[if_neg hb]at h
   split at h
   ·exact Da (fun v Δ r h=>jK hK l _ _ _ _ _ h) (fun _ _ _ h=>h) h
   ·split at h
    ·split at h
     ·rename_i e;simp only[e,if_true]
      exact Da (fun v Δ r h=>jK hK l _ _ _ _ _ h) (fun _ _ _ h=>h) h
     ·rename_i e;simp only[e,if_false]
      exact jK hK l _ _ _ _ _ h
    ·exact jK hK l _ _ _ _ _ h
    ·exact h.elim
theorem jL{K K':S->Fp->Prop}{KP KP':V->List Nat->Fp->Prop}{pr:List (List Nat)}(hK:∀s fp,K s fp->K' s fp)(hP:∀v l fp,KP v l fp->KP' v l fp):∀ (l:List bZ) (fr:Nat) (s:S) (fp:Fp),ql P K KP pr l fr s fp->lE P K' KP' pr l fr s fp
 |[],_,_,_,h=>hK _ _ h
 |o::l,fr,s,fp,h=>by
  have hB:∀v ws (rdl:List Nat),JV P (KP v) pr l (fr+1) (fp++[(rdl,[])]) [fp.length] (ws++fp.flatMap (·.2)) ⟨ba s.env o.dst .ad,s.o,s.nx⟩->
   iP P (KP' v) pr l (fr+1) ⟨ba s.env o.dst .ad,s.o,s.nx⟩ (fp++[(rdl,[])]) [fp.length] (ws++fp.flatMap (·.2)):=fun v ws rdl h=>jK (fun a b h=>hP v a b h) l _ _ _ _ _ h
  unfold ql at h
  unfold lE
  split at h
  ·rename_i hg
   (try simp only[hg])
   exact Hx (fun v Δ r h=>jL hK hP l _ _ _ h) hB h
  ·rename_i d want hg
   (try simp only[hg])
   generalize s.env d=v at h
   unfold j9 at h
   split at h
   ·rename_i bb
    by_cases e:bb=want
    ·subst e
     simp only[if_true]
     exact Hx (fun v Δ r h=>jL hK hP l _ _ _ h) hB (h.1 aE)
    ·simp only[if_neg e]
     exact jL hK hP l _ _ _ (h.2 (by simpa using e))
   ·exact jL hK hP l _ _ _ h
   ·exact h.elim
theorem eh:∀ (c:IC) (Q Q':fS->S->Prop) (s:S),(∀e s,Q e s->Q' e s)->ke P n b rd c Q s->uU P n b rd c Q' s
 | .skip,_,_,_,hQ,h=>hQ _ _ h
 | .ag l,_,_,_,hQ,h=>s8 (fun s h=>hQ _ _ h) (fun v s h=>hQ _ _ h) l _ h
 | .dH l pr,_,_,_,hQ,h=>by
   unfold ke at h
   generalize s7 l 0=sp at h
   cases sp with
   |none=>exact .inl (jL (fun s fp h=>⟨h.1,hQ _ _ h.2⟩) (fun v l fp h=>⟨h.1,hQ _ _ h.2⟩) l _ _ _ h)
   |some m=>exact .inr ⟨m,h.1,h.2.1,jL (fun s fp h=>⟨h.1,s8 (fun s h=>hQ _ _ h) (fun v s h=>hQ _ _ h) _ _ h.2⟩) (fun v l fp h=>h.elim) _ _ _ _ h.2.2⟩
 | .seq x y,Q,Q',s,hQ,h=>eh x _ _ s (fun e s h=>by
  unfold re at h|-
  cases e with
  |normal=>exact eh y _ _ s hQ h
  |_=>exact hQ _ _ h) h
 | .cond c x y,Q,Q',s,hQ,h=>by
   unfold ke zm jg at h
   unfold uU
   split at h
   ·rename_i t ht
    simp only[ht]
    exact⟨fun e=>eh x _ _ s hQ (h.1 e),fun e=>eh y _ _ s hQ (h.2 e)⟩
   ·rename_i ht
    simp only[ht]
    exact⟨eh x _ _ s hQ h.1,eh y _ _ s hQ h.2⟩
   ·exact h.elim
 | .block id x,Q,Q',s,hQ,h=>eh x _ _ s (fun e s h=>by
  unfold fU at h|-
  cases e with
  |exit j=>
   simp only at h|-
   split
   ·rename_i e;rw[if_pos e]at h;exact hQ _ _ h
   ·rename_i e;rw[if_neg e]at h;exact hQ _ _ h
  |_=>exact hQ _ _ h) h
 | .loop x,Q,Q',s,hQ,h=>by
   obtain⟨ι,st,cH,qm,i0,h0,hle,h2⟩:=h
   refine⟨fun m s=>∃i,cH i/\qm i=m/\s=st i,⟨qm i0,st i0,hle,i0,h0,rfl,rfl⟩, ?_⟩
   rintro m s0 ⟨i,hg,rfl,rfl⟩
   refine eh x _ _ _ (fun e s h=> ?_) (h2 i hg)
   cases e with
   |normal=>
    obtain⟨j,k1,k2,k3⟩:=h
    exact⟨qm j,st j,k2,k3,j,k1,rfl,rfl⟩
   |_=>exact hQ _ _ h
 | .exit id,_,_,_,hQ,h=>hQ _ _ h
 | .ret,_,_,_,hQ,h=>hQ _ _ h
 | .KJ g ps x y,_,_,_,hQ,h=>⟨h.1,match h.2 with
   | .inl h=>⟨_, .inl rfl,sW hQ h⟩
   | .inr ⟨s',hle,h⟩=>⟨s', .inr hle,sW hQ h⟩⟩
 | .bad,_,_,_,_,h=>h.elim
end
theorem aX.aG {P:Program}(bn:P.follows .mixedOrders=true){f:FuncId}{n:Nat}{ic:IC}{rs:List ResultVar}{ds:List D}{out:R}(hf:aO P f n ic rs)(hl:ds.length<=n)
 (h:ke P n 0 false ic (AE P rs out) ⟨cB (ds.map .d),fun _=> .no,0⟩):aX P f ds out:=
 aX.wh bn hf hl (eh ic _ _ _ (fun _ _ h=>h) h)
def s9(P:Program)(rs:List ResultVar)(K X:V->(Nat->ab)->Nat->Prop)(e:fS)(s:S):Prop:=mF P rs K X e s
theorem bQ.aG {P:Program}(bn:P.follows .mixedOrders=true){f:FuncId}{n:Nat}{ic:IC}{rs:List ResultVar}{args:List V}{o:Nat->ab}{nx:Nat}{K X:V->(Nat->ab)->Nat->Prop}(hf:aO P f n ic rs)(hl:args.length<=n)
 (h:ke P n nx false ic (s9 P rs K X) ⟨cB args,o,nx⟩):bQ P f args o nx K X:=
 bQ.wh bn hf hl (eh ic _ _ _ (fun _ _ h=>h) h)
section
variable {P:Program}{g:FuncId}{ds:List D}{o:Nat->ab}{nx:Nat}{K X:V->(Nat->ab)->Nat->Prop}{all:List V}
theorem ak{rs:List D}(h:aX P g ds (.ret rs))(hf:D.j7 rs=true)(hk:K (jq rs) o (nx+1)):wk P g o nx K X ds all:= .inl ⟨.ret rs,h, .inr (.inl ⟨hf,hk⟩)⟩
theorem bc{rs:List D}(h:aX P g ds (.ret rs))(hk:K (jq rs) (put o (bG o (V.bg all))) (nx+1)):wk P g o nx K X ds all:= .inl ⟨.ret rs,h, .inl hk⟩
theorem bM(h:bQ P g all o nx K X):wk P g o nx K X ds all:= .inr (.inl h)
theorem gK{e:Nat->V}{ds:Option (List D)}(h:bQ P g all o nx K X):nR P g K X ⟨e,o,nx⟩ all ds:=by
 cases ds with
 |some ds=>exact(.inr (.inl h):wk P g o nx K X ds all)
 |none=>exact(.inl h:C5 P g nx K X all o)
theorem aU(h:bQ P g all o nx K X):C5 P g nx K X all o:= .inl h
variable {K:KD}{X:XD}{rd:List Nat}{fr:Nat}
theorem a7{rs:List D}(h:aX P g ds (.ret rs))(hf:D.j7 rs=true)(hk:K (jq rs) [] rd):mJ P g K X o nx fr rd ds all:= .inl (.inl ⟨rs,h, .inr ⟨hf,hk⟩⟩)
theorem aV{rs:List D}(h:aX P g ds (.ret rs))(hk:K (jq rs) (bG o (V.bg all)) rd):mJ P g K X o nx fr rd ds all:= .inl (.inl ⟨rs,h, .inl hk⟩)
theorem zp{v:V}(h:O4 P g ds v)(hk:K v (bG o (V.bg all)) rd):mJ P g K X o nx fr rd ds all:= .inl (.inr (.inr ⟨v,h,hk⟩))
theorem zq{v:V}{uN:List Nat}{Δ:List (Nat×ab)}(m9:uN.all (fun id=>decide (id<nx))=true)(h:zd P g all uN o fr v Δ)(hk:K v Δ uN):mJ P g K X o nx fr rd ds all:= .inr ⟨uN,Δ,m9, .inr (.inr ⟨v,h,hk⟩)⟩
end
theorem gL{P:Program}{f:V}{args:List V}{o:Nat->ab}{K:V->Prop}{c:Bool}(rs:List D)(h:mZ c (C4 P f args o rs))(hk:K (V.A2 c (jq rs))):Ht P f args o K c:=⟨rs,h,hk⟩
theorem ao{t:Bool}{A B:Prop}(h:t=true->A)(h2:t=false->B):jg A B t:=⟨h,h2⟩
theorem aI{pr:List (List Nat)}{nx:Nat}{Q:fS->S->Prop}{s:S}{fp:List (List Nat×List Nat)}(h:ff pr fp=true)(h2:Q .normal ⟨s.env,s.o,nx⟩):Qh pr nx Q s fp:=⟨h,h2⟩
@[go_sem] theorem MI (o:Nat->ab):put o []=o:=rfl
@[go_sem] theorem ZE (o:Nat->ab) (x:Nat×ab) (l:List (Nat×ab)):put o (x::l)=put (ay o x.1 x.2) l:=rfl
@[go_sem] theorem aa {α:Type} (f:Nat->α) (i:Nat) (x:α):ay f i x i=x:=aE
@[go_sem] theorem ae {α:Type} (f:Nat->α) (i j:Nat) (x:α) (h:j≠i):ay f i x j=f j:=by simp[h]
@[go_sem] theorem Qk (v:V) (l:List V):cB (v::l) 0=v:=rfl
@[go_sem] theorem Ql (v:V) (l:List V) (i:Nat):cB (v::l) (i+1)=cB l i:=rfl
@[go_sem] theorem TU (i:Nat):cB [] i= .bW []:=by simp[cB]
@[go_sem] theorem ZF {P:Program} {o:Nat->ab} {t:TypeId} {id off:Nat}:nL P o t (.ptr id off)=match o id with
 | .row cs=>match fh P t cs off with
   |some v=>some (v,[],[id])
   |none=>none
 |_=>none:=by unfold nL;exact Eq.trans rfl rfl
@[go_sem] theorem acd {P:Program} {o:Nat->ab} {t:TypeId} {cs:List D} {off:Nat}:nL P o t (.pp cs off)=match fh P t (cs.map .d) off with
 |some v=>some (v,[],[])
 |none=>none:=by unfold nL;exact Eq.trans rfl rfl
@[go_sem] theorem ace {P:Program} {o:Nat->ab} {t:TypeId} {id ep i sz off:Nat}:nL P o t (.pe id ep i sz off)=match o id with
 | .arr gr _ sq es=>if ep=gr/\sz=sq then match es[i]? with
  |some e=>match fh P t (e.cells.map .d) off with
   |some v=>some (v,[],[id])
   |none=>none
  |none=>none
   else none
 |_=>none:=by unfold nL;exact Eq.trans rfl rfl
section
variable {P:Program}{o:Nat->ab}{t:TypeId}{op:BinOp}{nu:Bool}
@[go_sem] theorem ZG {k:IntKind} {a b:Int}:fO P o op t nu (.d (.int k a)) (.d (.int k b))=match CN op k a b with
 |some v=>one v
 |none=>sJ P o op t nu (.d (.int k a)) (.d (.int k b)):=by
  simp only[fO,AL,if_true]
  cases CN op k a b<;>rfl
@[go_sem] theorem ZH {a b:Bool} (h:oN P t=true):fO P o .eql t nu (.d (.bool a)) (.d (.bool b))=one (.d (.bool (a==b))):=by simp only[fO,AL,Mq,h,if_true]
@[go_sem] theorem ZI {a b:Bool} (h:oN P t=true):fO P o .neq t nu (.d (.bool a)) (.d (.bool b))=one (.d (.bool (a !=b))):=by simp only[fO,AL,Mq,h,if_true]
@[go_sem] theorem ZJ {a b:List UInt8}:fO P o .eql t nu (.d (.str a)) (.d (.str b))=one (.d (.bool (a==b))):=LF
@[go_sem] theorem ZK {a b:List UInt8}:fO P o .neq t nu (.d (.str a)) (.d (.str b))=one (.d (.bool (a !=b))):=LF
@[go_sem] theorem ZL {a b:List D}:fO P o op t nu (.d (.agg a)) (.d (.agg b))=sJ P o op t nu (.d (.agg a)) (.d (.agg b)):=LF
theorem Pz{x:V}{y:V}(h:match y with| .d (.int _ _)| .d (.bool _)| .d (.str _)=>False|_=>True):AL P op t x y=none:=by
 unfold AL
 split<;>first|exact h.elim|rfl
@[go_sem] theorem WE {x:V}:fO P o op t nu x .aw=sJ P o op t nu x .aw:=B0
@[go_sem] theorem WG {x:V}:fO P o op t nu x (.d .fg)=sJ P o op t nu x (.d .fg):=B0
@[go_sem] theorem WH {x:V}:fO P o op t nu x (.d .lP)=sJ P o op t nu x (.d .lP):=B0
@[go_sem] theorem WI {x:V}:fO P o op t nu x (.d .cF)=sJ P o op t nu x (.d .cF):=B0
@[go_sem] theorem WJ {x:V}:fO P o op t nu x (.d .dL)=sJ P o op t nu x (.d .dL):=B0
@[go_sem] theorem acf {b:Bool}:Jc .not (.d (.bool b))=some (.d (.bool !b)):=LH
@[go_sem] theorem acg:Jc .not .fF=some .fF:=LH
@[go_sem] theorem ach {k:IntKind} {n:Int}:Jc .neg (.d (.int k n))=some (.d (.int k (k.wrap (-n)))):=LH
end
@[go_sem] theorem D.ZM (cs:List D):(D.agg cs).cells=cs:=rfl
@[go_sem] theorem D.ZN (k:IntKind) (n:Int):(D.int k n).cells=[.int k n]:=rfl
@[go_sem] theorem D.WK (b:Bool):(D.bool b).cells=[.bool b]:=rfl
@[go_sem] theorem D.ZO (b:List UInt8):(D.str b).cells=[.str b]:=rfl
@[go_sem] theorem D.acj (b:List D):(D.sl b).cells=[.sl b]:=rfl
@[go_sem] theorem D.ack (a b:List D):(D.mp a b).cells=[.mp a b]:=rfl
@[go_sem] theorem D.TV (t:TypeId) (x:D):(D.iface t x).cells=[.iface t x]:=rfl
@[go_sem] theorem D.WL:D.fg.cells=[.fg]:=rfl
@[go_sem] theorem D.WM:D.lP.cells=[.lP]:=rfl
@[go_sem] theorem D.WN:D.cF.cells=[.cF]:=rfl
@[go_sem] theorem D.WO:D.dL.cells=[.dL]:=rfl
attribute [go_sem] V.ofConst V.dA CN Mq rp Fj zc pP iM iN sS gH mG rq rr rv AM jI Mr mD dM cn fh Ap tI mX V.cells D.put bG V.ids V.bg jq D.j7 D.flat R.flat
attribute [go_sem] EV List.take_succ_cons List.take_zero List.take_nil List.drop_zero List.drop_succ_cons List.drop_nil
attribute [go_sem] List.map_cons List.map_nil List.length_cons List.length_nil List.cons_append List.nil_append List.append_nil List.getElem?_cons_zero List.getElem?_cons_succ Option.bind_some Option.bind_none Option.map_some Option.map_none ab.cA ab.cz
section
variable {P:Program}{n b:Nat}{rd:Bool}{Q:fS->S->Prop}{s:S}
@[go_sem] theorem acm:ke P n b rd .skip Q s=Q .normal s:=propext Iff.rfl
@[go_sem] theorem afk {l:List bZ}:ke P n b rd (.ag l) Q s=sX P (fun v s=>Q (.bN v) s) (Q .normal) l s:=propext Iff.rfl
@[go_sem] theorem afl {l:List bZ} {pr:List (List Nat)}:ke P n b rd (.dH l pr) Q s=Qi P l pr Q s (s7 l 0):=propext Iff.rfl
@[go_sem] theorem ZP {l:List bZ} {pr:List (List Nat)}:Qi P l pr Q s none=ql P (Qh pr (s.nx+l.length) Q) (C1 pr l s Q) pr l s.nx s []:=propext Iff.rfl
@[go_sem] theorem acn {k:Nat}:s7 [] k=none:=rfl
@[go_sem] theorem aco {d:Option Nat} {t:Nat} {args:Array Operand} {ts:Array TypeId} {l:List bZ} {k:Nat}:s7 (⟨d, .call ⟨.value (.tmp t),args,ts⟩,none⟩::l) k=some k:=rfl
@[go_sem] theorem afm {d:Option Nat} {op:Op} {g:Nat×Bool} {l:List bZ} {k:Nat}:s7 (⟨d,op,some g⟩::l) k=s7 l (k+1):=rfl
@[go_sem] theorem acp {d:Option Nat} {f:Nat} {args:Array Operand} {ts:Array TypeId} {l:List bZ} {k:Nat}:s7 (⟨d, .call ⟨.value (.func f),args,ts⟩,none⟩::l) k=s7 l (k+1):=rfl
@[go_sem] theorem afn {d:Option Nat} {op:Op} {l:List bZ} {k:Nat} (h:eS op=none):s7 (⟨d,op,none⟩::l) k=s7 l (k+1):=by rw[s7.eq_2];simp only[h]
@[go_sem] theorem afo {x y:IC}:ke P n b rd (.seq x y) Q s=ke P n b rd x (re (fun s=>ke P n b rd y Q s) Q) s:=propext Iff.rfl
@[go_sem] theorem acq {c:Operand} {x y:IC}:ke P n b rd (.cond c x y) Q s=zm (ke P n b rd x Q s) (ke P n b rd y Q s) (s.ev c):=propext Iff.rfl
@[go_sem] theorem ZQ {id:Nat} {x:IC}:ke P n b rd (.block id x) Q s=ke P n b rd x (fU id Q) s:=propext Iff.rfl
@[go_sem] theorem acr {x:IC}:ke P n b rd (.loop x) Q s=Hw b (fun Q s=>ke P n b rd x Q s) Q s:=propext Iff.rfl
@[go_sem] theorem acs {id:Nat}:ke P n b rd (.exit id) Q s=Q (.exit id) s:=propext Iff.rfl
@[go_sem] theorem afp:ke P n b rd .ret Q s=Q .ret s:=propext Iff.rfl
@[go_sem] theorem afq {g:Operand} {ps:List Nat} {x y:IC}:ke P n b rd (.KJ g ps x y) Q s=uJ P n b rd g ps x y Q s (s.ev g):=propext Iff.rfl
@[go_sem] theorem acu {X:V->S->Prop} {K:S->Prop}:sX P X K [] s=K s:=propext Iff.rfl
@[go_sem] theorem ZR {X:V->S->Prop} {K:S->Prop} {d:Option Nat} {op:Op} {l:List bZ}:sX P X K (⟨d,op,none⟩::l) s=C7 P X (sX P X K l) ⟨d,op,none⟩ s:=propext Iff.rfl
@[go_sem] theorem ZS {X:V->S->Prop} {K:S->Prop} {d:Option Nat} {op:Op} {g:Nat} {w:Bool} {l:List bZ}:sX P X K (⟨d,op,some (g,w)⟩::l) s=A3 P X (sX P X K l) ⟨d,op,some (g,w)⟩ s (m7 (s.env g) w):=propext Iff.rfl
variable {X:V->S->Prop}{K:S->Prop}{d:Option Nat}{op:Op}{g:Option (Nat×Bool)}{f:Operand}{args:Array Operand}{ts:Array TypeId}{c:Bool}
@[reducible] def ZT:Op->Bool
  | .call c=>match c.callee with
    | .value _=>true
    | .invoke .. =>true
    |_=>false
  | .panic _=>true
  | .next .. =>true
  |_=>false
@[go_sem] theorem aga (h:ZT op=false):C7 P X K ⟨d,op,g⟩ s=kV (fun v Δ=>K ⟨ba s.env d v,put s.o Δ,s.nx+1⟩) (gQ P s s.nx op):=by
  unfold C7
  cases op with
  |call c=>
   obtain⟨Me,args,ts⟩:=c
   cases Me with
   |value f=>simp[ZT]at h
   |invoke r m=>simp[ZT]at h
   |_=>rfl
  |panic x=>simp[ZT]at h
  |next x str=>simp[ZT]at h
  |_=>rfl
@[go_sem] theorem acv {x:Operand} {str:Bool}:C7 P X K ⟨d, .next x str,g⟩ s=MF (fun v Δ=>K ⟨ba s.env d v,put s.o Δ,s.nx+1⟩) str (pK s.o (s.ev x) str) (pL s.o (s.ev x)):=propext Iff.rfl
@[go_sem] theorem acw:C7 P X K ⟨d, .call ⟨.value f,args,ts⟩,g⟩ s=tY P (fun v o' nx'=>K ⟨ba s.env d v,o',nx'⟩) (fun v o' nx'=>X v ⟨s.env,o',nx'⟩) s (s.ev f) (args.toList.map s.ev):=propext Iff.rfl
@[go_sem] theorem WQ {m:String}:C7 P X K ⟨d, .call ⟨.invoke f m,args,ts⟩,g⟩ s=ME P (fun v o' nx'=>K ⟨ba s.env d v,o',nx'⟩) (fun v o' nx'=>X v ⟨s.env,o',nx'⟩) s (args.toList.map s.ev) (vP P m (s.ev f)):=propext Iff.rfl
@[go_sem] theorem ZU:C7 P X K ⟨d, .panic f,g⟩ s=JU (fun v=>X v s) (s.ev f):=propext Iff.rfl
@[go_sem] theorem ZV:A3 P X K ⟨d, .call ⟨.value f,args,ts⟩,g⟩ s (some c)=FE P X K ⟨d, .call ⟨.value f,args,ts⟩,g⟩ s f args.toList c:=propext Iff.rfl
theorem iR{e:Nat->V}{ob:Nat->ab}{nx:Nat}(h:Ht P ((⟨e,ob,nx⟩:S).ev f) (args.toList.map (⟨e,ob,nx⟩:S).ev) ob (fun v=>K ⟨ba e d v,ob,nx+1⟩) c):FE P X K ⟨d,op,g⟩ ⟨e,ob,nx⟩ f args.toList c:= .inl h
theorem Db{s:S}{o:bZ}{l:List Operand}(h:jg (C7 P X K o s) (K ⟨ba s.env o.dst (.bW []),s.o,s.nx+1⟩) c):FE P X K o s f l c:= .inr h
@[go_sem] theorem ZW (h:lG op=true):A3 P X K ⟨d,op,g⟩ s (some c)=kV (fun v _=>K ⟨ba s.env d v,s.o,s.nx+1⟩) (lF c (gQ P s s.nx op)):=by
  have h2:eS op=none:=by
   cases hc:eS op with
   |none=>rfl
   |some x=>
    exfalso
    unfold eS at hc
    split at hc
    ·split at hc
     ·rename_i hv;simp[lG,hv]at h
     ·cases hc
    ·cases hc
  simp only[A3,h2,h,if_true]
@[go_sem] theorem ZX (h:lG op=false) (h2:eS op=none):A3 P X K ⟨d,op,g⟩ s (some c)=jg (C7 P X K ⟨d,op,g⟩ s) (K ⟨ba s.env d (.bW []),s.o,s.nx+1⟩) c:=by
  simp[A3,h2,h]
@[go_sem] theorem WR {l:List Operand}:FE P X K ⟨d,op,g⟩ s f l false=K ⟨ba s.env d (.bW []),s.o,s.nx+1⟩:=by
  refine propext ⟨fun h=> ?_,fun h=> .inr ⟨(fun e=>by cases e),fun _=>h⟩⟩
  rcases h with⟨rs,_,h⟩|h
  ·exact h
  ·exact h.2 rfl
@[go_sem] theorem ZY {l:List Operand} (hl:args.toList=l):FE P X K ⟨d, .call ⟨.value f,args,ts⟩,g⟩ s f l true=C7 P X K ⟨d, .call ⟨.value f,args,ts⟩,g⟩ s:=by
  subst hl
  refine propext ⟨fun h=> ?_,fun h=> .inr ⟨fun _=>h,(fun e=>by cases e)⟩⟩
  rcases h with⟨rs,h1,h⟩|h
  ·have h1:=h1 rfl
   unfold C4 at h1
   unfold C7 tY nR
   simp only
   split at h1
   ·rename_i fv gg first cap hf
    simp only[hf]
    split at h1
    ·rename_i ds fD
     simp only[fD]
     exact .inl ⟨.ret rs,h1.1, .inr (.inl ⟨h1.2,h⟩)⟩
    ·exact h1.elim
   ·exact h1.elim
  ·exact h.1 rfl
variable {KV:KD}{XV:XD}
@[go_sem] theorem acx {fr:Nat}:O5 P KV XV fr ⟨d, .call ⟨.value f,args,ts⟩,g⟩ s=C8 P KV XV s.o s.nx fr (pC s (.call ⟨.value f,args,ts⟩)) (s.ev f) (args.toList.map s.ev):=propext Iff.rfl
@[go_sem] theorem agb {fr:Nat} (h2:eS op=none):O5 P KV XV fr ⟨d,op,g⟩ s=wm KV (pC s op) (gQ P s fr op):=by simp[O5,h2]
variable {KS:S->Prop}
@[go_sem ↓] theorem Qm:re KS Q .normal s=KS s:=propext Iff.rfl
@[go_sem ↓] theorem WS {id:Nat}:re KS Q (.exit id) s=Q (.exit id) s:=propext Iff.rfl
@[go_sem ↓] theorem ZZ:re KS Q .ret s=Q .ret s:=propext Iff.rfl
@[go_sem ↓] theorem Z0 {v:V}:re KS Q (.bN v) s=Q (.bN v) s:=propext Iff.rfl
@[go_sem ↓] theorem O6 {id:Nat}:fU id Q .normal s=Q .normal s:=propext Iff.rfl
@[go_sem ↓] theorem TW {id:Nat}:fU id Q (.exit id) s=Q .normal s:=by simp[fU]
@[go_sem ↓] theorem Qn {id j:Nat} (h:j≠id):fU id Q (.exit j) s=Q (.exit j) s:=by simp[fU,h]
@[go_sem ↓] theorem WT {id:Nat}:fU id Q .ret s=Q .ret s:=propext Iff.rfl
@[go_sem ↓] theorem WU {id:Nat} {v:V}:fU id Q (.bN v) s=Q (.bN v) s:=propext Iff.rfl
def Qo(out:R)(x:Option (List D)):Prop:=match x with|some ds=>out= .ret ds|none=>False
@[go_sem] theorem Z1 {out:R} {ds:List D}:Qo out (some ds)=(out= .ret ds):=propext Iff.rfl
def WV(out:R)(x:Option D):Prop:=match x with|some d=>out= .bN d|none=>False
@[go_sem] theorem Z2 {out:R} {d:D}:WV out (some d)=(out= .bN d):=propext Iff.rfl
def Qp(out:R)(o:Nat->ab)(x:Option (List V)):Prop:=match x with|some vs=>Qo out (cn o vs)|none=>False
@[go_sem] theorem Z3 {out:R} {o:Nat->ab} {vs:List V}:Qp out o (some vs)=Qo out (cn o vs):=propext Iff.rfl
variable {rs:List ResultVar}{out:R}
@[go_sem ↓] theorem Z4:AE P rs out .ret s=Qp out s.o (mD P s rs):=propext Iff.rfl
@[go_sem ↓] theorem Qq:AE P rs out .normal s=Qp out s.o (mD P s rs):=propext Iff.rfl
@[go_sem ↓] theorem Z5 {v:V}:AE P rs out (.bN v) s=WV out (dM s.o v):=propext Iff.rfl
def Dc(K:V->(Nat->ab)->Nat->Prop)(o:Nat->ab)(nx:Nat)(x:Fix (Option (List V)) (K,o,nx)):Prop:=match x with
 |some [v]=>K v o nx
 |some vs=>K (.bW vs) o nx
 |none=>False
@[go_sem] theorem acz {K:V->(Nat->ab)->Nat->Prop} {o:Nat->ab} {nx:Nat} {v:V}:Dc K o nx (some [v])=K v o nx:=propext Iff.rfl
@[go_sem] theorem acA {K:V->(Nat->ab)->Nat->Prop} {o:Nat->ab} {nx:Nat}:Dc K o nx (some [])=K (.bW []) o nx:=propext Iff.rfl
@[go_sem] theorem acB {K:V->(Nat->ab)->Nat->Prop} {o:Nat->ab} {nx:Nat} {v u:V} {l:List V}:Dc K o nx (some (v::u::l))=K (.bW (v::u::l)) o nx:=propext Iff.rfl
theorem Hy{K X:V->(Nat->ab)->Nat->Prop}:mF P rs K X .ret s=Dc K s.o s.nx (mD P s rs):=by
 unfold mF Dc
 cases mD P s rs with
 |none=>rfl
 |some l=>match l with
  |[]=>rfl
  |[_]=>rfl
  |_::_::_=>rfl
@[go_sem ↓] theorem acC {K X:V->(Nat->ab)->Nat->Prop}:s9 P rs K X .ret s=Dc K s.o s.nx (mD P s rs):=Hy
@[go_sem ↓] theorem TX {K X:V->(Nat->ab)->Nat->Prop}:s9 P rs K X .normal s=Dc K s.o s.nx (mD P s rs):=(Hy (X:=X):mF P rs K X .ret s=_)
@[go_sem ↓] theorem acD {K X:V->(Nat->ab)->Nat->Prop} {v:V}:s9 P rs K X (.bN v) s=X v s.o s.nx:=propext Iff.rfl
variable {KE:S->Fp->Prop}{KP:V->List Nat->Fp->Prop}{pr:List (List Nat)}{fr:Nat}{fp:Fp}
@[go_sem] theorem acE:ql P KE KP pr [] fr s fp=KE s fp:=propext Iff.rfl
@[go_sem] theorem Z6 {d:Option Nat} {op:Op} {l:List bZ}:ql P KE KP pr (⟨d,op,none⟩::l) fr s fp=
 O5 P (fun v Δ rd=>ql P KE KP pr l (fr+1) ⟨ba s.env d v,put s.o Δ,s.nx⟩ (fp++[(rd,Δ.map (·.1))]))
  (fun v ws rd=>JV P (KP v) pr l (fr+1) (fp++[(rd,[])]) [fp.length] (ws++fp.flatMap (·.2)) ⟨ba s.env d .ad,s.o,s.nx⟩) fr ⟨d,op,none⟩ s:=propext Iff.rfl
@[go_sem] theorem Z7 {d:Option Nat} {op:Op} {g:Nat} {w:Bool} {l:List bZ}:ql P KE KP pr (⟨d,op,some (g,w)⟩::l) fr s fp=
 j9 w (O5 P (fun v Δ rd=>ql P KE KP pr l (fr+1) ⟨ba s.env d v,put s.o Δ,s.nx⟩ (fp++[(rd,Δ.map (·.1))]))
  (fun v ws rd=>JV P (KP v) pr l (fr+1) (fp++[(rd,[])]) [fp.length] (ws++fp.flatMap (·.2)) ⟨ba s.env d .ad,s.o,s.nx⟩) fr ⟨d,op,some (g,w)⟩ s)
   (ql P KE KP pr l (fr+1) ⟨ba s.env d (.bW []),s.o,s.nx⟩ (fp++[([],[])])) (s.env g):=propext Iff.rfl
end
attribute [go_sem] ZT eS lG gQ one mH ba S.ev C4
theorem aj{ι:Type}{b:Nat}{st:ι->S}{cH:ι->Prop}{qm:ι->Nat}{i:ι}{s:S}(j:ι)(h1:cH j)(h2:qm j<qm i)(h3:bO b s (st j)):Hv b st cH qm i s:=⟨j,h1,h2,h3⟩
attribute [irreducible] Qi TS ke sX C7 A3 FE tY nR C6 MD ME Ht wk C5 kV JU jg j9 MG mJ sY sZ C8 wm O5 ql JV uJ zl s9 Dc Qh zm Hw Qo WV Qp wo Hv
end
section
section
variable (ρ:Nat->Option Nat)(o' o:Nat->ab)(nx:Nat)
end
section
variable {M M':Nat->Prop}{φ aJ:Place}{H H':Hp}{w:World}{ρ:Nat->Option Nat}{nx:Nat}
end
end
@[go_sem] theorem oO (v:V) (l:List V):aZ (v::l) 0=v:=rfl
@[go_sem] theorem oP (v:V) (l:List V) (i:Nat):aZ (v::l) (i+1)=aZ l i:=rfl
@[go_sem] theorem rA (i:Nat):aZ [] i= .ad:=by simp[aZ]
@[go_sem] theorem TY (k:Nat):(0<=(k:Int))=True:=aE
attribute [go_sem] List.getElem?_map List.length_map Int.toNat_natCast
attribute [go_sem] fi List.flatMap_cons List.flatMap_nil
attribute [go_sem] isConst sJ PE sH sI Ce sG qO EX PF yE Ji p9 qa yD vA vB qP
attribute [go_sem] pC V.refs V.aL
attribute [go_sem] List.all_nil List.all_cons Option.some.injEq D.int.injEq D.bool.injEq Nat.zero_add Nat.add_zero
theorem wrap64{n:Int}(h1: -9223372036854775808<=n)(h2:n<=9223372036854775807):IntKind.i64.wrap n=n:=by
 unfold IntKind.wrap
 have e1:((2:Int)^IntKind.i64.bits)=18446744073709551616:=bC
 have e2:((2:Int)^(IntKind.i64.bits - 1))=9223372036854775808:=bC
 have e3:IntKind.i64.signed=true:=rfl
 simp only[e1,e2,e3,Bool.true_and,decide_eq_true_eq]
 split<;>omega
structure Good (o:Nat->ab) (nx:Nat):Prop where
 fresh:∀id,nx<=id->o id= .no
 refs:∀id,∀r∈(o id).refs,r<nx
theorem Good.nil {nx:Nat}:Good (fun _=> .no) nx:=⟨fun _ _=>rfl,fun id r h=>by cases h⟩
theorem Good.ay {o:Nat->ab}{nx i:Nat}{x:ab}(h:Good o nx)(hi:i<nx)(hx:x.refs.all (fun r=>decide (r<nx))=true):Good (ay o i x) nx:=by
 refine⟨fun id ax=> ?_,fun id r hr=> ?_⟩
 ·rw[ae _ _ _ _ (by omega)];exact h.fresh id ax
 ·by_cases e:id=i
  ·subst e
   rw[aa]at hr
   simpa using List.all_eq_true.1 hx r hr
  ·rw[ae _ _ _ _ e]at hr
   exact h.refs id r hr
theorem Good.mono {o:Nat->ab}{nx m:Nat}(h:Good o nx)(hm:nx<=m):Good o m:=⟨fun id ax=>h.fresh id af,fun id r hr=>Nat.lt_of_lt_of_le (h.refs id r hr) hm⟩
theorem Good.lt {o:Nat->ab}{nx id:Nat}(h:Good o nx)(hn:o id≠ .no):id<nx:=by
 rcases Nat.lt_or_ge id nx with hl|hl
 ·exact hl
 ·exact absurd (h.fresh id hl) hn
def CtO(P:Program)(g:FuncId)(args:List V)(o:Nat->ab)(v:V):Prop:=
 ∀nx,Good o nx->∀K X,(∀o' nx',nx<=nx'->Good o' nx'->(∀id,id<nx->o' id=o id)->K v o' nx')->bQ P g args o nx K X
theorem V.yi:∀ (l:List V) (i:Nat),∀r∈(aZ l i).refs,r∈V.aL l
 |[],i,r,h=>by rw[rA]at h;cases h
 |v::l,0,r,h=>by rw[oO]at h;simp only[V.aL,List.mem_append];exact .inl h
 |v::l,i+1,r,h=>by rw[oP]at h;simp only[V.aL,List.mem_append];exact .inr (V.yi l i r h)
theorem bO.back {b:Nat}{s:S}{env:Nat->V}{o:Nat->ab}{nx:Nat}(hb:b<=nx)(hn:nx<=s.nx)(hg:Good o nx)(ho:∀id,id<nx->s.o id=o id)
 (he:∀i,env i= .ad\/(env i=s.env i/\∀r∈(env i).refs,r<nx)):bO b s ⟨env,o,nx⟩:=by
 intro M φ w tm hH hd
 have cY:∀k,cL φ (hp o nx) k->cL φ s.H k:=by
  rintro k ⟨id,h1,h2⟩
  have ax:id<nx:=hg.lt (fun e=>by simp only[hp]at h1;rw[e]at h1;cases h1)
  exact⟨id,by simp only[S.H];rw[ho id ax];exact h1,h2⟩
 have hB:∀k, ¬aq M φ s.H k-> ¬aq M φ (hp o nx) k:=fun k h h'=>h (h'.imp id (cY k))
 have e9:∀ (v:V) (val:Value),(∀r∈v.refs,r<nx)->V.den (aq M φ s.H) φ s.H w v val->V.den (aq M φ (hp o nx)) φ (hp o nx) w v val:=fun v val hr h=>
  V.nN (H:=s.H) (H':=hp o nx) hB v val (fun id ax=>⟨(ho id (hr id ax)).symm,rfl,hr id ax⟩) h
 have lN:∀ (v:List V) (val:List Value),(∀r∈V.aL v,r<nx)->V.aF (aq M φ s.H) φ s.H w v val->V.aF (aq M φ (hp o nx)) φ (hp o nx) w v val:=fun v val hr h=>
  V.gI (H:=s.H) (H':=hp o nx) hB v val (fun id ax=>⟨(ho id (hr id ax)).symm,rfl,hr id ax⟩) h
 refine⟨φ,⟨fun id=> ?_,fun id hu=>hg.fresh id (by simpa[S.H]using hu),fun i j k h1 h2 h3 h4=> ?_,fun k hk=>hH.ours k (cY k hk),hH.BM⟩,fun i=> ?_,cY,hb,fun id ax hr=> ?_,fun id e' ax qF=> ?_⟩
 ·have bf:=hH.ok id
  have hrefs:=hg.refs id
  unfold aR at bf|-
  by_cases ax:id<nx
  ·have e:s.H.o id=o id:=ho id ax
   rw[e]at bf
   simp only[S.H]at bf|-
   cases hx:o id with
   |no=>trivial
   |row cs=>
    simp only[hx]at bf hrefs|-
    exact SN
   |arr ep ty sz es=>
    simp only[hx]at bf|-
    obtain⟨k1,xs,k2,evs,k3,k4,k5⟩:=bf
    exact Sb
   |uO ep es=>
    simp only[hx]at bf|-
    exact D.aT (fun b _ hn=>⟨rfl,hB b hn⟩) _ _ bf
   |map kt vt es=>
    simp only[hx]at bf|-
    obtain⟨b,es',clock,k1,k2,k4,k3⟩:=bf
    exact R8
   |cj l=>
    simp only[hx]at bf|-
    exact ly.mono (fun b _ hn=>⟨rfl,hB b hn⟩) bf
   |sn l last=>
    simp only[hx]at bf|-
    obtain⟨b,k1,k2⟩:=bf
    exact SF
   |Am s pos=>
    simp only[hx]at bf|-
    exact bf
   |loop nf n env ps a b st pd=>
    simp only[hx]at bf hrefs|-
    exact S6
  ·simp only[S.H]
   rw[hg.fresh id (by omega)]
   trivial
 ·have hi:i<nx:=hg.lt (fun e=>by simp only[S.H]at h1;rw[e]at h1;cases h1)
  have hj:j<nx:=hg.lt (fun e=>by simp only[S.H]at h2;rw[e]at h2;cases h2)
  exact hH.apart i j k (by simp only[S.H];rw[ho i hi];exact h1) (by simp only[S.H];rw[ho j hj];exact h2) h3 h4
 ·rcases he i with h|⟨h1,h2⟩
  ·simp only[h];trivial
  ·have:=hd i
   rw[<- h1]at this
   exact e9 _ _ h2 this
 ·have cu:id<nx:=af
  exact⟨by rw[ho id cu];exact hr,rfl⟩
 ·have cu:id<nx:=af
  exact⟨e',by rw[ho id cu];exact qF,Nat.le_refl _,fun _=>rfl⟩
def lY(nx:Nat)(env:Nat->V):List V->Nat->Prop
 |[],_=>True
 |v::l,i=>(v= .ad\/(v=env i/\∀r∈v.refs,r<nx))/\lY nx env l (i+1)
theorem bO.cc {b:Nat}{e:Nat->V}{so:Nat->ab}{m:Nat}(l:List V){o:Nat->ab}{nx:Nat}(hb:b<=nx)(hn:nx<=m)(hg:Good o nx)(ho:∀id,id<nx->so id=o id)(he:lY nx e l 0):bO b ⟨e,so,m⟩ ⟨aZ l,o,nx⟩:=by
 refine bO.back hb hn hg ho ?_
 have key:∀ (l:List V) (i:Nat),lY nx e l i->∀j,aZ l j= .ad\/(aZ l j=e (i+j)/\∀r∈(aZ l j).refs,r<nx):=by
  intro l
  induction l with
  |nil=>intro i _ j;rw[rA];exact .inl rfl
  |cons v l ih=>
   intro i h j
   cases j with
   |zero=>rw[oO];exact h.1
   |succ j=>
    rw[oP]
    have:=ih (i+1) h.2 j
    rwa [show i+1+j=i+(j+1) by omega]at this
 intro i
 have:=key l 0 he i
 rwa [Nat.zero_add]at this
theorem yh{nx:Nat}{env:Nat->V}{i:Nat}:lY nx env [] i:=trivial
theorem gw{nx:Nat}{env:Nat->V}{l:List V}{i:Nat}(h:lY nx env l (i+1)):lY nx env (.ad::l) i:=⟨.inl rfl,h⟩
theorem oG{nx:Nat}{env:Nat->V}{l:List V}{i:Nat}{x:D}(he:env i= .d x)(h:lY nx env l (i+1)):lY nx env (.d x::l) i:=⟨.inr ⟨he.symm,fun r hr=>by simp[V.refs]at hr⟩,h⟩
theorem GA{nx:Nat}{env:Nat->V}{l:List V}{i:Nat}{v:V}(he:env i=v)(hr:∀r∈v.refs,r<nx)(h:lY nx env l (i+1)):lY nx env (v::l) i:=⟨.inr ⟨he.symm,hr⟩,h⟩
theorem bO.d0 {e:Nat->V}{so:Nat->ab}{m:Nat}(l:List V)(he:lY 0 e l 0):bO 0 ⟨e,so,m⟩ ⟨aZ l,fun _=> .no,0⟩:=bO.cc l (Nat.le_refl 0) (Nat.zero_le _) Good.nil (fun _ h=>absurd h (Nat.not_lt_zero _)) he
theorem pB{k:Nat}(h:(k:Int)+1<=9223372036854775807):IntKind.i64.wrap ((k:Int)+1)=((k+1:Nat):Int):=by rw[wrap64 (by omega) h];rfl
theorem mW{k:IntKind}{a b:Int}(h:a=b):V.d (D.int k a)=V.d (D.int k b):=by rw[h]
theorem BQ.WW {P:Program}{g:FuncId}{args:List V}{rd:List Nat}{o:Nat->ab}{x:D}(nx:Nat)(uz:rd.all (fun id=>decide (id<nx))=true)(dG:∀id∈V.aL args,id∈rd)(su:∀id∈rd,∀j∈(o id).refs,j∈rd)
 (h:CtO P g args (Ft rd o) (.d x)):BQ P g args rd o (.ret [x]) []:=by
 have cu:∀id∈rd,id<nx:=fun id ax=>by simpa using List.all_eq_true.1 uz id ax
 have G7:∀id,id∈rd->Ft rd o id=o id:=fun id ax=>by simp[Ft,ax]
 have Dd:∀id,id∉rd->Ft rd o id= .no:=fun id ax=>by simp[Ft,ax]
 have acF:Good (Ft rd o) nx:=by
  refine⟨fun id ax=>Dd id (fun hm=>by have:=cu id hm;omega),fun id r hr=> ?_⟩
  by_cases ax:id∈rd
  ·rw[G7 id ax]at hr;exact cu r (su id ax r hr)
  ·rw[Dd id ax]at hr;cases hr
 refine BQ.lA (nx:=nx) cu dG su (fun x hx=>by cases hx) (fun x hx=>by cases hx) (h nx acF _ _ fun o' nx' _ _ h3=>⟨fun id ax=> ?_,[.d x],[x],rfl,rfl,rfl,fun id ax=>by simp[V.bg,V.ids]at ax⟩)
 rw[h3 id (cu id ax),G7 id ax];rfl
theorem De{P:Program}{g:FuncId}{K:KD}{X:XD}{o:Nat->ab}{nx fr:Nat}{all:List V}{rd:List Nat}{rs:List D}{Δ:List (Nat×ab)}(m9:rd.all (fun id=>decide (id<nx))=true)(h:BQ P g all rd o (.ret rs) Δ)(hk:K (jq rs) Δ rd):sY P g K X o nx fr all:=by
 unfold sY
 exact⟨rd,Δ,m9, .inl ⟨rs,h,hk⟩⟩
abbrev D.i (n:Int):D:= .int .i64 n
structure ei where
 name:List UInt8
 args:Int
structure aA where
 cons:List ei
 b9:List ei
inductive Tm where
 |mk (op n:Int) (kids:List Tm)
 deriving Inhabited
structure TB where
 var:Int
 term:Tm
def Tm.op:Tm->Int| .mk op _ _=>op
def Tm.n:Tm->Int| .mk _ n _=>n
def Tm.kids:Tm->List Tm| .mk _ _ l=>l
theorem Tm.eta (t:Tm):Tm.mk t.op t.n t.kids=t:=by cases t;rfl
theorem Tm.ind {P:Tm->Prop}(h:∀op n kids,(∀k∈kids,P k)->P (.mk op n kids)):∀t,P t:=
 fun t=>Tm.rec (motive_1:=P) (motive_2:=fun l=>∀k∈l,P k) (fun op n kids ih=>h op n kids ih) (fun _ h=>by cases h)
  (fun x l hx hl k hk=>(List.mem_cons.1 hk).elim (fun e=>e ▸ hx) (hl k)) t
mutual
def Tm.d:Tm->D
 | .mk op n kids=> .agg [.i op, .i n, .sl (Tm.ds kids)]
def Tm.ds:List Tm->List D
 |[]=>[]
 |t::l=>t.d::Tm.ds l
end
theorem Tm.FF:∀l:List Tm,Tm.ds l=l.map Tm.d
 |[]=>rfl
 |t::l=>by simp[Tm.ds,Tm.FF l]
theorem Tm.acG (t:Tm):t.d= .agg [.i t.op, .i t.n, .sl (t.kids.map Tm.d)]:=by cases t;simp[Tm.d,Tm.FF,Tm.op,Tm.n,Tm.kids]
@[go_sem] theorem Tm.agc (t:Tm):D.agg [.i t.op, .i t.n, .sl (t.kids.map Tm.d)]=t.d:=(Tm.acG t).symm
@[go_sem] theorem Tm.afr (t:Tm):D.cells t.d=[.i t.op, .i t.n, .sl (t.kids.map Tm.d)]:=by rw[Tm.acG];rfl
theorem Tm.eN {P:Tm->Prop}(h:∀t:Tm,(∀k∈t.kids,P k)->P t):∀t,P t:=Tm.ind fun op n kids ih=>h (.mk op n kids) ih
theorem Tm.Df (op n:Int)(l:List Tm):(Tm.mk op n l).d= .agg [.i op, .i n, .sl (l.map Tm.d)]:=by simp[Tm.d,Tm.FF]
@[reducible] def ei.d (x:ei):D:= .agg [.str x.name, .i x.args]
@[reducible] def aA.d (s:aA):D:= .agg [.sl (s.cons.map ei.d), .sl (s.b9.map ei.d)]
@[reducible] def TB.d (b:TB):D:= .agg [.i b.var, .i b.term.op, .i b.term.n, .sl (b.term.kids.map Tm.d)]
mutual
def Tm.fits:Tm->Prop
 | .mk _ _ kids=>kids.length<=9223372036854775807/\Tm.Dg kids
def Tm.Dg:List Tm->Prop
 |[]=>True
 |t::l=>t.fits/\Tm.Dg l
end
theorem Tm.zr:∀l:List Tm,Tm.Dg l↔∀k∈l,k.fits
 |[]=>by simp[Tm.Dg]
 |t::l=>by simp[Tm.Dg,Tm.zr l]
theorem Tm.cm (t:Tm):t.fits↔t.kids.length<=9223372036854775807/\∀k∈t.kids,k.fits:=by cases t;simp[Tm.fits,Tm.zr,Tm.kids]
mutual
def Tm.mK:Tm->Nat
 | .mk _ _ kids=>1+Tm.jh kids
def Tm.jh:List Tm->Nat
 |[]=>0
 |k::l=>Nat.max k.mK (Tm.jh l)
end
theorem Tm.Dh:∀ {l:List Tm} {k:Tm},k∈l->k.mK<=Tm.jh l
 |x::l,k,h=>by
  simp only[Tm.jh]
  rcases List.mem_cons.1 h with rfl|h
  ·exact Nat.le_max_left _ _
  ·exact Nat.le_trans (Tm.Dh h) (Nat.le_max_right _ _)
theorem Tm.rB {t k:Tm}(h:k∈t.kids):k.mK+1<=t.mK:=by
 cases t;simp only[Tm.kids]at h;simp only[Tm.mK];have:=Tm.Dh h;omega
mutual
def pre:Tm->Int->List (Tm×Int)
 | .mk op n kids,d=>(.mk op n kids,d)::Qr kids (d+1)
def Qr:List Tm->Int->List (Tm×Int)
 |[],_=>[]
 |k::l,d=>pre k d++Qr l d
end
theorem JX(l:List Tm)(d:Int):Qr l d=l.flatMap fun k=>pre k d:=by
 induction l with
 |nil=>rfl
 |cons k l ih=>simp[Qr,ih]
theorem nS(t:Tm)(d:Int):pre t d=(t,d)::t.kids.flatMap fun k=>pre k (d+1):=by cases t;simp[pre,JX,Tm.kids]
def dU(n low high:Int):Bool:=decide (low<=n)&&decide (n<=high)
def letterF(b:UInt8):Bool:= !((decide ((b.toNat:Int)<97)||decide (122<(b.toNat:Int)))&&(decide ((b.toNat:Int)<65)||decide (90<(b.toNat:Int))))
def ki(s:List UInt8):Bool:=s.all letterF&&dU s.length 1 8
def cI:List ei->List (List UInt8)->Option (List (List UInt8))
 |[],before=>some before
 |x::l,before=>if before.any (· ==x.name)then none else if(!ki x.name|| !dU x.args 0 4)=true then none else cI l (before++[x.name])
def fB:List UInt8:=[70,97,108,115,101]
def tB:List UInt8:=[84,114,117,101]
def nh(x:ei)(s:List UInt8):Bool:=x.name==s&&x.args==0
def ju(s:aA):Bool:=
 if(!dU s.cons.length 2 12||decide (8<(s.b9.length:Int)))=true then false else
 match s.cons with
 |a::b::_=>if(!nh a fB|| !nh b tB)=true then false else
  match cI s.cons []with
  |none=>false
  |some l=>(cI s.b9 l).isSome
 |_=>false
mutual
def fP:Tm->Int->Int->Int
 | .mk _ _ kids,left,depth=>if left<1\/depth<1 then -1 else cJ kids (left - 1) (depth - 1)
def cJ:List Tm->Int->Int->Int
 |[],left,_=>left
 |k::l,left,depth=>if 0<=left then cJ l (fP k left depth) depth else left
end
def iS(l:List ei)(n:Int):Int:=match l[n.toNat]? with|some x=>x.args|none=>0
def bF(s:aA)(t:Tm):Bool:=
 let k:Int:=t.kids.length
 if t.op=1 then k==0&&dU t.n 0 19
 else if t.op=2 then k==0&&dU t.n (-1000000) 1000000
 else if t.op=3 then dU t.n 0 (s.cons.length - 1)&&k==iS s.cons t.n
 else if t.op=4 then dU t.n 0 (s.b9.length - 1)&&k==iS s.b9 t.n
 else if t.op=5 then dU t.n 0 (s.b9.length - 1)&&decide (k<iS s.b9 t.n)
 else if t.op=8 then k==2&&dU t.n 0 19
 else if(dU t.op 6 15)=true then k==2&&t.n==0
 else false
mutual
def iT(s:aA):Tm->Bool
 | .mk op n kids=>bF s (.mk op n kids)&&uV s kids
def uV(s:aA):List Tm->Bool
 |[]=>true
 |k::l=>iT s k&&uV s l
end
def gM(s:aA)(t:Tm):Bool:=decide (0<=fP t 40 12)&&iT s t
mutual
def ft:Tm->Bool
 | .mk op _ kids=>uW kids&&((decide (1<=op)&&decide (op<=3))||op==5)
def uW:List Tm->Bool
 |[]=>true
 |k::l=>ft k&&uW l
end
mutual
def hY:Tm->Tm->Bool
 | .mk op n kids, .mk op' n' TZ=>op==op'&&n==n'&&kids.length==TZ.length&&iU kids TZ
def iU:List Tm->List Tm->Bool
 |[],_=>true
 |k::l,k'::l'=>hY k k'&&iU l l'
 |_::_,[]=>true
end
def gA(t:Tm):Bool:=decide (0<=fP t 50 14)
def gv(l:List ei):Bool:=l.all fun x=>decide ((x.name.length:Int)<=30)
def eH(s:aA):Bool:= !(decide (16<(s.cons.length:Int))||decide (12<(s.b9.length:Int)))&&gv s.cons&&gv s.b9
section
def lH(id:Nat)(K X:V->(Nat->ab)->Nat->Prop)(e:fS)(s:S):Prop:=
 match e with
 | .normal=>∃nf m en p c d st pd,s.o id= .loop nf m en p c d st pd/\K (.d (.bool true)) (ay s.o id (.loop nf m en p c d .ready none)) s.nx
 | .ret=>∃nf m en p c d st pd,s.o id= .loop nf m en p c d st pd/\K (.d (.bool false)) (ay s.o id (.loop nf m en p c d .done (some .ret))) s.nx
 | .exit j=>∃nf m en p c d st pd,s.o id= .loop nf m en p c d st pd/\K (.d (.bool false)) (ay s.o id (.loop nf m en p c d .done (some (.exit j)))) s.nx
 | .bN v=>X v s.o s.nx
def WX(P:Program)(n b id:Nat)(fG:IC)(K X:V->(Nat->ab)->Nat->Prop)(e:fS)(s:S):Prop:=
 match e with
 | .normal=>∃nf m en p c d pd,s.o id= .loop nf m en p c d .ready pd/\uU P n b true fG (lH id K X) ⟨s.env,ay s.o id (.loop nf m en p c d .busy pd),s.nx⟩
 | .bN v=>X v s.o s.nx
 |_=>False
section
variable {P:Program}{M:Nat->Prop}{φ cS:Place}{H0:Hp}{w w0:World}{n:Nat}{s:S}{a:Act}{cx:Cx}
theorem Di{id:Nat}{x:ab}{s:S}(cu:id<s.nx)(j:Nat)(hu:(s.H.put [(id,x)]).us j):j<s.nx:=by
 simp only[ef]at hu
 rcases hu with hu|hu
 ·exact hu
 ·subst hu;exact cu
theorem wq{B:Nat->Prop}{H:Hp}{n:Nat}:∀ (ps:List Nat) (vs:List V) (us:List Value) (env:Nat->V) (tmps:Array Value),tmps.size=n->ps.length=vs.length->V.aF B φ H w vs us->ps.all (fun t=>decide (t<n))=true->(∀i,V.den B φ H w (env i) (tmps.getD i undef))->
 ((ps.zip us).foldl (fun tmps p=>tmps.setIfInBounds p.1 p.2) tmps).size=n/\∀i,V.den B φ H w (qk env ps vs i) (((ps.zip us).foldl (fun tmps p=>tmps.setIfInBounds p.1 p.2) tmps).getD i undef)
 |[],[],us,env,tmps,eB,_,hd,_,he=>by simp only[V.aF]at hd;subst hd;exact⟨eB,he⟩
 |[],v::vs,us,env,tmps,_,h,_,_,_=>by simp at h
 |t::ps,[],us,env,tmps,_,h,_,_,_=>by simp at h
 |t::ps,v::vs,us,env,tmps,eB,hl,hd,hp,he=>by
  obtain⟨u,us,rfl,h1,h2⟩:=hd
  simp only[List.all_cons,Bool.and_eq_true,decide_eq_true_eq]at hp
  simp only[List.zip_cons_cons,List.foldl_cons,qk]
  refine wq ps vs us (ay env t v) (tmps.setIfInBounds t u) (by simp[eB]) (by simpa using hl) h2 hp.2 (fun i=> ?_)
  simp only[aN]
  by_cases hi:i=t
  ·subst hi
   have:(tmps.setIfInBounds i u).getD i undef=u:=by simp[Array.getD,eB,hp.1]
   rw[if_pos rfl,this];exact h1
  ·have:(tmps.setIfInBounds t u).getD i undef=tmps.getD i undef:=by
    exact VV
   rw[if_neg hi,this];exact he i
theorem dQ.wh (bn:P.follows .mixedOrders=true){id:Nat}{args:List V}{o:Nat->ab}{nx:Nat}{K X:V->(Nat->ab)->Nat->Prop}{env:List V}{ps:List Nat}{jV fG:IC}{st:LoopState}{pd:Option ky}
 (ho:o id= .loop P.funcs.size n env ps jV fG st pd) (cu:id<nx) (FG:ps.all (fun t=>decide (t<n))=true) (hl:args.length=ps.length)
 (h:uU P n nx true jV (WX P n nx id fG K X) ⟨qk (aZ env) ps args,o,nx⟩):dQ P id args o nx K X:=by
 refine⟨by rw[ho];rfl,fun M φ w vals b hH hd eY=> ?_⟩
 have aY:=hH.ok id
 simp only[aR,hp,ho]at aY
 obtain⟨b',r,h1,h2,h0,h3,h4,h5,h6,h7,h8,h9⟩:=aY
 rw[eY]at h1;simp at h1;subst h1
 have hlen:=V.aC _ _ hd
 have eB:vals.size=r.params.size:=by
  have:r.params.toList.length=ps.length:=by rw[h5]
  simp at hlen this;omega
 let tm:Array Value:=(ps.zip vals.toList).foldl (fun tmps p=>tmps.setIfInBounds p.1 p.2) r.tmps
 have acH:(r.params.zip vals).foldl (fun tmps (p:Tmp×Value)=>tmps.setIfInBounds p.1 p.2) r.tmps=tm:=by
  rw[<- Array.foldl_toList,Array.toList_zip,h5]
 obtain⟨p1,p2⟩:=wq (B:=aq M φ (hp o nx)) (H:=hp o nx) (φ:=φ) (w:=w) ps args vals.toList (aZ env) r.tmps h6 hl.symm hd FG h9
 refine⟨r.fn,tm,r.assign,r.body, ?_,fun k=> ?_⟩
 ·simp only[Instr.yield,Sem.run_bind,kU h2,Result.andThen_ok,eB,ne_eq,not_true_eq_false,if_false,Sem.run_pure]
  rw[<- acH]
 ·
   let s0:S:=⟨qk (aZ env) ps args,o,nx⟩
   let a0:Act:={tmps:=tm,defers:=[]}
   have nm:cq M φ (hp o nx) w n ⟨[],true⟩ φ s0 a0 w:=⟨hH,Trans.refl _ _ _,p1,⟨[],rfl,List.nodup_nil,fun _=>rfl,fun r hr=>by cases hr⟩,p2⟩
   have wu:∀ {aJ s' a' w'},cq M φ (hp o nx) w n ⟨[],true⟩ aJ s' a' w'->a'.defers=[]:=by
    intro aJ s' a' w' hs
    obtain⟨ms,g1,_,g3,_⟩:=hs.defers
    rw[g3 rfl]at g1;exact g1
   have acI:∀ {aJ s' a' w'} {nf m:Nat} {en:List V} {p:List Nat} {c d:IC} {st:LoopState} {pd:Option ky} (st':LoopState) (pd':Option ky),cq M φ (hp o nx) w n ⟨[],true⟩ aJ s' a' w'->s'.o id= .loop nf m en p c d st pd->
    ∃r',w'.heap[b]? =some (.loop r')/\r'.state=st/\r'.pending=pd.map ky.code/\
     cq M φ (hp o nx) w n ⟨[],true⟩ aJ ⟨s'.env,ay s'.o id (.loop nf m en p c d st' pd'),s'.nx⟩ a' {w' with heap:=w'.heap.setIfInBounds b (.loop {r' with state:=st',pending:=pd'.map ky.code})}:=by
    intro aJ s' a' w' nf m en p c d st pd st' pd' hs qI
    have Wf:aJ id= .pointer (some ⟨b,0,none⟩):=by
     have:=(hs.tr.rel.row id cu (by show(s'.o id).cA=true;rw[qI];rfl)).2
     rw[this];exact eY
    have acJ:id<s'.nx:=hs.tr.rel.us id cu
    obtain⟨r',r1,r2,r3,r4,r5⟩:=y0 (st':=st') (pd':=pd') hs.heap acJ (show s'.H.o id=_ from qI) Wf
    exact⟨r',r1,r2,r3,fe hs r4 r5 rfl (Di acJ)⟩
   have ha:=iQ (P:=P) (n:=n) (b:=nx) (rd:=true) bn r.assign _ _ s0 (fun _ _ h=>h) (by rw[h7];exact h)
   refine vT h0 (hO (iL (P:=P) (H0:=hp o nx) (b:=nx) (cx:=⟨[],true⟩) (ro:=some b) (fun id hu=>hu) (fun h=>by cases h) r.assign _ s0 φ a0 w ha nm) ?_)
   rintro e a1 w1 ⟨x,s1,jn,hq,sw,hm⟩
   cases e<;>cases x<;>first|(exact hm.elim)|skip
   ·
     obtain⟨nf,m,en,p,c,d,pd1,q1,q2⟩:=hq
     obtain⟨r',r1,r2,r3,Hi⟩:=acI .busy pd1 sw q1
     have WY:(Instr.beginRound b).run P w1= .ok () {w1 with heap:=w1.heap.setIfInBounds b (.loop {r' with state:= .busy,pending:=pd1.map ky.code})}:=by
      have e1:({r' with state:= .busy}:Loop)={r' with state:= .busy,pending:=pd1.map ky.code}:=by rw[<- r3]
      simp only[Instr.beginRound,Sem.run_bind,kU r1,Result.andThen_ok,jr _ r1,r2,Sem.run_pure,e1]
     refine⟨_,WY, ?_⟩
     have bJ:=Hi.heap.ok id
     simp only[aR,S.H,aN,if_true]at bJ
     obtain⟨b2,r2',_,_,_,_,_,_,_,_,_,_⟩:=bJ
     have hb:=iQ (P:=P) (n:=n) (b:=nx) (rd:=true) bn r.body _ _ _ (fun _ _ h=>h) (by rw[h8];exact q2)
     refine hO (iL (P:=P) (H0:=hp o nx) (b:=nx) (cx:=⟨[],true⟩) (ro:=some b) (fun id hu=>hu) (fun h=>by cases h) r.body _ _ jn a1 _ hb Hi) ?_
     rintro e a2 w2 ⟨x,s2,JF,Zn,Hj,OZ⟩
     have fin:∀ {nf m:Nat} {en:List V} {p:List Nat} {c d:IC} {st:LoopState} {pd:Option ky} (jump:Option ky) (t:Bool) (st':LoopState),t=jump.isNone->st'=(if jump.isNone then .ready else .done)->s2.o id= .loop nf m en p c d st pd->K (.d (.bool t)) (ay s2.o id (.loop nf m en p c d st' jump)) s2.nx->
      ∃v w',(Instr.endRound b (jump.map ky.code)).run P w2= .ok v w'/\nF M φ (hp o nx) w K X (.returned v) w':=by
      intro nf m en p c d st pd jump t st' ht kB ho2 hK
      obtain⟨r3',g1,g2,g3,Zo⟩:=acI st' jump Hj ho2
      refine⟨.bool t,_, ?_,JF,_,_,_,Zo.heap,Zo.tr,by simp only[V.den,D.den],hK⟩
      subst ht;subst kB
      simp only[Instr.endRound,Sem.run_bind,kU g1,Result.andThen_ok,jr _ g1,Sem.run_pure,Option.isNone_map]
     cases e<;>cases x<;>first|(exact OZ.elim)|skip
     ·obtain⟨nf,m,en,p,c,d,st,pd,k1,k2⟩:=Zn
      exact fin none true .ready rfl rfl k1 k2
     ·rename_i j
      subst OZ
      obtain⟨nf,m,en,p,c,d,st,pd,k1,k2⟩:=Zn
      exact fin (some (.exit _)) false .done rfl rfl k1 k2
     ·obtain⟨nf,m,en,p,c,d,st,pd,k1,k2⟩:=Zn
      exact fin (some .ret) false .done rfl rfl k1 k2
     ·obtain⟨val,rfl,k2⟩:=OZ
      exact⟨wu Hj,JF,_,_,_,Hj.heap,Hj.tr,val,rfl,k2,Zn⟩
   ·exact hq.elim
   ·exact hq.elim
   ·obtain⟨val,rfl,k2⟩:=hm
    exact⟨wu sw,jn,_,_,_,sw.heap,sw.tr,val,rfl,k2,hq⟩
end
end
end Go.Proofs.YtlhemmpklhhgoaaGreat
