/-
  A PART OF THE PROOF. Conditions: none.
-/
import Derived.Test.YtnkamdiiakdkgaaGreatEl9
set_option linter.unusedSimpArgs false
set_option linter.unusedVariables false
namespace Go.Proofs.YtnkamdiiakdkgaaGreat
section
abbrev Fix(α:Type){β:Type}(_:β):Type:=α
def jT(K:V->List (Nat×ab)->Prop)(x:Fix (Option fS) K):Prop:=match x with|some (v,Δ,_)=>K v Δ|none=>False
@[go_sem] theorem VC {v:V} {Δ:List (Nat×ab)} {rd:List Nat} {K}:jT K (some (v,Δ,rd))=K v Δ:=propext Iff.rfl
@[go_sem] theorem VD {K}:jT K none=False:=propext Iff.rfl
def V.AB (c:Bool)(v:V):V:=if c=true then v else .bW []
@[go_sem] theorem abJ (b:Bool):(!!b)=b:=aI
attribute [go_sem] true_or or_true false_or ne_eq not_false_eq_true decide_true decide_false Bool.not_true Bool.not_false Bool.and_true Bool.true_and Bool.and_false Bool.false_and Bool.or_true Bool.true_or Bool.or_false Bool.false_or beq_self_eq_true Bool.true_eq_false Bool.false_eq_true not_true_eq_false and_true true_and and_false false_and eq_self
@[go_sem] theorem V.abK (v:V):V.AB true v=v:=rfl
@[go_sem] theorem V.Y2 (v:V):V.AB false v= .bW []:=rfl
def mK(c:Bool)(p:Prop):Prop:=c=true->p
@[congr] theorem SG {c c':Bool} {p p':Prop} (h:c=c') (h2:c'=true->p=p'):mK c p=mK c' p':=by
  subst h;cases c
  ·simp[mK]
  ·simp[mK,h2 rfl]
@[go_sem] theorem VE (p:Prop):mK true p=p:=by simp[mK]
@[go_sem] theorem SH (p:Prop):mK false p=True:=by simp[mK]
@[go_sem] theorem VF (a:Bool):mK a True=True:=by simp[mK]
def mL(v:V)(want:Bool):Option Bool:=
 match v with
 | .d (.bool b)=>some (b==want)
 | .bW []=>some false
 |_=>none
@[go_sem] theorem VG (b:Bool):mL (.d (.bool b)) true=some b:=by simp[mL]
@[go_sem] theorem SI (b:Bool):mL (.d (.bool b)) false=some (!b):=by simp[mL]
@[go_sem] theorem abL (want:Bool):mL (.bW []) want=some false:=rfl
@[go_sem] theorem Y3 (c b want:Bool):mL (V.AB c (.d (.bool b))) want=some (c&&(b==want)):=by cases c<;>simp[mL,V.AB]
@[go_sem] theorem VH (c b e want:Bool):mL (V.AB c (V.AB e (.d (.bool b)))) want=some (c&&e&&(b==want)):=by cases c<;>cases e<;>simp[mL,V.AB]
def lj(c:Bool)(x:Option fS):Option fS:=
 if c=true then(match x with|some (v,[],_)=>some (v,[],[])|_=>none)else some (.bW [],[],[])
@[congr] theorem Py {c c':Bool} {x x':Option fS} (h:c=c') (h2:c'=true->x=x'):lj c x=lj c' x':=by
  subst h;cases c
  ·rfl
  ·simp[lj,h2 rfl]
def VI(v:V)(rd:List Nat):Option fS:=some (v,[],rd)
@[go_sem] theorem afq (v:V) (rd:List Nat):(some (v,[],rd):Option fS)=VI v rd:=by unfold VI;exact Eq.trans rfl rfl
@[go_sem] theorem VJ (c:Bool) (v:V) (rd:List Nat):lj c (VI v rd)=VI (V.AB c v) []:=by cases c<;>rfl
@[go_sem] theorem Y4 {v:V} {rd:List Nat} {K}:jT K (VI v rd)=K v []:=propext Iff.rfl
@[go_sem] theorem SJ (c:Bool) (v:V) (rd:List Nat):lj c (some (v,[],rd))=some (V.AB c v,[],[]):=by cases c<;>rfl
@[go_sem] theorem Pz (x:Option fS):lj false x=some (.bW [],[],[]):=rfl
@[go_sem] theorem abM (b x:Bool):qG (.d (.bool b)) (V.AB b (.d (.bool x))) (.d (.bool false))=some (.d (.bool (b&&x))):=BS
@[go_sem] theorem aeE (b x:Bool):qG (.d (.bool b)) (.d (.bool true)) (V.AB (!b) (.d (.bool x)))=some (.d (.bool (b||x))):=BS
@[go_sem] theorem abN (b x:Bool):qG (.d (.bool (!b))) (.d (.bool true)) (V.AB b (.d (.bool x)))=some (.d (.bool (!b||x))):=BS
@[go_sem] theorem Y5 (x y:V):qG (.d (.bool true)) x y=some x:=rfl
@[go_sem] theorem VK (x y:V):qG (.d (.bool false)) x y=some y:=rfl
@[reducible] def ll:Op->Bool
  | .move _| .assign _| .pick .. | .load .. | .binOp .. | .unOp .. | .nilCheck _| .convert .. | .makeInterface .. | .makeFunc .. | .fieldAddr .. | .indexAddr .. | .extract .. | .build .. | .index .. | .field .. | .lookup .. =>true
  | .call c=>match c.callee with
    | .builtin .len=>true
    | .builtin .min=>true
    | .builtin .max=>true
    |_=>false
  |_=>false
def CU(P:Program)(f:V)(args:List V)(o:Nat->ab)(rs:List D):Prop:=
 match f with
 | .func (.func g) first cap=>match b7 o (first++args++cap)with
   |some ds=>aV P g ds (.ret rs)/\D.jR rs=true
   |none=>False
 |_=>False
def G8(P:Program)(f:V)(args:List V)(o:Nat->ab)(K:V->Prop)(c:Fix Bool (f,args,o,K)):Prop:=
 ∃rs,mK c (CU P f args o rs)/\K (V.AB c (jv rs))
def CV(P:Program)(g:FuncId)(nx:Nat)(K X:V->(Nat->ab)->Nat->Prop)(args:Fix (List V) (K,X))(o:Fix (Nat->ab) (K,X)):Prop:=tt P g args o nx K X
def tA(P:Program)(g:FuncId)(o:Nat->ab)(nx:Nat)(K X:V->(Nat->ab)->Nat->Prop)(ds:Fix (List D) (o,nx,K,X))(all:Fix (List V) (o,nx,K,X)):Prop:=
 vB P g ds o (put o (bT o (V.bg all))) (put o (rW o (V.bg all))) (fun v o'=>K v o' (nx+1)) (fun v o'=>X v o' (nx+1))\/tt P g all o nx K X
def nE(P:Program)(g:FuncId)(K X:V->(Nat->ab)->Nat->Prop)(s:S)(all:List V)(ds:Fix (Option (List D)) (K,X,s,all)):Prop:=
 match ds with
 |some ds=>tA P g s.o s.nx K X ds all
 |none=>CV P g s.nx K X all s.o
@[go_sem] theorem SK {P:Program} {s:S} {ds:List D} {g:FuncId} {all:List V} {K X}:
 nE P g K X s all (some ds)=tA P g s.o s.nx K X ds all:=propext Iff.rfl
def yN(P:Program)(id:Nat)(K X:V->(Nat->ab)->Nat->Prop)(s:S)(args:Fix (List V) (K,X,s)):Prop:=dI P id args s.o s.nx K X
@[go_sem] theorem SL {P:Program} {s:S} {g:FuncId} {all:List V} {K X}:nE P g K X s all none=CV P g s.nx K X all s.o:=propext Iff.rfl
def tC(P:Program)(K X:V->(Nat->ab)->Nat->Prop)(s:S)(f:Fix V (K,X,s))(args:Fix (List V) (K,X,s)):Prop:=
 match f with
 | .func (.func g) first cap=>nE P g K X s (first++args++cap) (b7 s.o (first++args++cap))
 | .ju id=>yN P id K X s args
 |_=>False
@[go_sem] theorem Y6 {P:Program} {s:S} {id:Nat} {args:List V} {K X}:tC P K X s (.ju id) args=yN P id K X s args:=propext Iff.rfl
@[go_sem] theorem VL {P:Program} {s:S} {g:FuncId} {first cap args:List V} {K X}:tC P K X s (.func (.func g) first cap) args=nE P g K X s (first++args++cap) (b7 s.o (first++args++cap)):=propext Iff.rfl
def Mg(P:Program)(g:FuncId)(o:Nat->ab)(nx:Nat)(K X:V->(Nat->ab)->Nat->Prop)(ds:Fix (List D) (o,nx,K,X))(all:Fix (List V) (o,nx,K,X)):Prop:=
 vB P g ds o (put o (bT o (V.bg all))) (put o (rW o (V.bg all))) (fun v o'=>K v o' (nx+1)) (fun v o'=>X v o' (nx+1))
def CW(P:Program)(g:FuncId)(K X:V->(Nat->ab)->Nat->Prop)(s:S)(all:List V)(ds:Fix (Option (List D)) (K,X,s,all)):Prop:=
 match ds with
 |some ds=>Mg P g s.o s.nx K X ds all
 |none=>False
@[go_sem] theorem VM {P:Program} {s:S} {ds:List D} {g:FuncId} {all:List V} {K X}:CW P g K X s all (some ds)=Mg P g s.o s.nx K X ds all:=propext Iff.rfl
def Mh(P:Program)(K X:V->(Nat->ab)->Nat->Prop)(s:S)(args:Fix (List V) (K,X,s))(r:Fix (Option (FuncId×V)) (K,X,s)):Prop:=
 match r with
 |some (g,y)=>CW P g K X s (y::args) (b7 s.o (y::args))
 |none=>False
@[go_sem] theorem Y7 {P:Program} {s:S} {g:FuncId} {y:V} {args:List V} {K X}:Mh P K X s args (some (g,y))=CW P g K X s (y::args) (b7 s.o (y::args)):=propext Iff.rfl
def Jq(K:V->Prop)(v:Fix V K):Prop:=
 match v with
 | .d (.iface t y)=>K (.d (.iface t y))
 | .iface t y=>K (.iface t y)
 |_=>False
@[go_sem] theorem afr {t:TypeId} {y:D} {K}:Jq K (.d (.iface t y))=K (.d (.iface t y)):=propext Iff.rfl
@[go_sem] theorem afs {t:TypeId} {y:V} {K}:Jq K (.iface t y)=K (.iface t y):=propext Iff.rfl
def G9(K:V->List (Nat×ab)->Prop)(id:Nat)(l:Fix (List (D×D)) (K,id)):Prop:=GI id l fun v Δ _=>K v Δ
def Mi(K:V->List (Nat×ab)->Prop)(str:Bool)(Y8:Fix (Option fS) (K,str))(left:Fix (Option (Nat×List (D×D))) (K,str)):Prop:=
 match left with
 |some (id,l)=>str=false/\G9 K id l
 |none=>jT K Y8
@[go_sem] theorem Y9 {K} {Y8:Option fS} {id:Nat} {l:List (D×D)}:Mi K false Y8 (some (id,l))=G9 K id l:=propext ⟨fun h=>h.2,fun h=>⟨rfl,h⟩⟩
@[go_sem] theorem Za {K} {str:Bool} {Y8:Option fS}:Mi K str Y8 none=jT K Y8:=propext Iff.rfl
def CX(P:Program)(X:V->S->Prop)(K:S->Prop)(o:bM)(s:Fix S (X,K,o)):Prop:=
 match o.op with
 | .next x str=>Mi (fun v Δ=>K ⟨aY s.env o.dst v,put s.o Δ,s.nx+1⟩) str (oR s.o (s.ev x) str) (oS s.o (s.ev x))
 | .call c=>match c.callee with
   | .value f=>tC P (fun v o' nx'=>K ⟨aY s.env o.dst v,o',nx'⟩) (fun v o' nx'=>X v ⟨s.env,o',nx'⟩) s (s.ev f) (c.args.toList.map s.ev)
   | .invoke r m=>Mh P (fun v o' nx'=>K ⟨aY s.env o.dst v,o',nx'⟩) (fun v o' nx'=>X v ⟨s.env,o',nx'⟩) s (c.args.toList.map s.ev) (vr P m (s.ev r))
   |_=>jT (fun v Δ=>K ⟨aY s.env o.dst v,put s.o Δ,s.nx+1⟩) (gC P s s.nx o.op)
 | .panic x=>Jq (fun v=>X v s) (s.ev x)
 |op=>jT (fun v Δ=>K ⟨aY s.env o.dst v,put s.o Δ,s.nx+1⟩) (gC P s s.nx op)
@[reducible] def eE:Op->Option (Operand×List Operand)
  | .call c=>match c.callee with
    | .value f=>some (f,c.args.toList)
    |_=>none
  |_=>none
def iM(A B:Prop)(t:Fix Bool (A,B)):Prop:=qL t A B
@[go_sem] theorem VN (A B:Prop):iM A B true=A:=vC A B
@[go_sem] theorem SM (A B:Prop):iM A B false=B:=tu A B
def Fy(P:Program)(X:V->S->Prop)(K:S->Prop)(o:bM)(s:S)(f:Operand)(args:List Operand)(c:Fix Bool (X,K,o,s,f,args)):Prop:=
 G8 P (s.ev f) (args.map s.ev) s.o (fun v=>K ⟨aY s.env o.dst v,s.o,s.nx+1⟩) c\/iM (CX P X K o s) (K ⟨aY s.env o.dst (.bW []),s.o,s.nx+1⟩) c
def AD(P:Program)(X:V->S->Prop)(K:S->Prop)(o:bM)(s:S)(c:Fix (Option Bool) (X,K,o,s)):Prop:=
 match c with
 |none=>False
 |some c=>match eE o.op with
  |some (f,args)=>Fy P X K o s f args c
  |none=>if ll o.op=true then jT (fun v _=>K ⟨aY s.env o.dst v,s.o,s.nx+1⟩) (lj c (gC P s s.nx o.op))
   else iM (CX P X K o s) (K ⟨aY s.env o.dst (.bW []),s.o,s.nx+1⟩) c
def qM(P:Program)(X:V->S->Prop)(K:S->Prop)(l:List bM)(s:Fix S (X,K,l)):Prop:=
 match l with
 |[]=>K s
 |o::l=>match o.gd with
  |none=>CX P X (qM P X K l) o s
  |some (d,want)=>AD P X (qM P X K l) o s (mL (s.env d) want)
def jU(want:Bool)(A B:Prop)(v:Fix V (A,B)):Prop:=
 match v with
 | .d (.bool b)=>qL (b==want) A B
 | .bW []=>B
 |_=>False
@[go_sem] theorem SN (b:Bool) (A B:Prop):jU true A B (.d (.bool b))=iM A B b:=by simp[jU,iM]
@[go_sem] theorem PA (b:Bool) (A B:Prop):jU false A B (.d (.bool b))=iM A B (!b):=by simp[jU,iM]
@[go_sem] theorem Zb (want:Bool) (A B:Prop):jU want A B (.bW [])=B:=propext Iff.rfl
@[go_sem] theorem VO (c b want:Bool) (A B:Prop):jU want A B (V.AB c (.d (.bool b)))=iM A B (c&&(b==want)):=by cases c<;>simp[jU,V.AB,iM]
abbrev KD:=V->List (Nat×ab)->List Nat->Prop
abbrev XD:=V->List Nat->List Nat->Prop
def Mj(P:Program)(g:FuncId)(K:KD)(X:XD)(o:Nat->ab)(rd:List Nat)(ds:Fix (List D) (K,X,o,rd))(all:Fix (List V) (K,X,o,rd)):Prop:=
 tz P g ds (fun v=>K v (bT o (V.bg all)) rd) (fun v=>K v [] rd) (fun v=>X v [] rd)
def nF(P:Program)(g:FuncId)(K:KD)(X:XD)(o:Nat->ab)(nx fr:Nat)(all:Fix (List V) (K,X,o,nx)):Prop:=je P g all o nx fr K X
def sw(P:Program)(g:FuncId)(K:KD)(X:XD)(o:Nat->ab)(nx fr:Nat)(rd:List Nat)(ds:Fix (List D) (K,X,o,nx,rd))(all:Fix (List V) (K,X,o,nx,rd)):Prop:=Mj P g K X o rd ds all\/nF P g K X o nx fr all
def sx(P:Program)(K:KD)(X:XD)(o:Nat->ab)(nx fr:Nat)(rd:List Nat)(g:FuncId)(all:List V)(ds:Fix (Option (List D)) (K,X,o,nx,rd,all)):Prop:=
 match ds with
 |some ds=>sw P g K X o nx fr rd ds all
 |none=>nF P g K X o nx fr all
@[go_sem] theorem SO {P:Program} {o:Nat->ab} {nx fr:Nat} {rd:List Nat} {ds:List D} {g:FuncId} {all:List V} {K X}:sx P K X o nx fr rd g all (some ds)=sw P g K X o nx fr rd ds all:=propext Iff.rfl
@[go_sem] theorem SP {P:Program} {o:Nat->ab} {nx fr:Nat} {rd:List Nat} {g:FuncId} {all:List V} {K X}:sx P K X o nx fr rd g all none=nF P g K X o nx fr all:=propext Iff.rfl
def CY(P:Program)(K:KD)(X:XD)(o:Nat->ab)(nx fr:Nat)(rd:Fix (List Nat) (K,X,o,nx))(f:Fix V (K,X,o,nx))(args:Fix (List V) (K,X,o,nx)):Prop:=
 match f with
 | .func (.func g) first cap=>sx P K X o nx fr rd g (first++args++cap) (b7 o (first++args++cap))
 |_=>False
@[go_sem] theorem VP {P:Program} {o:Nat->ab} {nx fr:Nat} {rd:List Nat} {g:FuncId} {first cap args:List V} {K X}:CY P K X o nx fr rd (.func (.func g) first cap) args=sx P K X o nx fr rd g (first++args++cap) (b7 o (first++args++cap)):=propext Iff.rfl
def vL(K:KD)(rd:List Nat)(x:Fix (Option fS) (K,rd)):Prop:=match x with|some (v,Δ,_)=>K v Δ rd|none=>False
@[go_sem] theorem VQ {v:V} {Δ:List (Nat×ab)} {r rd:List Nat} {K}:vL K rd (some (v,Δ,r))=K v Δ rd:=propext Iff.rfl
@[go_sem] theorem Zc {v:V} {r rd:List Nat} {K}:vL K rd (VI v r)=K v [] rd:=propext Iff.rfl
def Oy(P:Program)(K:KD)(X:XD)(fr:Nat)(o:bM)(s:Fix S (K,X,o)):Prop:=
 match eE o.op with
 |some (f,args)=>CY P K X s.o s.nx fr (oM s o.op) (s.ev f) (args.map s.ev)
 |none=>vL K (oM s o.op) (gC P s fr o.op)
def CZ(P:Program)(KB:List Nat->Fp->Prop)(pr:List (List Nat))(l:List bM)(fr:Nat)(fp:Fix Fp (KB,l))(bad ws:Fix (List Nat) (KB,l))(s:Fix S (KB,l)):Prop:=iu P KB pr l fr s fp bad ws
def oG(P:Program)(K:S->Fp->Prop)(KP:V->List Nat->Fp->Prop)(pr:List (List Nat))(l:List bM)(fr:Nat)(s:Fix S (K,KP,l))(fp:Fix Fp (K,KP,l)):Prop:=
 match l with
 |[]=>K s fp
 |o::l=>match o.gd with
  |none=>Oy P (fun v Δ rd=>oG P K KP pr l (fr+1) ⟨aY s.env o.dst v,put s.o Δ,s.nx⟩ (fp++[(rd,Δ.map (·.1))]))
   (fun v ws rd=>CZ P (KP v) pr l (fr+1) (fp++[(rd,[])]) [fp.length] (ws++fp.flatMap (·.2)) ⟨aY s.env o.dst .aa,s.o,s.nx⟩) fr o s
  |some (d,want)=>jU want (Oy P (fun v Δ rd=>oG P K KP pr l (fr+1) ⟨aY s.env o.dst v,put s.o Δ,s.nx⟩ (fp++[(rd,Δ.map (·.1))]))
   (fun v ws rd=>CZ P (KP v) pr l (fr+1) (fp++[(rd,[])]) [fp.length] (ws++fp.flatMap (·.2)) ⟨aY s.env o.dst .aa,s.o,s.nx⟩) fr o s)
   (oG P K KP pr l (fr+1) ⟨aY s.env o.dst (.bW []),s.o,s.nx⟩ (fp++[([],[])])) (s.env d)
def PB(pr:List (List Nat))(nx:Nat)(Q:fG->S->Prop)(s:Fix S Q)(fp:Fix Fp Q):Prop:=Fv pr nx Q s fp
def sy(l:List bM)(k:Fix Nat l):Option Nat:=match l with
 |[]=>none
 |o::l=>match o.gd,eE o.op with
  |none,some (.tmp _,_)=>some k
  |_,_=>sy l (k+1)
def Ha(P:Program)(pr:List (List Nat))(l:List bM)(nx:Nat)(Q:fG->S->Prop)(s:Fix S (P,pr,l,nx,Q))(fp:Fix Fp (P,pr,l,nx,Q)):Prop:=ez pr fp=true/\qM P (fun v s=>Q (.bE v) s) (Q .normal) l ⟨s.env,s.o,nx⟩
def Mk(P:Program)(l:List bM)(pr:List (List Nat))(Q:fG->S->Prop)(s:S)(sp:Fix (Option Nat) (P,l,pr,Q,s)):Prop:=match sp with
 |none=>oG P (PB pr (s.nx+l.length) Q) (CQ pr l s Q) pr l s.nx s []
 |some m=>m<=l.length/\Az pr m=true/\oG P (Ha P pr (l.drop m) (s.nx+m) Q) (fun _ _ _=>False) pr (l.take m) s.nx s []
def yO(A B:Prop)(v:Fix V (A,B)):Prop:=
 match v with
 | .d (.bool t)=>iM A B t
 | .ft=>A/\B
 |_=>False
@[go_sem] theorem Zd (A B:Prop):yO A B .ft=(A/\B):=propext Iff.rfl
@[go_sem] theorem VR (t:Bool) (A B:Prop):yO A B (.d (.bool t))=iM A B t:=propext Iff.rfl
def Hb{ι:Type}(b:Nat)(st:ι->S)(bn:ι->Prop)(pC:ι->Nat)(i:ι)(s:S):Prop:=∃j,bn j/\pC j<pC i/\bt b s (st j)
def vM(next:S->Prop)(Q:fG->S->Prop)(e:fG)(s:S):Prop:=match e with| .normal=>next s|e=>Q e s
section
variable {N:S->Prop}{Q:fG->S->Prop}{s:S}
@[go_sem ↓] theorem PC:vM N Q .normal s=N s:=propext Iff.rfl
@[go_sem ↓] theorem VS {id:Nat}:vM N Q (.exit id) s=Q (.exit id) s:=propext Iff.rfl
@[go_sem ↓] theorem Ze:vM N Q .ret s=Q .ret s:=propext Iff.rfl
@[go_sem ↓] theorem Jr {v:V}:vM N Q (.bE v) s=Q (.bE v) s:=propext Iff.rfl
end
def C0(b:Nat)(body:(fG->S->Prop)->S->Prop)(Q:fG->S->Prop)(s:Fix S (body,Q)):Prop:=
 ∃ (ι:Type) (st:ι->S) (bn:ι->Prop) (pC:ι->Nat) (i0:ι),bn i0/\bt b s (st i0)/\∀i,bn i->body (vM (Hb b st bn pC i) Q) (st i)
theorem az{ι:Type}{b:Nat}{body:(fG->S->Prop)->S->Prop}{Q:fG->S->Prop}{s:S}(st:ι->S)(bn:ι->Prop)(pC:ι->Nat)(i0:ι)(h0:bn i0)(hle:bt b s (st i0))
 (h:∀i,bn i->body (vM (Hb b st bn pC i) Q) (st i)):C0 b body Q s:=⟨ι,st,bn,pC,i0,h0,hle,h⟩
def AE(P:Program)(n b:Nat)(rd:Bool)(gop:Operand)(ps:List Nat)(x y:IC)(Q:fG->S->Prop)(s:Fix S (x,y,Q))(g:Fix V (x,y,Q)):Prop:=rd=false/\(Cz P n g ps x y Q s\/∃s',bt b s s'/\Cz P n (s'.ev gop) ps x y Q s')
def kN(P:Program)(n b:Nat)(rd:Bool)(c:IC)(Q:fG->S->Prop)(s:Fix S (c,Q)):Prop:=
 match c with
 | .skip=>Q .normal s
 | .ah l=>qM P (fun v s=>Q (.bE v) s) (Q .normal) l s
 | .dw l pr=>Mk P l pr Q s (sy l 0)
 | .seq x y=>kN P n b rd x (qA (fun s=>kN P n b rd y Q s) Q) s
 | .cond c x y=>yO (kN P n b rd x Q s) (kN P n b rd y Q s) (s.ev c)
 | .block id x=>kN P n b rd x (fw id Q) s
 | .loop x=>C0 b (fun Q s=>kN P n b rd x Q s) Q s
 | .exit id=>Q (.exit id) s
 | .ret=>Q .ret s
 | .IJ g ps x y=>AE P n b rd g ps x y Q s (s.ev g)
 | .bad=>False
section
variable {P:Program}{n b:Nat}{rd:Bool}
theorem C1{s:S}{f:V}{args:List V}{K K':V->(Nat->ab)->Nat->Prop}{X X':V->(Nat->ab)->Nat->Prop}(hK:∀v o n,K v o n->K' v o n)(hX:∀v o n,X v o n->X' v o n)(h:tC P K X s f args):
 match(generalizing:=false) f with
  | .func (.func g) first cap=>match b7 s.o (first++args++cap)with
    |some ds=>vB P g ds s.o (put s.o (bT s.o (V.bg (first++args++cap)))) (put s.o (rW s.o (V.bg (first++args++cap)))) (fun v o'=>K' v o' (s.nx+1)) (fun v o'=>X' v o' (s.nx+1))\/tt P g (first++args++cap) s.o s.nx K' X'
    |none=>tt P g (first++args++cap) s.o s.nx K' X'
  | .ju id=>dI P id args s.o s.nx K' X'
  |_=>False:=by
 unfold tC nE yN at h
 split at h
 ·rename_i g first cap
  cases eZ:b7 s.o (first++args++cap)with
  |some ds=>
   simp only[eZ]at h|-
   rcases h with⟨out,h1,h2|⟨h3,h2⟩|⟨h3,h2⟩⟩|h
   ·exact .inl ⟨out,h1, .inl (by cases out<;>first|exact hK _ _ _ h2|exact hX _ _ _ h2)⟩
   ·exact .inl ⟨out,h1, .inr (.inl ⟨h3,by cases out<;>first|exact hK _ _ _ h2|exact hX _ _ _ h2⟩)⟩
   ·exact .inl ⟨out,h1, .inr (.inr ⟨h3,by cases out<;>first|exact hK _ _ _ h2|exact hX _ _ _ h2⟩)⟩
   ·exact .inr (oN.mono hK hX h)
  |none=>
   simp only[eZ]at h|-
   exact oN.mono hK hX h
 ·exact dI.mono hK hX h
 ·exact h.elim
theorem yQ{x:Option fS}{K:V->List (Nat×ab)->Prop}(h:jT K x):∃v Δ rd,x=some (v,Δ,rd)/\K v Δ:=by
 unfold jT at h;split at h
 ·exact⟨_,_,_,rfl,h⟩
 ·exact h.elim
theorem AF{s:S}{o:bM}{X X':V->S->Prop}{K K':S->Prop}(hK:∀s,K s->K' s)(hX:∀v s,X v s->X' v s)(h:CX P X K o s):KH P s o X' K':=by
 unfold CX at h
 unfold KH
 have hs:∀ {op:Op},(jT (fun v Δ=>K ⟨aY s.env o.dst v,put s.o Δ,s.nx+1⟩) (gC P s s.nx op))->(match gC P s s.nx op with|some (v,Δ,_)=>K' ⟨aY s.env o.dst v,put s.o Δ,s.nx+1⟩|none=>False):=by
  intro op h
  obtain⟨v,Δ,rd,he,h⟩:=yQ h
  simp only[he];exact hK _ h
 split at h
 ·rename_i x str hx
  rw[hx]
  unfold Mi at h
  simp only
  split at h
  ·rename_i id l hl
   simp only[hl]
   exact⟨h.1,fun e=>hK _ (h.2.1 e),fun i k x e=>hK _ (h.2.2 i k x e)⟩
  ·rename_i hl
   simp only[hl]
   exact hs (op:= .next x str) h
 ·rename_i c hc
  simp only[hc]
  split at h
  ·rename_i f hf
   simp only[hf]
   exact C1 (K:=fun v o' nx'=>K ⟨aY s.env o.dst v,o',nx'⟩) (X:=fun v o' nx'=>X v ⟨s.env,o',nx'⟩) (fun v o n h=>hK _ h) (fun v o n h=>hX _ _ h) h
  ·rename_i r m hf
   simp only[hf]
   unfold Mh at h
   split at h
   ·rename_i g y hr
    simp only[hr]
    unfold CW at h
    split at h
    ·rename_i ds eZ
     obtain⟨out,h1,h2⟩:=h
     refine .inl ⟨ds,eZ,out,h1, ?_⟩
     rcases h2 with h2|⟨h3,h2⟩|⟨h3,h2⟩
     ·exact .inl (by cases out<;>first|exact hK _ h2|exact hX _ _ h2)
     ·exact .inr (.inl ⟨h3,by cases out<;>first|exact hK _ h2|exact hX _ _ h2⟩)
     ·exact .inr (.inr ⟨h3,by cases out<;>first|exact hK _ h2|exact hX _ _ h2⟩)
    ·exact h.elim
   ·exact h.elim
  ·rename_i hf hi
   rw[hc]at h
   obtain⟨LS,args,ts⟩:=c
   cases LS with
   |value f=>exact absurd rfl (hf f)
   |invoke r m=>exact absurd rfl (hi r m)
   |_=>exact hs h
 ·rename_i x hx
  simp only[hx]
  unfold Jq at h
  split at h
  ·rename_i hv;simp only[hv];exact hX _ _ h
  ·rename_i hv;simp only[hv];exact hX _ _ h
  ·exact h.elim
 ·rename_i vw hc hp
  have h2:=hs h
  cases hh:o.op<;>first
   |exact absurd hh (hc _)
   |exact absurd hh (hp _)
   |exact absurd hh (vw _ _)
   |(rw[hh]at h2;exact h2)
theorem Ml{s:S}{o:bM}{X:V->S->Prop}{K:S->Prop}(hp:ll o.op=true){v:V}{Δ:List (Nat×ab)}{rd:List Nat}(he:gC P s s.nx o.op=some (v,Δ,rd))(h:K ⟨aY s.env o.dst v,put s.o Δ,s.nx+1⟩):KH P s o X K:=by
 unfold KH
 split
 ·rename_i c hc
  split
  ·rename_i f hf;rw[hc]at hp;simp[ll,hf]at hp
  ·rename_i r m hf;rw[hc]at hp;simp[ll,hf]at hp
  ·rw[he];exact h
 ·rename_i x hx;rw[hx]at hp;simp[ll]at hp
 ·rename_i x str hx;rw[hx]at hp;simp[ll]at hp
 ·rw[he];exact h
theorem sA{X X':V->S->Prop}{K K':S->Prop}(hK:∀s,K s->K' s)(hX:∀v s,X v s->X' v s):∀ (l:List bM) (s:S),qM P X K l s->pA P X' K' l s
 |[],s,h=>hK _ h
 |o::l,s,h=>by
  have ih:=sA hK hX l
  unfold qM at h
  unfold pA
  cases hg:o.gd with
  |none=>
   simp only[hg]at h|-
   exact AF ih hX h
  |some p=>
   obtain⟨d,want⟩:=p
   simp only[hg]at h|-
   unfold AD at h
   split at h
   ·exact h.elim
   ·rename_i c hc
    have oX:∀ {A B:Prop},(c=true->A)->(c=false->B)->(match s.env d with
     | .d (.bool b)=>if b=want then A else B
     | .bW []=>B
     |_=>False):=by
     intro A B hA hB
     generalize s.env d=v at hc
     unfold mL at hc
     split at hc
     ·rename_i b
      injection hc with hc
      split
      ·rename_i e;exact hA (by rw[<- hc];simp[e])
      ·rename_i e;exact hB (by rw[<- hc];simp[e])
     ·injection hc with hc
      exact hB hc.symm
     ·cases hc
    split at h
    ·rename_i f args KI
     rcases h with h|h
     case inr=>exact oX (fun SQ=>AF ih hX (h.1 SQ)) (fun VT=>ih _ (h.2 VT))
     obtain⟨rs,h1,h2⟩:=h
     refine oX (fun SQ=> ?_) (fun VT=> ?_)
     ·unfold eE at KI
      split at KI
      ·rename_i c' s8
       split at KI
       ·rename_i f' oU
        injection KI with KI;injection KI with e1 e2;subst e1;subst e2
        have ma:=h1 SQ
        unfold KH
        simp only[s8,oU]
        unfold CU at ma
        split at ma
        ·rename_i g first cap xo
         simp only[xo]
         split at ma
         ·rename_i ds eZ
          simp only[eZ]
          refine .inl ⟨.ret rs,ma.1, .inr (.inl ⟨ma.2, ?_⟩)⟩
          refine ih _ ?_
          rw[SQ]at h2
          exact h2
         ·exact ma.elim
        ·exact ma.elim
       ·cases KI
      ·cases KI
     ·refine ih _ ?_
      rw[VT]at h2
      exact h2
    ·split at h
     ·rename_i hp
      obtain⟨v,Δ,rd,he,h⟩:=yQ h
      refine oX (fun SQ=> ?_) (fun VT=> ?_)
      ·rw[SQ]at he
       simp only[lj,if_true]at he
       split at he
       ·rename_i v' uz pW
        injection he with he;injection he with e1 e2;subst e1
        exact Ml hp pW (ih _ h)
       ·cases he
      ·rw[VT]at he
       simp only[lj]at he
       injection he with he;injection he with e1 e2;subst e1
       exact ih _ h
     ·exact oX (fun SQ=>AF ih hX (h.1 SQ)) (fun VT=>ih _ (h.2 VT))
theorem AG{op:Op}{f:Operand}{args:List Operand}(h:eE op=some (f,args)):∃c,op= .call c/\c.callee= .value f/\c.args.toList=args:=by
 unfold eE at h
 split at h
 ·rename_i c
  split at h
  ·rename_i f' oU
   injection h with h;injection h with e1 e2;subst e1;subst e2
   exact⟨c,rfl,oU,rfl⟩
  ·cases h
 ·cases h
theorem Js{x:Option fS}{rd:List Nat}{K:KD}(h:vL K rd x):∃v Δ r,x=some (v,Δ,r)/\K v Δ rd:=by
 unfold vL at h;split at h
 ·exact⟨_,_,_,rfl,h⟩
 ·exact h.elim
theorem je.mono {P:Program}{g:FuncId}{args:List V}{o:Nat->ab}{nx fr:Nat}{K K':KD}{X X':XD}(hK:∀v Δ r,K v Δ r->K' v Δ r)(hX:∀v w r,X v w r->X' v w r)(h:je P g args o nx fr K X):je P g args o nx fr K' X':=by
 obtain⟨rd,Δ,h1,⟨rs,h2,h3⟩|⟨x,h2,h3⟩|⟨v,h2,h3⟩⟩:=h
 ·exact⟨rd,Δ,h1, .inl ⟨rs,h2,hK _ _ _ h3⟩⟩
 ·exact⟨rd,Δ,h1, .inr (.inl ⟨x,h2,hX _ _ _ h3⟩)⟩
 ·exact⟨rd,Δ,h1, .inr (.inr ⟨v,h2,hK _ _ _ h3⟩)⟩
theorem tz.mono {P:Program}{g:FuncId}{ds:List D}{Kf Kb KX Kf' Kb' KX':V->Prop}(h1:∀v,Kf v->Kf' v)(h2:∀v,Kb v->Kb' v)(h3:∀v,KX v->KX' v)(h:tz P g ds Kf Kb KX):tz P g ds Kf' Kb' KX':=by
 rcases h with⟨rs,a,b|⟨b,c⟩⟩|⟨x,a,b,c⟩|⟨v,a,b⟩
 ·exact .inl ⟨rs,a, .inl (h1 _ b)⟩
 ·exact .inl ⟨rs,a, .inr ⟨b,h2 _ c⟩⟩
 ·exact .inr (.inl ⟨x,a,b,h3 _ c⟩)
 ·exact .inr (.inr ⟨v,a,h1 _ b⟩)
theorem Hc{s:S}{fr:Nat}{o:bM}{K K':KD}{X X':XD}(hK:∀v Δ r,K v Δ r->K' v Δ r)(hX:∀v w r,X v w r->X' v w r)(h:Oy P K X fr o s):BF P s fr o K' X':=by
 unfold Oy at h
 split at h
 ·rename_i f args KI
  obtain⟨c,h1,h2,h3⟩:=AG KI
  subst h3
  unfold BF
  simp only[h1,h2]
  unfold CY sx at h
  split at h
  ·rename_i g first cap hf
   simp only[hf]
   split at h
   ·rename_i ds eZ
    simp only[eZ]
    refine h.elim (fun h=> .inl ?_) (fun h=> .inr (je.mono hK hX h))
    refine tz.mono (fun v h=> ?_) (fun v h=> ?_) (fun v h=> ?_) h<;>(rw[h1]at h)
    ·exact hK _ _ _ h
    ·exact hK _ _ _ h
    ·exact hX _ _ _ h
   ·rename_i eZ
    simp only[eZ]
    exact je.mono hK hX h
  ·exact h.elim
 ·rename_i KI
  obtain⟨v,Δ,rd,he,h⟩:=Js h
  unfold BF
  split
  ·rename_i c hc
   split
   ·rename_i f hf
    exact absurd KI (by simp[eE,hc,hf])
   ·simp only[he];exact hK _ _ _ h
  ·simp only[he];exact hK _ _ _ h
theorem C2{s:S}{fr:Nat}{o:bM}{K K':KD}{X X':XD}(hK:∀v Δ r,K v Δ r->K' v Δ r)(hX:∀v w r,X v w r->X' v w r)(h:BF P s fr o K X):BF P s fr o K' X':=by
 unfold BF at h|-
 split at h
 ·rename_i c hc
  rw[hc]at h|-
  split at h
  ·rename_i f hf
   (try simp only[hf])
   split at h
   ·rename_i xo
    (try simp only[xo])
    split at h
    ·exact h.elim (fun h=> .inl (tz.mono (fun v h=>hK _ _ _ h) (fun v h=>hK _ _ _ h) (fun v h=>hX _ _ _ h) h)) (fun h=> .inr (je.mono hK hX h))
    ·exact je.mono hK hX h
   ·exact h.elim
  ·rename_i hf
   split at h
   ·rename_i he
    (try simp only[he])
    exact hK _ _ _ h
   ·exact h.elim
 ·split at h
  ·rename_i he
   (try simp only[he]);exact hK _ _ _ h
  ·exact h.elim
theorem jD{KB KB':List Nat->Fp->Prop}{pr:List (List Nat)}(hK:∀l fp,KB l fp->KB' l fp):∀ (l:List bM) (fr:Nat) (s:S) (fp:Fp) (bad ws:List Nat),iu P KB pr l fr s fp bad ws->iu P KB' pr l fr s fp bad ws
 |[],_,_,_,_,_,h=>hK _ _ h
 |o::l,fr,s,fp,bad,ws,h=>by
  unfold iu at h|-
  split
  ·rename_i hb
   rw[if_pos hb]at h
   exact jD hK l _ _ _ _ _ h
  ·rename_i hb
   rw[if_neg hb]at h
   split at h
   ·exact C2 (fun v Δ r h=>jD hK l _ _ _ _ _ h) (fun _ _ _ h=>h) h
   ·split at h
    ·split at h
     ·rename_i e;simp only[e,if_true]
      exact C2 (fun v Δ r h=>jD hK l _ _ _ _ _ h) (fun _ _ _ h=>h) h
     ·rename_i e;simp only[e,if_false]
      exact jD hK l _ _ _ _ _ h
    ·exact jD hK l _ _ _ _ _ h
    ·exact h.elim
theorem jE{K K':S->Fp->Prop}{KP KP':V->List Nat->Fp->Prop}{pr:List (List Nat)}(hK:∀s fp,K s fp->K' s fp)(hP:∀v l fp,KP v l fp->KP' v l fp):∀ (l:List bM) (fr:Nat) (s:S) (fp:Fp),oG P K KP pr l fr s fp->lh P K' KP' pr l fr s fp
 |[],_,_,_,h=>hK _ _ h
 |o::l,fr,s,fp,h=>by
  have hB:∀v ws (rdl:List Nat),CZ P (KP v) pr l (fr+1) (fp++[(rdl,[])]) [fp.length] (ws++fp.flatMap (·.2)) ⟨aY s.env o.dst .aa,s.o,s.nx⟩->
   iu P (KP' v) pr l (fr+1) ⟨aY s.env o.dst .aa,s.o,s.nx⟩ (fp++[(rdl,[])]) [fp.length] (ws++fp.flatMap (·.2)):=fun v ws rdl h=>jD (fun a b h=>hP v a b h) l _ _ _ _ _ h
  unfold oG at h
  unfold lh
  split at h
  ·rename_i hg
   (try simp only[hg])
   exact Hc (fun v Δ r h=>jE hK hP l _ _ _ h) hB h
  ·rename_i d want hg
   (try simp only[hg])
   generalize s.env d=v at h
   unfold jU at h
   split at h
   ·rename_i bb
    by_cases e:bb=want
    ·subst e
     simp only[if_true]
     exact Hc (fun v Δ r h=>jE hK hP l _ _ _ h) hB (h.1 aI)
    ·simp only[if_neg e]
     exact jE hK hP l _ _ _ (h.2 (by simpa using e))
   ·exact jE hK hP l _ _ _ h
   ·exact h.elim
theorem dY:∀ (c:IC) (Q Q':fG->S->Prop) (s:S),(∀e s,Q e s->Q' e s)->kN P n b rd c Q s->uH P n b rd c Q' s
 | .skip,_,_,_,hQ,h=>hQ _ _ h
 | .ah l,_,_,_,hQ,h=>sA (fun s h=>hQ _ _ h) (fun v s h=>hQ _ _ h) l _ h
 | .dw l pr,_,_,_,hQ,h=>by
   unfold kN at h
   generalize sy l 0=sp at h
   cases sp with
   |none=>exact .inl (jE (fun s fp h=>⟨h.1,hQ _ _ h.2⟩) (fun v l fp h=>⟨h.1,hQ _ _ h.2⟩) l _ _ _ h)
   |some m=>exact .inr ⟨m,h.1,h.2.1,jE (fun s fp h=>⟨h.1,sA (fun s h=>hQ _ _ h) (fun v s h=>hQ _ _ h) _ _ h.2⟩) (fun v l fp h=>h.elim) _ _ _ _ h.2.2⟩
 | .seq x y,Q,Q',s,hQ,h=>dY x _ _ s (fun e s h=>by
  unfold qA at h|-
  cases e with
  |normal=>exact dY y _ _ s hQ h
  |_=>exact hQ _ _ h) h
 | .cond c x y,Q,Q',s,hQ,h=>by
   unfold kN yO iM at h
   unfold uH
   split at h
   ·rename_i t ht
    simp only[ht]
    exact⟨fun e=>dY x _ _ s hQ (h.1 e),fun e=>dY y _ _ s hQ (h.2 e)⟩
   ·rename_i ht
    simp only[ht]
    exact⟨dY x _ _ s hQ h.1,dY y _ _ s hQ h.2⟩
   ·exact h.elim
 | .block id x,Q,Q',s,hQ,h=>dY x _ _ s (fun e s h=>by
  unfold fw at h|-
  cases e with
  |exit j=>
   simp only at h|-
   split
   ·rename_i e;rw[if_pos e]at h;exact hQ _ _ h
   ·rename_i e;rw[if_neg e]at h;exact hQ _ _ h
  |_=>exact hQ _ _ h) h
 | .loop x,Q,Q',s,hQ,h=>by
   obtain⟨ι,st,bn,pC,i0,h0,hle,h2⟩:=h
   refine⟨fun m s=>∃i,bn i/\pC i=m/\s=st i,⟨pC i0,st i0,hle,i0,h0,rfl,rfl⟩, ?_⟩
   rintro m s0 ⟨i,hg,rfl,rfl⟩
   refine dY x _ _ _ (fun e s h=> ?_) (h2 i hg)
   cases e with
   |normal=>
    obtain⟨j,k1,k2,k3⟩:=h
    exact⟨pC j,st j,k2,k3,j,k1,rfl,rfl⟩
   |_=>exact hQ _ _ h
 | .exit id,_,_,_,hQ,h=>hQ _ _ h
 | .ret,_,_,_,hQ,h=>hQ _ _ h
 | .IJ g ps x y,_,_,_,hQ,h=>⟨h.1,match h.2 with
   | .inl h=>⟨_, .inl rfl,sv hQ h⟩
   | .inr ⟨s',hle,h⟩=>⟨s', .inr hle,sv hQ h⟩⟩
 | .bad,_,_,_,_,h=>h.elim
end
theorem aV.aJ {P:Program}(bd:P.follows .mixedOrders=true){f:FuncId}{n:Nat}{ic:IC}{rs:List ResultVar}{ds:List D}{out:R}(hf:aN P f n ic rs)(hl:ds.length<=n)
 (h:kN P n 0 false ic (E9 P rs out) ⟨cp (ds.map .d),fun _=> .no,0⟩):aV P f ds out:=
 aV.vK bd hf hl (dY ic _ _ _ (fun _ _ h=>h) h)
def qN(P:Program)(rs:List ResultVar)(K X:V->(Nat->ab)->Nat->Prop)(e:fG)(s:S):Prop:=mi P rs K X e s
theorem cH.aJ {P:Program}(bd:P.follows .mixedOrders=true){f:FuncId}{n:Nat}{ic:IC}{rs:List ResultVar}{args:List V}{o:Nat->ab}{nx:Nat}{K X:V->(Nat->ab)->Nat->Prop}(hf:aN P f n ic rs)(hl:args.length<=n)
 (h:kN P n nx false ic (qN P rs K X) ⟨cp args,o,nx⟩):cH P f args o nx K X:=
 cH.vK bd hf hl (dY ic _ _ _ (fun _ _ h=>h) h)
section
variable {P:Program}{g:FuncId}{ds:List D}{o:Nat->ab}{nx:Nat}{K X:V->(Nat->ab)->Nat->Prop}{all:List V}
theorem aD{rs:List D}(h:aV P g ds (.ret rs))(hf:D.jR rs=true)(hk:K (jv rs) o (nx+1)):tA P g o nx K X ds all:= .inl ⟨.ret rs,h, .inr (.inl ⟨hf,hk⟩)⟩
theorem a7{rs:List D}(h:aV P g ds (.ret rs))(hk:K (jv rs) (put o (bT o (V.bg all))) (nx+1)):tA P g o nx K X ds all:= .inl ⟨.ret rs,h, .inl hk⟩
theorem gA(h:cH P g all o nx K X):tA P g o nx K X ds all:= .inr (.inl h)
theorem dQ{e:Nat->V}{ds:Option (List D)}(h:cH P g all o nx K X):nE P g K X ⟨e,o,nx⟩ all ds:=by
 cases ds with
 |some ds=>exact(.inr (.inl h):tA P g o nx K X ds all)
 |none=>exact(.inl h:CV P g nx K X all o)
theorem aS(h:cH P g all o nx K X):CV P g nx K X all o:= .inl h
variable {K:KD}{X:XD}{rd:List Nat}{fr:Nat}
theorem ba{rs:List D}(h:aV P g ds (.ret rs))(hf:D.jR rs=true)(hk:K (jv rs) [] rd):sw P g K X o nx fr rd ds all:= .inl (.inl ⟨rs,h, .inr ⟨hf,hk⟩⟩)
theorem dZ{rs:List D}(h:aV P g ds (.ret rs))(hk:K (jv rs) (bT o (V.bg all)) rd):sw P g K X o nx fr rd ds all:= .inl (.inl ⟨rs,h, .inl hk⟩)
theorem sB{v:V}{uz:List Nat}{Δ:List (Nat×ab)}(m5:uz.all (fun id=>decide (id<nx))=true)(h:Ar P g all uz o fr v Δ)(hk:K v Δ uz):sw P g K X o nx fr rd ds all:= .inr ⟨uz,Δ,m5, .inr (.inr ⟨v,h,hk⟩)⟩
end
theorem eR{P:Program}{f:V}{args:List V}{o:Nat->ab}{K:V->Prop}{c:Bool}(rs:List D)(h:mK c (CU P f args o rs))(hk:K (V.AB c (jv rs))):G8 P f args o K c:=⟨rs,h,hk⟩
theorem aj{t:Bool}{A B:Prop}(h:t=true->A)(h2:t=false->B):iM A B t:=⟨h,h2⟩
theorem aH{pr:List (List Nat)}{nx:Nat}{Q:fG->S->Prop}{s:S}{fp:List (List Nat×List Nat)}(h:ez pr fp=true)(h2:Q .normal ⟨s.env,s.o,nx⟩):PB pr nx Q s fp:=⟨h,h2⟩
@[go_sem] theorem abO (o:Nat->ab):put o []=o:=rfl
@[go_sem] theorem Zf (o:Nat->ab) (x:Nat×ab) (l:List (Nat×ab)):put o (x::l)=put (ax o x.1 x.2) l:=rfl
@[go_sem] theorem af {α:Type} (f:Nat->α) (i:Nat) (x:α):ax f i x i=x:=aI
@[go_sem] theorem ae {α:Type} (f:Nat->α) (i j:Nat) (x:α) (h:j≠i):ax f i x j=f j:=by simp[h]
@[go_sem] theorem PD (v:V) (l:List V):cp (v::l) 0=v:=rfl
@[go_sem] theorem PE (v:V) (l:List V) (i:Nat):cp (v::l) (i+1)=cp l i:=rfl
@[go_sem] theorem SR (i:Nat):cp [] i= .bW []:=by simp[cp]
@[go_sem] theorem Zg {P:Program} {o:Nat->ab} {t:TypeId} {id off:Nat}:nw P o t (.ptr id off)=match o id with
 | .row cs=>match eK P t cs off with
   |some v=>some (v,[],[id])
   |none=>none
 |_=>none:=by unfold nw;exact Eq.trans rfl rfl
@[go_sem] theorem abP {P:Program} {o:Nat->ab} {t:TypeId} {cs:List D} {off:Nat}:nw P o t (.pp cs off)=match eK P t (cs.map .d) off with
 |some v=>some (v,[],[])
 |none=>none:=by unfold nw;exact Eq.trans rfl rfl
@[go_sem] theorem abQ {P:Program} {o:Nat->ab} {t:TypeId} {id ep i sz off:Nat}:nw P o t (.pe id ep i sz off)=match o id with
 | .arr fF _ rL es=>if ep=fF/\sz=rL then match es[i]? with
  |some e=>match eK P t (e.cells.map .d) off with
   |some v=>some (v,[],[id])
   |none=>none
  |none=>none
   else none
 |_=>none:=by unfold nw;exact Eq.trans rfl rfl
section
variable {P:Program}{o:Nat->ab}{t:TypeId}{op:BinOp}{oF:Bool}
@[go_sem] theorem Zh {k:IntKind} {a b:Int}:fl P o op t oF (.d (.int k a)) (.d (.int k b))=match CC op k a b with
 |some v=>one v
 |none=>r8 P o op t oF (.d (.int k a)) (.d (.int k b)):=by
  simp only[fl,Ai,if_true]
  cases CC op k a b<;>rfl
@[go_sem] theorem Zi {a b:Bool} (h:og P t=true):fl P o .eql t oF (.d (.bool a)) (.d (.bool b))=one (.d (.bool (a==b))):=by simp only[fl,Ai,L3,h,if_true]
@[go_sem] theorem Zj {a b:Bool} (h:og P t=true):fl P o .neq t oF (.d (.bool a)) (.d (.bool b))=one (.d (.bool (a !=b))):=by simp only[fl,Ai,L3,h,if_true]
@[go_sem] theorem Zk {a b:List UInt8}:fl P o .eql t oF (.d (.str a)) (.d (.str b))=one (.d (.bool (a==b))):=Lh
@[go_sem] theorem Zl {a b:List UInt8}:fl P o .neq t oF (.d (.str a)) (.d (.str b))=one (.d (.bool (a !=b))):=Lh
@[go_sem] theorem Zm {a b:List D}:fl P o op t oF (.d (.agg a)) (.d (.agg b))=r8 P o op t oF (.d (.agg a)) (.d (.agg b)):=Lh
theorem OT{x:V}{y:V}(h:match y with| .d (.int _ _)| .d (.bool _)| .d (.str _)=>False|_=>True):Ai P op t x y=none:=by
 unfold Ai
 split<;>first|exact h.elim|rfl
@[go_sem] theorem VU {x:V}:fl P o op t oF x .aZ=r8 P o op t oF x .aZ:=K1
@[go_sem] theorem VV {x:V}:fl P o op t oF x (.d .fe)=r8 P o op t oF x (.d .fe):=K1
@[go_sem] theorem VW {x:V}:fl P o op t oF x (.d .mU)=r8 P o op t oF x (.d .mU):=K1
@[go_sem] theorem VX {x:V}:fl P o op t oF x (.d .cf)=r8 P o op t oF x (.d .cf):=K1
@[go_sem] theorem VY {x:V}:fl P o op t oF x (.d .hY)=r8 P o op t oF x (.d .hY):=K1
@[go_sem] theorem abR {b:Bool}:IG .not (.d (.bool b))=some (.d (.bool !b)):=Lk
@[go_sem] theorem abS:IG .not .ft=some .ft:=Lk
@[go_sem] theorem abT {k:IntKind} {n:Int}:IG .neg (.d (.int k n))=some (.d (.int k (k.wrap (-n)))):=Lk
end
@[go_sem] theorem D.Zn (cs:List D):(D.agg cs).cells=cs:=rfl
@[go_sem] theorem D.Zo (k:IntKind) (n:Int):(D.int k n).cells=[.int k n]:=rfl
@[go_sem] theorem D.VZ (b:Bool):(D.bool b).cells=[.bool b]:=rfl
@[go_sem] theorem D.Zp (b:List UInt8):(D.str b).cells=[.str b]:=rfl
@[go_sem] theorem D.abU (b:List D):(D.sl b).cells=[.sl b]:=rfl
@[go_sem] theorem D.abV (a b:List D):(D.mp a b).cells=[.mp a b]:=rfl
@[go_sem] theorem D.SS (t:TypeId) (x:D):(D.iface t x).cells=[.iface t x]:=rfl
@[go_sem] theorem D.V0:D.fe.cells=[.fe]:=rfl
@[go_sem] theorem D.V1:D.mU.cells=[.mU]:=rfl
@[go_sem] theorem D.V2:D.cf.cells=[.cf]:=rfl
@[go_sem] theorem D.V3:D.hY.cells=[.hY]:=rfl
attribute [go_sem] V.ofConst V.dn CC L3 qH Fh yF oW im iq sn gu mj qI qJ qK Aj jB L4 me dB b7 eK zS ta oP V.cells D.put bT V.ids V.bg jv D.jR D.flat R.flat
attribute [go_sem] pf List.take_succ_cons List.take_zero List.take_nil List.drop_zero List.drop_succ_cons List.drop_nil
attribute [go_sem] List.map_cons List.map_nil List.length_cons List.length_nil List.cons_append List.nil_append List.append_nil List.getElem?_cons_zero List.getElem?_cons_succ Option.bind_some Option.bind_none Option.map_some Option.map_none ab.cj ab.b9
section
variable {P:Program}{n b:Nat}{rd:Bool}{Q:fG->S->Prop}{s:S}
@[go_sem] theorem abW:kN P n b rd .skip Q s=Q .normal s:=propext Iff.rfl
@[go_sem] theorem aeF {l:List bM}:kN P n b rd (.ah l) Q s=qM P (fun v s=>Q (.bE v) s) (Q .normal) l s:=propext Iff.rfl
@[go_sem] theorem aeG {l:List bM} {pr:List (List Nat)}:kN P n b rd (.dw l pr) Q s=Mk P l pr Q s (sy l 0):=propext Iff.rfl
@[go_sem] theorem Zq {l:List bM} {pr:List (List Nat)}:Mk P l pr Q s none=oG P (PB pr (s.nx+l.length) Q) (CQ pr l s Q) pr l s.nx s []:=propext Iff.rfl
theorem Fz{l:List bM}{pr:List (List Nat)}{m:Nat}(h1:m<=l.length)(h2:Az pr m=true)(h3:oG P (Ha P pr (l.drop m) (s.nx+m) Q) (fun _ _ _=>False) pr (l.take m) s.nx s []):Mk P l pr Q s (some m):=⟨h1,h2,h3⟩
theorem nG{pr:List (List Nat)}{l:List bM}{nx:Nat}{fp:Fp}(h:ez pr fp=true)(h2:qM P (fun v s=>Q (.bE v) s) (Q .normal) l ⟨s.env,s.o,nx⟩):Ha P pr l nx Q s fp:=⟨h,h2⟩
@[go_sem] theorem abX {k:Nat}:sy [] k=none:=rfl
@[go_sem] theorem abY {d:Option Nat} {t:Nat} {args:Array Operand} {ts:Array TypeId} {l:List bM} {k:Nat}:sy (⟨d, .call ⟨.value (.tmp t),args,ts⟩,none⟩::l) k=some k:=rfl
@[go_sem] theorem aeH {d:Option Nat} {op:Op} {g:Nat×Bool} {l:List bM} {k:Nat}:sy (⟨d,op,some g⟩::l) k=sy l (k+1):=rfl
@[go_sem] theorem abZ {d:Option Nat} {f:Nat} {args:Array Operand} {ts:Array TypeId} {l:List bM} {k:Nat}:sy (⟨d, .call ⟨.value (.func f),args,ts⟩,none⟩::l) k=sy l (k+1):=rfl
@[go_sem] theorem aeI {d:Option Nat} {op:Op} {l:List bM} {k:Nat} (h:eE op=none):sy (⟨d,op,none⟩::l) k=sy l (k+1):=by rw[sy.eq_2];simp only[h]
@[go_sem] theorem aeJ {x y:IC}:kN P n b rd (.seq x y) Q s=kN P n b rd x (qA (fun s=>kN P n b rd y Q s) Q) s:=propext Iff.rfl
@[go_sem] theorem ab0 {c:Operand} {x y:IC}:kN P n b rd (.cond c x y) Q s=yO (kN P n b rd x Q s) (kN P n b rd y Q s) (s.ev c):=propext Iff.rfl
@[go_sem] theorem Zr {id:Nat} {x:IC}:kN P n b rd (.block id x) Q s=kN P n b rd x (fw id Q) s:=propext Iff.rfl
@[go_sem] theorem ab1 {x:IC}:kN P n b rd (.loop x) Q s=C0 b (fun Q s=>kN P n b rd x Q s) Q s:=propext Iff.rfl
@[go_sem] theorem ab2 {id:Nat}:kN P n b rd (.exit id) Q s=Q (.exit id) s:=propext Iff.rfl
@[go_sem] theorem aeK:kN P n b rd .ret Q s=Q .ret s:=propext Iff.rfl
@[go_sem] theorem aeL {g:Operand} {ps:List Nat} {x y:IC}:kN P n b rd (.IJ g ps x y) Q s=AE P n b rd g ps x y Q s (s.ev g):=propext Iff.rfl
@[go_sem] theorem ab3 {X:V->S->Prop} {K:S->Prop}:qM P X K [] s=K s:=propext Iff.rfl
@[go_sem] theorem Zs {X:V->S->Prop} {K:S->Prop} {d:Option Nat} {op:Op} {l:List bM}:qM P X K (⟨d,op,none⟩::l) s=CX P X (qM P X K l) ⟨d,op,none⟩ s:=propext Iff.rfl
@[go_sem] theorem Zt {X:V->S->Prop} {K:S->Prop} {d:Option Nat} {op:Op} {g:Nat} {w:Bool} {l:List bM}:qM P X K (⟨d,op,some (g,w)⟩::l) s=AD P X (qM P X K l) ⟨d,op,some (g,w)⟩ s (mL (s.env g) w):=propext Iff.rfl
variable {X:V->S->Prop}{K:S->Prop}{d:Option Nat}{op:Op}{g:Option (Nat×Bool)}{f:Operand}{args:Array Operand}{ts:Array TypeId}{c:Bool}
@[reducible] def Zu:Op->Bool
  | .call c=>match c.callee with
    | .value _=>true
    | .invoke .. =>true
    |_=>false
  | .panic _=>true
  | .next .. =>true
  |_=>false
@[go_sem] theorem aft (h:Zu op=false):CX P X K ⟨d,op,g⟩ s=jT (fun v Δ=>K ⟨aY s.env d v,put s.o Δ,s.nx+1⟩) (gC P s s.nx op):=by
  unfold CX
  cases op with
  |call c=>
   obtain⟨LS,args,ts⟩:=c
   cases LS with
   |value f=>simp[Zu]at h
   |invoke r m=>simp[Zu]at h
   |_=>rfl
  |panic x=>simp[Zu]at h
  |next x str=>simp[Zu]at h
  |_=>rfl
@[go_sem] theorem ab4 {x:Operand} {str:Bool}:CX P X K ⟨d, .next x str,g⟩ s=Mi (fun v Δ=>K ⟨aY s.env d v,put s.o Δ,s.nx+1⟩) str (oR s.o (s.ev x) str) (oS s.o (s.ev x)):=propext Iff.rfl
@[go_sem] theorem ab5:CX P X K ⟨d, .call ⟨.value f,args,ts⟩,g⟩ s=tC P (fun v o' nx'=>K ⟨aY s.env d v,o',nx'⟩) (fun v o' nx'=>X v ⟨s.env,o',nx'⟩) s (s.ev f) (args.toList.map s.ev):=propext Iff.rfl
@[go_sem] theorem V4 {m:String}:CX P X K ⟨d, .call ⟨.invoke f m,args,ts⟩,g⟩ s=Mh P (fun v o' nx'=>K ⟨aY s.env d v,o',nx'⟩) (fun v o' nx'=>X v ⟨s.env,o',nx'⟩) s (args.toList.map s.ev) (vr P m (s.ev f)):=propext Iff.rfl
@[go_sem] theorem Zv:CX P X K ⟨d, .panic f,g⟩ s=Jq (fun v=>X v s) (s.ev f):=propext Iff.rfl
@[go_sem] theorem Zw:AD P X K ⟨d, .call ⟨.value f,args,ts⟩,g⟩ s (some c)=Fy P X K ⟨d, .call ⟨.value f,args,ts⟩,g⟩ s f args.toList c:=propext Iff.rfl
theorem fV{e:Nat->V}{ob:Nat->ab}{nx:Nat}(h:G8 P ((⟨e,ob,nx⟩:S).ev f) (args.toList.map (⟨e,ob,nx⟩:S).ev) ob (fun v=>K ⟨aY e d v,ob,nx+1⟩) c):Fy P X K ⟨d,op,g⟩ ⟨e,ob,nx⟩ f args.toList c:= .inl h
theorem C3{s:S}{o:bM}{l:List Operand}(h:iM (CX P X K o s) (K ⟨aY s.env o.dst (.bW []),s.o,s.nx+1⟩) c):Fy P X K o s f l c:= .inr h
@[go_sem] theorem Zx (h:ll op=true):AD P X K ⟨d,op,g⟩ s (some c)=jT (fun v _=>K ⟨aY s.env d v,s.o,s.nx+1⟩) (lj c (gC P s s.nx op)):=by
  have h2:eE op=none:=by
   cases hc:eE op with
   |none=>rfl
   |some x=>
    exfalso
    unfold eE at hc
    split at hc
    ·split at hc
     ·rename_i hv;simp[ll,hv]at h
     ·cases hc
    ·cases hc
  simp only[AD,h2,h,if_true]
@[go_sem] theorem Zy (h:ll op=false) (h2:eE op=none):AD P X K ⟨d,op,g⟩ s (some c)=iM (CX P X K ⟨d,op,g⟩ s) (K ⟨aY s.env d (.bW []),s.o,s.nx+1⟩) c:=by
  simp[AD,h2,h]
@[go_sem] theorem V5 {l:List Operand}:Fy P X K ⟨d,op,g⟩ s f l false=K ⟨aY s.env d (.bW []),s.o,s.nx+1⟩:=by
  refine propext ⟨fun h=> ?_,fun h=> .inr ⟨(fun e=>by cases e),fun _=>h⟩⟩
  rcases h with⟨rs,_,h⟩|h
  ·exact h
  ·exact h.2 rfl
@[go_sem] theorem Zz {l:List Operand} (hl:args.toList=l):Fy P X K ⟨d, .call ⟨.value f,args,ts⟩,g⟩ s f l true=CX P X K ⟨d, .call ⟨.value f,args,ts⟩,g⟩ s:=by
  subst hl
  refine propext ⟨fun h=> ?_,fun h=> .inr ⟨fun _=>h,(fun e=>by cases e)⟩⟩
  rcases h with⟨rs,h1,h⟩|h
  ·have h1:=h1 rfl
   unfold CU at h1
   unfold CX tC nE
   simp only
   split at h1
   ·rename_i fv gg first cap hf
    simp only[hf]
    split at h1
    ·rename_i ds eZ
     simp only[eZ]
     exact .inl ⟨.ret rs,h1.1, .inr (.inl ⟨h1.2,h⟩)⟩
    ·exact h1.elim
   ·exact h1.elim
  ·exact h.1 rfl
variable {KV:KD}{XV:XD}
@[go_sem] theorem ab6 {fr:Nat}:Oy P KV XV fr ⟨d, .call ⟨.value f,args,ts⟩,g⟩ s=CY P KV XV s.o s.nx fr (oM s (.call ⟨.value f,args,ts⟩)) (s.ev f) (args.toList.map s.ev):=propext Iff.rfl
@[go_sem] theorem afu {fr:Nat} (h2:eE op=none):Oy P KV XV fr ⟨d,op,g⟩ s=vL KV (oM s op) (gC P s fr op):=by simp[Oy,h2]
variable {KS:S->Prop}
@[go_sem ↓] theorem PF:qA KS Q .normal s=KS s:=propext Iff.rfl
@[go_sem ↓] theorem V6 {id:Nat}:qA KS Q (.exit id) s=Q (.exit id) s:=propext Iff.rfl
@[go_sem ↓] theorem ZA:qA KS Q .ret s=Q .ret s:=propext Iff.rfl
@[go_sem ↓] theorem Jt {v:V}:qA KS Q (.bE v) s=Q (.bE v) s:=propext Iff.rfl
@[go_sem ↓] theorem Oz {id:Nat}:fw id Q .normal s=Q .normal s:=propext Iff.rfl
@[go_sem ↓] theorem SU {id:Nat}:fw id Q (.exit id) s=Q .normal s:=by simp[fw]
@[go_sem ↓] theorem PG {id j:Nat} (h:j≠id):fw id Q (.exit j) s=Q (.exit j) s:=by simp[fw,h]
@[go_sem ↓] theorem V7 {id:Nat}:fw id Q .ret s=Q .ret s:=propext Iff.rfl
@[go_sem ↓] theorem FA {id:Nat} {v:V}:fw id Q (.bE v) s=Q (.bE v) s:=propext Iff.rfl
def PH(out:R)(x:Option (List D)):Prop:=match x with|some ds=>out= .ret ds|none=>False
@[go_sem] theorem ZB {out:R} {ds:List D}:PH out (some ds)=(out= .ret ds):=propext Iff.rfl
def V8(out:R)(x:Option D):Prop:=match x with|some d=>out= .bE d|none=>False
@[go_sem] theorem ZC {out:R} {d:D}:V8 out (some d)=(out= .bE d):=propext Iff.rfl
def PI(out:R)(o:Nat->ab)(x:Option (List V)):Prop:=match x with|some vs=>PH out (b7 o vs)|none=>False
@[go_sem] theorem ZD {out:R} {o:Nat->ab} {vs:List V}:PI out o (some vs)=PH out (b7 o vs):=propext Iff.rfl
variable {rs:List ResultVar}{out:R}
@[go_sem ↓] theorem ZE:E9 P rs out .ret s=PI out s.o (me P s rs):=propext Iff.rfl
@[go_sem ↓] theorem PJ:E9 P rs out .normal s=PI out s.o (me P s rs):=propext Iff.rfl
@[go_sem ↓] theorem ZF {v:V}:E9 P rs out (.bE v) s=V8 out (dB s.o v):=propext Iff.rfl
def C4(K:V->(Nat->ab)->Nat->Prop)(o:Nat->ab)(nx:Nat)(x:Fix (Option (List V)) (K,o,nx)):Prop:=match x with
 |some [v]=>K v o nx
 |some vs=>K (.bW vs) o nx
 |none=>False
@[go_sem] theorem ab7 {K:V->(Nat->ab)->Nat->Prop} {o:Nat->ab} {nx:Nat} {v:V}:C4 K o nx (some [v])=K v o nx:=propext Iff.rfl
@[go_sem] theorem ab8 {K:V->(Nat->ab)->Nat->Prop} {o:Nat->ab} {nx:Nat}:C4 K o nx (some [])=K (.bW []) o nx:=propext Iff.rfl
@[go_sem] theorem ab9 {K:V->(Nat->ab)->Nat->Prop} {o:Nat->ab} {nx:Nat} {v u:V} {l:List V}:C4 K o nx (some (v::u::l))=K (.bW (v::u::l)) o nx:=propext Iff.rfl
theorem Hd{K X:V->(Nat->ab)->Nat->Prop}:mi P rs K X .ret s=C4 K s.o s.nx (me P s rs):=by
 unfold mi C4
 cases me P s rs with
 |none=>rfl
 |some l=>match l with
  |[]=>rfl
  |[_]=>rfl
  |_::_::_=>rfl
@[go_sem ↓] theorem aca {K X:V->(Nat->ab)->Nat->Prop}:qN P rs K X .ret s=C4 K s.o s.nx (me P s rs):=Hd
@[go_sem ↓] theorem SV {K X:V->(Nat->ab)->Nat->Prop}:qN P rs K X .normal s=C4 K s.o s.nx (me P s rs):=(Hd (X:=X):mi P rs K X .ret s=_)
@[go_sem ↓] theorem Mm {K X:V->(Nat->ab)->Nat->Prop} {v:V}:qN P rs K X (.bE v) s=X v s.o s.nx:=propext Iff.rfl
variable {KE:S->Fp->Prop}{KP:V->List Nat->Fp->Prop}{pr:List (List Nat)}{fr:Nat}{fp:Fp}
@[go_sem] theorem acb:oG P KE KP pr [] fr s fp=KE s fp:=propext Iff.rfl
@[go_sem] theorem ZG {d:Option Nat} {op:Op} {l:List bM}:oG P KE KP pr (⟨d,op,none⟩::l) fr s fp=
 Oy P (fun v Δ rd=>oG P KE KP pr l (fr+1) ⟨aY s.env d v,put s.o Δ,s.nx⟩ (fp++[(rd,Δ.map (·.1))]))
  (fun v ws rd=>CZ P (KP v) pr l (fr+1) (fp++[(rd,[])]) [fp.length] (ws++fp.flatMap (·.2)) ⟨aY s.env d .aa,s.o,s.nx⟩) fr ⟨d,op,none⟩ s:=propext Iff.rfl
@[go_sem] theorem ZH {d:Option Nat} {op:Op} {g:Nat} {w:Bool} {l:List bM}:oG P KE KP pr (⟨d,op,some (g,w)⟩::l) fr s fp=
 jU w (Oy P (fun v Δ rd=>oG P KE KP pr l (fr+1) ⟨aY s.env d v,put s.o Δ,s.nx⟩ (fp++[(rd,Δ.map (·.1))]))
  (fun v ws rd=>CZ P (KP v) pr l (fr+1) (fp++[(rd,[])]) [fp.length] (ws++fp.flatMap (·.2)) ⟨aY s.env d .aa,s.o,s.nx⟩) fr ⟨d,op,some (g,w)⟩ s)
   (oG P KE KP pr l (fr+1) ⟨aY s.env d (.bW []),s.o,s.nx⟩ (fp++[([],[])])) (s.env g):=propext Iff.rfl
end
attribute [go_sem] Zu eE ll gC one ml aY S.ev CU
theorem ak{ι:Type}{b:Nat}{st:ι->S}{bn:ι->Prop}{pC:ι->Nat}{i:ι}{s:S}(j:ι)(h1:bn j)(h2:pC j<pC i)(h3:bt b s (st j)):Hb b st bn pC i s:=⟨j,h1,h2,h3⟩
attribute [irreducible] Mk Ha kN qM CX AD Fy tC nE CW Mg Mh G8 tA CV jT Jq iM jU Mj sw nF sx CY vL Oy oG CZ AE yN qN C4 PB yO C0 PH V8 PI vM Hb
end
section
section
variable (ρ:Nat->Option Nat)(o' o:Nat->ab)(nx:Nat)
end
section
variable {M M':Nat->Prop}{φ aG:Place}{H H':Hp}{w:World}{ρ:Nat->Option Nat}{nx:Nat}
end
end
@[go_sem] theorem oh (v:V) (l:List V):aU (v::l) 0=v:=rfl
@[go_sem] theorem oi (v:V) (l:List V) (i:Nat):aU (v::l) (i+1)=aU l i:=rfl
@[go_sem] theorem qO (i:Nat):aU [] i= .aa:=by simp[aU]
@[go_sem] theorem SW (k:Nat):(0<=(k:Int))=True:=aI
attribute [go_sem] List.getElem?_map List.length_map Int.toNat_natCast
attribute [go_sem] eL List.flatMap_cons List.flatMap_nil
attribute [go_sem] isConst r8 OZ rY rZ B1 rX qh ET O0 yg IL pg ph yf vf vg qi
attribute [go_sem] oM V.refs V.aE
attribute [go_sem] List.all_nil List.all_cons Option.some.injEq D.int.injEq D.bool.injEq Nat.zero_add Nat.add_zero
theorem wrap64{n:Int}(h1: -9223372036854775808<=n)(h2:n<=9223372036854775807):IntKind.i64.wrap n=n:=by
 unfold IntKind.wrap
 have e1:((2:Int)^IntKind.i64.bits)=18446744073709551616:=bI
 have e2:((2:Int)^(IntKind.i64.bits - 1))=9223372036854775808:=bI
 have e3:IntKind.i64.signed=true:=rfl
 simp only[e1,e2,e3,Bool.true_and,decide_eq_true_eq]
 split<;>omega
structure Good (o:Nat->ab) (nx:Nat):Prop where
 fresh:∀id,nx<=id->o id= .no
 refs:∀id,∀r∈(o id).refs,r<nx
theorem Good.nil {nx:Nat}:Good (fun _=> .no) nx:=⟨fun _ _=>rfl,fun id r h=>by cases h⟩
theorem Good.ax {o:Nat->ab}{nx i:Nat}{x:ab}(h:Good o nx)(hi:i<nx)(hx:x.refs.all (fun r=>decide (r<nx))=true):Good (ax o i x) nx:=by
 refine⟨fun id aq=> ?_,fun id r hr=> ?_⟩
 ·rw[ae _ _ _ _ (by omega)];exact h.fresh id aq
 ·by_cases e:id=i
  ·subst e
   rw[af]at hr
   simpa using List.all_eq_true.1 hx r hr
  ·rw[ae _ _ _ _ e]at hr
   exact h.refs id r hr
theorem Good.mono {o:Nat->ab}{nx m:Nat}(h:Good o nx)(hm:nx<=m):Good o m:=⟨fun id aq=>h.fresh id ag,fun id r hr=>Nat.lt_of_lt_of_le (h.refs id r hr) hm⟩
theorem Good.lt {o:Nat->ab}{nx id:Nat}(h:Good o nx)(hn:o id≠ .no):id<nx:=by
 rcases Nat.lt_or_ge id nx with hl|hl
 ·exact hl
 ·exact absurd (h.fresh id hl) hn
theorem V.xY:∀ (l:List V) (i:Nat),∀r∈(aU l i).refs,r∈V.aE l
 |[],i,r,h=>by rw[qO]at h;cases h
 |v::l,0,r,h=>by rw[oh]at h;simp only[V.aE,List.mem_append];exact .inl h
 |v::l,i+1,r,h=>by rw[oi]at h;simp only[V.aE,List.mem_append];exact .inr (V.xY l i r h)
theorem bt.back {b:Nat}{s:S}{env:Nat->V}{o:Nat->ab}{nx:Nat}(hb:b<=nx)(hn:nx<=s.nx)(hg:Good o nx)(ho:∀id,id<nx->s.o id=o id)
 (he:∀i,env i= .aa\/(env i=s.env i/\∀r∈(env i).refs,r<nx)):bt b s ⟨env,o,nx⟩:=by
 intro M φ w tm hH hd
 have cN:∀k,cE φ (hp o nx) k->cE φ s.H k:=by
  rintro k ⟨id,h1,h2⟩
  have aq:id<nx:=hg.lt (fun e=>by simp only[hp]at h1;rw[e]at h1;cases h1)
  exact⟨id,by simp only[S.H];rw[ho id aq];exact h1,h2⟩
 have hB:∀k, ¬ao M φ s.H k-> ¬ao M φ (hp o nx) k:=fun k h h'=>h (h'.imp id (cN k))
 have eY:∀ (v:V) (val:Value),(∀r∈v.refs,r<nx)->V.den (ao M φ s.H) φ s.H w v val->V.den (ao M φ (hp o nx)) φ (hp o nx) w v val:=fun v val hr h=>
  V.nz (H:=s.H) (H':=hp o nx) hB v val (fun id aq=>⟨(ho id (hr id aq)).symm,rfl,hr id aq⟩) h
 have jK:∀ (v:List V) (val:List Value),(∀r∈V.aE v,r<nx)->V.aB (ao M φ s.H) φ s.H w v val->V.aB (ao M φ (hp o nx)) φ (hp o nx) w v val:=fun v val hr h=>
  V.gv (H:=s.H) (H':=hp o nx) hB v val (fun id aq=>⟨(ho id (hr id aq)).symm,rfl,hr id aq⟩) h
 refine⟨φ,⟨fun id=> ?_,fun id hu=>hg.fresh id (by simpa[S.H]using hu),fun i j k h1 h2 h3 h4=> ?_,fun k hk=>hH.ours k (cN k hk),hH.BB⟩,fun i=> ?_,cN,hb,fun id aq hr=> ?_,fun id e' aq pW=> ?_⟩
 ·have bc:=hH.ok id
  have hrefs:=hg.refs id
  unfold aP at bc|-
  by_cases aq:id<nx
  ·have e:s.H.o id=o id:=ho id aq
   rw[e]at bc
   simp only[S.H]at bc|-
   cases hx:o id with
   |no=>trivial
   |row cs=>
    simp only[hx]at bc hrefs|-
    exact RV
   |arr ep ty sz es=>
    simp only[hx]at bc|-
    obtain⟨k1,xs,k2,evs,k3,k4,k5⟩:=bc
    exact aaN
   |rV ep es=>
    simp only[hx]at bc|-
    exact OQ
   |map kt vt es=>
    simp only[hx]at bc|-
    obtain⟨b,es',clock,k1,k2,k4,k3⟩:=bc
    exact aaK
   |hZ l=>
    simp only[hx]at bc|-
    exact OQ
   |pb l last=>
    simp only[hx]at bc|-
    obtain⟨b,k1,k2⟩:=bc
    exact RL
   |zQ s pos=>
    simp only[hx]at bc|-
    exact bc
   |loop nf n env ps a b st pd=>
    simp only[hx]at bc hrefs|-
    exact Sc
  ·simp only[S.H]
   rw[hg.fresh id (by omega)]
   trivial
 ·have hi:i<nx:=hg.lt (fun e=>by simp only[S.H]at h1;rw[e]at h1;cases h1)
  have hj:j<nx:=hg.lt (fun e=>by simp only[S.H]at h2;rw[e]at h2;cases h2)
  exact hH.apart i j k (by simp only[S.H];rw[ho i hi];exact h1) (by simp only[S.H];rw[ho j hj];exact h2) h3 h4
 ·rcases he i with h|⟨h1,h2⟩
  ·simp only[h];trivial
  ·have:=hd i
   rw[<- h1]at this
   exact eY _ _ h2 this
 ·have cG:id<nx:=ag
  exact⟨by rw[ho id cG];exact hr,rfl⟩
 ·have cG:id<nx:=ag
  exact⟨e',by rw[ho id cG];exact pW,Nat.le_refl _,fun _=>rfl⟩
def lK(nx:Nat)(env:Nat->V):List V->Nat->Prop
 |[],_=>True
 |v::l,i=>(v= .aa\/(v=env i/\∀r∈v.refs,r<nx))/\lK nx env l (i+1)
theorem bt.aT {b:Nat}{e:Nat->V}{so:Nat->ab}{m:Nat}(l:List V){o:Nat->ab}{nx:Nat}(hb:b<=nx)(hn:nx<=m)(hg:Good o nx)(ho:∀id,id<nx->so id=o id)(he:lK nx e l 0):bt b ⟨e,so,m⟩ ⟨aU l,o,nx⟩:=by
 refine bt.back hb hn hg ho ?_
 have key:∀ (l:List V) (i:Nat),lK nx e l i->∀j,aU l j= .aa\/(aU l j=e (i+j)/\∀r∈(aU l j).refs,r<nx):=by
  intro l
  induction l with
  |nil=>intro i _ j;rw[qO];exact .inl rfl
  |cons v l ih=>
   intro i h j
   cases j with
   |zero=>rw[oh];exact h.1
   |succ j=>
    rw[oi]
    have:=ih (i+1) h.2 j
    rwa [show i+1+j=i+(j+1) by omega]at this
 intro i
 have:=key l 0 he i
 rwa [Nat.zero_add]at this
theorem Iz{nx:Nat}{env:Nat->V}{i:Nat}:lK nx env [] i:=trivial
theorem EG{nx:Nat}{env:Nat->V}{l:List V}{i:Nat}(h:lK nx env l (i+1)):lK nx env (.aa::l) i:=⟨.inl rfl,h⟩
theorem Gn{nx:Nat}{env:Nat->V}{l:List V}{i:Nat}{x:D}(he:env i= .d x)(h:lK nx env l (i+1)):lK nx env (.d x::l) i:=⟨.inr ⟨he.symm,fun r hr=>by simp[V.refs]at hr⟩,h⟩
theorem OK{nx:Nat}{env:Nat->V}{l:List V}{i:Nat}{v:V}(he:env i=v)(hr:∀r∈v.refs,r<nx)(h:lK nx env l (i+1)):lK nx env (v::l) i:=⟨.inr ⟨he.symm,hr⟩,h⟩
theorem bt.d0 {e:Nat->V}{so:Nat->ab}{m:Nat}(l:List V)(he:lK 0 e l 0):bt 0 ⟨e,so,m⟩ ⟨aU l,fun _=> .no,0⟩:=bt.aT l (Nat.le_refl 0) (Nat.zero_le _) Good.nil (fun _ h=>absurd h (Nat.not_lt_zero _)) he
theorem BJ{k:Nat}(h:(k:Int)+1<=9223372036854775807):IntKind.i64.wrap ((k:Int)+1)=((k+1:Nat):Int):=by rw[wrap64 (by omega) h];rfl
theorem BI{k:IntKind}{a b:Int}(h:a=b):V.d (D.int k a)=V.d (D.int k b):=by rw[h]
theorem nH{P:Program}{g:FuncId}{K:KD}{X:XD}{o:Nat->ab}{nx fr:Nat}{all:List V}{rd:List Nat}{rs:List D}{Δ:List (Nat×ab)}(m5:rd.all (fun id=>decide (id<nx))=true)(h:xF P g all rd o (.ret rs) Δ)(hk:K (jv rs) Δ rd):nF P g K X o nx fr all:=by
 unfold nF
 exact⟨rd,Δ,m5, .inl ⟨rs,h,hk⟩⟩
abbrev D.i (n:Int):D:= .int .i64 n
structure jo where
 name:List UInt8
 args:Int
structure bH where
 cons:List jo
 bK:List jo
inductive Tm where
 |mk (op n:Int) (kids:List Tm)
 deriving Inhabited
structure TB where
 var:Int
 term:Tm
def Tm.op:Tm->Int| .mk op _ _=>op
def Tm.n:Tm->Int| .mk _ n _=>n
def Tm.kids:Tm->List Tm| .mk _ _ l=>l
theorem Tm.ind {P:Tm->Prop}(h:∀op n kids,(∀k∈kids,P k)->P (.mk op n kids)):∀t,P t:=
 fun t=>Tm.rec (motive_1:=P) (motive_2:=fun l=>∀k∈l,P k) (fun op n kids ih=>h op n kids ih) (fun _ h=>by cases h)
  (fun x l hx hl k hk=>(List.mem_cons.1 hk).elim (fun e=>e ▸ hx) (hl k)) t
mutual
def Tm.d:Tm->D
 | .mk op n kids=> .agg [.i op, .i n, .sl (Tm.ds kids)]
def Tm.ds:List Tm->List D
 |[]=>[]
 |t::l=>t.d::Tm.ds l
end
theorem Tm.FB:∀l:List Tm,Tm.ds l=l.map Tm.d
 |[]=>rfl
 |t::l=>by simp[Tm.ds,Tm.FB l]
theorem Tm.acd (t:Tm):t.d= .agg [.i t.op, .i t.n, .sl (t.kids.map Tm.d)]:=by cases t;simp[Tm.d,Tm.FB,Tm.op,Tm.n,Tm.kids]
@[go_sem] theorem Tm.afv (t:Tm):D.agg [.i t.op, .i t.n, .sl (t.kids.map Tm.d)]=t.d:=(Tm.acd t).symm
@[go_sem] theorem Tm.aeM (t:Tm):D.cells t.d=[.i t.op, .i t.n, .sl (t.kids.map Tm.d)]:=by rw[Tm.acd];rfl
theorem Tm.fy {P:Tm->Prop}(h:∀t:Tm,(∀k∈t.kids,P k)->P t):∀t,P t:=Tm.ind fun op n kids ih=>h (.mk op n kids) ih
theorem Tm.C5 (op n:Int)(l:List Tm):(Tm.mk op n l).d= .agg [.i op, .i n, .sl (l.map Tm.d)]:=by simp[Tm.d,Tm.FB]
@[reducible] def jo.d (x:jo):D:= .agg [.str x.name, .i x.args]
@[reducible] def bH.d (s:bH):D:= .agg [.sl (s.cons.map jo.d), .sl (s.bK.map jo.d)]
@[reducible] def TB.d (b:TB):D:= .agg [.i b.var, .i b.term.op, .i b.term.n, .sl (b.term.kids.map Tm.d)]
mutual
def Tm.fits:Tm->Prop
 | .mk _ _ kids=>kids.length<=9223372036854775807/\Tm.C6 kids
def Tm.C6:List Tm->Prop
 |[]=>True
 |t::l=>t.fits/\Tm.C6 l
end
theorem Tm.yU:∀l:List Tm,Tm.C6 l↔∀k∈l,k.fits
 |[]=>by simp[Tm.C6]
 |t::l=>by simp[Tm.C6,Tm.yU l]
theorem Tm.bZ (t:Tm):t.fits↔t.kids.length<=9223372036854775807/\∀k∈t.kids,k.fits:=by cases t;simp[Tm.fits,Tm.yU,Tm.kids]
mutual
def Tm.nI:Tm->Nat
 | .mk _ _ kids=>1+Tm.mm kids
def Tm.mm:List Tm->Nat
 |[]=>0
 |k::l=>Nat.max k.nI (Tm.mm l)
end
theorem Tm.C7:∀ {l:List Tm} {k:Tm},k∈l->k.nI<=Tm.mm l
 |x::l,k,h=>by
  simp only[Tm.mm]
  rcases List.mem_cons.1 h with rfl|h
  ·exact Nat.le_max_left _ _
  ·exact Nat.le_trans (Tm.C7 h) (Nat.le_max_right _ _)
theorem Tm.qP {t k:Tm}(h:k∈t.kids):k.nI+1<=t.nI:=by
 cases t;simp only[Tm.kids]at h;simp only[Tm.nI];have:=Tm.C7 h;omega
mutual
def pre:Tm->Int->List (Tm×Int)
 | .mk op n kids,d=>(.mk op n kids,d)::PK kids (d+1)
def PK:List Tm->Int->List (Tm×Int)
 |[],_=>[]
 |k::l,d=>pre k d++PK l d
end
theorem Ju(l:List Tm)(d:Int):PK l d=l.flatMap fun k=>pre k d:=by
 induction l with
 |nil=>rfl
 |cons k l ih=>simp[PK,ih]
theorem jV(t:Tm)(d:Int):pre t d=(t,d)::t.kids.flatMap fun k=>pre k (d+1):=by cases t;simp[pre,Ju,Tm.kids]
def dR(n low high:Int):Bool:=decide (low<=n)&&decide (n<=high)
def letterF(b:UInt8):Bool:= !((decide ((b.toNat:Int)<97)||decide (122<(b.toNat:Int)))&&(decide ((b.toNat:Int)<65)||decide (90<(b.toNat:Int))))
def jW(s:List UInt8):Bool:=s.all letterF&&dR s.length 1 8
def bY:List jo->List (List UInt8)->Option (List (List UInt8))
 |[],before=>some before
 |x::l,before=>if before.any (· ==x.name)then none else if(!jW x.name|| !dR x.args 0 4)=true then none else bY l (before++[x.name])
def fB:List UInt8:=[70,97,108,115,101]
def tB:List UInt8:=[84,114,117,101]
def mV(x:jo)(s:List UInt8):Bool:=x.name==s&&x.args==0
def jw(s:bH):Bool:=
 if(!dR s.cons.length 2 12||decide (8<(s.bK.length:Int)))=true then false else
 match s.cons with
 |a::b::_=>if(!mV a fB|| !mV b tB)=true then false else
  match bY s.cons []with
  |none=>false
  |some l=>(bY s.bK l).isSome
 |_=>false
mutual
def iN:Tm->Int->Int->Int
 | .mk _ _ kids,left,depth=>if left<1\/depth<1 then -1 else cu kids (left - 1) (depth - 1)
def cu:List Tm->Int->Int->Int
 |[],left,_=>left
 |k::l,left,depth=>if 0<=left then cu l (iN k left depth) depth else left
end
def fW(l:List jo)(n:Int):Int:=match l[n.toNat]? with|some x=>x.args|none=>0
def bu(s:bH)(t:Tm):Bool:=
 let k:Int:=t.kids.length
 if t.op=1 then k==0&&dR t.n 0 19
 else if t.op=2 then k==0&&dR t.n (-1000000) 1000000
 else if t.op=3 then dR t.n 0 (s.cons.length - 1)&&k==fW s.cons t.n
 else if t.op=4 then dR t.n 0 (s.bK.length - 1)&&k==fW s.bK t.n
 else if t.op=5 then dR t.n 0 (s.bK.length - 1)&&decide (k<fW s.bK t.n)
 else if t.op=8 then k==2&&dR t.n 0 19
 else if(dR t.op 6 15)=true then k==2&&t.n==0
 else false
mutual
def jX(s:bH):Tm->Bool
 | .mk op n kids=>bu s (.mk op n kids)&&uI s kids
def uI(s:bH):List Tm->Bool
 |[]=>true
 |k::l=>jX s k&&uI s l
end
def fL(s:bH)(t:Tm):Bool:=decide (0<=iN t 40 12)&&jX s t
mutual
def kO:Tm->Tm->Bool
 | .mk op n kids, .mk op' n' SX=>op==op'&&n==n'&&kids.length==SX.length&&lp kids SX
def lp:List Tm->List Tm->Bool
 |[],_=>true
 |k::l,k'::l'=>kO k k'&&lp l l'
 |_::_,[]=>true
end
def lq(t:Tm):Bool:=decide (0<=iN t 50 14)
def fP(l:List jo):Bool:=l.all fun x=>decide ((x.name.length:Int)<=30)
def iy(s:bH):Bool:= !(decide (16<(s.cons.length:Int))||decide (12<(s.bK.length:Int)))&&fP s.cons&&fP s.bK
structure lx where
 f:Int
 t:Int
 l:Bool
@[reducible] def lx.d (a:lx):D:= .agg [.i a.f, .i a.t, .bool a.l]
def lx.k (a:lx):Nat:=(a.f*4+a.t).toNat
def lx.v (a:lx):Int:=if a.l=true then 2 else 1
def sC:List lx->Int->List Int->Option (List Int)
 |[],_,m=>some m
 |a::l,last,m=>if a.f<0\/4<=a.f\/a.t<0\/4<=a.t\/a.f*4+a.t<=last then none else sC l (a.f*4+a.t) (m.set a.k a.v)
def Jv:List Int:=[0,0,0,0,0,0,0,0,0,0,0,0,0,0,0,0]
def xH(a b:List Int)(i j:Nat)(acc:Int)(k:Nat):Int:=
 if a.getD (i*4+k) 0≠0/\b.getD (k*4+j) 0≠0 then max (max acc (a.getD (i*4+k) 0)) (b.getD (k*4+j) 0)else acc
def fA(a b:List Int)(i j:Nat)(n:Nat):Int:=(List.range n).foldl (xH a b i j) 0
def c7(m n:List Int):List Int:=(List.range 16).map fun p=>fA m n (p/4) (p%4) 4
def mn(m:List Int)(q:Nat):List lx:=(List.range q).filterMap fun p=>if m.getD p 0≠0 then some ⟨(p/4:Nat),(p%4:Nat),m.getD p 0==2⟩else none
theorem C8{α β:Type}{f g:α->Option β}:∀ {l:List α},(∀x∈l,f x=g x)->l.filterMap f=l.filterMap g
 |[],_=>rfl
 |x::l,h=>by
  have ih:=C8 (l:=l) fun y hy=>h y kD
  rw[List.filterMap_cons,List.filterMap_cons,h x (by simp),ih]
def ku(m n:List Int)(i k j:Nat):List Int:=(List.range 16).map fun p=>if p/4<i then fA m n (p/4) (p%4) 4 else if p/4=i then fA m n (p/4) (p%4) (if p%4<j then k+1 else k)else 0
theorem fM(m n:List Int)(i k j:Nat):(ku m n i k j).length=16:=by simp[ku]
theorem jY(m n:List Int)(i k j p:Nat)(hp:p<16):(ku m n i k j)[p]? =some (if p/4<i then fA m n (p/4) (p%4) 4 else if p/4=i then fA m n (p/4) (p%4) (if p%4<j then k+1 else k)else 0):=by
 unfold ku;rw[List.getElem?_map,List.getElem?_range hp];rfl
theorem iO{l l':List Int}(h1:l.length=16)(h2:l'.length=16)(h:∀p,p<16->l[p]? =l'[p]?):l=l':=by
 apply List.ext_getElem?
 intro p
 by_cases hp:p<16
 ·exact h p hp
 ·rw[List.getElem?_eq_none (by omega),List.getElem?_eq_none (by omega)]
theorem outS_0(m n:List Int):ku m n 0 0 0=Jv:=by rfl
theorem V9(m n:List Int)(i k:Nat):ku m n i k 4=ku m n i (k+1) 0:=by
 refine iO (fM ..) (fM ..) fun p hp=> ?_
 rw[jY _ _ _ _ _ _ hp,jY _ _ _ _ _ _ hp,if_pos (Nat.mod_lt p (by omega)),if_neg (Nat.not_lt_zero _)]
theorem Wa(m n:List Int)(i:Nat):ku m n i 4 0=ku m n (i+1) 0 0:=by
 refine iO (fM ..) (fM ..) fun p hp=> ?_
 rw[jY _ _ _ _ _ _ hp,jY _ _ _ _ _ _ hp,if_neg (Nat.not_lt_zero _)]
 by_cases h1:p/4<i
 ·rw[if_pos h1,if_pos (by omega)]
 ·rw[if_neg h1]
  by_cases h2:p/4=i
  ·rw[if_pos h2,if_pos (by omega)]
  ·rw[if_neg h2,if_neg (by omega)]
   split<;>rfl
theorem Wb(m n:List Int):ku m n 4 0 0=c7 m n:=by
 unfold ku c7
 apply List.map_congr_left
 intro p hp
 have hp:p<16:=by simpa using hp
 rw[if_pos (by omega)]
theorem Mn(m n:List Int)(i j k:Nat):fA m n i j (k+1)=xH m n i j (fA m n i j k) k:=by
 unfold fA;rw[List.range_succ,List.foldl_append];rfl
theorem He(m n:List Int)(i k j:Nat)(hi:i<4)(hj:j<4):(ku m n i k j)[i*4+j]? =some (fA m n i j k):=by
 rw[jY _ _ _ _ _ _ (by omega)]
 have e1:(i*4+j)/4=i:=ag
 have e2:(i*4+j)%4=j:=ag
 rw[e1,e2,if_neg (Nat.lt_irrefl _),if_pos rfl,if_neg (Nat.lt_irrefl _)]
theorem Jw(m n:List Int)(i k j:Nat)(hi:i<4)(hj:j<4):ku m n i k (j+1)=(ku m n i k j).set (i*4+j) (xH m n i j (fA m n i j k) k):=by
 refine iO (fM ..) (by rw[List.length_set];exact fM ..) fun p hp=> ?_
 rw[List.getElem?_set,jY _ _ _ _ _ _ hp]
 by_cases h:i*4+j=p
 ·rw[if_pos h,if_pos (show i*4+j<(ku m n i k j).length by rw[fM];omega)]
  have e1:p/4=i:=ag
  have e2:p%4=j:=ag
  rw[e1,e2,if_neg (Nat.lt_irrefl _),if_pos rfl,if_pos (by omega),Mn]
 ·rw[if_neg h,jY _ _ _ _ _ _ hp]
  by_cases h1:p/4=i
  ·by_cases h2:p%4<j
   ·rw[if_pos (by omega:p%4<j+1),if_pos h2]
   ·rw[if_neg (by omega: ¬p%4<j+1),if_neg h2]
  ·rw[if_neg h1,if_neg h1]
theorem Mo(m:List Int)(q:Nat):mn m (q+1)=mn m q++(if m.getD q 0≠0 then [⟨(q/4:Nat),(q%4:Nat),m.getD q 0==2⟩]else []):=by
 unfold mn
 rw[List.range_succ,List.filterMap_append]
 congr 1
 by_cases h:m.getD q 0≠0
 ·rw[if_pos h];simp only[List.filterMap_cons,if_pos h,List.filterMap_nil]
 ·rw[if_neg h];simp only[List.filterMap_cons,if_neg h,List.filterMap_nil]
theorem AH(m:List Int)(q:Nat):(mn m q).length<=q:=by
 unfold mn
 have:=List.length_filterMap_le (fun p=>if m.getD p 0≠0 then some (⟨(p/4:Nat),(p%4:Nat),m.getD p 0==2⟩:lx)else none) (List.range q)
 simpa using this
end Go.Proofs.YtnkamdiiakdkgaaGreat
