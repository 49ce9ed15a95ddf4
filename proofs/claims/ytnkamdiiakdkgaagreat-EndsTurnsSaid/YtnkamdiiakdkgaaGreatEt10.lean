/-
  A PART OF THE PROOF. Conditions: none.
-/
import Derived.Test.YtnkamdiiakdkgaaGreatEt9
set_option linter.unusedSimpArgs false
set_option linter.unusedVariables false
namespace Go.Proofs.YtnkamdiiakdkgaaGreat
section
abbrev Fix(α:Type){β:Type}(_:β):Type:=α
def j9(K:V->List (Nat×ab)->Prop)(x:Fix (Option fy) K):Prop:=match x with|some (v,Δ,_)=>K v Δ|none=>False
@[go_sem] theorem Sj {v:V} {Δ:List (Nat×ab)} {rd:List Nat} {K}:j9 K (some (v,Δ,rd))=K v Δ:=propext Iff.rfl
@[go_sem] theorem Sk {K}:j9 K none=False:=propext Iff.rfl
def V.yr (c:Bool)(v:V):V:=if c=true then v else .bT []
@[go_sem] theorem Yw (b:Bool):(!!b)=b:=aJ
attribute [go_sem] true_or or_true false_or ne_eq not_false_eq_true decide_true decide_false Bool.not_true Bool.not_false Bool.and_true Bool.true_and Bool.and_false Bool.false_and Bool.or_true Bool.true_or Bool.or_false Bool.false_or beq_self_eq_true Bool.true_eq_false Bool.false_eq_true not_true_eq_false and_true true_and and_false false_and eq_self
@[go_sem] theorem V.Yx (v:V):V.yr true v=v:=rfl
@[go_sem] theorem V.Vw (v:V):V.yr false v= .bT []:=rfl
def lT(c:Bool)(p:Prop):Prop:=c=true->p
@[congr] theorem Pm {c c':Bool} {p p':Prop} (h:c=c') (h2:c'=true->p=p'):lT c p=lT c' p':=by
  subst h;cases c
  ·simp[lT]
  ·simp[lT,h2 rfl]
@[go_sem] theorem Sl (p:Prop):lT true p=p:=by simp[lT]
@[go_sem] theorem Po (p:Prop):lT false p=True:=by simp[lT]
@[go_sem] theorem Sm (a:Bool):lT a True=True:=by simp[lT]
def lU(v:V)(want:Bool):Option Bool:=
 match v with
 | .d (.bool b)=>some (b==want)
 | .bT []=>some false
 |_=>none
@[go_sem] theorem Sn (b:Bool):lU (.d (.bool b)) true=some b:=by simp[lU]
@[go_sem] theorem Pp (b:Bool):lU (.d (.bool b)) false=some (!b):=by simp[lU]
@[go_sem] theorem Yy (want:Bool):lU (.bT []) want=some false:=rfl
@[go_sem] theorem Vx (c b want:Bool):lU (V.yr c (.d (.bool b))) want=some (c&&(b==want)):=by cases c<;>simp[lU,V.yr]
@[go_sem] theorem Sq (c b e want:Bool):lU (V.yr c (V.yr e (.d (.bool b)))) want=some (c&&e&&(b==want)):=by cases c<;>cases e<;>simp[lU,V.yr]
def kA(c:Bool)(x:Option fy):Option fy:=
 if c=true then(match x with|some (v,[],_)=>some (v,[],[])|_=>none)else some (.bT [],[],[])
@[congr] theorem Mw {c c':Bool} {x x':Option fy} (h:c=c') (h2:c'=true->x=x'):kA c x=kA c' x':=by
  subst h;cases c
  ·rfl
  ·simp[kA,h2 rfl]
def Vy(v:V)(rd:List Nat):Option fy:=some (v,[],rd)
@[go_sem] theorem acn (v:V) (rd:List Nat):(some (v,[],rd):Option fy)=Vy v rd:=by unfold Vy;exact Eq.trans rfl rfl
@[go_sem] theorem Sr (c:Bool) (v:V) (rd:List Nat):kA c (Vy v rd)=Vy (V.yr c v) []:=by cases c<;>rfl
@[go_sem] theorem Vz {v:V} {rd:List Nat} {K}:j9 K (Vy v rd)=K v []:=propext Iff.rfl
@[go_sem] theorem Pq (c:Bool) (v:V) (rd:List Nat):kA c (some (v,[],rd))=some (V.yr c v,[],[]):=by cases c<;>rfl
@[go_sem] theorem Mx (x:Option fy):kA false x=some (.bT [],[],[]):=rfl
@[go_sem] theorem Yz (b x:Bool):pG (.d (.bool b)) (V.yr b (.d (.bool x))) (.d (.bool false))=some (.d (.bool (b&&x))):=zX
@[go_sem] theorem abz (b x:Bool):pG (.d (.bool b)) (.d (.bool true)) (V.yr (!b) (.d (.bool x)))=some (.d (.bool (b||x))):=zX
@[go_sem] theorem YA (b x:Bool):pG (.d (.bool (!b))) (.d (.bool true)) (V.yr b (.d (.bool x)))=some (.d (.bool (!b||x))):=zX
@[go_sem] theorem VA (x y:V):pG (.d (.bool true)) x y=some x:=rfl
@[go_sem] theorem Ss (x y:V):pG (.d (.bool false)) x y=some y:=rfl
@[reducible] def kC:Op->Bool
  | .move _| .assign _| .pick .. | .load .. | .binOp .. | .unOp .. | .nilCheck _| .convert .. | .makeInterface .. | .makeFunc .. | .fieldAddr .. | .indexAddr .. | .extract .. | .build .. | .index .. | .field .. | .lookup .. =>true
  | .call c=>match c.callee with
    | .builtin .len=>true
    | .builtin .min=>true
    | .builtin .max=>true
    |_=>false
  |_=>false
def A6(P:Program)(f:V)(args:List V)(o:Nat->ab)(rs:List D):Prop:=
 match f with
 | .func (.func g) first cap=>match bU o (first++args++cap)with
   |some ds=>aV P g ds (.ret rs)/\D.jv rs=true
   |none=>False
 |_=>False
def Ex(P:Program)(f:V)(args:List V)(o:Nat->ab)(K:V->Prop)(c:Fix Bool (f,args,o,K)):Prop:=
 ∃rs,lT c (A6 P f args o rs)/\K (V.yr c (iX rs))
def A7(P:Program)(g:FuncId)(nx:Nat)(K X:V->(Nat->ab)->Nat->Prop)(args:Fix (List V) (K,X))(o:Fix (Nat->ab) (K,X)):Prop:=rJ P g args o nx K X
def ub(P:Program)(g:FuncId)(o:Nat->ab)(nx:Nat)(K X:V->(Nat->ab)->Nat->Prop)(ds:Fix (List D) (o,nx,K,X))(all:Fix (List V) (o,nx,K,X)):Prop:=
 tR P g ds o (put o (cc o (V.bc all))) (put o (qy o (V.bc all))) (fun v o'=>K v o' (nx+1)) (fun v o'=>X v o' (nx+1))\/rJ P g all o nx K X
def mL(P:Program)(g:FuncId)(K X:V->(Nat->ab)->Nat->Prop)(s:S)(all:List V)(ds:Fix (Option (List D)) (K,X,s,all)):Prop:=
 match ds with
 |some ds=>ub P g s.o s.nx K X ds all
 |none=>A7 P g s.nx K X all s.o
@[go_sem] theorem Pr {P:Program} {s:S} {ds:List D} {g:FuncId} {all:List V} {K X}:
 mL P g K X s all (some ds)=ub P g s.o s.nx K X ds all:=propext Iff.rfl
def wO(P:Program)(id:Nat)(K X:V->(Nat->ab)->Nat->Prop)(s:S)(args:Fix (List V) (K,X,s)):Prop:=dt P id args s.o s.nx K X
@[go_sem] theorem Ps {P:Program} {s:S} {g:FuncId} {all:List V} {K X}:mL P g K X s all none=A7 P g s.nx K X all s.o:=propext Iff.rfl
def rP(P:Program)(K X:V->(Nat->ab)->Nat->Prop)(s:S)(f:Fix V (K,X,s))(args:Fix (List V) (K,X,s)):Prop:=
 match f with
 | .func (.func g) first cap=>mL P g K X s (first++args++cap) (bU s.o (first++args++cap))
 | .iW id=>wO P id K X s args
 |_=>False
@[go_sem] theorem VB {P:Program} {s:S} {id:Nat} {args:List V} {K X}:rP P K X s (.iW id) args=wO P id K X s args:=propext Iff.rfl
@[go_sem] theorem Su {P:Program} {s:S} {g:FuncId} {first cap args:List V} {K X}:rP P K X s (.func (.func g) first cap) args=mL P g K X s (first++args++cap) (bU s.o (first++args++cap)):=propext Iff.rfl
def Jj(P:Program)(g:FuncId)(o:Nat->ab)(nx:Nat)(K X:V->(Nat->ab)->Nat->Prop)(ds:Fix (List D) (o,nx,K,X))(all:Fix (List V) (o,nx,K,X)):Prop:=
 tR P g ds o (put o (cc o (V.bc all))) (put o (qy o (V.bc all))) (fun v o'=>K v o' (nx+1)) (fun v o'=>X v o' (nx+1))
def A8(P:Program)(g:FuncId)(K X:V->(Nat->ab)->Nat->Prop)(s:S)(all:List V)(ds:Fix (Option (List D)) (K,X,s,all)):Prop:=
 match ds with
 |some ds=>Jj P g s.o s.nx K X ds all
 |none=>False
@[go_sem] theorem Sv {P:Program} {s:S} {ds:List D} {g:FuncId} {all:List V} {K X}:A8 P g K X s all (some ds)=Jj P g s.o s.nx K X ds all:=propext Iff.rfl
def Jk(P:Program)(K X:V->(Nat->ab)->Nat->Prop)(s:S)(args:Fix (List V) (K,X,s))(r:Fix (Option (FuncId×V)) (K,X,s)):Prop:=
 match r with
 |some (g,y)=>A8 P g K X s (y::args) (bU s.o (y::args))
 |none=>False
@[go_sem] theorem VC {P:Program} {s:S} {g:FuncId} {y:V} {args:List V} {K X}:Jk P K X s args (some (g,y))=A8 P g K X s (y::args) (bU s.o (y::args)):=propext Iff.rfl
def Gy(K:V->Prop)(v:Fix V K):Prop:=
 match v with
 | .d (.iface t y)=>K (.d (.iface t y))
 | .iface t y=>K (.iface t y)
 |_=>False
@[go_sem] theorem aco {t:TypeId} {y:D} {K}:Gy K (.d (.iface t y))=K (.d (.iface t y)):=propext Iff.rfl
@[go_sem] theorem acp {t:TypeId} {y:V} {K}:Gy K (.iface t y)=K (.iface t y):=propext Iff.rfl
def Ey(K:V->List (Nat×ab)->Prop)(id:Nat)(l:Fix (List (D×D)) (K,id)):Prop:=D9 id l fun v Δ _=>K v Δ
def Jl(K:V->List (Nat×ab)->Prop)(str:Bool)(VD:Fix (Option fy) (K,str))(left:Fix (Option (Nat×List (D×D))) (K,str)):Prop:=
 match left with
 |some (id,l)=>str=false/\Ey K id l
 |none=>j9 K VD
@[go_sem] theorem VE {K} {VD:Option fy} {id:Nat} {l:List (D×D)}:Jl K false VD (some (id,l))=Ey K id l:=propext ⟨fun h=>h.2,fun h=>⟨rfl,h⟩⟩
@[go_sem] theorem VF {K} {str:Bool} {VD:Option fy}:Jl K str VD none=j9 K VD:=propext Iff.rfl
def A9(P:Program)(X:V->S->Prop)(K:S->Prop)(o:bH)(s:Fix S (X,K,o)):Prop:=
 match o.op with
 | .next x str=>Jl (fun v Δ=>K ⟨aU s.env o.dst v,put s.o Δ,s.nx+1⟩) str (nU s.o (s.ev x) str) (nV s.o (s.ev x))
 | .call c=>match c.callee with
   | .value f=>rP P (fun v o' nx'=>K ⟨aU s.env o.dst v,o',nx'⟩) (fun v o' nx'=>X v ⟨s.env,o',nx'⟩) s (s.ev f) (c.args.toList.map s.ev)
   | .invoke r m=>Jk P (fun v o' nx'=>K ⟨aU s.env o.dst v,o',nx'⟩) (fun v o' nx'=>X v ⟨s.env,o',nx'⟩) s (c.args.toList.map s.ev) (tJ P m (s.ev r))
   |_=>j9 (fun v Δ=>K ⟨aU s.env o.dst v,put s.o Δ,s.nx+1⟩) (fS P s s.nx o.op)
 | .panic x=>Gy (fun v=>X v s) (s.ev x)
 |op=>j9 (fun v Δ=>K ⟨aU s.env o.dst v,put s.o Δ,s.nx+1⟩) (fS P s s.nx op)
@[reducible] def eh:Op->Option (Operand×List Operand)
  | .call c=>match c.callee with
    | .value f=>some (f,c.args.toList)
    |_=>none
  |_=>none
def ir(A B:Prop)(t:Fix Bool (A,B)):Prop:=pM t A B
@[go_sem] theorem Sw (A B:Prop):ir A B true=A:=tS A B
@[go_sem] theorem Pt (A B:Prop):ir A B false=B:=rK A B
def Dc(P:Program)(X:V->S->Prop)(K:S->Prop)(o:bH)(s:S)(f:Operand)(args:List Operand)(c:Fix Bool (X,K,o,s,f,args)):Prop:=
 Ex P (s.ev f) (args.map s.ev) s.o (fun v=>K ⟨aU s.env o.dst v,s.o,s.nx+1⟩) c\/ir (A9 P X K o s) (K ⟨aU s.env o.dst (.bT []),s.o,s.nx+1⟩) c
def yu(P:Program)(X:V->S->Prop)(K:S->Prop)(o:bH)(s:S)(c:Fix (Option Bool) (X,K,o,s)):Prop:=
 match c with
 |none=>False
 |some c=>match eh o.op with
  |some (f,args)=>Dc P X K o s f args c
  |none=>if kC o.op=true then j9 (fun v _=>K ⟨aU s.env o.dst v,s.o,s.nx+1⟩) (kA c (fS P s s.nx o.op))
   else ir (A9 P X K o s) (K ⟨aU s.env o.dst (.bT []),s.o,s.nx+1⟩) c
def pN(P:Program)(X:V->S->Prop)(K:S->Prop)(l:List bH)(s:Fix S (X,K,l)):Prop:=
 match l with
 |[]=>K s
 |o::l=>match o.gd with
  |none=>A9 P X (pN P X K l) o s
  |some (d,want)=>yu P X (pN P X K l) o s (lU (s.env d) want)
def jx(want:Bool)(A B:Prop)(v:Fix V (A,B)):Prop:=
 match v with
 | .d (.bool b)=>pM (b==want) A B
 | .bT []=>B
 |_=>False
@[go_sem] theorem Pu (b:Bool) (A B:Prop):jx true A B (.d (.bool b))=ir A B b:=by simp[jx,ir]
@[go_sem] theorem My (b:Bool) (A B:Prop):jx false A B (.d (.bool b))=ir A B (!b):=by simp[jx,ir]
@[go_sem] theorem VG (want:Bool) (A B:Prop):jx want A B (.bT [])=B:=propext Iff.rfl
@[go_sem] theorem Sx (c b want:Bool) (A B:Prop):jx want A B (V.yr c (.d (.bool b)))=ir A B (c&&(b==want)):=by cases c<;>simp[jx,V.yr,ir]
abbrev KD:=V->List (Nat×ab)->List Nat->Prop
abbrev XD:=V->List Nat->List Nat->Prop
def Jm(P:Program)(g:FuncId)(K:KD)(X:XD)(o:Nat->ab)(rd:List Nat)(ds:Fix (List D) (K,X,o,rd))(all:Fix (List V) (K,X,o,rd)):Prop:=
 rO P g ds (fun v=>K v (cc o (V.bc all)) rd) (fun v=>K v [] rd) (fun v=>X v [] rd)
def qP(P:Program)(g:FuncId)(K:KD)(X:XD)(o:Nat->ab)(nx fr:Nat)(all:Fix (List V) (K,X,o,nx)):Prop:=iM P g all o nx fr K X
def qQ(P:Program)(g:FuncId)(K:KD)(X:XD)(o:Nat->ab)(nx fr:Nat)(rd:List Nat)(ds:Fix (List D) (K,X,o,nx,rd))(all:Fix (List V) (K,X,o,nx,rd)):Prop:=Jm P g K X o rd ds all\/qP P g K X o nx fr all
def qR(P:Program)(K:KD)(X:XD)(o:Nat->ab)(nx fr:Nat)(rd:List Nat)(g:FuncId)(all:List V)(ds:Fix (Option (List D)) (K,X,o,nx,rd,all)):Prop:=
 match ds with
 |some ds=>qQ P g K X o nx fr rd ds all
 |none=>qP P g K X o nx fr all
@[go_sem] theorem Pv {P:Program} {o:Nat->ab} {nx fr:Nat} {rd:List Nat} {ds:List D} {g:FuncId} {all:List V} {K X}:qR P K X o nx fr rd g all (some ds)=qQ P g K X o nx fr rd ds all:=propext Iff.rfl
@[go_sem] theorem Pw {P:Program} {o:Nat->ab} {nx fr:Nat} {rd:List Nat} {g:FuncId} {all:List V} {K X}:qR P K X o nx fr rd g all none=qP P g K X o nx fr all:=propext Iff.rfl
def Ba(P:Program)(K:KD)(X:XD)(o:Nat->ab)(nx fr:Nat)(rd:Fix (List Nat) (K,X,o,nx))(f:Fix V (K,X,o,nx))(args:Fix (List V) (K,X,o,nx)):Prop:=
 match f with
 | .func (.func g) first cap=>qR P K X o nx fr rd g (first++args++cap) (bU o (first++args++cap))
 |_=>False
@[go_sem] theorem Sy {P:Program} {o:Nat->ab} {nx fr:Nat} {rd:List Nat} {g:FuncId} {first cap args:List V} {K X}:Ba P K X o nx fr rd (.func (.func g) first cap) args=qR P K X o nx fr rd g (first++args++cap) (bU o (first++args++cap)):=propext Iff.rfl
def uc(K:KD)(rd:List Nat)(x:Fix (Option fy) (K,rd)):Prop:=match x with|some (v,Δ,_)=>K v Δ rd|none=>False
@[go_sem] theorem Sz {v:V} {Δ:List (Nat×ab)} {r rd:List Nat} {K}:uc K rd (some (v,Δ,r))=K v Δ rd:=propext Iff.rfl
@[go_sem] theorem VH {v:V} {r rd:List Nat} {K}:uc K rd (Vy v r)=K v [] rd:=propext Iff.rfl
def LB(P:Program)(K:KD)(X:XD)(fr:Nat)(o:bH)(s:Fix S (K,X,o)):Prop:=
 match eh o.op with
 |some (f,args)=>Ba P K X s.o s.nx fr (nP s o.op) (s.ev f) (args.map s.ev)
 |none=>uc K (nP s o.op) (fS P s fr o.op)
def Gz(P:Program)(KB:List Nat->Fp->Prop)(pr:List (List Nat))(l:List bH)(fr:Nat)(fp:Fix Fp (KB,l))(bad ws:Fix (List Nat) (KB,l))(s:Fix S (KB,l)):Prop:=gP P KB pr l fr s fp bad ws
def nK(P:Program)(K:S->Fp->Prop)(KP:V->List Nat->Fp->Prop)(pr:List (List Nat))(l:List bH)(fr:Nat)(s:Fix S (K,KP,l))(fp:Fix Fp (K,KP,l)):Prop:=
 match l with
 |[]=>K s fp
 |o::l=>match o.gd with
  |none=>LB P (fun v Δ rd=>nK P K KP pr l (fr+1) ⟨aU s.env o.dst v,put s.o Δ,s.nx⟩ (fp++[(rd,Δ.map (·.1))]))
   (fun v ws rd=>Gz P (KP v) pr l (fr+1) (fp++[(rd,[])]) [fp.length] (ws++fp.flatMap (·.2)) ⟨aU s.env o.dst .aa,s.o,s.nx⟩) fr o s
  |some (d,want)=>jx want (LB P (fun v Δ rd=>nK P K KP pr l (fr+1) ⟨aU s.env o.dst v,put s.o Δ,s.nx⟩ (fp++[(rd,Δ.map (·.1))]))
   (fun v ws rd=>Gz P (KP v) pr l (fr+1) (fp++[(rd,[])]) [fp.length] (ws++fp.flatMap (·.2)) ⟨aU s.env o.dst .aa,s.o,s.nx⟩) fr o s)
   (nK P K KP pr l (fr+1) ⟨aU s.env o.dst (.bT []),s.o,s.nx⟩ (fp++[([],[])])) (s.env d)
def Mz(pr:List (List Nat))(nx:Nat)(Q:fL->S->Prop)(s:Fix S Q)(fp:Fix Fp Q):Prop:=Da pr nx Q s fp
def qS(l:List bH)(k:Fix Nat l):Option Nat:=match l with
 |[]=>none
 |o::l=>match o.gd,eh o.op with
  |none,some (.tmp _,_)=>some k
  |_,_=>qS l (k+1)
def Ez(P:Program)(pr:List (List Nat))(l:List bH)(nx:Nat)(Q:fL->S->Prop)(s:Fix S (P,pr,l,nx,Q))(fp:Fix Fp (P,pr,l,nx,Q)):Prop:=dY pr fp=true/\pN P (fun v s=>Q (.bB v) s) (Q .normal) l ⟨s.env,s.o,nx⟩
def Jn(P:Program)(l:List bH)(pr:List (List Nat))(Q:fL->S->Prop)(s:S)(sp:Fix (Option Nat) (P,l,pr,Q,s)):Prop:=match sp with
 |none=>nK P (Mz pr (s.nx+l.length) Q) (A3 pr l s Q) pr l s.nx s []
 |some m=>m<=l.length/\yp pr m=true/\nK P (Ez P pr (l.drop m) (s.nx+m) Q) (fun _ _ _=>False) pr (l.take m) s.nx s []
def wP(A B:Prop)(v:Fix V (A,B)):Prop:=
 match v with
 | .d (.bool t)=>ir A B t
 | .eW=>A/\B
 |_=>False
@[go_sem] theorem VI (A B:Prop):wP A B .eW=(A/\B):=propext Iff.rfl
@[go_sem] theorem SA (t:Bool) (A B:Prop):wP A B (.d (.bool t))=ir A B t:=propext Iff.rfl
def EA{ι:Type}(b:Nat)(st:ι->S)(bz:ι->Prop)(oE:ι->Nat)(i:ι)(s:S):Prop:=∃j,bz j/\oE j<oE i/\br b s (st j)
def ud(next:S->Prop)(Q:fL->S->Prop)(e:fL)(s:S):Prop:=match e with| .normal=>next s|e=>Q e s
section
variable {N:S->Prop}{Q:fL->S->Prop}{s:S}
@[go_sem ↓] theorem MA:ud N Q .normal s=N s:=propext Iff.rfl
@[go_sem ↓] theorem SB {id:Nat}:ud N Q (.exit id) s=Q (.exit id) s:=propext Iff.rfl
@[go_sem ↓] theorem VJ:ud N Q .ret s=Q .ret s:=propext Iff.rfl
@[go_sem ↓] theorem VK {v:V}:ud N Q (.bB v) s=Q (.bB v) s:=propext Iff.rfl
end
def Bb(b:Nat)(body:(fL->S->Prop)->S->Prop)(Q:fL->S->Prop)(s:Fix S (body,Q)):Prop:=
 ∃ (ι:Type) (st:ι->S) (bz:ι->Prop) (oE:ι->Nat) (i0:ι),bz i0/\br b s (st i0)/\∀i,bz i->body (ud (EA b st bz oE i) Q) (st i)
theorem aB{ι:Type}{b:Nat}{body:(fL->S->Prop)->S->Prop}{Q:fL->S->Prop}{s:S}(st:ι->S)(bz:ι->Prop)(oE:ι->Nat)(i0:ι)(h0:bz i0)(hle:br b s (st i0))
 (h:∀i,bz i->body (ud (EA b st bz oE i) Q) (st i)):Bb b body Q s:=⟨ι,st,bz,oE,i0,h0,hle,h⟩
def yw(P:Program)(n b:Nat)(rd:Bool)(gop:Operand)(ps:List Nat)(x y:IC)(Q:fL->S->Prop)(s:Fix S (x,y,Q))(g:Fix V (x,y,Q)):Prop:=rd=false/\(AL P n g ps x y Q s\/∃s',br b s s'/\AL P n (s'.ev gop) ps x y Q s')
def lJ(P:Program)(n b:Nat)(rd:Bool)(c:IC)(Q:fL->S->Prop)(s:Fix S (c,Q)):Prop:=
 match c with
 | .skip=>Q .normal s
 | .ad l=>pN P (fun v s=>Q (.bB v) s) (Q .normal) l s
 | .db l pr=>Jn P l pr Q s (qS l 0)
 | .seq x y=>lJ P n b rd x (pA (fun s=>lJ P n b rd y Q s) Q) s
 | .cond c x y=>wP (lJ P n b rd x Q s) (lJ P n b rd y Q s) (s.ev c)
 | .block id x=>lJ P n b rd x (eX id Q) s
 | .loop x=>Bb b (fun Q s=>lJ P n b rd x Q s) Q s
 | .exit id=>Q (.exit id) s
 | .ret=>Q .ret s
 | .FT g ps x y=>yw P n b rd g ps x y Q s (s.ev g)
 | .bad=>False
section
variable {P:Program}{n b:Nat}{rd:Bool}
theorem Bc{s:S}{f:V}{args:List V}{K K':V->(Nat->ab)->Nat->Prop}{X X':V->(Nat->ab)->Nat->Prop}(hK:∀v o n,K v o n->K' v o n)(hX:∀v o n,X v o n->X' v o n)(h:rP P K X s f args):
 match(generalizing:=false) f with
  | .func (.func g) first cap=>match bU s.o (first++args++cap)with
    |some ds=>tR P g ds s.o (put s.o (cc s.o (V.bc (first++args++cap)))) (put s.o (qy s.o (V.bc (first++args++cap)))) (fun v o'=>K' v o' (s.nx+1)) (fun v o'=>X' v o' (s.nx+1))\/rJ P g (first++args++cap) s.o s.nx K' X'
    |none=>rJ P g (first++args++cap) s.o s.nx K' X'
  | .iW id=>dt P id args s.o s.nx K' X'
  |_=>False:=by
 unfold rP mL wO at h
 split at h
 ·rename_i g first cap
  cases eL:bU s.o (first++args++cap)with
  |some ds=>
   simp only[eL]at h|-
   rcases h with⟨out,h1,h2|⟨h3,h2⟩|⟨h3,h2⟩⟩|h
   ·exact .inl ⟨out,h1, .inl (by cases out<;>first|exact hK _ _ _ h2|exact hX _ _ _ h2)⟩
   ·exact .inl ⟨out,h1, .inr (.inl ⟨h3,by cases out<;>first|exact hK _ _ _ h2|exact hX _ _ _ h2⟩)⟩
   ·exact .inl ⟨out,h1, .inr (.inr ⟨h3,by cases out<;>first|exact hK _ _ _ h2|exact hX _ _ _ h2⟩)⟩
   ·exact .inr (nQ.mono hK hX h)
  |none=>
   simp only[eL]at h|-
   exact nQ.mono hK hX h
 ·exact dt.mono hK hX h
 ·exact h.elim
theorem wQ{x:Option fy}{K:V->List (Nat×ab)->Prop}(h:j9 K x):∃v Δ rd,x=some (v,Δ,rd)/\K v Δ:=by
 unfold j9 at h;split at h
 ·exact⟨_,_,_,rfl,h⟩
 ·exact h.elim
theorem yx{s:S}{o:bH}{X X':V->S->Prop}{K K':S->Prop}(hK:∀s,K s->K' s)(hX:∀v s,X v s->X' v s)(h:A9 P X K o s):HC P s o X' K':=by
 unfold A9 at h
 unfold HC
 have hs:∀ {op:Op},(j9 (fun v Δ=>K ⟨aU s.env o.dst v,put s.o Δ,s.nx+1⟩) (fS P s s.nx op))->(match fS P s s.nx op with|some (v,Δ,_)=>K' ⟨aU s.env o.dst v,put s.o Δ,s.nx+1⟩|none=>False):=by
  intro op h
  obtain⟨v,Δ,rd,he,h⟩:=wQ h
  simp only[he];exact hK _ h
 split at h
 ·rename_i x str hx
  rw[hx]
  unfold Jl at h
  simp only
  split at h
  ·rename_i id l hl
   simp only[hl]
   exact⟨h.1,fun e=>hK _ (h.2.1 e),fun i k x e=>hK _ (h.2.2 i k x e)⟩
  ·rename_i hl
   simp only[hl]
   exact hs (op:= .next x str) h
 ·rename_i c hc
  simp only[hc]
  split at h
  ·rename_i f hf
   simp only[hf]
   exact Bc (K:=fun v o' nx'=>K ⟨aU s.env o.dst v,o',nx'⟩) (X:=fun v o' nx'=>X v ⟨s.env,o',nx'⟩) (fun v o n h=>hK _ h) (fun v o n h=>hX _ _ h) h
  ·rename_i r m hf
   simp only[hf]
   unfold Jk at h
   split at h
   ·rename_i g y hr
    simp only[hr]
    unfold A8 at h
    split at h
    ·rename_i ds eL
     obtain⟨out,h1,h2⟩:=h
     refine .inl ⟨ds,eL,out,h1, ?_⟩
     rcases h2 with h2|⟨h3,h2⟩|⟨h3,h2⟩
     ·exact .inl (by cases out<;>first|exact hK _ h2|exact hX _ _ h2)
     ·exact .inr (.inl ⟨h3,by cases out<;>first|exact hK _ h2|exact hX _ _ h2⟩)
     ·exact .inr (.inr ⟨h3,by cases out<;>first|exact hK _ h2|exact hX _ _ h2⟩)
    ·exact h.elim
   ·exact h.elim
  ·rename_i hf hi
   rw[hc]at h
   obtain⟨IW,args,ts⟩:=c
   cases IW with
   |value f=>exact absurd rfl (hf f)
   |invoke r m=>exact absurd rfl (hi r m)
   |_=>exact hs h
 ·rename_i x hx
  simp only[hx]
  unfold Gy at h
  split at h
  ·rename_i hv;simp only[hv];exact hX _ _ h
  ·rename_i hv;simp only[hv];exact hX _ _ h
  ·exact h.elim
 ·rename_i tL hc hp
  have h2:=hs h
  cases hh:o.op<;>first
   |exact absurd hh (hc _)
   |exact absurd hh (hp _)
   |exact absurd hh (tL _ _)
   |(rw[hh]at h2;exact h2)
theorem Jo{s:S}{o:bH}{X:V->S->Prop}{K:S->Prop}(hp:kC o.op=true){v:V}{Δ:List (Nat×ab)}{rd:List Nat}(he:fS P s s.nx o.op=some (v,Δ,rd))(h:K ⟨aU s.env o.dst v,put s.o Δ,s.nx+1⟩):HC P s o X K:=by
 unfold HC
 split
 ·rename_i c hc
  split
  ·rename_i f hf;rw[hc]at hp;simp[kC,hf]at hp
  ·rename_i r m hf;rw[hc]at hp;simp[kC,hf]at hp
  ·rw[he];exact h
 ·rename_i x hx;rw[hx]at hp;simp[kC]at hp
 ·rename_i x str hx;rw[hx]at hp;simp[kC]at hp
 ·rw[he];exact h
theorem qT{X X':V->S->Prop}{K K':S->Prop}(hK:∀s,K s->K' s)(hX:∀v s,X v s->X' v s):∀ (l:List bH) (s:S),pN P X K l s->oC P X' K' l s
 |[],s,h=>hK _ h
 |o::l,s,h=>by
  have ih:=qT hK hX l
  unfold pN at h
  unfold oC
  cases hg:o.gd with
  |none=>
   simp only[hg]at h|-
   exact yx ih hX h
  |some p=>
   obtain⟨d,want⟩:=p
   simp only[hg]at h|-
   unfold yu at h
   split at h
   ·exact h.elim
   ·rename_i c hc
    have hgo:∀ {A B:Prop},(c=true->A)->(c=false->B)->(match s.env d with
     | .d (.bool b)=>if b=want then A else B
     | .bT []=>B
     |_=>False):=by
     intro A B hA hB
     generalize s.env d=v at hc
     unfold lU at hc
     split at hc
     ·rename_i b
      injection hc with hc
      split
      ·rename_i e;exact hA (by rw[<- hc];simp[e])
      ·rename_i e;exact hB (by rw[<- hc];simp[e])
     ·injection hc with hc
      exact hB hc.symm
     ·cases hc
    split at h
    ·rename_i f args HD
     rcases h with h|h
     case inr=>exact hgo (fun Px=>yx ih hX (h.1 Px)) (fun SC=>ih _ (h.2 SC))
     obtain⟨rs,h1,h2⟩:=h
     refine hgo (fun Px=> ?_) (fun SC=> ?_)
     ·unfold eh at HD
      split at HD
      ·rename_i c' wz
       split at HD
       ·rename_i f' nX
        injection HD with HD;injection HD with e1 e2;subst e1;subst e2
        have oS:=h1 Px
        unfold HC
        simp only[wz,nX]
        unfold A6 at oS
        split at oS
        ·rename_i g first cap vm
         simp only[vm]
         split at oS
         ·rename_i ds eL
          simp only[eL]
          refine .inl ⟨.ret rs,oS.1, .inr (.inl ⟨oS.2, ?_⟩)⟩
          refine ih _ ?_
          rw[Px]at h2
          exact h2
         ·exact oS.elim
        ·exact oS.elim
       ·cases HD
      ·cases HD
     ·refine ih _ ?_
      rw[SC]at h2
      exact h2
    ·split at h
     ·rename_i hp
      obtain⟨v,Δ,rd,he,h⟩:=wQ h
      refine hgo (fun Px=> ?_) (fun SC=> ?_)
      ·rw[Px]at he
       simp only[kA,if_true]at he
       split at he
       ·rename_i v' sJ oQ
        injection he with he;injection he with e1 e2;subst e1
        exact Jo hp oQ (ih _ h)
       ·cases he
      ·rw[SC]at he
       simp only[kA]at he
       injection he with he;injection he with e1 e2;subst e1
       exact ih _ h
     ·exact hgo (fun Px=>yx ih hX (h.1 Px)) (fun SC=>ih _ (h.2 SC))
theorem yy{op:Op}{f:Operand}{args:List Operand}(h:eh op=some (f,args)):∃c,op= .call c/\c.callee= .value f/\c.args.toList=args:=by
 unfold eh at h
 split at h
 ·rename_i c
  split at h
  ·rename_i f' nX
   injection h with h;injection h with e1 e2;subst e1;subst e2
   exact⟨c,rfl,nX,rfl⟩
  ·cases h
 ·cases h
theorem GA{x:Option fy}{rd:List Nat}{K:KD}(h:uc K rd x):∃v Δ r,x=some (v,Δ,r)/\K v Δ rd:=by
 unfold uc at h;split at h
 ·exact⟨_,_,_,rfl,h⟩
 ·exact h.elim
theorem iM.mono {P:Program}{g:FuncId}{args:List V}{o:Nat->ab}{nx fr:Nat}{K K':KD}{X X':XD}(hK:∀v Δ r,K v Δ r->K' v Δ r)(hX:∀v w r,X v w r->X' v w r)(h:iM P g args o nx fr K X):iM P g args o nx fr K' X':=by
 obtain⟨rd,Δ,h1,⟨rs,h2,h3⟩|⟨x,h2,h3⟩|⟨v,h2,h3⟩⟩:=h
 ·exact⟨rd,Δ,h1, .inl ⟨rs,h2,hK _ _ _ h3⟩⟩
 ·exact⟨rd,Δ,h1, .inr (.inl ⟨x,h2,hX _ _ _ h3⟩)⟩
 ·exact⟨rd,Δ,h1, .inr (.inr ⟨v,h2,hK _ _ _ h3⟩)⟩
theorem rO.mono {P:Program}{g:FuncId}{ds:List D}{Kf Kb KX Kf' Kb' KX':V->Prop}(h1:∀v,Kf v->Kf' v)(h2:∀v,Kb v->Kb' v)(h3:∀v,KX v->KX' v)(h:rO P g ds Kf Kb KX):rO P g ds Kf' Kb' KX':=by
 rcases h with⟨rs,a,b|⟨b,c⟩⟩|⟨x,a,b,c⟩|⟨v,a,b⟩
 ·exact .inl ⟨rs,a, .inl (h1 _ b)⟩
 ·exact .inl ⟨rs,a, .inr ⟨b,h2 _ c⟩⟩
 ·exact .inr (.inl ⟨x,a,b,h3 _ c⟩)
 ·exact .inr (.inr ⟨v,a,h1 _ b⟩)
theorem EB{s:S}{fr:Nat}{o:bH}{K K':KD}{X X':XD}(hK:∀v Δ r,K v Δ r->K' v Δ r)(hX:∀v w r,X v w r->X' v w r)(h:LB P K X fr o s):zO P s fr o K' X':=by
 unfold LB at h
 split at h
 ·rename_i f args HD
  obtain⟨c,h1,h2,h3⟩:=yy HD
  subst h3
  unfold zO
  simp only[h1,h2]
  unfold Ba qR at h
  split at h
  ·rename_i g first cap hf
   simp only[hf]
   split at h
   ·rename_i ds eL
    simp only[eL]
    refine h.elim (fun h=> .inl ?_) (fun h=> .inr (iM.mono hK hX h))
    refine rO.mono (fun v h=> ?_) (fun v h=> ?_) (fun v h=> ?_) h<;>(rw[h1]at h)
    ·exact hK _ _ _ h
    ·exact hK _ _ _ h
    ·exact hX _ _ _ h
   ·rename_i eL
    simp only[eL]
    exact iM.mono hK hX h
  ·exact h.elim
 ·rename_i HD
  obtain⟨v,Δ,rd,he,h⟩:=GA h
  unfold zO
  split
  ·rename_i c hc
   split
   ·rename_i f hf
    exact absurd HD (by simp[eh,hc,hf])
   ·simp only[he];exact hK _ _ _ h
  ·simp only[he];exact hK _ _ _ h
theorem Bd{s:S}{fr:Nat}{o:bH}{K K':KD}{X X':XD}(hK:∀v Δ r,K v Δ r->K' v Δ r)(hX:∀v w r,X v w r->X' v w r)(h:zO P s fr o K X):zO P s fr o K' X':=by
 unfold zO at h|-
 split at h
 ·rename_i c hc
  rw[hc]at h|-
  split at h
  ·rename_i f hf
   (try simp only[hf])
   split at h
   ·rename_i vm
    (try simp only[vm])
    split at h
    ·exact h.elim (fun h=> .inl (rO.mono (fun v h=>hK _ _ _ h) (fun v h=>hK _ _ _ h) (fun v h=>hX _ _ _ h) h)) (fun h=> .inr (iM.mono hK hX h))
    ·exact iM.mono hK hX h
   ·exact h.elim
  ·rename_i hf
   split at h
   ·rename_i he
    (try simp only[he])
    exact hK _ _ _ h
   ·exact h.elim
 ·split at h
  ·rename_i he
   (try simp only[he]);exact hK _ _ _ h
  ·exact h.elim
theorem jf{KB KB':List Nat->Fp->Prop}{pr:List (List Nat)}(hK:∀l fp,KB l fp->KB' l fp):∀ (l:List bH) (fr:Nat) (s:S) (fp:Fp) (bad ws:List Nat),gP P KB pr l fr s fp bad ws->gP P KB' pr l fr s fp bad ws
 |[],_,_,_,_,_,h=>hK _ _ h
 |o::l,fr,s,fp,bad,ws,h=>by
  unfold gP at h|-
  split
  ·rename_i hb
   rw[if_pos hb]at h
   exact jf hK l _ _ _ _ _ h
  ·rename_i hb
   rw[if_neg hb]at h
   split at h
   ·exact Bd (fun v Δ r h=>jf hK l _ _ _ _ _ h) (fun _ _ _ h=>h) h
   ·split at h
    ·split at h
     ·rename_i e;simp only[e,if_true]
      exact Bd (fun v Δ r h=>jf hK l _ _ _ _ _ h) (fun _ _ _ h=>h) h
     ·rename_i e;simp only[e,if_false]
      exact jf hK l _ _ _ _ _ h
    ·exact jf hK l _ _ _ _ _ h
    ·exact h.elim
theorem jg{K K':S->Fp->Prop}{KP KP':V->List Nat->Fp->Prop}{pr:List (List Nat)}(hK:∀s fp,K s fp->K' s fp)(hP:∀v l fp,KP v l fp->KP' v l fp):∀ (l:List bH) (fr:Nat) (s:S) (fp:Fp),nK P K KP pr l fr s fp->kz P K' KP' pr l fr s fp
 |[],_,_,_,h=>hK _ _ h
 |o::l,fr,s,fp,h=>by
  have hB:∀v ws (rdl:List Nat),Gz P (KP v) pr l (fr+1) (fp++[(rdl,[])]) [fp.length] (ws++fp.flatMap (·.2)) ⟨aU s.env o.dst .aa,s.o,s.nx⟩->
   gP P (KP' v) pr l (fr+1) ⟨aU s.env o.dst .aa,s.o,s.nx⟩ (fp++[(rdl,[])]) [fp.length] (ws++fp.flatMap (·.2)):=fun v ws rdl h=>jf (fun a b h=>hP v a b h) l _ _ _ _ _ h
  unfold nK at h
  unfold kz
  split at h
  ·rename_i hg
   (try simp only[hg])
   exact EB (fun v Δ r h=>jg hK hP l _ _ _ h) hB h
  ·rename_i d want hg
   (try simp only[hg])
   generalize s.env d=v at h
   unfold jx at h
   split at h
   ·rename_i bb
    by_cases e:bb=want
    ·subst e
     simp only[if_true]
     exact EB (fun v Δ r h=>jg hK hP l _ _ _ h) hB (h.1 aJ)
    ·simp only[if_neg e]
     exact jg hK hP l _ _ _ (h.2 (by simpa using e))
   ·exact jg hK hP l _ _ _ h
   ·exact h.elim
theorem fq:∀ (c:IC) (Q Q':fL->S->Prop) (s:S),(∀e s,Q e s->Q' e s)->lJ P n b rd c Q s->sQ P n b rd c Q' s
 | .skip,_,_,_,hQ,h=>hQ _ _ h
 | .ad l,_,_,_,hQ,h=>qT (fun s h=>hQ _ _ h) (fun v s h=>hQ _ _ h) l _ h
 | .db l pr,_,_,_,hQ,h=>by
   unfold lJ at h
   generalize qS l 0=sp at h
   cases sp with
   |none=>exact .inl (jg (fun s fp h=>⟨h.1,hQ _ _ h.2⟩) (fun v l fp h=>⟨h.1,hQ _ _ h.2⟩) l _ _ _ h)
   |some m=>exact .inr ⟨m,h.1,h.2.1,jg (fun s fp h=>⟨h.1,qT (fun s h=>hQ _ _ h) (fun v s h=>hQ _ _ h) _ _ h.2⟩) (fun v l fp h=>h.elim) _ _ _ _ h.2.2⟩
 | .seq x y,Q,Q',s,hQ,h=>fq x _ _ s (fun e s h=>by
  unfold pA at h|-
  cases e with
  |normal=>exact fq y _ _ s hQ h
  |_=>exact hQ _ _ h) h
 | .cond c x y,Q,Q',s,hQ,h=>by
   unfold lJ wP ir at h
   unfold sQ
   split at h
   ·rename_i t ht
    simp only[ht]
    exact⟨fun e=>fq x _ _ s hQ (h.1 e),fun e=>fq y _ _ s hQ (h.2 e)⟩
   ·rename_i ht
    simp only[ht]
    exact⟨fq x _ _ s hQ h.1,fq y _ _ s hQ h.2⟩
   ·exact h.elim
 | .block id x,Q,Q',s,hQ,h=>fq x _ _ s (fun e s h=>by
  unfold eX at h|-
  cases e with
  |exit j=>
   simp only at h|-
   split
   ·rename_i e;rw[if_pos e]at h;exact hQ _ _ h
   ·rename_i e;rw[if_neg e]at h;exact hQ _ _ h
  |_=>exact hQ _ _ h) h
 | .loop x,Q,Q',s,hQ,h=>by
   obtain⟨ι,st,bz,oE,i0,h0,hle,h2⟩:=h
   refine⟨fun m s=>∃i,bz i/\oE i=m/\s=st i,⟨oE i0,st i0,hle,i0,h0,rfl,rfl⟩, ?_⟩
   rintro m s0 ⟨i,hg,rfl,rfl⟩
   refine fq x _ _ _ (fun e s h=> ?_) (h2 i hg)
   cases e with
   |normal=>
    obtain⟨j,k1,k2,k3⟩:=h
    exact⟨oE j,st j,k2,k3,j,k1,rfl,rfl⟩
   |_=>exact hQ _ _ h
 | .exit id,_,_,_,hQ,h=>hQ _ _ h
 | .ret,_,_,_,hQ,h=>hQ _ _ h
 | .FT g ps x y,_,_,_,hQ,h=>⟨h.1,match h.2 with
   | .inl h=>⟨_, .inl rfl,qO hQ h⟩
   | .inr ⟨s',hle,h⟩=>⟨s', .inr hle,qO hQ h⟩⟩
 | .bad,_,_,_,_,h=>h.elim
end
theorem aV.aF {P:Program}(ba:P.follows .mixedOrders=true){f:FuncId}{n:Nat}{ic:IC}{rs:List ResultVar}{ds:List D}{out:R}(hf:aI P f n ic rs)(hl:ds.length<=n)
 (h:lJ P n 0 false ic (AE P rs out) ⟨cA (ds.map .d),fun _=> .no,0⟩):aV P f ds out:=
 aV.ua ba hf hl (fq ic _ _ _ (fun _ _ h=>h) h)
def Jp(P:Program)(rs:List ResultVar)(K X:V->(Nat->ab)->Nat->Prop)(e:fL)(s:S):Prop:=lF P rs K X e s
theorem cX.aF {P:Program}(ba:P.follows .mixedOrders=true){f:FuncId}{n:Nat}{ic:IC}{rs:List ResultVar}{args:List V}{o:Nat->ab}{nx:Nat}{K X:V->(Nat->ab)->Nat->Prop}(hf:aI P f n ic rs)(hl:args.length<=n)
 (h:lJ P n nx false ic (Jp P rs K X) ⟨cA args,o,nx⟩):cX P f args o nx K X:=
 cX.ua ba hf hl (fq ic _ _ _ (fun _ _ h=>h) h)
section
variable {P:Program}{g:FuncId}{ds:List D}{o:Nat->ab}{nx:Nat}{K X:V->(Nat->ab)->Nat->Prop}{all:List V}
theorem ay{rs:List D}(h:aV P g ds (.ret rs))(hf:D.jv rs=true)(hk:K (iX rs) o (nx+1)):ub P g o nx K X ds all:= .inl ⟨.ret rs,h, .inr (.inl ⟨hf,hk⟩)⟩
theorem aW{rs:List D}(h:aV P g ds (.ret rs))(hk:K (iX rs) (put o (cc o (V.bc all))) (nx+1)):ub P g o nx K X ds all:= .inl ⟨.ret rs,h, .inl hk⟩
theorem fQ(h:cX P g all o nx K X):ub P g o nx K X ds all:= .inr (.inl h)
theorem dD{e:Nat->V}{ds:Option (List D)}(h:cX P g all o nx K X):mL P g K X ⟨e,o,nx⟩ all ds:=by
 cases ds with
 |some ds=>exact(.inr (.inl h):ub P g o nx K X ds all)
 |none=>exact(.inl h:A7 P g nx K X all o)
theorem bd(h:cX P g all o nx K X):A7 P g nx K X all o:= .inl h
variable {K:KD}{X:XD}{rd:List Nat}{fr:Nat}
theorem bg{rs:List D}(h:aV P g ds (.ret rs))(hf:D.jv rs=true)(hk:K (iX rs) [] rd):qQ P g K X o nx fr rd ds all:= .inl (.inl ⟨rs,h, .inr ⟨hf,hk⟩⟩)
theorem dL{rs:List D}(h:aV P g ds (.ret rs))(hk:K (iX rs) (cc o (V.bc all)) rd):qQ P g K X o nx fr rd ds all:= .inl (.inl ⟨rs,h, .inl hk⟩)
theorem qU{v:V}{sJ:List Nat}{Δ:List (Nat×ab)}(nG:sJ.all (fun id=>decide (id<nx))=true)(h:yi P g all sJ o fr v Δ)(hk:K v Δ sJ):qQ P g K X o nx fr rd ds all:= .inr ⟨sJ,Δ,nG, .inr (.inr ⟨v,h,hk⟩)⟩
end
theorem eE{P:Program}{f:V}{args:List V}{o:Nat->ab}{K:V->Prop}{c:Bool}(rs:List D)(h:lT c (A6 P f args o rs))(hk:K (V.yr c (iX rs))):Ex P f args o K c:=⟨rs,h,hk⟩
theorem ai{t:Bool}{A B:Prop}(h:t=true->A)(h2:t=false->B):ir A B t:=⟨h,h2⟩
theorem aO{pr:List (List Nat)}{nx:Nat}{Q:fL->S->Prop}{s:S}{fp:List (List Nat×List Nat)}(h:dY pr fp=true)(h2:Q .normal ⟨s.env,s.o,nx⟩):Mz pr nx Q s fp:=⟨h,h2⟩
@[go_sem] theorem YB (o:Nat->ab):put o []=o:=rfl
@[go_sem] theorem VL (o:Nat->ab) (x:Nat×ab) (l:List (Nat×ab)):put o (x::l)=put (aD o x.1 x.2) l:=rfl
@[go_sem] theorem af {α:Type} (f:Nat->α) (i:Nat) (x:α):aD f i x i=x:=aJ
@[go_sem] theorem ah {α:Type} (f:Nat->α) (i j:Nat) (x:α) (h:j≠i):aD f i x j=f j:=by simp[h]
@[go_sem] theorem MB (v:V) (l:List V):cA (v::l) 0=v:=rfl
@[go_sem] theorem MC (v:V) (l:List V) (i:Nat):cA (v::l) (i+1)=cA l i:=rfl
@[go_sem] theorem Py (i:Nat):cA [] i= .bT []:=by simp[cA]
@[go_sem] theorem VM {P:Program} {o:Nat->ab} {t:TypeId} {id off:Nat}:mE P o t (.ptr id off)=match o id with
 | .row cs=>match ez P t cs off with
   |some v=>some (v,[],[id])
   |none=>none
 |_=>none:=by unfold mE;exact Eq.trans rfl rfl
@[go_sem] theorem YC {P:Program} {o:Nat->ab} {t:TypeId} {cs:List D} {off:Nat}:mE P o t (.pp cs off)=match ez P t (cs.map .d) off with
 |some v=>some (v,[],[])
 |none=>none:=by unfold mE;exact Eq.trans rfl rfl
@[go_sem] theorem YD {P:Program} {o:Nat->ab} {t:TypeId} {id ep i sz off:Nat}:mE P o t (.pe id ep i sz off)=match o id with
 | .arr ig _ qo es=>if ep=ig/\sz=qo then match es[i]? with
  |some e=>match ez P t (e.cells.map .d) off with
   |some v=>some (v,[],[id])
   |none=>none
  |none=>none
   else none
 |_=>none:=by unfold mE;exact Eq.trans rfl rfl
section
variable {P:Program}{o:Nat->ab}{t:TypeId}{op:BinOp}{nH:Bool}
@[go_sem] theorem VN {k:IntKind} {a b:Int}:eV P o op t nH (.d (.int k a)) (.d (.int k b))=match AP op k a b with
 |some v=>one v
 |none=>qC P o op t nH (.d (.int k a)) (.d (.int k b)):=by
  simp only[eV,x8,if_true]
  cases AP op k a b<;>rfl
@[go_sem] theorem VO {a b:Bool} (h:lG P t=true):eV P o .eql t nH (.d (.bool a)) (.d (.bool b))=one (.d (.bool (a==b))):=by simp only[eV,x8,I6,h,if_true]
@[go_sem] theorem VP {a b:Bool} (h:lG P t=true):eV P o .neq t nH (.d (.bool a)) (.d (.bool b))=one (.d (.bool (a !=b))):=by simp only[eV,x8,I6,h,if_true]
@[go_sem] theorem VQ {a b:List UInt8}:eV P o .eql t nH (.d (.str a)) (.d (.str b))=one (.d (.bool (a==b))):=Ic
@[go_sem] theorem VR {a b:List UInt8}:eV P o .neq t nH (.d (.str a)) (.d (.str b))=one (.d (.bool (a !=b))):=Ic
@[go_sem] theorem VS {a b:List D}:eV P o op t nH (.d (.agg a)) (.d (.agg b))=qC P o op t nH (.d (.agg a)) (.d (.agg b)):=Ic
theorem LX{x:V}{y:V}(h:match y with| .d (.int _ _)| .d (.bool _)| .d (.str _)=>False|_=>True):x8 P op t x y=none:=by
 unfold x8
 split<;>first|exact h.elim|rfl
@[go_sem] theorem SD {x:V}:eV P o op t nH x .bu=qC P o op t nH x .bu:=HW
@[go_sem] theorem SE {x:V}:eV P o op t nH x (.d .gA)=qC P o op t nH x (.d .gA):=HW
@[go_sem] theorem SF {x:V}:eV P o op t nH x (.d .lY)=qC P o op t nH x (.d .lY):=HW
@[go_sem] theorem SG {x:V}:eV P o op t nH x (.d .bZ)=qC P o op t nH x (.d .bZ):=HW
@[go_sem] theorem SH {x:V}:eV P o op t nH x (.d .hZ)=qC P o op t nH x (.d .hZ):=HW
@[go_sem] theorem YE {b:Bool}:FQ .not (.d (.bool b))=some (.d (.bool !b)):=Ih
@[go_sem] theorem YF:FQ .not .eW=some .eW:=Ih
@[go_sem] theorem YG {k:IntKind} {n:Int}:FQ .neg (.d (.int k n))=some (.d (.int k (k.wrap (-n)))):=Ih
end
@[go_sem] theorem D.VT (cs:List D):(D.agg cs).cells=cs:=rfl
@[go_sem] theorem D.VU (k:IntKind) (n:Int):(D.int k n).cells=[.int k n]:=rfl
@[go_sem] theorem D.SI (b:Bool):(D.bool b).cells=[.bool b]:=rfl
@[go_sem] theorem D.VV (b:List UInt8):(D.str b).cells=[.str b]:=rfl
@[go_sem] theorem D.YH (b:List D):(D.sl b).cells=[.sl b]:=rfl
@[go_sem] theorem D.YI (a b:List D):(D.mp a b).cells=[.mp a b]:=rfl
@[go_sem] theorem D.Pz (t:TypeId) (x:D):(D.iface t x).cells=[.iface t x]:=rfl
@[go_sem] theorem D.SJ:D.gA.cells=[.gA]:=rfl
@[go_sem] theorem D.SK:D.lY.cells=[.lY]:=rfl
@[go_sem] theorem D.SL:D.bZ.cells=[.bZ]:=rfl
@[go_sem] theorem D.SM:D.hZ.cells=[.hZ]:=rfl
attribute [go_sem] V.ofConst V.cZ AP I6 pH CX wG nZ gM gN qK fN lH pI pK pL x9 jd I7 lD dC bU ez xJ rA o8 V.cells D.put cc V.ids V.bc iX D.jv D.flat R.flat
attribute [go_sem] xI List.take_succ_cons List.take_zero List.take_nil List.drop_zero List.drop_succ_cons List.drop_nil
attribute [go_sem] List.map_cons List.map_nil List.length_cons List.length_nil List.cons_append List.nil_append List.append_nil List.getElem?_cons_zero List.getElem?_cons_succ Option.bind_some Option.bind_none Option.map_some Option.map_none ab.b7 ab.bX
section
variable {P:Program}{n b:Nat}{rd:Bool}{Q:fL->S->Prop}{s:S}
@[go_sem] theorem YJ:lJ P n b rd .skip Q s=Q .normal s:=propext Iff.rfl
@[go_sem] theorem abA {l:List bH}:lJ P n b rd (.ad l) Q s=pN P (fun v s=>Q (.bB v) s) (Q .normal) l s:=propext Iff.rfl
@[go_sem] theorem abB {l:List bH} {pr:List (List Nat)}:lJ P n b rd (.db l pr) Q s=Jn P l pr Q s (qS l 0):=propext Iff.rfl
@[go_sem] theorem VW {l:List bH} {pr:List (List Nat)}:Jn P l pr Q s none=nK P (Mz pr (s.nx+l.length) Q) (A3 pr l s Q) pr l s.nx s []:=propext Iff.rfl
theorem Dd{l:List bH}{pr:List (List Nat)}{m:Nat}(h1:m<=l.length)(h2:yp pr m=true)(h3:nK P (Ez P pr (l.drop m) (s.nx+m) Q) (fun _ _ _=>False) pr (l.take m) s.nx s []):Jn P l pr Q s (some m):=⟨h1,h2,h3⟩
theorem mM{pr:List (List Nat)}{l:List bH}{nx:Nat}{fp:Fp}(h:dY pr fp=true)(h2:pN P (fun v s=>Q (.bB v) s) (Q .normal) l ⟨s.env,s.o,nx⟩):Ez P pr l nx Q s fp:=⟨h,h2⟩
@[go_sem] theorem YK {k:Nat}:qS [] k=none:=rfl
@[go_sem] theorem YL {d:Option Nat} {t:Nat} {args:Array Operand} {ts:Array TypeId} {l:List bH} {k:Nat}:qS (⟨d, .call ⟨.value (.tmp t),args,ts⟩,none⟩::l) k=some k:=rfl
@[go_sem] theorem abC {d:Option Nat} {op:Op} {g:Nat×Bool} {l:List bH} {k:Nat}:qS (⟨d,op,some g⟩::l) k=qS l (k+1):=rfl
@[go_sem] theorem YM {d:Option Nat} {f:Nat} {args:Array Operand} {ts:Array TypeId} {l:List bH} {k:Nat}:qS (⟨d, .call ⟨.value (.func f),args,ts⟩,none⟩::l) k=qS l (k+1):=rfl
@[go_sem] theorem abD {d:Option Nat} {op:Op} {l:List bH} {k:Nat} (h:eh op=none):qS (⟨d,op,none⟩::l) k=qS l (k+1):=by rw[qS.eq_2];simp only[h]
@[go_sem] theorem abE {x y:IC}:lJ P n b rd (.seq x y) Q s=lJ P n b rd x (pA (fun s=>lJ P n b rd y Q s) Q) s:=propext Iff.rfl
@[go_sem] theorem YN {c:Operand} {x y:IC}:lJ P n b rd (.cond c x y) Q s=wP (lJ P n b rd x Q s) (lJ P n b rd y Q s) (s.ev c):=propext Iff.rfl
@[go_sem] theorem VX {id:Nat} {x:IC}:lJ P n b rd (.block id x) Q s=lJ P n b rd x (eX id Q) s:=propext Iff.rfl
@[go_sem] theorem YO {x:IC}:lJ P n b rd (.loop x) Q s=Bb b (fun Q s=>lJ P n b rd x Q s) Q s:=propext Iff.rfl
@[go_sem] theorem YP {id:Nat}:lJ P n b rd (.exit id) Q s=Q (.exit id) s:=propext Iff.rfl
@[go_sem] theorem abF:lJ P n b rd .ret Q s=Q .ret s:=propext Iff.rfl
@[go_sem] theorem abG {g:Operand} {ps:List Nat} {x y:IC}:lJ P n b rd (.FT g ps x y) Q s=yw P n b rd g ps x y Q s (s.ev g):=propext Iff.rfl
@[go_sem] theorem YQ {X:V->S->Prop} {K:S->Prop}:pN P X K [] s=K s:=propext Iff.rfl
@[go_sem] theorem VY {X:V->S->Prop} {K:S->Prop} {d:Option Nat} {op:Op} {l:List bH}:pN P X K (⟨d,op,none⟩::l) s=A9 P X (pN P X K l) ⟨d,op,none⟩ s:=propext Iff.rfl
@[go_sem] theorem VZ {X:V->S->Prop} {K:S->Prop} {d:Option Nat} {op:Op} {g:Nat} {w:Bool} {l:List bH}:pN P X K (⟨d,op,some (g,w)⟩::l) s=yu P X (pN P X K l) ⟨d,op,some (g,w)⟩ s (lU (s.env g) w):=propext Iff.rfl
variable {X:V->S->Prop}{K:S->Prop}{d:Option Nat}{op:Op}{g:Option (Nat×Bool)}{f:Operand}{args:Array Operand}{ts:Array TypeId}{c:Bool}
@[reducible] def V0:Op->Bool
  | .call c=>match c.callee with
    | .value _=>true
    | .invoke .. =>true
    |_=>false
  | .panic _=>true
  | .next .. =>true
  |_=>false
@[go_sem] theorem acq (h:V0 op=false):A9 P X K ⟨d,op,g⟩ s=j9 (fun v Δ=>K ⟨aU s.env d v,put s.o Δ,s.nx+1⟩) (fS P s s.nx op):=by
  unfold A9
  cases op with
  |call c=>
   obtain⟨IW,args,ts⟩:=c
   cases IW with
   |value f=>simp[V0]at h
   |invoke r m=>simp[V0]at h
   |_=>rfl
  |panic x=>simp[V0]at h
  |next x str=>simp[V0]at h
  |_=>rfl
@[go_sem] theorem YR {x:Operand} {str:Bool}:A9 P X K ⟨d, .next x str,g⟩ s=Jl (fun v Δ=>K ⟨aU s.env d v,put s.o Δ,s.nx+1⟩) str (nU s.o (s.ev x) str) (nV s.o (s.ev x)):=propext Iff.rfl
@[go_sem] theorem YS:A9 P X K ⟨d, .call ⟨.value f,args,ts⟩,g⟩ s=rP P (fun v o' nx'=>K ⟨aU s.env d v,o',nx'⟩) (fun v o' nx'=>X v ⟨s.env,o',nx'⟩) s (s.ev f) (args.toList.map s.ev):=propext Iff.rfl
@[go_sem] theorem SN {m:String}:A9 P X K ⟨d, .call ⟨.invoke f m,args,ts⟩,g⟩ s=Jk P (fun v o' nx'=>K ⟨aU s.env d v,o',nx'⟩) (fun v o' nx'=>X v ⟨s.env,o',nx'⟩) s (args.toList.map s.ev) (tJ P m (s.ev f)):=propext Iff.rfl
@[go_sem] theorem V1:A9 P X K ⟨d, .panic f,g⟩ s=Gy (fun v=>X v s) (s.ev f):=propext Iff.rfl
@[go_sem] theorem V2:yu P X K ⟨d, .call ⟨.value f,args,ts⟩,g⟩ s (some c)=Dc P X K ⟨d, .call ⟨.value f,args,ts⟩,g⟩ s f args.toList c:=propext Iff.rfl
theorem fC{e:Nat->V}{ob:Nat->ab}{nx:Nat}(h:Ex P ((⟨e,ob,nx⟩:S).ev f) (args.toList.map (⟨e,ob,nx⟩:S).ev) ob (fun v=>K ⟨aU e d v,ob,nx+1⟩) c):Dc P X K ⟨d,op,g⟩ ⟨e,ob,nx⟩ f args.toList c:= .inl h
theorem Be{s:S}{o:bH}{l:List Operand}(h:ir (A9 P X K o s) (K ⟨aU s.env o.dst (.bT []),s.o,s.nx+1⟩) c):Dc P X K o s f l c:= .inr h
@[go_sem] theorem V3 (h:kC op=true):yu P X K ⟨d,op,g⟩ s (some c)=j9 (fun v _=>K ⟨aU s.env d v,s.o,s.nx+1⟩) (kA c (fS P s s.nx op)):=by
  have h2:eh op=none:=by
   cases hc:eh op with
   |none=>rfl
   |some x=>
    exfalso
    unfold eh at hc
    split at hc
    ·split at hc
     ·rename_i hv;simp[kC,hv]at h
     ·cases hc
    ·cases hc
  simp only[yu,h2,h,if_true]
@[go_sem] theorem V4 (h:kC op=false) (h2:eh op=none):yu P X K ⟨d,op,g⟩ s (some c)=ir (A9 P X K ⟨d,op,g⟩ s) (K ⟨aU s.env d (.bT []),s.o,s.nx+1⟩) c:=by
  simp[yu,h2,h]
@[go_sem] theorem SO {l:List Operand}:Dc P X K ⟨d,op,g⟩ s f l false=K ⟨aU s.env d (.bT []),s.o,s.nx+1⟩:=by
  refine propext ⟨fun h=> ?_,fun h=> .inr ⟨(fun e=>by cases e),fun _=>h⟩⟩
  rcases h with⟨rs,_,h⟩|h
  ·exact h
  ·exact h.2 rfl
@[go_sem] theorem V5 {l:List Operand} (hl:args.toList=l):Dc P X K ⟨d, .call ⟨.value f,args,ts⟩,g⟩ s f l true=A9 P X K ⟨d, .call ⟨.value f,args,ts⟩,g⟩ s:=by
  subst hl
  refine propext ⟨fun h=> ?_,fun h=> .inr ⟨fun _=>h,(fun e=>by cases e)⟩⟩
  rcases h with⟨rs,h1,h⟩|h
  ·have h1:=h1 rfl
   unfold A6 at h1
   unfold A9 rP mL
   simp only
   split at h1
   ·rename_i fv gg first cap hf
    simp only[hf]
    split at h1
    ·rename_i ds eL
     simp only[eL]
     exact .inl ⟨.ret rs,h1.1, .inr (.inl ⟨h1.2,h⟩)⟩
    ·exact h1.elim
   ·exact h1.elim
  ·exact h.1 rfl
variable {KV:KD}{XV:XD}
@[go_sem] theorem YT {fr:Nat}:LB P KV XV fr ⟨d, .call ⟨.value f,args,ts⟩,g⟩ s=Ba P KV XV s.o s.nx fr (nP s (.call ⟨.value f,args,ts⟩)) (s.ev f) (args.toList.map s.ev):=propext Iff.rfl
@[go_sem] theorem acr {fr:Nat} (h2:eh op=none):LB P KV XV fr ⟨d,op,g⟩ s=uc KV (nP s op) (fS P s fr op):=by simp[LB,h2]
variable {KS:S->Prop}
@[go_sem ↓] theorem MD:pA KS Q .normal s=KS s:=propext Iff.rfl
@[go_sem ↓] theorem SP {id:Nat}:pA KS Q (.exit id) s=Q (.exit id) s:=propext Iff.rfl
@[go_sem ↓] theorem V6:pA KS Q .ret s=Q .ret s:=propext Iff.rfl
@[go_sem ↓] theorem V7 {v:V}:pA KS Q (.bB v) s=Q (.bB v) s:=propext Iff.rfl
@[go_sem ↓] theorem LC {id:Nat}:eX id Q .normal s=Q .normal s:=propext Iff.rfl
@[go_sem ↓] theorem PA {id:Nat}:eX id Q (.exit id) s=Q .normal s:=by simp[eX]
@[go_sem ↓] theorem ME {id j:Nat} (h:j≠id):eX id Q (.exit j) s=Q (.exit j) s:=by simp[eX,h]
@[go_sem ↓] theorem SQ {id:Nat}:eX id Q .ret s=Q .ret s:=propext Iff.rfl
@[go_sem ↓] theorem SR {id:Nat} {v:V}:eX id Q (.bB v) s=Q (.bB v) s:=propext Iff.rfl
def MF(out:R)(x:Option (List D)):Prop:=match x with|some ds=>out= .ret ds|none=>False
@[go_sem] theorem V8 {out:R} {ds:List D}:MF out (some ds)=(out= .ret ds):=propext Iff.rfl
def SS(out:R)(x:Option D):Prop:=match x with|some d=>out= .bB d|none=>False
@[go_sem] theorem V9 {out:R} {d:D}:SS out (some d)=(out= .bB d):=propext Iff.rfl
def MG(out:R)(o:Nat->ab)(x:Option (List V)):Prop:=match x with|some vs=>MF out (bU o vs)|none=>False
@[go_sem] theorem Wa {out:R} {o:Nat->ab} {vs:List V}:MG out o (some vs)=MF out (bU o vs):=propext Iff.rfl
variable {rs:List ResultVar}{out:R}
@[go_sem ↓] theorem Wb:AE P rs out .ret s=MG out s.o (lD P s rs):=propext Iff.rfl
@[go_sem ↓] theorem MH:AE P rs out .normal s=MG out s.o (lD P s rs):=propext Iff.rfl
@[go_sem ↓] theorem Wc {v:V}:AE P rs out (.bB v) s=SS out (dC s.o v):=propext Iff.rfl
def Bf(K:V->(Nat->ab)->Nat->Prop)(o:Nat->ab)(nx:Nat)(x:Fix (Option (List V)) (K,o,nx)):Prop:=match x with
 |some [v]=>K v o nx
 |some vs=>K (.bT vs) o nx
 |none=>False
@[go_sem] theorem YU {K:V->(Nat->ab)->Nat->Prop} {o:Nat->ab} {nx:Nat} {v:V}:Bf K o nx (some [v])=K v o nx:=propext Iff.rfl
@[go_sem] theorem YV {K:V->(Nat->ab)->Nat->Prop} {o:Nat->ab} {nx:Nat}:Bf K o nx (some [])=K (.bT []) o nx:=propext Iff.rfl
@[go_sem] theorem YW {K:V->(Nat->ab)->Nat->Prop} {o:Nat->ab} {nx:Nat} {v u:V} {l:List V}:Bf K o nx (some (v::u::l))=K (.bT (v::u::l)) o nx:=propext Iff.rfl
theorem EC{K X:V->(Nat->ab)->Nat->Prop}:lF P rs K X .ret s=Bf K s.o s.nx (lD P s rs):=by
 unfold lF Bf
 cases lD P s rs with
 |none=>rfl
 |some l=>match l with
  |[]=>rfl
  |[_]=>rfl
  |_::_::_=>rfl
@[go_sem ↓] theorem YX {K X:V->(Nat->ab)->Nat->Prop}:Jp P rs K X .ret s=Bf K s.o s.nx (lD P s rs):=EC
@[go_sem ↓] theorem PB {K X:V->(Nat->ab)->Nat->Prop}:Jp P rs K X .normal s=Bf K s.o s.nx (lD P s rs):=(EC (X:=X):lF P rs K X .ret s=_)
@[go_sem ↓] theorem YY {K X:V->(Nat->ab)->Nat->Prop} {v:V}:Jp P rs K X (.bB v) s=X v s.o s.nx:=propext Iff.rfl
variable {KE:S->Fp->Prop}{KP:V->List Nat->Fp->Prop}{pr:List (List Nat)}{fr:Nat}{fp:Fp}
@[go_sem] theorem YZ:nK P KE KP pr [] fr s fp=KE s fp:=propext Iff.rfl
@[go_sem] theorem Wd {d:Option Nat} {op:Op} {l:List bH}:nK P KE KP pr (⟨d,op,none⟩::l) fr s fp=
 LB P (fun v Δ rd=>nK P KE KP pr l (fr+1) ⟨aU s.env d v,put s.o Δ,s.nx⟩ (fp++[(rd,Δ.map (·.1))]))
  (fun v ws rd=>Gz P (KP v) pr l (fr+1) (fp++[(rd,[])]) [fp.length] (ws++fp.flatMap (·.2)) ⟨aU s.env d .aa,s.o,s.nx⟩) fr ⟨d,op,none⟩ s:=propext Iff.rfl
@[go_sem] theorem We {d:Option Nat} {op:Op} {g:Nat} {w:Bool} {l:List bH}:nK P KE KP pr (⟨d,op,some (g,w)⟩::l) fr s fp=
 jx w (LB P (fun v Δ rd=>nK P KE KP pr l (fr+1) ⟨aU s.env d v,put s.o Δ,s.nx⟩ (fp++[(rd,Δ.map (·.1))]))
  (fun v ws rd=>Gz P (KP v) pr l (fr+1) (fp++[(rd,[])]) [fp.length] (ws++fp.flatMap (·.2)) ⟨aU s.env d .aa,s.o,s.nx⟩) fr ⟨d,op,some (g,w)⟩ s)
   (nK P KE KP pr l (fr+1) ⟨aU s.env d (.bT []),s.o,s.nx⟩ (fp++[([],[])])) (s.env g):=propext Iff.rfl
end
attribute [go_sem] V0 eh kC fS one lI aU S.ev A6
theorem aj{ι:Type}{b:Nat}{st:ι->S}{bz:ι->Prop}{oE:ι->Nat}{i:ι}{s:S}(j:ι)(h1:bz j)(h2:oE j<oE i)(h3:br b s (st j)):EA b st bz oE i s:=⟨j,h1,h2,h3⟩
attribute [irreducible] Jn Ez lJ pN A9 yu Dc rP mL A8 Jj Jk Ex ub A7 j9 Gy ir jx Jm qQ qP qR Ba uc LB nK Gz yw wO Jp Bf Mz wP Bb MF SS MG ud EA
end
section
section
variable (ρ:Nat->Option Nat)(o' o:Nat->ab)(nx:Nat)
end
section
variable {M M':Nat->Prop}{φ aC:Place}{H H':Hp}{w:World}{ρ:Nat->Option Nat}{nx:Nat}
end
end
@[go_sem] theorem np (v:V) (l:List V):a7 (v::l) 0=v:=rfl
@[go_sem] theorem nq (v:V) (l:List V) (i:Nat):a7 (v::l) (i+1)=a7 l i:=rfl
@[go_sem] theorem pO (i:Nat):a7 [] i= .aa:=by simp[a7]
@[go_sem] theorem PC (k:Nat):(0<=(k:Int))=True:=aJ
attribute [go_sem] List.getElem?_map List.length_map Int.toNat_natCast
attribute [go_sem] eA List.flatMap_cons List.flatMap_nil
attribute [go_sem] isConst qC L2 qA qB Ad qz pb CB L3 v8 FW oi oj v7 tu tv pc
attribute [go_sem] nP V.refs V.aE
attribute [go_sem] List.all_nil List.all_cons Option.some.injEq D.int.injEq D.bool.injEq Nat.zero_add Nat.add_zero
theorem wrap64{n:Int}(h1: -9223372036854775808<=n)(h2:n<=9223372036854775807):IntKind.i64.wrap n=n:=by
 unfold IntKind.wrap
 have e1:((2:Int)^IntKind.i64.bits)=18446744073709551616:=bO
 have e2:((2:Int)^(IntKind.i64.bits - 1))=9223372036854775808:=bO
 have e3:IntKind.i64.signed=true:=rfl
 simp only[e1,e2,e3,Bool.true_and,decide_eq_true_eq]
 split<;>omega
structure Good (o:Nat->ab) (nx:Nat):Prop where
 fresh:∀id,nx<=id->o id= .no
 refs:∀id,∀r∈(o id).refs,r<nx
theorem Good.nil {nx:Nat}:Good (fun _=> .no) nx:=⟨fun _ _=>rfl,fun id r h=>by cases h⟩
theorem Good.aD {o:Nat->ab}{nx i:Nat}{x:ab}(h:Good o nx)(hi:i<nx)(hx:x.refs.all (fun r=>decide (r<nx))=true):Good (aD o i x) nx:=by
 refine⟨fun id au=> ?_,fun id r hr=> ?_⟩
 ·rw[ah _ _ _ _ (by omega)];exact h.fresh id au
 ·by_cases e:id=i
  ·subst e
   rw[af]at hr
   simpa using List.all_eq_true.1 hx r hr
  ·rw[ah _ _ _ _ e]at hr
   exact h.refs id r hr
theorem Good.mono {o:Nat->ab}{nx m:Nat}(h:Good o nx)(hm:nx<=m):Good o m:=⟨fun id au=>h.fresh id ae,fun id r hr=>Nat.lt_of_lt_of_le (h.refs id r hr) hm⟩
theorem Good.lt {o:Nat->ab}{nx id:Nat}(h:Good o nx)(hn:o id≠ .no):id<nx:=by
 rcases Nat.lt_or_ge id nx with hl|hl
 ·exact hl
 ·exact absurd (h.fresh id hl) hn
theorem V.vS:∀ (l:List V) (i:Nat),∀r∈(a7 l i).refs,r∈V.aE l
 |[],i,r,h=>by rw[pO]at h;cases h
 |v::l,0,r,h=>by rw[np]at h;simp only[V.aE,List.mem_append];exact .inl h
 |v::l,i+1,r,h=>by rw[nq]at h;simp only[V.aE,List.mem_append];exact .inr (V.vS l i r h)
theorem br.back {b:Nat}{s:S}{env:Nat->V}{o:Nat->ab}{nx:Nat}(hb:b<=nx)(hn:nx<=s.nx)(hg:Good o nx)(ho:∀id,id<nx->s.o id=o id)
 (he:∀i,env i= .aa\/(env i=s.env i/\∀r∈(env i).refs,r<nx)):br b s ⟨env,o,nx⟩:=by
 intro M φ w tm hH hd
 have cz:∀k,cw φ (hp o nx) k->cw φ s.H k:=by
  rintro k ⟨id,h1,h2⟩
  have au:id<nx:=hg.lt (fun e=>by simp only[hp]at h1;rw[e]at h1;cases h1)
  exact⟨id,by simp only[S.H];rw[ho id au];exact h1,h2⟩
 have hB:∀k, ¬ak M φ s.H k-> ¬ak M φ (hp o nx) k:=fun k h h'=>h (h'.imp id (cz k))
 have eK:∀ (v:V) (val:Value),(∀r∈v.refs,r<nx)->V.den (ak M φ s.H) φ s.H w v val->V.den (ak M φ (hp o nx)) φ (hp o nx) w v val:=fun v val hr h=>
  V.mG (H:=s.H) (H':=hp o nx) hB v val (fun id au=>⟨(ho id (hr id au)).symm,rfl,hr id au⟩) h
 have kJ:∀ (v:List V) (val:List Value),(∀r∈V.aE v,r<nx)->V.az (ak M φ s.H) φ s.H w v val->V.az (ak M φ (hp o nx)) φ (hp o nx) w v val:=fun v val hr h=>
  V.fO (H:=s.H) (H':=hp o nx) hB v val (fun id au=>⟨(ho id (hr id au)).symm,rfl,hr id au⟩) h
 refine⟨φ,⟨fun id=> ?_,fun id hu=>hg.fresh id (by simpa[S.H]using hu),fun i j k h1 h2 h3 h4=> ?_,fun k hk=>hH.ours k (cz k hk),hH.zH⟩,fun i=> ?_,cz,hb,fun id au hr=> ?_,fun id e' au oQ=> ?_⟩
 ·have aZ:=hH.ok id
  have hrefs:=hg.refs id
  unfold aM at aZ|-
  by_cases au:id<nx
  ·have e:s.H.o id=o id:=ho id au
   rw[e]at aZ
   simp only[S.H]at aZ|-
   cases hx:o id with
   |no=>trivial
   |row cs=>
    simp only[hx]at aZ hrefs|-
    exact Ox
   |arr ep ty sz es=>
    simp only[hx]at aZ|-
    obtain⟨k1,xs,k2,evs,k3,k4,k5⟩:=aZ
    exact Xd
   |rz ep es=>
    simp only[hx]at aZ|-
    exact LU
   |map kt vt es=>
    simp only[hx]at aZ|-
    obtain⟨b,es',clock,k1,k2,k4,k3⟩:=aZ
    exact Xa
   |gH l=>
    simp only[hx]at aZ|-
    exact LU
   |oh l last=>
    simp only[hx]at aZ|-
    obtain⟨b,k1,k2⟩:=aZ
    exact On
   |xG s pos=>
    simp only[hx]at aZ|-
    exact aZ
   |loop nf n env ps a b st pd=>
    simp only[hx]at aZ hrefs|-
    exact OO
  ·simp only[S.H]
   rw[hg.fresh id (by omega)]
   trivial
 ·have hi:i<nx:=hg.lt (fun e=>by simp only[S.H]at h1;rw[e]at h1;cases h1)
  have hj:j<nx:=hg.lt (fun e=>by simp only[S.H]at h2;rw[e]at h2;cases h2)
  exact hH.apart i j k (by simp only[S.H];rw[ho i hi];exact h1) (by simp only[S.H];rw[ho j hj];exact h2) h3 h4
 ·rcases he i with h|⟨h1,h2⟩
  ·simp only[h];trivial
  ·have:=hd i
   rw[<- h1]at this
   exact eK _ _ h2 this
 ·have cm:id<nx:=ae
  exact⟨by rw[ho id cm];exact hr,rfl⟩
 ·have cm:id<nx:=ae
  exact⟨e',by rw[ho id cm];exact oQ,Nat.le_refl _,fun _=>rfl⟩
def kU(nx:Nat)(env:Nat->V):List V->Nat->Prop
 |[],_=>True
 |v::l,i=>(v= .aa\/(v=env i/\∀r∈v.refs,r<nx))/\kU nx env l (i+1)
theorem br.aR {b:Nat}{e:Nat->V}{so:Nat->ab}{m:Nat}(l:List V){o:Nat->ab}{nx:Nat}(hb:b<=nx)(hn:nx<=m)(hg:Good o nx)(ho:∀id,id<nx->so id=o id)(he:kU nx e l 0):br b ⟨e,so,m⟩ ⟨a7 l,o,nx⟩:=by
 refine br.back hb hn hg ho ?_
 have key:∀ (l:List V) (i:Nat),kU nx e l i->∀j,a7 l j= .aa\/(a7 l j=e (i+j)/\∀r∈(a7 l j).refs,r<nx):=by
  intro l
  induction l with
  |nil=>intro i _ j;rw[pO];exact .inl rfl
  |cons v l ih=>
   intro i h j
   cases j with
   |zero=>rw[np];exact h.1
   |succ j=>
    rw[nq]
    have:=ih (i+1) h.2 j
    rwa [show i+1+j=i+(j+1) by omega]at this
 intro i
 have:=key l 0 he i
 rwa [Nat.zero_add]at this
theorem FI{nx:Nat}{env:Nat->V}{i:Nat}:kU nx env [] i:=trivial
theorem Cs{nx:Nat}{env:Nat->V}{l:List V}{i:Nat}(h:kU nx env l (i+1)):kU nx env (.aa::l) i:=⟨.inl rfl,h⟩
theorem DT{nx:Nat}{env:Nat->V}{l:List V}{i:Nat}{x:D}(he:env i= .d x)(h:kU nx env l (i+1)):kU nx env (.d x::l) i:=⟨.inr ⟨he.symm,fun r hr=>by simp[V.refs]at hr⟩,h⟩
theorem LM{nx:Nat}{env:Nat->V}{l:List V}{i:Nat}{v:V}(he:env i=v)(hr:∀r∈v.refs,r<nx)(h:kU nx env l (i+1)):kU nx env (v::l) i:=⟨.inr ⟨he.symm,hr⟩,h⟩
theorem br.d0 {e:Nat->V}{so:Nat->ab}{m:Nat}(l:List V)(he:kU 0 e l 0):br 0 ⟨e,so,m⟩ ⟨a7 l,fun _=> .no,0⟩:=br.aR l (Nat.le_refl 0) (Nat.zero_le _) Good.nil (fun _ h=>absurd h (Nat.not_lt_zero _)) he
theorem N7{k:Nat}(h:(k:Int)+1<=9223372036854775807):IntKind.i64.wrap ((k:Int)+1)=((k+1:Nat):Int):=by rw[wrap64 (by omega) h];rfl
theorem N6{k:IntKind}{a b:Int}(h:a=b):V.d (D.int k a)=V.d (D.int k b):=by rw[h]
theorem Bg{P:Program}{g:FuncId}{K:KD}{X:XD}{o:Nat->ab}{nx fr:Nat}{all:List V}{rd:List Nat}{rs:List D}{Δ:List (Nat×ab)}(nG:rd.all (fun id=>decide (id<nx))=true)(h:Er P g all rd o (.ret rs) Δ)(hk:K (iX rs) Δ rd):qP P g K X o nx fr all:=by
 unfold qP
 exact⟨rd,Δ,nG, .inl ⟨rs,h,hk⟩⟩
abbrev D.i (n:Int):D:= .int .i64 n
structure iT where
 name:List UInt8
 args:Int
structure bC where
 cons:List iT
 bG:List iT
inductive Tm where
 |mk (op n:Int) (kids:List Tm)
 deriving Inhabited
structure TB where
 var:Int
 term:Tm
def Tm.op:Tm->Int| .mk op _ _=>op
def Tm.n:Tm->Int| .mk _ n _=>n
def Tm.kids:Tm->List Tm| .mk _ _ l=>l
theorem Tm.ind {P:Tm->Prop}(h:∀op n kids,(∀k∈kids,P k)->P (.mk op n kids)):∀t,P t:=
 fun t=>Tm.rec (motive_1:=P) (motive_2:=fun l=>∀k∈l,P k) (fun op n kids ih=>h op n kids ih) (fun _ h=>by cases h)
  (fun x l hx hl k hk=>(List.mem_cons.1 hk).elim (fun e=>e ▸ hx) (hl k)) t
mutual
def Tm.d:Tm->D
 | .mk op n kids=> .agg [.i op, .i n, .sl (Tm.ds kids)]
def Tm.ds:List Tm->List D
 |[]=>[]
 |t::l=>t.d::Tm.ds l
end
theorem Tm.De:∀l:List Tm,Tm.ds l=l.map Tm.d
 |[]=>rfl
 |t::l=>by simp[Tm.ds,Tm.De l]
theorem Tm.Y0 (t:Tm):t.d= .agg [.i t.op, .i t.n, .sl (t.kids.map Tm.d)]:=by cases t;simp[Tm.d,Tm.De,Tm.op,Tm.n,Tm.kids]
@[go_sem] theorem Tm.acs (t:Tm):D.agg [.i t.op, .i t.n, .sl (t.kids.map Tm.d)]=t.d:=(Tm.Y0 t).symm
@[go_sem] theorem Tm.abH (t:Tm):D.cells t.d=[.i t.op, .i t.n, .sl (t.kids.map Tm.d)]:=by rw[Tm.Y0];rfl
theorem Tm.eY {P:Tm->Prop}(h:∀t:Tm,(∀k∈t.kids,P k)->P t):∀t,P t:=Tm.ind fun op n kids ih=>h (.mk op n kids) ih
theorem Tm.Jq (op n:Int)(l:List Tm):(Tm.mk op n l).d= .agg [.i op, .i n, .sl (l.map Tm.d)]:=by simp[Tm.d,Tm.De]
@[reducible] def iT.d (x:iT):D:= .agg [.str x.name, .i x.args]
@[reducible] def bC.d (s:bC):D:= .agg [.sl (s.cons.map iT.d), .sl (s.bG.map iT.d)]
@[reducible] def TB.d (b:TB):D:= .agg [.i b.var, .i b.term.op, .i b.term.n, .sl (b.term.kids.map Tm.d)]
mutual
def Tm.fits:Tm->Prop
 | .mk _ _ kids=>kids.length<=9223372036854775807/\Tm.Bh kids
def Tm.Bh:List Tm->Prop
 |[]=>True
 |t::l=>t.fits/\Tm.Bh l
end
theorem Tm.wS:∀l:List Tm,Tm.Bh l↔∀k∈l,k.fits
 |[]=>by simp[Tm.Bh]
 |t::l=>by simp[Tm.Bh,Tm.wS l]
theorem Tm.bR (t:Tm):t.fits↔t.kids.length<=9223372036854775807/\∀k∈t.kids,k.fits:=by cases t;simp[Tm.fits,Tm.wS,Tm.kids]
mutual
def Tm.mN:Tm->Nat
 | .mk _ _ kids=>1+Tm.lK kids
def Tm.lK:List Tm->Nat
 |[]=>0
 |k::l=>Nat.max k.mN (Tm.lK l)
end
theorem Tm.Bi:∀ {l:List Tm} {k:Tm},k∈l->k.mN<=Tm.lK l
 |x::l,k,h=>by
  simp only[Tm.lK]
  rcases List.mem_cons.1 h with rfl|h
  ·exact Nat.le_max_left _ _
  ·exact Nat.le_trans (Tm.Bi h) (Nat.le_max_right _ _)
theorem Tm.pP {t k:Tm}(h:k∈t.kids):k.mN+1<=t.mN:=by
 cases t;simp only[Tm.kids]at h;simp only[Tm.mN];have:=Tm.Bi h;omega
mutual
def pre:Tm->Int->List (Tm×Int)
 | .mk op n kids,d=>(.mk op n kids,d)::MI kids (d+1)
def MI:List Tm->Int->List (Tm×Int)
 |[],_=>[]
 |k::l,d=>pre k d++MI l d
end
theorem GC(l:List Tm)(d:Int):MI l d=l.flatMap fun k=>pre k d:=by
 induction l with
 |nil=>rfl
 |cons k l ih=>simp[MI,ih]
theorem jy(t:Tm)(d:Int):pre t d=(t,d)::t.kids.flatMap fun k=>pre k (d+1):=by cases t;simp[pre,GC,Tm.kids]
def dE(n low high:Int):Bool:=decide (low<=n)&&decide (n<=high)
def letterF(b:UInt8):Bool:= !((decide ((b.toNat:Int)<97)||decide (122<(b.toNat:Int)))&&(decide ((b.toNat:Int)<65)||decide (90<(b.toNat:Int))))
def jz(s:List UInt8):Bool:=s.all letterF&&dE s.length 1 8
def bN:List iT->List (List UInt8)->Option (List (List UInt8))
 |[],before=>some before
 |x::l,before=>if before.any (· ==x.name)then none else if(!jz x.name|| !dE x.args 0 4)=true then none else bN l (before++[x.name])
def fB:List UInt8:=[70,97,108,115,101]
def tB:List UInt8:=[84,114,117,101]
def lZ(x:iT)(s:List UInt8):Bool:=x.name==s&&x.args==0
def iY(s:bC):Bool:=
 if(!dE s.cons.length 2 12||decide (8<(s.bG.length:Int)))=true then false else
 match s.cons with
 |a::b::_=>if(!lZ a fB|| !lZ b tB)=true then false else
  match bN s.cons []with
  |none=>false
  |some l=>(bN s.bG l).isSome
 |_=>false
mutual
def iu:Tm->Int->Int->Int
 | .mk _ _ kids,left,depth=>if left<1\/depth<1 then -1 else b9 kids (left - 1) (depth - 1)
def b9:List Tm->Int->Int->Int
 |[],left,_=>left
 |k::l,left,depth=>if 0<=left then b9 l (iu k left depth) depth else left
end
def fD(l:List iT)(n:Int):Int:=match l[n.toNat]? with|some x=>x.args|none=>0
def bn(s:bC)(t:Tm):Bool:=
 let k:Int:=t.kids.length
 if t.op=1 then k==0&&dE t.n 0 19
 else if t.op=2 then k==0&&dE t.n (-1000000) 1000000
 else if t.op=3 then dE t.n 0 (s.cons.length - 1)&&k==fD s.cons t.n
 else if t.op=4 then dE t.n 0 (s.bG.length - 1)&&k==fD s.bG t.n
 else if t.op=5 then dE t.n 0 (s.bG.length - 1)&&decide (k<fD s.bG t.n)
 else if t.op=8 then k==2&&dE t.n 0 19
 else if(dE t.op 6 15)=true then k==2&&t.n==0
 else false
mutual
def jA(s:bC):Tm->Bool
 | .mk op n kids=>bn s (.mk op n kids)&&sR s kids
def sR(s:bC):List Tm->Bool
 |[]=>true
 |k::l=>jA s k&&sR s l
end
def fj(s:bC)(t:Tm):Bool:=decide (0<=iu t 40 12)&&jA s t
mutual
def kb:Tm->Tm->Bool
 | .mk op n kids, .mk op' n' PD=>op==op'&&n==n'&&kids.length==PD.length&&kD kids PD
def kD:List Tm->List Tm->Bool
 |[],_=>true
 |k::l,k'::l'=>kb k k'&&kD l l'
 |_::_,[]=>true
end
def kE(t:Tm):Bool:=decide (0<=iu t 50 14)
def ft(l:List iT):Bool:=l.all fun x=>decide ((x.name.length:Int)<=30)
def gR(s:bC):Bool:= !(decide (16<(s.cons.length:Int))||decide (12<(s.bG.length:Int)))&&ft s.cons&&ft s.bG
structure cB where
 f:Int
 t:Int
 l:Bool
@[reducible] def cB.d (a:cB):D:= .agg [.i a.f, .i a.t, .bool a.l]
def cB.k (a:cB):Nat:=(a.f*4+a.t).toNat
def cB.v (a:cB):Int:=if a.l=true then 2 else 1
def cB.GD (a:cB):Prop:=0<=a.f/\a.f<4/\0<=a.t/\a.t<4
def iw:List cB->Int->List Int->Option (List Int)
 |[],_,m=>some m
 |a::l,last,m=>if a.f<0\/4<=a.f\/a.t<0\/4<=a.t\/a.f*4+a.t<=last then none else iw l (a.f*4+a.t) (m.set a.k a.v)
def sS:List Int:=[0,0,0,0,0,0,0,0,0,0,0,0,0,0,0,0]
def kV:Int->List cB->Prop
 |_,[]=>True
 |last,a::l=>a.GD/\last<a.f*4+a.t/\kV (a.f*4+a.t) l
theorem mO:∀ (l:List cB) (last:Int) (m:List Int),(iw l last m).isSome=true↔kV last l
 |[],_,_=>by simp[iw,kV]
 |a::l,last,m=>by
  have ih:=mO l (a.f*4+a.t) (m.set a.k a.v)
  unfold iw kV cB.GD
  split
  ·rename_i h
   simp only[Option.isSome_none,Bool.false_eq_true,false_iff]
   rintro⟨⟨h1,h2,h3,h4⟩,h5,_⟩
   omega
  ·rename_i h
   rw[ih]
   constructor
   ·intro h2;exact⟨ae,ae,h2⟩
   ·intro h2;exact h2.2.2
def dz:List cB->Bool
 |[]=>true
 |[a]=>decide (0<=a.f/\a.f<=3)&&decide (0<=a.t/\a.t<=3)
 |a::b::l=>decide (0<=a.f/\a.f<=3)&&decide (0<=a.t/\a.t<=3)&& !(decide (b.f<a.f)||(b.f==a.f&&decide (b.t<=a.t)))&&dz (b::l)
theorem jh:∀ (l:List cB) (last:Int),kV last l->∀a∈l,a.GD/\last<a.f*4+a.t
 |[],_,_,a,h=>by cases h
 |b::l,last,hs,a,h=>by
  obtain⟨h1,h2,h3⟩:=hs
  rcases List.mem_cons.1 h with rfl|h
  ·exact⟨h1,h2⟩
  ·have:=jh l _ h3 a h
   exact⟨this.1,ae⟩
theorem ED:∀ (l:List cB) (last:Int) (m m':List Int),m.length=16->iw l last m=some m'->m'.length=16/\∀p,p<16->m'[p]? =(match l.find? (fun a=>a.k==p)with|some a=>some a.v|none=>m[p]?)
 |[],_,m,m',hm,h=>by simp only[iw,Option.some.injEq]at h;subst h;exact⟨hm,fun p _=>rfl⟩
 |a::l,last,m,m',hm,h=>by
  have hs:kV last (a::l):=(mO _ _ m).1 (by rw[h];rfl)
  obtain⟨h1,h2,h3⟩:=hs
  unfold iw at h
  rw[if_neg (by unfold cB.GD at h1;omega)]at h
  obtain⟨e1,e2⟩:=ED l _ _ m' (by simpa using hm) h
  refine⟨e1,fun p hp=> ?_⟩
  rw[e2 p hp,List.find?_cons]
  by_cases e:a.k=p
  ·have e':(a.k==p)=true:=by simpa using e
   rw[e']
   have:l.find? (fun a=>a.k==p)=none:=by
    rw[List.find?_eq_none]
    intro b hb
    have h4:=jh l _ h3 b hb
    have h5:=h4.1
    unfold cB.GD at h1 h5
    simp only[beq_iff_eq]
    unfold cB.k at e|-
    omega
   rw[this]
   simp only
   rw[List.getElem?_set,if_pos e,if_pos (by rw[hm];omega)]
  ·have e':(a.k==p)=false:=by simpa using e
   rw[e']
   simp only
   cases l.find? (fun a=>a.k==p)with
   |some b=>rfl
   |none=>
    simp only
    rw[List.getElem?_set,if_neg e]
def sA(a b:List Int)(i j:Nat)(acc:Int)(k:Nat):Int:=
 if a.getD (i*4+k) 0≠0/\b.getD (k*4+j) 0≠0 then max (max acc (a.getD (i*4+k) 0)) (b.getD (k*4+j) 0)else acc
def cP(a b:List Int)(i j:Nat)(n:Nat):Int:=(List.range n).foldl (sA a b i j) 0
def yz(a b:List cB)(i j:Int):Bool×Bool:=
 (a.any fun x=>b.any fun y=>x.f==i&&x.t==y.f&&y.t==j,a.any fun x=>b.any fun y=>(x.f==i&&x.t==y.f&&y.t==j)&&(x.l||y.l))
def Jr(l:List cB)(m:List Int):Prop:=∀i k:Nat,i<4->k<4->(m.getD (i*4+k) 0≠0↔∃x∈l,x.f=i/\x.t=k)/\(m.getD (i*4+k) 0=2↔∃x∈l,x.f=i/\x.t=k/\x.l=true)/\0<=m.getD (i*4+k) 0/\m.getD (i*4+k) 0<=2
theorem pQ{l:List cB}{m:List Int}(h:iw l (-1) sS=some m):m.length=16/\Jr l m:=by
 have hs:kV (-1) l:=(mO _ _ sS).1 (by rw[h];rfl)
 obtain⟨e1,e2⟩:=ED l _ _ m rfl h
 refine⟨e1,fun i k hi hk=> ?_⟩
 have hp:i*4+k<16:=ae
 have e3:=e2 _ hp
 have z0:sS[i*4+k]? =some 0:=by
  have:∀p,p<16->sS[p]? =some 0:=bO
  exact this _ hp
 have key:∀x∈l,(x.k=i*4+k↔x.f=i/\x.t=k):=fun x hx=>by
  have h1:=(jh l _ hs x hx).1
  unfold cB.GD at h1
  unfold cB.k
  omega
 rw[List.getD_eq_getElem?_getD,e3]
 cases hf:l.find? (fun a=>a.k==i*4+k)with
 |some x=>
  have hx:=List.mem_of_find?_eq_some hf
  have Hz:=List.find?_some hf
  simp only[beq_iff_eq]at Hz
  have OW:=(key x hx).1 Hz
  simp only[Option.getD_some]
  unfold cB.v
  have uniq:∀y∈l,y.f=i/\y.t=k->y.l=x.l:=by
   intro y hy hyk
   have:∀ (l:List cB) (last:Int),kV last l->∀x∈l,∀y∈l,x.f=y.f->x.t=y.t->y=x:=by
    intro l
    induction l with
    |nil=>intro _ _ x hx;cases hx
    |cons a l ih=>
     intro last hs x hx y hy h1 h2
     obtain⟨g1,g2,g3⟩:=hs
     rcases List.mem_cons.1 hx with e1|qp
     ·rcases List.mem_cons.1 hy with e2|Gp
      ·rw[e1,e2]
      ·have:=(jh l _ g3 y Gp).2;rw[<- e1]at this;omega
     ·rcases List.mem_cons.1 hy with e2|Gp
      ·have:=(jh l _ g3 x qp).2;rw[<- e2]at this;omega
      ·exact ih _ g3 x qp y Gp h1 h2
   rw[this l _ hs x hx y hy (by omega) (by omega)]
  refine⟨⟨fun _=>⟨x,hx,OW.1,OW.2⟩,fun _=>by split<;>decide⟩,⟨fun h=>⟨x,hx,OW.1,OW.2, ?_⟩,fun h=> ?_⟩,by split<;>decide,by split<;>decide⟩
  ·cases hl:x.l with
   |true=>rfl
   |false=>rw[hl]at h;simp at h
  ·obtain⟨y,hy,h1,h2,h3⟩:=h
   rw[<- uniq y hy ⟨h1,h2⟩,h3];rfl
 |none=>
  rw[List.find?_eq_none]at hf
  simp only[z0,Option.getD_some]
  refine⟨⟨fun h=>absurd rfl h,fun⟨x,hx,h⟩=>absurd ((key x hx).2 h) (by simpa using hf x hx)⟩,⟨(fun h=>by cases h),fun⟨x,hx,h1,h2,_⟩=>absurd ((key x hx).2 ⟨h1,h2⟩) (by simpa using hf x hx)⟩,bO,bO⟩
theorem MJ{a b:List cB}{m n:List Int}(hm:Jr a m)(hn:Jr b n)(ha:∀x∈a,x.GD)(i j:Nat)(hi:i<4)(hj:j<4):
 (cP m n i j 4≠0↔(yz a b i j).1=true)/\(cP m n i j 4=2↔(yz a b i j).2=true)/\0<=cP m n i j 4/\cP m n i j 4<=2:=by
 have key:∀q,q<=4->(cP m n i j q≠0↔∃k:Nat,k<q/\(∃x∈a,x.f=i/\x.t=k)/\∃y∈b,y.f=k/\y.t=j)/\(cP m n i j q=2↔∃k:Nat,k<q/\∃x∈a,∃y∈b,x.f=i/\x.t=k/\y.f=k/\y.t=j/\(x.l||y.l)=true)/\0<=cP m n i j q/\cP m n i j q<=2:=by
  intro q
  induction q with
  |zero=>intro _;simp[cP]
  |succ q ih=>
   intro hq
   obtain⟨i1,i2,i3,i4⟩:=ih ae
   have e:cP m n i j (q+1)=sA m n i j (cP m n i j q) q:=by
    exact Rt
   obtain⟨a1,a2,a3,a4⟩:=hm i q hi ae
   obtain⟨b1,b2,b3,b4⟩:=hn q j ae hj
   rw[e]
   unfold sA
   by_cases h:m.getD (i*4+q) 0≠0/\n.getD (q*4+j) 0≠0
   ·rw[if_pos h]
    obtain⟨x,hx,x1,x2⟩:=a1.1 h.1
    obtain⟨y,hy,y1,y2⟩:=b1.1 h.2
    refine⟨⟨fun _=>⟨q,ae,⟨x,hx,x1,x2⟩,y,hy,y1,y2⟩,fun _=>ae⟩,⟨fun h2=> ?_,fun h2=> ?_⟩,ae,ae⟩
    ·rcases(by omega:cP m n i j q=2\/m.getD (i*4+q) 0=2\/n.getD (q*4+j) 0=2)with g|g|g
     ·obtain⟨k,k1,k2⟩:=i2.1 g
      exact D3
     ·obtain⟨x',qp,z1,z2,z3⟩:=a2.1 g
      exact⟨q,ae,x',qp,y,hy,z1,z2,y1,y2,by rw[z3];rfl⟩
     ·obtain⟨y',Gp,z1,z2,z3⟩:=b2.1 g
      exact⟨q,ae,x,hx,y',Gp,x1,x2,z1,z2,by rw[z3];simp⟩
    ·obtain⟨k,k1,x',qp,y',Gp,z1,z2,z3,z4,z5⟩:=h2
     rcases(by omega:k<q\/k=q)with g|g
     ·have:=i2.2 ⟨k,g,x',qp,y',Gp,z1,z2,z3,z4,z5⟩
      omega
     ·subst g
      rw[Bool.or_eq_true]at z5
      rcases z5 with z5|z5
      ·have:=a2.2 ⟨x',qp,z1,z2,z5⟩;omega
      ·have:=b2.2 ⟨y',Gp,z3,z4,z5⟩;omega
   ·rw[if_neg h]
    refine⟨⟨fun h2=> ?_,fun h2=> ?_⟩,⟨fun h2=> ?_,fun h2=> ?_⟩,i3,i4⟩
    ·obtain⟨k,k1,k2⟩:=i1.1 h2
     exact D3
    ·obtain⟨k,k1,k2,k3⟩:=h2
     rcases(by omega:k<q\/k=q)with g|g
     ·exact i1.2 ⟨k,g,k2,k3⟩
     ·subst g;exact absurd ⟨a1.2 k2,b1.2 k3⟩ h
    ·obtain⟨k,k1,k2⟩:=i2.1 h2
     exact D3
    ·obtain⟨k,k1,x',qp,y',Gp,z1,z2,z3,z4,z5⟩:=h2
     rcases(by omega:k<q\/k=q)with g|g
     ·exact i2.2 ⟨k,g,x',qp,y',Gp,z1,z2,z3,z4,z5⟩
     ·subst g;exact absurd ⟨a1.2 ⟨x',qp,z1,z2⟩,b1.2 ⟨y',Gp,z3,z4⟩⟩ h
 obtain⟨k1,k2,k3,k4⟩:=key 4 (Nat.le_refl _)
 refine⟨k1.trans ?_,k2.trans ?_,k3,k4⟩
 ·simp only[yz,List.any_eq_true,Bool.and_eq_true,beq_iff_eq]
  constructor
  ·rintro⟨k,_,⟨x,hx,x1,x2⟩,y,hy,y1,y2⟩
   exact⟨x,hx,y,hy,⟨x1,ae⟩,y2⟩
  ·rintro⟨x,hx,y,hy,⟨x1,x2⟩,y2⟩
   have h1:=ha x hx
   unfold cB.GD at h1
   exact⟨x.t.toNat,ae,⟨x,hx,x1,ae⟩,y,hy,ae,y2⟩
 ·simp only[yz,List.any_eq_true,Bool.and_eq_true,beq_iff_eq]
  constructor
  ·rintro⟨k,_,x,hx,y,hy,x1,x2,y1,y2,h5⟩
   exact⟨x,hx,y,hy,⟨⟨x1,ae⟩,y2⟩,h5⟩
  ·rintro⟨x,hx,y,hy,⟨⟨x1,x2⟩,y2⟩,h5⟩
   have h1:=ha x hx
   unfold cB.GD at h1
   exact⟨x.t.toNat,ae,x,hx,y,hy,x1,ae,ae,y2,h5⟩
def bK(m n:List Int):List Int:=(List.range 16).map fun p=>cP m n (p/4) (p%4) 4
def kW(m:List Int)(q:Nat):List cB:=(List.range q).filterMap fun p=>if m.getD p 0≠0 then some ⟨(p/4:Nat),(p%4:Nat),m.getD p 0==2⟩else none
def jB(a b:List cB)(q:Nat):List cB:=(List.range q).filterMap fun p=>if(yz a b (p/4:Nat) (p%4:Nat)).1=true then some ⟨(p/4:Nat),(p%4:Nat),(yz a b (p/4:Nat) (p%4:Nat)).2⟩else none
theorem ue{α β:Type}{f g:α->Option β}:∀ {l:List α},(∀x∈l,f x=g x)->l.filterMap f=l.filterMap g
 |[],_=>rfl
 |x::l,h=>by
  have ih:=ue (l:=l) fun y hy=>h y oY
  rw[List.filterMap_cons,List.filterMap_cons,h x (by simp),ih]
theorem mP{a b:List cB}{m n:List Int}(h1:iw a (-1) sS=some m)(h2:iw b (-1) sS=some n):kW (bK m n) 16=jB a b 16:=by
 obtain⟨_,hm⟩:=pQ h1
 obtain⟨_,hn⟩:=pQ h2
 have ha:∀x∈a,x.GD:=fun x hx=>(jh a (-1) ((mO _ _ sS).1 tf) x hx).1
 unfold kW jB
 refine ue fun p hp=> ?_
 have hp:p<16:=by simpa using hp
 have e:(bK m n).getD p 0=cP m n (p/4) (p%4) 4:=by
  unfold bK
  rw[List.getD_eq_getElem?_getD,List.getElem?_map,List.getElem?_range hp];rfl
 obtain⟨k1,k2,k3,k4⟩:=MJ hm hn ha (p/4) (p%4) ae ae
 rw[e]
 by_cases h:cP m n (p/4) (p%4) 4≠0
 ·rw[if_pos h,if_pos (k1.1 h)]
  have:(cP m n (p/4) (p%4) 4==2)=(yz a b (p/4:Nat) (p%4:Nat)).2:=by
   rw[Bool.eq_iff_iff,beq_iff_eq];exact k2
  rw[this]
 ·rw[if_neg h,if_neg (fun h2=>h (k1.2 h2))]
def jR(m n:List Int)(i k j:Nat):List Int:=(List.range 16).map fun p=>if p/4<i then cP m n (p/4) (p%4) 4 else if p/4=i then cP m n (p/4) (p%4) (if p%4<j then k+1 else k)else 0
theorem fk(m n:List Int)(i k j:Nat):(jR m n i k j).length=16:=by simp[jR]
theorem jC(m n:List Int)(i k j p:Nat)(hp:p<16):(jR m n i k j)[p]? =some (if p/4<i then cP m n (p/4) (p%4) 4 else if p/4=i then cP m n (p/4) (p%4) (if p%4<j then k+1 else k)else 0):=by
 unfold jR;rw[List.getElem?_map,List.getElem?_range hp];rfl
theorem iy{l l':List Int}(h1:l.length=16)(h2:l'.length=16)(h:∀p,p<16->l[p]? =l'[p]?):l=l':=by
 apply List.ext_getElem?
 intro p
 by_cases hp:p<16
 ·exact h p hp
 ·rw[List.getElem?_eq_none (by omega),List.getElem?_eq_none (by omega)]
theorem outS_0(m n:List Int):jR m n 0 0 0=sS:=by rfl
theorem SU(m n:List Int)(i k:Nat):jR m n i k 4=jR m n i (k+1) 0:=by
 refine iy (fk ..) (fk ..) fun p hp=> ?_
 rw[jC _ _ _ _ _ _ hp,jC _ _ _ _ _ _ hp,if_pos (Nat.mod_lt p (by omega)),if_neg (Nat.not_lt_zero _)]
theorem SV(m n:List Int)(i:Nat):jR m n i 4 0=jR m n (i+1) 0 0:=by
 refine iy (fk ..) (fk ..) fun p hp=> ?_
 rw[jC _ _ _ _ _ _ hp,jC _ _ _ _ _ _ hp,if_neg (Nat.not_lt_zero _)]
 by_cases h1:p/4<i
 ·rw[if_pos h1,if_pos (by omega)]
 ·rw[if_neg h1]
  by_cases h2:p/4=i
  ·rw[if_pos h2,if_pos (by omega)]
  ·rw[if_neg h2,if_neg (by omega)]
   split<;>rfl
theorem SW(m n:List Int):jR m n 4 0 0=bK m n:=by
 unfold jR bK
 apply List.map_congr_left
 intro p hp
 have hp:p<16:=by simpa using hp
 rw[if_pos (by omega)]
theorem Js(m n:List Int)(i j k:Nat):cP m n i j (k+1)=sA m n i j (cP m n i j k) k:=by
 exact Rt
theorem EE(m n:List Int)(i k j:Nat)(hi:i<4)(hj:j<4):(jR m n i k j)[i*4+j]? =some (cP m n i j k):=by
 rw[jC _ _ _ _ _ _ (by omega)]
 have e1:(i*4+j)/4=i:=ae
 have e2:(i*4+j)%4=j:=ae
 rw[e1,e2,if_neg (Nat.lt_irrefl _),if_pos rfl,if_neg (Nat.lt_irrefl _)]
theorem GF(m n:List Int)(i k j:Nat)(hi:i<4)(hj:j<4):jR m n i k (j+1)=(jR m n i k j).set (i*4+j) (sA m n i j (cP m n i j k) k):=by
 refine iy (fk ..) (by rw[List.length_set];exact fk ..) fun p hp=> ?_
 rw[List.getElem?_set,jC _ _ _ _ _ _ hp]
 by_cases h:i*4+j=p
 ·rw[if_pos h,if_pos (show i*4+j<(jR m n i k j).length by rw[fk];omega)]
  have e1:p/4=i:=ae
  have e2:p%4=j:=ae
  rw[e1,e2,if_neg (Nat.lt_irrefl _),if_pos rfl,if_pos (by omega),Js]
 ·rw[if_neg h,jC _ _ _ _ _ _ hp]
  by_cases h1:p/4=i
  ·by_cases h2:p%4<j
   ·rw[if_pos (by omega:p%4<j+1),if_pos h2]
   ·rw[if_neg (by omega: ¬p%4<j+1),if_neg h2]
  ·rw[if_neg h1,if_neg h1]
theorem Jt(m:List Int)(q:Nat):kW m (q+1)=kW m q++(if m.getD q 0≠0 then [⟨(q/4:Nat),(q%4:Nat),m.getD q 0==2⟩]else []):=by
 unfold kW
 rw[List.range_succ,List.filterMap_append]
 congr 1
 by_cases h:m.getD q 0≠0
 ·rw[if_pos h];simp only[List.filterMap_cons,if_pos h,List.filterMap_nil]
 ·rw[if_neg h];simp only[List.filterMap_cons,if_neg h,List.filterMap_nil]
theorem EF(m:List Int)(q:Nat):(kW m q).length<=q:=by
 unfold kW
 have:=List.length_filterMap_le (fun p=>if m.getD p 0≠0 then some (⟨(p/4:Nat),(p%4:Nat),m.getD p 0==2⟩:cB)else none) (List.range q)
 simpa using this
theorem wT:∀ (l:List cB) (last:Int),(∀a,l.head?=some a->last<a.f*4+a.t)->(dz l=true↔kV last l)
 |[],_,_=>by simp[dz,kV]
 |[a],last,h=>by
  have h1:=h a rfl
  simp only[dz,kV,cB.GD,Bool.and_eq_true,decide_eq_true_eq,and_true]
  omega
 |a::b::l,last,h=>by
  have h1:=h a rfl
  unfold dz kV
  by_cases h2:a.f*4+a.t<b.f*4+b.t
  ·have ih:=wT (b::l) (a.f*4+a.t) (fun x hx=>by simp at hx;subst hx;exact h2)
   simp only[Bool.and_eq_true,decide_eq_true_eq,Bool.not_eq_true',Bool.or_eq_false_iff,decide_eq_false_iff_not,Bool.and_eq_false_iff,beq_eq_false_iff_ne]
   rw[ih]
   unfold cB.GD
   constructor
   ·rintro⟨⟨⟨g1,g2⟩,g3⟩,g4⟩;exact⟨ae,h1,g4⟩
   ·rintro⟨g1,g2,g3⟩
    have g4:=g3.1
    unfold cB.GD at g4
    refine⟨⟨⟨ae,ae⟩,ae, ?_⟩,g3⟩
    by_cases g5:b.f=a.f
    ·exact .inr ae
    ·exact .inl g5
  ·constructor
   ·intro h3
    exfalso
    simp only[Bool.and_eq_true,decide_eq_true_eq,Bool.not_eq_true',Bool.or_eq_false_iff,decide_eq_false_iff_not,Bool.and_eq_false_iff,beq_eq_false_iff_ne]at h3
    obtain⟨⟨⟨g1,g2⟩,g3,g4⟩,g5⟩:=h3
    have g6:0<=b.t/\b.t<=3:=by
     cases l with
     |nil=>simp only[dz,Bool.and_eq_true,decide_eq_true_eq]at g5;exact g5.2
     |cons c l=>simp only[dz,Bool.and_eq_true,decide_eq_true_eq]at g5;exact g5.1.1.2
    rcases g4 with g4|g4<;>omega
   ·rintro⟨_,_,_,g,_⟩;omega
theorem nr(l:List cB):dz l=(iw l (-1) sS).isSome:=by
 rw[Bool.eq_iff_iff,mO]
 cases l with
 |nil=>simp[dz,kV]
 |cons a l=>
  by_cases h:(-1:Int)<a.f*4+a.t
  ·exact wT (a::l) (-1) (fun x hx=>by simp at hx;subst hx;exact h)
  ·constructor
   ·intro h3
    exfalso
    have:0<=a.f/\0<=a.t:=by
     cases l with
     |nil=>simp only[dz,Bool.and_eq_true,decide_eq_true_eq]at h3;omega
     |cons c l=>simp only[dz,Bool.and_eq_true,decide_eq_true_eq]at h3;omega
    omega
   ·rintro⟨_,g,_⟩;omega
end Go.Proofs.YtnkamdiiakdkgaaGreat
