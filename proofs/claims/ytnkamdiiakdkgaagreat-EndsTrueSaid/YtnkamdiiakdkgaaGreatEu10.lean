/-
  A PART OF THE PROOF. Conditions: none.
-/
import Derived.Test.YtnkamdiiakdkgaaGreatEu9
set_option linter.unusedSimpArgs false
set_option linter.unusedVariables false
namespace Go.Proofs.YtnkamdiiakdkgaaGreat
section
abbrev Fix(α:Type){β:Type}(_:β):Type:=α
def jI(K:V->List (Nat×ab)->Prop)(x:Fix (Option ff) K):Prop:=match x with|some (v,Δ,_)=>K v Δ|none=>False
@[go_sem] theorem RL {v:V} {Δ:List (Nat×ab)} {rd:List Nat} {K}:jI K (some (v,Δ,rd))=K v Δ:=propext Iff.rfl
@[go_sem] theorem RM {K}:jI K none=False:=propext Iff.rfl
def V.xS (c:Bool)(v:V):V:=if c=true then v else .bS []
@[go_sem] theorem XO (b:Bool):(!!b)=b:=aI
attribute [go_sem] true_or or_true false_or ne_eq not_false_eq_true decide_true decide_false Bool.not_true Bool.not_false Bool.and_true Bool.true_and Bool.and_false Bool.false_and Bool.or_true Bool.true_or Bool.or_false Bool.false_or beq_self_eq_true Bool.true_eq_false Bool.false_eq_true not_true_eq_false and_true true_and and_false false_and eq_self
@[go_sem] theorem V.XP (v:V):V.xS true v=v:=rfl
@[go_sem] theorem V.UN (v:V):V.xS false v= .bS []:=rfl
def ly(c:Bool)(p:Prop):Prop:=c=true->p
@[congr] theorem OW {c c':Bool} {p p':Prop} (h:c=c') (h2:c'=true->p=p'):ly c p=ly c' p':=by
  subst h;cases c
  ·simp[ly]
  ·simp[ly,h2 rfl]
@[go_sem] theorem RN (p:Prop):ly true p=p:=by simp[ly]
@[go_sem] theorem OX (p:Prop):ly false p=True:=by simp[ly]
@[go_sem] theorem RP (a:Bool):ly a True=True:=by simp[ly]
def lz(v:V)(want:Bool):Option Bool:=
 match v with
 | .d (.bool b)=>some (b==want)
 | .bS []=>some false
 |_=>none
@[go_sem] theorem RQ (b:Bool):lz (.d (.bool b)) true=some b:=by simp[lz]
@[go_sem] theorem OY (b:Bool):lz (.d (.bool b)) false=some (!b):=by simp[lz]
@[go_sem] theorem XQ (want:Bool):lz (.bS []) want=some false:=rfl
@[go_sem] theorem UO (c b want:Bool):lz (V.xS c (.d (.bool b))) want=some (c&&(b==want)):=by cases c<;>simp[lz,V.xS]
@[go_sem] theorem RR (c b e want:Bool):lz (V.xS c (V.xS e (.d (.bool b)))) want=some (c&&e&&(b==want)):=by cases c<;>cases e<;>simp[lz,V.xS]
def jU(c:Bool)(x:Option ff):Option ff:=
 if c=true then(match x with|some (v,[],_)=>some (v,[],[])|_=>none)else some (.bS [],[],[])
@[congr] theorem Mb {c c':Bool} {x x':Option ff} (h:c=c') (h2:c'=true->x=x'):jU c x=jU c' x':=by
  subst h;cases c
  ·rfl
  ·simp[jU,h2 rfl]
def UP(v:V)(rd:List Nat):Option ff:=some (v,[],rd)
@[go_sem] theorem abG (v:V) (rd:List Nat):(some (v,[],rd):Option ff)=UP v rd:=by unfold UP;exact Eq.trans rfl rfl
@[go_sem] theorem RS (c:Bool) (v:V) (rd:List Nat):jU c (UP v rd)=UP (V.xS c v) []:=by cases c<;>rfl
@[go_sem] theorem UQ {v:V} {rd:List Nat} {K}:jI K (UP v rd)=K v []:=propext Iff.rfl
@[go_sem] theorem OZ (c:Bool) (v:V) (rd:List Nat):jU c (some (v,[],rd))=some (V.xS c v,[],[]):=by cases c<;>rfl
@[go_sem] theorem Mc (x:Option ff):jU false x=some (.bS [],[],[]):=rfl
@[go_sem] theorem XR (b x:Bool):oZ (.d (.bool b)) (V.xS b (.d (.bool x))) (.d (.bool false))=some (.d (.bool (b&&x))):=yZ
@[go_sem] theorem aaR (b x:Bool):oZ (.d (.bool b)) (.d (.bool true)) (V.xS (!b) (.d (.bool x)))=some (.d (.bool (b||x))):=yZ
@[go_sem] theorem XS (b x:Bool):oZ (.d (.bool (!b))) (.d (.bool true)) (V.xS b (.d (.bool x)))=some (.d (.bool (!b||x))):=yZ
@[go_sem] theorem UR (x y:V):oZ (.d (.bool true)) x y=some x:=rfl
@[go_sem] theorem RT (x y:V):oZ (.d (.bool false)) x y=some y:=rfl
@[reducible] def jV:Op->Bool
  | .move _| .assign _| .pick .. | .load .. | .binOp .. | .unOp .. | .nilCheck _| .convert .. | .makeInterface .. | .makeFunc .. | .fieldAddr .. | .indexAddr .. | .extract .. | .build .. | .index .. | .field .. | .lookup .. =>true
  | .call c=>match c.callee with
    | .builtin .len=>true
    | .builtin .min=>true
    | .builtin .max=>true
    |_=>false
  |_=>false
def Ah(P:Program)(f:V)(args:List V)(o:Nat->ab)(rs:List D):Prop:=
 match f with
 | .func (.func g) first cap=>match bT o (first++args++cap)with
   |some ds=>aW P g ds (.ret rs)/\D.ja rs=true
   |none=>False
 |_=>False
def D0(P:Program)(f:V)(args:List V)(o:Nat->ab)(K:V->Prop)(c:Fix Bool (f,args,o,K)):Prop:=
 ∃rs,ly c (Ah P f args o rs)/\K (V.xS c (iE rs))
def Ai(P:Program)(g:FuncId)(nx:Nat)(K X:V->(Nat->ab)->Nat->Prop)(args:Fix (List V) (K,X))(o:Fix (Nat->ab) (K,X)):Prop:=rh P g args o nx K X
def tv(P:Program)(g:FuncId)(o:Nat->ab)(nx:Nat)(K X:V->(Nat->ab)->Nat->Prop)(ds:Fix (List D) (o,nx,K,X))(all:Fix (List V) (o,nx,K,X)):Prop:=
 tf P g ds o (put o (cc o (V.bg all))) (put o (qa o (V.bg all))) (fun v o'=>K v o' (nx+1)) (fun v o'=>X v o' (nx+1))\/rh P g all o nx K X
def mj(P:Program)(g:FuncId)(K X:V->(Nat->ab)->Nat->Prop)(s:S)(all:List V)(ds:Fix (Option (List D)) (K,X,s,all)):Prop:=
 match ds with
 |some ds=>tv P g s.o s.nx K X ds all
 |none=>Ai P g s.nx K X all s.o
@[go_sem] theorem O0 {P:Program} {s:S} {ds:List D} {g:FuncId} {all:List V} {K X}:
 mj P g K X s all (some ds)=tv P g s.o s.nx K X ds all:=propext Iff.rfl
def wc(P:Program)(id:Nat)(K X:V->(Nat->ab)->Nat->Prop)(s:S)(args:Fix (List V) (K,X,s)):Prop:=dq P id args s.o s.nx K X
@[go_sem] theorem O1 {P:Program} {s:S} {g:FuncId} {all:List V} {K X}:mj P g K X s all none=Ai P g s.nx K X all s.o:=propext Iff.rfl
def rn(P:Program)(K X:V->(Nat->ab)->Nat->Prop)(s:S)(f:Fix V (K,X,s))(args:Fix (List V) (K,X,s)):Prop:=
 match f with
 | .func (.func g) first cap=>mj P g K X s (first++args++cap) (bT s.o (first++args++cap))
 | .iD id=>wc P id K X s args
 |_=>False
@[go_sem] theorem US {P:Program} {s:S} {id:Nat} {args:List V} {K X}:rn P K X s (.iD id) args=wc P id K X s args:=propext Iff.rfl
@[go_sem] theorem RU {P:Program} {s:S} {g:FuncId} {first cap args:List V} {K X}:rn P K X s (.func (.func g) first cap) args=mj P g K X s (first++args++cap) (bT s.o (first++args++cap)):=propext Iff.rfl
def IG(P:Program)(g:FuncId)(o:Nat->ab)(nx:Nat)(K X:V->(Nat->ab)->Nat->Prop)(ds:Fix (List D) (o,nx,K,X))(all:Fix (List V) (o,nx,K,X)):Prop:=
 tf P g ds o (put o (cc o (V.bg all))) (put o (qa o (V.bg all))) (fun v o'=>K v o' (nx+1)) (fun v o'=>X v o' (nx+1))
def Aj(P:Program)(g:FuncId)(K X:V->(Nat->ab)->Nat->Prop)(s:S)(all:List V)(ds:Fix (Option (List D)) (K,X,s,all)):Prop:=
 match ds with
 |some ds=>IG P g s.o s.nx K X ds all
 |none=>False
@[go_sem] theorem RV {P:Program} {s:S} {ds:List D} {g:FuncId} {all:List V} {K X}:Aj P g K X s all (some ds)=IG P g s.o s.nx K X ds all:=propext Iff.rfl
def II(P:Program)(K X:V->(Nat->ab)->Nat->Prop)(s:S)(args:Fix (List V) (K,X,s))(r:Fix (Option (FuncId×V)) (K,X,s)):Prop:=
 match r with
 |some (g,y)=>Aj P g K X s (y::args) (bT s.o (y::args))
 |none=>False
@[go_sem] theorem UT {P:Program} {s:S} {g:FuncId} {y:V} {args:List V} {K X}:II P K X s args (some (g,y))=Aj P g K X s (y::args) (bT s.o (y::args)):=propext Iff.rfl
def FZ(K:V->Prop)(v:Fix V K):Prop:=
 match v with
 | .d (.iface t y)=>K (.d (.iface t y))
 | .iface t y=>K (.iface t y)
 |_=>False
@[go_sem] theorem abH {t:TypeId} {y:D} {K}:FZ K (.d (.iface t y))=K (.d (.iface t y)):=propext Iff.rfl
@[go_sem] theorem abI {t:TypeId} {y:V} {K}:FZ K (.iface t y)=K (.iface t y):=propext Iff.rfl
def D1(K:V->List (Nat×ab)->Prop)(id:Nat)(l:Fix (List (D×D)) (K,id)):Prop:=Dz id l fun v Δ _=>K v Δ
def IJ(K:V->List (Nat×ab)->Prop)(str:Bool)(UU:Fix (Option ff) (K,str))(left:Fix (Option (Nat×List (D×D))) (K,str)):Prop:=
 match left with
 |some (id,l)=>str=false/\D1 K id l
 |none=>jI K UU
@[go_sem] theorem UW {K} {UU:Option ff} {id:Nat} {l:List (D×D)}:IJ K false UU (some (id,l))=D1 K id l:=propext ⟨fun h=>h.2,fun h=>⟨rfl,h⟩⟩
@[go_sem] theorem UX {K} {str:Bool} {UU:Option ff}:IJ K str UU none=jI K UU:=propext Iff.rfl
def Ak(P:Program)(X:V->S->Prop)(K:S->Prop)(o:bL)(s:Fix S (X,K,o)):Prop:=
 match o.op with
 | .next x str=>IJ (fun v Δ=>K ⟨aY s.env o.dst v,put s.o Δ,s.nx+1⟩) str (nz s.o (s.ev x) str) (nA s.o (s.ev x))
 | .call c=>match c.callee with
   | .value f=>rn P (fun v o' nx'=>K ⟨aY s.env o.dst v,o',nx'⟩) (fun v o' nx'=>X v ⟨s.env,o',nx'⟩) s (s.ev f) (c.args.toList.map s.ev)
   | .invoke r m=>II P (fun v o' nx'=>K ⟨aY s.env o.dst v,o',nx'⟩) (fun v o' nx'=>X v ⟨s.env,o',nx'⟩) s (c.args.toList.map s.ev) (s6 P m (s.ev r))
   |_=>jI (fun v Δ=>K ⟨aY s.env o.dst v,put s.o Δ,s.nx+1⟩) (fK P s s.nx o.op)
 | .panic x=>FZ (fun v=>X v s) (s.ev x)
 |op=>jI (fun v Δ=>K ⟨aY s.env o.dst v,put s.o Δ,s.nx+1⟩) (fK P s s.nx op)
@[reducible] def dY:Op->Option (Operand×List Operand)
  | .call c=>match c.callee with
    | .value f=>some (f,c.args.toList)
    |_=>none
  |_=>none
def gY(A B:Prop)(t:Fix Bool (A,B)):Prop:=pb t A B
@[go_sem] theorem RW (A B:Prop):gY A B true=A:=tg A B
@[go_sem] theorem O2 (A B:Prop):gY A B false=B:=ri A B
def CG(P:Program)(X:V->S->Prop)(K:S->Prop)(o:bL)(s:S)(f:Operand)(args:List Operand)(c:Fix Bool (X,K,o,s,f,args)):Prop:=
 D0 P (s.ev f) (args.map s.ev) s.o (fun v=>K ⟨aY s.env o.dst v,s.o,s.nx+1⟩) c\/gY (Ak P X K o s) (K ⟨aY s.env o.dst (.bS []),s.o,s.nx+1⟩) c
def xT(P:Program)(X:V->S->Prop)(K:S->Prop)(o:bL)(s:S)(c:Fix (Option Bool) (X,K,o,s)):Prop:=
 match c with
 |none=>False
 |some c=>match dY o.op with
  |some (f,args)=>CG P X K o s f args c
  |none=>if jV o.op=true then jI (fun v _=>K ⟨aY s.env o.dst v,s.o,s.nx+1⟩) (jU c (fK P s s.nx o.op))
   else gY (Ak P X K o s) (K ⟨aY s.env o.dst (.bS []),s.o,s.nx+1⟩) c
def pc(P:Program)(X:V->S->Prop)(K:S->Prop)(l:List bL)(s:Fix S (X,K,l)):Prop:=
 match l with
 |[]=>K s
 |o::l=>match o.gd with
  |none=>Ak P X (pc P X K l) o s
  |some (d,want)=>xT P X (pc P X K l) o s (lz (s.env d) want)
def jd(want:Bool)(A B:Prop)(v:Fix V (A,B)):Prop:=
 match v with
 | .d (.bool b)=>pb (b==want) A B
 | .bS []=>B
 |_=>False
@[go_sem] theorem O3 (b:Bool) (A B:Prop):jd true A B (.d (.bool b))=gY A B b:=by simp[jd,gY]
@[go_sem] theorem Md (b:Bool) (A B:Prop):jd false A B (.d (.bool b))=gY A B (!b):=by simp[jd,gY]
@[go_sem] theorem UY (want:Bool) (A B:Prop):jd want A B (.bS [])=B:=propext Iff.rfl
@[go_sem] theorem RX (c b want:Bool) (A B:Prop):jd want A B (V.xS c (.d (.bool b)))=gY A B (c&&(b==want)):=by cases c<;>simp[jd,V.xS,gY]
abbrev KD:=V->List (Nat×ab)->List Nat->Prop
abbrev XD:=V->List Nat->List Nat->Prop
def IK(P:Program)(g:FuncId)(K:KD)(X:XD)(o:Nat->ab)(rd:List Nat)(ds:Fix (List D) (K,X,o,rd))(all:Fix (List V) (K,X,o,rd)):Prop:=
 rm P g ds (fun v=>K v (cc o (V.bg all)) rd) (fun v=>K v [] rd) (fun v=>X v [] rd)
def qs(P:Program)(g:FuncId)(K:KD)(X:XD)(o:Nat->ab)(nx fr:Nat)(all:Fix (List V) (K,X,o,nx)):Prop:=ir P g all o nx fr K X
def qt(P:Program)(g:FuncId)(K:KD)(X:XD)(o:Nat->ab)(nx fr:Nat)(rd:List Nat)(ds:Fix (List D) (K,X,o,nx,rd))(all:Fix (List V) (K,X,o,nx,rd)):Prop:=IK P g K X o rd ds all\/qs P g K X o nx fr all
def qu(P:Program)(K:KD)(X:XD)(o:Nat->ab)(nx fr:Nat)(rd:List Nat)(g:FuncId)(all:List V)(ds:Fix (Option (List D)) (K,X,o,nx,rd,all)):Prop:=
 match ds with
 |some ds=>qt P g K X o nx fr rd ds all
 |none=>qs P g K X o nx fr all
@[go_sem] theorem O4 {P:Program} {o:Nat->ab} {nx fr:Nat} {rd:List Nat} {ds:List D} {g:FuncId} {all:List V} {K X}:qu P K X o nx fr rd g all (some ds)=qt P g K X o nx fr rd ds all:=propext Iff.rfl
@[go_sem] theorem O5 {P:Program} {o:Nat->ab} {nx fr:Nat} {rd:List Nat} {g:FuncId} {all:List V} {K X}:qu P K X o nx fr rd g all none=qs P g K X o nx fr all:=propext Iff.rfl
def Am(P:Program)(K:KD)(X:XD)(o:Nat->ab)(nx fr:Nat)(rd:Fix (List Nat) (K,X,o,nx))(f:Fix V (K,X,o,nx))(args:Fix (List V) (K,X,o,nx)):Prop:=
 match f with
 | .func (.func g) first cap=>qu P K X o nx fr rd g (first++args++cap) (bT o (first++args++cap))
 |_=>False
@[go_sem] theorem RY {P:Program} {o:Nat->ab} {nx fr:Nat} {rd:List Nat} {g:FuncId} {first cap args:List V} {K X}:Am P K X o nx fr rd (.func (.func g) first cap) args=qu P K X o nx fr rd g (first++args++cap) (bT o (first++args++cap)):=propext Iff.rfl
def tw(K:KD)(rd:List Nat)(x:Fix (Option ff) (K,rd)):Prop:=match x with|some (v,Δ,_)=>K v Δ rd|none=>False
@[go_sem] theorem RZ {v:V} {Δ:List (Nat×ab)} {r rd:List Nat} {K}:tw K rd (some (v,Δ,r))=K v Δ rd:=propext Iff.rfl
@[go_sem] theorem UZ {v:V} {r rd:List Nat} {K}:tw K rd (UP v r)=K v [] rd:=propext Iff.rfl
def Lc(P:Program)(K:KD)(X:XD)(fr:Nat)(o:bL)(s:Fix S (K,X,o)):Prop:=
 match dY o.op with
 |some (f,args)=>Am P K X s.o s.nx fr (nr s o.op) (s.ev f) (args.map s.ev)
 |none=>tw K (nr s o.op) (fK P s fr o.op)
def F0(P:Program)(KB:List Nat->Fp->Prop)(pr:List (List Nat))(l:List bL)(fr:Nat)(fp:Fix Fp (KB,l))(bad ws:Fix (List Nat) (KB,l))(s:Fix S (KB,l)):Prop:=gG P KB pr l fr s fp bad ws
def nj(P:Program)(K:S->Fp->Prop)(KP:V->List Nat->Fp->Prop)(pr:List (List Nat))(l:List bL)(fr:Nat)(s:Fix S (K,KP,l))(fp:Fix Fp (K,KP,l)):Prop:=
 match l with
 |[]=>K s fp
 |o::l=>match o.gd with
  |none=>Lc P (fun v Δ rd=>nj P K KP pr l (fr+1) ⟨aY s.env o.dst v,put s.o Δ,s.nx⟩ (fp++[(rd,Δ.map (·.1))]))
   (fun v ws rd=>F0 P (KP v) pr l (fr+1) (fp++[(rd,[])]) [fp.length] (ws++fp.flatMap (·.2)) ⟨aY s.env o.dst .aa,s.o,s.nx⟩) fr o s
  |some (d,want)=>jd want (Lc P (fun v Δ rd=>nj P K KP pr l (fr+1) ⟨aY s.env o.dst v,put s.o Δ,s.nx⟩ (fp++[(rd,Δ.map (·.1))]))
   (fun v ws rd=>F0 P (KP v) pr l (fr+1) (fp++[(rd,[])]) [fp.length] (ws++fp.flatMap (·.2)) ⟨aY s.env o.dst .aa,s.o,s.nx⟩) fr o s)
   (nj P K KP pr l (fr+1) ⟨aY s.env o.dst (.bS []),s.o,s.nx⟩ (fp++[([],[])])) (s.env d)
def Me(pr:List (List Nat))(nx:Nat)(Q:eS->S->Prop)(s:Fix S Q)(fp:Fix Fp Q):Prop:=CE pr nx Q s fp
def qv(l:List bL)(k:Fix Nat l):Option Nat:=match l with
 |[]=>none
 |o::l=>match o.gd,dY o.op with
  |none,some (.tmp _,_)=>some k
  |_,_=>qv l (k+1)
def D2(P:Program)(pr:List (List Nat))(l:List bL)(nx:Nat)(Q:eS->S->Prop)(s:Fix S (P,pr,l,nx,Q))(fp:Fix Fp (P,pr,l,nx,Q)):Prop:=dR pr fp=true/\pc P (fun v s=>Q (.bF v) s) (Q .normal) l ⟨s.env,s.o,nx⟩
def IL(P:Program)(l:List bL)(pr:List (List Nat))(Q:eS->S->Prop)(s:S)(sp:Fix (Option Nat) (P,l,pr,Q,s)):Prop:=match sp with
 |none=>nj P (Me pr (s.nx+l.length) Q) (Ae pr l s Q) pr l s.nx s []
 |some m=>m<=l.length/\xQ pr m=true/\nj P (D2 P pr (l.drop m) (s.nx+m) Q) (fun _ _ _=>False) pr (l.take m) s.nx s []
def we(A B:Prop)(v:Fix V (A,B)):Prop:=
 match v with
 | .d (.bool t)=>gY A B t
 | .eN=>A/\B
 |_=>False
@[go_sem] theorem U0 (A B:Prop):we A B .eN=(A/\B):=propext Iff.rfl
@[go_sem] theorem R0 (t:Bool) (A B:Prop):we A B (.d (.bool t))=gY A B t:=propext Iff.rfl
def D3{ι:Type}(b:Nat)(st:ι->S)(bD:ι->Prop)(nY:ι->Nat)(i:ι)(s:S):Prop:=∃j,bD j/\nY j<nY i/\bC b s (st j)
def tx(next:S->Prop)(Q:eS->S->Prop)(e:eS)(s:S):Prop:=match e with| .normal=>next s|e=>Q e s
section
variable {N:S->Prop}{Q:eS->S->Prop}{s:S}
@[go_sem ↓] theorem Mf:tx N Q .normal s=N s:=propext Iff.rfl
@[go_sem ↓] theorem R1 {id:Nat}:tx N Q (.exit id) s=Q (.exit id) s:=propext Iff.rfl
@[go_sem ↓] theorem U1:tx N Q .ret s=Q .ret s:=propext Iff.rfl
@[go_sem ↓] theorem U2 {v:V}:tx N Q (.bF v) s=Q (.bF v) s:=propext Iff.rfl
end
def An(b:Nat)(body:(eS->S->Prop)->S->Prop)(Q:eS->S->Prop)(s:Fix S (body,Q)):Prop:=
 ∃ (ι:Type) (st:ι->S) (bD:ι->Prop) (nY:ι->Nat) (i0:ι),bD i0/\bC b s (st i0)/\∀i,bD i->body (tx (D3 b st bD nY i) Q) (st i)
theorem aE{ι:Type}{b:Nat}{body:(eS->S->Prop)->S->Prop}{Q:eS->S->Prop}{s:S}(st:ι->S)(bD:ι->Prop)(nY:ι->Nat)(i0:ι)(h0:bD i0)(hle:bC b s (st i0))
 (h:∀i,bD i->body (tx (D3 b st bD nY i) Q) (st i)):An b body Q s:=⟨ι,st,bD,nY,i0,h0,hle,h⟩
def xU(P:Program)(n b:Nat)(rd:Bool)(gop:Operand)(ps:List Nat)(x y:IC)(Q:eS->S->Prop)(s:Fix S (x,y,Q))(g:Fix V (x,y,Q)):Prop:=rd=false/\(zQ P n g ps x y Q s\/∃s',bC b s s'/\zQ P n (s'.ev gop) ps x y Q s')
def kL(P:Program)(n b:Nat)(rd:Bool)(c:IC)(Q:eS->S->Prop)(s:Fix S (c,Q)):Prop:=
 match c with
 | .skip=>Q .normal s
 | .ad l=>pc P (fun v s=>Q (.bF v) s) (Q .normal) l s
 | .cT l pr=>IL P l pr Q s (qv l 0)
 | .seq x y=>kL P n b rd x (oT (fun s=>kL P n b rd y Q s) Q) s
 | .cond c x y=>we (kL P n b rd x Q s) (kL P n b rd y Q s) (s.ev c)
 | .block id x=>kL P n b rd x (eO id Q) s
 | .loop x=>An b (fun Q s=>kL P n b rd x Q s) Q s
 | .exit id=>Q (.exit id) s
 | .ret=>Q .ret s
 | .Fh g ps x y=>xU P n b rd g ps x y Q s (s.ev g)
 | .bad=>False
section
variable {P:Program}{n b:Nat}{rd:Bool}
theorem Ao{s:S}{f:V}{args:List V}{K K':V->(Nat->ab)->Nat->Prop}{X X':V->(Nat->ab)->Nat->Prop}(hK:∀v o n,K v o n->K' v o n)(hX:∀v o n,X v o n->X' v o n)(h:rn P K X s f args):
 match(generalizing:=false) f with
  | .func (.func g) first cap=>match bT s.o (first++args++cap)with
    |some ds=>tf P g ds s.o (put s.o (cc s.o (V.bg (first++args++cap)))) (put s.o (qa s.o (V.bg (first++args++cap)))) (fun v o'=>K' v o' (s.nx+1)) (fun v o'=>X' v o' (s.nx+1))\/rh P g (first++args++cap) s.o s.nx K' X'
    |none=>rh P g (first++args++cap) s.o s.nx K' X'
  | .iD id=>dq P id args s.o s.nx K' X'
  |_=>False:=by
 unfold rn mj wc at h
 split at h
 ·rename_i g first cap
  cases eD:bT s.o (first++args++cap)with
  |some ds=>
   simp only[eD]at h|-
   rcases h with⟨out,h1,h2|⟨h3,h2⟩|⟨h3,h2⟩⟩|h
   ·exact .inl ⟨out,h1, .inl (by cases out<;>first|exact hK _ _ _ h2|exact hX _ _ _ h2)⟩
   ·exact .inl ⟨out,h1, .inr (.inl ⟨h3,by cases out<;>first|exact hK _ _ _ h2|exact hX _ _ _ h2⟩)⟩
   ·exact .inl ⟨out,h1, .inr (.inr ⟨h3,by cases out<;>first|exact hK _ _ _ h2|exact hX _ _ _ h2⟩)⟩
   ·exact .inr (nu.mono hK hX h)
  |none=>
   simp only[eD]at h|-
   exact nu.mono hK hX h
 ·exact dq.mono hK hX h
 ·exact h.elim
theorem wg{x:Option ff}{K:V->List (Nat×ab)->Prop}(h:jI K x):∃v Δ rd,x=some (v,Δ,rd)/\K v Δ:=by
 unfold jI at h;split at h
 ·exact⟨_,_,_,rfl,h⟩
 ·exact h.elim
theorem xV{s:S}{o:bL}{X X':V->S->Prop}{K K':S->Prop}(hK:∀s,K s->K' s)(hX:∀v s,X v s->X' v s)(h:Ak P X K o s):G3 P s o X' K':=by
 unfold Ak at h
 unfold G3
 have hs:∀ {op:Op},(jI (fun v Δ=>K ⟨aY s.env o.dst v,put s.o Δ,s.nx+1⟩) (fK P s s.nx op))->(match fK P s s.nx op with|some (v,Δ,_)=>K' ⟨aY s.env o.dst v,put s.o Δ,s.nx+1⟩|none=>False):=by
  intro op h
  obtain⟨v,Δ,rd,he,h⟩:=wg h
  simp only[he];exact hK _ h
 split at h
 ·rename_i x str hx
  rw[hx]
  unfold IJ at h
  simp only
  split at h
  ·rename_i id l hl
   simp only[hl]
   exact⟨h.1,fun e=>hK _ (h.2.1 e),fun i k x e=>hK _ (h.2.2 i k x e)⟩
  ·rename_i hl
   simp only[hl]
   exact hs (op:= .next x str) h
 ·rename_i c hc
  simp only[hc]
  split at h
  ·rename_i f hf
   simp only[hf]
   exact Ao (K:=fun v o' nx'=>K ⟨aY s.env o.dst v,o',nx'⟩) (X:=fun v o' nx'=>X v ⟨s.env,o',nx'⟩) (fun v o n h=>hK _ h) (fun v o n h=>hX _ _ h) h
  ·rename_i r m hf
   simp only[hf]
   unfold II at h
   split at h
   ·rename_i g y hr
    simp only[hr]
    unfold Aj at h
    split at h
    ·rename_i ds eD
     obtain⟨out,h1,h2⟩:=h
     refine .inl ⟨ds,eD,out,h1, ?_⟩
     rcases h2 with h2|⟨h3,h2⟩|⟨h3,h2⟩
     ·exact .inl (by cases out<;>first|exact hK _ h2|exact hX _ _ h2)
     ·exact .inr (.inl ⟨h3,by cases out<;>first|exact hK _ h2|exact hX _ _ h2⟩)
     ·exact .inr (.inr ⟨h3,by cases out<;>first|exact hK _ h2|exact hX _ _ h2⟩)
    ·exact h.elim
   ·exact h.elim
  ·rename_i hf hi
   rw[hc]at h
   obtain⟨Ig,args,ts⟩:=c
   cases Ig with
   |value f=>exact absurd rfl (hf f)
   |invoke r m=>exact absurd rfl (hi r m)
   |_=>exact hs h
 ·rename_i x hx
  simp only[hx]
  unfold FZ at h
  split at h
  ·rename_i hv;simp only[hv];exact hX _ _ h
  ·rename_i hv;simp only[hv];exact hX _ _ h
  ·exact h.elim
 ·rename_i uM hc hp
  have h2:=hs h
  cases hh:o.op<;>first
   |exact absurd hh (hc _)
   |exact absurd hh (hp _)
   |exact absurd hh (uM _ _)
   |(rw[hh]at h2;exact h2)
theorem IM{s:S}{o:bL}{X:V->S->Prop}{K:S->Prop}(hp:jV o.op=true){v:V}{Δ:List (Nat×ab)}{rd:List Nat}(he:fK P s s.nx o.op=some (v,Δ,rd))(h:K ⟨aY s.env o.dst v,put s.o Δ,s.nx+1⟩):G3 P s o X K:=by
 unfold G3
 split
 ·rename_i c hc
  split
  ·rename_i f hf;rw[hc]at hp;simp[jV,hf]at hp
  ·rename_i r m hf;rw[hc]at hp;simp[jV,hf]at hp
  ·rw[he];exact h
 ·rename_i x hx;rw[hx]at hp;simp[jV]at hp
 ·rename_i x str hx;rw[hx]at hp;simp[jV]at hp
 ·rw[he];exact h
theorem qw{X X':V->S->Prop}{K K':S->Prop}(hK:∀s,K s->K' s)(hX:∀v s,X v s->X' v s):∀ (l:List bL) (s:S),pc P X K l s->nW P X' K' l s
 |[],s,h=>hK _ h
 |o::l,s,h=>by
  have ih:=qw hK hX l
  unfold pc at h
  unfold nW
  cases hg:o.gd with
  |none=>
   simp only[hg]at h|-
   exact xV ih hX h
  |some p=>
   obtain⟨d,want⟩:=p
   simp only[hg]at h|-
   unfold xT at h
   split at h
   ·exact h.elim
   ·rename_i c hc
    have hgo:∀ {A B:Prop},(c=true->A)->(c=false->B)->(match s.env d with
     | .d (.bool b)=>if b=want then A else B
     | .bS []=>B
     |_=>False):=by
     intro A B hA hB
     generalize s.env d=v at hc
     unfold lz at hc
     split at hc
     ·rename_i b
      injection hc with hc
      split
      ·rename_i e;exact hA (by rw[<- hc];simp[e])
      ·rename_i e;exact hB (by rw[<- hc];simp[e])
     ·injection hc with hc
      exact hB hc.symm
     ·cases hc
    split at h
    ·rename_i f args G4
     rcases h with h|h
     case inr=>exact hgo (fun O6=>xV ih hX (h.1 O6)) (fun R2=>ih _ (h.2 R2))
     obtain⟨rs,h1,h2⟩:=h
     refine hgo (fun O6=> ?_) (fun R2=> ?_)
     ·unfold dY at G4
      split at G4
      ·rename_i c' FG
       split at G4
       ·rename_i f' lK
        injection G4 with G4;injection G4 with e1 e2;subst e1;subst e2
        have jq:=h1 O6
        unfold G3
        simp only[FG,lK]
        unfold Ah at jq
        split at jq
        ·rename_i g first cap uR
         simp only[uR]
         split at jq
         ·rename_i ds eD
          simp only[eD]
          refine .inl ⟨.ret rs,jq.1, .inr (.inl ⟨jq.2, ?_⟩)⟩
          refine ih _ ?_
          rw[O6]at h2
          exact h2
         ·exact jq.elim
        ·exact jq.elim
       ·cases G4
      ·cases G4
     ·refine ih _ ?_
      rw[R2]at h2
      exact h2
    ·split at h
     ·rename_i hp
      obtain⟨v,Δ,rd,he,h⟩:=wg h
      refine hgo (fun O6=> ?_) (fun R2=> ?_)
      ·rw[O6]at he
       simp only[jU,if_true]at he
       split at he
       ·rename_i v' se oj
        injection he with he;injection he with e1 e2;subst e1
        exact IM hp oj (ih _ h)
       ·cases he
      ·rw[R2]at he
       simp only[jU]at he
       injection he with he;injection he with e1 e2;subst e1
       exact ih _ h
     ·exact hgo (fun O6=>xV ih hX (h.1 O6)) (fun R2=>ih _ (h.2 R2))
theorem xW{op:Op}{f:Operand}{args:List Operand}(h:dY op=some (f,args)):∃c,op= .call c/\c.callee= .value f/\c.args.toList=args:=by
 unfold dY at h
 split at h
 ·rename_i c
  split at h
  ·rename_i f' lK
   injection h with h;injection h with e1 e2;subst e1;subst e2
   exact⟨c,rfl,lK,rfl⟩
  ·cases h
 ·cases h
theorem F1{x:Option ff}{rd:List Nat}{K:KD}(h:tw K rd x):∃v Δ r,x=some (v,Δ,r)/\K v Δ rd:=by
 unfold tw at h;split at h
 ·exact⟨_,_,_,rfl,h⟩
 ·exact h.elim
theorem ir.mono {P:Program}{g:FuncId}{args:List V}{o:Nat->ab}{nx fr:Nat}{K K':KD}{X X':XD}(hK:∀v Δ r,K v Δ r->K' v Δ r)(hX:∀v w r,X v w r->X' v w r)(h:ir P g args o nx fr K X):ir P g args o nx fr K' X':=by
 obtain⟨rd,Δ,h1,⟨rs,h2,h3⟩|⟨x,h2,h3⟩|⟨v,h2,h3⟩⟩:=h
 ·exact⟨rd,Δ,h1, .inl ⟨rs,h2,hK _ _ _ h3⟩⟩
 ·exact⟨rd,Δ,h1, .inr (.inl ⟨x,h2,hX _ _ _ h3⟩)⟩
 ·exact⟨rd,Δ,h1, .inr (.inr ⟨v,h2,hK _ _ _ h3⟩)⟩
theorem rm.mono {P:Program}{g:FuncId}{ds:List D}{Kf Kb KX Kf' Kb' KX':V->Prop}(h1:∀v,Kf v->Kf' v)(h2:∀v,Kb v->Kb' v)(h3:∀v,KX v->KX' v)(h:rm P g ds Kf Kb KX):rm P g ds Kf' Kb' KX':=by
 rcases h with⟨rs,a,b|⟨b,c⟩⟩|⟨x,a,b,c⟩|⟨v,a,b⟩
 ·exact .inl ⟨rs,a, .inl (h1 _ b)⟩
 ·exact .inl ⟨rs,a, .inr ⟨b,h2 _ c⟩⟩
 ·exact .inr (.inl ⟨x,a,b,h3 _ c⟩)
 ·exact .inr (.inr ⟨v,a,h1 _ b⟩)
theorem D4{s:S}{fr:Nat}{o:bL}{K K':KD}{X X':XD}(hK:∀v Δ r,K v Δ r->K' v Δ r)(hX:∀v w r,X v w r->X' v w r)(h:Lc P K X fr o s):yO P s fr o K' X':=by
 unfold Lc at h
 split at h
 ·rename_i f args G4
  obtain⟨c,h1,h2,h3⟩:=xW G4
  subst h3
  unfold yO
  simp only[h1,h2]
  unfold Am qu at h
  split at h
  ·rename_i g first cap hf
   simp only[hf]
   split at h
   ·rename_i ds eD
    simp only[eD]
    refine h.elim (fun h=> .inl ?_) (fun h=> .inr (ir.mono hK hX h))
    refine rm.mono (fun v h=> ?_) (fun v h=> ?_) (fun v h=> ?_) h<;>(rw[h1]at h)
    ·exact hK _ _ _ h
    ·exact hK _ _ _ h
    ·exact hX _ _ _ h
   ·rename_i eD
    simp only[eD]
    exact ir.mono hK hX h
  ·exact h.elim
 ·rename_i G4
  obtain⟨v,Δ,rd,he,h⟩:=F1 h
  unfold yO
  split
  ·rename_i c hc
   split
   ·rename_i f hf
    exact absurd G4 (by simp[dY,hc,hf])
   ·simp only[he];exact hK _ _ _ h
  ·simp only[he];exact hK _ _ _ h
theorem Ap{s:S}{fr:Nat}{o:bL}{K K':KD}{X X':XD}(hK:∀v Δ r,K v Δ r->K' v Δ r)(hX:∀v w r,X v w r->X' v w r)(h:yO P s fr o K X):yO P s fr o K' X':=by
 unfold yO at h|-
 split at h
 ·rename_i c hc
  rw[hc]at h|-
  split at h
  ·rename_i f hf
   (try simp only[hf])
   split at h
   ·rename_i uR
    (try simp only[uR])
    split at h
    ·exact h.elim (fun h=> .inl (rm.mono (fun v h=>hK _ _ _ h) (fun v h=>hK _ _ _ h) (fun v h=>hX _ _ _ h) h)) (fun h=> .inr (ir.mono hK hX h))
    ·exact ir.mono hK hX h
   ·exact h.elim
  ·rename_i hf
   split at h
   ·rename_i he
    (try simp only[he])
    exact hK _ _ _ h
   ·exact h.elim
 ·split at h
  ·rename_i he
   (try simp only[he]);exact hK _ _ _ h
  ·exact h.elim
theorem iL{KB KB':List Nat->Fp->Prop}{pr:List (List Nat)}(hK:∀l fp,KB l fp->KB' l fp):∀ (l:List bL) (fr:Nat) (s:S) (fp:Fp) (bad ws:List Nat),gG P KB pr l fr s fp bad ws->gG P KB' pr l fr s fp bad ws
 |[],_,_,_,_,_,h=>hK _ _ h
 |o::l,fr,s,fp,bad,ws,h=>by
  unfold gG at h|-
  split
  ·rename_i hb
   rw[if_pos hb]at h
   exact iL hK l _ _ _ _ _ h
  ·rename_i hb
   rw[if_neg hb]at h
   split at h
   ·exact Ap (fun v Δ r h=>iL hK l _ _ _ _ _ h) (fun _ _ _ h=>h) h
   ·split at h
    ·split at h
     ·rename_i e;simp only[e,if_true]
      exact Ap (fun v Δ r h=>iL hK l _ _ _ _ _ h) (fun _ _ _ h=>h) h
     ·rename_i e;simp only[e,if_false]
      exact iL hK l _ _ _ _ _ h
    ·exact iL hK l _ _ _ _ _ h
    ·exact h.elim
theorem iM{K K':S->Fp->Prop}{KP KP':V->List Nat->Fp->Prop}{pr:List (List Nat)}(hK:∀s fp,K s fp->K' s fp)(hP:∀v l fp,KP v l fp->KP' v l fp):∀ (l:List bL) (fr:Nat) (s:S) (fp:Fp),nj P K KP pr l fr s fp->jT P K' KP' pr l fr s fp
 |[],_,_,_,h=>hK _ _ h
 |o::l,fr,s,fp,h=>by
  have hB:∀v ws (rdl:List Nat),F0 P (KP v) pr l (fr+1) (fp++[(rdl,[])]) [fp.length] (ws++fp.flatMap (·.2)) ⟨aY s.env o.dst .aa,s.o,s.nx⟩->
   gG P (KP' v) pr l (fr+1) ⟨aY s.env o.dst .aa,s.o,s.nx⟩ (fp++[(rdl,[])]) [fp.length] (ws++fp.flatMap (·.2)):=fun v ws rdl h=>iL (fun a b h=>hP v a b h) l _ _ _ _ _ h
  unfold nj at h
  unfold jT
  split at h
  ·rename_i hg
   (try simp only[hg])
   exact D4 (fun v Δ r h=>iM hK hP l _ _ _ h) hB h
  ·rename_i d want hg
   (try simp only[hg])
   generalize s.env d=v at h
   unfold jd at h
   split at h
   ·rename_i bb
    by_cases e:bb=want
    ·subst e
     simp only[if_true]
     exact D4 (fun v Δ r h=>iM hK hP l _ _ _ h) hB (h.1 aI)
    ·simp only[if_neg e]
     exact iM hK hP l _ _ _ (h.2 (by simpa using e))
   ·exact iM hK hP l _ _ _ h
   ·exact h.elim
theorem eK:∀ (c:IC) (Q Q':eS->S->Prop) (s:S),(∀e s,Q e s->Q' e s)->kL P n b rd c Q s->sr P n b rd c Q' s
 | .skip,_,_,_,hQ,h=>hQ _ _ h
 | .ad l,_,_,_,hQ,h=>qw (fun s h=>hQ _ _ h) (fun v s h=>hQ _ _ h) l _ h
 | .cT l pr,_,_,_,hQ,h=>by
   unfold kL at h
   generalize qv l 0=sp at h
   cases sp with
   |none=>exact .inl (iM (fun s fp h=>⟨h.1,hQ _ _ h.2⟩) (fun v l fp h=>⟨h.1,hQ _ _ h.2⟩) l _ _ _ h)
   |some m=>exact .inr ⟨m,h.1,h.2.1,iM (fun s fp h=>⟨h.1,qw (fun s h=>hQ _ _ h) (fun v s h=>hQ _ _ h) _ _ h.2⟩) (fun v l fp h=>h.elim) _ _ _ _ h.2.2⟩
 | .seq x y,Q,Q',s,hQ,h=>eK x _ _ s (fun e s h=>by
  unfold oT at h|-
  cases e with
  |normal=>exact eK y _ _ s hQ h
  |_=>exact hQ _ _ h) h
 | .cond c x y,Q,Q',s,hQ,h=>by
   unfold kL we gY at h
   unfold sr
   split at h
   ·rename_i t ht
    simp only[ht]
    exact⟨fun e=>eK x _ _ s hQ (h.1 e),fun e=>eK y _ _ s hQ (h.2 e)⟩
   ·rename_i ht
    simp only[ht]
    exact⟨eK x _ _ s hQ h.1,eK y _ _ s hQ h.2⟩
   ·exact h.elim
 | .block id x,Q,Q',s,hQ,h=>eK x _ _ s (fun e s h=>by
  unfold eO at h|-
  cases e with
  |exit j=>
   simp only at h|-
   split
   ·rename_i e;rw[if_pos e]at h;exact hQ _ _ h
   ·rename_i e;rw[if_neg e]at h;exact hQ _ _ h
  |_=>exact hQ _ _ h) h
 | .loop x,Q,Q',s,hQ,h=>by
   obtain⟨ι,st,bD,nY,i0,h0,hle,h2⟩:=h
   refine⟨fun m s=>∃i,bD i/\nY i=m/\s=st i,⟨nY i0,st i0,hle,i0,h0,rfl,rfl⟩, ?_⟩
   rintro m s0 ⟨i,hg,rfl,rfl⟩
   refine eK x _ _ _ (fun e s h=> ?_) (h2 i hg)
   cases e with
   |normal=>
    obtain⟨j,k1,k2,k3⟩:=h
    exact⟨nY j,st j,k2,k3,j,k1,rfl,rfl⟩
   |_=>exact hQ _ _ h
 | .exit id,_,_,_,hQ,h=>hQ _ _ h
 | .ret,_,_,_,hQ,h=>hQ _ _ h
 | .Fh g ps x y,_,_,_,hQ,h=>⟨h.1,match h.2 with
   | .inl h=>⟨_, .inl rfl,qq hQ h⟩
   | .inr ⟨s',hle,h⟩=>⟨s', .inr hle,qq hQ h⟩⟩
 | .bad,_,_,_,_,h=>h.elim
end
theorem aW.aH {P:Program}(bf:P.follows .mixedOrders=true){f:FuncId}{n:Nat}{ic:IC}{rs:List ResultVar}{ds:List D}{out:R}(hf:aG P f n ic rs)(hl:ds.length<=n)
 (h:kL P n 0 false ic (Ci P rs out) ⟨cp (ds.map .d),fun _=> .no,0⟩):aW P f ds out:=
 aW.tu bf hf hl (eK ic _ _ _ (fun _ _ h=>h) h)
def u6(P:Program)(rs:List ResultVar)(K X:V->(Nat->ab)->Nat->Prop)(e:eS)(s:S):Prop:=kY P rs K X e s
theorem de.aH {P:Program}(bf:P.follows .mixedOrders=true){f:FuncId}{n:Nat}{ic:IC}{rs:List ResultVar}{args:List V}{o:Nat->ab}{nx:Nat}{K X:V->(Nat->ab)->Nat->Prop}(hf:aG P f n ic rs)(hl:args.length<=n)
 (h:kL P n nx false ic (u6 P rs K X) ⟨cp args,o,nx⟩):de P f args o nx K X:=
 de.tu bf hf hl (eK ic _ _ _ (fun _ _ h=>h) h)
section
variable {P:Program}{g:FuncId}{ds:List D}{o:Nat->ab}{nx:Nat}{K X:V->(Nat->ab)->Nat->Prop}{all:List V}
theorem aB{rs:List D}(h:aW P g ds (.ret rs))(hf:D.ja rs=true)(hk:K (iE rs) o (nx+1)):tv P g o nx K X ds all:= .inl ⟨.ret rs,h, .inr (.inl ⟨hf,hk⟩)⟩
theorem bn{rs:List D}(h:aW P g ds (.ret rs))(hk:K (iE rs) (put o (cc o (V.bg all))) (nx+1)):tv P g o nx K X ds all:= .inl ⟨.ret rs,h, .inl hk⟩
theorem fF(h:de P g all o nx K X):tv P g o nx K X ds all:= .inr (.inl h)
theorem fG{e:Nat->V}{ds:Option (List D)}(h:de P g all o nx K X):mj P g K X ⟨e,o,nx⟩ all ds:=by
 cases ds with
 |some ds=>exact(.inr (.inl h):tv P g o nx K X ds all)
 |none=>exact(.inl h:Ai P g nx K X all o)
theorem bA(h:de P g all o nx K X):Ai P g nx K X all o:= .inl h
variable {K:KD}{X:XD}{rd:List Nat}{fr:Nat}
theorem aQ{rs:List D}(h:aW P g ds (.ret rs))(hf:D.ja rs=true)(hk:K (iE rs) [] rd):qt P g K X o nx fr rd ds all:= .inl (.inl ⟨rs,h, .inr ⟨hf,hk⟩⟩)
theorem c7{rs:List D}(h:aW P g ds (.ret rs))(hk:K (iE rs) (cc o (V.bg all)) rd):qt P g K X o nx fr rd ds all:= .inl (.inl ⟨rs,h, .inl hk⟩)
theorem qx{v:V}{se:List Nat}{Δ:List (Nat×ab)}(nd:se.all (fun id=>decide (id<nx))=true)(h:xJ P g all se o fr v Δ)(hk:K v Δ se):qt P g K X o nx fr rd ds all:= .inr ⟨se,Δ,nd, .inr (.inr ⟨v,h,hk⟩)⟩
end
theorem ew{P:Program}{f:V}{args:List V}{o:Nat->ab}{K:V->Prop}{c:Bool}(rs:List D)(h:ly c (Ah P f args o rs))(hk:K (V.xS c (iE rs))):D0 P f args o K c:=⟨rs,h,hk⟩
theorem aj{t:Bool}{A B:Prop}(h:t=true->A)(h2:t=false->B):gY A B t:=⟨h,h2⟩
theorem aN{pr:List (List Nat)}{nx:Nat}{Q:eS->S->Prop}{s:S}{fp:List (List Nat×List Nat)}(h:dR pr fp=true)(h2:Q .normal ⟨s.env,s.o,nx⟩):Me pr nx Q s fp:=⟨h,h2⟩
@[go_sem] theorem XT (o:Nat->ab):put o []=o:=rfl
@[go_sem] theorem U3 (o:Nat->ab) (x:Nat×ab) (l:List (Nat×ab)):put o (x::l)=put (aF o x.1 x.2) l:=rfl
@[go_sem] theorem ae {α:Type} (f:Nat->α) (i:Nat) (x:α):aF f i x i=x:=aI
@[go_sem] theorem ai {α:Type} (f:Nat->α) (i j:Nat) (x:α) (h:j≠i):aF f i x j=f j:=by simp[h]
@[go_sem] theorem Mg (v:V) (l:List V):cp (v::l) 0=v:=rfl
@[go_sem] theorem Mh (v:V) (l:List V) (i:Nat):cp (v::l) (i+1)=cp l i:=rfl
@[go_sem] theorem O7 (i:Nat):cp [] i= .bS []:=by simp[cp]
@[go_sem] theorem U4 {P:Program} {o:Nat->ab} {t:TypeId} {id off:Nat}:ma P o t (.ptr id off)=match o id with
 | .row cs=>match ei P t cs off with
   |some v=>some (v,[],[id])
   |none=>none
 |_=>none:=by unfold ma;exact Eq.trans rfl rfl
@[go_sem] theorem XU {P:Program} {o:Nat->ab} {t:TypeId} {cs:List D} {off:Nat}:ma P o t (.pp cs off)=match ei P t (cs.map .d) off with
 |some v=>some (v,[],[])
 |none=>none:=by unfold ma;exact Eq.trans rfl rfl
@[go_sem] theorem XW {P:Program} {o:Nat->ab} {t:TypeId} {id ep i sz off:Nat}:ma P o t (.pe id ep i sz off)=match o id with
 | .arr gS _ pS es=>if ep=gS/\sz=pS then match es[i]? with
  |some e=>match ei P t (e.cells.map .d) off with
   |some v=>some (v,[],[id])
   |none=>none
  |none=>none
   else none
 |_=>none:=by unfold ma;exact Eq.trans rfl rfl
section
variable {P:Program}{o:Nat->ab}{t:TypeId}{op:BinOp}{nM:Bool}
@[go_sem] theorem U5 {k:IntKind} {a b:Int}:eM P o op t nM (.d (.int k a)) (.d (.int k b))=match zT op k a b with
 |some v=>one v
 |none=>qe P o op t nM (.d (.int k a)) (.d (.int k b)):=by
  simp only[eM,xA,if_true]
  cases zT op k a b<;>rfl
@[go_sem] theorem U6 {a b:Bool} (h:mV P t=true):eM P o .eql t nM (.d (.bool a)) (.d (.bool b))=one (.d (.bool (a==b))):=by simp only[eM,xA,Is,h,if_true]
@[go_sem] theorem U7 {a b:Bool} (h:mV P t=true):eM P o .neq t nM (.d (.bool a)) (.d (.bool b))=one (.d (.bool (a !=b))):=by simp only[eM,xA,Is,h,if_true]
@[go_sem] theorem U8 {a b:List UInt8}:eM P o .eql t nM (.d (.str a)) (.d (.str b))=one (.d (.bool (a==b))):=Hy
@[go_sem] theorem U9 {a b:List UInt8}:eM P o .neq t nM (.d (.str a)) (.d (.str b))=one (.d (.bool (a !=b))):=Hy
@[go_sem] theorem Va {a b:List D}:eM P o op t nM (.d (.agg a)) (.d (.agg b))=qe P o op t nM (.d (.agg a)) (.d (.agg b)):=Hy
theorem Ls{x:V}{y:V}(h:match y with| .d (.int _ _)| .d (.bool _)| .d (.str _)=>False|_=>True):xA P op t x y=none:=by
 unfold xA
 split<;>first|exact h.elim|rfl
@[go_sem] theorem R3 {x:V}:eM P o op t nM x .bw=qe P o op t nM x .bw:=Hk
@[go_sem] theorem R4 {x:V}:eM P o op t nM x (.d .eZ)=qe P o op t nM x (.d .eZ):=Hk
@[go_sem] theorem R5 {x:V}:eM P o op t nM x (.d .lE)=qe P o op t nM x (.d .lE):=Hk
@[go_sem] theorem R6 {x:V}:eM P o op t nM x (.d .bY)=qe P o op t nM x (.d .bY):=Hk
@[go_sem] theorem R7 {x:V}:eM P o op t nM x (.d .gy)=qe P o op t nM x (.d .gy):=Hk
@[go_sem] theorem XY {b:Bool}:Ff .not (.d (.bool b))=some (.d (.bool !b)):=HB
@[go_sem] theorem XZ:Ff .not .eN=some .eN:=HB
@[go_sem] theorem X0 {k:IntKind} {n:Int}:Ff .neg (.d (.int k n))=some (.d (.int k (k.wrap (-n)))):=HB
end
@[go_sem] theorem D.Vb (cs:List D):(D.agg cs).cells=cs:=rfl
@[go_sem] theorem D.Vc (k:IntKind) (n:Int):(D.int k n).cells=[.int k n]:=rfl
@[go_sem] theorem D.R8 (b:Bool):(D.bool b).cells=[.bool b]:=rfl
@[go_sem] theorem D.Vd (b:List UInt8):(D.str b).cells=[.str b]:=rfl
@[go_sem] theorem D.X1 (b:List D):(D.sl b).cells=[.sl b]:=rfl
@[go_sem] theorem D.X2 (a b:List D):(D.mp a b).cells=[.mp a b]:=rfl
@[go_sem] theorem D.O8 (t:TypeId) (x:D):(D.iface t x).cells=[.iface t x]:=rfl
@[go_sem] theorem D.R9:D.eZ.cells=[.eZ]:=rfl
@[go_sem] theorem D.Sa:D.lE.cells=[.lE]:=rfl
@[go_sem] theorem D.Sb:D.bY.cells=[.bY]:=rfl
@[go_sem] theorem D.Sc:D.gy.cells=[.gy]:=rfl
attribute [go_sem] V.ofConst V.cW zT Is o6 Cq vW nD gC gD qm fC kZ o7 o8 o9 xB iJ It kW dA bT ei xe qU oC V.cells D.put cc V.ids V.bg iE D.ja D.flat R.flat
attribute [go_sem] xd List.take_succ_cons List.take_zero List.take_nil List.drop_zero List.drop_succ_cons List.drop_nil
attribute [go_sem] List.map_cons List.map_nil List.length_cons List.length_nil List.cons_append List.nil_append List.append_nil List.getElem?_cons_zero List.getElem?_cons_succ Option.bind_some Option.bind_none Option.map_some Option.map_none ab.bZ ab.bW
section
variable {P:Program}{n b:Nat}{rd:Bool}{Q:eS->S->Prop}{s:S}
@[go_sem] theorem X4:kL P n b rd .skip Q s=Q .normal s:=propext Iff.rfl
@[go_sem] theorem aaS {l:List bL}:kL P n b rd (.ad l) Q s=pc P (fun v s=>Q (.bF v) s) (Q .normal) l s:=propext Iff.rfl
@[go_sem] theorem aaT {l:List bL} {pr:List (List Nat)}:kL P n b rd (.cT l pr) Q s=IL P l pr Q s (qv l 0):=propext Iff.rfl
@[go_sem] theorem Ve {l:List bL} {pr:List (List Nat)}:IL P l pr Q s none=nj P (Me pr (s.nx+l.length) Q) (Ae pr l s Q) pr l s.nx s []:=propext Iff.rfl
theorem CH{l:List bL}{pr:List (List Nat)}{m:Nat}(h1:m<=l.length)(h2:xQ pr m=true)(h3:nj P (D2 P pr (l.drop m) (s.nx+m) Q) (fun _ _ _=>False) pr (l.take m) s.nx s []):IL P l pr Q s (some m):=⟨h1,h2,h3⟩
theorem ml{pr:List (List Nat)}{l:List bL}{nx:Nat}{fp:Fp}(h:dR pr fp=true)(h2:pc P (fun v s=>Q (.bF v) s) (Q .normal) l ⟨s.env,s.o,nx⟩):D2 P pr l nx Q s fp:=⟨h,h2⟩
@[go_sem] theorem X5 {k:Nat}:qv [] k=none:=rfl
@[go_sem] theorem X6 {d:Option Nat} {t:Nat} {args:Array Operand} {ts:Array TypeId} {l:List bL} {k:Nat}:qv (⟨d, .call ⟨.value (.tmp t),args,ts⟩,none⟩::l) k=some k:=rfl
@[go_sem] theorem aaU {d:Option Nat} {op:Op} {g:Nat×Bool} {l:List bL} {k:Nat}:qv (⟨d,op,some g⟩::l) k=qv l (k+1):=rfl
@[go_sem] theorem X7 {d:Option Nat} {f:Nat} {args:Array Operand} {ts:Array TypeId} {l:List bL} {k:Nat}:qv (⟨d, .call ⟨.value (.func f),args,ts⟩,none⟩::l) k=qv l (k+1):=rfl
@[go_sem] theorem aaV {d:Option Nat} {op:Op} {l:List bL} {k:Nat} (h:dY op=none):qv (⟨d,op,none⟩::l) k=qv l (k+1):=by rw[qv.eq_2];simp only[h]
@[go_sem] theorem aaW {x y:IC}:kL P n b rd (.seq x y) Q s=kL P n b rd x (oT (fun s=>kL P n b rd y Q s) Q) s:=propext Iff.rfl
@[go_sem] theorem X8 {c:Operand} {x y:IC}:kL P n b rd (.cond c x y) Q s=we (kL P n b rd x Q s) (kL P n b rd y Q s) (s.ev c):=propext Iff.rfl
@[go_sem] theorem Vf {id:Nat} {x:IC}:kL P n b rd (.block id x) Q s=kL P n b rd x (eO id Q) s:=propext Iff.rfl
@[go_sem] theorem X9 {x:IC}:kL P n b rd (.loop x) Q s=An b (fun Q s=>kL P n b rd x Q s) Q s:=propext Iff.rfl
@[go_sem] theorem Ya {id:Nat}:kL P n b rd (.exit id) Q s=Q (.exit id) s:=propext Iff.rfl
@[go_sem] theorem aaX:kL P n b rd .ret Q s=Q .ret s:=propext Iff.rfl
@[go_sem] theorem aaY {g:Operand} {ps:List Nat} {x y:IC}:kL P n b rd (.Fh g ps x y) Q s=xU P n b rd g ps x y Q s (s.ev g):=propext Iff.rfl
@[go_sem] theorem Yb {X:V->S->Prop} {K:S->Prop}:pc P X K [] s=K s:=propext Iff.rfl
@[go_sem] theorem Vg {X:V->S->Prop} {K:S->Prop} {d:Option Nat} {op:Op} {l:List bL}:pc P X K (⟨d,op,none⟩::l) s=Ak P X (pc P X K l) ⟨d,op,none⟩ s:=propext Iff.rfl
@[go_sem] theorem Vh {X:V->S->Prop} {K:S->Prop} {d:Option Nat} {op:Op} {g:Nat} {w:Bool} {l:List bL}:pc P X K (⟨d,op,some (g,w)⟩::l) s=xT P X (pc P X K l) ⟨d,op,some (g,w)⟩ s (lz (s.env g) w):=propext Iff.rfl
variable {X:V->S->Prop}{K:S->Prop}{d:Option Nat}{op:Op}{g:Option (Nat×Bool)}{f:Operand}{args:Array Operand}{ts:Array TypeId}{c:Bool}
@[reducible] def Vi:Op->Bool
  | .call c=>match c.callee with
    | .value _=>true
    | .invoke .. =>true
    |_=>false
  | .panic _=>true
  | .next .. =>true
  |_=>false
@[go_sem] theorem abJ (h:Vi op=false):Ak P X K ⟨d,op,g⟩ s=jI (fun v Δ=>K ⟨aY s.env d v,put s.o Δ,s.nx+1⟩) (fK P s s.nx op):=by
  unfold Ak
  cases op with
  |call c=>
   obtain⟨Ig,args,ts⟩:=c
   cases Ig with
   |value f=>simp[Vi]at h
   |invoke r m=>simp[Vi]at h
   |_=>rfl
  |panic x=>simp[Vi]at h
  |next x str=>simp[Vi]at h
  |_=>rfl
@[go_sem] theorem Yc {x:Operand} {str:Bool}:Ak P X K ⟨d, .next x str,g⟩ s=IJ (fun v Δ=>K ⟨aY s.env d v,put s.o Δ,s.nx+1⟩) str (nz s.o (s.ev x) str) (nA s.o (s.ev x)):=propext Iff.rfl
@[go_sem] theorem Yd:Ak P X K ⟨d, .call ⟨.value f,args,ts⟩,g⟩ s=rn P (fun v o' nx'=>K ⟨aY s.env d v,o',nx'⟩) (fun v o' nx'=>X v ⟨s.env,o',nx'⟩) s (s.ev f) (args.toList.map s.ev):=propext Iff.rfl
@[go_sem] theorem Sd {m:String}:Ak P X K ⟨d, .call ⟨.invoke f m,args,ts⟩,g⟩ s=II P (fun v o' nx'=>K ⟨aY s.env d v,o',nx'⟩) (fun v o' nx'=>X v ⟨s.env,o',nx'⟩) s (args.toList.map s.ev) (s6 P m (s.ev f)):=propext Iff.rfl
@[go_sem] theorem Vj:Ak P X K ⟨d, .panic f,g⟩ s=FZ (fun v=>X v s) (s.ev f):=propext Iff.rfl
@[go_sem] theorem Vk:xT P X K ⟨d, .call ⟨.value f,args,ts⟩,g⟩ s (some c)=CG P X K ⟨d, .call ⟨.value f,args,ts⟩,g⟩ s f args.toList c:=propext Iff.rfl
theorem fi{e:Nat->V}{ob:Nat->ab}{nx:Nat}(h:D0 P ((⟨e,ob,nx⟩:S).ev f) (args.toList.map (⟨e,ob,nx⟩:S).ev) ob (fun v=>K ⟨aY e d v,ob,nx+1⟩) c):CG P X K ⟨d,op,g⟩ ⟨e,ob,nx⟩ f args.toList c:= .inl h
theorem Aq{s:S}{o:bL}{l:List Operand}(h:gY (Ak P X K o s) (K ⟨aY s.env o.dst (.bS []),s.o,s.nx+1⟩) c):CG P X K o s f l c:= .inr h
@[go_sem] theorem Vl (h:jV op=true):xT P X K ⟨d,op,g⟩ s (some c)=jI (fun v _=>K ⟨aY s.env d v,s.o,s.nx+1⟩) (jU c (fK P s s.nx op)):=by
  have h2:dY op=none:=by
   cases hc:dY op with
   |none=>rfl
   |some x=>
    exfalso
    unfold dY at hc
    split at hc
    ·split at hc
     ·rename_i hv;simp[jV,hv]at h
     ·cases hc
    ·cases hc
  simp only[xT,h2,h,if_true]
@[go_sem] theorem Vm (h:jV op=false) (h2:dY op=none):xT P X K ⟨d,op,g⟩ s (some c)=gY (Ak P X K ⟨d,op,g⟩ s) (K ⟨aY s.env d (.bS []),s.o,s.nx+1⟩) c:=by
  simp[xT,h2,h]
@[go_sem] theorem Se {l:List Operand}:CG P X K ⟨d,op,g⟩ s f l false=K ⟨aY s.env d (.bS []),s.o,s.nx+1⟩:=by
  refine propext ⟨fun h=> ?_,fun h=> .inr ⟨(fun e=>by cases e),fun _=>h⟩⟩
  rcases h with⟨rs,_,h⟩|h
  ·exact h
  ·exact h.2 rfl
@[go_sem] theorem Vn {l:List Operand} (hl:args.toList=l):CG P X K ⟨d, .call ⟨.value f,args,ts⟩,g⟩ s f l true=Ak P X K ⟨d, .call ⟨.value f,args,ts⟩,g⟩ s:=by
  subst hl
  refine propext ⟨fun h=> ?_,fun h=> .inr ⟨fun _=>h,(fun e=>by cases e)⟩⟩
  rcases h with⟨rs,h1,h⟩|h
  ·have h1:=h1 rfl
   unfold Ah at h1
   unfold Ak rn mj
   simp only
   split at h1
   ·rename_i fv gg first cap hf
    simp only[hf]
    split at h1
    ·rename_i ds eD
     simp only[eD]
     exact .inl ⟨.ret rs,h1.1, .inr (.inl ⟨h1.2,h⟩)⟩
    ·exact h1.elim
   ·exact h1.elim
  ·exact h.1 rfl
variable {KV:KD}{XV:XD}
@[go_sem] theorem Ye {fr:Nat}:Lc P KV XV fr ⟨d, .call ⟨.value f,args,ts⟩,g⟩ s=Am P KV XV s.o s.nx fr (nr s (.call ⟨.value f,args,ts⟩)) (s.ev f) (args.toList.map s.ev):=propext Iff.rfl
@[go_sem] theorem abK {fr:Nat} (h2:dY op=none):Lc P KV XV fr ⟨d,op,g⟩ s=tw KV (nr s op) (fK P s fr op):=by simp[Lc,h2]
variable {KS:S->Prop}
@[go_sem ↓] theorem Mi:oT KS Q .normal s=KS s:=propext Iff.rfl
@[go_sem ↓] theorem Sf {id:Nat}:oT KS Q (.exit id) s=Q (.exit id) s:=propext Iff.rfl
@[go_sem ↓] theorem Vo:oT KS Q .ret s=Q .ret s:=propext Iff.rfl
@[go_sem ↓] theorem Vp {v:V}:oT KS Q (.bF v) s=Q (.bF v) s:=propext Iff.rfl
@[go_sem ↓] theorem Ld {id:Nat}:eO id Q .normal s=Q .normal s:=propext Iff.rfl
@[go_sem ↓] theorem O9 {id:Nat}:eO id Q (.exit id) s=Q .normal s:=by simp[eO]
@[go_sem ↓] theorem Mj {id j:Nat} (h:j≠id):eO id Q (.exit j) s=Q (.exit j) s:=by simp[eO,h]
@[go_sem ↓] theorem Sg {id:Nat}:eO id Q .ret s=Q .ret s:=propext Iff.rfl
@[go_sem ↓] theorem Sh {id:Nat} {v:V}:eO id Q (.bF v) s=Q (.bF v) s:=propext Iff.rfl
def Mk(out:R)(x:Option (List D)):Prop:=match x with|some ds=>out= .ret ds|none=>False
@[go_sem] theorem Vq {out:R} {ds:List D}:Mk out (some ds)=(out= .ret ds):=propext Iff.rfl
def Si(out:R)(x:Option D):Prop:=match x with|some d=>out= .bF d|none=>False
@[go_sem] theorem Vr {out:R} {d:D}:Si out (some d)=(out= .bF d):=propext Iff.rfl
def Ml(out:R)(o:Nat->ab)(x:Option (List V)):Prop:=match x with|some vs=>Mk out (bT o vs)|none=>False
@[go_sem] theorem Vt {out:R} {o:Nat->ab} {vs:List V}:Ml out o (some vs)=Mk out (bT o vs):=propext Iff.rfl
variable {rs:List ResultVar}{out:R}
@[go_sem ↓] theorem Vu:Ci P rs out .ret s=Ml out s.o (kW P s rs):=propext Iff.rfl
@[go_sem ↓] theorem Mm:Ci P rs out .normal s=Ml out s.o (kW P s rs):=propext Iff.rfl
@[go_sem ↓] theorem Vv {v:V}:Ci P rs out (.bF v) s=Si out (dA s.o v):=propext Iff.rfl
def Ar(K:V->(Nat->ab)->Nat->Prop)(o:Nat->ab)(nx:Nat)(x:Fix (Option (List V)) (K,o,nx)):Prop:=match x with
 |some [v]=>K v o nx
 |some vs=>K (.bS vs) o nx
 |none=>False
@[go_sem] theorem Yf {K:V->(Nat->ab)->Nat->Prop} {o:Nat->ab} {nx:Nat} {v:V}:Ar K o nx (some [v])=K v o nx:=propext Iff.rfl
@[go_sem] theorem Yg {K:V->(Nat->ab)->Nat->Prop} {o:Nat->ab} {nx:Nat}:Ar K o nx (some [])=K (.bS []) o nx:=propext Iff.rfl
@[go_sem] theorem Yh {K:V->(Nat->ab)->Nat->Prop} {o:Nat->ab} {nx:Nat} {v u:V} {l:List V}:Ar K o nx (some (v::u::l))=K (.bS (v::u::l)) o nx:=propext Iff.rfl
theorem D5{K X:V->(Nat->ab)->Nat->Prop}:kY P rs K X .ret s=Ar K s.o s.nx (kW P s rs):=by
 unfold kY Ar
 cases kW P s rs with
 |none=>rfl
 |some l=>match l with
  |[]=>rfl
  |[_]=>rfl
  |_::_::_=>rfl
@[go_sem ↓] theorem Yi {K X:V->(Nat->ab)->Nat->Prop}:u6 P rs K X .ret s=Ar K s.o s.nx (kW P s rs):=D5
@[go_sem ↓] theorem Pa {K X:V->(Nat->ab)->Nat->Prop}:u6 P rs K X .normal s=Ar K s.o s.nx (kW P s rs):=(D5 (X:=X):kY P rs K X .ret s=_)
@[go_sem ↓] theorem Yj {K X:V->(Nat->ab)->Nat->Prop} {v:V}:u6 P rs K X (.bF v) s=X v s.o s.nx:=propext Iff.rfl
variable {KE:S->Fp->Prop}{KP:V->List Nat->Fp->Prop}{pr:List (List Nat)}{fr:Nat}{fp:Fp}
@[go_sem] theorem Yk:nj P KE KP pr [] fr s fp=KE s fp:=propext Iff.rfl
@[go_sem] theorem Vw {d:Option Nat} {op:Op} {l:List bL}:nj P KE KP pr (⟨d,op,none⟩::l) fr s fp=
 Lc P (fun v Δ rd=>nj P KE KP pr l (fr+1) ⟨aY s.env d v,put s.o Δ,s.nx⟩ (fp++[(rd,Δ.map (·.1))]))
  (fun v ws rd=>F0 P (KP v) pr l (fr+1) (fp++[(rd,[])]) [fp.length] (ws++fp.flatMap (·.2)) ⟨aY s.env d .aa,s.o,s.nx⟩) fr ⟨d,op,none⟩ s:=propext Iff.rfl
@[go_sem] theorem Vx {d:Option Nat} {op:Op} {g:Nat} {w:Bool} {l:List bL}:nj P KE KP pr (⟨d,op,some (g,w)⟩::l) fr s fp=
 jd w (Lc P (fun v Δ rd=>nj P KE KP pr l (fr+1) ⟨aY s.env d v,put s.o Δ,s.nx⟩ (fp++[(rd,Δ.map (·.1))]))
  (fun v ws rd=>F0 P (KP v) pr l (fr+1) (fp++[(rd,[])]) [fp.length] (ws++fp.flatMap (·.2)) ⟨aY s.env d .aa,s.o,s.nx⟩) fr ⟨d,op,some (g,w)⟩ s)
   (nj P KE KP pr l (fr+1) ⟨aY s.env d (.bS []),s.o,s.nx⟩ (fp++[([],[])])) (s.env g):=propext Iff.rfl
end
attribute [go_sem] Vi dY jV fK one la aY S.ev Ah
theorem aq{ι:Type}{b:Nat}{st:ι->S}{bD:ι->Prop}{nY:ι->Nat}{i:ι}{s:S}(j:ι)(h1:bD j)(h2:nY j<nY i)(h3:bC b s (st j)):D3 b st bD nY i s:=⟨j,h1,h2,h3⟩
attribute [irreducible] IL D2 kL pc Ak xT CG rn mj Aj IG II D0 tv Ai jI FZ gY jd IK qt qs qu Am tw Lc nj F0 xU wc u6 Ar Me we An Mk Si Ml tx D3
end
section
section
variable (ρ:Nat->Option Nat)(o' o:Nat->ab)(nx:Nat)
end
section
variable {M M':Nat->Prop}{φ aD:Place}{H H':Hp}{w:World}{ρ:Nat->Option Nat}{nx:Nat}
end
end
@[go_sem] theorem mW (v:V) (l:List V):ba (v::l) 0=v:=rfl
@[go_sem] theorem mX (v:V) (l:List V) (i:Nat):ba (v::l) (i+1)=ba l i:=rfl
@[go_sem] theorem pf (i:Nat):ba [] i= .aa:=by simp[ba]
@[go_sem] theorem Pb (k:Nat):(0<=(k:Int))=True:=aI
attribute [go_sem] List.getElem?_map List.length_map Int.toNat_natCast
attribute [go_sem] ej List.flatMap_cons List.flatMap_nil
attribute [go_sem] isConst qe LA qc qd zh qb oE B1 LB vz Fj nK nL vy sP sQ oF
attribute [go_sem] nr V.refs V.aL
attribute [go_sem] List.all_nil List.all_cons Option.some.injEq D.int.injEq D.bool.injEq Nat.zero_add Nat.add_zero
theorem wrap64{n:Int}(h1: -9223372036854775808<=n)(h2:n<=9223372036854775807):IntKind.i64.wrap n=n:=by
 unfold IntKind.wrap
 have e1:((2:Int)^IntKind.i64.bits)=18446744073709551616:=cG
 have e2:((2:Int)^(IntKind.i64.bits - 1))=9223372036854775808:=cG
 have e3:IntKind.i64.signed=true:=rfl
 simp only[e1,e2,e3,Bool.true_and,decide_eq_true_eq]
 split<;>omega
structure Good (o:Nat->ab) (nx:Nat):Prop where
 fresh:∀id,nx<=id->o id= .no
 refs:∀id,∀r∈(o id).refs,r<nx
theorem Good.nil {nx:Nat}:Good (fun _=> .no) nx:=⟨fun _ _=>rfl,fun id r h=>by cases h⟩
theorem Good.aF {o:Nat->ab}{nx i:Nat}{x:ab}(h:Good o nx)(hi:i<nx)(hx:x.refs.all (fun r=>decide (r<nx))=true):Good (aF o i x) nx:=by
 refine⟨fun id au=> ?_,fun id r hr=> ?_⟩
 ·rw[ai _ _ _ _ (by omega)];exact h.fresh id au
 ·by_cases e:id=i
  ·subst e
   rw[ae]at hr
   simpa using List.all_eq_true.1 hx r hr
  ·rw[ai _ _ _ _ e]at hr
   exact h.refs id r hr
theorem Good.mono {o:Nat->ab}{nx m:Nat}(h:Good o nx)(hm:nx<=m):Good o m:=⟨fun id au=>h.fresh id ah,fun id r hr=>Nat.lt_of_lt_of_le (h.refs id r hr) hm⟩
theorem Good.lt {o:Nat->ab}{nx id:Nat}(h:Good o nx)(hn:o id≠ .no):id<nx:=by
 rcases Nat.lt_or_ge id nx with hl|hl
 ·exact hl
 ·exact absurd (h.fresh id hl) hn
theorem V.vl:∀ (l:List V) (i:Nat),∀r∈(ba l i).refs,r∈V.aL l
 |[],i,r,h=>by rw[pf]at h;cases h
 |v::l,0,r,h=>by rw[mW]at h;simp only[V.aL,List.mem_append];exact .inl h
 |v::l,i+1,r,h=>by rw[mX]at h;simp only[V.aL,List.mem_append];exact .inr (V.vl l i r h)
theorem bC.back {b:Nat}{s:S}{env:Nat->V}{o:Nat->ab}{nx:Nat}(hb:b<=nx)(hn:nx<=s.nx)(hg:Good o nx)(ho:∀id,id<nx->s.o id=o id)
 (he:∀i,env i= .aa\/(env i=s.env i/\∀r∈(env i).refs,r<nx)):bC b s ⟨env,o,nx⟩:=by
 intro M φ w tm hH hd
 have cz:∀k,cy φ (hp o nx) k->cy φ s.H k:=by
  rintro k ⟨id,h1,h2⟩
  have au:id<nx:=hg.lt (fun e=>by simp only[hp]at h1;rw[e]at h1;cases h1)
  exact⟨id,by simp only[S.H];rw[ho id au];exact h1,h2⟩
 have hB:∀k, ¬ak M φ s.H k-> ¬ak M φ (hp o nx) k:=fun k h h'=>h (h'.imp id (cz k))
 have dH:∀ (v:V) (val:Value),(∀r∈v.refs,r<nx)->V.den (ak M φ s.H) φ s.H w v val->V.den (ak M φ (hp o nx)) φ (hp o nx) w v val:=fun v val hr h=>
  V.mc (H:=s.H) (H':=hp o nx) hB v val (fun id au=>⟨(ho id (hr id au)).symm,rfl,hr id au⟩) h
 have j9:∀ (v:List V) (val:List Value),(∀r∈V.aL v,r<nx)->V.aC (ak M φ s.H) φ s.H w v val->V.aC (ak M φ (hp o nx)) φ (hp o nx) w v val:=fun v val hr h=>
  V.fD (H:=s.H) (H':=hp o nx) hB v val (fun id au=>⟨(ho id (hr id au)).symm,rfl,hr id au⟩) h
 refine⟨φ,⟨fun id=> ?_,fun id hu=>hg.fresh id (by simpa[S.H]using hu),fun i j k h1 h2 h3 h4=> ?_,fun k hk=>hH.ours k (cz k hk),hH.yM⟩,fun i=> ?_,cz,hb,fun id au hr=> ?_,fun id e' au oj=> ?_⟩
 ·have bc:=hH.ok id
  have hrefs:=hg.refs id
  unfold aO at bc|-
  by_cases au:id<nx
  ·have e:s.H.o id=o id:=ho id au
   rw[e]at bc
   simp only[S.H]at bc|-
   cases hx:o id with
   |no=>trivial
   |row cs=>
    simp only[hx]at bc hrefs|-
    exact N6
   |arr ep ty sz es=>
    simp only[hx]at bc|-
    obtain⟨k1,xs,k2,evs,k3,k4,k5⟩:=bc
    exact Wu
   |qT ep es=>
    simp only[hx]at bc|-
    exact Lq
   |map kt vt es=>
    simp only[hx]at bc|-
    obtain⟨b,es',clock,k1,k2,k4,k3⟩:=bc
    exact Ws
   |gu l=>
    simp only[hx]at bc|-
    exact Lq
   |nI l last=>
    simp only[hx]at bc|-
    obtain⟨b,k1,k2⟩:=bc
    exact N0
   |xb s pos=>
    simp only[hx]at bc|-
    exact bc
   |loop nf n env ps a b st pd=>
    simp only[hx]at bc hrefs|-
    exact Oo
  ·simp only[S.H]
   rw[hg.fresh id (by omega)]
   trivial
 ·have hi:i<nx:=hg.lt (fun e=>by simp only[S.H]at h1;rw[e]at h1;cases h1)
  have hj:j<nx:=hg.lt (fun e=>by simp only[S.H]at h2;rw[e]at h2;cases h2)
  exact hH.apart i j k (by simp only[S.H];rw[ho i hi];exact h1) (by simp only[S.H];rw[ho j hj];exact h2) h3 h4
 ·rcases he i with h|⟨h1,h2⟩
  ·simp only[h];trivial
  ·have:=hd i
   rw[<- h1]at this
   exact dH _ _ h2 this
 ·have b8:id<nx:=ah
  exact⟨by rw[ho id b8];exact hr,rfl⟩
 ·have b8:id<nx:=ah
  exact⟨e',by rw[ho id b8];exact oj,Nat.le_refl _,fun _=>rfl⟩
def kA(nx:Nat)(env:Nat->V):List V->Nat->Prop
 |[],_=>True
 |v::l,i=>(v= .aa\/(v=env i/\∀r∈v.refs,r<nx))/\kA nx env l (i+1)
theorem bC.bB {b:Nat}{e:Nat->V}{so:Nat->ab}{m:Nat}(l:List V){o:Nat->ab}{nx:Nat}(hb:b<=nx)(hn:nx<=m)(hg:Good o nx)(ho:∀id,id<nx->so id=o id)(he:kA nx e l 0):bC b ⟨e,so,m⟩ ⟨ba l,o,nx⟩:=by
 refine bC.back hb hn hg ho ?_
 have key:∀ (l:List V) (i:Nat),kA nx e l i->∀j,ba l j= .aa\/(ba l j=e (i+j)/\∀r∈(ba l j).refs,r<nx):=by
  intro l
  induction l with
  |nil=>intro i _ j;rw[pf];exact .inl rfl
  |cons v l ih=>
   intro i h j
   cases j with
   |zero=>rw[mW];exact h.1
   |succ j=>
    rw[mX]
    have:=ih (i+1) h.2 j
    rwa [show i+1+j=i+(j+1) by omega]at this
 intro i
 have:=key l 0 he i
 rwa [Nat.zero_add]at this
theorem E4{nx:Nat}{env:Nat->V}{i:Nat}:kA nx env [] i:=trivial
theorem BR{nx:Nat}{env:Nat->V}{l:List V}{i:Nat}(h:kA nx env l (i+1)):kA nx env (.aa::l) i:=⟨.inl rfl,h⟩
theorem Dj{nx:Nat}{env:Nat->V}{l:List V}{i:Nat}{x:D}(he:env i= .d x)(h:kA nx env l (i+1)):kA nx env (.d x::l) i:=⟨.inr ⟨he.symm,fun r hr=>by simp[V.refs]at hr⟩,h⟩
theorem Ll{nx:Nat}{env:Nat->V}{l:List V}{i:Nat}{v:V}(he:env i=v)(hr:∀r∈v.refs,r<nx)(h:kA nx env l (i+1)):kA nx env (v::l) i:=⟨.inr ⟨he.symm,hr⟩,h⟩
theorem bC.d0 {e:Nat->V}{so:Nat->ab}{m:Nat}(l:List V)(he:kA 0 e l 0):bC 0 ⟨e,so,m⟩ ⟨ba l,fun _=> .no,0⟩:=bC.bB l (Nat.le_refl 0) (Nat.zero_le _) Good.nil (fun _ h=>absurd h (Nat.not_lt_zero _)) he
theorem NL{k:Nat}(h:(k:Int)+1<=9223372036854775807):IntKind.i64.wrap ((k:Int)+1)=((k+1:Nat):Int):=by rw[wrap64 (by omega) h];rfl
theorem NK{k:IntKind}{a b:Int}(h:a=b):V.d (D.int k a)=V.d (D.int k b):=by rw[h]
theorem As{P:Program}{g:FuncId}{K:KD}{X:XD}{o:Nat->ab}{nx fr:Nat}{all:List V}{rd:List Nat}{rs:List D}{Δ:List (Nat×ab)}(nd:rd.all (fun id=>decide (id<nx))=true)(h:DU P g all rd o (.ret rs) Δ)(hk:K (iE rs) Δ rd):qs P g K X o nx fr all:=by
 unfold qs
 exact⟨rd,Δ,nd, .inl ⟨rs,h,hk⟩⟩
abbrev D.i (n:Int):D:= .int .i64 n
structure iu where
 name:List UInt8
 args:Int
structure aS where
 cons:List iu
 bH:List iu
inductive Tm where
 |mk (op n:Int) (kids:List Tm)
 deriving Inhabited
structure TB where
 var:Int
 term:Tm
def Tm.op:Tm->Int| .mk op _ _=>op
def Tm.n:Tm->Int| .mk _ n _=>n
def Tm.kids:Tm->List Tm| .mk _ _ l=>l
theorem Tm.eta (t:Tm):Tm.mk t.op t.n t.kids=t:=by cases t;rfl
theorem Tm.ind {P:Tm->Prop}(h:∀op n kids,(∀k∈kids,P k)->P (.mk op n kids)):∀t,P t:=
 fun t=>Tm.rec (motive_1:=P) (motive_2:=fun l=>∀k∈l,P k) (fun op n kids ih=>h op n kids ih) (fun _ h=>by cases h)
  (fun x l hx hl k hk=>(List.mem_cons.1 hk).elim (fun e=>e ▸ hx) (hl k)) t
mutual
def Tm.d:Tm->D
 | .mk op n kids=> .agg [.i op, .i n, .sl (Tm.ds kids)]
def Tm.ds:List Tm->List D
 |[]=>[]
 |t::l=>t.d::Tm.ds l
end
theorem Tm.CI:∀l:List Tm,Tm.ds l=l.map Tm.d
 |[]=>rfl
 |t::l=>by simp[Tm.ds,Tm.CI l]
theorem Tm.Yl (t:Tm):t.d= .agg [.i t.op, .i t.n, .sl (t.kids.map Tm.d)]:=by cases t;simp[Tm.d,Tm.CI,Tm.op,Tm.n,Tm.kids]
@[go_sem] theorem Tm.abL (t:Tm):D.agg [.i t.op, .i t.n, .sl (t.kids.map Tm.d)]=t.d:=(Tm.Yl t).symm
@[go_sem] theorem Tm.aaZ (t:Tm):D.cells t.d=[.i t.op, .i t.n, .sl (t.kids.map Tm.d)]:=by rw[Tm.Yl];rfl
theorem Tm.cl {P:Tm->Prop}(h:∀t:Tm,(∀k∈t.kids,P k)->P t):∀t,P t:=Tm.ind fun op n kids ih=>h (.mk op n kids) ih
theorem Tm.CJ (op n:Int)(l:List Tm):(Tm.mk op n l).d= .agg [.i op, .i n, .sl (l.map Tm.d)]:=by simp[Tm.d,Tm.CI]
@[reducible] def iu.d (x:iu):D:= .agg [.str x.name, .i x.args]
@[reducible] def aS.d (s:aS):D:= .agg [.sl (s.cons.map iu.d), .sl (s.bH.map iu.d)]
@[reducible] def TB.d (b:TB):D:= .agg [.i b.var, .i b.term.op, .i b.term.n, .sl (b.term.kids.map Tm.d)]
mutual
def Tm.fits:Tm->Prop
 | .mk _ _ kids=>kids.length<=9223372036854775807/\Tm.Au kids
def Tm.Au:List Tm->Prop
 |[]=>True
 |t::l=>t.fits/\Tm.Au l
end
theorem Tm.wh:∀l:List Tm,Tm.Au l↔∀k∈l,k.fits
 |[]=>by simp[Tm.Au]
 |t::l=>by simp[Tm.Au,Tm.wh l]
theorem Tm.aX (t:Tm):t.fits↔t.kids.length<=9223372036854775807/\∀k∈t.kids,k.fits:=by cases t;simp[Tm.fits,Tm.wh,Tm.kids]
mutual
def Tm.mm:Tm->Nat
 | .mk _ _ kids=>1+Tm.lb kids
def Tm.lb:List Tm->Nat
 |[]=>0
 |k::l=>Nat.max k.mm (Tm.lb l)
end
theorem Tm.Av:∀ {l:List Tm} {k:Tm},k∈l->k.mm<=Tm.lb l
 |x::l,k,h=>by
  simp only[Tm.lb]
  rcases List.mem_cons.1 h with rfl|h
  ·exact Nat.le_max_left _ _
  ·exact Nat.le_trans (Tm.Av h) (Nat.le_max_right _ _)
theorem Tm.pg {t k:Tm}(h:k∈t.kids):k.mm+1<=t.mm:=by
 cases t;simp only[Tm.kids]at h;simp only[Tm.mm];have:=Tm.Av h;omega
mutual
def pre:Tm->Int->List (Tm×Int)
 | .mk op n kids,d=>(.mk op n kids,d)::Mn kids (d+1)
def Mn:List Tm->Int->List (Tm×Int)
 |[],_=>[]
 |k::l,d=>pre k d++Mn l d
end
theorem F2(l:List Tm)(d:Int):Mn l d=l.flatMap fun k=>pre k d:=by
 induction l with
 |nil=>rfl
 |cons k l ih=>simp[Mn,ih]
theorem je(t:Tm)(d:Int):pre t d=(t,d)::t.kids.flatMap fun k=>pre k (d+1):=by cases t;simp[pre,F2,Tm.kids]
def dP(n low high:Int):Bool:=decide (low<=n)&&decide (n<=high)
def letterF(b:UInt8):Bool:= !((decide ((b.toNat:Int)<97)||decide (122<(b.toNat:Int)))&&(decide ((b.toNat:Int)<65)||decide (90<(b.toNat:Int))))
def jf(s:List UInt8):Bool:=s.all letterF&&dP s.length 1 8
def bR:List iu->List (List UInt8)->Option (List (List UInt8))
 |[],before=>some before
 |x::l,before=>if before.any (· ==x.name)then none else if(!jf x.name|| !dP x.args 0 4)=true then none else bR l (before++[x.name])
def fB:List UInt8:=[70,97,108,115,101]
def tB:List UInt8:=[84,114,117,101]
def lG(x:iu)(s:List UInt8):Bool:=x.name==s&&x.args==0
def iG(s:aS):Bool:=
 if(!dP s.cons.length 2 12||decide (8<(s.bH.length:Int)))=true then false else
 match s.cons with
 |a::b::_=>if(!lG a fB|| !lG b tB)=true then false else
  match bR s.cons []with
  |none=>false
  |some l=>(bR s.bH l).isSome
 |_=>false
mutual
def gZ:Tm->Int->Int->Int
 | .mk _ _ kids,left,depth=>if left<1\/depth<1 then -1 else b9 kids (left - 1) (depth - 1)
def b9:List Tm->Int->Int->Int
 |[],left,_=>left
 |k::l,left,depth=>if 0<=left then b9 l (gZ k left depth) depth else left
end
def fj(l:List iu)(n:Int):Int:=match l[n.toNat]? with|some x=>x.args|none=>0
def a7(s:aS)(t:Tm):Bool:=
 let k:Int:=t.kids.length
 if t.op=1 then k==0&&dP t.n 0 19
 else if t.op=2 then k==0&&dP t.n (-1000000) 1000000
 else if t.op=3 then dP t.n 0 (s.cons.length - 1)&&k==fj s.cons t.n
 else if t.op=4 then dP t.n 0 (s.bH.length - 1)&&k==fj s.bH t.n
 else if t.op=5 then dP t.n 0 (s.bH.length - 1)&&decide (k<fj s.bH t.n)
 else if t.op=8 then k==2&&dP t.n 0 19
 else if(dP t.op 6 15)=true then k==2&&t.n==0
 else false
mutual
def fW(s:aS):Tm->Bool
 | .mk op n kids=>a7 s (.mk op n kids)&&ss s kids
def ss(s:aS):List Tm->Bool
 |[]=>true
 |k::l=>fW s k&&ss s l
end
def cN(s:aS)(t:Tm):Bool:=decide (0<=gZ t 40 12)&&fW s t
mutual
def ey:Tm->Bool
 | .mk op _ kids=>su kids&&((decide (1<=op)&&decide (op<=3))||op==5)
def su:List Tm->Bool
 |[]=>true
 |k::l=>ey k&&su l
end
mutual
def eV:Tm->Tm->Bool
 | .mk op n kids, .mk op' n' Pc=>op==op'&&n==n'&&kids.length==Pc.length&&gI kids Pc
def gI:List Tm->List Tm->Bool
 |[],_=>true
 |k::l,k'::l'=>eV k k'&&gI l l'
 |_::_,[]=>true
end
def jg(t:Tm):Bool:=decide (0<=gZ t 50 14)
def eX(l:List iu):Bool:=l.all fun x=>decide ((x.name.length:Int)<=30)
def gJ(s:aS):Bool:= !(decide (16<(s.cons.length:Int))||decide (12<(s.bH.length:Int)))&&eX s.cons&&eX s.bH
structure pV where
 f:Int
 t:Int
 l:Bool
@[reducible] def pV.d (a:pV):D:= .agg [.i a.f, .i a.t, .bool a.l]
def pV.k (a:pV):Nat:=(a.f*4+a.t).toNat
def pV.v (a:pV):Int:=if a.l=true then 2 else 1
def z16:List Int:=[0,0,0,0,0,0,0,0,0,0,0,0,0,0,0,0]
def tz(m:List Int)(q:Nat):List pV:=(List.range q).filterMap fun p=>if m.getD p 0≠0 then some ⟨(p/4:Nat),(p%4:Nat),m.getD p 0==2⟩else none
theorem Aw{α β:Type}{f g:α->Option β}:∀ {l:List α},(∀x∈l,f x=g x)->l.filterMap f=l.filterMap g
 |[],_=>rfl
 |x::l,h=>by
  have ih:=Aw (l:=l) fun y hy=>h y nH
  rw[List.filterMap_cons,List.filterMap_cons,h x (by simp),ih]
theorem ph{l l':List Int}(h1:l.length=16)(h2:l'.length=16)(h:∀p,p<16->l[p]? =l'[p]?):l=l':=by
 apply List.ext_getElem?
 intro p
 by_cases hp:p<16
 ·exact h p hp
 ·rw[List.getElem?_eq_none (by omega),List.getElem?_eq_none (by omega)]
theorem IP(m:List Int)(q:Nat):tz m (q+1)=tz m q++(if m.getD q 0≠0 then [⟨(q/4:Nat),(q%4:Nat),m.getD q 0==2⟩]else []):=by
 unfold tz
 rw[List.range_succ,List.filterMap_append]
 congr 1
 by_cases h:m.getD q 0≠0
 ·rw[if_pos h];simp only[List.filterMap_cons,if_pos h,List.filterMap_nil]
 ·rw[if_neg h];simp only[List.filterMap_cons,if_neg h,List.filterMap_nil]
theorem Mo(m:List Int)(q:Nat):(tz m q).length<=q:=by
 unfold tz
 have:=List.length_filterMap_le (fun p=>if m.getD p 0≠0 then some (⟨(p/4:Nat),(p%4:Nat),m.getD p 0==2⟩:pV)else none) (List.range q)
 simpa using this
def Mat(m:List Int):Prop:=m.length=16/\∀x∈m,0<=x/\x<=2
def mg(m:List Int)(i j:Nat):Int:=m.getD (i*4+j) 0
section
def jh(id:Nat)(K X:V->(Nat->ab)->Nat->Prop)(e:eS)(s:S):Prop:=
 match e with
 | .normal=>∃nf m en p c d st pd,s.o id= .loop nf m en p c d st pd/\K (.d (.bool true)) (aF s.o id (.loop nf m en p c d .ready none)) s.nx
 | .ret=>∃nf m en p c d st pd,s.o id= .loop nf m en p c d st pd/\K (.d (.bool false)) (aF s.o id (.loop nf m en p c d .done (some .ret))) s.nx
 | .exit j=>∃nf m en p c d st pd,s.o id= .loop nf m en p c d st pd/\K (.d (.bool false)) (aF s.o id (.loop nf m en p c d .done (some (.exit j)))) s.nx
 | .bF v=>X v s.o s.nx
def Sj(P:Program)(n b id:Nat)(eF:IC)(K X:V->(Nat->ab)->Nat->Prop)(e:eS)(s:S):Prop:=
 match e with
 | .normal=>∃nf m en p c d pd,s.o id= .loop nf m en p c d .ready pd/\sr P n b true eF (jh id K X) ⟨s.env,aF s.o id (.loop nf m en p c d .busy pd),s.nx⟩
 | .bF v=>X v s.o s.nx
 |_=>False
section
variable {P:Program}{M:Nat->Prop}{φ cg:Place}{H0:Hp}{w w0:World}{n:Nat}{s:S}{a:Act}{cx:Cx}
theorem Ax{id:Nat}{x:ab}{s:S}(b8:id<s.nx)(j:Nat)(hu:(s.H.put [(id,x)]).us j):j<s.nx:=by
 simp only[dF]at hu
 rcases hu with hu|hu
 ·exact hu
 ·subst hu;exact b8
theorem tA{B:Nat->Prop}{H:Hp}{n:Nat}:∀ (ps:List Nat) (vs:List V) (us:List Value) (env:Nat->V) (tmps:Array Value),tmps.size=n->ps.length=vs.length->V.aC B φ H w vs us->ps.all (fun t=>decide (t<n))=true->(∀i,V.den B φ H w (env i) (tmps.getD i undef))->
 ((ps.zip us).foldl (fun tmps p=>tmps.setIfInBounds p.1 p.2) tmps).size=n/\∀i,V.den B φ H w (mh env ps vs i) (((ps.zip us).foldl (fun tmps p=>tmps.setIfInBounds p.1 p.2) tmps).getD i undef)
 |[],[],us,env,tmps,dw,_,hd,_,he=>by simp only[V.aC]at hd;subst hd;exact⟨dw,he⟩
 |[],v::vs,us,env,tmps,_,h,_,_,_=>by simp at h
 |t::ps,[],us,env,tmps,_,h,_,_,_=>by simp at h
 |t::ps,v::vs,us,env,tmps,dw,hl,hd,hp,he=>by
  obtain⟨u,us,rfl,h1,h2⟩:=hd
  simp only[List.all_cons,Bool.and_eq_true,decide_eq_true_eq]at hp
  simp only[List.zip_cons_cons,List.foldl_cons,mh]
  refine tA ps vs us (aF env t v) (tmps.setIfInBounds t u) (by simp[dw]) (by simpa using hl) h2 hp.2 (fun i=> ?_)
  simp only[aJ]
  by_cases hi:i=t
  ·subst hi
   have:(tmps.setIfInBounds i u).getD i undef=u:=by simp[Array.getD,dw,hp.1]
   rw[if_pos rfl,this];exact h1
  ·have:(tmps.setIfInBounds t u).getD i undef=tmps.getD i undef:=by
    exact Rc
   rw[if_neg hi,this];exact he i
theorem dq.tu (bf:P.follows .mixedOrders=true){id:Nat}{args:List V}{o:Nat->ab}{nx:Nat}{K X:V->(Nat->ab)->Nat->Prop}{env:List V}{ps:List Nat}{iT eF:IC}{st:LoopState}{pd:Option jo}
 (ho:o id= .loop P.funcs.size n env ps iT eF st pd) (b8:id<nx) (uO:ps.all (fun t=>decide (t<n))=true) (hl:args.length=ps.length)
 (h:sr P n nx true iT (Sj P n nx id eF K X) ⟨mh (ba env) ps args,o,nx⟩):dq P id args o nx K X:=by
 refine⟨by rw[ho];rfl,fun M φ w vals b hH hd dN=> ?_⟩
 have aZ:=hH.ok id
 simp only[aO,hp,ho]at aZ
 obtain⟨b',r,h1,h2,h0,h3,h4,h5,h6,h7,h8,h9⟩:=aZ
 rw[dN]at h1;simp at h1;subst h1
 have hlen:=V.aA _ _ hd
 have dw:vals.size=r.params.size:=by
  have:r.params.toList.length=ps.length:=by rw[h5]
  simp at hlen this;omega
 let tm:Array Value:=(ps.zip vals.toList).foldl (fun tmps p=>tmps.setIfInBounds p.1 p.2) r.tmps
 have Ym:(r.params.zip vals).foldl (fun tmps (p:Tmp×Value)=>tmps.setIfInBounds p.1 p.2) r.tmps=tm:=by
  rw[<- Array.foldl_toList,Array.toList_zip,h5]
 obtain⟨p1,p2⟩:=tA (B:=ak M φ (hp o nx)) (H:=hp o nx) (φ:=φ) (w:=w) ps args vals.toList (ba env) r.tmps h6 hl.symm hd uO h9
 refine⟨r.fn,tm,r.assign,r.body, ?_,fun k=> ?_⟩
 ·simp only[Instr.yield,Sem.run_bind,jH h2,Result.andThen_ok,dw,ne_eq,not_true_eq_false,if_false,Sem.run_pure]
  rw[<- Ym]
 ·
   let s0:S:=⟨mh (ba env) ps args,o,nx⟩
   let a0:Act:={tmps:=tm,defers:=[]}
   have jb:bU M φ (hp o nx) w n ⟨[],true⟩ φ s0 a0 w:=⟨hH,Trans.refl _ _ _,p1,⟨[],rfl,List.nodup_nil,fun _=>rfl,fun r hr=>by cases hr⟩,p2⟩
   have tC:∀ {aD s' a' w'},bU M φ (hp o nx) w n ⟨[],true⟩ aD s' a' w'->a'.defers=[]:=by
    intro aD s' a' w' hs
    obtain⟨ms,g1,_,g3,_⟩:=hs.defers
    rw[g3 rfl]at g1;exact g1
   have Yn:∀ {aD s' a' w'} {nf m:Nat} {en:List V} {p:List Nat} {c d:IC} {st:LoopState} {pd:Option jo} (st':LoopState) (pd':Option jo),bU M φ (hp o nx) w n ⟨[],true⟩ aD s' a' w'->s'.o id= .loop nf m en p c d st pd->
    ∃r',w'.heap[b]? =some (.loop r')/\r'.state=st/\r'.pending=pd.map jo.code/\
     bU M φ (hp o nx) w n ⟨[],true⟩ aD ⟨s'.env,aF s'.o id (.loop nf m en p c d st' pd'),s'.nx⟩ a' {w' with heap:=w'.heap.setIfInBounds b (.loop {r' with state:=st',pending:=pd'.map jo.code})}:=by
    intro aD s' a' w' nf m en p c d st pd st' pd' hs oo
    have RE:aD id= .pointer (some ⟨b,0,none⟩):=by
     have:=(hs.tr.rel.row id b8 (by show(s'.o id).bZ=true;rw[oo];rfl)).2
     rw[this];exact dN
    have Yo:id<s'.nx:=hs.tr.rel.us id b8
    obtain⟨r',r1,r2,r3,r4,r5⟩:=vT (st':=st') (pd':=pd') hs.heap Yo (show s'.H.o id=_ from oo) RE
    exact⟨r',r1,r2,r3,ef hs r4 r5 rfl (Ax Yo)⟩
   have ha:=gH (P:=P) (n:=n) (b:=nx) (rd:=true) bf r.assign _ _ s0 (fun _ _ h=>h) (by rw[h7];exact h)
   refine s9 h0 (fU (gB (P:=P) (H0:=hp o nx) (b:=nx) (cx:=⟨[],true⟩) (ro:=some b) (fun id hu=>hu) (fun h=>by cases h) r.assign _ s0 φ a0 w ha jb) ?_)
   rintro e a1 w1 ⟨x,s1,il,hq,vV,hm⟩
   cases e<;>cases x<;>first|(exact hm.elim)|skip
   ·
     obtain⟨nf,m,en,p,c,d,pd1,q1,q2⟩:=hq
     obtain⟨r',r1,r2,r3,La⟩:=Yn .busy pd1 vV q1
     have Sk:(Instr.beginRound b).run P w1= .ok () {w1 with heap:=w1.heap.setIfInBounds b (.loop {r' with state:= .busy,pending:=pd1.map jo.code})}:=by
      have e1:({r' with state:= .busy}:Loop)={r' with state:= .busy,pending:=pd1.map jo.code}:=by rw[<- r3]
      simp only[Instr.beginRound,Sem.run_bind,jH r1,Result.andThen_ok,iq _ r1,r2,Sem.run_pure,e1]
     refine⟨_,Sk, ?_⟩
     have bp:=La.heap.ok id
     simp only[aO,S.H,aJ,if_true]at bp
     obtain⟨b2,r2',_,_,_,_,_,_,_,_,_,_⟩:=bp
     have hb:=gH (P:=P) (n:=n) (b:=nx) (rd:=true) bf r.body _ _ _ (fun _ _ h=>h) (by rw[h8];exact q2)
     refine fU (gB (P:=P) (H0:=hp o nx) (b:=nx) (cx:=⟨[],true⟩) (ro:=some b) (fun id hu=>hu) (fun h=>by cases h) r.body _ _ il a1 _ hb La) ?_
     rintro e a2 w2 ⟨x,s2,FJ,L2,DP,LV⟩
     have fin:∀ {nf m:Nat} {en:List V} {p:List Nat} {c d:IC} {st:LoopState} {pd:Option jo} (jump:Option jo) (t:Bool) (st':LoopState),t=jump.isNone->st'=(if jump.isNone then .ready else .done)->s2.o id= .loop nf m en p c d st pd->K (.d (.bool t)) (aF s2.o id (.loop nf m en p c d st' jump)) s2.nx->
      ∃v w',(Instr.endRound b (jump.map jo.code)).run P w2= .ok v w'/\l0 M φ (hp o nx) w K X (.returned v) w':=by
      intro nf m en p c d st pd jump t st' ht oi ho2 hK
      obtain⟨r3',g1,g2,g3,UM⟩:=Yn st' jump DP ho2
      refine⟨.bool t,_, ?_,FJ,_,_,_,UM.heap,UM.tr,by simp only[V.den,D.den],hK⟩
      subst ht;subst oi
      simp only[Instr.endRound,Sem.run_bind,jH g1,Result.andThen_ok,iq _ g1,Sem.run_pure,Option.isNone_map]
     cases e<;>cases x<;>first|(exact LV.elim)|skip
     ·obtain⟨nf,m,en,p,c,d,st,pd,k1,k2⟩:=L2
      exact fin none true .ready rfl rfl k1 k2
     ·rename_i j
      subst LV
      obtain⟨nf,m,en,p,c,d,st,pd,k1,k2⟩:=L2
      exact fin (some (.exit _)) false .done rfl rfl k1 k2
     ·obtain⟨nf,m,en,p,c,d,st,pd,k1,k2⟩:=L2
      exact fin (some .ret) false .done rfl rfl k1 k2
     ·obtain⟨val,rfl,k2⟩:=LV
      exact⟨tC DP,FJ,_,_,_,DP.heap,DP.tr,val,rfl,k2,L2⟩
   ·exact hq.elim
   ·exact hq.elim
   ·obtain⟨val,rfl,k2⟩:=hm
    exact⟨tC vV,il,_,_,_,vV.heap,vV.tr,val,rfl,k2,hq⟩
end
end
end Go.Proofs.YtnkamdiiakdkgaaGreat
