/-
  A PART OF THE PROOF. Conditions: none.
-/
import Derived.Test.YtealblliddhgiaaGreatMt8
set_option linter.unusedSimpArgs false
set_option linter.unusedVariables false
namespace Go.Proofs.YtealblliddhgiaaGreat
abbrev Fix(α:Type){β:Type}(_:β):Type:=α
def jM(K:V->List (Nat×ab)->Prop)(x:Fix (Option fS) K):Prop:=match x with|some (v,Δ,_)=>K v Δ|none=>False
@[go_sem] theorem LB {v:V} {Δ:List (Nat×ab)} {rd:List Nat} {K}:jM K (some (v,Δ,rd))=K v Δ:=propext Iff.rfl
@[go_sem] theorem LC {K}:jM K none=False:=propext Iff.rfl
def V.wH (c:Bool)(v:V):V:=if c=true then v else .bU []
@[go_sem] theorem Ps (b:Bool):(!!b)=b:=by simp
attribute [go_sem] true_or or_true false_or ne_eq not_false_eq_true decide_true decide_false Bool.not_true Bool.not_false Bool.and_true Bool.true_and Bool.and_false Bool.false_and Bool.or_true Bool.true_or Bool.or_false Bool.false_or beq_self_eq_true Bool.true_eq_false Bool.false_eq_true not_true_eq_false and_true true_and and_false false_and eq_self
@[go_sem] theorem V.Pt (v:V):V.wH true v=v:=rfl
@[go_sem] theorem V.NN (v:V):V.wH false v= .bU []:=rfl
def lO(c:Bool)(p:Prop):Prop:=c=true->p
@[congr] theorem J1 {c c':Bool} {p p':Prop} (h:c=c') (h2:c'=true->p=p'):lO c p=lO c' p':=by
  subst h;cases c
  ·simp[lO]
  ·simp[lO,h2 rfl]
@[go_sem] theorem LD (p:Prop):lO true p=p:=by simp[lO]
@[go_sem] theorem J2 (p:Prop):lO false p=True:=by simp[lO]
@[go_sem] theorem LF (a:Bool):lO a True=True:=by simp[lO]
def lP(v:V)(want:Bool):Option Bool:=
 match v with
 | .d (.bool b)=>some (b==want)
 | .bU []=>some false
 |_=>none
@[go_sem] theorem LG (b:Bool):lP (.d (.bool b)) true=some b:=by simp[lP]
@[go_sem] theorem J3 (b:Bool):lP (.d (.bool b)) false=some (!b):=by simp[lP]
@[go_sem] theorem Pu (want:Bool):lP (.bU []) want=some false:=rfl
@[go_sem] theorem NO (c b want:Bool):lP (V.wH c (.d (.bool b))) want=some (c&&(b==want)):=by cases c<;>simp[lP,V.wH]
@[go_sem] theorem LH (c b e want:Bool):lP (V.wH c (V.wH e (.d (.bool b)))) want=some (c&&e&&(b==want)):=by cases c<;>cases e<;>simp[lP,V.wH]
def jY(c:Bool)(x:Option fS):Option fS:=
 if c=true then(match x with|some (v,[],_)=>some (v,[],[])|_=>none)else some (.bU [],[],[])
@[congr] theorem Ie {c c':Bool} {x x':Option fS} (h:c=c') (h2:c'=true->x=x'):jY c x=jY c' x':=by
  subst h;cases c
  ·rfl
  ·simp[jY,h2 rfl]
def NP(v:V)(rd:List Nat):Option fS:=some (v,[],rd)
@[go_sem] theorem Uv (v:V) (rd:List Nat):(some (v,[],rd):Option fS)=NP v rd:=by unfold NP;exact Eq.trans rfl rfl
@[go_sem] theorem LI (c:Bool) (v:V) (rd:List Nat):jY c (NP v rd)=NP (V.wH c v) []:=by cases c<;>rfl
@[go_sem] theorem NQ {v:V} {rd:List Nat} {K}:jM K (NP v rd)=K v []:=propext Iff.rfl
@[go_sem] theorem J4 (c:Bool) (v:V) (rd:List Nat):jY c (some (v,[],rd))=some (V.wH c v,[],[]):=by cases c<;>rfl
@[go_sem] theorem Ig (x:Option fS):jY false x=some (.bU [],[],[]):=rfl
@[go_sem] theorem Pv (b x:Bool):oW (.d (.bool b)) (V.wH b (.d (.bool x))) (.d (.bool false))=some (.d (.bool (b&&x))):=by cases b<;>rfl
@[go_sem] theorem S7 (b x:Bool):oW (.d (.bool b)) (.d (.bool true)) (V.wH (!b) (.d (.bool x)))=some (.d (.bool (b||x))):=by cases b<;>rfl
@[go_sem] theorem Pw (b x:Bool):oW (.d (.bool (!b))) (.d (.bool true)) (V.wH b (.d (.bool x)))=some (.d (.bool (!b||x))):=by cases b<;>rfl
@[go_sem] theorem NR (x y:V):oW (.d (.bool true)) x y=some x:=rfl
@[go_sem] theorem LJ (x y:V):oW (.d (.bool false)) x y=some y:=rfl
@[reducible] def jZ:Op->Bool
  | .move _| .assign _| .pick .. | .load .. | .binOp .. | .unOp .. | .nilCheck _| .convert .. | .makeInterface .. | .makeFunc .. | .fieldAddr .. | .indexAddr .. | .extract .. | .build .. | .index .. | .field .. | .lookup .. =>true
  | .call c=>match c.callee with
    | .builtin .len=>true
    | .builtin .min=>true
    | .builtin .max=>true
    |_=>false
  |_=>false
def yQ(P:Program)(f:V)(args:List V)(o:Nat->ab)(rs:List D):Prop:=
 match f with
 | .func (.func g) first cap=>match bW o (first++args++cap)with
   |some ds=>bC P g ds (.ret rs)/\D.je rs=true
   |none=>False
 |_=>False
def B8(P:Program)(f:V)(args:List V)(o:Nat->ab)(K:V->Prop)(c:Fix Bool (f,args,o,K)):Prop:=
 ∃rs,lO c (yQ P f args o rs)/\K (V.wH c (gr rs))
def yR(P:Program)(g:FuncId)(nx:Nat)(K X:V->(Nat->ab)->Nat->Prop)(args:Fix (List V) (K,X))(o:Fix (Nat->ab) (K,X)):Prop:=qE P g args o nx K X
def qM(P:Program)(g:FuncId)(o:Nat->ab)(nx:Nat)(K X:V->(Nat->ab)->Nat->Prop)(ds:Fix (List D) (o,nx,K,X))(all:Fix (List V) (o,nx,K,X)):Prop:=
 sH P g ds o (put o (cH o (V.bg all))) (put o (pM o (V.bg all))) (fun v o'=>K v o' (nx+1)) (fun v o'=>X v o' (nx+1))\/qE P g all o nx K X
def ml(P:Program)(g:FuncId)(K X:V->(Nat->ab)->Nat->Prop)(s:S)(all:List V)(ds:Fix (Option (List D)) (K,X,s,all)):Prop:=
 match ds with
 |some ds=>qM P g s.o s.nx K X ds all
 |none=>yR P g s.nx K X all s.o
@[go_sem] theorem J5 {P:Program} {s:S} {ds:List D} {g:FuncId} {all:List V} {K X}:
 ml P g K X s all (some ds)=qM P g s.o s.nx K X ds all:=propext Iff.rfl
def uZ(P:Program)(id:Nat)(K X:V->(Nat->ab)->Nat->Prop)(s:S)(args:Fix (List V) (K,X,s)):Prop:=dy P id args s.o s.nx K X
@[go_sem] theorem J6 {P:Program} {s:S} {g:FuncId} {all:List V} {K X}:ml P g K X s all none=yR P g s.nx K X all s.o:=propext Iff.rfl
def qN(P:Program)(K X:V->(Nat->ab)->Nat->Prop)(s:S)(f:Fix V (K,X,s))(args:Fix (List V) (K,X,s)):Prop:=
 match f with
 | .func (.func g) first cap=>ml P g K X s (first++args++cap) (bW s.o (first++args++cap))
 | .ki id=>uZ P id K X s args
 |_=>False
@[go_sem] theorem NS {P:Program} {s:S} {id:Nat} {args:List V} {K X}:qN P K X s (.ki id) args=uZ P id K X s args:=propext Iff.rfl
@[go_sem] theorem LK {P:Program} {s:S} {g:FuncId} {first cap args:List V} {K X}:qN P K X s (.func (.func g) first cap) args=ml P g K X s (first++args++cap) (bW s.o (first++args++cap)):=propext Iff.rfl
def B9(P:Program)(g:FuncId)(o:Nat->ab)(nx:Nat)(K X:V->(Nat->ab)->Nat->Prop)(ds:Fix (List D) (o,nx,K,X))(all:Fix (List V) (o,nx,K,X)):Prop:=
 sH P g ds o (put o (cH o (V.bg all))) (put o (pM o (V.bg all))) (fun v o'=>K v o' (nx+1)) (fun v o'=>X v o' (nx+1))
def yS(P:Program)(g:FuncId)(K X:V->(Nat->ab)->Nat->Prop)(s:S)(all:List V)(ds:Fix (Option (List D)) (K,X,s,all)):Prop:=
 match ds with
 |some ds=>B9 P g s.o s.nx K X ds all
 |none=>False
@[go_sem] theorem LL {P:Program} {s:S} {ds:List D} {g:FuncId} {all:List V} {K X}:yS P g K X s all (some ds)=B9 P g s.o s.nx K X ds all:=propext Iff.rfl
def FG(P:Program)(K X:V->(Nat->ab)->Nat->Prop)(s:S)(args:Fix (List V) (K,X,s))(r:Fix (Option (FuncId×V)) (K,X,s)):Prop:=
 match r with
 |some (g,y)=>yS P g K X s (y::args) (bW s.o (y::args))
 |none=>False
@[go_sem] theorem NT {P:Program} {s:S} {g:FuncId} {y:V} {args:List V} {K X}:FG P K X s args (some (g,y))=yS P g K X s (y::args) (bW s.o (y::args)):=propext Iff.rfl
def DP(K:V->Prop)(v:Fix V K):Prop:=
 match v with
 | .d (.iface t y)=>K (.d (.iface t y))
 | .iface t y=>K (.iface t y)
 |_=>False
@[go_sem] theorem Uw {t:TypeId} {y:D} {K}:DP K (.d (.iface t y))=K (.d (.iface t y)):=propext Iff.rfl
@[go_sem] theorem Ux {t:TypeId} {y:V} {K}:DP K (.iface t y)=K (.iface t y):=propext Iff.rfl
def Ca(K:V->List (Nat×ab)->Prop)(id:Nat)(l:Fix (List (D×D)) (K,id)):Prop:=BI id l fun v Δ _=>K v Δ
def FH(K:V->List (Nat×ab)->Prop)(str:Bool)(NU:Fix (Option fS) (K,str))(left:Fix (Option (Nat×List (D×D))) (K,str)):Prop:=
 match left with
 |some (id,l)=>str=false/\Ca K id l
 |none=>jM K NU
@[go_sem] theorem NV {K} {NU:Option fS} {id:Nat} {l:List (D×D)}:FH K false NU (some (id,l))=Ca K id l:=propext ⟨fun h=>h.2,fun h=>⟨rfl,h⟩⟩
@[go_sem] theorem NW {K} {str:Bool} {NU:Option fS}:FH K str NU none=jM K NU:=propext Iff.rfl
def yT(P:Program)(X:V->S->Prop)(K:S->Prop)(o:bZ)(s:Fix S (X,K,o)):Prop:=
 match o.op with
 | .next x str=>FH (fun v Δ=>K ⟨a8 s.env o.dst v,put s.o Δ,s.nx+1⟩) str (nn s.o (s.ev x) str) (np s.o (s.ev x))
 | .call c=>match c.callee with
   | .value f=>qN P (fun v o' nx'=>K ⟨a8 s.env o.dst v,o',nx'⟩) (fun v o' nx'=>X v ⟨s.env,o',nx'⟩) s (s.ev f) (c.args.toList.map s.ev)
   | .invoke r m=>FG P (fun v o' nx'=>K ⟨a8 s.env o.dst v,o',nx'⟩) (fun v o' nx'=>X v ⟨s.env,o',nx'⟩) s (c.args.toList.map s.ev) (qD P m (s.ev r))
   |_=>jM (fun v Δ=>K ⟨a8 s.env o.dst v,put s.o Δ,s.nx+1⟩) (fP P s s.nx o.op)
 | .panic x=>DP (fun v=>X v s) (s.ev x)
 |op=>jM (fun v Δ=>K ⟨a8 s.env o.dst v,put s.o Δ,s.nx+1⟩) (fP P s s.nx op)
@[reducible] def fm:Op->Option (Operand×List Operand)
  | .call c=>match c.callee with
    | .value f=>some (f,c.args.toList)
    |_=>none
  |_=>none
def hO(A B:Prop)(t:Fix Bool (A,B)):Prop:=o8 t A B
@[go_sem] theorem LM (A B:Prop):hO A B true=A:=sI A B
@[go_sem] theorem J7 (A B:Prop):hO A B false=B:=qF A B
def A5(P:Program)(X:V->S->Prop)(K:S->Prop)(o:bZ)(s:S)(f:Operand)(args:List Operand)(c:Fix Bool (X,K,o,s,f,args)):Prop:=
 B8 P (s.ev f) (args.map s.ev) s.o (fun v=>K ⟨a8 s.env o.dst v,s.o,s.nx+1⟩) c\/hO (yT P X K o s) (K ⟨a8 s.env o.dst (.bU []),s.o,s.nx+1⟩) c
def wI(P:Program)(X:V->S->Prop)(K:S->Prop)(o:bZ)(s:S)(c:Fix (Option Bool) (X,K,o,s)):Prop:=
 match c with
 |none=>False
 |some c=>match fm o.op with
  |some (f,args)=>A5 P X K o s f args c
  |none=>if jZ o.op=true then jM (fun v _=>K ⟨a8 s.env o.dst v,s.o,s.nx+1⟩) (jY c (fP P s s.nx o.op))
   else hO (yT P X K o s) (K ⟨a8 s.env o.dst (.bU []),s.o,s.nx+1⟩) c
def rr(P:Program)(X:V->S->Prop)(K:S->Prop)(l:List bZ)(s:Fix S (X,K,l)):Prop:=
 match l with
 |[]=>K s
 |o::l=>match o.gd with
  |none=>yT P X (rr P X K l) o s
  |some (d,want)=>wI P X (rr P X K l) o s (lP (s.env d) want)
def jj(want:Bool)(A B:Prop)(v:Fix V (A,B)):Prop:=
 match v with
 | .d (.bool b)=>o8 (b==want) A B
 | .bU []=>B
 |_=>False
@[go_sem] theorem J8 (b:Bool) (A B:Prop):jj true A B (.d (.bool b))=hO A B b:=by simp[jj,hO]
@[go_sem] theorem Ih (b:Bool) (A B:Prop):jj false A B (.d (.bool b))=hO A B (!b):=by simp[jj,hO]
@[go_sem] theorem NX (want:Bool) (A B:Prop):jj want A B (.bU [])=B:=propext Iff.rfl
@[go_sem] theorem LN (c b want:Bool) (A B:Prop):jj want A B (V.wH c (.d (.bool b)))=hO A B (c&&(b==want)):=by cases c<;>simp[jj,V.wH,hO]
abbrev KD:=V->List (Nat×ab)->List Nat->Prop
abbrev XD:=V->List Nat->List Nat->Prop
def FI(P:Program)(g:FuncId)(K:KD)(X:XD)(o:Nat->ab)(rd:List Nat)(ds:Fix (List D) (K,X,o,rd))(all:Fix (List V) (K,X,o,rd)):Prop:=
 qK P g ds (fun v=>K v (cH o (V.bg all)) rd) (fun v=>K v [] rd) (fun v=>X v [] rd)
def lz(P:Program)(g:FuncId)(K:KD)(X:XD)(o:Nat->ab)(nx fr:Nat)(all:Fix (List V) (K,X,o,nx)):Prop:=iy P g all o nx fr K X
def nS(P:Program)(g:FuncId)(K:KD)(X:XD)(o:Nat->ab)(nx fr:Nat)(rd:List Nat)(ds:Fix (List D) (K,X,o,nx,rd))(all:Fix (List V) (K,X,o,nx,rd)):Prop:=FI P g K X o rd ds all\/lz P g K X o nx fr all
def p8(P:Program)(K:KD)(X:XD)(o:Nat->ab)(nx fr:Nat)(rd:List Nat)(g:FuncId)(all:List V)(ds:Fix (Option (List D)) (K,X,o,nx,rd,all)):Prop:=
 match ds with
 |some ds=>nS P g K X o nx fr rd ds all
 |none=>lz P g K X o nx fr all
@[go_sem] theorem J9 {P:Program} {o:Nat->ab} {nx fr:Nat} {rd:List Nat} {ds:List D} {g:FuncId} {all:List V} {K X}:p8 P K X o nx fr rd g all (some ds)=nS P g K X o nx fr rd ds all:=propext Iff.rfl
@[go_sem] theorem Ka {P:Program} {o:Nat->ab} {nx fr:Nat} {rd:List Nat} {g:FuncId} {all:List V} {K X}:p8 P K X o nx fr rd g all none=lz P g K X o nx fr all:=propext Iff.rfl
def yU(P:Program)(K:KD)(X:XD)(o:Nat->ab)(nx fr:Nat)(rd:Fix (List Nat) (K,X,o,nx))(f:Fix V (K,X,o,nx))(args:Fix (List V) (K,X,o,nx)):Prop:=
 match f with
 | .func (.func g) first cap=>p8 P K X o nx fr rd g (first++args++cap) (bW o (first++args++cap))
 |_=>False
@[go_sem] theorem LO {P:Program} {o:Nat->ab} {nx fr:Nat} {rd:List Nat} {g:FuncId} {first cap args:List V} {K X}:yU P K X o nx fr rd (.func (.func g) first cap) args=p8 P K X o nx fr rd g (first++args++cap) (bW o (first++args++cap)):=propext Iff.rfl
def sQ(K:KD)(rd:List Nat)(x:Fix (Option fS) (K,rd)):Prop:=match x with|some (v,Δ,_)=>K v Δ rd|none=>False
@[go_sem] theorem LP {v:V} {Δ:List (Nat×ab)} {r rd:List Nat} {K}:sQ K rd (some (v,Δ,r))=K v Δ rd:=propext Iff.rfl
@[go_sem] theorem NY {v:V} {r rd:List Nat} {K}:sQ K rd (NP v r)=K v [] rd:=propext Iff.rfl
def Hv(P:Program)(K:KD)(X:XD)(fr:Nat)(o:bZ)(s:Fix S (K,X,o)):Prop:=
 match fm o.op with
 |some (f,args)=>yU P K X s.o s.nx fr (iR s o.op) (s.ev f) (args.map s.ev)
 |none=>sQ K (iR s o.op) (fP P s fr o.op)
def yV(P:Program)(KB:List Nat->Fp->Prop)(pr:List (List Nat))(l:List bZ)(fr:Nat)(fp:Fix Fp (KB,l))(bad ws:Fix (List Nat) (KB,l))(s:Fix S (KB,l)):Prop:=gE P KB pr l fr s fp bad ws
def o9(P:Program)(K:S->Fp->Prop)(KP:V->List Nat->Fp->Prop)(pr:List (List Nat))(l:List bZ)(fr:Nat)(s:Fix S (K,KP,l))(fp:Fix Fp (K,KP,l)):Prop:=
 match l with
 |[]=>K s fp
 |o::l=>match o.gd with
  |none=>Hv P (fun v Δ rd=>o9 P K KP pr l (fr+1) ⟨a8 s.env o.dst v,put s.o Δ,s.nx⟩ (fp++[(rd,Δ.map (·.1))]))
   (fun v ws rd=>yV P (KP v) pr l (fr+1) (fp++[(rd,[])]) [fp.length] (ws++fp.flatMap (·.2)) ⟨a8 s.env o.dst .af,s.o,s.nx⟩) fr o s
  |some (d,want)=>jj want (Hv P (fun v Δ rd=>o9 P K KP pr l (fr+1) ⟨a8 s.env o.dst v,put s.o Δ,s.nx⟩ (fp++[(rd,Δ.map (·.1))]))
   (fun v ws rd=>yV P (KP v) pr l (fr+1) (fp++[(rd,[])]) [fp.length] (ws++fp.flatMap (·.2)) ⟨a8 s.env o.dst .af,s.o,s.nx⟩) fr o s)
   (o9 P K KP pr l (fr+1) ⟨a8 s.env o.dst (.bU []),s.o,s.nx⟩ (fp++[([],[])])) (s.env d)
def Ii(pr:List (List Nat))(nx:Nat)(Q:fO->S->Prop)(s:Fix S Q)(fp:Fix Fp Q):Prop:=A3 pr nx Q s fp
def u0(A B:Prop)(v:Fix V (A,B)):Prop:=
 match v with
 | .d (.bool t)=>hO A B t
 | .eK=>A/\B
 |_=>False
@[go_sem] theorem NZ (A B:Prop):u0 A B .eK=(A/\B):=propext Iff.rfl
@[go_sem] theorem LQ (t:Bool) (A B:Prop):u0 A B (.d (.bool t))=hO A B t:=propext Iff.rfl
def Cb{ι:Type}(b:Nat)(st:ι->S)(df:ι->Prop)(nT:ι->Nat)(i:ι)(s:S):Prop:=∃j,df j/\nT j<nT i/\bP b s (st j)
def sR(next:S->Prop)(Q:fO->S->Prop)(e:fO)(s:S):Prop:=match e with| .normal=>next s|e=>Q e s
section
variable {N:S->Prop}{Q:fO->S->Prop}{s:S}
@[go_sem ↓] theorem Ij:sR N Q .normal s=N s:=propext Iff.rfl
@[go_sem ↓] theorem LR {id:Nat}:sR N Q (.exit id) s=Q (.exit id) s:=propext Iff.rfl
@[go_sem ↓] theorem N0:sR N Q .ret s=Q .ret s:=propext Iff.rfl
@[go_sem ↓] theorem DS {v:V}:sR N Q (.bJ v) s=Q (.bJ v) s:=propext Iff.rfl
end
def yW(b:Nat)(body:(fO->S->Prop)->S->Prop)(Q:fO->S->Prop)(s:Fix S (body,Q)):Prop:=
 ∃ (ι:Type) (st:ι->S) (df:ι->Prop) (nT:ι->Nat) (i0:ι),df i0/\bP b s (st i0)/\∀i,df i->body (sR (Cb b st df nT i) Q) (st i)
theorem aT{ι:Type}{b:Nat}{body:(fO->S->Prop)->S->Prop}{Q:fO->S->Prop}{s:S}(st:ι->S)(df:ι->Prop)(nT:ι->Nat)(i0:ι)(h0:df i0)(hle:bP b s (st i0))
 (h:∀i,df i->body (sR (Cb b st df nT i) Q) (st i)):yW b body Q s:=⟨ι,st,df,nT,i0,h0,hle,h⟩
def A6(P:Program)(n:Nat)(rd:Bool)(ps:List Nat)(x y:IC)(Q:fO->S->Prop)(s:Fix S (x,y,Q))(g:Fix V (x,y,Q)):Prop:=rd=false/\yr P n g ps x y Q s
def lA(P:Program)(n b:Nat)(rd:Bool)(c:IC)(Q:fO->S->Prop)(s:Fix S (c,Q)):Prop:=
 match c with
 | .skip=>Q .normal s
 | .ad l=>rr P (fun v s=>Q (.bJ v) s) (Q .normal) l s
 | .cG l pr=>o9 P (Ii pr (s.nx+l.length) Q) (yN pr l s Q) pr l s.nx s []
 | .seq x y=>lA P n b rd x (oP (fun s=>lA P n b rd y Q s) Q) s
 | .cond c x y=>u0 (lA P n b rd x Q s) (lA P n b rd y Q s) (s.ev c)
 | .block id x=>lA P n b rd x (eZ id Q) s
 | .loop x=>yW b (fun Q s=>lA P n b rd x Q s) Q s
 | .exit id=>Q (.exit id) s
 | .ret=>Q .ret s
 | .C8 g ps x y=>A6 P n rd ps x y Q s (s.ev g)
 | .bad=>False
section
variable {P:Program}{n b:Nat}{rd:Bool}
theorem yX{s:S}{f:V}{args:List V}{K K':V->(Nat->ab)->Nat->Prop}{X X':V->(Nat->ab)->Nat->Prop}(hK:∀v o n,K v o n->K' v o n)(hX:∀v o n,X v o n->X' v o n)(h:qN P K X s f args):
 match(generalizing:=false) f with
  | .func (.func g) first cap=>match bW s.o (first++args++cap)with
    |some ds=>sH P g ds s.o (put s.o (cH s.o (V.bg (first++args++cap)))) (put s.o (pM s.o (V.bg (first++args++cap)))) (fun v o'=>K' v o' (s.nx+1)) (fun v o'=>X' v o' (s.nx+1))\/qE P g (first++args++cap) s.o s.nx K' X'
    |none=>qE P g (first++args++cap) s.o s.nx K' X'
  | .ki id=>dy P id args s.o s.nx K' X'
  |_=>False:=by
 unfold qN ml uZ at h
 split at h
 ·rename_i g first cap
  cases eC:bW s.o (first++args++cap)with
  |some ds=>
   simp only[eC]at h|-
   rcases h with⟨out,h1,h2|⟨h3,h2⟩|⟨h3,h2⟩⟩|h
   ·exact .inl ⟨out,h1, .inl (by cases out<;>first|exact hK _ _ _ h2|exact hX _ _ _ h2)⟩
   ·exact .inl ⟨out,h1, .inr (.inl ⟨h3,by cases out<;>first|exact hK _ _ _ h2|exact hX _ _ _ h2⟩)⟩
   ·exact .inl ⟨out,h1, .inr (.inr ⟨h3,by cases out<;>first|exact hK _ _ _ h2|exact hX _ _ _ h2⟩)⟩
   ·exact .inr (ma.mono hK hX h)
  |none=>
   simp only[eC]at h|-
   exact ma.mono hK hX h
 ·exact dy.mono hK hX h
 ·exact h.elim
theorem u5{x:Option fS}{K:V->List (Nat×ab)->Prop}(h:jM K x):∃v Δ rd,x=some (v,Δ,rd)/\K v Δ:=by
 unfold jM at h;split at h
 ·exact⟨_,_,_,rfl,h⟩
 ·exact h.elim
theorem wJ{s:S}{o:bZ}{X X':V->S->Prop}{K K':S->Prop}(hK:∀s,K s->K' s)(hX:∀v s,X v s->X' v s)(h:yT P X K o s):EE P s o X' K':=by
 unfold yT at h
 unfold EE
 have hs:∀ {op:Op},(jM (fun v Δ=>K ⟨a8 s.env o.dst v,put s.o Δ,s.nx+1⟩) (fP P s s.nx op))->(match fP P s s.nx op with|some (v,Δ,_)=>K' ⟨a8 s.env o.dst v,put s.o Δ,s.nx+1⟩|none=>False):=by
  intro op h
  obtain⟨v,Δ,rd,he,h⟩:=u5 h
  simp only[he];exact hK _ h
 split at h
 ·rename_i x str hx
  rw[hx]
  unfold FH at h
  simp only
  split at h
  ·rename_i id l hl
   simp only[hl]
   exact⟨h.1,fun e=>hK _ (h.2.1 e),fun i k x e=>hK _ (h.2.2 i k x e)⟩
  ·rename_i hl
   simp only[hl]
   exact hs (op:= .next x str) h
 ·rename_i c hc
  simp only[hc]
  split at h
  ·rename_i f hf
   simp only[hf]
   exact yX (K:=fun v o' nx'=>K ⟨a8 s.env o.dst v,o',nx'⟩) (X:=fun v o' nx'=>X v ⟨s.env,o',nx'⟩) (fun v o n h=>hK _ h) (fun v o n h=>hX _ _ h) h
  ·rename_i r m hf
   simp only[hf]
   unfold FG at h
   split at h
   ·rename_i g y hr
    simp only[hr]
    unfold yS at h
    split at h
    ·rename_i ds eC
     obtain⟨out,h1,h2⟩:=h
     refine .inl ⟨ds,eC,out,h1, ?_⟩
     rcases h2 with h2|⟨h3,h2⟩|⟨h3,h2⟩
     ·exact .inl (by cases out<;>first|exact hK _ h2|exact hX _ _ h2)
     ·exact .inr (.inl ⟨h3,by cases out<;>first|exact hK _ h2|exact hX _ _ h2⟩)
     ·exact .inr (.inr ⟨h3,by cases out<;>first|exact hK _ h2|exact hX _ _ h2⟩)
    ·exact h.elim
   ·exact h.elim
  ·rename_i hf hi
   rw[hc]at h
   obtain⟨Fb,args,ts⟩:=c
   cases Fb with
   |value f=>exact absurd rfl (hf f)
   |invoke r m=>exact absurd rfl (hi r m)
   |_=>exact hs h
 ·rename_i x hx
  simp only[hx]
  unfold DP at h
  split at h
  ·rename_i hv;simp only[hv];exact hX _ _ h
  ·rename_i hv;simp only[hv];exact hX _ _ h
  ·exact h.elim
 ·rename_i tZ hc hp
  have h2:=hs h
  cases hh:o.op<;>first
   |exact absurd hh (hc _)
   |exact absurd hh (hp _)
   |exact absurd hh (tZ _ _)
   |(rw[hh]at h2;exact h2)
theorem FJ{s:S}{o:bZ}{X:V->S->Prop}{K:S->Prop}(hp:jZ o.op=true){v:V}{Δ:List (Nat×ab)}{rd:List Nat}(he:fP P s s.nx o.op=some (v,Δ,rd))(h:K ⟨a8 s.env o.dst v,put s.o Δ,s.nx+1⟩):EE P s o X K:=by
 unfold EE
 split
 ·rename_i c hc
  split
  ·rename_i f hf;rw[hc]at hp;simp[jZ,hf]at hp
  ·rename_i r m hf;rw[hc]at hp;simp[jZ,hf]at hp
  ·rw[he];exact h
 ·rename_i x hx;rw[hx]at hp;simp[jZ]at hp
 ·rename_i x str hx;rw[hx]at hp;simp[jZ]at hp
 ·rw[he];exact h
theorem u6{X X':V->S->Prop}{K K':S->Prop}(hK:∀s,K s->K' s)(hX:∀v s,X v s->X' v s):∀ (l:List bZ) (s:S),rr P X K l s->nP P X' K' l s
 |[],s,h=>hK _ h
 |o::l,s,h=>by
  have ih:=u6 hK hX l
  unfold rr at h
  unfold nP
  cases hg:o.gd with
  |none=>
   simp only[hg]at h|-
   exact wJ ih hX h
  |some p=>
   obtain⟨d,want⟩:=p
   simp only[hg]at h|-
   unfold wI at h
   split at h
   ·exact h.elim
   ·rename_i c hc
    have LS:∀ {A B:Prop},(c=true->A)->(c=false->B)->(match s.env d with
     | .d (.bool b)=>if b=want then A else B
     | .bU []=>B
     |_=>False):=by
     intro A B hA hB
     generalize s.env d=v at hc
     unfold lP at hc
     split at hc
     ·rename_i b
      injection hc with hc
      split
      ·rename_i e;exact hA (by rw[<- hc];simp[e])
      ·rename_i e;exact hB (by rw[<- hc];simp[e])
     ·injection hc with hc
      exact hB hc.symm
     ·cases hc
    split at h
    ·rename_i f args EF
     rcases h with h|h
     case inr=>exact LS (fun Kc=>wJ ih hX (h.1 Kc)) (fun LU=>ih _ (h.2 LU))
     obtain⟨rs,h1,h2⟩:=h
     refine LS (fun Kc=> ?_) (fun LU=> ?_)
     ·unfold fm at EF
      split at EF
      ·rename_i c' yn
       split at EF
       ·rename_i f' xG
        injection EF with EF;injection EF with e1 e2;subst e1;subst e2
        have eI:=h1 Kc
        unfold EE
        simp only[yn,xG]
        unfold yQ at eI
        split at eI
        ·rename_i g first cap sy
         simp only[sy]
         split at eI
         ·rename_i ds eC
          simp only[eC]
          refine .inl ⟨.ret rs,eI.1, .inr (.inl ⟨eI.2, ?_⟩)⟩
          refine ih _ ?_
          rw[Kc]at h2
          exact h2
         ·exact eI.elim
        ·exact eI.elim
       ·cases EF
      ·cases EF
     ·refine ih _ ?_
      rw[LU]at h2
      exact h2
    ·split at h
     ·rename_i hp
      obtain⟨v,Δ,rd,he,h⟩:=u5 h
      refine LS (fun Kc=> ?_) (fun LU=> ?_)
      ·rw[Kc]at he
       simp only[jY,if_true]at he
       split at he
       ·rename_i v' uQ fj
        injection he with he;injection he with e1 e2;subst e1
        exact FJ hp fj (ih _ h)
       ·cases he
      ·rw[LU]at he
       simp only[jY]at he
       injection he with he;injection he with e1 e2;subst e1
       exact ih _ h
     ·exact LS (fun Kc=>wJ ih hX (h.1 Kc)) (fun LU=>ih _ (h.2 LU))
theorem wK{op:Op}{f:Operand}{args:List Operand}(h:fm op=some (f,args)):∃c,op= .call c/\c.callee= .value f/\c.args.toList=args:=by
 unfold fm at h
 split at h
 ·rename_i c
  split at h
  ·rename_i f' xG
   injection h with h;injection h with e1 e2;subst e1;subst e2
   exact⟨c,rfl,xG,rfl⟩
  ·cases h
 ·cases h
theorem DT{x:Option fS}{rd:List Nat}{K:KD}(h:sQ K rd x):∃v Δ r,x=some (v,Δ,r)/\K v Δ rd:=by
 unfold sQ at h;split at h
 ·exact⟨_,_,_,rfl,h⟩
 ·exact h.elim
theorem iy.mono {P:Program}{g:FuncId}{args:List V}{o:Nat->ab}{nx fr:Nat}{K K':KD}{X X':XD}(hK:∀v Δ r,K v Δ r->K' v Δ r)(hX:∀v w r,X v w r->X' v w r)(h:iy P g args o nx fr K X):iy P g args o nx fr K' X':=by
 obtain⟨rd,Δ,h1,⟨rs,h2,h3⟩|⟨x,h2,h3⟩|⟨v,h2,h3⟩⟩:=h
 ·exact⟨rd,Δ,h1, .inl ⟨rs,h2,hK _ _ _ h3⟩⟩
 ·exact⟨rd,Δ,h1, .inr (.inl ⟨x,h2,hX _ _ _ h3⟩)⟩
 ·exact⟨rd,Δ,h1, .inr (.inr ⟨v,h2,hK _ _ _ h3⟩)⟩
theorem qK.mono {P:Program}{g:FuncId}{ds:List D}{Kf Kb KX Xq Xr Xs:V->Prop}(h1:∀v,Kf v->Xq v)(h2:∀v,Kb v->Xr v)(h3:∀v,KX v->Xs v)(h:qK P g ds Kf Kb KX):qK P g ds Xq Xr Xs:=by
 rcases h with⟨rs,a,b|⟨b,c⟩⟩|⟨x,a,b,c⟩|⟨v,a,b⟩
 ·exact .inl ⟨rs,a, .inl (h1 _ b)⟩
 ·exact .inl ⟨rs,a, .inr ⟨b,h2 _ c⟩⟩
 ·exact .inr (.inl ⟨x,a,b,h3 _ c⟩)
 ·exact .inr (.inr ⟨v,a,h1 _ b⟩)
theorem Cc{s:S}{fr:Nat}{o:bZ}{K K':KD}{X X':XD}(hK:∀v Δ r,K v Δ r->K' v Δ r)(hX:∀v w r,X v w r->X' v w r)(h:Hv P K X fr o s):xJ P s fr o K' X':=by
 unfold Hv at h
 split at h
 ·rename_i f args EF
  obtain⟨c,h1,h2,h3⟩:=wK EF
  subst h3
  unfold xJ
  simp only[h1,h2]
  unfold yU p8 at h
  split at h
  ·rename_i g first cap hf
   simp only[hf]
   split at h
   ·rename_i ds eC
    simp only[eC]
    refine h.elim (fun h=> .inl ?_) (fun h=> .inr (iy.mono hK hX h))
    refine qK.mono (fun v h=> ?_) (fun v h=> ?_) (fun v h=> ?_) h<;>(rw[h1]at h)
    ·exact hK _ _ _ h
    ·exact hK _ _ _ h
    ·exact hX _ _ _ h
   ·rename_i eC
    simp only[eC]
    exact iy.mono hK hX h
  ·exact h.elim
 ·rename_i EF
  obtain⟨v,Δ,rd,he,h⟩:=DT h
  unfold xJ
  split
  ·rename_i c hc
   split
   ·rename_i f hf
    exact absurd EF (by simp[fm,hc,hf])
   ·simp only[he];exact hK _ _ _ h
  ·simp only[he];exact hK _ _ _ h
theorem yY{s:S}{fr:Nat}{o:bZ}{K K':KD}{X X':XD}(hK:∀v Δ r,K v Δ r->K' v Δ r)(hX:∀v w r,X v w r->X' v w r)(h:xJ P s fr o K X):xJ P s fr o K' X':=by
 unfold xJ at h|-
 split at h
 ·rename_i c hc
  rw[hc]at h|-
  split at h
  ·rename_i f hf
   (try simp only[hf])
   split at h
   ·rename_i sy
    (try simp only[sy])
    split at h
    ·exact h.elim (fun h=> .inl (qK.mono (fun v h=>hK _ _ _ h) (fun v h=>hK _ _ _ h) (fun v h=>hX _ _ _ h) h)) (fun h=> .inr (iy.mono hK hX h))
    ·exact iy.mono hK hX h
   ·exact h.elim
  ·rename_i hf
   split at h
   ·rename_i he
    (try simp only[he])
    exact hK _ _ _ h
   ·exact h.elim
 ·split at h
  ·rename_i he
   (try simp only[he]);exact hK _ _ _ h
  ·exact h.elim
theorem iS{KB Xt:List Nat->Fp->Prop}{pr:List (List Nat)}(hK:∀l fp,KB l fp->Xt l fp):∀ (l:List bZ) (fr:Nat) (s:S) (fp:Fp) (bad ws:List Nat),gE P KB pr l fr s fp bad ws->gE P Xt pr l fr s fp bad ws
 |[],_,_,_,_,_,h=>hK _ _ h
 |o::l,fr,s,fp,bad,ws,h=>by
  unfold gE at h|-
  split
  ·rename_i hb
   rw[if_pos hb]at h
   exact iS hK l _ _ _ _ _ h
  ·rename_i hb
   rw[if_neg hb]at h
   split at h
   ·exact yY (fun v Δ r h=>iS hK l _ _ _ _ _ h) (fun _ _ _ h=>h) h
   ·split at h
    ·split at h
     ·rename_i e;simp only[e,if_true]
      exact yY (fun v Δ r h=>iS hK l _ _ _ _ _ h) (fun _ _ _ h=>h) h
     ·rename_i e;simp only[e,if_false]
      exact iS hK l _ _ _ _ _ h
    ·exact iS hK l _ _ _ _ _ h
    ·exact h.elim
theorem kB{K K':S->Fp->Prop}{KP Uy:V->List Nat->Fp->Prop}{pr:List (List Nat)}(hK:∀s fp,K s fp->K' s fp)(hP:∀v l fp,KP v l fp->Uy v l fp):∀ (l:List bZ) (fr:Nat) (s:S) (fp:Fp),o9 P K KP pr l fr s fp->jX P K' Uy pr l fr s fp
 |[],_,_,_,h=>hK _ _ h
 |o::l,fr,s,fp,h=>by
  have hB:∀v ws (Uz:List Nat),yV P (KP v) pr l (fr+1) (fp++[(Uz,[])]) [fp.length] (ws++fp.flatMap (·.2)) ⟨a8 s.env o.dst .af,s.o,s.nx⟩->
   gE P (Uy v) pr l (fr+1) ⟨a8 s.env o.dst .af,s.o,s.nx⟩ (fp++[(Uz,[])]) [fp.length] (ws++fp.flatMap (·.2)):=fun v ws Uz h=>iS (fun a b h=>hP v a b h) l _ _ _ _ _ h
  unfold o9 at h
  unfold jX
  split at h
  ·rename_i hg
   (try simp only[hg])
   exact Cc (fun v Δ r h=>kB hK hP l _ _ _ h) hB h
  ·rename_i d want hg
   (try simp only[hg])
   generalize s.env d=v at h
   unfold jj at h
   split at h
   ·rename_i bb
    by_cases e:bb=want
    ·subst e
     simp only[if_true]
     exact Cc (fun v Δ r h=>kB hK hP l _ _ _ h) hB (h.1 (by simp))
    ·simp only[if_neg e]
     exact kB hK hP l _ _ _ (h.2 (by simpa using e))
   ·exact kB hK hP l _ _ _ h
   ·exact h.elim
theorem dO:∀ (c:IC) (Q Q':fO->S->Prop) (s:S),(∀e s,Q e s->Q' e s)->lA P n b rd c Q s->rD P n b rd c Q' s
 | .skip,_,_,_,hQ,h=>hQ _ _ h
 | .ad l,_,_,_,hQ,h=>u6 (fun s h=>hQ _ _ h) (fun v s h=>hQ _ _ h) l _ h
 | .cG l pr,_,_,_,hQ,h=> .inl (kB (fun s fp h=>⟨h.1,hQ _ _ h.2⟩) (fun v l fp h=>⟨h.1,hQ _ _ h.2⟩) l _ _ _ h)
 | .seq x y,Q,Q',s,hQ,h=>dO x _ _ s (fun e s h=>by
  unfold oP at h|-
  cases e with
  |normal=>exact dO y _ _ s hQ h
  |_=>exact hQ _ _ h) h
 | .cond c x y,Q,Q',s,hQ,h=>by
   unfold lA u0 hO at h
   unfold rD
   split at h
   ·rename_i t ht
    simp only[ht]
    exact⟨fun e=>dO x _ _ s hQ (h.1 e),fun e=>dO y _ _ s hQ (h.2 e)⟩
   ·rename_i ht
    simp only[ht]
    exact⟨dO x _ _ s hQ h.1,dO y _ _ s hQ h.2⟩
   ·exact h.elim
 | .block id x,Q,Q',s,hQ,h=>dO x _ _ s (fun e s h=>by
  unfold eZ at h|-
  cases e with
  |exit j=>
   simp only at h|-
   split
   ·rename_i e;rw[if_pos e]at h;exact hQ _ _ h
   ·rename_i e;rw[if_neg e]at h;exact hQ _ _ h
  |_=>exact hQ _ _ h) h
 | .loop x,Q,Q',s,hQ,h=>by
   obtain⟨ι,st,df,nT,i0,h0,hle,h2⟩:=h
   refine⟨fun m s=>∃i,df i/\nT i=m/\s=st i,⟨nT i0,st i0,hle,i0,h0,rfl,rfl⟩, ?_⟩
   rintro m s0 ⟨i,hg,rfl,rfl⟩
   refine dO x _ _ _ (fun e s h=> ?_) (h2 i hg)
   cases e with
   |normal=>
    obtain⟨j,k1,k2,k3⟩:=h
    exact⟨nT j,st j,k2,k3,j,k1,rfl,rfl⟩
   |_=>exact hQ _ _ h
 | .exit id,_,_,_,hQ,h=>hQ _ _ h
 | .ret,_,_,_,hQ,h=>hQ _ _ h
 | .C8 g ps x y,_,_,_,hQ,h=>⟨h.1,uY hQ h.2⟩
 | .bad,_,_,_,_,h=>h.elim
end
theorem bC.aV {P:Program}(bc:P.follows .mixedOrders=true){f:FuncId}{n:Nat}{ic:IC}{rs:List ResultVar}{ds:List D}{out:R}(hf:aO P f n ic rs)(hl:ds.length<=n)
 (h:lA P n 0 false ic (AF P rs out) ⟨b9 (ds.map .d),fun _=> .no,0⟩):bC P f ds out:=
 bC.sP bc hf hl (dO ic _ _ _ (fun _ _ h=>h) h)
def p9(P:Program)(rs:List ResultVar)(K X:V->(Nat->ab)->Nat->Prop)(e:fO)(s:S):Prop:=lu P rs K X e s
theorem eR.aV {P:Program}(bc:P.follows .mixedOrders=true){f:FuncId}{n:Nat}{ic:IC}{rs:List ResultVar}{args:List V}{o:Nat->ab}{nx:Nat}{K X:V->(Nat->ab)->Nat->Prop}(hf:aO P f n ic rs)(hl:args.length<=n)
 (h:lA P n nx false ic (p9 P rs K X) ⟨b9 args,o,nx⟩):eR P f args o nx K X:=
 eR.sP bc hf hl (dO ic _ _ _ (fun _ _ h=>h) h)
section
variable {P:Program}{g:FuncId}{ds:List D}{o:Nat->ab}{nx:Nat}{K X:V->(Nat->ab)->Nat->Prop}{all:List V}
theorem ay{rs:List D}(h:bC P g ds (.ret rs))(hf:D.je rs=true)(hk:K (gr rs) o (nx+1)):qM P g o nx K X ds all:= .inl ⟨.ret rs,h, .inr (.inl ⟨hf,hk⟩)⟩
theorem A7{rs:List D}(h:bC P g ds (.ret rs))(hk:K (gr rs) (put o (cH o (V.bg all))) (nx+1)):B9 P g o nx K X ds all:=⟨.ret rs,h, .inl hk⟩
theorem aU{rs:List D}(h:bC P g ds (.ret rs))(hk:K (gr rs) (put o (cH o (V.bg all))) (nx+1)):qM P g o nx K X ds all:= .inl ⟨.ret rs,h, .inl hk⟩
theorem yZ{x:D}(h:bC P g ds (.bJ x))(hf:x.flat=true)(hk:X (.d x) o (nx+1)):qM P g o nx K X ds all:= .inl ⟨.bJ x,h, .inr (.inl ⟨hf,hk⟩)⟩
theorem cB(h:eR P g all o nx K X):qM P g o nx K X ds all:= .inr (.inl h)
theorem jN{e:Nat->V}{ds:Option (List D)}(h:eR P g all o nx K X):ml P g K X ⟨e,o,nx⟩ all ds:=by
 cases ds with
 |some ds=>exact(.inr (.inl h):qM P g o nx K X ds all)
 |none=>exact(.inl h:yR P g nx K X all o)
theorem dP(h:eR P g all o nx K X):yR P g nx K X all o:= .inl h
variable {K:KD}{X:XD}{rd:List Nat}{fr:Nat}
theorem bp{rs:List D}(h:bC P g ds (.ret rs))(hf:D.je rs=true)(hk:K (gr rs) [] rd):nS P g K X o nx fr rd ds all:= .inl (.inl ⟨rs,h, .inr ⟨hf,hk⟩⟩)
theorem cc{rs:List D}(h:bC P g ds (.ret rs))(hk:K (gr rs) (cH o (V.bg all)) rd):nS P g K X o nx fr rd ds all:= .inl (.inl ⟨rs,h, .inl hk⟩)
end
theorem dE{P:Program}{f:V}{args:List V}{o:Nat->ab}{K:V->Prop}{c:Bool}(rs:List D)(h:lO c (yQ P f args o rs))(hk:K (V.wH c (gr rs))):B8 P f args o K c:=⟨rs,h,hk⟩
theorem ak{t:Bool}{A B:Prop}(h:t=true->A)(h2:t=false->B):hO A B t:=⟨h,h2⟩
theorem aP{pr:List (List Nat)}{nx:Nat}{Q:fO->S->Prop}{s:S}{fp:List (List Nat×List Nat)}(h:eg pr fp=true)(h2:Q .normal ⟨s.env,s.o,nx⟩):Ii pr nx Q s fp:=⟨h,h2⟩
@[go_sem] theorem sS (o:Nat->ab):put o []=o:=rfl
@[go_sem] theorem mU (o:Nat->ab) (x:Nat×ab) (l:List (Nat×ab)):put o (x::l)=put (ax o x.1 x.2) l:=rfl
@[go_sem] theorem aa {α:Type} (f:Nat->α) (i:Nat) (x:α):ax f i x i=x:=by simp
@[go_sem] theorem ae {α:Type} (f:Nat->α) (i j:Nat) (x:α) (h:j≠i):ax f i x j=f j:=by simp[h]
@[go_sem] theorem Ik (v:V) (l:List V):b9 (v::l) 0=v:=rfl
@[go_sem] theorem Il (v:V) (l:List V) (i:Nat):b9 (v::l) (i+1)=b9 l i:=rfl
@[go_sem] theorem Kd (i:Nat):b9 [] i= .bU []:=by simp[b9]
@[go_sem] theorem N1 {P:Program} {o:Nat->ab} {t:TypeId} {id off:Nat}:mf P o t (.ptr id off)=match o id with
 | .row cs=>match eD P t cs off with
   |some v=>some (v,[],[id])
   |none=>none
 |_=>none:=by unfold mf;exact Eq.trans rfl rfl
@[go_sem] theorem Px {P:Program} {o:Nat->ab} {t:TypeId} {cs:List D} {off:Nat}:mf P o t (.pp cs off)=match eD P t (cs.map .d) off with
 |some v=>some (v,[],[])
 |none=>none:=by unfold mf;exact Eq.trans rfl rfl
@[go_sem] theorem Py {P:Program} {o:Nat->ab} {t:TypeId} {id ep i sz off:Nat}:mf P o t (.pe id ep i sz off)=match o id with
 | .arr gw _ m8 es=>if ep=gw/\sz=m8 then match es[i]? with
  |some e=>match eD P t (e.cells.map .d) off with
   |some v=>some (v,[],[id])
   |none=>none
  |none=>none
   else none
 |_=>none:=by unfold mf;exact Eq.trans rfl rfl
section
variable {P:Program}{o:Nat->ab}{t:TypeId}{op:BinOp}{nG:Bool}
@[go_sem] theorem N2 {k:IntKind} {a b:Int}:dn P o op t nG (.d (.int k a)) (.d (.int k b))=match yy op k a b with
 |some v=>one v
 |none=>pR P o op t nG (.d (.int k a)) (.d (.int k b)):=by
  simp only[dn,wk,if_true]
  cases yy op k a b<;>rfl
@[go_sem] theorem N3 {a b:Bool} (h:aS P t=true):dn P o .eql t nG (.d (.bool a)) (.d (.bool b))=one (.d (.bool (a==b))):=by simp only[dn,wk,Fq,h,if_true]
@[go_sem] theorem N4 {a b:Bool} (h:aS P t=true):dn P o .neq t nG (.d (.bool a)) (.d (.bool b))=one (.d (.bool (a !=b))):=by simp only[dn,wk,Fq,h,if_true]
@[go_sem] theorem N5 {a b:List UInt8}:dn P o .eql t nG (.d (.str a)) (.d (.str b))=one (.d (.bool (a==b))):=by unfold dn;exact Eq.trans rfl rfl
@[go_sem] theorem N6 {a b:List UInt8}:dn P o .neq t nG (.d (.str a)) (.d (.str b))=one (.d (.bool (a !=b))):=by unfold dn;exact Eq.trans rfl rfl
@[go_sem] theorem N7 {a b:List D}:dn P o op t nG (.d (.agg a)) (.d (.agg b))=pR P o op t nG (.d (.agg a)) (.d (.agg b)):=by unfold dn;exact Eq.trans rfl rfl
theorem pa{x:V}{y:V}(h:match y with| .d (.int _ _)| .d (.bool _)| .d (.str _)=>False|_=>True):wk P op t x y=none:=by
 unfold wk
 split<;>first|exact h.elim|rfl
@[go_sem] theorem LV {x:V}:dn P o op t nG x .br=pR P o op t nG x .br:=by unfold dn;rw[pa trivial]
@[go_sem] theorem LW {x:V}:dn P o op t nG x (.d .eh)=pR P o op t nG x (.d .eh):=by unfold dn;rw[pa trivial]
@[go_sem] theorem LX {x:V}:dn P o op t nG x (.d .gx)=pR P o op t nG x (.d .gx):=by unfold dn;rw[pa trivial]
@[go_sem] theorem LY {x:V}:dn P o op t nG x (.d .a7)=pR P o op t nG x (.d .a7):=by unfold dn;rw[pa trivial]
@[go_sem] theorem LZ {x:V}:dn P o op t nG x (.d .cU)=pR P o op t nG x (.d .cU):=by unfold dn;rw[pa trivial]
@[go_sem] theorem Pz {b:Bool}:yz .not (.d (.bool b))=some (.d (.bool !b)):=by unfold yz;exact Eq.trans rfl rfl
@[go_sem] theorem PA:yz .not .eK=some .eK:=by unfold yz;exact Eq.trans rfl rfl
@[go_sem] theorem PB {k:IntKind} {n:Int}:yz .neg (.d (.int k n))=some (.d (.int k (k.wrap (-n)))):=by unfold yz;exact Eq.trans rfl rfl
end
@[go_sem] theorem D.N8 (cs:List D):(D.agg cs).cells=cs:=rfl
@[go_sem] theorem D.N9 (k:IntKind) (n:Int):(D.int k n).cells=[.int k n]:=rfl
@[go_sem] theorem D.L0 (b:Bool):(D.bool b).cells=[.bool b]:=rfl
@[go_sem] theorem D.Oa (b:List UInt8):(D.str b).cells=[.str b]:=rfl
@[go_sem] theorem D.PC (b:List D):(D.sl b).cells=[.sl b]:=rfl
@[go_sem] theorem D.PD (a b:List D):(D.mp a b).cells=[.mp a b]:=rfl
@[go_sem] theorem D.Ke (t:TypeId) (x:D):(D.iface t x).cells=[.iface t x]:=rfl
@[go_sem] theorem D.L1:D.eh.cells=[.eh]:=rfl
@[go_sem] theorem D.L2:D.gx.cells=[.gx]:=rfl
@[go_sem] theorem D.L3:D.a7.cells=[.a7]:=rfl
@[go_sem] theorem D.L4:D.cU.cells=[.cU]:=rfl
attribute [go_sem] V.ofConst V.da yy Fq oX AO uP nu gB gC pY fL lx oY oZ o6 wm iP Fs lj dI bW eD vL qu ff V.cells D.put cH V.ids V.bg gr D.je D.flat R.flat
attribute [go_sem] Aj List.take_succ_cons List.take_zero List.take_nil List.drop_zero List.drop_succ_cons List.drop_nil
attribute [go_sem] List.map_cons List.map_nil List.length_cons List.length_nil List.cons_append List.nil_append List.append_nil List.getElem?_cons_zero List.getElem?_cons_succ Option.bind_some Option.bind_none Option.map_some Option.map_none ab.bN ab.ba
section
variable {P:Program}{n b:Nat}{rd:Bool}{Q:fO->S->Prop}{s:S}
@[go_sem] theorem PE:lA P n b rd .skip Q s=Q .normal s:=propext Iff.rfl
@[go_sem] theorem S8 {l:List bZ}:lA P n b rd (.ad l) Q s=rr P (fun v s=>Q (.bJ v) s) (Q .normal) l s:=propext Iff.rfl
@[go_sem] theorem S9 {l:List bZ} {pr:List (List Nat)}:lA P n b rd (.cG l pr) Q s=o9 P (Ii pr (s.nx+l.length) Q) (yN pr l s Q) pr l s.nx s []:=propext Iff.rfl
@[go_sem] theorem Ta {x y:IC}:lA P n b rd (.seq x y) Q s=lA P n b rd x (oP (fun s=>lA P n b rd y Q s) Q) s:=propext Iff.rfl
@[go_sem] theorem PF {c:Operand} {x y:IC}:lA P n b rd (.cond c x y) Q s=u0 (lA P n b rd x Q s) (lA P n b rd y Q s) (s.ev c):=propext Iff.rfl
@[go_sem] theorem Ob {id:Nat} {x:IC}:lA P n b rd (.block id x) Q s=lA P n b rd x (eZ id Q) s:=propext Iff.rfl
@[go_sem] theorem PG {x:IC}:lA P n b rd (.loop x) Q s=yW b (fun Q s=>lA P n b rd x Q s) Q s:=propext Iff.rfl
@[go_sem] theorem PH {id:Nat}:lA P n b rd (.exit id) Q s=Q (.exit id) s:=propext Iff.rfl
@[go_sem] theorem Tb:lA P n b rd .ret Q s=Q .ret s:=propext Iff.rfl
@[go_sem] theorem Tc {g:Operand} {ps:List Nat} {x y:IC}:lA P n b rd (.C8 g ps x y) Q s=A6 P n rd ps x y Q s (s.ev g):=propext Iff.rfl
@[go_sem] theorem PI {X:V->S->Prop} {K:S->Prop}:rr P X K [] s=K s:=propext Iff.rfl
@[go_sem] theorem Oc {X:V->S->Prop} {K:S->Prop} {d:Option Nat} {op:Op} {l:List bZ}:rr P X K (⟨d,op,none⟩::l) s=yT P X (rr P X K l) ⟨d,op,none⟩ s:=propext Iff.rfl
@[go_sem] theorem Od {X:V->S->Prop} {K:S->Prop} {d:Option Nat} {op:Op} {g:Nat} {w:Bool} {l:List bZ}:rr P X K (⟨d,op,some (g,w)⟩::l) s=wI P X (rr P X K l) ⟨d,op,some (g,w)⟩ s (lP (s.env g) w):=propext Iff.rfl
variable {X:V->S->Prop}{K:S->Prop}{d:Option Nat}{op:Op}{g:Option (Nat×Bool)}{f:Operand}{args:Array Operand}{ts:Array TypeId}{c:Bool}
@[reducible] def Oe:Op->Bool
  | .call c=>match c.callee with
    | .value _=>true
    | .invoke .. =>true
    |_=>false
  | .panic _=>true
  | .next .. =>true
  |_=>false
@[go_sem] theorem UA (h:Oe op=false):yT P X K ⟨d,op,g⟩ s=jM (fun v Δ=>K ⟨a8 s.env d v,put s.o Δ,s.nx+1⟩) (fP P s s.nx op):=by
  unfold yT
  cases op with
  |call c=>
   obtain⟨Fb,args,ts⟩:=c
   cases Fb with
   |value f=>simp[Oe]at h
   |invoke r m=>simp[Oe]at h
   |_=>rfl
  |panic x=>simp[Oe]at h
  |next x str=>simp[Oe]at h
  |_=>rfl
@[go_sem] theorem PJ {x:Operand} {str:Bool}:yT P X K ⟨d, .next x str,g⟩ s=FH (fun v Δ=>K ⟨a8 s.env d v,put s.o Δ,s.nx+1⟩) str (nn s.o (s.ev x) str) (np s.o (s.ev x)):=propext Iff.rfl
@[go_sem] theorem PK:yT P X K ⟨d, .call ⟨.value f,args,ts⟩,g⟩ s=qN P (fun v o' nx'=>K ⟨a8 s.env d v,o',nx'⟩) (fun v o' nx'=>X v ⟨s.env,o',nx'⟩) s (s.ev f) (args.toList.map s.ev):=propext Iff.rfl
@[go_sem] theorem L5 {m:String}:yT P X K ⟨d, .call ⟨.invoke f m,args,ts⟩,g⟩ s=FG P (fun v o' nx'=>K ⟨a8 s.env d v,o',nx'⟩) (fun v o' nx'=>X v ⟨s.env,o',nx'⟩) s (args.toList.map s.ev) (qD P m (s.ev f)):=propext Iff.rfl
@[go_sem] theorem Of:yT P X K ⟨d, .panic f,g⟩ s=DP (fun v=>X v s) (s.ev f):=propext Iff.rfl
@[go_sem] theorem Og:wI P X K ⟨d, .call ⟨.value f,args,ts⟩,g⟩ s (some c)=A5 P X K ⟨d, .call ⟨.value f,args,ts⟩,g⟩ s f args.toList c:=propext Iff.rfl
theorem eF{e:Nat->V}{ob:Nat->ab}{nx:Nat}(h:B8 P ((⟨e,ob,nx⟩:S).ev f) (args.toList.map (⟨e,ob,nx⟩:S).ev) ob (fun v=>K ⟨a8 e d v,ob,nx+1⟩) c):A5 P X K ⟨d,op,g⟩ ⟨e,ob,nx⟩ f args.toList c:= .inl h
theorem y0{s:S}{o:bZ}{l:List Operand}(h:hO (yT P X K o s) (K ⟨a8 s.env o.dst (.bU []),s.o,s.nx+1⟩) c):A5 P X K o s f l c:= .inr h
@[go_sem] theorem Oh (h:jZ op=true):wI P X K ⟨d,op,g⟩ s (some c)=jM (fun v _=>K ⟨a8 s.env d v,s.o,s.nx+1⟩) (jY c (fP P s s.nx op)):=by
  have h2:fm op=none:=by
   cases hc:fm op with
   |none=>rfl
   |some x=>
    exfalso
    unfold fm at hc
    split at hc
    ·split at hc
     ·rename_i hv;simp[jZ,hv]at h
     ·cases hc
    ·cases hc
  simp only[wI,h2,h,if_true]
@[go_sem] theorem Oi (h:jZ op=false) (h2:fm op=none):wI P X K ⟨d,op,g⟩ s (some c)=hO (yT P X K ⟨d,op,g⟩ s) (K ⟨a8 s.env d (.bU []),s.o,s.nx+1⟩) c:=by
  simp[wI,h2,h]
@[go_sem] theorem L6 {l:List Operand}:A5 P X K ⟨d,op,g⟩ s f l false=K ⟨a8 s.env d (.bU []),s.o,s.nx+1⟩:=by
  refine propext ⟨fun h=> ?_,fun h=> .inr ⟨(fun e=>by cases e),fun _=>h⟩⟩
  rcases h with⟨rs,_,h⟩|h
  ·exact h
  ·exact h.2 rfl
@[go_sem] theorem Oj {l:List Operand} (hl:args.toList=l):A5 P X K ⟨d, .call ⟨.value f,args,ts⟩,g⟩ s f l true=yT P X K ⟨d, .call ⟨.value f,args,ts⟩,g⟩ s:=by
  subst hl
  refine propext ⟨fun h=> ?_,fun h=> .inr ⟨fun _=>h,(fun e=>by cases e)⟩⟩
  rcases h with⟨rs,h1,h⟩|h
  ·have h1:=h1 rfl
   unfold yQ at h1
   unfold yT qN ml
   simp only
   split at h1
   ·rename_i fv gg first cap hf
    simp only[hf]
    split at h1
    ·rename_i ds eC
     simp only[eC]
     exact .inl ⟨.ret rs,h1.1, .inr (.inl ⟨h1.2,h⟩)⟩
    ·exact h1.elim
   ·exact h1.elim
  ·exact h.1 rfl
variable {KV:KD}{XV:XD}
@[go_sem] theorem PL {fr:Nat}:Hv P KV XV fr ⟨d, .call ⟨.value f,args,ts⟩,g⟩ s=yU P KV XV s.o s.nx fr (iR s (.call ⟨.value f,args,ts⟩)) (s.ev f) (args.toList.map s.ev):=propext Iff.rfl
@[go_sem] theorem UB {fr:Nat} (h2:fm op=none):Hv P KV XV fr ⟨d,op,g⟩ s=sQ KV (iR s op) (fP P s fr op):=by simp[Hv,h2]
variable {KS:S->Prop}
@[go_sem ↓] theorem Im:oP KS Q .normal s=KS s:=propext Iff.rfl
@[go_sem ↓] theorem L7 {id:Nat}:oP KS Q (.exit id) s=Q (.exit id) s:=propext Iff.rfl
@[go_sem ↓] theorem Ol:oP KS Q .ret s=Q .ret s:=propext Iff.rfl
@[go_sem ↓] theorem DU {v:V}:oP KS Q (.bJ v) s=Q (.bJ v) s:=propext Iff.rfl
@[go_sem ↓] theorem Hw {id:Nat}:eZ id Q .normal s=Q .normal s:=propext Iff.rfl
@[go_sem ↓] theorem Kg {id:Nat}:eZ id Q (.exit id) s=Q .normal s:=by simp[eZ]
@[go_sem ↓] theorem Io {id j:Nat} (h:j≠id):eZ id Q (.exit j) s=Q (.exit j) s:=by simp[eZ,h]
@[go_sem ↓] theorem L8 {id:Nat}:eZ id Q .ret s=Q .ret s:=propext Iff.rfl
@[go_sem ↓] theorem sT {id:Nat} {v:V}:eZ id Q (.bJ v) s=Q (.bJ v) s:=propext Iff.rfl
def Ip(out:R)(x:Option (List D)):Prop:=match x with|some ds=>out= .ret ds|none=>False
@[go_sem] theorem Om {out:R} {ds:List D}:Ip out (some ds)=(out= .ret ds):=propext Iff.rfl
def L9(out:R)(x:Option D):Prop:=match x with|some d=>out= .bJ d|none=>False
@[go_sem] theorem On {out:R} {d:D}:L9 out (some d)=(out= .bJ d):=propext Iff.rfl
def Iq(out:R)(o:Nat->ab)(x:Option (List V)):Prop:=match x with|some vs=>Ip out (bW o vs)|none=>False
@[go_sem] theorem Oo {out:R} {o:Nat->ab} {vs:List V}:Iq out o (some vs)=Ip out (bW o vs):=propext Iff.rfl
variable {rs:List ResultVar}{out:R}
@[go_sem ↓] theorem Oq:AF P rs out .ret s=Iq out s.o (lj P s rs):=propext Iff.rfl
@[go_sem ↓] theorem Ir:AF P rs out .normal s=Iq out s.o (lj P s rs):=propext Iff.rfl
@[go_sem ↓] theorem Ot {v:V}:AF P rs out (.bJ v) s=L9 out (dI s.o v):=propext Iff.rfl
def y9(K:V->(Nat->ab)->Nat->Prop)(o:Nat->ab)(nx:Nat)(x:Fix (Option (List V)) (K,o,nx)):Prop:=match x with
 |some [v]=>K v o nx
 |some vs=>K (.bU vs) o nx
 |none=>False
@[go_sem] theorem PM {K:V->(Nat->ab)->Nat->Prop} {o:Nat->ab} {nx:Nat} {v:V}:y9 K o nx (some [v])=K v o nx:=propext Iff.rfl
@[go_sem] theorem PN {K:V->(Nat->ab)->Nat->Prop} {o:Nat->ab} {nx:Nat}:y9 K o nx (some [])=K (.bU []) o nx:=propext Iff.rfl
@[go_sem] theorem PO {K:V->(Nat->ab)->Nat->Prop} {o:Nat->ab} {nx:Nat} {v u:V} {l:List V}:y9 K o nx (some (v::u::l))=K (.bU (v::u::l)) o nx:=propext Iff.rfl
theorem Cd{K X:V->(Nat->ab)->Nat->Prop}:lu P rs K X .ret s=y9 K s.o s.nx (lj P s rs):=by
 unfold lu y9
 cases lj P s rs with
 |none=>rfl
 |some l=>match l with
  |[]=>rfl
  |[_]=>rfl
  |_::_::_=>rfl
@[go_sem ↓] theorem PQ {K X:V->(Nat->ab)->Nat->Prop}:p9 P rs K X .ret s=y9 K s.o s.nx (lj P s rs):=Cd
@[go_sem ↓] theorem Kh {K X:V->(Nat->ab)->Nat->Prop}:p9 P rs K X .normal s=y9 K s.o s.nx (lj P s rs):=(Cd (X:=X):lu P rs K X .ret s=_)
@[go_sem ↓] theorem zc {K X:V->(Nat->ab)->Nat->Prop} {v:V}:p9 P rs K X (.bJ v) s=X v s.o s.nx:=propext Iff.rfl
variable {KE:S->Fp->Prop}{KP:V->List Nat->Fp->Prop}{pr:List (List Nat)}{fr:Nat}{fp:Fp}
@[go_sem] theorem PR:o9 P KE KP pr [] fr s fp=KE s fp:=propext Iff.rfl
@[go_sem] theorem Ou {d:Option Nat} {op:Op} {l:List bZ}:o9 P KE KP pr (⟨d,op,none⟩::l) fr s fp=
 Hv P (fun v Δ rd=>o9 P KE KP pr l (fr+1) ⟨a8 s.env d v,put s.o Δ,s.nx⟩ (fp++[(rd,Δ.map (·.1))]))
  (fun v ws rd=>yV P (KP v) pr l (fr+1) (fp++[(rd,[])]) [fp.length] (ws++fp.flatMap (·.2)) ⟨a8 s.env d .af,s.o,s.nx⟩) fr ⟨d,op,none⟩ s:=propext Iff.rfl
@[go_sem] theorem Ov {d:Option Nat} {op:Op} {g:Nat} {w:Bool} {l:List bZ}:o9 P KE KP pr (⟨d,op,some (g,w)⟩::l) fr s fp=
 jj w (Hv P (fun v Δ rd=>o9 P KE KP pr l (fr+1) ⟨a8 s.env d v,put s.o Δ,s.nx⟩ (fp++[(rd,Δ.map (·.1))]))
  (fun v ws rd=>yV P (KP v) pr l (fr+1) (fp++[(rd,[])]) [fp.length] (ws++fp.flatMap (·.2)) ⟨a8 s.env d .af,s.o,s.nx⟩) fr ⟨d,op,some (g,w)⟩ s)
   (o9 P KE KP pr l (fr+1) ⟨a8 s.env d (.bU []),s.o,s.nx⟩ (fp++[([],[])])) (s.env g):=propext Iff.rfl
end
attribute [go_sem] Oe fm jZ fP one ly a8 S.ev yQ
theorem aA{ι:Type}{b:Nat}{st:ι->S}{df:ι->Prop}{nT:ι->Nat}{i:ι}{s:S}(j:ι)(h1:df j)(h2:nT j<nT i)(h3:bP b s (st j)):Cb b st df nT i s:=⟨j,h1,h2,h3⟩
attribute [irreducible] lA rr yT wI A5 qN ml yS B9 FG B8 qM yR jM DP hO jj FI nS lz p8 yU sQ Hv o9 yV A6 uZ p9 y9 Ii u0 yW Ip L9 Iq sR Cb
end Go.Proofs.YtealblliddhgiaaGreat
namespace Go.Proofs.YtealblliddhgiaaGreat
def ab.Ki:ab->Bool
 | .ou .. =>true
 |_=>false
def Is(o:Nat->ab)(v:V):Option D:=if v.ids.all (fun id=>(o id).Ki)=true then dI o v else none
section
variable (ρ:Nat->Option Nat)(o' o:Nat->ab)(nx:Nat)
mutual
def qO:V->V->Prop
 | .af,_=>True
 | .d x,v=>Is o v=some x
 | .br,v=>v= .br
 | .agg cs,v=>match v with| .agg ds=>qa cs ds|_=>False
 | .bU cs,v=>match v with| .bU ds=>qa cs ds|_=>False
 | .ptr cE zd,v=>match v with| .ptr id off=>ρ cE=some id/\zd=off/\cE<nx|_=>False
 | .osl cE gw,v=>cE<nx/\(o' cE).ba=some gw/\match v with
   | .br=>ρ cE=none
   | .osl id ep=>ρ cE=some id/\(o id).ba=some ep
   |_=>False
 | .pe cE gw i' m8 zd,v=>cE<nx/\(o' cE).ba=some gw/\match v with
   | .pe id ep i sz off=>ρ cE=some id/\(o id).ba=some ep/\i'=i/\m8=sz/\zd=off
   |_=>False
 | .pp cs off,v=>v= .pp cs off
 | .func fn a b,v=>match v with| .func Zs a' b'=>fn=Zs/\qa a a'/\qa b b'|_=>False
 | .iface t x,v=>match v with| .iface t' y=>t=t'/\qO x y|_=>False
 | .nC es,v=>v= .nC es
 | .rT cE zd n',v=>match v with| .rT id off n=>ρ cE=some id/\zd=off/\n'=n/\cE<nx|_=>False
 | .mp cE,v=>match v with| .mp id=>ρ cE=some id/\cE<nx|_=>False
 | .eK,v=>v= .eK\/∃b,v= .d (.bool b)
 | .ki cE,v=>match v with| .ki id=>ρ cE=some id/\cE<nx|_=>False
def qa:List V->List V->Prop
 |[],vs=>vs=[]
 |x::xs,vs=>match vs with|v::vs=>qO x v/\qa xs vs|[]=>False
end
def mm(cE:Nat):Prop:=
 match o' cE with
 | .no=>True
 | .row cs'=>match ρ cE with
   |some id=>match o id with| .row cs=>qa ρ o' o nx cs' cs|_=>False
   |none=>False
 | .arr _ ty sz es=>match ρ cE with
   |some id=>match o id with| .arr _ UC m8 es'=>ty=UC/\sz=m8/\es=es'|_=>False
   |none=>es=[]/\0<sz
 | .ou _ es=>match ρ cE with
   |some id=>match o id with| .ou _ es'=>es=es'|_=>False
   |none=>False
 | .map kt vt l=>match ρ cE with
   |some id=>match o id with| .map Ae Af l'=>kt=Ae/\vt=Af/\l=l'|_=>False
   |none=>False
 | .loop nf n env ps a b st pd=>match ρ cE with
   |some id=>match o id with| .loop PS n' UD Zt a' b' st' pd'=>nf=PS/\n=n'/\ps=Zt/\a=a'/\b=b'/\st=st'/\pd=pd'/\qa ρ o' o nx env UD|_=>False
   |none=>False
 | .eY l=>match ρ cE with
   |some id=>match o id with| .eY l'=>l=l'|_=>False
   |none=>False
 | .nD l last=>match ρ cE with
   |some id=>match o id with| .nD l' FK=>l=l'/\(last=none\/last=FK)|_=>False
   |none=>False
 | .rU s pos=>match ρ cE with
   |some id=>match o id with| .rU s' pos'=>s=s'/\pos=pos'|_=>False
   |none=>False
end
section
variable {M M':Nat->Prop}{φ aB:Place}{H H':Hp}{w:World}{ρ:Nat->Option Nat}{nx:Nat}
theorem FL(hH:az M φ H w){v:V}{x:D}{val:Value}(h:Is H.o v=some x)(hd:V.den (aj M φ H) φ H w v val):D.den (aj M φ H) w x val:=by
 unfold Is at h
 split at h
 ·rename_i ha
  refine eO hH (o:=H.o) v x val (fun id aw=> ?_) h hd
  have:=List.all_eq_true.1 ha id aw
  cases ho:H.o id<;>rw[ho]at this<;>simp[ab.Ki]at this
  rfl
 ·cases h
mutual
theorem rE(hH:az M φ H w)(gu:∀b,cg w b-> ¬aj M φ H b-> ¬aj M' aB H' b)(dp:∀id,aB id=match ρ id with|some j=>φ j|none=> .slice none 0 0)
 (dT:∀id,id<nx->H'.us id) (bF:∀cE id,ρ cE=some id->(H'.o cE).bN=true->(H.o id).bN=true):
 ∀ (x v:V) (val:Value),qO ρ H'.o H.o nx x v->V.den (aj M φ H) φ H w v val->V.den (aj M' aB H') aB H' w x val
 | .af,_,_,_,_=>trivial
 | .d x,v,val,h,hd=>D.aG (fun b hb hn=>⟨rfl,gu b hb hn⟩) x val (FL hH (by simpa[qO]using h) hd)
 | .br,v,val,h,hd=>by simp only[qO]at h;subst h;exact hd
 | .agg cs,v,val,h,hd=>by
   unfold qO at h
   split at h
   ·obtain⟨a,rfl,hd,hf⟩:=hd
    exact⟨a,rfl,kC hH gu dp dT bF _ _ _ h hd,hf⟩
   ·exact h.elim
 | .bU cs,v,val,h,hd=>by
   unfold qO at h
   split at h
   ·obtain⟨a,rfl,hd⟩:=hd
    exact⟨a,rfl,kC hH gu dp dT bF _ _ _ h hd⟩
   ·exact h.elim
 | .ptr cE zd,v,val,h,hd=>by
   unfold qO at h
   split at h
   ·obtain⟨h1,rfl,h3⟩:=h
    obtain⟨g1,_,g3⟩:=hd
    refine⟨g1,dT _ h3,fun hr=> ?_⟩
    obtain⟨b,k1,k2⟩:=g3 (bF _ _ h1 hr)
    exact⟨b,by rw[dp,h1];exact k1,k2⟩
   ·exact h.elim
 | .osl cE gw,v,val,h,hd=>by
   unfold qO at h
   obtain⟨h1,h2,h3⟩:=h
   split at h3
   ·simp only[V.den]at hd;subst hd
    refine⟨rfl,dT _ h1,fun e he=> ?_⟩
    rw[h2]at he;injection he with he;subst he
    exact⟨Nat.le_refl _,fun _=>by rw[dp,h3]⟩
   ·obtain⟨g1,_,g3⟩:=hd
    refine⟨g1,dT _ h1,fun e he=> ?_⟩
    rw[h2]at he;injection he with he;subst he
    exact⟨Nat.le_refl _,fun _=>by rw[dp,h3.1];exact(g3 _ h3.2).2 rfl⟩
   ·exact h3.elim
 | .pe cE gw i' m8 zd,v,val,h,hd=>by
   unfold qO at h
   obtain⟨h1,h2,h3⟩:=h
   split at h3
   ·obtain⟨h3,h4,rfl,rfl,rfl⟩:=h3
    obtain⟨g1,_,g3⟩:=hd
    refine⟨g1,dT _ h1,fun e he=> ?_⟩
    rw[h2]at he;injection he with he;subst he
    refine⟨Nat.le_refl _,fun _=> ?_⟩
    obtain⟨b,n,c,k1,k2⟩:=(g3 _ h4).2 rfl
    exact⟨b,n,c,by rw[dp,h3];exact k1,k2⟩
   ·exact h3.elim
 | .pp cs off,v,val,h,hd=>by
   simp only[qO]at h;subst h
   obtain⟨a,ev,h1,h2,h3,h5,h4⟩:=hd
   exact⟨a,ev,h1,h2,D.aJ (fun b hb hn=>⟨rfl,gu b hb hn⟩) cs ev h3,h5,h4.mono (fun b hb hn=>⟨rfl,gu b hb hn⟩)⟩
 | .func fn a b,v,val,h,hd=>by
   unfold qO at h
   split at h
   ·obtain⟨rfl,h1,h2⟩:=h
    obtain⟨f,c,rfl,k1,k2⟩:=hd
    exact⟨f,c,rfl,kC hH gu dp dT bF _ _ _ h1 k1,kC hH gu dp dT bF _ _ _ h2 k2⟩
   ·exact h.elim
 | .iface t x,v,val,h,hd=>by
   unfold qO at h
   split at h
   ·obtain⟨rfl,h1⟩:=h
    obtain⟨u,rfl,k1⟩:=hd
    exact⟨u,rfl,rE hH gu dp dT bF _ _ _ h1 k1⟩
   ·exact h.elim
 | .nC es,v,val,h,hd=>by
   simp only[qO]at h;subst h
   exact⟨D.aG (fun b hb hn=>⟨rfl,gu b hb hn⟩) (.sl es) val hd.1,hd.2⟩
 | .rT cE zd n',v,val,h,hd=>by
   unfold qO at h
   split at h
   ·obtain⟨h1,rfl,rfl,h3⟩:=h
    obtain⟨g1,_,g3⟩:=hd
    refine⟨g1,dT _ h3,fun hr=> ?_⟩
    obtain⟨b,k1,k2⟩:=g3 (bF _ _ h1 hr)
    exact⟨b,by rw[dp,h1];exact k1,k2⟩
   ·exact h.elim
 | .mp cE,v,val,h,hd=>by
   unfold qO at h
   split at h
   ·obtain⟨h1,h3⟩:=h
    obtain⟨g1,_,g3⟩:=hd
    exact⟨g1,dT _ h3,fun hr=>by rw[dp,h1];exact g3 (bF _ _ h1 hr)⟩
   ·exact h.elim
 | .eK,v,val,h,hd=>by
   unfold qO at h
   rcases h with rfl|⟨b,rfl⟩
   ·exact hd
   ·exact⟨b,hd⟩
 | .ki cE,v,val,h,hd=>by
   unfold qO at h
   split at h
   ·obtain⟨h1,h3⟩:=h
    obtain⟨g1,_,g3⟩:=hd
    refine⟨g1,dT _ h3,fun hr=> ?_⟩
    obtain⟨b,k1,k2⟩:=g3 (bF _ _ h1 hr)
    exact⟨b,by rw[dp,h1];exact k1,k2⟩
   ·exact h.elim
theorem kC(hH:az M φ H w)(gu:∀b,cg w b-> ¬aj M φ H b-> ¬aj M' aB H' b)(dp:∀id,aB id=match ρ id with|some j=>φ j|none=> .slice none 0 0)
 (dT:∀id,id<nx->H'.us id) (bF:∀cE id,ρ cE=some id->(H'.o cE).bN=true->(H.o id).bN=true):
 ∀ (xs vs:List V) (vals:List Value),qa ρ H'.o H.o nx xs vs->V.aF (aj M φ H) φ H w vs vals->V.aF (aj M' aB H') aB H' w xs vals
 |[],vs,vals,h,hd=>by simp only[qa]at h;subst h;exact hd
 |x::xs,vs,vals,h,hd=>by
  unfold qa at h
  split at h
  ·obtain⟨u,us,rfl,k1,k2⟩:=hd
   exact⟨u,us,rfl,rE hH gu dp dT bF _ _ _ h.1 k1,kC hH gu dp dT bF _ _ _ h.2 k2⟩
  ·exact h.elim
end
theorem FM(hH:az M φ H w){o':Nat->ab}(ho:∀id,mm ρ o' H.o nx id)(cL:∀id,nx<=id->o' id= .no)
 (we:∀i j k,(o' i).live=true->(o' j).live=true->ρ i=some k->ρ j=some k->i=j)
 (hM:∀b,M' b->aj M φ H b) (UE:∀b,M' b->b<w.heap.size) (It:∀b,M' b-> ¬bS (fun id=>match ρ id with|some j=>φ j|none=> .slice none 0 0) ⟨o',fun id=>id<nx⟩ b):
 let aB:Place:=fun id=>match ρ id with|some j=>φ j|none=> .slice none 0 0
 let H':Hp:=⟨o',fun id=>id<nx⟩
 az M' aB H' w/\(∀b,bS aB H' b->bS φ H b)/\(∀b,cg w b-> ¬aj M φ H b-> ¬aj M' aB H' b)/\
  (∀x v val,qO ρ o' H.o nx x v->V.den (aj M φ H) φ H w v val->V.den (aj M' aB H') aB H' w x val):=by
 intro aB H'
 have bF:∀cE id,ρ cE=some id->(H'.o cE).bN=true->(H.o id).bN=true:=by
  intro cE id h1 h2
  have h3:=ho cE
  unfold mm at h3
  simp only[H']at h2
  split at h3
  ·rename_i e;rw[e]at h2;cases h2
  ·rw[h1]at h3
   simp only at h3
   split at h3
   ·rename_i e;rw[e];rfl
   ·exact h3.elim
  ·rename_i e;rw[e]at h2;cases h2
  ·rename_i e;rw[e]at h2;cases h2
  ·rw[h1]at h3
   simp only at h3
   split at h3
   ·rename_i e;rw[e];rfl
   ·exact h3.elim
  ·rw[h1]at h3
   simp only at h3
   split at h3
   ·rename_i e;rw[e];rfl
   ·exact h3.elim
  ·rw[h1]at h3
   simp only at h3
   split at h3
   ·rename_i e;rw[e];rfl
   ·exact h3.elim
  ·rw[h1]at h3
   simp only at h3
   split at h3
   ·rename_i e;rw[e];rfl
   ·exact h3.elim
  ·rw[h1]at h3
   simp only at h3
   split at h3
   ·rename_i e;rw[e];rfl
   ·exact h3.elim
 have bT:∀cE b,(o' cE).live=true->eA (aB cE)=some b->∃id,ρ cE=some id/\(H.o id).live=true/\eA (φ id)=some b:=by
  intro cE b h1 h2
  have h3:=ho cE
  unfold mm at h3
  simp only[aB]at h2
  split at h3
  ·rename_i e;rw[e]at h1;cases h1
  ·cases hr:ρ cE with
   |none=>rw[hr]at h3;exact h3.elim
   |some id=>
    rw[hr]at h3 h2
    simp only at h3 h2
    split at h3
    ·rename_i e;exact⟨id,rfl,by rw[e];rfl,h2⟩
    ·exact h3.elim
  ·cases hr:ρ cE with
   |none=>rw[hr]at h2;simp[eA]at h2
   |some id=>
    rw[hr]at h3 h2
    simp only at h3 h2
    split at h3
    ·rename_i e;exact⟨id,rfl,by rw[e];rfl,h2⟩
    ·exact h3.elim
  ·rename_i e;rw[e]at h1;cases h1
  ·cases hr:ρ cE with
   |none=>rw[hr]at h3;exact h3.elim
   |some id=>
    rw[hr]at h3 h2
    simp only at h3 h2
    split at h3
    ·rename_i e;exact⟨id,rfl,by rw[e];rfl,h2⟩
    ·exact h3.elim
  ·cases hr:ρ cE with
   |none=>rw[hr]at h3;exact h3.elim
   |some id=>
    rw[hr]at h3 h2
    simp only at h3 h2
    split at h3
    ·rename_i e;exact⟨id,rfl,by rw[e];rfl,h2⟩
    ·exact h3.elim
  ·rename_i e;rw[e]at h1;cases h1
  ·cases hr:ρ cE with
   |none=>rw[hr]at h3;exact h3.elim
   |some id=>
    rw[hr]at h3 h2
    simp only at h3 h2
    split at h3
    ·rename_i e;exact⟨id,rfl,by rw[e];rfl,h2⟩
    ·exact h3.elim
  ·cases hr:ρ cE with
   |none=>rw[hr]at h3;exact h3.elim
   |some id=>
    rw[hr]at h3 h2
    simp only at h3 h2
    split at h3
    ·rename_i e;exact⟨id,rfl,by rw[e];rfl,h2⟩
    ·exact h3.elim
 have BN:∀b,bS aB H' b->bS φ H b:=by
  rintro b ⟨cE,h1,h2⟩
  obtain⟨id,_,h3,h4⟩:=bT cE b h1 h2
  exact⟨id,h3,h4⟩
 have UF:∀b,aj M' aB H' b->aj M φ H b:=by
  rintro b (h|h)
  ·exact hM b h
  ·exact .inr (BN b h)
 have gu:∀b,cg w b-> ¬aj M φ H b-> ¬aj M' aB H' b:=fun b _ h k=>h (UF b k)
 have EG:=kC (M':=M') (aB:=aB) (H':=H') (ρ:=ρ) (nx:=nx) hH gu (fun _=>rfl) (fun _ h=>h) bF
 refine⟨⟨fun cE=> ?_,fun id hn=>cL id (by simpa[H']using hn),fun i j b h1 h2 h3 h4=> ?_,fun b hb=>⟨fun hm=>It b hm hb,(hH.ours b (BN b hb)).2⟩,UE⟩,BN,gu,
  rE (M':=M') (aB:=aB) (H':=H') (ρ:=ρ) (nx:=nx) hH gu (fun _=>rfl) (fun _ h=>h) bF⟩
 ·have h3:=ho cE
  unfold mm at h3
  unfold aL
  simp only[H']
  split at h3
  ·rename_i e;rw[e];trivial
  ·rename_i cs' e
   rw[e]
   cases hr:ρ cE with
   |none=>rw[hr]at h3;exact h3.elim
   |some id=>
    rw[hr]at h3
    simp only at h3
    split at h3
    ·rename_i cs e2
     have:=hH.ok id
     unfold aL at this
     rw[e2]at this
     obtain⟨b,cI,ty,k1,k2,k3,k4⟩:=this
     exact⟨b,cI,ty,by simp only[aB,hr];exact k1,k2,EG _ _ _ h3 k3,k4⟩
    ·exact h3.elim
  ·rename_i ep ty sz es e
   rw[e]
   cases hr:ρ cE with
   |none=>
    rw[hr]at h3
    obtain⟨rfl,h4⟩:=h3
    exact⟨h4,[],by simp only[aB,hr];exact World.ownsRow_nil _ _ _ _,[],by simp,by simp,rfl⟩
   |some id=>
    rw[hr]at h3
    simp only at h3
    split at h3
    ·rename_i e2
     obtain⟨rfl,rfl,rfl⟩:=h3
     have:=hH.ok id
     unfold aL at this
     rw[e2]at this
     obtain⟨k1,xs,k2,evs,k3,k4,k5⟩:=this
     exact⟨k1,xs,by simp only[aB,hr];exact k2,evs,k3,k4,D.aJ (fun b hb hn=>⟨rfl,gu b hb hn⟩) _ _ k5⟩
    ·exact h3.elim
  ·rename_i ep es e
   rw[e]
   cases hr:ρ cE with
   |none=>rw[hr]at h3;exact h3.elim
   |some id=>
    rw[hr]at h3
    simp only at h3
    split at h3
    ·rename_i e2
     subst h3
     have:=hH.ok id
     unfold aL at this
     rw[e2]at this
     simp only[aB,hr]
     exact D.aG (fun b hb hn=>⟨rfl,gu b hb hn⟩) _ _ this
    ·exact h3.elim
  ·rename_i kt vt l e
   rw[e]
   cases hr:ρ cE with
   |none=>rw[hr]at h3;exact h3.elim
   |some id=>
    rw[hr]at h3
    simp only at h3
    split at h3
    ·rename_i e2
     obtain⟨rfl,rfl,rfl⟩:=h3
     have:=hH.ok id
     unfold aL at this
     rw[e2]at this
     obtain⟨b,es,clock,k1,k2,k4,k3⟩:=this
     exact⟨b,es,clock,by simp only[aB,hr];exact k1,k2,k4,aI.mono (fun b hb hn=>⟨rfl,gu b hb hn⟩) _ _ k3⟩
    ·exact h3.elim
  ·rename_i nf n env ps a b st pd e
   rw[e]
   cases hr:ρ cE with
   |none=>rw[hr]at h3;exact h3.elim
   |some id=>
    rw[hr]at h3
    simp only at h3
    split at h3
    ·rename_i e2
     obtain⟨rfl,rfl,rfl,rfl,rfl,rfl,rfl,hv⟩:=h3
     have:=hH.ok id
     unfold aL at this
     rw[e2]at this
     obtain⟨b,r,k1,k2,k3,k4,k5,k6,k7,k8,k9,FN⟩:=this
     refine⟨b,r,by simp only[aB,hr];exact k1,k2,k3,k4,k5,k6,k7,k8,k9,fun i=> ?_⟩
     have key:∀ (xs vs:List V),qa ρ o' H.o nx xs vs->∀i,qO ρ o' H.o nx (bq xs i) (bq vs i):=by
      intro xs
      induction xs with
      |nil=>intro vs hv i;simp[bq,qO]
      |cons x xs ih=>
       intro vs hv i
       unfold qa at hv
       split at hv
       ·cases i with
        |zero=>exact hv.1
        |succ i=>exact ih _ hv.2 i
       ·exact hv.elim
     exact rE (M':=M') (aB:=aB) (H':=H') (ρ:=ρ) (nx:=nx) hH gu (fun _=>rfl) (fun _ h=>h) bF _ _ _ (key _ _ hv i) (FN i)
    ·exact h3.elim
  ·rename_i l e
   rw[e]
   cases hr:ρ cE with
   |none=>rw[hr]at h3;exact h3.elim
   |some id=>
    rw[hr]at h3
    simp only at h3
    split at h3
    ·rename_i e2
     subst h3
     have:=hH.ok id
     unfold aL at this
     rw[e2]at this
     simp only[aB,hr]
     exact D.aG (fun b hb hn=>⟨rfl,gu b hb hn⟩) _ _ this
    ·exact h3.elim
  ·rename_i l last e
   rw[e]
   cases hr:ρ cE with
   |none=>rw[hr]at h3;exact h3.elim
   |some id=>
    rw[hr]at h3
    simp only at h3
    split at h3
    ·rename_i FK e2
     obtain⟨rfl,h3⟩:=h3
     have:=hH.ok id
     unfold aL at this
     rw[e2]at this
     obtain⟨b,k1,k2⟩:=this
     have k3:rV (aj M' aB H') w l FK b:=k2.mono (fun b hb hn=>⟨rfl,gu b hb hn⟩) rfl
     refine⟨b,by simp only[aB,hr];exact k1, ?_⟩
     rcases h3 with rfl|rfl
     ·rcases k3 with⟨a1,a2,_⟩|⟨m,since,seen,es,a1,a2,a3,a4,a5,_⟩
      ·exact .inl ⟨a1,a2,rfl⟩
      ·exact .inr ⟨m,since,seen,es,a1,a2,a3,a4,a5,fun _ _ e=>by cases e⟩
     ·exact k3
    ·exact h3.elim
  ·rename_i s pos e
   rw[e]
   cases hr:ρ cE with
   |none=>rw[hr]at h3;exact h3.elim
   |some id=>
    rw[hr]at h3
    simp only at h3
    split at h3
    ·rename_i e2
     obtain⟨rfl,rfl⟩:=h3
     have:=hH.ok id
     unfold aL at this
     rw[e2]at this
     obtain⟨b,k1,k2⟩:=this
     exact⟨b,by simp only[aB,hr];exact k1,k2⟩
    ·exact h3.elim
 ·obtain⟨k1,g1,g2,g3⟩:=bT i b h1 h3
  obtain⟨k2,g4,g5,g6⟩:=bT j b h2 h4
  have:=hH.apart k1 k2 b g2 g5 g3 g6
  subst this
  exact we i j k1 h1 h2 g1 g4
theorem bP.of_map {b:Nat}{s s':S}(ρ:Nat->Option Nat)(hb:b<=s'.nx)(ho:∀id,mm ρ s'.o s.o s'.nx id)(cL:∀id,s'.nx<=id->s'.o id= .no)
 (we:∀i j k,(s'.o i).live=true->(s'.o j).live=true->ρ i=some k->ρ j=some k->i=j)
 (nd:∀id,id<b->ρ id=some id/\(∀e',(s'.o id).ba=some e'->∃e,(s.o id).ba=some e/\e<=e')) (dq:∀i,qO ρ s'.o s.o s'.nx (s'.env i) (s.env i)):bP b s s':=by
 intro M φ w tm hH he
 obtain⟨h1,h2,_,h4⟩:=FM (M':=M) (ρ:=ρ) (nx:=s'.nx) hH (o':=s'.o) ho cL we (fun b hb=> .inl hb) hH.tX (fun b hb hl=>by
  have:bS φ s.H b:=by
   obtain⟨cE,g1,g2⟩:=hl
   have h3:=ho cE
   unfold mm at h3
   simp only at g1 g2
   split at h3
   ·rename_i e;rw[e]at g1;cases g1
   ·cases hr:ρ cE with
    |none=>rw[hr]at h3;exact h3.elim
    |some id=>
     rw[hr]at h3 g2
     simp only at h3 g2
     split at h3
     ·rename_i e;exact⟨id,by simp only[S.H];rw[e];rfl,g2⟩
     ·exact h3.elim
   ·cases hr:ρ cE with
    |none=>rw[hr]at g2;simp[eA]at g2
    |some id=>
     rw[hr]at h3 g2
     simp only at h3 g2
     split at h3
     ·rename_i e;exact⟨id,by simp only[S.H];rw[e];rfl,g2⟩
     ·exact h3.elim
   ·rename_i e;rw[e]at g1;cases g1
   ·cases hr:ρ cE with
    |none=>rw[hr]at h3;exact h3.elim
    |some id=>
     rw[hr]at h3 g2
     simp only at h3 g2
     split at h3
     ·rename_i e;exact⟨id,by simp only[S.H];rw[e];rfl,g2⟩
     ·exact h3.elim
   ·cases hr:ρ cE with
    |none=>rw[hr]at h3;exact h3.elim
    |some id=>
     rw[hr]at h3 g2
     simp only at h3 g2
     split at h3
     ·rename_i e;exact⟨id,by simp only[S.H];rw[e];rfl,g2⟩
     ·exact h3.elim
   ·rename_i e;rw[e]at g1;cases g1
   ·cases hr:ρ cE with
    |none=>rw[hr]at h3;exact h3.elim
    |some id=>
     rw[hr]at h3 g2
     simp only at h3 g2
     split at h3
     ·rename_i e;exact⟨id,by simp only[S.H];rw[e];rfl,g2⟩
     ·exact h3.elim
   ·cases hr:ρ cE with
    |none=>rw[hr]at h3;exact h3.elim
    |some id=>
     rw[hr]at h3 g2
     simp only at h3 g2
     split at h3
     ·rename_i e;exact⟨id,by simp only[S.H];rw[e];rfl,g2⟩
     ·exact h3.elim
  exact(hH.ours b this).1 hb)
 refine⟨_,h1,fun i=>h4 _ _ _ (dq i) (he i),h2,hb,fun id aw hr=> ?_,fun id e' aw fj=> ?_⟩
 ·obtain⟨g1,_⟩:=nd id aw
  refine⟨?_,by simp only[g1]⟩
  have h3:=ho id
  unfold mm at h3
  rw[g1]at h3
  split at h3
  ·rename_i e;rw[e]at hr;cases hr
  ·simp only at h3
   split at h3
   ·rename_i e;rw[e];rfl
   ·exact h3.elim
  ·rename_i e;rw[e]at hr;cases hr
  ·rename_i e;rw[e]at hr;cases hr
  ·simp only at h3
   split at h3
   ·rename_i e;rw[e];rfl
   ·exact h3.elim
  ·simp only at h3
   split at h3
   ·rename_i e;rw[e];rfl
   ·exact h3.elim
  ·simp only at h3
   split at h3
   ·rename_i e;rw[e];rfl
   ·exact h3.elim
  ·simp only at h3
   split at h3
   ·rename_i e;rw[e];rfl
   ·exact h3.elim
  ·simp only at h3
   split at h3
   ·rename_i e;rw[e];rfl
   ·exact h3.elim
 ·obtain⟨g1,g2⟩:=nd id aw
  obtain⟨e,g3,g4⟩:=g2 e' fj
  exact⟨e,g3,g4,fun _=>by simp only[g1]⟩
end
end Go.Proofs.YtealblliddhgiaaGreat
namespace Go.Proofs.YtealblliddhgiaaGreat
@[go_sem] theorem iT (v:V) (l:List V):bq (v::l) 0=v:=rfl
@[go_sem] theorem gH (v:V) (l:List V) (i:Nat):bq (v::l) (i+1)=bq l i:=rfl
@[go_sem] theorem jk (i:Nat):bq [] i= .af:=by simp[bq]
def iG:List (Nat×Option Nat)->Nat->Option Nat
 |[],id=>some id
 |(i,r)::R,id=>if i=id then r else iG R id
def Iu(R:List (Nat×Option Nat)):List Nat->Bool
 |[]=>true
 |i::l=>l.all (fun j=>i==j||iG R i==none||iG R i !=iG R j)&&Iu R l
def Ce(ρ:Nat->Option Nat)(o' o:Nat->ab)(nx:Nat)(env:Nat->V):List V->Nat->Prop
 |[],_=>True
 |v::l,i=>qO ρ o' o nx v (env i)/\Ce ρ o' o nx env l (i+1)
def wL(ρ:Nat->Option Nat)(o' o:Nat->ab)(nx:Nat):List Nat->Prop
 |[]=>True
 |i::l=>mm ρ o' o nx i/\wL ρ o' o nx l
def Ma:Option Nat->Option Nat->Prop
 |none,_=>True
 |some _,none=>False
 |some a,some b=>b<=a
def Cf(b:Nat)(o' o:Nat->ab):List Nat->Prop
 |[]=>True
 |i::l=>(i<b->Ma (o' i).ba (o i).ba)/\Cf b o' o l
theorem Iv{o:Nat->ab}:∀ (Δ:List (Nat×ab)) (id:Nat),id∉Δ.map (·.1)->put o Δ id=o id:=by
 intro Δ
 induction Δ generalizing o with
 |nil=>intro id _;rfl
 |cons p Δ ih=>
  intro id h
  simp only[List.map_cons,List.mem_cons,not_or]at h
  rw[mU,ih id h.2]
  simp[h.1]
theorem bP.to {b:Nat}{s:S}(l:List V)(Δ:List (Nat×ab))(nx:Nat)(R:List (Nat×Option Nat))(h1:decide (b<=nx)=true)(h2:(Δ.map (·.1)).all (· <nx)=true)(h3:Iu R (Δ.map (·.1))=true)(h4:R.all (fun r=>decide (b<=r.1))=true)
 (h5:Cf b (put (fun _=> .no) Δ) s.o (Δ.map (·.1))) (h6:wL (iG R) (put (fun _=> .no) Δ) s.o nx (Δ.map (·.1))) (h7:Ce (iG R) (put (fun _=> .no) Δ) s.o nx s.env l 0):
 bP b s ⟨bq l,put (fun _=> .no) Δ,nx⟩:=by
 have qy:∀id,id∈Δ.map (·.1)\/put (fun _=>ab.no) Δ id= .no:=fun id=>by
  by_cases h:id∈Δ.map (·.1)
  ·exact .inl h
  ·exact .inr (Iv Δ id h)
 have sb:∀ (ids:List Nat),wL (iG R) (put (fun _=> .no) Δ) s.o nx ids->∀id∈ids,mm (iG R) (put (fun _=> .no) Δ) s.o nx id:=by
  intro ids
  induction ids with
  |nil=>intro _ id h;cases h
  |cons i ids ih=>
   intro h id aw
   rcases List.mem_cons.1 aw with rfl|aw
   ·exact h.1
   ·exact ih h.2 id aw
 have UG:∀ (ids:List Nat),Cf b (put (fun _=> .no) Δ) s.o ids->∀id∈ids,id<b->Ma (put (fun _=>ab.no) Δ id).ba (s.o id).ba:=by
  intro ids
  induction ids with
  |nil=>intro _ id h;cases h
  |cons i ids ih=>
   intro h id aw
   rcases List.mem_cons.1 aw with rfl|aw
   ·exact h.1
   ·exact ih h.2 id aw
 have dq:∀ (l:List V) (i:Nat),Ce (iG R) (put (fun _=> .no) Δ) s.o nx s.env l i->∀j,qO (iG R) (put (fun _=> .no) Δ) s.o nx (bq l j) (s.env (i+j)):=by
  intro l
  induction l with
  |nil=>intro i _ j;rw[jk];simp[qO]
  |cons v l ih=>
   intro i h j
   cases j with
   |zero=>exact h.1
   |succ j=>
    rw[gH]
    have:=ih (i+1) h.2 j
    rwa [show i+1+j=i+(j+1) by omega]at this
 have we:∀ (ids:List Nat),Iu R ids=true->∀i∈ids,∀j∈ids,∀k,iG R i=some k->iG R j=some k->i=j:=by
  intro ids
  induction ids with
  |nil=>intro _ i h;cases h
  |cons x ids ih=>
   intro h i hi j hj k h1 h2
   simp only[Iu,Bool.and_eq_true,List.all_eq_true]at h
   rcases List.mem_cons.1 hi with EU|EU<;>rcases List.mem_cons.1 hj with HX|HX
   ·exact EU.trans HX.symm
   ·subst EU
    have:=h.1 j HX
    simp only[Bool.or_eq_true,beq_iff_eq,bne_iff_ne,ne_eq]at this
    rcases this with(e|e)|e
    ·exact e
    ·rw[h1]at e;cases e
    ·exact absurd (h1.trans h2.symm) e
   ·subst HX
    have:=h.1 i EU
    simp only[Bool.or_eq_true,beq_iff_eq,bne_iff_ne,ne_eq]at this
    rcases this with(e|e)|e
    ·exact e.symm
    ·rw[h2]at e;cases e
    ·exact absurd (h2.trans h1.symm) e
   ·exact ih h.2 i EU j HX k h1 h2
 have PT:∀ (R:List (Nat×Option Nat)),R.all (fun r=>decide (b<=r.1))=true->∀id,id<b->iG R id=some id:=by
  intro R
  induction R with
  |nil=>intro _ id _;rfl
  |cons r R ih=>
   intro h id aw
   obtain⟨i,r⟩:=r
   simp only[List.all_cons,Bool.and_eq_true,decide_eq_true_eq]at h
   unfold iG
   rw[if_neg (by omega)]
   exact ih h.2 id aw
 have wh:∀id,(put (fun _=>ab.no) Δ id).live=true->id∈Δ.map (·.1):=fun id h=>by
  rcases qy id with h'|h'
  ·exact h'
  ·rw[h']at h;cases h
 refine bP.of_map (iG R) (by simpa using h1) (fun id=> ?_) (fun id aw=> ?_) (fun i j k g1 g2 g3 g4=>we _ h3 i (wh i g1) j (wh j g2) k g3 g4) (fun id aw=>⟨PT R h4 id aw,fun e' he=> ?_⟩) (fun i=>by simpa using dq l 0 h7 i)
 ·rcases qy id with h|h
  ·exact sb _ h6 id h
  ·unfold mm;simp only[h]
 ·rcases qy id with h|h
  ·have:=List.all_eq_true.1 h2 id h
   simp only[decide_eq_true_eq]at this
   simp only at aw
   omega
  ·exact h
 ·rcases qy id with h|h
  ·have:=UG _ h5 id h aw
   simp only at he
   rw[he]at this
   cases hs:(s.o id).ba with
   |none=>rw[hs]at this;exact this.elim
   |some e=>rw[hs]at this;exact⟨e,rfl,this⟩
  ·simp only[h]at he;cases he
@[go_sem] theorem Kj (k:Nat):(0<=(k:Int))=True:=by simp
attribute [go_sem] List.getElem?_map List.length_map Int.toNat_natCast
attribute [go_sem] eE List.flatMap_cons List.flatMap_nil
attribute [go_sem] isConst pR Hz pP pQ xQ pN Da nE nF ux rZ r8 oz
attribute [go_sem] iR V.refs V.ah
attribute [go_sem] Ce wL Cf Ma qO qa mm iG Is List.all_nil List.all_cons Option.some.injEq D.int.injEq D.bool.injEq Nat.zero_add Nat.add_zero
theorem wrap64{n:Int}(h1: -9223372036854775808<=n)(h2:n<=9223372036854775807):IntKind.i64.wrap n=n:=by
 unfold IntKind.wrap
 have e1:((2:Int)^IntKind.i64.bits)=18446744073709551616:=by decide
 have e2:((2:Int)^(IntKind.i64.bits - 1))=9223372036854775808:=by decide
 have e3:IntKind.i64.signed=true:=rfl
 simp only[e1,e2,e3,Bool.true_and,decide_eq_true_eq]
 split<;>omega
end Go.Proofs.YtealblliddhgiaaGreat
namespace Go.Proofs.YtealblliddhgiaaGreat
structure Good (o:Nat->ab) (nx:Nat):Prop where
 fresh:∀id,nx<=id->o id= .no
 refs:∀id,∀r∈(o id).refs,r<nx
theorem Good.nil {nx:Nat}:Good (fun _=> .no) nx:=⟨fun _ _=>rfl,fun id r h=>by cases h⟩
theorem Good.ax {o:Nat->ab}{nx i:Nat}{x:ab}(h:Good o nx)(hi:i<nx)(hx:x.refs.all (fun r=>decide (r<nx))=true):Good (ax o i x) nx:=by
 refine⟨fun id aw=> ?_,fun id r hr=> ?_⟩
 ·rw[ae _ _ _ _ (by omega)];exact h.fresh id aw
 ·by_cases e:id=i
  ·subst e
   rw[aa]at hr
   simpa using List.all_eq_true.1 hx r hr
  ·rw[ae _ _ _ _ e]at hr
   exact h.refs id r hr
theorem Good.mono {o:Nat->ab}{nx m:Nat}(h:Good o nx)(hm:nx<=m):Good o m:=⟨fun id aw=>h.fresh id (by omega),fun id r hr=>Nat.lt_of_lt_of_le (h.refs id r hr) hm⟩
theorem Good.lt {o:Nat->ab}{nx id:Nat}(h:Good o nx)(hn:o id≠ .no):id<nx:=by
 rcases Nat.lt_or_ge id nx with hl|hl
 ·exact hl
 ·exact absurd (h.fresh id hl) hn
theorem V.kD:∀ (l:List V) (i:Nat),∀r∈(bq l i).refs,r∈V.ah l
 |[],i,r,h=>by rw[jk]at h;cases h
 |v::l,0,r,h=>by rw[iT]at h;simp only[V.ah,List.mem_append];exact .inl h
 |v::l,i+1,r,h=>by rw[gH]at h;simp only[V.ah,List.mem_append];exact .inr (V.kD l i r h)
theorem bP.back {b:Nat}{s:S}{env:Nat->V}{o:Nat->ab}{nx:Nat}(hb:b<=nx)(hn:nx<=s.nx)(hg:Good o nx)(ho:∀id,id<nx->s.o id=o id)
 (he:∀i,env i= .af\/(env i=s.env i/\∀r∈(env i).refs,r<nx)):bP b s ⟨env,o,nx⟩:=by
 intro M φ w tm hH hd
 have bT:∀k,bS φ (hp o nx) k->bS φ s.H k:=by
  rintro k ⟨id,h1,h2⟩
  have aw:id<nx:=hg.lt (fun e=>by simp only[hp]at h1;rw[e]at h1;cases h1)
  exact⟨id,by simp only[S.H];rw[ho id aw];exact h1,h2⟩
 have hB:∀k, ¬aj M φ s.H k-> ¬aj M φ (hp o nx) k:=fun k h h'=>h (h'.imp id (bT k))
 have ei:∀ (v:V) (val:Value),(∀r∈v.refs,r<nx)->V.den (aj M φ s.H) φ s.H w v val->V.den (aj M φ (hp o nx)) φ (hp o nx) w v val:=fun v val hr h=>
  V.kA (H:=s.H) (H':=hp o nx) hB v val (fun id aw=>⟨(ho id (hr id aw)).symm,rfl,hr id aw⟩) h
 have lM:∀ (v:List V) (val:List Value),(∀r∈V.ah v,r<nx)->V.aF (aj M φ s.H) φ s.H w v val->V.aF (aj M φ (hp o nx)) φ (hp o nx) w v val:=fun v val hr h=>
  V.eT (H:=s.H) (H':=hp o nx) hB v val (fun id aw=>⟨(ho id (hr id aw)).symm,rfl,hr id aw⟩) h
 refine⟨φ,⟨fun id=> ?_,fun id hu=>hg.fresh id (by simpa[S.H]using hu),fun i j k h1 h2 h3 h4=> ?_,fun k hk=>hH.ours k (bT k hk),hH.tX⟩,fun i=> ?_,bT,hb,fun id aw hr=> ?_,fun id e' aw fj=> ?_⟩
 ·have aN:=hH.ok id
  have hrefs:=hg.refs id
  unfold aL at aN|-
  by_cases aw:id<nx
  ·have e:s.H.o id=o id:=ho id aw
   rw[e]at aN
   simp only[S.H]at aN|-
   cases hx:o id with
   |no=>trivial
   |row cs=>
    simp only[hx]at aN hrefs|-
    obtain⟨b,cI,ty,k1,k2,k3,k4⟩:=aN
    exact⟨b,cI,ty,k1,k2,lM _ _ hrefs k3,k4⟩
   |arr ep ty sz es=>
    simp only[hx]at aN|-
    obtain⟨k1,xs,k2,evs,k3,k4,k5⟩:=aN
    exact⟨k1,xs,k2,evs,k3,k4,D.aJ (fun b _ hn=>⟨rfl,hB b hn⟩) _ _ k5⟩
   |ou ep es=>
    simp only[hx]at aN|-
    exact D.aG (fun b _ hn=>⟨rfl,hB b hn⟩) _ _ aN
   |map kt vt es=>
    simp only[hx]at aN|-
    obtain⟨b,es',clock,k1,k2,k4,k3⟩:=aN
    exact⟨b,es',clock,k1,k2,k4,aI.mono (fun b _ hn=>⟨rfl,hB b hn⟩) _ _ k3⟩
   |eY l=>
    simp only[hx]at aN|-
    exact D.aG (fun b _ hn=>⟨rfl,hB b hn⟩) _ _ aN
   |nD l last=>
    simp only[hx]at aN|-
    obtain⟨b,k1,k2⟩:=aN
    exact⟨b,k1,k2.mono (fun b _ hn=>⟨rfl,hB b hn⟩) rfl⟩
   |rU s pos=>
    simp only[hx]at aN|-
    exact aN
   |loop nf n env ps a b st pd=>
    simp only[hx]at aN hrefs|-
    obtain⟨b,r,k1,k2,k3,k4,k5,k6,k7,k8,k9,FN⟩:=aN
    exact⟨b,r,k1,k2,k3,k4,k5,k6,k7,k8,k9,fun i=>ei _ _ (fun r hr=>hrefs r (V.kD _ _ r hr)) (FN i)⟩
  ·simp only[S.H]
   rw[hg.fresh id (by omega)]
   trivial
 ·have hi:i<nx:=hg.lt (fun e=>by simp only[S.H]at h1;rw[e]at h1;cases h1)
  have hj:j<nx:=hg.lt (fun e=>by simp only[S.H]at h2;rw[e]at h2;cases h2)
  exact hH.apart i j k (by simp only[S.H];rw[ho i hi];exact h1) (by simp only[S.H];rw[ho j hj];exact h2) h3 h4
 ·rcases he i with h|⟨h1,h2⟩
  ·simp only[h];trivial
  ·have:=hd i
   rw[<- h1]at this
   exact ei _ _ h2 this
 ·have bI:id<nx:=by omega
  exact⟨by rw[ho id bI];exact hr,rfl⟩
 ·have bI:id<nx:=by omega
  exact⟨e',by rw[ho id bI];exact fj,Nat.le_refl _,fun _=>rfl⟩
def jl(nx:Nat)(env:Nat->V):List V->Nat->Prop
 |[],_=>True
 |v::l,i=>(v= .af\/(v=env i/\∀r∈v.refs,r<nx))/\jl nx env l (i+1)
theorem bP.cF {b:Nat}{e:Nat->V}{so:Nat->ab}{m:Nat}(l:List V){o:Nat->ab}{nx:Nat}(hb:b<=nx)(hn:nx<=m)(hg:Good o nx)(ho:∀id,id<nx->so id=o id)(he:jl nx e l 0):bP b ⟨e,so,m⟩ ⟨bq l,o,nx⟩:=by
 refine bP.back hb hn hg ho ?_
 have key:∀ (l:List V) (i:Nat),jl nx e l i->∀j,bq l j= .af\/(bq l j=e (i+j)/\∀r∈(bq l j).refs,r<nx):=by
  intro l
  induction l with
  |nil=>intro i _ j;rw[jk];exact .inl rfl
  |cons v l ih=>
   intro i h j
   cases j with
   |zero=>rw[iT];exact h.1
   |succ j=>
    rw[gH]
    have:=ih (i+1) h.2 j
    rwa [show i+1+j=i+(j+1) by omega]at this
 intro i
 have:=key l 0 he i
 rwa [Nat.zero_add]at this
theorem ao{nx:Nat}{env:Nat->V}{i:Nat}:jl nx env [] i:=trivial
theorem ai{nx:Nat}{env:Nat->V}{l:List V}{i:Nat}(h:jl nx env l (i+1)):jl nx env (.af::l) i:=⟨.inl rfl,h⟩
theorem ag{nx:Nat}{env:Nat->V}{l:List V}{i:Nat}{x:D}(he:env i= .d x)(h:jl nx env l (i+1)):jl nx env (.d x::l) i:=⟨.inr ⟨he.symm,fun r hr=>by simp[V.refs]at hr⟩,h⟩
theorem aD{nx:Nat}{env:Nat->V}{l:List V}{i:Nat}{v:V}(he:env i=v)(hr:∀r∈v.refs,r<nx)(h:jl nx env l (i+1)):jl nx env (v::l) i:=⟨.inr ⟨he.symm,hr⟩,h⟩
theorem bP.d0 {e:Nat->V}{so:Nat->ab}{m:Nat}(l:List V)(he:jl 0 e l 0):bP 0 ⟨e,so,m⟩ ⟨bq l,fun _=> .no,0⟩:=bP.cF l (Nat.le_refl 0) (Nat.zero_le _) Good.nil (fun _ h=>absurd h (Nat.not_lt_zero _)) he
theorem aQ{k:Nat}(h:(k:Int)+1<=9223372036854775807):IntKind.i64.wrap ((k:Int)+1)=((k+1:Nat):Int):=by rw[wrap64 (by omega) h];rfl
theorem aR{k:IntKind}{a b:Int}(h:a=b):V.d (D.int k a)=V.d (D.int k b):=by rw[h]
theorem mn{P:Program}{g:FuncId}{K:KD}{X:XD}{o:Nat->ab}{nx fr:Nat}{all:List V}{rd:List Nat}{rs:List D}{Δ:List (Nat×ab)}(lS:rd.all (fun id=>decide (id<nx))=true)(h:wA P g all rd o (.ret rs) Δ)(hk:K (gr rs) Δ rd):lz P g K X o nx fr all:=by
 unfold lz
 exact⟨rd,Δ,lS, .inl ⟨rs,h,hk⟩⟩
end Go.Proofs.YtealblliddhgiaaGreat
