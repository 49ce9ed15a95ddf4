/-
  A PART OF THE PROOF. Conditions: none.
-/
import Derived.Test.YtlhemmpklhhgoaaGreatQo9
set_option linter.unusedSimpArgs false
set_option linter.unusedVariables false
namespace Go.Proofs.YtlhemmpklhhgoaaGreat
section
abbrev Fix(α:Type){β:Type}(_:β):Type:=α
def kQ(K:V->List (Nat×ad)->Prop)(x:Fix (Option gr) K):Prop:=match x with|some (v,Δ,_)=>K v Δ|none=>False
@[go_sem] theorem Wm {v:V} {Δ:List (Nat×ad)} {rd:List Nat} {K}:kQ K (some (v,Δ,rd))=K v Δ:=propext Iff.rfl
@[go_sem] theorem Wn {K}:kQ K none=False:=propext Iff.rfl
def V.AP (c:Bool)(v:V):V:=if c=true then v else .bY []
@[go_sem] theorem ab7 (b:Bool):(!!b)=b:=aE
attribute [go_sem] true_or or_true false_or ne_eq not_false_eq_true decide_true decide_false Bool.not_true Bool.not_false Bool.and_true Bool.true_and Bool.and_false Bool.false_and Bool.or_true Bool.true_or Bool.or_false Bool.false_or beq_self_eq_true Bool.true_eq_false Bool.false_eq_true not_true_eq_false and_true true_and and_false false_and eq_self
@[go_sem] theorem V.ab8 (v:V):V.AP true v=v:=rfl
@[go_sem] theorem V.Zn (v:V):V.AP false v= .bY []:=rfl
def mS(c:Bool)(p:Prop):Prop:=c=true->p
@[congr] theorem TM {c c':Bool} {p p':Prop} (h:c=c') (h2:c'=true->p=p'):mS c p=mS c' p':=by
  subst h;cases c
  ·simp[mS]
  ·simp[mS,h2 rfl]
@[go_sem] theorem Wo (p:Prop):mS true p=p:=by simp[mS]
@[go_sem] theorem TN (p:Prop):mS false p=True:=by simp[mS]
@[go_sem] theorem Wp (a:Bool):mS a True=True:=by simp[mS]
def mT(v:V)(want:Bool):Option Bool:=
 match v with
 | .d (.bool b)=>some (b==want)
 | .bY []=>some false
 |_=>none
@[go_sem] theorem Wq (b:Bool):mT (.d (.bool b)) true=some b:=by simp[mT]
@[go_sem] theorem TO (b:Bool):mT (.d (.bool b)) false=some (!b):=by simp[mT]
@[go_sem] theorem ab9 (want:Bool):mT (.bY []) want=some false:=rfl
@[go_sem] theorem Zo (c b want:Bool):mT (V.AP c (.d (.bool b))) want=some (c&&(b==want)):=by cases c<;>simp[mT,V.AP]
@[go_sem] theorem Wr (c b e want:Bool):mT (V.AP c (V.AP e (.d (.bool b)))) want=some (c&&e&&(b==want)):=by cases c<;>cases e<;>simp[mT,V.AP]
def lz(c:Bool)(x:Option gr):Option gr:=
 if c=true then(match x with|some (v,[],_)=>some (v,[],[])|_=>none)else some (.bY [],[],[])
@[congr] theorem Qi {c c':Bool} {x x':Option gr} (h:c=c') (h2:c'=true->x=x'):lz c x=lz c' x':=by
  subst h;cases c
  ·rfl
  ·simp[lz,h2 rfl]
def Zp(v:V)(rd:List Nat):Option gr:=some (v,[],rd)
@[go_sem] theorem af5 (v:V) (rd:List Nat):(some (v,[],rd):Option gr)=Zp v rd:=by unfold Zp;exact Eq.trans rfl rfl
@[go_sem] theorem Ws (c:Bool) (v:V) (rd:List Nat):lz c (Zp v rd)=Zp (V.AP c v) []:=by cases c<;>rfl
@[go_sem] theorem Zq {v:V} {rd:List Nat} {K}:kQ K (Zp v rd)=K v []:=propext Iff.rfl
@[go_sem] theorem TP (c:Bool) (v:V) (rd:List Nat):lz c (some (v,[],rd))=some (V.AP c v,[],[]):=by cases c<;>rfl
@[go_sem] theorem Qj (x:Option gr):lz false x=some (.bY [],[],[]):=rfl
@[go_sem] theorem aca (b x:Bool):qV (.d (.bool b)) (V.AP b (.d (.bool x))) (.d (.bool false))=some (.d (.bool (b&&x))):=B1
@[go_sem] theorem afh (b x:Bool):qV (.d (.bool b)) (.d (.bool true)) (V.AP (!b) (.d (.bool x)))=some (.d (.bool (b||x))):=B1
@[go_sem] theorem acb (b x:Bool):qV (.d (.bool (!b))) (.d (.bool true)) (V.AP b (.d (.bool x)))=some (.d (.bool (!b||x))):=B1
@[go_sem] theorem Zr (x y:V):qV (.d (.bool true)) x y=some x:=rfl
@[go_sem] theorem Wt (x y:V):qV (.d (.bool false)) x y=some y:=rfl
@[reducible] def lA:Op->Bool
  | .move _| .assign _| .pick .. | .load .. | .binOp .. | .unOp .. | .nilCheck _| .convert .. | .makeInterface .. | .makeFunc .. | .fieldAddr .. | .indexAddr .. | .extract .. | .build .. | .index .. | .field .. | .lookup .. =>true
  | .call c=>match c.callee with
    | .builtin .len=>true
    | .builtin .min=>true
    | .builtin .max=>true
    |_=>false
  |_=>false
def C0(P:Program)(f:V)(args:List V)(o:Nat->ad)(rs:List D):Prop:=
 match f with
 | .func (.func g) first cap=>match cm o (first++args++cap)with
   |some ds=>aW P g ds (.ret rs)/\D.jZ rs=true
   |none=>False
 |_=>False
def Hg(P:Program)(f:V)(args:List V)(o:Nat->ad)(K:V->Prop)(c:Fix Bool (f,args,o,K)):Prop:=
 ∃rs,mS c (C0 P f args o rs)/\K (V.AP c (jf rs))
def C1(P:Program)(g:FuncId)(nx:Nat)(K X:V->(Nat->ad)->Nat->Prop)(args:Fix (List V) (K,X))(o:Fix (Nat->ad) (K,X)):Prop:=tL P g args o nx K X
def wg(P:Program)(g:FuncId)(o:Nat->ad)(nx:Nat)(K X:V->(Nat->ad)->Nat->Prop)(ds:Fix (List D) (o,nx,K,X))(all:Fix (List V) (o,nx,K,X)):Prop:=
 vV P g ds o (put o (bG o (V.bc all))) (put o (ss o (V.bc all))) (fun v o'=>K v o' (nx+1)) (fun v o'=>X v o' (nx+1))\/tL P g all o nx K X
def nI(P:Program)(g:FuncId)(K X:V->(Nat->ad)->Nat->Prop)(s:S)(all:List V)(ds:Fix (Option (List D)) (K,X,s,all)):Prop:=
 match ds with
 |some ds=>wg P g s.o s.nx K X ds all
 |none=>C1 P g s.nx K X all s.o
@[go_sem] theorem TQ {P:Program} {s:S} {ds:List D} {g:FuncId} {all:List V} {K X}:
 nI P g K X s all (some ds)=wg P g s.o s.nx K X ds all:=propext Iff.rfl
def y0(P:Program)(id:Nat)(K X:V->(Nat->ad)->Nat->Prop)(s:S)(args:Fix (List V) (K,X,s)):Prop:=dQ P id args s.o s.nx K X
@[go_sem] theorem TR {P:Program} {s:S} {g:FuncId} {all:List V} {K X}:nI P g K X s all none=C1 P g s.nx K X all s.o:=propext Iff.rfl
def tR(P:Program)(K X:V->(Nat->ad)->Nat->Prop)(s:S)(f:Fix V (K,X,s))(args:Fix (List V) (K,X,s)):Prop:=
 match f with
 | .func (.func g) first cap=>nI P g K X s (first++args++cap) (cm s.o (first++args++cap))
 | .kH id=>y0 P id K X s args
 |_=>False
@[go_sem] theorem Zs {P:Program} {s:S} {id:Nat} {args:List V} {K X}:tR P K X s (.kH id) args=y0 P id K X s args:=propext Iff.rfl
@[go_sem] theorem Wu {P:Program} {s:S} {g:FuncId} {first cap args:List V} {K X}:tR P K X s (.func (.func g) first cap) args=nI P g K X s (first++args++cap) (cm s.o (first++args++cap)):=propext Iff.rfl
def My(P:Program)(g:FuncId)(o:Nat->ad)(nx:Nat)(K X:V->(Nat->ad)->Nat->Prop)(ds:Fix (List D) (o,nx,K,X))(all:Fix (List V) (o,nx,K,X)):Prop:=
 vV P g ds o (put o (bG o (V.bc all))) (put o (ss o (V.bc all))) (fun v o'=>K v o' (nx+1)) (fun v o'=>X v o' (nx+1))
def C2(P:Program)(g:FuncId)(K X:V->(Nat->ad)->Nat->Prop)(s:S)(all:List V)(ds:Fix (Option (List D)) (K,X,s,all)):Prop:=
 match ds with
 |some ds=>My P g s.o s.nx K X ds all
 |none=>False
@[go_sem] theorem Wv {P:Program} {s:S} {ds:List D} {g:FuncId} {all:List V} {K X}:C2 P g K X s all (some ds)=My P g s.o s.nx K X ds all:=propext Iff.rfl
def Mz(P:Program)(K X:V->(Nat->ad)->Nat->Prop)(s:S)(args:Fix (List V) (K,X,s))(r:Fix (Option (FuncId×V)) (K,X,s)):Prop:=
 match r with
 |some (g,y)=>C2 P g K X s (y::args) (cm s.o (y::args))
 |none=>False
@[go_sem] theorem Zt {P:Program} {s:S} {g:FuncId} {y:V} {args:List V} {K X}:Mz P K X s args (some (g,y))=C2 P g K X s (y::args) (cm s.o (y::args)):=propext Iff.rfl
def JI(K:V->Prop)(v:Fix V K):Prop:=
 match v with
 | .d (.iface t y)=>K (.d (.iface t y))
 | .iface t y=>K (.iface t y)
 |_=>False
@[go_sem] theorem af6 {t:TypeId} {y:D} {K}:JI K (.d (.iface t y))=K (.d (.iface t y)):=propext Iff.rfl
@[go_sem] theorem af7 {t:TypeId} {y:V} {K}:JI K (.iface t y)=K (.iface t y):=propext Iff.rfl
def Hh(K:V->List (Nat×ad)->Prop)(id:Nat)(l:Fix (List (D×D)) (K,id)):Prop:=GQ id l fun v Δ _=>K v Δ
def MA(K:V->List (Nat×ad)->Prop)(str:Bool)(Zu:Fix (Option gr) (K,str))(left:Fix (Option (Nat×List (D×D))) (K,str)):Prop:=
 match left with
 |some (id,l)=>str=false/\Hh K id l
 |none=>kQ K Zu
@[go_sem] theorem Zv {K} {Zu:Option gr} {id:Nat} {l:List (D×D)}:MA K false Zu (some (id,l))=Hh K id l:=propext ⟨fun h=>h.2,fun h=>⟨rfl,h⟩⟩
@[go_sem] theorem Zw {K} {str:Bool} {Zu:Option gr}:MA K str Zu none=kQ K Zu:=propext Iff.rfl
def C3(P:Program)(X:V->S->Prop)(K:S->Prop)(o:b7)(s:Fix S (X,K,o)):Prop:=
 match o.op with
 | .next x str=>MA (fun v Δ=>K ⟨a8 s.env o.dst v,put s.o Δ,s.nx+1⟩) str (pn s.o (s.ev x) str) (pq s.o (s.ev x))
 | .call c=>match c.callee with
   | .value f=>tR P (fun v o' nx'=>K ⟨a8 s.env o.dst v,o',nx'⟩) (fun v o' nx'=>X v ⟨s.env,o',nx'⟩) s (s.ev f) (c.args.toList.map s.ev)
   | .invoke r m=>Mz P (fun v o' nx'=>K ⟨a8 s.env o.dst v,o',nx'⟩) (fun v o' nx'=>X v ⟨s.env,o',nx'⟩) s (c.args.toList.map s.ev) (vO P m (s.ev r))
   |_=>kQ (fun v Δ=>K ⟨a8 s.env o.dst v,put s.o Δ,s.nx+1⟩) (gM P s s.nx o.op)
 | .panic x=>JI (fun v=>X v s) (s.ev x)
 |op=>kQ (fun v Δ=>K ⟨a8 s.env o.dst v,put s.o Δ,s.nx+1⟩) (gM P s s.nx op)
@[reducible] def eP:Op->Option (Operand×List Operand)
  | .call c=>match c.callee with
    | .value f=>some (f,c.args.toList)
    |_=>none
  |_=>none
def iY(A B:Prop)(t:Fix Bool (A,B)):Prop:=q8 t A B
@[go_sem] theorem Ww (A B:Prop):iY A B true=A:=vW A B
@[go_sem] theorem TS (A B:Prop):iY A B false=B:=tM A B
def Fq(P:Program)(X:V->S->Prop)(K:S->Prop)(o:b7)(s:S)(f:Operand)(args:List Operand)(c:Fix Bool (X,K,o,s,f,args)):Prop:=
 Hg P (s.ev f) (args.map s.ev) s.o (fun v=>K ⟨a8 s.env o.dst v,s.o,s.nx+1⟩) c\/iY (C3 P X K o s) (K ⟨a8 s.env o.dst (.bY []),s.o,s.nx+1⟩) c
def AQ(P:Program)(X:V->S->Prop)(K:S->Prop)(o:b7)(s:S)(c:Fix (Option Bool) (X,K,o,s)):Prop:=
 match c with
 |none=>False
 |some c=>match eP o.op with
  |some (f,args)=>Fq P X K o s f args c
  |none=>if lA o.op=true then kQ (fun v _=>K ⟨a8 s.env o.dst v,s.o,s.nx+1⟩) (lz c (gM P s s.nx o.op))
   else iY (C3 P X K o s) (K ⟨a8 s.env o.dst (.bY []),s.o,s.nx+1⟩) c
def sN(P:Program)(X:V->S->Prop)(K:S->Prop)(l:List b7)(s:Fix S (X,K,l)):Prop:=
 match l with
 |[]=>K s
 |o::l=>match o.gd with
  |none=>C3 P X (sN P X K l) o s
  |some (d,want)=>AQ P X (sN P X K l) o s (mT (s.env d) want)
def j6(want:Bool)(A B:Prop)(v:Fix V (A,B)):Prop:=
 match v with
 | .d (.bool b)=>q8 (b==want) A B
 | .bY []=>B
 |_=>False
@[go_sem] theorem TT (b:Bool) (A B:Prop):j6 true A B (.d (.bool b))=iY A B b:=by simp[j6,iY]
@[go_sem] theorem Qk (b:Bool) (A B:Prop):j6 false A B (.d (.bool b))=iY A B (!b):=by simp[j6,iY]
@[go_sem] theorem Zx (want:Bool) (A B:Prop):j6 want A B (.bY [])=B:=propext Iff.rfl
@[go_sem] theorem Wx (c b want:Bool) (A B:Prop):j6 want A B (V.AP c (.d (.bool b)))=iY A B (c&&(b==want)):=by cases c<;>simp[j6,V.AP,iY]
abbrev KD:=V->List (Nat×ad)->List Nat->Prop
abbrev XD:=V->List Nat->List Nat->Prop
def MB(P:Program)(g:FuncId)(K:KD)(X:XD)(o:Nat->ad)(rd:List Nat)(ds:Fix (List D) (K,X,o,rd))(all:Fix (List V) (K,X,o,rd)):Prop:=
 tQ P g ds (fun v=>K v (bG o (V.bc all)) rd) (fun v=>K v [] rd) (fun v=>X v [] rd)
def sO(P:Program)(g:FuncId)(K:KD)(X:XD)(o:Nat->ad)(nx fr:Nat)(all:Fix (List V) (K,X,o,nx)):Prop:=jh P g all o nx fr K X
def mz(P:Program)(g:FuncId)(K:KD)(X:XD)(o:Nat->ad)(nx fr:Nat)(rd:List Nat)(ds:Fix (List D) (K,X,o,nx,rd))(all:Fix (List V) (K,X,o,nx,rd)):Prop:=MB P g K X o rd ds all\/sO P g K X o nx fr all
def sP(P:Program)(K:KD)(X:XD)(o:Nat->ad)(nx fr:Nat)(rd:List Nat)(g:FuncId)(all:List V)(ds:Fix (Option (List D)) (K,X,o,nx,rd,all)):Prop:=
 match ds with
 |some ds=>mz P g K X o nx fr rd ds all
 |none=>sO P g K X o nx fr all
@[go_sem] theorem TU {P:Program} {o:Nat->ad} {nx fr:Nat} {rd:List Nat} {ds:List D} {g:FuncId} {all:List V} {K X}:sP P K X o nx fr rd g all (some ds)=mz P g K X o nx fr rd ds all:=propext Iff.rfl
@[go_sem] theorem TV {P:Program} {o:Nat->ad} {nx fr:Nat} {rd:List Nat} {g:FuncId} {all:List V} {K X}:sP P K X o nx fr rd g all none=sO P g K X o nx fr all:=propext Iff.rfl
def C4(P:Program)(K:KD)(X:XD)(o:Nat->ad)(nx fr:Nat)(rd:Fix (List Nat) (K,X,o,nx))(f:Fix V (K,X,o,nx))(args:Fix (List V) (K,X,o,nx)):Prop:=
 match f with
 | .func (.func g) first cap=>sP P K X o nx fr rd g (first++args++cap) (cm o (first++args++cap))
 |_=>False
@[go_sem] theorem Wy {P:Program} {o:Nat->ad} {nx fr:Nat} {rd:List Nat} {g:FuncId} {first cap args:List V} {K X}:C4 P K X o nx fr rd (.func (.func g) first cap) args=sP P K X o nx fr rd g (first++args++cap) (cm o (first++args++cap)):=propext Iff.rfl
def wh(K:KD)(rd:List Nat)(x:Fix (Option gr) (K,rd)):Prop:=match x with|some (v,Δ,_)=>K v Δ rd|none=>False
@[go_sem] theorem Wz {v:V} {Δ:List (Nat×ad)} {r rd:List Nat} {K}:wh K rd (some (v,Δ,r))=K v Δ rd:=propext Iff.rfl
@[go_sem] theorem Zy {v:V} {r rd:List Nat} {K}:wh K rd (Zp v r)=K v [] rd:=propext Iff.rfl
def O5(P:Program)(K:KD)(X:XD)(fr:Nat)(o:b7)(s:Fix S (K,X,o)):Prop:=
 match eP o.op with
 |some (f,args)=>C4 P K X s.o s.nx fr (o9 s o.op) (s.ev f) (args.map s.ev)
 |none=>wh K (o9 s o.op) (gM P s fr o.op)
def JJ(P:Program)(KB:List Nat->Fp->Prop)(pr:List (List Nat))(l:List b7)(fr:Nat)(fp:Fix Fp (KB,l))(bad ws:Fix (List Nat) (KB,l))(s:Fix S (KB,l)):Prop:=iJ P KB pr l fr s fp bad ws
def pT(P:Program)(K:S->Fp->Prop)(KP:V->List Nat->Fp->Prop)(pr:List (List Nat))(l:List b7)(fr:Nat)(s:Fix S (K,KP,l))(fp:Fix Fp (K,KP,l)):Prop:=
 match l with
 |[]=>K s fp
 |o::l=>match o.gd with
  |none=>O5 P (fun v Δ rd=>pT P K KP pr l (fr+1) ⟨a8 s.env o.dst v,put s.o Δ,s.nx⟩ (fp++[(rd,Δ.map (·.1))]))
   (fun v ws rd=>JJ P (KP v) pr l (fr+1) (fp++[(rd,[])]) [fp.length] (ws++fp.flatMap (·.2)) ⟨a8 s.env o.dst .ab,s.o,s.nx⟩) fr o s
  |some (d,want)=>j6 want (O5 P (fun v Δ rd=>pT P K KP pr l (fr+1) ⟨a8 s.env o.dst v,put s.o Δ,s.nx⟩ (fp++[(rd,Δ.map (·.1))]))
   (fun v ws rd=>JJ P (KP v) pr l (fr+1) (fp++[(rd,[])]) [fp.length] (ws++fp.flatMap (·.2)) ⟨a8 s.env o.dst .ab,s.o,s.nx⟩) fr o s)
   (pT P K KP pr l (fr+1) ⟨a8 s.env o.dst (.bY []),s.o,s.nx⟩ (fp++[([],[])])) (s.env d)
def Ql(pr:List (List Nat))(nx:Nat)(Q:fK->S->Prop)(s:Fix S Q)(fp:Fix Fp Q):Prop:=Fk pr nx Q s fp
def sQ(l:List b7)(k:Fix Nat l):Option Nat:=match l with
 |[]=>none
 |o::l=>match o.gd,eP o.op with
  |none,some (.tmp _,_)=>some k
  |_,_=>sQ l (k+1)
def TW(P:Program)(pr:List (List Nat))(l:List b7)(nx:Nat)(Q:fK->S->Prop)(s:Fix S (P,pr,l,nx,Q))(fp:Fix Fp (P,pr,l,nx,Q)):Prop:=eV pr fp=true/\sN P (fun v s=>Q (.bN v) s) (Q .normal) l ⟨s.env,s.o,nx⟩
def Qm(P:Program)(l:List b7)(pr:List (List Nat))(Q:fK->S->Prop)(s:S)(sp:Fix (Option Nat) (P,l,pr,Q,s)):Prop:=match sp with
 |none=>pT P (Ql pr (s.nx+l.length) Q) (CX pr l s Q) pr l s.nx s []
 |some m=>m<=l.length/\Fl pr m=true/\pT P (TW P pr (l.drop m) (s.nx+m) Q) (fun _ _ _=>False) pr (l.take m) s.nx s []
def y9(A B:Prop)(v:Fix V (A,B)):Prop:=
 match v with
 | .d (.bool t)=>iY A B t
 | .fH=>A/\B
 |_=>False
@[go_sem] theorem Zz (A B:Prop):y9 A B .fH=(A/\B):=propext Iff.rfl
@[go_sem] theorem WA (t:Bool) (A B:Prop):y9 A B (.d (.bool t))=iY A B t:=propext Iff.rfl
def Hi{ι:Type}(b:Nat)(st:ι->S)(cu:ι->Prop)(pU:ι->Nat)(i:ι)(s:S):Prop:=∃j,cu j/\pU j<pU i/\bL b s (st j)
def wk(next:S->Prop)(Q:fK->S->Prop)(e:fK)(s:S):Prop:=match e with| .normal=>next s|e=>Q e s
section
variable {N:S->Prop}{Q:fK->S->Prop}{s:S}
@[go_sem ↓] theorem Qn:wk N Q .normal s=N s:=propext Iff.rfl
@[go_sem ↓] theorem WB {id:Nat}:wk N Q (.exit id) s=Q (.exit id) s:=propext Iff.rfl
@[go_sem ↓] theorem ZA:wk N Q .ret s=Q .ret s:=propext Iff.rfl
@[go_sem ↓] theorem ZB {v:V}:wk N Q (.bN v) s=Q (.bN v) s:=propext Iff.rfl
end
def Hj(b:Nat)(body:(fK->S->Prop)->S->Prop)(Q:fK->S->Prop)(s:Fix S (body,Q)):Prop:=
 ∃ (ι:Type) (st:ι->S) (cu:ι->Prop) (pU:ι->Nat) (i0:ι),cu i0/\bL b s (st i0)/\∀i,cu i->body (wk (Hi b st cu pU i) Q) (st i)
theorem aD{ι:Type}{b:Nat}{body:(fK->S->Prop)->S->Prop}{Q:fK->S->Prop}{s:S}(st:ι->S)(cu:ι->Prop)(pU:ι->Nat)(i0:ι)(h0:cu i0)(hle:bL b s (st i0))
 (h:∀i,cu i->body (wk (Hi b st cu pU i) Q) (st i)):Hj b body Q s:=⟨ι,st,cu,pU,i0,h0,hle,h⟩
def uC(P:Program)(n b:Nat)(rd:Bool)(gop:Operand)(ps:List Nat)(x y:IC)(Q:fK->S->Prop)(s:Fix S (x,y,Q))(g:Fix V (x,y,Q)):Prop:=rd=false/\(CG P n g ps x y Q s\/∃s',bL b s s'/\CG P n (s'.ev gop) ps x y Q s')
def j7(P:Program)(n b:Nat)(rd:Bool)(c:IC)(Q:fK->S->Prop)(s:Fix S (c,Q)):Prop:=
 match c with
 | .skip=>Q .normal s
 | .ah l=>sN P (fun v s=>Q (.bN v) s) (Q .normal) l s
 | .dI l pr=>Qm P l pr Q s (sQ l 0)
 | .seq x y=>j7 P n b rd x (qO (fun s=>j7 P n b rd y Q s) Q) s
 | .cond c x y=>y9 (j7 P n b rd x Q s) (j7 P n b rd y Q s) (s.ev c)
 | .block id x=>j7 P n b rd x (fL id Q) s
 | .loop x=>Hj b (fun Q s=>j7 P n b rd x Q s) Q s
 | .exit id=>Q (.exit id) s
 | .ret=>Q .ret s
 | .Ky g ps x y=>uC P n b rd g ps x y Q s (s.ev g)
 | .bad=>False
section
variable {P:Program}{n b:Nat}{rd:Bool}
theorem C5{s:S}{f:V}{args:List V}{K K':V->(Nat->ad)->Nat->Prop}{X X':V->(Nat->ad)->Nat->Prop}(hK:∀v o n,K v o n->K' v o n)(hX:∀v o n,X v o n->X' v o n)(h:tR P K X s f args):
 match(generalizing:=false) f with
  | .func (.func g) first cap=>match cm s.o (first++args++cap)with
    |some ds=>vV P g ds s.o (put s.o (bG s.o (V.bc (first++args++cap)))) (put s.o (ss s.o (V.bc (first++args++cap)))) (fun v o'=>K' v o' (s.nx+1)) (fun v o'=>X' v o' (s.nx+1))\/tL P g (first++args++cap) s.o s.nx K' X'
    |none=>tL P g (first++args++cap) s.o s.nx K' X'
  | .kH id=>dQ P id args s.o s.nx K' X'
  |_=>False:=by
 unfold tR nI y0 at h
 split at h
 ·rename_i g first cap
  cases fj:cm s.o (first++args++cap)with
  |some ds=>
   simp only[fj]at h|-
   rcases h with⟨out,h1,h2|⟨h3,h2⟩|⟨h3,h2⟩⟩|h
   ·exact .inl ⟨out,h1, .inl (by cases out<;>first|exact hK _ _ _ h2|exact hX _ _ _ h2)⟩
   ·exact .inl ⟨out,h1, .inr (.inl ⟨h3,by cases out<;>first|exact hK _ _ _ h2|exact hX _ _ _ h2⟩)⟩
   ·exact .inl ⟨out,h1, .inr (.inr ⟨h3,by cases out<;>first|exact hK _ _ _ h2|exact hX _ _ _ h2⟩)⟩
   ·exact .inr (pa.mono hK hX h)
  |none=>
   simp only[fj]at h|-
   exact pa.mono hK hX h
 ·exact dQ.mono hK hX h
 ·exact h.elim
theorem zc{x:Option gr}{K:V->List (Nat×ad)->Prop}(h:kQ K x):∃v Δ rd,x=some (v,Δ,rd)/\K v Δ:=by
 unfold kQ at h;split at h
 ·exact⟨_,_,_,rfl,h⟩
 ·exact h.elim
theorem AR{s:S}{o:b7}{X X':V->S->Prop}{K K':S->Prop}(hK:∀s,K s->K' s)(hX:∀v s,X v s->X' v s)(h:C3 P X K o s):KL P s o X' K':=by
 unfold C3 at h
 unfold KL
 have hs:∀ {op:Op},(kQ (fun v Δ=>K ⟨a8 s.env o.dst v,put s.o Δ,s.nx+1⟩) (gM P s s.nx op))->(match gM P s s.nx op with|some (v,Δ,_)=>K' ⟨a8 s.env o.dst v,put s.o Δ,s.nx+1⟩|none=>False):=by
  intro op h
  obtain⟨v,Δ,rd,he,h⟩:=zc h
  simp only[he];exact hK _ h
 split at h
 ·rename_i x str hx
  rw[hx]
  unfold MA at h
  simp only
  split at h
  ·rename_i id l hl
   simp only[hl]
   exact⟨h.1,fun e=>hK _ (h.2.1 e),fun i k x e=>hK _ (h.2.2 i k x e)⟩
  ·rename_i hl
   simp only[hl]
   exact hs (op:= .next x str) h
 ·rename_i c hc
  simp only[hc]
  split at h
  ·rename_i f hf
   simp only[hf]
   exact C5 (K:=fun v o' nx'=>K ⟨a8 s.env o.dst v,o',nx'⟩) (X:=fun v o' nx'=>X v ⟨s.env,o',nx'⟩) (fun v o n h=>hK _ h) (fun v o n h=>hX _ _ h) h
  ·rename_i r m hf
   simp only[hf]
   unfold Mz at h
   split at h
   ·rename_i g y hr
    simp only[hr]
    unfold C2 at h
    split at h
    ·rename_i ds fj
     obtain⟨out,h1,h2⟩:=h
     refine .inl ⟨ds,fj,out,h1, ?_⟩
     rcases h2 with h2|⟨h3,h2⟩|⟨h3,h2⟩
     ·exact .inl (by cases out<;>first|exact hK _ h2|exact hX _ _ h2)
     ·exact .inr (.inl ⟨h3,by cases out<;>first|exact hK _ h2|exact hX _ _ h2⟩)
     ·exact .inr (.inr ⟨h3,by cases out<;>first|exact hK _ h2|exact hX _ _ h2⟩)
    ·exact h.elim
   ·exact h.elim
  ·rename_i hf hi
   rw[hc]at h
   obtain⟨L9,args,ts⟩:=c
   cases L9 with
   |value f=>exact absurd rfl (hf f)
   |invoke r m=>exact absurd rfl (hi r m)
   |_=>exact hs h
 ·rename_i x hx
  simp only[hx]
  unfold JI at h
  split at h
  ·rename_i hv;simp only[hv];exact hX _ _ h
  ·rename_i hv;simp only[hv];exact hX _ _ h
  ·exact h.elim
 ·rename_i uq hc hp
  have h2:=hs h
  cases hh:o.op<;>first
   |exact absurd hh (hc _)
   |exact absurd hh (hp _)
   |exact absurd hh (uq _ _)
   |(rw[hh]at h2;exact h2)
theorem MC{s:S}{o:b7}{X:V->S->Prop}{K:S->Prop}(hp:lA o.op=true){v:V}{Δ:List (Nat×ad)}{rd:List Nat}(he:gM P s s.nx o.op=some (v,Δ,rd))(h:K ⟨a8 s.env o.dst v,put s.o Δ,s.nx+1⟩):KL P s o X K:=by
 unfold KL
 split
 ·rename_i c hc
  split
  ·rename_i f hf;rw[hc]at hp;simp[lA,hf]at hp
  ·rename_i r m hf;rw[hc]at hp;simp[lA,hf]at hp
  ·rw[he];exact h
 ·rename_i x hx;rw[hx]at hp;simp[lA]at hp
 ·rename_i x str hx;rw[hx]at hp;simp[lA]at hp
 ·rw[he];exact h
theorem sR{X X':V->S->Prop}{K K':S->Prop}(hK:∀s,K s->K' s)(hX:∀v s,X v s->X' v s):∀ (l:List b7) (s:S),sN P X K l s->pQ P X' K' l s
 |[],s,h=>hK _ h
 |o::l,s,h=>by
  have ih:=sR hK hX l
  unfold sN at h
  unfold pQ
  cases hg:o.gd with
  |none=>
   simp only[hg]at h|-
   exact AR ih hX h
  |some p=>
   obtain⟨d,want⟩:=p
   simp only[hg]at h|-
   unfold AQ at h
   split at h
   ·exact h.elim
   ·rename_i c hc
    have WC:∀ {A B:Prop},(c=true->A)->(c=false->B)->(match s.env d with
     | .d (.bool b)=>if b=want then A else B
     | .bY []=>B
     |_=>False):=by
     intro A B hA hB
     generalize s.env d=v at hc
     unfold mT at hc
     split at hc
     ·rename_i b
      injection hc with hc
      split
      ·rename_i e;exact hA (by rw[<- hc];simp[e])
      ·rename_i e;exact hB (by rw[<- hc];simp[e])
     ·injection hc with hc
      exact hB hc.symm
     ·cases hc
    split at h
    ·rename_i f args KN
     rcases h with h|h
     case inr=>exact WC (fun TX=>AR ih hX (h.1 TX)) (fun WD=>ih _ (h.2 WD))
     obtain⟨rs,h1,h2⟩:=h
     refine WC (fun TX=> ?_) (fun WD=> ?_)
     ·unfold eP at KN
      split at KN
      ·rename_i c' yM
       split at KN
       ·rename_i f' xP
        injection KN with KN;injection KN with e1 e2;subst e1;subst e2
        have fh:=h1 TX
        unfold KL
        simp only[yM,xP]
        unfold C0 at fh
        split at fh
        ·rename_i g first cap xG
         simp only[xG]
         split at fh
         ·rename_i ds fj
          simp only[fj]
          refine .inl ⟨.ret rs,fh.1, .inr (.inl ⟨fh.2, ?_⟩)⟩
          refine ih _ ?_
          rw[TX]at h2
          exact h2
         ·exact fh.elim
        ·exact fh.elim
       ·cases KN
      ·cases KN
     ·refine ih _ ?_
      rw[WD]at h2
      exact h2
    ·split at h
     ·rename_i hp
      obtain⟨v,Δ,rd,he,h⟩:=zc h
      refine WC (fun TX=> ?_) (fun WD=> ?_)
      ·rw[TX]at he
       simp only[lz,if_true]at he
       split at he
       ·rename_i v' uH ql
        injection he with he;injection he with e1 e2;subst e1
        exact MC hp ql (ih _ h)
       ·cases he
      ·rw[WD]at he
       simp only[lz]at he
       injection he with he;injection he with e1 e2;subst e1
       exact ih _ h
     ·exact WC (fun TX=>AR ih hX (h.1 TX)) (fun WD=>ih _ (h.2 WD))
theorem AS{op:Op}{f:Operand}{args:List Operand}(h:eP op=some (f,args)):∃c,op= .call c/\c.callee= .value f/\c.args.toList=args:=by
 unfold eP at h
 split at h
 ·rename_i c
  split at h
  ·rename_i f' xP
   injection h with h;injection h with e1 e2;subst e1;subst e2
   exact⟨c,rfl,xP,rfl⟩
  ·cases h
 ·cases h
theorem JK{x:Option gr}{rd:List Nat}{K:KD}(h:wh K rd x):∃v Δ r,x=some (v,Δ,r)/\K v Δ rd:=by
 unfold wh at h;split at h
 ·exact⟨_,_,_,rfl,h⟩
 ·exact h.elim
theorem jh.mono {P:Program}{g:FuncId}{args:List V}{o:Nat->ad}{nx fr:Nat}{K K':KD}{X X':XD}(hK:∀v Δ r,K v Δ r->K' v Δ r)(hX:∀v w r,X v w r->X' v w r)(h:jh P g args o nx fr K X):jh P g args o nx fr K' X':=by
 obtain⟨rd,Δ,h1,⟨rs,h2,h3⟩|⟨x,h2,h3⟩|⟨v,h2,h3⟩⟩:=h
 ·exact⟨rd,Δ,h1, .inl ⟨rs,h2,hK _ _ _ h3⟩⟩
 ·exact⟨rd,Δ,h1, .inr (.inl ⟨x,h2,hX _ _ _ h3⟩)⟩
 ·exact⟨rd,Δ,h1, .inr (.inr ⟨v,h2,hK _ _ _ h3⟩)⟩
theorem tQ.mono {P:Program}{g:FuncId}{ds:List D}{Kf Kb KX Kf' Kb' KX':V->Prop}(h1:∀v,Kf v->Kf' v)(h2:∀v,Kb v->Kb' v)(h3:∀v,KX v->KX' v)(h:tQ P g ds Kf Kb KX):tQ P g ds Kf' Kb' KX':=by
 rcases h with⟨rs,a,b|⟨b,c⟩⟩|⟨x,a,b,c⟩|⟨v,a,b⟩
 ·exact .inl ⟨rs,a, .inl (h1 _ b)⟩
 ·exact .inl ⟨rs,a, .inr ⟨b,h2 _ c⟩⟩
 ·exact .inr (.inl ⟨x,a,b,h3 _ c⟩)
 ·exact .inr (.inr ⟨v,a,h1 _ b⟩)
theorem Hk{s:S}{fr:Nat}{o:b7}{K K':KD}{X X':XD}(hK:∀v Δ r,K v Δ r->K' v Δ r)(hX:∀v w r,X v w r->X' v w r)(h:O5 P K X fr o s):BM P s fr o K' X':=by
 unfold O5 at h
 split at h
 ·rename_i f args KN
  obtain⟨c,h1,h2,h3⟩:=AS KN
  subst h3
  unfold BM
  simp only[h1,h2]
  unfold C4 sP at h
  split at h
  ·rename_i g first cap hf
   simp only[hf]
   split at h
   ·rename_i ds fj
    simp only[fj]
    refine h.elim (fun h=> .inl ?_) (fun h=> .inr (jh.mono hK hX h))
    refine tQ.mono (fun v h=> ?_) (fun v h=> ?_) (fun v h=> ?_) h<;>(rw[h1]at h)
    ·exact hK _ _ _ h
    ·exact hK _ _ _ h
    ·exact hX _ _ _ h
   ·rename_i fj
    simp only[fj]
    exact jh.mono hK hX h
  ·exact h.elim
 ·rename_i KN
  obtain⟨v,Δ,rd,he,h⟩:=JK h
  unfold BM
  split
  ·rename_i c hc
   split
   ·rename_i f hf
    exact absurd KN (by simp[eP,hc,hf])
   ·simp only[he];exact hK _ _ _ h
  ·simp only[he];exact hK _ _ _ h
theorem C6{s:S}{fr:Nat}{o:b7}{K K':KD}{X X':XD}(hK:∀v Δ r,K v Δ r->K' v Δ r)(hX:∀v w r,X v w r->X' v w r)(h:BM P s fr o K X):BM P s fr o K' X':=by
 unfold BM at h|-
 split at h
 ·rename_i c hc
  rw[hc]at h|-
  split at h
  ·rename_i f hf
   (try simp only[hf])
   split at h
   ·rename_i xG
    (try simp only[xG])
    split at h
    ·exact h.elim (fun h=> .inl (tQ.mono (fun v h=>hK _ _ _ h) (fun v h=>hK _ _ _ h) (fun v h=>hX _ _ _ h) h)) (fun h=> .inr (jh.mono hK hX h))
    ·exact jh.mono hK hX h
   ·exact h.elim
  ·rename_i hf
   split at h
   ·rename_i he
    (try simp only[he])
    exact hK _ _ _ h
   ·exact h.elim
 ·split at h
  ·rename_i he
   (try simp only[he]);exact hK _ _ _ h
  ·exact h.elim
theorem jC{KB KB':List Nat->Fp->Prop}{pr:List (List Nat)}(hK:∀l fp,KB l fp->KB' l fp):∀ (l:List b7) (fr:Nat) (s:S) (fp:Fp) (bad ws:List Nat),iJ P KB pr l fr s fp bad ws->iJ P KB' pr l fr s fp bad ws
 |[],_,_,_,_,_,h=>hK _ _ h
 |o::l,fr,s,fp,bad,ws,h=>by
  unfold iJ at h|-
  split
  ·rename_i hb
   rw[if_pos hb]at h
   exact jC hK l _ _ _ _ _ h
  ·rename_i hb
   rw[if_neg hb]at h
   split at h
   ·exact C6 (fun v Δ r h=>jC hK l _ _ _ _ _ h) (fun _ _ _ h=>h) h
   ·split at h
    ·split at h
     ·rename_i e;simp only[e,if_true]
      exact C6 (fun v Δ r h=>jC hK l _ _ _ _ _ h) (fun _ _ _ h=>h) h
     ·rename_i e;simp only[e,if_false]
      exact jC hK l _ _ _ _ _ h
    ·exact jC hK l _ _ _ _ _ h
    ·exact h.elim
theorem jD{K K':S->Fp->Prop}{KP KP':V->List Nat->Fp->Prop}{pr:List (List Nat)}(hK:∀s fp,K s fp->K' s fp)(hP:∀v l fp,KP v l fp->KP' v l fp):∀ (l:List b7) (fr:Nat) (s:S) (fp:Fp),pT P K KP pr l fr s fp->lu P K' KP' pr l fr s fp
 |[],_,_,_,h=>hK _ _ h
 |o::l,fr,s,fp,h=>by
  have hB:∀v ws (rdl:List Nat),JJ P (KP v) pr l (fr+1) (fp++[(rdl,[])]) [fp.length] (ws++fp.flatMap (·.2)) ⟨a8 s.env o.dst .ab,s.o,s.nx⟩->
   iJ P (KP' v) pr l (fr+1) ⟨a8 s.env o.dst .ab,s.o,s.nx⟩ (fp++[(rdl,[])]) [fp.length] (ws++fp.flatMap (·.2)):=fun v ws rdl h=>jC (fun a b h=>hP v a b h) l _ _ _ _ _ h
  unfold pT at h
  unfold lu
  split at h
  ·rename_i hg
   (try simp only[hg])
   exact Hk (fun v Δ r h=>jD hK hP l _ _ _ h) hB h
  ·rename_i d want hg
   (try simp only[hg])
   generalize s.env d=v at h
   unfold j6 at h
   split at h
   ·rename_i bb
    by_cases e:bb=want
    ·subst e
     simp only[if_true]
     exact Hk (fun v Δ r h=>jD hK hP l _ _ _ h) hB (h.1 aE)
    ·simp only[if_neg e]
     exact jD hK hP l _ _ _ (h.2 (by simpa using e))
   ·exact jD hK hP l _ _ _ h
   ·exact h.elim
theorem ej:∀ (c:IC) (Q Q':fK->S->Prop) (s:S),(∀e s,Q e s->Q' e s)->j7 P n b rd c Q s->uP P n b rd c Q' s
 | .skip,_,_,_,hQ,h=>hQ _ _ h
 | .ah l,_,_,_,hQ,h=>sR (fun s h=>hQ _ _ h) (fun v s h=>hQ _ _ h) l _ h
 | .dI l pr,_,_,_,hQ,h=>by
   unfold j7 at h
   generalize sQ l 0=sp at h
   cases sp with
   |none=>exact .inl (jD (fun s fp h=>⟨h.1,hQ _ _ h.2⟩) (fun v l fp h=>⟨h.1,hQ _ _ h.2⟩) l _ _ _ h)
   |some m=>exact .inr ⟨m,h.1,h.2.1,jD (fun s fp h=>⟨h.1,sR (fun s h=>hQ _ _ h) (fun v s h=>hQ _ _ h) _ _ h.2⟩) (fun v l fp h=>h.elim) _ _ _ _ h.2.2⟩
 | .seq x y,Q,Q',s,hQ,h=>ej x _ _ s (fun e s h=>by
  unfold qO at h|-
  cases e with
  |normal=>exact ej y _ _ s hQ h
  |_=>exact hQ _ _ h) h
 | .cond c x y,Q,Q',s,hQ,h=>by
   unfold j7 y9 iY at h
   unfold uP
   split at h
   ·rename_i t ht
    simp only[ht]
    exact⟨fun e=>ej x _ _ s hQ (h.1 e),fun e=>ej y _ _ s hQ (h.2 e)⟩
   ·rename_i ht
    simp only[ht]
    exact⟨ej x _ _ s hQ h.1,ej y _ _ s hQ h.2⟩
   ·exact h.elim
 | .block id x,Q,Q',s,hQ,h=>ej x _ _ s (fun e s h=>by
  unfold fL at h|-
  cases e with
  |exit j=>
   simp only at h|-
   split
   ·rename_i e;rw[if_pos e]at h;exact hQ _ _ h
   ·rename_i e;rw[if_neg e]at h;exact hQ _ _ h
  |_=>exact hQ _ _ h) h
 | .loop x,Q,Q',s,hQ,h=>by
   obtain⟨ι,st,cu,pU,i0,h0,hle,h2⟩:=h
   refine⟨fun m s=>∃i,cu i/\pU i=m/\s=st i,⟨pU i0,st i0,hle,i0,h0,rfl,rfl⟩, ?_⟩
   rintro m s0 ⟨i,hg,rfl,rfl⟩
   refine ej x _ _ _ (fun e s h=> ?_) (h2 i hg)
   cases e with
   |normal=>
    obtain⟨j,k1,k2,k3⟩:=h
    exact⟨pU j,st j,k2,k3,j,k1,rfl,rfl⟩
   |_=>exact hQ _ _ h
 | .exit id,_,_,_,hQ,h=>hQ _ _ h
 | .ret,_,_,_,hQ,h=>hQ _ _ h
 | .Ky g ps x y,_,_,_,hQ,h=>⟨h.1,match h.2 with
   | .inl h=>⟨_, .inl rfl,sM hQ h⟩
   | .inr ⟨s',hle,h⟩=>⟨s', .inr hle,sM hQ h⟩⟩
 | .bad,_,_,_,_,h=>h.elim
end
theorem aW.aG {P:Program}(bf:P.follows .mixedOrders=true){f:FuncId}{n:Nat}{ic:IC}{rs:List ResultVar}{ds:List D}{out:R}(hf:aO P f n ic rs)(hl:ds.length<=n)
 (h:j7 P n 0 false ic (Aq P rs out) ⟨cC (ds.map .d),fun _=> .no,0⟩):aW P f ds out:=
 aW.we bf hf hl (ej ic _ _ _ (fun _ _ h=>h) h)
def sS(P:Program)(rs:List ResultVar)(K X:V->(Nat->ad)->Nat->Prop)(e:fK)(s:S):Prop:=mo P rs K X e s
theorem bP.aG {P:Program}(bf:P.follows .mixedOrders=true){f:FuncId}{n:Nat}{ic:IC}{rs:List ResultVar}{args:List V}{o:Nat->ad}{nx:Nat}{K X:V->(Nat->ad)->Nat->Prop}(hf:aO P f n ic rs)(hl:args.length<=n)
 (h:j7 P n nx false ic (sS P rs K X) ⟨cC args,o,nx⟩):bP P f args o nx K X:=
 bP.we bf hf hl (ej ic _ _ _ (fun _ _ h=>h) h)
section
variable {P:Program}{g:FuncId}{ds:List D}{o:Nat->ad}{nx:Nat}{K X:V->(Nat->ad)->Nat->Prop}{all:List V}
theorem aq{rs:List D}(h:aW P g ds (.ret rs))(hf:D.jZ rs=true)(hk:K (jf rs) o (nx+1)):wg P g o nx K X ds all:= .inl ⟨.ret rs,h, .inr (.inl ⟨hf,hk⟩)⟩
theorem bE{rs:List D}(h:aW P g ds (.ret rs))(hk:K (jf rs) (put o (bG o (V.bc all))) (nx+1)):wg P g o nx K X ds all:= .inl ⟨.ret rs,h, .inl hk⟩
theorem bX(h:bP P g all o nx K X):wg P g o nx K X ds all:= .inr (.inl h)
theorem gG{e:Nat->V}{ds:Option (List D)}(h:bP P g all o nx K X):nI P g K X ⟨e,o,nx⟩ all ds:=by
 cases ds with
 |some ds=>exact(.inr (.inl h):wg P g o nx K X ds all)
 |none=>exact(.inl h:C1 P g nx K X all o)
theorem aT(h:bP P g all o nx K X):C1 P g nx K X all o:= .inl h
variable {K:KD}{X:XD}{rd:List Nat}{fr:Nat}
theorem aZ{rs:List D}(h:aW P g ds (.ret rs))(hf:D.jZ rs=true)(hk:K (jf rs) [] rd):mz P g K X o nx fr rd ds all:= .inl (.inl ⟨rs,h, .inr ⟨hf,hk⟩⟩)
theorem bC{rs:List D}(h:aW P g ds (.ret rs))(hk:K (jf rs) (bG o (V.bc all)) rd):mz P g K X o nx fr rd ds all:= .inl (.inl ⟨rs,h, .inl hk⟩)
theorem zd{v:V}(h:O4 P g ds v)(hk:K v (bG o (V.bc all)) rd):mz P g K X o nx fr rd ds all:= .inl (.inr (.inr ⟨v,h,hk⟩))
theorem JL{v:V}{uH:List Nat}{Δ:List (Nat×ad)}(mV:uH.all (fun id=>decide (id<nx))=true)(h:BJ P g all uH o fr v Δ)(hk:K v Δ uH):mz P g K X o nx fr rd ds all:= .inr ⟨uH,Δ,mV, .inr (.inr ⟨v,h,hk⟩)⟩
end
theorem gH{P:Program}{f:V}{args:List V}{o:Nat->ad}{K:V->Prop}{c:Bool}(rs:List D)(h:mS c (C0 P f args o rs))(hk:K (V.AP c (jf rs))):Hg P f args o K c:=⟨rs,h,hk⟩
theorem ak{t:Bool}{A B:Prop}(h:t=true->A)(h2:t=false->B):iY A B t:=⟨h,h2⟩
theorem aK{pr:List (List Nat)}{nx:Nat}{Q:fK->S->Prop}{s:S}{fp:List (List Nat×List Nat)}(h:eV pr fp=true)(h2:Q .normal ⟨s.env,s.o,nx⟩):Ql pr nx Q s fp:=⟨h,h2⟩
@[go_sem] theorem MD (o:Nat->ad):put o []=o:=rfl
@[go_sem] theorem ZC (o:Nat->ad) (x:Nat×ad) (l:List (Nat×ad)):put o (x::l)=put (ay o x.1 x.2) l:=rfl
@[go_sem] theorem aa {α:Type} (f:Nat->α) (i:Nat) (x:α):ay f i x i=x:=aE
@[go_sem] theorem ae {α:Type} (f:Nat->α) (i j:Nat) (x:α) (h:j≠i):ay f i x j=f j:=by simp[h]
@[go_sem] theorem Qo (v:V) (l:List V):cC (v::l) 0=v:=rfl
@[go_sem] theorem Qp (v:V) (l:List V) (i:Nat):cC (v::l) (i+1)=cC l i:=rfl
@[go_sem] theorem TY (i:Nat):cC [] i= .bY []:=by simp[cC]
@[go_sem] theorem ZD {P:Program} {o:Nat->ad} {t:TypeId} {id off:Nat}:nC P o t (.ptr id off)=match o id with
 | .row cs=>match eX P t cs off with
   |some v=>some (v,[],[id])
   |none=>none
 |_=>none:=by unfold nC;exact Eq.trans rfl rfl
@[go_sem] theorem acd {P:Program} {o:Nat->ad} {t:TypeId} {cs:List D} {off:Nat}:nC P o t (.pp cs off)=match eX P t (cs.map .d) off with
 |some v=>some (v,[],[])
 |none=>none:=by unfold nC;exact Eq.trans rfl rfl
@[go_sem] theorem ace {P:Program} {o:Nat->ad} {t:TypeId} {id ep i sz off:Nat}:nC P o t (.pe id ep i sz off)=match o id with
 | .arr fT _ rX es=>if ep=fT/\sz=rX then match es[i]? with
  |some e=>match eX P t (e.cells.map .d) off with
   |some v=>some (v,[],[id])
   |none=>none
  |none=>none
   else none
 |_=>none:=by unfold nC;exact Eq.trans rfl rfl
section
variable {P:Program}{o:Nat->ad}{t:TypeId}{op:BinOp}{ng:Bool}
@[go_sem] theorem ZE {k:IntKind} {a b:Int}:fF P o op t ng (.d (.int k a)) (.d (.int k b))=match CJ op k a b with
 |some v=>one v
 |none=>sy P o op t ng (.d (.int k a)) (.d (.int k b)):=by
  simp only[fF,Ax,if_true]
  cases CJ op k a b<;>rfl
@[go_sem] theorem ZF {a b:Bool} (h:mq P t=true):fF P o .eql t ng (.d (.bool a)) (.d (.bool b))=one (.d (.bool (a==b))):=by simp only[fF,Ax,Ml,h,if_true]
@[go_sem] theorem ZG {a b:Bool} (h:mq P t=true):fF P o .neq t ng (.d (.bool a)) (.d (.bool b))=one (.d (.bool (a !=b))):=by simp only[fF,Ax,Ml,h,if_true]
@[go_sem] theorem ZH {a b:List UInt8}:fF P o .eql t ng (.d (.str a)) (.d (.str b))=one (.d (.bool (a==b))):=Lw
@[go_sem] theorem ZI {a b:List UInt8}:fF P o .neq t ng (.d (.str a)) (.d (.str b))=one (.d (.bool (a !=b))):=Lw
@[go_sem] theorem ZJ {a b:List D}:fF P o op t ng (.d (.agg a)) (.d (.agg b))=sy P o op t ng (.d (.agg a)) (.d (.agg b)):=Lw
theorem PD{x:V}{y:V}(h:match y with| .d (.int _ _)| .d (.bool _)| .d (.str _)=>False|_=>True):Ax P op t x y=none:=by
 unfold Ax
 split<;>first|exact h.elim|rfl
@[go_sem] theorem WE {x:V}:fF P o op t ng x .ax=sy P o op t ng x .ax:=BU
@[go_sem] theorem WG {x:V}:fF P o op t ng x (.d .eW)=sy P o op t ng x (.d .eW):=BU
@[go_sem] theorem WH {x:V}:fF P o op t ng x (.d .lG)=sy P o op t ng x (.d .lG):=BU
@[go_sem] theorem WI {x:V}:fF P o op t ng x (.d .cF)=sy P o op t ng x (.d .cF):=BU
@[go_sem] theorem WJ {x:V}:fF P o op t ng x (.d .dL)=sy P o op t ng x (.d .dL):=BU
@[go_sem] theorem acf {b:Bool}:I0 .not (.d (.bool b))=some (.d (.bool !b)):=Ly
@[go_sem] theorem acg:I0 .not .fH=some .fH:=Ly
@[go_sem] theorem ach {k:IntKind} {n:Int}:I0 .neg (.d (.int k n))=some (.d (.int k (k.wrap (-n)))):=Ly
end
@[go_sem] theorem D.ZK (cs:List D):(D.agg cs).cells=cs:=rfl
@[go_sem] theorem D.ZL (k:IntKind) (n:Int):(D.int k n).cells=[.int k n]:=rfl
@[go_sem] theorem D.WK (b:Bool):(D.bool b).cells=[.bool b]:=rfl
@[go_sem] theorem D.ZM (b:List UInt8):(D.str b).cells=[.str b]:=rfl
@[go_sem] theorem D.acj (b:List D):(D.sl b).cells=[.sl b]:=rfl
@[go_sem] theorem D.ack (a b:List D):(D.mp a b).cells=[.mp a b]:=rfl
@[go_sem] theorem D.TZ (t:TypeId) (x:D):(D.iface t x).cells=[.iface t x]:=rfl
@[go_sem] theorem D.WL:D.eW.cells=[.eW]:=rfl
@[go_sem] theorem D.WM:D.lG.cells=[.lG]:=rfl
@[go_sem] theorem D.WN:D.cF.cells=[.cF]:=rfl
@[go_sem] theorem D.WO:D.dL.cells=[.dL]:=rfl
attribute [go_sem] V.ofConst V.dz CJ Ml qW E6 yS px iG iH sI gC mu qX qY qZ Ay jA Mm mm dM cm eX Ab tA mQ V.cells D.put bG V.ids V.bc jf D.jZ D.flat R.flat
attribute [go_sem] EI List.take_succ_cons List.take_zero List.take_nil List.drop_zero List.drop_succ_cons List.drop_nil
attribute [go_sem] List.map_cons List.map_nil List.length_cons List.length_nil List.cons_append List.nil_append List.append_nil List.getElem?_cons_zero List.getElem?_cons_succ Option.bind_some Option.bind_none Option.map_some Option.map_none ad.cA ad.cz
section
variable {P:Program}{n b:Nat}{rd:Bool}{Q:fK->S->Prop}{s:S}
@[go_sem] theorem acm:j7 P n b rd .skip Q s=Q .normal s:=propext Iff.rfl
@[go_sem] theorem afi {l:List b7}:j7 P n b rd (.ah l) Q s=sN P (fun v s=>Q (.bN v) s) (Q .normal) l s:=propext Iff.rfl
@[go_sem] theorem afj {l:List b7} {pr:List (List Nat)}:j7 P n b rd (.dI l pr) Q s=Qm P l pr Q s (sQ l 0):=propext Iff.rfl
@[go_sem] theorem ZN {l:List b7} {pr:List (List Nat)}:Qm P l pr Q s none=pT P (Ql pr (s.nx+l.length) Q) (CX pr l s Q) pr l s.nx s []:=propext Iff.rfl
@[go_sem] theorem acn {k:Nat}:sQ [] k=none:=rfl
@[go_sem] theorem aco {d:Option Nat} {t:Nat} {args:Array Operand} {ts:Array TypeId} {l:List b7} {k:Nat}:sQ (⟨d, .call ⟨.value (.tmp t),args,ts⟩,none⟩::l) k=some k:=rfl
@[go_sem] theorem afk {d:Option Nat} {op:Op} {g:Nat×Bool} {l:List b7} {k:Nat}:sQ (⟨d,op,some g⟩::l) k=sQ l (k+1):=rfl
@[go_sem] theorem acp {d:Option Nat} {f:Nat} {args:Array Operand} {ts:Array TypeId} {l:List b7} {k:Nat}:sQ (⟨d, .call ⟨.value (.func f),args,ts⟩,none⟩::l) k=sQ l (k+1):=rfl
@[go_sem] theorem afl {d:Option Nat} {op:Op} {l:List b7} {k:Nat} (h:eP op=none):sQ (⟨d,op,none⟩::l) k=sQ l (k+1):=by rw[sQ.eq_2];simp only[h]
@[go_sem] theorem afm {x y:IC}:j7 P n b rd (.seq x y) Q s=j7 P n b rd x (qO (fun s=>j7 P n b rd y Q s) Q) s:=propext Iff.rfl
@[go_sem] theorem acq {c:Operand} {x y:IC}:j7 P n b rd (.cond c x y) Q s=y9 (j7 P n b rd x Q s) (j7 P n b rd y Q s) (s.ev c):=propext Iff.rfl
@[go_sem] theorem ZO {id:Nat} {x:IC}:j7 P n b rd (.block id x) Q s=j7 P n b rd x (fL id Q) s:=propext Iff.rfl
@[go_sem] theorem acr {x:IC}:j7 P n b rd (.loop x) Q s=Hj b (fun Q s=>j7 P n b rd x Q s) Q s:=propext Iff.rfl
@[go_sem] theorem acs {id:Nat}:j7 P n b rd (.exit id) Q s=Q (.exit id) s:=propext Iff.rfl
@[go_sem] theorem afn:j7 P n b rd .ret Q s=Q .ret s:=propext Iff.rfl
@[go_sem] theorem afo {g:Operand} {ps:List Nat} {x y:IC}:j7 P n b rd (.Ky g ps x y) Q s=uC P n b rd g ps x y Q s (s.ev g):=propext Iff.rfl
@[go_sem] theorem acu {X:V->S->Prop} {K:S->Prop}:sN P X K [] s=K s:=propext Iff.rfl
@[go_sem] theorem ZP {X:V->S->Prop} {K:S->Prop} {d:Option Nat} {op:Op} {l:List b7}:sN P X K (⟨d,op,none⟩::l) s=C3 P X (sN P X K l) ⟨d,op,none⟩ s:=propext Iff.rfl
@[go_sem] theorem ZQ {X:V->S->Prop} {K:S->Prop} {d:Option Nat} {op:Op} {g:Nat} {w:Bool} {l:List b7}:sN P X K (⟨d,op,some (g,w)⟩::l) s=AQ P X (sN P X K l) ⟨d,op,some (g,w)⟩ s (mT (s.env g) w):=propext Iff.rfl
variable {X:V->S->Prop}{K:S->Prop}{d:Option Nat}{op:Op}{g:Option (Nat×Bool)}{f:Operand}{args:Array Operand}{ts:Array TypeId}{c:Bool}
@[reducible] def ZR:Op->Bool
  | .call c=>match c.callee with
    | .value _=>true
    | .invoke .. =>true
    |_=>false
  | .panic _=>true
  | .next .. =>true
  |_=>false
@[go_sem] theorem af8 (h:ZR op=false):C3 P X K ⟨d,op,g⟩ s=kQ (fun v Δ=>K ⟨a8 s.env d v,put s.o Δ,s.nx+1⟩) (gM P s s.nx op):=by
  unfold C3
  cases op with
  |call c=>
   obtain⟨L9,args,ts⟩:=c
   cases L9 with
   |value f=>simp[ZR]at h
   |invoke r m=>simp[ZR]at h
   |_=>rfl
  |panic x=>simp[ZR]at h
  |next x str=>simp[ZR]at h
  |_=>rfl
@[go_sem] theorem acv {x:Operand} {str:Bool}:C3 P X K ⟨d, .next x str,g⟩ s=MA (fun v Δ=>K ⟨a8 s.env d v,put s.o Δ,s.nx+1⟩) str (pn s.o (s.ev x) str) (pq s.o (s.ev x)):=propext Iff.rfl
@[go_sem] theorem acw:C3 P X K ⟨d, .call ⟨.value f,args,ts⟩,g⟩ s=tR P (fun v o' nx'=>K ⟨a8 s.env d v,o',nx'⟩) (fun v o' nx'=>X v ⟨s.env,o',nx'⟩) s (s.ev f) (args.toList.map s.ev):=propext Iff.rfl
@[go_sem] theorem WQ {m:String}:C3 P X K ⟨d, .call ⟨.invoke f m,args,ts⟩,g⟩ s=Mz P (fun v o' nx'=>K ⟨a8 s.env d v,o',nx'⟩) (fun v o' nx'=>X v ⟨s.env,o',nx'⟩) s (args.toList.map s.ev) (vO P m (s.ev f)):=propext Iff.rfl
@[go_sem] theorem ZS:C3 P X K ⟨d, .panic f,g⟩ s=JI (fun v=>X v s) (s.ev f):=propext Iff.rfl
@[go_sem] theorem ZT:AQ P X K ⟨d, .call ⟨.value f,args,ts⟩,g⟩ s (some c)=Fq P X K ⟨d, .call ⟨.value f,args,ts⟩,g⟩ s f args.toList c:=propext Iff.rfl
theorem iL{e:Nat->V}{ob:Nat->ad}{nx:Nat}(h:Hg P ((⟨e,ob,nx⟩:S).ev f) (args.toList.map (⟨e,ob,nx⟩:S).ev) ob (fun v=>K ⟨a8 e d v,ob,nx+1⟩) c):Fq P X K ⟨d,op,g⟩ ⟨e,ob,nx⟩ f args.toList c:= .inl h
theorem C7{s:S}{o:b7}{l:List Operand}(h:iY (C3 P X K o s) (K ⟨a8 s.env o.dst (.bY []),s.o,s.nx+1⟩) c):Fq P X K o s f l c:= .inr h
@[go_sem] theorem ZU (h:lA op=true):AQ P X K ⟨d,op,g⟩ s (some c)=kQ (fun v _=>K ⟨a8 s.env d v,s.o,s.nx+1⟩) (lz c (gM P s s.nx op)):=by
  have h2:eP op=none:=by
   cases hc:eP op with
   |none=>rfl
   |some x=>
    exfalso
    unfold eP at hc
    split at hc
    ·split at hc
     ·rename_i hv;simp[lA,hv]at h
     ·cases hc
    ·cases hc
  simp only[AQ,h2,h,if_true]
@[go_sem] theorem ZV (h:lA op=false) (h2:eP op=none):AQ P X K ⟨d,op,g⟩ s (some c)=iY (C3 P X K ⟨d,op,g⟩ s) (K ⟨a8 s.env d (.bY []),s.o,s.nx+1⟩) c:=by
  simp[AQ,h2,h]
@[go_sem] theorem WR {l:List Operand}:Fq P X K ⟨d,op,g⟩ s f l false=K ⟨a8 s.env d (.bY []),s.o,s.nx+1⟩:=by
  refine propext ⟨fun h=> ?_,fun h=> .inr ⟨(fun e=>by cases e),fun _=>h⟩⟩
  rcases h with⟨rs,_,h⟩|h
  ·exact h
  ·exact h.2 rfl
@[go_sem] theorem ZW {l:List Operand} (hl:args.toList=l):Fq P X K ⟨d, .call ⟨.value f,args,ts⟩,g⟩ s f l true=C3 P X K ⟨d, .call ⟨.value f,args,ts⟩,g⟩ s:=by
  subst hl
  refine propext ⟨fun h=> ?_,fun h=> .inr ⟨fun _=>h,(fun e=>by cases e)⟩⟩
  rcases h with⟨rs,h1,h⟩|h
  ·have h1:=h1 rfl
   unfold C0 at h1
   unfold C3 tR nI
   simp only
   split at h1
   ·rename_i fv gg first cap hf
    simp only[hf]
    split at h1
    ·rename_i ds fj
     simp only[fj]
     exact .inl ⟨.ret rs,h1.1, .inr (.inl ⟨h1.2,h⟩)⟩
    ·exact h1.elim
   ·exact h1.elim
  ·exact h.1 rfl
variable {KV:KD}{XV:XD}
@[go_sem] theorem acx {fr:Nat}:O5 P KV XV fr ⟨d, .call ⟨.value f,args,ts⟩,g⟩ s=C4 P KV XV s.o s.nx fr (o9 s (.call ⟨.value f,args,ts⟩)) (s.ev f) (args.toList.map s.ev):=propext Iff.rfl
@[go_sem] theorem af9 {fr:Nat} (h2:eP op=none):O5 P KV XV fr ⟨d,op,g⟩ s=wh KV (o9 s op) (gM P s fr op):=by simp[O5,h2]
variable {KS:S->Prop}
@[go_sem ↓] theorem Qq:qO KS Q .normal s=KS s:=propext Iff.rfl
@[go_sem ↓] theorem WS {id:Nat}:qO KS Q (.exit id) s=Q (.exit id) s:=propext Iff.rfl
@[go_sem ↓] theorem ZX:qO KS Q .ret s=Q .ret s:=propext Iff.rfl
@[go_sem ↓] theorem ZY {v:V}:qO KS Q (.bN v) s=Q (.bN v) s:=propext Iff.rfl
@[go_sem ↓] theorem O6 {id:Nat}:fL id Q .normal s=Q .normal s:=propext Iff.rfl
@[go_sem ↓] theorem T0 {id:Nat}:fL id Q (.exit id) s=Q .normal s:=by simp[fL]
@[go_sem ↓] theorem Qr {id j:Nat} (h:j≠id):fL id Q (.exit j) s=Q (.exit j) s:=by simp[fL,h]
@[go_sem ↓] theorem WT {id:Nat}:fL id Q .ret s=Q .ret s:=propext Iff.rfl
@[go_sem ↓] theorem WU {id:Nat} {v:V}:fL id Q (.bN v) s=Q (.bN v) s:=propext Iff.rfl
def Qs(out:R)(x:Option (List D)):Prop:=match x with|some ds=>out= .ret ds|none=>False
@[go_sem] theorem ZZ {out:R} {ds:List D}:Qs out (some ds)=(out= .ret ds):=propext Iff.rfl
def WV(out:R)(x:Option D):Prop:=match x with|some d=>out= .bN d|none=>False
@[go_sem] theorem Z0 {out:R} {d:D}:WV out (some d)=(out= .bN d):=propext Iff.rfl
def Qt(out:R)(o:Nat->ad)(x:Option (List V)):Prop:=match x with|some vs=>Qs out (cm o vs)|none=>False
@[go_sem] theorem Z1 {out:R} {o:Nat->ad} {vs:List V}:Qt out o (some vs)=Qs out (cm o vs):=propext Iff.rfl
variable {rs:List ResultVar}{out:R}
@[go_sem ↓] theorem Z2:Aq P rs out .ret s=Qt out s.o (mm P s rs):=propext Iff.rfl
@[go_sem ↓] theorem Qu:Aq P rs out .normal s=Qt out s.o (mm P s rs):=propext Iff.rfl
@[go_sem ↓] theorem Z3 {v:V}:Aq P rs out (.bN v) s=WV out (dM s.o v):=propext Iff.rfl
def C8(K:V->(Nat->ad)->Nat->Prop)(o:Nat->ad)(nx:Nat)(x:Fix (Option (List V)) (K,o,nx)):Prop:=match x with
 |some [v]=>K v o nx
 |some vs=>K (.bY vs) o nx
 |none=>False
@[go_sem] theorem acz {K:V->(Nat->ad)->Nat->Prop} {o:Nat->ad} {nx:Nat} {v:V}:C8 K o nx (some [v])=K v o nx:=propext Iff.rfl
@[go_sem] theorem acA {K:V->(Nat->ad)->Nat->Prop} {o:Nat->ad} {nx:Nat}:C8 K o nx (some [])=K (.bY []) o nx:=propext Iff.rfl
@[go_sem] theorem acB {K:V->(Nat->ad)->Nat->Prop} {o:Nat->ad} {nx:Nat} {v u:V} {l:List V}:C8 K o nx (some (v::u::l))=K (.bY (v::u::l)) o nx:=propext Iff.rfl
theorem Hl{K X:V->(Nat->ad)->Nat->Prop}:mo P rs K X .ret s=C8 K s.o s.nx (mm P s rs):=by
 unfold mo C8
 cases mm P s rs with
 |none=>rfl
 |some l=>match l with
  |[]=>rfl
  |[_]=>rfl
  |_::_::_=>rfl
@[go_sem ↓] theorem acC {K X:V->(Nat->ad)->Nat->Prop}:sS P rs K X .ret s=C8 K s.o s.nx (mm P s rs):=Hl
@[go_sem ↓] theorem T1 {K X:V->(Nat->ad)->Nat->Prop}:sS P rs K X .normal s=C8 K s.o s.nx (mm P s rs):=(Hl (X:=X):mo P rs K X .ret s=_)
@[go_sem ↓] theorem acD {K X:V->(Nat->ad)->Nat->Prop} {v:V}:sS P rs K X (.bN v) s=X v s.o s.nx:=propext Iff.rfl
variable {KE:S->Fp->Prop}{KP:V->List Nat->Fp->Prop}{pr:List (List Nat)}{fr:Nat}{fp:Fp}
@[go_sem] theorem acE:pT P KE KP pr [] fr s fp=KE s fp:=propext Iff.rfl
@[go_sem] theorem Z4 {d:Option Nat} {op:Op} {l:List b7}:pT P KE KP pr (⟨d,op,none⟩::l) fr s fp=
 O5 P (fun v Δ rd=>pT P KE KP pr l (fr+1) ⟨a8 s.env d v,put s.o Δ,s.nx⟩ (fp++[(rd,Δ.map (·.1))]))
  (fun v ws rd=>JJ P (KP v) pr l (fr+1) (fp++[(rd,[])]) [fp.length] (ws++fp.flatMap (·.2)) ⟨a8 s.env d .ab,s.o,s.nx⟩) fr ⟨d,op,none⟩ s:=propext Iff.rfl
@[go_sem] theorem Z5 {d:Option Nat} {op:Op} {g:Nat} {w:Bool} {l:List b7}:pT P KE KP pr (⟨d,op,some (g,w)⟩::l) fr s fp=
 j6 w (O5 P (fun v Δ rd=>pT P KE KP pr l (fr+1) ⟨a8 s.env d v,put s.o Δ,s.nx⟩ (fp++[(rd,Δ.map (·.1))]))
  (fun v ws rd=>JJ P (KP v) pr l (fr+1) (fp++[(rd,[])]) [fp.length] (ws++fp.flatMap (·.2)) ⟨a8 s.env d .ab,s.o,s.nx⟩) fr ⟨d,op,some (g,w)⟩ s)
   (pT P KE KP pr l (fr+1) ⟨a8 s.env d (.bY []),s.o,s.nx⟩ (fp++[([],[])])) (s.env g):=propext Iff.rfl
end
attribute [go_sem] ZR eP lA gM one mw a8 S.ev C0
theorem aj{ι:Type}{b:Nat}{st:ι->S}{cu:ι->Prop}{pU:ι->Nat}{i:ι}{s:S}(j:ι)(h1:cu j)(h2:pU j<pU i)(h3:bL b s (st j)):Hi b st cu pU i s:=⟨j,h1,h2,h3⟩
attribute [irreducible] Qm TW j7 sN C3 AQ Fq tR nI C2 My Mz Hg wg C1 kQ JI iY j6 MB mz sO sP C4 wh O5 pT JJ uC y0 sS C8 Ql y9 Hj Qs WV Qt wk Hi
end
section
section
variable (ρ:Nat->Option Nat)(o' o:Nat->ad)(nx:Nat)
end
section
variable {M M':Nat->Prop}{φ aH:Place}{H H':Hp}{w:World}{ρ:Nat->Option Nat}{nx:Nat}
end
end
@[go_sem] theorem oE (v:V) (l:List V):aX (v::l) 0=v:=rfl
@[go_sem] theorem oF (v:V) (l:List V) (i:Nat):aX (v::l) (i+1)=aX l i:=rfl
@[go_sem] theorem q9 (i:Nat):aX [] i= .ab:=by simp[aX]
@[go_sem] theorem T2 (k:Nat):(0<=(k:Int))=True:=aE
attribute [go_sem] List.getElem?_map List.length_map Int.toNat_natCast
attribute [go_sem] eY List.flatMap_cons List.flatMap_nil
attribute [go_sem] isConst sy PI sv sw Ca su qy EK PJ yx I6 pH pI yw vz vA qz
attribute [go_sem] o9 V.refs V.aL
attribute [go_sem] List.all_nil List.all_cons Option.some.injEq D.int.injEq D.bool.injEq Nat.zero_add Nat.add_zero
theorem wrap64{n:Int}(h1: -9223372036854775808<=n)(h2:n<=9223372036854775807):IntKind.i64.wrap n=n:=by
 unfold IntKind.wrap
 have e1:((2:Int)^IntKind.i64.bits)=18446744073709551616:=bF
 have e2:((2:Int)^(IntKind.i64.bits - 1))=9223372036854775808:=bF
 have e3:IntKind.i64.signed=true:=rfl
 simp only[e1,e2,e3,Bool.true_and,decide_eq_true_eq]
 split<;>omega
structure Good (o:Nat->ad) (nx:Nat):Prop where
 fresh:∀id,nx<=id->o id= .no
 refs:∀id,∀r∈(o id).refs,r<nx
theorem Good.nil {nx:Nat}:Good (fun _=> .no) nx:=⟨fun _ _=>rfl,fun id r h=>by cases h⟩
theorem Good.ay {o:Nat->ad}{nx i:Nat}{x:ad}(h:Good o nx)(hi:i<nx)(hx:x.refs.all (fun r=>decide (r<nx))=true):Good (ay o i x) nx:=by
 refine⟨fun id aw=> ?_,fun id r hr=> ?_⟩
 ·rw[ae _ _ _ _ (by omega)];exact h.fresh id aw
 ·by_cases e:id=i
  ·subst e
   rw[aa]at hr
   simpa using List.all_eq_true.1 hx r hr
  ·rw[ae _ _ _ _ e]at hr
   exact h.refs id r hr
theorem Good.mono {o:Nat->ad}{nx m:Nat}(h:Good o nx)(hm:nx<=m):Good o m:=⟨fun id aw=>h.fresh id af,fun id r hr=>Nat.lt_of_lt_of_le (h.refs id r hr) hm⟩
theorem Good.lt {o:Nat->ad}{nx id:Nat}(h:Good o nx)(hn:o id≠ .no):id<nx:=by
 rcases Nat.lt_or_ge id nx with hl|hl
 ·exact hl
 ·exact absurd (h.fresh id hl) hn
def CtO(P:Program)(g:FuncId)(args:List V)(o:Nat->ad)(v:V):Prop:=
 ∀nx,Good o nx->∀K X,(∀o' nx',nx<=nx'->Good o' nx'->(∀id,id<nx->o' id=o id)->K v o' nx')->bP P g args o nx K X
theorem V.ya:∀ (l:List V) (i:Nat),∀r∈(aX l i).refs,r∈V.aL l
 |[],i,r,h=>by rw[q9]at h;cases h
 |v::l,0,r,h=>by rw[oE]at h;simp only[V.aL,List.mem_append];exact .inl h
 |v::l,i+1,r,h=>by rw[oF]at h;simp only[V.aL,List.mem_append];exact .inr (V.ya l i r h)
theorem bL.back {b:Nat}{s:S}{env:Nat->V}{o:Nat->ad}{nx:Nat}(hb:b<=nx)(hn:nx<=s.nx)(hg:Good o nx)(ho:∀id,id<nx->s.o id=o id)
 (he:∀i,env i= .ab\/(env i=s.env i/\∀r∈(env i).refs,r<nx)):bL b s ⟨env,o,nx⟩:=by
 intro M φ w tm hH hd
 have cX:∀k,cI φ (hp o nx) k->cI φ s.H k:=by
  rintro k ⟨id,h1,h2⟩
  have aw:id<nx:=hg.lt (fun e=>by simp only[hp]at h1;rw[e]at h1;cases h1)
  exact⟨id,by simp only[S.H];rw[ho id aw];exact h1,h2⟩
 have hB:∀k, ¬ao M φ s.H k-> ¬ao M φ (hp o nx) k:=fun k h h'=>h (h'.imp id (cX k))
 have fS:∀ (v:V) (val:Value),(∀r∈v.refs,r<nx)->V.den (ao M φ s.H) φ s.H w v val->V.den (ao M φ (hp o nx)) φ (hp o nx) w v val:=fun v val hr h=>
  V.nE (H:=s.H) (H':=hp o nx) hB v val (fun id aw=>⟨(ho id (hr id aw)).symm,rfl,hr id aw⟩) h
 have lE:∀ (v:List V) (val:List Value),(∀r∈V.aL v,r<nx)->V.aF (ao M φ s.H) φ s.H w v val->V.aF (ao M φ (hp o nx)) φ (hp o nx) w v val:=fun v val hr h=>
  V.gD (H:=s.H) (H':=hp o nx) hB v val (fun id aw=>⟨(ho id (hr id aw)).symm,rfl,hr id aw⟩) h
 refine⟨φ,⟨fun id=> ?_,fun id hu=>hg.fresh id (by simpa[S.H]using hu),fun i j k h1 h2 h3 h4=> ?_,fun k hk=>hH.ours k (cX k hk),hH.BD⟩,fun i=> ?_,cX,hb,fun id aw hr=> ?_,fun id e' aw ql=> ?_⟩
 ·have ba:=hH.ok id
  have hrefs:=hg.refs id
  unfold aS at ba|-
  by_cases aw:id<nx
  ·have e:s.H.o id=o id:=ho id aw
   rw[e]at ba
   simp only[S.H]at ba|-
   cases hx:o id with
   |no=>trivial
   |row cs=>
    simp only[hx]at ba hrefs|-
    exact SQ
   |arr ep ty sz es=>
    simp only[hx]at ba|-
    obtain⟨k1,xs,k2,evs,k3,k4,k5⟩:=ba
    exact Sg
   |uI ep es=>
    simp only[hx]at ba|-
    exact D.aU (fun b _ hn=>⟨rfl,hB b hn⟩) _ _ ba
   |map kt vt es=>
    simp only[hx]at ba|-
    obtain⟨b,es',clock,k1,k2,k4,k3⟩:=ba
    exact Sd
   |cc l=>
    simp only[hx]at ba|-
    exact kY.mono (fun b _ hn=>⟨rfl,hB b hn⟩) ba
   |rW l last=>
    simp only[hx]at ba|-
    obtain⟨b,k1,k2⟩:=ba
    exact SK
   |z7 s pos=>
    simp only[hx]at ba|-
    exact ba
   |loop nf n env ps a b st pd=>
    simp only[hx]at ba hrefs|-
    exact S9
  ·simp only[S.H]
   rw[hg.fresh id (by omega)]
   trivial
 ·have hi:i<nx:=hg.lt (fun e=>by simp only[S.H]at h1;rw[e]at h1;cases h1)
  have hj:j<nx:=hg.lt (fun e=>by simp only[S.H]at h2;rw[e]at h2;cases h2)
  exact hH.apart i j k (by simp only[S.H];rw[ho i hi];exact h1) (by simp only[S.H];rw[ho j hj];exact h2) h3 h4
 ·rcases he i with h|⟨h1,h2⟩
  ·simp only[h];trivial
  ·have:=hd i
   rw[<- h1]at this
   exact fS _ _ h2 this
 ·have cq:id<nx:=af
  exact⟨by rw[ho id cq];exact hr,rfl⟩
 ·have cq:id<nx:=af
  exact⟨e',by rw[ho id cq];exact ql,Nat.le_refl _,fun _=>rfl⟩
def lP(nx:Nat)(env:Nat->V):List V->Nat->Prop
 |[],_=>True
 |v::l,i=>(v= .ab\/(v=env i/\∀r∈v.refs,r<nx))/\lP nx env l (i+1)
theorem bL.bS {b:Nat}{e:Nat->V}{so:Nat->ad}{m:Nat}(l:List V){o:Nat->ad}{nx:Nat}(hb:b<=nx)(hn:nx<=m)(hg:Good o nx)(ho:∀id,id<nx->so id=o id)(he:lP nx e l 0):bL b ⟨e,so,m⟩ ⟨aX l,o,nx⟩:=by
 refine bL.back hb hn hg ho ?_
 have key:∀ (l:List V) (i:Nat),lP nx e l i->∀j,aX l j= .ab\/(aX l j=e (i+j)/\∀r∈(aX l j).refs,r<nx):=by
  intro l
  induction l with
  |nil=>intro i _ j;rw[q9];exact .inl rfl
  |cons v l ih=>
   intro i h j
   cases j with
   |zero=>rw[oE];exact h.1
   |succ j=>
    rw[oF]
    have:=ih (i+1) h.2 j
    rwa [show i+1+j=i+(j+1) by omega]at this
 intro i
 have:=key l 0 he i
 rwa [Nat.zero_add]at this
theorem x9{nx:Nat}{env:Nat->V}{i:Nat}:lP nx env [] i:=trivial
theorem gh{nx:Nat}{env:Nat->V}{l:List V}{i:Nat}(h:lP nx env l (i+1)):lP nx env (.ab::l) i:=⟨.inl rfl,h⟩
theorem ow{nx:Nat}{env:Nat->V}{l:List V}{i:Nat}{x:D}(he:env i= .d x)(h:lP nx env l (i+1)):lP nx env (.d x::l) i:=⟨.inr ⟨he.symm,fun r hr=>by simp[V.refs]at hr⟩,h⟩
theorem Gn{nx:Nat}{env:Nat->V}{l:List V}{i:Nat}{v:V}(he:env i=v)(hr:∀r∈v.refs,r<nx)(h:lP nx env l (i+1)):lP nx env (v::l) i:=⟨.inr ⟨he.symm,hr⟩,h⟩
theorem bL.d0 {e:Nat->V}{so:Nat->ad}{m:Nat}(l:List V)(he:lP 0 e l 0):bL 0 ⟨e,so,m⟩ ⟨aX l,fun _=> .no,0⟩:=bL.bS l (Nat.le_refl 0) (Nat.zero_le _) Good.nil (fun _ h=>absurd h (Nat.not_lt_zero _)) he
theorem o8{k:Nat}(h:(k:Int)+1<=9223372036854775807):IntKind.i64.wrap ((k:Int)+1)=((k+1:Nat):Int):=by rw[wrap64 (by omega) h];rfl
theorem mO{k:IntKind}{a b:Int}(h:a=b):V.d (D.int k a)=V.d (D.int k b):=by rw[h]
theorem BI.WW {P:Program}{g:FuncId}{args:List V}{rd:List Nat}{o:Nat->ad}{x:D}(nx:Nat)(uq:rd.all (fun id=>decide (id<nx))=true)(dE:∀id∈V.aL args,id∈rd)(rZ:∀id∈rd,∀j∈(o id).refs,j∈rd)
 (h:CtO P g args (Fc rd o) (.d x)):BI P g args rd o (.ret [x]) []:=by
 have cq:∀id∈rd,id<nx:=fun id aw=>by simpa using List.all_eq_true.1 uq id aw
 have GV:∀id,id∈rd->Fc rd o id=o id:=fun id aw=>by simp[Fc,aw]
 have C9:∀id,id∉rd->Fc rd o id= .no:=fun id aw=>by simp[Fc,aw]
 have acF:Good (Fc rd o) nx:=by
  refine⟨fun id aw=>C9 id (fun hm=>by have:=cq id hm;omega),fun id r hr=> ?_⟩
  by_cases aw:id∈rd
  ·rw[GV id aw]at hr;exact cq r (rZ id aw r hr)
  ·rw[C9 id aw]at hr;cases hr
 refine BI.la (nx:=nx) cq dE rZ (fun x hx=>by cases hx) (fun x hx=>by cases hx) (h nx acF _ _ fun o' nx' _ _ h3=>⟨fun id aw=> ?_,[.d x],[x],rfl,rfl,rfl,fun id aw=>by simp[V.bc,V.ids]at aw⟩)
 rw[h3 id (cq id aw),GV id aw];rfl
theorem Da{P:Program}{g:FuncId}{K:KD}{X:XD}{o:Nat->ad}{nx fr:Nat}{all:List V}{rd:List Nat}{rs:List D}{Δ:List (Nat×ad)}(mV:rd.all (fun id=>decide (id<nx))=true)(h:BI P g all rd o (.ret rs) Δ)(hk:K (jf rs) Δ rd):sO P g K X o nx fr all:=by
 unfold sO
 exact⟨rd,Δ,mV, .inl ⟨rs,h,hk⟩⟩
abbrev D.i (n:Int):D:= .int .i64 n
structure dX where
 name:List UInt8
 args:Int
structure az where
 cons:List dX
 bZ:List dX
inductive Tm where
 |mk (op n:Int) (kids:List Tm)
 deriving Inhabited
structure TB where
 var:Int
 term:Tm
def Tm.op:Tm->Int| .mk op _ _=>op
def Tm.n:Tm->Int| .mk _ n _=>n
def Tm.kids:Tm->List Tm| .mk _ _ l=>l
theorem Tm.eta (t:Tm):Tm.mk t.op t.n t.kids=t:=by cases t;rfl
theorem Tm.ind {P:Tm->Prop}(h:∀op n kids,(∀k∈kids,P k)->P (.mk op n kids)):∀t,P t:=
 fun t=>Tm.rec (motive_1:=P) (motive_2:=fun l=>∀k∈l,P k) (fun op n kids ih=>h op n kids ih) (fun _ h=>by cases h)
  (fun x l hx hl k hk=>(List.mem_cons.1 hk).elim (fun e=>e ▸ hx) (hl k)) t
mutual
def Tm.d:Tm->D
 | .mk op n kids=> .agg [.i op, .i n, .sl (Tm.ds kids)]
def Tm.ds:List Tm->List D
 |[]=>[]
 |t::l=>t.d::Tm.ds l
end
theorem Tm.Fs:∀l:List Tm,Tm.ds l=l.map Tm.d
 |[]=>rfl
 |t::l=>by simp[Tm.ds,Tm.Fs l]
theorem Tm.acG (t:Tm):t.d= .agg [.i t.op, .i t.n, .sl (t.kids.map Tm.d)]:=by cases t;simp[Tm.d,Tm.Fs,Tm.op,Tm.n,Tm.kids]
@[go_sem] theorem Tm.aga (t:Tm):D.agg [.i t.op, .i t.n, .sl (t.kids.map Tm.d)]=t.d:=(Tm.acG t).symm
@[go_sem] theorem Tm.afp (t:Tm):D.cells t.d=[.i t.op, .i t.n, .sl (t.kids.map Tm.d)]:=by rw[Tm.acG];rfl
theorem Tm.ek {P:Tm->Prop}(h:∀t:Tm,(∀k∈t.kids,P k)->P t):∀t,P t:=Tm.ind fun op n kids ih=>h (.mk op n kids) ih
theorem Tm.Db (op n:Int)(l:List Tm):(Tm.mk op n l).d= .agg [.i op, .i n, .sl (l.map Tm.d)]:=by simp[Tm.d,Tm.Fs]
@[reducible] def dX.d (x:dX):D:= .agg [.str x.name, .i x.args]
@[reducible] def az.d (s:az):D:= .agg [.sl (s.cons.map dX.d), .sl (s.bZ.map dX.d)]
@[reducible] def TB.d (b:TB):D:= .agg [.i b.var, .i b.term.op, .i b.term.n, .sl (b.term.kids.map Tm.d)]
mutual
def Tm.fits:Tm->Prop
 | .mk _ _ kids=>kids.length<=9223372036854775807/\Tm.Dc kids
def Tm.Dc:List Tm->Prop
 |[]=>True
 |t::l=>t.fits/\Tm.Dc l
end
theorem Tm.ze:∀l:List Tm,Tm.Dc l↔∀k∈l,k.fits
 |[]=>by simp[Tm.Dc]
 |t::l=>by simp[Tm.Dc,Tm.ze l]
theorem Tm.cj (t:Tm):t.fits↔t.kids.length<=9223372036854775807/\∀k∈t.kids,k.fits:=by cases t;simp[Tm.fits,Tm.ze,Tm.kids]
mutual
def Tm.mA:Tm->Nat
 | .mk _ _ kids=>1+Tm.iZ kids
def Tm.iZ:List Tm->Nat
 |[]=>0
 |k::l=>Nat.max k.mA (Tm.iZ l)
end
theorem Tm.Dd:∀ {l:List Tm} {k:Tm},k∈l->k.mA<=Tm.iZ l
 |x::l,k,h=>by
  simp only[Tm.iZ]
  rcases List.mem_cons.1 h with rfl|h
  ·exact Nat.le_max_left _ _
  ·exact Nat.le_trans (Tm.Dd h) (Nat.le_max_right _ _)
theorem Tm.ra {t k:Tm}(h:k∈t.kids):k.mA+1<=t.mA:=by
 cases t;simp only[Tm.kids]at h;simp only[Tm.mA];have:=Tm.Dd h;omega
mutual
def pre:Tm->Int->List (Tm×Int)
 | .mk op n kids,d=>(.mk op n kids,d)::Qv kids (d+1)
def Qv:List Tm->Int->List (Tm×Int)
 |[],_=>[]
 |k::l,d=>pre k d++Qv l d
end
theorem JM(l:List Tm)(d:Int):Qv l d=l.flatMap fun k=>pre k d:=by
 induction l with
 |nil=>rfl
 |cons k l ih=>simp[Qv,ih]
theorem nJ(t:Tm)(d:Int):pre t d=(t,d)::t.kids.flatMap fun k=>pre k (d+1):=by cases t;simp[pre,JM,Tm.kids]
def dU(n low high:Int):Bool:=decide (low<=n)&&decide (n<=high)
def letterF(b:UInt8):Bool:= !((decide ((b.toNat:Int)<97)||decide (122<(b.toNat:Int)))&&(decide ((b.toNat:Int)<65)||decide (90<(b.toNat:Int))))
def j8(s:List UInt8):Bool:=s.all letterF&&dU s.length 1 8
def cG:List dX->List (List UInt8)->Option (List (List UInt8))
 |[],before=>some before
 |x::l,before=>if before.any (· ==x.name)then none else if(!j8 x.name|| !dU x.args 0 4)=true then none else cG l (before++[x.name])
def fB:List UInt8:=[70,97,108,115,101]
def tB:List UInt8:=[84,114,117,101]
def mX(x:dX)(s:List UInt8):Bool:=x.name==s&&x.args==0
def ji(s:az):Bool:=
 if(!dU s.cons.length 2 12||decide (8<(s.bZ.length:Int)))=true then false else
 match s.cons with
 |a::b::_=>if(!mX a fB|| !mX b tB)=true then false else
  match cG s.cons []with
  |none=>false
  |some l=>(cG s.bZ l).isSome
 |_=>false
mutual
def eQ:Tm->Int->Int->Int
 | .mk _ _ kids,left,depth=>if left<1\/depth<1 then -1 else cH kids (left - 1) (depth - 1)
def cH:List Tm->Int->Int->Int
 |[],left,_=>left
 |k::l,left,depth=>if 0<=left then cH l (eQ k left depth) depth else left
end
def iM(l:List dX)(n:Int):Int:=match l[n.toNat]? with|some x=>x.args|none=>0
def bw(s:az)(t:Tm):Bool:=
 let k:Int:=t.kids.length
 if t.op=1 then k==0&&dU t.n 0 19
 else if t.op=2 then k==0&&dU t.n (-1000000) 1000000
 else if t.op=3 then dU t.n 0 (s.cons.length - 1)&&k==iM s.cons t.n
 else if t.op=4 then dU t.n 0 (s.bZ.length - 1)&&k==iM s.bZ t.n
 else if t.op=5 then dU t.n 0 (s.bZ.length - 1)&&decide (k<iM s.bZ t.n)
 else if t.op=8 then k==2&&dU t.n 0 19
 else if(dU t.op 6 15)=true then k==2&&t.n==0
 else false
mutual
def iN(s:az):Tm->Bool
 | .mk op n kids=>bw s (.mk op n kids)&&uQ s kids
def uQ(s:az):List Tm->Bool
 |[]=>true
 |k::l=>iN s k&&uQ s l
end
def gI(s:az)(t:Tm):Bool:=decide (0<=eQ t 40 12)&&iN s t
mutual
def ff:Tm->Bool
 | .mk op _ kids=>uR kids&&((decide (1<=op)&&decide (op<=3))||op==5)
def uR:List Tm->Bool
 |[]=>true
 |k::l=>ff k&&uR l
end
mutual
def gY:Tm->Tm->Bool
 | .mk op n kids, .mk op' n' T3=>op==op'&&n==n'&&kids.length==T3.length&&iO kids T3
def iO:List Tm->List Tm->Bool
 |[],_=>true
 |k::l,k'::l'=>gY k k'&&iO l l'
 |_::_,[]=>true
end
def gu(t:Tm):Bool:=decide (0<=eQ t 50 14)
def gf(l:List dX):Bool:=l.all fun x=>decide ((x.name.length:Int)<=30)
def fD(s:az):Bool:= !(decide (16<(s.cons.length:Int))||decide (12<(s.bZ.length:Int)))&&gf s.cons&&gf s.bZ
section
def lB(id:Nat)(K X:V->(Nat->ad)->Nat->Prop)(e:fK)(s:S):Prop:=
 match e with
 | .normal=>∃nf m en p c d st pd,s.o id= .loop nf m en p c d st pd/\K (.d (.bool true)) (ay s.o id (.loop nf m en p c d .ready none)) s.nx
 | .ret=>∃nf m en p c d st pd,s.o id= .loop nf m en p c d st pd/\K (.d (.bool false)) (ay s.o id (.loop nf m en p c d .done (some .ret))) s.nx
 | .exit j=>∃nf m en p c d st pd,s.o id= .loop nf m en p c d st pd/\K (.d (.bool false)) (ay s.o id (.loop nf m en p c d .done (some (.exit j)))) s.nx
 | .bN v=>X v s.o s.nx
def WX(P:Program)(n b id:Nat)(fq:IC)(K X:V->(Nat->ad)->Nat->Prop)(e:fK)(s:S):Prop:=
 match e with
 | .normal=>∃nf m en p c d pd,s.o id= .loop nf m en p c d .ready pd/\uP P n b true fq (lB id K X) ⟨s.env,ay s.o id (.loop nf m en p c d .busy pd),s.nx⟩
 | .bN v=>X v s.o s.nx
 |_=>False
section
variable {P:Program}{M:Nat->Prop}{φ cP:Place}{H0:Hp}{w w0:World}{n:Nat}{s:S}{a:Act}{cx:Cx}
theorem De{id:Nat}{x:ad}{s:S}(cq:id<s.nx)(j:Nat)(hu:(s.H.put [(id,x)]).us j):j<s.nx:=by
 simp only[eh]at hu
 rcases hu with hu|hu
 ·exact hu
 ·subst hu;exact cq
theorem wm{B:Nat->Prop}{H:Hp}{n:Nat}:∀ (ps:List Nat) (vs:List V) (us:List Value) (env:Nat->V) (tmps:Array Value),tmps.size=n->ps.length=vs.length->V.aF B φ H w vs us->ps.all (fun t=>decide (t<n))=true->(∀i,V.den B φ H w (env i) (tmps.getD i undef))->
 ((ps.zip us).foldl (fun tmps p=>tmps.setIfInBounds p.1 p.2) tmps).size=n/\∀i,V.den B φ H w (pS env ps vs i) (((ps.zip us).foldl (fun tmps p=>tmps.setIfInBounds p.1 p.2) tmps).getD i undef)
 |[],[],us,env,tmps,eA,_,hd,_,he=>by simp only[V.aF]at hd;subst hd;exact⟨eA,he⟩
 |[],v::vs,us,env,tmps,_,h,_,_,_=>by simp at h
 |t::ps,[],us,env,tmps,_,h,_,_,_=>by simp at h
 |t::ps,v::vs,us,env,tmps,eA,hl,hd,hp,he=>by
  obtain⟨u,us,rfl,h1,h2⟩:=hd
  simp only[List.all_cons,Bool.and_eq_true,decide_eq_true_eq]at hp
  simp only[List.zip_cons_cons,List.foldl_cons,pS]
  refine wm ps vs us (ay env t v) (tmps.setIfInBounds t u) (by simp[eA]) (by simpa using hl) h2 hp.2 (fun i=> ?_)
  simp only[aN]
  by_cases hi:i=t
  ·subst hi
   have:(tmps.setIfInBounds i u).getD i undef=u:=by simp[Array.getD,eA,hp.1]
   rw[if_pos rfl,this];exact h1
  ·have:(tmps.setIfInBounds t u).getD i undef=tmps.getD i undef:=by
    exact VW
   rw[if_neg hi,this];exact he i
theorem dQ.we (bf:P.follows .mixedOrders=true){id:Nat}{args:List V}{o:Nat->ad}{nx:Nat}{K X:V->(Nat->ad)->Nat->Prop}{env:List V}{ps:List Nat}{jS fq:IC}{st:LoopState}{pd:Option ku}
 (ho:o id= .loop P.funcs.size n env ps jS fq st pd) (cq:id<nx) (Ft:ps.all (fun t=>decide (t<n))=true) (hl:args.length=ps.length)
 (h:uP P n nx true jS (WX P n nx id fq K X) ⟨pS (aX env) ps args,o,nx⟩):dQ P id args o nx K X:=by
 refine⟨by rw[ho];rfl,fun M φ w vals b hH hd eT=> ?_⟩
 have aY:=hH.ok id
 simp only[aS,hp,ho]at aY
 obtain⟨b',r,h1,h2,h0,h3,h4,h5,h6,h7,h8,h9⟩:=aY
 rw[eT]at h1;simp at h1;subst h1
 have hlen:=V.aC _ _ hd
 have eA:vals.size=r.params.size:=by
  have:r.params.toList.length=ps.length:=by rw[h5]
  simp at hlen this;omega
 let tm:Array Value:=(ps.zip vals.toList).foldl (fun tmps p=>tmps.setIfInBounds p.1 p.2) r.tmps
 have acH:(r.params.zip vals).foldl (fun tmps (p:Tmp×Value)=>tmps.setIfInBounds p.1 p.2) r.tmps=tm:=by
  rw[<- Array.foldl_toList,Array.toList_zip,h5]
 obtain⟨p1,p2⟩:=wm (B:=ao M φ (hp o nx)) (H:=hp o nx) (φ:=φ) (w:=w) ps args vals.toList (aX env) r.tmps h6 hl.symm hd Ft h9
 refine⟨r.fn,tm,r.assign,r.body, ?_,fun k=> ?_⟩
 ·simp only[Instr.yield,Sem.run_bind,kP h2,Result.andThen_ok,eA,ne_eq,not_true_eq_false,if_false,Sem.run_pure]
  rw[<- acH]
 ·
   let s0:S:=⟨pS (aX env) ps args,o,nx⟩
   let a0:Act:={tmps:=tm,defers:=[]}
   have oY:cn M φ (hp o nx) w n ⟨[],true⟩ φ s0 a0 w:=⟨hH,Trans.refl _ _ _,p1,⟨[],rfl,List.nodup_nil,fun _=>rfl,fun r hr=>by cases hr⟩,p2⟩
   have wo:∀ {aH s' a' w'},cn M φ (hp o nx) w n ⟨[],true⟩ aH s' a' w'->a'.defers=[]:=by
    intro aH s' a' w' hs
    obtain⟨ms,g1,_,g3,_⟩:=hs.defers
    rw[g3 rfl]at g1;exact g1
   have acI:∀ {aH s' a' w'} {nf m:Nat} {en:List V} {p:List Nat} {c d:IC} {st:LoopState} {pd:Option ku} (st':LoopState) (pd':Option ku),cn M φ (hp o nx) w n ⟨[],true⟩ aH s' a' w'->s'.o id= .loop nf m en p c d st pd->
    ∃r',w'.heap[b]? =some (.loop r')/\r'.state=st/\r'.pending=pd.map ku.code/\
     cn M φ (hp o nx) w n ⟨[],true⟩ aH ⟨s'.env,ay s'.o id (.loop nf m en p c d st' pd'),s'.nx⟩ a' {w' with heap:=w'.heap.setIfInBounds b (.loop {r' with state:=st',pending:=pd'.map ku.code})}:=by
    intro aH s' a' w' nf m en p c d st pd st' pd' hs qn
    have Wf:aH id= .pointer (some ⟨b,0,none⟩):=by
     have:=(hs.tr.rel.row id cq (by show(s'.o id).cA=true;rw[qn];rfl)).2
     rw[this];exact eT
    have acJ:id<s'.nx:=hs.tr.rel.us id cq
    obtain⟨r',r1,r2,r3,r4,r5⟩:=yQ (st':=st') (pd':=pd') hs.heap acJ (show s'.H.o id=_ from qn) Wf
    exact⟨r',r1,r2,r3,eU hs r4 r5 rfl (De acJ)⟩
   have ha:=iK (P:=P) (n:=n) (b:=nx) (rd:=true) bf r.assign _ _ s0 (fun _ _ h=>h) (by rw[h7];exact h)
   refine vS h0 (gW (iF (P:=P) (H0:=hp o nx) (b:=nx) (cx:=⟨[],true⟩) (ro:=some b) (fun id hu=>hu) (fun h=>by cases h) r.assign _ s0 φ a0 w ha oY) ?_)
   rintro e a1 w1 ⟨x,s1,jd,hq,r9,hm⟩
   cases e<;>cases x<;>first|(exact hm.elim)|skip
   ·
     obtain⟨nf,m,en,p,c,d,pd1,q1,q2⟩:=hq
     obtain⟨r',r1,r2,r3,G6⟩:=acI .busy pd1 r9 q1
     have WY:(Instr.beginRound b).run P w1= .ok () {w1 with heap:=w1.heap.setIfInBounds b (.loop {r' with state:= .busy,pending:=pd1.map ku.code})}:=by
      have e1:({r' with state:= .busy}:Loop)={r' with state:= .busy,pending:=pd1.map ku.code}:=by rw[<- r3]
      simp only[Instr.beginRound,Sem.run_bind,kP r1,Result.andThen_ok,jg _ r1,r2,Sem.run_pure,e1]
     refine⟨_,WY, ?_⟩
     have bI:=G6.heap.ok id
     simp only[aS,S.H,aN,if_true]at bI
     obtain⟨b2,r2',_,_,_,_,_,_,_,_,_,_⟩:=bI
     have hb:=iK (P:=P) (n:=n) (b:=nx) (rd:=true) bf r.body _ _ _ (fun _ _ h=>h) (by rw[h8];exact q2)
     refine gW (iF (P:=P) (H0:=hp o nx) (b:=nx) (cx:=⟨[],true⟩) (ro:=some b) (fun id hu=>hu) (fun h=>by cases h) r.body _ _ jd a1 _ hb G6) ?_
     rintro e a2 w2 ⟨x,s2,Jt,Zk,G7,OZ⟩
     have fin:∀ {nf m:Nat} {en:List V} {p:List Nat} {c d:IC} {st:LoopState} {pd:Option ku} (jump:Option ku) (t:Bool) (st':LoopState),t=jump.isNone->st'=(if jump.isNone then .ready else .done)->s2.o id= .loop nf m en p c d st pd->K (.d (.bool t)) (ay s2.o id (.loop nf m en p c d st' jump)) s2.nx->
      ∃v w',(Instr.endRound b (jump.map ku.code)).run P w2= .ok v w'/\nu M φ (hp o nx) w K X (.returned v) w':=by
      intro nf m en p c d st pd jump t st' ht ky Qw hK
      obtain⟨r3',g1,g2,g3,Zl⟩:=acI st' jump G7 Qw
      refine⟨.bool t,_, ?_,Jt,_,_,_,Zl.heap,Zl.tr,by simp only[V.den,D.den],hK⟩
      subst ht;subst ky
      simp only[Instr.endRound,Sem.run_bind,kP g1,Result.andThen_ok,jg _ g1,Sem.run_pure,Option.isNone_map]
     cases e<;>cases x<;>first|(exact OZ.elim)|skip
     ·obtain⟨nf,m,en,p,c,d,st,pd,k1,k2⟩:=Zk
      exact fin none true .ready rfl rfl k1 k2
     ·rename_i j
      subst OZ
      obtain⟨nf,m,en,p,c,d,st,pd,k1,k2⟩:=Zk
      exact fin (some (.exit _)) false .done rfl rfl k1 k2
     ·obtain⟨nf,m,en,p,c,d,st,pd,k1,k2⟩:=Zk
      exact fin (some .ret) false .done rfl rfl k1 k2
     ·obtain⟨val,rfl,k2⟩:=OZ
      exact⟨wo G7,Jt,_,_,_,G7.heap,G7.tr,val,rfl,k2,Zk⟩
   ·exact hq.elim
   ·exact hq.elim
   ·obtain⟨val,rfl,k2⟩:=hm
    exact⟨wo r9,jd,_,_,_,r9.heap,r9.tr,val,rfl,k2,hq⟩
end
end
end Go.Proofs.YtlhemmpklhhgoaaGreat
