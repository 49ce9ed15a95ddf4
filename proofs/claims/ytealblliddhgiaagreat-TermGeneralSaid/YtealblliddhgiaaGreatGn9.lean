/-
  A PART OF THE PROOF. Conditions: none.
-/
import Derived.Test.YtealblliddhgiaaGreatGn8
set_option linter.unusedSimpArgs false
set_option linter.unusedVariables false
namespace Go.Proofs.YtealblliddhgiaaGreat
abbrev Fix(α:Type){β:Type}(_:β):Type:=α
def kp(K:V->List (Nat×ae)->Prop)(x:Fix (Option gz) K):Prop:=match x with|some (v,Δ,_)=>K v Δ|none=>False
@[go_sem] theorem NF {v:V} {Δ:List (Nat×ae)} {rd:List Nat} {K}:kp K (some (v,Δ,rd))=K v Δ:=propext Iff.rfl
@[go_sem] theorem NG {K}:kp K none=False:=propext Iff.rfl
def V.xW (c:Bool)(v:V):V:=if c=true then v else .bS []
@[go_sem] theorem RB (b:Bool):(!!b)=b:=by simp
attribute [go_sem] true_or or_true false_or ne_eq not_false_eq_true decide_true decide_false Bool.not_true Bool.not_false Bool.and_true Bool.true_and Bool.and_false Bool.false_and Bool.or_true Bool.true_or Bool.or_false Bool.false_or beq_self_eq_true Bool.true_eq_false Bool.false_eq_true not_true_eq_false and_true true_and and_false false_and eq_self
@[go_sem] theorem V.RC (v:V):V.xW true v=v:=rfl
@[go_sem] theorem V.P0 (v:V):V.xW false v= .bS []:=rfl
def mq(c:Bool)(p:Prop):Prop:=c=true->p
@[congr] theorem LZ {c c':Bool} {p p':Prop} (h:c=c') (h2:c'=true->p=p'):mq c p=mq c' p':=by
  subst h;cases c
  ·simp[mq]
  ·simp[mq,h2 rfl]
@[go_sem] theorem NH (p:Prop):mq true p=p:=by simp[mq]
@[go_sem] theorem L0 (p:Prop):mq false p=True:=by simp[mq]
@[go_sem] theorem NI (a:Bool):mq a True=True:=by simp[mq]
def mu(v:V)(want:Bool):Option Bool:=
 match v with
 | .d (.bool b)=>some (b==want)
 | .bS []=>some false
 |_=>none
@[go_sem] theorem NJ (b:Bool):mu (.d (.bool b)) true=some b:=by simp[mu]
@[go_sem] theorem L1 (b:Bool):mu (.d (.bool b)) false=some (!b):=by simp[mu]
@[go_sem] theorem RD (want:Bool):mu (.bS []) want=some false:=rfl
@[go_sem] theorem P1 (c b want:Bool):mu (V.xW c (.d (.bool b))) want=some (c&&(b==want)):=by cases c<;>simp[mu,V.xW]
@[go_sem] theorem NK (c b e want:Bool):mu (V.xW c (V.xW e (.d (.bool b)))) want=some (c&&e&&(b==want)):=by cases c<;>cases e<;>simp[mu,V.xW]
def kL(c:Bool)(x:Option gz):Option gz:=
 if c=true then(match x with|some (v,[],_)=>some (v,[],[])|_=>none)else some (.bS [],[],[])
@[congr] theorem JJ {c c':Bool} {x x':Option gz} (h:c=c') (h2:c'=true->x=x'):kL c x=kL c' x':=by
  subst h;cases c
  ·rfl
  ·simp[kL,h2 rfl]
def P2(v:V)(rd:List Nat):Option gz:=some (v,[],rd)
@[go_sem] theorem WR (v:V) (rd:List Nat):(some (v,[],rd):Option gz)=P2 v rd:=by unfold P2;exact Eq.trans rfl rfl
@[go_sem] theorem NL (c:Bool) (v:V) (rd:List Nat):kL c (P2 v rd)=P2 (V.xW c v) []:=by cases c<;>rfl
@[go_sem] theorem P3 {v:V} {rd:List Nat} {K}:kp K (P2 v rd)=K v []:=propext Iff.rfl
@[go_sem] theorem L2 (c:Bool) (v:V) (rd:List Nat):kL c (some (v,[],rd))=some (V.xW c v,[],[]):=by cases c<;>rfl
@[go_sem] theorem JK (x:Option gz):kL false x=some (.bS [],[],[]):=rfl
@[go_sem] theorem RE (b x:Bool):pP (.d (.bool b)) (V.xW b (.d (.bool x))) (.d (.bool false))=some (.d (.bool (b&&x))):=by cases b<;>rfl
@[go_sem] theorem Vz (b x:Bool):pP (.d (.bool b)) (.d (.bool true)) (V.xW (!b) (.d (.bool x)))=some (.d (.bool (b||x))):=by cases b<;>rfl
@[go_sem] theorem RF (b x:Bool):pP (.d (.bool (!b))) (.d (.bool true)) (V.xW b (.d (.bool x)))=some (.d (.bool (!b||x))):=by cases b<;>rfl
@[go_sem] theorem P4 (x y:V):pP (.d (.bool true)) x y=some x:=rfl
@[go_sem] theorem NM (x y:V):pP (.d (.bool false)) x y=some y:=rfl
@[reducible] def kM:Op->Bool
  | .move _| .assign _| .pick .. | .load .. | .binOp .. | .unOp .. | .nilCheck _| .convert .. | .makeInterface .. | .makeFunc .. | .fieldAddr .. | .indexAddr .. | .extract .. | .build .. | .index .. | .field .. | .lookup .. =>true
  | .call c=>match c.callee with
    | .builtin .len=>true
    | .builtin .min=>true
    | .builtin .max=>true
    |_=>false
  |_=>false
def Ag(P:Program)(f:V)(args:List V)(o:Nat->ae)(rs:List D):Prop:=
 match f with
 | .func (.func g) first cap=>match cc o (first++args++cap)with
   |some ds=>bJ P g ds (.ret rs)/\D.jE rs=true
   |none=>False
 |_=>False
def DE(P:Program)(f:V)(args:List V)(o:Nat->ae)(K:V->Prop)(c:Fix Bool (f,args,o,K)):Prop:=
 ∃rs,mq c (Ag P f args o rs)/\K (V.xW c (gS rs))
def Ah(P:Program)(g:FuncId)(nx:Nat)(K X:V->(Nat->ae)->Nat->Prop)(args:Fix (List V) (K,X))(o:Fix (Nat->ae) (K,X)):Prop:=rE P g args o nx K X
def rM(P:Program)(g:FuncId)(o:Nat->ae)(nx:Nat)(K X:V->(Nat->ae)->Nat->Prop)(ds:Fix (List D) (o,nx,K,X))(all:Fix (List V) (o,nx,K,X)):Prop:=
 tH P g ds o (put o (cQ o (V.bf all))) (put o (qs o (V.bf all))) (fun v o'=>K v o' (nx+1)) (fun v o'=>X v o' (nx+1))\/rE P g all o nx K X
def mZ(P:Program)(g:FuncId)(K X:V->(Nat->ae)->Nat->Prop)(s:S)(all:List V)(ds:Fix (Option (List D)) (K,X,s,all)):Prop:=
 match ds with
 |some ds=>rM P g s.o s.nx K X ds all
 |none=>Ah P g s.nx K X all s.o
@[go_sem] theorem L3 {P:Program} {s:S} {ds:List D} {g:FuncId} {all:List V} {K X}:
 mZ P g K X s all (some ds)=rM P g s.o s.nx K X ds all:=propext Iff.rfl
def wE(P:Program)(id:Nat)(K X:V->(Nat->ae)->Nat->Prop)(s:S)(args:Fix (List V) (K,X,s)):Prop:=dJ P id args s.o s.nx K X
@[go_sem] theorem L4 {P:Program} {s:S} {g:FuncId} {all:List V} {K X}:mZ P g K X s all none=Ah P g s.nx K X all s.o:=propext Iff.rfl
def rN(P:Program)(K X:V->(Nat->ae)->Nat->Prop)(s:S)(f:Fix V (K,X,s))(args:Fix (List V) (K,X,s)):Prop:=
 match f with
 | .func (.func g) first cap=>mZ P g K X s (first++args++cap) (cc s.o (first++args++cap))
 | .kV id=>wE P id K X s args
 |_=>False
@[go_sem] theorem P5 {P:Program} {s:S} {id:Nat} {args:List V} {K X}:rN P K X s (.kV id) args=wE P id K X s args:=propext Iff.rfl
@[go_sem] theorem NN {P:Program} {s:S} {g:FuncId} {first cap args:List V} {K X}:rN P K X s (.func (.func g) first cap) args=mZ P g K X s (first++args++cap) (cc s.o (first++args++cap)):=propext Iff.rfl
def DF(P:Program)(g:FuncId)(o:Nat->ae)(nx:Nat)(K X:V->(Nat->ae)->Nat->Prop)(ds:Fix (List D) (o,nx,K,X))(all:Fix (List V) (o,nx,K,X)):Prop:=
 tH P g ds o (put o (cQ o (V.bf all))) (put o (qs o (V.bf all))) (fun v o'=>K v o' (nx+1)) (fun v o'=>X v o' (nx+1))
def Ai(P:Program)(g:FuncId)(K X:V->(Nat->ae)->Nat->Prop)(s:S)(all:List V)(ds:Fix (Option (List D)) (K,X,s,all)):Prop:=
 match ds with
 |some ds=>DF P g s.o s.nx K X ds all
 |none=>False
@[go_sem] theorem NO {P:Program} {s:S} {ds:List D} {g:FuncId} {all:List V} {K X}:Ai P g K X s all (some ds)=DF P g s.o s.nx K X ds all:=propext Iff.rfl
def Hd(P:Program)(K X:V->(Nat->ae)->Nat->Prop)(s:S)(args:Fix (List V) (K,X,s))(r:Fix (Option (FuncId×V)) (K,X,s)):Prop:=
 match r with
 |some (g,y)=>Ai P g K X s (y::args) (cc s.o (y::args))
 |none=>False
@[go_sem] theorem P6 {P:Program} {s:S} {g:FuncId} {y:V} {args:List V} {K X}:Hd P K X s args (some (g,y))=Ai P g K X s (y::args) (cc s.o (y::args)):=propext Iff.rfl
def Fo(K:V->Prop)(v:Fix V K):Prop:=
 match v with
 | .d (.iface t y)=>K (.d (.iface t y))
 | .iface t y=>K (.iface t y)
 |_=>False
@[go_sem] theorem WS {t:TypeId} {y:D} {K}:Fo K (.d (.iface t y))=K (.d (.iface t y)):=propext Iff.rfl
@[go_sem] theorem WT {t:TypeId} {y:V} {K}:Fo K (.iface t y)=K (.iface t y):=propext Iff.rfl
def Aj(K:V->List (Nat×ae)->Prop)(id:Nat)(l:Fix (List (D×D)) (K,id)):Prop:=Df id l fun v Δ _=>K v Δ
def He(K:V->List (Nat×ae)->Prop)(str:Bool)(P7:Fix (Option gz) (K,str))(left:Fix (Option (Nat×List (D×D))) (K,str)):Prop:=
 match left with
 |some (id,l)=>str=false/\Aj K id l
 |none=>kp K P7
@[go_sem] theorem P8 {K} {P7:Option gz} {id:Nat} {l:List (D×D)}:He K false P7 (some (id,l))=Aj K id l:=propext ⟨fun h=>h.2,fun h=>⟨rfl,h⟩⟩
@[go_sem] theorem P9 {K} {str:Bool} {P7:Option gz}:He K str P7 none=kp K P7:=propext Iff.rfl
def Ak(P:Program)(X:V->S->Prop)(K:S->Prop)(o:cg)(s:Fix S (X,K,o)):Prop:=
 match o.op with
 | .next x str=>He (fun v Δ=>K ⟨a8 s.env o.dst v,put s.o Δ,s.nx+1⟩) str (nY s.o (s.ev x) str) (nZ s.o (s.ev x))
 | .call c=>match c.callee with
   | .value f=>rN P (fun v o' nx'=>K ⟨a8 s.env o.dst v,o',nx'⟩) (fun v o' nx'=>X v ⟨s.env,o',nx'⟩) s (s.ev f) (c.args.toList.map s.ev)
   | .invoke r m=>Hd P (fun v o' nx'=>K ⟨a8 s.env o.dst v,o',nx'⟩) (fun v o' nx'=>X v ⟨s.env,o',nx'⟩) s (c.args.toList.map s.ev) (rC P m (s.ev r))
   |_=>kp (fun v Δ=>K ⟨a8 s.env o.dst v,put s.o Δ,s.nx+1⟩) (gr P s s.nx o.op)
 | .panic x=>Fo (fun v=>X v s) (s.ev x)
 |op=>kp (fun v Δ=>K ⟨a8 s.env o.dst v,put s.o Δ,s.nx+1⟩) (gr P s s.nx op)
@[reducible] def fL:Op->Option (Operand×List Operand)
  | .call c=>match c.callee with
    | .value f=>some (f,c.args.toList)
    |_=>none
  |_=>none
def iJ(A B:Prop)(t:Fix Bool (A,B)):Prop:=pV t A B
@[go_sem] theorem NP (A B:Prop):iJ A B true=A:=tI A B
@[go_sem] theorem L5 (A B:Prop):iJ A B false=B:=rF A B
def Cy(P:Program)(X:V->S->Prop)(K:S->Prop)(o:cg)(s:S)(f:Operand)(args:List Operand)(c:Fix Bool (X,K,o,s,f,args)):Prop:=
 DE P (s.ev f) (args.map s.ev) s.o (fun v=>K ⟨a8 s.env o.dst v,s.o,s.nx+1⟩) c\/iJ (Ak P X K o s) (K ⟨a8 s.env o.dst (.bS []),s.o,s.nx+1⟩) c
def xX(P:Program)(X:V->S->Prop)(K:S->Prop)(o:cg)(s:S)(c:Fix (Option Bool) (X,K,o,s)):Prop:=
 match c with
 |none=>False
 |some c=>match fL o.op with
  |some (f,args)=>Cy P X K o s f args c
  |none=>if kM o.op=true then kp (fun v _=>K ⟨a8 s.env o.dst v,s.o,s.nx+1⟩) (kL c (gr P s s.nx o.op))
   else iJ (Ak P X K o s) (K ⟨a8 s.env o.dst (.bS []),s.o,s.nx+1⟩) c
def su(P:Program)(X:V->S->Prop)(K:S->Prop)(l:List cg)(s:Fix S (X,K,l)):Prop:=
 match l with
 |[]=>K s
 |o::l=>match o.gd with
  |none=>Ak P X (su P X K l) o s
  |some (d,want)=>xX P X (su P X K l) o s (mu (s.env d) want)
def jJ(want:Bool)(A B:Prop)(v:Fix V (A,B)):Prop:=
 match v with
 | .d (.bool b)=>pV (b==want) A B
 | .bS []=>B
 |_=>False
@[go_sem] theorem L6 (b:Bool) (A B:Prop):jJ true A B (.d (.bool b))=iJ A B b:=by simp[jJ,iJ]
@[go_sem] theorem JL (b:Bool) (A B:Prop):jJ false A B (.d (.bool b))=iJ A B (!b):=by simp[jJ,iJ]
@[go_sem] theorem Qa (want:Bool) (A B:Prop):jJ want A B (.bS [])=B:=propext Iff.rfl
@[go_sem] theorem NQ (c b want:Bool) (A B:Prop):jJ want A B (V.xW c (.d (.bool b)))=iJ A B (c&&(b==want)):=by cases c<;>simp[jJ,V.xW,iJ]
abbrev KD:=V->List (Nat×ae)->List Nat->Prop
abbrev XD:=V->List Nat->List Nat->Prop
def Hf(P:Program)(g:FuncId)(K:KD)(X:XD)(o:Nat->ae)(rd:List Nat)(ds:Fix (List D) (K,X,o,rd))(all:Fix (List V) (K,X,o,rd)):Prop:=
 rK P g ds (fun v=>K v (cQ o (V.bf all)) rd) (fun v=>K v [] rd) (fun v=>X v [] rd)
def l8(P:Program)(g:FuncId)(K:KD)(X:XD)(o:Nat->ae)(nx fr:Nat)(all:Fix (List V) (K,X,o,nx)):Prop:=iY P g all o nx fr K X
def oN(P:Program)(g:FuncId)(K:KD)(X:XD)(o:Nat->ae)(nx fr:Nat)(rd:List Nat)(ds:Fix (List D) (K,X,o,nx,rd))(all:Fix (List V) (K,X,o,nx,rd)):Prop:=Hf P g K X o rd ds all\/l8 P g K X o nx fr all
def qK(P:Program)(K:KD)(X:XD)(o:Nat->ae)(nx fr:Nat)(rd:List Nat)(g:FuncId)(all:List V)(ds:Fix (Option (List D)) (K,X,o,nx,rd,all)):Prop:=
 match ds with
 |some ds=>oN P g K X o nx fr rd ds all
 |none=>l8 P g K X o nx fr all
@[go_sem] theorem L7 {P:Program} {o:Nat->ae} {nx fr:Nat} {rd:List Nat} {ds:List D} {g:FuncId} {all:List V} {K X}:qK P K X o nx fr rd g all (some ds)=oN P g K X o nx fr rd ds all:=propext Iff.rfl
@[go_sem] theorem L8 {P:Program} {o:Nat->ae} {nx fr:Nat} {rd:List Nat} {g:FuncId} {all:List V} {K X}:qK P K X o nx fr rd g all none=l8 P g K X o nx fr all:=propext Iff.rfl
def Am(P:Program)(K:KD)(X:XD)(o:Nat->ae)(nx fr:Nat)(rd:Fix (List Nat) (K,X,o,nx))(f:Fix V (K,X,o,nx))(args:Fix (List V) (K,X,o,nx)):Prop:=
 match f with
 | .func (.func g) first cap=>qK P K X o nx fr rd g (first++args++cap) (cc o (first++args++cap))
 |_=>False
@[go_sem] theorem NR {P:Program} {o:Nat->ae} {nx fr:Nat} {rd:List Nat} {g:FuncId} {first cap args:List V} {K X}:Am P K X o nx fr rd (.func (.func g) first cap) args=qK P K X o nx fr rd g (first++args++cap) (cc o (first++args++cap)):=propext Iff.rfl
def tR(K:KD)(rd:List Nat)(x:Fix (Option gz) (K,rd)):Prop:=match x with|some (v,Δ,_)=>K v Δ rd|none=>False
@[go_sem] theorem NS {v:V} {Δ:List (Nat×ae)} {r rd:List Nat} {K}:tR K rd (some (v,Δ,r))=K v Δ rd:=propext Iff.rfl
@[go_sem] theorem Qb {v:V} {r rd:List Nat} {K}:tR K rd (P2 v r)=K v [] rd:=propext Iff.rfl
def Jh(P:Program)(K:KD)(X:XD)(fr:Nat)(o:cg)(s:Fix S (K,X,o)):Prop:=
 match fL o.op with
 |some (f,args)=>Am P K X s.o s.nx fr (jr s o.op) (s.ev f) (args.map s.ev)
 |none=>tR K (jr s o.op) (gr P s fr o.op)
def An(P:Program)(KB:List Nat->Fp->Prop)(pr:List (List Nat))(l:List cg)(fr:Nat)(fp:Fix Fp (KB,l))(bad ws:Fix (List Nat) (KB,l))(s:Fix S (KB,l)):Prop:=ij P KB pr l fr s fp bad ws
def pW(P:Program)(K:S->Fp->Prop)(KP:V->List Nat->Fp->Prop)(pr:List (List Nat))(l:List cg)(fr:Nat)(s:Fix S (K,KP,l))(fp:Fix Fp (K,KP,l)):Prop:=
 match l with
 |[]=>K s fp
 |o::l=>match o.gd with
  |none=>Jh P (fun v Δ rd=>pW P K KP pr l (fr+1) ⟨a8 s.env o.dst v,put s.o Δ,s.nx⟩ (fp++[(rd,Δ.map (·.1))]))
   (fun v ws rd=>An P (KP v) pr l (fr+1) (fp++[(rd,[])]) [fp.length] (ws++fp.flatMap (·.2)) ⟨a8 s.env o.dst .ab,s.o,s.nx⟩) fr o s
  |some (d,want)=>jJ want (Jh P (fun v Δ rd=>pW P K KP pr l (fr+1) ⟨a8 s.env o.dst v,put s.o Δ,s.nx⟩ (fp++[(rd,Δ.map (·.1))]))
   (fun v ws rd=>An P (KP v) pr l (fr+1) (fp++[(rd,[])]) [fp.length] (ws++fp.flatMap (·.2)) ⟨a8 s.env o.dst .ab,s.o,s.nx⟩) fr o s)
   (pW P K KP pr l (fr+1) ⟨a8 s.env o.dst (.bS []),s.o,s.nx⟩ (fp++[([],[])])) (s.env d)
def JM(pr:List (List Nat))(nx:Nat)(Q:fy->S->Prop)(s:Fix S Q)(fp:Fix Fp Q):Prop:=Cv pr nx Q s fp
def wF(A B:Prop)(v:Fix V (A,B)):Prop:=
 match v with
 | .d (.bool t)=>iJ A B t
 | .eZ=>A/\B
 |_=>False
@[go_sem] theorem Qc (A B:Prop):wF A B .eZ=(A/\B):=propext Iff.rfl
@[go_sem] theorem NT (t:Bool) (A B:Prop):wF A B (.d (.bool t))=iJ A B t:=propext Iff.rfl
def Ao{ι:Type}(b:Nat)(st:ι->S)(cW:ι->Prop)(oO:ι->Nat)(i:ι)(s:S):Prop:=∃j,cW j/\oO j<oO i/\bW b s (st j)
def tS(next:S->Prop)(Q:fy->S->Prop)(e:fy)(s:S):Prop:=match e with| .normal=>next s|e=>Q e s
section
variable {N:S->Prop}{Q:fy->S->Prop}{s:S}
@[go_sem ↓] theorem JN:tS N Q .normal s=N s:=propext Iff.rfl
@[go_sem ↓] theorem NU {id:Nat}:tS N Q (.exit id) s=Q (.exit id) s:=propext Iff.rfl
@[go_sem ↓] theorem Qd:tS N Q .ret s=Q .ret s:=propext Iff.rfl
@[go_sem ↓] theorem Fq {v:V}:tS N Q (.bG v) s=Q (.bG v) s:=propext Iff.rfl
end
def od(b:Nat)(body:(fy->S->Prop)->S->Prop)(Q:fy->S->Prop)(s:Fix S (body,Q)):Prop:=
 ∃ (ι:Type) (st:ι->S) (cW:ι->Prop) (oO:ι->Nat) (i0:ι),cW i0/\bW b s (st i0)/\∀i,cW i->body (tS (Ao b st cW oO i) Q) (st i)
theorem aW{ι:Type}{b:Nat}{body:(fy->S->Prop)->S->Prop}{Q:fy->S->Prop}{s:S}(st:ι->S)(cW:ι->Prop)(oO:ι->Nat)(i0:ι)(h0:cW i0)(hle:bW b s (st i0))
 (h:∀i,cW i->body (tS (Ao b st cW oO i) Q) (st i)):od b body Q s:=⟨ι,st,cW,oO,i0,h0,hle,h⟩
def Cz(P:Program)(n:Nat)(rd:Bool)(ps:List Nat)(x y:IC)(Q:fy->S->Prop)(s:Fix S (x,y,Q))(g:Fix V (x,y,Q)):Prop:=rd=false/\zM P n g ps x y Q s
def kq(P:Program)(n b:Nat)(rd:Bool)(c:IC)(Q:fy->S->Prop)(s:Fix S (c,Q)):Prop:=
 match c with
 | .skip=>Q .normal s
 | .af l=>su P (fun v s=>Q (.bG v) s) (Q .normal) l s
 | .cP l pr=>pW P (JM pr (s.nx+l.length) Q) (Ad pr l s Q) pr l s.nx s []
 | .seq x y=>kq P n b rd x (pI (fun s=>kq P n b rd y Q s) Q) s
 | .cond c x y=>wF (kq P n b rd x Q s) (kq P n b rd y Q s) (s.ev c)
 | .block id x=>kq P n b rd x (ft id Q) s
 | .loop x=>od b (fun Q s=>kq P n b rd x Q s) Q s
 | .exit id=>Q (.exit id) s
 | .ret=>Q .ret s
 | .ED g ps x y=>Cz P n rd ps x y Q s (s.ev g)
 | .bad=>False
section
variable {P:Program}{n b:Nat}{rd:Bool}
theorem Ap{s:S}{f:V}{args:List V}{K K':V->(Nat->ae)->Nat->Prop}{X X':V->(Nat->ae)->Nat->Prop}(hK:∀v o n,K v o n->K' v o n)(hX:∀v o n,X v o n->X' v o n)(h:rN P K X s f args):
 match(generalizing:=false) f with
  | .func (.func g) first cap=>match cc s.o (first++args++cap)with
    |some ds=>tH P g ds s.o (put s.o (cQ s.o (V.bf (first++args++cap)))) (put s.o (qs s.o (V.bf (first++args++cap)))) (fun v o'=>K' v o' (s.nx+1)) (fun v o'=>X' v o' (s.nx+1))\/rE P g (first++args++cap) s.o s.nx K' X'
    |none=>rE P g (first++args++cap) s.o s.nx K' X'
  | .kV id=>dJ P id args s.o s.nx K' X'
  |_=>False:=by
 unfold rN mZ wE at h
 split at h
 ·rename_i g first cap
  cases eP:cc s.o (first++args++cap)with
  |some ds=>
   simp only[eP]at h|-
   rcases h with⟨out,h1,h2|⟨h3,h2⟩|⟨h3,h2⟩⟩|h
   ·exact .inl ⟨out,h1, .inl (by cases out<;>first|exact hK _ _ _ h2|exact hX _ _ _ h2)⟩
   ·exact .inl ⟨out,h1, .inr (.inl ⟨h3,by cases out<;>first|exact hK _ _ _ h2|exact hX _ _ _ h2⟩)⟩
   ·exact .inl ⟨out,h1, .inr (.inr ⟨h3,by cases out<;>first|exact hK _ _ _ h2|exact hX _ _ _ h2⟩)⟩
   ·exact .inr (mQ.mono hK hX h)
  |none=>
   simp only[eP]at h|-
   exact mQ.mono hK hX h
 ·exact dJ.mono hK hX h
 ·exact h.elim
theorem wG{x:Option gz}{K:V->List (Nat×ae)->Prop}(h:kp K x):∃v Δ rd,x=some (v,Δ,rd)/\K v Δ:=by
 unfold kp at h;split at h
 ·exact⟨_,_,_,rfl,h⟩
 ·exact h.elim
theorem xY{s:S}{o:cg}{X X':V->S->Prop}{K K':S->Prop}(hK:∀s,K s->K' s)(hX:∀v s,X v s->X' v s)(h:Ak P X K o s):Gc P s o X' K':=by
 unfold Ak at h
 unfold Gc
 have hs:∀ {op:Op},(kp (fun v Δ=>K ⟨a8 s.env o.dst v,put s.o Δ,s.nx+1⟩) (gr P s s.nx op))->(match gr P s s.nx op with|some (v,Δ,_)=>K' ⟨a8 s.env o.dst v,put s.o Δ,s.nx+1⟩|none=>False):=by
  intro op h
  obtain⟨v,Δ,rd,he,h⟩:=wG h
  simp only[he];exact hK _ h
 split at h
 ·rename_i x str hx
  rw[hx]
  unfold He at h
  simp only
  split at h
  ·rename_i id l hl
   simp only[hl]
   exact⟨h.1,fun e=>hK _ (h.2.1 e),fun i k x e=>hK _ (h.2.2 i k x e)⟩
  ·rename_i hl
   simp only[hl]
   exact hs (op:= .next x str) h
 ·rename_i c hc
  simp only[hc]
  split at h
  ·rename_i f hf
   simp only[hf]
   exact Ap (K:=fun v o' nx'=>K ⟨a8 s.env o.dst v,o',nx'⟩) (X:=fun v o' nx'=>X v ⟨s.env,o',nx'⟩) (fun v o n h=>hK _ h) (fun v o n h=>hX _ _ h) h
  ·rename_i r m hf
   simp only[hf]
   unfold Hd at h
   split at h
   ·rename_i g y hr
    simp only[hr]
    unfold Ai at h
    split at h
    ·rename_i ds eP
     obtain⟨out,h1,h2⟩:=h
     refine .inl ⟨ds,eP,out,h1, ?_⟩
     rcases h2 with h2|⟨h3,h2⟩|⟨h3,h2⟩
     ·exact .inl (by cases out<;>first|exact hK _ h2|exact hX _ _ h2)
     ·exact .inr (.inl ⟨h3,by cases out<;>first|exact hK _ h2|exact hX _ _ h2⟩)
     ·exact .inr (.inr ⟨h3,by cases out<;>first|exact hK _ h2|exact hX _ _ h2⟩)
    ·exact h.elim
   ·exact h.elim
  ·rename_i hf hi
   rw[hc]at h
   obtain⟨GM,args,ts⟩:=c
   cases GM with
   |value f=>exact absurd rfl (hf f)
   |invoke r m=>exact absurd rfl (hi r m)
   |_=>exact hs h
 ·rename_i x hx
  simp only[hx]
  unfold Fo at h
  split at h
  ·rename_i hv;simp only[hv];exact hX _ _ h
  ·rename_i hv;simp only[hv];exact hX _ _ h
  ·exact h.elim
 ·rename_i qE hc hp
  have h2:=hs h
  cases hh:o.op<;>first
   |exact absurd hh (hc _)
   |exact absurd hh (hp _)
   |exact absurd hh (qE _ _)
   |(rw[hh]at h2;exact h2)
theorem Hg{s:S}{o:cg}{X:V->S->Prop}{K:S->Prop}(hp:kM o.op=true){v:V}{Δ:List (Nat×ae)}{rd:List Nat}(he:gr P s s.nx o.op=some (v,Δ,rd))(h:K ⟨a8 s.env o.dst v,put s.o Δ,s.nx+1⟩):Gc P s o X K:=by
 unfold Gc
 split
 ·rename_i c hc
  split
  ·rename_i f hf;rw[hc]at hp;simp[kM,hf]at hp
  ·rename_i r m hf;rw[hc]at hp;simp[kM,hf]at hp
  ·rw[he];exact h
 ·rename_i x hx;rw[hx]at hp;simp[kM]at hp
 ·rename_i x str hx;rw[hx]at hp;simp[kM]at hp
 ·rw[he];exact h
theorem wH{X X':V->S->Prop}{K K':S->Prop}(hK:∀s,K s->K' s)(hX:∀v s,X v s->X' v s):∀ (l:List cg) (s:S),su P X K l s->oK P X' K' l s
 |[],s,h=>hK _ h
 |o::l,s,h=>by
  have ih:=wH hK hX l
  unfold su at h
  unfold oK
  cases hg:o.gd with
  |none=>
   simp only[hg]at h|-
   exact xY ih hX h
  |some p=>
   obtain⟨d,want⟩:=p
   simp only[hg]at h|-
   unfold xX at h
   split at h
   ·exact h.elim
   ·rename_i c hc
    have NV:∀ {A B:Prop},(c=true->A)->(c=false->B)->(match s.env d with
     | .d (.bool b)=>if b=want then A else B
     | .bS []=>B
     |_=>False):=by
     intro A B hA hB
     generalize s.env d=v at hc
     unfold mu at hc
     split at hc
     ·rename_i b
      injection hc with hc
      split
      ·rename_i e;exact hA (by rw[<- hc];simp[e])
      ·rename_i e;exact hB (by rw[<- hc];simp[e])
     ·injection hc with hc
      exact hB hc.symm
     ·cases hc
    split at h
    ·rename_i f args CA
     rcases h with h|h
     case inr=>exact NV (fun L9=>xY ih hX (h.1 L9)) (fun NW=>ih _ (h.2 NW))
     obtain⟨rs,h1,h2⟩:=h
     refine NV (fun L9=> ?_) (fun NW=> ?_)
     ·unfold fL at CA
      split at CA
      ·rename_i c' zJ
       split at CA
       ·rename_i f' vQ
        injection CA with CA;injection CA with e1 e2;subst e1;subst e2
        have nI:=h1 L9
        unfold Gc
        simp only[zJ,vQ]
        unfold Ag at nI
        split at nI
        ·rename_i g first cap tw
         simp only[tw]
         split at nI
         ·rename_i ds eP
          simp only[eP]
          refine .inl ⟨.ret rs,nI.1, .inr (.inl ⟨nI.2, ?_⟩)⟩
          refine ih _ ?_
          rw[L9]at h2
          exact h2
         ·exact nI.elim
        ·exact nI.elim
       ·cases CA
      ·cases CA
     ·refine ih _ ?_
      rw[NW]at h2
      exact h2
    ·split at h
     ·rename_i hp
      obtain⟨v,Δ,rd,he,h⟩:=wG h
      refine NV (fun L9=> ?_) (fun NW=> ?_)
      ·rw[L9]at he
       simp only[kL,if_true]at he
       split at he
       ·rename_i v' wm fw
        injection he with he;injection he with e1 e2;subst e1
        exact Hg hp fw (ih _ h)
       ·cases he
      ·rw[NW]at he
       simp only[kL]at he
       injection he with he;injection he with e1 e2;subst e1
       exact ih _ h
     ·exact NV (fun L9=>xY ih hX (h.1 L9)) (fun NW=>ih _ (h.2 NW))
theorem xZ{op:Op}{f:Operand}{args:List Operand}(h:fL op=some (f,args)):∃c,op= .call c/\c.callee= .value f/\c.args.toList=args:=by
 unfold fL at h
 split at h
 ·rename_i c
  split at h
  ·rename_i f' vQ
   injection h with h;injection h with e1 e2;subst e1;subst e2
   exact⟨c,rfl,vQ,rfl⟩
  ·cases h
 ·cases h
theorem Fs{x:Option gz}{rd:List Nat}{K:KD}(h:tR K rd x):∃v Δ r,x=some (v,Δ,r)/\K v Δ rd:=by
 unfold tR at h;split at h
 ·exact⟨_,_,_,rfl,h⟩
 ·exact h.elim
theorem iY.mono {P:Program}{g:FuncId}{args:List V}{o:Nat->ae}{nx fr:Nat}{K K':KD}{X X':XD}(hK:∀v Δ r,K v Δ r->K' v Δ r)(hX:∀v w r,X v w r->X' v w r)(h:iY P g args o nx fr K X):iY P g args o nx fr K' X':=by
 obtain⟨rd,Δ,h1,⟨rs,h2,h3⟩|⟨x,h2,h3⟩|⟨v,h2,h3⟩⟩:=h
 ·exact⟨rd,Δ,h1, .inl ⟨rs,h2,hK _ _ _ h3⟩⟩
 ·exact⟨rd,Δ,h1, .inr (.inl ⟨x,h2,hX _ _ _ h3⟩)⟩
 ·exact⟨rd,Δ,h1, .inr (.inr ⟨v,h2,hK _ _ _ h3⟩)⟩
theorem rK.mono {P:Program}{g:FuncId}{ds:List D}{Kf Kb KX ZO ZP ZQ:V->Prop}(h1:∀v,Kf v->ZO v)(h2:∀v,Kb v->ZP v)(h3:∀v,KX v->ZQ v)(h:rK P g ds Kf Kb KX):rK P g ds ZO ZP ZQ:=by
 rcases h with⟨rs,a,b|⟨b,c⟩⟩|⟨x,a,b,c⟩|⟨v,a,b⟩
 ·exact .inl ⟨rs,a, .inl (h1 _ b)⟩
 ·exact .inl ⟨rs,a, .inr ⟨b,h2 _ c⟩⟩
 ·exact .inr (.inl ⟨x,a,b,h3 _ c⟩)
 ·exact .inr (.inr ⟨v,a,h1 _ b⟩)
theorem DG{s:S}{fr:Nat}{o:cg}{K K':KD}{X X':XD}(hK:∀v Δ r,K v Δ r->K' v Δ r)(hX:∀v w r,X v w r->X' v w r)(h:Jh P K X fr o s):yX P s fr o K' X':=by
 unfold Jh at h
 split at h
 ·rename_i f args CA
  obtain⟨c,h1,h2,h3⟩:=xZ CA
  subst h3
  unfold yX
  simp only[h1,h2]
  unfold Am qK at h
  split at h
  ·rename_i g first cap hf
   simp only[hf]
   split at h
   ·rename_i ds eP
    simp only[eP]
    refine h.elim (fun h=> .inl ?_) (fun h=> .inr (iY.mono hK hX h))
    refine rK.mono (fun v h=> ?_) (fun v h=> ?_) (fun v h=> ?_) h<;>(rw[h1]at h)
    ·exact hK _ _ _ h
    ·exact hK _ _ _ h
    ·exact hX _ _ _ h
   ·rename_i eP
    simp only[eP]
    exact iY.mono hK hX h
  ·exact h.elim
 ·rename_i CA
  obtain⟨v,Δ,rd,he,h⟩:=Fs h
  unfold yX
  split
  ·rename_i c hc
   split
   ·rename_i f hf
    exact absurd CA (by simp[fL,hc,hf])
   ·simp only[he];exact hK _ _ _ h
  ·simp only[he];exact hK _ _ _ h
theorem Aq{s:S}{fr:Nat}{o:cg}{K K':KD}{X X':XD}(hK:∀v Δ r,K v Δ r->K' v Δ r)(hX:∀v w r,X v w r->X' v w r)(h:yX P s fr o K X):yX P s fr o K' X':=by
 unfold yX at h|-
 split at h
 ·rename_i c hc
  rw[hc]at h|-
  split at h
  ·rename_i f hf
   (try simp only[hf])
   split at h
   ·rename_i tw
    (try simp only[tw])
    split at h
    ·exact h.elim (fun h=> .inl (rK.mono (fun v h=>hK _ _ _ h) (fun v h=>hK _ _ _ h) (fun v h=>hX _ _ _ h) h)) (fun h=> .inr (iY.mono hK hX h))
    ·exact iY.mono hK hX h
   ·exact h.elim
  ·rename_i hf
   split at h
   ·rename_i he
    (try simp only[he])
    exact hK _ _ _ h
   ·exact h.elim
 ·split at h
  ·rename_i he
   (try simp only[he]);exact hK _ _ _ h
  ·exact h.elim
theorem js{KB ZR:List Nat->Fp->Prop}{pr:List (List Nat)}(hK:∀l fp,KB l fp->ZR l fp):∀ (l:List cg) (fr:Nat) (s:S) (fp:Fp) (bad ws:List Nat),ij P KB pr l fr s fp bad ws->ij P ZR pr l fr s fp bad ws
 |[],_,_,_,_,_,h=>hK _ _ h
 |o::l,fr,s,fp,bad,ws,h=>by
  unfold ij at h|-
  split
  ·rename_i hb
   rw[if_pos hb]at h
   exact js hK l _ _ _ _ _ h
  ·rename_i hb
   rw[if_neg hb]at h
   split at h
   ·exact Aq (fun v Δ r h=>js hK l _ _ _ _ _ h) (fun _ _ _ h=>h) h
   ·split at h
    ·split at h
     ·rename_i e;simp only[e,if_true]
      exact Aq (fun v Δ r h=>js hK l _ _ _ _ _ h) (fun _ _ _ h=>h) h
     ·rename_i e;simp only[e,if_false]
      exact js hK l _ _ _ _ _ h
    ·exact js hK l _ _ _ _ _ h
    ·exact h.elim
theorem lr{K K':S->Fp->Prop}{KP WU:V->List Nat->Fp->Prop}{pr:List (List Nat)}(hK:∀s fp,K s fp->K' s fp)(hP:∀v l fp,KP v l fp->WU v l fp):∀ (l:List cg) (fr:Nat) (s:S) (fp:Fp),pW P K KP pr l fr s fp->kK P K' WU pr l fr s fp
 |[],_,_,_,h=>hK _ _ h
 |o::l,fr,s,fp,h=>by
  have hB:∀v ws (WV:List Nat),An P (KP v) pr l (fr+1) (fp++[(WV,[])]) [fp.length] (ws++fp.flatMap (·.2)) ⟨a8 s.env o.dst .ab,s.o,s.nx⟩->
   ij P (WU v) pr l (fr+1) ⟨a8 s.env o.dst .ab,s.o,s.nx⟩ (fp++[(WV,[])]) [fp.length] (ws++fp.flatMap (·.2)):=fun v ws WV h=>js (fun a b h=>hP v a b h) l _ _ _ _ _ h
  unfold pW at h
  unfold kK
  split at h
  ·rename_i hg
   (try simp only[hg])
   exact DG (fun v Δ r h=>lr hK hP l _ _ _ h) hB h
  ·rename_i d want hg
   (try simp only[hg])
   generalize s.env d=v at h
   unfold jJ at h
   split at h
   ·rename_i bb
    by_cases e:bb=want
    ·subst e
     simp only[if_true]
     exact DG (fun v Δ r h=>lr hK hP l _ _ _ h) hB (h.1 (by simp))
    ·simp only[if_neg e]
     exact lr hK hP l _ _ _ (h.2 (by simpa using e))
   ·exact lr hK hP l _ _ _ h
   ·exact h.elim
theorem dZ:∀ (c:IC) (Q Q':fy->S->Prop) (s:S),(∀e s,Q e s->Q' e s)->kq P n b rd c Q s->sG P n b rd c Q' s
 | .skip,_,_,_,hQ,h=>hQ _ _ h
 | .af l,_,_,_,hQ,h=>wH (fun s h=>hQ _ _ h) (fun v s h=>hQ _ _ h) l _ h
 | .cP l pr,_,_,_,hQ,h=> .inl (lr (fun s fp h=>⟨h.1,hQ _ _ h.2⟩) (fun v l fp h=>⟨h.1,hQ _ _ h.2⟩) l _ _ _ h)
 | .seq x y,Q,Q',s,hQ,h=>dZ x _ _ s (fun e s h=>by
  unfold pI at h|-
  cases e with
  |normal=>exact dZ y _ _ s hQ h
  |_=>exact hQ _ _ h) h
 | .cond c x y,Q,Q',s,hQ,h=>by
   unfold kq wF iJ at h
   unfold sG
   split at h
   ·rename_i t ht
    simp only[ht]
    exact⟨fun e=>dZ x _ _ s hQ (h.1 e),fun e=>dZ y _ _ s hQ (h.2 e)⟩
   ·rename_i ht
    simp only[ht]
    exact⟨dZ x _ _ s hQ h.1,dZ y _ _ s hQ h.2⟩
   ·exact h.elim
 | .block id x,Q,Q',s,hQ,h=>dZ x _ _ s (fun e s h=>by
  unfold ft at h|-
  cases e with
  |exit j=>
   simp only at h|-
   split
   ·rename_i e;rw[if_pos e]at h;exact hQ _ _ h
   ·rename_i e;rw[if_neg e]at h;exact hQ _ _ h
  |_=>exact hQ _ _ h) h
 | .loop x,Q,Q',s,hQ,h=>by
   obtain⟨ι,st,cW,oO,i0,h0,hle,h2⟩:=h
   refine⟨fun m s=>∃i,cW i/\oO i=m/\s=st i,⟨oO i0,st i0,hle,i0,h0,rfl,rfl⟩, ?_⟩
   rintro m s0 ⟨i,hg,rfl,rfl⟩
   refine dZ x _ _ _ (fun e s h=> ?_) (h2 i hg)
   cases e with
   |normal=>
    obtain⟨j,k1,k2,k3⟩:=h
    exact⟨oO j,st j,k2,k3,j,k1,rfl,rfl⟩
   |_=>exact hQ _ _ h
 | .exit id,_,_,_,hQ,h=>hQ _ _ h
 | .ret,_,_,_,hQ,h=>hQ _ _ h
 | .ED g ps x y,_,_,_,hQ,h=>⟨h.1,wD hQ h.2⟩
 | .bad,_,_,_,_,h=>h.elim
end
theorem bJ.aZ {P:Program}(bc:P.follows .mixedOrders=true){f:FuncId}{n:Nat}{ic:IC}{rs:List ResultVar}{ds:List D}{out:R}(hf:aN P f n ic rs)(hl:ds.length<=n)
 (h:kq P n 0 false ic (B9 P rs out) ⟨cq (ds.map .d),fun _=> .no,0⟩):bJ P f ds out:=
 bJ.tQ bc hf hl (dZ ic _ _ _ (fun _ _ h=>h) h)
def qL(P:Program)(rs:List ResultVar)(K X:V->(Nat->ae)->Nat->Prop)(e:fy)(s:S):Prop:=l5 P rs K X e s
theorem dX.aZ {P:Program}(bc:P.follows .mixedOrders=true){f:FuncId}{n:Nat}{ic:IC}{rs:List ResultVar}{args:List V}{o:Nat->ae}{nx:Nat}{K X:V->(Nat->ae)->Nat->Prop}(hf:aN P f n ic rs)(hl:args.length<=n)
 (h:kq P n nx false ic (qL P rs K X) ⟨cq args,o,nx⟩):dX P f args o nx K X:=
 dX.tQ bc hf hl (dZ ic _ _ _ (fun _ _ h=>h) h)
section
variable {P:Program}{g:FuncId}{ds:List D}{o:Nat->ae}{nx:Nat}{K X:V->(Nat->ae)->Nat->Prop}{all:List V}
theorem aw{rs:List D}(h:bJ P g ds (.ret rs))(hf:D.jE rs=true)(hk:K (gS rs) o (nx+1)):rM P g o nx K X ds all:= .inl ⟨.ret rs,h, .inr (.inl ⟨hf,hk⟩)⟩
theorem CB{rs:List D}(h:bJ P g ds (.ret rs))(hk:K (gS rs) (put o (cQ o (V.bf all))) (nx+1)):DF P g o nx K X ds all:=⟨.ret rs,h, .inl hk⟩
theorem aU{rs:List D}(h:bJ P g ds (.ret rs))(hk:K (gS rs) (put o (cQ o (V.bf all))) (nx+1)):rM P g o nx K X ds all:= .inl ⟨.ret rs,h, .inl hk⟩
theorem Ar{x:D}(h:bJ P g ds (.bG x))(hf:x.flat=true)(hk:X (.d x) o (nx+1)):rM P g o nx K X ds all:= .inl ⟨.bG x,h, .inr (.inl ⟨hf,hk⟩)⟩
theorem bK(h:dX P g all o nx K X):rM P g o nx K X ds all:= .inr (.inl h)
theorem iK{e:Nat->V}{ds:Option (List D)}(h:dX P g all o nx K X):mZ P g K X ⟨e,o,nx⟩ all ds:=by
 cases ds with
 |some ds=>exact(.inr (.inl h):rM P g o nx K X ds all)
 |none=>exact(.inl h:Ah P g nx K X all o)
theorem dy(h:dX P g all o nx K X):Ah P g nx K X all o:= .inl h
variable {K:KD}{X:XD}{rd:List Nat}{fr:Nat}
theorem bZ{rs:List D}(h:bJ P g ds (.ret rs))(hf:D.jE rs=true)(hk:K (gS rs) [] rd):oN P g K X o nx fr rd ds all:= .inl (.inl ⟨rs,h, .inr ⟨hf,hk⟩⟩)
theorem cD{rs:List D}(h:bJ P g ds (.ret rs))(hk:K (gS rs) (cQ o (V.bf all)) rd):oN P g K X o nx fr rd ds all:= .inl (.inl ⟨rs,h, .inl hk⟩)
end
theorem dR{P:Program}{f:V}{args:List V}{o:Nat->ae}{K:V->Prop}{c:Bool}(rs:List D)(h:mq c (Ag P f args o rs))(hk:K (V.xW c (gS rs))):DE P f args o K c:=⟨rs,h,hk⟩
theorem ay{t:Bool}{A B:Prop}(h:t=true->A)(h2:t=false->B):iJ A B t:=⟨h,h2⟩
theorem aR{pr:List (List Nat)}{nx:Nat}{Q:fy->S->Prop}{s:S}{fp:List (List Nat×List Nat)}(h:eB pr fp=true)(h2:Q .normal ⟨s.env,s.o,nx⟩):JM pr nx Q s fp:=⟨h,h2⟩
@[go_sem] theorem tT (o:Nat->ae):put o []=o:=rfl
@[go_sem] theorem nK (o:Nat->ae) (x:Nat×ae) (l:List (Nat×ae)):put o (x::l)=put (ak o x.1 x.2) l:=rfl
@[go_sem] theorem aa {α:Type} (f:Nat->α) (i:Nat) (x:α):ak f i x i=x:=by simp
@[go_sem] theorem ad {α:Type} (f:Nat->α) (i j:Nat) (x:α) (h:j≠i):ak f i x j=f j:=by simp[h]
@[go_sem] theorem JO (v:V) (l:List V):cq (v::l) 0=v:=rfl
@[go_sem] theorem JP (v:V) (l:List V) (i:Nat):cq (v::l) (i+1)=cq l i:=rfl
@[go_sem] theorem Ma (i:Nat):cq [] i= .bS []:=by simp[cq]
@[go_sem] theorem Qe {P:Program} {o:Nat->ae} {t:TypeId} {id off:Nat}:mU P o t (.ptr id off)=match o id with
 | .row cs=>match eQ P t cs off with
   |some v=>some (v,[],[id])
   |none=>none
 |_=>none:=by unfold mU;exact Eq.trans rfl rfl
@[go_sem] theorem RG {P:Program} {o:Nat->ae} {t:TypeId} {cs:List D} {off:Nat}:mU P o t (.pp cs off)=match eQ P t (cs.map .d) off with
 |some v=>some (v,[],[])
 |none=>none:=by unfold mU;exact Eq.trans rfl rfl
@[go_sem] theorem RH {P:Program} {o:Nat->ae} {t:TypeId} {id ep i sz off:Nat}:mU P o t (.pe id ep i sz off)=match o id with
 | .arr gU _ nP es=>if ep=gU/\sz=nP then match es[i]? with
  |some e=>match eQ P t (e.cells.map .d) off with
   |some v=>some (v,[],[id])
   |none=>none
  |none=>none
   else none
 |_=>none:=by unfold mU;exact Eq.trans rfl rfl
section
variable {P:Program}{o:Nat->ae}{t:TypeId}{op:BinOp}{oB:Bool}
@[go_sem] theorem Qf {k:IntKind} {a b:Int}:dB P o op t oB (.d (.int k a)) (.d (.int k b))=match zQ op k a b with
 |some v=>one v
 |none=>qx P o op t oB (.d (.int k a)) (.d (.int k b)):=by
  simp only[dB,xG,if_true]
  cases zQ op k a b<;>rfl
@[go_sem] theorem Qg {a b:Bool} (h:aS P t=true):dB P o .eql t oB (.d (.bool a)) (.d (.bool b))=one (.d (.bool (a==b))):=by simp only[dB,xG,G0,h,if_true]
@[go_sem] theorem Qh {a b:Bool} (h:aS P t=true):dB P o .neq t oB (.d (.bool a)) (.d (.bool b))=one (.d (.bool (a !=b))):=by simp only[dB,xG,G0,h,if_true]
@[go_sem] theorem Qi {a b:List UInt8}:dB P o .eql t oB (.d (.str a)) (.d (.str b))=one (.d (.bool (a==b))):=by unfold dB;exact Eq.trans rfl rfl
@[go_sem] theorem Qj {a b:List UInt8}:dB P o .neq t oB (.d (.str a)) (.d (.str b))=one (.d (.bool (a !=b))):=by unfold dB;exact Eq.trans rfl rfl
@[go_sem] theorem Qk {a b:List D}:dB P o op t oB (.d (.agg a)) (.d (.agg b))=qx P o op t oB (.d (.agg a)) (.d (.agg b)):=by unfold dB;exact Eq.trans rfl rfl
theorem pX{x:V}{y:V}(h:match y with| .d (.int _ _)| .d (.bool _)| .d (.str _)=>False|_=>True):xG P op t x y=none:=by
 unfold xG
 split<;>first|exact h.elim|rfl
@[go_sem] theorem NX {x:V}:dB P o op t oB x .bn=qx P o op t oB x .bn:=by unfold dB;rw[pX trivial]
@[go_sem] theorem NY {x:V}:dB P o op t oB x (.d .eC)=qx P o op t oB x (.d .eC):=by unfold dB;rw[pX trivial]
@[go_sem] theorem NZ {x:V}:dB P o op t oB x (.d .gY)=qx P o op t oB x (.d .gY):=by unfold dB;rw[pX trivial]
@[go_sem] theorem N0 {x:V}:dB P o op t oB x (.d .a7)=qx P o op t oB x (.d .a7):=by unfold dB;rw[pX trivial]
@[go_sem] theorem N1 {x:V}:dB P o op t oB x (.d .dk)=qx P o op t oB x (.d .dk):=by unfold dB;rw[pX trivial]
@[go_sem] theorem RI {b:Bool}:zR .not (.d (.bool b))=some (.d (.bool !b)):=by unfold zR;exact Eq.trans rfl rfl
@[go_sem] theorem RJ:zR .not .eZ=some .eZ:=by unfold zR;exact Eq.trans rfl rfl
@[go_sem] theorem RK {k:IntKind} {n:Int}:zR .neg (.d (.int k n))=some (.d (.int k (k.wrap (-n)))):=by unfold zR;exact Eq.trans rfl rfl
end
@[go_sem] theorem D.Ql (cs:List D):(D.agg cs).cells=cs:=rfl
@[go_sem] theorem D.Qm (k:IntKind) (n:Int):(D.int k n).cells=[.int k n]:=rfl
@[go_sem] theorem D.N2 (b:Bool):(D.bool b).cells=[.bool b]:=rfl
@[go_sem] theorem D.Qn (b:List UInt8):(D.str b).cells=[.str b]:=rfl
@[go_sem] theorem D.RL (b:List D):(D.sl b).cells=[.sl b]:=rfl
@[go_sem] theorem D.RM (a b:List D):(D.mp a b).cells=[.mp a b]:=rfl
@[go_sem] theorem D.Mb (t:TypeId) (x:D):(D.iface t x).cells=[.iface t x]:=rfl
@[go_sem] theorem D.N3:D.eC.cells=[.eC]:=rfl
@[go_sem] theorem D.N4:D.gY.cells=[.gY]:=rfl
@[go_sem] theorem D.N5:D.a7.cells=[.a7]:=rfl
@[go_sem] theorem D.N6:D.dk.cells=[.dk]:=rfl
attribute [go_sem] V.ofConst V.dp zQ G0 pQ Cg wk n9 hY hZ qG fZ l6 pR pS pT xH jo G1 lY dO cc eQ xi rp fC V.cells D.put cQ V.ids V.bf gS D.jE D.flat R.flat
attribute [go_sem] BP List.take_succ_cons List.take_zero List.take_nil List.drop_zero List.drop_succ_cons List.drop_nil
attribute [go_sem] List.map_cons List.map_nil List.length_cons List.length_nil List.cons_append List.nil_append List.append_nil List.getElem?_cons_zero List.getElem?_cons_succ Option.bind_some Option.bind_none Option.map_some Option.map_none ae.bM ae.ba
section
variable {P:Program}{n b:Nat}{rd:Bool}{Q:fy->S->Prop}{s:S}
@[go_sem] theorem RN:kq P n b rd .skip Q s=Q .normal s:=propext Iff.rfl
@[go_sem] theorem VA {l:List cg}:kq P n b rd (.af l) Q s=su P (fun v s=>Q (.bG v) s) (Q .normal) l s:=propext Iff.rfl
@[go_sem] theorem VB {l:List cg} {pr:List (List Nat)}:kq P n b rd (.cP l pr) Q s=pW P (JM pr (s.nx+l.length) Q) (Ad pr l s Q) pr l s.nx s []:=propext Iff.rfl
@[go_sem] theorem VC {x y:IC}:kq P n b rd (.seq x y) Q s=kq P n b rd x (pI (fun s=>kq P n b rd y Q s) Q) s:=propext Iff.rfl
@[go_sem] theorem RP {c:Operand} {x y:IC}:kq P n b rd (.cond c x y) Q s=wF (kq P n b rd x Q s) (kq P n b rd y Q s) (s.ev c):=propext Iff.rfl
@[go_sem] theorem Qo {id:Nat} {x:IC}:kq P n b rd (.block id x) Q s=kq P n b rd x (ft id Q) s:=propext Iff.rfl
@[go_sem] theorem RQ {x:IC}:kq P n b rd (.loop x) Q s=od b (fun Q s=>kq P n b rd x Q s) Q s:=propext Iff.rfl
@[go_sem] theorem RR {id:Nat}:kq P n b rd (.exit id) Q s=Q (.exit id) s:=propext Iff.rfl
@[go_sem] theorem VD:kq P n b rd .ret Q s=Q .ret s:=propext Iff.rfl
@[go_sem] theorem VE {g:Operand} {ps:List Nat} {x y:IC}:kq P n b rd (.ED g ps x y) Q s=Cz P n rd ps x y Q s (s.ev g):=propext Iff.rfl
@[go_sem] theorem RS {X:V->S->Prop} {K:S->Prop}:su P X K [] s=K s:=propext Iff.rfl
@[go_sem] theorem Qp {X:V->S->Prop} {K:S->Prop} {d:Option Nat} {op:Op} {l:List cg}:su P X K (⟨d,op,none⟩::l) s=Ak P X (su P X K l) ⟨d,op,none⟩ s:=propext Iff.rfl
@[go_sem] theorem Qq {X:V->S->Prop} {K:S->Prop} {d:Option Nat} {op:Op} {g:Nat} {w:Bool} {l:List cg}:su P X K (⟨d,op,some (g,w)⟩::l) s=xX P X (su P X K l) ⟨d,op,some (g,w)⟩ s (mu (s.env g) w):=propext Iff.rfl
variable {X:V->S->Prop}{K:S->Prop}{d:Option Nat}{op:Op}{g:Option (Nat×Bool)}{f:Operand}{args:Array Operand}{ts:Array TypeId}{c:Bool}
@[reducible] def Qr:Op->Bool
  | .call c=>match c.callee with
    | .value _=>true
    | .invoke .. =>true
    |_=>false
  | .panic _=>true
  | .next .. =>true
  |_=>false
@[go_sem] theorem WW (h:Qr op=false):Ak P X K ⟨d,op,g⟩ s=kp (fun v Δ=>K ⟨a8 s.env d v,put s.o Δ,s.nx+1⟩) (gr P s s.nx op):=by
  unfold Ak
  cases op with
  |call c=>
   obtain⟨GM,args,ts⟩:=c
   cases GM with
   |value f=>simp[Qr]at h
   |invoke r m=>simp[Qr]at h
   |_=>rfl
  |panic x=>simp[Qr]at h
  |next x str=>simp[Qr]at h
  |_=>rfl
@[go_sem] theorem RT {x:Operand} {str:Bool}:Ak P X K ⟨d, .next x str,g⟩ s=He (fun v Δ=>K ⟨a8 s.env d v,put s.o Δ,s.nx+1⟩) str (nY s.o (s.ev x) str) (nZ s.o (s.ev x)):=propext Iff.rfl
@[go_sem] theorem RU:Ak P X K ⟨d, .call ⟨.value f,args,ts⟩,g⟩ s=rN P (fun v o' nx'=>K ⟨a8 s.env d v,o',nx'⟩) (fun v o' nx'=>X v ⟨s.env,o',nx'⟩) s (s.ev f) (args.toList.map s.ev):=propext Iff.rfl
@[go_sem] theorem N7 {m:String}:Ak P X K ⟨d, .call ⟨.invoke f m,args,ts⟩,g⟩ s=Hd P (fun v o' nx'=>K ⟨a8 s.env d v,o',nx'⟩) (fun v o' nx'=>X v ⟨s.env,o',nx'⟩) s (args.toList.map s.ev) (rC P m (s.ev f)):=propext Iff.rfl
@[go_sem] theorem Qs:Ak P X K ⟨d, .panic f,g⟩ s=Fo (fun v=>X v s) (s.ev f):=propext Iff.rfl
@[go_sem] theorem Qt:xX P X K ⟨d, .call ⟨.value f,args,ts⟩,g⟩ s (some c)=Cy P X K ⟨d, .call ⟨.value f,args,ts⟩,g⟩ s f args.toList c:=propext Iff.rfl
theorem eU{e:Nat->V}{ob:Nat->ae}{nx:Nat}(h:DE P ((⟨e,ob,nx⟩:S).ev f) (args.toList.map (⟨e,ob,nx⟩:S).ev) ob (fun v=>K ⟨a8 e d v,ob,nx+1⟩) c):Cy P X K ⟨d,op,g⟩ ⟨e,ob,nx⟩ f args.toList c:= .inl h
theorem As{s:S}{o:cg}{l:List Operand}(h:iJ (Ak P X K o s) (K ⟨a8 s.env o.dst (.bS []),s.o,s.nx+1⟩) c):Cy P X K o s f l c:= .inr h
@[go_sem] theorem Qu (h:kM op=true):xX P X K ⟨d,op,g⟩ s (some c)=kp (fun v _=>K ⟨a8 s.env d v,s.o,s.nx+1⟩) (kL c (gr P s s.nx op)):=by
  have h2:fL op=none:=by
   cases hc:fL op with
   |none=>rfl
   |some x=>
    exfalso
    unfold fL at hc
    split at hc
    ·split at hc
     ·rename_i hv;simp[kM,hv]at h
     ·cases hc
    ·cases hc
  simp only[xX,h2,h,if_true]
@[go_sem] theorem Qv (h:kM op=false) (h2:fL op=none):xX P X K ⟨d,op,g⟩ s (some c)=iJ (Ak P X K ⟨d,op,g⟩ s) (K ⟨a8 s.env d (.bS []),s.o,s.nx+1⟩) c:=by
  simp[xX,h2,h]
@[go_sem] theorem N8 {l:List Operand}:Cy P X K ⟨d,op,g⟩ s f l false=K ⟨a8 s.env d (.bS []),s.o,s.nx+1⟩:=by
  refine propext ⟨fun h=> ?_,fun h=> .inr ⟨(fun e=>by cases e),fun _=>h⟩⟩
  rcases h with⟨rs,_,h⟩|h
  ·exact h
  ·exact h.2 rfl
@[go_sem] theorem Qw {l:List Operand} (hl:args.toList=l):Cy P X K ⟨d, .call ⟨.value f,args,ts⟩,g⟩ s f l true=Ak P X K ⟨d, .call ⟨.value f,args,ts⟩,g⟩ s:=by
  subst hl
  refine propext ⟨fun h=> ?_,fun h=> .inr ⟨fun _=>h,(fun e=>by cases e)⟩⟩
  rcases h with⟨rs,h1,h⟩|h
  ·have h1:=h1 rfl
   unfold Ag at h1
   unfold Ak rN mZ
   simp only
   split at h1
   ·rename_i fv gg first cap hf
    simp only[hf]
    split at h1
    ·rename_i ds eP
     simp only[eP]
     exact .inl ⟨.ret rs,h1.1, .inr (.inl ⟨h1.2,h⟩)⟩
    ·exact h1.elim
   ·exact h1.elim
  ·exact h.1 rfl
variable {KV:KD}{XV:XD}
@[go_sem] theorem RV {fr:Nat}:Jh P KV XV fr ⟨d, .call ⟨.value f,args,ts⟩,g⟩ s=Am P KV XV s.o s.nx fr (jr s (.call ⟨.value f,args,ts⟩)) (s.ev f) (args.toList.map s.ev):=propext Iff.rfl
@[go_sem] theorem WX {fr:Nat} (h2:fL op=none):Jh P KV XV fr ⟨d,op,g⟩ s=tR KV (jr s op) (gr P s fr op):=by simp[Jh,h2]
variable {KS:S->Prop}
@[go_sem ↓] theorem JQ:pI KS Q .normal s=KS s:=propext Iff.rfl
@[go_sem ↓] theorem N9 {id:Nat}:pI KS Q (.exit id) s=Q (.exit id) s:=propext Iff.rfl
@[go_sem ↓] theorem Qx:pI KS Q .ret s=Q .ret s:=propext Iff.rfl
@[go_sem ↓] theorem Ft {v:V}:pI KS Q (.bG v) s=Q (.bG v) s:=propext Iff.rfl
@[go_sem ↓] theorem Ji {id:Nat}:ft id Q .normal s=Q .normal s:=propext Iff.rfl
@[go_sem ↓] theorem Mc {id:Nat}:ft id Q (.exit id) s=Q .normal s:=by simp[ft]
@[go_sem ↓] theorem JR {id j:Nat} (h:j≠id):ft id Q (.exit j) s=Q (.exit j) s:=by simp[ft,h]
@[go_sem ↓] theorem Oa {id:Nat}:ft id Q .ret s=Q .ret s:=propext Iff.rfl
@[go_sem ↓] theorem tU {id:Nat} {v:V}:ft id Q (.bG v) s=Q (.bG v) s:=propext Iff.rfl
def JS(out:R)(x:Option (List D)):Prop:=match x with|some ds=>out= .ret ds|none=>False
@[go_sem] theorem Qy {out:R} {ds:List D}:JS out (some ds)=(out= .ret ds):=propext Iff.rfl
def Ob(out:R)(x:Option D):Prop:=match x with|some d=>out= .bG d|none=>False
@[go_sem] theorem Qz {out:R} {d:D}:Ob out (some d)=(out= .bG d):=propext Iff.rfl
def JT(out:R)(o:Nat->ae)(x:Option (List V)):Prop:=match x with|some vs=>JS out (cc o vs)|none=>False
@[go_sem] theorem QA {out:R} {o:Nat->ae} {vs:List V}:JT out o (some vs)=JS out (cc o vs):=propext Iff.rfl
variable {rs:List ResultVar}{out:R}
@[go_sem ↓] theorem QB:B9 P rs out .ret s=JT out s.o (lY P s rs):=propext Iff.rfl
@[go_sem ↓] theorem JU:B9 P rs out .normal s=JT out s.o (lY P s rs):=propext Iff.rfl
@[go_sem ↓] theorem QC {v:V}:B9 P rs out (.bG v) s=Ob out (dO s.o v):=propext Iff.rfl
def Au(K:V->(Nat->ae)->Nat->Prop)(o:Nat->ae)(nx:Nat)(x:Fix (Option (List V)) (K,o,nx)):Prop:=match x with
 |some [v]=>K v o nx
 |some vs=>K (.bS vs) o nx
 |none=>False
@[go_sem] theorem RW {K:V->(Nat->ae)->Nat->Prop} {o:Nat->ae} {nx:Nat} {v:V}:Au K o nx (some [v])=K v o nx:=propext Iff.rfl
@[go_sem] theorem RX {K:V->(Nat->ae)->Nat->Prop} {o:Nat->ae} {nx:Nat}:Au K o nx (some [])=K (.bS []) o nx:=propext Iff.rfl
@[go_sem] theorem RY {K:V->(Nat->ae)->Nat->Prop} {o:Nat->ae} {nx:Nat} {v u:V} {l:List V}:Au K o nx (some (v::u::l))=K (.bS (v::u::l)) o nx:=propext Iff.rfl
theorem DH{K X:V->(Nat->ae)->Nat->Prop}:l5 P rs K X .ret s=Au K s.o s.nx (lY P s rs):=by
 unfold l5 Au
 cases lY P s rs with
 |none=>rfl
 |some l=>match l with
  |[]=>rfl
  |[_]=>rfl
  |_::_::_=>rfl
@[go_sem ↓] theorem RZ {K X:V->(Nat->ae)->Nat->Prop}:qL P rs K X .ret s=Au K s.o s.nx (lY P s rs):=DH
@[go_sem ↓] theorem Md {K X:V->(Nat->ae)->Nat->Prop}:qL P rs K X .normal s=Au K s.o s.nx (lY P s rs):=(DH (X:=X):l5 P rs K X .ret s=_)
@[go_sem ↓] theorem Av {K X:V->(Nat->ae)->Nat->Prop} {v:V}:qL P rs K X (.bG v) s=X v s.o s.nx:=propext Iff.rfl
variable {KE:S->Fp->Prop}{KP:V->List Nat->Fp->Prop}{pr:List (List Nat)}{fr:Nat}{fp:Fp}
@[go_sem] theorem R0:pW P KE KP pr [] fr s fp=KE s fp:=propext Iff.rfl
@[go_sem] theorem QD {d:Option Nat} {op:Op} {l:List cg}:pW P KE KP pr (⟨d,op,none⟩::l) fr s fp=
 Jh P (fun v Δ rd=>pW P KE KP pr l (fr+1) ⟨a8 s.env d v,put s.o Δ,s.nx⟩ (fp++[(rd,Δ.map (·.1))]))
  (fun v ws rd=>An P (KP v) pr l (fr+1) (fp++[(rd,[])]) [fp.length] (ws++fp.flatMap (·.2)) ⟨a8 s.env d .ab,s.o,s.nx⟩) fr ⟨d,op,none⟩ s:=propext Iff.rfl
@[go_sem] theorem QE {d:Option Nat} {op:Op} {g:Nat} {w:Bool} {l:List cg}:pW P KE KP pr (⟨d,op,some (g,w)⟩::l) fr s fp=
 jJ w (Jh P (fun v Δ rd=>pW P KE KP pr l (fr+1) ⟨a8 s.env d v,put s.o Δ,s.nx⟩ (fp++[(rd,Δ.map (·.1))]))
  (fun v ws rd=>An P (KP v) pr l (fr+1) (fp++[(rd,[])]) [fp.length] (ws++fp.flatMap (·.2)) ⟨a8 s.env d .ab,s.o,s.nx⟩) fr ⟨d,op,some (g,w)⟩ s)
   (pW P KE KP pr l (fr+1) ⟨a8 s.env d (.bS []),s.o,s.nx⟩ (fp++[([],[])])) (s.env g):=propext Iff.rfl
end
attribute [go_sem] Qr fL kM gr one l7 a8 S.ev Ag
theorem aB{ι:Type}{b:Nat}{st:ι->S}{cW:ι->Prop}{oO:ι->Nat}{i:ι}{s:S}(j:ι)(h1:cW j)(h2:oO j<oO i)(h3:bW b s (st j)):Ao b st cW oO i s:=⟨j,h1,h2,h3⟩
attribute [irreducible] kq su Ak xX Cy rN mZ Ai DF Hd DE rM Ah kp Fo iJ jJ Hf oN l8 qK Am tR Jh pW An Cz wE qL Au JM wF od JS Ob JT tS Ao
end Go.Proofs.YtealblliddhgiaaGreat
namespace Go.Proofs.YtealblliddhgiaaGreat
def ae.Me:ae->Bool
 | .ph .. =>true
 |_=>false
def JV(o:Nat->ae)(v:V):Option D:=if v.ids.all (fun id=>(o id).Me)=true then dO o v else none
section
variable (ρ:Nat->Option Nat)(o' o:Nat->ae)(nx:Nat)
mutual
def rO:V->V->Prop
 | .ab,_=>True
 | .d x,v=>JV o v=some x
 | .bn,v=>v= .bn
 | .agg cs,v=>match v with| .agg ds=>qM cs ds|_=>False
 | .bS cs,v=>match v with| .bS ds=>qM cs ds|_=>False
 | .ptr cO Aw,v=>match v with| .ptr id off=>ρ cO=some id/\Aw=off/\cO<nx|_=>False
 | .osl cO gU,v=>cO<nx/\(o' cO).ba=some gU/\match v with
   | .bn=>ρ cO=none
   | .osl id ep=>ρ cO=some id/\(o id).ba=some ep
   |_=>False
 | .pe cO gU i' nP Aw,v=>cO<nx/\(o' cO).ba=some gU/\match v with
   | .pe id ep i sz off=>ρ cO=some id/\(o id).ba=some ep/\i'=i/\nP=sz/\Aw=off
   |_=>False
 | .pp cs off,v=>v= .pp cs off
 | .func fn a b,v=>match v with| .func fn' a' b'=>fn=fn'/\qM a a'/\qM b b'|_=>False
 | .iface t x,v=>match v with| .iface t' y=>t=t'/\rO x y|_=>False
 | .ox es,v=>v= .ox es
 | .sX cO Aw n',v=>match v with| .sX id off n=>ρ cO=some id/\Aw=off/\n'=n/\cO<nx|_=>False
 | .mp cO,v=>match v with| .mp id=>ρ cO=some id/\cO<nx|_=>False
 | .eZ,v=>v= .eZ\/∃b,v= .d (.bool b)
 | .kV cO,v=>match v with| .kV id=>ρ cO=some id/\cO<nx|_=>False
def qM:List V->List V->Prop
 |[],vs=>vs=[]
 |x::xs,vs=>match vs with|v::vs=>rO x v/\qM xs vs|[]=>False
end
def m8(cO:Nat):Prop:=
 match o' cO with
 | .no=>True
 | .row cs'=>match ρ cO with
   |some id=>match o id with| .row cs=>qM ρ o' o nx cs' cs|_=>False
   |none=>False
 | .arr _ ty sz es=>match ρ cO with
   |some id=>match o id with| .arr _ WY nP es'=>ty=WY/\sz=nP/\es=es'|_=>False
   |none=>es=[]/\0<sz
 | .ph _ es=>match ρ cO with
   |some id=>match o id with| .ph _ es'=>es=es'|_=>False
   |none=>False
 | .map kt vt l=>match ρ cO with
   |some id=>match o id with| .map BH BI l'=>kt=BH/\vt=BI/\l=l'|_=>False
   |none=>False
 | .loop nf n env ps a b st pd=>match ρ cO with
   |some id=>match o id with| .loop R1 n' WZ ps' a' b' st' pd'=>nf=R1/\n=n'/\ps=ps'/\a=a'/\b=b'/\st=st'/\pd=pd'/\qM ρ o' o nx env WZ|_=>False
   |none=>False
 | .fq l=>match ρ cO with
   |some id=>match o id with| .fq l'=>l=l'|_=>False
   |none=>False
 | .kW l last=>match ρ cO with
   |some id=>match o id with| .kW l' Hh=>l=l'/\(last=none\/last=Hh)|_=>False
   |none=>False
 | .sY s pos=>match ρ cO with
   |some id=>match o id with| .sY s' pos'=>s=s'/\pos=pos'|_=>False
   |none=>False
end
section
variable {M M':Nat->Prop}{φ aC:Place}{H H':Hp}{w:World}{ρ:Nat->Option Nat}{nx:Nat}
theorem Hi(hH:az M φ H w){v:V}{x:D}{val:Value}(h:JV H.o v=some x)(hd:V.den (ao M φ H) φ H w v val):D.den (ao M φ H) w x val:=by
 unfold JV at h
 split at h
 ·rename_i ha
  refine eI hH (o:=H.o) v x val (fun id ax=> ?_) h hd
  have:=List.all_eq_true.1 ha id ax
  cases ho:H.o id<;>rw[ho]at this<;>simp[ae.Me]at this
  rfl
 ·cases h
mutual
theorem sH(hH:az M φ H w)(eN:∀b,cy w b-> ¬ao M φ H b-> ¬ao M' aC H' b)(dq:∀id,aC id=match ρ id with|some j=>φ j|none=> .slice none 0 0)
 (dA:∀id,id<nx->H'.us id) (br:∀cO id,ρ cO=some id->(H'.o cO).bM=true->(H.o id).bM=true):
 ∀ (x v:V) (val:Value),rO ρ H'.o H.o nx x v->V.den (ao M φ H) φ H w v val->V.den (ao M' aC H') aC H' w x val
 | .ab,_,_,_,_=>trivial
 | .d x,v,val,h,hd=>D.aF (fun b hb hn=>⟨rfl,eN b hb hn⟩) x val (Hi hH (by simpa[rO]using h) hd)
 | .bn,v,val,h,hd=>by simp only[rO]at h;subst h;exact hd
 | .agg cs,v,val,h,hd=>by
   unfold rO at h
   split at h
   ·obtain⟨a,rfl,hd,hf⟩:=hd
    exact⟨a,rfl,lu hH eN dq dA br _ _ _ h hd,hf⟩
   ·exact h.elim
 | .bS cs,v,val,h,hd=>by
   unfold rO at h
   split at h
   ·obtain⟨a,rfl,hd⟩:=hd
    exact⟨a,rfl,lu hH eN dq dA br _ _ _ h hd⟩
   ·exact h.elim
 | .ptr cO Aw,v,val,h,hd=>by
   unfold rO at h
   split at h
   ·obtain⟨h1,rfl,h3⟩:=h
    obtain⟨g1,_,g3⟩:=hd
    refine⟨g1,dA _ h3,fun hr=> ?_⟩
    obtain⟨b,k1,k2⟩:=g3 (br _ _ h1 hr)
    exact⟨b,by rw[dq,h1];exact k1,k2⟩
   ·exact h.elim
 | .osl cO gU,v,val,h,hd=>by
   unfold rO at h
   obtain⟨h1,h2,h3⟩:=h
   split at h3
   ·simp only[V.den]at hd;subst hd
    refine⟨rfl,dA _ h1,fun e he=> ?_⟩
    rw[h2]at he;injection he with he;subst he
    exact⟨Nat.le_refl _,fun _=>by rw[dq,h3]⟩
   ·obtain⟨g1,_,g3⟩:=hd
    refine⟨g1,dA _ h1,fun e he=> ?_⟩
    rw[h2]at he;injection he with he;subst he
    exact⟨Nat.le_refl _,fun _=>by rw[dq,h3.1];exact(g3 _ h3.2).2 rfl⟩
   ·exact h3.elim
 | .pe cO gU i' nP Aw,v,val,h,hd=>by
   unfold rO at h
   obtain⟨h1,h2,h3⟩:=h
   split at h3
   ·obtain⟨h3,h4,rfl,rfl,rfl⟩:=h3
    obtain⟨g1,_,g3⟩:=hd
    refine⟨g1,dA _ h1,fun e he=> ?_⟩
    rw[h2]at he;injection he with he;subst he
    refine⟨Nat.le_refl _,fun _=> ?_⟩
    obtain⟨b,n,c,k1,k2⟩:=(g3 _ h4).2 rfl
    exact⟨b,n,c,by rw[dq,h3];exact k1,k2⟩
   ·exact h3.elim
 | .pp cs off,v,val,h,hd=>by
   simp only[rO]at h;subst h
   obtain⟨a,ev,h1,h2,h3,h5,h4⟩:=hd
   exact⟨a,ev,h1,h2,D.aI (fun b hb hn=>⟨rfl,eN b hb hn⟩) cs ev h3,h5,h4.mono (fun b hb hn=>⟨rfl,eN b hb hn⟩)⟩
 | .func fn a b,v,val,h,hd=>by
   unfold rO at h
   split at h
   ·obtain⟨rfl,h1,h2⟩:=h
    obtain⟨f,c,rfl,k1,k2⟩:=hd
    exact⟨f,c,rfl,lu hH eN dq dA br _ _ _ h1 k1,lu hH eN dq dA br _ _ _ h2 k2⟩
   ·exact h.elim
 | .iface t x,v,val,h,hd=>by
   unfold rO at h
   split at h
   ·obtain⟨rfl,h1⟩:=h
    obtain⟨u,rfl,k1⟩:=hd
    exact⟨u,rfl,sH hH eN dq dA br _ _ _ h1 k1⟩
   ·exact h.elim
 | .ox es,v,val,h,hd=>by
   simp only[rO]at h;subst h
   exact⟨D.aF (fun b hb hn=>⟨rfl,eN b hb hn⟩) (.sl es) val hd.1,hd.2⟩
 | .sX cO Aw n',v,val,h,hd=>by
   unfold rO at h
   split at h
   ·obtain⟨h1,rfl,rfl,h3⟩:=h
    obtain⟨g1,_,g3⟩:=hd
    refine⟨g1,dA _ h3,fun hr=> ?_⟩
    obtain⟨b,k1,k2⟩:=g3 (br _ _ h1 hr)
    exact⟨b,by rw[dq,h1];exact k1,k2⟩
   ·exact h.elim
 | .mp cO,v,val,h,hd=>by
   unfold rO at h
   split at h
   ·obtain⟨h1,h3⟩:=h
    obtain⟨g1,_,g3⟩:=hd
    exact⟨g1,dA _ h3,fun hr=>by rw[dq,h1];exact g3 (br _ _ h1 hr)⟩
   ·exact h.elim
 | .eZ,v,val,h,hd=>by
   unfold rO at h
   rcases h with rfl|⟨b,rfl⟩
   ·exact hd
   ·exact⟨b,hd⟩
 | .kV cO,v,val,h,hd=>by
   unfold rO at h
   split at h
   ·obtain⟨h1,h3⟩:=h
    obtain⟨g1,_,g3⟩:=hd
    refine⟨g1,dA _ h3,fun hr=> ?_⟩
    obtain⟨b,k1,k2⟩:=g3 (br _ _ h1 hr)
    exact⟨b,by rw[dq,h1];exact k1,k2⟩
   ·exact h.elim
theorem lu(hH:az M φ H w)(eN:∀b,cy w b-> ¬ao M φ H b-> ¬ao M' aC H' b)(dq:∀id,aC id=match ρ id with|some j=>φ j|none=> .slice none 0 0)
 (dA:∀id,id<nx->H'.us id) (br:∀cO id,ρ cO=some id->(H'.o cO).bM=true->(H.o id).bM=true):
 ∀ (xs vs:List V) (vals:List Value),qM ρ H'.o H.o nx xs vs->V.aE (ao M φ H) φ H w vs vals->V.aE (ao M' aC H') aC H' w xs vals
 |[],vs,vals,h,hd=>by simp only[qM]at h;subst h;exact hd
 |x::xs,vs,vals,h,hd=>by
  unfold qM at h
  split at h
  ·obtain⟨u,us,rfl,k1,k2⟩:=hd
   exact⟨u,us,rfl,sH hH eN dq dA br _ _ _ h.1 k1,lu hH eN dq dA br _ _ _ h.2 k2⟩
  ·exact h.elim
end
theorem Hj(hH:az M φ H w){o':Nat->ae}(ho:∀id,m8 ρ o' H.o nx id)(cS:∀id,nx<=id->o' id= .no)
 (xE:∀i j k,(o' i).live=true->(o' j).live=true->ρ i=some k->ρ j=some k->i=j)
 (hM:∀b,M' b->ao M φ H b) (W0:∀b,M' b->b<w.heap.size) (JW:∀b,M' b-> ¬bT (fun id=>match ρ id with|some j=>φ j|none=> .slice none 0 0) ⟨o',fun id=>id<nx⟩ b):
 let aC:Place:=fun id=>match ρ id with|some j=>φ j|none=> .slice none 0 0
 let H':Hp:=⟨o',fun id=>id<nx⟩
 az M' aC H' w/\(∀b,bT aC H' b->bT φ H b)/\(∀b,cy w b-> ¬ao M φ H b-> ¬ao M' aC H' b)/\
  (∀x v val,rO ρ o' H.o nx x v->V.den (ao M φ H) φ H w v val->V.den (ao M' aC H') aC H' w x val):=by
 intro aC H'
 have br:∀cO id,ρ cO=some id->(H'.o cO).bM=true->(H.o id).bM=true:=by
  intro cO id h1 h2
  have h3:=ho cO
  unfold m8 at h3
  simp only[H']at h2
  split at h3
  ·rename_i e;rw[e]at h2;cases h2
  ·rw[h1]at h3
   simp only at h3
   split at h3
   ·rename_i e;rw[e];rfl
   ·exact h3.elim
  ·rename_i e;rw[e]at h2;cases h2
  ·rename_i e;rw[e]at h2;cases h2
  ·rw[h1]at h3
   simp only at h3
   split at h3
   ·rename_i e;rw[e];rfl
   ·exact h3.elim
  ·rw[h1]at h3
   simp only at h3
   split at h3
   ·rename_i e;rw[e];rfl
   ·exact h3.elim
  ·rw[h1]at h3
   simp only at h3
   split at h3
   ·rename_i e;rw[e];rfl
   ·exact h3.elim
  ·rw[h1]at h3
   simp only at h3
   split at h3
   ·rename_i e;rw[e];rfl
   ·exact h3.elim
  ·rw[h1]at h3
   simp only at h3
   split at h3
   ·rename_i e;rw[e];rfl
   ·exact h3.elim
 have bP:∀cO b,(o' cO).live=true->dN (aC cO)=some b->∃id,ρ cO=some id/\(H.o id).live=true/\dN (φ id)=some b:=by
  intro cO b h1 h2
  have h3:=ho cO
  unfold m8 at h3
  simp only[aC]at h2
  split at h3
  ·rename_i e;rw[e]at h1;cases h1
  ·cases hr:ρ cO with
   |none=>rw[hr]at h3;exact h3.elim
   |some id=>
    rw[hr]at h3 h2
    simp only at h3 h2
    split at h3
    ·rename_i e;exact⟨id,rfl,by rw[e];rfl,h2⟩
    ·exact h3.elim
  ·cases hr:ρ cO with
   |none=>rw[hr]at h2;simp[dN]at h2
   |some id=>
    rw[hr]at h3 h2
    simp only at h3 h2
    split at h3
    ·rename_i e;exact⟨id,rfl,by rw[e];rfl,h2⟩
    ·exact h3.elim
  ·rename_i e;rw[e]at h1;cases h1
  ·cases hr:ρ cO with
   |none=>rw[hr]at h3;exact h3.elim
   |some id=>
    rw[hr]at h3 h2
    simp only at h3 h2
    split at h3
    ·rename_i e;exact⟨id,rfl,by rw[e];rfl,h2⟩
    ·exact h3.elim
  ·cases hr:ρ cO with
   |none=>rw[hr]at h3;exact h3.elim
   |some id=>
    rw[hr]at h3 h2
    simp only at h3 h2
    split at h3
    ·rename_i e;exact⟨id,rfl,by rw[e];rfl,h2⟩
    ·exact h3.elim
  ·rename_i e;rw[e]at h1;cases h1
  ·cases hr:ρ cO with
   |none=>rw[hr]at h3;exact h3.elim
   |some id=>
    rw[hr]at h3 h2
    simp only at h3 h2
    split at h3
    ·rename_i e;exact⟨id,rfl,by rw[e];rfl,h2⟩
    ·exact h3.elim
  ·cases hr:ρ cO with
   |none=>rw[hr]at h3;exact h3.elim
   |some id=>
    rw[hr]at h3 h2
    simp only at h3 h2
    split at h3
    ·rename_i e;exact⟨id,rfl,by rw[e];rfl,h2⟩
    ·exact h3.elim
 have Dj:∀b,bT aC H' b->bT φ H b:=by
  rintro b ⟨cO,h1,h2⟩
  obtain⟨id,_,h3,h4⟩:=bP cO b h1 h2
  exact⟨id,h3,h4⟩
 have W1:∀b,ao M' aC H' b->ao M φ H b:=by
  rintro b (h|h)
  ·exact hM b h
  ·exact .inr (Dj b h)
 have eN:∀b,cy w b-> ¬ao M φ H b-> ¬ao M' aC H' b:=fun b _ h k=>h (W1 b k)
 have Gd:=lu (M':=M') (aC:=aC) (H':=H') (ρ:=ρ) (nx:=nx) hH eN (fun _=>rfl) (fun _ h=>h) br
 refine⟨⟨fun cO=> ?_,fun id hn=>cS id (by simpa[H']using hn),fun i j b h1 h2 h3 h4=> ?_,fun b hb=>⟨fun hm=>JW b hm hb,(hH.ours b (Dj b hb)).2⟩,W0⟩,Dj,eN,
  sH (M':=M') (aC:=aC) (H':=H') (ρ:=ρ) (nx:=nx) hH eN (fun _=>rfl) (fun _ h=>h) br⟩
 ·have h3:=ho cO
  unfold m8 at h3
  unfold aK
  simp only[H']
  split at h3
  ·rename_i e;rw[e];trivial
  ·rename_i cs' e
   rw[e]
   cases hr:ρ cO with
   |none=>rw[hr]at h3;exact h3.elim
   |some id=>
    rw[hr]at h3
    simp only at h3
    split at h3
    ·rename_i cs e2
     have:=hH.ok id
     unfold aK at this
     rw[e2]at this
     obtain⟨b,cR,ty,k1,k2,k3,k4⟩:=this
     exact⟨b,cR,ty,by simp only[aC,hr];exact k1,k2,Gd _ _ _ h3 k3,k4⟩
    ·exact h3.elim
  ·rename_i ep ty sz es e
   rw[e]
   cases hr:ρ cO with
   |none=>
    rw[hr]at h3
    obtain⟨rfl,h4⟩:=h3
    exact⟨h4,[],by simp only[aC,hr];exact World.ownsRow_nil _ _ _ _,[],by simp,by simp,rfl⟩
   |some id=>
    rw[hr]at h3
    simp only at h3
    split at h3
    ·rename_i e2
     obtain⟨rfl,rfl,rfl⟩:=h3
     have:=hH.ok id
     unfold aK at this
     rw[e2]at this
     obtain⟨k1,xs,k2,evs,k3,k4,k5⟩:=this
     exact⟨k1,xs,by simp only[aC,hr];exact k2,evs,k3,k4,D.aI (fun b hb hn=>⟨rfl,eN b hb hn⟩) _ _ k5⟩
    ·exact h3.elim
  ·rename_i ep es e
   rw[e]
   cases hr:ρ cO with
   |none=>rw[hr]at h3;exact h3.elim
   |some id=>
    rw[hr]at h3
    simp only at h3
    split at h3
    ·rename_i e2
     subst h3
     have:=hH.ok id
     unfold aK at this
     rw[e2]at this
     simp only[aC,hr]
     exact D.aF (fun b hb hn=>⟨rfl,eN b hb hn⟩) _ _ this
    ·exact h3.elim
  ·rename_i kt vt l e
   rw[e]
   cases hr:ρ cO with
   |none=>rw[hr]at h3;exact h3.elim
   |some id=>
    rw[hr]at h3
    simp only at h3
    split at h3
    ·rename_i e2
     obtain⟨rfl,rfl,rfl⟩:=h3
     have:=hH.ok id
     unfold aK at this
     rw[e2]at this
     obtain⟨b,es,clock,k1,k2,k4,k3⟩:=this
     exact⟨b,es,clock,by simp only[aC,hr];exact k1,k2,k4,aH.mono (fun b hb hn=>⟨rfl,eN b hb hn⟩) _ _ k3⟩
    ·exact h3.elim
  ·rename_i nf n env ps a b st pd e
   rw[e]
   cases hr:ρ cO with
   |none=>rw[hr]at h3;exact h3.elim
   |some id=>
    rw[hr]at h3
    simp only at h3
    split at h3
    ·rename_i e2
     obtain⟨rfl,rfl,rfl,rfl,rfl,rfl,rfl,hv⟩:=h3
     have:=hH.ok id
     unfold aK at this
     rw[e2]at this
     obtain⟨b,r,k1,k2,k3,k4,k5,k6,k7,k8,k9,Hk⟩:=this
     refine⟨b,r,by simp only[aC,hr];exact k1,k2,k3,k4,k5,k6,k7,k8,k9,fun i=> ?_⟩
     have key:∀ (xs vs:List V),qM ρ o' H.o nx xs vs->∀i,rO ρ o' H.o nx (bw xs i) (bw vs i):=by
      intro xs
      induction xs with
      |nil=>intro vs hv i;simp[bw,rO]
      |cons x xs ih=>
       intro vs hv i
       unfold qM at hv
       split at hv
       ·cases i with
        |zero=>exact hv.1
        |succ i=>exact ih _ hv.2 i
       ·exact hv.elim
     exact sH (M':=M') (aC:=aC) (H':=H') (ρ:=ρ) (nx:=nx) hH eN (fun _=>rfl) (fun _ h=>h) br _ _ _ (key _ _ hv i) (Hk i)
    ·exact h3.elim
  ·rename_i l e
   rw[e]
   cases hr:ρ cO with
   |none=>rw[hr]at h3;exact h3.elim
   |some id=>
    rw[hr]at h3
    simp only at h3
    split at h3
    ·rename_i e2
     subst h3
     have:=hH.ok id
     unfold aK at this
     rw[e2]at this
     simp only[aC,hr]
     exact D.aF (fun b hb hn=>⟨rfl,eN b hb hn⟩) _ _ this
    ·exact h3.elim
  ·rename_i l last e
   rw[e]
   cases hr:ρ cO with
   |none=>rw[hr]at h3;exact h3.elim
   |some id=>
    rw[hr]at h3
    simp only at h3
    split at h3
    ·rename_i Hh e2
     obtain⟨rfl,h3⟩:=h3
     have:=hH.ok id
     unfold aK at this
     rw[e2]at this
     obtain⟨b,k1,k2⟩:=this
     have k3:sZ (ao M' aC H') w l Hh b:=k2.mono (fun b hb hn=>⟨rfl,eN b hb hn⟩) rfl
     refine⟨b,by simp only[aC,hr];exact k1, ?_⟩
     rcases h3 with rfl|rfl
     ·rcases k3 with⟨a1,a2,_⟩|⟨m,since,seen,es,a1,a2,a3,a4,a5,_⟩
      ·exact .inl ⟨a1,a2,rfl⟩
      ·exact .inr ⟨m,since,seen,es,a1,a2,a3,a4,a5,fun _ _ e=>by cases e⟩
     ·exact k3
    ·exact h3.elim
  ·rename_i s pos e
   rw[e]
   cases hr:ρ cO with
   |none=>rw[hr]at h3;exact h3.elim
   |some id=>
    rw[hr]at h3
    simp only at h3
    split at h3
    ·rename_i e2
     obtain⟨rfl,rfl⟩:=h3
     have:=hH.ok id
     unfold aK at this
     rw[e2]at this
     obtain⟨b,k1,k2⟩:=this
     exact⟨b,by simp only[aC,hr];exact k1,k2⟩
    ·exact h3.elim
 ·obtain⟨k1,g1,g2,g3⟩:=bP i b h1 h3
  obtain⟨k2,g4,g5,g6⟩:=bP j b h2 h4
  have:=hH.apart k1 k2 b g2 g5 g3 g6
  subst this
  exact xE i j k1 h1 h2 g1 g4
theorem bW.of_map {b:Nat}{s s':S}(ρ:Nat->Option Nat)(hb:b<=s'.nx)(ho:∀id,m8 ρ s'.o s.o s'.nx id)(cS:∀id,s'.nx<=id->s'.o id= .no)
 (xE:∀i j k,(s'.o i).live=true->(s'.o j).live=true->ρ i=some k->ρ j=some k->i=j)
 (nS:∀id,id<b->ρ id=some id/\(∀e',(s'.o id).ba=some e'->∃e,(s.o id).ba=some e/\e<=e')) (dC:∀i,rO ρ s'.o s.o s'.nx (s'.env i) (s.env i)):bW b s s':=by
 intro M φ w tm hH he
 obtain⟨h1,h2,_,h4⟩:=Hj (M':=M) (ρ:=ρ) (nx:=s'.nx) hH (o':=s'.o) ho cS xE (fun b hb=> .inl hb) hH.u5 (fun b hb hl=>by
  have:bT φ s.H b:=by
   obtain⟨cO,g1,g2⟩:=hl
   have h3:=ho cO
   unfold m8 at h3
   simp only at g1 g2
   split at h3
   ·rename_i e;rw[e]at g1;cases g1
   ·cases hr:ρ cO with
    |none=>rw[hr]at h3;exact h3.elim
    |some id=>
     rw[hr]at h3 g2
     simp only at h3 g2
     split at h3
     ·rename_i e;exact⟨id,by simp only[S.H];rw[e];rfl,g2⟩
     ·exact h3.elim
   ·cases hr:ρ cO with
    |none=>rw[hr]at g2;simp[dN]at g2
    |some id=>
     rw[hr]at h3 g2
     simp only at h3 g2
     split at h3
     ·rename_i e;exact⟨id,by simp only[S.H];rw[e];rfl,g2⟩
     ·exact h3.elim
   ·rename_i e;rw[e]at g1;cases g1
   ·cases hr:ρ cO with
    |none=>rw[hr]at h3;exact h3.elim
    |some id=>
     rw[hr]at h3 g2
     simp only at h3 g2
     split at h3
     ·rename_i e;exact⟨id,by simp only[S.H];rw[e];rfl,g2⟩
     ·exact h3.elim
   ·cases hr:ρ cO with
    |none=>rw[hr]at h3;exact h3.elim
    |some id=>
     rw[hr]at h3 g2
     simp only at h3 g2
     split at h3
     ·rename_i e;exact⟨id,by simp only[S.H];rw[e];rfl,g2⟩
     ·exact h3.elim
   ·rename_i e;rw[e]at g1;cases g1
   ·cases hr:ρ cO with
    |none=>rw[hr]at h3;exact h3.elim
    |some id=>
     rw[hr]at h3 g2
     simp only at h3 g2
     split at h3
     ·rename_i e;exact⟨id,by simp only[S.H];rw[e];rfl,g2⟩
     ·exact h3.elim
   ·cases hr:ρ cO with
    |none=>rw[hr]at h3;exact h3.elim
    |some id=>
     rw[hr]at h3 g2
     simp only at h3 g2
     split at h3
     ·rename_i e;exact⟨id,by simp only[S.H];rw[e];rfl,g2⟩
     ·exact h3.elim
  exact(hH.ours b this).1 hb)
 refine⟨_,h1,fun i=>h4 _ _ _ (dC i) (he i),h2,hb,fun id ax hr=> ?_,fun id e' ax fw=> ?_⟩
 ·obtain⟨g1,_⟩:=nS id ax
  refine⟨?_,by simp only[g1]⟩
  have h3:=ho id
  unfold m8 at h3
  rw[g1]at h3
  split at h3
  ·rename_i e;rw[e]at hr;cases hr
  ·simp only at h3
   split at h3
   ·rename_i e;rw[e];rfl
   ·exact h3.elim
  ·rename_i e;rw[e]at hr;cases hr
  ·rename_i e;rw[e]at hr;cases hr
  ·simp only at h3
   split at h3
   ·rename_i e;rw[e];rfl
   ·exact h3.elim
  ·simp only at h3
   split at h3
   ·rename_i e;rw[e];rfl
   ·exact h3.elim
  ·simp only at h3
   split at h3
   ·rename_i e;rw[e];rfl
   ·exact h3.elim
  ·simp only at h3
   split at h3
   ·rename_i e;rw[e];rfl
   ·exact h3.elim
  ·simp only at h3
   split at h3
   ·rename_i e;rw[e];rfl
   ·exact h3.elim
 ·obtain⟨g1,g2⟩:=nS id ax
  obtain⟨e,g3,g4⟩:=g2 e' fw
  exact⟨e,g3,g4,fun _=>by simp only[g1]⟩
end
end Go.Proofs.YtealblliddhgiaaGreat
namespace Go.Proofs.YtealblliddhgiaaGreat
@[go_sem] theorem jt (v:V) (l:List V):bw (v::l) 0=v:=rfl
@[go_sem] theorem il (v:V) (l:List V) (i:Nat):bw (v::l) (i+1)=bw l i:=rfl
@[go_sem] theorem jK (i:Nat):bw [] i= .ab:=by simp[bw]
def jc:List (Nat×Option Nat)->Nat->Option Nat
 |[],id=>some id
 |(i,r)::R,id=>if i=id then r else jc R id
def JX(R:List (Nat×Option Nat)):List Nat->Bool
 |[]=>true
 |i::l=>l.all (fun j=>i==j||jc R i==none||jc R i !=jc R j)&&JX R l
def DI(ρ:Nat->Option Nat)(o' o:Nat->ae)(nx:Nat)(env:Nat->V):List V->Nat->Prop
 |[],_=>True
 |v::l,i=>rO ρ o' o nx v (env i)/\DI ρ o' o nx env l (i+1)
def x4(ρ:Nat->Option Nat)(o' o:Nat->ae)(nx:Nat):List Nat->Prop
 |[]=>True
 |i::l=>m8 ρ o' o nx i/\x4 ρ o' o nx l
def Oc:Option Nat->Option Nat->Prop
 |none,_=>True
 |some _,none=>False
 |some a,some b=>b<=a
def DJ(b:Nat)(o' o:Nat->ae):List Nat->Prop
 |[]=>True
 |i::l=>(i<b->Oc (o' i).ba (o i).ba)/\DJ b o' o l
theorem JY{o:Nat->ae}:∀ (Δ:List (Nat×ae)) (id:Nat),id∉Δ.map (·.1)->put o Δ id=o id:=by
 intro Δ
 induction Δ generalizing o with
 |nil=>intro id _;rfl
 |cons p Δ ih=>
  intro id h
  simp only[List.map_cons,List.mem_cons,not_or]at h
  rw[nK,ih id h.2]
  simp[h.1]
theorem bW.to {b:Nat}{s:S}(l:List V)(Δ:List (Nat×ae))(nx:Nat)(R:List (Nat×Option Nat))(h1:decide (b<=nx)=true)(h2:(Δ.map (·.1)).all (· <nx)=true)(h3:JX R (Δ.map (·.1))=true)(h4:R.all (fun r=>decide (b<=r.1))=true)
 (h5:DJ b (put (fun _=> .no) Δ) s.o (Δ.map (·.1))) (h6:x4 (jc R) (put (fun _=> .no) Δ) s.o nx (Δ.map (·.1))) (h7:DI (jc R) (put (fun _=> .no) Δ) s.o nx s.env l 0):
 bW b s ⟨bw l,put (fun _=> .no) Δ,nx⟩:=by
 have mz:∀id,id∈Δ.map (·.1)\/put (fun _=>ae.no) Δ id= .no:=fun id=>by
  by_cases h:id∈Δ.map (·.1)
  ·exact .inl h
  ·exact .inr (JY Δ id h)
 have qy:∀ (ids:List Nat),x4 (jc R) (put (fun _=> .no) Δ) s.o nx ids->∀id∈ids,m8 (jc R) (put (fun _=> .no) Δ) s.o nx id:=by
  intro ids
  induction ids with
  |nil=>intro _ id h;cases h
  |cons i ids ih=>
   intro h id ax
   rcases List.mem_cons.1 ax with rfl|ax
   ·exact h.1
   ·exact ih h.2 id ax
 have W2:∀ (ids:List Nat),DJ b (put (fun _=> .no) Δ) s.o ids->∀id∈ids,id<b->Oc (put (fun _=>ae.no) Δ id).ba (s.o id).ba:=by
  intro ids
  induction ids with
  |nil=>intro _ id h;cases h
  |cons i ids ih=>
   intro h id ax
   rcases List.mem_cons.1 ax with rfl|ax
   ·exact h.1
   ·exact ih h.2 id ax
 have dC:∀ (l:List V) (i:Nat),DI (jc R) (put (fun _=> .no) Δ) s.o nx s.env l i->∀j,rO (jc R) (put (fun _=> .no) Δ) s.o nx (bw l j) (s.env (i+j)):=by
  intro l
  induction l with
  |nil=>intro i _ j;rw[jK];simp[rO]
  |cons v l ih=>
   intro i h j
   cases j with
   |zero=>exact h.1
   |succ j=>
    rw[il]
    have:=ih (i+1) h.2 j
    rwa [show i+1+j=i+(j+1) by omega]at this
 have xE:∀ (ids:List Nat),JX R ids=true->∀i∈ids,∀j∈ids,∀k,jc R i=some k->jc R j=some k->i=j:=by
  intro ids
  induction ids with
  |nil=>intro _ i h;cases h
  |cons x ids ih=>
   intro h i hi j hj k h1 h2
   simp only[JX,Bool.and_eq_true,List.all_eq_true]at h
   rcases List.mem_cons.1 hi with Gq|Gq<;>rcases List.mem_cons.1 hj with GH|GH
   ·exact Gq.trans GH.symm
   ·subst Gq
    have:=h.1 j GH
    simp only[Bool.or_eq_true,beq_iff_eq,bne_iff_ne,ne_eq]at this
    rcases this with(e|e)|e
    ·exact e
    ·rw[h1]at e;cases e
    ·exact absurd (h1.trans h2.symm) e
   ·subst GH
    have:=h.1 i Gq
    simp only[Bool.or_eq_true,beq_iff_eq,bne_iff_ne,ne_eq]at this
    rcases this with(e|e)|e
    ·exact e.symm
    ·rw[h2]at e;cases e
    ·exact absurd (h2.trans h1.symm) e
   ·exact ih h.2 i Gq j GH k h1 h2
 have R3:∀ (R:List (Nat×Option Nat)),R.all (fun r=>decide (b<=r.1))=true->∀id,id<b->jc R id=some id:=by
  intro R
  induction R with
  |nil=>intro _ id _;rfl
  |cons r R ih=>
   intro h id ax
   obtain⟨i,r⟩:=r
   simp only[List.all_cons,Bool.and_eq_true,decide_eq_true_eq]at h
   unfold jc
   rw[if_neg (by omega)]
   exact ih h.2 id ax
 have ve:∀id,(put (fun _=>ae.no) Δ id).live=true->id∈Δ.map (·.1):=fun id h=>by
  rcases mz id with h'|h'
  ·exact h'
  ·rw[h']at h;cases h
 refine bW.of_map (jc R) (by simpa using h1) (fun id=> ?_) (fun id ax=> ?_) (fun i j k g1 g2 g3 g4=>xE _ h3 i (ve i g1) j (ve j g2) k g3 g4) (fun id ax=>⟨R3 R h4 id ax,fun e' he=> ?_⟩) (fun i=>by simpa using dC l 0 h7 i)
 ·rcases mz id with h|h
  ·exact qy _ h6 id h
  ·unfold m8;simp only[h]
 ·rcases mz id with h|h
  ·have:=List.all_eq_true.1 h2 id h
   simp only[decide_eq_true_eq]at this
   simp only at ax
   omega
  ·exact h
 ·rcases mz id with h|h
  ·have:=W2 _ h5 id h ax
   simp only at he
   rw[he]at this
   cases hs:(s.o id).ba with
   |none=>rw[hs]at this;exact this.elim
   |some e=>rw[hs]at this;exact⟨e,rfl,this⟩
  ·simp only[h]at he;cases he
@[go_sem] theorem Mf (k:Nat):(0<=(k:Int))=True:=by simp
attribute [go_sem] List.getElem?_map List.length_map Int.toNat_natCast
attribute [go_sem] eR List.flatMap_cons List.flatMap_nil
attribute [go_sem] isConst qx Jk qv qw ze qt EF oz oA vI s8 s9 pn
attribute [go_sem] jr V.refs V.ag
attribute [go_sem] DI x4 DJ Oc rO qM m8 jc JV List.all_nil List.all_cons Option.some.injEq D.int.injEq D.bool.injEq Nat.zero_add Nat.add_zero
theorem wrap64{n:Int}(h1: -9223372036854775808<=n)(h2:n<=9223372036854775807):IntKind.i64.wrap n=n:=by
 unfold IntKind.wrap
 have e1:((2:Int)^IntKind.i64.bits)=18446744073709551616:=by decide
 have e2:((2:Int)^(IntKind.i64.bits - 1))=9223372036854775808:=by decide
 have e3:IntKind.i64.signed=true:=rfl
 simp only[e1,e2,e3,Bool.true_and,decide_eq_true_eq]
 split<;>omega
end Go.Proofs.YtealblliddhgiaaGreat
namespace Go.Proofs.YtealblliddhgiaaGreat
structure Good (o:Nat->ae) (nx:Nat):Prop where
 fresh:∀id,nx<=id->o id= .no
 refs:∀id,∀r∈(o id).refs,r<nx
theorem Good.nil {nx:Nat}:Good (fun _=> .no) nx:=⟨fun _ _=>rfl,fun id r h=>by cases h⟩
theorem Good.ak {o:Nat->ae}{nx i:Nat}{x:ae}(h:Good o nx)(hi:i<nx)(hx:x.refs.all (fun r=>decide (r<nx))=true):Good (ak o i x) nx:=by
 refine⟨fun id ax=> ?_,fun id r hr=> ?_⟩
 ·rw[ad _ _ _ _ (by omega)];exact h.fresh id ax
 ·by_cases e:id=i
  ·subst e
   rw[aa]at hr
   simpa using List.all_eq_true.1 hx r hr
  ·rw[ad _ _ _ _ e]at hr
   exact h.refs id r hr
theorem Good.mono {o:Nat->ae}{nx m:Nat}(h:Good o nx)(hm:nx<=m):Good o m:=⟨fun id ax=>h.fresh id (by omega),fun id r hr=>Nat.lt_of_lt_of_le (h.refs id r hr) hm⟩
theorem Good.lt {o:Nat->ae}{nx id:Nat}(h:Good o nx)(hn:o id≠ .no):id<nx:=by
 rcases Nat.lt_or_ge id nx with hl|hl
 ·exact hl
 ·exact absurd (h.fresh id hl) hn
theorem V.lx:∀ (l:List V) (i:Nat),∀r∈(bw l i).refs,r∈V.ag l
 |[],i,r,h=>by rw[jK]at h;cases h
 |v::l,0,r,h=>by rw[jt]at h;simp only[V.ag,List.mem_append];exact .inl h
 |v::l,i+1,r,h=>by rw[il]at h;simp only[V.ag,List.mem_append];exact .inr (V.lx l i r h)
theorem bW.back {b:Nat}{s:S}{env:Nat->V}{o:Nat->ae}{nx:Nat}(hb:b<=nx)(hn:nx<=s.nx)(hg:Good o nx)(ho:∀id,id<nx->s.o id=o id)
 (he:∀i,env i= .ab\/(env i=s.env i/\∀r∈(env i).refs,r<nx)):bW b s ⟨env,o,nx⟩:=by
 intro M φ w tm hH hd
 have bP:∀k,bT φ (hp o nx) k->bT φ s.H k:=by
  rintro k ⟨id,h1,h2⟩
  have ax:id<nx:=hg.lt (fun e=>by simp only[hp]at h1;rw[e]at h1;cases h1)
  exact⟨id,by simp only[S.H];rw[ho id ax];exact h1,h2⟩
 have hB:∀k, ¬ao M φ s.H k-> ¬ao M φ (hp o nx) k:=fun k h h'=>h (h'.imp id (bP k))
 have dx:∀ (v:V) (val:Value),(∀r∈v.refs,r<nx)->V.den (ao M φ s.H) φ s.H w v val->V.den (ao M φ (hp o nx)) φ (hp o nx) w v val:=fun v val hr h=>
  V.lq (H:=s.H) (H':=hp o nx) hB v val (fun id ax=>⟨(ho id (hr id ax)).symm,rfl,hr id ax⟩) h
 have kj:∀ (v:List V) (val:List Value),(∀r∈V.ag v,r<nx)->V.aE (ao M φ s.H) φ s.H w v val->V.aE (ao M φ (hp o nx)) φ (hp o nx) w v val:=fun v val hr h=>
  V.fi (H:=s.H) (H':=hp o nx) hB v val (fun id ax=>⟨(ho id (hr id ax)).symm,rfl,hr id ax⟩) h
 refine⟨φ,⟨fun id=> ?_,fun id hu=>hg.fresh id (by simpa[S.H]using hu),fun i j k h1 h2 h3 h4=> ?_,fun k hk=>hH.ours k (bP k hk),hH.u5⟩,fun i=> ?_,bP,hb,fun id ax hr=> ?_,fun id e' ax fw=> ?_⟩
 ·have aM:=hH.ok id
  have hrefs:=hg.refs id
  unfold aK at aM|-
  by_cases ax:id<nx
  ·have e:s.H.o id=o id:=ho id ax
   rw[e]at aM
   simp only[S.H]at aM|-
   cases hx:o id with
   |no=>trivial
   |row cs=>
    simp only[hx]at aM hrefs|-
    obtain⟨b,cR,ty,k1,k2,k3,k4⟩:=aM
    exact⟨b,cR,ty,k1,k2,kj _ _ hrefs k3,k4⟩
   |arr ep ty sz es=>
    simp only[hx]at aM|-
    obtain⟨k1,xs,k2,evs,k3,k4,k5⟩:=aM
    exact⟨k1,xs,k2,evs,k3,k4,D.aI (fun b _ hn=>⟨rfl,hB b hn⟩) _ _ k5⟩
   |ph ep es=>
    simp only[hx]at aM|-
    exact D.aF (fun b _ hn=>⟨rfl,hB b hn⟩) _ _ aM
   |map kt vt es=>
    simp only[hx]at aM|-
    obtain⟨b,es',clock,k1,k2,k4,k3⟩:=aM
    exact⟨b,es',clock,k1,k2,k4,aH.mono (fun b _ hn=>⟨rfl,hB b hn⟩) _ _ k3⟩
   |fq l=>
    simp only[hx]at aM|-
    exact D.aF (fun b _ hn=>⟨rfl,hB b hn⟩) _ _ aM
   |kW l last=>
    simp only[hx]at aM|-
    obtain⟨b,k1,k2⟩:=aM
    exact⟨b,k1,k2.mono (fun b _ hn=>⟨rfl,hB b hn⟩) rfl⟩
   |sY s pos=>
    simp only[hx]at aM|-
    exact aM
   |loop nf n env ps a b st pd=>
    simp only[hx]at aM hrefs|-
    obtain⟨b,r,k1,k2,k3,k4,k5,k6,k7,k8,k9,Hk⟩:=aM
    exact⟨b,r,k1,k2,k3,k4,k5,k6,k7,k8,k9,fun i=>dx _ _ (fun r hr=>hrefs r (V.lx _ _ r hr)) (Hk i)⟩
  ·simp only[S.H]
   rw[hg.fresh id (by omega)]
   trivial
 ·have hi:i<nx:=hg.lt (fun e=>by simp only[S.H]at h1;rw[e]at h1;cases h1)
  have hj:j<nx:=hg.lt (fun e=>by simp only[S.H]at h2;rw[e]at h2;cases h2)
  exact hH.apart i j k (by simp only[S.H];rw[ho i hi];exact h1) (by simp only[S.H];rw[ho j hj];exact h2) h3 h4
 ·rcases he i with h|⟨h1,h2⟩
  ·simp only[h];trivial
  ·have:=hd i
   rw[<- h1]at this
   exact dx _ _ h2 this
 ·have bC:id<nx:=by omega
  exact⟨by rw[ho id bC];exact hr,rfl⟩
 ·have bC:id<nx:=by omega
  exact⟨e',by rw[ho id bC];exact fw,Nat.le_refl _,fun _=>rfl⟩
def fG(nx:Nat)(env:Nat->V):List V->Nat->Prop
 |[],_=>True
 |v::l,i=>(v= .ab\/(v=env i/\∀r∈v.refs,r<nx))/\fG nx env l (i+1)
theorem bW.bE {b:Nat}{e:Nat->V}{so:Nat->ae}{m:Nat}(l:List V){o:Nat->ae}{nx:Nat}(hb:b<=nx)(hn:nx<=m)(hg:Good o nx)(ho:∀id,id<nx->so id=o id)(he:fG nx e l 0):bW b ⟨e,so,m⟩ ⟨bw l,o,nx⟩:=by
 refine bW.back hb hn hg ho ?_
 have key:∀ (l:List V) (i:Nat),fG nx e l i->∀j,bw l j= .ab\/(bw l j=e (i+j)/\∀r∈(bw l j).refs,r<nx):=by
  intro l
  induction l with
  |nil=>intro i _ j;rw[jK];exact .inl rfl
  |cons v l ih=>
   intro i h j
   cases j with
   |zero=>rw[jt];exact h.1
   |succ j=>
    rw[il]
    have:=ih (i+1) h.2 j
    rwa [show i+1+j=i+(j+1) by omega]at this
 intro i
 have:=key l 0 he i
 rwa [Nat.zero_add]at this
theorem aq{nx:Nat}{env:Nat->V}{i:Nat}:fG nx env [] i:=trivial
theorem ai{nx:Nat}{env:Nat->V}{l:List V}{i:Nat}(h:fG nx env l (i+1)):fG nx env (.ab::l) i:=⟨.inl rfl,h⟩
theorem ah{nx:Nat}{env:Nat->V}{l:List V}{i:Nat}{x:D}(he:env i= .d x)(h:fG nx env l (i+1)):fG nx env (.d x::l) i:=⟨.inr ⟨he.symm,fun r hr=>by simp[V.refs]at hr⟩,h⟩
theorem aA{nx:Nat}{env:Nat->V}{l:List V}{i:Nat}{v:V}(he:env i=v)(hr:∀r∈v.refs,r<nx)(h:fG nx env l (i+1)):fG nx env (v::l) i:=⟨.inr ⟨he.symm,hr⟩,h⟩
theorem bW.d0 {e:Nat->V}{so:Nat->ae}{m:Nat}(l:List V)(he:fG 0 e l 0):bW 0 ⟨e,so,m⟩ ⟨bw l,fun _=> .no,0⟩:=bW.bE l (Nat.le_refl 0) (Nat.zero_le _) Good.nil (fun _ h=>absurd h (Nat.not_lt_zero _)) he
theorem aP{k:Nat}(h:(k:Int)+1<=9223372036854775807):IntKind.i64.wrap ((k:Int)+1)=((k+1:Nat):Int):=by rw[wrap64 (by omega) h];rfl
theorem aQ{k:IntKind}{a b:Int}(h:a=b):V.d (D.int k a)=V.d (D.int k b):=by rw[h]
theorem m9{P:Program}{g:FuncId}{K:KD}{X:XD}{o:Nat->ae}{nx fr:Nat}{all:List V}{rd:List Nat}{rs:List D}{Δ:List (Nat×ae)}(my:rd.all (fun id=>decide (id<nx))=true)(h:xP P g all rd o (.ret rs) Δ)(hk:K (gS rs) Δ rd):l8 P g K X o nx fr all:=by
 unfold l8
 exact⟨rd,Δ,my, .inl ⟨rs,h,hk⟩⟩
end Go.Proofs.YtealblliddhgiaaGreat
