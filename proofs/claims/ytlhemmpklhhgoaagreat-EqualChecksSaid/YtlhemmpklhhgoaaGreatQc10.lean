/-
  A PART OF THE PROOF. Conditions: none.
-/
import Derived.Test.YtlhemmpklhhgoaaGreatQc9
set_option linter.unusedSimpArgs false
set_option linter.unusedVariables false
namespace Go.Proofs.YtlhemmpklhhgoaaGreat
@[go_sem] theorem lC (v:V) (l:List V):bc (v::l) 0=v:=rfl
@[go_sem] theorem lD (v:V) (l:List V) (i:Nat):bc (v::l) (i+1)=bc l i:=rfl
@[go_sem] theorem nI (i:Nat):bc [] i= .ab:=by simp[bc]
@[go_sem] theorem Kl (k:Nat):(0<=(k:Int))=True:=aK
attribute [go_sem] List.getElem?_map List.length_map Int.toNat_natCast
attribute [go_sem] dH List.flatMap_cons List.flatMap_nil
attribute [go_sem] isConst oG Hh oE oF wX oD mY zk Hi tx Cr mg mh tw qP qQ mZ
attribute [go_sem] lQ V.refs V.aO
attribute [go_sem] List.all_nil List.all_cons Option.some.injEq D.int.injEq D.bool.injEq Nat.zero_add Nat.add_zero
theorem wrap64{n:Int}(h1: -9223372036854775808<=n)(h2:n<=9223372036854775807):IntKind.i64.wrap n=n:=by
 unfold IntKind.wrap
 have e1:((2:Int)^IntKind.i64.bits)=18446744073709551616:=dU
 have e2:((2:Int)^(IntKind.i64.bits - 1))=9223372036854775808:=dU
 have e3:IntKind.i64.signed=true:=rfl
 simp only[e1,e2,e3,Bool.true_and,decide_eq_true_eq]
 split<;>omega
structure Good (o:Nat->aa) (nx:Nat):Prop where
 fresh:∀id,nx<=id->o id= .no
 refs:∀id,∀r∈(o id).refs,r<nx
theorem Good.nil {nx:Nat}:Good (fun _=> .no) nx:=⟨fun _ _=>rfl,fun id r h=>by cases h⟩
theorem Good.aM {o:Nat->aa}{nx i:Nat}{x:aa}(h:Good o nx)(hi:i<nx)(hx:x.refs.all (fun r=>decide (r<nx))=true):Good (aM o i x) nx:=by
 refine⟨fun id aq=> ?_,fun id r hr=> ?_⟩
 ·rw[ah _ _ _ _ (by omega)];exact h.fresh id aq
 ·by_cases e:id=i
  ·subst e
   rw[ag]at hr
   simpa using List.all_eq_true.1 hx r hr
  ·rw[ah _ _ _ _ e]at hr
   exact h.refs id r hr
theorem Good.mono {o:Nat->aa}{nx m:Nat}(h:Good o nx)(hm:nx<=m):Good o m:=⟨fun id aq=>h.fresh id af,fun id r hr=>Nat.lt_of_lt_of_le (h.refs id r hr) hm⟩
theorem Good.lt {o:Nat->aa}{nx id:Nat}(h:Good o nx)(hn:o id≠ .no):id<nx:=by
 rcases Nat.lt_or_ge id nx with hl|hl
 ·exact hl
 ·exact absurd (h.fresh id hl) hn
theorem V.tg:∀ (l:List V) (i:Nat),∀r∈(bc l i).refs,r∈V.aO l
 |[],i,r,h=>by rw[nI]at h;cases h
 |v::l,0,r,h=>by rw[lC]at h;simp only[V.aO,List.mem_append];exact .inl h
 |v::l,i+1,r,h=>by rw[lD]at h;simp only[V.aO,List.mem_append];exact .inr (V.tg l i r h)
theorem bM.back {b:Nat}{s:S}{env:Nat->V}{o:Nat->aa}{nx:Nat}(hb:b<=nx)(hn:nx<=s.nx)(hg:Good o nx)(ho:∀id,id<nx->s.o id=o id)
 (he:∀i,env i= .ab\/(env i=s.env i/\∀r∈(env i).refs,r<nx)):bM b s ⟨env,o,nx⟩:=by
 intro M φ w tm hH hd
 have cw:∀k,cu φ (hp o nx) k->cu φ s.H k:=by
  rintro k ⟨id,h1,h2⟩
  have aq:id<nx:=hg.lt (fun e=>by simp only[hp]at h1;rw[e]at h1;cases h1)
  exact⟨id,by simp only[S.H];rw[ho id aq];exact h1,h2⟩
 have hB:∀k, ¬ai M φ s.H k-> ¬ai M φ (hp o nx) k:=fun k h h'=>h (h'.imp id (cw k))
 have eI:∀ (v:V) (val:Value),(∀r∈v.refs,r<nx)->V.den (ai M φ s.H) φ s.H w v val->V.den (ai M φ (hp o nx)) φ (hp o nx) w v val:=fun v val hr h=>
  V.kJ (H:=s.H) (H':=hp o nx) hB v val (fun id aq=>⟨(ho id (hr id aq)).symm,rfl,hr id aq⟩) h
 have qK:∀ (v:List V) (val:List Value),(∀r∈V.aO v,r<nx)->V.az (ai M φ s.H) φ s.H w v val->V.az (ai M φ (hp o nx)) φ (hp o nx) w v val:=fun v val hr h=>
  V.eD (H:=s.H) (H':=hp o nx) hB v val (fun id aq=>⟨(ho id (hr id aq)).symm,rfl,hr id aq⟩) h
 refine⟨φ,⟨fun id=> ?_,fun id hu=>hg.fresh id (by simpa[S.H]using hu),fun i j k h1 h2 h3 h4=> ?_,fun k hk=>hH.ours k (cw k hk),hH.wA⟩,fun i=> ?_,cw,hb,fun id aq hr=> ?_,fun id e' aq mO=> ?_⟩
 ·have aR:=hH.ok id
  have hrefs:=hg.refs id
  unfold aF at aR|-
  by_cases aq:id<nx
  ·have e:s.H.o id=o id:=ho id aq
   rw[e]at aR
   simp only[S.H]at aR|-
   cases hx:o id with
   |no=>trivial
   |row cs=>
    simp only[hx]at aR hrefs|-
    exact RL
   |arr ep ty sz es=>
    simp only[hx]at aR|-
    obtain⟨k1,xs,k2,evs,k3,k4,k5⟩:=aR
    exact Q5
   |qo ep es=>
    simp only[hx]at aR|-
    exact D.aG (fun b _ hn=>⟨rfl,hB b hn⟩) _ _ aR
   |map kt vt es=>
    simp only[hx]at aR|-
    obtain⟨b,es',clock,k1,k2,k4,k3⟩:=aR
    exact Q2
   |cO l=>
    simp only[hx]at aR|-
    exact iQ.mono (fun b _ hn=>⟨rfl,hB b hn⟩) aR
   |oB l last=>
    simp only[hx]at aR|-
    obtain⟨b,k1,k2⟩:=aR
    exact Jo
   |uP s pos=>
    simp only[hx]at aR|-
    exact aR
   |loop nf n env ps a b st pd=>
    simp only[hx]at aR hrefs|-
    exact Jq
  ·simp only[S.H]
   rw[hg.fresh id (by omega)]
   trivial
 ·have hi:i<nx:=hg.lt (fun e=>by simp only[S.H]at h1;rw[e]at h1;cases h1)
  have hj:j<nx:=hg.lt (fun e=>by simp only[S.H]at h2;rw[e]at h2;cases h2)
  exact hH.apart i j k (by simp only[S.H];rw[ho i hi];exact h1) (by simp only[S.H];rw[ho j hj];exact h2) h3 h4
 ·rcases he i with h|⟨h1,h2⟩
  ·simp only[h];trivial
  ·have:=hd i
   rw[<- h1]at this
   exact eI _ _ h2 this
 ·have bQ:id<nx:=af
  exact⟨by rw[ho id bQ];exact hr,rfl⟩
 ·have bQ:id<nx:=af
  exact⟨e',by rw[ho id bQ];exact mO,Nat.le_refl _,fun _=>rfl⟩
def jn(nx:Nat)(env:Nat->V):List V->Nat->Prop
 |[],_=>True
 |v::l,i=>(v= .ab\/(v=env i/\∀r∈v.refs,r<nx))/\jn nx env l (i+1)
theorem bM.bP {b:Nat}{e:Nat->V}{so:Nat->aa}{m:Nat}(l:List V){o:Nat->aa}{nx:Nat}(hb:b<=nx)(hn:nx<=m)(hg:Good o nx)(ho:∀id,id<nx->so id=o id)(he:jn nx e l 0):bM b ⟨e,so,m⟩ ⟨bc l,o,nx⟩:=by
 refine bM.back hb hn hg ho ?_
 have key:∀ (l:List V) (i:Nat),jn nx e l i->∀j,bc l j= .ab\/(bc l j=e (i+j)/\∀r∈(bc l j).refs,r<nx):=by
  intro l
  induction l with
  |nil=>intro i _ j;rw[nI];exact .inl rfl
  |cons v l ih=>
   intro i h j
   cases j with
   |zero=>rw[lC];exact h.1
   |succ j=>
    rw[lD]
    have:=ih (i+1) h.2 j
    rwa [show i+1+j=i+(j+1) by omega]at this
 intro i
 have:=key l 0 he i
 rwa [Nat.zero_add]at this
theorem tf{nx:Nat}{env:Nat->V}{i:Nat}:jn nx env [] i:=trivial
theorem ej{nx:Nat}{env:Nat->V}{l:List V}{i:Nat}(h:jn nx env l (i+1)):jn nx env (.ab::l) i:=⟨.inl rfl,h⟩
theorem lq{nx:Nat}{env:Nat->V}{l:List V}{i:Nat}{x:D}(he:env i= .d x)(h:jn nx env l (i+1)):jn nx env (.d x::l) i:=⟨.inr ⟨he.symm,fun r hr=>by simp[V.refs]at hr⟩,h⟩
theorem AX{nx:Nat}{env:Nat->V}{l:List V}{i:Nat}{v:V}(he:env i=v)(hr:∀r∈v.refs,r<nx)(h:jn nx env l (i+1)):jn nx env (v::l) i:=⟨.inr ⟨he.symm,hr⟩,h⟩
theorem bM.d0 {e:Nat->V}{so:Nat->aa}{m:Nat}(l:List V)(he:jn 0 e l 0):bM 0 ⟨e,so,m⟩ ⟨bc l,fun _=> .no,0⟩:=bM.bP l (Nat.le_refl 0) (Nat.zero_le _) Good.nil (fun _ h=>absurd h (Nat.not_lt_zero _)) he
theorem Jj{k:Nat}(h:(k:Int)+1<=9223372036854775807):IntKind.i64.wrap ((k:Int)+1)=((k+1:Nat):Int):=by rw[wrap64 (by omega) h];rfl
theorem Ji{k:IntKind}{a b:Int}(h:a=b):V.d (D.int k a)=V.d (D.int k b):=by rw[h]
abbrev D.i (n:Int):D:= .int .i64 n
structure jX where
 name:List UInt8
 args:Int
structure aJ where
 cons:List jX
 cA:List jX
inductive Tm where
 |mk (op n:Int) (kids:List Tm)
 deriving Inhabited
structure TB where
 var:Int
 term:Tm
def Tm.op:Tm->Int| .mk op _ _=>op
def Tm.n:Tm->Int| .mk _ n _=>n
def Tm.kids:Tm->List Tm| .mk _ _ l=>l
theorem Tm.eta (t:Tm):Tm.mk t.op t.n t.kids=t:=by cases t;rfl
theorem Tm.ind {P:Tm->Prop}(h:∀op n kids,(∀k∈kids,P k)->P (.mk op n kids)):∀t,P t:=
 fun t=>Tm.rec (motive_1:=P) (motive_2:=fun l=>∀k∈l,P k) (fun op n kids ih=>h op n kids ih) (fun _ h=>by cases h)
  (fun x l hx hl k hk=>(List.mem_cons.1 hk).elim (fun e=>e ▸ hx) (hl k)) t
mutual
def Tm.d:Tm->D
 | .mk op n kids=> .agg [.i op, .i n, .sl (Tm.ds kids)]
def Tm.ds:List Tm->List D
 |[]=>[]
 |t::l=>t.d::Tm.ds l
end
theorem Tm.Ab:∀l:List Tm,Tm.ds l=l.map Tm.d
 |[]=>rfl
 |t::l=>by simp[Tm.ds,Tm.Ab l]
theorem Tm.S4 (t:Tm):t.d= .agg [.i t.op, .i t.n, .sl (t.kids.map Tm.d)]:=by cases t;simp[Tm.d,Tm.Ab,Tm.op,Tm.n,Tm.kids]
@[go_sem] theorem Tm.Yb (t:Tm):D.agg [.i t.op, .i t.n, .sl (t.kids.map Tm.d)]=t.d:=(Tm.S4 t).symm
@[go_sem] theorem Tm.Wq (t:Tm):D.cells t.d=[.i t.op, .i t.n, .sl (t.kids.map Tm.d)]:=by rw[Tm.S4];rfl
theorem Tm.fe {P:Tm->Prop}(h:∀t:Tm,(∀k∈t.kids,P k)->P t):∀t,P t:=Tm.ind fun op n kids ih=>h (.mk op n kids) ih
theorem Tm.MZ (op n:Int)(l:List Tm):(Tm.mk op n l).d= .agg [.i op, .i n, .sl (l.map Tm.d)]:=by simp[Tm.d,Tm.Ab]
@[reducible] def jX.d (x:jX):D:= .agg [.str x.name, .i x.args]
@[reducible] def aJ.d (s:aJ):D:= .agg [.sl (s.cons.map jX.d), .sl (s.cA.map jX.d)]
@[reducible] def TB.d (b:TB):D:= .agg [.i b.var, .i b.term.op, .i b.term.n, .sl (b.term.kids.map Tm.d)]
mutual
def Tm.fits:Tm->Prop
 | .mk _ _ kids=>kids.length<=9223372036854775807/\Tm.x7 kids
def Tm.x7:List Tm->Prop
 |[]=>True
 |t::l=>t.fits/\Tm.x7 l
end
theorem Tm.ug:∀l:List Tm,Tm.x7 l↔∀k∈l,k.fits
 |[]=>by simp[Tm.x7]
 |t::l=>by simp[Tm.x7,Tm.ug l]
theorem Tm.bA (t:Tm):t.fits↔t.kids.length<=9223372036854775807/\∀k∈t.kids,k.fits:=by cases t;simp[Tm.fits,Tm.ug,Tm.kids]
mutual
def Tm.mS:Tm->Nat
 | .mk _ _ kids=>1+Tm.jM kids
def Tm.jM:List Tm->Nat
 |[]=>0
 |k::l=>Nat.max k.mS (Tm.jM l)
end
theorem Tm.x8:∀ {l:List Tm} {k:Tm},k∈l->k.mS<=Tm.jM l
 |x::l,k,h=>by
  simp only[Tm.jM]
  rcases List.mem_cons.1 h with rfl|h
  ·exact Nat.le_max_left _ _
  ·exact Nat.le_trans (Tm.x8 h) (Nat.le_max_right _ _)
theorem Tm.BF {t k:Tm}(h:k∈t.kids):k.mS+1<=t.mS:=by
 cases t;simp only[Tm.kids]at h;simp only[Tm.mS];have:=Tm.x8 h;omega
mutual
def pre:Tm->Int->List (Tm×Int)
 | .mk op n kids,d=>(.mk op n kids,d)::H3 kids (d+1)
def H3:List Tm->Int->List (Tm×Int)
 |[],_=>[]
 |k::l,d=>pre k d++H3 l d
end
theorem C7(l:List Tm)(d:Int):H3 l d=l.flatMap fun k=>pre k d:=by
 induction l with
 |nil=>rfl
 |cons k l ih=>simp[H3,ih]
theorem kP(t:Tm)(d:Int):pre t d=(t,d)::t.kids.flatMap fun k=>pre k (d+1):=by cases t;simp[pre,C7,Tm.kids]
def c6(n low high:Int):Bool:=decide (low<=n)&&decide (n<=high)
def letterF(b:UInt8):Bool:= !((decide ((b.toNat:Int)<97)||decide (122<(b.toNat:Int)))&&(decide ((b.toNat:Int)<65)||decide (90<(b.toNat:Int))))
def hY(s:List UInt8):Bool:=s.all letterF&&c6 s.length 1 8
def bN:List jX->List (List UInt8)->Option (List (List UInt8))
 |[],before=>some before
 |x::l,before=>if before.any (· ==x.name)then none else if(!hY x.name|| !c6 x.args 0 4)=true then none else bN l (before++[x.name])
def fB:List UInt8:=[70,97,108,115,101]
def tB:List UInt8:=[84,114,117,101]
def j8(x:jX)(s:List UInt8):Bool:=x.name==s&&x.args==0
def kQ(s:aJ):Bool:=
 if(!c6 s.cons.length 2 12||decide (8<(s.cA.length:Int)))=true then false else
 match s.cons with
 |a::b::_=>if(!j8 a fB|| !j8 b tB)=true then false else
  match bN s.cons []with
  |none=>false
  |some l=>(bN s.cA l).isSome
 |_=>false
mutual
def fR:Tm->Int->Int->Int
 | .mk _ _ kids,left,depth=>if left<1\/depth<1 then -1 else bO kids (left - 1) (depth - 1)
def bO:List Tm->Int->Int->Int
 |[],left,_=>left
 |k::l,left,depth=>if 0<=left then bO l (fR k left depth) depth else left
end
def fw(l:List jX)(n:Int):Int:=match l[n.toNat]? with|some x=>x.args|none=>0
def aX(s:aJ)(t:Tm):Bool:=
 let k:Int:=t.kids.length
 if t.op=1 then k==0&&c6 t.n 0 19
 else if t.op=2 then k==0&&c6 t.n (-1000000) 1000000
 else if t.op=3 then c6 t.n 0 (s.cons.length - 1)&&k==fw s.cons t.n
 else if t.op=4 then c6 t.n 0 (s.cA.length - 1)&&k==fw s.cA t.n
 else if t.op=5 then c6 t.n 0 (s.cA.length - 1)&&decide (k<fw s.cA t.n)
 else if t.op=8 then k==2&&c6 t.n 0 19
 else if(c6 t.op 6 15)=true then k==2&&t.n==0
 else false
mutual
def fA(s:aJ):Tm->Bool
 | .mk op n kids=>aX s (.mk op n kids)&&qv s kids
def qv(s:aJ):List Tm->Bool
 |[]=>true
 |k::l=>fA s k&&qv s l
end
def hZ(s:aJ)(t:Tm):Bool:=decide (0<=fR t 40 12)&&fA s t
mutual
def ey:Tm->Bool
 | .mk op _ kids=>qw kids&&((decide (1<=op)&&decide (op<=3))||op==5)
def qw:List Tm->Bool
 |[]=>true
 |k::l=>ey k&&qw l
end
mutual
def ig:Tm->Tm->Bool
 | .mk op n kids, .mk op' n' Km=>op==op'&&n==n'&&kids.length==Km.length&&fC kids Km
def fC:List Tm->List Tm->Bool
 |[],_=>true
 |k::l,k'::l'=>ig k k'&&fC l l'
 |_::_,[]=>true
end
def fD(t:Tm):Bool:=decide (0<=fR t 50 14)
def ei(l:List jX):Bool:=l.all fun x=>decide ((x.name.length:Int)<=30)
def gJ(s:aJ):Bool:= !(decide (16<(s.cons.length:Int))||decide (12<(s.cA.length:Int)))&&ei s.cons&&ei s.cA
section
def ja(id:Nat)(K X:V->(Nat->aa)->Nat->Prop)(e:eM)(s:S):Prop:=
 match e with
 | .normal=>∃nf m en p c d st pd,s.o id= .loop nf m en p c d st pd/\K (.d (.bool true)) (aM s.o id (.loop nf m en p c d .ready none)) s.nx
 | .ret=>∃nf m en p c d st pd,s.o id= .loop nf m en p c d st pd/\K (.d (.bool false)) (aM s.o id (.loop nf m en p c d .done (some .ret))) s.nx
 | .exit j=>∃nf m en p c d st pd,s.o id= .loop nf m en p c d st pd/\K (.d (.bool false)) (aM s.o id (.loop nf m en p c d .done (some (.exit j)))) s.nx
 | .bf v=>X v s.o s.nx
def M0(P:Program)(n b id:Nat)(eL:IC)(K X:V->(Nat->aa)->Nat->Prop)(e:eM)(s:S):Prop:=
 match e with
 | .normal=>∃nf m en p c d pd,s.o id= .loop nf m en p c d .ready pd/\qu P n b true eL (ja id K X) ⟨s.env,aM s.o id (.loop nf m en p c d .busy pd),s.nx⟩
 | .bf v=>X v s.o s.nx
 |_=>False
section
variable {P:Program}{M:Nat->Prop}{φ bV:Place}{H0:Hp}{w w0:World}{n:Nat}{s:S}{a:Act}{cx:Cx}
theorem x9{id:Nat}{x:aa}{s:S}(bQ:id<s.nx)(j:Nat)(hu:(s.H.put [(id,x)]).us j):j<s.nx:=by
 simp only[df]at hu
 rcases hu with hu|hu
 ·exact hu
 ·subst hu;exact bQ
theorem rG{B:Nat->Prop}{H:Hp}{n:Nat}:∀ (ps:List Nat) (vs:List V) (us:List Value) (env:Nat->V) (tmps:Array Value),tmps.size=n->ps.length=vs.length->V.az B φ H w vs us->ps.all (fun t=>decide (t<n))=true->(∀i,V.den B φ H w (env i) (tmps.getD i undef))->
 ((ps.zip us).foldl (fun tmps p=>tmps.setIfInBounds p.1 p.2) tmps).size=n/\∀i,V.den B φ H w (nH env ps vs i) (((ps.zip us).foldl (fun tmps p=>tmps.setIfInBounds p.1 p.2) tmps).getD i undef)
 |[],[],us,env,tmps,dn,_,hd,_,he=>by simp only[V.az]at hd;subst hd;exact⟨dn,he⟩
 |[],v::vs,us,env,tmps,_,h,_,_,_=>by simp at h
 |t::ps,[],us,env,tmps,_,h,_,_,_=>by simp at h
 |t::ps,v::vs,us,env,tmps,dn,hl,hd,hp,he=>by
  obtain⟨u,us,rfl,h1,h2⟩:=hd
  simp only[List.all_cons,Bool.and_eq_true,decide_eq_true_eq]at hp
  simp only[List.zip_cons_cons,List.foldl_cons,nH]
  refine rG ps vs us (aM env t v) (tmps.setIfInBounds t u) (by simp[dn]) (by simpa using hl) h2 hp.2 (fun i=> ?_)
  simp only[aC]
  by_cases hi:i=t
  ·subst hi
   have:(tmps.setIfInBounds i u).getD i undef=u:=by simp[Array.getD,dn,hp.1]
   rw[if_pos rfl,this];exact h1
  ·have:(tmps.setIfInBounds t u).getD i undef=tmps.getD i undef:=by
    exact LU
   rw[if_neg hi,this];exact he i
theorem cV.rB (aU:P.follows .mixedOrders=true){id:Nat}{args:List V}{o:Nat->aa}{nx:Nat}{K X:V->(Nat->aa)->Nat->Prop}{env:List V}{ps:List Nat}{iR eL:IC}{st:LoopState}{pd:Option iu}
 (ho:o id= .loop P.funcs.size n env ps iR eL st pd) (bQ:id<nx) (Fm:ps.all (fun t=>decide (t<n))=true) (hl:args.length=ps.length)
 (h:qu P n nx true iR (M0 P n nx id eL K X) ⟨nH (bc env) ps args,o,nx⟩):cV P id args o nx K X:=by
 refine⟨by rw[ho];rfl,fun M φ w vals b hH hd dT=> ?_⟩
 have aP:=hH.ok id
 simp only[aF,hp,ho]at aP
 obtain⟨b',r,h1,h2,h0,h3,h4,h5,h6,h7,h8,h9⟩:=aP
 rw[dT]at h1;simp at h1;subst h1
 have hlen:=V.au _ _ hd
 have dn:vals.size=r.params.size:=by
  have:r.params.toList.length=ps.length:=by rw[h5]
  simp at hlen this;omega
 let tm:Array Value:=(ps.zip vals.toList).foldl (fun tmps p=>tmps.setIfInBounds p.1 p.2) r.tmps
 have S5:(r.params.zip vals).foldl (fun tmps (p:Tmp×Value)=>tmps.setIfInBounds p.1 p.2) r.tmps=tm:=by
  rw[<- Array.foldl_toList,Array.toList_zip,h5]
 obtain⟨p1,p2⟩:=rG (B:=ai M φ (hp o nx)) (H:=hp o nx) (φ:=φ) (w:=w) ps args vals.toList (bc env) r.tmps h6 hl.symm hd Fm h9
 refine⟨r.fn,tm,r.assign,r.body, ?_,fun k=> ?_⟩
 ·simp only[Instr.yield,Sem.run_bind,iK h2,Result.andThen_ok,dn,ne_eq,not_true_eq_false,if_false,Sem.run_pure]
  rw[<- S5]
 ·
   let s0:S:=⟨nH (bc env) ps args,o,nx⟩
   let a0:Act:={tmps:=tm,defers:=[]}
   have my:bE M φ (hp o nx) w n ⟨[],true⟩ φ s0 a0 w:=⟨hH,Trans.refl _ _ _,p1,⟨[],rfl,List.nodup_nil,fun _=>rfl,fun r hr=>by cases hr⟩,p2⟩
   have rH:∀ {aA s' a' w'},bE M φ (hp o nx) w n ⟨[],true⟩ aA s' a' w'->a'.defers=[]:=by
    intro aA s' a' w' hs
    obtain⟨ms,g1,_,g3,_⟩:=hs.defers
    rw[g3 rfl]at g1;exact g1
   have S6:∀ {aA s' a' w'} {nf m:Nat} {en:List V} {p:List Nat} {c d:IC} {st:LoopState} {pd:Option iu} (st':LoopState) (pd':Option iu),bE M φ (hp o nx) w n ⟨[],true⟩ aA s' a' w'->s'.o id= .loop nf m en p c d st pd->
    ∃r',w'.heap[b]? =some (.loop r')/\r'.state=st/\r'.pending=pd.map iu.code/\
     bE M φ (hp o nx) w n ⟨[],true⟩ aA ⟨s'.env,aM s'.o id (.loop nf m en p c d st' pd'),s'.nx⟩ a' {w' with heap:=w'.heap.setIfInBounds b (.loop {r' with state:=st',pending:=pd'.map iu.code})}:=by
    intro aA s' a' w' nf m en p c d st pd st' pd' hs mR
    have Mh:aA id= .pointer (some ⟨b,0,none⟩):=by
     have:=(hs.tr.rel.row id bQ (by show(s'.o id).bI=true;rw[mR];rfl)).2
     rw[this];exact dT
    have S7:id<s'.nx:=hs.tr.rel.us id bQ
    obtain⟨r',r1,r2,r3,r4,r5⟩:=tR (st':=st') (pd':=pd') hs.heap S7 (show s'.H.o id=_ from mR) Mh
    exact⟨r',r1,r2,r3,dE hs r4 r5 rfl (x9 S7)⟩
   have ha:=ft (P:=P) (n:=n) (b:=nx) (rd:=true) aU r.assign _ _ s0 (fun _ _ h=>h) (by rw[h7];exact h)
   refine rj h0 (eV (fi (P:=P) (H0:=hp o nx) (b:=nx) (cx:=⟨[],true⟩) (ro:=some b) (fun id hu=>hu) (fun h=>by cases h) r.assign _ s0 φ a0 w ha my) ?_)
   rintro e a1 w1 ⟨x,s1,fW,hq,rh,hm⟩
   cases e<;>cases x<;>first|(exact hm.elim)|skip
   ·
     obtain⟨nf,m,en,p,c,d,Yc,q1,q2⟩:=hq
     obtain⟨r',r1,r2,r3,DW⟩:=S6 .busy Yc rh q1
     have M3:(Instr.beginRound b).run P w1= .ok () {w1 with heap:=w1.heap.setIfInBounds b (.loop {r' with state:= .busy,pending:=Yc.map iu.code})}:=by
      have e1:({r' with state:= .busy}:Loop)={r' with state:= .busy,pending:=Yc.map iu.code}:=by rw[<- r3]
      simp only[Instr.beginRound,Sem.run_bind,iK r1,Result.andThen_ok,fZ _ r1,r2,Sem.run_pure,e1]
     refine⟨_,M3, ?_⟩
     have a7:=DW.heap.ok id
     simp only[aF,S.H,aC,if_true]at a7
     obtain⟨b2,r2',_,_,_,_,_,_,_,_,_,_⟩:=a7
     have hb:=ft (P:=P) (n:=n) (b:=nx) (rd:=true) aU r.body _ _ _ (fun _ _ h=>h) (by rw[h8];exact q2)
     refine eV (fi (P:=P) (H0:=hp o nx) (b:=nx) (cx:=⟨[],true⟩) (ro:=some b) (fun id hu=>hu) (fun h=>by cases h) r.body _ _ fW a1 _ hb DW) ?_
     rintro e a2 w2 ⟨x,s2,CP,Pf,Bq,JF⟩
     have fin:∀ {nf m:Nat} {en:List V} {p:List Nat} {c d:IC} {st:LoopState} {pd:Option iu} (jump:Option iu) (t:Bool) (st':LoopState),t=jump.isNone->st'=(if jump.isNone then .ready else .done)->s2.o id= .loop nf m en p c d st pd->K (.d (.bool t)) (aM s2.o id (.loop nf m en p c d st' jump)) s2.nx->
      ∃v w',(Instr.endRound b (jump.map iu.code)).run P w2= .ok v w'/\kB M φ (hp o nx) w K X (.returned v) w':=by
      intro nf m en p c d st pd jump t st' ht j5 S8 hK
      obtain⟨r3',g1,g2,g3,Pg⟩:=S6 st' jump Bq S8
      refine⟨.bool t,_, ?_,CP,_,_,_,Pg.heap,Pg.tr,by simp only[V.den,D.den],hK⟩
      subst ht;subst j5
      simp only[Instr.endRound,Sem.run_bind,iK g1,Result.andThen_ok,fZ _ g1,Sem.run_pure,Option.isNone_map]
     cases e<;>cases x<;>first|(exact JF.elim)|skip
     ·obtain⟨nf,m,en,p,c,d,st,pd,k1,k2⟩:=Pf
      exact fin none true .ready rfl rfl k1 k2
     ·rename_i j
      subst JF
      obtain⟨nf,m,en,p,c,d,st,pd,k1,k2⟩:=Pf
      exact fin (some (.exit _)) false .done rfl rfl k1 k2
     ·obtain⟨nf,m,en,p,c,d,st,pd,k1,k2⟩:=Pf
      exact fin (some .ret) false .done rfl rfl k1 k2
     ·obtain⟨val,rfl,k2⟩:=JF
      exact⟨rH Bq,CP,_,_,_,Bq.heap,Bq.tr,val,rfl,k2,Pf⟩
   ·exact hq.elim
   ·exact hq.elim
   ·obtain⟨val,rfl,k2⟩:=hm
    exact⟨rH rh,fW,_,_,_,rh.heap,rh.tr,val,rfl,k2,hq⟩
end
end
section
def M4(ops:Array Oper)(t t1:Nat):Prop:=
 (∃o1 o2,ops=#[o1,o2]/\o1.op= .call ⟨.builtin .recover,#[],#[]⟩/\o1.dst=some t/\o1.guard=none/\o2.op= .assign (.tmp t)/\o2.dst=some t1/\o2.guard=none)\/
 (∃o1,ops=#[o1]/\t1=t/\o1.op= .call ⟨.builtin .recover,#[],#[]⟩/\o1.dst=some t/\o1.guard=none)
structure BG (P:Program) (g:FuncId) (n t t1:Nat) (ic:IC):Prop where
 get:∃fn id ops c,P.funcs[g]? =some fn/\(fn.name== "runtime.NumGoroutine")=false/\fn.ntmps=n/\fn.results=#[]/\fn.body=some (.seq (.region id ops false) c)/\
  M4 ops t t1/\t<n/\t1<n/\low n c=ic
structure Fo (P:Program) (f:FuncId) (n:Nat) (iR eL:IC) (g:FuncId) (t:Nat) (cp:List Operand) (rs:List ResultVar):Prop where
 get:∃fn id o1 o2 a b d,P.funcs[f]? =some fn/\(fn.name== "runtime.NumGoroutine")=false/\fn.ntmps=n/\fn.results.toList=rs/\fn.body=some (.seq a d)/\(d= .seq (.region id #[o1,o2] false) b\/d= .scope (.seq (.region id #[o1,o2] false) b))/\
  o1.op= .makeFunc (.func g) #[] cp.toArray/\o1.dst=some t/\o1.guard=none/\o2.op= .defer ⟨.value (.tmp t),#[],#[]⟩/\o2.dst=none/\o2.guard=none/\t<n/\low n a=iR/\low n b=eL
def Yd(K:(Nat->aa)->Nat->Prop)(e:eM)(s:S):Prop:=match e with| .normal| .ret=>K s.o s.nx|_=>False
def C8(P:Program)(n t t1:Nat)(ic:IC)(cp:List V)(u:V)(o:Nat->aa)(nx:Nat)(K:(Nat->aa)->Nat->Prop):Prop:=
 cp.length<=n/\qu P n nx true ic (Yd K) ⟨aM (aM (cc cp) t u) t1 u,o,nx⟩
def Ac(P:Program)(n t t1:Nat)(ic:IC)(cp:List V)(rs:List ResultVar)(K X:V->(Nat->aa)->Nat->Prop)(e:eM)(s:S):Prop:=
 match e with
 | .normal| .ret=>C8 P n t t1 ic cp (.d .e9) s.o s.nx fun o nx=>jI P rs K X .ret ⟨s.env,o,nx⟩
 | .bf v=>C8 P n t t1 ic cp v s.o s.nx fun o nx=>jI P rs K X .ret ⟨s.env,o,nx⟩
 | .exit _=>False
def Fq(P:Program)(n t:Nat)(eL:IC)(gz:List Operand)(g:FuncId)(D:List V->eM->S->Prop)(e:eM)(s:S):Prop:=
 match e with
 | .normal=>qu P n s.nx false eL (D (gz.map s.ev)) ⟨aM s.env t (.func (.func g) [] (gz.map s.ev)),s.o,s.nx⟩
 |_=>False
section
variable {P:Program}{M:Nat->Prop}{φ bV:Place}{H H0:Hp}{w w0:World}{n:Nat}{s:S}{a:Act}{cx:Cx}{k:Nat}
theorem C9(aU:P.follows .mixedOrders=true){g:FuncId}{t t1:Nat}{ic:IC}(hg:BG P g n t t1 ic){cp:List V}{u:V}{o:Nat->aa}{nx:Nat}{K:(Nat->aa)->Nat->Prop}(h:C8 P n t t1 ic cp u o nx K)
 {vals:Array Value} {val:Value} {m:FrameMode} (hH:ao M φ (hp o nx) w) (hd:V.az (ai M φ (hp o nx)) φ (hp o nx) w cp vals.toList) (hv:V.den (ai M φ (hp o nx)) φ (hp o nx) w u val)
 (hm:(m= .returning/\val= .nilIface)\/m= .panicking [{v:=val,recovered:=false}]):
 CallsDIn (cY none) k P g vals m w fun e u' w'=>∃v aA o' nx',e= .returned v/\settle u'= .returning/\ao M aA (hp o' nx') w'/\Trans φ (hp o nx) w aA (hp o' nx') w'/\K o' nx':=by
 obtain⟨fn,id,ops,c,hf,Kn,Wr,xA,nA,Ep,ht,zc,oS⟩:=hg.get
 have bQ:g<P.funcs.size:=(Array.getElem?_eq_some_iff.1 hf).1
 obtain⟨qd,h⟩:=h
 have hlen:=V.au _ _ hd
 refine⟨trivial,fun mF cs Fs JE=> ?_⟩
 let b:Frame:={(default:Frame)with fn:=g,kind:= .deferred,roundOf:=none}
 let qx:Array Value:=vals++Array.replicate (fn.ntmps - vals.size) undef
 have Ye:qx.size=n:=by simp only[qx,Array.size_append,Array.size_replicate];simp at hlen;omega
 have jH:Frame.enter P g vals .deferred=b.atR {tmps:=qx,defers:=[]} [.code (.seq (.region id ops false) c)]:=by
  simp[Frame.enter,Frame.atR,hf,nA,b,qx]
 obtain⟨m',hm',a7⟩:∃m',settle m'= .returning/\((recoverD (mF::cs)=none/\m'=m/\val= .nilIface)\/recoverD (mF::cs)=some (val,{mF with mode:=m'}::cs)):=by
  rcases hm with⟨rfl,rfl⟩|rfl
  ·exact⟨.returning,rfl, .inl ⟨by simp[recoverD,Fs],rfl,rfl⟩⟩
  ·exact⟨.panicking [{v:=val,recovered:=true}],rfl, .inr (by simp[recoverD,Fs])⟩
 have Wc:({mF with mode:=m}:Frame)=mF:=by subst Fs;rfl
 let a1:Act:={tmps:=(qx.setIfInBounds t val).setIfInBounds t1 val,defers:=[]}
 have HL:(Code.region id ops false).wpSIn (cY none) k P (fun e a' cs' w'=>e= .normal/\a'=a1/\cs'={mF with mode:=m'}::cs/\w'=w) {tmps:=qx,defers:=[]} (mF::cs) w:=by
  rcases Ep with⟨o1,o2,rfl,e1,e2,e3,e4,e5,e6⟩|⟨o1,rfl,rfl,e1,e2,e3⟩
  ·refine wpSIn_region ?_
   have hr:List.range (#[o1,o2]:Array Oper).size=[0,1]:=rfl
   have g0:(#[o1,o2]:Array Oper)[0]? =some o1:=rfl
   have g1:(#[o1,o2]:Array Oper)[1]? =some o2:=rfl
   rw[hr]
   have x1:∀ (ρ:Operand->Value) (w:World),(execOp ρ o1).run P w= .ok .recover w:=by
    intro ρ w
    simp[execOp,e1,resolve,invoke,builtin]
   have x2:∀ (ρ:Operand->Value) (w:World),(execOp ρ o2).run P w= .ok (.value (ρ (.tmp t))) w:=by
    intro ρ w
    simp[execOp,e4]
   have last:∀cs',cs'={mF with mode:=m'}::cs->wpOpsSIn (cY none) k P #[o1,o2] (fun e a' cs' w'=>e= .normal/\a'=a1/\cs'={mF with mode:=m'}::cs/\w'=w) [1] (({tmps:=qx,defers:=[]}:Act).put (some t) val) cs' w:=by
    rintro cs' rfl
    have hw:Region.wanted o2 (yielded #[o1,o2] (({tmps:=qx,defers:=[]}:Act).put (some t) val).tmps)=true:=by simp[Region.wanted,e6]
    have cH:(({tmps:=qx,defers:=[]}:Act).put (some t) val).eval (.tmp t)=val:=by
     have:t<qx.size:=af
     simp[Act.put,Act.eval,Array.getD,this]
    simp only[wpOpsSIn,g1,hw,if_true,x2,cH,e5]
    refine⟨fun _ _=>trivial, ?_⟩
    simp[a1,Act.put]
   have hw:Region.wanted o1 (yielded #[o1,o2] qx)=true:=by simp[Region.wanted,e3]
   rw[wpOpsSIn,g0]
   refine⟨fun _ _=>trivial, ?_⟩
   simp only[hw,if_true,x1,e2]
   rcases a7 with⟨hr,rfl,rfl⟩|hr
   ·simp only[hr]
    exact last _ (by rw[Wc])
   ·simp only[hr]
    exact last _ rfl
  ·refine wpSIn_region ?_
   have hr:List.range (#[o1]:Array Oper).size=[0]:=rfl
   have g0:(#[o1]:Array Oper)[0]? =some o1:=rfl
   rw[hr]
   have x1:∀ (ρ:Operand->Value) (w:World),(execOp ρ o1).run P w= .ok .recover w:=by
    intro ρ w
    simp[execOp,e1,resolve,invoke,builtin]
   have same:a1=({tmps:=qx,defers:=[]}:Act).put (some t1) val:=by
    simp only[a1,Act.put]
    congr 1
    apply Array.ext_getElem?
    intro j
    simp only[Array.getElem?_setIfInBounds]
    by_cases hj:t1=j
    ·subst hj;simp
    ·simp[hj]
   have last:∀cs',cs'={mF with mode:=m'}::cs->wpOpsSIn (cY none) k P #[o1] (fun e a' cs' w'=>e= .normal/\a'=a1/\cs'={mF with mode:=m'}::cs/\w'=w) [] (({tmps:=qx,defers:=[]}:Act).put (some t1) val) cs' w:=by
    rintro cs' rfl
    simp only[wpOpsSIn]
    exact⟨trivial,same.symm,trivial,trivial⟩
   have hw:Region.wanted o1 (yielded #[o1] qx)=true:=by simp[Region.wanted,e3]
   rw[wpOpsSIn,g0]
   refine⟨fun _ _=>trivial, ?_⟩
   simp only[hw,if_true,x1,e2]
   rcases a7 with⟨hr,rfl,rfl⟩|hr
   ·simp only[hr]
    exact last _ (by rw[Wc])
   ·simp only[hr]
    exact last _ rfl
 obtain⟨er,ar,csr,wr,hl,⟨rfl,rfl,rfl,Xm⟩,cE⟩:=HL b [.code c] rfl rfl trivial (fun d hd=>by simp[cY]at hd)
 rw[Xm]at cE
 let s0:S:=⟨aM (aM (cc cp) t u) t1 u,o,nx⟩
 have my:bE M φ (hp o nx) w n ⟨[],true⟩ φ s0 a1 w:=by
  refine⟨hH,Trans.refl _ _ _,by simp[a1,Ye],⟨[],rfl,List.nodup_nil,fun _=>rfl,fun r hr=>by cases hr⟩,fun i=> ?_⟩
  have dp:=wQ (m:=fn.ntmps - vals.size) hd i
  simp only[s0,a1,aC]
  have Wf:t<qx.size:=af
  have Yf:t1<qx.size:=af
  by_cases h1:i=t1
  ·subst h1
   simp only[if_true]
   have:((qx.setIfInBounds t val).setIfInBounds i val).getD i undef=val:=by simp[Array.getD,Yf]
   rw[this];exact hv
  ·simp only[h1,if_false]
   have e1:((qx.setIfInBounds t val).setIfInBounds t1 val).getD i undef=(qx.setIfInBounds t val).getD i undef:=by
    exact RP
   rw[e1]
   by_cases h2:i=t
   ·subst h2
    simp only[if_true]
    have:(qx.setIfInBounds i val).getD i undef=val:=by simp[Array.getD,Wf]
    rw[this];exact hv
   ·simp only[h2,if_false]
    have e1:(qx.setIfInBounds t val).getD i undef=qx.getD i undef:=by
     simp only[Array.getD_eq_getD_getElem?]
     rw[Array.getElem?_setIfInBounds_ne (Ne.symm h2)]
    rw[e1];exact dp
 have hcw:=ft (P:=P) (n:=n) (b:=nx) (rd:=true) aU c _ _ s0 (fun _ _ h=>h) (by rw[oS];exact h)
 obtain⟨e,a',w',⟨x,s',aA,hq,iw,hx⟩,Bp⟩:=fi (P:=P) (H0:=hp o nx) (b:=nx) (cx:=⟨[],true⟩) (ro:=none) (fun id hu=>hu) (fun h=>by cases h) c _ s0 φ a1 w hcw my b [] ({mF with mode:=m'}::cs) rfl bQ
 have i0:(lone (b.atR {tmps:=qx,defers:=[]} [.code (.seq (.region id ops false) c)]) (mF::cs) w).fenced P (cY none):=fenced_calm (n:=0) trivial eU rfl
 have Ko:StepsIn (Machine.fenced P (cY none)) P (lone (b.atR {tmps:=qx,defers:=[]} [.code (.seq (.region id ops false) c)]) (mF::cs) w) (lone (b.atR a1 [.code c]) ({mF with mode:=m'}::cs) w):= .head i0 stepR_seq cE
 have rH:a'.defers=[]:=by
  obtain⟨ms,g1,_,g3,_⟩:=iw.defers
  rw[g3 rfl]at g1;exact g1
 have S9:∀tm:Array Value,∃v,(results fn tm).run P w'= .ok v w':=by
  intro tm
  refine⟨_,kF (vals:=[]) ?_⟩
  rw[xA];rfl
 rw[jH]
 obtain⟨v,mQ⟩:=S9 a'.tmps
 cases e<;>cases x<;>first|(exact hx.elim)|(exact hq.elim)|skip
 ·exact⟨.returned v,m',w',_,⟨v,aA,s'.o,s'.nx,rfl,hm',iw.heap,iw.tr,hq⟩,StepsIn.trans Ko (StepsIn.trans Bp (.one (fenced_calm (n:=0) (fr:=b.atR a' []) trivial eU rfl) (stepR_end rfl))),rfl,rfl,rfl,rH,fn,hf,mQ⟩
 ·obtain⟨todo,hs⟩:=Bp.1 rfl
  exact⟨.returned v,m',w',_,⟨v,aA,s'.o,s'.nx,rfl,hm',iw.heap,iw.tr,hq⟩,StepsIn.trans Ko hs,rfl,rfl,rfl,rH,fn,hf,mQ⟩
theorem ya{d c:Code}{ro:Option Nat}{Q:Exit->Act->World->Prop}{a:Act}{w:World}(h:d=c\/d= .scope c)(hg:∀l a w, ¬Q (.goto l) a w)(hc:c.qf P ro Q a w):d.qf P ro Q a w:=by
 rcases h with rfl|rfl
 ·exact hc
 ·exact tP hc hg
theorem dV.Ft (aU:P.follows .mixedOrders=true){f g:FuncId}{iR eL yc:IC}{t m r r1:Nat}{gz:List Operand}{rs:List ResultVar}(hf:Fo P f n iR eL g t gz rs)(hg:BG P g m r r1 yc)
 {args:List V} {o:Nat->aa} {nx:Nat} {K X:V->(Nat->aa)->Nat->Prop} (hl:args.length<=n)
 (h:qu P n nx true iR (Fq P n t eL gz g fun cp=>Ac P m r r1 yc cp rs K X) ⟨cc args,o,nx⟩):dV P f args o nx K X:=by
 obtain⟨fn,id,o1,o2,ca,cb,cd,DI,Kn,Wr,xA,nA,hsc,e1,e2,e3,e4,e5,e6,ht,hla,Pa⟩:=hf.get
 obtain⟨gn,_,_,gc,M5,M6,_,_,M7,_⟩:=hg.get
 refine⟨⟨fn,DI,Kn,by rw[nA];rfl⟩,fun M φ w vals hH hd=> ?_⟩
 have hlen:=V.au _ _ hd
 let s0:S:=⟨cc args,o,nx⟩
 let a0:Act:={tmps:=vals++Array.replicate (fn.ntmps - vals.size) undef,defers:=[]}
 have my:bE M φ (hp o nx) w n ⟨[],true⟩ φ s0 a0 w:=by
  exact Rz
 have ha:=ft (P:=P) (n:=n) (b:=nx) (rd:=true) aU ca _ _ s0 (fun _ _ h=>h) (by rw[hla];exact h)
 refine xq (ro:=none) (k:=0) (kG DI nA (vg (eV (fi (P:=P) (H0:=hp o nx) (b:=nx) (cx:=⟨[],true⟩) (ro:=none) (fun id hu=>hu) (fun h=>by cases h) ca _ s0 φ a0 w ha my) ?_)))
 rintro e a1 w1 ⟨x,s1,fW,hq,rh,hm⟩
 cases e<;>cases x<;>first|(exact hm.elim)|(exact hq.elim)|skip
 have rH:a1.defers=[]:=by
  obtain⟨ms,g1,_,g3,_⟩:=rh.defers
  rw[g3 rfl]at g1;exact g1
 let cv:Array Value:=(gz.map a1.eval).toArray
 let fv:Value:= .func (.func g) #[] cv
 let dd:Deferred:={target:= .fn (.func g) cv,args:=#[]}
 let a2:Act:={tmps:=a1.tmps.setIfInBounds t fv,defers:=[dd]}
 have Kp:V.az (ai M fW s1.H) fW s1.H w1 (gz.map s1.ev) cv.toList:=by
  simpa[cv]using iE (M:=M) (φ:=fW) (H:=s1.H) (w:=w1) s1 a1 rh.env gz
 refine ya hsc (fun l a w h=> ?_) ?_
 ·exact h.elim
 refine vg (eV (Q:=fun e a w=>e= .normal/\a=a2/\w=w1) (mw (k:=0) (wpIn_region_list ?_)) ?_)
 ·have y1:Region.wanted o1 (yielded #[o1,o2] a1.tmps)=true:=by simp[Region.wanted,e3]
  have y2:∀tm,Region.wanted o2 (yielded #[o1,o2] tm)=true:=by intro tm;simp[Region.wanted,e6]
  have cH:(a1.put (some t) fv).eval (.tmp t)=fv:=by
   have:t<a1.tmps.size:=by rw[rh.size];exact ht
   simp[Act.put,Act.eval,Array.getD,this]
  show wpListIn (cY none) 0 P #[o1,o2] _ [o1,o2] a1 w1
  unfold wpListIn
  rw[if_pos y1]
  have x1:(execOp a1.eval o1).run P w1= .ok (.value fv) w1:=by simp[execOp,e1,fv,cv,Instr.makeFunc]
  refine iI (fun c hc=>by rw[e1]at hc;cases hc) ?_
  rw[x1]
  show wpListIn (cY none) 0 P #[o1,o2] _ [o2] (a1.put o1.dst fv) w1
  rw[e2]
  unfold wpListIn
  rw[if_pos (y2 _)]
  have x2:(execOp (a1.put (some t) fv).eval o2).run P w1= .ok (.defer dd) w1:=by
   simp[execOp,e4,resolve,cH,Deferred.ofValue,fv,dd]
  refine⟨fun _ _=>trivial, ?_⟩
  have:(o2.semAt (cY none).round (a1.put (some t) fv).eval)=execOp (a1.put (some t) fv).eval o2:=rfl
  rw[this,x2]
  unfold Oper.uponIn
  simp only[e5,wpListIn,Act.put,rH,a2,and_self]
 rintro e a w2 ⟨rfl,rfl,rfl⟩
 have zc:t<a1.tmps.size:=by rw[rh.size];exact ht
 let s2:S:=⟨aM s1.env t (.func (.func g) [] (gz.map s1.ev)),s1.o,s1.nx⟩
 have DW:bE M fW s1.H w2 n ⟨[dd],false⟩ fW s2 a2 w2:=by
  refine⟨rh.heap,Trans.refl _ _ _,by simp[a2,rh.size],⟨[],rfl,List.nodup_nil,fun _=>rfl,fun r hr=>by cases hr⟩,fun i=> ?_⟩
  simp only[s2,a2,aC]
  by_cases h1:i=t
  ·subst h1
   have:(a1.tmps.setIfInBounds i fv).getD i undef=fv:=by simp[Array.getD,zc]
   simp only[if_true];rw[this]
   exact⟨#[],cv,rfl,rfl,Kp⟩
  ·have:(a1.tmps.setIfInBounds t fv).getD i undef=a1.tmps.getD i undef:=by
    exact RP
   simp only[h1,if_false];rw[this]
   exact rh.env i
 have hb:=ft (P:=P) (n:=n) (b:=s1.nx) (rd:=false) aU cb _ _ s2 (fun _ _ h=>h) (by rw[Pa];exact hq)
 refine eV (fi (P:=P) (H0:=s1.H) (b:=s1.nx) (cx:=⟨[dd],false⟩) (ro:=none) (fun id hu=>hu) (fun _=>rfl) cb _ s2 fW a2 w2 hb DW) ?_
 rintro e a3 w3 ⟨x,s3,Ta,Ws,Bq,wC⟩
 obtain⟨ms,g1,g2,_,g4⟩:=Bq.defers
 have hinv:(invoke dd.target dd.args).run P=fun w=> .ok (.enter g cv) w:=by
  funext w
  have:=jm (w:=w) ⟨gn,M5,M6,by rw[M7];rfl⟩ cv
  simpa[dd,invoke]using this
 have last:∀ {w4:World} {tm:Array Value} {u:V} {val:Value} {m0:FrameMode},m0≠ .run->vi M fW s1.H w2 Ta s3 a3.tmps w4->V.den (ai M Ta s3.H) Ta s3.H w4 u val->
  ((m0= .returning/\val= .nilIface)\/m0= .panicking [{v:=val,recovered:=false}])->
  (C8 P m r r1 yc (gz.map s1.ev) u s3.o s3.nx fun o nx=>jI P rs K X .ret ⟨s3.env,o,nx⟩)->
  LeavesInM (cY none) 0 P fn a3.tmps (kB M φ (hp o nx) w K X) [dd] m0 w4:=by
  intro w4 tm u val m0 dP hB EC hm0 a7
  have M8:=V.aI hB.tr _ _ Kp
  refine⟨dP, .inr ⟨fun h=>by simp[cY]at h, .func g,cv,g,cv,rfl,by rw[hinv],fun _ _=>trivial,CallsDIn.mono (C9 (k:=0 - 1) aU hg a7 (m:=m0) hB.heap M8 EC hm0) ?_⟩⟩
  rintro e u' w5 ⟨v,Yg,o5,Wt,rfl,Yh,k1,k2,k3⟩
  show LeavesInM (cY none) 0 P fn a3.tmps (kB M φ (hp o nx) w K X) [] (settle u') w5
  rw[Yh]
  obtain⟨vs,h1,h2⟩:=xC k3
  rw[<- xA]at h1
  have Tb:∀i,V.den (ai M Yg (hp o5 Wt)) Yg (hp o5 Wt) w5 (s3.env i) (a3.tmps.getD i undef):=fun i=>V.aG k2 _ _ (hB.env i)
  obtain⟨aaa,h3,h4⟩:=qt (P:=P) (s:=⟨s3.env,o5,Wt⟩) (a:=a3) k1 Tb _ _ h1
  exact⟨_,kF h3,Yg,o5,Wt,_,k1,rh.tr.trans (hB.tr.trans k2),xD h4,h2⟩
 have done:C8 P m r r1 yc (gz.map s1.ev) (.d .e9) s3.o s3.nx (fun o nx=>jI P rs K X .ret ⟨s3.env,o,nx⟩)->LeavesInM (cY none) 0 P fn a3.tmps (kB M φ (hp o nx) w K X) a3.defers .returning w3:=by
  intro a7
  rw[g1]
  exact eW (P:=P) (k:=0) (fn:=fn) (R:=kB M φ (hp o nx) w K X) (u:= .returning) aK (ds:=[dd]) (fun w4 hB=>last (tm:=a3.tmps) aK hB (u:= .d .e9) (val:= .nilIface) (by simp[V.den,D.den]) (.inl ⟨rfl,rfl⟩) a7) ms w3 g2 g4 Bq.Z6
 cases e<;>cases x<;>first|(exact wC.elim)|skip
 ·exact done Ws
 ·exact Ws.elim
 ·exact done Ws
 ·rename_i v
  obtain⟨val,rfl,HG⟩:=wC
  show LeavesInM (cY none) 0 P fn a3.tmps (kB M φ (hp o nx) w K X) a3.defers _ w3
  rw[g1]
  let Tc:Nat->V:=fun i=>match i with|0=>v|i+1=>s3.env i
  have Td:(#[val]++a3.tmps).getD 0 undef=val:=by simp[Array.getD]
  have Te:∀i,(#[val]++a3.tmps).getD (i+1) undef=a3.tmps.getD i undef:=by
   intro i
   simp only[Array.getD_eq_getD_getElem?]
   rw[Array.getElem?_append_right (by simp)]
   simp
  have Sl:vi M fW s1.H w2 Ta ⟨Tc,s3.o,s3.nx⟩ (#[val]++a3.tmps) w3:=⟨Bq.heap,Bq.tr,fun i=>by
   cases i with
   |zero=>rw[Td];exact HG
   |succ i=>rw[Te];exact Bq.env i⟩
  have Tf:∀w4,vi M fW s1.H w2 Ta ⟨Tc,s3.o,s3.nx⟩ (#[val]++a3.tmps) w4->LeavesInM (cY none) 0 P fn a3.tmps (kB M φ (hp o nx) w K X) [dd] (.panicking [{v:=val,recovered:=false}]) w4:=by
   intro w4 hB
   have hv4:=hB.env 0
   rw[Td]at hv4
   refine last (tm:=a3.tmps) aK ⟨hB.heap,hB.tr,fun i=> ?_⟩ hv4 (.inr rfl) Ws
   have hs:=hB.env (i+1)
   rw[Te]at hs
   exact hs
  exact eW (P:=P) (k:=0) (fn:=fn) (R:=kB M φ (hp o nx) w K X) (u:= .panicking [{v:=val,recovered:=false}]) aK (ds:=[dd]) Tf ms w3 g2 g4 Sl
end
end
theorem zS.M9 {P:Program}{g:FuncId}{ds:List D}{o:Nat->aa}{fr:Nat}{ty:TypeId}{sz:Nat}{es:List D}
 (h:dV P g (ds.map .d) (fun _=> .no) 0 (fun v o1 _=>(∃j ep,v= .osl j ep/\o1 j= .arr ep ty sz es)\/(v= .a8/\es=[]/\0<sz)) (fun _ _ _=>False)):
 zS P g (ds.map .d) [] o fr (.osl fr 0) [(fr, .arr 0 ty sz es)]:=by
 refine⟨h.1,fun o' us M φ w vals _ cC hH hd=> ?_⟩
 let bV:Place:=fun _=> .nilFunc
 have vj:∀b, ¬cu bV (hp (fun _=> .no) 0) b:=by rintro b ⟨id,hl,_⟩;simp[hp,aa.live]at hl
 have hM:∀b,ai M φ ⟨o',us⟩ b->b<w.heap.size:=fun b hb=>hb.elim (hH.wA b) fun hl=>(hH.ours b hl).2
 have tC:=(V.bS _ _).1 hd
 refine(h.2 (ai M φ ⟨o',us⟩) bV w vals (lB bV hM) ((V.bS _ _).2 (D.aI (w:=w) (w':=w) (B:=ai M φ ⟨o',us⟩) (fun b _ hB=>⟨rfl,fun h=>h.elim hB (vj b)⟩) _ _ tC))).mono ?_
 rintro e w' ⟨fW,o1,n1,v,k1,k2,k3⟩
 have hk:dy (fun _=>False) w w':=⟨k2.keep.os,k2.keep.tape,k2.keep.output,k2.keep.size,fun k hk _=>k2.keep.block k hk (vj k)⟩
 have uM:(⟨o',us⟩:Hp).put [(fr, .arr 0 ty sz es)]=⟨put o' [(fr, .arr 0 ty sz es)],fun id=>us id\/id=fr⟩:=by
  simp only[Hp.put]
  congr 1
  funext id
  simp
 have fin:∀ (val:Value) (xs:List Value),(∀b,dK val=some b->w.heap.size<=b/\b<w'.heap.size)->0<sz->w'.ownsRow 0 ty sz val es.length xs->
  (dF (ai M (aM φ fr val) ((⟨o',us⟩:Hp).put [(fr, .arr 0 ty sz es)])) w' sz es xs)->
  val.oneCell'=true->
  ∃aA,ao M aA ⟨put o' [(fr, .arr 0 ty sz es)],fun id=>us id\/id=fr⟩ w'/\Trans φ ⟨o',us⟩ w aA ⟨put o' [(fr, .arr 0 ty sz es)],fun id=>us id\/id=fr⟩ w'/\
   ∃Fu,Ending.returned val= .returned Fu/\V.den (ai M aA ⟨put o' [(fr, .arr 0 ty sz es)],fun id=>us id\/id=fr⟩) aA ⟨put o' [(fr, .arr 0 ty sz es)],fun id=>us id\/id=fr⟩ w' (.osl fr 0) Fu:=by
  intro val xs gU dn dg cn Yi
  have nz:=fM hH hk cC (.arr 0 ty sz es) val gU (by
   unfold aF
   rw[show((⟨o',us⟩:Hp).put [(fr, .arr 0 ty sz es)]).o fr= .arr 0 ty sz es by simp]
   refine⟨dn,xs, ?_,cn⟩
   rw[show aM φ fr val fr=val by simp]
   exact dg)
  have Tg:=cT (φ:=φ) (H:=⟨o',us⟩) hk cC (.arr 0 ty sz es) val (fun b hb=>(gU b hb).1)
  rw[uM]at nz Tg
  refine⟨aM φ fr val,nz,Tg,val,rfl,Yi, .inr rfl,fun e he=> ?_⟩
  have mO:0=e:=by
   have:(put o' [(fr,aa.arr 0 ty sz es)] fr).bL=some 0:=by simp[put,aa.bL]
   exact Rp
  exact⟨af,fun _=>aK⟩
 cases e with
 |outgrown=>exact k3.elim
 |panicked ch=>obtain⟨_,_,_,h⟩:=k3;exact h.elim
 |returned val=>
  obtain⟨g1,⟨j,ep,rfl,hj⟩|⟨rfl,rfl,dn⟩⟩:=k3
  ·obtain⟨v0,v1,v2⟩:=g1
   have eI:val=fW j:=(v2 ep (by show(o1 j).bL=some ep;rw[hj];rfl)).2 rfl
   have cw:∀b,dK val=some b->cu fW (hp o1 n1) b:=fun b hb=>⟨j,by show(o1 j).live=true;rw[hj];rfl,by rw[<- eI];exact hb⟩
   have gU:∀b,dK val=some b->w.heap.size<=b/\b<w'.heap.size:=fun b hb=>⟨(k2.grow b (cw b hb)).resolve_left (vj b),(k1.ours b (cw b hb)).2⟩
   have Na:=k1.ok j
   unfold aF at Na
   rw[show(hp o1 n1).o j= .arr ep ty sz es from hj]at Na
   obtain⟨dn,xs,dg,cn⟩:=Na
   have hBs:∀b,ai M (aM φ fr val) ((⟨o',us⟩:Hp).put [(fr, .arr 0 ty sz es)]) b->ai (ai M φ ⟨o',us⟩) fW (hp o1 n1) b:=by
    rintro b (hb|⟨id,hl,hb⟩)
    ·exact .inl (.inl hb)
    ·by_cases e:id=fr
     ·subst e
      simp at hb
      exact .inr (cw b hb)
     ·simp[e]at hl hb
      exact .inl (.inr ⟨id,hl,hb⟩)
   exact fin val xs gU dn (by rw[eI];exact dg) (cn.mono (w:=w') (w':=w') (fun b _ hB=>⟨rfl,fun h=>hB (hBs b h)⟩)) v0
  ·have g1:val= .slice none 0 0:=g1
   subst g1
   exact QP
theorem zS.H4 {P:Program}{g:FuncId}{args:List V}{ds:List D}{o:Nat->aa}{fr:Nat}{ty:TypeId}{sz:Nat}{es:List D}
 (dM:bD o args=some ds) (mP:D.gX es=true) (h:dV P g (ds.map .d) (fun _=> .no) 0 (fun v o1 _=>(∃j ep,v= .osl j ep/\o1 j= .arr ep ty sz es)\/(v= .a8/\es=[]/\0<sz)) (fun _ _ _=>False)):
 zS P g args (V.aV args) o fr (.osl fr 0) [(fr, .arr 0 ty sz es)]:=by
 refine⟨h.1,fun o' us M φ w vals hag cC hH hd=> ?_⟩
 obtain⟨f1,f2,f3,f4,f5⟩:=cI hH (V.aV args) (fun id aq=>(hag id aq).2)
 generalize hHF:(⟨o',us⟩:Hp).put (cq (⟨o',us⟩:Hp).o (V.aV args))=HF at f1 f2 f3
 let bV:Place:=fun _=> .nilFunc
 have vj:∀b, ¬cu bV (hp (fun _=> .no) 0) b:=by rintro b ⟨id,hl,_⟩;simp[hp,aa.live]at hl
 have hM:∀b,ai M φ HF b->b<w.heap.size:=fun b hb=>hb.elim (f1.wA b) fun hl=>(f1.ours b hl).2
 have tC:D.az (ai M φ HF) w ds vals.toList:=cK f1 args ds _ (fun id aq=>by rw[f3 id aq];show(o' id).fz=(o id).fz;rw[(hag id aq).1]) dM (V.aI f2 _ _ hd)
 refine(h.2 (ai M φ HF) bV w vals (lB bV hM) ((V.bS _ _).2 (D.aI (w:=w) (w':=w) (B:=ai M φ HF) (fun b _ hB=>⟨rfl,fun h=>h.elim hB (vj b)⟩) _ _ tC))).mono ?_
 rintro e w' ⟨fW,o1,n1,v,k1,k2,k3⟩
 have hk:dy (fun _=>False) w w':=⟨k2.keep.os,k2.keep.tape,k2.keep.output,k2.keep.size,fun k hk _=>k2.keep.block k hk (vj k)⟩
 have uM:(⟨o',us⟩:Hp).put [(fr, .arr 0 ty sz es)]=⟨put o' [(fr, .arr 0 ty sz es)],fun id=>us id\/id=fr⟩:=by
  simp only[Hp.put]
  congr 1
  funext id
  simp
 have fin:∀ (val:Value) (xs:List Value),(∀b,dK val=some b->w.heap.size<=b/\b<w'.heap.size)->0<sz->w'.ownsRow 0 ty sz val es.length xs->
  (dF (ai M (aM φ fr val) ((⟨o',us⟩:Hp).put [(fr, .arr 0 ty sz es)])) w' sz es xs)->
  val.oneCell'=true->
  ∃aA,ao M aA ⟨put o' [(fr, .arr 0 ty sz es)],fun id=>us id\/id=fr⟩ w'/\Trans φ ⟨o',us⟩ w aA ⟨put o' [(fr, .arr 0 ty sz es)],fun id=>us id\/id=fr⟩ w'/\
   ∃Fu,Ending.returned val= .returned Fu/\V.den (ai M aA ⟨put o' [(fr, .arr 0 ty sz es)],fun id=>us id\/id=fr⟩) aA ⟨put o' [(fr, .arr 0 ty sz es)],fun id=>us id\/id=fr⟩ w' (.osl fr 0) Fu:=by
  intro val xs gU dn dg cn Yi
  have nz:=fM hH hk cC (.arr 0 ty sz es) val gU (by
   unfold aF
   rw[show((⟨o',us⟩:Hp).put [(fr, .arr 0 ty sz es)]).o fr= .arr 0 ty sz es by simp]
   refine⟨dn,xs, ?_,cn⟩
   rw[show aM φ fr val fr=val by simp]
   exact dg)
  have Tg:=cT (φ:=φ) (H:=⟨o',us⟩) hk cC (.arr 0 ty sz es) val (fun b hb=>(gU b hb).1)
  rw[uM]at nz Tg
  refine⟨aM φ fr val,nz,Tg,val,rfl,Yi, .inr rfl,fun e he=> ?_⟩
  have mO:0=e:=by
   have:(put o' [(fr,aa.arr 0 ty sz es)] fr).bL=some 0:=by simp[put,aa.bL]
   exact Rp
  exact⟨af,fun _=>aK⟩
 cases e with
 |outgrown=>exact k3.elim
 |panicked ch=>obtain⟨_,_,_,h⟩:=k3;exact h.elim
 |returned val=>
  obtain⟨g1,⟨j,ep,rfl,hj⟩|⟨rfl,rfl,dn⟩⟩:=k3
  ·obtain⟨v0,v1,v2⟩:=g1
   have eI:val=fW j:=(v2 ep (by show(o1 j).bL=some ep;rw[hj];rfl)).2 rfl
   have cw:∀b,dK val=some b->cu fW (hp o1 n1) b:=fun b hb=>⟨j,by show(o1 j).live=true;rw[hj];rfl,by rw[<- eI];exact hb⟩
   have gU:∀b,dK val=some b->w.heap.size<=b/\b<w'.heap.size:=fun b hb=>⟨(k2.grow b (cw b hb)).resolve_left (vj b),(k1.ours b (cw b hb)).2⟩
   have Na:=k1.ok j
   unfold aF at Na
   rw[show(hp o1 n1).o j= .arr ep ty sz es from hj]at Na
   obtain⟨dn,xs,dg,cn⟩:=Na
   obtain⟨evs,e1,e2,e3⟩:=cn
   exact fin val xs gU dn (by rw[eI];exact dg) ⟨evs,e1,e2,D.jE _ _ mP e3⟩ v0
  ·have g1:val= .slice none 0 0:=g1
   subst g1
   exact QP
theorem zS.H5 {P:Program}{g:FuncId}{args:List V}{ds:List D}{o0 o:Nat->aa}{rd:List Nat}{fr:Nat}{v:V}{Δ:List (Nat×aa)}(aq:V.aV args=[])(dM:bD o0 args=some ds)
 (h:zS P g (ds.map .d) rd o fr v Δ):zS P g args rd o fr v Δ:=
 ⟨h.1,fun o' us M φ w vals h1 h2 hH hd=>h.2 o' us M φ w vals h1 h2 hH ((V.bS _ _).2 (cK hH args ds _ (by rw[aq];intro id h;cases h) dM hd))⟩
def BH(P:Program)(f:FuncId):Prop:=
 Enters P f/\∀ (w:World) (b:Nat) (es:Array MapEntry) (clock:Nat),w.heap[b]? =some (.map es clock)->
  Calls P f #[.map (some b)] w fun e w'=>e= .returned (.map (some w.heap.size))/\w'=w.alloc (.map es clock)
theorem dV.Nb {P:Program}{f:FuncId}(h:BH P f){o:Nat->aa}{nx id:Nat}{kt vt:TypeId}{l:List (D×D)}(ho:o id= .map kt vt l){K X:V->(Nat->aa)->Nat->Prop}
 (hK:K (.mp nx) (aM o nx (.map kt vt l)) (nx+1)):dV P f [.mp id] o nx K X:=by
 refine⟨h.1,fun M φ w vals hH hd=> ?_⟩
 have hlen:=V.au _ _ hd
 obtain⟨v,rfl⟩:∃v,vals=#[v]:=by
  match vals,hlen with
  |⟨[v]⟩,_=>exact⟨v,rfl⟩
 obtain⟨v',mQ,EC⟩:=V.cF _ _ 0 (.mp id) hd rfl
 simp only[List.getElem?_cons_zero,Option.some.injEq]at mQ
 subst mQ
 have aP:=hH.ok id
 have th:(hp o nx).o id= .map kt vt l:=ho
 simp only[aF,th]at aP
 obtain⟨b,es,clock,e1,e2,e3,e4⟩:=aP
 have hv:v=φ id:=EC.2.2 (by rw[th];rfl)
 rw[hv,e1]
 refine(h.2 w b es clock e2).mono fun e w' ⟨he,hw⟩=> ?_
 subst he;subst hw
 have cC: ¬ (hp o nx).us nx:=fun h=>Nat.lt_irrefl _ h
 have uM:(hp o nx).put [(nx, .map kt vt l)]=hp (aM o nx (.map kt vt l)) (nx+1):=by
  simp only[Hp.put,hp]
  congr 1
  funext j
  simp only[List.map_cons,List.map_nil,List.mem_singleton,eq_iff_iff]
  omega
 have V7:∀c,dK (.map (some w.heap.size))=some c->w.heap.size<=c/\c<(w.alloc (.map es clock)).heap.size:=by
  intro c hc;simp[dK]at hc;subst hc;simp
 have ht:=cT (φ:=φ) (H:=hp o nx) (bH w (.map es clock)) cC (.map kt vt l) (.map (some w.heap.size)) fun c hc=>(V7 c hc).1
 refine⟨aM φ nx (.map (some w.heap.size)),aM o nx (.map kt vt l),nx+1, .mp nx, ?_, ?_, ?_,hK⟩
 ·exact Rx
 ·rw[<- uM];exact ht
 ·rw[<- uM];exact⟨rfl,aK,fun _=>aK⟩
theorem dV.H6 {P:Program}{f:FuncId}(h:BH P f){o:Nat->aa}{nx id:Nat}{kt vt:TypeId}{l:List (D×D)}(ho:o id= .cO l){K X:V->(Nat->aa)->Nat->Prop}
 (hK:K (.mp nx) (aM o nx (.map kt vt l)) (nx+1)):dV P f [.mp id] o nx K X:=by
 refine⟨h.1,fun M φ w vals hH hd=> ?_⟩
 have hlen:=V.au _ _ hd
 obtain⟨v,rfl⟩:∃v,vals=#[v]:=by
  match vals,hlen with
  |⟨[v]⟩,_=>exact⟨v,rfl⟩
 obtain⟨v',mQ,EC⟩:=V.cF _ _ 0 (.mp id) hd rfl
 simp only[List.getElem?_cons_zero,Option.some.injEq]at mQ
 subst mQ
 have aP:=hH.ok id
 have th:(hp o nx).o id= .cO l:=ho
 simp only[aF,th]at aP
 obtain⟨b,es,clock,e1,e2,_,e3,e4⟩:=aP
 have hv:v=φ id:=EC.2.2 (by rw[th];rfl)
 rw[hv,e1]
 refine(h.2 w b es clock e2).mono fun e w' ⟨he,hw⟩=> ?_
 subst he;subst hw
 have cC: ¬ (hp o nx).us nx:=fun h=>Nat.lt_irrefl _ h
 have uM:(hp o nx).put [(nx, .map kt vt l)]=hp (aM o nx (.map kt vt l)) (nx+1):=by
  simp only[Hp.put,hp]
  congr 1
  funext j
  simp only[List.map_cons,List.map_nil,List.mem_singleton,eq_iff_iff]
  omega
 have V7:∀c,dK (.map (some w.heap.size))=some c->w.heap.size<=c/\c<(w.alloc (.map es clock)).heap.size:=by
  intro c hc;simp[dK]at hc;subst hc;simp
 have ht:=cT (φ:=φ) (H:=hp o nx) (bH w (.map es clock)) cC (.map kt vt l) (.map (some w.heap.size)) fun c hc=>(V7 c hc).1
 refine⟨aM φ nx (.map (some w.heap.size)),aM o nx (.map kt vt l),nx+1, .mp nx, ?_, ?_, ?_,hK⟩
 ·exact Rx
 ·rw[<- uM];exact ht
 ·rw[<- uM];exact⟨rfl,aK,fun _=>aK⟩
end Go.Proofs.YtlhemmpklhhgoaaGreat
