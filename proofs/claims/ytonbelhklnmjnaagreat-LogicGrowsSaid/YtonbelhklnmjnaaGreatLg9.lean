/-
  A PART OF THE PROOF. Conditions: none.
-/
import Derived.Test.YtonbelhklnmjnaaGreatLg8
set_option linter.unusedSimpArgs false
set_option linter.unusedVariables false
namespace Go.Proofs.YtonbelhklnmjnaaGreat
@[go_sem] theorem nU (v:V) (l:List V):bA (v::l) 0=v:=rfl
@[go_sem] theorem nV (v:V) (l:List V) (i:Nat):bA (v::l) (i+1)=bA l i:=rfl
@[go_sem] theorem qp (i:Nat):bA [] i= .aa:=by simp[bA]
@[go_sem] theorem Qa (k:Nat):(0<=(k:Int))=True:=aj
attribute [go_sem] List.getElem?_map List.length_map Int.toNat_natCast
attribute [go_sem] e8 List.flatMap_cons List.flatMap_nil
attribute [go_sem] isConst rn MX rk rm A2 rj pN Dq MY w8 GD oM oN w7 uk um pO
attribute [go_sem] pC V.refs V.aN
attribute [go_sem] List.all_nil List.all_cons Option.some.injEq D.int.injEq D.bool.injEq Nat.zero_add Nat.add_zero
theorem wrap64{n:Int}(h1: -9223372036854775808<=n)(h2:n<=9223372036854775807):IntKind.i64.wrap n=n:=by
 unfold IntKind.wrap
 have e1:((2:Int)^IntKind.i64.bits)=18446744073709551616:=aV
 have e2:((2:Int)^(IntKind.i64.bits - 1))=9223372036854775808:=aV
 have e3:IntKind.i64.signed=true:=rfl
 simp only[e1,e2,e3,Bool.true_and,decide_eq_true_eq]
 split<;>omega
structure Good (o:Nat->ab) (nx:Nat):Prop where
 fresh:∀id,nx<=id->o id= .no
 refs:∀id,∀r∈(o id).refs,r<nx
theorem Good.nil {nx:Nat}:Good (fun _=> .no) nx:=⟨fun _ _=>rfl,fun id r h=>by cases h⟩
theorem Good.aL {o:Nat->ab}{nx i:Nat}{x:ab}(h:Good o nx)(hi:i<nx)(hx:x.refs.all (fun r=>decide (r<nx))=true):Good (aL o i x) nx:=by
 refine⟨fun id aB=> ?_,fun id r hr=> ?_⟩
 ·rw[ai _ _ _ _ (by omega)];exact h.fresh id aB
 ·by_cases e:id=i
  ·subst e
   rw[ae]at hr
   simpa using List.all_eq_true.1 hx r hr
  ·rw[ai _ _ _ _ e]at hr
   exact h.refs id r hr
theorem Good.mono {o:Nat->ab}{nx m:Nat}(h:Good o nx)(hm:nx<=m):Good o m:=⟨fun id aB=>h.fresh id ad,fun id r hr=>Nat.lt_of_lt_of_le (h.refs id r hr) hm⟩
theorem Good.lt {o:Nat->ab}{nx id:Nat}(h:Good o nx)(hn:o id≠ .no):id<nx:=by
 rcases Nat.lt_or_ge id nx with hl|hl
 ·exact hl
 ·exact absurd (h.fresh id hl) hn
theorem V.rM:∀ (l:List V) (i:Nat),∀r∈(bA l i).refs,r∈V.aN l
 |[],i,r,h=>by rw[qp]at h;cases h
 |v::l,0,r,h=>by rw[nU]at h;simp only[V.aN,List.mem_append];exact .inl h
 |v::l,i+1,r,h=>by rw[nV]at h;simp only[V.aN,List.mem_append];exact .inr (V.rM l i r h)
theorem bL.back {b:Nat}{s:S}{env:Nat->V}{o:Nat->ab}{nx:Nat}(hb:b<=nx)(hn:nx<=s.nx)(hg:Good o nx)(ho:∀id,id<nx->s.o id=o id)
 (he:∀i,env i= .aa\/(env i=s.env i/\∀r∈(env i).refs,r<nx)):bL b s ⟨env,o,nx⟩:=by
 intro M φ w tm hH hd
 have c0:∀k,de φ (hp o nx) k->de φ s.H k:=by
  rintro k ⟨id,h1,h2⟩
  have aB:id<nx:=hg.lt (fun e=>by simp only[hp]at h1;rw[e]at h1;cases h1)
  exact⟨id,by simp only[S.H];rw[ho id aB];exact h1,h2⟩
 have hB:∀k, ¬ax M φ s.H k-> ¬ax M φ (hp o nx) k:=fun k h h'=>h (h'.imp id (c0 k))
 have fK:∀ (v:V) (val:Value),(∀r∈v.refs,r<nx)->V.den (ax M φ s.H) φ s.H w v val->V.den (ax M φ (hp o nx)) φ (hp o nx) w v val:=fun v val hr h=>
  V.nj (H:=s.H) (H':=hp o nx) hB v val (fun id aB=>⟨(ho id (hr id aB)).symm,rfl,hr id aB⟩) h
 have oD:∀ (v:List V) (val:List Value),(∀r∈V.aN v,r<nx)->V.aM (ax M φ s.H) φ s.H w v val->V.aM (ax M φ (hp o nx)) φ (hp o nx) w v val:=fun v val hr h=>
  V.gS (H:=s.H) (H':=hp o nx) hB v val (fun id aB=>⟨(ho id (hr id aB)).symm,rfl,hr id aB⟩) h
 refine⟨φ,⟨fun id=> ?_,fun id hu=>hg.fresh id (by simpa[S.H]using hu),fun i j k h1 h2 h3 h4=> ?_,fun k hk=>hH.ours k (c0 k hk),hH.AD⟩,fun i=> ?_,c0,hb,fun id aB hr=> ?_,fun id e' aB ou=> ?_⟩
 ·have bz:=hH.ok id
  have hrefs:=hg.refs id
  unfold ba at bz|-
  by_cases aB:id<nx
  ·have e:s.H.o id=o id:=ho id aB
   rw[e]at bz
   simp only[S.H]at bz|-
   cases hx:o id with
   |no=>trivial
   |row cs=>
    simp only[hx]at bz hrefs|-
    obtain⟨b,dO,ty,k1,k2,k3,k4⟩:=bz
    exact⟨b,dO,ty,k1,k2,oD _ _ hrefs k3,k4⟩
   |arr ep ty sz es=>
    simp only[hx]at bz|-
    obtain⟨k1,xs,k2,evs,k3,k4,k5⟩:=bz
    exact⟨k1,xs,k2,evs,k3,k4,D.a8 (fun b _ hn=>⟨rfl,hB b hn⟩) _ _ k5⟩
   |su ep es=>
    simp only[hx]at bz|-
    exact D.aS (fun b _ hn=>⟨rfl,hB b hn⟩) _ _ bz
   |map kt vt es=>
    simp only[hx]at bz|-
    obtain⟨b,es',clock,k1,k2,k4,k3⟩:=bz
    exact⟨b,es',clock,k1,k2,k4,aW.mono (fun b _ hn=>⟨rfl,hB b hn⟩) _ _ k3⟩
   |iJ l=>
    simp only[hx]at bz|-
    exact D.aS (fun b _ hn=>⟨rfl,hB b hn⟩) _ _ bz
   |mP l last=>
    simp only[hx]at bz|-
    obtain⟨b,k1,k2⟩:=bz
    exact⟨b,k1,k2.mono (fun b _ hn=>⟨rfl,hB b hn⟩) rfl⟩
   |yR s pos=>
    simp only[hx]at bz|-
    exact bz
   |loop nf n env ps a b st pd=>
    simp only[hx]at bz hrefs|-
    obtain⟨b,r,k1,k2,k3,k4,k5,k6,k7,k8,k9,YD⟩:=bz
    exact⟨b,r,k1,k2,k3,k4,k5,k6,k7,k8,k9,fun i=>fK _ _ (fun r hr=>hrefs r (V.rM _ _ r hr)) (YD i)⟩
  ·simp only[S.H]
   rw[hg.fresh id (by omega)]
   trivial
 ·have hi:i<nx:=hg.lt (fun e=>by simp only[S.H]at h1;rw[e]at h1;cases h1)
  have hj:j<nx:=hg.lt (fun e=>by simp only[S.H]at h2;rw[e]at h2;cases h2)
  exact hH.apart i j k (by simp only[S.H];rw[ho i hi];exact h1) (by simp only[S.H];rw[ho j hj];exact h2) h3 h4
 ·rcases he i with h|⟨h1,h2⟩
  ·simp only[h];trivial
  ·have:=hd i
   rw[<- h1]at this
   exact fK _ _ h2 this
 ·have cU:id<nx:=ad
  exact⟨by rw[ho id cU];exact hr,rfl⟩
 ·have cU:id<nx:=ad
  exact⟨e',by rw[ho id cU];exact ou,Nat.le_refl _,fun _=>rfl⟩
def kj(nx:Nat)(env:Nat->V):List V->Nat->Prop
 |[],_=>True
 |v::l,i=>(v= .aa\/(v=env i/\∀r∈v.refs,r<nx))/\kj nx env l (i+1)
theorem bL.bP {b:Nat}{e:Nat->V}{so:Nat->ab}{m:Nat}(l:List V){o:Nat->ab}{nx:Nat}(hb:b<=nx)(hn:nx<=m)(hg:Good o nx)(ho:∀id,id<nx->so id=o id)(he:kj nx e l 0):bL b ⟨e,so,m⟩ ⟨bA l,o,nx⟩:=by
 refine bL.back hb hn hg ho ?_
 have key:∀ (l:List V) (i:Nat),kj nx e l i->∀j,bA l j= .aa\/(bA l j=e (i+j)/\∀r∈(bA l j).refs,r<nx):=by
  intro l
  induction l with
  |nil=>intro i _ j;rw[qp];exact .inl rfl
  |cons v l ih=>
   intro i h j
   cases j with
   |zero=>rw[nU];exact h.1
   |succ j=>
    rw[nV]
    have:=ih (i+1) h.2 j
    rwa [show i+1+j=i+(j+1) by omega]at this
 intro i
 have:=key l 0 he i
 rwa [Nat.zero_add]at this
theorem wW{nx:Nat}{env:Nat->V}{i:Nat}:kj nx env [] i:=trivial
theorem ud{nx:Nat}{env:Nat->V}{l:List V}{i:Nat}(h:kj nx env l (i+1)):kj nx env (.aa::l) i:=⟨.inl rfl,h⟩
theorem pG{nx:Nat}{env:Nat->V}{l:List V}{i:Nat}{x:D}(he:env i= .d x)(h:kj nx env l (i+1)):kj nx env (.d x::l) i:=⟨.inr ⟨he.symm,fun r hr=>by simp[V.refs]at hr⟩,h⟩
theorem yK{nx:Nat}{env:Nat->V}{l:List V}{i:Nat}{v:V}(he:env i=v)(hr:∀r∈v.refs,r<nx)(h:kj nx env l (i+1)):kj nx env (v::l) i:=⟨.inr ⟨he.symm,hr⟩,h⟩
theorem bL.d0 {e:Nat->V}{so:Nat->ab}{m:Nat}(l:List V)(he:kj 0 e l 0):bL 0 ⟨e,so,m⟩ ⟨bA l,fun _=> .no,0⟩:=bL.bP l (Nat.le_refl 0) (Nat.zero_le _) Good.nil (fun _ h=>absurd h (Nat.not_lt_zero _)) he
theorem IL{k:Nat}(h:(k:Int)+1<=9223372036854775807):IntKind.i64.wrap ((k:Int)+1)=((k+1:Nat):Int):=by rw[wrap64 (by omega) h];rfl
theorem IK{k:IntKind}{a b:Int}(h:a=b):V.d (D.int k a)=V.d (D.int k b):=by rw[h]
theorem B6{P:Program}{g:FuncId}{K:KD}{X:XD}{o:Nat->ab}{nx fr:Nat}{all:List V}{rd:List Nat}{rs:List D}{Δ:List (Nat×ab)}(mL:rd.all (fun id=>decide (id<nx))=true)(h:Fa P g all rd o (.ret rs) Δ)(hk:K (jJ rs) Δ rd):rJ P g K X o nx fr all:=by
 unfold rJ
 exact⟨rd,Δ,mL, .inl ⟨rs,h,hk⟩⟩
abbrev D.i (n:Int):D:= .int .i64 n
structure kn where
 name:List UInt8
 args:Int
structure aX where
 cons:List kn
 bU:List kn
inductive Tm where
 |mk (op n:Int) (kids:List Tm)
 deriving Inhabited
structure TB where
 var:Int
 term:Tm
def Tm.op:Tm->Int| .mk op _ _=>op
def Tm.n:Tm->Int| .mk _ n _=>n
def Tm.kids:Tm->List Tm| .mk _ _ l=>l
theorem Tm.eta (t:Tm):Tm.mk t.op t.n t.kids=t:=by cases t;rfl
theorem Tm.ind {P:Tm->Prop}(h:∀op n kids,(∀k∈kids,P k)->P (.mk op n kids)):∀t,P t:=
 fun t=>Tm.rec (motive_1:=P) (motive_2:=fun l=>∀k∈l,P k) (fun op n kids ih=>h op n kids ih) (fun _ h=>by cases h)
  (fun x l hx hl k hk=>(List.mem_cons.1 hk).elim (fun e=>e ▸ hx) (hl k)) t
mutual
def Tm.d:Tm->D
 | .mk op n kids=> .agg [.i op, .i n, .sl (Tm.ds kids)]
def Tm.ds:List Tm->List D
 |[]=>[]
 |t::l=>t.d::Tm.ds l
end
theorem Tm.rN:∀l:List Tm,Tm.ds l=l.map Tm.d
 |[]=>rfl
 |t::l=>by simp[Tm.ds,Tm.rN l]
theorem Tm.Hn (t:Tm):t.d= .agg [.i t.op, .i t.n, .sl (t.kids.map Tm.d)]:=by cases t;simp[Tm.d,Tm.rN,Tm.op,Tm.n,Tm.kids]
@[go_sem] theorem Tm.TO (t:Tm):D.agg [.i t.op, .i t.n, .sl (t.kids.map Tm.d)]=t.d:=(Tm.Hn t).symm
@[go_sem] theorem Tm.NJ (t:Tm):D.cells t.d=[.i t.op, .i t.n, .sl (t.kids.map Tm.d)]:=by rw[Tm.Hn];rfl
theorem Tm.cC {P:Tm->Prop}(h:∀t:Tm,(∀k∈t.kids,P k)->P t):∀t,P t:=Tm.ind fun op n kids ih=>h (.mk op n kids) ih
theorem Tm.rO (op n:Int)(l:List Tm):(Tm.mk op n l).d= .agg [.i op, .i n, .sl (l.map Tm.d)]:=by simp[Tm.d,Tm.rN]
@[reducible] def kn.d (x:kn):D:= .agg [.str x.name, .i x.args]
@[reducible] def aX.d (s:aX):D:= .agg [.sl (s.cons.map kn.d), .sl (s.bU.map kn.d)]
@[reducible] def TB.d (b:TB):D:= .agg [.i b.var, .i b.term.op, .i b.term.n, .sl (b.term.kids.map Tm.d)]
mutual
def Tm.fits:Tm->Prop
 | .mk _ _ kids=>kids.length<=9223372036854775807/\Tm.ko kids
def Tm.ko:List Tm->Prop
 |[]=>True
 |t::l=>t.fits/\Tm.ko l
end
theorem Tm.lL:∀l:List Tm,Tm.ko l↔∀k∈l,k.fits
 |[]=>by simp[Tm.ko]
 |t::l=>by simp[Tm.ko,Tm.lL l]
theorem Tm.aP (t:Tm):t.fits↔t.kids.length<=9223372036854775807/\∀k∈t.kids,k.fits:=by cases t;simp[Tm.fits,Tm.lL,Tm.kids]
mutual
def Tm.iU:Tm->Nat
 | .mk _ _ kids=>1+Tm.fQ kids
def Tm.fQ:List Tm->Nat
 |[]=>0
 |k::l=>Nat.max k.iU (Tm.fQ l)
end
theorem Tm.ns:∀ {l:List Tm} {k:Tm},k∈l->k.iU<=Tm.fQ l
 |x::l,k,h=>by
  simp only[Tm.fQ]
  rcases List.mem_cons.1 h with rfl|h
  ·exact Nat.le_max_left _ _
  ·exact Nat.le_trans (Tm.ns h) (Nat.le_max_right _ _)
theorem Tm.qq {t k:Tm}(h:k∈t.kids):k.iU+1<=t.iU:=by
 cases t;simp only[Tm.kids]at h;simp only[Tm.iU];have:=Tm.ns h;omega
mutual
def pre:Tm->Int->List (Tm×Int)
 | .mk op n kids,d=>(.mk op n kids,d)::NK kids (d+1)
def NK:List Tm->Int->List (Tm×Int)
 |[],_=>[]
 |k::l,d=>pre k d++NK l d
end
theorem Ho(l:List Tm)(d:Int):NK l d=l.flatMap fun k=>pre k d:=by
 induction l with
 |nil=>rfl
 |cons k l ih=>simp[NK,ih]
theorem jA(t:Tm)(d:Int):pre t d=(t,d)::t.kids.flatMap fun k=>pre k (d+1):=by cases t;simp[pre,Ho,Tm.kids]
def cZ(n low high:Int):Bool:=decide (low<=n)&&decide (n<=high)
def letterF(b:UInt8):Bool:= !((decide ((b.toNat:Int)<97)||decide (122<(b.toNat:Int)))&&(decide ((b.toNat:Int)<65)||decide (90<(b.toNat:Int))))
def kp(s:List UInt8):Bool:=s.all letterF&&cZ s.length 1 8
def cl:List kn->List (List UInt8)->Option (List (List UInt8))
 |[],before=>some before
 |x::l,before=>if before.any (· ==x.name)then none else if(!kp x.name|| !cZ x.args 0 4)=true then none else cl l (before++[x.name])
def fB:List UInt8:=[70,97,108,115,101]
def tB:List UInt8:=[84,114,117,101]
def mI(x:kn)(s:List UInt8):Bool:=x.name==s&&x.args==0
def iV(s:aX):Bool:=
 if(!cZ s.cons.length 2 12||decide (8<(s.bU.length:Int)))=true then false else
 match s.cons with
 |a::b::_=>if(!mI a fB|| !mI b tB)=true then false else
  match cl s.cons []with
  |none=>false
  |some l=>(cl s.bU l).isSome
 |_=>false
mutual
def ee:Tm->Int->Int->Int
 | .mk _ _ kids,left,depth=>if left<1\/depth<1 then -1 else cf kids (left - 1) (depth - 1)
def cf:List Tm->Int->Int->Int
 |[],left,_=>left
 |k::l,left,depth=>if 0<=left then cf l (ee k left depth) depth else left
end
def dJ(l:List kn)(n:Int):Int:=match l[n.toNat]? with|some x=>x.args|none=>0
def bw(s:aX)(t:Tm):Bool:=
 let k:Int:=t.kids.length
 if t.op=1 then k==0&&cZ t.n 0 19
 else if t.op=2 then k==0&&cZ t.n (-1000000) 1000000
 else if t.op=3 then cZ t.n 0 (s.cons.length - 1)&&k==dJ s.cons t.n
 else if t.op=4 then cZ t.n 0 (s.bU.length - 1)&&k==dJ s.bU t.n
 else if t.op=5 then cZ t.n 0 (s.bU.length - 1)&&decide (k<dJ s.bU t.n)
 else if t.op=8 then k==2&&cZ t.n 0 19
 else if(cZ t.op 6 15)=true then k==2&&t.n==0
 else false
mutual
def ez(s:aX):Tm->Bool
 | .mk op n kids=>bw s (.mk op n kids)&&tP s kids
def tP(s:aX):List Tm->Bool
 |[]=>true
 |k::l=>ez s k&&tP s l
end
def dL(s:aX)(t:Tm):Bool:=decide (0<=ee t 40 12)&&ez s t
mutual
def aZ:Tm->Tm->Bool
 | .mk op n kids, .mk op' n' Qb=>op==op'&&n==n'&&kids.length==Qb.length&&gG kids Qb
def gG:List Tm->List Tm->Bool
 |[],_=>true
 |k::l,k'::l'=>aZ k k'&&gG l l'
 |_::_,[]=>true
end
def ir(t:Tm):Bool:=decide (0<=ee t 50 14)
def gx(l:List kn):Bool:=l.all fun x=>decide ((x.name.length:Int)<=30)
def iW(s:aX):Bool:= !(decide (16<(s.cons.length:Int))||decide (12<(s.bU.length:Int)))&&gx s.cons&&gx s.bU
end Go.Proofs.YtonbelhklnmjnaaGreat
namespace Go.Proofs.YtonbelhklnmjnaaGreat
def jB(id:Nat)(K X:V->(Nat->ab)->Nat->Prop)(e:fN)(s:S):Prop:=
 match e with
 | .normal=>∃nf m en p c d st pd,s.o id= .loop nf m en p c d st pd/\K (.d (.bool true)) (aL s.o id (.loop nf m en p c d .ready none)) s.nx
 | .ret=>∃nf m en p c d st pd,s.o id= .loop nf m en p c d st pd/\K (.d (.bool false)) (aL s.o id (.loop nf m en p c d .done (some .ret))) s.nx
 | .exit j=>∃nf m en p c d st pd,s.o id= .loop nf m en p c d st pd/\K (.d (.bool false)) (aL s.o id (.loop nf m en p c d .done (some (.exit j)))) s.nx
 | .bR v=>X v s.o s.nx
def TP(P:Program)(n b id:Nat)(eE:IC)(K X:V->(Nat->ab)->Nat->Prop)(e:fN)(s:S):Prop:=
 match e with
 | .normal=>∃nf m en p c d pd,s.o id= .loop nf m en p c d .ready pd/\tO P n b true eE (jB id K X) ⟨s.env,aL s.o id (.loop nf m en p c d .busy pd),s.nx⟩
 | .bR v=>X v s.o s.nx
 |_=>False
section
variable {P:Program}{M:Nat->Prop}{φ cQ:Place}{H0:Hp}{w w0:World}{n:Nat}{s:S}{a:Act}{cx:Cx}
theorem B7{id:Nat}{x:ab}{s:S}(cU:id<s.nx)(j:Nat)(hu:(s.H.put [(id,x)]).us j):j<s.nx:=by
 simp only[et]at hu
 rcases hu with hu|hu
 ·exact hu
 ·subst hu;exact cU
theorem uT{B:Nat->Prop}{H:Hp}{n:Nat}:∀ (ps:List Nat) (vs:List V) (us:List Value) (env:Nat->V) (tmps:Array Value),tmps.size=n->ps.length=vs.length->V.aM B φ H w vs us->ps.all (fun t=>decide (t<n))=true->(∀i,V.den B φ H w (env i) (tmps.getD i undef))->
 ((ps.zip us).foldl (fun tmps p=>tmps.setIfInBounds p.1 p.2) tmps).size=n/\∀i,V.den B φ H w (nn env ps vs i) (((ps.zip us).foldl (fun tmps p=>tmps.setIfInBounds p.1 p.2) tmps).getD i undef)
 |[],[],us,env,tmps,ec,_,hd,_,he=>by simp only[V.aM]at hd;subst hd;exact⟨ec,he⟩
 |[],v::vs,us,env,tmps,_,h,_,_,_=>by simp at h
 |t::ps,[],us,env,tmps,_,h,_,_,_=>by simp at h
 |t::ps,v::vs,us,env,tmps,ec,hl,hd,hp,he=>by
  obtain⟨u,us,rfl,h1,h2⟩:=hd
  simp only[List.all_cons,Bool.and_eq_true,decide_eq_true_eq]at hp
  simp only[List.zip_cons_cons,List.foldl_cons,nn]
  refine uT ps vs us (aL env t v) (tmps.setIfInBounds t u) (by simp[ec]) (by simpa using hl) h2 hp.2 (fun i=> ?_)
  simp only[aR]
  by_cases hi:i=t
  ·subst hi
   have:(tmps.setIfInBounds i u).getD i undef=u:=by simp[Array.getD,ec,hp.1]
   rw[if_pos rfl,this];exact h1
  ·have:(tmps.setIfInBounds t u).getD i undef=tmps.getD i undef:=by
    simp only[Array.getD_eq_getD_getElem?]
    rw[Array.getElem?_setIfInBounds_ne (Ne.symm hi)]
   rw[if_neg hi,this];exact he i
theorem dU.uP (bD:P.follows .mixedOrders=true){id:Nat}{args:List V}{o:Nat->ab}{nx:Nat}{K X:V->(Nat->ab)->Nat->Prop}{env:List V}{ps:List Nat}{iK eE:IC}{st:LoopState}{pd:Option jI}
 (ho:o id= .loop P.funcs.size n env ps iK eE st pd) (cU:id<nx) (D6:ps.all (fun t=>decide (t<n))=true) (hl:args.length=ps.length)
 (h:tO P n nx true iK (TP P n nx id eE K X) ⟨nn (bA env) ps args,o,nx⟩):dU P id args o nx K X:=by
 refine⟨by rw[ho];rfl,fun M φ w vals b hH hd eW=> ?_⟩
 have bn:=hH.ok id
 simp only[ba,hp,ho]at bn
 obtain⟨b',r,h1,h2,h0,h3,h4,h5,h6,h7,h8,h9⟩:=bn
 rw[eW]at h1;simp at h1;subst h1
 have hlen:=V.aH _ _ hd
 have ec:vals.size=r.params.size:=by
  have:r.params.toList.length=ps.length:=by rw[h5]
  simp at hlen this;omega
 let tm:Array Value:=(ps.zip vals.toList).foldl (fun tmps p=>tmps.setIfInBounds p.1 p.2) r.tmps
 have YE:(r.params.zip vals).foldl (fun tmps (p:Tmp×Value)=>tmps.setIfInBounds p.1 p.2) r.tmps=tm:=by
  rw[<- Array.foldl_toList,Array.toList_zip,h5]
 obtain⟨p1,p2⟩:=uT (B:=ax M φ (hp o nx)) (H:=hp o nx) (φ:=φ) (w:=w) ps args vals.toList (bA env) r.tmps h6 hl.symm hd D6 h9
 refine⟨r.fn,tm,r.assign,r.body, ?_,fun k=> ?_⟩
 ·simp only[Instr.yield,Sem.run_bind,kP h2,Result.andThen_ok,ec,ne_eq,not_true_eq_false,if_false,Sem.run_pure]
  rw[<- YE]
 ·
   let s0:S:=⟨nn (bA env) ps args,o,nx⟩
   let a0:Act:={tmps:=tm,defers:=[]}
   have gu:cq M φ (hp o nx) w n ⟨[],true⟩ φ s0 a0 w:=⟨hH,Trans.refl _ _ _,p1,⟨[],rfl,List.nodup_nil,fun _=>rfl,fun r hr=>by cases hr⟩,p2⟩
   have uU:∀ {aO s' a' w'},cq M φ (hp o nx) w n ⟨[],true⟩ aO s' a' w'->a'.defers=[]:=by
    intro aO s' a' w' hs
    obtain⟨ms,g1,_,g3,_⟩:=hs.defers
    exact SM
   have YF:∀ {aO s' a' w'} {nf m:Nat} {en:List V} {p:List Nat} {c d:IC} {st:LoopState} {pd:Option jI} (st':LoopState) (pd':Option jI),cq M φ (hp o nx) w n ⟨[],true⟩ aO s' a' w'->s'.o id= .loop nf m en p c d st pd->
    ∃r',w'.heap[b]? =some (.loop r')/\r'.state=st/\r'.pending=pd.map jI.code/\
     cq M φ (hp o nx) w n ⟨[],true⟩ aO ⟨s'.env,aL s'.o id (.loop nf m en p c d st' pd'),s'.nx⟩ a' {w' with heap:=w'.heap.setIfInBounds b (.loop {r' with state:=st',pending:=pd'.map jI.code})}:=by
    intro aO s' a' w' nf m en p c d st pd st' pd' hs pF
    have S6:aO id= .pointer (some ⟨b,0,none⟩):=by
     have:=(hs.tr.rel.row id cU (by show(s'.o id).cy=true;rw[pF];rfl)).2
     rw[this];exact eW
    have YG:id<s'.nx:=hs.tr.rel.us id cU
    obtain⟨r',r1,r2,r3,r4,r5⟩:=xy (st':=st') (pd':=pd') hs.heap YG (show s'.H.o id=_ from pF) S6
    exact⟨r',r1,r2,r3,eH hs r4 r5 rfl (B7 YG)⟩
   have ha:=iT (P:=P) (n:=n) (b:=nx) (rd:=true) bD r.assign _ _ s0 (fun _ _ h=>h) (by rw[h7];exact h)
   refine uE h0 (im (iN (P:=P) (H0:=hp o nx) (b:=nx) (cx:=⟨[],true⟩) (ro:=some b) (fun id hu=>hu) (fun h=>by cases h) r.assign _ s0 φ a0 w ha gu) ?_)
   rintro e a1 w1 ⟨x,s1,jv,hq,xA,hm⟩
   cases e<;>cases x<;>first|(exact hm.elim)|skip
   ·
     obtain⟨nf,m,en,p,c,d,pd1,q1,q2⟩:=hq
     obtain⟨r',r1,r2,r3,Mo⟩:=YF .busy pd1 xA q1
     have TQ:(Instr.beginRound b).run P w1= .ok () {w1 with heap:=w1.heap.setIfInBounds b (.loop {r' with state:= .busy,pending:=pd1.map jI.code})}:=by
      have e1:({r' with state:= .busy}:Loop)={r' with state:= .busy,pending:=pd1.map jI.code}:=by rw[<- r3]
      simp only[Instr.beginRound,Sem.run_bind,kP r1,Result.andThen_ok,jy _ r1,r2,Sem.run_pure,e1]
     refine⟨_,TQ, ?_⟩
     have bS:=Mo.heap.ok id
     simp only[ba,S.H,aR,if_true]at bS
     obtain⟨b2,r2',_,_,_,_,_,_,_,_,_,_⟩:=bS
     have hb:=iT (P:=P) (n:=n) (b:=nx) (rd:=true) bD r.body _ _ _ (fun _ _ h=>h) (by rw[h8];exact q2)
     refine im (iN (P:=P) (H0:=hp o nx) (b:=nx) (cx:=⟨[],true⟩) (ro:=some b) (fun id hu=>hu) (fun h=>by cases h) r.body _ _ jv a1 _ hb Mo) ?_
     rintro e a2 w2 ⟨x,s2,G0,WD,E7,Mk⟩
     have fin:∀ {nf m:Nat} {en:List V} {p:List Nat} {c d:IC} {st:LoopState} {pd:Option jI} (jump:Option jI) (t:Bool) (st':LoopState),t=jump.isNone->st'=(if jump.isNone then .ready else .done)->s2.o id= .loop nf m en p c d st pd->K (.d (.bool t)) (aL s2.o id (.loop nf m en p c d st' jump)) s2.nx->
      ∃v w',(Instr.endRound b (jump.map jI.code)).run P w2= .ok v w'/\mY M φ (hp o nx) w K X (.returned v) w':=by
      intro nf m en p c d st pd jump t st' ht nT ho2 hK
      obtain⟨r3',g1,g2,g3,WE⟩:=YF st' jump E7 ho2
      refine⟨.bool t,_, ?_,G0,_,_,_,WE.heap,WE.tr,by simp only[V.den,D.den],hK⟩
      subst ht;subst nT
      simp only[Instr.endRound,Sem.run_bind,kP g1,Result.andThen_ok,jy _ g1,Sem.run_pure,Option.isNone_map]
     cases e<;>cases x<;>first|(exact Mk.elim)|skip
     ·obtain⟨nf,m,en,p,c,d,st,pd,k1,k2⟩:=WD
      exact fin none true .ready rfl rfl k1 k2
     ·rename_i j
      subst Mk
      obtain⟨nf,m,en,p,c,d,st,pd,k1,k2⟩:=WD
      exact fin (some (.exit _)) false .done rfl rfl k1 k2
     ·obtain⟨nf,m,en,p,c,d,st,pd,k1,k2⟩:=WD
      exact fin (some .ret) false .done rfl rfl k1 k2
     ·obtain⟨val,rfl,k2⟩:=Mk
      exact⟨uU E7,G0,_,_,_,E7.heap,E7.tr,val,rfl,k2,WD⟩
   ·exact hq.elim
   ·exact hq.elim
   ·obtain⟨val,rfl,k2⟩:=hm
    exact⟨uU xA,jv,_,_,_,xA.heap,xA.tr,val,rfl,k2,hq⟩
end
end Go.Proofs.YtonbelhklnmjnaaGreat
namespace Go.Proofs.YtonbelhklnmjnaaGreat
def TR(ops:Array Oper)(t t1:Nat):Prop:=
 (∃o1 o2,ops=#[o1,o2]/\o1.op= .call ⟨.builtin .recover,#[],#[]⟩/\o1.dst=some t/\o1.guard=none/\o2.op= .assign (.tmp t)/\o2.dst=some t1/\o2.guard=none)\/
 (∃o1,ops=#[o1]/\t1=t/\o1.op= .call ⟨.builtin .recover,#[],#[]⟩/\o1.dst=some t/\o1.guard=none)
structure B8 (P:Program) (g:FuncId) (n t t1:Nat) (ic:IC):Prop where
 get:∃fn id ops c,P.funcs[g]? =some fn/\(fn.name== "runtime.NumGoroutine")=false/\fn.ntmps=n/\fn.results=#[]/\fn.body=some (.seq (.region id ops false) c)/\
  TR ops t t1/\t<n/\t1<n/\low n c=ic
structure Fl (P:Program) (f:FuncId) (n:Nat) (iK eE:IC) (g:FuncId) (t:Nat) (aG:List Operand) (rs:List ResultVar):Prop where
 get:∃fn id o1 o2 a b d,P.funcs[f]? =some fn/\(fn.name== "runtime.NumGoroutine")=false/\fn.ntmps=n/\fn.results.toList=rs/\fn.body=some (.seq a d)/\(d= .seq (.region id #[o1,o2] false) b\/d= .scope (.seq (.region id #[o1,o2] false) b))/\
  o1.op= .makeFunc (.func g) #[] aG.toArray/\o1.dst=some t/\o1.guard=none/\o2.op= .defer ⟨.value (.tmp t),#[],#[]⟩/\o2.dst=none/\o2.guard=none/\t<n/\low n a=iK/\low n b=eE
def Hq(K:(Nat->ab)->Nat->Prop)(e:fN)(s:S):Prop:=match e with| .normal| .ret=>K s.o s.nx|_=>False
def D7(P:Program)(n t t1:Nat)(ic:IC)(aG:List V)(u:V)(o:Nat->ab)(nx:Nat)(K:(Nat->ab)->Nat->Prop):Prop:=
 aG.length<=n/\tO P n nx true ic (Hq K) ⟨aL (aL (cB aG) t u) t1 u,o,nx⟩
def zM(P:Program)(n t t1:Nat)(ic:IC)(aG:List V)(rs:List ResultVar)(K X:V->(Nat->ab)->Nat->Prop)(e:fN)(s:S):Prop:=
 match e with
 | .normal| .ret=>D7 P n t t1 ic aG (.d .fq) s.o s.nx fun o nx=>me P rs K X .ret ⟨s.env,o,nx⟩
 | .bR v=>D7 P n t t1 ic aG v s.o s.nx fun o nx=>me P rs K X .ret ⟨s.env,o,nx⟩
 | .exit _=>False
def B9(P:Program)(n t:Nat)(eE:IC)(fA:List Operand)(g:FuncId)(D:List V->fN->S->Prop)(e:fN)(s:S):Prop:=
 match e with
 | .normal=>tO P n s.nx false eE (D (fA.map s.ev)) ⟨aL s.env t (.func (.func g) [] (fA.map s.ev)),s.o,s.nx⟩
 |_=>False
section
variable {P:Program}{M:Nat->Prop}{φ cQ:Place}{H H0:Hp}{w w0:World}{n:Nat}{s:S}{a:Act}{cx:Cx}{k:Nat}
theorem Hr(bD:P.follows .mixedOrders=true){g:FuncId}{t t1:Nat}{ic:IC}(hg:B8 P g n t t1 ic){aG:List V}{u:V}{o:Nat->ab}{nx:Nat}{K:(Nat->ab)->Nat->Prop}(h:D7 P n t t1 ic aG u o nx K)
 {vals:Array Value} {val:Value} {m:FrameMode} (hH:aC M φ (hp o nx) w) (hd:V.aM (ax M φ (hp o nx)) φ (hp o nx) w aG vals.toList) (hv:V.den (ax M φ (hp o nx)) φ (hp o nx) w u val)
 (hm:(m= .returning/\val= .nilIface)\/m= .panicking [{v:=val,recovered:=false}]):
 CallsDIn (ed none) k P g vals m w fun e u' w'=>∃v aO o' nx',e= .returned v/\settle u'= .returning/\aC M aO (hp o' nx') w'/\Trans φ (hp o nx) w aO (hp o' nx') w'/\K o' nx':=by
 obtain⟨fn,id,ops,c,hf,Qc,hnt,Bx,qg,Hd,ht,Db,rH⟩:=hg.get
 have cU:g<P.funcs.size:=(Array.getElem?_eq_some_iff.1 hf).1
 obtain⟨pE,h⟩:=h
 have hlen:=V.aH _ _ hd
 refine⟨trivial,fun o8 cs JY Po=> ?_⟩
 let b:Frame:={(default:Frame)with fn:=g,kind:= .deferred,roundOf:=none}
 let tQ:Array Value:=vals++Array.replicate (fn.ntmps - vals.size) undef
 have abK:tQ.size=n:=by simp only[tQ,Array.size_append,Array.size_replicate];simp at hlen;omega
 have mb:Frame.enter P g vals .deferred=b.atR {tmps:=tQ,defers:=[]} [.code (.seq (.region id ops false) c)]:=by
  simp[Frame.enter,Frame.atR,hf,qg,b,tQ]
 obtain⟨m',hm',bS⟩:∃m',settle m'= .returning/\((recoverD (o8::cs)=none/\m'=m/\val= .nilIface)\/recoverD (o8::cs)=some (val,{o8 with mode:=m'}::cs)):=by
  rcases hm with⟨rfl,rfl⟩|rfl
  ·exact⟨.returning,rfl, .inl ⟨by simp[recoverD,JY],rfl,rfl⟩⟩
  ·exact⟨.panicking [{v:=val,recovered:=true}],rfl, .inr (by simp[recoverD,JY])⟩
 have hc0:({o8 with mode:=m}:Frame)=o8:=by subst JY;rfl
 let a1:Act:={tmps:=(tQ.setIfInBounds t val).setIfInBounds t1 val,defers:=[]}
 have Nu:(Code.region id ops false).wpSIn (ed none) k P (fun e a' cs' w'=>e= .normal/\a'=a1/\cs'={o8 with mode:=m'}::cs/\w'=w) {tmps:=tQ,defers:=[]} (o8::cs) w:=by
  rcases Hd with⟨o1,o2,rfl,e1,e2,e3,e4,e5,e6⟩|⟨o1,rfl,rfl,e1,e2,e3⟩
  ·refine wpSIn_region ?_
   have hr:List.range (#[o1,o2]:Array Oper).size=[0,1]:=rfl
   have g0:(#[o1,o2]:Array Oper)[0]? =some o1:=rfl
   have g1:(#[o1,o2]:Array Oper)[1]? =some o2:=rfl
   rw[hr]
   have x1:∀ (ρ:Operand->Value) (w:World),(execOp ρ o1).run P w= .ok .recover w:=by
    intro ρ w
    simp[execOp,e1,resolve,invoke,builtin]
   have x2:∀ (ρ:Operand->Value) (w:World),(execOp ρ o2).run P w= .ok (.value (ρ (.tmp t))) w:=by
    intro ρ w
    simp[execOp,e4]
   have last:∀cs',cs'={o8 with mode:=m'}::cs->wpOpsSIn (ed none) k P #[o1,o2] (fun e a' cs' w'=>e= .normal/\a'=a1/\cs'={o8 with mode:=m'}::cs/\w'=w) [1] (({tmps:=tQ,defers:=[]}:Act).put (some t) val) cs' w:=by
    rintro cs' rfl
    have hw:Region.wanted o2 (yielded #[o1,o2] (({tmps:=tQ,defers:=[]}:Act).put (some t) val).tmps)=true:=by simp[Region.wanted,e6]
    have dI:(({tmps:=tQ,defers:=[]}:Act).put (some t) val).eval (.tmp t)=val:=by
     have:t<tQ.size:=ad
     simp[Act.put,Act.eval,Array.getD,this]
    simp only[wpOpsSIn,g1,hw,if_true,x2,dI,e5]
    refine⟨fun _ _=>trivial, ?_⟩
    simp[a1,Act.put]
   have hw:Region.wanted o1 (yielded #[o1,o2] tQ)=true:=by simp[Region.wanted,e3]
   rw[wpOpsSIn,g0]
   refine⟨fun _ _=>trivial, ?_⟩
   simp only[hw,if_true,x1,e2]
   rcases bS with⟨hr,rfl,rfl⟩|hr
   ·simp only[hr]
    exact last _ (by rw[hc0])
   ·simp only[hr]
    exact last _ rfl
  ·refine wpSIn_region ?_
   have hr:List.range (#[o1]:Array Oper).size=[0]:=rfl
   have g0:(#[o1]:Array Oper)[0]? =some o1:=rfl
   rw[hr]
   have x1:∀ (ρ:Operand->Value) (w:World),(execOp ρ o1).run P w= .ok .recover w:=by
    intro ρ w
    simp[execOp,e1,resolve,invoke,builtin]
   have same:a1=({tmps:=tQ,defers:=[]}:Act).put (some t1) val:=by
    simp only[a1,Act.put]
    congr 1
    apply Array.ext_getElem?
    intro j
    simp only[Array.getElem?_setIfInBounds]
    by_cases hj:t1=j
    ·subst hj;simp
    ·simp[hj]
   have last:∀cs',cs'={o8 with mode:=m'}::cs->wpOpsSIn (ed none) k P #[o1] (fun e a' cs' w'=>e= .normal/\a'=a1/\cs'={o8 with mode:=m'}::cs/\w'=w) [] (({tmps:=tQ,defers:=[]}:Act).put (some t1) val) cs' w:=by
    rintro cs' rfl
    simp only[wpOpsSIn]
    exact⟨trivial,same.symm,trivial,trivial⟩
   have hw:Region.wanted o1 (yielded #[o1] tQ)=true:=by simp[Region.wanted,e3]
   rw[wpOpsSIn,g0]
   refine⟨fun _ _=>trivial, ?_⟩
   simp only[hw,if_true,x1,e2]
   rcases bS with⟨hr,rfl,rfl⟩|hr
   ·simp only[hr]
    exact last _ (by rw[hc0])
   ·simp only[hr]
    exact last _ rfl
 obtain⟨er,ar,csr,wr,hl,⟨rfl,rfl,rfl,hwr⟩,cM⟩:=Nu b [.code c] rfl rfl trivial (fun d hd=>by simp[ed]at hd)
 rw[hwr]at cM
 let s0:S:=⟨aL (aL (cB aG) t u) t1 u,o,nx⟩
 have gu:cq M φ (hp o nx) w n ⟨[],true⟩ φ s0 a1 w:=by
  refine⟨hH,Trans.refl _ _ _,by simp[a1,abK],⟨[],rfl,List.nodup_nil,fun _=>rfl,fun r hr=>by cases hr⟩,fun i=> ?_⟩
  have eG:=uD (m:=fn.ntmps - vals.size) hd i
  simp only[s0,a1,aR]
  have ht0:t<tQ.size:=ad
  have abL:t1<tQ.size:=ad
  by_cases h1:i=t1
  ·subst h1
   simp only[if_true]
   have:((tQ.setIfInBounds t val).setIfInBounds i val).getD i undef=val:=by simp[Array.getD,abL]
   rw[this];exact hv
  ·simp only[h1,if_false]
   have e1:((tQ.setIfInBounds t val).setIfInBounds t1 val).getD i undef=(tQ.setIfInBounds t val).getD i undef:=by
    simp only[Array.getD_eq_getD_getElem?]
    rw[Array.getElem?_setIfInBounds_ne (Ne.symm h1)]
   rw[e1]
   by_cases h2:i=t
   ·subst h2
    simp only[if_true]
    have:(tQ.setIfInBounds i val).getD i undef=val:=by simp[Array.getD,ht0]
    rw[this];exact hv
   ·simp only[h2,if_false]
    have e1:(tQ.setIfInBounds t val).getD i undef=tQ.getD i undef:=by
     simp only[Array.getD_eq_getD_getElem?]
     rw[Array.getElem?_setIfInBounds_ne (Ne.symm h2)]
    rw[e1];exact eG
 have hcw:=iT (P:=P) (n:=n) (b:=nx) (rd:=true) bD c _ _ s0 (fun _ _ h=>h) (by rw[rH];exact h)
 obtain⟨e,a',w',⟨x,s',aO,hq,iE,hx⟩,E6⟩:=iN (P:=P) (H0:=hp o nx) (b:=nx) (cx:=⟨[],true⟩) (ro:=none) (fun id hu=>hu) (fun h=>by cases h) c _ s0 φ a1 w hcw gu b [] ({o8 with mode:=m'}::cs) rfl cU
 have i0:(lone (b.atR {tmps:=tQ,defers:=[]} [.code (.seq (.region id ops false) c)]) (o8::cs) w).fenced P (ed none):=fenced_calm (n:=0) trivial il rfl
 have Qd:StepsIn (Machine.fenced P (ed none)) P (lone (b.atR {tmps:=tQ,defers:=[]} [.code (.seq (.region id ops false) c)]) (o8::cs) w) (lone (b.atR a1 [.code c]) ({o8 with mode:=m'}::cs) w):= .head i0 stepR_seq cM
 have uU:a'.defers=[]:=by
  obtain⟨ms,g1,_,g3,_⟩:=iE.defers
  exact SM
 have YH:∀tm:Array Value,∃v,(results fn tm).run P w'= .ok v w':=by
  intro tm
  refine⟨_,nb (vals:=[]) ?_⟩
  rw[Bx];rfl
 rw[mb]
 obtain⟨v,tf⟩:=YH a'.tmps
 cases e<;>cases x<;>first|(exact hx.elim)|(exact hq.elim)|skip
 ·exact⟨.returned v,m',w',_,⟨v,aO,s'.o,s'.nx,rfl,hm',iE.heap,iE.tr,hq⟩,StepsIn.trans Qd (StepsIn.trans E6 (.one (fenced_calm (n:=0) (fr:=b.atR a' []) trivial il rfl) (stepR_end rfl))),rfl,rfl,rfl,uU,fn,hf,tf⟩
 ·obtain⟨todo,hs⟩:=E6.1 rfl
  exact⟨.returned v,m',w',_,⟨v,aO,s'.o,s'.nx,rfl,hm',iE.heap,iE.tr,hq⟩,StepsIn.trans Qd hs,rfl,rfl,rfl,uU,fn,hf,tf⟩
theorem Ca{d c:Code}{ro:Option Nat}{Q:Exit->Act->World->Prop}{a:Act}{w:World}(h:d=c\/d= .scope c)(hg:∀l a w, ¬Q (.goto l) a w)(hc:c.tl P ro Q a w):d.tl P ro Q a w:=by
 rcases h with rfl|rfl
 ·exact hc
 ·exact xu hc hg
theorem cK.Cb (bD:P.follows .mixedOrders=true){f g:FuncId}{iK eE xS:IC}{t m r r1:Nat}{fA:List Operand}{rs:List ResultVar}(hf:Fl P f n iK eE g t fA rs)(hg:B8 P g m r r1 xS)
 {args:List V} {o:Nat->ab} {nx:Nat} {K X:V->(Nat->ab)->Nat->Prop} (hl:args.length<=n)
 (h:tO P n nx true iK (B9 P n t eE fA g fun aG=>zM P m r r1 xS aG rs K X) ⟨cB args,o,nx⟩):cK P f args o nx K X:=by
 obtain⟨fn,id,o1,o2,ca,cb,cd,GY,Qc,hnt,Bx,qg,hsc,e1,e2,e3,e4,e5,e6,ht,hla,WA⟩:=hf.get
 obtain⟨gn,_,_,gc,hgn,TS,_,_,TT,_⟩:=hg.get
 refine⟨⟨fn,GY,Qc,by rw[qg];rfl⟩,fun M φ w vals hH hd=> ?_⟩
 have hlen:=V.aH _ _ hd
 let s0:S:=⟨cB args,o,nx⟩
 let a0:Act:={tmps:=vals++Array.replicate (fn.ntmps - vals.size) undef,defers:=[]}
 have gu:cq M φ (hp o nx) w n ⟨[],true⟩ φ s0 a0 w:=by
  refine⟨hH,Trans.refl _ _ _, ?_,⟨[],rfl,List.nodup_nil,fun _=>rfl,fun r hr=>by cases hr⟩,uD hd⟩
  simp only[a0,Array.size_append,Array.size_replicate];simp at hlen;omega
 have ha:=iT (P:=P) (n:=n) (b:=nx) (rd:=true) bD ca _ _ s0 (fun _ _ h=>h) (by rw[hla];exact h)
 refine Bs (ro:=none) (k:=0) (ng GY qg (zj (im (iN (P:=P) (H0:=hp o nx) (b:=nx) (cx:=⟨[],true⟩) (ro:=none) (fun id hu=>hu) (fun h=>by cases h) ca _ s0 φ a0 w ha gu) ?_)))
 rintro e a1 w1 ⟨x,s1,jv,hq,xA,hm⟩
 cases e<;>cases x<;>first|(exact hm.elim)|(exact hq.elim)|skip
 have uU:a1.defers=[]:=by
  obtain⟨ms,g1,_,g3,_⟩:=xA.defers
  exact SM
 let cv:Array Value:=(fA.map a1.eval).toArray
 let fv:Value:= .func (.func g) #[] cv
 let dd:Deferred:={target:= .fn (.func g) cv,args:=#[]}
 let a2:Act:={tmps:=a1.tmps.setIfInBounds t fv,defers:=[dd]}
 have Qe:V.aM (ax M jv s1.H) jv s1.H w1 (fA.map s1.ev) cv.toList:=by
  simpa[cv]using kJ (M:=M) (φ:=jv) (H:=s1.H) (w:=w1) s1 a1 xA.env fA
 refine Ca hsc (fun l a w h=> ?_) ?_
 ·exact h.elim
 refine zj (im (Q:=fun e a w=>e= .normal/\a=a2/\w=w1) (oW (k:=0) (wpIn_region_list ?_)) ?_)
 ·have y1:Region.wanted o1 (yielded #[o1,o2] a1.tmps)=true:=by simp[Region.wanted,e3]
  have y2:∀tm,Region.wanted o2 (yielded #[o1,o2] tm)=true:=by intro tm;simp[Region.wanted,e6]
  have dI:(a1.put (some t) fv).eval (.tmp t)=fv:=by
   have:t<a1.tmps.size:=by rw[xA.size];exact ht
   simp[Act.put,Act.eval,Array.getD,this]
  show wpListIn (ed none) 0 P #[o1,o2] _ [o1,o2] a1 w1
  unfold wpListIn
  rw[if_pos y1]
  have x1:(execOp a1.eval o1).run P w1= .ok (.value fv) w1:=by simp[execOp,e1,fv,cv,Instr.makeFunc]
  refine kN (fun c hc=>by rw[e1]at hc;cases hc) ?_
  rw[x1]
  show wpListIn (ed none) 0 P #[o1,o2] _ [o2] (a1.put o1.dst fv) w1
  rw[e2]
  unfold wpListIn
  rw[if_pos (y2 _)]
  have x2:(execOp (a1.put (some t) fv).eval o2).run P w1= .ok (.defer dd) w1:=by
   simp[execOp,e4,resolve,dI,Deferred.ofValue,fv,dd]
  refine⟨fun _ _=>trivial, ?_⟩
  have:(o2.semAt (ed none).round (a1.put (some t) fv).eval)=execOp (a1.put (some t) fv).eval o2:=rfl
  rw[this,x2]
  unfold Oper.uponIn
  simp only[e5,wpListIn,Act.put,uU,a2,and_self]
 rintro e a w2 ⟨rfl,rfl,rfl⟩
 have Db:t<a1.tmps.size:=by rw[xA.size];exact ht
 let s2:S:=⟨aL s1.env t (.func (.func g) [] (fA.map s1.ev)),s1.o,s1.nx⟩
 have Mo:cq M jv s1.H w2 n ⟨[dd],false⟩ jv s2 a2 w2:=by
  refine⟨xA.heap,Trans.refl _ _ _,by simp[a2,xA.size],⟨[],rfl,List.nodup_nil,fun _=>rfl,fun r hr=>by cases hr⟩,fun i=> ?_⟩
  simp only[s2,a2,aR]
  by_cases h1:i=t
  ·subst h1
   have:(a1.tmps.setIfInBounds i fv).getD i undef=fv:=by simp[Array.getD,Db]
   simp only[if_true];rw[this]
   exact⟨#[],cv,rfl,rfl,Qe⟩
  ·have:(a1.tmps.setIfInBounds t fv).getD i undef=a1.tmps.getD i undef:=by
    simp only[Array.getD_eq_getD_getElem?]
    rw[Array.getElem?_setIfInBounds_ne (Ne.symm h1)]
   simp only[h1,if_false];rw[this]
   exact xA.env i
 have hb:=iT (P:=P) (n:=n) (b:=s1.nx) (rd:=false) bD cb _ _ s2 (fun _ _ h=>h) (by rw[WA];exact hq)
 refine im (iN (P:=P) (H0:=s1.H) (b:=s1.nx) (cx:=⟨[dd],false⟩) (ro:=none) (fun id hu=>hu) (fun _=>rfl) cb _ s2 jv a2 w2 hb Mo) ?_
 rintro e a3 w3 ⟨x,s3,YI,hq3,E7,wE⟩
 obtain⟨ms,g1,g2,_,g4⟩:=E7.defers
 have hinv:(invoke dd.target dd.args).run P=fun w=> .ok (.enter g cv) w:=by
  funext w
  have:=lF (w:=w) ⟨gn,hgn,TS,by rw[TT];rfl⟩ cv
  simpa[dd,invoke]using this
 have last:∀ {w4:World} {tm:Array Value} {u:V} {val:Value} {m0:FrameMode},m0≠ .run->zm M jv s1.H w2 YI s3 a3.tmps w4->V.den (ax M YI s3.H) YI s3.H w4 u val->
  ((m0= .returning/\val= .nilIface)\/m0= .panicking [{v:=val,recovered:=false}])->
  (D7 P m r r1 xS (fA.map s1.ev) u s3.o s3.nx fun o nx=>me P rs K X .ret ⟨s3.env,o,nx⟩)->
  LeavesInM (ed none) 0 P fn a3.tmps (mY M φ (hp o nx) w K X) [dd] m0 w4:=by
  intro w4 tm u val m0 fu hB M9 hm0 bS
  have TU:=V.a8 hB.tr _ _ Qe
  refine⟨fu, .inr ⟨fun h=>by simp[ed]at h, .func g,cv,g,cv,rfl,by rw[hinv],fun _ _=>trivial,CallsDIn.mono (Hr (k:=0 - 1) bD hg bS (m:=m0) hB.heap TU M9 hm0) ?_⟩⟩
  rintro e u' w5 ⟨v,φ5,o5,nx5,rfl,zN,k1,k2,k3⟩
  show LeavesInM (ed none) 0 P fn a3.tmps (mY M φ (hp o nx) w K X) [] (settle u') w5
  rw[zN]
  obtain⟨vs,h1,h2⟩:=BA k3
  rw[<- Bx]at h1
  have YJ:∀i,V.den (ax M φ5 (hp o5 nx5)) φ5 (hp o5 nx5) w5 (s3.env i) (a3.tmps.getD i undef):=fun i=>V.aS k2 _ _ (hB.env i)
  obtain⟨acX,h3,h4⟩:=tN (P:=P) (s:=⟨s3.env,o5,nx5⟩) (a:=a3) k1 YJ _ _ h1
  exact⟨_,nb h3,φ5,o5,nx5,_,k1,xA.tr.trans (hB.tr.trans k2),BB h4,h2⟩
 have done:D7 P m r r1 xS (fA.map s1.ev) (.d .fq) s3.o s3.nx (fun o nx=>me P rs K X .ret ⟨s3.env,o,nx⟩)->LeavesInM (ed none) 0 P fn a3.tmps (mY M φ (hp o nx) w K X) a3.defers .returning w3:=by
  intro bS
  rw[g1]
  exact iq (P:=P) (k:=0) (fn:=fn) (R:=mY M φ (hp o nx) w K X) (u:= .returning) aj (ds:=[dd]) (fun w4 hB=>last (tm:=a3.tmps) aj hB (u:= .d .fq) (val:= .nilIface) (by simp[V.den,D.den]) (.inl ⟨rfl,rfl⟩) bS) ms w3 g2 g4 E7.toB
 cases e<;>cases x<;>first|(exact wE.elim)|skip
 ·exact done hq3
 ·exact hq3.elim
 ·exact done hq3
 ·rename_i v
  obtain⟨val,rfl,hd'⟩:=wE
  show LeavesInM (ed none) 0 P fn a3.tmps (mY M φ (hp o nx) w K X) a3.defers _ w3
  rw[g1]
  let YK:Nat->V:=fun i=>match i with|0=>v|i+1=>s3.env i
  have YL:(#[val]++a3.tmps).getD 0 undef=val:=by simp[Array.getD]
  have YM:∀i,(#[val]++a3.tmps).getD (i+1) undef=a3.tmps.getD i undef:=by
   intro i
   simp only[Array.getD_eq_getD_getElem?]
   rw[Array.getElem?_append_right (by simp)]
   simp
  have Mp:zm M jv s1.H w2 YI ⟨YK,s3.o,s3.nx⟩ (#[val]++a3.tmps) w3:=⟨E7.heap,E7.tr,fun i=>by
   cases i with
   |zero=>rw[YL];exact hd'
   |succ i=>rw[YM];exact E7.env i⟩
  have JZ:∀w4,zm M jv s1.H w2 YI ⟨YK,s3.o,s3.nx⟩ (#[val]++a3.tmps) w4->LeavesInM (ed none) 0 P fn a3.tmps (mY M φ (hp o nx) w K X) [dd] (.panicking [{v:=val,recovered:=false}]) w4:=by
   intro w4 hB
   have hv4:=hB.env 0
   rw[YL]at hv4
   refine last (tm:=a3.tmps) aj ⟨hB.heap,hB.tr,fun i=> ?_⟩ hv4 (.inr rfl) hq3
   have hs:=hB.env (i+1)
   rw[YM]at hs
   exact hs
  exact iq (P:=P) (k:=0) (fn:=fn) (R:=mY M φ (hp o nx) w K X) (u:= .panicking [{v:=val,recovered:=false}]) aj (ds:=[dd]) JZ ms w3 g2 g4 Mp
end
end Go.Proofs.YtonbelhklnmjnaaGreat
namespace Go.Proofs.YtonbelhklnmjnaaGreat
theorem xE.D8 {P:Program}{g:FuncId}{ds:List D}{o:Nat->ab}{fr:Nat}{ty:TypeId}{sz:Nat}{es:List D}
 (h:cK P g (ds.map .d) (fun _=> .no) 0 (fun v o1 _=>(∃j ep,v= .osl j ep/\o1 j= .arr ep ty sz es)\/(v= .bW/\es=[]/\0<sz)) (fun _ _ _=>False)):
 xE P g (ds.map .d) [] o fr (.osl fr 0) [(fr, .arr 0 ty sz es)]:=by
 refine⟨h.1,fun o' us M φ w vals _ db hH hd=> ?_⟩
 let cQ:Place:=fun _=> .nilFunc
 have wH:∀b, ¬de cQ (hp (fun _=> .no) 0) b:=by rintro b ⟨id,hl,_⟩;simp[hp,ab.live]at hl
 have hM:∀b,ax M φ ⟨o',us⟩ b->b<w.heap.size:=fun b hb=>hb.elim (hH.AD b) fun hl=>(hH.ours b hl).2
 have xb:=(V.cA _ _).1 hd
 refine(h.2 (ax M φ ⟨o',us⟩) cQ w vals (lI cQ hM) ((V.cA _ _).2 (D.a8 (w:=w) (w':=w) (B:=ax M φ ⟨o',us⟩) (fun b _ hB=>⟨rfl,fun h=>h.elim hB (wH b)⟩) _ _ xb))).mono ?_
 rintro e w' ⟨jv,o1,n1,v,k1,k2,k3⟩
 have hk:eF (fun _=>False) w w':=⟨k2.cw.os,k2.cw.tape,k2.cw.output,k2.cw.size,fun k hk _=>k2.cw.block k hk (wH k)⟩
 have Ix:(⟨o',us⟩:Hp).put [(fr, .arr 0 ty sz es)]=⟨put o' [(fr, .arr 0 ty sz es)],fun id=>us id\/id=fr⟩:=by
  simp only[Hp.put]
  congr 1
  funext id
  simp
 have fin:∀ (val:Value) (xs:List Value),(∀b,eK val=some b->w.heap.size<=b/\b<w'.heap.size)->0<sz->w'.ownsRow 0 ty sz val es.length xs->
  (gz (ax M (aL φ fr val) ((⟨o',us⟩:Hp).put [(fr, .arr 0 ty sz es)])) w' sz es xs)->
  val.oneCell'=true->
  ∃aO,aC M aO ⟨put o' [(fr, .arr 0 ty sz es)],fun id=>us id\/id=fr⟩ w'/\Trans φ ⟨o',us⟩ w aO ⟨put o' [(fr, .arr 0 ty sz es)],fun id=>us id\/id=fr⟩ w'/\
   ∃J0,Ending.returned val= .returned J0/\V.den (ax M aO ⟨put o' [(fr, .arr 0 ty sz es)],fun id=>us id\/id=fr⟩) aO ⟨put o' [(fr, .arr 0 ty sz es)],fun id=>us id\/id=fr⟩ w' (.osl fr 0) J0:=by
  intro val xs j5 ec eu bX TV
  have qf:=jl hH hk db (.arr 0 ty sz es) val j5 (by
   unfold ba
   rw[show((⟨o',us⟩:Hp).put [(fr, .arr 0 ty sz es)]).o fr= .arr 0 ty sz es by simp]
   refine⟨ec,xs, ?_,bX⟩
   rw[show aL φ fr val fr=val by simp]
   exact eu)
  have Qf:=eM (φ:=φ) (H:=⟨o',us⟩) hk db (.arr 0 ty sz es) val (fun b hb=>(j5 b hb).1)
  rw[Ix]at qf Qf
  refine⟨aL φ fr val,qf,Qf,val,rfl,TV, .inr rfl,fun e he=> ?_⟩
  have ou:0=e:=by
   have:(put o' [(fr,ab.arr 0 ty sz es)] fr).ct=some 0:=by simp[put,ab.ct]
   rw[show(⟨put o' [(fr, .arr 0 ty sz es)],fun id=>us id\/id=fr⟩:Hp).o fr=put o' [(fr, .arr 0 ty sz es)] fr from rfl,this]at he
   injection he
  exact⟨ad,fun _=>aj⟩
 cases e with
 |outgrown=>exact k3.elim
 |panicked ch=>obtain⟨_,_,_,h⟩:=k3;exact h.elim
 |returned val=>
  obtain⟨g1,⟨j,ep,rfl,hj⟩|⟨rfl,rfl,ec⟩⟩:=k3
  ·obtain⟨v0,v1,v2⟩:=g1
   have fK:val=jv j:=(v2 ep (by show(o1 j).ct=some ep;rw[hj];rfl)).2 rfl
   have c0:∀b,eK val=some b->de jv (hp o1 n1) b:=fun b hb=>⟨j,by show(o1 j).live=true;rw[hj];rfl,by rw[<- fK];exact hb⟩
   have j5:∀b,eK val=some b->w.heap.size<=b/\b<w'.heap.size:=fun b hb=>⟨(k2.grow b (c0 b hb)).resolve_left (wH b),(k1.ours b (c0 b hb)).2⟩
   have J1:=k1.ok j
   unfold ba at J1
   rw[show(hp o1 n1).o j= .arr ep ty sz es from hj]at J1
   obtain⟨ec,xs,eu,bX⟩:=J1
   have hBs:∀b,ax M (aL φ fr val) ((⟨o',us⟩:Hp).put [(fr, .arr 0 ty sz es)]) b->ax (ax M φ ⟨o',us⟩) jv (hp o1 n1) b:=by
    rintro b (hb|⟨id,hl,hb⟩)
    ·exact .inl (.inl hb)
    ·by_cases e:id=fr
     ·subst e
      simp at hb
      exact .inr (c0 b hb)
     ·simp[e]at hl hb
      exact .inl (.inr ⟨id,hl,hb⟩)
   exact fin val xs j5 ec (by rw[fK];exact eu) (bX.mono (w:=w') (w':=w') (fun b _ hB=>⟨rfl,fun h=>hB (hBs b h)⟩)) v0
  ·have g1:val= .slice none 0 0:=g1
   subst g1
   exact fin _ [] (fun b hb=>by cases hb) ec (World.ownsRow_nil w' 0 ty sz) ⟨[],rfl,aj,rfl⟩ rfl
theorem xE.NL {P:Program}{g:FuncId}{args:List V}{ds:List D}{o:Nat->ab}{fr:Nat}{ty:TypeId}{sz:Nat}{es:List D}
 (eX:cn o args=some ds) (pD:D.j9 es=true) (h:cK P g (ds.map .d) (fun _=> .no) 0 (fun v o1 _=>(∃j ep,v= .osl j ep/\o1 j= .arr ep ty sz es)\/(v= .bW/\es=[]/\0<sz)) (fun _ _ _=>False)):
 xE P g args (V.bF args) o fr (.osl fr 0) [(fr, .arr 0 ty sz es)]:=by
 refine⟨h.1,fun o' us M φ w vals hag db hH hd=> ?_⟩
 obtain⟨f1,f2,f3,f4,f5⟩:=du hH (V.bF args) (fun id aB=>(hag id aB).2)
 generalize hHF:(⟨o',us⟩:Hp).put (dk (⟨o',us⟩:Hp).o (V.bF args))=HF at f1 f2 f3
 let cQ:Place:=fun _=> .nilFunc
 have wH:∀b, ¬de cQ (hp (fun _=> .no) 0) b:=by rintro b ⟨id,hl,_⟩;simp[hp,ab.live]at hl
 have hM:∀b,ax M φ HF b->b<w.heap.size:=fun b hb=>hb.elim (f1.AD b) fun hl=>(f1.ours b hl).2
 have xb:D.aM (ax M φ HF) w ds vals.toList:=dE f1 args ds _ (fun id aB=>by rw[f3 id aB];show(o' id).fz=(o id).fz;rw[(hag id aB).1]) eX (V.a8 f2 _ _ hd)
 refine(h.2 (ax M φ HF) cQ w vals (lI cQ hM) ((V.cA _ _).2 (D.a8 (w:=w) (w':=w) (B:=ax M φ HF) (fun b _ hB=>⟨rfl,fun h=>h.elim hB (wH b)⟩) _ _ xb))).mono ?_
 rintro e w' ⟨jv,o1,n1,v,k1,k2,k3⟩
 have hk:eF (fun _=>False) w w':=⟨k2.cw.os,k2.cw.tape,k2.cw.output,k2.cw.size,fun k hk _=>k2.cw.block k hk (wH k)⟩
 have Ix:(⟨o',us⟩:Hp).put [(fr, .arr 0 ty sz es)]=⟨put o' [(fr, .arr 0 ty sz es)],fun id=>us id\/id=fr⟩:=by
  simp only[Hp.put]
  congr 1
  funext id
  simp
 have fin:∀ (val:Value) (xs:List Value),(∀b,eK val=some b->w.heap.size<=b/\b<w'.heap.size)->0<sz->w'.ownsRow 0 ty sz val es.length xs->
  (gz (ax M (aL φ fr val) ((⟨o',us⟩:Hp).put [(fr, .arr 0 ty sz es)])) w' sz es xs)->
  val.oneCell'=true->
  ∃aO,aC M aO ⟨put o' [(fr, .arr 0 ty sz es)],fun id=>us id\/id=fr⟩ w'/\Trans φ ⟨o',us⟩ w aO ⟨put o' [(fr, .arr 0 ty sz es)],fun id=>us id\/id=fr⟩ w'/\
   ∃J0,Ending.returned val= .returned J0/\V.den (ax M aO ⟨put o' [(fr, .arr 0 ty sz es)],fun id=>us id\/id=fr⟩) aO ⟨put o' [(fr, .arr 0 ty sz es)],fun id=>us id\/id=fr⟩ w' (.osl fr 0) J0:=by
  intro val xs j5 ec eu bX TV
  have qf:=jl hH hk db (.arr 0 ty sz es) val j5 (by
   unfold ba
   rw[show((⟨o',us⟩:Hp).put [(fr, .arr 0 ty sz es)]).o fr= .arr 0 ty sz es by simp]
   refine⟨ec,xs, ?_,bX⟩
   rw[show aL φ fr val fr=val by simp]
   exact eu)
  have Qf:=eM (φ:=φ) (H:=⟨o',us⟩) hk db (.arr 0 ty sz es) val (fun b hb=>(j5 b hb).1)
  rw[Ix]at qf Qf
  refine⟨aL φ fr val,qf,Qf,val,rfl,TV, .inr rfl,fun e he=> ?_⟩
  have ou:0=e:=by
   have:(put o' [(fr,ab.arr 0 ty sz es)] fr).ct=some 0:=by simp[put,ab.ct]
   rw[show(⟨put o' [(fr, .arr 0 ty sz es)],fun id=>us id\/id=fr⟩:Hp).o fr=put o' [(fr, .arr 0 ty sz es)] fr from rfl,this]at he
   injection he
  exact⟨ad,fun _=>aj⟩
 cases e with
 |outgrown=>exact k3.elim
 |panicked ch=>obtain⟨_,_,_,h⟩:=k3;exact h.elim
 |returned val=>
  obtain⟨g1,⟨j,ep,rfl,hj⟩|⟨rfl,rfl,ec⟩⟩:=k3
  ·obtain⟨v0,v1,v2⟩:=g1
   have fK:val=jv j:=(v2 ep (by show(o1 j).ct=some ep;rw[hj];rfl)).2 rfl
   have c0:∀b,eK val=some b->de jv (hp o1 n1) b:=fun b hb=>⟨j,by show(o1 j).live=true;rw[hj];rfl,by rw[<- fK];exact hb⟩
   have j5:∀b,eK val=some b->w.heap.size<=b/\b<w'.heap.size:=fun b hb=>⟨(k2.grow b (c0 b hb)).resolve_left (wH b),(k1.ours b (c0 b hb)).2⟩
   have J1:=k1.ok j
   unfold ba at J1
   rw[show(hp o1 n1).o j= .arr ep ty sz es from hj]at J1
   obtain⟨ec,xs,eu,bX⟩:=J1
   obtain⟨evs,e1,e2,e3⟩:=bX
   exact fin val xs j5 ec (by rw[fK];exact eu) ⟨evs,e1,e2,D.l6 _ _ pD e3⟩ v0
  ·have g1:val= .slice none 0 0:=g1
   subst g1
   exact fin _ [] (fun b hb=>by cases hb) ec (World.ownsRow_nil w' 0 ty sz) ⟨[],rfl,aj,rfl⟩ rfl
theorem xE.NM {P:Program}{g:FuncId}{args:List V}{ds:List D}{o0 o:Nat->ab}{rd:List Nat}{fr:Nat}{v:V}{Δ:List (Nat×ab)}(aB:V.bF args=[])(eX:cn o0 args=some ds)
 (h:xE P g (ds.map .d) rd o fr v Δ):xE P g args rd o fr v Δ:=
 ⟨h.1,fun o' us M φ w vals h1 h2 hH hd=>h.2 o' us M φ w vals h1 h2 hH ((V.cA _ _).2 (dE hH args ds _ (by rw[aB];intro id h;cases h) eX hd))⟩
def Qg(P:Program)(f:FuncId):Prop:=
 Enters P f/\∀ (w:World) (b:Nat) (es:Array MapEntry) (clock:Nat),w.heap[b]? =some (.map es clock)->
  Calls P f #[.map (some b)] w fun e w'=>e= .returned (.map (some w.heap.size))/\w'=w.alloc (.map es clock)
theorem cK.TW {P:Program}{f:FuncId}(h:Qg P f){o:Nat->ab}{nx id:Nat}{kt vt:TypeId}{l:List (D×D)}(ho:o id= .map kt vt l){K X:V->(Nat->ab)->Nat->Prop}
 (hK:K (.mp nx) (aL o nx (.map kt vt l)) (nx+1)):cK P f [.mp id] o nx K X:=by
 refine⟨h.1,fun M φ w vals hH hd=> ?_⟩
 have hlen:=V.aH _ _ hd
 obtain⟨v,rfl⟩:∃v,vals=#[v]:=by
  match vals,hlen with
  |⟨[v]⟩,_=>exact⟨v,rfl⟩
 obtain⟨v',tf,M9⟩:=V.dP _ _ 0 (.mp id) hd rfl
 simp only[List.getElem?_cons_zero,Option.some.injEq]at tf
 subst tf
 have bn:=hH.ok id
 have xB:(hp o nx).o id= .map kt vt l:=ho
 simp only[ba,xB]at bn
 obtain⟨b,es,clock,e1,e2,e3,e4⟩:=bn
 have hv:v=φ id:=M9.2.2 (by rw[xB];rfl)
 rw[hv,e1]
 refine(h.2 w b es clock e2).mono fun e w' ⟨he,hw⟩=> ?_
 subst he;subst hw
 have db: ¬ (hp o nx).us nx:=fun h=>Nat.lt_irrefl _ h
 have Ix:(hp o nx).put [(nx, .map kt vt l)]=hp (aL o nx (.map kt vt l)) (nx+1):=by
  simp only[Hp.put,hp]
  congr 1
  funext j
  simp only[List.map_cons,List.map_nil,List.mem_singleton,eq_iff_iff]
  omega
 have hvb:∀c,eK (.map (some w.heap.size))=some c->w.heap.size<=c/\c<(w.alloc (.map es clock)).heap.size:=by
  intro c hc;simp[eK]at hc;subst hc;simp
 have ht:=eM (φ:=φ) (H:=hp o nx) (cR w (.map es clock)) db (.map kt vt l) (.map (some w.heap.size)) fun c hc=>(hvb c hc).1
 refine⟨aL φ nx (.map (some w.heap.size)),aL o nx (.map kt vt l),nx+1, .mp nx, ?_, ?_, ?_,hK⟩
 ·rw[<- Ix]
  refine jl hH (cR w _) db _ _ hvb ?_
  unfold ba
  simp only[bO,aR,if_true]
  exact⟨w.heap.size,es,clock,rfl,heap_alloc_new w _,e3,aW.mono (ht.blocks (M:=M)) l _ e4⟩
 ·rw[<- Ix];exact ht
 ·rw[<- Ix];exact⟨rfl,aj,fun _=>aj⟩
end Go.Proofs.YtonbelhklnmjnaaGreat
