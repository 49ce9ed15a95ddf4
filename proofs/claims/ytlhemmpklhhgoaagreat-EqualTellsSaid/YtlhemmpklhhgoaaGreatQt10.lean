/-
  A PART OF THE PROOF. Conditions: none.
-/
import Derived.Test.YtlhemmpklhhgoaaGreatQt9
set_option linter.unusedSimpArgs false
set_option linter.unusedVariables false
namespace Go.Proofs.YtlhemmpklhhgoaaGreat
section
section
variable (ρ:Nat->Option Nat)(o' o:Nat->ab)(nx:Nat)
end
section
variable {M M':Nat->Prop}{φ aI:Place}{H H':Hp}{w:World}{ρ:Nat->Option Nat}{nx:Nat}
end
end
@[go_sem] theorem oj (v:V) (l:List V):aY (v::l) 0=v:=rfl
@[go_sem] theorem oo (v:V) (l:List V) (i:Nat):aY (v::l) (i+1)=aY l i:=rfl
@[go_sem] theorem qO (i:Nat):aY [] i= .ad:=by simp[aY]
@[go_sem] theorem RE (k:Nat):(0<=(k:Int))=True:=aH
attribute [go_sem] List.getElem?_map List.length_map Int.toNat_natCast
attribute [go_sem] eV List.flatMap_cons List.flatMap_nil
attribute [go_sem] isConst rZ ND rX rY BJ rW qh Eb NF x8 HE pv pw x7 uZ u0 qi
attribute [go_sem] oR V.refs V.aO
attribute [go_sem] List.all_nil List.all_cons Option.some.injEq D.int.injEq D.bool.injEq Nat.zero_add Nat.add_zero
theorem wrap64{n:Int}(h1: -9223372036854775808<=n)(h2:n<=9223372036854775807):IntKind.i64.wrap n=n:=by
 unfold IntKind.wrap
 have e1:((2:Int)^IntKind.i64.bits)=18446744073709551616:=bD
 have e2:((2:Int)^(IntKind.i64.bits - 1))=9223372036854775808:=bD
 have e3:IntKind.i64.signed=true:=rfl
 simp only[e1,e2,e3,Bool.true_and,decide_eq_true_eq]
 split<;>omega
structure Good (o:Nat->ab) (nx:Nat):Prop where
 fresh:∀id,nx<=id->o id= .no
 refs:∀id,∀r∈(o id).refs,r<nx
theorem Good.nil {nx:Nat}:Good (fun _=> .no) nx:=⟨fun _ _=>rfl,fun id r h=>by cases h⟩
theorem Good.ay {o:Nat->ab}{nx i:Nat}{x:ab}(h:Good o nx)(hi:i<nx)(hx:x.refs.all (fun r=>decide (r<nx))=true):Good (ay o i x) nx:=by
 refine⟨fun id aw=> ?_,fun id r hr=> ?_⟩
 ·rw[ae _ _ _ _ (by omega)];exact h.fresh id aw
 ·by_cases e:id=i
  ·subst e
   rw[aa]at hr
   simpa using List.all_eq_true.1 hx r hr
  ·rw[ae _ _ _ _ e]at hr
   exact h.refs id r hr
theorem Good.mono {o:Nat->ab}{nx m:Nat}(h:Good o nx)(hm:nx<=m):Good o m:=⟨fun id aw=>h.fresh id af,fun id r hr=>Nat.lt_of_lt_of_le (h.refs id r hr) hm⟩
theorem Good.lt {o:Nat->ab}{nx id:Nat}(h:Good o nx)(hn:o id≠ .no):id<nx:=by
 rcases Nat.lt_or_ge id nx with hl|hl
 ·exact hl
 ·exact absurd (h.fresh id hl) hn
def CtO(P:Program)(g:FuncId)(args:List V)(o:Nat->ab)(v:V):Prop:=
 ∀nx,Good o nx->∀K X,(∀o' nx',nx<=nx'->Good o' nx'->(∀id,id<nx->o' id=o id)->K v o' nx')->bZ P g args o nx K X
theorem V.xR:∀ (l:List V) (i:Nat),∀r∈(aY l i).refs,r∈V.aO l
 |[],i,r,h=>by rw[qO]at h;cases h
 |v::l,0,r,h=>by rw[oj]at h;simp only[V.aO,List.mem_append];exact .inl h
 |v::l,i+1,r,h=>by rw[oo]at h;simp only[V.aO,List.mem_append];exact .inr (V.xR l i r h)
theorem bH.back {b:Nat}{s:S}{env:Nat->V}{o:Nat->ab}{nx:Nat}(hb:b<=nx)(hn:nx<=s.nx)(hg:Good o nx)(ho:∀id,id<nx->s.o id=o id)
 (he:∀i,env i= .ad\/(env i=s.env i/\∀r∈(env i).refs,r<nx)):bH b s ⟨env,o,nx⟩:=by
 intro M φ w tm hH hd
 have cT:∀k,cD φ (hp o nx) k->cD φ s.H k:=by
  rintro k ⟨id,h1,h2⟩
  have aw:id<nx:=hg.lt (fun e=>by simp only[hp]at h1;rw[e]at h1;cases h1)
  exact⟨id,by simp only[S.H];rw[ho id aw];exact h1,h2⟩
 have hB:∀k, ¬aq M φ s.H k-> ¬aq M φ (hp o nx) k:=fun k h h'=>h (h'.imp id (cT k))
 have fK:∀ (v:V) (val:Value),(∀r∈v.refs,r<nx)->V.den (aq M φ s.H) φ s.H w v val->V.den (aq M φ (hp o nx)) φ (hp o nx) w v val:=fun v val hr h=>
  V.nv (H:=s.H) (H':=hp o nx) hB v val (fun id aw=>⟨(ho id (hr id aw)).symm,rfl,hr id aw⟩) h
 have lh:∀ (v:List V) (val:List Value),(∀r∈V.aO v,r<nx)->V.aD (aq M φ s.H) φ s.H w v val->V.aD (aq M φ (hp o nx)) φ (hp o nx) w v val:=fun v val hr h=>
  V.gv (H:=s.H) (H':=hp o nx) hB v val (fun id aw=>⟨(ho id (hr id aw)).symm,rfl,hr id aw⟩) h
 refine⟨φ,⟨fun id=> ?_,fun id hu=>hg.fresh id (by simpa[S.H]using hu),fun i j k h1 h2 h3 h4=> ?_,fun k hk=>hH.ours k (cT k hk),hH.Bi⟩,fun i=> ?_,cT,hb,fun id aw hr=> ?_,fun id e' aw p9=> ?_⟩
 ·have bf:=hH.ok id
  have hrefs:=hg.refs id
  unfold aR at bf|-
  by_cases aw:id<nx
  ·have e:s.H.o id=o id:=ho id aw
   rw[e]at bf
   simp only[S.H]at bf|-
   cases hx:o id with
   |no=>trivial
   |row cs=>
    simp only[hx]at bf hrefs|-
    exact ZG
   |arr ep ty sz es=>
    simp only[hx]at bf|-
    obtain⟨k1,xs,k2,evs,k3,k4,k5⟩:=bf
    exact Y0
   |uo ep es=>
    simp only[hx]at bf|-
    exact D.aT (fun b _ hn=>⟨rfl,hB b hn⟩) _ _ bf
   |map kt vt es=>
    simp only[hx]at bf|-
    obtain⟨b,es',clock,k1,k2,k4,k3⟩:=bf
    exact YX
   |b7 l=>
    simp only[hx]at bf|-
    exact kK.mono (fun b _ hn=>⟨rfl,hB b hn⟩) bf
   |rG l last=>
    simp only[hx]at bf|-
    obtain⟨b,k1,k2⟩:=bf
    exact Qt
   |zH s pos=>
    simp only[hx]at bf|-
    exact bf
   |loop nf n env ps a b st pd=>
    simp only[hx]at bf hrefs|-
    exact QJ
  ·simp only[S.H]
   rw[hg.fresh id (by omega)]
   trivial
 ·have hi:i<nx:=hg.lt (fun e=>by simp only[S.H]at h1;rw[e]at h1;cases h1)
  have hj:j<nx:=hg.lt (fun e=>by simp only[S.H]at h2;rw[e]at h2;cases h2)
  exact hH.apart i j k (by simp only[S.H];rw[ho i hi];exact h1) (by simp only[S.H];rw[ho j hj];exact h2) h3 h4
 ·rcases he i with h|⟨h1,h2⟩
  ·simp only[h];trivial
  ·have:=hd i
   rw[<- h1]at this
   exact fK _ _ h2 this
 ·have ck:id<nx:=af
  exact⟨by rw[ho id ck];exact hr,rfl⟩
 ·have ck:id<nx:=af
  exact⟨e',by rw[ho id ck];exact p9,Nat.le_refl _,fun _=>rfl⟩
def lG(nx:Nat)(env:Nat->V):List V->Nat->Prop
 |[],_=>True
 |v::l,i=>(v= .ad\/(v=env i/\∀r∈v.refs,r<nx))/\lG nx env l (i+1)
theorem bH.bM {b:Nat}{e:Nat->V}{so:Nat->ab}{m:Nat}(l:List V){o:Nat->ab}{nx:Nat}(hb:b<=nx)(hn:nx<=m)(hg:Good o nx)(ho:∀id,id<nx->so id=o id)(he:lG nx e l 0):bH b ⟨e,so,m⟩ ⟨aY l,o,nx⟩:=by
 refine bH.back hb hn hg ho ?_
 have key:∀ (l:List V) (i:Nat),lG nx e l i->∀j,aY l j= .ad\/(aY l j=e (i+j)/\∀r∈(aY l j).refs,r<nx):=by
  intro l
  induction l with
  |nil=>intro i _ j;rw[qO];exact .inl rfl
  |cons v l ih=>
   intro i h j
   cases j with
   |zero=>rw[oj];exact h.1
   |succ j=>
    rw[oo]
    have:=ih (i+1) h.2 j
    rwa [show i+1+j=i+(j+1) by omega]at this
 intro i
 have:=key l 0 he i
 rwa [Nat.zero_add]at this
theorem xQ{nx:Nat}{env:Nat->V}{i:Nat}:lG nx env [] i:=trivial
theorem fU{nx:Nat}{env:Nat->V}{l:List V}{i:Nat}(h:lG nx env l (i+1)):lG nx env (.ad::l) i:=⟨.inl rfl,h⟩
theorem nZ{nx:Nat}{env:Nat->V}{l:List V}{i:Nat}{x:D}(he:env i= .d x)(h:lG nx env l (i+1)):lG nx env (.d x::l) i:=⟨.inr ⟨he.symm,fun r hr=>by simp[V.refs]at hr⟩,h⟩
theorem FB{nx:Nat}{env:Nat->V}{l:List V}{i:Nat}{v:V}(he:env i=v)(hr:∀r∈v.refs,r<nx)(h:lG nx env l (i+1)):lG nx env (v::l) i:=⟨.inr ⟨he.symm,hr⟩,h⟩
theorem bH.d0 {e:Nat->V}{so:Nat->ab}{m:Nat}(l:List V)(he:lG 0 e l 0):bH 0 ⟨e,so,m⟩ ⟨aY l,fun _=> .no,0⟩:=bH.bM l (Nat.le_refl 0) (Nat.zero_le _) Good.nil (fun _ h=>absurd h (Nat.not_lt_zero _)) he
theorem oP{k:Nat}(h:(k:Int)+1<=9223372036854775807):IntKind.i64.wrap ((k:Int)+1)=((k+1:Nat):Int):=by rw[wrap64 (by omega) h];rfl
theorem mC{k:IntKind}{a b:Int}(h:a=b):V.d (D.int k a)=V.d (D.int k b):=by rw[h]
theorem Bn.UE {P:Program}{g:FuncId}{args:List V}{rd:List Nat}{o:Nat->ab}{x:D}(nx:Nat)(uu:rd.all (fun id=>decide (id<nx))=true)(dF:∀id∈V.aO args,id∈rd)(rI:∀id∈rd,∀j∈(o id).refs,j∈rd)
 (h:CtO P g args (EC rd o) (.d x)):Bn P g args rd o (.ret [x]) []:=by
 have ck:∀id∈rd,id<nx:=fun id aw=>by simpa using List.all_eq_true.1 uu id aw
 have F2:∀id,id∈rd->EC rd o id=o id:=fun id aw=>by simp[EC,aw]
 have CJ:∀id,id∉rd->EC rd o id= .no:=fun id aw=>by simp[EC,aw]
 have aaE:Good (EC rd o) nx:=by
  refine⟨fun id aw=>CJ id (fun hm=>by have:=ck id hm;omega),fun id r hr=> ?_⟩
  by_cases aw:id∈rd
  ·rw[F2 id aw]at hr;exact ck r (rI id aw r hr)
  ·rw[CJ id aw]at hr;cases hr
 refine Bn.kM (nx:=nx) ck dF rI (fun x hx=>by cases hx) (fun x hx=>by cases hx) (h nx aaE _ _ fun o' nx' _ _ h3=>⟨fun id aw=> ?_,[.d x],[x],rfl,rfl,rfl,fun id aw=>by simp[V.bp,V.ids]at aw⟩)
 rw[h3 id (ck id aw),F2 id aw];rfl
theorem CK{P:Program}{g:FuncId}{K:KD}{X:XD}{o:Nat->ab}{nx fr:Nat}{all:List V}{rd:List Nat}{rs:List D}{Δ:List (Nat×ab)}(mJ:rd.all (fun id=>decide (id<nx))=true)(h:Bn P g all rd o (.ret rs) Δ)(hk:K (iV rs) Δ rd):sy P g K X o nx fr all:=by
 unfold sy
 exact⟨rd,Δ,mJ, .inl ⟨rs,h,hk⟩⟩
abbrev D.i (n:Int):D:= .int .i64 n
structure ef where
 name:List UInt8
 args:Int
structure aF where
 cons:List ef
 bW:List ef
inductive Tm where
 |mk (op n:Int) (kids:List Tm)
 deriving Inhabited
structure TB where
 var:Int
 term:Tm
def Tm.op:Tm->Int| .mk op _ _=>op
def Tm.n:Tm->Int| .mk _ n _=>n
def Tm.kids:Tm->List Tm| .mk _ _ l=>l
theorem Tm.eta (t:Tm):Tm.mk t.op t.n t.kids=t:=by cases t;rfl
theorem Tm.ind {P:Tm->Prop}(h:∀op n kids,(∀k∈kids,P k)->P (.mk op n kids)):∀t,P t:=
 fun t=>Tm.rec (motive_1:=P) (motive_2:=fun l=>∀k∈l,P k) (fun op n kids ih=>h op n kids ih) (fun _ h=>by cases h)
  (fun x l hx hl k hk=>(List.mem_cons.1 hk).elim (fun e=>e ▸ hx) (hl k)) t
mutual
def Tm.d:Tm->D
 | .mk op n kids=> .agg [.i op, .i n, .sl (Tm.ds kids)]
def Tm.ds:List Tm->List D
 |[]=>[]
 |t::l=>t.d::Tm.ds l
end
theorem Tm.EN:∀l:List Tm,Tm.ds l=l.map Tm.d
 |[]=>rfl
 |t::l=>by simp[Tm.ds,Tm.EN l]
theorem Tm.aaF (t:Tm):t.d= .agg [.i t.op, .i t.n, .sl (t.kids.map Tm.d)]:=by cases t;simp[Tm.d,Tm.EN,Tm.op,Tm.n,Tm.kids]
@[go_sem] theorem Tm.aei (t:Tm):D.agg [.i t.op, .i t.n, .sl (t.kids.map Tm.d)]=t.d:=(Tm.aaF t).symm
@[go_sem] theorem Tm.adz (t:Tm):D.cells t.d=[.i t.op, .i t.n, .sl (t.kids.map Tm.d)]:=by rw[Tm.aaF];rfl
theorem Tm.eY {P:Tm->Prop}(h:∀t:Tm,(∀k∈t.kids,P k)->P t):∀t,P t:=Tm.ind fun op n kids ih=>h (.mk op n kids) ih
theorem Tm.K7 (op n:Int)(l:List Tm):(Tm.mk op n l).d= .agg [.i op, .i n, .sl (l.map Tm.d)]:=by simp[Tm.d,Tm.EN]
@[reducible] def ef.d (x:ef):D:= .agg [.str x.name, .i x.args]
@[reducible] def aF.d (s:aF):D:= .agg [.sl (s.cons.map ef.d), .sl (s.bW.map ef.d)]
@[reducible] def TB.d (b:TB):D:= .agg [.i b.var, .i b.term.op, .i b.term.n, .sl (b.term.kids.map Tm.d)]
mutual
def Tm.fits:Tm->Prop
 | .mk _ _ kids=>kids.length<=9223372036854775807/\Tm.CL kids
def Tm.CL:List Tm->Prop
 |[]=>True
 |t::l=>t.fits/\Tm.CL l
end
theorem Tm.yK:∀l:List Tm,Tm.CL l↔∀k∈l,k.fits
 |[]=>by simp[Tm.CL]
 |t::l=>by simp[Tm.CL,Tm.yK l]
theorem Tm.bT (t:Tm):t.fits↔t.kids.length<=9223372036854775807/\∀k∈t.kids,k.fits:=by cases t;simp[Tm.fits,Tm.yK,Tm.kids]
mutual
def Tm.mm:Tm->Nat
 | .mk _ _ kids=>1+Tm.iM kids
def Tm.iM:List Tm->Nat
 |[]=>0
 |k::l=>Nat.max k.mm (Tm.iM l)
end
theorem Tm.CM:∀ {l:List Tm} {k:Tm},k∈l->k.mm<=Tm.iM l
 |x::l,k,h=>by
  simp only[Tm.iM]
  rcases List.mem_cons.1 h with rfl|h
  ·exact Nat.le_max_left _ _
  ·exact Nat.le_trans (Tm.CM h) (Nat.le_max_right _ _)
theorem Tm.qP {t k:Tm}(h:k∈t.kids):k.mm+1<=t.mm:=by
 cases t;simp only[Tm.kids]at h;simp only[Tm.mm];have:=Tm.CM h;omega
mutual
def pre:Tm->Int->List (Tm×Int)
 | .mk op n kids,d=>(.mk op n kids,d)::Om kids (d+1)
def Om:List Tm->Int->List (Tm×Int)
 |[],_=>[]
 |k::l,d=>pre k d++Om l d
end
theorem Is(l:List Tm)(d:Int):Om l d=l.flatMap fun k=>pre k d:=by
 induction l with
 |nil=>rfl
 |cons k l ih=>simp[Om,ih]
theorem nC(t:Tm)(d:Int):pre t d=(t,d)::t.kids.flatMap fun k=>pre k (d+1):=by cases t;simp[pre,Is,Tm.kids]
def dS(n low high:Int):Bool:=decide (low<=n)&&decide (n<=high)
def letterF(b:UInt8):Bool:= !((decide ((b.toNat:Int)<97)||decide (122<(b.toNat:Int)))&&(decide ((b.toNat:Int)<65)||decide (90<(b.toNat:Int))))
def jO(s:List UInt8):Bool:=s.all letterF&&dS s.length 1 8
def cB:List ef->List (List UInt8)->Option (List (List UInt8))
 |[],before=>some before
 |x::l,before=>if before.any (· ==x.name)then none else if(!jO x.name|| !dS x.args 0 4)=true then none else cB l (before++[x.name])
def fB:List UInt8:=[70,97,108,115,101]
def tB:List UInt8:=[84,114,117,101]
def mM(x:ef)(s:List UInt8):Bool:=x.name==s&&x.args==0
def kU(s:aF):Bool:=
 if(!dS s.cons.length 2 12||decide (8<(s.bW.length:Int)))=true then false else
 match s.cons with
 |a::b::_=>if(!mM a fB|| !mM b tB)=true then false else
  match cB s.cons []with
  |none=>false
  |some l=>(cB s.bW l).isSome
 |_=>false
mutual
def iN:Tm->Int->Int->Int
 | .mk _ _ kids,left,depth=>if left<1\/depth<1 then -1 else cC kids (left - 1) (depth - 1)
def cC:List Tm->Int->Int->Int
 |[],left,_=>left
 |k::l,left,depth=>if 0<=left then cC l (iN k left depth) depth else left
end
def iw(l:List ef)(n:Int):Int:=match l[n.toNat]? with|some x=>x.args|none=>0
def bB(s:aF)(t:Tm):Bool:=
 let k:Int:=t.kids.length
 if t.op=1 then k==0&&dS t.n 0 19
 else if t.op=2 then k==0&&dS t.n (-1000000) 1000000
 else if t.op=3 then dS t.n 0 (s.cons.length - 1)&&k==iw s.cons t.n
 else if t.op=4 then dS t.n 0 (s.bW.length - 1)&&k==iw s.bW t.n
 else if t.op=5 then dS t.n 0 (s.bW.length - 1)&&decide (k<iw s.bW t.n)
 else if t.op=8 then k==2&&dS t.n 0 19
 else if(dS t.op 6 15)=true then k==2&&t.n==0
 else false
mutual
def iy(s:aF):Tm->Bool
 | .mk op n kids=>bB s (.mk op n kids)&&uz s kids
def uz(s:aF):List Tm->Bool
 |[]=>true
 |k::l=>iy s k&&uz s l
end
def gA(s:aF)(t:Tm):Bool:=decide (0<=iN t 40 12)&&iy s t
mutual
def eZ:Tm->Bool
 | .mk op _ kids=>uA kids&&((decide (1<=op)&&decide (op<=3))||op==5)
def uA:List Tm->Bool
 |[]=>true
 |k::l=>eZ k&&uA l
end
mutual
def hO:Tm->Tm->Bool
 | .mk op n kids, .mk op' n' RF=>op==op'&&n==n'&&kids.length==RF.length&&iz kids RF
def iz:List Tm->List Tm->Bool
 |[],_=>true
 |k::l,k'::l'=>hO k k'&&iz l l'
 |_::_,[]=>true
end
def eg(t:Tm):Bool:=decide (0<=iN t 50 14)
def fR(l:List ef):Bool:=l.all fun x=>decide ((x.name.length:Int)<=30)
def ju(s:aF):Bool:= !(decide (16<(s.cons.length:Int))||decide (12<(s.bW.length:Int)))&&fR s.cons&&fR s.bW
section
def kV(id:Nat)(K X:V->(Nat->ab)->Nat->Prop)(e:fL)(s:S):Prop:=
 match e with
 | .normal=>∃nf m en p c d st pd,s.o id= .loop nf m en p c d st pd/\K (.d (.bool true)) (ay s.o id (.loop nf m en p c d .ready none)) s.nx
 | .ret=>∃nf m en p c d st pd,s.o id= .loop nf m en p c d st pd/\K (.d (.bool false)) (ay s.o id (.loop nf m en p c d .done (some .ret))) s.nx
 | .exit j=>∃nf m en p c d st pd,s.o id= .loop nf m en p c d st pd/\K (.d (.bool false)) (ay s.o id (.loop nf m en p c d .done (some (.exit j)))) s.nx
 | .bL v=>X v s.o s.nx
def UF(P:Program)(n b id:Nat)(fh:IC)(K X:V->(Nat->ab)->Nat->Prop)(e:fL)(s:S):Prop:=
 match e with
 | .normal=>∃nf m en p c d pd,s.o id= .loop nf m en p c d .ready pd/\ux P n b true fh (kV id K X) ⟨s.env,ay s.o id (.loop nf m en p c d .busy pd),s.nx⟩
 | .bL v=>X v s.o s.nx
 |_=>False
section
variable {P:Program}{M:Nat->Prop}{φ cL:Place}{H0:Hp}{w w0:World}{n:Nat}{s:S}{a:Act}{cx:Cx}
theorem CN{id:Nat}{x:ab}{s:S}(ck:id<s.nx)(j:Nat)(hu:(s.H.put [(id,x)]).us j):j<s.nx:=by
 simp only[dY]at hu
 rcases hu with hu|hu
 ·exact hu
 ·subst hu;exact ck
theorem vR{B:Nat->Prop}{H:Hp}{n:Nat}:∀ (ps:List Nat) (vs:List V) (us:List Value) (env:Nat->V) (tmps:Array Value),tmps.size=n->ps.length=vs.length->V.aD B φ H w vs us->ps.all (fun t=>decide (t<n))=true->(∀i,V.den B φ H w (env i) (tmps.getD i undef))->
 ((ps.zip us).foldl (fun tmps p=>tmps.setIfInBounds p.1 p.2) tmps).size=n/\∀i,V.den B φ H w (pH env ps vs i) (((ps.zip us).foldl (fun tmps p=>tmps.setIfInBounds p.1 p.2) tmps).getD i undef)
 |[],[],us,env,tmps,ek,_,hd,_,he=>by simp only[V.aD]at hd;subst hd;exact⟨ek,he⟩
 |[],v::vs,us,env,tmps,_,h,_,_,_=>by simp at h
 |t::ps,[],us,env,tmps,_,h,_,_,_=>by simp at h
 |t::ps,v::vs,us,env,tmps,ek,hl,hd,hp,he=>by
  obtain⟨u,us,rfl,h1,h2⟩:=hd
  simp only[List.all_cons,Bool.and_eq_true,decide_eq_true_eq]at hp
  simp only[List.zip_cons_cons,List.foldl_cons,pH]
  refine vR ps vs us (ay env t v) (tmps.setIfInBounds t u) (by simp[ek]) (by simpa using hl) h2 hp.2 (fun i=> ?_)
  simp only[aL]
  by_cases hi:i=t
  ·subst hi
   have:(tmps.setIfInBounds i u).getD i undef=u:=by simp[Array.getD,ek,hp.1]
   rw[if_pos rfl,this];exact h1
  ·have:(tmps.setIfInBounds t u).getD i undef=tmps.getD i undef:=by
    exact TE
   rw[if_neg hi,this];exact he i
theorem dO.vN (br:P.follows .mixedOrders=true){id:Nat}{args:List V}{o:Nat->ab}{nx:Nat}{K X:V->(Nat->ab)->Nat->Prop}{env:List V}{ps:List Nat}{jE fh:IC}{st:LoopState}{pd:Option jX}
 (ho:o id= .loop P.funcs.size n env ps jE fh st pd) (ck:id<nx) (EO:ps.all (fun t=>decide (t<n))=true) (hl:args.length=ps.length)
 (h:ux P n nx true jE (UF P n nx id fh K X) ⟨pH (aY env) ps args,o,nx⟩):dO P id args o nx K X:=by
 refine⟨by rw[ho];rfl,fun M φ w vals b hH hd eQ=> ?_⟩
 have aW:=hH.ok id
 simp only[aR,hp,ho]at aW
 obtain⟨b',r,h1,h2,h0,h3,h4,h5,h6,h7,h8,h9⟩:=aW
 rw[eQ]at h1;simp at h1;subst h1
 have hlen:=V.aB _ _ hd
 have ek:vals.size=r.params.size:=by
  have:r.params.toList.length=ps.length:=by rw[h5]
  simp at hlen this;omega
 let tm:Array Value:=(ps.zip vals.toList).foldl (fun tmps p=>tmps.setIfInBounds p.1 p.2) r.tmps
 have aaG:(r.params.zip vals).foldl (fun tmps (p:Tmp×Value)=>tmps.setIfInBounds p.1 p.2) r.tmps=tm:=by
  rw[<- Array.foldl_toList,Array.toList_zip,h5]
 obtain⟨p1,p2⟩:=vR (B:=aq M φ (hp o nx)) (H:=hp o nx) (φ:=φ) (w:=w) ps args vals.toList (aY env) r.tmps h6 hl.symm hd EO h9
 refine⟨r.fn,tm,r.assign,r.body, ?_,fun k=> ?_⟩
 ·simp only[Instr.yield,Sem.run_bind,kA h2,Result.andThen_ok,ek,ne_eq,not_true_eq_false,if_false,Sem.run_pure]
  rw[<- aaG]
 ·
   let s0:S:=⟨pH (aY env) ps args,o,nx⟩
   let a0:Act:={tmps:=tm,defers:=[]}
   have pE:cj M φ (hp o nx) w n ⟨[],true⟩ φ s0 a0 w:=⟨hH,Trans.refl _ _ _,p1,⟨[],rfl,List.nodup_nil,fun _=>rfl,fun r hr=>by cases hr⟩,p2⟩
   have vS:∀ {aI s' a' w'},cj M φ (hp o nx) w n ⟨[],true⟩ aI s' a' w'->a'.defers=[]:=by
    intro aI s' a' w' hs
    obtain⟨ms,g1,_,g3,_⟩:=hs.defers
    rw[g3 rfl]at g1;exact g1
   have aaH:∀ {aI s' a' w'} {nf m:Nat} {en:List V} {p:List Nat} {c d:IC} {st:LoopState} {pd:Option jX} (st':LoopState) (pd':Option jX),cj M φ (hp o nx) w n ⟨[],true⟩ aI s' a' w'->s'.o id= .loop nf m en p c d st pd->
    ∃r',w'.heap[b]? =some (.loop r')/\r'.state=st/\r'.pending=pd.map jX.code/\
     cj M φ (hp o nx) w n ⟨[],true⟩ aI ⟨s'.env,ay s'.o id (.loop nf m en p c d st' pd'),s'.nx⟩ a' {w' with heap:=w'.heap.setIfInBounds b (.loop {r' with state:=st',pending:=pd'.map jX.code})}:=by
    intro aI s' a' w' nf m en p c d st pd st' pd' hs mL
    have TZ:aI id= .pointer (some ⟨b,0,none⟩):=by
     have:=(hs.tr.rel.row id ck (by show(s'.o id).cu=true;rw[mL];rfl)).2
     rw[this];exact eQ
    have aaI:id<s'.nx:=hs.tr.rel.us id ck
    obtain⟨r',r1,r2,r3,r4,r5⟩:=yw (st':=st') (pd':=pd') hs.heap aaI (show s'.H.o id=_ from mL) TZ
    exact⟨r',r1,r2,r3,eR hs r4 r5 rfl (CN aaI)⟩
   have ha:=ir (P:=P) (n:=n) (b:=nx) (rd:=true) br r.assign _ _ s0 (fun _ _ h=>h) (by rw[h7];exact h)
   refine vz h0 (gP (ij (P:=P) (H0:=hp o nx) (b:=nx) (cx:=⟨[],true⟩) (ro:=some b) (fun id hu=>hu) (fun h=>by cases h) r.assign _ s0 φ a0 w ha pE) ?_)
   rintro e a1 w1 ⟨x,s1,iT,hq,oJ,hm⟩
   cases e<;>cases x<;>first|(exact hm.elim)|skip
   ·
     obtain⟨nf,m,en,p,c,d,pd1,q1,q2⟩:=hq
     obtain⟨r',r1,r2,r3,DV⟩:=aaH .busy pd1 oJ q1
     have UG:(Instr.beginRound b).run P w1= .ok () {w1 with heap:=w1.heap.setIfInBounds b (.loop {r' with state:= .busy,pending:=pd1.map jX.code})}:=by
      have e1:({r' with state:= .busy}:Loop)={r' with state:= .busy,pending:=pd1.map jX.code}:=by rw[<- r3]
      simp only[Instr.beginRound,Sem.run_bind,kA r1,Result.andThen_ok,iW _ r1,r2,Sem.run_pure,e1]
     refine⟨_,UG, ?_⟩
     have bg:=DV.heap.ok id
     simp only[aR,S.H,aL,if_true]at bg
     obtain⟨b2,r2',_,_,_,_,_,_,_,_,_,_⟩:=bg
     have hb:=ir (P:=P) (n:=n) (b:=nx) (rd:=true) br r.body _ _ _ (fun _ _ h=>h) (by rw[h8];exact q2)
     refine gP (ij (P:=P) (H0:=hp o nx) (b:=nx) (cx:=⟨[],true⟩) (ro:=some b) (fun id hu=>hu) (fun h=>by cases h) r.body _ _ iT a1 _ hb DV) ?_
     rintro e a2 w2 ⟨x,s2,H6,W0,DW,M9⟩
     have fin:∀ {nf m:Nat} {en:List V} {p:List Nat} {c d:IC} {st:LoopState} {pd:Option jX} (jump:Option jX) (t:Bool) (st':LoopState),t=jump.isNone->st'=(if jump.isNone then .ready else .done)->s2.o id= .loop nf m en p c d st pd->K (.d (.bool t)) (ay s2.o id (.loop nf m en p c d st' jump)) s2.nx->
      ∃v w',(Instr.endRound b (jump.map jX.code)).run P w2= .ok v w'/\ni M φ (hp o nx) w K X (.returned v) w':=by
      intro nf m en p c d st pd jump t st' ht jZ ho2 hK
      obtain⟨r3',g1,g2,g3,W1⟩:=aaH st' jump DW ho2
      refine⟨.bool t,_, ?_,H6,_,_,_,W1.heap,W1.tr,by simp only[V.den,D.den],hK⟩
      subst ht;subst jZ
      simp only[Instr.endRound,Sem.run_bind,kA g1,Result.andThen_ok,iW _ g1,Sem.run_pure,Option.isNone_map]
     cases e<;>cases x<;>first|(exact M9.elim)|skip
     ·obtain⟨nf,m,en,p,c,d,st,pd,k1,k2⟩:=W0
      exact fin none true .ready rfl rfl k1 k2
     ·rename_i j
      subst M9
      obtain⟨nf,m,en,p,c,d,st,pd,k1,k2⟩:=W0
      exact fin (some (.exit _)) false .done rfl rfl k1 k2
     ·obtain⟨nf,m,en,p,c,d,st,pd,k1,k2⟩:=W0
      exact fin (some .ret) false .done rfl rfl k1 k2
     ·obtain⟨val,rfl,k2⟩:=M9
      exact⟨vS DW,H6,_,_,_,DW.heap,DW.tr,val,rfl,k2,W0⟩
   ·exact hq.elim
   ·exact hq.elim
   ·obtain⟨val,rfl,k2⟩:=hm
    exact⟨vS oJ,iT,_,_,_,oJ.heap,oJ.tr,val,rfl,k2,hq⟩
end
end
section
def UH(ops:Array Oper)(t t1:Nat):Prop:=
 (∃o1 o2,ops=#[o1,o2]/\o1.op= .call ⟨.builtin .recover,#[],#[]⟩/\o1.dst=some t/\o1.guard=none/\o2.op= .assign (.tmp t)/\o2.dst=some t1/\o2.guard=none)\/
 (∃o1,ops=#[o1]/\t1=t/\o1.op= .call ⟨.builtin .recover,#[],#[]⟩/\o1.dst=some t/\o1.guard=none)
structure CO (P:Program) (g:FuncId) (n t t1:Nat) (ic:IC):Prop where
 get:∃fn id ops c,P.funcs[g]? =some fn/\(fn.name== "runtime.NumGoroutine")=false/\fn.ntmps=n/\fn.results=#[]/\fn.body=some (.seq (.region id ops false) c)/\
  UH ops t t1/\t<n/\t1<n/\low n c=ic
structure Gx (P:Program) (f:FuncId) (n:Nat) (jE fh:IC) (g:FuncId) (t:Nat) (bP:List Operand) (rs:List ResultVar):Prop where
 get:∃fn id o1 o2 a b d,P.funcs[f]? =some fn/\(fn.name== "runtime.NumGoroutine")=false/\fn.ntmps=n/\fn.results.toList=rs/\fn.body=some (.seq a d)/\(d= .seq (.region id #[o1,o2] false) b\/d= .scope (.seq (.region id #[o1,o2] false) b))/\
  o1.op= .makeFunc (.func g) #[] bP.toArray/\o1.dst=some t/\o1.guard=none/\o2.op= .defer ⟨.value (.tmp t),#[],#[]⟩/\o2.dst=none/\o2.guard=none/\t<n/\low n a=jE/\low n b=fh
def It(K:(Nat->ab)->Nat->Prop)(e:fL)(s:S):Prop:=match e with| .normal| .ret=>K s.o s.nx|_=>False
def EP(P:Program)(n t t1:Nat)(ic:IC)(bP:List V)(u:V)(o:Nat->ab)(nx:Nat)(K:(Nat->ab)->Nat->Prop):Prop:=
 bP.length<=n/\ux P n nx true ic (It K) ⟨ay (ay (cw bP) t u) t1 u,o,nx⟩
def Ax(P:Program)(n t t1:Nat)(ic:IC)(bP:List V)(rs:List ResultVar)(K X:V->(Nat->ab)->Nat->Prop)(e:fL)(s:S):Prop:=
 match e with
 | .normal| .ret=>EP P n t t1 ic bP (.d .eT) s.o s.nx fun o nx=>mf P rs K X .ret ⟨s.env,o,nx⟩
 | .bL v=>EP P n t t1 ic bP v s.o s.nx fun o nx=>mf P rs K X .ret ⟨s.env,o,nx⟩
 | .exit _=>False
def CP(P:Program)(n t:Nat)(fh:IC)(ft:List Operand)(g:FuncId)(D:List V->fL->S->Prop)(e:fL)(s:S):Prop:=
 match e with
 | .normal=>ux P n s.nx false fh (D (ft.map s.ev)) ⟨ay s.env t (.func (.func g) [] (ft.map s.ev)),s.o,s.nx⟩
 |_=>False
section
variable {P:Program}{M:Nat->Prop}{φ cL:Place}{H H0:Hp}{w w0:World}{n:Nat}{s:S}{a:Act}{cx:Cx}{k:Nat}
theorem Iu(br:P.follows .mixedOrders=true){g:FuncId}{t t1:Nat}{ic:IC}(hg:CO P g n t t1 ic){bP:List V}{u:V}{o:Nat->ab}{nx:Nat}{K:(Nat->ab)->Nat->Prop}(h:EP P n t t1 ic bP u o nx K)
 {vals:Array Value} {val:Value} {m:FrameMode} (hH:az M φ (hp o nx) w) (hd:V.aD (aq M φ (hp o nx)) φ (hp o nx) w bP vals.toList) (hv:V.den (aq M φ (hp o nx)) φ (hp o nx) w u val)
 (hm:(m= .returning/\val= .nilIface)\/m= .panicking [{v:=val,recovered:=false}]):
 CallsDIn (dR none) k P g vals m w fun e u' w'=>∃v aI o' nx',e= .returned v/\settle u'= .returning/\az M aI (hp o' nx') w'/\Trans φ (hp o nx) w aI (hp o' nx') w'/\K o' nx':=by
 obtain⟨fn,id,ops,c,hf,RG,hnt,Ce,qH,J4,ht,Bk,su⟩:=hg.get
 have ck:g<P.funcs.size:=(Array.getElem?_eq_some_iff.1 hf).1
 obtain⟨rI,h⟩:=h
 have hlen:=V.aB _ _ hd
 refine⟨trivial,fun pK cs K8 QZ=> ?_⟩
 let b:Frame:={(default:Frame)with fn:=g,kind:= .deferred,roundOf:=none}
 let uB:Array Value:=vals++Array.replicate (fn.ntmps - vals.size) undef
 have aej:uB.size=n:=by simp only[uB,Array.size_append,Array.size_replicate];simp at hlen;omega
 have me:Frame.enter P g vals .deferred=b.atR {tmps:=uB,defers:=[]} [.code (.seq (.region id ops false) c)]:=by
  simp[Frame.enter,Frame.atR,hf,qH,b,uB]
 obtain⟨m',hm',bg⟩:∃m',settle m'= .returning/\((recoverD (pK::cs)=none/\m'=m/\val= .nilIface)\/recoverD (pK::cs)=some (val,{pK with mode:=m'}::cs)):=by
  rcases hm with⟨rfl,rfl⟩|rfl
  ·exact⟨.returning,rfl, .inl ⟨by simp[recoverD,K8],rfl,rfl⟩⟩
  ·exact⟨.panicking [{v:=val,recovered:=true}],rfl, .inr (by simp[recoverD,K8])⟩
 have hc0:({pK with mode:=m}:Frame)=pK:=by subst K8;rfl
 let a1:Act:={tmps:=(uB.setIfInBounds t val).setIfInBounds t1 val,defers:=[]}
 have N7:(Code.region id ops false).wpSIn (dR none) k P (fun e a' cs' w'=>e= .normal/\a'=a1/\cs'={pK with mode:=m'}::cs/\w'=w) {tmps:=uB,defers:=[]} (pK::cs) w:=by
  rcases J4 with⟨o1,o2,rfl,e1,e2,e3,e4,e5,e6⟩|⟨o1,rfl,rfl,e1,e2,e3⟩
  ·refine wpSIn_region ?_
   have hr:List.range (#[o1,o2]:Array Oper).size=[0,1]:=rfl
   have g0:(#[o1,o2]:Array Oper)[0]? =some o1:=rfl
   have g1:(#[o1,o2]:Array Oper)[1]? =some o2:=rfl
   rw[hr]
   have x1:∀ (ρ:Operand->Value) (w:World),(execOp ρ o1).run P w= .ok .recover w:=by
    intro ρ w
    simp[execOp,e1,resolve,invoke,builtin]
   have x2:∀ (ρ:Operand->Value) (w:World),(execOp ρ o2).run P w= .ok (.value (ρ (.tmp t))) w:=by
    intro ρ w
    simp[execOp,e4]
   have last:∀cs',cs'={pK with mode:=m'}::cs->wpOpsSIn (dR none) k P #[o1,o2] (fun e a' cs' w'=>e= .normal/\a'=a1/\cs'={pK with mode:=m'}::cs/\w'=w) [1] (({tmps:=uB,defers:=[]}:Act).put (some t) val) cs' w:=by
    rintro cs' rfl
    have hw:Region.wanted o2 (yielded #[o1,o2] (({tmps:=uB,defers:=[]}:Act).put (some t) val).tmps)=true:=by simp[Region.wanted,e6]
    have dh:(({tmps:=uB,defers:=[]}:Act).put (some t) val).eval (.tmp t)=val:=by
     have:t<uB.size:=af
     simp[Act.put,Act.eval,Array.getD,this]
    simp only[wpOpsSIn,g1,hw,if_true,x2,dh,e5]
    refine⟨fun _ _=>trivial, ?_⟩
    simp[a1,Act.put]
   have hw:Region.wanted o1 (yielded #[o1,o2] uB)=true:=by simp[Region.wanted,e3]
   rw[wpOpsSIn,g0]
   refine⟨fun _ _=>trivial, ?_⟩
   simp only[hw,if_true,x1,e2]
   rcases bg with⟨hr,rfl,rfl⟩|hr
   ·simp only[hr]
    exact last _ (by rw[hc0])
   ·simp only[hr]
    exact last _ rfl
  ·refine wpSIn_region ?_
   have hr:List.range (#[o1]:Array Oper).size=[0]:=rfl
   have g0:(#[o1]:Array Oper)[0]? =some o1:=rfl
   rw[hr]
   have x1:∀ (ρ:Operand->Value) (w:World),(execOp ρ o1).run P w= .ok .recover w:=by
    intro ρ w
    simp[execOp,e1,resolve,invoke,builtin]
   have same:a1=({tmps:=uB,defers:=[]}:Act).put (some t1) val:=by
    simp only[a1,Act.put]
    congr 1
    apply Array.ext_getElem?
    intro j
    simp only[Array.getElem?_setIfInBounds]
    by_cases hj:t1=j
    ·subst hj;simp
    ·simp[hj]
   have last:∀cs',cs'={pK with mode:=m'}::cs->wpOpsSIn (dR none) k P #[o1] (fun e a' cs' w'=>e= .normal/\a'=a1/\cs'={pK with mode:=m'}::cs/\w'=w) [] (({tmps:=uB,defers:=[]}:Act).put (some t1) val) cs' w:=by
    rintro cs' rfl
    simp only[wpOpsSIn]
    exact⟨trivial,same.symm,trivial,trivial⟩
   have hw:Region.wanted o1 (yielded #[o1] uB)=true:=by simp[Region.wanted,e3]
   rw[wpOpsSIn,g0]
   refine⟨fun _ _=>trivial, ?_⟩
   simp only[hw,if_true,x1,e2]
   rcases bg with⟨hr,rfl,rfl⟩|hr
   ·simp only[hr]
    exact last _ (by rw[hc0])
   ·simp only[hr]
    exact last _ rfl
 obtain⟨er,ar,csr,wr,hl,⟨rfl,rfl,rfl,hwr⟩,dn⟩:=N7 b [.code c] rfl rfl trivial (fun d hd=>by simp[dR]at hd)
 rw[hwr]at dn
 let s0:S:=⟨ay (ay (cw bP) t u) t1 u,o,nx⟩
 have pE:cj M φ (hp o nx) w n ⟨[],true⟩ φ s0 a1 w:=by
  refine⟨hH,Trans.refl _ _ _,by simp[a1,aej],⟨[],rfl,List.nodup_nil,fun _=>rfl,fun r hr=>by cases hr⟩,fun i=> ?_⟩
  have ew:=BD (m:=fn.ntmps - vals.size) hd i
  simp only[s0,a1,aL]
  have ht0:t<uB.size:=af
  have aek:t1<uB.size:=af
  by_cases h1:i=t1
  ·subst h1
   simp only[if_true]
   have:((uB.setIfInBounds t val).setIfInBounds i val).getD i undef=val:=by simp[Array.getD,aek]
   rw[this];exact hv
  ·simp only[h1,if_false]
   have e1:((uB.setIfInBounds t val).setIfInBounds t1 val).getD i undef=(uB.setIfInBounds t val).getD i undef:=by
    exact Qv
   rw[e1]
   by_cases h2:i=t
   ·subst h2
    simp only[if_true]
    have:(uB.setIfInBounds i val).getD i undef=val:=by simp[Array.getD,ht0]
    rw[this];exact hv
   ·simp only[h2,if_false]
    have e1:(uB.setIfInBounds t val).getD i undef=uB.getD i undef:=by
     simp only[Array.getD_eq_getD_getElem?]
     rw[Array.getElem?_setIfInBounds_ne (Ne.symm h2)]
    rw[e1];exact ew
 have hcw:=ir (P:=P) (n:=n) (b:=nx) (rd:=true) br c _ _ s0 (fun _ _ h=>h) (by rw[su];exact h)
 obtain⟨e,a',w',⟨x,s',aI,hq,j7,hx⟩,Gg⟩:=ij (P:=P) (H0:=hp o nx) (b:=nx) (cx:=⟨[],true⟩) (ro:=none) (fun id hu=>hu) (fun h=>by cases h) c _ s0 φ a1 w hcw pE b [] ({pK with mode:=m'}::cs) rfl ck
 have i0:(lone (b.atR {tmps:=uB,defers:=[]} [.code (.seq (.region id ops false) c)]) (pK::cs) w).fenced P (dR none):=fenced_calm (n:=0) trivial gO rfl
 have RH:StepsIn (Machine.fenced P (dR none)) P (lone (b.atR {tmps:=uB,defers:=[]} [.code (.seq (.region id ops false) c)]) (pK::cs) w) (lone (b.atR a1 [.code c]) ({pK with mode:=m'}::cs) w):= .head i0 stepR_seq dn
 have vS:a'.defers=[]:=by
  obtain⟨ms,g1,_,g3,_⟩:=j7.defers
  rw[g3 rfl]at g1;exact g1
 have aaJ:∀tm:Array Value,∃v,(results fn tm).run P w'= .ok v w':=by
  intro tm
  refine⟨_,np (vals:=[]) ?_⟩
  rw[Ce];rfl
 rw[me]
 obtain⟨v,qa⟩:=aaJ a'.tmps
 cases e<;>cases x<;>first|(exact hx.elim)|(exact hq.elim)|skip
 ·exact⟨.returned v,m',w',_,⟨v,aI,s'.o,s'.nx,rfl,hm',j7.heap,j7.tr,hq⟩,StepsIn.trans RH (StepsIn.trans Gg (.one (fenced_calm (n:=0) (fr:=b.atR a' []) trivial gO rfl) (stepR_end rfl))),rfl,rfl,rfl,vS,fn,hf,qa⟩
 ·obtain⟨todo,hs⟩:=Gg.1 rfl
  exact⟨.returned v,m',w',_,⟨v,aI,s'.o,s'.nx,rfl,hm',j7.heap,j7.tr,hq⟩,StepsIn.trans RH hs,rfl,rfl,rfl,vS,fn,hf,qa⟩
theorem CQ{d c:Code}{ro:Option Nat}{Q:Exit->Act->World->Prop}{a:Act}{w:World}(h:d=c\/d= .scope c)(hg:∀l a w, ¬Q (.goto l) a w)(hc:c.tW P ro Q a w):d.tW P ro Q a w:=by
 rcases h with rfl|rfl
 ·exact hc
 ·exact yr hc hg
theorem bZ.CS (br:P.follows .mixedOrders=true){f g:FuncId}{jE fh yL:IC}{t m r r1:Nat}{ft:List Operand}{rs:List ResultVar}(hf:Gx P f n jE fh g t ft rs)(hg:CO P g m r r1 yL)
 {args:List V} {o:Nat->ab} {nx:Nat} {K X:V->(Nat->ab)->Nat->Prop} (hl:args.length<=n)
 (h:ux P n nx true jE (CP P n t fh ft g fun bP=>Ax P m r r1 yL bP rs K X) ⟨cw args,o,nx⟩):bZ P f args o nx K X:=by
 obtain⟨fn,id,o1,o2,ca,cb,cd,Jh,RG,hnt,Ce,qH,hsc,e1,e2,e3,e4,e5,e6,ht,hla,NO⟩:=hf.get
 obtain⟨gn,_,_,gc,uh,UI,_,_,UJ,_⟩:=hg.get
 refine⟨⟨fn,Jh,RG,by rw[qH];rfl⟩,fun M φ w vals hH hd=> ?_⟩
 have hlen:=V.aB _ _ hd
 let s0:S:=⟨cw args,o,nx⟩
 let a0:Act:={tmps:=vals++Array.replicate (fn.ntmps - vals.size) undef,defers:=[]}
 have pE:cj M φ (hp o nx) w n ⟨[],true⟩ φ s0 a0 w:=by
  exact Zt
 have ha:=ir (P:=P) (n:=n) (b:=nx) (rd:=true) br ca _ _ s0 (fun _ _ h=>h) (by rw[hla];exact h)
 refine B9 (ro:=none) (k:=0) (nq Jh qH (z8 (gP (ij (P:=P) (H0:=hp o nx) (b:=nx) (cx:=⟨[],true⟩) (ro:=none) (fun id hu=>hu) (fun h=>by cases h) ca _ s0 φ a0 w ha pE) ?_)))
 rintro e a1 w1 ⟨x,s1,iT,hq,oJ,hm⟩
 cases e<;>cases x<;>first|(exact hm.elim)|(exact hq.elim)|skip
 have vS:a1.defers=[]:=by
  obtain⟨ms,g1,_,g3,_⟩:=oJ.defers
  rw[g3 rfl]at g1;exact g1
 let cv:Array Value:=(ft.map a1.eval).toArray
 let fv:Value:= .func (.func g) #[] cv
 let dd:Deferred:={target:= .fn (.func g) cv,args:=#[]}
 let a2:Act:={tmps:=a1.tmps.setIfInBounds t fv,defers:=[dd]}
 have RI:V.aD (aq M iT s1.H) iT s1.H w1 (ft.map s1.ev) cv.toList:=by
  simpa[cv]using kp (M:=M) (φ:=iT) (H:=s1.H) (w:=w1) s1 a1 oJ.env ft
 refine CQ hsc (fun l a w h=> ?_) ?_
 ·exact h.elim
 refine z8 (gP (Q:=fun e a w=>e= .normal/\a=a2/\w=w1) (pD (k:=0) (wpIn_region_list ?_)) ?_)
 ·have y1:Region.wanted o1 (yielded #[o1,o2] a1.tmps)=true:=by simp[Region.wanted,e3]
  have y2:∀tm,Region.wanted o2 (yielded #[o1,o2] tm)=true:=by intro tm;simp[Region.wanted,e6]
  have dh:(a1.put (some t) fv).eval (.tmp t)=fv:=by
   have:t<a1.tmps.size:=by rw[oJ.size];exact ht
   simp[Act.put,Act.eval,Array.getD,this]
  show wpListIn (dR none) 0 P #[o1,o2] _ [o1,o2] a1 w1
  unfold wpListIn
  rw[if_pos y1]
  have x1:(execOp a1.eval o1).run P w1= .ok (.value fv) w1:=by simp[execOp,e1,fv,cv,Instr.makeFunc]
  refine ky (fun c hc=>by rw[e1]at hc;cases hc) ?_
  rw[x1]
  show wpListIn (dR none) 0 P #[o1,o2] _ [o2] (a1.put o1.dst fv) w1
  rw[e2]
  unfold wpListIn
  rw[if_pos (y2 _)]
  have x2:(execOp (a1.put (some t) fv).eval o2).run P w1= .ok (.defer dd) w1:=by
   simp[execOp,e4,resolve,dh,Deferred.ofValue,fv,dd]
  refine⟨fun _ _=>trivial, ?_⟩
  have:(o2.semAt (dR none).round (a1.put (some t) fv).eval)=execOp (a1.put (some t) fv).eval o2:=rfl
  rw[this,x2]
  unfold Oper.uponIn
  simp only[e5,wpListIn,Act.put,vS,a2,and_self]
 rintro e a w2 ⟨rfl,rfl,rfl⟩
 have Bk:t<a1.tmps.size:=by rw[oJ.size];exact ht
 let s2:S:=⟨ay s1.env t (.func (.func g) [] (ft.map s1.ev)),s1.o,s1.nx⟩
 have DV:cj M iT s1.H w2 n ⟨[dd],false⟩ iT s2 a2 w2:=by
  refine⟨oJ.heap,Trans.refl _ _ _,by simp[a2,oJ.size],⟨[],rfl,List.nodup_nil,fun _=>rfl,fun r hr=>by cases hr⟩,fun i=> ?_⟩
  simp only[s2,a2,aL]
  by_cases h1:i=t
  ·subst h1
   have:(a1.tmps.setIfInBounds i fv).getD i undef=fv:=by simp[Array.getD,Bk]
   simp only[if_true];rw[this]
   exact⟨#[],cv,rfl,rfl,RI⟩
  ·have:(a1.tmps.setIfInBounds t fv).getD i undef=a1.tmps.getD i undef:=by
    exact Qv
   simp only[h1,if_false];rw[this]
   exact oJ.env i
 have hb:=ir (P:=P) (n:=n) (b:=s1.nx) (rd:=false) br cb _ _ s2 (fun _ _ h=>h) (by rw[NO];exact hq)
 refine gP (ij (P:=P) (H0:=s1.H) (b:=s1.nx) (cx:=⟨[dd],false⟩) (ro:=none) (fun id hu=>hu) (fun _=>rfl) cb _ s2 iT a2 w2 hb DV) ?_
 rintro e a3 w3 ⟨x,s3,φ3,hq3,DW,Bl⟩
 obtain⟨ms,g1,g2,_,g4⟩:=DW.defers
 have hinv:(invoke dd.target dd.args).run P=fun w=> .ok (.enter g cv) w:=by
  funext w
  have:=lF (w:=w) ⟨gn,uh,UI,by rw[UJ];rfl⟩ cv
  simpa[dd,invoke]using this
 have last:∀ {w4:World} {tm:Array Value} {u:V} {val:Value} {m0:FrameMode},m0≠ .run->Ab M iT s1.H w2 φ3 s3 a3.tmps w4->V.den (aq M φ3 s3.H) φ3 s3.H w4 u val->
  ((m0= .returning/\val= .nilIface)\/m0= .panicking [{v:=val,recovered:=false}])->
  (EP P m r r1 yL (ft.map s1.ev) u s3.o s3.nx fun o nx=>mf P rs K X .ret ⟨s3.env,o,nx⟩)->
  LeavesInM (dR none) 0 P fn a3.tmps (ni M φ (hp o nx) w K X) [dd] m0 w4:=by
  intro w4 tm u val m0 fj hB Kg hm0 bg
  have UK:=V.aU hB.tr _ _ RI
  refine⟨fj, .inr ⟨fun h=>by simp[dR]at h, .func g,cv,g,cv,rfl,by rw[hinv],fun _ _=>trivial,CallsDIn.mono (Iu (k:=0 - 1) br hg bg (m:=m0) hB.heap UK Kg hm0) ?_⟩⟩
  rintro e u' w5 ⟨v,φ5,o5,nx5,rfl,ael,k1,k2,k3⟩
  show LeavesInM (dR none) 0 P fn a3.tmps (ni M φ (hp o nx) w K X) [] (settle u') w5
  rw[ael]
  obtain⟨vs,h1,h2⟩:=Cg k3
  rw[<- Ce]at h1
  have aaK:∀i,V.den (aq M φ5 (hp o5 nx5)) φ5 (hp o5 nx5) w5 (s3.env i) (a3.tmps.getD i undef):=fun i=>V.aT k2 _ _ (hB.env i)
  obtain⟨afw,h3,h4⟩:=uw (P:=P) (s:=⟨s3.env,o5,nx5⟩) (a:=a3) k1 aaK _ _ h1
  exact⟨_,np h3,φ5,o5,nx5,_,k1,oJ.tr.trans (hB.tr.trans k2),Ch h4,h2⟩
 have done:EP P m r r1 yL (ft.map s1.ev) (.d .eT) s3.o s3.nx (fun o nx=>mf P rs K X .ret ⟨s3.env,o,nx⟩)->LeavesInM (dR none) 0 P fn a3.tmps (ni M φ (hp o nx) w K X) a3.defers .returning w3:=by
  intro bg
  rw[g1]
  exact gQ (P:=P) (k:=0) (fn:=fn) (R:=ni M φ (hp o nx) w K X) (u:= .returning) aH (ds:=[dd]) (fun w4 hB=>last (tm:=a3.tmps) aH hB (u:= .d .eT) (val:= .nilIface) (by simp[V.den,D.den]) (.inl ⟨rfl,rfl⟩) bg) ms w3 g2 g4 DW.toB
 cases e<;>cases x<;>first|(exact Bl.elim)|skip
 ·exact done hq3
 ·exact hq3.elim
 ·exact done hq3
 ·rename_i v
  obtain⟨val,rfl,N2⟩:=Bl
  show LeavesInM (dR none) 0 P fn a3.tmps (ni M φ (hp o nx) w K X) a3.defers _ w3
  rw[g1]
  let aaL:Nat->V:=fun i=>match i with|0=>v|i+1=>s3.env i
  have aaM:(#[val]++a3.tmps).getD 0 undef=val:=by simp[Array.getD]
  have aaN:∀i,(#[val]++a3.tmps).getD (i+1) undef=a3.tmps.getD i undef:=by
   intro i
   simp only[Array.getD_eq_getD_getElem?]
   rw[Array.getElem?_append_right (by simp)]
   simp
  have Z3:Ab M iT s1.H w2 φ3 ⟨aaL,s3.o,s3.nx⟩ (#[val]++a3.tmps) w3:=⟨DW.heap,DW.tr,fun i=>by
   cases i with
   |zero=>rw[aaM];exact N2
   |succ i=>rw[aaN];exact DW.env i⟩
  have aaO:∀w4,Ab M iT s1.H w2 φ3 ⟨aaL,s3.o,s3.nx⟩ (#[val]++a3.tmps) w4->LeavesInM (dR none) 0 P fn a3.tmps (ni M φ (hp o nx) w K X) [dd] (.panicking [{v:=val,recovered:=false}]) w4:=by
   intro w4 hB
   have hv4:=hB.env 0
   rw[aaM]at hv4
   refine last (tm:=a3.tmps) aH ⟨hB.heap,hB.tr,fun i=> ?_⟩ hv4 (.inr rfl) hq3
   have hs:=hB.env (i+1)
   rw[aaN]at hs
   exact hs
  exact gQ (P:=P) (k:=0) (fn:=fn) (R:=ni M φ (hp o nx) w K X) (u:= .panicking [{v:=val,recovered:=false}]) aH (ds:=[dd]) aaO ms w3 g2 g4 Z3
end
end
theorem Bo.K9 {P:Program}{g:FuncId}{ds:List D}{o:Nat->ab}{fr:Nat}{ty:TypeId}{sz:Nat}{es:List D}
 (h:bZ P g (ds.map .d) (fun _=> .no) 0 (fun v o1 _=>(∃j ep,v= .osl j ep/\o1 j= .arr ep ty sz es)\/(v= .ax/\es=[]/\0<sz)) (fun _ _ _=>False)):
 Bo P g (ds.map .d) [] o fr (.osl fr 0) [(fr, .arr 0 ty sz es)]:=by
 refine⟨h.1,fun o' us M φ w vals _ cQ hH hd=> ?_⟩
 let cL:Place:=fun _=> .nilFunc
 have tY:∀b, ¬cD cL (hp (fun _=> .no) 0) b:=by rintro b ⟨id,hl,_⟩;simp[hp,ab.live]at hl
 have hM:∀b,aq M φ ⟨o',us⟩ b->b<w.heap.size:=fun b hb=>hb.elim (hH.Bi b) fun hl=>(hH.ours b hl).2
 have yd:=(V.cH _ _).1 hd
 refine(h.2 (aq M φ ⟨o',us⟩) cL w vals (oh cL hM) ((V.cH _ _).2 (D.aU (w:=w) (w':=w) (B:=aq M φ ⟨o',us⟩) (fun b _ hB=>⟨rfl,fun h=>h.elim hB (tY b)⟩) _ _ yd))).mono ?_
 rintro e w' ⟨iT,o1,n1,v,k1,k2,k3⟩
 have hk:eo (fun _=>False) w w':=⟨k2.cG.os,k2.cG.tape,k2.cG.output,k2.cG.size,fun k hk _=>k2.cG.block k hk (tY k)⟩
 have uU:(⟨o',us⟩:Hp).put [(fr, .arr 0 ty sz es)]=⟨put o' [(fr, .arr 0 ty sz es)],fun id=>us id\/id=fr⟩:=by
  simp only[Hp.put]
  congr 1
  funext id
  simp
 have fin:∀ (val:Value) (xs:List Value),(∀b,ej val=some b->w.heap.size<=b/\b<w'.heap.size)->0<sz->w'.ownsRow 0 ty sz val es.length xs->
  (eH (aq M (ay φ fr val) ((⟨o',us⟩:Hp).put [(fr, .arr 0 ty sz es)])) w' sz es xs)->
  val.oneCell'=true->
  ∃aI,az M aI ⟨put o' [(fr, .arr 0 ty sz es)],fun id=>us id\/id=fr⟩ w'/\Trans φ ⟨o',us⟩ w aI ⟨put o' [(fr, .arr 0 ty sz es)],fun id=>us id\/id=fr⟩ w'/\
   ∃La,Ending.returned val= .returned La/\V.den (aq M aI ⟨put o' [(fr, .arr 0 ty sz es)],fun id=>us id\/id=fr⟩) aI ⟨put o' [(fr, .arr 0 ty sz es)],fun id=>us id\/id=fr⟩ w' (.osl fr 0) La:=by
  intro val xs jI ek dG cV UL
  have qG:=iG hH hk cQ (.arr 0 ty sz es) val jI (by
   unfold aR
   rw[show((⟨o',us⟩:Hp).put [(fr, .arr 0 ty sz es)]).o fr= .arr 0 ty sz es by simp]
   refine⟨ek,xs, ?_,cV⟩
   rw[show ay φ fr val fr=val by simp]
   exact dG)
  have RJ:=dM (φ:=φ) (H:=⟨o',us⟩) hk cQ (.arr 0 ty sz es) val (fun b hb=>(jI b hb).1)
  rw[uU]at qG RJ
  refine⟨ay φ fr val,qG,RJ,val,rfl,UL, .inr rfl,fun e he=> ?_⟩
  have p9:0=e:=by
   have:(put o' [(fr,ab.arr 0 ty sz es)] fr).ct=some 0:=by simp[put,ab.ct]
   exact Zg
  exact⟨af,fun _=>aH⟩
 cases e with
 |outgrown=>exact k3.elim
 |panicked ch=>obtain⟨_,_,_,h⟩:=k3;exact h.elim
 |returned val=>
  obtain⟨g1,⟨j,ep,rfl,hj⟩|⟨rfl,rfl,ek⟩⟩:=k3
  ·obtain⟨v0,v1,v2⟩:=g1
   have fK:val=iT j:=(v2 ep (by show(o1 j).ct=some ep;rw[hj];rfl)).2 rfl
   have cT:∀b,ej val=some b->cD iT (hp o1 n1) b:=fun b hb=>⟨j,by show(o1 j).live=true;rw[hj];rfl,by rw[<- fK];exact hb⟩
   have jI:∀b,ej val=some b->w.heap.size<=b/\b<w'.heap.size:=fun b hb=>⟨(k2.grow b (cT b hb)).resolve_left (tY b),(k1.ours b (cT b hb)).2⟩
   have Lb:=k1.ok j
   unfold aR at Lb
   rw[show(hp o1 n1).o j= .arr ep ty sz es from hj]at Lb
   obtain⟨ek,xs,dG,cV⟩:=Lb
   have hBs:∀b,aq M (ay φ fr val) ((⟨o',us⟩:Hp).put [(fr, .arr 0 ty sz es)]) b->aq (aq M φ ⟨o',us⟩) iT (hp o1 n1) b:=by
    rintro b (hb|⟨id,hl,hb⟩)
    ·exact .inl (.inl hb)
    ·by_cases e:id=fr
     ·subst e
      simp at hb
      exact .inr (cT b hb)
     ·simp[e]at hl hb
      exact .inl (.inr ⟨id,hl,hb⟩)
   exact fin val xs jI ek (by rw[fK];exact dG) (cV.mono (w:=w') (w':=w') (fun b _ hB=>⟨rfl,fun h=>hB (hBs b h)⟩)) v0
  ·have g1:val= .slice none 0 0:=g1
   subst g1
   exact YH
theorem Bo.On {P:Program}{g:FuncId}{args:List V}{ds:List D}{o:Nat->ab}{fr:Nat}{ty:TypeId}{sz:Nat}{es:List D}
 (ff:cf o args=some ds) (mV:D.jL es=true) (h:bZ P g (ds.map .d) (fun _=> .no) 0 (fun v o1 _=>(∃j ep,v= .osl j ep/\o1 j= .arr ep ty sz es)\/(v= .ax/\es=[]/\0<sz)) (fun _ _ _=>False)):
 Bo P g args (V.bp args) o fr (.osl fr 0) [(fr, .arr 0 ty sz es)]:=by
 refine⟨h.1,fun o' us M φ w vals hag cQ hH hd=> ?_⟩
 obtain⟨f1,f2,f3,f4,f5⟩:=cU hH (V.bp args) (fun id aw=>(hag id aw).2)
 generalize hHF:(⟨o',us⟩:Hp).put (bE (⟨o',us⟩:Hp).o (V.bp args))=HF at f1 f2 f3
 let cL:Place:=fun _=> .nilFunc
 have tY:∀b, ¬cD cL (hp (fun _=> .no) 0) b:=by rintro b ⟨id,hl,_⟩;simp[hp,ab.live]at hl
 have hM:∀b,aq M φ HF b->b<w.heap.size:=fun b hb=>hb.elim (f1.Bi b) fun hl=>(f1.ours b hl).2
 have yd:D.aD (aq M φ HF) w ds vals.toList:=dt f1 args ds _ (fun id aw=>by rw[f3 id aw];show(o' id).fz=(o id).fz;rw[(hag id aw).1]) ff (V.aU f2 _ _ hd)
 refine(h.2 (aq M φ HF) cL w vals (oh cL hM) ((V.cH _ _).2 (D.aU (w:=w) (w':=w) (B:=aq M φ HF) (fun b _ hB=>⟨rfl,fun h=>h.elim hB (tY b)⟩) _ _ yd))).mono ?_
 rintro e w' ⟨iT,o1,n1,v,k1,k2,k3⟩
 have hk:eo (fun _=>False) w w':=⟨k2.cG.os,k2.cG.tape,k2.cG.output,k2.cG.size,fun k hk _=>k2.cG.block k hk (tY k)⟩
 have uU:(⟨o',us⟩:Hp).put [(fr, .arr 0 ty sz es)]=⟨put o' [(fr, .arr 0 ty sz es)],fun id=>us id\/id=fr⟩:=by
  simp only[Hp.put]
  congr 1
  funext id
  simp
 have fin:∀ (val:Value) (xs:List Value),(∀b,ej val=some b->w.heap.size<=b/\b<w'.heap.size)->0<sz->w'.ownsRow 0 ty sz val es.length xs->
  (eH (aq M (ay φ fr val) ((⟨o',us⟩:Hp).put [(fr, .arr 0 ty sz es)])) w' sz es xs)->
  val.oneCell'=true->
  ∃aI,az M aI ⟨put o' [(fr, .arr 0 ty sz es)],fun id=>us id\/id=fr⟩ w'/\Trans φ ⟨o',us⟩ w aI ⟨put o' [(fr, .arr 0 ty sz es)],fun id=>us id\/id=fr⟩ w'/\
   ∃La,Ending.returned val= .returned La/\V.den (aq M aI ⟨put o' [(fr, .arr 0 ty sz es)],fun id=>us id\/id=fr⟩) aI ⟨put o' [(fr, .arr 0 ty sz es)],fun id=>us id\/id=fr⟩ w' (.osl fr 0) La:=by
  intro val xs jI ek dG cV UL
  have qG:=iG hH hk cQ (.arr 0 ty sz es) val jI (by
   unfold aR
   rw[show((⟨o',us⟩:Hp).put [(fr, .arr 0 ty sz es)]).o fr= .arr 0 ty sz es by simp]
   refine⟨ek,xs, ?_,cV⟩
   rw[show ay φ fr val fr=val by simp]
   exact dG)
  have RJ:=dM (φ:=φ) (H:=⟨o',us⟩) hk cQ (.arr 0 ty sz es) val (fun b hb=>(jI b hb).1)
  rw[uU]at qG RJ
  refine⟨ay φ fr val,qG,RJ,val,rfl,UL, .inr rfl,fun e he=> ?_⟩
  have p9:0=e:=by
   have:(put o' [(fr,ab.arr 0 ty sz es)] fr).ct=some 0:=by simp[put,ab.ct]
   exact Zg
  exact⟨af,fun _=>aH⟩
 cases e with
 |outgrown=>exact k3.elim
 |panicked ch=>obtain⟨_,_,_,h⟩:=k3;exact h.elim
 |returned val=>
  obtain⟨g1,⟨j,ep,rfl,hj⟩|⟨rfl,rfl,ek⟩⟩:=k3
  ·obtain⟨v0,v1,v2⟩:=g1
   have fK:val=iT j:=(v2 ep (by show(o1 j).ct=some ep;rw[hj];rfl)).2 rfl
   have cT:∀b,ej val=some b->cD iT (hp o1 n1) b:=fun b hb=>⟨j,by show(o1 j).live=true;rw[hj];rfl,by rw[<- fK];exact hb⟩
   have jI:∀b,ej val=some b->w.heap.size<=b/\b<w'.heap.size:=fun b hb=>⟨(k2.grow b (cT b hb)).resolve_left (tY b),(k1.ours b (cT b hb)).2⟩
   have Lb:=k1.ok j
   unfold aR at Lb
   rw[show(hp o1 n1).o j= .arr ep ty sz es from hj]at Lb
   obtain⟨ek,xs,dG,cV⟩:=Lb
   obtain⟨evs,e1,e2,e3⟩:=cV
   exact fin val xs jI ek (by rw[fK];exact dG) ⟨evs,e1,e2,D.l9 _ _ mV e3⟩ v0
  ·have g1:val= .slice none 0 0:=g1
   subst g1
   exact YH
theorem Bo.Oo {P:Program}{g:FuncId}{args:List V}{ds:List D}{o0 o:Nat->ab}{rd:List Nat}{fr:Nat}{v:V}{Δ:List (Nat×ab)}(aw:V.bp args=[])(ff:cf o0 args=some ds)
 (h:Bo P g (ds.map .d) rd o fr v Δ):Bo P g args rd o fr v Δ:=
 ⟨h.1,fun o' us M φ w vals h1 h2 hH hd=>h.2 o' us M φ w vals h1 h2 hH ((V.cH _ _).2 (dt hH args ds _ (by rw[aw];intro id h;cases h) ff hd))⟩
def Gy(P:Program)(f:FuncId):Prop:=
 Enters P f/\∀ (w:World) (b:Nat) (es:Array MapEntry) (clock:Nat),w.heap[b]? =some (.map es clock)->
  Calls P f #[.map (some b)] w fun e w'=>e= .returned (.map (some w.heap.size))/\w'=w.alloc (.map es clock)
theorem bZ.UM {P:Program}{f:FuncId}(h:Gy P f){o:Nat->ab}{nx id:Nat}{kt vt:TypeId}{l:List (D×D)}(ho:o id= .map kt vt l){K X:V->(Nat->ab)->Nat->Prop}
 (hK:K (.mp nx) (ay o nx (.map kt vt l)) (nx+1)):bZ P f [.mp id] o nx K X:=by
 refine⟨h.1,fun M φ w vals hH hd=> ?_⟩
 have hlen:=V.aB _ _ hd
 obtain⟨v,rfl⟩:∃v,vals=#[v]:=by
  match vals,hlen with
  |⟨[v]⟩,_=>exact⟨v,rfl⟩
 obtain⟨v',qa,Kg⟩:=V.dp _ _ 0 (.mp id) hd rfl
 simp only[List.getElem?_cons_zero,Option.some.injEq]at qa
 subst qa
 have aW:=hH.ok id
 have xS:(hp o nx).o id= .map kt vt l:=ho
 simp only[aR,xS]at aW
 obtain⟨b,es,clock,e1,e2,e3,e4⟩:=aW
 have hv:v=φ id:=Kg.2.2 (by rw[xS];rfl)
 rw[hv,e1]
 refine(h.2 w b es clock e2).mono fun e w' ⟨he,hw⟩=> ?_
 subst he;subst hw
 have cQ: ¬ (hp o nx).us nx:=fun h=>Nat.lt_irrefl _ h
 have uU:(hp o nx).put [(nx, .map kt vt l)]=hp (ay o nx (.map kt vt l)) (nx+1):=by
  simp only[Hp.put,hp]
  congr 1
  funext j
  simp only[List.map_cons,List.map_nil,List.mem_singleton,eq_iff_iff]
  omega
 have Ji:∀c,ej (.map (some w.heap.size))=some c->w.heap.size<=c/\c<(w.alloc (.map es clock)).heap.size:=by
  intro c hc;simp[ej]at hc;subst hc;simp
 have ht:=dM (φ:=φ) (H:=hp o nx) (cq w (.map es clock)) cQ (.map kt vt l) (.map (some w.heap.size)) fun c hc=>(Ji c hc).1
 refine⟨ay φ nx (.map (some w.heap.size)),ay o nx (.map kt vt l),nx+1, .mp nx, ?_, ?_, ?_,hK⟩
 ·exact Zq
 ·rw[<- uU];exact ht
 ·rw[<- uU];exact⟨rfl,aH,fun _=>aH⟩
theorem bZ.Gz {P:Program}{f:FuncId}(h:Gy P f){o:Nat->ab}{nx id:Nat}{kt vt:TypeId}{l:List (D×D)}(ho:o id= .b7 l){K X:V->(Nat->ab)->Nat->Prop}
 (hK:K (.mp nx) (ay o nx (.map kt vt l)) (nx+1)):bZ P f [.mp id] o nx K X:=by
 refine⟨h.1,fun M φ w vals hH hd=> ?_⟩
 have hlen:=V.aB _ _ hd
 obtain⟨v,rfl⟩:∃v,vals=#[v]:=by
  match vals,hlen with
  |⟨[v]⟩,_=>exact⟨v,rfl⟩
 obtain⟨v',qa,Kg⟩:=V.dp _ _ 0 (.mp id) hd rfl
 simp only[List.getElem?_cons_zero,Option.some.injEq]at qa
 subst qa
 have aW:=hH.ok id
 have xS:(hp o nx).o id= .b7 l:=ho
 simp only[aR,xS]at aW
 obtain⟨b,es,clock,e1,e2,_,e3,e4⟩:=aW
 have hv:v=φ id:=Kg.2.2 (by rw[xS];rfl)
 rw[hv,e1]
 refine(h.2 w b es clock e2).mono fun e w' ⟨he,hw⟩=> ?_
 subst he;subst hw
 have cQ: ¬ (hp o nx).us nx:=fun h=>Nat.lt_irrefl _ h
 have uU:(hp o nx).put [(nx, .map kt vt l)]=hp (ay o nx (.map kt vt l)) (nx+1):=by
  simp only[Hp.put,hp]
  congr 1
  funext j
  simp only[List.map_cons,List.map_nil,List.mem_singleton,eq_iff_iff]
  omega
 have Ji:∀c,ej (.map (some w.heap.size))=some c->w.heap.size<=c/\c<(w.alloc (.map es clock)).heap.size:=by
  intro c hc;simp[ej]at hc;subst hc;simp
 have ht:=dM (φ:=φ) (H:=hp o nx) (cq w (.map es clock)) cQ (.map kt vt l) (.map (some w.heap.size)) fun c hc=>(Ji c hc).1
 refine⟨ay φ nx (.map (some w.heap.size)),ay o nx (.map kt vt l),nx+1, .mp nx, ?_, ?_, ?_,hK⟩
 ·exact Zq
 ·rw[<- uU];exact ht
 ·rw[<- uU];exact⟨rfl,aH,fun _=>aH⟩
end Go.Proofs.YtlhemmpklhhgoaaGreat
