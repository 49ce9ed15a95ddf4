/-
  A PART OF THE PROOF. Conditions: none.
-/
import Derived.Test.YtlhemmpklhhgoaaGreatQu9
set_option linter.unusedSimpArgs false
set_option linter.unusedVariables false
namespace Go.Proofs.YtlhemmpklhhgoaaGreat
section
section
variable (ρ:Nat->Option Nat)(o' o:Nat->ad)(nx:Nat)
end
section
variable {M M':Nat->Prop}{φ aF:Place}{H H':Hp}{w:World}{ρ:Nat->Option Nat}{nx:Nat}
end
end
@[go_sem] theorem od (v:V) (l:List V):aY (v::l) 0=v:=rfl
@[go_sem] theorem oe (v:V) (l:List V) (i:Nat):aY (v::l) (i+1)=aY l i:=rfl
@[go_sem] theorem qF (i:Nat):aY [] i= .aa:=by simp[aY]
@[go_sem] theorem RD (k:Nat):(0<=(k:Int))=True:=aE
attribute [go_sem] List.getElem?_map List.length_map Int.toNat_natCast
attribute [go_sem] eR List.flatMap_cons List.flatMap_nil
attribute [go_sem] isConst rN NI rL rM Bm rK qa DT NJ xD HG pa pb xC uC uD qb
attribute [go_sem] oJ V.refs V.aK
attribute [go_sem] List.all_nil List.all_cons Option.some.injEq D.int.injEq D.bool.injEq Nat.zero_add Nat.add_zero
theorem wrap64{n:Int}(h1: -9223372036854775808<=n)(h2:n<=9223372036854775807):IntKind.i64.wrap n=n:=by
 unfold IntKind.wrap
 have e1:((2:Int)^IntKind.i64.bits)=18446744073709551616:=bu
 have e2:((2:Int)^(IntKind.i64.bits - 1))=9223372036854775808:=bu
 have e3:IntKind.i64.signed=true:=rfl
 simp only[e1,e2,e3,Bool.true_and,decide_eq_true_eq]
 split<;>omega
structure Good (o:Nat->ad) (nx:Nat):Prop where
 fresh:∀id,nx<=id->o id= .no
 refs:∀id,∀r∈(o id).refs,r<nx
theorem Good.nil {nx:Nat}:Good (fun _=> .no) nx:=⟨fun _ _=>rfl,fun id r h=>by cases h⟩
theorem Good.ay {o:Nat->ad}{nx i:Nat}{x:ad}(h:Good o nx)(hi:i<nx)(hx:x.refs.all (fun r=>decide (r<nx))=true):Good (ay o i x) nx:=by
 refine⟨fun id ax=> ?_,fun id r hr=> ?_⟩
 ·rw[ae _ _ _ _ (by omega)];exact h.fresh id ax
 ·by_cases e:id=i
  ·subst e
   rw[ab]at hr
   simpa using List.all_eq_true.1 hx r hr
  ·rw[ae _ _ _ _ e]at hr
   exact h.refs id r hr
theorem Good.mono {o:Nat->ad}{nx m:Nat}(h:Good o nx)(hm:nx<=m):Good o m:=⟨fun id ax=>h.fresh id af,fun id r hr=>Nat.lt_of_lt_of_le (h.refs id r hr) hm⟩
theorem Good.lt {o:Nat->ad}{nx id:Nat}(h:Good o nx)(hn:o id≠ .no):id<nx:=by
 rcases Nat.lt_or_ge id nx with hl|hl
 ·exact hl
 ·exact absurd (h.fresh id hl) hn
def CtO(P:Program)(g:FuncId)(args:List V)(o:Nat->ad)(v:V):Prop:=
 ∀nx,Good o nx->∀K X,(∀o' nx',nx<=nx'->Good o' nx'->(∀id,id<nx->o' id=o id)->K v o' nx')->bQ P g args o nx K X
theorem V.xk:∀ (l:List V) (i:Nat),∀r∈(aY l i).refs,r∈V.aK l
 |[],i,r,h=>by rw[qF]at h;cases h
 |v::l,0,r,h=>by rw[od]at h;simp only[V.aK,List.mem_append];exact .inl h
 |v::l,i+1,r,h=>by rw[oe]at h;simp only[V.aK,List.mem_append];exact .inr (V.xk l i r h)
theorem bI.back {b:Nat}{s:S}{env:Nat->V}{o:Nat->ad}{nx:Nat}(hb:b<=nx)(hn:nx<=s.nx)(hg:Good o nx)(ho:∀id,id<nx->s.o id=o id)
 (he:∀i,env i= .aa\/(env i=s.env i/\∀r∈(env i).refs,r<nx)):bI b s ⟨env,o,nx⟩:=by
 intro M φ w tm hH hd
 have cV:∀k,cG φ (hp o nx) k->cG φ s.H k:=by
  rintro k ⟨id,h1,h2⟩
  have ax:id<nx:=hg.lt (fun e=>by simp only[hp]at h1;rw[e]at h1;cases h1)
  exact⟨id,by simp only[S.H];rw[ho id ax];exact h1,h2⟩
 have hB:∀k, ¬ak M φ s.H k-> ¬ak M φ (hp o nx) k:=fun k h h'=>h (h'.imp id (cV k))
 have fG:∀ (v:V) (val:Value),(∀r∈v.refs,r<nx)->V.den (ak M φ s.H) φ s.H w v val->V.den (ak M φ (hp o nx)) φ (hp o nx) w v val:=fun v val hr h=>
  V.nk (H:=s.H) (H':=hp o nx) hB v val (fun id ax=>⟨(ho id (hr id ax)).symm,rfl,hr id ax⟩) h
 have kR:∀ (v:List V) (val:List Value),(∀r∈V.aK v,r<nx)->V.aC (ak M φ s.H) φ s.H w v val->V.aC (ak M φ (hp o nx)) φ (hp o nx) w v val:=fun v val hr h=>
  V.gf (H:=s.H) (H':=hp o nx) hB v val (fun id ax=>⟨(ho id (hr id ax)).symm,rfl,hr id ax⟩) h
 refine⟨φ,⟨fun id=> ?_,fun id hu=>hg.fresh id (by simpa[S.H]using hu),fun i j k h1 h2 h3 h4=> ?_,fun k hk=>hH.ours k (cV k hk),hH.AR⟩,fun i=> ?_,cV,hb,fun id ax hr=> ?_,fun id e' ax pQ=> ?_⟩
 ·have a7:=hH.ok id
  have hrefs:=hg.refs id
  unfold aR at a7|-
  by_cases ax:id<nx
  ·have e:s.H.o id=o id:=ho id ax
   rw[e]at a7
   simp only[S.H]at a7|-
   cases hx:o id with
   |no=>trivial
   |row cs=>
    simp only[hx]at a7 hrefs|-
    exact ZP
   |arr ep ty sz es=>
    simp only[hx]at a7|-
    obtain⟨k1,xs,k2,evs,k3,k4,k5⟩:=a7
    exact Zd
   |tP ep es=>
    simp only[hx]at a7|-
    exact D.aS (fun b _ hn=>⟨rfl,hB b hn⟩) _ _ a7
   |map kt vt es=>
    simp only[hx]at a7|-
    obtain⟨b,es',clock,k1,k2,k4,k3⟩:=a7
    exact Za
   |b8 l=>
    simp only[hx]at a7|-
    exact kD.mono (fun b _ hn=>⟨rfl,hB b hn⟩) a7
   |rq l last=>
    simp only[hx]at a7|-
    obtain⟨b,k1,k2⟩:=a7
    exact Qu
   |yX s pos=>
    simp only[hx]at a7|-
    exact a7
   |loop nf n env ps a b st pd=>
    simp only[hx]at a7 hrefs|-
    exact QJ
  ·simp only[S.H]
   rw[hg.fresh id (by omega)]
   trivial
 ·have hi:i<nx:=hg.lt (fun e=>by simp only[S.H]at h1;rw[e]at h1;cases h1)
  have hj:j<nx:=hg.lt (fun e=>by simp only[S.H]at h2;rw[e]at h2;cases h2)
  exact hH.apart i j k (by simp only[S.H];rw[ho i hi];exact h1) (by simp only[S.H];rw[ho j hj];exact h2) h3 h4
 ·rcases he i with h|⟨h1,h2⟩
  ·simp only[h];trivial
  ·have:=hd i
   rw[<- h1]at this
   exact fG _ _ h2 this
 ·have ck:id<nx:=af
  exact⟨by rw[ho id ck];exact hr,rfl⟩
 ·have ck:id<nx:=af
  exact⟨e',by rw[ho id ck];exact pQ,Nat.le_refl _,fun _=>rfl⟩
def lh(nx:Nat)(env:Nat->V):List V->Nat->Prop
 |[],_=>True
 |v::l,i=>(v= .aa\/(v=env i/\∀r∈v.refs,r<nx))/\lh nx env l (i+1)
theorem bI.bE {b:Nat}{e:Nat->V}{so:Nat->ad}{m:Nat}(l:List V){o:Nat->ad}{nx:Nat}(hb:b<=nx)(hn:nx<=m)(hg:Good o nx)(ho:∀id,id<nx->so id=o id)(he:lh nx e l 0):bI b ⟨e,so,m⟩ ⟨aY l,o,nx⟩:=by
 refine bI.back hb hn hg ho ?_
 have key:∀ (l:List V) (i:Nat),lh nx e l i->∀j,aY l j= .aa\/(aY l j=e (i+j)/\∀r∈(aY l j).refs,r<nx):=by
  intro l
  induction l with
  |nil=>intro i _ j;rw[qF];exact .inl rfl
  |cons v l ih=>
   intro i h j
   cases j with
   |zero=>rw[od];exact h.1
   |succ j=>
    rw[oe]
    have:=ih (i+1) h.2 j
    rwa [show i+1+j=i+(j+1) by omega]at this
 intro i
 have:=key l 0 he i
 rwa [Nat.zero_add]at this
theorem xj{nx:Nat}{env:Nat->V}{i:Nat}:lh nx env [] i:=trivial
theorem fP{nx:Nat}{env:Nat->V}{l:List V}{i:Nat}(h:lh nx env l (i+1)):lh nx env (.aa::l) i:=⟨.inl rfl,h⟩
theorem nU{nx:Nat}{env:Nat->V}{l:List V}{i:Nat}{x:D}(he:env i= .d x)(h:lh nx env l (i+1)):lh nx env (.d x::l) i:=⟨.inr ⟨he.symm,fun r hr=>by simp[V.refs]at hr⟩,h⟩
theorem Fs{nx:Nat}{env:Nat->V}{l:List V}{i:Nat}{v:V}(he:env i=v)(hr:∀r∈v.refs,r<nx)(h:lh nx env l (i+1)):lh nx env (v::l) i:=⟨.inr ⟨he.symm,hr⟩,h⟩
theorem bI.d0 {e:Nat->V}{so:Nat->ad}{m:Nat}(l:List V)(he:lh 0 e l 0):bI 0 ⟨e,so,m⟩ ⟨aY l,fun _=> .no,0⟩:=bI.bE l (Nat.le_refl 0) (Nat.zero_le _) Good.nil (fun _ h=>absurd h (Nat.not_lt_zero _)) he
theorem oH{k:Nat}(h:(k:Int)+1<=9223372036854775807):IntKind.i64.wrap ((k:Int)+1)=((k+1:Nat):Int):=by rw[wrap64 (by omega) h];rfl
theorem mo{k:IntKind}{a b:Int}(h:a=b):V.d (D.int k a)=V.d (D.int k b):=by rw[h]
theorem AY.UG {P:Program}{g:FuncId}{args:List V}{rd:List Nat}{o:Nat->ad}{x:D}(nx:Nat)(tS:rd.all (fun id=>decide (id<nx))=true)(dz:∀id∈V.aK args,id∈rd)(rv:∀id∈rd,∀j∈(o id).refs,j∈rd)
 (h:CtO P g args (El rd o) (.d x)):AY P g args rd o (.ret [x]) []:=by
 have ck:∀id∈rd,id<nx:=fun id ax=>by simpa using List.all_eq_true.1 tS id ax
 have FU:∀id,id∈rd->El rd o id=o id:=fun id ax=>by simp[El,ax]
 have Ck:∀id,id∉rd->El rd o id= .no:=fun id ax=>by simp[El,ax]
 have aaL:Good (El rd o) nx:=by
  refine⟨fun id ax=>Ck id (fun hm=>by have:=ck id hm;omega),fun id r hr=> ?_⟩
  by_cases ax:id∈rd
  ·rw[FU id ax]at hr;exact ck r (rv id ax r hr)
  ·rw[Ck id ax]at hr;cases hr
 refine AY.kF (nx:=nx) ck dz rv (fun x hx=>by cases hx) (fun x hx=>by cases hx) (h nx aaL _ _ fun o' nx' _ _ h3=>⟨fun id ax=> ?_,[.d x],[x],rfl,rfl,rfl,fun id ax=>by simp[V.ba,V.ids]at ax⟩)
 rw[h3 id (ck id ax),FU id ax];rfl
theorem Cl{P:Program}{g:FuncId}{K:KD}{X:XD}{o:Nat->ad}{nx fr:Nat}{all:List V}{rd:List Nat}{rs:List D}{Δ:List (Nat×ad)}(mC:rd.all (fun id=>decide (id<nx))=true)(h:AY P g all rd o (.ret rs) Δ)(hk:K (iR rs) Δ rd):r9 P g K X o nx fr all:=by
 unfold r9
 exact⟨rd,Δ,mC, .inl ⟨rs,h,hk⟩⟩
abbrev D.i (n:Int):D:= .int .i64 n
structure ec where
 name:List UInt8
 args:Int
structure aB where
 cons:List ec
 bV:List ec
inductive Tm where
 |mk (op n:Int) (kids:List Tm)
 deriving Inhabited
structure TB where
 var:Int
 term:Tm
def Tm.op:Tm->Int| .mk op _ _=>op
def Tm.n:Tm->Int| .mk _ n _=>n
def Tm.kids:Tm->List Tm| .mk _ _ l=>l
theorem Tm.eta (t:Tm):Tm.mk t.op t.n t.kids=t:=by cases t;rfl
theorem Tm.ind {P:Tm->Prop}(h:∀op n kids,(∀k∈kids,P k)->P (.mk op n kids)):∀t,P t:=
 fun t=>Tm.rec (motive_1:=P) (motive_2:=fun l=>∀k∈l,P k) (fun op n kids ih=>h op n kids ih) (fun _ h=>by cases h)
  (fun x l hx hl k hk=>(List.mem_cons.1 hk).elim (fun e=>e ▸ hx) (hl k)) t
mutual
def Tm.d:Tm->D
 | .mk op n kids=> .agg [.i op, .i n, .sl (Tm.ds kids)]
def Tm.ds:List Tm->List D
 |[]=>[]
 |t::l=>t.d::Tm.ds l
end
theorem Tm.Ex:∀l:List Tm,Tm.ds l=l.map Tm.d
 |[]=>rfl
 |t::l=>by simp[Tm.ds,Tm.Ex l]
theorem Tm.aaM (t:Tm):t.d= .agg [.i t.op, .i t.n, .sl (t.kids.map Tm.d)]:=by cases t;simp[Tm.d,Tm.Ex,Tm.op,Tm.n,Tm.kids]
@[go_sem] theorem Tm.aee (t:Tm):D.agg [.i t.op, .i t.n, .sl (t.kids.map Tm.d)]=t.d:=(Tm.aaM t).symm
@[go_sem] theorem Tm.adt (t:Tm):D.cells t.d=[.i t.op, .i t.n, .sl (t.kids.map Tm.d)]:=by rw[Tm.aaM];rfl
theorem Tm.fj {P:Tm->Prop}(h:∀t:Tm,(∀k∈t.kids,P k)->P t):∀t,P t:=Tm.ind fun op n kids ih=>h (.mk op n kids) ih
theorem Tm.UH (op n:Int)(l:List Tm):(Tm.mk op n l).d= .agg [.i op, .i n, .sl (l.map Tm.d)]:=by simp[Tm.d,Tm.Ex]
@[reducible] def ec.d (x:ec):D:= .agg [.str x.name, .i x.args]
@[reducible] def aB.d (s:aB):D:= .agg [.sl (s.cons.map ec.d), .sl (s.bV.map ec.d)]
@[reducible] def TB.d (b:TB):D:= .agg [.i b.var, .i b.term.op, .i b.term.n, .sl (b.term.kids.map Tm.d)]
mutual
def Tm.fits:Tm->Prop
 | .mk _ _ kids=>kids.length<=9223372036854775807/\Tm.Cm kids
def Tm.Cm:List Tm->Prop
 |[]=>True
 |t::l=>t.fits/\Tm.Cm l
end
theorem Tm.yf:∀l:List Tm,Tm.Cm l↔∀k∈l,k.fits
 |[]=>by simp[Tm.Cm]
 |t::l=>by simp[Tm.Cm,Tm.yf l]
theorem Tm.b9 (t:Tm):t.fits↔t.kids.length<=9223372036854775807/\∀k∈t.kids,k.fits:=by cases t;simp[Tm.fits,Tm.yf,Tm.kids]
mutual
def Tm.ma:Tm->Nat
 | .mk _ _ kids=>1+Tm.iH kids
def Tm.iH:List Tm->Nat
 |[]=>0
 |k::l=>Nat.max k.ma (Tm.iH l)
end
theorem Tm.Cn:∀ {l:List Tm} {k:Tm},k∈l->k.ma<=Tm.iH l
 |x::l,k,h=>by
  simp only[Tm.iH]
  rcases List.mem_cons.1 h with rfl|h
  ·exact Nat.le_max_left _ _
  ·exact Nat.le_trans (Tm.Cn h) (Nat.le_max_right _ _)
theorem Tm.qG {t k:Tm}(h:k∈t.kids):k.ma+1<=t.ma:=by
 cases t;simp only[Tm.kids]at h;simp only[Tm.ma];have:=Tm.Cn h;omega
mutual
def pre:Tm->Int->List (Tm×Int)
 | .mk op n kids,d=>(.mk op n kids,d)::Oo kids (d+1)
def Oo:List Tm->Int->List (Tm×Int)
 |[],_=>[]
 |k::l,d=>pre k d++Oo l d
end
theorem Iv(l:List Tm)(d:Int):Oo l d=l.flatMap fun k=>pre k d:=by
 induction l with
 |nil=>rfl
 |cons k l ih=>simp[Oo,ih]
theorem nu(t:Tm)(d:Int):pre t d=(t,d)::t.kids.flatMap fun k=>pre k (d+1):=by cases t;simp[pre,Iv,Tm.kids]
def dQ(n low high:Int):Bool:=decide (low<=n)&&decide (n<=high)
def letterF(b:UInt8):Bool:= !((decide ((b.toNat:Int)<97)||decide (122<(b.toNat:Int)))&&(decide ((b.toNat:Int)<65)||decide (90<(b.toNat:Int))))
def jI(s:List UInt8):Bool:=s.all letterF&&dQ s.length 1 8
def cD:List ec->List (List UInt8)->Option (List (List UInt8))
 |[],before=>some before
 |x::l,before=>if before.any (· ==x.name)then none else if(!jI x.name|| !dQ x.args 0 4)=true then none else cD l (before++[x.name])
def fB:List UInt8:=[70,97,108,115,101]
def tB:List UInt8:=[84,114,117,101]
def mE(x:ec)(s:List UInt8):Bool:=x.name==s&&x.args==0
def iU(s:aB):Bool:=
 if(!dQ s.cons.length 2 12||decide (8<(s.bV.length:Int)))=true then false else
 match s.cons with
 |a::b::_=>if(!mE a fB|| !mE b tB)=true then false else
  match cD s.cons []with
  |none=>false
  |some l=>(cD s.bV l).isSome
 |_=>false
mutual
def iI:Tm->Int->Int->Int
 | .mk _ _ kids,left,depth=>if left<1\/depth<1 then -1 else cE kids (left - 1) (depth - 1)
def cE:List Tm->Int->Int->Int
 |[],left,_=>left
 |k::l,left,depth=>if 0<=left then cE l (iI k left depth) depth else left
end
def im(l:List ec)(n:Int):Int:=match l[n.toNat]? with|some x=>x.args|none=>0
def bn(s:aB)(t:Tm):Bool:=
 let k:Int:=t.kids.length
 if t.op=1 then k==0&&dQ t.n 0 19
 else if t.op=2 then k==0&&dQ t.n (-1000000) 1000000
 else if t.op=3 then dQ t.n 0 (s.cons.length - 1)&&k==im s.cons t.n
 else if t.op=4 then dQ t.n 0 (s.bV.length - 1)&&k==im s.bV t.n
 else if t.op=5 then dQ t.n 0 (s.bV.length - 1)&&decide (k<im s.bV t.n)
 else if t.op=8 then k==2&&dQ t.n 0 19
 else if(dQ t.op 6 15)=true then k==2&&t.n==0
 else false
mutual
def iq(s:aB):Tm->Bool
 | .mk op n kids=>bn s (.mk op n kids)&&tW s kids
def tW(s:aB):List Tm->Bool
 |[]=>true
 |k::l=>iq s k&&tW s l
end
def gr(s:aB)(t:Tm):Bool:=decide (0<=iI t 40 12)&&iq s t
mutual
def eV:Tm->Bool
 | .mk op _ kids=>tX kids&&((decide (1<=op)&&decide (op<=3))||op==5)
def tX:List Tm->Bool
 |[]=>true
 |k::l=>eV k&&tX l
end
mutual
def iJ:Tm->Tm->Bool
 | .mk op n kids, .mk op' n' RE=>op==op'&&n==n'&&kids.length==RE.length&&ir kids RE
def ir:List Tm->List Tm->Bool
 |[],_=>true
 |k::l,k'::l'=>iJ k k'&&ir l l'
 |_::_,[]=>true
end
def fT(t:Tm):Bool:=decide (0<=iI t 50 14)
def fO(l:List ec):Bool:=l.all fun x=>decide ((x.name.length:Int)<=30)
def ez(s:aB):Bool:= !(decide (16<(s.cons.length:Int))||decide (12<(s.bV.length:Int)))&&fO s.cons&&fO s.bV
section
def kO(id:Nat)(K X:V->(Nat->ad)->Nat->Prop)(e:fH)(s:S):Prop:=
 match e with
 | .normal=>∃nf m en p c d st pd,s.o id= .loop nf m en p c d st pd/\K (.d (.bool true)) (ay s.o id (.loop nf m en p c d .ready none)) s.nx
 | .ret=>∃nf m en p c d st pd,s.o id= .loop nf m en p c d st pd/\K (.d (.bool false)) (ay s.o id (.loop nf m en p c d .done (some .ret))) s.nx
 | .exit j=>∃nf m en p c d st pd,s.o id= .loop nf m en p c d st pd/\K (.d (.bool false)) (ay s.o id (.loop nf m en p c d .done (some (.exit j)))) s.nx
 | .bJ v=>X v s.o s.nx
def UI(P:Program)(n b id:Nat)(e9:IC)(K X:V->(Nat->ad)->Nat->Prop)(e:fH)(s:S):Prop:=
 match e with
 | .normal=>∃nf m en p c d pd,s.o id= .loop nf m en p c d .ready pd/\tV P n b true e9 (kO id K X) ⟨s.env,ay s.o id (.loop nf m en p c d .busy pd),s.nx⟩
 | .bJ v=>X v s.o s.nx
 |_=>False
section
variable {P:Program}{M:Nat->Prop}{φ cL:Place}{H0:Hp}{w w0:World}{n:Nat}{s:S}{a:Act}{cx:Cx}
theorem Co{id:Nat}{x:ad}{s:S}(ck:id<s.nx)(j:Nat)(hu:(s.H.put [(id,x)]).us j):j<s.nx:=by
 simp only[dX]at hu
 rcases hu with hu|hu
 ·exact hu
 ·subst hu;exact ck
theorem vo{B:Nat->Prop}{H:Hp}{n:Nat}:∀ (ps:List Nat) (vs:List V) (us:List Value) (env:Nat->V) (tmps:Array Value),tmps.size=n->ps.length=vs.length->V.aC B φ H w vs us->ps.all (fun t=>decide (t<n))=true->(∀i,V.den B φ H w (env i) (tmps.getD i undef))->
 ((ps.zip us).foldl (fun tmps p=>tmps.setIfInBounds p.1 p.2) tmps).size=n/\∀i,V.den B φ H w (px env ps vs i) (((ps.zip us).foldl (fun tmps p=>tmps.setIfInBounds p.1 p.2) tmps).getD i undef)
 |[],[],us,env,tmps,eh,_,hd,_,he=>by simp only[V.aC]at hd;subst hd;exact⟨eh,he⟩
 |[],v::vs,us,env,tmps,_,h,_,_,_=>by simp at h
 |t::ps,[],us,env,tmps,_,h,_,_,_=>by simp at h
 |t::ps,v::vs,us,env,tmps,eh,hl,hd,hp,he=>by
  obtain⟨u,us,rfl,h1,h2⟩:=hd
  simp only[List.all_cons,Bool.and_eq_true,decide_eq_true_eq]at hp
  simp only[List.zip_cons_cons,List.foldl_cons,px]
  refine vo ps vs us (ay env t v) (tmps.setIfInBounds t u) (by simp[eh]) (by simpa using hl) h2 hp.2 (fun i=> ?_)
  simp only[aL]
  by_cases hi:i=t
  ·subst hi
   have:(tmps.setIfInBounds i u).getD i undef=u:=by simp[Array.getD,eh,hp.1]
   rw[if_pos rfl,this];exact h1
  ·have:(tmps.setIfInBounds t u).getD i undef=tmps.getD i undef:=by
    exact TE
   rw[if_neg hi,this];exact he i
theorem dL.vj (bc:P.follows .mixedOrders=true){id:Nat}{args:List V}{o:Nat->ad}{nx:Nat}{K X:V->(Nat->ad)->Nat->Prop}{env:List V}{ps:List Nat}{jv e9:IC}{st:LoopState}{pd:Option jS}
 (ho:o id= .loop P.funcs.size n env ps jv e9 st pd) (ck:id<nx) (Ey:ps.all (fun t=>decide (t<n))=true) (hl:args.length=ps.length)
 (h:tV P n nx true jv (UI P n nx id e9 K X) ⟨px (aY env) ps args,o,nx⟩):dL P id args o nx K X:=by
 refine⟨by rw[ho];rfl,fun M φ w vals b hH hd eM=> ?_⟩
 have aV:=hH.ok id
 simp only[aR,hp,ho]at aV
 obtain⟨b',r,h1,h2,h0,h3,h4,h5,h6,h7,h8,h9⟩:=aV
 rw[eM]at h1;simp at h1;subst h1
 have hlen:=V.aA _ _ hd
 have eh:vals.size=r.params.size:=by
  have:r.params.toList.length=ps.length:=by rw[h5]
  simp at hlen this;omega
 let tm:Array Value:=(ps.zip vals.toList).foldl (fun tmps p=>tmps.setIfInBounds p.1 p.2) r.tmps
 have aaN:(r.params.zip vals).foldl (fun tmps (p:Tmp×Value)=>tmps.setIfInBounds p.1 p.2) r.tmps=tm:=by
  rw[<- Array.foldl_toList,Array.toList_zip,h5]
 obtain⟨p1,p2⟩:=vo (B:=ak M φ (hp o nx)) (H:=hp o nx) (φ:=φ) (w:=w) ps args vals.toList (aY env) r.tmps h6 hl.symm hd Ey h9
 refine⟨r.fn,tm,r.assign,r.body, ?_,fun k=> ?_⟩
 ·simp only[Instr.yield,Sem.run_bind,kp h2,Result.andThen_ok,eh,ne_eq,not_true_eq_false,if_false,Sem.run_pure]
  rw[<- aaN]
 ·
   let s0:S:=⟨px (aY env) ps args,o,nx⟩
   let a0:Act:={tmps:=tm,defers:=[]}
   have oC:cf M φ (hp o nx) w n ⟨[],true⟩ φ s0 a0 w:=⟨hH,Trans.refl _ _ _,p1,⟨[],rfl,List.nodup_nil,fun _=>rfl,fun r hr=>by cases hr⟩,p2⟩
   have vq:∀ {aF s' a' w'},cf M φ (hp o nx) w n ⟨[],true⟩ aF s' a' w'->a'.defers=[]:=by
    intro aF s' a' w' hs
    obtain⟨ms,g1,_,g3,_⟩:=hs.defers
    rw[g3 rfl]at g1;exact g1
   have aaO:∀ {aF s' a' w'} {nf m:Nat} {en:List V} {p:List Nat} {c d:IC} {st:LoopState} {pd:Option jS} (st':LoopState) (pd':Option jS),cf M φ (hp o nx) w n ⟨[],true⟩ aF s' a' w'->s'.o id= .loop nf m en p c d st pd->
    ∃r',w'.heap[b]? =some (.loop r')/\r'.state=st/\r'.pending=pd.map jS.code/\
     cf M φ (hp o nx) w n ⟨[],true⟩ aF ⟨s'.env,ay s'.o id (.loop nf m en p c d st' pd'),s'.nx⟩ a' {w' with heap:=w'.heap.setIfInBounds b (.loop {r' with state:=st',pending:=pd'.map jS.code})}:=by
    intro aF s' a' w' nf m en p c d st pd st' pd' hs pT
    have T1:aF id= .pointer (some ⟨b,0,none⟩):=by
     have:=(hs.tr.rel.row id ck (by show(s'.o id).ct=true;rw[pT];rfl)).2
     rw[this];exact eM
    have aaP:id<s'.nx:=hs.tr.rel.us id ck
    obtain⟨r',r1,r2,r3,r4,r5⟩:=xW (st':=st') (pd':=pd') hs.heap aaP (show s'.H.o id=_ from pT) T1
    exact⟨r',r1,r2,r3,eN hs r4 r5 rfl (Co aaP)⟩
   have ha:=ik (P:=P) (n:=n) (b:=nx) (rd:=true) bc r.assign _ _ s0 (fun _ _ h=>h) (by rw[h7];exact h)
   refine uW h0 (gJ (hU (P:=P) (H0:=hp o nx) (b:=nx) (cx:=⟨[],true⟩) (ro:=some b) (fun id hu=>hu) (fun h=>by cases h) r.assign _ s0 φ a0 w ha oC) ?_)
   rintro e a1 w1 ⟨x,s1,iP,hq,rA,hm⟩
   cases e<;>cases x<;>first|(exact hm.elim)|skip
   ·
     obtain⟨nf,m,en,p,c,d,pd1,q1,q2⟩:=hq
     obtain⟨r',r1,r2,r3,F7⟩:=aaO .busy pd1 rA q1
     have UJ:(Instr.beginRound b).run P w1= .ok () {w1 with heap:=w1.heap.setIfInBounds b (.loop {r' with state:= .busy,pending:=pd1.map jS.code})}:=by
      have e1:({r' with state:= .busy}:Loop)={r' with state:= .busy,pending:=pd1.map jS.code}:=by rw[<- r3]
      simp only[Instr.beginRound,Sem.run_bind,kp r1,Result.andThen_ok,iS _ r1,r2,Sem.run_pure,e1]
     refine⟨_,UJ, ?_⟩
     have bD:=F7.heap.ok id
     simp only[aR,S.H,aL,if_true]at bD
     obtain⟨b2,r2',_,_,_,_,_,_,_,_,_,_⟩:=bD
     have hb:=ik (P:=P) (n:=n) (b:=nx) (rd:=true) bc r.body _ _ _ (fun _ _ h=>h) (by rw[h8];exact q2)
     refine gJ (hU (P:=P) (H0:=hp o nx) (b:=nx) (cx:=⟨[],true⟩) (ro:=some b) (fun id hu=>hu) (fun h=>by cases h) r.body _ _ iP a1 _ hb F7) ?_
     rintro e a2 w2 ⟨x,s2,H9,W8,F8,Na⟩
     have fin:∀ {nf m:Nat} {en:List V} {p:List Nat} {c d:IC} {st:LoopState} {pd:Option jS} (jump:Option jS) (t:Bool) (st':LoopState),t=jump.isNone->st'=(if jump.isNone then .ready else .done)->s2.o id= .loop nf m en p c d st pd->K (.d (.bool t)) (ay s2.o id (.loop nf m en p c d st' jump)) s2.nx->
      ∃v w',(Instr.endRound b (jump.map jS.code)).run P w2= .ok v w'/\mZ M φ (hp o nx) w K X (.returned v) w':=by
      intro nf m en p c d st pd jump t st' ht jT ho2 hK
      obtain⟨r3',g1,g2,g3,W9⟩:=aaO st' jump F8 ho2
      refine⟨.bool t,_, ?_,H9,_,_,_,W9.heap,W9.tr,by simp only[V.den,D.den],hK⟩
      subst ht;subst jT
      simp only[Instr.endRound,Sem.run_bind,kp g1,Result.andThen_ok,iS _ g1,Sem.run_pure,Option.isNone_map]
     cases e<;>cases x<;>first|(exact Na.elim)|skip
     ·obtain⟨nf,m,en,p,c,d,st,pd,k1,k2⟩:=W8
      exact fin none true .ready rfl rfl k1 k2
     ·rename_i j
      subst Na
      obtain⟨nf,m,en,p,c,d,st,pd,k1,k2⟩:=W8
      exact fin (some (.exit _)) false .done rfl rfl k1 k2
     ·obtain⟨nf,m,en,p,c,d,st,pd,k1,k2⟩:=W8
      exact fin (some .ret) false .done rfl rfl k1 k2
     ·obtain⟨val,rfl,k2⟩:=Na
      exact⟨vq F8,H9,_,_,_,F8.heap,F8.tr,val,rfl,k2,W8⟩
   ·exact hq.elim
   ·exact hq.elim
   ·obtain⟨val,rfl,k2⟩:=hm
    exact⟨vq rA,iP,_,_,_,rA.heap,rA.tr,val,rfl,k2,hq⟩
end
end
section
def UK(ops:Array Oper)(t t1:Nat):Prop:=
 (∃o1 o2,ops=#[o1,o2]/\o1.op= .call ⟨.builtin .recover,#[],#[]⟩/\o1.dst=some t/\o1.guard=none/\o2.op= .assign (.tmp t)/\o2.dst=some t1/\o2.guard=none)\/
 (∃o1,ops=#[o1]/\t1=t/\o1.op= .call ⟨.builtin .recover,#[],#[]⟩/\o1.dst=some t/\o1.guard=none)
structure Cq (P:Program) (g:FuncId) (n t t1:Nat) (ic:IC):Prop where
 get:∃fn id ops c,P.funcs[g]? =some fn/\(fn.name== "runtime.NumGoroutine")=false/\fn.ntmps=n/\fn.results=#[]/\fn.body=some (.seq (.region id ops false) c)/\
  UK ops t t1/\t<n/\t1<n/\low n c=ic
structure Gn (P:Program) (f:FuncId) (n:Nat) (jv e9:IC) (g:FuncId) (t:Nat) (bM:List Operand) (rs:List ResultVar):Prop where
 get:∃fn id o1 o2 a b d,P.funcs[f]? =some fn/\(fn.name== "runtime.NumGoroutine")=false/\fn.ntmps=n/\fn.results.toList=rs/\fn.body=some (.seq a d)/\(d= .seq (.region id #[o1,o2] false) b\/d= .scope (.seq (.region id #[o1,o2] false) b))/\
  o1.op= .makeFunc (.func g) #[] bM.toArray/\o1.dst=some t/\o1.guard=none/\o2.op= .defer ⟨.value (.tmp t),#[],#[]⟩/\o2.dst=none/\o2.guard=none/\t<n/\low n a=jv/\low n b=e9
def Iw(K:(Nat->ad)->Nat->Prop)(e:fH)(s:S):Prop:=match e with| .normal| .ret=>K s.o s.nx|_=>False
def Ez(P:Program)(n t t1:Nat)(ic:IC)(bM:List V)(u:V)(o:Nat->ad)(nx:Nat)(K:(Nat->ad)->Nat->Prop):Prop:=
 bM.length<=n/\tV P n nx true ic (Iw K) ⟨ay (ay (cw bM) t u) t1 u,o,nx⟩
def zV(P:Program)(n t t1:Nat)(ic:IC)(bM:List V)(rs:List ResultVar)(K X:V->(Nat->ad)->Nat->Prop)(e:fH)(s:S):Prop:=
 match e with
 | .normal| .ret=>Ez P n t t1 ic bM (.d .eP) s.o s.nx fun o nx=>l0 P rs K X .ret ⟨s.env,o,nx⟩
 | .bJ v=>Ez P n t t1 ic bM v s.o s.nx fun o nx=>l0 P rs K X .ret ⟨s.env,o,nx⟩
 | .exit _=>False
def Cr(P:Program)(n t:Nat)(e9:IC)(fk:List Operand)(g:FuncId)(D:List V->fH->S->Prop)(e:fH)(s:S):Prop:=
 match e with
 | .normal=>tV P n s.nx false e9 (D (fk.map s.ev)) ⟨ay s.env t (.func (.func g) [] (fk.map s.ev)),s.o,s.nx⟩
 |_=>False
section
variable {P:Program}{M:Nat->Prop}{φ cL:Place}{H H0:Hp}{w w0:World}{n:Nat}{s:S}{a:Act}{cx:Cx}{k:Nat}
theorem Ix(bc:P.follows .mixedOrders=true){g:FuncId}{t t1:Nat}{ic:IC}(hg:Cq P g n t t1 ic){bM:List V}{u:V}{o:Nat->ad}{nx:Nat}{K:(Nat->ad)->Nat->Prop}(h:Ez P n t t1 ic bM u o nx K)
 {vals:Array Value} {val:Value} {m:FrameMode} (hH:az M φ (hp o nx) w) (hd:V.aC (ak M φ (hp o nx)) φ (hp o nx) w bM vals.toList) (hv:V.den (ak M φ (hp o nx)) φ (hp o nx) w u val)
 (hm:(m= .returning/\val= .nilIface)\/m= .panicking [{v:=val,recovered:=false}]):
 CallsDIn (dP none) k P g vals m w fun e u' w'=>∃v aF o' nx',e= .returned v/\settle u'= .returning/\az M aF (hp o' nx') w'/\Trans φ (hp o nx) w aF (hp o' nx') w'/\K o' nx':=by
 obtain⟨fn,id,ops,c,hf,RF,hnt,BQ,qy,J4,ht,DA,rY⟩:=hg.get
 have ck:g<P.funcs.size:=(Array.getElem?_eq_some_iff.1 hf).1
 obtain⟨rv,h⟩:=h
 have hlen:=V.aA _ _ hd
 refine⟨trivial,fun pA cs K9 QY=> ?_⟩
 let b:Frame:={(default:Frame)with fn:=g,kind:= .deferred,roundOf:=none}
 let tY:Array Value:=vals++Array.replicate (fn.ntmps - vals.size) undef
 have aef:tY.size=n:=by simp only[tY,Array.size_append,Array.size_replicate];simp at hlen;omega
 have lZ:Frame.enter P g vals .deferred=b.atR {tmps:=tY,defers:=[]} [.code (.seq (.region id ops false) c)]:=by
  simp[Frame.enter,Frame.atR,hf,qy,b,tY]
 obtain⟨m',hm',bD⟩:∃m',settle m'= .returning/\((recoverD (pA::cs)=none/\m'=m/\val= .nilIface)\/recoverD (pA::cs)=some (val,{pA with mode:=m'}::cs)):=by
  rcases hm with⟨rfl,rfl⟩|rfl
  ·exact⟨.returning,rfl, .inl ⟨by simp[recoverD,K9],rfl,rfl⟩⟩
  ·exact⟨.panicking [{v:=val,recovered:=true}],rfl, .inr (by simp[recoverD,K9])⟩
 have hc0:({pA with mode:=m}:Frame)=pA:=by subst K9;rfl
 let a1:Act:={tmps:=(tY.setIfInBounds t val).setIfInBounds t1 val,defers:=[]}
 have N9:(Code.region id ops false).wpSIn (dP none) k P (fun e a' cs' w'=>e= .normal/\a'=a1/\cs'={pA with mode:=m'}::cs/\w'=w) {tmps:=tY,defers:=[]} (pA::cs) w:=by
  rcases J4 with⟨o1,o2,rfl,e1,e2,e3,e4,e5,e6⟩|⟨o1,rfl,rfl,e1,e2,e3⟩
  ·refine wpSIn_region ?_
   have hr:List.range (#[o1,o2]:Array Oper).size=[0,1]:=rfl
   have g0:(#[o1,o2]:Array Oper)[0]? =some o1:=rfl
   have g1:(#[o1,o2]:Array Oper)[1]? =some o2:=rfl
   rw[hr]
   have x1:∀ (ρ:Operand->Value) (w:World),(execOp ρ o1).run P w= .ok .recover w:=by
    intro ρ w
    simp[execOp,e1,resolve,invoke,builtin]
   have x2:∀ (ρ:Operand->Value) (w:World),(execOp ρ o2).run P w= .ok (.value (ρ (.tmp t))) w:=by
    intro ρ w
    simp[execOp,e4]
   have last:∀cs',cs'={pA with mode:=m'}::cs->wpOpsSIn (dP none) k P #[o1,o2] (fun e a' cs' w'=>e= .normal/\a'=a1/\cs'={pA with mode:=m'}::cs/\w'=w) [1] (({tmps:=tY,defers:=[]}:Act).put (some t) val) cs' w:=by
    rintro cs' rfl
    have hw:Region.wanted o2 (yielded #[o1,o2] (({tmps:=tY,defers:=[]}:Act).put (some t) val).tmps)=true:=by simp[Region.wanted,e6]
    have dk:(({tmps:=tY,defers:=[]}:Act).put (some t) val).eval (.tmp t)=val:=by
     have:t<tY.size:=af
     simp[Act.put,Act.eval,Array.getD,this]
    simp only[wpOpsSIn,g1,hw,if_true,x2,dk,e5]
    refine⟨fun _ _=>trivial, ?_⟩
    simp[a1,Act.put]
   have hw:Region.wanted o1 (yielded #[o1,o2] tY)=true:=by simp[Region.wanted,e3]
   rw[wpOpsSIn,g0]
   refine⟨fun _ _=>trivial, ?_⟩
   simp only[hw,if_true,x1,e2]
   rcases bD with⟨hr,rfl,rfl⟩|hr
   ·simp only[hr]
    exact last _ (by rw[hc0])
   ·simp only[hr]
    exact last _ rfl
  ·refine wpSIn_region ?_
   have hr:List.range (#[o1]:Array Oper).size=[0]:=rfl
   have g0:(#[o1]:Array Oper)[0]? =some o1:=rfl
   rw[hr]
   have x1:∀ (ρ:Operand->Value) (w:World),(execOp ρ o1).run P w= .ok .recover w:=by
    intro ρ w
    simp[execOp,e1,resolve,invoke,builtin]
   have same:a1=({tmps:=tY,defers:=[]}:Act).put (some t1) val:=by
    simp only[a1,Act.put]
    congr 1
    apply Array.ext_getElem?
    intro j
    simp only[Array.getElem?_setIfInBounds]
    by_cases hj:t1=j
    ·subst hj;simp
    ·simp[hj]
   have last:∀cs',cs'={pA with mode:=m'}::cs->wpOpsSIn (dP none) k P #[o1] (fun e a' cs' w'=>e= .normal/\a'=a1/\cs'={pA with mode:=m'}::cs/\w'=w) [] (({tmps:=tY,defers:=[]}:Act).put (some t1) val) cs' w:=by
    rintro cs' rfl
    simp only[wpOpsSIn]
    exact⟨trivial,same.symm,trivial,trivial⟩
   have hw:Region.wanted o1 (yielded #[o1] tY)=true:=by simp[Region.wanted,e3]
   rw[wpOpsSIn,g0]
   refine⟨fun _ _=>trivial, ?_⟩
   simp only[hw,if_true,x1,e2]
   rcases bD with⟨hr,rfl,rfl⟩|hr
   ·simp only[hr]
    exact last _ (by rw[hc0])
   ·simp only[hr]
    exact last _ rfl
 obtain⟨er,ar,csr,wr,hl,⟨rfl,rfl,rfl,hwr⟩,dn⟩:=N9 b [.code c] rfl rfl trivial (fun d hd=>by simp[dP]at hd)
 rw[hwr]at dn
 let s0:S:=⟨ay (ay (cw bM) t u) t1 u,o,nx⟩
 have oC:cf M φ (hp o nx) w n ⟨[],true⟩ φ s0 a1 w:=by
  refine⟨hH,Trans.refl _ _ _,by simp[a1,aef],⟨[],rfl,List.nodup_nil,fun _=>rfl,fun r hr=>by cases hr⟩,fun i=> ?_⟩
  have ej:=Bg (m:=fn.ntmps - vals.size) hd i
  simp only[s0,a1,aL]
  have ht0:t<tY.size:=af
  have aeg:t1<tY.size:=af
  by_cases h1:i=t1
  ·subst h1
   simp only[if_true]
   have:((tY.setIfInBounds t val).setIfInBounds i val).getD i undef=val:=by simp[Array.getD,aeg]
   rw[this];exact hv
  ·simp only[h1,if_false]
   have e1:((tY.setIfInBounds t val).setIfInBounds t1 val).getD i undef=(tY.setIfInBounds t val).getD i undef:=by
    exact Qw
   rw[e1]
   by_cases h2:i=t
   ·subst h2
    simp only[if_true]
    have:(tY.setIfInBounds i val).getD i undef=val:=by simp[Array.getD,ht0]
    rw[this];exact hv
   ·simp only[h2,if_false]
    have e1:(tY.setIfInBounds t val).getD i undef=tY.getD i undef:=by
     simp only[Array.getD_eq_getD_getElem?]
     rw[Array.getElem?_setIfInBounds_ne (Ne.symm h2)]
    rw[e1];exact ej
 have hcw:=ik (P:=P) (n:=n) (b:=nx) (rd:=true) bc c _ _ s0 (fun _ _ h=>h) (by rw[rY];exact h)
 obtain⟨e,a',w',⟨x,s',aF,hq,jV,hx⟩,F4⟩:=hU (P:=P) (H0:=hp o nx) (b:=nx) (cx:=⟨[],true⟩) (ro:=none) (fun id hu=>hu) (fun h=>by cases h) c _ s0 φ a1 w hcw oC b [] ({pA with mode:=m'}::cs) rfl ck
 have i0:(lone (b.atR {tmps:=tY,defers:=[]} [.code (.seq (.region id ops false) c)]) (pA::cs) w).fenced P (dP none):=fenced_calm (n:=0) trivial gI rfl
 have RG:StepsIn (Machine.fenced P (dP none)) P (lone (b.atR {tmps:=tY,defers:=[]} [.code (.seq (.region id ops false) c)]) (pA::cs) w) (lone (b.atR a1 [.code c]) ({pA with mode:=m'}::cs) w):= .head i0 stepR_seq dn
 have vq:a'.defers=[]:=by
  obtain⟨ms,g1,_,g3,_⟩:=jV.defers
  rw[g3 rfl]at g1;exact g1
 have aaQ:∀tm:Array Value,∃v,(results fn tm).run P w'= .ok v w':=by
  intro tm
  refine⟨_,ng (vals:=[]) ?_⟩
  rw[BQ];rfl
 rw[lZ]
 obtain⟨v,pS⟩:=aaQ a'.tmps
 cases e<;>cases x<;>first|(exact hx.elim)|(exact hq.elim)|skip
 ·exact⟨.returned v,m',w',_,⟨v,aF,s'.o,s'.nx,rfl,hm',jV.heap,jV.tr,hq⟩,StepsIn.trans RG (StepsIn.trans F4 (.one (fenced_calm (n:=0) (fr:=b.atR a' []) trivial gI rfl) (stepR_end rfl))),rfl,rfl,rfl,vq,fn,hf,pS⟩
 ·obtain⟨todo,hs⟩:=F4.1 rfl
  exact⟨.returned v,m',w',_,⟨v,aF,s'.o,s'.nx,rfl,hm',jV.heap,jV.tr,hq⟩,StepsIn.trans RG hs,rfl,rfl,rfl,vq,fn,hf,pS⟩
theorem Cs{d c:Code}{ro:Option Nat}{Q:Exit->Act->World->Prop}{a:Act}{w:World}(h:d=c\/d= .scope c)(hg:∀l a w, ¬Q (.goto l) a w)(hc:c.tD P ro Q a w):d.tD P ro Q a w:=by
 rcases h with rfl|rfl
 ·exact hc
 ·exact xU hc hg
theorem bQ.Ct (bc:P.follows .mixedOrders=true){f g:FuncId}{jv e9 yg:IC}{t m r r1:Nat}{fk:List Operand}{rs:List ResultVar}(hf:Gn P f n jv e9 g t fk rs)(hg:Cq P g m r r1 yg)
 {args:List V} {o:Nat->ad} {nx:Nat} {K X:V->(Nat->ad)->Nat->Prop} (hl:args.length<=n)
 (h:tV P n nx true jv (Cr P n t e9 fk g fun bM=>zV P m r r1 yg bM rs K X) ⟨cw args,o,nx⟩):bQ P f args o nx K X:=by
 obtain⟨fn,id,o1,o2,ca,cb,cd,Jh,RF,hnt,BQ,qy,hsc,e1,e2,e3,e4,e5,e6,ht,hla,Kk⟩:=hf.get
 obtain⟨gn,_,_,gc,si,UL,_,_,UM,_⟩:=hg.get
 refine⟨⟨fn,Jh,RF,by rw[qy];rfl⟩,fun M φ w vals hH hd=> ?_⟩
 have hlen:=V.aA _ _ hd
 let s0:S:=⟨cw args,o,nx⟩
 let a0:Act:={tmps:=vals++Array.replicate (fn.ntmps - vals.size) undef,defers:=[]}
 have oC:cf M φ (hp o nx) w n ⟨[],true⟩ φ s0 a0 w:=by
  exact ZC
 have ha:=ik (P:=P) (n:=n) (b:=nx) (rd:=true) bc ca _ _ s0 (fun _ _ h=>h) (by rw[hla];exact h)
 refine BK (ro:=none) (k:=0) (nh Jh qy (zr (gJ (hU (P:=P) (H0:=hp o nx) (b:=nx) (cx:=⟨[],true⟩) (ro:=none) (fun id hu=>hu) (fun h=>by cases h) ca _ s0 φ a0 w ha oC) ?_)))
 rintro e a1 w1 ⟨x,s1,iP,hq,rA,hm⟩
 cases e<;>cases x<;>first|(exact hm.elim)|(exact hq.elim)|skip
 have vq:a1.defers=[]:=by
  obtain⟨ms,g1,_,g3,_⟩:=rA.defers
  rw[g3 rfl]at g1;exact g1
 let cv:Array Value:=(fk.map a1.eval).toArray
 let fv:Value:= .func (.func g) #[] cv
 let dd:Deferred:={target:= .fn (.func g) cv,args:=#[]}
 let a2:Act:={tmps:=a1.tmps.setIfInBounds t fv,defers:=[dd]}
 have RH:V.aC (ak M iP s1.H) iP s1.H w1 (fk.map s1.ev) cv.toList:=by
  simpa[cv]using j9 (M:=M) (φ:=iP) (H:=s1.H) (w:=w1) s1 a1 rA.env fk
 refine Cs hsc (fun l a w h=> ?_) ?_
 ·exact h.elim
 refine zr (gJ (Q:=fun e a w=>e= .normal/\a=a2/\w=w1) (pt (k:=0) (wpIn_region_list ?_)) ?_)
 ·have y1:Region.wanted o1 (yielded #[o1,o2] a1.tmps)=true:=by simp[Region.wanted,e3]
  have y2:∀tm,Region.wanted o2 (yielded #[o1,o2] tm)=true:=by intro tm;simp[Region.wanted,e6]
  have dk:(a1.put (some t) fv).eval (.tmp t)=fv:=by
   have:t<a1.tmps.size:=by rw[rA.size];exact ht
   simp[Act.put,Act.eval,Array.getD,this]
  show wpListIn (dP none) 0 P #[o1,o2] _ [o1,o2] a1 w1
  unfold wpListIn
  rw[if_pos y1]
  have x1:(execOp a1.eval o1).run P w1= .ok (.value fv) w1:=by simp[execOp,e1,fv,cv,Instr.makeFunc]
  refine kn (fun c hc=>by rw[e1]at hc;cases hc) ?_
  rw[x1]
  show wpListIn (dP none) 0 P #[o1,o2] _ [o2] (a1.put o1.dst fv) w1
  rw[e2]
  unfold wpListIn
  rw[if_pos (y2 _)]
  have x2:(execOp (a1.put (some t) fv).eval o2).run P w1= .ok (.defer dd) w1:=by
   simp[execOp,e4,resolve,dk,Deferred.ofValue,fv,dd]
  refine⟨fun _ _=>trivial, ?_⟩
  have:(o2.semAt (dP none).round (a1.put (some t) fv).eval)=execOp (a1.put (some t) fv).eval o2:=rfl
  rw[this,x2]
  unfold Oper.uponIn
  simp only[e5,wpListIn,Act.put,vq,a2,and_self]
 rintro e a w2 ⟨rfl,rfl,rfl⟩
 have DA:t<a1.tmps.size:=by rw[rA.size];exact ht
 let s2:S:=⟨ay s1.env t (.func (.func g) [] (fk.map s1.ev)),s1.o,s1.nx⟩
 have F7:cf M iP s1.H w2 n ⟨[dd],false⟩ iP s2 a2 w2:=by
  refine⟨rA.heap,Trans.refl _ _ _,by simp[a2,rA.size],⟨[],rfl,List.nodup_nil,fun _=>rfl,fun r hr=>by cases hr⟩,fun i=> ?_⟩
  simp only[s2,a2,aL]
  by_cases h1:i=t
  ·subst h1
   have:(a1.tmps.setIfInBounds i fv).getD i undef=fv:=by simp[Array.getD,DA]
   simp only[if_true];rw[this]
   exact⟨#[],cv,rfl,rfl,RH⟩
  ·have:(a1.tmps.setIfInBounds t fv).getD i undef=a1.tmps.getD i undef:=by
    exact Qw
   simp only[h1,if_false];rw[this]
   exact rA.env i
 have hb:=ik (P:=P) (n:=n) (b:=s1.nx) (rd:=false) bc cb _ _ s2 (fun _ _ h=>h) (by rw[Kk];exact hq)
 refine gJ (hU (P:=P) (H0:=s1.H) (b:=s1.nx) (cx:=⟨[dd],false⟩) (ro:=none) (fun id hu=>hu) (fun _=>rfl) cb _ s2 iP a2 w2 hb F7) ?_
 rintro e a3 w3 ⟨x,s3,φ3,hq3,F8,AU⟩
 obtain⟨ms,g1,g2,_,g4⟩:=F8.defers
 have hinv:(invoke dd.target dd.args).run P=fun w=> .ok (.enter g cv) w:=by
  funext w
  have:=lg (w:=w) ⟨gn,si,UL,by rw[UM];rfl⟩ cv
  simpa[dd,invoke]using this
 have last:∀ {w4:World} {tm:Array Value} {u:V} {val:Value} {m0:FrameMode},m0≠ .run->zw M iP s1.H w2 φ3 s3 a3.tmps w4->V.den (ak M φ3 s3.H) φ3 s3.H w4 u val->
  ((m0= .returning/\val= .nilIface)\/m0= .panicking [{v:=val,recovered:=false}])->
  (Ez P m r r1 yg (fk.map s1.ev) u s3.o s3.nx fun o nx=>l0 P rs K X .ret ⟨s3.env,o,nx⟩)->
  LeavesInM (dP none) 0 P fn a3.tmps (mZ M φ (hp o nx) w K X) [dd] m0 w4:=by
  intro w4 tm u val m0 ff hB Kh hm0 bD
  have UN:=V.aT hB.tr _ _ RH
  refine⟨ff, .inr ⟨fun h=>by simp[dP]at h, .func g,cv,g,cv,rfl,by rw[hinv],fun _ _=>trivial,CallsDIn.mono (Ix (k:=0 - 1) bc hg bD (m:=m0) hB.heap UN Kh hm0) ?_⟩⟩
  rintro e u' w5 ⟨v,φ5,o5,nx5,rfl,aeh,k1,k2,k3⟩
  show LeavesInM (dP none) 0 P fn a3.tmps (mZ M φ (hp o nx) w K X) [] (settle u') w5
  rw[aeh]
  obtain⟨vs,h1,h2⟩:=BS k3
  rw[<- BQ]at h1
  have aaR:∀i,V.den (ak M φ5 (hp o5 nx5)) φ5 (hp o5 nx5) w5 (s3.env i) (a3.tmps.getD i undef):=fun i=>V.aS k2 _ _ (hB.env i)
  obtain⟨afp,h3,h4⟩:=tU (P:=P) (s:=⟨s3.env,o5,nx5⟩) (a:=a3) k1 aaR _ _ h1
  exact⟨_,ng h3,φ5,o5,nx5,_,k1,rA.tr.trans (hB.tr.trans k2),BT h4,h2⟩
 have done:Ez P m r r1 yg (fk.map s1.ev) (.d .eP) s3.o s3.nx (fun o nx=>l0 P rs K X .ret ⟨s3.env,o,nx⟩)->LeavesInM (dP none) 0 P fn a3.tmps (mZ M φ (hp o nx) w K X) a3.defers .returning w3:=by
  intro bD
  rw[g1]
  exact gK (P:=P) (k:=0) (fn:=fn) (R:=mZ M φ (hp o nx) w K X) (u:= .returning) aE (ds:=[dd]) (fun w4 hB=>last (tm:=a3.tmps) aE hB (u:= .d .eP) (val:= .nilIface) (by simp[V.den,D.den]) (.inl ⟨rfl,rfl⟩) bD) ms w3 g2 g4 F8.toB
 cases e<;>cases x<;>first|(exact AU.elim)|skip
 ·exact done hq3
 ·exact hq3.elim
 ·exact done hq3
 ·rename_i v
  obtain⟨val,rfl,N4⟩:=AU
  show LeavesInM (dP none) 0 P fn a3.tmps (mZ M φ (hp o nx) w K X) a3.defers _ w3
  rw[g1]
  let aaS:Nat->V:=fun i=>match i with|0=>v|i+1=>s3.env i
  have aaT:(#[val]++a3.tmps).getD 0 undef=val:=by simp[Array.getD]
  have aaU:∀i,(#[val]++a3.tmps).getD (i+1) undef=a3.tmps.getD i undef:=by
   intro i
   simp only[Array.getD_eq_getD_getElem?]
   rw[Array.getElem?_append_right (by simp)]
   simp
  have hb0:zw M iP s1.H w2 φ3 ⟨aaS,s3.o,s3.nx⟩ (#[val]++a3.tmps) w3:=⟨F8.heap,F8.tr,fun i=>by
   cases i with
   |zero=>rw[aaT];exact N4
   |succ i=>rw[aaU];exact F8.env i⟩
  have aaV:∀w4,zw M iP s1.H w2 φ3 ⟨aaS,s3.o,s3.nx⟩ (#[val]++a3.tmps) w4->LeavesInM (dP none) 0 P fn a3.tmps (mZ M φ (hp o nx) w K X) [dd] (.panicking [{v:=val,recovered:=false}]) w4:=by
   intro w4 hB
   have hv4:=hB.env 0
   rw[aaT]at hv4
   refine last (tm:=a3.tmps) aE ⟨hB.heap,hB.tr,fun i=> ?_⟩ hv4 (.inr rfl) hq3
   have hs:=hB.env (i+1)
   rw[aaU]at hs
   exact hs
  exact gK (P:=P) (k:=0) (fn:=fn) (R:=mZ M φ (hp o nx) w K X) (u:= .panicking [{v:=val,recovered:=false}]) aE (ds:=[dd]) aaV ms w3 g2 g4 hb0
end
end
theorem AZ.La {P:Program}{g:FuncId}{ds:List D}{o:Nat->ad}{fr:Nat}{ty:TypeId}{sz:Nat}{es:List D}
 (h:bQ P g (ds.map .d) (fun _=> .no) 0 (fun v o1 _=>(∃j ep,v= .osl j ep/\o1 j= .arr ep ty sz es)\/(v= .aq/\es=[]/\0<sz)) (fun _ _ _=>False)):
 AZ P g (ds.map .d) [] o fr (.osl fr 0) [(fr, .arr 0 ty sz es)]:=by
 refine⟨h.1,fun o' us M φ w vals _ cY hH hd=> ?_⟩
 let cL:Place:=fun _=> .nilFunc
 have uX:∀b, ¬cG cL (hp (fun _=> .no) 0) b:=by rintro b ⟨id,hl,_⟩;simp[hp,ad.live]at hl
 have hM:∀b,ak M φ ⟨o',us⟩ b->b<w.heap.size:=fun b hb=>hb.elim (hH.AR b) fun hl=>(hH.ours b hl).2
 have xG:=(V.cI _ _).1 hd
 refine(h.2 (ak M φ ⟨o',us⟩) cL w vals (n6 cL hM) ((V.cI _ _).2 (D.aT (w:=w) (w':=w) (B:=ak M φ ⟨o',us⟩) (fun b _ hB=>⟨rfl,fun h=>h.elim hB (uX b)⟩) _ _ xG))).mono ?_
 rintro e w' ⟨iP,o1,n1,v,k1,k2,k3⟩
 have hk:ei (fun _=>False) w w':=⟨k2.cH.os,k2.cH.tape,k2.cH.output,k2.cH.size,fun k hk _=>k2.cH.block k hk (uX k)⟩
 have uw:(⟨o',us⟩:Hp).put [(fr, .arr 0 ty sz es)]=⟨put o' [(fr, .arr 0 ty sz es)],fun id=>us id\/id=fr⟩:=by
  simp only[Hp.put]
  congr 1
  funext id
  simp
 have fin:∀ (val:Value) (xs:List Value),(∀b,eg val=some b->w.heap.size<=b/\b<w'.heap.size)->0<sz->w'.ownsRow 0 ty sz val es.length xs->
  (eE (ak M (ay φ fr val) ((⟨o',us⟩:Hp).put [(fr, .arr 0 ty sz es)])) w' sz es xs)->
  val.oneCell'=true->
  ∃aF,az M aF ⟨put o' [(fr, .arr 0 ty sz es)],fun id=>us id\/id=fr⟩ w'/\Trans φ ⟨o',us⟩ w aF ⟨put o' [(fr, .arr 0 ty sz es)],fun id=>us id\/id=fr⟩ w'/\
   ∃Lb,Ending.returned val= .returned Lb/\V.den (ak M aF ⟨put o' [(fr, .arr 0 ty sz es)],fun id=>us id\/id=fr⟩) aF ⟨put o' [(fr, .arr 0 ty sz es)],fun id=>us id\/id=fr⟩ w' (.osl fr 0) Lb:=by
  intro val xs jC eh dB cZ UO
  have qx:=iB hH hk cY (.arr 0 ty sz es) val jC (by
   unfold aR
   rw[show((⟨o',us⟩:Hp).put [(fr, .arr 0 ty sz es)]).o fr= .arr 0 ty sz es by simp]
   refine⟨eh,xs, ?_,cZ⟩
   rw[show ay φ fr val fr=val by simp]
   exact dB)
  have RI:=dJ (φ:=φ) (H:=⟨o',us⟩) hk cY (.arr 0 ty sz es) val (fun b hb=>(jC b hb).1)
  rw[uw]at qx RI
  refine⟨ay φ fr val,qx,RI,val,rfl,UO, .inr rfl,fun e he=> ?_⟩
  have pQ:0=e:=by
   have:(put o' [(fr,ad.arr 0 ty sz es)] fr).cq=some 0:=by simp[put,ad.cq]
   exact Zp
  exact⟨af,fun _=>aE⟩
 cases e with
 |outgrown=>exact k3.elim
 |panicked ch=>obtain⟨_,_,_,h⟩:=k3;exact h.elim
 |returned val=>
  obtain⟨g1,⟨j,ep,rfl,hj⟩|⟨rfl,rfl,eh⟩⟩:=k3
  ·obtain⟨v0,v1,v2⟩:=g1
   have fG:val=iP j:=(v2 ep (by show(o1 j).cq=some ep;rw[hj];rfl)).2 rfl
   have cV:∀b,eg val=some b->cG iP (hp o1 n1) b:=fun b hb=>⟨j,by show(o1 j).live=true;rw[hj];rfl,by rw[<- fG];exact hb⟩
   have jC:∀b,eg val=some b->w.heap.size<=b/\b<w'.heap.size:=fun b hb=>⟨(k2.grow b (cV b hb)).resolve_left (uX b),(k1.ours b (cV b hb)).2⟩
   have Lc:=k1.ok j
   unfold aR at Lc
   rw[show(hp o1 n1).o j= .arr ep ty sz es from hj]at Lc
   obtain⟨eh,xs,dB,cZ⟩:=Lc
   have hBs:∀b,ak M (ay φ fr val) ((⟨o',us⟩:Hp).put [(fr, .arr 0 ty sz es)]) b->ak (ak M φ ⟨o',us⟩) iP (hp o1 n1) b:=by
    rintro b (hb|⟨id,hl,hb⟩)
    ·exact .inl (.inl hb)
    ·by_cases e:id=fr
     ·subst e
      simp at hb
      exact .inr (cV b hb)
     ·simp[e]at hl hb
      exact .inl (.inr ⟨id,hl,hb⟩)
   exact fin val xs jC eh (by rw[fG];exact dB) (cZ.mono (w:=w') (w':=w') (fun b _ hB=>⟨rfl,fun h=>hB (hBs b h)⟩)) v0
  ·have g1:val= .slice none 0 0:=g1
   subst g1
   exact YV
theorem AZ.Oq {P:Program}{g:FuncId}{args:List V}{ds:List D}{o:Nat->ad}{fr:Nat}{ty:TypeId}{sz:Nat}{es:List D}
 (e7:cc o args=some ds) (pR:D.jF es=true) (h:bQ P g (ds.map .d) (fun _=> .no) 0 (fun v o1 _=>(∃j ep,v= .osl j ep/\o1 j= .arr ep ty sz es)\/(v= .aq/\es=[]/\0<sz)) (fun _ _ _=>False)):
 AZ P g args (V.ba args) o fr (.osl fr 0) [(fr, .arr 0 ty sz es)]:=by
 refine⟨h.1,fun o' us M φ w vals hag cY hH hd=> ?_⟩
 obtain⟨f1,f2,f3,f4,f5⟩:=cW hH (V.ba args) (fun id ax=>(hag id ax).2)
 generalize hHF:(⟨o',us⟩:Hp).put (bw (⟨o',us⟩:Hp).o (V.ba args))=HF at f1 f2 f3
 let cL:Place:=fun _=> .nilFunc
 have uX:∀b, ¬cG cL (hp (fun _=> .no) 0) b:=by rintro b ⟨id,hl,_⟩;simp[hp,ad.live]at hl
 have hM:∀b,ak M φ HF b->b<w.heap.size:=fun b hb=>hb.elim (f1.AR b) fun hl=>(f1.ours b hl).2
 have xG:D.aC (ak M φ HF) w ds vals.toList:=dt f1 args ds _ (fun id ax=>by rw[f3 id ax];show(o' id).fz=(o id).fz;rw[(hag id ax).1]) e7 (V.aT f2 _ _ hd)
 refine(h.2 (ak M φ HF) cL w vals (n6 cL hM) ((V.cI _ _).2 (D.aT (w:=w) (w':=w) (B:=ak M φ HF) (fun b _ hB=>⟨rfl,fun h=>h.elim hB (uX b)⟩) _ _ xG))).mono ?_
 rintro e w' ⟨iP,o1,n1,v,k1,k2,k3⟩
 have hk:ei (fun _=>False) w w':=⟨k2.cH.os,k2.cH.tape,k2.cH.output,k2.cH.size,fun k hk _=>k2.cH.block k hk (uX k)⟩
 have uw:(⟨o',us⟩:Hp).put [(fr, .arr 0 ty sz es)]=⟨put o' [(fr, .arr 0 ty sz es)],fun id=>us id\/id=fr⟩:=by
  simp only[Hp.put]
  congr 1
  funext id
  simp
 have fin:∀ (val:Value) (xs:List Value),(∀b,eg val=some b->w.heap.size<=b/\b<w'.heap.size)->0<sz->w'.ownsRow 0 ty sz val es.length xs->
  (eE (ak M (ay φ fr val) ((⟨o',us⟩:Hp).put [(fr, .arr 0 ty sz es)])) w' sz es xs)->
  val.oneCell'=true->
  ∃aF,az M aF ⟨put o' [(fr, .arr 0 ty sz es)],fun id=>us id\/id=fr⟩ w'/\Trans φ ⟨o',us⟩ w aF ⟨put o' [(fr, .arr 0 ty sz es)],fun id=>us id\/id=fr⟩ w'/\
   ∃Lb,Ending.returned val= .returned Lb/\V.den (ak M aF ⟨put o' [(fr, .arr 0 ty sz es)],fun id=>us id\/id=fr⟩) aF ⟨put o' [(fr, .arr 0 ty sz es)],fun id=>us id\/id=fr⟩ w' (.osl fr 0) Lb:=by
  intro val xs jC eh dB cZ UO
  have qx:=iB hH hk cY (.arr 0 ty sz es) val jC (by
   unfold aR
   rw[show((⟨o',us⟩:Hp).put [(fr, .arr 0 ty sz es)]).o fr= .arr 0 ty sz es by simp]
   refine⟨eh,xs, ?_,cZ⟩
   rw[show ay φ fr val fr=val by simp]
   exact dB)
  have RI:=dJ (φ:=φ) (H:=⟨o',us⟩) hk cY (.arr 0 ty sz es) val (fun b hb=>(jC b hb).1)
  rw[uw]at qx RI
  refine⟨ay φ fr val,qx,RI,val,rfl,UO, .inr rfl,fun e he=> ?_⟩
  have pQ:0=e:=by
   have:(put o' [(fr,ad.arr 0 ty sz es)] fr).cq=some 0:=by simp[put,ad.cq]
   exact Zp
  exact⟨af,fun _=>aE⟩
 cases e with
 |outgrown=>exact k3.elim
 |panicked ch=>obtain⟨_,_,_,h⟩:=k3;exact h.elim
 |returned val=>
  obtain⟨g1,⟨j,ep,rfl,hj⟩|⟨rfl,rfl,eh⟩⟩:=k3
  ·obtain⟨v0,v1,v2⟩:=g1
   have fG:val=iP j:=(v2 ep (by show(o1 j).cq=some ep;rw[hj];rfl)).2 rfl
   have cV:∀b,eg val=some b->cG iP (hp o1 n1) b:=fun b hb=>⟨j,by show(o1 j).live=true;rw[hj];rfl,by rw[<- fG];exact hb⟩
   have jC:∀b,eg val=some b->w.heap.size<=b/\b<w'.heap.size:=fun b hb=>⟨(k2.grow b (cV b hb)).resolve_left (uX b),(k1.ours b (cV b hb)).2⟩
   have Lc:=k1.ok j
   unfold aR at Lc
   rw[show(hp o1 n1).o j= .arr ep ty sz es from hj]at Lc
   obtain⟨eh,xs,dB,cZ⟩:=Lc
   obtain⟨evs,e1,e2,e3⟩:=cZ
   exact fin val xs jC eh (by rw[fG];exact dB) ⟨evs,e1,e2,D.lW _ _ pR e3⟩ v0
  ·have g1:val= .slice none 0 0:=g1
   subst g1
   exact YV
theorem AZ.Ot {P:Program}{g:FuncId}{args:List V}{ds:List D}{o0 o:Nat->ad}{rd:List Nat}{fr:Nat}{v:V}{Δ:List (Nat×ad)}(ax:V.ba args=[])(e7:cc o0 args=some ds)
 (h:AZ P g (ds.map .d) rd o fr v Δ):AZ P g args rd o fr v Δ:=
 ⟨h.1,fun o' us M φ w vals h1 h2 hH hd=>h.2 o' us M φ w vals h1 h2 hH ((V.cI _ _).2 (dt hH args ds _ (by rw[ax];intro id h;cases h) e7 hd))⟩
def Gp(P:Program)(f:FuncId):Prop:=
 Enters P f/\∀ (w:World) (b:Nat) (es:Array MapEntry) (clock:Nat),w.heap[b]? =some (.map es clock)->
  Calls P f #[.map (some b)] w fun e w'=>e= .returned (.map (some w.heap.size))/\w'=w.alloc (.map es clock)
theorem bQ.UP {P:Program}{f:FuncId}(h:Gp P f){o:Nat->ad}{nx id:Nat}{kt vt:TypeId}{l:List (D×D)}(ho:o id= .map kt vt l){K X:V->(Nat->ad)->Nat->Prop}
 (hK:K (.mp nx) (ay o nx (.map kt vt l)) (nx+1)):bQ P f [.mp id] o nx K X:=by
 refine⟨h.1,fun M φ w vals hH hd=> ?_⟩
 have hlen:=V.aA _ _ hd
 obtain⟨v,rfl⟩:∃v,vals=#[v]:=by
  match vals,hlen with
  |⟨[v]⟩,_=>exact⟨v,rfl⟩
 obtain⟨v',pS,Kh⟩:=V.dp _ _ 0 (.mp id) hd rfl
 simp only[List.getElem?_cons_zero,Option.some.injEq]at pS
 subst pS
 have aV:=hH.ok id
 have xm:(hp o nx).o id= .map kt vt l:=ho
 simp only[aR,xm]at aV
 obtain⟨b,es,clock,e1,e2,e3,e4⟩:=aV
 have hv:v=φ id:=Kh.2.2 (by rw[xm];rfl)
 rw[hv,e1]
 refine(h.2 w b es clock e2).mono fun e w' ⟨he,hw⟩=> ?_
 subst he;subst hw
 have cY: ¬ (hp o nx).us nx:=fun h=>Nat.lt_irrefl _ h
 have uw:(hp o nx).put [(nx, .map kt vt l)]=hp (ay o nx (.map kt vt l)) (nx+1):=by
  simp only[Hp.put,hp]
  congr 1
  funext j
  simp only[List.map_cons,List.map_nil,List.mem_singleton,eq_iff_iff]
  omega
 have W3:∀c,eg (.map (some w.heap.size))=some c->w.heap.size<=c/\c<(w.alloc (.map es clock)).heap.size:=by
  intro c hc;simp[eg]at hc;subst hc;simp
 have ht:=dJ (φ:=φ) (H:=hp o nx) (cn w (.map es clock)) cY (.map kt vt l) (.map (some w.heap.size)) fun c hc=>(W3 c hc).1
 refine⟨ay φ nx (.map (some w.heap.size)),ay o nx (.map kt vt l),nx+1, .mp nx, ?_, ?_, ?_,hK⟩
 ·exact Zz
 ·rw[<- uw];exact ht
 ·rw[<- uw];exact⟨rfl,aE,fun _=>aE⟩
theorem bQ.Gq {P:Program}{f:FuncId}(h:Gp P f){o:Nat->ad}{nx id:Nat}{kt vt:TypeId}{l:List (D×D)}(ho:o id= .b8 l){K X:V->(Nat->ad)->Nat->Prop}
 (hK:K (.mp nx) (ay o nx (.map kt vt l)) (nx+1)):bQ P f [.mp id] o nx K X:=by
 refine⟨h.1,fun M φ w vals hH hd=> ?_⟩
 have hlen:=V.aA _ _ hd
 obtain⟨v,rfl⟩:∃v,vals=#[v]:=by
  match vals,hlen with
  |⟨[v]⟩,_=>exact⟨v,rfl⟩
 obtain⟨v',pS,Kh⟩:=V.dp _ _ 0 (.mp id) hd rfl
 simp only[List.getElem?_cons_zero,Option.some.injEq]at pS
 subst pS
 have aV:=hH.ok id
 have xm:(hp o nx).o id= .b8 l:=ho
 simp only[aR,xm]at aV
 obtain⟨b,es,clock,e1,e2,_,e3,e4⟩:=aV
 have hv:v=φ id:=Kh.2.2 (by rw[xm];rfl)
 rw[hv,e1]
 refine(h.2 w b es clock e2).mono fun e w' ⟨he,hw⟩=> ?_
 subst he;subst hw
 have cY: ¬ (hp o nx).us nx:=fun h=>Nat.lt_irrefl _ h
 have uw:(hp o nx).put [(nx, .map kt vt l)]=hp (ay o nx (.map kt vt l)) (nx+1):=by
  simp only[Hp.put,hp]
  congr 1
  funext j
  simp only[List.map_cons,List.map_nil,List.mem_singleton,eq_iff_iff]
  omega
 have W3:∀c,eg (.map (some w.heap.size))=some c->w.heap.size<=c/\c<(w.alloc (.map es clock)).heap.size:=by
  intro c hc;simp[eg]at hc;subst hc;simp
 have ht:=dJ (φ:=φ) (H:=hp o nx) (cn w (.map es clock)) cY (.map kt vt l) (.map (some w.heap.size)) fun c hc=>(W3 c hc).1
 refine⟨ay φ nx (.map (some w.heap.size)),ay o nx (.map kt vt l),nx+1, .mp nx, ?_, ?_, ?_,hK⟩
 ·exact Zz
 ·rw[<- uw];exact ht
 ·rw[<- uw];exact⟨rfl,aE,fun _=>aE⟩
end Go.Proofs.YtlhemmpklhhgoaaGreat
