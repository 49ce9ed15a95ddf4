/-
  A PART OF THE PROOF. Conditions: none.
-/
import Derived.Test.YtlhemmpklhhgoaaGreatQa9
set_option linter.unusedSimpArgs false
set_option linter.unusedVariables false
namespace Go.Proofs.YtlhemmpklhhgoaaGreat
@[go_sem] theorem nA (v:V) (l:List V):bf (v::l) 0=v:=rfl
@[go_sem] theorem nB (v:V) (l:List V) (i:Nat):bf (v::l) (i+1)=bf l i:=rfl
@[go_sem] theorem qc (i:Nat):bf [] i= .ab:=by simp[bf]
@[go_sem] theorem O6 (k:Nat):(0<=(k:Int))=True:=aG
attribute [go_sem] List.getElem?_map List.length_map Int.toNat_natCast
attribute [go_sem] eG List.flatMap_cons List.flatMap_nil
attribute [go_sem] isConst qX Lt qV qW Ai qU pA CJ Lu wG FY oB oC wF tH tI pB
attribute [go_sem] nW V.refs V.aN
attribute [go_sem] List.all_nil List.all_cons Option.some.injEq D.int.injEq D.bool.injEq Nat.zero_add Nat.add_zero
theorem wrap64{n:Int}(h1: -9223372036854775808<=n)(h2:n<=9223372036854775807):IntKind.i64.wrap n=n:=by
 unfold IntKind.wrap
 have e1:((2:Int)^IntKind.i64.bits)=18446744073709551616:=cE
 have e2:((2:Int)^(IntKind.i64.bits - 1))=9223372036854775808:=cE
 have e3:IntKind.i64.signed=true:=rfl
 simp only[e1,e2,e3,Bool.true_and,decide_eq_true_eq]
 split<;>omega
structure Good (o:Nat->aa) (nx:Nat):Prop where
 fresh:∀id,nx<=id->o id= .no
 refs:∀id,∀r∈(o id).refs,r<nx
theorem Good.nil {nx:Nat}:Good (fun _=> .no) nx:=⟨fun _ _=>rfl,fun id r h=>by cases h⟩
theorem Good.aA {o:Nat->aa}{nx i:Nat}{x:aa}(h:Good o nx)(hi:i<nx)(hx:x.refs.all (fun r=>decide (r<nx))=true):Good (aA o i x) nx:=by
 refine⟨fun id aw=> ?_,fun id r hr=> ?_⟩
 ·rw[ag _ _ _ _ (by omega)];exact h.fresh id aw
 ·by_cases e:id=i
  ·subst e
   rw[ad]at hr
   simpa using List.all_eq_true.1 hx r hr
  ·rw[ag _ _ _ _ e]at hr
   exact h.refs id r hr
theorem Good.mono {o:Nat->aa}{nx m:Nat}(h:Good o nx)(hm:nx<=m):Good o m:=⟨fun id aw=>h.fresh id ae,fun id r hr=>Nat.lt_of_lt_of_le (h.refs id r hr) hm⟩
theorem Good.lt {o:Nat->aa}{nx id:Nat}(h:Good o nx)(hn:o id≠ .no):id<nx:=by
 rcases Nat.lt_or_ge id nx with hl|hl
 ·exact hl
 ·exact absurd (h.fresh id hl) hn
def CtO(P:Program)(g:FuncId)(args:List V)(o:Nat->aa)(v:V):Prop:=
 ∀nx,Good o nx->∀K X,(∀o' nx',nx<=nx'->Good o' nx'->(∀id,id<nx->o' id=o id)->K v o' nx')->cO P g args o nx K X
theorem V.wm:∀ (l:List V) (i:Nat),∀r∈(bf l i).refs,r∈V.aN l
 |[],i,r,h=>by rw[qc]at h;cases h
 |v::l,0,r,h=>by rw[nA]at h;simp only[V.aN,List.mem_append];exact .inl h
 |v::l,i+1,r,h=>by rw[nB]at h;simp only[V.aN,List.mem_append];exact .inr (V.wm l i r h)
theorem bM.back {b:Nat}{s:S}{env:Nat->V}{o:Nat->aa}{nx:Nat}(hb:b<=nx)(hn:nx<=s.nx)(hg:Good o nx)(ho:∀id,id<nx->s.o id=o id)
 (he:∀i,env i= .ab\/(env i=s.env i/\∀r∈(env i).refs,r<nx)):bM b s ⟨env,o,nx⟩:=by
 intro M φ w tm hH hd
 have cQ:∀k,cF φ (hp o nx) k->cF φ s.H k:=by
  rintro k ⟨id,h1,h2⟩
  have aw:id<nx:=hg.lt (fun e=>by simp only[hp]at h1;rw[e]at h1;cases h1)
  exact⟨id,by simp only[S.H];rw[ho id aw];exact h1,h2⟩
 have hB:∀k, ¬ak M φ s.H k-> ¬ak M φ (hp o nx) k:=fun k h h'=>h (h'.imp id (cQ k))
 have eA:∀ (v:V) (val:Value),(∀r∈v.refs,r<nx)->V.den (ak M φ s.H) φ s.H w v val->V.den (ak M φ (hp o nx)) φ (hp o nx) w v val:=fun v val hr h=>
  V.mJ (H:=s.H) (H':=hp o nx) hB v val (fun id aw=>⟨(ho id (hr id aw)).symm,rfl,hr id aw⟩) h
 have pw:∀ (v:List V) (val:List Value),(∀r∈V.aN v,r<nx)->V.az (ak M φ s.H) φ s.H w v val->V.az (ak M φ (hp o nx)) φ (hp o nx) w v val:=fun v val hr h=>
  V.fP (H:=s.H) (H':=hp o nx) hB v val (fun id aw=>⟨(ho id (hr id aw)).symm,rfl,hr id aw⟩) h
 refine⟨φ,⟨fun id=> ?_,fun id hu=>hg.fresh id (by simpa[S.H]using hu),fun i j k h1 h2 h3 h4=> ?_,fun k hk=>hH.ours k (cQ k hk),hH.zE⟩,fun i=> ?_,cQ,hb,fun id aw hr=> ?_,fun id e' aw pb=> ?_⟩
 ·have aW:=hH.ok id
  have hrefs:=hg.refs id
  unfold aO at aW|-
  by_cases aw:id<nx
  ·have e:s.H.o id=o id:=ho id aw
   rw[e]at aW
   simp only[S.H]at aW|-
   cases hx:o id with
   |no=>trivial
   |row cs=>
    simp only[hx]at aW hrefs|-
    exact WL
   |arr ep ty sz es=>
    simp only[hx]at aW|-
    obtain⟨k1,xs,k2,evs,k3,k4,k5⟩:=aW
    exact V6
   |sZ ep es=>
    simp only[hx]at aW|-
    exact D.aP (fun b _ hn=>⟨rfl,hB b hn⟩) _ _ aW
   |map kt vt es=>
    simp only[hx]at aW|-
    obtain⟨b,es',clock,k1,k2,k4,k3⟩:=aW
    exact V3
   |cZ l=>
    simp only[hx]at aW|-
    exact j6.mono (fun b _ hn=>⟨rfl,hB b hn⟩) aW
   |qS l last=>
    simp only[hx]at aW|-
    obtain⟨b,k1,k2⟩:=aW
    exact NQ
   |xZ s pos=>
    simp only[hx]at aW|-
    exact aW
   |loop nf n env ps a b st pd=>
    simp only[hx]at aW hrefs|-
    exact N4
  ·simp only[S.H]
   rw[hg.fresh id (by omega)]
   trivial
 ·have hi:i<nx:=hg.lt (fun e=>by simp only[S.H]at h1;rw[e]at h1;cases h1)
  have hj:j<nx:=hg.lt (fun e=>by simp only[S.H]at h2;rw[e]at h2;cases h2)
  exact hH.apart i j k (by simp only[S.H];rw[ho i hi];exact h1) (by simp only[S.H];rw[ho j hj];exact h2) h3 h4
 ·rcases he i with h|⟨h1,h2⟩
  ·simp only[h];trivial
  ·have:=hd i
   rw[<- h1]at this
   exact eA _ _ h2 this
 ·have bW:id<nx:=ae
  exact⟨by rw[ho id bW];exact hr,rfl⟩
 ·have bW:id<nx:=ae
  exact⟨e',by rw[ho id bW];exact pb,Nat.le_refl _,fun _=>rfl⟩
def kL(nx:Nat)(env:Nat->V):List V->Nat->Prop
 |[],_=>True
 |v::l,i=>(v= .ab\/(v=env i/\∀r∈v.refs,r<nx))/\kL nx env l (i+1)
theorem bM.bH {b:Nat}{e:Nat->V}{so:Nat->aa}{m:Nat}(l:List V){o:Nat->aa}{nx:Nat}(hb:b<=nx)(hn:nx<=m)(hg:Good o nx)(ho:∀id,id<nx->so id=o id)(he:kL nx e l 0):bM b ⟨e,so,m⟩ ⟨bf l,o,nx⟩:=by
 refine bM.back hb hn hg ho ?_
 have key:∀ (l:List V) (i:Nat),kL nx e l i->∀j,bf l j= .ab\/(bf l j=e (i+j)/\∀r∈(bf l j).refs,r<nx):=by
  intro l
  induction l with
  |nil=>intro i _ j;rw[qc];exact .inl rfl
  |cons v l ih=>
   intro i h j
   cases j with
   |zero=>rw[nA];exact h.1
   |succ j=>
    rw[nB]
    have:=ih (i+1) h.2 j
    rwa [show i+1+j=i+(j+1) by omega]at this
 intro i
 have:=key l 0 he i
 rwa [Nat.zero_add]at this
theorem wh{nx:Nat}{env:Nat->V}{i:Nat}:kL nx env [] i:=trivial
theorem fC{nx:Nat}{env:Nat->V}{l:List V}{i:Nat}(h:kL nx env l (i+1)):kL nx env (.ab::l) i:=⟨.inl rfl,h⟩
theorem nk{nx:Nat}{env:Nat->V}{l:List V}{i:Nat}{x:D}(he:env i= .d x)(h:kL nx env l (i+1)):kL nx env (.d x::l) i:=⟨.inr ⟨he.symm,fun r hr=>by simp[V.refs]at hr⟩,h⟩
theorem D5{nx:Nat}{env:Nat->V}{l:List V}{i:Nat}{v:V}(he:env i=v)(hr:∀r∈v.refs,r<nx)(h:kL nx env l (i+1)):kL nx env (v::l) i:=⟨.inr ⟨he.symm,hr⟩,h⟩
theorem bM.d0 {e:Nat->V}{so:Nat->aa}{m:Nat}(l:List V)(he:kL 0 e l 0):bM 0 ⟨e,so,m⟩ ⟨bf l,fun _=> .no,0⟩:=bM.bH l (Nat.le_refl 0) (Nat.zero_le _) Good.nil (fun _ h=>absurd h (Nat.not_lt_zero _)) he
theorem nV{k:Nat}(h:(k:Int)+1<=9223372036854775807):IntKind.i64.wrap ((k:Int)+1)=((k+1:Nat):Int):=by rw[wrap64 (by omega) h];rfl
theorem lQ{k:IntKind}{a b:Int}(h:a=b):V.d (D.int k a)=V.d (D.int k b):=by rw[h]
theorem zK.RR {P:Program}{g:FuncId}{args:List V}{rd:List Nat}{o:Nat->aa}{x:D}(nx:Nat)(s7:rd.all (fun id=>decide (id<nx))=true)(dn:∀id∈V.aN args,id∈rd)(qK:∀id∈rd,∀j∈(o id).refs,j∈rd)
 (h:CtO P g args (C9 rd o) (.d x)):zK P g args rd o (.ret [x]) []:=by
 have bW:∀id∈rd,id<nx:=fun id aw=>by simpa using List.all_eq_true.1 s7 id aw
 have Et:∀id,id∈rd->C9 rd o id=o id:=fun id aw=>by simp[C9,aw]
 have Bm:∀id,id∉rd->C9 rd o id= .no:=fun id aw=>by simp[C9,aw]
 have XQ:Good (C9 rd o) nx:=by
  refine⟨fun id aw=>Bm id (fun hm=>by have:=bW id hm;omega),fun id r hr=> ?_⟩
  by_cases aw:id∈rd
  ·rw[Et id aw]at hr;exact bW r (qK id aw r hr)
  ·rw[Bm id aw]at hr;cases hr
 refine zK.lD (nx:=nx) bW dn qK (fun x hx=>by cases hx) (fun x hx=>by cases hx) (h nx XQ _ _ fun o' nx' _ _ h3=>⟨fun id aw=> ?_,[.d x],[x],rfl,rfl,rfl,fun id aw=>by simp[V.a8,V.ids]at aw⟩)
 rw[h3 id (bW id aw),Et id aw];rfl
theorem Bn{P:Program}{g:FuncId}{K:KD}{X:XD}{o:Nat->aa}{nx fr:Nat}{all:List V}{rd:List Nat}{rs:List D}{Δ:List (Nat×aa)}(mf:rd.all (fun id=>decide (id<nx))=true)(h:zK P g all rd o (.ret rs) Δ)(hk:K (iD rs) Δ rd):rq P g K X o nx fr all:=by
 unfold rq
 exact⟨rd,Δ,mf, .inl ⟨rs,h,hk⟩⟩
abbrev D.i (n:Int):D:= .int .i64 n
structure jD where
 name:List UInt8
 args:Int
structure aB where
 cons:List jD
 cC:List jD
inductive Tm where
 |mk (op n:Int) (kids:List Tm)
 deriving Inhabited
structure TB where
 var:Int
 term:Tm
def Tm.op:Tm->Int| .mk op _ _=>op
def Tm.n:Tm->Int| .mk _ n _=>n
def Tm.kids:Tm->List Tm| .mk _ _ l=>l
theorem Tm.eta (t:Tm):Tm.mk t.op t.n t.kids=t:=by cases t;rfl
theorem Tm.ind {P:Tm->Prop}(h:∀op n kids,(∀k∈kids,P k)->P (.mk op n kids)):∀t,P t:=
 fun t=>Tm.rec (motive_1:=P) (motive_2:=fun l=>∀k∈l,P k) (fun op n kids ih=>h op n kids ih) (fun _ h=>by cases h)
  (fun x l hx hl k hk=>(List.mem_cons.1 hk).elim (fun e=>e ▸ hx) (hl k)) t
mutual
def Tm.d:Tm->D
 | .mk op n kids=> .agg [.i op, .i n, .sl (Tm.ds kids)]
def Tm.ds:List Tm->List D
 |[]=>[]
 |t::l=>t.d::Tm.ds l
end
theorem Tm.Dl:∀l:List Tm,Tm.ds l=l.map Tm.d
 |[]=>rfl
 |t::l=>by simp[Tm.ds,Tm.Dl l]
theorem Tm.XR (t:Tm):t.d= .agg [.i t.op, .i t.n, .sl (t.kids.map Tm.d)]:=by cases t;simp[Tm.d,Tm.Dl,Tm.op,Tm.n,Tm.kids]
@[go_sem] theorem Tm.abI (t:Tm):D.agg [.i t.op, .i t.n, .sl (t.kids.map Tm.d)]=t.d:=(Tm.XR t).symm
@[go_sem] theorem Tm.aaT (t:Tm):D.cells t.d=[.i t.op, .i t.n, .sl (t.kids.map Tm.d)]:=by rw[Tm.XR];rfl
theorem Tm.fg {P:Tm->Prop}(h:∀t:Tm,(∀k∈t.kids,P k)->P t):∀t,P t:=Tm.ind fun op n kids ih=>h (.mk op n kids) ih
theorem Tm.Mc (op n:Int)(l:List Tm):(Tm.mk op n l).d= .agg [.i op, .i n, .sl (l.map Tm.d)]:=by simp[Tm.d,Tm.Dl]
@[reducible] def jD.d (x:jD):D:= .agg [.str x.name, .i x.args]
@[reducible] def aB.d (s:aB):D:= .agg [.sl (s.cons.map jD.d), .sl (s.cC.map jD.d)]
@[reducible] def TB.d (b:TB):D:= .agg [.i b.var, .i b.term.op, .i b.term.n, .sl (b.term.kids.map Tm.d)]
mutual
def Tm.fits:Tm->Prop
 | .mk _ _ kids=>kids.length<=9223372036854775807/\Tm.Bo kids
def Tm.Bo:List Tm->Prop
 |[]=>True
 |t::l=>t.fits/\Tm.Bo l
end
theorem Tm.xh:∀l:List Tm,Tm.Bo l↔∀k∈l,k.fits
 |[]=>by simp[Tm.Bo]
 |t::l=>by simp[Tm.Bo,Tm.xh l]
theorem Tm.bF (t:Tm):t.fits↔t.kids.length<=9223372036854775807/\∀k∈t.kids,k.fits:=by cases t;simp[Tm.fits,Tm.xh,Tm.kids]
mutual
def Tm.l7:Tm->Nat
 | .mk _ _ kids=>1+Tm.iq kids
def Tm.iq:List Tm->Nat
 |[]=>0
 |k::l=>Nat.max k.l7 (Tm.iq l)
end
theorem Tm.Bp:∀ {l:List Tm} {k:Tm},k∈l->k.l7<=Tm.iq l
 |x::l,k,h=>by
  simp only[Tm.iq]
  rcases List.mem_cons.1 h with rfl|h
  ·exact Nat.le_max_left _ _
  ·exact Nat.le_trans (Tm.Bp h) (Nat.le_max_right _ _)
theorem Tm.tc {t k:Tm}(h:k∈t.kids):k.l7+1<=t.l7:=by
 cases t;simp only[Tm.kids]at h;simp only[Tm.l7];have:=Tm.Bp h;omega
mutual
def pre:Tm->Int->List (Tm×Int)
 | .mk op n kids,d=>(.mk op n kids,d)::Md kids (d+1)
def Md:List Tm->Int->List (Tm×Int)
 |[],_=>[]
 |k::l,d=>pre k d++Md l d
end
theorem GG(l:List Tm)(d:Int):Md l d=l.flatMap fun k=>pre k d:=by
 induction l with
 |nil=>rfl
 |cons k l ih=>simp[Md,ih]
theorem mP(t:Tm)(d:Int):pre t d=(t,d)::t.kids.flatMap fun k=>pre k (d+1):=by cases t;simp[pre,GG,Tm.kids]
def dF(n low high:Int):Bool:=decide (low<=n)&&decide (n<=high)
def letterF(b:UInt8):Bool:= !((decide ((b.toNat:Int)<97)||decide (122<(b.toNat:Int)))&&(decide ((b.toNat:Int)<65)||decide (90<(b.toNat:Int))))
def jq(s:List UInt8):Bool:=s.all letterF&&dF s.length 1 8
def cc:List jD->List (List UInt8)->Option (List (List UInt8))
 |[],before=>some before
 |x::l,before=>if before.any (· ==x.name)then none else if(!jq x.name|| !dF x.args 0 4)=true then none else cc l (before++[x.name])
def fB:List UInt8:=[70,97,108,115,101]
def tB:List UInt8:=[84,114,117,101]
def l8(x:jD)(s:List UInt8):Bool:=x.name==s&&x.args==0
def lH(s:aB):Bool:=
 if(!dF s.cons.length 2 12||decide (8<(s.cC.length:Int)))=true then false else
 match s.cons with
 |a::b::_=>if(!l8 a fB|| !l8 b tB)=true then false else
  match cc s.cons []with
  |none=>false
  |some l=>(cc s.cC l).isSome
 |_=>false
mutual
def gy:Tm->Int->Int->Int
 | .mk _ _ kids,left,depth=>if left<1\/depth<1 then -1 else bQ kids (left - 1) (depth - 1)
def bQ:List Tm->Int->Int->Int
 |[],left,_=>left
 |k::l,left,depth=>if 0<=left then bQ l (gy k left depth) depth else left
end
def gS(l:List jD)(n:Int):Int:=match l[n.toNat]? with|some x=>x.args|none=>0
def bn(s:aB)(t:Tm):Bool:=
 let k:Int:=t.kids.length
 if t.op=1 then k==0&&dF t.n 0 19
 else if t.op=2 then k==0&&dF t.n (-1000000) 1000000
 else if t.op=3 then dF t.n 0 (s.cons.length - 1)&&k==gS s.cons t.n
 else if t.op=4 then dF t.n 0 (s.cC.length - 1)&&k==gS s.cC t.n
 else if t.op=5 then dF t.n 0 (s.cC.length - 1)&&decide (k<gS s.cC t.n)
 else if t.op=8 then k==2&&dF t.n 0 19
 else if(dF t.op 6 15)=true then k==2&&t.n==0
 else false
mutual
def gU(s:aB):Tm->Bool
 | .mk op n kids=>bn s (.mk op n kids)&&te s kids
def te(s:aB):List Tm->Bool
 |[]=>true
 |k::l=>gU s k&&te s l
end
def ew(s:aB)(t:Tm):Bool:=decide (0<=gy t 40 12)&&gU s t
mutual
def dR:Tm->Bool
 | .mk op _ kids=>tf kids&&((decide (1<=op)&&decide (op<=3))||op==5)
def tf:List Tm->Bool
 |[]=>true
 |k::l=>dR k&&tf l
end
mutual
def ir:Tm->Tm->Bool
 | .mk op n kids, .mk op' n' O7=>op==op'&&n==n'&&kids.length==O7.length&&gV kids O7
def gV:List Tm->List Tm->Bool
 |[],_=>true
 |k::l,k'::l'=>ir k k'&&gV l l'
 |_::_,[]=>true
end
def dS(t:Tm):Bool:=decide (0<=gy t 50 14)
def fA(l:List jD):Bool:=l.all fun x=>decide ((x.name.length:Int)<=30)
def iX(s:aB):Bool:= !(decide (16<(s.cons.length:Int))||decide (12<(s.cC.length:Int)))&&fA s.cons&&fA s.cC
section
def ku(id:Nat)(K X:V->(Nat->aa)->Nat->Prop)(e:fw)(s:S):Prop:=
 match e with
 | .normal=>∃nf m en p c d st pd,s.o id= .loop nf m en p c d st pd/\K (.d (.bool true)) (aA s.o id (.loop nf m en p c d .ready none)) s.nx
 | .ret=>∃nf m en p c d st pd,s.o id= .loop nf m en p c d st pd/\K (.d (.bool false)) (aA s.o id (.loop nf m en p c d .done (some .ret))) s.nx
 | .exit j=>∃nf m en p c d st pd,s.o id= .loop nf m en p c d st pd/\K (.d (.bool false)) (aA s.o id (.loop nf m en p c d .done (some (.exit j)))) s.nx
 | .bB v=>X v s.o s.nx
def RS(P:Program)(n b id:Nat)(eT:IC)(K X:V->(Nat->aa)->Nat->Prop)(e:fw)(s:S):Prop:=
 match e with
 | .normal=>∃nf m en p c d pd,s.o id= .loop nf m en p c d .ready pd/\ta P n b true eT (ku id K X) ⟨s.env,aA s.o id (.loop nf m en p c d .busy pd),s.nx⟩
 | .bB v=>X v s.o s.nx
 |_=>False
section
variable {P:Program}{M:Nat->Prop}{φ cm:Place}{H0:Hp}{w w0:World}{n:Nat}{s:S}{a:Act}{cx:Cx}
theorem Bq{id:Nat}{x:aa}{s:S}(bW:id<s.nx)(j:Nat)(hu:(s.H.put [(id,x)]).us j):j<s.nx:=by
 simp only[dN]at hu
 rcases hu with hu|hu
 ·exact hu
 ·subst hu;exact bW
theorem uy{B:Nat->Prop}{H:Hp}{n:Nat}:∀ (ps:List Nat) (vs:List V) (us:List Value) (env:Nat->V) (tmps:Array Value),tmps.size=n->ps.length=vs.length->V.az B φ H w vs us->ps.all (fun t=>decide (t<n))=true->(∀i,V.den B φ H w (env i) (tmps.getD i undef))->
 ((ps.zip us).foldl (fun tmps p=>tmps.setIfInBounds p.1 p.2) tmps).size=n/\∀i,V.den B φ H w (qb env ps vs i) (((ps.zip us).foldl (fun tmps p=>tmps.setIfInBounds p.1 p.2) tmps).getD i undef)
 |[],[],us,env,tmps,dV,_,hd,_,he=>by simp only[V.az]at hd;subst hd;exact⟨dV,he⟩
 |[],v::vs,us,env,tmps,_,h,_,_,_=>by simp at h
 |t::ps,[],us,env,tmps,_,h,_,_,_=>by simp at h
 |t::ps,v::vs,us,env,tmps,dV,hl,hd,hp,he=>by
  obtain⟨u,us,rfl,h1,h2⟩:=hd
  simp only[List.all_cons,Bool.and_eq_true,decide_eq_true_eq]at hp
  simp only[List.zip_cons_cons,List.foldl_cons,qb]
  refine uy ps vs us (aA env t v) (tmps.setIfInBounds t u) (by simp[dV]) (by simpa using hl) h2 hp.2 (fun i=> ?_)
  simp only[aH]
  by_cases hi:i=t
  ·subst hi
   have:(tmps.setIfInBounds i u).getD i undef=u:=by simp[Array.getD,dV,hp.1]
   rw[if_pos rfl,this];exact h1
  ·have:(tmps.setIfInBounds t u).getD i undef=tmps.getD i undef:=by
    exact QO
   rw[if_neg hi,this];exact he i
theorem dB.uu (aY:P.follows .mixedOrders=true){id:Nat}{args:List V}{o:Nat->aa}{nx:Nat}{K X:V->(Nat->aa)->Nat->Prop}{env:List V}{ps:List Nat}{je eT:IC}{st:LoopState}{pd:Option jA}
 (ho:o id= .loop P.funcs.size n env ps je eT st pd) (bW:id<nx) (Jd:ps.all (fun t=>decide (t<n))=true) (hl:args.length=ps.length)
 (h:ta P n nx true je (RS P n nx id eT K X) ⟨qb (bf env) ps args,o,nx⟩):dB P id args o nx K X:=by
 refine⟨by rw[ho];rfl,fun M φ w vals b hH hd e8=> ?_⟩
 have aS:=hH.ok id
 simp only[aO,hp,ho]at aS
 obtain⟨b',r,h1,h2,h0,h3,h4,h5,h6,h7,h8,h9⟩:=aS
 rw[e8]at h1;simp at h1;subst h1
 have hlen:=V.ay _ _ hd
 have dV:vals.size=r.params.size:=by
  have:r.params.toList.length=ps.length:=by rw[h5]
  simp at hlen this;omega
 let tm:Array Value:=(ps.zip vals.toList).foldl (fun tmps p=>tmps.setIfInBounds p.1 p.2) r.tmps
 have XS:(r.params.zip vals).foldl (fun tmps (p:Tmp×Value)=>tmps.setIfInBounds p.1 p.2) r.tmps=tm:=by
  rw[<- Array.foldl_toList,Array.toList_zip,h5]
 obtain⟨p1,p2⟩:=uy (B:=ak M φ (hp o nx)) (H:=hp o nx) (φ:=φ) (w:=w) ps args vals.toList (bf env) r.tmps h6 hl.symm hd Jd h9
 refine⟨r.fn,tm,r.assign,r.body, ?_,fun k=> ?_⟩
 ·simp only[Instr.yield,Sem.run_bind,jQ h2,Result.andThen_ok,dV,ne_eq,not_true_eq_false,if_false,Sem.run_pure]
  rw[<- XS]
 ·
   let s0:S:=⟨qb (bf env) ps args,o,nx⟩
   let a0:Act:={tmps:=tm,defers:=[]}
   have oK:bT M φ (hp o nx) w n ⟨[],true⟩ φ s0 a0 w:=⟨hH,Trans.refl _ _ _,p1,⟨[],rfl,List.nodup_nil,fun _=>rfl,fun r hr=>by cases hr⟩,p2⟩
   have uz:∀ {aC s' a' w'},bT M φ (hp o nx) w n ⟨[],true⟩ aC s' a' w'->a'.defers=[]:=by
    intro aC s' a' w' hs
    obtain⟨ms,g1,_,g3,_⟩:=hs.defers
    rw[g3 rfl]at g1;exact g1
   have XT:∀ {aC s' a' w'} {nf m:Nat} {en:List V} {p:List Nat} {c d:IC} {st:LoopState} {pd:Option jA} (st':LoopState) (pd':Option jA),bT M φ (hp o nx) w n ⟨[],true⟩ aC s' a' w'->s'.o id= .loop nf m en p c d st pd->
    ∃r',w'.heap[b]? =some (.loop r')/\r'.state=st/\r'.pending=pd.map jA.code/\
     bT M φ (hp o nx) w n ⟨[],true⟩ aC ⟨s'.env,aA s'.o id (.loop nf m en p c d st' pd'),s'.nx⟩ a' {w' with heap:=w'.heap.setIfInBounds b (.loop {r' with state:=st',pending:=pd'.map jA.code})}:=by
    intro aC s' a' w' nf m en p c d st pd st' pd' hs lS
    have Q9:aC id= .pointer (some ⟨b,0,none⟩):=by
     have:=(hs.tr.rel.row id bW (by show(s'.o id).bY=true;rw[lS];rfl)).2
     rw[this];exact e8
    have XU:id<s'.nx:=hs.tr.rel.us id bW
    obtain⟨r',r1,r2,r3,r4,r5⟩:=wY (st':=st') (pd':=pd') hs.heap XU (show s'.H.o id=_ from lS) Q9
    exact⟨r',r1,r2,r3,eB hs r4 r5 rfl (Bq XU)⟩
   have ha:=gQ (P:=P) (n:=n) (b:=nx) (rd:=true) aY r.assign _ _ s0 (fun _ _ h=>h) (by rw[h7];exact h)
   refine ud h0 (gv (gL (P:=P) (H0:=hp o nx) (b:=nx) (cx:=⟨[],true⟩) (ro:=some b) (fun id hu=>hu) (fun h=>by cases h) r.assign _ s0 φ a0 w ha oK) ?_)
   rintro e a1 w1 ⟨x,s1,iB,hq,pg,hm⟩
   cases e<;>cases x<;>first|(exact hm.elim)|skip
   ·
     obtain⟨nf,m,en,p,c,d,pd1,q1,q2⟩:=hq
     obtain⟨r',r1,r2,r3,Ct⟩:=XT .busy pd1 pg q1
     have RT:(Instr.beginRound b).run P w1= .ok () {w1 with heap:=w1.heap.setIfInBounds b (.loop {r' with state:= .busy,pending:=pd1.map jA.code})}:=by
      have e1:({r' with state:= .busy}:Loop)={r' with state:= .busy,pending:=pd1.map jA.code}:=by rw[<- r3]
      simp only[Instr.beginRound,Sem.run_bind,jQ r1,Result.andThen_ok,iE _ r1,r2,Sem.run_pure,e1]
     refine⟨_,RT, ?_⟩
     have bw:=Ct.heap.ok id
     simp only[aO,S.H,aH,if_true]at bw
     obtain⟨b2,r2',_,_,_,_,_,_,_,_,_,_⟩:=bw
     have hb:=gQ (P:=P) (n:=n) (b:=nx) (rd:=true) aY r.body _ _ _ (fun _ _ h=>h) (by rw[h8];exact q2)
     refine gv (gL (P:=P) (H0:=hp o nx) (b:=nx) (cx:=⟨[],true⟩) (ro:=some b) (fun id hu=>hu) (fun h=>by cases h) r.body _ _ iB a1 _ hb Ct) ?_
     rintro e a2 w2 ⟨x,s2,Gk,Ud,Cu,K5⟩
     have fin:∀ {nf m:Nat} {en:List V} {p:List Nat} {c d:IC} {st:LoopState} {pd:Option jA} (jump:Option jA) (t:Bool) (st':LoopState),t=jump.isNone->st'=(if jump.isNone then .ready else .done)->s2.o id= .loop nf m en p c d st pd->K (.d (.bool t)) (aA s2.o id (.loop nf m en p c d st' jump)) s2.nx->
      ∃v w',(Instr.endRound b (jump.map jA.code)).run P w2= .ok v w'/\mA M φ (hp o nx) w K X (.returned v) w':=by
      intro nf m en p c d st pd jump t st' ht jB XW hK
      obtain⟨r3',g1,g2,g3,Ue⟩:=XT st' jump Cu XW
      refine⟨.bool t,_, ?_,Gk,_,_,_,Ue.heap,Ue.tr,by simp only[V.den,D.den],hK⟩
      subst ht;subst jB
      simp only[Instr.endRound,Sem.run_bind,jQ g1,Result.andThen_ok,iE _ g1,Sem.run_pure,Option.isNone_map]
     cases e<;>cases x<;>first|(exact K5.elim)|skip
     ·obtain⟨nf,m,en,p,c,d,st,pd,k1,k2⟩:=Ud
      exact fin none true .ready rfl rfl k1 k2
     ·rename_i j
      subst K5
      obtain⟨nf,m,en,p,c,d,st,pd,k1,k2⟩:=Ud
      exact fin (some (.exit _)) false .done rfl rfl k1 k2
     ·obtain⟨nf,m,en,p,c,d,st,pd,k1,k2⟩:=Ud
      exact fin (some .ret) false .done rfl rfl k1 k2
     ·obtain⟨val,rfl,k2⟩:=K5
      exact⟨uz Cu,Gk,_,_,_,Cu.heap,Cu.tr,val,rfl,k2,Ud⟩
   ·exact hq.elim
   ·exact hq.elim
   ·obtain⟨val,rfl,k2⟩:=hm
    exact⟨uz pg,iB,_,_,_,pg.heap,pg.tr,val,rfl,k2,hq⟩
end
end
section
def RU(ops:Array Oper)(t t1:Nat):Prop:=
 (∃o1 o2,ops=#[o1,o2]/\o1.op= .call ⟨.builtin .recover,#[],#[]⟩/\o1.dst=some t/\o1.guard=none/\o2.op= .assign (.tmp t)/\o2.dst=some t1/\o2.guard=none)\/
 (∃o1,ops=#[o1]/\t1=t/\o1.op= .call ⟨.builtin .recover,#[],#[]⟩/\o1.dst=some t/\o1.guard=none)
structure Br (P:Program) (g:FuncId) (n t t1:Nat) (ic:IC):Prop where
 get:∃fn id ops c,P.funcs[g]? =some fn/\(fn.name== "runtime.NumGoroutine")=false/\fn.ntmps=n/\fn.results=#[]/\fn.body=some (.seq (.region id ops false) c)/\
  RU ops t t1/\t<n/\t1<n/\low n c=ic
structure EU (P:Program) (f:FuncId) (n:Nat) (je eT:IC) (g:FuncId) (t:Nat) (bE:List Operand) (rs:List ResultVar):Prop where
 get:∃fn id o1 o2 a b d,P.funcs[f]? =some fn/\(fn.name== "runtime.NumGoroutine")=false/\fn.ntmps=n/\fn.results.toList=rs/\fn.body=some (.seq a d)/\(d= .seq (.region id #[o1,o2] false) b\/d= .scope (.seq (.region id #[o1,o2] false) b))/\
  o1.op= .makeFunc (.func g) #[] bE.toArray/\o1.dst=some t/\o1.guard=none/\o2.op= .defer ⟨.value (.tmp t),#[],#[]⟩/\o2.dst=none/\o2.guard=none/\t<n/\low n a=je/\low n b=eT
def GH(K:(Nat->aa)->Nat->Prop)(e:fw)(s:S):Prop:=match e with| .normal| .ret=>K s.o s.nx|_=>False
def Dm(P:Program)(n t t1:Nat)(ic:IC)(bE:List V)(u:V)(o:Nat->aa)(nx:Nat)(K:(Nat->aa)->Nat->Prop):Prop:=
 bE.length<=n/\ta P n nx true ic (GH K) ⟨aA (aA (bZ bE) t u) t1 u,o,nx⟩
def yM(P:Program)(n t t1:Nat)(ic:IC)(bE:List V)(rs:List ResultVar)(K X:V->(Nat->aa)->Nat->Prop)(e:fw)(s:S):Prop:=
 match e with
 | .normal| .ret=>Dm P n t t1 ic bE (.d .eD) s.o s.nx fun o nx=>lC P rs K X .ret ⟨s.env,o,nx⟩
 | .bB v=>Dm P n t t1 ic bE v s.o s.nx fun o nx=>lC P rs K X .ret ⟨s.env,o,nx⟩
 | .exit _=>False
def Bs(P:Program)(n t:Nat)(eT:IC)(eX:List Operand)(g:FuncId)(D:List V->fw->S->Prop)(e:fw)(s:S):Prop:=
 match e with
 | .normal=>ta P n s.nx false eT (D (eX.map s.ev)) ⟨aA s.env t (.func (.func g) [] (eX.map s.ev)),s.o,s.nx⟩
 |_=>False
section
variable {P:Program}{M:Nat->Prop}{φ cm:Place}{H H0:Hp}{w w0:World}{n:Nat}{s:S}{a:Act}{cx:Cx}{k:Nat}
theorem GI(aY:P.follows .mixedOrders=true){g:FuncId}{t t1:Nat}{ic:IC}(hg:Br P g n t t1 ic){bE:List V}{u:V}{o:Nat->aa}{nx:Nat}{K:(Nat->aa)->Nat->Prop}(h:Dm P n t t1 ic bE u o nx K)
 {vals:Array Value} {val:Value} {m:FrameMode} (hH:ax M φ (hp o nx) w) (hd:V.az (ak M φ (hp o nx)) φ (hp o nx) w bE vals.toList) (hv:V.den (ak M φ (hp o nx)) φ (hp o nx) w u val)
 (hm:(m= .returning/\val= .nilIface)\/m= .panicking [{v:=val,recovered:=false}]):
 CallsDIn (dD none) k P g vals m w fun e u' w'=>∃v aC o' nx',e= .returned v/\settle u'= .returning/\ax M aC (hp o' nx') w'/\Trans φ (hp o nx) w aC (hp o' nx') w'/\K o' nx':=by
 obtain⟨fn,id,ops,c,hf,O8,hnt,AR,pV,Ie,ht,zH,rl⟩:=hg.get
 have bW:g<P.funcs.size:=(Array.getElem?_eq_some_iff.1 hf).1
 obtain⟨qK,h⟩:=h
 have hlen:=V.ay _ _ hd
 refine⟨trivial,fun oP cs Je Ol=> ?_⟩
 let b:Frame:={(default:Frame)with fn:=g,kind:= .deferred,roundOf:=none}
 let tg:Array Value:=vals++Array.replicate (fn.ntmps - vals.size) undef
 have abJ:tg.size=n:=by simp only[tg,Array.size_append,Array.size_replicate];simp at hlen;omega
 have lB:Frame.enter P g vals .deferred=b.atR {tmps:=tg,defers:=[]} [.code (.seq (.region id ops false) c)]:=by
  simp[Frame.enter,Frame.atR,hf,pV,b,tg]
 obtain⟨m',hm',bw⟩:∃m',settle m'= .returning/\((recoverD (oP::cs)=none/\m'=m/\val= .nilIface)\/recoverD (oP::cs)=some (val,{oP with mode:=m'}::cs)):=by
  rcases hm with⟨rfl,rfl⟩|rfl
  ·exact⟨.returning,rfl, .inl ⟨by simp[recoverD,Je],rfl,rfl⟩⟩
  ·exact⟨.panicking [{v:=val,recovered:=true}],rfl, .inr (by simp[recoverD,Je])⟩
 have hc0:({oP with mode:=m}:Frame)=oP:=by subst Je;rfl
 let a1:Act:={tmps:=(tg.setIfInBounds t val).setIfInBounds t1 val,defers:=[]}
 have LY:(Code.region id ops false).wpSIn (dD none) k P (fun e a' cs' w'=>e= .normal/\a'=a1/\cs'={oP with mode:=m'}::cs/\w'=w) {tmps:=tg,defers:=[]} (oP::cs) w:=by
  rcases Ie with⟨o1,o2,rfl,e1,e2,e3,e4,e5,e6⟩|⟨o1,rfl,rfl,e1,e2,e3⟩
  ·refine wpSIn_region ?_
   have hr:List.range (#[o1,o2]:Array Oper).size=[0,1]:=rfl
   have g0:(#[o1,o2]:Array Oper)[0]? =some o1:=rfl
   have g1:(#[o1,o2]:Array Oper)[1]? =some o2:=rfl
   rw[hr]
   have x1:∀ (ρ:Operand->Value) (w:World),(execOp ρ o1).run P w= .ok .recover w:=by
    intro ρ w
    simp[execOp,e1,resolve,invoke,builtin]
   have x2:∀ (ρ:Operand->Value) (w:World),(execOp ρ o2).run P w= .ok (.value (ρ (.tmp t))) w:=by
    intro ρ w
    simp[execOp,e4]
   have last:∀cs',cs'={oP with mode:=m'}::cs->wpOpsSIn (dD none) k P #[o1,o2] (fun e a' cs' w'=>e= .normal/\a'=a1/\cs'={oP with mode:=m'}::cs/\w'=w) [1] (({tmps:=tg,defers:=[]}:Act).put (some t) val) cs' w:=by
    rintro cs' rfl
    have hw:Region.wanted o2 (yielded #[o1,o2] (({tmps:=tg,defers:=[]}:Act).put (some t) val).tmps)=true:=by simp[Region.wanted,e6]
    have dc:(({tmps:=tg,defers:=[]}:Act).put (some t) val).eval (.tmp t)=val:=by
     have:t<tg.size:=ae
     simp[Act.put,Act.eval,Array.getD,this]
    simp only[wpOpsSIn,g1,hw,if_true,x2,dc,e5]
    refine⟨fun _ _=>trivial, ?_⟩
    simp[a1,Act.put]
   have hw:Region.wanted o1 (yielded #[o1,o2] tg)=true:=by simp[Region.wanted,e3]
   rw[wpOpsSIn,g0]
   refine⟨fun _ _=>trivial, ?_⟩
   simp only[hw,if_true,x1,e2]
   rcases bw with⟨hr,rfl,rfl⟩|hr
   ·simp only[hr]
    exact last _ (by rw[hc0])
   ·simp only[hr]
    exact last _ rfl
  ·refine wpSIn_region ?_
   have hr:List.range (#[o1]:Array Oper).size=[0]:=rfl
   have g0:(#[o1]:Array Oper)[0]? =some o1:=rfl
   rw[hr]
   have x1:∀ (ρ:Operand->Value) (w:World),(execOp ρ o1).run P w= .ok .recover w:=by
    intro ρ w
    simp[execOp,e1,resolve,invoke,builtin]
   have same:a1=({tmps:=tg,defers:=[]}:Act).put (some t1) val:=by
    simp only[a1,Act.put]
    congr 1
    apply Array.ext_getElem?
    intro j
    simp only[Array.getElem?_setIfInBounds]
    by_cases hj:t1=j
    ·subst hj;simp
    ·simp[hj]
   have last:∀cs',cs'={oP with mode:=m'}::cs->wpOpsSIn (dD none) k P #[o1] (fun e a' cs' w'=>e= .normal/\a'=a1/\cs'={oP with mode:=m'}::cs/\w'=w) [] (({tmps:=tg,defers:=[]}:Act).put (some t1) val) cs' w:=by
    rintro cs' rfl
    simp only[wpOpsSIn]
    exact⟨trivial,same.symm,trivial,trivial⟩
   have hw:Region.wanted o1 (yielded #[o1] tg)=true:=by simp[Region.wanted,e3]
   rw[wpOpsSIn,g0]
   refine⟨fun _ _=>trivial, ?_⟩
   simp only[hw,if_true,x1,e2]
   rcases bw with⟨hr,rfl,rfl⟩|hr
   ·simp only[hr]
    exact last _ (by rw[hc0])
   ·simp only[hr]
    exact last _ rfl
 obtain⟨er,ar,csr,wr,hl,⟨rfl,rfl,rfl,hwr⟩,c7⟩:=LY b [.code c] rfl rfl trivial (fun d hd=>by simp[dD]at hd)
 rw[hwr]at c7
 let s0:S:=⟨aA (aA (bZ bE) t u) t1 u,o,nx⟩
 have oK:bT M φ (hp o nx) w n ⟨[],true⟩ φ s0 a1 w:=by
  refine⟨hH,Trans.refl _ _ _,by simp[a1,abJ],⟨[],rfl,List.nodup_nil,fun _=>rfl,fun r hr=>by cases hr⟩,fun i=> ?_⟩
  have dW:=Ab (m:=fn.ntmps - vals.size) hd i
  simp only[s0,a1,aH]
  have ht0:t<tg.size:=ae
  have abK:t1<tg.size:=ae
  by_cases h1:i=t1
  ·subst h1
   simp only[if_true]
   have:((tg.setIfInBounds t val).setIfInBounds i val).getD i undef=val:=by simp[Array.getD,abK]
   rw[this];exact hv
  ·simp only[h1,if_false]
   have e1:((tg.setIfInBounds t val).setIfInBounds t1 val).getD i undef=(tg.setIfInBounds t val).getD i undef:=by
    exact NS
   rw[e1]
   by_cases h2:i=t
   ·subst h2
    simp only[if_true]
    have:(tg.setIfInBounds i val).getD i undef=val:=by simp[Array.getD,ht0]
    rw[this];exact hv
   ·simp only[h2,if_false]
    have e1:(tg.setIfInBounds t val).getD i undef=tg.getD i undef:=by
     simp only[Array.getD_eq_getD_getElem?]
     rw[Array.getElem?_setIfInBounds_ne (Ne.symm h2)]
    rw[e1];exact dW
 have hcw:=gQ (P:=P) (n:=n) (b:=nx) (rd:=true) aY c _ _ s0 (fun _ _ h=>h) (by rw[rl];exact h)
 obtain⟨e,a',w',⟨x,s',aC,hq,jC,hx⟩,EF⟩:=gL (P:=P) (H0:=hp o nx) (b:=nx) (cx:=⟨[],true⟩) (ro:=none) (fun id hu=>hu) (fun h=>by cases h) c _ s0 φ a1 w hcw oK b [] ({oP with mode:=m'}::cs) rfl bW
 have i0:(lone (b.atR {tmps:=tg,defers:=[]} [.code (.seq (.region id ops false) c)]) (oP::cs) w).fenced P (dD none):=fenced_calm (n:=0) trivial gu rfl
 have O9:StepsIn (Machine.fenced P (dD none)) P (lone (b.atR {tmps:=tg,defers:=[]} [.code (.seq (.region id ops false) c)]) (oP::cs) w) (lone (b.atR a1 [.code c]) ({oP with mode:=m'}::cs) w):= .head i0 stepR_seq c7
 have uz:a'.defers=[]:=by
  obtain⟨ms,g1,_,g3,_⟩:=jC.defers
  rw[g3 rfl]at g1;exact g1
 have XX:∀tm:Array Value,∃v,(results fn tm).run P w'= .ok v w':=by
  intro tm
  refine⟨_,mF (vals:=[]) ?_⟩
  rw[AR];rfl
 rw[lB]
 obtain⟨v,pf⟩:=XX a'.tmps
 cases e<;>cases x<;>first|(exact hx.elim)|(exact hq.elim)|skip
 ·exact⟨.returned v,m',w',_,⟨v,aC,s'.o,s'.nx,rfl,hm',jC.heap,jC.tr,hq⟩,StepsIn.trans O9 (StepsIn.trans EF (.one (fenced_calm (n:=0) (fr:=b.atR a' []) trivial gu rfl) (stepR_end rfl))),rfl,rfl,rfl,uz,fn,hf,pf⟩
 ·obtain⟨todo,hs⟩:=EF.1 rfl
  exact⟨.returned v,m',w',_,⟨v,aC,s'.o,s'.nx,rfl,hm',jC.heap,jC.tr,hq⟩,StepsIn.trans O9 hs,rfl,rfl,rfl,uz,fn,hf,pf⟩
theorem Bt{d c:Code}{ro:Option Nat}{Q:Exit->Act->World->Prop}{a:Act}{w:World}(h:d=c\/d= .scope c)(hg:∀l a w, ¬Q (.goto l) a w)(hc:c.sQ P ro Q a w):d.sQ P ro Q a w:=by
 rcases h with rfl|rfl
 ·exact hc
 ·exact wW hc hg
theorem cO.Bu (aY:P.follows .mixedOrders=true){f g:FuncId}{je eT xi:IC}{t m r r1:Nat}{eX:List Operand}{rs:List ResultVar}(hf:EU P f n je eT g t eX rs)(hg:Br P g m r r1 xi)
 {args:List V} {o:Nat->aa} {nx:Nat} {K X:V->(Nat->aa)->Nat->Prop} (hl:args.length<=n)
 (h:ta P n nx true je (Bs P n t eT eX g fun bE=>yM P m r r1 xi bE rs K X) ⟨bZ args,o,nx⟩):cO P f args o nx K X:=by
 obtain⟨fn,id,o1,o2,ca,cb,cd,Ho,O8,hnt,AR,pV,hsc,e1,e2,e3,e4,e5,e6,ht,hla,Ua⟩:=hf.get
 obtain⟨gn,_,_,gc,Bv,RV,_,_,RW,_⟩:=hg.get
 refine⟨⟨fn,Ho,O8,by rw[pV];rfl⟩,fun M φ w vals hH hd=> ?_⟩
 have hlen:=V.ay _ _ hd
 let s0:S:=⟨bZ args,o,nx⟩
 let a0:Act:={tmps:=vals++Array.replicate (fn.ntmps - vals.size) undef,defers:=[]}
 have oK:bT M φ (hp o nx) w n ⟨[],true⟩ φ s0 a0 w:=by
  exact Wx
 have ha:=gQ (P:=P) (n:=n) (b:=nx) (rd:=true) aY ca _ _ s0 (fun _ _ h=>h) (by rw[hla];exact h)
 refine AK (ro:=none) (k:=0) (mG Ho pV (yn (gv (gL (P:=P) (H0:=hp o nx) (b:=nx) (cx:=⟨[],true⟩) (ro:=none) (fun id hu=>hu) (fun h=>by cases h) ca _ s0 φ a0 w ha oK) ?_)))
 rintro e a1 w1 ⟨x,s1,iB,hq,pg,hm⟩
 cases e<;>cases x<;>first|(exact hm.elim)|(exact hq.elim)|skip
 have uz:a1.defers=[]:=by
  obtain⟨ms,g1,_,g3,_⟩:=pg.defers
  rw[g3 rfl]at g1;exact g1
 let cv:Array Value:=(eX.map a1.eval).toArray
 let fv:Value:= .func (.func g) #[] cv
 let dd:Deferred:={target:= .fn (.func g) cv,args:=#[]}
 let a2:Act:={tmps:=a1.tmps.setIfInBounds t fv,defers:=[dd]}
 have Pa:V.az (ak M iB s1.H) iB s1.H w1 (eX.map s1.ev) cv.toList:=by
  simpa[cv]using jK (M:=M) (φ:=iB) (H:=s1.H) (w:=w1) s1 a1 pg.env eX
 refine Bt hsc (fun l a w h=> ?_) ?_
 ·exact h.elim
 refine yn (gv (Q:=fun e a w=>e= .normal/\a=a2/\w=w1) (oJ (k:=0) (wpIn_region_list ?_)) ?_)
 ·have y1:Region.wanted o1 (yielded #[o1,o2] a1.tmps)=true:=by simp[Region.wanted,e3]
  have y2:∀tm,Region.wanted o2 (yielded #[o1,o2] tm)=true:=by intro tm;simp[Region.wanted,e6]
  have dc:(a1.put (some t) fv).eval (.tmp t)=fv:=by
   have:t<a1.tmps.size:=by rw[pg.size];exact ht
   simp[Act.put,Act.eval,Array.getD,this]
  show wpListIn (dD none) 0 P #[o1,o2] _ [o1,o2] a1 w1
  unfold wpListIn
  rw[if_pos y1]
  have x1:(execOp a1.eval o1).run P w1= .ok (.value fv) w1:=by simp[execOp,e1,fv,cv,Instr.makeFunc]
  refine jO (fun c hc=>by rw[e1]at hc;cases hc) ?_
  rw[x1]
  show wpListIn (dD none) 0 P #[o1,o2] _ [o2] (a1.put o1.dst fv) w1
  rw[e2]
  unfold wpListIn
  rw[if_pos (y2 _)]
  have x2:(execOp (a1.put (some t) fv).eval o2).run P w1= .ok (.defer dd) w1:=by
   simp[execOp,e4,resolve,dc,Deferred.ofValue,fv,dd]
  refine⟨fun _ _=>trivial, ?_⟩
  have:(o2.semAt (dD none).round (a1.put (some t) fv).eval)=execOp (a1.put (some t) fv).eval o2:=rfl
  rw[this,x2]
  unfold Oper.uponIn
  simp only[e5,wpListIn,Act.put,uz,a2,and_self]
 rintro e a w2 ⟨rfl,rfl,rfl⟩
 have zH:t<a1.tmps.size:=by rw[pg.size];exact ht
 let s2:S:=⟨aA s1.env t (.func (.func g) [] (eX.map s1.ev)),s1.o,s1.nx⟩
 have Ct:bT M iB s1.H w2 n ⟨[dd],false⟩ iB s2 a2 w2:=by
  refine⟨pg.heap,Trans.refl _ _ _,by simp[a2,pg.size],⟨[],rfl,List.nodup_nil,fun _=>rfl,fun r hr=>by cases hr⟩,fun i=> ?_⟩
  simp only[s2,a2,aH]
  by_cases h1:i=t
  ·subst h1
   have:(a1.tmps.setIfInBounds i fv).getD i undef=fv:=by simp[Array.getD,zH]
   simp only[if_true];rw[this]
   exact⟨#[],cv,rfl,rfl,Pa⟩
  ·have:(a1.tmps.setIfInBounds t fv).getD i undef=a1.tmps.getD i undef:=by
    exact NS
   simp only[h1,if_false];rw[this]
   exact pg.env i
 have hb:=gQ (P:=P) (n:=n) (b:=s1.nx) (rd:=false) aY cb _ _ s2 (fun _ _ h=>h) (by rw[Ua];exact hq)
 refine gv (gL (P:=P) (H0:=s1.H) (b:=s1.nx) (cx:=⟨[dd],false⟩) (ro:=none) (fun id hu=>hu) (fun _=>rfl) cb _ s2 iB a2 w2 hb Ct) ?_
 rintro e a3 w3 ⟨x,s3,XY,hq3,Cu,zI⟩
 obtain⟨ms,g1,g2,_,g4⟩:=Cu.defers
 have hinv:(invoke dd.target dd.args).run P=fun w=> .ok (.enter g cv) w:=by
  funext w
  have:=kK (w:=w) ⟨gn,Bv,RV,by rw[RW];rfl⟩ cv
  simpa[dd,invoke]using this
 have last:∀ {w4:World} {tm:Array Value} {u:V} {val:Value} {m0:FrameMode},m0≠ .run->yp M iB s1.H w2 XY s3 a3.tmps w4->V.den (ak M XY s3.H) XY s3.H w4 u val->
  ((m0= .returning/\val= .nilIface)\/m0= .panicking [{v:=val,recovered:=false}])->
  (Dm P m r r1 xi (eX.map s1.ev) u s3.o s3.nx fun o nx=>lC P rs K X .ret ⟨s3.env,o,nx⟩)->
  LeavesInM (dD none) 0 P fn a3.tmps (mA M φ (hp o nx) w K X) [dd] m0 w4:=by
  intro w4 tm u val m0 eV hB Iq hm0 bw
  have RX:=V.aQ hB.tr _ _ Pa
  refine⟨eV, .inr ⟨fun h=>by simp[dD]at h, .func g,cv,g,cv,rfl,by rw[hinv],fun _ _=>trivial,CallsDIn.mono (GI (k:=0 - 1) aY hg bw (m:=m0) hB.heap RX Iq hm0) ?_⟩⟩
  rintro e u' w5 ⟨v,φ5,o5,nx5,rfl,abL,k1,k2,k3⟩
  show LeavesInM (dD none) 0 P fn a3.tmps (mA M φ (hp o nx) w K X) [] (settle u') w5
  rw[abL]
  obtain⟨vs,h1,h2⟩:=AU k3
  rw[<- AR]at h1
  have XZ:∀i,V.den (ak M φ5 (hp o5 nx5)) φ5 (hp o5 nx5) w5 (s3.env i) (a3.tmps.getD i undef):=fun i=>V.aP k2 _ _ (hB.env i)
  obtain⟨acV,h3,h4⟩:=s9 (P:=P) (s:=⟨s3.env,o5,nx5⟩) (a:=a3) k1 XZ _ _ h1
  exact⟨_,mF h3,φ5,o5,nx5,_,k1,pg.tr.trans (hB.tr.trans k2),AV h4,h2⟩
 have done:Dm P m r r1 xi (eX.map s1.ev) (.d .eD) s3.o s3.nx (fun o nx=>lC P rs K X .ret ⟨s3.env,o,nx⟩)->LeavesInM (dD none) 0 P fn a3.tmps (mA M φ (hp o nx) w K X) a3.defers .returning w3:=by
  intro bw
  rw[g1]
  exact gw (P:=P) (k:=0) (fn:=fn) (R:=mA M φ (hp o nx) w K X) (u:= .returning) aG (ds:=[dd]) (fun w4 hB=>last (tm:=a3.tmps) aG hB (u:= .d .eD) (val:= .nilIface) (by simp[V.den,D.den]) (.inl ⟨rfl,rfl⟩) bw) ms w3 g2 g4 Cu.toB
 cases e<;>cases x<;>first|(exact zI.elim)|skip
 ·exact done hq3
 ·exact hq3.elim
 ·exact done hq3
 ·rename_i v
  obtain⟨val,rfl,LS⟩:=zI
  show LeavesInM (dD none) 0 P fn a3.tmps (mA M φ (hp o nx) w K X) a3.defers _ w3
  rw[g1]
  let X0:Nat->V:=fun i=>match i with|0=>v|i+1=>s3.env i
  have X1:(#[val]++a3.tmps).getD 0 undef=val:=by simp[Array.getD]
  have X2:∀i,(#[val]++a3.tmps).getD (i+1) undef=a3.tmps.getD i undef:=by
   intro i
   simp only[Array.getD_eq_getD_getElem?]
   rw[Array.getElem?_append_right (by simp)]
   simp
  have Xa:yp M iB s1.H w2 XY ⟨X0,s3.o,s3.nx⟩ (#[val]++a3.tmps) w3:=⟨Cu.heap,Cu.tr,fun i=>by
   cases i with
   |zero=>rw[X1];exact LS
   |succ i=>rw[X2];exact Cu.env i⟩
  have X4:∀w4,yp M iB s1.H w2 XY ⟨X0,s3.o,s3.nx⟩ (#[val]++a3.tmps) w4->LeavesInM (dD none) 0 P fn a3.tmps (mA M φ (hp o nx) w K X) [dd] (.panicking [{v:=val,recovered:=false}]) w4:=by
   intro w4 hB
   have hv4:=hB.env 0
   rw[X1]at hv4
   refine last (tm:=a3.tmps) aG ⟨hB.heap,hB.tr,fun i=> ?_⟩ hv4 (.inr rfl) hq3
   have hs:=hB.env (i+1)
   rw[X2]at hs
   exact hs
  exact gw (P:=P) (k:=0) (fn:=fn) (R:=mA M φ (hp o nx) w K X) (u:= .panicking [{v:=val,recovered:=false}]) aG (ds:=[dd]) X4 ms w3 g2 g4 Xa
end
end
theorem Da.RY {P:Program}{g:FuncId}{ds:List D}{o:Nat->aa}{fr:Nat}{ty:TypeId}{sz:Nat}{es:List D}
 (h:cO P g (ds.map .d) (fun _=> .no) 0 (fun v o1 _=>(∃j ep,v= .osl j ep/\o1 j= .arr ep ty sz es)\/(v= .aM/\es=[]/\0<sz)) (fun _ _ _=>False)):
 Da P g (ds.map .d) [] o fr (.osl fr 0) [(fr, .arr 0 ty sz es)]:=by
 refine⟨h.1,fun o' us M φ w vals _ cD hH hd=> ?_⟩
 let cm:Place:=fun _=> .nilFunc
 have vE:∀b, ¬cF cm (hp (fun _=> .no) 0) b:=by rintro b ⟨id,hl,_⟩;simp[hp,aa.live]at hl
 have hM:∀b,ak M φ ⟨o',us⟩ b->b<w.heap.size:=fun b hb=>hb.elim (hH.zE b) fun hl=>(hH.ours b hl).2
 have wK:=(V.cg _ _).1 hd
 refine(h.2 (ak M φ ⟨o',us⟩) cm w vals (nw cm hM) ((V.cg _ _).2 (D.aQ (w:=w) (w':=w) (B:=ak M φ ⟨o',us⟩) (fun b _ hB=>⟨rfl,fun h=>h.elim hB (vE b)⟩) _ _ wK))).mono ?_
 rintro e w' ⟨iB,o1,n1,v,k1,k2,k3⟩
 have hk:eh (fun _=>False) w w':=⟨k2.cf.os,k2.cf.tape,k2.cf.output,k2.cf.size,fun k hk _=>k2.cf.block k hk (vE k)⟩
 have xV:(⟨o',us⟩:Hp).put [(fr, .arr 0 ty sz es)]=⟨put o' [(fr, .arr 0 ty sz es)],fun id=>us id\/id=fr⟩:=by
  simp only[Hp.put]
  congr 1
  funext id
  simp
 have fin:∀ (val:Value) (xs:List Value),(∀b,eN val=some b->w.heap.size<=b/\b<w'.heap.size)->0<sz->w'.ownsRow 0 ty sz val es.length xs->
  (eE (ak M (aA φ fr val) ((⟨o',us⟩:Hp).put [(fr, .arr 0 ty sz es)])) w' sz es xs)->
  val.oneCell'=true->
  ∃aC,ax M aC ⟨put o' [(fr, .arr 0 ty sz es)],fun id=>us id\/id=fr⟩ w'/\Trans φ ⟨o',us⟩ w aC ⟨put o' [(fr, .arr 0 ty sz es)],fun id=>us id\/id=fr⟩ w'/\
   ∃Jf,Ending.returned val= .returned Jf/\V.den (ak M aC ⟨put o' [(fr, .arr 0 ty sz es)],fun id=>us id\/id=fr⟩) aC ⟨put o' [(fr, .arr 0 ty sz es)],fun id=>us id\/id=fr⟩ w' (.osl fr 0) Jf:=by
  intro val xs ji dV dO cN hsl
  have pU:=hY hH hk cD (.arr 0 ty sz es) val ji (by
   unfold aO
   rw[show((⟨o',us⟩:Hp).put [(fr, .arr 0 ty sz es)]).o fr= .arr 0 ty sz es by simp]
   refine⟨dV,xs, ?_,cN⟩
   rw[show aA φ fr val fr=val by simp]
   exact dO)
  have X5:=dz (φ:=φ) (H:=⟨o',us⟩) hk cD (.arr 0 ty sz es) val (fun b hb=>(ji b hb).1)
  rw[xV]at pU X5
  refine⟨aA φ fr val,pU,X5,val,rfl,hsl, .inr rfl,fun e he=> ?_⟩
  have pb:0=e:=by
   have:(put o' [(fr,aa.arr 0 ty sz es)] fr).b9=some 0:=by simp[put,aa.b9]
   exact Wk
  exact⟨ae,fun _=>aG⟩
 cases e with
 |outgrown=>exact k3.elim
 |panicked ch=>obtain⟨_,_,_,h⟩:=k3;exact h.elim
 |returned val=>
  obtain⟨g1,⟨j,ep,rfl,hj⟩|⟨rfl,rfl,dV⟩⟩:=k3
  ·obtain⟨v0,v1,v2⟩:=g1
   have eA:val=iB j:=(v2 ep (by show(o1 j).b9=some ep;rw[hj];rfl)).2 rfl
   have cQ:∀b,eN val=some b->cF iB (hp o1 n1) b:=fun b hb=>⟨j,by show(o1 j).live=true;rw[hj];rfl,by rw[<- eA];exact hb⟩
   have ji:∀b,eN val=some b->w.heap.size<=b/\b<w'.heap.size:=fun b hb=>⟨(k2.grow b (cQ b hb)).resolve_left (vE b),(k1.ours b (cQ b hb)).2⟩
   have RZ:=k1.ok j
   unfold aO at RZ
   rw[show(hp o1 n1).o j= .arr ep ty sz es from hj]at RZ
   obtain⟨dV,xs,dO,cN⟩:=RZ
   have hBs:∀b,ak M (aA φ fr val) ((⟨o',us⟩:Hp).put [(fr, .arr 0 ty sz es)]) b->ak (ak M φ ⟨o',us⟩) iB (hp o1 n1) b:=by
    rintro b (hb|⟨id,hl,hb⟩)
    ·exact .inl (.inl hb)
    ·by_cases e:id=fr
     ·subst e
      simp at hb
      exact .inr (cQ b hb)
     ·simp[e]at hl hb
      exact .inl (.inr ⟨id,hl,hb⟩)
   exact fin val xs ji dV (by rw[eA];exact dO) (cN.mono (w:=w') (w':=w') (fun b _ hB=>⟨rfl,fun h=>hB (hBs b h)⟩)) v0
  ·have g1:val= .slice none 0 0:=g1
   subst g1
   exact VP
theorem Da.Me {P:Program}{g:FuncId}{args:List V}{ds:List D}{o:Nat->aa}{fr:Nat}{ty:TypeId}{sz:Nat}{es:List D}
 (eR:bR o args=some ds) (pc:D.jm es=true) (h:cO P g (ds.map .d) (fun _=> .no) 0 (fun v o1 _=>(∃j ep,v= .osl j ep/\o1 j= .arr ep ty sz es)\/(v= .aM/\es=[]/\0<sz)) (fun _ _ _=>False)):
 Da P g args (V.a8 args) o fr (.osl fr 0) [(fr, .arr 0 ty sz es)]:=by
 refine⟨h.1,fun o' us M φ w vals hag cD hH hd=> ?_⟩
 obtain⟨f1,f2,f3,f4,f5⟩:=cX hH (V.a8 args) (fun id aw=>(hag id aw).2)
 generalize hHF:(⟨o',us⟩:Hp).put (b7 (⟨o',us⟩:Hp).o (V.a8 args))=HF at f1 f2 f3
 let cm:Place:=fun _=> .nilFunc
 have vE:∀b, ¬cF cm (hp (fun _=> .no) 0) b:=by rintro b ⟨id,hl,_⟩;simp[hp,aa.live]at hl
 have hM:∀b,ak M φ HF b->b<w.heap.size:=fun b hb=>hb.elim (f1.zE b) fun hl=>(f1.ours b hl).2
 have wK:D.az (ak M φ HF) w ds vals.toList:=de f1 args ds _ (fun id aw=>by rw[f3 id aw];show(o' id).fz=(o id).fz;rw[(hag id aw).1]) eR (V.aQ f2 _ _ hd)
 refine(h.2 (ak M φ HF) cm w vals (nw cm hM) ((V.cg _ _).2 (D.aQ (w:=w) (w':=w) (B:=ak M φ HF) (fun b _ hB=>⟨rfl,fun h=>h.elim hB (vE b)⟩) _ _ wK))).mono ?_
 rintro e w' ⟨iB,o1,n1,v,k1,k2,k3⟩
 have hk:eh (fun _=>False) w w':=⟨k2.cf.os,k2.cf.tape,k2.cf.output,k2.cf.size,fun k hk _=>k2.cf.block k hk (vE k)⟩
 have xV:(⟨o',us⟩:Hp).put [(fr, .arr 0 ty sz es)]=⟨put o' [(fr, .arr 0 ty sz es)],fun id=>us id\/id=fr⟩:=by
  simp only[Hp.put]
  congr 1
  funext id
  simp
 have fin:∀ (val:Value) (xs:List Value),(∀b,eN val=some b->w.heap.size<=b/\b<w'.heap.size)->0<sz->w'.ownsRow 0 ty sz val es.length xs->
  (eE (ak M (aA φ fr val) ((⟨o',us⟩:Hp).put [(fr, .arr 0 ty sz es)])) w' sz es xs)->
  val.oneCell'=true->
  ∃aC,ax M aC ⟨put o' [(fr, .arr 0 ty sz es)],fun id=>us id\/id=fr⟩ w'/\Trans φ ⟨o',us⟩ w aC ⟨put o' [(fr, .arr 0 ty sz es)],fun id=>us id\/id=fr⟩ w'/\
   ∃Jf,Ending.returned val= .returned Jf/\V.den (ak M aC ⟨put o' [(fr, .arr 0 ty sz es)],fun id=>us id\/id=fr⟩) aC ⟨put o' [(fr, .arr 0 ty sz es)],fun id=>us id\/id=fr⟩ w' (.osl fr 0) Jf:=by
  intro val xs ji dV dO cN hsl
  have pU:=hY hH hk cD (.arr 0 ty sz es) val ji (by
   unfold aO
   rw[show((⟨o',us⟩:Hp).put [(fr, .arr 0 ty sz es)]).o fr= .arr 0 ty sz es by simp]
   refine⟨dV,xs, ?_,cN⟩
   rw[show aA φ fr val fr=val by simp]
   exact dO)
  have X5:=dz (φ:=φ) (H:=⟨o',us⟩) hk cD (.arr 0 ty sz es) val (fun b hb=>(ji b hb).1)
  rw[xV]at pU X5
  refine⟨aA φ fr val,pU,X5,val,rfl,hsl, .inr rfl,fun e he=> ?_⟩
  have pb:0=e:=by
   have:(put o' [(fr,aa.arr 0 ty sz es)] fr).b9=some 0:=by simp[put,aa.b9]
   exact Wk
  exact⟨ae,fun _=>aG⟩
 cases e with
 |outgrown=>exact k3.elim
 |panicked ch=>obtain⟨_,_,_,h⟩:=k3;exact h.elim
 |returned val=>
  obtain⟨g1,⟨j,ep,rfl,hj⟩|⟨rfl,rfl,dV⟩⟩:=k3
  ·obtain⟨v0,v1,v2⟩:=g1
   have eA:val=iB j:=(v2 ep (by show(o1 j).b9=some ep;rw[hj];rfl)).2 rfl
   have cQ:∀b,eN val=some b->cF iB (hp o1 n1) b:=fun b hb=>⟨j,by show(o1 j).live=true;rw[hj];rfl,by rw[<- eA];exact hb⟩
   have ji:∀b,eN val=some b->w.heap.size<=b/\b<w'.heap.size:=fun b hb=>⟨(k2.grow b (cQ b hb)).resolve_left (vE b),(k1.ours b (cQ b hb)).2⟩
   have RZ:=k1.ok j
   unfold aO at RZ
   rw[show(hp o1 n1).o j= .arr ep ty sz es from hj]at RZ
   obtain⟨dV,xs,dO,cN⟩:=RZ
   obtain⟨evs,e1,e2,e3⟩:=cN
   exact fin val xs ji dV (by rw[eA];exact dO) ⟨evs,e1,e2,D.ly _ _ pc e3⟩ v0
  ·have g1:val= .slice none 0 0:=g1
   subst g1
   exact VP
theorem Da.Mf {P:Program}{g:FuncId}{args:List V}{ds:List D}{o0 o:Nat->aa}{rd:List Nat}{fr:Nat}{v:V}{Δ:List (Nat×aa)}(aw:V.a8 args=[])(eR:bR o0 args=some ds)
 (h:Da P g (ds.map .d) rd o fr v Δ):Da P g args rd o fr v Δ:=
 ⟨h.1,fun o' us M φ w vals h1 h2 hH hd=>h.2 o' us M φ w vals h1 h2 hH ((V.cg _ _).2 (de hH args ds _ (by rw[aw];intro id h;cases h) eR hd))⟩
def EV(P:Program)(f:FuncId):Prop:=
 Enters P f/\∀ (w:World) (b:Nat) (es:Array MapEntry) (clock:Nat),w.heap[b]? =some (.map es clock)->
  Calls P f #[.map (some b)] w fun e w'=>e= .returned (.map (some w.heap.size))/\w'=w.alloc (.map es clock)
theorem cO.R0 {P:Program}{f:FuncId}(h:EV P f){o:Nat->aa}{nx id:Nat}{kt vt:TypeId}{l:List (D×D)}(ho:o id= .map kt vt l){K X:V->(Nat->aa)->Nat->Prop}
 (hK:K (.mp nx) (aA o nx (.map kt vt l)) (nx+1)):cO P f [.mp id] o nx K X:=by
 refine⟨h.1,fun M φ w vals hH hd=> ?_⟩
 have hlen:=V.ay _ _ hd
 obtain⟨v,rfl⟩:∃v,vals=#[v]:=by
  match vals,hlen with
  |⟨[v]⟩,_=>exact⟨v,rfl⟩
 obtain⟨v',pf,Iq⟩:=V.c9 _ _ 0 (.mp id) hd rfl
 simp only[List.getElem?_cons_zero,Option.some.injEq]at pf
 subst pf
 have aS:=hH.ok id
 have wo:(hp o nx).o id= .map kt vt l:=ho
 simp only[aO,wo]at aS
 obtain⟨b,es,clock,e1,e2,e3,e4⟩:=aS
 have hv:v=φ id:=Iq.2.2 (by rw[wo];rfl)
 rw[hv,e1]
 refine(h.2 w b es clock e2).mono fun e w' ⟨he,hw⟩=> ?_
 subst he;subst hw
 have cD: ¬ (hp o nx).us nx:=fun h=>Nat.lt_irrefl _ h
 have xV:(hp o nx).put [(nx, .map kt vt l)]=hp (aA o nx (.map kt vt l)) (nx+1):=by
  simp only[Hp.put,hp]
  congr 1
  funext j
  simp only[List.map_cons,List.map_nil,List.mem_singleton,eq_iff_iff]
  omega
 have K2:∀c,eN (.map (some w.heap.size))=some c->w.heap.size<=c/\c<(w.alloc (.map es clock)).heap.size:=by
  intro c hc;simp[eN]at hc;subst hc;simp
 have ht:=dz (φ:=φ) (H:=hp o nx) (bX w (.map es clock)) cD (.map kt vt l) (.map (some w.heap.size)) fun c hc=>(K2 c hc).1
 refine⟨aA φ nx (.map (some w.heap.size)),aA o nx (.map kt vt l),nx+1, .mp nx, ?_, ?_, ?_,hK⟩
 ·exact Wu
 ·rw[<- xV];exact ht
 ·rw[<- xV];exact⟨rfl,aG,fun _=>aG⟩
theorem cO.EW {P:Program}{f:FuncId}(h:EV P f){o:Nat->aa}{nx id:Nat}{kt vt:TypeId}{l:List (D×D)}(ho:o id= .cZ l){K X:V->(Nat->aa)->Nat->Prop}
 (hK:K (.mp nx) (aA o nx (.map kt vt l)) (nx+1)):cO P f [.mp id] o nx K X:=by
 refine⟨h.1,fun M φ w vals hH hd=> ?_⟩
 have hlen:=V.ay _ _ hd
 obtain⟨v,rfl⟩:∃v,vals=#[v]:=by
  match vals,hlen with
  |⟨[v]⟩,_=>exact⟨v,rfl⟩
 obtain⟨v',pf,Iq⟩:=V.c9 _ _ 0 (.mp id) hd rfl
 simp only[List.getElem?_cons_zero,Option.some.injEq]at pf
 subst pf
 have aS:=hH.ok id
 have wo:(hp o nx).o id= .cZ l:=ho
 simp only[aO,wo]at aS
 obtain⟨b,es,clock,e1,e2,_,e3,e4⟩:=aS
 have hv:v=φ id:=Iq.2.2 (by rw[wo];rfl)
 rw[hv,e1]
 refine(h.2 w b es clock e2).mono fun e w' ⟨he,hw⟩=> ?_
 subst he;subst hw
 have cD: ¬ (hp o nx).us nx:=fun h=>Nat.lt_irrefl _ h
 have xV:(hp o nx).put [(nx, .map kt vt l)]=hp (aA o nx (.map kt vt l)) (nx+1):=by
  simp only[Hp.put,hp]
  congr 1
  funext j
  simp only[List.map_cons,List.map_nil,List.mem_singleton,eq_iff_iff]
  omega
 have K2:∀c,eN (.map (some w.heap.size))=some c->w.heap.size<=c/\c<(w.alloc (.map es clock)).heap.size:=by
  intro c hc;simp[eN]at hc;subst hc;simp
 have ht:=dz (φ:=φ) (H:=hp o nx) (bX w (.map es clock)) cD (.map kt vt l) (.map (some w.heap.size)) fun c hc=>(K2 c hc).1
 refine⟨aA φ nx (.map (some w.heap.size)),aA o nx (.map kt vt l),nx+1, .mp nx, ?_, ?_, ?_,hK⟩
 ·exact Wu
 ·rw[<- xV];exact ht
 ·rw[<- xV];exact⟨rfl,aG,fun _=>aG⟩
end Go.Proofs.YtlhemmpklhhgoaaGreat
