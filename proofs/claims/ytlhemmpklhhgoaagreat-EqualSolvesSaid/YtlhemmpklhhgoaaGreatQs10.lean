/-
  A PART OF THE PROOF. Conditions: none.
-/
import Derived.Test.YtlhemmpklhhgoaaGreatQs9
set_option linter.unusedSimpArgs false
set_option linter.unusedVariables false
namespace Go.Proofs.YtlhemmpklhhgoaaGreat
@[go_sem] theorem nX (v:V) (l:List V):aX (v::l) 0=v:=rfl
@[go_sem] theorem nY (v:V) (l:List V) (i:Nat):aX (v::l) (i+1)=aX l i:=rfl
@[go_sem] theorem qA (i:Nat):aX [] i= .aa:=by simp[aX]
@[go_sem] theorem Qp (k:Nat):(0<=(k:Int))=True:=aF
attribute [go_sem] List.getElem?_map List.length_map Int.toNat_natCast
attribute [go_sem] eH List.flatMap_cons List.flatMap_nil
attribute [go_sem] isConst rC MD rA rB AP rz pW Dj ME xr GV oZ o6 xq uD uE pX
attribute [go_sem] oE V.refs V.aQ
attribute [go_sem] List.all_nil List.all_cons Option.some.injEq D.int.injEq D.bool.injEq Nat.zero_add Nat.add_zero
theorem wrap64{n:Int}(h1: -9223372036854775808<=n)(h2:n<=9223372036854775807):IntKind.i64.wrap n=n:=by
 unfold IntKind.wrap
 have e1:((2:Int)^IntKind.i64.bits)=18446744073709551616:=bV
 have e2:((2:Int)^(IntKind.i64.bits - 1))=9223372036854775808:=bV
 have e3:IntKind.i64.signed=true:=rfl
 simp only[e1,e2,e3,Bool.true_and,decide_eq_true_eq]
 split<;>omega
structure Good (o:Nat->ad) (nx:Nat):Prop where
 fresh:∀id,nx<=id->o id= .no
 refs:∀id,∀r∈(o id).refs,r<nx
theorem Good.nil {nx:Nat}:Good (fun _=> .no) nx:=⟨fun _ _=>rfl,fun id r h=>by cases h⟩
theorem Good.az {o:Nat->ad}{nx i:Nat}{x:ad}(h:Good o nx)(hi:i<nx)(hx:x.refs.all (fun r=>decide (r<nx))=true):Good (az o i x) nx:=by
 refine⟨fun id au=> ?_,fun id r hr=> ?_⟩
 ·rw[ae _ _ _ _ (by omega)];exact h.fresh id au
 ·by_cases e:id=i
  ·subst e
   rw[ab]at hr
   simpa using List.all_eq_true.1 hx r hr
  ·rw[ae _ _ _ _ e]at hr
   exact h.refs id r hr
theorem Good.mono {o:Nat->ad}{nx m:Nat}(h:Good o nx)(hm:nx<=m):Good o m:=⟨fun id au=>h.fresh id af,fun id r hr=>Nat.lt_of_lt_of_le (h.refs id r hr) hm⟩
theorem Good.lt {o:Nat->ad}{nx id:Nat}(h:Good o nx)(hn:o id≠ .no):id<nx:=by
 rcases Nat.lt_or_ge id nx with hl|hl
 ·exact hl
 ·exact absurd (h.fresh id hl) hn
def CtO(P:Program)(g:FuncId)(args:List V)(o:Nat->ad)(v:V):Prop:=
 ∀nx,Good o nx->∀K X,(∀o' nx',nx<=nx'->Good o' nx'->(∀id,id<nx->o' id=o id)->K v o' nx')->cI P g args o nx K X
theorem V.xd:∀ (l:List V) (i:Nat),∀r∈(aX l i).refs,r∈V.aQ l
 |[],i,r,h=>by rw[qA]at h;cases h
 |v::l,0,r,h=>by rw[nX]at h;simp only[V.aQ,List.mem_append];exact .inl h
 |v::l,i+1,r,h=>by rw[nY]at h;simp only[V.aQ,List.mem_append];exact .inr (V.xd l i r h)
theorem bA.back {b:Nat}{s:S}{env:Nat->V}{o:Nat->ad}{nx:Nat}(hb:b<=nx)(hn:nx<=s.nx)(hg:Good o nx)(ho:∀id,id<nx->s.o id=o id)
 (he:∀i,env i= .aa\/(env i=s.env i/\∀r∈(env i).refs,r<nx)):bA b s ⟨env,o,nx⟩:=by
 intro M φ w tm hH hd
 have cH:∀k,cD φ (hp o nx) k->cD φ s.H k:=by
  rintro k ⟨id,h1,h2⟩
  have au:id<nx:=hg.lt (fun e=>by simp only[hp]at h1;rw[e]at h1;cases h1)
  exact⟨id,by simp only[S.H];rw[ho id au];exact h1,h2⟩
 have hB:∀k, ¬ao M φ s.H k-> ¬ao M φ (hp o nx) k:=fun k h h'=>h (h'.imp id (cH k))
 have fi:∀ (v:V) (val:Value),(∀r∈v.refs,r<nx)->V.den (ao M φ s.H) φ s.H w v val->V.den (ao M φ (hp o nx)) φ (hp o nx) w v val:=fun v val hr h=>
  V.ng (H:=s.H) (H':=hp o nx) hB v val (fun id au=>⟨(ho id (hr id au)).symm,rfl,hr id au⟩) h
 have mK:∀ (v:List V) (val:List Value),(∀r∈V.aQ v,r<nx)->V.aC (ao M φ s.H) φ s.H w v val->V.aC (ao M φ (hp o nx)) φ (hp o nx) w v val:=fun v val hr h=>
  V.fU (H:=s.H) (H':=hp o nx) hB v val (fun id au=>⟨(ho id (hr id au)).symm,rfl,hr id au⟩) h
 refine⟨φ,⟨fun id=> ?_,fun id hu=>hg.fresh id (by simpa[S.H]using hu),fun i j k h1 h2 h3 h4=> ?_,fun k hk=>hH.ours k (cH k hk),hH.Ak⟩,fun i=> ?_,cH,hb,fun id au hr=> ?_,fun id e' au pM=> ?_⟩
 ·have bf:=hH.ok id
  have hrefs:=hg.refs id
  unfold aO at bf|-
  by_cases au:id<nx
  ·have e:s.H.o id=o id:=ho id au
   rw[e]at bf
   simp only[S.H]at bf|-
   cases hx:o id with
   |no=>trivial
   |row cs=>
    simp only[hx]at bf hrefs|-
    exact YG
   |arr ep ty sz es=>
    simp only[hx]at bf|-
    obtain⟨k1,xs,k2,evs,k3,k4,k5⟩:=bf
    exact XY
   |tw ep es=>
    simp only[hx]at bf|-
    exact D.aS (fun b _ hn=>⟨rfl,hB b hn⟩) _ _ bf
   |map kt vt es=>
    simp only[hx]at bf|-
    obtain⟨b,es',clock,k1,k2,k4,k3⟩:=bf
    exact XU
   |bU l=>
    simp only[hx]at bf|-
    exact kF.mono (fun b _ hn=>⟨rfl,hB b hn⟩) bf
   |ra l last=>
    simp only[hx]at bf|-
    obtain⟨b,k1,k2⟩:=bf
    exact O4
   |yI s pos=>
    simp only[hx]at bf|-
    exact bf
   |loop nf n env ps a b st pd=>
    simp only[hx]at bf hrefs|-
    exact Pp
  ·simp only[S.H]
   rw[hg.fresh id (by omega)]
   trivial
 ·have hi:i<nx:=hg.lt (fun e=>by simp only[S.H]at h1;rw[e]at h1;cases h1)
  have hj:j<nx:=hg.lt (fun e=>by simp only[S.H]at h2;rw[e]at h2;cases h2)
  exact hH.apart i j k (by simp only[S.H];rw[ho i hi];exact h1) (by simp only[S.H];rw[ho j hj];exact h2) h3 h4
 ·rcases he i with h|⟨h1,h2⟩
  ·simp only[h];trivial
  ·have:=hd i
   rw[<- h1]at this
   exact fi _ _ h2 this
 ·have b8:id<nx:=af
  exact⟨by rw[ho id b8];exact hr,rfl⟩
 ·have b8:id<nx:=af
  exact⟨e',by rw[ho id b8];exact pM,Nat.le_refl _,fun _=>rfl⟩
def lr(nx:Nat)(env:Nat->V):List V->Nat->Prop
 |[],_=>True
 |v::l,i=>(v= .aa\/(v=env i/\∀r∈v.refs,r<nx))/\lr nx env l (i+1)
theorem bA.bJ {b:Nat}{e:Nat->V}{so:Nat->ad}{m:Nat}(l:List V){o:Nat->ad}{nx:Nat}(hb:b<=nx)(hn:nx<=m)(hg:Good o nx)(ho:∀id,id<nx->so id=o id)(he:lr nx e l 0):bA b ⟨e,so,m⟩ ⟨aX l,o,nx⟩:=by
 refine bA.back hb hn hg ho ?_
 have key:∀ (l:List V) (i:Nat),lr nx e l i->∀j,aX l j= .aa\/(aX l j=e (i+j)/\∀r∈(aX l j).refs,r<nx):=by
  intro l
  induction l with
  |nil=>intro i _ j;rw[qA];exact .inl rfl
  |cons v l ih=>
   intro i h j
   cases j with
   |zero=>rw[nX];exact h.1
   |succ j=>
    rw[nY]
    have:=ih (i+1) h.2 j
    rwa [show i+1+j=i+(j+1) by omega]at this
 intro i
 have:=key l 0 he i
 rwa [Nat.zero_add]at this
theorem xc{nx:Nat}{env:Nat->V}{i:Nat}:lr nx env [] i:=trivial
theorem fF{nx:Nat}{env:Nat->V}{l:List V}{i:Nat}(h:lr nx env l (i+1)):lr nx env (.aa::l) i:=⟨.inl rfl,h⟩
theorem nO{nx:Nat}{env:Nat->V}{l:List V}{i:Nat}{x:D}(he:env i= .d x)(h:lr nx env l (i+1)):lr nx env (.d x::l) i:=⟨.inr ⟨he.symm,fun r hr=>by simp[V.refs]at hr⟩,h⟩
theorem EP{nx:Nat}{env:Nat->V}{l:List V}{i:Nat}{v:V}(he:env i=v)(hr:∀r∈v.refs,r<nx)(h:lr nx env l (i+1)):lr nx env (v::l) i:=⟨.inr ⟨he.symm,hr⟩,h⟩
theorem bA.d0 {e:Nat->V}{so:Nat->ad}{m:Nat}(l:List V)(he:lr 0 e l 0):bA 0 ⟨e,so,m⟩ ⟨aX l,fun _=> .no,0⟩:=bA.bJ l (Nat.le_refl 0) (Nat.zero_le _) Good.nil (fun _ h=>absurd h (Nat.not_lt_zero _)) he
theorem mi{k:Nat}(h:(k:Int)+1<=9223372036854775807):IntKind.i64.wrap ((k:Int)+1)=((k+1:Nat):Int):=by rw[wrap64 (by omega) h];rfl
theorem jZ{k:IntKind}{a b:Int}(h:a=b):V.d (D.int k a)=V.d (D.int k b):=by rw[h]
theorem Aq.Tt {P:Program}{g:FuncId}{args:List V}{rd:List Nat}{o:Nat->ad}{x:D}(nx:Nat)(tS:rd.all (fun id=>decide (id<nx))=true)(dq:∀id∈V.aQ args,id∈rd)(re:∀id∈rd,∀j∈(o id).refs,j∈rd)
 (h:CtO P g args (DJ rd o) (.d x)):Aq P g args rd o (.ret [x]) []:=by
 have b8:∀id∈rd,id<nx:=fun id au=>by simpa using List.all_eq_true.1 tS id au
 have Fe:∀id,id∈rd->DJ rd o id=o id:=fun id au=>by simp[DJ,au]
 have BP:∀id,id∉rd->DJ rd o id= .no:=fun id au=>by simp[DJ,au]
 have ZJ:Good (DJ rd o) nx:=by
  refine⟨fun id au=>BP id (fun hm=>by have:=b8 id hm;omega),fun id r hr=> ?_⟩
  by_cases au:id∈rd
  ·rw[Fe id au]at hr;exact b8 r (re id au r hr)
  ·rw[BP id au]at hr;cases hr
 refine Aq.m7 (nx:=nx) b8 dq re (fun x hx=>by cases hx) (fun x hx=>by cases hx) (h nx ZJ _ _ fun o' nx' _ _ h3=>⟨fun id au=> ?_,[.d x],[x],rfl,rfl,rfl,fun id au=>by simp[V.br,V.ids]at au⟩)
 rw[h3 id (b8 id au),Fe id au];rfl
theorem BQ{P:Program}{g:FuncId}{K:KD}{X:XD}{o:Nat->ad}{nx fr:Nat}{all:List V}{rd:List Nat}{rs:List D}{Δ:List (Nat×ad)}(mG:rd.all (fun id=>decide (id<nx))=true)(h:Aq P g all rd o (.ret rs) Δ)(hk:K (iP rs) Δ rd):rQ P g K X o nx fr all:=by
 unfold rQ
 exact⟨rd,Δ,mG, .inl ⟨rs,h,hk⟩⟩
abbrev D.i (n:Int):D:= .int .i64 n
structure kO where
 name:List UInt8
 args:Int
structure aD where
 cons:List kO
 cL:List kO
inductive Tm where
 |mk (op n:Int) (kids:List Tm)
 deriving Inhabited
structure TB where
 var:Int
 term:Tm
def Tm.op:Tm->Int| .mk op _ _=>op
def Tm.n:Tm->Int| .mk _ n _=>n
def Tm.kids:Tm->List Tm| .mk _ _ l=>l
theorem Tm.eta (t:Tm):Tm.mk t.op t.n t.kids=t:=by cases t;rfl
theorem Tm.ind {P:Tm->Prop}(h:∀op n kids,(∀k∈kids,P k)->P (.mk op n kids)):∀t,P t:=
 fun t=>Tm.rec (motive_1:=P) (motive_2:=fun l=>∀k∈l,P k) (fun op n kids ih=>h op n kids ih) (fun _ h=>by cases h)
  (fun x l hx hl k hk=>(List.mem_cons.1 hk).elim (fun e=>e ▸ hx) (hl k)) t
mutual
def Tm.d:Tm->D
 | .mk op n kids=> .agg [.i op, .i n, .sl (Tm.ds kids)]
def Tm.ds:List Tm->List D
 |[]=>[]
 |t::l=>t.d::Tm.ds l
end
theorem Tm.DX:∀l:List Tm,Tm.ds l=l.map Tm.d
 |[]=>rfl
 |t::l=>by simp[Tm.ds,Tm.DX l]
theorem Tm.ZK (t:Tm):t.d= .agg [.i t.op, .i t.n, .sl (t.kids.map Tm.d)]:=by cases t;simp[Tm.d,Tm.DX,Tm.op,Tm.n,Tm.kids]
@[go_sem] theorem Tm.adx (t:Tm):D.agg [.i t.op, .i t.n, .sl (t.kids.map Tm.d)]=t.d:=(Tm.ZK t).symm
@[go_sem] theorem Tm.acL (t:Tm):D.cells t.d=[.i t.op, .i t.n, .sl (t.kids.map Tm.d)]:=by rw[Tm.ZK];rfl
theorem Tm.ei {P:Tm->Prop}(h:∀t:Tm,(∀k∈t.kids,P k)->P t):∀t,P t:=Tm.ind fun op n kids ih=>h (.mk op n kids) ih
theorem Tm.DY (op n:Int)(l:List Tm):(Tm.mk op n l).d= .agg [.i op, .i n, .sl (l.map Tm.d)]:=by simp[Tm.d,Tm.DX]
@[reducible] def kO.d (x:kO):D:= .agg [.str x.name, .i x.args]
@[reducible] def aD.d (s:aD):D:= .agg [.sl (s.cons.map kO.d), .sl (s.cL.map kO.d)]
@[reducible] def TB.d (b:TB):D:= .agg [.i b.var, .i b.term.op, .i b.term.n, .sl (b.term.kids.map Tm.d)]
mutual
def Tm.fits:Tm->Prop
 | .mk _ _ kids=>kids.length<=9223372036854775807/\Tm.BR kids
def Tm.BR:List Tm->Prop
 |[]=>True
 |t::l=>t.fits/\Tm.BR l
end
theorem Tm.x5:∀l:List Tm,Tm.BR l↔∀k∈l,k.fits
 |[]=>by simp[Tm.BR]
 |t::l=>by simp[Tm.BR,Tm.x5 l]
theorem Tm.bK (t:Tm):t.fits↔t.kids.length<=9223372036854775807/\∀k∈t.kids,k.fits:=by cases t;simp[Tm.fits,Tm.x5,Tm.kids]
mutual
def Tm.mC:Tm->Nat
 | .mk _ _ kids=>1+Tm.iS kids
def Tm.iS:List Tm->Nat
 |[]=>0
 |k::l=>Nat.max k.mC (Tm.iS l)
end
theorem Tm.BS:∀ {l:List Tm} {k:Tm},k∈l->k.mC<=Tm.iS l
 |x::l,k,h=>by
  simp only[Tm.iS]
  rcases List.mem_cons.1 h with rfl|h
  ·exact Nat.le_max_left _ _
  ·exact Nat.le_trans (Tm.BS h) (Nat.le_max_right _ _)
theorem Tm.zD {t k:Tm}(h:k∈t.kids):k.mC+1<=t.mC:=by
 cases t;simp only[Tm.kids]at h;simp only[Tm.mC];have:=Tm.BS h;omega
mutual
def pre:Tm->Int->List (Tm×Int)
 | .mk op n kids,d=>(.mk op n kids,d)::Nn kids (d+1)
def Nn:List Tm->Int->List (Tm×Int)
 |[],_=>[]
 |k::l,d=>pre k d++Nn l d
end
theorem HA(l:List Tm)(d:Int):Nn l d=l.flatMap fun k=>pre k d:=by
 induction l with
 |nil=>rfl
 |cons k l ih=>simp[Nn,ih]
theorem nm(t:Tm)(d:Int):pre t d=(t,d)::t.kids.flatMap fun k=>pre k (d+1):=by cases t;simp[pre,HA,Tm.kids]
def dJ(n low high:Int):Bool:=decide (low<=n)&&decide (n<=high)
def letterF(b:UInt8):Bool:= !((decide ((b.toNat:Int)<97)||decide (122<(b.toNat:Int)))&&(decide ((b.toNat:Int)<65)||decide (90<(b.toNat:Int))))
def jE(s:List UInt8):Bool:=s.all letterF&&dJ s.length 1 8
def cn:List kO->List (List UInt8)->Option (List (List UInt8))
 |[],before=>some before
 |x::l,before=>if before.any (· ==x.name)then none else if(!jE x.name|| !dJ x.args 0 4)=true then none else cn l (before++[x.name])
def fB:List UInt8:=[70,97,108,115,101]
def tB:List UInt8:=[84,114,117,101]
def my(x:kO)(s:List UInt8):Bool:=x.name==s&&x.args==0
def np(s:aD):Bool:=
 if(!dJ s.cons.length 2 12||decide (8<(s.cL.length:Int)))=true then false else
 match s.cons with
 |a::b::_=>if(!my a fB|| !my b tB)=true then false else
  match cn s.cons []with
  |none=>false
  |some l=>(cn s.cL l).isSome
 |_=>false
mutual
def iF:Tm->Int->Int->Int
 | .mk _ _ kids,left,depth=>if left<1\/depth<1 then -1 else cp kids (left - 1) (depth - 1)
def cp:List Tm->Int->Int->Int
 |[],left,_=>left
 |k::l,left,depth=>if 0<=left then cp l (iF k left depth) depth else left
end
def hZ(l:List kO)(n:Int):Int:=match l[n.toNat]? with|some x=>x.args|none=>0
def bw(s:aD)(t:Tm):Bool:=
 let k:Int:=t.kids.length
 if t.op=1 then k==0&&dJ t.n 0 19
 else if t.op=2 then k==0&&dJ t.n (-1000000) 1000000
 else if t.op=3 then dJ t.n 0 (s.cons.length - 1)&&k==hZ s.cons t.n
 else if t.op=4 then dJ t.n 0 (s.cL.length - 1)&&k==hZ s.cL t.n
 else if t.op=5 then dJ t.n 0 (s.cL.length - 1)&&decide (k<hZ s.cL t.n)
 else if t.op=8 then k==2&&dJ t.n 0 19
 else if(dJ t.op 6 15)=true then k==2&&t.n==0
 else false
mutual
def ig(s:aD):Tm->Bool
 | .mk op n kids=>bw s (.mk op n kids)&&tZ s kids
def tZ(s:aD):List Tm->Bool
 |[]=>true
 |k::l=>ig s k&&tZ s l
end
def jF(s:aD)(t:Tm):Bool:=decide (0<=iF t 40 12)&&ig s t
mutual
def fM:Tm->Bool
 | .mk op _ kids=>uc kids&&((decide (1<=op)&&decide (op<=3))||op==5)
def uc:List Tm->Bool
 |[]=>true
 |k::l=>fM k&&uc l
end
mutual
def fX:Tm->Tm->Bool
 | .mk op n kids, .mk op' n' Qq=>op==op'&&n==n'&&kids.length==Qq.length&&ij kids Qq
def ij:List Tm->List Tm->Bool
 |[],_=>true
 |k::l,k'::l'=>fX k k'&&ij l l'
 |_::_,[]=>true
end
def ik(t:Tm):Bool:=decide (0<=iF t 50 14)
def fD(l:List kO):Bool:=l.all fun x=>decide ((x.name.length:Int)<=30)
def ji(s:aD):Bool:= !(decide (16<(s.cons.length:Int))||decide (12<(s.cL.length:Int)))&&fD s.cons&&fD s.cL
section
def kP(id:Nat)(K X:V->(Nat->ad)->Nat->Prop)(e:fk)(s:S):Prop:=
 match e with
 | .normal=>∃nf m en p c d st pd,s.o id= .loop nf m en p c d st pd/\K (.d (.bool true)) (az s.o id (.loop nf m en p c d .ready none)) s.nx
 | .ret=>∃nf m en p c d st pd,s.o id= .loop nf m en p c d st pd/\K (.d (.bool false)) (az s.o id (.loop nf m en p c d .done (some .ret))) s.nx
 | .exit j=>∃nf m en p c d st pd,s.o id= .loop nf m en p c d st pd/\K (.d (.bool false)) (az s.o id (.loop nf m en p c d .done (some (.exit j)))) s.nx
 | .bF v=>X v s.o s.nx
def Tu(P:Program)(n b id:Nat)(eR:IC)(K X:V->(Nat->ad)->Nat->Prop)(e:fk)(s:S):Prop:=
 match e with
 | .normal=>∃nf m en p c d pd,s.o id= .loop nf m en p c d .ready pd/\tY P n b true eR (kP id K X) ⟨s.env,az s.o id (.loop nf m en p c d .busy pd),s.nx⟩
 | .bF v=>X v s.o s.nx
 |_=>False
section
variable {P:Program}{M:Nat->Prop}{φ cA:Place}{H0:Hp}{w w0:World}{n:Nat}{s:S}{a:Act}{cx:Cx}
theorem BT{id:Nat}{x:ad}{s:S}(b8:id<s.nx)(j:Nat)(hu:(s.H.put [(id,x)]).us j):j<s.nx:=by
 simp only[dP]at hu
 rcases hu with hu|hu
 ·exact hu
 ·subst hu;exact b8
theorem vl{B:Nat->Prop}{H:Hp}{n:Nat}:∀ (ps:List Nat) (vs:List V) (us:List Value) (env:Nat->V) (tmps:Array Value),tmps.size=n->ps.length=vs.length->V.aC B φ H w vs us->ps.all (fun t=>decide (t<n))=true->(∀i,V.den B φ H w (env i) (tmps.getD i undef))->
 ((ps.zip us).foldl (fun tmps p=>tmps.setIfInBounds p.1 p.2) tmps).size=n/\∀i,V.den B φ H w (pq env ps vs i) (((ps.zip us).foldl (fun tmps p=>tmps.setIfInBounds p.1 p.2) tmps).getD i undef)
 |[],[],us,env,tmps,dK,_,hd,_,he=>by simp only[V.aC]at hd;subst hd;exact⟨dK,he⟩
 |[],v::vs,us,env,tmps,_,h,_,_,_=>by simp at h
 |t::ps,[],us,env,tmps,_,h,_,_,_=>by simp at h
 |t::ps,v::vs,us,env,tmps,dK,hl,hd,hp,he=>by
  obtain⟨u,us,rfl,h1,h2⟩:=hd
  simp only[List.all_cons,Bool.and_eq_true,decide_eq_true_eq]at hp
  simp only[List.zip_cons_cons,List.foldl_cons,pq]
  refine vl ps vs us (az env t v) (tmps.setIfInBounds t u) (by simp[dK]) (by simpa using hl) h2 hp.2 (fun i=> ?_)
  simp only[aH]
  by_cases hi:i=t
  ·subst hi
   have:(tmps.setIfInBounds i u).getD i undef=u:=by simp[Array.getD,dK,hp.1]
   rw[if_pos rfl,this];exact h1
  ·have:(tmps.setIfInBounds t u).getD i undef=tmps.getD i undef:=by
    exact Sk
   rw[if_neg hi,this];exact he i
theorem dB.vg (bn:P.follows .mixedOrders=true){id:Nat}{args:List V}{o:Nat->ad}{nx:Nat}{K X:V->(Nat->ad)->Nat->Prop}{env:List V}{ps:List Nat}{jr eR:IC}{st:LoopState}{pd:Option jR}
 (ho:o id= .loop P.funcs.size n env ps jr eR st pd) (b8:id<nx) (DZ:ps.all (fun t=>decide (t<n))=true) (hl:args.length=ps.length)
 (h:tY P n nx true jr (Tu P n nx id eR K X) ⟨pq (aX env) ps args,o,nx⟩):dB P id args o nx K X:=by
 refine⟨by rw[ho];rfl,fun M φ w vals b hH hd eB=> ?_⟩
 have aW:=hH.ok id
 simp only[aO,hp,ho]at aW
 obtain⟨b',r,h1,h2,h0,h3,h4,h5,h6,h7,h8,h9⟩:=aW
 rw[eB]at h1;simp at h1;subst h1
 have hlen:=V.aA _ _ hd
 have dK:vals.size=r.params.size:=by
  have:r.params.toList.length=ps.length:=by rw[h5]
  simp at hlen this;omega
 let tm:Array Value:=(ps.zip vals.toList).foldl (fun tmps p=>tmps.setIfInBounds p.1 p.2) r.tmps
 have ZL:(r.params.zip vals).foldl (fun tmps (p:Tmp×Value)=>tmps.setIfInBounds p.1 p.2) r.tmps=tm:=by
  rw[<- Array.foldl_toList,Array.toList_zip,h5]
 obtain⟨p1,p2⟩:=vl (B:=ao M φ (hp o nx)) (H:=hp o nx) (φ:=φ) (w:=w) ps args vals.toList (aX env) r.tmps h6 hl.symm hd DZ h9
 refine⟨r.fn,tm,r.assign,r.body, ?_,fun k=> ?_⟩
 ·simp only[Instr.yield,Sem.run_bind,kp h2,Result.andThen_ok,dK,ne_eq,not_true_eq_false,if_false,Sem.run_pure]
  rw[<- ZL]
 ·
   let s0:S:=⟨pq (aX env) ps args,o,nx⟩
   let a0:Act:={tmps:=tm,defers:=[]}
   have pg:b7 M φ (hp o nx) w n ⟨[],true⟩ φ s0 a0 w:=⟨hH,Trans.refl _ _ _,p1,⟨[],rfl,List.nodup_nil,fun _=>rfl,fun r hr=>by cases hr⟩,p2⟩
   have vm:∀ {aE s' a' w'},b7 M φ (hp o nx) w n ⟨[],true⟩ aE s' a' w'->a'.defers=[]:=by
    intro aE s' a' w' hs
    obtain⟨ms,g1,_,g3,_⟩:=hs.defers
    rw[g3 rfl]at g1;exact g1
   have ZM:∀ {aE s' a' w'} {nf m:Nat} {en:List V} {p:List Nat} {c d:IC} {st:LoopState} {pd:Option jR} (st':LoopState) (pd':Option jR),b7 M φ (hp o nx) w n ⟨[],true⟩ aE s' a' w'->s'.o id= .loop nf m en p c d st pd->
    ∃r',w'.heap[b]? =some (.loop r')/\r'.state=st/\r'.pending=pd.map jR.code/\
     b7 M φ (hp o nx) w n ⟨[],true⟩ aE ⟨s'.env,az s'.o id (.loop nf m en p c d st' pd'),s'.nx⟩ a' {w' with heap:=w'.heap.setIfInBounds b (.loop {r' with state:=st',pending:=pd'.map jR.code})}:=by
    intro aE s' a' w' nf m en p c d st pd st' pd' hs mo
    have SL:aE id= .pointer (some ⟨b,0,none⟩):=by
     have:=(hs.tr.rel.row id b8 (by show(s'.o id).cg=true;rw[mo];rfl)).2
     rw[this];exact eB
    have ZN:id<s'.nx:=hs.tr.rel.us id b8
    obtain⟨r',r1,r2,r3,r4,r5⟩:=xO (st':=st') (pd':=pd') hs.heap ZN (show s'.H.o id=_ from mo) SL
    exact⟨r',r1,r2,r3,eD hs r4 r5 rfl (BT ZN)⟩
   have ha:=hU (P:=P) (n:=n) (b:=nx) (rd:=true) bn r.assign _ _ s0 (fun _ _ h=>h) (by rw[h7];exact h)
   refine uV h0 (gD (gV (P:=P) (H0:=hp o nx) (b:=nx) (cx:=⟨[],true⟩) (ro:=some b) (fun id hu=>hu) (fun h=>by cases h) r.assign _ s0 φ a0 w ha pg) ?_)
   rintro e a1 w1 ⟨x,s1,iM,hq,nU,hm⟩
   cases e<;>cases x<;>first|(exact hm.elim)|skip
   ·
     obtain⟨nf,m,en,p,c,d,pd1,q1,q2⟩:=hq
     obtain⟨r',r1,r2,r3,Ft⟩:=ZM .busy pd1 nU q1
     have Tv:(Instr.beginRound b).run P w1= .ok () {w1 with heap:=w1.heap.setIfInBounds b (.loop {r' with state:= .busy,pending:=pd1.map jR.code})}:=by
      have e1:({r' with state:= .busy}:Loop)={r' with state:= .busy,pending:=pd1.map jR.code}:=by rw[<- r3]
      simp only[Instr.beginRound,Sem.run_bind,kp r1,Result.andThen_ok,iQ _ r1,r2,Sem.run_pure,e1]
     refine⟨_,Tv, ?_⟩
     have aY:=Ft.heap.ok id
     simp only[aO,S.H,aH,if_true]at aY
     obtain⟨b2,r2',_,_,_,_,_,_,_,_,_,_⟩:=aY
     have hb:=hU (P:=P) (n:=n) (b:=nx) (rd:=true) bn r.body _ _ _ (fun _ _ h=>h) (by rw[h8];exact q2)
     refine gD (gV (P:=P) (H0:=hp o nx) (b:=nx) (cx:=⟨[],true⟩) (ro:=some b) (fun id hu=>hu) (fun h=>by cases h) r.body _ _ iM a1 _ hb Ft) ?_
     rintro e a2 w2 ⟨x,s2,Hh,VS,Fu,Mf⟩
     have fin:∀ {nf m:Nat} {en:List V} {p:List Nat} {c d:IC} {st:LoopState} {pd:Option jR} (jump:Option jR) (t:Bool) (st':LoopState),t=jump.isNone->st'=(if jump.isNone then .ready else .done)->s2.o id= .loop nf m en p c d st pd->K (.d (.bool t)) (az s2.o id (.loop nf m en p c d st' jump)) s2.nx->
      ∃v w',(Instr.endRound b (jump.map jR.code)).run P w2= .ok v w'/\mU M φ (hp o nx) w K X (.returned v) w':=by
      intro nf m en p c d st pd jump t st' ht jS ZO hK
      obtain⟨r3',g1,g2,g3,VT⟩:=ZM st' jump Fu ZO
      refine⟨.bool t,_, ?_,Hh,_,_,_,VT.heap,VT.tr,by simp only[V.den,D.den],hK⟩
      subst ht;subst jS
      simp only[Instr.endRound,Sem.run_bind,kp g1,Result.andThen_ok,iQ _ g1,Sem.run_pure,Option.isNone_map]
     cases e<;>cases x<;>first|(exact Mf.elim)|skip
     ·obtain⟨nf,m,en,p,c,d,st,pd,k1,k2⟩:=VS
      exact fin none true .ready rfl rfl k1 k2
     ·rename_i j
      subst Mf
      obtain⟨nf,m,en,p,c,d,st,pd,k1,k2⟩:=VS
      exact fin (some (.exit _)) false .done rfl rfl k1 k2
     ·obtain⟨nf,m,en,p,c,d,st,pd,k1,k2⟩:=VS
      exact fin (some .ret) false .done rfl rfl k1 k2
     ·obtain⟨val,rfl,k2⟩:=Mf
      exact⟨vm Fu,Hh,_,_,_,Fu.heap,Fu.tr,val,rfl,k2,VS⟩
   ·exact hq.elim
   ·exact hq.elim
   ·obtain⟨val,rfl,k2⟩:=hm
    exact⟨vm nU,iM,_,_,_,nU.heap,nU.tr,val,rfl,k2,hq⟩
end
end
section
def Tw(ops:Array Oper)(t t1:Nat):Prop:=
 (∃o1 o2,ops=#[o1,o2]/\o1.op= .call ⟨.builtin .recover,#[],#[]⟩/\o1.dst=some t/\o1.guard=none/\o2.op= .assign (.tmp t)/\o2.dst=some t1/\o2.guard=none)\/
 (∃o1,ops=#[o1]/\t1=t/\o1.op= .call ⟨.builtin .recover,#[],#[]⟩/\o1.dst=some t/\o1.guard=none)
structure BU (P:Program) (g:FuncId) (n t t1:Nat) (ic:IC):Prop where
 get:∃fn id ops c,P.funcs[g]? =some fn/\(fn.name== "runtime.NumGoroutine")=false/\fn.ntmps=n/\fn.results=#[]/\fn.body=some (.seq (.region id ops false) c)/\
  Tw ops t t1/\t<n/\t1<n/\low n c=ic
structure FK (P:Program) (f:FuncId) (n:Nat) (jr eR:IC) (g:FuncId) (t:Nat) (bI:List Operand) (rs:List ResultVar):Prop where
 get:∃fn id o1 o2 a b d,P.funcs[f]? =some fn/\(fn.name== "runtime.NumGoroutine")=false/\fn.ntmps=n/\fn.results.toList=rs/\fn.body=some (.seq a d)/\(d= .seq (.region id #[o1,o2] false) b\/d= .scope (.seq (.region id #[o1,o2] false) b))/\
  o1.op= .makeFunc (.func g) #[] bI.toArray/\o1.dst=some t/\o1.guard=none/\o2.op= .defer ⟨.value (.tmp t),#[],#[]⟩/\o2.dst=none/\o2.guard=none/\t<n/\low n a=jr/\low n b=eR
def HB(K:(Nat->ad)->Nat->Prop)(e:fk)(s:S):Prop:=match e with| .normal| .ret=>K s.o s.nx|_=>False
def D0(P:Program)(n t t1:Nat)(ic:IC)(bI:List V)(u:V)(o:Nat->ad)(nx:Nat)(K:(Nat->ad)->Nat->Prop):Prop:=
 bI.length<=n/\tY P n nx true ic (HB K) ⟨az (az (cj bI) t u) t1 u,o,nx⟩
def zE(P:Program)(n t t1:Nat)(ic:IC)(bI:List V)(rs:List ResultVar)(K X:V->(Nat->ad)->Nat->Prop)(e:fk)(s:S):Prop:=
 match e with
 | .normal| .ret=>D0 P n t t1 ic bI (.d .eF) s.o s.nx fun o nx=>lX P rs K X .ret ⟨s.env,o,nx⟩
 | .bF v=>D0 P n t t1 ic bI v s.o s.nx fun o nx=>lX P rs K X .ret ⟨s.env,o,nx⟩
 | .exit _=>False
def BV(P:Program)(n t:Nat)(eR:IC)(eW:List Operand)(g:FuncId)(D:List V->fk->S->Prop)(e:fk)(s:S):Prop:=
 match e with
 | .normal=>tY P n s.nx false eR (D (eW.map s.ev)) ⟨az s.env t (.func (.func g) [] (eW.map s.ev)),s.o,s.nx⟩
 |_=>False
section
variable {P:Program}{M:Nat->Prop}{φ cA:Place}{H H0:Hp}{w w0:World}{n:Nat}{s:S}{a:Act}{cx:Cx}{k:Nat}
theorem HC(bn:P.follows .mixedOrders=true){g:FuncId}{t t1:Nat}{ic:IC}(hg:BU P g n t t1 ic){bI:List V}{u:V}{o:Nat->ad}{nx:Nat}{K:(Nat->ad)->Nat->Prop}(h:D0 P n t t1 ic bI u o nx K)
 {vals:Array Value} {val:Value} {m:FrameMode} (hH:ax M φ (hp o nx) w) (hd:V.aC (ao M φ (hp o nx)) φ (hp o nx) w bI vals.toList) (hv:V.den (ao M φ (hp o nx)) φ (hp o nx) w u val)
 (hm:(m= .returning/\val= .nilIface)\/m= .panicking [{v:=val,recovered:=false}]):
 CallsDIn (dG none) k P g vals m w fun e u' w'=>∃v aE o' nx',e= .returned v/\settle u'= .returning/\ax M aE (hp o' nx') w'/\Trans φ (hp o nx) w aE (hp o' nx') w'/\K o' nx':=by
 obtain⟨fn,id,ops,c,hf,Qr,II,Bk,qs,Jk,ht,C6,rN⟩:=hg.get
 have b8:g<P.funcs.size:=(Array.getElem?_eq_some_iff.1 hf).1
 obtain⟨re,h⟩:=h
 have hlen:=V.aA _ _ hd
 refine⟨trivial,fun px cs Kc PC=> ?_⟩
 let b:Frame:={(default:Frame)with fn:=g,kind:= .deferred,roundOf:=none}
 let ud:Array Value:=vals++Array.replicate (fn.ntmps - vals.size) undef
 have ady:ud.size=n:=by simp only[ud,Array.size_append,Array.size_replicate];simp at hlen;omega
 have lW:Frame.enter P g vals .deferred=b.atR {tmps:=ud,defers:=[]} [.code (.seq (.region id ops false) c)]:=by
  simp[Frame.enter,Frame.atR,hf,qs,b,ud]
 obtain⟨m',hm',aY⟩:∃m',settle m'= .returning/\((recoverD (px::cs)=none/\m'=m/\val= .nilIface)\/recoverD (px::cs)=some (val,{px with mode:=m'}::cs)):=by
  rcases hm with⟨rfl,rfl⟩|rfl
  ·exact⟨.returning,rfl, .inl ⟨by simp[recoverD,Kc],rfl,rfl⟩⟩
  ·exact⟨.panicking [{v:=val,recovered:=true}],rfl, .inr (by simp[recoverD,Kc])⟩
 have PA:({px with mode:=m}:Frame)=px:=by subst Kc;rfl
 let a1:Act:={tmps:=(ud.setIfInBounds t val).setIfInBounds t1 val,defers:=[]}
 have M7:(Code.region id ops false).wpSIn (dG none) k P (fun e a' cs' w'=>e= .normal/\a'=a1/\cs'={px with mode:=m'}::cs/\w'=w) {tmps:=ud,defers:=[]} (px::cs) w:=by
  rcases Jk with⟨o1,o2,rfl,e1,e2,e3,e4,e5,e6⟩|⟨o1,rfl,rfl,e1,e2,e3⟩
  ·refine wpSIn_region ?_
   have hr:List.range (#[o1,o2]:Array Oper).size=[0,1]:=rfl
   have g0:(#[o1,o2]:Array Oper)[0]? =some o1:=rfl
   have g1:(#[o1,o2]:Array Oper)[1]? =some o2:=rfl
   rw[hr]
   have x1:∀ (ρ:Operand->Value) (w:World),(execOp ρ o1).run P w= .ok .recover w:=by
    intro ρ w
    simp[execOp,e1,resolve,invoke,builtin]
   have x2:∀ (ρ:Operand->Value) (w:World),(execOp ρ o2).run P w= .ok (.value (ρ (.tmp t))) w:=by
    intro ρ w
    simp[execOp,e4]
   have last:∀cs',cs'={px with mode:=m'}::cs->wpOpsSIn (dG none) k P #[o1,o2] (fun e a' cs' w'=>e= .normal/\a'=a1/\cs'={px with mode:=m'}::cs/\w'=w) [1] (({tmps:=ud,defers:=[]}:Act).put (some t) val) cs' w:=by
    rintro cs' rfl
    have hw:Region.wanted o2 (yielded #[o1,o2] (({tmps:=ud,defers:=[]}:Act).put (some t) val).tmps)=true:=by simp[Region.wanted,e6]
    have da:(({tmps:=ud,defers:=[]}:Act).put (some t) val).eval (.tmp t)=val:=by
     have:t<ud.size:=af
     simp[Act.put,Act.eval,Array.getD,this]
    simp only[wpOpsSIn,g1,hw,if_true,x2,da,e5]
    refine⟨fun _ _=>trivial, ?_⟩
    simp[a1,Act.put]
   have hw:Region.wanted o1 (yielded #[o1,o2] ud)=true:=by simp[Region.wanted,e3]
   rw[wpOpsSIn,g0]
   refine⟨fun _ _=>trivial, ?_⟩
   simp only[hw,if_true,x1,e2]
   rcases aY with⟨hr,rfl,rfl⟩|hr
   ·simp only[hr]
    exact last _ (by rw[PA])
   ·simp only[hr]
    exact last _ rfl
  ·refine wpSIn_region ?_
   have hr:List.range (#[o1]:Array Oper).size=[0]:=rfl
   have g0:(#[o1]:Array Oper)[0]? =some o1:=rfl
   rw[hr]
   have x1:∀ (ρ:Operand->Value) (w:World),(execOp ρ o1).run P w= .ok .recover w:=by
    intro ρ w
    simp[execOp,e1,resolve,invoke,builtin]
   have same:a1=({tmps:=ud,defers:=[]}:Act).put (some t1) val:=by
    simp only[a1,Act.put]
    congr 1
    apply Array.ext_getElem?
    intro j
    simp only[Array.getElem?_setIfInBounds]
    by_cases hj:t1=j
    ·subst hj;simp
    ·simp[hj]
   have last:∀cs',cs'={px with mode:=m'}::cs->wpOpsSIn (dG none) k P #[o1] (fun e a' cs' w'=>e= .normal/\a'=a1/\cs'={px with mode:=m'}::cs/\w'=w) [] (({tmps:=ud,defers:=[]}:Act).put (some t1) val) cs' w:=by
    rintro cs' rfl
    simp only[wpOpsSIn]
    exact⟨trivial,same.symm,trivial,trivial⟩
   have hw:Region.wanted o1 (yielded #[o1] ud)=true:=by simp[Region.wanted,e3]
   rw[wpOpsSIn,g0]
   refine⟨fun _ _=>trivial, ?_⟩
   simp only[hw,if_true,x1,e2]
   rcases aY with⟨hr,rfl,rfl⟩|hr
   ·simp only[hr]
    exact last _ (by rw[PA])
   ·simp only[hr]
    exact last _ rfl
 obtain⟨er,ar,csr,wr,hl,⟨rfl,rfl,rfl,hwr⟩,c7⟩:=M7 b [.code c] rfl rfl trivial (fun d hd=>by simp[dG]at hd)
 rw[hwr]at c7
 let s0:S:=⟨az (az (cj bI) t u) t1 u,o,nx⟩
 have pg:b7 M φ (hp o nx) w n ⟨[],true⟩ φ s0 a1 w:=by
  refine⟨hH,Trans.refl _ _ _,by simp[a1,ady],⟨[],rfl,List.nodup_nil,fun _=>rfl,fun r hr=>by cases hr⟩,fun i=> ?_⟩
  have dW:=AH (m:=fn.ntmps - vals.size) hd i
  simp only[s0,a1,aH]
  have ht0:t<ud.size:=af
  have adz:t1<ud.size:=af
  by_cases h1:i=t1
  ·subst h1
   simp only[if_true]
   have:((ud.setIfInBounds t val).setIfInBounds i val).getD i undef=val:=by simp[Array.getD,adz]
   rw[this];exact hv
  ·simp only[h1,if_false]
   have e1:((ud.setIfInBounds t val).setIfInBounds t1 val).getD i undef=(ud.setIfInBounds t val).getD i undef:=by
    exact O8
   rw[e1]
   by_cases h2:i=t
   ·subst h2
    simp only[if_true]
    have:(ud.setIfInBounds i val).getD i undef=val:=by simp[Array.getD,ht0]
    rw[this];exact hv
   ·simp only[h2,if_false]
    have e1:(ud.setIfInBounds t val).getD i undef=ud.getD i undef:=by
     simp only[Array.getD_eq_getD_getElem?]
     rw[Array.getElem?_setIfInBounds_ne (Ne.symm h2)]
    rw[e1];exact dW
 have hcw:=hU (P:=P) (n:=n) (b:=nx) (rd:=true) bn c _ _ s0 (fun _ _ h=>h) (by rw[rN];exact h)
 obtain⟨e,a',w',⟨x,s',aE,hq,jT,hx⟩,Fs⟩:=gV (P:=P) (H0:=hp o nx) (b:=nx) (cx:=⟨[],true⟩) (ro:=none) (fun id hu=>hu) (fun h=>by cases h) c _ s0 φ a1 w hcw pg b [] ({px with mode:=m'}::cs) rfl b8
 have i0:(lone (b.atR {tmps:=ud,defers:=[]} [.code (.seq (.region id ops false) c)]) (px::cs) w).fenced P (dG none):=fenced_calm (n:=0) trivial gC rfl
 have Qs:StepsIn (Machine.fenced P (dG none)) P (lone (b.atR {tmps:=ud,defers:=[]} [.code (.seq (.region id ops false) c)]) (px::cs) w) (lone (b.atR a1 [.code c]) ({px with mode:=m'}::cs) w):= .head i0 stepR_seq c7
 have vm:a'.defers=[]:=by
  obtain⟨ms,g1,_,g3,_⟩:=jT.defers
  rw[g3 rfl]at g1;exact g1
 have ZP:∀tm:Array Value,∃v,(results fn tm).run P w'= .ok v w':=by
  intro tm
  refine⟨_,mY (vals:=[]) ?_⟩
  rw[Bk];rfl
 rw[lW]
 obtain⟨v,pN⟩:=ZP a'.tmps
 cases e<;>cases x<;>first|(exact hx.elim)|(exact hq.elim)|skip
 ·exact⟨.returned v,m',w',_,⟨v,aE,s'.o,s'.nx,rfl,hm',jT.heap,jT.tr,hq⟩,StepsIn.trans Qs (StepsIn.trans Fs (.one (fenced_calm (n:=0) (fr:=b.atR a' []) trivial gC rfl) (stepR_end rfl))),rfl,rfl,rfl,vm,fn,hf,pN⟩
 ·obtain⟨todo,hs⟩:=Fs.1 rfl
  exact⟨.returned v,m',w',_,⟨v,aE,s'.o,s'.nx,rfl,hm',jT.heap,jT.tr,hq⟩,StepsIn.trans Qs hs,rfl,rfl,rfl,vm,fn,hf,pN⟩
theorem BW{d c:Code}{ro:Option Nat}{Q:Exit->Act->World->Prop}{a:Act}{w:World}(h:d=c\/d= .scope c)(hg:∀l a w, ¬Q (.goto l) a w)(hc:c.tF P ro Q a w):d.tF P ro Q a w:=by
 rcases h with rfl|rfl
 ·exact hc
 ·exact xM hc hg
theorem cI.BX (bn:P.follows .mixedOrders=true){f g:FuncId}{jr eR x6:IC}{t m r r1:Nat}{eW:List Operand}{rs:List ResultVar}(hf:FK P f n jr eR g t eW rs)(hg:BU P g m r r1 x6)
 {args:List V} {o:Nat->ad} {nx:Nat} {K X:V->(Nat->ad)->Nat->Prop} (hl:args.length<=n)
 (h:tY P n nx true jr (BV P n t eR eW g fun bI=>zE P m r r1 x6 bI rs K X) ⟨cj args,o,nx⟩):cI P f args o nx K X:=by
 obtain⟨fn,id,o1,o2,ca,cb,cd,AD,Qr,II,Bk,qs,hsc,e1,e2,e3,e4,e5,e6,ht,hla,VP⟩:=hf.get
 obtain⟨gn,_,_,gc,rV,Tx,_,_,Ty,_⟩:=hg.get
 refine⟨⟨fn,AD,Qr,by rw[qs];rfl⟩,fun M φ w vals hH hd=> ?_⟩
 have hlen:=V.aA _ _ hd
 let s0:S:=⟨cj args,o,nx⟩
 let a0:Act:={tmps:=vals++Array.replicate (fn.ntmps - vals.size) undef,defers:=[]}
 have pg:b7 M φ (hp o nx) w n ⟨[],true⟩ φ s0 a0 w:=by
  exact Yt
 have ha:=hU (P:=P) (n:=n) (b:=nx) (rd:=true) bn ca _ _ s0 (fun _ _ h=>h) (by rw[hla];exact h)
 refine Bf (ro:=none) (k:=0) (mZ AD qs (yZ (gD (gV (P:=P) (H0:=hp o nx) (b:=nx) (cx:=⟨[],true⟩) (ro:=none) (fun id hu=>hu) (fun h=>by cases h) ca _ s0 φ a0 w ha pg) ?_)))
 rintro e a1 w1 ⟨x,s1,iM,hq,nU,hm⟩
 cases e<;>cases x<;>first|(exact hm.elim)|(exact hq.elim)|skip
 have vm:a1.defers=[]:=by
  obtain⟨ms,g1,_,g3,_⟩:=nU.defers
  rw[g3 rfl]at g1;exact g1
 let cv:Array Value:=(eW.map a1.eval).toArray
 let fv:Value:= .func (.func g) #[] cv
 let dd:Deferred:={target:= .fn (.func g) cv,args:=#[]}
 let a2:Act:={tmps:=a1.tmps.setIfInBounds t fv,defers:=[dd]}
 have Qt:V.aC (ao M iM s1.H) iM s1.H w1 (eW.map s1.ev) cv.toList:=by
  simpa[cv]using j9 (M:=M) (φ:=iM) (H:=s1.H) (w:=w1) s1 a1 nU.env eW
 refine BW hsc (fun l a w h=> ?_) ?_
 ·exact h.elim
 refine yZ (gD (Q:=fun e a w=>e= .normal/\a=a2/\w=w1) (pf (k:=0) (wpIn_region_list ?_)) ?_)
 ·have y1:Region.wanted o1 (yielded #[o1,o2] a1.tmps)=true:=by simp[Region.wanted,e3]
  have y2:∀tm,Region.wanted o2 (yielded #[o1,o2] tm)=true:=by intro tm;simp[Region.wanted,e6]
  have da:(a1.put (some t) fv).eval (.tmp t)=fv:=by
   have:t<a1.tmps.size:=by rw[nU.size];exact ht
   simp[Act.put,Act.eval,Array.getD,this]
  show wpListIn (dG none) 0 P #[o1,o2] _ [o1,o2] a1 w1
  unfold wpListIn
  rw[if_pos y1]
  have x1:(execOp a1.eval o1).run P w1= .ok (.value fv) w1:=by simp[execOp,e1,fv,cv,Instr.makeFunc]
  refine kn (fun c hc=>by rw[e1]at hc;cases hc) ?_
  rw[x1]
  show wpListIn (dG none) 0 P #[o1,o2] _ [o2] (a1.put o1.dst fv) w1
  rw[e2]
  unfold wpListIn
  rw[if_pos (y2 _)]
  have x2:(execOp (a1.put (some t) fv).eval o2).run P w1= .ok (.defer dd) w1:=by
   simp[execOp,e4,resolve,da,Deferred.ofValue,fv,dd]
  refine⟨fun _ _=>trivial, ?_⟩
  have:(o2.semAt (dG none).round (a1.put (some t) fv).eval)=execOp (a1.put (some t) fv).eval o2:=rfl
  rw[this,x2]
  unfold Oper.uponIn
  simp only[e5,wpListIn,Act.put,vm,a2,and_self]
 rintro e a w2 ⟨rfl,rfl,rfl⟩
 have C6:t<a1.tmps.size:=by rw[nU.size];exact ht
 let s2:S:=⟨az s1.env t (.func (.func g) [] (eW.map s1.ev)),s1.o,s1.nx⟩
 have Ft:b7 M iM s1.H w2 n ⟨[dd],false⟩ iM s2 a2 w2:=by
  refine⟨nU.heap,Trans.refl _ _ _,by simp[a2,nU.size],⟨[],rfl,List.nodup_nil,fun _=>rfl,fun r hr=>by cases hr⟩,fun i=> ?_⟩
  simp only[s2,a2,aH]
  by_cases h1:i=t
  ·subst h1
   have:(a1.tmps.setIfInBounds i fv).getD i undef=fv:=by simp[Array.getD,C6]
   simp only[if_true];rw[this]
   exact⟨#[],cv,rfl,rfl,Qt⟩
  ·have:(a1.tmps.setIfInBounds t fv).getD i undef=a1.tmps.getD i undef:=by
    exact O8
   simp only[h1,if_false];rw[this]
   exact nU.env i
 have hb:=hU (P:=P) (n:=n) (b:=s1.nx) (rd:=false) bn cb _ _ s2 (fun _ _ h=>h) (by rw[VP];exact hq)
 refine gD (gV (P:=P) (H0:=s1.H) (b:=s1.nx) (cx:=⟨[dd],false⟩) (ro:=none) (fun id hu=>hu) (fun _=>rfl) cb _ s2 iM a2 w2 hb Ft) ?_
 rintro e a3 w3 ⟨x,s3,ZQ,hq3,Fu,An⟩
 obtain⟨ms,g1,g2,_,g4⟩:=Fu.defers
 have hinv:(invoke dd.target dd.args).run P=fun w=> .ok (.enter g cv) w:=by
  funext w
  have:=lq (w:=w) ⟨gn,rV,Tx,by rw[Ty];rfl⟩ cv
  simpa[dd,invoke]using this
 have last:∀ {w4:World} {tm:Array Value} {u:V} {val:Value} {m0:FrameMode},m0≠ .run->y9 M iM s1.H w2 ZQ s3 a3.tmps w4->V.den (ao M ZQ s3.H) ZQ s3.H w4 u val->
  ((m0= .returning/\val= .nilIface)\/m0= .panicking [{v:=val,recovered:=false}])->
  (D0 P m r r1 x6 (eW.map s1.ev) u s3.o s3.nx fun o nx=>lX P rs K X .ret ⟨s3.env,o,nx⟩)->
  LeavesInM (dG none) 0 P fn a3.tmps (mU M φ (hp o nx) w K X) [dd] m0 w4:=by
  intro w4 tm u val m0 eU hB Jw hm0 aY
  have Tz:=V.aT hB.tr _ _ Qt
  refine⟨eU, .inr ⟨fun h=>by simp[dG]at h, .func g,cv,g,cv,rfl,by rw[hinv],fun _ _=>trivial,CallsDIn.mono (HC (k:=0 - 1) bn hg aY (m:=m0) hB.heap Tz Jw hm0) ?_⟩⟩
  rintro e u' w5 ⟨v,φ5,o5,nx5,rfl,adA,k1,k2,k3⟩
  show LeavesInM (dG none) 0 P fn a3.tmps (mU M φ (hp o nx) w K X) [] (settle u') w5
  rw[adA]
  obtain⟨vs,h1,h2⟩:=Bm k3
  rw[<- Bk]at h1
  have ZR:∀i,V.den (ao M φ5 (hp o5 nx5)) φ5 (hp o5 nx5) w5 (s3.env i) (a3.tmps.getD i undef):=fun i=>V.aS k2 _ _ (hB.env i)
  obtain⟨aeJ,h3,h4⟩:=tX (P:=P) (s:=⟨s3.env,o5,nx5⟩) (a:=a3) k1 ZR _ _ h1
  exact⟨_,mY h3,φ5,o5,nx5,_,k1,nU.tr.trans (hB.tr.trans k2),Bn h4,h2⟩
 have done:D0 P m r r1 x6 (eW.map s1.ev) (.d .eF) s3.o s3.nx (fun o nx=>lX P rs K X .ret ⟨s3.env,o,nx⟩)->LeavesInM (dG none) 0 P fn a3.tmps (mU M φ (hp o nx) w K X) a3.defers .returning w3:=by
  intro aY
  rw[g1]
  exact gE (P:=P) (k:=0) (fn:=fn) (R:=mU M φ (hp o nx) w K X) (u:= .returning) aF (ds:=[dd]) (fun w4 hB=>last (tm:=a3.tmps) aF hB (u:= .d .eF) (val:= .nilIface) (by simp[V.den,D.den]) (.inl ⟨rfl,rfl⟩) aY) ms w3 g2 g4 Fu.toB
 cases e<;>cases x<;>first|(exact An.elim)|skip
 ·exact done hq3
 ·exact hq3.elim
 ·exact done hq3
 ·rename_i v
  obtain⟨val,rfl,M0⟩:=An
  show LeavesInM (dG none) 0 P fn a3.tmps (mU M φ (hp o nx) w K X) a3.defers _ w3
  rw[g1]
  let ZS:Nat->V:=fun i=>match i with|0=>v|i+1=>s3.env i
  have ZT:(#[val]++a3.tmps).getD 0 undef=val:=by simp[Array.getD]
  have ZU:∀i,(#[val]++a3.tmps).getD (i+1) undef=a3.tmps.getD i undef:=by
   intro i
   simp only[Array.getD_eq_getD_getElem?]
   rw[Array.getElem?_append_right (by simp)]
   simp
  have Y4:y9 M iM s1.H w2 ZQ ⟨ZS,s3.o,s3.nx⟩ (#[val]++a3.tmps) w3:=⟨Fu.heap,Fu.tr,fun i=>by
   cases i with
   |zero=>rw[ZT];exact M0
   |succ i=>rw[ZU];exact Fu.env i⟩
  have ZV:∀w4,y9 M iM s1.H w2 ZQ ⟨ZS,s3.o,s3.nx⟩ (#[val]++a3.tmps) w4->LeavesInM (dG none) 0 P fn a3.tmps (mU M φ (hp o nx) w K X) [dd] (.panicking [{v:=val,recovered:=false}]) w4:=by
   intro w4 hB
   have hv4:=hB.env 0
   rw[ZT]at hv4
   refine last (tm:=a3.tmps) aF ⟨hB.heap,hB.tr,fun i=> ?_⟩ hv4 (.inr rfl) hq3
   have hs:=hB.env (i+1)
   rw[ZU]at hs
   exact hs
  exact gE (P:=P) (k:=0) (fn:=fn) (R:=mU M φ (hp o nx) w K X) (u:= .panicking [{v:=val,recovered:=false}]) aF (ds:=[dd]) ZV ms w3 g2 g4 Y4
end
end
theorem DK.TA {P:Program}{g:FuncId}{ds:List D}{o:Nat->ad}{fr:Nat}{ty:TypeId}{sz:Nat}{es:List D}
 (h:cI P g (ds.map .d) (fun _=> .no) 0 (fun v o1 _=>(∃j ep,v= .osl j ep/\o1 j= .arr ep ty sz es)\/(v= .aJ/\es=[]/\0<sz)) (fun _ _ _=>False)):
 DK P g (ds.map .d) [] o fr (.osl fr 0) [(fr, .arr 0 ty sz es)]:=by
 refine⟨h.1,fun o' us M φ w vals _ c8 hH hd=> ?_⟩
 let cA:Place:=fun _=> .nilFunc
 have wA:∀b, ¬cD cA (hp (fun _=> .no) 0) b:=by rintro b ⟨id,hl,_⟩;simp[hp,ad.live]at hl
 have hM:∀b,ao M φ ⟨o',us⟩ b->b<w.heap.size:=fun b hb=>hb.elim (hH.Ak b) fun hl=>(hH.ours b hl).2
 have xz:=(V.cw _ _).1 hd
 refine(h.2 (ao M φ ⟨o',us⟩) cA w vals (nV cA hM) ((V.cw _ _).2 (D.aT (w:=w) (w':=w) (B:=ao M φ ⟨o',us⟩) (fun b _ hB=>⟨rfl,fun h=>h.elim hB (wA b)⟩) _ _ xz))).mono ?_
 rintro e w' ⟨iM,o1,n1,v,k1,k2,k3⟩
 have hk:dV (fun _=>False) w w':=⟨k2.cu.os,k2.cu.tape,k2.cu.output,k2.cu.size,fun k hk _=>k2.cu.block k hk (wA k)⟩
 have uy:(⟨o',us⟩:Hp).put [(fr, .arr 0 ty sz es)]=⟨put o' [(fr, .arr 0 ty sz es)],fun id=>us id\/id=fr⟩:=by
  simp only[Hp.put]
  congr 1
  funext id
  simp
 have fin:∀ (val:Value) (xs:List Value),(∀b,dT val=some b->w.heap.size<=b/\b<w'.heap.size)->0<sz->w'.ownsRow 0 ty sz val es.length xs->
  (eh (ao M (az φ fr val) ((⟨o',us⟩:Hp).put [(fr, .arr 0 ty sz es)])) w' sz es xs)->
  val.oneCell'=true->
  ∃aE,ax M aE ⟨put o' [(fr, .arr 0 ty sz es)],fun id=>us id\/id=fr⟩ w'/\Trans φ ⟨o',us⟩ w aE ⟨put o' [(fr, .arr 0 ty sz es)],fun id=>us id\/id=fr⟩ w'/\
   ∃Kd,Ending.returned val= .returned Kd/\V.den (ao M aE ⟨put o' [(fr, .arr 0 ty sz es)],fun id=>us id\/id=fr⟩) aE ⟨put o' [(fr, .arr 0 ty sz es)],fun id=>us id\/id=fr⟩ w' (.osl fr 0) Kd:=by
  intro val xs jv dK du cz TC
  have qq:=iz hH hk c8 (.arr 0 ty sz es) val jv (by
   unfold aO
   rw[show((⟨o',us⟩:Hp).put [(fr, .arr 0 ty sz es)]).o fr= .arr 0 ty sz es by simp]
   refine⟨dK,xs, ?_,cz⟩
   rw[show az φ fr val fr=val by simp]
   exact du)
  have Qu:=dz (φ:=φ) (H:=⟨o',us⟩) hk c8 (.arr 0 ty sz es) val (fun b hb=>(jv b hb).1)
  rw[uy]at qq Qu
  refine⟨az φ fr val,qq,Qu,val,rfl,TC, .inr rfl,fun e he=> ?_⟩
  have pM:0=e:=by
   have:(put o' [(fr,ad.arr 0 ty sz es)] fr).cf=some 0:=by simp[put,ad.cf]
   exact Yg
  exact⟨af,fun _=>aF⟩
 cases e with
 |outgrown=>exact k3.elim
 |panicked ch=>obtain⟨_,_,_,h⟩:=k3;exact h.elim
 |returned val=>
  obtain⟨g1,⟨j,ep,rfl,hj⟩|⟨rfl,rfl,dK⟩⟩:=k3
  ·obtain⟨v0,v1,v2⟩:=g1
   have fi:val=iM j:=(v2 ep (by show(o1 j).cf=some ep;rw[hj];rfl)).2 rfl
   have cH:∀b,dT val=some b->cD iM (hp o1 n1) b:=fun b hb=>⟨j,by show(o1 j).live=true;rw[hj];rfl,by rw[<- fi];exact hb⟩
   have jv:∀b,dT val=some b->w.heap.size<=b/\b<w'.heap.size:=fun b hb=>⟨(k2.grow b (cH b hb)).resolve_left (wA b),(k1.ours b (cH b hb)).2⟩
   have Ke:=k1.ok j
   unfold aO at Ke
   rw[show(hp o1 n1).o j= .arr ep ty sz es from hj]at Ke
   obtain⟨dK,xs,du,cz⟩:=Ke
   have hBs:∀b,ao M (az φ fr val) ((⟨o',us⟩:Hp).put [(fr, .arr 0 ty sz es)]) b->ao (ao M φ ⟨o',us⟩) iM (hp o1 n1) b:=by
    rintro b (hb|⟨id,hl,hb⟩)
    ·exact .inl (.inl hb)
    ·by_cases e:id=fr
     ·subst e
      simp at hb
      exact .inr (cH b hb)
     ·simp[e]at hl hb
      exact .inl (.inr ⟨id,hl,hb⟩)
   exact fin val xs jv dK (by rw[fi];exact du) (cz.mono (w:=w') (w':=w') (fun b _ hB=>⟨rfl,fun h=>hB (hBs b h)⟩)) v0
  ·have g1:val= .slice none 0 0:=g1
   subst g1
   exact XC
theorem DK.Np {P:Program}{g:FuncId}{args:List V}{ds:List D}{o:Nat->ad}{fr:Nat}{ty:TypeId}{sz:Nat}{es:List D}
 (eP:bZ o args=some ds) (mJ:D.jB es=true) (h:cI P g (ds.map .d) (fun _=> .no) 0 (fun v o1 _=>(∃j ep,v= .osl j ep/\o1 j= .arr ep ty sz es)\/(v= .aJ/\es=[]/\0<sz)) (fun _ _ _=>False)):
 DK P g args (V.br args) o fr (.osl fr 0) [(fr, .arr 0 ty sz es)]:=by
 refine⟨h.1,fun o' us M φ w vals hag c8 hH hd=> ?_⟩
 obtain⟨f1,f2,f3,f4,f5⟩:=cQ hH (V.br args) (fun id au=>(hag id au).2)
 generalize hHF:(⟨o',us⟩:Hp).put (bL (⟨o',us⟩:Hp).o (V.br args))=HF at f1 f2 f3
 let cA:Place:=fun _=> .nilFunc
 have wA:∀b, ¬cD cA (hp (fun _=> .no) 0) b:=by rintro b ⟨id,hl,_⟩;simp[hp,ad.live]at hl
 have hM:∀b,ao M φ HF b->b<w.heap.size:=fun b hb=>hb.elim (f1.Ak b) fun hl=>(f1.ours b hl).2
 have xz:D.aC (ao M φ HF) w ds vals.toList:=df f1 args ds _ (fun id au=>by rw[f3 id au];show(o' id).fz=(o id).fz;rw[(hag id au).1]) eP (V.aT f2 _ _ hd)
 refine(h.2 (ao M φ HF) cA w vals (nV cA hM) ((V.cw _ _).2 (D.aT (w:=w) (w':=w) (B:=ao M φ HF) (fun b _ hB=>⟨rfl,fun h=>h.elim hB (wA b)⟩) _ _ xz))).mono ?_
 rintro e w' ⟨iM,o1,n1,v,k1,k2,k3⟩
 have hk:dV (fun _=>False) w w':=⟨k2.cu.os,k2.cu.tape,k2.cu.output,k2.cu.size,fun k hk _=>k2.cu.block k hk (wA k)⟩
 have uy:(⟨o',us⟩:Hp).put [(fr, .arr 0 ty sz es)]=⟨put o' [(fr, .arr 0 ty sz es)],fun id=>us id\/id=fr⟩:=by
  simp only[Hp.put]
  congr 1
  funext id
  simp
 have fin:∀ (val:Value) (xs:List Value),(∀b,dT val=some b->w.heap.size<=b/\b<w'.heap.size)->0<sz->w'.ownsRow 0 ty sz val es.length xs->
  (eh (ao M (az φ fr val) ((⟨o',us⟩:Hp).put [(fr, .arr 0 ty sz es)])) w' sz es xs)->
  val.oneCell'=true->
  ∃aE,ax M aE ⟨put o' [(fr, .arr 0 ty sz es)],fun id=>us id\/id=fr⟩ w'/\Trans φ ⟨o',us⟩ w aE ⟨put o' [(fr, .arr 0 ty sz es)],fun id=>us id\/id=fr⟩ w'/\
   ∃Kd,Ending.returned val= .returned Kd/\V.den (ao M aE ⟨put o' [(fr, .arr 0 ty sz es)],fun id=>us id\/id=fr⟩) aE ⟨put o' [(fr, .arr 0 ty sz es)],fun id=>us id\/id=fr⟩ w' (.osl fr 0) Kd:=by
  intro val xs jv dK du cz TC
  have qq:=iz hH hk c8 (.arr 0 ty sz es) val jv (by
   unfold aO
   rw[show((⟨o',us⟩:Hp).put [(fr, .arr 0 ty sz es)]).o fr= .arr 0 ty sz es by simp]
   refine⟨dK,xs, ?_,cz⟩
   rw[show az φ fr val fr=val by simp]
   exact du)
  have Qu:=dz (φ:=φ) (H:=⟨o',us⟩) hk c8 (.arr 0 ty sz es) val (fun b hb=>(jv b hb).1)
  rw[uy]at qq Qu
  refine⟨az φ fr val,qq,Qu,val,rfl,TC, .inr rfl,fun e he=> ?_⟩
  have pM:0=e:=by
   have:(put o' [(fr,ad.arr 0 ty sz es)] fr).cf=some 0:=by simp[put,ad.cf]
   exact Yg
  exact⟨af,fun _=>aF⟩
 cases e with
 |outgrown=>exact k3.elim
 |panicked ch=>obtain⟨_,_,_,h⟩:=k3;exact h.elim
 |returned val=>
  obtain⟨g1,⟨j,ep,rfl,hj⟩|⟨rfl,rfl,dK⟩⟩:=k3
  ·obtain⟨v0,v1,v2⟩:=g1
   have fi:val=iM j:=(v2 ep (by show(o1 j).cf=some ep;rw[hj];rfl)).2 rfl
   have cH:∀b,dT val=some b->cD iM (hp o1 n1) b:=fun b hb=>⟨j,by show(o1 j).live=true;rw[hj];rfl,by rw[<- fi];exact hb⟩
   have jv:∀b,dT val=some b->w.heap.size<=b/\b<w'.heap.size:=fun b hb=>⟨(k2.grow b (cH b hb)).resolve_left (wA b),(k1.ours b (cH b hb)).2⟩
   have Ke:=k1.ok j
   unfold aO at Ke
   rw[show(hp o1 n1).o j= .arr ep ty sz es from hj]at Ke
   obtain⟨dK,xs,du,cz⟩:=Ke
   obtain⟨evs,e1,e2,e3⟩:=cz
   exact fin val xs jv dK (by rw[fi];exact du) ⟨evs,e1,e2,D.lT _ _ mJ e3⟩ v0
  ·have g1:val= .slice none 0 0:=g1
   subst g1
   exact XC
theorem DK.Nq {P:Program}{g:FuncId}{args:List V}{ds:List D}{o0 o:Nat->ad}{rd:List Nat}{fr:Nat}{v:V}{Δ:List (Nat×ad)}(au:V.br args=[])(eP:bZ o0 args=some ds)
 (h:DK P g (ds.map .d) rd o fr v Δ):DK P g args rd o fr v Δ:=
 ⟨h.1,fun o' us M φ w vals h1 h2 hH hd=>h.2 o' us M φ w vals h1 h2 hH ((V.cw _ _).2 (df hH args ds _ (by rw[au];intro id h;cases h) eP hd))⟩
def FL(P:Program)(f:FuncId):Prop:=
 Enters P f/\∀ (w:World) (b:Nat) (es:Array MapEntry) (clock:Nat),w.heap[b]? =some (.map es clock)->
  Calls P f #[.map (some b)] w fun e w'=>e= .returned (.map (some w.heap.size))/\w'=w.alloc (.map es clock)
theorem cI.TD {P:Program}{f:FuncId}(h:FL P f){o:Nat->ad}{nx id:Nat}{kt vt:TypeId}{l:List (D×D)}(ho:o id= .map kt vt l){K X:V->(Nat->ad)->Nat->Prop}
 (hK:K (.mp nx) (az o nx (.map kt vt l)) (nx+1)):cI P f [.mp id] o nx K X:=by
 refine⟨h.1,fun M φ w vals hH hd=> ?_⟩
 have hlen:=V.aA _ _ hd
 obtain⟨v,rfl⟩:∃v,vals=#[v]:=by
  match vals,hlen with
  |⟨[v]⟩,_=>exact⟨v,rfl⟩
 obtain⟨v',pN,Jw⟩:=V.dc _ _ 0 (.mp id) hd rfl
 simp only[List.getElem?_cons_zero,Option.some.injEq]at pN
 subst pN
 have aW:=hH.ok id
 have xe:(hp o nx).o id= .map kt vt l:=ho
 simp only[aO,xe]at aW
 obtain⟨b,es,clock,e1,e2,e3,e4⟩:=aW
 have hv:v=φ id:=Jw.2.2 (by rw[xe];rfl)
 rw[hv,e1]
 refine(h.2 w b es clock e2).mono fun e w' ⟨he,hw⟩=> ?_
 subst he;subst hw
 have c8: ¬ (hp o nx).us nx:=fun h=>Nat.lt_irrefl _ h
 have uy:(hp o nx).put [(nx, .map kt vt l)]=hp (az o nx (.map kt vt l)) (nx+1):=by
  simp only[Hp.put,hp]
  congr 1
  funext j
  simp only[List.map_cons,List.map_nil,List.mem_singleton,eq_iff_iff]
  omega
 have hvb:∀c,dT (.map (some w.heap.size))=some c->w.heap.size<=c/\c<(w.alloc (.map es clock)).heap.size:=by
  intro c hc;simp[dT]at hc;subst hc;simp
 have ht:=dz (φ:=φ) (H:=hp o nx) (cc w (.map es clock)) c8 (.map kt vt l) (.map (some w.heap.size)) fun c hc=>(hvb c hc).1
 refine⟨az φ nx (.map (some w.heap.size)),az o nx (.map kt vt l),nx+1, .mp nx, ?_, ?_, ?_,hK⟩
 ·exact Yp
 ·rw[<- uy];exact ht
 ·rw[<- uy];exact⟨rfl,aF,fun _=>aF⟩
theorem cI.Nr {P:Program}{f:FuncId}(h:FL P f){o:Nat->ad}{nx id:Nat}{kt vt:TypeId}{l:List (D×D)}(ho:o id= .bU l){K X:V->(Nat->ad)->Nat->Prop}
 (hK:K (.mp nx) (az o nx (.map kt vt l)) (nx+1)):cI P f [.mp id] o nx K X:=by
 refine⟨h.1,fun M φ w vals hH hd=> ?_⟩
 have hlen:=V.aA _ _ hd
 obtain⟨v,rfl⟩:∃v,vals=#[v]:=by
  match vals,hlen with
  |⟨[v]⟩,_=>exact⟨v,rfl⟩
 obtain⟨v',pN,Jw⟩:=V.dc _ _ 0 (.mp id) hd rfl
 simp only[List.getElem?_cons_zero,Option.some.injEq]at pN
 subst pN
 have aW:=hH.ok id
 have xe:(hp o nx).o id= .bU l:=ho
 simp only[aO,xe]at aW
 obtain⟨b,es,clock,e1,e2,_,e3,e4⟩:=aW
 have hv:v=φ id:=Jw.2.2 (by rw[xe];rfl)
 rw[hv,e1]
 refine(h.2 w b es clock e2).mono fun e w' ⟨he,hw⟩=> ?_
 subst he;subst hw
 have c8: ¬ (hp o nx).us nx:=fun h=>Nat.lt_irrefl _ h
 have uy:(hp o nx).put [(nx, .map kt vt l)]=hp (az o nx (.map kt vt l)) (nx+1):=by
  simp only[Hp.put,hp]
  congr 1
  funext j
  simp only[List.map_cons,List.map_nil,List.mem_singleton,eq_iff_iff]
  omega
 have hvb:∀c,dT (.map (some w.heap.size))=some c->w.heap.size<=c/\c<(w.alloc (.map es clock)).heap.size:=by
  intro c hc;simp[dT]at hc;subst hc;simp
 have ht:=dz (φ:=φ) (H:=hp o nx) (cc w (.map es clock)) c8 (.map kt vt l) (.map (some w.heap.size)) fun c hc=>(hvb c hc).1
 refine⟨az φ nx (.map (some w.heap.size)),az o nx (.map kt vt l),nx+1, .mp nx, ?_, ?_, ?_,hK⟩
 ·exact Yp
 ·rw[<- uy];exact ht
 ·rw[<- uy];exact⟨rfl,aF,fun _=>aF⟩
end Go.Proofs.YtlhemmpklhhgoaaGreat
