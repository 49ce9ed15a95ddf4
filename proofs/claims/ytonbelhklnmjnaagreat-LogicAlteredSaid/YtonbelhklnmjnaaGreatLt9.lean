/-
  A PART OF THE PROOF. Conditions: none.
-/
import Derived.Test.YtonbelhklnmjnaaGreatLt8
set_option linter.unusedSimpArgs false
set_option linter.unusedVariables false
namespace Go.Proofs.YtonbelhklnmjnaaGreat
@[go_sem] theorem n6 (v:V) (l:List V):bB (v::l) 0=v:=rfl
@[go_sem] theorem n7 (v:V) (l:List V) (i:Nat):bB (v::l) (i+1)=bB l i:=rfl
@[go_sem] theorem qv (i:Nat):bB [] i= .aa:=by simp[bB]
@[go_sem] theorem Qw (k:Nat):(0<=(k:Int))=True:=aj
attribute [go_sem] List.getElem?_map List.length_map Int.toNat_natCast
attribute [go_sem] fj List.flatMap_cons List.flatMap_nil
attribute [go_sem] isConst ry Np rr rv A7 rq pS DD Nq xg GZ oV oW xf uo uq pT
attribute [go_sem] pI V.refs V.aO
attribute [go_sem] List.all_nil List.all_cons Option.some.injEq D.int.injEq D.bool.injEq Nat.zero_add Nat.add_zero
theorem wrap64{n:Int}(h1: -9223372036854775808<=n)(h2:n<=9223372036854775807):IntKind.i64.wrap n=n:=by
 unfold IntKind.wrap
 have e1:((2:Int)^IntKind.i64.bits)=18446744073709551616:=aZ
 have e2:((2:Int)^(IntKind.i64.bits - 1))=9223372036854775808:=aZ
 have e3:IntKind.i64.signed=true:=rfl
 simp only[e1,e2,e3,Bool.true_and,decide_eq_true_eq]
 split<;>omega
structure Good (o:Nat->ab) (nx:Nat):Prop where
 fresh:∀id,nx<=id->o id= .no
 refs:∀id,∀r∈(o id).refs,r<nx
theorem Good.nil {nx:Nat}:Good (fun _=> .no) nx:=⟨fun _ _=>rfl,fun id r h=>by cases h⟩
theorem Good.aM {o:Nat->ab}{nx i:Nat}{x:ab}(h:Good o nx)(hi:i<nx)(hx:x.refs.all (fun r=>decide (r<nx))=true):Good (aM o i x) nx:=by
 refine⟨fun id aC=> ?_,fun id r hr=> ?_⟩
 ·rw[ah _ _ _ _ (by omega)];exact h.fresh id aC
 ·by_cases e:id=i
  ·subst e
   rw[ae]at hr
   simpa using List.all_eq_true.1 hx r hr
  ·rw[ah _ _ _ _ e]at hr
   exact h.refs id r hr
theorem Good.mono {o:Nat->ab}{nx m:Nat}(h:Good o nx)(hm:nx<=m):Good o m:=⟨fun id aC=>h.fresh id ad,fun id r hr=>Nat.lt_of_lt_of_le (h.refs id r hr) hm⟩
theorem Good.lt {o:Nat->ab}{nx id:Nat}(h:Good o nx)(hn:o id≠ .no):id<nx:=by
 rcases Nat.lt_or_ge id nx with hl|hl
 ·exact hl
 ·exact absurd (h.fresh id hl) hn
theorem V.rR:∀ (l:List V) (i:Nat),∀r∈(bB l i).refs,r∈V.aO l
 |[],i,r,h=>by rw[qv]at h;cases h
 |v::l,0,r,h=>by rw[n6]at h;simp only[V.aO,List.mem_append];exact .inl h
 |v::l,i+1,r,h=>by rw[n7]at h;simp only[V.aO,List.mem_append];exact .inr (V.rR l i r h)
theorem bM.back {b:Nat}{s:S}{env:Nat->V}{o:Nat->ab}{nx:Nat}(hb:b<=nx)(hn:nx<=s.nx)(hg:Good o nx)(ho:∀id,id<nx->s.o id=o id)
 (he:∀i,env i= .aa\/(env i=s.env i/\∀r∈(env i).refs,r<nx)):bM b s ⟨env,o,nx⟩:=by
 intro M φ w tm hH hd
 have c7:∀k,df φ (hp o nx) k->df φ s.H k:=by
  rintro k ⟨id,h1,h2⟩
  have aC:id<nx:=hg.lt (fun e=>by simp only[hp]at h1;rw[e]at h1;cases h1)
  exact⟨id,by simp only[S.H];rw[ho id aC];exact h1,h2⟩
 have hB:∀k, ¬ay M φ s.H k-> ¬ay M φ (hp o nx) k:=fun k h h'=>h (h'.imp id (c7 k))
 have fO:∀ (v:V) (val:Value),(∀r∈v.refs,r<nx)->V.den (ay M φ s.H) φ s.H w v val->V.den (ay M φ (hp o nx)) φ (hp o nx) w v val:=fun v val hr h=>
  V.ns (H:=s.H) (H':=hp o nx) hB v val (fun id aC=>⟨(ho id (hr id aC)).symm,rfl,hr id aC⟩) h
 have oK:∀ (v:List V) (val:List Value),(∀r∈V.aO v,r<nx)->V.aN (ay M φ s.H) φ s.H w v val->V.aN (ay M φ (hp o nx)) φ (hp o nx) w v val:=fun v val hr h=>
  V.ig (H:=s.H) (H':=hp o nx) hB v val (fun id aC=>⟨(ho id (hr id aC)).symm,rfl,hr id aC⟩) h
 refine⟨φ,⟨fun id=> ?_,fun id hu=>hg.fresh id (by simpa[S.H]using hu),fun i j k h1 h2 h3 h4=> ?_,fun k hk=>hH.ours k (c7 k hk),hH.AL⟩,fun i=> ?_,c7,hb,fun id aC hr=> ?_,fun id e' aC oD=> ?_⟩
 ·have bA:=hH.ok id
  have hrefs:=hg.refs id
  unfold bc at bA|-
  by_cases aC:id<nx
  ·have e:s.H.o id=o id:=ho id aC
   rw[e]at bA
   simp only[S.H]at bA|-
   cases hx:o id with
   |no=>trivial
   |row cs=>
    simp only[hx]at bA hrefs|-
    obtain⟨b,dU,ty,k1,k2,k3,k4⟩:=bA
    exact⟨b,dU,ty,k1,k2,oK _ _ hrefs k3,k4⟩
   |arr ep ty sz es=>
    simp only[hx]at bA|-
    obtain⟨k1,xs,k2,evs,k3,k4,k5⟩:=bA
    exact⟨k1,xs,k2,evs,k3,k4,D.ba (fun b _ hn=>⟨rfl,hB b hn⟩) _ _ k5⟩
   |sv ep es=>
    simp only[hx]at bA|-
    exact D.aT (fun b _ hn=>⟨rfl,hB b hn⟩) _ _ bA
   |map kt vt es=>
    simp only[hx]at bA|-
    obtain⟨b,es',clock,k1,k2,k4,k3⟩:=bA
    exact⟨b,es',clock,k1,k2,k4,aY.mono (fun b _ hn=>⟨rfl,hB b hn⟩) _ _ k3⟩
   |iP l=>
    simp only[hx]at bA|-
    exact D.aT (fun b _ hn=>⟨rfl,hB b hn⟩) _ _ bA
   |mW l last=>
    simp only[hx]at bA|-
    obtain⟨b,k1,k2⟩:=bA
    exact⟨b,k1,k2.mono (fun b _ hn=>⟨rfl,hB b hn⟩) rfl⟩
   |za s pos=>
    simp only[hx]at bA|-
    exact bA
   |loop nf n env ps a b st pd=>
    simp only[hx]at bA hrefs|-
    obtain⟨b,r,k1,k2,k3,k4,k5,k6,k7,k8,k9,Y4⟩:=bA
    exact⟨b,r,k1,k2,k3,k4,k5,k6,k7,k8,k9,fun i=>fO _ _ (fun r hr=>hrefs r (V.rR _ _ r hr)) (Y4 i)⟩
  ·simp only[S.H]
   rw[hg.fresh id (by omega)]
   trivial
 ·have hi:i<nx:=hg.lt (fun e=>by simp only[S.H]at h1;rw[e]at h1;cases h1)
  have hj:j<nx:=hg.lt (fun e=>by simp only[S.H]at h2;rw[e]at h2;cases h2)
  exact hH.apart i j k (by simp only[S.H];rw[ho i hi];exact h1) (by simp only[S.H];rw[ho j hj];exact h2) h3 h4
 ·rcases he i with h|⟨h1,h2⟩
  ·simp only[h];trivial
  ·have:=hd i
   rw[<- h1]at this
   exact fO _ _ h2 this
 ·have cJ:id<nx:=ad
  exact⟨by rw[ho id cJ];exact hr,rfl⟩
 ·have cJ:id<nx:=ad
  exact⟨e',by rw[ho id cJ];exact oD,Nat.le_refl _,fun _=>rfl⟩
def kx(nx:Nat)(env:Nat->V):List V->Nat->Prop
 |[],_=>True
 |v::l,i=>(v= .aa\/(v=env i/\∀r∈v.refs,r<nx))/\kx nx env l (i+1)
theorem bM.bT {b:Nat}{e:Nat->V}{so:Nat->ab}{m:Nat}(l:List V){o:Nat->ab}{nx:Nat}(hb:b<=nx)(hn:nx<=m)(hg:Good o nx)(ho:∀id,id<nx->so id=o id)(he:kx nx e l 0):bM b ⟨e,so,m⟩ ⟨bB l,o,nx⟩:=by
 refine bM.back hb hn hg ho ?_
 have key:∀ (l:List V) (i:Nat),kx nx e l i->∀j,bB l j= .aa\/(bB l j=e (i+j)/\∀r∈(bB l j).refs,r<nx):=by
  intro l
  induction l with
  |nil=>intro i _ j;rw[qv];exact .inl rfl
  |cons v l ih=>
   intro i h j
   cases j with
   |zero=>rw[n6];exact h.1
   |succ j=>
    rw[n7]
    have:=ih (i+1) h.2 j
    rwa [show i+1+j=i+(j+1) by omega]at this
 intro i
 have:=key l 0 he i
 rwa [Nat.zero_add]at this
theorem xa{nx:Nat}{env:Nat->V}{i:Nat}:kx nx env [] i:=trivial
theorem ue{nx:Nat}{env:Nat->V}{l:List V}{i:Nat}(h:kx nx env l (i+1)):kx nx env (.aa::l) i:=⟨.inl rfl,h⟩
theorem pN{nx:Nat}{env:Nat->V}{l:List V}{i:Nat}{x:D}(he:env i= .d x)(h:kx nx env l (i+1)):kx nx env (.d x::l) i:=⟨.inr ⟨he.symm,fun r hr=>by simp[V.refs]at hr⟩,h⟩
theorem yV{nx:Nat}{env:Nat->V}{l:List V}{i:Nat}{v:V}(he:env i=v)(hr:∀r∈v.refs,r<nx)(h:kx nx env l (i+1)):kx nx env (v::l) i:=⟨.inr ⟨he.symm,hr⟩,h⟩
theorem bM.d0 {e:Nat->V}{so:Nat->ab}{m:Nat}(l:List V)(he:kx 0 e l 0):bM 0 ⟨e,so,m⟩ ⟨bB l,fun _=> .no,0⟩:=bM.bT l (Nat.le_refl 0) (Nat.zero_le _) Good.nil (fun _ h=>absurd h (Nat.not_lt_zero _)) he
theorem Je{k:Nat}(h:(k:Int)+1<=9223372036854775807):IntKind.i64.wrap ((k:Int)+1)=((k+1:Nat):Int):=by rw[wrap64 (by omega) h];rfl
theorem Jd{k:IntKind}{a b:Int}(h:a=b):V.d (D.int k a)=V.d (D.int k b):=by rw[h]
theorem Cb{P:Program}{g:FuncId}{K:KD}{X:XD}{o:Nat->ab}{nx fr:Nat}{all:List V}{rd:List Nat}{rs:List D}{Δ:List (Nat×ab)}(mS:rd.all (fun id=>decide (id<nx))=true)(h:Fs P g all rd o (.ret rs) Δ)(hk:K (jO rs) Δ rd):rO P g K X o nx fr all:=by
 unfold rO
 exact⟨rd,Δ,mS, .inl ⟨rs,h,hk⟩⟩
abbrev D.i (n:Int):D:= .int .i64 n
structure ky where
 name:List UInt8
 args:Int
structure a7 where
 cons:List ky
 bX:List ky
inductive Tm where
 |mk (op n:Int) (kids:List Tm)
 deriving Inhabited
structure TB where
 var:Int
 term:Tm
def Tm.op:Tm->Int| .mk op _ _=>op
def Tm.n:Tm->Int| .mk _ n _=>n
def Tm.kids:Tm->List Tm| .mk _ _ l=>l
theorem Tm.eta (t:Tm):Tm.mk t.op t.n t.kids=t:=by cases t;rfl
theorem Tm.ind {P:Tm->Prop}(h:∀op n kids,(∀k∈kids,P k)->P (.mk op n kids)):∀t,P t:=
 fun t=>Tm.rec (motive_1:=P) (motive_2:=fun l=>∀k∈l,P k) (fun op n kids ih=>h op n kids ih) (fun _ h=>by cases h)
  (fun x l hx hl k hk=>(List.mem_cons.1 hk).elim (fun e=>e ▸ hx) (hl k)) t
mutual
def Tm.d:Tm->D
 | .mk op n kids=> .agg [.i op, .i n, .sl (Tm.ds kids)]
def Tm.ds:List Tm->List D
 |[]=>[]
 |t::l=>t.d::Tm.ds l
end
theorem Tm.rS:∀l:List Tm,Tm.ds l=l.map Tm.d
 |[]=>rfl
 |t::l=>by simp[Tm.ds,Tm.rS l]
theorem Tm.Ek (t:Tm):t.d= .agg [.i t.op, .i t.n, .sl (t.kids.map Tm.d)]:=by cases t;simp[Tm.d,Tm.rS,Tm.op,Tm.n,Tm.kids]
@[go_sem] theorem Tm.Ua (t:Tm):D.agg [.i t.op, .i t.n, .sl (t.kids.map Tm.d)]=t.d:=(Tm.Ek t).symm
@[go_sem] theorem Tm.N6 (t:Tm):D.cells t.d=[.i t.op, .i t.n, .sl (t.kids.map Tm.d)]:=by rw[Tm.Ek];rfl
theorem Tm.ck {P:Tm->Prop}(h:∀t:Tm,(∀k∈t.kids,P k)->P t):∀t,P t:=Tm.ind fun op n kids ih=>h (.mk op n kids) ih
theorem Tm.lz (op n:Int)(l:List Tm):(Tm.mk op n l).d= .agg [.i op, .i n, .sl (l.map Tm.d)]:=by simp[Tm.d,Tm.rS]
@[reducible] def ky.d (x:ky):D:= .agg [.str x.name, .i x.args]
@[reducible] def a7.d (s:a7):D:= .agg [.sl (s.cons.map ky.d), .sl (s.bX.map ky.d)]
@[reducible] def TB.d (b:TB):D:= .agg [.i b.var, .i b.term.op, .i b.term.n, .sl (b.term.kids.map Tm.d)]
mutual
def Tm.fits:Tm->Prop
 | .mk _ _ kids=>kids.length<=9223372036854775807/\Tm.kz kids
def Tm.kz:List Tm->Prop
 |[]=>True
 |t::l=>t.fits/\Tm.kz l
end
theorem Tm.lP:∀l:List Tm,Tm.kz l↔∀k∈l,k.fits
 |[]=>by simp[Tm.kz]
 |t::l=>by simp[Tm.kz,Tm.lP l]
theorem Tm.aP (t:Tm):t.fits↔t.kids.length<=9223372036854775807/\∀k∈t.kids,k.fits:=by cases t;simp[Tm.fits,Tm.lP,Tm.kids]
mutual
def Tm.ja:Tm->Nat
 | .mk _ _ kids=>1+Tm.fV kids
def Tm.fV:List Tm->Nat
 |[]=>0
 |k::l=>Nat.max k.ja (Tm.fV l)
end
theorem Tm.nB:∀ {l:List Tm} {k:Tm},k∈l->k.ja<=Tm.fV l
 |x::l,k,h=>by
  simp only[Tm.fV]
  rcases List.mem_cons.1 h with rfl|h
  ·exact Nat.le_max_left _ _
  ·exact Nat.le_trans (Tm.nB h) (Nat.le_max_right _ _)
theorem Tm.qw {t k:Tm}(h:k∈t.kids):k.ja+1<=t.ja:=by
 cases t;simp only[Tm.kids]at h;simp only[Tm.ja];have:=Tm.nB h;omega
mutual
def pre:Tm->Int->List (Tm×Int)
 | .mk op n kids,d=>(.mk op n kids,d)::N7 kids (d+1)
def N7:List Tm->Int->List (Tm×Int)
 |[],_=>[]
 |k::l,d=>pre k d++N7 l d
end
theorem HJ(l:List Tm)(d:Int):N7 l d=l.flatMap fun k=>pre k d:=by
 induction l with
 |nil=>rfl
 |cons k l ih=>simp[N7,ih]
theorem jH(t:Tm)(d:Int):pre t d=(t,d)::t.kids.flatMap fun k=>pre k (d+1):=by cases t;simp[pre,HJ,Tm.kids]
def c6(n low high:Int):Bool:=decide (low<=n)&&decide (n<=high)
def letterF(b:UInt8):Bool:= !((decide ((b.toNat:Int)<97)||decide (122<(b.toNat:Int)))&&(decide ((b.toNat:Int)<65)||decide (90<(b.toNat:Int))))
def kA(s:List UInt8):Bool:=s.all letterF&&c6 s.length 1 8
def cq:List ky->List (List UInt8)->Option (List (List UInt8))
 |[],before=>some before
 |x::l,before=>if before.any (· ==x.name)then none else if(!kA x.name|| !c6 x.args 0 4)=true then none else cq l (before++[x.name])
def fB:List UInt8:=[70,97,108,115,101]
def tB:List UInt8:=[84,114,117,101]
def mN(x:ky)(s:List UInt8):Bool:=x.name==s&&x.args==0
def kB(s:a7):Bool:=
 if(!c6 s.cons.length 2 12||decide (8<(s.bX.length:Int)))=true then false else
 match s.cons with
 |a::b::_=>if(!mN a fB|| !mN b tB)=true then false else
  match cq s.cons []with
  |none=>false
  |some l=>(cq s.bX l).isSome
 |_=>false
mutual
def eo:Tm->Int->Int->Int
 | .mk _ _ kids,left,depth=>if left<1\/depth<1 then -1 else cl kids (left - 1) (depth - 1)
def cl:List Tm->Int->Int->Int
 |[],left,_=>left
 |k::l,left,depth=>if 0<=left then cl l (eo k left depth) depth else left
end
def dN(l:List ky)(n:Int):Int:=match l[n.toNat]? with|some x=>x.args|none=>0
def bz(s:a7)(t:Tm):Bool:=
 let k:Int:=t.kids.length
 if t.op=1 then k==0&&c6 t.n 0 19
 else if t.op=2 then k==0&&c6 t.n (-1000000) 1000000
 else if t.op=3 then c6 t.n 0 (s.cons.length - 1)&&k==dN s.cons t.n
 else if t.op=4 then c6 t.n 0 (s.bX.length - 1)&&k==dN s.bX t.n
 else if t.op=5 then c6 t.n 0 (s.bX.length - 1)&&decide (k<dN s.bX t.n)
 else if t.op=8 then k==2&&c6 t.n 0 19
 else if(c6 t.op 6 15)=true then k==2&&t.n==0
 else false
mutual
def eD(s:a7):Tm->Bool
 | .mk op n kids=>bz s (.mk op n kids)&&tQ s kids
def tQ(s:a7):List Tm->Bool
 |[]=>true
 |k::l=>eD s k&&tQ s l
end
def dP(s:a7)(t:Tm):Bool:=decide (0<=eo t 40 12)&&eD s t
mutual
def aX:Tm->Tm->Bool
 | .mk op n kids, .mk op' n' Qx=>op==op'&&n==n'&&kids.length==Qx.length&&gP kids Qx
def gP:List Tm->List Tm->Bool
 |[],_=>true
 |k::l,k'::l'=>aX k k'&&gP l l'
 |_::_,[]=>true
end
def iD(t:Tm):Bool:=decide (0<=eo t 50 14)
def gE(l:List ky):Bool:=l.all fun x=>decide ((x.name.length:Int)<=30)
def jb(s:a7):Bool:= !(decide (16<(s.cons.length:Int))||decide (12<(s.bX.length:Int)))&&gE s.cons&&gE s.bX
end Go.Proofs.YtonbelhklnmjnaaGreat
namespace Go.Proofs.YtonbelhklnmjnaaGreat
def jI(id:Nat)(K X:V->(Nat->ab)->Nat->Prop)(e:fS)(s:S):Prop:=
 match e with
 | .normal=>∃nf m en p c d st pd,s.o id= .loop nf m en p c d st pd/\K (.d (.bool true)) (aM s.o id (.loop nf m en p c d .ready none)) s.nx
 | .ret=>∃nf m en p c d st pd,s.o id= .loop nf m en p c d st pd/\K (.d (.bool false)) (aM s.o id (.loop nf m en p c d .done (some .ret))) s.nx
 | .exit j=>∃nf m en p c d st pd,s.o id= .loop nf m en p c d st pd/\K (.d (.bool false)) (aM s.o id (.loop nf m en p c d .done (some (.exit j)))) s.nx
 | .bU v=>X v s.o s.nx
def Ub(P:Program)(n b id:Nat)(eJ:IC)(K X:V->(Nat->ab)->Nat->Prop)(e:fS)(s:S):Prop:=
 match e with
 | .normal=>∃nf m en p c d pd,s.o id= .loop nf m en p c d .ready pd/\tP P n b true eJ (jI id K X) ⟨s.env,aM s.o id (.loop nf m en p c d .busy pd),s.nx⟩
 | .bU v=>X v s.o s.nx
 |_=>False
section
variable {P:Program}{M:Nat->Prop}{φ cT:Place}{H0:Hp}{w w0:World}{n:Nat}{s:S}{a:Act}{cx:Cx}
theorem Cc{id:Nat}{x:ab}{s:S}(cJ:id<s.nx)(j:Nat)(hu:(s.H.put [(id,x)]).us j):j<s.nx:=by
 simp only[ez]at hu
 rcases hu with hu|hu
 ·exact hu
 ·subst hu;exact cJ
theorem uW{B:Nat->Prop}{H:Hp}{n:Nat}:∀ (ps:List Nat) (vs:List V) (us:List Value) (env:Nat->V) (tmps:Array Value),tmps.size=n->ps.length=vs.length->V.aN B φ H w vs us->ps.all (fun t=>decide (t<n))=true->(∀i,V.den B φ H w (env i) (tmps.getD i undef))->
 ((ps.zip us).foldl (fun tmps p=>tmps.setIfInBounds p.1 p.2) tmps).size=n/\∀i,V.den B φ H w (nw env ps vs i) (((ps.zip us).foldl (fun tmps p=>tmps.setIfInBounds p.1 p.2) tmps).getD i undef)
 |[],[],us,env,tmps,eh,_,hd,_,he=>by simp only[V.aN]at hd;subst hd;exact⟨eh,he⟩
 |[],v::vs,us,env,tmps,_,h,_,_,_=>by simp at h
 |t::ps,[],us,env,tmps,_,h,_,_,_=>by simp at h
 |t::ps,v::vs,us,env,tmps,eh,hl,hd,hp,he=>by
  obtain⟨u,us,rfl,h1,h2⟩:=hd
  simp only[List.all_cons,Bool.and_eq_true,decide_eq_true_eq]at hp
  simp only[List.zip_cons_cons,List.foldl_cons,nw]
  refine uW ps vs us (aM env t v) (tmps.setIfInBounds t u) (by simp[eh]) (by simpa using hl) h2 hp.2 (fun i=> ?_)
  simp only[aS]
  by_cases hi:i=t
  ·subst hi
   have:(tmps.setIfInBounds i u).getD i undef=u:=by simp[Array.getD,eh,hp.1]
   rw[if_pos rfl,this];exact h1
  ·have:(tmps.setIfInBounds t u).getD i undef=tmps.getD i undef:=by
    simp only[Array.getD_eq_getD_getElem?]
    rw[Array.getElem?_setIfInBounds_ne (Ne.symm hi)]
   rw[if_neg hi,this];exact he i
theorem ec.uS (bD:P.follows .mixedOrders=true){id:Nat}{args:List V}{o:Nat->ab}{nx:Nat}{K X:V->(Nat->ab)->Nat->Prop}{env:List V}{ps:List Nat}{iQ eJ:IC}{st:LoopState}{pd:Option jN}
 (ho:o id= .loop P.funcs.size n env ps iQ eJ st pd) (cJ:id<nx) (El:ps.all (fun t=>decide (t<n))=true) (hl:args.length=ps.length)
 (h:tP P n nx true iQ (Ub P n nx id eJ K X) ⟨nw (bB env) ps args,o,nx⟩):ec P id args o nx K X:=by
 refine⟨by rw[ho];rfl,fun M φ w vals b hH hd fb=> ?_⟩
 have bp:=hH.ok id
 simp only[bc,hp,ho]at bp
 obtain⟨b',r,h1,h2,h0,h3,h4,h5,h6,h7,h8,h9⟩:=bp
 rw[fb]at h1;simp at h1;subst h1
 have hlen:=V.aH _ _ hd
 have eh:vals.size=r.params.size:=by
  have:r.params.toList.length=ps.length:=by rw[h5]
  simp at hlen this;omega
 let tm:Array Value:=(ps.zip vals.toList).foldl (fun tmps p=>tmps.setIfInBounds p.1 p.2) r.tmps
 have Y5:(r.params.zip vals).foldl (fun tmps (p:Tmp×Value)=>tmps.setIfInBounds p.1 p.2) r.tmps=tm:=by
  rw[<- Array.foldl_toList,Array.toList_zip,h5]
 obtain⟨p1,p2⟩:=uW (B:=ay M φ (hp o nx)) (H:=hp o nx) (φ:=φ) (w:=w) ps args vals.toList (bB env) r.tmps h6 hl.symm hd El h9
 refine⟨r.fn,tm,r.assign,r.body, ?_,fun k=> ?_⟩
 ·simp only[Instr.yield,Sem.run_bind,kU h2,Result.andThen_ok,eh,ne_eq,not_true_eq_false,if_false,Sem.run_pure]
  rw[<- Y5]
 ·
   let s0:S:=⟨nw (bB env) ps args,o,nx⟩
   let a0:Act:={tmps:=tm,defers:=[]}
   have gB:cw M φ (hp o nx) w n ⟨[],true⟩ φ s0 a0 w:=⟨hH,Trans.refl _ _ _,p1,⟨[],rfl,List.nodup_nil,fun _=>rfl,fun r hr=>by cases hr⟩,p2⟩
   have uX:∀ {aQ s' a' w'},cw M φ (hp o nx) w n ⟨[],true⟩ aQ s' a' w'->a'.defers=[]:=by
    intro aQ s' a' w' hs
    obtain⟨ms,g1,_,g3,_⟩:=hs.defers
    exact S9
   have Y6:∀ {aQ s' a' w'} {nf m:Nat} {en:List V} {p:List Nat} {c d:IC} {st:LoopState} {pd:Option jN} (st':LoopState) (pd':Option jN),cw M φ (hp o nx) w n ⟨[],true⟩ aQ s' a' w'->s'.o id= .loop nf m en p c d st pd->
    ∃r',w'.heap[b]? =some (.loop r')/\r'.state=st/\r'.pending=pd.map jN.code/\
     cw M φ (hp o nx) w n ⟨[],true⟩ aQ ⟨s'.env,aM s'.o id (.loop nf m en p c d st' pd'),s'.nx⟩ a' {w' with heap:=w'.heap.setIfInBounds b (.loop {r' with state:=st',pending:=pd'.map jN.code})}:=by
    intro aQ s' a' w' nf m en p c d st pd st' pd' hs pM
    have Tv:aQ id= .pointer (some ⟨b,0,none⟩):=by
     have:=(hs.tr.rel.row id cJ (by show(s'.o id).cC=true;rw[pM];rfl)).2
     rw[this];exact fb
    have Y7:id<s'.nx:=hs.tr.rel.us id cJ
    obtain⟨r',r1,r2,r3,r4,r5⟩:=xH (st':=st') (pd':=pd') hs.heap Y7 (show s'.H.o id=_ from pM) Tv
    exact⟨r',r1,r2,r3,eM hs r4 r5 rfl (Cc Y7)⟩
   have ha:=iZ (P:=P) (n:=n) (b:=nx) (rd:=true) bD r.assign _ _ s0 (fun _ _ h=>h) (by rw[h7];exact h)
   refine uH h0 (iB (iT (P:=P) (H0:=hp o nx) (b:=nx) (cx:=⟨[],true⟩) (ro:=some b) (fun id hu=>hu) (fun h=>by cases h) r.assign _ s0 φ a0 w ha gB) ?_)
   rintro e a1 w1 ⟨x,s1,jC,hq,xJ,hm⟩
   cases e<;>cases x<;>first|(exact hm.elim)|skip
   ·
     obtain⟨nf,m,en,p,c,d,pd1,q1,q2⟩:=hq
     obtain⟨r',r1,r2,r3,ML⟩:=Y6 .busy pd1 xJ q1
     have Uc:(Instr.beginRound b).run P w1= .ok () {w1 with heap:=w1.heap.setIfInBounds b (.loop {r' with state:= .busy,pending:=pd1.map jN.code})}:=by
      have e1:({r' with state:= .busy}:Loop)={r' with state:= .busy,pending:=pd1.map jN.code}:=by rw[<- r3]
      simp only[Instr.beginRound,Sem.run_bind,kU r1,Result.andThen_ok,jF _ r1,r2,Sem.run_pure,e1]
     refine⟨_,Uc, ?_⟩
     have bV:=ML.heap.ok id
     simp only[bc,S.H,aS,if_true]at bV
     obtain⟨b2,r2',_,_,_,_,_,_,_,_,_,_⟩:=bV
     have hb:=iZ (P:=P) (n:=n) (b:=nx) (rd:=true) bD r.body _ _ _ (fun _ _ h=>h) (by rw[h8];exact q2)
     refine iB (iT (P:=P) (H0:=hp o nx) (b:=nx) (cx:=⟨[],true⟩) (ro:=some b) (fun id hu=>hu) (fun h=>by cases h) r.body _ _ jC a1 _ hb ML) ?_
     rintro e a2 w2 ⟨x,s2,Hk,W3,Fm,MH⟩
     have fin:∀ {nf m:Nat} {en:List V} {p:List Nat} {c d:IC} {st:LoopState} {pd:Option jN} (jump:Option jN) (t:Bool) (st':LoopState),t=jump.isNone->st'=(if jump.isNone then .ready else .done)->s2.o id= .loop nf m en p c d st pd->K (.d (.bool t)) (aM s2.o id (.loop nf m en p c d st' jump)) s2.nx->
      ∃v w',(Instr.endRound b (jump.map jN.code)).run P w2= .ok v w'/\nh M φ (hp o nx) w K X (.returned v) w':=by
      intro nf m en p c d st pd jump t st' ht l9 ho2 hK
      obtain⟨r3',g1,g2,g3,W4⟩:=Y6 st' jump Fm ho2
      refine⟨.bool t,_, ?_,Hk,_,_,_,W4.heap,W4.tr,by simp only[V.den,D.den],hK⟩
      subst ht;subst l9
      simp only[Instr.endRound,Sem.run_bind,kU g1,Result.andThen_ok,jF _ g1,Sem.run_pure,Option.isNone_map]
     cases e<;>cases x<;>first|(exact MH.elim)|skip
     ·obtain⟨nf,m,en,p,c,d,st,pd,k1,k2⟩:=W3
      exact fin none true .ready rfl rfl k1 k2
     ·rename_i j
      subst MH
      obtain⟨nf,m,en,p,c,d,st,pd,k1,k2⟩:=W3
      exact fin (some (.exit _)) false .done rfl rfl k1 k2
     ·obtain⟨nf,m,en,p,c,d,st,pd,k1,k2⟩:=W3
      exact fin (some .ret) false .done rfl rfl k1 k2
     ·obtain⟨val,rfl,k2⟩:=MH
      exact⟨uX Fm,Hk,_,_,_,Fm.heap,Fm.tr,val,rfl,k2,W3⟩
   ·exact hq.elim
   ·exact hq.elim
   ·obtain⟨val,rfl,k2⟩:=hm
    exact⟨uX xJ,jC,_,_,_,xJ.heap,xJ.tr,val,rfl,k2,hq⟩
end
end Go.Proofs.YtonbelhklnmjnaaGreat
namespace Go.Proofs.YtonbelhklnmjnaaGreat
def Ud(ops:Array Oper)(t t1:Nat):Prop:=
 (∃o1 o2,ops=#[o1,o2]/\o1.op= .call ⟨.builtin .recover,#[],#[]⟩/\o1.dst=some t/\o1.guard=none/\o2.op= .assign (.tmp t)/\o2.dst=some t1/\o2.guard=none)\/
 (∃o1,ops=#[o1]/\t1=t/\o1.op= .call ⟨.builtin .recover,#[],#[]⟩/\o1.dst=some t/\o1.guard=none)
structure Cd (P:Program) (g:FuncId) (n t t1:Nat) (ic:IC):Prop where
 get:∃fn id ops c,P.funcs[g]? =some fn/\(fn.name== "runtime.NumGoroutine")=false/\fn.ntmps=n/\fn.results=#[]/\fn.body=some (.seq (.region id ops false) c)/\
  Ud ops t t1/\t<n/\t1<n/\low n c=ic
structure FE (P:Program) (f:FuncId) (n:Nat) (iQ eJ:IC) (g:FuncId) (t:Nat) (aG:List Operand) (rs:List ResultVar):Prop where
 get:∃fn id o1 o2 a b d,P.funcs[f]? =some fn/\(fn.name== "runtime.NumGoroutine")=false/\fn.ntmps=n/\fn.results.toList=rs/\fn.body=some (.seq a d)/\(d= .seq (.region id #[o1,o2] false) b\/d= .scope (.seq (.region id #[o1,o2] false) b))/\
  o1.op= .makeFunc (.func g) #[] aG.toArray/\o1.dst=some t/\o1.guard=none/\o2.op= .defer ⟨.value (.tmp t),#[],#[]⟩/\o2.dst=none/\o2.guard=none/\t<n/\low n a=iQ/\low n b=eJ
def HK(K:(Nat->ab)->Nat->Prop)(e:fS)(s:S):Prop:=match e with| .normal| .ret=>K s.o s.nx|_=>False
def Em(P:Program)(n t t1:Nat)(ic:IC)(aG:List V)(u:V)(o:Nat->ab)(nx:Nat)(K:(Nat->ab)->Nat->Prop):Prop:=
 aG.length<=n/\tP P n nx true ic (HK K) ⟨aM (aM (cF aG) t u) t1 u,o,nx⟩
def zV(P:Program)(n t t1:Nat)(ic:IC)(aG:List V)(rs:List ResultVar)(K X:V->(Nat->ab)->Nat->Prop)(e:fS)(s:S):Prop:=
 match e with
 | .normal| .ret=>Em P n t t1 ic aG (.d .fD) s.o s.nx fun o nx=>mi P rs K X .ret ⟨s.env,o,nx⟩
 | .bU v=>Em P n t t1 ic aG v s.o s.nx fun o nx=>mi P rs K X .ret ⟨s.env,o,nx⟩
 | .exit _=>False
def Ce(P:Program)(n t:Nat)(eJ:IC)(fI:List Operand)(g:FuncId)(D:List V->fS->S->Prop)(e:fS)(s:S):Prop:=
 match e with
 | .normal=>tP P n s.nx false eJ (D (fI.map s.ev)) ⟨aM s.env t (.func (.func g) [] (fI.map s.ev)),s.o,s.nx⟩
 |_=>False
section
variable {P:Program}{M:Nat->Prop}{φ cT:Place}{H H0:Hp}{w w0:World}{n:Nat}{s:S}{a:Act}{cx:Cx}{k:Nat}
theorem HL(bD:P.follows .mixedOrders=true){g:FuncId}{t t1:Nat}{ic:IC}(hg:Cd P g n t t1 ic){aG:List V}{u:V}{o:Nat->ab}{nx:Nat}{K:(Nat->ab)->Nat->Prop}(h:Em P n t t1 ic aG u o nx K)
 {vals:Array Value} {val:Value} {m:FrameMode} (hH:aD M φ (hp o nx) w) (hd:V.aN (ay M φ (hp o nx)) φ (hp o nx) w aG vals.toList) (hv:V.den (ay M φ (hp o nx)) φ (hp o nx) w u val)
 (hm:(m= .returning/\val= .nilIface)\/m= .panicking [{v:=val,recovered:=false}]):
 CallsDIn (ej none) k P g vals m w fun e u' w'=>∃v aQ o' nx',e= .returned v/\settle u'= .returning/\aD M aQ (hp o' nx') w'/\Trans φ (hp o nx) w aQ (hp o' nx') w'/\K o' nx':=by
 obtain⟨fn,id,ops,c,hf,Qy,hnt,BD,ql,Hz,ht,Dn,rM⟩:=hg.get
 have cJ:g<P.funcs.size:=(Array.getElem?_eq_some_iff.1 hf).1
 obtain⟨pL,h⟩:=h
 have hlen:=V.aH _ _ hd
 refine⟨trivial,fun pt cs Kp PK=> ?_⟩
 let b:Frame:={(default:Frame)with fn:=g,kind:= .deferred,roundOf:=none}
 let tR:Array Value:=vals++Array.replicate (fn.ntmps - vals.size) undef
 have acb:tR.size=n:=by simp only[tR,Array.size_append,Array.size_replicate];simp at hlen;omega
 have mg:Frame.enter P g vals .deferred=b.atR {tmps:=tR,defers:=[]} [.code (.seq (.region id ops false) c)]:=by
  simp[Frame.enter,Frame.atR,hf,ql,b,tR]
 obtain⟨m',hm',bV⟩:∃m',settle m'= .returning/\((recoverD (pt::cs)=none/\m'=m/\val= .nilIface)\/recoverD (pt::cs)=some (val,{pt with mode:=m'}::cs)):=by
  rcases hm with⟨rfl,rfl⟩|rfl
  ·exact⟨.returning,rfl, .inl ⟨by simp[recoverD,Kp],rfl,rfl⟩⟩
  ·exact⟨.panicking [{v:=val,recovered:=true}],rfl, .inr (by simp[recoverD,Kp])⟩
 have hc0:({pt with mode:=m}:Frame)=pt:=by subst Kp;rfl
 let a1:Act:={tmps:=(tR.setIfInBounds t val).setIfInBounds t1 val,defers:=[]}
 have NS:(Code.region id ops false).wpSIn (ej none) k P (fun e a' cs' w'=>e= .normal/\a'=a1/\cs'={pt with mode:=m'}::cs/\w'=w) {tmps:=tR,defers:=[]} (pt::cs) w:=by
  rcases Hz with⟨o1,o2,rfl,e1,e2,e3,e4,e5,e6⟩|⟨o1,rfl,rfl,e1,e2,e3⟩
  ·refine wpSIn_region ?_
   have hr:List.range (#[o1,o2]:Array Oper).size=[0,1]:=rfl
   have g0:(#[o1,o2]:Array Oper)[0]? =some o1:=rfl
   have g1:(#[o1,o2]:Array Oper)[1]? =some o2:=rfl
   rw[hr]
   have x1:∀ (ρ:Operand->Value) (w:World),(execOp ρ o1).run P w= .ok .recover w:=by
    intro ρ w
    simp[execOp,e1,resolve,invoke,builtin]
   have x2:∀ (ρ:Operand->Value) (w:World),(execOp ρ o2).run P w= .ok (.value (ρ (.tmp t))) w:=by
    intro ρ w
    simp[execOp,e4]
   have last:∀cs',cs'={pt with mode:=m'}::cs->wpOpsSIn (ej none) k P #[o1,o2] (fun e a' cs' w'=>e= .normal/\a'=a1/\cs'={pt with mode:=m'}::cs/\w'=w) [1] (({tmps:=tR,defers:=[]}:Act).put (some t) val) cs' w:=by
    rintro cs' rfl
    have hw:Region.wanted o2 (yielded #[o1,o2] (({tmps:=tR,defers:=[]}:Act).put (some t) val).tmps)=true:=by simp[Region.wanted,e6]
    have dM:(({tmps:=tR,defers:=[]}:Act).put (some t) val).eval (.tmp t)=val:=by
     have:t<tR.size:=ad
     simp[Act.put,Act.eval,Array.getD,this]
    simp only[wpOpsSIn,g1,hw,if_true,x2,dM,e5]
    refine⟨fun _ _=>trivial, ?_⟩
    simp[a1,Act.put]
   have hw:Region.wanted o1 (yielded #[o1,o2] tR)=true:=by simp[Region.wanted,e3]
   rw[wpOpsSIn,g0]
   refine⟨fun _ _=>trivial, ?_⟩
   simp only[hw,if_true,x1,e2]
   rcases bV with⟨hr,rfl,rfl⟩|hr
   ·simp only[hr]
    exact last _ (by rw[hc0])
   ·simp only[hr]
    exact last _ rfl
  ·refine wpSIn_region ?_
   have hr:List.range (#[o1]:Array Oper).size=[0]:=rfl
   have g0:(#[o1]:Array Oper)[0]? =some o1:=rfl
   rw[hr]
   have x1:∀ (ρ:Operand->Value) (w:World),(execOp ρ o1).run P w= .ok .recover w:=by
    intro ρ w
    simp[execOp,e1,resolve,invoke,builtin]
   have same:a1=({tmps:=tR,defers:=[]}:Act).put (some t1) val:=by
    simp only[a1,Act.put]
    congr 1
    apply Array.ext_getElem?
    intro j
    simp only[Array.getElem?_setIfInBounds]
    by_cases hj:t1=j
    ·subst hj;simp
    ·simp[hj]
   have last:∀cs',cs'={pt with mode:=m'}::cs->wpOpsSIn (ej none) k P #[o1] (fun e a' cs' w'=>e= .normal/\a'=a1/\cs'={pt with mode:=m'}::cs/\w'=w) [] (({tmps:=tR,defers:=[]}:Act).put (some t1) val) cs' w:=by
    rintro cs' rfl
    simp only[wpOpsSIn]
    exact⟨trivial,same.symm,trivial,trivial⟩
   have hw:Region.wanted o1 (yielded #[o1] tR)=true:=by simp[Region.wanted,e3]
   rw[wpOpsSIn,g0]
   refine⟨fun _ _=>trivial, ?_⟩
   simp only[hw,if_true,x1,e2]
   rcases bV with⟨hr,rfl,rfl⟩|hr
   ·simp only[hr]
    exact last _ (by rw[hc0])
   ·simp only[hr]
    exact last _ rfl
 obtain⟨er,ar,csr,wr,hl,⟨rfl,rfl,rfl,hwr⟩,cP⟩:=NS b [.code c] rfl rfl trivial (fun d hd=>by simp[ej]at hd)
 rw[hwr]at cP
 let s0:S:=⟨aM (aM (cF aG) t u) t1 u,o,nx⟩
 have gB:cw M φ (hp o nx) w n ⟨[],true⟩ φ s0 a1 w:=by
  refine⟨hH,Trans.refl _ _ _,by simp[a1,acb],⟨[],rfl,List.nodup_nil,fun _=>rfl,fun r hr=>by cases hr⟩,fun i=> ?_⟩
  have eL:=uG (m:=fn.ntmps - vals.size) hd i
  simp only[s0,a1,aS]
  have ht0:t<tR.size:=ad
  have acd:t1<tR.size:=ad
  by_cases h1:i=t1
  ·subst h1
   simp only[if_true]
   have:((tR.setIfInBounds t val).setIfInBounds i val).getD i undef=val:=by simp[Array.getD,acd]
   rw[this];exact hv
  ·simp only[h1,if_false]
   have e1:((tR.setIfInBounds t val).setIfInBounds t1 val).getD i undef=(tR.setIfInBounds t val).getD i undef:=by
    simp only[Array.getD_eq_getD_getElem?]
    rw[Array.getElem?_setIfInBounds_ne (Ne.symm h1)]
   rw[e1]
   by_cases h2:i=t
   ·subst h2
    simp only[if_true]
    have:(tR.setIfInBounds i val).getD i undef=val:=by simp[Array.getD,ht0]
    rw[this];exact hv
   ·simp only[h2,if_false]
    have e1:(tR.setIfInBounds t val).getD i undef=tR.getD i undef:=by
     simp only[Array.getD_eq_getD_getElem?]
     rw[Array.getElem?_setIfInBounds_ne (Ne.symm h2)]
    rw[e1];exact eL
 have hcw:=iZ (P:=P) (n:=n) (b:=nx) (rd:=true) bD c _ _ s0 (fun _ _ h=>h) (by rw[rM];exact h)
 obtain⟨e,a',w',⟨x,s',aQ,hq,iK,hx⟩,Fl⟩:=iT (P:=P) (H0:=hp o nx) (b:=nx) (cx:=⟨[],true⟩) (ro:=none) (fun id hu=>hu) (fun h=>by cases h) c _ s0 φ a1 w hcw gB b [] ({pt with mode:=m'}::cs) rfl cJ
 have i0:(lone (b.atR {tmps:=tR,defers:=[]} [.code (.seq (.region id ops false) c)]) (pt::cs) w).fenced P (ej none):=fenced_calm (n:=0) trivial iA rfl
 have Qz:StepsIn (Machine.fenced P (ej none)) P (lone (b.atR {tmps:=tR,defers:=[]} [.code (.seq (.region id ops false) c)]) (pt::cs) w) (lone (b.atR a1 [.code c]) ({pt with mode:=m'}::cs) w):= .head i0 stepR_seq cP
 have uX:a'.defers=[]:=by
  obtain⟨ms,g1,_,g3,_⟩:=iK.defers
  exact S9
 have Y8:∀tm:Array Value,∃v,(results fn tm).run P w'= .ok v w':=by
  intro tm
  refine⟨_,nn (vals:=[]) ?_⟩
  rw[BD];rfl
 rw[mg]
 obtain⟨v,tg⟩:=Y8 a'.tmps
 cases e<;>cases x<;>first|(exact hx.elim)|(exact hq.elim)|skip
 ·exact⟨.returned v,m',w',_,⟨v,aQ,s'.o,s'.nx,rfl,hm',iK.heap,iK.tr,hq⟩,StepsIn.trans Qz (StepsIn.trans Fl (.one (fenced_calm (n:=0) (fr:=b.atR a' []) trivial iA rfl) (stepR_end rfl))),rfl,rfl,rfl,uX,fn,hf,tg⟩
 ·obtain⟨todo,hs⟩:=Fl.1 rfl
  exact⟨.returned v,m',w',_,⟨v,aQ,s'.o,s'.nx,rfl,hm',iK.heap,iK.tr,hq⟩,StepsIn.trans Qz hs,rfl,rfl,rfl,uX,fn,hf,tg⟩
theorem Cf{d c:Code}{ro:Option Nat}{Q:Exit->Act->World->Prop}{a:Act}{w:World}(h:d=c\/d= .scope c)(hg:∀l a w, ¬Q (.goto l) a w)(hc:c.tn P ro Q a w):d.tn P ro Q a w:=by
 rcases h with rfl|rfl
 ·exact hc
 ·exact xF hc hg
theorem cO.Cg (bD:P.follows .mixedOrders=true){f g:FuncId}{iQ eJ x7:IC}{t m r r1:Nat}{fI:List Operand}{rs:List ResultVar}(hf:FE P f n iQ eJ g t fI rs)(hg:Cd P g m r r1 x7)
 {args:List V} {o:Nat->ab} {nx:Nat} {K X:V->(Nat->ab)->Nat->Prop} (hl:args.length<=n)
 (h:tP P n nx true iQ (Ce P n t eJ fI g fun aG=>zV P m r r1 x7 aG rs K X) ⟨cF args,o,nx⟩):cO P f args o nx K X:=by
 obtain⟨fn,id,o1,o2,ca,cb,cd,Hi,Qy,hnt,BD,ql,hsc,e1,e2,e3,e4,e5,e6,ht,hla,W0⟩:=hf.get
 obtain⟨gn,_,_,gc,hgn,Ue,_,_,Uf,_⟩:=hg.get
 refine⟨⟨fn,Hi,Qy,by rw[ql];rfl⟩,fun M φ w vals hH hd=> ?_⟩
 have hlen:=V.aH _ _ hd
 let s0:S:=⟨cF args,o,nx⟩
 let a0:Act:={tmps:=vals++Array.replicate (fn.ntmps - vals.size) undef,defers:=[]}
 have gB:cw M φ (hp o nx) w n ⟨[],true⟩ φ s0 a0 w:=by
  refine⟨hH,Trans.refl _ _ _, ?_,⟨[],rfl,List.nodup_nil,fun _=>rfl,fun r hr=>by cases hr⟩,uG hd⟩
  simp only[a0,Array.size_append,Array.size_replicate];simp at hlen;omega
 have ha:=iZ (P:=P) (n:=n) (b:=nx) (rd:=true) bD ca _ _ s0 (fun _ _ h=>h) (by rw[hla];exact h)
 refine Bx (ro:=none) (k:=0) (np Hi ql (zy (iB (iT (P:=P) (H0:=hp o nx) (b:=nx) (cx:=⟨[],true⟩) (ro:=none) (fun id hu=>hu) (fun h=>by cases h) ca _ s0 φ a0 w ha gB) ?_)))
 rintro e a1 w1 ⟨x,s1,jC,hq,xJ,hm⟩
 cases e<;>cases x<;>first|(exact hm.elim)|(exact hq.elim)|skip
 have uX:a1.defers=[]:=by
  obtain⟨ms,g1,_,g3,_⟩:=xJ.defers
  exact S9
 let cv:Array Value:=(fI.map a1.eval).toArray
 let fv:Value:= .func (.func g) #[] cv
 let dd:Deferred:={target:= .fn (.func g) cv,args:=#[]}
 let a2:Act:={tmps:=a1.tmps.setIfInBounds t fv,defers:=[dd]}
 have QA:V.aN (ay M jC s1.H) jC s1.H w1 (fI.map s1.ev) cv.toList:=by
  simpa[cv]using kO (M:=M) (φ:=jC) (H:=s1.H) (w:=w1) s1 a1 xJ.env fI
 refine Cf hsc (fun l a w h=> ?_) ?_
 ·exact h.elim
 refine zy (iB (Q:=fun e a w=>e= .normal/\a=a2/\w=w1) (pg (k:=0) (wpIn_region_list ?_)) ?_)
 ·have y1:Region.wanted o1 (yielded #[o1,o2] a1.tmps)=true:=by simp[Region.wanted,e3]
  have y2:∀tm,Region.wanted o2 (yielded #[o1,o2] tm)=true:=by intro tm;simp[Region.wanted,e6]
  have dM:(a1.put (some t) fv).eval (.tmp t)=fv:=by
   have:t<a1.tmps.size:=by rw[xJ.size];exact ht
   simp[Act.put,Act.eval,Array.getD,this]
  show wpListIn (ej none) 0 P #[o1,o2] _ [o1,o2] a1 w1
  unfold wpListIn
  rw[if_pos y1]
  have x1:(execOp a1.eval o1).run P w1= .ok (.value fv) w1:=by simp[execOp,e1,fv,cv,Instr.makeFunc]
  refine kS (fun c hc=>by rw[e1]at hc;cases hc) ?_
  rw[x1]
  show wpListIn (ej none) 0 P #[o1,o2] _ [o2] (a1.put o1.dst fv) w1
  rw[e2]
  unfold wpListIn
  rw[if_pos (y2 _)]
  have x2:(execOp (a1.put (some t) fv).eval o2).run P w1= .ok (.defer dd) w1:=by
   simp[execOp,e4,resolve,dM,Deferred.ofValue,fv,dd]
  refine⟨fun _ _=>trivial, ?_⟩
  have:(o2.semAt (ej none).round (a1.put (some t) fv).eval)=execOp (a1.put (some t) fv).eval o2:=rfl
  rw[this,x2]
  unfold Oper.uponIn
  simp only[e5,wpListIn,Act.put,uX,a2,and_self]
 rintro e a w2 ⟨rfl,rfl,rfl⟩
 have Dn:t<a1.tmps.size:=by rw[xJ.size];exact ht
 let s2:S:=⟨aM s1.env t (.func (.func g) [] (fI.map s1.ev)),s1.o,s1.nx⟩
 have ML:cw M jC s1.H w2 n ⟨[dd],false⟩ jC s2 a2 w2:=by
  refine⟨xJ.heap,Trans.refl _ _ _,by simp[a2,xJ.size],⟨[],rfl,List.nodup_nil,fun _=>rfl,fun r hr=>by cases hr⟩,fun i=> ?_⟩
  simp only[s2,a2,aS]
  by_cases h1:i=t
  ·subst h1
   have:(a1.tmps.setIfInBounds i fv).getD i undef=fv:=by simp[Array.getD,Dn]
   simp only[if_true];rw[this]
   exact⟨#[],cv,rfl,rfl,QA⟩
  ·have:(a1.tmps.setIfInBounds t fv).getD i undef=a1.tmps.getD i undef:=by
    simp only[Array.getD_eq_getD_getElem?]
    rw[Array.getElem?_setIfInBounds_ne (Ne.symm h1)]
   simp only[h1,if_false];rw[this]
   exact xJ.env i
 have hb:=iZ (P:=P) (n:=n) (b:=s1.nx) (rd:=false) bD cb _ _ s2 (fun _ _ h=>h) (by rw[W0];exact hq)
 refine iB (iT (P:=P) (H0:=s1.H) (b:=s1.nx) (cx:=⟨[dd],false⟩) (ro:=none) (fun id hu=>hu) (fun _=>rfl) cb _ s2 jC a2 w2 hb ML) ?_
 rintro e a3 w3 ⟨x,s3,Y9,hq3,Fm,wL⟩
 obtain⟨ms,g1,g2,_,g4⟩:=Fm.defers
 have hinv:(invoke dd.target dd.args).run P=fun w=> .ok (.enter g cv) w:=by
  funext w
  have:=lJ (w:=w) ⟨gn,hgn,Ue,by rw[Uf];rfl⟩ cv
  simpa[dd,invoke]using this
 have last:∀ {w4:World} {tm:Array Value} {u:V} {val:Value} {m0:FrameMode},m0≠ .run->zB M jC s1.H w2 Y9 s3 a3.tmps w4->V.den (ay M Y9 s3.H) Y9 s3.H w4 u val->
  ((m0= .returning/\val= .nilIface)\/m0= .panicking [{v:=val,recovered:=false}])->
  (Em P m r r1 x7 (fI.map s1.ev) u s3.o s3.nx fun o nx=>mi P rs K X .ret ⟨s3.env,o,nx⟩)->
  LeavesInM (ej none) 0 P fn a3.tmps (nh M φ (hp o nx) w K X) [dd] m0 w4:=by
  intro w4 tm u val m0 fF hB Nz hm0 bV
  have Ug:=V.ba hB.tr _ _ QA
  refine⟨fF, .inr ⟨fun h=>by simp[ej]at h, .func g,cv,g,cv,rfl,by rw[hinv],fun _ _=>trivial,CallsDIn.mono (HL (k:=0 - 1) bD hg bV (m:=m0) hB.heap Ug Nz hm0) ?_⟩⟩
  rintro e u' w5 ⟨v,φ5,o5,nx5,rfl,zW,k1,k2,k3⟩
  show LeavesInM (ej none) 0 P fn a3.tmps (nh M φ (hp o nx) w K X) [] (settle u') w5
  rw[zW]
  obtain⟨vs,h1,h2⟩:=BF k3
  rw[<- BD]at h1
  have Za:∀i,V.den (ay M φ5 (hp o5 nx5)) φ5 (hp o5 nx5) w5 (s3.env i) (a3.tmps.getD i undef):=fun i=>V.aT k2 _ _ (hB.env i)
  obtain⟨adt,h3,h4⟩:=tO (P:=P) (s:=⟨s3.env,o5,nx5⟩) (a:=a3) k1 Za _ _ h1
  exact⟨_,nn h3,φ5,o5,nx5,_,k1,xJ.tr.trans (hB.tr.trans k2),BG h4,h2⟩
 have done:Em P m r r1 x7 (fI.map s1.ev) (.d .fD) s3.o s3.nx (fun o nx=>mi P rs K X .ret ⟨s3.env,o,nx⟩)->LeavesInM (ej none) 0 P fn a3.tmps (nh M φ (hp o nx) w K X) a3.defers .returning w3:=by
  intro bV
  rw[g1]
  exact iC (P:=P) (k:=0) (fn:=fn) (R:=nh M φ (hp o nx) w K X) (u:= .returning) aj (ds:=[dd]) (fun w4 hB=>last (tm:=a3.tmps) aj hB (u:= .d .fD) (val:= .nilIface) (by simp[V.den,D.den]) (.inl ⟨rfl,rfl⟩) bV) ms w3 g2 g4 Fm.toB
 cases e<;>cases x<;>first|(exact wL.elim)|skip
 ·exact done hq3
 ·exact hq3.elim
 ·exact done hq3
 ·rename_i v
  obtain⟨val,rfl,hd'⟩:=wL
  show LeavesInM (ej none) 0 P fn a3.tmps (nh M φ (hp o nx) w K X) a3.defers _ w3
  rw[g1]
  let Zb:Nat->V:=fun i=>match i with|0=>v|i+1=>s3.env i
  have Zc:(#[val]++a3.tmps).getD 0 undef=val:=by simp[Array.getD]
  have Zd:∀i,(#[val]++a3.tmps).getD (i+1) undef=a3.tmps.getD i undef:=by
   intro i
   simp only[Array.getD_eq_getD_getElem?]
   rw[Array.getElem?_append_right (by simp)]
   simp
  have MM:zB M jC s1.H w2 Y9 ⟨Zb,s3.o,s3.nx⟩ (#[val]++a3.tmps) w3:=⟨Fm.heap,Fm.tr,fun i=>by
   cases i with
   |zero=>rw[Zc];exact hd'
   |succ i=>rw[Zd];exact Fm.env i⟩
  have Kq:∀w4,zB M jC s1.H w2 Y9 ⟨Zb,s3.o,s3.nx⟩ (#[val]++a3.tmps) w4->LeavesInM (ej none) 0 P fn a3.tmps (nh M φ (hp o nx) w K X) [dd] (.panicking [{v:=val,recovered:=false}]) w4:=by
   intro w4 hB
   have hv4:=hB.env 0
   rw[Zc]at hv4
   refine last (tm:=a3.tmps) aj ⟨hB.heap,hB.tr,fun i=> ?_⟩ hv4 (.inr rfl) hq3
   have hs:=hB.env (i+1)
   rw[Zd]at hs
   exact hs
  exact iC (P:=P) (k:=0) (fn:=fn) (R:=nh M φ (hp o nx) w K X) (u:= .panicking [{v:=val,recovered:=false}]) aj (ds:=[dd]) Kq ms w3 g2 g4 MM
end
end Go.Proofs.YtonbelhklnmjnaaGreat
namespace Go.Proofs.YtonbelhklnmjnaaGreat
theorem xN.En {P:Program}{g:FuncId}{ds:List D}{o:Nat->ab}{fr:Nat}{ty:TypeId}{sz:Nat}{es:List D}
 (h:cO P g (ds.map .d) (fun _=> .no) 0 (fun v o1 _=>(∃j ep,v= .osl j ep/\o1 j= .arr ep ty sz es)\/(v= .bO/\es=[]/\0<sz)) (fun _ _ _=>False)):
 xN P g (ds.map .d) [] o fr (.osl fr 0) [(fr, .arr 0 ty sz es)]:=by
 refine⟨h.1,fun o' us M φ w vals _ dc hH hd=> ?_⟩
 let cT:Place:=fun _=> .nilFunc
 have wO:∀b, ¬df cT (hp (fun _=> .no) 0) b:=by rintro b ⟨id,hl,_⟩;simp[hp,ab.live]at hl
 have hM:∀b,ay M φ ⟨o',us⟩ b->b<w.heap.size:=fun b hb=>hb.elim (hH.AL b) fun hl=>(hH.ours b hl).2
 have xj:=(V.cE _ _).1 hd
 refine(h.2 (ay M φ ⟨o',us⟩) cT w vals (lM cT hM) ((V.cE _ _).2 (D.ba (w:=w) (w':=w) (B:=ay M φ ⟨o',us⟩) (fun b _ hB=>⟨rfl,fun h=>h.elim hB (wO b)⟩) _ _ xj))).mono ?_
 rintro e w' ⟨jC,o1,n1,v,k1,k2,k3⟩
 have hk:eK (fun _=>False) w w':=⟨k2.cA.os,k2.cA.tape,k2.cA.output,k2.cA.size,fun k hk _=>k2.cA.block k hk (wO k)⟩
 have IZ:(⟨o',us⟩:Hp).put [(fr, .arr 0 ty sz es)]=⟨put o' [(fr, .arr 0 ty sz es)],fun id=>us id\/id=fr⟩:=by
  simp only[Hp.put]
  congr 1
  funext id
  simp
 have fin:∀ (val:Value) (xs:List Value),(∀b,eQ val=some b->w.heap.size<=b/\b<w'.heap.size)->0<sz->w'.ownsRow 0 ty sz val es.length xs->
  (gJ (ay M (aM φ fr val) ((⟨o',us⟩:Hp).put [(fr, .arr 0 ty sz es)])) w' sz es xs)->
  val.oneCell'=true->
  ∃aQ,aD M aQ ⟨put o' [(fr, .arr 0 ty sz es)],fun id=>us id\/id=fr⟩ w'/\Trans φ ⟨o',us⟩ w aQ ⟨put o' [(fr, .arr 0 ty sz es)],fun id=>us id\/id=fr⟩ w'/\
   ∃Kr,Ending.returned val= .returned Kr/\V.den (ay M aQ ⟨put o' [(fr, .arr 0 ty sz es)],fun id=>us id\/id=fr⟩) aQ ⟨put o' [(fr, .arr 0 ty sz es)],fun id=>us id\/id=fr⟩ w' (.osl fr 0) Kr:=by
  intro val xs kg eh eA bZ Uh
  have qk:=jt hH hk dc (.arr 0 ty sz es) val kg (by
   unfold bc
   rw[show((⟨o',us⟩:Hp).put [(fr, .arr 0 ty sz es)]).o fr= .arr 0 ty sz es by simp]
   refine⟨eh,xs, ?_,bZ⟩
   rw[show aM φ fr val fr=val by simp]
   exact eA)
  have QB:=eS (φ:=φ) (H:=⟨o',us⟩) hk dc (.arr 0 ty sz es) val (fun b hb=>(kg b hb).1)
  rw[IZ]at qk QB
  refine⟨aM φ fr val,qk,QB,val,rfl,Uh, .inr rfl,fun e he=> ?_⟩
  have oD:0=e:=by
   have:(put o' [(fr,ab.arr 0 ty sz es)] fr).cy=some 0:=by simp[put,ab.cy]
   rw[show(⟨put o' [(fr, .arr 0 ty sz es)],fun id=>us id\/id=fr⟩:Hp).o fr=put o' [(fr, .arr 0 ty sz es)] fr from rfl,this]at he
   injection he
  exact⟨ad,fun _=>aj⟩
 cases e with
 |outgrown=>exact k3.elim
 |panicked ch=>obtain⟨_,_,_,h⟩:=k3;exact h.elim
 |returned val=>
  obtain⟨g1,⟨j,ep,rfl,hj⟩|⟨rfl,rfl,eh⟩⟩:=k3
  ·obtain⟨v0,v1,v2⟩:=g1
   have fO:val=jC j:=(v2 ep (by show(o1 j).cy=some ep;rw[hj];rfl)).2 rfl
   have c7:∀b,eQ val=some b->df jC (hp o1 n1) b:=fun b hb=>⟨j,by show(o1 j).live=true;rw[hj];rfl,by rw[<- fO];exact hb⟩
   have kg:∀b,eQ val=some b->w.heap.size<=b/\b<w'.heap.size:=fun b hb=>⟨(k2.grow b (c7 b hb)).resolve_left (wO b),(k1.ours b (c7 b hb)).2⟩
   have Ks:=k1.ok j
   unfold bc at Ks
   rw[show(hp o1 n1).o j= .arr ep ty sz es from hj]at Ks
   obtain⟨eh,xs,eA,bZ⟩:=Ks
   have hBs:∀b,ay M (aM φ fr val) ((⟨o',us⟩:Hp).put [(fr, .arr 0 ty sz es)]) b->ay (ay M φ ⟨o',us⟩) jC (hp o1 n1) b:=by
    rintro b (hb|⟨id,hl,hb⟩)
    ·exact .inl (.inl hb)
    ·by_cases e:id=fr
     ·subst e
      simp at hb
      exact .inr (c7 b hb)
     ·simp[e]at hl hb
      exact .inl (.inr ⟨id,hl,hb⟩)
   exact fin val xs kg eh (by rw[fO];exact eA) (bZ.mono (w:=w') (w':=w') (fun b _ hB=>⟨rfl,fun h=>hB (hBs b h)⟩)) v0
  ·have g1:val= .slice none 0 0:=g1
   subst g1
   exact fin _ [] (fun b hb=>by cases hb) eh (World.ownsRow_nil w' 0 ty sz) ⟨[],rfl,aj,rfl⟩ rfl
theorem xN.N8 {P:Program}{g:FuncId}{args:List V}{ds:List D}{o:Nat->ab}{fr:Nat}{ty:TypeId}{sz:Nat}{es:List D}
 (fe:ct o args=some ds) (pK:D.ko es=true) (h:cO P g (ds.map .d) (fun _=> .no) 0 (fun v o1 _=>(∃j ep,v= .osl j ep/\o1 j= .arr ep ty sz es)\/(v= .bO/\es=[]/\0<sz)) (fun _ _ _=>False)):
 xN P g args (V.bF args) o fr (.osl fr 0) [(fr, .arr 0 ty sz es)]:=by
 refine⟨h.1,fun o' us M φ w vals hag dc hH hd=> ?_⟩
 obtain⟨f1,f2,f3,f4,f5⟩:=dx hH (V.bF args) (fun id aC=>(hag id aC).2)
 generalize hHF:(⟨o',us⟩:Hp).put (dn (⟨o',us⟩:Hp).o (V.bF args))=HF at f1 f2 f3
 let cT:Place:=fun _=> .nilFunc
 have wO:∀b, ¬df cT (hp (fun _=> .no) 0) b:=by rintro b ⟨id,hl,_⟩;simp[hp,ab.live]at hl
 have hM:∀b,ay M φ HF b->b<w.heap.size:=fun b hb=>hb.elim (f1.AL b) fun hl=>(f1.ours b hl).2
 have xj:D.aN (ay M φ HF) w ds vals.toList:=dH f1 args ds _ (fun id aC=>by rw[f3 id aC];show(o' id).fz=(o id).fz;rw[(hag id aC).1]) fe (V.ba f2 _ _ hd)
 refine(h.2 (ay M φ HF) cT w vals (lM cT hM) ((V.cE _ _).2 (D.ba (w:=w) (w':=w) (B:=ay M φ HF) (fun b _ hB=>⟨rfl,fun h=>h.elim hB (wO b)⟩) _ _ xj))).mono ?_
 rintro e w' ⟨jC,o1,n1,v,k1,k2,k3⟩
 have hk:eK (fun _=>False) w w':=⟨k2.cA.os,k2.cA.tape,k2.cA.output,k2.cA.size,fun k hk _=>k2.cA.block k hk (wO k)⟩
 have IZ:(⟨o',us⟩:Hp).put [(fr, .arr 0 ty sz es)]=⟨put o' [(fr, .arr 0 ty sz es)],fun id=>us id\/id=fr⟩:=by
  simp only[Hp.put]
  congr 1
  funext id
  simp
 have fin:∀ (val:Value) (xs:List Value),(∀b,eQ val=some b->w.heap.size<=b/\b<w'.heap.size)->0<sz->w'.ownsRow 0 ty sz val es.length xs->
  (gJ (ay M (aM φ fr val) ((⟨o',us⟩:Hp).put [(fr, .arr 0 ty sz es)])) w' sz es xs)->
  val.oneCell'=true->
  ∃aQ,aD M aQ ⟨put o' [(fr, .arr 0 ty sz es)],fun id=>us id\/id=fr⟩ w'/\Trans φ ⟨o',us⟩ w aQ ⟨put o' [(fr, .arr 0 ty sz es)],fun id=>us id\/id=fr⟩ w'/\
   ∃Kr,Ending.returned val= .returned Kr/\V.den (ay M aQ ⟨put o' [(fr, .arr 0 ty sz es)],fun id=>us id\/id=fr⟩) aQ ⟨put o' [(fr, .arr 0 ty sz es)],fun id=>us id\/id=fr⟩ w' (.osl fr 0) Kr:=by
  intro val xs kg eh eA bZ Uh
  have qk:=jt hH hk dc (.arr 0 ty sz es) val kg (by
   unfold bc
   rw[show((⟨o',us⟩:Hp).put [(fr, .arr 0 ty sz es)]).o fr= .arr 0 ty sz es by simp]
   refine⟨eh,xs, ?_,bZ⟩
   rw[show aM φ fr val fr=val by simp]
   exact eA)
  have QB:=eS (φ:=φ) (H:=⟨o',us⟩) hk dc (.arr 0 ty sz es) val (fun b hb=>(kg b hb).1)
  rw[IZ]at qk QB
  refine⟨aM φ fr val,qk,QB,val,rfl,Uh, .inr rfl,fun e he=> ?_⟩
  have oD:0=e:=by
   have:(put o' [(fr,ab.arr 0 ty sz es)] fr).cy=some 0:=by simp[put,ab.cy]
   rw[show(⟨put o' [(fr, .arr 0 ty sz es)],fun id=>us id\/id=fr⟩:Hp).o fr=put o' [(fr, .arr 0 ty sz es)] fr from rfl,this]at he
   injection he
  exact⟨ad,fun _=>aj⟩
 cases e with
 |outgrown=>exact k3.elim
 |panicked ch=>obtain⟨_,_,_,h⟩:=k3;exact h.elim
 |returned val=>
  obtain⟨g1,⟨j,ep,rfl,hj⟩|⟨rfl,rfl,eh⟩⟩:=k3
  ·obtain⟨v0,v1,v2⟩:=g1
   have fO:val=jC j:=(v2 ep (by show(o1 j).cy=some ep;rw[hj];rfl)).2 rfl
   have c7:∀b,eQ val=some b->df jC (hp o1 n1) b:=fun b hb=>⟨j,by show(o1 j).live=true;rw[hj];rfl,by rw[<- fO];exact hb⟩
   have kg:∀b,eQ val=some b->w.heap.size<=b/\b<w'.heap.size:=fun b hb=>⟨(k2.grow b (c7 b hb)).resolve_left (wO b),(k1.ours b (c7 b hb)).2⟩
   have Ks:=k1.ok j
   unfold bc at Ks
   rw[show(hp o1 n1).o j= .arr ep ty sz es from hj]at Ks
   obtain⟨eh,xs,eA,bZ⟩:=Ks
   obtain⟨evs,e1,e2,e3⟩:=bZ
   exact fin val xs kg eh (by rw[fO];exact eA) ⟨evs,e1,e2,D.ma _ _ pK e3⟩ v0
  ·have g1:val= .slice none 0 0:=g1
   subst g1
   exact fin _ [] (fun b hb=>by cases hb) eh (World.ownsRow_nil w' 0 ty sz) ⟨[],rfl,aj,rfl⟩ rfl
theorem xN.N9 {P:Program}{g:FuncId}{args:List V}{ds:List D}{o0 o:Nat->ab}{rd:List Nat}{fr:Nat}{v:V}{Δ:List (Nat×ab)}(aC:V.bF args=[])(fe:ct o0 args=some ds)
 (h:xN P g (ds.map .d) rd o fr v Δ):xN P g args rd o fr v Δ:=
 ⟨h.1,fun o' us M φ w vals h1 h2 hH hd=>h.2 o' us M φ w vals h1 h2 hH ((V.cE _ _).2 (dH hH args ds _ (by rw[aC];intro id h;cases h) fe hd))⟩
def QC(P:Program)(f:FuncId):Prop:=
 Enters P f/\∀ (w:World) (b:Nat) (es:Array MapEntry) (clock:Nat),w.heap[b]? =some (.map es clock)->
  Calls P f #[.map (some b)] w fun e w'=>e= .returned (.map (some w.heap.size))/\w'=w.alloc (.map es clock)
theorem cO.Ui {P:Program}{f:FuncId}(h:QC P f){o:Nat->ab}{nx id:Nat}{kt vt:TypeId}{l:List (D×D)}(ho:o id= .map kt vt l){K X:V->(Nat->ab)->Nat->Prop}
 (hK:K (.mp nx) (aM o nx (.map kt vt l)) (nx+1)):cO P f [.mp id] o nx K X:=by
 refine⟨h.1,fun M φ w vals hH hd=> ?_⟩
 have hlen:=V.aH _ _ hd
 obtain⟨v,rfl⟩:∃v,vals=#[v]:=by
  match vals,hlen with
  |⟨[v]⟩,_=>exact⟨v,rfl⟩
 obtain⟨v',tg,Nz⟩:=V.dV _ _ 0 (.mp id) hd rfl
 simp only[List.getElem?_cons_zero,Option.some.injEq]at tg
 subst tg
 have bp:=hH.ok id
 have xK:(hp o nx).o id= .map kt vt l:=ho
 simp only[bc,xK]at bp
 obtain⟨b,es,clock,e1,e2,e3,e4⟩:=bp
 have hv:v=φ id:=Nz.2.2 (by rw[xK];rfl)
 rw[hv,e1]
 refine(h.2 w b es clock e2).mono fun e w' ⟨he,hw⟩=> ?_
 subst he;subst hw
 have dc: ¬ (hp o nx).us nx:=fun h=>Nat.lt_irrefl _ h
 have IZ:(hp o nx).put [(nx, .map kt vt l)]=hp (aM o nx (.map kt vt l)) (nx+1):=by
  simp only[Hp.put,hp]
  congr 1
  funext j
  simp only[List.map_cons,List.map_nil,List.mem_singleton,eq_iff_iff]
  omega
 have hvb:∀c,eQ (.map (some w.heap.size))=some c->w.heap.size<=c/\c<(w.alloc (.map es clock)).heap.size:=by
  intro c hc;simp[eQ]at hc;subst hc;simp
 have ht:=eS (φ:=φ) (H:=hp o nx) (cU w (.map es clock)) dc (.map kt vt l) (.map (some w.heap.size)) fun c hc=>(hvb c hc).1
 refine⟨aM φ nx (.map (some w.heap.size)),aM o nx (.map kt vt l),nx+1, .mp nx, ?_, ?_, ?_,hK⟩
 ·rw[<- IZ]
  refine jt hH (cU w _) dc _ _ hvb ?_
  unfold bc
  simp only[bQ,aS,if_true]
  exact⟨w.heap.size,es,clock,rfl,heap_alloc_new w _,e3,aY.mono (ht.blocks (M:=M)) l _ e4⟩
 ·rw[<- IZ];exact ht
 ·rw[<- IZ];exact⟨rfl,aj,fun _=>aj⟩
end Go.Proofs.YtonbelhklnmjnaaGreat
