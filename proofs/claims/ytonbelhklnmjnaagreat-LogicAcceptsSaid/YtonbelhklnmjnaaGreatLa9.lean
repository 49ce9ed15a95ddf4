/-
  A PART OF THE PROOF. Conditions: none.
-/
import Derived.Test.YtonbelhklnmjnaaGreatLa8
set_option linter.unusedSimpArgs false
set_option linter.unusedVariables false
namespace Go.Proofs.YtonbelhklnmjnaaGreat
@[go_sem] theorem oE (v:V) (l:List V):bz (v::l) 0=v:=rfl
@[go_sem] theorem oF (v:V) (l:List V) (i:Nat):bz (v::l) (i+1)=bz l i:=rfl
@[go_sem] theorem re (i:Nat):bz [] i= .aa:=by simp[bz]
@[go_sem] theorem Rx (k:Nat):(0<=(k:Int))=True:=au
attribute [go_sem] List.getElem?_map List.length_map Int.toNat_natCast
attribute [go_sem] ft List.flatMap_cons List.flatMap_nil
attribute [go_sem] isConst sj Ol se si BR sd qv Er Om xZ HK pA pB xY u4 u5 qw
attribute [go_sem] qk V.refs V.aQ
attribute [go_sem] List.all_nil List.all_cons Option.some.injEq D.int.injEq D.bool.injEq Nat.zero_add Nat.add_zero
theorem wrap64{n:Int}(h1: -9223372036854775808<=n)(h2:n<=9223372036854775807):IntKind.i64.wrap n=n:=by
 unfold IntKind.wrap
 have e1:((2:Int)^IntKind.i64.bits)=18446744073709551616:=aT
 have e2:((2:Int)^(IntKind.i64.bits - 1))=9223372036854775808:=aT
 have e3:IntKind.i64.signed=true:=rfl
 simp only[e1,e2,e3,Bool.true_and,decide_eq_true_eq]
 split<;>omega
structure Good (o:Nat->ae) (nx:Nat):Prop where
 fresh:∀id,nx<=id->o id= .no
 refs:∀id,∀r∈(o id).refs,r<nx
theorem Good.nil {nx:Nat}:Good (fun _=> .no) nx:=⟨fun _ _=>rfl,fun id r h=>by cases h⟩
theorem Good.aK {o:Nat->ae}{nx i:Nat}{x:ae}(h:Good o nx)(hi:i<nx)(hx:x.refs.all (fun r=>decide (r<nx))=true):Good (aK o i x) nx:=by
 refine⟨fun id aC=> ?_,fun id r hr=> ?_⟩
 ·rw[aj _ _ _ _ (by omega)];exact h.fresh id aC
 ·by_cases e:id=i
  ·subst e
   rw[ab]at hr
   simpa using List.all_eq_true.1 hx r hr
  ·rw[aj _ _ _ _ e]at hr
   exact h.refs id r hr
theorem Good.mono {o:Nat->ae}{nx m:Nat}(h:Good o nx)(hm:nx<=m):Good o m:=⟨fun id aC=>h.fresh id ad,fun id r hr=>Nat.lt_of_lt_of_le (h.refs id r hr) hm⟩
theorem Good.lt {o:Nat->ae}{nx id:Nat}(h:Good o nx)(hn:o id≠ .no):id<nx:=by
 rcases Nat.lt_or_ge id nx with hl|hl
 ·exact hl
 ·exact absurd (h.fresh id hl) hn
theorem V.sK:∀ (l:List V) (i:Nat),∀r∈(bz l i).refs,r∈V.aQ l
 |[],i,r,h=>by rw[re]at h;cases h
 |v::l,0,r,h=>by rw[oE]at h;simp only[V.aQ,List.mem_append];exact .inl h
 |v::l,i+1,r,h=>by rw[oF]at h;simp only[V.aQ,List.mem_append];exact .inr (V.sK l i r h)
theorem bE.back {b:Nat}{s:S}{env:Nat->V}{o:Nat->ae}{nx:Nat}(hb:b<=nx)(hn:nx<=s.nx)(hg:Good o nx)(ho:∀id,id<nx->s.o id=o id)
 (he:∀i,env i= .aa\/(env i=s.env i/\∀r∈(env i).refs,r<nx)):bE b s ⟨env,o,nx⟩:=by
 intro M φ w tm hH hd
 have dk:∀k,du φ (hp o nx) k->du φ s.H k:=by
  rintro k ⟨id,h1,h2⟩
  have aC:id<nx:=hg.lt (fun e=>by simp only[hp]at h1;rw[e]at h1;cases h1)
  exact⟨id,by simp only[S.H];rw[ho id aC];exact h1,h2⟩
 have hB:∀k, ¬az M φ s.H k-> ¬az M φ (hp o nx) k:=fun k h h'=>h (h'.imp id (dk k))
 have fV:∀ (v:V) (val:Value),(∀r∈v.refs,r<nx)->V.den (az M φ s.H) φ s.H w v val->V.den (az M φ (hp o nx)) φ (hp o nx) w v val:=fun v val hr h=>
  V.nK (H:=s.H) (H':=hp o nx) hB v val (fun id aC=>⟨(ho id (hr id aC)).symm,rfl,hr id aC⟩) h
 have pk:∀ (v:List V) (val:List Value),(∀r∈V.aQ v,r<nx)->V.aP (az M φ s.H) φ s.H w v val->V.aP (az M φ (hp o nx)) φ (hp o nx) w v val:=fun v val hr h=>
  V.ik (H:=s.H) (H':=hp o nx) hB v val (fun id aC=>⟨(ho id (hr id aC)).symm,rfl,hr id aC⟩) h
 refine⟨φ,⟨fun id=> ?_,fun id hu=>hg.fresh id (by simpa[S.H]using hu),fun i j k h1 h2 h3 h4=> ?_,fun k hk=>hH.ours k (dk k hk),hH.Bu⟩,fun i=> ?_,dk,hb,fun id aC hr=> ?_,fun id e' aC o7=> ?_⟩
 ·have bI:=hH.ok id
  have hrefs:=hg.refs id
  unfold bn at bI|-
  by_cases aC:id<nx
  ·have e:s.H.o id=o id:=ho id aC
   rw[e]at bI
   simp only[S.H]at bI|-
   cases hx:o id with
   |no=>trivial
   |row cs=>
    simp only[hx]at bI hrefs|-
    obtain⟨b,dX,ty,k1,k2,k3,k4⟩:=bI
    exact⟨b,dX,ty,k1,k2,pk _ _ hrefs k3,k4⟩
   |arr ep ty sz es=>
    simp only[hx]at bI|-
    obtain⟨k1,xs,k2,evs,k3,k4,k5⟩:=bI
    exact⟨k1,xs,k2,evs,k3,k4,D.bg (fun b _ hn=>⟨rfl,hB b hn⟩) _ _ k5⟩
   |tc ep es=>
    simp only[hx]at bI|-
    exact D.aX (fun b _ hn=>⟨rfl,hB b hn⟩) _ _ bI
   |map kt vt es=>
    simp only[hx]at bI|-
    obtain⟨b,es',clock,k1,k2,k4,k3⟩:=bI
    exact⟨b,es',clock,k1,k2,k4,a8.mono (fun b _ hn=>⟨rfl,hB b hn⟩) _ _ k3⟩
   |iY l=>
    simp only[hx]at bI|-
    exact D.aX (fun b _ hn=>⟨rfl,hB b hn⟩) _ _ bI
   |nq l last=>
    simp only[hx]at bI|-
    obtain⟨b,k1,k2⟩:=bI
    exact⟨b,k1,k2.mono (fun b _ hn=>⟨rfl,hB b hn⟩) rfl⟩
   |zX s pos=>
    simp only[hx]at bI|-
    exact bI
   |loop nf n env ps a b st pd=>
    simp only[hx]at bI hrefs|-
    obtain⟨b,r,k1,k2,k3,k4,k5,k6,k7,k8,k9,Z6⟩:=bI
    exact⟨b,r,k1,k2,k3,k4,k5,k6,k7,k8,k9,fun i=>fV _ _ (fun r hr=>hrefs r (V.sK _ _ r hr)) (Z6 i)⟩
  ·simp only[S.H]
   rw[hg.fresh id (by omega)]
   trivial
 ·have hi:i<nx:=hg.lt (fun e=>by simp only[S.H]at h1;rw[e]at h1;cases h1)
  have hj:j<nx:=hg.lt (fun e=>by simp only[S.H]at h2;rw[e]at h2;cases h2)
  exact hH.apart i j k (by simp only[S.H];rw[ho i hi];exact h1) (by simp only[S.H];rw[ho j hj];exact h2) h3 h4
 ·rcases he i with h|⟨h1,h2⟩
  ·simp only[h];trivial
  ·have:=hd i
   rw[<- h1]at this
   exact fV _ _ h2 this
 ·have db:id<nx:=ad
  exact⟨by rw[ho id db];exact hr,rfl⟩
 ·have db:id<nx:=ad
  exact⟨e',by rw[ho id db];exact o7,Nat.le_refl _,fun _=>rfl⟩
def kD(nx:Nat)(env:Nat->V):List V->Nat->Prop
 |[],_=>True
 |v::l,i=>(v= .aa\/(v=env i/\∀r∈v.refs,r<nx))/\kD nx env l (i+1)
theorem bE.bS {b:Nat}{e:Nat->V}{so:Nat->ae}{m:Nat}(l:List V){o:Nat->ae}{nx:Nat}(hb:b<=nx)(hn:nx<=m)(hg:Good o nx)(ho:∀id,id<nx->so id=o id)(he:kD nx e l 0):bE b ⟨e,so,m⟩ ⟨bz l,o,nx⟩:=by
 refine bE.back hb hn hg ho ?_
 have key:∀ (l:List V) (i:Nat),kD nx e l i->∀j,bz l j= .aa\/(bz l j=e (i+j)/\∀r∈(bz l j).refs,r<nx):=by
  intro l
  induction l with
  |nil=>intro i _ j;rw[re];exact .inl rfl
  |cons v l ih=>
   intro i h j
   cases j with
   |zero=>rw[oE];exact h.1
   |succ j=>
    rw[oF]
    have:=ih (i+1) h.2 j
    rwa [show i+1+j=i+(j+1) by omega]at this
 intro i
 have:=key l 0 he i
 rwa [Nat.zero_add]at this
theorem xU{nx:Nat}{env:Nat->V}{i:Nat}:kD nx env [] i:=trivial
theorem uV{nx:Nat}{env:Nat->V}{l:List V}{i:Nat}(h:kD nx env l (i+1)):kD nx env (.aa::l) i:=⟨.inl rfl,h⟩
theorem qp{nx:Nat}{env:Nat->V}{l:List V}{i:Nat}{x:D}(he:env i= .d x)(h:kD nx env l (i+1)):kD nx env (.d x::l) i:=⟨.inr ⟨he.symm,fun r hr=>by simp[V.refs]at hr⟩,h⟩
theorem zR{nx:Nat}{env:Nat->V}{l:List V}{i:Nat}{v:V}(he:env i=v)(hr:∀r∈v.refs,r<nx)(h:kD nx env l (i+1)):kD nx env (v::l) i:=⟨.inr ⟨he.symm,hr⟩,h⟩
theorem bE.d0 {e:Nat->V}{so:Nat->ae}{m:Nat}(l:List V)(he:kD 0 e l 0):bE 0 ⟨e,so,m⟩ ⟨bz l,fun _=> .no,0⟩:=bE.bS l (Nat.le_refl 0) (Nat.zero_le _) Good.nil (fun _ h=>absurd h (Nat.not_lt_zero _)) he
theorem J1{k:Nat}(h:(k:Int)+1<=9223372036854775807):IntKind.i64.wrap ((k:Int)+1)=((k+1:Nat):Int):=by rw[wrap64 (by omega) h];rfl
theorem J0{k:IntKind}{a b:Int}(h:a=b):V.d (D.int k a)=V.d (D.int k b):=by rw[h]
theorem CW{P:Program}{g:FuncId}{K:KD}{X:XD}{o:Nat->ae}{nx fr:Nat}{all:List V}{rd:List Nat}{rs:List D}{Δ:List (Nat×ae)}(nk:rd.all (fun id=>decide (id<nx))=true)(h:Gd P g all rd o (.ret rs) Δ)(hk:K (jT rs) Δ rd):sG P g K X o nx fr all:=by
 unfold sG
 exact⟨rd,Δ,nk, .inl ⟨rs,h,hk⟩⟩
abbrev D.i (n:Int):D:= .int .i64 n
structure jW where
 name:List UInt8
 args:Int
structure ba where
 cons:List jW
 bZ:List jW
inductive Tm where
 |mk (op n:Int) (kids:List Tm)
 deriving Inhabited
structure TB where
 var:Int
 term:Tm
def Tm.op:Tm->Int| .mk op _ _=>op
def Tm.n:Tm->Int| .mk _ n _=>n
def Tm.kids:Tm->List Tm| .mk _ _ l=>l
theorem Tm.eta (t:Tm):Tm.mk t.op t.n t.kids=t:=by cases t;rfl
theorem Tm.ind {P:Tm->Prop}(h:∀op n kids,(∀k∈kids,P k)->P (.mk op n kids)):∀t,P t:=
 fun t=>Tm.rec (motive_1:=P) (motive_2:=fun l=>∀k∈l,P k) (fun op n kids ih=>h op n kids ih) (fun _ h=>by cases h)
  (fun x l hx hl k hk=>(List.mem_cons.1 hk).elim (fun e=>e ▸ hx) (hl k)) t
mutual
def Tm.d:Tm->D
 | .mk op n kids=> .agg [.i op, .i n, .sl (Tm.ds kids)]
def Tm.ds:List Tm->List D
 |[]=>[]
 |t::l=>t.d::Tm.ds l
end
theorem Tm.sL:∀l:List Tm,Tm.ds l=l.map Tm.d
 |[]=>rfl
 |t::l=>by simp[Tm.ds,Tm.sL l]
theorem Tm.Iw (t:Tm):t.d= .agg [.i t.op, .i t.n, .sl (t.kids.map Tm.d)]:=by cases t;simp[Tm.d,Tm.sL,Tm.op,Tm.n,Tm.kids]
@[go_sem] theorem Tm.Vc (t:Tm):D.agg [.i t.op, .i t.n, .sl (t.kids.map Tm.d)]=t.d:=(Tm.Iw t).symm
@[go_sem] theorem Tm.O7 (t:Tm):D.cells t.d=[.i t.op, .i t.n, .sl (t.kids.map Tm.d)]:=by rw[Tm.Iw];rfl
theorem Tm.cB {P:Tm->Prop}(h:∀t:Tm,(∀k∈t.kids,P k)->P t):∀t,P t:=Tm.ind fun op n kids ih=>h (.mk op n kids) ih
theorem Tm.lH (op n:Int)(l:List Tm):(Tm.mk op n l).d= .agg [.i op, .i n, .sl (l.map Tm.d)]:=by simp[Tm.d,Tm.sL]
@[reducible] def jW.d (x:jW):D:= .agg [.str x.name, .i x.args]
@[reducible] def ba.d (s:ba):D:= .agg [.sl (s.cons.map jW.d), .sl (s.bZ.map jW.d)]
@[reducible] def TB.d (b:TB):D:= .agg [.i b.var, .i b.term.op, .i b.term.n, .sl (b.term.kids.map Tm.d)]
mutual
def Tm.fits:Tm->Prop
 | .mk _ _ kids=>kids.length<=9223372036854775807/\Tm.jB kids
def Tm.jB:List Tm->Prop
 |[]=>True
 |t::l=>t.fits/\Tm.jB l
end
theorem Tm.lY:∀l:List Tm,Tm.jB l↔∀k∈l,k.fits
 |[]=>by simp[Tm.jB]
 |t::l=>by simp[Tm.jB,Tm.lY l]
theorem Tm.aJ (t:Tm):t.fits↔t.kids.length<=9223372036854775807/\∀k∈t.kids,k.fits:=by cases t;simp[Tm.fits,Tm.lY,Tm.kids]
mutual
def Tm.iE:Tm->Nat
 | .mk _ _ kids=>1+Tm.fZ kids
def Tm.fZ:List Tm->Nat
 |[]=>0
 |k::l=>Nat.max k.iE (Tm.fZ l)
end
theorem Tm.nQ:∀ {l:List Tm} {k:Tm},k∈l->k.iE<=Tm.fZ l
 |x::l,k,h=>by
  simp only[Tm.fZ]
  rcases List.mem_cons.1 h with rfl|h
  ·exact Nat.le_max_left _ _
  ·exact Nat.le_trans (Tm.nQ h) (Nat.le_max_right _ _)
theorem Tm.rh {t k:Tm}(h:k∈t.kids):k.iE+1<=t.iE:=by
 cases t;simp only[Tm.kids]at h;simp only[Tm.iE];have:=Tm.nQ h;omega
mutual
def pre:Tm->Int->List (Tm×Int)
 | .mk op n kids,d=>(.mk op n kids,d)::O8 kids (d+1)
def O8:List Tm->Int->List (Tm×Int)
 |[],_=>[]
 |k::l,d=>pre k d++O8 l d
end
theorem Ix(l:List Tm)(d:Int):O8 l d=l.flatMap fun k=>pre k d:=by
 induction l with
 |nil=>rfl
 |cons k l ih=>simp[O8,ih]
theorem jL(t:Tm)(d:Int):pre t d=(t,d)::t.kids.flatMap fun k=>pre k (d+1):=by cases t;simp[pre,Ix,Tm.kids]
def cP(n low high:Int):Bool:=decide (low<=n)&&decide (n<=high)
def letterF(b:UInt8):Bool:= !((decide ((b.toNat:Int)<97)||decide (122<(b.toNat:Int)))&&(decide ((b.toNat:Int)<65)||decide (90<(b.toNat:Int))))
def kE(s:List UInt8):Bool:=s.all letterF&&cP s.length 1 8
def cC:List jW->List (List UInt8)->Option (List (List UInt8))
 |[],before=>some before
 |x::l,before=>if before.any (· ==x.name)then none else if(!kE x.name|| !cP x.args 0 4)=true then none else cC l (before++[x.name])
def fB:List UInt8:=[70,97,108,115,101]
def tB:List UInt8:=[84,114,117,101]
def m9(x:jW)(s:List UInt8):Bool:=x.name==s&&x.args==0
def kF(s:ba):Bool:=
 if(!cP s.cons.length 2 12||decide (8<(s.bZ.length:Int)))=true then false else
 match s.cons with
 |a::b::_=>if(!m9 a fB|| !m9 b tB)=true then false else
  match cC s.cons []with
  |none=>false
  |some l=>(cC s.bZ l).isSome
 |_=>false
mutual
def ez:Tm->Int->Int->Int
 | .mk _ _ kids,left,depth=>if left<1\/depth<1 then -1 else ct kids (left - 1) (depth - 1)
def ct:List Tm->Int->Int->Int
 |[],left,_=>left
 |k::l,left,depth=>if 0<=left then ct l (ez k left depth) depth else left
end
def dq(l:List jW)(n:Int):Int:=match l[n.toNat]? with|some x=>x.args|none=>0
def bC(s:ba)(t:Tm):Bool:=
 let k:Int:=t.kids.length
 if t.op=1 then k==0&&cP t.n 0 19
 else if t.op=2 then k==0&&cP t.n (-1000000) 1000000
 else if t.op=3 then cP t.n 0 (s.cons.length - 1)&&k==dq s.cons t.n
 else if t.op=4 then cP t.n 0 (s.bZ.length - 1)&&k==dq s.bZ t.n
 else if t.op=5 then cP t.n 0 (s.bZ.length - 1)&&decide (k<dq s.bZ t.n)
 else if t.op=8 then k==2&&cP t.n 0 19
 else if(cP t.op 6 15)=true then k==2&&t.n==0
 else false
mutual
def eI(s:ba):Tm->Bool
 | .mk op n kids=>bC s (.mk op n kids)&&uE s kids
def uE(s:ba):List Tm->Bool
 |[]=>true
 |k::l=>eI s k&&uE s l
end
def dV(s:ba)(t:Tm):Bool:=decide (0<=ez t 40 12)&&eI s t
mutual
def aI:Tm->Tm->Bool
 | .mk op n kids, .mk op' n' Ry=>op==op'&&n==n'&&kids.length==Ry.length&&gS kids Ry
def gS:List Tm->List Tm->Bool
 |[],_=>true
 |k::l,k'::l'=>aI k k'&&gS l l'
 |_::_,[]=>true
end
def iF(t:Tm):Bool:=decide (0<=ez t 50 14)
def gJ(l:List jW):Bool:=l.all fun x=>decide ((x.name.length:Int)<=30)
def jj(s:ba):Bool:= !(decide (16<(s.cons.length:Int))||decide (12<(s.bZ.length:Int)))&&gJ s.cons&&gJ s.bZ
end Go.Proofs.YtonbelhklnmjnaaGreat
namespace Go.Proofs.YtonbelhklnmjnaaGreat
def jM(id:Nat)(K X:V->(Nat->ae)->Nat->Prop)(e:fG)(s:S):Prop:=
 match e with
 | .normal=>∃nf m en p c d st pd,s.o id= .loop nf m en p c d st pd/\K (.d (.bool true)) (aK s.o id (.loop nf m en p c d .ready none)) s.nx
 | .ret=>∃nf m en p c d st pd,s.o id= .loop nf m en p c d st pd/\K (.d (.bool false)) (aK s.o id (.loop nf m en p c d .done (some .ret))) s.nx
 | .exit j=>∃nf m en p c d st pd,s.o id= .loop nf m en p c d st pd/\K (.d (.bool false)) (aK s.o id (.loop nf m en p c d .done (some (.exit j)))) s.nx
 | .cc v=>X v s.o s.nx
def Vd(P:Program)(n b id:Nat)(eN:IC)(K X:V->(Nat->ae)->Nat->Prop)(e:fG)(s:S):Prop:=
 match e with
 | .normal=>∃nf m en p c d pd,s.o id= .loop nf m en p c d .ready pd/\uD P n b true eN (jM id K X) ⟨s.env,aK s.o id (.loop nf m en p c d .busy pd),s.nx⟩
 | .cc v=>X v s.o s.nx
 |_=>False
section
variable {P:Program}{M:Nat->Prop}{φ cZ:Place}{H0:Hp}{w w0:World}{n:Nat}{s:S}{a:Act}{cx:Cx}
theorem CX{id:Nat}{x:ae}{s:S}(db:id<s.nx)(j:Nat)(hu:(s.H.put [(id,x)]).us j):j<s.nx:=by
 simp only[eE]at hu
 rcases hu with hu|hu
 ·exact hu
 ·subst hu;exact db
theorem vL{B:Nat->Prop}{H:Hp}{n:Nat}:∀ (ps:List Nat) (vs:List V) (us:List Value) (env:Nat->V) (tmps:Array Value),tmps.size=n->ps.length=vs.length->V.aP B φ H w vs us->ps.all (fun t=>decide (t<n))=true->(∀i,V.den B φ H w (env i) (tmps.getD i undef))->
 ((ps.zip us).foldl (fun tmps p=>tmps.setIfInBounds p.1 p.2) tmps).size=n/\∀i,V.den B φ H w (m8 env ps vs i) (((ps.zip us).foldl (fun tmps p=>tmps.setIfInBounds p.1 p.2) tmps).getD i undef)
 |[],[],us,env,tmps,ed,_,hd,_,he=>by simp only[V.aP]at hd;subst hd;exact⟨ed,he⟩
 |[],v::vs,us,env,tmps,_,h,_,_,_=>by simp at h
 |t::ps,[],us,env,tmps,_,h,_,_,_=>by simp at h
 |t::ps,v::vs,us,env,tmps,ed,hl,hd,hp,he=>by
  obtain⟨u,us,rfl,h1,h2⟩:=hd
  simp only[List.all_cons,Bool.and_eq_true,decide_eq_true_eq]at hp
  simp only[List.zip_cons_cons,List.foldl_cons,m8]
  refine vL ps vs us (aK env t v) (tmps.setIfInBounds t u) (by simp[ed]) (by simpa using hl) h2 hp.2 (fun i=> ?_)
  simp only[aW]
  by_cases hi:i=t
  ·subst hi
   have:(tmps.setIfInBounds i u).getD i undef=u:=by simp[Array.getD,ed,hp.1]
   rw[if_pos rfl,this];exact h1
  ·have:(tmps.setIfInBounds t u).getD i undef=tmps.getD i undef:=by
    simp only[Array.getD_eq_getD_getElem?]
    rw[Array.getElem?_setIfInBounds_ne (Ne.symm hi)]
   rw[if_neg hi,this];exact he i
theorem eh.vI (bM:P.follows .mixedOrders=true){id:Nat}{args:List V}{o:Nat->ae}{nx:Nat}{K X:V->(Nat->ae)->Nat->Prop}{env:List V}{ps:List Nat}{iZ eN:IC}{st:LoopState}{pd:Option jS}
 (ho:o id= .loop P.funcs.size n env ps iZ eN st pd) (db:id<nx) (CY:ps.all (fun t=>decide (t<n))=true) (hl:args.length=ps.length)
 (h:uD P n nx true iZ (Vd P n nx id eN K X) ⟨m8 (bz env) ps args,o,nx⟩):eh P id args o nx K X:=by
 refine⟨by rw[ho];rfl,fun M φ w vals b hH hd fj=> ?_⟩
 have bA:=hH.ok id
 simp only[bn,hp,ho]at bA
 obtain⟨b',r,h1,h2,h0,h3,h4,h5,h6,h7,h8,h9⟩:=bA
 rw[fj]at h1;simp at h1;subst h1
 have hlen:=V.aM _ _ hd
 have ed:vals.size=r.params.size:=by
  have:r.params.toList.length=ps.length:=by rw[h5]
  simp at hlen this;omega
 let tm:Array Value:=(ps.zip vals.toList).foldl (fun tmps p=>tmps.setIfInBounds p.1 p.2) r.tmps
 have Lk:(r.params.zip vals).foldl (fun tmps (p:Tmp×Value)=>tmps.setIfInBounds p.1 p.2) r.tmps=tm:=by
  rw[<- Array.foldl_toList,Array.toList_zip,h5]
 obtain⟨p1,p2⟩:=vL (B:=az M φ (hp o nx)) (H:=hp o nx) (φ:=φ) (w:=w) ps args vals.toList (bz env) r.tmps h6 hl.symm hd CY h9
 refine⟨r.fn,tm,r.assign,r.body, ?_,fun k=> ?_⟩
 ·simp only[Instr.yield,Sem.run_bind,lg h2,Result.andThen_ok,ed,ne_eq,not_true_eq_false,if_false,Sem.run_pure]
  rw[<- Lk]
 ·
   let s0:S:=⟨m8 (bz env) ps args,o,nx⟩
   let a0:Act:={tmps:=tm,defers:=[]}
   have gG:cG M φ (hp o nx) w n ⟨[],true⟩ φ s0 a0 w:=⟨hH,Trans.refl _ _ _,p1,⟨[],rfl,List.nodup_nil,fun _=>rfl,fun r hr=>by cases hr⟩,p2⟩
   have vM:∀ {aS s' a' w'},cG M φ (hp o nx) w n ⟨[],true⟩ aS s' a' w'->a'.defers=[]:=by
    intro aS s' a' w' hs
    obtain⟨ms,g1,_,g3,_⟩:=hs.defers
    exact Uc
   have Z7:∀ {aS s' a' w'} {nf m:Nat} {en:List V} {p:List Nat} {c d:IC} {st:LoopState} {pd:Option jS} (st':LoopState) (pd':Option jS),cG M φ (hp o nx) w n ⟨[],true⟩ aS s' a' w'->s'.o id= .loop nf m en p c d st pd->
    ∃r',w'.heap[b]? =some (.loop r')/\r'.state=st/\r'.pending=pd.map jS.code/\
     cG M φ (hp o nx) w n ⟨[],true⟩ aS ⟨s'.env,aK s'.o id (.loop nf m en p c d st' pd'),s'.nx⟩ a' {w' with heap:=w'.heap.setIfInBounds b (.loop {r' with state:=st',pending:=pd'.map jS.code})}:=by
    intro aS s' a' w' nf m en p c d st pd st' pd' hs qm
    have Ux:aS id= .pointer (some ⟨b,0,none⟩):=by
     have:=(hs.tr.rel.row id db (by show(s'.o id).cK=true;rw[qm];rfl)).2
     rw[this];exact fj
    have Z8:id<s'.nx:=hs.tr.rel.us id db
    obtain⟨r',r1,r2,r3,r4,r5⟩:=yq (st':=st') (pd':=pd') hs.heap Z8 (show s'.H.o id=_ from qm) Ux
    exact⟨r',r1,r2,r3,eQ hs r4 r5 rfl (CX Z8)⟩
   have ha:=ji (P:=P) (n:=n) (b:=nx) (rd:=true) bM r.assign _ _ s0 (fun _ _ h=>h) (by rw[h7];exact h)
   refine vw h0 (iC (jc (P:=P) (H0:=hp o nx) (b:=nx) (cx:=⟨[],true⟩) (ro:=some b) (fun id hu=>hu) (fun h=>by cases h) r.assign _ s0 φ a0 w ha gG) ?_)
   rintro e a1 w1 ⟨x,s1,jG,hq,yu,hm⟩
   cases e<;>cases x<;>first|(exact hm.elim)|skip
   ·
     obtain⟨nf,m,en,p,c,d,pd1,q1,q2⟩:=hq
     obtain⟨r',r1,r2,r3,NJ⟩:=Z7 .busy pd1 yu q1
     have Ve:(Instr.beginRound b).run P w1= .ok () {w1 with heap:=w1.heap.setIfInBounds b (.loop {r' with state:= .busy,pending:=pd1.map jS.code})}:=by
      have e1:({r' with state:= .busy}:Loop)={r' with state:= .busy,pending:=pd1.map jS.code}:=by rw[<- r3]
      simp only[Instr.beginRound,Sem.run_bind,lg r1,Result.andThen_ok,jJ _ r1,r2,Sem.run_pure,e1]
     refine⟨_,Ve, ?_⟩
     have cf:=NJ.heap.ok id
     simp only[bn,S.H,aW,if_true]at cf
     obtain⟨b2,r2',_,_,_,_,_,_,_,_,_,_⟩:=cf
     have hb:=ji (P:=P) (n:=n) (b:=nx) (rd:=true) bM r.body _ _ _ (fun _ _ h=>h) (by rw[h8];exact q2)
     refine iC (jc (P:=P) (H0:=hp o nx) (b:=nx) (cx:=⟨[],true⟩) (ro:=some b) (fun id hu=>hu) (fun h=>by cases h) r.body _ _ jG a1 _ hb NJ) ?_
     rintro e a2 w2 ⟨x,s2,H8,Ya,Ga,NF⟩
     have fin:∀ {nf m:Nat} {en:List V} {p:List Nat} {c d:IC} {st:LoopState} {pd:Option jS} (jump:Option jS) (t:Bool) (st':LoopState),t=jump.isNone->st'=(if jump.isNone then .ready else .done)->s2.o id= .loop nf m en p c d st pd->K (.d (.bool t)) (aK s2.o id (.loop nf m en p c d st' jump)) s2.nx->
      ∃v w',(Instr.endRound b (jump.map jS.code)).run P w2= .ok v w'/\nB M φ (hp o nx) w K X (.returned v) w':=by
      intro nf m en p c d st pd jump t st' ht mZ ho2 hK
      obtain⟨r3',g1,g2,g3,Yb⟩:=Z7 st' jump Ga ho2
      refine⟨.bool t,_, ?_,H8,_,_,_,Yb.heap,Yb.tr,by simp only[V.den,D.den],hK⟩
      subst ht;subst mZ
      simp only[Instr.endRound,Sem.run_bind,lg g1,Result.andThen_ok,jJ _ g1,Sem.run_pure,Option.isNone_map]
     cases e<;>cases x<;>first|(exact NF.elim)|skip
     ·obtain⟨nf,m,en,p,c,d,st,pd,k1,k2⟩:=Ya
      exact fin none true .ready rfl rfl k1 k2
     ·rename_i j
      subst NF
      obtain⟨nf,m,en,p,c,d,st,pd,k1,k2⟩:=Ya
      exact fin (some (.exit _)) false .done rfl rfl k1 k2
     ·obtain⟨nf,m,en,p,c,d,st,pd,k1,k2⟩:=Ya
      exact fin (some .ret) false .done rfl rfl k1 k2
     ·obtain⟨val,rfl,k2⟩:=NF
      exact⟨vM Ga,H8,_,_,_,Ga.heap,Ga.tr,val,rfl,k2,Ya⟩
   ·exact hq.elim
   ·exact hq.elim
   ·obtain⟨val,rfl,k2⟩:=hm
    exact⟨vM yu,jG,_,_,_,yu.heap,yu.tr,val,rfl,k2,hq⟩
end
end Go.Proofs.YtonbelhklnmjnaaGreat
namespace Go.Proofs.YtonbelhklnmjnaaGreat
def Vf(ops:Array Oper)(t t1:Nat):Prop:=
 (∃o1 o2,ops=#[o1,o2]/\o1.op= .call ⟨.builtin .recover,#[],#[]⟩/\o1.dst=some t/\o1.guard=none/\o2.op= .assign (.tmp t)/\o2.dst=some t1/\o2.guard=none)\/
 (∃o1,ops=#[o1]/\t1=t/\o1.op= .call ⟨.builtin .recover,#[],#[]⟩/\o1.dst=some t/\o1.guard=none)
structure CZ (P:Program) (g:FuncId) (n t t1:Nat) (ic:IC):Prop where
 get:∃fn id ops c,P.funcs[g]? =some fn/\(fn.name== "runtime.NumGoroutine")=false/\fn.ntmps=n/\fn.results=#[]/\fn.body=some (.seq (.region id ops false) c)/\
  Vf ops t t1/\t<n/\t1<n/\low n c=ic
structure Gn (P:Program) (f:FuncId) (n:Nat) (iZ eN:IC) (g:FuncId) (t:Nat) (aL:List Operand) (rs:List ResultVar):Prop where
 get:∃fn id o1 o2 a b d,P.funcs[f]? =some fn/\(fn.name== "runtime.NumGoroutine")=false/\fn.ntmps=n/\fn.results.toList=rs/\fn.body=some (.seq a d)/\(d= .seq (.region id #[o1,o2] false) b\/d= .scope (.seq (.region id #[o1,o2] false) b))/\
  o1.op= .makeFunc (.func g) #[] aL.toArray/\o1.dst=some t/\o1.guard=none/\o2.op= .defer ⟨.value (.tmp t),#[],#[]⟩/\o2.dst=none/\o2.guard=none/\t<n/\low n a=iZ/\low n b=eN
def Iy(K:(Nat->ae)->Nat->Prop)(e:fG)(s:S):Prop:=match e with| .normal| .ret=>K s.o s.nx|_=>False
def E5(P:Program)(n t t1:Nat)(ic:IC)(aL:List V)(u:V)(o:Nat->ae)(nx:Nat)(K:(Nat->ae)->Nat->Prop):Prop:=
 aL.length<=n/\uD P n nx true ic (Iy K) ⟨aK (aK (cN aL) t u) t1 u,o,nx⟩
def AJ(P:Program)(n t t1:Nat)(ic:IC)(aL:List V)(rs:List ResultVar)(K X:V->(Nat->ae)->Nat->Prop)(e:fG)(s:S):Prop:=
 match e with
 | .normal| .ret=>E5 P n t t1 ic aL (.d .fK) s.o s.nx fun o nx=>mB P rs K X .ret ⟨s.env,o,nx⟩
 | .cc v=>E5 P n t t1 ic aL v s.o s.nx fun o nx=>mB P rs K X .ret ⟨s.env,o,nx⟩
 | .exit _=>False
def C0(P:Program)(n t:Nat)(eN:IC)(fP:List Operand)(g:FuncId)(D:List V->fG->S->Prop)(e:fG)(s:S):Prop:=
 match e with
 | .normal=>uD P n s.nx false eN (D (fP.map s.ev)) ⟨aK s.env t (.func (.func g) [] (fP.map s.ev)),s.o,s.nx⟩
 |_=>False
section
variable {P:Program}{M:Nat->Prop}{φ cZ:Place}{H H0:Hp}{w w0:World}{n:Nat}{s:S}{a:Act}{cx:Cx}{k:Nat}
theorem Iz(bM:P.follows .mixedOrders=true){g:FuncId}{t t1:Nat}{ic:IC}(hg:CZ P g n t t1 ic){aL:List V}{u:V}{o:Nat->ae}{nx:Nat}{K:(Nat->ae)->Nat->Prop}(h:E5 P n t t1 ic aL u o nx K)
 {vals:Array Value} {val:Value} {m:FrameMode} (hH:aF M φ (hp o nx) w) (hd:V.aP (az M φ (hp o nx)) φ (hp o nx) w aL vals.toList) (hv:V.den (az M φ (hp o nx)) φ (hp o nx) w u val)
 (hm:(m= .returning/\val= .nilIface)\/m= .panicking [{v:=val,recovered:=false}]):
 CallsDIn (ew none) k P g vals m w fun e u' w'=>∃v aS o' nx',e= .returned v/\settle u'= .returning/\aF M aS (hp o' nx') w'/\Trans φ (hp o nx) w aS (hp o' nx') w'/\K o' nx':=by
 obtain⟨fn,id,ops,c,hf,Rz,hnt,Co,qS,Im,ht,Ed,sE⟩:=hg.get
 have db:g<P.funcs.size:=(Array.getElem?_eq_some_iff.1 hf).1
 obtain⟨pI,h⟩:=h
 have hlen:=V.aM _ _ hd
 refine⟨trivial,fun pS cs Ll QR=> ?_⟩
 let b:Frame:={(default:Frame)with fn:=g,kind:= .deferred,roundOf:=none}
 let uF:Array Value:=vals++Array.replicate (fn.ntmps - vals.size) undef
 have ad5:uF.size=n:=by simp only[uF,Array.size_append,Array.size_replicate];simp at hlen;omega
 have mz:Frame.enter P g vals .deferred=b.atR {tmps:=uF,defers:=[]} [.code (.seq (.region id ops false) c)]:=by
  simp[Frame.enter,Frame.atR,hf,qS,b,uF]
 obtain⟨m',hm',cf⟩:∃m',settle m'= .returning/\((recoverD (pS::cs)=none/\m'=m/\val= .nilIface)\/recoverD (pS::cs)=some (val,{pS with mode:=m'}::cs)):=by
  rcases hm with⟨rfl,rfl⟩|rfl
  ·exact⟨.returning,rfl, .inl ⟨by simp[recoverD,Ll],rfl,rfl⟩⟩
  ·exact⟨.panicking [{v:=val,recovered:=true}],rfl, .inr (by simp[recoverD,Ll])⟩
 have hc0:({pS with mode:=m}:Frame)=pS:=by subst Ll;rfl
 let a1:Act:={tmps:=(uF.setIfInBounds t val).setIfInBounds t1 val,defers:=[]}
 have OT:(Code.region id ops false).wpSIn (ew none) k P (fun e a' cs' w'=>e= .normal/\a'=a1/\cs'={pS with mode:=m'}::cs/\w'=w) {tmps:=uF,defers:=[]} (pS::cs) w:=by
  rcases Im with⟨o1,o2,rfl,e1,e2,e3,e4,e5,e6⟩|⟨o1,rfl,rfl,e1,e2,e3⟩
  ·refine wpSIn_region ?_
   have hr:List.range (#[o1,o2]:Array Oper).size=[0,1]:=rfl
   have g0:(#[o1,o2]:Array Oper)[0]? =some o1:=rfl
   have g1:(#[o1,o2]:Array Oper)[1]? =some o2:=rfl
   rw[hr]
   have x1:∀ (ρ:Operand->Value) (w:World),(execOp ρ o1).run P w= .ok .recover w:=by
    intro ρ w
    simp[execOp,e1,resolve,invoke,builtin]
   have x2:∀ (ρ:Operand->Value) (w:World),(execOp ρ o2).run P w= .ok (.value (ρ (.tmp t))) w:=by
    intro ρ w
    simp[execOp,e4]
   have last:∀cs',cs'={pS with mode:=m'}::cs->wpOpsSIn (ew none) k P #[o1,o2] (fun e a' cs' w'=>e= .normal/\a'=a1/\cs'={pS with mode:=m'}::cs/\w'=w) [1] (({tmps:=uF,defers:=[]}:Act).put (some t) val) cs' w:=by
    rintro cs' rfl
    have hw:Region.wanted o2 (yielded #[o1,o2] (({tmps:=uF,defers:=[]}:Act).put (some t) val).tmps)=true:=by simp[Region.wanted,e6]
    have dR:(({tmps:=uF,defers:=[]}:Act).put (some t) val).eval (.tmp t)=val:=by
     have:t<uF.size:=ad
     simp[Act.put,Act.eval,Array.getD,this]
    simp only[wpOpsSIn,g1,hw,if_true,x2,dR,e5]
    refine⟨fun _ _=>trivial, ?_⟩
    simp[a1,Act.put]
   have hw:Region.wanted o1 (yielded #[o1,o2] uF)=true:=by simp[Region.wanted,e3]
   rw[wpOpsSIn,g0]
   refine⟨fun _ _=>trivial, ?_⟩
   simp only[hw,if_true,x1,e2]
   rcases cf with⟨hr,rfl,rfl⟩|hr
   ·simp only[hr]
    exact last _ (by rw[hc0])
   ·simp only[hr]
    exact last _ rfl
  ·refine wpSIn_region ?_
   have hr:List.range (#[o1]:Array Oper).size=[0]:=rfl
   have g0:(#[o1]:Array Oper)[0]? =some o1:=rfl
   rw[hr]
   have x1:∀ (ρ:Operand->Value) (w:World),(execOp ρ o1).run P w= .ok .recover w:=by
    intro ρ w
    simp[execOp,e1,resolve,invoke,builtin]
   have same:a1=({tmps:=uF,defers:=[]}:Act).put (some t1) val:=by
    simp only[a1,Act.put]
    congr 1
    apply Array.ext_getElem?
    intro j
    simp only[Array.getElem?_setIfInBounds]
    by_cases hj:t1=j
    ·subst hj;simp
    ·simp[hj]
   have last:∀cs',cs'={pS with mode:=m'}::cs->wpOpsSIn (ew none) k P #[o1] (fun e a' cs' w'=>e= .normal/\a'=a1/\cs'={pS with mode:=m'}::cs/\w'=w) [] (({tmps:=uF,defers:=[]}:Act).put (some t1) val) cs' w:=by
    rintro cs' rfl
    simp only[wpOpsSIn]
    exact⟨trivial,same.symm,trivial,trivial⟩
   have hw:Region.wanted o1 (yielded #[o1] uF)=true:=by simp[Region.wanted,e3]
   rw[wpOpsSIn,g0]
   refine⟨fun _ _=>trivial, ?_⟩
   simp only[hw,if_true,x1,e2]
   rcases cf with⟨hr,rfl,rfl⟩|hr
   ·simp only[hr]
    exact last _ (by rw[hc0])
   ·simp only[hr]
    exact last _ rfl
 obtain⟨er,ar,csr,wr,hl,⟨rfl,rfl,rfl,hwr⟩,cV⟩:=OT b [.code c] rfl rfl trivial (fun d hd=>by simp[ew]at hd)
 rw[hwr]at cV
 let s0:S:=⟨aK (aK (cN aL) t u) t1 u,o,nx⟩
 have gG:cG M φ (hp o nx) w n ⟨[],true⟩ φ s0 a1 w:=by
  refine⟨hH,Trans.refl _ _ _,by simp[a1,ad5],⟨[],rfl,List.nodup_nil,fun _=>rfl,fun r hr=>by cases hr⟩,fun i=> ?_⟩
  have eP:=vu (m:=fn.ntmps - vals.size) hd i
  simp only[s0,a1,aW]
  have ht0:t<uF.size:=ad
  have ad6:t1<uF.size:=ad
  by_cases h1:i=t1
  ·subst h1
   simp only[if_true]
   have:((uF.setIfInBounds t val).setIfInBounds i val).getD i undef=val:=by simp[Array.getD,ad6]
   rw[this];exact hv
  ·simp only[h1,if_false]
   have e1:((uF.setIfInBounds t val).setIfInBounds t1 val).getD i undef=(uF.setIfInBounds t val).getD i undef:=by
    simp only[Array.getD_eq_getD_getElem?]
    rw[Array.getElem?_setIfInBounds_ne (Ne.symm h1)]
   rw[e1]
   by_cases h2:i=t
   ·subst h2
    simp only[if_true]
    have:(uF.setIfInBounds i val).getD i undef=val:=by simp[Array.getD,ht0]
    rw[this];exact hv
   ·simp only[h2,if_false]
    have e1:(uF.setIfInBounds t val).getD i undef=uF.getD i undef:=by
     simp only[Array.getD_eq_getD_getElem?]
     rw[Array.getElem?_setIfInBounds_ne (Ne.symm h2)]
    rw[e1];exact eP
 have hcw:=ji (P:=P) (n:=n) (b:=nx) (rd:=true) bM c _ _ s0 (fun _ _ h=>h) (by rw[sE];exact h)
 obtain⟨e,a',w',⟨x,s',aS,hq,iS,hx⟩,F9⟩:=jc (P:=P) (H0:=hp o nx) (b:=nx) (cx:=⟨[],true⟩) (ro:=none) (fun id hu=>hu) (fun h=>by cases h) c _ s0 φ a1 w hcw gG b [] ({pS with mode:=m'}::cs) rfl db
 have i0:(lone (b.atR {tmps:=uF,defers:=[]} [.code (.seq (.region id ops false) c)]) (pS::cs) w).fenced P (ew none):=fenced_calm (n:=0) trivial iB rfl
 have RA:StepsIn (Machine.fenced P (ew none)) P (lone (b.atR {tmps:=uF,defers:=[]} [.code (.seq (.region id ops false) c)]) (pS::cs) w) (lone (b.atR a1 [.code c]) ({pS with mode:=m'}::cs) w):= .head i0 stepR_seq cV
 have vM:a'.defers=[]:=by
  obtain⟨ms,g1,_,g3,_⟩:=iS.defers
  exact Uc
 have Z9:∀tm:Array Value,∃v,(results fn tm).run P w'= .ok v w':=by
  intro tm
  refine⟨_,nG (vals:=[]) ?_⟩
  rw[Co];rfl
 rw[mz]
 obtain⟨v,tZ⟩:=Z9 a'.tmps
 cases e<;>cases x<;>first|(exact hx.elim)|(exact hq.elim)|skip
 ·exact⟨.returned v,m',w',_,⟨v,aS,s'.o,s'.nx,rfl,hm',iS.heap,iS.tr,hq⟩,StepsIn.trans RA (StepsIn.trans F9 (.one (fenced_calm (n:=0) (fr:=b.atR a' []) trivial iB rfl) (stepR_end rfl))),rfl,rfl,rfl,vM,fn,hf,tZ⟩
 ·obtain⟨todo,hs⟩:=F9.1 rfl
  exact⟨.returned v,m',w',_,⟨v,aS,s'.o,s'.nx,rfl,hm',iS.heap,iS.tr,hq⟩,StepsIn.trans RA hs,rfl,rfl,rfl,vM,fn,hf,tZ⟩
theorem C1{d c:Code}{ro:Option Nat}{Q:Exit->Act->World->Prop}{a:Act}{w:World}(h:d=c\/d= .scope c)(hg:∀l a w, ¬Q (.goto l) a w)(hc:c.ub P ro Q a w):d.ub P ro Q a w:=by
 rcases h with rfl|rfl
 ·exact hc
 ·exact ym hc hg
theorem cU.C2 (bM:P.follows .mixedOrders=true){f g:FuncId}{iZ eN yM:IC}{t m r r1:Nat}{fP:List Operand}{rs:List ResultVar}(hf:Gn P f n iZ eN g t fP rs)(hg:CZ P g m r r1 yM)
 {args:List V} {o:Nat->ae} {nx:Nat} {K X:V->(Nat->ae)->Nat->Prop} (hl:args.length<=n)
 (h:uD P n nx true iZ (C0 P n t eN fP g fun aL=>AJ P m r r1 yM aL rs K X) ⟨cN args,o,nx⟩):cU P f args o nx K X:=by
 obtain⟨fn,id,o1,o2,ca,cb,cd,H6,Rz,hnt,Co,qS,hsc,e1,e2,e3,e4,e5,e6,ht,hla,X7⟩:=hf.get
 obtain⟨gn,_,_,gc,hgn,Vg,_,_,Vh,_⟩:=hg.get
 refine⟨⟨fn,H6,Rz,by rw[qS];rfl⟩,fun M φ w vals hH hd=> ?_⟩
 have hlen:=V.aM _ _ hd
 let s0:S:=⟨cN args,o,nx⟩
 let a0:Act:={tmps:=vals++Array.replicate (fn.ntmps - vals.size) undef,defers:=[]}
 have gG:cG M φ (hp o nx) w n ⟨[],true⟩ φ s0 a0 w:=by
  refine⟨hH,Trans.refl _ _ _, ?_,⟨[],rfl,List.nodup_nil,fun _=>rfl,fun r hr=>by cases hr⟩,vu hd⟩
  simp only[a0,Array.size_append,Array.size_replicate];simp at hlen;omega
 have ha:=ji (P:=P) (n:=n) (b:=nx) (rd:=true) bM ca _ _ s0 (fun _ _ h=>h) (by rw[hla];exact h)
 refine Cj (ro:=none) (k:=0) (nH H6 qS (Ak (iC (jc (P:=P) (H0:=hp o nx) (b:=nx) (cx:=⟨[],true⟩) (ro:=none) (fun id hu=>hu) (fun h=>by cases h) ca _ s0 φ a0 w ha gG) ?_)))
 rintro e a1 w1 ⟨x,s1,jG,hq,yu,hm⟩
 cases e<;>cases x<;>first|(exact hm.elim)|(exact hq.elim)|skip
 have vM:a1.defers=[]:=by
  obtain⟨ms,g1,_,g3,_⟩:=yu.defers
  exact Uc
 let cv:Array Value:=(fP.map a1.eval).toArray
 let fv:Value:= .func (.func g) #[] cv
 let dd:Deferred:={target:= .fn (.func g) cv,args:=#[]}
 let a2:Act:={tmps:=a1.tmps.setIfInBounds t fv,defers:=[dd]}
 have RB:V.aP (az M jG s1.H) jG s1.H w1 (fP.map s1.ev) cv.toList:=by
  simpa[cv]using kW (M:=M) (φ:=jG) (H:=s1.H) (w:=w1) s1 a1 yu.env fP
 refine C1 hsc (fun l a w h=> ?_) ?_
 ·exact h.elim
 refine Ak (iC (Q:=fun e a w=>e= .normal/\a=a2/\w=w1) (pN (k:=0) (wpIn_region_list ?_)) ?_)
 ·have y1:Region.wanted o1 (yielded #[o1,o2] a1.tmps)=true:=by simp[Region.wanted,e3]
  have y2:∀tm,Region.wanted o2 (yielded #[o1,o2] tm)=true:=by intro tm;simp[Region.wanted,e6]
  have dR:(a1.put (some t) fv).eval (.tmp t)=fv:=by
   have:t<a1.tmps.size:=by rw[yu.size];exact ht
   simp[Act.put,Act.eval,Array.getD,this]
  show wpListIn (ew none) 0 P #[o1,o2] _ [o1,o2] a1 w1
  unfold wpListIn
  rw[if_pos y1]
  have x1:(execOp a1.eval o1).run P w1= .ok (.value fv) w1:=by simp[execOp,e1,fv,cv,Instr.makeFunc]
  refine la (fun c hc=>by rw[e1]at hc;cases hc) ?_
  rw[x1]
  show wpListIn (ew none) 0 P #[o1,o2] _ [o2] (a1.put o1.dst fv) w1
  rw[e2]
  unfold wpListIn
  rw[if_pos (y2 _)]
  have x2:(execOp (a1.put (some t) fv).eval o2).run P w1= .ok (.defer dd) w1:=by
   simp[execOp,e4,resolve,dR,Deferred.ofValue,fv,dd]
  refine⟨fun _ _=>trivial, ?_⟩
  have:(o2.semAt (ew none).round (a1.put (some t) fv).eval)=execOp (a1.put (some t) fv).eval o2:=rfl
  rw[this,x2]
  unfold Oper.uponIn
  simp only[e5,wpListIn,Act.put,vM,a2,and_self]
 rintro e a w2 ⟨rfl,rfl,rfl⟩
 have Ed:t<a1.tmps.size:=by rw[yu.size];exact ht
 let s2:S:=⟨aK s1.env t (.func (.func g) [] (fP.map s1.ev)),s1.o,s1.nx⟩
 have NJ:cG M jG s1.H w2 n ⟨[dd],false⟩ jG s2 a2 w2:=by
  refine⟨yu.heap,Trans.refl _ _ _,by simp[a2,yu.size],⟨[],rfl,List.nodup_nil,fun _=>rfl,fun r hr=>by cases hr⟩,fun i=> ?_⟩
  simp only[s2,a2,aW]
  by_cases h1:i=t
  ·subst h1
   have:(a1.tmps.setIfInBounds i fv).getD i undef=fv:=by simp[Array.getD,Ed]
   simp only[if_true];rw[this]
   exact⟨#[],cv,rfl,rfl,RB⟩
  ·have:(a1.tmps.setIfInBounds t fv).getD i undef=a1.tmps.getD i undef:=by
    simp only[Array.getD_eq_getD_getElem?]
    rw[Array.getElem?_setIfInBounds_ne (Ne.symm h1)]
   simp only[h1,if_false];rw[this]
   exact yu.env i
 have hb:=ji (P:=P) (n:=n) (b:=s1.nx) (rd:=false) bM cb _ _ s2 (fun _ _ h=>h) (by rw[X7];exact hq)
 refine iC (jc (P:=P) (H0:=s1.H) (b:=s1.nx) (cx:=⟨[dd],false⟩) (ro:=none) (fun id hu=>hu) (fun _=>rfl) cb _ s2 jG a2 w2 hb NJ) ?_
 rintro e a3 w3 ⟨x,s3,φ3,hq3,Ga,xF⟩
 obtain⟨ms,g1,g2,_,g4⟩:=Ga.defers
 have hinv:(invoke dd.target dd.args).run P=fun w=> .ok (.enter g cv) w:=by
  funext w
  have:=lS (w:=w) ⟨gn,hgn,Vg,by rw[Vh];rfl⟩ cv
  simpa[dd,invoke]using this
 have last:∀ {w4:World} {tm:Array Value} {u:V} {val:Value} {m0:FrameMode},m0≠ .run->Am M jG s1.H w2 φ3 s3 a3.tmps w4->V.den (az M φ3 s3.H) φ3 s3.H w4 u val->
  ((m0= .returning/\val= .nilIface)\/m0= .panicking [{v:=val,recovered:=false}])->
  (E5 P m r r1 yM (fP.map s1.ev) u s3.o s3.nx fun o nx=>mB P rs K X .ret ⟨s3.env,o,nx⟩)->
  LeavesInM (ew none) 0 P fn a3.tmps (nB M φ (hp o nx) w K X) [dd] m0 w4:=by
  intro w4 tm u val m0 fM hB Oy hm0 cf
  have Vi:=V.bg hB.tr _ _ RB
  refine⟨fM, .inr ⟨fun h=>by simp[ew]at h, .func g,cv,g,cv,rfl,by rw[hinv],fun _ _=>trivial,CallsDIn.mono (Iz (k:=0 - 1) bM hg cf (m:=m0) hB.heap Vi Oy hm0) ?_⟩⟩
  rintro e u' w5 ⟨v,φ5,o5,nx5,rfl,AK,k1,k2,k3⟩
  show LeavesInM (ew none) 0 P fn a3.tmps (nB M φ (hp o nx) w K X) [] (settle u') w5
  rw[AK]
  obtain⟨vs,h1,h2⟩:=Cq k3
  rw[<- Co]at h1
  have aaa:∀i,V.den (az M φ5 (hp o5 nx5)) φ5 (hp o5 nx5) w5 (s3.env i) (a3.tmps.getD i undef):=fun i=>V.aX k2 _ _ (hB.env i)
  obtain⟨afi,h3,h4⟩:=uC (P:=P) (s:=⟨s3.env,o5,nx5⟩) (a:=a3) k1 aaa _ _ h1
  exact⟨_,nG h3,φ5,o5,nx5,_,k1,yu.tr.trans (hB.tr.trans k2),Cr h4,h2⟩
 have done:E5 P m r r1 yM (fP.map s1.ev) (.d .fK) s3.o s3.nx (fun o nx=>mB P rs K X .ret ⟨s3.env,o,nx⟩)->LeavesInM (ew none) 0 P fn a3.tmps (nB M φ (hp o nx) w K X) a3.defers .returning w3:=by
  intro cf
  rw[g1]
  exact iD (P:=P) (k:=0) (fn:=fn) (R:=nB M φ (hp o nx) w K X) (u:= .returning) au (ds:=[dd]) (fun w4 hB=>last (tm:=a3.tmps) au hB (u:= .d .fK) (val:= .nilIface) (by simp[V.den,D.den]) (.inl ⟨rfl,rfl⟩) cf) ms w3 g2 g4 Ga.toB
 cases e<;>cases x<;>first|(exact xF.elim)|skip
 ·exact done hq3
 ·exact hq3.elim
 ·exact done hq3
 ·rename_i v
  obtain⟨val,rfl,hd'⟩:=xF
  show LeavesInM (ew none) 0 P fn a3.tmps (nB M φ (hp o nx) w K X) a3.defers _ w3
  rw[g1]
  let aab:Nat->V:=fun i=>match i with|0=>v|i+1=>s3.env i
  have aac:(#[val]++a3.tmps).getD 0 undef=val:=by simp[Array.getD]
  have aad:∀i,(#[val]++a3.tmps).getD (i+1) undef=a3.tmps.getD i undef:=by
   intro i
   simp only[Array.getD_eq_getD_getElem?]
   rw[Array.getElem?_append_right (by simp)]
   simp
  have NK:Am M jG s1.H w2 φ3 ⟨aab,s3.o,s3.nx⟩ (#[val]++a3.tmps) w3:=⟨Ga.heap,Ga.tr,fun i=>by
   cases i with
   |zero=>rw[aac];exact hd'
   |succ i=>rw[aad];exact Ga.env i⟩
  have Lm:∀w4,Am M jG s1.H w2 φ3 ⟨aab,s3.o,s3.nx⟩ (#[val]++a3.tmps) w4->LeavesInM (ew none) 0 P fn a3.tmps (nB M φ (hp o nx) w K X) [dd] (.panicking [{v:=val,recovered:=false}]) w4:=by
   intro w4 hB
   have hv4:=hB.env 0
   rw[aac]at hv4
   refine last (tm:=a3.tmps) au ⟨hB.heap,hB.tr,fun i=> ?_⟩ hv4 (.inr rfl) hq3
   have hs:=hB.env (i+1)
   rw[aad]at hs
   exact hs
  exact iD (P:=P) (k:=0) (fn:=fn) (R:=nB M φ (hp o nx) w K X) (u:= .panicking [{v:=val,recovered:=false}]) au (ds:=[dd]) Lm ms w3 g2 g4 NK
end
end Go.Proofs.YtonbelhklnmjnaaGreat
namespace Go.Proofs.YtonbelhklnmjnaaGreat
theorem yz.E6 {P:Program}{g:FuncId}{ds:List D}{o:Nat->ae}{fr:Nat}{ty:TypeId}{sz:Nat}{es:List D}
 (h:cU P g (ds.map .d) (fun _=> .no) 0 (fun v o1 _=>(∃j ep,v= .osl j ep/\o1 j= .arr ep ty sz es)\/(v= .bT/\es=[]/\0<sz)) (fun _ _ _=>False)):
 yz P g (ds.map .d) [] o fr (.osl fr 0) [(fr, .arr 0 ty sz es)]:=by
 refine⟨h.1,fun o' us M φ w vals _ dh hH hd=> ?_⟩
 let cZ:Place:=fun _=> .nilFunc
 have xI:∀b, ¬du cZ (hp (fun _=> .no) 0) b:=by rintro b ⟨id,hl,_⟩;simp[hp,ae.live]at hl
 have hM:∀b,az M φ ⟨o',us⟩ b->b<w.heap.size:=fun b hb=>hb.elim (hH.Bu b) fun hl=>(hH.ours b hl).2
 have x7:=(V.cM _ _).1 hd
 refine(h.2 (az M φ ⟨o',us⟩) cZ w vals (lV cZ hM) ((V.cM _ _).2 (D.bg (w:=w) (w':=w) (B:=az M φ ⟨o',us⟩) (fun b _ hB=>⟨rfl,fun h=>h.elim hB (xI b)⟩) _ _ x7))).mono ?_
 rintro e w' ⟨jG,o1,n1,v,k1,k2,k3⟩
 have hk:eO (fun _=>False) w w':=⟨k2.cJ.os,k2.cJ.tape,k2.cJ.output,k2.cJ.size,fun k hk _=>k2.cJ.block k hk (xI k)⟩
 have F0:(⟨o',us⟩:Hp).put [(fr, .arr 0 ty sz es)]=⟨put o' [(fr, .arr 0 ty sz es)],fun id=>us id\/id=fr⟩:=by
  simp only[Hp.put]
  congr 1
  funext id
  simp
 have fin:∀ (val:Value) (xs:List Value),(∀b,eT val=some b->w.heap.size<=b/\b<w'.heap.size)->0<sz->w'.ownsRow 0 ty sz val es.length xs->
  (gM (az M (aK φ fr val) ((⟨o',us⟩:Hp).put [(fr, .arr 0 ty sz es)])) w' sz es xs)->
  val.oneCell'=true->
  ∃aS,aF M aS ⟨put o' [(fr, .arr 0 ty sz es)],fun id=>us id\/id=fr⟩ w'/\Trans φ ⟨o',us⟩ w aS ⟨put o' [(fr, .arr 0 ty sz es)],fun id=>us id\/id=fr⟩ w'/\
   ∃Ln,Ending.returned val= .returned Ln/\V.den (az M aS ⟨put o' [(fr, .arr 0 ty sz es)],fun id=>us id\/id=fr⟩) aS ⟨put o' [(fr, .arr 0 ty sz es)],fun id=>us id\/id=fr⟩ w' (.osl fr 0) Ln:=by
  intro val xs ku ed eF ck Vj
  have qR:=jw hH hk dh (.arr 0 ty sz es) val ku (by
   unfold bn
   rw[show((⟨o',us⟩:Hp).put [(fr, .arr 0 ty sz es)]).o fr= .arr 0 ty sz es by simp]
   refine⟨ed,xs, ?_,ck⟩
   rw[show aK φ fr val fr=val by simp]
   exact eF)
  have RC:=eV (φ:=φ) (H:=⟨o',us⟩) hk dh (.arr 0 ty sz es) val (fun b hb=>(ku b hb).1)
  rw[F0]at qR RC
  refine⟨aK φ fr val,qR,RC,val,rfl,Vj, .inr rfl,fun e he=> ?_⟩
  have o7:0=e:=by
   have:(put o' [(fr,ae.arr 0 ty sz es)] fr).cH=some 0:=by simp[put,ae.cH]
   rw[show(⟨put o' [(fr, .arr 0 ty sz es)],fun id=>us id\/id=fr⟩:Hp).o fr=put o' [(fr, .arr 0 ty sz es)] fr from rfl,this]at he
   injection he
  exact⟨ad,fun _=>au⟩
 cases e with
 |outgrown=>exact k3.elim
 |panicked ch=>obtain⟨_,_,_,h⟩:=k3;exact h.elim
 |returned val=>
  obtain⟨g1,⟨j,ep,rfl,hj⟩|⟨rfl,rfl,ed⟩⟩:=k3
  ·obtain⟨v0,v1,v2⟩:=g1
   have fV:val=jG j:=(v2 ep (by show(o1 j).cH=some ep;rw[hj];rfl)).2 rfl
   have dk:∀b,eT val=some b->du jG (hp o1 n1) b:=fun b hb=>⟨j,by show(o1 j).live=true;rw[hj];rfl,by rw[<- fV];exact hb⟩
   have ku:∀b,eT val=some b->w.heap.size<=b/\b<w'.heap.size:=fun b hb=>⟨(k2.grow b (dk b hb)).resolve_left (xI b),(k1.ours b (dk b hb)).2⟩
   have Lo:=k1.ok j
   unfold bn at Lo
   rw[show(hp o1 n1).o j= .arr ep ty sz es from hj]at Lo
   obtain⟨ed,xs,eF,ck⟩:=Lo
   have hBs:∀b,az M (aK φ fr val) ((⟨o',us⟩:Hp).put [(fr, .arr 0 ty sz es)]) b->az (az M φ ⟨o',us⟩) jG (hp o1 n1) b:=by
    rintro b (hb|⟨id,hl,hb⟩)
    ·exact .inl (.inl hb)
    ·by_cases e:id=fr
     ·subst e
      simp at hb
      exact .inr (dk b hb)
     ·simp[e]at hl hb
      exact .inl (.inr ⟨id,hl,hb⟩)
   exact fin val xs ku ed (by rw[fV];exact eF) (ck.mono (w:=w') (w':=w') (fun b _ hB=>⟨rfl,fun h=>hB (hBs b h)⟩)) v0
  ·have g1:val= .slice none 0 0:=g1
   subst g1
   exact fin _ [] (fun b hb=>by cases hb) ed (World.ownsRow_nil w' 0 ty sz) ⟨[],rfl,au,rfl⟩ rfl
theorem yz.O9 {P:Program}{g:FuncId}{args:List V}{ds:List D}{o:Nat->ae}{fr:Nat}{ty:TypeId}{sz:Nat}{es:List D}
 (fk:cE o args=some ds) (pF:D.kz es=true) (h:cU P g (ds.map .d) (fun _=> .no) 0 (fun v o1 _=>(∃j ep,v= .osl j ep/\o1 j= .arr ep ty sz es)\/(v= .bT/\es=[]/\0<sz)) (fun _ _ _=>False)):
 yz P g args (V.bO args) o fr (.osl fr 0) [(fr, .arr 0 ty sz es)]:=by
 refine⟨h.1,fun o' us M φ w vals hag dh hH hd=> ?_⟩
 obtain⟨f1,f2,f3,f4,f5⟩:=dH hH (V.bO args) (fun id aC=>(hag id aC).2)
 generalize hHF:(⟨o',us⟩:Hp).put (dy (⟨o',us⟩:Hp).o (V.bO args))=HF at f1 f2 f3
 let cZ:Place:=fun _=> .nilFunc
 have xI:∀b, ¬du cZ (hp (fun _=> .no) 0) b:=by rintro b ⟨id,hl,_⟩;simp[hp,ae.live]at hl
 have hM:∀b,az M φ HF b->b<w.heap.size:=fun b hb=>hb.elim (f1.Bu b) fun hl=>(f1.ours b hl).2
 have x7:D.aP (az M φ HF) w ds vals.toList:=dN f1 args ds _ (fun id aC=>by rw[f3 id aC];show(o' id).fz=(o id).fz;rw[(hag id aC).1]) fk (V.bg f2 _ _ hd)
 refine(h.2 (az M φ HF) cZ w vals (lV cZ hM) ((V.cM _ _).2 (D.bg (w:=w) (w':=w) (B:=az M φ HF) (fun b _ hB=>⟨rfl,fun h=>h.elim hB (xI b)⟩) _ _ x7))).mono ?_
 rintro e w' ⟨jG,o1,n1,v,k1,k2,k3⟩
 have hk:eO (fun _=>False) w w':=⟨k2.cJ.os,k2.cJ.tape,k2.cJ.output,k2.cJ.size,fun k hk _=>k2.cJ.block k hk (xI k)⟩
 have F0:(⟨o',us⟩:Hp).put [(fr, .arr 0 ty sz es)]=⟨put o' [(fr, .arr 0 ty sz es)],fun id=>us id\/id=fr⟩:=by
  simp only[Hp.put]
  congr 1
  funext id
  simp
 have fin:∀ (val:Value) (xs:List Value),(∀b,eT val=some b->w.heap.size<=b/\b<w'.heap.size)->0<sz->w'.ownsRow 0 ty sz val es.length xs->
  (gM (az M (aK φ fr val) ((⟨o',us⟩:Hp).put [(fr, .arr 0 ty sz es)])) w' sz es xs)->
  val.oneCell'=true->
  ∃aS,aF M aS ⟨put o' [(fr, .arr 0 ty sz es)],fun id=>us id\/id=fr⟩ w'/\Trans φ ⟨o',us⟩ w aS ⟨put o' [(fr, .arr 0 ty sz es)],fun id=>us id\/id=fr⟩ w'/\
   ∃Ln,Ending.returned val= .returned Ln/\V.den (az M aS ⟨put o' [(fr, .arr 0 ty sz es)],fun id=>us id\/id=fr⟩) aS ⟨put o' [(fr, .arr 0 ty sz es)],fun id=>us id\/id=fr⟩ w' (.osl fr 0) Ln:=by
  intro val xs ku ed eF ck Vj
  have qR:=jw hH hk dh (.arr 0 ty sz es) val ku (by
   unfold bn
   rw[show((⟨o',us⟩:Hp).put [(fr, .arr 0 ty sz es)]).o fr= .arr 0 ty sz es by simp]
   refine⟨ed,xs, ?_,ck⟩
   rw[show aK φ fr val fr=val by simp]
   exact eF)
  have RC:=eV (φ:=φ) (H:=⟨o',us⟩) hk dh (.arr 0 ty sz es) val (fun b hb=>(ku b hb).1)
  rw[F0]at qR RC
  refine⟨aK φ fr val,qR,RC,val,rfl,Vj, .inr rfl,fun e he=> ?_⟩
  have o7:0=e:=by
   have:(put o' [(fr,ae.arr 0 ty sz es)] fr).cH=some 0:=by simp[put,ae.cH]
   rw[show(⟨put o' [(fr, .arr 0 ty sz es)],fun id=>us id\/id=fr⟩:Hp).o fr=put o' [(fr, .arr 0 ty sz es)] fr from rfl,this]at he
   injection he
  exact⟨ad,fun _=>au⟩
 cases e with
 |outgrown=>exact k3.elim
 |panicked ch=>obtain⟨_,_,_,h⟩:=k3;exact h.elim
 |returned val=>
  obtain⟨g1,⟨j,ep,rfl,hj⟩|⟨rfl,rfl,ed⟩⟩:=k3
  ·obtain⟨v0,v1,v2⟩:=g1
   have fV:val=jG j:=(v2 ep (by show(o1 j).cH=some ep;rw[hj];rfl)).2 rfl
   have dk:∀b,eT val=some b->du jG (hp o1 n1) b:=fun b hb=>⟨j,by show(o1 j).live=true;rw[hj];rfl,by rw[<- fV];exact hb⟩
   have ku:∀b,eT val=some b->w.heap.size<=b/\b<w'.heap.size:=fun b hb=>⟨(k2.grow b (dk b hb)).resolve_left (xI b),(k1.ours b (dk b hb)).2⟩
   have Lo:=k1.ok j
   unfold bn at Lo
   rw[show(hp o1 n1).o j= .arr ep ty sz es from hj]at Lo
   obtain⟨ed,xs,eF,ck⟩:=Lo
   obtain⟨evs,e1,e2,e3⟩:=ck
   exact fin val xs ku ed (by rw[fV];exact eF) ⟨evs,e1,e2,D.mo _ _ pF e3⟩ v0
  ·have g1:val= .slice none 0 0:=g1
   subst g1
   exact fin _ [] (fun b hb=>by cases hb) ed (World.ownsRow_nil w' 0 ty sz) ⟨[],rfl,au,rfl⟩ rfl
theorem yz.Pa {P:Program}{g:FuncId}{args:List V}{ds:List D}{o0 o:Nat->ae}{rd:List Nat}{fr:Nat}{v:V}{Δ:List (Nat×ae)}(aC:V.bO args=[])(fk:cE o0 args=some ds)
 (h:yz P g (ds.map .d) rd o fr v Δ):yz P g args rd o fr v Δ:=
 ⟨h.1,fun o' us M φ w vals h1 h2 hH hd=>h.2 o' us M φ w vals h1 h2 hH ((V.cM _ _).2 (dN hH args ds _ (by rw[aC];intro id h;cases h) fk hd))⟩
def RD(P:Program)(f:FuncId):Prop:=
 Enters P f/\∀ (w:World) (b:Nat) (es:Array MapEntry) (clock:Nat),w.heap[b]? =some (.map es clock)->
  Calls P f #[.map (some b)] w fun e w'=>e= .returned (.map (some w.heap.size))/\w'=w.alloc (.map es clock)
theorem cU.Vk {P:Program}{f:FuncId}(h:RD P f){o:Nat->ae}{nx id:Nat}{kt vt:TypeId}{l:List (D×D)}(ho:o id= .map kt vt l){K X:V->(Nat->ae)->Nat->Prop}
 (hK:K (.mp nx) (aK o nx (.map kt vt l)) (nx+1)):cU P f [.mp id] o nx K X:=by
 refine⟨h.1,fun M φ w vals hH hd=> ?_⟩
 have hlen:=V.aM _ _ hd
 obtain⟨v,rfl⟩:∃v,vals=#[v]:=by
  match vals,hlen with
  |⟨[v]⟩,_=>exact⟨v,rfl⟩
 obtain⟨v',tZ,Oy⟩:=V.dY _ _ 0 (.mp id) hd rfl
 simp only[List.getElem?_cons_zero,Option.some.injEq]at tZ
 subst tZ
 have bA:=hH.ok id
 have yw:(hp o nx).o id= .map kt vt l:=ho
 simp only[bn,yw]at bA
 obtain⟨b,es,clock,e1,e2,e3,e4⟩:=bA
 have hv:v=φ id:=Oy.2.2 (by rw[yw];rfl)
 rw[hv,e1]
 refine(h.2 w b es clock e2).mono fun e w' ⟨he,hw⟩=> ?_
 subst he;subst hw
 have dh: ¬ (hp o nx).us nx:=fun h=>Nat.lt_irrefl _ h
 have F0:(hp o nx).put [(nx, .map kt vt l)]=hp (aK o nx (.map kt vt l)) (nx+1):=by
  simp only[Hp.put,hp]
  congr 1
  funext j
  simp only[List.map_cons,List.map_nil,List.mem_singleton,eq_iff_iff]
  omega
 have hvb:∀c,eT (.map (some w.heap.size))=some c->w.heap.size<=c/\c<(w.alloc (.map es clock)).heap.size:=by
  intro c hc;simp[eT]at hc;subst hc;simp
 have ht:=eV (φ:=φ) (H:=hp o nx) (c0 w (.map es clock)) dh (.map kt vt l) (.map (some w.heap.size)) fun c hc=>(hvb c hc).1
 refine⟨aK φ nx (.map (some w.heap.size)),aK o nx (.map kt vt l),nx+1, .mp nx, ?_, ?_, ?_,hK⟩
 ·rw[<- F0]
  refine jw hH (c0 w _) dh _ _ hvb ?_
  unfold bn
  simp only[bX,aW,if_true]
  exact⟨w.heap.size,es,clock,rfl,heap_alloc_new w _,e3,a8.mono (ht.blocks (M:=M)) l _ e4⟩
 ·rw[<- F0];exact ht
 ·rw[<- F0];exact⟨rfl,au,fun _=>au⟩
end Go.Proofs.YtonbelhklnmjnaaGreat
