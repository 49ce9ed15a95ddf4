/-
  A PART OF THE PROOF. Conditions: none.
-/
import Derived.Test.YtlhemmpklhhgoaaGreatQb9
set_option linter.unusedSimpArgs false
set_option linter.unusedVariables false
namespace Go.Proofs.YtlhemmpklhhgoaaGreat
section
section
variable (ρ:Nat->Option Nat)(o' o:Nat->ab)(nx:Nat)
end
section
variable {M M':Nat->Prop}{φ aA:Place}{H H':Hp}{w:World}{ρ:Nat->Option Nat}{nx:Nat}
end
end
@[go_sem] theorem lS (v:V) (l:List V):ba (v::l) 0=v:=rfl
@[go_sem] theorem lT (v:V) (l:List V) (i:Nat):ba (v::l) (i+1)=ba l i:=rfl
@[go_sem] theorem od (i:Nat):ba [] i= .aa:=by simp[ba]
@[go_sem] theorem LH (k:Nat):(0<=(k:Int))=True:=aK
attribute [go_sem] List.getElem?_map List.length_map Int.toNat_natCast
attribute [go_sem] dN List.flatMap_cons List.flatMap_nil
attribute [go_sem] isConst o9 Io o7 o8 xH o6 nz Aj Ip ug Dl mI mJ uf rq rr nA
attribute [go_sem] mh V.refs V.aP
attribute [go_sem] List.all_nil List.all_cons Option.some.injEq D.int.injEq D.bool.injEq Nat.zero_add Nat.add_zero
theorem wrap64{n:Int}(h1: -9223372036854775808<=n)(h2:n<=9223372036854775807):IntKind.i64.wrap n=n:=by
 unfold IntKind.wrap
 have e1:((2:Int)^IntKind.i64.bits)=18446744073709551616:=cA
 have e2:((2:Int)^(IntKind.i64.bits - 1))=9223372036854775808:=cA
 have e3:IntKind.i64.signed=true:=rfl
 simp only[e1,e2,e3,Bool.true_and,decide_eq_true_eq]
 split<;>omega
structure Good (o:Nat->ab) (nx:Nat):Prop where
 fresh:∀id,nx<=id->o id= .no
 refs:∀id,∀r∈(o id).refs,r<nx
theorem Good.nil {nx:Nat}:Good (fun _=> .no) nx:=⟨fun _ _=>rfl,fun id r h=>by cases h⟩
theorem Good.aI {o:Nat->ab}{nx i:Nat}{x:ab}(h:Good o nx)(hi:i<nx)(hx:x.refs.all (fun r=>decide (r<nx))=true):Good (aI o i x) nx:=by
 refine⟨fun id au=> ?_,fun id r hr=> ?_⟩
 ·rw[ah _ _ _ _ (by omega)];exact h.fresh id au
 ·by_cases e:id=i
  ·subst e
   rw[ae]at hr
   simpa using List.all_eq_true.1 hx r hr
  ·rw[ah _ _ _ _ e]at hr
   exact h.refs id r hr
theorem Good.mono {o:Nat->ab}{nx m:Nat}(h:Good o nx)(hm:nx<=m):Good o m:=⟨fun id au=>h.fresh id af,fun id r hr=>Nat.lt_of_lt_of_le (h.refs id r hr) hm⟩
theorem Good.lt {o:Nat->ab}{nx id:Nat}(h:Good o nx)(hn:o id≠ .no):id<nx:=by
 rcases Nat.lt_or_ge id nx with hl|hl
 ·exact hl
 ·exact absurd (h.fresh id hl) hn
theorem V.tS:∀ (l:List V) (i:Nat),∀r∈(ba l i).refs,r∈V.aP l
 |[],i,r,h=>by rw[od]at h;cases h
 |v::l,0,r,h=>by rw[lS]at h;simp only[V.aP,List.mem_append];exact .inl h
 |v::l,i+1,r,h=>by rw[lT]at h;simp only[V.aP,List.mem_append];exact .inr (V.tS l i r h)
theorem bG.back {b:Nat}{s:S}{env:Nat->V}{o:Nat->ab}{nx:Nat}(hb:b<=nx)(hn:nx<=s.nx)(hg:Good o nx)(ho:∀id,id<nx->s.o id=o id)
 (he:∀i,env i= .aa\/(env i=s.env i/\∀r∈(env i).refs,r<nx)):bG b s ⟨env,o,nx⟩:=by
 intro M φ w tm hH hd
 have cC:∀k,cn φ (hp o nx) k->cn φ s.H k:=by
  rintro k ⟨id,h1,h2⟩
  have au:id<nx:=hg.lt (fun e=>by simp only[hp]at h1;rw[e]at h1;cases h1)
  exact⟨id,by simp only[S.H];rw[ho id au];exact h1,h2⟩
 have hB:∀k, ¬ai M φ s.H k-> ¬ai M φ (hp o nx) k:=fun k h h'=>h (h'.imp id (cC k))
 have eP:∀ (v:V) (val:Value),(∀r∈v.refs,r<nx)->V.den (ai M φ s.H) φ s.H w v val->V.den (ai M φ (hp o nx)) φ (hp o nx) w v val:=fun v val hr h=>
  V.kX (H:=s.H) (H':=hp o nx) hB v val (fun id au=>⟨(ho id (hr id au)).symm,rfl,hr id au⟩) h
 have nu:∀ (v:List V) (val:List Value),(∀r∈V.aP v,r<nx)->V.az (ai M φ s.H) φ s.H w v val->V.az (ai M φ (hp o nx)) φ (hp o nx) w v val:=fun v val hr h=>
  V.eM (H:=s.H) (H':=hp o nx) hB v val (fun id au=>⟨(ho id (hr id au)).symm,rfl,hr id au⟩) h
 refine⟨φ,⟨fun id=> ?_,fun id hu=>hg.fresh id (by simpa[S.H]using hu),fun i j k h1 h2 h3 h4=> ?_,fun k hk=>hH.ours k (cC k hk),hH.xg⟩,fun i=> ?_,cC,hb,fun id au hr=> ?_,fun id e' au ni=> ?_⟩
 ·have aT:=hH.ok id
  have hrefs:=hg.refs id
  unfold aJ at aT|-
  by_cases au:id<nx
  ·have e:s.H.o id=o id:=ho id au
   rw[e]at aT
   simp only[S.H]at aT|-
   cases hx:o id with
   |no=>trivial
   |row cs=>
    simp only[hx]at aT hrefs|-
    exact Td
   |arr ep ty sz es=>
    simp only[hx]at aT|-
    obtain⟨k1,xs,k2,evs,k3,k4,k5⟩:=aT
    exact Sr
   |qN ep es=>
    simp only[hx]at aT|-
    exact D.aL (fun b _ hn=>⟨rfl,hB b hn⟩) _ _ aT
   |map kt vt es=>
    simp only[hx]at aT|-
    obtain⟨b,es',clock,k1,k2,k4,k3⟩:=aT
    exact Sn
   |cM l=>
    simp only[hx]at aT|-
    exact jf.mono (fun b _ hn=>⟨rfl,hB b hn⟩) aT
   |oX l last=>
    simp only[hx]at aT|-
    obtain⟨b,k1,k2⟩:=aT
    exact Ks
   |vy s pos=>
    simp only[hx]at aT|-
    exact aT
   |loop nf n env ps a b st pd=>
    simp only[hx]at aT hrefs|-
    exact KG
  ·simp only[S.H]
   rw[hg.fresh id (by omega)]
   trivial
 ·have hi:i<nx:=hg.lt (fun e=>by simp only[S.H]at h1;rw[e]at h1;cases h1)
  have hj:j<nx:=hg.lt (fun e=>by simp only[S.H]at h2;rw[e]at h2;cases h2)
  exact hH.apart i j k (by simp only[S.H];rw[ho i hi];exact h1) (by simp only[S.H];rw[ho j hj];exact h2) h3 h4
 ·rcases he i with h|⟨h1,h2⟩
  ·simp only[h];trivial
  ·have:=hd i
   rw[<- h1]at this
   exact eP _ _ h2 this
 ·have bR:id<nx:=af
  exact⟨by rw[ho id bR];exact hr,rfl⟩
 ·have bR:id<nx:=af
  exact⟨e',by rw[ho id bR];exact ni,Nat.le_refl _,fun _=>rfl⟩
def jG(nx:Nat)(env:Nat->V):List V->Nat->Prop
 |[],_=>True
 |v::l,i=>(v= .aa\/(v=env i/\∀r∈v.refs,r<nx))/\jG nx env l (i+1)
theorem bG.bU {b:Nat}{e:Nat->V}{so:Nat->ab}{m:Nat}(l:List V){o:Nat->ab}{nx:Nat}(hb:b<=nx)(hn:nx<=m)(hg:Good o nx)(ho:∀id,id<nx->so id=o id)(he:jG nx e l 0):bG b ⟨e,so,m⟩ ⟨ba l,o,nx⟩:=by
 refine bG.back hb hn hg ho ?_
 have key:∀ (l:List V) (i:Nat),jG nx e l i->∀j,ba l j= .aa\/(ba l j=e (i+j)/\∀r∈(ba l j).refs,r<nx):=by
  intro l
  induction l with
  |nil=>intro i _ j;rw[od];exact .inl rfl
  |cons v l ih=>
   intro i h j
   cases j with
   |zero=>rw[lS];exact h.1
   |succ j=>
    rw[lT]
    have:=ih (i+1) h.2 j
    rwa [show i+1+j=i+(j+1) by omega]at this
 intro i
 have:=key l 0 he i
 rwa [Nat.zero_add]at this
theorem tR{nx:Nat}{env:Nat->V}{i:Nat}:jG nx env [] i:=trivial
theorem eB{nx:Nat}{env:Nat->V}{l:List V}{i:Nat}(h:jG nx env l (i+1)):jG nx env (.aa::l) i:=⟨.inl rfl,h⟩
theorem lK{nx:Nat}{env:Nat->V}{l:List V}{i:Nat}{x:D}(he:env i= .d x)(h:jG nx env l (i+1)):jG nx env (.d x::l) i:=⟨.inr ⟨he.symm,fun r hr=>by simp[V.refs]at hr⟩,h⟩
theorem BH{nx:Nat}{env:Nat->V}{l:List V}{i:Nat}{v:V}(he:env i=v)(hr:∀r∈v.refs,r<nx)(h:jG nx env l (i+1)):jG nx env (v::l) i:=⟨.inr ⟨he.symm,hr⟩,h⟩
theorem bG.d0 {e:Nat->V}{so:Nat->ab}{m:Nat}(l:List V)(he:jG 0 e l 0):bG 0 ⟨e,so,m⟩ ⟨ba l,fun _=> .no,0⟩:=bG.bU l (Nat.le_refl 0) (Nat.zero_le _) Good.nil (fun _ h=>absurd h (Nat.not_lt_zero _)) he
theorem Km{k:Nat}(h:(k:Int)+1<=9223372036854775807):IntKind.i64.wrap ((k:Int)+1)=((k+1:Nat):Int):=by rw[wrap64 (by omega) h];rfl
theorem Kl{k:IntKind}{a b:Int}(h:a=b):V.d (D.int k a)=V.d (D.int k b):=by rw[h]
abbrev D.i (n:Int):D:= .int .i64 n
structure dZ where
 name:List UInt8
 args:Int
structure aN where
 cons:List dZ
 bF:List dZ
inductive Tm where
 |mk (op n:Int) (kids:List Tm)
 deriving Inhabited
structure TB where
 var:Int
 term:Tm
def Tm.op:Tm->Int| .mk op _ _=>op
def Tm.n:Tm->Int| .mk _ n _=>n
def Tm.kids:Tm->List Tm| .mk _ _ l=>l
theorem Tm.eta (t:Tm):Tm.mk t.op t.n t.kids=t:=by cases t;rfl
theorem Tm.ind {P:Tm->Prop}(h:∀op n kids,(∀k∈kids,P k)->P (.mk op n kids)):∀t,P t:=
 fun t=>Tm.rec (motive_1:=P) (motive_2:=fun l=>∀k∈l,P k) (fun op n kids ih=>h op n kids ih) (fun _ h=>by cases h)
  (fun x l hx hl k hk=>(List.mem_cons.1 hk).elim (fun e=>e ▸ hx) (hl k)) t
mutual
def Tm.d:Tm->D
 | .mk op n kids=> .agg [.i op, .i n, .sl (Tm.ds kids)]
def Tm.ds:List Tm->List D
 |[]=>[]
 |t::l=>t.d::Tm.ds l
end
theorem Tm.AZ:∀l:List Tm,Tm.ds l=l.map Tm.d
 |[]=>rfl
 |t::l=>by simp[Tm.ds,Tm.AZ l]
theorem Tm.Un (t:Tm):t.d= .agg [.i t.op, .i t.n, .sl (t.kids.map Tm.d)]:=by cases t;simp[Tm.d,Tm.AZ,Tm.op,Tm.n,Tm.kids]
@[go_sem] theorem Tm.Zo (t:Tm):D.agg [.i t.op, .i t.n, .sl (t.kids.map Tm.d)]=t.d:=(Tm.Un t).symm
@[go_sem] theorem Tm.XG (t:Tm):D.cells t.d=[.i t.op, .i t.n, .sl (t.kids.map Tm.d)]:=by rw[Tm.Un];rfl
theorem Tm.fk {P:Tm->Prop}(h:∀t:Tm,(∀k∈t.kids,P k)->P t):∀t,P t:=Tm.ind fun op n kids ih=>h (.mk op n kids) ih
theorem Tm.On (op n:Int)(l:List Tm):(Tm.mk op n l).d= .agg [.i op, .i n, .sl (l.map Tm.d)]:=by simp[Tm.d,Tm.AZ]
@[reducible] def dZ.d (x:dZ):D:= .agg [.str x.name, .i x.args]
@[reducible] def aN.d (s:aN):D:= .agg [.sl (s.cons.map dZ.d), .sl (s.bF.map dZ.d)]
@[reducible] def TB.d (b:TB):D:= .agg [.i b.var, .i b.term.op, .i b.term.n, .sl (b.term.kids.map Tm.d)]
mutual
def Tm.fits:Tm->Prop
 | .mk _ _ kids=>kids.length<=9223372036854775807/\Tm.yL kids
def Tm.yL:List Tm->Prop
 |[]=>True
 |t::l=>t.fits/\Tm.yL l
end
theorem Tm.uQ:∀l:List Tm,Tm.yL l↔∀k∈l,k.fits
 |[]=>by simp[Tm.yL]
 |t::l=>by simp[Tm.yL,Tm.uQ l]
theorem Tm.bD (t:Tm):t.fits↔t.kids.length<=9223372036854775807/\∀k∈t.kids,k.fits:=by cases t;simp[Tm.fits,Tm.uQ,Tm.kids]
mutual
def Tm.mD:Tm->Nat
 | .mk _ _ kids=>1+Tm.jZ kids
def Tm.jZ:List Tm->Nat
 |[]=>0
 |k::l=>Nat.max k.mD (Tm.jZ l)
end
theorem Tm.yM:∀ {l:List Tm} {k:Tm},k∈l->k.mD<=Tm.jZ l
 |x::l,k,h=>by
  simp only[Tm.jZ]
  rcases List.mem_cons.1 h with rfl|h
  ·exact Nat.le_max_left _ _
  ·exact Nat.le_trans (Tm.yM h) (Nat.le_max_right _ _)
theorem Tm.wz {t k:Tm}(h:k∈t.kids):k.mD+1<=t.mD:=by
 cases t;simp only[Tm.kids]at h;simp only[Tm.mD];have:=Tm.yM h;omega
mutual
def pre:Tm->Int->List (Tm×Int)
 | .mk op n kids,d=>(.mk op n kids,d)::Jb kids (d+1)
def Jb:List Tm->Int->List (Tm×Int)
 |[],_=>[]
 |k::l,d=>pre k d++Jb l d
end
theorem D3(l:List Tm)(d:Int):Jb l d=l.flatMap fun k=>pre k d:=by
 induction l with
 |nil=>rfl
 |cons k l ih=>simp[Jb,ih]
theorem lg(t:Tm)(d:Int):pre t d=(t,d)::t.kids.flatMap fun k=>pre k (d+1):=by cases t;simp[pre,D3,Tm.kids]
def da(n low high:Int):Bool:=decide (low<=n)&&decide (n<=high)
def letterF(b:UInt8):Bool:= !((decide ((b.toNat:Int)<97)||decide (122<(b.toNat:Int)))&&(decide ((b.toNat:Int)<65)||decide (90<(b.toNat:Int))))
def iy(s:List UInt8):Bool:=s.all letterF&&da s.length 1 8
def bS:List dZ->List (List UInt8)->Option (List (List UInt8))
 |[],before=>some before
 |x::l,before=>if before.any (· ==x.name)then none else if(!iy x.name|| !da x.args 0 4)=true then none else bS l (before++[x.name])
def fB:List UInt8:=[70,97,108,115,101]
def tB:List UInt8:=[84,114,117,101]
def kB(x:dZ)(s:List UInt8):Bool:=x.name==s&&x.args==0
def j5(s:aN):Bool:=
 if(!da s.cons.length 2 12||decide (8<(s.bF.length:Int)))=true then false else
 match s.cons with
 |a::b::_=>if(!kB a fB|| !kB b tB)=true then false else
  match bS s.cons []with
  |none=>false
  |some l=>(bS s.bF l).isSome
 |_=>false
mutual
def gk:Tm->Int->Int->Int
 | .mk _ _ kids,left,depth=>if left<1\/depth<1 then -1 else bT kids (left - 1) (depth - 1)
def bT:List Tm->Int->Int->Int
 |[],left,_=>left
 |k::l,left,depth=>if 0<=left then bT l (gk k left depth) depth else left
end
def fI(l:List dZ)(n:Int):Int:=match l[n.toNat]? with|some x=>x.args|none=>0
def a8(s:aN)(t:Tm):Bool:=
 let k:Int:=t.kids.length
 if t.op=1 then k==0&&da t.n 0 19
 else if t.op=2 then k==0&&da t.n (-1000000) 1000000
 else if t.op=3 then da t.n 0 (s.cons.length - 1)&&k==fI s.cons t.n
 else if t.op=4 then da t.n 0 (s.bF.length - 1)&&k==fI s.bF t.n
 else if t.op=5 then da t.n 0 (s.bF.length - 1)&&decide (k<fI s.bF t.n)
 else if t.op=8 then k==2&&da t.n 0 19
 else if(da t.op 6 15)=true then k==2&&t.n==0
 else false
mutual
def fK(s:aN):Tm->Bool
 | .mk op n kids=>a8 s (.mk op n kids)&&qT s kids
def qT(s:aN):List Tm->Bool
 |[]=>true
 |k::l=>fK s k&&qT s l
end
def iz(s:aN)(t:Tm):Bool:=decide (0<=gk t 40 12)&&fK s t
mutual
def eG:Tm->Bool
 | .mk op _ kids=>qU kids&&((decide (1<=op)&&decide (op<=3))||op==5)
def qU:List Tm->Bool
 |[]=>true
 |k::l=>eG k&&qU l
end
mutual
def iA:Tm->Tm->Bool
 | .mk op n kids, .mk op' n' LI=>op==op'&&n==n'&&kids.length==LI.length&&fL kids LI
def fL:List Tm->List Tm->Bool
 |[],_=>true
 |k::l,k'::l'=>iA k k'&&fL l l'
 |_::_,[]=>true
end
def fM(t:Tm):Bool:=decide (0<=gk t 50 14)
def eA(l:List dZ):Bool:=l.all fun x=>decide ((x.name.length:Int)<=30)
def gX(s:aN):Bool:= !(decide (16<(s.cons.length:Int))||decide (12<(s.bF.length:Int)))&&eA s.cons&&eA s.bF
section
def jo(id:Nat)(K X:V->(Nat->ab)->Nat->Prop)(e:eT)(s:S):Prop:=
 match e with
 | .normal=>∃nf m en p c d st pd,s.o id= .loop nf m en p c d st pd/\K (.d (.bool true)) (aI s.o id (.loop nf m en p c d .ready none)) s.nx
 | .ret=>∃nf m en p c d st pd,s.o id= .loop nf m en p c d st pd/\K (.d (.bool false)) (aI s.o id (.loop nf m en p c d .done (some .ret))) s.nx
 | .exit j=>∃nf m en p c d st pd,s.o id= .loop nf m en p c d st pd/\K (.d (.bool false)) (aI s.o id (.loop nf m en p c d .done (some (.exit j)))) s.nx
 | .bu v=>X v s.o s.nx
def Oo(P:Program)(n b id:Nat)(eS:IC)(K X:V->(Nat->ab)->Nat->Prop)(e:eT)(s:S):Prop:=
 match e with
 | .normal=>∃nf m en p c d pd,s.o id= .loop nf m en p c d .ready pd/\qS P n b true eS (jo id K X) ⟨s.env,aI s.o id (.loop nf m en p c d .busy pd),s.nx⟩
 | .bu v=>X v s.o s.nx
 |_=>False
section
variable {P:Program}{M:Nat->Prop}{φ b7:Place}{H0:Hp}{w w0:World}{n:Nat}{s:S}{a:Act}{cx:Cx}
theorem yN{id:Nat}{x:ab}{s:S}(bR:id<s.nx)(j:Nat)(hu:(s.H.put [(id,x)]).us j):j<s.nx:=by
 simp only[dm]at hu
 rcases hu with hu|hu
 ·exact hu
 ·subst hu;exact bR
theorem sb{B:Nat->Prop}{H:Hp}{n:Nat}:∀ (ps:List Nat) (vs:List V) (us:List Value) (env:Nat->V) (tmps:Array Value),tmps.size=n->ps.length=vs.length->V.az B φ H w vs us->ps.all (fun t=>decide (t<n))=true->(∀i,V.den B φ H w (env i) (tmps.getD i undef))->
 ((ps.zip us).foldl (fun tmps p=>tmps.setIfInBounds p.1 p.2) tmps).size=n/\∀i,V.den B φ H w (n9 env ps vs i) (((ps.zip us).foldl (fun tmps p=>tmps.setIfInBounds p.1 p.2) tmps).getD i undef)
 |[],[],us,env,tmps,du,_,hd,_,he=>by simp only[V.az]at hd;subst hd;exact⟨du,he⟩
 |[],v::vs,us,env,tmps,_,h,_,_,_=>by simp at h
 |t::ps,[],us,env,tmps,_,h,_,_,_=>by simp at h
 |t::ps,v::vs,us,env,tmps,du,hl,hd,hp,he=>by
  obtain⟨u,us,rfl,h1,h2⟩:=hd
  simp only[List.all_cons,Bool.and_eq_true,decide_eq_true_eq]at hp
  simp only[List.zip_cons_cons,List.foldl_cons,n9]
  refine sb ps vs us (aI env t v) (tmps.setIfInBounds t u) (by simp[du]) (by simpa using hl) h2 hp.2 (fun i=> ?_)
  simp only[aC]
  by_cases hi:i=t
  ·subst hi
   have:(tmps.setIfInBounds i u).getD i undef=u:=by simp[Array.getD,du,hp.1]
   rw[if_pos rfl,this];exact h1
  ·have:(tmps.setIfInBounds t u).getD i undef=tmps.getD i undef:=by
    exact Ng
   rw[if_neg hi,this];exact he i
theorem c6.rZ (aY:P.follows .mixedOrders=true){id:Nat}{args:List V}{o:Nat->ab}{nx:Nat}{K X:V->(Nat->ab)->Nat->Prop}{env:List V}{ps:List Nat}{jg eS:IC}{st:LoopState}{pd:Option iH}
 (ho:o id= .loop P.funcs.size n env ps jg eS st pd) (bR:id<nx) (Gi:ps.all (fun t=>decide (t<n))=true) (hl:args.length=ps.length)
 (h:qS P n nx true jg (Oo P n nx id eS K X) ⟨n9 (ba env) ps args,o,nx⟩):c6 P id args o nx K X:=by
 refine⟨by rw[ho];rfl,fun M φ w vals b hH hd ef=> ?_⟩
 have aQ:=hH.ok id
 simp only[aJ,hp,ho]at aQ
 obtain⟨b',r,h1,h2,h0,h3,h4,h5,h6,h7,h8,h9⟩:=aQ
 rw[ef]at h1;simp at h1;subst h1
 have hlen:=V.ax _ _ hd
 have du:vals.size=r.params.size:=by
  have:r.params.toList.length=ps.length:=by rw[h5]
  simp at hlen this;omega
 let tm:Array Value:=(ps.zip vals.toList).foldl (fun tmps p=>tmps.setIfInBounds p.1 p.2) r.tmps
 have Uo:(r.params.zip vals).foldl (fun tmps (p:Tmp×Value)=>tmps.setIfInBounds p.1 p.2) r.tmps=tm:=by
  rw[<- Array.foldl_toList,Array.toList_zip,h5]
 obtain⟨p1,p2⟩:=sb (B:=ai M φ (hp o nx)) (H:=hp o nx) (φ:=φ) (w:=w) ps args vals.toList (ba env) r.tmps h6 hl.symm hd Gi h9
 refine⟨r.fn,tm,r.assign,r.body, ?_,fun k=> ?_⟩
 ·simp only[Instr.yield,Sem.run_bind,iU h2,Result.andThen_ok,du,ne_eq,not_true_eq_false,if_false,Sem.run_pure]
  rw[<- Uo]
 ·
   let s0:S:=⟨n9 (ba env) ps args,o,nx⟩
   let a0:Act:={tmps:=tm,defers:=[]}
   have mR:bJ M φ (hp o nx) w n ⟨[],true⟩ φ s0 a0 w:=⟨hH,Trans.refl _ _ _,p1,⟨[],rfl,List.nodup_nil,fun _=>rfl,fun r hr=>by cases hr⟩,p2⟩
   have sc:∀ {aA s' a' w'},bJ M φ (hp o nx) w n ⟨[],true⟩ aA s' a' w'->a'.defers=[]:=by
    intro aA s' a' w' hs
    obtain⟨ms,g1,_,g3,_⟩:=hs.defers
    rw[g3 rfl]at g1;exact g1
   have Up:∀ {aA s' a' w'} {nf m:Nat} {en:List V} {p:List Nat} {c d:IC} {st:LoopState} {pd:Option iH} (st':LoopState) (pd':Option iH),bJ M φ (hp o nx) w n ⟨[],true⟩ aA s' a' w'->s'.o id= .loop nf m en p c d st pd->
    ∃r',w'.heap[b]? =some (.loop r')/\r'.state=st/\r'.pending=pd.map iH.code/\
     bJ M φ (hp o nx) w n ⟨[],true⟩ aA ⟨s'.env,aI s'.o id (.loop nf m en p c d st' pd'),s'.nx⟩ a' {w' with heap:=w'.heap.setIfInBounds b (.loop {r' with state:=st',pending:=pd'.map iH.code})}:=by
    intro aA s' a' w' nf m en p c d st pd st' pd' hs np
    have NF:aA id= .pointer (some ⟨b,0,none⟩):=by
     have:=(hs.tr.rel.row id bR (by show(s'.o id).bM=true;rw[np];rfl)).2
     rw[this];exact ef
    have Uq:id<s'.nx:=hs.tr.rel.us id bR
    obtain⟨r',r1,r2,r3,r4,r5⟩:=uD (st':=st') (pd':=pd') hs.heap Uq (show s'.H.o id=_ from np) NF
    exact⟨r',r1,r2,r3,dJ hs r4 r5 rfl (yN Uq)⟩
   have ha:=fG (P:=P) (n:=n) (b:=nx) (rd:=true) aY r.assign _ _ s0 (fun _ _ h=>h) (by rw[h7];exact h)
   refine rM h0 (e7 (fA (P:=P) (H0:=hp o nx) (b:=nx) (cx:=⟨[],true⟩) (ro:=some b) (fun id hu=>hu) (fun h=>by cases h) r.assign _ s0 φ a0 w ha mR) ?_)
   rintro e a1 w1 ⟨x,s1,gy,hq,rK,hm⟩
   cases e<;>cases x<;>first|(exact hm.elim)|skip
   ·
     obtain⟨nf,m,en,p,c,d,Zp,q1,q2⟩:=hq
     obtain⟨r',r1,r2,r3,ER⟩:=Up .busy Zp rK q1
     have Oq:(Instr.beginRound b).run P w1= .ok () {w1 with heap:=w1.heap.setIfInBounds b (.loop {r' with state:= .busy,pending:=Zp.map iH.code})}:=by
      have e1:({r' with state:= .busy}:Loop)={r' with state:= .busy,pending:=Zp.map iH.code}:=by rw[<- r3]
      simp only[Instr.beginRound,Sem.run_bind,iU r1,Result.andThen_ok,gA _ r1,r2,Sem.run_pure,e1]
     refine⟨_,Oq, ?_⟩
     have bg:=ER.heap.ok id
     simp only[aJ,S.H,aC,if_true]at bg
     obtain⟨b2,r2',_,_,_,_,_,_,_,_,_,_⟩:=bg
     have hb:=fG (P:=P) (n:=n) (b:=nx) (rd:=true) aY r.body _ _ _ (fun _ _ h=>h) (by rw[h8];exact q2)
     refine e7 (fA (P:=P) (H0:=hp o nx) (b:=nx) (cx:=⟨[],true⟩) (ro:=some b) (fun id hu=>hu) (fun h=>by cases h) r.body _ _ gy a1 _ hb ER) ?_
     rintro e a2 w2 ⟨x,s2,DJ,QH,Cf,K0⟩
     have fin:∀ {nf m:Nat} {en:List V} {p:List Nat} {c d:IC} {st:LoopState} {pd:Option iH} (jump:Option iH) (t:Bool) (st':LoopState),t=jump.isNone->st'=(if jump.isNone then .ready else .done)->s2.o id= .loop nf m en p c d st pd->K (.d (.bool t)) (aI s2.o id (.loop nf m en p c d st' jump)) s2.nx->
      ∃v w',(Instr.endRound b (jump.map iH.code)).run P w2= .ok v w'/\kP M φ (hp o nx) w K X (.returned v) w':=by
      intro nf m en p c d st pd jump t st' ht ky Ur hK
      obtain⟨r3',g1,g2,g3,QI⟩:=Up st' jump Cf Ur
      refine⟨.bool t,_, ?_,DJ,_,_,_,QI.heap,QI.tr,by simp only[V.den,D.den],hK⟩
      subst ht;subst ky
      simp only[Instr.endRound,Sem.run_bind,iU g1,Result.andThen_ok,gA _ g1,Sem.run_pure,Option.isNone_map]
     cases e<;>cases x<;>first|(exact K0.elim)|skip
     ·obtain⟨nf,m,en,p,c,d,st,pd,k1,k2⟩:=QH
      exact fin none true .ready rfl rfl k1 k2
     ·rename_i j
      subst K0
      obtain⟨nf,m,en,p,c,d,st,pd,k1,k2⟩:=QH
      exact fin (some (.exit _)) false .done rfl rfl k1 k2
     ·obtain⟨nf,m,en,p,c,d,st,pd,k1,k2⟩:=QH
      exact fin (some .ret) false .done rfl rfl k1 k2
     ·obtain⟨val,rfl,k2⟩:=K0
      exact⟨sc Cf,DJ,_,_,_,Cf.heap,Cf.tr,val,rfl,k2,QH⟩
   ·exact hq.elim
   ·exact hq.elim
   ·obtain⟨val,rfl,k2⟩:=hm
    exact⟨sc rK,gy,_,_,_,rK.heap,rK.tr,val,rfl,k2,hq⟩
end
end
section
def Ot(ops:Array Oper)(t t1:Nat):Prop:=
 (∃o1 o2,ops=#[o1,o2]/\o1.op= .call ⟨.builtin .recover,#[],#[]⟩/\o1.dst=some t/\o1.guard=none/\o2.op= .assign (.tmp t)/\o2.dst=some t1/\o2.guard=none)\/
 (∃o1,ops=#[o1]/\t1=t/\o1.op= .call ⟨.builtin .recover,#[],#[]⟩/\o1.dst=some t/\o1.guard=none)
structure Cu (P:Program) (g:FuncId) (n t t1:Nat) (ic:IC):Prop where
 get:∃fn id ops c,P.funcs[g]? =some fn/\(fn.name== "runtime.NumGoroutine")=false/\fn.ntmps=n/\fn.results=#[]/\fn.body=some (.seq (.region id ops false) c)/\
  Ot ops t t1/\t<n/\t1<n/\low n c=ic
structure Gj (P:Program) (f:FuncId) (n:Nat) (jg eS:IC) (g:FuncId) (t:Nat) (cz:List Operand) (rs:List ResultVar):Prop where
 get:∃fn id o1 o2 a b d,P.funcs[f]? =some fn/\(fn.name== "runtime.NumGoroutine")=false/\fn.ntmps=n/\fn.results.toList=rs/\fn.body=some (.seq a d)/\(d= .seq (.region id #[o1,o2] false) b\/d= .scope (.seq (.region id #[o1,o2] false) b))/\
  o1.op= .makeFunc (.func g) #[] cz.toArray/\o1.dst=some t/\o1.guard=none/\o2.op= .defer ⟨.value (.tmp t),#[],#[]⟩/\o2.dst=none/\o2.guard=none/\t<n/\low n a=jg/\low n b=eS
def Zq(K:(Nat->ab)->Nat->Prop)(e:eT)(s:S):Prop:=match e with| .normal| .ret=>K s.o s.nx|_=>False
def D4(P:Program)(n t t1:Nat)(ic:IC)(cz:List V)(u:V)(o:Nat->ab)(nx:Nat)(K:(Nat->ab)->Nat->Prop):Prop:=
 cz.length<=n/\qS P n nx true ic (Zq K) ⟨aI (aI (cj cz) t u) t1 u,o,nx⟩
def A0(P:Program)(n t t1:Nat)(ic:IC)(cz:List V)(rs:List ResultVar)(K X:V->(Nat->ab)->Nat->Prop)(e:eT)(s:S):Prop:=
 match e with
 | .normal| .ret=>D4 P n t t1 ic cz (.d .fi) s.o s.nx fun o nx=>jW P rs K X .ret ⟨s.env,o,nx⟩
 | .bu v=>D4 P n t t1 ic cz v s.o s.nx fun o nx=>jW P rs K X .ret ⟨s.env,o,nx⟩
 | .exit _=>False
def Gk(P:Program)(n t:Nat)(eS:IC)(gL:List Operand)(g:FuncId)(D:List V->eT->S->Prop)(e:eT)(s:S):Prop:=
 match e with
 | .normal=>qS P n s.nx false eS (D (gL.map s.ev)) ⟨aI s.env t (.func (.func g) [] (gL.map s.ev)),s.o,s.nx⟩
 |_=>False
section
variable {P:Program}{M:Nat->Prop}{φ b7:Place}{H H0:Hp}{w w0:World}{n:Nat}{s:S}{a:Act}{cx:Cx}{k:Nat}
theorem D5(aY:P.follows .mixedOrders=true){g:FuncId}{t t1:Nat}{ic:IC}(hg:Cu P g n t t1 ic){cz:List V}{u:V}{o:Nat->ab}{nx:Nat}{K:(Nat->ab)->Nat->Prop}(h:D4 P n t t1 ic cz u o nx K)
 {vals:Array Value} {val:Value} {m:FrameMode} (hH:aq M φ (hp o nx) w) (hd:V.az (ai M φ (hp o nx)) φ (hp o nx) w cz vals.toList) (hv:V.den (ai M φ (hp o nx)) φ (hp o nx) w u val)
 (hm:(m= .returning/\val= .nilIface)\/m= .panicking [{v:=val,recovered:=false}]):
 CallsDIn (c8 none) k P g vals m w fun e u' w'=>∃v aA o' nx',e= .returned v/\settle u'= .returning/\aq M aA (hp o' nx') w'/\Trans φ (hp o nx) w aA (hp o' nx') w'/\K o' nx':=by
 obtain⟨fn,id,ops,c,hf,LJ,XH,ye,nU,Fj,ht,z8,px⟩:=hg.get
 have bR:g<P.funcs.size:=(Array.getElem?_eq_some_iff.1 hf).1
 obtain⟨qA,h⟩:=h
 have hlen:=V.ax _ _ hd
 refine⟨trivial,fun mX cs Gl KZ=> ?_⟩
 let b:Frame:={(default:Frame)with fn:=g,kind:= .deferred,roundOf:=none}
 let qV:Array Value:=vals++Array.replicate (fn.ntmps - vals.size) undef
 have Zr:qV.size=n:=by simp only[qV,Array.size_append,Array.size_replicate];simp at hlen;omega
 have jV:Frame.enter P g vals .deferred=b.atR {tmps:=qV,defers:=[]} [.code (.seq (.region id ops false) c)]:=by
  simp[Frame.enter,Frame.atR,hf,nU,b,qV]
 obtain⟨m',hm',bg⟩:∃m',settle m'= .returning/\((recoverD (mX::cs)=none/\m'=m/\val= .nilIface)\/recoverD (mX::cs)=some (val,{mX with mode:=m'}::cs)):=by
  rcases hm with⟨rfl,rfl⟩|rfl
  ·exact⟨.returning,rfl, .inl ⟨by simp[recoverD,Gl],rfl,rfl⟩⟩
  ·exact⟨.panicking [{v:=val,recovered:=true}],rfl, .inr (by simp[recoverD,Gl])⟩
 have Xr:({mX with mode:=m}:Frame)=mX:=by subst Gl;rfl
 let a1:Act:={tmps:=(qV.setIfInBounds t val).setIfInBounds t1 val,defers:=[]}
 have IX:(Code.region id ops false).wpSIn (c8 none) k P (fun e a' cs' w'=>e= .normal/\a'=a1/\cs'={mX with mode:=m'}::cs/\w'=w) {tmps:=qV,defers:=[]} (mX::cs) w:=by
  rcases Fj with⟨o1,o2,rfl,e1,e2,e3,e4,e5,e6⟩|⟨o1,rfl,rfl,e1,e2,e3⟩
  ·refine wpSIn_region ?_
   have hr:List.range (#[o1,o2]:Array Oper).size=[0,1]:=rfl
   have g0:(#[o1,o2]:Array Oper)[0]? =some o1:=rfl
   have g1:(#[o1,o2]:Array Oper)[1]? =some o2:=rfl
   rw[hr]
   have x1:∀ (ρ:Operand->Value) (w:World),(execOp ρ o1).run P w= .ok .recover w:=by
    intro ρ w
    simp[execOp,e1,resolve,invoke,builtin]
   have x2:∀ (ρ:Operand->Value) (w:World),(execOp ρ o2).run P w= .ok (.value (ρ (.tmp t))) w:=by
    intro ρ w
    simp[execOp,e4]
   have last:∀cs',cs'={mX with mode:=m'}::cs->wpOpsSIn (c8 none) k P #[o1,o2] (fun e a' cs' w'=>e= .normal/\a'=a1/\cs'={mX with mode:=m'}::cs/\w'=w) [1] (({tmps:=qV,defers:=[]}:Act).put (some t) val) cs' w:=by
    rintro cs' rfl
    have hw:Region.wanted o2 (yielded #[o1,o2] (({tmps:=qV,defers:=[]}:Act).put (some t) val).tmps)=true:=by simp[Region.wanted,e6]
    have cP:(({tmps:=qV,defers:=[]}:Act).put (some t) val).eval (.tmp t)=val:=by
     have:t<qV.size:=af
     simp[Act.put,Act.eval,Array.getD,this]
    simp only[wpOpsSIn,g1,hw,if_true,x2,cP,e5]
    refine⟨fun _ _=>trivial, ?_⟩
    simp[a1,Act.put]
   have hw:Region.wanted o1 (yielded #[o1,o2] qV)=true:=by simp[Region.wanted,e3]
   rw[wpOpsSIn,g0]
   refine⟨fun _ _=>trivial, ?_⟩
   simp only[hw,if_true,x1,e2]
   rcases bg with⟨hr,rfl,rfl⟩|hr
   ·simp only[hr]
    exact last _ (by rw[Xr])
   ·simp only[hr]
    exact last _ rfl
  ·refine wpSIn_region ?_
   have hr:List.range (#[o1]:Array Oper).size=[0]:=rfl
   have g0:(#[o1]:Array Oper)[0]? =some o1:=rfl
   rw[hr]
   have x1:∀ (ρ:Operand->Value) (w:World),(execOp ρ o1).run P w= .ok .recover w:=by
    intro ρ w
    simp[execOp,e1,resolve,invoke,builtin]
   have same:a1=({tmps:=qV,defers:=[]}:Act).put (some t1) val:=by
    simp only[a1,Act.put]
    congr 1
    apply Array.ext_getElem?
    intro j
    simp only[Array.getElem?_setIfInBounds]
    by_cases hj:t1=j
    ·subst hj;simp
    ·simp[hj]
   have last:∀cs',cs'={mX with mode:=m'}::cs->wpOpsSIn (c8 none) k P #[o1] (fun e a' cs' w'=>e= .normal/\a'=a1/\cs'={mX with mode:=m'}::cs/\w'=w) [] (({tmps:=qV,defers:=[]}:Act).put (some t1) val) cs' w:=by
    rintro cs' rfl
    simp only[wpOpsSIn]
    exact⟨trivial,same.symm,trivial,trivial⟩
   have hw:Region.wanted o1 (yielded #[o1] qV)=true:=by simp[Region.wanted,e3]
   rw[wpOpsSIn,g0]
   refine⟨fun _ _=>trivial, ?_⟩
   simp only[hw,if_true,x1,e2]
   rcases bg with⟨hr,rfl,rfl⟩|hr
   ·simp only[hr]
    exact last _ (by rw[Xr])
   ·simp only[hr]
    exact last _ rfl
 obtain⟨er,ar,csr,wr,hl,⟨rfl,rfl,rfl,YD⟩,cL⟩:=IX b [.code c] rfl rfl trivial (fun d hd=>by simp[c8]at hd)
 rw[YD]at cL
 let s0:S:=⟨aI (aI (cj cz) t u) t1 u,o,nx⟩
 have mR:bJ M φ (hp o nx) w n ⟨[],true⟩ φ s0 a1 w:=by
  refine⟨hH,Trans.refl _ _ _,by simp[a1,Zr],⟨[],rfl,List.nodup_nil,fun _=>rfl,fun r hr=>by cases hr⟩,fun i=> ?_⟩
  have dw:=xB (m:=fn.ntmps - vals.size) hd i
  simp only[s0,a1,aC]
  have Xu:t<qV.size:=af
  have Zs:t1<qV.size:=af
  by_cases h1:i=t1
  ·subst h1
   simp only[if_true]
   have:((qV.setIfInBounds t val).setIfInBounds i val).getD i undef=val:=by simp[Array.getD,Zs]
   rw[this];exact hv
  ·simp only[h1,if_false]
   have e1:((qV.setIfInBounds t val).setIfInBounds t1 val).getD i undef=(qV.setIfInBounds t val).getD i undef:=by
    exact Tg
   rw[e1]
   by_cases h2:i=t
   ·subst h2
    simp only[if_true]
    have:(qV.setIfInBounds i val).getD i undef=val:=by simp[Array.getD,Xu]
    rw[this];exact hv
   ·simp only[h2,if_false]
    have e1:(qV.setIfInBounds t val).getD i undef=qV.getD i undef:=by
     simp only[Array.getD_eq_getD_getElem?]
     rw[Array.getElem?_setIfInBounds_ne (Ne.symm h2)]
    rw[e1];exact dw
 have hcw:=fG (P:=P) (n:=n) (b:=nx) (rd:=true) aY c _ _ s0 (fun _ _ h=>h) (by rw[px];exact h)
 obtain⟨e,a',w',⟨x,s',aA,hq,iI,hx⟩,Ce⟩:=fA (P:=P) (H0:=hp o nx) (b:=nx) (cx:=⟨[],true⟩) (ro:=none) (fun id hu=>hu) (fun h=>by cases h) c _ s0 φ a1 w hcw mR b [] ({mX with mode:=m'}::cs) rfl bR
 have i0:(lone (b.atR {tmps:=qV,defers:=[]} [.code (.seq (.region id ops false) c)]) (mX::cs) w).fenced P (c8 none):=fenced_calm (n:=0) trivial eZ rfl
 have LK:StepsIn (Machine.fenced P (c8 none)) P (lone (b.atR {tmps:=qV,defers:=[]} [.code (.seq (.region id ops false) c)]) (mX::cs) w) (lone (b.atR a1 [.code c]) ({mX with mode:=m'}::cs) w):= .head i0 stepR_seq cL
 have sc:a'.defers=[]:=by
  obtain⟨ms,g1,_,g3,_⟩:=iI.defers
  rw[g3 rfl]at g1;exact g1
 have Us:∀tm:Array Value,∃v,(results fn tm).run P w'= .ok v w':=by
  intro tm
  refine⟨_,kT (vals:=[]) ?_⟩
  rw[ye];rfl
 rw[jV]
 obtain⟨v,nm⟩:=Us a'.tmps
 cases e<;>cases x<;>first|(exact hx.elim)|(exact hq.elim)|skip
 ·exact⟨.returned v,m',w',_,⟨v,aA,s'.o,s'.nx,rfl,hm',iI.heap,iI.tr,hq⟩,StepsIn.trans LK (StepsIn.trans Ce (.one (fenced_calm (n:=0) (fr:=b.atR a' []) trivial eZ rfl) (stepR_end rfl))),rfl,rfl,rfl,sc,fn,hf,nm⟩
 ·obtain⟨todo,hs⟩:=Ce.1 rfl
  exact⟨.returned v,m',w',_,⟨v,aA,s'.o,s'.nx,rfl,hm',iI.heap,iI.tr,hq⟩,StepsIn.trans LK hs,rfl,rfl,rfl,sc,fn,hf,nm⟩
theorem yO{d c:Code}{ro:Option Nat}{Q:Exit->Act->World->Prop}{a:Act}{w:World}(h:d=c\/d= .scope c)(hg:∀l a w, ¬Q (.goto l) a w)(hc:c.qC P ro Q a w):d.qC P ro Q a w:=by
 rcases h with rfl|rfl
 ·exact hc
 ·exact uB hc hg
theorem dA.Gm (aY:P.follows .mixedOrders=true){f g:FuncId}{jg eS yP:IC}{t m r r1:Nat}{gL:List Operand}{rs:List ResultVar}(hf:Gj P f n jg eS g t gL rs)(hg:Cu P g m r r1 yP)
 {args:List V} {o:Nat->ab} {nx:Nat} {K X:V->(Nat->ab)->Nat->Prop} (hl:args.length<=n)
 (h:qS P n nx true jg (Gk P n t eS gL g fun cz=>A0 P m r r1 yP cz rs K X) ⟨cj args,o,nx⟩):dA P f args o nx K X:=by
 obtain⟨fn,id,o1,o2,ca,cb,cd,EF,LJ,XH,ye,nU,hsc,e1,e2,e3,e4,e5,e6,ht,hla,QE⟩:=hf.get
 obtain⟨gn,_,_,gc,Gn,Ou,_,_,Ov,_⟩:=hg.get
 refine⟨⟨fn,EF,LJ,by rw[nU];rfl⟩,fun M φ w vals hH hd=> ?_⟩
 have hlen:=V.ax _ _ hd
 let s0:S:=⟨cj args,o,nx⟩
 let a0:Act:={tmps:=vals++Array.replicate (fn.ntmps - vals.size) undef,defers:=[]}
 have mR:bJ M φ (hp o nx) w n ⟨[],true⟩ φ s0 a0 w:=by
  exact S1
 have ha:=fG (P:=P) (n:=n) (b:=nx) (rd:=true) aY ca _ _ s0 (fun _ _ h=>h) (by rw[hla];exact h)
 refine x7 (ro:=none) (k:=0) (kU EF nU (vS (e7 (fA (P:=P) (H0:=hp o nx) (b:=nx) (cx:=⟨[],true⟩) (ro:=none) (fun id hu=>hu) (fun h=>by cases h) ca _ s0 φ a0 w ha mR) ?_)))
 rintro e a1 w1 ⟨x,s1,gy,hq,rK,hm⟩
 cases e<;>cases x<;>first|(exact hm.elim)|(exact hq.elim)|skip
 have sc:a1.defers=[]:=by
  obtain⟨ms,g1,_,g3,_⟩:=rK.defers
  rw[g3 rfl]at g1;exact g1
 let cv:Array Value:=(gL.map a1.eval).toArray
 let fv:Value:= .func (.func g) #[] cv
 let dd:Deferred:={target:= .fn (.func g) cv,args:=#[]}
 let a2:Act:={tmps:=a1.tmps.setIfInBounds t fv,defers:=[dd]}
 have LL:V.az (ai M gy s1.H) gy s1.H w1 (gL.map s1.ev) cv.toList:=by
  simpa[cv]using iO (M:=M) (φ:=gy) (H:=s1.H) (w:=w1) s1 a1 rK.env gL
 refine yO hsc (fun l a w h=> ?_) ?_
 ·exact h.elim
 refine vS (e7 (Q:=fun e a w=>e= .normal/\a=a2/\w=w1) (mQ (k:=0) (wpIn_region_list ?_)) ?_)
 ·have y1:Region.wanted o1 (yielded #[o1,o2] a1.tmps)=true:=by simp[Region.wanted,e3]
  have y2:∀tm,Region.wanted o2 (yielded #[o1,o2] tm)=true:=by intro tm;simp[Region.wanted,e6]
  have cP:(a1.put (some t) fv).eval (.tmp t)=fv:=by
   have:t<a1.tmps.size:=by rw[rK.size];exact ht
   simp[Act.put,Act.eval,Array.getD,this]
  show wpListIn (c8 none) 0 P #[o1,o2] _ [o1,o2] a1 w1
  unfold wpListIn
  rw[if_pos y1]
  have x1:(execOp a1.eval o1).run P w1= .ok (.value fv) w1:=by simp[execOp,e1,fv,cv,Instr.makeFunc]
  refine iS (fun c hc=>by rw[e1]at hc;cases hc) ?_
  rw[x1]
  show wpListIn (c8 none) 0 P #[o1,o2] _ [o2] (a1.put o1.dst fv) w1
  rw[e2]
  unfold wpListIn
  rw[if_pos (y2 _)]
  have x2:(execOp (a1.put (some t) fv).eval o2).run P w1= .ok (.defer dd) w1:=by
   simp[execOp,e4,resolve,cP,Deferred.ofValue,fv,dd]
  refine⟨fun _ _=>trivial, ?_⟩
  have:(o2.semAt (c8 none).round (a1.put (some t) fv).eval)=execOp (a1.put (some t) fv).eval o2:=rfl
  rw[this,x2]
  unfold Oper.uponIn
  simp only[e5,wpListIn,Act.put,sc,a2,and_self]
 rintro e a w2 ⟨rfl,rfl,rfl⟩
 have z8:t<a1.tmps.size:=by rw[rK.size];exact ht
 let s2:S:=⟨aI s1.env t (.func (.func g) [] (gL.map s1.ev)),s1.o,s1.nx⟩
 have ER:bJ M gy s1.H w2 n ⟨[dd],false⟩ gy s2 a2 w2:=by
  refine⟨rK.heap,Trans.refl _ _ _,by simp[a2,rK.size],⟨[],rfl,List.nodup_nil,fun _=>rfl,fun r hr=>by cases hr⟩,fun i=> ?_⟩
  simp only[s2,a2,aC]
  by_cases h1:i=t
  ·subst h1
   have:(a1.tmps.setIfInBounds i fv).getD i undef=fv:=by simp[Array.getD,z8]
   simp only[if_true];rw[this]
   exact⟨#[],cv,rfl,rfl,LL⟩
  ·have:(a1.tmps.setIfInBounds t fv).getD i undef=a1.tmps.getD i undef:=by
    exact Tg
   simp only[h1,if_false];rw[this]
   exact rK.env i
 have hb:=fG (P:=P) (n:=n) (b:=s1.nx) (rd:=false) aY cb _ _ s2 (fun _ _ h=>h) (by rw[QE];exact hq)
 refine e7 (fA (P:=P) (H0:=s1.H) (b:=s1.nx) (cx:=⟨[dd],false⟩) (ro:=none) (fun id hu=>hu) (fun _=>rfl) cb _ s2 gy a2 w2 hb ER) ?_
 rintro e a3 w3 ⟨x,s3,Ut,XI,Cf,xj⟩
 obtain⟨ms,g1,g2,_,g4⟩:=Cf.defers
 have hinv:(invoke dd.target dd.args).run P=fun w=> .ok (.enter g cv) w:=by
  funext w
  have:=jF (w:=w) ⟨gn,Gn,Ou,by rw[Ov];rfl⟩ cv
  simpa[dd,invoke]using this
 have last:∀ {w4:World} {tm:Array Value} {u:V} {val:Value} {m0:FrameMode},m0≠ .run->vU M gy s1.H w2 Ut s3 a3.tmps w4->V.den (ai M Ut s3.H) Ut s3.H w4 u val->
  ((m0= .returning/\val= .nilIface)\/m0= .panicking [{v:=val,recovered:=false}])->
  (D4 P m r r1 yP (gL.map s1.ev) u s3.o s3.nx fun o nx=>jW P rs K X .ret ⟨s3.env,o,nx⟩)->
  LeavesInM (c8 none) 0 P fn a3.tmps (kP M φ (hp o nx) w K X) [dd] m0 w4:=by
  intro w4 tm u val m0 dW hB Fx hm0 bg
  have Ow:=V.aO hB.tr _ _ LL
  refine⟨dW, .inr ⟨fun h=>by simp[c8]at h, .func g,cv,g,cv,rfl,by rw[hinv],fun _ _=>trivial,CallsDIn.mono (D5 (k:=0 - 1) aY hg bg (m:=m0) hB.heap Ow Fx hm0) ?_⟩⟩
  rintro e u' w5 ⟨v,Zt,o5,XJ,rfl,Zu,k1,k2,k3⟩
  show LeavesInM (c8 none) 0 P fn a3.tmps (kP M φ (hp o nx) w K X) [] (settle u') w5
  rw[Zu]
  obtain⟨vs,h1,h2⟩:=yg k3
  rw[<- ye]at h1
  have Uu:∀i,V.den (ai M Zt (hp o5 XJ)) Zt (hp o5 XJ) w5 (s3.env i) (a3.tmps.getD i undef):=fun i=>V.aL k2 _ _ (hB.env i)
  obtain⟨aaN,h3,h4⟩:=qR (P:=P) (s:=⟨s3.env,o5,XJ⟩) (a:=a3) k1 Uu _ _ h1
  exact⟨_,kT h3,Zt,o5,XJ,_,k1,rK.tr.trans (hB.tr.trans k2),yh h4,h2⟩
 have done:D4 P m r r1 yP (gL.map s1.ev) (.d .fi) s3.o s3.nx (fun o nx=>jW P rs K X .ret ⟨s3.env,o,nx⟩)->LeavesInM (c8 none) 0 P fn a3.tmps (kP M φ (hp o nx) w K X) a3.defers .returning w3:=by
  intro bg
  rw[g1]
  exact e8 (P:=P) (k:=0) (fn:=fn) (R:=kP M φ (hp o nx) w K X) (u:= .returning) aK (ds:=[dd]) (fun w4 hB=>last (tm:=a3.tmps) aK hB (u:= .d .fi) (val:= .nilIface) (by simp[V.den,D.den]) (.inl ⟨rfl,rfl⟩) bg) ms w3 g2 g4 Cf.toB
 cases e<;>cases x<;>first|(exact xj.elim)|skip
 ·exact done XI
 ·exact XI.elim
 ·exact done XI
 ·rename_i v
  obtain⟨val,rfl,IP⟩:=xj
  show LeavesInM (c8 none) 0 P fn a3.tmps (kP M φ (hp o nx) w K X) a3.defers _ w3
  rw[g1]
  let Uv:Nat->V:=fun i=>match i with|0=>v|i+1=>s3.env i
  have Uw:(#[val]++a3.tmps).getD 0 undef=val:=by simp[Array.getD]
  have Ux:∀i,(#[val]++a3.tmps).getD (i+1) undef=a3.tmps.getD i undef:=by
   intro i
   simp only[Array.getD_eq_getD_getElem?]
   rw[Array.getElem?_append_right (by simp)]
   simp
  have TH:vU M gy s1.H w2 Ut ⟨Uv,s3.o,s3.nx⟩ (#[val]++a3.tmps) w3:=⟨Cf.heap,Cf.tr,fun i=>by
   cases i with
   |zero=>rw[Uw];exact IP
   |succ i=>rw[Ux];exact Cf.env i⟩
  have Uy:∀w4,vU M gy s1.H w2 Ut ⟨Uv,s3.o,s3.nx⟩ (#[val]++a3.tmps) w4->LeavesInM (c8 none) 0 P fn a3.tmps (kP M φ (hp o nx) w K X) [dd] (.panicking [{v:=val,recovered:=false}]) w4:=by
   intro w4 hB
   have hv4:=hB.env 0
   rw[Uw]at hv4
   refine last (tm:=a3.tmps) aK ⟨hB.heap,hB.tr,fun i=> ?_⟩ hv4 (.inr rfl) XI
   have hs:=hB.env (i+1)
   rw[Ux]at hs
   exact hs
  exact e8 (P:=P) (k:=0) (fn:=fn) (R:=kP M φ (hp o nx) w K X) (u:= .panicking [{v:=val,recovered:=false}]) aK (ds:=[dd]) Uy ms w3 g2 g4 TH
end
end
theorem xm.Gp {P:Program}{g:FuncId}{ds:List D}{o:Nat->ab}{fr:Nat}{ty:TypeId}{sz:Nat}{es:List D}
 (h:dA P g (ds.map .d) (fun _=> .no) 0 (fun v o1 _=>(∃j ep,v= .osl j ep/\o1 j= .arr ep ty sz es)\/(v= .aE/\es=[]/\0<sz)) (fun _ _ _=>False)):
 xm P g (ds.map .d) [] o fr (.osl fr 0) [(fr, .arr 0 ty sz es)]:=by
 refine⟨h.1,fun o' us M φ w vals _ cI hH hd=> ?_⟩
 let b7:Place:=fun _=> .nilFunc
 have vV:∀b, ¬cn b7 (hp (fun _=> .no) 0) b:=by rintro b ⟨id,hl,_⟩;simp[hp,ab.live]at hl
 have hM:∀b,ai M φ ⟨o',us⟩ b->b<w.heap.size:=fun b hb=>hb.elim (hH.xg b) fun hl=>(hH.ours b hl).2
 have uj:=(V.bW _ _).1 hd
 refine(h.2 (ai M φ ⟨o',us⟩) b7 w vals (lQ b7 hM) ((V.bW _ _).2 (D.aO (w:=w) (w':=w) (B:=ai M φ ⟨o',us⟩) (fun b _ hB=>⟨rfl,fun h=>h.elim hB (vV b)⟩) _ _ uj))).mono ?_
 rintro e w' ⟨gy,o1,n1,v,k1,k2,k3⟩
 have hk:dD (fun _=>False) w w':=⟨k2.keep.os,k2.keep.tape,k2.keep.output,k2.keep.size,fun k hk _=>k2.keep.block k hk (vV k)⟩
 have vr:(⟨o',us⟩:Hp).put [(fr, .arr 0 ty sz es)]=⟨put o' [(fr, .arr 0 ty sz es)],fun id=>us id\/id=fr⟩:=by
  simp only[Hp.put]
  congr 1
  funext id
  simp
 have fin:∀ (val:Value) (xs:List Value),(∀b,dR val=some b->w.heap.size<=b/\b<w'.heap.size)->0<sz->w'.ownsRow 0 ty sz val es.length xs->
  (dL (ai M (aI φ fr val) ((⟨o',us⟩:Hp).put [(fr, .arr 0 ty sz es)])) w' sz es xs)->
  val.oneCell'=true->
  ∃aA,aq M aA ⟨put o' [(fr, .arr 0 ty sz es)],fun id=>us id\/id=fr⟩ w'/\Trans φ ⟨o',us⟩ w aA ⟨put o' [(fr, .arr 0 ty sz es)],fun id=>us id\/id=fr⟩ w'/\
   ∃Gq,Ending.returned val= .returned Gq/\V.den (ai M aA ⟨put o' [(fr, .arr 0 ty sz es)],fun id=>us id\/id=fr⟩) aA ⟨put o' [(fr, .arr 0 ty sz es)],fun id=>us id\/id=fr⟩ w' (.osl fr 0) Gq:=by
  intro val xs ij du dn cy Zv
  have nT:=fW hH hk cI (.arr 0 ty sz es) val ij (by
   unfold aJ
   rw[show((⟨o',us⟩:Hp).put [(fr, .arr 0 ty sz es)]).o fr= .arr 0 ty sz es by simp]
   refine⟨du,xs, ?_,cy⟩
   rw[show aI φ fr val fr=val by simp]
   exact dn)
  have Uz:=cZ (φ:=φ) (H:=⟨o',us⟩) hk cI (.arr 0 ty sz es) val (fun b hb=>(ij b hb).1)
  rw[vr]at nT Uz
  refine⟨aI φ fr val,nT,Uz,val,rfl,Zv, .inr rfl,fun e he=> ?_⟩
  have ni:0=e:=by
   have:(put o' [(fr,ab.arr 0 ty sz es)] fr).bQ=some 0:=by simp[put,ab.bQ]
   exact SP
  exact⟨af,fun _=>aK⟩
 cases e with
 |outgrown=>exact k3.elim
 |panicked ch=>obtain⟨_,_,_,h⟩:=k3;exact h.elim
 |returned val=>
  obtain⟨g1,⟨j,ep,rfl,hj⟩|⟨rfl,rfl,du⟩⟩:=k3
  ·obtain⟨v0,v1,v2⟩:=g1
   have eP:val=gy j:=(v2 ep (by show(o1 j).bQ=some ep;rw[hj];rfl)).2 rfl
   have cC:∀b,dR val=some b->cn gy (hp o1 n1) b:=fun b hb=>⟨j,by show(o1 j).live=true;rw[hj];rfl,by rw[<- eP];exact hb⟩
   have ij:∀b,dR val=some b->w.heap.size<=b/\b<w'.heap.size:=fun b hb=>⟨(k2.grow b (cC b hb)).resolve_left (vV b),(k1.ours b (cC b hb)).2⟩
   have Ox:=k1.ok j
   unfold aJ at Ox
   rw[show(hp o1 n1).o j= .arr ep ty sz es from hj]at Ox
   obtain⟨du,xs,dn,cy⟩:=Ox
   have hBs:∀b,ai M (aI φ fr val) ((⟨o',us⟩:Hp).put [(fr, .arr 0 ty sz es)]) b->ai (ai M φ ⟨o',us⟩) gy (hp o1 n1) b:=by
    rintro b (hb|⟨id,hl,hb⟩)
    ·exact .inl (.inl hb)
    ·by_cases e:id=fr
     ·subst e
      simp at hb
      exact .inr (cC b hb)
     ·simp[e]at hl hb
      exact .inl (.inr ⟨id,hl,hb⟩)
   exact fin val xs ij du (by rw[eP];exact dn) (cy.mono (w:=w') (w':=w') (fun b _ hB=>⟨rfl,fun h=>hB (hBs b h)⟩)) v0
  ·have g1:val= .slice none 0 0:=g1
   subst g1
   exact Sa
theorem xm.Jc {P:Program}{g:FuncId}{args:List V}{ds:List D}{o:Nat->ab}{fr:Nat}{ty:TypeId}{sz:Nat}{es:List D}
 (dT:bI o args=some ds) (nj:D.iq es=true) (h:dA P g (ds.map .d) (fun _=> .no) 0 (fun v o1 _=>(∃j ep,v= .osl j ep/\o1 j= .arr ep ty sz es)\/(v= .aE/\es=[]/\0<sz)) (fun _ _ _=>False)):
 xm P g args (V.aZ args) o fr (.osl fr 0) [(fr, .arr 0 ty sz es)]:=by
 refine⟨h.1,fun o' us M φ w vals hag cI hH hd=> ?_⟩
 obtain⟨f1,f2,f3,f4,f5⟩:=cG hH (V.aZ args) (fun id au=>(hag id au).2)
 generalize hHF:(⟨o',us⟩:Hp).put (bP (⟨o',us⟩:Hp).o (V.aZ args))=HF at f1 f2 f3
 let b7:Place:=fun _=> .nilFunc
 have vV:∀b, ¬cn b7 (hp (fun _=> .no) 0) b:=by rintro b ⟨id,hl,_⟩;simp[hp,ab.live]at hl
 have hM:∀b,ai M φ HF b->b<w.heap.size:=fun b hb=>hb.elim (f1.xg b) fun hl=>(f1.ours b hl).2
 have uj:D.az (ai M φ HF) w ds vals.toList:=cQ f1 args ds _ (fun id au=>by rw[f3 id au];show(o' id).fz=(o id).fz;rw[(hag id au).1]) dT (V.aO f2 _ _ hd)
 refine(h.2 (ai M φ HF) b7 w vals (lQ b7 hM) ((V.bW _ _).2 (D.aO (w:=w) (w':=w) (B:=ai M φ HF) (fun b _ hB=>⟨rfl,fun h=>h.elim hB (vV b)⟩) _ _ uj))).mono ?_
 rintro e w' ⟨gy,o1,n1,v,k1,k2,k3⟩
 have hk:dD (fun _=>False) w w':=⟨k2.keep.os,k2.keep.tape,k2.keep.output,k2.keep.size,fun k hk _=>k2.keep.block k hk (vV k)⟩
 have vr:(⟨o',us⟩:Hp).put [(fr, .arr 0 ty sz es)]=⟨put o' [(fr, .arr 0 ty sz es)],fun id=>us id\/id=fr⟩:=by
  simp only[Hp.put]
  congr 1
  funext id
  simp
 have fin:∀ (val:Value) (xs:List Value),(∀b,dR val=some b->w.heap.size<=b/\b<w'.heap.size)->0<sz->w'.ownsRow 0 ty sz val es.length xs->
  (dL (ai M (aI φ fr val) ((⟨o',us⟩:Hp).put [(fr, .arr 0 ty sz es)])) w' sz es xs)->
  val.oneCell'=true->
  ∃aA,aq M aA ⟨put o' [(fr, .arr 0 ty sz es)],fun id=>us id\/id=fr⟩ w'/\Trans φ ⟨o',us⟩ w aA ⟨put o' [(fr, .arr 0 ty sz es)],fun id=>us id\/id=fr⟩ w'/\
   ∃Gq,Ending.returned val= .returned Gq/\V.den (ai M aA ⟨put o' [(fr, .arr 0 ty sz es)],fun id=>us id\/id=fr⟩) aA ⟨put o' [(fr, .arr 0 ty sz es)],fun id=>us id\/id=fr⟩ w' (.osl fr 0) Gq:=by
  intro val xs ij du dn cy Zv
  have nT:=fW hH hk cI (.arr 0 ty sz es) val ij (by
   unfold aJ
   rw[show((⟨o',us⟩:Hp).put [(fr, .arr 0 ty sz es)]).o fr= .arr 0 ty sz es by simp]
   refine⟨du,xs, ?_,cy⟩
   rw[show aI φ fr val fr=val by simp]
   exact dn)
  have Uz:=cZ (φ:=φ) (H:=⟨o',us⟩) hk cI (.arr 0 ty sz es) val (fun b hb=>(ij b hb).1)
  rw[vr]at nT Uz
  refine⟨aI φ fr val,nT,Uz,val,rfl,Zv, .inr rfl,fun e he=> ?_⟩
  have ni:0=e:=by
   have:(put o' [(fr,ab.arr 0 ty sz es)] fr).bQ=some 0:=by simp[put,ab.bQ]
   exact SP
  exact⟨af,fun _=>aK⟩
 cases e with
 |outgrown=>exact k3.elim
 |panicked ch=>obtain⟨_,_,_,h⟩:=k3;exact h.elim
 |returned val=>
  obtain⟨g1,⟨j,ep,rfl,hj⟩|⟨rfl,rfl,du⟩⟩:=k3
  ·obtain⟨v0,v1,v2⟩:=g1
   have eP:val=gy j:=(v2 ep (by show(o1 j).bQ=some ep;rw[hj];rfl)).2 rfl
   have cC:∀b,dR val=some b->cn gy (hp o1 n1) b:=fun b hb=>⟨j,by show(o1 j).live=true;rw[hj];rfl,by rw[<- eP];exact hb⟩
   have ij:∀b,dR val=some b->w.heap.size<=b/\b<w'.heap.size:=fun b hb=>⟨(k2.grow b (cC b hb)).resolve_left (vV b),(k1.ours b (cC b hb)).2⟩
   have Ox:=k1.ok j
   unfold aJ at Ox
   rw[show(hp o1 n1).o j= .arr ep ty sz es from hj]at Ox
   obtain⟨du,xs,dn,cy⟩:=Ox
   obtain⟨evs,e1,e2,e3⟩:=cy
   exact fin val xs ij du (by rw[eP];exact dn) ⟨evs,e1,e2,D.jS _ _ nj e3⟩ v0
  ·have g1:val= .slice none 0 0:=g1
   subst g1
   exact Sa
theorem xm.Jd {P:Program}{g:FuncId}{args:List V}{ds:List D}{o0 o:Nat->ab}{rd:List Nat}{fr:Nat}{v:V}{Δ:List (Nat×ab)}(au:V.aZ args=[])(dT:bI o0 args=some ds)
 (h:xm P g (ds.map .d) rd o fr v Δ):xm P g args rd o fr v Δ:=
 ⟨h.1,fun o' us M φ w vals h1 h2 hH hd=>h.2 o' us M φ w vals h1 h2 hH ((V.bW _ _).2 (cQ hH args ds _ (by rw[au];intro id h;cases h) dT hd))⟩
def Cv(P:Program)(f:FuncId):Prop:=
 Enters P f/\∀ (w:World) (b:Nat) (es:Array MapEntry) (clock:Nat),w.heap[b]? =some (.map es clock)->
  Calls P f #[.map (some b)] w fun e w'=>e= .returned (.map (some w.heap.size))/\w'=w.alloc (.map es clock)
theorem dA.Oy {P:Program}{f:FuncId}(h:Cv P f){o:Nat->ab}{nx id:Nat}{kt vt:TypeId}{l:List (D×D)}(ho:o id= .map kt vt l){K X:V->(Nat->ab)->Nat->Prop}
 (hK:K (.mp nx) (aI o nx (.map kt vt l)) (nx+1)):dA P f [.mp id] o nx K X:=by
 refine⟨h.1,fun M φ w vals hH hd=> ?_⟩
 have hlen:=V.ax _ _ hd
 obtain⟨v,rfl⟩:∃v,vals=#[v]:=by
  match vals,hlen with
  |⟨[v]⟩,_=>exact⟨v,rfl⟩
 obtain⟨v',nm,Fx⟩:=V.cN _ _ 0 (.mp id) hd rfl
 simp only[List.getElem?_cons_zero,Option.some.injEq]at nm
 subst nm
 have aQ:=hH.ok id
 have tT:(hp o nx).o id= .map kt vt l:=ho
 simp only[aJ,tT]at aQ
 obtain⟨b,es,clock,e1,e2,e3,e4⟩:=aQ
 have hv:v=φ id:=Fx.2.2 (by rw[tT];rfl)
 rw[hv,e1]
 refine(h.2 w b es clock e2).mono fun e w' ⟨he,hw⟩=> ?_
 subst he;subst hw
 have cI: ¬ (hp o nx).us nx:=fun h=>Nat.lt_irrefl _ h
 have vr:(hp o nx).put [(nx, .map kt vt l)]=hp (aI o nx (.map kt vt l)) (nx+1):=by
  simp only[Hp.put,hp]
  congr 1
  funext j
  simp only[List.map_cons,List.map_nil,List.mem_singleton,eq_iff_iff]
  omega
 have Xm:∀c,dR (.map (some w.heap.size))=some c->w.heap.size<=c/\c<(w.alloc (.map es clock)).heap.size:=by
  intro c hc;simp[dR]at hc;subst hc;simp
 have ht:=cZ (φ:=φ) (H:=hp o nx) (bL w (.map es clock)) cI (.map kt vt l) (.map (some w.heap.size)) fun c hc=>(Xm c hc).1
 refine⟨aI φ nx (.map (some w.heap.size)),aI o nx (.map kt vt l),nx+1, .mp nx, ?_, ?_, ?_,hK⟩
 ·exact SY
 ·rw[<- vr];exact ht
 ·rw[<- vr];exact⟨rfl,aK,fun _=>aK⟩
theorem dA.Je {P:Program}{f:FuncId}(h:Cv P f){o:Nat->ab}{nx id:Nat}{kt vt:TypeId}{l:List (D×D)}(ho:o id= .cM l){K X:V->(Nat->ab)->Nat->Prop}
 (hK:K (.mp nx) (aI o nx (.map kt vt l)) (nx+1)):dA P f [.mp id] o nx K X:=by
 refine⟨h.1,fun M φ w vals hH hd=> ?_⟩
 have hlen:=V.ax _ _ hd
 obtain⟨v,rfl⟩:∃v,vals=#[v]:=by
  match vals,hlen with
  |⟨[v]⟩,_=>exact⟨v,rfl⟩
 obtain⟨v',nm,Fx⟩:=V.cN _ _ 0 (.mp id) hd rfl
 simp only[List.getElem?_cons_zero,Option.some.injEq]at nm
 subst nm
 have aQ:=hH.ok id
 have tT:(hp o nx).o id= .cM l:=ho
 simp only[aJ,tT]at aQ
 obtain⟨b,es,clock,e1,e2,_,e3,e4⟩:=aQ
 have hv:v=φ id:=Fx.2.2 (by rw[tT];rfl)
 rw[hv,e1]
 refine(h.2 w b es clock e2).mono fun e w' ⟨he,hw⟩=> ?_
 subst he;subst hw
 have cI: ¬ (hp o nx).us nx:=fun h=>Nat.lt_irrefl _ h
 have vr:(hp o nx).put [(nx, .map kt vt l)]=hp (aI o nx (.map kt vt l)) (nx+1):=by
  simp only[Hp.put,hp]
  congr 1
  funext j
  simp only[List.map_cons,List.map_nil,List.mem_singleton,eq_iff_iff]
  omega
 have Xm:∀c,dR (.map (some w.heap.size))=some c->w.heap.size<=c/\c<(w.alloc (.map es clock)).heap.size:=by
  intro c hc;simp[dR]at hc;subst hc;simp
 have ht:=cZ (φ:=φ) (H:=hp o nx) (bL w (.map es clock)) cI (.map kt vt l) (.map (some w.heap.size)) fun c hc=>(Xm c hc).1
 refine⟨aI φ nx (.map (some w.heap.size)),aI o nx (.map kt vt l),nx+1, .mp nx, ?_, ?_, ?_,hK⟩
 ·exact SY
 ·rw[<- vr];exact ht
 ·rw[<- vr];exact⟨rfl,aK,fun _=>aK⟩
end Go.Proofs.YtlhemmpklhhgoaaGreat
