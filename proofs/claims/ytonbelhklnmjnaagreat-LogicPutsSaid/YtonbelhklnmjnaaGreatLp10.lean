/-
  A PART OF THE PROOF. Conditions: none.
-/
import Derived.Test.YtonbelhklnmjnaaGreatLp9
set_option linter.unusedSimpArgs false
set_option linter.unusedVariables false
namespace Go.Proofs.YtonbelhklnmjnaaGreat
structure Good (o:Nat->ab) (nx:Nat):Prop where
 fresh:∀id,nx<=id->o id= .no
 refs:∀id,∀r∈(o id).refs,r<nx
theorem Good.nil {nx:Nat}:Good (fun _=> .no) nx:=⟨fun _ _=>rfl,fun id r h=>by cases h⟩
theorem Good.aK {o:Nat->ab}{nx i:Nat}{x:ab}(h:Good o nx)(hi:i<nx)(hx:x.refs.all (fun r=>decide (r<nx))=true):Good (aK o i x) nx:=by
 refine⟨fun id aC=> ?_,fun id r hr=> ?_⟩
 ·rw[ak _ _ _ _ (by omega)];exact h.fresh id aC
 ·by_cases e:id=i
  ·subst e
   rw[ad]at hr
   simpa using List.all_eq_true.1 hx r hr
  ·rw[ak _ _ _ _ e]at hr
   exact h.refs id r hr
theorem Good.mono {o:Nat->ab}{nx m:Nat}(h:Good o nx)(hm:nx<=m):Good o m:=⟨fun id aC=>h.fresh id ah,fun id r hr=>Nat.lt_of_lt_of_le (h.refs id r hr) hm⟩
theorem Good.lt {o:Nat->ab}{nx id:Nat}(h:Good o nx)(hn:o id≠ .no):id<nx:=by
 rcases Nat.lt_or_ge id nx with hl|hl
 ·exact hl
 ·exact absurd (h.fresh id hl) hn
theorem V.xI:∀ (l:List V) (i:Nat),∀r∈(bp l i).refs,r∈V.aL l
 |[],i,r,h=>by rw[qM]at h;cases h
 |v::l,0,r,h=>by rw[oB]at h;simp only[V.aL,List.mem_append];exact .inl h
 |v::l,i+1,r,h=>by rw[oC]at h;simp only[V.aL,List.mem_append];exact .inr (V.xI l i r h)
theorem bJ.back {b:Nat}{s:S}{env:Nat->V}{o:Nat->ab}{nx:Nat}(hb:b<=nx)(hn:nx<=s.nx)(hg:Good o nx)(ho:∀id,id<nx->s.o id=o id)
 (he:∀i,env i= .aa\/(env i=s.env i/\∀r∈(env i).refs,r<nx)):bJ b s ⟨env,o,nx⟩:=by
 intro M φ w tm hH hd
 have c0:∀k,df φ (hp o nx) k->df φ s.H k:=by
  rintro k ⟨id,h1,h2⟩
  have aC:id<nx:=hg.lt (fun e=>by simp only[hp]at h1;rw[e]at h1;cases h1)
  exact⟨id,by simp only[S.H];rw[ho id aC];exact h1,h2⟩
 have hB:∀k, ¬ay M φ s.H k-> ¬ay M φ (hp o nx) k:=fun k h h'=>h (h'.imp id (c0 k))
 have gu:∀ (v:V) (val:Value),(∀r∈v.refs,r<nx)->V.den (ay M φ s.H) φ s.H w v val->V.den (ay M φ (hp o nx)) φ (hp o nx) w v val:=fun v val hr h=>
  V.nD (H:=s.H) (H':=hp o nx) hB v val (fun id aC=>⟨(ho id (hr id aC)).symm,rfl,hr id aC⟩) h
 have qe:∀ (v:List V) (val:List Value),(∀r∈V.aL v,r<nx)->V.aM (ay M φ s.H) φ s.H w v val->V.aM (ay M φ (hp o nx)) φ (hp o nx) w v val:=fun v val hr h=>
  V.hY (H:=s.H) (H':=hp o nx) hB v val (fun id aC=>⟨(ho id (hr id aC)).symm,rfl,hr id aC⟩) h
 refine⟨φ,⟨fun id=> ?_,fun id hu=>hg.fresh id (by simpa[S.H]using hu),fun i j k h1 h2 h3 h4=> ?_,fun k hk=>hH.ours k (c0 k hk),hH.Br⟩,fun i=> ?_,c0,hb,fun id aC hr=> ?_,fun id e' aC pZ=> ?_⟩
 ·have bw:=hH.ok id
  have hrefs:=hg.refs id
  unfold aX at bw|-
  by_cases aC:id<nx
  ·have e:s.H.o id=o id:=ho id aC
   rw[e]at bw
   simp only[S.H]at bw|-
   cases hx:o id with
   |no=>trivial
   |row cs=>
    simp only[hx]at bw hrefs|-
    exact Ss
   |arr ep ty sz es=>
    simp only[hx]at bw|-
    obtain⟨k1,xs,k2,evs,k3,k4,k5⟩:=bw
    exact abt
   |qg ep es=>
    simp only[hx]at bw|-
    exact O3
   |map kt vt es=>
    simp only[hx]at bw|-
    obtain⟨b,es',clock,k1,k2,k4,k3⟩:=bw
    exact abp
   |iV l=>
    simp only[hx]at bw|-
    exact O3
   |nh l last=>
    simp only[hx]at bw|-
    obtain⟨b,k1,k2⟩:=bw
    exact RL
   |zS s pos=>
    simp only[hx]at bw|-
    exact bw
   |loop nf n env ps a b st pd=>
    simp only[hx]at bw hrefs|-
    exact SQ
  ·simp only[S.H]
   rw[hg.fresh id (by omega)]
   trivial
 ·have hi:i<nx:=hg.lt (fun e=>by simp only[S.H]at h1;rw[e]at h1;cases h1)
  have hj:j<nx:=hg.lt (fun e=>by simp only[S.H]at h2;rw[e]at h2;cases h2)
  exact hH.apart i j k (by simp only[S.H];rw[ho i hi];exact h1) (by simp only[S.H];rw[ho j hj];exact h2) h3 h4
 ·rcases he i with h|⟨h1,h2⟩
  ·simp only[h];trivial
  ·have:=hd i
   rw[<- h1]at this
   exact gu _ _ h2 this
 ·have cM:id<nx:=ah
  exact⟨by rw[ho id cM];exact hr,rfl⟩
 ·have cM:id<nx:=ah
  exact⟨e',by rw[ho id cM];exact pZ,Nat.le_refl _,fun _=>rfl⟩
def kA(nx:Nat)(env:Nat->V):List V->Nat->Prop
 |[],_=>True
 |v::l,i=>(v= .aa\/(v=env i/\∀r∈v.refs,r<nx))/\kA nx env l (i+1)
theorem bJ.bX {b:Nat}{e:Nat->V}{so:Nat->ab}{m:Nat}(l:List V){o:Nat->ab}{nx:Nat}(hb:b<=nx)(hn:nx<=m)(hg:Good o nx)(ho:∀id,id<nx->so id=o id)(he:kA nx e l 0):bJ b ⟨e,so,m⟩ ⟨bp l,o,nx⟩:=by
 refine bJ.back hb hn hg ho ?_
 have key:∀ (l:List V) (i:Nat),kA nx e l i->∀j,bp l j= .aa\/(bp l j=e (i+j)/\∀r∈(bp l j).refs,r<nx):=by
  intro l
  induction l with
  |nil=>intro i _ j;rw[qM];exact .inl rfl
  |cons v l ih=>
   intro i h j
   cases j with
   |zero=>rw[oB];exact h.1
   |succ j=>
    rw[oC]
    have:=ih (i+1) h.2 j
    rwa [show i+1+j=i+(j+1) by omega]at this
 intro i
 have:=key l 0 he i
 rwa [Nat.zero_add]at this
theorem xC{nx:Nat}{env:Nat->V}{i:Nat}:kA nx env [] i:=trivial
theorem uH{nx:Nat}{env:Nat->V}{l:List V}{i:Nat}(h:kA nx env l (i+1)):kA nx env (.aa::l) i:=⟨.inl rfl,h⟩
theorem p9{nx:Nat}{env:Nat->V}{l:List V}{i:Nat}{x:D}(he:env i= .d x)(h:kA nx env l (i+1)):kA nx env (.d x::l) i:=⟨.inr ⟨he.symm,fun r hr=>by simp[V.refs]at hr⟩,h⟩
theorem zJ{nx:Nat}{env:Nat->V}{l:List V}{i:Nat}{v:V}(he:env i=v)(hr:∀r∈v.refs,r<nx)(h:kA nx env l (i+1)):kA nx env (v::l) i:=⟨.inr ⟨he.symm,hr⟩,h⟩
theorem bJ.d0 {e:Nat->V}{so:Nat->ab}{m:Nat}(l:List V)(he:kA 0 e l 0):bJ 0 ⟨e,so,m⟩ ⟨bp l,fun _=> .no,0⟩:=bJ.bX l (Nat.le_refl 0) (Nat.zero_le _) Good.nil (fun _ h=>absurd h (Nat.not_lt_zero _)) he
theorem Kj{k:Nat}(h:(k:Int)+1<=9223372036854775807):IntKind.i64.wrap ((k:Int)+1)=((k+1:Nat):Int):=by rw[wrap64 (by omega) h];rfl
theorem Ki{k:IntKind}{a b:Int}(h:a=b):V.d (D.int k a)=V.d (D.int k b):=by rw[h]
theorem CY{P:Program}{g:FuncId}{K:KD}{X:XD}{o:Nat->ab}{nx fr:Nat}{all:List V}{rd:List Nat}{rs:List D}{Δ:List (Nat×ab)}(oO:rd.all (fun id=>decide (id<nx))=true)(h:Gz P g all rd o (.ret rs) Δ)(hk:K (jR rs) Δ rd):sr P g K X o nx fr all:=by
 unfold sr
 exact⟨rd,Δ,oO, .inl ⟨rs,h,hk⟩⟩
abbrev D.i (n:Int):D:= .int .i64 n
structure kB where
 name:List UInt8
 args:Int
structure aO where
 cons:List kB
 bR:List kB
inductive Tm where
 |mk (op n:Int) (kids:List Tm)
 deriving Inhabited
structure TB where
 var:Int
 term:Tm
def Tm.op:Tm->Int| .mk op _ _=>op
def Tm.n:Tm->Int| .mk _ n _=>n
def Tm.kids:Tm->List Tm| .mk _ _ l=>l
theorem Tm.eta (t:Tm):Tm.mk t.op t.n t.kids=t:=by cases t;rfl
theorem Tm.ind {P:Tm->Prop}(h:∀op n kids,(∀k∈kids,P k)->P (.mk op n kids)):∀t,P t:=
 fun t=>Tm.rec (motive_1:=P) (motive_2:=fun l=>∀k∈l,P k) (fun op n kids ih=>h op n kids ih) (fun _ h=>by cases h)
  (fun x l hx hl k hk=>(List.mem_cons.1 hk).elim (fun e=>e ▸ hx) (hl k)) t
mutual
def Tm.d:Tm->D
 | .mk op n kids=> .agg [.i op, .i n, .sl (Tm.ds kids)]
def Tm.ds:List Tm->List D
 |[]=>[]
 |t::l=>t.d::Tm.ds l
end
theorem Tm.sv:∀l:List Tm,Tm.ds l=l.map Tm.d
 |[]=>rfl
 |t::l=>by simp[Tm.ds,Tm.sv l]
theorem Tm.E8 (t:Tm):t.d= .agg [.i t.op, .i t.n, .sl (t.kids.map Tm.d)]:=by cases t;simp[Tm.d,Tm.sv,Tm.op,Tm.n,Tm.kids]
@[go_sem] theorem Tm.Xp (t:Tm):D.agg [.i t.op, .i t.n, .sl (t.kids.map Tm.d)]=t.d:=(Tm.E8 t).symm
@[go_sem] theorem Tm.P7 (t:Tm):D.cells t.d=[.i t.op, .i t.n, .sl (t.kids.map Tm.d)]:=by rw[Tm.E8];rfl
theorem Tm.bW {P:Tm->Prop}(h:∀t:Tm,(∀k∈t.kids,P k)->P t):∀t,P t:=Tm.ind fun op n kids ih=>h (.mk op n kids) ih
theorem Tm.m9 (op n:Int)(l:List Tm):(Tm.mk op n l).d= .agg [.i op, .i n, .sl (l.map Tm.d)]:=by simp[Tm.d,Tm.sv]
@[reducible] def kB.d (x:kB):D:= .agg [.str x.name, .i x.args]
@[reducible] def aO.d (s:aO):D:= .agg [.sl (s.cons.map kB.d), .sl (s.bR.map kB.d)]
@[reducible] def TB.d (b:TB):D:= .agg [.i b.var, .i b.term.op, .i b.term.n, .sl (b.term.kids.map Tm.d)]
mutual
def Tm.fits:Tm->Prop
 | .mk _ _ kids=>kids.length<=9223372036854775807/\Tm.kC kids
def Tm.kC:List Tm->Prop
 |[]=>True
 |t::l=>t.fits/\Tm.kC l
end
theorem Tm.lY:∀l:List Tm,Tm.kC l↔∀k∈l,k.fits
 |[]=>by simp[Tm.kC]
 |t::l=>by simp[Tm.kC,Tm.lY l]
theorem Tm.aH (t:Tm):t.fits↔t.kids.length<=9223372036854775807/\∀k∈t.kids,k.fits:=by cases t;simp[Tm.fits,Tm.lY,Tm.kids]
mutual
def Tm.iN:Tm->Nat
 | .mk _ _ kids=>1+Tm.fZ kids
def Tm.fZ:List Tm->Nat
 |[]=>0
 |k::l=>Nat.max k.iN (Tm.fZ l)
end
theorem Tm.nK:∀ {l:List Tm} {k:Tm},k∈l->k.iN<=Tm.fZ l
 |x::l,k,h=>by
  simp only[Tm.fZ]
  rcases List.mem_cons.1 h with rfl|h
  ·exact Nat.le_max_left _ _
  ·exact Nat.le_trans (Tm.nK h) (Nat.le_max_right _ _)
theorem Tm.qN {t k:Tm}(h:k∈t.kids):k.iN+1<=t.iN:=by
 cases t;simp only[Tm.kids]at h;simp only[Tm.iN];have:=Tm.nK h;omega
mutual
def pre:Tm->Int->List (Tm×Int)
 | .mk op n kids,d=>(.mk op n kids,d)::P8 kids (d+1)
def P8:List Tm->Int->List (Tm×Int)
 |[],_=>[]
 |k::l,d=>pre k d++P8 l d
end
theorem IX(l:List Tm)(d:Int):P8 l d=l.flatMap fun k=>pre k d:=by
 induction l with
 |nil=>rfl
 |cons k l ih=>simp[P8,ih]
theorem jK(t:Tm)(d:Int):pre t d=(t,d)::t.kids.flatMap fun k=>pre k (d+1):=by cases t;simp[pre,IX,Tm.kids]
def cF(n low high:Int):Bool:=decide (low<=n)&&decide (n<=high)
def letterF(b:UInt8):Bool:= !((decide ((b.toNat:Int)<97)||decide (122<(b.toNat:Int)))&&(decide ((b.toNat:Int)<65)||decide (90<(b.toNat:Int))))
def kD(s:List UInt8):Bool:=s.all letterF&&cF s.length 1 8
def cm:List kB->List (List UInt8)->Option (List (List UInt8))
 |[],before=>some before
 |x::l,before=>if before.any (· ==x.name)then none else if(!kD x.name|| !cF x.args 0 4)=true then none else cm l (before++[x.name])
def fB:List UInt8:=[70,97,108,115,101]
def tB:List UInt8:=[84,114,117,101]
def mV(x:kB)(s:List UInt8):Bool:=x.name==s&&x.args==0
def kE(s:aO):Bool:=
 if(!cF s.cons.length 2 12||decide (8<(s.bR.length:Int)))=true then false else
 match s.cons with
 |a::b::_=>if(!mV a fB|| !mV b tB)=true then false else
  match cm s.cons []with
  |none=>false
  |some l=>(cm s.bR l).isSome
 |_=>false
mutual
def eB:Tm->Int->Int->Int
 | .mk _ _ kids,left,depth=>if left<1\/depth<1 then -1 else cc kids (left - 1) (depth - 1)
def cc:List Tm->Int->Int->Int
 |[],left,_=>left
 |k::l,left,depth=>if 0<=left then cc l (eB k left depth) depth else left
end
def dN(l:List kB)(n:Int):Int:=match l[n.toNat]? with|some x=>x.args|none=>0
def bz(s:aO)(t:Tm):Bool:=
 let k:Int:=t.kids.length
 if t.op=1 then k==0&&cF t.n 0 19
 else if t.op=2 then k==0&&cF t.n (-1000000) 1000000
 else if t.op=3 then cF t.n 0 (s.cons.length - 1)&&k==dN s.cons t.n
 else if t.op=4 then cF t.n 0 (s.bR.length - 1)&&k==dN s.bR t.n
 else if t.op=5 then cF t.n 0 (s.bR.length - 1)&&decide (k<dN s.bR t.n)
 else if t.op=8 then k==2&&cF t.n 0 19
 else if(cF t.op 6 15)=true then k==2&&t.n==0
 else false
mutual
def eL(s:aO):Tm->Bool
 | .mk op n kids=>bz s (.mk op n kids)&&uq s kids
def uq(s:aO):List Tm->Bool
 |[]=>true
 |k::l=>eL s k&&uq s l
end
def ei(s:aO)(t:Tm):Bool:=decide (0<=eB t 40 12)&&eL s t
mutual
def aU:Tm->Tm->Bool
 | .mk op n kids, .mk op' n' TF=>op==op'&&n==n'&&kids.length==TF.length&&gS kids TF
def gS:List Tm->List Tm->Bool
 |[],_=>true
 |k::l,k'::l'=>aU k k'&&gS l l'
 |_::_,[]=>true
end
def iE(t:Tm):Bool:=decide (0<=eB t 50 14)
def gJ(l:List kB):Bool:=l.all fun x=>decide ((x.name.length:Int)<=30)
def jg(s:aO):Bool:= !(decide (16<(s.cons.length:Int))||decide (12<(s.bR.length:Int)))&&gJ s.cons&&gJ s.bR
section
def jL(id:Nat)(K X:V->(Nat->ab)->Nat->Prop)(e:fX)(s:S):Prop:=
 match e with
 | .normal=>∃nf m en p c d st pd,s.o id= .loop nf m en p c d st pd/\K (.d (.bool true)) (aK s.o id (.loop nf m en p c d .ready none)) s.nx
 | .ret=>∃nf m en p c d st pd,s.o id= .loop nf m en p c d st pd/\K (.d (.bool false)) (aK s.o id (.loop nf m en p c d .done (some .ret))) s.nx
 | .exit j=>∃nf m en p c d st pd,s.o id= .loop nf m en p c d st pd/\K (.d (.bool false)) (aK s.o id (.loop nf m en p c d .done (some (.exit j)))) s.nx
 | .bP v=>X v s.o s.nx
def Xq(P:Program)(n b id:Nat)(eS:IC)(K X:V->(Nat->ab)->Nat->Prop)(e:fX)(s:S):Prop:=
 match e with
 | .normal=>∃nf m en p c d pd,s.o id= .loop nf m en p c d .ready pd/\uo P n b true eS (jL id K X) ⟨s.env,aK s.o id (.loop nf m en p c d .busy pd),s.nx⟩
 | .bP v=>X v s.o s.nx
 |_=>False
section
variable {P:Program}{M:Nat->Prop}{φ cN:Place}{H0:Hp}{w w0:World}{n:Nat}{s:S}{a:Act}{cx:Cx}
theorem CZ{id:Nat}{x:ab}{s:S}(cM:id<s.nx)(j:Nat)(hu:(s.H.put [(id,x)]).us j):j<s.nx:=by
 simp only[eH]at hu
 rcases hu with hu|hu
 ·exact hu
 ·subst hu;exact cM
theorem vA{B:Nat->Prop}{H:Hp}{n:Nat}:∀ (ps:List Nat) (vs:List V) (us:List Value) (env:Nat->V) (tmps:Array Value),tmps.size=n->ps.length=vs.length->V.aM B φ H w vs us->ps.all (fun t=>decide (t<n))=true->(∀i,V.den B φ H w (env i) (tmps.getD i undef))->
 ((ps.zip us).foldl (fun tmps p=>tmps.setIfInBounds p.1 p.2) tmps).size=n/\∀i,V.den B φ H w (nG env ps vs i) (((ps.zip us).foldl (fun tmps p=>tmps.setIfInBounds p.1 p.2) tmps).getD i undef)
 |[],[],us,env,tmps,eu,_,hd,_,he=>by simp only[V.aM]at hd;subst hd;exact⟨eu,he⟩
 |[],v::vs,us,env,tmps,_,h,_,_,_=>by simp at h
 |t::ps,[],us,env,tmps,_,h,_,_,_=>by simp at h
 |t::ps,v::vs,us,env,tmps,eu,hl,hd,hp,he=>by
  obtain⟨u,us,rfl,h1,h2⟩:=hd
  simp only[List.all_cons,Bool.and_eq_true,decide_eq_true_eq]at hp
  simp only[List.zip_cons_cons,List.foldl_cons,nG]
  refine vA ps vs us (aK env t v) (tmps.setIfInBounds t u) (by simp[eu]) (by simpa using hl) h2 hp.2 (fun i=> ?_)
  simp only[aQ]
  by_cases hi:i=t
  ·subst hi
   have:(tmps.setIfInBounds i u).getD i undef=u:=by simp[Array.getD,eu,hp.1]
   rw[if_pos rfl,this];exact h1
  ·have:(tmps.setIfInBounds t u).getD i undef=tmps.getD i undef:=by
    exact Wp
   rw[if_neg hi,this];exact he i
theorem eh.vu (bB:P.follows .mixedOrders=true){id:Nat}{args:List V}{o:Nat->ab}{nx:Nat}{K X:V->(Nat->ab)->Nat->Prop}{env:List V}{ps:List Nat}{iW eS:IC}{st:LoopState}{pd:Option jQ}
 (ho:o id= .loop P.funcs.size n env ps iW eS st pd) (cM:id<nx) (E9:ps.all (fun t=>decide (t<n))=true) (hl:args.length=ps.length)
 (h:uo P n nx true iW (Xq P n nx id eS K X) ⟨nG (bp env) ps args,o,nx⟩):eh P id args o nx K X:=by
 refine⟨by rw[ho];rfl,fun M φ w vals b hH hd fk=> ?_⟩
 have bn:=hH.ok id
 simp only[aX,hp,ho]at bn
 obtain⟨b',r,h1,h2,h0,h3,h4,h5,h6,h7,h8,h9⟩:=bn
 rw[fk]at h1;simp at h1;subst h1
 have hlen:=V.aJ _ _ hd
 have eu:vals.size=r.params.size:=by
  have:r.params.toList.length=ps.length:=by rw[h5]
  simp at hlen this;omega
 let tm:Array Value:=(ps.zip vals.toList).foldl (fun tmps p=>tmps.setIfInBounds p.1 p.2) r.tmps
 have acC:(r.params.zip vals).foldl (fun tmps (p:Tmp×Value)=>tmps.setIfInBounds p.1 p.2) r.tmps=tm:=by
  rw[<- Array.foldl_toList,Array.toList_zip,h5]
 obtain⟨p1,p2⟩:=vA (B:=ay M φ (hp o nx)) (H:=hp o nx) (φ:=φ) (w:=w) ps args vals.toList (bp env) r.tmps h6 hl.symm hd E9 h9
 refine⟨r.fn,tm,r.assign,r.body, ?_,fun k=> ?_⟩
 ·simp only[Instr.yield,Sem.run_bind,lg h2,Result.andThen_ok,eu,ne_eq,not_true_eq_false,if_false,Sem.run_pure]
  rw[<- acC]
 ·
   let s0:S:=⟨nG (bp env) ps args,o,nx⟩
   let a0:Act:={tmps:=tm,defers:=[]}
   have gH:cu M φ (hp o nx) w n ⟨[],true⟩ φ s0 a0 w:=⟨hH,Trans.refl _ _ _,p1,⟨[],rfl,List.nodup_nil,fun _=>rfl,fun r hr=>by cases hr⟩,p2⟩
   have vB:∀ {aN s' a' w'},cu M φ (hp o nx) w n ⟨[],true⟩ aN s' a' w'->a'.defers=[]:=by
    intro aN s' a' w' hs
    obtain⟨ms,g1,_,g3,_⟩:=hs.defers
    rw[g3 rfl]at g1;exact g1
   have acD:∀ {aN s' a' w'} {nf m:Nat} {en:List V} {p:List Nat} {c d:IC} {st:LoopState} {pd:Option jQ} (st':LoopState) (pd':Option jQ),cu M φ (hp o nx) w n ⟨[],true⟩ aN s' a' w'->s'.o id= .loop nf m en p c d st pd->
    ∃r',w'.heap[b]? =some (.loop r')/\r'.state=st/\r'.pending=pd.map jQ.code/\
     cu M φ (hp o nx) w n ⟨[],true⟩ aN ⟨s'.env,aK s'.o id (.loop nf m en p c d st' pd'),s'.nx⟩ a' {w' with heap:=w'.heap.setIfInBounds b (.loop {r' with state:=st',pending:=pd'.map jQ.code})}:=by
    intro aN s' a' w' nf m en p c d st pd st' pd' hs p7
    have WL:aN id= .pointer (some ⟨b,0,none⟩):=by
     have:=(hs.tr.rel.row id cM (by show(s'.o id).cB=true;rw[p7];rfl)).2
     rw[this];exact fk
    have acE:id<s'.nx:=hs.tr.rel.us id cM
    obtain⟨r',r1,r2,r3,r4,r5⟩:=yl (st':=st') (pd':=pd') hs.heap acE (show s'.H.o id=_ from p7) WL
    exact⟨r',r1,r2,r3,fm hs r4 r5 rfl (CZ acE)⟩
   have ha:=jf (P:=P) (n:=n) (b:=nx) (rd:=true) bB r.assign _ _ s0 (fun _ _ h=>h) (by rw[h7];exact h)
   refine u9 h0 (iC (iZ (P:=P) (H0:=hp o nx) (b:=nx) (cx:=⟨[],true⟩) (ro:=some b) (fun id hu=>hu) (fun h=>by cases h) r.assign _ s0 φ a0 w ha gH) ?_)
   rintro e a1 w1 ⟨x,s1,jG,hq,yn,hm⟩
   cases e<;>cases x<;>first|(exact hm.elim)|skip
   ·
     obtain⟨nf,m,en,p,c,d,pd1,q1,q2⟩:=hq
     obtain⟨r',r1,r2,r3,OL⟩:=acD .busy pd1 yn q1
     have Xr:(Instr.beginRound b).run P w1= .ok () {w1 with heap:=w1.heap.setIfInBounds b (.loop {r' with state:= .busy,pending:=pd1.map jQ.code})}:=by
      have e1:({r' with state:= .busy}:Loop)={r' with state:= .busy,pending:=pd1.map jQ.code}:=by rw[<- r3]
      simp only[Instr.beginRound,Sem.run_bind,lg r1,Result.andThen_ok,jI _ r1,r2,Sem.run_pure,e1]
     refine⟨_,Xr, ?_⟩
     have bL:=OL.heap.ok id
     simp only[aX,S.H,aQ,if_true]at bL
     obtain⟨b2,r2',_,_,_,_,_,_,_,_,_,_⟩:=bL
     have hb:=jf (P:=P) (n:=n) (b:=nx) (rd:=true) bB r.body _ _ _ (fun _ _ h=>h) (by rw[h8];exact q2)
     refine iC (iZ (P:=P) (H0:=hp o nx) (b:=nx) (cx:=⟨[],true⟩) (ro:=some b) (fun id hu=>hu) (fun h=>by cases h) r.body _ _ jG a1 _ hb OL) ?_
     rintro e a2 w2 ⟨x,s2,Iv,hq2,Gw,OH⟩
     have fin:∀ {nf m:Nat} {en:List V} {p:List Nat} {c d:IC} {st:LoopState} {pd:Option jQ} (jump:Option jQ) (t:Bool) (st':LoopState),t=jump.isNone->st'=(if jump.isNone then .ready else .done)->s2.o id= .loop nf m en p c d st pd->K (.d (.bool t)) (aK s2.o id (.loop nf m en p c d st' jump)) s2.nx->
      ∃v w',(Instr.endRound b (jump.map jQ.code)).run P w2= .ok v w'/\ns M φ (hp o nx) w K X (.returned v) w':=by
      intro nf m en p c d st pd jump t st' ht oT ho2 hK
      obtain⟨r3',g1,g2,g3,hs4⟩:=acD st' jump Gw ho2
      refine⟨.bool t,_, ?_,Iv,_,_,_,hs4.heap,hs4.tr,by simp only[V.den,D.den],hK⟩
      subst ht;subst oT
      simp only[Instr.endRound,Sem.run_bind,lg g1,Result.andThen_ok,jI _ g1,Sem.run_pure,Option.isNone_map]
     cases e<;>cases x<;>first|(exact OH.elim)|skip
     ·obtain⟨nf,m,en,p,c,d,st,pd,k1,k2⟩:=hq2
      exact fin none true .ready rfl rfl k1 k2
     ·rename_i j
      subst OH
      obtain⟨nf,m,en,p,c,d,st,pd,k1,k2⟩:=hq2
      exact fin (some (.exit _)) false .done rfl rfl k1 k2
     ·obtain⟨nf,m,en,p,c,d,st,pd,k1,k2⟩:=hq2
      exact fin (some .ret) false .done rfl rfl k1 k2
     ·obtain⟨val,rfl,k2⟩:=OH
      exact⟨vB Gw,Iv,_,_,_,Gw.heap,Gw.tr,val,rfl,k2,hq2⟩
   ·exact hq.elim
   ·exact hq.elim
   ·obtain⟨val,rfl,k2⟩:=hm
    exact⟨vB yn,jG,_,_,_,yn.heap,yn.tr,val,rfl,k2,hq⟩
end
end
section
def Xs(ops:Array Oper)(t t1:Nat):Prop:=
 (∃o1 o2,ops=#[o1,o2]/\o1.op= .call ⟨.builtin .recover,#[],#[]⟩/\o1.dst=some t/\o1.guard=none/\o2.op= .assign (.tmp t)/\o2.dst=some t1/\o2.guard=none)\/
 (∃o1,ops=#[o1]/\t1=t/\o1.op= .call ⟨.builtin .recover,#[],#[]⟩/\o1.dst=some t/\o1.guard=none)
structure C0 (P:Program) (g:FuncId) (n t t1:Nat) (ic:IC):Prop where
 get:∃fn id ops c,P.funcs[g]? =some fn/\(fn.name== "runtime.NumGoroutine")=false/\fn.ntmps=n/\fn.results=#[]/\fn.body=some (.seq (.region id ops false) c)/\
  Xs ops t t1/\t<n/\t1<n/\low n c=ic
structure GL (P:Program) (f:FuncId) (n:Nat) (iW eS:IC) (g:FuncId) (t:Nat) (aI:List Operand) (rs:List ResultVar):Prop where
 get:∃fn id o1 o2 a b d,P.funcs[f]? =some fn/\(fn.name== "runtime.NumGoroutine")=false/\fn.ntmps=n/\fn.results.toList=rs/\fn.body=some (.seq a d)/\(d= .seq (.region id #[o1,o2] false) b\/d= .scope (.seq (.region id #[o1,o2] false) b))/\
  o1.op= .makeFunc (.func g) #[] aI.toArray/\o1.dst=some t/\o1.guard=none/\o2.op= .defer ⟨.value (.tmp t),#[],#[]⟩/\o2.dst=none/\o2.guard=none/\t<n/\low n a=iW/\low n b=eS
def IY(K:(Nat->ab)->Nat->Prop)(e:fX)(s:S):Prop:=match e with| .normal| .ret=>K s.o s.nx|_=>False
def Fa(P:Program)(n t t1:Nat)(ic:IC)(aI:List V)(u:V)(o:Nat->ab)(nx:Nat)(K:(Nat->ab)->Nat->Prop):Prop:=
 aI.length<=n/\uo P n nx true ic (IY K) ⟨aK (aK (cE aI) t u) t1 u,o,nx⟩
def AE(P:Program)(n t t1:Nat)(ic:IC)(aI:List V)(rs:List ResultVar)(K X:V->(Nat->ab)->Nat->Prop)(e:fX)(s:S):Prop:=
 match e with
 | .normal| .ret=>Fa P n t t1 ic aI (.d .fI) s.o s.nx fun o nx=>my P rs K X .ret ⟨s.env,o,nx⟩
 | .bP v=>Fa P n t t1 ic aI v s.o s.nx fun o nx=>my P rs K X .ret ⟨s.env,o,nx⟩
 | .exit _=>False
def C1(P:Program)(n t:Nat)(eS:IC)(fP:List Operand)(g:FuncId)(D:List V->fX->S->Prop)(e:fX)(s:S):Prop:=
 match e with
 | .normal=>uo P n s.nx false eS (D (fP.map s.ev)) ⟨aK s.env t (.func (.func g) [] (fP.map s.ev)),s.o,s.nx⟩
 |_=>False
section
variable {P:Program}{M:Nat->Prop}{φ cN:Place}{H H0:Hp}{w w0:World}{n:Nat}{s:S}{a:Act}{cx:Cx}{k:Nat}
theorem IZ(bB:P.follows .mixedOrders=true){g:FuncId}{t t1:Nat}{ic:IC}(hg:C0 P g n t t1 ic){aI:List V}{u:V}{o:Nat->ab}{nx:Nat}{K:(Nat->ab)->Nat->Prop}(h:Fa P n t t1 ic aI u o nx K)
 {vals:Array Value} {val:Value} {m:FrameMode} (hH:aE M φ (hp o nx) w) (hd:V.aM (ay M φ (hp o nx)) φ (hp o nx) w aI vals.toList) (hv:V.den (ay M φ (hp o nx)) φ (hp o nx) w u val)
 (hm:(m= .returning/\val= .nilIface)\/m= .panicking [{v:=val,recovered:=false}]):
 CallsDIn (ey none) k P g vals m w fun e u' w'=>∃v aN o' nx',e= .returned v/\settle u'= .returning/\aE M aN (hp o' nx') w'/\Trans φ (hp o nx) w aN (hp o' nx') w'/\K o' nx':=by
 obtain⟨fn,id,ops,c,hf,TG,hnt,Cr,qE,Lh,ht,Ec,sn⟩:=hg.get
 have cM:g<P.funcs.size:=(Array.getElem?_eq_some_iff.1 hf).1
 obtain⟨p6,h⟩:=h
 have hlen:=V.aJ _ _ hd
 refine⟨trivial,fun pL cs Ml SZ=> ?_⟩
 let b:Frame:={(default:Frame)with fn:=g,kind:= .deferred,roundOf:=none}
 let ur:Array Value:=vals++Array.replicate (fn.ntmps - vals.size) undef
 have afQ:ur.size=n:=by simp only[ur,Array.size_append,Array.size_replicate];simp at hlen;omega
 have mu:Frame.enter P g vals .deferred=b.atR {tmps:=ur,defers:=[]} [.code (.seq (.region id ops false) c)]:=by
  simp[Frame.enter,Frame.atR,hf,qE,b,ur]
 obtain⟨m',hm',bL⟩:∃m',settle m'= .returning/\((recoverD (pL::cs)=none/\m'=m/\val= .nilIface)\/recoverD (pL::cs)=some (val,{pL with mode:=m'}::cs)):=by
  rcases hm with⟨rfl,rfl⟩|rfl
  ·exact⟨.returning,rfl, .inl ⟨by simp[recoverD,Ml],rfl,rfl⟩⟩
  ·exact⟨.panicking [{v:=val,recovered:=true}],rfl, .inr (by simp[recoverD,Ml])⟩
 have hc0:({pL with mode:=m}:Frame)=pL:=by subst Ml;rfl
 let a1:Act:={tmps:=(ur.setIfInBounds t val).setIfInBounds t1 val,defers:=[]}
 have PM:(Code.region id ops false).wpSIn (ey none) k P (fun e a' cs' w'=>e= .normal/\a'=a1/\cs'={pL with mode:=m'}::cs/\w'=w) {tmps:=ur,defers:=[]} (pL::cs) w:=by
  rcases Lh with⟨o1,o2,rfl,e1,e2,e3,e4,e5,e6⟩|⟨o1,rfl,rfl,e1,e2,e3⟩
  ·refine wpSIn_region ?_
   have hr:List.range (#[o1,o2]:Array Oper).size=[0,1]:=rfl
   have g0:(#[o1,o2]:Array Oper)[0]? =some o1:=rfl
   have g1:(#[o1,o2]:Array Oper)[1]? =some o2:=rfl
   rw[hr]
   have x1:∀ (ρ:Operand->Value) (w:World),(execOp ρ o1).run P w= .ok .recover w:=by
    intro ρ w
    simp[execOp,e1,resolve,invoke,builtin]
   have x2:∀ (ρ:Operand->Value) (w:World),(execOp ρ o2).run P w= .ok (.value (ρ (.tmp t))) w:=by
    intro ρ w
    simp[execOp,e4]
   have last:∀cs',cs'={pL with mode:=m'}::cs->wpOpsSIn (ey none) k P #[o1,o2] (fun e a' cs' w'=>e= .normal/\a'=a1/\cs'={pL with mode:=m'}::cs/\w'=w) [1] (({tmps:=ur,defers:=[]}:Act).put (some t) val) cs' w:=by
    rintro cs' rfl
    have hw:Region.wanted o2 (yielded #[o1,o2] (({tmps:=ur,defers:=[]}:Act).put (some t) val).tmps)=true:=by simp[Region.wanted,e6]
    have dM:(({tmps:=ur,defers:=[]}:Act).put (some t) val).eval (.tmp t)=val:=by
     have:t<ur.size:=ah
     simp[Act.put,Act.eval,Array.getD,this]
    simp only[wpOpsSIn,g1,hw,if_true,x2,dM,e5]
    refine⟨fun _ _=>trivial, ?_⟩
    simp[a1,Act.put]
   have hw:Region.wanted o1 (yielded #[o1,o2] ur)=true:=by simp[Region.wanted,e3]
   rw[wpOpsSIn,g0]
   refine⟨fun _ _=>trivial, ?_⟩
   simp only[hw,if_true,x1,e2]
   rcases bL with⟨hr,rfl,rfl⟩|hr
   ·simp only[hr]
    exact last _ (by rw[hc0])
   ·simp only[hr]
    exact last _ rfl
  ·refine wpSIn_region ?_
   have hr:List.range (#[o1]:Array Oper).size=[0]:=rfl
   have g0:(#[o1]:Array Oper)[0]? =some o1:=rfl
   rw[hr]
   have x1:∀ (ρ:Operand->Value) (w:World),(execOp ρ o1).run P w= .ok .recover w:=by
    intro ρ w
    simp[execOp,e1,resolve,invoke,builtin]
   have same:a1=({tmps:=ur,defers:=[]}:Act).put (some t1) val:=by
    simp only[a1,Act.put]
    congr 1
    apply Array.ext_getElem?
    intro j
    simp only[Array.getElem?_setIfInBounds]
    by_cases hj:t1=j
    ·subst hj;simp
    ·simp[hj]
   have last:∀cs',cs'={pL with mode:=m'}::cs->wpOpsSIn (ey none) k P #[o1] (fun e a' cs' w'=>e= .normal/\a'=a1/\cs'={pL with mode:=m'}::cs/\w'=w) [] (({tmps:=ur,defers:=[]}:Act).put (some t1) val) cs' w:=by
    rintro cs' rfl
    simp only[wpOpsSIn]
    exact⟨trivial,same.symm,trivial,trivial⟩
   have hw:Region.wanted o1 (yielded #[o1] ur)=true:=by simp[Region.wanted,e3]
   rw[wpOpsSIn,g0]
   refine⟨fun _ _=>trivial, ?_⟩
   simp only[hw,if_true,x1,e2]
   rcases bL with⟨hr,rfl,rfl⟩|hr
   ·simp only[hr]
    exact last _ (by rw[hc0])
   ·simp only[hr]
    exact last _ rfl
 obtain⟨er,ar,csr,wr,hl,⟨rfl,rfl,rfl,hwr⟩,dC⟩:=PM b [.code c] rfl rfl trivial (fun d hd=>by simp[ey]at hd)
 rw[hwr]at dC
 let s0:S:=⟨aK (aK (cE aI) t u) t1 u,o,nx⟩
 have gH:cu M φ (hp o nx) w n ⟨[],true⟩ φ s0 a1 w:=by
  refine⟨hH,Trans.refl _ _ _,by simp[a1,afQ],⟨[],rfl,List.nodup_nil,fun _=>rfl,fun r hr=>by cases hr⟩,fun i=> ?_⟩
  have eU:=BO (m:=fn.ntmps - vals.size) hd i
  simp only[s0,a1,aQ]
  have ht0:t<ur.size:=ah
  have afR:t1<ur.size:=ah
  by_cases h1:i=t1
  ·subst h1
   simp only[if_true]
   have:((ur.setIfInBounds t val).setIfInBounds i val).getD i undef=val:=by simp[Array.getD,afR]
   rw[this];exact hv
  ·simp only[h1,if_false]
   have e1:((ur.setIfInBounds t val).setIfInBounds t1 val).getD i undef=(ur.setIfInBounds t val).getD i undef:=by
    exact Sy
   rw[e1]
   by_cases h2:i=t
   ·subst h2
    simp only[if_true]
    have:(ur.setIfInBounds i val).getD i undef=val:=by simp[Array.getD,ht0]
    rw[this];exact hv
   ·simp only[h2,if_false]
    have e1:(ur.setIfInBounds t val).getD i undef=ur.getD i undef:=by
     simp only[Array.getD_eq_getD_getElem?]
     rw[Array.getElem?_setIfInBounds_ne (Ne.symm h2)]
    rw[e1];exact eU
 have hcw:=jf (P:=P) (n:=n) (b:=nx) (rd:=true) bB c _ _ s0 (fun _ _ h=>h) (by rw[sn];exact h)
 obtain⟨e,a',w',⟨x,s',aN,hq,jv,hx⟩,Gv⟩:=iZ (P:=P) (H0:=hp o nx) (b:=nx) (cx:=⟨[],true⟩) (ro:=none) (fun id hu=>hu) (fun h=>by cases h) c _ s0 φ a1 w hcw gH b [] ({pL with mode:=m'}::cs) rfl cM
 have i0:(lone (b.atR {tmps:=ur,defers:=[]} [.code (.seq (.region id ops false) c)]) (pL::cs) w).fenced P (ey none):=fenced_calm (n:=0) trivial iB rfl
 have TH:StepsIn (Machine.fenced P (ey none)) P (lone (b.atR {tmps:=ur,defers:=[]} [.code (.seq (.region id ops false) c)]) (pL::cs) w) (lone (b.atR a1 [.code c]) ({pL with mode:=m'}::cs) w):= .head i0 stepR_seq dC
 have vB:a'.defers=[]:=by
  obtain⟨ms,g1,_,g3,_⟩:=jv.defers
  rw[g3 rfl]at g1;exact g1
 have acF:∀tm:Array Value,∃v,(results fn tm).run P w'= .ok v w':=by
  intro tm
  refine⟨_,nz (vals:=[]) ?_⟩
  rw[Cr];rfl
 rw[mu]
 obtain⟨v,tL⟩:=acF a'.tmps
 cases e<;>cases x<;>first|(exact hx.elim)|(exact hq.elim)|skip
 ·exact⟨.returned v,m',w',_,⟨v,aN,s'.o,s'.nx,rfl,hm',jv.heap,jv.tr,hq⟩,StepsIn.trans TH (StepsIn.trans Gv (.one (fenced_calm (n:=0) (fr:=b.atR a' []) trivial iB rfl) (stepR_end rfl))),rfl,rfl,rfl,vB,fn,hf,tL⟩
 ·obtain⟨todo,hs⟩:=Gv.1 rfl
  exact⟨.returned v,m',w',_,⟨v,aN,s'.o,s'.nx,rfl,hm',jv.heap,jv.tr,hq⟩,StepsIn.trans TH hs,rfl,rfl,rfl,vB,fn,hf,tL⟩
theorem C2{d c:Code}{ro:Option Nat}{Q:Exit->Act->World->Prop}{a:Act}{w:World}(h:d=c\/d= .scope c)(hg:∀l a w, ¬Q (.goto l) a w)(hc:c.tN P ro Q a w):d.tN P ro Q a w:=by
 rcases h with rfl|rfl
 ·exact hc
 ·exact yj hc hg
theorem cK.C3 (bB:P.follows .mixedOrders=true){f g:FuncId}{iW eS yG:IC}{t m r r1:Nat}{fP:List Operand}{rs:List ResultVar}(hf:GL P f n iW eS g t fP rs)(hg:C0 P g m r r1 yG)
 {args:List V} {o:Nat->ab} {nx:Nat} {K X:V->(Nat->ab)->Nat->Prop} (hl:args.length<=n)
 (h:uo P n nx true iW (C1 P n t eS fP g fun aI=>AE P m r r1 yG aI rs K X) ⟨cE args,o,nx⟩):cK P f args o nx K X:=by
 obtain⟨fn,id,o1,o2,ca,cb,cd,JZ,TG,hnt,Cr,qE,hsc,e1,e2,e3,e4,e5,e6,ht,hla,hlb⟩:=hf.get
 obtain⟨gn,_,_,gc,hgn,Xt,_,_,Xu,_⟩:=hg.get
 refine⟨⟨fn,JZ,TG,by rw[qE];rfl⟩,fun M φ w vals hH hd=> ?_⟩
 have hlen:=V.aJ _ _ hd
 let s0:S:=⟨cE args,o,nx⟩
 let a0:Act:={tmps:=vals++Array.replicate (fn.ntmps - vals.size) undef,defers:=[]}
 have gH:cu M φ (hp o nx) w n ⟨[],true⟩ φ s0 a0 w:=by
  exact R7
 have ha:=jf (P:=P) (n:=n) (b:=nx) (rd:=true) bB ca _ _ s0 (fun _ _ h=>h) (by rw[hla];exact h)
 refine Cm (ro:=none) (k:=0) (nA JZ qE (Ag (iC (iZ (P:=P) (H0:=hp o nx) (b:=nx) (cx:=⟨[],true⟩) (ro:=none) (fun id hu=>hu) (fun h=>by cases h) ca _ s0 φ a0 w ha gH) ?_)))
 rintro e a1 w1 ⟨x,s1,jG,hq,yn,hm⟩
 cases e<;>cases x<;>first|(exact hm.elim)|(exact hq.elim)|skip
 have vB:a1.defers=[]:=by
  obtain⟨ms,g1,_,g3,_⟩:=yn.defers
  rw[g3 rfl]at g1;exact g1
 let cv:Array Value:=(fP.map a1.eval).toArray
 let fv:Value:= .func (.func g) #[] cv
 let dd:Deferred:={target:= .fn (.func g) cv,args:=#[]}
 let a2:Act:={tmps:=a1.tmps.setIfInBounds t fv,defers:=[dd]}
 have TI:V.aM (ay M jG s1.H) jG s1.H w1 (fP.map s1.ev) cv.toList:=by
  simpa[cv]using kW (M:=M) (φ:=jG) (H:=s1.H) (w:=w1) s1 a1 yn.env fP
 refine C2 hsc (fun l a w h=> ?_) ?_
 ·exact h.elim
 refine Ag (iC (Q:=fun e a w=>e= .normal/\a=a2/\w=w1) (pF (k:=0) (wpIn_region_list ?_)) ?_)
 ·have y1:Region.wanted o1 (yielded #[o1,o2] a1.tmps)=true:=by simp[Region.wanted,e3]
  have y2:∀tm,Region.wanted o2 (yielded #[o1,o2] tm)=true:=by intro tm;simp[Region.wanted,e6]
  have dM:(a1.put (some t) fv).eval (.tmp t)=fv:=by
   have:t<a1.tmps.size:=by rw[yn.size];exact ht
   simp[Act.put,Act.eval,Array.getD,this]
  show wpListIn (ey none) 0 P #[o1,o2] _ [o1,o2] a1 w1
  unfold wpListIn
  rw[if_pos y1]
  have x1:(execOp a1.eval o1).run P w1= .ok (.value fv) w1:=by simp[execOp,e1,fv,cv,Instr.makeFunc]
  refine la (fun c hc=>by rw[e1]at hc;cases hc) ?_
  rw[x1]
  show wpListIn (ey none) 0 P #[o1,o2] _ [o2] (a1.put o1.dst fv) w1
  rw[e2]
  unfold wpListIn
  rw[if_pos (y2 _)]
  have x2:(execOp (a1.put (some t) fv).eval o2).run P w1= .ok (.defer dd) w1:=by
   simp[execOp,e4,resolve,dM,Deferred.ofValue,fv,dd]
  refine⟨fun _ _=>trivial, ?_⟩
  have:(o2.semAt (ey none).round (a1.put (some t) fv).eval)=execOp (a1.put (some t) fv).eval o2:=rfl
  rw[this,x2]
  unfold Oper.uponIn
  simp only[e5,wpListIn,Act.put,vB,a2,and_self]
 rintro e a w2 ⟨rfl,rfl,rfl⟩
 have Ec:t<a1.tmps.size:=by rw[yn.size];exact ht
 let s2:S:=⟨aK s1.env t (.func (.func g) [] (fP.map s1.ev)),s1.o,s1.nx⟩
 have OL:cu M jG s1.H w2 n ⟨[dd],false⟩ jG s2 a2 w2:=by
  refine⟨yn.heap,Trans.refl _ _ _,by simp[a2,yn.size],⟨[],rfl,List.nodup_nil,fun _=>rfl,fun r hr=>by cases hr⟩,fun i=> ?_⟩
  simp only[s2,a2,aQ]
  by_cases h1:i=t
  ·subst h1
   have:(a1.tmps.setIfInBounds i fv).getD i undef=fv:=by simp[Array.getD,Ec]
   simp only[if_true];rw[this]
   exact⟨#[],cv,rfl,rfl,TI⟩
  ·have:(a1.tmps.setIfInBounds t fv).getD i undef=a1.tmps.getD i undef:=by
    exact Sy
   simp only[h1,if_false];rw[this]
   exact yn.env i
 have hb:=jf (P:=P) (n:=n) (b:=s1.nx) (rd:=false) bB cb _ _ s2 (fun _ _ h=>h) (by rw[hlb];exact hq)
 refine iC (iZ (P:=P) (H0:=s1.H) (b:=s1.nx) (cx:=⟨[dd],false⟩) (ro:=none) (fun id hu=>hu) (fun _=>rfl) cb _ s2 jG a2 w2 hb OL) ?_
 rintro e a3 w3 ⟨x,s3,φ3,hq3,Gw,xe⟩
 obtain⟨ms,g1,g2,_,g4⟩:=Gw.defers
 have hinv:(invoke dd.target dd.args).run P=fun w=> .ok (.enter g cv) w:=by
  funext w
  have:=lU (w:=w) ⟨gn,hgn,Xt,by rw[Xu];rfl⟩ cv
  simpa[dd,invoke]using this
 have last:∀ {w4:World} {tm:Array Value} {u:V} {val:Value} {m0:FrameMode},m0≠ .run->Ai M jG s1.H w2 φ3 s3 a3.tmps w4->V.den (ay M φ3 s3.H) φ3 s3.H w4 u val->
  ((m0= .returning/\val= .nilIface)\/m0= .panicking [{v:=val,recovered:=false}])->
  (Fa P m r r1 yG (fP.map s1.ev) u s3.o s3.nx fun o nx=>my P rs K X .ret ⟨s3.env,o,nx⟩)->
  LeavesInM (ey none) 0 P fn a3.tmps (ns M φ (hp o nx) w K X) [dd] m0 w4:=by
  intro w4 tm u val m0 fM hB Px hm0 bL
  have Xv:=V.aY hB.tr _ _ TI
  refine⟨fM, .inr ⟨fun h=>by simp[ey]at h, .func g,cv,g,cv,rfl,by rw[hinv],fun _ _=>trivial,CallsDIn.mono (IZ (k:=0 - 1) bB hg bL (m:=m0) hB.heap Xv Px hm0) ?_⟩⟩
  rintro e u' w5 ⟨v,φ5,o5,nx5,rfl,AF,k1,k2,k3⟩
  show LeavesInM (ey none) 0 P fn a3.tmps (ns M φ (hp o nx) w K X) [] (settle u') w5
  rw[AF]
  obtain⟨vs,h1,h2⟩:=Ct k3
  rw[<- Cr]at h1
  have acG:∀i,V.den (ay M φ5 (hp o5 nx5)) φ5 (hp o5 nx5) w5 (s3.env i) (a3.tmps.getD i undef):=fun i=>V.aW k2 _ _ (hB.env i)
  obtain⟨ahf,h3,h4⟩:=um (P:=P) (s:=⟨s3.env,o5,nx5⟩) (a:=a3) k1 acG _ _ h1
  exact⟨_,nz h3,φ5,o5,nx5,_,k1,yn.tr.trans (hB.tr.trans k2),Cu h4,h2⟩
 have done:Fa P m r r1 yG (fP.map s1.ev) (.d .fI) s3.o s3.nx (fun o nx=>my P rs K X .ret ⟨s3.env,o,nx⟩)->LeavesInM (ey none) 0 P fn a3.tmps (ns M φ (hp o nx) w K X) a3.defers .returning w3:=by
  intro bL
  rw[g1]
  exact iD (P:=P) (k:=0) (fn:=fn) (R:=ns M φ (hp o nx) w K X) (u:= .returning) ao (ds:=[dd]) (fun w4 hB=>last (tm:=a3.tmps) ao hB (u:= .d .fI) (val:= .nilIface) (by simp[V.den,D.den]) (.inl ⟨rfl,rfl⟩) bL) ms w3 g2 g4 Gw.toB
 cases e<;>cases x<;>first|(exact xe.elim)|skip
 ·exact done hq3
 ·exact hq3.elim
 ·exact done hq3
 ·rename_i v
  obtain⟨val,rfl,hd'⟩:=xe
  show LeavesInM (ey none) 0 P fn a3.tmps (ns M φ (hp o nx) w K X) a3.defers _ w3
  rw[g1]
  let acH:Nat->V:=fun i=>match i with|0=>v|i+1=>s3.env i
  have acI:(#[val]++a3.tmps).getD 0 undef=val:=by simp[Array.getD]
  have acJ:∀i,(#[val]++a3.tmps).getD (i+1) undef=a3.tmps.getD i undef:=by
   intro i
   simp only[Array.getD_eq_getD_getElem?]
   rw[Array.getElem?_append_right (by simp)]
   simp
  have OM:Ai M jG s1.H w2 φ3 ⟨acH,s3.o,s3.nx⟩ (#[val]++a3.tmps) w3:=⟨Gw.heap,Gw.tr,fun i=>by
   cases i with
   |zero=>rw[acI];exact hd'
   |succ i=>rw[acJ];exact Gw.env i⟩
  have acK:∀w4,Ai M jG s1.H w2 φ3 ⟨acH,s3.o,s3.nx⟩ (#[val]++a3.tmps) w4->LeavesInM (ey none) 0 P fn a3.tmps (ns M φ (hp o nx) w K X) [dd] (.panicking [{v:=val,recovered:=false}]) w4:=by
   intro w4 hB
   have hv4:=hB.env 0
   rw[acI]at hv4
   refine last (tm:=a3.tmps) ao ⟨hB.heap,hB.tr,fun i=> ?_⟩ hv4 (.inr rfl) hq3
   have hs:=hB.env (i+1)
   rw[acJ]at hs
   exact hs
  exact iD (P:=P) (k:=0) (fn:=fn) (R:=ns M φ (hp o nx) w K X) (u:= .panicking [{v:=val,recovered:=false}]) ao (ds:=[dd]) acK ms w3 g2 g4 OM
end
end
theorem yq.Fb {P:Program}{g:FuncId}{ds:List D}{o:Nat->ab}{fr:Nat}{ty:TypeId}{sz:Nat}{es:List D}
 (h:cK P g (ds.map .d) (fun _=> .no) 0 (fun v o1 _=>(∃j ep,v= .osl j ep/\o1 j= .arr ep ty sz es)\/(v= .br/\es=[]/\0<sz)) (fun _ _ _=>False)):
 yq P g (ds.map .d) [] o fr (.osl fr 0) [(fr, .arr 0 ty sz es)]:=by
 refine⟨h.1,fun o' us M φ w vals _ dE hH hd=> ?_⟩
 let cN:Place:=fun _=> .nilFunc
 have xh:∀b, ¬df cN (hp (fun _=> .no) 0) b:=by rintro b ⟨id,hl,_⟩;simp[hp,ab.live]at hl
 have hM:∀b,ay M φ ⟨o',us⟩ b->b<w.heap.size:=fun b hb=>hb.elim (hH.Br b) fun hl=>(hH.ours b hl).2
 have xZ:=(V.cD _ _).1 hd
 refine(h.2 (ay M φ ⟨o',us⟩) cN w vals (lV cN hM) ((V.cD _ _).2 (D.aY (w:=w) (w':=w) (B:=ay M φ ⟨o',us⟩) (fun b _ hB=>⟨rfl,fun h=>h.elim hB (xh b)⟩) _ _ xZ))).mono ?_
 rintro e w' ⟨jG,o1,n1,v,k1,k2,k3⟩
 have hk:eT (fun _=>False) w w':=⟨k2.keep.os,k2.keep.tape,k2.keep.output,k2.keep.size,fun k hk _=>k2.keep.block k hk (xh k)⟩
 have J3:(⟨o',us⟩:Hp).put [(fr, .arr 0 ty sz es)]=⟨put o' [(fr, .arr 0 ty sz es)],fun id=>us id\/id=fr⟩:=by
  simp only[Hp.put]
  congr 1
  funext id
  simp
 have fin:∀ (val:Value) (xs:List Value),(∀b,eW val=some b->w.heap.size<=b/\b<w'.heap.size)->0<sz->w'.ownsRow 0 ty sz val es.length xs->
  (gL (ay M (aK φ fr val) ((⟨o',us⟩:Hp).put [(fr, .arr 0 ty sz es)])) w' sz es xs)->
  val.oneCell'=true->
  ∃aN,aE M aN ⟨put o' [(fr, .arr 0 ty sz es)],fun id=>us id\/id=fr⟩ w'/\Trans φ ⟨o',us⟩ w aN ⟨put o' [(fr, .arr 0 ty sz es)],fun id=>us id\/id=fr⟩ w'/\
   ∃Mm,Ending.returned val= .returned Mm/\V.den (ay M aN ⟨put o' [(fr, .arr 0 ty sz es)],fun id=>us id\/id=fr⟩) aN ⟨put o' [(fr, .arr 0 ty sz es)],fun id=>us id\/id=fr⟩ w' (.osl fr 0) Mm:=by
  intro val xs ko eu eI cq Xw
  have qD:=jz hH hk dE (.arr 0 ty sz es) val ko (by
   unfold aX
   rw[show((⟨o',us⟩:Hp).put [(fr, .arr 0 ty sz es)]).o fr= .arr 0 ty sz es by simp]
   refine⟨eu,xs, ?_,cq⟩
   rw[show aK φ fr val fr=val by simp]
   exact eI)
  have TJ:=eY (φ:=φ) (H:=⟨o',us⟩) hk dE (.arr 0 ty sz es) val (fun b hb=>(ko b hb).1)
  rw[J3]at qD TJ
  refine⟨aK φ fr val,qD,TJ,val,rfl,Xw, .inr rfl,fun e he=> ?_⟩
  have pZ:0=e:=by
   have:(put o' [(fr,ab.arr 0 ty sz es)] fr).cA=some 0:=by simp[put,ab.cA]
   exact RQ
  exact⟨ah,fun _=>ao⟩
 cases e with
 |outgrown=>exact k3.elim
 |panicked ch=>obtain⟨_,_,_,h⟩:=k3;exact h.elim
 |returned val=>
  obtain⟨g1,⟨j,ep,rfl,hj⟩|⟨rfl,rfl,eu⟩⟩:=k3
  ·obtain⟨v0,v1,v2⟩:=g1
   have gu:val=jG j:=(v2 ep (by show(o1 j).cA=some ep;rw[hj];rfl)).2 rfl
   have c0:∀b,eW val=some b->df jG (hp o1 n1) b:=fun b hb=>⟨j,by show(o1 j).live=true;rw[hj];rfl,by rw[<- gu];exact hb⟩
   have ko:∀b,eW val=some b->w.heap.size<=b/\b<w'.heap.size:=fun b hb=>⟨(k2.grow b (c0 b hb)).resolve_left (xh b),(k1.ours b (c0 b hb)).2⟩
   have Mn:=k1.ok j
   unfold aX at Mn
   rw[show(hp o1 n1).o j= .arr ep ty sz es from hj]at Mn
   obtain⟨eu,xs,eI,cq⟩:=Mn
   have hBs:∀b,ay M (aK φ fr val) ((⟨o',us⟩:Hp).put [(fr, .arr 0 ty sz es)]) b->ay (ay M φ ⟨o',us⟩) jG (hp o1 n1) b:=by
    rintro b (hb|⟨id,hl,hb⟩)
    ·exact .inl (.inl hb)
    ·by_cases e:id=fr
     ·subst e
      simp at hb
      exact .inr (c0 b hb)
     ·simp[e]at hl hb
      exact .inl (.inr ⟨id,hl,hb⟩)
   exact fin val xs ko eu (by rw[gu];exact eI) (cq.mono (w:=w') (w':=w') (fun b _ hB=>⟨rfl,fun h=>hB (hBs b h)⟩)) v0
  ·have g1:val= .slice none 0 0:=g1
   subst g1
   exact abg
theorem yq.P9 {P:Program}{g:FuncId}{args:List V}{ds:List D}{o:Nat->ab}{fr:Nat}{ty:TypeId}{sz:Nat}{es:List D}
 (fG:ct o args=some ds) (rD:D.ku es=true) (h:cK P g (ds.map .d) (fun _=> .no) 0 (fun v o1 _=>(∃j ep,v= .osl j ep/\o1 j= .arr ep ty sz es)\/(v= .br/\es=[]/\0<sz)) (fun _ _ _=>False)):
 yq P g args (V.bD args) o fr (.osl fr 0) [(fr, .arr 0 ty sz es)]:=by
 refine⟨h.1,fun o' us M φ w vals hag dE hH hd=> ?_⟩
 obtain⟨f1,f2,f3,f4,f5⟩:=dx hH (V.bD args) (fun id aC=>(hag id aC).2)
 generalize hHF:(⟨o',us⟩:Hp).put (dk (⟨o',us⟩:Hp).o (V.bD args))=HF at f1 f2 f3
 let cN:Place:=fun _=> .nilFunc
 have xh:∀b, ¬df cN (hp (fun _=> .no) 0) b:=by rintro b ⟨id,hl,_⟩;simp[hp,ab.live]at hl
 have hM:∀b,ay M φ HF b->b<w.heap.size:=fun b hb=>hb.elim (f1.Br b) fun hl=>(f1.ours b hl).2
 have xZ:D.aM (ay M φ HF) w ds vals.toList:=dJ f1 args ds _ (fun id aC=>by rw[f3 id aC];show(o' id).fz=(o id).fz;rw[(hag id aC).1]) fG (V.aY f2 _ _ hd)
 refine(h.2 (ay M φ HF) cN w vals (lV cN hM) ((V.cD _ _).2 (D.aY (w:=w) (w':=w) (B:=ay M φ HF) (fun b _ hB=>⟨rfl,fun h=>h.elim hB (xh b)⟩) _ _ xZ))).mono ?_
 rintro e w' ⟨jG,o1,n1,v,k1,k2,k3⟩
 have hk:eT (fun _=>False) w w':=⟨k2.keep.os,k2.keep.tape,k2.keep.output,k2.keep.size,fun k hk _=>k2.keep.block k hk (xh k)⟩
 have J3:(⟨o',us⟩:Hp).put [(fr, .arr 0 ty sz es)]=⟨put o' [(fr, .arr 0 ty sz es)],fun id=>us id\/id=fr⟩:=by
  simp only[Hp.put]
  congr 1
  funext id
  simp
 have fin:∀ (val:Value) (xs:List Value),(∀b,eW val=some b->w.heap.size<=b/\b<w'.heap.size)->0<sz->w'.ownsRow 0 ty sz val es.length xs->
  (gL (ay M (aK φ fr val) ((⟨o',us⟩:Hp).put [(fr, .arr 0 ty sz es)])) w' sz es xs)->
  val.oneCell'=true->
  ∃aN,aE M aN ⟨put o' [(fr, .arr 0 ty sz es)],fun id=>us id\/id=fr⟩ w'/\Trans φ ⟨o',us⟩ w aN ⟨put o' [(fr, .arr 0 ty sz es)],fun id=>us id\/id=fr⟩ w'/\
   ∃Mm,Ending.returned val= .returned Mm/\V.den (ay M aN ⟨put o' [(fr, .arr 0 ty sz es)],fun id=>us id\/id=fr⟩) aN ⟨put o' [(fr, .arr 0 ty sz es)],fun id=>us id\/id=fr⟩ w' (.osl fr 0) Mm:=by
  intro val xs ko eu eI cq Xw
  have qD:=jz hH hk dE (.arr 0 ty sz es) val ko (by
   unfold aX
   rw[show((⟨o',us⟩:Hp).put [(fr, .arr 0 ty sz es)]).o fr= .arr 0 ty sz es by simp]
   refine⟨eu,xs, ?_,cq⟩
   rw[show aK φ fr val fr=val by simp]
   exact eI)
  have TJ:=eY (φ:=φ) (H:=⟨o',us⟩) hk dE (.arr 0 ty sz es) val (fun b hb=>(ko b hb).1)
  rw[J3]at qD TJ
  refine⟨aK φ fr val,qD,TJ,val,rfl,Xw, .inr rfl,fun e he=> ?_⟩
  have pZ:0=e:=by
   have:(put o' [(fr,ab.arr 0 ty sz es)] fr).cA=some 0:=by simp[put,ab.cA]
   exact RQ
  exact⟨ah,fun _=>ao⟩
 cases e with
 |outgrown=>exact k3.elim
 |panicked ch=>obtain⟨_,_,_,h⟩:=k3;exact h.elim
 |returned val=>
  obtain⟨g1,⟨j,ep,rfl,hj⟩|⟨rfl,rfl,eu⟩⟩:=k3
  ·obtain⟨v0,v1,v2⟩:=g1
   have gu:val=jG j:=(v2 ep (by show(o1 j).cA=some ep;rw[hj];rfl)).2 rfl
   have c0:∀b,eW val=some b->df jG (hp o1 n1) b:=fun b hb=>⟨j,by show(o1 j).live=true;rw[hj];rfl,by rw[<- gu];exact hb⟩
   have ko:∀b,eW val=some b->w.heap.size<=b/\b<w'.heap.size:=fun b hb=>⟨(k2.grow b (c0 b hb)).resolve_left (xh b),(k1.ours b (c0 b hb)).2⟩
   have Mn:=k1.ok j
   unfold aX at Mn
   rw[show(hp o1 n1).o j= .arr ep ty sz es from hj]at Mn
   obtain⟨eu,xs,eI,cq⟩:=Mn
   obtain⟨evs,e1,e2,e3⟩:=cq
   exact fin val xs ko eu (by rw[gu];exact eI) ⟨evs,e1,e2,D.mn _ _ rD e3⟩ v0
  ·have g1:val= .slice none 0 0:=g1
   subst g1
   exact abg
theorem yq.Qa {P:Program}{g:FuncId}{args:List V}{ds:List D}{o0 o:Nat->ab}{rd:List Nat}{fr:Nat}{v:V}{Δ:List (Nat×ab)}(aC:V.bD args=[])(fG:ct o0 args=some ds)
 (h:yq P g (ds.map .d) rd o fr v Δ):yq P g args rd o fr v Δ:=
 ⟨h.1,fun o' us M φ w vals h1 h2 hH hd=>h.2 o' us M φ w vals h1 h2 hH ((V.cD _ _).2 (dJ hH args ds _ (by rw[aC];intro id h;cases h) fG hd))⟩
def TK(P:Program)(f:FuncId):Prop:=
 Enters P f/\∀ (w:World) (b:Nat) (es:Array MapEntry) (clock:Nat),w.heap[b]? =some (.map es clock)->
  Calls P f #[.map (some b)] w fun e w'=>e= .returned (.map (some w.heap.size))/\w'=w.alloc (.map es clock)
theorem cK.Xx {P:Program}{f:FuncId}(h:TK P f){o:Nat->ab}{nx id:Nat}{kt vt:TypeId}{l:List (D×D)}(ho:o id= .map kt vt l){K X:V->(Nat->ab)->Nat->Prop}
 (hK:K (.mp nx) (aK o nx (.map kt vt l)) (nx+1)):cK P f [.mp id] o nx K X:=by
 refine⟨h.1,fun M φ w vals hH hd=> ?_⟩
 have hlen:=V.aJ _ _ hd
 obtain⟨v,rfl⟩:∃v,vals=#[v]:=by
  match vals,hlen with
  |⟨[v]⟩,_=>exact⟨v,rfl⟩
 obtain⟨v',tL,Px⟩:=V.ec _ _ 0 (.mp id) hd rfl
 simp only[List.getElem?_cons_zero,Option.some.injEq]at tL
 subst tL
 have bn:=hH.ok id
 have BB:(hp o nx).o id= .map kt vt l:=ho
 simp only[aX,BB]at bn
 obtain⟨b,es,clock,e1,e2,e3,e4⟩:=bn
 have hv:v=φ id:=Px.2.2 (by rw[BB];rfl)
 rw[hv,e1]
 refine(h.2 w b es clock e2).mono fun e w' ⟨he,hw⟩=> ?_
 subst he;subst hw
 have dE: ¬ (hp o nx).us nx:=fun h=>Nat.lt_irrefl _ h
 have J3:(hp o nx).put [(nx, .map kt vt l)]=hp (aK o nx (.map kt vt l)) (nx+1):=by
  simp only[Hp.put,hp]
  congr 1
  funext j
  simp only[List.map_cons,List.map_nil,List.mem_singleton,eq_iff_iff]
  omega
 have hvb:∀c,eW (.map (some w.heap.size))=some c->w.heap.size<=c/\c<(w.alloc (.map es clock)).heap.size:=by
  intro c hc;simp[eW]at hc;subst hc;simp
 have ht:=eY (φ:=φ) (H:=hp o nx) (cO w (.map es clock)) dE (.map kt vt l) (.map (some w.heap.size)) fun c hc=>(hvb c hc).1
 refine⟨aK φ nx (.map (some w.heap.size)),aK o nx (.map kt vt l),nx+1, .mp nx, ?_, ?_, ?_,hK⟩
 ·rw[<- J3]
  refine jz hH (cO w _) dE _ _ hvb ?_
  unfold aX
  simp only[bT,aQ,if_true]
  exact⟨w.heap.size,es,clock,rfl,heap_alloc_new w _,e3,aT.mono (ht.blocks (M:=M)) l _ e4⟩
 ·rw[<- J3];exact ht
 ·rw[<- J3];exact⟨rfl,ao,fun _=>ao⟩
end Go.Proofs.YtonbelhklnmjnaaGreat
