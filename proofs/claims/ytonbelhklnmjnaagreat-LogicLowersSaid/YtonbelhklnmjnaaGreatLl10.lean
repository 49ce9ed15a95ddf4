/-
  A PART OF THE PROOF. Conditions: none.
-/
import Derived.Test.YtonbelhklnmjnaaGreatLl9
set_option linter.unusedSimpArgs false
set_option linter.unusedVariables false
namespace Go.Proofs.YtonbelhklnmjnaaGreat
structure Good (o:Nat->ab) (nx:Nat):Prop where
 fresh:∀id,nx<=id->o id= .no
 refs:∀id,∀r∈(o id).refs,r<nx
theorem Good.nil {nx:Nat}:Good (fun _=> .no) nx:=⟨fun _ _=>rfl,fun id r h=>by cases h⟩
theorem Good.aM {o:Nat->ab}{nx i:Nat}{x:ab}(h:Good o nx)(hi:i<nx)(hx:x.refs.all (fun r=>decide (r<nx))=true):Good (aM o i x) nx:=by
 refine⟨fun id aG=> ?_,fun id r hr=> ?_⟩
 ·rw[ak _ _ _ _ (by omega)];exact h.fresh id aG
 ·by_cases e:id=i
  ·subst e
   rw[ae]at hr
   simpa using List.all_eq_true.1 hx r hr
  ·rw[ak _ _ _ _ e]at hr
   exact h.refs id r hr
theorem Good.mono {o:Nat->ab}{nx m:Nat}(h:Good o nx)(hm:nx<=m):Good o m:=⟨fun id aG=>h.fresh id af,fun id r hr=>Nat.lt_of_lt_of_le (h.refs id r hr) hm⟩
theorem Good.lt {o:Nat->ab}{nx id:Nat}(h:Good o nx)(hn:o id≠ .no):id<nx:=by
 rcases Nat.lt_or_ge id nx with hl|hl
 ·exact hl
 ·exact absurd (h.fresh id hl) hn
theorem V.yA:∀ (l:List V) (i:Nat),∀r∈(br l i).refs,r∈V.aO l
 |[],i,r,h=>by rw[rC]at h;cases h
 |v::l,0,r,h=>by rw[oW]at h;simp only[V.aO,List.mem_append];exact .inl h
 |v::l,i+1,r,h=>by rw[oX]at h;simp only[V.aO,List.mem_append];exact .inr (V.yA l i r h)
theorem bM.back {b:Nat}{s:S}{env:Nat->V}{o:Nat->ab}{nx:Nat}(hb:b<=nx)(hn:nx<=s.nx)(hg:Good o nx)(ho:∀id,id<nx->s.o id=o id)
 (he:∀i,env i= .aa\/(env i=s.env i/\∀r∈(env i).refs,r<nx)):bM b s ⟨env,o,nx⟩:=by
 intro M φ w tm hH hd
 have dm:∀k,dt φ (hp o nx) k->dt φ s.H k:=by
  rintro k ⟨id,h1,h2⟩
  have aG:id<nx:=hg.lt (fun e=>by simp only[hp]at h1;rw[e]at h1;cases h1)
  exact⟨id,by simp only[S.H];rw[ho id aG];exact h1,h2⟩
 have hB:∀k, ¬aA M φ s.H k-> ¬aA M φ (hp o nx) k:=fun k h h'=>h (h'.imp id (dm k))
 have gG:∀ (v:V) (val:Value),(∀r∈v.refs,r<nx)->V.den (aA M φ s.H) φ s.H w v val->V.den (aA M φ (hp o nx)) φ (hp o nx) w v val:=fun v val hr h=>
  V.nV (H:=s.H) (H':=hp o nx) hB v val (fun id aG=>⟨(ho id (hr id aG)).symm,rfl,hr id aG⟩) h
 have qJ:∀ (v:List V) (val:List Value),(∀r∈V.aO v,r<nx)->V.aP (aA M φ s.H) φ s.H w v val->V.aP (aA M φ (hp o nx)) φ (hp o nx) w v val:=fun v val hr h=>
  V.iy (H:=s.H) (H':=hp o nx) hB v val (fun id aG=>⟨(ho id (hr id aG)).symm,rfl,hr id aG⟩) h
 refine⟨φ,⟨fun id=> ?_,fun id hu=>hg.fresh id (by simpa[S.H]using hu),fun i j k h1 h2 h3 h4=> ?_,fun k hk=>hH.ours k (dm k hk),hH.B9⟩,fun i=> ?_,dm,hb,fun id aG hr=> ?_,fun id e' aG qz=> ?_⟩
 ·have bH:=hH.ok id
  have hrefs:=hg.refs id
  unfold bf at bH|-
  by_cases aG:id<nx
  ·have e:s.H.o id=o id:=ho id aG
   rw[e]at bH
   simp only[S.H]at bH|-
   cases hx:o id with
   |no=>trivial
   |row cs=>
    simp only[hx]at bH hrefs|-
    exact T2
   |arr ep ty sz es=>
    simp only[hx]at bH|-
    obtain⟨k1,xs,k2,evs,k3,k4,k5⟩:=bH
    exact S5
   |sF ep es=>
    simp only[hx]at bH|-
    exact Qw
   |map kt vt es=>
    simp only[hx]at bH|-
    obtain⟨b,es',clock,k1,k2,k4,k3⟩:=bH
    exact acW
   |jf l=>
    simp only[hx]at bH|-
    exact Qw
   |nD l last=>
    simp only[hx]at bH|-
    obtain⟨b,k1,k2⟩:=bH
    exact Tj
   |AK s pos=>
    simp only[hx]at bH|-
    exact bH
   |loop nf n env ps a b st pd=>
    simp only[hx]at bH hrefs|-
    exact Uq
  ·simp only[S.H]
   rw[hg.fresh id (by omega)]
   trivial
 ·have hi:i<nx:=hg.lt (fun e=>by simp only[S.H]at h1;rw[e]at h1;cases h1)
  have hj:j<nx:=hg.lt (fun e=>by simp only[S.H]at h2;rw[e]at h2;cases h2)
  exact hH.apart i j k (by simp only[S.H];rw[ho i hi];exact h1) (by simp only[S.H];rw[ho j hj];exact h2) h3 h4
 ·rcases he i with h|⟨h1,h2⟩
  ·simp only[h];trivial
  ·have:=hd i
   rw[<- h1]at this
   exact gG _ _ h2 this
 ·have cD:id<nx:=af
  exact⟨by rw[ho id cD];exact hr,rfl⟩
 ·have cD:id<nx:=af
  exact⟨e',by rw[ho id cD];exact qz,Nat.le_refl _,fun _=>rfl⟩
def kS(nx:Nat)(env:Nat->V):List V->Nat->Prop
 |[],_=>True
 |v::l,i=>(v= .aa\/(v=env i/\∀r∈v.refs,r<nx))/\kS nx env l (i+1)
theorem bM.b9 {b:Nat}{e:Nat->V}{so:Nat->ab}{m:Nat}(l:List V){o:Nat->ab}{nx:Nat}(hb:b<=nx)(hn:nx<=m)(hg:Good o nx)(ho:∀id,id<nx->so id=o id)(he:kS nx e l 0):bM b ⟨e,so,m⟩ ⟨br l,o,nx⟩:=by
 refine bM.back hb hn hg ho ?_
 have key:∀ (l:List V) (i:Nat),kS nx e l i->∀j,br l j= .aa\/(br l j=e (i+j)/\∀r∈(br l j).refs,r<nx):=by
  intro l
  induction l with
  |nil=>intro i _ j;rw[rC];exact .inl rfl
  |cons v l ih=>
   intro i h j
   cases j with
   |zero=>rw[oW];exact h.1
   |succ j=>
    rw[oX]
    have:=ih (i+1) h.2 j
    rwa [show i+1+j=i+(j+1) by omega]at this
 intro i
 have:=key l 0 he i
 rwa [Nat.zero_add]at this
theorem yr{nx:Nat}{env:Nat->V}{i:Nat}:kS nx env [] i:=trivial
theorem vg{nx:Nat}{env:Nat->V}{l:List V}{i:Nat}(h:kS nx env l (i+1)):kS nx env (.aa::l) i:=⟨.inl rfl,h⟩
theorem qB{nx:Nat}{env:Nat->V}{l:List V}{i:Nat}{x:D}(he:env i= .d x)(h:kS nx env l (i+1)):kS nx env (.d x::l) i:=⟨.inr ⟨he.symm,fun r hr=>by simp[V.refs]at hr⟩,h⟩
theorem AA{nx:Nat}{env:Nat->V}{l:List V}{i:Nat}{v:V}(he:env i=v)(hr:∀r∈v.refs,r<nx)(h:kS nx env l (i+1)):kS nx env (v::l) i:=⟨.inr ⟨he.symm,hr⟩,h⟩
theorem bM.d0 {e:Nat->V}{so:Nat->ab}{m:Nat}(l:List V)(he:kS 0 e l 0):bM 0 ⟨e,so,m⟩ ⟨br l,fun _=> .no,0⟩:=bM.b9 l (Nat.le_refl 0) (Nat.zero_le _) Good.nil (fun _ h=>absurd h (Nat.not_lt_zero _)) he
theorem Ls{k:Nat}(h:(k:Int)+1<=9223372036854775807):IntKind.i64.wrap ((k:Int)+1)=((k+1:Nat):Int):=by rw[wrap64 (by omega) h];rfl
theorem Lr{k:IntKind}{a b:Int}(h:a=b):V.d (D.int k a)=V.d (D.int k b):=by rw[h]
theorem DH{P:Program}{g:FuncId}{K:KD}{X:XD}{o:Nat->ab}{nx fr:Nat}{all:List V}{rd:List Nat}{rs:List D}{Δ:List (Nat×ab)}(pw:rd.all (fun id=>decide (id<nx))=true)(h:Hy P g all rd o (.ret rs) Δ)(hk:K (ke rs) Δ rd):sZ P g K X o nx fr all:=by
 unfold sZ
 exact⟨rd,Δ,pw, .inl ⟨rs,h,hk⟩⟩
abbrev D.i (n:Int):D:= .int .i64 n
structure ki where
 name:List UInt8
 args:Int
structure aV where
 cons:List ki
 bR:List ki
inductive Tm where
 |mk (op n:Int) (kids:List Tm)
 deriving Inhabited
structure TB where
 var:Int
 term:Tm
def Tm.op:Tm->Int| .mk op _ _=>op
def Tm.n:Tm->Int| .mk _ n _=>n
def Tm.kids:Tm->List Tm| .mk _ _ l=>l
theorem Tm.eta (t:Tm):Tm.mk t.op t.n t.kids=t:=by cases t;rfl
theorem Tm.ind {P:Tm->Prop}(h:∀op n kids,(∀k∈kids,P k)->P (.mk op n kids)):∀t,P t:=
 fun t=>Tm.rec (motive_1:=P) (motive_2:=fun l=>∀k∈l,P k) (fun op n kids ih=>h op n kids ih) (fun _ h=>by cases h)
  (fun x l hx hl k hk=>(List.mem_cons.1 hk).elim (fun e=>e ▸ hx) (hl k)) t
mutual
def Tm.d:Tm->D
 | .mk op n kids=> .agg [.i op, .i n, .sl (Tm.ds kids)]
def Tm.ds:List Tm->List D
 |[]=>[]
 |t::l=>t.d::Tm.ds l
end
theorem Tm.s7:∀l:List Tm,Tm.ds l=l.map Tm.d
 |[]=>rfl
 |t::l=>by simp[Tm.ds,Tm.s7 l]
theorem Tm.F0 (t:Tm):t.d= .agg [.i t.op, .i t.n, .sl (t.kids.map Tm.d)]:=by cases t;simp[Tm.d,Tm.s7,Tm.op,Tm.n,Tm.kids]
@[go_sem] theorem Tm.YU (t:Tm):D.agg [.i t.op, .i t.n, .sl (t.kids.map Tm.d)]=t.d:=(Tm.F0 t).symm
@[go_sem] theorem Tm.Rs (t:Tm):D.cells t.d=[.i t.op, .i t.n, .sl (t.kids.map Tm.d)]:=by rw[Tm.F0];rfl
theorem Tm.cc {P:Tm->Prop}(h:∀t:Tm,(∀k∈t.kids,P k)->P t):∀t,P t:=Tm.ind fun op n kids ih=>h (.mk op n kids) ih
theorem Tm.jS (op n:Int)(l:List Tm):(Tm.mk op n l).d= .agg [.i op, .i n, .sl (l.map Tm.d)]:=by simp[Tm.d,Tm.s7]
@[reducible] def ki.d (x:ki):D:= .agg [.str x.name, .i x.args]
@[reducible] def aV.d (s:aV):D:= .agg [.sl (s.cons.map ki.d), .sl (s.bR.map ki.d)]
@[reducible] def TB.d (b:TB):D:= .agg [.i b.var, .i b.term.op, .i b.term.n, .sl (b.term.kids.map Tm.d)]
mutual
def Tm.fits:Tm->Prop
 | .mk _ _ kids=>kids.length<=9223372036854775807/\Tm.j7 kids
def Tm.j7:List Tm->Prop
 |[]=>True
 |t::l=>t.fits/\Tm.j7 l
end
theorem Tm.mf:∀l:List Tm,Tm.j7 l↔∀k∈l,k.fits
 |[]=>by simp[Tm.j7]
 |t::l=>by simp[Tm.j7,Tm.mf l]
theorem Tm.aF (t:Tm):t.fits↔t.kids.length<=9223372036854775807/\∀k∈t.kids,k.fits:=by cases t;simp[Tm.fits,Tm.mf,Tm.kids]
mutual
def Tm.fR:Tm->Nat
 | .mk _ _ kids=>1+Tm.dN kids
def Tm.dN:List Tm->Nat
 |[]=>0
 |k::l=>Nat.max k.fR (Tm.dN l)
end
theorem Tm.mg:∀ {l:List Tm} {k:Tm},k∈l->k.fR<=Tm.dN l
 |x::l,k,h=>by
  simp only[Tm.dN]
  rcases List.mem_cons.1 h with rfl|h
  ·exact Nat.le_max_left _ _
  ·exact Nat.le_trans (Tm.mg h) (Nat.le_max_right _ _)
theorem Tm.rD {t k:Tm}(h:k∈t.kids):k.fR+1<=t.fR:=by
 cases t;simp only[Tm.kids]at h;simp only[Tm.fR];have:=Tm.mg h;omega
mutual
def pre:Tm->Int->List (Tm×Int)
 | .mk op n kids,d=>(.mk op n kids,d)::Rt kids (d+1)
def Rt:List Tm->Int->List (Tm×Int)
 |[],_=>[]
 |k::l,d=>pre k d++Rt l d
end
theorem JN(l:List Tm)(d:Int):Rt l d=l.flatMap fun k=>pre k d:=by
 induction l with
 |nil=>rfl
 |cons k l ih=>simp[Rt,ih]
theorem jT(t:Tm)(d:Int):pre t d=(t,d)::t.kids.flatMap fun k=>pre k (d+1):=by cases t;simp[pre,JN,Tm.kids]
def cF(n low high:Int):Bool:=decide (low<=n)&&decide (n<=high)
def letterF(b:UInt8):Bool:= !((decide ((b.toNat:Int)<97)||decide (122<(b.toNat:Int)))&&(decide ((b.toNat:Int)<65)||decide (90<(b.toNat:Int))))
def kT(s:List UInt8):Bool:=s.all letterF&&cF s.length 1 8
def ct:List ki->List (List UInt8)->Option (List (List UInt8))
 |[],before=>some before
 |x::l,before=>if before.any (· ==x.name)then none else if(!kT x.name|| !cF x.args 0 4)=true then none else ct l (before++[x.name])
def fB:List UInt8:=[70,97,108,115,101]
def tB:List UInt8:=[84,114,117,101]
def np(x:ki)(s:List UInt8):Bool:=x.name==s&&x.args==0
def kU(s:aV):Bool:=
 if(!cF s.cons.length 2 12||decide (8<(s.bR.length:Int)))=true then false else
 match s.cons with
 |a::b::_=>if(!np a fB|| !np b tB)=true then false else
  match ct s.cons []with
  |none=>false
  |some l=>(ct s.bR l).isSome
 |_=>false
mutual
def eM:Tm->Int->Int->Int
 | .mk _ _ kids,left,depth=>if left<1\/depth<1 then -1 else ck kids (left - 1) (depth - 1)
def ck:List Tm->Int->Int->Int
 |[],left,_=>left
 |k::l,left,depth=>if 0<=left then ck l (eM k left depth) depth else left
end
def cX(l:List ki)(n:Int):Int:=match l[n.toNat]? with|some x=>x.args|none=>0
def bz(s:aV)(t:Tm):Bool:=
 let k:Int:=t.kids.length
 if t.op=1 then k==0&&cF t.n 0 19
 else if t.op=2 then k==0&&cF t.n (-1000000) 1000000
 else if t.op=3 then cF t.n 0 (s.cons.length - 1)&&k==cX s.cons t.n
 else if t.op=4 then cF t.n 0 (s.bR.length - 1)&&k==cX s.bR t.n
 else if t.op=5 then cF t.n 0 (s.bR.length - 1)&&decide (k<cX s.bR t.n)
 else if t.op=8 then k==2&&cF t.n 0 19
 else if(cF t.op 6 15)=true then k==2&&t.n==0
 else false
mutual
def eW(s:aV):Tm->Bool
 | .mk op n kids=>bz s (.mk op n kids)&&uW s kids
def uW(s:aV):List Tm->Bool
 |[]=>true
 |k::l=>eW s k&&uW s l
end
def eh(s:aV)(t:Tm):Bool:=decide (0<=eM t 40 12)&&eW s t
mutual
def aJ:Tm->Tm->Bool
 | .mk op n kids, .mk op' n' Ve=>op==op'&&n==n'&&kids.length==Ve.length&&hY kids Ve
def hY:List Tm->List Tm->Bool
 |[],_=>true
 |k::l,k'::l'=>aJ k k'&&hY l l'
 |_::_,[]=>true
end
def iO(t:Tm):Bool:=decide (0<=eM t 50 14)
def gS(l:List ki):Bool:=l.all fun x=>decide ((x.name.length:Int)<=30)
def jr(s:aV):Bool:= !(decide (16<(s.cons.length:Int))||decide (12<(s.bR.length:Int)))&&gS s.cons&&gS s.bR
section
def jU(id:Nat)(K X:V->(Nat->ab)->Nat->Prop)(e:gf)(s:S):Prop:=
 match e with
 | .normal=>∃nf m en p c d st pd,s.o id= .loop nf m en p c d st pd/\K (.d (.bool true)) (aM s.o id (.loop nf m en p c d .ready none)) s.nx
 | .ret=>∃nf m en p c d st pd,s.o id= .loop nf m en p c d st pd/\K (.d (.bool false)) (aM s.o id (.loop nf m en p c d .done (some .ret))) s.nx
 | .exit j=>∃nf m en p c d st pd,s.o id= .loop nf m en p c d st pd/\K (.d (.bool false)) (aM s.o id (.loop nf m en p c d .done (some (.exit j)))) s.nx
 | .bW v=>X v s.o s.nx
def YV(P:Program)(n b id:Nat)(fe:IC)(K X:V->(Nat->ab)->Nat->Prop)(e:gf)(s:S):Prop:=
 match e with
 | .normal=>∃nf m en p c d pd,s.o id= .loop nf m en p c d .ready pd/\uV P n b true fe (jU id K X) ⟨s.env,aM s.o id (.loop nf m en p c d .busy pd),s.nx⟩
 | .bW v=>X v s.o s.nx
 |_=>False
section
variable {P:Program}{M:Nat->Prop}{φ cU:Place}{H0:Hp}{w w0:World}{n:Nat}{s:S}{a:Act}{cx:Cx}
theorem DI{id:Nat}{x:ab}{s:S}(cD:id<s.nx)(j:Nat)(hu:(s.H.put [(id,x)]).us j):j<s.nx:=by
 simp only[eT]at hu
 rcases hu with hu|hu
 ·exact hu
 ·subst hu;exact cD
theorem wa{B:Nat->Prop}{H:Hp}{n:Nat}:∀ (ps:List Nat) (vs:List V) (us:List Value) (env:Nat->V) (tmps:Array Value),tmps.size=n->ps.length=vs.length->V.aP B φ H w vs us->ps.all (fun t=>decide (t<n))=true->(∀i,V.den B φ H w (env i) (tmps.getD i undef))->
 ((ps.zip us).foldl (fun tmps p=>tmps.setIfInBounds p.1 p.2) tmps).size=n/\∀i,V.den B φ H w (nY env ps vs i) (((ps.zip us).foldl (fun tmps p=>tmps.setIfInBounds p.1 p.2) tmps).getD i undef)
 |[],[],us,env,tmps,eo,_,hd,_,he=>by simp only[V.aP]at hd;subst hd;exact⟨eo,he⟩
 |[],v::vs,us,env,tmps,_,h,_,_,_=>by simp at h
 |t::ps,[],us,env,tmps,_,h,_,_,_=>by simp at h
 |t::ps,v::vs,us,env,tmps,eo,hl,hd,hp,he=>by
  obtain⟨u,us,rfl,h1,h2⟩:=hd
  simp only[List.all_cons,Bool.and_eq_true,decide_eq_true_eq]at hp
  simp only[List.zip_cons_cons,List.foldl_cons,nY]
  refine wa ps vs us (aM env t v) (tmps.setIfInBounds t u) (by simp[eo]) (by simpa using hl) h2 hp.2 (fun i=> ?_)
  simp only[aW]
  by_cases hi:i=t
  ·subst hi
   have:(tmps.setIfInBounds i u).getD i undef=u:=by simp[Array.getD,eo,hp.1]
   rw[if_pos rfl,this];exact h1
  ·have:(tmps.setIfInBounds t u).getD i undef=tmps.getD i undef:=by
    exact Mg
   rw[if_neg hi,this];exact he i
theorem eD.vZ (bI:P.follows .mixedOrders=true){id:Nat}{args:List V}{o:Nat->ab}{nx:Nat}{K X:V->(Nat->ab)->Nat->Prop}{env:List V}{ps:List Nat}{jg fe:IC}{st:LoopState}{pd:Option j9}
 (ho:o id= .loop P.funcs.size n env ps jg fe st pd) (cD:id<nx) (DJ:ps.all (fun t=>decide (t<n))=true) (hl:args.length=ps.length)
 (h:uV P n nx true jg (YV P n nx id fe K X) ⟨nY (br env) ps args,o,nx⟩):eD P id args o nx K X:=by
 refine⟨by rw[ho];rfl,fun M φ w vals b hH hd fE=> ?_⟩
 have bw:=hH.ok id
 simp only[bf,hp,ho]at bw
 obtain⟨b',r,h1,h2,h0,h3,h4,h5,h6,h7,h8,h9⟩:=bw
 rw[fE]at h1;simp at h1;subst h1
 have hlen:=V.aL _ _ hd
 have eo:vals.size=r.params.size:=by
  have:r.params.toList.length=ps.length:=by rw[h5]
  simp at hlen this;omega
 let tm:Array Value:=(ps.zip vals.toList).foldl (fun tmps p=>tmps.setIfInBounds p.1 p.2) r.tmps
 have NA:(r.params.zip vals).foldl (fun tmps (p:Tmp×Value)=>tmps.setIfInBounds p.1 p.2) r.tmps=tm:=by
  rw[<- Array.foldl_toList,Array.toList_zip,h5]
 obtain⟨p1,p2⟩:=wa (B:=aA M φ (hp o nx)) (H:=hp o nx) (φ:=φ) (w:=w) ps args vals.toList (br env) r.tmps h6 hl.symm hd DJ h9
 refine⟨r.fn,tm,r.assign,r.body, ?_,fun k=> ?_⟩
 ·simp only[Instr.yield,Sem.run_bind,lG h2,Result.andThen_ok,eo,ne_eq,not_true_eq_false,if_false,Sem.run_pure]
  rw[<- NA]
 ·
   let s0:S:=⟨nY (br env) ps args,o,nx⟩
   let a0:Act:={tmps:=tm,defers:=[]}
   have gQ:cB M φ (hp o nx) w n ⟨[],true⟩ φ s0 a0 w:=⟨hH,Trans.refl _ _ _,p1,⟨[],rfl,List.nodup_nil,fun _=>rfl,fun r hr=>by cases hr⟩,p2⟩
   have wb:∀ {aS s' a' w'},cB M φ (hp o nx) w n ⟨[],true⟩ aS s' a' w'->a'.defers=[]:=by
    intro aS s' a' w' hs
    obtain⟨ms,g1,_,g3,_⟩:=hs.defers
    rw[g3 rfl]at g1;exact g1
   have ad7:∀ {aS s' a' w'} {nf m:Nat} {en:List V} {p:List Nat} {c d:IC} {st:LoopState} {pd:Option j9} (st':LoopState) (pd':Option j9),cB M φ (hp o nx) w n ⟨[],true⟩ aS s' a' w'->s'.o id= .loop nf m en p c d st pd->
    ∃r',w'.heap[b]? =some (.loop r')/\r'.state=st/\r'.pending=pd.map j9.code/\
     cB M φ (hp o nx) w n ⟨[],true⟩ aS ⟨s'.env,aM s'.o id (.loop nf m en p c d st' pd'),s'.nx⟩ a' {w' with heap:=w'.heap.setIfInBounds b (.loop {r' with state:=st',pending:=pd'.map j9.code})}:=by
    intro aS s' a' w' nf m en p c d st pd st' pd' hs qA
    have Yg:aS id= .pointer (some ⟨b,0,none⟩):=by
     have:=(hs.tr.rel.row id cD (by show(s'.o id).cK=true;rw[qA];rfl)).2
     rw[this];exact fE
    have ad8:id<s'.nx:=hs.tr.rel.us id cD
    obtain⟨r',r1,r2,r3,r4,r5⟩:=zd (st':=st') (pd':=pd') hs.heap ad8 (show s'.H.o id=_ from qA) Yg
    exact⟨r',r1,r2,r3,fH hs r4 r5 rfl (DI ad8)⟩
   have ha:=jq (P:=P) (n:=n) (b:=nx) (rd:=true) bI r.assign _ _ s0 (fun _ _ h=>h) (by rw[h7];exact h)
   refine vO h0 (iM (jj (P:=P) (H0:=hp o nx) (b:=nx) (cx:=⟨[],true⟩) (ro:=some b) (fun id hu=>hu) (fun h=>by cases h) r.assign _ s0 φ a0 w ha gQ) ?_)
   rintro e a1 w1 ⟨x,s1,jN,hq,zf,hm⟩
   cases e<;>cases x<;>first|(exact hm.elim)|skip
   ·
     obtain⟨nf,m,en,p,c,d,pd1,q1,q2⟩:=hq
     obtain⟨r',r1,r2,r3,Qe⟩:=ad7 .busy pd1 zf q1
     have YW:(Instr.beginRound b).run P w1= .ok () {w1 with heap:=w1.heap.setIfInBounds b (.loop {r' with state:= .busy,pending:=pd1.map j9.code})}:=by
      have e1:({r' with state:= .busy}:Loop)={r' with state:= .busy,pending:=pd1.map j9.code}:=by rw[<- r3]
      simp only[Instr.beginRound,Sem.run_bind,lG r1,Result.andThen_ok,jQ _ r1,r2,Sem.run_pure,e1]
     refine⟨_,YW, ?_⟩
     have bU:=Qe.heap.ok id
     simp only[bf,S.H,aW,if_true]at bU
     obtain⟨b2,r2',_,_,_,_,_,_,_,_,_,_⟩:=bU
     have hb:=jq (P:=P) (n:=n) (b:=nx) (rd:=true) bI r.body _ _ _ (fun _ _ h=>h) (by rw[h8];exact q2)
     refine iM (jj (P:=P) (H0:=hp o nx) (b:=nx) (cx:=⟨[],true⟩) (ro:=some b) (fun id hu=>hu) (fun h=>by cases h) r.body _ _ jN a1 _ hb Qe) ?_
     rintro e a2 w2 ⟨x,s2,Jt,hq2,Hv,Qb⟩
     have fin:∀ {nf m:Nat} {en:List V} {p:List Nat} {c d:IC} {st:LoopState} {pd:Option j9} (jump:Option j9) (t:Bool) (st':LoopState),t=jump.isNone->st'=(if jump.isNone then .ready else .done)->s2.o id= .loop nf m en p c d st pd->K (.d (.bool t)) (aM s2.o id (.loop nf m en p c d st' jump)) s2.nx->
      ∃v w',(Instr.endRound b (jump.map j9.code)).run P w2= .ok v w'/\nN M φ (hp o nx) w K X (.returned v) w':=by
      intro nf m en p c d st pd jump t st' ht ny ho2 hK
      obtain⟨r3',g1,g2,g3,hs4⟩:=ad7 st' jump Hv ho2
      refine⟨.bool t,_, ?_,Jt,_,_,_,hs4.heap,hs4.tr,by simp only[V.den,D.den],hK⟩
      subst ht;subst ny
      simp only[Instr.endRound,Sem.run_bind,lG g1,Result.andThen_ok,jQ _ g1,Sem.run_pure,Option.isNone_map]
     cases e<;>cases x<;>first|(exact Qb.elim)|skip
     ·obtain⟨nf,m,en,p,c,d,st,pd,k1,k2⟩:=hq2
      exact fin none true .ready rfl rfl k1 k2
     ·rename_i j
      subst Qb
      obtain⟨nf,m,en,p,c,d,st,pd,k1,k2⟩:=hq2
      exact fin (some (.exit _)) false .done rfl rfl k1 k2
     ·obtain⟨nf,m,en,p,c,d,st,pd,k1,k2⟩:=hq2
      exact fin (some .ret) false .done rfl rfl k1 k2
     ·obtain⟨val,rfl,k2⟩:=Qb
      exact⟨wb Hv,Jt,_,_,_,Hv.heap,Hv.tr,val,rfl,k2,hq2⟩
   ·exact hq.elim
   ·exact hq.elim
   ·obtain⟨val,rfl,k2⟩:=hm
    exact⟨wb zf,jN,_,_,_,zf.heap,zf.tr,val,rfl,k2,hq⟩
end
end
section
def YX(ops:Array Oper)(t t1:Nat):Prop:=
 (∃o1 o2,ops=#[o1,o2]/\o1.op= .call ⟨.builtin .recover,#[],#[]⟩/\o1.dst=some t/\o1.guard=none/\o2.op= .assign (.tmp t)/\o2.dst=some t1/\o2.guard=none)\/
 (∃o1,ops=#[o1]/\t1=t/\o1.op= .call ⟨.builtin .recover,#[],#[]⟩/\o1.dst=some t/\o1.guard=none)
structure DK (P:Program) (g:FuncId) (n t t1:Nat) (ic:IC):Prop where
 get:∃fn id ops c,P.funcs[g]? =some fn/\(fn.name== "runtime.NumGoroutine")=false/\fn.ntmps=n/\fn.results=#[]/\fn.body=some (.seq (.region id ops false) c)/\
  YX ops t t1/\t<n/\t1<n/\low n c=ic
structure HJ (P:Program) (f:FuncId) (n:Nat) (jg fe:IC) (g:FuncId) (t:Nat) (aK:List Operand) (rs:List ResultVar):Prop where
 get:∃fn id o1 o2 a b d,P.funcs[f]? =some fn/\(fn.name== "runtime.NumGoroutine")=false/\fn.ntmps=n/\fn.results.toList=rs/\fn.body=some (.seq a d)/\(d= .seq (.region id #[o1,o2] false) b\/d= .scope (.seq (.region id #[o1,o2] false) b))/\
  o1.op= .makeFunc (.func g) #[] aK.toArray/\o1.dst=some t/\o1.guard=none/\o2.op= .defer ⟨.value (.tmp t),#[],#[]⟩/\o2.dst=none/\o2.guard=none/\t<n/\low n a=jg/\low n b=fe
def JO(K:(Nat->ab)->Nat->Prop)(e:gf)(s:S):Prop:=match e with| .normal| .ret=>K s.o s.nx|_=>False
def F1(P:Program)(n t t1:Nat)(ic:IC)(aK:List V)(u:V)(o:Nat->ab)(nx:Nat)(K:(Nat->ab)->Nat->Prop):Prop:=
 aK.length<=n/\uV P n nx true ic (JO K) ⟨aM (aM (cN aK) t u) t1 u,o,nx⟩
def Bn(P:Program)(n t t1:Nat)(ic:IC)(aK:List V)(rs:List ResultVar)(K X:V->(Nat->ab)->Nat->Prop)(e:gf)(s:S):Prop:=
 match e with
 | .normal| .ret=>F1 P n t t1 ic aK (.d .fV) s.o s.nx fun o nx=>mM P rs K X .ret ⟨s.env,o,nx⟩
 | .bW v=>F1 P n t t1 ic aK v s.o s.nx fun o nx=>mM P rs K X .ret ⟨s.env,o,nx⟩
 | .exit _=>False
def DL(P:Program)(n t:Nat)(fe:IC)(gk:List Operand)(g:FuncId)(D:List V->gf->S->Prop)(e:gf)(s:S):Prop:=
 match e with
 | .normal=>uV P n s.nx false fe (D (gk.map s.ev)) ⟨aM s.env t (.func (.func g) [] (gk.map s.ev)),s.o,s.nx⟩
 |_=>False
section
variable {P:Program}{M:Nat->Prop}{φ cU:Place}{H H0:Hp}{w w0:World}{n:Nat}{s:S}{a:Act}{cx:Cx}{k:Nat}
theorem JP(bI:P.follows .mixedOrders=true){g:FuncId}{t t1:Nat}{ic:IC}(hg:DK P g n t t1 ic){aK:List V}{u:V}{o:Nat->ab}{nx:Nat}{K:(Nat->ab)->Nat->Prop}(h:F1 P n t t1 ic aK u o nx K)
 {vals:Array Value} {val:Value} {m:FrameMode} (hH:aI M φ (hp o nx) w) (hd:V.aP (aA M φ (hp o nx)) φ (hp o nx) w aK vals.toList) (hv:V.den (aA M φ (hp o nx)) φ (hp o nx) w u val)
 (hm:(m= .returning/\val= .nilIface)\/m= .panicking [{v:=val,recovered:=false}]):
 CallsDIn (eK none) k P g vals m w fun e u' w'=>∃v aS o' nx',e= .returned v/\settle u'= .returning/\aI M aS (hp o' nx') w'/\Trans φ (hp o nx) w aS (hp o' nx') w'/\K o' nx':=by
 obtain⟨fn,id,ops,c,hf,Vf,hnt,Db,rn,Mr,ht,E2,sX⟩:=hg.get
 have cD:g<P.funcs.size:=(Array.getElem?_eq_some_iff.1 hf).1
 obtain⟨p8,h⟩:=h
 have hlen:=V.aL _ _ hd
 refine⟨trivial,fun qh cs NB UB=> ?_⟩
 let b:Frame:={(default:Frame)with fn:=g,kind:= .deferred,roundOf:=none}
 let uX:Array Value:=vals++Array.replicate (fn.ntmps - vals.size) undef
 have aib:uX.size=n:=by simp only[uX,Array.size_append,Array.size_replicate];simp at hlen;omega
 have mK:Frame.enter P g vals .deferred=b.atR {tmps:=uX,defers:=[]} [.code (.seq (.region id ops false) c)]:=by
  simp[Frame.enter,Frame.atR,hf,rn,b,uX]
 obtain⟨m',hm',bU⟩:∃m',settle m'= .returning/\((recoverD (qh::cs)=none/\m'=m/\val= .nilIface)\/recoverD (qh::cs)=some (val,{qh with mode:=m'}::cs)):=by
  rcases hm with⟨rfl,rfl⟩|rfl
  ·exact⟨.returning,rfl, .inl ⟨by simp[recoverD,NB],rfl,rfl⟩⟩
  ·exact⟨.panicking [{v:=val,recovered:=true}],rfl, .inr (by simp[recoverD,NB])⟩
 have hc0:({qh with mode:=m}:Frame)=qh:=by subst NB;rfl
 let a1:Act:={tmps:=(uX.setIfInBounds t val).setIfInBounds t1 val,defers:=[]}
 have Rc:(Code.region id ops false).wpSIn (eK none) k P (fun e a' cs' w'=>e= .normal/\a'=a1/\cs'={qh with mode:=m'}::cs/\w'=w) {tmps:=uX,defers:=[]} (qh::cs) w:=by
  rcases Mr with⟨o1,o2,rfl,e1,e2,e3,e4,e5,e6⟩|⟨o1,rfl,rfl,e1,e2,e3⟩
  ·refine wpSIn_region ?_
   have hr:List.range (#[o1,o2]:Array Oper).size=[0,1]:=rfl
   have g0:(#[o1,o2]:Array Oper)[0]? =some o1:=rfl
   have g1:(#[o1,o2]:Array Oper)[1]? =some o2:=rfl
   rw[hr]
   have x1:∀ (ρ:Operand->Value) (w:World),(execOp ρ o1).run P w= .ok .recover w:=by
    intro ρ w
    simp[execOp,e1,resolve,invoke,builtin]
   have x2:∀ (ρ:Operand->Value) (w:World),(execOp ρ o2).run P w= .ok (.value (ρ (.tmp t))) w:=by
    intro ρ w
    simp[execOp,e4]
   have last:∀cs',cs'={qh with mode:=m'}::cs->wpOpsSIn (eK none) k P #[o1,o2] (fun e a' cs' w'=>e= .normal/\a'=a1/\cs'={qh with mode:=m'}::cs/\w'=w) [1] (({tmps:=uX,defers:=[]}:Act).put (some t) val) cs' w:=by
    rintro cs' rfl
    have hw:Region.wanted o2 (yielded #[o1,o2] (({tmps:=uX,defers:=[]}:Act).put (some t) val).tmps)=true:=by simp[Region.wanted,e6]
    have dX:(({tmps:=uX,defers:=[]}:Act).put (some t) val).eval (.tmp t)=val:=by
     have:t<uX.size:=af
     simp[Act.put,Act.eval,Array.getD,this]
    simp only[wpOpsSIn,g1,hw,if_true,x2,dX,e5]
    refine⟨fun _ _=>trivial, ?_⟩
    simp[a1,Act.put]
   have hw:Region.wanted o1 (yielded #[o1,o2] uX)=true:=by simp[Region.wanted,e3]
   rw[wpOpsSIn,g0]
   refine⟨fun _ _=>trivial, ?_⟩
   simp only[hw,if_true,x1,e2]
   rcases bU with⟨hr,rfl,rfl⟩|hr
   ·simp only[hr]
    exact last _ (by rw[hc0])
   ·simp only[hr]
    exact last _ rfl
  ·refine wpSIn_region ?_
   have hr:List.range (#[o1]:Array Oper).size=[0]:=rfl
   have g0:(#[o1]:Array Oper)[0]? =some o1:=rfl
   rw[hr]
   have x1:∀ (ρ:Operand->Value) (w:World),(execOp ρ o1).run P w= .ok .recover w:=by
    intro ρ w
    simp[execOp,e1,resolve,invoke,builtin]
   have same:a1=({tmps:=uX,defers:=[]}:Act).put (some t1) val:=by
    simp only[a1,Act.put]
    congr 1
    apply Array.ext_getElem?
    intro j
    simp only[Array.getElem?_setIfInBounds]
    by_cases hj:t1=j
    ·subst hj;simp
    ·simp[hj]
   have last:∀cs',cs'={qh with mode:=m'}::cs->wpOpsSIn (eK none) k P #[o1] (fun e a' cs' w'=>e= .normal/\a'=a1/\cs'={qh with mode:=m'}::cs/\w'=w) [] (({tmps:=uX,defers:=[]}:Act).put (some t1) val) cs' w:=by
    rintro cs' rfl
    simp only[wpOpsSIn]
    exact⟨trivial,same.symm,trivial,trivial⟩
   have hw:Region.wanted o1 (yielded #[o1] uX)=true:=by simp[Region.wanted,e3]
   rw[wpOpsSIn,g0]
   refine⟨fun _ _=>trivial, ?_⟩
   simp only[hw,if_true,x1,e2]
   rcases bU with⟨hr,rfl,rfl⟩|hr
   ·simp only[hr]
    exact last _ (by rw[hc0])
   ·simp only[hr]
    exact last _ rfl
 obtain⟨er,ar,csr,wr,hl,⟨rfl,rfl,rfl,hwr⟩,dK⟩:=Rc b [.code c] rfl rfl trivial (fun d hd=>by simp[eK]at hd)
 rw[hwr]at dK
 let s0:S:=⟨aM (aM (cN aK) t u) t1 u,o,nx⟩
 have gQ:cB M φ (hp o nx) w n ⟨[],true⟩ φ s0 a1 w:=by
  refine⟨hH,Trans.refl _ _ _,by simp[a1,aib],⟨[],rfl,List.nodup_nil,fun _=>rfl,fun r hr=>by cases hr⟩,fun i=> ?_⟩
  have fh:=Cz (m:=fn.ntmps - vals.size) hd i
  simp only[s0,a1,aW]
  have ht0:t<uX.size:=af
  have aic:t1<uX.size:=af
  by_cases h1:i=t1
  ·subst h1
   simp only[if_true]
   have:((uX.setIfInBounds t val).setIfInBounds i val).getD i undef=val:=by simp[Array.getD,aic]
   rw[this];exact hv
  ·simp only[h1,if_false]
   have e1:((uX.setIfInBounds t val).setIfInBounds t1 val).getD i undef=(uX.setIfInBounds t val).getD i undef:=by
    exact T7
   rw[e1]
   by_cases h2:i=t
   ·subst h2
    simp only[if_true]
    have:(uX.setIfInBounds i val).getD i undef=val:=by simp[Array.getD,ht0]
    rw[this];exact hv
   ·simp only[h2,if_false]
    have e1:(uX.setIfInBounds t val).getD i undef=uX.getD i undef:=by
     simp only[Array.getD_eq_getD_getElem?]
     rw[Array.getElem?_setIfInBounds_ne (Ne.symm h2)]
    rw[e1];exact fh
 have hcw:=jq (P:=P) (n:=n) (b:=nx) (rd:=true) bI c _ _ s0 (fun _ _ h=>h) (by rw[sX];exact h)
 obtain⟨e,a',w',⟨x,s',aS,hq,jC,hx⟩,Hu⟩:=jj (P:=P) (H0:=hp o nx) (b:=nx) (cx:=⟨[],true⟩) (ro:=none) (fun id hu=>hu) (fun h=>by cases h) c _ s0 φ a1 w hcw gQ b [] ({qh with mode:=m'}::cs) rfl cD
 have i0:(lone (b.atR {tmps:=uX,defers:=[]} [.code (.seq (.region id ops false) c)]) (qh::cs) w).fenced P (eK none):=fenced_calm (n:=0) trivial iL rfl
 have Vg:StepsIn (Machine.fenced P (eK none)) P (lone (b.atR {tmps:=uX,defers:=[]} [.code (.seq (.region id ops false) c)]) (qh::cs) w) (lone (b.atR a1 [.code c]) ({qh with mode:=m'}::cs) w):= .head i0 stepR_seq dK
 have wb:a'.defers=[]:=by
  obtain⟨ms,g1,_,g3,_⟩:=jC.defers
  rw[g3 rfl]at g1;exact g1
 have ad9:∀tm:Array Value,∃v,(results fn tm).run P w'= .ok v w':=by
  intro tm
  refine⟨_,nR (vals:=[]) ?_⟩
  rw[Db];rfl
 rw[mK]
 obtain⟨v,uu⟩:=ad9 a'.tmps
 cases e<;>cases x<;>first|(exact hx.elim)|(exact hq.elim)|skip
 ·exact⟨.returned v,m',w',_,⟨v,aS,s'.o,s'.nx,rfl,hm',jC.heap,jC.tr,hq⟩,StepsIn.trans Vg (StepsIn.trans Hu (.one (fenced_calm (n:=0) (fr:=b.atR a' []) trivial iL rfl) (stepR_end rfl))),rfl,rfl,rfl,wb,fn,hf,uu⟩
 ·obtain⟨todo,hs⟩:=Hu.1 rfl
  exact⟨.returned v,m',w',_,⟨v,aS,s'.o,s'.nx,rfl,hm',jC.heap,jC.tr,hq⟩,StepsIn.trans Vg hs,rfl,rfl,rfl,wb,fn,hf,uu⟩
theorem DM{d c:Code}{ro:Option Nat}{Q:Exit->Act->World->Prop}{a:Act}{w:World}(h:d=c\/d= .scope c)(hg:∀l a w, ¬Q (.goto l) a w)(hc:c.ux P ro Q a w):d.ux P ro Q a w:=by
 rcases h with rfl|rfl
 ·exact hc
 ·exact zb hc hg
theorem cR.DN (bI:P.follows .mixedOrders=true){f g:FuncId}{jg fe zC:IC}{t m r r1:Nat}{gk:List Operand}{rs:List ResultVar}(hf:HJ P f n jg fe g t gk rs)(hg:DK P g m r r1 zC)
 {args:List V} {o:Nat->ab} {nx:Nat} {K X:V->(Nat->ab)->Nat->Prop} (hl:args.length<=n)
 (h:uV P n nx true jg (DL P n t fe gk g fun aK=>Bn P m r r1 zC aK rs K X) ⟨cN args,o,nx⟩):cR P f args o nx K X:=by
 obtain⟨fn,id,o1,o2,ca,cb,cd,K8,Vf,hnt,Db,rn,hsc,e1,e2,e3,e4,e5,e6,ht,hla,hlb⟩:=hf.get
 obtain⟨gn,_,_,gc,hgn,YY,_,_,YZ,_⟩:=hg.get
 refine⟨⟨fn,K8,Vf,by rw[rn];rfl⟩,fun M φ w vals hH hd=> ?_⟩
 have hlen:=V.aL _ _ hd
 let s0:S:=⟨cN args,o,nx⟩
 let a0:Act:={tmps:=vals++Array.replicate (fn.ntmps - vals.size) undef,defers:=[]}
 have gQ:cB M φ (hp o nx) w n ⟨[],true⟩ φ s0 a0 w:=by
  exact TJ
 have ha:=jq (P:=P) (n:=n) (b:=nx) (rd:=true) bI ca _ _ s0 (fun _ _ h=>h) (by rw[hla];exact h)
 refine C6 (ro:=none) (k:=0) (nS K8 rn (A1 (iM (jj (P:=P) (H0:=hp o nx) (b:=nx) (cx:=⟨[],true⟩) (ro:=none) (fun id hu=>hu) (fun h=>by cases h) ca _ s0 φ a0 w ha gQ) ?_)))
 rintro e a1 w1 ⟨x,s1,jN,hq,zf,hm⟩
 cases e<;>cases x<;>first|(exact hm.elim)|(exact hq.elim)|skip
 have wb:a1.defers=[]:=by
  obtain⟨ms,g1,_,g3,_⟩:=zf.defers
  rw[g3 rfl]at g1;exact g1
 let cv:Array Value:=(gk.map a1.eval).toArray
 let fv:Value:= .func (.func g) #[] cv
 let dd:Deferred:={target:= .fn (.func g) cv,args:=#[]}
 let a2:Act:={tmps:=a1.tmps.setIfInBounds t fv,defers:=[dd]}
 have Vh:V.aP (aA M jN s1.H) jN s1.H w1 (gk.map s1.ev) cv.toList:=by
  simpa[cv]using lA (M:=M) (φ:=jN) (H:=s1.H) (w:=w1) s1 a1 zf.env gk
 refine DM hsc (fun l a w h=> ?_) ?_
 ·exact h.elim
 refine A1 (iM (Q:=fun e a w=>e= .normal/\a=a2/\w=w1) (qc (k:=0) (wpIn_region_list ?_)) ?_)
 ·have y1:Region.wanted o1 (yielded #[o1,o2] a1.tmps)=true:=by simp[Region.wanted,e3]
  have y2:∀tm,Region.wanted o2 (yielded #[o1,o2] tm)=true:=by intro tm;simp[Region.wanted,e6]
  have dX:(a1.put (some t) fv).eval (.tmp t)=fv:=by
   have:t<a1.tmps.size:=by rw[zf.size];exact ht
   simp[Act.put,Act.eval,Array.getD,this]
  show wpListIn (eK none) 0 P #[o1,o2] _ [o1,o2] a1 w1
  unfold wpListIn
  rw[if_pos y1]
  have x1:(execOp a1.eval o1).run P w1= .ok (.value fv) w1:=by simp[execOp,e1,fv,cv,Instr.makeFunc]
  refine lE (fun c hc=>by rw[e1]at hc;cases hc) ?_
  rw[x1]
  show wpListIn (eK none) 0 P #[o1,o2] _ [o2] (a1.put o1.dst fv) w1
  rw[e2]
  unfold wpListIn
  rw[if_pos (y2 _)]
  have x2:(execOp (a1.put (some t) fv).eval o2).run P w1= .ok (.defer dd) w1:=by
   simp[execOp,e4,resolve,dX,Deferred.ofValue,fv,dd]
  refine⟨fun _ _=>trivial, ?_⟩
  have:(o2.semAt (eK none).round (a1.put (some t) fv).eval)=execOp (a1.put (some t) fv).eval o2:=rfl
  rw[this,x2]
  unfold Oper.uponIn
  simp only[e5,wpListIn,Act.put,wb,a2,and_self]
 rintro e a w2 ⟨rfl,rfl,rfl⟩
 have E2:t<a1.tmps.size:=by rw[zf.size];exact ht
 let s2:S:=⟨aM s1.env t (.func (.func g) [] (gk.map s1.ev)),s1.o,s1.nx⟩
 have Qe:cB M jN s1.H w2 n ⟨[dd],false⟩ jN s2 a2 w2:=by
  refine⟨zf.heap,Trans.refl _ _ _,by simp[a2,zf.size],⟨[],rfl,List.nodup_nil,fun _=>rfl,fun r hr=>by cases hr⟩,fun i=> ?_⟩
  simp only[s2,a2,aW]
  by_cases h1:i=t
  ·subst h1
   have:(a1.tmps.setIfInBounds i fv).getD i undef=fv:=by simp[Array.getD,E2]
   simp only[if_true];rw[this]
   exact⟨#[],cv,rfl,rfl,Vh⟩
  ·have:(a1.tmps.setIfInBounds t fv).getD i undef=a1.tmps.getD i undef:=by
    exact T7
   simp only[h1,if_false];rw[this]
   exact zf.env i
 have hb:=jq (P:=P) (n:=n) (b:=s1.nx) (rd:=false) bI cb _ _ s2 (fun _ _ h=>h) (by rw[hlb];exact hq)
 refine iM (jj (P:=P) (H0:=s1.H) (b:=s1.nx) (cx:=⟨[dd],false⟩) (ro:=none) (fun id hu=>hu) (fun _=>rfl) cb _ s2 jN a2 w2 hb Qe) ?_
 rintro e a3 w3 ⟨x,s3,φ3,hq3,Hv,xY⟩
 obtain⟨ms,g1,g2,_,g4⟩:=Hv.defers
 have hinv:(invoke dd.target dd.args).run P=fun w=> .ok (.enter g cv) w:=by
  funext w
  have:=ma (w:=w) ⟨gn,hgn,YY,by rw[YZ];rfl⟩ cv
  simpa[dd,invoke]using this
 have last:∀ {w4:World} {tm:Array Value} {u:V} {val:Value} {m0:FrameMode},m0≠ .run->A3 M jN s1.H w2 φ3 s3 a3.tmps w4->V.den (aA M φ3 s3.H) φ3 s3.H w4 u val->
  ((m0= .returning/\val= .nilIface)\/m0= .panicking [{v:=val,recovered:=false}])->
  (F1 P m r r1 zC (gk.map s1.ev) u s3.o s3.nx fun o nx=>mM P rs K X .ret ⟨s3.env,o,nx⟩)->
  LeavesInM (eK none) 0 P fn a3.tmps (nN M φ (hp o nx) w K X) [dd] m0 w4:=by
  intro w4 tm u val m0 fY hB QV hm0 bU
  have Y0:=V.bg hB.tr _ _ Vh
  refine⟨fY, .inr ⟨fun h=>by simp[eK]at h, .func g,cv,g,cv,rfl,by rw[hinv],fun _ _=>trivial,CallsDIn.mono (JP (k:=0 - 1) bI hg bU (m:=m0) hB.heap Y0 QV hm0) ?_⟩⟩
  rintro e u' w5 ⟨v,φ5,o5,nx5,rfl,Bo,k1,k2,k3⟩
  show LeavesInM (eK none) 0 P fn a3.tmps (nN M φ (hp o nx) w K X) [] (settle u') w5
  rw[Bo]
  obtain⟨vs,h1,h2⟩:=Dd k3
  rw[<- Db]at h1
  have aea:∀i,V.den (aA M φ5 (hp o5 nx5)) φ5 (hp o5 nx5) w5 (s3.env i) (a3.tmps.getD i undef):=fun i=>V.bc k2 _ _ (hB.env i)
  obtain⟨ajx,h3,h4⟩:=uU (P:=P) (s:=⟨s3.env,o5,nx5⟩) (a:=a3) k1 aea _ _ h1
  exact⟨_,nR h3,φ5,o5,nx5,_,k1,zf.tr.trans (hB.tr.trans k2),De h4,h2⟩
 have done:F1 P m r r1 zC (gk.map s1.ev) (.d .fV) s3.o s3.nx (fun o nx=>mM P rs K X .ret ⟨s3.env,o,nx⟩)->LeavesInM (eK none) 0 P fn a3.tmps (nN M φ (hp o nx) w K X) a3.defers .returning w3:=by
  intro bU
  rw[g1]
  exact iN (P:=P) (k:=0) (fn:=fn) (R:=nN M φ (hp o nx) w K X) (u:= .returning) ao (ds:=[dd]) (fun w4 hB=>last (tm:=a3.tmps) ao hB (u:= .d .fV) (val:= .nilIface) (by simp[V.den,D.den]) (.inl ⟨rfl,rfl⟩) bU) ms w3 g2 g4 Hv.toB
 cases e<;>cases x<;>first|(exact xY.elim)|skip
 ·exact done hq3
 ·exact hq3.elim
 ·exact done hq3
 ·rename_i v
  obtain⟨val,rfl,hd'⟩:=xY
  show LeavesInM (eK none) 0 P fn a3.tmps (nN M φ (hp o nx) w K X) a3.defers _ w3
  rw[g1]
  let aeb:Nat->V:=fun i=>match i with|0=>v|i+1=>s3.env i
  have aec:(#[val]++a3.tmps).getD 0 undef=val:=by simp[Array.getD]
  have aed:∀i,(#[val]++a3.tmps).getD (i+1) undef=a3.tmps.getD i undef:=by
   intro i
   simp only[Array.getD_eq_getD_getElem?]
   rw[Array.getElem?_append_right (by simp)]
   simp
  have Qf:A3 M jN s1.H w2 φ3 ⟨aeb,s3.o,s3.nx⟩ (#[val]++a3.tmps) w3:=⟨Hv.heap,Hv.tr,fun i=>by
   cases i with
   |zero=>rw[aec];exact hd'
   |succ i=>rw[aed];exact Hv.env i⟩
  have tz:∀w4,A3 M jN s1.H w2 φ3 ⟨aeb,s3.o,s3.nx⟩ (#[val]++a3.tmps) w4->LeavesInM (eK none) 0 P fn a3.tmps (nN M φ (hp o nx) w K X) [dd] (.panicking [{v:=val,recovered:=false}]) w4:=by
   intro w4 hB
   have hv4:=hB.env 0
   rw[aec]at hv4
   refine last (tm:=a3.tmps) ao ⟨hB.heap,hB.tr,fun i=> ?_⟩ hv4 (.inr rfl) hq3
   have hs:=hB.env (i+1)
   rw[aed]at hs
   exact hs
  exact iN (P:=P) (k:=0) (fn:=fn) (R:=nN M φ (hp o nx) w K X) (u:= .panicking [{v:=val,recovered:=false}]) ao (ds:=[dd]) tz ms w3 g2 g4 Qf
end
end
theorem zi.F2 {P:Program}{g:FuncId}{ds:List D}{o:Nat->ab}{fr:Nat}{ty:TypeId}{sz:Nat}{es:List D}
 (h:cR P g (ds.map .d) (fun _=> .no) 0 (fun v o1 _=>(∃j ep,v= .osl j ep/\o1 j= .arr ep ty sz es)\/(v= .bO/\es=[]/\0<sz)) (fun _ _ _=>False)):
 zi P g (ds.map .d) [] o fr (.osl fr 0) [(fr, .arr 0 ty sz es)]:=by
 refine⟨h.1,fun o' us M φ w vals _ dF hH hd=> ?_⟩
 let cU:Place:=fun _=> .nilFunc
 have x7:∀b, ¬dt cU (hp (fun _=> .no) 0) b:=by rintro b ⟨id,hl,_⟩;simp[hp,ab.live]at hl
 have hM:∀b,aA M φ ⟨o',us⟩ b->b<w.heap.size:=fun b hb=>hb.elim (hH.B9 b) fun hl=>(hH.ours b hl).2
 have yQ:=(V.cM _ _).1 hd
 refine(h.2 (aA M φ ⟨o',us⟩) cU w vals (mb cU hM) ((V.cM _ _).2 (D.bg (w:=w) (w':=w) (B:=aA M φ ⟨o',us⟩) (fun b _ hB=>⟨rfl,fun h=>h.elim hB (x7 b)⟩) _ _ yQ))).mono ?_
 rintro e w' ⟨jN,o1,n1,v,k1,k2,k3⟩
 have hk:fg (fun _=>False) w w':=⟨k2.keep.os,k2.keep.tape,k2.keep.output,k2.keep.size,fun k hk _=>k2.keep.block k hk (x7 k)⟩
 have Hj:(⟨o',us⟩:Hp).put [(fr, .arr 0 ty sz es)]=⟨put o' [(fr, .arr 0 ty sz es)],fun id=>us id\/id=fr⟩:=by
  simp only[Hp.put]
  congr 1
  funext id
  simp
 have fin:∀ (val:Value) (xs:List Value),(∀b,fk val=some b->w.heap.size<=b/\b<w'.heap.size)->0<sz->w'.ownsRow 0 ty sz val es.length xs->
  (gW (aA M (aM φ fr val) ((⟨o',us⟩:Hp).put [(fr, .arr 0 ty sz es)])) w' sz es xs)->
  val.oneCell'=true->
  ∃aS,aI M aS ⟨put o' [(fr, .arr 0 ty sz es)],fun id=>us id\/id=fr⟩ w'/\Trans φ ⟨o',us⟩ w aS ⟨put o' [(fr, .arr 0 ty sz es)],fun id=>us id\/id=fr⟩ w'/\
   ∃NC,Ending.returned val= .returned NC/\V.den (aA M aS ⟨put o' [(fr, .arr 0 ty sz es)],fun id=>us id\/id=fr⟩) aS ⟨put o' [(fr, .arr 0 ty sz es)],fun id=>us id\/id=fr⟩ w' (.osl fr 0) NC:=by
  intro val xs kL eo dY cz Y1
  have rm:=jG hH hk dF (.arr 0 ty sz es) val kL (by
   unfold bf
   rw[show((⟨o',us⟩:Hp).put [(fr, .arr 0 ty sz es)]).o fr= .arr 0 ty sz es by simp]
   refine⟨eo,xs, ?_,cz⟩
   rw[show aM φ fr val fr=val by simp]
   exact dY)
  have Vi:=fm (φ:=φ) (H:=⟨o',us⟩) hk dF (.arr 0 ty sz es) val (fun b hb=>(kL b hb).1)
  rw[Hj]at rm Vi
  refine⟨aM φ fr val,rm,Vi,val,rfl,Y1, .inr rfl,fun e he=> ?_⟩
  have qz:0=e:=by
   have:(put o' [(fr,ab.arr 0 ty sz es)] fr).cJ=some 0:=by simp[put,ab.cJ]
   exact Tq
  exact⟨af,fun _=>ao⟩
 cases e with
 |outgrown=>exact k3.elim
 |panicked ch=>obtain⟨_,_,_,h⟩:=k3;exact h.elim
 |returned val=>
  obtain⟨g1,⟨j,ep,rfl,hj⟩|⟨rfl,rfl,eo⟩⟩:=k3
  ·obtain⟨v0,v1,v2⟩:=g1
   have gG:val=jN j:=(v2 ep (by show(o1 j).cJ=some ep;rw[hj];rfl)).2 rfl
   have dm:∀b,fk val=some b->dt jN (hp o1 n1) b:=fun b hb=>⟨j,by show(o1 j).live=true;rw[hj];rfl,by rw[<- gG];exact hb⟩
   have kL:∀b,fk val=some b->w.heap.size<=b/\b<w'.heap.size:=fun b hb=>⟨(k2.grow b (dm b hb)).resolve_left (x7 b),(k1.ours b (dm b hb)).2⟩
   have ND:=k1.ok j
   unfold bf at ND
   rw[show(hp o1 n1).o j= .arr ep ty sz es from hj]at ND
   obtain⟨eo,xs,dY,cz⟩:=ND
   have hBs:∀b,aA M (aM φ fr val) ((⟨o',us⟩:Hp).put [(fr, .arr 0 ty sz es)]) b->aA (aA M φ ⟨o',us⟩) jN (hp o1 n1) b:=by
    rintro b (hb|⟨id,hl,hb⟩)
    ·exact .inl (.inl hb)
    ·by_cases e:id=fr
     ·subst e
      simp at hb
      exact .inr (dm b hb)
     ·simp[e]at hl hb
      exact .inl (.inr ⟨id,hl,hb⟩)
   exact fin val xs kL eo (by rw[gG];exact dY) (cz.mono (w:=w') (w':=w') (fun b _ hB=>⟨rfl,fun h=>hB (hBs b h)⟩)) v0
  ·have g1:val= .slice none 0 0:=g1
   subst g1
   exact acN
theorem zi.Ru {P:Program}{g:FuncId}{args:List V}{ds:List D}{o:Nat->ab}{fr:Nat}{ty:TypeId}{sz:Nat}{es:List D}
 (fT:cA o args=some ds) (qH:D.kO es=true) (h:cR P g (ds.map .d) (fun _=> .no) 0 (fun v o1 _=>(∃j ep,v= .osl j ep/\o1 j= .arr ep ty sz es)\/(v= .bO/\es=[]/\0<sz)) (fun _ _ _=>False)):
 zi P g args (V.bK args) o fr (.osl fr 0) [(fr, .arr 0 ty sz es)]:=by
 refine⟨h.1,fun o' us M φ w vals hag dF hH hd=> ?_⟩
 obtain⟨f1,f2,f3,f4,f5⟩:=dH hH (V.bK args) (fun id aG=>(hag id aG).2)
 generalize hHF:(⟨o',us⟩:Hp).put (dw (⟨o',us⟩:Hp).o (V.bK args))=HF at f1 f2 f3
 let cU:Place:=fun _=> .nilFunc
 have x7:∀b, ¬dt cU (hp (fun _=> .no) 0) b:=by rintro b ⟨id,hl,_⟩;simp[hp,ab.live]at hl
 have hM:∀b,aA M φ HF b->b<w.heap.size:=fun b hb=>hb.elim (f1.B9 b) fun hl=>(f1.ours b hl).2
 have yQ:D.aP (aA M φ HF) w ds vals.toList:=dT f1 args ds _ (fun id aG=>by rw[f3 id aG];show(o' id).fz=(o id).fz;rw[(hag id aG).1]) fT (V.bg f2 _ _ hd)
 refine(h.2 (aA M φ HF) cU w vals (mb cU hM) ((V.cM _ _).2 (D.bg (w:=w) (w':=w) (B:=aA M φ HF) (fun b _ hB=>⟨rfl,fun h=>h.elim hB (x7 b)⟩) _ _ yQ))).mono ?_
 rintro e w' ⟨jN,o1,n1,v,k1,k2,k3⟩
 have hk:fg (fun _=>False) w w':=⟨k2.keep.os,k2.keep.tape,k2.keep.output,k2.keep.size,fun k hk _=>k2.keep.block k hk (x7 k)⟩
 have Hj:(⟨o',us⟩:Hp).put [(fr, .arr 0 ty sz es)]=⟨put o' [(fr, .arr 0 ty sz es)],fun id=>us id\/id=fr⟩:=by
  simp only[Hp.put]
  congr 1
  funext id
  simp
 have fin:∀ (val:Value) (xs:List Value),(∀b,fk val=some b->w.heap.size<=b/\b<w'.heap.size)->0<sz->w'.ownsRow 0 ty sz val es.length xs->
  (gW (aA M (aM φ fr val) ((⟨o',us⟩:Hp).put [(fr, .arr 0 ty sz es)])) w' sz es xs)->
  val.oneCell'=true->
  ∃aS,aI M aS ⟨put o' [(fr, .arr 0 ty sz es)],fun id=>us id\/id=fr⟩ w'/\Trans φ ⟨o',us⟩ w aS ⟨put o' [(fr, .arr 0 ty sz es)],fun id=>us id\/id=fr⟩ w'/\
   ∃NC,Ending.returned val= .returned NC/\V.den (aA M aS ⟨put o' [(fr, .arr 0 ty sz es)],fun id=>us id\/id=fr⟩) aS ⟨put o' [(fr, .arr 0 ty sz es)],fun id=>us id\/id=fr⟩ w' (.osl fr 0) NC:=by
  intro val xs kL eo dY cz Y1
  have rm:=jG hH hk dF (.arr 0 ty sz es) val kL (by
   unfold bf
   rw[show((⟨o',us⟩:Hp).put [(fr, .arr 0 ty sz es)]).o fr= .arr 0 ty sz es by simp]
   refine⟨eo,xs, ?_,cz⟩
   rw[show aM φ fr val fr=val by simp]
   exact dY)
  have Vi:=fm (φ:=φ) (H:=⟨o',us⟩) hk dF (.arr 0 ty sz es) val (fun b hb=>(kL b hb).1)
  rw[Hj]at rm Vi
  refine⟨aM φ fr val,rm,Vi,val,rfl,Y1, .inr rfl,fun e he=> ?_⟩
  have qz:0=e:=by
   have:(put o' [(fr,ab.arr 0 ty sz es)] fr).cJ=some 0:=by simp[put,ab.cJ]
   exact Tq
  exact⟨af,fun _=>ao⟩
 cases e with
 |outgrown=>exact k3.elim
 |panicked ch=>obtain⟨_,_,_,h⟩:=k3;exact h.elim
 |returned val=>
  obtain⟨g1,⟨j,ep,rfl,hj⟩|⟨rfl,rfl,eo⟩⟩:=k3
  ·obtain⟨v0,v1,v2⟩:=g1
   have gG:val=jN j:=(v2 ep (by show(o1 j).cJ=some ep;rw[hj];rfl)).2 rfl
   have dm:∀b,fk val=some b->dt jN (hp o1 n1) b:=fun b hb=>⟨j,by show(o1 j).live=true;rw[hj];rfl,by rw[<- gG];exact hb⟩
   have kL:∀b,fk val=some b->w.heap.size<=b/\b<w'.heap.size:=fun b hb=>⟨(k2.grow b (dm b hb)).resolve_left (x7 b),(k1.ours b (dm b hb)).2⟩
   have ND:=k1.ok j
   unfold bf at ND
   rw[show(hp o1 n1).o j= .arr ep ty sz es from hj]at ND
   obtain⟨eo,xs,dY,cz⟩:=ND
   obtain⟨evs,e1,e2,e3⟩:=cz
   exact fin val xs kL eo (by rw[gG];exact dY) ⟨evs,e1,e2,D.mH _ _ qH e3⟩ v0
  ·have g1:val= .slice none 0 0:=g1
   subst g1
   exact acN
theorem zi.Rv {P:Program}{g:FuncId}{args:List V}{ds:List D}{o0 o:Nat->ab}{rd:List Nat}{fr:Nat}{v:V}{Δ:List (Nat×ab)}(aG:V.bK args=[])(fT:cA o0 args=some ds)
 (h:zi P g (ds.map .d) rd o fr v Δ):zi P g args rd o fr v Δ:=
 ⟨h.1,fun o' us M φ w vals h1 h2 hH hd=>h.2 o' us M φ w vals h1 h2 hH ((V.cM _ _).2 (dT hH args ds _ (by rw[aG];intro id h;cases h) fT hd))⟩
def Vj(P:Program)(f:FuncId):Prop:=
 Enters P f/\∀ (w:World) (b:Nat) (es:Array MapEntry) (clock:Nat),w.heap[b]? =some (.map es clock)->
  Calls P f #[.map (some b)] w fun e w'=>e= .returned (.map (some w.heap.size))/\w'=w.alloc (.map es clock)
theorem cR.Y2 {P:Program}{f:FuncId}(h:Vj P f){o:Nat->ab}{nx id:Nat}{kt vt:TypeId}{l:List (D×D)}(ho:o id= .map kt vt l){K X:V->(Nat->ab)->Nat->Prop}
 (hK:K (.mp nx) (aM o nx (.map kt vt l)) (nx+1)):cR P f [.mp id] o nx K X:=by
 refine⟨h.1,fun M φ w vals hH hd=> ?_⟩
 have hlen:=V.aL _ _ hd
 obtain⟨v,rfl⟩:∃v,vals=#[v]:=by
  match vals,hlen with
  |⟨[v]⟩,_=>exact⟨v,rfl⟩
 obtain⟨v',uu,QV⟩:=V.ez _ _ 0 (.mp id) hd rfl
 simp only[List.getElem?_cons_zero,Option.some.injEq]at uu
 subst uu
 have bw:=hH.ok id
 have Cl:(hp o nx).o id= .map kt vt l:=ho
 simp only[bf,Cl]at bw
 obtain⟨b,es,clock,e1,e2,e3,e4⟩:=bw
 have hv:v=φ id:=QV.2.2 (by rw[Cl];rfl)
 rw[hv,e1]
 refine(h.2 w b es clock e2).mono fun e w' ⟨he,hw⟩=> ?_
 subst he;subst hw
 have dF: ¬ (hp o nx).us nx:=fun h=>Nat.lt_irrefl _ h
 have Hj:(hp o nx).put [(nx, .map kt vt l)]=hp (aM o nx (.map kt vt l)) (nx+1):=by
  simp only[Hp.put,hp]
  congr 1
  funext j
  simp only[List.map_cons,List.map_nil,List.mem_singleton,eq_iff_iff]
  omega
 have hvb:∀c,fk (.map (some w.heap.size))=some c->w.heap.size<=c/\c<(w.alloc (.map es clock)).heap.size:=by
  intro c hc;simp[fk]at hc;subst hc;simp
 have ht:=fm (φ:=φ) (H:=hp o nx) (cV w (.map es clock)) dF (.map kt vt l) (.map (some w.heap.size)) fun c hc=>(hvb c hc).1
 refine⟨aM φ nx (.map (some w.heap.size)),aM o nx (.map kt vt l),nx+1, .mp nx, ?_, ?_, ?_,hK⟩
 ·rw[<- Hj]
  refine jG hH (cV w _) dF _ _ hvb ?_
  unfold bf
  simp only[bY,aW,if_true]
  exact⟨w.heap.size,es,clock,rfl,heap_alloc_new w _,e3,aY.mono (ht.blocks (M:=M)) l _ e4⟩
 ·rw[<- Hj];exact ht
 ·rw[<- Hj];exact⟨rfl,ao,fun _=>ao⟩
end Go.Proofs.YtonbelhklnmjnaaGreat
