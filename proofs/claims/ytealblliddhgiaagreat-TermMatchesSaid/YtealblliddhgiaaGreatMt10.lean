/-
  A PART OF THE PROOF. Conditions: none.
-/
import Derived.Test.YtealblliddhgiaaGreatMt9
set_option linter.unusedSimpArgs false
set_option linter.unusedVariables false
namespace Go.Proofs.YtealblliddhgiaaGreat
abbrev D.i (n:Int):D:= .int .i64 n
structure om where
 name:List UInt8
 args:Int
structure aW where
 cons:List om
 dz:List om
inductive Tm where
 |mk (op n:Int) (kids:List Tm)
 deriving Inhabited
structure TB where
 var:Int
 term:Tm
def Tm.op:Tm->Int| .mk op _ _=>op
def Tm.n:Tm->Int| .mk _ n _=>n
def Tm.kids:Tm->List Tm| .mk _ _ l=>l
theorem Tm.eta (t:Tm):Tm.mk t.op t.n t.kids=t:=by cases t;rfl
theorem Tm.ind {P:Tm->Prop}(h:∀op n kids,(∀k∈kids,P k)->P (.mk op n kids)):∀t,P t:=
 fun t=>Tm.rec (motive_1:=P) (motive_2:=fun l=>∀k∈l,P k) (fun op n kids ih=>h op n kids ih) (fun _ h=>by cases h)
  (fun x l hx hl k hk=>(List.mem_cons.1 hk).elim (fun e=>e ▸ hx) (hl k)) t
mutual
def Tm.d:Tm->D
 | .mk op n kids=> .agg [.i op, .i n, .sl (Tm.ds kids)]
def Tm.ds:List Tm->List D
 |[]=>[]
 |t::l=>t.d::Tm.ds l
end
theorem Tm.A8:∀l:List Tm,Tm.ds l=l.map Tm.d
 |[]=>rfl
 |t::l=>by simp[Tm.ds,Tm.A8 l]
theorem Tm.PU (t:Tm):t.d= .agg [.i t.op, .i t.n, .sl (t.kids.map Tm.d)]:=by cases t;simp[Tm.d,Tm.A8,Tm.op,Tm.n,Tm.kids]
@[go_sem] theorem Tm.UH (t:Tm):D.agg [.i t.op, .i t.n, .sl (t.kids.map Tm.d)]=t.d:=(Tm.PU t).symm
@[go_sem] theorem Tm.Td (t:Tm):D.cells t.d=[.i t.op, .i t.n, .sl (t.kids.map Tm.d)]:=by rw[Tm.PU];rfl
theorem Tm.ej {P:Tm->Prop}(h:∀t:Tm,(∀k∈t.kids,P k)->P t):∀t,P t:=Tm.ind fun op n kids ih=>h (.mk op n kids) ih
theorem Tm.DV (op n:Int)(l:List Tm):(Tm.mk op n l).d= .agg [.i op, .i n, .sl (l.map Tm.d)]:=by simp[Tm.d,Tm.A8]
@[reducible] def om.d (x:om):D:= .agg [.str x.name, .i x.args]
@[reducible] def aW.d (s:aW):D:= .agg [.sl (s.cons.map om.d), .sl (s.dz.map om.d)]
@[reducible] def TB.d (b:TB):D:= .agg [.i b.var, .i b.term.op, .i b.term.n, .sl (b.term.kids.map Tm.d)]
mutual
def Tm.fits:Tm->Prop
 | .mk _ _ kids=>kids.length<=9223372036854775807/\Tm.ze kids
def Tm.ze:List Tm->Prop
 |[]=>True
 |t::l=>t.fits/\Tm.ze l
end
theorem Tm.u9:∀l:List Tm,Tm.ze l↔∀k∈l,k.fits
 |[]=>by simp[Tm.ze]
 |t::l=>by simp[Tm.ze,Tm.u9 l]
theorem Tm.bD (t:Tm):t.fits↔t.kids.length<=9223372036854775807/\∀k∈t.kids,k.fits:=by cases t;simp[Tm.fits,Tm.u9,Tm.kids]
mutual
def Tm.eB:Tm->Nat
 | .mk _ _ kids=>1+Tm.eV kids
def Tm.eV:List Tm->Nat
 |[]=>0
 |k::l=>Nat.max k.eB (Tm.eV l)
end
theorem Tm.sU:∀ {l:List Tm} {k:Tm},k∈l->k.eB<=Tm.eV l
 |x::l,k,h=>by
  simp only[Tm.eV]
  rcases List.mem_cons.1 h with rfl|h
  ·exact Nat.le_max_left _ _
  ·exact Nat.le_trans (Tm.sU h) (Nat.le_max_right _ _)
theorem Tm.gR {t k:Tm}(h:k∈t.kids):k.eB+1<=t.eB:=by
 cases t;simp only[Tm.kids]at h;simp only[Tm.eB];have:=Tm.sU h;omega
mutual
def pre:Tm->Int->List (Tm×Int)
 | .mk op n kids,d=>(.mk op n kids,d)::Iw kids (d+1)
def Iw:List Tm->Int->List (Tm×Int)
 |[],_=>[]
 |k::l,d=>pre k d++Iw l d
end
theorem DW(l:List Tm)(d:Int):Iw l d=l.flatMap fun k=>pre k d:=by
 induction l with
 |nil=>rfl
 |cons k l ih=>simp[Iw,ih]
theorem mo(t:Tm)(d:Int):pre t d=(t,d)::t.kids.flatMap fun k=>pre k (d+1):=by cases t;simp[pre,DW,Tm.kids]
def e8(n low high:Int):Bool:=decide (low<=n)&&decide (n<=high)
def letterF(b:UInt8):Bool:= !((decide ((b.toNat:Int)<97)||decide (122<(b.toNat:Int)))&&(decide ((b.toNat:Int)<65)||decide (90<(b.toNat:Int))))
def jm(s:List UInt8):Bool:=s.all letterF&&e8 s.length 1 8
def cd:List om->List (List UInt8)->Option (List (List UInt8))
 |[],before=>some before
 |x::l,before=>if before.any (· ==x.name)then none else if(!jm x.name|| !e8 x.args 0 4)=true then none else cd l (before++[x.name])
def fB:List UInt8:=[70,97,108,115,101]
def tB:List UInt8:=[84,114,117,101]
def lT(x:om)(s:List UInt8):Bool:=x.name==s&&x.args==0
def pb(s:aW):Bool:=
 if(!e8 s.cons.length 2 12||decide (8<(s.dz.length:Int)))=true then false else
 match s.cons with
 |a::b::_=>if(!lT a fB|| !lT b tB)=true then false else
  match cd s.cons []with
  |none=>false
  |some l=>(cd s.dz l).isSome
 |_=>false
mutual
def hU:Tm->Int->Int->Int
 | .mk _ _ kids,left,depth=>if left<1\/depth<1 then -1 else cf kids (left - 1) (depth - 1)
def cf:List Tm->Int->Int->Int
 |[],left,_=>left
 |k::l,left,depth=>if 0<=left then cf l (hU k left depth) depth else left
end
def jn(l:List om)(n:Int):Int:=match l[n.toNat]? with|some x=>x.args|none=>0
def bA(s:aW)(t:Tm):Bool:=
 let k:Int:=t.kids.length
 if t.op=1 then k==0&&e8 t.n 0 19
 else if t.op=2 then k==0&&e8 t.n (-1000000) 1000000
 else if t.op=3 then e8 t.n 0 (s.cons.length - 1)&&k==jn s.cons t.n
 else if t.op=4 then e8 t.n 0 (s.dz.length - 1)&&k==jn s.dz t.n
 else if t.op=5 then e8 t.n 0 (s.dz.length - 1)&&decide (k<jn s.dz t.n)
 else if t.op=8 then k==2&&e8 t.n 0 19
 else if(e8 t.op 6 15)=true then k==2&&t.n==0
 else false
mutual
def gI(s:aW):Tm->Bool
 | .mk op n kids=>bA s (.mk op n kids)&&rF s kids
def rF(s:aW):List Tm->Bool
 |[]=>true
 |k::l=>gI s k&&rF s l
end
def et(s:aW)(t:Tm):Bool:=decide (0<=hU t 40 12)&&gI s t
mutual
def gf:Tm->Bool
 | .mk op _ kids=>rG kids&&((decide (1<=op)&&decide (op<=3))||op==5)
def rG:List Tm->Bool
 |[]=>true
 |k::l=>gf k&&rG l
end
mutual
def hY:Tm->Tm->Bool
 | .mk op n kids, .mk op' n' ve=>op==op'&&n==n'&&kids.length==ve.length&&gJ kids ve
def gJ:List Tm->List Tm->Bool
 |[],_=>true
 |k::l,k'::l'=>hY k k'&&gJ l l'
 |_::_,[]=>true
end
def iz(t:Tm):Bool:=decide (0<=hU t 50 14)
def fq(l:List om):Bool:=l.all fun x=>decide ((x.name.length:Int)<=30)
def kE(s:aW):Bool:= !(decide (16<(s.cons.length:Int))||decide (12<(s.dz.length:Int)))&&fq s.cons&&fq s.dz
end Go.Proofs.YtealblliddhgiaaGreat
namespace Go.Proofs.YtealblliddhgiaaGreat
def lB(id:Nat)(K X:V->(Nat->ab)->Nat->Prop)(e:fO)(s:S):Prop:=
 match e with
 | .normal=>∃nf m en p c d st pd,s.o id= .loop nf m en p c d st pd/\K (.d (.bool true)) (ax s.o id (.loop nf m en p c d .ready none)) s.nx
 | .ret=>∃nf m en p c d st pd,s.o id= .loop nf m en p c d st pd/\K (.d (.bool false)) (ax s.o id (.loop nf m en p c d .done (some .ret))) s.nx
 | .exit j=>∃nf m en p c d st pd,s.o id= .loop nf m en p c d st pd/\K (.d (.bool false)) (ax s.o id (.loop nf m en p c d .done (some (.exit j)))) s.nx
 | .bJ v=>X v s.o s.nx
def Mb(P:Program)(n b id:Nat)(ft:IC)(K X:V->(Nat->ab)->Nat->Prop)(e:fO)(s:S):Prop:=
 match e with
 | .normal=>∃nf m en p c d pd,s.o id= .loop nf m en p c d .ready pd/\rD P n b true ft (lB id K X) ⟨s.env,ax s.o id (.loop nf m en p c d .busy pd),s.nx⟩
 | .bJ v=>X v s.o s.nx
 |_=>False
section
variable {P:Program}{M:Nat->Prop}{φ cu:Place}{H0:Hp}{w w0:World}{n:Nat}{s:S}{a:Act}{cx:Cx}
theorem zf{id:Nat}{x:ab}{s:S}(bI:id<s.nx)(j:Nat)(hu:(s.H.put [(id,x)]).us j):j<s.nx:=by
 simp only[dK]at hu
 rcases hu with hu|hu
 ·exact hu
 ·subst hu;exact bI
theorem sV{B:Nat->Prop}{H:Hp}{n:Nat}:∀ (ps:List Nat) (vs:List V) (us:List Value) (env:Nat->V) (tmps:Array Value),tmps.size=n->ps.length=vs.length->V.aF B φ H w vs us->ps.all (fun t=>decide (t<n))=true->(∀i,V.den B φ H w (env i) (tmps.getD i undef))->
 ((ps.zip us).foldl (fun tmps p=>tmps.setIfInBounds p.1 p.2) tmps).size=n/\∀i,V.den B φ H w (rq env ps vs i) (((ps.zip us).foldl (fun tmps p=>tmps.setIfInBounds p.1 p.2) tmps).getD i undef)
 |[],[],us,env,tmps,dL,_,hd,_,he=>by simp only[V.aF]at hd;subst hd;exact⟨dL,he⟩
 |[],v::vs,us,env,tmps,_,h,_,_,_=>by simp at h
 |t::ps,[],us,env,tmps,_,h,_,_,_=>by simp at h
 |t::ps,v::vs,us,env,tmps,dL,hl,hd,hp,he=>by
  obtain⟨u,us,rfl,h1,h2⟩:=hd
  simp only[List.all_cons,Bool.and_eq_true,decide_eq_true_eq]at hp
  simp only[List.zip_cons_cons,List.foldl_cons,rq]
  refine sV ps vs us (ax env t v) (tmps.setIfInBounds t u) (by simp[dL]) (by simpa using hl) h2 hp.2 (fun i=> ?_)
  simp only[aK]
  by_cases hi:i=t
  ·subst hi
   have:(tmps.setIfInBounds i u).getD i undef=u:=by simp[Array.getD,dL,hp.1]
   rw[if_pos rfl,this];exact h1
  ·have:(tmps.setIfInBounds t u).getD i undef=tmps.getD i undef:=by
    simp only[Array.getD_eq_getD_getElem?]
    rw[Array.getElem?_setIfInBounds_ne (Ne.symm hi)]
   rw[if_neg hi,this];exact he i
theorem dy.sP (bc:P.follows .mixedOrders=true){id:Nat}{args:List V}{o:Nat->ab}{nx:Nat}{K X:V->(Nat->ab)->Nat->Prop}{env:List V}{ps:List Nat}{kj ft:IC}{st:LoopState}{pd:Option jQ}
 (ho:o id= .loop P.funcs.size n env ps kj ft st pd) (bI:id<nx) (Ix:ps.all (fun t=>decide (t<n))=true) (hl:args.length=ps.length)
 (h:rD P n nx true kj (Mb P n nx id ft K X) ⟨rq (bq env) ps args,o,nx⟩):dy P id args o nx K X:=by
 refine⟨by rw[ho];rfl,fun M φ w vals b hH hd dp=> ?_⟩
 have bB:=hH.ok id
 simp only[aL,hp,ho]at bB
 obtain⟨b',r,h1,h2,h0,h3,h4,h5,h6,h7,h8,h9⟩:=bB
 rw[dp]at h1;simp at h1;subst h1
 have hlen:=V.aE _ _ hd
 have dL:vals.size=r.params.size:=by
  have:r.params.toList.length=ps.length:=by rw[h5]
  simp at hlen this;omega
 let tm:Array Value:=(ps.zip vals.toList).foldl (fun tmps p=>tmps.setIfInBounds p.1 p.2) r.tmps
 have PV:(r.params.zip vals).foldl (fun tmps (p:Tmp×Value)=>tmps.setIfInBounds p.1 p.2) r.tmps=tm:=by
  rw[<- Array.foldl_toList,Array.toList_zip,h5]
 obtain⟨p1,p2⟩:=sV (B:=aj M φ (hp o nx)) (H:=hp o nx) (φ:=φ) (w:=w) ps args vals.toList (bq env) r.tmps h6 hl.symm hd Ix h9
 refine⟨r.fn,tm,r.assign,r.body, ?_,fun k=> ?_⟩
 ·simp only[Instr.yield,Sem.run_bind,jL h2,Result.andThen_ok,dL,ne_eq,not_true_eq_false,if_false,Sem.run_pure]
  rw[<- PV]
 ·
   let s0:S:=⟨rq (bq env) ps args,o,nx⟩
   let a0:Act:={tmps:=tm,defers:=[]}
   have ua:bY M φ (hp o nx) w n ⟨[],true⟩ φ s0 a0 w:=⟨hH,Trans.refl _ _ _,p1,⟨[],rfl,List.nodup_nil,fun _=>rfl,fun r hr=>by cases hr⟩,p2⟩
   have sW:∀ {aB s' a' w'},bY M φ (hp o nx) w n ⟨[],true⟩ aB s' a' w'->a'.defers=[]:=by
    intro aB s' a' w' hs
    obtain⟨ms,g1,_,g3,_⟩:=hs.defers
    rw[g3 rfl]at g1;exact g1
   have PW:∀ {aB s' a' w'} {nf m:Nat} {en:List V} {p:List Nat} {c d:IC} {st:LoopState} {pd:Option jQ} (st':LoopState) (pd':Option jQ),bY M φ (hp o nx) w n ⟨[],true⟩ aB s' a' w'->s'.o id= .loop nf m en p c d st pd->
    ∃r',w'.heap[b]? =some (.loop r')/\r'.state=st/\r'.pending=pd.map jQ.code/\
     bY M φ (hp o nx) w n ⟨[],true⟩ aB ⟨s'.env,ax s'.o id (.loop nf m en p c d st' pd'),s'.nx⟩ a' {w' with heap:=w'.heap.setIfInBounds b (.loop {r' with state:=st',pending:=pd'.map jQ.code})}:=by
    intro aB s' a' w' nf m en p c d st pd st' pd' hs jz
    have Lr:aB id= .pointer (some ⟨b,0,none⟩):=by
     have:=(hs.tr.rel.row id bI (by show(s'.o id).bN=true;rw[jz];rfl)).2
     rw[this];exact dp
    have sX:id<s'.nx:=hs.tr.rel.us id bI
    obtain⟨r',r1,r2,r3,r4,r5⟩:=uO (st':=st') (pd':=pd') hs.heap sX (show s'.H.o id=_ from jz) Lr
    exact⟨r',r1,r2,r3,dW hs r4 r5 rfl (zf sX)⟩
   have ha:=gG (P:=P) (n:=n) (b:=nx) (rd:=true) bc r.assign _ _ s0 (fun _ _ h=>h) (by rw[h7];exact h)
   refine sE h0 (fW (gA (P:=P) (H0:=hp o nx) (b:=nx) (cx:=⟨[],true⟩) (ro:=some b) (fun id hu=>hu) (fun h=>by cases h) r.assign _ s0 φ a0 w ha ua) ?_)
   rintro e a1 w1 ⟨x,s1,iu,hq,pI,hm⟩
   cases e<;>cases x<;>first|(exact hm.elim)|skip
   ·
     obtain⟨nf,m,en,p,c,d,UI,q1,q2⟩:=hq
     obtain⟨r',r1,r2,r3,ED⟩:=PW .busy UI pI q1
     have Mc:(Instr.beginRound b).run P w1= .ok () {w1 with heap:=w1.heap.setIfInBounds b (.loop {r' with state:= .busy,pending:=UI.map jQ.code})}:=by
      have e1:({r' with state:= .busy}:Loop)={r' with state:= .busy,pending:=UI.map jQ.code}:=by rw[<- r3]
      simp only[Instr.beginRound,Sem.run_bind,jL r1,Result.andThen_ok,iw _ r1,r2,Sem.run_pure,e1]
     refine⟨_,Mc, ?_⟩
     have aH:=ED.heap.ok id
     simp only[aL,S.H,aK,if_true]at aH
     obtain⟨b2,r2',_,_,_,_,_,_,_,_,_,_⟩:=aH
     have hb:=gG (P:=P) (n:=n) (b:=nx) (rd:=true) bc r.body _ _ _ (fun _ _ h=>h) (by rw[h8];exact q2)
     refine fW (gA (P:=P) (H0:=hp o nx) (b:=nx) (cx:=⟨[],true⟩) (ro:=some b) (fun id hu=>hu) (fun h=>by cases h) r.body _ _ iu a1 _ hb ED) ?_
     rintro e a2 w2 ⟨x,s2,DA,NL,BZ,Ay⟩
     have fin:∀ {nf m:Nat} {en:List V} {p:List Nat} {c d:IC} {st:LoopState} {pd:Option jQ} (jump:Option jQ) (t:Bool) (st':LoopState),t=jump.isNone->st'=(if jump.isNone then .ready else .done)->s2.o id= .loop nf m en p c d st pd->K (.d (.bool t)) (ax s2.o id (.loop nf m en p c d st' jump)) s2.nx->
      ∃v w',(Instr.endRound b (jump.map jQ.code)).run P w2= .ok v w'/\l7 M φ (hp o nx) w K X (.returned v) w':=by
      intro nf m en p c d st pd jump t st' ht rb nv hK
      obtain⟨r3',g1,g2,g3,NM⟩:=PW st' jump BZ nv
      refine⟨.bool t,_, ?_,DA,_,_,_,NM.heap,NM.tr,by simp only[V.den,D.den],hK⟩
      subst ht;subst rb
      simp only[Instr.endRound,Sem.run_bind,jL g1,Result.andThen_ok,iw _ g1,Sem.run_pure,Option.isNone_map]
     cases e<;>cases x<;>first|(exact Ay.elim)|skip
     ·obtain⟨nf,m,en,p,c,d,st,pd,k1,k2⟩:=NL
      exact fin none true .ready rfl rfl k1 k2
     ·rename_i j
      subst Ay
      obtain⟨nf,m,en,p,c,d,st,pd,k1,k2⟩:=NL
      exact fin (some (.exit _)) false .done rfl rfl k1 k2
     ·obtain⟨nf,m,en,p,c,d,st,pd,k1,k2⟩:=NL
      exact fin (some .ret) false .done rfl rfl k1 k2
     ·obtain⟨val,rfl,k2⟩:=Ay
      exact⟨sW BZ,DA,_,_,_,BZ.heap,BZ.tr,val,rfl,k2,NL⟩
   ·exact hq.elim
   ·exact hq.elim
   ·obtain⟨val,rfl,k2⟩:=hm
    exact⟨sW pI,iu,_,_,_,pI.heap,pI.tr,val,rfl,k2,hq⟩
end
end Go.Proofs.YtealblliddhgiaaGreat
namespace Go.Proofs.YtealblliddhgiaaGreat
def Md(ops:Array Oper)(t t1:Nat):Prop:=
 (∃o1 o2,ops=#[o1,o2]/\o1.op= .call ⟨.builtin .recover,#[],#[]⟩/\o1.dst=some t/\o1.guard=none/\o2.op= .assign (.tmp t)/\o2.dst=some t1/\o2.guard=none)\/
 (∃o1,ops=#[o1]/\t1=t/\o1.op= .call ⟨.builtin .recover,#[],#[]⟩/\o1.dst=some t/\o1.guard=none)
structure zg (P:Program) (g:FuncId) (n t t1:Nat) (ic:IC):Prop where
 get:∃fn id ops c,P.funcs[g]? =some fn/\(fn.name== "runtime.NumGoroutine")=false/\fn.ntmps=n/\fn.results=#[]/\fn.body=some (.seq (.region id ops false) c)/\
  Md ops t t1/\t<n/\t1<n/\low n c=ic
structure Cg (P:Program) (f:FuncId) (n:Nat) (kj ft:IC) (g:FuncId) (t:Nat) (cj:List Operand) (rs:List ResultVar):Prop where
 get:∃fn id o1 o2 a b,P.funcs[f]? =some fn/\(fn.name== "runtime.NumGoroutine")=false/\fn.ntmps=n/\fn.results.toList=rs/\fn.body=some (.seq a (.seq (.region id #[o1,o2] false) b))/\
  o1.op= .makeFunc (.func g) #[] cj.toArray/\o1.dst=some t/\o1.guard=none/\o2.op= .defer ⟨.value (.tmp t),#[],#[]⟩/\o2.dst=none/\o2.guard=none/\t<n/\low n a=kj/\low n b=ft
def DX(K:(Nat->ab)->Nat->Prop)(e:fO)(s:S):Prop:=match e with| .normal| .ret=>K s.o s.nx|_=>False
def A9(P:Program)(n t t1:Nat)(ic:IC)(cj:List V)(u:V)(o:Nat->ab)(nx:Nat)(K:(Nat->ab)->Nat->Prop):Prop:=
 cj.length<=n/\rD P n nx true ic (DX K) ⟨ax (ax (b9 cj) t u) t1 u,o,nx⟩
def wM(P:Program)(n t t1:Nat)(ic:IC)(cj:List V)(rs:List ResultVar)(K X:V->(Nat->ab)->Nat->Prop)(e:fO)(s:S):Prop:=
 match e with
 | .normal| .ret=>A9 P n t t1 ic cj (.d .eh) s.o s.nx fun o nx=>lu P rs K X .ret ⟨s.env,o,nx⟩
 | .bJ v=>A9 P n t t1 ic cj v s.o s.nx fun o nx=>lu P rs K X .ret ⟨s.env,o,nx⟩
 | .exit _=>False
def zh(P:Program)(n t:Nat)(ft:IC)(eW:List Operand)(g:FuncId)(D:List V->fO->S->Prop)(e:fO)(s:S):Prop:=
 match e with
 | .normal=>rD P n s.nx false ft (D (eW.map s.ev)) ⟨ax s.env t (.func (.func g) [] (eW.map s.ev)),s.o,s.nx⟩
 |_=>False
section
variable {P:Program}{M:Nat->Prop}{φ cu:Place}{H H0:Hp}{w w0:World}{n:Nat}{s:S}{a:Act}{cx:Cx}{k:Nat}
theorem DY(bc:P.follows .mixedOrders=true){g:FuncId}{t t1:Nat}{ic:IC}(hg:zg P g n t t1 ic){cj:List V}{u:V}{o:Nat->ab}{nx:Nat}{K:(Nat->ab)->Nat->Prop}(h:A9 P n t t1 ic cj u o nx K)
 {vals:Array Value} {val:Value} {m:FrameMode} (hH:az M φ (hp o nx) w) (hd:V.aF (aj M φ (hp o nx)) φ (hp o nx) w cj vals.toList) (hv:V.den (aj M φ (hp o nx)) φ (hp o nx) w u val)
 (hm:(m= .returning/\val= .nilIface)\/m= .panicking [{v:=val,recovered:=false}]):
 CallsDIn (dD none) k P g vals m w fun e u' w'=>∃v aB o' nx',e= .returned v/\settle u'= .returning/\az M aB (hp o' nx') w'/\Trans φ (hp o nx) w aB (hp o' nx') w'/\K o' nx':=by
 obtain⟨fn,id,ops,c,hf,Kk,Te,yq,oV,DL,ht,xF,nd⟩:=hg.get
 have bI:g<P.funcs.size:=(Array.getElem?_eq_some_iff.1 hf).1
 obtain⟨lV,h⟩:=h
 have hlen:=V.aE _ _ hd
 refine⟨trivial,fun nU cs FO JB=> ?_⟩
 let b:Frame:={(default:Frame)with fn:=g,kind:= .deferred,roundOf:=none}
 let rH:Array Value:=vals++Array.replicate (fn.ntmps - vals.size) undef
 have UJ:rH.size=n:=by simp only[rH,Array.size_append,Array.size_replicate];simp at hlen;omega
 have lr:Frame.enter P g vals .deferred=b.atR {tmps:=rH,defers:=[]} [.code (.seq (.region id ops false) c)]:=by
  simp[Frame.enter,Frame.atR,hf,oV,b,rH]
 obtain⟨m',Xu,aH⟩:∃m',settle m'= .returning/\((recoverD (nU::cs)=none/\m'=m/\val= .nilIface)\/recoverD (nU::cs)=some (val,{nU with mode:=m'}::cs)):=by
  rcases hm with⟨rfl,rfl⟩|rfl
  ·exact⟨.returning,rfl, .inl ⟨by simp[recoverD,FO],rfl,rfl⟩⟩
  ·exact⟨.panicking [{v:=val,recovered:=true}],rfl, .inr (by simp[recoverD,FO])⟩
 have SY:({nU with mode:=m}:Frame)=nU:=by subst FO;rfl
 let a1:Act:={tmps:=(rH.setIfInBounds t val).setIfInBounds t1 val,defers:=[]}
 have Ic:(Code.region id ops false).wpSIn (dD none) k P (fun e a' cs' w'=>e= .normal/\a'=a1/\cs'={nU with mode:=m'}::cs/\w'=w) {tmps:=rH,defers:=[]} (nU::cs) w:=by
  rcases DL with⟨o1,o2,rfl,e1,e2,e3,e4,e5,e6⟩|⟨o1,rfl,rfl,e1,e2,e3⟩
  ·refine wpSIn_region ?_
   have hr:List.range (#[o1,o2]:Array Oper).size=[0,1]:=rfl
   have g0:(#[o1,o2]:Array Oper)[0]? =some o1:=rfl
   have g1:(#[o1,o2]:Array Oper)[1]? =some o2:=rfl
   rw[hr]
   have x1:∀ (ρ:Operand->Value) (w:World),(execOp ρ o1).run P w= .ok .recover w:=by
    intro ρ w
    simp[execOp,e1,resolve,invoke,builtin]
   have x2:∀ (ρ:Operand->Value) (w:World),(execOp ρ o2).run P w= .ok (.value (ρ (.tmp t))) w:=by
    intro ρ w
    simp[execOp,e4]
   have last:∀cs',cs'={nU with mode:=m'}::cs->wpOpsSIn (dD none) k P #[o1,o2] (fun e a' cs' w'=>e= .normal/\a'=a1/\cs'={nU with mode:=m'}::cs/\w'=w) [1] (({tmps:=rH,defers:=[]}:Act).put (some t) val) cs' w:=by
    rintro cs' rfl
    have hw:Region.wanted o2 (yielded #[o1,o2] (({tmps:=rH,defers:=[]}:Act).put (some t) val).tmps)=true:=by simp[Region.wanted,e6]
    have dC:(({tmps:=rH,defers:=[]}:Act).put (some t) val).eval (.tmp t)=val:=by
     have:t<rH.size:=by omega
     simp[Act.put,Act.eval,Array.getD,this]
    simp only[wpOpsSIn,g1,hw,if_true,x2,dC,e5]
    refine⟨fun _ _=>trivial, ?_⟩
    simp[a1,Act.put]
   have hw:Region.wanted o1 (yielded #[o1,o2] rH)=true:=by simp[Region.wanted,e3]
   rw[wpOpsSIn,g0]
   refine⟨fun _ _=>trivial, ?_⟩
   simp only[hw,if_true,x1,e2]
   rcases aH with⟨hr,rfl,rfl⟩|hr
   ·simp only[hr]
    exact last _ (by rw[SY])
   ·simp only[hr]
    exact last _ rfl
  ·refine wpSIn_region ?_
   have hr:List.range (#[o1]:Array Oper).size=[0]:=rfl
   have g0:(#[o1]:Array Oper)[0]? =some o1:=rfl
   rw[hr]
   have x1:∀ (ρ:Operand->Value) (w:World),(execOp ρ o1).run P w= .ok .recover w:=by
    intro ρ w
    simp[execOp,e1,resolve,invoke,builtin]
   have same:a1=({tmps:=rH,defers:=[]}:Act).put (some t1) val:=by
    simp only[a1,Act.put]
    congr 1
    apply Array.ext_getElem?
    intro j
    simp only[Array.getElem?_setIfInBounds]
    by_cases hj:t1=j
    ·subst hj;simp
    ·simp[hj]
   have last:∀cs',cs'={nU with mode:=m'}::cs->wpOpsSIn (dD none) k P #[o1] (fun e a' cs' w'=>e= .normal/\a'=a1/\cs'={nU with mode:=m'}::cs/\w'=w) [] (({tmps:=rH,defers:=[]}:Act).put (some t1) val) cs' w:=by
    rintro cs' rfl
    simp only[wpOpsSIn]
    exact⟨trivial,same.symm,trivial,trivial⟩
   have hw:Region.wanted o1 (yielded #[o1] rH)=true:=by simp[Region.wanted,e3]
   rw[wpOpsSIn,g0]
   refine⟨fun _ _=>trivial, ?_⟩
   simp only[hw,if_true,x1,e2]
   rcases aH with⟨hr,rfl,rfl⟩|hr
   ·simp only[hr]
    exact last _ (by rw[SY])
   ·simp only[hr]
    exact last _ rfl
 obtain⟨er,ar,csr,wr,hl,⟨rfl,rfl,rfl,Zu⟩,ct⟩:=Ic b [.code c] rfl rfl trivial (fun d hd=>by simp[dD]at hd)
 rw[Zu]at ct
 let s0:S:=⟨ax (ax (b9 cj) t u) t1 u,o,nx⟩
 have ua:bY M φ (hp o nx) w n ⟨[],true⟩ φ s0 a1 w:=by
  refine⟨hH,Trans.refl _ _ _,by simp[a1,UJ],⟨[],rfl,List.nodup_nil,fun _=>rfl,fun r hr=>by cases hr⟩,fun i=> ?_⟩
  have dq:=sD (m:=fn.ntmps - vals.size) hd i
  simp only[s0,a1,aK]
  have S2:t<rH.size:=by omega
  have UK:t1<rH.size:=by omega
  by_cases h1:i=t1
  ·subst h1
   simp only[if_true]
   have:((rH.setIfInBounds t val).setIfInBounds i val).getD i undef=val:=by simp[Array.getD,UK]
   rw[this];exact hv
  ·simp only[h1,if_false]
   have e1:((rH.setIfInBounds t val).setIfInBounds t1 val).getD i undef=(rH.setIfInBounds t val).getD i undef:=by
    simp only[Array.getD_eq_getD_getElem?]
    rw[Array.getElem?_setIfInBounds_ne (Ne.symm h1)]
   rw[e1]
   by_cases h2:i=t
   ·subst h2
    simp only[if_true]
    have:(rH.setIfInBounds i val).getD i undef=val:=by simp[Array.getD,S2]
    rw[this];exact hv
   ·simp only[h2,if_false]
    have e1:(rH.setIfInBounds t val).getD i undef=rH.getD i undef:=by
     simp only[Array.getD_eq_getD_getElem?]
     rw[Array.getElem?_setIfInBounds_ne (Ne.symm h2)]
    rw[e1];exact dq
 have Zv:=gG (P:=P) (n:=n) (b:=nx) (rd:=true) bc c _ _ s0 (fun _ _ h=>h) (by rw[nd];exact h)
 obtain⟨e,a',w',⟨x,s',aB,hq,jA,hx⟩,BX⟩:=gA (P:=P) (H0:=hp o nx) (b:=nx) (cx:=⟨[],true⟩) (ro:=none) (fun id hu=>hu) (fun h=>by cases h) c _ s0 φ a1 w Zv ua b [] ({nU with mode:=m'}::cs) rfl bI
 have i0:(lone (b.atR {tmps:=rH,defers:=[]} [.code (.seq (.region id ops false) c)]) (nU::cs) w).fenced P (dD none):=fenced_calm (n:=0) trivial fV rfl
 have Kl:StepsIn (Machine.fenced P (dD none)) P (lone (b.atR {tmps:=rH,defers:=[]} [.code (.seq (.region id ops false) c)]) (nU::cs) w) (lone (b.atR a1 [.code c]) ({nU with mode:=m'}::cs) w):= .head i0 stepR_seq ct
 have sW:a'.defers=[]:=by
  obtain⟨ms,g1,_,g3,_⟩:=jA.defers
  rw[g3 rfl]at g1;exact g1
 have PX:∀tm:Array Value,∃v,(results fn tm).run P w'= .ok v w':=by
  intro tm
  refine⟨_,mc (vals:=[]) ?_⟩
  rw[yq];rfl
 rw[lr]
 obtain⟨v,l5⟩:=PX a'.tmps
 cases e<;>cases x<;>first|(exact hx.elim)|(exact hq.elim)|skip
 ·exact⟨.returned v,m',w',_,⟨v,aB,s'.o,s'.nx,rfl,Xu,jA.heap,jA.tr,hq⟩,StepsIn.trans Kl (StepsIn.trans BX (.one (fenced_calm (n:=0) (fr:=b.atR a' []) trivial fV rfl) (stepR_end rfl))),rfl,rfl,rfl,sW,fn,hf,l5⟩
 ·obtain⟨todo,hs⟩:=BX.1 rfl
  exact⟨.returned v,m',w',_,⟨v,aB,s'.o,s'.nx,rfl,Xu,jA.heap,jA.tr,hq⟩,StepsIn.trans Kl hs,rfl,rfl,rfl,sW,fn,hf,l5⟩
theorem eR.zi (bc:P.follows .mixedOrders=true){f g:FuncId}{kj ft vf:IC}{t m r r1:Nat}{eW:List Operand}{rs:List ResultVar}(hf:Cg P f n kj ft g t eW rs)(hg:zg P g m r r1 vf)
 {args:List V} {o:Nat->ab} {nx:Nat} {K X:V->(Nat->ab)->Nat->Prop} (hl:args.length<=n)
 (h:rD P n nx true kj (zh P n t ft eW g fun cj=>wM P m r r1 vf cj rs K X) ⟨b9 args,o,nx⟩):eR P f args o nx K X:=by
 obtain⟨fn,id,o1,o2,ca,cb,Dw,Kk,Te,yq,oV,e1,e2,e3,e4,e5,e6,ht,Zw,BN⟩:=hf.get
 obtain⟨gn,_,_,gc,Zx,Me,_,_,Mf,_⟩:=hg.get
 refine⟨⟨fn,Dw,Kk,by rw[oV];rfl⟩,fun M φ w vals hH hd=> ?_⟩
 have hlen:=V.aE _ _ hd
 let s0:S:=⟨b9 args,o,nx⟩
 let a0:Act:={tmps:=vals++Array.replicate (fn.ntmps - vals.size) undef,defers:=[]}
 have ua:bY M φ (hp o nx) w n ⟨[],true⟩ φ s0 a0 w:=by
  refine⟨hH,Trans.refl _ _ _, ?_,⟨[],rfl,List.nodup_nil,fun _=>rfl,fun r hr=>by cases hr⟩,sD hd⟩
  simp only[a0,Array.size_append,Array.size_replicate];simp at hlen;omega
 have ha:=gG (P:=P) (n:=n) (b:=nx) (rd:=true) bc ca _ _ s0 (fun _ _ h=>h) (by rw[Zw];exact h)
 refine yj (ro:=none) (k:=0) (me Dw oV (vZ (fW (gA (P:=P) (H0:=hp o nx) (b:=nx) (cx:=⟨[],true⟩) (ro:=none) (fun id hu=>hu) (fun h=>by cases h) ca _ s0 φ a0 w ha ua) ?_)))
 rintro e a1 w1 ⟨x,s1,iu,hq,pI,hm⟩
 cases e<;>cases x<;>first|(exact hm.elim)|(exact hq.elim)|skip
 have sW:a1.defers=[]:=by
  obtain⟨ms,g1,_,g3,_⟩:=pI.defers
  rw[g3 rfl]at g1;exact g1
 let cv:Array Value:=(eW.map a1.eval).toArray
 let fv:Value:= .func (.func g) #[] cv
 let dd:Deferred:={target:= .fn (.func g) cv,args:=#[]}
 let a2:Act:={tmps:=a1.tmps.setIfInBounds t fv,defers:=[dd]}
 have Km:V.aF (aj M iu s1.H) iu s1.H w1 (eW.map s1.ev) cv.toList:=by
  simpa[cv]using jE (M:=M) (φ:=iu) (H:=s1.H) (w:=w1) s1 a1 pI.env eW
 refine vZ (fW (Q:=fun e a w=>e= .normal/\a=a2/\w=w1) (nN (k:=0) (wpIn_region_list ?_)) ?_)
 ·have y1:Region.wanted o1 (yielded #[o1,o2] a1.tmps)=true:=by simp[Region.wanted,e3]
  have y2:∀tm,Region.wanted o2 (yielded #[o1,o2] tm)=true:=by intro tm;simp[Region.wanted,e6]
  have dC:(a1.put (some t) fv).eval (.tmp t)=fv:=by
   have:t<a1.tmps.size:=by rw[pI.size];exact ht
   simp[Act.put,Act.eval,Array.getD,this]
  show wpListIn (dD none) 0 P #[o1,o2] _ [o1,o2] a1 w1
  unfold wpListIn
  rw[if_pos y1]
  have x1:(execOp a1.eval o1).run P w1= .ok (.value fv) w1:=by simp[execOp,e1,fv,cv,Instr.makeFunc]
  refine jJ (fun c hc=>by rw[e1]at hc;cases hc) ?_
  rw[x1]
  show wpListIn (dD none) 0 P #[o1,o2] _ [o2] (a1.put o1.dst fv) w1
  rw[e2]
  unfold wpListIn
  rw[if_pos (y2 _)]
  have x2:(execOp (a1.put (some t) fv).eval o2).run P w1= .ok (.defer dd) w1:=by
   simp[execOp,e4,resolve,dC,Deferred.ofValue,fv,dd]
  refine⟨fun _ _=>trivial, ?_⟩
  have:(o2.semAt (dD none).round (a1.put (some t) fv).eval)=execOp (a1.put (some t) fv).eval o2:=rfl
  rw[this,x2]
  unfold Oper.uponIn
  simp only[e5,wpListIn,Act.put,sW,a2,and_self]
 rintro e a w2 ⟨rfl,rfl,rfl⟩
 have xF:t<a1.tmps.size:=by rw[pI.size];exact ht
 let s2:S:=⟨ax s1.env t (.func (.func g) [] (eW.map s1.ev)),s1.o,s1.nx⟩
 have ED:bY M iu s1.H w2 n ⟨[dd],false⟩ iu s2 a2 w2:=by
  refine⟨pI.heap,Trans.refl _ _ _,by simp[a2,pI.size],⟨[],rfl,List.nodup_nil,fun _=>rfl,fun r hr=>by cases hr⟩,fun i=> ?_⟩
  simp only[s2,a2,aK]
  by_cases h1:i=t
  ·subst h1
   have:(a1.tmps.setIfInBounds i fv).getD i undef=fv:=by simp[Array.getD,xF]
   simp only[if_true];rw[this]
   exact⟨#[],cv,rfl,rfl,Km⟩
  ·have:(a1.tmps.setIfInBounds t fv).getD i undef=a1.tmps.getD i undef:=by
    simp only[Array.getD_eq_getD_getElem?]
    rw[Array.getElem?_setIfInBounds_ne (Ne.symm h1)]
   simp only[h1,if_false];rw[this]
   exact pI.env i
 have hb:=gG (P:=P) (n:=n) (b:=s1.nx) (rd:=false) bc cb _ _ s2 (fun _ _ h=>h) (by rw[BN];exact hq)
 refine fW (gA (P:=P) (H0:=s1.H) (b:=s1.nx) (cx:=⟨[dd],false⟩) (ro:=none) (fun id hu=>hu) (fun _=>rfl) cb _ s2 iu a2 w2 hb ED) ?_
 rintro e a3 w3 ⟨x,s3,PY,Tf,BZ,xH⟩
 obtain⟨ms,g1,g2,_,g4⟩:=BZ.defers
 have hinv:(invoke dd.target dd.args).run P=fun w=> .ok (.enter g cv) w:=by
  funext w
  have:=kz (w:=w) ⟨gn,Zx,Me,by rw[Mf];rfl⟩ cv
  simpa[dd,invoke]using this
 have last:∀ {w4:World} {tm:Array Value} {u:V} {val:Value} {m0:FrameMode},m0≠ .run->wg M iu s1.H w2 PY s3 a3.tmps w4->V.den (aj M PY s3.H) PY s3.H w4 u val->
  ((m0= .returning/\val= .nilIface)\/m0= .panicking [{v:=val,recovered:=false}])->
  (A9 P m r r1 vf (eW.map s1.ev) u s3.o s3.nx fun o nx=>lu P rs K X .ret ⟨s3.env,o,nx⟩)->
  LeavesInM (dD none) 0 P fn a3.tmps (l7 M φ (hp o nx) w K X) [dd] m0 w4:=by
  intro w4 tm u val m0 eQ hB Lm Zy aH
  have Mg:=V.aJ hB.tr _ _ Km
  refine⟨eQ, .inr ⟨fun h=>by simp[dD]at h, .func g,cv,g,cv,rfl,by rw[hinv],fun _ _=>trivial,CallsDIn.mono (DY (k:=0 - 1) bc hg aH (m:=m0) hB.heap Mg Lm Zy) ?_⟩⟩
  rintro e u' w5 ⟨v,UL,o5,Tg,rfl,UM,k1,k2,k3⟩
  show LeavesInM (dD none) 0 P fn a3.tmps (l7 M φ (hp o nx) w K X) [] (settle u') w5
  rw[UM]
  obtain⟨vs,h1,h2⟩:=yw k3
  rw[<- yq]at h1
  have PZ:∀i,V.den (aj M UL (hp o5 Tg)) UL (hp o5 Tg) w5 (s3.env i) (a3.tmps.getD i undef):=fun i=>V.aG k2 _ _ (hB.env i)
  obtain⟨Xv,h3,h4⟩:=rC (P:=P) (s:=⟨s3.env,o5,Tg⟩) (a:=a3) k1 PZ _ _ h1
  exact⟨_,mc h3,UL,o5,Tg,_,k1,pI.tr.trans (hB.tr.trans k2),yx h4,h2⟩
 have done:A9 P m r r1 vf (eW.map s1.ev) (.d .eh) s3.o s3.nx (fun o nx=>lu P rs K X .ret ⟨s3.env,o,nx⟩)->LeavesInM (dD none) 0 P fn a3.tmps (l7 M φ (hp o nx) w K X) a3.defers .returning w3:=by
  intro aH
  rw[g1]
  exact fY (P:=P) (k:=0) (fn:=fn) (R:=l7 M φ (hp o nx) w K X) (u:= .returning) (by simp) (ds:=[dd]) (fun w4 hB=>last (tm:=a3.tmps) (by simp) hB (u:= .d .eh) (val:= .nilIface) (by simp[V.den,D.den]) (.inl ⟨rfl,rfl⟩) aH) ms w3 g2 g4 BZ.Xm
 cases e<;>cases x<;>first|(exact xH.elim)|skip
 ·exact done Tf
 ·exact Tf.elim
 ·exact done Tf
 ·rename_i v
  obtain⟨val,rfl,Uk⟩:=xH
  show LeavesInM (dD none) 0 P fn a3.tmps (l7 M φ (hp o nx) w K X) a3.defers _ w3
  rw[g1]
  let P0:Nat->V:=fun i=>match i with|0=>v|i+1=>s3.env i
  have P1:(#[val]++a3.tmps).getD 0 undef=val:=by simp[Array.getD]
  have P2:∀i,(#[val]++a3.tmps).getD (i+1) undef=a3.tmps.getD i undef:=by
   intro i
   simp only[Array.getD_eq_getD_getElem?]
   rw[Array.getElem?_append_right (by simp)]
   simp
  have Pc:wg M iu s1.H w2 PY ⟨P0,s3.o,s3.nx⟩ (#[val]++a3.tmps) w3:=⟨BZ.heap,BZ.tr,fun i=>by
   cases i with
   |zero=>rw[P1];exact Uk
   |succ i=>rw[P2];exact BZ.env i⟩
  have P3:∀w4,wg M iu s1.H w2 PY ⟨P0,s3.o,s3.nx⟩ (#[val]++a3.tmps) w4->LeavesInM (dD none) 0 P fn a3.tmps (l7 M φ (hp o nx) w K X) [dd] (.panicking [{v:=val,recovered:=false}]) w4:=by
   intro w4 hB
   have Xw:=hB.env 0
   rw[P1]at Xw
   refine last (tm:=a3.tmps) (by simp) ⟨hB.heap,hB.tr,fun i=> ?_⟩ Xw (.inr rfl) Tf
   have hs:=hB.env (i+1)
   rw[P2]at hs
   exact hs
  exact fY (P:=P) (k:=0) (fn:=fn) (R:=l7 M φ (hp o nx) w K X) (u:= .panicking [{v:=val,recovered:=false}]) (by simp) (ds:=[dd]) P3 ms w3 g2 g4 Pc
end
end Go.Proofs.YtealblliddhgiaaGreat
namespace Go.Proofs.YtealblliddhgiaaGreat
inductive Tr (α:Type) where
 |e (f:Nat->α)
 |n (x:α) (l r:Tr α)
noncomputable def Tr.get {α:Type}(t:Tr α):Nat->α:=
 Tr.rec (motive:=fun _=>Nat->α) (fun f=>f) (fun x _ _ l r k=>Bool.rec (Bool.rec (r (Nat.sub (Nat.div k 2) 1)) (l (Nat.div k 2)) (Nat.beq (Nat.mod k 2) 1)) x (Nat.beq k 0)) t
theorem Tr.Ch {α:Type}(f:Nat->α):(Tr.e f).get=f:=rfl
noncomputable def Tr.sY {α:Type}(x:α):Nat->Tr α->Nat->Tr α
 |0,t,k=> .e (ax t.get k x)
 |d+1, .e f,k=>match Nat.beq k 0 with
  |true=> .n x (.e fun i=>f (2*i+1)) (.e fun i=>f (2*i+2))
  |false=>match Nat.beq (k%2) 1 with
   |true=> .n (f 0) (Tr.sY x d (.e fun i=>f (2*i+1)) (k/2)) (.e fun i=>f (2*i+2))
   |false=> .n (f 0) (.e fun i=>f (2*i+1)) (Tr.sY x d (.e fun i=>f (2*i+2)) (k/2 - 1))
 |d+1, .n y l r,k=>match Nat.beq k 0 with
  |true=> .n x l r
  |false=>match Nat.beq (k%2) 1 with
   |true=> .n y (Tr.sY x d l (k/2)) r
   |false=> .n y l (Tr.sY x d r (k/2 - 1))
noncomputable def Tr.set {α:Type}(t:Tr α)(k:Nat)(x:α):Tr α:=Tr.sY x 24 t k
theorem Tr.sZ {α:Type}{x:α}{l r:Tr α}{k:Nat}:(Tr.n x l r).get k=if k=0 then x else if k%2=1 then l.get (k/2)else r.get (k/2 - 1):=by
 show @Bool.rec (fun _=>α) (@Bool.rec (fun _=>α) (r.get (k/2 - 1)) (l.get (k/2)) (Nat.beq (k%2) 1)) x (Nat.beq k 0)=_
 by_cases h:k=0
 ·subst h;rfl
 ·have:Nat.beq k 0=false:=by cases k with|zero=>exact absurd rfl h|succ k=>rfl
  simp only[this,h,if_false]
  by_cases h2:k%2=1
  ·simp[h2]
  ·have:Nat.beq (k%2) 1=false:=by
    cases hb:Nat.beq (k%2) 1 with
    |false=>rfl
    |true=>exact absurd (Nat.eq_of_beq_eq_true hb) h2
   simp[h2,this]
theorem Tr.mq {α:Type}(x:α):∀ (d:Nat) (t:Tr α) (k:Nat),(Tr.sY x d t k).get=ax t.get k x
 |0,t,k=>rfl
 |d+1, .e f,k=>by
  funext i
  simp only[Tr.sY]
  have hb:∀a b:Nat,Nat.beq a b=decide (a=b):=fun a b=>by
   cases h:Nat.beq a b with
   |true=>simp[Nat.eq_of_beq_eq_true h]
   |false=>simp[Nat.ne_of_beq_eq_false h]
  rw[hb,hb]
  by_cases h:k=0
  ·subst h
   simp only[decide_true,Tr.sZ,aK]
   by_cases hi:i=0
   ·simp[hi]
   ·simp only[hi,if_false]
    by_cases h2:i%2=1
    ·simp only[h2,if_true,Tr.Ch];congr 1;omega
    ·simp only[h2,if_false,Tr.Ch];congr 1;omega
  ·simp only[h,decide_false]
   by_cases hk:k%2=1
   ·simp only[hk,decide_true,Tr.sZ,Tr.mq x d,aK,Tr.Ch]
    by_cases hi:i=0
    ·subst hi;simp[Ne.symm h]
    ·simp only[hi,if_false]
     by_cases h2:i%2=1
     ·simp only[h2,if_true]
      have e1:2*(i/2)+1=i:=by omega
      rw[e1]
      by_cases e:i=k
      ·simp[e]
      ·rw[if_neg e,if_neg (by omega)]
     ·simp only[h2,if_false]
      rw[if_neg (by intro e;subst e;exact h2 hk)]
      congr 1;omega
   ·simp only[hk,decide_false,Tr.sZ,Tr.mq x d,aK,Tr.Ch]
    by_cases hi:i=0
    ·subst hi;simp[Ne.symm h]
    ·simp only[hi,if_false]
     by_cases h2:i%2=1
     ·simp only[h2,if_true]
      rw[if_neg (by intro e;subst e;exact hk h2)]
      congr 1;omega
     ·simp only[h2,if_false]
      have e1:2*(i/2 - 1)+2=i:=by omega
      rw[e1]
      by_cases e:i=k
      ·simp[e]
      ·rw[if_neg e,if_neg (by omega)]
 |d+1, .n y l r,k=>by
  funext i
  simp only[Tr.sY]
  have hb:∀a b:Nat,Nat.beq a b=decide (a=b):=fun a b=>by
   cases h:Nat.beq a b with
   |true=>simp[Nat.eq_of_beq_eq_true h]
   |false=>simp[Nat.ne_of_beq_eq_false h]
  rw[hb,hb]
  by_cases h:k=0
  ·subst h
   simp only[decide_true,Tr.sZ,aK]
   by_cases hi:i=0
   ·simp[hi]
   ·simp[hi]
  ·simp only[h,decide_false]
   by_cases hk:k%2=1
   ·simp only[hk,decide_true,Tr.sZ,Tr.mq x d,aK]
    by_cases hi:i=0
    ·subst hi;simp[Ne.symm h]
    ·simp only[hi,if_false]
     by_cases h2:i%2=1
     ·simp only[h2,if_true]
      by_cases e:i=k
      ·simp[e]
      ·rw[if_neg e,if_neg (by omega)]
     ·simp only[h2,if_false]
      rw[if_neg (by intro e;subst e;exact h2 hk)]
   ·simp only[hk,decide_false,Tr.sZ,Tr.mq x d,aK]
    by_cases hi:i=0
    ·subst hi;simp[Ne.symm h]
    ·simp only[hi,if_false]
     by_cases h2:i%2=1
     ·simp only[h2,if_true]
      rw[if_neg (by intro e;subst e;exact hk h2)]
     ·simp only[h2,if_false]
      by_cases e:i=k
      ·simp[e]
      ·rw[if_neg e,if_neg (by omega)]
theorem Tr.iM {α:Type}(t:Tr α)(k:Nat)(x:α):(t.set k x).get=ax t.get k x:=Tr.mq x 24 t k
noncomputable def Nat.fc {β:Type}(n:Nat)(c:Nat->β):β:=Nat.rec (motive:=fun _=>β) (c 0) (fun m _=>c (Nat.succ m)) n
theorem Nat.cK {β:Type}(n:Nat)(c:Nat->β):Nat.fc n c=c n:=by cases n<;>rfl
noncomputable def Int.fc {β:Type}(n:Int)(c:Int->β):β:=Int.rec (motive:=fun _=>β) (fun m=>Nat.fc m fun m=>c (.ofNat m)) (fun m=>Nat.fc m fun m=>c (.negSucc m)) n
theorem Int.cK {β:Type}(n:Int)(c:Int->β):Int.fc n c=c n:=by cases n<;>simp only[Int.fc,Nat.cK]
mutual
noncomputable def D.fc {β:Type}:D->(D->β)->β
 | .int k n,c=>Int.fc n fun n=>c (.int k n)
 | .bool b,c=>match b with|true=>c (.bool true)|false=>c (.bool false)
 | .agg l,c=>D.s5 l fun l=>c (.agg l)
 | .sl l,c=>D.s5 l fun l=>c (.sl l)
 | .iface t x,c=>D.fc x fun x=>c (.iface t x)
 | .str s,c=>c (.str s)
 | .eh,c=>c .eh
 | .gx,c=>c .gx
 | .a7,c=>c .a7
 | .cU,c=>c .cU
 | .mp ks vs,c=>D.s5 ks fun ks=>D.s5 vs fun vs=>c (.mp ks vs)
noncomputable def D.s5 {β:Type}:List D->(List D->β)->β
 |[],c=>c []
 |x::xs,c=>D.fc x fun x=>D.s5 xs fun xs=>c (x::xs)
end
mutual
theorem D.cK {β:Type}:∀ (x:D) (c:D->β),D.fc x c=c x
 | .int k n,c=>by simp only[D.fc,Int.cK]
 | .bool b,c=>by cases b<;>rfl
 | .agg l,c=>by simp only[D.fc,D.e9 l]
 | .sl l,c=>by simp only[D.fc,D.e9 l]
 | .iface t x,c=>by simp only[D.fc,D.cK x]
 | .mp ks vs,c=>by simp only[D.fc,D.e9 ks,D.e9 vs]
 | .str _,_| .eh,_| .gx,_| .a7,_| .cU,_=>by simp only[D.fc]
theorem D.e9 {β:Type}:∀ (x:List D) (c:List D->β),D.s5 x c=c x
 |[],c=>by simp only[D.s5]
 |x::xs,c=>by simp only[D.s5,D.cK x,D.e9 xs]
end
mutual
noncomputable def V.fc {β:Type}:V->(V->β)->β
 | .d x,c=>D.fc x fun x=>c (.d x)
 | .agg l,c=>V.s5 l fun l=>c (.agg l)
 | .bU l,c=>V.s5 l fun l=>c (.bU l)
 | .ptr i o,c=>Nat.fc i fun i=>Nat.fc o fun o=>c (.ptr i o)
 | .osl i o,c=>Nat.fc i fun i=>Nat.fc o fun o=>c (.osl i o)
 | .pe a b i j k,c=>Nat.fc a fun a=>Nat.fc b fun b=>Nat.fc i fun i=>Nat.fc j fun j=>Nat.fc k fun k=>c (.pe a b i j k)
 | .pp l o,c=>D.s5 l fun l=>Nat.fc o fun o=>c (.pp l o)
 | .func f a b,c=>V.s5 a fun a=>V.s5 b fun b=>c (.func f a b)
 | .iface t x,c=>V.fc x fun x=>c (.iface t x)
 | .nC l,c=>D.s5 l fun l=>c (.nC l)
 | .rT i j k,c=>Nat.fc i fun i=>Nat.fc j fun j=>Nat.fc k fun k=>c (.rT i j k)
 | .mp i,c=>Nat.fc i fun i=>c (.mp i)
 | .ki i,c=>Nat.fc i fun i=>c (.ki i)
 | .br,c=>c .br
 | .af,c=>c .af
 | .eK,c=>c .eK
noncomputable def V.s5 {β:Type}:List V->(List V->β)->β
 |[],c=>c []
 |x::xs,c=>V.fc x fun x=>V.s5 xs fun xs=>c (x::xs)
end
mutual
theorem V.cK {β:Type}:∀ (x:V) (c:V->β),V.fc x c=c x
 | .d x,c=>by simp only[V.fc,D.cK]
 | .agg l,c=>by simp only[V.fc,V.e9 l]
 | .bU l,c=>by simp only[V.fc,V.e9 l]
 | .pp l o,c=>by simp only[V.fc,D.e9,Nat.cK]
 | .func f a b,c=>by simp only[V.fc,V.e9 a,V.e9 b]
 | .iface t x,c=>by simp only[V.fc,V.cK x]
 | .nC l,c=>by simp only[V.fc,D.e9]
 | .ptr _ _,_| .osl _ _,_| .pe _ _ _ _ _,_| .rT _ _ _,_| .mp _,_| .ki _,_| .br,_| .af,_| .eK,_=>by simp only[V.fc,Nat.cK]
theorem V.e9 {β:Type}:∀ (x:List V) (c:List V->β),V.s5 x c=c x
 |[],c=>by simp only[V.s5]
 |x::xs,c=>by simp only[V.s5,V.cK x,V.e9 xs]
end
section
variable {β:Type}
noncomputable def P4(k:IntKind)(n:Int)(c:V->β):β:=Int.fc n fun n=>c (.d (.int k n))
noncomputable def P5(b:Bool)(c:V->β):β:= @Bool.rec (fun _=>β) (c (.d (.bool false))) (c (.d (.bool true))) b
noncomputable def Mh(x:D)(c:V->β):β:=D.fc x fun x=>c (.d x)
noncomputable def vD(x:D):(V->β)->β:=match x with| .int k n=>P4 k n| .bool b=>P5 b|x=>Mh x
noncomputable def P6(i o:Nat)(c:V->β):β:=Nat.fc i fun i=>Nat.fc o fun o=>c (.ptr i o)
noncomputable def P7(i o:Nat)(c:V->β):β:=Nat.fc i fun i=>Nat.fc o fun o=>c (.osl i o)
noncomputable def Xx(a b i j k:Nat)(c:V->β):β:=Nat.fc a fun a=>Nat.fc b fun b=>Nat.fc i fun i=>Nat.fc j fun j=>Nat.fc k fun k=>c (.pe a b i j k)
noncomputable def V.Ow (v:V):(V->β)->β:=match v with| .d x=>vD x| .ptr i o=>P6 i o| .osl i o=>P7 i o| .pe a b i j k=>Xx a b i j k|v=>V.fc v
theorem V.Mi (v:V)(c:V->β):V.Ow v c=c v:=by
 cases v
 case d x=>
  cases x
  case int k n=>simp only[V.Ow,vD,P4,Int.cK]
  case bool b=>cases b<;>rfl
  all_goals exact D.cK _ _
 case ptr i o=>simp only[V.Ow,P6,Nat.cK]
 case osl i o=>simp only[V.Ow,P7,Nat.cK]
 case pe a b i j k=>simp only[V.Ow,Xx,Nat.cK]
 all_goals exact V.cK _ _
end
noncomputable def Ox{β:Type}:List (D×D)->(List (D×D)->β)->β
 |[],c=>c []
 |(a,b)::l,c=>D.fc a fun a=>D.fc b fun b=>Ox l fun l=>c ((a,b)::l)
theorem FP{β:Type}:∀ (x:List (D×D)) (c:List (D×D)->β),Ox x c=c x
 |[],c=>rfl
 |(a,b)::l,c=>by simp only[Ox,D.cK,FP l]
noncomputable def ab.fc {β:Type}(x:ab)(c:ab->β):β:=
 match x with
 | .row cs=>V.s5 cs fun cs=>c (.row cs)
 | .arr e t s es=>Nat.fc e fun e=>Nat.fc s fun s=>D.s5 es fun es=>c (.arr e t s es)
 | .ou e es=>Nat.fc e fun e=>D.s5 es fun es=>c (.ou e es)
 | .map kt vt l=>Ox l fun l=>c (.map kt vt l)
 | .eY l=>Ox l fun l=>c (.eY l)
 | .nD l last=>Ox l fun l=>c (.nD l last)
 | .rU l pos=>Nat.fc pos fun pos=>c (.rU l pos)
 |x=>c x
theorem ab.cK {β:Type}(x:ab)(c:ab->β):ab.fc x c=c x:=by cases x<;>simp only[ab.fc,V.e9,D.e9,Nat.cK,FP]
noncomputable def Tr.vg {α β:Type}(x:α)(d:Nat):Tr α->Nat->(Tr α->β)->β:=
 Nat.rec (motive:=fun _=>Tr α->Nat->(Tr α->β)->β) (fun t k c=>c (.e (ax t.get k x)))
  (fun _ ih t k c=>Tr.rec (motive:=fun _=>β) (fun f=>
   Bool.rec (Bool.rec (ih (.e fun i=>f (2*i+2)) (Nat.sub (Nat.div k 2) 1) fun r=>c (.n (f 0) (.e fun i=>f (2*i+1)) r)) (ih (.e fun i=>f (2*i+1)) (Nat.div k 2) fun l=>c (.n (f 0) l (.e fun i=>f (2*i+2)))) (Nat.beq (Nat.mod k 2) 1))
    (c (.n x (.e fun i=>f (2*i+1)) (.e fun i=>f (2*i+2)))) (Nat.beq k 0))
   (fun y l r _ _=>Bool.rec (Bool.rec (ih r (Nat.sub (Nat.div k 2) 1) fun r=>c (.n y l r)) (ih l (Nat.div k 2) fun l=>c (.n y l r)) (Nat.beq (Nat.mod k 2) 1)) (c (.n x l r)) (Nat.beq k 0)) t) d
theorem Tr.s6 {α β:Type}(x:α):∀ (d:Nat) (t:Tr α) (k:Nat) (c:Tr α->β),Tr.vg x d t k c=c (Tr.sY x d t k)
 |0,t,k,c=>rfl
 |d+1, .e f,k,c=>by
  show @Bool.rec (fun _=>β) (@Bool.rec (fun _=>β) (Tr.vg x d (.e fun i=>f (2*i+2)) (k/2 - 1) fun r=>c (.n (f 0) (.e fun i=>f (2*i+1)) r)) (Tr.vg x d (.e fun i=>f (2*i+1)) (k/2) fun l=>c (.n (f 0) l (.e fun i=>f (2*i+2)))) (Nat.beq (k%2) 1)) (c (.n x (.e fun i=>f (2*i+1)) (.e fun i=>f (2*i+2)))) (Nat.beq k 0)=_
  simp only[Tr.sY,Tr.s6 x d]
  cases Nat.beq k 0
  ·cases Nat.beq (k%2) 1<;>rfl
  ·rfl
 |d+1, .n y l r,k,c=>by
  show @Bool.rec (fun _=>β) (@Bool.rec (fun _=>β) (Tr.vg x d r (k/2 - 1) fun r=>c (.n y l r)) (Tr.vg x d l (k/2) fun l=>c (.n y l r)) (Nat.beq (k%2) 1)) (c (.n x l r)) (Nat.beq k 0)=_
  simp only[Tr.sY,Tr.s6 x d]
  cases Nat.beq k 0
  ·cases Nat.beq (k%2) 1<;>rfl
  ·rfl
noncomputable def Tr.Mj {α β:Type}(t:Tr α)(k:Nat)(x:α)(c:Tr α->β):β:=Tr.vg x 24 t k c
theorem Tr.Ci {α β:Type}(t:Tr α)(k:Nat)(x:α)(c:Tr α->β):t.Mj k x c=c (t.set k x):=Tr.s6 x 24 t k c
structure St where
 env:Tr V
 o:Tr ab
 nx:Nat
noncomputable def St.S (st:St):S:=⟨st.env.get,st.o.get,st.nx⟩
noncomputable def DZ(o:Tr ab)(Δ:List (Nat×ab)):Tr ab:=Δ.foldl (fun f x=>f.set x.1 x.2) o
noncomputable def qP(env:Tr V)(dst:Option Tmp)(v:V):Tr V:=match dst with|some d=>env.set d v|none=>env
noncomputable def s7{β:Type}(o:Tr ab):List (Nat×ab)->(Tr ab->β)->β
 |[],c=>c o
 |(i,x)::Δ,c=>ab.fc x fun x=>o.Mj i x fun o=>s7 o Δ c
theorem mu{β:Type}:∀ (Δ:List (Nat×ab)) (o:Tr ab) (c:Tr ab->β),s7 o Δ c=c (DZ o Δ)
 |[],o,c=>rfl
 |(i,x)::Δ,o,c=>by simp only[s7,ab.cK,Tr.Ci,mu Δ];rfl
noncomputable def lC{β:Type}(env:Tr V)(dst:Option Tmp)(v:V)(c:Tr V->β):β:=match dst with|some d=>V.Ow v fun v=>env.Mj d v c|none=>c env
theorem iU{β:Type}(env:Tr V)(dst:Option Tmp)(v:V)(c:Tr V->β):lC env dst v c=c (qP env dst v):=by
 cases dst<;>simp only[lC,qP,V.Mi,Tr.Ci]
theorem jo:∀ (Δ:List (Nat×ab)) (o:Tr ab),(DZ o Δ).get=put o.get Δ
 |[],_=>rfl
 |x::Δ,o=>by
  simp only[DZ,put,List.foldl_cons]
  have:=jo Δ (o.set x.1 x.2)
  simp only[DZ,put]at this
  rw[this,Tr.iM]
theorem ee(env:Tr V)(dst:Option Tmp)(v:V):(qP env dst v).get=a8 env.get dst v:=by
 cases dst<;>simp[qP,a8,Tr.iM]
section Mk
def Kn(x:Operand)(_:Program)(s:S)(_:Nat):Option fS:=one (s.ev x)
def P8(c a b:Operand)(_:Program)(s:S)(_:Nat):Option fS:=ly (oW (s.ev c) (s.ev a) (s.ev b))
def Ml(t:TypeId)(parts:Array (Nat×Operand))(P:Program)(s:S)(_:Nat):Option fS:=ly (wm P t (parts.toList.map fun p=>(p.1,s.ev p.2)))
def zj(t:TypeId)(len:Nat)(parts:Array (Nat×Operand))(P:Program)(s:S)(fr:Nat):Option fS:=fL P s.o fr t len (parts.toList.map fun p=>(p.1,s.ev p.2))
def P9(t:TypeId)(x:Operand)(P:Program)(s:S)(_:Nat):Option fS:=mf P s.o t (s.ev x)
def Mm(t:TypeId)(x v:Operand)(P:Program)(s:S)(_:Nat):Option fS:=pY P s.o t (s.ev x) (s.ev v)
def UN(x:Operand)(_:Program)(s:S)(_:Nat):Option fS:=ly (iP s.o (s.ev x))
noncomputable def Qa(op:BinOp):IntKind->Int->Int->Option V:=
 match op with
 | .add=>fun k a b=>some (.d (.int k (k.wrap (Int.add a b))))
 | .sub=>fun k a b=>some (.d (.int k (k.wrap (Int.sub a b))))
 | .mul=>fun k a b=>some (.d (.int k (k.wrap (Int.mul a b))))
 |op=>yy op
theorem Iy(op:BinOp):Qa op=yy op:=by cases op<;>rfl
def asInt(x:V):Option (IntKind×Int):=match x with| .d (.int k a)=>some (k,a)|_=>none
def FQ(op:BinOp)(t:TypeId)(c:Bool)(x y:V)(P:Program)(o:Nat->ab):Option fS:=dn P o op t c x y
noncomputable def Qb(op:BinOp)(t:TypeId)(x y:Operand)(P:Program)(s:S)(_:Nat):Option fS:=
 match asInt (s.ev x)with
 |some (k,a)=>match asInt (s.ev y)with
  |some (k',b)=>if k=k' then match Qa op k a b with
   |some v=>some (v,[],[])
   |none=>FQ op t (isConst x||isConst y) (s.ev x) (s.ev y) P s.o
   else none
  |none=>FQ op t (isConst x||isConst y) (s.ev x) (s.ev y) P s.o
 |none=>FQ op t (isConst x||isConst y) (s.ev x) (s.ev y) P s.o
theorem zk{x:V}{k:IntKind}{a:Int}(h:asInt x=some (k,a)):x= .d (.int k a):=by
 unfold asInt at h;split at h
 ·injection h with h;cases h;rfl
 ·cases h
def Ba(t:TypeId)(x:Operand)(f:Nat)(P:Program)(s:S)(_:Nat):Option fS:=ly (gC P s.o t (s.ev x) f)
def Bb(t:TypeId)(x i:Operand)(P:Program)(s:S)(_:Nat):Option fS:=gB P s.o t (s.ev x) (s.ev i)
def Mn(op:Op)(P:Program)(s:S)(fr:Nat):Option fS:=fP P s fr op
noncomputable def Iz(op:Op):Program->S->Nat->Option fS:=
 match op with
 | .move x=>Kn x
 | .assign x=>Kn x
 | .pick c a b=>P8 c a b
 | .build t parts=>Ml t parts
 | .buildSlice t len parts=>zj t len parts
 | .load t x=>P9 t x
 | .store t x v=>Mm t x v
 | .nilCheck x=>UN x
 | .binOp op t x y _=>Qb op t x y
 | .fieldAddr t x f=>Ba t x f
 | .indexAddr t x i=>Bb t x i
 |op=>Mn op
theorem Cj{op:Op}{P:Program}{s:S}{fr:Nat}{r:fS}(h:Iz op P s fr=some r):fP P s fr op=some r:=by
 cases op
 case binOp op t x y yt=>
  simp only[Iz,Qb,Iy]at h
  have e:fP P s fr (.binOp op t x y yt)=dn P s.o op t (isConst x||isConst y) (s.ev x) (s.ev y):=rfl
  rw[e]
  split at h
  ·rename_i k a hx
   split at h
   ·rename_i k' b hy
    split at h
    ·rename_i hk
     split at h
     ·rename_i v hv
      unfold dn wk
      simp only[zk hx,zk hy,if_pos hk,hv]
      exact h
     ·exact h
    ·cases h
   ·exact h
  ·exact h
 all_goals exact h
end Mk
inductive FD where
 |fn (n:Nat) (ic:IC) (rs:List ResultVar)
 |UO (n:Nat) (kj ft:IC) (g t:Nat) (eW:List Operand) (rs:List ResultVar) (m r r1:Nat) (vf:IC)
 |no
def FD.Ok (P:Program)(f:Nat):FD->Prop
 | .fn n ic rs=>aO P f n ic rs
 | .UO n kj ft g t eW rs m r r1 vf=>Cg P f n kj ft g t eW rs/\zg P g m r r1 vf
 | .no=>True
inductive CR where
 |ret (v:V) (o:Tr ab) (nx:Nat)|bJ (v:V) (o:Tr ab) (nx:Nat)
def CR.to (K X:V->(Nat->ab)->Nat->Prop):CR->Prop
 | .ret v o nx=>K v o.get nx
 | .bJ v o nx=>X v o.get nx
inductive RO where
 |ok (st:St)|bJ (v:V) (st:St)
def RO.to (K:S->Prop)(X:V->S->Prop):RO->Prop
 | .ok st=>K st.S
 | .bJ v st=>X v st.S
inductive dY where
 |r (x:R)|c (x:CR)
abbrev Kt:=fO->St->Option dY
abbrev du:=Nat->Bool->Nat->IC->St->Kt->Option dY
noncomputable def D0(P:Program)(rs:List ResultVar)(st:St)(kc:CR->Option dY):Option dY:=
 match lj P st.S rs with
 |some [v]=>kc (.ret v st.o st.nx)
 |some vs=>kc (.ret (.bU vs) st.o st.nx)
 |none=>none
noncomputable def Ko(P:Program)(rs:List ResultVar)(kc:CR->Option dY):Kt:=fun e st=>
 match e with
 | .normal=>D0 P rs st kc
 | .ret=>D0 P rs st kc
 | .bJ v=>kc (.bJ v st.o st.nx)
 | .exit _=>none
noncomputable def FR(P:Program)(rs:List ResultVar)(kc:CR->Option dY)(env:Tr V):Kt:=fun e s4=>
 match e with
 | .normal=>D0 P rs ⟨env,s4.o,s4.nx⟩ kc
 | .ret=>D0 P rs ⟨env,s4.o,s4.nx⟩ kc
 |_=>none
def Qc:fO->Option V
 | .normal=>some (.d .eh)
 | .ret=>some (.d .eh)
 | .bJ v=>some v
 | .exit _=>none
noncomputable def FT(P:Program)(rec:du)(rs:List ResultVar)(cj:List V)(m r r1:Nat)(vf:IC)(kc:CR->Option dY):Kt:=fun e s3=>
 match Qc e with
 |some u=>if cj.length<=m then rec s3.nx true m vf ⟨.e (ax (ax (b9 cj) r u) r1 u),s3.o,s3.nx⟩ (FR P rs kc s3.env)else none
 |none=>none
noncomputable def Ck(P:Program)(rec:du)(n t:Nat)(ft:IC)(g:Nat)(eW:List Operand)(rs:List ResultVar)(m r r1:Nat)(vf:IC)(kc:CR->Option dY):Kt:=fun e s1=>
 match e with
 | .normal=>rec s1.nx false n ft ⟨s1.env.set t (.func (.func g) [] (eW.map s1.S.ev)),s1.o,s1.nx⟩ (FT P rec rs (eW.map s1.S.ev) m r r1 vf kc)
 |_=>none
noncomputable def FU(P:Program)(bV:Nat->FD)(rec:du)(g:Nat)(args:List V)(o:Tr ab)(nx:Nat)(kc:CR->Option dY):Option dY:=
 match bV g with
 | .fn n ic rs=>if args.length<=n then rec nx false n ic ⟨.e (b9 args),o,nx⟩ (Ko P rs kc)else none
 | .UO n kj ft g t eW rs m r r1 vf=>if args.length<=n then rec nx true n kj ⟨.e (b9 args),o,nx⟩ (Ck P rec n t ft g eW rs m r r1 vf kc)else none
 | .no=>none
def s8:V->List V
 | .bU vs=>vs
 |v=>[v]
noncomputable def Cl(r:CR):Option R:=
 match r with
 | .ret v o _=>match v with
   | .bU [_]=>none
   |v=>match bW o.get (s8 v)with
    |some rs=>some (.ret rs)
    |none=>none
 | .bJ v o _=>match dI o.get v with
   |some x=>some (.bJ x)
   |none=>none
noncomputable def Qd{β:Type}(x:R)(c:R->β):β:=match x with| .ret l=>D.s5 l fun l=>c (.ret l)| .bJ d=>D.fc d fun d=>c (.bJ d)
theorem Bc{β:Type}(x:R)(c:R->β):Qd x c=c x:=by cases x<;>simp only[Qd,D.e9,D.cK]
noncomputable def zl(r:CR):Option dY:=match Cl r with|some x=>Qd x fun x=>some (.r x)|none=>none
theorem FV{r:CR}{a:dY}(h:zl r=some a):∃x,Cl r=some x/\a= .r x:=by
 unfold zl at h
 split at h
 ·rename_i x hx;rw[Bc]at h;injection h with h;exact⟨x,hx,h.symm⟩
 ·cases h
def FW(out:R)(o:Tr ab)(nx:Nat):CR:=
 match out with
 | .ret rs=> .ret (gr rs) o nx
 | .bJ x=> .bJ (.d x) o nx
structure ru (P:Program) where
 Qe:Nat->Bool
 fx:Nat->List D->Option R
 ok:∀g ds out,fx g ds=some out->bC P g ds out
def FX(l:List (Nat×List D×R))(g:Nat)(ds:List D):Option R:=
 match l with
 |[]=>none
 |x::l=>match Nat.beq x.1 g with
  |true=>match D.fF x.2.1 ds with
   |true=>some x.2.2
   |false=>FX l g ds
  |false=>FX l g ds
theorem wN{P:Program}:∀ {l:List (Nat×List D×R)},(∀x∈l,bC P x.1 x.2.1 x.2.2)->∀g ds out,FX l g ds=some out->bC P g ds out
 |[],_,_,_,_,h=>by cases h
 |x::l,hl,g,ds,out,h=>by
  simp only[FX]at h
  split at h
  ·rename_i hg
   split at h
   ·rename_i hd
    injection h with h
    have:=hl x (by simp)
    rw[Nat.eq_of_beq_eq_true hg,D.de _ _ hd,h]at this
    exact this
   ·exact wN (fun y hy=>hl y (by simp[hy])) g ds out h
  ·exact wN (fun y hy=>hl y (by simp[hy])) g ds out h
def ru.of {P:Program}(Qe:Nat->Bool)(l:List (Nat×List D×R))(h:∀x∈l,bC P x.1 x.2.1 x.2.2):ru P:=⟨Qe,FX l,wN h⟩
noncomputable def IA(P:Program)(bV:Nat->FD)(md:ru P)(rec:du)(g:Nat)(ds:List D):Option R:=
 match md.fx g ds with
 |some out=>some out
 |none=>match FU P bV rec g (ds.map .d) (.e fun _=> .no) 0 zl with
  |some (.r x)=>some x
  |_=>none
noncomputable def Kp(out:R)(o:Tr ab)(nx:Nat)(args:List V)(kc:CR->Option dY):Option dY:=
 match out.flat with
 |true=>kc (FW out o (nx+1))
 |false=>match out.l8 with
  |true=>kc (FW out (DZ o (pM o.get (V.bg args))) (nx+1))
  |false=>kc (FW out (DZ o (cH o.get (V.bg args))) (nx+1))
noncomputable def Cm(P:Program)(bV:Nat->FD)(md:ru P)(rec:du)(g:Nat)(args:List V)(o:Tr ab)(nx:Nat)(kc:CR->Option dY):Option dY:=
 match md.Qe g,bW o.get args with
 |true,some ds=>match IA P bV md rec g ds with
  |some out=>Kp out o nx args kc
  |none=>none
 |_,_=>FU P bV rec g args o nx kc
noncomputable def FY(id:Nat)(kc:CR->Option dY):Kt:=fun e s2=>
 match e with
 | .bJ v=>kc (.bJ v s2.o s2.nx)
 |e=>match s2.o.get id with
  | .loop nf m en p c d _ _=>match e with
    | .normal=>kc (.ret (.d (.bool true)) (s2.o.set id (.loop nf m en p c d .ready none)) s2.nx)
    | .ret=>kc (.ret (.d (.bool false)) (s2.o.set id (.loop nf m en p c d .done (some .ret))) s2.nx)
    | .exit j=>kc (.ret (.d (.bool false)) (s2.o.set id (.loop nf m en p c d .done (some (.exit j)))) s2.nx)
    | .bJ _=>none
  |_=>none
noncomputable def Cn(rec:du)(id nx n:Nat)(ft:IC)(kc:CR->Option dY):Kt:=fun e s1=>
 match e with
 | .normal=>match s1.o.get id with
   | .loop nf m en p c d .ready pd=>rec nx true n ft ⟨s1.env,s1.o.set id (.loop nf m en p c d .busy pd),s1.nx⟩ (FY id kc)
   |_=>none
 | .bJ v=>kc (.bJ v s1.o s1.nx)
 |_=>none
noncomputable def Mo(P:Program)(rec:du)(id:Nat)(args:List V)(o:Tr ab)(nx:Nat)(kc:CR->Option dY):Option dY:=
 match o.get id with
 | .loop nf n env ps kj ft _ _=>if nf=P.funcs.size/\id<nx/\ps.all (fun t=>decide (t<n))=true/\args.length=ps.length then
  rec nx true n kj ⟨.e (rq (bq env) ps args),o,nx⟩ (Cn rec id nx n ft kc)
   else none
 |_=>none
noncomputable def vh(P:Program)(st:St)(o:bZ)(kr:RO->Option dY):Option dY:=
 match Iz o.op P st.S st.nx with
 |some (v,Δ,_)=>lC st.env o.dst v fun e=>s7 st.o Δ fun ob=>Nat.fc (st.nx+1) fun n=>kr (.ok ⟨e,ob,n⟩)
 |none=>none
noncomputable def Qf(st:St)(dst:Option Nat)(kr:RO->Option dY)(c:CR):Option dY:=
 match c with
 | .ret v o nx=>lC st.env dst v fun e=>Nat.fc nx fun nx=>kr (.ok ⟨e,o,nx⟩)
 | .bJ v o nx=>kr (.bJ v ⟨st.env,o,nx⟩)
noncomputable def FZ(c:Call)(P:Program)(bV:Nat->FD)(md:ru P)(rec:du)(st:St)(o:bZ)(kr:RO->Option dY):Option dY:=
 match c.callee with
 | .value f=>match st.S.ev f with
   | .func (.func g) first cap=>Cm P bV md rec g (first++c.args.toList.map st.S.ev++cap) st.o st.nx (Qf st o.dst kr)
   | .ki id=>Mo P rec id (c.args.toList.map st.S.ev) st.o st.nx (Qf st o.dst kr)
   |_=>none
 | .invoke r m=>match qD P m (st.S.ev r)with
   |some (g,y)=>Cm P bV md rec g (y::c.args.toList.map st.S.ev) st.o st.nx (Qf st o.dst kr)
   |none=>none
 |_=>vh P st o kr
noncomputable def Mp(x:Operand)(P:Program)(_:Nat->FD)(_:ru P)(_:du)(st:St)(_:bZ)(kr:RO->Option dY):Option dY:=
 match st.S.ev x with
 | .d (.iface t y)=>kr (.bJ (.d (.iface t y)) st)
 | .iface t y=>kr (.bJ (.iface t y) st)
 |_=>none
noncomputable def Qg(P:Program)(_:Nat->FD)(_:ru P)(_:du)(st:St)(o:bZ)(kr:RO->Option dY):Option dY:=vh P st o kr
def R.same:R->R->Bool
 | .ret a, .ret b=>D.fF a b
 | .bJ a, .bJ b=>a.same b
 |_,_=>false
theorem R.dM {x y:R}(h:x.same y=true):x=y:=by
 cases x<;>cases y<;>simp only[R.same,Bool.false_eq_true]at h
 ·rw[D.de _ _ h]
 ·rw[D.dM _ _ h]
noncomputable def Th(f:Nat->Option dY):Nat->Option dY
 |0=>none
 |n+1=>match n with
  |0=>f 0
  |n=>match Th f n with
   |some (.r a)=>match f n with
    |some (.r b)=>match R.same a b with
     |true=>some (.r a)
     |false=>none
    |_=>none
   |_=>none
theorem F0{f:Nat->Option dY}{a:dY}:∀ {n:Nat},Th f n=some a->∀i,i<n->f i=some a
 |0,h,_,_=>by cases h
 |1,h,i,hi=>by obtain rfl:i=0:=by omega
               exact h
 |n+2,h,i,hi=>by
  simp only[Th]at h
  split at h
  ·rename_i x hx
   split at h
   ·rename_i y hy
    split at h
    ·rename_i he
     have e:=R.dM he
     subst e
     rw[<- h]
     by_cases e:i=n+1
     ·subst e;exact hy
     ·exact F0 hx i (by omega)
    ·cases h
   ·cases h
  ·cases h
noncomputable def IB(st:St)(dst:Option Nat)(kr:RO->Option dY)(v:V)(Δ:List (Nat×ab)):Option dY:=
 lC st.env dst v fun e=>s7 st.o Δ fun ob=>Nat.fc (st.nx+1) fun n=>kr (.ok ⟨e,ob,n⟩)
noncomputable def F1(x:Operand)(str:Bool)(P:Program)(_:Nat->FD)(_:ru P)(_:du)(st:St)(o:bZ)(kr:RO->Option dY):Option dY:=
 match np st.o.get (st.S.ev x)with
 |some (id,l)=>match str with
  |true=>none
  |false=>match l with
   |[]=>IB st o.dst kr (.bU [.d (.bool false)]) []
   |_=>Th (fun i=>match l[i]? with
    |some (k,x)=>IB st o.dst kr (.bU [.d (.bool true), .d k, .d x]) [(id, .nD (l.eraseIdx i) (some (k,x)))]
    |none=>none) l.length
 |none=>vh P st o kr
noncomputable def Zz(op:Op):(P:Program)->(Nat->FD)->ru P->du->St->bZ->(RO->Option dY)->Option dY:=
 match op with
 | .call c=>FZ c
 | .panic x=>Mp x
 | .next x str=>F1 x str
 |_=>Qg
noncomputable def Ti(P:Program)(bV:Nat->FD)(md:ru P)(rec:du)(st:St)(o:bZ)(kr:RO->Option dY):Option dY:=Zz o.op P bV md rec st o kr
noncomputable def Xy(next:St->Option dY)(kr:RO->Option dY):RO->Option dY:=fun r=>match r with| .ok st=>next st| .bJ v st=>kr (.bJ v st)
noncomputable def wO(P:Program)(bV:Nat->FD)(md:ru P)(rec:du)(kr:RO->Option dY):List bZ->St->Option dY
 |[],st=>kr (.ok st)
 |o::l,st=>match(match o.gd with
   |none=>some true
   |some (d,want)=>match st.env.get d with
    | .d (.bool b)=>some (b==want)
    | .bU []=>some false
    |_=>none)with
  |some true=>Ti P bV md rec st o (Xy (wO P bV md rec kr l) kr)
  |some false=>lC st.env o.dst (.bU []) fun e=>Nat.fc (st.nx+1) fun n=>wO P bV md rec kr l ⟨e,st.o,n⟩
  |none=>none
section
variable {P:Program}{bV:Nat->FD}{md:ru P}
noncomputable def ek(P:Program)(rec:du):Prop:=∀b rd n ic st k a,rec b rd n ic st k=some a->∀Q:fO->S->Prop,(∀e st',k e st'=some a->Q e st'.S)->rD P n b rd ic Q st.S
theorem rI{rs:List ResultVar}{st:St}{kc:CR->Option dY}{a:dY}(h:D0 P rs st kc=some a){K X:V->(Nat->ab)->Nat->Prop}(hr:∀r,kc r=some a->r.to K X):lu P rs K X .ret st.S:=by
 unfold D0 at h
 unfold lu
 split at h
 ·rename_i v hv;simp only[hv];exact hr _ h
 ·rename_i vs hv hn
  simp only[hn]
  exact hr _ h
 ·cases h
theorem mw(bc:P.follows .mixedOrders=true)(cq:∀g,(bV g).Ok P g){rec:du}(aH:ek P rec){g:Nat}{args:List V}{o:Tr ab}{nx:Nat}{kc:CR->Option dY}{a:dY}(h:FU P bV rec g args o nx kc=some a){K X:V->(Nat->ab)->Nat->Prop}(hr:∀r,kc r=some a->r.to K X):
 eR P g args o.get nx K X:=by
 have bB:=cq g
 unfold FU at h
 split at h
 ·rename_i n ic rs ht
  rw[ht]at bB
  split at h
  ·rename_i hl
   refine eR.sP bc bB hl ?_
   refine aH _ _ _ _ _ _ _ h _ fun e st he=> ?_
   unfold Ko at he
   cases e with
   |normal=>exact rI he hr
   |ret=>exact rI he hr
   |bJ v=>exact hr _ he
   |exit j=>cases he
  ·cases h
 ·rename_i n kj ft g' t eW rs m r0 r1 vf ht
  rw[ht]at bB
  split at h
  ·rename_i hl
   refine eR.zi bc bB.1 bB.2 hl (aH _ _ _ _ _ _ _ h _ fun e s1 he=> ?_)
   unfold Ck at he
   cases e with
   |normal=>
    have hb:rD P n s1.nx false ft (wM P m r0 r1 vf (eW.map s1.S.ev) rs K X) ⟨ax s1.env.get t (.func (.func g') [] (eW.map s1.S.ev)),s1.o.get,s1.nx⟩:=by
     have:=aH _ _ _ _ _ _ _ he (wM P m r0 r1 vf (eW.map s1.S.ev) rs K X) (fun e s3 Oy=>by
      unfold FT at Oy
      split at Oy
      ·rename_i u hu
       split at Oy
       ·rename_i lV
        have ZA:A9 P m r0 r1 vf (eW.map s1.S.ev) u s3.o.get s3.nx fun o nx=>lu P rs K X .ret ⟨s3.env.get,o,nx⟩:=by
         refine⟨lV,aH _ _ _ _ _ _ _ Oy _ fun e4 s4 Tj=> ?_⟩
         unfold FR at Tj
         cases e4 with
         |normal=>exact rI (st:=⟨s3.env,s4.o,s4.nx⟩) Tj hr
         |ret=>exact rI (st:=⟨s3.env,s4.o,s4.nx⟩) Tj hr
         |_=>cases Tj
        cases e<;>simp only[Qc,Option.some.injEq,reduceCtorEq]at hu<;>subst hu<;>exact ZA
       ·cases Oy
      ·cases Oy)
     simp only[St.S,Tr.iM]at this
     exact this
    exact hb
   |_=>cases he
  ·cases h
 ·cases h
theorem F2{r:CR}{out:R}(ho:Cl r=some out):r.to (fun v o _=>∃vs rs,v=(match vs with|[v]=>v|vs=> .bU vs)/\bW o vs=some rs/\out= .ret rs) (fun v o _=>∃x,dI o v=some x/\out= .bJ x):=by
 unfold Cl at ho
 split at ho
 ·rename_i v o nx
  split at ho
  ·cases ho
  ·rename_i hv
   split at ho
   ·rename_i rs OY
    injection ho with ho;subst ho
    refine⟨s8 v,rs, ?_,OY,rfl⟩
    cases v with
    |bU vs=>
     match vs,hv with
     |[],_=>rfl
     |[x],hv=>exact absurd rfl (hv x)
     |_::_::_,_=>rfl
    |_=>rfl
   ·cases ho
 ·split at ho
  ·rename_i x hx
   injection ho with ho;subst ho
   exact⟨x,hx,rfl⟩
  ·cases ho
theorem zm(bc:P.follows .mixedOrders=true)(cq:∀g,(bV g).Ok P g){rec:du}(aH:ek P rec){g:Nat}{ds:List D}{out:R}(h:FU P bV rec g (ds.map .d) (.e fun _=> .no) 0 zl=some (.r out)):bC P g ds out:=by
 refine bC.jT (mw bc cq aH h fun r hr=> ?_)
 obtain⟨x,hx,he⟩:=FV hr
 injection he with he;subst he
 exact F2 hx
theorem wP(bc:P.follows .mixedOrders=true)(cq:∀g,(bV g).Ok P g){rec:du}(aH:ek P rec){g:Nat}{ds:List D}{out:R}(h:IA P bV md rec g ds=some out):bC P g ds out:=by
 unfold IA at h
 split at h
 ·rename_i ZB ho
  injection h with h;subst h
  exact md.ok _ _ _ ho
 ·split at h
  ·rename_i x hr;injection h with h;subst h;exact zm bc cq aH hr
  ·cases h
theorem zn(bc:P.follows .mixedOrders=true)(cq:∀g,(bV g).Ok P g){rec:du}(aH:ek P rec){g:Nat}{args:List V}{o:Tr ab}{nx:Nat}{kc:CR->Option dY}{a:dY}(h:Cm P bV md rec g args o nx kc=some a){K X:V->(Nat->ab)->Nat->Prop}(hr:∀r,kc r=some a->r.to K X):
 JS P g args o.get nx K X:=by
 unfold Cm at h
 split at h
 ·rename_i ds hmd eC
  split at h
  ·rename_i out F3
   have hP:=wP bc cq aH F3
   refine .inl ⟨ds,eC,out,hP, ?_⟩
   unfold Kp at h
   split at h
   ·rename_i hf
    refine .inr (.inl ⟨hf, ?_⟩)
    cases out<;>exact hr _ h
   ·split at h
    ·rename_i hf
     refine .inr (.inr ⟨hf, ?_⟩)
     rw[<- jo]
     cases out<;>exact hr _ h
    ·refine .inl ?_
     rw[<- jo]
     cases out<;>exact hr _ h
  ·cases h
 ·exact .inr (mw bc cq aH h hr)
theorem ID(bc:P.follows .mixedOrders=true){rec:du}(aH:ek P rec){id:Nat}{args:List V}{o:Tr ab}{nx:Nat}{kc:CR->Option dY}{a:dY}(h:Mo P rec id args o nx kc=some a){K X:V->(Nat->ab)->Nat->Prop}(hr:∀r,kc r=some a->r.to K X):
 dy P id args o.get nx K X:=by
 unfold Mo at h
 split at h
 ·rename_i nf n env ps kj ft st pd ho
  split at h
  ·rename_i hc
   obtain⟨rfl,bI,Ix,hl⟩:=hc
   refine dy.sP bc ho bI Ix hl ?_
   refine aH _ _ _ _ _ _ _ h _ fun e s1 he=> ?_
   unfold Cn at he
   cases e with
   |normal=>
    simp only at he
    split at he
    ·rename_i nf m en p c d pd jz
     refine⟨nf,m,en,p,c,d,pd,jz, ?_⟩
     have:=aH _ _ _ _ _ _ _ he (lB id K X) (fun e s2 h2=>by
      unfold FY at h2
      split at h2
      ·exact hr _ h2
      ·rename_i JK
       split at h2
       ·rename_i PS m' UP p' c' d' st' pd' Mq
        cases e with
        |bJ v=>cases h2
        |normal=>have h3:=hr _ h2;simp only[CR.to,Tr.iM]at h3;exact⟨PS,m',UP,p',c',d',st',pd',Mq,h3⟩
        |ret=>have h3:=hr _ h2;simp only[CR.to,Tr.iM]at h3;exact⟨PS,m',UP,p',c',d',st',pd',Mq,h3⟩
        |exit j=>have h3:=hr _ h2;simp only[CR.to,Tr.iM]at h3;exact⟨PS,m',UP,p',c',d',st',pd',Mq,h3⟩
       ·cases h2)
     simp only[St.S,Tr.iM]at this
     exact this
    ·cases he
   |bJ v=>exact hr _ he
   |_=>cases he
  ·cases h
 ·cases h
theorem s9{st:St}{o:bZ}{kr:RO->Option dY}{a:dY}(h:vh P st o kr=some a){K:S->Prop}{X:V->S->Prop}(hr:∀r,kr r=some a->r.to K X):match fP P st.S st.S.nx o.op with
 |some (v,Δ,_)=>K ⟨a8 st.S.env o.dst v,put st.S.o Δ,st.S.nx+1⟩
 |none=>False:=by
 unfold vh at h
 split at h
 ·rename_i v Δ rd he
  have he:=Cj he
  simp only[iU,mu,Nat.cK]at h
  have hr:=hr _ h
  simp only[RO.to,St.S,ee,jo]at hr
  have fj:fP P st.S st.S.nx o.op=some (v,Δ,rd):=he
  simp only[fj]
  exact hr
 ·cases h
theorem Co{st:St}{dst:Option Nat}{kr:RO->Option dY}{v:V}{Δ:List (Nat×ab)}{a:dY}(h:IB st dst kr v Δ=some a){K:S->Prop}{X:V->S->Prop}(hr:∀r,kr r=some a->r.to K X):K ⟨a8 st.S.env dst v,put st.S.o Δ,st.S.nx+1⟩:=by
 unfold IB at h
 simp only[iU,mu,Nat.cK]at h
 have hr:=hr _ h
 simp only[RO.to,St.S,ee,jo]at hr
 exact hr
theorem Mr(bc:P.follows .mixedOrders=true)(cq:∀g,(bV g).Ok P g){rec:du}(aH:ek P rec){st:St}{o:bZ}{kr:RO->Option dY}{a:dY}(h:Ti P bV md rec st o kr=some a){K:S->Prop}{X:V->S->Prop}(hr:∀r,kr r=some a->r.to K X):EE P st.S o X K:=by
 have cr:∀r,Qf st o.dst kr r=some a->r.to (fun v o' nx'=>K ⟨a8 st.S.env o.dst v,o',nx'⟩) (fun v o' nx'=>X v ⟨st.S.env,o',nx'⟩):=by
  intro r hx
  unfold Qf at hx
  split at hx
  ·simp only[iU,Nat.cK]at hx
   have hr:=hr _ hx
   simp only[RO.to,St.S,ee]at hr
   exact hr
  ·exact hr _ hx
 unfold Ti at h
 unfold EE
 cases dt:o.op
 case call c=>
  rw[dt]at h
  have h:FZ c P bV md rec st o kr=some a:=h
  unfold FZ at h
  cases hf:c.callee
  case value f=>
   simp only[hf]at h|-
   split at h
   ·rename_i g first cap hv
    simp only[hv]
    have:=zn bc cq aH h cr
    rcases this with⟨ds,eC,hP⟩|hC
    ·have Ms:bW st.S.o (first++List.map st.S.ev c.args.toList++cap)=some ds:=eC
     simp only[Ms]
     exact .inl hP
    ·split
     ·exact .inr (.inl hC)
     ·exact .inl hC
   ·rename_i id hv
    simp only[hv]
    exact ID bc aH h cr
   ·cases h
  case invoke r m=>
   simp only[hf]at h|-
   split at h
   ·rename_i g y hv
    simp only[hv]
    exact zn bc cq aH h cr
   ·cases h
  all_goals
   simp only[hf]at h|-
   have:=s9 h hr
   rw[dt]at this
   exact this
 case panic x=>
  rw[dt]at h
  have h:Mp x P bV md rec st o kr=some a:=h
  unfold Mp at h
  split at h
  ·rename_i hv;simp only[hv];exact hr _ h
  ·rename_i hv;simp only[hv];exact hr _ h
  ·cases h
 case next x str=>
  rw[dt]at h
  have h:F1 x str P bV md rec st o kr=some a:=h
  unfold F1 at h
  have hl:np st.S.o (st.S.ev x)=np st.o.get (st.S.ev x):=rfl
  simp only[hl]
  split at h
  ·rename_i id l aw
   simp only[aw]
   cases str with
   |true=>cases h
   |false=>
    refine⟨rfl,fun e=> ?_,fun i k y e=> ?_⟩
    ·subst e
     exact Co h hr
    ·cases l with
     |nil=>simp at e
     |cons p l=>
      have:=F0 h i (List.getElem?_eq_some_iff.1 e).1
      rw[e]at this
      exact Co this hr
  ·rename_i aw
   simp only[aw]
   have:=s9 h hr
   rw[dt]at this
   exact this
 all_goals
  have h2:vh P st o kr=some a:=by rw[dt]at h;exact h
  have:=s9 h2 hr
  rw[dt]at this
  exact this
theorem rJ(bc:P.follows .mixedOrders=true)(cq:∀g,(bV g).Ok P g){rec:du}(aH:ek P rec){kr:RO->Option dY}{a:dY}{K:S->Prop}{X:V->S->Prop}(hr:∀r,kr r=some a->r.to K X):∀ (l:List bZ) (st:St),wO P bV md rec kr l st=some a->nP P X K l st.S
 |[],st,h=>hr (.ok st) h
 |o::l,st,h=>by
  simp only[wO,iU,Nat.cK]at h
  simp only[nP]
  have op:Ti P bV md rec st o (Xy (wO P bV md rec kr l) kr)=some a->EE P st.S o X (nP P X K l):=by
   intro h
   refine Mr bc cq aH h fun r Xz=> ?_
   cases r with
   |ok Mt=>exact rJ bc cq aH hr l Mt Xz
   |bJ v Mt=>exact hr (.bJ v Mt) Xz
  have sk:wO P bV md rec kr l ⟨qP st.env o.dst (.bU []),st.o,st.nx+1⟩=some a->nP P X K l ⟨a8 st.S.env o.dst (.bU []),st.S.o,st.S.nx+1⟩:=by
   intro h
   have:=rJ bc cq aH hr l _ h
   simp only[St.S,ee]at this
   exact this
  cases hg:o.gd with
  |none=>simp only[hg]at h;exact op h
  |some p=>
   obtain⟨d,want⟩:=p
   simp only[hg]at h
   have he:st.S.env d=st.env.get d:=rfl
   simp only[he]
   cases hv:st.env.get d with
   |d x=>
    cases x with
    |bool b=>
     simp only[hv]at h|-
     by_cases e:b=want
     ·subst e
      simp only[beq_self_eq_true]at h
      rw[if_pos rfl];exact op h
     ·have:(b==want)=false:=by simpa using e
      rw[this]at h
      rw[if_neg e];exact sk h
    |_=>simp[hv]at h
   |bU vs=>
    cases vs with
    |nil=>simp only[hv]at h|-;exact sk h
    |cons a bX=>simp[hv]at h
   |_=>simp[hv]at h
end
end Go.Proofs.YtealblliddhgiaaGreat
namespace Go.Proofs.YtealblliddhgiaaGreat
theorem AV.Mu {P:Program}{g:FuncId}{ds:List D}{o:Nat->ab}{fr:Nat}{ty:TypeId}{sz:Nat}{es:List D}
 (h:eR P g (ds.map .d) (fun _=> .no) 0 (fun v o1 _=>(∃j ep,v= .osl j ep/\o1 j= .arr ep ty sz es)\/(v= .br/\es=[]/\0<sz)) (fun _ _ _=>False)):
 AV P g (ds.map .d) [] o fr (.osl fr 0) [(fr, .arr 0 ty sz es)]:=by
 refine⟨h.1,fun o' us M φ w vals _ cL hH hd=> ?_⟩
 let cu:Place:=fun _=> .nilFunc
 have wh:∀b, ¬bS cu (hp (fun _=> .no) 0) b:=by rintro b ⟨id,hl,_⟩;simp[hp,ab.live]at hl
 have hM:∀b,aj M φ ⟨o',us⟩ b->b<w.heap.size:=fun b hb=>hb.elim (hH.tX b) fun hl=>(hH.ours b hl).2
 have uA:=(V.cm _ _).1 hd
 refine(h.2 (aj M φ ⟨o',us⟩) cu w vals (mT cu hM) ((V.cm _ _).2 (D.aJ (w:=w) (w':=w) (B:=aj M φ ⟨o',us⟩) (fun b _ hB=>⟨rfl,fun h=>h.elim hB (wh b)⟩) _ _ uA))).mono ?_
 rintro e w' ⟨iu,o1,n1,v,k1,k2,k3⟩
 have hk:eL (fun _=>False) w w':=⟨k2.ck.os,k2.ck.tape,k2.ck.output,k2.ck.size,fun k hk _=>k2.ck.block k hk (wh k)⟩
 have HJ:(⟨o',us⟩:Hp).put [(fr, .arr 0 ty sz es)]=⟨put o' [(fr, .arr 0 ty sz es)],fun id=>us id\/id=fr⟩:=by
  simp only[Hp.put]
  congr 1
  funext id
  simp
 have fin:∀ (val:Value) (xs:List Value),(∀b,eA val=some b->w.heap.size<=b/\b<w'.heap.size)->0<sz->w'.ownsRow 0 ty sz val es.length xs->
  (gy (aj M (ax φ fr val) ((⟨o',us⟩:Hp).put [(fr, .arr 0 ty sz es)])) w' sz es xs)->
  val.oneCell'=true->
  ∃aB,az M aB ⟨put o' [(fr, .arr 0 ty sz es)],fun id=>us id\/id=fr⟩ w'/\Trans φ ⟨o',us⟩ w aB ⟨put o' [(fr, .arr 0 ty sz es)],fun id=>us id\/id=fr⟩ w'/\
   ∃F4,Ending.returned val= .returned F4/\V.den (aj M aB ⟨put o' [(fr, .arr 0 ty sz es)],fun id=>us id\/id=fr⟩) aB ⟨put o' [(fr, .arr 0 ty sz es)],fun id=>us id\/id=fr⟩ w' (.osl fr 0) F4:=by
  intro val xs ja dL eP bF UQ
  have oU:=jb hH hk cL (.arr 0 ty sz es) val ja (by
   unfold aL
   rw[show((⟨o',us⟩:Hp).put [(fr, .arr 0 ty sz es)]).o fr= .arr 0 ty sz es by simp]
   refine⟨dL,xs, ?_,bF⟩
   rw[show ax φ fr val fr=val by simp]
   exact eP)
  have Qh:=eN (φ:=φ) (H:=⟨o',us⟩) hk cL (.arr 0 ty sz es) val (fun b hb=>(ja b hb).1)
  rw[HJ]at oU Qh
  refine⟨ax φ fr val,oU,Qh,val,rfl,UQ, .inr rfl,fun e he=> ?_⟩
  have fj:0=e:=by
   have:(put o' [(fr,ab.arr 0 ty sz es)] fr).ba=some 0:=by simp[put,ab.ba]
   rw[show(⟨put o' [(fr, .arr 0 ty sz es)],fun id=>us id\/id=fr⟩:Hp).o fr=put o' [(fr, .arr 0 ty sz es)] fr from rfl,this]at he
   injection he
  exact⟨by omega,fun _=>by simp⟩
 cases e with
 |outgrown=>exact k3.elim
 |panicked ch=>obtain⟨_,_,_,h⟩:=k3;exact h.elim
 |returned val=>
  obtain⟨g1,⟨j,ep,rfl,hj⟩|⟨rfl,rfl,dL⟩⟩:=k3
  ·obtain⟨v0,v1,v2⟩:=g1
   have ei:val=iu j:=(v2 ep (by show(o1 j).ba=some ep;rw[hj];rfl)).2 rfl
   have bT:∀b,eA val=some b->bS iu (hp o1 n1) b:=fun b hb=>⟨j,by show(o1 j).live=true;rw[hj];rfl,by rw[<- ei];exact hb⟩
   have ja:∀b,eA val=some b->w.heap.size<=b/\b<w'.heap.size:=fun b hb=>⟨(k2.grow b (bT b hb)).resolve_left (wh b),(k1.ours b (bT b hb)).2⟩
   have Mv:=k1.ok j
   unfold aL at Mv
   rw[show(hp o1 n1).o j= .arr ep ty sz es from hj]at Mv
   obtain⟨dL,xs,eP,bF⟩:=Mv
   have ZC:∀b,aj M (ax φ fr val) ((⟨o',us⟩:Hp).put [(fr, .arr 0 ty sz es)]) b->aj (aj M φ ⟨o',us⟩) iu (hp o1 n1) b:=by
    rintro b (hb|⟨id,hl,hb⟩)
    ·exact .inl (.inl hb)
    ·by_cases e:id=fr
     ·subst e
      simp at hb
      exact .inr (bT b hb)
     ·simp[e]at hl hb
      exact .inl (.inr ⟨id,hl,hb⟩)
   exact fin val xs ja dL (by rw[ei];exact eP) (bF.mono (w:=w') (w':=w') (fun b _ hB=>⟨rfl,fun h=>hB (ZC b h)⟩)) v0
  ·have g1:val= .slice none 0 0:=g1
   subst g1
   exact fin _ [] (fun b hb=>by cases hb) dL (World.ownsRow_nil w' 0 ty sz) ⟨[],rfl,by simp,rfl⟩ rfl
theorem AV.IE {P:Program}{g:FuncId}{args:List V}{ds:List D}{o:Nat->ab}{fr:Nat}{ty:TypeId}{sz:Nat}{es:List D}
 (eC:bW o args=some ds) (la:D.je es=true) (h:eR P g (ds.map .d) (fun _=> .no) 0 (fun v o1 _=>(∃j ep,v= .osl j ep/\o1 j= .arr ep ty sz es)\/(v= .br/\es=[]/\0<sz)) (fun _ _ _=>False)):
 AV P g args (V.bg args) o fr (.osl fr 0) [(fr, .arr 0 ty sz es)]:=by
 refine⟨h.1,fun o' us M φ w vals XA cL hH hd=> ?_⟩
 obtain⟨f1,f2,f3,f4,f5⟩:=cR hH (V.bg args) (fun id aw=>(XA id aw).2)
 generalize hHF:(⟨o',us⟩:Hp).put (cH (⟨o',us⟩:Hp).o (V.bg args))=HF at f1 f2 f3
 let cu:Place:=fun _=> .nilFunc
 have wh:∀b, ¬bS cu (hp (fun _=> .no) 0) b:=by rintro b ⟨id,hl,_⟩;simp[hp,ab.live]at hl
 have hM:∀b,aj M φ HF b->b<w.heap.size:=fun b hb=>hb.elim (f1.tX b) fun hl=>(f1.ours b hl).2
 have uA:D.aF (aj M φ HF) w ds vals.toList:=db f1 args ds _ (fun id aw=>by rw[f3 id aw];show(o' id).fz=(o id).fz;rw[(XA id aw).1]) eC (V.aJ f2 _ _ hd)
 refine(h.2 (aj M φ HF) cu w vals (mT cu hM) ((V.cm _ _).2 (D.aJ (w:=w) (w':=w) (B:=aj M φ HF) (fun b _ hB=>⟨rfl,fun h=>h.elim hB (wh b)⟩) _ _ uA))).mono ?_
 rintro e w' ⟨iu,o1,n1,v,k1,k2,k3⟩
 have hk:eL (fun _=>False) w w':=⟨k2.ck.os,k2.ck.tape,k2.ck.output,k2.ck.size,fun k hk _=>k2.ck.block k hk (wh k)⟩
 have HJ:(⟨o',us⟩:Hp).put [(fr, .arr 0 ty sz es)]=⟨put o' [(fr, .arr 0 ty sz es)],fun id=>us id\/id=fr⟩:=by
  simp only[Hp.put]
  congr 1
  funext id
  simp
 have fin:∀ (val:Value) (xs:List Value),(∀b,eA val=some b->w.heap.size<=b/\b<w'.heap.size)->0<sz->w'.ownsRow 0 ty sz val es.length xs->
  (gy (aj M (ax φ fr val) ((⟨o',us⟩:Hp).put [(fr, .arr 0 ty sz es)])) w' sz es xs)->
  val.oneCell'=true->
  ∃aB,az M aB ⟨put o' [(fr, .arr 0 ty sz es)],fun id=>us id\/id=fr⟩ w'/\Trans φ ⟨o',us⟩ w aB ⟨put o' [(fr, .arr 0 ty sz es)],fun id=>us id\/id=fr⟩ w'/\
   ∃F4,Ending.returned val= .returned F4/\V.den (aj M aB ⟨put o' [(fr, .arr 0 ty sz es)],fun id=>us id\/id=fr⟩) aB ⟨put o' [(fr, .arr 0 ty sz es)],fun id=>us id\/id=fr⟩ w' (.osl fr 0) F4:=by
  intro val xs ja dL eP bF UQ
  have oU:=jb hH hk cL (.arr 0 ty sz es) val ja (by
   unfold aL
   rw[show((⟨o',us⟩:Hp).put [(fr, .arr 0 ty sz es)]).o fr= .arr 0 ty sz es by simp]
   refine⟨dL,xs, ?_,bF⟩
   rw[show ax φ fr val fr=val by simp]
   exact eP)
  have Qh:=eN (φ:=φ) (H:=⟨o',us⟩) hk cL (.arr 0 ty sz es) val (fun b hb=>(ja b hb).1)
  rw[HJ]at oU Qh
  refine⟨ax φ fr val,oU,Qh,val,rfl,UQ, .inr rfl,fun e he=> ?_⟩
  have fj:0=e:=by
   have:(put o' [(fr,ab.arr 0 ty sz es)] fr).ba=some 0:=by simp[put,ab.ba]
   rw[show(⟨put o' [(fr, .arr 0 ty sz es)],fun id=>us id\/id=fr⟩:Hp).o fr=put o' [(fr, .arr 0 ty sz es)] fr from rfl,this]at he
   injection he
  exact⟨by omega,fun _=>by simp⟩
 cases e with
 |outgrown=>exact k3.elim
 |panicked ch=>obtain⟨_,_,_,h⟩:=k3;exact h.elim
 |returned val=>
  obtain⟨g1,⟨j,ep,rfl,hj⟩|⟨rfl,rfl,dL⟩⟩:=k3
  ·obtain⟨v0,v1,v2⟩:=g1
   have ei:val=iu j:=(v2 ep (by show(o1 j).ba=some ep;rw[hj];rfl)).2 rfl
   have bT:∀b,eA val=some b->bS iu (hp o1 n1) b:=fun b hb=>⟨j,by show(o1 j).live=true;rw[hj];rfl,by rw[<- ei];exact hb⟩
   have ja:∀b,eA val=some b->w.heap.size<=b/\b<w'.heap.size:=fun b hb=>⟨(k2.grow b (bT b hb)).resolve_left (wh b),(k1.ours b (bT b hb)).2⟩
   have Mv:=k1.ok j
   unfold aL at Mv
   rw[show(hp o1 n1).o j= .arr ep ty sz es from hj]at Mv
   obtain⟨dL,xs,eP,bF⟩:=Mv
   obtain⟨evs,e1,e2,e3⟩:=bF
   exact fin val xs ja dL (by rw[ei];exact eP) ⟨evs,e1,e2,D.lg _ _ la e3⟩ v0
  ·have g1:val= .slice none 0 0:=g1
   subst g1
   exact fin _ [] (fun b hb=>by cases hb) dL (World.ownsRow_nil w' 0 ty sz) ⟨[],rfl,by simp,rfl⟩ rfl
theorem AV.IF {P:Program}{g:FuncId}{args:List V}{ds:List D}{o0 o:Nat->ab}{rd:List Nat}{fr:Nat}{v:V}{Δ:List (Nat×ab)}(aw:V.bg args=[])(eC:bW o0 args=some ds)
 (h:AV P g (ds.map .d) rd o fr v Δ):AV P g args rd o fr v Δ:=
 ⟨h.1,fun o' us M φ w vals h1 h2 hH hd=>h.2 o' us M φ w vals h1 h2 hH ((V.cm _ _).2 (db hH args ds _ (by rw[aw];intro id h;cases h) eC hd))⟩
end Go.Proofs.YtealblliddhgiaaGreat
