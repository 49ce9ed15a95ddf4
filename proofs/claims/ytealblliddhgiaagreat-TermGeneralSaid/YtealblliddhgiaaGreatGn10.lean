/-
  A PART OF THE PROOF. Conditions: none.
-/
import Derived.Test.YtealblliddhgiaaGreatGn9
set_option linter.unusedSimpArgs false
set_option linter.unusedVariables false
namespace Go.Proofs.YtealblliddhgiaaGreat
abbrev D.i (n:Int):D:= .int .i64 n
structure pb where
 name:List UInt8
 args:Int
structure aO where
 cons:List pb
 dK:List pb
inductive Tm where
 |mk (op n:Int) (kids:List Tm)
 deriving Inhabited
structure TB where
 var:Int
 term:Tm
def Tm.op:Tm->Int| .mk op _ _=>op
def Tm.n:Tm->Int| .mk _ n _=>n
def Tm.kids:Tm->List Tm| .mk _ _ l=>l
theorem Tm.eta (t:Tm):Tm.mk t.op t.n t.kids=t:=by cases t;rfl
theorem Tm.ind {P:Tm->Prop}(h:∀op n kids,(∀k∈kids,P k)->P (.mk op n kids)):∀t,P t:=
 fun t=>Tm.rec (motive_1:=P) (motive_2:=fun l=>∀k∈l,P k) (fun op n kids ih=>h op n kids ih) (fun _ h=>by cases h)
  (fun x l hx hl k hk=>(List.mem_cons.1 hk).elim (fun e=>e ▸ hx) (hl k)) t
mutual
def Tm.d:Tm->D
 | .mk op n kids=> .agg [.i op, .i n, .sl (Tm.ds kids)]
def Tm.ds:List Tm->List D
 |[]=>[]
 |t::l=>t.d::Tm.ds l
end
theorem Tm.CC:∀l:List Tm,Tm.ds l=l.map Tm.d
 |[]=>rfl
 |t::l=>by simp[Tm.ds,Tm.CC l]
theorem Tm.R4 (t:Tm):t.d= .agg [.i t.op, .i t.n, .sl (t.kids.map Tm.d)]:=by cases t;simp[Tm.d,Tm.CC,Tm.op,Tm.n,Tm.kids]
@[go_sem] theorem Tm.W3 (t:Tm):D.agg [.i t.op, .i t.n, .sl (t.kids.map Tm.d)]=t.d:=(Tm.R4 t).symm
@[go_sem] theorem Tm.VF (t:Tm):D.cells t.d=[.i t.op, .i t.n, .sl (t.kids.map Tm.d)]:=by rw[Tm.R4];rfl
theorem Tm.eO {P:Tm->Prop}(h:∀t:Tm,(∀k∈t.kids,P k)->P t):∀t,P t:=Tm.ind fun op n kids ih=>h (.mk op n kids) ih
theorem Tm.vy (op n:Int)(l:List Tm):(Tm.mk op n l).d= .agg [.i op, .i n, .sl (l.map Tm.d)]:=by simp[Tm.d,Tm.CC]
@[reducible] def pb.d (x:pb):D:= .agg [.str x.name, .i x.args]
@[reducible] def aO.d (s:aO):D:= .agg [.sl (s.cons.map pb.d), .sl (s.dK.map pb.d)]
@[reducible] def TB.d (b:TB):D:= .agg [.i b.var, .i b.term.op, .i b.term.n, .sl (b.term.kids.map Tm.d)]
mutual
def Tm.fits:Tm->Prop
 | .mk _ _ kids=>kids.length<=9223372036854775807/\Tm.Ax kids
def Tm.Ax:List Tm->Prop
 |[]=>True
 |t::l=>t.fits/\Tm.Ax l
end
theorem Tm.wI:∀l:List Tm,Tm.Ax l↔∀k∈l,k.fits
 |[]=>by simp[Tm.Ax]
 |t::l=>by simp[Tm.Ax,Tm.wI l]
theorem Tm.bR (t:Tm):t.fits↔t.kids.length<=9223372036854775807/\∀k∈t.kids,k.fits:=by cases t;simp[Tm.fits,Tm.wI,Tm.kids]
mutual
def Tm.ck:Tm->Nat
 | .mk _ _ kids=>1+Tm.dQ kids
def Tm.dQ:List Tm->Nat
 |[]=>0
 |k::l=>Nat.max k.ck (Tm.dQ l)
end
theorem Tm.tV:∀ {l:List Tm} {k:Tm},k∈l->k.ck<=Tm.dQ l
 |x::l,k,h=>by
  simp only[Tm.dQ]
  rcases List.mem_cons.1 h with rfl|h
  ·exact Nat.le_max_left _ _
  ·exact Nat.le_trans (Tm.tV h) (Nat.le_max_right _ _)
theorem Tm.dv {t k:Tm}(h:k∈t.kids):k.ck+1<=t.ck:=by
 cases t;simp only[Tm.kids]at h;simp only[Tm.ck];have:=Tm.tV h;omega
mutual
def pre:Tm->Int->List (Tm×Int)
 | .mk op n kids,d=>(.mk op n kids,d)::JZ kids (d+1)
def JZ:List Tm->Int->List (Tm×Int)
 |[],_=>[]
 |k::l,d=>pre k d++JZ l d
end
theorem Fu(l:List Tm)(d:Int):JZ l d=l.flatMap fun k=>pre k d:=by
 induction l with
 |nil=>rfl
 |cons k l ih=>simp[JZ,ih]
theorem l9(t:Tm)(d:Int):pre t d=(t,d)::t.kids.flatMap fun k=>pre k (d+1):=by cases t;simp[pre,Fu,Tm.kids]
def eX(n low high:Int):Bool:=decide (low<=n)&&decide (n<=high)
def letterF(b:UInt8):Bool:= !((decide ((b.toNat:Int)<97)||decide (122<(b.toNat:Int)))&&(decide ((b.toNat:Int)<65)||decide (90<(b.toNat:Int))))
def jL(s:List UInt8):Bool:=s.all letterF&&eX s.length 1 8
def cu:List pb->List (List UInt8)->Option (List (List UInt8))
 |[],before=>some before
 |x::l,before=>if before.any (· ==x.name)then none else if(!jL x.name|| !eX x.args 0 4)=true then none else cu l (before++[x.name])
def fB:List UInt8:=[70,97,108,115,101]
def tB:List UInt8:=[84,114,117,101]
def mA(x:pb)(s:List UInt8):Bool:=x.name==s&&x.args==0
def nT(s:aO):Bool:=
 if(!eX s.cons.length 2 12||decide (8<(s.dK.length:Int)))=true then false else
 match s.cons with
 |a::b::_=>if(!mA a fB|| !mA b tB)=true then false else
  match cu s.cons []with
  |none=>false
  |some l=>(cu s.dK l).isSome
 |_=>false
mutual
def iL:Tm->Int->Int->Int
 | .mk _ _ kids,left,depth=>if left<1\/depth<1 then -1 else cw kids (left - 1) (depth - 1)
def cw:List Tm->Int->Int->Int
 |[],left,_=>left
 |k::l,left,depth=>if 0<=left then cw l (iL k left depth) depth else left
end
def jM(l:List pb)(n:Int):Int:=match l[n.toNat]? with|some x=>x.args|none=>0
def bu(s:aO)(t:Tm):Bool:=
 let k:Int:=t.kids.length
 if t.op=1 then k==0&&eX t.n 0 19
 else if t.op=2 then k==0&&eX t.n (-1000000) 1000000
 else if t.op=3 then eX t.n 0 (s.cons.length - 1)&&k==jM s.cons t.n
 else if t.op=4 then eX t.n 0 (s.dK.length - 1)&&k==jM s.dK t.n
 else if t.op=5 then eX t.n 0 (s.dK.length - 1)&&decide (k<jM s.dK t.n)
 else if t.op=8 then k==2&&eX t.n 0 19
 else if(eX t.op 6 15)=true then k==2&&t.n==0
 else false
mutual
def im(s:aO):Tm->Bool
 | .mk op n kids=>bu s (.mk op n kids)&&sI s kids
def sI(s:aO):List Tm->Bool
 |[]=>true
 |k::l=>im s k&&sI s l
end
def bL(s:aO)(t:Tm):Bool:=decide (0<=iL t 40 12)&&im s t
mutual
def eE:Tm->Bool
 | .mk op _ kids=>sJ kids&&((decide (1<=op)&&decide (op<=3))||op==5)
def sJ:List Tm->Bool
 |[]=>true
 |k::l=>eE k&&sJ l
end
mutual
def iM:Tm->Tm->Bool
 | .mk op n kids, .mk op' n' Mg=>op==op'&&n==n'&&kids.length==Mg.length&&iq kids Mg
def iq:List Tm->List Tm->Bool
 |[],_=>true
 |k::l,k'::l'=>iM k k'&&iq l l'
 |_::_,[]=>true
end
def iZ(t:Tm):Bool:=decide (0<=iL t 50 14)
def fM(l:List pb):Bool:=l.all fun x=>decide ((x.name.length:Int)<=30)
def ly(s:aO):Bool:= !(decide (16<(s.cons.length:Int))||decide (12<(s.dK.length:Int)))&&fM s.cons&&fM s.dK
end Go.Proofs.YtealblliddhgiaaGreat
namespace Go.Proofs.YtealblliddhgiaaGreat
def ma(id:Nat)(K X:V->(Nat->ae)->Nat->Prop)(e:fy)(s:S):Prop:=
 match e with
 | .normal=>∃nf m en p c d st pd,s.o id= .loop nf m en p c d st pd/\K (.d (.bool true)) (ak s.o id (.loop nf m en p c d .ready none)) s.nx
 | .ret=>∃nf m en p c d st pd,s.o id= .loop nf m en p c d st pd/\K (.d (.bool false)) (ak s.o id (.loop nf m en p c d .done (some .ret))) s.nx
 | .exit j=>∃nf m en p c d st pd,s.o id= .loop nf m en p c d st pd/\K (.d (.bool false)) (ak s.o id (.loop nf m en p c d .done (some (.exit j)))) s.nx
 | .bG v=>X v s.o s.nx
def Od(P:Program)(n b id:Nat)(fO:IC)(K X:V->(Nat->ae)->Nat->Prop)(e:fy)(s:S):Prop:=
 match e with
 | .normal=>∃nf m en p c d pd,s.o id= .loop nf m en p c d .ready pd/\sG P n b true fO (ma id K X) ⟨s.env,ak s.o id (.loop nf m en p c d .busy pd),s.nx⟩
 | .bG v=>X v s.o s.nx
 |_=>False
section
variable {P:Program}{M:Nat->Prop}{φ cA:Place}{H0:Hp}{w w0:World}{n:Nat}{s:S}{a:Act}{cx:Cx}
theorem Ay{id:Nat}{x:ae}{s:S}(bC:id<s.nx)(j:Nat)(hu:(s.H.put [(id,x)]).us j):j<s.nx:=by
 simp only[dV]at hu
 rcases hu with hu|hu
 ·exact hu
 ·subst hu;exact bC
theorem tW{B:Nat->Prop}{H:Hp}{n:Nat}:∀ (ps:List Nat) (vs:List V) (us:List Value) (env:Nat->V) (tmps:Array Value),tmps.size=n->ps.length=vs.length->V.aE B φ H w vs us->ps.all (fun t=>decide (t<n))=true->(∀i,V.den B φ H w (env i) (tmps.getD i undef))->
 ((ps.zip us).foldl (fun tmps p=>tmps.setIfInBounds p.1 p.2) tmps).size=n/\∀i,V.den B φ H w (ss env ps vs i) (((ps.zip us).foldl (fun tmps p=>tmps.setIfInBounds p.1 p.2) tmps).getD i undef)
 |[],[],us,env,tmps,eg,_,hd,_,he=>by simp only[V.aE]at hd;subst hd;exact⟨eg,he⟩
 |[],v::vs,us,env,tmps,_,h,_,_,_=>by simp at h
 |t::ps,[],us,env,tmps,_,h,_,_,_=>by simp at h
 |t::ps,v::vs,us,env,tmps,eg,hl,hd,hp,he=>by
  obtain⟨u,us,rfl,h1,h2⟩:=hd
  simp only[List.all_cons,Bool.and_eq_true,decide_eq_true_eq]at hp
  simp only[List.zip_cons_cons,List.foldl_cons,ss]
  refine tW ps vs us (ak env t v) (tmps.setIfInBounds t u) (by simp[eg]) (by simpa using hl) h2 hp.2 (fun i=> ?_)
  simp only[aJ]
  by_cases hi:i=t
  ·subst hi
   have:(tmps.setIfInBounds i u).getD i undef=u:=by simp[Array.getD,eg,hp.1]
   rw[if_pos rfl,this];exact h1
  ·have:(tmps.setIfInBounds t u).getD i undef=tmps.getD i undef:=by
    simp only[Array.getD_eq_getD_getElem?]
    rw[Array.getElem?_setIfInBounds_ne (Ne.symm hi)]
   rw[if_neg hi,this];exact he i
theorem dJ.tQ (bc:P.follows .mixedOrders=true){id:Nat}{args:List V}{o:Nat->ae}{nx:Nat}{K X:V->(Nat->ae)->Nat->Prop}{env:List V}{ps:List Nat}{kX fO:IC}{st:LoopState}{pd:Option kR}
 (ho:o id= .loop P.funcs.size n env ps kX fO st pd) (bC:id<nx) (J0:ps.all (fun t=>decide (t<n))=true) (hl:args.length=ps.length)
 (h:sG P n nx true kX (Od P n nx id fO K X) ⟨ss (bw env) ps args,o,nx⟩):dJ P id args o nx K X:=by
 refine⟨by rw[ho];rfl,fun M φ w vals b hH hd dq=> ?_⟩
 have bA:=hH.ok id
 simp only[aK,hp,ho]at bA
 obtain⟨b',r,h1,h2,h0,h3,h4,h5,h6,h7,h8,h9⟩:=bA
 rw[dq]at h1;simp at h1;subst h1
 have hlen:=V.aG _ _ hd
 have eg:vals.size=r.params.size:=by
  have:r.params.toList.length=ps.length:=by rw[h5]
  simp at hlen this;omega
 let tm:Array Value:=(ps.zip vals.toList).foldl (fun tmps p=>tmps.setIfInBounds p.1 p.2) r.tmps
 have R5:(r.params.zip vals).foldl (fun tmps (p:Tmp×Value)=>tmps.setIfInBounds p.1 p.2) r.tmps=tm:=by
  rw[<- Array.foldl_toList,Array.toList_zip,h5]
 obtain⟨p1,p2⟩:=tW (B:=ao M φ (hp o nx)) (H:=hp o nx) (φ:=φ) (w:=w) ps args vals.toList (bw env) r.tmps h6 hl.symm hd J0 h9
 refine⟨r.fn,tm,r.assign,r.body, ?_,fun k=> ?_⟩
 ·simp only[Instr.yield,Sem.run_bind,ko h2,Result.andThen_ok,eg,ne_eq,not_true_eq_false,if_false,Sem.run_pure]
  rw[<- R5]
 ·
   let s0:S:=⟨ss (bw env) ps args,o,nx⟩
   let a0:Act:={tmps:=tm,defers:=[]}
   have rD:cf M φ (hp o nx) w n ⟨[],true⟩ φ s0 a0 w:=⟨hH,Trans.refl _ _ _,p1,⟨[],rfl,List.nodup_nil,fun _=>rfl,fun r hr=>by cases hr⟩,p2⟩
   have tX:∀ {aC s' a' w'},cf M φ (hp o nx) w n ⟨[],true⟩ aC s' a' w'->a'.defers=[]:=by
    intro aC s' a' w' hs
    obtain⟨ms,g1,_,g3,_⟩:=hs.defers
    rw[g3 rfl]at g1;exact g1
   have R6:∀ {aC s' a' w'} {nf m:Nat} {en:List V} {p:List Nat} {c d:IC} {st:LoopState} {pd:Option kR} (st':LoopState) (pd':Option kR),cf M φ (hp o nx) w n ⟨[],true⟩ aC s' a' w'->s'.o id= .loop nf m en p c d st pd->
    ∃r',w'.heap[b]? =some (.loop r')/\r'.state=st/\r'.pending=pd.map kR.code/\
     cf M φ (hp o nx) w n ⟨[],true⟩ aC ⟨s'.env,ak s'.o id (.loop nf m en p c d st' pd'),s'.nx⟩ a' {w' with heap:=w'.heap.setIfInBounds b (.loop {r' with state:=st',pending:=pd'.map kR.code})}:=by
    intro aC s' a' w' nf m en p c d st pd st' pd' hs kS
    have Nw:aC id= .pointer (some ⟨b,0,none⟩):=by
     have:=(hs.tr.rel.row id bC (by show(s'.o id).bM=true;rw[kS];rfl)).2
     rw[this];exact dq
    have tY:id<s'.nx:=hs.tr.rel.us id bC
    obtain⟨r',r1,r2,r3,r4,r5⟩:=wg (st':=st') (pd':=pd') hs.heap tY (show s'.H.o id=_ from kS) Nw
    exact⟨r',r1,r2,r3,ej hs r4 r5 rfl (Ay tY)⟩
   have ha:=ik (P:=P) (n:=n) (b:=nx) (rd:=true) bc r.assign _ _ s0 (fun _ _ h=>h) (by rw[h7];exact h)
   refine tE h0 (gD (hU (P:=P) (H0:=hp o nx) (b:=nx) (cx:=⟨[],true⟩) (ro:=some b) (fun id hu=>hu) (fun h=>by cases h) r.assign _ s0 φ a0 w ha rD) ?_)
   rintro e a1 w1 ⟨x,s1,iV,hq,sc,hm⟩
   cases e<;>cases x<;>first|(exact hm.elim)|skip
   ·
     obtain⟨nf,m,en,p,c,d,W4,q1,q2⟩:=hq
     obtain⟨r',r1,r2,r3,Gb⟩:=R6 .busy W4 sc q1
     have Oe:(Instr.beginRound b).run P w1= .ok () {w1 with heap:=w1.heap.setIfInBounds b (.loop {r' with state:= .busy,pending:=W4.map kR.code})}:=by
      have e1:({r' with state:= .busy}:Loop)={r' with state:= .busy,pending:=W4.map kR.code}:=by rw[<- r3]
      simp only[Instr.beginRound,Sem.run_bind,ko r1,Result.andThen_ok,iX _ r1,r2,Sem.run_pure,e1]
     refine⟨_,Oe, ?_⟩
     have aT:=Gb.heap.ok id
     simp only[aK,S.H,aJ,if_true]at aT
     obtain⟨b2,r2',_,_,_,_,_,_,_,_,_,_⟩:=aT
     have hb:=ik (P:=P) (n:=n) (b:=nx) (rd:=true) bc r.body _ _ _ (fun _ _ h=>h) (by rw[h8];exact q2)
     refine gD (hU (P:=P) (H0:=hp o nx) (b:=nx) (cx:=⟨[],true⟩) (ro:=some b) (fun id hu=>hu) (fun h=>by cases h) r.body _ _ iV a1 _ hb Gb) ?_
     rintro e a2 w2 ⟨x,s2,E6,PX,BK,zA⟩
     have fin:∀ {nf m:Nat} {en:List V} {p:List Nat} {c d:IC} {st:LoopState} {pd:Option kR} (jump:Option kR) (t:Bool) (st':LoopState),t=jump.isNone->st'=(if jump.isNone then .ready else .done)->s2.o id= .loop nf m en p c d st pd->K (.d (.bool t)) (ak s2.o id (.loop nf m en p c d st' jump)) s2.nx->
      ∃v w',(Instr.endRound b (jump.map kR.code)).run P w2= .ok v w'/\mN M φ (hp o nx) w K X (.returned v) w':=by
      intro nf m en p c d st pd jump t st' ht rY oe hK
      obtain⟨r3',g1,g2,g3,PY⟩:=R6 st' jump BK oe
      refine⟨.bool t,_, ?_,E6,_,_,_,PY.heap,PY.tr,by simp only[V.den,D.den],hK⟩
      subst ht;subst rY
      simp only[Instr.endRound,Sem.run_bind,ko g1,Result.andThen_ok,iX _ g1,Sem.run_pure,Option.isNone_map]
     cases e<;>cases x<;>first|(exact zA.elim)|skip
     ·obtain⟨nf,m,en,p,c,d,st,pd,k1,k2⟩:=PX
      exact fin none true .ready rfl rfl k1 k2
     ·rename_i j
      subst zA
      obtain⟨nf,m,en,p,c,d,st,pd,k1,k2⟩:=PX
      exact fin (some (.exit _)) false .done rfl rfl k1 k2
     ·obtain⟨nf,m,en,p,c,d,st,pd,k1,k2⟩:=PX
      exact fin (some .ret) false .done rfl rfl k1 k2
     ·obtain⟨val,rfl,k2⟩:=zA
      exact⟨tX BK,E6,_,_,_,BK.heap,BK.tr,val,rfl,k2,PX⟩
   ·exact hq.elim
   ·exact hq.elim
   ·obtain⟨val,rfl,k2⟩:=hm
    exact⟨tX sc,iV,_,_,_,sc.heap,sc.tr,val,rfl,k2,hq⟩
end
end Go.Proofs.YtealblliddhgiaaGreat
namespace Go.Proofs.YtealblliddhgiaaGreat
def Of(ops:Array Oper)(t t1:Nat):Prop:=
 (∃o1 o2,ops=#[o1,o2]/\o1.op= .call ⟨.builtin .recover,#[],#[]⟩/\o1.dst=some t/\o1.guard=none/\o2.op= .assign (.tmp t)/\o2.dst=some t1/\o2.guard=none)\/
 (∃o1,ops=#[o1]/\t1=t/\o1.op= .call ⟨.builtin .recover,#[],#[]⟩/\o1.dst=some t/\o1.guard=none)
structure Az (P:Program) (g:FuncId) (n t t1:Nat) (ic:IC):Prop where
 get:∃fn id ops c,P.funcs[g]? =some fn/\(fn.name== "runtime.NumGoroutine")=false/\fn.ntmps=n/\fn.results=#[]/\fn.body=some (.seq (.region id ops false) c)/\
  Of ops t t1/\t<n/\t1<n/\low n c=ic
structure DK (P:Program) (f:FuncId) (n:Nat) (kX fO:IC) (g:FuncId) (t:Nat) (b7:List Operand) (rs:List ResultVar):Prop where
 get:∃fn id o1 o2 a b,P.funcs[f]? =some fn/\(fn.name== "runtime.NumGoroutine")=false/\fn.ntmps=n/\fn.results.toList=rs/\fn.body=some (.seq a (.seq (.region id #[o1,o2] false) b))/\
  o1.op= .makeFunc (.func g) #[] b7.toArray/\o1.dst=some t/\o1.guard=none/\o2.op= .defer ⟨.value (.tmp t),#[],#[]⟩/\o2.dst=none/\o2.guard=none/\t<n/\low n a=kX/\low n b=fO
def Fv(K:(Nat->ae)->Nat->Prop)(e:fy)(s:S):Prop:=match e with| .normal| .ret=>K s.o s.nx|_=>False
def CD(P:Program)(n t t1:Nat)(ic:IC)(b7:List V)(u:V)(o:Nat->ae)(nx:Nat)(K:(Nat->ae)->Nat->Prop):Prop:=
 b7.length<=n/\sG P n nx true ic (Fv K) ⟨ak (ak (cq b7) t u) t1 u,o,nx⟩
def x5(P:Program)(n t t1:Nat)(ic:IC)(b7:List V)(rs:List ResultVar)(K X:V->(Nat->ae)->Nat->Prop)(e:fy)(s:S):Prop:=
 match e with
 | .normal| .ret=>CD P n t t1 ic b7 (.d .eC) s.o s.nx fun o nx=>l5 P rs K X .ret ⟨s.env,o,nx⟩
 | .bG v=>CD P n t t1 ic b7 v s.o s.nx fun o nx=>l5 P rs K X .ret ⟨s.env,o,nx⟩
 | .exit _=>False
def AA(P:Program)(n t:Nat)(fO:IC)(fk:List Operand)(g:FuncId)(D:List V->fy->S->Prop)(e:fy)(s:S):Prop:=
 match e with
 | .normal=>sG P n s.nx false fO (D (fk.map s.ev)) ⟨ak s.env t (.func (.func g) [] (fk.map s.ev)),s.o,s.nx⟩
 |_=>False
section
variable {P:Program}{M:Nat->Prop}{φ cA:Place}{H H0:Hp}{w w0:World}{n:Nat}{s:S}{a:Act}{cx:Cx}{k:Nat}
theorem Fw(bc:P.follows .mixedOrders=true){g:FuncId}{t t1:Nat}{ic:IC}(hg:Az P g n t t1 ic){b7:List V}{u:V}{o:Nat->ae}{nx:Nat}{K:(Nat->ae)->Nat->Prop}(h:CD P n t t1 ic b7 u o nx K)
 {vals:Array Value} {val:Value} {m:FrameMode} (hH:az M φ (hp o nx) w) (hd:V.aE (ao M φ (hp o nx)) φ (hp o nx) w b7 vals.toList) (hv:V.den (ao M φ (hp o nx)) φ (hp o nx) w u val)
 (hm:(m= .returning/\val= .nilIface)\/m= .panicking [{v:=val,recovered:=false}]):
 CallsDIn (dP none) k P g vals m w fun e u' w'=>∃v aC o' nx',e= .returned v/\settle u'= .returning/\az M aC (hp o' nx') w'/\Trans φ (hp o nx) w aC (hp o' nx') w'/\K o' nx':=by
 obtain⟨fn,id,ops,c,hf,Mh,VG,sa,pO,Fj,ht,yV,nS⟩:=hg.get
 have bC:g<P.funcs.size:=(Array.getElem?_eq_some_iff.1 hf).1
 obtain⟨mE,h⟩:=h
 have hlen:=V.aG _ _ hd
 refine⟨trivial,fun oP cs Hl Lx=> ?_⟩
 let b:Frame:={(default:Frame)with fn:=g,kind:= .deferred,roundOf:=none}
 let sK:Array Value:=vals++Array.replicate (fn.ntmps - vals.size) undef
 have W5:sK.size=n:=by simp only[sK,Array.size_append,Array.size_replicate];simp at hlen;omega
 have l4:Frame.enter P g vals .deferred=b.atR {tmps:=sK,defers:=[]} [.code (.seq (.region id ops false) c)]:=by
  simp[Frame.enter,Frame.atR,hf,pO,b,sK]
 obtain⟨m',QF,aT⟩:∃m',settle m'= .returning/\((recoverD (oP::cs)=none/\m'=m/\val= .nilIface)\/recoverD (oP::cs)=some (val,{oP with mode:=m'}::cs)):=by
  rcases hm with⟨rfl,rfl⟩|rfl
  ·exact⟨.returning,rfl, .inl ⟨by simp[recoverD,Hl],rfl,rfl⟩⟩
  ·exact⟨.panicking [{v:=val,recovered:=true}],rfl, .inr (by simp[recoverD,Hl])⟩
 have Vn:({oP with mode:=m}:Frame)=oP:=by subst Hl;rfl
 let a1:Act:={tmps:=(sK.setIfInBounds t val).setIfInBounds t1 val,defers:=[]}
 have JI:(Code.region id ops false).wpSIn (dP none) k P (fun e a' cs' w'=>e= .normal/\a'=a1/\cs'={oP with mode:=m'}::cs/\w'=w) {tmps:=sK,defers:=[]} (oP::cs) w:=by
  rcases Fj with⟨o1,o2,rfl,e1,e2,e3,e4,e5,e6⟩|⟨o1,rfl,rfl,e1,e2,e3⟩
  ·refine wpSIn_region ?_
   have hr:List.range (#[o1,o2]:Array Oper).size=[0,1]:=rfl
   have g0:(#[o1,o2]:Array Oper)[0]? =some o1:=rfl
   have g1:(#[o1,o2]:Array Oper)[1]? =some o2:=rfl
   rw[hr]
   have x1:∀ (ρ:Operand->Value) (w:World),(execOp ρ o1).run P w= .ok .recover w:=by
    intro ρ w
    simp[execOp,e1,resolve,invoke,builtin]
   have x2:∀ (ρ:Operand->Value) (w:World),(execOp ρ o2).run P w= .ok (.value (ρ (.tmp t))) w:=by
    intro ρ w
    simp[execOp,e4]
   have last:∀cs',cs'={oP with mode:=m'}::cs->wpOpsSIn (dP none) k P #[o1,o2] (fun e a' cs' w'=>e= .normal/\a'=a1/\cs'={oP with mode:=m'}::cs/\w'=w) [1] (({tmps:=sK,defers:=[]}:Act).put (some t) val) cs' w:=by
    rintro cs' rfl
    have hw:Region.wanted o2 (yielded #[o1,o2] (({tmps:=sK,defers:=[]}:Act).put (some t) val).tmps)=true:=by simp[Region.wanted,e6]
    have dG:(({tmps:=sK,defers:=[]}:Act).put (some t) val).eval (.tmp t)=val:=by
     have:t<sK.size:=by omega
     simp[Act.put,Act.eval,Array.getD,this]
    simp only[wpOpsSIn,g1,hw,if_true,x2,dG,e5]
    refine⟨fun _ _=>trivial, ?_⟩
    simp[a1,Act.put]
   have hw:Region.wanted o1 (yielded #[o1,o2] sK)=true:=by simp[Region.wanted,e3]
   rw[wpOpsSIn,g0]
   refine⟨fun _ _=>trivial, ?_⟩
   simp only[hw,if_true,x1,e2]
   rcases aT with⟨hr,rfl,rfl⟩|hr
   ·simp only[hr]
    exact last _ (by rw[Vn])
   ·simp only[hr]
    exact last _ rfl
  ·refine wpSIn_region ?_
   have hr:List.range (#[o1]:Array Oper).size=[0]:=rfl
   have g0:(#[o1]:Array Oper)[0]? =some o1:=rfl
   rw[hr]
   have x1:∀ (ρ:Operand->Value) (w:World),(execOp ρ o1).run P w= .ok .recover w:=by
    intro ρ w
    simp[execOp,e1,resolve,invoke,builtin]
   have same:a1=({tmps:=sK,defers:=[]}:Act).put (some t1) val:=by
    simp only[a1,Act.put]
    congr 1
    apply Array.ext_getElem?
    intro j
    simp only[Array.getElem?_setIfInBounds]
    by_cases hj:t1=j
    ·subst hj;simp
    ·simp[hj]
   have last:∀cs',cs'={oP with mode:=m'}::cs->wpOpsSIn (dP none) k P #[o1] (fun e a' cs' w'=>e= .normal/\a'=a1/\cs'={oP with mode:=m'}::cs/\w'=w) [] (({tmps:=sK,defers:=[]}:Act).put (some t1) val) cs' w:=by
    rintro cs' rfl
    simp only[wpOpsSIn]
    exact⟨trivial,same.symm,trivial,trivial⟩
   have hw:Region.wanted o1 (yielded #[o1] sK)=true:=by simp[Region.wanted,e3]
   rw[wpOpsSIn,g0]
   refine⟨fun _ _=>trivial, ?_⟩
   simp only[hw,if_true,x1,e2]
   rcases aT with⟨hr,rfl,rfl⟩|hr
   ·simp only[hr]
    exact last _ (by rw[Vn])
   ·simp only[hr]
    exact last _ rfl
 obtain⟨er,ar,csr,wr,hl,⟨rfl,rfl,rfl,hwr⟩,cF⟩:=JI b [.code c] rfl rfl trivial (fun d hd=>by simp[dP]at hd)
 rw[hwr]at cF
 let s0:S:=⟨ak (ak (cq b7) t u) t1 u,o,nx⟩
 have rD:cf M φ (hp o nx) w n ⟨[],true⟩ φ s0 a1 w:=by
  refine⟨hH,Trans.refl _ _ _,by simp[a1,W5],⟨[],rfl,List.nodup_nil,fun _=>rfl,fun r hr=>by cases hr⟩,fun i=> ?_⟩
  have dC:=tD (m:=fn.ntmps - vals.size) hd i
  simp only[s0,a1,aJ]
  have Vr:t<sK.size:=by omega
  have W6:t1<sK.size:=by omega
  by_cases h1:i=t1
  ·subst h1
   simp only[if_true]
   have:((sK.setIfInBounds t val).setIfInBounds i val).getD i undef=val:=by simp[Array.getD,W6]
   rw[this];exact hv
  ·simp only[h1,if_false]
   have e1:((sK.setIfInBounds t val).setIfInBounds t1 val).getD i undef=(sK.setIfInBounds t val).getD i undef:=by
    simp only[Array.getD_eq_getD_getElem?]
    rw[Array.getElem?_setIfInBounds_ne (Ne.symm h1)]
   rw[e1]
   by_cases h2:i=t
   ·subst h2
    simp only[if_true]
    have:(sK.setIfInBounds i val).getD i undef=val:=by simp[Array.getD,Vr]
    rw[this];exact hv
   ·simp only[h2,if_false]
    have e1:(sK.setIfInBounds t val).getD i undef=sK.getD i undef:=by
     simp only[Array.getD_eq_getD_getElem?]
     rw[Array.getElem?_setIfInBounds_ne (Ne.symm h2)]
    rw[e1];exact dC
 have hcw:=ik (P:=P) (n:=n) (b:=nx) (rd:=true) bc c _ _ s0 (fun _ _ h=>h) (by rw[nS];exact h)
 obtain⟨e,a',w',⟨x,s',aC,hq,iW,hx⟩,Du⟩:=hU (P:=P) (H0:=hp o nx) (b:=nx) (cx:=⟨[],true⟩) (ro:=none) (fun id hu=>hu) (fun h=>by cases h) c _ s0 φ a1 w hcw rD b [] ({oP with mode:=m'}::cs) rfl bC
 have i0:(lone (b.atR {tmps:=sK,defers:=[]} [.code (.seq (.region id ops false) c)]) (oP::cs) w).fenced P (dP none):=fenced_calm (n:=0) trivial gC rfl
 have Mi:StepsIn (Machine.fenced P (dP none)) P (lone (b.atR {tmps:=sK,defers:=[]} [.code (.seq (.region id ops false) c)]) (oP::cs) w) (lone (b.atR a1 [.code c]) ({oP with mode:=m'}::cs) w):= .head i0 stepR_seq cF
 have tX:a'.defers=[]:=by
  obtain⟨ms,g1,_,g3,_⟩:=iW.defers
  rw[g3 rfl]at g1;exact g1
 have R7:∀tm:Array Value,∃v,(results fn tm).run P w'= .ok v w':=by
  intro tm
  refine⟨_,mS (vals:=[]) ?_⟩
  rw[sa];rfl
 rw[l4]
 obtain⟨v,pa⟩:=R7 a'.tmps
 cases e<;>cases x<;>first|(exact hx.elim)|(exact hq.elim)|skip
 ·exact⟨.returned v,m',w',_,⟨v,aC,s'.o,s'.nx,rfl,QF,iW.heap,iW.tr,hq⟩,StepsIn.trans Mi (StepsIn.trans Du (.one (fenced_calm (n:=0) (fr:=b.atR a' []) trivial gC rfl) (stepR_end rfl))),rfl,rfl,rfl,tX,fn,hf,pa⟩
 ·obtain⟨todo,hs⟩:=Du.1 rfl
  exact⟨.returned v,m',w',_,⟨v,aC,s'.o,s'.nx,rfl,QF,iW.heap,iW.tr,hq⟩,StepsIn.trans Mi hs,rfl,rfl,rfl,tX,fn,hf,pa⟩
theorem dX.AB (bc:P.follows .mixedOrders=true){f g:FuncId}{kX fO wJ:IC}{t m r r1:Nat}{fk:List Operand}{rs:List ResultVar}(hf:DK P f n kX fO g t fk rs)(hg:Az P g m r r1 wJ)
 {args:List V} {o:Nat->ae} {nx:Nat} {K X:V->(Nat->ae)->Nat->Prop} (hl:args.length<=n)
 (h:sG P n nx true kX (AA P n t fO fk g fun b7=>x5 P m r r1 wJ b7 rs K X) ⟨cq args,o,nx⟩):dX P f args o nx K X:=by
 obtain⟨fn,id,o1,o2,ca,cb,E2,Mh,VG,sa,pO,e1,e2,e3,e4,e5,e6,ht,W7,Dj⟩:=hf.get
 obtain⟨gn,_,_,gc,Og,Oh,_,_,Oi,_⟩:=hg.get
 refine⟨⟨fn,E2,Mh,by rw[pO];rfl⟩,fun M φ w vals hH hd=> ?_⟩
 have hlen:=V.aG _ _ hd
 let s0:S:=⟨cq args,o,nx⟩
 let a0:Act:={tmps:=vals++Array.replicate (fn.ntmps - vals.size) undef,defers:=[]}
 have rD:cf M φ (hp o nx) w n ⟨[],true⟩ φ s0 a0 w:=by
  refine⟨hH,Trans.refl _ _ _, ?_,⟨[],rfl,List.nodup_nil,fun _=>rfl,fun r hr=>by cases hr⟩,tD hd⟩
  simp only[a0,Array.size_append,Array.size_replicate];simp at hlen;omega
 have ha:=ik (P:=P) (n:=n) (b:=nx) (rd:=true) bc ca _ _ s0 (fun _ _ h=>h) (by rw[W7];exact h)
 refine zG (ro:=none) (k:=0) (mT E2 pO (xC (gD (hU (P:=P) (H0:=hp o nx) (b:=nx) (cx:=⟨[],true⟩) (ro:=none) (fun id hu=>hu) (fun h=>by cases h) ca _ s0 φ a0 w ha rD) ?_)))
 rintro e a1 w1 ⟨x,s1,iV,hq,sc,hm⟩
 cases e<;>cases x<;>first|(exact hm.elim)|(exact hq.elim)|skip
 have tX:a1.defers=[]:=by
  obtain⟨ms,g1,_,g3,_⟩:=sc.defers
  rw[g3 rfl]at g1;exact g1
 let cv:Array Value:=(fk.map a1.eval).toArray
 let fv:Value:= .func (.func g) #[] cv
 let dd:Deferred:={target:= .fn (.func g) cv,args:=#[]}
 let a2:Act:={tmps:=a1.tmps.setIfInBounds t fv,defers:=[dd]}
 have Mj:V.aE (ao M iV s1.H) iV s1.H w1 (fk.map s1.ev) cv.toList:=by
  simpa[cv]using j8 (M:=M) (φ:=iV) (H:=s1.H) (w:=w1) s1 a1 sc.env fk
 refine xC (gD (Q:=fun e a w=>e= .normal/\a=a2/\w=w1) (oI (k:=0) (wpIn_region_list ?_)) ?_)
 ·have y1:Region.wanted o1 (yielded #[o1,o2] a1.tmps)=true:=by simp[Region.wanted,e3]
  have y2:∀tm,Region.wanted o2 (yielded #[o1,o2] tm)=true:=by intro tm;simp[Region.wanted,e6]
  have dG:(a1.put (some t) fv).eval (.tmp t)=fv:=by
   have:t<a1.tmps.size:=by rw[sc.size];exact ht
   simp[Act.put,Act.eval,Array.getD,this]
  show wpListIn (dP none) 0 P #[o1,o2] _ [o1,o2] a1 w1
  unfold wpListIn
  rw[if_pos y1]
  have x1:(execOp a1.eval o1).run P w1= .ok (.value fv) w1:=by simp[execOp,e1,fv,cv,Instr.makeFunc]
  refine ki (fun c hc=>by rw[e1]at hc;cases hc) ?_
  rw[x1]
  show wpListIn (dP none) 0 P #[o1,o2] _ [o2] (a1.put o1.dst fv) w1
  rw[e2]
  unfold wpListIn
  rw[if_pos (y2 _)]
  have x2:(execOp (a1.put (some t) fv).eval o2).run P w1= .ok (.defer dd) w1:=by
   simp[execOp,e4,resolve,dG,Deferred.ofValue,fv,dd]
  refine⟨fun _ _=>trivial, ?_⟩
  have:(o2.semAt (dP none).round (a1.put (some t) fv).eval)=execOp (a1.put (some t) fv).eval o2:=rfl
  rw[this,x2]
  unfold Oper.uponIn
  simp only[e5,wpListIn,Act.put,tX,a2,and_self]
 rintro e a w2 ⟨rfl,rfl,rfl⟩
 have yV:t<a1.tmps.size:=by rw[sc.size];exact ht
 let s2:S:=⟨ak s1.env t (.func (.func g) [] (fk.map s1.ev)),s1.o,s1.nx⟩
 have Gb:cf M iV s1.H w2 n ⟨[dd],false⟩ iV s2 a2 w2:=by
  refine⟨sc.heap,Trans.refl _ _ _,by simp[a2,sc.size],⟨[],rfl,List.nodup_nil,fun _=>rfl,fun r hr=>by cases hr⟩,fun i=> ?_⟩
  simp only[s2,a2,aJ]
  by_cases h1:i=t
  ·subst h1
   have:(a1.tmps.setIfInBounds i fv).getD i undef=fv:=by simp[Array.getD,yV]
   simp only[if_true];rw[this]
   exact⟨#[],cv,rfl,rfl,Mj⟩
  ·have:(a1.tmps.setIfInBounds t fv).getD i undef=a1.tmps.getD i undef:=by
    simp only[Array.getD_eq_getD_getElem?]
    rw[Array.getElem?_setIfInBounds_ne (Ne.symm h1)]
   simp only[h1,if_false];rw[this]
   exact sc.env i
 have hb:=ik (P:=P) (n:=n) (b:=s1.nx) (rd:=false) bc cb _ _ s2 (fun _ _ h=>h) (by rw[Dj];exact hq)
 refine gD (hU (P:=P) (H0:=s1.H) (b:=s1.nx) (cx:=⟨[dd],false⟩) (ro:=none) (fun id hu=>hu) (fun _=>rfl) cb _ s2 iV a2 w2 hb Gb) ?_
 rintro e a3 w3 ⟨x,s3,R8,VH,BK,vW⟩
 obtain⟨ms,g1,g2,_,g4⟩:=BK.defers
 have hinv:(invoke dd.target dd.args).run P=fun w=> .ok (.enter g cv) w:=by
  funext w
  have:=lj (w:=w) ⟨gn,Og,Oh,by rw[Oi];rfl⟩ cv
  simpa[dd,invoke]using this
 have last:∀ {w4:World} {tm:Array Value} {u:V} {val:Value} {m0:FrameMode},m0≠ .run->xF M iV s1.H w2 R8 s3 a3.tmps w4->V.den (ao M R8 s3.H) R8 s3.H w4 u val->
  ((m0= .returning/\val= .nilIface)\/m0= .panicking [{v:=val,recovered:=false}])->
  (CD P m r r1 wJ (fk.map s1.ev) u s3.o s3.nx fun o nx=>l5 P rs K X .ret ⟨s3.env,o,nx⟩)->
  LeavesInM (dP none) 0 P fn a3.tmps (mN M φ (hp o nx) w K X) [dd] m0 w4:=by
  intro w4 tm u val m0 fg hB Nk hm0 aT
  have Oj:=V.aI hB.tr _ _ Mj
  refine⟨fg, .inr ⟨fun h=>by simp[dP]at h, .func g,cv,g,cv,rfl,by rw[hinv],fun _ _=>trivial,CallsDIn.mono (Fw (k:=0 - 1) bc hg aT (m:=m0) hB.heap Oj Nk hm0) ?_⟩⟩
  rintro e u' w5 ⟨v,W8,o5,VI,rfl,CE,k1,k2,k3⟩
  show LeavesInM (dP none) 0 P fn a3.tmps (mN M φ (hp o nx) w K X) [] (settle u') w5
  rw[CE]
  obtain⟨vs,h1,h2⟩:=zO k3
  rw[<- sa]at h1
  have R9:∀i,V.den (ao M W8 (hp o5 VI)) W8 (hp o5 VI) w5 (s3.env i) (a3.tmps.getD i undef):=fun i=>V.aF k2 _ _ (hB.env i)
  obtain⟨ZS,h3,h4⟩:=sF (P:=P) (s:=⟨s3.env,o5,VI⟩) (a:=a3) k1 R9 _ _ h1
  exact⟨_,mS h3,W8,o5,VI,_,k1,sc.tr.trans (hB.tr.trans k2),zP h4,h2⟩
 have done:CD P m r r1 wJ (fk.map s1.ev) (.d .eC) s3.o s3.nx (fun o nx=>l5 P rs K X .ret ⟨s3.env,o,nx⟩)->LeavesInM (dP none) 0 P fn a3.tmps (mN M φ (hp o nx) w K X) a3.defers .returning w3:=by
  intro aT
  rw[g1]
  exact gE (P:=P) (k:=0) (fn:=fn) (R:=mN M φ (hp o nx) w K X) (u:= .returning) (by simp) (ds:=[dd]) (fun w4 hB=>last (tm:=a3.tmps) (by simp) hB (u:= .d .eC) (val:= .nilIface) (by simp[V.den,D.den]) (.inl ⟨rfl,rfl⟩) aT) ms w3 g2 g4 BK.ZK
 cases e<;>cases x<;>first|(exact vW.elim)|skip
 ·exact done VH
 ·exact VH.elim
 ·exact done VH
 ·rename_i v
  obtain⟨val,rfl,WG⟩:=vW
  show LeavesInM (dP none) 0 P fn a3.tmps (mN M φ (hp o nx) w K X) a3.defers _ w3
  rw[g1]
  let Sa:Nat->V:=fun i=>match i with|0=>v|i+1=>s3.env i
  have Sb:(#[val]++a3.tmps).getD 0 undef=val:=by simp[Array.getD]
  have Sc:∀i,(#[val]++a3.tmps).getD (i+1) undef=a3.tmps.getD i undef:=by
   intro i
   simp only[Array.getD_eq_getD_getElem?]
   rw[Array.getElem?_append_right (by simp)]
   simp
  have Nx:xF M iV s1.H w2 R8 ⟨Sa,s3.o,s3.nx⟩ (#[val]++a3.tmps) w3:=⟨BK.heap,BK.tr,fun i=>by
   cases i with
   |zero=>rw[Sb];exact WG
   |succ i=>rw[Sc];exact BK.env i⟩
  have Sd:∀w4,xF M iV s1.H w2 R8 ⟨Sa,s3.o,s3.nx⟩ (#[val]++a3.tmps) w4->LeavesInM (dP none) 0 P fn a3.tmps (mN M φ (hp o nx) w K X) [dd] (.panicking [{v:=val,recovered:=false}]) w4:=by
   intro w4 hB
   have ZT:=hB.env 0
   rw[Sb]at ZT
   refine last (tm:=a3.tmps) (by simp) ⟨hB.heap,hB.tr,fun i=> ?_⟩ ZT (.inr rfl) VH
   have hs:=hB.env (i+1)
   rw[Sc]at hs
   exact hs
  exact gE (P:=P) (k:=0) (fn:=fn) (R:=mN M φ (hp o nx) w K X) (u:= .panicking [{v:=val,recovered:=false}]) (by simp) (ds:=[dd]) Sd ms w3 g2 g4 Nx
end
end Go.Proofs.YtealblliddhgiaaGreat
namespace Go.Proofs.YtealblliddhgiaaGreat
inductive Tr (α:Type) where
 |e (f:Nat->α)
 |n (x:α) (l r:Tr α)
noncomputable def Tr.get {α:Type}(t:Tr α):Nat->α:=
 Tr.rec (motive:=fun _=>Nat->α) (fun f=>f) (fun x _ _ l r k=>Bool.rec (Bool.rec (r (Nat.sub (Nat.div k 2) 1)) (l (Nat.div k 2)) (Nat.beq (Nat.mod k 2) 1)) x (Nat.beq k 0)) t
theorem Tr.DL {α:Type}(f:Nat->α):(Tr.e f).get=f:=rfl
noncomputable def Tr.tZ {α:Type}(x:α):Nat->Tr α->Nat->Tr α
 |0,t,k=> .e (ak t.get k x)
 |d+1, .e f,k=>match Nat.beq k 0 with
  |true=> .n x (.e fun i=>f (2*i+1)) (.e fun i=>f (2*i+2))
  |false=>match Nat.beq (k%2) 1 with
   |true=> .n (f 0) (Tr.tZ x d (.e fun i=>f (2*i+1)) (k/2)) (.e fun i=>f (2*i+2))
   |false=> .n (f 0) (.e fun i=>f (2*i+1)) (Tr.tZ x d (.e fun i=>f (2*i+2)) (k/2 - 1))
 |d+1, .n y l r,k=>match Nat.beq k 0 with
  |true=> .n x l r
  |false=>match Nat.beq (k%2) 1 with
   |true=> .n y (Tr.tZ x d l (k/2)) r
   |false=> .n y l (Tr.tZ x d r (k/2 - 1))
noncomputable def Tr.set {α:Type}(t:Tr α)(k:Nat)(x:α):Tr α:=Tr.tZ x 24 t k
theorem Tr.ua {α:Type}{x:α}{l r:Tr α}{k:Nat}:(Tr.n x l r).get k=if k=0 then x else if k%2=1 then l.get (k/2)else r.get (k/2 - 1):=by
 show @Bool.rec (fun _=>α) (@Bool.rec (fun _=>α) (r.get (k/2 - 1)) (l.get (k/2)) (Nat.beq (k%2) 1)) x (Nat.beq k 0)=_
 by_cases h:k=0
 ·subst h;rfl
 ·have:Nat.beq k 0=false:=by cases k with|zero=>exact absurd rfl h|succ k=>rfl
  simp only[this,h,if_false]
  by_cases h2:k%2=1
  ·simp[h2]
  ·have:Nat.beq (k%2) 1=false:=by
    cases hb:Nat.beq (k%2) 1 with
    |false=>rfl
    |true=>exact absurd (Nat.eq_of_beq_eq_true hb) h2
   simp[h2,this]
theorem Tr.nb {α:Type}(x:α):∀ (d:Nat) (t:Tr α) (k:Nat),(Tr.tZ x d t k).get=ak t.get k x
 |0,t,k=>rfl
 |d+1, .e f,k=>by
  funext i
  simp only[Tr.tZ]
  have hb:∀a b:Nat,Nat.beq a b=decide (a=b):=fun a b=>by
   cases h:Nat.beq a b with
   |true=>simp[Nat.eq_of_beq_eq_true h]
   |false=>simp[Nat.ne_of_beq_eq_false h]
  rw[hb,hb]
  by_cases h:k=0
  ·subst h
   simp only[decide_true,Tr.ua,aJ]
   by_cases hi:i=0
   ·simp[hi]
   ·simp only[hi,if_false]
    by_cases h2:i%2=1
    ·simp only[h2,if_true,Tr.DL];congr 1;omega
    ·simp only[h2,if_false,Tr.DL];congr 1;omega
  ·simp only[h,decide_false]
   by_cases hk:k%2=1
   ·simp only[hk,decide_true,Tr.ua,Tr.nb x d,aJ,Tr.DL]
    by_cases hi:i=0
    ·subst hi;simp[Ne.symm h]
    ·simp only[hi,if_false]
     by_cases h2:i%2=1
     ·simp only[h2,if_true]
      have e1:2*(i/2)+1=i:=by omega
      rw[e1]
      by_cases e:i=k
      ·simp[e]
      ·rw[if_neg e,if_neg (by omega)]
     ·simp only[h2,if_false]
      rw[if_neg (by intro e;subst e;exact h2 hk)]
      congr 1;omega
   ·simp only[hk,decide_false,Tr.ua,Tr.nb x d,aJ,Tr.DL]
    by_cases hi:i=0
    ·subst hi;simp[Ne.symm h]
    ·simp only[hi,if_false]
     by_cases h2:i%2=1
     ·simp only[h2,if_true]
      rw[if_neg (by intro e;subst e;exact hk h2)]
      congr 1;omega
     ·simp only[h2,if_false]
      have e1:2*(i/2 - 1)+2=i:=by omega
      rw[e1]
      by_cases e:i=k
      ·simp[e]
      ·rw[if_neg e,if_neg (by omega)]
 |d+1, .n y l r,k=>by
  funext i
  simp only[Tr.tZ]
  have hb:∀a b:Nat,Nat.beq a b=decide (a=b):=fun a b=>by
   cases h:Nat.beq a b with
   |true=>simp[Nat.eq_of_beq_eq_true h]
   |false=>simp[Nat.ne_of_beq_eq_false h]
  rw[hb,hb]
  by_cases h:k=0
  ·subst h
   simp only[decide_true,Tr.ua,aJ]
   by_cases hi:i=0
   ·simp[hi]
   ·simp[hi]
  ·simp only[h,decide_false]
   by_cases hk:k%2=1
   ·simp only[hk,decide_true,Tr.ua,Tr.nb x d,aJ]
    by_cases hi:i=0
    ·subst hi;simp[Ne.symm h]
    ·simp only[hi,if_false]
     by_cases h2:i%2=1
     ·simp only[h2,if_true]
      by_cases e:i=k
      ·simp[e]
      ·rw[if_neg e,if_neg (by omega)]
     ·simp only[h2,if_false]
      rw[if_neg (by intro e;subst e;exact h2 hk)]
   ·simp only[hk,decide_false,Tr.ua,Tr.nb x d,aJ]
    by_cases hi:i=0
    ·subst hi;simp[Ne.symm h]
    ·simp only[hi,if_false]
     by_cases h2:i%2=1
     ·simp only[h2,if_true]
      rw[if_neg (by intro e;subst e;exact hk h2)]
     ·simp only[h2,if_false]
      by_cases e:i=k
      ·simp[e]
      ·rw[if_neg e,if_neg (by omega)]
theorem Tr.jh {α:Type}(t:Tr α)(k:Nat)(x:α):(t.set k x).get=ak t.get k x:=Tr.nb x 24 t k
noncomputable def Nat.fc {β:Type}(n:Nat)(c:Nat->β):β:=Nat.rec (motive:=fun _=>β) (c 0) (fun m _=>c (Nat.succ m)) n
theorem Nat.cU {β:Type}(n:Nat)(c:Nat->β):Nat.fc n c=c n:=by cases n<;>rfl
noncomputable def Int.fc {β:Type}(n:Int)(c:Int->β):β:=Int.rec (motive:=fun _=>β) (fun m=>Nat.fc m fun m=>c (.ofNat m)) (fun m=>Nat.fc m fun m=>c (.negSucc m)) n
theorem Int.cU {β:Type}(n:Int)(c:Int->β):Int.fc n c=c n:=by cases n<;>simp only[Int.fc,Nat.cU]
mutual
noncomputable def D.fc {β:Type}:D->(D->β)->β
 | .int k n,c=>Int.fc n fun n=>c (.int k n)
 | .bool b,c=>match b with|true=>c (.bool true)|false=>c (.bool false)
 | .agg l,c=>D.ub l fun l=>c (.agg l)
 | .sl l,c=>D.ub l fun l=>c (.sl l)
 | .iface t x,c=>D.fc x fun x=>c (.iface t x)
 | .str s,c=>c (.str s)
 | .eC,c=>c .eC
 | .gY,c=>c .gY
 | .a7,c=>c .a7
 | .dk,c=>c .dk
 | .mp ks vs,c=>D.ub ks fun ks=>D.ub vs fun vs=>c (.mp ks vs)
noncomputable def D.ub {β:Type}:List D->(List D->β)->β
 |[],c=>c []
 |x::xs,c=>D.fc x fun x=>D.ub xs fun xs=>c (x::xs)
end
mutual
theorem D.cU {β:Type}:∀ (x:D) (c:D->β),D.fc x c=c x
 | .int k n,c=>by simp only[D.fc,Int.cU]
 | .bool b,c=>by cases b<;>rfl
 | .agg l,c=>by simp only[D.fc,D.fu l]
 | .sl l,c=>by simp only[D.fc,D.fu l]
 | .iface t x,c=>by simp only[D.fc,D.cU x]
 | .mp ks vs,c=>by simp only[D.fc,D.fu ks,D.fu vs]
 | .str _,_| .eC,_| .gY,_| .a7,_| .dk,_=>by simp only[D.fc]
theorem D.fu {β:Type}:∀ (x:List D) (c:List D->β),D.ub x c=c x
 |[],c=>by simp only[D.ub]
 |x::xs,c=>by simp only[D.ub,D.cU x,D.fu xs]
end
mutual
noncomputable def V.fc {β:Type}:V->(V->β)->β
 | .d x,c=>D.fc x fun x=>c (.d x)
 | .agg l,c=>V.ub l fun l=>c (.agg l)
 | .bS l,c=>V.ub l fun l=>c (.bS l)
 | .ptr i o,c=>Nat.fc i fun i=>Nat.fc o fun o=>c (.ptr i o)
 | .osl i o,c=>Nat.fc i fun i=>Nat.fc o fun o=>c (.osl i o)
 | .pe a b i j k,c=>Nat.fc a fun a=>Nat.fc b fun b=>Nat.fc i fun i=>Nat.fc j fun j=>Nat.fc k fun k=>c (.pe a b i j k)
 | .pp l o,c=>D.ub l fun l=>Nat.fc o fun o=>c (.pp l o)
 | .func f a b,c=>V.ub a fun a=>V.ub b fun b=>c (.func f a b)
 | .iface t x,c=>V.fc x fun x=>c (.iface t x)
 | .ox l,c=>D.ub l fun l=>c (.ox l)
 | .sX i j k,c=>Nat.fc i fun i=>Nat.fc j fun j=>Nat.fc k fun k=>c (.sX i j k)
 | .mp i,c=>Nat.fc i fun i=>c (.mp i)
 | .kV i,c=>Nat.fc i fun i=>c (.kV i)
 | .bn,c=>c .bn
 | .ab,c=>c .ab
 | .eZ,c=>c .eZ
noncomputable def V.ub {β:Type}:List V->(List V->β)->β
 |[],c=>c []
 |x::xs,c=>V.fc x fun x=>V.ub xs fun xs=>c (x::xs)
end
mutual
theorem V.cU {β:Type}:∀ (x:V) (c:V->β),V.fc x c=c x
 | .d x,c=>by simp only[V.fc,D.cU]
 | .agg l,c=>by simp only[V.fc,V.fu l]
 | .bS l,c=>by simp only[V.fc,V.fu l]
 | .pp l o,c=>by simp only[V.fc,D.fu,Nat.cU]
 | .func f a b,c=>by simp only[V.fc,V.fu a,V.fu b]
 | .iface t x,c=>by simp only[V.fc,V.cU x]
 | .ox l,c=>by simp only[V.fc,D.fu]
 | .ptr _ _,_| .osl _ _,_| .pe _ _ _ _ _,_| .sX _ _ _,_| .mp _,_| .kV _,_| .bn,_| .ab,_| .eZ,_=>by simp only[V.fc,Nat.cU]
theorem V.fu {β:Type}:∀ (x:List V) (c:List V->β),V.ub x c=c x
 |[],c=>by simp only[V.ub]
 |x::xs,c=>by simp only[V.ub,V.cU x,V.fu xs]
end
section
variable {β:Type}
noncomputable def Se(k:IntKind)(n:Int)(c:V->β):β:=Int.fc n fun n=>c (.d (.int k n))
noncomputable def Sf(b:Bool)(c:V->β):β:= @Bool.rec (fun _=>β) (c (.d (.bool false))) (c (.d (.bool true))) b
noncomputable def Ol(x:D)(c:V->β):β:=D.fc x fun x=>c (.d x)
noncomputable def vD(x:D):(V->β)->β:=match x with| .int k n=>Se k n| .bool b=>Sf b|x=>Ol x
noncomputable def Sg(i o:Nat)(c:V->β):β:=Nat.fc i fun i=>Nat.fc o fun o=>c (.ptr i o)
noncomputable def Sh(i o:Nat)(c:V->β):β:=Nat.fc i fun i=>Nat.fc o fun o=>c (.osl i o)
noncomputable def ZU(a b i j k:Nat)(c:V->β):β:=Nat.fc a fun a=>Nat.fc b fun b=>Nat.fc i fun i=>Nat.fc j fun j=>Nat.fc k fun k=>c (.pe a b i j k)
noncomputable def V.QG (v:V):(V->β)->β:=match v with| .d x=>vD x| .ptr i o=>Sg i o| .osl i o=>Sh i o| .pe a b i j k=>ZU a b i j k|v=>V.fc v
theorem V.Om (v:V)(c:V->β):V.QG v c=c v:=by
 cases v
 case d x=>
  cases x
  case int k n=>simp only[V.QG,vD,Se,Int.cU]
  case bool b=>cases b<;>rfl
  all_goals exact D.cU _ _
 case ptr i o=>simp only[V.QG,Sg,Nat.cU]
 case osl i o=>simp only[V.QG,Sh,Nat.cU]
 case pe a b i j k=>simp only[V.QG,ZU,Nat.cU]
 all_goals exact V.cU _ _
end
noncomputable def QH{β:Type}:List (D×D)->(List (D×D)->β)->β
 |[],c=>c []
 |(a,b)::l,c=>D.fc a fun a=>D.fc b fun b=>QH l fun l=>c ((a,b)::l)
theorem Hm{β:Type}:∀ (x:List (D×D)) (c:List (D×D)->β),QH x c=c x
 |[],c=>rfl
 |(a,b)::l,c=>by simp only[QH,D.cU,Hm l]
noncomputable def ae.fc {β:Type}(x:ae)(c:ae->β):β:=
 match x with
 | .row cs=>V.ub cs fun cs=>c (.row cs)
 | .arr e t s es=>Nat.fc e fun e=>Nat.fc s fun s=>D.ub es fun es=>c (.arr e t s es)
 | .ph e es=>Nat.fc e fun e=>D.ub es fun es=>c (.ph e es)
 | .map kt vt l=>QH l fun l=>c (.map kt vt l)
 | .fq l=>QH l fun l=>c (.fq l)
 | .kW l last=>QH l fun l=>c (.kW l last)
 | .sY l pos=>Nat.fc pos fun pos=>c (.sY l pos)
 |x=>c x
theorem ae.cU {β:Type}(x:ae)(c:ae->β):ae.fc x c=c x:=by cases x<;>simp only[ae.fc,V.fu,D.fu,Nat.cU,Hm]
noncomputable def Tr.wK {α β:Type}(x:α)(d:Nat):Tr α->Nat->(Tr α->β)->β:=
 Nat.rec (motive:=fun _=>Tr α->Nat->(Tr α->β)->β) (fun t k c=>c (.e (ak t.get k x)))
  (fun _ ih t k c=>Tr.rec (motive:=fun _=>β) (fun f=>
   Bool.rec (Bool.rec (ih (.e fun i=>f (2*i+2)) (Nat.sub (Nat.div k 2) 1) fun r=>c (.n (f 0) (.e fun i=>f (2*i+1)) r)) (ih (.e fun i=>f (2*i+1)) (Nat.div k 2) fun l=>c (.n (f 0) l (.e fun i=>f (2*i+2)))) (Nat.beq (Nat.mod k 2) 1))
    (c (.n x (.e fun i=>f (2*i+1)) (.e fun i=>f (2*i+2)))) (Nat.beq k 0))
   (fun y l r _ _=>Bool.rec (Bool.rec (ih r (Nat.sub (Nat.div k 2) 1) fun r=>c (.n y l r)) (ih l (Nat.div k 2) fun l=>c (.n y l r)) (Nat.beq (Nat.mod k 2) 1)) (c (.n x l r)) (Nat.beq k 0)) t) d
theorem Tr.uc {α β:Type}(x:α):∀ (d:Nat) (t:Tr α) (k:Nat) (c:Tr α->β),Tr.wK x d t k c=c (Tr.tZ x d t k)
 |0,t,k,c=>rfl
 |d+1, .e f,k,c=>by
  show @Bool.rec (fun _=>β) (@Bool.rec (fun _=>β) (Tr.wK x d (.e fun i=>f (2*i+2)) (k/2 - 1) fun r=>c (.n (f 0) (.e fun i=>f (2*i+1)) r)) (Tr.wK x d (.e fun i=>f (2*i+1)) (k/2) fun l=>c (.n (f 0) l (.e fun i=>f (2*i+2)))) (Nat.beq (k%2) 1)) (c (.n x (.e fun i=>f (2*i+1)) (.e fun i=>f (2*i+2)))) (Nat.beq k 0)=_
  simp only[Tr.tZ,Tr.uc x d]
  cases Nat.beq k 0
  ·cases Nat.beq (k%2) 1<;>rfl
  ·rfl
 |d+1, .n y l r,k,c=>by
  show @Bool.rec (fun _=>β) (@Bool.rec (fun _=>β) (Tr.wK x d r (k/2 - 1) fun r=>c (.n y l r)) (Tr.wK x d l (k/2) fun l=>c (.n y l r)) (Nat.beq (k%2) 1)) (c (.n x l r)) (Nat.beq k 0)=_
  simp only[Tr.tZ,Tr.uc x d]
  cases Nat.beq k 0
  ·cases Nat.beq (k%2) 1<;>rfl
  ·rfl
noncomputable def Tr.On {α β:Type}(t:Tr α)(k:Nat)(x:α)(c:Tr α->β):β:=Tr.wK x 24 t k c
theorem Tr.DM {α β:Type}(t:Tr α)(k:Nat)(x:α)(c:Tr α->β):t.On k x c=c (t.set k x):=Tr.uc x 24 t k c
structure St where
 env:Tr V
 o:Tr ae
 nx:Nat
noncomputable def St.S (st:St):S:=⟨st.env.get,st.o.get,st.nx⟩
noncomputable def Fx(o:Tr ae)(Δ:List (Nat×ae)):Tr ae:=Δ.foldl (fun f x=>f.set x.1 x.2) o
noncomputable def rP(env:Tr V)(dst:Option Tmp)(v:V):Tr V:=match dst with|some d=>env.set d v|none=>env
noncomputable def ud{β:Type}(o:Tr ae):List (Nat×ae)->(Tr ae->β)->β
 |[],c=>c o
 |(i,x)::Δ,c=>ae.fc x fun x=>o.On i x fun o=>ud o Δ c
theorem nd{β:Type}:∀ (Δ:List (Nat×ae)) (o:Tr ae) (c:Tr ae->β),ud o Δ c=c (Fx o Δ)
 |[],o,c=>rfl
 |(i,x)::Δ,o,c=>by simp only[ud,ae.cU,Tr.DM,nd Δ];rfl
noncomputable def mb{β:Type}(env:Tr V)(dst:Option Tmp)(v:V)(c:Tr V->β):β:=match dst with|some d=>V.QG v fun v=>env.On d v c|none=>c env
theorem ju{β:Type}(env:Tr V)(dst:Option Tmp)(v:V)(c:Tr V->β):mb env dst v c=c (rP env dst v):=by
 cases dst<;>simp only[mb,rP,V.Om,Tr.DM]
theorem jN:∀ (Δ:List (Nat×ae)) (o:Tr ae),(Fx o Δ).get=put o.get Δ
 |[],_=>rfl
 |x::Δ,o=>by
  simp only[Fx,put,List.foldl_cons]
  have:=jN Δ (o.set x.1 x.2)
  simp only[Fx,put]at this
  rw[this,Tr.jh]
theorem ez(env:Tr V)(dst:Option Tmp)(v:V):(rP env dst v).get=a8 env.get dst v:=by
 cases dst<;>simp[rP,a8,Tr.jh]
section Oo
def Mk(x:Operand)(_:Program)(s:S)(_:Nat):Option gz:=one (s.ev x)
def Si(c a b:Operand)(_:Program)(s:S)(_:Nat):Option gz:=l7 (pP (s.ev c) (s.ev a) (s.ev b))
def Oq(t:TypeId)(parts:Array (Nat×Operand))(P:Program)(s:S)(_:Nat):Option gz:=l7 (xH P t (parts.toList.map fun p=>(p.1,s.ev p.2)))
def AD(t:TypeId)(len:Nat)(parts:Array (Nat×Operand))(P:Program)(s:S)(fr:Nat):Option gz:=fZ P s.o fr t len (parts.toList.map fun p=>(p.1,s.ev p.2))
def Sj(t:TypeId)(x:Operand)(P:Program)(s:S)(_:Nat):Option gz:=mU P s.o t (s.ev x)
def Ot(t:TypeId)(x v:Operand)(P:Program)(s:S)(_:Nat):Option gz:=qG P s.o t (s.ev x) (s.ev v)
def W9(x:Operand)(_:Program)(s:S)(_:Nat):Option gz:=l7 (jo s.o (s.ev x))
noncomputable def Sk(op:BinOp):IntKind->Int->Int->Option V:=
 match op with
 | .add=>fun k a b=>some (.d (.int k (k.wrap (Int.add a b))))
 | .sub=>fun k a b=>some (.d (.int k (k.wrap (Int.sub a b))))
 | .mul=>fun k a b=>some (.d (.int k (k.wrap (Int.mul a b))))
 |op=>zQ op
theorem J1(op:BinOp):Sk op=zQ op:=by cases op<;>rfl
def asInt(x:V):Option (IntKind×Int):=match x with| .d (.int k a)=>some (k,a)|_=>none
def Hn(op:BinOp)(t:TypeId)(c:Bool)(x y:V)(P:Program)(o:Nat->ae):Option gz:=dB P o op t c x y
noncomputable def Sl(op:BinOp)(t:TypeId)(x y:Operand)(P:Program)(s:S)(_:Nat):Option gz:=
 match asInt (s.ev x)with
 |some (k,a)=>match asInt (s.ev y)with
  |some (k',b)=>if k=k' then match Sk op k a b with
   |some v=>some (v,[],[])
   |none=>Hn op t (isConst x||isConst y) (s.ev x) (s.ev y) P s.o
   else none
  |none=>Hn op t (isConst x||isConst y) (s.ev x) (s.ev y) P s.o
 |none=>Hn op t (isConst x||isConst y) (s.ev x) (s.ev y) P s.o
theorem AE{x:V}{k:IntKind}{a:Int}(h:asInt x=some (k,a)):x= .d (.int k a):=by
 unfold asInt at h;split at h
 ·injection h with h;cases h;rfl
 ·cases h
def CF(t:TypeId)(x:Operand)(f:Nat)(P:Program)(s:S)(_:Nat):Option gz:=l7 (hZ P s.o t (s.ev x) f)
def CG(t:TypeId)(x i:Operand)(P:Program)(s:S)(_:Nat):Option gz:=hY P s.o t (s.ev x) (s.ev i)
def Ou(op:Op)(P:Program)(s:S)(fr:Nat):Option gz:=gr P s fr op
noncomputable def J2(op:Op):Program->S->Nat->Option gz:=
 match op with
 | .move x=>Mk x
 | .assign x=>Mk x
 | .pick c a b=>Si c a b
 | .build t parts=>Oq t parts
 | .buildSlice t len parts=>AD t len parts
 | .load t x=>Sj t x
 | .store t x v=>Ot t x v
 | .nilCheck x=>W9 x
 | .binOp op t x y _=>Sl op t x y
 | .fieldAddr t x f=>CF t x f
 | .indexAddr t x i=>CG t x i
 |op=>Ou op
theorem DN{op:Op}{P:Program}{s:S}{fr:Nat}{r:gz}(h:J2 op P s fr=some r):gr P s fr op=some r:=by
 cases op
 case binOp op t x y yt=>
  simp only[J2,Sl,J1]at h
  have e:gr P s fr (.binOp op t x y yt)=dB P s.o op t (isConst x||isConst y) (s.ev x) (s.ev y):=rfl
  rw[e]
  split at h
  ·rename_i k a hx
   split at h
   ·rename_i k' b hy
    split at h
    ·rename_i hk
     split at h
     ·rename_i v hv
      unfold dB xG
      simp only[AE hx,AE hy,if_pos hk,hv]
      exact h
     ·exact h
    ·cases h
   ·exact h
  ·exact h
 all_goals exact h
end Oo
inductive FD where
 |fn (n:Nat) (ic:IC) (rs:List ResultVar)
 |Xa (n:Nat) (kX fO:IC) (g t:Nat) (fk:List Operand) (rs:List ResultVar) (m r r1:Nat) (wJ:IC)
 |no
def FD.Ok (P:Program)(f:Nat):FD->Prop
 | .fn n ic rs=>aN P f n ic rs
 | .Xa n kX fO g t fk rs m r r1 wJ=>DK P f n kX fO g t fk rs/\Az P g m r r1 wJ
 | .no=>True
inductive CR where
 |ret (v:V) (o:Tr ae) (nx:Nat)|bG (v:V) (o:Tr ae) (nx:Nat)
def CR.to (K X:V->(Nat->ae)->Nat->Prop):CR->Prop
 | .ret v o nx=>K v o.get nx
 | .bG v o nx=>X v o.get nx
inductive RO where
 |ok (st:St)|bG (v:V) (st:St)
def RO.to (K:S->Prop)(X:V->S->Prop):RO->Prop
 | .ok st=>K st.S
 | .bG v st=>X v st.S
inductive eo where
 |r (x:R)|c (x:CR)
abbrev Kt:=fy->St->Option eo
abbrev dE:=Nat->Bool->Nat->IC->St->Kt->Option eo
noncomputable def Fy(P:Program)(rs:List ResultVar)(st:St)(kc:CR->Option eo):Option eo:=
 match lY P st.S rs with
 |some [v]=>kc (.ret v st.o st.nx)
 |some vs=>kc (.ret (.bS vs) st.o st.nx)
 |none=>none
noncomputable def Ml(P:Program)(rs:List ResultVar)(kc:CR->Option eo):Kt:=fun e st=>
 match e with
 | .normal=>Fy P rs st kc
 | .ret=>Fy P rs st kc
 | .bG v=>kc (.bG v st.o st.nx)
 | .exit _=>none
noncomputable def Ho(P:Program)(rs:List ResultVar)(kc:CR->Option eo)(env:Tr V):Kt:=fun e s4=>
 match e with
 | .normal=>Fy P rs ⟨env,s4.o,s4.nx⟩ kc
 | .ret=>Fy P rs ⟨env,s4.o,s4.nx⟩ kc
 |_=>none
def Sm:fy->Option V
 | .normal=>some (.d .eC)
 | .ret=>some (.d .eC)
 | .bG v=>some v
 | .exit _=>none
noncomputable def Hq(P:Program)(rec:dE)(rs:List ResultVar)(b7:List V)(m r r1:Nat)(wJ:IC)(kc:CR->Option eo):Kt:=fun e s3=>
 match Sm e with
 |some u=>if b7.length<=m then rec s3.nx true m wJ ⟨.e (ak (ak (cq b7) r u) r1 u),s3.o,s3.nx⟩ (Ho P rs kc s3.env)else none
 |none=>none
noncomputable def DO(P:Program)(rec:dE)(n t:Nat)(fO:IC)(g:Nat)(fk:List Operand)(rs:List ResultVar)(m r r1:Nat)(wJ:IC)(kc:CR->Option eo):Kt:=fun e s1=>
 match e with
 | .normal=>rec s1.nx false n fO ⟨s1.env.set t (.func (.func g) [] (fk.map s1.S.ev)),s1.o,s1.nx⟩ (Hq P rec rs (fk.map s1.S.ev) m r r1 wJ kc)
 |_=>none
noncomputable def Hr(P:Program)(b9:Nat->FD)(rec:dE)(g:Nat)(args:List V)(o:Tr ae)(nx:Nat)(kc:CR->Option eo):Option eo:=
 match b9 g with
 | .fn n ic rs=>if args.length<=n then rec nx false n ic ⟨.e (cq args),o,nx⟩ (Ml P rs kc)else none
 | .Xa n kX fO g t fk rs m r r1 wJ=>if args.length<=n then rec nx true n kX ⟨.e (cq args),o,nx⟩ (DO P rec n t fO g fk rs m r r1 wJ kc)else none
 | .no=>none
def ue:V->List V
 | .bS vs=>vs
 |v=>[v]
noncomputable def DP(r:CR):Option R:=
 match r with
 | .ret v o _=>match v with
   | .bS [_]=>none
   |v=>match cc o.get (ue v)with
    |some rs=>some (.ret rs)
    |none=>none
 | .bG v o _=>match dO o.get v with
   |some x=>some (.bG x)
   |none=>none
noncomputable def Sn{β:Type}(x:R)(c:R->β):β:=match x with| .ret l=>D.ub l fun l=>c (.ret l)| .bG d=>D.fc d fun d=>c (.bG d)
theorem CH{β:Type}(x:R)(c:R->β):Sn x c=c x:=by cases x<;>simp only[Sn,D.fu,D.cU]
noncomputable def AF(r:CR):Option eo:=match DP r with|some x=>Sn x fun x=>some (.r x)|none=>none
theorem Hs{r:CR}{a:eo}(h:AF r=some a):∃x,DP r=some x/\a= .r x:=by
 unfold AF at h
 split at h
 ·rename_i x hx;rw[CH]at h;injection h with h;exact⟨x,hx,h.symm⟩
 ·cases h
def Ht(out:R)(o:Tr ae)(nx:Nat):CR:=
 match out with
 | .ret rs=> .ret (gS rs) o nx
 | .bG x=> .bG (.d x) o nx
structure sv (P:Program) where
 Sp:Nat->Bool
 fx:Nat->List D->Option R
 ok:∀g ds out,fx g ds=some out->bJ P g ds out
def Hu(l:List (Nat×List D×R))(g:Nat)(ds:List D):Option R:=
 match l with
 |[]=>none
 |x::l=>match Nat.beq x.1 g with
  |true=>match D.fT x.2.1 ds with
   |true=>some x.2.2
   |false=>Hu l g ds
  |false=>Hu l g ds
theorem x6{P:Program}:∀ {l:List (Nat×List D×R)},(∀x∈l,bJ P x.1 x.2.1 x.2.2)->∀g ds out,Hu l g ds=some out->bJ P g ds out
 |[],_,_,_,_,h=>by cases h
 |x::l,hl,g,ds,out,h=>by
  simp only[Hu]at h
  split at h
  ·rename_i hg
   split at h
   ·rename_i hd
    injection h with h
    have:=hl x (by simp)
    rw[Nat.eq_of_beq_eq_true hg,D.du _ _ hd,h]at this
    exact this
   ·exact x6 (fun y hy=>hl y (by simp[hy])) g ds out h
  ·exact x6 (fun y hy=>hl y (by simp[hy])) g ds out h
def sv.of {P:Program}(Sp:Nat->Bool)(l:List (Nat×List D×R))(h:∀x∈l,bJ P x.1 x.2.1 x.2.2):sv P:=⟨Sp,Hu l,x6 h⟩
noncomputable def J3(P:Program)(b9:Nat->FD)(md:sv P)(rec:dE)(g:Nat)(ds:List D):Option R:=
 match md.fx g ds with
 |some out=>some out
 |none=>match Hr P b9 rec g (ds.map .d) (.e fun _=> .no) 0 AF with
  |some (.r x)=>some x
  |_=>none
noncomputable def Mm(out:R)(o:Tr ae)(nx:Nat)(args:List V)(kc:CR->Option eo):Option eo:=
 match out.flat with
 |true=>kc (Ht out o (nx+1))
 |false=>match out.mO with
  |true=>kc (Ht out (Fx o (qs o.get (V.bf args))) (nx+1))
  |false=>kc (Ht out (Fx o (cQ o.get (V.bf args))) (nx+1))
noncomputable def DS(P:Program)(b9:Nat->FD)(md:sv P)(rec:dE)(g:Nat)(args:List V)(o:Tr ae)(nx:Nat)(kc:CR->Option eo):Option eo:=
 match md.Sp g,cc o.get args with
 |true,some ds=>match J3 P b9 md rec g ds with
  |some out=>Mm out o nx args kc
  |none=>none
 |_,_=>Hr P b9 rec g args o nx kc
noncomputable def Hv(id:Nat)(kc:CR->Option eo):Kt:=fun e s2=>
 match e with
 | .bG v=>kc (.bG v s2.o s2.nx)
 |e=>match s2.o.get id with
  | .loop nf m en p c d _ _=>match e with
    | .normal=>kc (.ret (.d (.bool true)) (s2.o.set id (.loop nf m en p c d .ready none)) s2.nx)
    | .ret=>kc (.ret (.d (.bool false)) (s2.o.set id (.loop nf m en p c d .done (some .ret))) s2.nx)
    | .exit j=>kc (.ret (.d (.bool false)) (s2.o.set id (.loop nf m en p c d .done (some (.exit j)))) s2.nx)
    | .bG _=>none
  |_=>none
noncomputable def DT(rec:dE)(id nx n:Nat)(fO:IC)(kc:CR->Option eo):Kt:=fun e s1=>
 match e with
 | .normal=>match s1.o.get id with
   | .loop nf m en p c d .ready pd=>rec nx true n fO ⟨s1.env,s1.o.set id (.loop nf m en p c d .busy pd),s1.nx⟩ (Hv id kc)
   |_=>none
 | .bG v=>kc (.bG v s1.o s1.nx)
 |_=>none
noncomputable def Ov(P:Program)(rec:dE)(id:Nat)(args:List V)(o:Tr ae)(nx:Nat)(kc:CR->Option eo):Option eo:=
 match o.get id with
 | .loop nf n env ps kX fO _ _=>if nf=P.funcs.size/\id<nx/\ps.all (fun t=>decide (t<n))=true/\args.length=ps.length then
  rec nx true n kX ⟨.e (ss (bw env) ps args),o,nx⟩ (DT rec id nx n fO kc)
   else none
 |_=>none
noncomputable def wM(P:Program)(st:St)(o:cg)(kr:RO->Option eo):Option eo:=
 match J2 o.op P st.S st.nx with
 |some (v,Δ,_)=>mb st.env o.dst v fun e=>ud st.o Δ fun ob=>Nat.fc (st.nx+1) fun n=>kr (.ok ⟨e,ob,n⟩)
 |none=>none
noncomputable def Sq(st:St)(dst:Option Nat)(kr:RO->Option eo)(c:CR):Option eo:=
 match c with
 | .ret v o nx=>mb st.env dst v fun e=>Nat.fc nx fun nx=>kr (.ok ⟨e,o,nx⟩)
 | .bG v o nx=>kr (.bG v ⟨st.env,o,nx⟩)
noncomputable def Hw(c:Call)(P:Program)(b9:Nat->FD)(md:sv P)(rec:dE)(st:St)(o:cg)(kr:RO->Option eo):Option eo:=
 match c.callee with
 | .value f=>match st.S.ev f with
   | .func (.func g) first cap=>DS P b9 md rec g (first++c.args.toList.map st.S.ev++cap) st.o st.nx (Sq st o.dst kr)
   | .kV id=>Ov P rec id (c.args.toList.map st.S.ev) st.o st.nx (Sq st o.dst kr)
   |_=>none
 | .invoke r m=>match rC P m (st.S.ev r)with
   |some (g,y)=>DS P b9 md rec g (y::c.args.toList.map st.S.ev) st.o st.nx (Sq st o.dst kr)
   |none=>none
 |_=>wM P st o kr
noncomputable def Ow(x:Operand)(P:Program)(_:Nat->FD)(_:sv P)(_:dE)(st:St)(_:cg)(kr:RO->Option eo):Option eo:=
 match st.S.ev x with
 | .d (.iface t y)=>kr (.bG (.d (.iface t y)) st)
 | .iface t y=>kr (.bG (.iface t y) st)
 |_=>none
noncomputable def Sr(P:Program)(_:Nat->FD)(_:sv P)(_:dE)(st:St)(o:cg)(kr:RO->Option eo):Option eo:=wM P st o kr
def R.same:R->R->Bool
 | .ret a, .ret b=>D.fT a b
 | .bG a, .bG b=>a.same b
 |_,_=>false
theorem R.dW {x y:R}(h:x.same y=true):x=y:=by
 cases x<;>cases y<;>simp only[R.same,Bool.false_eq_true]at h
 ·rw[D.du _ _ h]
 ·rw[D.dW _ _ h]
noncomputable def VJ(f:Nat->Option eo):Nat->Option eo
 |0=>none
 |n+1=>match n with
  |0=>f 0
  |n=>match VJ f n with
   |some (.r a)=>match f n with
    |some (.r b)=>match R.same a b with
     |true=>some (.r a)
     |false=>none
    |_=>none
   |_=>none
theorem Hx{f:Nat->Option eo}{a:eo}:∀ {n:Nat},VJ f n=some a->∀i,i<n->f i=some a
 |0,h,_,_=>by cases h
 |1,h,i,hi=>by obtain rfl:i=0:=by omega
               exact h
 |n+2,h,i,hi=>by
  simp only[VJ]at h
  split at h
  ·rename_i x hx
   split at h
   ·rename_i y hy
    split at h
    ·rename_i he
     have e:=R.dW he
     subst e
     rw[<- h]
     by_cases e:i=n+1
     ·subst e;exact hy
     ·exact Hx hx i (by omega)
    ·cases h
   ·cases h
  ·cases h
noncomputable def J4(st:St)(dst:Option Nat)(kr:RO->Option eo)(v:V)(Δ:List (Nat×ae)):Option eo:=
 mb st.env dst v fun e=>ud st.o Δ fun ob=>Nat.fc (st.nx+1) fun n=>kr (.ok ⟨e,ob,n⟩)
noncomputable def Hy(x:Operand)(str:Bool)(P:Program)(_:Nat->FD)(_:sv P)(_:dE)(st:St)(o:cg)(kr:RO->Option eo):Option eo:=
 match nZ st.o.get (st.S.ev x)with
 |some (id,l)=>match str with
  |true=>none
  |false=>match l with
   |[]=>J4 st o.dst kr (.bS [.d (.bool false)]) []
   |_=>VJ (fun i=>match l[i]? with
    |some (k,x)=>J4 st o.dst kr (.bS [.d (.bool true), .d k, .d x]) [(id, .kW (l.eraseIdx i) (some (k,x)))]
    |none=>none) l.length
 |none=>wM P st o kr
noncomputable def opK(op:Op):(P:Program)->(Nat->FD)->sv P->dE->St->cg->(RO->Option eo)->Option eo:=
 match op with
 | .call c=>Hw c
 | .panic x=>Ow x
 | .next x str=>Hy x str
 |_=>Sr
noncomputable def VK(P:Program)(b9:Nat->FD)(md:sv P)(rec:dE)(st:St)(o:cg)(kr:RO->Option eo):Option eo:=opK o.op P b9 md rec st o kr
noncomputable def ZV(next:St->Option eo)(kr:RO->Option eo):RO->Option eo:=fun r=>match r with| .ok st=>next st| .bG v st=>kr (.bG v st)
noncomputable def x7(P:Program)(b9:Nat->FD)(md:sv P)(rec:dE)(kr:RO->Option eo):List cg->St->Option eo
 |[],st=>kr (.ok st)
 |o::l,st=>match(match o.gd with
   |none=>some true
   |some (d,want)=>match st.env.get d with
    | .d (.bool b)=>some (b==want)
    | .bS []=>some false
    |_=>none)with
  |some true=>VK P b9 md rec st o (ZV (x7 P b9 md rec kr l) kr)
  |some false=>mb st.env o.dst (.bS []) fun e=>Nat.fc (st.nx+1) fun n=>x7 P b9 md rec kr l ⟨e,st.o,n⟩
  |none=>none
section
variable {P:Program}{b9:Nat->FD}{md:sv P}
noncomputable def eF(P:Program)(rec:dE):Prop:=∀b rd n ic st k a,rec b rd n ic st k=some a->∀Q:fy->S->Prop,(∀e st',k e st'=some a->Q e st'.S)->sG P n b rd ic Q st.S
theorem sL{rs:List ResultVar}{st:St}{kc:CR->Option eo}{a:eo}(h:Fy P rs st kc=some a){K X:V->(Nat->ae)->Nat->Prop}(hr:∀r,kc r=some a->r.to K X):l5 P rs K X .ret st.S:=by
 unfold Fy at h
 unfold l5
 split at h
 ·rename_i v hv;simp only[hv];exact hr _ h
 ·rename_i vs hv hn
  simp only[hn]
  exact hr _ h
 ·cases h
theorem ng(bc:P.follows .mixedOrders=true)(cE:∀g,(b9 g).Ok P g){rec:dE}(aT:eF P rec){g:Nat}{args:List V}{o:Tr ae}{nx:Nat}{kc:CR->Option eo}{a:eo}(h:Hr P b9 rec g args o nx kc=some a){K X:V->(Nat->ae)->Nat->Prop}(hr:∀r,kc r=some a->r.to K X):
 dX P g args o.get nx K X:=by
 have bA:=cE g
 unfold Hr at h
 split at h
 ·rename_i n ic rs ht
  rw[ht]at bA
  split at h
  ·rename_i hl
   refine dX.tQ bc bA hl ?_
   refine aT _ _ _ _ _ _ _ h _ fun e st he=> ?_
   unfold Ml at he
   cases e with
   |normal=>exact sL he hr
   |ret=>exact sL he hr
   |bG v=>exact hr _ he
   |exit j=>cases he
  ·cases h
 ·rename_i n kX fO g' t fk rs m r0 r1 wJ ht
  rw[ht]at bA
  split at h
  ·rename_i hl
   refine dX.AB bc bA.1 bA.2 hl (aT _ _ _ _ _ _ _ h _ fun e s1 he=> ?_)
   unfold DO at he
   cases e with
   |normal=>
    have hb:sG P n s1.nx false fO (x5 P m r0 r1 wJ (fk.map s1.S.ev) rs K X) ⟨ak s1.env.get t (.func (.func g') [] (fk.map s1.S.ev)),s1.o.get,s1.nx⟩:=by
     have:=aT _ _ _ _ _ _ _ he (x5 P m r0 r1 wJ (fk.map s1.S.ev) rs K X) (fun e s3 QI=>by
      unfold Hq at QI
      split at QI
      ·rename_i u hu
       split at QI
       ·rename_i mE
        have hrw:CD P m r0 r1 wJ (fk.map s1.S.ev) u s3.o.get s3.nx fun o nx=>l5 P rs K X .ret ⟨s3.env.get,o,nx⟩:=by
         refine⟨mE,aT _ _ _ _ _ _ _ QI _ fun e4 s4 VL=> ?_⟩
         unfold Ho at VL
         cases e4 with
         |normal=>exact sL (st:=⟨s3.env,s4.o,s4.nx⟩) VL hr
         |ret=>exact sL (st:=⟨s3.env,s4.o,s4.nx⟩) VL hr
         |_=>cases VL
        cases e<;>simp only[Sm,Option.some.injEq,reduceCtorEq]at hu<;>subst hu<;>exact hrw
       ·cases QI
      ·cases QI)
     simp only[St.S,Tr.jh]at this
     exact this
    exact hb
   |_=>cases he
  ·cases h
 ·cases h
theorem Hz{r:CR}{out:R}(ho:DP r=some out):r.to (fun v o _=>∃vs rs,v=(match vs with|[v]=>v|vs=> .bS vs)/\cc o vs=some rs/\out= .ret rs) (fun v o _=>∃x,dO o v=some x/\out= .bG x):=by
 unfold DP at ho
 split at ho
 ·rename_i v o nx
  split at ho
  ·cases ho
  ·rename_i hv
   split at ho
   ·rename_i rs Rb
    injection ho with ho;subst ho
    refine⟨ue v,rs, ?_,Rb,rfl⟩
    cases v with
    |bS vs=>
     match vs,hv with
     |[],_=>rfl
     |[x],hv=>exact absurd rfl (hv x)
     |_::_::_,_=>rfl
    |_=>rfl
   ·cases ho
 ·split at ho
  ·rename_i x hx
   injection ho with ho;subst ho
   exact⟨x,hx,rfl⟩
  ·cases ho
theorem AG(bc:P.follows .mixedOrders=true)(cE:∀g,(b9 g).Ok P g){rec:dE}(aT:eF P rec){g:Nat}{ds:List D}{out:R}(h:Hr P b9 rec g (ds.map .d) (.e fun _=> .no) 0 AF=some (.r out)):bJ P g ds out:=by
 refine bJ.kG (ng bc cE aT h fun r hr=> ?_)
 obtain⟨x,hx,he⟩:=Hs hr
 injection he with he;subst he
 exact Hz hx
theorem x8(bc:P.follows .mixedOrders=true)(cE:∀g,(b9 g).Ok P g){rec:dE}(aT:eF P rec){g:Nat}{ds:List D}{out:R}(h:J3 P b9 md rec g ds=some out):bJ P g ds out:=by
 unfold J3 at h
 split at h
 ·rename_i aaf ho
  injection h with h;subst h
  exact md.ok _ _ _ ho
 ·split at h
  ·rename_i x hr;injection h with h;subst h;exact AG bc cE aT hr
  ·cases h
theorem AH(bc:P.follows .mixedOrders=true)(cE:∀g,(b9 g).Ok P g){rec:dE}(aT:eF P rec){g:Nat}{args:List V}{o:Tr ae}{nx:Nat}{kc:CR->Option eo}{a:eo}(h:DS P b9 md rec g args o nx kc=some a){K X:V->(Nat->ae)->Nat->Prop}(hr:∀r,kc r=some a->r.to K X):
 LP P g args o.get nx K X:=by
 unfold DS at h
 split at h
 ·rename_i ds hmd eP
  split at h
  ·rename_i out HA
   have hP:=x8 bc cE aT HA
   refine .inl ⟨ds,eP,out,hP, ?_⟩
   unfold Mm at h
   split at h
   ·rename_i hf
    refine .inr (.inl ⟨hf, ?_⟩)
    cases out<;>exact hr _ h
   ·split at h
    ·rename_i hf
     refine .inr (.inr ⟨hf, ?_⟩)
     rw[<- jN]
     cases out<;>exact hr _ h
    ·refine .inl ?_
     rw[<- jN]
     cases out<;>exact hr _ h
  ·cases h
 ·exact .inr (ng bc cE aT h hr)
theorem J5(bc:P.follows .mixedOrders=true){rec:dE}(aT:eF P rec){id:Nat}{args:List V}{o:Tr ae}{nx:Nat}{kc:CR->Option eo}{a:eo}(h:Ov P rec id args o nx kc=some a){K X:V->(Nat->ae)->Nat->Prop}(hr:∀r,kc r=some a->r.to K X):
 dJ P id args o.get nx K X:=by
 unfold Ov at h
 split at h
 ·rename_i nf n env ps kX fO st pd ho
  split at h
  ·rename_i hc
   obtain⟨rfl,bC,J0,hl⟩:=hc
   refine dJ.tQ bc ho bC J0 hl ?_
   refine aT _ _ _ _ _ _ _ h _ fun e s1 he=> ?_
   unfold DT at he
   cases e with
   |normal=>
    simp only at he
    split at he
    ·rename_i nf m en p c d pd kS
     refine⟨nf,m,en,p,c,d,pd,kS, ?_⟩
     have:=aT _ _ _ _ _ _ _ he (ma id K X) (fun e s2 h2=>by
      unfold Hv at h2
      split at h2
      ·exact hr _ h2
      ·rename_i LH
       split at h2
       ·rename_i R1 m' Xb p' c' d' st' pd' Ox
        cases e with
        |bG v=>cases h2
        |normal=>have h3:=hr _ h2;simp only[CR.to,Tr.jh]at h3;exact⟨R1,m',Xb,p',c',d',st',pd',Ox,h3⟩
        |ret=>have h3:=hr _ h2;simp only[CR.to,Tr.jh]at h3;exact⟨R1,m',Xb,p',c',d',st',pd',Ox,h3⟩
        |exit j=>have h3:=hr _ h2;simp only[CR.to,Tr.jh]at h3;exact⟨R1,m',Xb,p',c',d',st',pd',Ox,h3⟩
       ·cases h2)
     simp only[St.S,Tr.jh]at this
     exact this
    ·cases he
   |bG v=>exact hr _ he
   |_=>cases he
  ·cases h
 ·cases h
theorem uf{st:St}{o:cg}{kr:RO->Option eo}{a:eo}(h:wM P st o kr=some a){K:S->Prop}{X:V->S->Prop}(hr:∀r,kr r=some a->r.to K X):match gr P st.S st.S.nx o.op with
 |some (v,Δ,_)=>K ⟨a8 st.S.env o.dst v,put st.S.o Δ,st.S.nx+1⟩
 |none=>False:=by
 unfold wM at h
 split at h
 ·rename_i v Δ rd he
  have he:=DN he
  simp only[ju,nd,Nat.cU]at h
  have hr:=hr _ h
  simp only[RO.to,St.S,ez,jN]at hr
  have fw:gr P st.S st.S.nx o.op=some (v,Δ,rd):=he
  simp only[fw]
  exact hr
 ·cases h
theorem DU{st:St}{dst:Option Nat}{kr:RO->Option eo}{v:V}{Δ:List (Nat×ae)}{a:eo}(h:J4 st dst kr v Δ=some a){K:S->Prop}{X:V->S->Prop}(hr:∀r,kr r=some a->r.to K X):K ⟨a8 st.S.env dst v,put st.S.o Δ,st.S.nx+1⟩:=by
 unfold J4 at h
 simp only[ju,nd,Nat.cU]at h
 have hr:=hr _ h
 simp only[RO.to,St.S,ez,jN]at hr
 exact hr
theorem Oy(bc:P.follows .mixedOrders=true)(cE:∀g,(b9 g).Ok P g){rec:dE}(aT:eF P rec){st:St}{o:cg}{kr:RO->Option eo}{a:eo}(h:VK P b9 md rec st o kr=some a){K:S->Prop}{X:V->S->Prop}(hr:∀r,kr r=some a->r.to K X):Gc P st.S o X K:=by
 have cr:∀r,Sq st o.dst kr r=some a->r.to (fun v o' nx'=>K ⟨a8 st.S.env o.dst v,o',nx'⟩) (fun v o' nx'=>X v ⟨st.S.env,o',nx'⟩):=by
  intro r hx
  unfold Sq at hx
  split at hx
  ·simp only[ju,Nat.cU]at hx
   have hr:=hr _ hx
   simp only[RO.to,St.S,ez]at hr
   exact hr
  ·exact hr _ hx
 unfold VK at h
 unfold Gc
 cases dD:o.op
 case call c=>
  rw[dD]at h
  have h:Hw c P b9 md rec st o kr=some a:=h
  unfold Hw at h
  cases hf:c.callee
  case value f=>
   simp only[hf]at h|-
   split at h
   ·rename_i g first cap hv
    simp only[hv]
    have:=AH bc cE aT h cr
    rcases this with⟨ds,eP,hP⟩|hC
    ·have Oz:cc st.S.o (first++List.map st.S.ev c.args.toList++cap)=some ds:=eP
     simp only[Oz]
     exact .inl hP
    ·split
     ·exact .inr (.inl hC)
     ·exact .inl hC
   ·rename_i id hv
    simp only[hv]
    exact J5 bc aT h cr
   ·cases h
  case invoke r m=>
   simp only[hf]at h|-
   split at h
   ·rename_i g y hv
    simp only[hv]
    exact AH bc cE aT h cr
   ·cases h
  all_goals
   simp only[hf]at h|-
   have:=uf h hr
   rw[dD]at this
   exact this
 case panic x=>
  rw[dD]at h
  have h:Ow x P b9 md rec st o kr=some a:=h
  unfold Ow at h
  split at h
  ·rename_i hv;simp only[hv];exact hr _ h
  ·rename_i hv;simp only[hv];exact hr _ h
  ·cases h
 case next x str=>
  rw[dD]at h
  have h:Hy x str P b9 md rec st o kr=some a:=h
  unfold Hy at h
  have hl:nZ st.S.o (st.S.ev x)=nZ st.o.get (st.S.ev x):=rfl
  simp only[hl]
  split at h
  ·rename_i id l ax
   simp only[ax]
   cases str with
   |true=>cases h
   |false=>
    refine⟨rfl,fun e=> ?_,fun i k y e=> ?_⟩
    ·subst e
     exact DU h hr
    ·cases l with
     |nil=>simp at e
     |cons p l=>
      have:=Hx h i (List.getElem?_eq_some_iff.1 e).1
      rw[e]at this
      exact DU this hr
  ·rename_i ax
   simp only[ax]
   have:=uf h hr
   rw[dD]at this
   exact this
 all_goals
  have h2:wM P st o kr=some a:=by rw[dD]at h;exact h
  have:=uf h2 hr
  rw[dD]at this
  exact this
theorem sM(bc:P.follows .mixedOrders=true)(cE:∀g,(b9 g).Ok P g){rec:dE}(aT:eF P rec){kr:RO->Option eo}{a:eo}{K:S->Prop}{X:V->S->Prop}(hr:∀r,kr r=some a->r.to K X):∀ (l:List cg) (st:St),x7 P b9 md rec kr l st=some a->oK P X K l st.S
 |[],st,h=>hr (.ok st) h
 |o::l,st,h=>by
  simp only[x7,ju,Nat.cU]at h
  simp only[oK]
  have op:VK P b9 md rec st o (ZV (x7 P b9 md rec kr l) kr)=some a->Gc P st.S o X (oK P X K l):=by
   intro h
   refine Oy bc cE aT h fun r ZW=> ?_
   cases r with
   |ok OA=>exact sM bc cE aT hr l OA ZW
   |bG v OA=>exact hr (.bG v OA) ZW
  have sk:x7 P b9 md rec kr l ⟨rP st.env o.dst (.bS []),st.o,st.nx+1⟩=some a->oK P X K l ⟨a8 st.S.env o.dst (.bS []),st.S.o,st.S.nx+1⟩:=by
   intro h
   have:=sM bc cE aT hr l _ h
   simp only[St.S,ez]at this
   exact this
  cases hg:o.gd with
  |none=>simp only[hg]at h;exact op h
  |some p=>
   obtain⟨d,want⟩:=p
   simp only[hg]at h
   have he:st.S.env d=st.env.get d:=rfl
   simp only[he]
   cases hv:st.env.get d with
   |d x=>
    cases x with
    |bool b=>
     simp only[hv]at h|-
     by_cases e:b=want
     ·subst e
      simp only[beq_self_eq_true]at h
      rw[if_pos rfl];exact op h
     ·have:(b==want)=false:=by simpa using e
      rw[this]at h
      rw[if_neg e];exact sk h
    |_=>simp[hv]at h
   |bS vs=>
    cases vs with
    |nil=>simp only[hv]at h|-;exact sk h
    |cons a cd=>simp[hv]at h
   |_=>simp[hv]at h
end
end Go.Proofs.YtealblliddhgiaaGreat
namespace Go.Proofs.YtealblliddhgiaaGreat
theorem Cm.OB {P:Program}{g:FuncId}{ds:List D}{o:Nat->ae}{fr:Nat}{ty:TypeId}{sz:Nat}{es:List D}
 (h:dX P g (ds.map .d) (fun _=> .no) 0 (fun v o1 _=>(∃j ep,v= .osl j ep/\o1 j= .arr ep ty sz es)\/(v= .bn/\es=[]/\0<sz)) (fun _ _ _=>False)):
 Cm P g (ds.map .d) [] o fr (.osl fr 0) [(fr, .arr 0 ty sz es)]:=by
 refine⟨h.1,fun o' us M φ w vals _ cS hH hd=> ?_⟩
 let cA:Place:=fun _=> .nilFunc
 have ve:∀b, ¬bT cA (hp (fun _=> .no) 0) b:=by rintro b ⟨id,hl,_⟩;simp[hp,ae.live]at hl
 have hM:∀b,ao M φ ⟨o',us⟩ b->b<w.heap.size:=fun b hb=>hb.elim (hH.u5 b) fun hl=>(hH.ours b hl).2
 have vM:=(V.cm _ _).1 hd
 refine(h.2 (ao M φ ⟨o',us⟩) cA w vals (ll cA hM) ((V.cm _ _).2 (D.aI (w:=w) (w':=w) (B:=ao M φ ⟨o',us⟩) (fun b _ hB=>⟨rfl,fun h=>h.elim hB (ve b)⟩) _ _ vM))).mono ?_
 rintro e w' ⟨iV,o1,n1,v,k1,k2,k3⟩
 have hk:eM (fun _=>False) w w':=⟨k2.bY.os,k2.bY.tape,k2.bY.output,k2.bY.size,fun k hk _=>k2.bY.block k hk (ve k)⟩
 have BT:(⟨o',us⟩:Hp).put [(fr, .arr 0 ty sz es)]=⟨put o' [(fr, .arr 0 ty sz es)],fun id=>us id\/id=fr⟩:=by
  simp only[Hp.put]
  congr 1
  funext id
  simp
 have fin:∀ (val:Value) (xs:List Value),(∀b,dN val=some b->w.heap.size<=b/\b<w'.heap.size)->0<sz->w'.ownsRow 0 ty sz val es.length xs->
  (gy (ao M (ak φ fr val) ((⟨o',us⟩:Hp).put [(fr, .arr 0 ty sz es)])) w' sz es xs)->
  val.oneCell'=true->
  ∃aC,az M aC ⟨put o' [(fr, .arr 0 ty sz es)],fun id=>us id\/id=fr⟩ w'/\Trans φ ⟨o',us⟩ w aC ⟨put o' [(fr, .arr 0 ty sz es)],fun id=>us id\/id=fr⟩ w'/\
   ∃HB,Ending.returned val= .returned HB/\V.den (ao M aC ⟨put o' [(fr, .arr 0 ty sz es)],fun id=>us id\/id=fr⟩) aC ⟨put o' [(fr, .arr 0 ty sz es)],fun id=>us id\/id=fr⟩ w' (.osl fr 0) HB:=by
  intro val xs jA eg eD br OC
  have pN:=jB hH hk cS (.arr 0 ty sz es) val jA (by
   unfold aK
   rw[show((⟨o',us⟩:Hp).put [(fr, .arr 0 ty sz es)]).o fr= .arr 0 ty sz es by simp]
   refine⟨eg,xs, ?_,br⟩
   rw[show ak φ fr val fr=val by simp]
   exact eD)
  have Mn:=fe (φ:=φ) (H:=⟨o',us⟩) hk cS (.arr 0 ty sz es) val (fun b hb=>(jA b hb).1)
  rw[BT]at pN Mn
  refine⟨ak φ fr val,pN,Mn,val,rfl,OC, .inr rfl,fun e he=> ?_⟩
  have fw:0=e:=by
   have:(put o' [(fr,ae.arr 0 ty sz es)] fr).ba=some 0:=by simp[put,ae.ba]
   rw[show(⟨put o' [(fr, .arr 0 ty sz es)],fun id=>us id\/id=fr⟩:Hp).o fr=put o' [(fr, .arr 0 ty sz es)] fr from rfl,this]at he
   injection he
  exact⟨by omega,fun _=>by simp⟩
 cases e with
 |outgrown=>exact k3.elim
 |panicked ch=>obtain⟨_,_,_,h⟩:=k3;exact h.elim
 |returned val=>
  obtain⟨g1,⟨j,ep,rfl,hj⟩|⟨rfl,rfl,eg⟩⟩:=k3
  ·obtain⟨v0,v1,v2⟩:=g1
   have dx:val=iV j:=(v2 ep (by show(o1 j).ba=some ep;rw[hj];rfl)).2 rfl
   have bP:∀b,dN val=some b->bT iV (hp o1 n1) b:=fun b hb=>⟨j,by show(o1 j).live=true;rw[hj];rfl,by rw[<- dx];exact hb⟩
   have jA:∀b,dN val=some b->w.heap.size<=b/\b<w'.heap.size:=fun b hb=>⟨(k2.grow b (bP b hb)).resolve_left (ve b),(k1.ours b (bP b hb)).2⟩
   have HC:=k1.ok j
   unfold aK at HC
   rw[show(hp o1 n1).o j= .arr ep ty sz es from hj]at HC
   obtain⟨eg,xs,eD,br⟩:=HC
   have hBs:∀b,ao M (ak φ fr val) ((⟨o',us⟩:Hp).put [(fr, .arr 0 ty sz es)]) b->ao (ao M φ ⟨o',us⟩) iV (hp o1 n1) b:=by
    rintro b (hb|⟨id,hl,hb⟩)
    ·exact .inl (.inl hb)
    ·by_cases e:id=fr
     ·subst e
      simp at hb
      exact .inr (bP b hb)
     ·simp[e]at hl hb
      exact .inl (.inr ⟨id,hl,hb⟩)
   exact fin val xs jA eg (by rw[dx];exact eD) (br.mono (w:=w') (w':=w') (fun b _ hB=>⟨rfl,fun h=>hB (hBs b h)⟩)) v0
  ·have g1:val= .slice none 0 0:=g1
   subst g1
   exact fin _ [] (fun b hb=>by cases hb) eg (World.ownsRow_nil w' 0 ty sz) ⟨[],rfl,by simp,rfl⟩ rfl
theorem Cm.J6 {P:Program}{g:FuncId}{args:List V}{ds:List D}{o:Nat->ae}{fr:Nat}{ty:TypeId}{sz:Nat}{es:List D}
 (eP:cc o args=some ds) (o9:D.jE es=true) (h:dX P g (ds.map .d) (fun _=> .no) 0 (fun v o1 _=>(∃j ep,v= .osl j ep/\o1 j= .arr ep ty sz es)\/(v= .bn/\es=[]/\0<sz)) (fun _ _ _=>False)):
 Cm P g args (V.bf args) o fr (.osl fr 0) [(fr, .arr 0 ty sz es)]:=by
 refine⟨h.1,fun o' us M φ w vals ZX cS hH hd=> ?_⟩
 obtain⟨f1,f2,f3,f4,f5⟩:=cT hH (V.bf args) (fun id ax=>(ZX id ax).2)
 generalize hHF:(⟨o',us⟩:Hp).put (cQ (⟨o',us⟩:Hp).o (V.bf args))=HF at f1 f2 f3
 let cA:Place:=fun _=> .nilFunc
 have ve:∀b, ¬bT cA (hp (fun _=> .no) 0) b:=by rintro b ⟨id,hl,_⟩;simp[hp,ae.live]at hl
 have hM:∀b,ao M φ HF b->b<w.heap.size:=fun b hb=>hb.elim (f1.u5 b) fun hl=>(f1.ours b hl).2
 have vM:D.aE (ao M φ HF) w ds vals.toList:=dr f1 args ds _ (fun id ax=>by rw[f3 id ax];show(o' id).fz=(o id).fz;rw[(ZX id ax).1]) eP (V.aI f2 _ _ hd)
 refine(h.2 (ao M φ HF) cA w vals (ll cA hM) ((V.cm _ _).2 (D.aI (w:=w) (w':=w) (B:=ao M φ HF) (fun b _ hB=>⟨rfl,fun h=>h.elim hB (ve b)⟩) _ _ vM))).mono ?_
 rintro e w' ⟨iV,o1,n1,v,k1,k2,k3⟩
 have hk:eM (fun _=>False) w w':=⟨k2.bY.os,k2.bY.tape,k2.bY.output,k2.bY.size,fun k hk _=>k2.bY.block k hk (ve k)⟩
 have BT:(⟨o',us⟩:Hp).put [(fr, .arr 0 ty sz es)]=⟨put o' [(fr, .arr 0 ty sz es)],fun id=>us id\/id=fr⟩:=by
  simp only[Hp.put]
  congr 1
  funext id
  simp
 have fin:∀ (val:Value) (xs:List Value),(∀b,dN val=some b->w.heap.size<=b/\b<w'.heap.size)->0<sz->w'.ownsRow 0 ty sz val es.length xs->
  (gy (ao M (ak φ fr val) ((⟨o',us⟩:Hp).put [(fr, .arr 0 ty sz es)])) w' sz es xs)->
  val.oneCell'=true->
  ∃aC,az M aC ⟨put o' [(fr, .arr 0 ty sz es)],fun id=>us id\/id=fr⟩ w'/\Trans φ ⟨o',us⟩ w aC ⟨put o' [(fr, .arr 0 ty sz es)],fun id=>us id\/id=fr⟩ w'/\
   ∃HB,Ending.returned val= .returned HB/\V.den (ao M aC ⟨put o' [(fr, .arr 0 ty sz es)],fun id=>us id\/id=fr⟩) aC ⟨put o' [(fr, .arr 0 ty sz es)],fun id=>us id\/id=fr⟩ w' (.osl fr 0) HB:=by
  intro val xs jA eg eD br OC
  have pN:=jB hH hk cS (.arr 0 ty sz es) val jA (by
   unfold aK
   rw[show((⟨o',us⟩:Hp).put [(fr, .arr 0 ty sz es)]).o fr= .arr 0 ty sz es by simp]
   refine⟨eg,xs, ?_,br⟩
   rw[show ak φ fr val fr=val by simp]
   exact eD)
  have Mn:=fe (φ:=φ) (H:=⟨o',us⟩) hk cS (.arr 0 ty sz es) val (fun b hb=>(jA b hb).1)
  rw[BT]at pN Mn
  refine⟨ak φ fr val,pN,Mn,val,rfl,OC, .inr rfl,fun e he=> ?_⟩
  have fw:0=e:=by
   have:(put o' [(fr,ae.arr 0 ty sz es)] fr).ba=some 0:=by simp[put,ae.ba]
   rw[show(⟨put o' [(fr, .arr 0 ty sz es)],fun id=>us id\/id=fr⟩:Hp).o fr=put o' [(fr, .arr 0 ty sz es)] fr from rfl,this]at he
   injection he
  exact⟨by omega,fun _=>by simp⟩
 cases e with
 |outgrown=>exact k3.elim
 |panicked ch=>obtain⟨_,_,_,h⟩:=k3;exact h.elim
 |returned val=>
  obtain⟨g1,⟨j,ep,rfl,hj⟩|⟨rfl,rfl,eg⟩⟩:=k3
  ·obtain⟨v0,v1,v2⟩:=g1
   have dx:val=iV j:=(v2 ep (by show(o1 j).ba=some ep;rw[hj];rfl)).2 rfl
   have bP:∀b,dN val=some b->bT iV (hp o1 n1) b:=fun b hb=>⟨j,by show(o1 j).live=true;rw[hj];rfl,by rw[<- dx];exact hb⟩
   have jA:∀b,dN val=some b->w.heap.size<=b/\b<w'.heap.size:=fun b hb=>⟨(k2.grow b (bP b hb)).resolve_left (ve b),(k1.ours b (bP b hb)).2⟩
   have HC:=k1.ok j
   unfold aK at HC
   rw[show(hp o1 n1).o j= .arr ep ty sz es from hj]at HC
   obtain⟨eg,xs,eD,br⟩:=HC
   obtain⟨evs,e1,e2,e3⟩:=br
   exact fin val xs jA eg (by rw[dx];exact eD) ⟨evs,e1,e2,D.lW _ _ o9 e3⟩ v0
  ·have g1:val= .slice none 0 0:=g1
   subst g1
   exact fin _ [] (fun b hb=>by cases hb) eg (World.ownsRow_nil w' 0 ty sz) ⟨[],rfl,by simp,rfl⟩ rfl
theorem Cm.J7 {P:Program}{g:FuncId}{args:List V}{ds:List D}{o0 o:Nat->ae}{rd:List Nat}{fr:Nat}{v:V}{Δ:List (Nat×ae)}(ax:V.bf args=[])(eP:cc o0 args=some ds)
 (h:Cm P g (ds.map .d) rd o fr v Δ):Cm P g args rd o fr v Δ:=
 ⟨h.1,fun o' us M φ w vals h1 h2 hH hd=>h.2 o' us M φ w vals h1 h2 hH ((V.cm _ _).2 (dr hH args ds _ (by rw[ax];intro id h;cases h) eP hd))⟩
end Go.Proofs.YtealblliddhgiaaGreat
