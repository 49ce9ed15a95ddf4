/-
  A PART OF THE PROOF. Conditions: none.
-/
import Derived.Test.YtealblliddhgiaaGreatGn13
set_option linter.unusedSimpArgs false
set_option linter.unusedVariables false
namespace Go.Proofs.YtealblliddhgiaaGreat
def kN(x y:ae):Prop:=(x.bM=true->y.bM=true)/\∀e,x.ba=some e->y.ba=some e
theorem kN.rfl' {x y:ae}(h:x=y):kN x y:=h ▸ ⟨id,fun _ h=>h⟩
theorem kN.fz (x:ae):kN x.fz x:=by cases x<;>exact⟨id,fun _ h=>h⟩
theorem kN.row (cs cs':List V):kN (.row cs) (.row cs'):=⟨fun _=>rfl,fun _ h=>by cases h⟩
mutual
theorem V.lz {B B':Nat->Prop}{φ aC:Place}{H H':Hp}{w:World}(hB:∀b, ¬B b-> ¬B' b):∀ (v:V) (val:Value),(∀id∈v.refs,kN (H'.o id) (H.o id)/\aC id=φ id/\H'.us id)->V.den B φ H w v val->V.den B' aC H' w v val
 | .d x,val,_,h=>D.aF (w:=w) (w':=w) (fun b _ hn=>⟨rfl,hB b hn⟩) x val h
 | .bn,_,_,h=>h
 | .ab,_,_,_=>trivial
 | .eZ,_,_,h=>h
 | .ox es,val,_,h=>⟨D.aF (w:=w) (w':=w) (fun b _ hn=>⟨rfl,hB b hn⟩) (.sl es) val h.1,h.2⟩
 | .agg cs,val,hr,h=>by
   obtain⟨a,rfl,h1,h2⟩:=h
   exact⟨a,rfl,V.ir hB cs _ (by simpa[V.refs]using hr) h1,h2⟩
 | .bS cs,val,hr,h=>by
   obtain⟨a,rfl,h1⟩:=h
   exact⟨a,rfl,V.ir hB cs _ (by simpa[V.refs]using hr) h1⟩
 | .ptr id off,val,hr,h=>by
   obtain⟨a,b,c⟩:=hr id (by simp[V.refs])
   obtain⟨h0,h1,h2⟩:=h
   refine⟨h0,c,fun br=> ?_⟩
   obtain⟨x,y,z⟩:=h2 (a.1 br)
   exact⟨x,b.trans y,z⟩
 | .osl id ep,val,hr,h=>by
   obtain⟨a,b,c⟩:=hr id (by simp[V.refs])
   obtain⟨h0,h1,h2⟩:=h
   refine⟨h0,c,fun e he=> ?_⟩
   obtain⟨x,y⟩:=h2 e (a.2 e he)
   exact⟨x,fun heq=>(y heq).trans b.symm⟩
 | .pe id ep i sz off,val,hr,h=>by
   obtain⟨a,b,c⟩:=hr id (by simp[V.refs])
   obtain⟨h0,h1,h2⟩:=h
   refine⟨h0,c,fun e he=> ?_⟩
   obtain⟨x,y⟩:=h2 e (a.2 e he)
   refine⟨x,fun heq=> ?_⟩
   obtain⟨p,q,r,z,u⟩:=y heq
   exact⟨p,q,r,b.trans z,u⟩
 | .pp cs off,val,_,h=>by
   obtain⟨a,ev,h1,h2,h3,h5,h4⟩:=h
   exact⟨a,ev,h1,h2,D.aI (w:=w) (w':=w) (fun b _ hn=>⟨rfl,hB b hn⟩) cs ev h3,h5,h4.mono (w:=w) (w':=w) (fun b _ hn=>⟨rfl,hB b hn⟩)⟩
 | .func fn first cap,val,hr,h=>by
   obtain⟨f,c,rfl,h1,h2⟩:=h
   exact⟨f,c,rfl,V.ir hB first _ (fun id ax=>hr id (by simp[V.refs,ax])) h1,V.ir hB cap _ (fun id ax=>hr id (by simp[V.refs,ax])) h2⟩
 | .iface t x,val,hr,h=>by
   obtain⟨u,rfl,h⟩:=h
   exact⟨u,rfl,V.lz hB x u (by simpa[V.refs]using hr) h⟩
 | .sX id off n,val,hr,h=>by
   obtain⟨a,b,c⟩:=hr id (by simp[V.refs])
   obtain⟨h0,h1,h2⟩:=h
   refine⟨h0,c,fun br=> ?_⟩
   obtain⟨x,y,z⟩:=h2 (a.1 br)
   exact⟨x,b.trans y,z⟩
 | .mp id,val,hr,h=>by
   obtain⟨a,b,c⟩:=hr id (by simp[V.refs])
   obtain⟨h0,h1,h2⟩:=h
   refine⟨h0,c,fun br=> ?_⟩
   exact(h2 (a.1 br)).trans b.symm
 | .kV id,val,hr,h=>by
   obtain⟨a,b,c⟩:=hr id (by simp[V.refs])
   obtain⟨h0,h1,h2⟩:=h
   refine⟨h0,c,fun br=> ?_⟩
   obtain⟨x,y,z⟩:=h2 (a.1 br)
   exact⟨x,b.trans y,z⟩
theorem V.ir {B B':Nat->Prop}{φ aC:Place}{H H':Hp}{w:World}(hB:∀b, ¬B b-> ¬B' b):∀ (vs:List V) (vals:List Value),(∀id∈V.ag vs,kN (H'.o id) (H.o id)/\aC id=φ id/\H'.us id)->V.aE B φ H w vs vals->V.aE B' aC H' w vs vals
 |[],_,_,h=>h
 |v::vs,_,hr,h=>by
  obtain⟨u,us,rfl,h1,h2⟩:=h
  exact⟨u,us,rfl,V.lz hB v u (fun id ax=>hr id (by simp[V.ag,ax])) h1,V.ir hB vs us (fun id ax=>hr id (by simp[V.ag,ax])) h2⟩
end
mutual
theorem V.nL {B:Nat->Prop}{φ:Place}{H:Hp}{w:World}:∀ (v:V) (val:Value),V.den B φ H w v val->∀id∈v.refs,H.us id
 | .osl id ep,_,h,j,hj| .ptr id off,_,h,j,hj| .pe id ep i sz off,_,h,j,hj| .sX id off n,_,h,j,hj| .mp id,_,h,j,hj| .kV id,_,h,j,hj=>by simp[V.refs]at hj;subst hj;exact h.2.1
 | .agg cs,_,h,j,hj=>by obtain⟨a,rfl,h,_⟩:=h;exact V.jO cs _ h j (by simpa[V.refs]using hj)
 | .bS cs,_,h,j,hj=>by obtain⟨a,rfl,h⟩:=h;exact V.jO cs _ h j (by simpa[V.refs]using hj)
 | .func fn first cap,_,h,j,hj=>by
   obtain⟨f,c,rfl,h1,h2⟩:=h
   rcases List.mem_append.1 (show j∈V.ag first++V.ag cap by simpa[V.refs]using hj)with hj|hj
   ·exact V.jO first _ h1 j hj
   ·exact V.jO cap _ h2 j hj
 | .iface t x,_,h,j,hj=>by obtain⟨u,rfl,h⟩:=h;exact V.nL x u h j (by simpa[V.refs]using hj)
 | .d _,_,_,_,hj| .bn,_,_,_,hj| .pp _ _,_,_,_,hj| .ab,_,_,_,hj| .ox _,_,_,_,hj| .eZ,_,_,_,hj=>by simp[V.refs]at hj
theorem V.jO {B:Nat->Prop}{φ:Place}{H:Hp}{w:World}:∀ (vs:List V) (vals:List Value),V.aE B φ H w vs vals->∀id∈V.ag vs,H.us id
 |[],_,_,j,hj=>by simp[V.ag]at hj
 |v::vs,_,h,j,hj=>by
  obtain⟨u,us,rfl,h1,h2⟩:=h
  rcases List.mem_append.1 (show j∈v.refs++V.ag vs by simpa[V.ag]using hj)with hj|hj
  ·exact V.nL v u h1 j hj
  ·exact V.jO vs us h2 j hj
end
def AM(c:Nat)(x:V)(so:Nat->ae)(gone:Nat->Prop)(v v':V):Prop:=
 v'= .ab\/(v'=v/\∀r∈v.refs,r<c)\/(v'= .osl c 0/\v=x)\/∃y,v'= .d y/\dO so v=some y/\∀id∈v.ids,gone id/\∀ep,x≠ .osl id ep
def D0(c:Nat)(x:V)(so:Nat->ae)(gone:Nat->Prop)(env:Nat->V):List V->Nat->Prop
 |[],_=>True
 |v::l,i=>AM c x so gone (env i) v/\D0 c x so gone env l (i+1)
def D1(c:Nat)(x:V)(so:Nat->ae)(gone:Nat->Prop):List V->List V->Prop
 |[],[]=>True
 |v::l,v'::l'=>AM c x so gone v v'/\D1 c x so gone l l'
 |_,_=>False
theorem AO{c:Nat}{x:V}{so:Nat->ae}{gone:Nat->Prop}{env:Nat->V}:∀ (l:List V) (i:Nat),D0 c x so gone env l i->∀j,AM c x so gone (env (i+j)) (bw l j)
 |[],i,_,j=>by rw[jK];exact .inl rfl
 |v::l,i,h,0=>by rw[jt];exact h.1
 |v::l,i,h,j+1=>by
  rw[il]
  have:=AO l (i+1) h.2 j
  rwa [show i+1+j=i+(j+1) by omega]at this
theorem oh{c:Nat}{x:V}{so:Nat->ae}{gone:Nat->Prop}{B B':Nat->Prop}{φ aC:Place}{H H':Hp}{w:World}(hc:∀v v' val,AM c x so gone v v'->V.den B φ H w v val->V.den B' aC H' w v' val):
 ∀ (l l':List V) (vals:List Value),D1 c x so gone l l'->V.aE B φ H w l vals->V.aE B' aC H' w l' vals
 |[],[],_,_,h=>h
 |v::l,v'::l',_,h,hd=>by
  obtain⟨u,us,rfl,h1,h2⟩:=hd
  exact⟨u,us,rfl,hc _ _ _ h.1 h1,oh hc l l' us h.2 h2⟩
 |[],_::_,_,h,_=>h.elim
 |_::_,[],_,h,_=>h.elim
def yf(so:Nat->ae)(gone:Nat->Prop)(ty:TypeId)(sz:Nat)(es:List D)(x:V):Prop:=
 (x= .bn/\es=[]/\0<sz)\/∃id ep,gone id/\x= .osl id ep/\so id= .arr ep ty sz es
theorem DZ.gone {so:Nat->ae}{c:Nat}{ty:TypeId}{sz:Nat}{es:List D}{x:V}(h:DZ so c ty sz es x):yf so (fun id=>c<=id) ty sz es x:=h
theorem bW.Un (gone:Nat->Prop){b:Nat}{e:Nat->V}{so:Nat->ae}{m:Nat}(l:List V){o:Nat->ae}{c:Nat}{ty:TypeId}{sz:Nat}{es:List D}(x:V)(r0:Nat)(cs cs':List V)(HH:r0<c)(hb:b<=c)(Vy:c<=m)(hg:Good o c)(p6:∀id,gone id->id<c->id≠r0/\o id= .no)(ho:∀id,id<c->id≠r0->so id=o id\/o id= .no)(HO:so r0= .row cs)(br:D1 c x so gone cs cs')(hx:yf so gone ty sz es x)(he:D0 c x so gone e l 0):
 bW b ⟨e,so,m⟩ ⟨bw l,ak (ak o c (.arr 0 ty sz es)) r0 (.row cs'),c+1⟩:=by
 intro M φ w tm hH hd
 let aC:Place:=qN φ c x
 let o':Nat->ae:=ak (ak o c (.arr 0 ty sz es)) r0 (.row cs')
 let H':Hp:=hp o' (c+1)
 let H:Hp:=⟨so,fun id=>id<m⟩
 have rL:o' c= .arr 0 ty sz es:=by show ak (ak o c (.arr 0 ty sz es)) r0 (.row cs') c=_;rw[ad _ _ _ _ (by omega),aa]
 have Ge:∀id,id<c->id≠r0->o' id=o id:=fun id ax gv=>by show ak (ak o c (.arr 0 ty sz es)) r0 (.row cs') id=_;rw[ad _ _ _ _ gv,ad _ _ _ _ (by omega)]
 have hor:o' r0= .row cs':=aa _ _ _
 have Pa:∀id,c<id->o' id= .no:=fun id ax=>by show ak (ak o c (.arr 0 ty sz es)) r0 (.row cs') id=_;rw[ad _ _ _ _ (by omega),ad _ _ _ _ (by omega)];exact hg.fresh id (by omega)
 have mc:∀id,id<c->aC id=φ id:=fun id ax=>if_neg (by omega)
 have CK:x= .bn->aC c= .slice none 0 0:=fun h=>by simp only[aC,qN,h,if_pos]
 have CL:∀id ep,x= .osl id ep->aC c=φ id:=fun id ep h=>by simp only[aC,qN,if_pos,h]
 have hold:∀id k,(o' id).live=true->dN (aC id)=some k->∃j,(so j).live=true/\dN (φ j)=some k/\((id<c/\j=id)\/(id=c/\gone j/\∃ep,x= .osl j ep)):=by
  intro id k h1 h2
  rcases Nat.lt_trichotomy id c with bC|heq|ck
  ·rw[mc id bC]at h2
   by_cases gv:id=r0
   ·subst gv
    exact⟨id,by rw[HO];rfl,h2, .inl ⟨bC,rfl⟩⟩
   ·rw[Ge id bC gv]at h1
    rcases ho id bC gv with hs|hs
    ·exact⟨id,by rw[hs];exact h1,h2, .inl ⟨bC,rfl⟩⟩
    ·rw[hs]at h1;cases h1
  ·subst heq
   rcases hx with⟨rfl,_,_⟩|⟨j,ep,hj,rfl,kS⟩
   ·rw[CK rfl]at h2;cases h2
   ·rw[CL j ep rfl]at h2
    exact⟨j,by rw[kS];rfl,h2, .inr ⟨rfl,hj,ep,rfl⟩⟩
  ·rw[Pa id ck]at h1;cases h1
 have bP:∀k,bT aC H' k->bT φ H k:=by
  rintro k ⟨id,h1,h2⟩
  obtain⟨j,g1,g2,_⟩:=hold id k h1 h2
  exact⟨j,g1,g2⟩
 have hB:∀k, ¬ao M φ H k-> ¬ao M aC H' k:=fun k h h'=>h (h'.imp id (bP k))
 have mz:∀id,id<c->kN (H'.o id) (H.o id)/\aC id=φ id/\H'.us id:=fun id ax=>by
  refine⟨?_,mc id ax,(by show id<c+1;omega)⟩
  by_cases gv:id=r0
  ·subst gv
   show kN (o' id) (so id)
   rw[hor,HO];exact kN.row _ _
  ·rcases ho id ax gv with hs|hs
   ·exact kN.rfl' ((Ge id ax gv).trans hs.symm)
   ·show kN (o' id) (so id)
    rw[Ge id ax gv,hs]
    exact⟨fun h=>(by cases h),fun e h=>(by cases h)⟩
 have dx:∀ (v:V) (val:Value),(∀r∈v.refs,r<c)->V.den (ao M φ H) φ H w v val->V.den (ao M aC H') aC H' w v val:=fun v val hr h=>
  V.lz (H:=H) (H':=H') hB v val (fun id ax=>mz id (hr id ax)) h
 have kj:∀ (v:List V) (val:List Value),(∀r∈V.ag v,r<c)->V.aE (ao M φ H) φ H w v val->V.aE (ao M aC H') aC H' w v val:=fun v val hr h=>
  V.ir (H:=H) (H':=H') hB v val (fun id ax=>mz id (hr id ax)) h
 have Pb:∀ (v:V) (y:D) (val:Value),dO so v=some y->(∀id∈v.ids,gone id/\∀ep,x≠ .osl id ep)->V.den (ao M φ H) φ H w v val->D.den (ao M aC H') w y val:=fun v y val h1 h2 h3=>by
  obtain⟨f1,f2,f3,f4,f5⟩:=cT (H:=H) hH v.ids (fun id ax=>cN v val h3 id ax)
  have YM:∀k,bT φ (H.put (cQ H.o v.ids)) k->bT φ H k:=by
   rintro k ⟨id,g1,g2⟩
   by_cases ax:id∈v.ids
   ·rw[f3 id ax]at g1
    refine⟨id, ?_,g2⟩
    revert g1
    cases H.o id<;>simp[ae.fz,ae.live]
   ·rw[f4 id ax]at g1;exact⟨id,g1,g2⟩
  have h4:V.den (ao M φ (H.put (cQ H.o v.ids))) φ (H.put (cQ H.o v.ids)) w v val:=
   V.lz (H:=H) (fun k h h'=>h (h'.imp id (YM k))) v val (fun id ax=>by
     have dA:H.us id:=(V.nL v val h3) id ax
     refine⟨?_,rfl,(f5 id).2 dA⟩
     by_cases hm:id∈v.ids
     ·rw[f3 id hm];exact kN.fz _
     ·rw[f4 id hm];exact kN.rfl' rfl) h3
  have h5:=eI f1 (o:=so) v y val (fun id ax=>f3 id ax) h1 h4
  refine D.aF (w:=w) (w':=w) (fun k _ hn=>⟨rfl,fun hk=>hn (hk.imp id ?_)⟩) y val h5
  rintro⟨id,g1,g2⟩
  obtain⟨j,k1,k2,k3⟩:=hold id k g1 g2
  refine⟨j, ?_,k2⟩
  have:j∉v.ids:=fun hm=>by
   obtain⟨k4,k5⟩:=h2 j hm
   rcases k3 with⟨k6,k7⟩|⟨_,_,ep,k6⟩
   ·subst k7
    obtain⟨k8,k9⟩:=p6 _ k4 k6
    have g1:(o' j).live=true:=g1
    rw[Ge _ k6 k8,k9]at g1
    cases g1
   ·exact k5 ep k6
  rw[f4 j this];exact k1
 have wR:∀val,V.den (ao M φ H) φ H w x val->V.den (ao M aC H') aC H' w (.osl c 0) val:=by
  intro val this
  rcases hx with⟨rfl,rfl,eg⟩|⟨j,ep,hj,rfl,kS⟩
  ·simp only[V.den]at this
   rw[this]
   refine⟨rfl,(by show c<c+1;omega),fun e' fw=> ?_⟩
   have fw:(o' c).ba=some e':=fw
   rw[rL]at fw
   simp only[ae.ba,Option.some.injEq]at fw
   subst fw
   exact⟨Nat.le_refl _,fun _=>(CK rfl).symm⟩
  ·obtain⟨g1,g2,g3⟩:=this
   refine⟨g1,(by show c<c+1;omega),fun e' fw=> ?_⟩
   have fw:(o' c).ba=some e':=fw
   rw[rL]at fw
   simp only[ae.ba,Option.some.injEq]at fw
   subst fw
   have te:(H.o j).ba=some ep:=by show(so j).ba=_;rw[kS];rfl
   exact⟨Nat.le_refl _,fun _=>by rw[CL j ep rfl];exact(g3 ep te).2 rfl⟩
 have AP:∀v v' val,AM c x so gone v v'->V.den (ao M φ H) φ H w v val->V.den (ao M aC H') aC H' w v' val:=by
  intro v v' val h h1
  rcases h with rfl|⟨rfl,h2⟩|⟨rfl,rfl⟩|⟨y,rfl,h2,h3⟩
  ·trivial
  ·exact dx _ _ h2 h1
  ·exact wR _ h1
  ·exact Pb v y val h2 h3 h1
 refine⟨aC,⟨fun id=> ?_,fun id hu=>Pa id (by have: ¬id<c+1:=hu;omega),fun i j k h1 h2 h3 h4=> ?_,fun k hk=>hH.ours k (bP k hk),hH.u5⟩,fun i=> ?_,bP,by show b<=c+1;omega,fun id ax hr=> ?_,fun id e' ax fw=> ?_⟩
 ·have aM:aK M φ H w id:=hH.ok id
  have hrefs:=hg.refs id
  show aK M aC H' w id
  unfold aK at aM|-
  rcases Nat.lt_trichotomy id c with bC|heq|ck
  ·by_cases gv:id=r0
   ·subst gv
    have e1:H.o id= .row cs:=HO
    have e2:H'.o id= .row cs':=hor
    rw[e1]at aM
    rw[e2,mc id bC]
    obtain⟨b,cR,ty,k1,k2,k3,k4⟩:=aM
    exact⟨b,cR,ty,k1,k2,oh AP _ _ _ br k3,k4⟩
   have e2:H'.o id=o id:=Ge id bC gv
   rcases ho id bC gv with hs|hs
   case inr=>rw[e2,hs];trivial
   have e1:H.o id=o id:=hs
   rw[e1]at aM
   rw[e2,mc id bC]
   cases nR:o id with
   |no=>trivial
   |row cs=>
    simp only[nR]at aM hrefs|-
    obtain⟨b,cR,ty,k1,k2,k3,k4⟩:=aM
    exact⟨b,cR,ty,k1,k2,kj _ _ hrefs k3,k4⟩
   |arr ep ty sz es=>
    simp only[nR]at aM|-
    obtain⟨k1,xs,k2,evs,k3,k4,k5⟩:=aM
    exact⟨k1,xs,k2,evs,k3,k4,D.aI (fun b _ hn=>⟨rfl,hB b hn⟩) _ _ k5⟩
   |ph ep es=>
    simp only[nR]at aM|-
    exact D.aF (fun b _ hn=>⟨rfl,hB b hn⟩) _ _ aM
   |map kt vt es=>
    simp only[nR]at aM|-
    obtain⟨b,es',clock,k1,k2,k4,k3⟩:=aM
    exact⟨b,es',clock,k1,k2,k4,aH.mono (fun b _ hn=>⟨rfl,hB b hn⟩) _ _ k3⟩
   |fq l=>
    simp only[nR]at aM|-
    exact D.aF (fun b _ hn=>⟨rfl,hB b hn⟩) _ _ aM
   |kW l last=>
    simp only[nR]at aM|-
    obtain⟨b,k1,k2⟩:=aM
    exact⟨b,k1,k2.mono (fun b _ hn=>⟨rfl,hB b hn⟩) rfl⟩
   |sY s pos=>
    simp only[nR]at aM|-
    exact aM
   |loop nf n env ps a b st pd=>
    simp only[nR]at aM hrefs|-
    obtain⟨b,r,k1,k2,k3,k4,k5,k6,k7,k8,k9,Hk⟩:=aM
    exact⟨b,r,k1,k2,k3,k4,k5,k6,k7,k8,k9,fun i=>dx _ _ (fun r hr=>hrefs r (V.lx _ _ r hr)) (Hk i)⟩
  ·subst heq
   have e2:H'.o id= .arr 0 ty sz es:=rL
   rw[e2]
   rcases hx with⟨rfl,rfl,eg⟩|⟨j,ep,hj,rfl,kS⟩
   ·refine⟨eg,[], ?_,[],by simp,by simp,rfl⟩
    rw[CK rfl]
    exact World.ownsRow_nil _ _ _ _
   ·have this:aK M φ H w j:=hH.ok j
    unfold aK at this
    have e3:H.o j= .arr ep ty sz es:=kS
    simp only[e3]at this
    obtain⟨k1,xs,k2,evs,k3,k4,k5⟩:=this
    exact⟨k1,xs,by rw[CL j ep rfl];exact k2,evs,k3,k4,D.aI (fun b _ hn=>⟨rfl,hB b hn⟩) _ _ k5⟩
  ·have e2:H'.o id= .no:=Pa id ck
   rw[e2]
   trivial
 ·obtain⟨i',a1,a2,a3⟩:=hold i k h1 h3
  obtain⟨j',b1,b2,b3⟩:=hold j k h2 h4
  have:=hH.apart i' j' k a1 b1 a2 b2
  have gv:∀cO j',(o' cO).live=true->cO<c->gone j'->cO≠j':=fun cO j' g1 g2 g3 g4=>by
   subst g4
   obtain⟨g5,g6⟩:=p6 _ g3 g2
   rw[Ge _ g2 g5,g6]at g1
   cases g1
  rcases a3 with⟨a3,a4⟩|⟨a3,a4,_⟩<;>rcases b3 with⟨b3,b4⟩|⟨b3,b4,_⟩
  ·omega
  ·exact absurd (a4.symm.trans this) (gv i j' h1 a3 b4)
  ·exact absurd (b4.symm.trans this.symm) (gv j i' h2 b3 a4)
  ·omega
 ·have hi:=AO l 0 he i
  rw[Nat.zero_add]at hi
  exact AP _ _ _ hi (hd i)
 ·have bC:id<c:=by omega
  have hr:(o' id).bM=true:=hr
  exact⟨(mz id bC).1.1 hr,mc id bC⟩
 ·have bC:id<c:=by omega
  have fw:(o' id).ba=some e':=fw
  exact⟨e',(mz id bC).1.2 e' fw,Nat.le_refl _,fun _=>mc id bC⟩
theorem bW.conv {b:Nat}{e:Nat->V}{so:Nat->ae}{m:Nat}(l:List V){o:Nat->ae}{c:Nat}{ty:TypeId}{sz:Nat}{es:List D}(x:V)(r0:Nat)(cs cs':List V)(HH:r0<c)(hb:b<=c)(Vy:c<=m)(hg:Good o c)(ho:∀id,id<c->id≠r0->so id=o id)(HO:so r0= .row cs)(br:D1 c x so (fun id=>c<=id) cs cs')(hx:DZ so c ty sz es x)(he:D0 c x so (fun id=>c<=id) e l 0):
 bW b ⟨e,so,m⟩ ⟨bw l,ak (ak o c (.arr 0 ty sz es)) r0 (.row cs'),c+1⟩:=
 bW.Un _ l x r0 cs cs' HH hb Vy hg (fun id h1 h2=>absurd h1 (by omega)) (fun id h1 h2=> .inl (ho id h1 h2)) HO br hx he
theorem HP{xs ys:List Nat}:kD xs ys=true↔∀x∈xs,x∉ys:=by
 simp[kD,List.all_eq_true]
def oj(env:Nat->V):List V->Nat->Prop
 |[],_=>True
 |v::l,i=>(v= .ab\/v=env i)/\oj env l (i+1)
theorem qO{env:Nat->V}{i:Nat}:oj env [] i:=trivial
theorem oQ{env:Nat->V}{l:List V}{i:Nat}(h:oj env l (i+1)):oj env (.ab::l) i:=⟨.inl rfl,h⟩
theorem yg{env:Nat->V}{l:List V}{i:Nat}{v:V}(he:env i=v)(h:oj env l (i+1)):oj env (v::l) i:=⟨.inr he.symm,h⟩
theorem AQ{env:Nat->V}:∀ (l:List V) (i:Nat),oj env l i->∀j,bw l j= .ab\/bw l j=env (i+j)
 |[],i,_,j=>by rw[jK];exact .inl rfl
 |v::l,i,h,0=>by rw[jt];exact h.1
 |v::l,i,h,j+1=>by
  rw[il]
  have:=AQ l (i+1) h.2 j
  rwa [show i+1+j=i+(j+1) by omega]at this
theorem Fz{P:Program}{n:Nat}{ps:List Nat}{x y:IC}{Q:fy->S->Prop}{e:Nat->V}{o:Nat->ae}{nx:Nat}{f:FuncId}{cap:List V}(env:List V)(he:oj e env 0)
 (h:dX P f (.kV nx::cap) (ak o nx (.loop P.funcs.size n env ps x y .ready none)) (nx+1)
  (fun _ o' nx'=>∃nf m en p c d st pd,o' nx= .loop nf m en p c d st pd/\st≠ .busy/\vu Q pd ⟨e,ak o' nx (.loop nf m en p c d .exhausted pd),nx'⟩) (fun v o' nx'=>Q (.bG v) ⟨e,o',nx'⟩)):
 Cz P n false ps x y Q ⟨e,o,nx⟩ (.func (.func f) [] cap):=by
 unfold Cz zM
 refine⟨rfl,env,fun i=> ?_, .inl h⟩
 have:=AQ env 0 he i
 rwa [Nat.zero_add]at this
def um(P:Program)(n b id:Nat)(fO:IC)(K X:V->(Nat->ae)->Nat->Prop)(e:fy)(s:S):Prop:=
 match e with
 | .normal=>∃nf m en p c d pd,s.o id= .loop nf m en p c d .ready pd/\kq P n b true fO (ma id K X) ⟨s.env,ak s.o id (.loop nf m en p c d .busy pd),s.nx⟩
 | .bG v=>X v s.o s.nx
 |_=>False
theorem dJ.aZ {P:Program}{n:Nat}(bc:P.follows .mixedOrders=true){id:Nat}{args:List V}{o:Nat->ae}{nx:Nat}{K X:V->(Nat->ae)->Nat->Prop}{env:List V}{ps:List Nat}{kX fO:IC}{st:LoopState}{pd:Option kR}
 (ho:o id= .loop P.funcs.size n env ps kX fO st pd) (bC:id<nx) (J0:ps.all (fun t=>decide (t<n))=true) (hl:args.length=ps.length)
 (h:kq P n nx true kX (um P n nx id fO K X) ⟨ss (bw env) ps args,o,nx⟩):dJ P id args o nx K X:=by
 refine dJ.tQ bc ho bC J0 hl (dZ kX _ _ _ (fun e s h=> ?_) h)
 cases e with
 |normal=>
  obtain⟨nf,m,en,p,c,d,pd,h1,h2⟩:=h
  exact⟨nf,m,en,p,c,d,pd,h1,dZ fO _ _ _ (fun _ _ h=>h) h2⟩
 |bG v=>exact h
 |_=>exact h.elim
theorem yh{P:Program}{n b id:Nat}{fO:IC}{K X:V->(Nat->ae)->Nat->Prop}{s:S}{nf m:Nat}{en:List V}{p:List Nat}{c d:IC}{pd:Option kR}(h:s.o id= .loop nf m en p c d .ready pd)
 (h2:kq P n b true fO (ma id K X) ⟨s.env,ak s.o id (.loop nf m en p c d .busy pd),s.nx⟩):um P n b id fO K X .normal s:=⟨nf,m,en,p,c,d,pd,h,h2⟩
def vz:List Nat->Nat->Nat->Nat
 |[],nx,k=>nx+k
 |i::_,_,0=>i
 |_::l,nx,k+1=>vz l nx k
theorem yi:∀ (l:List Nat) (nx k:Nat),vz l nx k∈l\/nx<=vz l nx k
 |[],nx,k=> .inr (Nat.le_add_right _ _)
 |i::_,_,0=> .inl (List.mem_cons_self ..)
 |_::l,nx,k+1=>(yi l nx k).imp (List.mem_cons_of_mem _) id
theorem AR{nx:Nat}:∀ (l:List Nat),l.Nodup->(∀i∈l,i<nx)->∀a b,vz l nx a=vz l nx b->a=b
 |[],_,_,a,b,e=>by simp only[vz]at e;omega
 |i::l,_,_,0,0,_=>rfl
 |i::l,hd,hl,0,b+1,e=>by
  simp only[vz]at e
  rcases yi l nx b with h|h
  ·rw[<- e]at h;exact absurd h (List.nodup_cons.1 hd).1
  ·have:=hl i (List.mem_cons_self ..);omega
 |i::l,hd,hl,a+1,0,e=>by
  simp only[vz]at e
  rcases yi l nx a with h|h
  ·rw[e]at h;exact absurd h (List.nodup_cons.1 hd).1
  ·have:=hl i (List.mem_cons_self ..);omega
 |i::l,hd,hl,a+1,b+1,e=>by
  simp only[vz]at e
  rw[AR l (List.nodup_cons.1 hd).2 (fun j hj=>hl j (List.mem_cons_of_mem _ hj)) a b e]
def Kl(f:Nat->Nat)(x:List Nat×List Nat):List Nat×List Nat:=(x.1.map f,x.2.map f)
theorem uo{f:Nat->Nat}(hf:∀a b,f a=f b->a=b){xs ys:List Nat}(hd:kD xs ys=true):kD (xs.map f) (ys.map f)=true:=by
 rw[HP]at hd|-
 intro x hx hy
 obtain⟨a,ha,rfl⟩:=List.mem_map.1 hx
 obtain⟨b,hb,e⟩:=List.mem_map.1 hy
 rw[hf b a e]at hb
 exact hd a ha hb
theorem CM{f:Nat->Nat}(hf:∀a b,f a=f b->a=b){pr:List (List Nat)}(fp:List (List Nat×List Nat))(ho:eB pr fp=true):eB pr (fp.map (Kl f))=true:=by
 unfold eB at ho|-
 rw[List.all_eq_true]at ho|-
 intro j hj
 rw[List.length_map]at hj
 have ho:=ho j hj
 rw[List.all_eq_true]at ho|-
 intro i hi
 have ho:=ho i hi
 have hm:∀k,(fp.map (Kl f)).getD k ([],[])=Kl f (fp.getD k ([],[])):=fun k=>by
  rw[List.getD_eq_getElem?_getD,List.getD_eq_getElem?_getD,List.getElem?_map]
  cases fp[k]? <;>rfl
 rw[hm,hm]
 rw[Bool.or_eq_true]at ho|-
 refine ho.imp (fun h=>h) (fun ho=> ?_)
 rw[Bool.and_eq_true,Bool.and_eq_true]at ho|-
 exact⟨⟨uo hf ho.1.1,uo hf ho.1.2⟩,uo hf ho.2⟩
theorem rR{ids:List Nat}{nx:Nat}(hd:ids.Nodup)(hl:∀i∈ids,i<nx){pr:List (List Nat)}(fp:List (List Nat×List Nat))(ho:eB pr fp=true):eB pr (fp.map (Kl (vz ids nx)))=true:=
 CM (AR ids hd hl) fp ho
theorem uq{P:Program}{g:FuncId}{K:KD}{X:XD}{o:Nat->ae}{nx fr:Nat}{all:List V}{rd:List Nat}{x:D}{Δ:List (Nat×ae)}(my:rd.all (fun id=>decide (id<nx))=true)(h:xP P g all rd o (.bG x) Δ)(hk:X (.d x) (Δ.map (·.1)) rd):l8 P g K X o nx fr all:=by
 unfold l8
 exact⟨rd,Δ,my, .inr (.inl ⟨x,h,hk⟩)⟩
section
variable {P:Program}{KB:List Nat->Fp->Prop}{pr:List (List Nat)}{l:List cg}{fr:Nat}{fp:Fp}{bad ws:List Nat}{s:S}{d:Option Nat}{op:Op}
theorem AS(h:KB ws fp):An P KB pr [] fr fp bad ws s:=by unfold An;exact h
end
end Go.Proofs.YtealblliddhgiaaGreat
namespace Go.Proofs.YtealblliddhgiaaGreat
structure Gr where
 x:V
 ty:TypeId
 sz:Nat
 es:List D
def Gr.ok (so:Nat->ae)(gone:Nat->Prop)(g:Gr):Prop:=yf so gone g.ty g.sz g.es g.x
def HQ(c:Nat)(G:List Gr)(so:Nat->ae)(gone:Nat->Prop)(v v':V):Prop:=
 v'= .ab\/(v'=v/\∀r∈v.refs,r<c)\/(∃i g,G[i]? =some g/\v'= .osl (c+i) 0/\v=g.x)\/∃y,v'= .d y/\dO so v=some y/\∀id∈v.ids,gone id/\∀g∈G,∀ep,g.x≠ .osl id ep
def nj(c:Nat)(G:List Gr)(so:Nat->ae)(gone:Nat->Prop)(env:Nat->V):List V->Nat->Prop
 |[],_=>True
 |v::l,i=>HQ c G so gone (env i) v/\nj c G so gone env l (i+1)
def yj(c:Nat)(G:List Gr)(so:Nat->ae)(gone:Nat->Prop):List V->List V->Prop
 |[],[]=>True
 |v::l,v'::l'=>HQ c G so gone v v'/\yj c G so gone l l'
 |_,_=>False
def AU(c:Nat)(G:List Gr)(so:Nat->ae)(gone:Nat->Prop)(x x':ae):Prop:=
 x'= .no\/(x=x'/\∀r∈x'.refs,r<c)\/∃cs cs',x= .row cs/\x'= .row cs'/\yj c G so gone cs cs'
section
variable {c:Nat}{G:List Gr}{so:Nat->ae}{gone:Nat->Prop}
theorem D2{env:Nat->V}:∀ (l:List V) (i:Nat),nj c G so gone env l i->∀j,HQ c G so gone (env (i+j)) (bw l j)
 |[],i,_,j=>by rw[jK];exact .inl rfl
 |v::l,i,h,0=>by rw[jt];exact h.1
 |v::l,i,h,j+1=>by
  rw[il]
  have:=D2 l (i+1) h.2 j
  rwa [show i+1+j=i+(j+1) by omega]at this
variable {env:Nat->V}{i:Nat}{l l':List V}{v:V}{y:D}
theorem gH:nj c G so gone env [] i:=trivial
theorem fl(h:nj c G so gone env l (i+1)):nj c G so gone env (.ab::l) i:=⟨.inl rfl,h⟩
theorem eG(he:env i= .d y)(h:nj c G so gone env l (i+1)):nj c G so gone env (.d y::l) i:=⟨.inr (.inl ⟨he.symm,fun r hr=>by rw[he]at hr;simp[V.refs]at hr⟩),h⟩
theorem me(he:env i=v)(hr:∀r∈v.refs,r<c)(h:nj c G so gone env l (i+1)):nj c G so gone env (v::l) i:=⟨.inr (.inl ⟨he.symm,fun r EY=>hr r (he ▸ EY)⟩),h⟩
theorem mf(k:Nat){g:Gr}{n:Nat}(hg:G[k]? =some g)(hn:n=c+k)(he:env i=g.x)(h:nj c G so gone env l (i+1)):nj c G so gone env (.osl n 0::l) i:=⟨.inr (.inr (.inl ⟨k,g,hg,by rw[hn],he⟩)),h⟩
theorem mg(ht:dO so (env i)=some y)(hi:∀id∈(env i).ids,gone id/\∀g∈G,∀ep,g.x≠ .osl id ep)(h:nj c G so gone env l (i+1)):nj c G so gone env (.d y::l) i:=⟨.inr (.inr (.inr ⟨y,rfl,ht,hi⟩)),h⟩
theorem lA:yj c G so gone [] []:=trivial
theorem kO(h:yj c G so gone l l'):yj c G so gone (.d y::l) (.d y::l'):=⟨.inr (.inl ⟨rfl,fun r hr=>by simp[V.refs]at hr⟩),h⟩
theorem yk(k:Nat){g:Gr}{n:Nat}(hg:G[k]? =some g)(hn:n=c+k)(he:v=g.x)(h:yj c G so gone l l'):yj c G so gone (v::l) (.osl n 0::l'):=⟨.inr (.inr (.inl ⟨k,g,hg,by rw[hn],he⟩)),h⟩
theorem yl{x:ae}:AU c G so gone x .no:= .inl rfl
theorem jv{x x':ae}(h:x=x')(hr:∀r∈x'.refs,r<c):AU c G so gone x x':= .inr (.inl ⟨h,hr⟩)
theorem lB{x:ae}{cs cs':List V}(h:x= .row cs)(hr:yj c G so gone cs cs'):AU c G so gone x (.row cs'):= .inr (.inr ⟨cs,cs',h,rfl,hr⟩)
end
theorem p7{c:Nat}{G:List Gr}{so:Nat->ae}{gone:Nat->Prop}{B B':Nat->Prop}{φ aC:Place}{H H':Hp}{w:World}(hc:∀v v' val,HQ c G so gone v v'->V.den B φ H w v val->V.den B' aC H' w v' val):
 ∀ (l l':List V) (vals:List Value),yj c G so gone l l'->V.aE B φ H w l vals->V.aE B' aC H' w l' vals
 |[],[],_,_,h=>h
 |v::l,v'::l',_,h,hd=>by
  obtain⟨u,us,rfl,h1,h2⟩:=hd
  exact⟨u,us,rfl,hc _ _ _ h.1 h1,p7 hc l l' us h.2 h2⟩
 |[],_::_,_,h,_=>h.elim
 |_::_,[],_,h,_=>h.elim
def HS(φ:Place)(c:Nat)(G:List Gr):Place:=fun id=>if id<c then φ id else match G[id - c]? with
 |some g=>(match g.x with| .osl j _=>φ j|_=> .slice none 0 0)
 |none=>φ id
theorem bW.see (gone:Nat->Prop)(G:List Gr)(c:Nat){b:Nat}{e:Nat->V}{so:Nat->ae}{m:Nat}(l:List V){o':Nat->ae}{nx':Nat}(qE:nx'=c+G.length)(hb:b<=c)
 (ho:∀id,id<c->AU c G so gone (so id) (o' id)) (hG:∀i g,G[i]? =some g->o' (c+i)= .arr 0 g.ty g.sz g.es/\g.ok so gone) (hh:∀id,nx'<=id->o' id= .no) (p6:∀id,gone id->id<c->o' id= .no)
 (xE:∀ (i j:Nat) (gi gj:Gr) (id ep gU:Nat),G[i]? =some gi->G[j]? =some gj->gi.x= .osl id ep->gj.x= .osl id gU->i=j) (he:nj c G so gone e l 0):bW b ⟨e,so,m⟩ ⟨bw l,o',nx'⟩:=by
 subst qE
 intro M φ w tm hH hd
 let aC:Place:=HS φ c G
 let H':Hp:=hp o' (c+G.length)
 let H:Hp:=⟨so,fun id=>id<m⟩
 have mc:∀id,id<c->aC id=φ id:=fun id ax=>if_pos ax
 have HT:∀i g,G[i]? =some g->aC (c+i)=(match g.x with| .osl j _=>φ j|_=> .slice none 0 0):=fun i g hg=>by
  show HS φ c G (c+i)=_
  unfold HS
  rw[if_neg (by omega),show c+i - c=i by omega,hg]
 have hold:∀id k,(o' id).live=true->dN (aC id)=some k->∃j,(so j).live=true/\dN (φ j)=some k/\((id<c/\j=id)\/∃i g ep,id=c+i/\G[i]? =some g/\gone j/\g.x= .osl j ep):=by
  intro id k h1 h2
  by_cases bC:id<c
  ·rw[mc id bC]at h2
   rcases ho id bC with h3|⟨h3,_⟩|⟨cs,cs',h3,h4,_⟩
   ·rw[h3]at h1;cases h1
   ·exact⟨id,by rw[h3];exact h1,h2, .inl ⟨bC,rfl⟩⟩
   ·exact⟨id,by rw[h3];rfl,h2, .inl ⟨bC,rfl⟩⟩
  ·by_cases BX:c+G.length<=id
   ·rw[hh id BX]at h1;cases h1
   ·obtain⟨i,rfl⟩:∃i,id=c+i:=⟨id - c,by omega⟩
    obtain⟨g,hg⟩:∃g,G[i]? =some g:=⟨G[i]'(by omega),by simp⟩
    rw[HT i g hg]at h2
    obtain⟨_,bA⟩:=hG i g hg
    rcases bA with⟨h3,_,_⟩|⟨j,ep,hj,h3,kS⟩
    ·rw[h3]at h2;cases h2
    ·rw[h3]at h2
     exact⟨j,by rw[kS];rfl,h2, .inr ⟨i,g,ep,rfl,hg,hj,h3⟩⟩
 have bP:∀k,bT aC H' k->bT φ H k:=by
  rintro k ⟨id,h1,h2⟩
  obtain⟨j,g1,g2,_⟩:=hold id k h1 h2
  exact⟨j,g1,g2⟩
 have hB:∀k, ¬ao M φ H k-> ¬ao M aC H' k:=fun k h h'=>h (h'.imp id (bP k))
 have mz:∀id,id<c->kN (H'.o id) (H.o id)/\aC id=φ id/\H'.us id:=fun id ax=>by
  refine⟨?_,mc id ax,(by show id<c+G.length;omega)⟩
  show kN (o' id) (so id)
  rcases ho id ax with h3|⟨h3,_⟩|⟨cs,cs',h3,h4,_⟩
  ·rw[h3];exact⟨fun h=>(by cases h),fun e h=>(by cases h)⟩
  ·exact kN.rfl' h3.symm
  ·rw[h3,h4];exact kN.row _ _
 have dx:∀ (v:V) (val:Value),(∀r∈v.refs,r<c)->V.den (ao M φ H) φ H w v val->V.den (ao M aC H') aC H' w v val:=fun v val hr h=>
  V.lz (H:=H) (H':=H') hB v val (fun id ax=>mz id (hr id ax)) h
 have kj:∀ (v:List V) (val:List Value),(∀r∈V.ag v,r<c)->V.aE (ao M φ H) φ H w v val->V.aE (ao M aC H') aC H' w v val:=fun v val hr h=>
  V.ir (H:=H) (H':=H') hB v val (fun id ax=>mz id (hr id ax)) h
 have Pb:∀ (v:V) (y:D) (val:Value),dO so v=some y->(∀id∈v.ids,gone id/\∀g∈G,∀ep,g.x≠ .osl id ep)->V.den (ao M φ H) φ H w v val->D.den (ao M aC H') w y val:=fun v y val h1 h2 h3=>by
  obtain⟨f1,f2,f3,f4,f5⟩:=cT (H:=H) hH v.ids (fun id ax=>cN v val h3 id ax)
  have YM:∀k,bT φ (H.put (cQ H.o v.ids)) k->bT φ H k:=by
   rintro k ⟨id,g1,g2⟩
   by_cases ax:id∈v.ids
   ·rw[f3 id ax]at g1
    refine⟨id, ?_,g2⟩
    revert g1
    cases H.o id<;>simp[ae.fz,ae.live]
   ·rw[f4 id ax]at g1;exact⟨id,g1,g2⟩
  have h4:V.den (ao M φ (H.put (cQ H.o v.ids))) φ (H.put (cQ H.o v.ids)) w v val:=
   V.lz (H:=H) (fun k h h'=>h (h'.imp id (YM k))) v val (fun id ax=>by
     have dA:H.us id:=(V.nL v val h3) id ax
     refine⟨?_,rfl,(f5 id).2 dA⟩
     by_cases hm:id∈v.ids
     ·rw[f3 id hm];exact kN.fz _
     ·rw[f4 id hm];exact kN.rfl' rfl) h3
  have h5:=eI f1 (o:=so) v y val (fun id ax=>f3 id ax) h1 h4
  refine D.aF (w:=w) (w':=w) (fun k _ hn=>⟨rfl,fun hk=>hn (hk.imp id ?_)⟩) y val h5
  rintro⟨id,g1,g2⟩
  obtain⟨j,k1,k2,k3⟩:=hold id k g1 g2
  refine⟨j, ?_,k2⟩
  have:j∉v.ids:=fun hm=>by
   obtain⟨k4,k5⟩:=h2 j hm
   rcases k3 with⟨k6,k7⟩|⟨i,g,ep,k6,k8,k9,Hk⟩
   ·subst k7
    have:=p6 _ k4 k6
    have g1:(o' j).live=true:=g1
    rw[this]at g1
    cases g1
   ·exact k5 g (List.mem_of_getElem? k8) ep Hk
  rw[f4 j this];exact k1
 have wR:∀i g val,G[i]? =some g->V.den (ao M φ H) φ H w g.x val->V.den (ao M aC H') aC H' w (.osl (c+i) 0) val:=by
  intro i g val hg this
  obtain⟨rL,bA⟩:=hG i g hg
  have bC:c+i<c+G.length:=by have:=(List.getElem?_eq_some_iff.1 hg).1;omega
  rcases bA with⟨h3,_,_⟩|⟨j,ep,hj,h3,kS⟩
  ·rw[h3]at this
   simp only[V.den]at this
   rw[this]
   refine⟨rfl,bC,fun e' fw=> ?_⟩
   have fw:(o' (c+i)).ba=some e':=fw
   rw[rL]at fw
   simp only[ae.ba,Option.some.injEq]at fw
   subst fw
   exact⟨Nat.le_refl _,fun _=>by rw[HT i g hg,h3]⟩
  ·rw[h3]at this
   obtain⟨g1,g2,g3⟩:=this
   refine⟨g1,bC,fun e' fw=> ?_⟩
   have fw:(o' (c+i)).ba=some e':=fw
   rw[rL]at fw
   simp only[ae.ba,Option.some.injEq]at fw
   subst fw
   have te:(H.o j).ba=some ep:=by show(so j).ba=_;rw[kS];rfl
   exact⟨Nat.le_refl _,fun _=>by rw[HT i g hg,h3];exact(g3 ep te).2 rfl⟩
 have AP:∀v v' val,HQ c G so gone v v'->V.den (ao M φ H) φ H w v val->V.den (ao M aC H') aC H' w v' val:=by
  intro v v' val h h1
  rcases h with rfl|⟨rfl,h2⟩|⟨i,g,hg,rfl,rfl⟩|⟨y,rfl,h2,h3⟩
  ·trivial
  ·exact dx _ _ h2 h1
  ·exact wR i g _ hg h1
  ·exact Pb v y val h2 h3 h1
 refine⟨aC,⟨fun id=> ?_,fun id hu=>hh id (by have: ¬id<c+G.length:=hu;omega),fun i j k h1 h2 h3 h4=> ?_,fun k hk=>hH.ours k (bP k hk),hH.u5⟩,fun i=> ?_,bP,by show b<=c+G.length;omega,fun id ax hr=> ?_,fun id e' ax fw=> ?_⟩
 ·have aM:aK M φ H w id:=hH.ok id
  show aK M aC H' w id
  unfold aK at aM|-
  by_cases bC:id<c
  ·rcases ho id bC with h3|⟨h3,hrefs⟩|⟨cs,cs',h3,h4,br⟩
   ·have e2:H'.o id= .no:=h3
    rw[e2];trivial
   ·have e1:H.o id=o' id:=h3
    have e2:H'.o id=o' id:=rfl
    rw[e1]at aM
    rw[e2,mc id bC]
    cases nR:o' id with
    |no=>trivial
    |row cs=>
     simp only[nR]at aM hrefs|-
     obtain⟨b,cR,ty,k1,k2,k3,k4⟩:=aM
     exact⟨b,cR,ty,k1,k2,kj _ _ hrefs k3,k4⟩
    |arr ep ty sz es=>
     simp only[nR]at aM|-
     obtain⟨k1,xs,k2,evs,k3,k4,k5⟩:=aM
     exact⟨k1,xs,k2,evs,k3,k4,D.aI (fun b _ hn=>⟨rfl,hB b hn⟩) _ _ k5⟩
    |ph ep es=>
     simp only[nR]at aM|-
     exact D.aF (fun b _ hn=>⟨rfl,hB b hn⟩) _ _ aM
    |map kt vt es=>
     simp only[nR]at aM|-
     obtain⟨b,es',clock,k1,k2,k4,k3⟩:=aM
     exact⟨b,es',clock,k1,k2,k4,aH.mono (fun b _ hn=>⟨rfl,hB b hn⟩) _ _ k3⟩
    |fq l=>
     simp only[nR]at aM|-
     exact D.aF (fun b _ hn=>⟨rfl,hB b hn⟩) _ _ aM
    |kW l last=>
     simp only[nR]at aM|-
     obtain⟨b,k1,k2⟩:=aM
     exact⟨b,k1,k2.mono (fun b _ hn=>⟨rfl,hB b hn⟩) rfl⟩
    |sY s pos=>
     simp only[nR]at aM|-
     exact aM
    |loop nf n env ps a b st pd=>
     simp only[nR]at aM hrefs|-
     obtain⟨b,r,k1,k2,k3,k4,k5,k6,k7,k8,k9,Hk⟩:=aM
     exact⟨b,r,k1,k2,k3,k4,k5,k6,k7,k8,k9,fun i=>dx _ _ (fun r hr=>hrefs r (V.lx _ _ r hr)) (Hk i)⟩
   ·have e1:H.o id= .row cs:=h3
    have e2:H'.o id= .row cs':=h4
    rw[e1]at aM
    rw[e2,mc id bC]
    obtain⟨b,cR,ty,k1,k2,k3,k4⟩:=aM
    exact⟨b,cR,ty,k1,k2,p7 AP _ _ _ br k3,k4⟩
  ·by_cases BX:c+G.length<=id
   ·have e2:H'.o id= .no:=hh id BX
    rw[e2];trivial
   ·obtain⟨i,rfl⟩:∃i,id=c+i:=⟨id - c,by omega⟩
    obtain⟨g,hg⟩:∃g,G[i]? =some g:=⟨G[i]'(by omega),by simp⟩
    obtain⟨rL,bA⟩:=hG i g hg
    have e2:H'.o (c+i)= .arr 0 g.ty g.sz g.es:=rL
    rw[e2]
    rcases bA with⟨h3,h4,eg⟩|⟨j,ep,hj,h3,kS⟩
    ·rw[h4]
     refine⟨eg,[], ?_,[],by simp,by simp,rfl⟩
     rw[HT i g hg,h3]
     exact World.ownsRow_nil _ _ _ _
    ·have this:aK M φ H w j:=hH.ok j
     unfold aK at this
     have e3:H.o j= .arr ep g.ty g.sz g.es:=kS
     simp only[e3]at this
     obtain⟨k1,xs,k2,evs,k3,k4,k5⟩:=this
     exact⟨k1,xs,by rw[HT i g hg,h3];exact k2,evs,k3,k4,D.aI (fun b _ hn=>⟨rfl,hB b hn⟩) _ _ k5⟩
 ·obtain⟨i',a1,a2,a3⟩:=hold i k h1 h3
  obtain⟨j',b1,b2,b3⟩:=hold j k h2 h4
  have:=hH.apart i' j' k a1 b1 a2 b2
  subst this
  have gv:∀cO,(o' cO).live=true->cO<c->gone cO->False:=fun cO g1 g2 g3=>by
   rw[p6 _ g3 g2]at g1
   cases g1
  rcases a3 with⟨a3,a4⟩|⟨ia,ga,ea,a3,a4,a5,a6⟩<;>rcases b3 with⟨b3,b4⟩|⟨ib,gb,eb,b3,b4,b5,b6⟩
  ·omega
  ·exact(gv i h1 a3 (a4 ▸ b5)).elim
  ·exact(gv j h2 b3 (b4 ▸ a5)).elim
  ·have:=xE ia ib ga gb _ _ _ a4 b4 a6 b6
   omega
 ·have hi:=D2 l 0 he i
  rw[Nat.zero_add]at hi
  exact AP _ _ _ hi (hd i)
 ·have bC:id<c:=by omega
  have hr:(o' id).bM=true:=hr
  exact⟨(mz id bC).1.1 hr,mc id bC⟩
 ·have bC:id<c:=by omega
  have fw:(o' id).ba=some e':=fw
  exact⟨e',(mz id bC).1.2 e' fw,Nat.le_refl _,fun _=>mc id bC⟩
theorem bW.YN (gone:Nat->Prop)(c:Nat){b:Nat}{e:Nat->V}{so:Nat->ae}{m:Nat}(l:List V){o':Nat->ae}(hb:b<=c)
 (ho:∀id,id<c->AU c [] so gone (so id) (o' id)) (hh:∀id,c<=id->o' id= .no) (p6:∀id,gone id->id<c->o' id= .no) (he:nj c [] so gone e l 0):bW b ⟨e,so,m⟩ ⟨bw l,o',c⟩:=
 bW.see gone [] c l rfl hb ho (fun i g h=>by cases h) hh p6 (fun i j gi gj id ep gU h=>by cases h) he
theorem bW.yn (gone:Nat->Prop)(x:V)(c:Nat){ty:TypeId}{sz:Nat}{es:List D}{b:Nat}{e:Nat->V}{so:Nat->ae}{m:Nat}(l:List V){o':Nat->ae}(hb:b<=c)
 (ho:∀id,id<c->AU c [⟨x,ty,sz,es⟩] so gone (so id) (o' id)) (hc:o' c= .arr 0 ty sz es) (hx:yf so gone ty sz es x) (hh:∀id,c+1<=id->o' id= .no) (p6:∀id,gone id->id<c->o' id= .no)
 (he:nj c [⟨x,ty,sz,es⟩] so gone e l 0):bW b ⟨e,so,m⟩ ⟨bw l,o',c+1⟩:=
 bW.see gone [⟨x,ty,sz,es⟩] c l rfl hb ho (fun i g h=>by
  match i,h with
  |0,h=>simp at h;subst h;exact⟨hc,hx⟩) hh p6 (fun i j gi gj id ep gU h h' _ _=>by
  match i,j,h,h' with
  |0,0,_,_=>rfl) he
theorem lt0{P:Nat->Prop}:∀id,id<0->P id:=fun id ax=>by omega
@[go_sem] theorem aaa (b:Bool):(b==false)= !b:=by cases b<;>rfl
@[go_sem] theorem aab (b:Bool):(b==true)=b:=by cases b<;>rfl
@[go_sem] theorem Uo (c:Bool) (v:V):V.xW c (V.xW c v)=V.xW c v:=by cases c<;>rfl
@[go_sem] theorem Up (c:Bool):(c&&c)=c:=by cases c<;>rfl
@[go_sem] theorem QJ {α:Type} (f:α->D) (l:List α) (n:Nat) (h:∀x,(f x).cells.length=n):((l.map f).all fun z=>z.cells.length==n)=true:=by
  simp[List.all_eq_true,h]
attribute [go_sem] implies_true
attribute [go_sem] Option.isSome_none Option.getD_some Option.getD_none
theorem structOf{P:Program}{t:TypeId}(h:(match P.underlying t with|some (.struct _)=>true|_=>false)=true):∃fs,P.underlying t=some (.struct fs):=by
 split at h
 ·exact⟨_,by assumption⟩
 ·cases h
theorem bQ{pr:List (List Nat)}{fp:List (List Nat×List Nat)}(h:fp.all (fun x=>x.2.isEmpty)=true):eB pr fp=true:=by
 have e:∀i,(fp.getD i ([],[])).2=[]:=fun i=>by
  rw[List.getD_eq_getElem?_getD]
  cases hi:fp[i]? with
  |none=>rfl
  |some x=>simpa using List.all_eq_true.1 h x (List.mem_of_getElem? hi)
 simp only[eB,List.all_eq_true,e,kD,List.all_nil,Bool.and_self,Bool.or_true,implies_true]
structure gI (base:Nat) (h o:Nat->ae) (nx:Nat):Prop where
 cW:Good o nx
 le:base<=nx
 eq:∀id,id<base->o id=h id
def Uq(base:Nat)(h:Nat->ae)(v:V)(o:Nat->ae)(nx:Nat)(K:V->(Nat->ae)->Nat->Prop):Prop:=
 ∀o' nx',nx<=nx'->gI base h o' nx'->(∀id,base<=id->id<nx->o' id=o id)->K v o' nx'
def vA(P:Program)(g:FuncId)(args:List V)(base:Nat)(h h2:Nat->ae)(v:V):Prop:=
 ∀o nx,gI base h o nx->∀K X,Uq base h2 v o nx K->dX P g args o nx K X
theorem gI.ak {base:Nat}{h o:Nat->ae}{nx m i:Nat}{x:ae}(hI:gI base h o nx)(hb:base<=i)(hi:i<m)(hm:nx<=m)(hx:x.refs.all (fun r=>decide (r<m))=true):gI base h (YtealblliddhgiaaGreat.ak o i x) m:=
 ⟨(hI.cW.mono hm).ak hi hx,Nat.le_trans hI.le hm,fun id ax=>by rw[ad _ _ _ _ (by omega)];exact hI.eq id ax⟩
theorem gI.mono {base:Nat}{h o:Nat->ae}{nx m:Nat}(hI:gI base h o nx)(hm:nx<=m):gI base h o m:=⟨hI.cW.mono hm,Nat.le_trans hI.le hm,hI.eq⟩
def ext(base:Nat)(h o:Nat->ae):Nat->ae:=fun id=>if id<base then h id else o id
theorem gI.ext {base c:Nat}{h o:Nat->ae}{nx:Nat}(hI:gI base h o nx)(hc:c<=nx)(hb:base<=c):gI c (YtealblliddhgiaaGreat.ext base h o) o nx:=
 ⟨hI.cW,hc,fun id _=>by unfold YtealblliddhgiaaGreat.ext;split<;>first|exact hI.eq id (by assumption)|rfl⟩
theorem vA.ext {P:Program}{g:FuncId}{args:List V}{base c:Nat}{h h2:Nat->ae}{v:V}(hS:vA P g args base h h2 v)(hb:base<=c)(o0:Nat->ae):vA P g args c (YtealblliddhgiaaGreat.ext base h o0) (YtealblliddhgiaaGreat.ext base h2 o0) v:=by
 intro o nx hI K X hK
 refine hS o nx ⟨hI.cW,Nat.le_trans hb hI.le,fun id ax=>by rw[hI.eq id (by omega)];unfold YtealblliddhgiaaGreat.ext;rw[if_pos ax]⟩ K X fun o' nx' h1 h2 h3=>hK o' nx' h1 ⟨h2.cW,Nat.le_trans hI.le h1,fun id ax=> ?_⟩ (fun id h4 h5=>h3 id (by omega) h5)
 unfold YtealblliddhgiaaGreat.ext
 split
 ·exact h2.eq id (by assumption)
 ·rename_i hn
  rw[h3 id (by omega) (by have:=hI.le;omega),hI.eq id ax]
  unfold YtealblliddhgiaaGreat.ext;rw[if_neg hn]
theorem Uq.ext {base c:Nat}{h o:Nat->ae}{v:V}{o1:Nat->ae}{nx yW:Nat}{K:V->(Nat->ae)->Nat->Prop}(hK:Uq base h v o nx K)(hb:base<=c)(hn:nx<=yW)(hc:nx<=c)(ho:∀id,base<=id->id<nx->o1 id=o id):Uq c (YtealblliddhgiaaGreat.ext base h o1) v o1 yW K:=by
 intro o' nx' h1 h2 h3
 refine hK o' nx' (by omega) ⟨h2.cW,Nat.le_trans hb h2.le,fun id ax=> ?_⟩ fun id h4 h5=> ?_
 ·rw[h2.eq id (by omega)];unfold YtealblliddhgiaaGreat.ext;rw[if_pos ax]
 ·rw[h2.eq id (by omega), <- ho id h4 h5];unfold YtealblliddhgiaaGreat.ext;rw[if_neg (by omega)]
def aL{α σ:Type}(step:σ->α->σ×Bool)(s:σ):List α->σ×Bool
 |[]=>(s,true)
 |x::l=>if(step s x).2=true then aL step (step s x).1 l else((step s x).1,false)
theorem AV{P:Program}{id:Nat}{args:List V}{e:Nat->V}{o:Nat->ae}{nx:Nat}{K X:V->(Nat->ae)->Nat->Prop}(h:dJ P id args o nx K X):wE P id K X ⟨e,o,nx⟩ args:=by unfold wE;exact h
theorem yo{α:Type}(f:Nat->α)(i:Nat)(x y:α):ak (ak f i x) i y=ak f i y:=by
 funext j;simp only[ak];split<;>rfl
attribute [go_sem] Int.cast_ofNat_Int
section
variable {P:Program}{n:Nat}{ps:List Nat}{x y:IC}{env:List V}{L:LoopState->Option kR->ae}
def jP(P:Program)(n:Nat)(env:List V)(ps:List Nat)(x y:IC)(L:LoopState->Option kR->ae):Prop:=∀st pd,L st pd= .loop P.funcs.size n env ps x y st pd
theorem Pc{Q:fy->S->Prop}{e:Nat->V}{o:Nat->ae}{nx:Nat}{f:FuncId}{cap:List V}(env:List V)(he:oj e env 0)
 (h:∀L,jP P n env ps x y L->dX P f (.kV nx::cap) (ak o nx (L .ready none)) (nx+1)
  (fun _ o' nx'=>∃st pd,o' nx=L st pd/\st≠ .busy/\vu Q pd ⟨e,ak o' nx (L .exhausted pd),nx'⟩) (fun v o' nx'=>Q (.bG v) ⟨e,o',nx'⟩)):
 Cz P n false ps x y Q ⟨e,o,nx⟩ (.func (.func f) [] cap):=by
 refine Fz env he ?_
 have:=h (fun st pd=> .loop P.funcs.size n env ps x y st pd) (fun _ _=>rfl)
 refine this.mono (fun v o' nx' hh=> ?_) (fun v o' nx' hh=>hh)
 obtain⟨st,pd,h1,h2,h3⟩:=hh
 exact⟨_,_,_,_,_,_,_,_,h1,h2,h3⟩
theorem HU(hL:jP P n env ps x y L)(bc:P.follows .mixedOrders=true){id:Nat}{args:List V}{o:Nat->ae}{nx:Nat}{K X:V->(Nat->ae)->Nat->Prop}{st:LoopState}{pd:Option kR}
 (ho:o id=L st pd) (bC:id<nx) (J0:ps.all (fun t=>decide (t<n))=true) (hl:args.length=ps.length)
 (h:kq P n nx true x (um P n nx id y K X) ⟨ss (bw env) ps args,o,nx⟩):dJ P id args o nx K X:=
 dJ.aZ bc (ho.trans (hL st pd)) bC J0 hl h
theorem ur(hL:jP P n env ps x y L){b id:Nat}{fO:IC}{K X:V->(Nat->ae)->Nat->Prop}{e:Nat->V}{o:Nat->ae}{nx:Nat}{pd:Option kR}(h:o id=L .ready pd)
 (h2:kq P n b true fO (ma id K X) ⟨e,ak o id (L .busy pd),nx⟩):um P n b id fO K X .normal ⟨e,o,nx⟩:=by
 refine yh (h.trans (hL _ _)) ?_
 rw[<- hL];exact h2
theorem FA(hL:jP P n env ps x y L){id:Nat}{K X:V->(Nat->ae)->Nat->Prop}{e:Nat->V}{o:Nat->ae}{nx:Nat}{st:LoopState}{pd:Option kR}(h:o id=L st pd)(k:K (.d (.bool true)) (ak o id (L .ready none)) nx):ma id K X .normal ⟨e,o,nx⟩:=
 ⟨_,_,_,_,_,_,_,_,h.trans (hL _ _),by rw[<- hL];exact k⟩
theorem CN(hL:jP P n env ps x y L){id:Nat}{K X:V->(Nat->ae)->Nat->Prop}{e:Nat->V}{o:Nat->ae}{nx:Nat}{st:LoopState}{pd:Option kR}(h:o id=L st pd)(k:K (.d (.bool false)) (ak o id (L .done (some .ret))) nx):ma id K X .ret ⟨e,o,nx⟩:=
 ⟨_,_,_,_,_,_,_,_,h.trans (hL _ _),by rw[<- hL];exact k⟩
theorem AW(hL:jP P n env ps x y L){id j:Nat}{K X:V->(Nat->ae)->Nat->Prop}{e:Nat->V}{o:Nat->ae}{nx:Nat}{st:LoopState}{pd:Option kR}(h:o id=L st pd)(k:K (.d (.bool false)) (ak o id (L .done (some (.exit j)))) nx):ma id K X (.exit j) ⟨e,o,nx⟩:=
 ⟨_,_,_,_,_,_,_,_,h.trans (hL _ _),by rw[<- hL];exact k⟩
theorem jP.no (hL:jP P n env ps x y L)(st:LoopState)(pd:Option kR):L st pd≠ .no:=by rw[hL];exact ae.noConfusion
theorem jP.refs (hL:jP P n env ps x y L)(st:LoopState)(pd:Option kR):(L st pd).refs=V.ag env:=by rw[hL];rfl
end
theorem wS{B:Nat->Prop}{φ:Place}{H:Hp}{w:World}:∀ (ds:List D) (vs:List Value),V.aE B φ H w (ds.map .d) vs->D.aE B w ds vs
 |[],_,h=>h
 |d::ds,_,h=>by
  obtain⟨u,us,rfl,h1,h2⟩:=h
  exact⟨u,us,rfl,h1,wS ds us h2⟩
theorem dX.CO {P:Program}{g:FuncId}{ds rs:List D}{o:Nat->ae}{nx:Nat}{K X:V->(Nat->ae)->Nat->Prop}(h:bJ P g ds (.ret rs))(hK:K (gS rs) o nx):dX P g (ds.map .d) o nx K X:=by
 refine⟨h.1,fun M φ w vals hH hd=> ?_⟩
 have hM:∀b,ao M φ (hp o nx) b->b<w.heap.size:=fun b hb=>hb.elim (hH.u5 b) fun hl=>(hH.ours b hl).2
 refine(h.2 (ao M φ (hp o nx)) w vals hM (wS ds _ hd)).mono fun e w' ⟨hk,ho⟩=> ?_
 obtain⟨k1,k2⟩:=fh hH hk
 cases e with
 |returned val=>exact⟨φ,o,nx,gS rs,k1,k2,jF ho,hK⟩
 |panicked ch=>cases rs with|nil=>exact ho.elim|cons x l=>cases l<;>exact ho.elim
 |outgrown=>cases rs with|nil=>exact ho.elim|cons x l=>cases l<;>exact ho.elim
theorem vA.CO {P:Program}{g:FuncId}{ds rs:List D}(h:bJ P g ds (.ret rs))(base:Nat)(hh:Nat->ae):vA P g (ds.map .d) base hh hh (gS rs):=
 fun o nx hI K X hK=>dX.CO h (hK o nx (Nat.le_refl _) hI fun _ _ _=>rfl)
end Go.Proofs.YtealblliddhgiaaGreat
namespace Go.Proofs.YtealblliddhgiaaGreat
attribute [go_sem_proc] Int.reduceBEq Int.reduceBNe Int.reduceLT Int.reduceLE Int.reduceEq Int.reduceNe Nat.reducePow Nat.reduceEqDiff Nat.reduceAdd Nat.reduceSub Nat.reduceMul Nat.reduceLeDiff Nat.reduceBEq Nat.reduceLT reduceIte reduceCtorEq Int.reduceToNat
attribute [go_sem] List.range_zero Option.isSome_some and_self List.cons.injEq
theorem qP(n low high:Int):bJ Tryz.prog 55 [.i n, .i low, .i high] (.ret [.bool (eX n low high)]):=by
 refine bJ.aZ mix SX (by simp) ?_
 rw[X5]
 simp+contextual only[go_sem]
 rfl
theorem HV{t:Tm}{left depth:Int}(h:left<1\/depth<1):iL t left depth= -1:=by cases t;simp[iL,h]
theorem oR{l:List Tm}{left depth:Int}(h:left<0):cw l left depth=left:=by
 cases l with
 |nil=>rfl
 |cons k l=>simp[cw,show ¬ (0<=left) by omega]
theorem HW:∀t:Tm,∀left depth:Int, -1<=iL t left depth/\(1<=left->iL t left depth<=left - 1)/\(left<1->iL t left depth= -1):=by
 refine Tm.ind fun op n kids ih left depth=> ?_
 have hs:∀ (l:List Tm) (left d:Int),(∀k∈l,k∈kids)-> -1<=left-> -1<=cw l left d/\cw l left d<=left:=by
  intro l
  induction l with
  |nil=>intro left d _ h;simp[cw,h]
  |cons k l AX=>
   intro left d hk h
   simp only[cw]
   split
   ·rename_i h0
    have h1:=ih k (hk k (by simp)) left d
    have h2:=AX (iL k left d) d (fun x hx=>hk x (by simp[hx])) h1.1
    by_cases hl:1<=left
    ·have:=h1.2.1 hl;omega
    ·have:=h1.2.2 (by omega);omega
   ·omega
 simp only[iL]
 split
 ·rename_i h;refine⟨by omega,fun h1=> ?_,fun _=>rfl⟩;omega
 ·rename_i h
  have:=hs kids (left - 1) (depth - 1) (fun _ h=>h) (by omega)
  exact⟨this.1,fun _=>this.2,fun h=>by omega⟩
theorem FB(l:List Tm)(left d:Int)(h: -1<=left): -1<=cw l left d/\cw l left d<=left:=by
 induction l generalizing left with
 |nil=>simp[cw,h]
 |cons k l AX=>
  simp only[cw]
  split
  ·have h1:=HW k left d
   have h2:=AX (iL k left d) h1.1
   by_cases hl:1<=left
   ·have:=h1.2.1 hl;omega
   ·have:=h1.2.2 (by omega);omega
  ·omega
theorem oq(a b:List Tm)(left d:Int):cw (a++b) left d=cw b (cw a left d) d:=by
 induction a generalizing left with
 |nil=>rfl
 |cons k a ih=>
  simp only[List.cons_append,cw]
  split
  ·exact ih _
  ·rename_i h;rw[oR (by omega)]
theorem AY{l:List Tm}{i:Nat}{k:Tm}(hi:l[i]? =some k)(left d:Int)(h:0<=cw (l.take i) left d):cw (l.take (i+1)) left d=iL k (cw (l.take i) left d) d:=by
 rw[List.take_add_one,hi,oq]
 simp[cw,h]
theorem AZ{l:List Tm}{i:Nat}(left d:Int)(h:cw (l.take i) left d<0):cw l left d=cw (l.take i) left d:=by
 conv=>lhs;rw[<- List.take_append_drop i l]
 rw[oq,oR h]
@[reducible] def nk (cs:List V):Nat->ae:=ak (fun _=> .no) 0 (.row cs)
@[reducible] def CP (cs ds:List V):Nat->ae:=ak (ak (fun _=> .no) 0 (.row cs)) 1 (.row ds)
theorem bN{cs:List V}(h:(ae.row cs).refs.all (fun r=>decide (r<1))=true):Good (nk cs) 1:=(Good.nil (nx:=1)).ak (by omega) h
theorem ku{cs ds:List V}(h:(ae.row cs).refs.all (fun r=>decide (r<2))=true)(h2:(ae.row ds).refs.all (fun r=>decide (r<2))=true):Good (CP cs ds) 2:=((Good.nil (nx:=2)).ak (by omega) h).ak (by omega) h2
theorem bW.d1 {e:Nat->V}{so o:Nat->ae}{m:Nat}(l:List V)(hg:Good o 1)(hm:1<=m)(h0:so 0=o 0)(he:fG 1 e l 0):bW 0 ⟨e,so,m⟩ ⟨bw l,o,1⟩:=
 bW.bE l (Nat.zero_le _) hm hg (fun id h=>by obtain rfl:id=0:=by omega
                                             exact h0) he
theorem bW.d2 {e:Nat->V}{so o:Nat->ae}{m:Nat}(l:List V)(hg:Good o 2)(hm:2<=m)(h0:so 0=o 0)(h1:so 1=o 1)(he:fG 2 e l 0):bW 0 ⟨e,so,m⟩ ⟨bw l,o,2⟩:=
 bW.bE l (Nat.zero_le _) hm hg (fun id h=>by
  rcases(by omega:id=0\/id=1)with rfl|rfl
  ·exact h0
  ·exact h1) he
@[reducible] def Tm.row (t:Tm):List V:=[.d (.i t.op), .d (.i t.n), .d (.sl (t.kids.map Tm.d))]
theorem A0(t:Tm)(left depth:Int):iL t left depth=if left<1\/depth<1 then -1 else cw t.kids (left - 1) (depth - 1):=by cases t;simp[iL,Tm.kids]
theorem D3:∀t:Tm,t.fits->∀left depth:Int, -1<=left/\left<=1000000-> -1<=depth/\depth<=1000000->bJ Tryz.prog 58 [t.d, .i left, .i depth] (.ret [.i (iL t left depth)]):=by
 refine Tm.eO fun t ih hf left depth hl hd=> ?_
 have vQ:=(Tm.bR _).1 hf
 refine bJ.aZ mix SY (by simp) ?_
 rw[X8]
 simp+contextual only[go_sem]
 refine ay (fun h1=> ?_) (fun h1=> ?_)
 ·simp+contextual only[go_sem]
  simp at h1
  rw[HV h1]
 ·simp at h1
  simp+contextual only[go_sem]
  rw[wrap64 (n:=left - 1) (by omega) (by omega),A0,if_neg (by omega)]
  refine aW (fun k:Nat=>⟨bw [.ab, .d (.i (cw (t.kids.take k) (left - 1) (depth - 1))), .d (.i depth), .ptr 0 0, .ab, .ab, .ab, .d (.i k)],nk t.row,1⟩)
   (fun k=>k<=t.kids.length) (fun k=>t.kids.length - k) 0 (Nat.zero_le _) (bW.d1 _ (bN rfl) (by omega) rfl ?_) (fun k hk=> ?_)
  ·(repeat(first|exact aq|refine ai ?_|refine ah rfl ?_|refine ah (aQ (aP (by omega))) ?_|refine aA rfl (by simp[V.refs,V.ag]<;>first|omega|assumption) ?_))
  have hb:=FB (t.kids.take k) (left - 1) (depth - 1) (by omega)
  simp+contextual only[go_sem]
  refine ay (fun h2=> ?_) (fun h2=> ?_)
  ·simp at h2
   obtain⟨x,hx⟩:∃x,t.kids[k]? =some x:=⟨t.kids[k],by simp[h2.1]⟩
   have kx:=List.mem_of_getElem? hx
   simp+contextual only[go_sem,hx]
   rw[wrap64 (n:=depth - 1) (by omega) (by omega)]
   refine aw (ih x kx (vQ.2 x kx) _ _ (by omega) (by omega)) rfl ?_
   simp+contextual only[go_sem]
   rw[<- AY hx _ _ h2.2]
   refine aB (k+1) h2.1 (by omega) (bW.d1 _ (bN rfl) (by omega) rfl ?_)
   (repeat(first|exact aq|refine ai ?_|refine ah rfl ?_|refine ah (aQ (aP (by omega))) ?_|refine aA rfl (by simp[V.refs,V.ag]<;>first|omega|assumption) ?_))
  ·simp+contextual only[go_sem]
   simp only[Bool.and_eq_false_iff,decide_eq_false_iff_not]at h2
   congr 3
   rcases h2 with h2|h2
   ·rw[List.take_of_length_le (by omega)]
   ·exact AZ _ _ (by omega)
theorem Pf(s:List UInt8)(hs:s.length<=9223372036854775807):bJ Tryz.prog 116 [.str s] (.ret [.bool (jL s)]):=by
 refine bJ.aZ mix MA (by simp) ?_
 rw[OX]
 simp+contextual only[go_sem]
 refine aW (fun k:Nat=>⟨bw [.d (.str s), .ab, .ab, .d (.i k)],fun _=> .no,0⟩)
  (fun k=>k<=s.length/\(s.take k).all letterF=true) (fun k=>s.length - k) 0 ⟨Nat.zero_le _,by simp⟩ (bW.d0 _ ?_) (fun k hk=> ?_)
 ·(repeat(first|exact aq|refine ai ?_|refine ah rfl ?_|refine ah (aQ (aP (by omega))) ?_|refine aA rfl (by simp[V.refs,V.ag]<;>first|omega|assumption) ?_))
 simp+contextual only[go_sem]
 refine ay (fun h2=> ?_) (fun h2=> ?_)
 ·simp at h2
  obtain⟨x,hx⟩:∃x,s[k]? =some x:=⟨s[k],by simp[h2]⟩
  simp+contextual only[go_sem,hx]
  refine ay (fun h3=> ?_) (fun h3=> ?_)
  ·simp+contextual only[go_sem]
   have:jL s=false:=by
    have:s.all letterF=false:=by
     rw[List.all_eq_false]
     refine⟨x,List.mem_of_getElem? hx, ?_⟩
     simp only[letterF,h3];simp
    simp[jL,this]
   rw[this]
  ·simp+contextual only[go_sem]
   refine aB (k+1) ⟨h2, ?_⟩ (by omega) (bW.d0 _ ?_)
   ·rw[List.take_add_one,hx,List.all_append,hk.2]
    simp[letterF,h3]
   ·(repeat(first|exact aq|refine ai ?_|refine ah rfl ?_|refine ah (aQ (aP (by omega))) ?_|refine aA rfl (by simp[V.refs,V.ag]<;>first|omega|assumption) ?_))
 ·simp+contextual only[go_sem]
  refine aw (qP _ _ _) rfl ?_
  simp+contextual only[go_sem]
  simp at h2
  have:=hk.2
  rw[List.take_of_length_le (by omega)]at this
  simp[jL,this]
theorem D4(l:List pb)(bs:List (List UInt8))(hl:l.length<=1000)(hb:bs.length<=1000)(hs:∀x∈l,x.name.length<=9223372036854775807):
 bJ Tryz.prog 83 [.sl (l.map pb.d), .sl (bs.map .str)] (.ret [.sl (((cu l bs).getD []).map .str), .bool (cu l bs).isSome]):=by
 refine bJ.aZ mix Te (by simp) ?_
 rw[Yx]
 simp+contextual only[go_sem]
 refine aW (fun k:Nat=>⟨bw [.d (.sl (l.map pb.d)), .d (.sl ((bs++(l.take k).map (·.name)).map .str)), .ab, .ab, .ab, .ab, .d (.i k)],fun _=> .no,0⟩)
  (fun k=>k<=l.length/\cu l bs=cu (l.drop k) (bs++(l.take k).map (·.name))) (fun k=>l.length - k) 0 ⟨Nat.zero_le _,by simp⟩ (bW.d0 _ ?_) (fun k hk=> ?_)
 ·simp only[List.take_zero,List.map_nil,List.append_nil]
  (repeat(first|exact aq|refine ai ?_|refine ah rfl ?_|refine ah (aQ (aP (by omega))) ?_|refine aA rfl (by simp[V.refs,V.ag]<;>first|omega|assumption) ?_))
 simp+contextual only[go_sem]
 refine ay (fun h2=> ?_) (fun h2=> ?_)
 ·simp at h2
  obtain⟨x,hx⟩:∃x,l[k]? =some x:=⟨l[k],by simp[h2]⟩
  have kx:=List.mem_of_getElem? hx
  have Ac:l.drop k=x::l.drop (k+1):=by
   rw[List.drop_eq_getElem_cons h2]
   rw[List.getElem?_eq_getElem h2]at hx;injection hx with hx;rw[hx]
  generalize hB:bs++(l.take k).map (·.name)=B at*
  have hBl:B.length<=2000:=by rw[<- hB];simp;omega
  simp+contextual only[go_sem]
  refine aW (fun j:Nat=>⟨bw [.d (.sl (l.map pb.d)), .d (.sl (B.map .str)), .ab, .ab, .ab, .ab, .d (.i k), .d (.i j)],fun _=> .no,0⟩)
   (fun j=>j<=B.length/\(B.take j).any (· ==x.name)=false) (fun j=>B.length - j) 0 ⟨Nat.zero_le _,by simp⟩ (bW.d0 _ ?_) (fun j hj=> ?_)
  ·(repeat(first|exact aq|refine ai ?_|refine ah rfl ?_|refine ah (aQ (aP (by omega))) ?_|refine aA rfl (by simp[V.refs,V.ag]<;>first|omega|assumption) ?_))
  simp+contextual only[go_sem]
  refine ay (fun h3=> ?_) (fun h3=> ?_)
  ·simp at h3
   obtain⟨y,hy⟩:∃y,B[j]? =some y:=⟨B[j],by simp[h3]⟩
   simp+contextual only[go_sem,hx,hy]
   refine aR (by decide) ?_
   simp+contextual only[go_sem]
   refine ay (fun h4=> ?_) (fun h4=> ?_)
   ·simp+contextual only[go_sem]
    have:cu l bs=none:=by
     rw[hk.2,Ac,cu,if_pos]
     rw[List.any_eq_true]
     exact⟨y,List.mem_of_getElem? hy,h4⟩
    rw[this];rfl
   ·simp+contextual only[go_sem]
    refine aB (j+1) ⟨h3, ?_⟩ (by omega) (bW.d0 _ ?_)
    ·rw[List.take_add_one,hy,List.any_append,hj.2]
     simp only[Option.toList_some,List.any_cons,h4,List.any_nil,Bool.or_false]
    ·(repeat(first|exact aq|refine ai ?_|refine ah rfl ?_|refine ah (aQ (aP (by omega))) ?_|refine aA rfl (by simp[V.refs,V.ag]<;>first|omega|assumption) ?_))
  ·simp at h3
   have Pg:=hj.2
   rw[List.take_of_length_le (by omega)]at Pg
   simp+contextual only[go_sem,hx]
   refine aw (Pf x.name (hs x kx)) rfl ?_
   simp+contextual only[go_sem,hx]
   refine eU (dR [.bool (eX x.args 0 4)] ?_ ?_)
   ·simp+contextual only[go_sem]
    exact fun _=>qP _ _ _
   simp+contextual only[go_sem]
   refine ay (fun h4=> ?_) (fun h4=> ?_)
   ·simp+contextual only[go_sem]
    have:cu l bs=none:=by
     rw[hk.2,Ac,cu,if_neg (by rw[Pg];exact Bool.false_ne_true),if_pos h4]
    rw[this];rfl
   ·have e1:B.length<=140737488355328:=by omega
    have e2:B.length*16<=140737488355328:=by omega
    have e3:B.length<=140737488355327:=by omega
    have e4:(B.length+1)*16<=140737488355328:=by omega
    simp+contextual only[go_sem,hx,e1,e2,e3,e4]
    refine aR (by decide) ?_
    simp+contextual only[go_sem]
    have hn:cu l bs=cu (l.drop (k+1)) (bs++(l.take (k+1)).map (·.name)):=by
     rw[hk.2,Ac,cu,if_neg (by rw[Pg];exact Bool.false_ne_true),if_neg (by rw[h4];exact Bool.false_ne_true), <- hB,List.take_add_one,hx]
     simp
    refine aB (k+1) ⟨h2,hn⟩ (by omega) (bW.YN (fun _=>True) 0 _ (Nat.le_refl _) lt0 (fun _ _=>rfl) (fun _ _ _=>rfl) ?_)
    have Vw:(bs++(l.take (k+1)).map (·.name)).map D.str=B.map D.str++[D.str x.name]:=by
     rw[<- hB,List.take_add_one,hx];simp
    rw[Vw]
    (repeat(first|exact gH|refine fl ?_|refine eG rfl ?_|refine eG (aQ (aP (by omega))) ?_|refine mf 0 rfl rfl rfl ?_|refine me rfl (by simp[V.refs,V.ag]<;>first|omega|assumption) ?_|refine mg rfl (by simp[V.ids]<;>omega) ?_))
 ·simp+contextual only[go_sem]
  simp at h2
  have:cu l bs=some (bs++l.map (·.name)):=by
   rw[hk.2,List.drop_eq_nil_of_le (by omega),cu,List.take_of_length_le (by omega)]
  rw[this,List.take_of_length_le (by omega)]
  rfl
theorem Ph(a b:List UInt8)(m n:Int):qm Tryz.prog 100 103 (.agg [.str a, .i m]) (.agg [.str b, .i n])=some (a==b&&m==n):=by
 have h1:bg Tryz.prog 103=some (.struct [(9,0),(3,1)]):=by kernel_rfl
 have h2:bg Tryz.prog 9=some .str:=by kernel_rfl
 have h3:bg Tryz.prog 3=some .int:=by kernel_rfl
 have h4:cj Tryz.prog 9=some false:=by kernel_rfl
 have h5:cj Tryz.prog 3=some false:=by kernel_rfl
 simp[qm,h1,h2,h3,h4,h5,zd,Ng,jz,Gm]
@[go_sem] theorem YO (o:Nat->ae) (oB:Bool) (a b:List UInt8) (m n:Int):BQ Tryz.prog o 103 oB (.d (.agg [.str a, .i m])) (.d (.agg [.str b, .i n]))=some (.d (.bool (a==b&&m==n))):=by
  obtain⟨fs,h⟩:∃fs,Tryz.prog.underlying 103=some (.struct fs):=structOf (by kernel_rfl)
  have h2:Tryz.prog.eqGuardType Tryz.prog.depth 103=false:=by kernel_rfl
  unfold BQ
  rw[h]
  dsimp only
  rw[if_pos h2,Ph]
  rfl
theorem FC{l:List pb}{bs B:List (List UInt8)}(h:cu l bs=some B):B=bs++l.map (·.name):=by
 induction l generalizing bs with
 |nil=>simp[cu]at h;simp[h]
 |cons x l ih=>
  simp only[cu]at h
  split at h
  ·cases h
  ·split at h
   ·cases h
   ·rw[ih h];simp
structure aO.Fits (s:aO):Prop where
 lc:s.cons.length<=9223372036854775807
 lf:s.dK.length<=9223372036854775807
 nc:∀x∈s.cons,x.name.length<=9223372036854775807
 nf:∀x∈s.dK,x.name.length<=9223372036854775807
theorem Ur(s:aO)(hs:s.Fits):bJ Tryz.prog 42 [s.d] (.ret [.bool (nT s)]):=by
 refine bJ.aZ mix SP (by simp) ?_
 rw[XR]
 simp+contextual only[go_sem]
 refine aw (qP _ _ _) rfl ?_
 simp+contextual only[go_sem]
 cases h1:(!eX s.cons.length 2 12||decide (8<(s.dK.length:Int)))with
 |true=>
  simp+contextual only[go_sem,h1]
  simp only[nT,h1,if_true]
 |false=>
  simp[eX]at h1
  obtain⟨a,b,r,hc⟩:∃a b r,s.cons=a::b::r:=by
   match h:s.cons with
   |[]=>rw[h]at h1;simp at h1
   |[a]=>rw[h]at h1;simp at h1
   |a::b::r=>exact⟨a,b,r,rfl⟩
  have nI:(!eX s.cons.length 2 12||decide (8<(s.dK.length:Int)))=false:=by simp[eX];omega
  simp+contextual only[go_sem,nI,hc]
  have FE:nT s=if(!mA a fB|| !mA b tB)=true then false else match cu s.cons []with
   |none=>false
   |some l=>(cu s.dK l).isSome:=by
   unfold nT
   rw[if_neg (by rw[nI];exact Bool.false_ne_true),hc]
   dsimp only
   rfl
  refine ay (fun h2=> ?_) (fun h2=> ?_)
  ·simp+contextual only[go_sem]
   have u6:(!mA a fB|| !mA b tB)=true:=h2
   rw[FE,if_pos u6]
  ·simp+contextual only[go_sem,hc]
   have hl:(a::b::r).length<=1000:=by rw[<- hc];omega
   have Vv:=D4 (a::b::r) [] hl (by simp) (by rw[<- hc];exact hs.nc)
   simp only[List.map_cons,List.map_nil]at Vv
   refine aU Vv ?_
   have u6:(!mA a fB|| !mA b tB)=false:=h2
   rw[FE,if_neg (by rw[u6];exact Bool.false_ne_true),hc]
   cases hn:cu (a::b::r) []with
   |none=>simp+contextual only[go_sem,hn]
   |some B=>
    simp+contextual only[go_sem,hn]
    have hB:B.length<=1000:=by
     have:=FC hn
     rw[this];simp at hl|-;omega
    have YP:=D4 s.dK B (by omega) hB hs.nf
    refine aU YP ?_
    simp+contextual only[go_sem]
end Go.Proofs.YtealblliddhgiaaGreat
namespace Go.Proofs.YtealblliddhgiaaGreat
theorem iu{l:List pb}{n:Int}{x:pb}(h:l[n.toNat]? =some x):jM l n=x.args:=by simp[jM,h]
theorem nM{l:List pb}{n:Int}(h:eX n 0 (l.length - 1)=true):0<=n/\∃x,l[n.toNat]? =some x:=by
 simp[eX]at h
 exact⟨h.1,l[n.toNat]'(by omega),by simp⟩
theorem Pj(s:aO)(t:Tm)(hs:s.Fits)(ht:t.kids.length<=9223372036854775807):bJ Tryz.prog 97 [s.d,t.d] (.ret [.bool (bu s t)]):=by
 refine bJ.aZ mix Tl (by simp) ?_
 rw[YK]
 simp+contextual only[go_sem]
 rcases(by omega:t.op=1\/t.op=2\/t.op=3\/t.op=4\/t.op=5\/t.op=8\/(t.op=6\/t.op=7\/t.op=9\/t.op=10\/t.op=11\/t.op=12\/t.op=13\/t.op=14\/t.op=15)\/(t.op<1\/15<t.op))with h|h|h|h|h|h|h|h
 ·have hn:bu s t=((t.kids.length:Int)==0&&eX t.n 0 19):=by simp[bu,h]
  simp+contextual only[go_sem,h]
  refine eU (dR [.bool (eX t.n 0 19)] ?_ ?_)
  ·simp+contextual only[go_sem]
   exact fun _=>qP _ _ _
  simp+contextual only[go_sem,h]
  rw[hn]
 ·have hn:bu s t=((t.kids.length:Int)==0&&eX t.n (-1000000) 1000000):=by simp[bu,h]
  simp+contextual only[go_sem,h]
  refine eU (dR [.bool (eX t.n (-1000000) 1000000)] ?_ ?_)
  ·simp+contextual only[go_sem]
   exact fun _=>qP _ _ _
  simp+contextual only[go_sem,h]
  rw[hn]
 ·have hn:bu s t=(eX t.n 0 (s.cons.length - 1)&&(t.kids.length:Int)==jM s.cons t.n):=by simp[bu,h]
  simp+contextual only[go_sem,h]
  rw[wrap64 (by have:=hs.lc;omega) (by have:=hs.lc;omega)]
  refine aw (qP _ _ _) rfl ?_
  cases hI:eX t.n 0 (s.cons.length - 1)with
  |false=>
   simp+contextual only[go_sem,h,hI]
   rw[hn,hI];rfl
  |true=>
   obtain⟨h0,x,hx⟩:=nM hI
   simp+contextual only[go_sem,h,hI,hx,h0]
   rw[hn,hI,iu hx];rfl
 ·have hn:bu s t=(eX t.n 0 (s.dK.length - 1)&&(t.kids.length:Int)==jM s.dK t.n):=by simp[bu,h]
  simp+contextual only[go_sem,h]
  rw[wrap64 (by have:=hs.lf;omega) (by have:=hs.lf;omega)]
  refine aw (qP _ _ _) rfl ?_
  cases hI:eX t.n 0 (s.dK.length - 1)with
  |false=>
   simp+contextual only[go_sem,h,hI]
   rw[hn,hI];rfl
  |true=>
   obtain⟨h0,x,hx⟩:=nM hI
   simp+contextual only[go_sem,h,hI,hx,h0]
   rw[hn,hI,iu hx];rfl
 ·have hn:bu s t=(eX t.n 0 (s.dK.length - 1)&&decide ((t.kids.length:Int)<jM s.dK t.n)):=by simp[bu,h]
  simp+contextual only[go_sem,h]
  rw[wrap64 (by have:=hs.lf;omega) (by have:=hs.lf;omega)]
  refine aw (qP _ _ _) rfl ?_
  cases hI:eX t.n 0 (s.dK.length - 1)with
  |false=>
   simp+contextual only[go_sem,h,hI]
   rw[hn,hI];rfl
  |true=>
   obtain⟨h0,x,hx⟩:=nM hI
   simp+contextual only[go_sem,h,hI,hx,h0]
   rw[hn,hI,iu hx];rfl
 ·have hn:bu s t=((t.kids.length:Int)==2&&eX t.n 0 19):=by simp[bu,h]
  simp+contextual only[go_sem,h]
  refine eU (dR [.bool (eX t.n 0 19)] ?_ ?_)
  ·simp+contextual only[go_sem]
   exact fun _=>qP _ _ _
  simp+contextual only[go_sem,h]
  rw[hn]
 ·have hn:bu s t=((t.kids.length:Int)==2&&t.n==0):=by
   rcases h with h|h|h|h|h|h|h|h|h<;>simp[bu,h,eX]
  rw[hn]
  rcases h with h|h|h|h|h|h|h|h|h<;>simp+contextual only[go_sem,h]
 ·have hn:bu s t=false:=by
   simp[bu,eX,show ¬ (t.op=1) by omega,show ¬ (t.op=2) by omega,show ¬ (t.op=3) by omega,show ¬ (t.op=4) by omega,show ¬ (t.op=5) by omega,show ¬ (t.op=8) by omega,show ¬ (6<=t.op/\t.op<=15) by omega]
  have e:∀k:Int,1<=k->k<=15->(t.op==k)=false:=fun k h1 h2=>by simp;omega
  simp+contextual only[go_sem,e 1 (by omega) (by omega),e 2 (by omega) (by omega),e 3 (by omega) (by omega),e 4 (by omega) (by omega),e 5 (by omega) (by omega),e 6 (by omega) (by omega),e 7 (by omega) (by omega),e 8 (by omega) (by omega),e 9 (by omega) (by omega),e 10 (by omega) (by omega),e 11 (by omega) (by omega),e 12 (by omega) (by omega),e 13 (by omega) (by omega),e 14 (by omega) (by omega),e 15 (by omega) (by omega)]
  rw[hn]
theorem lC(s:aO)(t:Tm):im s t=(bu s t&&t.kids.all (im s)):=by
 have:∀l:List Tm,sI s l=l.all (im s):=fun l=>by
  induction l with
  |nil=>rfl
  |cons k l ih=>simp[sI,ih]
 cases t;simp[im,this,Tm.kids]
theorem iO{α:Type}{l:List α}{p:α->Bool}{k:Nat}{x:α}(hx:l[k]? =some x)(h:p x=false):l.all p=false:=by
 rw[List.all_eq_false];exact⟨x,List.mem_of_getElem? hx,by rw[h];exact Bool.false_ne_true⟩
theorem jQ{α:Type}{l:List α}{p:α->Bool}{k:Nat}{x:α}(hx:l[k]? =some x)(h0:(l.take k).all p=true)(h:p x=true):(l.take (k+1)).all p=true:=by
 rw[List.take_add_one,hx,List.all_append,h0];simp[h]
theorem jR{α:Type}{l:List α}{p:α->Bool}{k:Nat}(h0:(l.take k).all p=true)(h:l.length<=k):l.all p=true:=by
 rwa [List.take_of_length_le h]at h0
theorem aX{α:Type}{l:List α}{k:Nat}(h:k<l.length):∃x,l[k]? =some x:=⟨l[k],by simp[h]⟩
@[reducible] def aO.row (s:aO):List V:=[.d (.sl (s.cons.map pb.d)), .d (.sl (s.dK.map pb.d))]
theorem Km(s:aO)(hs:s.Fits):∀t:Tm,t.fits->bJ Tryz.prog 59 [s.d,t.d] (.ret [.bool (im s t)]):=by
 refine Tm.eO fun t ih hf=> ?_
 have vQ:=(Tm.bR _).1 hf
 refine bJ.aZ mix SZ (by simp) ?_
 rw[X9]
 simp+contextual only[go_sem]
 refine aw (Pj s t hs vQ.1) rfl ?_
 simp+contextual only[go_sem]
 rw[lC]
 refine ay (fun h1=> ?_) (fun h1=> ?_)
 ·simp+contextual only[go_sem]
  simp at h1;simp[h1]
 ·simp at h1
  rw[h1,Bool.true_and]
  simp+contextual only[go_sem]
  refine aW (fun k:Nat=>⟨bw [.ab, .ab, .ptr 0 0, .ptr 1 0, .ab, .d (.i k)],CP s.row t.row,2⟩)
   (fun k=>k<=t.kids.length/\(t.kids.take k).all (im s)=true) (fun k=>t.kids.length - k) 0 ⟨Nat.zero_le _,by simp⟩ (bW.d2 _ (ku rfl rfl) (by omega) rfl rfl ?_) (fun k hk=> ?_)
  ·(repeat(first|exact aq|refine ai ?_|refine ah rfl ?_|refine ah (aQ (aP (by omega))) ?_|refine aA rfl (by simp[V.refs,V.ag]<;>first|omega|assumption) ?_))
  simp+contextual only[go_sem]
  refine ay (fun h2=> ?_) (fun h2=> ?_)
  ·simp at h2
   obtain⟨x,hx⟩:=aX h2
   have kx:=List.mem_of_getElem? hx
   simp+contextual only[go_sem,hx]
   refine bZ (ih x kx (vQ.2 x kx)) rfl ?_
   simp+contextual only[go_sem]
   refine aR (by decide) ?_
   simp+contextual only[go_sem]
   refine ay (fun h3=> ?_) (fun h3=> ?_)
   ·simp+contextual only[go_sem]
    simp at h3
    rw[iO hx h3]
   ·simp+contextual only[go_sem]
    simp at h3
    refine aB (k+1) ⟨h2,jQ hx hk.2 h3⟩ (by omega) (bW.d2 _ (ku rfl rfl) (by omega) rfl rfl ?_)
    (repeat(first|exact aq|refine ai ?_|refine ah rfl ?_|refine ah (aQ (aP (by omega))) ?_|refine aA rfl (by simp[V.refs,V.ag]<;>first|omega|assumption) ?_))
  ·simp+contextual only[go_sem]
   simp at h2
   rw[jR hk.2 h2]
theorem HX(s:aO)(hs:s.Fits)(t:Tm)(hf:t.fits):bJ Tryz.prog 19 [s.d,t.d] (.ret [.bool (bL s t)]):=by
 refine bJ.aZ mix SF (by simp) ?_
 rw[Xt]
 simp+contextual only[go_sem]
 refine aw (D3 t hf 40 12 (by omega) (by omega)) rfl ?_
 simp+contextual only[go_sem]
 refine eU (dR [.bool (im s t)] ?_ ?_)
 ·simp+contextual only[go_sem]
  exact fun _=>Km s hs t hf
 simp+contextual only[go_sem]
 rfl
theorem qQ(t:Tm):eE t=(t.kids.all eE&&((decide (1<=t.op)&&decide (t.op<=3))||t.op==5)):=by
 have:∀l:List Tm,sJ l=l.all eE:=fun l=>by
  induction l with
  |nil=>rfl
  |cons k l ih=>simp[sJ,ih]
 cases t;simp only[eE,this,Tm.kids,Tm.op];rfl
theorem yp:∀t:Tm,t.fits->bJ Tryz.prog 31 [t.d] (.ret [.bool (eE t)]):=by
 refine Tm.eO fun t ih hf=> ?_
 have vQ:=(Tm.bR _).1 hf
 refine bJ.aZ mix SL (by simp) ?_
 rw[XG,qQ]
 simp+contextual only[go_sem]
 refine aW (fun k:Nat=>⟨bw [.ab, .ptr 0 0, .ab, .d (.i k)],nk t.row,1⟩)
  (fun k=>k<=t.kids.length/\(t.kids.take k).all eE=true) (fun k=>t.kids.length - k) 0 ⟨Nat.zero_le _,by simp⟩ (bW.d1 _ (bN rfl) (by omega) rfl ?_) (fun k hk=> ?_)
 ·(repeat(first|exact aq|refine ai ?_|refine ah rfl ?_|refine ah (aQ (aP (by omega))) ?_|refine aA rfl (by simp[V.refs,V.ag]<;>first|omega|assumption) ?_))
 simp+contextual only[go_sem]
 refine ay (fun h2=> ?_) (fun h2=> ?_)
 ·simp at h2
  obtain⟨x,hx⟩:=aX h2
  have kx:=List.mem_of_getElem? hx
  simp+contextual only[go_sem,hx]
  refine aw (ih x kx (vQ.2 x kx)) rfl ?_
  simp+contextual only[go_sem]
  refine ay (fun h3=> ?_) (fun h3=> ?_)
  ·simp+contextual only[go_sem]
   simp at h3
   rw[iO hx h3];rfl
  ·simp+contextual only[go_sem]
   simp at h3
   refine aB (k+1) ⟨h2,jQ hx hk.2 h3⟩ (by omega) (bW.d1 _ (bN rfl) (by omega) rfl ?_)
   (repeat(first|exact aq|refine ai ?_|refine ah rfl ?_|refine ah (aQ (aP (by omega))) ?_|refine aA rfl (by simp[V.refs,V.ag]<;>first|omega|assumption) ?_))
 ·simp+contextual only[go_sem]
  simp at h2
  rw[jR hk.2 h2];rfl
theorem iw:∀l l':List Tm,l.length=l'.length->(iq l l'=true↔∀ (i:Nat) (x y:Tm),l[i]? =some x->l'[i]? =some y->iM x y=true)
 |[],l',_=>by simp[iq]
 |k::l,k'::l',h=>by
  simp only[iq,Bool.and_eq_true]
  rw[iw l l' (by simpa using h)]
  constructor
  ·rintro⟨h1,h2⟩ i x y hx hy
   cases i with
   |zero=>simp at hx hy;subst hx;subst hy;exact h1
   |succ i=>exact h2 i x y (by simpa using hx) (by simpa using hy)
  ·intro h3
   exact⟨h3 0 k k' rfl rfl,fun i x y hx hy=>h3 (i+1) x y (by simpa using hx) (by simpa using hy)⟩
 |_::_,[],h=>by simp at h
theorem p8(a b:Tm):iM a b=(a.op==b.op&&a.n==b.n&&a.kids.length==b.kids.length&&iq a.kids b.kids):=by cases a;cases b;simp[iM,Tm.op,Tm.n,Tm.kids]
theorem uu:∀a:Tm,a.fits->∀b:Tm,b.fits->bJ Tryz.prog 21 [a.d,b.d] (.ret [.bool (iM a b)]):=by
 refine Tm.eO fun t ih hf b hb=> ?_
 have vQ:=(Tm.bR _).1 hf
 have Gp:=(Tm.bR _).1 hb
 refine bJ.aZ mix SH (by simp) ?_
 rw[Xv,p8]
 simp+contextual only[go_sem]
 refine ay (fun h1=> ?_) (fun h1=> ?_)
 ·simp+contextual only[go_sem]
  have:(t.op==b.op&&t.n==b.n&&t.kids.length==b.kids.length)=false:=by
   rw[Bool.eq_false_iff]
   intro h
   simp at h
   simp[h]at h1
  rw[this];rfl
 ·have nI:t.op=b.op/\t.n=b.n/\t.kids.length=b.kids.length:=by
   simp at h1
   refine⟨h1.1.1,h1.1.2,by have:=h1.2;omega⟩
  rw[show(t.op==b.op&&t.n==b.n&&t.kids.length==b.kids.length)=true by simp[nI],Bool.true_and]
  have hl:=nI.2.2
  simp+contextual only[go_sem]
  refine aW (fun k:Nat=>⟨bw [.ab, .ab, .ptr 0 0, .ptr 1 0, .ab, .d (.i k)],CP t.row b.row,2⟩)
   (fun k=>k<=t.kids.length/\∀i,i<k->∀x y,t.kids[i]? =some x->b.kids[i]? =some y->iM x y=true) (fun k=>t.kids.length - k) 0 ⟨Nat.zero_le _,fun i h=>by omega⟩ (bW.d2 _ (ku rfl rfl) (by omega) rfl rfl ?_) (fun k hk=> ?_)
  ·(repeat(first|exact aq|refine ai ?_|refine ah rfl ?_|refine ah (aQ (aP (by omega))) ?_|refine aA rfl (by simp[V.refs,V.ag]<;>first|omega|assumption) ?_))
  simp+contextual only[go_sem]
  refine ay (fun h2=> ?_) (fun h2=> ?_)
  ·simp at h2
   obtain⟨x,hx⟩:=aX h2
   obtain⟨y,hy⟩:=aX (l:=b.kids) (k:=k) (by omega)
   have kx:=List.mem_of_getElem? hx
   have Pk:=List.mem_of_getElem? hy
   simp+contextual only[go_sem,hx,hy]
   refine bZ (ih x kx (vQ.2 x kx) y (Gp.2 y Pk)) rfl ?_
   simp+contextual only[go_sem]
   refine aR (by decide) ?_
   simp+contextual only[go_sem]
   refine ay (fun h3=> ?_) (fun h3=> ?_)
   ·simp+contextual only[go_sem]
    simp at h3
    have:iq t.kids b.kids=false:=by
     rw[Bool.eq_false_iff]
     intro h
     have:=(iw _ _ hl).1 h k x y hx hy
     rw[h3]at this;cases this
    rw[this]
   ·simp+contextual only[go_sem]
    simp at h3
    refine aB (k+1) ⟨h2,fun i hi u v hu hv=> ?_⟩ (by omega) (bW.d2 _ (ku rfl rfl) (by omega) rfl rfl ?_)
    ·by_cases e:i=k
     ·subst e
      rw[hx]at hu;rw[hy]at hv
      injection hu with hu;injection hv with hv;subst hu;subst hv;exact h3
     ·exact hk.2 i (by omega) u v hu hv
    ·(repeat(first|exact aq|refine ai ?_|refine ah rfl ?_|refine ah (aQ (aP (by omega))) ?_|refine aA rfl (by simp[V.refs,V.ag]<;>first|omega|assumption) ?_))
  ·simp+contextual only[go_sem]
   simp at h2
   have:iq t.kids b.kids=true:=(iw _ _ hl).2 fun i x y hx hy=>hk.2 i (by have:=(List.getElem?_eq_some_iff.1 hx).1;omega) x y hx hy
   rw[this]
theorem ky(t:Tm)(hf:t.fits):bJ Tryz.prog 20 [t.d] (.ret [.bool (iZ t)]):=by
 refine bJ.aZ mix SG (by simp) ?_
 rw[Xu]
 simp+contextual only[go_sem]
 refine aw (D3 t hf 50 14 (by omega) (by omega)) rfl ?_
 simp+contextual only[go_sem]
 rfl
theorem CQ(s:aO)(hs:s.Fits):bJ Tryz.prog 47 [s.d] (.ret [.bool (ly s)]):=by
 refine bJ.aZ mix SQ (by simp) ?_
 rw[XX]
 simp+contextual only[go_sem]
 refine ay (fun h1=> ?_) (fun h1=> ?_)
 ·simp+contextual only[go_sem]
  simp only[ly,h1];rfl
 ·have e:ly s=(fM s.cons&&fM s.dK):=by simp only[ly,h1];rfl
  rw[e]
  simp at h1
  simp+contextual only[go_sem]
  refine aW (fun k:Nat=>⟨bw [.ab, .ptr 0 0, .ab, .d (.i k)],nk s.row,1⟩)
   (fun k=>k<=s.cons.length/\fM (s.cons.take k)=true) (fun k=>s.cons.length - k) 0 ⟨Nat.zero_le _,by simp[fM]⟩ (bW.d1 _ (bN rfl) (by omega) rfl ?_) (fun k hk=> ?_)
  ·(repeat(first|exact aq|refine ai ?_|refine ah rfl ?_|refine ah (aQ (aP (by omega))) ?_|refine aA rfl (by simp[V.refs,V.ag]<;>first|omega|assumption) ?_))
  simp+contextual only[go_sem]
  refine ay (fun h2=> ?_) (fun h2=> ?_)
  ·simp at h2
   obtain⟨x,hx⟩:=aX h2
   simp+contextual only[go_sem,hx]
   refine ay (fun h3=> ?_) (fun h3=> ?_)
   ·simp+contextual only[go_sem]
    rw[show fM s.cons=false from iO hx (by simpa using h3)];rfl
   ·simp+contextual only[go_sem]
    refine aB (k+1) ⟨h2,jQ hx hk.2 (by simpa using h3)⟩ (by omega) (bW.d1 _ (bN rfl) (by omega) rfl ?_)
    (repeat(first|exact aq|refine ai ?_|refine ah rfl ?_|refine ah (aQ (aP (by omega))) ?_|refine aA rfl (by simp[V.refs,V.ag]<;>first|omega|assumption) ?_))
  ·simp at h2
   rw[show fM s.cons=true from jR hk.2 h2,Bool.true_and]
   simp+contextual only[go_sem]
   refine aW (fun k:Nat=>⟨bw [.ab, .ptr 0 0, .ab, .ab, .d (.i k)],nk s.row,1⟩)
    (fun k=>k<=s.dK.length/\fM (s.dK.take k)=true) (fun k=>s.dK.length - k) 0 ⟨Nat.zero_le _,by simp[fM]⟩ (bW.d1 _ (bN rfl) (by omega) rfl ?_) (fun k hk=> ?_)
   ·(repeat(first|exact aq|refine ai ?_|refine ah rfl ?_|refine ah (aQ (aP (by omega))) ?_|refine aA rfl (by simp[V.refs,V.ag]<;>first|omega|assumption) ?_))
   simp+contextual only[go_sem]
   refine ay (fun h4=> ?_) (fun h4=> ?_)
   ·simp at h4
    obtain⟨x,hx⟩:=aX h4
    simp+contextual only[go_sem,hx]
    refine ay (fun h3=> ?_) (fun h3=> ?_)
    ·simp+contextual only[go_sem]
     rw[show fM s.dK=false from iO hx (by simpa using h3)]
    ·simp+contextual only[go_sem]
     refine aB (k+1) ⟨h4,jQ hx hk.2 (by simpa using h3)⟩ (by omega) (bW.d1 _ (bN rfl) (by omega) rfl ?_)
     (repeat(first|exact aq|refine ai ?_|refine ah rfl ?_|refine ah (aQ (aP (by omega))) ?_|refine aA rfl (by simp[V.refs,V.ag]<;>first|omega|assumption) ?_))
   ·simp at h4
    rw[show fM s.dK=true from jR hk.2 h4]
    simp+contextual only[go_sem]
end Go.Proofs.YtealblliddhgiaaGreat
