/-
  A PART OF THE PROOF. Conditions: none.
-/
import Derived.Test.YtealblliddhgiaaGreatMt13
set_option linter.unusedSimpArgs false
set_option linter.unusedVariables false
namespace Go.Proofs.YtealblliddhgiaaGreat
def j5(x y:ab):Prop:=(x.bN=true->y.bN=true)/\∀e,x.ba=some e->y.ba=some e
theorem j5.rfl' {x y:ab}(h:x=y):j5 x y:=h ▸ ⟨id,fun _ h=>h⟩
theorem j5.fz (x:ab):j5 x.fz x:=by cases x<;>exact⟨id,fun _ h=>h⟩
theorem j5.row (cs cs':List V):j5 (.row cs) (.row cs'):=⟨fun _=>rfl,fun _ h=>by cases h⟩
mutual
theorem V.kF {B B':Nat->Prop}{φ aB:Place}{H H':Hp}{w:World}(hB:∀b, ¬B b-> ¬B' b):∀ (v:V) (val:Value),(∀id∈v.refs,j5 (H'.o id) (H.o id)/\aB id=φ id/\H'.us id)->V.den B φ H w v val->V.den B' aB H' w v val
 | .d x,val,_,h=>D.aG (w:=w) (w':=w) (fun b _ hn=>⟨rfl,hB b hn⟩) x val h
 | .br,_,_,h=>h
 | .af,_,_,_=>trivial
 | .eK,_,_,h=>h
 | .nC es,val,_,h=>⟨D.aG (w:=w) (w':=w) (fun b _ hn=>⟨rfl,hB b hn⟩) (.sl es) val h.1,h.2⟩
 | .agg cs,val,hr,h=>by
   obtain⟨a,rfl,h1,h2⟩:=h
   exact⟨a,rfl,V.gK hB cs _ (by simpa[V.refs]using hr) h1,h2⟩
 | .bU cs,val,hr,h=>by
   obtain⟨a,rfl,h1⟩:=h
   exact⟨a,rfl,V.gK hB cs _ (by simpa[V.refs]using hr) h1⟩
 | .ptr id off,val,hr,h=>by
   obtain⟨a,b,c⟩:=hr id (by simp[V.refs])
   obtain⟨h0,h1,h2⟩:=h
   refine⟨h0,c,fun bF=> ?_⟩
   obtain⟨x,y,z⟩:=h2 (a.1 bF)
   exact⟨x,b.trans y,z⟩
 | .osl id ep,val,hr,h=>by
   obtain⟨a,b,c⟩:=hr id (by simp[V.refs])
   obtain⟨h0,h1,h2⟩:=h
   refine⟨h0,c,fun e he=> ?_⟩
   obtain⟨x,y⟩:=h2 e (a.2 e he)
   exact⟨x,fun heq=>(y heq).trans b.symm⟩
 | .pe id ep i sz off,val,hr,h=>by
   obtain⟨a,b,c⟩:=hr id (by simp[V.refs])
   obtain⟨h0,h1,h2⟩:=h
   refine⟨h0,c,fun e he=> ?_⟩
   obtain⟨x,y⟩:=h2 e (a.2 e he)
   refine⟨x,fun heq=> ?_⟩
   obtain⟨p,q,r,z,u⟩:=y heq
   exact⟨p,q,r,b.trans z,u⟩
 | .pp cs off,val,_,h=>by
   obtain⟨a,ev,h1,h2,h3,h5,h4⟩:=h
   exact⟨a,ev,h1,h2,D.aJ (w:=w) (w':=w) (fun b _ hn=>⟨rfl,hB b hn⟩) cs ev h3,h5,h4.mono (w:=w) (w':=w) (fun b _ hn=>⟨rfl,hB b hn⟩)⟩
 | .func fn first cap,val,hr,h=>by
   obtain⟨f,c,rfl,h1,h2⟩:=h
   exact⟨f,c,rfl,V.gK hB first _ (fun id aw=>hr id (by simp[V.refs,aw])) h1,V.gK hB cap _ (fun id aw=>hr id (by simp[V.refs,aw])) h2⟩
 | .iface t x,val,hr,h=>by
   obtain⟨u,rfl,h⟩:=h
   exact⟨u,rfl,V.kF hB x u (by simpa[V.refs]using hr) h⟩
 | .rT id off n,val,hr,h=>by
   obtain⟨a,b,c⟩:=hr id (by simp[V.refs])
   obtain⟨h0,h1,h2⟩:=h
   refine⟨h0,c,fun bF=> ?_⟩
   obtain⟨x,y,z⟩:=h2 (a.1 bF)
   exact⟨x,b.trans y,z⟩
 | .mp id,val,hr,h=>by
   obtain⟨a,b,c⟩:=hr id (by simp[V.refs])
   obtain⟨h0,h1,h2⟩:=h
   refine⟨h0,c,fun bF=> ?_⟩
   exact(h2 (a.1 bF)).trans b.symm
 | .ki id,val,hr,h=>by
   obtain⟨a,b,c⟩:=hr id (by simp[V.refs])
   obtain⟨h0,h1,h2⟩:=h
   refine⟨h0,c,fun bF=> ?_⟩
   obtain⟨x,y,z⟩:=h2 (a.1 bF)
   exact⟨x,b.trans y,z⟩
theorem V.gK {B B':Nat->Prop}{φ aB:Place}{H H':Hp}{w:World}(hB:∀b, ¬B b-> ¬B' b):∀ (vs:List V) (vals:List Value),(∀id∈V.ah vs,j5 (H'.o id) (H.o id)/\aB id=φ id/\H'.us id)->V.aF B φ H w vs vals->V.aF B' aB H' w vs vals
 |[],_,_,h=>h
 |v::vs,_,hr,h=>by
  obtain⟨u,us,rfl,h1,h2⟩:=h
  exact⟨u,us,rfl,V.kF hB v u (fun id aw=>hr id (by simp[V.ah,aw])) h1,V.gK hB vs us (fun id aw=>hr id (by simp[V.ah,aw])) h2⟩
end
mutual
theorem V.mV {B:Nat->Prop}{φ:Place}{H:Hp}{w:World}:∀ (v:V) (val:Value),V.den B φ H w v val->∀id∈v.refs,H.us id
 | .osl id ep,_,h,j,hj| .ptr id off,_,h,j,hj| .pe id ep i sz off,_,h,j,hj| .rT id off n,_,h,j,hj| .mp id,_,h,j,hj| .ki id,_,h,j,hj=>by simp[V.refs]at hj;subst hj;exact h.2.1
 | .agg cs,_,h,j,hj=>by obtain⟨a,rfl,h,_⟩:=h;exact V.jq cs _ h j (by simpa[V.refs]using hj)
 | .bU cs,_,h,j,hj=>by obtain⟨a,rfl,h⟩:=h;exact V.jq cs _ h j (by simpa[V.refs]using hj)
 | .func fn first cap,_,h,j,hj=>by
   obtain⟨f,c,rfl,h1,h2⟩:=h
   rcases List.mem_append.1 (show j∈V.ah first++V.ah cap by simpa[V.refs]using hj)with hj|hj
   ·exact V.jq first _ h1 j hj
   ·exact V.jq cap _ h2 j hj
 | .iface t x,_,h,j,hj=>by obtain⟨u,rfl,h⟩:=h;exact V.mV x u h j (by simpa[V.refs]using hj)
 | .d _,_,_,_,hj| .br,_,_,_,hj| .pp _ _,_,_,_,hj| .af,_,_,_,hj| .nC _,_,_,_,hj| .eK,_,_,_,hj=>by simp[V.refs]at hj
theorem V.jq {B:Nat->Prop}{φ:Place}{H:Hp}{w:World}:∀ (vs:List V) (vals:List Value),V.aF B φ H w vs vals->∀id∈V.ah vs,H.us id
 |[],_,_,j,hj=>by simp[V.ah]at hj
 |v::vs,_,h,j,hj=>by
  obtain⟨u,us,rfl,h1,h2⟩:=h
  rcases List.mem_append.1 (show j∈v.refs++V.ah vs by simpa[V.ah]using hj)with hj|hj
  ·exact V.mV v u h1 j hj
  ·exact V.jq vs us h2 j hj
end
def zr(c:Nat)(x:V)(so:Nat->ab)(gone:Nat->Prop)(v v':V):Prop:=
 v'= .af\/(v'=v/\∀r∈v.refs,r<c)\/(v'= .osl c 0/\v=x)\/∃y,v'= .d y/\dI so v=some y/\∀id∈v.ids,gone id/\∀ep,x≠ .osl id ep
def Cu(c:Nat)(x:V)(so:Nat->ab)(gone:Nat->Prop)(env:Nat->V):List V->Nat->Prop
 |[],_=>True
 |v::l,i=>zr c x so gone (env i) v/\Cu c x so gone env l (i+1)
def Cv(c:Nat)(x:V)(so:Nat->ab)(gone:Nat->Prop):List V->List V->Prop
 |[],[]=>True
 |v::l,v'::l'=>zr c x so gone v v'/\Cv c x so gone l l'
 |_,_=>False
theorem zt{c:Nat}{x:V}{so:Nat->ab}{gone:Nat->Prop}{env:Nat->V}:∀ (l:List V) (i:Nat),Cu c x so gone env l i->∀j,zr c x so gone (env (i+j)) (bq l j)
 |[],i,_,j=>by rw[jk];exact .inl rfl
 |v::l,i,h,0=>by rw[iT];exact h.1
 |v::l,i,h,j+1=>by
  rw[gH]
  have:=zt l (i+1) h.2 j
  rwa [show i+1+j=i+(j+1) by omega]at this
theorem ny{c:Nat}{x:V}{so:Nat->ab}{gone:Nat->Prop}{B B':Nat->Prop}{φ aB:Place}{H H':Hp}{w:World}(hc:∀v v' val,zr c x so gone v v'->V.den B φ H w v val->V.den B' aB H' w v' val):
 ∀ (l l':List V) (vals:List Value),Cv c x so gone l l'->V.aF B φ H w l vals->V.aF B' aB H' w l' vals
 |[],[],_,_,h=>h
 |v::l,v'::l',_,h,hd=>by
  obtain⟨u,us,rfl,h1,h2⟩:=hd
  exact⟨u,us,rfl,hc _ _ _ h.1 h1,ny hc l l' us h.2 h2⟩
 |[],_::_,_,h,_=>h.elim
 |_::_,[],_,h,_=>h.elim
def wV(so:Nat->ab)(gone:Nat->Prop)(ty:TypeId)(sz:Nat)(es:List D)(x:V):Prop:=
 (x= .br/\es=[]/\0<sz)\/∃id ep,gone id/\x= .osl id ep/\so id= .arr ep ty sz es
theorem Ct.gone {so:Nat->ab}{c:Nat}{ty:TypeId}{sz:Nat}{es:List D}{x:V}(h:Ct so c ty sz es x):wV so (fun id=>c<=id) ty sz es x:=h
theorem bP.R7 (gone:Nat->Prop){b:Nat}{e:Nat->V}{so:Nat->ab}{m:Nat}(l:List V){o:Nat->ab}{c:Nat}{ty:TypeId}{sz:Nat}{es:List D}(x:V)(r0:Nat)(cs cs':List V)(F8:r0<c)(hb:b<=c)(H9:c<=m)(hg:Good o c)(pg:∀id,gone id->id<c->id≠r0/\o id= .no)(ho:∀id,id<c->id≠r0->so id=o id\/o id= .no)(Gf:so r0= .row cs)(bF:Cv c x so gone cs cs')(hx:wV so gone ty sz es x)(he:Cu c x so gone e l 0):
 bP b ⟨e,so,m⟩ ⟨bq l,ax (ax o c (.arr 0 ty sz es)) r0 (.row cs'),c+1⟩:=by
 intro M φ w tm hH hd
 let aB:Place:=qb φ c x
 let o':Nat->ab:=ax (ax o c (.arr 0 ty sz es)) r0 (.row cs')
 let H':Hp:=hp o' (c+1)
 let H:Hp:=⟨so,fun id=>id<m⟩
 have qL:o' c= .arr 0 ty sz es:=by show ax (ax o c (.arr 0 ty sz es)) r0 (.row cs') c=_;rw[ae _ _ _ _ (by omega),aa]
 have EH:∀id,id<c->id≠r0->o' id=o id:=fun id aw gX=>by show ax (ax o c (.arr 0 ty sz es)) r0 (.row cs') id=_;rw[ae _ _ _ _ gX,ae _ _ _ _ (by omega)]
 have Ye:o' r0= .row cs':=aa _ _ _
 have Na:∀id,c<id->o' id= .no:=fun id aw=>by show ax (ax o c (.arr 0 ty sz es)) r0 (.row cs') id=_;rw[ae _ _ _ _ (by omega),ae _ _ _ _ (by omega)];exact hg.fresh id (by omega)
 have lD:∀id,id<c->aB id=φ id:=fun id aw=>if_neg (by omega)
 have Bf:x= .br->aB c= .slice none 0 0:=fun h=>by simp only[aB,qb,h,if_pos]
 have Bg:∀id ep,x= .osl id ep->aB c=φ id:=fun id ep h=>by simp only[aB,qb,if_pos,h]
 have hold:∀id k,(o' id).live=true->eA (aB id)=some k->∃j,(so j).live=true/\eA (φ j)=some k/\((id<c/\j=id)\/(id=c/\gone j/\∃ep,x= .osl j ep)):=by
  intro id k h1 h2
  rcases Nat.lt_trichotomy id c with bI|heq|eB
  ·rw[lD id bI]at h2
   by_cases gX:id=r0
   ·subst gX
    exact⟨id,by rw[Gf];rfl,h2, .inl ⟨bI,rfl⟩⟩
   ·rw[EH id bI gX]at h1
    rcases ho id bI gX with hs|hs
    ·exact⟨id,by rw[hs];exact h1,h2, .inl ⟨bI,rfl⟩⟩
    ·rw[hs]at h1;cases h1
  ·subst heq
   rcases hx with⟨rfl,_,_⟩|⟨j,ep,hj,rfl,jz⟩
   ·rw[Bf rfl]at h2;cases h2
   ·rw[Bg j ep rfl]at h2
    exact⟨j,by rw[jz];rfl,h2, .inr ⟨rfl,hj,ep,rfl⟩⟩
  ·rw[Na id eB]at h1;cases h1
 have bT:∀k,bS aB H' k->bS φ H k:=by
  rintro k ⟨id,h1,h2⟩
  obtain⟨j,g1,g2,_⟩:=hold id k h1 h2
  exact⟨j,g1,g2⟩
 have hB:∀k, ¬aj M φ H k-> ¬aj M aB H' k:=fun k h h'=>h (h'.imp id (bT k))
 have qy:∀id,id<c->j5 (H'.o id) (H.o id)/\aB id=φ id/\H'.us id:=fun id aw=>by
  refine⟨?_,lD id aw,(by show id<c+1;omega)⟩
  by_cases gX:id=r0
  ·subst gX
   show j5 (o' id) (so id)
   rw[Ye,Gf];exact j5.row _ _
  ·rcases ho id aw gX with hs|hs
   ·exact j5.rfl' ((EH id aw gX).trans hs.symm)
   ·show j5 (o' id) (so id)
    rw[EH id aw gX,hs]
    exact⟨fun h=>(by cases h),fun e h=>(by cases h)⟩
 have ei:∀ (v:V) (val:Value),(∀r∈v.refs,r<c)->V.den (aj M φ H) φ H w v val->V.den (aj M aB H') aB H' w v val:=fun v val hr h=>
  V.kF (H:=H) (H':=H') hB v val (fun id aw=>qy id (hr id aw)) h
 have lM:∀ (v:List V) (val:List Value),(∀r∈V.ah v,r<c)->V.aF (aj M φ H) φ H w v val->V.aF (aj M aB H') aB H' w v val:=fun v val hr h=>
  V.gK (H:=H) (H':=H') hB v val (fun id aw=>qy id (hr id aw)) h
 have Nb:∀ (v:V) (y:D) (val:Value),dI so v=some y->(∀id∈v.ids,gone id/\∀ep,x≠ .osl id ep)->V.den (aj M φ H) φ H w v val->D.den (aj M aB H') w y val:=fun v y val h1 h2 h3=>by
  obtain⟨f1,f2,f3,f4,f5⟩:=cR (H:=H) hH v.ids (fun id aw=>cN v val h3 id aw)
  have Wr:∀k,bS φ (H.put (cH H.o v.ids)) k->bS φ H k:=by
   rintro k ⟨id,g1,g2⟩
   by_cases aw:id∈v.ids
   ·rw[f3 id aw]at g1
    refine⟨id, ?_,g2⟩
    revert g1
    cases H.o id<;>simp[ab.fz,ab.live]
   ·rw[f4 id aw]at g1;exact⟨id,g1,g2⟩
  have h4:V.den (aj M φ (H.put (cH H.o v.ids))) φ (H.put (cH H.o v.ids)) w v val:=
   V.kF (H:=H) (fun k h h'=>h (h'.imp id (Wr k))) v val (fun id aw=>by
     have dT:H.us id:=(V.mV v val h3) id aw
     refine⟨?_,rfl,(f5 id).2 dT⟩
     by_cases hm:id∈v.ids
     ·rw[f3 id hm];exact j5.fz _
     ·rw[f4 id hm];exact j5.rfl' rfl) h3
  have h5:=eO f1 (o:=so) v y val (fun id aw=>f3 id aw) h1 h4
  refine D.aG (w:=w) (w':=w) (fun k _ hn=>⟨rfl,fun hk=>hn (hk.imp id ?_)⟩) y val h5
  rintro⟨id,g1,g2⟩
  obtain⟨j,k1,k2,k3⟩:=hold id k g1 g2
  refine⟨j, ?_,k2⟩
  have:j∉v.ids:=fun hm=>by
   obtain⟨k4,k5⟩:=h2 j hm
   rcases k3 with⟨k6,k7⟩|⟨_,_,ep,k6⟩
   ·subst k7
    obtain⟨k8,k9⟩:=pg _ k4 k6
    have g1:(o' j).live=true:=g1
    rw[EH _ k6 k8,k9]at g1
    cases g1
   ·exact k5 ep k6
  rw[f4 j this];exact k1
 have Gg:∀val,V.den (aj M φ H) φ H w x val->V.den (aj M aB H') aB H' w (.osl c 0) val:=by
  intro val this
  rcases hx with⟨rfl,rfl,dL⟩|⟨j,ep,hj,rfl,jz⟩
  ·simp only[V.den]at this
   rw[this]
   refine⟨rfl,(by show c<c+1;omega),fun e' fj=> ?_⟩
   have fj:(o' c).ba=some e':=fj
   rw[qL]at fj
   simp only[ab.ba,Option.some.injEq]at fj
   subst fj
   exact⟨Nat.le_refl _,fun _=>(Bf rfl).symm⟩
  ·obtain⟨g1,g2,g3⟩:=this
   refine⟨g1,(by show c<c+1;omega),fun e' fj=> ?_⟩
   have fj:(o' c).ba=some e':=fj
   rw[qL]at fj
   simp only[ab.ba,Option.some.injEq]at fj
   subst fj
   have sd:(H.o j).ba=some ep:=by show(so j).ba=_;rw[jz];rfl
   exact⟨Nat.le_refl _,fun _=>by rw[Bg j ep rfl];exact(g3 ep sd).2 rfl⟩
 have zu:∀v v' val,zr c x so gone v v'->V.den (aj M φ H) φ H w v val->V.den (aj M aB H') aB H' w v' val:=by
  intro v v' val h h1
  rcases h with rfl|⟨rfl,h2⟩|⟨rfl,rfl⟩|⟨y,rfl,h2,h3⟩
  ·trivial
  ·exact ei _ _ h2 h1
  ·exact Gg _ h1
  ·exact Nb v y val h2 h3 h1
 refine⟨aB,⟨fun id=> ?_,fun id hu=>Na id (by have: ¬id<c+1:=hu;omega),fun i j k h1 h2 h3 h4=> ?_,fun k hk=>hH.ours k (bT k hk),hH.tX⟩,fun i=> ?_,bT,by show b<=c+1;omega,fun id aw hr=> ?_,fun id e' aw fj=> ?_⟩
 ·have aN:aL M φ H w id:=hH.ok id
  have hrefs:=hg.refs id
  show aL M aB H' w id
  unfold aL at aN|-
  rcases Nat.lt_trichotomy id c with bI|heq|eB
  ·by_cases gX:id=r0
   ·subst gX
    have e1:H.o id= .row cs:=Gf
    have e2:H'.o id= .row cs':=Ye
    rw[e1]at aN
    rw[e2,lD id bI]
    obtain⟨b,cI,ty,k1,k2,k3,k4⟩:=aN
    exact⟨b,cI,ty,k1,k2,ny zu _ _ _ bF k3,k4⟩
   have e2:H'.o id=o id:=EH id bI gX
   rcases ho id bI gX with hs|hs
   case inr=>rw[e2,hs];trivial
   have e1:H.o id=o id:=hs
   rw[e1]at aN
   rw[e2,lD id bI]
   cases nb:o id with
   |no=>trivial
   |row cs=>
    simp only[nb]at aN hrefs|-
    obtain⟨b,cI,ty,k1,k2,k3,k4⟩:=aN
    exact⟨b,cI,ty,k1,k2,lM _ _ hrefs k3,k4⟩
   |arr ep ty sz es=>
    simp only[nb]at aN|-
    obtain⟨k1,xs,k2,evs,k3,k4,k5⟩:=aN
    exact⟨k1,xs,k2,evs,k3,k4,D.aJ (fun b _ hn=>⟨rfl,hB b hn⟩) _ _ k5⟩
   |ou ep es=>
    simp only[nb]at aN|-
    exact D.aG (fun b _ hn=>⟨rfl,hB b hn⟩) _ _ aN
   |map kt vt es=>
    simp only[nb]at aN|-
    obtain⟨b,es',clock,k1,k2,k4,k3⟩:=aN
    exact⟨b,es',clock,k1,k2,k4,aI.mono (fun b _ hn=>⟨rfl,hB b hn⟩) _ _ k3⟩
   |eY l=>
    simp only[nb]at aN|-
    exact D.aG (fun b _ hn=>⟨rfl,hB b hn⟩) _ _ aN
   |nD l last=>
    simp only[nb]at aN|-
    obtain⟨b,k1,k2⟩:=aN
    exact⟨b,k1,k2.mono (fun b _ hn=>⟨rfl,hB b hn⟩) rfl⟩
   |rU s pos=>
    simp only[nb]at aN|-
    exact aN
   |loop nf n env ps a b st pd=>
    simp only[nb]at aN hrefs|-
    obtain⟨b,r,k1,k2,k3,k4,k5,k6,k7,k8,k9,FN⟩:=aN
    exact⟨b,r,k1,k2,k3,k4,k5,k6,k7,k8,k9,fun i=>ei _ _ (fun r hr=>hrefs r (V.kD _ _ r hr)) (FN i)⟩
  ·subst heq
   have e2:H'.o id= .arr 0 ty sz es:=qL
   rw[e2]
   rcases hx with⟨rfl,rfl,dL⟩|⟨j,ep,hj,rfl,jz⟩
   ·refine⟨dL,[], ?_,[],by simp,by simp,rfl⟩
    rw[Bf rfl]
    exact World.ownsRow_nil _ _ _ _
   ·have this:aL M φ H w j:=hH.ok j
    unfold aL at this
    have e3:H.o j= .arr ep ty sz es:=jz
    simp only[e3]at this
    obtain⟨k1,xs,k2,evs,k3,k4,k5⟩:=this
    exact⟨k1,xs,by rw[Bg j ep rfl];exact k2,evs,k3,k4,D.aJ (fun b _ hn=>⟨rfl,hB b hn⟩) _ _ k5⟩
  ·have e2:H'.o id= .no:=Na id eB
   rw[e2]
   trivial
 ·obtain⟨i',a1,a2,a3⟩:=hold i k h1 h3
  obtain⟨j',b1,b2,b3⟩:=hold j k h2 h4
  have:=hH.apart i' j' k a1 b1 a2 b2
  have gX:∀cE j',(o' cE).live=true->cE<c->gone j'->cE≠j':=fun cE j' g1 g2 g3 g4=>by
   subst g4
   obtain⟨g5,g6⟩:=pg _ g3 g2
   rw[EH _ g2 g5,g6]at g1
   cases g1
  rcases a3 with⟨a3,a4⟩|⟨a3,a4,_⟩<;>rcases b3 with⟨b3,b4⟩|⟨b3,b4,_⟩
  ·omega
  ·exact absurd (a4.symm.trans this) (gX i j' h1 a3 b4)
  ·exact absurd (b4.symm.trans this.symm) (gX j i' h2 b3 a4)
  ·omega
 ·have hi:=zt l 0 he i
  rw[Nat.zero_add]at hi
  exact zu _ _ _ hi (hd i)
 ·have bI:id<c:=by omega
  have hr:(o' id).bN=true:=hr
  exact⟨(qy id bI).1.1 hr,lD id bI⟩
 ·have bI:id<c:=by omega
  have fj:(o' id).ba=some e':=fj
  exact⟨e',(qy id bI).1.2 e' fj,Nat.le_refl _,fun _=>lD id bI⟩
theorem bP.conv {b:Nat}{e:Nat->V}{so:Nat->ab}{m:Nat}(l:List V){o:Nat->ab}{c:Nat}{ty:TypeId}{sz:Nat}{es:List D}(x:V)(r0:Nat)(cs cs':List V)(F8:r0<c)(hb:b<=c)(H9:c<=m)(hg:Good o c)(ho:∀id,id<c->id≠r0->so id=o id)(Gf:so r0= .row cs)(bF:Cv c x so (fun id=>c<=id) cs cs')(hx:Ct so c ty sz es x)(he:Cu c x so (fun id=>c<=id) e l 0):
 bP b ⟨e,so,m⟩ ⟨bq l,ax (ax o c (.arr 0 ty sz es)) r0 (.row cs'),c+1⟩:=
 bP.R7 _ l x r0 cs cs' F8 hb H9 hg (fun id h1 h2=>absurd h1 (by omega)) (fun id h1 h2=> .inl (ho id h1 h2)) Gf bF hx he
theorem Gh{xs ys:List Nat}:jR xs ys=true↔∀x∈xs,x∉ys:=by
 simp[jR,List.all_eq_true]
def nz(env:Nat->V):List V->Nat->Prop
 |[],_=>True
 |v::l,i=>(v= .af\/v=env i)/\nz env l (i+1)
theorem qc{env:Nat->V}{i:Nat}:nz env [] i:=trivial
theorem nV{env:Nat->V}{l:List V}{i:Nat}(h:nz env l (i+1)):nz env (.af::l) i:=⟨.inl rfl,h⟩
theorem wW{env:Nat->V}{l:List V}{i:Nat}{v:V}(he:env i=v)(h:nz env l (i+1)):nz env (v::l) i:=⟨.inr he.symm,h⟩
theorem zw{env:Nat->V}:∀ (l:List V) (i:Nat),nz env l i->∀j,bq l j= .af\/bq l j=env (i+j)
 |[],i,_,j=>by rw[jk];exact .inl rfl
 |v::l,i,h,0=>by rw[iT];exact h.1
 |v::l,i,h,j+1=>by
  rw[gH]
  have:=zw l (i+1) h.2 j
  rwa [show i+1+j=i+(j+1) by omega]at this
theorem D1{P:Program}{n:Nat}{ps:List Nat}{x y:IC}{Q:fO->S->Prop}{e:Nat->V}{o:Nat->ab}{nx:Nat}{f:FuncId}{cap:List V}(env:List V)(he:nz e env 0)
 (h:eR P f (.ki nx::cap) (ax o nx (.loop P.funcs.size n env ps x y .ready none)) (nx+1)
  (fun _ o' nx'=>∃nf m en p c d st pd,o' nx= .loop nf m en p c d st pd/\st≠ .busy/\uk Q pd ⟨e,ax o' nx (.loop nf m en p c d .exhausted pd),nx'⟩) (fun v o' nx'=>Q (.bJ v) ⟨e,o',nx'⟩)):
 A6 P n false ps x y Q ⟨e,o,nx⟩ (.func (.func f) [] cap):=by
 unfold A6 yr
 refine⟨rfl,env,fun i=> ?_, .inl h⟩
 have:=zw env 0 he i
 rwa [Nat.zero_add]at this
def tj(P:Program)(n b id:Nat)(ft:IC)(K X:V->(Nat->ab)->Nat->Prop)(e:fO)(s:S):Prop:=
 match e with
 | .normal=>∃nf m en p c d pd,s.o id= .loop nf m en p c d .ready pd/\lA P n b true ft (lB id K X) ⟨s.env,ax s.o id (.loop nf m en p c d .busy pd),s.nx⟩
 | .bJ v=>X v s.o s.nx
 |_=>False
theorem dy.aV {P:Program}{n:Nat}(bc:P.follows .mixedOrders=true){id:Nat}{args:List V}{o:Nat->ab}{nx:Nat}{K X:V->(Nat->ab)->Nat->Prop}{env:List V}{ps:List Nat}{kj ft:IC}{st:LoopState}{pd:Option jQ}
 (ho:o id= .loop P.funcs.size n env ps kj ft st pd) (bI:id<nx) (Ix:ps.all (fun t=>decide (t<n))=true) (hl:args.length=ps.length)
 (h:lA P n nx true kj (tj P n nx id ft K X) ⟨rq (bq env) ps args,o,nx⟩):dy P id args o nx K X:=by
 refine dy.sP bc ho bI Ix hl (dO kj _ _ _ (fun e s h=> ?_) h)
 cases e with
 |normal=>
  obtain⟨nf,m,en,p,c,d,pd,h1,h2⟩:=h
  exact⟨nf,m,en,p,c,d,pd,h1,dO ft _ _ _ (fun _ _ h=>h) h2⟩
 |bJ v=>exact h
 |_=>exact h.elim
theorem wX{P:Program}{n b id:Nat}{ft:IC}{K X:V->(Nat->ab)->Nat->Prop}{s:S}{nf m:Nat}{en:List V}{p:List Nat}{c d:IC}{pd:Option jQ}(h:s.o id= .loop nf m en p c d .ready pd)
 (h2:lA P n b true ft (lB id K X) ⟨s.env,ax s.o id (.loop nf m en p c d .busy pd),s.nx⟩):tj P n b id ft K X .normal s:=⟨nf,m,en,p,c,d,pd,h,h2⟩
def uo:List Nat->Nat->Nat->Nat
 |[],nx,k=>nx+k
 |i::_,_,0=>i
 |_::l,nx,k+1=>uo l nx k
theorem wY:∀ (l:List Nat) (nx k:Nat),uo l nx k∈l\/nx<=uo l nx k
 |[],nx,k=> .inr (Nat.le_add_right _ _)
 |i::_,_,0=> .inl (List.mem_cons_self ..)
 |_::l,nx,k+1=>(wY l nx k).imp (List.mem_cons_of_mem _) id
theorem zx{nx:Nat}:∀ (l:List Nat),l.Nodup->(∀i∈l,i<nx)->∀a b,uo l nx a=uo l nx b->a=b
 |[],_,_,a,b,e=>by simp only[uo]at e;omega
 |i::l,_,_,0,0,_=>rfl
 |i::l,hd,hl,0,b+1,e=>by
  simp only[uo]at e
  rcases wY l nx b with h|h
  ·rw[<- e]at h;exact absurd h (List.nodup_cons.1 hd).1
  ·have:=hl i (List.mem_cons_self ..);omega
 |i::l,hd,hl,a+1,0,e=>by
  simp only[uo]at e
  rcases wY l nx a with h|h
  ·rw[e]at h;exact absurd h (List.nodup_cons.1 hd).1
  ·have:=hl i (List.mem_cons_self ..);omega
 |i::l,hd,hl,a+1,b+1,e=>by
  simp only[uo]at e
  rw[zx l (List.nodup_cons.1 hd).2 (fun j hj=>hl j (List.mem_cons_of_mem _ hj)) a b e]
def IX(f:Nat->Nat)(x:List Nat×List Nat):List Nat×List Nat:=(x.1.map f,x.2.map f)
theorem tl{f:Nat->Nat}(hf:∀a b,f a=f b->a=b){xs ys:List Nat}(hd:jR xs ys=true):jR (xs.map f) (ys.map f)=true:=by
 rw[Gh]at hd|-
 intro x hx hy
 obtain⟨a,ha,rfl⟩:=List.mem_map.1 hx
 obtain⟨b,hb,e⟩:=List.mem_map.1 hy
 rw[hf b a e]at hb
 exact hd a ha hb
theorem Bh{f:Nat->Nat}(hf:∀a b,f a=f b->a=b){pr:List (List Nat)}(fp:List (List Nat×List Nat))(ho:eg pr fp=true):eg pr (fp.map (IX f))=true:=by
 unfold eg at ho|-
 rw[List.all_eq_true]at ho|-
 intro j hj
 rw[List.length_map]at hj
 have ho:=ho j hj
 rw[List.all_eq_true]at ho|-
 intro i hi
 have ho:=ho i hi
 have hm:∀k,(fp.map (IX f)).getD k ([],[])=IX f (fp.getD k ([],[])):=fun k=>by
  rw[List.getD_eq_getElem?_getD,List.getD_eq_getElem?_getD,List.getElem?_map]
  cases fp[k]? <;>rfl
 rw[hm,hm]
 rw[Bool.or_eq_true]at ho|-
 refine ho.imp (fun h=>h) (fun ho=> ?_)
 rw[Bool.and_eq_true,Bool.and_eq_true]at ho|-
 exact⟨⟨tl hf ho.1.1,tl hf ho.1.2⟩,tl hf ho.2⟩
theorem zy{ids:List Nat}{nx:Nat}(hd:ids.Nodup)(hl:∀i∈ids,i<nx){pr:List (List Nat)}(fp:List (List Nat×List Nat))(ho:eg pr fp=true):eg pr (fp.map (IX (uo ids nx)))=true:=
 Bh (zx ids hd hl) fp ho
theorem tn{P:Program}{g:FuncId}{K:KD}{X:XD}{o:Nat->ab}{nx fr:Nat}{all:List V}{rd:List Nat}{x:D}{Δ:List (Nat×ab)}(lS:rd.all (fun id=>decide (id<nx))=true)(h:wA P g all rd o (.bJ x) Δ)(hk:X (.d x) (Δ.map (·.1)) rd):lz P g K X o nx fr all:=by
 unfold lz
 exact⟨rd,Δ,lS, .inr (.inl ⟨x,h,hk⟩)⟩
section
variable {P:Program}{KB:List Nat->Fp->Prop}{pr:List (List Nat)}{l:List bZ}{fr:Nat}{fp:Fp}{bad ws:List Nat}{s:S}{d:Option Nat}{op:Op}
theorem zA(h:KB ws fp):yV P KB pr [] fr fp bad ws s:=by unfold yV;exact h
end
end Go.Proofs.YtealblliddhgiaaGreat
namespace Go.Proofs.YtealblliddhgiaaGreat
structure Gr where
 x:V
 ty:TypeId
 sz:Nat
 es:List D
def Gr.ok (so:Nat->ab)(gone:Nat->Prop)(g:Gr):Prop:=wV so gone g.ty g.sz g.es g.x
def Gi(c:Nat)(G:List Gr)(so:Nat->ab)(gone:Nat->Prop)(v v':V):Prop:=
 v'= .af\/(v'=v/\∀r∈v.refs,r<c)\/(∃i g,G[i]? =some g/\v'= .osl (c+i) 0/\v=g.x)\/∃y,v'= .d y/\dI so v=some y/\∀id∈v.ids,gone id/\∀g∈G,∀ep,g.x≠ .osl id ep
def mA(c:Nat)(G:List Gr)(so:Nat->ab)(gone:Nat->Prop)(env:Nat->V):List V->Nat->Prop
 |[],_=>True
 |v::l,i=>Gi c G so gone (env i) v/\mA c G so gone env l (i+1)
def wZ(c:Nat)(G:List Gr)(so:Nat->ab)(gone:Nat->Prop):List V->List V->Prop
 |[],[]=>True
 |v::l,v'::l'=>Gi c G so gone v v'/\wZ c G so gone l l'
 |_,_=>False
def zB(c:Nat)(G:List Gr)(so:Nat->ab)(gone:Nat->Prop)(x x':ab):Prop:=
 x'= .no\/(x=x'/\∀r∈x'.refs,r<c)\/∃cs cs',x= .row cs/\x'= .row cs'/\wZ c G so gone cs cs'
section
variable {c:Nat}{G:List Gr}{so:Nat->ab}{gone:Nat->Prop}
theorem Cw{env:Nat->V}:∀ (l:List V) (i:Nat),mA c G so gone env l i->∀j,Gi c G so gone (env (i+j)) (bq l j)
 |[],i,_,j=>by rw[jk];exact .inl rfl
 |v::l,i,h,0=>by rw[iT];exact h.1
 |v::l,i,h,j+1=>by
  rw[gH]
  have:=Cw l (i+1) h.2 j
  rwa [show i+1+j=i+(j+1) by omega]at this
variable {env:Nat->V}{i:Nat}{l l':List V}{v:V}{y:D}
theorem dZ:mA c G so gone env [] i:=trivial
theorem cZ(h:mA c G so gone env l (i+1)):mA c G so gone env (.af::l) i:=⟨.inl rfl,h⟩
theorem cJ(he:env i= .d y)(h:mA c G so gone env l (i+1)):mA c G so gone env (.d y::l) i:=⟨.inr (.inl ⟨he.symm,fun r hr=>by rw[he]at hr;simp[V.refs]at hr⟩),h⟩
theorem iA(he:env i=v)(hr:∀r∈v.refs,r<c)(h:mA c G so gone env l (i+1)):mA c G so gone env (v::l) i:=⟨.inr (.inl ⟨he.symm,fun r Ds=>hr r (he ▸ Ds)⟩),h⟩
theorem iB(k:Nat){g:Gr}{n:Nat}(hg:G[k]? =some g)(hn:n=c+k)(he:env i=g.x)(h:mA c G so gone env l (i+1)):mA c G so gone env (.osl n 0::l) i:=⟨.inr (.inr (.inl ⟨k,g,hg,by rw[hn],he⟩)),h⟩
theorem iC(ht:dI so (env i)=some y)(hi:∀id∈(env i).ids,gone id/\∀g∈G,∀ep,g.x≠ .osl id ep)(h:mA c G so gone env l (i+1)):mA c G so gone env (.d y::l) i:=⟨.inr (.inr (.inr ⟨y,rfl,ht,hi⟩)),h⟩
theorem kG:wZ c G so gone [] []:=trivial
theorem j6(h:wZ c G so gone l l'):wZ c G so gone (.d y::l) (.d y::l'):=⟨.inr (.inl ⟨rfl,fun r hr=>by simp[V.refs]at hr⟩),h⟩
theorem w6(k:Nat){g:Gr}{n:Nat}(hg:G[k]? =some g)(hn:n=c+k)(he:v=g.x)(h:wZ c G so gone l l'):wZ c G so gone (v::l) (.osl n 0::l'):=⟨.inr (.inr (.inl ⟨k,g,hg,by rw[hn],he⟩)),h⟩
theorem IY{x:ab}:zB c G so gone x .no:= .inl rfl
theorem dA{x x':ab}(h:x=x')(hr:∀r∈x'.refs,r<c):zB c G so gone x x':= .inr (.inl ⟨h,hr⟩)
theorem kH{x:ab}{cs cs':List V}(h:x= .row cs)(hr:wZ c G so gone cs cs'):zB c G so gone x (.row cs'):= .inr (.inr ⟨cs,cs',h,rfl,hr⟩)
end
theorem ph{c:Nat}{G:List Gr}{so:Nat->ab}{gone:Nat->Prop}{B B':Nat->Prop}{φ aB:Place}{H H':Hp}{w:World}(hc:∀v v' val,Gi c G so gone v v'->V.den B φ H w v val->V.den B' aB H' w v' val):
 ∀ (l l':List V) (vals:List Value),wZ c G so gone l l'->V.aF B φ H w l vals->V.aF B' aB H' w l' vals
 |[],[],_,_,h=>h
 |v::l,v'::l',_,h,hd=>by
  obtain⟨u,us,rfl,h1,h2⟩:=hd
  exact⟨u,us,rfl,hc _ _ _ h.1 h1,ph hc l l' us h.2 h2⟩
 |[],_::_,_,h,_=>h.elim
 |_::_,[],_,h,_=>h.elim
def Gj(φ:Place)(c:Nat)(G:List Gr):Place:=fun id=>if id<c then φ id else match G[id - c]? with
 |some g=>(match g.x with| .osl j _=>φ j|_=> .slice none 0 0)
 |none=>φ id
theorem bP.Yf (gone:Nat->Prop)(G:List Gr)(c:Nat){b:Nat}{e:Nat->V}{so:Nat->ab}{m:Nat}(l:List V){o':Nat->ab}{nx':Nat}(tZ:nx'=c+G.length)(hb:b<=c)
 (ho:∀id,id<c->zB c G so gone (so id) (o' id)) (hG:∀i g,G[i]? =some g->o' (c+i)= .arr 0 g.ty g.sz g.es/\g.ok so gone) (hh:∀id,nx'<=id->o' id= .no) (pg:∀id,gone id->id<c->o' id= .no)
 (we:∀ (i j:Nat) (gi gj:Gr) (id ep gw:Nat),G[i]? =some gi->G[j]? =some gj->gi.x= .osl id ep->gj.x= .osl id gw->i=j) (he:mA c G so gone e l 0):bP b ⟨e,so,m⟩ ⟨bq l,o',nx'⟩:=by
 subst tZ
 intro M φ w tm hH hd
 let aB:Place:=Gj φ c G
 let H':Hp:=hp o' (c+G.length)
 let H:Hp:=⟨so,fun id=>id<m⟩
 have lD:∀id,id<c->aB id=φ id:=fun id aw=>if_pos aw
 have Gk:∀i g,G[i]? =some g->aB (c+i)=(match g.x with| .osl j _=>φ j|_=> .slice none 0 0):=fun i g hg=>by
  show Gj φ c G (c+i)=_
  unfold Gj
  rw[if_neg (by omega),show c+i - c=i by omega,hg]
 have hold:∀id k,(o' id).live=true->eA (aB id)=some k->∃j,(so j).live=true/\eA (φ j)=some k/\((id<c/\j=id)\/∃i g ep,id=c+i/\G[i]? =some g/\gone j/\g.x= .osl j ep):=by
  intro id k h1 h2
  by_cases bI:id<c
  ·rw[lD id bI]at h2
   rcases ho id bI with h3|⟨h3,_⟩|⟨cs,cs',h3,h4,_⟩
   ·rw[h3]at h1;cases h1
   ·exact⟨id,by rw[h3];exact h1,h2, .inl ⟨bI,rfl⟩⟩
   ·exact⟨id,by rw[h3];rfl,h2, .inl ⟨bI,rfl⟩⟩
  ·by_cases Aq:c+G.length<=id
   ·rw[hh id Aq]at h1;cases h1
   ·obtain⟨i,rfl⟩:∃i,id=c+i:=⟨id - c,by omega⟩
    obtain⟨g,hg⟩:∃g,G[i]? =some g:=⟨G[i]'(by omega),by simp⟩
    rw[Gk i g hg]at h2
    obtain⟨_,bB⟩:=hG i g hg
    rcases bB with⟨h3,_,_⟩|⟨j,ep,hj,h3,jz⟩
    ·rw[h3]at h2;cases h2
    ·rw[h3]at h2
     exact⟨j,by rw[jz];rfl,h2, .inr ⟨i,g,ep,rfl,hg,hj,h3⟩⟩
 have bT:∀k,bS aB H' k->bS φ H k:=by
  rintro k ⟨id,h1,h2⟩
  obtain⟨j,g1,g2,_⟩:=hold id k h1 h2
  exact⟨j,g1,g2⟩
 have hB:∀k, ¬aj M φ H k-> ¬aj M aB H' k:=fun k h h'=>h (h'.imp id (bT k))
 have qy:∀id,id<c->j5 (H'.o id) (H.o id)/\aB id=φ id/\H'.us id:=fun id aw=>by
  refine⟨?_,lD id aw,(by show id<c+G.length;omega)⟩
  show j5 (o' id) (so id)
  rcases ho id aw with h3|⟨h3,_⟩|⟨cs,cs',h3,h4,_⟩
  ·rw[h3];exact⟨fun h=>(by cases h),fun e h=>(by cases h)⟩
  ·exact j5.rfl' h3.symm
  ·rw[h3,h4];exact j5.row _ _
 have ei:∀ (v:V) (val:Value),(∀r∈v.refs,r<c)->V.den (aj M φ H) φ H w v val->V.den (aj M aB H') aB H' w v val:=fun v val hr h=>
  V.kF (H:=H) (H':=H') hB v val (fun id aw=>qy id (hr id aw)) h
 have lM:∀ (v:List V) (val:List Value),(∀r∈V.ah v,r<c)->V.aF (aj M φ H) φ H w v val->V.aF (aj M aB H') aB H' w v val:=fun v val hr h=>
  V.gK (H:=H) (H':=H') hB v val (fun id aw=>qy id (hr id aw)) h
 have Nb:∀ (v:V) (y:D) (val:Value),dI so v=some y->(∀id∈v.ids,gone id/\∀g∈G,∀ep,g.x≠ .osl id ep)->V.den (aj M φ H) φ H w v val->D.den (aj M aB H') w y val:=fun v y val h1 h2 h3=>by
  obtain⟨f1,f2,f3,f4,f5⟩:=cR (H:=H) hH v.ids (fun id aw=>cN v val h3 id aw)
  have Wr:∀k,bS φ (H.put (cH H.o v.ids)) k->bS φ H k:=by
   rintro k ⟨id,g1,g2⟩
   by_cases aw:id∈v.ids
   ·rw[f3 id aw]at g1
    refine⟨id, ?_,g2⟩
    revert g1
    cases H.o id<;>simp[ab.fz,ab.live]
   ·rw[f4 id aw]at g1;exact⟨id,g1,g2⟩
  have h4:V.den (aj M φ (H.put (cH H.o v.ids))) φ (H.put (cH H.o v.ids)) w v val:=
   V.kF (H:=H) (fun k h h'=>h (h'.imp id (Wr k))) v val (fun id aw=>by
     have dT:H.us id:=(V.mV v val h3) id aw
     refine⟨?_,rfl,(f5 id).2 dT⟩
     by_cases hm:id∈v.ids
     ·rw[f3 id hm];exact j5.fz _
     ·rw[f4 id hm];exact j5.rfl' rfl) h3
  have h5:=eO f1 (o:=so) v y val (fun id aw=>f3 id aw) h1 h4
  refine D.aG (w:=w) (w':=w) (fun k _ hn=>⟨rfl,fun hk=>hn (hk.imp id ?_)⟩) y val h5
  rintro⟨id,g1,g2⟩
  obtain⟨j,k1,k2,k3⟩:=hold id k g1 g2
  refine⟨j, ?_,k2⟩
  have:j∉v.ids:=fun hm=>by
   obtain⟨k4,k5⟩:=h2 j hm
   rcases k3 with⟨k6,k7⟩|⟨i,g,ep,k6,k8,k9,FN⟩
   ·subst k7
    have:=pg _ k4 k6
    have g1:(o' j).live=true:=g1
    rw[this]at g1
    cases g1
   ·exact k5 g (List.mem_of_getElem? k8) ep FN
  rw[f4 j this];exact k1
 have Gg:∀i g val,G[i]? =some g->V.den (aj M φ H) φ H w g.x val->V.den (aj M aB H') aB H' w (.osl (c+i) 0) val:=by
  intro i g val hg this
  obtain⟨qL,bB⟩:=hG i g hg
  have bI:c+i<c+G.length:=by have:=(List.getElem?_eq_some_iff.1 hg).1;omega
  rcases bB with⟨h3,_,_⟩|⟨j,ep,hj,h3,jz⟩
  ·rw[h3]at this
   simp only[V.den]at this
   rw[this]
   refine⟨rfl,bI,fun e' fj=> ?_⟩
   have fj:(o' (c+i)).ba=some e':=fj
   rw[qL]at fj
   simp only[ab.ba,Option.some.injEq]at fj
   subst fj
   exact⟨Nat.le_refl _,fun _=>by rw[Gk i g hg,h3]⟩
  ·rw[h3]at this
   obtain⟨g1,g2,g3⟩:=this
   refine⟨g1,bI,fun e' fj=> ?_⟩
   have fj:(o' (c+i)).ba=some e':=fj
   rw[qL]at fj
   simp only[ab.ba,Option.some.injEq]at fj
   subst fj
   have sd:(H.o j).ba=some ep:=by show(so j).ba=_;rw[jz];rfl
   exact⟨Nat.le_refl _,fun _=>by rw[Gk i g hg,h3];exact(g3 ep sd).2 rfl⟩
 have zu:∀v v' val,Gi c G so gone v v'->V.den (aj M φ H) φ H w v val->V.den (aj M aB H') aB H' w v' val:=by
  intro v v' val h h1
  rcases h with rfl|⟨rfl,h2⟩|⟨i,g,hg,rfl,rfl⟩|⟨y,rfl,h2,h3⟩
  ·trivial
  ·exact ei _ _ h2 h1
  ·exact Gg i g _ hg h1
  ·exact Nb v y val h2 h3 h1
 refine⟨aB,⟨fun id=> ?_,fun id hu=>hh id (by have: ¬id<c+G.length:=hu;omega),fun i j k h1 h2 h3 h4=> ?_,fun k hk=>hH.ours k (bT k hk),hH.tX⟩,fun i=> ?_,bT,by show b<=c+G.length;omega,fun id aw hr=> ?_,fun id e' aw fj=> ?_⟩
 ·have aN:aL M φ H w id:=hH.ok id
  show aL M aB H' w id
  unfold aL at aN|-
  by_cases bI:id<c
  ·rcases ho id bI with h3|⟨h3,hrefs⟩|⟨cs,cs',h3,h4,bF⟩
   ·have e2:H'.o id= .no:=h3
    rw[e2];trivial
   ·have e1:H.o id=o' id:=h3
    have e2:H'.o id=o' id:=rfl
    rw[e1]at aN
    rw[e2,lD id bI]
    cases nb:o' id with
    |no=>trivial
    |row cs=>
     simp only[nb]at aN hrefs|-
     obtain⟨b,cI,ty,k1,k2,k3,k4⟩:=aN
     exact⟨b,cI,ty,k1,k2,lM _ _ hrefs k3,k4⟩
    |arr ep ty sz es=>
     simp only[nb]at aN|-
     obtain⟨k1,xs,k2,evs,k3,k4,k5⟩:=aN
     exact⟨k1,xs,k2,evs,k3,k4,D.aJ (fun b _ hn=>⟨rfl,hB b hn⟩) _ _ k5⟩
    |ou ep es=>
     simp only[nb]at aN|-
     exact D.aG (fun b _ hn=>⟨rfl,hB b hn⟩) _ _ aN
    |map kt vt es=>
     simp only[nb]at aN|-
     obtain⟨b,es',clock,k1,k2,k4,k3⟩:=aN
     exact⟨b,es',clock,k1,k2,k4,aI.mono (fun b _ hn=>⟨rfl,hB b hn⟩) _ _ k3⟩
    |eY l=>
     simp only[nb]at aN|-
     exact D.aG (fun b _ hn=>⟨rfl,hB b hn⟩) _ _ aN
    |nD l last=>
     simp only[nb]at aN|-
     obtain⟨b,k1,k2⟩:=aN
     exact⟨b,k1,k2.mono (fun b _ hn=>⟨rfl,hB b hn⟩) rfl⟩
    |rU s pos=>
     simp only[nb]at aN|-
     exact aN
    |loop nf n env ps a b st pd=>
     simp only[nb]at aN hrefs|-
     obtain⟨b,r,k1,k2,k3,k4,k5,k6,k7,k8,k9,FN⟩:=aN
     exact⟨b,r,k1,k2,k3,k4,k5,k6,k7,k8,k9,fun i=>ei _ _ (fun r hr=>hrefs r (V.kD _ _ r hr)) (FN i)⟩
   ·have e1:H.o id= .row cs:=h3
    have e2:H'.o id= .row cs':=h4
    rw[e1]at aN
    rw[e2,lD id bI]
    obtain⟨b,cI,ty,k1,k2,k3,k4⟩:=aN
    exact⟨b,cI,ty,k1,k2,ph zu _ _ _ bF k3,k4⟩
  ·by_cases Aq:c+G.length<=id
   ·have e2:H'.o id= .no:=hh id Aq
    rw[e2];trivial
   ·obtain⟨i,rfl⟩:∃i,id=c+i:=⟨id - c,by omega⟩
    obtain⟨g,hg⟩:∃g,G[i]? =some g:=⟨G[i]'(by omega),by simp⟩
    obtain⟨qL,bB⟩:=hG i g hg
    have e2:H'.o (c+i)= .arr 0 g.ty g.sz g.es:=qL
    rw[e2]
    rcases bB with⟨h3,h4,dL⟩|⟨j,ep,hj,h3,jz⟩
    ·rw[h4]
     refine⟨dL,[], ?_,[],by simp,by simp,rfl⟩
     rw[Gk i g hg,h3]
     exact World.ownsRow_nil _ _ _ _
    ·have this:aL M φ H w j:=hH.ok j
     unfold aL at this
     have e3:H.o j= .arr ep g.ty g.sz g.es:=jz
     simp only[e3]at this
     obtain⟨k1,xs,k2,evs,k3,k4,k5⟩:=this
     exact⟨k1,xs,by rw[Gk i g hg,h3];exact k2,evs,k3,k4,D.aJ (fun b _ hn=>⟨rfl,hB b hn⟩) _ _ k5⟩
 ·obtain⟨i',a1,a2,a3⟩:=hold i k h1 h3
  obtain⟨j',b1,b2,b3⟩:=hold j k h2 h4
  have:=hH.apart i' j' k a1 b1 a2 b2
  subst this
  have gX:∀cE,(o' cE).live=true->cE<c->gone cE->False:=fun cE g1 g2 g3=>by
   rw[pg _ g3 g2]at g1
   cases g1
  rcases a3 with⟨a3,a4⟩|⟨ia,ga,ea,a3,a4,a5,a6⟩<;>rcases b3 with⟨b3,b4⟩|⟨ib,gb,eb,b3,b4,b5,b6⟩
  ·omega
  ·exact(gX i h1 a3 (a4 ▸ b5)).elim
  ·exact(gX j h2 b3 (b4 ▸ a5)).elim
  ·have:=we ia ib ga gb _ _ _ a4 b4 a6 b6
   omega
 ·have hi:=Cw l 0 he i
  rw[Nat.zero_add]at hi
  exact zu _ _ _ hi (hd i)
 ·have bI:id<c:=by omega
  have hr:(o' id).bN=true:=hr
  exact⟨(qy id bI).1.1 hr,lD id bI⟩
 ·have bI:id<c:=by omega
  have fj:(o' id).ba=some e':=fj
  exact⟨e',(qy id bI).1.2 e' fj,Nat.le_refl _,fun _=>lD id bI⟩
theorem bP.R8 (gone:Nat->Prop)(c:Nat){b:Nat}{e:Nat->V}{so:Nat->ab}{m:Nat}(l:List V){o':Nat->ab}(hb:b<=c)
 (ho:∀id,id<c->zB c [] so gone (so id) (o' id)) (hh:∀id,c<=id->o' id= .no) (pg:∀id,gone id->id<c->o' id= .no) (he:mA c [] so gone e l 0):bP b ⟨e,so,m⟩ ⟨bq l,o',c⟩:=
 bP.Yf gone [] c l rfl hb ho (fun i g h=>by cases h) hh pg (fun i j gi gj id ep gw h=>by cases h) he
theorem bP.tp (gone:Nat->Prop)(x:V)(c:Nat){ty:TypeId}{sz:Nat}{es:List D}{b:Nat}{e:Nat->V}{so:Nat->ab}{m:Nat}(l:List V){o':Nat->ab}(hb:b<=c)
 (ho:∀id,id<c->zB c [⟨x,ty,sz,es⟩] so gone (so id) (o' id)) (hc:o' c= .arr 0 ty sz es) (hx:wV so gone ty sz es x) (hh:∀id,c+1<=id->o' id= .no) (pg:∀id,gone id->id<c->o' id= .no)
 (he:mA c [⟨x,ty,sz,es⟩] so gone e l 0):bP b ⟨e,so,m⟩ ⟨bq l,o',c+1⟩:=
 bP.Yf gone [⟨x,ty,sz,es⟩] c l rfl hb ho (fun i g h=>by
  match i,h with
  |0,h=>simp at h;subst h;exact⟨hc,hx⟩) hh pg (fun i j gi gj id ep gw h h' _ _=>by
  match i,j,h,h' with
  |0,0,_,_=>rfl) he
theorem Ws{P:Nat->Prop}(h:P 0):∀id,id<1->P id:=fun id aw=>by
 have e:id=0:=by omega
 rw[e];exact h
theorem Yg{P:Nat->Prop}(h:P 0)(h1:P 1):∀id,id<2->P id:=fun id aw=>by
 rcases(by omega:id=0\/id=1)with rfl|rfl<;>assumption
theorem ZK{P:Nat->Prop}:∀id,id<0->P id:=fun id aw=>by omega
@[go_sem] theorem Yh (b:Bool):(b==false)= !b:=by cases b<;>rfl
@[go_sem] theorem Yi (b:Bool):(b==true)=b:=by cases b<;>rfl
@[go_sem] theorem R9 (c:Bool) (v:V):V.wH c (V.wH c v)=V.wH c v:=by cases c<;>rfl
@[go_sem] theorem Sa (c:Bool):(c&&c)=c:=by cases c<;>rfl
@[go_sem] theorem Oz {α:Type} (f:α->D) (l:List α) (n:Nat) (h:∀x,(f x).cells.length=n):((l.map f).all fun z=>z.cells.length==n)=true:=by
  simp[List.all_eq_true,h]
attribute [go_sem] implies_true
attribute [go_sem] Option.isSome_none Option.getD_some Option.getD_none
theorem structOf{P:Program}{t:TypeId}(h:(match P.underlying t with|some (.struct _)=>true|_=>false)=true):∃fs,P.underlying t=some (.struct fs):=by
 split at h
 ·exact⟨_,by assumption⟩
 ·cases h
theorem aY{pr:List (List Nat)}{fp:List (List Nat×List Nat)}(h:fp.all (fun x=>x.2.isEmpty)=true):eg pr fp=true:=by
 have e:∀i,(fp.getD i ([],[])).2=[]:=fun i=>by
  rw[List.getD_eq_getElem?_getD]
  cases hi:fp[i]? with
  |none=>rfl
  |some x=>simpa using List.all_eq_true.1 h x (List.mem_of_getElem? hi)
 simp only[eg,List.all_eq_true,e,jR,List.all_nil,Bool.and_self,Bool.or_true,implies_true]
structure ig (base:Nat) (h o:Nat->ab) (nx:Nat):Prop where
 df:Good o nx
 le:base<=nx
 eq:∀id,id<base->o id=h id
def Sb(base:Nat)(h:Nat->ab)(v:V)(o:Nat->ab)(nx:Nat)(K:V->(Nat->ab)->Nat->Prop):Prop:=
 ∀o' nx',nx<=nx'->ig base h o' nx'->(∀id,base<=id->id<nx->o' id=o id)->K v o' nx'
def xK(P:Program)(g:FuncId)(args:List V)(base:Nat)(h h2:Nat->ab)(v:V):Prop:=
 ∀o nx,ig base h o nx->∀K X,Sb base h2 v o nx K->eR P g args o nx K X
theorem ig.ax {base:Nat}{h o:Nat->ab}{nx m i:Nat}{x:ab}(hI:ig base h o nx)(hb:base<=i)(hi:i<m)(hm:nx<=m)(hx:x.refs.all (fun r=>decide (r<m))=true):ig base h (YtealblliddhgiaaGreat.ax o i x) m:=
 ⟨(hI.df.mono hm).ax hi hx,Nat.le_trans hI.le hm,fun id aw=>by rw[ae _ _ _ _ (by omega)];exact hI.eq id aw⟩
theorem ig.mono {base:Nat}{h o:Nat->ab}{nx m:Nat}(hI:ig base h o nx)(hm:nx<=m):ig base h o m:=⟨hI.df.mono hm,Nat.le_trans hI.le hm,hI.eq⟩
def ext(base:Nat)(h o:Nat->ab):Nat->ab:=fun id=>if id<base then h id else o id
theorem ig.ext {base c:Nat}{h o:Nat->ab}{nx:Nat}(hI:ig base h o nx)(hc:c<=nx)(hb:base<=c):ig c (YtealblliddhgiaaGreat.ext base h o) o nx:=
 ⟨hI.df,hc,fun id _=>by unfold YtealblliddhgiaaGreat.ext;split<;>first|exact hI.eq id (by assumption)|rfl⟩
theorem xK.ext {P:Program}{g:FuncId}{args:List V}{base c:Nat}{h h2:Nat->ab}{v:V}(hS:xK P g args base h h2 v)(hb:base<=c)(o0:Nat->ab):xK P g args c (YtealblliddhgiaaGreat.ext base h o0) (YtealblliddhgiaaGreat.ext base h2 o0) v:=by
 intro o nx hI K X hK
 refine hS o nx ⟨hI.df,Nat.le_trans hb hI.le,fun id aw=>by rw[hI.eq id (by omega)];unfold YtealblliddhgiaaGreat.ext;rw[if_pos aw]⟩ K X fun o' nx' h1 h2 h3=>hK o' nx' h1 ⟨h2.df,Nat.le_trans hI.le h1,fun id aw=> ?_⟩ (fun id h4 h5=>h3 id (by omega) h5)
 unfold YtealblliddhgiaaGreat.ext
 split
 ·exact h2.eq id (by assumption)
 ·rename_i hn
  rw[h3 id (by omega) (by have:=hI.le;omega),hI.eq id aw]
  unfold YtealblliddhgiaaGreat.ext;rw[if_neg hn]
theorem Sb.ext {base c:Nat}{h o:Nat->ab}{v:V}{o1:Nat->ab}{nx xI:Nat}{K:V->(Nat->ab)->Nat->Prop}(hK:Sb base h v o nx K)(hb:base<=c)(hn:nx<=xI)(hc:nx<=c)(ho:∀id,base<=id->id<nx->o1 id=o id):Sb c (YtealblliddhgiaaGreat.ext base h o1) v o1 xI K:=by
 intro o' nx' h1 h2 h3
 refine hK o' nx' (by omega) ⟨h2.df,Nat.le_trans hb h2.le,fun id aw=> ?_⟩ fun id h4 h5=> ?_
 ·rw[h2.eq id (by omega)];unfold YtealblliddhgiaaGreat.ext;rw[if_pos aw]
 ·rw[h2.eq id (by omega), <- ho id h4 h5];unfold YtealblliddhgiaaGreat.ext;rw[if_neg (by omega)]
def aZ{α σ:Type}(step:σ->α->σ×Bool)(s:σ):List α->σ×Bool
 |[]=>(s,true)
 |x::l=>if(step s x).2=true then aZ step (step s x).1 l else((step s x).1,false)
theorem zC{P:Program}{id:Nat}{args:List V}{e:Nat->V}{o:Nat->ab}{nx:Nat}{K X:V->(Nat->ab)->Nat->Prop}(h:dy P id args o nx K X):uZ P id K X ⟨e,o,nx⟩ args:=by unfold uZ;exact h
theorem rK{α:Type}(f:Nat->α)(i:Nat)(x y:α):ax (ax f i x) i y=ax f i y:=by
 funext j;simp only[ax];split<;>rfl
attribute [go_sem] Int.cast_ofNat_Int
section
variable {P:Program}{n:Nat}{ps:List Nat}{x y:IC}{env:List V}{L:LoopState->Option jQ->ab}
def jr(P:Program)(n:Nat)(env:List V)(ps:List Nat)(x y:IC)(L:LoopState->Option jQ->ab):Prop:=∀st pd,L st pd= .loop P.funcs.size n env ps x y st pd
theorem Nc{Q:fO->S->Prop}{e:Nat->V}{o:Nat->ab}{nx:Nat}{f:FuncId}{cap:List V}(env:List V)(he:nz e env 0)
 (h:∀L,jr P n env ps x y L->eR P f (.ki nx::cap) (ax o nx (L .ready none)) (nx+1)
  (fun _ o' nx'=>∃st pd,o' nx=L st pd/\st≠ .busy/\uk Q pd ⟨e,ax o' nx (L .exhausted pd),nx'⟩) (fun v o' nx'=>Q (.bJ v) ⟨e,o',nx'⟩)):
 A6 P n false ps x y Q ⟨e,o,nx⟩ (.func (.func f) [] cap):=by
 refine D1 env he ?_
 have:=h (fun st pd=> .loop P.funcs.size n env ps x y st pd) (fun _ _=>rfl)
 refine this.mono (fun v o' nx' hh=> ?_) (fun v o' nx' hh=>hh)
 obtain⟨st,pd,h1,h2,h3⟩:=hh
 exact⟨_,_,_,_,_,_,_,_,h1,h2,h3⟩
theorem Gl(hL:jr P n env ps x y L)(bc:P.follows .mixedOrders=true){id:Nat}{args:List V}{o:Nat->ab}{nx:Nat}{K X:V->(Nat->ab)->Nat->Prop}{st:LoopState}{pd:Option jQ}
 (ho:o id=L st pd) (bI:id<nx) (Ix:ps.all (fun t=>decide (t<n))=true) (hl:args.length=ps.length)
 (h:lA P n nx true x (tj P n nx id y K X) ⟨rq (bq env) ps args,o,nx⟩):dy P id args o nx K X:=
 dy.aV bc (ho.trans (hL st pd)) bI Ix hl h
theorem tq(hL:jr P n env ps x y L){b id:Nat}{ft:IC}{K X:V->(Nat->ab)->Nat->Prop}{e:Nat->V}{o:Nat->ab}{nx:Nat}{pd:Option jQ}(h:o id=L .ready pd)
 (h2:lA P n b true ft (lB id K X) ⟨e,ax o id (L .busy pd),nx⟩):tj P n b id ft K X .normal ⟨e,o,nx⟩:=by
 refine wX (h.trans (hL _ _)) ?_
 rw[<- hL];exact h2
theorem D2(hL:jr P n env ps x y L){id:Nat}{K X:V->(Nat->ab)->Nat->Prop}{e:Nat->V}{o:Nat->ab}{nx:Nat}{st:LoopState}{pd:Option jQ}(h:o id=L st pd)(k:K (.d (.bool true)) (ax o id (L .ready none)) nx):lB id K X .normal ⟨e,o,nx⟩:=
 ⟨_,_,_,_,_,_,_,_,h.trans (hL _ _),by rw[<- hL];exact k⟩
theorem Bi(hL:jr P n env ps x y L){id:Nat}{K X:V->(Nat->ab)->Nat->Prop}{e:Nat->V}{o:Nat->ab}{nx:Nat}{st:LoopState}{pd:Option jQ}(h:o id=L st pd)(k:K (.d (.bool false)) (ax o id (L .done (some .ret))) nx):lB id K X .ret ⟨e,o,nx⟩:=
 ⟨_,_,_,_,_,_,_,_,h.trans (hL _ _),by rw[<- hL];exact k⟩
theorem zD(hL:jr P n env ps x y L){id j:Nat}{K X:V->(Nat->ab)->Nat->Prop}{e:Nat->V}{o:Nat->ab}{nx:Nat}{st:LoopState}{pd:Option jQ}(h:o id=L st pd)(k:K (.d (.bool false)) (ax o id (L .done (some (.exit j)))) nx):lB id K X (.exit j) ⟨e,o,nx⟩:=
 ⟨_,_,_,_,_,_,_,_,h.trans (hL _ _),by rw[<- hL];exact k⟩
theorem jr.no (hL:jr P n env ps x y L)(st:LoopState)(pd:Option jQ):L st pd≠ .no:=by rw[hL];exact ab.noConfusion
theorem jr.refs (hL:jr P n env ps x y L)(st:LoopState)(pd:Option jQ):(L st pd).refs=V.ah env:=by rw[hL];rfl
end
theorem vn{B:Nat->Prop}{φ:Place}{H:Hp}{w:World}:∀ (ds:List D) (vs:List Value),V.aF B φ H w (ds.map .d) vs->D.aF B w ds vs
 |[],_,h=>h
 |d::ds,_,h=>by
  obtain⟨u,us,rfl,h1,h2⟩:=h
  exact⟨u,us,rfl,h1,vn ds us h2⟩
theorem eR.Bj {P:Program}{g:FuncId}{ds rs:List D}{o:Nat->ab}{nx:Nat}{K X:V->(Nat->ab)->Nat->Prop}(h:bC P g ds (.ret rs))(hK:K (gr rs) o nx):eR P g (ds.map .d) o nx K X:=by
 refine⟨h.1,fun M φ w vals hH hd=> ?_⟩
 have hM:∀b,aj M φ (hp o nx) b->b<w.heap.size:=fun b hb=>hb.elim (hH.tX b) fun hl=>(hH.ours b hl).2
 refine(h.2 (aj M φ (hp o nx)) w vals hM (vn ds _ hd)).mono fun e w' ⟨hk,ho⟩=> ?_
 obtain⟨k1,k2⟩:=eS hH hk
 cases e with
 |returned val=>exact⟨φ,o,nx,gr rs,k1,k2,jf ho,hK⟩
 |panicked ch=>cases rs with|nil=>exact ho.elim|cons x l=>cases l<;>exact ho.elim
 |outgrown=>cases rs with|nil=>exact ho.elim|cons x l=>cases l<;>exact ho.elim
theorem xK.Bj {P:Program}{g:FuncId}{ds rs:List D}(h:bC P g ds (.ret rs))(base:Nat)(hh:Nat->ab):xK P g (ds.map .d) base hh hh (gr rs):=
 fun o nx hI K X hK=>eR.Bj h (hK o nx (Nat.le_refl _) hI fun _ _ _=>rfl)
end Go.Proofs.YtealblliddhgiaaGreat
namespace Go.Proofs.YtealblliddhgiaaGreat
attribute [go_sem_proc] Int.reduceBEq Int.reduceBNe Int.reduceLT Int.reduceLE Int.reduceEq Int.reduceNe Nat.reducePow Nat.reduceEqDiff Nat.reduceAdd Nat.reduceSub Nat.reduceMul Nat.reduceLeDiff Nat.reduceBEq Nat.reduceLT reduceIte reduceCtorEq Int.reduceToNat
attribute [go_sem] List.range_zero Option.isSome_some and_self List.cons.injEq
theorem w7(n low high:Int):bC Tryz.prog 55 [.i n, .i low, .i high] (.ret [.bool (e8 n low high)]):=by
 refine bC.aV mix QO (by simp) ?_
 rw[VJ]
 simp+contextual only[go_sem]
 rfl
theorem Gm{t:Tm}{left depth:Int}(h:left<1\/depth<1):hU t left depth= -1:=by cases t;simp[hU,h]
theorem nW{l:List Tm}{left depth:Int}(h:left<0):cf l left depth=left:=by
 cases l with
 |nil=>rfl
 |cons k l=>simp[cf,show ¬ (0<=left) by omega]
theorem Gn:∀t:Tm,∀left depth:Int, -1<=hU t left depth/\(1<=left->hU t left depth<=left - 1)/\(left<1->hU t left depth= -1):=by
 refine Tm.ind fun op n kids ih left depth=> ?_
 have hs:∀ (l:List Tm) (left d:Int),(∀k∈l,k∈kids)-> -1<=left-> -1<=cf l left d/\cf l left d<=left:=by
  intro l
  induction l with
  |nil=>intro left d _ h;simp[cf,h]
  |cons k l Gp=>
   intro left d hk h
   simp only[cf]
   split
   ·rename_i h0
    have h1:=ih k (hk k (by simp)) left d
    have h2:=Gp (hU k left d) d (fun x hx=>hk x (by simp[hx])) h1.1
    by_cases hl:1<=left
    ·have:=h1.2.1 hl;omega
    ·have:=h1.2.2 (by omega);omega
   ·omega
 simp only[hU]
 split
 ·rename_i h;refine⟨by omega,fun h1=> ?_,fun _=>rfl⟩;omega
 ·rename_i h
  have:=hs kids (left - 1) (depth - 1) (fun _ h=>h) (by omega)
  exact⟨this.1,fun _=>this.2,fun h=>by omega⟩
theorem D3(l:List Tm)(left d:Int)(h: -1<=left): -1<=cf l left d/\cf l left d<=left:=by
 induction l generalizing left with
 |nil=>simp[cf,h]
 |cons k l Gp=>
  simp only[cf]
  split
  ·have h1:=Gn k left d
   have h2:=Gp (hU k left d) h1.1
   by_cases hl:1<=left
   ·have:=h1.2.1 hl;omega
   ·have:=h1.2.2 (by omega);omega
  ·omega
theorem nA(a b:List Tm)(left d:Int):cf (a++b) left d=cf b (cf a left d) d:=by
 induction a generalizing left with
 |nil=>rfl
 |cons k a ih=>
  simp only[List.cons_append,cf]
  split
  ·exact ih _
  ·rename_i h;rw[nW (by omega)]
theorem zE{l:List Tm}{i:Nat}{k:Tm}(hi:l[i]? =some k)(left d:Int)(h:0<=cf (l.take i) left d):cf (l.take (i+1)) left d=hU k (cf (l.take i) left d) d:=by
 rw[List.take_add_one,hi,nA]
 simp[cf,h]
theorem zF{l:List Tm}{i:Nat}(left d:Int)(h:cf (l.take i) left d<0):cf l left d=cf (l.take i) left d:=by
 conv=>lhs;rw[<- List.take_append_drop i l]
 rw[nA,nW h]
@[reducible] def js (cs:List V):Nat->ab:=ax (fun _=> .no) 0 (.row cs)
@[reducible] def nX (cs ds:List V):Nat->ab:=ax (ax (fun _=> .no) 0 (.row cs)) 1 (.row ds)
theorem bw{cs:List V}(h:(ab.row cs).refs.all (fun r=>decide (r<1))=true):Good (js cs) 1:=(Good.nil (nx:=1)).ax (by omega) h
theorem cz{cs ds:List V}(h:(ab.row cs).refs.all (fun r=>decide (r<2))=true)(h2:(ab.row ds).refs.all (fun r=>decide (r<2))=true):Good (nX cs ds) 2:=((Good.nil (nx:=2)).ax (by omega) h).ax (by omega) h2
theorem bP.d1 {e:Nat->V}{so o:Nat->ab}{m:Nat}(l:List V)(hg:Good o 1)(hm:1<=m)(h0:so 0=o 0)(he:jl 1 e l 0):bP 0 ⟨e,so,m⟩ ⟨bq l,o,1⟩:=
 bP.cF l (Nat.zero_le _) hm hg (fun id h=>by obtain rfl:id=0:=by omega
                                             exact h0) he
theorem bP.d2 {e:Nat->V}{so o:Nat->ab}{m:Nat}(l:List V)(hg:Good o 2)(hm:2<=m)(h0:so 0=o 0)(h1:so 1=o 1)(he:jl 2 e l 0):bP 0 ⟨e,so,m⟩ ⟨bq l,o,2⟩:=
 bP.cF l (Nat.zero_le _) hm hg (fun id h=>by
  rcases(by omega:id=0\/id=1)with rfl|rfl
  ·exact h0
  ·exact h1) he
@[reducible] def Tm.row (t:Tm):List V:=[.d (.i t.op), .d (.i t.n), .d (.sl (t.kids.map Tm.d))]
theorem zG(t:Tm)(left depth:Int):hU t left depth=if left<1\/depth<1 then -1 else cf t.kids (left - 1) (depth - 1):=by cases t;simp[hU,Tm.kids]
theorem Cy:∀t:Tm,t.fits->∀left depth:Int, -1<=left/\left<=1000000-> -1<=depth/\depth<=1000000->bC Tryz.prog 58 [t.d, .i left, .i depth] (.ret [.i (hU t left depth)]):=by
 refine Tm.ej fun t ih hf left depth hl hd=> ?_
 have xG:=(Tm.bD _).1 hf
 refine bC.aV mix QQ (by simp) ?_
 rw[VM]
 simp+contextual only[go_sem]
 refine ak (fun h1=> ?_) (fun h1=> ?_)
 ·simp+contextual only[go_sem]
  simp at h1
  rw[Gm h1]
 ·simp at h1
  simp+contextual only[go_sem]
  rw[wrap64 (n:=left - 1) (by omega) (by omega),zG,if_neg (by omega)]
  refine aT (fun k:Nat=>⟨bq [.af, .d (.i (cf (t.kids.take k) (left - 1) (depth - 1))), .d (.i depth), .ptr 0 0, .af, .af, .af, .d (.i k)],js t.row,1⟩)
   (fun k=>k<=t.kids.length) (fun k=>t.kids.length - k) 0 (Nat.zero_le _) (bP.d1 _ (bw rfl) (by omega) rfl ?_) (fun k hk=> ?_)
  ·(repeat(first|exact ao|refine ai ?_|refine ag rfl ?_|refine ag (aR (aQ (by omega))) ?_|refine aD rfl (by simp[V.refs,V.ah]<;>first|omega|assumption) ?_))
  have hb:=D3 (t.kids.take k) (left - 1) (depth - 1) (by omega)
  simp+contextual only[go_sem]
  refine ak (fun h2=> ?_) (fun h2=> ?_)
  ·simp at h2
   obtain⟨x,hx⟩:∃x,t.kids[k]? =some x:=⟨t.kids[k],by simp[h2.1]⟩
   have gS:=List.mem_of_getElem? hx
   simp+contextual only[go_sem,hx]
   rw[wrap64 (n:=depth - 1) (by omega) (by omega)]
   refine ay (ih x gS (xG.2 x gS) _ _ (by omega) (by omega)) rfl ?_
   simp+contextual only[go_sem]
   rw[<- zE hx _ _ h2.2]
   refine aA (k+1) h2.1 (by omega) (bP.d1 _ (bw rfl) (by omega) rfl ?_)
   (repeat(first|exact ao|refine ai ?_|refine ag rfl ?_|refine ag (aR (aQ (by omega))) ?_|refine aD rfl (by simp[V.refs,V.ah]<;>first|omega|assumption) ?_))
  ·simp+contextual only[go_sem]
   simp only[Bool.and_eq_false_iff,decide_eq_false_iff_not]at h2
   congr 3
   rcases h2 with h2|h2
   ·rw[List.take_of_length_le (by omega)]
   ·exact zF _ _ (by omega)
theorem Nd(s:List UInt8)(hs:s.length<=9223372036854775807):bC Tryz.prog 116 [.str s] (.ret [.bool (jm s)]):=by
 refine bC.aV mix KJ (by simp) ?_
 rw[MU]
 simp+contextual only[go_sem]
 refine aT (fun k:Nat=>⟨bq [.d (.str s), .af, .af, .d (.i k)],fun _=> .no,0⟩)
  (fun k=>k<=s.length/\(s.take k).all letterF=true) (fun k=>s.length - k) 0 ⟨Nat.zero_le _,by simp⟩ (bP.d0 _ ?_) (fun k hk=> ?_)
 ·(repeat(first|exact ao|refine ai ?_|refine ag rfl ?_|refine ag (aR (aQ (by omega))) ?_|refine aD rfl (by simp[V.refs,V.ah]<;>first|omega|assumption) ?_))
 simp+contextual only[go_sem]
 refine ak (fun h2=> ?_) (fun h2=> ?_)
 ·simp at h2
  obtain⟨x,hx⟩:∃x,s[k]? =some x:=⟨s[k],by simp[h2]⟩
  simp+contextual only[go_sem,hx]
  refine ak (fun h3=> ?_) (fun h3=> ?_)
  ·simp+contextual only[go_sem]
   have:jm s=false:=by
    have:s.all letterF=false:=by
     rw[List.all_eq_false]
     refine⟨x,List.mem_of_getElem? hx, ?_⟩
     simp only[letterF,h3];simp
    simp[jm,this]
   rw[this]
  ·simp+contextual only[go_sem]
   refine aA (k+1) ⟨h2, ?_⟩ (by omega) (bP.d0 _ ?_)
   ·rw[List.take_add_one,hx,List.all_append,hk.2]
    simp[letterF,h3]
   ·(repeat(first|exact ao|refine ai ?_|refine ag rfl ?_|refine ag (aR (aQ (by omega))) ?_|refine aD rfl (by simp[V.refs,V.ah]<;>first|omega|assumption) ?_))
 ·simp+contextual only[go_sem]
  refine ay (w7 _ _ _) rfl ?_
  simp+contextual only[go_sem]
  simp at h2
  have:=hk.2
  rw[List.take_of_length_le (by omega)]at this
  simp[jm,this]
theorem Cz(l:List om)(bs:List (List UInt8))(hl:l.length<=1000)(hb:bs.length<=1000)(hs:∀x∈l,x.name.length<=9223372036854775807):
 bC Tryz.prog 83 [.sl (l.map om.d), .sl (bs.map .str)] (.ret [.sl (((cd l bs).getD []).map .str), .bool (cd l bs).isSome]):=by
 refine bC.aV mix Ra (by simp) ?_
 rw[Wb]
 simp+contextual only[go_sem]
 refine aT (fun k:Nat=>⟨bq [.d (.sl (l.map om.d)), .d (.sl ((bs++(l.take k).map (·.name)).map .str)), .af, .af, .af, .af, .d (.i k)],fun _=> .no,0⟩)
  (fun k=>k<=l.length/\cd l bs=cd (l.drop k) (bs++(l.take k).map (·.name))) (fun k=>l.length - k) 0 ⟨Nat.zero_le _,by simp⟩ (bP.d0 _ ?_) (fun k hk=> ?_)
 ·simp only[List.take_zero,List.map_nil,List.append_nil]
  (repeat(first|exact ao|refine ai ?_|refine ag rfl ?_|refine ag (aR (aQ (by omega))) ?_|refine aD rfl (by simp[V.refs,V.ah]<;>first|omega|assumption) ?_))
 simp+contextual only[go_sem]
 refine ak (fun h2=> ?_) (fun h2=> ?_)
 ·simp at h2
  obtain⟨x,hx⟩:∃x,l[k]? =some x:=⟨l[k],by simp[h2]⟩
  have gS:=List.mem_of_getElem? hx
  have yM:l.drop k=x::l.drop (k+1):=by
   rw[List.drop_eq_getElem_cons h2]
   rw[List.getElem?_eq_getElem h2]at hx;injection hx with hx;rw[hx]
  generalize hB:bs++(l.take k).map (·.name)=B at*
  have hBl:B.length<=2000:=by rw[<- hB];simp;omega
  simp+contextual only[go_sem]
  refine aT (fun j:Nat=>⟨bq [.d (.sl (l.map om.d)), .d (.sl (B.map .str)), .af, .af, .af, .af, .d (.i k), .d (.i j)],fun _=> .no,0⟩)
   (fun j=>j<=B.length/\(B.take j).any (· ==x.name)=false) (fun j=>B.length - j) 0 ⟨Nat.zero_le _,by simp⟩ (bP.d0 _ ?_) (fun j hj=> ?_)
  ·(repeat(first|exact ao|refine ai ?_|refine ag rfl ?_|refine ag (aR (aQ (by omega))) ?_|refine aD rfl (by simp[V.refs,V.ah]<;>first|omega|assumption) ?_))
  simp+contextual only[go_sem]
  refine ak (fun h3=> ?_) (fun h3=> ?_)
  ·simp at h3
   obtain⟨y,hy⟩:∃y,B[j]? =some y:=⟨B[j],by simp[h3]⟩
   simp+contextual only[go_sem,hx,hy]
   refine aP (by decide) ?_
   simp+contextual only[go_sem]
   refine ak (fun h4=> ?_) (fun h4=> ?_)
   ·simp+contextual only[go_sem]
    have:cd l bs=none:=by
     rw[hk.2,yM,cd,if_pos]
     rw[List.any_eq_true]
     exact⟨y,List.mem_of_getElem? hy,h4⟩
    rw[this];rfl
   ·simp+contextual only[go_sem]
    refine aA (j+1) ⟨h3, ?_⟩ (by omega) (bP.d0 _ ?_)
    ·rw[List.take_add_one,hy,List.any_append,hj.2]
     simp only[Option.toList_some,List.any_cons,h4,List.any_nil,Bool.or_false]
    ·(repeat(first|exact ao|refine ai ?_|refine ag rfl ?_|refine ag (aR (aQ (by omega))) ?_|refine aD rfl (by simp[V.refs,V.ah]<;>first|omega|assumption) ?_))
  ·simp at h3
   have Nf:=hj.2
   rw[List.take_of_length_le (by omega)]at Nf
   simp+contextual only[go_sem,hx]
   refine ay (Nd x.name (hs x gS)) rfl ?_
   simp+contextual only[go_sem,hx]
   refine eF (dE [.bool (e8 x.args 0 4)] ?_ ?_)
   ·simp+contextual only[go_sem]
    exact fun _=>w7 _ _ _
   simp+contextual only[go_sem]
   refine ak (fun h4=> ?_) (fun h4=> ?_)
   ·simp+contextual only[go_sem]
    have:cd l bs=none:=by
     rw[hk.2,yM,cd,if_neg (by rw[Nf];exact Bool.false_ne_true),if_pos h4]
    rw[this];rfl
   ·have e1:B.length<=140737488355328:=by omega
    have e2:B.length*16<=140737488355328:=by omega
    have e3:B.length<=140737488355327:=by omega
    have e4:(B.length+1)*16<=140737488355328:=by omega
    simp+contextual only[go_sem,hx,e1,e2,e3,e4]
    refine aP (by decide) ?_
    simp+contextual only[go_sem]
    have hn:cd l bs=cd (l.drop (k+1)) (bs++(l.take (k+1)).map (·.name)):=by
     rw[hk.2,yM,cd,if_neg (by rw[Nf];exact Bool.false_ne_true),if_neg (by rw[h4];exact Bool.false_ne_true), <- hB,List.take_add_one,hx]
     simp
    refine aA (k+1) ⟨h2,hn⟩ (by omega) (bP.R8 (fun _=>True) 0 _ (Nat.le_refl _) ZK (fun _ _=>rfl) (fun _ _ _=>rfl) ?_)
    have S5:(bs++(l.take (k+1)).map (·.name)).map D.str=B.map D.str++[D.str x.name]:=by
     rw[<- hB,List.take_add_one,hx];simp
    rw[S5]
    (repeat(first|exact dZ|refine cZ ?_|refine cJ rfl ?_|refine cJ (aR (aQ (by omega))) ?_|refine iB 0 rfl rfl rfl ?_|refine iA rfl (by simp[V.refs,V.ah]<;>first|omega|assumption) ?_|refine iC rfl (by simp[V.ids]<;>omega) ?_))
 ·simp+contextual only[go_sem]
  simp at h2
  have:cd l bs=some (bs++l.map (·.name)):=by
   rw[hk.2,List.drop_eq_nil_of_le (by omega),cd,List.take_of_length_le (by omega)]
  rw[this,List.take_of_length_le (by omega)]
  rfl
theorem Ng(a b:List UInt8)(m n:Int):pG Tryz.prog 100 103 (.agg [.str a, .i m]) (.agg [.str b, .i n])=some (a==b&&m==n):=by
 have h1:bn Tryz.prog 103=some (.struct [(9,0),(3,1)]):=by kernel_rfl
 have h2:bn Tryz.prog 9=some .str:=by kernel_rfl
 have h3:bn Tryz.prog 3=some .int:=by kernel_rfl
 have h4:b7 Tryz.prog 9=some false:=by kernel_rfl
 have h5:b7 Tryz.prog 3=some false:=by kernel_rfl
 simp[pG,h1,h2,h3,h4,h5,xP,Lj,iZ,ES]
@[go_sem] theorem Wt (o:Nat->ab) (nG:Bool) (a b:List UInt8) (m n:Int):Ak Tryz.prog o 103 nG (.d (.agg [.str a, .i m])) (.d (.agg [.str b, .i n]))=some (.d (.bool (a==b&&m==n))):=by
  obtain⟨fs,h⟩:∃fs,Tryz.prog.underlying 103=some (.struct fs):=structOf (by kernel_rfl)
  have h2:Tryz.prog.eqGuardType Tryz.prog.depth 103=false:=by kernel_rfl
  unfold Ak
  rw[h]
  dsimp only
  rw[if_pos h2,Ng]
  rfl
theorem D4{l:List om}{bs B:List (List UInt8)}(h:cd l bs=some B):B=bs++l.map (·.name):=by
 induction l generalizing bs with
 |nil=>simp[cd]at h;simp[h]
 |cons x l ih=>
  simp only[cd]at h
  split at h
  ·cases h
  ·split at h
   ·cases h
   ·rw[ih h];simp
structure aW.Fits (s:aW):Prop where
 lc:s.cons.length<=9223372036854775807
 lf:s.dz.length<=9223372036854775807
 nc:∀x∈s.cons,x.name.length<=9223372036854775807
 nf:∀x∈s.dz,x.name.length<=9223372036854775807
theorem Sc(s:aW)(hs:s.Fits):bC Tryz.prog 42 [s.d] (.ret [.bool (pb s)]):=by
 refine bC.aV mix QH (by simp) ?_
 rw[Vx]
 simp+contextual only[go_sem]
 refine ay (w7 _ _ _) rfl ?_
 simp+contextual only[go_sem]
 cases h1:(!e8 s.cons.length 2 12||decide (8<(s.dz.length:Int)))with
 |true=>
  simp+contextual only[go_sem,h1]
  simp only[pb,h1,if_true]
 |false=>
  simp[e8]at h1
  obtain⟨a,b,r,hc⟩:∃a b r,s.cons=a::b::r:=by
   match h:s.cons with
   |[]=>rw[h]at h1;simp at h1
   |[a]=>rw[h]at h1;simp at h1
   |a::b::r=>exact⟨a,b,r,rfl⟩
  have eI:(!e8 s.cons.length 2 12||decide (8<(s.dz.length:Int)))=false:=by simp[e8];omega
  simp+contextual only[go_sem,eI,hc]
  have D5:pb s=if(!lT a fB|| !lT b tB)=true then false else match cd s.cons []with
   |none=>false
   |some l=>(cd s.dz l).isSome:=by
   unfold pb
   rw[if_neg (by rw[eI];exact Bool.false_ne_true),hc]
   dsimp only
   rfl
  refine ak (fun h2=> ?_) (fun h2=> ?_)
  ·simp+contextual only[go_sem]
   have ir:(!lT a fB|| !lT b tB)=true:=h2
   rw[D5,if_pos ir]
  ·simp+contextual only[go_sem,hc]
   have hl:(a::b::r).length<=1000:=by rw[<- hc];omega
   have S4:=Cz (a::b::r) [] hl (by simp) (by rw[<- hc];exact hs.nc)
   simp only[List.map_cons,List.map_nil]at S4
   refine aU S4 ?_
   have ir:(!lT a fB|| !lT b tB)=false:=h2
   rw[D5,if_neg (by rw[ir];exact Bool.false_ne_true),hc]
   cases hn:cd (a::b::r) []with
   |none=>simp+contextual only[go_sem,hn]
   |some B=>
    simp+contextual only[go_sem,hn]
    have hB:B.length<=1000:=by
     have:=D4 hn
     rw[this];simp at hl|-;omega
    have Wu:=Cz s.dz B (by omega) hB hs.nf
    refine aU Wu ?_
    simp+contextual only[go_sem]
end Go.Proofs.YtealblliddhgiaaGreat
namespace Go.Proofs.YtealblliddhgiaaGreat
theorem gL{l:List om}{n:Int}{x:om}(h:l[n.toNat]? =some x):jn l n=x.args:=by simp[jn,h]
theorem mW{l:List om}{n:Int}(h:e8 n 0 (l.length - 1)=true):0<=n/\∃x,l[n.toNat]? =some x:=by
 simp[e8]at h
 exact⟨h.1,l[n.toNat]'(by omega),by simp⟩
theorem Nh(s:aW)(t:Tm)(hs:s.Fits)(ht:t.kids.length<=9223372036854775807):bC Tryz.prog 97 [s.d,t.d] (.ret [.bool (bA s t)]):=by
 refine bC.aV mix Rg (by simp) ?_
 rw[Wp]
 simp+contextual only[go_sem]
 rcases(by omega:t.op=1\/t.op=2\/t.op=3\/t.op=4\/t.op=5\/t.op=8\/(t.op=6\/t.op=7\/t.op=9\/t.op=10\/t.op=11\/t.op=12\/t.op=13\/t.op=14\/t.op=15)\/(t.op<1\/15<t.op))with h|h|h|h|h|h|h|h
 ·have hn:bA s t=((t.kids.length:Int)==0&&e8 t.n 0 19):=by simp[bA,h]
  simp+contextual only[go_sem,h]
  refine eF (dE [.bool (e8 t.n 0 19)] ?_ ?_)
  ·simp+contextual only[go_sem]
   exact fun _=>w7 _ _ _
  simp+contextual only[go_sem,h]
  rw[hn]
 ·have hn:bA s t=((t.kids.length:Int)==0&&e8 t.n (-1000000) 1000000):=by simp[bA,h]
  simp+contextual only[go_sem,h]
  refine eF (dE [.bool (e8 t.n (-1000000) 1000000)] ?_ ?_)
  ·simp+contextual only[go_sem]
   exact fun _=>w7 _ _ _
  simp+contextual only[go_sem,h]
  rw[hn]
 ·have hn:bA s t=(e8 t.n 0 (s.cons.length - 1)&&(t.kids.length:Int)==jn s.cons t.n):=by simp[bA,h]
  simp+contextual only[go_sem,h]
  rw[wrap64 (by have:=hs.lc;omega) (by have:=hs.lc;omega)]
  refine ay (w7 _ _ _) rfl ?_
  cases hI:e8 t.n 0 (s.cons.length - 1)with
  |false=>
   simp+contextual only[go_sem,h,hI]
   rw[hn,hI];rfl
  |true=>
   obtain⟨h0,x,hx⟩:=mW hI
   simp+contextual only[go_sem,h,hI,hx,h0]
   rw[hn,hI,gL hx];rfl
 ·have hn:bA s t=(e8 t.n 0 (s.dz.length - 1)&&(t.kids.length:Int)==jn s.dz t.n):=by simp[bA,h]
  simp+contextual only[go_sem,h]
  rw[wrap64 (by have:=hs.lf;omega) (by have:=hs.lf;omega)]
  refine ay (w7 _ _ _) rfl ?_
  cases hI:e8 t.n 0 (s.dz.length - 1)with
  |false=>
   simp+contextual only[go_sem,h,hI]
   rw[hn,hI];rfl
  |true=>
   obtain⟨h0,x,hx⟩:=mW hI
   simp+contextual only[go_sem,h,hI,hx,h0]
   rw[hn,hI,gL hx];rfl
 ·have hn:bA s t=(e8 t.n 0 (s.dz.length - 1)&&decide ((t.kids.length:Int)<jn s.dz t.n)):=by simp[bA,h]
  simp+contextual only[go_sem,h]
  rw[wrap64 (by have:=hs.lf;omega) (by have:=hs.lf;omega)]
  refine ay (w7 _ _ _) rfl ?_
  cases hI:e8 t.n 0 (s.dz.length - 1)with
  |false=>
   simp+contextual only[go_sem,h,hI]
   rw[hn,hI];rfl
  |true=>
   obtain⟨h0,x,hx⟩:=mW hI
   simp+contextual only[go_sem,h,hI,hx,h0]
   rw[hn,hI,gL hx];rfl
 ·have hn:bA s t=((t.kids.length:Int)==2&&e8 t.n 0 19):=by simp[bA,h]
  simp+contextual only[go_sem,h]
  refine eF (dE [.bool (e8 t.n 0 19)] ?_ ?_)
  ·simp+contextual only[go_sem]
   exact fun _=>w7 _ _ _
  simp+contextual only[go_sem,h]
  rw[hn]
 ·have hn:bA s t=((t.kids.length:Int)==2&&t.n==0):=by
   rcases h with h|h|h|h|h|h|h|h|h<;>simp[bA,h,e8]
  rw[hn]
  rcases h with h|h|h|h|h|h|h|h|h<;>simp+contextual only[go_sem,h]
 ·have hn:bA s t=false:=by
   simp[bA,e8,show ¬ (t.op=1) by omega,show ¬ (t.op=2) by omega,show ¬ (t.op=3) by omega,show ¬ (t.op=4) by omega,show ¬ (t.op=5) by omega,show ¬ (t.op=8) by omega,show ¬ (6<=t.op/\t.op<=15) by omega]
  have e:∀k:Int,1<=k->k<=15->(t.op==k)=false:=fun k h1 h2=>by simp;omega
  simp+contextual only[go_sem,e 1 (by omega) (by omega),e 2 (by omega) (by omega),e 3 (by omega) (by omega),e 4 (by omega) (by omega),e 5 (by omega) (by omega),e 6 (by omega) (by omega),e 7 (by omega) (by omega),e 8 (by omega) (by omega),e 9 (by omega) (by omega),e 10 (by omega) (by omega),e 11 (by omega) (by omega),e 12 (by omega) (by omega),e 13 (by omega) (by omega),e 14 (by omega) (by omega),e 15 (by omega) (by omega)]
  rw[hn]
theorem kI(s:aW)(t:Tm):gI s t=(bA s t&&t.kids.all (gI s)):=by
 have:∀l:List Tm,rF s l=l.all (gI s):=fun l=>by
  induction l with
  |nil=>rfl
  |cons k l ih=>simp[rF,ih]
 cases t;simp[gI,this,Tm.kids]
theorem gh{α:Type}{l:List α}{p:α->Bool}{k:Nat}{x:α}(hx:l[k]? =some x)(h:p x=false):l.all p=false:=by
 rw[List.all_eq_false];exact⟨x,List.mem_of_getElem? hx,by rw[h];exact Bool.false_ne_true⟩
theorem ij{α:Type}{l:List α}{p:α->Bool}{k:Nat}{x:α}(hx:l[k]? =some x)(h0:(l.take k).all p=true)(h:p x=true):(l.take (k+1)).all p=true:=by
 rw[List.take_add_one,hx,List.all_append,h0];simp[h]
theorem ik{α:Type}{l:List α}{p:α->Bool}{k:Nat}(h0:(l.take k).all p=true)(h:l.length<=k):l.all p=true:=by
 rwa [List.take_of_length_le h]at h0
theorem aM{α:Type}{l:List α}{k:Nat}(h:k<l.length):∃x,l[k]? =some x:=⟨l[k],by simp[h]⟩
@[reducible] def aW.row (s:aW):List V:=[.d (.sl (s.cons.map om.d)), .d (.sl (s.dz.map om.d))]
theorem IZ(s:aW)(hs:s.Fits):∀t:Tm,t.fits->bC Tryz.prog 59 [s.d,t.d] (.ret [.bool (gI s t)]):=by
 refine Tm.ej fun t ih hf=> ?_
 have xG:=(Tm.bD _).1 hf
 refine bC.aV mix QR (by simp) ?_
 rw[VN]
 simp+contextual only[go_sem]
 refine ay (Nh s t hs xG.1) rfl ?_
 simp+contextual only[go_sem]
 rw[kI]
 refine ak (fun h1=> ?_) (fun h1=> ?_)
 ·simp+contextual only[go_sem]
  simp at h1;simp[h1]
 ·simp at h1
  rw[h1,Bool.true_and]
  simp+contextual only[go_sem]
  refine aT (fun k:Nat=>⟨bq [.af, .af, .ptr 0 0, .ptr 1 0, .af, .d (.i k)],nX s.row t.row,2⟩)
   (fun k=>k<=t.kids.length/\(t.kids.take k).all (gI s)=true) (fun k=>t.kids.length - k) 0 ⟨Nat.zero_le _,by simp⟩ (bP.d2 _ (cz rfl rfl) (by omega) rfl rfl ?_) (fun k hk=> ?_)
  ·(repeat(first|exact ao|refine ai ?_|refine ag rfl ?_|refine ag (aR (aQ (by omega))) ?_|refine aD rfl (by simp[V.refs,V.ah]<;>first|omega|assumption) ?_))
  simp+contextual only[go_sem]
  refine ak (fun h2=> ?_) (fun h2=> ?_)
  ·simp at h2
   obtain⟨x,hx⟩:=aM h2
   have gS:=List.mem_of_getElem? hx
   simp+contextual only[go_sem,hx]
   refine bp (ih x gS (xG.2 x gS)) rfl ?_
   simp+contextual only[go_sem]
   refine aP (by decide) ?_
   simp+contextual only[go_sem]
   refine ak (fun h3=> ?_) (fun h3=> ?_)
   ·simp+contextual only[go_sem]
    simp at h3
    rw[gh hx h3]
   ·simp+contextual only[go_sem]
    simp at h3
    refine aA (k+1) ⟨h2,ij hx hk.2 h3⟩ (by omega) (bP.d2 _ (cz rfl rfl) (by omega) rfl rfl ?_)
    (repeat(first|exact ao|refine ai ?_|refine ag rfl ?_|refine ag (aR (aQ (by omega))) ?_|refine aD rfl (by simp[V.refs,V.ah]<;>first|omega|assumption) ?_))
  ·simp+contextual only[go_sem]
   simp at h2
   rw[ik hk.2 h2]
theorem Gq(s:aW)(hs:s.Fits)(t:Tm)(hf:t.fits):bC Tryz.prog 19 [s.d,t.d] (.ret [.bool (et s t)]):=by
 refine bC.aV mix Qt (by simp) ?_
 rw[U9]
 simp+contextual only[go_sem]
 refine ay (Cy t hf 40 12 (by omega) (by omega)) rfl ?_
 simp+contextual only[go_sem]
 refine eF (dE [.bool (gI s t)] ?_ ?_)
 ·simp+contextual only[go_sem]
  exact fun _=>IZ s hs t hf
 simp+contextual only[go_sem]
 rfl
theorem qd(t:Tm):gf t=(t.kids.all gf&&((decide (1<=t.op)&&decide (t.op<=3))||t.op==5)):=by
 have:∀l:List Tm,rG l=l.all gf:=fun l=>by
  induction l with
  |nil=>rfl
  |cons k l ih=>simp[rG,ih]
 cases t;simp only[gf,this,Tm.kids,Tm.op];rfl
theorem CA:∀t:Tm,t.fits->bC Tryz.prog 31 [t.d] (.ret [.bool (gf t)]):=by
 refine Tm.ej fun t ih hf=> ?_
 have xG:=(Tm.bD _).1 hf
 refine bC.aV mix QF (by simp) ?_
 rw[Vl,qd]
 simp+contextual only[go_sem]
 refine aT (fun k:Nat=>⟨bq [.af, .ptr 0 0, .af, .d (.i k)],js t.row,1⟩)
  (fun k=>k<=t.kids.length/\(t.kids.take k).all gf=true) (fun k=>t.kids.length - k) 0 ⟨Nat.zero_le _,by simp⟩ (bP.d1 _ (bw rfl) (by omega) rfl ?_) (fun k hk=> ?_)
 ·(repeat(first|exact ao|refine ai ?_|refine ag rfl ?_|refine ag (aR (aQ (by omega))) ?_|refine aD rfl (by simp[V.refs,V.ah]<;>first|omega|assumption) ?_))
 simp+contextual only[go_sem]
 refine ak (fun h2=> ?_) (fun h2=> ?_)
 ·simp at h2
  obtain⟨x,hx⟩:=aM h2
  have gS:=List.mem_of_getElem? hx
  simp+contextual only[go_sem,hx]
  refine ay (ih x gS (xG.2 x gS)) rfl ?_
  simp+contextual only[go_sem]
  refine ak (fun h3=> ?_) (fun h3=> ?_)
  ·simp+contextual only[go_sem]
   simp at h3
   rw[gh hx h3];rfl
  ·simp+contextual only[go_sem]
   simp at h3
   refine aA (k+1) ⟨h2,ij hx hk.2 h3⟩ (by omega) (bP.d1 _ (bw rfl) (by omega) rfl ?_)
   (repeat(first|exact ao|refine ai ?_|refine ag rfl ?_|refine ag (aR (aQ (by omega))) ?_|refine aD rfl (by simp[V.refs,V.ah]<;>first|omega|assumption) ?_))
 ·simp+contextual only[go_sem]
  simp at h2
  rw[ik hk.2 h2];rfl
theorem gM:∀l l':List Tm,l.length=l'.length->(gJ l l'=true↔∀ (i:Nat) (x y:Tm),l[i]? =some x->l'[i]? =some y->hY x y=true)
 |[],l',_=>by simp[gJ]
 |k::l,k'::l',h=>by
  simp only[gJ,Bool.and_eq_true]
  rw[gM l l' (by simpa using h)]
  constructor
  ·rintro⟨h1,h2⟩ i x y hx hy
   cases i with
   |zero=>simp at hx hy;subst hx;subst hy;exact h1
   |succ i=>exact h2 i x y (by simpa using hx) (by simpa using hy)
  ·intro h3
   exact⟨h3 0 k k' rfl rfl,fun i x y hx hy=>h3 (i+1) x y (by simpa using hx) (by simpa using hy)⟩
 |_::_,[],h=>by simp at h
theorem pj(a b:Tm):hY a b=(a.op==b.op&&a.n==b.n&&a.kids.length==b.kids.length&&gJ a.kids b.kids):=by cases a;cases b;simp[hY,Tm.op,Tm.n,Tm.kids]
theorem Bk:∀a:Tm,a.fits->∀b:Tm,b.fits->bC Tryz.prog 21 [a.d,b.d] (.ret [.bool (hY a b)]):=by
 refine Tm.ej fun t ih hf b hb=> ?_
 have xG:=(Tm.bD _).1 hf
 have Ez:=(Tm.bD _).1 hb
 refine bC.aV mix Qv (by simp) ?_
 rw[Vb,pj]
 simp+contextual only[go_sem]
 refine ak (fun h1=> ?_) (fun h1=> ?_)
 ·simp+contextual only[go_sem]
  have:(t.op==b.op&&t.n==b.n&&t.kids.length==b.kids.length)=false:=by
   rw[Bool.eq_false_iff]
   intro h
   simp at h
   simp[h]at h1
  rw[this];rfl
 ·have eI:t.op=b.op/\t.n=b.n/\t.kids.length=b.kids.length:=by
   simp at h1
   refine⟨h1.1.1,h1.1.2,by have:=h1.2;omega⟩
  rw[show(t.op==b.op&&t.n==b.n&&t.kids.length==b.kids.length)=true by simp[eI],Bool.true_and]
  have hl:=eI.2.2
  simp+contextual only[go_sem]
  refine aT (fun k:Nat=>⟨bq [.af, .af, .ptr 0 0, .ptr 1 0, .af, .d (.i k)],nX t.row b.row,2⟩)
   (fun k=>k<=t.kids.length/\∀i,i<k->∀x y,t.kids[i]? =some x->b.kids[i]? =some y->hY x y=true) (fun k=>t.kids.length - k) 0 ⟨Nat.zero_le _,fun i h=>by omega⟩ (bP.d2 _ (cz rfl rfl) (by omega) rfl rfl ?_) (fun k hk=> ?_)
  ·(repeat(first|exact ao|refine ai ?_|refine ag rfl ?_|refine ag (aR (aQ (by omega))) ?_|refine aD rfl (by simp[V.refs,V.ah]<;>first|omega|assumption) ?_))
  simp+contextual only[go_sem]
  refine ak (fun h2=> ?_) (fun h2=> ?_)
  ·simp at h2
   obtain⟨x,hx⟩:=aM h2
   obtain⟨y,hy⟩:=aM (l:=b.kids) (k:=k) (by omega)
   have gS:=List.mem_of_getElem? hx
   have EI:=List.mem_of_getElem? hy
   simp+contextual only[go_sem,hx,hy]
   refine bp (ih x gS (xG.2 x gS) y (Ez.2 y EI)) rfl ?_
   simp+contextual only[go_sem]
   refine aP (by decide) ?_
   simp+contextual only[go_sem]
   refine ak (fun h3=> ?_) (fun h3=> ?_)
   ·simp+contextual only[go_sem]
    simp at h3
    have:gJ t.kids b.kids=false:=by
     rw[Bool.eq_false_iff]
     intro h
     have:=(gM _ _ hl).1 h k x y hx hy
     rw[h3]at this;cases this
    rw[this]
   ·simp+contextual only[go_sem]
    simp at h3
    refine aA (k+1) ⟨h2,fun i hi u v hu hv=> ?_⟩ (by omega) (bP.d2 _ (cz rfl rfl) (by omega) rfl rfl ?_)
    ·by_cases e:i=k
     ·subst e
      rw[hx]at hu;rw[hy]at hv
      injection hu with hu;injection hv with hv;subst hu;subst hv;exact h3
     ·exact hk.2 i (by omega) u v hu hv
    ·(repeat(first|exact ao|refine ai ?_|refine ag rfl ?_|refine ag (aR (aQ (by omega))) ?_|refine aD rfl (by simp[V.refs,V.ah]<;>first|omega|assumption) ?_))
  ·simp+contextual only[go_sem]
   simp at h2
   have:gJ t.kids b.kids=true:=(gM _ _ hl).2 fun i x y hx hy=>hk.2 i (by have:=(List.getElem?_eq_some_iff.1 hx).1;omega) x y hx hy
   rw[this]
theorem CB(t:Tm)(hf:t.fits):bC Tryz.prog 20 [t.d] (.ret [.bool (iz t)]):=by
 refine bC.aV mix Qu (by simp) ?_
 rw[Va]
 simp+contextual only[go_sem]
 refine ay (Cy t hf 50 14 (by omega) (by omega)) rfl ?_
 simp+contextual only[go_sem]
 rfl
theorem Bl(s:aW)(hs:s.Fits):bC Tryz.prog 47 [s.d] (.ret [.bool (kE s)]):=by
 refine bC.aV mix QJ (by simp) ?_
 rw[VC]
 simp+contextual only[go_sem]
 refine ak (fun h1=> ?_) (fun h1=> ?_)
 ·simp+contextual only[go_sem]
  simp only[kE,h1];rfl
 ·have e:kE s=(fq s.cons&&fq s.dz):=by simp only[kE,h1];rfl
  rw[e]
  simp at h1
  simp+contextual only[go_sem]
  refine aT (fun k:Nat=>⟨bq [.af, .ptr 0 0, .af, .d (.i k)],js s.row,1⟩)
   (fun k=>k<=s.cons.length/\fq (s.cons.take k)=true) (fun k=>s.cons.length - k) 0 ⟨Nat.zero_le _,by simp[fq]⟩ (bP.d1 _ (bw rfl) (by omega) rfl ?_) (fun k hk=> ?_)
  ·(repeat(first|exact ao|refine ai ?_|refine ag rfl ?_|refine ag (aR (aQ (by omega))) ?_|refine aD rfl (by simp[V.refs,V.ah]<;>first|omega|assumption) ?_))
  simp+contextual only[go_sem]
  refine ak (fun h2=> ?_) (fun h2=> ?_)
  ·simp at h2
   obtain⟨x,hx⟩:=aM h2
   simp+contextual only[go_sem,hx]
   refine ak (fun h3=> ?_) (fun h3=> ?_)
   ·simp+contextual only[go_sem]
    rw[show fq s.cons=false from gh hx (by simpa using h3)];rfl
   ·simp+contextual only[go_sem]
    refine aA (k+1) ⟨h2,ij hx hk.2 (by simpa using h3)⟩ (by omega) (bP.d1 _ (bw rfl) (by omega) rfl ?_)
    (repeat(first|exact ao|refine ai ?_|refine ag rfl ?_|refine ag (aR (aQ (by omega))) ?_|refine aD rfl (by simp[V.refs,V.ah]<;>first|omega|assumption) ?_))
  ·simp at h2
   rw[show fq s.cons=true from ik hk.2 h2,Bool.true_and]
   simp+contextual only[go_sem]
   refine aT (fun k:Nat=>⟨bq [.af, .ptr 0 0, .af, .af, .d (.i k)],js s.row,1⟩)
    (fun k=>k<=s.dz.length/\fq (s.dz.take k)=true) (fun k=>s.dz.length - k) 0 ⟨Nat.zero_le _,by simp[fq]⟩ (bP.d1 _ (bw rfl) (by omega) rfl ?_) (fun k hk=> ?_)
   ·(repeat(first|exact ao|refine ai ?_|refine ag rfl ?_|refine ag (aR (aQ (by omega))) ?_|refine aD rfl (by simp[V.refs,V.ah]<;>first|omega|assumption) ?_))
   simp+contextual only[go_sem]
   refine ak (fun h4=> ?_) (fun h4=> ?_)
   ·simp at h4
    obtain⟨x,hx⟩:=aM h4
    simp+contextual only[go_sem,hx]
    refine ak (fun h3=> ?_) (fun h3=> ?_)
    ·simp+contextual only[go_sem]
     rw[show fq s.dz=false from gh hx (by simpa using h3)]
    ·simp+contextual only[go_sem]
     refine aA (k+1) ⟨h4,ij hx hk.2 (by simpa using h3)⟩ (by omega) (bP.d1 _ (bw rfl) (by omega) rfl ?_)
     (repeat(first|exact ao|refine ai ?_|refine ag rfl ?_|refine ag (aR (aQ (by omega))) ?_|refine aD rfl (by simp[V.refs,V.ah]<;>first|omega|assumption) ?_))
   ·simp at h4
    rw[show fq s.dz=true from ik hk.2 h4]
    simp+contextual only[go_sem]
end Go.Proofs.YtealblliddhgiaaGreat
