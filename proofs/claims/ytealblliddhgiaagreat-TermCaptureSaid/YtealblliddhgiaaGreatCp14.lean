/-
  A PART OF THE PROOF. Conditions: none.
-/
import Derived.Test.YtealblliddhgiaaGreatCp13
set_option linter.unusedSimpArgs false
set_option linter.unusedVariables false
namespace Go.Proofs.YtealblliddhgiaaGreat
def iG(x y:ae):Prop:=(x.bO=true->y.bO=true)/\∀e,x.aZ=some e->y.aZ=some e
theorem iG.rfl' {x y:ae}(h:x=y):iG x y:=h ▸ ⟨id,fun _ h=>h⟩
theorem iG.fz (x:ae):iG x.fz x:=by cases x<;>exact⟨id,fun _ h=>h⟩
theorem iG.row (cs cs':List V):iG (.row cs) (.row cs'):=⟨fun _=>rfl,fun _ h=>by cases h⟩
mutual
theorem V.jv {B B':Nat->Prop}{φ ax:Place}{H H':Hp}{w:World}(hB:∀b, ¬B b-> ¬B' b):∀ (v:V) (val:Value),(∀id∈v.refs,iG (H'.o id) (H.o id)/\ax id=φ id/\H'.us id)->V.den B φ H w v val->V.den B' ax H' w v val
 | .d x,val,_,h=>D.aC (w:=w) (w':=w) (fun b _ hn=>⟨rfl,hB b hn⟩) x val h
 | .aW,_,_,h=>h
 | .ab,_,_,_=>trivial
 | .eY,_,_,h=>h
 | .nC es,val,_,h=>⟨D.aC (w:=w) (w':=w) (fun b _ hn=>⟨rfl,hB b hn⟩) (.sl es) val h.1,h.2⟩
 | .agg cs,val,hr,h=>by
   obtain⟨a,rfl,h1,h2⟩:=h
   exact⟨a,rfl,V.fY hB cs _ (by simpa[V.refs]using hr) h1,h2⟩
 | .bW cs,val,hr,h=>by
   obtain⟨a,rfl,h1⟩:=h
   exact⟨a,rfl,V.fY hB cs _ (by simpa[V.refs]using hr) h1⟩
 | .ptr id off,val,hr,h=>by
   obtain⟨a,b,c⟩:=hr id (by simp[V.refs])
   obtain⟨h0,h1,h2⟩:=h
   refine⟨h0,c,fun a8=> ?_⟩
   obtain⟨x,y,z⟩:=h2 (a.1 a8)
   exact⟨x,b.trans y,z⟩
 | .osl id ep,val,hr,h=>by
   obtain⟨a,b,c⟩:=hr id (by simp[V.refs])
   obtain⟨h0,h1,h2⟩:=h
   refine⟨h0,c,fun e he=> ?_⟩
   obtain⟨x,y⟩:=h2 e (a.2 e he)
   exact⟨x,fun heq=>(y heq).trans b.symm⟩
 | .pe id ep i sz off,val,hr,h=>by
   obtain⟨a,b,c⟩:=hr id (by simp[V.refs])
   obtain⟨h0,h1,h2⟩:=h
   refine⟨h0,c,fun e he=> ?_⟩
   obtain⟨x,y⟩:=h2 e (a.2 e he)
   refine⟨x,fun heq=> ?_⟩
   obtain⟨p,q,r,z,u⟩:=y heq
   exact⟨p,q,r,b.trans z,u⟩
 | .pp cs off,val,_,h=>by
   obtain⟨a,ev,h1,h2,h3,h5,h4⟩:=h
   exact⟨a,ev,h1,h2,D.aI (w:=w) (w':=w) (fun b _ hn=>⟨rfl,hB b hn⟩) cs ev h3,h5,h4.mono (w:=w) (w':=w) (fun b _ hn=>⟨rfl,hB b hn⟩)⟩
 | .func fn first cap,val,hr,h=>by
   obtain⟨f,c,rfl,h1,h2⟩:=h
   exact⟨f,c,rfl,V.fY hB first _ (fun id aj=>hr id (by simp[V.refs,aj])) h1,V.fY hB cap _ (fun id aj=>hr id (by simp[V.refs,aj])) h2⟩
 | .iface t x,val,hr,h=>by
   obtain⟨u,rfl,h⟩:=h
   exact⟨u,rfl,V.jv hB x u (by simpa[V.refs]using hr) h⟩
 | .rz id off n,val,hr,h=>by
   obtain⟨a,b,c⟩:=hr id (by simp[V.refs])
   obtain⟨h0,h1,h2⟩:=h
   refine⟨h0,c,fun a8=> ?_⟩
   obtain⟨x,y,z⟩:=h2 (a.1 a8)
   exact⟨x,b.trans y,z⟩
 | .mp id,val,hr,h=>by
   obtain⟨a,b,c⟩:=hr id (by simp[V.refs])
   obtain⟨h0,h1,h2⟩:=h
   refine⟨h0,c,fun a8=> ?_⟩
   exact(h2 (a.1 a8)).trans b.symm
 | .ko id,val,hr,h=>by
   obtain⟨a,b,c⟩:=hr id (by simp[V.refs])
   obtain⟨h0,h1,h2⟩:=h
   refine⟨h0,c,fun a8=> ?_⟩
   obtain⟨x,y,z⟩:=h2 (a.1 a8)
   exact⟨x,b.trans y,z⟩
theorem V.fY {B B':Nat->Prop}{φ ax:Place}{H H':Hp}{w:World}(hB:∀b, ¬B b-> ¬B' b):∀ (vs:List V) (vals:List Value),(∀id∈V.ag vs,iG (H'.o id) (H.o id)/\ax id=φ id/\H'.us id)->V.aB B φ H w vs vals->V.aB B' ax H' w vs vals
 |[],_,_,h=>h
 |v::vs,_,hr,h=>by
  obtain⟨u,us,rfl,h1,h2⟩:=h
  exact⟨u,us,rfl,V.jv hB v u (fun id aj=>hr id (by simp[V.ag,aj])) h1,V.fY hB vs us (fun id aj=>hr id (by simp[V.ag,aj])) h2⟩
end
mutual
theorem V.kI {B:Nat->Prop}{φ:Place}{H:Hp}{w:World}:∀ (v:V) (val:Value),V.den B φ H w v val->∀id∈v.refs,H.us id
 | .osl id ep,_,h,j,hj| .ptr id off,_,h,j,hj| .pe id ep i sz off,_,h,j,hj| .rz id off n,_,h,j,hj| .mp id,_,h,j,hj| .ko id,_,h,j,hj=>by simp[V.refs]at hj;subst hj;exact h.2.1
 | .agg cs,_,h,j,hj=>by obtain⟨a,rfl,h,_⟩:=h;exact V.gU cs _ h j (by simpa[V.refs]using hj)
 | .bW cs,_,h,j,hj=>by obtain⟨a,rfl,h⟩:=h;exact V.gU cs _ h j (by simpa[V.refs]using hj)
 | .func fn first cap,_,h,j,hj=>by
   obtain⟨f,c,rfl,h1,h2⟩:=h
   rcases List.mem_append.1 (show j∈V.ag first++V.ag cap by simpa[V.refs]using hj)with hj|hj
   ·exact V.gU first _ h1 j hj
   ·exact V.gU cap _ h2 j hj
 | .iface t x,_,h,j,hj=>by obtain⟨u,rfl,h⟩:=h;exact V.kI x u h j (by simpa[V.refs]using hj)
 | .d _,_,_,_,hj| .aW,_,_,_,hj| .pp _ _,_,_,_,hj| .ab,_,_,_,hj| .nC _,_,_,_,hj| .eY,_,_,_,hj=>by simp[V.refs]at hj
theorem V.gU {B:Nat->Prop}{φ:Place}{H:Hp}{w:World}:∀ (vs:List V) (vals:List Value),V.aB B φ H w vs vals->∀id∈V.ag vs,H.us id
 |[],_,_,j,hj=>by simp[V.ag]at hj
 |v::vs,_,h,j,hj=>by
  obtain⟨u,us,rfl,h1,h2⟩:=h
  rcases List.mem_append.1 (show j∈v.refs++V.ag vs by simpa[V.ag]using hj)with hj|hj
  ·exact V.kI v u h1 j hj
  ·exact V.gU vs us h2 j hj
end
def yD(c:Nat)(x:V)(so:Nat->ae)(gone:Nat->Prop)(v v':V):Prop:=
 v'= .ab\/(v'=v/\∀r∈v.refs,r<c)\/(v'= .osl c 0/\v=x)\/∃y,v'= .d y/\dG so v=some y/\∀id∈v.ids,gone id/\∀ep,x≠ .osl id ep
def B2(c:Nat)(x:V)(so:Nat->ae)(gone:Nat->Prop)(env:Nat->V):List V->Nat->Prop
 |[],_=>True
 |v::l,i=>yD c x so gone (env i) v/\B2 c x so gone env l (i+1)
def B3(c:Nat)(x:V)(so:Nat->ae)(gone:Nat->Prop):List V->List V->Prop
 |[],[]=>True
 |v::l,v'::l'=>yD c x so gone v v'/\B3 c x so gone l l'
 |_,_=>False
theorem yE{c:Nat}{x:V}{so:Nat->ae}{gone:Nat->Prop}{env:Nat->V}:∀ (l:List V) (i:Nat),B2 c x so gone env l i->∀j,yD c x so gone (env (i+j)) (bB l j)
 |[],i,_,j=>by rw[jq];exact .inl rfl
 |v::l,i,h,0=>by rw[iZ];exact h.1
 |v::l,i,h,j+1=>by
  rw[gS]
  have:=yE l (i+1) h.2 j
  rwa [show i+1+j=i+(j+1) by omega]at this
theorem nw{c:Nat}{x:V}{so:Nat->ae}{gone:Nat->Prop}{B B':Nat->Prop}{φ ax:Place}{H H':Hp}{w:World}(hc:∀v v' val,yD c x so gone v v'->V.den B φ H w v val->V.den B' ax H' w v' val):
 ∀ (l l':List V) (vals:List Value),B3 c x so gone l l'->V.aB B φ H w l vals->V.aB B' ax H' w l' vals
 |[],[],_,_,h=>h
 |v::l,v'::l',_,h,hd=>by
  obtain⟨u,us,rfl,h1,h2⟩:=hd
  exact⟨u,us,rfl,hc _ _ _ h.1 h1,nw hc l l' us h.2 h2⟩
 |[],_::_,_,h,_=>h.elim
 |_::_,[],_,h,_=>h.elim
def wB(so:Nat->ae)(gone:Nat->Prop)(ty:TypeId)(sz:Nat)(es:List D)(x:V):Prop:=
 (x= .aW/\es=[]/\0<sz)\/∃id ep,gone id/\x= .osl id ep/\so id= .arr ep ty sz es
theorem B0.gone {so:Nat->ae}{c:Nat}{ty:TypeId}{sz:Nat}{es:List D}{x:V}(h:B0 so c ty sz es x):wB so (fun id=>c<=id) ty sz es x:=h
theorem bY.Rs (gone:Nat->Prop){b:Nat}{e:Nat->V}{so:Nat->ae}{m:Nat}(l:List V){o:Nat->ae}{c:Nat}{ty:TypeId}{sz:Nat}{es:List D}(x:V)(r0:Nat)(cs cs':List V)(JP:r0<c)(hb:b<=c)(Sm:c<=m)(hg:Good o c)(pc:∀id,gone id->id<c->id≠r0/\o id= .no)(ho:∀id,id<c->id≠r0->so id=o id\/o id= .no)(F4:so r0= .row cs)(a8:B3 c x so gone cs cs')(hx:wB so gone ty sz es x)(he:B2 c x so gone e l 0):
 bY b ⟨e,so,m⟩ ⟨bB l,aq (aq o c (.arr 0 ty sz es)) r0 (.row cs'),c+1⟩:=by
 intro M φ w tm hH hd
 let ax:Place:=pZ φ c x
 let o':Nat->ae:=aq (aq o c (.arr 0 ty sz es)) r0 (.row cs')
 let H':Hp:=hp o' (c+1)
 let H:Hp:=⟨so,fun id=>id<m⟩
 have uH:o' c= .arr 0 ty sz es:=by show aq (aq o c (.arr 0 ty sz es)) r0 (.row cs') c=_;rw[ad _ _ _ _ (by omega),aa]
 have B1:∀id,id<c->id≠r0->o' id=o id:=fun id aj fK=>by show aq (aq o c (.arr 0 ty sz es)) r0 (.row cs') id=_;rw[ad _ _ _ _ fK,ad _ _ _ _ (by omega)]
 have XB:o' r0= .row cs':=aa _ _ _
 have Me:∀id,c<id->o' id= .no:=fun id aj=>by show aq (aq o c (.arr 0 ty sz es)) r0 (.row cs') id=_;rw[ad _ _ _ _ (by omega),ad _ _ _ _ (by omega)];exact hg.fresh id (by omega)
 have lD:∀id,id<c->ax id=φ id:=fun id aj=>if_neg (by omega)
 have AQ:x= .aW->ax c= .slice none 0 0:=fun h=>by simp only[ax,pZ,h,if_pos]
 have AR:∀id ep,x= .osl id ep->ax c=φ id:=fun id ep h=>by simp only[ax,pZ,if_pos,h]
 have hold:∀id k,(o' id).live=true->dS (ax id)=some k->∃j,(so j).live=true/\dS (φ j)=some k/\((id<c/\j=id)\/(id=c/\gone j/\∃ep,x= .osl j ep)):=by
  intro id k h1 h2
  rcases Nat.lt_trichotomy id c with bM|heq|b7
  ·rw[lD id bM]at h2
   by_cases fK:id=r0
   ·subst fK
    exact⟨id,by rw[F4];rfl,h2, .inl ⟨bM,rfl⟩⟩
   ·rw[B1 id bM fK]at h1
    rcases ho id bM fK with hs|hs
    ·exact⟨id,by rw[hs];exact h1,h2, .inl ⟨bM,rfl⟩⟩
    ·rw[hs]at h1;cases h1
  ·subst heq
   rcases hx with⟨rfl,_,_⟩|⟨j,ep,hj,rfl,jB⟩
   ·rw[AQ rfl]at h2;cases h2
   ·rw[AR j ep rfl]at h2
    exact⟨j,by rw[jB];rfl,h2, .inr ⟨rfl,hj,ep,rfl⟩⟩
  ·rw[Me id b7]at h1;cases h1
 have bS:∀k,bR ax H' k->bR φ H k:=by
  rintro k ⟨id,h1,h2⟩
  obtain⟨j,g1,g2,_⟩:=hold id k h1 h2
  exact⟨j,g1,g2⟩
 have hB:∀k, ¬ai M φ H k-> ¬ai M ax H' k:=fun k h h'=>h (h'.imp id (bS k))
 have mf:∀id,id<c->iG (H'.o id) (H.o id)/\ax id=φ id/\H'.us id:=fun id aj=>by
  refine⟨?_,lD id aj,(by show id<c+1;omega)⟩
  by_cases fK:id=r0
  ·subst fK
   show iG (o' id) (so id)
   rw[XB,F4];exact iG.row _ _
  ·rcases ho id aj fK with hs|hs
   ·exact iG.rfl' ((B1 id aj fK).trans hs.symm)
   ·show iG (o' id) (so id)
    rw[B1 id aj fK,hs]
    exact⟨fun h=>(by cases h),fun e h=>(by cases h)⟩
 have ec:∀ (v:V) (val:Value),(∀r∈v.refs,r<c)->V.den (ai M φ H) φ H w v val->V.den (ai M ax H') ax H' w v val:=fun v val hr h=>
  V.jv (H:=H) (H':=H') hB v val (fun id aj=>mf id (hr id aj)) h
 have jN:∀ (v:List V) (val:List Value),(∀r∈V.ag v,r<c)->V.aB (ai M φ H) φ H w v val->V.aB (ai M ax H') ax H' w v val:=fun v val hr h=>
  V.fY (H:=H) (H':=H') hB v val (fun id aj=>mf id (hr id aj)) h
 have Mf:∀ (v:V) (y:D) (val:Value),dG so v=some y->(∀id∈v.ids,gone id/\∀ep,x≠ .osl id ep)->V.den (ai M φ H) φ H w v val->D.den (ai M ax H') w y val:=fun v y val h1 h2 h3=>by
  obtain⟨f1,f2,f3,f4,f5⟩:=cM (H:=H) hH v.ids (fun id aj=>cJ v val h3 id aj)
  have Rt:∀k,bR φ (H.put (cw H.o v.ids)) k->bR φ H k:=by
   rintro k ⟨id,g1,g2⟩
   by_cases aj:id∈v.ids
   ·rw[f3 id aj]at g1
    refine⟨id, ?_,g2⟩
    revert g1
    cases H.o id<;>simp[ae.fz,ae.live]
   ·rw[f4 id aj]at g1;exact⟨id,g1,g2⟩
  have h4:V.den (ai M φ (H.put (cw H.o v.ids))) φ (H.put (cw H.o v.ids)) w v val:=
   V.jv (H:=H) (fun k h h'=>h (h'.imp id (Rt k))) v val (fun id aj=>by
     have dB:H.us id:=(V.kI v val h3) id aj
     refine⟨?_,rfl,(f5 id).2 dB⟩
     by_cases hm:id∈v.ids
     ·rw[f3 id hm];exact iG.fz _
     ·rw[f4 id hm];exact iG.rfl' rfl) h3
  have h5:=ed f1 (o:=so) v y val (fun id aj=>f3 id aj) h1 h4
  refine D.aC (w:=w) (w':=w) (fun k _ hn=>⟨rfl,fun hk=>hn (hk.imp id ?_)⟩) y val h5
  rintro⟨id,g1,g2⟩
  obtain⟨j,k1,k2,k3⟩:=hold id k g1 g2
  refine⟨j, ?_,k2⟩
  have:j∉v.ids:=fun hm=>by
   obtain⟨k4,k5⟩:=h2 j hm
   rcases k3 with⟨k6,k7⟩|⟨_,_,ep,k6⟩
   ·subst k7
    obtain⟨k8,k9⟩:=pc _ k4 k6
    have g1:(o' j).live=true:=g1
    rw[B1 _ k6 k8,k9]at g1
    cases g1
   ·exact k5 ep k6
  rw[f4 j this];exact k1
 have uV:∀val,V.den (ai M φ H) φ H w x val->V.den (ai M ax H') ax H' w (.osl c 0) val:=by
  intro val this
  rcases hx with⟨rfl,rfl,ej⟩|⟨j,ep,hj,rfl,jB⟩
  ·simp only[V.den]at this
   rw[this]
   refine⟨rfl,(by show c<c+1;omega),fun e' fm=> ?_⟩
   have fm:(o' c).aZ=some e':=fm
   rw[uH]at fm
   simp only[ae.aZ,Option.some.injEq]at fm
   subst fm
   exact⟨Nat.le_refl _,fun _=>(AQ rfl).symm⟩
  ·obtain⟨g1,g2,g3⟩:=this
   refine⟨g1,(by show c<c+1;omega),fun e' fm=> ?_⟩
   have fm:(o' c).aZ=some e':=fm
   rw[uH]at fm
   simp only[ae.aZ,Option.some.injEq]at fm
   subst fm
   have rI:(H.o j).aZ=some ep:=by show(so j).aZ=_;rw[jB];rfl
   exact⟨Nat.le_refl _,fun _=>by rw[AR j ep rfl];exact(g3 ep rI).2 rfl⟩
 have yF:∀v v' val,yD c x so gone v v'->V.den (ai M φ H) φ H w v val->V.den (ai M ax H') ax H' w v' val:=by
  intro v v' val h h1
  rcases h with rfl|⟨rfl,h2⟩|⟨rfl,rfl⟩|⟨y,rfl,h2,h3⟩
  ·trivial
  ·exact ec _ _ h2 h1
  ·exact uV _ h1
  ·exact Mf v y val h2 h3 h1
 refine⟨ax,⟨fun id=> ?_,fun id hu=>Me id (by have: ¬id<c+1:=hu;omega),fun i j k h1 h2 h3 h4=> ?_,fun k hk=>hH.ours k (bS k hk),hH.tA⟩,fun i=> ?_,bS,by show b<=c+1;omega,fun id aj hr=> ?_,fun id e' aj fm=> ?_⟩
 ·have aP:aL M φ H w id:=hH.ok id
  have hrefs:=hg.refs id
  show aL M ax H' w id
  unfold aL at aP|-
  rcases Nat.lt_trichotomy id c with bM|heq|b7
  ·by_cases fK:id=r0
   ·subst fK
    have e1:H.o id= .row cs:=F4
    have e2:H'.o id= .row cs':=XB
    rw[e1]at aP
    rw[e2,lD id bM]
    obtain⟨b,cX,ty,k1,k2,k3,k4⟩:=aP
    exact⟨b,cX,ty,k1,k2,nw yF _ _ _ a8 k3,k4⟩
   have e2:H'.o id=o id:=B1 id bM fK
   rcases ho id bM fK with hs|hs
   case inr=>rw[e2,hs];trivial
   have e1:H.o id=o id:=hs
   rw[e1]at aP
   rw[e2,lD id bM]
   cases n9:o id with
   |no=>trivial
   |row cs=>
    simp only[n9]at aP hrefs|-
    obtain⟨b,cX,ty,k1,k2,k3,k4⟩:=aP
    exact⟨b,cX,ty,k1,k2,jN _ _ hrefs k3,k4⟩
   |arr ep ty sz es=>
    simp only[n9]at aP|-
    obtain⟨k1,xs,k2,evs,k3,k4,k5⟩:=aP
    exact⟨k1,xs,k2,evs,k3,k4,D.aI (fun b _ hn=>⟨rfl,hB b hn⟩) _ _ k5⟩
   |oh ep es=>
    simp only[n9]at aP|-
    exact D.aC (fun b _ hn=>⟨rfl,hB b hn⟩) _ _ aP
   |map kt vt es=>
    simp only[n9]at aP|-
    obtain⟨b,es',clock,k1,k2,k4,k3⟩:=aP
    exact⟨b,es',clock,k1,k2,k4,aH.mono (fun b _ hn=>⟨rfl,hB b hn⟩) _ _ k3⟩
   |et l=>
    simp only[n9]at aP|-
    exact D.aC (fun b _ hn=>⟨rfl,hB b hn⟩) _ _ aP
   |kg l last=>
    simp only[n9]at aP|-
    obtain⟨b,k1,k2⟩:=aP
    exact⟨b,k1,k2.mono (fun b _ hn=>⟨rfl,hB b hn⟩) rfl⟩
   |rA s pos=>
    simp only[n9]at aP|-
    exact aP
   |loop nf n env ps a b st pd=>
    simp only[n9]at aP hrefs|-
    obtain⟨b,r,k1,k2,k3,k4,k5,k6,k7,k8,k9,FA⟩:=aP
    exact⟨b,r,k1,k2,k3,k4,k5,k6,k7,k8,k9,fun i=>ec _ _ (fun r hr=>hrefs r (V.kG _ _ r hr)) (FA i)⟩
  ·subst heq
   have e2:H'.o id= .arr 0 ty sz es:=uH
   rw[e2]
   rcases hx with⟨rfl,rfl,ej⟩|⟨j,ep,hj,rfl,jB⟩
   ·refine⟨ej,[], ?_,[],by simp,by simp,rfl⟩
    rw[AQ rfl]
    exact World.ownsRow_nil _ _ _ _
   ·have this:aL M φ H w j:=hH.ok j
    unfold aL at this
    have e3:H.o j= .arr ep ty sz es:=jB
    simp only[e3]at this
    obtain⟨k1,xs,k2,evs,k3,k4,k5⟩:=this
    exact⟨k1,xs,by rw[AR j ep rfl];exact k2,evs,k3,k4,D.aI (fun b _ hn=>⟨rfl,hB b hn⟩) _ _ k5⟩
  ·have e2:H'.o id= .no:=Me id b7
   rw[e2]
   trivial
 ·obtain⟨i',a1,a2,a3⟩:=hold i k h1 h3
  obtain⟨j',b1,b2,b3⟩:=hold j k h2 h4
  have:=hH.apart i' j' k a1 b1 a2 b2
  have fK:∀cS j',(o' cS).live=true->cS<c->gone j'->cS≠j':=fun cS j' g1 g2 g3 g4=>by
   subst g4
   obtain⟨g5,g6⟩:=pc _ g3 g2
   rw[B1 _ g2 g5,g6]at g1
   cases g1
  rcases a3 with⟨a3,a4⟩|⟨a3,a4,_⟩<;>rcases b3 with⟨b3,b4⟩|⟨b3,b4,_⟩
  ·omega
  ·exact absurd (a4.symm.trans this) (fK i j' h1 a3 b4)
  ·exact absurd (b4.symm.trans this.symm) (fK j i' h2 b3 a4)
  ·omega
 ·have hi:=yE l 0 he i
  rw[Nat.zero_add]at hi
  exact yF _ _ _ hi (hd i)
 ·have bM:id<c:=by omega
  have hr:(o' id).bO=true:=hr
  exact⟨(mf id bM).1.1 hr,lD id bM⟩
 ·have bM:id<c:=by omega
  have fm:(o' id).aZ=some e':=fm
  exact⟨e',(mf id bM).1.2 e' fm,Nat.le_refl _,fun _=>lD id bM⟩
theorem bY.conv {b:Nat}{e:Nat->V}{so:Nat->ae}{m:Nat}(l:List V){o:Nat->ae}{c:Nat}{ty:TypeId}{sz:Nat}{es:List D}(x:V)(r0:Nat)(cs cs':List V)(JP:r0<c)(hb:b<=c)(Sm:c<=m)(hg:Good o c)(ho:∀id,id<c->id≠r0->so id=o id)(F4:so r0= .row cs)(a8:B3 c x so (fun id=>c<=id) cs cs')(hx:B0 so c ty sz es x)(he:B2 c x so (fun id=>c<=id) e l 0):
 bY b ⟨e,so,m⟩ ⟨bB l,aq (aq o c (.arr 0 ty sz es)) r0 (.row cs'),c+1⟩:=
 bY.Rs _ l x r0 cs cs' JP hb Sm hg (fun id h1 h2=>absurd h1 (by omega)) (fun id h1 h2=> .inl (ho id h1 h2)) F4 a8 hx he
theorem F5{xs ys:List Nat}:jX xs ys=true↔∀x∈xs,x∉ys:=by
 simp[jX,List.all_eq_true]
def ny(env:Nat->V):List V->Nat->Prop
 |[],_=>True
 |v::l,i=>(v= .ab\/v=env i)/\ny env l (i+1)
theorem uW{env:Nat->V}{i:Nat}:ny env [] i:=trivial
theorem sR{env:Nat->V}{l:List V}{i:Nat}(h:ny env l (i+1)):ny env (.ab::l) i:=⟨.inl rfl,h⟩
theorem B4{env:Nat->V}{l:List V}{i:Nat}{v:V}(he:env i=v)(h:ny env l (i+1)):ny env (v::l) i:=⟨.inr he.symm,h⟩
theorem yG{env:Nat->V}:∀ (l:List V) (i:Nat),ny env l i->∀j,bB l j= .ab\/bB l j=env (i+j)
 |[],i,_,j=>by rw[jq];exact .inl rfl
 |v::l,i,h,0=>by rw[iZ];exact h.1
 |v::l,i,h,j+1=>by
  rw[gS]
  have:=yG l (i+1) h.2 j
  rwa [show i+1+j=i+(j+1) by omega]at this
theorem Dr{P:Program}{n:Nat}{ps:List Nat}{x y:IC}{Q:fq->S->Prop}{e:Nat->V}{o:Nat->ae}{nx:Nat}{f:FuncId}{cap:List V}(env:List V)(he:ny e env 0)
 (h:eN P f (.ko nx::cap) (aq o nx (.loop P.funcs.size n env ps x y .ready none)) (nx+1)
  (fun _ o' nx'=>∃nf m en p c d st pd,o' nx= .loop nf m en p c d st pd/\st≠ .busy/\vN Q pd ⟨e,aq o' nx (.loop nf m en p c d .exhausted pd),nx'⟩) (fun v o' nx'=>Q (.bK v) ⟨e,o',nx'⟩)):
 AE P n false ps x y Q ⟨e,o,nx⟩ (.func (.func f) [] cap):=by
 unfold AE xP
 refine⟨rfl,env,fun i=> ?_, .inl h⟩
 have:=yG env 0 he i
 rwa [Nat.zero_add]at this
def sS(P:Program)(n b id:Nat)(gY:IC)(K X:V->(Nat->ae)->Nat->Prop)(e:fq)(s:S):Prop:=
 match e with
 | .normal=>∃nf m en p c d pd,s.o id= .loop nf m en p c d .ready pd/\ka P n b true gY (lB id K X) ⟨s.env,aq s.o id (.loop nf m en p c d .busy pd),s.nx⟩
 | .bK v=>X v s.o s.nx
 |_=>False
theorem dM.bt {P:Program}{n:Nat}(bc:P.follows .mixedOrders=true){id:Nat}{args:List V}{o:Nat->ae}{nx:Nat}{K X:V->(Nat->ae)->Nat->Prop}{env:List V}{ps:List Nat}{lS gY:IC}{st:LoopState}{pd:Option kn}
 (ho:o id= .loop P.funcs.size n env ps lS gY st pd) (bM:id<nx) (HY:ps.all (fun t=>decide (t<n))=true) (hl:args.length=ps.length)
 (h:ka P n nx true lS (sS P n nx id gY K X) ⟨sr (bB env) ps args,o,nx⟩):dM P id args o nx K X:=by
 refine dM.su bc ho bM HY hl (fE lS _ _ _ (fun e s h=> ?_) h)
 cases e with
 |normal=>
  obtain⟨nf,m,en,p,c,d,pd,h1,h2⟩:=h
  exact⟨nf,m,en,p,c,d,pd,h1,fE gY _ _ _ (fun _ _ h=>h) h2⟩
 |bK v=>exact h
 |_=>exact h.elim
theorem wC{P:Program}{n b id:Nat}{gY:IC}{K X:V->(Nat->ae)->Nat->Prop}{s:S}{nf m:Nat}{en:List V}{p:List Nat}{c d:IC}{pd:Option kn}(h:s.o id= .loop nf m en p c d .ready pd)
 (h2:ka P n b true gY (lB id K X) ⟨s.env,aq s.o id (.loop nf m en p c d .busy pd),s.nx⟩):sS P n b id gY K X .normal s:=⟨nf,m,en,p,c,d,pd,h,h2⟩
def tK:List Nat->Nat->Nat->Nat
 |[],nx,k=>nx+k
 |i::_,_,0=>i
 |_::l,nx,k+1=>tK l nx k
theorem wD:∀ (l:List Nat) (nx k:Nat),tK l nx k∈l\/nx<=tK l nx k
 |[],nx,k=> .inr (Nat.le_add_right _ _)
 |i::_,_,0=> .inl (List.mem_cons_self ..)
 |_::l,nx,k+1=>(wD l nx k).imp (List.mem_cons_of_mem _) id
theorem yH{nx:Nat}:∀ (l:List Nat),l.Nodup->(∀i∈l,i<nx)->∀a b,tK l nx a=tK l nx b->a=b
 |[],_,_,a,b,e=>by simp only[tK]at e;omega
 |i::l,_,_,0,0,_=>rfl
 |i::l,hd,hl,0,b+1,e=>by
  simp only[tK]at e
  rcases wD l nx b with h|h
  ·rw[<- e]at h;exact absurd h (List.nodup_cons.1 hd).1
  ·have:=hl i (List.mem_cons_self ..);omega
 |i::l,hd,hl,a+1,0,e=>by
  simp only[tK]at e
  rcases wD l nx a with h|h
  ·rw[e]at h;exact absurd h (List.nodup_cons.1 hd).1
  ·have:=hl i (List.mem_cons_self ..);omega
 |i::l,hd,hl,a+1,b+1,e=>by
  simp only[tK]at e
  rw[yH l (List.nodup_cons.1 hd).2 (fun j hj=>hl j (List.mem_cons_of_mem _ hj)) a b e]
def Ik(f:Nat->Nat)(x:List Nat×List Nat):List Nat×List Nat:=(x.1.map f,x.2.map f)
theorem sT{f:Nat->Nat}(hf:∀a b,f a=f b->a=b){xs ys:List Nat}(hd:jX xs ys=true):jX (xs.map f) (ys.map f)=true:=by
 rw[F5]at hd|-
 intro x hx hy
 obtain⟨a,ha,rfl⟩:=List.mem_map.1 hx
 obtain⟨b,hb,e⟩:=List.mem_map.1 hy
 rw[hf b a e]at hb
 exact hd a ha hb
theorem AS{f:Nat->Nat}(hf:∀a b,f a=f b->a=b){pr:List (List Nat)}(fp:List (List Nat×List Nat))(ho:eE pr fp=true):eE pr (fp.map (Ik f))=true:=by
 unfold eE at ho|-
 rw[List.all_eq_true]at ho|-
 intro j hj
 rw[List.length_map]at hj
 have ho:=ho j hj
 rw[List.all_eq_true]at ho|-
 intro i hi
 have ho:=ho i hi
 have hm:∀k,(fp.map (Ik f)).getD k ([],[])=Ik f (fp.getD k ([],[])):=fun k=>by
  rw[List.getD_eq_getElem?_getD,List.getD_eq_getElem?_getD,List.getElem?_map]
  cases fp[k]? <;>rfl
 rw[hm,hm]
 rw[Bool.or_eq_true]at ho|-
 refine ho.imp (fun h=>h) (fun ho=> ?_)
 rw[Bool.and_eq_true,Bool.and_eq_true]at ho|-
 exact⟨⟨sT hf ho.1.1,sT hf ho.1.2⟩,sT hf ho.2⟩
theorem cK{ids:List Nat}{nx:Nat}(hd:ids.Nodup)(hl:∀i∈ids,i<nx){pr:List (List Nat)}(fp:List (List Nat×List Nat))(ho:eE pr fp=true):eE pr (fp.map (Ik (tK ids nx)))=true:=
 AS (yH ids hd hl) fp ho
section
variable {P:Program}{KB:List Nat->Fp->Prop}{pr:List (List Nat)}{l:List cf}{fr:Nat}{fp:Fp}{bad ws:List Nat}{s:S}{d:Option Nat}{op:Op}
end
end Go.Proofs.YtealblliddhgiaaGreat
namespace Go.Proofs.YtealblliddhgiaaGreat
structure Gr where
 x:V
 ty:TypeId
 sz:Nat
 es:List D
def Gr.ok (so:Nat->ae)(gone:Nat->Prop)(g:Gr):Prop:=wB so gone g.ty g.sz g.es g.x
def F6(c:Nat)(G:List Gr)(so:Nat->ae)(gone:Nat->Prop)(v v':V):Prop:=
 v'= .ab\/(v'=v/\∀r∈v.refs,r<c)\/(∃i g,G[i]? =some g/\v'= .osl (c+i) 0/\v=g.x)\/∃y,v'= .d y/\dG so v=some y/\∀id∈v.ids,gone id/\∀g∈G,∀ep,g.x≠ .osl id ep
def mL(c:Nat)(G:List Gr)(so:Nat->ae)(gone:Nat->Prop)(env:Nat->V):List V->Nat->Prop
 |[],_=>True
 |v::l,i=>F6 c G so gone (env i) v/\mL c G so gone env l (i+1)
def wE(c:Nat)(G:List Gr)(so:Nat->ae)(gone:Nat->Prop):List V->List V->Prop
 |[],[]=>True
 |v::l,v'::l'=>F6 c G so gone v v'/\wE c G so gone l l'
 |_,_=>False
def wF(c:Nat)(G:List Gr)(so:Nat->ae)(gone:Nat->Prop)(x x':ae):Prop:=
 x'= .no\/(x=x'/\∀r∈x'.refs,r<c)\/∃cs cs',x= .row cs/\x'= .row cs'/\wE c G so gone cs cs'
section
variable {c:Nat}{G:List Gr}{so:Nat->ae}{gone:Nat->Prop}
theorem B5{env:Nat->V}:∀ (l:List V) (i:Nat),mL c G so gone env l i->∀j,F6 c G so gone (env (i+j)) (bB l j)
 |[],i,_,j=>by rw[jq];exact .inl rfl
 |v::l,i,h,0=>by rw[iZ];exact h.1
 |v::l,i,h,j+1=>by
  rw[gS]
  have:=B5 l (i+1) h.2 j
  rwa [show i+1+j=i+(j+1) by omega]at this
variable {env:Nat->V}{i:Nat}{l l':List V}{v:V}{y:D}
theorem bT:mL c G so gone env [] i:=trivial
theorem bF(h:mL c G so gone env l (i+1)):mL c G so gone env (.ab::l) i:=⟨.inl rfl,h⟩
theorem bq(he:env i= .d y)(h:mL c G so gone env l (i+1)):mL c G so gone env (.d y::l) i:=⟨.inr (.inl ⟨he.symm,fun r hr=>by rw[he]at hr;simp[V.refs]at hr⟩),h⟩
theorem dm(he:env i=v)(hr:∀r∈v.refs,r<c)(h:mL c G so gone env l (i+1)):mL c G so gone env (v::l) i:=⟨.inr (.inl ⟨he.symm,fun r CT=>hr r (he ▸ CT)⟩),h⟩
theorem dn(k:Nat){g:Gr}{n:Nat}(hg:G[k]? =some g)(hn:n=c+k)(he:env i=g.x)(h:mL c G so gone env l (i+1)):mL c G so gone env (.osl n 0::l) i:=⟨.inr (.inr (.inl ⟨k,g,hg,by rw[hn],he⟩)),h⟩
theorem dp(ht:dG so (env i)=some y)(hi:∀id∈(env i).ids,gone id/\∀g∈G,∀ep,g.x≠ .osl id ep)(h:mL c G so gone env l (i+1)):mL c G so gone env (.d y::l) i:=⟨.inr (.inr (.inr ⟨y,rfl,ht,hi⟩)),h⟩
theorem cU:wE c G so gone [] []:=trivial
theorem bU(h:wE c G so gone l l'):wE c G so gone (.d y::l) (.d y::l'):=⟨.inr (.inl ⟨rfl,fun r hr=>by simp[V.refs]at hr⟩),h⟩
theorem gz(k:Nat){g:Gr}{n:Nat}(hg:G[k]? =some g)(hn:n=c+k)(he:v=g.x)(h:wE c G so gone l l'):wE c G so gone (v::l) (.osl n 0::l'):=⟨.inr (.inr (.inl ⟨k,g,hg,by rw[hn],he⟩)),h⟩
theorem wG{x:ae}:wF c G so gone x .no:= .inl rfl
theorem aE{x x':ae}(h:x=x')(hr:∀r∈x'.refs,r<c):wF c G so gone x x':= .inr (.inl ⟨h,hr⟩)
theorem cV{x:ae}{cs cs':List V}(h:x= .row cs)(hr:wE c G so gone cs cs'):wF c G so gone x (.row cs'):= .inr (.inr ⟨cs,cs',h,rfl,hr⟩)
end
theorem pf{c:Nat}{G:List Gr}{so:Nat->ae}{gone:Nat->Prop}{B B':Nat->Prop}{φ ax:Place}{H H':Hp}{w:World}(hc:∀v v' val,F6 c G so gone v v'->V.den B φ H w v val->V.den B' ax H' w v' val):
 ∀ (l l':List V) (vals:List Value),wE c G so gone l l'->V.aB B φ H w l vals->V.aB B' ax H' w l' vals
 |[],[],_,_,h=>h
 |v::l,v'::l',_,h,hd=>by
  obtain⟨u,us,rfl,h1,h2⟩:=hd
  exact⟨u,us,rfl,hc _ _ _ h.1 h1,pf hc l l' us h.2 h2⟩
 |[],_::_,_,h,_=>h.elim
 |_::_,[],_,h,_=>h.elim
def F7(φ:Place)(c:Nat)(G:List Gr):Place:=fun id=>if id<c then φ id else match G[id - c]? with
 |some g=>(match g.x with| .osl j _=>φ j|_=> .slice none 0 0)
 |none=>φ id
theorem bY.XC (gone:Nat->Prop)(G:List Gr)(c:Nat){b:Nat}{e:Nat->V}{so:Nat->ae}{m:Nat}(l:List V){o':Nat->ae}{nx':Nat}(ml:nx'=c+G.length)(hb:b<=c)
 (ho:∀id,id<c->wF c G so gone (so id) (o' id)) (hG:∀i g,G[i]? =some g->o' (c+i)= .arr 0 g.ty g.sz g.es/\g.ok so gone) (hh:∀id,nx'<=id->o' id= .no) (pc:∀id,gone id->id<c->o' id= .no)
 (vP:∀ (i j:Nat) (gi gj:Gr) (id ep gG:Nat),G[i]? =some gi->G[j]? =some gj->gi.x= .osl id ep->gj.x= .osl id gG->i=j) (he:mL c G so gone e l 0):bY b ⟨e,so,m⟩ ⟨bB l,o',nx'⟩:=by
 subst ml
 intro M φ w tm hH hd
 let ax:Place:=F7 φ c G
 let H':Hp:=hp o' (c+G.length)
 let H:Hp:=⟨so,fun id=>id<m⟩
 have lD:∀id,id<c->ax id=φ id:=fun id aj=>if_pos aj
 have F8:∀i g,G[i]? =some g->ax (c+i)=(match g.x with| .osl j _=>φ j|_=> .slice none 0 0):=fun i g hg=>by
  show F7 φ c G (c+i)=_
  unfold F7
  rw[if_neg (by omega),show c+i - c=i by omega,hg]
 have hold:∀id k,(o' id).live=true->dS (ax id)=some k->∃j,(so j).live=true/\dS (φ j)=some k/\((id<c/\j=id)\/∃i g ep,id=c+i/\G[i]? =some g/\gone j/\g.x= .osl j ep):=by
  intro id k h1 h2
  by_cases bM:id<c
  ·rw[lD id bM]at h2
   rcases ho id bM with h3|⟨h3,_⟩|⟨cs,cs',h3,h4,_⟩
   ·rw[h3]at h1;cases h1
   ·exact⟨id,by rw[h3];exact h1,h2, .inl ⟨bM,rfl⟩⟩
   ·exact⟨id,by rw[h3];rfl,h2, .inl ⟨bM,rfl⟩⟩
  ·by_cases zS:c+G.length<=id
   ·rw[hh id zS]at h1;cases h1
   ·obtain⟨i,rfl⟩:∃i,id=c+i:=⟨id - c,by omega⟩
    obtain⟨g,hg⟩:∃g,G[i]? =some g:=⟨G[i]'(by omega),by simp⟩
    rw[F8 i g hg]at h2
    obtain⟨_,bz⟩:=hG i g hg
    rcases bz with⟨h3,_,_⟩|⟨j,ep,hj,h3,jB⟩
    ·rw[h3]at h2;cases h2
    ·rw[h3]at h2
     exact⟨j,by rw[jB];rfl,h2, .inr ⟨i,g,ep,rfl,hg,hj,h3⟩⟩
 have bS:∀k,bR ax H' k->bR φ H k:=by
  rintro k ⟨id,h1,h2⟩
  obtain⟨j,g1,g2,_⟩:=hold id k h1 h2
  exact⟨j,g1,g2⟩
 have hB:∀k, ¬ai M φ H k-> ¬ai M ax H' k:=fun k h h'=>h (h'.imp id (bS k))
 have mf:∀id,id<c->iG (H'.o id) (H.o id)/\ax id=φ id/\H'.us id:=fun id aj=>by
  refine⟨?_,lD id aj,(by show id<c+G.length;omega)⟩
  show iG (o' id) (so id)
  rcases ho id aj with h3|⟨h3,_⟩|⟨cs,cs',h3,h4,_⟩
  ·rw[h3];exact⟨fun h=>(by cases h),fun e h=>(by cases h)⟩
  ·exact iG.rfl' h3.symm
  ·rw[h3,h4];exact iG.row _ _
 have ec:∀ (v:V) (val:Value),(∀r∈v.refs,r<c)->V.den (ai M φ H) φ H w v val->V.den (ai M ax H') ax H' w v val:=fun v val hr h=>
  V.jv (H:=H) (H':=H') hB v val (fun id aj=>mf id (hr id aj)) h
 have jN:∀ (v:List V) (val:List Value),(∀r∈V.ag v,r<c)->V.aB (ai M φ H) φ H w v val->V.aB (ai M ax H') ax H' w v val:=fun v val hr h=>
  V.fY (H:=H) (H':=H') hB v val (fun id aj=>mf id (hr id aj)) h
 have Mf:∀ (v:V) (y:D) (val:Value),dG so v=some y->(∀id∈v.ids,gone id/\∀g∈G,∀ep,g.x≠ .osl id ep)->V.den (ai M φ H) φ H w v val->D.den (ai M ax H') w y val:=fun v y val h1 h2 h3=>by
  obtain⟨f1,f2,f3,f4,f5⟩:=cM (H:=H) hH v.ids (fun id aj=>cJ v val h3 id aj)
  have Rt:∀k,bR φ (H.put (cw H.o v.ids)) k->bR φ H k:=by
   rintro k ⟨id,g1,g2⟩
   by_cases aj:id∈v.ids
   ·rw[f3 id aj]at g1
    refine⟨id, ?_,g2⟩
    revert g1
    cases H.o id<;>simp[ae.fz,ae.live]
   ·rw[f4 id aj]at g1;exact⟨id,g1,g2⟩
  have h4:V.den (ai M φ (H.put (cw H.o v.ids))) φ (H.put (cw H.o v.ids)) w v val:=
   V.jv (H:=H) (fun k h h'=>h (h'.imp id (Rt k))) v val (fun id aj=>by
     have dB:H.us id:=(V.kI v val h3) id aj
     refine⟨?_,rfl,(f5 id).2 dB⟩
     by_cases hm:id∈v.ids
     ·rw[f3 id hm];exact iG.fz _
     ·rw[f4 id hm];exact iG.rfl' rfl) h3
  have h5:=ed f1 (o:=so) v y val (fun id aj=>f3 id aj) h1 h4
  refine D.aC (w:=w) (w':=w) (fun k _ hn=>⟨rfl,fun hk=>hn (hk.imp id ?_)⟩) y val h5
  rintro⟨id,g1,g2⟩
  obtain⟨j,k1,k2,k3⟩:=hold id k g1 g2
  refine⟨j, ?_,k2⟩
  have:j∉v.ids:=fun hm=>by
   obtain⟨k4,k5⟩:=h2 j hm
   rcases k3 with⟨k6,k7⟩|⟨i,g,ep,k6,k8,k9,FA⟩
   ·subst k7
    have:=pc _ k4 k6
    have g1:(o' j).live=true:=g1
    rw[this]at g1
    cases g1
   ·exact k5 g (List.mem_of_getElem? k8) ep FA
  rw[f4 j this];exact k1
 have uV:∀i g val,G[i]? =some g->V.den (ai M φ H) φ H w g.x val->V.den (ai M ax H') ax H' w (.osl (c+i) 0) val:=by
  intro i g val hg this
  obtain⟨uH,bz⟩:=hG i g hg
  have bM:c+i<c+G.length:=by have:=(List.getElem?_eq_some_iff.1 hg).1;omega
  rcases bz with⟨h3,_,_⟩|⟨j,ep,hj,h3,jB⟩
  ·rw[h3]at this
   simp only[V.den]at this
   rw[this]
   refine⟨rfl,bM,fun e' fm=> ?_⟩
   have fm:(o' (c+i)).aZ=some e':=fm
   rw[uH]at fm
   simp only[ae.aZ,Option.some.injEq]at fm
   subst fm
   exact⟨Nat.le_refl _,fun _=>by rw[F8 i g hg,h3]⟩
  ·rw[h3]at this
   obtain⟨g1,g2,g3⟩:=this
   refine⟨g1,bM,fun e' fm=> ?_⟩
   have fm:(o' (c+i)).aZ=some e':=fm
   rw[uH]at fm
   simp only[ae.aZ,Option.some.injEq]at fm
   subst fm
   have rI:(H.o j).aZ=some ep:=by show(so j).aZ=_;rw[jB];rfl
   exact⟨Nat.le_refl _,fun _=>by rw[F8 i g hg,h3];exact(g3 ep rI).2 rfl⟩
 have yF:∀v v' val,F6 c G so gone v v'->V.den (ai M φ H) φ H w v val->V.den (ai M ax H') ax H' w v' val:=by
  intro v v' val h h1
  rcases h with rfl|⟨rfl,h2⟩|⟨i,g,hg,rfl,rfl⟩|⟨y,rfl,h2,h3⟩
  ·trivial
  ·exact ec _ _ h2 h1
  ·exact uV i g _ hg h1
  ·exact Mf v y val h2 h3 h1
 refine⟨ax,⟨fun id=> ?_,fun id hu=>hh id (by have: ¬id<c+G.length:=hu;omega),fun i j k h1 h2 h3 h4=> ?_,fun k hk=>hH.ours k (bS k hk),hH.tA⟩,fun i=> ?_,bS,by show b<=c+G.length;omega,fun id aj hr=> ?_,fun id e' aj fm=> ?_⟩
 ·have aP:aL M φ H w id:=hH.ok id
  show aL M ax H' w id
  unfold aL at aP|-
  by_cases bM:id<c
  ·rcases ho id bM with h3|⟨h3,hrefs⟩|⟨cs,cs',h3,h4,a8⟩
   ·have e2:H'.o id= .no:=h3
    rw[e2];trivial
   ·have e1:H.o id=o' id:=h3
    have e2:H'.o id=o' id:=rfl
    rw[e1]at aP
    rw[e2,lD id bM]
    cases n9:o' id with
    |no=>trivial
    |row cs=>
     simp only[n9]at aP hrefs|-
     obtain⟨b,cX,ty,k1,k2,k3,k4⟩:=aP
     exact⟨b,cX,ty,k1,k2,jN _ _ hrefs k3,k4⟩
    |arr ep ty sz es=>
     simp only[n9]at aP|-
     obtain⟨k1,xs,k2,evs,k3,k4,k5⟩:=aP
     exact⟨k1,xs,k2,evs,k3,k4,D.aI (fun b _ hn=>⟨rfl,hB b hn⟩) _ _ k5⟩
    |oh ep es=>
     simp only[n9]at aP|-
     exact D.aC (fun b _ hn=>⟨rfl,hB b hn⟩) _ _ aP
    |map kt vt es=>
     simp only[n9]at aP|-
     obtain⟨b,es',clock,k1,k2,k4,k3⟩:=aP
     exact⟨b,es',clock,k1,k2,k4,aH.mono (fun b _ hn=>⟨rfl,hB b hn⟩) _ _ k3⟩
    |et l=>
     simp only[n9]at aP|-
     exact D.aC (fun b _ hn=>⟨rfl,hB b hn⟩) _ _ aP
    |kg l last=>
     simp only[n9]at aP|-
     obtain⟨b,k1,k2⟩:=aP
     exact⟨b,k1,k2.mono (fun b _ hn=>⟨rfl,hB b hn⟩) rfl⟩
    |rA s pos=>
     simp only[n9]at aP|-
     exact aP
    |loop nf n env ps a b st pd=>
     simp only[n9]at aP hrefs|-
     obtain⟨b,r,k1,k2,k3,k4,k5,k6,k7,k8,k9,FA⟩:=aP
     exact⟨b,r,k1,k2,k3,k4,k5,k6,k7,k8,k9,fun i=>ec _ _ (fun r hr=>hrefs r (V.kG _ _ r hr)) (FA i)⟩
   ·have e1:H.o id= .row cs:=h3
    have e2:H'.o id= .row cs':=h4
    rw[e1]at aP
    rw[e2,lD id bM]
    obtain⟨b,cX,ty,k1,k2,k3,k4⟩:=aP
    exact⟨b,cX,ty,k1,k2,pf yF _ _ _ a8 k3,k4⟩
  ·by_cases zS:c+G.length<=id
   ·have e2:H'.o id= .no:=hh id zS
    rw[e2];trivial
   ·obtain⟨i,rfl⟩:∃i,id=c+i:=⟨id - c,by omega⟩
    obtain⟨g,hg⟩:∃g,G[i]? =some g:=⟨G[i]'(by omega),by simp⟩
    obtain⟨uH,bz⟩:=hG i g hg
    have e2:H'.o (c+i)= .arr 0 g.ty g.sz g.es:=uH
    rw[e2]
    rcases bz with⟨h3,h4,ej⟩|⟨j,ep,hj,h3,jB⟩
    ·rw[h4]
     refine⟨ej,[], ?_,[],by simp,by simp,rfl⟩
     rw[F8 i g hg,h3]
     exact World.ownsRow_nil _ _ _ _
    ·have this:aL M φ H w j:=hH.ok j
     unfold aL at this
     have e3:H.o j= .arr ep g.ty g.sz g.es:=jB
     simp only[e3]at this
     obtain⟨k1,xs,k2,evs,k3,k4,k5⟩:=this
     exact⟨k1,xs,by rw[F8 i g hg,h3];exact k2,evs,k3,k4,D.aI (fun b _ hn=>⟨rfl,hB b hn⟩) _ _ k5⟩
 ·obtain⟨i',a1,a2,a3⟩:=hold i k h1 h3
  obtain⟨j',b1,b2,b3⟩:=hold j k h2 h4
  have:=hH.apart i' j' k a1 b1 a2 b2
  subst this
  have fK:∀cS,(o' cS).live=true->cS<c->gone cS->False:=fun cS g1 g2 g3=>by
   rw[pc _ g3 g2]at g1
   cases g1
  rcases a3 with⟨a3,a4⟩|⟨ia,ga,ea,a3,a4,a5,a6⟩<;>rcases b3 with⟨b3,b4⟩|⟨ib,gb,eb,b3,b4,b5,b6⟩
  ·omega
  ·exact(fK i h1 a3 (a4 ▸ b5)).elim
  ·exact(fK j h2 b3 (b4 ▸ a5)).elim
  ·have:=vP ia ib ga gb _ _ _ a4 b4 a6 b6
   omega
 ·have hi:=B5 l 0 he i
  rw[Nat.zero_add]at hi
  exact yF _ _ _ hi (hd i)
 ·have bM:id<c:=by omega
  have hr:(o' id).bO=true:=hr
  exact⟨(mf id bM).1.1 hr,lD id bM⟩
 ·have bM:id<c:=by omega
  have fm:(o' id).aZ=some e':=fm
  exact⟨e',(mf id bM).1.2 e' fm,Nat.le_refl _,fun _=>lD id bM⟩
theorem bY.VA (gone:Nat->Prop)(c:Nat){b:Nat}{e:Nat->V}{so:Nat->ae}{m:Nat}(l:List V){o':Nat->ae}(hb:b<=c)
 (ho:∀id,id<c->wF c [] so gone (so id) (o' id)) (hh:∀id,c<=id->o' id= .no) (pc:∀id,gone id->id<c->o' id= .no) (he:mL c [] so gone e l 0):bY b ⟨e,so,m⟩ ⟨bB l,o',c⟩:=
 bY.XC gone [] c l rfl hb ho (fun i g h=>by cases h) hh pc (fun i j gi gj id ep gG h=>by cases h) he
theorem bY.iq (gone:Nat->Prop)(x:V)(c:Nat){ty:TypeId}{sz:Nat}{es:List D}{b:Nat}{e:Nat->V}{so:Nat->ae}{m:Nat}(l:List V){o':Nat->ae}(hb:b<=c)
 (ho:∀id,id<c->wF c [⟨x,ty,sz,es⟩] so gone (so id) (o' id)) (hc:o' c= .arr 0 ty sz es) (hx:wB so gone ty sz es x) (hh:∀id,c+1<=id->o' id= .no) (pc:∀id,gone id->id<c->o' id= .no)
 (he:mL c [⟨x,ty,sz,es⟩] so gone e l 0):bY b ⟨e,so,m⟩ ⟨bB l,o',c+1⟩:=
 bY.XC gone [⟨x,ty,sz,es⟩] c l rfl hb ho (fun i g h=>by
  match i,h with
  |0,h=>simp at h;subst h;exact⟨hc,hx⟩) hh pc (fun i j gi gj id ep gG h h' _ _=>by
  match i,j,h,h' with
  |0,0,_,_=>rfl) he
theorem Zl{P:Nat->Prop}:∀id,id<0->P id:=fun id aj=>by omega
@[go_sem] theorem XE (b:Bool):(b==false)= !b:=by cases b<;>rfl
@[go_sem] theorem XF (b:Bool):(b==true)=b:=by cases b<;>rfl
@[go_sem] theorem Ru (c:Bool) (v:V):V.we c (V.we c v)=V.we c v:=by cases c<;>rfl
@[go_sem] theorem Rv (c:Bool):(c&&c)=c:=by cases c<;>rfl
@[go_sem] theorem NB {α:Type} (f:α->D) (l:List α) (n:Nat) (h:∀x,(f x).cells.length=n):((l.map f).all fun z=>z.cells.length==n)=true:=by
  simp[List.all_eq_true,h]
attribute [go_sem] implies_true
attribute [go_sem] Option.isSome_none Option.getD_some Option.getD_none
theorem structOf{P:Program}{t:TypeId}(h:(match P.underlying t with|some (.struct _)=>true|_=>false)=true):∃fs,P.underlying t=some (.struct fs):=by
 split at h
 ·exact⟨_,by assumption⟩
 ·cases h
theorem bw{pr:List (List Nat)}{fp:List (List Nat×List Nat)}(h:fp.all (fun x=>x.2.isEmpty)=true):eE pr fp=true:=by
 have e:∀i,(fp.getD i ([],[])).2=[]:=fun i=>by
  rw[List.getD_eq_getElem?_getD]
  cases hi:fp[i]? with
  |none=>rfl
  |some x=>simpa using List.all_eq_true.1 h x (List.mem_of_getElem? hi)
 simp only[eE,List.all_eq_true,e,jX,List.all_nil,Bool.and_self,Bool.or_true,implies_true]
structure gA (base:Nat) (h o:Nat->ae) (nx:Nat):Prop where
 cY:Good o nx
 le:base<=nx
 eq:∀id,id<base->o id=h id
def Rw(base:Nat)(h:Nat->ae)(v:V)(o:Nat->ae)(nx:Nat)(K:V->(Nat->ae)->Nat->Prop):Prop:=
 ∀o' nx',nx<=nx'->gA base h o' nx'->(∀id,base<=id->id<nx->o' id=o id)->K v o' nx'
def xc(P:Program)(g:FuncId)(args:List V)(base:Nat)(h h2:Nat->ae)(v:V):Prop:=
 ∀o nx,gA base h o nx->∀K X,Rw base h2 v o nx K->eN P g args o nx K X
theorem gA.aq {base:Nat}{h o:Nat->ae}{nx m i:Nat}{x:ae}(hI:gA base h o nx)(hb:base<=i)(hi:i<m)(hm:nx<=m)(hx:x.refs.all (fun r=>decide (r<m))=true):gA base h (YtealblliddhgiaaGreat.aq o i x) m:=
 ⟨(hI.cY.mono hm).aq hi hx,Nat.le_trans hI.le hm,fun id aj=>by rw[ad _ _ _ _ (by omega)];exact hI.eq id aj⟩
theorem gA.mono {base:Nat}{h o:Nat->ae}{nx m:Nat}(hI:gA base h o nx)(hm:nx<=m):gA base h o m:=⟨hI.cY.mono hm,Nat.le_trans hI.le hm,hI.eq⟩
def ext(base:Nat)(h o:Nat->ae):Nat->ae:=fun id=>if id<base then h id else o id
theorem gA.ext {base c:Nat}{h o:Nat->ae}{nx:Nat}(hI:gA base h o nx)(hc:c<=nx)(hb:base<=c):gA c (YtealblliddhgiaaGreat.ext base h o) o nx:=
 ⟨hI.cY,hc,fun id _=>by unfold YtealblliddhgiaaGreat.ext;split<;>first|exact hI.eq id (by assumption)|rfl⟩
theorem xc.ext {P:Program}{g:FuncId}{args:List V}{base c:Nat}{h h2:Nat->ae}{v:V}(hS:xc P g args base h h2 v)(hb:base<=c)(o0:Nat->ae):xc P g args c (YtealblliddhgiaaGreat.ext base h o0) (YtealblliddhgiaaGreat.ext base h2 o0) v:=by
 intro o nx hI K X hK
 refine hS o nx ⟨hI.cY,Nat.le_trans hb hI.le,fun id aj=>by rw[hI.eq id (by omega)];unfold YtealblliddhgiaaGreat.ext;rw[if_pos aj]⟩ K X fun o' nx' h1 h2 h3=>hK o' nx' h1 ⟨h2.cY,Nat.le_trans hI.le h1,fun id aj=> ?_⟩ (fun id h4 h5=>h3 id (by omega) h5)
 unfold YtealblliddhgiaaGreat.ext
 split
 ·exact h2.eq id (by assumption)
 ·rename_i hn
  rw[h3 id (by omega) (by have:=hI.le;omega),hI.eq id aj]
  unfold YtealblliddhgiaaGreat.ext;rw[if_neg hn]
theorem Rw.ext {base c:Nat}{h o:Nat->ae}{v:V}{o1:Nat->ae}{nx xa:Nat}{K:V->(Nat->ae)->Nat->Prop}(hK:Rw base h v o nx K)(hb:base<=c)(hn:nx<=xa)(hc:nx<=c)(ho:∀id,base<=id->id<nx->o1 id=o id):Rw c (YtealblliddhgiaaGreat.ext base h o1) v o1 xa K:=by
 intro o' nx' h1 h2 h3
 refine hK o' nx' (by omega) ⟨h2.cY,Nat.le_trans hb h2.le,fun id aj=> ?_⟩ fun id h4 h5=> ?_
 ·rw[h2.eq id (by omega)];unfold YtealblliddhgiaaGreat.ext;rw[if_pos aj]
 ·rw[h2.eq id (by omega), <- ho id h4 h5];unfold YtealblliddhgiaaGreat.ext;rw[if_neg (by omega)]
def aO{α σ:Type}(step:σ->α->σ×Bool)(s:σ):List α->σ×Bool
 |[]=>(s,true)
 |x::l=>if(step s x).2=true then aO step (step s x).1 l else((step s x).1,false)
theorem yI{P:Program}{id:Nat}{args:List V}{e:Nat->V}{o:Nat->ae}{nx:Nat}{K X:V->(Nat->ae)->Nat->Prop}(h:dM P id args o nx K X):uK P id K X ⟨e,o,nx⟩ args:=by unfold uK;exact h
theorem wH{α:Type}(f:Nat->α)(i:Nat)(x y:α):aq (aq f i x) i y=aq f i y:=by
 funext j;simp only[aq];split<;>rfl
attribute [go_sem] Int.cast_ofNat_Int
section
variable {P:Program}{n:Nat}{ps:List Nat}{x y:IC}{env:List V}{L:LoopState->Option kn->ae}
def jw(P:Program)(n:Nat)(env:List V)(ps:List Nat)(x y:IC)(L:LoopState->Option kn->ae):Prop:=∀st pd,L st pd= .loop P.funcs.size n env ps x y st pd
theorem Mg{Q:fq->S->Prop}{e:Nat->V}{o:Nat->ae}{nx:Nat}{f:FuncId}{cap:List V}(env:List V)(he:ny e env 0)
 (h:∀L,jw P n env ps x y L->eN P f (.ko nx::cap) (aq o nx (L .ready none)) (nx+1)
  (fun _ o' nx'=>∃st pd,o' nx=L st pd/\st≠ .busy/\vN Q pd ⟨e,aq o' nx (L .exhausted pd),nx'⟩) (fun v o' nx'=>Q (.bK v) ⟨e,o',nx'⟩)):
 AE P n false ps x y Q ⟨e,o,nx⟩ (.func (.func f) [] cap):=by
 refine Dr env he ?_
 have:=h (fun st pd=> .loop P.funcs.size n env ps x y st pd) (fun _ _=>rfl)
 refine this.mono (fun v o' nx' hh=> ?_) (fun v o' nx' hh=>hh)
 obtain⟨st,pd,h1,h2,h3⟩:=hh
 exact⟨_,_,_,_,_,_,_,_,h1,h2,h3⟩
theorem F9(hL:jw P n env ps x y L)(bc:P.follows .mixedOrders=true){id:Nat}{args:List V}{o:Nat->ae}{nx:Nat}{K X:V->(Nat->ae)->Nat->Prop}{st:LoopState}{pd:Option kn}
 (ho:o id=L st pd) (bM:id<nx) (HY:ps.all (fun t=>decide (t<n))=true) (hl:args.length=ps.length)
 (h:ka P n nx true x (sS P n nx id y K X) ⟨sr (bB env) ps args,o,nx⟩):dM P id args o nx K X:=
 dM.bt bc (ho.trans (hL st pd)) bM HY hl h
theorem yJ(hL:jw P n env ps x y L){b id:Nat}{gY:IC}{K X:V->(Nat->ae)->Nat->Prop}{e:Nat->V}{o:Nat->ae}{nx:Nat}{pd:Option kn}(h:o id=L .ready pd)
 (h2:ka P n b true gY (lB id K X) ⟨e,aq o id (L .busy pd),nx⟩):sS P n b id gY K X .normal ⟨e,o,nx⟩:=by
 refine wC (h.trans (hL _ _)) ?_
 rw[<- hL];exact h2
theorem Ds(hL:jw P n env ps x y L){id:Nat}{K X:V->(Nat->ae)->Nat->Prop}{e:Nat->V}{o:Nat->ae}{nx:Nat}{st:LoopState}{pd:Option kn}(h:o id=L st pd)(k:K (.d (.bool true)) (aq o id (L .ready none)) nx):lB id K X .normal ⟨e,o,nx⟩:=
 ⟨_,_,_,_,_,_,_,_,h.trans (hL _ _),by rw[<- hL];exact k⟩
theorem AU(hL:jw P n env ps x y L){id:Nat}{K X:V->(Nat->ae)->Nat->Prop}{e:Nat->V}{o:Nat->ae}{nx:Nat}{st:LoopState}{pd:Option kn}(h:o id=L st pd)(k:K (.d (.bool false)) (aq o id (L .done (some .ret))) nx):lB id K X .ret ⟨e,o,nx⟩:=
 ⟨_,_,_,_,_,_,_,_,h.trans (hL _ _),by rw[<- hL];exact k⟩
theorem yK(hL:jw P n env ps x y L){id j:Nat}{K X:V->(Nat->ae)->Nat->Prop}{e:Nat->V}{o:Nat->ae}{nx:Nat}{st:LoopState}{pd:Option kn}(h:o id=L st pd)(k:K (.d (.bool false)) (aq o id (L .done (some (.exit j)))) nx):lB id K X (.exit j) ⟨e,o,nx⟩:=
 ⟨_,_,_,_,_,_,_,_,h.trans (hL _ _),by rw[<- hL];exact k⟩
theorem jw.no (hL:jw P n env ps x y L)(st:LoopState)(pd:Option kn):L st pd≠ .no:=by rw[hL];exact ae.noConfusion
theorem jw.refs (hL:jw P n env ps x y L)(st:LoopState)(pd:Option kn):(L st pd).refs=V.ag env:=by rw[hL];rfl
end
end Go.Proofs.YtealblliddhgiaaGreat
namespace Go.Proofs.YtealblliddhgiaaGreat
attribute [go_sem_proc] Int.reduceBEq Int.reduceBNe Int.reduceLT Int.reduceLE Int.reduceEq Int.reduceNe Nat.reducePow Nat.reduceEqDiff Nat.reduceAdd Nat.reduceSub Nat.reduceMul Nat.reduceLeDiff Nat.reduceBEq Nat.reduceLT reduceIte reduceCtorEq Int.reduceToNat
attribute [go_sem] List.range_zero Option.isSome_some and_self List.cons.injEq
theorem p4(n low high:Int):cq Tryz.prog 55 [.i n, .i low, .i high] (.ret [.bool (fg n low high)]):=by
 refine cq.bt mix PZ (by simp) ?_
 rw[UT]
 simp+contextual only[go_sem]
 rfl
theorem Ga{t:Tm}{left depth:Int}(h:left<1\/depth<1):il t left depth= -1:=by cases t;simp[il,h]
theorem nV{l:List Tm}{left depth:Int}(h:left<0):cz l left depth=left:=by
 cases l with
 |nil=>rfl
 |cons k l=>simp[cz,show ¬ (0<=left) by omega]
theorem Gb:∀t:Tm,∀left depth:Int, -1<=il t left depth/\(1<=left->il t left depth<=left - 1)/\(left<1->il t left depth= -1):=by
 refine Tm.ind fun op n kids ih left depth=> ?_
 have hs:∀ (l:List Tm) (left d:Int),(∀k∈l,k∈kids)-> -1<=left-> -1<=cz l left d/\cz l left d<=left:=by
  intro l
  induction l with
  |nil=>intro left d _ h;simp[cz,h]
  |cons k l tL=>
   intro left d hk h
   simp only[cz]
   split
   ·rename_i h0
    have h1:=ih k (hk k (by simp)) left d
    have h2:=tL (il k left d) d (fun x hx=>hk x (by simp[hx])) h1.1
    by_cases hl:1<=left
    ·have:=h1.2.1 hl;omega
    ·have:=h1.2.2 (by omega);omega
   ·omega
 simp only[il]
 split
 ·rename_i h;refine⟨by omega,fun h1=> ?_,fun _=>rfl⟩;omega
 ·rename_i h
  have:=hs kids (left - 1) (depth - 1) (fun _ h=>h) (by omega)
  exact⟨this.1,fun _=>this.2,fun h=>by omega⟩
theorem Dt(l:List Tm)(left d:Int)(h: -1<=left): -1<=cz l left d/\cz l left d<=left:=by
 induction l generalizing left with
 |nil=>simp[cz,h]
 |cons k l tL=>
  simp only[cz]
  split
  ·have h1:=Gb k left d
   have h2:=tL (il k left d) h1.1
   by_cases hl:1<=left
   ·have:=h1.2.1 hl;omega
   ·have:=h1.2.2 (by omega);omega
  ·omega
theorem nz(a b:List Tm)(left d:Int):cz (a++b) left d=cz b (cz a left d) d:=by
 induction a generalizing left with
 |nil=>rfl
 |cons k a ih=>
  simp only[List.cons_append,cz]
  split
  ·exact ih _
  ·rename_i h;rw[nV (by omega)]
theorem yL{l:List Tm}{i:Nat}{k:Tm}(hi:l[i]? =some k)(left d:Int)(h:0<=cz (l.take i) left d):cz (l.take (i+1)) left d=il k (cz (l.take i) left d) d:=by
 rw[List.take_add_one,hi,nz]
 simp[cz,h]
theorem yM{l:List Tm}{i:Nat}(left d:Int)(h:cz (l.take i) left d<0):cz l left d=cz (l.take i) left d:=by
 conv=>lhs;rw[<- List.take_append_drop i l]
 rw[nz,nV h]
@[reducible] def nW (cs:List V):Nat->ae:=aq (fun _=> .no) 0 (.row cs)
@[reducible] def Gc (cs ds:List V):Nat->ae:=aq (aq (fun _=> .no) 0 (.row cs)) 1 (.row ds)
theorem b8{cs:List V}(h:(ae.row cs).refs.all (fun r=>decide (r<1))=true):Good (nW cs) 1:=(Good.nil (nx:=1)).aq (by omega) h
theorem qD{cs ds:List V}(h:(ae.row cs).refs.all (fun r=>decide (r<2))=true)(h2:(ae.row ds).refs.all (fun r=>decide (r<2))=true):Good (Gc cs ds) 2:=((Good.nil (nx:=2)).aq (by omega) h).aq (by omega) h2
theorem bY.d1 {e:Nat->V}{so o:Nat->ae}{m:Nat}(l:List V)(hg:Good o 1)(hm:1<=m)(h0:so 0=o 0)(he:eA 1 e l 0):bY 0 ⟨e,so,m⟩ ⟨bB l,o,1⟩:=
 bY.cT l (Nat.zero_le _) hm hg (fun id h=>by obtain rfl:id=0:=by omega
                                             exact h0) he
theorem bY.d2 {e:Nat->V}{so o:Nat->ae}{m:Nat}(l:List V)(hg:Good o 2)(hm:2<=m)(h0:so 0=o 0)(h1:so 1=o 1)(he:eA 2 e l 0):bY 0 ⟨e,so,m⟩ ⟨bB l,o,2⟩:=
 bY.cT l (Nat.zero_le _) hm hg (fun id h=>by
  rcases(by omega:id=0\/id=1)with rfl|rfl
  ·exact h0
  ·exact h1) he
@[reducible] def Tm.row (t:Tm):List V:=[.d (.i t.op), .d (.i t.n), .d (.sl (t.kids.map Tm.d))]
theorem yN(t:Tm)(left depth:Int):il t left depth=if left<1\/depth<1 then -1 else cz t.kids (left - 1) (depth - 1):=by cases t;simp[il,Tm.kids]
theorem B6:∀t:Tm,t.fits->∀left depth:Int, -1<=left/\left<=1000000-> -1<=depth/\depth<=1000000->cq Tryz.prog 58 [t.d, .i left, .i depth] (.ret [.i (il t left depth)]):=by
 refine Tm.jC fun t ih hf left depth hl hd=> ?_
 have rP:=(Tm.dy _).1 hf
 refine cq.bt mix P0 (by simp) ?_
 rw[UX]
 simp+contextual only[go_sem]
 refine ay (fun h1=> ?_) (fun h1=> ?_)
 ·simp+contextual only[go_sem]
  simp at h1
  rw[Ga h1]
 ·simp at h1
  simp+contextual only[go_sem]
  rw[wrap64 (n:=left - 1) (by omega) (by omega),yN,if_neg (by omega)]
  refine aX (fun k:Nat=>⟨bB [.ab, .d (.i (cz (t.kids.take k) (left - 1) (depth - 1))), .d (.i depth), .ptr 0 0, .ab, .ab, .ab, .d (.i k)],nW t.row,1⟩)
   (fun k=>k<=t.kids.length) (fun k=>t.kids.length - k) 0 (Nat.zero_le _) (bY.d1 _ (b8 rfl) (by omega) rfl ?_) (fun k hk=> ?_)
  ·(repeat(first|exact aw|refine ao ?_|refine ah rfl ?_|refine ah (aT (aS (by omega))) ?_|refine aF rfl (by simp[V.refs,V.ag]<;>first|omega|assumption) ?_))
  have hb:=Dt (t.kids.take k) (left - 1) (depth - 1) (by omega)
  simp+contextual only[go_sem]
  refine ay (fun h2=> ?_) (fun h2=> ?_)
  ·simp at h2
   obtain⟨x,hx⟩:∃x,t.kids[k]? =some x:=⟨t.kids[k],by simp[h2.1]⟩
   have kU:=List.mem_of_getElem? hx
   simp+contextual only[go_sem,hx]
   rw[wrap64 (n:=depth - 1) (by omega) (by omega)]
   refine aM (ih x kU (rP.2 x kU) _ _ (by omega) (by omega)) rfl ?_
   simp+contextual only[go_sem]
   rw[<- yL hx _ _ h2.2]
   refine az (k+1) h2.1 (by omega) (bY.d1 _ (b8 rfl) (by omega) rfl ?_)
   (repeat(first|exact aw|refine ao ?_|refine ah rfl ?_|refine ah (aT (aS (by omega))) ?_|refine aF rfl (by simp[V.refs,V.ag]<;>first|omega|assumption) ?_))
  ·simp+contextual only[go_sem]
   simp only[Bool.and_eq_false_iff,decide_eq_false_iff_not]at h2
   congr 3
   rcases h2 with h2|h2
   ·rw[List.take_of_length_le (by omega)]
   ·exact yM _ _ (by omega)
theorem Mh(s:List UInt8)(hs:s.length<=9223372036854775807):cq Tryz.prog 116 [.str s] (.ret [.bool (jr s)]):=by
 refine cq.bt mix JY (by simp) ?_
 rw[L3]
 simp+contextual only[go_sem]
 refine aX (fun k:Nat=>⟨bB [.d (.str s), .ab, .ab, .d (.i k)],fun _=> .no,0⟩)
  (fun k=>k<=s.length/\(s.take k).all letterF=true) (fun k=>s.length - k) 0 ⟨Nat.zero_le _,by simp⟩ (bY.d0 _ ?_) (fun k hk=> ?_)
 ·(repeat(first|exact aw|refine ao ?_|refine ah rfl ?_|refine ah (aT (aS (by omega))) ?_|refine aF rfl (by simp[V.refs,V.ag]<;>first|omega|assumption) ?_))
 simp+contextual only[go_sem]
 refine ay (fun h2=> ?_) (fun h2=> ?_)
 ·simp at h2
  obtain⟨x,hx⟩:∃x,s[k]? =some x:=⟨s[k],by simp[h2]⟩
  simp+contextual only[go_sem,hx]
  refine ay (fun h3=> ?_) (fun h3=> ?_)
  ·simp+contextual only[go_sem]
   have:jr s=false:=by
    have:s.all letterF=false:=by
     rw[List.all_eq_false]
     refine⟨x,List.mem_of_getElem? hx, ?_⟩
     simp only[letterF,h3];simp
    simp[jr,this]
   rw[this]
  ·simp+contextual only[go_sem]
   refine az (k+1) ⟨h2, ?_⟩ (by omega) (bY.d0 _ ?_)
   ·rw[List.take_add_one,hx,List.all_append,hk.2]
    simp[letterF,h3]
   ·(repeat(first|exact aw|refine ao ?_|refine ah rfl ?_|refine ah (aT (aS (by omega))) ?_|refine aF rfl (by simp[V.refs,V.ag]<;>first|omega|assumption) ?_))
 ·simp+contextual only[go_sem]
  refine aM (p4 _ _ _) rfl ?_
  simp+contextual only[go_sem]
  simp at h2
  have:=hk.2
  rw[List.take_of_length_le (by omega)]at this
  simp[jr,this]
theorem B7(l:List od)(bs:List (List UInt8))(hl:l.length<=1000)(hb:bs.length<=1000)(hs:∀x∈l,x.name.length<=9223372036854775807):
 cq Tryz.prog 83 [.sl (l.map od.d), .sl (bs.map .str)] (.ret [.sl (((cy l bs).getD []).map .str), .bool (cy l bs).isSome]):=by
 refine cq.bt mix Qe (by simp) ?_
 rw[Vl]
 simp+contextual only[go_sem]
 refine aX (fun k:Nat=>⟨bB [.d (.sl (l.map od.d)), .d (.sl ((bs++(l.take k).map (·.name)).map .str)), .ab, .ab, .ab, .ab, .d (.i k)],fun _=> .no,0⟩)
  (fun k=>k<=l.length/\cy l bs=cy (l.drop k) (bs++(l.take k).map (·.name))) (fun k=>l.length - k) 0 ⟨Nat.zero_le _,by simp⟩ (bY.d0 _ ?_) (fun k hk=> ?_)
 ·simp only[List.take_zero,List.map_nil,List.append_nil]
  (repeat(first|exact aw|refine ao ?_|refine ah rfl ?_|refine ah (aT (aS (by omega))) ?_|refine aF rfl (by simp[V.refs,V.ag]<;>first|omega|assumption) ?_))
 simp+contextual only[go_sem]
 refine ay (fun h2=> ?_) (fun h2=> ?_)
 ·simp at h2
  obtain⟨x,hx⟩:∃x,l[k]? =some x:=⟨l[k],by simp[h2]⟩
  have kU:=List.mem_of_getElem? hx
  have yc:l.drop k=x::l.drop (k+1):=by
   rw[List.drop_eq_getElem_cons h2]
   rw[List.getElem?_eq_getElem h2]at hx;injection hx with hx;rw[hx]
  generalize hB:bs++(l.take k).map (·.name)=B at*
  have Z2:B.length<=2000:=by rw[<- hB];simp;omega
  simp+contextual only[go_sem]
  refine aX (fun j:Nat=>⟨bB [.d (.sl (l.map od.d)), .d (.sl (B.map .str)), .ab, .ab, .ab, .ab, .d (.i k), .d (.i j)],fun _=> .no,0⟩)
   (fun j=>j<=B.length/\(B.take j).any (· ==x.name)=false) (fun j=>B.length - j) 0 ⟨Nat.zero_le _,by simp⟩ (bY.d0 _ ?_) (fun j hj=> ?_)
  ·(repeat(first|exact aw|refine ao ?_|refine ah rfl ?_|refine ah (aT (aS (by omega))) ?_|refine aF rfl (by simp[V.refs,V.ag]<;>first|omega|assumption) ?_))
  simp+contextual only[go_sem]
  refine ay (fun h3=> ?_) (fun h3=> ?_)
  ·simp at h3
   obtain⟨y,hy⟩:∃y,B[j]? =some y:=⟨B[j],by simp[h3]⟩
   simp+contextual only[go_sem,hx,hy]
   refine aK (by decide) ?_
   simp+contextual only[go_sem]
   refine ay (fun h4=> ?_) (fun h4=> ?_)
   ·simp+contextual only[go_sem]
    have:cy l bs=none:=by
     rw[hk.2,yc,cy,if_pos]
     rw[List.any_eq_true]
     exact⟨y,List.mem_of_getElem? hy,h4⟩
    rw[this];rfl
   ·simp+contextual only[go_sem]
    refine az (j+1) ⟨h3, ?_⟩ (by omega) (bY.d0 _ ?_)
    ·rw[List.take_add_one,hy,List.any_append,hj.2]
     simp only[Option.toList_some,List.any_cons,h4,List.any_nil,Bool.or_false]
    ·(repeat(first|exact aw|refine ao ?_|refine ah rfl ?_|refine ah (aT (aS (by omega))) ?_|refine aF rfl (by simp[V.refs,V.ag]<;>first|omega|assumption) ?_))
  ·simp at h3
   have Mi:=hj.2
   rw[List.take_of_length_le (by omega)]at Mi
   simp+contextual only[go_sem,hx]
   refine aM (Mh x.name (hs x kU)) rfl ?_
   simp+contextual only[go_sem,hx]
   refine gR (fX [.bool (fg x.args 0 4)] ?_ ?_)
   ·simp+contextual only[go_sem]
    exact fun _=>p4 _ _ _
   simp+contextual only[go_sem]
   refine ay (fun h4=> ?_) (fun h4=> ?_)
   ·simp+contextual only[go_sem]
    have:cy l bs=none:=by
     rw[hk.2,yc,cy,if_neg (by rw[Mi];exact Bool.false_ne_true),if_pos h4]
    rw[this];rfl
   ·have e1:B.length<=140737488355328:=by omega
    have e2:B.length*16<=140737488355328:=by omega
    have e3:B.length<=140737488355327:=by omega
    have e4:(B.length+1)*16<=140737488355328:=by omega
    simp+contextual only[go_sem,hx,e1,e2,e3,e4]
    refine aK (by decide) ?_
    simp+contextual only[go_sem]
    have hn:cy l bs=cy (l.drop (k+1)) (bs++(l.take (k+1)).map (·.name)):=by
     rw[hk.2,yc,cy,if_neg (by rw[Mi];exact Bool.false_ne_true),if_neg (by rw[h4];exact Bool.false_ne_true), <- hB,List.take_add_one,hx]
     simp
    refine az (k+1) ⟨h2,hn⟩ (by omega) (bY.VA (fun _=>True) 0 _ (Nat.le_refl _) Zl (fun _ _=>rfl) (fun _ _ _=>rfl) ?_)
    have Sk:(bs++(l.take (k+1)).map (·.name)).map D.str=B.map D.str++[D.str x.name]:=by
     rw[<- hB,List.take_add_one,hx];simp
    rw[Sk]
    (repeat(first|exact bT|refine bF ?_|refine bq rfl ?_|refine bq (aT (aS (by omega))) ?_|refine dn 0 rfl rfl rfl ?_|refine dm rfl (by simp[V.refs,V.ag]<;>first|omega|assumption) ?_|refine dp rfl (by simp[V.ids]<;>omega) ?_))
 ·simp+contextual only[go_sem]
  simp at h2
  have:cy l bs=some (bs++l.map (·.name)):=by
   rw[hk.2,List.drop_eq_nil_of_le (by omega),cy,List.take_of_length_le (by omega)]
  rw[this,List.take_of_length_le (by omega)]
  rfl
theorem Mj(a b:List UInt8)(m n:Int):pC Tryz.prog 100 103 (.agg [.str a, .i m]) (.agg [.str b, .i n])=some (a==b&&m==n):=by
 have h1:bf Tryz.prog 103=some (.struct [(9,0),(3,1)]):=by kernel_rfl
 have h2:bf Tryz.prog 9=some .str:=by kernel_rfl
 have h3:bf Tryz.prog 3=some .int:=by kernel_rfl
 have h4:cj Tryz.prog 9=some false:=by kernel_rfl
 have h5:cj Tryz.prog 3=some false:=by kernel_rfl
 simp[pC,h1,h2,h3,h4,h5,xg,Ku,jf,ED]
@[go_sem] theorem VB (o:Nat->ae) (nF:Bool) (a b:List UInt8) (m n:Int):CC Tryz.prog o 103 nF (.d (.agg [.str a, .i m])) (.d (.agg [.str b, .i n]))=some (.d (.bool (a==b&&m==n))):=by
  obtain⟨fs,h⟩:∃fs,Tryz.prog.underlying 103=some (.struct fs):=structOf (by kernel_rfl)
  have h2:Tryz.prog.eqGuardType Tryz.prog.depth 103=false:=by kernel_rfl
  unfold CC
  rw[h]
  dsimp only
  rw[if_pos h2,Mj]
  rfl
theorem Du{l:List od}{bs B:List (List UInt8)}(h:cy l bs=some B):B=bs++l.map (·.name):=by
 induction l generalizing bs with
 |nil=>simp[cy]at h;simp[h]
 |cons x l ih=>
  simp only[cy]at h
  split at h
  ·cases h
  ·split at h
   ·cases h
   ·rw[ih h];simp
structure bP.Fits (s:bP):Prop where
 lc:s.cons.length<=9223372036854775807
 lf:s.dN.length<=9223372036854775807
 nc:∀x∈s.cons,x.name.length<=9223372036854775807
 nf:∀x∈s.dN,x.name.length<=9223372036854775807
theorem Rx(s:bP)(hs:s.Fits):cq Tryz.prog 42 [s.d] (.ret [.bool (nT s)]):=by
 refine cq.bt mix PS (by simp) ?_
 rw[UH]
 simp+contextual only[go_sem]
 refine aM (p4 _ _ _) rfl ?_
 simp+contextual only[go_sem]
 cases h1:(!fg s.cons.length 2 12||decide (8<(s.dN.length:Int)))with
 |true=>
  simp+contextual only[go_sem,h1]
  simp only[nT,h1,if_true]
 |false=>
  simp[fg]at h1
  obtain⟨a,b,r,hc⟩:∃a b r,s.cons=a::b::r:=by
   match h:s.cons with
   |[]=>rw[h]at h1;simp at h1
   |[a]=>rw[h]at h1;simp at h1
   |a::b::r=>exact⟨a,b,r,rfl⟩
  have lX:(!fg s.cons.length 2 12||decide (8<(s.dN.length:Int)))=false:=by simp[fg];omega
  simp+contextual only[go_sem,lX,hc]
  have Dv:nT s=if(!lT a fB|| !lT b tB)=true then false else match cy s.cons []with
   |none=>false
   |some l=>(cy s.dN l).isSome:=by
   unfold nT
   rw[if_neg (by rw[lX];exact Bool.false_ne_true),hc]
   dsimp only
   rfl
  refine ay (fun h2=> ?_) (fun h2=> ?_)
  ·simp+contextual only[go_sem]
   have w9:(!lT a fB|| !lT b tB)=true:=h2
   rw[Dv,if_pos w9]
  ·simp+contextual only[go_sem,hc]
   have hl:(a::b::r).length<=1000:=by rw[<- hc];omega
   have MJ:=B7 (a::b::r) [] hl (by simp) (by rw[<- hc];exact hs.nc)
   simp only[List.map_cons,List.map_nil]at MJ
   refine bN MJ ?_
   have w9:(!lT a fB|| !lT b tB)=false:=h2
   rw[Dv,if_neg (by rw[w9];exact Bool.false_ne_true),hc]
   cases hn:cy (a::b::r) []with
   |none=>simp+contextual only[go_sem,hn]
   |some B=>
    simp+contextual only[go_sem,hn]
    have hB:B.length<=1000:=by
     have:=Du hn
     rw[this];simp at hl|-;omega
    have VC:=B7 s.dN B (by omega) hB hs.nf
    refine bN VC ?_
    simp+contextual only[go_sem]
end Go.Proofs.YtealblliddhgiaaGreat
namespace Go.Proofs.YtealblliddhgiaaGreat
theorem gV{l:List od}{n:Int}{x:od}(h:l[n.toNat]? =some x):js l n=x.args:=by simp[js,h]
theorem mY{l:List od}{n:Int}(h:fg n 0 (l.length - 1)=true):0<=n/\∃x,l[n.toNat]? =some x:=by
 simp[fg]at h
 exact⟨h.1,l[n.toNat]'(by omega),by simp⟩
theorem Mk(s:bP)(t:Tm)(hs:s.Fits)(ht:t.kids.length<=9223372036854775807):cq Tryz.prog 97 [s.d,t.d] (.ret [.bool (bC s t)]):=by
 refine cq.bt mix Ql (by simp) ?_
 rw[Vy]
 simp+contextual only[go_sem]
 rcases(by omega:t.op=1\/t.op=2\/t.op=3\/t.op=4\/t.op=5\/t.op=8\/(t.op=6\/t.op=7\/t.op=9\/t.op=10\/t.op=11\/t.op=12\/t.op=13\/t.op=14\/t.op=15)\/(t.op<1\/15<t.op))with h|h|h|h|h|h|h|h
 ·have hn:bC s t=((t.kids.length:Int)==0&&fg t.n 0 19):=by simp[bC,h]
  simp+contextual only[go_sem,h]
  refine gR (fX [.bool (fg t.n 0 19)] ?_ ?_)
  ·simp+contextual only[go_sem]
   exact fun _=>p4 _ _ _
  simp+contextual only[go_sem,h]
  rw[hn]
 ·have hn:bC s t=((t.kids.length:Int)==0&&fg t.n (-1000000) 1000000):=by simp[bC,h]
  simp+contextual only[go_sem,h]
  refine gR (fX [.bool (fg t.n (-1000000) 1000000)] ?_ ?_)
  ·simp+contextual only[go_sem]
   exact fun _=>p4 _ _ _
  simp+contextual only[go_sem,h]
  rw[hn]
 ·have hn:bC s t=(fg t.n 0 (s.cons.length - 1)&&(t.kids.length:Int)==js s.cons t.n):=by simp[bC,h]
  simp+contextual only[go_sem,h]
  rw[wrap64 (by have:=hs.lc;omega) (by have:=hs.lc;omega)]
  refine aM (p4 _ _ _) rfl ?_
  cases hI:fg t.n 0 (s.cons.length - 1)with
  |false=>
   simp+contextual only[go_sem,h,hI]
   rw[hn,hI];rfl
  |true=>
   obtain⟨h0,x,hx⟩:=mY hI
   simp+contextual only[go_sem,h,hI,hx,h0]
   rw[hn,hI,gV hx];rfl
 ·have hn:bC s t=(fg t.n 0 (s.dN.length - 1)&&(t.kids.length:Int)==js s.dN t.n):=by simp[bC,h]
  simp+contextual only[go_sem,h]
  rw[wrap64 (by have:=hs.lf;omega) (by have:=hs.lf;omega)]
  refine aM (p4 _ _ _) rfl ?_
  cases hI:fg t.n 0 (s.dN.length - 1)with
  |false=>
   simp+contextual only[go_sem,h,hI]
   rw[hn,hI];rfl
  |true=>
   obtain⟨h0,x,hx⟩:=mY hI
   simp+contextual only[go_sem,h,hI,hx,h0]
   rw[hn,hI,gV hx];rfl
 ·have hn:bC s t=(fg t.n 0 (s.dN.length - 1)&&decide ((t.kids.length:Int)<js s.dN t.n)):=by simp[bC,h]
  simp+contextual only[go_sem,h]
  rw[wrap64 (by have:=hs.lf;omega) (by have:=hs.lf;omega)]
  refine aM (p4 _ _ _) rfl ?_
  cases hI:fg t.n 0 (s.dN.length - 1)with
  |false=>
   simp+contextual only[go_sem,h,hI]
   rw[hn,hI];rfl
  |true=>
   obtain⟨h0,x,hx⟩:=mY hI
   simp+contextual only[go_sem,h,hI,hx,h0]
   rw[hn,hI,gV hx];rfl
 ·have hn:bC s t=((t.kids.length:Int)==2&&fg t.n 0 19):=by simp[bC,h]
  simp+contextual only[go_sem,h]
  refine gR (fX [.bool (fg t.n 0 19)] ?_ ?_)
  ·simp+contextual only[go_sem]
   exact fun _=>p4 _ _ _
  simp+contextual only[go_sem,h]
  rw[hn]
 ·have hn:bC s t=((t.kids.length:Int)==2&&t.n==0):=by
   rcases h with h|h|h|h|h|h|h|h|h<;>simp[bC,h,fg]
  rw[hn]
  rcases h with h|h|h|h|h|h|h|h|h<;>simp+contextual only[go_sem,h]
 ·have hn:bC s t=false:=by
   simp[bC,fg,show ¬ (t.op=1) by omega,show ¬ (t.op=2) by omega,show ¬ (t.op=3) by omega,show ¬ (t.op=4) by omega,show ¬ (t.op=5) by omega,show ¬ (t.op=8) by omega,show ¬ (6<=t.op/\t.op<=15) by omega]
  have e:∀k:Int,1<=k->k<=15->(t.op==k)=false:=fun k h1 h2=>by simp;omega
  simp+contextual only[go_sem,e 1 (by omega) (by omega),e 2 (by omega) (by omega),e 3 (by omega) (by omega),e 4 (by omega) (by omega),e 5 (by omega) (by omega),e 6 (by omega) (by omega),e 7 (by omega) (by omega),e 8 (by omega) (by omega),e 9 (by omega) (by omega),e 10 (by omega) (by omega),e 11 (by omega) (by omega),e 12 (by omega) (by omega),e 13 (by omega) (by omega),e 14 (by omega) (by omega),e 15 (by omega) (by omega)]
  rw[hn]
theorem kJ(s:bP)(t:Tm):eT s t=(bC s t&&t.kids.all (eT s)):=by
 have:∀l:List Tm,rj s l=l.all (eT s):=fun l=>by
  induction l with
  |nil=>rfl
  |cons k l ih=>simp[rj,ih]
 cases t;simp[eT,this,Tm.kids]
theorem jx{α:Type}{l:List α}{p:α->Bool}{k:Nat}{x:α}(hx:l[k]? =some x)(h:p x=false):l.all p=false:=by
 rw[List.all_eq_false];exact⟨x,List.mem_of_getElem? hx,by rw[h];exact Bool.false_ne_true⟩
theorem kK{α:Type}{l:List α}{p:α->Bool}{k:Nat}{x:α}(hx:l[k]? =some x)(h0:(l.take k).all p=true)(h:p x=true):(l.take (k+1)).all p=true:=by
 rw[List.take_add_one,hx,List.all_append,h0];simp[h]
theorem kL{α:Type}{l:List α}{p:α->Bool}{k:Nat}(h0:(l.take k).all p=true)(h:l.length<=k):l.all p=true:=by
 rwa [List.take_of_length_le h]at h0
theorem a7{α:Type}{l:List α}{k:Nat}(h:k<l.length):∃x,l[k]? =some x:=⟨l[k],by simp[h]⟩
@[reducible] def bP.row (s:bP):List V:=[.d (.sl (s.cons.map od.d)), .d (.sl (s.dN.map od.d))]
theorem Il(s:bP)(hs:s.Fits):∀t:Tm,t.fits->cq Tryz.prog 59 [s.d,t.d] (.ret [.bool (eT s t)]):=by
 refine Tm.jC fun t ih hf=> ?_
 have rP:=(Tm.dy _).1 hf
 refine cq.bt mix P1 (by simp) ?_
 rw[UY]
 simp+contextual only[go_sem]
 refine aM (Mk s t hs rP.1) rfl ?_
 simp+contextual only[go_sem]
 rw[kJ]
 refine ay (fun h1=> ?_) (fun h1=> ?_)
 ·simp+contextual only[go_sem]
  simp at h1;simp[h1]
 ·simp at h1
  rw[h1,Bool.true_and]
  simp+contextual only[go_sem]
  refine aX (fun k:Nat=>⟨bB [.ab, .ab, .ptr 0 0, .ptr 1 0, .ab, .d (.i k)],Gc s.row t.row,2⟩)
   (fun k=>k<=t.kids.length/\(t.kids.take k).all (eT s)=true) (fun k=>t.kids.length - k) 0 ⟨Nat.zero_le _,by simp⟩ (bY.d2 _ (qD rfl rfl) (by omega) rfl rfl ?_) (fun k hk=> ?_)
  ·(repeat(first|exact aw|refine ao ?_|refine ah rfl ?_|refine ah (aT (aS (by omega))) ?_|refine aF rfl (by simp[V.refs,V.ag]<;>first|omega|assumption) ?_))
  simp+contextual only[go_sem]
  refine ay (fun h2=> ?_) (fun h2=> ?_)
  ·simp at h2
   obtain⟨x,hx⟩:=a7 h2
   have kU:=List.mem_of_getElem? hx
   simp+contextual only[go_sem,hx]
   refine cm (ih x kU (rP.2 x kU)) rfl ?_
   simp+contextual only[go_sem]
   refine aK (by decide) ?_
   simp+contextual only[go_sem]
   refine ay (fun h3=> ?_) (fun h3=> ?_)
   ·simp+contextual only[go_sem]
    simp at h3
    rw[jx hx h3]
   ·simp+contextual only[go_sem]
    simp at h3
    refine az (k+1) ⟨h2,kK hx hk.2 h3⟩ (by omega) (bY.d2 _ (qD rfl rfl) (by omega) rfl rfl ?_)
    (repeat(first|exact aw|refine ao ?_|refine ah rfl ?_|refine ah (aT (aS (by omega))) ?_|refine aF rfl (by simp[V.refs,V.ag]<;>first|omega|assumption) ?_))
  ·simp+contextual only[go_sem]
   simp at h2
   rw[kL hk.2 h2]
theorem AV(s:bP)(hs:s.Fits)(t:Tm)(hf:t.fits):cq Tryz.prog 19 [s.d,t.d] (.ret [.bool (dP s t)]):=by
 refine cq.bt mix PL (by simp) ?_
 rw[Uk]
 simp+contextual only[go_sem]
 refine aM (B6 t hf 40 12 (by omega) (by omega)) rfl ?_
 simp+contextual only[go_sem]
 refine gR (fX [.bool (eT s t)] ?_ ?_)
 ·simp+contextual only[go_sem]
  exact fun _=>Il s hs t hf
 simp+contextual only[go_sem]
 rfl
theorem mZ:∀l l':List Tm,l.length=l'.length->(jt l l'=true↔∀ (i:Nat) (x y:Tm),l[i]? =some x->l'[i]? =some y->o9 x y=true)
 |[],l',_=>by simp[jt]
 |k::l,k'::l',h=>by
  simp only[jt,Bool.and_eq_true]
  rw[mZ l l' (by simpa using h)]
  constructor
  ·rintro⟨h1,h2⟩ i x y hx hy
   cases i with
   |zero=>simp at hx hy;subst hx;subst hy;exact h1
   |succ i=>exact h2 i x y (by simpa using hx) (by simpa using hy)
  ·intro h3
   exact⟨h3 0 k k' rfl rfl,fun i x y hx hy=>h3 (i+1) x y (by simpa using hx) (by simpa using hy)⟩
 |_::_,[],h=>by simp at h
theorem yO(a b:Tm):o9 a b=(a.op==b.op&&a.n==b.n&&a.kids.length==b.kids.length&&jt a.kids b.kids):=by cases a;cases b;simp[o9,Tm.op,Tm.n,Tm.kids]
theorem wI(t:Tm)(hf:t.fits):cq Tryz.prog 20 [t.d] (.ret [.bool (iE t)]):=by
 refine cq.bt mix PM (by simp) ?_
 rw[Ul]
 simp+contextual only[go_sem]
 refine aM (B6 t hf 50 14 (by omega) (by omega)) rfl ?_
 simp+contextual only[go_sem]
 rfl
theorem AW(s:bP)(hs:s.Fits):cq Tryz.prog 47 [s.d] (.ret [.bool (kH s)]):=by
 refine cq.bt mix PT (by simp) ?_
 rw[UM]
 simp+contextual only[go_sem]
 refine ay (fun h1=> ?_) (fun h1=> ?_)
 ·simp+contextual only[go_sem]
  simp only[kH,h1];rfl
 ·have e:kH s=(fF s.cons&&fF s.dN):=by simp only[kH,h1];rfl
  rw[e]
  simp at h1
  simp+contextual only[go_sem]
  refine aX (fun k:Nat=>⟨bB [.ab, .ptr 0 0, .ab, .d (.i k)],nW s.row,1⟩)
   (fun k=>k<=s.cons.length/\fF (s.cons.take k)=true) (fun k=>s.cons.length - k) 0 ⟨Nat.zero_le _,by simp[fF]⟩ (bY.d1 _ (b8 rfl) (by omega) rfl ?_) (fun k hk=> ?_)
  ·(repeat(first|exact aw|refine ao ?_|refine ah rfl ?_|refine ah (aT (aS (by omega))) ?_|refine aF rfl (by simp[V.refs,V.ag]<;>first|omega|assumption) ?_))
  simp+contextual only[go_sem]
  refine ay (fun h2=> ?_) (fun h2=> ?_)
  ·simp at h2
   obtain⟨x,hx⟩:=a7 h2
   simp+contextual only[go_sem,hx]
   refine ay (fun h3=> ?_) (fun h3=> ?_)
   ·simp+contextual only[go_sem]
    rw[show fF s.cons=false from jx hx (by simpa using h3)];rfl
   ·simp+contextual only[go_sem]
    refine az (k+1) ⟨h2,kK hx hk.2 (by simpa using h3)⟩ (by omega) (bY.d1 _ (b8 rfl) (by omega) rfl ?_)
    (repeat(first|exact aw|refine ao ?_|refine ah rfl ?_|refine ah (aT (aS (by omega))) ?_|refine aF rfl (by simp[V.refs,V.ag]<;>first|omega|assumption) ?_))
  ·simp at h2
   rw[show fF s.cons=true from kL hk.2 h2,Bool.true_and]
   simp+contextual only[go_sem]
   refine aX (fun k:Nat=>⟨bB [.ab, .ptr 0 0, .ab, .ab, .d (.i k)],nW s.row,1⟩)
    (fun k=>k<=s.dN.length/\fF (s.dN.take k)=true) (fun k=>s.dN.length - k) 0 ⟨Nat.zero_le _,by simp[fF]⟩ (bY.d1 _ (b8 rfl) (by omega) rfl ?_) (fun k hk=> ?_)
   ·(repeat(first|exact aw|refine ao ?_|refine ah rfl ?_|refine ah (aT (aS (by omega))) ?_|refine aF rfl (by simp[V.refs,V.ag]<;>first|omega|assumption) ?_))
   simp+contextual only[go_sem]
   refine ay (fun h4=> ?_) (fun h4=> ?_)
   ·simp at h4
    obtain⟨x,hx⟩:=a7 h4
    simp+contextual only[go_sem,hx]
    refine ay (fun h3=> ?_) (fun h3=> ?_)
    ·simp+contextual only[go_sem]
     rw[show fF s.dN=false from jx hx (by simpa using h3)]
    ·simp+contextual only[go_sem]
     refine az (k+1) ⟨h4,kK hx hk.2 (by simpa using h3)⟩ (by omega) (bY.d1 _ (b8 rfl) (by omega) rfl ?_)
     (repeat(first|exact aw|refine ao ?_|refine ah rfl ?_|refine ah (aT (aS (by omega))) ?_|refine aF rfl (by simp[V.refs,V.ag]<;>first|omega|assumption) ?_))
   ·simp at h4
    rw[show fF s.dN=true from kL hk.2 h4]
    simp+contextual only[go_sem]
end Go.Proofs.YtealblliddhgiaaGreat
