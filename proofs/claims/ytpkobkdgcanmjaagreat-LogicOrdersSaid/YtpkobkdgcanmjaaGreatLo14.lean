/-
  A PART OF THE PROOF. Conditions: none.
-/
import Derived.Test.YtpkobkdgcanmjaaGreatLo13
set_option linter.unusedSimpArgs false
set_option linter.unusedVariables false
namespace Go.Proofs.YtpkobkdgcanmjaaGreat
def gU(x y:aa):Prop:=(x.bd=true->y.bd=true)/\∀e,x.aO=some e->y.aO=some e
theorem gU.rfl' {x y:aa}(h:x=y):gU x y:=h ▸ ⟨id,fun _ h=>h⟩
theorem gU.fz (x:aa):gU x.fz x:=by cases x<;>exact⟨id,fun _ h=>h⟩
theorem gU.row (cs cs':List V):gU (.row cs) (.row cs'):=⟨fun _=>rfl,fun _ h=>by cases h⟩
mutual
theorem V.iA {B B':Nat->Prop}{φ aj:Place}{H H':Hp}{w:World}(hB:∀b, ¬B b-> ¬B' b):∀ (v:V) (val:Value),(∀id∈v.refs,gU (H'.o id) (H.o id)/\aj id=φ id/\H'.us id)->V.den B φ H w v val->V.den B' aj H' w v val
 | .d x,val,_,h=>D.au (w:=w) (w':=w) (fun b _ hn=>⟨rfl,hB b hn⟩) x val h
 | .aM,_,_,h=>h
 | .aw,_,_,_=>trivial
 | .dC,_,_,h=>h
 | .kG es,val,_,h=>⟨D.au (w:=w) (w':=w) (fun b _ hn=>⟨rfl,hB b hn⟩) (.sl es) val h.1,h.2⟩
 | .agg cs,val,hr,h=>by
   obtain⟨a,rfl,h1,h2⟩:=h
   exact⟨a,rfl,V.e9 hB cs _ (by simpa[V.refs]using hr) h1,h2⟩
 | .bM cs,val,hr,h=>by
   obtain⟨a,rfl,h1⟩:=h
   exact⟨a,rfl,V.e9 hB cs _ (by simpa[V.refs]using hr) h1⟩
 | .ptr id off,val,hr,h=>by
   obtain⟨a,b,c⟩:=hr id (by simp[V.refs])
   obtain⟨h0,h1,h2⟩:=h
   refine⟨h0,c,fun aZ=> ?_⟩
   obtain⟨x,y,z⟩:=h2 (a.1 aZ)
   exact⟨x,b.trans y,z⟩
 | .osl id ep,val,hr,h=>by
   obtain⟨a,b,c⟩:=hr id (by simp[V.refs])
   obtain⟨h0,h1,h2⟩:=h
   refine⟨h0,c,fun e he=> ?_⟩
   obtain⟨x,y⟩:=h2 e (a.2 e he)
   exact⟨x,fun heq=>(y heq).trans b.symm⟩
 | .pe id ep i sz off,val,hr,h=>by
   obtain⟨a,b,c⟩:=hr id (by simp[V.refs])
   obtain⟨h0,h1,h2⟩:=h
   refine⟨h0,c,fun e he=> ?_⟩
   obtain⟨x,y⟩:=h2 e (a.2 e he)
   refine⟨x,fun heq=> ?_⟩
   obtain⟨p,q,r,z,u⟩:=y heq
   exact⟨p,q,r,b.trans z,u⟩
 | .pp cs off,val,_,h=>by
   obtain⟨a,ev,h1,h2,h3,h5,h4⟩:=h
   exact⟨a,ev,h1,h2,D.az (w:=w) (w':=w) (fun b _ hn=>⟨rfl,hB b hn⟩) cs ev h3,h5,h4.mono (w:=w) (w':=w) (fun b _ hn=>⟨rfl,hB b hn⟩)⟩
 | .func fn first cap,val,hr,h=>by
   obtain⟨f,c,rfl,h1,h2⟩:=h
   exact⟨f,c,rfl,V.e9 hB first _ (fun id ag=>hr id (by simp[V.refs,ag])) h1,V.e9 hB cap _ (fun id ag=>hr id (by simp[V.refs,ag])) h2⟩
 | .iface t x,val,hr,h=>by
   obtain⟨u,rfl,h⟩:=h
   exact⟨u,rfl,V.iA hB x u (by simpa[V.refs]using hr) h⟩
 | .n5 id off n,val,hr,h=>by
   obtain⟨a,b,c⟩:=hr id (by simp[V.refs])
   obtain⟨h0,h1,h2⟩:=h
   refine⟨h0,c,fun aZ=> ?_⟩
   obtain⟨x,y,z⟩:=h2 (a.1 aZ)
   exact⟨x,b.trans y,z⟩
 | .mp id,val,hr,h=>by
   obtain⟨a,b,c⟩:=hr id (by simp[V.refs])
   obtain⟨h0,h1,h2⟩:=h
   refine⟨h0,c,fun aZ=> ?_⟩
   exact(h2 (a.1 aZ)).trans b.symm
 | .jT id,val,hr,h=>by
   obtain⟨a,b,c⟩:=hr id (by simp[V.refs])
   obtain⟨h0,h1,h2⟩:=h
   refine⟨h0,c,fun aZ=> ?_⟩
   obtain⟨x,y,z⟩:=h2 (a.1 aZ)
   exact⟨x,b.trans y,z⟩
theorem V.e9 {B B':Nat->Prop}{φ aj:Place}{H H':Hp}{w:World}(hB:∀b, ¬B b-> ¬B' b):∀ (vs:List V) (vals:List Value),(∀id∈V.ax vs,gU (H'.o id) (H.o id)/\aj id=φ id/\H'.us id)->V.aq B φ H w vs vals->V.aq B' aj H' w vs vals
 |[],_,_,h=>h
 |v::vs,_,hr,h=>by
  obtain⟨u,us,rfl,h1,h2⟩:=h
  exact⟨u,us,rfl,V.iA hB v u (fun id ag=>hr id (by simp[V.ax,ag])) h1,V.e9 hB vs us (fun id ag=>hr id (by simp[V.ax,ag])) h2⟩
end
mutual
theorem V.j5 {B:Nat->Prop}{φ:Place}{H:Hp}{w:World}:∀ (v:V) (val:Value),V.den B φ H w v val->∀id∈v.refs,H.us id
 | .osl id ep,_,h,j,hj| .ptr id off,_,h,j,hj| .pe id ep i sz off,_,h,j,hj| .n5 id off n,_,h,j,hj| .mp id,_,h,j,hj| .jT id,_,h,j,hj=>by simp[V.refs]at hj;subst hj;exact h.2.1
 | .agg cs,_,h,j,hj=>by obtain⟨a,rfl,h,_⟩:=h;exact V.gu cs _ h j (by simpa[V.refs]using hj)
 | .bM cs,_,h,j,hj=>by obtain⟨a,rfl,h⟩:=h;exact V.gu cs _ h j (by simpa[V.refs]using hj)
 | .func fn first cap,_,h,j,hj=>by
   obtain⟨f,c,rfl,h1,h2⟩:=h
   rcases List.mem_append.1 (show j∈V.ax first++V.ax cap by simpa[V.refs]using hj)with hj|hj
   ·exact V.gu first _ h1 j hj
   ·exact V.gu cap _ h2 j hj
 | .iface t x,_,h,j,hj=>by obtain⟨u,rfl,h⟩:=h;exact V.j5 x u h j (by simpa[V.refs]using hj)
 | .d _,_,_,_,hj| .aM,_,_,_,hj| .pp _ _,_,_,_,hj| .aw,_,_,_,hj| .kG _,_,_,_,hj| .dC,_,_,_,hj=>by simp[V.refs]at hj
theorem V.gu {B:Nat->Prop}{φ:Place}{H:Hp}{w:World}:∀ (vs:List V) (vals:List Value),V.aq B φ H w vs vals->∀id∈V.ax vs,H.us id
 |[],_,_,j,hj=>by simp[V.ax]at hj
 |v::vs,_,h,j,hj=>by
  obtain⟨u,us,rfl,h1,h2⟩:=h
  rcases List.mem_append.1 (show j∈v.refs++V.ax vs by simpa[V.ax]using hj)with hj|hj
  ·exact V.j5 v u h1 j hj
  ·exact V.gu vs us h2 j hj
end
def uc(c:Nat)(x:V)(so:Nat->aa)(gone:Nat->Prop)(v v':V):Prop:=
 v'= .aw\/(v'=v/\∀r∈v.refs,r<c)\/(v'= .osl c 0/\v=x)\/∃y,v'= .d y/\dn so v=some y/\∀id∈v.ids,gone id/\∀ep,x≠ .osl id ep
def wV(c:Nat)(x:V)(so:Nat->aa)(gone:Nat->Prop)(env:Nat->V):List V->Nat->Prop
 |[],_=>True
 |v::l,i=>uc c x so gone (env i) v/\wV c x so gone env l (i+1)
def wW(c:Nat)(x:V)(so:Nat->aa)(gone:Nat->Prop):List V->List V->Prop
 |[],[]=>True
 |v::l,v'::l'=>uc c x so gone v v'/\wW c x so gone l l'
 |_,_=>False
theorem ud{c:Nat}{x:V}{so:Nat->aa}{gone:Nat->Prop}{env:Nat->V}:∀ (l:List V) (i:Nat),wV c x so gone env l i->∀j,uc c x so gone (env (i+j)) (bI l j)
 |[],i,_,j=>by rw[ir];exact .inl rfl
 |v::l,i,h,0=>by rw[iq];exact h.1
 |v::l,i,h,j+1=>by
  rw[fN]
  have:=ud l (i+1) h.2 j
  rwa [show i+1+j=i+(j+1) by omega]at this
theorem kE{c:Nat}{x:V}{so:Nat->aa}{gone:Nat->Prop}{B B':Nat->Prop}{φ aj:Place}{H H':Hp}{w:World}(hc:∀v v' val,uc c x so gone v v'->V.den B φ H w v val->V.den B' aj H' w v' val):
 ∀ (l l':List V) (vals:List Value),wW c x so gone l l'->V.aq B φ H w l vals->V.aq B' aj H' w l' vals
 |[],[],_,_,h=>h
 |v::l,v'::l',_,h,hd=>by
  obtain⟨u,us,rfl,h1,h2⟩:=hd
  exact⟨u,us,rfl,hc _ _ _ h.1 h1,kE hc l l' us h.2 h2⟩
 |[],_::_,_,h,_=>h.elim
 |_::_,[],_,h,_=>h.elim
def sa(so:Nat->aa)(gone:Nat->Prop)(ty:TypeId)(sz:Nat)(es:List D)(x:V):Prop:=
 (x= .aM/\es=[]/\0<sz)\/∃id ep,gone id/\x= .osl id ep/\so id= .arr ep ty sz es
theorem wU.gone {so:Nat->aa}{c:Nat}{ty:TypeId}{sz:Nat}{es:List D}{x:V}(h:wU so c ty sz es x):sa so (fun id=>c<=id) ty sz es x:=h
theorem dq.Mq (gone:Nat->Prop){b:Nat}{e:Nat->V}{so:Nat->aa}{m:Nat}(l:List V){o:Nat->aa}{c:Nat}{ty:TypeId}{sz:Nat}{es:List D}(x:V)(r0:Nat)(cs cs':List V)(Dx:r0<c)(hb:b<=c)(M0:c<=m)(hg:Good o c)(mf:∀id,gone id->id<c->id≠r0/\o id= .no)(ho:∀id,id<c->id≠r0->so id=o id\/o id= .no)(Ao:so r0= .row cs)(aZ:wW c x so gone cs cs')(hx:sa so gone ty sz es x)(he:wV c x so gone e l 0):
 dq b ⟨e,so,m⟩ ⟨bI l,aV (aV o c (.arr 0 ty sz es)) r0 (.row cs'),c+1⟩:=by
 intro M φ w tm hH hd
 let aj:Place:=mT φ c x
 let o':Nat->aa:=aV (aV o c (.arr 0 ty sz es)) r0 (.row cs')
 let H':Hp:=hp o' (c+1)
 let H:Hp:=⟨so,fun id=>id<m⟩
 have tH:o' c= .arr 0 ty sz es:=by show aV (aV o c (.arr 0 ty sz es)) r0 (.row cs') c=_;rw[aH _ _ _ _ (by omega),aI]
 have yJ:∀id,id<c->id≠r0->o' id=o id:=fun id ag eV=>by show aV (aV o c (.arr 0 ty sz es)) r0 (.row cs') id=_;rw[aH _ _ _ _ eV,aH _ _ _ _ (by omega)]
 have R7:o' r0= .row cs':=aI _ _ _
 have Fb:∀id,c<id->o' id= .no:=fun id ag=>by show aV (aV o c (.arr 0 ty sz es)) r0 (.row cs') id=_;rw[aH _ _ _ _ (by omega),aH _ _ _ _ (by omega)];exact hg.fresh id (by omega)
 have iY:∀id,id<c->aj id=φ id:=fun id ag=>if_neg (by omega)
 have vJ:x= .aM->aj c= .slice none 0 0:=fun h=>by simp only[aj,mT,h,if_pos]
 have vK:∀id ep,x= .osl id ep->aj c=φ id:=fun id ep h=>by simp only[aj,mT,if_pos,h]
 have hold:∀id k,(o' id).live=true->dA (aj id)=some k->∃j,(so j).live=true/\dA (φ j)=some k/\((id<c/\j=id)\/(id=c/\gone j/\∃ep,x= .osl j ep)):=by
  intro id k h1 h2
  rcases Nat.lt_trichotomy id c with br|heq|lq
  ·rw[iY id br]at h2
   by_cases eV:id=r0
   ·subst eV
    exact⟨id,by rw[Ao];rfl,h2, .inl ⟨br,rfl⟩⟩
   ·rw[yJ id br eV]at h1
    rcases ho id br eV with hs|hs
    ·exact⟨id,by rw[hs];exact h1,h2, .inl ⟨br,rfl⟩⟩
    ·rw[hs]at h1;cases h1
  ·subst heq
   rcases hx with⟨rfl,_,_⟩|⟨j,ep,hj,rfl,gW⟩
   ·rw[vJ rfl]at h2;cases h2
   ·rw[vK j ep rfl]at h2
    exact⟨j,by rw[gW];rfl,h2, .inr ⟨rfl,hj,ep,rfl⟩⟩
  ·rw[Fb id lq]at h1;cases h1
 have bt:∀k,bq aj H' k->bq φ H k:=by
  rintro k ⟨id,h1,h2⟩
  obtain⟨j,g1,g2,_⟩:=hold id k h1 h2
  exact⟨j,g1,g2⟩
 have hB:∀k, ¬ad M φ H k-> ¬ad M aj H' k:=fun k h h'=>h (h'.imp id (bt k))
 have pU:∀id,id<c->gU (H'.o id) (H.o id)/\aj id=φ id/\H'.us id:=fun id ag=>by
  refine⟨?_,iY id ag,(by show id<c+1;omega)⟩
  by_cases eV:id=r0
  ·subst eV
   show gU (o' id) (so id)
   rw[R7,Ao];exact gU.row _ _
  ·rcases ho id ag eV with hs|hs
   ·exact gU.rfl' ((yJ id ag eV).trans hs.symm)
   ·show gU (o' id) (so id)
    rw[yJ id ag eV,hs]
    exact⟨fun h=>(by cases h),fun e h=>(by cases h)⟩
 have du:∀ (v:V) (val:Value),(∀r∈v.refs,r<c)->V.den (ad M φ H) φ H w v val->V.den (ad M aj H') aj H' w v val:=fun v val hr h=>
  V.iA (H:=H) (H':=H') hB v val (fun id ag=>pU id (hr id ag)) h
 have jb:∀ (v:List V) (val:List Value),(∀r∈V.ax v,r<c)->V.aq (ad M φ H) φ H w v val->V.aq (ad M aj H') aj H' w v val:=fun v val hr h=>
  V.e9 (H:=H) (H':=H') hB v val (fun id ag=>pU id (hr id ag)) h
 have Fc:∀ (v:V) (y:D) (val:Value),dn so v=some y->(∀id∈v.ids,gone id/\∀ep,x≠ .osl id ep)->V.den (ad M φ H) φ H w v val->D.den (ad M aj H') w y val:=fun v y val h1 h2 h3=>by
  obtain⟨f1,f2,f3,f4,f5⟩:=cw (H:=H) hH v.ids (fun id ag=>cl v val h3 id ag)
  have Qm:∀k,bq φ (H.put (cg H.o v.ids)) k->bq φ H k:=by
   rintro k ⟨id,g1,g2⟩
   by_cases ag:id∈v.ids
   ·rw[f3 id ag]at g1
    refine⟨id, ?_,g2⟩
    revert g1
    cases H.o id<;>simp[aa.fz,aa.live]
   ·rw[f4 id ag]at g1;exact⟨id,g1,g2⟩
  have h4:V.den (ad M φ (H.put (cg H.o v.ids))) φ (H.put (cg H.o v.ids)) w v val:=
   V.iA (H:=H) (fun k h h'=>h (h'.imp id (Qm k))) v val (fun id ag=>by
     have de:H.us id:=(V.j5 v val h3) id ag
     refine⟨?_,rfl,(f5 id).2 de⟩
     by_cases hm:id∈v.ids
     ·rw[f3 id hm];exact gU.fz _
     ·rw[f4 id hm];exact gU.rfl' rfl) h3
  have h5:=dM f1 (o:=so) v y val (fun id ag=>f3 id ag) h1 h4
  refine D.au (w:=w) (w':=w) (fun k _ hn=>⟨rfl,fun hk=>hn (hk.imp id ?_)⟩) y val h5
  rintro⟨id,g1,g2⟩
  obtain⟨j,k1,k2,k3⟩:=hold id k g1 g2
  refine⟨j, ?_,k2⟩
  have:j∉v.ids:=fun hm=>by
   obtain⟨k4,k5⟩:=h2 j hm
   rcases k3 with⟨k6,k7⟩|⟨_,_,ep,k6⟩
   ·subst k7
    obtain⟨k8,k9⟩:=mf _ k4 k6
    have g1:(o' j).live=true:=g1
    rw[yJ _ k6 k8,k9]at g1
    cases g1
   ·exact k5 ep k6
  rw[f4 j this];exact k1
 have Ap:∀val,V.den (ad M φ H) φ H w x val->V.den (ad M aj H') aj H' w (.osl c 0) val:=by
  intro val this
  rcases hx with⟨rfl,rfl,dv⟩|⟨j,ep,hj,rfl,gW⟩
  ·simp only[V.den]at this
   rw[this]
   refine⟨rfl,(by show c<c+1;omega),fun e' dZ=> ?_⟩
   have dZ:(o' c).aO=some e':=dZ
   rw[tH]at dZ
   simp only[aa.aO,Option.some.injEq]at dZ
   subst dZ
   exact⟨Nat.le_refl _,fun _=>(vJ rfl).symm⟩
  ·obtain⟨g1,g2,g3⟩:=this
   refine⟨g1,(by show c<c+1;omega),fun e' dZ=> ?_⟩
   have dZ:(o' c).aO=some e':=dZ
   rw[tH]at dZ
   simp only[aa.aO,Option.some.injEq]at dZ
   subst dZ
   have oj:(H.o j).aO=some ep:=by show(so j).aO=_;rw[gW];rfl
   exact⟨Nat.le_refl _,fun _=>by rw[vK j ep rfl];exact(g3 ep oj).2 rfl⟩
 have ue:∀v v' val,uc c x so gone v v'->V.den (ad M φ H) φ H w v val->V.den (ad M aj H') aj H' w v' val:=by
  intro v v' val h h1
  rcases h with rfl|⟨rfl,h2⟩|⟨rfl,rfl⟩|⟨y,rfl,h2,h3⟩
  ·trivial
  ·exact du _ _ h2 h1
  ·exact Ap _ h1
  ·exact Fc v y val h2 h3 h1
 refine⟨aj,⟨fun id=> ?_,fun id hu=>Fb id (by have: ¬id<c+1:=hu;omega),fun i j k h1 h2 h3 h4=> ?_,fun k hk=>hH.ours k (bt k hk),hH.pP⟩,fun i=> ?_,bt,by show b<=c+1;omega,fun id ag hr=> ?_,fun id e' ag dZ=> ?_⟩
 ·have aF:aA M φ H w id:=hH.ok id
  have hrefs:=hg.refs id
  show aA M aj H' w id
  unfold aA at aF|-
  rcases Nat.lt_trichotomy id c with br|heq|lq
  ·by_cases eV:id=r0
   ·subst eV
    have e1:H.o id= .row cs:=Ao
    have e2:H'.o id= .row cs':=R7
    rw[e1]at aF
    rw[e2,iY id br]
    obtain⟨b,cd,ty,k1,k2,k3,k4⟩:=aF
    exact⟨b,cd,ty,k1,k2,kE ue _ _ _ aZ k3,k4⟩
   have e2:H'.o id=o id:=yJ id br eV
   rcases ho id br eV with hs|hs
   case inr=>rw[e2,hs];trivial
   have e1:H.o id=o id:=hs
   rw[e1]at aF
   rw[e2,iY id br]
   cases lk:o id with
   |no=>trivial
   |row cs=>
    simp only[lk]at aF hrefs|-
    obtain⟨b,cd,ty,k1,k2,k3,k4⟩:=aF
    exact⟨b,cd,ty,k1,k2,jb _ _ hrefs k3,k4⟩
   |arr ep ty sz es=>
    simp only[lk]at aF|-
    obtain⟨k1,xs,k2,evs,k3,k4,k5⟩:=aF
    exact⟨k1,xs,k2,evs,k3,k4,D.az (fun b _ hn=>⟨rfl,hB b hn⟩) _ _ k5⟩
   |lu ep es=>
    simp only[lk]at aF|-
    exact D.au (fun b _ hn=>⟨rfl,hB b hn⟩) _ _ aF
   |map kt vt es=>
    simp only[lk]at aF|-
    obtain⟨b,es',clock,k1,k2,k4,k3⟩:=aF
    exact⟨b,es',clock,k1,k2,k4,ay.mono (fun b _ hn=>⟨rfl,hB b hn⟩) _ _ k3⟩
   |eg l=>
    simp only[lk]at aF|-
    exact D.au (fun b _ hn=>⟨rfl,hB b hn⟩) _ _ aF
   |my l last=>
    simp only[lk]at aF|-
    obtain⟨b,k1,k2⟩:=aF
    exact⟨b,k1,k2.mono (fun b _ hn=>⟨rfl,hB b hn⟩) rfl⟩
   |n6 s pos=>
    simp only[lk]at aF|-
    exact aF
   |loop nf n env ps a b st pd=>
    simp only[lk]at aF hrefs|-
    obtain⟨b,r,k1,k2,k3,k4,k5,k6,k7,k8,k9,zS⟩:=aF
    exact⟨b,r,k1,k2,k3,k4,k5,k6,k7,k8,k9,fun i=>du _ _ (fun r hr=>hrefs r (V.iu _ _ r hr)) (zS i)⟩
  ·subst heq
   have e2:H'.o id= .arr 0 ty sz es:=tH
   rw[e2]
   rcases hx with⟨rfl,rfl,dv⟩|⟨j,ep,hj,rfl,gW⟩
   ·refine⟨dv,[], ?_,[],by simp,by simp,rfl⟩
    rw[vJ rfl]
    exact World.ownsRow_nil _ _ _ _
   ·have this:aA M φ H w j:=hH.ok j
    unfold aA at this
    have e3:H.o j= .arr ep ty sz es:=gW
    simp only[e3]at this
    obtain⟨k1,xs,k2,evs,k3,k4,k5⟩:=this
    exact⟨k1,xs,by rw[vK j ep rfl];exact k2,evs,k3,k4,D.az (fun b _ hn=>⟨rfl,hB b hn⟩) _ _ k5⟩
  ·have e2:H'.o id= .no:=Fb id lq
   rw[e2]
   trivial
 ·obtain⟨i',a1,a2,a3⟩:=hold i k h1 h3
  obtain⟨j',b1,b2,b3⟩:=hold j k h2 h4
  have:=hH.apart i' j' k a1 b1 a2 b2
  have eV:∀b8 j',(o' b8).live=true->b8<c->gone j'->b8≠j':=fun b8 j' g1 g2 g3 g4=>by
   subst g4
   obtain⟨g5,g6⟩:=mf _ g3 g2
   rw[yJ _ g2 g5,g6]at g1
   cases g1
  rcases a3 with⟨a3,a4⟩|⟨a3,a4,_⟩<;>rcases b3 with⟨b3,b4⟩|⟨b3,b4,_⟩
  ·omega
  ·exact absurd (a4.symm.trans this) (eV i j' h1 a3 b4)
  ·exact absurd (b4.symm.trans this.symm) (eV j i' h2 b3 a4)
  ·omega
 ·have hi:=ud l 0 he i
  rw[Nat.zero_add]at hi
  exact ue _ _ _ hi (hd i)
 ·have br:id<c:=by omega
  have hr:(o' id).bd=true:=hr
  exact⟨(pU id br).1.1 hr,iY id br⟩
 ·have br:id<c:=by omega
  have dZ:(o' id).aO=some e':=dZ
  exact⟨e',(pU id br).1.2 e' dZ,Nat.le_refl _,fun _=>iY id br⟩
theorem dq.conv {b:Nat}{e:Nat->V}{so:Nat->aa}{m:Nat}(l:List V){o:Nat->aa}{c:Nat}{ty:TypeId}{sz:Nat}{es:List D}(x:V)(r0:Nat)(cs cs':List V)(Dx:r0<c)(hb:b<=c)(M0:c<=m)(hg:Good o c)(ho:∀id,id<c->id≠r0->so id=o id)(Ao:so r0= .row cs)(aZ:wW c x so (fun id=>c<=id) cs cs')(hx:wU so c ty sz es x)(he:wV c x so (fun id=>c<=id) e l 0):
 dq b ⟨e,so,m⟩ ⟨bI l,aV (aV o c (.arr 0 ty sz es)) r0 (.row cs'),c+1⟩:=
 dq.Mq _ l x r0 cs cs' Dx hb M0 hg (fun id h1 h2=>absurd h1 (by omega)) (fun id h1 h2=> .inl (ho id h1 h2)) Ao aZ hx he
def Fe(P:Program)(n b id:Nat)(gv:IC)(K X:V->(Nat->aa)->Nat->Prop)(e:fl)(s:S):Prop:=
 match e with
 | .normal=>∃nf m en p c d pd,s.o id= .loop nf m en p c d .ready pd/\l8 P n b true gv (vB id K X) ⟨s.env,aV s.o id (.loop nf m en p c d .busy pd),s.nx⟩
 | .ba v=>X v s.o s.nx
 |_=>False
theorem dT.bD {P:Program}{n:Nat}(aR:P.follows .mixedOrders=true){id:Nat}{args:List V}{o:Nat->aa}{nx:Nat}{K X:V->(Nat->aa)->Nat->Prop}{env:List V}{ps:List Nat}{kg gv:IC}{st:LoopState}{pd:Option lg}
 (ho:o id= .loop P.funcs.size n env ps kg gv st pd) (br:id<nx) (HS:ps.all (fun t=>decide (t<n))=true) (hl:args.length=ps.length)
 (h:l8 P n nx true kg (Fe P n nx id gv K X) ⟨vx (bI env) ps args,o,nx⟩):dT P id args o nx K X:=by
 refine dT.oT aR ho br HS hl (ee kg _ _ _ (fun e s h=> ?_) h)
 cases e with
 |normal=>
  obtain⟨nf,m,en,p,c,d,pd,h1,h2⟩:=h
  exact⟨nf,m,en,p,c,d,pd,h1,ee gv _ _ _ (fun _ _ h=>h) h2⟩
 |ba v=>exact h
 |_=>exact h.elim
section
variable {P:Program}{KB:List Nat->Fp->Prop}{pr:List (List Nat)}{l:List bE}{fr:Nat}{fp:Fp}{bad ws:List Nat}{s:S}{d:Option Nat}{op:Op}
end
end Go.Proofs.YtpkobkdgcanmjaaGreat
namespace Go.Proofs.YtpkobkdgcanmjaaGreat
structure Gr where
 x:V
 ty:TypeId
 sz:Nat
 es:List D
def Gr.ok (so:Nat->aa)(gone:Nat->Prop)(g:Gr):Prop:=sa so gone g.ty g.sz g.es g.x
def Aq(c:Nat)(G:List Gr)(so:Nat->aa)(gone:Nat->Prop)(v v':V):Prop:=
 v'= .aw\/(v'=v/\∀r∈v.refs,r<c)\/(∃i g,G[i]? =some g/\v'= .osl (c+i) 0/\v=g.x)\/∃y,v'= .d y/\dn so v=some y/\∀id∈v.ids,gone id/\∀g∈G,∀ep,g.x≠ .osl id ep
def kp(c:Nat)(G:List Gr)(so:Nat->aa)(gone:Nat->Prop)(env:Nat->V):List V->Nat->Prop
 |[],_=>True
 |v::l,i=>Aq c G so gone (env i) v/\kp c G so gone env l (i+1)
def sb(c:Nat)(G:List Gr)(so:Nat->aa)(gone:Nat->Prop):List V->List V->Prop
 |[],[]=>True
 |v::l,v'::l'=>Aq c G so gone v v'/\sb c G so gone l l'
 |_,_=>False
def vL(c:Nat)(G:List Gr)(so:Nat->aa)(gone:Nat->Prop)(x x':aa):Prop:=
 x'= .no\/(x=x'/\∀r∈x'.refs,r<c)\/∃cs cs',x= .row cs/\x'= .row cs'/\sb c G so gone cs cs'
section
variable {c:Nat}{G:List Gr}{so:Nat->aa}{gone:Nat->Prop}
theorem wX{env:Nat->V}:∀ (l:List V) (i:Nat),kp c G so gone env l i->∀j,Aq c G so gone (env (i+j)) (bI l j)
 |[],i,_,j=>by rw[ir];exact .inl rfl
 |v::l,i,h,0=>by rw[iq];exact h.1
 |v::l,i,h,j+1=>by
  rw[fN]
  have:=wX l (i+1) h.2 j
  rwa [show i+1+j=i+(j+1) by omega]at this
variable {env:Nat->V}{i:Nat}{l l':List V}{v:V}{y:D}
theorem pw:kp c G so gone env [] i:=trivial
theorem mU(h:kp c G so gone env l (i+1)):kp c G so gone env (.aw::l) i:=⟨.inl rfl,h⟩
theorem mV(he:env i= .d y)(h:kp c G so gone env l (i+1)):kp c G so gone env (.d y::l) i:=⟨.inr (.inl ⟨he.symm,fun r hr=>by rw[he]at hr;simp[V.refs]at hr⟩),h⟩
theorem vM(he:env i=v)(hr:∀r∈v.refs,r<c)(h:kp c G so gone env l (i+1)):kp c G so gone env (v::l) i:=⟨.inr (.inl ⟨he.symm,fun r xI=>hr r (he ▸ xI)⟩),h⟩
theorem vN(k:Nat){g:Gr}{n:Nat}(hg:G[k]? =some g)(hn:n=c+k)(he:env i=g.x)(h:kp c G so gone env l (i+1)):kp c G so gone env (.osl n 0::l) i:=⟨.inr (.inr (.inl ⟨k,g,hg,by rw[hn],he⟩)),h⟩
theorem vO(ht:dn so (env i)=some y)(hi:∀id∈(env i).ids,gone id/\∀g∈G,∀ep,g.x≠ .osl id ep)(h:kp c G so gone env l (i+1)):kp c G so gone env (.d y::l) i:=⟨.inr (.inr (.inr ⟨y,rfl,ht,hi⟩)),h⟩
theorem uf:sb c G so gone [] []:=trivial
theorem sc(h:sb c G so gone l l'):sb c G so gone (.d y::l) (.d y::l'):=⟨.inr (.inl ⟨rfl,fun r hr=>by simp[V.refs]at hr⟩),h⟩
theorem Ar(k:Nat){g:Gr}{n:Nat}(hg:G[k]? =some g)(hn:n=c+k)(he:v=g.x)(h:sb c G so gone l l'):sb c G so gone (v::l) (.osl n 0::l'):=⟨.inr (.inr (.inl ⟨k,g,hg,by rw[hn],he⟩)),h⟩
theorem qJ{x x':aa}(h:x=x')(hr:∀r∈x'.refs,r<c):vL c G so gone x x':= .inr (.inl ⟨h,hr⟩)
theorem ug{x:aa}{cs cs':List V}(h:x= .row cs)(hr:sb c G so gone cs cs'):vL c G so gone x (.row cs'):= .inr (.inr ⟨cs,cs',h,rfl,hr⟩)
end
theorem mg{c:Nat}{G:List Gr}{so:Nat->aa}{gone:Nat->Prop}{B B':Nat->Prop}{φ aj:Place}{H H':Hp}{w:World}(hc:∀v v' val,Aq c G so gone v v'->V.den B φ H w v val->V.den B' aj H' w v' val):
 ∀ (l l':List V) (vals:List Value),sb c G so gone l l'->V.aq B φ H w l vals->V.aq B' aj H' w l' vals
 |[],[],_,_,h=>h
 |v::l,v'::l',_,h,hd=>by
  obtain⟨u,us,rfl,h1,h2⟩:=hd
  exact⟨u,us,rfl,hc _ _ _ h.1 h1,mg hc l l' us h.2 h2⟩
 |[],_::_,_,h,_=>h.elim
 |_::_,[],_,h,_=>h.elim
def As(φ:Place)(c:Nat)(G:List Gr):Place:=fun id=>if id<c then φ id else match G[id - c]? with
 |some g=>(match g.x with| .osl j _=>φ j|_=> .slice none 0 0)
 |none=>φ id
theorem dq.R8 (gone:Nat->Prop)(G:List Gr)(c:Nat){b:Nat}{e:Nat->V}{so:Nat->aa}{m:Nat}(l:List V){o':Nat->aa}{nx':Nat}(pM:nx'=c+G.length)(hb:b<=c)
 (ho:∀id,id<c->vL c G so gone (so id) (o' id)) (hG:∀i g,G[i]? =some g->o' (c+i)= .arr 0 g.ty g.sz g.es/\g.ok so gone) (hh:∀id,nx'<=id->o' id= .no) (mf:∀id,gone id->id<c->o' id= .no)
 (rp:∀ (i j:Nat) (gi gj:Gr) (id ep eQ:Nat),G[i]? =some gi->G[j]? =some gj->gi.x= .osl id ep->gj.x= .osl id eQ->i=j) (he:kp c G so gone e l 0):dq b ⟨e,so,m⟩ ⟨bI l,o',nx'⟩:=by
 subst pM
 intro M φ w tm hH hd
 let aj:Place:=As φ c G
 let H':Hp:=hp o' (c+G.length)
 let H:Hp:=⟨so,fun id=>id<m⟩
 have iY:∀id,id<c->aj id=φ id:=fun id ag=>if_pos ag
 have At:∀i g,G[i]? =some g->aj (c+i)=(match g.x with| .osl j _=>φ j|_=> .slice none 0 0):=fun i g hg=>by
  show As φ c G (c+i)=_
  unfold As
  rw[if_neg (by omega),show c+i - c=i by omega,hg]
 have hold:∀id k,(o' id).live=true->dA (aj id)=some k->∃j,(so j).live=true/\dA (φ j)=some k/\((id<c/\j=id)\/∃i g ep,id=c+i/\G[i]? =some g/\gone j/\g.x= .osl j ep):=by
  intro id k h1 h2
  by_cases br:id<c
  ·rw[iY id br]at h2
   rcases ho id br with h3|⟨h3,_⟩|⟨cs,cs',h3,h4,_⟩
   ·rw[h3]at h1;cases h1
   ·exact⟨id,by rw[h3];exact h1,h2, .inl ⟨br,rfl⟩⟩
   ·exact⟨id,by rw[h3];rfl,h2, .inl ⟨br,rfl⟩⟩
  ·by_cases uN:c+G.length<=id
   ·rw[hh id uN]at h1;cases h1
   ·obtain⟨i,rfl⟩:∃i,id=c+i:=⟨id - c,by omega⟩
    obtain⟨g,hg⟩:∃g,G[i]? =some g:=⟨G[i]'(by omega),by simp⟩
    rw[At i g hg]at h2
    obtain⟨_,a8⟩:=hG i g hg
    rcases a8 with⟨h3,_,_⟩|⟨j,ep,hj,h3,gW⟩
    ·rw[h3]at h2;cases h2
    ·rw[h3]at h2
     exact⟨j,by rw[gW];rfl,h2, .inr ⟨i,g,ep,rfl,hg,hj,h3⟩⟩
 have bt:∀k,bq aj H' k->bq φ H k:=by
  rintro k ⟨id,h1,h2⟩
  obtain⟨j,g1,g2,_⟩:=hold id k h1 h2
  exact⟨j,g1,g2⟩
 have hB:∀k, ¬ad M φ H k-> ¬ad M aj H' k:=fun k h h'=>h (h'.imp id (bt k))
 have pU:∀id,id<c->gU (H'.o id) (H.o id)/\aj id=φ id/\H'.us id:=fun id ag=>by
  refine⟨?_,iY id ag,(by show id<c+G.length;omega)⟩
  show gU (o' id) (so id)
  rcases ho id ag with h3|⟨h3,_⟩|⟨cs,cs',h3,h4,_⟩
  ·rw[h3];exact⟨fun h=>(by cases h),fun e h=>(by cases h)⟩
  ·exact gU.rfl' h3.symm
  ·rw[h3,h4];exact gU.row _ _
 have du:∀ (v:V) (val:Value),(∀r∈v.refs,r<c)->V.den (ad M φ H) φ H w v val->V.den (ad M aj H') aj H' w v val:=fun v val hr h=>
  V.iA (H:=H) (H':=H') hB v val (fun id ag=>pU id (hr id ag)) h
 have jb:∀ (v:List V) (val:List Value),(∀r∈V.ax v,r<c)->V.aq (ad M φ H) φ H w v val->V.aq (ad M aj H') aj H' w v val:=fun v val hr h=>
  V.e9 (H:=H) (H':=H') hB v val (fun id ag=>pU id (hr id ag)) h
 have Fc:∀ (v:V) (y:D) (val:Value),dn so v=some y->(∀id∈v.ids,gone id/\∀g∈G,∀ep,g.x≠ .osl id ep)->V.den (ad M φ H) φ H w v val->D.den (ad M aj H') w y val:=fun v y val h1 h2 h3=>by
  obtain⟨f1,f2,f3,f4,f5⟩:=cw (H:=H) hH v.ids (fun id ag=>cl v val h3 id ag)
  have Qm:∀k,bq φ (H.put (cg H.o v.ids)) k->bq φ H k:=by
   rintro k ⟨id,g1,g2⟩
   by_cases ag:id∈v.ids
   ·rw[f3 id ag]at g1
    refine⟨id, ?_,g2⟩
    revert g1
    cases H.o id<;>simp[aa.fz,aa.live]
   ·rw[f4 id ag]at g1;exact⟨id,g1,g2⟩
  have h4:V.den (ad M φ (H.put (cg H.o v.ids))) φ (H.put (cg H.o v.ids)) w v val:=
   V.iA (H:=H) (fun k h h'=>h (h'.imp id (Qm k))) v val (fun id ag=>by
     have de:H.us id:=(V.j5 v val h3) id ag
     refine⟨?_,rfl,(f5 id).2 de⟩
     by_cases hm:id∈v.ids
     ·rw[f3 id hm];exact gU.fz _
     ·rw[f4 id hm];exact gU.rfl' rfl) h3
  have h5:=dM f1 (o:=so) v y val (fun id ag=>f3 id ag) h1 h4
  refine D.au (w:=w) (w':=w) (fun k _ hn=>⟨rfl,fun hk=>hn (hk.imp id ?_)⟩) y val h5
  rintro⟨id,g1,g2⟩
  obtain⟨j,k1,k2,k3⟩:=hold id k g1 g2
  refine⟨j, ?_,k2⟩
  have:j∉v.ids:=fun hm=>by
   obtain⟨k4,k5⟩:=h2 j hm
   rcases k3 with⟨k6,k7⟩|⟨i,g,ep,k6,k8,k9,zS⟩
   ·subst k7
    have:=mf _ k4 k6
    have g1:(o' j).live=true:=g1
    rw[this]at g1
    cases g1
   ·exact k5 g (List.mem_of_getElem? k8) ep zS
  rw[f4 j this];exact k1
 have Ap:∀i g val,G[i]? =some g->V.den (ad M φ H) φ H w g.x val->V.den (ad M aj H') aj H' w (.osl (c+i) 0) val:=by
  intro i g val hg this
  obtain⟨tH,a8⟩:=hG i g hg
  have br:c+i<c+G.length:=by have:=(List.getElem?_eq_some_iff.1 hg).1;omega
  rcases a8 with⟨h3,_,_⟩|⟨j,ep,hj,h3,gW⟩
  ·rw[h3]at this
   simp only[V.den]at this
   rw[this]
   refine⟨rfl,br,fun e' dZ=> ?_⟩
   have dZ:(o' (c+i)).aO=some e':=dZ
   rw[tH]at dZ
   simp only[aa.aO,Option.some.injEq]at dZ
   subst dZ
   exact⟨Nat.le_refl _,fun _=>by rw[At i g hg,h3]⟩
  ·rw[h3]at this
   obtain⟨g1,g2,g3⟩:=this
   refine⟨g1,br,fun e' dZ=> ?_⟩
   have dZ:(o' (c+i)).aO=some e':=dZ
   rw[tH]at dZ
   simp only[aa.aO,Option.some.injEq]at dZ
   subst dZ
   have oj:(H.o j).aO=some ep:=by show(so j).aO=_;rw[gW];rfl
   exact⟨Nat.le_refl _,fun _=>by rw[At i g hg,h3];exact(g3 ep oj).2 rfl⟩
 have ue:∀v v' val,Aq c G so gone v v'->V.den (ad M φ H) φ H w v val->V.den (ad M aj H') aj H' w v' val:=by
  intro v v' val h h1
  rcases h with rfl|⟨rfl,h2⟩|⟨i,g,hg,rfl,rfl⟩|⟨y,rfl,h2,h3⟩
  ·trivial
  ·exact du _ _ h2 h1
  ·exact Ap i g _ hg h1
  ·exact Fc v y val h2 h3 h1
 refine⟨aj,⟨fun id=> ?_,fun id hu=>hh id (by have: ¬id<c+G.length:=hu;omega),fun i j k h1 h2 h3 h4=> ?_,fun k hk=>hH.ours k (bt k hk),hH.pP⟩,fun i=> ?_,bt,by show b<=c+G.length;omega,fun id ag hr=> ?_,fun id e' ag dZ=> ?_⟩
 ·have aF:aA M φ H w id:=hH.ok id
  show aA M aj H' w id
  unfold aA at aF|-
  by_cases br:id<c
  ·rcases ho id br with h3|⟨h3,hrefs⟩|⟨cs,cs',h3,h4,aZ⟩
   ·have e2:H'.o id= .no:=h3
    rw[e2];trivial
   ·have e1:H.o id=o' id:=h3
    have e2:H'.o id=o' id:=rfl
    rw[e1]at aF
    rw[e2,iY id br]
    cases lk:o' id with
    |no=>trivial
    |row cs=>
     simp only[lk]at aF hrefs|-
     obtain⟨b,cd,ty,k1,k2,k3,k4⟩:=aF
     exact⟨b,cd,ty,k1,k2,jb _ _ hrefs k3,k4⟩
    |arr ep ty sz es=>
     simp only[lk]at aF|-
     obtain⟨k1,xs,k2,evs,k3,k4,k5⟩:=aF
     exact⟨k1,xs,k2,evs,k3,k4,D.az (fun b _ hn=>⟨rfl,hB b hn⟩) _ _ k5⟩
    |lu ep es=>
     simp only[lk]at aF|-
     exact D.au (fun b _ hn=>⟨rfl,hB b hn⟩) _ _ aF
    |map kt vt es=>
     simp only[lk]at aF|-
     obtain⟨b,es',clock,k1,k2,k4,k3⟩:=aF
     exact⟨b,es',clock,k1,k2,k4,ay.mono (fun b _ hn=>⟨rfl,hB b hn⟩) _ _ k3⟩
    |eg l=>
     simp only[lk]at aF|-
     exact D.au (fun b _ hn=>⟨rfl,hB b hn⟩) _ _ aF
    |my l last=>
     simp only[lk]at aF|-
     obtain⟨b,k1,k2⟩:=aF
     exact⟨b,k1,k2.mono (fun b _ hn=>⟨rfl,hB b hn⟩) rfl⟩
    |n6 s pos=>
     simp only[lk]at aF|-
     exact aF
    |loop nf n env ps a b st pd=>
     simp only[lk]at aF hrefs|-
     obtain⟨b,r,k1,k2,k3,k4,k5,k6,k7,k8,k9,zS⟩:=aF
     exact⟨b,r,k1,k2,k3,k4,k5,k6,k7,k8,k9,fun i=>du _ _ (fun r hr=>hrefs r (V.iu _ _ r hr)) (zS i)⟩
   ·have e1:H.o id= .row cs:=h3
    have e2:H'.o id= .row cs':=h4
    rw[e1]at aF
    rw[e2,iY id br]
    obtain⟨b,cd,ty,k1,k2,k3,k4⟩:=aF
    exact⟨b,cd,ty,k1,k2,mg ue _ _ _ aZ k3,k4⟩
  ·by_cases uN:c+G.length<=id
   ·have e2:H'.o id= .no:=hh id uN
    rw[e2];trivial
   ·obtain⟨i,rfl⟩:∃i,id=c+i:=⟨id - c,by omega⟩
    obtain⟨g,hg⟩:∃g,G[i]? =some g:=⟨G[i]'(by omega),by simp⟩
    obtain⟨tH,a8⟩:=hG i g hg
    have e2:H'.o (c+i)= .arr 0 g.ty g.sz g.es:=tH
    rw[e2]
    rcases a8 with⟨h3,h4,dv⟩|⟨j,ep,hj,h3,gW⟩
    ·rw[h4]
     refine⟨dv,[], ?_,[],by simp,by simp,rfl⟩
     rw[At i g hg,h3]
     exact World.ownsRow_nil _ _ _ _
    ·have this:aA M φ H w j:=hH.ok j
     unfold aA at this
     have e3:H.o j= .arr ep g.ty g.sz g.es:=gW
     simp only[e3]at this
     obtain⟨k1,xs,k2,evs,k3,k4,k5⟩:=this
     exact⟨k1,xs,by rw[At i g hg,h3];exact k2,evs,k3,k4,D.az (fun b _ hn=>⟨rfl,hB b hn⟩) _ _ k5⟩
 ·obtain⟨i',a1,a2,a3⟩:=hold i k h1 h3
  obtain⟨j',b1,b2,b3⟩:=hold j k h2 h4
  have:=hH.apart i' j' k a1 b1 a2 b2
  subst this
  have eV:∀b8,(o' b8).live=true->b8<c->gone b8->False:=fun b8 g1 g2 g3=>by
   rw[mf _ g3 g2]at g1
   cases g1
  rcases a3 with⟨a3,a4⟩|⟨ia,ga,ea,a3,a4,a5,a6⟩<;>rcases b3 with⟨b3,b4⟩|⟨ib,gb,eb,b3,b4,b5,b6⟩
  ·omega
  ·exact(eV i h1 a3 (a4 ▸ b5)).elim
  ·exact(eV j h2 b3 (b4 ▸ a5)).elim
  ·have:=rp ia ib ga gb _ _ _ a4 b4 a6 b6
   omega
 ·have hi:=wX l 0 he i
  rw[Nat.zero_add]at hi
  exact ue _ _ _ hi (hd i)
 ·have br:id<c:=by omega
  have hr:(o' id).bd=true:=hr
  exact⟨(pU id br).1.1 hr,iY id br⟩
 ·have br:id<c:=by omega
  have dZ:(o' id).aO=some e':=dZ
  exact⟨e',(pU id br).1.2 e' dZ,Nat.le_refl _,fun _=>iY id br⟩
theorem dq.Qn (gone:Nat->Prop)(c:Nat){b:Nat}{e:Nat->V}{so:Nat->aa}{m:Nat}(l:List V){o':Nat->aa}(hb:b<=c)
 (ho:∀id,id<c->vL c [] so gone (so id) (o' id)) (hh:∀id,c<=id->o' id= .no) (mf:∀id,gone id->id<c->o' id= .no) (he:kp c [] so gone e l 0):dq b ⟨e,so,m⟩ ⟨bI l,o',c⟩:=
 dq.R8 gone [] c l rfl hb ho (fun i g h=>by cases h) hh mf (fun i j gi gj id ep eQ h=>by cases h) he
theorem dq.Mr (gone:Nat->Prop)(x:V)(c:Nat){ty:TypeId}{sz:Nat}{es:List D}{b:Nat}{e:Nat->V}{so:Nat->aa}{m:Nat}(l:List V){o':Nat->aa}(hb:b<=c)
 (ho:∀id,id<c->vL c [⟨x,ty,sz,es⟩] so gone (so id) (o' id)) (hc:o' c= .arr 0 ty sz es) (hx:sa so gone ty sz es x) (hh:∀id,c+1<=id->o' id= .no) (mf:∀id,gone id->id<c->o' id= .no)
 (he:kp c [⟨x,ty,sz,es⟩] so gone e l 0):dq b ⟨e,so,m⟩ ⟨bI l,o',c+1⟩:=
 dq.R8 gone [⟨x,ty,sz,es⟩] c l rfl hb ho (fun i g h=>by
  match i,h with
  |0,h=>simp at h;subst h;exact⟨hc,hx⟩) hh mf (fun i j gi gj id ep eQ h h' _ _=>by
  match i,j,h,h' with
  |0,0,_,_=>rfl) he
theorem Tu{P:Nat->Prop}:∀id,id<0->P id:=fun id ag=>by omega
@[go_sem] theorem R9 (b:Bool):(b==false)= !b:=by cases b<;>rfl
@[go_sem] theorem Sa (b:Bool):(b==true)=b:=by cases b<;>rfl
@[go_sem] theorem Ms (c:Bool) (v:V):V.rM c (V.rM c v)=V.rM c v:=by cases c<;>rfl
@[go_sem] theorem Mt (c:Bool):(c&&c)=c:=by cases c<;>rfl
@[go_sem] theorem Gt {α:Type} (f:α->D) (l:List α) (n:Nat) (h:∀x,(f x).cells.length=n):((l.map f).all fun z=>z.cells.length==n)=true:=by
  simp[List.all_eq_true,h]
attribute [go_sem] implies_true
attribute [go_sem] Option.isSome_none Option.getD_some Option.getD_none
theorem structOf{P:Program}{t:TypeId}(h:(match P.underlying t with|some (.struct _)=>true|_=>false)=true):∃fs,P.underlying t=some (.struct fs):=by
 split at h
 ·exact⟨_,by assumption⟩
 ·cases h
structure jN (base:Nat) (h o:Nat->aa) (nx:Nat):Prop where
 eG:Good o nx
 le:base<=nx
 eq:∀id,id<base->o id=h id
def Nm(base:Nat)(h:Nat->aa)(v:V)(o:Nat->aa)(nx:Nat)(K:V->(Nat->aa)->Nat->Prop):Prop:=
 ∀o' nx',nx<=nx'->jN base h o' nx'->(∀id,base<=id->id<nx->o' id=o id)->K v o' nx'
def sy(P:Program)(g:FuncId)(args:List V)(base:Nat)(h h2:Nat->aa)(v:V):Prop:=
 ∀o nx,jN base h o nx->∀K X,Nm base h2 v o nx K->fm P g args o nx K X
theorem jN.aV {base:Nat}{h o:Nat->aa}{nx m i:Nat}{x:aa}(hI:jN base h o nx)(hb:base<=i)(hi:i<m)(hm:nx<=m)(hx:x.refs.all (fun r=>decide (r<m))=true):jN base h (YtpkobkdgcanmjaaGreat.aV o i x) m:=
 ⟨(hI.eG.mono hm).aV hi hx,Nat.le_trans hI.le hm,fun id ag=>by rw[aH _ _ _ _ (by omega)];exact hI.eq id ag⟩
theorem jN.mono {base:Nat}{h o:Nat->aa}{nx m:Nat}(hI:jN base h o nx)(hm:nx<=m):jN base h o m:=⟨hI.eG.mono hm,Nat.le_trans hI.le hm,hI.eq⟩
def ext(base:Nat)(h o:Nat->aa):Nat->aa:=fun id=>if id<base then h id else o id
theorem jN.ext {base c:Nat}{h o:Nat->aa}{nx:Nat}(hI:jN base h o nx)(hc:c<=nx)(hb:base<=c):jN c (YtpkobkdgcanmjaaGreat.ext base h o) o nx:=
 ⟨hI.eG,hc,fun id _=>by unfold YtpkobkdgcanmjaaGreat.ext;split<;>first|exact hI.eq id (by assumption)|rfl⟩
theorem sy.ext {P:Program}{g:FuncId}{args:List V}{base c:Nat}{h h2:Nat->aa}{v:V}(hS:sy P g args base h h2 v)(hb:base<=c)(o0:Nat->aa):sy P g args c (YtpkobkdgcanmjaaGreat.ext base h o0) (YtpkobkdgcanmjaaGreat.ext base h2 o0) v:=by
 intro o nx hI K X hK
 refine hS o nx ⟨hI.eG,Nat.le_trans hb hI.le,fun id ag=>by rw[hI.eq id (by omega)];unfold YtpkobkdgcanmjaaGreat.ext;rw[if_pos ag]⟩ K X fun o' nx' h1 h2 h3=>hK o' nx' h1 ⟨h2.eG,Nat.le_trans hI.le h1,fun id ag=> ?_⟩ (fun id h4 h5=>h3 id (by omega) h5)
 unfold YtpkobkdgcanmjaaGreat.ext
 split
 ·exact h2.eq id (by assumption)
 ·rename_i hn
  rw[h3 id (by omega) (by have:=hI.le;omega),hI.eq id ag]
  unfold YtpkobkdgcanmjaaGreat.ext;rw[if_neg hn]
theorem Nm.ext {base c:Nat}{h o:Nat->aa}{v:V}{o1:Nat->aa}{nx sw:Nat}{K:V->(Nat->aa)->Nat->Prop}(hK:Nm base h v o nx K)(hb:base<=c)(hn:nx<=sw)(hc:nx<=c)(ho:∀id,base<=id->id<nx->o1 id=o id):Nm c (YtpkobkdgcanmjaaGreat.ext base h o1) v o1 sw K:=by
 intro o' nx' h1 h2 h3
 refine hK o' nx' (by omega) ⟨h2.eG,Nat.le_trans hb h2.le,fun id ag=> ?_⟩ fun id h4 h5=> ?_
 ·rw[h2.eq id (by omega)];unfold YtpkobkdgcanmjaaGreat.ext;rw[if_pos ag]
 ·rw[h2.eq id (by omega), <- ho id h4 h5];unfold YtpkobkdgcanmjaaGreat.ext;rw[if_neg (by omega)]
def bX{α σ:Type}(step:σ->α->σ×Bool)(s:σ):List α->σ×Bool
 |[]=>(s,true)
 |x::l=>if(step s x).2=true then bX step (step s x).1 l else((step s x).1,false)
theorem sd{α:Type}(f:Nat->α)(i:Nat)(x y:α):aV (aV f i x) i y=aV f i y:=by
 funext j;simp only[aV];split<;>rfl
attribute [go_sem] Int.cast_ofNat_Int
section
variable {P:Program}{n:Nat}{ps:List Nat}{x y:IC}{env:List V}{L:LoopState->Option lg->aa}
def se(P:Program)(n:Nat)(env:List V)(ps:List Nat)(x y:IC)(L:LoopState->Option lg->aa):Prop:=∀st pd,L st pd= .loop P.funcs.size n env ps x y st pd
theorem se.no (hL:se P n env ps x y L)(st:LoopState)(pd:Option lg):L st pd≠ .no:=by rw[hL];exact aa.noConfusion
theorem se.refs (hL:se P n env ps x y L)(st:LoopState)(pd:Option lg):(L st pd).refs=V.ax env:=by rw[hL];rfl
end
theorem fm.gen {P:Program}{g:FuncId}{args:List V}{o:Nat->aa}{nx:Nat}{K X:V->(Nat->aa)->Nat->Prop}(h:∀O,O=o->fm P g args O nx K X):fm P g args o nx K X:=h o rfl
end Go.Proofs.YtpkobkdgcanmjaaGreat
namespace Go.Proofs.YtpkobkdgcanmjaaGreat
attribute [go_sem_proc] Int.reduceBEq Int.reduceBNe Int.reduceLT Int.reduceLE Int.reduceEq Int.reduceNe Nat.reducePow Nat.reduceEqDiff Nat.reduceAdd Nat.reduceSub Nat.reduceMul Nat.reduceLeDiff Nat.reduceBEq Nat.reduceLT reduceIte reduceCtorEq Int.reduceToNat
attribute [go_sem] List.range_zero Option.isSome_some and_self List.cons.injEq
theorem Ff(n low high:Int):bU Tryz.prog 45 [.i n, .i low, .i high] (.ret [.bool (iD n low high)]):=by
 refine bU.bD mix IG (by simp) ?_
 rw[Pv]
 simp+contextual only[go_sem]
 rfl
theorem Au{t:Tm}{left depth:Int}(h:left<1\/depth<1):eR t left depth= -1:=by cases t;simp[eR,h]
theorem kY{l:List Tm}{left depth:Int}(h:left<0):bL l left depth=left:=by
 cases l with
 |nil=>rfl
 |cons k l=>simp[bL,show ¬ (0<=left) by omega]
theorem Av:∀t:Tm,∀left depth:Int, -1<=eR t left depth/\(1<=left->eR t left depth<=left - 1)/\(left<1->eR t left depth= -1):=by
 refine Tm.ind fun op n kids ih left depth=> ?_
 have hs:∀ (l:List Tm) (left d:Int),(∀k∈l,k∈kids)-> -1<=left-> -1<=bL l left d/\bL l left d<=left:=by
  intro l
  induction l with
  |nil=>intro left d _ h;simp[bL,h]
  |cons k l px=>
   intro left d hk h
   simp only[bL]
   split
   ·rename_i h0
    have h1:=ih k (hk k (by simp)) left d
    have h2:=px (eR k left d) d (fun x hx=>hk x (by simp[hx])) h1.1
    by_cases hl:1<=left
    ·have:=h1.2.1 hl;omega
    ·have:=h1.2.2 (by omega);omega
   ·omega
 simp only[eR]
 split
 ·rename_i h;refine⟨by omega,fun h1=> ?_,fun _=>rfl⟩;omega
 ·rename_i h
  have:=hs kids (left - 1) (depth - 1) (fun _ h=>h) (by omega)
  exact⟨this.1,fun _=>this.2,fun h=>by omega⟩
theorem ym(l:List Tm)(left d:Int)(h: -1<=left): -1<=bL l left d/\bL l left d<=left:=by
 induction l generalizing left with
 |nil=>simp[bL,h]
 |cons k l px=>
  simp only[bL]
  split
  ·have h1:=Av k left d
   have h2:=px (eR k left d) h1.1
   by_cases hl:1<=left
   ·have:=h1.2.1 hl;omega
   ·have:=h1.2.2 (by omega);omega
  ·omega
theorem kF(a b:List Tm)(left d:Int):bL (a++b) left d=bL b (bL a left d) d:=by
 induction a generalizing left with
 |nil=>rfl
 |cons k a ih=>
  simp only[List.cons_append,bL]
  split
  ·exact ih _
  ·rename_i h;rw[kY (by omega)]
theorem uh{l:List Tm}{i:Nat}{k:Tm}(hi:l[i]? =some k)(left d:Int)(h:0<=bL (l.take i) left d):bL (l.take (i+1)) left d=eR k (bL (l.take i) left d) d:=by
 rw[List.take_add_one,hi,kF]
 simp[bL,h]
theorem ui{l:List Tm}{i:Nat}(left d:Int)(h:bL (l.take i) left d<0):bL l left d=bL (l.take i) left d:=by
 conv=>lhs;rw[<- List.take_append_drop i l]
 rw[kF,kY h]
@[reducible] def sf (cs:List V):Nat->aa:=aV (fun _=> .no) 0 (.row cs)
@[reducible] def vP (cs ds:List V):Nat->aa:=aV (aV (fun _=> .no) 0 (.row cs)) 1 (.row ds)
theorem eD{cs:List V}(h:(aa.row cs).refs.all (fun r=>decide (r<1))=true):Good (sf cs) 1:=(Good.nil (nx:=1)).aV (by omega) h
theorem gI{cs ds:List V}(h:(aa.row cs).refs.all (fun r=>decide (r<2))=true)(h2:(aa.row ds).refs.all (fun r=>decide (r<2))=true):Good (vP cs ds) 2:=((Good.nil (nx:=2)).aV (by omega) h).aV (by omega) h2
theorem dq.d1 {e:Nat->V}{so o:Nat->aa}{m:Nat}(l:List V)(hg:Good o 1)(hm:1<=m)(h0:so 0=o 0)(he:iw 1 e l 0):dq 0 ⟨e,so,m⟩ ⟨bI l,o,1⟩:=
 dq.gH l (Nat.zero_le _) hm hg (fun id h=>by obtain rfl:id=0:=by omega
                                             exact h0) he
theorem dq.d2 {e:Nat->V}{so o:Nat->aa}{m:Nat}(l:List V)(hg:Good o 2)(hm:2<=m)(h0:so 0=o 0)(h1:so 1=o 1)(he:iw 2 e l 0):dq 0 ⟨e,so,m⟩ ⟨bI l,o,2⟩:=
 dq.gH l (Nat.zero_le _) hm hg (fun id h=>by
  rcases(by omega:id=0\/id=1)with rfl|rfl
  ·exact h0
  ·exact h1) he
@[reducible] def Tm.row (t:Tm):List V:=[.d (.i t.op), .d (.i t.n), .d (.sl (t.kids.map Tm.d))]
theorem uj(t:Tm)(left depth:Int):eR t left depth=if left<1\/depth<1 then -1 else bL t.kids (left - 1) (depth - 1):=by cases t;simp[eR,Tm.kids]
theorem wY:∀t:Tm,t.fits->∀left depth:Int, -1<=left/\left<=1000000-> -1<=depth/\depth<=1000000->bU Tryz.prog 35 [t.d, .i left, .i depth] (.ret [.i (eR t left depth)]):=by
 refine Tm.iy fun t ih hf left depth hl hd=> ?_
 have xC:=(Tm.cK _).1 hf
 refine bU.bD mix IA (by simp) ?_
 rw[Pk]
 simp+contextual only[go_sem]
 refine aJ (fun h1=> ?_) (fun h1=> ?_)
 ·simp+contextual only[go_sem]
  simp at h1
  rw[Au h1]
 ·simp at h1
  simp+contextual only[go_sem]
  rw[wrap64 (n:=left - 1) (by omega) (by omega),uj,if_neg (by omega)]
  refine cq (fun k:Nat=>⟨bI [.aw, .d (.i (bL (t.kids.take k) (left - 1) (depth - 1))), .d (.i depth), .ptr 0 0, .aw, .aw, .aw, .d (.i k)],sf t.row,1⟩)
   (fun k=>k<=t.kids.length) (fun k=>t.kids.length - k) 0 (Nat.zero_le _) (dq.d1 _ (eD rfl) (by omega) rfl ?_) (fun k hk=> ?_)
  ·(repeat(first|exact aP|refine aK ?_|refine aG rfl ?_|refine aG (cJ (cI (by omega))) ?_|refine bn rfl (by simp[V.refs,V.ax]<;>first|omega|assumption) ?_))
  have hb:=ym (t.kids.take k) (left - 1) (depth - 1) (by omega)
  simp+contextual only[go_sem]
  refine aJ (fun h2=> ?_) (fun h2=> ?_)
  ·simp at h2
   obtain⟨x,hx⟩:∃x,t.kids[k]? =some x:=⟨t.kids[k],by simp[h2.1]⟩
   have py:=List.mem_of_getElem? hx
   simp+contextual only[go_sem,hx]
   rw[wrap64 (n:=depth - 1) (by omega) (by omega)]
   refine ah (ih x py (xC.2 x py) _ _ (by omega) (by omega)) rfl ?_
   simp+contextual only[go_sem]
   rw[<- uh hx _ _ h2.2]
   refine bg (k+1) h2.1 (by omega) (dq.d1 _ (eD rfl) (by omega) rfl ?_)
   (repeat(first|exact aP|refine aK ?_|refine aG rfl ?_|refine aG (cJ (cI (by omega))) ?_|refine bn rfl (by simp[V.refs,V.ax]<;>first|omega|assumption) ?_))
  ·simp+contextual only[go_sem]
   simp only[Bool.and_eq_false_iff,decide_eq_false_iff_not]at h2
   congr 3
   rcases h2 with h2|h2
   ·rw[List.take_of_length_le (by omega)]
   ·exact ui _ _ (by omega)
theorem Fg(s:List UInt8)(hs:s.length<=9223372036854775807):bU Tryz.prog 71 [.str s] (.ret [.bool (gq s)]):=by
 refine bU.bD mix IZ (by simp) ?_
 rw[PV]
 simp+contextual only[go_sem]
 refine cq (fun k:Nat=>⟨bI [.d (.str s), .aw, .aw, .d (.i k)],fun _=> .no,0⟩)
  (fun k=>k<=s.length/\(s.take k).all letterF=true) (fun k=>s.length - k) 0 ⟨Nat.zero_le _,by simp⟩ (dq.d0 _ ?_) (fun k hk=> ?_)
 ·(repeat(first|exact aP|refine aK ?_|refine aG rfl ?_|refine aG (cJ (cI (by omega))) ?_|refine bn rfl (by simp[V.refs,V.ax]<;>first|omega|assumption) ?_))
 simp+contextual only[go_sem]
 refine aJ (fun h2=> ?_) (fun h2=> ?_)
 ·simp at h2
  obtain⟨x,hx⟩:∃x,s[k]? =some x:=⟨s[k],by simp[h2]⟩
  simp+contextual only[go_sem,hx]
  refine aJ (fun h3=> ?_) (fun h3=> ?_)
  ·simp+contextual only[go_sem]
   have:gq s=false:=by
    have:s.all letterF=false:=by
     rw[List.all_eq_false]
     refine⟨x,List.mem_of_getElem? hx, ?_⟩
     simp only[letterF,h3];simp
    simp[gq,this]
   rw[this]
  ·simp+contextual only[go_sem]
   refine bg (k+1) ⟨h2, ?_⟩ (by omega) (dq.d0 _ ?_)
   ·rw[List.take_add_one,hx,List.all_append,hk.2]
    simp[letterF,h3]
   ·(repeat(first|exact aP|refine aK ?_|refine aG rfl ?_|refine aG (cJ (cI (by omega))) ?_|refine bn rfl (by simp[V.refs,V.ax]<;>first|omega|assumption) ?_))
 ·simp+contextual only[go_sem]
  refine ah (Ff _ _ _) rfl ?_
  simp+contextual only[go_sem]
  simp at h2
  have:=hk.2
  rw[List.take_of_length_le (by omega)]at this
  simp[gq,this]
theorem wZ(l:List ll)(bs:List (List UInt8))(hl:l.length<=1000)(hb:bs.length<=1000)(hs:∀x∈l,x.name.length<=9223372036854775807):
 bU Tryz.prog 46 [.sl (l.map ll.d), .sl (bs.map .str)] (.ret [.sl (((bK l bs).getD []).map .str), .bool (bK l bs).isSome]):=by
 refine bU.bD mix II (by simp) ?_
 rw[Pw]
 simp+contextual only[go_sem]
 refine cq (fun k:Nat=>⟨bI [.d (.sl (l.map ll.d)), .d (.sl ((bs++(l.take k).map (·.name)).map .str)), .aw, .aw, .aw, .aw, .d (.i k)],fun _=> .no,0⟩)
  (fun k=>k<=l.length/\bK l bs=bK (l.drop k) (bs++(l.take k).map (·.name))) (fun k=>l.length - k) 0 ⟨Nat.zero_le _,by simp⟩ (dq.d0 _ ?_) (fun k hk=> ?_)
 ·simp only[List.take_zero,List.map_nil,List.append_nil]
  (repeat(first|exact aP|refine aK ?_|refine aG rfl ?_|refine aG (cJ (cI (by omega))) ?_|refine bn rfl (by simp[V.refs,V.ax]<;>first|omega|assumption) ?_))
 simp+contextual only[go_sem]
 refine aJ (fun h2=> ?_) (fun h2=> ?_)
 ·simp at h2
  obtain⟨x,hx⟩:∃x,l[k]? =some x:=⟨l[k],by simp[h2]⟩
  have py:=List.mem_of_getElem? hx
  have tD:l.drop k=x::l.drop (k+1):=by
   rw[List.drop_eq_getElem_cons h2]
   rw[List.getElem?_eq_getElem h2]at hx;injection hx with hx;rw[hx]
  generalize hB:bs++(l.take k).map (·.name)=B at*
  have TX:B.length<=2000:=by rw[<- hB];simp;omega
  simp+contextual only[go_sem]
  refine cq (fun j:Nat=>⟨bI [.d (.sl (l.map ll.d)), .d (.sl (B.map .str)), .aw, .aw, .aw, .aw, .d (.i k), .d (.i j)],fun _=> .no,0⟩)
   (fun j=>j<=B.length/\(B.take j).any (· ==x.name)=false) (fun j=>B.length - j) 0 ⟨Nat.zero_le _,by simp⟩ (dq.d0 _ ?_) (fun j hj=> ?_)
  ·(repeat(first|exact aP|refine aK ?_|refine aG rfl ?_|refine aG (cJ (cI (by omega))) ?_|refine bn rfl (by simp[V.refs,V.ax]<;>first|omega|assumption) ?_))
  simp+contextual only[go_sem]
  refine aJ (fun h3=> ?_) (fun h3=> ?_)
  ·simp at h3
   obtain⟨y,hy⟩:∃y,B[j]? =some y:=⟨B[j],by simp[h3]⟩
   simp+contextual only[go_sem,hx,hy]
   refine cS (by decide) ?_
   simp+contextual only[go_sem]
   refine aJ (fun h4=> ?_) (fun h4=> ?_)
   ·simp+contextual only[go_sem]
    have:bK l bs=none:=by
     rw[hk.2,tD,bK,if_pos]
     rw[List.any_eq_true]
     exact⟨y,List.mem_of_getElem? hy,h4⟩
    rw[this];rfl
   ·simp+contextual only[go_sem]
    refine bg (j+1) ⟨h3, ?_⟩ (by omega) (dq.d0 _ ?_)
    ·rw[List.take_add_one,hy,List.any_append,hj.2]
     simp only[Option.toList_some,List.any_cons,h4,List.any_nil,Bool.or_false]
    ·(repeat(first|exact aP|refine aK ?_|refine aG rfl ?_|refine aG (cJ (cI (by omega))) ?_|refine bn rfl (by simp[V.refs,V.ax]<;>first|omega|assumption) ?_))
  ·simp at h3
   have Fh:=hj.2
   rw[List.take_of_length_le (by omega)]at Fh
   simp+contextual only[go_sem,hx]
   refine ah (Fg x.name (hs x py)) rfl ?_
   simp+contextual only[go_sem,hx]
   refine oY (nq [.bool (iD x.args 0 4)] ?_ ?_)
   ·simp+contextual only[go_sem]
    exact fun _=>Ff _ _ _
   simp+contextual only[go_sem]
   refine aJ (fun h4=> ?_) (fun h4=> ?_)
   ·simp+contextual only[go_sem]
    have:bK l bs=none:=by
     rw[hk.2,tD,bK,if_neg (by rw[Fh];exact Bool.false_ne_true),if_pos h4]
    rw[this];rfl
   ·have e1:B.length<=140737488355328:=by omega
    have e2:B.length*16<=140737488355328:=by omega
    have e3:B.length<=140737488355327:=by omega
    have e4:(B.length+1)*16<=140737488355328:=by omega
    simp+contextual only[go_sem,hx,e1,e2,e3,e4]
    refine cS (by decide) ?_
    simp+contextual only[go_sem]
    have hn:bK l bs=bK (l.drop (k+1)) (bs++(l.take (k+1)).map (·.name)):=by
     rw[hk.2,tD,bK,if_neg (by rw[Fh];exact Bool.false_ne_true),if_neg (by rw[h4];exact Bool.false_ne_true), <- hB,List.take_add_one,hx]
     simp
    refine bg (k+1) ⟨h2,hn⟩ (by omega) (dq.Qn (fun _=>True) 0 _ (Nat.le_refl _) Tu (fun _ _=>rfl) (fun _ _ _=>rfl) ?_)
    have MY:(bs++(l.take (k+1)).map (·.name)).map D.str=B.map D.str++[D.str x.name]:=by
     rw[<- hB,List.take_add_one,hx];simp
    rw[MY]
    (repeat(first|exact pw|refine mU ?_|refine mV rfl ?_|refine mV (cJ (cI (by omega))) ?_|refine vN 0 rfl rfl rfl ?_|refine vM rfl (by simp[V.refs,V.ax]<;>first|omega|assumption) ?_|refine vO rfl (by simp[V.ids]<;>omega) ?_))
 ·simp+contextual only[go_sem]
  simp at h2
  have:bK l bs=some (bs++l.map (·.name)):=by
   rw[hk.2,List.drop_eq_nil_of_le (by omega),bK,List.take_of_length_le (by omega)]
  rw[this,List.take_of_length_le (by omega)]
  rfl
theorem Fi(a b:List UInt8)(m n:Int):mo Tryz.prog 100 69 (.agg [.str a, .i m]) (.agg [.str b, .i n])=some (a==b&&m==n):=by
 have h1:aU Tryz.prog 69=some (.struct [(9,0),(3,1)]):=by kernel_rfl
 have h2:aU Tryz.prog 9=some .str:=by kernel_rfl
 have h3:aU Tryz.prog 3=some .int:=by kernel_rfl
 have h4:bf Tryz.prog 9=some false:=by kernel_rfl
 have h5:bf Tryz.prog 3=some false:=by kernel_rfl
 simp[mo,h1,h2,h3,h4,h5,sD,DI,fS,yP]
@[go_sem] theorem Qo (o:Nat->aa) (kJ:Bool) (a b:List UInt8) (m n:Int):sF Tryz.prog o 69 kJ (.d (.agg [.str a, .i m])) (.d (.agg [.str b, .i n]))=some (.d (.bool (a==b&&m==n))):=by
  obtain⟨fs,h⟩:∃fs,Tryz.prog.underlying 69=some (.struct fs):=structOf (by kernel_rfl)
  have h2:Tryz.prog.eqGuardType Tryz.prog.depth 69=false:=by kernel_rfl
  unfold sF
  rw[h]
  dsimp only
  rw[if_pos h2,Fi]
  rfl
theorem yn{l:List ll}{bs B:List (List UInt8)}(h:bK l bs=some B):B=bs++l.map (·.name):=by
 induction l generalizing bs with
 |nil=>simp[bK]at h;simp[h]
 |cons x l ih=>
  simp only[bK]at h
  split at h
  ·cases h
  ·split at h
   ·cases h
   ·rw[ih h];simp
structure bJ.Fits (s:bJ):Prop where
 lc:s.cons.length<=9223372036854775807
 lf:s.dV.length<=9223372036854775807
 nc:∀x∈s.cons,x.name.length<=9223372036854775807
 nf:∀x∈s.dV,x.name.length<=9223372036854775807
theorem Mu(s:bJ)(hs:s.Fits):bU Tryz.prog 12 [s.d] (.ret [.bool (mR s)]):=by
 refine bU.bD mix Ix (by simp) ?_
 rw[OU]
 simp+contextual only[go_sem]
 refine ah (Ff _ _ _) rfl ?_
 simp+contextual only[go_sem]
 cases h1:(!iD s.cons.length 2 12||decide (8<(s.dV.length:Int)))with
 |true=>
  simp+contextual only[go_sem,h1]
  simp only[mR,h1,if_true]
 |false=>
  simp[iD]at h1
  obtain⟨a,b,r,hc⟩:∃a b r,s.cons=a::b::r:=by
   match h:s.cons with
   |[]=>rw[h]at h1;simp at h1
   |[a]=>rw[h]at h1;simp at h1
   |a::b::r=>exact⟨a,b,r,rfl⟩
  have lN:(!iD s.cons.length 2 12||decide (8<(s.dV.length:Int)))=false:=by simp[iD];omega
  simp+contextual only[go_sem,lN,hc]
  have yo:mR s=if(!jg a fB|| !jg b tB)=true then false else match bK s.cons []with
   |none=>false
   |some l=>(bK s.dV l).isSome:=by
   unfold mR
   rw[if_neg (by rw[lN];exact Bool.false_ne_true),hc]
   dsimp only
   rfl
  refine aJ (fun h2=> ?_) (fun h2=> ?_)
  ·simp+contextual only[go_sem]
   have xF:(!jg a fB|| !jg b tB)=true:=h2
   rw[yo,if_pos xF]
  ·simp+contextual only[go_sem,hc]
   have hl:(a::b::r).length<=1000:=by rw[<- hc];omega
   have MX:=wZ (a::b::r) [] hl (by simp) (by rw[<- hc];exact hs.nc)
   simp only[List.map_cons,List.map_nil]at MX
   refine bH MX ?_
   have xF:(!jg a fB|| !jg b tB)=false:=h2
   rw[yo,if_neg (by rw[xF];exact Bool.false_ne_true),hc]
   cases hn:bK (a::b::r) []with
   |none=>simp+contextual only[go_sem,hn]
   |some B=>
    simp+contextual only[go_sem,hn]
    have hB:B.length<=1000:=by
     have:=yn hn
     rw[this];simp at hl|-;omega
    have Qp:=wZ s.dV B (by omega) hB hs.nf
    refine bH Qp ?_
    simp+contextual only[go_sem]
end Go.Proofs.YtpkobkdgcanmjaaGreat
namespace Go.Proofs.YtpkobkdgcanmjaaGreat
theorem iZ{l:List ll}{n:Int}{x:ll}(h:l[n.toNat]? =some x):jH l n=x.args:=by simp[jH,h]
theorem nV{l:List ll}{n:Int}(h:iD n 0 (l.length - 1)=true):0<=n/\∃x,l[n.toNat]? =some x:=by
 simp[iD]at h
 exact⟨h.1,l[n.toNat]'(by omega),by simp⟩
theorem jP{α:Type}{l:List α}{p:α->Bool}{k:Nat}{x:α}(hx:l[k]? =some x)(h:p x=false):l.all p=false:=by
 rw[List.all_eq_false];exact⟨x,List.mem_of_getElem? hx,by rw[h];exact Bool.false_ne_true⟩
theorem mh{α:Type}{l:List α}{p:α->Bool}{k:Nat}{x:α}(hx:l[k]? =some x)(h0:(l.take k).all p=true)(h:p x=true):(l.take (k+1)).all p=true:=by
 rw[List.take_add_one,hx,List.all_append,h0];simp[h]
theorem mi{α:Type}{l:List α}{p:α->Bool}{k:Nat}(h0:(l.take k).all p=true)(h:l.length<=k):l.all p=true:=by
 rwa [List.take_of_length_le h]at h0
theorem bY{α:Type}{l:List α}{k:Nat}(h:k<l.length):∃x,l[k]? =some x:=⟨l[k],by simp[h]⟩
@[reducible] def bJ.row (s:bJ):List V:=[.d (.sl (s.cons.map ll.d)), .d (.sl (s.dV.map ll.d))]
theorem iB:∀l l':List Tm,l.length=l'.length->(iW l l'=true↔∀ (i:Nat) (x y:Tm),l[i]? =some x->l'[i]? =some y->ma x y=true)
 |[],l',_=>by simp[iW]
 |k::l,k'::l',h=>by
  simp only[iW,Bool.and_eq_true]
  rw[iB l l' (by simpa using h)]
  constructor
  ·rintro⟨h1,h2⟩ i x y hx hy
   cases i with
   |zero=>simp at hx hy;subst hx;subst hy;exact h1
   |succ i=>exact h2 i x y (by simpa using hx) (by simpa using hy)
  ·intro h3
   exact⟨h3 0 k k' rfl rfl,fun i x y hx hy=>h3 (i+1) x y (by simpa using hx) (by simpa using hy)⟩
 |_::_,[],h=>by simp at h
theorem pz(a b:Tm):ma a b=(a.op==b.op&&a.n==b.n&&a.kids.length==b.kids.length&&iW a.kids b.kids):=by cases a;cases b;simp[ma,Tm.op,Tm.n,Tm.kids]
theorem Fj:∀a:Tm,a.fits->∀b:Tm,b.fits->bU Tryz.prog 19 [a.d,b.d] (.ret [.bool (ma a b)]):=by
 refine Tm.iy fun t ih hf b hb=> ?_
 have xC:=(Tm.cK _).1 hf
 have xn:=(Tm.cK _).1 hb
 refine bU.bD mix Iz (by simp) ?_
 rw[O1,pz]
 simp+contextual only[go_sem]
 refine aJ (fun h1=> ?_) (fun h1=> ?_)
 ·simp+contextual only[go_sem]
  have:(t.op==b.op&&t.n==b.n&&t.kids.length==b.kids.length)=false:=by
   rw[Bool.eq_false_iff]
   intro h
   simp at h
   simp[h]at h1
  rw[this];rfl
 ·have lN:t.op=b.op/\t.n=b.n/\t.kids.length=b.kids.length:=by
   simp at h1
   refine⟨h1.1.1,h1.1.2,by have:=h1.2;omega⟩
  rw[show(t.op==b.op&&t.n==b.n&&t.kids.length==b.kids.length)=true by simp[lN],Bool.true_and]
  have hl:=lN.2.2
  simp+contextual only[go_sem]
  refine cq (fun k:Nat=>⟨bI [.aw, .aw, .ptr 0 0, .ptr 1 0, .aw, .d (.i k)],vP t.row b.row,2⟩)
   (fun k=>k<=t.kids.length/\∀i,i<k->∀x y,t.kids[i]? =some x->b.kids[i]? =some y->ma x y=true) (fun k=>t.kids.length - k) 0 ⟨Nat.zero_le _,fun i h=>by omega⟩ (dq.d2 _ (gI rfl rfl) (by omega) rfl rfl ?_) (fun k hk=> ?_)
  ·(repeat(first|exact aP|refine aK ?_|refine aG rfl ?_|refine aG (cJ (cI (by omega))) ?_|refine bn rfl (by simp[V.refs,V.ax]<;>first|omega|assumption) ?_))
  simp+contextual only[go_sem]
  refine aJ (fun h2=> ?_) (fun h2=> ?_)
  ·simp at h2
   obtain⟨x,hx⟩:=bY h2
   obtain⟨y,hy⟩:=bY (l:=b.kids) (k:=k) (by omega)
   have py:=List.mem_of_getElem? hx
   have Mv:=List.mem_of_getElem? hy
   simp+contextual only[go_sem,hx,hy]
   refine iV (ih x py (xC.2 x py) y (xn.2 y Mv)) rfl ?_
   simp+contextual only[go_sem]
   refine cS (by decide) ?_
   simp+contextual only[go_sem]
   refine aJ (fun h3=> ?_) (fun h3=> ?_)
   ·simp+contextual only[go_sem]
    simp at h3
    have:iW t.kids b.kids=false:=by
     rw[Bool.eq_false_iff]
     intro h
     have:=(iB _ _ hl).1 h k x y hx hy
     rw[h3]at this;cases this
    rw[this]
   ·simp+contextual only[go_sem]
    simp at h3
    refine bg (k+1) ⟨h2,fun i hi u v hu hv=> ?_⟩ (by omega) (dq.d2 _ (gI rfl rfl) (by omega) rfl rfl ?_)
    ·by_cases e:i=k
     ·subst e
      rw[hx]at hu;rw[hy]at hv
      injection hu with hu;injection hv with hv;subst hu;subst hv;exact h3
     ·exact hk.2 i (by omega) u v hu hv
    ·(repeat(first|exact aP|refine aK ?_|refine aG rfl ?_|refine aG (cJ (cI (by omega))) ?_|refine bn rfl (by simp[V.refs,V.ax]<;>first|omega|assumption) ?_))
  ·simp+contextual only[go_sem]
   simp at h2
   have:iW t.kids b.kids=true:=(iB _ _ hl).2 fun i x y hx hy=>hk.2 i (by have:=(List.getElem?_eq_some_iff.1 hx).1;omega) x y hx hy
   rw[this]
theorem vQ(s:bJ)(hs:s.Fits):bU Tryz.prog 6 [s.d] (.ret [.bool (iz s)]):=by
 refine bU.bD mix Ra (by simp) ?_
 rw[c6]
 simp+contextual only[go_sem]
 refine aJ (fun h1=> ?_) (fun h1=> ?_)
 ·simp+contextual only[go_sem]
  simp only[iz,h1];rfl
 ·have e:iz s=(ef s.cons&&ef s.dV):=by simp only[iz,h1];rfl
  rw[e]
  simp at h1
  simp+contextual only[go_sem]
  refine cq (fun k:Nat=>⟨bI [.aw, .ptr 0 0, .aw, .d (.i k)],sf s.row,1⟩)
   (fun k=>k<=s.cons.length/\ef (s.cons.take k)=true) (fun k=>s.cons.length - k) 0 ⟨Nat.zero_le _,by simp[ef]⟩ (dq.d1 _ (eD rfl) (by omega) rfl ?_) (fun k hk=> ?_)
  ·(repeat(first|exact aP|refine aK ?_|refine aG rfl ?_|refine aG (cJ (cI (by omega))) ?_|refine bn rfl (by simp[V.refs,V.ax]<;>first|omega|assumption) ?_))
  simp+contextual only[go_sem]
  refine aJ (fun h2=> ?_) (fun h2=> ?_)
  ·simp at h2
   obtain⟨x,hx⟩:=bY h2
   simp+contextual only[go_sem,hx]
   refine aJ (fun h3=> ?_) (fun h3=> ?_)
   ·simp+contextual only[go_sem]
    rw[show ef s.cons=false from jP hx (by simpa using h3)];rfl
   ·simp+contextual only[go_sem]
    refine bg (k+1) ⟨h2,mh hx hk.2 (by simpa using h3)⟩ (by omega) (dq.d1 _ (eD rfl) (by omega) rfl ?_)
    (repeat(first|exact aP|refine aK ?_|refine aG rfl ?_|refine aG (cJ (cI (by omega))) ?_|refine bn rfl (by simp[V.refs,V.ax]<;>first|omega|assumption) ?_))
  ·simp at h2
   rw[show ef s.cons=true from mi hk.2 h2,Bool.true_and]
   simp+contextual only[go_sem]
   refine cq (fun k:Nat=>⟨bI [.aw, .ptr 0 0, .aw, .aw, .d (.i k)],sf s.row,1⟩)
    (fun k=>k<=s.dV.length/\ef (s.dV.take k)=true) (fun k=>s.dV.length - k) 0 ⟨Nat.zero_le _,by simp[ef]⟩ (dq.d1 _ (eD rfl) (by omega) rfl ?_) (fun k hk=> ?_)
   ·(repeat(first|exact aP|refine aK ?_|refine aG rfl ?_|refine aG (cJ (cI (by omega))) ?_|refine bn rfl (by simp[V.refs,V.ax]<;>first|omega|assumption) ?_))
   simp+contextual only[go_sem]
   refine aJ (fun h4=> ?_) (fun h4=> ?_)
   ·simp at h4
    obtain⟨x,hx⟩:=bY h4
    simp+contextual only[go_sem,hx]
    refine aJ (fun h3=> ?_) (fun h3=> ?_)
    ·simp+contextual only[go_sem]
     rw[show ef s.dV=false from jP hx (by simpa using h3)]
    ·simp+contextual only[go_sem]
     refine bg (k+1) ⟨h4,mh hx hk.2 (by simpa using h3)⟩ (by omega) (dq.d1 _ (eD rfl) (by omega) rfl ?_)
     (repeat(first|exact aP|refine aK ?_|refine aG rfl ?_|refine aG (cJ (cI (by omega))) ?_|refine bn rfl (by simp[V.refs,V.ax]<;>first|omega|assumption) ?_))
   ·simp at h4
    rw[show ef s.dV=true from mi hk.2 h4]
    simp+contextual only[go_sem]
end Go.Proofs.YtpkobkdgcanmjaaGreat
namespace Go.Proofs.YtpkobkdgcanmjaaGreat
section
variable {σ:Type}(base TY:Nat)(H:σ->Nat->aa)(step:σ->Tm×Int->σ×Bool)(ok:σ->Prop)
end
end Go.Proofs.YtpkobkdgcanmjaaGreat
namespace Go.Proofs.YtpkobkdgcanmjaaGreat
end Go.Proofs.YtpkobkdgcanmjaaGreat
namespace Go.Proofs.YtpkobkdgcanmjaaGreat
theorem pA(n low high:Int):bU Tryz.prog 89 [.i n, .i low, .i high] (.ret [.bool (iD n low high)]):=by
 refine bU.bD mix I3 (by simp) ?_
 rw[Qb]
 simp+contextual only[go_sem]
 rfl
theorem funcOf{P:Program}{t:TypeId}(h:(match P.underlying t with|some (.func _ _ _)=>true|_=>false)=true):∃a b c,P.underlying t=some (.func a b c):=by
 split at h
 ·exact⟨_,_,_,by assumption⟩
 ·cases h
@[go_sem] theorem Qq (o:Nat->aa) (kJ:Bool):sF Tryz.prog o 152 kJ (.d .aD) (.d .aD)=some (.d (.bool true)):=by
  obtain⟨a,b,c,h⟩:=funcOf (P:=Tryz.prog) (t:=152) (by kernel_rfl)
  unfold sF;rw[h]
@[go_sem] theorem Qr (o:Nat->aa) (kJ:Bool) (f:Fn) (x y:List V):sF Tryz.prog o 152 kJ (.func f x y) (.d .aD)=some (.d (.bool false)):=by
  obtain⟨a,b,c,h⟩:=funcOf (P:=Tryz.prog) (t:=152) (by kernel_rfl)
  unfold sF;rw[h]
end Go.Proofs.YtpkobkdgcanmjaaGreat
namespace Go.Proofs.YtpkobkdgcanmjaaGreat
end Go.Proofs.YtpkobkdgcanmjaaGreat
namespace Go.Proofs.YtpkobkdgcanmjaaGreat
def enc{κ:Type}(kf:κ->D)(m:List (κ×D)):List (D×D):=m.map fun p=>(kf p.1,p.2)
def mW{κ:Type}[BEq κ](k:κ):List (κ×D)->Nat->Option (Nat×D)
 |[],_=>none
 |p::m,i=>if(k==p.1)=true then some (i,p.2)else mW k m (i+1)
def yp(d:D)(r:Option (Nat×D)):Option (Nat×D×D):=match r with|some (i,x)=>some (i,d,x)|none=>none
@[go_sem] theorem Gu (d:D) (i:Nat) (x:D):yp d (some (i,x))=some (i,d,x):=rfl
@[go_sem] theorem Gv (d:D):yp d none=none:=rfl
section
variable {P:Program}{kt:TypeId}
theorem Cd(h:aU P kt=some .int)(a b:Int):mo P 100 kt (.int .i64 a) (.int .i64 b)=some (a==b):=by simp[mo,h]
theorem Ce(h:aU P kt=some .str)(a b:List UInt8):mo P 100 kt (.str a) (.str b)=some (a==b):=by simp[mo,h]
@[go_sem] theorem Nn (h:aU P kt=some .int) (a:Int):kj P 100 kt (.int .i64 a)=true:=by simp[kj,h]
@[go_sem] theorem Np (h:aU P kt=some .str) (a:List UInt8):kj P 100 kt (.str a)=true:=by simp[kj,h]
theorem pB{κ:Type}[BEq κ][LawfulBEq κ](kf:κ->D)(he:∀a b,mo P 100 kt (kf a) (kf b)=some (a==b))(k:κ):∀ (m:List (κ×D)) (i:Nat),findD P kt (kf k) (enc kf m) i=some (yp (kf k) (mW k m i))
 |[],_=>rfl
 |p::m,i=>by
  have ih:=pB kf he k m (i+1)
  simp only[enc,List.map_cons,findD,he,mW]at ih|-
  by_cases h:k=p.1
  ·subst h;simp[yp]
  ·have:(k==p.1)=false:=by simpa using h
   simp only[this,Bool.false_eq_true,if_false];exact ih
@[go_sem] theorem Mw (h:aU P kt=some .int) (k:Int) (m:List (Int×D)):findD P kt (.int .i64 k) (enc (.int .i64) m) 0=some (yp (.int .i64 k) (mW k m 0)):=pB (.int .i64) (Cd h) k m 0
@[go_sem] theorem Mx (h:aU P kt=some .str) (k:List UInt8) (m:List (List UInt8×D)):findD P kt (.str k) (enc .str m) 0=some (yp (.str k) (mW k m 0)):=pB .str (Ce h) k m 0
end
section
variable {κ:Type}(kf:κ->D)
theorem Aw(m:List (κ×D))(k:κ)(x:D):enc kf m++[(kf k,x)]=enc kf (m++[(k,x)]):=by simp[enc]
theorem Cf(m:List (κ×D))(i:Nat)(k:κ)(x:D):(enc kf m).set i (kf k,x)=enc kf (m.set i (k,x)):=by simp[enc,List.map_set]
end
theorem uk{κ:Type}[BEq κ][LawfulBEq κ]{k:κ}:∀ {m:List (κ×D)} {i j:Nat} {x:D},mW k m i=some (j,x)->i<=j/\m[j - i]? =some (k,x)
 |[],_,_,_,h=>by cases h
 |p::m,i,j,x,h=>by
  simp only[mW]at h
  split at h
  ·rename_i hk
   injection h with h;injection h with h1 h2
   subst h1;subst h2
   exact⟨Nat.le_refl _,by simp[(by simpa using hk:k=p.1)]⟩
  ·obtain⟨h1,h2⟩:=uk h
   refine⟨by omega, ?_⟩
   rw[show j - i=(j - (i+1))+1 by omega]
   simpa using h2
theorem qK{κ:Type}[BEq κ][LawfulBEq κ]{k:κ}:∀ {m:List (κ×D)} {i:Nat},mW k m i=none↔∀p∈m,p.1≠k
 |[],_=>by simp[mW]
 |p::m,i=>by
  simp only[mW]
  split
  ·rename_i hk
   simp[(by simpa using hk:k=p.1)]
  ·rename_i hk
   rw[qK]
   have:p.1≠k:=fun e=>hk (by simp[e])
   simp[this]
def si(P:Program)(o:Nat->aa)(t:TypeId)(m k v:V):Option eP:=
 match mF P t,dn o k,dn o v,lB o m with
 |some (kt,_),some kd,some vd,some (some (id,xl,xm),l)=>if k.ids=[]/\kj P 100 kt kd=true/\gK kd=true/\v.ids.all (· !=id)=true then match findD P kt kd l 0 with
  |some (some (i,k',_))=>if k'.same kd=true then some (.bM [],cg o v.ids++[(id, .map xl xm (l.set i (kd,vd)))],id::v.ids)else none
  |some none=>some (.bM [],cg o v.ids++[(id, .map xl xm (l++[(kd,vd)]))],id::v.ids)
  |none=>none
  else none
 |_,_,_,_=>none
@[go_sem low] theorem Gw (P:Program) (o:Nat->aa) (t:TypeId) (m v:V) (k:D):fe P o t m (.d k) v=si P o t m (.d k) v:=by unfold fe si;rfl
def Ax(P:Program)(o:Nat->aa)(t:TypeId)(m k:V)(ok:Bool):Option eP:=
 match mF P t,dn o k,m5 o m with
 |some (kt,vt),some kd,some (rd,l)=>if k.ids=[]/\kj P 100 kt kd=true then match findD P kt kd l 0 with
  |some (some (_,_,x))=>some (if ok=true then .bM [.d x, .d (.bool true)]else .d x,[],rd)
  |some none=>match zeroV P vt with
   |some z=>some (if ok=true then .bM [z, .d (.bool false)]else z,[],rd)
   |none=>none
  |none=>none
  else none
 |_,_,_=>none
@[go_sem low] theorem Gx (P:Program) (o:Nat->aa) (t:TypeId) (m:V) (k:D) (ok:Bool):iG P o t m (.d k) ok=Ax P o t m (.d k) ok:=by unfold iG Ax;rfl
attribute [go_sem] Ax si jV jj jk ky kz jl m5 lB Nw lA gK D.same
end Go.Proofs.YtpkobkdgcanmjaaGreat
namespace Go.Proofs.YtpkobkdgcanmjaaGreat
theorem dec_lt{l:List UInt8}{i:Nat}{b:UInt8}(hb:l[i]? =some b)(h:b.toNat<128):Utf8.decode ⟨⟨l⟩⟩ i=(b.toNat,1):=by
 have e:(ByteArray.mk ⟨l⟩).get! i=b:=by
  show(Array.mk l)[i]! =b
  simp[hb]
 simp only[Utf8.decode,Nat.add_zero,e]
 rw[if_pos h]
theorem Fk{l:List UInt8}{i:Nat}{b:UInt8}(hb:l[i]? =some b)(h:128<=b.toNat):128<=(Utf8.decode ⟨⟨l⟩⟩ i).1:=by
 have e:(ByteArray.mk ⟨l⟩).get! i=b:=by
  show(Array.mk l)[i]! =b
  simp[hb]
 simp only[Utf8.decode,Nat.add_zero,e]
 rw[if_neg (by omega)]
 split
 ·split<;>simp_all[Utf8.runeError]
 ·split
  ·split
   ·rename_i h3;simp at h3;omega
   ·simp[Utf8.runeError]
  ·split
   ·split
    ·rename_i h3;simp at h3;omega
    ·simp[Utf8.runeError]
   ·simp[Utf8.runeError]
def Cg(r:Int):Bool:=decide (97<=r)&&decide (r<=122)||decide (65<=r)&&decide (r<=90)
theorem Ay(b:UInt8):Cg b.toNat=letterF b:=by
 rw[Bool.eq_iff_iff]
 simp[Cg,letterF]
theorem yq(s:List UInt8)(hs:s.length<=9223372036854775807):bU Tryz.prog 88 [.str s] (.ret [.bool (gq s)]):=by
 refine bU.bD mix I2 (by simp) ?_
 rw[Qa]
 simp+contextual (disch:=first|omega|simp only[go_sem,false_implies]) only[go_sem,wrap64,if_pos,Nat.add_assoc,Nat.left_eq_add,Nat.add_eq_left,Nat.add_left_cancel_iff]
 refine cq (fun k:Nat=>⟨bI [.d (.str s), .aw, .aw, .aw, .aw, .aw, .ptr 2 0],aV (fun _=> .no) 2 (.n6 s k),3⟩)
  (fun k=>k<=s.length/\(s.take k).all letterF=true) (fun k=>s.length - k) 0 ⟨Nat.zero_le _,by simp⟩ (dq.gH _ (by omega) (by omega) (Good.nil.aV (by omega) rfl) (fun _ _=>rfl) ?_) (fun k hk=> ?_)
 ·(repeat(first|exact aP|refine aK ?_|refine aG rfl ?_|refine aG (cJ (cI (by omega))) ?_|refine bn rfl (by simp[V.refs,V.ax]<;>first|omega|assumption) ?_))
 by_cases h2:k<s.length
 ·obtain⟨b,hb⟩:=bY h2
  by_cases h3:b.toNat<128
  ·simp+contextual (disch:=first|omega|simp only[go_sem,false_implies]) only[go_sem,wrap64,if_pos,Nat.add_assoc,Nat.left_eq_add,Nat.add_eq_left,Nat.add_left_cancel_iff,h2,dec_lt hb h3]
   have hr:=Ay b
   simp only[Cg]at hr
   rw[hr]
   cases hl:letterF b with
   |true=>
    simp+contextual (disch:=first|omega|simp only[go_sem,false_implies]) only[go_sem,wrap64,if_pos,and_self]
    refine bg (k+1) ⟨h2,mh hb hk.2 hl⟩ (by omega) (dq.gH _ (by omega) (by omega) (Good.nil.aV (by omega) rfl) (fun _ _=>by rw[sd]) ?_)
    (repeat(first|exact aP|refine aK ?_|refine aG rfl ?_|refine aG (cJ (cI (by omega))) ?_|refine bn rfl (by simp[V.refs,V.ax]<;>first|omega|assumption) ?_))
   |false=>
    simp+contextual (disch:=first|omega|simp only[go_sem,false_implies]) only[go_sem,wrap64,if_pos,and_self]
    simp[gq,jP hb hl]
  ·have hr:letterF b=false:=by
    rw[<- Ay];simp[Cg];omega
   have hd:=Fk hb (by omega)
   simp+contextual (disch:=first|omega|simp only[go_sem,false_implies]) only[go_sem,wrap64,if_pos,Nat.add_assoc,Nat.left_eq_add,Nat.add_eq_left,Nat.add_left_cancel_iff,h2]
   have:(decide (97<=((Utf8.decode ⟨⟨s⟩⟩ k).1:Int))&&decide (((Utf8.decode ⟨⟨s⟩⟩ k).1:Int)<=122)||decide (65<=((Utf8.decode ⟨⟨s⟩⟩ k).1:Int))&&decide (((Utf8.decode ⟨⟨s⟩⟩ k).1:Int)<=90))=false:=by
    rw[Bool.eq_false_iff];intro h;simp at h;omega
   rw[this]
   simp+contextual (disch:=first|omega|simp only[go_sem,false_implies]) only[go_sem,wrap64,if_pos,and_self]
   simp[gq,jP hb hr]
 ·simp+contextual (disch:=first|omega|simp only[go_sem,false_implies]) only[go_sem,wrap64,if_pos,Nat.add_assoc,Nat.left_eq_add,Nat.add_eq_left,Nat.add_left_cancel_iff,h2]
  refine ah (pA _ _ _) rfl ?_
  simp+contextual (disch:=first|omega|simp only[go_sem,false_implies]) only[go_sem,wrap64,if_pos,and_self]
  rw[gq,mi hk.2 (by omega),Bool.true_and]
theorem um{σ:Type}(l:List ll)(hl:l.length<=9223372036854775807)(g:Nat)(b9:List V)(base:Nat)(H:σ->Nat->aa)(step:σ->ll->σ×Bool)(hc:∀r∈V.ax b9,r<base)(ok:σ->Prop)(a8:∀x∈l,∀s,ok s->(step s x).2=true->ok (step s x).1)
 (h:∀x∈l,∀s,ok s->sy Tryz.prog g (.d x.d::b9) base (H s) (H (step s x).1) (.d (.bool (step s x).2))) (s:σ) (rr:ok s):
 sy Tryz.prog 90 [.d (.sl (l.map ll.d)), .func (.func g) [] b9] base (H s) (H (bX step s l).1) (.d (.bool (bX step s l).2)):=by
 intro o nx hI K X hK
 have qZ:∀r∈V.ax b9,r<nx:=fun r hr=>Nat.lt_of_lt_of_le (hc r hr) hI.le
 refine fm.bD mix I4 (by simp) ?_
 rw[Qc]
 simp+contextual only[go_sem]
 refine cq (fun i:Nat×σ×(Nat->aa)×Nat=>⟨bI [.aw, .func (.func g) [] b9, .aw, .aw, .aw, .aw, .aw, .d (.sl (l.map ll.d)), .d (.i l.length), .d (.i i.1)],i.2.2.1,i.2.2.2⟩)
  (fun i=>i.1<=l.length/\jN base (H i.2.1) i.2.2.1 i.2.2.2/\nx<=i.2.2.2/\(∀id,base<=id->id<nx->i.2.2.1 id=o id)/\bX step s l=bX step i.2.1 (l.drop i.1)/\ok i.2.1) (fun i=>l.length - i.1) (0,s,o,nx)
  ⟨Nat.zero_le _,hI,Nat.le_refl _,fun _ _ _=>rfl,rfl,rr⟩ ?_ ?_
 ·dsimp only
  refine dq.gH _ (Nat.le_refl _) (by omega) hI.eG (fun _ _=>rfl) ?_
  (repeat(first|exact aP|refine aK ?_|refine aG rfl ?_|refine aG (cJ (cI (by omega))) ?_|refine bn rfl (by simp[V.refs,V.ax]<;>first|omega|assumption) ?_))
 rintro⟨k,s',o',nx'⟩ ⟨hk,DA,hn,cZ,hf,vR⟩
 simp only at hk DA hn cZ hf vR
 simp+contextual only[go_sem]
 refine aJ (fun h1=> ?_) (fun h1=> ?_)
 ·simp at h1
  obtain⟨x,hx⟩:=bY h1
  have py:=List.mem_of_getElem? hx
  have hd:l.drop k=x::l.drop (k+1):=by
   rw[List.drop_eq_getElem_cons h1]
   rw[List.getElem?_eq_getElem h1]at hx;injection hx with hx;rw[hx]
  simp+contextual only[go_sem,hx,Nat.add_assoc,Nat.left_eq_add,Nat.add_eq_left,Nat.add_left_cancel_iff]
  have QR:=DA.le
  refine jF (h x py s' vR _ _ (?_:jN base (H s') _ (nx'+7)) _ _ fun o2 n2 m1 m2 m3=> ?_)
  ·exact(DA.aV (i:=nx'+3) (m:=nx'+7) (by omega) (by omega) (by omega) rfl).aV (by omega) (by omega) (by omega) rfl
  have My:∀id,base<=id->id<nx->o2 id=o id:=fun id h2 h3=>by
   rw[m3 id h2 (by omega),aH _ _ _ _ (by omega),aH _ _ _ _ (by omega),cZ id h2 h3]
  simp+contextual only[go_sem]
  refine aJ (fun h2=> ?_) (fun h2=> ?_)
  ·simp+contextual only[go_sem]
   simp at h2
   have:bX step s l=((step s' x).1,false):=by rw[hf,hd,bX,if_neg (by rw[h2];exact Bool.false_ne_true)]
   rw[this]at hK
   exact hK _ _ (by omega) (m2.mono (by omega)) My
  ·simp+contextual only[go_sem]
   simp at h2
   have:bX step s l=bX step (step s' x).1 (l.drop (k+1)):=by rw[hf,hd,bX,if_pos h2]
   refine bg (k+1,(step s' x).1,o2,n2) ⟨h1,m2,by dsimp only;omega,My,this,a8 x py s' vR h2⟩ (by dsimp only;omega) ?_
   dsimp only
   have Mz:∀r∈V.ax b9,r<n2:=fun r hr=>by have:=qZ r hr;omega
   refine dq.gH _ (by omega) (by omega) m2.eG (fun _ _=>rfl) ?_
   (repeat(first|exact aP|refine aK ?_|refine aG rfl ?_|refine aG (cJ (cI (by omega))) ?_|refine bn rfl (by simp[V.refs,V.ax]<;>first|omega|assumption) ?_))
 ·simp+contextual only[go_sem]
  simp at h1
  rw[List.drop_eq_nil_of_le h1]at hf
  simp only[bX]at hf
  rw[hf]at hK
  exact hK _ _ (by omega) (DA.mono (by omega)) cZ
def kZ(l:List (List UInt8)):List (List UInt8×D):=l.map fun s=>(s, .bool true)
theorem yr(l:List (List UInt8))(s:List UInt8):kZ l++[(s, .bool true)]=kZ (l++[s]):=by simp[kZ]
theorem yu{l:List (List UInt8)}{s:List UInt8}{i:Nat}{x:D}(h:mW s (kZ l) 0=some (i,x)):x= .bool true/\(kZ l).set i (s, .bool true)=kZ l/\l.any (· ==s)=true:=by
 obtain⟨_,h2⟩:=uk h
 rw[Nat.sub_zero]at h2
 simp only[kZ,List.getElem?_map]at h2
 cases hl:l[i]? with
 |none=>rw[hl]at h2;cases h2
 |some y=>
  rw[hl]at h2
  simp at h2
  obtain⟨rfl,rfl⟩:=h2
  refine⟨rfl, ?_, ?_⟩
  ·apply List.ext_getElem?
   intro j
   rw[List.getElem?_set]
   split
   ·rename_i e;subst e
    obtain⟨br,hy⟩:=List.getElem?_eq_some_iff.1 hl
    simp[kZ,br,hy]
   ·rfl
  ·exact List.any_eq_true.2 ⟨y,List.mem_of_getElem? hl,by simp⟩
theorem yw{l:List (List UInt8)}{s:List UInt8}(h:mW s (kZ l) 0=none):l.any (· ==s)=false:=by
 rw[qK]at h
 rw[List.any_eq_false]
 intro x hx hs
 have:=h (x, .bool true) (by simp[kZ];exact hx)
 simp at hs;exact this hs
def Ch(bs:List (List UInt8))(x:ll):Bool:= !bs.any (· ==x.name)&&gq x.name&&iD x.args 0 4
def fb(bs:List (List UInt8))(x:ll):List (List UInt8)×Bool:=(if bs.any (· ==x.name)=true then bs else bs++[x.name],Ch bs x)
theorem Fl(x:ll)(hx:x.name.length<=9223372036854775807)(base mp id:Nat)(h:Nat->aa)(Tv:h mp= .row [.mp id])(h1:mp<base)(h2:id<base)(h3:id≠mp)(bs:List (List UInt8)):
 sy Tryz.prog 87 [.d x.d, .ptr mp 0] base (aV h id (.map 9 4 (enc .str (kZ bs)))) (aV h id (.map 9 4 (enc .str (kZ (fb bs x).1)))) (.d (.bool (fb bs x).2)):=by
 intro o nx hI K X hK
 have hle:=hI.le
 have hg:=hI.eG
 have q0:o mp= .row [.mp id]:=by rw[hI.eq mp h1,aH _ _ _ _ (by omega),Tv]
 have q1:o id= .map 9 4 (enc .str (kZ bs)):=by rw[hI.eq id h2,aI]
 refine fm.bD mix I1 (by simp) ?_
 rw[P9]
 cases ha:mW x.name (kZ bs) 0 with
 |none=>
  have hn:=yw ha
  have hs:fb bs x=(bs++[x.name],gq x.name&&iD x.args 0 4):=by simp[fb,Ch,hn]
  rw[hs]at hK
  simp+contextual (disch:=first|omega|simp only[go_sem,false_implies]) only[go_sem,wrap64,if_pos,q0,q1,ha]
  refine ah (yq _ hx) rfl ?_
  simp+contextual (disch:=first|omega|simp only[go_sem,false_implies]) only[go_sem,wrap64,if_pos,and_self]
  refine oY (nq [.bool (iD x.args 0 4)] ?_ ?_)
  ·simp+contextual (disch:=first|omega|simp only[go_sem,false_implies]) only[go_sem,wrap64,if_pos,and_self]
   exact fun _=>pA _ _ _
  simp+contextual (disch:=first|omega|simp only[go_sem,false_implies]) only[go_sem,wrap64,if_pos,and_self]
  rw[Aw,yr]
  refine hK _ _ (by omega) ⟨(by repeat(first|exact hg.mono (by omega)|exact Good.nil|refine Good.aV ?_ (by omega) rfl|refine Good.aV ?_ (by omega) (w6 _ _ _ (by omega))|refine Good.aV ?_ (by omega) (by simp[aa.refs,V.ax,V.refs]<;>omega))),by omega,fun j hj=> ?_⟩ (fun j g1 g2=>by(repeat(first|rfl|rw[aI]|rw[aH _ _ _ _ (by omega)])))
  ·by_cases e:j=id
   ·subst e;(repeat(first|rfl|rw[aI]|rw[aH _ _ _ _ (by omega)]))
   ·rw[aH _ _ _ _ e,aH _ _ _ _ e,aH _ _ _ _ (by omega),hI.eq j hj,aH _ _ _ _ e]
 |some p=>
  obtain⟨i,y⟩:=p
  obtain⟨rfl,e1,hn⟩:=yu ha
  have hs:fb bs x=(bs,false):=by simp[fb,Ch,hn]
  rw[hs]at hK
  simp+contextual (disch:=first|omega|simp only[go_sem,false_implies]) only[go_sem,wrap64,if_pos,q0,q1,ha]
  rw[Cf,e1]
  refine hK _ _ (by omega) ⟨(by repeat(first|exact hg.mono (by omega)|exact Good.nil|refine Good.aV ?_ (by omega) rfl|refine Good.aV ?_ (by omega) (w6 _ _ _ (by omega))|refine Good.aV ?_ (by omega) (by simp[aa.refs,V.ax,V.refs]<;>omega))),by omega,fun j hj=> ?_⟩ (fun j g1 g2=>by(repeat(first|rfl|rw[aI]|rw[aH _ _ _ _ (by omega)])))
  ·by_cases e:j=id
   ·subst e;(repeat(first|rfl|rw[aI]|rw[aH _ _ _ _ (by omega)]))
   ·rw[aH _ _ _ _ e,aH _ _ _ _ e,aH _ _ _ _ (by omega),hI.eq j hj,aH _ _ _ _ e]
theorem la:∀ (l:List ll) (bs:List (List UInt8)),match bK l bs with|some B=>bX fb bs l=(B,true)|none=>(bX fb bs l).2=false
 |[],bs=>rfl
 |x::l,bs=>by
  have ih:=la l (bs++[x.name])
  simp only[bK,bX,fb,Ch]
  by_cases h1:bs.any (· ==x.name)=true
  ·simp[h1]
  ·simp only[Bool.not_eq_true]at h1
   simp only[h1,Bool.false_eq_true,if_false,Bool.not_false,Bool.true_and]
   by_cases h2:(gq x.name&&iD x.args 0 4)=true
   ·have h3: ¬ ((!gq x.name|| !iD x.args 0 4)=true):=by simp at h2;simp[h2]
    rw[if_neg h3,if_pos h2]
    exact ih
   ·have h3:(!gq x.name|| !iD x.args 0 4)=true:=by
     cases hn:gq x.name<;>simp_all
    rw[if_pos h3,if_neg h2]
end Go.Proofs.YtpkobkdgcanmjaaGreat
