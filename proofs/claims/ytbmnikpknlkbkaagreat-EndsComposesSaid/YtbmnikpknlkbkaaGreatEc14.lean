/-
  A PART OF THE PROOF. Conditions: none.
-/
import Derived.Test.YtbmnikpknlkbkaaGreatEc13
set_option linter.unusedSimpArgs false
set_option linter.unusedVariables false
namespace Go.Proofs.YtbmnikpknlkbkaaGreat
def gH(x y:aa):Prop:=(x.bc=true->y.bc=true)/\∀e,x.aL=some e->y.aL=some e
theorem gH.rfl' {x y:aa}(h:x=y):gH x y:=h ▸ ⟨id,fun _ h=>h⟩
theorem gH.fz (x:aa):gH x.fz x:=by cases x<;>exact⟨id,fun _ h=>h⟩
theorem gH.row (cs cs':List V):gH (.row cs) (.row cs'):=⟨fun _=>rfl,fun _ h=>by cases h⟩
mutual
theorem V.hU {B B':Nat->Prop}{φ ai:Place}{H H':Hp}{w:World}(hB:∀b, ¬B b-> ¬B' b):∀ (v:V) (val:Value),(∀id∈v.refs,gH (H'.o id) (H.o id)/\ai id=φ id/\H'.us id)->V.den B φ H w v val->V.den B' ai H' w v val
 | .d x,val,_,h=>D.ao (w:=w) (w':=w) (fun b _ hn=>⟨rfl,hB b hn⟩) x val h
 | .aI,_,_,h=>h
 | .aE,_,_,_=>trivial
 | .dy,_,_,h=>h
 | .jU es,val,_,h=>⟨D.ao (w:=w) (w':=w) (fun b _ hn=>⟨rfl,hB b hn⟩) (.sl es) val h.1,h.2⟩
 | .agg cs,val,hr,h=>by
   obtain⟨a,rfl,h1,h2⟩:=h
   exact⟨a,rfl,V.eP hB cs _ (by simpa[V.refs]using hr) h1,h2⟩
 | .bJ cs,val,hr,h=>by
   obtain⟨a,rfl,h1⟩:=h
   exact⟨a,rfl,V.eP hB cs _ (by simpa[V.refs]using hr) h1⟩
 | .ptr id off,val,hr,h=>by
   obtain⟨a,b,c⟩:=hr id (by simp[V.refs])
   obtain⟨h0,h1,h2⟩:=h
   refine⟨h0,c,fun aY=> ?_⟩
   obtain⟨x,y,z⟩:=h2 (a.1 aY)
   exact⟨x,b.trans y,z⟩
 | .osl id ep,val,hr,h=>by
   obtain⟨a,b,c⟩:=hr id (by simp[V.refs])
   obtain⟨h0,h1,h2⟩:=h
   refine⟨h0,c,fun e he=> ?_⟩
   obtain⟨x,y⟩:=h2 e (a.2 e he)
   exact⟨x,fun heq=>(y heq).trans b.symm⟩
 | .pe id ep i sz off,val,hr,h=>by
   obtain⟨a,b,c⟩:=hr id (by simp[V.refs])
   obtain⟨h0,h1,h2⟩:=h
   refine⟨h0,c,fun e he=> ?_⟩
   obtain⟨x,y⟩:=h2 e (a.2 e he)
   refine⟨x,fun heq=> ?_⟩
   obtain⟨p,q,r,z,u⟩:=y heq
   exact⟨p,q,r,b.trans z,u⟩
 | .pp cs off,val,_,h=>by
   obtain⟨a,ev,h1,h2,h3,h5,h4⟩:=h
   exact⟨a,ev,h1,h2,D.aw (w:=w) (w':=w) (fun b _ hn=>⟨rfl,hB b hn⟩) cs ev h3,h5,h4.mono (w:=w) (w':=w) (fun b _ hn=>⟨rfl,hB b hn⟩)⟩
 | .func fn first cap,val,hr,h=>by
   obtain⟨f,c,rfl,h1,h2⟩:=h
   exact⟨f,c,rfl,V.eP hB first _ (fun id ag=>hr id (by simp[V.refs,ag])) h1,V.eP hB cap _ (fun id ag=>hr id (by simp[V.refs,ag])) h2⟩
 | .iface t x,val,hr,h=>by
   obtain⟨u,rfl,h⟩:=h
   exact⟨u,rfl,V.hU hB x u (by simpa[V.refs]using hr) h⟩
 | .nm id off n,val,hr,h=>by
   obtain⟨a,b,c⟩:=hr id (by simp[V.refs])
   obtain⟨h0,h1,h2⟩:=h
   refine⟨h0,c,fun aY=> ?_⟩
   obtain⟨x,y,z⟩:=h2 (a.1 aY)
   exact⟨x,b.trans y,z⟩
 | .mp id,val,hr,h=>by
   obtain⟨a,b,c⟩:=hr id (by simp[V.refs])
   obtain⟨h0,h1,h2⟩:=h
   refine⟨h0,c,fun aY=> ?_⟩
   exact(h2 (a.1 aY)).trans b.symm
 | .js id,val,hr,h=>by
   obtain⟨a,b,c⟩:=hr id (by simp[V.refs])
   obtain⟨h0,h1,h2⟩:=h
   refine⟨h0,c,fun aY=> ?_⟩
   obtain⟨x,y,z⟩:=h2 (a.1 aY)
   exact⟨x,b.trans y,z⟩
theorem V.eP {B B':Nat->Prop}{φ ai:Place}{H H':Hp}{w:World}(hB:∀b, ¬B b-> ¬B' b):∀ (vs:List V) (vals:List Value),(∀id∈V.az vs,gH (H'.o id) (H.o id)/\ai id=φ id/\H'.us id)->V.ak B φ H w vs vals->V.ak B' ai H' w vs vals
 |[],_,_,h=>h
 |v::vs,_,hr,h=>by
  obtain⟨u,us,rfl,h1,h2⟩:=h
  exact⟨u,us,rfl,V.hU hB v u (fun id ag=>hr id (by simp[V.az,ag])) h1,V.eP hB vs us (fun id ag=>hr id (by simp[V.az,ag])) h2⟩
end
mutual
theorem V.jA {B:Nat->Prop}{φ:Place}{H:Hp}{w:World}:∀ (v:V) (val:Value),V.den B φ H w v val->∀id∈v.refs,H.us id
 | .osl id ep,_,h,j,hj| .ptr id off,_,h,j,hj| .pe id ep i sz off,_,h,j,hj| .nm id off n,_,h,j,hj| .mp id,_,h,j,hj| .js id,_,h,j,hj=>by simp[V.refs]at hj;subst hj;exact h.2.1
 | .agg cs,_,h,j,hj=>by obtain⟨a,rfl,h,_⟩:=h;exact V.fQ cs _ h j (by simpa[V.refs]using hj)
 | .bJ cs,_,h,j,hj=>by obtain⟨a,rfl,h⟩:=h;exact V.fQ cs _ h j (by simpa[V.refs]using hj)
 | .func fn first cap,_,h,j,hj=>by
   obtain⟨f,c,rfl,h1,h2⟩:=h
   rcases List.mem_append.1 (show j∈V.az first++V.az cap by simpa[V.refs]using hj)with hj|hj
   ·exact V.fQ first _ h1 j hj
   ·exact V.fQ cap _ h2 j hj
 | .iface t x,_,h,j,hj=>by obtain⟨u,rfl,h⟩:=h;exact V.jA x u h j (by simpa[V.refs]using hj)
 | .d _,_,_,_,hj| .aI,_,_,_,hj| .pp _ _,_,_,_,hj| .aE,_,_,_,hj| .jU _,_,_,_,hj| .dy,_,_,_,hj=>by simp[V.refs]at hj
theorem V.fQ {B:Nat->Prop}{φ:Place}{H:Hp}{w:World}:∀ (vs:List V) (vals:List Value),V.ak B φ H w vs vals->∀id∈V.az vs,H.us id
 |[],_,_,j,hj=>by simp[V.az]at hj
 |v::vs,_,h,j,hj=>by
  obtain⟨u,us,rfl,h1,h2⟩:=h
  rcases List.mem_append.1 (show j∈v.refs++V.az vs by simpa[V.az]using hj)with hj|hj
  ·exact V.jA v u h1 j hj
  ·exact V.fQ vs us h2 j hj
end
def sS(c:Nat)(x:V)(so:Nat->aa)(gone:Nat->Prop)(v v':V):Prop:=
 v'= .aE\/(v'=v/\∀r∈v.refs,r<c)\/(v'= .osl c 0/\v=x)\/∃y,v'= .d y/\dk so v=some y/\∀id∈v.ids,gone id/\∀ep,x≠ .osl id ep
def ve(c:Nat)(x:V)(so:Nat->aa)(gone:Nat->Prop)(env:Nat->V):List V->Nat->Prop
 |[],_=>True
 |v::l,i=>sS c x so gone (env i) v/\ve c x so gone env l (i+1)
def vf(c:Nat)(x:V)(so:Nat->aa)(gone:Nat->Prop):List V->List V->Prop
 |[],[]=>True
 |v::l,v'::l'=>sS c x so gone v v'/\vf c x so gone l l'
 |_,_=>False
theorem sT{c:Nat}{x:V}{so:Nat->aa}{gone:Nat->Prop}{env:Nat->V}:∀ (l:List V) (i:Nat),ve c x so gone env l i->∀j,sS c x so gone (env (i+j)) (bU l j)
 |[],i,_,j=>by rw[g8];exact .inl rfl
 |v::l,i,h,0=>by rw[gZ];exact h.1
 |v::l,i,h,j+1=>by
  rw[fy]
  have:=sT l (i+1) h.2 j
  rwa [show i+1+j=i+(j+1) by omega]at this
theorem jT{c:Nat}{x:V}{so:Nat->aa}{gone:Nat->Prop}{B B':Nat->Prop}{φ ai:Place}{H H':Hp}{w:World}(hc:∀v v' val,sS c x so gone v v'->V.den B φ H w v val->V.den B' ai H' w v' val):
 ∀ (l l':List V) (vals:List Value),vf c x so gone l l'->V.ak B φ H w l vals->V.ak B' ai H' w l' vals
 |[],[],_,_,h=>h
 |v::l,v'::l',_,h,hd=>by
  obtain⟨u,us,rfl,h1,h2⟩:=hd
  exact⟨u,us,rfl,hc _ _ _ h.1 h1,jT hc l l' us h.2 h2⟩
 |[],_::_,_,h,_=>h.elim
 |_::_,[],_,h,_=>h.elim
def qT(so:Nat->aa)(gone:Nat->Prop)(ty:TypeId)(sz:Nat)(es:List D)(x:V):Prop:=
 (x= .aI/\es=[]/\0<sz)\/∃id ep,gone id/\x= .osl id ep/\so id= .arr ep ty sz es
theorem vc.gone {so:Nat->aa}{c:Nat}{ty:TypeId}{sz:Nat}{es:List D}{x:V}(h:vc so c ty sz es x):qT so (fun id=>c<=id) ty sz es x:=h
theorem dv.Hl (gone:Nat->Prop){b:Nat}{e:Nat->V}{so:Nat->aa}{m:Nat}(l:List V){o:Nat->aa}{c:Nat}{ty:TypeId}{sz:Nat}{es:List D}(x:V)(r0:Nat)(cs cs':List V)(BJ:r0<c)(hb:b<=c)(HH:c<=m)(hg:Good o c)(ou:∀id,gone id->id<c->id≠r0/\o id= .no)(ho:∀id,id<c->id≠r0->so id=o id\/o id= .no)(yy:so r0= .row cs)(aY:vf c x so gone cs cs')(hx:qT so gone ty sz es x)(he:ve c x so gone e l 0):
 dv b ⟨e,so,m⟩ ⟨bU l,aV (aV o c (.arr 0 ty sz es)) r0 (.row cs'),c+1⟩:=by
 intro M φ w tm hH hd
 let ai:Place:=mb φ c x
 let o':Nat->aa:=aV (aV o c (.arr 0 ty sz es)) r0 (.row cs')
 let H':Hp:=hp o' (c+1)
 let H:Hp:=⟨so,fun id=>id<m⟩
 have sw:o' c= .arr 0 ty sz es:=by show aV (aV o c (.arr 0 ty sz es)) r0 (.row cs') c=_;rw[aS _ _ _ _ (by omega),aX]
 have wG:∀id,id<c->id≠r0->o' id=o id:=fun id ag e9=>by show aV (aV o c (.arr 0 ty sz es)) r0 (.row cs') id=_;rw[aS _ _ _ _ e9,aS _ _ _ _ (by omega)]
 have NC:o' r0= .row cs':=aX _ _ _
 have Dq:∀id,c<id->o' id= .no:=fun id ag=>by show aV (aV o c (.arr 0 ty sz es)) r0 (.row cs') id=_;rw[aS _ _ _ _ (by omega),aS _ _ _ _ (by omega)];exact hg.fresh id (by omega)
 have iF:∀id,id<c->ai id=φ id:=fun id ag=>if_neg (by omega)
 have uh:x= .aI->ai c= .slice none 0 0:=fun h=>by simp only[ai,mb,h,if_pos]
 have ui:∀id ep,x= .osl id ep->ai c=φ id:=fun id ep h=>by simp only[ai,mb,if_pos,h]
 have hold:∀id k,(o' id).live=true->cW (ai id)=some k->∃j,(so j).live=true/\cW (φ j)=some k/\((id<c/\j=id)\/(id=c/\gone j/\∃ep,x= .osl j ep)):=by
  intro id k h1 h2
  rcases Nat.lt_trichotomy id c with br|heq|z6
  ·rw[iF id br]at h2
   by_cases e9:id=r0
   ·subst e9
    exact⟨id,by rw[yy];rfl,h2, .inl ⟨br,rfl⟩⟩
   ·rw[wG id br e9]at h1
    rcases ho id br e9 with hs|hs
    ·exact⟨id,by rw[hs];exact h1,h2, .inl ⟨br,rfl⟩⟩
    ·rw[hs]at h1;cases h1
  ·subst heq
   rcases hx with⟨rfl,_,_⟩|⟨j,ep,hj,rfl,gI⟩
   ·rw[uh rfl]at h2;cases h2
   ·rw[ui j ep rfl]at h2
    exact⟨j,by rw[gI];rfl,h2, .inr ⟨rfl,hj,ep,rfl⟩⟩
  ·rw[Dq id z6]at h1;cases h1
 have bq:∀k,bp ai H' k->bp φ H k:=by
  rintro k ⟨id,h1,h2⟩
  obtain⟨j,g1,g2,_⟩:=hold id k h1 h2
  exact⟨j,g1,g2⟩
 have hB:∀k, ¬ad M φ H k-> ¬ad M ai H' k:=fun k h h'=>h (h'.imp id (bq k))
 have oN:∀id,id<c->gH (H'.o id) (H.o id)/\ai id=φ id/\H'.us id:=fun id ag=>by
  refine⟨?_,iF id ag,(by show id<c+1;omega)⟩
  by_cases e9:id=r0
  ·subst e9
   show gH (o' id) (so id)
   rw[NC,yy];exact gH.row _ _
  ·rcases ho id ag e9 with hs|hs
   ·exact gH.rfl' ((wG id ag e9).trans hs.symm)
   ·show gH (o' id) (so id)
    rw[wG id ag e9,hs]
    exact⟨fun h=>(by cases h),fun e h=>(by cases h)⟩
 have da:∀ (v:V) (val:Value),(∀r∈v.refs,r<c)->V.den (ad M φ H) φ H w v val->V.den (ad M ai H') ai H' w v val:=fun v val hr h=>
  V.hU (H:=H) (H':=H') hB v val (fun id ag=>oN id (hr id ag)) h
 have iG:∀ (v:List V) (val:List Value),(∀r∈V.az v,r<c)->V.ak (ad M φ H) φ H w v val->V.ak (ad M ai H') ai H' w v val:=fun v val hr h=>
  V.eP (H:=H) (H':=H') hB v val (fun id ag=>oN id (hr id ag)) h
 have Dr:∀ (v:V) (y:D) (val:Value),dk so v=some y->(∀id∈v.ids,gone id/\∀ep,x≠ .osl id ep)->V.den (ad M φ H) φ H w v val->D.den (ad M ai H') w y val:=fun v y val h1 h2 h3=>by
  obtain⟨f1,f2,f3,f4,f5⟩:=cj (H:=H) hH v.ids (fun id ag=>b9 v val h3 id ag)
  have Lh:∀k,bp φ (H.put (b8 H.o v.ids)) k->bp φ H k:=by
   rintro k ⟨id,g1,g2⟩
   by_cases ag:id∈v.ids
   ·rw[f3 id ag]at g1
    refine⟨id, ?_,g2⟩
    revert g1
    cases H.o id<;>simp[aa.fz,aa.live]
   ·rw[f4 id ag]at g1;exact⟨id,g1,g2⟩
  have h4:V.den (ad M φ (H.put (b8 H.o v.ids))) φ (H.put (b8 H.o v.ids)) w v val:=
   V.hU (H:=H) (fun k h h'=>h (h'.imp id (Lh k))) v val (fun id ag=>by
     have cJ:H.us id:=(V.jA v val h3) id ag
     refine⟨?_,rfl,(f5 id).2 cJ⟩
     by_cases hm:id∈v.ids
     ·rw[f3 id hm];exact gH.fz _
     ·rw[f4 id hm];exact gH.rfl' rfl) h3
  have h5:=dA f1 (o:=so) v y val (fun id ag=>f3 id ag) h1 h4
  refine D.ao (w:=w) (w':=w) (fun k _ hn=>⟨rfl,fun hk=>hn (hk.imp id ?_)⟩) y val h5
  rintro⟨id,g1,g2⟩
  obtain⟨j,k1,k2,k3⟩:=hold id k g1 g2
  refine⟨j, ?_,k2⟩
  have:j∉v.ids:=fun hm=>by
   obtain⟨k4,k5⟩:=h2 j hm
   rcases k3 with⟨k6,k7⟩|⟨_,_,ep,k6⟩
   ·subst k7
    obtain⟨k8,k9⟩:=ou _ k4 k6
    have g1:(o' j).live=true:=g1
    rw[wG _ k6 k8,k9]at g1
    cases g1
   ·exact k5 ep k6
  rw[f4 j this];exact k1
 have yz:∀val,V.den (ad M φ H) φ H w x val->V.den (ad M ai H') ai H' w (.osl c 0) val:=by
  intro val this
  rcases hx with⟨rfl,rfl,cK⟩|⟨j,ep,hj,rfl,gI⟩
  ·simp only[V.den]at this
   rw[this]
   refine⟨rfl,(by show c<c+1;omega),fun e' dN=> ?_⟩
   have dN:(o' c).aL=some e':=dN
   rw[sw]at dN
   simp only[aa.aL,Option.some.injEq]at dN
   subst dN
   exact⟨Nat.le_refl _,fun _=>(uh rfl).symm⟩
  ·obtain⟨g1,g2,g3⟩:=this
   refine⟨g1,(by show c<c+1;omega),fun e' dN=> ?_⟩
   have dN:(o' c).aL=some e':=dN
   rw[sw]at dN
   simp only[aa.aL,Option.some.injEq]at dN
   subst dN
   have mK:(H.o j).aL=some ep:=by show(so j).aL=_;rw[gI];rfl
   exact⟨Nat.le_refl _,fun _=>by rw[ui j ep rfl];exact(g3 ep mK).2 rfl⟩
 have sU:∀v v' val,sS c x so gone v v'->V.den (ad M φ H) φ H w v val->V.den (ad M ai H') ai H' w v' val:=by
  intro v v' val h h1
  rcases h with rfl|⟨rfl,h2⟩|⟨rfl,rfl⟩|⟨y,rfl,h2,h3⟩
  ·trivial
  ·exact da _ _ h2 h1
  ·exact yz _ h1
  ·exact Dr v y val h2 h3 h1
 refine⟨ai,⟨fun id=> ?_,fun id hu=>Dq id (by have: ¬id<c+1:=hu;omega),fun i j k h1 h2 h3 h4=> ?_,fun k hk=>hH.ours k (bq k hk),hH.oE⟩,fun i=> ?_,bq,by show b<=c+1;omega,fun id ag hr=> ?_,fun id e' ag dN=> ?_⟩
 ·have aC:aq M φ H w id:=hH.ok id
  have hrefs:=hg.refs id
  show aq M ai H' w id
  unfold aq at aC|-
  rcases Nat.lt_trichotomy id c with br|heq|z6
  ·by_cases e9:id=r0
   ·subst e9
    have e1:H.o id= .row cs:=yy
    have e2:H'.o id= .row cs':=NC
    rw[e1]at aC
    rw[e2,iF id br]
    obtain⟨b,bY,ty,k1,k2,k3,k4⟩:=aC
    exact⟨b,bY,ty,k1,k2,jT sU _ _ _ aY k3,k4⟩
   have e2:H'.o id=o id:=wG id br e9
   rcases ho id br e9 with hs|hs
   case inr=>rw[e2,hs];trivial
   have e1:H.o id=o id:=hs
   rw[e1]at aC
   rw[e2,iF id br]
   cases gO:o id with
   |no=>trivial
   |row cs=>
    simp only[gO]at aC hrefs|-
    obtain⟨b,bY,ty,k1,k2,k3,k4⟩:=aC
    exact⟨b,bY,ty,k1,k2,iG _ _ hrefs k3,k4⟩
   |arr ep ty sz es=>
    simp only[gO]at aC|-
    obtain⟨k1,xs,k2,evs,k3,k4,k5⟩:=aC
    exact⟨k1,xs,k2,evs,k3,k4,D.aw (fun b _ hn=>⟨rfl,hB b hn⟩) _ _ k5⟩
   |ky ep es=>
    simp only[gO]at aC|-
    exact D.ao (fun b _ hn=>⟨rfl,hB b hn⟩) _ _ aC
   |map kt vt es=>
    simp only[gO]at aC|-
    obtain⟨b,es',clock,k1,k2,k4,k3⟩:=aC
    exact⟨b,es',clock,k1,k2,k4,au.mono (fun b _ hn=>⟨rfl,hB b hn⟩) _ _ k3⟩
   |dT l=>
    simp only[gO]at aC|-
    exact D.ao (fun b _ hn=>⟨rfl,hB b hn⟩) _ _ aC
   |lS l last=>
    simp only[gO]at aC|-
    obtain⟨b,k1,k2⟩:=aC
    exact⟨b,k1,k2.mono (fun b _ hn=>⟨rfl,hB b hn⟩) rfl⟩
   |oB s pos=>
    simp only[gO]at aC|-
    exact aC
   |loop nf n env ps a b st pd=>
    simp only[gO]at aC hrefs|-
    obtain⟨b,r,k1,k2,k3,k4,k5,k6,k7,k8,k9,xV⟩:=aC
    exact⟨b,r,k1,k2,k3,k4,k5,k6,k7,k8,k9,fun i=>da _ _ (fun r hr=>hrefs r (V.g9 _ _ r hr)) (xV i)⟩
  ·subst heq
   have e2:H'.o id= .arr 0 ty sz es:=sw
   rw[e2]
   rcases hx with⟨rfl,rfl,cK⟩|⟨j,ep,hj,rfl,gI⟩
   ·refine⟨cK,[], ?_,[],by simp,by simp,rfl⟩
    rw[uh rfl]
    exact World.ownsRow_nil _ _ _ _
   ·have this:aq M φ H w j:=hH.ok j
    unfold aq at this
    have e3:H.o j= .arr ep ty sz es:=gI
    simp only[e3]at this
    obtain⟨k1,xs,k2,evs,k3,k4,k5⟩:=this
    exact⟨k1,xs,by rw[ui j ep rfl];exact k2,evs,k3,k4,D.aw (fun b _ hn=>⟨rfl,hB b hn⟩) _ _ k5⟩
  ·have e2:H'.o id= .no:=Dq id z6
   rw[e2]
   trivial
 ·obtain⟨i',a1,a2,a3⟩:=hold i k h1 h3
  obtain⟨j',b1,b2,b3⟩:=hold j k h2 h4
  have:=hH.apart i' j' k a1 b1 a2 b2
  have e9:∀bX j',(o' bX).live=true->bX<c->gone j'->bX≠j':=fun bX j' g1 g2 g3 g4=>by
   subst g4
   obtain⟨g5,g6⟩:=ou _ g3 g2
   rw[wG _ g2 g5,g6]at g1
   cases g1
  rcases a3 with⟨a3,a4⟩|⟨a3,a4,_⟩<;>rcases b3 with⟨b3,b4⟩|⟨b3,b4,_⟩
  ·omega
  ·exact absurd (a4.symm.trans this) (e9 i j' h1 a3 b4)
  ·exact absurd (b4.symm.trans this.symm) (e9 j i' h2 b3 a4)
  ·omega
 ·have hi:=sT l 0 he i
  rw[Nat.zero_add]at hi
  exact sU _ _ _ hi (hd i)
 ·have br:id<c:=by omega
  have hr:(o' id).bc=true:=hr
  exact⟨(oN id br).1.1 hr,iF id br⟩
 ·have br:id<c:=by omega
  have dN:(o' id).aL=some e':=dN
  exact⟨e',(oN id br).1.2 e' dN,Nat.le_refl _,fun _=>iF id br⟩
theorem dv.conv {b:Nat}{e:Nat->V}{so:Nat->aa}{m:Nat}(l:List V){o:Nat->aa}{c:Nat}{ty:TypeId}{sz:Nat}{es:List D}(x:V)(r0:Nat)(cs cs':List V)(BJ:r0<c)(hb:b<=c)(HH:c<=m)(hg:Good o c)(ho:∀id,id<c->id≠r0->so id=o id)(yy:so r0= .row cs)(aY:vf c x so (fun id=>c<=id) cs cs')(hx:vc so c ty sz es x)(he:ve c x so (fun id=>c<=id) e l 0):
 dv b ⟨e,so,m⟩ ⟨bU l,aV (aV o c (.arr 0 ty sz es)) r0 (.row cs'),c+1⟩:=
 dv.Hl _ l x r0 cs cs' BJ hb HH hg (fun id h1 h2=>absurd h1 (by omega)) (fun id h1 h2=> .inl (ho id h1 h2)) yy aY hx he
def Ds(P:Program)(n b id:Nat)(fW:IC)(K X:V->(Nat->aa)->Nat->Prop)(e:eY)(s:S):Prop:=
 match e with
 | .normal=>∃nf m en p c d pd,s.o id= .loop nf m en p c d .ready pd/\lA P n b true fW (ua id K X) ⟨s.env,aV s.o id (.loop nf m en p c d .busy pd),s.nx⟩
 | .ba v=>X v s.o s.nx
 |_=>False
theorem dF.iJ {P:Program}{n:Nat}(aO:P.follows .mixedOrders=true){id:Nat}{args:List V}{o:Nat->aa}{nx:Nat}{K X:V->(Nat->aa)->Nat->Prop}{env:List V}{ps:List Nat}{jE fW:IC}{st:LoopState}{pd:Option kq}
 (ho:o id= .loop P.funcs.size n env ps jE fW st pd) (br:id<nx) (FV:ps.all (fun t=>decide (t<n))=true) (hl:args.length=ps.length)
 (h:lA P n nx true jE (Ds P n nx id fW K X) ⟨tX (bU env) ps args,o,nx⟩):dF P id args o nx K X:=by
 refine dF.n3 aO ho br FV hl (dQ jE _ _ _ (fun e s h=> ?_) h)
 cases e with
 |normal=>
  obtain⟨nf,m,en,p,c,d,pd,h1,h2⟩:=h
  exact⟨nf,m,en,p,c,d,pd,h1,dQ fW _ _ _ (fun _ _ h=>h) h2⟩
 |ba v=>exact h
 |_=>exact h.elim
section
variable {P:Program}{KB:List Nat->Fp->Prop}{pr:List (List Nat)}{l:List bz}{fr:Nat}{fp:Fp}{bad ws:List Nat}{s:S}{d:Option Nat}{op:Op}
end
end Go.Proofs.YtbmnikpknlkbkaaGreat
namespace Go.Proofs.YtbmnikpknlkbkaaGreat
structure Gr where
 x:V
 ty:TypeId
 sz:Nat
 es:List D
def Gr.ok (so:Nat->aa)(gone:Nat->Prop)(g:Gr):Prop:=qT so gone g.ty g.sz g.es g.x
def yA(c:Nat)(G:List Gr)(so:Nat->aa)(gone:Nat->Prop)(v v':V):Prop:=
 v'= .aE\/(v'=v/\∀r∈v.refs,r<c)\/(∃i g,G[i]? =some g/\v'= .osl (c+i) 0/\v=g.x)\/∃y,v'= .d y/\dk so v=some y/\∀id∈v.ids,gone id/\∀g∈G,∀ep,g.x≠ .osl id ep
def kp(c:Nat)(G:List Gr)(so:Nat->aa)(gone:Nat->Prop)(env:Nat->V):List V->Nat->Prop
 |[],_=>True
 |v::l,i=>yA c G so gone (env i) v/\kp c G so gone env l (i+1)
def Dt(c:Nat)(G:List Gr)(so:Nat->aa)(gone:Nat->Prop):List V->List V->Prop
 |[],[]=>True
 |v::l,v'::l'=>yA c G so gone v v'/\Dt c G so gone l l'
 |_,_=>False
def yB(c:Nat)(G:List Gr)(so:Nat->aa)(gone:Nat->Prop)(x x':aa):Prop:=
 x'= .no\/(x=x'/\∀r∈x'.refs,r<c)\/∃cs cs',x= .row cs/\x'= .row cs'/\Dt c G so gone cs cs'
section
variable {c:Nat}{G:List Gr}{so:Nat->aa}{gone:Nat->Prop}
theorem vg{env:Nat->V}:∀ (l:List V) (i:Nat),kp c G so gone env l i->∀j,yA c G so gone (env (i+j)) (bU l j)
 |[],i,_,j=>by rw[g8];exact .inl rfl
 |v::l,i,h,0=>by rw[gZ];exact h.1
 |v::l,i,h,j+1=>by
  rw[fy]
  have:=vg l (i+1) h.2 j
  rwa [show i+1+j=i+(j+1) by omega]at this
variable {env:Nat->V}{i:Nat}{l l':List V}{v:V}{y:D}
theorem lG:kp c G so gone env [] i:=trivial
theorem jB(h:kp c G so gone env l (i+1)):kp c G so gone env (.aE::l) i:=⟨.inl rfl,h⟩
theorem jq(he:env i= .d y)(h:kp c G so gone env l (i+1)):kp c G so gone env (.d y::l) i:=⟨.inr (.inl ⟨he.symm,fun r hr=>by rw[he]at hr;simp[V.refs]at hr⟩),h⟩
theorem qU(he:env i=v)(hr:∀r∈v.refs,r<c)(h:kp c G so gone env l (i+1)):kp c G so gone env (v::l) i:=⟨.inr (.inl ⟨he.symm,fun r vK=>hr r (he ▸ vK)⟩),h⟩
theorem qV(k:Nat){g:Gr}{n:Nat}(hg:G[k]? =some g)(hn:n=c+k)(he:env i=g.x)(h:kp c G so gone env l (i+1)):kp c G so gone env (.osl n 0::l) i:=⟨.inr (.inr (.inl ⟨k,g,hg,by rw[hn],he⟩)),h⟩
theorem qW(ht:dk so (env i)=some y)(hi:∀id∈(env i).ids,gone id/\∀g∈G,∀ep,g.x≠ .osl id ep)(h:kp c G so gone env l (i+1)):kp c G so gone env (.d y::l) i:=⟨.inr (.inr (.inr ⟨y,rfl,ht,hi⟩)),h⟩
theorem jC{x x':aa}(h:x=x')(hr:∀r∈x'.refs,r<c):yB c G so gone x x':= .inr (.inl ⟨h,hr⟩)
end
theorem lH{c:Nat}{G:List Gr}{so:Nat->aa}{gone:Nat->Prop}{B B':Nat->Prop}{φ ai:Place}{H H':Hp}{w:World}(hc:∀v v' val,yA c G so gone v v'->V.den B φ H w v val->V.den B' ai H' w v' val):
 ∀ (l l':List V) (vals:List Value),Dt c G so gone l l'->V.ak B φ H w l vals->V.ak B' ai H' w l' vals
 |[],[],_,_,h=>h
 |v::l,v'::l',_,h,hd=>by
  obtain⟨u,us,rfl,h1,h2⟩:=hd
  exact⟨u,us,rfl,hc _ _ _ h.1 h1,lH hc l l' us h.2 h2⟩
 |[],_::_,_,h,_=>h.elim
 |_::_,[],_,h,_=>h.elim
def yD(φ:Place)(c:Nat)(G:List Gr):Place:=fun id=>if id<c then φ id else match G[id - c]? with
 |some g=>(match g.x with| .osl j _=>φ j|_=> .slice none 0 0)
 |none=>φ id
theorem dv.O2 (gone:Nat->Prop)(G:List Gr)(c:Nat){b:Nat}{e:Nat->V}{so:Nat->aa}{m:Nat}(l:List V){o':Nat->aa}{nx':Nat}(oC:nx'=c+G.length)(hb:b<=c)
 (ho:∀id,id<c->yB c G so gone (so id) (o' id)) (hG:∀i g,G[i]? =some g->o' (c+i)= .arr 0 g.ty g.sz g.es/\g.ok so gone) (hh:∀id,nx'<=id->o' id= .no) (ou:∀id,gone id->id<c->o' id= .no)
 (qj:∀ (i j:Nat) (gi gj:Gr) (id ep eF:Nat),G[i]? =some gi->G[j]? =some gj->gi.x= .osl id ep->gj.x= .osl id eF->i=j) (he:kp c G so gone e l 0):dv b ⟨e,so,m⟩ ⟨bU l,o',nx'⟩:=by
 subst oC
 intro M φ w tm hH hd
 let ai:Place:=yD φ c G
 let H':Hp:=hp o' (c+G.length)
 let H:Hp:=⟨so,fun id=>id<m⟩
 have iF:∀id,id<c->ai id=φ id:=fun id ag=>if_pos ag
 have yE:∀i g,G[i]? =some g->ai (c+i)=(match g.x with| .osl j _=>φ j|_=> .slice none 0 0):=fun i g hg=>by
  show yD φ c G (c+i)=_
  unfold yD
  rw[if_neg (by omega),show c+i - c=i by omega,hg]
 have hold:∀id k,(o' id).live=true->cW (ai id)=some k->∃j,(so j).live=true/\cW (φ j)=some k/\((id<c/\j=id)\/∃i g ep,id=c+i/\G[i]? =some g/\gone j/\g.x= .osl j ep):=by
  intro id k h1 h2
  by_cases br:id<c
  ·rw[iF id br]at h2
   rcases ho id br with h3|⟨h3,_⟩|⟨cs,cs',h3,h4,_⟩
   ·rw[h3]at h1;cases h1
   ·exact⟨id,by rw[h3];exact h1,h2, .inl ⟨br,rfl⟩⟩
   ·exact⟨id,by rw[h3];rfl,h2, .inl ⟨br,rfl⟩⟩
  ·by_cases re:c+G.length<=id
   ·rw[hh id re]at h1;cases h1
   ·obtain⟨i,rfl⟩:∃i,id=c+i:=⟨id - c,by omega⟩
    obtain⟨g,hg⟩:∃g,G[i]? =some g:=⟨G[i]'(by omega),by simp⟩
    rw[yE i g hg]at h2
    obtain⟨_,a8⟩:=hG i g hg
    rcases a8 with⟨h3,_,_⟩|⟨j,ep,hj,h3,gI⟩
    ·rw[h3]at h2;cases h2
    ·rw[h3]at h2
     exact⟨j,by rw[gI];rfl,h2, .inr ⟨i,g,ep,rfl,hg,hj,h3⟩⟩
 have bq:∀k,bp ai H' k->bp φ H k:=by
  rintro k ⟨id,h1,h2⟩
  obtain⟨j,g1,g2,_⟩:=hold id k h1 h2
  exact⟨j,g1,g2⟩
 have hB:∀k, ¬ad M φ H k-> ¬ad M ai H' k:=fun k h h'=>h (h'.imp id (bq k))
 have oN:∀id,id<c->gH (H'.o id) (H.o id)/\ai id=φ id/\H'.us id:=fun id ag=>by
  refine⟨?_,iF id ag,(by show id<c+G.length;omega)⟩
  show gH (o' id) (so id)
  rcases ho id ag with h3|⟨h3,_⟩|⟨cs,cs',h3,h4,_⟩
  ·rw[h3];exact⟨fun h=>(by cases h),fun e h=>(by cases h)⟩
  ·exact gH.rfl' h3.symm
  ·rw[h3,h4];exact gH.row _ _
 have da:∀ (v:V) (val:Value),(∀r∈v.refs,r<c)->V.den (ad M φ H) φ H w v val->V.den (ad M ai H') ai H' w v val:=fun v val hr h=>
  V.hU (H:=H) (H':=H') hB v val (fun id ag=>oN id (hr id ag)) h
 have iG:∀ (v:List V) (val:List Value),(∀r∈V.az v,r<c)->V.ak (ad M φ H) φ H w v val->V.ak (ad M ai H') ai H' w v val:=fun v val hr h=>
  V.eP (H:=H) (H':=H') hB v val (fun id ag=>oN id (hr id ag)) h
 have Dr:∀ (v:V) (y:D) (val:Value),dk so v=some y->(∀id∈v.ids,gone id/\∀g∈G,∀ep,g.x≠ .osl id ep)->V.den (ad M φ H) φ H w v val->D.den (ad M ai H') w y val:=fun v y val h1 h2 h3=>by
  obtain⟨f1,f2,f3,f4,f5⟩:=cj (H:=H) hH v.ids (fun id ag=>b9 v val h3 id ag)
  have Lh:∀k,bp φ (H.put (b8 H.o v.ids)) k->bp φ H k:=by
   rintro k ⟨id,g1,g2⟩
   by_cases ag:id∈v.ids
   ·rw[f3 id ag]at g1
    refine⟨id, ?_,g2⟩
    revert g1
    cases H.o id<;>simp[aa.fz,aa.live]
   ·rw[f4 id ag]at g1;exact⟨id,g1,g2⟩
  have h4:V.den (ad M φ (H.put (b8 H.o v.ids))) φ (H.put (b8 H.o v.ids)) w v val:=
   V.hU (H:=H) (fun k h h'=>h (h'.imp id (Lh k))) v val (fun id ag=>by
     have cJ:H.us id:=(V.jA v val h3) id ag
     refine⟨?_,rfl,(f5 id).2 cJ⟩
     by_cases hm:id∈v.ids
     ·rw[f3 id hm];exact gH.fz _
     ·rw[f4 id hm];exact gH.rfl' rfl) h3
  have h5:=dA f1 (o:=so) v y val (fun id ag=>f3 id ag) h1 h4
  refine D.ao (w:=w) (w':=w) (fun k _ hn=>⟨rfl,fun hk=>hn (hk.imp id ?_)⟩) y val h5
  rintro⟨id,g1,g2⟩
  obtain⟨j,k1,k2,k3⟩:=hold id k g1 g2
  refine⟨j, ?_,k2⟩
  have:j∉v.ids:=fun hm=>by
   obtain⟨k4,k5⟩:=h2 j hm
   rcases k3 with⟨k6,k7⟩|⟨i,g,ep,k6,k8,k9,xV⟩
   ·subst k7
    have:=ou _ k4 k6
    have g1:(o' j).live=true:=g1
    rw[this]at g1
    cases g1
   ·exact k5 g (List.mem_of_getElem? k8) ep xV
  rw[f4 j this];exact k1
 have yz:∀i g val,G[i]? =some g->V.den (ad M φ H) φ H w g.x val->V.den (ad M ai H') ai H' w (.osl (c+i) 0) val:=by
  intro i g val hg this
  obtain⟨sw,a8⟩:=hG i g hg
  have br:c+i<c+G.length:=by have:=(List.getElem?_eq_some_iff.1 hg).1;omega
  rcases a8 with⟨h3,_,_⟩|⟨j,ep,hj,h3,gI⟩
  ·rw[h3]at this
   simp only[V.den]at this
   rw[this]
   refine⟨rfl,br,fun e' dN=> ?_⟩
   have dN:(o' (c+i)).aL=some e':=dN
   rw[sw]at dN
   simp only[aa.aL,Option.some.injEq]at dN
   subst dN
   exact⟨Nat.le_refl _,fun _=>by rw[yE i g hg,h3]⟩
  ·rw[h3]at this
   obtain⟨g1,g2,g3⟩:=this
   refine⟨g1,br,fun e' dN=> ?_⟩
   have dN:(o' (c+i)).aL=some e':=dN
   rw[sw]at dN
   simp only[aa.aL,Option.some.injEq]at dN
   subst dN
   have mK:(H.o j).aL=some ep:=by show(so j).aL=_;rw[gI];rfl
   exact⟨Nat.le_refl _,fun _=>by rw[yE i g hg,h3];exact(g3 ep mK).2 rfl⟩
 have sU:∀v v' val,yA c G so gone v v'->V.den (ad M φ H) φ H w v val->V.den (ad M ai H') ai H' w v' val:=by
  intro v v' val h h1
  rcases h with rfl|⟨rfl,h2⟩|⟨i,g,hg,rfl,rfl⟩|⟨y,rfl,h2,h3⟩
  ·trivial
  ·exact da _ _ h2 h1
  ·exact yz i g _ hg h1
  ·exact Dr v y val h2 h3 h1
 refine⟨ai,⟨fun id=> ?_,fun id hu=>hh id (by have: ¬id<c+G.length:=hu;omega),fun i j k h1 h2 h3 h4=> ?_,fun k hk=>hH.ours k (bq k hk),hH.oE⟩,fun i=> ?_,bq,by show b<=c+G.length;omega,fun id ag hr=> ?_,fun id e' ag dN=> ?_⟩
 ·have aC:aq M φ H w id:=hH.ok id
  show aq M ai H' w id
  unfold aq at aC|-
  by_cases br:id<c
  ·rcases ho id br with h3|⟨h3,hrefs⟩|⟨cs,cs',h3,h4,aY⟩
   ·have e2:H'.o id= .no:=h3
    rw[e2];trivial
   ·have e1:H.o id=o' id:=h3
    have e2:H'.o id=o' id:=rfl
    rw[e1]at aC
    rw[e2,iF id br]
    cases gO:o' id with
    |no=>trivial
    |row cs=>
     simp only[gO]at aC hrefs|-
     obtain⟨b,bY,ty,k1,k2,k3,k4⟩:=aC
     exact⟨b,bY,ty,k1,k2,iG _ _ hrefs k3,k4⟩
    |arr ep ty sz es=>
     simp only[gO]at aC|-
     obtain⟨k1,xs,k2,evs,k3,k4,k5⟩:=aC
     exact⟨k1,xs,k2,evs,k3,k4,D.aw (fun b _ hn=>⟨rfl,hB b hn⟩) _ _ k5⟩
    |ky ep es=>
     simp only[gO]at aC|-
     exact D.ao (fun b _ hn=>⟨rfl,hB b hn⟩) _ _ aC
    |map kt vt es=>
     simp only[gO]at aC|-
     obtain⟨b,es',clock,k1,k2,k4,k3⟩:=aC
     exact⟨b,es',clock,k1,k2,k4,au.mono (fun b _ hn=>⟨rfl,hB b hn⟩) _ _ k3⟩
    |dT l=>
     simp only[gO]at aC|-
     exact D.ao (fun b _ hn=>⟨rfl,hB b hn⟩) _ _ aC
    |lS l last=>
     simp only[gO]at aC|-
     obtain⟨b,k1,k2⟩:=aC
     exact⟨b,k1,k2.mono (fun b _ hn=>⟨rfl,hB b hn⟩) rfl⟩
    |oB s pos=>
     simp only[gO]at aC|-
     exact aC
    |loop nf n env ps a b st pd=>
     simp only[gO]at aC hrefs|-
     obtain⟨b,r,k1,k2,k3,k4,k5,k6,k7,k8,k9,xV⟩:=aC
     exact⟨b,r,k1,k2,k3,k4,k5,k6,k7,k8,k9,fun i=>da _ _ (fun r hr=>hrefs r (V.g9 _ _ r hr)) (xV i)⟩
   ·have e1:H.o id= .row cs:=h3
    have e2:H'.o id= .row cs':=h4
    rw[e1]at aC
    rw[e2,iF id br]
    obtain⟨b,bY,ty,k1,k2,k3,k4⟩:=aC
    exact⟨b,bY,ty,k1,k2,lH sU _ _ _ aY k3,k4⟩
  ·by_cases re:c+G.length<=id
   ·have e2:H'.o id= .no:=hh id re
    rw[e2];trivial
   ·obtain⟨i,rfl⟩:∃i,id=c+i:=⟨id - c,by omega⟩
    obtain⟨g,hg⟩:∃g,G[i]? =some g:=⟨G[i]'(by omega),by simp⟩
    obtain⟨sw,a8⟩:=hG i g hg
    have e2:H'.o (c+i)= .arr 0 g.ty g.sz g.es:=sw
    rw[e2]
    rcases a8 with⟨h3,h4,cK⟩|⟨j,ep,hj,h3,gI⟩
    ·rw[h4]
     refine⟨cK,[], ?_,[],by simp,by simp,rfl⟩
     rw[yE i g hg,h3]
     exact World.ownsRow_nil _ _ _ _
    ·have this:aq M φ H w j:=hH.ok j
     unfold aq at this
     have e3:H.o j= .arr ep g.ty g.sz g.es:=gI
     simp only[e3]at this
     obtain⟨k1,xs,k2,evs,k3,k4,k5⟩:=this
     exact⟨k1,xs,by rw[yE i g hg,h3];exact k2,evs,k3,k4,D.aw (fun b _ hn=>⟨rfl,hB b hn⟩) _ _ k5⟩
 ·obtain⟨i',a1,a2,a3⟩:=hold i k h1 h3
  obtain⟨j',b1,b2,b3⟩:=hold j k h2 h4
  have:=hH.apart i' j' k a1 b1 a2 b2
  subst this
  have e9:∀bX,(o' bX).live=true->bX<c->gone bX->False:=fun bX g1 g2 g3=>by
   rw[ou _ g3 g2]at g1
   cases g1
  rcases a3 with⟨a3,a4⟩|⟨ia,ga,ea,a3,a4,a5,a6⟩<;>rcases b3 with⟨b3,b4⟩|⟨ib,gb,eb,b3,b4,b5,b6⟩
  ·omega
  ·exact(e9 i h1 a3 (a4 ▸ b5)).elim
  ·exact(e9 j h2 b3 (b4 ▸ a5)).elim
  ·have:=qj ia ib ga gb _ _ _ a4 b4 a6 b6
   omega
 ·have hi:=vg l 0 he i
  rw[Nat.zero_add]at hi
  exact sU _ _ _ hi (hd i)
 ·have br:id<c:=by omega
  have hr:(o' id).bc=true:=hr
  exact⟨(oN id br).1.1 hr,iF id br⟩
 ·have br:id<c:=by omega
  have dN:(o' id).aL=some e':=dN
  exact⟨e',(oN id br).1.2 e' dN,Nat.le_refl _,fun _=>iF id br⟩
theorem dv.Ap (gone:Nat->Prop)(x:V)(c:Nat){ty:TypeId}{sz:Nat}{es:List D}{b:Nat}{e:Nat->V}{so:Nat->aa}{m:Nat}(l:List V){o':Nat->aa}(hb:b<=c)
 (ho:∀id,id<c->yB c [⟨x,ty,sz,es⟩] so gone (so id) (o' id)) (hc:o' c= .arr 0 ty sz es) (hx:qT so gone ty sz es x) (hh:∀id,c+1<=id->o' id= .no) (ou:∀id,gone id->id<c->o' id= .no)
 (he:kp c [⟨x,ty,sz,es⟩] so gone e l 0):dv b ⟨e,so,m⟩ ⟨bU l,o',c+1⟩:=
 dv.O2 gone [⟨x,ty,sz,es⟩] c l rfl hb ho (fun i g h=>by
  match i,h with
  |0,h=>simp at h;subst h;exact⟨hc,hx⟩) hh ou (fun i j gi gj id ep eF h h' _ _=>by
  match i,j,h,h' with
  |0,0,_,_=>rfl) he
@[go_sem] theorem ND (b:Bool):(b==false)= !b:=by cases b<;>rfl
@[go_sem] theorem NF (b:Bool):(b==true)=b:=by cases b<;>rfl
@[go_sem] theorem Hm (c:Bool) (v:V):V.rk c (V.rk c v)=V.rk c v:=by cases c<;>rfl
@[go_sem] theorem Hn (c:Bool):(c&&c)=c:=by cases c<;>rfl
@[go_sem] theorem EG {α:Type} (f:α->D) (l:List α) (n:Nat) (h:∀x,(f x).cells.length=n):((l.map f).all fun z=>z.cells.length==n)=true:=by
  simp[List.all_eq_true,h]
attribute [go_sem] implies_true
attribute [go_sem] Option.isSome_none Option.getD_some Option.getD_none
theorem structOf{P:Program}{t:TypeId}(h:(match P.underlying t with|some (.struct _)=>true|_=>false)=true):∃fs,P.underlying t=some (.struct fs):=by
 split at h
 ·exact⟨_,by assumption⟩
 ·cases h
theorem bM{pr:List (List Nat)}{fp:List (List Nat×List Nat)}(h:fp.all (fun x=>x.2.isEmpty)=true):fC pr fp=true:=by
 have e:∀i,(fp.getD i ([],[])).2=[]:=fun i=>by
  rw[List.getD_eq_getElem?_getD]
  cases hi:fp[i]? with
  |none=>rfl
  |some x=>simpa using List.all_eq_true.1 h x (List.mem_of_getElem? hi)
 simp only[fC,List.all_eq_true,e,iO,List.all_nil,Bool.and_self,Bool.or_true,implies_true]
structure ov (base:Nat) (h o:Nat->aa) (nx:Nat):Prop where
 fU:Good o nx
 le:base<=nx
 eq:∀id,id<base->o id=h id
def H3(base:Nat)(h:Nat->aa)(v:V)(o:Nat->aa)(nx:Nat)(K:V->(Nat->aa)->Nat->Prop):Prop:=
 ∀o' nx',nx<=nx'->ov base h o' nx'->(∀id,base<=id->id<nx->o' id=o id)->K v o' nx'
def Li(P:Program)(g:FuncId)(args:List V)(base:Nat)(h h2:Nat->aa)(v:V):Prop:=
 ∀o nx,ov base h o nx->∀K X,H3 base h2 v o nx K->jx P g args o nx K X
theorem ov.aV {base:Nat}{h o:Nat->aa}{nx m i:Nat}{x:aa}(hI:ov base h o nx)(hb:base<=i)(hi:i<m)(hm:nx<=m)(hx:x.refs.all (fun r=>decide (r<m))=true):ov base h (YtbmnikpknlkbkaaGreat.aV o i x) m:=
 ⟨(hI.fU.mono hm).aV hi hx,Nat.le_trans hI.le hm,fun id ag=>by rw[aS _ _ _ _ (by omega)];exact hI.eq id ag⟩
theorem ov.mono {base:Nat}{h o:Nat->aa}{nx m:Nat}(hI:ov base h o nx)(hm:nx<=m):ov base h o m:=⟨hI.fU.mono hm,Nat.le_trans hI.le hm,hI.eq⟩
def ext(base:Nat)(h o:Nat->aa):Nat->aa:=fun id=>if id<base then h id else o id
theorem ov.ext {base c:Nat}{h o:Nat->aa}{nx:Nat}(hI:ov base h o nx)(hc:c<=nx)(hb:base<=c):ov c (YtbmnikpknlkbkaaGreat.ext base h o) o nx:=
 ⟨hI.fU,hc,fun id _=>by unfold YtbmnikpknlkbkaaGreat.ext;split<;>first|exact hI.eq id (by assumption)|rfl⟩
theorem Li.ext {P:Program}{g:FuncId}{args:List V}{base c:Nat}{h h2:Nat->aa}{v:V}(hS:Li P g args base h h2 v)(hb:base<=c)(o0:Nat->aa):Li P g args c (YtbmnikpknlkbkaaGreat.ext base h o0) (YtbmnikpknlkbkaaGreat.ext base h2 o0) v:=by
 intro o nx hI K X hK
 refine hS o nx ⟨hI.fU,Nat.le_trans hb hI.le,fun id ag=>by rw[hI.eq id (by omega)];unfold YtbmnikpknlkbkaaGreat.ext;rw[if_pos ag]⟩ K X fun o' nx' h1 h2 h3=>hK o' nx' h1 ⟨h2.fU,Nat.le_trans hI.le h1,fun id ag=> ?_⟩ (fun id h4 h5=>h3 id (by omega) h5)
 unfold YtbmnikpknlkbkaaGreat.ext
 split
 ·exact h2.eq id (by assumption)
 ·rename_i hn
  rw[h3 id (by omega) (by have:=hI.le;omega),hI.eq id ag]
  unfold YtbmnikpknlkbkaaGreat.ext;rw[if_neg hn]
theorem H3.ext {base c:Nat}{h o:Nat->aa}{v:V}{o1:Nat->aa}{nx ri:Nat}{K:V->(Nat->aa)->Nat->Prop}(hK:H3 base h v o nx K)(hb:base<=c)(hn:nx<=ri)(hc:nx<=c)(ho:∀id,base<=id->id<nx->o1 id=o id):H3 c (YtbmnikpknlkbkaaGreat.ext base h o1) v o1 ri K:=by
 intro o' nx' h1 h2 h3
 refine hK o' nx' (by omega) ⟨h2.fU,Nat.le_trans hb h2.le,fun id ag=> ?_⟩ fun id h4 h5=> ?_
 ·rw[h2.eq id (by omega)];unfold YtbmnikpknlkbkaaGreat.ext;rw[if_pos ag]
 ·rw[h2.eq id (by omega), <- ho id h4 h5];unfold YtbmnikpknlkbkaaGreat.ext;rw[if_neg (by omega)]
theorem Aq{α:Type}(f:Nat->α)(i:Nat)(x y:α):aV (aV f i x) i y=aV f i y:=by
 funext j;simp only[aV];split<;>rfl
attribute [go_sem] Int.cast_ofNat_Int
section
variable {P:Program}{n:Nat}{ps:List Nat}{x y:IC}{env:List V}{L:LoopState->Option kq->aa}
def qX(P:Program)(n:Nat)(env:List V)(ps:List Nat)(x y:IC)(L:LoopState->Option kq->aa):Prop:=∀st pd,L st pd= .loop P.funcs.size n env ps x y st pd
theorem qX.no (hL:qX P n env ps x y L)(st:LoopState)(pd:Option kq):L st pd≠ .no:=by rw[hL];exact aa.noConfusion
theorem qX.refs (hL:qX P n env ps x y L)(st:LoopState)(pd:Option kq):(L st pd).refs=V.az env:=by rw[hL];rfl
end
end Go.Proofs.YtbmnikpknlkbkaaGreat
namespace Go.Proofs.YtbmnikpknlkbkaaGreat
attribute [go_sem_proc] Int.reduceBEq Int.reduceBNe Int.reduceLT Int.reduceLE Int.reduceEq Int.reduceNe Nat.reducePow Nat.reduceEqDiff Nat.reduceAdd Nat.reduceSub Nat.reduceMul Nat.reduceLeDiff Nat.reduceBEq Nat.reduceLT reduceIte reduceCtorEq Int.reduceToNat
attribute [go_sem] List.range_zero Option.isSome_some and_self List.cons.injEq
@[reducible] def Tm.row (t:Tm):List V:=[.d (.i t.op), .d (.i t.n), .d (.sl (t.kids.map Tm.d))]
theorem Du(a b:List UInt8)(m n:Int):mJ Tryz.prog 100 73 (.agg [.str a, .i m]) (.agg [.str b, .i n])=some (a==b&&m==n):=by
 have h1:a9 Tryz.prog 73=some (.struct [(9,0),(3,1)]):=by kernel_rfl
 have h2:a9 Tryz.prog 9=some .str:=by kernel_rfl
 have h3:a9 Tryz.prog 3=some .int:=by kernel_rfl
 have h4:bd Tryz.prog 9=some false:=by kernel_rfl
 have h5:bd Tryz.prog 3=some false:=by kernel_rfl
 simp[mJ,h1,h2,h3,h4,h5,oV,AH,eH,vn]
@[go_sem] theorem Lj (o:Nat->aa) (kD:Bool) (a b:List UInt8) (m n:Int):wM Tryz.prog o 73 kD (.d (.agg [.str a, .i m])) (.d (.agg [.str b, .i n]))=some (.d (.bool (a==b&&m==n))):=by
  obtain⟨fs,h⟩:∃fs,Tryz.prog.underlying 73=some (.struct fs):=structOf (by kernel_rfl)
  have h2:Tryz.prog.eqGuardType Tryz.prog.depth 73=false:=by kernel_rfl
  unfold wM
  rw[h]
  dsimp only
  rw[if_pos h2,Du]
  rfl
structure zZ.Fits (s:zZ):Prop where
 lc:s.cons.length<=9223372036854775807
 lf:s.CP.length<=9223372036854775807
 nc:∀x∈s.cons,x.name.length<=9223372036854775807
 nf:∀x∈s.CP,x.name.length<=9223372036854775807
end Go.Proofs.YtbmnikpknlkbkaaGreat
namespace Go.Proofs.YtbmnikpknlkbkaaGreat
@[reducible] def mD (m:List Int):D:= .agg (m.map D.i)
def hY(l:List bO):List Int×Bool:=match gG l (-1) sF with
 |some m=>(m,true)
 |none=>(sF,false)
theorem pU{α:Type}{l:List α}{k:Nat}(h:k<l.length):∃x,l[k]? =some x:=⟨l[k],by simp[h]⟩
theorem fR:∀l:List D,p4 (l.map V.d)=some l
 |[]=>rfl
 |x::l=>by simp[p4,fR l]
theorem lI(m:List Int)(h:m.length=16):List.take 16 ((m.map D.i).map V.d)=(m.map D.i).map V.d:=List.take_of_length_le (by simp[h])
theorem gx(m:List Int)(h:m.length=16):((m.map D.i).map V.d).length=16:=by simp[h]
theorem uj(m:List Int)(k:Nat)(v:Int)(h:k<m.length):List.take k ((m.map D.i).map V.d)++[V.d (D.i v)]++List.drop (k+1) ((m.map D.i).map V.d)=((m.set k v).map D.i).map V.d:=by
 rw[List.set_eq_take_append_cons_drop,if_pos h]
 simp[List.map_take,List.map_drop]
theorem jD(l:List D):(D.agg l).cells=l:=rfl
@[reducible] def mR (m:List Int):aa:= .row ((m.map D.i).map V.d)
theorem vh:∀l:List D,V.az (l.map V.d)=[]
 |[]=>rfl
 |x::l=>by simp[V.az,V.refs,vh l]
theorem ow(m:List Int)(n:Nat):(mR m).refs.all (fun r=>decide (r<n))=true:=by
 show(V.az ((m.map D.i).map V.d)).all _=true
 rw[vh];rfl
theorem Ar{l l':List bO}{last:Int}{m:List Int}{a:bO}(h:gG l (-1) sF=gG (a::l') last m)(hb:a.f<0\/4<=a.f\/a.t<0\/4<=a.t\/a.f*4+a.t<=last):hY l=(sF,false):=by
 unfold hY
 rw[h,gG,if_pos hb]
theorem vi(l:List bO)(hl:l.length<=1000000):cR Tryz.prog 21 [.sl (l.map bO.d)] (.ret [mD (hY l).1, .bool (hY l).2]):=by
 refine cR.iJ mix Gu (by simp) ?_
 rw[JS]
 simp+contextual (disch:=first|omega|simp only[go_sem,false_implies]) only[go_sem,wrap64,if_pos,and_self]
 refine cU (fun i:Nat×Int×List Int=>⟨bU [.aE, .aE, .ptr 0 0, .aE, .ptr 2 0, .d (.i i.2.1), .aE, .aE, .d (.sl (l.map bO.d)), .d (.i l.length), .d (.i i.1)],aV (aV (fun _=> .no) 0 (.row [.d (.i 0), .d (.i 0), .d (.i 0), .d (.i 0), .d (.i 0), .d (.i 0), .d (.i 0), .d (.i 0), .d (.i 0), .d (.i 0), .d (.i 0), .d (.i 0), .d (.i 0), .d (.i 0), .d (.i 0), .d (.i 0)])) 2 (mR i.2.2),3⟩)
  (fun i=>i.1<=l.length/\i.2.2.length=16/\ -1<=i.2.1/\i.2.1<=15/\gG l (-1) sF=gG (l.drop i.1) i.2.1 i.2.2) (fun i=>l.length - i.1) (0, -1,sF) ⟨Nat.zero_le _,rfl,by dsimp only;omega,by dsimp only;omega,rfl⟩ (dv.cg _ (by omega) (by omega) ?_ (fun j hj=> ?_) ?_) ?_
 ·exact(by repeat(first|exact hg.mono (by omega)|exact Good.nil|refine Good.aV ?_ (by omega) rfl|refine Good.aV ?_ (by omega) (uk _ _ _ (by omega))|refine Good.aV ?_ (by omega) (by simp[aa.refs,V.az,V.refs]<;>omega)))
 ·rfl
 ·(repeat(first|exact aG|refine aD ?_|refine ay rfl ?_|refine ay (bR (bQ (by omega))) ?_|refine aZ rfl (by simp[V.refs,V.az]<;>first|omega|assumption) ?_))
 rintro⟨k,last,m⟩ ⟨hk,hm,oO,B7,ht⟩
 simp only at hk hm oO B7 ht
 simp+contextual (disch:=first|omega|simp only[go_sem,false_implies]) only[go_sem,wrap64,if_pos,and_self]
 refine bH (fun h2=> ?_) (fun h2=> ?_)
 ·simp at h2
  obtain⟨a,ha⟩:=pU h2
  have O3:l.drop k=a::l.drop (k+1):=by
   obtain⟨g1,g2⟩:=List.getElem?_eq_some_iff.1 ha
   rw[List.drop_eq_getElem_cons g1,g2]
  rw[O3]at ht
  have vq:=Ar ht
  by_cases b1:a.f<0
  ·rw[vq (by omega)]
   have Dv:decide (a.f<0)=true:=by simpa using b1
   simp+contextual (disch:=first|omega|simp only[go_sem,false_implies]) only[go_sem,wrap64,if_pos,ha,Dv]
   rfl
  have Dv:decide (a.f<0)=false:=by simpa using b1
  by_cases b2:4<=a.f
  ·rw[vq (by omega)]
   have EH:decide (4<=a.f)=true:=by simpa using b2
   simp+contextual (disch:=first|omega|simp only[go_sem,false_implies]) only[go_sem,wrap64,if_pos,ha,Dv,EH]
   rfl
  have EH:decide (4<=a.f)=false:=by simpa using b2
  by_cases b3:a.t<0
  ·rw[vq (by omega)]
   have Ho:decide (a.t<0)=true:=by simpa using b3
   simp+contextual (disch:=first|omega|simp only[go_sem,false_implies]) only[go_sem,wrap64,if_pos,ha,Dv,EH,Ho]
   rfl
  have Ho:decide (a.t<0)=false:=by simpa using b3
  by_cases b4:4<=a.t
  ·rw[vq (by omega)]
   have H4:decide (4<=a.t)=true:=by simpa using b4
   simp+contextual (disch:=first|omega|simp only[go_sem,false_implies]) only[go_sem,wrap64,if_pos,ha,Dv,EH,Ho,H4]
   rfl
  have H4:decide (4<=a.t)=false:=by simpa using b4
  by_cases b5:a.f*4+a.t<=last
  ·rw[vq (by omega)]
   have Lk:decide (a.f*4+a.t<=last)=true:=by simpa using b5
   simp+contextual (disch:=first|omega|simp only[go_sem,false_implies]) only[go_sem,wrap64,if_pos,ha,Dv,EH,Ho,H4,Lk]
   rfl
  have Lk:decide (a.f*4+a.t<=last)=false:=by simpa using b5
  rw[gG,if_neg (by omega)]at ht
  have hK:a.f.toNat*4+a.t.toNat*1=a.k:=by unfold bO.k;omega
  have O4:a.k<16:=by unfold bO.k;omega
  have g1:=uj m a.k 1 (by omega)
  have g2:=uj (m.set a.k 1) a.k 2 (by rw[List.length_set];omega)
  rw[List.set_set]at g2
  simp+contextual (disch:=first|omega|simp only[go_sem,false_implies]) only[go_sem,wrap64,if_pos,ha,Dv,EH,Ho,H4,Lk]
  refine b7 (by decide) ?_
  cases hl:a.l with
  |true=>
   have hv:a.v=2:=by unfold bO.v;rw[hl];rfl
   rw[hv]at ht
   have Ll:a.k+1<=(m.set a.k 1).length:=by rw[List.length_set];omega
   simp+contextual (disch:=first|omega|simp only[go_sem,false_implies]) only[go_sem,wrap64,if_pos,hK,g1,hl,if_pos Ll]
   refine b7 (by decide) ?_
   simp+contextual (disch:=first|omega|simp only[go_sem,false_implies]) only[go_sem,wrap64,if_pos,hK,g2]
   refine aH (k+1,a.f*4+a.t,m.set a.k 2) ⟨h2,by rw[List.length_set];exact hm,by dsimp only;omega,by dsimp only;omega,ht⟩ (by dsimp only;omega) (dv.cg _ (show 0<=3 by omega) (by omega) ((Good.nil.aV (by omega) rfl).aV (by omega) (ow _ _)) (fun j hj=> ?_) ?_)
   ·by_cases e:j=2
    ·subst e;(repeat(first|rfl|rw[aX]|rw[aS _ _ _ _ (by omega)]))
    ·rw[aS _ 2 _ _ e,aS _ 2 _ _ e,aS _ _ _ _ (by omega),aS _ _ _ _ (by omega),aS _ 2 _ _ e,aS _ 2 _ _ e]
   ·(repeat(first|exact aG|refine aD ?_|refine ay rfl ?_|refine ay (bR (bQ (by omega))) ?_|refine aZ rfl (by simp[V.refs,V.az]<;>first|omega|assumption) ?_))
  |false=>
   have hv:a.v=1:=by unfold bO.v;rw[hl];rfl
   rw[hv]at ht
   simp+contextual (disch:=first|omega|simp only[go_sem,false_implies]) only[go_sem,wrap64,if_pos,hK,g1,hl]
   refine aH (k+1,a.f*4+a.t,m.set a.k 1) ⟨h2,by rw[List.length_set];exact hm,by dsimp only;omega,by dsimp only;omega,ht⟩ (by dsimp only;omega) (dv.cg _ (show 0<=3 by omega) (by omega) ((Good.nil.aV (by omega) rfl).aV (by omega) (ow _ _)) (fun j hj=> ?_) ?_)
   ·by_cases e:j=2
    ·subst e;(repeat(first|rfl|rw[aX]|rw[aS _ _ _ _ (by omega)]))
    ·rw[aS _ 2 _ _ e,aS _ 2 _ _ e,aS _ _ _ _ (by omega),aS _ _ _ _ (by omega),aS _ 2 _ _ e]
   ·(repeat(first|exact aG|refine aD ?_|refine ay rfl ?_|refine ay (bR (bQ (by omega))) ?_|refine aZ rfl (by simp[V.refs,V.az]<;>first|omega|assumption) ?_))
 ·simp at h2
  rw[List.drop_eq_nil_of_le h2,gG]at ht
  have e:hY l=(m,true):=by unfold hY;rw[ht]
  rw[e]
  simp+contextual (disch:=first|omega|simp only[go_sem,false_implies]) only[go_sem,wrap64,if_pos,lI m hm,fR,jD,gx m hm]
  trace_state
theorem yF(cs:List D)(k:Nat):eH Tryz.prog 3 cs k=cs[k]? :=by
 have h:bd Tryz.prog 3=some false:=by kernel_rfl
 unfold eH;rw[h]
def rowOf(m:List Int)(i:Nat):List Int:=(m.drop (i*4)).take 4
theorem ox(m:List Int)(i:Nat):List.take 4 (List.drop (i*4) ((m.map D.i).map V.d))=((rowOf m i).map D.i).map V.d:=by simp[rowOf,List.map_take,List.map_drop]
theorem mc{m:List Int}(hm:m.length=16){i k:Nat}(hi:i<4)(hk:k<4):((rowOf m i).map D.i)[k]? =some (D.i (m.getD (i*4+k) 0)):=by
 unfold rowOf
 rw[List.getElem?_map,List.getElem?_take_of_lt hk,List.getElem?_drop,List.getD_eq_getElem?_getD]
 have:i*4+k<m.length:=by omega
 rw[List.getElem?_eq_getElem this];rfl
theorem As(a b c:Int):(if c>(if b>a then b else a)then c else(if b>a then b else a))=max (max a b) c:=by
 simp only[Int.max_def];repeat' split
 all_goals omega
def sV(m n:List Int)(i k j:Nat):Nat->aa:=aV (aV (aV (aV (fun _=> .no) 0 (mR m)) 1 (mR n)) 2 (.row [.d (.i 0), .d (.i 0), .d (.i 0), .d (.i 0), .d (.i 0), .d (.i 0), .d (.i 0), .d (.i 0), .d (.i 0), .d (.i 0), .d (.i 0), .d (.i 0), .d (.i 0), .d (.i 0), .d (.i 0), .d (.i 0)])) 3 (mR (fV m n i k j))
theorem fS(m n:List Int)(i k j:Nat):Good (sV m n i k j) 4:=(((Good.nil.aV (by omega) (ow _ _)).aV (by omega) (ow _ _)).aV (by omega) rfl).aV (by omega) (ow _ _)
theorem thH_0(m n:List Int)(i k j:Nat):sV m n i k j 0=mR m:=by unfold sV;rw[aS _ _ _ _ (by omega),aS _ _ _ _ (by omega),aS _ _ _ _ (by omega),aX]
theorem thH_1(m n:List Int)(i k j:Nat):sV m n i k j 1=mR n:=by unfold sV;rw[aS _ _ _ _ (by omega),aS _ _ _ _ (by omega),aX]
theorem thH_3(m n:List Int)(i k j:Nat):sV m n i k j 3=mR (fV m n i k j):=by unfold sV;rw[aX]
theorem thH_2(m n:List Int)(i k j:Nat):sV m n i k j 2= .row [.d (.i 0), .d (.i 0), .d (.i 0), .d (.i 0), .d (.i 0), .d (.i 0), .d (.i 0), .d (.i 0), .d (.i 0), .d (.i 0), .d (.i 0), .d (.i 0), .d (.i 0), .d (.i 0), .d (.i 0), .d (.i 0)]:=by unfold sV;rw[aS _ _ _ _ (by omega),aX]
theorem Dw(m n:List Int)(hm:m.length=16)(hn:n.length=16):cR Tryz.prog 22 [mD m,mD n] (.ret [mD (qH m n)]):=by
 refine cR.iJ mix Gv (by simp) ?_
 rw[JT]
 simp+contextual (disch:=first|omega|simp only[go_sem,false_implies]) only[go_sem,wrap64,if_pos,and_self]
 refine cU (fun i:Nat=>⟨bU [.aE, .aE, .ptr 0 0, .ptr 1 0, .ptr 2 0, .ptr 3 0, .aE, .aE, .aE, .aE, .aE, .d (.i i)],sV m n i 0 0,4⟩)
  (fun i=>i<=4) (fun i=>4 - i) 0 (Nat.zero_le _) (dv.cg _ (show 0<=4 by omega) (by omega) (fS _ _ _ _ _) (fun j hj=> ?_) ?_) (fun i hi=> ?_)
 ·unfold sV;rw[outS_0];rfl
 ·(repeat(first|exact aG|refine aD ?_|refine ay rfl ?_|refine ay (bR (bQ (by omega))) ?_|refine aZ rfl (by simp[V.refs,V.az]<;>first|omega|assumption) ?_))
 replace hi:i<=4:=hi
 simp+contextual (disch:=first|omega|simp only[go_sem,false_implies]) only[go_sem,wrap64,if_pos,and_self]
 refine bH (fun h1=> ?_) (fun h1=> ?_)
 ·replace h1:i<4:=by simp at h1;omega
  have li:i*4+4<=((m.map D.i).map V.d).length:=by rw[gx m hm];omega
  simp+contextual (disch:=first|omega|simp only[go_sem,false_implies]) only[go_sem,wrap64,if_pos,thH_0,Int.toNat_natCast,ox,fR,if_pos li]
  refine cU (fun k:Nat=>⟨bU [.aE, .aE, .ptr 0 0, .ptr 1 0, .ptr 2 0, .ptr 3 0, .d (.i i), .aE, .aE, .aE, .aE, .d (.i i), .aE, .aE, .aE, .aE, .d (.agg ((rowOf m i).map D.i)), .d (.i k)],sV m n i k 0,4⟩)
   (fun k=>k<=4) (fun k=>4 - k) 0 (Nat.zero_le _) (dv.cg _ (show 0<=4 by omega) (by omega) (fS _ _ _ _ _) (fun j hj=>rfl) ?_) (fun k hk=> ?_)
  ·(repeat(first|exact aG|refine aD ?_|refine ay rfl ?_|refine ay (bR (bQ (by omega))) ?_|refine aZ rfl (by simp[V.refs,V.az]<;>first|omega|assumption) ?_))
  replace hk:k<=4:=hk
  simp+contextual (disch:=first|omega|simp only[go_sem,false_implies]) only[go_sem,wrap64,if_pos,and_self]
  refine bH (fun h2=> ?_) (fun h2=> ?_)
  ·replace h2:k<4:=by simp at h2;omega
   have lk:k*4+4<=((n.map D.i).map V.d).length:=by rw[gx n hn];omega
   have hx:=mc hm h1 h2
   simp+contextual (disch:=first|omega|simp only[go_sem,false_implies]) only[go_sem,wrap64,if_pos,thH_1,Int.toNat_natCast,Nat.mul_one,ox,fR,if_pos lk,yF,hx,Option.map_some]
   refine cU (fun j:Nat=>⟨bU [.aE, .aE, .ptr 0 0, .ptr 1 0, .ptr 2 0, .ptr 3 0, .d (.i i), .d (.i k), .d (.i (m.getD (i*4+k) 0)), .aE, .aE, .d (.i i), .aE, .aE, .aE, .aE, .d (.agg ((rowOf m i).map D.i)), .d (.i k), .aE, .aE, .aE, .aE, .aE, .d (.agg ((rowOf n k).map D.i)), .d (.i j)],sV m n i k j,4⟩)
    (fun j=>j<=4) (fun j=>4 - j) 0 (Nat.zero_le _) (dv.cg _ (show 0<=4 by omega) (by omega) (fS _ _ _ _ _) (fun j hj=>rfl) ?_) (fun j hj=> ?_)
   ·(repeat(first|exact aG|refine aD ?_|refine ay rfl ?_|refine ay (bR (bQ (by omega))) ?_|refine aZ rfl (by simp[V.refs,V.az]<;>first|omega|assumption) ?_))
   replace hj:j<=4:=hj
   simp+contextual (disch:=first|omega|simp only[go_sem,false_implies]) only[go_sem,wrap64,if_pos,and_self]
   refine bH (fun h3=> ?_) (fun h3=> ?_)
   ·replace h3:j<4:=by simp at h3;omega
    have hy:=mc hn h2 h3
    have ho:((fV m n i k j).map D.i |>.map V.d)[i*4+j]? =some (V.d (D.i (dL m n i j k))):=by
     rw[List.getElem?_map,List.getElem?_map,uW m n i k j h1 h3];rfl
    have jO:=wm m n i k j h1 h3
    have s9:=dM m n i k j
    have Ll:i*4+j+1<=((fV m n i k j).map D.i |>.map V.d).length:=by rw[gx _ s9];omega
    have Lm:=uj (fV m n i k j) (i*4+j) (oS m n i j (dL m n i j k) k) (by rw[s9];omega)
    rw[<- jO]at Lm
    simp+contextual (disch:=first|omega|simp only[go_sem,false_implies]) only[go_sem,wrap64,if_pos,Int.toNat_natCast,Nat.mul_one,yF,hy,Option.map_some]
    by_cases hc:m.getD (i*4+k) 0≠0/\n.getD (k*4+j) 0≠0
    ·have rU:(m.getD (i*4+k) 0!=0&&n.getD (k*4+j) 0!=0)=true:=by simp[bne_iff_ne];exact hc
     have AL:oS m n i j (dL m n i j k) k=max (max (dL m n i j k) (m.getD (i*4+k) 0)) (n.getD (k*4+j) 0):=by unfold oS;rw[if_pos hc]
     rw[AL]at Lm
     simp+contextual (disch:=first|omega|simp only[go_sem,false_implies]) only[go_sem,wrap64,if_pos,rU,thH_3,Int.toNat_natCast,Nat.mul_one,ho,uu,As,Lm,if_pos Ll]
     refine b7 (by decide) ?_
     simp+contextual (disch:=first|omega|simp only[go_sem,false_implies]) only[go_sem,wrap64,if_pos,and_self]
     refine aH (j+1) h3 (by omega) (dv.cg _ (show 0<=4 by omega) (by omega) (fS _ _ _ _ _) (fun q hq=> ?_) ?_)
     ·unfold sV;rw[Aq]
     ·(repeat(first|exact aG|refine aD ?_|refine ay rfl ?_|refine ay (bR (bQ (by omega))) ?_|refine aZ rfl (by simp[V.refs,V.az]<;>first|omega|assumption) ?_))
    ·have rU:(m.getD (i*4+k) 0!=0&&n.getD (k*4+j) 0!=0)=false:=by
      rw[Bool.eq_false_iff];intro h;apply hc
      rw[Bool.and_eq_true,bne_iff_ne,bne_iff_ne]at h;exact h
     have AL:oS m n i j (dL m n i j k) k=dL m n i j k:=by unfold oS;rw[if_neg hc]
     have xc:fV m n i k (j+1)=fV m n i k j:=by
      rw[jO,AL]
      refine lC (by rw[List.length_set];exact s9) s9 fun p hp=> ?_
      rw[List.getElem?_set]
      split
      ·rename_i e;subst e;rw[if_pos (by rw[s9];omega),uW m n i k j h1 h3]
      ·rfl
     simp+contextual (disch:=first|omega|simp only[go_sem,false_implies]) only[go_sem,wrap64,if_pos,rU]
     refine aH (j+1) h3 (by omega) (dv.cg _ (show 0<=4 by omega) (by omega) (fS _ _ _ _ _) (fun q hq=> ?_) ?_)
     ·unfold sV;rw[xc]
     ·(repeat(first|exact aG|refine aD ?_|refine ay rfl ?_|refine ay (bR (bQ (by omega))) ?_|refine aZ rfl (by simp[V.refs,V.az]<;>first|omega|assumption) ?_))
   ·have B1:j=4:=by simp at h3;omega
    subst B1
    simp+contextual (disch:=first|omega|simp only[go_sem,false_implies]) only[go_sem,wrap64,if_pos,and_self]
    refine aH (k+1) h2 (by omega) (dv.cg _ (show 0<=4 by omega) (by omega) (fS _ _ _ _ _) (fun q hq=> ?_) ?_)
    ·unfold sV;rw[CQ]
    ·(repeat(first|exact aG|refine aD ?_|refine ay rfl ?_|refine ay (bR (bQ (by omega))) ?_|refine aZ rfl (by simp[V.refs,V.az]<;>first|omega|assumption) ?_))
  ·have vH:k=4:=by simp at h2;omega
   subst vH
   simp+contextual (disch:=first|omega|simp only[go_sem,false_implies]) only[go_sem,wrap64,if_pos,and_self]
   refine aH (i+1) h1 (by omega) (dv.cg _ (show 0<=4 by omega) (by omega) (fS _ _ _ _ _) (fun q hq=> ?_) ?_)
   ·unfold sV;rw[CS]
   ·(repeat(first|exact aG|refine aD ?_|refine ay rfl ?_|refine ay (bR (bQ (by omega))) ?_|refine aZ rfl (by simp[V.refs,V.az]<;>first|omega|assumption) ?_))
 ·have pf:i=4:=by simp at h1;omega
  subst pf
  have O5:=gx _ (dM m n 4 0 0)
  have t16:=lI _ (dM m n 4 0 0)
  simp+contextual (disch:=first|omega|simp only[go_sem,false_implies]) only[go_sem,wrap64,if_pos,thH_3,thH_2,t16,O5,fR,jD]
  rw[CT]
theorem lJ{c:Nat}{G:List Gr}{so:Nat->aa}{gone:Nat->Prop}{x x' y y':aa}(h:x=y)(h':x'=y')(hs:yB c G so gone y y'):yB c G so gone x x':=by rw[h,h'];exact hs
def wx(m:List Int)(c:Nat)(l:List bO):Nat->aa:=aV (aV (fun _=> .no) 0 (mR m)) c (.arr 0 56 3 (l.map bO.d))
theorem lK(m:List Int)(l:List bO):Good (wx m 4 l) 5:=(Good.nil.aV (by omega) (ow _ _)).aV (by omega) rfl
theorem lsH_0(m:List Int)(l:List bO):wx m 4 l 0=mR m:=by unfold wx;rw[aS _ _ _ _ (by omega),aX]
theorem lsH_4(m:List Int)(l:List bO):wx m 4 l 4= .arr 0 56 3 (l.map bO.d):=by unfold wx;rw[aX]
theorem Dx(m:List Int)(hm:m.length=16):cR Tryz.prog 23 [mD m] (.ret [.sl ((m4 m 16).map bO.d)]):=by
 refine cR.iJ mix Gw (by simp) ?_
 rw[JU]
 simp+contextual (disch:=first|omega|simp only[go_sem,false_implies]) only[go_sem,wrap64,if_pos,and_self]
 have hg:Good (aV (fun _=> .no) 0 (mR m)) 4:=Good.nil.aV (by omega) (ow _ _)
 refine cU (fun i:Nat=>⟨bU [.aE, .ptr 0 0, .aE, .osl 4 0, .aE, .aE, .aE, .d (.i i)],wx m 4 (m4 m (i*4)),5⟩)
  (fun i=>i<=4) (fun i=>4 - i) 0 (Nat.zero_le _) (dv.Ap (ty:=56) (sz:=3) (es:=[]) (fun _=>False) .aI 4 _ (by omega) (fun j hj=> ?_) (by unfold wx;rw[aX];rfl) (.inl ⟨rfl,rfl,by decide⟩) (fun j hj=> ?_) (fun _ h=>h.elim) ?_) (fun i hi=> ?_)
 ·exact lJ (y:=aV (fun _=> .no) 0 (mR m) j) rfl (by unfold wx;rw[aS _ _ _ _ (by omega)]) (jC rfl (fun r hr=>hg.refs j r hr))
 ·unfold wx;(repeat(first|rfl|rw[aX]|rw[aS _ _ _ _ (by omega)]))
 ·(repeat(first|exact lG|refine jB ?_|refine jq rfl ?_|refine jq (bR (bQ (by omega))) ?_|refine qV 0 rfl rfl rfl ?_|refine qU rfl (by simp[V.refs,V.az]<;>first|omega|assumption) ?_|refine qW rfl (by simp[V.ids]<;>omega) ?_))
 replace hi:i<=4:=hi
 simp+contextual (disch:=first|omega|simp only[go_sem,false_implies]) only[go_sem,wrap64,if_pos,and_self]
 refine bH (fun h1=> ?_) (fun h1=> ?_)
 ·replace h1:i<4:=by simp at h1;omega
  have li:i*4+4<=((m.map D.i).map V.d).length:=by rw[gx m hm];omega
  simp+contextual (disch:=first|omega|simp only[go_sem,false_implies]) only[go_sem,wrap64,if_pos,lsH_0,Int.toNat_natCast,ox,fR,if_pos li]
  refine cU (fun j:Nat=>⟨bU [.aE, .ptr 0 0, .aE, .osl 4 0, .d (.i i), .aE, .aE, .d (.i i), .aE, .aE, .aE, .aE, .d (.agg ((rowOf m i).map D.i)), .d (.i j)],wx m 4 (m4 m (i*4+j)),5⟩)
   (fun j=>j<=4) (fun j=>4 - j) 0 (Nat.zero_le _) (dv.cg _ (show 0<=5 by omega) (by omega) (lK _ _) (fun j hj=>rfl) ?_) (fun j hj=> ?_)
  ·(repeat(first|exact aG|refine aD ?_|refine ay rfl ?_|refine ay (bR (bQ (by omega))) ?_|refine aZ rfl (by simp[V.refs,V.az]<;>first|omega|assumption) ?_))
  replace hj:j<=4:=hj
  simp+contextual (disch:=first|omega|simp only[go_sem,false_implies]) only[go_sem,wrap64,if_pos,and_self]
  refine bH (fun h2=> ?_) (fun h2=> ?_)
  ·replace h2:j<4:=by simp at h2;omega
   have hx:=mc hm h1 h2
   have yG:=x3 m (i*4+j)
   have e1:(i*4+j)/4=i:=by omega
   have e2:(i*4+j)%4=j:=by omega
   rw[e1,e2]at yG
   simp+contextual (disch:=first|omega|simp only[go_sem,false_implies]) only[go_sem,wrap64,if_pos,Int.toNat_natCast,Nat.mul_one,yF,hx,Option.map_some]
   have hlen:=z8 m (i*4+j)
   refine bH (fun h3=> ?_) (fun h3=> ?_)
   ·have B1:m.getD (i*4+j) 0≠0:=by simpa using h3
    rw[if_pos B1]at yG
    simp+contextual (disch:=first|omega|simp only[go_sem,false_implies]) only[go_sem,wrap64,if_pos,lsH_4,List.length_map]
    have Px:=lK m (m4 m (i*4+j))
    refine aH (j+1) h2 (by omega) (dv.Ap (fun j=>j=4) (.osl 4 1) 4 _ (by omega) (fun q hq=> ?_) (lsH_4 _ _) (.inr ⟨4,1,rfl,rfl, ?_⟩) (fun q hq=> ?_) (fun q h h2=>by omega) ?_)
    ·exact lJ (y:=aV (fun _=> .no) 0 (mR m) q) (by unfold wx;(repeat(first|rfl|rw[aX]|rw[aS _ _ _ _ (by omega)]))) (by unfold wx;(repeat(first|rfl|rw[aX]|rw[aS _ _ _ _ (by omega)]))) (jC rfl (fun r hr=>hg.refs q r hr))
    ·(repeat(first|rfl|rw[aX]|rw[aS _ _ _ _ (by omega)]))
     rw[<- Nat.add_assoc,yG,List.map_append];rfl
    ·unfold wx;(repeat(first|rfl|rw[aX]|rw[aS _ _ _ _ (by omega)]))
    ·(repeat(first|exact lG|refine jB ?_|refine jq rfl ?_|refine jq (bR (bQ (by omega))) ?_|refine qV 0 rfl rfl rfl ?_|refine qU rfl (by simp[V.refs,V.az]<;>first|omega|assumption) ?_|refine qW rfl (by simp[V.ids]<;>omega) ?_))
   ·have B1: ¬m.getD (i*4+j) 0≠0:=by simpa using h3
    rw[if_neg B1,List.append_nil]at yG
    simp+contextual (disch:=first|omega|simp only[go_sem,false_implies]) only[go_sem,wrap64,if_pos,and_self]
    refine aH (j+1) h2 (by omega) (dv.cg _ (show 0<=5 by omega) (by omega) (lK _ _) (fun q hq=> ?_) ?_)
    ·rw[<- Nat.add_assoc,yG]
    ·(repeat(first|exact aG|refine aD ?_|refine ay rfl ?_|refine ay (bR (bQ (by omega))) ?_|refine aZ rfl (by simp[V.refs,V.az]<;>first|omega|assumption) ?_))
  ·have vH:j=4:=by simp at h2;omega
   subst vH
   simp+contextual (disch:=first|omega|simp only[go_sem,false_implies]) only[go_sem,wrap64,if_pos,and_self]
   refine aH (i+1) h1 (by omega) (dv.cg _ (show 0<=5 by omega) (by omega) (lK _ _) (fun q hq=> ?_) ?_)
   ·rw[show(i+1)*4=i*4+4 by omega]
   ·(repeat(first|exact aG|refine aD ?_|refine ay rfl ?_|refine ay (bR (bQ (by omega))) ?_|refine aZ rfl (by simp[V.refs,V.az]<;>first|omega|assumption) ?_))
 ·have pf:i=4:=by simp at h1;omega
  subst pf
  simp+contextual (disch:=first|omega|simp only[go_sem,false_implies]) only[go_sem,wrap64,if_pos,lsH_4]
end Go.Proofs.YtbmnikpknlkbkaaGreat
