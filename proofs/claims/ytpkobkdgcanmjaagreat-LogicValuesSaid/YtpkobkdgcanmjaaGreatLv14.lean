/-
  A PART OF THE PROOF. Conditions: none.
-/
import Derived.Test.YtpkobkdgcanmjaaGreatLv13
set_option linter.unusedSimpArgs false
set_option linter.unusedVariables false
namespace Go.Proofs.YtpkobkdgcanmjaaGreat
def gZ(x y:aa):Prop:=(x.bp=true->y.bp=true)/\∀e,x.aP=some e->y.aP=some e
theorem gZ.rfl' {x y:aa}(h:x=y):gZ x y:=h ▸ ⟨id,fun _ h=>h⟩
theorem gZ.fz (x:aa):gZ x.fz x:=by cases x<;>exact⟨id,fun _ h=>h⟩
theorem gZ.row (cs cs':List V):gZ (.row cs) (.row cs'):=⟨fun _=>rfl,fun _ h=>by cases h⟩
mutual
theorem V.iF {B B':Nat->Prop}{φ aj:Place}{H H':Hp}{w:World}(hB:∀b, ¬B b-> ¬B' b):∀ (v:V) (val:Value),(∀id∈v.refs,gZ (H'.o id) (H.o id)/\aj id=φ id/\H'.us id)->V.den B φ H w v val->V.den B' aj H' w v val
 | .d x,val,_,h=>D.ax (w:=w) (w':=w) (fun b _ hn=>⟨rfl,hB b hn⟩) x val h
 | .aM,_,_,h=>h
 | .ak,_,_,_=>trivial
 | .dB,_,_,h=>h
 | .kQ es,val,_,h=>⟨D.ax (w:=w) (w':=w) (fun b _ hn=>⟨rfl,hB b hn⟩) (.sl es) val h.1,h.2⟩
 | .agg cs,val,hr,h=>by
   obtain⟨a,rfl,h1,h2⟩:=h
   exact⟨a,rfl,V.fb hB cs _ (by simpa[V.refs]using hr) h1,h2⟩
 | .bQ cs,val,hr,h=>by
   obtain⟨a,rfl,h1⟩:=h
   exact⟨a,rfl,V.fb hB cs _ (by simpa[V.refs]using hr) h1⟩
 | .ptr id off,val,hr,h=>by
   obtain⟨a,b,c⟩:=hr id (by simp[V.refs])
   obtain⟨h0,h1,h2⟩:=h
   refine⟨h0,c,fun a8=> ?_⟩
   obtain⟨x,y,z⟩:=h2 (a.1 a8)
   exact⟨x,b.trans y,z⟩
 | .osl id ep,val,hr,h=>by
   obtain⟨a,b,c⟩:=hr id (by simp[V.refs])
   obtain⟨h0,h1,h2⟩:=h
   refine⟨h0,c,fun e he=> ?_⟩
   obtain⟨x,y⟩:=h2 e (a.2 e he)
   exact⟨x,fun heq=>(y heq).trans b.symm⟩
 | .pe id ep i sz off,val,hr,h=>by
   obtain⟨a,b,c⟩:=hr id (by simp[V.refs])
   obtain⟨h0,h1,h2⟩:=h
   refine⟨h0,c,fun e he=> ?_⟩
   obtain⟨x,y⟩:=h2 e (a.2 e he)
   refine⟨x,fun heq=> ?_⟩
   obtain⟨p,q,r,z,u⟩:=y heq
   exact⟨p,q,r,b.trans z,u⟩
 | .pp cs off,val,_,h=>by
   obtain⟨a,ev,h1,h2,h3,h5,h4⟩:=h
   exact⟨a,ev,h1,h2,D.aB (w:=w) (w':=w) (fun b _ hn=>⟨rfl,hB b hn⟩) cs ev h3,h5,h4.mono (w:=w) (w':=w) (fun b _ hn=>⟨rfl,hB b hn⟩)⟩
 | .func fn first cap,val,hr,h=>by
   obtain⟨f,c,rfl,h1,h2⟩:=h
   exact⟨f,c,rfl,V.fb hB first _ (fun id ah=>hr id (by simp[V.refs,ah])) h1,V.fb hB cap _ (fun id ah=>hr id (by simp[V.refs,ah])) h2⟩
 | .iface t x,val,hr,h=>by
   obtain⟨u,rfl,h⟩:=h
   exact⟨u,rfl,V.iF hB x u (by simpa[V.refs]using hr) h⟩
 | .oo id off n,val,hr,h=>by
   obtain⟨a,b,c⟩:=hr id (by simp[V.refs])
   obtain⟨h0,h1,h2⟩:=h
   refine⟨h0,c,fun a8=> ?_⟩
   obtain⟨x,y,z⟩:=h2 (a.1 a8)
   exact⟨x,b.trans y,z⟩
 | .mp id,val,hr,h=>by
   obtain⟨a,b,c⟩:=hr id (by simp[V.refs])
   obtain⟨h0,h1,h2⟩:=h
   refine⟨h0,c,fun a8=> ?_⟩
   exact(h2 (a.1 a8)).trans b.symm
 | .j7 id,val,hr,h=>by
   obtain⟨a,b,c⟩:=hr id (by simp[V.refs])
   obtain⟨h0,h1,h2⟩:=h
   refine⟨h0,c,fun a8=> ?_⟩
   obtain⟨x,y,z⟩:=h2 (a.1 a8)
   exact⟨x,b.trans y,z⟩
theorem V.fb {B B':Nat->Prop}{φ aj:Place}{H H':Hp}{w:World}(hB:∀b, ¬B b-> ¬B' b):∀ (vs:List V) (vals:List Value),(∀id∈V.aw vs,gZ (H'.o id) (H.o id)/\aj id=φ id/\H'.us id)->V.au B φ H w vs vals->V.au B' aj H' w vs vals
 |[],_,_,h=>h
 |v::vs,_,hr,h=>by
  obtain⟨u,us,rfl,h1,h2⟩:=h
  exact⟨u,us,rfl,V.iF hB v u (fun id ah=>hr id (by simp[V.aw,ah])) h1,V.fb hB vs us (fun id ah=>hr id (by simp[V.aw,ah])) h2⟩
end
mutual
theorem V.kn {B:Nat->Prop}{φ:Place}{H:Hp}{w:World}:∀ (v:V) (val:Value),V.den B φ H w v val->∀id∈v.refs,H.us id
 | .osl id ep,_,h,j,hj| .ptr id off,_,h,j,hj| .pe id ep i sz off,_,h,j,hj| .oo id off n,_,h,j,hj| .mp id,_,h,j,hj| .j7 id,_,h,j,hj=>by simp[V.refs]at hj;subst hj;exact h.2.1
 | .agg cs,_,h,j,hj=>by obtain⟨a,rfl,h,_⟩:=h;exact V.gx cs _ h j (by simpa[V.refs]using hj)
 | .bQ cs,_,h,j,hj=>by obtain⟨a,rfl,h⟩:=h;exact V.gx cs _ h j (by simpa[V.refs]using hj)
 | .func fn first cap,_,h,j,hj=>by
   obtain⟨f,c,rfl,h1,h2⟩:=h
   rcases List.mem_append.1 (show j∈V.aw first++V.aw cap by simpa[V.refs]using hj)with hj|hj
   ·exact V.gx first _ h1 j hj
   ·exact V.gx cap _ h2 j hj
 | .iface t x,_,h,j,hj=>by obtain⟨u,rfl,h⟩:=h;exact V.kn x u h j (by simpa[V.refs]using hj)
 | .d _,_,_,_,hj| .aM,_,_,_,hj| .pp _ _,_,_,_,hj| .ak,_,_,_,hj| .kQ _,_,_,_,hj| .dB,_,_,_,hj=>by simp[V.refs]at hj
theorem V.gx {B:Nat->Prop}{φ:Place}{H:Hp}{w:World}:∀ (vs:List V) (vals:List Value),V.au B φ H w vs vals->∀id∈V.aw vs,H.us id
 |[],_,_,j,hj=>by simp[V.aw]at hj
 |v::vs,_,h,j,hj=>by
  obtain⟨u,us,rfl,h1,h2⟩:=h
  rcases List.mem_append.1 (show j∈v.refs++V.aw vs by simpa[V.aw]using hj)with hj|hj
  ·exact V.kn v u h1 j hj
  ·exact V.gx vs us h2 j hj
end
def uy(c:Nat)(x:V)(so:Nat->aa)(gone:Nat->Prop)(v v':V):Prop:=
 v'= .ak\/(v'=v/\∀r∈v.refs,r<c)\/(v'= .osl c 0/\v=x)\/∃y,v'= .d y/\dn so v=some y/\∀id∈v.ids,gone id/\∀ep,x≠ .osl id ep
def w9(c:Nat)(x:V)(so:Nat->aa)(gone:Nat->Prop)(env:Nat->V):List V->Nat->Prop
 |[],_=>True
 |v::l,i=>uy c x so gone (env i) v/\w9 c x so gone env l (i+1)
def xa(c:Nat)(x:V)(so:Nat->aa)(gone:Nat->Prop):List V->List V->Prop
 |[],[]=>True
 |v::l,v'::l'=>uy c x so gone v v'/\xa c x so gone l l'
 |_,_=>False
theorem uz{c:Nat}{x:V}{so:Nat->aa}{gone:Nat->Prop}{env:Nat->V}:∀ (l:List V) (i:Nat),w9 c x so gone env l i->∀j,uy c x so gone (env (i+j)) (bD l j)
 |[],i,_,j=>by rw[iB];exact .inl rfl
 |v::l,i,h,0=>by rw[iA];exact h.1
 |v::l,i,h,j+1=>by
  rw[fQ]
  have:=uz l (i+1) h.2 j
  rwa [show i+1+j=i+(j+1) by omega]at this
theorem kO{c:Nat}{x:V}{so:Nat->aa}{gone:Nat->Prop}{B B':Nat->Prop}{φ aj:Place}{H H':Hp}{w:World}(hc:∀v v' val,uy c x so gone v v'->V.den B φ H w v val->V.den B' aj H' w v' val):
 ∀ (l l':List V) (vals:List Value),xa c x so gone l l'->V.au B φ H w l vals->V.au B' aj H' w l' vals
 |[],[],_,_,h=>h
 |v::l,v'::l',_,h,hd=>by
  obtain⟨u,us,rfl,h1,h2⟩:=hd
  exact⟨u,us,rfl,hc _ _ _ h.1 h1,kO hc l l' us h.2 h2⟩
 |[],_::_,_,h,_=>h.elim
 |_::_,[],_,h,_=>h.elim
def sv(so:Nat->aa)(gone:Nat->Prop)(ty:TypeId)(sz:Nat)(es:List D)(x:V):Prop:=
 (x= .aM/\es=[]/\0<sz)\/∃id ep,gone id/\x= .osl id ep/\so id= .arr ep ty sz es
theorem w8.gone {so:Nat->aa}{c:Nat}{ty:TypeId}{sz:Nat}{es:List D}{x:V}(h:w8 so c ty sz es x):sv so (fun id=>c<=id) ty sz es x:=h
theorem cR.MB (gone:Nat->Prop){b:Nat}{e:Nat->V}{so:Nat->aa}{m:Nat}(l:List V){o:Nat->aa}{c:Nat}{ty:TypeId}{sz:Nat}{es:List D}(x:V)(r0:Nat)(cs cs':List V)(DB:r0<c)(hb:b<=c)(Nf:c<=m)(hg:Good o c)(mu:∀id,gone id->id<c->id≠r0/\o id= .no)(ho:∀id,id<c->id≠r0->so id=o id\/o id= .no)(At:so r0= .row cs)(a8:xa c x so gone cs cs')(hx:sv so gone ty sz es x)(he:w9 c x so gone e l 0):
 cR b ⟨e,so,m⟩ ⟨bD l,aQ (aQ o c (.arr 0 ty sz es)) r0 (.row cs'),c+1⟩:=by
 intro M φ w tm hH hd
 let aj:Place:=m7 φ c x
 let o':Nat->aa:=aQ (aQ o c (.arr 0 ty sz es)) r0 (.row cs')
 let H':Hp:=hp o' (c+1)
 let H:Hp:=⟨so,fun id=>id<m⟩
 have tZ:o' c= .arr 0 ty sz es:=by show aQ (aQ o c (.arr 0 ty sz es)) r0 (.row cs') c=_;rw[ay _ _ _ _ (by omega),aG]
 have yN:∀id,id<c->id≠r0->o' id=o id:=fun id ah eW=>by show aQ (aQ o c (.arr 0 ty sz es)) r0 (.row cs') id=_;rw[ay _ _ _ _ eW,ay _ _ _ _ (by omega)]
 have Sd:o' r0= .row cs':=aG _ _ _
 have Fg:∀id,c<id->o' id= .no:=fun id ah=>by show aQ (aQ o c (.arr 0 ty sz es)) r0 (.row cs') id=_;rw[ay _ _ _ _ (by omega),ay _ _ _ _ (by omega)];exact hg.fresh id (by omega)
 have jd:∀id,id<c->aj id=φ id:=fun id ah=>if_neg (by omega)
 have vU:x= .aM->aj c= .slice none 0 0:=fun h=>by simp only[aj,m7,h,if_pos]
 have vV:∀id ep,x= .osl id ep->aj c=φ id:=fun id ep h=>by simp only[aj,m7,if_pos,h]
 have hold:∀id k,(o' id).live=true->dz (aj id)=some k->∃j,(so j).live=true/\dz (φ j)=some k/\((id<c/\j=id)\/(id=c/\gone j/\∃ep,x= .osl j ep)):=by
  intro id k h1 h2
  rcases Nat.lt_trichotomy id c with bz|heq|lE
  ·rw[jd id bz]at h2
   by_cases eW:id=r0
   ·subst eW
    exact⟨id,by rw[At];rfl,h2, .inl ⟨bz,rfl⟩⟩
   ·rw[yN id bz eW]at h1
    rcases ho id bz eW with hs|hs
    ·exact⟨id,by rw[hs];exact h1,h2, .inl ⟨bz,rfl⟩⟩
    ·rw[hs]at h1;cases h1
  ·subst heq
   rcases hx with⟨rfl,_,_⟩|⟨j,ep,hj,rfl,hU⟩
   ·rw[vU rfl]at h2;cases h2
   ·rw[vV j ep rfl]at h2
    exact⟨j,by rw[hU];rfl,h2, .inr ⟨rfl,hj,ep,rfl⟩⟩
  ·rw[Fg id lE]at h1;cases h1
 have bA:∀k,bw aj H' k->bw φ H k:=by
  rintro k ⟨id,h1,h2⟩
  obtain⟨j,g1,g2,_⟩:=hold id k h1 h2
  exact⟨j,g1,g2⟩
 have hB:∀k, ¬ad M φ H k-> ¬ad M aj H' k:=fun k h h'=>h (h'.imp id (bA k))
 have qc:∀id,id<c->gZ (H'.o id) (H.o id)/\aj id=φ id/\H'.us id:=fun id ah=>by
  refine⟨?_,jd id ah,(by show id<c+1;omega)⟩
  by_cases eW:id=r0
  ·subst eW
   show gZ (o' id) (so id)
   rw[Sd,At];exact gZ.row _ _
  ·rcases ho id ah eW with hs|hs
   ·exact gZ.rfl' ((yN id ah eW).trans hs.symm)
   ·show gZ (o' id) (so id)
    rw[yN id ah eW,hs]
    exact⟨fun h=>(by cases h),fun e h=>(by cases h)⟩
 have dt:∀ (v:V) (val:Value),(∀r∈v.refs,r<c)->V.den (ad M φ H) φ H w v val->V.den (ad M aj H') aj H' w v val:=fun v val hr h=>
  V.iF (H:=H) (H':=H') hB v val (fun id ah=>qc id (hr id ah)) h
 have jg:∀ (v:List V) (val:List Value),(∀r∈V.aw v,r<c)->V.au (ad M φ H) φ H w v val->V.au (ad M aj H') aj H' w v val:=fun v val hr h=>
  V.fb (H:=H) (H':=H') hB v val (fun id ah=>qc id (hr id ah)) h
 have Fh:∀ (v:V) (y:D) (val:Value),dn so v=some y->(∀id∈v.ids,gone id/\∀ep,x≠ .osl id ep)->V.den (ad M φ H) φ H w v val->D.den (ad M aj H') w y val:=fun v y val h1 h2 h3=>by
  obtain⟨f1,f2,f3,f4,f5⟩:=cB (H:=H) hH v.ids (fun id ah=>cu v val h3 id ah)
  have Qx:∀k,bw φ (H.put (cn H.o v.ids)) k->bw φ H k:=by
   rintro k ⟨id,g1,g2⟩
   by_cases ah:id∈v.ids
   ·rw[f3 id ah]at g1
    refine⟨id, ?_,g2⟩
    revert g1
    cases H.o id<;>simp[aa.fz,aa.live]
   ·rw[f4 id ah]at g1;exact⟨id,g1,g2⟩
  have h4:V.den (ad M φ (H.put (cn H.o v.ids))) φ (H.put (cn H.o v.ids)) w v val:=
   V.iF (H:=H) (fun k h h'=>h (h'.imp id (Qx k))) v val (fun id ah=>by
     have df:H.us id:=(V.kn v val h3) id ah
     refine⟨?_,rfl,(f5 id).2 df⟩
     by_cases hm:id∈v.ids
     ·rw[f3 id hm];exact gZ.fz _
     ·rw[f4 id hm];exact gZ.rfl' rfl) h3
  have h5:=dM f1 (o:=so) v y val (fun id ah=>f3 id ah) h1 h4
  refine D.ax (w:=w) (w':=w) (fun k _ hn=>⟨rfl,fun hk=>hn (hk.imp id ?_)⟩) y val h5
  rintro⟨id,g1,g2⟩
  obtain⟨j,k1,k2,k3⟩:=hold id k g1 g2
  refine⟨j, ?_,k2⟩
  have:j∉v.ids:=fun hm=>by
   obtain⟨k4,k5⟩:=h2 j hm
   rcases k3 with⟨k6,k7⟩|⟨_,_,ep,k6⟩
   ·subst k7
    obtain⟨k8,k9⟩:=mu _ k4 k6
    have g1:(o' j).live=true:=g1
    rw[yN _ k6 k8,k9]at g1
    cases g1
   ·exact k5 ep k6
  rw[f4 j this];exact k1
 have Au:∀val,V.den (ad M φ H) φ H w x val->V.den (ad M aj H') aj H' w (.osl c 0) val:=by
  intro val this
  rcases hx with⟨rfl,rfl,du⟩|⟨j,ep,hj,rfl,hU⟩
  ·simp only[V.den]at this
   rw[this]
   refine⟨rfl,(by show c<c+1;omega),fun e' dY=> ?_⟩
   have dY:(o' c).aP=some e':=dY
   rw[tZ]at dY
   simp only[aa.aP,Option.some.injEq]at dY
   subst dY
   exact⟨Nat.le_refl _,fun _=>(vU rfl).symm⟩
  ·obtain⟨g1,g2,g3⟩:=this
   refine⟨g1,(by show c<c+1;omega),fun e' dY=> ?_⟩
   have dY:(o' c).aP=some e':=dY
   rw[tZ]at dY
   simp only[aa.aP,Option.some.injEq]at dY
   subst dY
   have oB:(H.o j).aP=some ep:=by show(so j).aP=_;rw[hU];rfl
   exact⟨Nat.le_refl _,fun _=>by rw[vV j ep rfl];exact(g3 ep oB).2 rfl⟩
 have uA:∀v v' val,uy c x so gone v v'->V.den (ad M φ H) φ H w v val->V.den (ad M aj H') aj H' w v' val:=by
  intro v v' val h h1
  rcases h with rfl|⟨rfl,h2⟩|⟨rfl,rfl⟩|⟨y,rfl,h2,h3⟩
  ·trivial
  ·exact dt _ _ h2 h1
  ·exact Au _ h1
  ·exact Fh v y val h2 h3 h1
 refine⟨aj,⟨fun id=> ?_,fun id hu=>Fg id (by have: ¬id<c+1:=hu;omega),fun i j k h1 h2 h3 h4=> ?_,fun k hk=>hH.ours k (bA k hk),hH.p7⟩,fun i=> ?_,bA,by show b<=c+1;omega,fun id ah hr=> ?_,fun id e' ah dY=> ?_⟩
 ·have aJ:aC M φ H w id:=hH.ok id
  have hrefs:=hg.refs id
  show aC M aj H' w id
  unfold aC at aJ|-
  rcases Nat.lt_trichotomy id c with bz|heq|lE
  ·by_cases eW:id=r0
   ·subst eW
    have e1:H.o id= .row cs:=At
    have e2:H'.o id= .row cs':=Sd
    rw[e1]at aJ
    rw[e2,jd id bz]
    obtain⟨b,cl,ty,k1,k2,k3,k4⟩:=aJ
    exact⟨b,cl,ty,k1,k2,kO uA _ _ _ a8 k3,k4⟩
   have e2:H'.o id=o id:=yN id bz eW
   rcases ho id bz eW with hs|hs
   case inr=>rw[e2,hs];trivial
   have e1:H.o id=o id:=hs
   rw[e1]at aJ
   rw[e2,jd id bz]
   cases lC:o id with
   |no=>trivial
   |row cs=>
    simp only[lC]at aJ hrefs|-
    obtain⟨b,cl,ty,k1,k2,k3,k4⟩:=aJ
    exact⟨b,cl,ty,k1,k2,jg _ _ hrefs k3,k4⟩
   |arr ep ty sz es=>
    simp only[lC]at aJ|-
    obtain⟨k1,xs,k2,evs,k3,k4,k5⟩:=aJ
    exact⟨k1,xs,k2,evs,k3,k4,D.aB (fun b _ hn=>⟨rfl,hB b hn⟩) _ _ k5⟩
   |lG ep es=>
    simp only[lC]at aJ|-
    exact D.ax (fun b _ hn=>⟨rfl,hB b hn⟩) _ _ aJ
   |map kt vt es=>
    simp only[lC]at aJ|-
    obtain⟨b,es',clock,k1,k2,k4,k3⟩:=aJ
    exact⟨b,es',clock,k1,k2,k4,aA.mono (fun b _ hn=>⟨rfl,hB b hn⟩) _ _ k3⟩
   |ef l=>
    simp only[lC]at aJ|-
    exact D.ax (fun b _ hn=>⟨rfl,hB b hn⟩) _ _ aJ
   |mJ l last=>
    simp only[lC]at aJ|-
    obtain⟨b,k1,k2⟩:=aJ
    exact⟨b,k1,k2.mono (fun b _ hn=>⟨rfl,hB b hn⟩) rfl⟩
   |oq s pos=>
    simp only[lC]at aJ|-
    exact aJ
   |loop nf n env ps a b st pd=>
    simp only[lC]at aJ hrefs|-
    obtain⟨b,r,k1,k2,k3,k4,k5,k6,k7,k8,k9,zW⟩:=aJ
    exact⟨b,r,k1,k2,k3,k4,k5,k6,k7,k8,k9,fun i=>dt _ _ (fun r hr=>hrefs r (V.iC _ _ r hr)) (zW i)⟩
  ·subst heq
   have e2:H'.o id= .arr 0 ty sz es:=tZ
   rw[e2]
   rcases hx with⟨rfl,rfl,du⟩|⟨j,ep,hj,rfl,hU⟩
   ·refine⟨du,[], ?_,[],by simp,by simp,rfl⟩
    rw[vU rfl]
    exact World.ownsRow_nil _ _ _ _
   ·have this:aC M φ H w j:=hH.ok j
    unfold aC at this
    have e3:H.o j= .arr ep ty sz es:=hU
    simp only[e3]at this
    obtain⟨k1,xs,k2,evs,k3,k4,k5⟩:=this
    exact⟨k1,xs,by rw[vV j ep rfl];exact k2,evs,k3,k4,D.aB (fun b _ hn=>⟨rfl,hB b hn⟩) _ _ k5⟩
  ·have e2:H'.o id= .no:=Fg id lE
   rw[e2]
   trivial
 ·obtain⟨i',a1,a2,a3⟩:=hold i k h1 h3
  obtain⟨j',b1,b2,b3⟩:=hold j k h2 h4
  have:=hH.apart i' j' k a1 b1 a2 b2
  have eW:∀cg j',(o' cg).live=true->cg<c->gone j'->cg≠j':=fun cg j' g1 g2 g3 g4=>by
   subst g4
   obtain⟨g5,g6⟩:=mu _ g3 g2
   rw[yN _ g2 g5,g6]at g1
   cases g1
  rcases a3 with⟨a3,a4⟩|⟨a3,a4,_⟩<;>rcases b3 with⟨b3,b4⟩|⟨b3,b4,_⟩
  ·omega
  ·exact absurd (a4.symm.trans this) (eW i j' h1 a3 b4)
  ·exact absurd (b4.symm.trans this.symm) (eW j i' h2 b3 a4)
  ·omega
 ·have hi:=uz l 0 he i
  rw[Nat.zero_add]at hi
  exact uA _ _ _ hi (hd i)
 ·have bz:id<c:=by omega
  have hr:(o' id).bp=true:=hr
  exact⟨(qc id bz).1.1 hr,jd id bz⟩
 ·have bz:id<c:=by omega
  have dY:(o' id).aP=some e':=dY
  exact⟨e',(qc id bz).1.2 e' dY,Nat.le_refl _,fun _=>jd id bz⟩
theorem cR.conv {b:Nat}{e:Nat->V}{so:Nat->aa}{m:Nat}(l:List V){o:Nat->aa}{c:Nat}{ty:TypeId}{sz:Nat}{es:List D}(x:V)(r0:Nat)(cs cs':List V)(DB:r0<c)(hb:b<=c)(Nf:c<=m)(hg:Good o c)(ho:∀id,id<c->id≠r0->so id=o id)(At:so r0= .row cs)(a8:xa c x so (fun id=>c<=id) cs cs')(hx:w8 so c ty sz es x)(he:w9 c x so (fun id=>c<=id) e l 0):
 cR b ⟨e,so,m⟩ ⟨bD l,aQ (aQ o c (.arr 0 ty sz es)) r0 (.row cs'),c+1⟩:=
 cR.MB _ l x r0 cs cs' DB hb Nf hg (fun id h1 h2=>absurd h1 (by omega)) (fun id h1 h2=> .inl (ho id h1 h2)) At a8 hx he
def Fi(P:Program)(n b id:Nat)(gB:IC)(K X:V->(Nat->aa)->Nat->Prop)(e:fq)(s:S):Prop:=
 match e with
 | .normal=>∃nf m en p c d pd,s.o id= .loop nf m en p c d .ready pd/\mi P n b true gB (vN id K X) ⟨s.env,aQ s.o id (.loop nf m en p c d .busy pd),s.nx⟩
 | .bf v=>X v s.o s.nx
 |_=>False
theorem dS.bg {P:Program}{n:Nat}(aS:P.follows .mixedOrders=true){id:Nat}{args:List V}{o:Nat->aa}{nx:Nat}{K X:V->(Nat->aa)->Nat->Prop}{env:List V}{ps:List Nat}{kA gB:IC}{st:LoopState}{pd:Option lz}
 (ho:o id= .loop P.funcs.size n env ps kA gB st pd) (bz:id<nx) (HW:ps.all (fun t=>decide (t<n))=true) (hl:args.length=ps.length)
 (h:mi P n nx true kA (Fi P n nx id gB K X) ⟨vK (bD env) ps args,o,nx⟩):dS P id args o nx K X:=by
 refine dS.pf aS ho bz HW hl (ed kA _ _ _ (fun e s h=> ?_) h)
 cases e with
 |normal=>
  obtain⟨nf,m,en,p,c,d,pd,h1,h2⟩:=h
  exact⟨nf,m,en,p,c,d,pd,h1,ed gB _ _ _ (fun _ _ h=>h) h2⟩
 |bf v=>exact h
 |_=>exact h.elim
section
variable {P:Program}{KB:List Nat->Fp->Prop}{pr:List (List Nat)}{l:List bK}{fr:Nat}{fp:Fp}{bad ws:List Nat}{s:S}{d:Option Nat}{op:Op}
end
end Go.Proofs.YtpkobkdgcanmjaaGreat
namespace Go.Proofs.YtpkobkdgcanmjaaGreat
structure Gr where
 x:V
 ty:TypeId
 sz:Nat
 es:List D
def Gr.ok (so:Nat->aa)(gone:Nat->Prop)(g:Gr):Prop:=sv so gone g.ty g.sz g.es g.x
def Av(c:Nat)(G:List Gr)(so:Nat->aa)(gone:Nat->Prop)(v v':V):Prop:=
 v'= .ak\/(v'=v/\∀r∈v.refs,r<c)\/(∃i g,G[i]? =some g/\v'= .osl (c+i) 0/\v=g.x)\/∃y,v'= .d y/\dn so v=some y/\∀id∈v.ids,gone id/\∀g∈G,∀ep,g.x≠ .osl id ep
def kF(c:Nat)(G:List Gr)(so:Nat->aa)(gone:Nat->Prop)(env:Nat->V):List V->Nat->Prop
 |[],_=>True
 |v::l,i=>Av c G so gone (env i) v/\kF c G so gone env l (i+1)
def sw(c:Nat)(G:List Gr)(so:Nat->aa)(gone:Nat->Prop):List V->List V->Prop
 |[],[]=>True
 |v::l,v'::l'=>Av c G so gone v v'/\sw c G so gone l l'
 |_,_=>False
def vW(c:Nat)(G:List Gr)(so:Nat->aa)(gone:Nat->Prop)(x x':aa):Prop:=
 x'= .no\/(x=x'/\∀r∈x'.refs,r<c)\/∃cs cs',x= .row cs/\x'= .row cs'/\sw c G so gone cs cs'
section
variable {c:Nat}{G:List Gr}{so:Nat->aa}{gone:Nat->Prop}
theorem xb{env:Nat->V}:∀ (l:List V) (i:Nat),kF c G so gone env l i->∀j,Av c G so gone (env (i+j)) (bD l j)
 |[],i,_,j=>by rw[iB];exact .inl rfl
 |v::l,i,h,0=>by rw[iA];exact h.1
 |v::l,i,h,j+1=>by
  rw[fQ]
  have:=xb l (i+1) h.2 j
  rwa [show i+1+j=i+(j+1) by omega]at this
variable {env:Nat->V}{i:Nat}{l l':List V}{v:V}{y:D}
theorem jV:kF c G so gone env [] i:=trivial
theorem iG(h:kF c G so gone env l (i+1)):kF c G so gone env (.ak::l) i:=⟨.inl rfl,h⟩
theorem g8(he:env i= .d y)(h:kF c G so gone env l (i+1)):kF c G so gone env (.d y::l) i:=⟨.inr (.inl ⟨he.symm,fun r hr=>by rw[he]at hr;simp[V.refs]at hr⟩),h⟩
theorem pJ(he:env i=v)(hr:∀r∈v.refs,r<c)(h:kF c G so gone env l (i+1)):kF c G so gone env (v::l) i:=⟨.inr (.inl ⟨he.symm,fun r xL=>hr r (he ▸ xL)⟩),h⟩
theorem pK(k:Nat){g:Gr}{n:Nat}(hg:G[k]? =some g)(hn:n=c+k)(he:env i=g.x)(h:kF c G so gone env l (i+1)):kF c G so gone env (.osl n 0::l) i:=⟨.inr (.inr (.inl ⟨k,g,hg,by rw[hn],he⟩)),h⟩
theorem pL(ht:dn so (env i)=some y)(hi:∀id∈(env i).ids,gone id/\∀g∈G,∀ep,g.x≠ .osl id ep)(h:kF c G so gone env l (i+1)):kF c G so gone env (.d y::l) i:=⟨.inr (.inr (.inr ⟨y,rfl,ht,hi⟩)),h⟩
theorem mw:sw c G so gone [] []:=trivial
theorem jW(h:sw c G so gone l l'):sw c G so gone (.d y::l) (.d y::l'):=⟨.inr (.inl ⟨rfl,fun r hr=>by simp[V.refs]at hr⟩),h⟩
theorem sx(k:Nat){g:Gr}{n:Nat}(hg:G[k]? =some g)(hn:n=c+k)(he:v=g.x)(h:sw c G so gone l l'):sw c G so gone (v::l) (.osl n 0::l'):=⟨.inr (.inr (.inl ⟨k,g,hg,by rw[hn],he⟩)),h⟩
theorem ko{x x':aa}(h:x=x')(hr:∀r∈x'.refs,r<c):vW c G so gone x x':= .inr (.inl ⟨h,hr⟩)
theorem my{x:aa}{cs cs':List V}(h:x= .row cs)(hr:sw c G so gone cs cs'):vW c G so gone x (.row cs'):= .inr (.inr ⟨cs,cs',h,rfl,hr⟩)
end
theorem mz{c:Nat}{G:List Gr}{so:Nat->aa}{gone:Nat->Prop}{B B':Nat->Prop}{φ aj:Place}{H H':Hp}{w:World}(hc:∀v v' val,Av c G so gone v v'->V.den B φ H w v val->V.den B' aj H' w v' val):
 ∀ (l l':List V) (vals:List Value),sw c G so gone l l'->V.au B φ H w l vals->V.au B' aj H' w l' vals
 |[],[],_,_,h=>h
 |v::l,v'::l',_,h,hd=>by
  obtain⟨u,us,rfl,h1,h2⟩:=hd
  exact⟨u,us,rfl,hc _ _ _ h.1 h1,mz hc l l' us h.2 h2⟩
 |[],_::_,_,h,_=>h.elim
 |_::_,[],_,h,_=>h.elim
def Aw(φ:Place)(c:Nat)(G:List Gr):Place:=fun id=>if id<c then φ id else match G[id - c]? with
 |some g=>(match g.x with| .osl j _=>φ j|_=> .slice none 0 0)
 |none=>φ id
theorem cR.Se (gone:Nat->Prop)(G:List Gr)(c:Nat){b:Nat}{e:Nat->V}{so:Nat->aa}{m:Nat}(l:List V){o':Nat->aa}{nx':Nat}(p4:nx'=c+G.length)(hb:b<=c)
 (ho:∀id,id<c->vW c G so gone (so id) (o' id)) (hG:∀i g,G[i]? =some g->o' (c+i)= .arr 0 g.ty g.sz g.es/\g.ok so gone) (hh:∀id,nx'<=id->o' id= .no) (mu:∀id,gone id->id<c->o' id= .no)
 (rH:∀ (i j:Nat) (gi gj:Gr) (id ep eR:Nat),G[i]? =some gi->G[j]? =some gj->gi.x= .osl id ep->gj.x= .osl id eR->i=j) (he:kF c G so gone e l 0):cR b ⟨e,so,m⟩ ⟨bD l,o',nx'⟩:=by
 subst p4
 intro M φ w tm hH hd
 let aj:Place:=Aw φ c G
 let H':Hp:=hp o' (c+G.length)
 let H:Hp:=⟨so,fun id=>id<m⟩
 have jd:∀id,id<c->aj id=φ id:=fun id ah=>if_pos ah
 have Ax:∀i g,G[i]? =some g->aj (c+i)=(match g.x with| .osl j _=>φ j|_=> .slice none 0 0):=fun i g hg=>by
  show Aw φ c G (c+i)=_
  unfold Aw
  rw[if_neg (by omega),show c+i - c=i by omega,hg]
 have hold:∀id k,(o' id).live=true->dz (aj id)=some k->∃j,(so j).live=true/\dz (φ j)=some k/\((id<c/\j=id)\/∃i g ep,id=c+i/\G[i]? =some g/\gone j/\g.x= .osl j ep):=by
  intro id k h1 h2
  by_cases bz:id<c
  ·rw[jd id bz]at h2
   rcases ho id bz with h3|⟨h3,_⟩|⟨cs,cs',h3,h4,_⟩
   ·rw[h3]at h1;cases h1
   ·exact⟨id,by rw[h3];exact h1,h2, .inl ⟨bz,rfl⟩⟩
   ·exact⟨id,by rw[h3];rfl,h2, .inl ⟨bz,rfl⟩⟩
  ·by_cases u9:c+G.length<=id
   ·rw[hh id u9]at h1;cases h1
   ·obtain⟨i,rfl⟩:∃i,id=c+i:=⟨id - c,by omega⟩
    obtain⟨g,hg⟩:∃g,G[i]? =some g:=⟨G[i]'(by omega),by simp⟩
    rw[Ax i g hg]at h2
    obtain⟨_,ba⟩:=hG i g hg
    rcases ba with⟨h3,_,_⟩|⟨j,ep,hj,h3,hU⟩
    ·rw[h3]at h2;cases h2
    ·rw[h3]at h2
     exact⟨j,by rw[hU];rfl,h2, .inr ⟨i,g,ep,rfl,hg,hj,h3⟩⟩
 have bA:∀k,bw aj H' k->bw φ H k:=by
  rintro k ⟨id,h1,h2⟩
  obtain⟨j,g1,g2,_⟩:=hold id k h1 h2
  exact⟨j,g1,g2⟩
 have hB:∀k, ¬ad M φ H k-> ¬ad M aj H' k:=fun k h h'=>h (h'.imp id (bA k))
 have qc:∀id,id<c->gZ (H'.o id) (H.o id)/\aj id=φ id/\H'.us id:=fun id ah=>by
  refine⟨?_,jd id ah,(by show id<c+G.length;omega)⟩
  show gZ (o' id) (so id)
  rcases ho id ah with h3|⟨h3,_⟩|⟨cs,cs',h3,h4,_⟩
  ·rw[h3];exact⟨fun h=>(by cases h),fun e h=>(by cases h)⟩
  ·exact gZ.rfl' h3.symm
  ·rw[h3,h4];exact gZ.row _ _
 have dt:∀ (v:V) (val:Value),(∀r∈v.refs,r<c)->V.den (ad M φ H) φ H w v val->V.den (ad M aj H') aj H' w v val:=fun v val hr h=>
  V.iF (H:=H) (H':=H') hB v val (fun id ah=>qc id (hr id ah)) h
 have jg:∀ (v:List V) (val:List Value),(∀r∈V.aw v,r<c)->V.au (ad M φ H) φ H w v val->V.au (ad M aj H') aj H' w v val:=fun v val hr h=>
  V.fb (H:=H) (H':=H') hB v val (fun id ah=>qc id (hr id ah)) h
 have Fh:∀ (v:V) (y:D) (val:Value),dn so v=some y->(∀id∈v.ids,gone id/\∀g∈G,∀ep,g.x≠ .osl id ep)->V.den (ad M φ H) φ H w v val->D.den (ad M aj H') w y val:=fun v y val h1 h2 h3=>by
  obtain⟨f1,f2,f3,f4,f5⟩:=cB (H:=H) hH v.ids (fun id ah=>cu v val h3 id ah)
  have Qx:∀k,bw φ (H.put (cn H.o v.ids)) k->bw φ H k:=by
   rintro k ⟨id,g1,g2⟩
   by_cases ah:id∈v.ids
   ·rw[f3 id ah]at g1
    refine⟨id, ?_,g2⟩
    revert g1
    cases H.o id<;>simp[aa.fz,aa.live]
   ·rw[f4 id ah]at g1;exact⟨id,g1,g2⟩
  have h4:V.den (ad M φ (H.put (cn H.o v.ids))) φ (H.put (cn H.o v.ids)) w v val:=
   V.iF (H:=H) (fun k h h'=>h (h'.imp id (Qx k))) v val (fun id ah=>by
     have df:H.us id:=(V.kn v val h3) id ah
     refine⟨?_,rfl,(f5 id).2 df⟩
     by_cases hm:id∈v.ids
     ·rw[f3 id hm];exact gZ.fz _
     ·rw[f4 id hm];exact gZ.rfl' rfl) h3
  have h5:=dM f1 (o:=so) v y val (fun id ah=>f3 id ah) h1 h4
  refine D.ax (w:=w) (w':=w) (fun k _ hn=>⟨rfl,fun hk=>hn (hk.imp id ?_)⟩) y val h5
  rintro⟨id,g1,g2⟩
  obtain⟨j,k1,k2,k3⟩:=hold id k g1 g2
  refine⟨j, ?_,k2⟩
  have:j∉v.ids:=fun hm=>by
   obtain⟨k4,k5⟩:=h2 j hm
   rcases k3 with⟨k6,k7⟩|⟨i,g,ep,k6,k8,k9,zW⟩
   ·subst k7
    have:=mu _ k4 k6
    have g1:(o' j).live=true:=g1
    rw[this]at g1
    cases g1
   ·exact k5 g (List.mem_of_getElem? k8) ep zW
  rw[f4 j this];exact k1
 have Au:∀i g val,G[i]? =some g->V.den (ad M φ H) φ H w g.x val->V.den (ad M aj H') aj H' w (.osl (c+i) 0) val:=by
  intro i g val hg this
  obtain⟨tZ,ba⟩:=hG i g hg
  have bz:c+i<c+G.length:=by have:=(List.getElem?_eq_some_iff.1 hg).1;omega
  rcases ba with⟨h3,_,_⟩|⟨j,ep,hj,h3,hU⟩
  ·rw[h3]at this
   simp only[V.den]at this
   rw[this]
   refine⟨rfl,bz,fun e' dY=> ?_⟩
   have dY:(o' (c+i)).aP=some e':=dY
   rw[tZ]at dY
   simp only[aa.aP,Option.some.injEq]at dY
   subst dY
   exact⟨Nat.le_refl _,fun _=>by rw[Ax i g hg,h3]⟩
  ·rw[h3]at this
   obtain⟨g1,g2,g3⟩:=this
   refine⟨g1,bz,fun e' dY=> ?_⟩
   have dY:(o' (c+i)).aP=some e':=dY
   rw[tZ]at dY
   simp only[aa.aP,Option.some.injEq]at dY
   subst dY
   have oB:(H.o j).aP=some ep:=by show(so j).aP=_;rw[hU];rfl
   exact⟨Nat.le_refl _,fun _=>by rw[Ax i g hg,h3];exact(g3 ep oB).2 rfl⟩
 have uA:∀v v' val,Av c G so gone v v'->V.den (ad M φ H) φ H w v val->V.den (ad M aj H') aj H' w v' val:=by
  intro v v' val h h1
  rcases h with rfl|⟨rfl,h2⟩|⟨i,g,hg,rfl,rfl⟩|⟨y,rfl,h2,h3⟩
  ·trivial
  ·exact dt _ _ h2 h1
  ·exact Au i g _ hg h1
  ·exact Fh v y val h2 h3 h1
 refine⟨aj,⟨fun id=> ?_,fun id hu=>hh id (by have: ¬id<c+G.length:=hu;omega),fun i j k h1 h2 h3 h4=> ?_,fun k hk=>hH.ours k (bA k hk),hH.p7⟩,fun i=> ?_,bA,by show b<=c+G.length;omega,fun id ah hr=> ?_,fun id e' ah dY=> ?_⟩
 ·have aJ:aC M φ H w id:=hH.ok id
  show aC M aj H' w id
  unfold aC at aJ|-
  by_cases bz:id<c
  ·rcases ho id bz with h3|⟨h3,hrefs⟩|⟨cs,cs',h3,h4,a8⟩
   ·have e2:H'.o id= .no:=h3
    rw[e2];trivial
   ·have e1:H.o id=o' id:=h3
    have e2:H'.o id=o' id:=rfl
    rw[e1]at aJ
    rw[e2,jd id bz]
    cases lC:o' id with
    |no=>trivial
    |row cs=>
     simp only[lC]at aJ hrefs|-
     obtain⟨b,cl,ty,k1,k2,k3,k4⟩:=aJ
     exact⟨b,cl,ty,k1,k2,jg _ _ hrefs k3,k4⟩
    |arr ep ty sz es=>
     simp only[lC]at aJ|-
     obtain⟨k1,xs,k2,evs,k3,k4,k5⟩:=aJ
     exact⟨k1,xs,k2,evs,k3,k4,D.aB (fun b _ hn=>⟨rfl,hB b hn⟩) _ _ k5⟩
    |lG ep es=>
     simp only[lC]at aJ|-
     exact D.ax (fun b _ hn=>⟨rfl,hB b hn⟩) _ _ aJ
    |map kt vt es=>
     simp only[lC]at aJ|-
     obtain⟨b,es',clock,k1,k2,k4,k3⟩:=aJ
     exact⟨b,es',clock,k1,k2,k4,aA.mono (fun b _ hn=>⟨rfl,hB b hn⟩) _ _ k3⟩
    |ef l=>
     simp only[lC]at aJ|-
     exact D.ax (fun b _ hn=>⟨rfl,hB b hn⟩) _ _ aJ
    |mJ l last=>
     simp only[lC]at aJ|-
     obtain⟨b,k1,k2⟩:=aJ
     exact⟨b,k1,k2.mono (fun b _ hn=>⟨rfl,hB b hn⟩) rfl⟩
    |oq s pos=>
     simp only[lC]at aJ|-
     exact aJ
    |loop nf n env ps a b st pd=>
     simp only[lC]at aJ hrefs|-
     obtain⟨b,r,k1,k2,k3,k4,k5,k6,k7,k8,k9,zW⟩:=aJ
     exact⟨b,r,k1,k2,k3,k4,k5,k6,k7,k8,k9,fun i=>dt _ _ (fun r hr=>hrefs r (V.iC _ _ r hr)) (zW i)⟩
   ·have e1:H.o id= .row cs:=h3
    have e2:H'.o id= .row cs':=h4
    rw[e1]at aJ
    rw[e2,jd id bz]
    obtain⟨b,cl,ty,k1,k2,k3,k4⟩:=aJ
    exact⟨b,cl,ty,k1,k2,mz uA _ _ _ a8 k3,k4⟩
  ·by_cases u9:c+G.length<=id
   ·have e2:H'.o id= .no:=hh id u9
    rw[e2];trivial
   ·obtain⟨i,rfl⟩:∃i,id=c+i:=⟨id - c,by omega⟩
    obtain⟨g,hg⟩:∃g,G[i]? =some g:=⟨G[i]'(by omega),by simp⟩
    obtain⟨tZ,ba⟩:=hG i g hg
    have e2:H'.o (c+i)= .arr 0 g.ty g.sz g.es:=tZ
    rw[e2]
    rcases ba with⟨h3,h4,du⟩|⟨j,ep,hj,h3,hU⟩
    ·rw[h4]
     refine⟨du,[], ?_,[],by simp,by simp,rfl⟩
     rw[Ax i g hg,h3]
     exact World.ownsRow_nil _ _ _ _
    ·have this:aC M φ H w j:=hH.ok j
     unfold aC at this
     have e3:H.o j= .arr ep g.ty g.sz g.es:=hU
     simp only[e3]at this
     obtain⟨k1,xs,k2,evs,k3,k4,k5⟩:=this
     exact⟨k1,xs,by rw[Ax i g hg,h3];exact k2,evs,k3,k4,D.aB (fun b _ hn=>⟨rfl,hB b hn⟩) _ _ k5⟩
 ·obtain⟨i',a1,a2,a3⟩:=hold i k h1 h3
  obtain⟨j',b1,b2,b3⟩:=hold j k h2 h4
  have:=hH.apart i' j' k a1 b1 a2 b2
  subst this
  have eW:∀cg,(o' cg).live=true->cg<c->gone cg->False:=fun cg g1 g2 g3=>by
   rw[mu _ g3 g2]at g1
   cases g1
  rcases a3 with⟨a3,a4⟩|⟨ia,ga,ea,a3,a4,a5,a6⟩<;>rcases b3 with⟨b3,b4⟩|⟨ib,gb,eb,b3,b4,b5,b6⟩
  ·omega
  ·exact(eW i h1 a3 (a4 ▸ b5)).elim
  ·exact(eW j h2 b3 (b4 ▸ a5)).elim
  ·have:=rH ia ib ga gb _ _ _ a4 b4 a6 b6
   omega
 ·have hi:=xb l 0 he i
  rw[Nat.zero_add]at hi
  exact uA _ _ _ hi (hd i)
 ·have bz:id<c:=by omega
  have hr:(o' id).bp=true:=hr
  exact⟨(qc id bz).1.1 hr,jd id bz⟩
 ·have bz:id<c:=by omega
  have dY:(o' id).aP=some e':=dY
  exact⟨e',(qc id bz).1.2 e' dY,Nat.le_refl _,fun _=>jd id bz⟩
theorem cR.Qy (gone:Nat->Prop)(c:Nat){b:Nat}{e:Nat->V}{so:Nat->aa}{m:Nat}(l:List V){o':Nat->aa}(hb:b<=c)
 (ho:∀id,id<c->vW c [] so gone (so id) (o' id)) (hh:∀id,c<=id->o' id= .no) (mu:∀id,gone id->id<c->o' id= .no) (he:kF c [] so gone e l 0):cR b ⟨e,so,m⟩ ⟨bD l,o',c⟩:=
 cR.Se gone [] c l rfl hb ho (fun i g h=>by cases h) hh mu (fun i j gi gj id ep eR h=>by cases h) he
theorem cR.Cd (gone:Nat->Prop)(x:V)(c:Nat){ty:TypeId}{sz:Nat}{es:List D}{b:Nat}{e:Nat->V}{so:Nat->aa}{m:Nat}(l:List V){o':Nat->aa}(hb:b<=c)
 (ho:∀id,id<c->vW c [⟨x,ty,sz,es⟩] so gone (so id) (o' id)) (hc:o' c= .arr 0 ty sz es) (hx:sv so gone ty sz es x) (hh:∀id,c+1<=id->o' id= .no) (mu:∀id,gone id->id<c->o' id= .no)
 (he:kF c [⟨x,ty,sz,es⟩] so gone e l 0):cR b ⟨e,so,m⟩ ⟨bD l,o',c+1⟩:=
 cR.Se gone [⟨x,ty,sz,es⟩] c l rfl hb ho (fun i g h=>by
  match i,h with
  |0,h=>simp at h;subst h;exact⟨hc,hx⟩) hh mu (fun i j gi gj id ep eR h h' _ _=>by
  match i,j,h,h' with
  |0,0,_,_=>rfl) he
theorem Ty{P:Nat->Prop}:∀id,id<0->P id:=fun id ah=>by omega
@[go_sem] theorem Sf (b:Bool):(b==false)= !b:=by cases b<;>rfl
@[go_sem] theorem Sg (b:Bool):(b==true)=b:=by cases b<;>rfl
@[go_sem] theorem MC (c:Bool) (v:V):V.r8 c (V.r8 c v)=V.r8 c v:=by cases c<;>rfl
@[go_sem] theorem MD (c:Bool):(c&&c)=c:=by cases c<;>rfl
@[go_sem] theorem Gt {α:Type} (f:α->D) (l:List α) (n:Nat) (h:∀x,(f x).cells.length=n):((l.map f).all fun z=>z.cells.length==n)=true:=by
  simp[List.all_eq_true,h]
attribute [go_sem] implies_true
attribute [go_sem] Option.isSome_none Option.getD_some Option.getD_none
theorem structOf{P:Program}{t:TypeId}(h:(match P.underlying t with|some (.struct _)=>true|_=>false)=true):∃fs,P.underlying t=some (.struct fs):=by
 split at h
 ·exact⟨_,by assumption⟩
 ·cases h
structure jX (base:Nat) (h o:Nat->aa) (nx:Nat):Prop where
 eH:Good o nx
 le:base<=nx
 eq:∀id,id<base->o id=h id
def Nz(base:Nat)(h:Nat->aa)(v:V)(o:Nat->aa)(nx:Nat)(K:V->(Nat->aa)->Nat->Prop):Prop:=
 ∀o' nx',nx<=nx'->jX base h o' nx'->(∀id,base<=id->id<nx->o' id=o id)->K v o' nx'
def sM(P:Program)(g:FuncId)(args:List V)(base:Nat)(h h2:Nat->aa)(v:V):Prop:=
 ∀o nx,jX base h o nx->∀K X,Nz base h2 v o nx K->ft P g args o nx K X
theorem jX.aQ {base:Nat}{h o:Nat->aa}{nx m i:Nat}{x:aa}(hI:jX base h o nx)(hb:base<=i)(hi:i<m)(hm:nx<=m)(hx:x.refs.all (fun r=>decide (r<m))=true):jX base h (YtpkobkdgcanmjaaGreat.aQ o i x) m:=
 ⟨(hI.eH.mono hm).aQ hi hx,Nat.le_trans hI.le hm,fun id ah=>by rw[ay _ _ _ _ (by omega)];exact hI.eq id ah⟩
theorem jX.mono {base:Nat}{h o:Nat->aa}{nx m:Nat}(hI:jX base h o nx)(hm:nx<=m):jX base h o m:=⟨hI.eH.mono hm,Nat.le_trans hI.le hm,hI.eq⟩
def ext(base:Nat)(h o:Nat->aa):Nat->aa:=fun id=>if id<base then h id else o id
theorem jX.ext {base c:Nat}{h o:Nat->aa}{nx:Nat}(hI:jX base h o nx)(hc:c<=nx)(hb:base<=c):jX c (YtpkobkdgcanmjaaGreat.ext base h o) o nx:=
 ⟨hI.eH,hc,fun id _=>by unfold YtpkobkdgcanmjaaGreat.ext;split<;>first|exact hI.eq id (by assumption)|rfl⟩
theorem sM.ext {P:Program}{g:FuncId}{args:List V}{base c:Nat}{h h2:Nat->aa}{v:V}(hS:sM P g args base h h2 v)(hb:base<=c)(o0:Nat->aa):sM P g args c (YtpkobkdgcanmjaaGreat.ext base h o0) (YtpkobkdgcanmjaaGreat.ext base h2 o0) v:=by
 intro o nx hI K X hK
 refine hS o nx ⟨hI.eH,Nat.le_trans hb hI.le,fun id ah=>by rw[hI.eq id (by omega)];unfold YtpkobkdgcanmjaaGreat.ext;rw[if_pos ah]⟩ K X fun o' nx' h1 h2 h3=>hK o' nx' h1 ⟨h2.eH,Nat.le_trans hI.le h1,fun id ah=> ?_⟩ (fun id h4 h5=>h3 id (by omega) h5)
 unfold YtpkobkdgcanmjaaGreat.ext
 split
 ·exact h2.eq id (by assumption)
 ·rename_i hn
  rw[h3 id (by omega) (by have:=hI.le;omega),hI.eq id ah]
  unfold YtpkobkdgcanmjaaGreat.ext;rw[if_neg hn]
theorem Nz.ext {base c:Nat}{h o:Nat->aa}{v:V}{o1:Nat->aa}{nx sK:Nat}{K:V->(Nat->aa)->Nat->Prop}(hK:Nz base h v o nx K)(hb:base<=c)(hn:nx<=sK)(hc:nx<=c)(ho:∀id,base<=id->id<nx->o1 id=o id):Nz c (YtpkobkdgcanmjaaGreat.ext base h o1) v o1 sK K:=by
 intro o' nx' h1 h2 h3
 refine hK o' nx' (by omega) ⟨h2.eH,Nat.le_trans hb h2.le,fun id ah=> ?_⟩ fun id h4 h5=> ?_
 ·rw[h2.eq id (by omega)];unfold YtpkobkdgcanmjaaGreat.ext;rw[if_pos ah]
 ·rw[h2.eq id (by omega), <- ho id h4 h5];unfold YtpkobkdgcanmjaaGreat.ext;rw[if_neg (by omega)]
def cd{α σ:Type}(step:σ->α->σ×Bool)(s:σ):List α->σ×Bool
 |[]=>(s,true)
 |x::l=>if(step s x).2=true then cd step (step s x).1 l else((step s x).1,false)
theorem od{α:Type}(f:Nat->α)(i:Nat)(x y:α):aQ (aQ f i x) i y=aQ f i y:=by
 funext j;simp only[aQ];split<;>rfl
attribute [go_sem] Int.cast_ofNat_Int
section
variable {P:Program}{n:Nat}{ps:List Nat}{x y:IC}{env:List V}{L:LoopState->Option lz->aa}
def sy(P:Program)(n:Nat)(env:List V)(ps:List Nat)(x y:IC)(L:LoopState->Option lz->aa):Prop:=∀st pd,L st pd= .loop P.funcs.size n env ps x y st pd
theorem sy.no (hL:sy P n env ps x y L)(st:LoopState)(pd:Option lz):L st pd≠ .no:=by rw[hL];exact aa.noConfusion
theorem sy.refs (hL:sy P n env ps x y L)(st:LoopState)(pd:Option lz):(L st pd).refs=V.aw env:=by rw[hL];rfl
end
theorem ft.gen {P:Program}{g:FuncId}{args:List V}{o:Nat->aa}{nx:Nat}{K X:V->(Nat->aa)->Nat->Prop}(h:∀O,O=o->ft P g args O nx K X):ft P g args o nx K X:=h o rfl
end Go.Proofs.YtpkobkdgcanmjaaGreat
namespace Go.Proofs.YtpkobkdgcanmjaaGreat
attribute [go_sem_proc] Int.reduceBEq Int.reduceBNe Int.reduceLT Int.reduceLE Int.reduceEq Int.reduceNe Nat.reducePow Nat.reduceEqDiff Nat.reduceAdd Nat.reduceSub Nat.reduceMul Nat.reduceLeDiff Nat.reduceBEq Nat.reduceLT reduceIte reduceCtorEq Int.reduceToNat
attribute [go_sem] List.range_zero Option.isSome_some and_self List.cons.injEq
theorem Fj(n low high:Int):bJ Tryz.prog 45 [.i n, .i low, .i high] (.ret [.bool (iI n low high)]):=by
 refine bJ.bg mix IW (by simp) ?_
 rw[PG]
 simp+contextual only[go_sem]
 rfl
theorem Ay{t:Tm}{left depth:Int}(h:left<1\/depth<1):eS t left depth= -1:=by cases t;simp[eS,h]
theorem lr{l:List Tm}{left depth:Int}(h:left<0):bP l left depth=left:=by
 cases l with
 |nil=>rfl
 |cons k l=>simp[bP,show ¬ (0<=left) by omega]
theorem Az:∀t:Tm,∀left depth:Int, -1<=eS t left depth/\(1<=left->eS t left depth<=left - 1)/\(left<1->eS t left depth= -1):=by
 refine Tm.ind fun op n kids ih left depth=> ?_
 have hs:∀ (l:List Tm) (left d:Int),(∀k∈l,k∈kids)-> -1<=left-> -1<=bP l left d/\bP l left d<=left:=by
  intro l
  induction l with
  |nil=>intro left d _ h;simp[bP,h]
  |cons k l yo=>
   intro left d hk h
   simp only[bP]
   split
   ·rename_i h0
    have h1:=ih k (hk k (by simp)) left d
    have h2:=yo (eS k left d) d (fun x hx=>hk x (by simp[hx])) h1.1
    by_cases hl:1<=left
    ·have:=h1.2.1 hl;omega
    ·have:=h1.2.2 (by omega);omega
   ·omega
 simp only[eS]
 split
 ·rename_i h;refine⟨by omega,fun h1=> ?_,fun _=>rfl⟩;omega
 ·rename_i h
  have:=hs kids (left - 1) (depth - 1) (fun _ h=>h) (by omega)
  exact⟨this.1,fun _=>this.2,fun h=>by omega⟩
theorem yp(l:List Tm)(left d:Int)(h: -1<=left): -1<=bP l left d/\bP l left d<=left:=by
 induction l generalizing left with
 |nil=>simp[bP,h]
 |cons k l yo=>
  simp only[bP]
  split
  ·have h1:=Az k left d
   have h2:=yo (eS k left d) h1.1
   by_cases hl:1<=left
   ·have:=h1.2.1 hl;omega
   ·have:=h1.2.2 (by omega);omega
  ·omega
theorem kP(a b:List Tm)(left d:Int):bP (a++b) left d=bP b (bP a left d) d:=by
 induction a generalizing left with
 |nil=>rfl
 |cons k a ih=>
  simp only[List.cons_append,bP]
  split
  ·exact ih _
  ·rename_i h;rw[lr (by omega)]
theorem uB{l:List Tm}{i:Nat}{k:Tm}(hi:l[i]? =some k)(left d:Int)(h:0<=bP (l.take i) left d):bP (l.take (i+1)) left d=eS k (bP (l.take i) left d) d:=by
 rw[List.take_add_one,hi,kP]
 simp[bP,h]
theorem uC{l:List Tm}{i:Nat}(left d:Int)(h:bP (l.take i) left d<0):bP l left d=bP (l.take i) left d:=by
 conv=>lhs;rw[<- List.take_append_drop i l]
 rw[kP,lr h]
@[reducible] def pM (cs:List V):Nat->aa:=aQ (fun _=> .no) 0 (.row cs)
@[reducible] def sA (cs ds:List V):Nat->aa:=aQ (aQ (fun _=> .no) 0 (.row cs)) 1 (.row ds)
theorem cW{cs:List V}(h:(aa.row cs).refs.all (fun r=>decide (r<1))=true):Good (pM cs) 1:=(Good.nil (nx:=1)).aQ (by omega) h
theorem eD{cs ds:List V}(h:(aa.row cs).refs.all (fun r=>decide (r<2))=true)(h2:(aa.row ds).refs.all (fun r=>decide (r<2))=true):Good (sA cs ds) 2:=((Good.nil (nx:=2)).aQ (by omega) h).aQ (by omega) h2
theorem cR.d1 {e:Nat->V}{so o:Nat->aa}{m:Nat}(l:List V)(hg:Good o 1)(hm:1<=m)(h0:so 0=o 0)(he:iD 1 e l 0):cR 0 ⟨e,so,m⟩ ⟨bD l,o,1⟩:=
 cR.fE l (Nat.zero_le _) hm hg (fun id h=>by obtain rfl:id=0:=by omega
                                             exact h0) he
theorem cR.d2 {e:Nat->V}{so o:Nat->aa}{m:Nat}(l:List V)(hg:Good o 2)(hm:2<=m)(h0:so 0=o 0)(h1:so 1=o 1)(he:iD 2 e l 0):cR 0 ⟨e,so,m⟩ ⟨bD l,o,2⟩:=
 cR.fE l (Nat.zero_le _) hm hg (fun id h=>by
  rcases(by omega:id=0\/id=1)with rfl|rfl
  ·exact h0
  ·exact h1) he
@[reducible] def Tm.row (t:Tm):List V:=[.d (.i t.op), .d (.i t.n), .d (.sl (t.kids.map Tm.d))]
theorem uD(t:Tm)(left depth:Int):eS t left depth=if left<1\/depth<1 then -1 else bP t.kids (left - 1) (depth - 1):=by cases t;simp[eS,Tm.kids]
theorem xc:∀t:Tm,t.fits->∀left depth:Int, -1<=left/\left<=1000000-> -1<=depth/\depth<=1000000->bJ Tryz.prog 35 [t.d, .i left, .i depth] (.ret [.i (eS t left depth)]):=by
 refine Tm.ja fun t ih hf left depth hl hd=> ?_
 have th:=(Tm.bF _).1 hf
 refine bJ.bg mix IL (by simp) ?_
 rw[Pw]
 simp+contextual only[go_sem]
 refine aH (fun h1=> ?_) (fun h1=> ?_)
 ·simp+contextual only[go_sem]
  simp at h1
  rw[Ay h1]
 ·simp at h1
  simp+contextual only[go_sem]
  rw[wrap64 (n:=left - 1) (by omega) (by omega),uD,if_neg (by omega)]
  refine bN (fun k:Nat=>⟨bD [.ak, .d (.i (bP (t.kids.take k) (left - 1) (depth - 1))), .d (.i depth), .ptr 0 0, .ak, .ak, .ak, .d (.i k)],pM t.row,1⟩)
   (fun k=>k<=t.kids.length) (fun k=>t.kids.length - k) 0 (Nat.zero_le _) (cR.d1 _ (cW rfl) (by omega) rfl ?_) (fun k hk=> ?_)
  ·(repeat(first|exact aL|refine aK ?_|refine az rfl ?_|refine az (bT (bS (by omega))) ?_|refine aY rfl (by simp[V.refs,V.aw]<;>first|omega|assumption) ?_))
  have hb:=yp (t.kids.take k) (left - 1) (depth - 1) (by omega)
  simp+contextual only[go_sem]
  refine aH (fun h2=> ?_) (fun h2=> ?_)
  ·simp at h2
   obtain⟨x,hx⟩:∃x,t.kids[k]? =some x:=⟨t.kids[k],by simp[h2.1]⟩
   have jk:=List.mem_of_getElem? hx
   simp+contextual only[go_sem,hx]
   rw[wrap64 (n:=depth - 1) (by omega) (by omega)]
   refine ae (ih x jk (th.2 x jk) _ _ (by omega) (by omega)) rfl ?_
   simp+contextual only[go_sem]
   rw[<- uB hx _ _ h2.2]
   refine aW (k+1) h2.1 (by omega) (cR.d1 _ (cW rfl) (by omega) rfl ?_)
   (repeat(first|exact aL|refine aK ?_|refine az rfl ?_|refine az (bT (bS (by omega))) ?_|refine aY rfl (by simp[V.refs,V.aw]<;>first|omega|assumption) ?_))
  ·simp+contextual only[go_sem]
   simp only[Bool.and_eq_false_iff,decide_eq_false_iff_not]at h2
   congr 3
   rcases h2 with h2|h2
   ·rw[List.take_of_length_le (by omega)]
   ·exact uC _ _ (by omega)
theorem Fk(s:List UInt8)(hs:s.length<=9223372036854775807):bJ Tryz.prog 71 [.str s] (.ret [.bool (gv s)]):=by
 refine bJ.bg mix Ja (by simp) ?_
 rw[P6]
 simp+contextual only[go_sem]
 refine bN (fun k:Nat=>⟨bD [.d (.str s), .ak, .ak, .d (.i k)],fun _=> .no,0⟩)
  (fun k=>k<=s.length/\(s.take k).all letterF=true) (fun k=>s.length - k) 0 ⟨Nat.zero_le _,by simp⟩ (cR.d0 _ ?_) (fun k hk=> ?_)
 ·(repeat(first|exact aL|refine aK ?_|refine az rfl ?_|refine az (bT (bS (by omega))) ?_|refine aY rfl (by simp[V.refs,V.aw]<;>first|omega|assumption) ?_))
 simp+contextual only[go_sem]
 refine aH (fun h2=> ?_) (fun h2=> ?_)
 ·simp at h2
  obtain⟨x,hx⟩:∃x,s[k]? =some x:=⟨s[k],by simp[h2]⟩
  simp+contextual only[go_sem,hx]
  refine aH (fun h3=> ?_) (fun h3=> ?_)
  ·simp+contextual only[go_sem]
   have:gv s=false:=by
    have:s.all letterF=false:=by
     rw[List.all_eq_false]
     refine⟨x,List.mem_of_getElem? hx, ?_⟩
     simp only[letterF,h3];simp
    simp[gv,this]
   rw[this]
  ·simp+contextual only[go_sem]
   refine aW (k+1) ⟨h2, ?_⟩ (by omega) (cR.d0 _ ?_)
   ·rw[List.take_add_one,hx,List.all_append,hk.2]
    simp[letterF,h3]
   ·(repeat(first|exact aL|refine aK ?_|refine az rfl ?_|refine az (bT (bS (by omega))) ?_|refine aY rfl (by simp[V.refs,V.aw]<;>first|omega|assumption) ?_))
 ·simp+contextual only[go_sem]
  refine ae (Fj _ _ _) rfl ?_
  simp+contextual only[go_sem]
  simp at h2
  have:=hk.2
  rw[List.take_of_length_le (by omega)]at this
  simp[gv,this]
theorem xd(l:List lD)(bs:List (List UInt8))(hl:l.length<=1000)(hb:bs.length<=1000)(hs:∀x∈l,x.name.length<=9223372036854775807):
 bJ Tryz.prog 46 [.sl (l.map lD.d), .sl (bs.map .str)] (.ret [.sl (((bO l bs).getD []).map .str), .bool (bO l bs).isSome]):=by
 refine bJ.bg mix IX (by simp) ?_
 rw[PH]
 simp+contextual only[go_sem]
 refine bN (fun k:Nat=>⟨bD [.d (.sl (l.map lD.d)), .d (.sl ((bs++(l.take k).map (·.name)).map .str)), .ak, .ak, .ak, .ak, .d (.i k)],fun _=> .no,0⟩)
  (fun k=>k<=l.length/\bO l bs=bO (l.drop k) (bs++(l.take k).map (·.name))) (fun k=>l.length - k) 0 ⟨Nat.zero_le _,by simp⟩ (cR.d0 _ ?_) (fun k hk=> ?_)
 ·simp only[List.take_zero,List.map_nil,List.append_nil]
  (repeat(first|exact aL|refine aK ?_|refine az rfl ?_|refine az (bT (bS (by omega))) ?_|refine aY rfl (by simp[V.refs,V.aw]<;>first|omega|assumption) ?_))
 simp+contextual only[go_sem]
 refine aH (fun h2=> ?_) (fun h2=> ?_)
 ·simp at h2
  obtain⟨x,hx⟩:∃x,l[k]? =some x:=⟨l[k],by simp[h2]⟩
  have jk:=List.mem_of_getElem? hx
  have tV:l.drop k=x::l.drop (k+1):=by
   rw[List.drop_eq_getElem_cons h2]
   rw[List.getElem?_eq_getElem h2]at hx;injection hx with hx;rw[hx]
  generalize hB:bs++(l.take k).map (·.name)=B at*
  have TZ:B.length<=2000:=by rw[<- hB];simp;omega
  simp+contextual only[go_sem]
  refine bN (fun j:Nat=>⟨bD [.d (.sl (l.map lD.d)), .d (.sl (B.map .str)), .ak, .ak, .ak, .ak, .d (.i k), .d (.i j)],fun _=> .no,0⟩)
   (fun j=>j<=B.length/\(B.take j).any (· ==x.name)=false) (fun j=>B.length - j) 0 ⟨Nat.zero_le _,by simp⟩ (cR.d0 _ ?_) (fun j hj=> ?_)
  ·(repeat(first|exact aL|refine aK ?_|refine az rfl ?_|refine az (bT (bS (by omega))) ?_|refine aY rfl (by simp[V.refs,V.aw]<;>first|omega|assumption) ?_))
  simp+contextual only[go_sem]
  refine aH (fun h3=> ?_) (fun h3=> ?_)
  ·simp at h3
   obtain⟨y,hy⟩:∃y,B[j]? =some y:=⟨B[j],by simp[h3]⟩
   simp+contextual only[go_sem,hx,hy]
   refine cc (by decide) ?_
   simp+contextual only[go_sem]
   refine aH (fun h4=> ?_) (fun h4=> ?_)
   ·simp+contextual only[go_sem]
    have:bO l bs=none:=by
     rw[hk.2,tV,bO,if_pos]
     rw[List.any_eq_true]
     exact⟨y,List.mem_of_getElem? hy,h4⟩
    rw[this];rfl
   ·simp+contextual only[go_sem]
    refine aW (j+1) ⟨h3, ?_⟩ (by omega) (cR.d0 _ ?_)
    ·rw[List.take_add_one,hy,List.any_append,hj.2]
     simp only[Option.toList_some,List.any_cons,h4,List.any_nil,Bool.or_false]
    ·(repeat(first|exact aL|refine aK ?_|refine az rfl ?_|refine az (bT (bS (by omega))) ?_|refine aY rfl (by simp[V.refs,V.aw]<;>first|omega|assumption) ?_))
  ·simp at h3
   have Fl:=hj.2
   rw[List.take_of_length_le (by omega)]at Fl
   simp+contextual only[go_sem,hx]
   refine ae (Fk x.name (hs x jk)) rfl ?_
   simp+contextual only[go_sem,hx]
   refine pq (nB [.bool (iI x.args 0 4)] ?_ ?_)
   ·simp+contextual only[go_sem]
    exact fun _=>Fj _ _ _
   simp+contextual only[go_sem]
   refine aH (fun h4=> ?_) (fun h4=> ?_)
   ·simp+contextual only[go_sem]
    have:bO l bs=none:=by
     rw[hk.2,tV,bO,if_neg (by rw[Fl];exact Bool.false_ne_true),if_pos h4]
    rw[this];rfl
   ·have e1:B.length<=140737488355328:=by omega
    have e2:B.length*16<=140737488355328:=by omega
    have e3:B.length<=140737488355327:=by omega
    have e4:(B.length+1)*16<=140737488355328:=by omega
    simp+contextual only[go_sem,hx,e1,e2,e3,e4]
    refine cc (by decide) ?_
    simp+contextual only[go_sem]
    have hn:bO l bs=bO (l.drop (k+1)) (bs++(l.take (k+1)).map (·.name)):=by
     rw[hk.2,tV,bO,if_neg (by rw[Fl];exact Bool.false_ne_true),if_neg (by rw[h4];exact Bool.false_ne_true), <- hB,List.take_add_one,hx]
     simp
    refine aW (k+1) ⟨h2,hn⟩ (by omega) (cR.Qy (fun _=>True) 0 _ (Nat.le_refl _) Ty (fun _ _=>rfl) (fun _ _ _=>rfl) ?_)
    have Nc:(bs++(l.take (k+1)).map (·.name)).map D.str=B.map D.str++[D.str x.name]:=by
     rw[<- hB,List.take_add_one,hx];simp
    rw[Nc]
    (repeat(first|exact jV|refine iG ?_|refine g8 rfl ?_|refine g8 (bT (bS (by omega))) ?_|refine pK 0 rfl rfl rfl ?_|refine pJ rfl (by simp[V.refs,V.aw]<;>first|omega|assumption) ?_|refine pL rfl (by simp[V.ids]<;>omega) ?_))
 ·simp+contextual only[go_sem]
  simp at h2
  have:bO l bs=some (bs++l.map (·.name)):=by
   rw[hk.2,List.drop_eq_nil_of_le (by omega),bO,List.take_of_length_le (by omega)]
  rw[this,List.take_of_length_le (by omega)]
  rfl
theorem Fm(a b:List UInt8)(m n:Int):mF Tryz.prog 100 69 (.agg [.str a, .i m]) (.agg [.str b, .i n])=some (a==b&&m==n):=by
 have h1:aV Tryz.prog 69=some (.struct [(9,0),(3,1)]):=by kernel_rfl
 have h2:aV Tryz.prog 9=some .str:=by kernel_rfl
 have h3:aV Tryz.prog 3=some .int:=by kernel_rfl
 have h4:bq Tryz.prog 9=some false:=by kernel_rfl
 have h5:bq Tryz.prog 3=some false:=by kernel_rfl
 simp[mF,h1,h2,h3,h4,h5,sR,DM,fV,yU]
@[go_sem] theorem Qz (o:Nat->aa) (kT:Bool) (a b:List UInt8) (m n:Int):sT Tryz.prog o 69 kT (.d (.agg [.str a, .i m])) (.d (.agg [.str b, .i n]))=some (.d (.bool (a==b&&m==n))):=by
  obtain⟨fs,h⟩:∃fs,Tryz.prog.underlying 69=some (.struct fs):=structOf (by kernel_rfl)
  have h2:Tryz.prog.eqGuardType Tryz.prog.depth 69=false:=by kernel_rfl
  unfold sT
  rw[h]
  dsimp only
  rw[if_pos h2,Fm]
  rfl
theorem yq{l:List lD}{bs B:List (List UInt8)}(h:bO l bs=some B):B=bs++l.map (·.name):=by
 induction l generalizing bs with
 |nil=>simp[bO]at h;simp[h]
 |cons x l ih=>
  simp only[bO]at h
  split at h
  ·cases h
  ·split at h
   ·cases h
   ·rw[ih h];simp
structure bX.Fits (s:bX):Prop where
 lc:s.cons.length<=9223372036854775807
 lf:s.dU.length<=9223372036854775807
 nc:∀x∈s.cons,x.name.length<=9223372036854775807
 nf:∀x∈s.dU,x.name.length<=9223372036854775807
theorem ME(s:bX)(hs:s.Fits):bJ Tryz.prog 12 [s.d] (.ret [.bool (ml s)]):=by
 refine bJ.bg mix IB (by simp) ?_
 rw[O5]
 simp+contextual only[go_sem]
 refine ae (Fj _ _ _) rfl ?_
 simp+contextual only[go_sem]
 cases h1:(!iI s.cons.length 2 12||decide (8<(s.dU.length:Int)))with
 |true=>
  simp+contextual only[go_sem,h1]
  simp only[ml,h1,if_true]
 |false=>
  simp[iI]at h1
  obtain⟨a,b,r,hc⟩:∃a b r,s.cons=a::b::r:=by
   match h:s.cons with
   |[]=>rw[h]at h1;simp at h1
   |[a]=>rw[h]at h1;simp at h1
   |a::b::r=>exact⟨a,b,r,rfl⟩
  have jf:(!iI s.cons.length 2 12||decide (8<(s.dU.length:Int)))=false:=by simp[iI];omega
  simp+contextual only[go_sem,jf,hc]
  have yr:ml s=if(!jm a fB|| !jm b tB)=true then false else match bO s.cons []with
   |none=>false
   |some l=>(bO s.dU l).isSome:=by
   unfold ml
   rw[if_neg (by rw[jf];exact Bool.false_ne_true),hc]
   dsimp only
   rfl
  refine aH (fun h2=> ?_) (fun h2=> ?_)
  ·simp+contextual only[go_sem]
   have tl:(!jm a fB|| !jm b tB)=true:=h2
   rw[yr,if_pos tl]
  ·simp+contextual only[go_sem,hc]
   have hl:(a::b::r).length<=1000:=by rw[<- hc];omega
   have Nb:=xd (a::b::r) [] hl (by simp) (by rw[<- hc];exact hs.nc)
   simp only[List.map_cons,List.map_nil]at Nb
   refine br Nb ?_
   have tl:(!jm a fB|| !jm b tB)=false:=h2
   rw[yr,if_neg (by rw[tl];exact Bool.false_ne_true),hc]
   cases hn:bO (a::b::r) []with
   |none=>simp+contextual only[go_sem,hn]
   |some B=>
    simp+contextual only[go_sem,hn]
    have hB:B.length<=1000:=by
     have:=yq hn
     rw[this];simp at hl|-;omega
    have QA:=xd s.dU B (by omega) hB hs.nf
    refine br QA ?_
    simp+contextual only[go_sem]
end Go.Proofs.YtpkobkdgcanmjaaGreat
namespace Go.Proofs.YtpkobkdgcanmjaaGreat
theorem je{l:List lD}{n:Int}{x:lD}(h:l[n.toNat]? =some x):jP l n=x.args:=by simp[jP,h]
theorem oe{l:List lD}{n:Int}(h:iI n 0 (l.length - 1)=true):0<=n/\∃x,l[n.toNat]? =some x:=by
 simp[iI]at h
 exact⟨h.1,l[n.toNat]'(by omega),by simp⟩
theorem iH{α:Type}{l:List α}{p:α->Bool}{k:Nat}{x:α}(hx:l[k]? =some x)(h:p x=false):l.all p=false:=by
 rw[List.all_eq_false];exact⟨x,List.mem_of_getElem? hx,by rw[h];exact Bool.false_ne_true⟩
theorem jY{α:Type}{l:List α}{p:α->Bool}{k:Nat}{x:α}(hx:l[k]? =some x)(h0:(l.take k).all p=true)(h:p x=true):(l.take (k+1)).all p=true:=by
 rw[List.take_add_one,hx,List.all_append,h0];simp[h]
theorem jZ{α:Type}{l:List α}{p:α->Bool}{k:Nat}(h0:(l.take k).all p=true)(h:l.length<=k):l.all p=true:=by
 rwa [List.take_of_length_le h]at h0
theorem bt{α:Type}{l:List α}{k:Nat}(h:k<l.length):∃x,l[k]? =some x:=⟨l[k],by simp[h]⟩
@[reducible] def bX.row (s:bX):List V:=[.d (.sl (s.cons.map lD.d)), .d (.sl (s.dU.map lD.d))]
theorem kp:∀l l':List Tm,l.length=l'.length->(jb l l'=true↔∀ (i:Nat) (x y:Tm),l[i]? =some x->l'[i]? =some y->mm x y=true)
 |[],l',_=>by simp[jb]
 |k::l,k'::l',h=>by
  simp only[jb,Bool.and_eq_true]
  rw[kp l l' (by simpa using h)]
  constructor
  ·rintro⟨h1,h2⟩ i x y hx hy
   cases i with
   |zero=>simp at hx hy;subst hx;subst hy;exact h1
   |succ i=>exact h2 i x y (by simpa using hx) (by simpa using hy)
  ·intro h3
   exact⟨h3 0 k k' rfl rfl,fun i x y hx hy=>h3 (i+1) x y (by simpa using hx) (by simpa using hy)⟩
 |_::_,[],h=>by simp at h
theorem uE(a b:Tm):mm a b=(a.op==b.op&&a.n==b.n&&a.kids.length==b.kids.length&&jb a.kids b.kids):=by cases a;cases b;simp[mm,Tm.op,Tm.n,Tm.kids]
theorem AA:∀a:Tm,a.fits->∀b:Tm,b.fits->bJ Tryz.prog 19 [a.d,b.d] (.ret [.bool (mm a b)]):=by
 refine Tm.ja fun t ih hf b hb=> ?_
 have th:=(Tm.bF _).1 hf
 have sW:=(Tm.bF _).1 hb
 refine bJ.bg mix IK (by simp) ?_
 rw[Pc,uE]
 simp+contextual only[go_sem]
 refine aH (fun h1=> ?_) (fun h1=> ?_)
 ·simp+contextual only[go_sem]
  have:(t.op==b.op&&t.n==b.n&&t.kids.length==b.kids.length)=false:=by
   rw[Bool.eq_false_iff]
   intro h
   simp at h
   simp[h]at h1
  rw[this];rfl
 ·have jf:t.op=b.op/\t.n=b.n/\t.kids.length=b.kids.length:=by
   simp at h1
   refine⟨h1.1.1,h1.1.2,by have:=h1.2;omega⟩
  rw[show(t.op==b.op&&t.n==b.n&&t.kids.length==b.kids.length)=true by simp[jf],Bool.true_and]
  have hl:=jf.2.2
  simp+contextual only[go_sem]
  refine bN (fun k:Nat=>⟨bD [.ak, .ak, .ptr 0 0, .ptr 1 0, .ak, .d (.i k)],sA t.row b.row,2⟩)
   (fun k=>k<=t.kids.length/\∀i,i<k->∀x y,t.kids[i]? =some x->b.kids[i]? =some y->mm x y=true) (fun k=>t.kids.length - k) 0 ⟨Nat.zero_le _,fun i h=>by omega⟩ (cR.d2 _ (eD rfl rfl) (by omega) rfl rfl ?_) (fun k hk=> ?_)
  ·(repeat(first|exact aL|refine aK ?_|refine az rfl ?_|refine az (bT (bS (by omega))) ?_|refine aY rfl (by simp[V.refs,V.aw]<;>first|omega|assumption) ?_))
  simp+contextual only[go_sem]
  refine aH (fun h2=> ?_) (fun h2=> ?_)
  ·simp at h2
   obtain⟨x,hx⟩:=bt h2
   obtain⟨y,hy⟩:=bt (l:=b.kids) (k:=k) (by omega)
   have jk:=List.mem_of_getElem? hx
   have Ce:=List.mem_of_getElem? hy
   simp+contextual only[go_sem,hx,hy]
   refine ej (ih x jk (th.2 x jk) y (sW.2 y Ce)) rfl ?_
   simp+contextual only[go_sem]
   refine cc (by decide) ?_
   simp+contextual only[go_sem]
   refine aH (fun h3=> ?_) (fun h3=> ?_)
   ·simp+contextual only[go_sem]
    simp at h3
    have:jb t.kids b.kids=false:=by
     rw[Bool.eq_false_iff]
     intro h
     have:=(kp _ _ hl).1 h k x y hx hy
     rw[h3]at this;cases this
    rw[this]
   ·simp+contextual only[go_sem]
    simp at h3
    refine aW (k+1) ⟨h2,fun i hi u v hu hv=> ?_⟩ (by omega) (cR.d2 _ (eD rfl rfl) (by omega) rfl rfl ?_)
    ·by_cases e:i=k
     ·subst e
      rw[hx]at hu;rw[hy]at hv
      injection hu with hu;injection hv with hv;subst hu;subst hv;exact h3
     ·exact hk.2 i (by omega) u v hu hv
    ·(repeat(first|exact aL|refine aK ?_|refine az rfl ?_|refine az (bT (bS (by omega))) ?_|refine aY rfl (by simp[V.refs,V.aw]<;>first|omega|assumption) ?_))
  ·simp+contextual only[go_sem]
   simp at h2
   have:jb t.kids b.kids=true:=(kp _ _ hl).2 fun i x y hx hy=>hk.2 i (by have:=(List.getElem?_eq_some_iff.1 hx).1;omega) x y hx hy
   rw[this]
theorem vX(s:bX)(hs:s.Fits):bJ Tryz.prog 6 [s.d] (.ret [.bool (iE s)]):=by
 refine bJ.bg mix Rm (by simp) ?_
 rw[c6]
 simp+contextual only[go_sem]
 refine aH (fun h1=> ?_) (fun h1=> ?_)
 ·simp+contextual only[go_sem]
  simp only[iE,h1];rfl
 ·have e:iE s=(ee s.cons&&ee s.dU):=by simp only[iE,h1];rfl
  rw[e]
  simp at h1
  simp+contextual only[go_sem]
  refine bN (fun k:Nat=>⟨bD [.ak, .ptr 0 0, .ak, .d (.i k)],pM s.row,1⟩)
   (fun k=>k<=s.cons.length/\ee (s.cons.take k)=true) (fun k=>s.cons.length - k) 0 ⟨Nat.zero_le _,by simp[ee]⟩ (cR.d1 _ (cW rfl) (by omega) rfl ?_) (fun k hk=> ?_)
  ·(repeat(first|exact aL|refine aK ?_|refine az rfl ?_|refine az (bT (bS (by omega))) ?_|refine aY rfl (by simp[V.refs,V.aw]<;>first|omega|assumption) ?_))
  simp+contextual only[go_sem]
  refine aH (fun h2=> ?_) (fun h2=> ?_)
  ·simp at h2
   obtain⟨x,hx⟩:=bt h2
   simp+contextual only[go_sem,hx]
   refine aH (fun h3=> ?_) (fun h3=> ?_)
   ·simp+contextual only[go_sem]
    rw[show ee s.cons=false from iH hx (by simpa using h3)];rfl
   ·simp+contextual only[go_sem]
    refine aW (k+1) ⟨h2,jY hx hk.2 (by simpa using h3)⟩ (by omega) (cR.d1 _ (cW rfl) (by omega) rfl ?_)
    (repeat(first|exact aL|refine aK ?_|refine az rfl ?_|refine az (bT (bS (by omega))) ?_|refine aY rfl (by simp[V.refs,V.aw]<;>first|omega|assumption) ?_))
  ·simp at h2
   rw[show ee s.cons=true from jZ hk.2 h2,Bool.true_and]
   simp+contextual only[go_sem]
   refine bN (fun k:Nat=>⟨bD [.ak, .ptr 0 0, .ak, .ak, .d (.i k)],pM s.row,1⟩)
    (fun k=>k<=s.dU.length/\ee (s.dU.take k)=true) (fun k=>s.dU.length - k) 0 ⟨Nat.zero_le _,by simp[ee]⟩ (cR.d1 _ (cW rfl) (by omega) rfl ?_) (fun k hk=> ?_)
   ·(repeat(first|exact aL|refine aK ?_|refine az rfl ?_|refine az (bT (bS (by omega))) ?_|refine aY rfl (by simp[V.refs,V.aw]<;>first|omega|assumption) ?_))
   simp+contextual only[go_sem]
   refine aH (fun h4=> ?_) (fun h4=> ?_)
   ·simp at h4
    obtain⟨x,hx⟩:=bt h4
    simp+contextual only[go_sem,hx]
    refine aH (fun h3=> ?_) (fun h3=> ?_)
    ·simp+contextual only[go_sem]
     rw[show ee s.dU=false from iH hx (by simpa using h3)]
    ·simp+contextual only[go_sem]
     refine aW (k+1) ⟨h4,jY hx hk.2 (by simpa using h3)⟩ (by omega) (cR.d1 _ (cW rfl) (by omega) rfl ?_)
     (repeat(first|exact aL|refine aK ?_|refine az rfl ?_|refine az (bT (bS (by omega))) ?_|refine aY rfl (by simp[V.refs,V.aw]<;>first|omega|assumption) ?_))
   ·simp at h4
    rw[show ee s.dU=true from jZ hk.2 h4]
    simp+contextual only[go_sem]
end Go.Proofs.YtpkobkdgcanmjaaGreat
namespace Go.Proofs.YtpkobkdgcanmjaaGreat
section
variable {σ:Type}(base T0:Nat)(H:σ->Nat->aa)(step:σ->Tm×Int->σ×Bool)(ok:σ->Prop)
end
end Go.Proofs.YtpkobkdgcanmjaaGreat
namespace Go.Proofs.YtpkobkdgcanmjaaGreat
end Go.Proofs.YtpkobkdgcanmjaaGreat
namespace Go.Proofs.YtpkobkdgcanmjaaGreat
theorem pN(n low high:Int):bJ Tryz.prog 89 [.i n, .i low, .i high] (.ret [.bool (iI n low high)]):=by
 refine bJ.bg mix Je (by simp) ?_
 rw[Qm]
 simp+contextual only[go_sem]
 rfl
theorem funcOf{P:Program}{t:TypeId}(h:(match P.underlying t with|some (.func _ _ _)=>true|_=>false)=true):∃a b c,P.underlying t=some (.func a b c):=by
 split at h
 ·exact⟨_,_,_,by assumption⟩
 ·cases h
@[go_sem] theorem QB (o:Nat->aa) (kT:Bool):sT Tryz.prog o 152 kT (.d .aF) (.d .aF)=some (.d (.bool true)):=by
  obtain⟨a,b,c,h⟩:=funcOf (P:=Tryz.prog) (t:=152) (by kernel_rfl)
  unfold sT;rw[h]
@[go_sem] theorem QC (o:Nat->aa) (kT:Bool) (f:Fn) (x y:List V):sT Tryz.prog o 152 kT (.func f x y) (.d .aF)=some (.d (.bool false)):=by
  obtain⟨a,b,c,h⟩:=funcOf (P:=Tryz.prog) (t:=152) (by kernel_rfl)
  unfold sT;rw[h]
end Go.Proofs.YtpkobkdgcanmjaaGreat
namespace Go.Proofs.YtpkobkdgcanmjaaGreat
end Go.Proofs.YtpkobkdgcanmjaaGreat
namespace Go.Proofs.YtpkobkdgcanmjaaGreat
def enc{κ:Type}(kf:κ->D)(m:List (κ×D)):List (D×D):=m.map fun p=>(kf p.1,p.2)
def m8{κ:Type}[BEq κ](k:κ):List (κ×D)->Nat->Option (Nat×D)
 |[],_=>none
 |p::m,i=>if(k==p.1)=true then some (i,p.2)else m8 k m (i+1)
def yu(d:D)(r:Option (Nat×D)):Option (Nat×D×D):=match r with|some (i,x)=>some (i,d,x)|none=>none
@[go_sem] theorem Gu (d:D) (i:Nat) (x:D):yu d (some (i,x))=some (i,d,x):=rfl
@[go_sem] theorem Gv (d:D):yu d none=none:=rfl
section
variable {P:Program}{kt:TypeId}
theorem Cf(h:aV P kt=some .int)(a b:Int):mF P 100 kt (.int .i64 a) (.int .i64 b)=some (a==b):=by simp[mF,h]
theorem Cg(h:aV P kt=some .str)(a b:List UInt8):mF P 100 kt (.str a) (.str b)=some (a==b):=by simp[mF,h]
@[go_sem] theorem NA (h:aV P kt=some .int) (a:Int):kC P 100 kt (.int .i64 a)=true:=by simp[kC,h]
@[go_sem] theorem NB (h:aV P kt=some .str) (a:List UInt8):kC P 100 kt (.str a)=true:=by simp[kC,h]
theorem pO{κ:Type}[BEq κ][LawfulBEq κ](kf:κ->D)(he:∀a b,mF P 100 kt (kf a) (kf b)=some (a==b))(k:κ):∀ (m:List (κ×D)) (i:Nat),findD P kt (kf k) (enc kf m) i=some (yu (kf k) (m8 k m i))
 |[],_=>rfl
 |p::m,i=>by
  have ih:=pO kf he k m (i+1)
  simp only[enc,List.map_cons,findD,he,m8]at ih|-
  by_cases h:k=p.1
  ·subst h;simp[yu]
  ·have:(k==p.1)=false:=by simpa using h
   simp only[this,Bool.false_eq_true,if_false];exact ih
@[go_sem] theorem MF (h:aV P kt=some .int) (k:Int) (m:List (Int×D)):findD P kt (.int .i64 k) (enc (.int .i64) m) 0=some (yu (.int .i64 k) (m8 k m 0)):=pO (.int .i64) (Cf h) k m 0
@[go_sem] theorem MG (h:aV P kt=some .str) (k:List UInt8) (m:List (List UInt8×D)):findD P kt (.str k) (enc .str m) 0=some (yu (.str k) (m8 k m 0)):=pO .str (Cg h) k m 0
end
section
variable {κ:Type}(kf:κ->D)
theorem AB(m:List (κ×D))(k:κ)(x:D):enc kf m++[(kf k,x)]=enc kf (m++[(k,x)]):=by simp[enc]
theorem Ch(m:List (κ×D))(i:Nat)(k:κ)(x:D):(enc kf m).set i (kf k,x)=enc kf (m.set i (k,x)):=by simp[enc,List.map_set]
end
theorem uF{κ:Type}[BEq κ][LawfulBEq κ]{k:κ}:∀ {m:List (κ×D)} {i j:Nat} {x:D},m8 k m i=some (j,x)->i<=j/\m[j - i]? =some (k,x)
 |[],_,_,_,h=>by cases h
 |p::m,i,j,x,h=>by
  simp only[m8]at h
  split at h
  ·rename_i hk
   injection h with h;injection h with h1 h2
   subst h1;subst h2
   exact⟨Nat.le_refl _,by simp[(by simpa using hk:k=p.1)]⟩
  ·obtain⟨h1,h2⟩:=uF h
   refine⟨by omega, ?_⟩
   rw[show j - i=(j - (i+1))+1 by omega]
   simpa using h2
theorem qY{κ:Type}[BEq κ][LawfulBEq κ]{k:κ}:∀ {m:List (κ×D)} {i:Nat},m8 k m i=none↔∀p∈m,p.1≠k
 |[],_=>by simp[m8]
 |p::m,i=>by
  simp only[m8]
  split
  ·rename_i hk
   simp[(by simpa using hk:k=p.1)]
  ·rename_i hk
   rw[qY]
   have:p.1≠k:=fun e=>hk (by simp[e])
   simp[this]
def sB(P:Program)(o:Nat->aa)(t:TypeId)(m k v:V):Option eQ:=
 match mQ P t,dn o k,dn o v,lL o m with
 |some (kt,_),some kd,some vd,some (some (id,xr,xu),l)=>if k.ids=[]/\kC P 100 kt kd=true/\gP kd=true/\v.ids.all (· !=id)=true then match findD P kt kd l 0 with
  |some (some (i,k',_))=>if k'.same kd=true then some (.bQ [],cn o v.ids++[(id, .map xr xu (l.set i (kd,vd)))],id::v.ids)else none
  |some none=>some (.bQ [],cn o v.ids++[(id, .map xr xu (l++[(kd,vd)]))],id::v.ids)
  |none=>none
  else none
 |_,_,_,_=>none
@[go_sem low] theorem Gw (P:Program) (o:Nat->aa) (t:TypeId) (m v:V) (k:D):ff P o t m (.d k) v=sB P o t m (.d k) v:=by unfold ff sB;rfl
def AD(P:Program)(o:Nat->aa)(t:TypeId)(m k:V)(ok:Bool):Option eQ:=
 match mQ P t,dn o k,nh o m with
 |some (kt,vt),some kd,some (rd,l)=>if k.ids=[]/\kC P 100 kt kd=true then match findD P kt kd l 0 with
  |some (some (_,_,x))=>some (if ok=true then .bQ [.d x, .d (.bool true)]else .d x,[],rd)
  |some none=>match zeroV P vt with
   |some z=>some (if ok=true then .bQ [z, .d (.bool false)]else z,[],rd)
   |none=>none
  |none=>none
  else none
 |_,_,_=>none
@[go_sem low] theorem Gx (P:Program) (o:Nat->aa) (t:TypeId) (m:V) (k:D) (ok:Bool):iL P o t m (.d k) ok=AD P o t m (.d k) ok:=by unfold iL AD;rfl
attribute [go_sem] AD sB j9 jr js kI kJ jt nh lL NJ lK gP D.same
end Go.Proofs.YtpkobkdgcanmjaaGreat
namespace Go.Proofs.YtpkobkdgcanmjaaGreat
theorem dec_lt{l:List UInt8}{i:Nat}{b:UInt8}(hb:l[i]? =some b)(h:b.toNat<128):Utf8.decode ⟨⟨l⟩⟩ i=(b.toNat,1):=by
 have e:(ByteArray.mk ⟨l⟩).get! i=b:=by
  show(Array.mk l)[i]! =b
  simp[hb]
 simp only[Utf8.decode,Nat.add_zero,e]
 rw[if_pos h]
theorem Fo{l:List UInt8}{i:Nat}{b:UInt8}(hb:l[i]? =some b)(h:128<=b.toNat):128<=(Utf8.decode ⟨⟨l⟩⟩ i).1:=by
 have e:(ByteArray.mk ⟨l⟩).get! i=b:=by
  show(Array.mk l)[i]! =b
  simp[hb]
 simp only[Utf8.decode,Nat.add_zero,e]
 rw[if_neg (by omega)]
 split
 ·split<;>simp_all[Utf8.runeError]
 ·split
  ·split
   ·rename_i h3;simp at h3;omega
   ·simp[Utf8.runeError]
  ·split
   ·split
    ·rename_i h3;simp at h3;omega
    ·simp[Utf8.runeError]
   ·simp[Utf8.runeError]
def Ci(r:Int):Bool:=decide (97<=r)&&decide (r<=122)||decide (65<=r)&&decide (r<=90)
theorem AE(b:UInt8):Ci b.toNat=letterF b:=by
 rw[Bool.eq_iff_iff]
 simp[Ci,letterF]
theorem yw(s:List UInt8)(hs:s.length<=9223372036854775807):bJ Tryz.prog 88 [.str s] (.ret [.bool (gv s)]):=by
 refine bJ.bg mix Jd (by simp) ?_
 rw[Ql]
 simp+contextual (disch:=first|omega|simp only[go_sem,false_implies]) only[go_sem,wrap64,if_pos,Nat.add_assoc,Nat.left_eq_add,Nat.add_eq_left,Nat.add_left_cancel_iff]
 refine bN (fun k:Nat=>⟨bD [.d (.str s), .ak, .ak, .ak, .ak, .ak, .ptr 2 0],aQ (fun _=> .no) 2 (.oq s k),3⟩)
  (fun k=>k<=s.length/\(s.take k).all letterF=true) (fun k=>s.length - k) 0 ⟨Nat.zero_le _,by simp⟩ (cR.fE _ (by omega) (by omega) (Good.nil.aQ (by omega) rfl) (fun _ _=>rfl) ?_) (fun k hk=> ?_)
 ·(repeat(first|exact aL|refine aK ?_|refine az rfl ?_|refine az (bT (bS (by omega))) ?_|refine aY rfl (by simp[V.refs,V.aw]<;>first|omega|assumption) ?_))
 by_cases h2:k<s.length
 ·obtain⟨b,hb⟩:=bt h2
  by_cases h3:b.toNat<128
  ·simp+contextual (disch:=first|omega|simp only[go_sem,false_implies]) only[go_sem,wrap64,if_pos,Nat.add_assoc,Nat.left_eq_add,Nat.add_eq_left,Nat.add_left_cancel_iff,h2,dec_lt hb h3]
   have hr:=AE b
   simp only[Ci]at hr
   rw[hr]
   cases hl:letterF b with
   |true=>
    simp+contextual (disch:=first|omega|simp only[go_sem,false_implies]) only[go_sem,wrap64,if_pos,and_self]
    refine aW (k+1) ⟨h2,jY hb hk.2 hl⟩ (by omega) (cR.fE _ (by omega) (by omega) (Good.nil.aQ (by omega) rfl) (fun _ _=>by rw[od]) ?_)
    (repeat(first|exact aL|refine aK ?_|refine az rfl ?_|refine az (bT (bS (by omega))) ?_|refine aY rfl (by simp[V.refs,V.aw]<;>first|omega|assumption) ?_))
   |false=>
    simp+contextual (disch:=first|omega|simp only[go_sem,false_implies]) only[go_sem,wrap64,if_pos,and_self]
    simp[gv,iH hb hl]
  ·have hr:letterF b=false:=by
    rw[<- AE];simp[Ci];omega
   have hd:=Fo hb (by omega)
   simp+contextual (disch:=first|omega|simp only[go_sem,false_implies]) only[go_sem,wrap64,if_pos,Nat.add_assoc,Nat.left_eq_add,Nat.add_eq_left,Nat.add_left_cancel_iff,h2]
   have:(decide (97<=((Utf8.decode ⟨⟨s⟩⟩ k).1:Int))&&decide (((Utf8.decode ⟨⟨s⟩⟩ k).1:Int)<=122)||decide (65<=((Utf8.decode ⟨⟨s⟩⟩ k).1:Int))&&decide (((Utf8.decode ⟨⟨s⟩⟩ k).1:Int)<=90))=false:=by
    rw[Bool.eq_false_iff];intro h;simp at h;omega
   rw[this]
   simp+contextual (disch:=first|omega|simp only[go_sem,false_implies]) only[go_sem,wrap64,if_pos,and_self]
   simp[gv,iH hb hr]
 ·simp+contextual (disch:=first|omega|simp only[go_sem,false_implies]) only[go_sem,wrap64,if_pos,Nat.add_assoc,Nat.left_eq_add,Nat.add_eq_left,Nat.add_left_cancel_iff,h2]
  refine ae (pN _ _ _) rfl ?_
  simp+contextual (disch:=first|omega|simp only[go_sem,false_implies]) only[go_sem,wrap64,if_pos,and_self]
  rw[gv,jZ hk.2 (by omega),Bool.true_and]
theorem uG{σ:Type}(l:List lD)(hl:l.length<=9223372036854775807)(g:Nat)(cj:List V)(base:Nat)(H:σ->Nat->aa)(step:σ->lD->σ×Bool)(hc:∀r∈V.aw cj,r<base)(ok:σ->Prop)(ba:∀x∈l,∀s,ok s->(step s x).2=true->ok (step s x).1)
 (h:∀x∈l,∀s,ok s->sM Tryz.prog g (.d x.d::cj) base (H s) (H (step s x).1) (.d (.bool (step s x).2))) (s:σ) (rJ:ok s):
 sM Tryz.prog 90 [.d (.sl (l.map lD.d)), .func (.func g) [] cj] base (H s) (H (cd step s l).1) (.d (.bool (cd step s l).2)):=by
 intro o nx hI K X hK
 have rp:∀r∈V.aw cj,r<nx:=fun r hr=>Nat.lt_of_lt_of_le (hc r hr) hI.le
 refine ft.bg mix Jf (by simp) ?_
 rw[Qn]
 simp+contextual only[go_sem]
 refine bN (fun i:Nat×σ×(Nat->aa)×Nat=>⟨bD [.ak, .func (.func g) [] cj, .ak, .ak, .ak, .ak, .ak, .d (.sl (l.map lD.d)), .d (.i l.length), .d (.i i.1)],i.2.2.1,i.2.2.2⟩)
  (fun i=>i.1<=l.length/\jX base (H i.2.1) i.2.2.1 i.2.2.2/\nx<=i.2.2.2/\(∀id,base<=id->id<nx->i.2.2.1 id=o id)/\cd step s l=cd step i.2.1 (l.drop i.1)/\ok i.2.1) (fun i=>l.length - i.1) (0,s,o,nx)
  ⟨Nat.zero_le _,hI,Nat.le_refl _,fun _ _ _=>rfl,rfl,rJ⟩ ?_ ?_
 ·dsimp only
  refine cR.fE _ (Nat.le_refl _) (by omega) hI.eH (fun _ _=>rfl) ?_
  (repeat(first|exact aL|refine aK ?_|refine az rfl ?_|refine az (bT (bS (by omega))) ?_|refine aY rfl (by simp[V.refs,V.aw]<;>first|omega|assumption) ?_))
 rintro⟨k,s',o',nx'⟩ ⟨hk,DE,hn,c0,hf,vY⟩
 simp only at hk DE hn c0 hf vY
 simp+contextual only[go_sem]
 refine aH (fun h1=> ?_) (fun h1=> ?_)
 ·simp at h1
  obtain⟨x,hx⟩:=bt h1
  have jk:=List.mem_of_getElem? hx
  have hd:l.drop k=x::l.drop (k+1):=by
   rw[List.drop_eq_getElem_cons h1]
   rw[List.getElem?_eq_getElem h1]at hx;injection hx with hx;rw[hx]
  simp+contextual only[go_sem,hx,Nat.add_assoc,Nat.left_eq_add,Nat.add_eq_left,Nat.add_left_cancel_iff]
  have Q3:=DE.le
  refine jM (h x jk s' vY _ _ (?_:jX base (H s') _ (nx'+7)) _ _ fun o2 n2 m1 m2 m3=> ?_)
  ·exact(DE.aQ (i:=nx'+3) (m:=nx'+7) (by omega) (by omega) (by omega) rfl).aQ (by omega) (by omega) (by omega) rfl
  have MH:∀id,base<=id->id<nx->o2 id=o id:=fun id h2 h3=>by
   rw[m3 id h2 (by omega),ay _ _ _ _ (by omega),ay _ _ _ _ (by omega),c0 id h2 h3]
  simp+contextual only[go_sem]
  refine aH (fun h2=> ?_) (fun h2=> ?_)
  ·simp+contextual only[go_sem]
   simp at h2
   have:cd step s l=((step s' x).1,false):=by rw[hf,hd,cd,if_neg (by rw[h2];exact Bool.false_ne_true)]
   rw[this]at hK
   exact hK _ _ (by omega) (m2.mono (by omega)) MH
  ·simp+contextual only[go_sem]
   simp at h2
   have:cd step s l=cd step (step s' x).1 (l.drop (k+1)):=by rw[hf,hd,cd,if_pos h2]
   refine aW (k+1,(step s' x).1,o2,n2) ⟨h1,m2,by dsimp only;omega,MH,this,ba x jk s' vY h2⟩ (by dsimp only;omega) ?_
   dsimp only
   have MI:∀r∈V.aw cj,r<n2:=fun r hr=>by have:=rp r hr;omega
   refine cR.fE _ (by omega) (by omega) m2.eH (fun _ _=>rfl) ?_
   (repeat(first|exact aL|refine aK ?_|refine az rfl ?_|refine az (bT (bS (by omega))) ?_|refine aY rfl (by simp[V.refs,V.aw]<;>first|omega|assumption) ?_))
 ·simp+contextual only[go_sem]
  simp at h1
  rw[List.drop_eq_nil_of_le h1]at hf
  simp only[cd]at hf
  rw[hf]at hK
  exact hK _ _ (by omega) (DE.mono (by omega)) c0
def lu(l:List (List UInt8)):List (List UInt8×D):=l.map fun s=>(s, .bool true)
theorem yx(l:List (List UInt8))(s:List UInt8):lu l++[(s, .bool true)]=lu (l++[s]):=by simp[lu]
theorem yy{l:List (List UInt8)}{s:List UInt8}{i:Nat}{x:D}(h:m8 s (lu l) 0=some (i,x)):x= .bool true/\(lu l).set i (s, .bool true)=lu l/\l.any (· ==s)=true:=by
 obtain⟨_,h2⟩:=uF h
 rw[Nat.sub_zero]at h2
 simp only[lu,List.getElem?_map]at h2
 cases hl:l[i]? with
 |none=>rw[hl]at h2;cases h2
 |some y=>
  rw[hl]at h2
  simp at h2
  obtain⟨rfl,rfl⟩:=h2
  refine⟨rfl, ?_, ?_⟩
  ·apply List.ext_getElem?
   intro j
   rw[List.getElem?_set]
   split
   ·rename_i e;subst e
    obtain⟨bz,hy⟩:=List.getElem?_eq_some_iff.1 hl
    simp[lu,bz,hy]
   ·rfl
  ·exact List.any_eq_true.2 ⟨y,List.mem_of_getElem? hl,by simp⟩
theorem yz{l:List (List UInt8)}{s:List UInt8}(h:m8 s (lu l) 0=none):l.any (· ==s)=false:=by
 rw[qY]at h
 rw[List.any_eq_false]
 intro x hx hs
 have:=h (x, .bool true) (by simp[lu];exact hx)
 simp at hs;exact this hs
def Cj(bs:List (List UInt8))(x:lD):Bool:= !bs.any (· ==x.name)&&gv x.name&&iI x.args 0 4
def fe(bs:List (List UInt8))(x:lD):List (List UInt8)×Bool:=(if bs.any (· ==x.name)=true then bs else bs++[x.name],Cj bs x)
theorem Fq(x:lD)(hx:x.name.length<=9223372036854775807)(base mp id:Nat)(h:Nat->aa)(Tz:h mp= .row [.mp id])(h1:mp<base)(h2:id<base)(h3:id≠mp)(bs:List (List UInt8)):
 sM Tryz.prog 87 [.d x.d, .ptr mp 0] base (aQ h id (.map 9 4 (enc .str (lu bs)))) (aQ h id (.map 9 4 (enc .str (lu (fe bs x).1)))) (.d (.bool (fe bs x).2)):=by
 intro o nx hI K X hK
 have hle:=hI.le
 have hg:=hI.eH
 have q0:o mp= .row [.mp id]:=by rw[hI.eq mp h1,ay _ _ _ _ (by omega),Tz]
 have q1:o id= .map 9 4 (enc .str (lu bs)):=by rw[hI.eq id h2,aG]
 refine ft.bg mix Jc (by simp) ?_
 rw[Qk]
 cases ha:m8 x.name (lu bs) 0 with
 |none=>
  have hn:=yz ha
  have hs:fe bs x=(bs++[x.name],gv x.name&&iI x.args 0 4):=by simp[fe,Cj,hn]
  rw[hs]at hK
  simp+contextual (disch:=first|omega|simp only[go_sem,false_implies]) only[go_sem,wrap64,if_pos,q0,q1,ha]
  refine ae (yw _ hx) rfl ?_
  simp+contextual (disch:=first|omega|simp only[go_sem,false_implies]) only[go_sem,wrap64,if_pos,and_self]
  refine pq (nB [.bool (iI x.args 0 4)] ?_ ?_)
  ·simp+contextual (disch:=first|omega|simp only[go_sem,false_implies]) only[go_sem,wrap64,if_pos,and_self]
   exact fun _=>pN _ _ _
  simp+contextual (disch:=first|omega|simp only[go_sem,false_implies]) only[go_sem,wrap64,if_pos,and_self]
  rw[AB,yx]
  refine hK _ _ (by omega) ⟨(by repeat(first|exact hg.mono (by omega)|exact Good.nil|refine Good.aQ ?_ (by omega) rfl|refine Good.aQ ?_ (by omega) (uH _ _ _ (by omega))|refine Good.aQ ?_ (by omega) (by simp[aa.refs,V.aw,V.refs]<;>omega))),by omega,fun j hj=> ?_⟩ (fun j g1 g2=>by(repeat(first|rfl|rw[aG]|rw[ay _ _ _ _ (by omega)])))
  ·by_cases e:j=id
   ·subst e;(repeat(first|rfl|rw[aG]|rw[ay _ _ _ _ (by omega)]))
   ·rw[ay _ _ _ _ e,ay _ _ _ _ e,ay _ _ _ _ (by omega),hI.eq j hj,ay _ _ _ _ e]
 |some p=>
  obtain⟨i,y⟩:=p
  obtain⟨rfl,e1,hn⟩:=yy ha
  have hs:fe bs x=(bs,false):=by simp[fe,Cj,hn]
  rw[hs]at hK
  simp+contextual (disch:=first|omega|simp only[go_sem,false_implies]) only[go_sem,wrap64,if_pos,q0,q1,ha]
  rw[Ch,e1]
  refine hK _ _ (by omega) ⟨(by repeat(first|exact hg.mono (by omega)|exact Good.nil|refine Good.aQ ?_ (by omega) rfl|refine Good.aQ ?_ (by omega) (uH _ _ _ (by omega))|refine Good.aQ ?_ (by omega) (by simp[aa.refs,V.aw,V.refs]<;>omega))),by omega,fun j hj=> ?_⟩ (fun j g1 g2=>by(repeat(first|rfl|rw[aG]|rw[ay _ _ _ _ (by omega)])))
  ·by_cases e:j=id
   ·subst e;(repeat(first|rfl|rw[aG]|rw[ay _ _ _ _ (by omega)]))
   ·rw[ay _ _ _ _ e,ay _ _ _ _ e,ay _ _ _ _ (by omega),hI.eq j hj,ay _ _ _ _ e]
theorem lx:∀ (l:List lD) (bs:List (List UInt8)),match bO l bs with|some B=>cd fe bs l=(B,true)|none=>(cd fe bs l).2=false
 |[],bs=>rfl
 |x::l,bs=>by
  have ih:=lx l (bs++[x.name])
  simp only[bO,cd,fe,Cj]
  by_cases h1:bs.any (· ==x.name)=true
  ·simp[h1]
  ·simp only[Bool.not_eq_true]at h1
   simp only[h1,Bool.false_eq_true,if_false,Bool.not_false,Bool.true_and]
   by_cases h2:(gv x.name&&iI x.args 0 4)=true
   ·have h3: ¬ ((!gv x.name|| !iI x.args 0 4)=true):=by simp at h2;simp[h2]
    rw[if_neg h3,if_pos h2]
    exact ih
   ·have h3:(!gv x.name|| !iI x.args 0 4)=true:=by
     cases hn:gv x.name<;>simp_all
    rw[if_pos h3,if_neg h2]
end Go.Proofs.YtpkobkdgcanmjaaGreat
