/-
  A PART OF THE PROOF. Conditions: none.
-/
import Derived.Test.YtealblliddhgiaaGreatVr13
set_option linter.unusedSimpArgs false
set_option linter.unusedVariables false
namespace Go.Proofs.YtealblliddhgiaaGreat
def im(x y:ae):Prop:=(x.bN=true->y.bN=true)/\∀e,x.aZ=some e->y.aZ=some e
theorem im.rfl' {x y:ae}(h:x=y):im x y:=h ▸ ⟨id,fun _ h=>h⟩
theorem im.fz (x:ae):im x.fz x:=by cases x<;>exact⟨id,fun _ h=>h⟩
theorem im.row (cs cs':List V):im (.row cs) (.row cs'):=⟨fun _=>rfl,fun _ h=>by cases h⟩
mutual
theorem V.jq {B B':Nat->Prop}{φ ay:Place}{H H':Hp}{w:World}(hB:∀b, ¬B b-> ¬B' b):∀ (v:V) (val:Value),(∀id∈v.refs,im (H'.o id) (H.o id)/\ay id=φ id/\H'.us id)->V.den B φ H w v val->V.den B' ay H' w v val
 | .d x,val,_,h=>D.aA (w:=w) (w':=w) (fun b _ hn=>⟨rfl,hB b hn⟩) x val h
 | .aX,_,_,h=>h
 | .aa,_,_,_=>trivial
 | .eO,_,_,h=>h
 | .nr es,val,_,h=>⟨D.aA (w:=w) (w':=w) (fun b _ hn=>⟨rfl,hB b hn⟩) (.sl es) val h.1,h.2⟩
 | .agg cs,val,hr,h=>by
   obtain⟨a,rfl,h1,h2⟩:=h
   exact⟨a,rfl,V.fP hB cs _ (by simpa[V.refs]using hr) h1,h2⟩
 | .bT cs,val,hr,h=>by
   obtain⟨a,rfl,h1⟩:=h
   exact⟨a,rfl,V.fP hB cs _ (by simpa[V.refs]using hr) h1⟩
 | .ptr id off,val,hr,h=>by
   obtain⟨a,b,c⟩:=hr id (by simp[V.refs])
   obtain⟨h0,h1,h2⟩:=h
   refine⟨h0,c,fun a7=> ?_⟩
   obtain⟨x,y,z⟩:=h2 (a.1 a7)
   exact⟨x,b.trans y,z⟩
 | .osl id ep,val,hr,h=>by
   obtain⟨a,b,c⟩:=hr id (by simp[V.refs])
   obtain⟨h0,h1,h2⟩:=h
   refine⟨h0,c,fun e he=> ?_⟩
   obtain⟨x,y⟩:=h2 e (a.2 e he)
   exact⟨x,fun heq=>(y heq).trans b.symm⟩
 | .pe id ep i sz off,val,hr,h=>by
   obtain⟨a,b,c⟩:=hr id (by simp[V.refs])
   obtain⟨h0,h1,h2⟩:=h
   refine⟨h0,c,fun e he=> ?_⟩
   obtain⟨x,y⟩:=h2 e (a.2 e he)
   refine⟨x,fun heq=> ?_⟩
   obtain⟨p,q,r,z,u⟩:=y heq
   exact⟨p,q,r,b.trans z,u⟩
 | .pp cs off,val,_,h=>by
   obtain⟨a,ev,h1,h2,h3,h5,h4⟩:=h
   exact⟨a,ev,h1,h2,D.aI (w:=w) (w':=w) (fun b _ hn=>⟨rfl,hB b hn⟩) cs ev h3,h5,h4.mono (w:=w) (w':=w) (fun b _ hn=>⟨rfl,hB b hn⟩)⟩
 | .func fn first cap,val,hr,h=>by
   obtain⟨f,c,rfl,h1,h2⟩:=h
   exact⟨f,c,rfl,V.fP hB first _ (fun id aj=>hr id (by simp[V.refs,aj])) h1,V.fP hB cap _ (fun id aj=>hr id (by simp[V.refs,aj])) h2⟩
 | .iface t x,val,hr,h=>by
   obtain⟨u,rfl,h⟩:=h
   exact⟨u,rfl,V.jq hB x u (by simpa[V.refs]using hr) h⟩
 | .rk id off n,val,hr,h=>by
   obtain⟨a,b,c⟩:=hr id (by simp[V.refs])
   obtain⟨h0,h1,h2⟩:=h
   refine⟨h0,c,fun a7=> ?_⟩
   obtain⟨x,y,z⟩:=h2 (a.1 a7)
   exact⟨x,b.trans y,z⟩
 | .mp id,val,hr,h=>by
   obtain⟨a,b,c⟩:=hr id (by simp[V.refs])
   obtain⟨h0,h1,h2⟩:=h
   refine⟨h0,c,fun a7=> ?_⟩
   exact(h2 (a.1 a7)).trans b.symm
 | .ke id,val,hr,h=>by
   obtain⟨a,b,c⟩:=hr id (by simp[V.refs])
   obtain⟨h0,h1,h2⟩:=h
   refine⟨h0,c,fun a7=> ?_⟩
   obtain⟨x,y,z⟩:=h2 (a.1 a7)
   exact⟨x,b.trans y,z⟩
theorem V.fP {B B':Nat->Prop}{φ ay:Place}{H H':Hp}{w:World}(hB:∀b, ¬B b-> ¬B' b):∀ (vs:List V) (vals:List Value),(∀id∈V.ag vs,im (H'.o id) (H.o id)/\ay id=φ id/\H'.us id)->V.aC B φ H w vs vals->V.aC B' ay H' w vs vals
 |[],_,_,h=>h
 |v::vs,_,hr,h=>by
  obtain⟨u,us,rfl,h1,h2⟩:=h
  exact⟨u,us,rfl,V.jq hB v u (fun id aj=>hr id (by simp[V.ag,aj])) h1,V.fP hB vs us (fun id aj=>hr id (by simp[V.ag,aj])) h2⟩
end
mutual
theorem V.kF {B:Nat->Prop}{φ:Place}{H:Hp}{w:World}:∀ (v:V) (val:Value),V.den B φ H w v val->∀id∈v.refs,H.us id
 | .osl id ep,_,h,j,hj| .ptr id off,_,h,j,hj| .pe id ep i sz off,_,h,j,hj| .rk id off n,_,h,j,hj| .mp id,_,h,j,hj| .ke id,_,h,j,hj=>by simp[V.refs]at hj;subst hj;exact h.2.1
 | .agg cs,_,h,j,hj=>by obtain⟨a,rfl,h,_⟩:=h;exact V.gP cs _ h j (by simpa[V.refs]using hj)
 | .bT cs,_,h,j,hj=>by obtain⟨a,rfl,h⟩:=h;exact V.gP cs _ h j (by simpa[V.refs]using hj)
 | .func fn first cap,_,h,j,hj=>by
   obtain⟨f,c,rfl,h1,h2⟩:=h
   rcases List.mem_append.1 (show j∈V.ag first++V.ag cap by simpa[V.refs]using hj)with hj|hj
   ·exact V.gP first _ h1 j hj
   ·exact V.gP cap _ h2 j hj
 | .iface t x,_,h,j,hj=>by obtain⟨u,rfl,h⟩:=h;exact V.kF x u h j (by simpa[V.refs]using hj)
 | .d _,_,_,_,hj| .aX,_,_,_,hj| .pp _ _,_,_,_,hj| .aa,_,_,_,hj| .nr _,_,_,_,hj| .eO,_,_,_,hj=>by simp[V.refs]at hj
theorem V.gP {B:Nat->Prop}{φ:Place}{H:Hp}{w:World}:∀ (vs:List V) (vals:List Value),V.aC B φ H w vs vals->∀id∈V.ag vs,H.us id
 |[],_,_,j,hj=>by simp[V.ag]at hj
 |v::vs,_,h,j,hj=>by
  obtain⟨u,us,rfl,h1,h2⟩:=h
  rcases List.mem_append.1 (show j∈v.refs++V.ag vs by simpa[V.ag]using hj)with hj|hj
  ·exact V.kF v u h1 j hj
  ·exact V.gP vs us h2 j hj
end
def yj(c:Nat)(x:V)(so:Nat->ae)(gone:Nat->Prop)(v v':V):Prop:=
 v'= .aa\/(v'=v/\∀r∈v.refs,r<c)\/(v'= .osl c 0/\v=x)\/∃y,v'= .d y/\dz so v=some y/\∀id∈v.ids,gone id/\∀ep,x≠ .osl id ep
def BC(c:Nat)(x:V)(so:Nat->ae)(gone:Nat->Prop)(env:Nat->V):List V->Nat->Prop
 |[],_=>True
 |v::l,i=>yj c x so gone (env i) v/\BC c x so gone env l (i+1)
def BD(c:Nat)(x:V)(so:Nat->ae)(gone:Nat->Prop):List V->List V->Prop
 |[],[]=>True
 |v::l,v'::l'=>yj c x so gone v v'/\BD c x so gone l l'
 |_,_=>False
theorem yk{c:Nat}{x:V}{so:Nat->ae}{gone:Nat->Prop}{env:Nat->V}:∀ (l:List V) (i:Nat),BC c x so gone env l i->∀j,yj c x so gone (env (i+j)) (bF l j)
 |[],i,_,j=>by rw[jl];exact .inl rfl
 |v::l,i,h,0=>by rw[iU];exact h.1
 |v::l,i,h,j+1=>by
  rw[gM]
  have:=yk l (i+1) h.2 j
  rwa [show i+1+j=i+(j+1) by omega]at this
theorem nm{c:Nat}{x:V}{so:Nat->ae}{gone:Nat->Prop}{B B':Nat->Prop}{φ ay:Place}{H H':Hp}{w:World}(hc:∀v v' val,yj c x so gone v v'->V.den B φ H w v val->V.den B' ay H' w v' val):
 ∀ (l l':List V) (vals:List Value),BD c x so gone l l'->V.aC B φ H w l vals->V.aC B' ay H' w l' vals
 |[],[],_,_,h=>h
 |v::l,v'::l',_,h,hd=>by
  obtain⟨u,us,rfl,h1,h2⟩:=hd
  exact⟨u,us,rfl,hc _ _ _ h.1 h1,nm hc l l' us h.2 h2⟩
 |[],_::_,_,h,_=>h.elim
 |_::_,[],_,h,_=>h.elim
def wg(so:Nat->ae)(gone:Nat->Prop)(ty:TypeId)(sz:Nat)(es:List D)(x:V):Prop:=
 (x= .aX/\es=[]/\0<sz)\/∃id ep,gone id/\x= .osl id ep/\so id= .arr ep ty sz es
theorem BB.gone {so:Nat->ae}{c:Nat}{ty:TypeId}{sz:Nat}{es:List D}{x:V}(h:BB so c ty sz es x):wg so (fun id=>c<=id) ty sz es x:=h
theorem cq.QF (gone:Nat->Prop){b:Nat}{e:Nat->V}{so:Nat->ae}{m:Nat}(l:List V){o:Nat->ae}{c:Nat}{ty:TypeId}{sz:Nat}{es:List D}(x:V)(r0:Nat)(cs cs':List V)(Je:r0<c)(hb:b<=c)(Ry:c<=m)(hg:Good o c)(oW:∀id,gone id->id<c->id≠r0/\o id= .no)(ho:∀id,id<c->id≠r0->so id=o id\/o id= .no)(Fs:so r0= .row cs)(a7:BD c x so gone cs cs')(hx:wg so gone ty sz es x)(he:BC c x so gone e l 0):
 cq b ⟨e,so,m⟩ ⟨bF l,ao (ao o c (.arr 0 ty sz es)) r0 (.row cs'),c+1⟩:=by
 intro M φ w tm hH hd
 let ay:Place:=pP φ c x
 let o':Nat->ae:=ao (ao o c (.arr 0 ty sz es)) r0 (.row cs')
 let H':Hp:=hp o' (c+1)
 let H:Hp:=⟨so,fun id=>id<m⟩
 have uC:o' c= .arr 0 ty sz es:=by show ao (ao o c (.arr 0 ty sz es)) r0 (.row cs') c=_;rw[ad _ _ _ _ (by omega),ab]
 have DV:∀id,id<c->id≠r0->o' id=o id:=fun id aj fS=>by show ao (ao o c (.arr 0 ty sz es)) r0 (.row cs') id=_;rw[ad _ _ _ _ fS,ad _ _ _ _ (by omega)]
 have WL:o' r0= .row cs':=ab _ _ _
 have Lx:∀id,c<id->o' id= .no:=fun id aj=>by show ao (ao o c (.arr 0 ty sz es)) r0 (.row cs') id=_;rw[ad _ _ _ _ (by omega),ad _ _ _ _ (by omega)];exact hg.fresh id (by omega)
 have lu:∀id,id<c->ay id=φ id:=fun id aj=>if_neg (by omega)
 have Ap:x= .aX->ay c= .slice none 0 0:=fun h=>by simp only[ay,pP,h,if_pos]
 have Aq:∀id ep,x= .osl id ep->ay c=φ id:=fun id ep h=>by simp only[ay,pP,if_pos,h]
 have hold:∀id k,(o' id).live=true->eC (ay id)=some k->∃j,(so j).live=true/\eC (φ j)=some k/\((id<c/\j=id)\/(id=c/\gone j/\∃ep,x= .osl j ep)):=by
  intro id k h1 h2
  rcases Nat.lt_trichotomy id c with bL|heq|cc
  ·rw[lu id bL]at h2
   by_cases fS:id=r0
   ·subst fS
    exact⟨id,by rw[Fs];rfl,h2, .inl ⟨bL,rfl⟩⟩
   ·rw[DV id bL fS]at h1
    rcases ho id bL fS with hs|hs
    ·exact⟨id,by rw[hs];exact h1,h2, .inl ⟨bL,rfl⟩⟩
    ·rw[hs]at h1;cases h1
  ·subst heq
   rcases hx with⟨rfl,_,_⟩|⟨j,ep,hj,rfl,j8⟩
   ·rw[Ap rfl]at h2;cases h2
   ·rw[Aq j ep rfl]at h2
    exact⟨j,by rw[j8];rfl,h2, .inr ⟨rfl,hj,ep,rfl⟩⟩
  ·rw[Lx id cc]at h1;cases h1
 have bS:∀k,bO ay H' k->bO φ H k:=by
  rintro k ⟨id,h1,h2⟩
  obtain⟨j,g1,g2,_⟩:=hold id k h1 h2
  exact⟨j,g1,g2⟩
 have hB:∀k, ¬ai M φ H k-> ¬ai M ay H' k:=fun k h h'=>h (h'.imp id (bS k))
 have lH:∀id,id<c->im (H'.o id) (H.o id)/\ay id=φ id/\H'.us id:=fun id aj=>by
  refine⟨?_,lu id aj,(by show id<c+1;omega)⟩
  by_cases fS:id=r0
  ·subst fS
   show im (o' id) (so id)
   rw[WL,Fs];exact im.row _ _
  ·rcases ho id aj fS with hs|hs
   ·exact im.rfl' ((DV id aj fS).trans hs.symm)
   ·show im (o' id) (so id)
    rw[DV id aj fS,hs]
    exact⟨fun h=>(by cases h),fun e h=>(by cases h)⟩
 have dP:∀ (v:V) (val:Value),(∀r∈v.refs,r<c)->V.den (ai M φ H) φ H w v val->V.den (ai M ay H') ay H' w v val:=fun v val hr h=>
  V.jq (H:=H) (H':=H') hB v val (fun id aj=>lH id (hr id aj)) h
 have lI:∀ (v:List V) (val:List Value),(∀r∈V.ag v,r<c)->V.aC (ai M φ H) φ H w v val->V.aC (ai M ay H') ay H' w v val:=fun v val hr h=>
  V.fP (H:=H) (H':=H') hB v val (fun id aj=>lH id (hr id aj)) h
 have Ly:∀ (v:V) (y:D) (val:Value),dz so v=some y->(∀id∈v.ids,gone id/\∀ep,x≠ .osl id ep)->V.den (ai M φ H) φ H w v val->D.den (ai M ay H') w y val:=fun v y val h1 h2 h3=>by
  obtain⟨f1,f2,f3,f4,f5⟩:=cG (H:=H) hH v.ids (fun id aj=>cC v val h3 id aj)
  have QG:∀k,bO φ (H.put (ck H.o v.ids)) k->bO φ H k:=by
   rintro k ⟨id,g1,g2⟩
   by_cases aj:id∈v.ids
   ·rw[f3 id aj]at g1
    refine⟨id, ?_,g2⟩
    revert g1
    cases H.o id<;>simp[ae.fz,ae.live]
   ·rw[f4 id aj]at g1;exact⟨id,g1,g2⟩
  have h4:V.den (ai M φ (H.put (ck H.o v.ids))) φ (H.put (ck H.o v.ids)) w v val:=
   V.jq (H:=H) (fun k h h'=>h (h'.imp id (QG k))) v val (fun id aj=>by
     have dQ:H.us id:=(V.kF v val h3) id aj
     refine⟨?_,rfl,(f5 id).2 dQ⟩
     by_cases hm:id∈v.ids
     ·rw[f3 id hm];exact im.fz _
     ·rw[f4 id hm];exact im.rfl' rfl) h3
  have h5:=dR f1 (o:=so) v y val (fun id aj=>f3 id aj) h1 h4
  refine D.aA (w:=w) (w':=w) (fun k _ hn=>⟨rfl,fun hk=>hn (hk.imp id ?_)⟩) y val h5
  rintro⟨id,g1,g2⟩
  obtain⟨j,k1,k2,k3⟩:=hold id k g1 g2
  refine⟨j, ?_,k2⟩
  have:j∉v.ids:=fun hm=>by
   obtain⟨k4,k5⟩:=h2 j hm
   rcases k3 with⟨k6,k7⟩|⟨_,_,ep,k6⟩
   ·subst k7
    obtain⟨k8,k9⟩:=oW _ k4 k6
    have g1:(o' j).live=true:=g1
    rw[DV _ k6 k8,k9]at g1
    cases g1
   ·exact k5 ep k6
  rw[f4 j this];exact k1
 have Ft:∀val,V.den (ai M φ H) φ H w x val->V.den (ai M ay H') ay H' w (.osl c 0) val:=by
  intro val this
  rcases hx with⟨rfl,rfl,dX⟩|⟨j,ep,hj,rfl,j8⟩
  ·simp only[V.den]at this
   rw[this]
   refine⟨rfl,(by show c<c+1;omega),fun e' e8=> ?_⟩
   have e8:(o' c).aZ=some e':=e8
   rw[uC]at e8
   simp only[ae.aZ,Option.some.injEq]at e8
   subst e8
   exact⟨Nat.le_refl _,fun _=>(Ap rfl).symm⟩
  ·obtain⟨g1,g2,g3⟩:=this
   refine⟨g1,(by show c<c+1;omega),fun e' e8=> ?_⟩
   have e8:(o' c).aZ=some e':=e8
   rw[uC]at e8
   simp only[ae.aZ,Option.some.injEq]at e8
   subst e8
   have rA:(H.o j).aZ=some ep:=by show(so j).aZ=_;rw[j8];rfl
   exact⟨Nat.le_refl _,fun _=>by rw[Aq j ep rfl];exact(g3 ep rA).2 rfl⟩
 have yl:∀v v' val,yj c x so gone v v'->V.den (ai M φ H) φ H w v val->V.den (ai M ay H') ay H' w v' val:=by
  intro v v' val h h1
  rcases h with rfl|⟨rfl,h2⟩|⟨rfl,rfl⟩|⟨y,rfl,h2,h3⟩
  ·trivial
  ·exact dP _ _ h2 h1
  ·exact Ft _ h1
  ·exact Ly v y val h2 h3 h1
 refine⟨ay,⟨fun id=> ?_,fun id hu=>Lx id (by have: ¬id<c+1:=hu;omega),fun i j k h1 h2 h3 h4=> ?_,fun k hk=>hH.ours k (bS k hk),hH.tv⟩,fun i=> ?_,bS,by show b<=c+1;omega,fun id aj hr=> ?_,fun id e' aj e8=> ?_⟩
 ·have aO:aK M φ H w id:=hH.ok id
  have hrefs:=hg.refs id
  show aK M ay H' w id
  unfold aK at aO|-
  rcases Nat.lt_trichotomy id c with bL|heq|cc
  ·by_cases fS:id=r0
   ·subst fS
    have e1:H.o id= .row cs:=Fs
    have e2:H'.o id= .row cs':=WL
    rw[e1]at aO
    rw[e2,lu id bL]
    obtain⟨b,cP,ty,k1,k2,k3,k4⟩:=aO
    exact⟨b,cP,ty,k1,k2,nm yl _ _ _ a7 k3,k4⟩
   have e2:H'.o id=o id:=DV id bL fS
   rcases ho id bL fS with hs|hs
   case inr=>rw[e2,hs];trivial
   have e1:H.o id=o id:=hs
   rw[e1]at aO
   rw[e2,lu id bL]
   cases nR:o id with
   |no=>trivial
   |row cs=>
    simp only[nR]at aO hrefs|-
    obtain⟨b,cP,ty,k1,k2,k3,k4⟩:=aO
    exact⟨b,cP,ty,k1,k2,lI _ _ hrefs k3,k4⟩
   |arr ep ty sz es=>
    simp only[nR]at aO|-
    obtain⟨k1,xs,k2,evs,k3,k4,k5⟩:=aO
    exact⟨k1,xs,k2,evs,k3,k4,D.aI (fun b _ hn=>⟨rfl,hB b hn⟩) _ _ k5⟩
   |nW ep es=>
    simp only[nR]at aO|-
    exact D.aA (fun b _ hn=>⟨rfl,hB b hn⟩) _ _ aO
   |map kt vt es=>
    simp only[nR]at aO|-
    obtain⟨b,es',clock,k1,k2,k4,k3⟩:=aO
    exact⟨b,es',clock,k1,k2,k4,aH.mono (fun b _ hn=>⟨rfl,hB b hn⟩) _ _ k3⟩
   |dZ l=>
    simp only[nR]at aO|-
    exact D.aA (fun b _ hn=>⟨rfl,hB b hn⟩) _ _ aO
   |kg l last=>
    simp only[nR]at aO|-
    obtain⟨b,k1,k2⟩:=aO
    exact⟨b,k1,k2.mono (fun b _ hn=>⟨rfl,hB b hn⟩) rfl⟩
   |rl s pos=>
    simp only[nR]at aO|-
    exact aO
   |loop nf n env ps a b st pd=>
    simp only[nR]at aO hrefs|-
    obtain⟨b,r,k1,k2,k3,k4,k5,k6,k7,k8,k9,EX⟩:=aO
    exact⟨b,r,k1,k2,k3,k4,k5,k6,k7,k8,k9,fun i=>dP _ _ (fun r hr=>hrefs r (V.kD _ _ r hr)) (EX i)⟩
  ·subst heq
   have e2:H'.o id= .arr 0 ty sz es:=uC
   rw[e2]
   rcases hx with⟨rfl,rfl,dX⟩|⟨j,ep,hj,rfl,j8⟩
   ·refine⟨dX,[], ?_,[],by simp,by simp,rfl⟩
    rw[Ap rfl]
    exact World.ownsRow_nil _ _ _ _
   ·have this:aK M φ H w j:=hH.ok j
    unfold aK at this
    have e3:H.o j= .arr ep ty sz es:=j8
    simp only[e3]at this
    obtain⟨k1,xs,k2,evs,k3,k4,k5⟩:=this
    exact⟨k1,xs,by rw[Aq j ep rfl];exact k2,evs,k3,k4,D.aI (fun b _ hn=>⟨rfl,hB b hn⟩) _ _ k5⟩
  ·have e2:H'.o id= .no:=Lx id cc
   rw[e2]
   trivial
 ·obtain⟨i',a1,a2,a3⟩:=hold i k h1 h3
  obtain⟨j',b1,b2,b3⟩:=hold j k h2 h4
  have:=hH.apart i' j' k a1 b1 a2 b2
  have fS:∀cM j',(o' cM).live=true->cM<c->gone j'->cM≠j':=fun cM j' g1 g2 g3 g4=>by
   subst g4
   obtain⟨g5,g6⟩:=oW _ g3 g2
   rw[DV _ g2 g5,g6]at g1
   cases g1
  rcases a3 with⟨a3,a4⟩|⟨a3,a4,_⟩<;>rcases b3 with⟨b3,b4⟩|⟨b3,b4,_⟩
  ·omega
  ·exact absurd (a4.symm.trans this) (fS i j' h1 a3 b4)
  ·exact absurd (b4.symm.trans this.symm) (fS j i' h2 b3 a4)
  ·omega
 ·have hi:=yk l 0 he i
  rw[Nat.zero_add]at hi
  exact yl _ _ _ hi (hd i)
 ·have bL:id<c:=by omega
  have hr:(o' id).bN=true:=hr
  exact⟨(lH id bL).1.1 hr,lu id bL⟩
 ·have bL:id<c:=by omega
  have e8:(o' id).aZ=some e':=e8
  exact⟨e',(lH id bL).1.2 e' e8,Nat.le_refl _,fun _=>lu id bL⟩
theorem cq.conv {b:Nat}{e:Nat->V}{so:Nat->ae}{m:Nat}(l:List V){o:Nat->ae}{c:Nat}{ty:TypeId}{sz:Nat}{es:List D}(x:V)(r0:Nat)(cs cs':List V)(Je:r0<c)(hb:b<=c)(Ry:c<=m)(hg:Good o c)(ho:∀id,id<c->id≠r0->so id=o id)(Fs:so r0= .row cs)(a7:BD c x so (fun id=>c<=id) cs cs')(hx:BB so c ty sz es x)(he:BC c x so (fun id=>c<=id) e l 0):
 cq b ⟨e,so,m⟩ ⟨bF l,ao (ao o c (.arr 0 ty sz es)) r0 (.row cs'),c+1⟩:=
 cq.QF _ l x r0 cs cs' Je hb Ry hg (fun id h1 h2=>absurd h1 (by omega)) (fun id h1 h2=> .inl (ho id h1 h2)) Fs a7 hx he
theorem Fu{xs ys:List Nat}:jR xs ys=true↔∀x∈xs,x∉ys:=by
 simp[jR,List.all_eq_true]
def nn(env:Nat->V):List V->Nat->Prop
 |[],_=>True
 |v::l,i=>(v= .aa\/v=env i)/\nn env l (i+1)
theorem uQ{env:Nat->V}{i:Nat}:nn env [] i:=trivial
theorem sI{env:Nat->V}{l:List V}{i:Nat}(h:nn env l (i+1)):nn env (.aa::l) i:=⟨.inl rfl,h⟩
theorem BE{env:Nat->V}{l:List V}{i:Nat}{v:V}(he:env i=v)(h:nn env l (i+1)):nn env (v::l) i:=⟨.inr he.symm,h⟩
theorem ym{env:Nat->V}:∀ (l:List V) (i:Nat),nn env l i->∀j,bF l j= .aa\/bF l j=env (i+j)
 |[],i,_,j=>by rw[jl];exact .inl rfl
 |v::l,i,h,0=>by rw[iU];exact h.1
 |v::l,i,h,j+1=>by
  rw[gM]
  have:=ym l (i+1) h.2 j
  rwa [show i+1+j=i+(j+1) by omega]at this
theorem CW{P:Program}{n:Nat}{ps:List Nat}{x y:IC}{Q:e9->S->Prop}{e:Nat->V}{o:Nat->ae}{nx:Nat}{f:FuncId}{cap:List V}(env:List V)(he:nn e env 0)
 (h:eI P f (.ke nx::cap) (ao o nx (.loop P.funcs.size n env ps x y .ready none)) (nx+1)
  (fun _ o' nx'=>∃nf m en p c d st pd,o' nx= .loop nf m en p c d st pd/\st≠ .busy/\vA Q pd ⟨e,ao o' nx (.loop nf m en p c d .exhausted pd),nx'⟩) (fun v o' nx'=>Q (.bK v) ⟨e,o',nx'⟩)):
 Ae P n false ps x y Q ⟨e,o,nx⟩ (.func (.func f) [] cap):=by
 unfold Ae xy
 refine⟨rfl,env,fun i=> ?_, .inl h⟩
 have:=ym env 0 he i
 rwa [Nat.zero_add]at this
def sJ(P:Program)(n b id:Nat)(gU:IC)(K X:V->(Nat->ae)->Nat->Prop)(e:e9)(s:S):Prop:=
 match e with
 | .normal=>∃nf m en p c d pd,s.o id= .loop nf m en p c d .ready pd/\jZ P n b true gU (lq id K X) ⟨s.env,ao s.o id (.loop nf m en p c d .busy pd),s.nx⟩
 | .bK v=>X v s.o s.nx
 |_=>False
theorem dD.bt {P:Program}{n:Nat}(ba:P.follows .mixedOrders=true){id:Nat}{args:List V}{o:Nat->ae}{nx:Nat}{K X:V->(Nat->ae)->Nat->Prop}{env:List V}{ps:List Nat}{lO gU:IC}{st:LoopState}{pd:Option ka}
 (ho:o id= .loop P.funcs.size n env ps lO gU st pd) (bL:id<nx) (Hj:ps.all (fun t=>decide (t<n))=true) (hl:args.length=ps.length)
 (h:jZ P n nx true lO (sJ P n nx id gU K X) ⟨sc (bF env) ps args,o,nx⟩):dD P id args o nx K X:=by
 refine dD.se ba ho bL Hj hl (fl lO _ _ _ (fun e s h=> ?_) h)
 cases e with
 |normal=>
  obtain⟨nf,m,en,p,c,d,pd,h1,h2⟩:=h
  exact⟨nf,m,en,p,c,d,pd,h1,fl gU _ _ _ (fun _ _ h=>h) h2⟩
 |bK v=>exact h
 |_=>exact h.elim
theorem wh{P:Program}{n b id:Nat}{gU:IC}{K X:V->(Nat->ae)->Nat->Prop}{s:S}{nf m:Nat}{en:List V}{p:List Nat}{c d:IC}{pd:Option ka}(h:s.o id= .loop nf m en p c d .ready pd)
 (h2:jZ P n b true gU (lq id K X) ⟨s.env,ao s.o id (.loop nf m en p c d .busy pd),s.nx⟩):sJ P n b id gU K X .normal s:=⟨nf,m,en,p,c,d,pd,h,h2⟩
def tI:List Nat->Nat->Nat->Nat
 |[],nx,k=>nx+k
 |i::_,_,0=>i
 |_::l,nx,k+1=>tI l nx k
theorem wk:∀ (l:List Nat) (nx k:Nat),tI l nx k∈l\/nx<=tI l nx k
 |[],nx,k=> .inr (Nat.le_add_right _ _)
 |i::_,_,0=> .inl (List.mem_cons_self ..)
 |_::l,nx,k+1=>(wk l nx k).imp (List.mem_cons_of_mem _) id
theorem yn{nx:Nat}:∀ (l:List Nat),l.Nodup->(∀i∈l,i<nx)->∀a b,tI l nx a=tI l nx b->a=b
 |[],_,_,a,b,e=>by simp only[tI]at e;omega
 |i::l,_,_,0,0,_=>rfl
 |i::l,hd,hl,0,b+1,e=>by
  simp only[tI]at e
  rcases wk l nx b with h|h
  ·rw[<- e]at h;exact absurd h (List.nodup_cons.1 hd).1
  ·have:=hl i (List.mem_cons_self ..);omega
 |i::l,hd,hl,a+1,0,e=>by
  simp only[tI]at e
  rcases wk l nx a with h|h
  ·rw[e]at h;exact absurd h (List.nodup_cons.1 hd).1
  ·have:=hl i (List.mem_cons_self ..);omega
 |i::l,hd,hl,a+1,b+1,e=>by
  simp only[tI]at e
  rw[yn l (List.nodup_cons.1 hd).2 (fun j hj=>hl j (List.mem_cons_of_mem _ hj)) a b e]
def HB(f:Nat->Nat)(x:List Nat×List Nat):List Nat×List Nat:=(x.1.map f,x.2.map f)
theorem sK{f:Nat->Nat}(hf:∀a b,f a=f b->a=b){xs ys:List Nat}(hd:jR xs ys=true):jR (xs.map f) (ys.map f)=true:=by
 rw[Fu]at hd|-
 intro x hx hy
 obtain⟨a,ha,rfl⟩:=List.mem_map.1 hx
 obtain⟨b,hb,e⟩:=List.mem_map.1 hy
 rw[hf b a e]at hb
 exact hd a ha hb
theorem Ar{f:Nat->Nat}(hf:∀a b,f a=f b->a=b){pr:List (List Nat)}(fp:List (List Nat×List Nat))(ho:et pr fp=true):et pr (fp.map (HB f))=true:=by
 unfold et at ho|-
 rw[List.all_eq_true]at ho|-
 intro j hj
 rw[List.length_map]at hj
 have ho:=ho j hj
 rw[List.all_eq_true]at ho|-
 intro i hi
 have ho:=ho i hi
 have hm:∀k,(fp.map (HB f)).getD k ([],[])=HB f (fp.getD k ([],[])):=fun k=>by
  rw[List.getD_eq_getElem?_getD,List.getD_eq_getElem?_getD,List.getElem?_map]
  cases fp[k]? <;>rfl
 rw[hm,hm]
 rw[Bool.or_eq_true]at ho|-
 refine ho.imp (fun h=>h) (fun ho=> ?_)
 rw[Bool.and_eq_true,Bool.and_eq_true]at ho|-
 exact⟨⟨sK hf ho.1.1,sK hf ho.1.2⟩,sK hf ho.2⟩
theorem cD{ids:List Nat}{nx:Nat}(hd:ids.Nodup)(hl:∀i∈ids,i<nx){pr:List (List Nat)}(fp:List (List Nat×List Nat))(ho:et pr fp=true):et pr (fp.map (HB (tI ids nx)))=true:=
 Ar (yn ids hd hl) fp ho
section
variable {P:Program}{KB:List Nat->Fp->Prop}{pr:List (List Nat)}{l:List b7}{fr:Nat}{fp:Fp}{bad ws:List Nat}{s:S}{d:Option Nat}{op:Op}
end
end Go.Proofs.YtealblliddhgiaaGreat
namespace Go.Proofs.YtealblliddhgiaaGreat
structure Gr where
 x:V
 ty:TypeId
 sz:Nat
 es:List D
def Gr.ok (so:Nat->ae)(gone:Nat->Prop)(g:Gr):Prop:=wg so gone g.ty g.sz g.es g.x
def Fv(c:Nat)(G:List Gr)(so:Nat->ae)(gone:Nat->Prop)(v v':V):Prop:=
 v'= .aa\/(v'=v/\∀r∈v.refs,r<c)\/(∃i g,G[i]? =some g/\v'= .osl (c+i) 0/\v=g.x)\/∃y,v'= .d y/\dz so v=some y/\∀id∈v.ids,gone id/\∀g∈G,∀ep,g.x≠ .osl id ep
def mC(c:Nat)(G:List Gr)(so:Nat->ae)(gone:Nat->Prop)(env:Nat->V):List V->Nat->Prop
 |[],_=>True
 |v::l,i=>Fv c G so gone (env i) v/\mC c G so gone env l (i+1)
def wm(c:Nat)(G:List Gr)(so:Nat->ae)(gone:Nat->Prop):List V->List V->Prop
 |[],[]=>True
 |v::l,v'::l'=>Fv c G so gone v v'/\wm c G so gone l l'
 |_,_=>False
def yo(c:Nat)(G:List Gr)(so:Nat->ae)(gone:Nat->Prop)(x x':ae):Prop:=
 x'= .no\/(x=x'/\∀r∈x'.refs,r<c)\/∃cs cs',x= .row cs/\x'= .row cs'/\wm c G so gone cs cs'
section
variable {c:Nat}{G:List Gr}{so:Nat->ae}{gone:Nat->Prop}
theorem BF{env:Nat->V}:∀ (l:List V) (i:Nat),mC c G so gone env l i->∀j,Fv c G so gone (env (i+j)) (bF l j)
 |[],i,_,j=>by rw[jl];exact .inl rfl
 |v::l,i,h,0=>by rw[iU];exact h.1
 |v::l,i,h,j+1=>by
  rw[gM]
  have:=BF l (i+1) h.2 j
  rwa [show i+1+j=i+(j+1) by omega]at this
variable {env:Nat->V}{i:Nat}{l l':List V}{v:V}{y:D}
theorem ei:mC c G so gone env [] i:=trivial
theorem dk(h:mC c G so gone env l (i+1)):mC c G so gone env (.aa::l) i:=⟨.inl rfl,h⟩
theorem cR(he:env i= .d y)(h:mC c G so gone env l (i+1)):mC c G so gone env (.d y::l) i:=⟨.inr (.inl ⟨he.symm,fun r hr=>by rw[he]at hr;simp[V.refs]at hr⟩),h⟩
theorem iq(he:env i=v)(hr:∀r∈v.refs,r<c)(h:mC c G so gone env l (i+1)):mC c G so gone env (v::l) i:=⟨.inr (.inl ⟨he.symm,fun r Co=>hr r (he ▸ Co)⟩),h⟩
theorem ir(k:Nat){g:Gr}{n:Nat}(hg:G[k]? =some g)(hn:n=c+k)(he:env i=g.x)(h:mC c G so gone env l (i+1)):mC c G so gone env (.osl n 0::l) i:=⟨.inr (.inr (.inl ⟨k,g,hg,by rw[hn],he⟩)),h⟩
theorem iu(ht:dz so (env i)=some y)(hi:∀id∈(env i).ids,gone id/\∀g∈G,∀ep,g.x≠ .osl id ep)(h:mC c G so gone env l (i+1)):mC c G so gone env (.d y::l) i:=⟨.inr (.inr (.inr ⟨y,rfl,ht,hi⟩)),h⟩
theorem bV:wm c G so gone [] []:=trivial
theorem bq(h:wm c G so gone l l'):wm c G so gone (.d y::l) (.d y::l'):=⟨.inr (.inl ⟨rfl,fun r hr=>by simp[V.refs]at hr⟩),h⟩
theorem gr(k:Nat){g:Gr}{n:Nat}(hg:G[k]? =some g)(hn:n=c+k)(he:v=g.x)(h:wm c G so gone l l'):wm c G so gone (v::l) (.osl n 0::l'):=⟨.inr (.inr (.inl ⟨k,g,hg,by rw[hn],he⟩)),h⟩
theorem BG{x:ae}:yo c G so gone x .no:= .inl rfl
theorem aG{x x':ae}(h:x=x')(hr:∀r∈x'.refs,r<c):yo c G so gone x x':= .inr (.inl ⟨h,hr⟩)
theorem bW{x:ae}{cs cs':List V}(h:x= .row cs)(hr:wm c G so gone cs cs'):yo c G so gone x (.row cs'):= .inr (.inr ⟨cs,cs',h,rfl,hr⟩)
end
theorem oX{c:Nat}{G:List Gr}{so:Nat->ae}{gone:Nat->Prop}{B B':Nat->Prop}{φ ay:Place}{H H':Hp}{w:World}(hc:∀v v' val,Fv c G so gone v v'->V.den B φ H w v val->V.den B' ay H' w v' val):
 ∀ (l l':List V) (vals:List Value),wm c G so gone l l'->V.aC B φ H w l vals->V.aC B' ay H' w l' vals
 |[],[],_,_,h=>h
 |v::l,v'::l',_,h,hd=>by
  obtain⟨u,us,rfl,h1,h2⟩:=hd
  exact⟨u,us,rfl,hc _ _ _ h.1 h1,oX hc l l' us h.2 h2⟩
 |[],_::_,_,h,_=>h.elim
 |_::_,[],_,h,_=>h.elim
def Fw(φ:Place)(c:Nat)(G:List Gr):Place:=fun id=>if id<c then φ id else match G[id - c]? with
 |some g=>(match g.x with| .osl j _=>φ j|_=> .slice none 0 0)
 |none=>φ id
theorem cq.WM (gone:Nat->Prop)(G:List Gr)(c:Nat){b:Nat}{e:Nat->V}{so:Nat->ae}{m:Nat}(l:List V){o':Nat->ae}{nx':Nat}(ni:nx'=c+G.length)(hb:b<=c)
 (ho:∀id,id<c->yo c G so gone (so id) (o' id)) (hG:∀i g,G[i]? =some g->o' (c+i)= .arr 0 g.ty g.sz g.es/\g.ok so gone) (hh:∀id,nx'<=id->o' id= .no) (oW:∀id,gone id->id<c->o' id= .no)
 (vC:∀ (i j:Nat) (gi gj:Gr) (id ep gz:Nat),G[i]? =some gi->G[j]? =some gj->gi.x= .osl id ep->gj.x= .osl id gz->i=j) (he:mC c G so gone e l 0):cq b ⟨e,so,m⟩ ⟨bF l,o',nx'⟩:=by
 subst ni
 intro M φ w tm hH hd
 let ay:Place:=Fw φ c G
 let H':Hp:=hp o' (c+G.length)
 let H:Hp:=⟨so,fun id=>id<m⟩
 have lu:∀id,id<c->ay id=φ id:=fun id aj=>if_pos aj
 have Fx:∀i g,G[i]? =some g->ay (c+i)=(match g.x with| .osl j _=>φ j|_=> .slice none 0 0):=fun i g hg=>by
  show Fw φ c G (c+i)=_
  unfold Fw
  rw[if_neg (by omega),show c+i - c=i by omega,hg]
 have hold:∀id k,(o' id).live=true->eC (ay id)=some k->∃j,(so j).live=true/\eC (φ j)=some k/\((id<c/\j=id)\/∃i g ep,id=c+i/\G[i]? =some g/\gone j/\g.x= .osl j ep):=by
  intro id k h1 h2
  by_cases bL:id<c
  ·rw[lu id bL]at h2
   rcases ho id bL with h3|⟨h3,_⟩|⟨cs,cs',h3,h4,_⟩
   ·rw[h3]at h1;cases h1
   ·exact⟨id,by rw[h3];exact h1,h2, .inl ⟨bL,rfl⟩⟩
   ·exact⟨id,by rw[h3];rfl,h2, .inl ⟨bL,rfl⟩⟩
  ·by_cases zt:c+G.length<=id
   ·rw[hh id zt]at h1;cases h1
   ·obtain⟨i,rfl⟩:∃i,id=c+i:=⟨id - c,by omega⟩
    obtain⟨g,hg⟩:∃g,G[i]? =some g:=⟨G[i]'(by omega),by simp⟩
    rw[Fx i g hg]at h2
    obtain⟨_,bz⟩:=hG i g hg
    rcases bz with⟨h3,_,_⟩|⟨j,ep,hj,h3,j8⟩
    ·rw[h3]at h2;cases h2
    ·rw[h3]at h2
     exact⟨j,by rw[j8];rfl,h2, .inr ⟨i,g,ep,rfl,hg,hj,h3⟩⟩
 have bS:∀k,bO ay H' k->bO φ H k:=by
  rintro k ⟨id,h1,h2⟩
  obtain⟨j,g1,g2,_⟩:=hold id k h1 h2
  exact⟨j,g1,g2⟩
 have hB:∀k, ¬ai M φ H k-> ¬ai M ay H' k:=fun k h h'=>h (h'.imp id (bS k))
 have lH:∀id,id<c->im (H'.o id) (H.o id)/\ay id=φ id/\H'.us id:=fun id aj=>by
  refine⟨?_,lu id aj,(by show id<c+G.length;omega)⟩
  show im (o' id) (so id)
  rcases ho id aj with h3|⟨h3,_⟩|⟨cs,cs',h3,h4,_⟩
  ·rw[h3];exact⟨fun h=>(by cases h),fun e h=>(by cases h)⟩
  ·exact im.rfl' h3.symm
  ·rw[h3,h4];exact im.row _ _
 have dP:∀ (v:V) (val:Value),(∀r∈v.refs,r<c)->V.den (ai M φ H) φ H w v val->V.den (ai M ay H') ay H' w v val:=fun v val hr h=>
  V.jq (H:=H) (H':=H') hB v val (fun id aj=>lH id (hr id aj)) h
 have lI:∀ (v:List V) (val:List Value),(∀r∈V.ag v,r<c)->V.aC (ai M φ H) φ H w v val->V.aC (ai M ay H') ay H' w v val:=fun v val hr h=>
  V.fP (H:=H) (H':=H') hB v val (fun id aj=>lH id (hr id aj)) h
 have Ly:∀ (v:V) (y:D) (val:Value),dz so v=some y->(∀id∈v.ids,gone id/\∀g∈G,∀ep,g.x≠ .osl id ep)->V.den (ai M φ H) φ H w v val->D.den (ai M ay H') w y val:=fun v y val h1 h2 h3=>by
  obtain⟨f1,f2,f3,f4,f5⟩:=cG (H:=H) hH v.ids (fun id aj=>cC v val h3 id aj)
  have QG:∀k,bO φ (H.put (ck H.o v.ids)) k->bO φ H k:=by
   rintro k ⟨id,g1,g2⟩
   by_cases aj:id∈v.ids
   ·rw[f3 id aj]at g1
    refine⟨id, ?_,g2⟩
    revert g1
    cases H.o id<;>simp[ae.fz,ae.live]
   ·rw[f4 id aj]at g1;exact⟨id,g1,g2⟩
  have h4:V.den (ai M φ (H.put (ck H.o v.ids))) φ (H.put (ck H.o v.ids)) w v val:=
   V.jq (H:=H) (fun k h h'=>h (h'.imp id (QG k))) v val (fun id aj=>by
     have dQ:H.us id:=(V.kF v val h3) id aj
     refine⟨?_,rfl,(f5 id).2 dQ⟩
     by_cases hm:id∈v.ids
     ·rw[f3 id hm];exact im.fz _
     ·rw[f4 id hm];exact im.rfl' rfl) h3
  have h5:=dR f1 (o:=so) v y val (fun id aj=>f3 id aj) h1 h4
  refine D.aA (w:=w) (w':=w) (fun k _ hn=>⟨rfl,fun hk=>hn (hk.imp id ?_)⟩) y val h5
  rintro⟨id,g1,g2⟩
  obtain⟨j,k1,k2,k3⟩:=hold id k g1 g2
  refine⟨j, ?_,k2⟩
  have:j∉v.ids:=fun hm=>by
   obtain⟨k4,k5⟩:=h2 j hm
   rcases k3 with⟨k6,k7⟩|⟨i,g,ep,k6,k8,k9,EX⟩
   ·subst k7
    have:=oW _ k4 k6
    have g1:(o' j).live=true:=g1
    rw[this]at g1
    cases g1
   ·exact k5 g (List.mem_of_getElem? k8) ep EX
  rw[f4 j this];exact k1
 have Ft:∀i g val,G[i]? =some g->V.den (ai M φ H) φ H w g.x val->V.den (ai M ay H') ay H' w (.osl (c+i) 0) val:=by
  intro i g val hg this
  obtain⟨uC,bz⟩:=hG i g hg
  have bL:c+i<c+G.length:=by have:=(List.getElem?_eq_some_iff.1 hg).1;omega
  rcases bz with⟨h3,_,_⟩|⟨j,ep,hj,h3,j8⟩
  ·rw[h3]at this
   simp only[V.den]at this
   rw[this]
   refine⟨rfl,bL,fun e' e8=> ?_⟩
   have e8:(o' (c+i)).aZ=some e':=e8
   rw[uC]at e8
   simp only[ae.aZ,Option.some.injEq]at e8
   subst e8
   exact⟨Nat.le_refl _,fun _=>by rw[Fx i g hg,h3]⟩
  ·rw[h3]at this
   obtain⟨g1,g2,g3⟩:=this
   refine⟨g1,bL,fun e' e8=> ?_⟩
   have e8:(o' (c+i)).aZ=some e':=e8
   rw[uC]at e8
   simp only[ae.aZ,Option.some.injEq]at e8
   subst e8
   have rA:(H.o j).aZ=some ep:=by show(so j).aZ=_;rw[j8];rfl
   exact⟨Nat.le_refl _,fun _=>by rw[Fx i g hg,h3];exact(g3 ep rA).2 rfl⟩
 have yl:∀v v' val,Fv c G so gone v v'->V.den (ai M φ H) φ H w v val->V.den (ai M ay H') ay H' w v' val:=by
  intro v v' val h h1
  rcases h with rfl|⟨rfl,h2⟩|⟨i,g,hg,rfl,rfl⟩|⟨y,rfl,h2,h3⟩
  ·trivial
  ·exact dP _ _ h2 h1
  ·exact Ft i g _ hg h1
  ·exact Ly v y val h2 h3 h1
 refine⟨ay,⟨fun id=> ?_,fun id hu=>hh id (by have: ¬id<c+G.length:=hu;omega),fun i j k h1 h2 h3 h4=> ?_,fun k hk=>hH.ours k (bS k hk),hH.tv⟩,fun i=> ?_,bS,by show b<=c+G.length;omega,fun id aj hr=> ?_,fun id e' aj e8=> ?_⟩
 ·have aO:aK M φ H w id:=hH.ok id
  show aK M ay H' w id
  unfold aK at aO|-
  by_cases bL:id<c
  ·rcases ho id bL with h3|⟨h3,hrefs⟩|⟨cs,cs',h3,h4,a7⟩
   ·have e2:H'.o id= .no:=h3
    rw[e2];trivial
   ·have e1:H.o id=o' id:=h3
    have e2:H'.o id=o' id:=rfl
    rw[e1]at aO
    rw[e2,lu id bL]
    cases nR:o' id with
    |no=>trivial
    |row cs=>
     simp only[nR]at aO hrefs|-
     obtain⟨b,cP,ty,k1,k2,k3,k4⟩:=aO
     exact⟨b,cP,ty,k1,k2,lI _ _ hrefs k3,k4⟩
    |arr ep ty sz es=>
     simp only[nR]at aO|-
     obtain⟨k1,xs,k2,evs,k3,k4,k5⟩:=aO
     exact⟨k1,xs,k2,evs,k3,k4,D.aI (fun b _ hn=>⟨rfl,hB b hn⟩) _ _ k5⟩
    |nW ep es=>
     simp only[nR]at aO|-
     exact D.aA (fun b _ hn=>⟨rfl,hB b hn⟩) _ _ aO
    |map kt vt es=>
     simp only[nR]at aO|-
     obtain⟨b,es',clock,k1,k2,k4,k3⟩:=aO
     exact⟨b,es',clock,k1,k2,k4,aH.mono (fun b _ hn=>⟨rfl,hB b hn⟩) _ _ k3⟩
    |dZ l=>
     simp only[nR]at aO|-
     exact D.aA (fun b _ hn=>⟨rfl,hB b hn⟩) _ _ aO
    |kg l last=>
     simp only[nR]at aO|-
     obtain⟨b,k1,k2⟩:=aO
     exact⟨b,k1,k2.mono (fun b _ hn=>⟨rfl,hB b hn⟩) rfl⟩
    |rl s pos=>
     simp only[nR]at aO|-
     exact aO
    |loop nf n env ps a b st pd=>
     simp only[nR]at aO hrefs|-
     obtain⟨b,r,k1,k2,k3,k4,k5,k6,k7,k8,k9,EX⟩:=aO
     exact⟨b,r,k1,k2,k3,k4,k5,k6,k7,k8,k9,fun i=>dP _ _ (fun r hr=>hrefs r (V.kD _ _ r hr)) (EX i)⟩
   ·have e1:H.o id= .row cs:=h3
    have e2:H'.o id= .row cs':=h4
    rw[e1]at aO
    rw[e2,lu id bL]
    obtain⟨b,cP,ty,k1,k2,k3,k4⟩:=aO
    exact⟨b,cP,ty,k1,k2,oX yl _ _ _ a7 k3,k4⟩
  ·by_cases zt:c+G.length<=id
   ·have e2:H'.o id= .no:=hh id zt
    rw[e2];trivial
   ·obtain⟨i,rfl⟩:∃i,id=c+i:=⟨id - c,by omega⟩
    obtain⟨g,hg⟩:∃g,G[i]? =some g:=⟨G[i]'(by omega),by simp⟩
    obtain⟨uC,bz⟩:=hG i g hg
    have e2:H'.o (c+i)= .arr 0 g.ty g.sz g.es:=uC
    rw[e2]
    rcases bz with⟨h3,h4,dX⟩|⟨j,ep,hj,h3,j8⟩
    ·rw[h4]
     refine⟨dX,[], ?_,[],by simp,by simp,rfl⟩
     rw[Fx i g hg,h3]
     exact World.ownsRow_nil _ _ _ _
    ·have this:aK M φ H w j:=hH.ok j
     unfold aK at this
     have e3:H.o j= .arr ep g.ty g.sz g.es:=j8
     simp only[e3]at this
     obtain⟨k1,xs,k2,evs,k3,k4,k5⟩:=this
     exact⟨k1,xs,by rw[Fx i g hg,h3];exact k2,evs,k3,k4,D.aI (fun b _ hn=>⟨rfl,hB b hn⟩) _ _ k5⟩
 ·obtain⟨i',a1,a2,a3⟩:=hold i k h1 h3
  obtain⟨j',b1,b2,b3⟩:=hold j k h2 h4
  have:=hH.apart i' j' k a1 b1 a2 b2
  subst this
  have fS:∀cM,(o' cM).live=true->cM<c->gone cM->False:=fun cM g1 g2 g3=>by
   rw[oW _ g3 g2]at g1
   cases g1
  rcases a3 with⟨a3,a4⟩|⟨ia,ga,ea,a3,a4,a5,a6⟩<;>rcases b3 with⟨b3,b4⟩|⟨ib,gb,eb,b3,b4,b5,b6⟩
  ·omega
  ·exact(fS i h1 a3 (a4 ▸ b5)).elim
  ·exact(fS j h2 b3 (b4 ▸ a5)).elim
  ·have:=vC ia ib ga gb _ _ _ a4 b4 a6 b6
   omega
 ·have hi:=BF l 0 he i
  rw[Nat.zero_add]at hi
  exact yl _ _ _ hi (hd i)
 ·have bL:id<c:=by omega
  have hr:(o' id).bN=true:=hr
  exact⟨(lH id bL).1.1 hr,lu id bL⟩
 ·have bL:id<c:=by omega
  have e8:(o' id).aZ=some e':=e8
  exact⟨e',(lH id bL).1.2 e' e8,Nat.le_refl _,fun _=>lu id bL⟩
theorem cq.UT (gone:Nat->Prop)(c:Nat){b:Nat}{e:Nat->V}{so:Nat->ae}{m:Nat}(l:List V){o':Nat->ae}(hb:b<=c)
 (ho:∀id,id<c->yo c [] so gone (so id) (o' id)) (hh:∀id,c<=id->o' id= .no) (oW:∀id,gone id->id<c->o' id= .no) (he:mC c [] so gone e l 0):cq b ⟨e,so,m⟩ ⟨bF l,o',c⟩:=
 cq.WM gone [] c l rfl hb ho (fun i g h=>by cases h) hh oW (fun i j gi gj id ep gz h=>by cases h) he
theorem cq.mY (gone:Nat->Prop)(x:V)(c:Nat){ty:TypeId}{sz:Nat}{es:List D}{b:Nat}{e:Nat->V}{so:Nat->ae}{m:Nat}(l:List V){o':Nat->ae}(hb:b<=c)
 (ho:∀id,id<c->yo c [⟨x,ty,sz,es⟩] so gone (so id) (o' id)) (hc:o' c= .arr 0 ty sz es) (hx:wg so gone ty sz es x) (hh:∀id,c+1<=id->o' id= .no) (oW:∀id,gone id->id<c->o' id= .no)
 (he:mC c [⟨x,ty,sz,es⟩] so gone e l 0):cq b ⟨e,so,m⟩ ⟨bF l,o',c+1⟩:=
 cq.WM gone [⟨x,ty,sz,es⟩] c l rfl hb ho (fun i g h=>by
  match i,h with
  |0,h=>simp at h;subst h;exact⟨hc,hx⟩) hh oW (fun i j gi gj id ep gz h h' _ _=>by
  match i,j,h,h' with
  |0,0,_,_=>rfl) he
theorem Yo{P:Nat->Prop}:∀id,id<0->P id:=fun id aj=>by omega
@[go_sem] theorem WN (b:Bool):(b==false)= !b:=by cases b<;>rfl
@[go_sem] theorem WO (b:Bool):(b==true)=b:=by cases b<;>rfl
@[go_sem] theorem QH (c:Bool) (v:V):V.vT c (V.vT c v)=V.vT c v:=by cases c<;>rfl
@[go_sem] theorem QI (c:Bool):(c&&c)=c:=by cases c<;>rfl
@[go_sem] theorem MQ {α:Type} (f:α->D) (l:List α) (n:Nat) (h:∀x,(f x).cells.length=n):((l.map f).all fun z=>z.cells.length==n)=true:=by
  simp[List.all_eq_true,h]
attribute [go_sem] implies_true
attribute [go_sem] Option.isSome_none Option.getD_some Option.getD_none
theorem structOf{P:Program}{t:TypeId}(h:(match P.underlying t with|some (.struct _)=>true|_=>false)=true):∃fs,P.underlying t=some (.struct fs):=by
 split at h
 ·exact⟨_,by assumption⟩
 ·cases h
theorem bE{pr:List (List Nat)}{fp:List (List Nat×List Nat)}(h:fp.all (fun x=>x.2.isEmpty)=true):et pr fp=true:=by
 have e:∀i,(fp.getD i ([],[])).2=[]:=fun i=>by
  rw[List.getD_eq_getElem?_getD]
  cases hi:fp[i]? with
  |none=>rfl
  |some x=>simpa using List.all_eq_true.1 h x (List.mem_of_getElem? hi)
 simp only[et,List.all_eq_true,e,jR,List.all_nil,Bool.and_self,Bool.or_true,implies_true]
structure gu (base:Nat) (h o:Nat->ae) (nx:Nat):Prop where
 cQ:Good o nx
 le:base<=nx
 eq:∀id,id<base->o id=h id
def QJ(base:Nat)(h:Nat->ae)(v:V)(o:Nat->ae)(nx:Nat)(K:V->(Nat->ae)->Nat->Prop):Prop:=
 ∀o' nx',nx<=nx'->gu base h o' nx'->(∀id,base<=id->id<nx->o' id=o id)->K v o' nx'
def wO(P:Program)(g:FuncId)(args:List V)(base:Nat)(h h2:Nat->ae)(v:V):Prop:=
 ∀o nx,gu base h o nx->∀K X,QJ base h2 v o nx K->eI P g args o nx K X
theorem gu.ao {base:Nat}{h o:Nat->ae}{nx m i:Nat}{x:ae}(hI:gu base h o nx)(hb:base<=i)(hi:i<m)(hm:nx<=m)(hx:x.refs.all (fun r=>decide (r<m))=true):gu base h (YtealblliddhgiaaGreat.ao o i x) m:=
 ⟨(hI.cQ.mono hm).ao hi hx,Nat.le_trans hI.le hm,fun id aj=>by rw[ad _ _ _ _ (by omega)];exact hI.eq id aj⟩
theorem gu.mono {base:Nat}{h o:Nat->ae}{nx m:Nat}(hI:gu base h o nx)(hm:nx<=m):gu base h o m:=⟨hI.cQ.mono hm,Nat.le_trans hI.le hm,hI.eq⟩
def ext(base:Nat)(h o:Nat->ae):Nat->ae:=fun id=>if id<base then h id else o id
theorem gu.ext {base c:Nat}{h o:Nat->ae}{nx:Nat}(hI:gu base h o nx)(hc:c<=nx)(hb:base<=c):gu c (YtealblliddhgiaaGreat.ext base h o) o nx:=
 ⟨hI.cQ,hc,fun id _=>by unfold YtealblliddhgiaaGreat.ext;split<;>first|exact hI.eq id (by assumption)|rfl⟩
theorem wO.ext {P:Program}{g:FuncId}{args:List V}{base c:Nat}{h h2:Nat->ae}{v:V}(hS:wO P g args base h h2 v)(hb:base<=c)(o0:Nat->ae):wO P g args c (YtealblliddhgiaaGreat.ext base h o0) (YtealblliddhgiaaGreat.ext base h2 o0) v:=by
 intro o nx hI K X hK
 refine hS o nx ⟨hI.cQ,Nat.le_trans hb hI.le,fun id aj=>by rw[hI.eq id (by omega)];unfold YtealblliddhgiaaGreat.ext;rw[if_pos aj]⟩ K X fun o' nx' h1 h2 h3=>hK o' nx' h1 ⟨h2.cQ,Nat.le_trans hI.le h1,fun id aj=> ?_⟩ (fun id h4 h5=>h3 id (by omega) h5)
 unfold YtealblliddhgiaaGreat.ext
 split
 ·exact h2.eq id (by assumption)
 ·rename_i hn
  rw[h3 id (by omega) (by have:=hI.le;omega),hI.eq id aj]
  unfold YtealblliddhgiaaGreat.ext;rw[if_neg hn]
theorem QJ.ext {base c:Nat}{h o:Nat->ae}{v:V}{o1:Nat->ae}{nx wM:Nat}{K:V->(Nat->ae)->Nat->Prop}(hK:QJ base h v o nx K)(hb:base<=c)(hn:nx<=wM)(hc:nx<=c)(ho:∀id,base<=id->id<nx->o1 id=o id):QJ c (YtealblliddhgiaaGreat.ext base h o1) v o1 wM K:=by
 intro o' nx' h1 h2 h3
 refine hK o' nx' (by omega) ⟨h2.cQ,Nat.le_trans hb h2.le,fun id aj=> ?_⟩ fun id h4 h5=> ?_
 ·rw[h2.eq id (by omega)];unfold YtealblliddhgiaaGreat.ext;rw[if_pos aj]
 ·rw[h2.eq id (by omega), <- ho id h4 h5];unfold YtealblliddhgiaaGreat.ext;rw[if_neg (by omega)]
def aS{α σ:Type}(step:σ->α->σ×Bool)(s:σ):List α->σ×Bool
 |[]=>(s,true)
 |x::l=>if(step s x).2=true then aS step (step s x).1 l else((step s x).1,false)
theorem yp{P:Program}{id:Nat}{args:List V}{e:Nat->V}{o:Nat->ae}{nx:Nat}{K X:V->(Nat->ae)->Nat->Prop}(h:dD P id args o nx K X):uF P id K X ⟨e,o,nx⟩ args:=by unfold uF;exact h
theorem wo{α:Type}(f:Nat->α)(i:Nat)(x y:α):ao (ao f i x) i y=ao f i y:=by
 funext j;simp only[ao];split<;>rfl
attribute [go_sem] Int.cast_ofNat_Int
section
variable {P:Program}{n:Nat}{ps:List Nat}{x y:IC}{env:List V}{L:LoopState->Option ka->ae}
def jr(P:Program)(n:Nat)(env:List V)(ps:List Nat)(x y:IC)(L:LoopState->Option ka->ae):Prop:=∀st pd,L st pd= .loop P.funcs.size n env ps x y st pd
theorem Lz{Q:e9->S->Prop}{e:Nat->V}{o:Nat->ae}{nx:Nat}{f:FuncId}{cap:List V}(env:List V)(he:nn e env 0)
 (h:∀L,jr P n env ps x y L->eI P f (.ke nx::cap) (ao o nx (L .ready none)) (nx+1)
  (fun _ o' nx'=>∃st pd,o' nx=L st pd/\st≠ .busy/\vA Q pd ⟨e,ao o' nx (L .exhausted pd),nx'⟩) (fun v o' nx'=>Q (.bK v) ⟨e,o',nx'⟩)):
 Ae P n false ps x y Q ⟨e,o,nx⟩ (.func (.func f) [] cap):=by
 refine CW env he ?_
 have:=h (fun st pd=> .loop P.funcs.size n env ps x y st pd) (fun _ _=>rfl)
 refine this.mono (fun v o' nx' hh=> ?_) (fun v o' nx' hh=>hh)
 obtain⟨st,pd,h1,h2,h3⟩:=hh
 exact⟨_,_,_,_,_,_,_,_,h1,h2,h3⟩
theorem Fy(hL:jr P n env ps x y L)(ba:P.follows .mixedOrders=true){id:Nat}{args:List V}{o:Nat->ae}{nx:Nat}{K X:V->(Nat->ae)->Nat->Prop}{st:LoopState}{pd:Option ka}
 (ho:o id=L st pd) (bL:id<nx) (Hj:ps.all (fun t=>decide (t<n))=true) (hl:args.length=ps.length)
 (h:jZ P n nx true x (sJ P n nx id y K X) ⟨sc (bF env) ps args,o,nx⟩):dD P id args o nx K X:=
 dD.bt ba (ho.trans (hL st pd)) bL Hj hl h
theorem yq(hL:jr P n env ps x y L){b id:Nat}{gU:IC}{K X:V->(Nat->ae)->Nat->Prop}{e:Nat->V}{o:Nat->ae}{nx:Nat}{pd:Option ka}(h:o id=L .ready pd)
 (h2:jZ P n b true gU (lq id K X) ⟨e,ao o id (L .busy pd),nx⟩):sJ P n b id gU K X .normal ⟨e,o,nx⟩:=by
 refine wh (h.trans (hL _ _)) ?_
 rw[<- hL];exact h2
theorem CX(hL:jr P n env ps x y L){id:Nat}{K X:V->(Nat->ae)->Nat->Prop}{e:Nat->V}{o:Nat->ae}{nx:Nat}{st:LoopState}{pd:Option ka}(h:o id=L st pd)(k:K (.d (.bool true)) (ao o id (L .ready none)) nx):lq id K X .normal ⟨e,o,nx⟩:=
 ⟨_,_,_,_,_,_,_,_,h.trans (hL _ _),by rw[<- hL];exact k⟩
theorem As(hL:jr P n env ps x y L){id:Nat}{K X:V->(Nat->ae)->Nat->Prop}{e:Nat->V}{o:Nat->ae}{nx:Nat}{st:LoopState}{pd:Option ka}(h:o id=L st pd)(k:K (.d (.bool false)) (ao o id (L .done (some .ret))) nx):lq id K X .ret ⟨e,o,nx⟩:=
 ⟨_,_,_,_,_,_,_,_,h.trans (hL _ _),by rw[<- hL];exact k⟩
theorem yr(hL:jr P n env ps x y L){id j:Nat}{K X:V->(Nat->ae)->Nat->Prop}{e:Nat->V}{o:Nat->ae}{nx:Nat}{st:LoopState}{pd:Option ka}(h:o id=L st pd)(k:K (.d (.bool false)) (ao o id (L .done (some (.exit j)))) nx):lq id K X (.exit j) ⟨e,o,nx⟩:=
 ⟨_,_,_,_,_,_,_,_,h.trans (hL _ _),by rw[<- hL];exact k⟩
theorem jr.no (hL:jr P n env ps x y L)(st:LoopState)(pd:Option ka):L st pd≠ .no:=by rw[hL];exact ae.noConfusion
theorem jr.refs (hL:jr P n env ps x y L)(st:LoopState)(pd:Option ka):(L st pd).refs=V.ag env:=by rw[hL];rfl
end
end Go.Proofs.YtealblliddhgiaaGreat
namespace Go.Proofs.YtealblliddhgiaaGreat
attribute [go_sem_proc] Int.reduceBEq Int.reduceBNe Int.reduceLT Int.reduceLE Int.reduceEq Int.reduceNe Nat.reducePow Nat.reduceEqDiff Nat.reduceAdd Nat.reduceSub Nat.reduceMul Nat.reduceLeDiff Nat.reduceBEq Nat.reduceLT reduceIte reduceCtorEq Int.reduceToNat
attribute [go_sem] List.range_zero Option.isSome_some and_self List.cons.injEq
theorem wq(n low high:Int):cj Tryz.prog 55 [.i n, .i low, .i high] (.ret [.bool (eX n low high)]):=by
 refine cj.bt mix O9 (by simp) ?_
 rw[Ud]
 simp+contextual only[go_sem]
 rfl
theorem Fz{t:Tm}{left depth:Int}(h:left<1\/depth<1):hO t left depth= -1:=by cases t;simp[hO,h]
theorem nL{l:List Tm}{left depth:Int}(h:left<0):cm l left depth=left:=by
 cases l with
 |nil=>rfl
 |cons k l=>simp[cm,show ¬ (0<=left) by omega]
theorem FA:∀t:Tm,∀left depth:Int, -1<=hO t left depth/\(1<=left->hO t left depth<=left - 1)/\(left<1->hO t left depth= -1):=by
 refine Tm.ind fun op n kids ih left depth=> ?_
 have hs:∀ (l:List Tm) (left d:Int),(∀k∈l,k∈kids)-> -1<=left-> -1<=cm l left d/\cm l left d<=left:=by
  intro l
  induction l with
  |nil=>intro left d _ h;simp[cm,h]
  |cons k l oY=>
   intro left d hk h
   simp only[cm]
   split
   ·rename_i h0
    have h1:=ih k (hk k (by simp)) left d
    have h2:=oY (hO k left d) d (fun x hx=>hk x (by simp[hx])) h1.1
    by_cases hl:1<=left
    ·have:=h1.2.1 hl;omega
    ·have:=h1.2.2 (by omega);omega
   ·omega
 simp only[hO]
 split
 ·rename_i h;refine⟨by omega,fun h1=> ?_,fun _=>rfl⟩;omega
 ·rename_i h
  have:=hs kids (left - 1) (depth - 1) (fun _ h=>h) (by omega)
  exact⟨this.1,fun _=>this.2,fun h=>by omega⟩
theorem CY(l:List Tm)(left d:Int)(h: -1<=left): -1<=cm l left d/\cm l left d<=left:=by
 induction l generalizing left with
 |nil=>simp[cm,h]
 |cons k l oY=>
  simp only[cm]
  split
  ·have h1:=FA k left d
   have h2:=oY (hO k left d) h1.1
   by_cases hl:1<=left
   ·have:=h1.2.1 hl;omega
   ·have:=h1.2.2 (by omega);omega
  ·omega
theorem np(a b:List Tm)(left d:Int):cm (a++b) left d=cm b (cm a left d) d:=by
 induction a generalizing left with
 |nil=>rfl
 |cons k a ih=>
  simp only[List.cons_append,cm]
  split
  ·exact ih _
  ·rename_i h;rw[nL (by omega)]
theorem yu{l:List Tm}{i:Nat}{k:Tm}(hi:l[i]? =some k)(left d:Int)(h:0<=cm (l.take i) left d):cm (l.take (i+1)) left d=hO k (cm (l.take i) left d) d:=by
 rw[List.take_add_one,hi,np]
 simp[cm,h]
theorem yw{l:List Tm}{i:Nat}(left d:Int)(h:cm (l.take i) left d<0):cm l left d=cm (l.take i) left d:=by
 conv=>lhs;rw[<- List.take_append_drop i l]
 rw[np,nL h]
@[reducible] def pQ (cs:List V):Nat->ae:=ao (fun _=> .no) 0 (.row cs)
@[reducible] def Au (cs ds:List V):Nat->ae:=ao (ao (fun _=> .no) 0 (.row cs)) 1 (.row ds)
theorem cT{cs:List V}(h:(ae.row cs).refs.all (fun r=>decide (r<1))=true):Good (pQ cs) 1:=(Good.nil (nx:=1)).ao (by omega) h
theorem jJ{cs ds:List V}(h:(ae.row cs).refs.all (fun r=>decide (r<2))=true)(h2:(ae.row ds).refs.all (fun r=>decide (r<2))=true):Good (Au cs ds) 2:=((Good.nil (nx:=2)).ao (by omega) h).ao (by omega) h2
theorem cq.d1 {e:Nat->V}{so o:Nat->ae}{m:Nat}(l:List V)(hg:Good o 1)(hm:1<=m)(h0:so 0=o 0)(he:eg 1 e l 0):cq 0 ⟨e,so,m⟩ ⟨bF l,o,1⟩:=
 cq.cN l (Nat.zero_le _) hm hg (fun id h=>by obtain rfl:id=0:=by omega
                                             exact h0) he
theorem cq.d2 {e:Nat->V}{so o:Nat->ae}{m:Nat}(l:List V)(hg:Good o 2)(hm:2<=m)(h0:so 0=o 0)(h1:so 1=o 1)(he:eg 2 e l 0):cq 0 ⟨e,so,m⟩ ⟨bF l,o,2⟩:=
 cq.cN l (Nat.zero_le _) hm hg (fun id h=>by
  rcases(by omega:id=0\/id=1)with rfl|rfl
  ·exact h0
  ·exact h1) he
@[reducible] def Tm.row (t:Tm):List V:=[.d (.i t.op), .d (.i t.n), .d (.sl (t.kids.map Tm.d))]
theorem yx(t:Tm)(left depth:Int):hO t left depth=if left<1\/depth<1 then -1 else cm t.kids (left - 1) (depth - 1):=by cases t;simp[hO,Tm.kids]
theorem BH:∀t:Tm,t.fits->∀left depth:Int, -1<=left/\left<=1000000-> -1<=depth/\depth<=1000000->cj Tryz.prog 58 [t.d, .i left, .i depth] (.ret [.i (hO t left depth)]):=by
 refine Tm.gN fun t ih hf left depth hl hd=> ?_
 have qF:=(Tm.cY _).1 hf
 refine cj.bt mix Pa (by simp) ?_
 rw[Ug]
 simp+contextual only[go_sem]
 refine ax (fun h1=> ?_) (fun h1=> ?_)
 ·simp+contextual only[go_sem]
  simp at h1
  rw[Fz h1]
 ·simp at h1
  simp+contextual only[go_sem]
  rw[wrap64 (n:=left - 1) (by omega) (by omega),yx,if_neg (by omega)]
  refine bn (fun k:Nat=>⟨bF [.aa, .d (.i (cm (t.kids.take k) (left - 1) (depth - 1))), .d (.i depth), .ptr 0 0, .aa, .aa, .aa, .d (.i k)],pQ t.row,1⟩)
   (fun k=>k<=t.kids.length) (fun k=>t.kids.length - k) 0 (Nat.zero_le _) (cq.d1 _ (cT rfl) (by omega) rfl ?_) (fun k hk=> ?_)
  ·(repeat(first|exact aw|refine aq ?_|refine ah rfl ?_|refine ah (aV (aU (by omega))) ?_|refine aF rfl (by simp[V.refs,V.ag]<;>first|omega|assumption) ?_))
  have hb:=CY (t.kids.take k) (left - 1) (depth - 1) (by omega)
  simp+contextual only[go_sem]
  refine ax (fun h2=> ?_) (fun h2=> ?_)
  ·simp at h2
   obtain⟨x,hx⟩:∃x,t.kids[k]? =some x:=⟨t.kids[k],by simp[h2.1]⟩
   have lM:=List.mem_of_getElem? hx
   simp+contextual only[go_sem,hx]
   rw[wrap64 (n:=depth - 1) (by omega) (by omega)]
   refine aJ (ih x lM (qF.2 x lM) _ _ (by omega) (by omega)) rfl ?_
   simp+contextual only[go_sem]
   rw[<- yu hx _ _ h2.2]
   refine aE (k+1) h2.1 (by omega) (cq.d1 _ (cT rfl) (by omega) rfl ?_)
   (repeat(first|exact aw|refine aq ?_|refine ah rfl ?_|refine ah (aV (aU (by omega))) ?_|refine aF rfl (by simp[V.refs,V.ag]<;>first|omega|assumption) ?_))
  ·simp+contextual only[go_sem]
   simp only[Bool.and_eq_false_iff,decide_eq_false_iff_not]at h2
   congr 3
   rcases h2 with h2|h2
   ·rw[List.take_of_length_le (by omega)]
   ·exact yw _ _ (by omega)
theorem LA(s:List UInt8)(hs:s.length<=9223372036854775807):cj Tryz.prog 116 [.str s] (.ret [.bool (jm s)]):=by
 refine cj.bt mix Jn (by simp) ?_
 rw[Lm]
 simp+contextual only[go_sem]
 refine bn (fun k:Nat=>⟨bF [.d (.str s), .aa, .aa, .d (.i k)],fun _=> .no,0⟩)
  (fun k=>k<=s.length/\(s.take k).all letterF=true) (fun k=>s.length - k) 0 ⟨Nat.zero_le _,by simp⟩ (cq.d0 _ ?_) (fun k hk=> ?_)
 ·(repeat(first|exact aw|refine aq ?_|refine ah rfl ?_|refine ah (aV (aU (by omega))) ?_|refine aF rfl (by simp[V.refs,V.ag]<;>first|omega|assumption) ?_))
 simp+contextual only[go_sem]
 refine ax (fun h2=> ?_) (fun h2=> ?_)
 ·simp at h2
  obtain⟨x,hx⟩:∃x,s[k]? =some x:=⟨s[k],by simp[h2]⟩
  simp+contextual only[go_sem,hx]
  refine ax (fun h3=> ?_) (fun h3=> ?_)
  ·simp+contextual only[go_sem]
   have:jm s=false:=by
    have:s.all letterF=false:=by
     rw[List.all_eq_false]
     refine⟨x,List.mem_of_getElem? hx, ?_⟩
     simp only[letterF,h3];simp
    simp[jm,this]
   rw[this]
  ·simp+contextual only[go_sem]
   refine aE (k+1) ⟨h2, ?_⟩ (by omega) (cq.d0 _ ?_)
   ·rw[List.take_add_one,hx,List.all_append,hk.2]
    simp[letterF,h3]
   ·(repeat(first|exact aw|refine aq ?_|refine ah rfl ?_|refine ah (aV (aU (by omega))) ?_|refine aF rfl (by simp[V.refs,V.ag]<;>first|omega|assumption) ?_))
 ·simp+contextual only[go_sem]
  refine aJ (wq _ _ _) rfl ?_
  simp+contextual only[go_sem]
  simp at h2
  have:=hk.2
  rw[List.take_of_length_le (by omega)]at this
  simp[jm,this]
theorem BI(l:List nT)(bs:List (List UInt8))(hl:l.length<=1000)(hb:bs.length<=1000)(hs:∀x∈l,x.name.length<=9223372036854775807):
 cj Tryz.prog 83 [.sl (l.map nT.d), .sl (bs.map .str)] (.ret [.sl (((cl l bs).getD []).map .str), .bool (cl l bs).isSome]):=by
 refine cj.bt mix Pr (by simp) ?_
 rw[UE]
 simp+contextual only[go_sem]
 refine bn (fun k:Nat=>⟨bF [.d (.sl (l.map nT.d)), .d (.sl ((bs++(l.take k).map (·.name)).map .str)), .aa, .aa, .aa, .aa, .d (.i k)],fun _=> .no,0⟩)
  (fun k=>k<=l.length/\cl l bs=cl (l.drop k) (bs++(l.take k).map (·.name))) (fun k=>l.length - k) 0 ⟨Nat.zero_le _,by simp⟩ (cq.d0 _ ?_) (fun k hk=> ?_)
 ·simp only[List.take_zero,List.map_nil,List.append_nil]
  (repeat(first|exact aw|refine aq ?_|refine ah rfl ?_|refine ah (aV (aU (by omega))) ?_|refine aF rfl (by simp[V.refs,V.ag]<;>first|omega|assumption) ?_))
 simp+contextual only[go_sem]
 refine ax (fun h2=> ?_) (fun h2=> ?_)
 ·simp at h2
  obtain⟨x,hx⟩:∃x,l[k]? =some x:=⟨l[k],by simp[h2]⟩
  have lM:=List.mem_of_getElem? hx
  have xQ:l.drop k=x::l.drop (k+1):=by
   rw[List.drop_eq_getElem_cons h2]
   rw[List.getElem?_eq_getElem h2]at hx;injection hx with hx;rw[hx]
  generalize hB:bs++(l.take k).map (·.name)=B at*
  have Y5:B.length<=2000:=by rw[<- hB];simp;omega
  simp+contextual only[go_sem]
  refine bn (fun j:Nat=>⟨bF [.d (.sl (l.map nT.d)), .d (.sl (B.map .str)), .aa, .aa, .aa, .aa, .d (.i k), .d (.i j)],fun _=> .no,0⟩)
   (fun j=>j<=B.length/\(B.take j).any (· ==x.name)=false) (fun j=>B.length - j) 0 ⟨Nat.zero_le _,by simp⟩ (cq.d0 _ ?_) (fun j hj=> ?_)
  ·(repeat(first|exact aw|refine aq ?_|refine ah rfl ?_|refine ah (aV (aU (by omega))) ?_|refine aF rfl (by simp[V.refs,V.ag]<;>first|omega|assumption) ?_))
  simp+contextual only[go_sem]
  refine ax (fun h3=> ?_) (fun h3=> ?_)
  ·simp at h3
   obtain⟨y,hy⟩:∃y,B[j]? =some y:=⟨B[j],by simp[h3]⟩
   simp+contextual only[go_sem,hx,hy]
   refine aP (by decide) ?_
   simp+contextual only[go_sem]
   refine ax (fun h4=> ?_) (fun h4=> ?_)
   ·simp+contextual only[go_sem]
    have:cl l bs=none:=by
     rw[hk.2,xQ,cl,if_pos]
     rw[List.any_eq_true]
     exact⟨y,List.mem_of_getElem? hy,h4⟩
    rw[this];rfl
   ·simp+contextual only[go_sem]
    refine aE (j+1) ⟨h3, ?_⟩ (by omega) (cq.d0 _ ?_)
    ·rw[List.take_add_one,hy,List.any_append,hj.2]
     simp only[Option.toList_some,List.any_cons,h4,List.any_nil,Bool.or_false]
    ·(repeat(first|exact aw|refine aq ?_|refine ah rfl ?_|refine ah (aV (aU (by omega))) ?_|refine aF rfl (by simp[V.refs,V.ag]<;>first|omega|assumption) ?_))
  ·simp at h3
   have LB:=hj.2
   rw[List.take_of_length_le (by omega)]at LB
   simp+contextual only[go_sem,hx]
   refine aJ (LA x.name (hs x lM)) rfl ?_
   simp+contextual only[go_sem,hx]
   refine gL (fO [.bool (eX x.args 0 4)] ?_ ?_)
   ·simp+contextual only[go_sem]
    exact fun _=>wq _ _ _
   simp+contextual only[go_sem]
   refine ax (fun h4=> ?_) (fun h4=> ?_)
   ·simp+contextual only[go_sem]
    have:cl l bs=none:=by
     rw[hk.2,xQ,cl,if_neg (by rw[LB];exact Bool.false_ne_true),if_pos h4]
    rw[this];rfl
   ·have e1:B.length<=140737488355328:=by omega
    have e2:B.length*16<=140737488355328:=by omega
    have e3:B.length<=140737488355327:=by omega
    have e4:(B.length+1)*16<=140737488355328:=by omega
    simp+contextual only[go_sem,hx,e1,e2,e3,e4]
    refine aP (by decide) ?_
    simp+contextual only[go_sem]
    have hn:cl l bs=cl (l.drop (k+1)) (bs++(l.take (k+1)).map (·.name)):=by
     rw[hk.2,xQ,cl,if_neg (by rw[LB];exact Bool.false_ne_true),if_neg (by rw[h4];exact Bool.false_ne_true), <- hB,List.take_add_one,hx]
     simp
    refine aE (k+1) ⟨h2,hn⟩ (by omega) (cq.UT (fun _=>True) 0 _ (Nat.le_refl _) Yo (fun _ _=>rfl) (fun _ _ _=>rfl) ?_)
    have Rw:(bs++(l.take (k+1)).map (·.name)).map D.str=B.map D.str++[D.str x.name]:=by
     rw[<- hB,List.take_add_one,hx];simp
    rw[Rw]
    (repeat(first|exact ei|refine dk ?_|refine cR rfl ?_|refine cR (aV (aU (by omega))) ?_|refine ir 0 rfl rfl rfl ?_|refine iq rfl (by simp[V.refs,V.ag]<;>first|omega|assumption) ?_|refine iu rfl (by simp[V.ids]<;>omega) ?_))
 ·simp+contextual only[go_sem]
  simp at h2
  have:cl l bs=some (bs++l.map (·.name)):=by
   rw[hk.2,List.drop_eq_nil_of_le (by omega),cl,List.take_of_length_le (by omega)]
  rw[this,List.take_of_length_le (by omega)]
  rfl
theorem LC(a b:List UInt8)(m n:Int):pn Tryz.prog 100 103 (.agg [.str a, .i m]) (.agg [.str b, .i n])=some (a==b&&m==n):=by
 have h1:bc Tryz.prog 103=some (.struct [(9,0),(3,1)]):=by kernel_rfl
 have h2:bc Tryz.prog 9=some .str:=by kernel_rfl
 have h3:bc Tryz.prog 3=some .int:=by kernel_rfl
 have h4:b9 Tryz.prog 9=some false:=by kernel_rfl
 have h5:b9 Tryz.prog 3=some false:=by kernel_rfl
 simp[pn,h1,h2,h3,h4,h5,wS,JM,jb,D2]
@[go_sem] theorem UU (o:Nat->ae) (nv:Bool) (a b:List UInt8) (m n:Int):B7 Tryz.prog o 103 nv (.d (.agg [.str a, .i m])) (.d (.agg [.str b, .i n]))=some (.d (.bool (a==b&&m==n))):=by
  obtain⟨fs,h⟩:∃fs,Tryz.prog.underlying 103=some (.struct fs):=structOf (by kernel_rfl)
  have h2:Tryz.prog.eqGuardType Tryz.prog.depth 103=false:=by kernel_rfl
  unfold B7
  rw[h]
  dsimp only
  rw[if_pos h2,LC]
  rfl
theorem CZ{l:List nT}{bs B:List (List UInt8)}(h:cl l bs=some B):B=bs++l.map (·.name):=by
 induction l generalizing bs with
 |nil=>simp[cl]at h;simp[h]
 |cons x l ih=>
  simp only[cl]at h
  split at h
  ·cases h
  ·split at h
   ·cases h
   ·rw[ih h];simp
structure bP.Fits (s:bP):Prop where
 lc:s.cons.length<=9223372036854775807
 lf:s.dE.length<=9223372036854775807
 nc:∀x∈s.cons,x.name.length<=9223372036854775807
 nf:∀x∈s.dE,x.name.length<=9223372036854775807
theorem QK(s:bP)(hs:s.Fits):cj Tryz.prog 42 [s.d] (.ret [.bool (oT s)]):=by
 refine cj.bt mix O2 (by simp) ?_
 rw[T1]
 simp+contextual only[go_sem]
 refine aJ (wq _ _ _) rfl ?_
 simp+contextual only[go_sem]
 cases h1:(!eX s.cons.length 2 12||decide (8<(s.dE.length:Int)))with
 |true=>
  simp+contextual only[go_sem,h1]
  simp only[oT,h1,if_true]
 |false=>
  simp[eX]at h1
  obtain⟨a,b,r,hc⟩:∃a b r,s.cons=a::b::r:=by
   match h:s.cons with
   |[]=>rw[h]at h1;simp at h1
   |[a]=>rw[h]at h1;simp at h1
   |a::b::r=>exact⟨a,b,r,rfl⟩
  have kT:(!eX s.cons.length 2 12||decide (8<(s.dE.length:Int)))=false:=by simp[eX];omega
  simp+contextual only[go_sem,kT,hc]
  have C0:oT s=if(!lP a fB|| !lP b tB)=true then false else match cl s.cons []with
   |none=>false
   |some l=>(cl s.dE l).isSome:=by
   unfold oT
   rw[if_neg (by rw[kT];exact Bool.false_ne_true),hc]
   dsimp only
   rfl
  refine ax (fun h2=> ?_) (fun h2=> ?_)
  ·simp+contextual only[go_sem]
   have Ck:(!lP a fB|| !lP b tB)=true:=h2
   rw[C0,if_pos Ck]
  ·simp+contextual only[go_sem,hc]
   have hl:(a::b::r).length<=1000:=by rw[<- hc];omega
   have Rv:=BI (a::b::r) [] hl (by simp) (by rw[<- hc];exact hs.nc)
   simp only[List.map_cons,List.map_nil]at Rv
   refine bM Rv ?_
   have Ck:(!lP a fB|| !lP b tB)=false:=h2
   rw[C0,if_neg (by rw[Ck];exact Bool.false_ne_true),hc]
   cases hn:cl (a::b::r) []with
   |none=>simp+contextual only[go_sem,hn]
   |some B=>
    simp+contextual only[go_sem,hn]
    have hB:B.length<=1000:=by
     have:=CZ hn
     rw[this];simp at hl|-;omega
    have UW:=BI s.dE B (by omega) hB hs.nf
    refine bM UW ?_
    simp+contextual only[go_sem]
end Go.Proofs.YtealblliddhgiaaGreat
namespace Go.Proofs.YtealblliddhgiaaGreat
theorem gQ{l:List nT}{n:Int}{x:nT}(h:l[n.toNat]? =some x):jn l n=x.args:=by simp[jn,h]
theorem mO{l:List nT}{n:Int}(h:eX n 0 (l.length - 1)=true):0<=n/\∃x,l[n.toNat]? =some x:=by
 simp[eX]at h
 exact⟨h.1,l[n.toNat]'(by omega),by simp⟩
theorem LD(s:bP)(t:Tm)(hs:s.Fits)(ht:t.kids.length<=9223372036854775807):cj Tryz.prog 97 [s.d,t.d] (.ret [.bool (bp s t)]):=by
 refine cj.bt mix Py (by simp) ?_
 rw[UR]
 simp+contextual only[go_sem]
 rcases(by omega:t.op=1\/t.op=2\/t.op=3\/t.op=4\/t.op=5\/t.op=8\/(t.op=6\/t.op=7\/t.op=9\/t.op=10\/t.op=11\/t.op=12\/t.op=13\/t.op=14\/t.op=15)\/(t.op<1\/15<t.op))with h|h|h|h|h|h|h|h
 ·have hn:bp s t=((t.kids.length:Int)==0&&eX t.n 0 19):=by simp[bp,h]
  simp+contextual only[go_sem,h]
  refine gL (fO [.bool (eX t.n 0 19)] ?_ ?_)
  ·simp+contextual only[go_sem]
   exact fun _=>wq _ _ _
  simp+contextual only[go_sem,h]
  rw[hn]
 ·have hn:bp s t=((t.kids.length:Int)==0&&eX t.n (-1000000) 1000000):=by simp[bp,h]
  simp+contextual only[go_sem,h]
  refine gL (fO [.bool (eX t.n (-1000000) 1000000)] ?_ ?_)
  ·simp+contextual only[go_sem]
   exact fun _=>wq _ _ _
  simp+contextual only[go_sem,h]
  rw[hn]
 ·have hn:bp s t=(eX t.n 0 (s.cons.length - 1)&&(t.kids.length:Int)==jn s.cons t.n):=by simp[bp,h]
  simp+contextual only[go_sem,h]
  rw[wrap64 (by have:=hs.lc;omega) (by have:=hs.lc;omega)]
  refine aJ (wq _ _ _) rfl ?_
  cases hI:eX t.n 0 (s.cons.length - 1)with
  |false=>
   simp+contextual only[go_sem,h,hI]
   rw[hn,hI];rfl
  |true=>
   obtain⟨h0,x,hx⟩:=mO hI
   simp+contextual only[go_sem,h,hI,hx,h0]
   rw[hn,hI,gQ hx];rfl
 ·have hn:bp s t=(eX t.n 0 (s.dE.length - 1)&&(t.kids.length:Int)==jn s.dE t.n):=by simp[bp,h]
  simp+contextual only[go_sem,h]
  rw[wrap64 (by have:=hs.lf;omega) (by have:=hs.lf;omega)]
  refine aJ (wq _ _ _) rfl ?_
  cases hI:eX t.n 0 (s.dE.length - 1)with
  |false=>
   simp+contextual only[go_sem,h,hI]
   rw[hn,hI];rfl
  |true=>
   obtain⟨h0,x,hx⟩:=mO hI
   simp+contextual only[go_sem,h,hI,hx,h0]
   rw[hn,hI,gQ hx];rfl
 ·have hn:bp s t=(eX t.n 0 (s.dE.length - 1)&&decide ((t.kids.length:Int)<jn s.dE t.n)):=by simp[bp,h]
  simp+contextual only[go_sem,h]
  rw[wrap64 (by have:=hs.lf;omega) (by have:=hs.lf;omega)]
  refine aJ (wq _ _ _) rfl ?_
  cases hI:eX t.n 0 (s.dE.length - 1)with
  |false=>
   simp+contextual only[go_sem,h,hI]
   rw[hn,hI];rfl
  |true=>
   obtain⟨h0,x,hx⟩:=mO hI
   simp+contextual only[go_sem,h,hI,hx,h0]
   rw[hn,hI,gQ hx];rfl
 ·have hn:bp s t=((t.kids.length:Int)==2&&eX t.n 0 19):=by simp[bp,h]
  simp+contextual only[go_sem,h]
  refine gL (fO [.bool (eX t.n 0 19)] ?_ ?_)
  ·simp+contextual only[go_sem]
   exact fun _=>wq _ _ _
  simp+contextual only[go_sem,h]
  rw[hn]
 ·have hn:bp s t=((t.kids.length:Int)==2&&t.n==0):=by
   rcases h with h|h|h|h|h|h|h|h|h<;>simp[bp,h,eX]
  rw[hn]
  rcases h with h|h|h|h|h|h|h|h|h<;>simp+contextual only[go_sem,h]
 ·have hn:bp s t=false:=by
   simp[bp,eX,show ¬ (t.op=1) by omega,show ¬ (t.op=2) by omega,show ¬ (t.op=3) by omega,show ¬ (t.op=4) by omega,show ¬ (t.op=5) by omega,show ¬ (t.op=8) by omega,show ¬ (6<=t.op/\t.op<=15) by omega]
  have e:∀k:Int,1<=k->k<=15->(t.op==k)=false:=fun k h1 h2=>by simp;omega
  simp+contextual only[go_sem,e 1 (by omega) (by omega),e 2 (by omega) (by omega),e 3 (by omega) (by omega),e 4 (by omega) (by omega),e 5 (by omega) (by omega),e 6 (by omega) (by omega),e 7 (by omega) (by omega),e 8 (by omega) (by omega),e 9 (by omega) (by omega),e 10 (by omega) (by omega),e 11 (by omega) (by omega),e 12 (by omega) (by omega),e 13 (by omega) (by omega),e 14 (by omega) (by omega),e 15 (by omega) (by omega)]
  rw[hn]
theorem dG(s:bP)(t:Tm):eY s t=(bp s t&&t.kids.all (eY s)):=by
 have:∀l:List Tm,qW s l=l.all (eY s):=fun l=>by
  induction l with
  |nil=>rfl
  |cons k l ih=>simp[qW,ih]
 cases t;simp[eY,this,Tm.kids]
theorem js{α:Type}{l:List α}{p:α->Bool}{k:Nat}{x:α}(hx:l[k]? =some x)(h:p x=false):l.all p=false:=by
 rw[List.all_eq_false];exact⟨x,List.mem_of_getElem? hx,by rw[h];exact Bool.false_ne_true⟩
theorem kG{α:Type}{l:List α}{p:α->Bool}{k:Nat}{x:α}(hx:l[k]? =some x)(h0:(l.take k).all p=true)(h:p x=true):(l.take (k+1)).all p=true:=by
 rw[List.take_add_one,hx,List.all_append,h0];simp[h]
theorem kH{α:Type}{l:List α}{p:α->Bool}{k:Nat}(h0:(l.take k).all p=true)(h:l.length<=k):l.all p=true:=by
 rwa [List.take_of_length_le h]at h0
theorem bH{α:Type}{l:List α}{k:Nat}(h:k<l.length):∃x,l[k]? =some x:=⟨l[k],by simp[h]⟩
@[reducible] def bP.row (s:bP):List V:=[.d (.sl (s.cons.map nT.d)), .d (.sl (s.dE.map nT.d))]
theorem HC(s:bP)(hs:s.Fits):∀t:Tm,t.fits->cj Tryz.prog 59 [s.d,t.d] (.ret [.bool (eY s t)]):=by
 refine Tm.gN fun t ih hf=> ?_
 have qF:=(Tm.cY _).1 hf
 refine cj.bt mix Pb (by simp) ?_
 rw[Uh]
 simp+contextual only[go_sem]
 refine aJ (LD s t hs qF.1) rfl ?_
 simp+contextual only[go_sem]
 rw[dG]
 refine ax (fun h1=> ?_) (fun h1=> ?_)
 ·simp+contextual only[go_sem]
  simp at h1;simp[h1]
 ·simp at h1
  rw[h1,Bool.true_and]
  simp+contextual only[go_sem]
  refine bn (fun k:Nat=>⟨bF [.aa, .aa, .ptr 0 0, .ptr 1 0, .aa, .d (.i k)],Au s.row t.row,2⟩)
   (fun k=>k<=t.kids.length/\(t.kids.take k).all (eY s)=true) (fun k=>t.kids.length - k) 0 ⟨Nat.zero_le _,by simp⟩ (cq.d2 _ (jJ rfl rfl) (by omega) rfl rfl ?_) (fun k hk=> ?_)
  ·(repeat(first|exact aw|refine aq ?_|refine ah rfl ?_|refine ah (aV (aU (by omega))) ?_|refine aF rfl (by simp[V.refs,V.ag]<;>first|omega|assumption) ?_))
  simp+contextual only[go_sem]
  refine ax (fun h2=> ?_) (fun h2=> ?_)
  ·simp at h2
   obtain⟨x,hx⟩:=bH h2
   have lM:=List.mem_of_getElem? hx
   simp+contextual only[go_sem,hx]
   refine dV (ih x lM (qF.2 x lM)) rfl ?_
   simp+contextual only[go_sem]
   refine aP (by decide) ?_
   simp+contextual only[go_sem]
   refine ax (fun h3=> ?_) (fun h3=> ?_)
   ·simp+contextual only[go_sem]
    simp at h3
    rw[js hx h3]
   ·simp+contextual only[go_sem]
    simp at h3
    refine aE (k+1) ⟨h2,kG hx hk.2 h3⟩ (by omega) (cq.d2 _ (jJ rfl rfl) (by omega) rfl rfl ?_)
    (repeat(first|exact aw|refine aq ?_|refine ah rfl ?_|refine ah (aV (aU (by omega))) ?_|refine aF rfl (by simp[V.refs,V.ag]<;>first|omega|assumption) ?_))
  ·simp+contextual only[go_sem]
   simp at h2
   rw[kH hk.2 h2]
theorem LF(s:bP)(hs:s.Fits)(t:Tm)(hf:t.fits):cj Tryz.prog 19 [s.d,t.d] (.ret [.bool (gm s t)]):=by
 refine cj.bt mix OV (by simp) ?_
 rw[TE]
 simp+contextual only[go_sem]
 refine aJ (BH t hf 40 12 (by omega) (by omega)) rfl ?_
 simp+contextual only[go_sem]
 refine gL (fO [.bool (eY s t)] ?_ ?_)
 ·simp+contextual only[go_sem]
  exact fun _=>HC s hs t hf
 simp+contextual only[go_sem]
 rfl
theorem gR:∀l l':List Tm,l.length=l'.length->(gO l l'=true↔∀ (i:Nat) (x y:Tm),l[i]? =some x->l'[i]? =some y->gq x y=true)
 |[],l',_=>by simp[gO]
 |k::l,k'::l',h=>by
  simp only[gO,Bool.and_eq_true]
  rw[gR l l' (by simpa using h)]
  constructor
  ·rintro⟨h1,h2⟩ i x y hx hy
   cases i with
   |zero=>simp at hx hy;subst hx;subst hy;exact h1
   |succ i=>exact h2 i x y (by simpa using hx) (by simpa using hy)
  ·intro h3
   exact⟨h3 0 k k' rfl rfl,fun i x y hx hy=>h3 (i+1) x y (by simpa using hx) (by simpa using hy)⟩
 |_::_,[],h=>by simp at h
theorem oZ(a b:Tm):gq a b=(a.op==b.op&&a.n==b.n&&a.kids.length==b.kids.length&&gO a.kids b.kids):=by cases a;cases b;simp[gq,Tm.op,Tm.n,Tm.kids]
theorem LG:∀a:Tm,a.fits->∀b:Tm,b.fits->cj Tryz.prog 21 [a.d,b.d] (.ret [.bool (gq a b)]):=by
 refine Tm.gN fun t ih hf b hb=> ?_
 have qF:=(Tm.cY _).1 hf
 have D4:=(Tm.cY _).1 hb
 refine cj.bt mix OX (by simp) ?_
 rw[TG,oZ]
 simp+contextual only[go_sem]
 refine ax (fun h1=> ?_) (fun h1=> ?_)
 ·simp+contextual only[go_sem]
  have:(t.op==b.op&&t.n==b.n&&t.kids.length==b.kids.length)=false:=by
   rw[Bool.eq_false_iff]
   intro h
   simp at h
   simp[h]at h1
  rw[this];rfl
 ·have kT:t.op=b.op/\t.n=b.n/\t.kids.length=b.kids.length:=by
   simp at h1
   refine⟨h1.1.1,h1.1.2,by have:=h1.2;omega⟩
  rw[show(t.op==b.op&&t.n==b.n&&t.kids.length==b.kids.length)=true by simp[kT],Bool.true_and]
  have hl:=kT.2.2
  simp+contextual only[go_sem]
  refine bn (fun k:Nat=>⟨bF [.aa, .aa, .ptr 0 0, .ptr 1 0, .aa, .d (.i k)],Au t.row b.row,2⟩)
   (fun k=>k<=t.kids.length/\∀i,i<k->∀x y,t.kids[i]? =some x->b.kids[i]? =some y->gq x y=true) (fun k=>t.kids.length - k) 0 ⟨Nat.zero_le _,fun i h=>by omega⟩ (cq.d2 _ (jJ rfl rfl) (by omega) rfl rfl ?_) (fun k hk=> ?_)
  ·(repeat(first|exact aw|refine aq ?_|refine ah rfl ?_|refine ah (aV (aU (by omega))) ?_|refine aF rfl (by simp[V.refs,V.ag]<;>first|omega|assumption) ?_))
  simp+contextual only[go_sem]
  refine ax (fun h2=> ?_) (fun h2=> ?_)
  ·simp at h2
   obtain⟨x,hx⟩:=bH h2
   obtain⟨y,hy⟩:=bH (l:=b.kids) (k:=k) (by omega)
   have lM:=List.mem_of_getElem? hx
   have Yp:=List.mem_of_getElem? hy
   simp+contextual only[go_sem,hx,hy]
   refine dV (ih x lM (qF.2 x lM) y (D4.2 y Yp)) rfl ?_
   simp+contextual only[go_sem]
   refine aP (by decide) ?_
   simp+contextual only[go_sem]
   refine ax (fun h3=> ?_) (fun h3=> ?_)
   ·simp+contextual only[go_sem]
    simp at h3
    have:gO t.kids b.kids=false:=by
     rw[Bool.eq_false_iff]
     intro h
     have:=(gR _ _ hl).1 h k x y hx hy
     rw[h3]at this;cases this
    rw[this]
   ·simp+contextual only[go_sem]
    simp at h3
    refine aE (k+1) ⟨h2,fun i hi u v hu hv=> ?_⟩ (by omega) (cq.d2 _ (jJ rfl rfl) (by omega) rfl rfl ?_)
    ·by_cases e:i=k
     ·subst e
      rw[hx]at hu;rw[hy]at hv
      injection hu with hu;injection hv with hv;subst hu;subst hv;exact h3
     ·exact hk.2 i (by omega) u v hu hv
    ·(repeat(first|exact aw|refine aq ?_|refine ah rfl ?_|refine ah (aV (aU (by omega))) ?_|refine aF rfl (by simp[V.refs,V.ag]<;>first|omega|assumption) ?_))
  ·simp+contextual only[go_sem]
   simp at h2
   have:gO t.kids b.kids=true:=(gR _ _ hl).2 fun i x y hx hy=>hk.2 i (by have:=(List.getElem?_eq_some_iff.1 hx).1;omega) x y hx hy
   rw[this]
theorem wu(t:Tm)(hf:t.fits):cj Tryz.prog 20 [t.d] (.ret [.bool (mq t)]):=by
 refine cj.bt mix OW (by simp) ?_
 rw[TF]
 simp+contextual only[go_sem]
 refine aJ (BH t hf 50 14 (by omega) (by omega)) rfl ?_
 simp+contextual only[go_sem]
 rfl
theorem Av(s:bP)(hs:s.Fits):cj Tryz.prog 47 [s.d] (.ret [.bool (kE s)]):=by
 refine cj.bt mix O3 (by simp) ?_
 rw[T6]
 simp+contextual only[go_sem]
 refine ax (fun h1=> ?_) (fun h1=> ?_)
 ·simp+contextual only[go_sem]
  simp only[kE,h1];rfl
 ·have e:kE s=(fm s.cons&&fm s.dE):=by simp only[kE,h1];rfl
  rw[e]
  simp at h1
  simp+contextual only[go_sem]
  refine bn (fun k:Nat=>⟨bF [.aa, .ptr 0 0, .aa, .d (.i k)],pQ s.row,1⟩)
   (fun k=>k<=s.cons.length/\fm (s.cons.take k)=true) (fun k=>s.cons.length - k) 0 ⟨Nat.zero_le _,by simp[fm]⟩ (cq.d1 _ (cT rfl) (by omega) rfl ?_) (fun k hk=> ?_)
  ·(repeat(first|exact aw|refine aq ?_|refine ah rfl ?_|refine ah (aV (aU (by omega))) ?_|refine aF rfl (by simp[V.refs,V.ag]<;>first|omega|assumption) ?_))
  simp+contextual only[go_sem]
  refine ax (fun h2=> ?_) (fun h2=> ?_)
  ·simp at h2
   obtain⟨x,hx⟩:=bH h2
   simp+contextual only[go_sem,hx]
   refine ax (fun h3=> ?_) (fun h3=> ?_)
   ·simp+contextual only[go_sem]
    rw[show fm s.cons=false from js hx (by simpa using h3)];rfl
   ·simp+contextual only[go_sem]
    refine aE (k+1) ⟨h2,kG hx hk.2 (by simpa using h3)⟩ (by omega) (cq.d1 _ (cT rfl) (by omega) rfl ?_)
    (repeat(first|exact aw|refine aq ?_|refine ah rfl ?_|refine ah (aV (aU (by omega))) ?_|refine aF rfl (by simp[V.refs,V.ag]<;>first|omega|assumption) ?_))
  ·simp at h2
   rw[show fm s.cons=true from kH hk.2 h2,Bool.true_and]
   simp+contextual only[go_sem]
   refine bn (fun k:Nat=>⟨bF [.aa, .ptr 0 0, .aa, .aa, .d (.i k)],pQ s.row,1⟩)
    (fun k=>k<=s.dE.length/\fm (s.dE.take k)=true) (fun k=>s.dE.length - k) 0 ⟨Nat.zero_le _,by simp[fm]⟩ (cq.d1 _ (cT rfl) (by omega) rfl ?_) (fun k hk=> ?_)
   ·(repeat(first|exact aw|refine aq ?_|refine ah rfl ?_|refine ah (aV (aU (by omega))) ?_|refine aF rfl (by simp[V.refs,V.ag]<;>first|omega|assumption) ?_))
   simp+contextual only[go_sem]
   refine ax (fun h4=> ?_) (fun h4=> ?_)
   ·simp at h4
    obtain⟨x,hx⟩:=bH h4
    simp+contextual only[go_sem,hx]
    refine ax (fun h3=> ?_) (fun h3=> ?_)
    ·simp+contextual only[go_sem]
     rw[show fm s.dE=false from js hx (by simpa using h3)]
    ·simp+contextual only[go_sem]
     refine aE (k+1) ⟨h4,kG hx hk.2 (by simpa using h3)⟩ (by omega) (cq.d1 _ (cT rfl) (by omega) rfl ?_)
     (repeat(first|exact aw|refine aq ?_|refine ah rfl ?_|refine ah (aV (aU (by omega))) ?_|refine aF rfl (by simp[V.refs,V.ag]<;>first|omega|assumption) ?_))
   ·simp at h4
    rw[show fm s.dE=true from kH hk.2 h4]
    simp+contextual only[go_sem]
end Go.Proofs.YtealblliddhgiaaGreat
