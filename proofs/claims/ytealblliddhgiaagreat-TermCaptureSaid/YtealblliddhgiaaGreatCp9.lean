/-
  A PART OF THE PROOF. Conditions: none.
-/
import Derived.Test.YtealblliddhgiaaGreatCp8
set_option linter.unusedSimpArgs false
set_option linter.unusedVariables false
namespace Go.Proofs.YtealblliddhgiaaGreat
def ae.JD:ae->Bool
 | .oh .. =>true
 |_=>false
def HT(o:Nat->ae)(v:V):Option D:=if v.ids.all (fun id=>(o id).JD)=true then dG o v else none
section
variable (ρ:Nat->Option Nat)(o' o:Nat->ae)(nx:Nat)
mutual
def qA:V->V->Prop
 | .ab,_=>True
 | .d x,v=>HT o v=some x
 | .aW,v=>v= .aW
 | .agg cs,v=>match v with| .agg ds=>pY cs ds|_=>False
 | .bW cs,v=>match v with| .bW ds=>pY cs ds|_=>False
 | .ptr cS yo,v=>match v with| .ptr id off=>ρ cS=some id/\yo=off/\cS<nx|_=>False
 | .osl cS gG,v=>cS<nx/\(o' cS).aZ=some gG/\match v with
   | .aW=>ρ cS=none
   | .osl id ep=>ρ cS=some id/\(o id).aZ=some ep
   |_=>False
 | .pe cS gG i' nb yo,v=>cS<nx/\(o' cS).aZ=some gG/\match v with
   | .pe id ep i sz off=>ρ cS=some id/\(o id).aZ=some ep/\i'=i/\nb=sz/\yo=off
   |_=>False
 | .pp cs off,v=>v= .pp cs off
 | .func fn a b,v=>match v with| .func Y1 a' b'=>fn=Y1/\pY a a'/\pY b b'|_=>False
 | .iface t x,v=>match v with| .iface t' y=>t=t'/\qA x y|_=>False
 | .nC es,v=>v= .nC es
 | .rz cS yo n',v=>match v with| .rz id off n=>ρ cS=some id/\yo=off/\n'=n/\cS<nx|_=>False
 | .mp cS,v=>match v with| .mp id=>ρ cS=some id/\cS<nx|_=>False
 | .eY,v=>v= .eY\/∃b,v= .d (.bool b)
 | .ko cS,v=>match v with| .ko id=>ρ cS=some id/\cS<nx|_=>False
def pY:List V->List V->Prop
 |[],vs=>vs=[]
 |x::xs,vs=>match vs with|v::vs=>qA x v/\pY xs vs|[]=>False
end
def mE(cS:Nat):Prop:=
 match o' cS with
 | .no=>True
 | .row cs'=>match ρ cS with
   |some id=>match o id with| .row cs=>pY ρ o' o nx cs' cs|_=>False
   |none=>False
 | .arr _ ty sz es=>match ρ cS with
   |some id=>match o id with| .arr _ TP nb es'=>ty=TP/\sz=nb/\es=es'|_=>False
   |none=>es=[]/\0<sz
 | .oh _ es=>match ρ cS with
   |some id=>match o id with| .oh _ es'=>es=es'|_=>False
   |none=>False
 | .map kt vt l=>match ρ cS with
   |some id=>match o id with| .map zC zD l'=>kt=zC/\vt=zD/\l=l'|_=>False
   |none=>False
 | .loop nf n env ps a b st pd=>match ρ cS with
   |some id=>match o id with| .loop O4 n' TQ Y2 a' b' st' pd'=>nf=O4/\n=n'/\ps=Y2/\a=a'/\b=b'/\st=st'/\pd=pd'/\pY ρ o' o nx env TQ|_=>False
   |none=>False
 | .et l=>match ρ cS with
   |some id=>match o id with| .et l'=>l=l'|_=>False
   |none=>False
 | .kg l last=>match ρ cS with
   |some id=>match o id with| .kg l' Fx=>l=l'/\(last=none\/last=Fx)|_=>False
   |none=>False
 | .rA s pos=>match ρ cS with
   |some id=>match o id with| .rA s' pos'=>s=s'/\pos=pos'|_=>False
   |none=>False
end
section
variable {M M':Nat->Prop}{φ ax:Place}{H H':Hp}{w:World}{ρ:Nat->Option Nat}{nx:Nat}
theorem Fy(hH:au M φ H w){v:V}{x:D}{val:Value}(h:HT H.o v=some x)(hd:V.den (ai M φ H) φ H w v val):D.den (ai M φ H) w x val:=by
 unfold HT at h
 split at h
 ·rename_i ha
  refine ed hH (o:=H.o) v x val (fun id aj=> ?_) h hd
  have:=List.all_eq_true.1 ha id aj
  cases ho:H.o id<;>rw[ho]at this<;>simp[ae.JD]at this
  rfl
 ·cases h
mutual
theorem ri(hH:au M φ H w)(ef:∀b,cA w b-> ¬ai M φ H b-> ¬ai M' ax H' b)(du:∀id,ax id=match ρ id with|some j=>φ j|none=> .slice none 0 0)
 (dB:∀id,id<nx->H'.us id) (a8:∀cS id,ρ cS=some id->(H'.o cS).bO=true->(H.o id).bO=true):
 ∀ (x v:V) (val:Value),qA ρ H'.o H.o nx x v->V.den (ai M φ H) φ H w v val->V.den (ai M' ax H') ax H' w x val
 | .ab,_,_,_,_=>trivial
 | .d x,v,val,h,hd=>D.aC (fun b hb hn=>⟨rfl,ef b hb hn⟩) x val (Fy hH (by simpa[qA]using h) hd)
 | .aW,v,val,h,hd=>by simp only[qA]at h;subst h;exact hd
 | .agg cs,v,val,h,hd=>by
   unfold qA at h
   split at h
   ·obtain⟨a,rfl,hd,hf⟩:=hd
    exact⟨a,rfl,kF hH ef du dB a8 _ _ _ h hd,hf⟩
   ·exact h.elim
 | .bW cs,v,val,h,hd=>by
   unfold qA at h
   split at h
   ·obtain⟨a,rfl,hd⟩:=hd
    exact⟨a,rfl,kF hH ef du dB a8 _ _ _ h hd⟩
   ·exact h.elim
 | .ptr cS yo,v,val,h,hd=>by
   unfold qA at h
   split at h
   ·obtain⟨h1,rfl,h3⟩:=h
    obtain⟨g1,_,g3⟩:=hd
    refine⟨g1,dB _ h3,fun hr=> ?_⟩
    obtain⟨b,k1,k2⟩:=g3 (a8 _ _ h1 hr)
    exact⟨b,by rw[du,h1];exact k1,k2⟩
   ·exact h.elim
 | .osl cS gG,v,val,h,hd=>by
   unfold qA at h
   obtain⟨h1,h2,h3⟩:=h
   split at h3
   ·simp only[V.den]at hd;subst hd
    refine⟨rfl,dB _ h1,fun e he=> ?_⟩
    rw[h2]at he;injection he with he;subst he
    exact⟨Nat.le_refl _,fun _=>by rw[du,h3]⟩
   ·obtain⟨g1,_,g3⟩:=hd
    refine⟨g1,dB _ h1,fun e he=> ?_⟩
    rw[h2]at he;injection he with he;subst he
    exact⟨Nat.le_refl _,fun _=>by rw[du,h3.1];exact(g3 _ h3.2).2 rfl⟩
   ·exact h3.elim
 | .pe cS gG i' nb yo,v,val,h,hd=>by
   unfold qA at h
   obtain⟨h1,h2,h3⟩:=h
   split at h3
   ·obtain⟨h3,h4,rfl,rfl,rfl⟩:=h3
    obtain⟨g1,_,g3⟩:=hd
    refine⟨g1,dB _ h1,fun e he=> ?_⟩
    rw[h2]at he;injection he with he;subst he
    refine⟨Nat.le_refl _,fun _=> ?_⟩
    obtain⟨b,n,c,k1,k2⟩:=(g3 _ h4).2 rfl
    exact⟨b,n,c,by rw[du,h3];exact k1,k2⟩
   ·exact h3.elim
 | .pp cs off,v,val,h,hd=>by
   simp only[qA]at h;subst h
   obtain⟨a,ev,h1,h2,h3,h5,h4⟩:=hd
   exact⟨a,ev,h1,h2,D.aI (fun b hb hn=>⟨rfl,ef b hb hn⟩) cs ev h3,h5,h4.mono (fun b hb hn=>⟨rfl,ef b hb hn⟩)⟩
 | .func fn a b,v,val,h,hd=>by
   unfold qA at h
   split at h
   ·obtain⟨rfl,h1,h2⟩:=h
    obtain⟨f,c,rfl,k1,k2⟩:=hd
    exact⟨f,c,rfl,kF hH ef du dB a8 _ _ _ h1 k1,kF hH ef du dB a8 _ _ _ h2 k2⟩
   ·exact h.elim
 | .iface t x,v,val,h,hd=>by
   unfold qA at h
   split at h
   ·obtain⟨rfl,h1⟩:=h
    obtain⟨u,rfl,k1⟩:=hd
    exact⟨u,rfl,ri hH ef du dB a8 _ _ _ h1 k1⟩
   ·exact h.elim
 | .nC es,v,val,h,hd=>by
   simp only[qA]at h;subst h
   exact⟨D.aC (fun b hb hn=>⟨rfl,ef b hb hn⟩) (.sl es) val hd.1,hd.2⟩
 | .rz cS yo n',v,val,h,hd=>by
   unfold qA at h
   split at h
   ·obtain⟨h1,rfl,rfl,h3⟩:=h
    obtain⟨g1,_,g3⟩:=hd
    refine⟨g1,dB _ h3,fun hr=> ?_⟩
    obtain⟨b,k1,k2⟩:=g3 (a8 _ _ h1 hr)
    exact⟨b,by rw[du,h1];exact k1,k2⟩
   ·exact h.elim
 | .mp cS,v,val,h,hd=>by
   unfold qA at h
   split at h
   ·obtain⟨h1,h3⟩:=h
    obtain⟨g1,_,g3⟩:=hd
    exact⟨g1,dB _ h3,fun hr=>by rw[du,h1];exact g3 (a8 _ _ h1 hr)⟩
   ·exact h.elim
 | .eY,v,val,h,hd=>by
   unfold qA at h
   rcases h with rfl|⟨b,rfl⟩
   ·exact hd
   ·exact⟨b,hd⟩
 | .ko cS,v,val,h,hd=>by
   unfold qA at h
   split at h
   ·obtain⟨h1,h3⟩:=h
    obtain⟨g1,_,g3⟩:=hd
    refine⟨g1,dB _ h3,fun hr=> ?_⟩
    obtain⟨b,k1,k2⟩:=g3 (a8 _ _ h1 hr)
    exact⟨b,by rw[du,h1];exact k1,k2⟩
   ·exact h.elim
theorem kF(hH:au M φ H w)(ef:∀b,cA w b-> ¬ai M φ H b-> ¬ai M' ax H' b)(du:∀id,ax id=match ρ id with|some j=>φ j|none=> .slice none 0 0)
 (dB:∀id,id<nx->H'.us id) (a8:∀cS id,ρ cS=some id->(H'.o cS).bO=true->(H.o id).bO=true):
 ∀ (xs vs:List V) (vals:List Value),pY ρ H'.o H.o nx xs vs->V.aB (ai M φ H) φ H w vs vals->V.aB (ai M' ax H') ax H' w xs vals
 |[],vs,vals,h,hd=>by simp only[pY]at h;subst h;exact hd
 |x::xs,vs,vals,h,hd=>by
  unfold pY at h
  split at h
  ·obtain⟨u,us,rfl,k1,k2⟩:=hd
   exact⟨u,us,rfl,ri hH ef du dB a8 _ _ _ h.1 k1,kF hH ef du dB a8 _ _ _ h.2 k2⟩
  ·exact h.elim
end
theorem Fz(hH:au M φ H w){o':Nat->ae}(ho:∀id,mE ρ o' H.o nx id)(dU:∀id,nx<=id->o' id= .no)
 (vP:∀i j k,(o' i).live=true->(o' j).live=true->ρ i=some k->ρ j=some k->i=j)
 (hM:∀b,M' b->ai M φ H b) (TR:∀b,M' b->b<w.heap.size) (HU:∀b,M' b-> ¬bR (fun id=>match ρ id with|some j=>φ j|none=> .slice none 0 0) ⟨o',fun id=>id<nx⟩ b):
 let ax:Place:=fun id=>match ρ id with|some j=>φ j|none=> .slice none 0 0
 let H':Hp:=⟨o',fun id=>id<nx⟩
 au M' ax H' w/\(∀b,bR ax H' b->bR φ H b)/\(∀b,cA w b-> ¬ai M φ H b-> ¬ai M' ax H' b)/\
  (∀x v val,qA ρ o' H.o nx x v->V.den (ai M φ H) φ H w v val->V.den (ai M' ax H') ax H' w x val):=by
 intro ax H'
 have a8:∀cS id,ρ cS=some id->(H'.o cS).bO=true->(H.o id).bO=true:=by
  intro cS id h1 h2
  have h3:=ho cS
  unfold mE at h3
  simp only[H']at h2
  split at h3
  ·rename_i e;rw[e]at h2;cases h2
  ·rw[h1]at h3
   simp only at h3
   split at h3
   ·rename_i e;rw[e];rfl
   ·exact h3.elim
  ·rename_i e;rw[e]at h2;cases h2
  ·rename_i e;rw[e]at h2;cases h2
  ·rw[h1]at h3
   simp only at h3
   split at h3
   ·rename_i e;rw[e];rfl
   ·exact h3.elim
  ·rw[h1]at h3
   simp only at h3
   split at h3
   ·rename_i e;rw[e];rfl
   ·exact h3.elim
  ·rw[h1]at h3
   simp only at h3
   split at h3
   ·rename_i e;rw[e];rfl
   ·exact h3.elim
  ·rw[h1]at h3
   simp only at h3
   split at h3
   ·rename_i e;rw[e];rfl
   ·exact h3.elim
  ·rw[h1]at h3
   simp only at h3
   split at h3
   ·rename_i e;rw[e];rfl
   ·exact h3.elim
 have bS:∀cS b,(o' cS).live=true->dS (ax cS)=some b->∃id,ρ cS=some id/\(H.o id).live=true/\dS (φ id)=some b:=by
  intro cS b h1 h2
  have h3:=ho cS
  unfold mE at h3
  simp only[ax]at h2
  split at h3
  ·rename_i e;rw[e]at h1;cases h1
  ·cases hr:ρ cS with
   |none=>rw[hr]at h3;exact h3.elim
   |some id=>
    rw[hr]at h3 h2
    simp only at h3 h2
    split at h3
    ·rename_i e;exact⟨id,rfl,by rw[e];rfl,h2⟩
    ·exact h3.elim
  ·cases hr:ρ cS with
   |none=>rw[hr]at h2;simp[dS]at h2
   |some id=>
    rw[hr]at h3 h2
    simp only at h3 h2
    split at h3
    ·rename_i e;exact⟨id,rfl,by rw[e];rfl,h2⟩
    ·exact h3.elim
  ·rename_i e;rw[e]at h1;cases h1
  ·cases hr:ρ cS with
   |none=>rw[hr]at h3;exact h3.elim
   |some id=>
    rw[hr]at h3 h2
    simp only at h3 h2
    split at h3
    ·rename_i e;exact⟨id,rfl,by rw[e];rfl,h2⟩
    ·exact h3.elim
  ·cases hr:ρ cS with
   |none=>rw[hr]at h3;exact h3.elim
   |some id=>
    rw[hr]at h3 h2
    simp only at h3 h2
    split at h3
    ·rename_i e;exact⟨id,rfl,by rw[e];rfl,h2⟩
    ·exact h3.elim
  ·rename_i e;rw[e]at h1;cases h1
  ·cases hr:ρ cS with
   |none=>rw[hr]at h3;exact h3.elim
   |some id=>
    rw[hr]at h3 h2
    simp only at h3 h2
    split at h3
    ·rename_i e;exact⟨id,rfl,by rw[e];rfl,h2⟩
    ·exact h3.elim
  ·cases hr:ρ cS with
   |none=>rw[hr]at h3;exact h3.elim
   |some id=>
    rw[hr]at h3 h2
    simp only at h3 h2
    split at h3
    ·rename_i e;exact⟨id,rfl,by rw[e];rfl,h2⟩
    ·exact h3.elim
 have G4:∀b,bR ax H' b->bR φ H b:=by
  rintro b ⟨cS,h1,h2⟩
  obtain⟨id,_,h3,h4⟩:=bS cS b h1 h2
  exact⟨id,h3,h4⟩
 have TS:∀b,ai M' ax H' b->ai M φ H b:=by
  rintro b (h|h)
  ·exact hM b h
  ·exact .inr (G4 b h)
 have ef:∀b,cA w b-> ¬ai M φ H b-> ¬ai M' ax H' b:=fun b _ h k=>h (TS b k)
 have O5:=kF (M':=M') (ax:=ax) (H':=H') (ρ:=ρ) (nx:=nx) hH ef (fun _=>rfl) (fun _ h=>h) a8
 refine⟨⟨fun cS=> ?_,fun id hn=>dU id (by simpa[H']using hn),fun i j b h1 h2 h3 h4=> ?_,fun b hb=>⟨fun hm=>HU b hm hb,(hH.ours b (G4 b hb)).2⟩,TR⟩,G4,ef,
  ri (M':=M') (ax:=ax) (H':=H') (ρ:=ρ) (nx:=nx) hH ef (fun _=>rfl) (fun _ h=>h) a8⟩
 ·have h3:=ho cS
  unfold mE at h3
  unfold aL
  simp only[H']
  split at h3
  ·rename_i e;rw[e];trivial
  ·rename_i cs' e
   rw[e]
   cases hr:ρ cS with
   |none=>rw[hr]at h3;exact h3.elim
   |some id=>
    rw[hr]at h3
    simp only at h3
    split at h3
    ·rename_i cs e2
     have:=hH.ok id
     unfold aL at this
     rw[e2]at this
     obtain⟨b,cX,ty,k1,k2,k3,k4⟩:=this
     exact⟨b,cX,ty,by simp only[ax,hr];exact k1,k2,O5 _ _ _ h3 k3,k4⟩
    ·exact h3.elim
  ·rename_i ep ty sz es e
   rw[e]
   cases hr:ρ cS with
   |none=>
    rw[hr]at h3
    obtain⟨rfl,h4⟩:=h3
    exact⟨h4,[],by simp only[ax,hr];exact World.ownsRow_nil _ _ _ _,[],by simp,by simp,rfl⟩
   |some id=>
    rw[hr]at h3
    simp only at h3
    split at h3
    ·rename_i e2
     obtain⟨rfl,rfl,rfl⟩:=h3
     have:=hH.ok id
     unfold aL at this
     rw[e2]at this
     obtain⟨k1,xs,k2,evs,k3,k4,k5⟩:=this
     exact⟨k1,xs,by simp only[ax,hr];exact k2,evs,k3,k4,D.aI (fun b hb hn=>⟨rfl,ef b hb hn⟩) _ _ k5⟩
    ·exact h3.elim
  ·rename_i ep es e
   rw[e]
   cases hr:ρ cS with
   |none=>rw[hr]at h3;exact h3.elim
   |some id=>
    rw[hr]at h3
    simp only at h3
    split at h3
    ·rename_i e2
     subst h3
     have:=hH.ok id
     unfold aL at this
     rw[e2]at this
     simp only[ax,hr]
     exact D.aC (fun b hb hn=>⟨rfl,ef b hb hn⟩) _ _ this
    ·exact h3.elim
  ·rename_i kt vt l e
   rw[e]
   cases hr:ρ cS with
   |none=>rw[hr]at h3;exact h3.elim
   |some id=>
    rw[hr]at h3
    simp only at h3
    split at h3
    ·rename_i e2
     obtain⟨rfl,rfl,rfl⟩:=h3
     have:=hH.ok id
     unfold aL at this
     rw[e2]at this
     obtain⟨b,es,clock,k1,k2,k4,k3⟩:=this
     exact⟨b,es,clock,by simp only[ax,hr];exact k1,k2,k4,aH.mono (fun b hb hn=>⟨rfl,ef b hb hn⟩) _ _ k3⟩
    ·exact h3.elim
  ·rename_i nf n env ps a b st pd e
   rw[e]
   cases hr:ρ cS with
   |none=>rw[hr]at h3;exact h3.elim
   |some id=>
    rw[hr]at h3
    simp only at h3
    split at h3
    ·rename_i e2
     obtain⟨rfl,rfl,rfl,rfl,rfl,rfl,rfl,hv⟩:=h3
     have:=hH.ok id
     unfold aL at this
     rw[e2]at this
     obtain⟨b,r,k1,k2,k3,k4,k5,k6,k7,k8,k9,FA⟩:=this
     refine⟨b,r,by simp only[ax,hr];exact k1,k2,k3,k4,k5,k6,k7,k8,k9,fun i=> ?_⟩
     have key:∀ (xs vs:List V),pY ρ o' H.o nx xs vs->∀i,qA ρ o' H.o nx (bB xs i) (bB vs i):=by
      intro xs
      induction xs with
      |nil=>intro vs hv i;simp[bB,qA]
      |cons x xs ih=>
       intro vs hv i
       unfold pY at hv
       split at hv
       ·cases i with
        |zero=>exact hv.1
        |succ i=>exact ih _ hv.2 i
       ·exact hv.elim
     exact ri (M':=M') (ax:=ax) (H':=H') (ρ:=ρ) (nx:=nx) hH ef (fun _=>rfl) (fun _ h=>h) a8 _ _ _ (key _ _ hv i) (FA i)
    ·exact h3.elim
  ·rename_i l e
   rw[e]
   cases hr:ρ cS with
   |none=>rw[hr]at h3;exact h3.elim
   |some id=>
    rw[hr]at h3
    simp only at h3
    split at h3
    ·rename_i e2
     subst h3
     have:=hH.ok id
     unfold aL at this
     rw[e2]at this
     simp only[ax,hr]
     exact D.aC (fun b hb hn=>⟨rfl,ef b hb hn⟩) _ _ this
    ·exact h3.elim
  ·rename_i l last e
   rw[e]
   cases hr:ρ cS with
   |none=>rw[hr]at h3;exact h3.elim
   |some id=>
    rw[hr]at h3
    simp only at h3
    split at h3
    ·rename_i Fx e2
     obtain⟨rfl,h3⟩:=h3
     have:=hH.ok id
     unfold aL at this
     rw[e2]at this
     obtain⟨b,k1,k2⟩:=this
     have k3:rB (ai M' ax H') w l Fx b:=k2.mono (fun b hb hn=>⟨rfl,ef b hb hn⟩) rfl
     refine⟨b,by simp only[ax,hr];exact k1, ?_⟩
     rcases h3 with rfl|rfl
     ·rcases k3 with⟨a1,a2,_⟩|⟨m,since,seen,es,a1,a2,a3,a4,a5,_⟩
      ·exact .inl ⟨a1,a2,rfl⟩
      ·exact .inr ⟨m,since,seen,es,a1,a2,a3,a4,a5,fun _ _ e=>by cases e⟩
     ·exact k3
    ·exact h3.elim
  ·rename_i s pos e
   rw[e]
   cases hr:ρ cS with
   |none=>rw[hr]at h3;exact h3.elim
   |some id=>
    rw[hr]at h3
    simp only at h3
    split at h3
    ·rename_i e2
     obtain⟨rfl,rfl⟩:=h3
     have:=hH.ok id
     unfold aL at this
     rw[e2]at this
     obtain⟨b,k1,k2⟩:=this
     exact⟨b,by simp only[ax,hr];exact k1,k2⟩
    ·exact h3.elim
 ·obtain⟨k1,g1,g2,g3⟩:=bS i b h1 h3
  obtain⟨k2,g4,g5,g6⟩:=bS j b h2 h4
  have:=hH.apart k1 k2 b g2 g5 g3 g6
  subst this
  exact vP i j k1 h1 h2 g1 g4
theorem bY.of_map {b:Nat}{s s':S}(ρ:Nat->Option Nat)(hb:b<=s'.nx)(ho:∀id,mE ρ s'.o s.o s'.nx id)(dU:∀id,s'.nx<=id->s'.o id= .no)
 (vP:∀i j k,(s'.o i).live=true->(s'.o j).live=true->ρ i=some k->ρ j=some k->i=j)
 (ng:∀id,id<b->ρ id=some id/\(∀e',(s'.o id).aZ=some e'->∃e,(s.o id).aZ=some e/\e<=e')) (dC:∀i,qA ρ s'.o s.o s'.nx (s'.env i) (s.env i)):bY b s s':=by
 intro M φ w tm hH he
 obtain⟨h1,h2,_,h4⟩:=Fz (M':=M) (ρ:=ρ) (nx:=s'.nx) hH (o':=s'.o) ho dU vP (fun b hb=> .inl hb) hH.tA (fun b hb hl=>by
  have:bR φ s.H b:=by
   obtain⟨cS,g1,g2⟩:=hl
   have h3:=ho cS
   unfold mE at h3
   simp only at g1 g2
   split at h3
   ·rename_i e;rw[e]at g1;cases g1
   ·cases hr:ρ cS with
    |none=>rw[hr]at h3;exact h3.elim
    |some id=>
     rw[hr]at h3 g2
     simp only at h3 g2
     split at h3
     ·rename_i e;exact⟨id,by simp only[S.H];rw[e];rfl,g2⟩
     ·exact h3.elim
   ·cases hr:ρ cS with
    |none=>rw[hr]at g2;simp[dS]at g2
    |some id=>
     rw[hr]at h3 g2
     simp only at h3 g2
     split at h3
     ·rename_i e;exact⟨id,by simp only[S.H];rw[e];rfl,g2⟩
     ·exact h3.elim
   ·rename_i e;rw[e]at g1;cases g1
   ·cases hr:ρ cS with
    |none=>rw[hr]at h3;exact h3.elim
    |some id=>
     rw[hr]at h3 g2
     simp only at h3 g2
     split at h3
     ·rename_i e;exact⟨id,by simp only[S.H];rw[e];rfl,g2⟩
     ·exact h3.elim
   ·cases hr:ρ cS with
    |none=>rw[hr]at h3;exact h3.elim
    |some id=>
     rw[hr]at h3 g2
     simp only at h3 g2
     split at h3
     ·rename_i e;exact⟨id,by simp only[S.H];rw[e];rfl,g2⟩
     ·exact h3.elim
   ·rename_i e;rw[e]at g1;cases g1
   ·cases hr:ρ cS with
    |none=>rw[hr]at h3;exact h3.elim
    |some id=>
     rw[hr]at h3 g2
     simp only at h3 g2
     split at h3
     ·rename_i e;exact⟨id,by simp only[S.H];rw[e];rfl,g2⟩
     ·exact h3.elim
   ·cases hr:ρ cS with
    |none=>rw[hr]at h3;exact h3.elim
    |some id=>
     rw[hr]at h3 g2
     simp only at h3 g2
     split at h3
     ·rename_i e;exact⟨id,by simp only[S.H];rw[e];rfl,g2⟩
     ·exact h3.elim
  exact(hH.ours b this).1 hb)
 refine⟨_,h1,fun i=>h4 _ _ _ (dC i) (he i),h2,hb,fun id aj hr=> ?_,fun id e' aj fm=> ?_⟩
 ·obtain⟨g1,_⟩:=ng id aj
  refine⟨?_,by simp only[g1]⟩
  have h3:=ho id
  unfold mE at h3
  rw[g1]at h3
  split at h3
  ·rename_i e;rw[e]at hr;cases hr
  ·simp only at h3
   split at h3
   ·rename_i e;rw[e];rfl
   ·exact h3.elim
  ·rename_i e;rw[e]at hr;cases hr
  ·rename_i e;rw[e]at hr;cases hr
  ·simp only at h3
   split at h3
   ·rename_i e;rw[e];rfl
   ·exact h3.elim
  ·simp only at h3
   split at h3
   ·rename_i e;rw[e];rfl
   ·exact h3.elim
  ·simp only at h3
   split at h3
   ·rename_i e;rw[e];rfl
   ·exact h3.elim
  ·simp only at h3
   split at h3
   ·rename_i e;rw[e];rfl
   ·exact h3.elim
  ·simp only at h3
   split at h3
   ·rename_i e;rw[e];rfl
   ·exact h3.elim
 ·obtain⟨g1,g2⟩:=ng id aj
  obtain⟨e,g3,g4⟩:=g2 e' fm
  exact⟨e,g3,g4,fun _=>by simp only[g1]⟩
end
end Go.Proofs.YtealblliddhgiaaGreat
namespace Go.Proofs.YtealblliddhgiaaGreat
@[go_sem] theorem iZ (v:V) (l:List V):bB (v::l) 0=v:=rfl
@[go_sem] theorem gS (v:V) (l:List V) (i:Nat):bB (v::l) (i+1)=bB l i:=rfl
@[go_sem] theorem jq (i:Nat):bB [] i= .ab:=by simp[bB]
def iK:List (Nat×Option Nat)->Nat->Option Nat
 |[],id=>some id
 |(i,r)::R,id=>if i=id then r else iK R id
def HV(R:List (Nat×Option Nat)):List Nat->Bool
 |[]=>true
 |i::l=>l.all (fun j=>i==j||iK R i==none||iK R i !=iK R j)&&HV R l
def BJ(ρ:Nat->Option Nat)(o' o:Nat->ae)(nx:Nat)(env:Nat->V):List V->Nat->Prop
 |[],_=>True
 |v::l,i=>qA ρ o' o nx v (env i)/\BJ ρ o' o nx env l (i+1)
def wm(ρ:Nat->Option Nat)(o' o:Nat->ae)(nx:Nat):List Nat->Prop
 |[]=>True
 |i::l=>mE ρ o' o nx i/\wm ρ o' o nx l
def Lp:Option Nat->Option Nat->Prop
 |none,_=>True
 |some _,none=>False
 |some a,some b=>b<=a
def BK(b:Nat)(o' o:Nat->ae):List Nat->Prop
 |[]=>True
 |i::l=>(i<b->Lp (o' i).aZ (o i).aZ)/\BK b o' o l
theorem HW{o:Nat->ae}:∀ (Δ:List (Nat×ae)) (id:Nat),id∉Δ.map (·.1)->put o Δ id=o id:=by
 intro Δ
 induction Δ generalizing o with
 |nil=>intro id _;rfl
 |cons p Δ ih=>
  intro id h
  simp only[List.map_cons,List.mem_cons,not_or]at h
  rw[mX,ih id h.2]
  simp[h.1]
theorem bY.to {b:Nat}{s:S}(l:List V)(Δ:List (Nat×ae))(nx:Nat)(R:List (Nat×Option Nat))(h1:decide (b<=nx)=true)(h2:(Δ.map (·.1)).all (· <nx)=true)(h3:HV R (Δ.map (·.1))=true)(h4:R.all (fun r=>decide (b<=r.1))=true)
 (h5:BK b (put (fun _=> .no) Δ) s.o (Δ.map (·.1))) (h6:wm (iK R) (put (fun _=> .no) Δ) s.o nx (Δ.map (·.1))) (h7:BJ (iK R) (put (fun _=> .no) Δ) s.o nx s.env l 0):
 bY b s ⟨bB l,put (fun _=> .no) Δ,nx⟩:=by
 have mf:∀id,id∈Δ.map (·.1)\/put (fun _=>ae.no) Δ id= .no:=fun id=>by
  by_cases h:id∈Δ.map (·.1)
  ·exact .inl h
  ·exact .inr (HW Δ id h)
 have pK:∀ (ids:List Nat),wm (iK R) (put (fun _=> .no) Δ) s.o nx ids->∀id∈ids,mE (iK R) (put (fun _=> .no) Δ) s.o nx id:=by
  intro ids
  induction ids with
  |nil=>intro _ id h;cases h
  |cons i ids ih=>
   intro h id aj
   rcases List.mem_cons.1 aj with rfl|aj
   ·exact h.1
   ·exact ih h.2 id aj
 have TT:∀ (ids:List Nat),BK b (put (fun _=> .no) Δ) s.o ids->∀id∈ids,id<b->Lp (put (fun _=>ae.no) Δ id).aZ (s.o id).aZ:=by
  intro ids
  induction ids with
  |nil=>intro _ id h;cases h
  |cons i ids ih=>
   intro h id aj
   rcases List.mem_cons.1 aj with rfl|aj
   ·exact h.1
   ·exact ih h.2 id aj
 have dC:∀ (l:List V) (i:Nat),BJ (iK R) (put (fun _=> .no) Δ) s.o nx s.env l i->∀j,qA (iK R) (put (fun _=> .no) Δ) s.o nx (bB l j) (s.env (i+j)):=by
  intro l
  induction l with
  |nil=>intro i _ j;rw[jq];simp[qA]
  |cons v l ih=>
   intro i h j
   cases j with
   |zero=>exact h.1
   |succ j=>
    rw[gS]
    have:=ih (i+1) h.2 j
    rwa [show i+1+j=i+(j+1) by omega]at this
 have vP:∀ (ids:List Nat),HV R ids=true->∀i∈ids,∀j∈ids,∀k,iK R i=some k->iK R j=some k->i=j:=by
  intro ids
  induction ids with
  |nil=>intro _ i h;cases h
  |cons x ids ih=>
   intro h i hi j hj k h1 h2
   simp only[HV,Bool.and_eq_true,List.all_eq_true]at h
   rcases List.mem_cons.1 hi with EF|EF<;>rcases List.mem_cons.1 hj with zF|zF
   ·exact EF.trans zF.symm
   ·subst EF
    have:=h.1 j zF
    simp only[Bool.or_eq_true,beq_iff_eq,bne_iff_ne,ne_eq]at this
    rcases this with(e|e)|e
    ·exact e
    ·rw[h1]at e;cases e
    ·exact absurd (h1.trans h2.symm) e
   ·subst zF
    have:=h.1 i EF
    simp only[Bool.or_eq_true,beq_iff_eq,bne_iff_ne,ne_eq]at this
    rcases this with(e|e)|e
    ·exact e.symm
    ·rw[h2]at e;cases e
    ·exact absurd (h2.trans h1.symm) e
   ·exact ih h.2 i EF j zF k h1 h2
 have O6:∀ (R:List (Nat×Option Nat)),R.all (fun r=>decide (b<=r.1))=true->∀id,id<b->iK R id=some id:=by
  intro R
  induction R with
  |nil=>intro _ id _;rfl
  |cons r R ih=>
   intro h id aj
   obtain⟨i,r⟩:=r
   simp only[List.all_cons,Bool.and_eq_true,decide_eq_true_eq]at h
   unfold iK
   rw[if_neg (by omega)]
   exact ih h.2 id aj
 have nN:∀id,(put (fun _=>ae.no) Δ id).live=true->id∈Δ.map (·.1):=fun id h=>by
  rcases mf id with h'|h'
  ·exact h'
  ·rw[h']at h;cases h
 refine bY.of_map (iK R) (by simpa using h1) (fun id=> ?_) (fun id aj=> ?_) (fun i j k g1 g2 g3 g4=>vP _ h3 i (nN i g1) j (nN j g2) k g3 g4) (fun id aj=>⟨O6 R h4 id aj,fun e' he=> ?_⟩) (fun i=>by simpa using dC l 0 h7 i)
 ·rcases mf id with h|h
  ·exact pK _ h6 id h
  ·unfold mE;simp only[h]
 ·rcases mf id with h|h
  ·have:=List.all_eq_true.1 h2 id h
   simp only[decide_eq_true_eq]at this
   simp only at aj
   omega
  ·exact h
 ·rcases mf id with h|h
  ·have:=TT _ h5 id h aj
   simp only at he
   rw[he]at this
   cases hs:(s.o id).aZ with
   |none=>rw[hs]at this;exact this.elim
   |some e=>rw[hs]at this;exact⟨e,rfl,this⟩
  ·simp only[h]at he;cases he
@[go_sem] theorem JE (k:Nat):(0<=(k:Int))=True:=by simp
attribute [go_sem] List.getElem?_map List.length_map Int.toNat_natCast
attribute [go_sem] eP List.flatMap_cons List.flatMap_nil
attribute [go_sem] isConst pJ Hd pH pI xh pG CB nD nE tW rF rG ou
attribute [go_sem] iX V.refs V.ag
attribute [go_sem] BJ wm BK Lp qA pY mE iK HT List.all_nil List.all_cons Option.some.injEq D.int.injEq D.bool.injEq Nat.zero_add Nat.add_zero
theorem wrap64{n:Int}(h1: -9223372036854775808<=n)(h2:n<=9223372036854775807):IntKind.i64.wrap n=n:=by
 unfold IntKind.wrap
 have e1:((2:Int)^IntKind.i64.bits)=18446744073709551616:=by decide
 have e2:((2:Int)^(IntKind.i64.bits - 1))=9223372036854775808:=by decide
 have e3:IntKind.i64.signed=true:=rfl
 simp only[e1,e2,e3,Bool.true_and,decide_eq_true_eq]
 split<;>omega
end Go.Proofs.YtealblliddhgiaaGreat
namespace Go.Proofs.YtealblliddhgiaaGreat
structure Good (o:Nat->ae) (nx:Nat):Prop where
 fresh:∀id,nx<=id->o id= .no
 refs:∀id,∀r∈(o id).refs,r<nx
theorem Good.nil {nx:Nat}:Good (fun _=> .no) nx:=⟨fun _ _=>rfl,fun id r h=>by cases h⟩
theorem Good.aq {o:Nat->ae}{nx i:Nat}{x:ae}(h:Good o nx)(hi:i<nx)(hx:x.refs.all (fun r=>decide (r<nx))=true):Good (aq o i x) nx:=by
 refine⟨fun id aj=> ?_,fun id r hr=> ?_⟩
 ·rw[ad _ _ _ _ (by omega)];exact h.fresh id aj
 ·by_cases e:id=i
  ·subst e
   rw[aa]at hr
   simpa using List.all_eq_true.1 hx r hr
  ·rw[ad _ _ _ _ e]at hr
   exact h.refs id r hr
theorem Good.mono {o:Nat->ae}{nx m:Nat}(h:Good o nx)(hm:nx<=m):Good o m:=⟨fun id aj=>h.fresh id (by omega),fun id r hr=>Nat.lt_of_lt_of_le (h.refs id r hr) hm⟩
theorem Good.lt {o:Nat->ae}{nx id:Nat}(h:Good o nx)(hn:o id≠ .no):id<nx:=by
 rcases Nat.lt_or_ge id nx with hl|hl
 ·exact hl
 ·exact absurd (h.fresh id hl) hn
theorem V.kG:∀ (l:List V) (i:Nat),∀r∈(bB l i).refs,r∈V.ag l
 |[],i,r,h=>by rw[jq]at h;cases h
 |v::l,0,r,h=>by rw[iZ]at h;simp only[V.ag,List.mem_append];exact .inl h
 |v::l,i+1,r,h=>by rw[gS]at h;simp only[V.ag,List.mem_append];exact .inr (V.kG l i r h)
theorem bY.back {b:Nat}{s:S}{env:Nat->V}{o:Nat->ae}{nx:Nat}(hb:b<=nx)(hn:nx<=s.nx)(hg:Good o nx)(ho:∀id,id<nx->s.o id=o id)
 (he:∀i,env i= .ab\/(env i=s.env i/\∀r∈(env i).refs,r<nx)):bY b s ⟨env,o,nx⟩:=by
 intro M φ w tm hH hd
 have bS:∀k,bR φ (hp o nx) k->bR φ s.H k:=by
  rintro k ⟨id,h1,h2⟩
  have aj:id<nx:=hg.lt (fun e=>by simp only[hp]at h1;rw[e]at h1;cases h1)
  exact⟨id,by simp only[S.H];rw[ho id aj];exact h1,h2⟩
 have hB:∀k, ¬ai M φ s.H k-> ¬ai M φ (hp o nx) k:=fun k h h'=>h (h'.imp id (bS k))
 have ec:∀ (v:V) (val:Value),(∀r∈v.refs,r<nx)->V.den (ai M φ s.H) φ s.H w v val->V.den (ai M φ (hp o nx)) φ (hp o nx) w v val:=fun v val hr h=>
  V.kD (H:=s.H) (H':=hp o nx) hB v val (fun id aj=>⟨(ho id (hr id aj)).symm,rfl,hr id aj⟩) h
 have jN:∀ (v:List V) (val:List Value),(∀r∈V.ag v,r<nx)->V.aB (ai M φ s.H) φ s.H w v val->V.aB (ai M φ (hp o nx)) φ (hp o nx) w v val:=fun v val hr h=>
  V.fb (H:=s.H) (H':=hp o nx) hB v val (fun id aj=>⟨(ho id (hr id aj)).symm,rfl,hr id aj⟩) h
 refine⟨φ,⟨fun id=> ?_,fun id hu=>hg.fresh id (by simpa[S.H]using hu),fun i j k h1 h2 h3 h4=> ?_,fun k hk=>hH.ours k (bS k hk),hH.tA⟩,fun i=> ?_,bS,hb,fun id aj hr=> ?_,fun id e' aj fm=> ?_⟩
 ·have aP:=hH.ok id
  have hrefs:=hg.refs id
  unfold aL at aP|-
  by_cases aj:id<nx
  ·have e:s.H.o id=o id:=ho id aj
   rw[e]at aP
   simp only[S.H]at aP|-
   cases hx:o id with
   |no=>trivial
   |row cs=>
    simp only[hx]at aP hrefs|-
    obtain⟨b,cX,ty,k1,k2,k3,k4⟩:=aP
    exact⟨b,cX,ty,k1,k2,jN _ _ hrefs k3,k4⟩
   |arr ep ty sz es=>
    simp only[hx]at aP|-
    obtain⟨k1,xs,k2,evs,k3,k4,k5⟩:=aP
    exact⟨k1,xs,k2,evs,k3,k4,D.aI (fun b _ hn=>⟨rfl,hB b hn⟩) _ _ k5⟩
   |oh ep es=>
    simp only[hx]at aP|-
    exact D.aC (fun b _ hn=>⟨rfl,hB b hn⟩) _ _ aP
   |map kt vt es=>
    simp only[hx]at aP|-
    obtain⟨b,es',clock,k1,k2,k4,k3⟩:=aP
    exact⟨b,es',clock,k1,k2,k4,aH.mono (fun b _ hn=>⟨rfl,hB b hn⟩) _ _ k3⟩
   |et l=>
    simp only[hx]at aP|-
    exact D.aC (fun b _ hn=>⟨rfl,hB b hn⟩) _ _ aP
   |kg l last=>
    simp only[hx]at aP|-
    obtain⟨b,k1,k2⟩:=aP
    exact⟨b,k1,k2.mono (fun b _ hn=>⟨rfl,hB b hn⟩) rfl⟩
   |rA s pos=>
    simp only[hx]at aP|-
    exact aP
   |loop nf n env ps a b st pd=>
    simp only[hx]at aP hrefs|-
    obtain⟨b,r,k1,k2,k3,k4,k5,k6,k7,k8,k9,FA⟩:=aP
    exact⟨b,r,k1,k2,k3,k4,k5,k6,k7,k8,k9,fun i=>ec _ _ (fun r hr=>hrefs r (V.kG _ _ r hr)) (FA i)⟩
  ·simp only[S.H]
   rw[hg.fresh id (by omega)]
   trivial
 ·have hi:i<nx:=hg.lt (fun e=>by simp only[S.H]at h1;rw[e]at h1;cases h1)
  have hj:j<nx:=hg.lt (fun e=>by simp only[S.H]at h2;rw[e]at h2;cases h2)
  exact hH.apart i j k (by simp only[S.H];rw[ho i hi];exact h1) (by simp only[S.H];rw[ho j hj];exact h2) h3 h4
 ·rcases he i with h|⟨h1,h2⟩
  ·simp only[h];trivial
  ·have:=hd i
   rw[<- h1]at this
   exact ec _ _ h2 this
 ·have bM:id<nx:=by omega
  exact⟨by rw[ho id bM];exact hr,rfl⟩
 ·have bM:id<nx:=by omega
  exact⟨e',by rw[ho id bM];exact fm,Nat.le_refl _,fun _=>rfl⟩
def eA(nx:Nat)(env:Nat->V):List V->Nat->Prop
 |[],_=>True
 |v::l,i=>(v= .ab\/(v=env i/\∀r∈v.refs,r<nx))/\eA nx env l (i+1)
theorem bY.cT {b:Nat}{e:Nat->V}{so:Nat->ae}{m:Nat}(l:List V){o:Nat->ae}{nx:Nat}(hb:b<=nx)(hn:nx<=m)(hg:Good o nx)(ho:∀id,id<nx->so id=o id)(he:eA nx e l 0):bY b ⟨e,so,m⟩ ⟨bB l,o,nx⟩:=by
 refine bY.back hb hn hg ho ?_
 have key:∀ (l:List V) (i:Nat),eA nx e l i->∀j,bB l j= .ab\/(bB l j=e (i+j)/\∀r∈(bB l j).refs,r<nx):=by
  intro l
  induction l with
  |nil=>intro i _ j;rw[jq];exact .inl rfl
  |cons v l ih=>
   intro i h j
   cases j with
   |zero=>rw[iZ];exact h.1
   |succ j=>
    rw[gS]
    have:=ih (i+1) h.2 j
    rwa [show i+1+j=i+(j+1) by omega]at this
 intro i
 have:=key l 0 he i
 rwa [Nat.zero_add]at this
theorem aw{nx:Nat}{env:Nat->V}{i:Nat}:eA nx env [] i:=trivial
theorem ao{nx:Nat}{env:Nat->V}{l:List V}{i:Nat}(h:eA nx env l (i+1)):eA nx env (.ab::l) i:=⟨.inl rfl,h⟩
theorem ah{nx:Nat}{env:Nat->V}{l:List V}{i:Nat}{x:D}(he:env i= .d x)(h:eA nx env l (i+1)):eA nx env (.d x::l) i:=⟨.inr ⟨he.symm,fun r hr=>by simp[V.refs]at hr⟩,h⟩
theorem aF{nx:Nat}{env:Nat->V}{l:List V}{i:Nat}{v:V}(he:env i=v)(hr:∀r∈v.refs,r<nx)(h:eA nx env l (i+1)):eA nx env (v::l) i:=⟨.inr ⟨he.symm,hr⟩,h⟩
theorem bY.d0 {e:Nat->V}{so:Nat->ae}{m:Nat}(l:List V)(he:eA 0 e l 0):bY 0 ⟨e,so,m⟩ ⟨bB l,fun _=> .no,0⟩:=bY.cT l (Nat.le_refl 0) (Nat.zero_le _) Good.nil (fun _ h=>absurd h (Nat.not_lt_zero _)) he
theorem aS{k:Nat}(h:(k:Int)+1<=9223372036854775807):IntKind.i64.wrap ((k:Int)+1)=((k+1:Nat):Int):=by rw[wrap64 (by omega) h];rfl
theorem aT{k:IntKind}{a b:Int}(h:a=b):V.d (D.int k a)=V.d (D.int k b):=by rw[h]
theorem dV{P:Program}{g:FuncId}{K:KD}{X:XD}{o:Nat->ae}{nx fr:Nat}{all:List V}{rd:List Nat}{rs:List D}{Δ:List (Nat×ae)}(me:rd.all (fun id=>decide (id<nx))=true)(h:zH P g all rd o (.ret rs) Δ)(hk:K (iM rs) Δ rd):pV P g K X o nx fr all:=by
 unfold pV
 exact⟨rd,Δ,me, .inl ⟨rs,h,hk⟩⟩
end Go.Proofs.YtealblliddhgiaaGreat
namespace Go.Proofs.YtealblliddhgiaaGreat
abbrev D.i (n:Int):D:= .int .i64 n
structure od where
 name:List UInt8
 args:Int
structure bP where
 cons:List od
 dN:List od
inductive Tm where
 |mk (op n:Int) (kids:List Tm)
 deriving Inhabited
structure TB where
 var:Int
 term:Tm
def Tm.op:Tm->Int| .mk op _ _=>op
def Tm.n:Tm->Int| .mk _ n _=>n
def Tm.kids:Tm->List Tm| .mk _ _ l=>l
theorem Tm.eta (t:Tm):Tm.mk t.op t.n t.kids=t:=by cases t;rfl
theorem Tm.ind {P:Tm->Prop}(h:∀op n kids,(∀k∈kids,P k)->P (.mk op n kids)):∀t,P t:=
 fun t=>Tm.rec (motive_1:=P) (motive_2:=fun l=>∀k∈l,P k) (fun op n kids ih=>h op n kids ih) (fun _ h=>by cases h)
  (fun x l hx hl k hk=>(List.mem_cons.1 hk).elim (fun e=>e ▸ hx) (hl k)) t
mutual
def Tm.d:Tm->D
 | .mk op n kids=> .agg [.i op, .i n, .sl (Tm.ds kids)]
def Tm.ds:List Tm->List D
 |[]=>[]
 |t::l=>t.d::Tm.ds l
end
theorem Tm.AG:∀l:List Tm,Tm.ds l=l.map Tm.d
 |[]=>rfl
 |t::l=>by simp[Tm.ds,Tm.AG l]
theorem Tm.O7 (t:Tm):t.d= .agg [.i t.op, .i t.n, .sl (t.kids.map Tm.d)]:=by cases t;simp[Tm.d,Tm.AG,Tm.op,Tm.n,Tm.kids]
@[go_sem] theorem Tm.TU (t:Tm):D.agg [.i t.op, .i t.n, .sl (t.kids.map Tm.d)]=t.d:=(Tm.O7 t).symm
@[go_sem] theorem Tm.Sw (t:Tm):D.cells t.d=[.i t.op, .i t.n, .sl (t.kids.map Tm.d)]:=by rw[Tm.O7];rfl
theorem Tm.jC {P:Tm->Prop}(h:∀t:Tm,(∀k∈t.kids,P k)->P t):∀t,P t:=Tm.ind fun op n kids ih=>h (.mk op n kids) ih
theorem Tm.sB (op n:Int)(l:List Tm):(Tm.mk op n l).d= .agg [.i op, .i n, .sl (l.map Tm.d)]:=by simp[Tm.d,Tm.AG]
@[reducible] def od.d (x:od):D:= .agg [.str x.name, .i x.args]
@[reducible] def bP.d (s:bP):D:= .agg [.sl (s.cons.map od.d), .sl (s.dN.map od.d)]
@[reducible] def TB.d (b:TB):D:= .agg [.i b.var, .i b.term.op, .i b.term.n, .sl (b.term.kids.map Tm.d)]
mutual
def Tm.fits:Tm->Prop
 | .mk _ _ kids=>kids.length<=9223372036854775807/\Tm.yp kids
def Tm.yp:List Tm->Prop
 |[]=>True
 |t::l=>t.fits/\Tm.yp l
end
theorem Tm.uO:∀l:List Tm,Tm.yp l↔∀k∈l,k.fits
 |[]=>by simp[Tm.yp]
 |t::l=>by simp[Tm.yp,Tm.uO l]
theorem Tm.dy (t:Tm):t.fits↔t.kids.length<=9223372036854775807/\∀k∈t.kids,k.fits:=by cases t;simp[Tm.fits,Tm.uO,Tm.kids]
mutual
def Tm.b7:Tm->Nat
 | .mk _ _ kids=>1+Tm.dO kids
def Tm.dO:List Tm->Nat
 |[]=>0
 |k::l=>Nat.max k.b7 (Tm.dO l)
end
theorem Tm.sC:∀ {l:List Tm} {k:Tm},k∈l->k.b7<=Tm.dO l
 |x::l,k,h=>by
  simp only[Tm.dO]
  rcases List.mem_cons.1 h with rfl|h
  ·exact Nat.le_max_left _ _
  ·exact Nat.le_trans (Tm.sC h) (Nat.le_max_right _ _)
theorem Tm.dg {t k:Tm}(h:k∈t.kids):k.b7+1<=t.b7:=by
 cases t;simp only[Tm.kids]at h;simp only[Tm.b7];have:=Tm.sC h;omega
mutual
def pre:Tm->Int->List (Tm×Int)
 | .mk op n kids,d=>(.mk op n kids,d)::HX kids (d+1)
def HX:List Tm->Int->List (Tm×Int)
 |[],_=>[]
 |k::l,d=>pre k d++HX l d
end
theorem Dl(l:List Tm)(d:Int):HX l d=l.flatMap fun k=>pre k d:=by
 induction l with
 |nil=>rfl
 |cons k l ih=>simp[HX,ih]
theorem lA(t:Tm)(d:Int):pre t d=(t,d)::t.kids.flatMap fun k=>pre k (d+1):=by cases t;simp[pre,Dl,Tm.kids]
def fg(n low high:Int):Bool:=decide (low<=n)&&decide (n<=high)
def letterF(b:UInt8):Bool:= !((decide ((b.toNat:Int)<97)||decide (122<(b.toNat:Int)))&&(decide ((b.toNat:Int)<65)||decide (90<(b.toNat:Int))))
def jr(s:List UInt8):Bool:=s.all letterF&&fg s.length 1 8
def cy:List od->List (List UInt8)->Option (List (List UInt8))
 |[],before=>some before
 |x::l,before=>if before.any (· ==x.name)then none else if(!jr x.name|| !fg x.args 0 4)=true then none else cy l (before++[x.name])
def fB:List UInt8:=[70,97,108,115,101]
def tB:List UInt8:=[84,114,117,101]
def lT(x:od)(s:List UInt8):Bool:=x.name==s&&x.args==0
def nT(s:bP):Bool:=
 if(!fg s.cons.length 2 12||decide (8<(s.dN.length:Int)))=true then false else
 match s.cons with
 |a::b::_=>if(!lT a fB|| !lT b tB)=true then false else
  match cy s.cons []with
  |none=>false
  |some l=>(cy s.dN l).isSome
 |_=>false
mutual
def il:Tm->Int->Int->Int
 | .mk _ _ kids,left,depth=>if left<1\/depth<1 then -1 else cz kids (left - 1) (depth - 1)
def cz:List Tm->Int->Int->Int
 |[],left,_=>left
 |k::l,left,depth=>if 0<=left then cz l (il k left depth) depth else left
end
def js(l:List od)(n:Int):Int:=match l[n.toNat]? with|some x=>x.args|none=>0
def bC(s:bP)(t:Tm):Bool:=
 let k:Int:=t.kids.length
 if t.op=1 then k==0&&fg t.n 0 19
 else if t.op=2 then k==0&&fg t.n (-1000000) 1000000
 else if t.op=3 then fg t.n 0 (s.cons.length - 1)&&k==js s.cons t.n
 else if t.op=4 then fg t.n 0 (s.dN.length - 1)&&k==js s.dN t.n
 else if t.op=5 then fg t.n 0 (s.dN.length - 1)&&decide (k<js s.dN t.n)
 else if t.op=8 then k==2&&fg t.n 0 19
 else if(fg t.op 6 15)=true then k==2&&t.n==0
 else false
mutual
def eT(s:bP):Tm->Bool
 | .mk op n kids=>bC s (.mk op n kids)&&rj s kids
def rj(s:bP):List Tm->Bool
 |[]=>true
 |k::l=>eT s k&&rj s l
end
def dP(s:bP)(t:Tm):Bool:=decide (0<=il t 40 12)&&eT s t
mutual
def o9:Tm->Tm->Bool
 | .mk op n kids, .mk op' n' JF=>op==op'&&n==n'&&kids.length==JF.length&&jt kids JF
def jt:List Tm->List Tm->Bool
 |[],_=>true
 |k::l,k'::l'=>o9 k k'&&jt l l'
 |_::_,[]=>true
end
def iE(t:Tm):Bool:=decide (0<=il t 50 14)
def fF(l:List od):Bool:=l.all fun x=>decide ((x.name.length:Int)<=30)
def kH(s:bP):Bool:= !(decide (16<(s.cons.length:Int))||decide (12<(s.dN.length:Int)))&&fF s.cons&&fF s.dN
end Go.Proofs.YtealblliddhgiaaGreat
namespace Go.Proofs.YtealblliddhgiaaGreat
def lB(id:Nat)(K X:V->(Nat->ae)->Nat->Prop)(e:fq)(s:S):Prop:=
 match e with
 | .normal=>∃nf m en p c d st pd,s.o id= .loop nf m en p c d st pd/\K (.d (.bool true)) (aq s.o id (.loop nf m en p c d .ready none)) s.nx
 | .ret=>∃nf m en p c d st pd,s.o id= .loop nf m en p c d st pd/\K (.d (.bool false)) (aq s.o id (.loop nf m en p c d .done (some .ret))) s.nx
 | .exit j=>∃nf m en p c d st pd,s.o id= .loop nf m en p c d st pd/\K (.d (.bool false)) (aq s.o id (.loop nf m en p c d .done (some (.exit j)))) s.nx
 | .bK v=>X v s.o s.nx
def Lq(P:Program)(n b id:Nat)(gY:IC)(K X:V->(Nat->ae)->Nat->Prop)(e:fq)(s:S):Prop:=
 match e with
 | .normal=>∃nf m en p c d pd,s.o id= .loop nf m en p c d .ready pd/\rh P n b true gY (lB id K X) ⟨s.env,aq s.o id (.loop nf m en p c d .busy pd),s.nx⟩
 | .bK v=>X v s.o s.nx
 |_=>False
section
variable {P:Program}{M:Nat->Prop}{φ cC:Place}{H0:Hp}{w w0:World}{n:Nat}{s:S}{a:Act}{cx:Cx}
theorem yq{id:Nat}{x:ae}{s:S}(bM:id<s.nx)(j:Nat)(hu:(s.H.put [(id,x)]).us j):j<s.nx:=by
 simp only[dZ]at hu
 rcases hu with hu|hu
 ·exact hu
 ·subst hu;exact bM
theorem sD{B:Nat->Prop}{H:Hp}{n:Nat}:∀ (ps:List Nat) (vs:List V) (us:List Value) (env:Nat->V) (tmps:Array Value),tmps.size=n->ps.length=vs.length->V.aB B φ H w vs us->ps.all (fun t=>decide (t<n))=true->(∀i,V.den B φ H w (env i) (tmps.getD i undef))->
 ((ps.zip us).foldl (fun tmps p=>tmps.setIfInBounds p.1 p.2) tmps).size=n/\∀i,V.den B φ H w (sr env ps vs i) (((ps.zip us).foldl (fun tmps p=>tmps.setIfInBounds p.1 p.2) tmps).getD i undef)
 |[],[],us,env,tmps,ej,_,hd,_,he=>by simp only[V.aB]at hd;subst hd;exact⟨ej,he⟩
 |[],v::vs,us,env,tmps,_,h,_,_,_=>by simp at h
 |t::ps,[],us,env,tmps,_,h,_,_,_=>by simp at h
 |t::ps,v::vs,us,env,tmps,ej,hl,hd,hp,he=>by
  obtain⟨u,us,rfl,h1,h2⟩:=hd
  simp only[List.all_cons,Bool.and_eq_true,decide_eq_true_eq]at hp
  simp only[List.zip_cons_cons,List.foldl_cons,sr]
  refine sD ps vs us (aq env t v) (tmps.setIfInBounds t u) (by simp[ej]) (by simpa using hl) h2 hp.2 (fun i=> ?_)
  simp only[aJ]
  by_cases hi:i=t
  ·subst hi
   have:(tmps.setIfInBounds i u).getD i undef=u:=by simp[Array.getD,ej,hp.1]
   rw[if_pos rfl,this];exact h1
  ·have:(tmps.setIfInBounds t u).getD i undef=tmps.getD i undef:=by
    simp only[Array.getD_eq_getD_getElem?]
    rw[Array.getElem?_setIfInBounds_ne (Ne.symm hi)]
   rw[if_neg hi,this];exact he i
theorem dM.su (bc:P.follows .mixedOrders=true){id:Nat}{args:List V}{o:Nat->ae}{nx:Nat}{K X:V->(Nat->ae)->Nat->Prop}{env:List V}{ps:List Nat}{lS gY:IC}{st:LoopState}{pd:Option kn}
 (ho:o id= .loop P.funcs.size n env ps lS gY st pd) (bM:id<nx) (HY:ps.all (fun t=>decide (t<n))=true) (hl:args.length=ps.length)
 (h:rh P n nx true lS (Lq P n nx id gY K X) ⟨sr (bB env) ps args,o,nx⟩):dM P id args o nx K X:=by
 refine⟨by rw[ho];rfl,fun M φ w vals b hH hd du=> ?_⟩
 have bz:=hH.ok id
 simp only[aL,hp,ho]at bz
 obtain⟨b',r,h1,h2,h0,h3,h4,h5,h6,h7,h8,h9⟩:=bz
 rw[du]at h1;simp at h1;subst h1
 have hlen:=V.aD _ _ hd
 have ej:vals.size=r.params.size:=by
  have:r.params.toList.length=ps.length:=by rw[h5]
  simp at hlen this;omega
 let tm:Array Value:=(ps.zip vals.toList).foldl (fun tmps p=>tmps.setIfInBounds p.1 p.2) r.tmps
 have O8:(r.params.zip vals).foldl (fun tmps (p:Tmp×Value)=>tmps.setIfInBounds p.1 p.2) r.tmps=tm:=by
  rw[<- Array.foldl_toList,Array.toList_zip,h5]
 obtain⟨p1,p2⟩:=sD (B:=ai M φ (hp o nx)) (H:=hp o nx) (φ:=φ) (w:=w) ps args vals.toList (bB env) r.tmps h6 hl.symm hd HY h9
 refine⟨r.fn,tm,r.assign,r.body, ?_,fun k=> ?_⟩
 ·simp only[Instr.yield,Sem.run_bind,jP h2,Result.andThen_ok,ej,ne_eq,not_true_eq_false,if_false,Sem.run_pure]
  rw[<- O8]
 ·
   let s0:S:=⟨sr (bB env) ps args,o,nx⟩
   let a0:Act:={tmps:=tm,defers:=[]}
   have qq:cd M φ (hp o nx) w n ⟨[],true⟩ φ s0 a0 w:=⟨hH,Trans.refl _ _ _,p1,⟨[],rfl,List.nodup_nil,fun _=>rfl,fun r hr=>by cases hr⟩,p2⟩
   have sE:∀ {ax s' a' w'},cd M φ (hp o nx) w n ⟨[],true⟩ ax s' a' w'->a'.defers=[]:=by
    intro ax s' a' w' hs
    obtain⟨ms,g1,_,g3,_⟩:=hs.defers
    rw[g3 rfl]at g1;exact g1
   have O9:∀ {ax s' a' w'} {nf m:Nat} {en:List V} {p:List Nat} {c d:IC} {st:LoopState} {pd:Option kn} (st':LoopState) (pd':Option kn),cd M φ (hp o nx) w n ⟨[],true⟩ ax s' a' w'->s'.o id= .loop nf m en p c d st pd->
    ∃r',w'.heap[b]? =some (.loop r')/\r'.state=st/\r'.pending=pd.map kn.code/\
     cd M φ (hp o nx) w n ⟨[],true⟩ ax ⟨s'.env,aq s'.o id (.loop nf m en p c d st' pd'),s'.nx⟩ a' {w' with heap:=w'.heap.setIfInBounds b (.loop {r' with state:=st',pending:=pd'.map kn.code})}:=by
    intro ax s' a' w' nf m en p c d st pd st' pd' hs jB
    have KJ:ax id= .pointer (some ⟨b,0,none⟩):=by
     have:=(hs.tr.rel.row id bM (by show(s'.o id).bO=true;rw[jB];rfl)).2
     rw[this];exact du
    have Pa:id<s'.nx:=hs.tr.rel.us id bM
    obtain⟨r',r1,r2,r3,r4,r5⟩:=uv (st':=st') (pd':=pd') hs.heap Pa (show s'.H.o id=_ from jB) KJ
    exact⟨r',r1,r2,r3,ez hs r4 r5 rfl (yq Pa)⟩
   have ha:=gQ (P:=P) (n:=n) (b:=nx) (rd:=true) bc r.assign _ _ s0 (fun _ _ h=>h) (by rw[h7];exact h)
   refine sa h0 (gw (gL (P:=P) (H0:=hp o nx) (b:=nx) (cx:=⟨[],true⟩) (ro:=some b) (fun id hu=>hu) (fun h=>by cases h) r.assign _ s0 φ a0 w ha qq) ?_)
   rintro e a1 w1 ⟨x,s1,iy,hq,uw,hm⟩
   cases e<;>cases x<;>first|(exact hm.elim)|skip
   ·
     obtain⟨nf,m,en,p,c,d,TV,q1,q2⟩:=hq
     obtain⟨r',r1,r2,r3,G8⟩:=O9 .busy TV uw q1
     have Lr:(Instr.beginRound b).run P w1= .ok () {w1 with heap:=w1.heap.setIfInBounds b (.loop {r' with state:= .busy,pending:=TV.map kn.code})}:=by
      have e1:({r' with state:= .busy}:Loop)={r' with state:= .busy,pending:=TV.map kn.code}:=by rw[<- r3]
      simp only[Instr.beginRound,Sem.run_bind,jP r1,Result.andThen_ok,iA _ r1,r2,Sem.run_pure,e1]
     refine⟨_,Lr, ?_⟩
     have bG:=G8.heap.ok id
     simp only[aL,S.H,aJ,if_true]at bG
     obtain⟨b2,ZX,_,_,_,_,_,_,_,_,_,_⟩:=bG
     have hb:=gQ (P:=P) (n:=n) (b:=nx) (rd:=true) bc r.body _ _ _ (fun _ _ h=>h) (by rw[h8];exact q2)
     refine gw (gL (P:=P) (H0:=hp o nx) (b:=nx) (cx:=⟨[],true⟩) (ro:=some b) (fun id hu=>hu) (fun h=>by cases h) r.body _ _ iy a1 _ hb G8) ?_
     rintro e a2 w2 ⟨x,s2,C2,MK,zG,IW⟩
     have fin:∀ {nf m:Nat} {en:List V} {p:List Nat} {c d:IC} {st:LoopState} {pd:Option kn} (jump:Option kn) (t:Bool) (st':LoopState),t=jump.isNone->st'=(if jump.isNone then .ready else .done)->s2.o id= .loop nf m en p c d st pd->K (.d (.bool t)) (aq s2.o id (.loop nf m en p c d st' jump)) s2.nx->
      ∃v w',(Instr.endRound b (jump.map kn.code)).run P w2= .ok v w'/\mg M φ (hp o nx) w K X (.returned v) w':=by
      intro nf m en p c d st pd jump t st' ht qO Y3 hK
      obtain⟨ZY,g1,g2,g3,ML⟩:=O9 st' jump zG Y3
      refine⟨.bool t,_, ?_,C2,_,_,_,ML.heap,ML.tr,by simp only[V.den,D.den],hK⟩
      subst ht;subst qO
      simp only[Instr.endRound,Sem.run_bind,jP g1,Result.andThen_ok,iA _ g1,Sem.run_pure,Option.isNone_map]
     cases e<;>cases x<;>first|(exact IW.elim)|skip
     ·obtain⟨nf,m,en,p,c,d,st,pd,k1,k2⟩:=MK
      exact fin none true .ready rfl rfl k1 k2
     ·rename_i j
      subst IW
      obtain⟨nf,m,en,p,c,d,st,pd,k1,k2⟩:=MK
      exact fin (some (.exit _)) false .done rfl rfl k1 k2
     ·obtain⟨nf,m,en,p,c,d,st,pd,k1,k2⟩:=MK
      exact fin (some .ret) false .done rfl rfl k1 k2
     ·obtain⟨val,rfl,k2⟩:=IW
      exact⟨sE zG,C2,_,_,_,zG.heap,zG.tr,val,rfl,k2,MK⟩
   ·exact hq.elim
   ·exact hq.elim
   ·obtain⟨val,rfl,k2⟩:=hm
    exact⟨sE uw,iy,_,_,_,uw.heap,uw.tr,val,rfl,k2,hq⟩
end
end Go.Proofs.YtealblliddhgiaaGreat
namespace Go.Proofs.YtealblliddhgiaaGreat
def Ls(ops:Array Oper)(t t1:Nat):Prop:=
 (∃o1 o2,ops=#[o1,o2]/\o1.op= .call ⟨.builtin .recover,#[],#[]⟩/\o1.dst=some t/\o1.guard=none/\o2.op= .assign (.tmp t)/\o2.dst=some t1/\o2.guard=none)\/
 (∃o1,ops=#[o1]/\t1=t/\o1.op= .call ⟨.builtin .recover,#[],#[]⟩/\o1.dst=some t/\o1.guard=none)
structure BM (P:Program) (g:FuncId) (n t t1:Nat) (ic:IC):Prop where
 get:∃fn id ops c,P.funcs[g]? =some fn/\(fn.name== "runtime.NumGoroutine")=false/\fn.ntmps=n/\fn.results=#[]/\fn.body=some (.seq (.region id ops false) c)/\
  Ls ops t t1/\t<n/\t1<n/\low n c=ic
structure FB (P:Program) (f:FuncId) (n:Nat) (lS gY:IC) (g:FuncId) (t:Nat) (dE:List Operand) (rs:List ResultVar):Prop where
 get:∃fn id o1 o2 a b,P.funcs[f]? =some fn/\(fn.name== "runtime.NumGoroutine")=false/\fn.ntmps=n/\fn.results.toList=rs/\fn.body=some (.seq a (.seq (.region id #[o1,o2] false) b))/\
  o1.op= .makeFunc (.func g) #[] dE.toArray/\o1.dst=some t/\o1.guard=none/\o2.op= .defer ⟨.value (.tmp t),#[],#[]⟩/\o2.dst=none/\o2.guard=none/\t<n/\low n a=lS/\low n b=gY
def TW(K:(Nat->ae)->Nat->Prop)(e:fq)(s:S):Prop:=match e with| .normal| .ret=>K s.o s.nx|_=>False
def Dm(P:Program)(n t t1:Nat)(ic:IC)(dE:List V)(u:V)(o:Nat->ae)(nx:Nat)(K:(Nat->ae)->Nat->Prop):Prop:=
 dE.length<=n/\rh P n nx true ic (TW K) ⟨aq (aq (cN dE) t u) t1 u,o,nx⟩
def AH(P:Program)(n t t1:Nat)(ic:IC)(dE:List V)(rs:List ResultVar)(K X:V->(Nat->ae)->Nat->Prop)(e:fq)(s:S):Prop:=
 match e with
 | .normal| .ret=>Dm P n t t1 ic dE (.d .fH) s.o s.nx fun o nx=>lu P rs K X .ret ⟨s.env,o,nx⟩
 | .bK v=>Dm P n t t1 ic dE v s.o s.nx fun o nx=>lu P rs K X .ret ⟨s.env,o,nx⟩
 | .exit _=>False
def FC(P:Program)(n t:Nat)(gY:IC)(iQ:List Operand)(g:FuncId)(D:List V->fq->S->Prop)(e:fq)(s:S):Prop:=
 match e with
 | .normal=>rh P n s.nx false gY (D (iQ.map s.ev)) ⟨aq s.env t (.func (.func g) [] (iQ.map s.ev)),s.o,s.nx⟩
 |_=>False
section
variable {P:Program}{M:Nat->Prop}{φ cC:Place}{H H0:Hp}{w w0:World}{n:Nat}{s:S}{a:Act}{cx:Cx}{k:Nat}
theorem Dn(bc:P.follows .mixedOrders=true){g:FuncId}{t t1:Nat}{ic:IC}(hg:BM P g n t t1 ic){dE:List V}{u:V}{o:Nat->ae}{nx:Nat}{K:(Nat->ae)->Nat->Prop}(h:Dm P n t t1 ic dE u o nx K)
 {vals:Array Value} {val:Value} {m:FrameMode} (hH:au M φ (hp o nx) w) (hd:V.aB (ai M φ (hp o nx)) φ (hp o nx) w dE vals.toList) (hv:V.den (ai M φ (hp o nx)) φ (hp o nx) w u val)
 (hm:(m= .returning/\val= .nilIface)\/m= .panicking [{v:=val,recovered:=false}]):
 CallsDIn (dT none) k P g vals m w fun e u' w'=>∃v ax o' nx',e= .returned v/\settle u'= .returning/\au M ax (hp o' nx') w'/\Trans φ (hp o nx) w ax (hp o' nx') w'/\K o' nx':=by
 obtain⟨fn,id,ops,c,hf,JG,Y4,qQ,oS,De,ht,w8,ng⟩:=hg.get
 have bM:g<P.funcs.size:=(Array.getElem?_eq_some_iff.1 hf).1
 obtain⟨jA,h⟩:=h
 have hlen:=V.aD _ _ hd
 refine⟨trivial,fun nU cs FE IV=> ?_⟩
 let b:Frame:={(default:Frame)with fn:=g,kind:= .deferred,roundOf:=none}
 let rk:Array Value:=vals++Array.replicate (fn.ntmps - vals.size) undef
 have TX:rk.size=n:=by simp only[rk,Array.size_append,Array.size_replicate];simp at hlen;omega
 have lr:Frame.enter P g vals .deferred=b.atR {tmps:=rk,defers:=[]} [.code (.seq (.region id ops false) c)]:=by
  simp[Frame.enter,Frame.atR,hf,oS,b,rk]
 obtain⟨m',Nx,bG⟩:∃m',settle m'= .returning/\((recoverD (nU::cs)=none/\m'=m/\val= .nilIface)\/recoverD (nU::cs)=some (val,{nU with mode:=m'}::cs)):=by
  rcases hm with⟨rfl,rfl⟩|rfl
  ·exact⟨.returning,rfl, .inl ⟨by simp[recoverD,FE],rfl,rfl⟩⟩
  ·exact⟨.panicking [{v:=val,recovered:=true}],rfl, .inr (by simp[recoverD,FE])⟩
 have Se:({nU with mode:=m}:Frame)=nU:=by subst FE;rfl
 let a1:Act:={tmps:=(rk.setIfInBounds t val).setIfInBounds t1 val,defers:=[]}
 have HE:(Code.region id ops false).wpSIn (dT none) k P (fun e a' cs' w'=>e= .normal/\a'=a1/\cs'={nU with mode:=m'}::cs/\w'=w) {tmps:=rk,defers:=[]} (nU::cs) w:=by
  rcases De with⟨o1,o2,rfl,e1,e2,e3,e4,e5,e6⟩|⟨o1,rfl,rfl,e1,e2,e3⟩
  ·refine wpSIn_region ?_
   have hr:List.range (#[o1,o2]:Array Oper).size=[0,1]:=rfl
   have g0:(#[o1,o2]:Array Oper)[0]? =some o1:=rfl
   have g1:(#[o1,o2]:Array Oper)[1]? =some o2:=rfl
   rw[hr]
   have x1:∀ (ρ:Operand->Value) (w:World),(execOp ρ o1).run P w= .ok .recover w:=by
    intro ρ w
    simp[execOp,e1,resolve,invoke,builtin]
   have x2:∀ (ρ:Operand->Value) (w:World),(execOp ρ o2).run P w= .ok (.value (ρ (.tmp t))) w:=by
    intro ρ w
    simp[execOp,e4]
   have last:∀cs',cs'={nU with mode:=m'}::cs->wpOpsSIn (dT none) k P #[o1,o2] (fun e a' cs' w'=>e= .normal/\a'=a1/\cs'={nU with mode:=m'}::cs/\w'=w) [1] (({tmps:=rk,defers:=[]}:Act).put (some t) val) cs' w:=by
    rintro cs' rfl
    have hw:Region.wanted o2 (yielded #[o1,o2] (({tmps:=rk,defers:=[]}:Act).put (some t) val).tmps)=true:=by simp[Region.wanted,e6]
    have dI:(({tmps:=rk,defers:=[]}:Act).put (some t) val).eval (.tmp t)=val:=by
     have:t<rk.size:=by omega
     simp[Act.put,Act.eval,Array.getD,this]
    simp only[wpOpsSIn,g1,hw,if_true,x2,dI,e5]
    refine⟨fun _ _=>trivial, ?_⟩
    simp[a1,Act.put]
   have hw:Region.wanted o1 (yielded #[o1,o2] rk)=true:=by simp[Region.wanted,e3]
   rw[wpOpsSIn,g0]
   refine⟨fun _ _=>trivial, ?_⟩
   simp only[hw,if_true,x1,e2]
   rcases bG with⟨hr,rfl,rfl⟩|hr
   ·simp only[hr]
    exact last _ (by rw[Se])
   ·simp only[hr]
    exact last _ rfl
  ·refine wpSIn_region ?_
   have hr:List.range (#[o1]:Array Oper).size=[0]:=rfl
   have g0:(#[o1]:Array Oper)[0]? =some o1:=rfl
   rw[hr]
   have x1:∀ (ρ:Operand->Value) (w:World),(execOp ρ o1).run P w= .ok .recover w:=by
    intro ρ w
    simp[execOp,e1,resolve,invoke,builtin]
   have same:a1=({tmps:=rk,defers:=[]}:Act).put (some t1) val:=by
    simp only[a1,Act.put]
    congr 1
    apply Array.ext_getElem?
    intro j
    simp only[Array.getElem?_setIfInBounds]
    by_cases hj:t1=j
    ·subst hj;simp
    ·simp[hj]
   have last:∀cs',cs'={nU with mode:=m'}::cs->wpOpsSIn (dT none) k P #[o1] (fun e a' cs' w'=>e= .normal/\a'=a1/\cs'={nU with mode:=m'}::cs/\w'=w) [] (({tmps:=rk,defers:=[]}:Act).put (some t1) val) cs' w:=by
    rintro cs' rfl
    simp only[wpOpsSIn]
    exact⟨trivial,same.symm,trivial,trivial⟩
   have hw:Region.wanted o1 (yielded #[o1] rk)=true:=by simp[Region.wanted,e3]
   rw[wpOpsSIn,g0]
   refine⟨fun _ _=>trivial, ?_⟩
   simp only[hw,if_true,x1,e2]
   rcases bG with⟨hr,rfl,rfl⟩|hr
   ·simp only[hr]
    exact last _ (by rw[Se])
   ·simp only[hr]
    exact last _ rfl
 obtain⟨er,ar,ZZ,wr,hl,⟨rfl,rfl,rfl,Y5⟩,cG⟩:=HE b [.code c] rfl rfl trivial (fun d hd=>by simp[dT]at hd)
 rw[Y5]at cG
 let s0:S:=⟨aq (aq (cN dE) t u) t1 u,o,nx⟩
 have qq:cd M φ (hp o nx) w n ⟨[],true⟩ φ s0 a1 w:=by
  refine⟨hH,Trans.refl _ _ _,by simp[a1,TX],⟨[],rfl,List.nodup_nil,fun _=>rfl,fun r hr=>by cases hr⟩,fun i=> ?_⟩
  have dC:=rZ (m:=fn.ntmps - vals.size) hd i
  simp only[s0,a1,aJ]
  have Sh:t<rk.size:=by omega
  have TY:t1<rk.size:=by omega
  by_cases h1:i=t1
  ·subst h1
   simp only[if_true]
   have:((rk.setIfInBounds t val).setIfInBounds i val).getD i undef=val:=by simp[Array.getD,TY]
   rw[this];exact hv
  ·simp only[h1,if_false]
   have e1:((rk.setIfInBounds t val).setIfInBounds t1 val).getD i undef=(rk.setIfInBounds t val).getD i undef:=by
    simp only[Array.getD_eq_getD_getElem?]
    rw[Array.getElem?_setIfInBounds_ne (Ne.symm h1)]
   rw[e1]
   by_cases h2:i=t
   ·subst h2
    simp only[if_true]
    have:(rk.setIfInBounds i val).getD i undef=val:=by simp[Array.getD,Sh]
    rw[this];exact hv
   ·simp only[h2,if_false]
    have e1:(rk.setIfInBounds t val).getD i undef=rk.getD i undef:=by
     simp only[Array.getD_eq_getD_getElem?]
     rw[Array.getElem?_setIfInBounds_ne (Ne.symm h2)]
    rw[e1];exact dC
 have Y6:=gQ (P:=P) (n:=n) (b:=nx) (rd:=true) bc c _ _ s0 (fun _ _ h=>h) (by rw[ng];exact h)
 obtain⟨e,a',w',⟨x,s',ax,hq,iz,hx⟩,Bw⟩:=gL (P:=P) (H0:=hp o nx) (b:=nx) (cx:=⟨[],true⟩) (ro:=none) (fun id hu=>hu) (fun h=>by cases h) c _ s0 φ a1 w Y6 qq b [] ({nU with mode:=m'}::cs) rfl bM
 have i0:(lone (b.atR {tmps:=rk,defers:=[]} [.code (.seq (.region id ops false) c)]) (nU::cs) w).fenced P (dT none):=fenced_calm (n:=0) trivial gv rfl
 have JH:StepsIn (Machine.fenced P (dT none)) P (lone (b.atR {tmps:=rk,defers:=[]} [.code (.seq (.region id ops false) c)]) (nU::cs) w) (lone (b.atR a1 [.code c]) ({nU with mode:=m'}::cs) w):= .head i0 stepR_seq cG
 have sE:a'.defers=[]:=by
  obtain⟨ms,g1,_,g3,_⟩:=iz.defers
  rw[g3 rfl]at g1;exact g1
 have Pb:∀tm:Array Value,∃v,(results fn tm).run P w'= .ok v w':=by
  intro tm
  refine⟨_,mo (vals:=[]) ?_⟩
  rw[qQ];rfl
 rw[lr]
 obtain⟨v,tx⟩:=Pb a'.tmps
 cases e<;>cases x<;>first|(exact hx.elim)|(exact hq.elim)|skip
 ·exact⟨.returned v,m',w',_,⟨v,ax,s'.o,s'.nx,rfl,Nx,iz.heap,iz.tr,hq⟩,StepsIn.trans JH (StepsIn.trans Bw (.one (fenced_calm (n:=0) (fr:=b.atR a' []) trivial gv rfl) (stepR_end rfl))),rfl,rfl,rfl,sE,fn,hf,tx⟩
 ·obtain⟨todo,hs⟩:=Bw.1 rfl
  exact⟨.returned v,m',w',_,⟨v,ax,s'.o,s'.nx,rfl,Nx,iz.heap,iz.tr,hq⟩,StepsIn.trans JH hs,rfl,rfl,rfl,sE,fn,hf,tx⟩
theorem eN.FF (bc:P.follows .mixedOrders=true){f g:FuncId}{lS gY yr:IC}{t m r r1:Nat}{iQ:List Operand}{rs:List ResultVar}(hf:FB P f n lS gY g t iQ rs)(hg:BM P g m r r1 yr)
 {args:List V} {o:Nat->ae} {nx:Nat} {K X:V->(Nat->ae)->Nat->Prop} (hl:args.length<=n)
 (h:rh P n nx true lS (FC P n t gY iQ g fun dE=>AH P m r r1 yr dE rs K X) ⟨cN args,o,nx⟩):eN P f args o nx K X:=by
 obtain⟨fn,id,o1,o2,ca,cb,CY,JG,Y4,qQ,oS,e1,e2,e3,e4,e5,e6,ht,Y7,G4⟩:=hf.get
 obtain⟨gn,_,_,gc,Y8,Lt,_,_,Lu,_⟩:=hg.get
 refine⟨⟨fn,CY,JG,by rw[oS];rfl⟩,fun M φ w vals hH hd=> ?_⟩
 have hlen:=V.aD _ _ hd
 let s0:S:=⟨cN args,o,nx⟩
 let a0:Act:={tmps:=vals++Array.replicate (fn.ntmps - vals.size) undef,defers:=[]}
 have qq:cd M φ (hp o nx) w n ⟨[],true⟩ φ s0 a0 w:=by
  refine⟨hH,Trans.refl _ _ _, ?_,⟨[],rfl,List.nodup_nil,fun _=>rfl,fun r hr=>by cases hr⟩,rZ hd⟩
  simp only[a0,Array.size_append,Array.size_replicate];simp at hlen;omega
 have ha:=gQ (P:=P) (n:=n) (b:=nx) (rd:=true) bc ca _ _ s0 (fun _ _ h=>h) (by rw[Y7];exact h)
 refine xK (ro:=none) (k:=0) (mq CY oS (vM (gw (gL (P:=P) (H0:=hp o nx) (b:=nx) (cx:=⟨[],true⟩) (ro:=none) (fun id hu=>hu) (fun h=>by cases h) ca _ s0 φ a0 w ha qq) ?_)))
 rintro e a1 w1 ⟨x,s1,iy,hq,uw,hm⟩
 cases e<;>cases x<;>first|(exact hm.elim)|(exact hq.elim)|skip
 have sE:a1.defers=[]:=by
  obtain⟨ms,g1,_,g3,_⟩:=uw.defers
  rw[g3 rfl]at g1;exact g1
 let cv:Array Value:=(iQ.map a1.eval).toArray
 let fv:Value:= .func (.func g) #[] cv
 let dd:Deferred:={target:= .fn (.func g) cv,args:=#[]}
 let a2:Act:={tmps:=a1.tmps.setIfInBounds t fv,defers:=[dd]}
 have JI:V.aB (ai M iy s1.H) iy s1.H w1 (iQ.map s1.ev) cv.toList:=by
  simpa[cv]using jH (M:=M) (φ:=iy) (H:=s1.H) (w:=w1) s1 a1 uw.env iQ
 refine vM (gw (Q:=fun e a w=>e= .normal/\a=a2/\w=w1) (nM (k:=0) (wpIn_region_list ?_)) ?_)
 ·have y1:Region.wanted o1 (yielded #[o1,o2] a1.tmps)=true:=by simp[Region.wanted,e3]
  have y2:∀tm,Region.wanted o2 (yielded #[o1,o2] tm)=true:=by intro tm;simp[Region.wanted,e6]
  have dI:(a1.put (some t) fv).eval (.tmp t)=fv:=by
   have:t<a1.tmps.size:=by rw[uw.size];exact ht
   simp[Act.put,Act.eval,Array.getD,this]
  show wpListIn (dT none) 0 P #[o1,o2] _ [o1,o2] a1 w1
  unfold wpListIn
  rw[if_pos y1]
  have x1:(execOp a1.eval o1).run P w1= .ok (.value fv) w1:=by simp[execOp,e1,fv,cv,Instr.makeFunc]
  refine jM (fun c hc=>by rw[e1]at hc;cases hc) ?_
  rw[x1]
  show wpListIn (dT none) 0 P #[o1,o2] _ [o2] (a1.put o1.dst fv) w1
  rw[e2]
  unfold wpListIn
  rw[if_pos (y2 _)]
  have x2:(execOp (a1.put (some t) fv).eval o2).run P w1= .ok (.defer dd) w1:=by
   simp[execOp,e4,resolve,dI,Deferred.ofValue,fv,dd]
  refine⟨fun _ _=>trivial, ?_⟩
  have:(o2.semAt (dT none).round (a1.put (some t) fv).eval)=execOp (a1.put (some t) fv).eval o2:=rfl
  rw[this,x2]
  unfold Oper.uponIn
  simp only[e5,wpListIn,Act.put,sE,a2,and_self]
 rintro e a w2 ⟨rfl,rfl,rfl⟩
 have w8:t<a1.tmps.size:=by rw[uw.size];exact ht
 let s2:S:=⟨aq s1.env t (.func (.func g) [] (iQ.map s1.ev)),s1.o,s1.nx⟩
 have G8:cd M iy s1.H w2 n ⟨[dd],false⟩ iy s2 a2 w2:=by
  refine⟨uw.heap,Trans.refl _ _ _,by simp[a2,uw.size],⟨[],rfl,List.nodup_nil,fun _=>rfl,fun r hr=>by cases hr⟩,fun i=> ?_⟩
  simp only[s2,a2,aJ]
  by_cases h1:i=t
  ·subst h1
   have:(a1.tmps.setIfInBounds i fv).getD i undef=fv:=by simp[Array.getD,w8]
   simp only[if_true];rw[this]
   exact⟨#[],cv,rfl,rfl,JI⟩
  ·have:(a1.tmps.setIfInBounds t fv).getD i undef=a1.tmps.getD i undef:=by
    simp only[Array.getD_eq_getD_getElem?]
    rw[Array.getElem?_setIfInBounds_ne (Ne.symm h1)]
   simp only[h1,if_false];rw[this]
   exact uw.env i
 have hb:=gQ (P:=P) (n:=n) (b:=s1.nx) (rd:=false) bc cb _ _ s2 (fun _ _ h=>h) (by rw[G4];exact hq)
 refine gw (gL (P:=P) (H0:=s1.H) (b:=s1.nx) (cx:=⟨[dd],false⟩) (ro:=none) (fun id hu=>hu) (fun _=>rfl) cb _ s2 iy a2 w2 hb G8) ?_
 rintro e a3 w3 ⟨x,s3,Pc,Sx,zG,um⟩
 obtain⟨ms,g1,g2,_,g4⟩:=zG.defers
 have hinv:(invoke dd.target dd.args).run P=fun w=> .ok (.enter g cv) w:=by
  funext w
  have:=kA (w:=w) ⟨gn,Y8,Lt,by rw[Lu];rfl⟩ cv
  simpa[dd,invoke]using this
 have last:∀ {w4:World} {tm:Array Value} {u:V} {val:Value} {m0:FrameMode},m0≠ .run->vQ M iy s1.H w2 Pc s3 a3.tmps w4->V.den (ai M Pc s3.H) Pc s3.H w4 u val->
  ((m0= .returning/\val= .nilIface)\/m0= .panicking [{v:=val,recovered:=false}])->
  (Dm P m r r1 yr (iQ.map s1.ev) u s3.o s3.nx fun o nx=>lu P rs K X .ret ⟨s3.env,o,nx⟩)->
  LeavesInM (dT none) 0 P fn a3.tmps (mg M φ (hp o nx) w K X) [dd] m0 w4:=by
  intro w4 tm u val m0 e9 hB Ky Y9 bG
  have Lv:=V.aI hB.tr _ _ JI
  refine⟨e9, .inr ⟨fun h=>by simp[dT]at h, .func g,cv,g,cv,rfl,by rw[hinv],fun _ _=>trivial,CallsDIn.mono (Dn (k:=0 - 1) bc hg bG (m:=m0) hB.heap Lv Ky Y9) ?_⟩⟩
  rintro e u' w5 ⟨v,TZ,o5,Sy,rfl,AJ,k1,k2,k3⟩
  show LeavesInM (dT none) 0 P fn a3.tmps (mg M φ (hp o nx) w K X) [] (settle u') w5
  rw[AJ]
  obtain⟨vs,h1,h2⟩:=xR k3
  rw[<- qQ]at h1
  have Pf:∀i,V.den (ai M TZ (hp o5 Sy)) TZ (hp o5 Sy) w5 (s3.env i) (a3.tmps.getD i undef):=fun i=>V.aC k2 _ _ (hB.env i)
  obtain⟨WB,h3,h4⟩:=rb (P:=P) (s:=⟨s3.env,o5,Sy⟩) (a:=a3) k1 Pf _ _ h1
  exact⟨_,mo h3,TZ,o5,Sy,_,k1,uw.tr.trans (hB.tr.trans k2),xS h4,h2⟩
 have done:Dm P m r r1 yr (iQ.map s1.ev) (.d .fH) s3.o s3.nx (fun o nx=>lu P rs K X .ret ⟨s3.env,o,nx⟩)->LeavesInM (dT none) 0 P fn a3.tmps (mg M φ (hp o nx) w K X) a3.defers .returning w3:=by
  intro bG
  rw[g1]
  exact gx (P:=P) (k:=0) (fn:=fn) (R:=mg M φ (hp o nx) w K X) (u:= .returning) (by simp) (ds:=[dd]) (fun w4 hB=>last (tm:=a3.tmps) (by simp) hB (u:= .d .fH) (val:= .nilIface) (by simp[V.den,D.den]) (.inl ⟨rfl,rfl⟩) bG) ms w3 g2 g4 zG.Wv
 cases e<;>cases x<;>first|(exact um.elim)|skip
 ·exact done Sx
 ·exact Sx.elim
 ·exact done Sx
 ·rename_i v
  obtain⟨val,rfl,Ty⟩:=um
  show LeavesInM (dT none) 0 P fn a3.tmps (mg M φ (hp o nx) w K X) a3.defers _ w3
  rw[g1]
  let Pg:Nat->V:=fun i=>match i with|0=>v|i+1=>s3.env i
  have Ph:(#[val]++a3.tmps).getD 0 undef=val:=by simp[Array.getD]
  have Pj:∀i,(#[val]++a3.tmps).getD (i+1) undef=a3.tmps.getD i undef:=by
   intro i
   simp only[Array.getD_eq_getD_getElem?]
   rw[Array.getElem?_append_right (by simp)]
   simp
  have Ah:vQ M iy s1.H w2 Pc ⟨Pg,s3.o,s3.nx⟩ (#[val]++a3.tmps) w3:=⟨zG.heap,zG.tr,fun i=>by
   cases i with
   |zero=>rw[Ph];exact Ty
   |succ i=>rw[Pj];exact zG.env i⟩
  have Pk:∀w4,vQ M iy s1.H w2 Pc ⟨Pg,s3.o,s3.nx⟩ (#[val]++a3.tmps) w4->LeavesInM (dT none) 0 P fn a3.tmps (mg M φ (hp o nx) w K X) [dd] (.panicking [{v:=val,recovered:=false}]) w4:=by
   intro w4 hB
   have WC:=hB.env 0
   rw[Ph]at WC
   refine last (tm:=a3.tmps) (by simp) ⟨hB.heap,hB.tr,fun i=> ?_⟩ WC (.inr rfl) Sx
   have hs:=hB.env (i+1)
   rw[Pj]at hs
   exact hs
  exact gx (P:=P) (k:=0) (fn:=fn) (R:=mg M φ (hp o nx) w K X) (u:= .panicking [{v:=val,recovered:=false}]) (by simp) (ds:=[dd]) Pk ms w3 g2 g4 Ah
end
end Go.Proofs.YtealblliddhgiaaGreat
