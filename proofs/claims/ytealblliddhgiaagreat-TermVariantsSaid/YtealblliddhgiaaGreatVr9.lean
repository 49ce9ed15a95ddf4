/-
  A PART OF THE PROOF. Conditions: none.
-/
import Derived.Test.YtealblliddhgiaaGreatVr8
set_option linter.unusedSimpArgs false
set_option linter.unusedVariables false
namespace Go.Proofs.YtealblliddhgiaaGreat
def ae.I3:ae->Bool
 | .nW .. =>true
 |_=>false
def He(o:Nat->ae)(v:V):Option D:=if v.ids.all (fun id=>(o id).I3)=true then dz o v else none
section
variable (ρ:Nat->Option Nat)(o' o:Nat->ae)(nx:Nat)
mutual
def qq:V->V->Prop
 | .aa,_=>True
 | .d x,v=>He o v=some x
 | .aX,v=>v= .aX
 | .agg cs,v=>match v with| .agg ds=>pN cs ds|_=>False
 | .bT cs,v=>match v with| .bT ds=>pN cs ds|_=>False
 | .ptr cM x6,v=>match v with| .ptr id off=>ρ cM=some id/\x6=off/\cM<nx|_=>False
 | .osl cM gz,v=>cM<nx/\(o' cM).aZ=some gz/\match v with
   | .aX=>ρ cM=none
   | .osl id ep=>ρ cM=some id/\(o id).aZ=some ep
   |_=>False
 | .pe cM gz i' mV x6,v=>cM<nx/\(o' cM).aZ=some gz/\match v with
   | .pe id ep i sz off=>ρ cM=some id/\(o id).aZ=some ep/\i'=i/\mV=sz/\x6=off
   |_=>False
 | .pp cs off,v=>v= .pp cs off
 | .func fn a b,v=>match v with| .func X4 a' b'=>fn=X4/\pN a a'/\pN b b'|_=>False
 | .iface t x,v=>match v with| .iface t' y=>t=t'/\qq x y|_=>False
 | .nr es,v=>v= .nr es
 | .rk cM x6 n',v=>match v with| .rk id off n=>ρ cM=some id/\x6=off/\n'=n/\cM<nx|_=>False
 | .mp cM,v=>match v with| .mp id=>ρ cM=some id/\cM<nx|_=>False
 | .eO,v=>v= .eO\/∃b,v= .d (.bool b)
 | .ke cM,v=>match v with| .ke id=>ρ cM=some id/\cM<nx|_=>False
def pN:List V->List V->Prop
 |[],vs=>vs=[]
 |x::xs,vs=>match vs with|v::vs=>qq x v/\pN xs vs|[]=>False
end
def mo(cM:Nat):Prop:=
 match o' cM with
 | .no=>True
 | .row cs'=>match ρ cM with
   |some id=>match o id with| .row cs=>pN ρ o' o nx cs' cs|_=>False
   |none=>False
 | .arr _ ty sz es=>match ρ cM with
   |some id=>match o id with| .arr _ S4 mV es'=>ty=S4/\sz=mV/\es=es'|_=>False
   |none=>es=[]/\0<sz
 | .nW _ es=>match ρ cM with
   |some id=>match o id with| .nW _ es'=>es=es'|_=>False
   |none=>False
 | .map kt vt l=>match ρ cM with
   |some id=>match o id with| .map zd ze l'=>kt=zd/\vt=ze/\l=l'|_=>False
   |none=>False
 | .loop nf n env ps a b st pd=>match ρ cM with
   |some id=>match o id with| .loop Oe n' S5 X5 a' b' st' pd'=>nf=Oe/\n=n'/\ps=X5/\a=a'/\b=b'/\st=st'/\pd=pd'/\pN ρ o' o nx env S5|_=>False
   |none=>False
 | .dZ l=>match ρ cM with
   |some id=>match o id with| .dZ l'=>l=l'|_=>False
   |none=>False
 | .kg l last=>match ρ cM with
   |some id=>match o id with| .kg l' EU=>l=l'/\(last=none\/last=EU)|_=>False
   |none=>False
 | .rl s pos=>match ρ cM with
   |some id=>match o id with| .rl s' pos'=>s=s'/\pos=pos'|_=>False
   |none=>False
end
section
variable {M M':Nat->Prop}{φ ay:Place}{H H':Hp}{w:World}{ρ:Nat->Option Nat}{nx:Nat}
theorem EV(hH:au M φ H w){v:V}{x:D}{val:Value}(h:He H.o v=some x)(hd:V.den (ai M φ H) φ H w v val):D.den (ai M φ H) w x val:=by
 unfold He at h
 split at h
 ·rename_i ha
  refine dR hH (o:=H.o) v x val (fun id aj=> ?_) h hd
  have:=List.all_eq_true.1 ha id aj
  cases ho:H.o id<;>rw[ho]at this<;>simp[ae.I3]at this
  rfl
 ·cases h
mutual
theorem qV(hH:au M φ H w)(dT:∀b,cn w b-> ¬ai M φ H b-> ¬ai M' ay H' b)(du:∀id,ay id=match ρ id with|some j=>φ j|none=> .slice none 0 0)
 (dQ:∀id,id<nx->H'.us id) (a7:∀cM id,ρ cM=some id->(H'.o cM).bN=true->(H.o id).bN=true):
 ∀ (x v:V) (val:Value),qq ρ H'.o H.o nx x v->V.den (ai M φ H) φ H w v val->V.den (ai M' ay H') ay H' w x val
 | .aa,_,_,_,_=>trivial
 | .d x,v,val,h,hd=>D.aA (fun b hb hn=>⟨rfl,dT b hb hn⟩) x val (EV hH (by simpa[qq]using h) hd)
 | .aX,v,val,h,hd=>by simp only[qq]at h;subst h;exact hd
 | .agg cs,v,val,h,hd=>by
   unfold qq at h
   split at h
   ·obtain⟨a,rfl,hd,hf⟩:=hd
    exact⟨a,rfl,kC hH dT du dQ a7 _ _ _ h hd,hf⟩
   ·exact h.elim
 | .bT cs,v,val,h,hd=>by
   unfold qq at h
   split at h
   ·obtain⟨a,rfl,hd⟩:=hd
    exact⟨a,rfl,kC hH dT du dQ a7 _ _ _ h hd⟩
   ·exact h.elim
 | .ptr cM x6,v,val,h,hd=>by
   unfold qq at h
   split at h
   ·obtain⟨h1,rfl,h3⟩:=h
    obtain⟨g1,_,g3⟩:=hd
    refine⟨g1,dQ _ h3,fun hr=> ?_⟩
    obtain⟨b,k1,k2⟩:=g3 (a7 _ _ h1 hr)
    exact⟨b,by rw[du,h1];exact k1,k2⟩
   ·exact h.elim
 | .osl cM gz,v,val,h,hd=>by
   unfold qq at h
   obtain⟨h1,h2,h3⟩:=h
   split at h3
   ·simp only[V.den]at hd;subst hd
    refine⟨rfl,dQ _ h1,fun e he=> ?_⟩
    rw[h2]at he;injection he with he;subst he
    exact⟨Nat.le_refl _,fun _=>by rw[du,h3]⟩
   ·obtain⟨g1,_,g3⟩:=hd
    refine⟨g1,dQ _ h1,fun e he=> ?_⟩
    rw[h2]at he;injection he with he;subst he
    exact⟨Nat.le_refl _,fun _=>by rw[du,h3.1];exact(g3 _ h3.2).2 rfl⟩
   ·exact h3.elim
 | .pe cM gz i' mV x6,v,val,h,hd=>by
   unfold qq at h
   obtain⟨h1,h2,h3⟩:=h
   split at h3
   ·obtain⟨h3,h4,rfl,rfl,rfl⟩:=h3
    obtain⟨g1,_,g3⟩:=hd
    refine⟨g1,dQ _ h1,fun e he=> ?_⟩
    rw[h2]at he;injection he with he;subst he
    refine⟨Nat.le_refl _,fun _=> ?_⟩
    obtain⟨b,n,c,k1,k2⟩:=(g3 _ h4).2 rfl
    exact⟨b,n,c,by rw[du,h3];exact k1,k2⟩
   ·exact h3.elim
 | .pp cs off,v,val,h,hd=>by
   simp only[qq]at h;subst h
   obtain⟨a,ev,h1,h2,h3,h5,h4⟩:=hd
   exact⟨a,ev,h1,h2,D.aI (fun b hb hn=>⟨rfl,dT b hb hn⟩) cs ev h3,h5,h4.mono (fun b hb hn=>⟨rfl,dT b hb hn⟩)⟩
 | .func fn a b,v,val,h,hd=>by
   unfold qq at h
   split at h
   ·obtain⟨rfl,h1,h2⟩:=h
    obtain⟨f,c,rfl,k1,k2⟩:=hd
    exact⟨f,c,rfl,kC hH dT du dQ a7 _ _ _ h1 k1,kC hH dT du dQ a7 _ _ _ h2 k2⟩
   ·exact h.elim
 | .iface t x,v,val,h,hd=>by
   unfold qq at h
   split at h
   ·obtain⟨rfl,h1⟩:=h
    obtain⟨u,rfl,k1⟩:=hd
    exact⟨u,rfl,qV hH dT du dQ a7 _ _ _ h1 k1⟩
   ·exact h.elim
 | .nr es,v,val,h,hd=>by
   simp only[qq]at h;subst h
   exact⟨D.aA (fun b hb hn=>⟨rfl,dT b hb hn⟩) (.sl es) val hd.1,hd.2⟩
 | .rk cM x6 n',v,val,h,hd=>by
   unfold qq at h
   split at h
   ·obtain⟨h1,rfl,rfl,h3⟩:=h
    obtain⟨g1,_,g3⟩:=hd
    refine⟨g1,dQ _ h3,fun hr=> ?_⟩
    obtain⟨b,k1,k2⟩:=g3 (a7 _ _ h1 hr)
    exact⟨b,by rw[du,h1];exact k1,k2⟩
   ·exact h.elim
 | .mp cM,v,val,h,hd=>by
   unfold qq at h
   split at h
   ·obtain⟨h1,h3⟩:=h
    obtain⟨g1,_,g3⟩:=hd
    exact⟨g1,dQ _ h3,fun hr=>by rw[du,h1];exact g3 (a7 _ _ h1 hr)⟩
   ·exact h.elim
 | .eO,v,val,h,hd=>by
   unfold qq at h
   rcases h with rfl|⟨b,rfl⟩
   ·exact hd
   ·exact⟨b,hd⟩
 | .ke cM,v,val,h,hd=>by
   unfold qq at h
   split at h
   ·obtain⟨h1,h3⟩:=h
    obtain⟨g1,_,g3⟩:=hd
    refine⟨g1,dQ _ h3,fun hr=> ?_⟩
    obtain⟨b,k1,k2⟩:=g3 (a7 _ _ h1 hr)
    exact⟨b,by rw[du,h1];exact k1,k2⟩
   ·exact h.elim
theorem kC(hH:au M φ H w)(dT:∀b,cn w b-> ¬ai M φ H b-> ¬ai M' ay H' b)(du:∀id,ay id=match ρ id with|some j=>φ j|none=> .slice none 0 0)
 (dQ:∀id,id<nx->H'.us id) (a7:∀cM id,ρ cM=some id->(H'.o cM).bN=true->(H.o id).bN=true):
 ∀ (xs vs:List V) (vals:List Value),pN ρ H'.o H.o nx xs vs->V.aC (ai M φ H) φ H w vs vals->V.aC (ai M' ay H') ay H' w xs vals
 |[],vs,vals,h,hd=>by simp only[pN]at h;subst h;exact hd
 |x::xs,vs,vals,h,hd=>by
  unfold pN at h
  split at h
  ·obtain⟨u,us,rfl,k1,k2⟩:=hd
   exact⟨u,us,rfl,qV hH dT du dQ a7 _ _ _ h.1 k1,kC hH dT du dQ a7 _ _ _ h.2 k2⟩
  ·exact h.elim
end
theorem EW(hH:au M φ H w){o':Nat->ae}(ho:∀id,mo ρ o' H.o nx id)(cU:∀id,nx<=id->o' id= .no)
 (vC:∀i j k,(o' i).live=true->(o' j).live=true->ρ i=some k->ρ j=some k->i=j)
 (hM:∀b,M' b->ai M φ H b) (S6:∀b,M' b->b<w.heap.size) (Hf:∀b,M' b-> ¬bO (fun id=>match ρ id with|some j=>φ j|none=> .slice none 0 0) ⟨o',fun id=>id<nx⟩ b):
 let ay:Place:=fun id=>match ρ id with|some j=>φ j|none=> .slice none 0 0
 let H':Hp:=⟨o',fun id=>id<nx⟩
 au M' ay H' w/\(∀b,bO ay H' b->bO φ H b)/\(∀b,cn w b-> ¬ai M φ H b-> ¬ai M' ay H' b)/\
  (∀x v val,qq ρ o' H.o nx x v->V.den (ai M φ H) φ H w v val->V.den (ai M' ay H') ay H' w x val):=by
 intro ay H'
 have a7:∀cM id,ρ cM=some id->(H'.o cM).bN=true->(H.o id).bN=true:=by
  intro cM id h1 h2
  have h3:=ho cM
  unfold mo at h3
  simp only[H']at h2
  split at h3
  ·rename_i e;rw[e]at h2;cases h2
  ·rw[h1]at h3
   simp only at h3
   split at h3
   ·rename_i e;rw[e];rfl
   ·exact h3.elim
  ·rename_i e;rw[e]at h2;cases h2
  ·rename_i e;rw[e]at h2;cases h2
  ·rw[h1]at h3
   simp only at h3
   split at h3
   ·rename_i e;rw[e];rfl
   ·exact h3.elim
  ·rw[h1]at h3
   simp only at h3
   split at h3
   ·rename_i e;rw[e];rfl
   ·exact h3.elim
  ·rw[h1]at h3
   simp only at h3
   split at h3
   ·rename_i e;rw[e];rfl
   ·exact h3.elim
  ·rw[h1]at h3
   simp only at h3
   split at h3
   ·rename_i e;rw[e];rfl
   ·exact h3.elim
  ·rw[h1]at h3
   simp only at h3
   split at h3
   ·rename_i e;rw[e];rfl
   ·exact h3.elim
 have bS:∀cM b,(o' cM).live=true->eC (ay cM)=some b->∃id,ρ cM=some id/\(H.o id).live=true/\eC (φ id)=some b:=by
  intro cM b h1 h2
  have h3:=ho cM
  unfold mo at h3
  simp only[ay]at h2
  split at h3
  ·rename_i e;rw[e]at h1;cases h1
  ·cases hr:ρ cM with
   |none=>rw[hr]at h3;exact h3.elim
   |some id=>
    rw[hr]at h3 h2
    simp only at h3 h2
    split at h3
    ·rename_i e;exact⟨id,rfl,by rw[e];rfl,h2⟩
    ·exact h3.elim
  ·cases hr:ρ cM with
   |none=>rw[hr]at h2;simp[eC]at h2
   |some id=>
    rw[hr]at h3 h2
    simp only at h3 h2
    split at h3
    ·rename_i e;exact⟨id,rfl,by rw[e];rfl,h2⟩
    ·exact h3.elim
  ·rename_i e;rw[e]at h1;cases h1
  ·cases hr:ρ cM with
   |none=>rw[hr]at h3;exact h3.elim
   |some id=>
    rw[hr]at h3 h2
    simp only at h3 h2
    split at h3
    ·rename_i e;exact⟨id,rfl,by rw[e];rfl,h2⟩
    ·exact h3.elim
  ·cases hr:ρ cM with
   |none=>rw[hr]at h3;exact h3.elim
   |some id=>
    rw[hr]at h3 h2
    simp only at h3 h2
    split at h3
    ·rename_i e;exact⟨id,rfl,by rw[e];rfl,h2⟩
    ·exact h3.elim
  ·rename_i e;rw[e]at h1;cases h1
  ·cases hr:ρ cM with
   |none=>rw[hr]at h3;exact h3.elim
   |some id=>
    rw[hr]at h3 h2
    simp only at h3 h2
    split at h3
    ·rename_i e;exact⟨id,rfl,by rw[e];rfl,h2⟩
    ·exact h3.elim
  ·cases hr:ρ cM with
   |none=>rw[hr]at h3;exact h3.elim
   |some id=>
    rw[hr]at h3 h2
    simp only at h3 h2
    split at h3
    ·rename_i e;exact⟨id,rfl,by rw[e];rfl,h2⟩
    ·exact h3.elim
 have Gq:∀b,bO ay H' b->bO φ H b:=by
  rintro b ⟨cM,h1,h2⟩
  obtain⟨id,_,h3,h4⟩:=bS cM b h1 h2
  exact⟨id,h3,h4⟩
 have S7:∀b,ai M' ay H' b->ai M φ H b:=by
  rintro b (h|h)
  ·exact hM b h
  ·exact .inr (Gq b h)
 have dT:∀b,cn w b-> ¬ai M φ H b-> ¬ai M' ay H' b:=fun b _ h k=>h (S7 b k)
 have S8:=kC (M':=M') (ay:=ay) (H':=H') (ρ:=ρ) (nx:=nx) hH dT (fun _=>rfl) (fun _ h=>h) a7
 refine⟨⟨fun cM=> ?_,fun id hn=>cU id (by simpa[H']using hn),fun i j b h1 h2 h3 h4=> ?_,fun b hb=>⟨fun hm=>Hf b hm hb,(hH.ours b (Gq b hb)).2⟩,S6⟩,Gq,dT,
  qV (M':=M') (ay:=ay) (H':=H') (ρ:=ρ) (nx:=nx) hH dT (fun _=>rfl) (fun _ h=>h) a7⟩
 ·have h3:=ho cM
  unfold mo at h3
  unfold aK
  simp only[H']
  split at h3
  ·rename_i e;rw[e];trivial
  ·rename_i cs' e
   rw[e]
   cases hr:ρ cM with
   |none=>rw[hr]at h3;exact h3.elim
   |some id=>
    rw[hr]at h3
    simp only at h3
    split at h3
    ·rename_i cs e2
     have:=hH.ok id
     unfold aK at this
     rw[e2]at this
     obtain⟨b,cP,ty,k1,k2,k3,k4⟩:=this
     exact⟨b,cP,ty,by simp only[ay,hr];exact k1,k2,S8 _ _ _ h3 k3,k4⟩
    ·exact h3.elim
  ·rename_i ep ty sz es e
   rw[e]
   cases hr:ρ cM with
   |none=>
    rw[hr]at h3
    obtain⟨rfl,h4⟩:=h3
    exact⟨h4,[],by simp only[ay,hr];exact World.ownsRow_nil _ _ _ _,[],by simp,by simp,rfl⟩
   |some id=>
    rw[hr]at h3
    simp only at h3
    split at h3
    ·rename_i e2
     obtain⟨rfl,rfl,rfl⟩:=h3
     have:=hH.ok id
     unfold aK at this
     rw[e2]at this
     obtain⟨k1,xs,k2,evs,k3,k4,k5⟩:=this
     exact⟨k1,xs,by simp only[ay,hr];exact k2,evs,k3,k4,D.aI (fun b hb hn=>⟨rfl,dT b hb hn⟩) _ _ k5⟩
    ·exact h3.elim
  ·rename_i ep es e
   rw[e]
   cases hr:ρ cM with
   |none=>rw[hr]at h3;exact h3.elim
   |some id=>
    rw[hr]at h3
    simp only at h3
    split at h3
    ·rename_i e2
     subst h3
     have:=hH.ok id
     unfold aK at this
     rw[e2]at this
     simp only[ay,hr]
     exact D.aA (fun b hb hn=>⟨rfl,dT b hb hn⟩) _ _ this
    ·exact h3.elim
  ·rename_i kt vt l e
   rw[e]
   cases hr:ρ cM with
   |none=>rw[hr]at h3;exact h3.elim
   |some id=>
    rw[hr]at h3
    simp only at h3
    split at h3
    ·rename_i e2
     obtain⟨rfl,rfl,rfl⟩:=h3
     have:=hH.ok id
     unfold aK at this
     rw[e2]at this
     obtain⟨b,es,clock,k1,k2,k4,k3⟩:=this
     exact⟨b,es,clock,by simp only[ay,hr];exact k1,k2,k4,aH.mono (fun b hb hn=>⟨rfl,dT b hb hn⟩) _ _ k3⟩
    ·exact h3.elim
  ·rename_i nf n env ps a b st pd e
   rw[e]
   cases hr:ρ cM with
   |none=>rw[hr]at h3;exact h3.elim
   |some id=>
    rw[hr]at h3
    simp only at h3
    split at h3
    ·rename_i e2
     obtain⟨rfl,rfl,rfl,rfl,rfl,rfl,rfl,hv⟩:=h3
     have:=hH.ok id
     unfold aK at this
     rw[e2]at this
     obtain⟨b,r,k1,k2,k3,k4,k5,k6,k7,k8,k9,EX⟩:=this
     refine⟨b,r,by simp only[ay,hr];exact k1,k2,k3,k4,k5,k6,k7,k8,k9,fun i=> ?_⟩
     have key:∀ (xs vs:List V),pN ρ o' H.o nx xs vs->∀i,qq ρ o' H.o nx (bF xs i) (bF vs i):=by
      intro xs
      induction xs with
      |nil=>intro vs hv i;simp[bF,qq]
      |cons x xs ih=>
       intro vs hv i
       unfold pN at hv
       split at hv
       ·cases i with
        |zero=>exact hv.1
        |succ i=>exact ih _ hv.2 i
       ·exact hv.elim
     exact qV (M':=M') (ay:=ay) (H':=H') (ρ:=ρ) (nx:=nx) hH dT (fun _=>rfl) (fun _ h=>h) a7 _ _ _ (key _ _ hv i) (EX i)
    ·exact h3.elim
  ·rename_i l e
   rw[e]
   cases hr:ρ cM with
   |none=>rw[hr]at h3;exact h3.elim
   |some id=>
    rw[hr]at h3
    simp only at h3
    split at h3
    ·rename_i e2
     subst h3
     have:=hH.ok id
     unfold aK at this
     rw[e2]at this
     simp only[ay,hr]
     exact D.aA (fun b hb hn=>⟨rfl,dT b hb hn⟩) _ _ this
    ·exact h3.elim
  ·rename_i l last e
   rw[e]
   cases hr:ρ cM with
   |none=>rw[hr]at h3;exact h3.elim
   |some id=>
    rw[hr]at h3
    simp only at h3
    split at h3
    ·rename_i EU e2
     obtain⟨rfl,h3⟩:=h3
     have:=hH.ok id
     unfold aK at this
     rw[e2]at this
     obtain⟨b,k1,k2⟩:=this
     have k3:rm (ai M' ay H') w l EU b:=k2.mono (fun b hb hn=>⟨rfl,dT b hb hn⟩) rfl
     refine⟨b,by simp only[ay,hr];exact k1, ?_⟩
     rcases h3 with rfl|rfl
     ·rcases k3 with⟨a1,a2,_⟩|⟨m,since,seen,es,a1,a2,a3,a4,a5,_⟩
      ·exact .inl ⟨a1,a2,rfl⟩
      ·exact .inr ⟨m,since,seen,es,a1,a2,a3,a4,a5,fun _ _ e=>by cases e⟩
     ·exact k3
    ·exact h3.elim
  ·rename_i s pos e
   rw[e]
   cases hr:ρ cM with
   |none=>rw[hr]at h3;exact h3.elim
   |some id=>
    rw[hr]at h3
    simp only at h3
    split at h3
    ·rename_i e2
     obtain⟨rfl,rfl⟩:=h3
     have:=hH.ok id
     unfold aK at this
     rw[e2]at this
     obtain⟨b,k1,k2⟩:=this
     exact⟨b,by simp only[ay,hr];exact k1,k2⟩
    ·exact h3.elim
 ·obtain⟨k1,g1,g2,g3⟩:=bS i b h1 h3
  obtain⟨k2,g4,g5,g6⟩:=bS j b h2 h4
  have:=hH.apart k1 k2 b g2 g5 g3 g6
  subst this
  exact vC i j k1 h1 h2 g1 g4
theorem cq.of_map {b:Nat}{s s':S}(ρ:Nat->Option Nat)(hb:b<=s'.nx)(ho:∀id,mo ρ s'.o s.o s'.nx id)(cU:∀id,s'.nx<=id->s'.o id= .no)
 (vC:∀i j k,(s'.o i).live=true->(s'.o j).live=true->ρ i=some k->ρ j=some k->i=j)
 (mX:∀id,id<b->ρ id=some id/\(∀e',(s'.o id).aZ=some e'->∃e,(s.o id).aZ=some e/\e<=e')) (dv:∀i,qq ρ s'.o s.o s'.nx (s'.env i) (s.env i)):cq b s s':=by
 intro M φ w tm hH he
 obtain⟨h1,h2,_,h4⟩:=EW (M':=M) (ρ:=ρ) (nx:=s'.nx) hH (o':=s'.o) ho cU vC (fun b hb=> .inl hb) hH.tv (fun b hb hl=>by
  have:bO φ s.H b:=by
   obtain⟨cM,g1,g2⟩:=hl
   have h3:=ho cM
   unfold mo at h3
   simp only at g1 g2
   split at h3
   ·rename_i e;rw[e]at g1;cases g1
   ·cases hr:ρ cM with
    |none=>rw[hr]at h3;exact h3.elim
    |some id=>
     rw[hr]at h3 g2
     simp only at h3 g2
     split at h3
     ·rename_i e;exact⟨id,by simp only[S.H];rw[e];rfl,g2⟩
     ·exact h3.elim
   ·cases hr:ρ cM with
    |none=>rw[hr]at g2;simp[eC]at g2
    |some id=>
     rw[hr]at h3 g2
     simp only at h3 g2
     split at h3
     ·rename_i e;exact⟨id,by simp only[S.H];rw[e];rfl,g2⟩
     ·exact h3.elim
   ·rename_i e;rw[e]at g1;cases g1
   ·cases hr:ρ cM with
    |none=>rw[hr]at h3;exact h3.elim
    |some id=>
     rw[hr]at h3 g2
     simp only at h3 g2
     split at h3
     ·rename_i e;exact⟨id,by simp only[S.H];rw[e];rfl,g2⟩
     ·exact h3.elim
   ·cases hr:ρ cM with
    |none=>rw[hr]at h3;exact h3.elim
    |some id=>
     rw[hr]at h3 g2
     simp only at h3 g2
     split at h3
     ·rename_i e;exact⟨id,by simp only[S.H];rw[e];rfl,g2⟩
     ·exact h3.elim
   ·rename_i e;rw[e]at g1;cases g1
   ·cases hr:ρ cM with
    |none=>rw[hr]at h3;exact h3.elim
    |some id=>
     rw[hr]at h3 g2
     simp only at h3 g2
     split at h3
     ·rename_i e;exact⟨id,by simp only[S.H];rw[e];rfl,g2⟩
     ·exact h3.elim
   ·cases hr:ρ cM with
    |none=>rw[hr]at h3;exact h3.elim
    |some id=>
     rw[hr]at h3 g2
     simp only at h3 g2
     split at h3
     ·rename_i e;exact⟨id,by simp only[S.H];rw[e];rfl,g2⟩
     ·exact h3.elim
  exact(hH.ours b this).1 hb)
 refine⟨_,h1,fun i=>h4 _ _ _ (dv i) (he i),h2,hb,fun id aj hr=> ?_,fun id e' aj e8=> ?_⟩
 ·obtain⟨g1,_⟩:=mX id aj
  refine⟨?_,by simp only[g1]⟩
  have h3:=ho id
  unfold mo at h3
  rw[g1]at h3
  split at h3
  ·rename_i e;rw[e]at hr;cases hr
  ·simp only at h3
   split at h3
   ·rename_i e;rw[e];rfl
   ·exact h3.elim
  ·rename_i e;rw[e]at hr;cases hr
  ·rename_i e;rw[e]at hr;cases hr
  ·simp only at h3
   split at h3
   ·rename_i e;rw[e];rfl
   ·exact h3.elim
  ·simp only at h3
   split at h3
   ·rename_i e;rw[e];rfl
   ·exact h3.elim
  ·simp only at h3
   split at h3
   ·rename_i e;rw[e];rfl
   ·exact h3.elim
  ·simp only at h3
   split at h3
   ·rename_i e;rw[e];rfl
   ·exact h3.elim
  ·simp only at h3
   split at h3
   ·rename_i e;rw[e];rfl
   ·exact h3.elim
 ·obtain⟨g1,g2⟩:=mX id aj
  obtain⟨e,g3,g4⟩:=g2 e' e8
  exact⟨e,g3,g4,fun _=>by simp only[g1]⟩
end
end Go.Proofs.YtealblliddhgiaaGreat
namespace Go.Proofs.YtealblliddhgiaaGreat
@[go_sem] theorem iU (v:V) (l:List V):bF (v::l) 0=v:=rfl
@[go_sem] theorem gM (v:V) (l:List V) (i:Nat):bF (v::l) (i+1)=bF l i:=rfl
@[go_sem] theorem jl (i:Nat):bF [] i= .aa:=by simp[bF]
def iz:List (Nat×Option Nat)->Nat->Option Nat
 |[],id=>some id
 |(i,r)::R,id=>if i=id then r else iz R id
def Hg(R:List (Nat×Option Nat)):List Nat->Bool
 |[]=>true
 |i::l=>l.all (fun j=>i==j||iz R i==none||iz R i !=iz R j)&&Hg R l
def Bl(ρ:Nat->Option Nat)(o' o:Nat->ae)(nx:Nat)(env:Nat->V):List V->Nat->Prop
 |[],_=>True
 |v::l,i=>qq ρ o' o nx v (env i)/\Bl ρ o' o nx env l (i+1)
def vX(ρ:Nat->Option Nat)(o' o:Nat->ae)(nx:Nat):List Nat->Prop
 |[]=>True
 |i::l=>mo ρ o' o nx i/\vX ρ o' o nx l
def KF:Option Nat->Option Nat->Prop
 |none,_=>True
 |some _,none=>False
 |some a,some b=>b<=a
def Bm(b:Nat)(o' o:Nat->ae):List Nat->Prop
 |[]=>True
 |i::l=>(i<b->KF (o' i).aZ (o i).aZ)/\Bm b o' o l
theorem Hh{o:Nat->ae}:∀ (Δ:List (Nat×ae)) (id:Nat),id∉Δ.map (·.1)->put o Δ id=o id:=by
 intro Δ
 induction Δ generalizing o with
 |nil=>intro id _;rfl
 |cons p Δ ih=>
  intro id h
  simp only[List.map_cons,List.mem_cons,not_or]at h
  rw[mN,ih id h.2]
  simp[h.1]
theorem cq.to {b:Nat}{s:S}(l:List V)(Δ:List (Nat×ae))(nx:Nat)(R:List (Nat×Option Nat))(h1:decide (b<=nx)=true)(h2:(Δ.map (·.1)).all (· <nx)=true)(h3:Hg R (Δ.map (·.1))=true)(h4:R.all (fun r=>decide (b<=r.1))=true)
 (h5:Bm b (put (fun _=> .no) Δ) s.o (Δ.map (·.1))) (h6:vX (iz R) (put (fun _=> .no) Δ) s.o nx (Δ.map (·.1))) (h7:Bl (iz R) (put (fun _=> .no) Δ) s.o nx s.env l 0):
 cq b s ⟨bF l,put (fun _=> .no) Δ,nx⟩:=by
 have lH:∀id,id∈Δ.map (·.1)\/put (fun _=>ae.no) Δ id= .no:=fun id=>by
  by_cases h:id∈Δ.map (·.1)
  ·exact .inl h
  ·exact .inr (Hh Δ id h)
 have rz:∀ (ids:List Nat),vX (iz R) (put (fun _=> .no) Δ) s.o nx ids->∀id∈ids,mo (iz R) (put (fun _=> .no) Δ) s.o nx id:=by
  intro ids
  induction ids with
  |nil=>intro _ id h;cases h
  |cons i ids ih=>
   intro h id aj
   rcases List.mem_cons.1 aj with rfl|aj
   ·exact h.1
   ·exact ih h.2 id aj
 have S9:∀ (ids:List Nat),Bm b (put (fun _=> .no) Δ) s.o ids->∀id∈ids,id<b->KF (put (fun _=>ae.no) Δ id).aZ (s.o id).aZ:=by
  intro ids
  induction ids with
  |nil=>intro _ id h;cases h
  |cons i ids ih=>
   intro h id aj
   rcases List.mem_cons.1 aj with rfl|aj
   ·exact h.1
   ·exact ih h.2 id aj
 have dv:∀ (l:List V) (i:Nat),Bl (iz R) (put (fun _=> .no) Δ) s.o nx s.env l i->∀j,qq (iz R) (put (fun _=> .no) Δ) s.o nx (bF l j) (s.env (i+j)):=by
  intro l
  induction l with
  |nil=>intro i _ j;rw[jl];simp[qq]
  |cons v l ih=>
   intro i h j
   cases j with
   |zero=>exact h.1
   |succ j=>
    rw[gM]
    have:=ih (i+1) h.2 j
    rwa [show i+1+j=i+(j+1) by omega]at this
 have vC:∀ (ids:List Nat),Hg R ids=true->∀i∈ids,∀j∈ids,∀k,iz R i=some k->iz R j=some k->i=j:=by
  intro ids
  induction ids with
  |nil=>intro _ i h;cases h
  |cons x ids ih=>
   intro h i hi j hj k h1 h2
   simp only[Hg,Bool.and_eq_true,List.all_eq_true]at h
   rcases List.mem_cons.1 hi with D5|D5<;>rcases List.mem_cons.1 hj with A5|A5
   ·exact D5.trans A5.symm
   ·subst D5
    have:=h.1 j A5
    simp only[Bool.or_eq_true,beq_iff_eq,bne_iff_ne,ne_eq]at this
    rcases this with(e|e)|e
    ·exact e
    ·rw[h1]at e;cases e
    ·exact absurd (h1.trans h2.symm) e
   ·subst A5
    have:=h.1 i D5
    simp only[Bool.or_eq_true,beq_iff_eq,bne_iff_ne,ne_eq]at this
    rcases this with(e|e)|e
    ·exact e.symm
    ·rw[h2]at e;cases e
    ·exact absurd (h2.trans h1.symm) e
   ·exact ih h.2 i D5 j A5 k h1 h2
 have Of:∀ (R:List (Nat×Option Nat)),R.all (fun r=>decide (b<=r.1))=true->∀id,id<b->iz R id=some id:=by
  intro R
  induction R with
  |nil=>intro _ id _;rfl
  |cons r R ih=>
   intro h id aj
   obtain⟨i,r⟩:=r
   simp only[List.all_cons,Bool.and_eq_true,decide_eq_true_eq]at h
   unfold iz
   rw[if_neg (by omega)]
   exact ih h.2 id aj
 have nE:∀id,(put (fun _=>ae.no) Δ id).live=true->id∈Δ.map (·.1):=fun id h=>by
  rcases lH id with h'|h'
  ·exact h'
  ·rw[h']at h;cases h
 refine cq.of_map (iz R) (by simpa using h1) (fun id=> ?_) (fun id aj=> ?_) (fun i j k g1 g2 g3 g4=>vC _ h3 i (nE i g1) j (nE j g2) k g3 g4) (fun id aj=>⟨Of R h4 id aj,fun e' he=> ?_⟩) (fun i=>by simpa using dv l 0 h7 i)
 ·rcases lH id with h|h
  ·exact rz _ h6 id h
  ·unfold mo;simp only[h]
 ·rcases lH id with h|h
  ·have:=List.all_eq_true.1 h2 id h
   simp only[decide_eq_true_eq]at this
   simp only at aj
   omega
  ·exact h
 ·rcases lH id with h|h
  ·have:=S9 _ h5 id h aj
   simp only at he
   rw[he]at this
   cases hs:(s.o id).aZ with
   |none=>rw[hs]at this;exact this.elim
   |some e=>rw[hs]at this;exact⟨e,rfl,this⟩
  ·simp only[h]at he;cases he
@[go_sem] theorem I4 (k:Nat):(0<=(k:Int))=True:=by simp
attribute [go_sem] List.getElem?_map List.length_map Int.toNat_natCast
attribute [go_sem] eH List.flatMap_cons List.flatMap_nil
attribute [go_sem] isConst pz Gy px py wT pw B6 ns nu tS ru rv nZ
attribute [go_sem] iR V.refs V.ag
attribute [go_sem] Bl vX Bm KF qq pN mo iz He List.all_nil List.all_cons Option.some.injEq D.int.injEq D.bool.injEq Nat.zero_add Nat.add_zero
theorem wrap64{n:Int}(h1: -9223372036854775808<=n)(h2:n<=9223372036854775807):IntKind.i64.wrap n=n:=by
 unfold IntKind.wrap
 have e1:((2:Int)^IntKind.i64.bits)=18446744073709551616:=by decide
 have e2:((2:Int)^(IntKind.i64.bits - 1))=9223372036854775808:=by decide
 have e3:IntKind.i64.signed=true:=rfl
 simp only[e1,e2,e3,Bool.true_and,decide_eq_true_eq]
 split<;>omega
end Go.Proofs.YtealblliddhgiaaGreat
namespace Go.Proofs.YtealblliddhgiaaGreat
structure Good (o:Nat->ae) (nx:Nat):Prop where
 fresh:∀id,nx<=id->o id= .no
 refs:∀id,∀r∈(o id).refs,r<nx
theorem Good.nil {nx:Nat}:Good (fun _=> .no) nx:=⟨fun _ _=>rfl,fun id r h=>by cases h⟩
theorem Good.ao {o:Nat->ae}{nx i:Nat}{x:ae}(h:Good o nx)(hi:i<nx)(hx:x.refs.all (fun r=>decide (r<nx))=true):Good (ao o i x) nx:=by
 refine⟨fun id aj=> ?_,fun id r hr=> ?_⟩
 ·rw[ad _ _ _ _ (by omega)];exact h.fresh id aj
 ·by_cases e:id=i
  ·subst e
   rw[ab]at hr
   simpa using List.all_eq_true.1 hx r hr
  ·rw[ad _ _ _ _ e]at hr
   exact h.refs id r hr
theorem Good.mono {o:Nat->ae}{nx m:Nat}(h:Good o nx)(hm:nx<=m):Good o m:=⟨fun id aj=>h.fresh id (by omega),fun id r hr=>Nat.lt_of_lt_of_le (h.refs id r hr) hm⟩
theorem Good.lt {o:Nat->ae}{nx id:Nat}(h:Good o nx)(hn:o id≠ .no):id<nx:=by
 rcases Nat.lt_or_ge id nx with hl|hl
 ·exact hl
 ·exact absurd (h.fresh id hl) hn
theorem V.kD:∀ (l:List V) (i:Nat),∀r∈(bF l i).refs,r∈V.ag l
 |[],i,r,h=>by rw[jl]at h;cases h
 |v::l,0,r,h=>by rw[iU]at h;simp only[V.ag,List.mem_append];exact .inl h
 |v::l,i+1,r,h=>by rw[gM]at h;simp only[V.ag,List.mem_append];exact .inr (V.kD l i r h)
theorem cq.back {b:Nat}{s:S}{env:Nat->V}{o:Nat->ae}{nx:Nat}(hb:b<=nx)(hn:nx<=s.nx)(hg:Good o nx)(ho:∀id,id<nx->s.o id=o id)
 (he:∀i,env i= .aa\/(env i=s.env i/\∀r∈(env i).refs,r<nx)):cq b s ⟨env,o,nx⟩:=by
 intro M φ w tm hH hd
 have bS:∀k,bO φ (hp o nx) k->bO φ s.H k:=by
  rintro k ⟨id,h1,h2⟩
  have aj:id<nx:=hg.lt (fun e=>by simp only[hp]at h1;rw[e]at h1;cases h1)
  exact⟨id,by simp only[S.H];rw[ho id aj];exact h1,h2⟩
 have hB:∀k, ¬ai M φ s.H k-> ¬ai M φ (hp o nx) k:=fun k h h'=>h (h'.imp id (bS k))
 have dP:∀ (v:V) (val:Value),(∀r∈v.refs,r<nx)->V.den (ai M φ s.H) φ s.H w v val->V.den (ai M φ (hp o nx)) φ (hp o nx) w v val:=fun v val hr h=>
  V.kA (H:=s.H) (H':=hp o nx) hB v val (fun id aj=>⟨(ho id (hr id aj)).symm,rfl,hr id aj⟩) h
 have lI:∀ (v:List V) (val:List Value),(∀r∈V.ag v,r<nx)->V.aC (ai M φ s.H) φ s.H w v val->V.aC (ai M φ (hp o nx)) φ (hp o nx) w v val:=fun v val hr h=>
  V.eT (H:=s.H) (H':=hp o nx) hB v val (fun id aj=>⟨(ho id (hr id aj)).symm,rfl,hr id aj⟩) h
 refine⟨φ,⟨fun id=> ?_,fun id hu=>hg.fresh id (by simpa[S.H]using hu),fun i j k h1 h2 h3 h4=> ?_,fun k hk=>hH.ours k (bS k hk),hH.tv⟩,fun i=> ?_,bS,hb,fun id aj hr=> ?_,fun id e' aj e8=> ?_⟩
 ·have aO:=hH.ok id
  have hrefs:=hg.refs id
  unfold aK at aO|-
  by_cases aj:id<nx
  ·have e:s.H.o id=o id:=ho id aj
   rw[e]at aO
   simp only[S.H]at aO|-
   cases hx:o id with
   |no=>trivial
   |row cs=>
    simp only[hx]at aO hrefs|-
    obtain⟨b,cP,ty,k1,k2,k3,k4⟩:=aO
    exact⟨b,cP,ty,k1,k2,lI _ _ hrefs k3,k4⟩
   |arr ep ty sz es=>
    simp only[hx]at aO|-
    obtain⟨k1,xs,k2,evs,k3,k4,k5⟩:=aO
    exact⟨k1,xs,k2,evs,k3,k4,D.aI (fun b _ hn=>⟨rfl,hB b hn⟩) _ _ k5⟩
   |nW ep es=>
    simp only[hx]at aO|-
    exact D.aA (fun b _ hn=>⟨rfl,hB b hn⟩) _ _ aO
   |map kt vt es=>
    simp only[hx]at aO|-
    obtain⟨b,es',clock,k1,k2,k4,k3⟩:=aO
    exact⟨b,es',clock,k1,k2,k4,aH.mono (fun b _ hn=>⟨rfl,hB b hn⟩) _ _ k3⟩
   |dZ l=>
    simp only[hx]at aO|-
    exact D.aA (fun b _ hn=>⟨rfl,hB b hn⟩) _ _ aO
   |kg l last=>
    simp only[hx]at aO|-
    obtain⟨b,k1,k2⟩:=aO
    exact⟨b,k1,k2.mono (fun b _ hn=>⟨rfl,hB b hn⟩) rfl⟩
   |rl s pos=>
    simp only[hx]at aO|-
    exact aO
   |loop nf n env ps a b st pd=>
    simp only[hx]at aO hrefs|-
    obtain⟨b,r,k1,k2,k3,k4,k5,k6,k7,k8,k9,EX⟩:=aO
    exact⟨b,r,k1,k2,k3,k4,k5,k6,k7,k8,k9,fun i=>dP _ _ (fun r hr=>hrefs r (V.kD _ _ r hr)) (EX i)⟩
  ·simp only[S.H]
   rw[hg.fresh id (by omega)]
   trivial
 ·have hi:i<nx:=hg.lt (fun e=>by simp only[S.H]at h1;rw[e]at h1;cases h1)
  have hj:j<nx:=hg.lt (fun e=>by simp only[S.H]at h2;rw[e]at h2;cases h2)
  exact hH.apart i j k (by simp only[S.H];rw[ho i hi];exact h1) (by simp only[S.H];rw[ho j hj];exact h2) h3 h4
 ·rcases he i with h|⟨h1,h2⟩
  ·simp only[h];trivial
  ·have:=hd i
   rw[<- h1]at this
   exact dP _ _ h2 this
 ·have bL:id<nx:=by omega
  exact⟨by rw[ho id bL];exact hr,rfl⟩
 ·have bL:id<nx:=by omega
  exact⟨e',by rw[ho id bL];exact e8,Nat.le_refl _,fun _=>rfl⟩
def eg(nx:Nat)(env:Nat->V):List V->Nat->Prop
 |[],_=>True
 |v::l,i=>(v= .aa\/(v=env i/\∀r∈v.refs,r<nx))/\eg nx env l (i+1)
theorem cq.cN {b:Nat}{e:Nat->V}{so:Nat->ae}{m:Nat}(l:List V){o:Nat->ae}{nx:Nat}(hb:b<=nx)(hn:nx<=m)(hg:Good o nx)(ho:∀id,id<nx->so id=o id)(he:eg nx e l 0):cq b ⟨e,so,m⟩ ⟨bF l,o,nx⟩:=by
 refine cq.back hb hn hg ho ?_
 have key:∀ (l:List V) (i:Nat),eg nx e l i->∀j,bF l j= .aa\/(bF l j=e (i+j)/\∀r∈(bF l j).refs,r<nx):=by
  intro l
  induction l with
  |nil=>intro i _ j;rw[jl];exact .inl rfl
  |cons v l ih=>
   intro i h j
   cases j with
   |zero=>rw[iU];exact h.1
   |succ j=>
    rw[gM]
    have:=ih (i+1) h.2 j
    rwa [show i+1+j=i+(j+1) by omega]at this
 intro i
 have:=key l 0 he i
 rwa [Nat.zero_add]at this
theorem aw{nx:Nat}{env:Nat->V}{i:Nat}:eg nx env [] i:=trivial
theorem aq{nx:Nat}{env:Nat->V}{l:List V}{i:Nat}(h:eg nx env l (i+1)):eg nx env (.aa::l) i:=⟨.inl rfl,h⟩
theorem ah{nx:Nat}{env:Nat->V}{l:List V}{i:Nat}{x:D}(he:env i= .d x)(h:eg nx env l (i+1)):eg nx env (.d x::l) i:=⟨.inr ⟨he.symm,fun r hr=>by simp[V.refs]at hr⟩,h⟩
theorem aF{nx:Nat}{env:Nat->V}{l:List V}{i:Nat}{v:V}(he:env i=v)(hr:∀r∈v.refs,r<nx)(h:eg nx env l (i+1)):eg nx env (v::l) i:=⟨.inr ⟨he.symm,hr⟩,h⟩
theorem cq.d0 {e:Nat->V}{so:Nat->ae}{m:Nat}(l:List V)(he:eg 0 e l 0):cq 0 ⟨e,so,m⟩ ⟨bF l,fun _=> .no,0⟩:=cq.cN l (Nat.le_refl 0) (Nat.zero_le _) Good.nil (fun _ h=>absurd h (Nat.not_lt_zero _)) he
theorem aU{k:Nat}(h:(k:Int)+1<=9223372036854775807):IntKind.i64.wrap ((k:Int)+1)=((k+1:Nat):Int):=by rw[wrap64 (by omega) h];rfl
theorem aV{k:IntKind}{a b:Int}(h:a=b):V.d (D.int k a)=V.d (D.int k b):=by rw[h]
theorem dL{P:Program}{g:FuncId}{K:KD}{X:XD}{o:Nat->ae}{nx fr:Nat}{all:List V}{rd:List Nat}{rs:List D}{Δ:List (Nat×ae)}(lZ:rd.all (fun id=>decide (id<nx))=true)(h:zi P g all rd o (.ret rs) Δ)(hk:K (iD rs) Δ rd):pK P g K X o nx fr all:=by
 unfold pK
 exact⟨rd,Δ,lZ, .inl ⟨rs,h,hk⟩⟩
end Go.Proofs.YtealblliddhgiaaGreat
namespace Go.Proofs.YtealblliddhgiaaGreat
abbrev D.i (n:Int):D:= .int .i64 n
structure nT where
 name:List UInt8
 args:Int
structure bP where
 cons:List nT
 dE:List nT
inductive Tm where
 |mk (op n:Int) (kids:List Tm)
 deriving Inhabited
structure TB where
 var:Int
 term:Tm
def Tm.op:Tm->Int| .mk op _ _=>op
def Tm.n:Tm->Int| .mk _ n _=>n
def Tm.kids:Tm->List Tm| .mk _ _ l=>l
theorem Tm.eta (t:Tm):Tm.mk t.op t.n t.kids=t:=by cases t;rfl
theorem Tm.ind {P:Tm->Prop}(h:∀op n kids,(∀k∈kids,P k)->P (.mk op n kids)):∀t,P t:=
 fun t=>Tm.rec (motive_1:=P) (motive_2:=fun l=>∀k∈l,P k) (fun op n kids ih=>h op n kids ih) (fun _ h=>by cases h)
  (fun x l hx hl k hk=>(List.mem_cons.1 hk).elim (fun e=>e ▸ hx) (hl k)) t
mutual
def Tm.d:Tm->D
 | .mk op n kids=> .agg [.i op, .i n, .sl (Tm.ds kids)]
def Tm.ds:List Tm->List D
 |[]=>[]
 |t::l=>t.d::Tm.ds l
end
theorem Tm.Ag:∀l:List Tm,Tm.ds l=l.map Tm.d
 |[]=>rfl
 |t::l=>by simp[Tm.ds,Tm.Ag l]
theorem Tm.Og (t:Tm):t.d= .agg [.i t.op, .i t.n, .sl (t.kids.map Tm.d)]:=by cases t;simp[Tm.d,Tm.Ag,Tm.op,Tm.n,Tm.kids]
@[go_sem] theorem Tm.Ta (t:Tm):D.agg [.i t.op, .i t.n, .sl (t.kids.map Tm.d)]=t.d:=(Tm.Og t).symm
@[go_sem] theorem Tm.RG (t:Tm):D.cells t.d=[.i t.op, .i t.n, .sl (t.kids.map Tm.d)]:=by rw[Tm.Og];rfl
theorem Tm.gN {P:Tm->Prop}(h:∀t:Tm,(∀k∈t.kids,P k)->P t):∀t,P t:=Tm.ind fun op n kids ih=>h (.mk op n kids) ih
theorem Tm.pO (op n:Int)(l:List Tm):(Tm.mk op n l).d= .agg [.i op, .i n, .sl (l.map Tm.d)]:=by simp[Tm.d,Tm.Ag]
@[reducible] def nT.d (x:nT):D:= .agg [.str x.name, .i x.args]
@[reducible] def bP.d (s:bP):D:= .agg [.sl (s.cons.map nT.d), .sl (s.dE.map nT.d)]
@[reducible] def TB.d (b:TB):D:= .agg [.i b.var, .i b.term.op, .i b.term.n, .sl (b.term.kids.map Tm.d)]
mutual
def Tm.fits:Tm->Prop
 | .mk _ _ kids=>kids.length<=9223372036854775807/\Tm.x7 kids
def Tm.x7:List Tm->Prop
 |[]=>True
 |t::l=>t.fits/\Tm.x7 l
end
theorem Tm.uJ:∀l:List Tm,Tm.x7 l↔∀k∈l,k.fits
 |[]=>by simp[Tm.x7]
 |t::l=>by simp[Tm.x7,Tm.uJ l]
theorem Tm.cY (t:Tm):t.fits↔t.kids.length<=9223372036854775807/\∀k∈t.kids,k.fits:=by cases t;simp[Tm.fits,Tm.uJ,Tm.kids]
mutual
def Tm.cc:Tm->Nat
 | .mk _ _ kids=>1+Tm.dF kids
def Tm.dF:List Tm->Nat
 |[]=>0
 |k::l=>Nat.max k.cc (Tm.dF l)
end
theorem Tm.sr:∀ {l:List Tm} {k:Tm},k∈l->k.cc<=Tm.dF l
 |x::l,k,h=>by
  simp only[Tm.dF]
  rcases List.mem_cons.1 h with rfl|h
  ·exact Nat.le_max_left _ _
  ·exact Nat.le_trans (Tm.sr h) (Nat.le_max_right _ _)
theorem Tm.dc {t k:Tm}(h:k∈t.kids):k.cc+1<=t.cc:=by
 cases t;simp only[Tm.kids]at h;simp only[Tm.cc];have:=Tm.sr h;omega
mutual
def pre:Tm->Int->List (Tm×Int)
 | .mk op n kids,d=>(.mk op n kids,d)::Hi kids (d+1)
def Hi:List Tm->Int->List (Tm×Int)
 |[],_=>[]
 |k::l,d=>pre k d++Hi l d
end
theorem CQ(l:List Tm)(d:Int):Hi l d=l.flatMap fun k=>pre k d:=by
 induction l with
 |nil=>rfl
 |cons k l ih=>simp[Hi,ih]
theorem ll(t:Tm)(d:Int):pre t d=(t,d)::t.kids.flatMap fun k=>pre k (d+1):=by cases t;simp[pre,CQ,Tm.kids]
def eX(n low high:Int):Bool:=decide (low<=n)&&decide (n<=high)
def letterF(b:UInt8):Bool:= !((decide ((b.toNat:Int)<97)||decide (122<(b.toNat:Int)))&&(decide ((b.toNat:Int)<65)||decide (90<(b.toNat:Int))))
def jm(s:List UInt8):Bool:=s.all letterF&&eX s.length 1 8
def cl:List nT->List (List UInt8)->Option (List (List UInt8))
 |[],before=>some before
 |x::l,before=>if before.any (· ==x.name)then none else if(!jm x.name|| !eX x.args 0 4)=true then none else cl l (before++[x.name])
def fB:List UInt8:=[70,97,108,115,101]
def tB:List UInt8:=[84,114,117,101]
def lP(x:nT)(s:List UInt8):Bool:=x.name==s&&x.args==0
def oT(s:bP):Bool:=
 if(!eX s.cons.length 2 12||decide (8<(s.dE.length:Int)))=true then false else
 match s.cons with
 |a::b::_=>if(!lP a fB|| !lP b tB)=true then false else
  match cl s.cons []with
  |none=>false
  |some l=>(cl s.dE l).isSome
 |_=>false
mutual
def hO:Tm->Int->Int->Int
 | .mk _ _ kids,left,depth=>if left<1\/depth<1 then -1 else cm kids (left - 1) (depth - 1)
def cm:List Tm->Int->Int->Int
 |[],left,_=>left
 |k::l,left,depth=>if 0<=left then cm l (hO k left depth) depth else left
end
def jn(l:List nT)(n:Int):Int:=match l[n.toNat]? with|some x=>x.args|none=>0
def bp(s:bP)(t:Tm):Bool:=
 let k:Int:=t.kids.length
 if t.op=1 then k==0&&eX t.n 0 19
 else if t.op=2 then k==0&&eX t.n (-1000000) 1000000
 else if t.op=3 then eX t.n 0 (s.cons.length - 1)&&k==jn s.cons t.n
 else if t.op=4 then eX t.n 0 (s.dE.length - 1)&&k==jn s.dE t.n
 else if t.op=5 then eX t.n 0 (s.dE.length - 1)&&decide (k<jn s.dE t.n)
 else if t.op=8 then k==2&&eX t.n 0 19
 else if(eX t.op 6 15)=true then k==2&&t.n==0
 else false
mutual
def eY(s:bP):Tm->Bool
 | .mk op n kids=>bp s (.mk op n kids)&&qW s kids
def qW(s:bP):List Tm->Bool
 |[]=>true
 |k::l=>eY s k&&qW s l
end
def gm(s:bP)(t:Tm):Bool:=decide (0<=hO t 40 12)&&eY s t
mutual
def gq:Tm->Tm->Bool
 | .mk op n kids, .mk op' n' I5=>op==op'&&n==n'&&kids.length==I5.length&&gO kids I5
def gO:List Tm->List Tm->Bool
 |[],_=>true
 |k::l,k'::l'=>gq k k'&&gO l l'
 |_::_,[]=>true
end
def mq(t:Tm):Bool:=decide (0<=hO t 50 14)
def fm(l:List nT):Bool:=l.all fun x=>decide ((x.name.length:Int)<=30)
def kE(s:bP):Bool:= !(decide (16<(s.cons.length:Int))||decide (12<(s.dE.length:Int)))&&fm s.cons&&fm s.dE
end Go.Proofs.YtealblliddhgiaaGreat
namespace Go.Proofs.YtealblliddhgiaaGreat
def lq(id:Nat)(K X:V->(Nat->ae)->Nat->Prop)(e:e9)(s:S):Prop:=
 match e with
 | .normal=>∃nf m en p c d st pd,s.o id= .loop nf m en p c d st pd/\K (.d (.bool true)) (ao s.o id (.loop nf m en p c d .ready none)) s.nx
 | .ret=>∃nf m en p c d st pd,s.o id= .loop nf m en p c d st pd/\K (.d (.bool false)) (ao s.o id (.loop nf m en p c d .done (some .ret))) s.nx
 | .exit j=>∃nf m en p c d st pd,s.o id= .loop nf m en p c d st pd/\K (.d (.bool false)) (ao s.o id (.loop nf m en p c d .done (some (.exit j)))) s.nx
 | .bK v=>X v s.o s.nx
def KG(P:Program)(n b id:Nat)(gU:IC)(K X:V->(Nat->ae)->Nat->Prop)(e:e9)(s:S):Prop:=
 match e with
 | .normal=>∃nf m en p c d pd,s.o id= .loop nf m en p c d .ready pd/\qU P n b true gU (lq id K X) ⟨s.env,ao s.o id (.loop nf m en p c d .busy pd),s.nx⟩
 | .bK v=>X v s.o s.nx
 |_=>False
section
variable {P:Program}{M:Nat->Prop}{φ ct:Place}{H0:Hp}{w w0:World}{n:Nat}{s:S}{a:Act}{cx:Cx}
theorem x8{id:Nat}{x:ae}{s:S}(bL:id<s.nx)(j:Nat)(hu:(s.H.put [(id,x)]).us j):j<s.nx:=by
 simp only[dO]at hu
 rcases hu with hu|hu
 ·exact hu
 ·subst hu;exact bL
theorem ss{B:Nat->Prop}{H:Hp}{n:Nat}:∀ (ps:List Nat) (vs:List V) (us:List Value) (env:Nat->V) (tmps:Array Value),tmps.size=n->ps.length=vs.length->V.aC B φ H w vs us->ps.all (fun t=>decide (t<n))=true->(∀i,V.den B φ H w (env i) (tmps.getD i undef))->
 ((ps.zip us).foldl (fun tmps p=>tmps.setIfInBounds p.1 p.2) tmps).size=n/\∀i,V.den B φ H w (sc env ps vs i) (((ps.zip us).foldl (fun tmps p=>tmps.setIfInBounds p.1 p.2) tmps).getD i undef)
 |[],[],us,env,tmps,dX,_,hd,_,he=>by simp only[V.aC]at hd;subst hd;exact⟨dX,he⟩
 |[],v::vs,us,env,tmps,_,h,_,_,_=>by simp at h
 |t::ps,[],us,env,tmps,_,h,_,_,_=>by simp at h
 |t::ps,v::vs,us,env,tmps,dX,hl,hd,hp,he=>by
  obtain⟨u,us,rfl,h1,h2⟩:=hd
  simp only[List.all_cons,Bool.and_eq_true,decide_eq_true_eq]at hp
  simp only[List.zip_cons_cons,List.foldl_cons,sc]
  refine ss ps vs us (ao env t v) (tmps.setIfInBounds t u) (by simp[dX]) (by simpa using hl) h2 hp.2 (fun i=> ?_)
  simp only[aL]
  by_cases hi:i=t
  ·subst hi
   have:(tmps.setIfInBounds i u).getD i undef=u:=by simp[Array.getD,dX,hp.1]
   rw[if_pos rfl,this];exact h1
  ·have:(tmps.setIfInBounds t u).getD i undef=tmps.getD i undef:=by
    simp only[Array.getD_eq_getD_getElem?]
    rw[Array.getElem?_setIfInBounds_ne (Ne.symm hi)]
   rw[if_neg hi,this];exact he i
theorem dD.se (ba:P.follows .mixedOrders=true){id:Nat}{args:List V}{o:Nat->ae}{nx:Nat}{K X:V->(Nat->ae)->Nat->Prop}{env:List V}{ps:List Nat}{lO gU:IC}{st:LoopState}{pd:Option ka}
 (ho:o id= .loop P.funcs.size n env ps lO gU st pd) (bL:id<nx) (Hj:ps.all (fun t=>decide (t<n))=true) (hl:args.length=ps.length)
 (h:qU P n nx true lO (KG P n nx id gU K X) ⟨sc (bF env) ps args,o,nx⟩):dD P id args o nx K X:=by
 refine⟨by rw[ho];rfl,fun M φ w vals b hH hd du=> ?_⟩
 have bz:=hH.ok id
 simp only[aK,hp,ho]at bz
 obtain⟨b',r,h1,h2,h0,h3,h4,h5,h6,h7,h8,h9⟩:=bz
 rw[du]at h1;simp at h1;subst h1
 have hlen:=V.aB _ _ hd
 have dX:vals.size=r.params.size:=by
  have:r.params.toList.length=ps.length:=by rw[h5]
  simp at hlen this;omega
 let tm:Array Value:=(ps.zip vals.toList).foldl (fun tmps p=>tmps.setIfInBounds p.1 p.2) r.tmps
 have Oh:(r.params.zip vals).foldl (fun tmps (p:Tmp×Value)=>tmps.setIfInBounds p.1 p.2) r.tmps=tm:=by
  rw[<- Array.foldl_toList,Array.toList_zip,h5]
 obtain⟨p1,p2⟩:=ss (B:=ai M φ (hp o nx)) (H:=hp o nx) (φ:=φ) (w:=w) ps args vals.toList (bF env) r.tmps h6 hl.symm hd Hj h9
 refine⟨r.fn,tm,r.assign,r.body, ?_,fun k=> ?_⟩
 ·simp only[Instr.yield,Sem.run_bind,jG h2,Result.andThen_ok,dX,ne_eq,not_true_eq_false,if_false,Sem.run_pure]
  rw[<- Oh]
 ·
   let s0:S:=⟨sc (bF env) ps args,o,nx⟩
   let a0:Act:={tmps:=tm,defers:=[]}
   have qh:bZ M φ (hp o nx) w n ⟨[],true⟩ φ s0 a0 w:=⟨hH,Trans.refl _ _ _,p1,⟨[],rfl,List.nodup_nil,fun _=>rfl,fun r hr=>by cases hr⟩,p2⟩
   have su:∀ {ay s' a' w'},bZ M φ (hp o nx) w n ⟨[],true⟩ ay s' a' w'->a'.defers=[]:=by
    intro ay s' a' w' hs
    obtain⟨ms,g1,_,g3,_⟩:=hs.defers
    rw[g3 rfl]at g1;exact g1
   have Oi:∀ {ay s' a' w'} {nf m:Nat} {en:List V} {p:List Nat} {c d:IC} {st:LoopState} {pd:Option ka} (st':LoopState) (pd':Option ka),bZ M φ (hp o nx) w n ⟨[],true⟩ ay s' a' w'->s'.o id= .loop nf m en p c d st pd->
    ∃r',w'.heap[b]? =some (.loop r')/\r'.state=st/\r'.pending=pd.map ka.code/\
     bZ M φ (hp o nx) w n ⟨[],true⟩ ay ⟨s'.env,ao s'.o id (.loop nf m en p c d st' pd'),s'.nx⟩ a' {w' with heap:=w'.heap.setIfInBounds b (.loop {r' with state:=st',pending:=pd'.map ka.code})}:=by
    intro ay s' a' w' nf m en p c d st pd st' pd' hs j8
    have JV:ay id= .pointer (some ⟨b,0,none⟩):=by
     have:=(hs.tr.rel.row id bL (by show(s'.o id).bN=true;rw[j8];rfl)).2
     rw[this];exact du
    have Oj:id<s'.nx:=hs.tr.rel.us id bL
    obtain⟨r',r1,r2,r3,r4,r5⟩:=uo (st':=st') (pd':=pd') hs.heap Oj (show s'.H.o id=_ from j8) JV
    exact⟨r',r1,r2,r3,ef hs r4 r5 rfl (x8 Oj)⟩
   have ha:=gJ (P:=P) (n:=n) (b:=nx) (rd:=true) ba r.assign _ _ s0 (fun _ _ h=>h) (by rw[h7];exact h)
   refine rQ h0 (gf (gD (P:=P) (H0:=hp o nx) (b:=nx) (cx:=⟨[],true⟩) (ro:=some b) (fun id hu=>hu) (fun h=>by cases h) r.assign _ s0 φ a0 w ha qh) ?_)
   rintro e a1 w1 ⟨x,s1,hZ,hq,uq,hm⟩
   cases e<;>cases x<;>first|(exact hm.elim)|skip
   ·
     obtain⟨nf,m,en,p,c,d,Tb,q1,q2⟩:=hq
     obtain⟨r',r1,r2,r3,Gt⟩:=Oi .busy Tb uq q1
     have KH:(Instr.beginRound b).run P w1= .ok () {w1 with heap:=w1.heap.setIfInBounds b (.loop {r' with state:= .busy,pending:=Tb.map ka.code})}:=by
      have e1:({r' with state:= .busy}:Loop)={r' with state:= .busy,pending:=Tb.map ka.code}:=by rw[<- r3]
      simp only[Instr.beginRound,Sem.run_bind,jG r1,Result.andThen_ok,ik _ r1,r2,Sem.run_pure,e1]
     refine⟨_,KH, ?_⟩
     have bD:=Gt.heap.ok id
     simp only[aK,S.H,aL,if_true]at bD
     obtain⟨b2,Y0,_,_,_,_,_,_,_,_,_,_⟩:=bD
     have hb:=gJ (P:=P) (n:=n) (b:=nx) (rd:=true) ba r.body _ _ _ (fun _ _ h=>h) (by rw[h8];exact q2)
     refine gf (gD (P:=P) (H0:=hp o nx) (b:=nx) (cx:=⟨[],true⟩) (ro:=some b) (fun id hu=>hu) (fun h=>by cases h) r.body _ _ hZ a1 _ hb Gt) ?_
     rintro e a2 w2 ⟨x,s2,Cy,L5,zh,Ig⟩
     have fin:∀ {nf m:Nat} {en:List V} {p:List Nat} {c d:IC} {st:LoopState} {pd:Option ka} (jump:Option ka) (t:Bool) (st':LoopState),t=jump.isNone->st'=(if jump.isNone then .ready else .done)->s2.o id= .loop nf m en p c d st pd->K (.d (.bool t)) (ao s2.o id (.loop nf m en p c d st' jump)) s2.nx->
      ∃v w',(Instr.endRound b (jump.map ka.code)).run P w2= .ok v w'/\l0 M φ (hp o nx) w K X (.returned v) w':=by
      intro nf m en p c d st pd jump t st' ht qE X6 hK
      obtain⟨Y1,g1,g2,g3,L6⟩:=Oi st' jump zh X6
      refine⟨.bool t,_, ?_,Cy,_,_,_,L6.heap,L6.tr,by simp only[V.den,D.den],hK⟩
      subst ht;subst qE
      simp only[Instr.endRound,Sem.run_bind,jG g1,Result.andThen_ok,ik _ g1,Sem.run_pure,Option.isNone_map]
     cases e<;>cases x<;>first|(exact Ig.elim)|skip
     ·obtain⟨nf,m,en,p,c,d,st,pd,k1,k2⟩:=L5
      exact fin none true .ready rfl rfl k1 k2
     ·rename_i j
      subst Ig
      obtain⟨nf,m,en,p,c,d,st,pd,k1,k2⟩:=L5
      exact fin (some (.exit _)) false .done rfl rfl k1 k2
     ·obtain⟨nf,m,en,p,c,d,st,pd,k1,k2⟩:=L5
      exact fin (some .ret) false .done rfl rfl k1 k2
     ·obtain⟨val,rfl,k2⟩:=Ig
      exact⟨su zh,Cy,_,_,_,zh.heap,zh.tr,val,rfl,k2,L5⟩
   ·exact hq.elim
   ·exact hq.elim
   ·obtain⟨val,rfl,k2⟩:=hm
    exact⟨su uq,hZ,_,_,_,uq.heap,uq.tr,val,rfl,k2,hq⟩
end
end Go.Proofs.YtealblliddhgiaaGreat
namespace Go.Proofs.YtealblliddhgiaaGreat
def KI(ops:Array Oper)(t t1:Nat):Prop:=
 (∃o1 o2,ops=#[o1,o2]/\o1.op= .call ⟨.builtin .recover,#[],#[]⟩/\o1.dst=some t/\o1.guard=none/\o2.op= .assign (.tmp t)/\o2.dst=some t1/\o2.guard=none)\/
 (∃o1,ops=#[o1]/\t1=t/\o1.op= .call ⟨.builtin .recover,#[],#[]⟩/\o1.dst=some t/\o1.guard=none)
structure Bn (P:Program) (g:FuncId) (n t t1:Nat) (ic:IC):Prop where
 get:∃fn id ops c,P.funcs[g]? =some fn/\(fn.name== "runtime.NumGoroutine")=false/\fn.ntmps=n/\fn.results=#[]/\fn.body=some (.seq (.region id ops false) c)/\
  KI ops t t1/\t<n/\t1<n/\low n c=ic
structure EY (P:Program) (f:FuncId) (n:Nat) (lO gU:IC) (g:FuncId) (t:Nat) (dx:List Operand) (rs:List ResultVar):Prop where
 get:∃fn id o1 o2 a b,P.funcs[f]? =some fn/\(fn.name== "runtime.NumGoroutine")=false/\fn.ntmps=n/\fn.results.toList=rs/\fn.body=some (.seq a (.seq (.region id #[o1,o2] false) b))/\
  o1.op= .makeFunc (.func g) #[] dx.toArray/\o1.dst=some t/\o1.guard=none/\o2.op= .defer ⟨.value (.tmp t),#[],#[]⟩/\o2.dst=none/\o2.guard=none/\t<n/\low n a=lO/\low n b=gU
def Tc(K:(Nat->ae)->Nat->Prop)(e:e9)(s:S):Prop:=match e with| .normal| .ret=>K s.o s.nx|_=>False
def CS(P:Program)(n t t1:Nat)(ic:IC)(dx:List V)(u:V)(o:Nat->ae)(nx:Nat)(K:(Nat->ae)->Nat->Prop):Prop:=
 dx.length<=n/\qU P n nx true ic (Tc K) ⟨ao (ao (cH dx) t u) t1 u,o,nx⟩
def Ah(P:Program)(n t t1:Nat)(ic:IC)(dx:List V)(rs:List ResultVar)(K X:V->(Nat->ae)->Nat->Prop)(e:e9)(s:S):Prop:=
 match e with
 | .normal| .ret=>CS P n t t1 ic dx (.d .ft) s.o s.nx fun o nx=>lb P rs K X .ret ⟨s.env,o,nx⟩
 | .bK v=>CS P n t t1 ic dx v s.o s.nx fun o nx=>lb P rs K X .ret ⟨s.env,o,nx⟩
 | .exit _=>False
def EZ(P:Program)(n t:Nat)(gU:IC)(iH:List Operand)(g:FuncId)(D:List V->e9->S->Prop)(e:e9)(s:S):Prop:=
 match e with
 | .normal=>qU P n s.nx false gU (D (iH.map s.ev)) ⟨ao s.env t (.func (.func g) [] (iH.map s.ev)),s.o,s.nx⟩
 |_=>False
section
variable {P:Program}{M:Nat->Prop}{φ ct:Place}{H H0:Hp}{w w0:World}{n:Nat}{s:S}{a:Act}{cx:Cx}{k:Nat}
theorem CT(ba:P.follows .mixedOrders=true){g:FuncId}{t t1:Nat}{ic:IC}(hg:Bn P g n t t1 ic){dx:List V}{u:V}{o:Nat->ae}{nx:Nat}{K:(Nat->ae)->Nat->Prop}(h:CS P n t t1 ic dx u o nx K)
 {vals:Array Value} {val:Value} {m:FrameMode} (hH:au M φ (hp o nx) w) (hd:V.aC (ai M φ (hp o nx)) φ (hp o nx) w dx vals.toList) (hv:V.den (ai M φ (hp o nx)) φ (hp o nx) w u val)
 (hm:(m= .returning/\val= .nilIface)\/m= .panicking [{v:=val,recovered:=false}]):
 CallsDIn (dJ none) k P g vals m w fun e u' w'=>∃v ay o' nx',e= .returned v/\settle u'= .returning/\au M ay (hp o' nx') w'/\Trans φ (hp o nx) w ay (hp o' nx') w'/\K o' nx':=by
 obtain⟨fn,id,ops,c,hf,I6,X7,qH,oH,CJ,ht,wL,mX⟩:=hg.get
 have bL:g<P.funcs.size:=(Array.getElem?_eq_some_iff.1 hf).1
 obtain⟨jB,h⟩:=h
 have hlen:=V.aB _ _ hd
 refine⟨trivial,fun nK cs E0 Ie=> ?_⟩
 let b:Frame:={(default:Frame)with fn:=g,kind:= .deferred,roundOf:=none}
 let qX:Array Value:=vals++Array.replicate (fn.ntmps - vals.size) undef
 have Td:qX.size=n:=by simp only[qX,Array.size_append,Array.size_replicate];simp at hlen;omega
 have la:Frame.enter P g vals .deferred=b.atR {tmps:=qX,defers:=[]} [.code (.seq (.region id ops false) c)]:=by
  simp[Frame.enter,Frame.atR,hf,oH,b,qX]
 obtain⟨m',MM,bD⟩:∃m',settle m'= .returning/\((recoverD (nK::cs)=none/\m'=m/\val= .nilIface)\/recoverD (nK::cs)=some (val,{nK with mode:=m'}::cs)):=by
  rcases hm with⟨rfl,rfl⟩|rfl
  ·exact⟨.returning,rfl, .inl ⟨by simp[recoverD,E0],rfl,rfl⟩⟩
  ·exact⟨.panicking [{v:=val,recovered:=true}],rfl, .inr (by simp[recoverD,E0])⟩
 have Ro:({nK with mode:=m}:Frame)=nK:=by subst E0;rfl
 let a1:Act:={tmps:=(qX.setIfInBounds t val).setIfInBounds t1 val,defers:=[]}
 have G1:(Code.region id ops false).wpSIn (dJ none) k P (fun e a' cs' w'=>e= .normal/\a'=a1/\cs'={nK with mode:=m'}::cs/\w'=w) {tmps:=qX,defers:=[]} (nK::cs) w:=by
  rcases CJ with⟨o1,o2,rfl,e1,e2,e3,e4,e5,e6⟩|⟨o1,rfl,rfl,e1,e2,e3⟩
  ·refine wpSIn_region ?_
   have hr:List.range (#[o1,o2]:Array Oper).size=[0,1]:=rfl
   have g0:(#[o1,o2]:Array Oper)[0]? =some o1:=rfl
   have g1:(#[o1,o2]:Array Oper)[1]? =some o2:=rfl
   rw[hr]
   have x1:∀ (ρ:Operand->Value) (w:World),(execOp ρ o1).run P w= .ok .recover w:=by
    intro ρ w
    simp[execOp,e1,resolve,invoke,builtin]
   have x2:∀ (ρ:Operand->Value) (w:World),(execOp ρ o2).run P w= .ok (.value (ρ (.tmp t))) w:=by
    intro ρ w
    simp[execOp,e4]
   have last:∀cs',cs'={nK with mode:=m'}::cs->wpOpsSIn (dJ none) k P #[o1,o2] (fun e a' cs' w'=>e= .normal/\a'=a1/\cs'={nK with mode:=m'}::cs/\w'=w) [1] (({tmps:=qX,defers:=[]}:Act).put (some t) val) cs' w:=by
    rintro cs' rfl
    have hw:Region.wanted o2 (yielded #[o1,o2] (({tmps:=qX,defers:=[]}:Act).put (some t) val).tmps)=true:=by simp[Region.wanted,e6]
    have dI:(({tmps:=qX,defers:=[]}:Act).put (some t) val).eval (.tmp t)=val:=by
     have:t<qX.size:=by omega
     simp[Act.put,Act.eval,Array.getD,this]
    simp only[wpOpsSIn,g1,hw,if_true,x2,dI,e5]
    refine⟨fun _ _=>trivial, ?_⟩
    simp[a1,Act.put]
   have hw:Region.wanted o1 (yielded #[o1,o2] qX)=true:=by simp[Region.wanted,e3]
   rw[wpOpsSIn,g0]
   refine⟨fun _ _=>trivial, ?_⟩
   simp only[hw,if_true,x1,e2]
   rcases bD with⟨hr,rfl,rfl⟩|hr
   ·simp only[hr]
    exact last _ (by rw[Ro])
   ·simp only[hr]
    exact last _ rfl
  ·refine wpSIn_region ?_
   have hr:List.range (#[o1]:Array Oper).size=[0]:=rfl
   have g0:(#[o1]:Array Oper)[0]? =some o1:=rfl
   rw[hr]
   have x1:∀ (ρ:Operand->Value) (w:World),(execOp ρ o1).run P w= .ok .recover w:=by
    intro ρ w
    simp[execOp,e1,resolve,invoke,builtin]
   have same:a1=({tmps:=qX,defers:=[]}:Act).put (some t1) val:=by
    simp only[a1,Act.put]
    congr 1
    apply Array.ext_getElem?
    intro j
    simp only[Array.getElem?_setIfInBounds]
    by_cases hj:t1=j
    ·subst hj;simp
    ·simp[hj]
   have last:∀cs',cs'={nK with mode:=m'}::cs->wpOpsSIn (dJ none) k P #[o1] (fun e a' cs' w'=>e= .normal/\a'=a1/\cs'={nK with mode:=m'}::cs/\w'=w) [] (({tmps:=qX,defers:=[]}:Act).put (some t1) val) cs' w:=by
    rintro cs' rfl
    simp only[wpOpsSIn]
    exact⟨trivial,same.symm,trivial,trivial⟩
   have hw:Region.wanted o1 (yielded #[o1] qX)=true:=by simp[Region.wanted,e3]
   rw[wpOpsSIn,g0]
   refine⟨fun _ _=>trivial, ?_⟩
   simp only[hw,if_true,x1,e2]
   rcases bD with⟨hr,rfl,rfl⟩|hr
   ·simp only[hr]
    exact last _ (by rw[Ro])
   ·simp only[hr]
    exact last _ rfl
 obtain⟨er,ar,Y2,wr,hl,⟨rfl,rfl,rfl,X8⟩,cz⟩:=G1 b [.code c] rfl rfl trivial (fun d hd=>by simp[dJ]at hd)
 rw[X8]at cz
 let s0:S:=⟨ao (ao (cH dx) t u) t1 u,o,nx⟩
 have qh:bZ M φ (hp o nx) w n ⟨[],true⟩ φ s0 a1 w:=by
  refine⟨hH,Trans.refl _ _ _,by simp[a1,Td],⟨[],rfl,List.nodup_nil,fun _=>rfl,fun r hr=>by cases hr⟩,fun i=> ?_⟩
  have dv:=rP (m:=fn.ntmps - vals.size) hd i
  simp only[s0,a1,aL]
  have Rs:t<qX.size:=by omega
  have Te:t1<qX.size:=by omega
  by_cases h1:i=t1
  ·subst h1
   simp only[if_true]
   have:((qX.setIfInBounds t val).setIfInBounds i val).getD i undef=val:=by simp[Array.getD,Te]
   rw[this];exact hv
  ·simp only[h1,if_false]
   have e1:((qX.setIfInBounds t val).setIfInBounds t1 val).getD i undef=(qX.setIfInBounds t val).getD i undef:=by
    simp only[Array.getD_eq_getD_getElem?]
    rw[Array.getElem?_setIfInBounds_ne (Ne.symm h1)]
   rw[e1]
   by_cases h2:i=t
   ·subst h2
    simp only[if_true]
    have:(qX.setIfInBounds i val).getD i undef=val:=by simp[Array.getD,Rs]
    rw[this];exact hv
   ·simp only[h2,if_false]
    have e1:(qX.setIfInBounds t val).getD i undef=qX.getD i undef:=by
     simp only[Array.getD_eq_getD_getElem?]
     rw[Array.getElem?_setIfInBounds_ne (Ne.symm h2)]
    rw[e1];exact dv
 have X9:=gJ (P:=P) (n:=n) (b:=nx) (rd:=true) ba c _ _ s0 (fun _ _ h=>h) (by rw[mX];exact h)
 obtain⟨e,a',w',⟨x,s',ay,hq,ij,hx⟩,Ba⟩:=gD (P:=P) (H0:=hp o nx) (b:=nx) (cx:=⟨[],true⟩) (ro:=none) (fun id hu=>hu) (fun h=>by cases h) c _ s0 φ a1 w X9 qh b [] ({nK with mode:=m'}::cs) rfl bL
 have i0:(lone (b.atR {tmps:=qX,defers:=[]} [.code (.seq (.region id ops false) c)]) (nK::cs) w).fenced P (dJ none):=fenced_calm (n:=0) trivial fZ rfl
 have I7:StepsIn (Machine.fenced P (dJ none)) P (lone (b.atR {tmps:=qX,defers:=[]} [.code (.seq (.region id ops false) c)]) (nK::cs) w) (lone (b.atR a1 [.code c]) ({nK with mode:=m'}::cs) w):= .head i0 stepR_seq cz
 have su:a'.defers=[]:=by
  obtain⟨ms,g1,_,g3,_⟩:=ij.defers
  rw[g3 rfl]at g1;exact g1
 have Ol:∀tm:Array Value,∃v,(results fn tm).run P w'= .ok v w':=by
  intro tm
  refine⟨_,mc (vals:=[]) ?_⟩
  rw[qH];rfl
 rw[la]
 obtain⟨v,tt⟩:=Ol a'.tmps
 cases e<;>cases x<;>first|(exact hx.elim)|(exact hq.elim)|skip
 ·exact⟨.returned v,m',w',_,⟨v,ay,s'.o,s'.nx,rfl,MM,ij.heap,ij.tr,hq⟩,StepsIn.trans I7 (StepsIn.trans Ba (.one (fenced_calm (n:=0) (fr:=b.atR a' []) trivial fZ rfl) (stepR_end rfl))),rfl,rfl,rfl,su,fn,hf,tt⟩
 ·obtain⟨todo,hs⟩:=Ba.1 rfl
  exact⟨.returned v,m',w',_,⟨v,ay,s'.o,s'.nx,rfl,MM,ij.heap,ij.tr,hq⟩,StepsIn.trans I7 hs,rfl,rfl,rfl,su,fn,hf,tt⟩
theorem eI.E1 (ba:P.follows .mixedOrders=true){f g:FuncId}{lO gU x9:IC}{t m r r1:Nat}{iH:List Operand}{rs:List ResultVar}(hf:EY P f n lO gU g t iH rs)(hg:Bn P g m r r1 x9)
 {args:List V} {o:Nat->ae} {nx:Nat} {K X:V->(Nat->ae)->Nat->Prop} (hl:args.length<=n)
 (h:qU P n nx true lO (EZ P n t gU iH g fun dx=>Ah P m r r1 x9 dx rs K X) ⟨cH args,o,nx⟩):eI P f args o nx K X:=by
 obtain⟨fn,id,o1,o2,ca,cb,Ct,I6,X7,qH,oH,e1,e2,e3,e4,e5,e6,ht,Ya,Gq⟩:=hf.get
 obtain⟨gn,_,_,gc,Yb,KJ,_,_,KK,_⟩:=hg.get
 refine⟨⟨fn,Ct,I6,by rw[oH];rfl⟩,fun M φ w vals hH hd=> ?_⟩
 have hlen:=V.aB _ _ hd
 let s0:S:=⟨cH args,o,nx⟩
 let a0:Act:={tmps:=vals++Array.replicate (fn.ntmps - vals.size) undef,defers:=[]}
 have qh:bZ M φ (hp o nx) w n ⟨[],true⟩ φ s0 a0 w:=by
  refine⟨hH,Trans.refl _ _ _, ?_,⟨[],rfl,List.nodup_nil,fun _=>rfl,fun r hr=>by cases hr⟩,rP hd⟩
  simp only[a0,Array.size_append,Array.size_replicate];simp at hlen;omega
 have ha:=gJ (P:=P) (n:=n) (b:=nx) (rd:=true) ba ca _ _ s0 (fun _ _ h=>h) (by rw[Ya];exact h)
 refine xp (ro:=none) (k:=0) (me Ct oH (vz (gf (gD (P:=P) (H0:=hp o nx) (b:=nx) (cx:=⟨[],true⟩) (ro:=none) (fun id hu=>hu) (fun h=>by cases h) ca _ s0 φ a0 w ha qh) ?_)))
 rintro e a1 w1 ⟨x,s1,hZ,hq,uq,hm⟩
 cases e<;>cases x<;>first|(exact hm.elim)|(exact hq.elim)|skip
 have su:a1.defers=[]:=by
  obtain⟨ms,g1,_,g3,_⟩:=uq.defers
  rw[g3 rfl]at g1;exact g1
 let cv:Array Value:=(iH.map a1.eval).toArray
 let fv:Value:= .func (.func g) #[] cv
 let dd:Deferred:={target:= .fn (.func g) cv,args:=#[]}
 let a2:Act:={tmps:=a1.tmps.setIfInBounds t fv,defers:=[dd]}
 have I8:V.aC (ai M hZ s1.H) hZ s1.H w1 (iH.map s1.ev) cv.toList:=by
  simpa[cv]using jy (M:=M) (φ:=hZ) (H:=s1.H) (w:=w1) s1 a1 uq.env iH
 refine vz (gf (Q:=fun e a w=>e= .normal/\a=a2/\w=w1) (nD (k:=0) (wpIn_region_list ?_)) ?_)
 ·have y1:Region.wanted o1 (yielded #[o1,o2] a1.tmps)=true:=by simp[Region.wanted,e3]
  have y2:∀tm,Region.wanted o2 (yielded #[o1,o2] tm)=true:=by intro tm;simp[Region.wanted,e6]
  have dI:(a1.put (some t) fv).eval (.tmp t)=fv:=by
   have:t<a1.tmps.size:=by rw[uq.size];exact ht
   simp[Act.put,Act.eval,Array.getD,this]
  show wpListIn (dJ none) 0 P #[o1,o2] _ [o1,o2] a1 w1
  unfold wpListIn
  rw[if_pos y1]
  have x1:(execOp a1.eval o1).run P w1= .ok (.value fv) w1:=by simp[execOp,e1,fv,cv,Instr.makeFunc]
  refine jE (fun c hc=>by rw[e1]at hc;cases hc) ?_
  rw[x1]
  show wpListIn (dJ none) 0 P #[o1,o2] _ [o2] (a1.put o1.dst fv) w1
  rw[e2]
  unfold wpListIn
  rw[if_pos (y2 _)]
  have x2:(execOp (a1.put (some t) fv).eval o2).run P w1= .ok (.defer dd) w1:=by
   simp[execOp,e4,resolve,dI,Deferred.ofValue,fv,dd]
  refine⟨fun _ _=>trivial, ?_⟩
  have:(o2.semAt (dJ none).round (a1.put (some t) fv).eval)=execOp (a1.put (some t) fv).eval o2:=rfl
  rw[this,x2]
  unfold Oper.uponIn
  simp only[e5,wpListIn,Act.put,su,a2,and_self]
 rintro e a w2 ⟨rfl,rfl,rfl⟩
 have wL:t<a1.tmps.size:=by rw[uq.size];exact ht
 let s2:S:=⟨ao s1.env t (.func (.func g) [] (iH.map s1.ev)),s1.o,s1.nx⟩
 have Gt:bZ M hZ s1.H w2 n ⟨[dd],false⟩ hZ s2 a2 w2:=by
  refine⟨uq.heap,Trans.refl _ _ _,by simp[a2,uq.size],⟨[],rfl,List.nodup_nil,fun _=>rfl,fun r hr=>by cases hr⟩,fun i=> ?_⟩
  simp only[s2,a2,aL]
  by_cases h1:i=t
  ·subst h1
   have:(a1.tmps.setIfInBounds i fv).getD i undef=fv:=by simp[Array.getD,wL]
   simp only[if_true];rw[this]
   exact⟨#[],cv,rfl,rfl,I8⟩
  ·have:(a1.tmps.setIfInBounds t fv).getD i undef=a1.tmps.getD i undef:=by
    simp only[Array.getD_eq_getD_getElem?]
    rw[Array.getElem?_setIfInBounds_ne (Ne.symm h1)]
   simp only[h1,if_false];rw[this]
   exact uq.env i
 have hb:=gJ (P:=P) (n:=n) (b:=s1.nx) (rd:=false) ba cb _ _ s2 (fun _ _ h=>h) (by rw[Gq];exact hq)
 refine gf (gD (P:=P) (H0:=s1.H) (b:=s1.nx) (cx:=⟨[dd],false⟩) (ro:=none) (fun id hu=>hu) (fun _=>rfl) cb _ s2 hZ a2 w2 hb Gt) ?_
 rintro e a3 w3 ⟨x,s3,Om,RH,zh,uh⟩
 obtain⟨ms,g1,g2,_,g4⟩:=zh.defers
 have hinv:(invoke dd.target dd.args).run P=fun w=> .ok (.enter g cv) w:=by
  funext w
  have:=kx (w:=w) ⟨gn,Yb,KJ,by rw[KK];rfl⟩ cv
  simpa[dd,invoke]using this
 have last:∀ {w4:World} {tm:Array Value} {u:V} {val:Value} {m0:FrameMode},m0≠ .run->vE M hZ s1.H w2 Om s3 a3.tmps w4->V.den (ai M Om s3.H) Om s3.H w4 u val->
  ((m0= .returning/\val= .nilIface)\/m0= .panicking [{v:=val,recovered:=false}])->
  (CS P m r r1 x9 (iH.map s1.ev) u s3.o s3.nx fun o nx=>lb P rs K X .ret ⟨s3.env,o,nx⟩)->
  LeavesInM (dJ none) 0 P fn a3.tmps (l0 M φ (hp o nx) w K X) [dd] m0 w4:=by
  intro w4 tm u val m0 eS hB JQ Yc bD
  have KL:=V.aI hB.tr _ _ I8
  refine⟨eS, .inr ⟨fun h=>by simp[dJ]at h, .func g,cv,g,cv,rfl,by rw[hinv],fun _ _=>trivial,CallsDIn.mono (CT (k:=0 - 1) ba hg bD (m:=m0) hB.heap KL JQ Yc) ?_⟩⟩
  rintro e u' w5 ⟨v,Tf,o5,RI,rfl,Ai,k1,k2,k3⟩
  show LeavesInM (dJ none) 0 P fn a3.tmps (l0 M φ (hp o nx) w K X) [] (settle u') w5
  rw[Ai]
  obtain⟨vs,h1,h2⟩:=xA k3
  rw[<- qH]at h1
  have On:∀i,V.den (ai M Tf (hp o5 RI)) Tf (hp o5 RI) w5 (s3.env i) (a3.tmps.getD i undef):=fun i=>V.aA k2 _ _ (hB.env i)
  obtain⟨VL,h3,h4⟩:=qS (P:=P) (s:=⟨s3.env,o5,RI⟩) (a:=a3) k1 On _ _ h1
  exact⟨_,mc h3,Tf,o5,RI,_,k1,uq.tr.trans (hB.tr.trans k2),xB h4,h2⟩
 have done:CS P m r r1 x9 (iH.map s1.ev) (.d .ft) s3.o s3.nx (fun o nx=>lb P rs K X .ret ⟨s3.env,o,nx⟩)->LeavesInM (dJ none) 0 P fn a3.tmps (l0 M φ (hp o nx) w K X) a3.defers .returning w3:=by
  intro bD
  rw[g1]
  exact gh (P:=P) (k:=0) (fn:=fn) (R:=l0 M φ (hp o nx) w K X) (u:= .returning) (by simp) (ds:=[dd]) (fun w4 hB=>last (tm:=a3.tmps) (by simp) hB (u:= .d .ft) (val:= .nilIface) (by simp[V.den,D.den]) (.inl ⟨rfl,rfl⟩) bD) ms w3 g2 g4 zh.VF
 cases e<;>cases x<;>first|(exact uh.elim)|skip
 ·exact done RH
 ·exact RH.elim
 ·exact done RH
 ·rename_i v
  obtain⟨val,rfl,SK⟩:=uh
  show LeavesInM (dJ none) 0 P fn a3.tmps (l0 M φ (hp o nx) w K X) a3.defers _ w3
  rw[g1]
  let Oo:Nat->V:=fun i=>match i with|0=>v|i+1=>s3.env i
  have Oq:(#[val]++a3.tmps).getD 0 undef=val:=by simp[Array.getD]
  have Ot:∀i,(#[val]++a3.tmps).getD (i+1) undef=a3.tmps.getD i undef:=by
   intro i
   simp only[Array.getD_eq_getD_getElem?]
   rw[Array.getElem?_append_right (by simp)]
   simp
  have JW:vE M hZ s1.H w2 Om ⟨Oo,s3.o,s3.nx⟩ (#[val]++a3.tmps) w3:=⟨zh.heap,zh.tr,fun i=>by
   cases i with
   |zero=>rw[Oq];exact SK
   |succ i=>rw[Ot];exact zh.env i⟩
  have Ou:∀w4,vE M hZ s1.H w2 Om ⟨Oo,s3.o,s3.nx⟩ (#[val]++a3.tmps) w4->LeavesInM (dJ none) 0 P fn a3.tmps (l0 M φ (hp o nx) w K X) [dd] (.panicking [{v:=val,recovered:=false}]) w4:=by
   intro w4 hB
   have VM:=hB.env 0
   rw[Oq]at VM
   refine last (tm:=a3.tmps) (by simp) ⟨hB.heap,hB.tr,fun i=> ?_⟩ VM (.inr rfl) RH
   have hs:=hB.env (i+1)
   rw[Ot]at hs
   exact hs
  exact gh (P:=P) (k:=0) (fn:=fn) (R:=l0 M φ (hp o nx) w K X) (u:= .panicking [{v:=val,recovered:=false}]) (by simp) (ds:=[dd]) Ou ms w3 g2 g4 JW
end
end Go.Proofs.YtealblliddhgiaaGreat
