/-
  A PART OF THE PROOF. Conditions: none.
-/
import Derived.Test.YtbmnikpknlkbkaaGreatEc8
set_option linter.unusedSimpArgs false
set_option linter.unusedVariables false
namespace Go.Proofs.YtbmnikpknlkbkaaGreat
def aa.Bx:aa->Bool
 | .ky .. =>true
 |_=>false
def zV(o:Nat->aa)(v:V):Option D:=if v.ids.all (fun id=>(o id).Bx)=true then dk o v else none
section
variable (ρ:Nat->Option Nat)(o' o:Nat->aa)(nx:Nat)
mutual
def mE:V->V->Prop
 | .aE,_=>True
 | .d x,v=>zV o v=some x
 | .aI,v=>v= .aI
 | .agg cs,v=>match v with| .agg ds=>ma cs ds|_=>False
 | .bJ cs,v=>match v with| .bJ ds=>ma cs ds|_=>False
 | .ptr bX sE,v=>match v with| .ptr id off=>ρ bX=some id/\sE=off/\bX<nx|_=>False
 | .osl bX eF,v=>bX<nx/\(o' bX).aL=some eF/\match v with
   | .aI=>ρ bX=none
   | .osl id ep=>ρ bX=some id/\(o id).aL=some ep
   |_=>False
 | .pe bX eF i' jF sE,v=>bX<nx/\(o' bX).aL=some eF/\match v with
   | .pe id ep i sz off=>ρ bX=some id/\(o id).aL=some ep/\i'=i/\jF=sz/\sE=off
   |_=>False
 | .pp cs off,v=>v= .pp cs off
 | .func fn a b,v=>match v with| .func OL a' b'=>fn=OL/\ma a a'/\ma b b'|_=>False
 | .iface t x,v=>match v with| .iface t' y=>t=t'/\mE x y|_=>False
 | .jU es,v=>v= .jU es
 | .nm bX sE n',v=>match v with| .nm id off n=>ρ bX=some id/\sE=off/\n'=n/\bX<nx|_=>False
 | .mp bX,v=>match v with| .mp id=>ρ bX=some id/\bX<nx|_=>False
 | .dy,v=>v= .dy\/∃b,v= .d (.bool b)
 | .js bX,v=>match v with| .js id=>ρ bX=some id/\bX<nx|_=>False
def ma:List V->List V->Prop
 |[],vs=>vs=[]
 |x::xs,vs=>match vs with|v::vs=>mE x v/\ma xs vs|[]=>False
end
def ji(bX:Nat):Prop:=
 match o' bX with
 | .no=>True
 | .row cs'=>match ρ bX with
   |some id=>match o id with| .row cs=>ma ρ o' o nx cs' cs|_=>False
   |none=>False
 | .arr _ ty sz es=>match ρ bX with
   |some id=>match o id with| .arr _ Jj jF es'=>ty=Jj/\sz=jF/\es=es'|_=>False
   |none=>es=[]/\0<sz
 | .ky _ es=>match ρ bX with
   |some id=>match o id with| .ky _ es'=>es=es'|_=>False
   |none=>False
 | .map kt vt l=>match ρ bX with
   |some id=>match o id with| .map yU yV l'=>kt=yU/\vt=yV/\l=l'|_=>False
   |none=>False
 | .loop nf n env ps a b st pd=>match ρ bX with
   |some id=>match o id with| .loop FP n' Jk OM a' b' st' pd'=>nf=FP/\n=n'/\ps=OM/\a=a'/\b=b'/\st=st'/\pd=pd'/\ma ρ o' o nx env Jk|_=>False
   |none=>False
 | .dT l=>match ρ bX with
   |some id=>match o id with| .dT l'=>l=l'|_=>False
   |none=>False
 | .lS l last=>match ρ bX with
   |some id=>match o id with| .lS l' xS=>l=l'/\(last=none\/last=xS)|_=>False
   |none=>False
 | .oB s pos=>match ρ bX with
   |some id=>match o id with| .oB s' pos'=>s=s'/\pos=pos'|_=>False
   |none=>False
end
section
variable {M M':Nat->Prop}{φ ai:Place}{H H':Hp}{w:World}{ρ:Nat->Option Nat}{nx:Nat}
theorem xT(hH:af M φ H w){v:V}{x:D}{val:Value}(h:zV H.o v=some x)(hd:V.den (ad M φ H) φ H w v val):D.den (ad M φ H) w x val:=by
 unfold zV at h
 split at h
 ·rename_i ha
  refine dA hH (o:=H.o) v x val (fun id ag=> ?_) h hd
  have:=List.all_eq_true.1 ha id ag
  cases ho:H.o id<;>rw[ho]at this<;>simp[aa.Bx]at this
  rfl
 ·cases h
mutual
theorem na(hH:af M φ H w)(fi:∀b,bC w b-> ¬ad M φ H b-> ¬ad M' ai H' b)(cz:∀id,ai id=match ρ id with|some j=>φ j|none=> .slice none 0 0)
 (cJ:∀id,id<nx->H'.us id) (aY:∀bX id,ρ bX=some id->(H'.o bX).bc=true->(H.o id).bc=true):
 ∀ (x v:V) (val:Value),mE ρ H'.o H.o nx x v->V.den (ad M φ H) φ H w v val->V.den (ad M' ai H') ai H' w x val
 | .aE,_,_,_,_=>trivial
 | .d x,v,val,h,hd=>D.ao (fun b hb hn=>⟨rfl,fi b hb hn⟩) x val (xT hH (by simpa[mE]using h) hd)
 | .aI,v,val,h,hd=>by simp only[mE]at h;subst h;exact hd
 | .agg cs,v,val,h,hd=>by
   unfold mE at h
   split at h
   ·obtain⟨a,rfl,hd,hf⟩:=hd
    exact⟨a,rfl,gY hH fi cz cJ aY _ _ _ h hd,hf⟩
   ·exact h.elim
 | .bJ cs,v,val,h,hd=>by
   unfold mE at h
   split at h
   ·obtain⟨a,rfl,hd⟩:=hd
    exact⟨a,rfl,gY hH fi cz cJ aY _ _ _ h hd⟩
   ·exact h.elim
 | .ptr bX sE,v,val,h,hd=>by
   unfold mE at h
   split at h
   ·obtain⟨h1,rfl,h3⟩:=h
    obtain⟨g1,_,g3⟩:=hd
    refine⟨g1,cJ _ h3,fun hr=> ?_⟩
    obtain⟨b,k1,k2⟩:=g3 (aY _ _ h1 hr)
    exact⟨b,by rw[cz,h1];exact k1,k2⟩
   ·exact h.elim
 | .osl bX eF,v,val,h,hd=>by
   unfold mE at h
   obtain⟨h1,h2,h3⟩:=h
   split at h3
   ·simp only[V.den]at hd;subst hd
    refine⟨rfl,cJ _ h1,fun e he=> ?_⟩
    rw[h2]at he;injection he with he;subst he
    exact⟨Nat.le_refl _,fun _=>by rw[cz,h3]⟩
   ·obtain⟨g1,_,g3⟩:=hd
    refine⟨g1,cJ _ h1,fun e he=> ?_⟩
    rw[h2]at he;injection he with he;subst he
    exact⟨Nat.le_refl _,fun _=>by rw[cz,h3.1];exact(g3 _ h3.2).2 rfl⟩
   ·exact h3.elim
 | .pe bX eF i' jF sE,v,val,h,hd=>by
   unfold mE at h
   obtain⟨h1,h2,h3⟩:=h
   split at h3
   ·obtain⟨h3,h4,rfl,rfl,rfl⟩:=h3
    obtain⟨g1,_,g3⟩:=hd
    refine⟨g1,cJ _ h1,fun e he=> ?_⟩
    rw[h2]at he;injection he with he;subst he
    refine⟨Nat.le_refl _,fun _=> ?_⟩
    obtain⟨b,n,c,k1,k2⟩:=(g3 _ h4).2 rfl
    exact⟨b,n,c,by rw[cz,h3];exact k1,k2⟩
   ·exact h3.elim
 | .pp cs off,v,val,h,hd=>by
   simp only[mE]at h;subst h
   obtain⟨a,ev,h1,h2,h3,h5,h4⟩:=hd
   exact⟨a,ev,h1,h2,D.aw (fun b hb hn=>⟨rfl,fi b hb hn⟩) cs ev h3,h5,h4.mono (fun b hb hn=>⟨rfl,fi b hb hn⟩)⟩
 | .func fn a b,v,val,h,hd=>by
   unfold mE at h
   split at h
   ·obtain⟨rfl,h1,h2⟩:=h
    obtain⟨f,c,rfl,k1,k2⟩:=hd
    exact⟨f,c,rfl,gY hH fi cz cJ aY _ _ _ h1 k1,gY hH fi cz cJ aY _ _ _ h2 k2⟩
   ·exact h.elim
 | .iface t x,v,val,h,hd=>by
   unfold mE at h
   split at h
   ·obtain⟨rfl,h1⟩:=h
    obtain⟨u,rfl,k1⟩:=hd
    exact⟨u,rfl,na hH fi cz cJ aY _ _ _ h1 k1⟩
   ·exact h.elim
 | .jU es,v,val,h,hd=>by
   simp only[mE]at h;subst h
   exact⟨D.ao (fun b hb hn=>⟨rfl,fi b hb hn⟩) (.sl es) val hd.1,hd.2⟩
 | .nm bX sE n',v,val,h,hd=>by
   unfold mE at h
   split at h
   ·obtain⟨h1,rfl,rfl,h3⟩:=h
    obtain⟨g1,_,g3⟩:=hd
    refine⟨g1,cJ _ h3,fun hr=> ?_⟩
    obtain⟨b,k1,k2⟩:=g3 (aY _ _ h1 hr)
    exact⟨b,by rw[cz,h1];exact k1,k2⟩
   ·exact h.elim
 | .mp bX,v,val,h,hd=>by
   unfold mE at h
   split at h
   ·obtain⟨h1,h3⟩:=h
    obtain⟨g1,_,g3⟩:=hd
    exact⟨g1,cJ _ h3,fun hr=>by rw[cz,h1];exact g3 (aY _ _ h1 hr)⟩
   ·exact h.elim
 | .dy,v,val,h,hd=>by
   unfold mE at h
   rcases h with rfl|⟨b,rfl⟩
   ·exact hd
   ·exact⟨b,hd⟩
 | .js bX,v,val,h,hd=>by
   unfold mE at h
   split at h
   ·obtain⟨h1,h3⟩:=h
    obtain⟨g1,_,g3⟩:=hd
    refine⟨g1,cJ _ h3,fun hr=> ?_⟩
    obtain⟨b,k1,k2⟩:=g3 (aY _ _ h1 hr)
    exact⟨b,by rw[cz,h1];exact k1,k2⟩
   ·exact h.elim
theorem gY(hH:af M φ H w)(fi:∀b,bC w b-> ¬ad M φ H b-> ¬ad M' ai H' b)(cz:∀id,ai id=match ρ id with|some j=>φ j|none=> .slice none 0 0)
 (cJ:∀id,id<nx->H'.us id) (aY:∀bX id,ρ bX=some id->(H'.o bX).bc=true->(H.o id).bc=true):
 ∀ (xs vs:List V) (vals:List Value),ma ρ H'.o H.o nx xs vs->V.ak (ad M φ H) φ H w vs vals->V.ak (ad M' ai H') ai H' w xs vals
 |[],vs,vals,h,hd=>by simp only[ma]at h;subst h;exact hd
 |x::xs,vs,vals,h,hd=>by
  unfold ma at h
  split at h
  ·obtain⟨u,us,rfl,k1,k2⟩:=hd
   exact⟨u,us,rfl,na hH fi cz cJ aY _ _ _ h.1 k1,gY hH fi cz cJ aY _ _ _ h.2 k2⟩
  ·exact h.elim
end
theorem xU(hH:af M φ H w){o':Nat->aa}(ho:∀id,ji ρ o' H.o nx id)(de:∀id,nx<=id->o' id= .no)
 (qj:∀i j k,(o' i).live=true->(o' j).live=true->ρ i=some k->ρ j=some k->i=j)
 (hM:∀b,M' b->ad M φ H b) (Jl:∀b,M' b->b<w.heap.size) (zW:∀b,M' b-> ¬bp (fun id=>match ρ id with|some j=>φ j|none=> .slice none 0 0) ⟨o',fun id=>id<nx⟩ b):
 let ai:Place:=fun id=>match ρ id with|some j=>φ j|none=> .slice none 0 0
 let H':Hp:=⟨o',fun id=>id<nx⟩
 af M' ai H' w/\(∀b,bp ai H' b->bp φ H b)/\(∀b,bC w b-> ¬ad M φ H b-> ¬ad M' ai H' b)/\
  (∀x v val,mE ρ o' H.o nx x v->V.den (ad M φ H) φ H w v val->V.den (ad M' ai H') ai H' w x val):=by
 intro ai H'
 have aY:∀bX id,ρ bX=some id->(H'.o bX).bc=true->(H.o id).bc=true:=by
  intro bX id h1 h2
  have h3:=ho bX
  unfold ji at h3
  simp only[H']at h2
  split at h3
  ·rename_i e;rw[e]at h2;cases h2
  ·rw[h1]at h3
   simp only at h3
   split at h3
   ·rename_i e;rw[e];rfl
   ·exact h3.elim
  ·rename_i e;rw[e]at h2;cases h2
  ·rename_i e;rw[e]at h2;cases h2
  ·rw[h1]at h3
   simp only at h3
   split at h3
   ·rename_i e;rw[e];rfl
   ·exact h3.elim
  ·rw[h1]at h3
   simp only at h3
   split at h3
   ·rename_i e;rw[e];rfl
   ·exact h3.elim
  ·rw[h1]at h3
   simp only at h3
   split at h3
   ·rename_i e;rw[e];rfl
   ·exact h3.elim
  ·rw[h1]at h3
   simp only at h3
   split at h3
   ·rename_i e;rw[e];rfl
   ·exact h3.elim
  ·rw[h1]at h3
   simp only at h3
   split at h3
   ·rename_i e;rw[e];rfl
   ·exact h3.elim
 have bq:∀bX b,(o' bX).live=true->cW (ai bX)=some b->∃id,ρ bX=some id/\(H.o id).live=true/\cW (φ id)=some b:=by
  intro bX b h1 h2
  have h3:=ho bX
  unfold ji at h3
  simp only[ai]at h2
  split at h3
  ·rename_i e;rw[e]at h1;cases h1
  ·cases hr:ρ bX with
   |none=>rw[hr]at h3;exact h3.elim
   |some id=>
    rw[hr]at h3 h2
    simp only at h3 h2
    split at h3
    ·rename_i e;exact⟨id,rfl,by rw[e];rfl,h2⟩
    ·exact h3.elim
  ·cases hr:ρ bX with
   |none=>rw[hr]at h2;simp[cW]at h2
   |some id=>
    rw[hr]at h3 h2
    simp only at h3 h2
    split at h3
    ·rename_i e;exact⟨id,rfl,by rw[e];rfl,h2⟩
    ·exact h3.elim
  ·rename_i e;rw[e]at h1;cases h1
  ·cases hr:ρ bX with
   |none=>rw[hr]at h3;exact h3.elim
   |some id=>
    rw[hr]at h3 h2
    simp only at h3 h2
    split at h3
    ·rename_i e;exact⟨id,rfl,by rw[e];rfl,h2⟩
    ·exact h3.elim
  ·cases hr:ρ bX with
   |none=>rw[hr]at h3;exact h3.elim
   |some id=>
    rw[hr]at h3 h2
    simp only at h3 h2
    split at h3
    ·rename_i e;exact⟨id,rfl,by rw[e];rfl,h2⟩
    ·exact h3.elim
  ·rename_i e;rw[e]at h1;cases h1
  ·cases hr:ρ bX with
   |none=>rw[hr]at h3;exact h3.elim
   |some id=>
    rw[hr]at h3 h2
    simp only at h3 h2
    split at h3
    ·rename_i e;exact⟨id,rfl,by rw[e];rfl,h2⟩
    ·exact h3.elim
  ·cases hr:ρ bX with
   |none=>rw[hr]at h3;exact h3.elim
   |some id=>
    rw[hr]at h3 h2
    simp only at h3 h2
    split at h3
    ·rename_i e;exact⟨id,rfl,by rw[e];rfl,h2⟩
    ·exact h3.elim
 have yW:∀b,bp ai H' b->bp φ H b:=by
  rintro b ⟨bX,h1,h2⟩
  obtain⟨id,_,h3,h4⟩:=bq bX b h1 h2
  exact⟨id,h3,h4⟩
 have Jm:∀b,ad M' ai H' b->ad M φ H b:=by
  rintro b (h|h)
  ·exact hM b h
  ·exact .inr (yW b h)
 have fi:∀b,bC w b-> ¬ad M φ H b-> ¬ad M' ai H' b:=fun b _ h k=>h (Jm b k)
 have ON:=gY (M':=M') (ai:=ai) (H':=H') (ρ:=ρ) (nx:=nx) hH fi (fun _=>rfl) (fun _ h=>h) aY
 refine⟨⟨fun bX=> ?_,fun id hn=>de id (by simpa[H']using hn),fun i j b h1 h2 h3 h4=> ?_,fun b hb=>⟨fun hm=>zW b hm hb,(hH.ours b (yW b hb)).2⟩,Jl⟩,yW,fi,
  na (M':=M') (ai:=ai) (H':=H') (ρ:=ρ) (nx:=nx) hH fi (fun _=>rfl) (fun _ h=>h) aY⟩
 ·have h3:=ho bX
  unfold ji at h3
  unfold aq
  simp only[H']
  split at h3
  ·rename_i e;rw[e];trivial
  ·rename_i cs' e
   rw[e]
   cases hr:ρ bX with
   |none=>rw[hr]at h3;exact h3.elim
   |some id=>
    rw[hr]at h3
    simp only at h3
    split at h3
    ·rename_i cs e2
     have:=hH.ok id
     unfold aq at this
     rw[e2]at this
     obtain⟨b,bY,ty,k1,k2,k3,k4⟩:=this
     exact⟨b,bY,ty,by simp only[ai,hr];exact k1,k2,ON _ _ _ h3 k3,k4⟩
    ·exact h3.elim
  ·rename_i ep ty sz es e
   rw[e]
   cases hr:ρ bX with
   |none=>
    rw[hr]at h3
    obtain⟨rfl,h4⟩:=h3
    exact⟨h4,[],by simp only[ai,hr];exact World.ownsRow_nil _ _ _ _,[],by simp,by simp,rfl⟩
   |some id=>
    rw[hr]at h3
    simp only at h3
    split at h3
    ·rename_i e2
     obtain⟨rfl,rfl,rfl⟩:=h3
     have:=hH.ok id
     unfold aq at this
     rw[e2]at this
     obtain⟨k1,xs,k2,evs,k3,k4,k5⟩:=this
     exact⟨k1,xs,by simp only[ai,hr];exact k2,evs,k3,k4,D.aw (fun b hb hn=>⟨rfl,fi b hb hn⟩) _ _ k5⟩
    ·exact h3.elim
  ·rename_i ep es e
   rw[e]
   cases hr:ρ bX with
   |none=>rw[hr]at h3;exact h3.elim
   |some id=>
    rw[hr]at h3
    simp only at h3
    split at h3
    ·rename_i e2
     subst h3
     have:=hH.ok id
     unfold aq at this
     rw[e2]at this
     simp only[ai,hr]
     exact D.ao (fun b hb hn=>⟨rfl,fi b hb hn⟩) _ _ this
    ·exact h3.elim
  ·rename_i kt vt l e
   rw[e]
   cases hr:ρ bX with
   |none=>rw[hr]at h3;exact h3.elim
   |some id=>
    rw[hr]at h3
    simp only at h3
    split at h3
    ·rename_i e2
     obtain⟨rfl,rfl,rfl⟩:=h3
     have:=hH.ok id
     unfold aq at this
     rw[e2]at this
     obtain⟨b,es,clock,k1,k2,k4,k3⟩:=this
     exact⟨b,es,clock,by simp only[ai,hr];exact k1,k2,k4,au.mono (fun b hb hn=>⟨rfl,fi b hb hn⟩) _ _ k3⟩
    ·exact h3.elim
  ·rename_i nf n env ps a b st pd e
   rw[e]
   cases hr:ρ bX with
   |none=>rw[hr]at h3;exact h3.elim
   |some id=>
    rw[hr]at h3
    simp only at h3
    split at h3
    ·rename_i e2
     obtain⟨rfl,rfl,rfl,rfl,rfl,rfl,rfl,hv⟩:=h3
     have:=hH.ok id
     unfold aq at this
     rw[e2]at this
     obtain⟨b,r,k1,k2,k3,k4,k5,k6,k7,k8,k9,xV⟩:=this
     refine⟨b,r,by simp only[ai,hr];exact k1,k2,k3,k4,k5,k6,k7,k8,k9,fun i=> ?_⟩
     have key:∀ (xs vs:List V),ma ρ o' H.o nx xs vs->∀i,mE ρ o' H.o nx (bU xs i) (bU vs i):=by
      intro xs
      induction xs with
      |nil=>intro vs hv i;simp[bU,mE]
      |cons x xs ih=>
       intro vs hv i
       unfold ma at hv
       split at hv
       ·cases i with
        |zero=>exact hv.1
        |succ i=>exact ih _ hv.2 i
       ·exact hv.elim
     exact na (M':=M') (ai:=ai) (H':=H') (ρ:=ρ) (nx:=nx) hH fi (fun _=>rfl) (fun _ h=>h) aY _ _ _ (key _ _ hv i) (xV i)
    ·exact h3.elim
  ·rename_i l e
   rw[e]
   cases hr:ρ bX with
   |none=>rw[hr]at h3;exact h3.elim
   |some id=>
    rw[hr]at h3
    simp only at h3
    split at h3
    ·rename_i e2
     subst h3
     have:=hH.ok id
     unfold aq at this
     rw[e2]at this
     simp only[ai,hr]
     exact D.ao (fun b hb hn=>⟨rfl,fi b hb hn⟩) _ _ this
    ·exact h3.elim
  ·rename_i l last e
   rw[e]
   cases hr:ρ bX with
   |none=>rw[hr]at h3;exact h3.elim
   |some id=>
    rw[hr]at h3
    simp only at h3
    split at h3
    ·rename_i xS e2
     obtain⟨rfl,h3⟩:=h3
     have:=hH.ok id
     unfold aq at this
     rw[e2]at this
     obtain⟨b,k1,k2⟩:=this
     have k3:nn (ad M' ai H') w l xS b:=k2.mono (fun b hb hn=>⟨rfl,fi b hb hn⟩) rfl
     refine⟨b,by simp only[ai,hr];exact k1, ?_⟩
     rcases h3 with rfl|rfl
     ·rcases k3 with⟨a1,a2,_⟩|⟨m,since,seen,es,a1,a2,a3,a4,a5,_⟩
      ·exact .inl ⟨a1,a2,rfl⟩
      ·exact .inr ⟨m,since,seen,es,a1,a2,a3,a4,a5,fun _ _ e=>by cases e⟩
     ·exact k3
    ·exact h3.elim
  ·rename_i s pos e
   rw[e]
   cases hr:ρ bX with
   |none=>rw[hr]at h3;exact h3.elim
   |some id=>
    rw[hr]at h3
    simp only at h3
    split at h3
    ·rename_i e2
     obtain⟨rfl,rfl⟩:=h3
     have:=hH.ok id
     unfold aq at this
     rw[e2]at this
     obtain⟨b,k1,k2⟩:=this
     exact⟨b,by simp only[ai,hr];exact k1,k2⟩
    ·exact h3.elim
 ·obtain⟨k1,g1,g2,g3⟩:=bq i b h1 h3
  obtain⟨k2,g4,g5,g6⟩:=bq j b h2 h4
  have:=hH.apart k1 k2 b g2 g5 g3 g6
  subst this
  exact qj i j k1 h1 h2 g1 g4
theorem dv.of_map {b:Nat}{s s':S}(ρ:Nat->Option Nat)(hb:b<=s'.nx)(ho:∀id,ji ρ s'.o s.o s'.nx id)(de:∀id,s'.nx<=id->s'.o id= .no)
 (qj:∀i j k,(s'.o i).live=true->(s'.o j).live=true->ρ i=some k->ρ j=some k->i=j)
 (jH:∀id,id<b->ρ id=some id/\(∀e',(s'.o id).aL=some e'->∃e,(s.o id).aL=some e/\e<=e')) (cA:∀i,mE ρ s'.o s.o s'.nx (s'.env i) (s.env i)):dv b s s':=by
 intro M φ w tm hH he
 obtain⟨h1,h2,_,h4⟩:=xU (M':=M) (ρ:=ρ) (nx:=s'.nx) hH (o':=s'.o) ho de qj (fun b hb=> .inl hb) hH.oE (fun b hb hl=>by
  have:bp φ s.H b:=by
   obtain⟨bX,g1,g2⟩:=hl
   have h3:=ho bX
   unfold ji at h3
   simp only at g1 g2
   split at h3
   ·rename_i e;rw[e]at g1;cases g1
   ·cases hr:ρ bX with
    |none=>rw[hr]at h3;exact h3.elim
    |some id=>
     rw[hr]at h3 g2
     simp only at h3 g2
     split at h3
     ·rename_i e;exact⟨id,by simp only[S.H];rw[e];rfl,g2⟩
     ·exact h3.elim
   ·cases hr:ρ bX with
    |none=>rw[hr]at g2;simp[cW]at g2
    |some id=>
     rw[hr]at h3 g2
     simp only at h3 g2
     split at h3
     ·rename_i e;exact⟨id,by simp only[S.H];rw[e];rfl,g2⟩
     ·exact h3.elim
   ·rename_i e;rw[e]at g1;cases g1
   ·cases hr:ρ bX with
    |none=>rw[hr]at h3;exact h3.elim
    |some id=>
     rw[hr]at h3 g2
     simp only at h3 g2
     split at h3
     ·rename_i e;exact⟨id,by simp only[S.H];rw[e];rfl,g2⟩
     ·exact h3.elim
   ·cases hr:ρ bX with
    |none=>rw[hr]at h3;exact h3.elim
    |some id=>
     rw[hr]at h3 g2
     simp only at h3 g2
     split at h3
     ·rename_i e;exact⟨id,by simp only[S.H];rw[e];rfl,g2⟩
     ·exact h3.elim
   ·rename_i e;rw[e]at g1;cases g1
   ·cases hr:ρ bX with
    |none=>rw[hr]at h3;exact h3.elim
    |some id=>
     rw[hr]at h3 g2
     simp only at h3 g2
     split at h3
     ·rename_i e;exact⟨id,by simp only[S.H];rw[e];rfl,g2⟩
     ·exact h3.elim
   ·cases hr:ρ bX with
    |none=>rw[hr]at h3;exact h3.elim
    |some id=>
     rw[hr]at h3 g2
     simp only at h3 g2
     split at h3
     ·rename_i e;exact⟨id,by simp only[S.H];rw[e];rfl,g2⟩
     ·exact h3.elim
  exact(hH.ours b this).1 hb)
 refine⟨_,h1,fun i=>h4 _ _ _ (cA i) (he i),h2,hb,fun id ag hr=> ?_,fun id e' ag dN=> ?_⟩
 ·obtain⟨g1,_⟩:=jH id ag
  refine⟨?_,by simp only[g1]⟩
  have h3:=ho id
  unfold ji at h3
  rw[g1]at h3
  split at h3
  ·rename_i e;rw[e]at hr;cases hr
  ·simp only at h3
   split at h3
   ·rename_i e;rw[e];rfl
   ·exact h3.elim
  ·rename_i e;rw[e]at hr;cases hr
  ·rename_i e;rw[e]at hr;cases hr
  ·simp only at h3
   split at h3
   ·rename_i e;rw[e];rfl
   ·exact h3.elim
  ·simp only at h3
   split at h3
   ·rename_i e;rw[e];rfl
   ·exact h3.elim
  ·simp only at h3
   split at h3
   ·rename_i e;rw[e];rfl
   ·exact h3.elim
  ·simp only at h3
   split at h3
   ·rename_i e;rw[e];rfl
   ·exact h3.elim
  ·simp only at h3
   split at h3
   ·rename_i e;rw[e];rfl
   ·exact h3.elim
 ·obtain⟨g1,g2⟩:=jH id ag
  obtain⟨e,g3,g4⟩:=g2 e' dN
  exact⟨e,g3,g4,fun _=>by simp only[g1]⟩
end
end Go.Proofs.YtbmnikpknlkbkaaGreat
namespace Go.Proofs.YtbmnikpknlkbkaaGreat
@[go_sem] theorem gZ (v:V) (l:List V):bU (v::l) 0=v:=rfl
@[go_sem] theorem fy (v:V) (l:List V) (i:Nat):bU (v::l) (i+1)=bU l i:=rfl
@[go_sem] theorem g8 (i:Nat):bU [] i= .aE:=by simp[bU]
def ff:List (Nat×Option Nat)->Nat->Option Nat
 |[],id=>some id
 |(i,r)::R,id=>if i=id then r else ff R id
def zX(R:List (Nat×Option Nat)):List Nat->Bool
 |[]=>true
 |i::l=>l.all (fun j=>i==j||ff R i==none||ff R i !=ff R j)&&zX R l
def uT(ρ:Nat->Option Nat)(o' o:Nat->aa)(nx:Nat)(env:Nat->V):List V->Nat->Prop
 |[],_=>True
 |v::l,i=>mE ρ o' o nx v (env i)/\uT ρ o' o nx env l (i+1)
def qG(ρ:Nat->Option Nat)(o' o:Nat->aa)(nx:Nat):List Nat->Prop
 |[]=>True
 |i::l=>ji ρ o' o nx i/\qG ρ o' o nx l
def CO:Option Nat->Option Nat->Prop
 |none,_=>True
 |some _,none=>False
 |some a,some b=>b<=a
def uU(b:Nat)(o' o:Nat->aa):List Nat->Prop
 |[]=>True
 |i::l=>(i<b->CO (o' i).aL (o i).aL)/\uU b o' o l
theorem zY{o:Nat->aa}:∀ (Δ:List (Nat×aa)) (id:Nat),id∉Δ.map (·.1)->put o Δ id=o id:=by
 intro Δ
 induction Δ generalizing o with
 |nil=>intro id _;rfl
 |cons p Δ ih=>
  intro id h
  simp only[List.map_cons,List.mem_cons,not_or]at h
  rw[wh,ih id h.2]
  simp[h.1]
theorem dv.to {b:Nat}{s:S}(l:List V)(Δ:List (Nat×aa))(nx:Nat)(R:List (Nat×Option Nat))(h1:decide (b<=nx)=true)(h2:(Δ.map (·.1)).all (· <nx)=true)(h3:zX R (Δ.map (·.1))=true)(h4:R.all (fun r=>decide (b<=r.1))=true)
 (h5:uU b (put (fun _=> .no) Δ) s.o (Δ.map (·.1))) (h6:qG (ff R) (put (fun _=> .no) Δ) s.o nx (Δ.map (·.1))) (h7:uT (ff R) (put (fun _=> .no) Δ) s.o nx s.env l 0):
 dv b s ⟨bU l,put (fun _=> .no) Δ,nx⟩:=by
 have oN:∀id,id∈Δ.map (·.1)\/put (fun _=>aa.no) Δ id= .no:=fun id=>by
  by_cases h:id∈Δ.map (·.1)
  ·exact .inl h
  ·exact .inr (zY Δ id h)
 have ny:∀ (ids:List Nat),qG (ff R) (put (fun _=> .no) Δ) s.o nx ids->∀id∈ids,ji (ff R) (put (fun _=> .no) Δ) s.o nx id:=by
  intro ids
  induction ids with
  |nil=>intro _ id h;cases h
  |cons i ids ih=>
   intro h id ag
   rcases List.mem_cons.1 ag with rfl|ag
   ·exact h.1
   ·exact ih h.2 id ag
 have Jn:∀ (ids:List Nat),uU b (put (fun _=> .no) Δ) s.o ids->∀id∈ids,id<b->CO (put (fun _=>aa.no) Δ id).aL (s.o id).aL:=by
  intro ids
  induction ids with
  |nil=>intro _ id h;cases h
  |cons i ids ih=>
   intro h id ag
   rcases List.mem_cons.1 ag with rfl|ag
   ·exact h.1
   ·exact ih h.2 id ag
 have cA:∀ (l:List V) (i:Nat),uT (ff R) (put (fun _=> .no) Δ) s.o nx s.env l i->∀j,mE (ff R) (put (fun _=> .no) Δ) s.o nx (bU l j) (s.env (i+j)):=by
  intro l
  induction l with
  |nil=>intro i _ j;rw[g8];simp[mE]
  |cons v l ih=>
   intro i h j
   cases j with
   |zero=>exact h.1
   |succ j=>
    rw[fy]
    have:=ih (i+1) h.2 j
    rwa [show i+1+j=i+(j+1) by omega]at this
 have qj:∀ (ids:List Nat),zX R ids=true->∀i∈ids,∀j∈ids,∀k,ff R i=some k->ff R j=some k->i=j:=by
  intro ids
  induction ids with
  |nil=>intro _ i h;cases h
  |cons x ids ih=>
   intro h i hi j hj k h1 h2
   simp only[zX,Bool.and_eq_true,List.all_eq_true]at h
   rcases List.mem_cons.1 hi with wN|wN<;>rcases List.mem_cons.1 hj with zu|zu
   ·exact wN.trans zu.symm
   ·subst wN
    have:=h.1 j zu
    simp only[Bool.or_eq_true,beq_iff_eq,bne_iff_ne,ne_eq]at this
    rcases this with(e|e)|e
    ·exact e
    ·rw[h1]at e;cases e
    ·exact absurd (h1.trans h2.symm) e
   ·subst zu
    have:=h.1 i wN
    simp only[Bool.or_eq_true,beq_iff_eq,bne_iff_ne,ne_eq]at this
    rcases this with(e|e)|e
    ·exact e.symm
    ·rw[h2]at e;cases e
    ·exact absurd (h2.trans h1.symm) e
   ·exact ih h.2 i wN j zu k h1 h2
 have FQ:∀ (R:List (Nat×Option Nat)),R.all (fun r=>decide (b<=r.1))=true->∀id,id<b->ff R id=some id:=by
  intro R
  induction R with
  |nil=>intro _ id _;rfl
  |cons r R ih=>
   intro h id ag
   obtain⟨i,r⟩:=r
   simp only[List.all_cons,Bool.and_eq_true,decide_eq_true_eq]at h
   unfold ff
   rw[if_neg (by omega)]
   exact ih h.2 id ag
 have ql:∀id,(put (fun _=>aa.no) Δ id).live=true->id∈Δ.map (·.1):=fun id h=>by
  rcases oN id with h'|h'
  ·exact h'
  ·rw[h']at h;cases h
 refine dv.of_map (ff R) (by simpa using h1) (fun id=> ?_) (fun id ag=> ?_) (fun i j k g1 g2 g3 g4=>qj _ h3 i (ql i g1) j (ql j g2) k g3 g4) (fun id ag=>⟨FQ R h4 id ag,fun e' he=> ?_⟩) (fun i=>by simpa using cA l 0 h7 i)
 ·rcases oN id with h|h
  ·exact ny _ h6 id h
  ·unfold ji;simp only[h]
 ·rcases oN id with h|h
  ·have:=List.all_eq_true.1 h2 id h
   simp only[decide_eq_true_eq]at this
   simp only at ag
   omega
  ·exact h
 ·rcases oN id with h|h
  ·have:=Jn _ h5 id h ag
   simp only at he
   rw[he]at this
   cases hs:(s.o id).aL with
   |none=>rw[hs]at this;exact this.elim
   |some e=>rw[hs]at this;exact⟨e,rfl,this⟩
  ·simp only[h]at he;cases he
@[go_sem] theorem Bz (k:Nat):(0<=(k:Int))=True:=by simp
attribute [go_sem] List.getElem?_map List.length_map Int.toNat_natCast
attribute [go_sem] dr List.flatMap_cons List.flatMap_nil
attribute [go_sem] isConst lX y8 lV lW rp lU kB tg y9 oY vo jV jW oW ns nu kC
attribute [go_sem] ft V.refs V.az
attribute [go_sem] uT qG uU CO mE ma ji ff zV List.all_nil List.all_cons Option.some.injEq D.int.injEq D.bool.injEq Nat.zero_add Nat.add_zero
theorem wrap64{n:Int}(h1: -9223372036854775808<=n)(h2:n<=9223372036854775807):IntKind.i64.wrap n=n:=by
 unfold IntKind.wrap
 have e1:((2:Int)^IntKind.i64.bits)=18446744073709551616:=by decide
 have e2:((2:Int)^(IntKind.i64.bits - 1))=9223372036854775808:=by decide
 have e3:IntKind.i64.signed=true:=rfl
 simp only[e1,e2,e3,Bool.true_and,decide_eq_true_eq]
 split<;>omega
end Go.Proofs.YtbmnikpknlkbkaaGreat
namespace Go.Proofs.YtbmnikpknlkbkaaGreat
structure Good (o:Nat->aa) (nx:Nat):Prop where
 fresh:∀id,nx<=id->o id= .no
 refs:∀id,∀r∈(o id).refs,r<nx
theorem Good.nil {nx:Nat}:Good (fun _=> .no) nx:=⟨fun _ _=>rfl,fun id r h=>by cases h⟩
theorem Good.aV {o:Nat->aa}{nx i:Nat}{x:aa}(h:Good o nx)(hi:i<nx)(hx:x.refs.all (fun r=>decide (r<nx))=true):Good (aV o i x) nx:=by
 refine⟨fun id ag=> ?_,fun id r hr=> ?_⟩
 ·rw[aS _ _ _ _ (by omega)];exact h.fresh id ag
 ·by_cases e:id=i
  ·subst e
   rw[aX]at hr
   simpa using List.all_eq_true.1 hx r hr
  ·rw[aS _ _ _ _ e]at hr
   exact h.refs id r hr
theorem Good.mono {o:Nat->aa}{nx m:Nat}(h:Good o nx)(hm:nx<=m):Good o m:=⟨fun id ag=>h.fresh id (by omega),fun id r hr=>Nat.lt_of_lt_of_le (h.refs id r hr) hm⟩
theorem Good.lt {o:Nat->aa}{nx id:Nat}(h:Good o nx)(hn:o id≠ .no):id<nx:=by
 rcases Nat.lt_or_ge id nx with hl|hl
 ·exact hl
 ·exact absurd (h.fresh id hl) hn
theorem V.g9:∀ (l:List V) (i:Nat),∀r∈(bU l i).refs,r∈V.az l
 |[],i,r,h=>by rw[g8]at h;cases h
 |v::l,0,r,h=>by rw[gZ]at h;simp only[V.az,List.mem_append];exact .inl h
 |v::l,i+1,r,h=>by rw[fy]at h;simp only[V.az,List.mem_append];exact .inr (V.g9 l i r h)
theorem dv.back {b:Nat}{s:S}{env:Nat->V}{o:Nat->aa}{nx:Nat}(hb:b<=nx)(hn:nx<=s.nx)(hg:Good o nx)(ho:∀id,id<nx->s.o id=o id)
 (he:∀i,env i= .aE\/(env i=s.env i/\∀r∈(env i).refs,r<nx)):dv b s ⟨env,o,nx⟩:=by
 intro M φ w tm hH hd
 have bq:∀k,bp φ (hp o nx) k->bp φ s.H k:=by
  rintro k ⟨id,h1,h2⟩
  have ag:id<nx:=hg.lt (fun e=>by simp only[hp]at h1;rw[e]at h1;cases h1)
  exact⟨id,by simp only[S.H];rw[ho id ag];exact h1,h2⟩
 have hB:∀k, ¬ad M φ s.H k-> ¬ad M φ (hp o nx) k:=fun k h h'=>h (h'.imp id (bq k))
 have da:∀ (v:V) (val:Value),(∀r∈v.refs,r<nx)->V.den (ad M φ s.H) φ s.H w v val->V.den (ad M φ (hp o nx)) φ (hp o nx) w v val:=fun v val hr h=>
  V.gW (H:=s.H) (H':=hp o nx) hB v val (fun id ag=>⟨(ho id (hr id ag)).symm,rfl,hr id ag⟩) h
 have iG:∀ (v:List V) (val:List Value),(∀r∈V.az v,r<nx)->V.ak (ad M φ s.H) φ s.H w v val->V.ak (ad M φ (hp o nx)) φ (hp o nx) w v val:=fun v val hr h=>
  V.dC (H:=s.H) (H':=hp o nx) hB v val (fun id ag=>⟨(ho id (hr id ag)).symm,rfl,hr id ag⟩) h
 refine⟨φ,⟨fun id=> ?_,fun id hu=>hg.fresh id (by simpa[S.H]using hu),fun i j k h1 h2 h3 h4=> ?_,fun k hk=>hH.ours k (bq k hk),hH.oE⟩,fun i=> ?_,bq,hb,fun id ag hr=> ?_,fun id e' ag dN=> ?_⟩
 ·have aC:=hH.ok id
  have hrefs:=hg.refs id
  unfold aq at aC|-
  by_cases ag:id<nx
  ·have e:s.H.o id=o id:=ho id ag
   rw[e]at aC
   simp only[S.H]at aC|-
   cases hx:o id with
   |no=>trivial
   |row cs=>
    simp only[hx]at aC hrefs|-
    obtain⟨b,bY,ty,k1,k2,k3,k4⟩:=aC
    exact⟨b,bY,ty,k1,k2,iG _ _ hrefs k3,k4⟩
   |arr ep ty sz es=>
    simp only[hx]at aC|-
    obtain⟨k1,xs,k2,evs,k3,k4,k5⟩:=aC
    exact⟨k1,xs,k2,evs,k3,k4,D.aw (fun b _ hn=>⟨rfl,hB b hn⟩) _ _ k5⟩
   |ky ep es=>
    simp only[hx]at aC|-
    exact D.ao (fun b _ hn=>⟨rfl,hB b hn⟩) _ _ aC
   |map kt vt es=>
    simp only[hx]at aC|-
    obtain⟨b,es',clock,k1,k2,k4,k3⟩:=aC
    exact⟨b,es',clock,k1,k2,k4,au.mono (fun b _ hn=>⟨rfl,hB b hn⟩) _ _ k3⟩
   |dT l=>
    simp only[hx]at aC|-
    exact D.ao (fun b _ hn=>⟨rfl,hB b hn⟩) _ _ aC
   |lS l last=>
    simp only[hx]at aC|-
    obtain⟨b,k1,k2⟩:=aC
    exact⟨b,k1,k2.mono (fun b _ hn=>⟨rfl,hB b hn⟩) rfl⟩
   |oB s pos=>
    simp only[hx]at aC|-
    exact aC
   |loop nf n env ps a b st pd=>
    simp only[hx]at aC hrefs|-
    obtain⟨b,r,k1,k2,k3,k4,k5,k6,k7,k8,k9,xV⟩:=aC
    exact⟨b,r,k1,k2,k3,k4,k5,k6,k7,k8,k9,fun i=>da _ _ (fun r hr=>hrefs r (V.g9 _ _ r hr)) (xV i)⟩
  ·simp only[S.H]
   rw[hg.fresh id (by omega)]
   trivial
 ·have hi:i<nx:=hg.lt (fun e=>by simp only[S.H]at h1;rw[e]at h1;cases h1)
  have hj:j<nx:=hg.lt (fun e=>by simp only[S.H]at h2;rw[e]at h2;cases h2)
  exact hH.apart i j k (by simp only[S.H];rw[ho i hi];exact h1) (by simp only[S.H];rw[ho j hj];exact h2) h3 h4
 ·rcases he i with h|⟨h1,h2⟩
  ·simp only[h];trivial
  ·have:=hd i
   rw[<- h1]at this
   exact da _ _ h2 this
 ·have br:id<nx:=by omega
  exact⟨by rw[ho id br];exact hr,rfl⟩
 ·have br:id<nx:=by omega
  exact⟨e',by rw[ho id br];exact dN,Nat.le_refl _,fun _=>rfl⟩
def jR(nx:Nat)(env:Nat->V):List V->Nat->Prop
 |[],_=>True
 |v::l,i=>(v= .aE\/(v=env i/\∀r∈v.refs,r<nx))/\jR nx env l (i+1)
theorem dv.cg {b:Nat}{e:Nat->V}{so:Nat->aa}{m:Nat}(l:List V){o:Nat->aa}{nx:Nat}(hb:b<=nx)(hn:nx<=m)(hg:Good o nx)(ho:∀id,id<nx->so id=o id)(he:jR nx e l 0):dv b ⟨e,so,m⟩ ⟨bU l,o,nx⟩:=by
 refine dv.back hb hn hg ho ?_
 have key:∀ (l:List V) (i:Nat),jR nx e l i->∀j,bU l j= .aE\/(bU l j=e (i+j)/\∀r∈(bU l j).refs,r<nx):=by
  intro l
  induction l with
  |nil=>intro i _ j;rw[g8];exact .inl rfl
  |cons v l ih=>
   intro i h j
   cases j with
   |zero=>rw[gZ];exact h.1
   |succ j=>
    rw[fy]
    have:=ih (i+1) h.2 j
    rwa [show i+1+j=i+(j+1) by omega]at this
 intro i
 have:=key l 0 he i
 rwa [Nat.zero_add]at this
theorem aG{nx:Nat}{env:Nat->V}{i:Nat}:jR nx env [] i:=trivial
theorem aD{nx:Nat}{env:Nat->V}{l:List V}{i:Nat}(h:jR nx env l (i+1)):jR nx env (.aE::l) i:=⟨.inl rfl,h⟩
theorem ay{nx:Nat}{env:Nat->V}{l:List V}{i:Nat}{x:D}(he:env i= .d x)(h:jR nx env l (i+1)):jR nx env (.d x::l) i:=⟨.inr ⟨he.symm,fun r hr=>by simp[V.refs]at hr⟩,h⟩
theorem aZ{nx:Nat}{env:Nat->V}{l:List V}{i:Nat}{v:V}(he:env i=v)(hr:∀r∈v.refs,r<nx)(h:jR nx env l (i+1)):jR nx env (v::l) i:=⟨.inr ⟨he.symm,hr⟩,h⟩
theorem bQ{k:Nat}(h:(k:Int)+1<=9223372036854775807):IntKind.i64.wrap ((k:Int)+1)=((k+1:Nat):Int):=by rw[wrap64 (by omega) h];rfl
theorem bR{k:IntKind}{a b:Int}(h:a=b):V.d (D.int k a)=V.d (D.int k b):=by rw[h]
end Go.Proofs.YtbmnikpknlkbkaaGreat
namespace Go.Proofs.YtbmnikpknlkbkaaGreat
abbrev D.i (n:Int):D:= .int .i64 n
structure EC where
 name:List UInt8
 args:Int
structure zZ where
 cons:List EC
 CP:List EC
inductive Tm where
 |mk (op n:Int) (kids:List Tm)
 deriving Inhabited
structure TB where
 var:Int
 term:Tm
def Tm.op:Tm->Int| .mk op _ _=>op
def Tm.n:Tm->Int| .mk _ n _=>n
def Tm.kids:Tm->List Tm| .mk _ _ l=>l
theorem Tm.ind {P:Tm->Prop}(h:∀op n kids,(∀k∈kids,P k)->P (.mk op n kids)):∀t,P t:=
 fun t=>Tm.rec (motive_1:=P) (motive_2:=fun l=>∀k∈l,P k) (fun op n kids ih=>h op n kids ih) (fun _ h=>by cases h)
  (fun x l hx hl k hk=>(List.mem_cons.1 hk).elim (fun e=>e ▸ hx) (hl k)) t
mutual
def Tm.d:Tm->D
 | .mk op n kids=> .agg [.i op, .i n, .sl (Tm.ds kids)]
def Tm.ds:List Tm->List D
 |[]=>[]
 |t::l=>t.d::Tm.ds l
end
theorem Tm.xW:∀l:List Tm,Tm.ds l=l.map Tm.d
 |[]=>rfl
 |t::l=>by simp[Tm.ds,Tm.xW l]
theorem Tm.FR (t:Tm):t.d= .agg [.i t.op, .i t.n, .sl (t.kids.map Tm.d)]:=by cases t;simp[Tm.d,Tm.xW,Tm.op,Tm.n,Tm.kids]
@[go_sem] theorem Tm.Jo (t:Tm):D.agg [.i t.op, .i t.n, .sl (t.kids.map Tm.d)]=t.d:=(Tm.FR t).symm
@[go_sem] theorem Tm.HP (t:Tm):D.cells t.d=[.i t.op, .i t.n, .sl (t.kids.map Tm.d)]:=by rw[Tm.FR];rfl
@[reducible] def EC.d (x:EC):D:= .agg [.str x.name, .i x.args]
@[reducible] def zZ.d (s:zZ):D:= .agg [.sl (s.cons.map EC.d), .sl (s.CP.map EC.d)]
@[reducible] def TB.d (b:TB):D:= .agg [.i b.var, .i b.term.op, .i b.term.n, .sl (b.term.kids.map Tm.d)]
mutual
def Tm.z6:Tm->Nat
 | .mk _ _ kids=>1+Tm.FT kids
def Tm.FT:List Tm->Nat
 |[]=>0
 |k::l=>Nat.max k.z6 (Tm.FT l)
end
mutual
def pre:Tm->Int->List (Tm×Int)
 | .mk op n kids,d=>(.mk op n kids,d)::FU kids (d+1)
def FU:List Tm->Int->List (Tm×Int)
 |[],_=>[]
 |k::l,d=>pre k d++FU l d
end
end Go.Proofs.YtbmnikpknlkbkaaGreat
namespace Go.Proofs.YtbmnikpknlkbkaaGreat
structure bO where
 f:Int
 t:Int
 l:Bool
@[reducible] def bO.d (a:bO):D:= .agg [.i a.f, .i a.t, .bool a.l]
def bO.k (a:bO):Nat:=(a.f*4+a.t).toNat
def bO.v (a:bO):Int:=if a.l=true then 2 else 1
def bO.wk (a:bO):Prop:=0<=a.f/\a.f<4/\0<=a.t/\a.t<4
def gG:List bO->Int->List Int->Option (List Int)
 |[],_,m=>some m
 |a::l,last,m=>if a.f<0\/4<=a.f\/a.t<0\/4<=a.t\/a.f*4+a.t<=last then none else gG l (a.f*4+a.t) (m.set a.k a.v)
def sF:List Int:=[0,0,0,0,0,0,0,0,0,0,0,0,0,0,0,0]
def hO:Int->List bO->Prop
 |_,[]=>True
 |last,a::l=>a.wk/\last<a.f*4+a.t/\hO (a.f*4+a.t) l
theorem jj:∀ (l:List bO) (last:Int) (m:List Int),(gG l last m).isSome=true↔hO last l
 |[],_,_=>by simp[gG,hO]
 |a::l,last,m=>by
  have ih:=jj l (a.f*4+a.t) (m.set a.k a.v)
  unfold gG hO bO.wk
  split
  ·rename_i h
   simp only[Option.isSome_none,Bool.false_eq_true,false_iff]
   rintro⟨⟨h1,h2,h3,h4⟩,h5,_⟩
   omega
  ·rename_i h
   rw[ih]
   constructor
   ·intro h2;exact⟨by omega,by omega,h2⟩
   ·intro h2;exact h2.2.2
def dK:List bO->Bool
 |[]=>true
 |[a]=>decide (0<=a.f/\a.f<=3)&&decide (0<=a.t/\a.t<=3)
 |a::b::l=>decide (0<=a.f/\a.f<=3)&&decide (0<=a.t/\a.t<=3)&& !(decide (b.f<a.f)||(b.f==a.f&&decide (b.t<=a.t)))&&dK (b::l)
theorem fA:∀ (l:List bO) (last:Int),hO last l->∀a∈l,a.wk/\last<a.f*4+a.t
 |[],_,_,a,h=>by cases h
 |b::l,last,hs,a,h=>by
  obtain⟨h1,h2,h3⟩:=hs
  rcases List.mem_cons.1 h with rfl|h
  ·exact⟨h1,h2⟩
  ·have:=fA l _ h3 a h
   exact⟨this.1,by omega⟩
theorem uV:∀ (l:List bO) (last:Int) (m m':List Int),m.length=16->gG l last m=some m'->m'.length=16/\∀p,p<16->m'[p]? =(match l.find? (fun a=>a.k==p)with|some a=>some a.v|none=>m[p]?)
 |[],_,m,m',hm,h=>by simp only[gG,Option.some.injEq]at h;subst h;exact⟨hm,fun p _=>rfl⟩
 |a::l,last,m,m',hm,h=>by
  have hs:hO last (a::l):=(jj _ _ m).1 (by rw[h];rfl)
  obtain⟨h1,h2,h3⟩:=hs
  unfold gG at h
  rw[if_neg (by unfold bO.wk at h1;omega)]at h
  obtain⟨e1,e2⟩:=uV l _ _ m' (by simpa using hm) h
  refine⟨e1,fun p hp=> ?_⟩
  rw[e2 p hp,List.find?_cons]
  by_cases e:a.k=p
  ·have e':(a.k==p)=true:=by simpa using e
   rw[e']
   have:l.find? (fun a=>a.k==p)=none:=by
    rw[List.find?_eq_none]
    intro b hb
    have h4:=fA l _ h3 b hb
    have h5:=h4.1
    unfold bO.wk at h1 h5
    simp only[beq_iff_eq]
    unfold bO.k at e|-
    omega
   rw[this]
   simp only
   rw[List.getElem?_set,if_pos e,if_pos (by rw[hm];omega)]
  ·have e':(a.k==p)=false:=by simpa using e
   rw[e']
   simp only
   cases l.find? (fun a=>a.k==p)with
   |some b=>rfl
   |none=>
    simp only
    rw[List.getElem?_set,if_neg e]
def oS(a b:List Int)(i j:Nat)(acc:Int)(k:Nat):Int:=
 if a.getD (i*4+k) 0≠0/\b.getD (k*4+j) 0≠0 then max (max acc (a.getD (i*4+k) 0)) (b.getD (k*4+j) 0)else acc
def dL(a b:List Int)(i j:Nat)(n:Nat):Int:=(List.range n).foldl (oS a b i j) 0
def jI(a b:List bO)(i j:Int):Bool×Bool:=
 (a.any fun x=>b.any fun y=>x.f==i&&x.t==y.f&&y.t==j,a.any fun x=>b.any fun y=>(x.f==i&&x.t==y.f&&y.t==j)&&(x.l||y.l))
def xX(l:List bO)(m:List Int):Prop:=∀i k:Nat,i<4->k<4->(m.getD (i*4+k) 0≠0↔∃x∈l,x.f=i/\x.t=k)/\(m.getD (i*4+k) 0=2↔∃x∈l,x.f=i/\x.t=k/\x.l=true)/\0<=m.getD (i*4+k) 0/\m.getD (i*4+k) 0<=2
theorem nb{l:List bO}{m:List Int}(h:gG l (-1) sF=some m):m.length=16/\xX l m:=by
 have hs:hO (-1) l:=(jj _ _ sF).1 (by rw[h];rfl)
 obtain⟨e1,e2⟩:=uV l _ _ m rfl h
 refine⟨e1,fun i k hi hk=> ?_⟩
 have hp:i*4+k<16:=by omega
 have e3:=e2 _ hp
 have z0:sF[i*4+k]? =some 0:=by
  have:∀p,p<16->sF[p]? =some 0:=by decide
  exact this _ hp
 have key:∀x∈l,(x.k=i*4+k↔x.f=i/\x.t=k):=fun x hx=>by
  have h1:=(fA l _ hs x hx).1
  unfold bO.wk at h1
  unfold bO.k
  omega
 rw[List.getD_eq_getElem?_getD,e3]
 cases hf:l.find? (fun a=>a.k==i*4+k)with
 |some x=>
  have hx:=List.mem_of_find?_eq_some hf
  have BU:=List.find?_some hf
  simp only[beq_iff_eq]at BU
  have DP:=(key x hx).1 BU
  simp only[Option.getD_some]
  unfold bO.v
  have uniq:∀y∈l,y.f=i/\y.t=k->y.l=x.l:=by
   intro y hy Pr
   have:∀ (l:List bO) (last:Int),hO last l->∀x∈l,∀y∈l,x.f=y.f->x.t=y.t->y=x:=by
    intro l
    induction l with
    |nil=>intro _ _ x hx;cases hx
    |cons a l ih=>
     intro last hs x hx y hy h1 h2
     obtain⟨g1,g2,g3⟩:=hs
     rcases List.mem_cons.1 hx with e1|gO
     ·rcases List.mem_cons.1 hy with e2|vY
      ·rw[e1,e2]
      ·have:=(fA l _ g3 y vY).2;rw[<- e1]at this;omega
     ·rcases List.mem_cons.1 hy with e2|vY
      ·have:=(fA l _ g3 x gO).2;rw[<- e2]at this;omega
      ·exact ih _ g3 x gO y vY h1 h2
   rw[this l _ hs x hx y hy (by omega) (by omega)]
  refine⟨⟨fun _=>⟨x,hx,DP.1,DP.2⟩,fun _=>by split<;>decide⟩,⟨fun h=>⟨x,hx,DP.1,DP.2, ?_⟩,fun h=> ?_⟩,by split<;>decide,by split<;>decide⟩
  ·cases hl:x.l with
   |true=>rfl
   |false=>rw[hl]at h;simp at h
  ·obtain⟨y,hy,h1,h2,h3⟩:=h
   rw[<- uniq y hy ⟨h1,h2⟩,h3];rfl
 |none=>
  rw[List.find?_eq_none]at hf
  simp only[z0,Option.getD_some]
  refine⟨⟨fun h=>absurd rfl h,fun⟨x,hx,h⟩=>absurd ((key x hx).2 h) (by simpa using hf x hx)⟩,⟨(fun h=>by cases h),fun⟨x,hx,h1,h2,_⟩=>absurd ((key x hx).2 ⟨h1,h2⟩) (by simpa using hf x hx)⟩,by decide,by decide⟩
theorem z7{a b:List bO}{m n:List Int}(hm:xX a m)(hn:xX b n)(ha:∀x∈a,x.wk)(i j:Nat)(hi:i<4)(hj:j<4):
 (dL m n i j 4≠0↔(jI a b i j).1=true)/\(dL m n i j 4=2↔(jI a b i j).2=true)/\0<=dL m n i j 4/\dL m n i j 4<=2:=by
 have key:∀q,q<=4->(dL m n i j q≠0↔∃k:Nat,k<q/\(∃x∈a,x.f=i/\x.t=k)/\∃y∈b,y.f=k/\y.t=j)/\(dL m n i j q=2↔∃k:Nat,k<q/\∃x∈a,∃y∈b,x.f=i/\x.t=k/\y.f=k/\y.t=j/\(x.l||y.l)=true)/\0<=dL m n i j q/\dL m n i j q<=2:=by
  intro q
  induction q with
  |zero=>intro _;simp[dL]
  |succ q ih=>
   intro hq
   obtain⟨i1,i2,i3,i4⟩:=ih (by omega)
   have e:dL m n i j (q+1)=oS m n i j (dL m n i j q) q:=by
    unfold dL;rw[List.range_succ,List.foldl_append];rfl
   obtain⟨a1,a2,a3,a4⟩:=hm i q hi (by omega)
   obtain⟨b1,b2,b3,b4⟩:=hn q j (by omega) hj
   rw[e]
   unfold oS
   by_cases h:m.getD (i*4+q) 0≠0/\n.getD (q*4+j) 0≠0
   ·rw[if_pos h]
    obtain⟨x,hx,x1,x2⟩:=a1.1 h.1
    obtain⟨y,hy,y1,y2⟩:=b1.1 h.2
    refine⟨⟨fun _=>⟨q,by omega,⟨x,hx,x1,x2⟩,y,hy,y1,y2⟩,fun _=>by omega⟩,⟨fun h2=> ?_,fun h2=> ?_⟩,by omega,by omega⟩
    ·rcases(by omega:dL m n i j q=2\/m.getD (i*4+q) 0=2\/n.getD (q*4+j) 0=2)with g|g|g
     ·obtain⟨k,k1,k2⟩:=i2.1 g
      exact⟨k,by omega,k2⟩
     ·obtain⟨x',gO,z1,z2,z3⟩:=a2.1 g
      exact⟨q,by omega,x',gO,y,hy,z1,z2,y1,y2,by rw[z3];rfl⟩
     ·obtain⟨y',vY,z1,z2,z3⟩:=b2.1 g
      exact⟨q,by omega,x,hx,y',vY,x1,x2,z1,z2,by rw[z3];simp⟩
    ·obtain⟨k,k1,x',gO,y',vY,z1,z2,z3,z4,z5⟩:=h2
     rcases(by omega:k<q\/k=q)with g|g
     ·have:=i2.2 ⟨k,g,x',gO,y',vY,z1,z2,z3,z4,z5⟩
      omega
     ·subst g
      rw[Bool.or_eq_true]at z5
      rcases z5 with z5|z5
      ·have:=a2.2 ⟨x',gO,z1,z2,z5⟩;omega
      ·have:=b2.2 ⟨y',vY,z3,z4,z5⟩;omega
   ·rw[if_neg h]
    refine⟨⟨fun h2=> ?_,fun h2=> ?_⟩,⟨fun h2=> ?_,fun h2=> ?_⟩,i3,i4⟩
    ·obtain⟨k,k1,k2⟩:=i1.1 h2
     exact⟨k,by omega,k2⟩
    ·obtain⟨k,k1,k2,k3⟩:=h2
     rcases(by omega:k<q\/k=q)with g|g
     ·exact i1.2 ⟨k,g,k2,k3⟩
     ·subst g;exact absurd ⟨a1.2 k2,b1.2 k3⟩ h
    ·obtain⟨k,k1,k2⟩:=i2.1 h2
     exact⟨k,by omega,k2⟩
    ·obtain⟨k,k1,x',gO,y',vY,z1,z2,z3,z4,z5⟩:=h2
     rcases(by omega:k<q\/k=q)with g|g
     ·exact i2.2 ⟨k,g,x',gO,y',vY,z1,z2,z3,z4,z5⟩
     ·subst g;exact absurd ⟨a1.2 ⟨x',gO,z1,z2⟩,b1.2 ⟨y',vY,z3,z4⟩⟩ h
 obtain⟨k1,k2,k3,k4⟩:=key 4 (Nat.le_refl _)
 refine⟨k1.trans ?_,k2.trans ?_,k3,k4⟩
 ·simp only[jI,List.any_eq_true,Bool.and_eq_true,beq_iff_eq]
  constructor
  ·rintro⟨k,_,⟨x,hx,x1,x2⟩,y,hy,y1,y2⟩
   exact⟨x,hx,y,hy,⟨x1,by omega⟩,y2⟩
  ·rintro⟨x,hx,y,hy,⟨x1,x2⟩,y2⟩
   have h1:=ha x hx
   unfold bO.wk at h1
   exact⟨x.t.toNat,by omega,⟨x,hx,x1,by omega⟩,y,hy,by omega,y2⟩
 ·simp only[jI,List.any_eq_true,Bool.and_eq_true,beq_iff_eq]
  constructor
  ·rintro⟨k,_,x,hx,y,hy,x1,x2,y1,y2,h5⟩
   exact⟨x,hx,y,hy,⟨⟨x1,by omega⟩,y2⟩,h5⟩
  ·rintro⟨x,hx,y,hy,⟨⟨x1,x2⟩,y2⟩,h5⟩
   have h1:=ha x hx
   unfold bO.wk at h1
   exact⟨x.t.toNat,by omega,x,hx,y,hy,x1,by omega,by omega,y2,h5⟩
def qH(m n:List Int):List Int:=(List.range 16).map fun p=>dL m n (p/4) (p%4) 4
def m4(m:List Int)(q:Nat):List bO:=(List.range q).filterMap fun p=>if m.getD p 0≠0 then some ⟨(p/4:Nat),(p%4:Nat),m.getD p 0==2⟩else none
def kn(a b:List bO)(q:Nat):List bO:=(List.range q).filterMap fun p=>if(jI a b (p/4:Nat) (p%4:Nat)).1=true then some ⟨(p/4:Nat),(p%4:Nat),(jI a b (p/4:Nat) (p%4:Nat)).2⟩else none
theorem sG{α β:Type}{f g:α->Option β}:∀ {l:List α},(∀x∈l,f x=g x)->l.filterMap f=l.filterMap g
 |[],_=>rfl
 |x::l,h=>by
  have ih:=sG (l:=l) fun y hy=>h y (by simp[hy])
  rw[List.filterMap_cons,List.filterMap_cons,h x (by simp),ih]
theorem xY{a b:List bO}{m n:List Int}(h1:gG a (-1) sF=some m)(h2:gG b (-1) sF=some n):m4 (qH m n) 16=kn a b 16:=by
 obtain⟨_,hm⟩:=nb h1
 obtain⟨_,hn⟩:=nb h2
 have ha:∀x∈a,x.wk:=fun x hx=>(fA a (-1) ((jj _ _ sF).1 (by rw[h1];rfl)) x hx).1
 unfold m4 kn
 refine sG fun p hp=> ?_
 have hp:p<16:=by simpa using hp
 have e:(qH m n).getD p 0=dL m n (p/4) (p%4) 4:=by
  unfold qH
  rw[List.getD_eq_getElem?_getD,List.getElem?_map,List.getElem?_range hp];rfl
 obtain⟨k1,k2,k3,k4⟩:=z7 hm hn ha (p/4) (p%4) (by omega) (by omega)
 rw[e]
 by_cases h:dL m n (p/4) (p%4) 4≠0
 ·rw[if_pos h,if_pos (k1.1 h)]
  have:(dL m n (p/4) (p%4) 4==2)=(jI a b (p/4:Nat) (p%4:Nat)).2:=by
   rw[Bool.eq_iff_iff,beq_iff_eq];exact k2
  rw[this]
 ·rw[if_neg h,if_neg (fun h2=>h (k1.2 h2))]
def fV(m n:List Int)(i k j:Nat):List Int:=(List.range 16).map fun p=>if p/4<i then dL m n (p/4) (p%4) 4 else if p/4=i then dL m n (p/4) (p%4) (if p%4<j then k+1 else k)else 0
theorem dM(m n:List Int)(i k j:Nat):(fV m n i k j).length=16:=by simp[fV]
theorem fO(m n:List Int)(i k j p:Nat)(hp:p<16):(fV m n i k j)[p]? =some (if p/4<i then dL m n (p/4) (p%4) 4 else if p/4=i then dL m n (p/4) (p%4) (if p%4<j then k+1 else k)else 0):=by
 unfold fV;rw[List.getElem?_map,List.getElem?_range hp];rfl
theorem lC{l l':List Int}(h1:l.length=16)(h2:l'.length=16)(h:∀p,p<16->l[p]? =l'[p]?):l=l':=by
 apply List.ext_getElem?
 intro p
 by_cases hp:p<16
 ·exact h p hp
 ·rw[List.getElem?_eq_none (by omega),List.getElem?_eq_none (by omega)]
theorem outS_0(m n:List Int):fV m n 0 0 0=sF:=by rfl
theorem CQ(m n:List Int)(i k:Nat):fV m n i k 4=fV m n i (k+1) 0:=by
 refine lC (dM ..) (dM ..) fun p hp=> ?_
 rw[fO _ _ _ _ _ _ hp,fO _ _ _ _ _ _ hp,if_pos (Nat.mod_lt p (by omega)),if_neg (Nat.not_lt_zero _)]
theorem CS(m n:List Int)(i:Nat):fV m n i 4 0=fV m n (i+1) 0 0:=by
 refine lC (dM ..) (dM ..) fun p hp=> ?_
 rw[fO _ _ _ _ _ _ hp,fO _ _ _ _ _ _ hp,if_neg (Nat.not_lt_zero _)]
 by_cases h1:p/4<i
 ·rw[if_pos h1,if_pos (by omega)]
 ·rw[if_neg h1]
  by_cases h2:p/4=i
  ·rw[if_pos h2,if_pos (by omega)]
  ·rw[if_neg h2,if_neg (by omega)]
   split<;>rfl
theorem CT(m n:List Int):fV m n 4 0 0=qH m n:=by
 unfold fV qH
 apply List.map_congr_left
 intro p hp
 have hp:p<16:=by simpa using hp
 rw[if_pos (by omega)]
theorem xZ(m n:List Int)(i j k:Nat):dL m n i j (k+1)=oS m n i j (dL m n i j k) k:=by
 unfold dL;rw[List.range_succ,List.foldl_append];rfl
theorem uW(m n:List Int)(i k j:Nat)(hi:i<4)(hj:j<4):(fV m n i k j)[i*4+j]? =some (dL m n i j k):=by
 rw[fO _ _ _ _ _ _ (by omega)]
 have e1:(i*4+j)/4=i:=by omega
 have e2:(i*4+j)%4=j:=by omega
 rw[e1,e2,if_neg (Nat.lt_irrefl _),if_pos rfl,if_neg (Nat.lt_irrefl _)]
theorem wm(m n:List Int)(i k j:Nat)(hi:i<4)(hj:j<4):fV m n i k (j+1)=(fV m n i k j).set (i*4+j) (oS m n i j (dL m n i j k) k):=by
 refine lC (dM ..) (by rw[List.length_set];exact dM ..) fun p hp=> ?_
 rw[List.getElem?_set,fO _ _ _ _ _ _ hp]
 by_cases h:i*4+j=p
 ·rw[if_pos h,if_pos (show i*4+j<(fV m n i k j).length by rw[dM];omega)]
  have e1:p/4=i:=by omega
  have e2:p%4=j:=by omega
  rw[e1,e2,if_neg (Nat.lt_irrefl _),if_pos rfl,if_pos (by omega),xZ]
 ·rw[if_neg h,fO _ _ _ _ _ _ hp]
  by_cases h1:p/4=i
  ·by_cases h2:p%4<j
   ·rw[if_pos (by omega:p%4<j+1),if_pos h2]
   ·rw[if_neg (by omega: ¬p%4<j+1),if_neg h2]
  ·rw[if_neg h1,if_neg h1]
theorem x3(m:List Int)(q:Nat):m4 m (q+1)=m4 m q++(if m.getD q 0≠0 then [⟨(q/4:Nat),(q%4:Nat),m.getD q 0==2⟩]else []):=by
 unfold m4
 rw[List.range_succ,List.filterMap_append]
 congr 1
 by_cases h:m.getD q 0≠0
 ·rw[if_pos h];simp only[List.filterMap_cons,if_pos h,List.filterMap_nil]
 ·rw[if_neg h];simp only[List.filterMap_cons,if_neg h,List.filterMap_nil]
theorem x4(a b:List bO)(q:Nat):kn a b (q+1)=kn a b q++(if(jI a b (q/4:Nat) (q%4:Nat)).1=true then [⟨(q/4:Nat),(q%4:Nat),(jI a b (q/4:Nat) (q%4:Nat)).2⟩]else []):=by
 unfold kn
 rw[List.range_succ,List.filterMap_append]
 congr 1
 by_cases h:(jI a b (q/4:Nat) (q%4:Nat)).1=true
 ·rw[if_pos h];simp only[List.filterMap_cons,if_pos h,List.filterMap_nil]
 ·rw[if_neg h];simp only[List.filterMap_cons,if_neg h,List.filterMap_nil]
theorem z8(m:List Int)(q:Nat):(m4 m q).length<=q:=by
 unfold m4
 have:=List.length_filterMap_le (fun p=>if m.getD p 0≠0 then some (⟨(p/4:Nat),(p%4:Nat),m.getD p 0==2⟩:bO)else none) (List.range q)
 simpa using this
theorem pL:∀ (l:List bO) (last:Int),(∀a,l.head?=some a->last<a.f*4+a.t)->(dK l=true↔hO last l)
 |[],_,_=>by simp[dK,hO]
 |[a],last,h=>by
  have h1:=h a rfl
  simp only[dK,hO,bO.wk,Bool.and_eq_true,decide_eq_true_eq,and_true]
  omega
 |a::b::l,last,h=>by
  have h1:=h a rfl
  unfold dK hO
  by_cases h2:a.f*4+a.t<b.f*4+b.t
  ·have ih:=pL (b::l) (a.f*4+a.t) (fun x hx=>by simp at hx;subst hx;exact h2)
   simp only[Bool.and_eq_true,decide_eq_true_eq,Bool.not_eq_true',Bool.or_eq_false_iff,decide_eq_false_iff_not,Bool.and_eq_false_iff,beq_eq_false_iff_ne]
   rw[ih]
   unfold bO.wk
   constructor
   ·rintro⟨⟨⟨g1,g2⟩,g3⟩,g4⟩;exact⟨by omega,h1,g4⟩
   ·rintro⟨g1,g2,g3⟩
    have g4:=g3.1
    unfold bO.wk at g4
    refine⟨⟨⟨by omega,by omega⟩,by omega, ?_⟩,g3⟩
    by_cases g5:b.f=a.f
    ·exact .inr (by omega)
    ·exact .inl g5
  ·constructor
   ·intro h3
    exfalso
    simp only[Bool.and_eq_true,decide_eq_true_eq,Bool.not_eq_true',Bool.or_eq_false_iff,decide_eq_false_iff_not,Bool.and_eq_false_iff,beq_eq_false_iff_ne]at h3
    obtain⟨⟨⟨g1,g2⟩,g3,g4⟩,g5⟩:=h3
    have g6:0<=b.t/\b.t<=3:=by
     cases l with
     |nil=>simp only[dK,Bool.and_eq_true,decide_eq_true_eq]at g5;exact g5.2
     |cons c l=>simp only[dK,Bool.and_eq_true,decide_eq_true_eq]at g5;exact g5.1.1.2
    rcases g4 with g4|g4<;>omega
   ·rintro⟨_,_,_,g,_⟩;omega
theorem qI(l:List bO):dK l=(gG l (-1) sF).isSome:=by
 rw[Bool.eq_iff_iff,jj]
 cases l with
 |nil=>simp[dK,hO]
 |cons a l=>
  by_cases h:(-1:Int)<a.f*4+a.t
  ·exact pL (a::l) (-1) (fun x hx=>by simp at hx;subst hx;exact h)
  ·constructor
   ·intro h3
    exfalso
    have:0<=a.f/\0<=a.t:=by
     cases l with
     |nil=>simp only[dK,Bool.and_eq_true,decide_eq_true_eq]at h3;omega
     |cons c l=>simp only[dK,Bool.and_eq_true,decide_eq_true_eq]at h3;omega
    omega
   ·rintro⟨_,g,_⟩;omega
end Go.Proofs.YtbmnikpknlkbkaaGreat
namespace Go.Proofs.YtbmnikpknlkbkaaGreat
def ua(id:Nat)(K X:V->(Nat->aa)->Nat->Prop)(e:eY)(s:S):Prop:=
 match e with
 | .normal=>∃nf m en p c d st pd,s.o id= .loop nf m en p c d st pd/\K (.d (.bool true)) (aV s.o id (.loop nf m en p c d .ready none)) s.nx
 | .ret=>∃nf m en p c d st pd,s.o id= .loop nf m en p c d st pd/\K (.d (.bool false)) (aV s.o id (.loop nf m en p c d .done (some .ret))) s.nx
 | .exit j=>∃nf m en p c d st pd,s.o id= .loop nf m en p c d st pd/\K (.d (.bool false)) (aV s.o id (.loop nf m en p c d .done (some (.exit j)))) s.nx
 | .ba v=>X v s.o s.nx
def CU(P:Program)(n b id:Nat)(fW:IC)(K X:V->(Nat->aa)->Nat->Prop)(e:eY)(s:S):Prop:=
 match e with
 | .normal=>∃nf m en p c d pd,s.o id= .loop nf m en p c d .ready pd/\m9 P n b true fW (ua id K X) ⟨s.env,aV s.o id (.loop nf m en p c d .busy pd),s.nx⟩
 | .ba v=>X v s.o s.nx
 |_=>False
section
variable {P:Program}{M:Nat->Prop}{φ bN:Place}{H0:Hp}{w w0:World}{n:Nat}{s:S}{a:Act}{cx:Cx}
theorem sH{id:Nat}{x:aa}{s:S}(br:id<s.nx)(j:Nat)(hu:(s.H.put [(id,x)]).us j):j<s.nx:=by
 simp only[cO]at hu
 rcases hu with hu|hu
 ·exact hu
 ·subst hu;exact br
theorem n6{B:Nat->Prop}{H:Hp}{n:Nat}:∀ (ps:List Nat) (vs:List V) (us:List Value) (env:Nat->V) (tmps:Array Value),tmps.size=n->ps.length=vs.length->V.ak B φ H w vs us->ps.all (fun t=>decide (t<n))=true->(∀i,V.den B φ H w (env i) (tmps.getD i undef))->
 ((ps.zip us).foldl (fun tmps p=>tmps.setIfInBounds p.1 p.2) tmps).size=n/\∀i,V.den B φ H w (tX env ps vs i) (((ps.zip us).foldl (fun tmps p=>tmps.setIfInBounds p.1 p.2) tmps).getD i undef)
 |[],[],us,env,tmps,cK,_,hd,_,he=>by simp only[V.ak]at hd;subst hd;exact⟨cK,he⟩
 |[],v::vs,us,env,tmps,_,h,_,_,_=>by simp at h
 |t::ps,[],us,env,tmps,_,h,_,_,_=>by simp at h
 |t::ps,v::vs,us,env,tmps,cK,hl,hd,hp,he=>by
  obtain⟨u,us,rfl,h1,h2⟩:=hd
  simp only[List.all_cons,Bool.and_eq_true,decide_eq_true_eq]at hp
  simp only[List.zip_cons_cons,List.foldl_cons,tX]
  refine n6 ps vs us (aV env t v) (tmps.setIfInBounds t u) (by simp[cK]) (by simpa using hl) h2 hp.2 (fun i=> ?_)
  simp only[ax]
  by_cases hi:i=t
  ·subst hi
   have:(tmps.setIfInBounds i u).getD i undef=u:=by simp[Array.getD,cK,hp.1]
   rw[if_pos rfl,this];exact h1
  ·have:(tmps.setIfInBounds t u).getD i undef=tmps.getD i undef:=by
    simp only[Array.getD_eq_getD_getElem?]
    rw[Array.getElem?_setIfInBounds_ne (Ne.symm hi)]
   rw[if_neg hi,this];exact he i
theorem dF.n3 (aO:P.follows .mixedOrders=true){id:Nat}{args:List V}{o:Nat->aa}{nx:Nat}{K X:V->(Nat->aa)->Nat->Prop}{env:List V}{ps:List Nat}{jE fW:IC}{st:LoopState}{pd:Option kq}
 (ho:o id= .loop P.funcs.size n env ps jE fW st pd) (br:id<nx) (FV:ps.all (fun t=>decide (t<n))=true) (hl:args.length=ps.length)
 (h:m9 P n nx true jE (CU P n nx id fW K X) ⟨tX (bU env) ps args,o,nx⟩):dF P id args o nx K X:=by
 refine⟨by rw[ho];rfl,fun M φ w vals b hH hd cz=> ?_⟩
 have a8:=hH.ok id
 simp only[aq,hp,ho]at a8
 obtain⟨b',r,h1,h2,h0,h3,h4,h5,h6,h7,h8,h9⟩:=a8
 rw[cz]at h1;simp at h1;subst h1
 have hlen:=V.aj _ _ hd
 have cK:vals.size=r.params.size:=by
  have:r.params.toList.length=ps.length:=by rw[h5]
  simp at hlen this;omega
 let tm:Array Value:=(ps.zip vals.toList).foldl (fun tmps p=>tmps.setIfInBounds p.1 p.2) r.tmps
 have FW:(r.params.zip vals).foldl (fun tmps (p:Tmp×Value)=>tmps.setIfInBounds p.1 p.2) r.tmps=tm:=by
  rw[<- Array.foldl_toList,Array.toList_zip,h5]
 obtain⟨p1,p2⟩:=n6 (B:=ad M φ (hp o nx)) (H:=hp o nx) (φ:=φ) (w:=w) ps args vals.toList (bU env) r.tmps h6 hl.symm hd FV h9
 refine⟨r.fn,tm,r.assign,r.body, ?_,fun k=> ?_⟩
 ·simp only[Instr.yield,Sem.run_bind,gv h2,Result.andThen_ok,cK,ne_eq,not_true_eq_false,if_false,Sem.run_pure]
  rw[<- FW]
 ·
   let s0:S:=⟨tX (bU env) ps args,o,nx⟩
   let a0:Act:={tmps:=tm,defers:=[]}
   have zC:bw M φ (hp o nx) w n ⟨[],true⟩ φ s0 a0 w:=⟨hH,Trans.refl _ _ _,p1,⟨[],rfl,List.nodup_nil,fun _=>rfl,fun r hr=>by cases hr⟩,p2⟩
   have n7:∀ {ai s' a' w'},bw M φ (hp o nx) w n ⟨[],true⟩ ai s' a' w'->a'.defers=[]:=by
    intro ai s' a' w' hs
    obtain⟨ms,g1,_,g3,_⟩:=hs.defers
    rw[g3 rfl]at g1;exact g1
   have FX:∀ {ai s' a' w'} {nf m:Nat} {en:List V} {p:List Nat} {c d:IC} {st:LoopState} {pd:Option kq} (st':LoopState) (pd':Option kq),bw M φ (hp o nx) w n ⟨[],true⟩ ai s' a' w'->s'.o id= .loop nf m en p c d st pd->
    ∃r',w'.heap[b]? =some (.loop r')/\r'.state=st/\r'.pending=pd.map kq.code/\
     bw M φ (hp o nx) w n ⟨[],true⟩ ai ⟨s'.env,aV s'.o id (.loop nf m en p c d st' pd'),s'.nx⟩ a' {w' with heap:=w'.heap.setIfInBounds b (.loop {r' with state:=st',pending:=pd'.map kq.code})}:=by
    intro ai s' a' w' nf m en p c d st pd st' pd' hs gI
    have B5:ai id= .pointer (some ⟨b,0,none⟩):=by
     have:=(hs.tr.rel.row id br (by show(s'.o id).bc=true;rw[gI];rfl)).2
     rw[this];exact cz
    have FY:id<s'.nx:=hs.tr.rel.us id br
    obtain⟨r',r1,r2,r3,r4,r5⟩:=pv (st':=st') (pd':=pd') hs.heap FY (show s'.H.o id=_ from gI) B5
    exact⟨r',r1,r2,r3,cT hs r4 r5 rfl (sH FY)⟩
   have ha:=eO (P:=P) (n:=n) (b:=nx) (rd:=true) aO r.assign _ _ s0 (fun _ _ h=>h) (by rw[h7];exact h)
   refine nO h0 (eA (eJ (P:=P) (H0:=hp o nx) (b:=nx) (cx:=⟨[],true⟩) (ro:=some b) (fun id hu=>hu) (fun h=>by cases h) r.assign _ s0 φ a0 w ha zC) ?_)
   rintro e a1 w1 ⟨x,s1,eX,hq,pw,hm⟩
   cases e<;>cases x<;>first|(exact hm.elim)|skip
   ·
     obtain⟨nf,m,en,p,c,d,Jp,q1,q2⟩:=hq
     obtain⟨r',r1,r2,r3,y0⟩:=FX .busy Jp pw q1
     have CV:(Instr.beginRound b).run P w1= .ok () {w1 with heap:=w1.heap.setIfInBounds b (.loop {r' with state:= .busy,pending:=Jp.map kq.code})}:=by
      have e1:({r' with state:= .busy}:Loop)={r' with state:= .busy,pending:=Jp.map kq.code}:=by rw[<- r3]
      simp only[Instr.beginRound,Sem.run_bind,gv r1,Result.andThen_ok,eZ _ r1,r2,Sem.run_pure,e1]
     refine⟨_,CV, ?_⟩
     have a7:=y0.heap.ok id
     simp only[aq,S.H,ax,if_true]at a7
     obtain⟨b2,Ps,_,_,_,_,_,_,_,_,_,_⟩:=a7
     have hb:=eO (P:=P) (n:=n) (b:=nx) (rd:=true) aO r.body _ _ _ (fun _ _ h=>h) (by rw[h8];exact q2)
     refine eA (eJ (P:=P) (H0:=hp o nx) (b:=nx) (cx:=⟨[],true⟩) (ro:=some b) (fun id hu=>hu) (fun h=>by cases h) r.body _ _ eX a1 _ hb y0) ?_
     rintro e a2 w2 ⟨x,s2,vR,yZ,uF,HB⟩
     have fin:∀ {nf m:Nat} {en:List V} {p:List Nat} {c d:IC} {st:LoopState} {pd:Option kq} (jump:Option kq) (t:Bool) (st':LoopState),t=jump.isNone->st'=(if jump.isNone then .ready else .done)->s2.o id= .loop nf m en p c d st pd->K (.d (.bool t)) (aV s2.o id (.loop nf m en p c d st' jump)) s2.nx->
      ∃v w',(Instr.endRound b (jump.map kq.code)).run P w2= .ok v w'/\iV M φ (hp o nx) w K X (.returned v) w':=by
      intro nf m en p c d st pd jump t st' ht jO OO hK
      obtain⟨Pt,g1,g2,g3,DS⟩:=FX st' jump uF OO
      refine⟨.bool t,_, ?_,vR,_,_,_,DS.heap,DS.tr,by simp only[V.den,D.den],hK⟩
      subst ht;subst jO
      simp only[Instr.endRound,Sem.run_bind,gv g1,Result.andThen_ok,eZ _ g1,Sem.run_pure,Option.isNone_map]
     cases e<;>cases x<;>first|(exact HB.elim)|skip
     ·obtain⟨nf,m,en,p,c,d,st,pd,k1,k2⟩:=yZ
      exact fin none true .ready rfl rfl k1 k2
     ·rename_i j
      subst HB
      obtain⟨nf,m,en,p,c,d,st,pd,k1,k2⟩:=yZ
      exact fin (some (.exit _)) false .done rfl rfl k1 k2
     ·obtain⟨nf,m,en,p,c,d,st,pd,k1,k2⟩:=yZ
      exact fin (some .ret) false .done rfl rfl k1 k2
     ·obtain⟨val,rfl,k2⟩:=HB
      exact⟨n7 uF,vR,_,_,_,uF.heap,uF.tr,val,rfl,k2,yZ⟩
   ·exact hq.elim
   ·exact hq.elim
   ·obtain⟨val,rfl,k2⟩:=hm
    exact⟨n7 pw,eX,_,_,_,pw.heap,pw.tr,val,rfl,k2,hq⟩
end
end Go.Proofs.YtbmnikpknlkbkaaGreat
namespace Go.Proofs.YtbmnikpknlkbkaaGreat
def CW(ops:Array Oper)(t t1:Nat):Prop:=
 (∃o1 o2,ops=#[o1,o2]/\o1.op= .call ⟨.builtin .recover,#[],#[]⟩/\o1.dst=some t/\o1.guard=none/\o2.op= .assign (.tmp t)/\o2.dst=some t1/\o2.guard=none)\/
 (∃o1,ops=#[o1]/\t1=t/\o1.op= .call ⟨.builtin .recover,#[],#[]⟩/\o1.dst=some t/\o1.guard=none)
structure uX (P:Program) (g:FuncId) (n t t1:Nat) (ic:IC):Prop where
 get:∃fn id ops c,P.funcs[g]? =some fn/\(fn.name== "runtime.NumGoroutine")=false/\fn.ntmps=n/\fn.results=#[]/\fn.body=some (.seq (.region id ops false) c)/\
  CW ops t t1/\t<n/\t1<n/\low n c=ic
structure x5 (P:Program) (f:FuncId) (n:Nat) (jE fW:IC) (g:FuncId) (t:Nat) (jJ:List Operand) (rs:List ResultVar):Prop where
 get:∃fn id o1 o2 a b d,P.funcs[f]? =some fn/\(fn.name== "runtime.NumGoroutine")=false/\fn.ntmps=n/\fn.results.toList=rs/\fn.body=some (.seq a d)/\(d= .seq (.region id #[o1,o2] false) b\/d= .scope (.seq (.region id #[o1,o2] false) b))/\
  o1.op= .makeFunc (.func g) #[] jJ.toArray/\o1.dst=some t/\o1.guard=none/\o2.op= .defer ⟨.value (.tmp t),#[],#[]⟩/\o2.dst=none/\o2.guard=none/\t<n/\low n a=jE/\low n b=fW
def Jq(K:(Nat->aa)->Nat->Prop)(e:eY)(s:S):Prop:=match e with| .normal| .ret=>K s.o s.nx|_=>False
def wo(P:Program)(n t t1:Nat)(ic:IC)(jJ:List V)(u:V)(o:Nat->aa)(nx:Nat)(K:(Nat->aa)->Nat->Prop):Prop:=
 jJ.length<=n/\m9 P n nx true ic (Jq K) ⟨aV (aV (bT jJ) t u) t1 u,o,nx⟩
def ub(P:Program)(n t t1:Nat)(ic:IC)(jJ:List V)(rs:List ResultVar)(K X:V->(Nat->aa)->Nat->Prop)(e:eY)(s:S):Prop:=
 match e with
 | .normal| .ret=>wo P n t t1 ic jJ (.d .dS) s.o s.nx fun o nx=>iB P rs K X .ret ⟨s.env,o,nx⟩
 | .ba v=>wo P n t t1 ic jJ v s.o s.nx fun o nx=>iB P rs K X .ret ⟨s.env,o,nx⟩
 | .exit _=>False
def x6(P:Program)(n t:Nat)(fW:IC)(fk:List Operand)(g:FuncId)(D:List V->eY->S->Prop)(e:eY)(s:S):Prop:=
 match e with
 | .normal=>m9 P n s.nx false fW (D (fk.map s.ev)) ⟨aV s.env t (.func (.func g) [] (fk.map s.ev)),s.o,s.nx⟩
 |_=>False
section
variable {P:Program}{M:Nat->Prop}{φ bN:Place}{H H0:Hp}{w w0:World}{n:Nat}{s:S}{a:Act}{cx:Cx}{k:Nat}
theorem wq(aO:P.follows .mixedOrders=true){g:FuncId}{t t1:Nat}{ic:IC}(hg:uX P g n t t1 ic){jJ:List V}{u:V}{o:Nat->aa}{nx:Nat}{K:(Nat->aa)->Nat->Prop}(h:wo P n t t1 ic jJ u o nx K)
 {vals:Array Value} {val:Value} {m:FrameMode} (hH:af M φ (hp o nx) w) (hd:V.ak (ad M φ (hp o nx)) φ (hp o nx) w jJ vals.toList) (hv:V.den (ad M φ (hp o nx)) φ (hp o nx) w u val)
 (hm:(m= .returning/\val= .nilIface)\/m= .panicking [{v:=val,recovered:=false}]):
 CallsDIn (cL none) k P g vals m w fun e u' w'=>∃v ai o' nx',e= .returned v/\settle u'= .returning/\af M ai (hp o' nx') w'/\Trans φ (hp o nx) w ai (hp o' nx') w'/\K o' nx':=by
 obtain⟨fn,id,ops,c,hf,BA,OP,rX,lj,v8,ht,tc,jH⟩:=hg.get
 have br:g<P.funcs.size:=(Array.getElem?_eq_some_iff.1 hf).1
 obtain⟨mO,h⟩:=h
 have hlen:=V.aj _ _ hd
 refine⟨trivial,fun ko cs x7 AP=> ?_⟩
 let b:Frame:={(default:Frame)with fn:=g,kind:= .deferred,roundOf:=none}
 let nd:Array Value:=vals++Array.replicate (fn.ntmps - vals.size) undef
 have Jr:nd.size=n:=by simp only[nd,Array.size_append,Array.size_replicate];simp at hlen;omega
 have iA:Frame.enter P g vals .deferred=b.atR {tmps:=nd,defers:=[]} [.code (.seq (.region id ops false) c)]:=by
  simp[Frame.enter,Frame.atR,hf,lj,b,nd]
 obtain⟨m',LW,a7⟩:∃m',settle m'= .returning/\((recoverD (ko::cs)=none/\m'=m/\val= .nilIface)\/recoverD (ko::cs)=some (val,{ko with mode:=m'}::cs)):=by
  rcases hm with⟨rfl,rfl⟩|rfl
  ·exact⟨.returning,rfl, .inl ⟨by simp[recoverD,x7],rfl,rfl⟩⟩
  ·exact⟨.panicking [{v:=val,recovered:=true}],rfl, .inr (by simp[recoverD,x7])⟩
 have Hz:({ko with mode:=m}:Frame)=ko:=by subst x7;rfl
 let a1:Act:={tmps:=(nd.setIfInBounds t val).setIfInBounds t1 val,defers:=[]}
 have zI:(Code.region id ops false).wpSIn (cL none) k P (fun e a' cs' w'=>e= .normal/\a'=a1/\cs'={ko with mode:=m'}::cs/\w'=w) {tmps:=nd,defers:=[]} (ko::cs) w:=by
  rcases v8 with⟨o1,o2,rfl,e1,e2,e3,e4,e5,e6⟩|⟨o1,rfl,rfl,e1,e2,e3⟩
  ·refine wpSIn_region ?_
   have hr:List.range (#[o1,o2]:Array Oper).size=[0,1]:=rfl
   have g0:(#[o1,o2]:Array Oper)[0]? =some o1:=rfl
   have g1:(#[o1,o2]:Array Oper)[1]? =some o2:=rfl
   rw[hr]
   have x1:∀ (ρ:Operand->Value) (w:World),(execOp ρ o1).run P w= .ok .recover w:=by
    intro ρ w
    simp[execOp,e1,resolve,invoke,builtin]
   have x2:∀ (ρ:Operand->Value) (w:World),(execOp ρ o2).run P w= .ok (.value (ρ (.tmp t))) w:=by
    intro ρ w
    simp[execOp,e4]
   have last:∀cs',cs'={ko with mode:=m'}::cs->wpOpsSIn (cL none) k P #[o1,o2] (fun e a' cs' w'=>e= .normal/\a'=a1/\cs'={ko with mode:=m'}::cs/\w'=w) [1] (({tmps:=nd,defers:=[]}:Act).put (some t) val) cs' w:=by
    rintro cs' rfl
    have hw:Region.wanted o2 (yielded #[o1,o2] (({tmps:=nd,defers:=[]}:Act).put (some t) val).tmps)=true:=by simp[Region.wanted,e6]
    have cB:(({tmps:=nd,defers:=[]}:Act).put (some t) val).eval (.tmp t)=val:=by
     have:t<nd.size:=by omega
     simp[Act.put,Act.eval,Array.getD,this]
    simp only[wpOpsSIn,g1,hw,if_true,x2,cB,e5]
    refine⟨fun _ _=>trivial, ?_⟩
    simp[a1,Act.put]
   have hw:Region.wanted o1 (yielded #[o1,o2] nd)=true:=by simp[Region.wanted,e3]
   rw[wpOpsSIn,g0]
   refine⟨fun _ _=>trivial, ?_⟩
   simp only[hw,if_true,x1,e2]
   rcases a7 with⟨hr,rfl,rfl⟩|hr
   ·simp only[hr]
    exact last _ (by rw[Hz])
   ·simp only[hr]
    exact last _ rfl
  ·refine wpSIn_region ?_
   have hr:List.range (#[o1]:Array Oper).size=[0]:=rfl
   have g0:(#[o1]:Array Oper)[0]? =some o1:=rfl
   rw[hr]
   have x1:∀ (ρ:Operand->Value) (w:World),(execOp ρ o1).run P w= .ok .recover w:=by
    intro ρ w
    simp[execOp,e1,resolve,invoke,builtin]
   have same:a1=({tmps:=nd,defers:=[]}:Act).put (some t1) val:=by
    simp only[a1,Act.put]
    congr 1
    apply Array.ext_getElem?
    intro j
    simp only[Array.getElem?_setIfInBounds]
    by_cases hj:t1=j
    ·subst hj;simp
    ·simp[hj]
   have last:∀cs',cs'={ko with mode:=m'}::cs->wpOpsSIn (cL none) k P #[o1] (fun e a' cs' w'=>e= .normal/\a'=a1/\cs'={ko with mode:=m'}::cs/\w'=w) [] (({tmps:=nd,defers:=[]}:Act).put (some t1) val) cs' w:=by
    rintro cs' rfl
    simp only[wpOpsSIn]
    exact⟨trivial,same.symm,trivial,trivial⟩
   have hw:Region.wanted o1 (yielded #[o1] nd)=true:=by simp[Region.wanted,e3]
   rw[wpOpsSIn,g0]
   refine⟨fun _ _=>trivial, ?_⟩
   simp only[hw,if_true,x1,e2]
   rcases a7 with⟨hr,rfl,rfl⟩|hr
   ·simp only[hr]
    exact last _ (by rw[Hz])
   ·simp only[hr]
    exact last _ rfl
 obtain⟨er,ar,Pu,wr,hl,⟨rfl,rfl,rfl,Ii⟩,bL⟩:=zI b [.code c] rfl rfl trivial (fun d hd=>by simp[cL]at hd)
 rw[Ii]at bL
 let s0:S:=⟨aV (aV (bT jJ) t u) t1 u,o,nx⟩
 have zC:bw M φ (hp o nx) w n ⟨[],true⟩ φ s0 a1 w:=by
  refine⟨hH,Trans.refl _ _ _,by simp[a1,Jr],⟨[],rfl,List.nodup_nil,fun _=>rfl,fun r hr=>by cases hr⟩,fun i=> ?_⟩
  have cA:=nN (m:=fn.ntmps - vals.size) hd i
  simp only[s0,a1,ax]
  have HD:t<nd.size:=by omega
  have Js:t1<nd.size:=by omega
  by_cases h1:i=t1
  ·subst h1
   simp only[if_true]
   have:((nd.setIfInBounds t val).setIfInBounds i val).getD i undef=val:=by simp[Array.getD,Js]
   rw[this];exact hv
  ·simp only[h1,if_false]
   have e1:((nd.setIfInBounds t val).setIfInBounds t1 val).getD i undef=(nd.setIfInBounds t val).getD i undef:=by
    simp only[Array.getD_eq_getD_getElem?]
    rw[Array.getElem?_setIfInBounds_ne (Ne.symm h1)]
   rw[e1]
   by_cases h2:i=t
   ·subst h2
    simp only[if_true]
    have:(nd.setIfInBounds i val).getD i undef=val:=by simp[Array.getD,HD]
    rw[this];exact hv
   ·simp only[h2,if_false]
    have e1:(nd.setIfInBounds t val).getD i undef=nd.getD i undef:=by
     simp only[Array.getD_eq_getD_getElem?]
     rw[Array.getElem?_setIfInBounds_ne (Ne.symm h2)]
    rw[e1];exact cA
 have OQ:=eO (P:=P) (n:=n) (b:=nx) (rd:=true) aO c _ _ s0 (fun _ _ h=>h) (by rw[jH];exact h)
 obtain⟨e,a',w',⟨x,s',ai,hq,gy,hx⟩,uE⟩:=eJ (P:=P) (H0:=hp o nx) (b:=nx) (cx:=⟨[],true⟩) (ro:=none) (fun id hu=>hu) (fun h=>by cases h) c _ s0 φ a1 w OQ zC b [] ({ko with mode:=m'}::cs) rfl br
 have i0:(lone (b.atR {tmps:=nd,defers:=[]} [.code (.seq (.region id ops false) c)]) (ko::cs) w).fenced P (cL none):=fenced_calm (n:=0) trivial ez rfl
 have BB:StepsIn (Machine.fenced P (cL none)) P (lone (b.atR {tmps:=nd,defers:=[]} [.code (.seq (.region id ops false) c)]) (ko::cs) w) (lone (b.atR a1 [.code c]) ({ko with mode:=m'}::cs) w):= .head i0 stepR_seq bL
 have n7:a'.defers=[]:=by
  obtain⟨ms,g1,_,g3,_⟩:=gy.defers
  rw[g3 rfl]at g1;exact g1
 have FZ:∀tm:Array Value,∃v,(results fn tm).run P w'= .ok v w':=by
  intro tm
  refine⟨_,ja (vals:=[]) ?_⟩
  rw[rX];rfl
 rw[iA]
 obtain⟨v,mM⟩:=FZ a'.tmps
 cases e<;>cases x<;>first|(exact hx.elim)|(exact hq.elim)|skip
 ·exact⟨.returned v,m',w',_,⟨v,ai,s'.o,s'.nx,rfl,LW,gy.heap,gy.tr,hq⟩,StepsIn.trans BB (StepsIn.trans uE (.one (fenced_calm (n:=0) (fr:=b.atR a' []) trivial ez rfl) (stepR_end rfl))),rfl,rfl,rfl,n7,fn,hf,mM⟩
 ·obtain⟨todo,hs⟩:=uE.1 rfl
  exact⟨.returned v,m',w',_,⟨v,ai,s'.o,s'.nx,rfl,LW,gy.heap,gy.tr,hq⟩,StepsIn.trans BB hs,rfl,rfl,rfl,n7,fn,hf,mM⟩
theorem sI{d c:Code}{ro:Option Nat}{Q:Exit->Act->World->Prop}{a:Act}{w:World}(h:d=c\/d= .scope c)(hg:∀l a w, ¬Q (.goto l) a w)(hc:c.mP P ro Q a w):d.mP P ro Q a w:=by
 rcases h with rfl|rfl
 ·exact hc
 ·exact pq hc hg
theorem jx.x8 (aO:P.follows .mixedOrders=true){f g:FuncId}{jE fW sJ:IC}{t m r r1:Nat}{fk:List Operand}{rs:List ResultVar}(hf:x5 P f n jE fW g t fk rs)(hg:uX P g m r r1 sJ)
 {args:List V} {o:Nat->aa} {nx:Nat} {K X:V->(Nat->aa)->Nat->Prop} (hl:args.length<=n)
 (h:m9 P n nx true jE (x6 P n t fW fk g fun jJ=>ub P m r r1 sJ jJ rs K X) ⟨bT args,o,nx⟩):jx P f args o nx K X:=by
 obtain⟨fn,id,o1,o2,ca,cb,cd,vO,BA,OP,rX,lj,OR,e1,e2,e3,e4,e5,e6,ht,OS,yW⟩:=hf.get
 obtain⟨gn,_,_,gc,OT,CX,_,_,CY,_⟩:=hg.get
 refine⟨⟨fn,vO,BA,by rw[lj];rfl⟩,fun M φ w vals hH hd=> ?_⟩
 have hlen:=V.aj _ _ hd
 let s0:S:=⟨bT args,o,nx⟩
 let a0:Act:={tmps:=vals++Array.replicate (fn.ntmps - vals.size) undef,defers:=[]}
 have zC:bw M φ (hp o nx) w n ⟨[],true⟩ φ s0 a0 w:=by
  refine⟨hH,Trans.refl _ _ _, ?_,⟨[],rfl,List.nodup_nil,fun _=>rfl,fun r hr=>by cases hr⟩,nN hd⟩
  simp only[a0,Array.size_append,Array.size_replicate];simp at hlen;omega
 have ha:=eO (P:=P) (n:=n) (b:=nx) (rd:=true) aO ca _ _ s0 (fun _ _ h=>h) (by rw[OS];exact h)
 refine rR (ro:=none) (k:=0) (jb vO lj (qh (eA (eJ (P:=P) (H0:=hp o nx) (b:=nx) (cx:=⟨[],true⟩) (ro:=none) (fun id hu=>hu) (fun h=>by cases h) ca _ s0 φ a0 w ha zC) ?_)))
 rintro e a1 w1 ⟨x,s1,eX,hq,pw,hm⟩
 cases e<;>cases x<;>first|(exact hm.elim)|(exact hq.elim)|skip
 have n7:a1.defers=[]:=by
  obtain⟨ms,g1,_,g3,_⟩:=pw.defers
  rw[g3 rfl]at g1;exact g1
 let cv:Array Value:=(fk.map a1.eval).toArray
 let fv:Value:= .func (.func g) #[] cv
 let dd:Deferred:={target:= .fn (.func g) cv,args:=#[]}
 let a2:Act:={tmps:=a1.tmps.setIfInBounds t fv,defers:=[dd]}
 have BC:V.ak (ad M eX s1.H) eX s1.H w1 (fk.map s1.ev) cv.toList:=by
  simpa[cv]using fZ (M:=M) (φ:=eX) (H:=s1.H) (w:=w1) s1 a1 pw.env fk
 refine sI OR (fun l a w h=> ?_) ?_
 ·exact h.elim
 refine qh (eA (Q:=fun e a w=>e= .normal/\a=a2/\w=w1) (ka (k:=0) (wpIn_region_list ?_)) ?_)
 ·have y1:Region.wanted o1 (yielded #[o1,o2] a1.tmps)=true:=by simp[Region.wanted,e3]
  have y2:∀tm,Region.wanted o2 (yielded #[o1,o2] tm)=true:=by intro tm;simp[Region.wanted,e6]
  have cB:(a1.put (some t) fv).eval (.tmp t)=fv:=by
   have:t<a1.tmps.size:=by rw[pw.size];exact ht
   simp[Act.put,Act.eval,Array.getD,this]
  show wpListIn (cL none) 0 P #[o1,o2] _ [o1,o2] a1 w1
  unfold wpListIn
  rw[if_pos y1]
  have x1:(execOp a1.eval o1).run P w1= .ok (.value fv) w1:=by simp[execOp,e1,fv,cv,Instr.makeFunc]
  refine gr (fun c hc=>by rw[e1]at hc;cases hc) ?_
  rw[x1]
  show wpListIn (cL none) 0 P #[o1,o2] _ [o2] (a1.put o1.dst fv) w1
  rw[e2]
  unfold wpListIn
  rw[if_pos (y2 _)]
  have x2:(execOp (a1.put (some t) fv).eval o2).run P w1= .ok (.defer dd) w1:=by
   simp[execOp,e4,resolve,cB,Deferred.ofValue,fv,dd]
  refine⟨fun _ _=>trivial, ?_⟩
  have:(o2.semAt (cL none).round (a1.put (some t) fv).eval)=execOp (a1.put (some t) fv).eval o2:=rfl
  rw[this,x2]
  unfold Oper.uponIn
  simp only[e5,wpListIn,Act.put,n7,a2,and_self]
 rintro e a w2 ⟨rfl,rfl,rfl⟩
 have tc:t<a1.tmps.size:=by rw[pw.size];exact ht
 let s2:S:=⟨aV s1.env t (.func (.func g) [] (fk.map s1.ev)),s1.o,s1.nx⟩
 have y0:bw M eX s1.H w2 n ⟨[dd],false⟩ eX s2 a2 w2:=by
  refine⟨pw.heap,Trans.refl _ _ _,by simp[a2,pw.size],⟨[],rfl,List.nodup_nil,fun _=>rfl,fun r hr=>by cases hr⟩,fun i=> ?_⟩
  simp only[s2,a2,ax]
  by_cases h1:i=t
  ·subst h1
   have:(a1.tmps.setIfInBounds i fv).getD i undef=fv:=by simp[Array.getD,tc]
   simp only[if_true];rw[this]
   exact⟨#[],cv,rfl,rfl,BC⟩
  ·have:(a1.tmps.setIfInBounds t fv).getD i undef=a1.tmps.getD i undef:=by
    simp only[Array.getD_eq_getD_getElem?]
    rw[Array.getElem?_setIfInBounds_ne (Ne.symm h1)]
   simp only[h1,if_false];rw[this]
   exact pw.env i
 have hb:=eO (P:=P) (n:=n) (b:=s1.nx) (rd:=false) aO cb _ _ s2 (fun _ _ h=>h) (by rw[yW];exact hq)
 refine eA (eJ (P:=P) (H0:=s1.H) (b:=s1.nx) (cx:=⟨[dd],false⟩) (ro:=none) (fun id hu=>hu) (fun _=>rfl) cb _ s2 eX a2 w2 hb y0) ?_
 rintro e a3 w3 ⟨x,s3,F0,HQ,uF,rf⟩
 obtain⟨ms,g1,g2,_,g4⟩:=uF.defers
 have hinv:(invoke dd.target dd.args).run P=fun w=> .ok (.enter g cv) w:=by
  funext w
  have:=gU (w:=w) ⟨gn,OT,CX,by rw[CY];rfl⟩ cv
  simpa[dd,invoke]using this
 have last:∀ {w4:World} {tm:Array Value} {u:V} {val:Value} {m0:FrameMode},m0≠ .run->qk M eX s1.H w2 F0 s3 a3.tmps w4->V.den (ad M F0 s3.H) F0 s3.H w4 u val->
  ((m0= .returning/\val= .nilIface)\/m0= .panicking [{v:=val,recovered:=false}])->
  (wo P m r r1 sJ (fk.map s1.ev) u s3.o s3.nx fun o nx=>iB P rs K X .ret ⟨s3.env,o,nx⟩)->
  LeavesInM (cL none) 0 P fn a3.tmps (iV M φ (hp o nx) w K X) [dd] m0 w4:=by
  intro w4 tm u val m0 dB hB zl OU a7
  have CZ:=V.aw hB.tr _ _ BC
  refine⟨dB, .inr ⟨fun h=>by simp[cL]at h, .func g,cv,g,cv,rfl,by rw[hinv],fun _ _=>trivial,CallsDIn.mono (wq (k:=0 - 1) aO hg a7 (m:=m0) hB.heap CZ zl OU) ?_⟩⟩
  rintro e u' w5 ⟨v,Jt,o5,HS,rfl,Ju,k1,k2,k3⟩
  show LeavesInM (cL none) 0 P fn a3.tmps (iV M φ (hp o nx) w K X) [] (settle u') w5
  rw[Ju]
  obtain⟨vs,h1,h2⟩:=rY k3
  rw[<- rX]at h1
  have F1:∀i,V.den (ad M Jt (hp o5 HS)) Jt (hp o5 HS) w5 (s3.env i) (a3.tmps.getD i undef):=fun i=>V.ao k2 _ _ (hB.env i)
  obtain⟨LX,h3,h4⟩:=m8 (P:=P) (s:=⟨s3.env,o5,HS⟩) (a:=a3) k1 F1 _ _ h1
  exact⟨_,ja h3,Jt,o5,HS,_,k1,pw.tr.trans (hB.tr.trans k2),rZ h4,h2⟩
 have done:wo P m r r1 sJ (fk.map s1.ev) (.d .dS) s3.o s3.nx (fun o nx=>iB P rs K X .ret ⟨s3.env,o,nx⟩)->LeavesInM (cL none) 0 P fn a3.tmps (iV M φ (hp o nx) w K X) a3.defers .returning w3:=by
  intro a7
  rw[g1]
  exact eB (P:=P) (k:=0) (fn:=fn) (R:=iV M φ (hp o nx) w K X) (u:= .returning) (by simp) (ds:=[dd]) (fun w4 hB=>last (tm:=a3.tmps) (by simp) hB (u:= .d .dS) (val:= .nilIface) (by simp[V.den,D.den]) (.inl ⟨rfl,rfl⟩) a7) ms w3 g2 g4 uF.LO
 cases e<;>cases x<;>first|(exact rf.elim)|skip
 ·exact done HQ
 ·exact HQ.elim
 ·exact done HQ
 ·rename_i v
  obtain⟨val,rfl,I1⟩:=rf
  show LeavesInM (cL none) 0 P fn a3.tmps (iV M φ (hp o nx) w K X) a3.defers _ w3
  rw[g1]
  let F2:Nat->V:=fun i=>match i with|0=>v|i+1=>s3.env i
  have F3:(#[val]++a3.tmps).getD 0 undef=val:=by simp[Array.getD]
  have F4:∀i,(#[val]++a3.tmps).getD (i+1) undef=a3.tmps.getD i undef:=by
   intro i
   simp only[Array.getD_eq_getD_getElem?]
   rw[Array.getElem?_append_right (by simp)]
   simp
  have E6:qk M eX s1.H w2 F0 ⟨F2,s3.o,s3.nx⟩ (#[val]++a3.tmps) w3:=⟨uF.heap,uF.tr,fun i=>by
   cases i with
   |zero=>rw[F3];exact I1
   |succ i=>rw[F4];exact uF.env i⟩
  have F5:∀w4,qk M eX s1.H w2 F0 ⟨F2,s3.o,s3.nx⟩ (#[val]++a3.tmps) w4->LeavesInM (cL none) 0 P fn a3.tmps (iV M φ (hp o nx) w K X) [dd] (.panicking [{v:=val,recovered:=false}]) w4:=by
   intro w4 hB
   have LY:=hB.env 0
   rw[F3]at LY
   refine last (tm:=a3.tmps) (by simp) ⟨hB.heap,hB.tr,fun i=> ?_⟩ LY (.inr rfl) HQ
   have hs:=hB.env (i+1)
   rw[F4]at hs
   exact hs
  exact eB (P:=P) (k:=0) (fn:=fn) (R:=iV M φ (hp o nx) w K X) (u:= .panicking [{v:=val,recovered:=false}]) (by simp) (ds:=[dd]) F5 ms w3 g2 g4 E6
end
end Go.Proofs.YtbmnikpknlkbkaaGreat
