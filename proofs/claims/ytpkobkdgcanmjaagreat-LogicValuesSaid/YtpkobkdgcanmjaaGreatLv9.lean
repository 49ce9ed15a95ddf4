/-
  A PART OF THE PROOF. Conditions: none.
-/
import Derived.Test.YtpkobkdgcanmjaaGreatLv8
set_option linter.unusedSimpArgs false
set_option linter.unusedVariables false
namespace Go.Proofs.YtpkobkdgcanmjaaGreat
def aa.Dq:aa->Bool
 | .lG .. =>true
 |_=>false
def BQ(o:Nat->aa)(v:V):Option D:=if v.ids.all (fun id=>(o id).Dq)=true then dn o v else none
section
variable (ρ:Nat->Option Nat)(o' o:Nat->aa)(nx:Nat)
mutual
def nC:V->V->Prop
 | .ak,_=>True
 | .d x,v=>BQ o v=some x
 | .aM,v=>v= .aM
 | .agg cs,v=>match v with| .agg ds=>m5 cs ds|_=>False
 | .bQ cs,v=>match v with| .bQ ds=>m5 cs ds|_=>False
 | .ptr cg uh,v=>match v with| .ptr id off=>ρ cg=some id/\uh=off/\cg<nx|_=>False
 | .osl cg eR,v=>cg<nx/\(o' cg).aP=some eR/\match v with
   | .aM=>ρ cg=none
   | .osl id ep=>ρ cg=some id/\(o id).aP=some ep
   |_=>False
 | .pe cg eR i' kB uh,v=>cg<nx/\(o' cg).aP=some eR/\match v with
   | .pe id ep i sz off=>ρ cg=some id/\(o id).aP=some ep/\i'=i/\kB=sz/\uh=off
   |_=>False
 | .pp cs off,v=>v= .pp cs off
 | .func fn a b,v=>match v with| .func Td a' b'=>fn=Td/\m5 a a'/\m5 b b'|_=>False
 | .iface t x,v=>match v with| .iface t' y=>t=t'/\nC x y|_=>False
 | .kQ es,v=>v= .kQ es
 | .oo cg uh n',v=>match v with| .oo id off n=>ρ cg=some id/\uh=off/\n'=n/\cg<nx|_=>False
 | .mp cg,v=>match v with| .mp id=>ρ cg=some id/\cg<nx|_=>False
 | .dB,v=>v= .dB\/∃b,v= .d (.bool b)
 | .j7 cg,v=>match v with| .j7 id=>ρ cg=some id/\cg<nx|_=>False
def m5:List V->List V->Prop
 |[],vs=>vs=[]
 |x::xs,vs=>match vs with|v::vs=>nC x v/\m5 xs vs|[]=>False
end
def jN(cg:Nat):Prop:=
 match o' cg with
 | .no=>True
 | .row cs'=>match ρ cg with
   |some id=>match o id with| .row cs=>m5 ρ o' o nx cs' cs|_=>False
   |none=>False
 | .arr _ ty sz es=>match ρ cg with
   |some id=>match o id with| .arr _ OE kB es'=>ty=OE/\sz=kB/\es=es'|_=>False
   |none=>es=[]/\0<sz
 | .lG _ es=>match ρ cg with
   |some id=>match o id with| .lG _ es'=>es=es'|_=>False
   |none=>False
 | .map kt vt l=>match ρ cg with
   |some id=>match o id with| .map xr xu l'=>kt=xr/\vt=xu/\l=l'|_=>False
   |none=>False
 | .loop nf n env ps a b st pd=>match ρ cg with
   |some id=>match o id with| .loop HT n' OG Te a' b' st' pd'=>nf=HT/\n=n'/\ps=Te/\a=a'/\b=b'/\st=st'/\pd=pd'/\m5 ρ o' o nx env OG|_=>False
   |none=>False
 | .ef l=>match ρ cg with
   |some id=>match o id with| .ef l'=>l=l'|_=>False
   |none=>False
 | .mJ l last=>match ρ cg with
   |some id=>match o id with| .mJ l' zT=>l=l'/\(last=none\/last=zT)|_=>False
   |none=>False
 | .oq s pos=>match ρ cg with
   |some id=>match o id with| .oq s' pos'=>s=s'/\pos=pos'|_=>False
   |none=>False
end
section
variable {M M':Nat->Prop}{φ aj:Place}{H H':Hp}{w:World}{ρ:Nat->Option Nat}{nx:Nat}
theorem zU(hH:ai M φ H w){v:V}{x:D}{val:Value}(h:BQ H.o v=some x)(hd:V.den (ad M φ H) φ H w v val):D.den (ad M φ H) w x val:=by
 unfold BQ at h
 split at h
 ·rename_i ha
  refine dM hH (o:=H.o) v x val (fun id ah=> ?_) h hd
  have:=List.all_eq_true.1 ha id ah
  cases ho:H.o id<;>rw[ho]at this<;>simp[aa.Dq]at this
  rfl
 ·cases h
mutual
theorem n6(hH:ai M φ H w)(fG:∀b,bR w b-> ¬ad M φ H b-> ¬ad M' aj H' b)(cN:∀id,aj id=match ρ id with|some j=>φ j|none=> .slice none 0 0)
 (df:∀id,id<nx->H'.us id) (a8:∀cg id,ρ cg=some id->(H'.o cg).bp=true->(H.o id).bp=true):
 ∀ (x v:V) (val:Value),nC ρ H'.o H.o nx x v->V.den (ad M φ H) φ H w v val->V.den (ad M' aj H') aj H' w x val
 | .ak,_,_,_,_=>trivial
 | .d x,v,val,h,hd=>D.ax (fun b hb hn=>⟨rfl,fG b hb hn⟩) x val (zU hH (by simpa[nC]using h) hd)
 | .aM,v,val,h,hd=>by simp only[nC]at h;subst h;exact hd
 | .agg cs,v,val,h,hd=>by
   unfold nC at h
   split at h
   ·obtain⟨a,rfl,hd,hf⟩:=hd
    exact⟨a,rfl,iz hH fG cN df a8 _ _ _ h hd,hf⟩
   ·exact h.elim
 | .bQ cs,v,val,h,hd=>by
   unfold nC at h
   split at h
   ·obtain⟨a,rfl,hd⟩:=hd
    exact⟨a,rfl,iz hH fG cN df a8 _ _ _ h hd⟩
   ·exact h.elim
 | .ptr cg uh,v,val,h,hd=>by
   unfold nC at h
   split at h
   ·obtain⟨h1,rfl,h3⟩:=h
    obtain⟨g1,_,g3⟩:=hd
    refine⟨g1,df _ h3,fun hr=> ?_⟩
    obtain⟨b,k1,k2⟩:=g3 (a8 _ _ h1 hr)
    exact⟨b,by rw[cN,h1];exact k1,k2⟩
   ·exact h.elim
 | .osl cg eR,v,val,h,hd=>by
   unfold nC at h
   obtain⟨h1,h2,h3⟩:=h
   split at h3
   ·simp only[V.den]at hd;subst hd
    refine⟨rfl,df _ h1,fun e he=> ?_⟩
    rw[h2]at he;injection he with he;subst he
    exact⟨Nat.le_refl _,fun _=>by rw[cN,h3]⟩
   ·obtain⟨g1,_,g3⟩:=hd
    refine⟨g1,df _ h1,fun e he=> ?_⟩
    rw[h2]at he;injection he with he;subst he
    exact⟨Nat.le_refl _,fun _=>by rw[cN,h3.1];exact(g3 _ h3.2).2 rfl⟩
   ·exact h3.elim
 | .pe cg eR i' kB uh,v,val,h,hd=>by
   unfold nC at h
   obtain⟨h1,h2,h3⟩:=h
   split at h3
   ·obtain⟨h3,h4,rfl,rfl,rfl⟩:=h3
    obtain⟨g1,_,g3⟩:=hd
    refine⟨g1,df _ h1,fun e he=> ?_⟩
    rw[h2]at he;injection he with he;subst he
    refine⟨Nat.le_refl _,fun _=> ?_⟩
    obtain⟨b,n,c,k1,k2⟩:=(g3 _ h4).2 rfl
    exact⟨b,n,c,by rw[cN,h3];exact k1,k2⟩
   ·exact h3.elim
 | .pp cs off,v,val,h,hd=>by
   simp only[nC]at h;subst h
   obtain⟨a,ev,h1,h2,h3,h5,h4⟩:=hd
   exact⟨a,ev,h1,h2,D.aB (fun b hb hn=>⟨rfl,fG b hb hn⟩) cs ev h3,h5,h4.mono (fun b hb hn=>⟨rfl,fG b hb hn⟩)⟩
 | .func fn a b,v,val,h,hd=>by
   unfold nC at h
   split at h
   ·obtain⟨rfl,h1,h2⟩:=h
    obtain⟨f,c,rfl,k1,k2⟩:=hd
    exact⟨f,c,rfl,iz hH fG cN df a8 _ _ _ h1 k1,iz hH fG cN df a8 _ _ _ h2 k2⟩
   ·exact h.elim
 | .iface t x,v,val,h,hd=>by
   unfold nC at h
   split at h
   ·obtain⟨rfl,h1⟩:=h
    obtain⟨u,rfl,k1⟩:=hd
    exact⟨u,rfl,n6 hH fG cN df a8 _ _ _ h1 k1⟩
   ·exact h.elim
 | .kQ es,v,val,h,hd=>by
   simp only[nC]at h;subst h
   exact⟨D.ax (fun b hb hn=>⟨rfl,fG b hb hn⟩) (.sl es) val hd.1,hd.2⟩
 | .oo cg uh n',v,val,h,hd=>by
   unfold nC at h
   split at h
   ·obtain⟨h1,rfl,rfl,h3⟩:=h
    obtain⟨g1,_,g3⟩:=hd
    refine⟨g1,df _ h3,fun hr=> ?_⟩
    obtain⟨b,k1,k2⟩:=g3 (a8 _ _ h1 hr)
    exact⟨b,by rw[cN,h1];exact k1,k2⟩
   ·exact h.elim
 | .mp cg,v,val,h,hd=>by
   unfold nC at h
   split at h
   ·obtain⟨h1,h3⟩:=h
    obtain⟨g1,_,g3⟩:=hd
    exact⟨g1,df _ h3,fun hr=>by rw[cN,h1];exact g3 (a8 _ _ h1 hr)⟩
   ·exact h.elim
 | .dB,v,val,h,hd=>by
   unfold nC at h
   rcases h with rfl|⟨b,rfl⟩
   ·exact hd
   ·exact⟨b,hd⟩
 | .j7 cg,v,val,h,hd=>by
   unfold nC at h
   split at h
   ·obtain⟨h1,h3⟩:=h
    obtain⟨g1,_,g3⟩:=hd
    refine⟨g1,df _ h3,fun hr=> ?_⟩
    obtain⟨b,k1,k2⟩:=g3 (a8 _ _ h1 hr)
    exact⟨b,by rw[cN,h1];exact k1,k2⟩
   ·exact h.elim
theorem iz(hH:ai M φ H w)(fG:∀b,bR w b-> ¬ad M φ H b-> ¬ad M' aj H' b)(cN:∀id,aj id=match ρ id with|some j=>φ j|none=> .slice none 0 0)
 (df:∀id,id<nx->H'.us id) (a8:∀cg id,ρ cg=some id->(H'.o cg).bp=true->(H.o id).bp=true):
 ∀ (xs vs:List V) (vals:List Value),m5 ρ H'.o H.o nx xs vs->V.au (ad M φ H) φ H w vs vals->V.au (ad M' aj H') aj H' w xs vals
 |[],vs,vals,h,hd=>by simp only[m5]at h;subst h;exact hd
 |x::xs,vs,vals,h,hd=>by
  unfold m5 at h
  split at h
  ·obtain⟨u,us,rfl,k1,k2⟩:=hd
   exact⟨u,us,rfl,n6 hH fG cN df a8 _ _ _ h.1 k1,iz hH fG cN df a8 _ _ _ h.2 k2⟩
  ·exact h.elim
end
theorem zV(hH:ai M φ H w){o':Nat->aa}(ho:∀id,jN ρ o' H.o nx id)(c0:∀id,nx<=id->o' id= .no)
 (rH:∀i j k,(o' i).live=true->(o' j).live=true->ρ i=some k->ρ j=some k->i=j)
 (hM:∀b,M' b->ad M φ H b) (OH:∀b,M' b->b<w.heap.size) (BR:∀b,M' b-> ¬bw (fun id=>match ρ id with|some j=>φ j|none=> .slice none 0 0) ⟨o',fun id=>id<nx⟩ b):
 let aj:Place:=fun id=>match ρ id with|some j=>φ j|none=> .slice none 0 0
 let H':Hp:=⟨o',fun id=>id<nx⟩
 ai M' aj H' w/\(∀b,bw aj H' b->bw φ H b)/\(∀b,bR w b-> ¬ad M φ H b-> ¬ad M' aj H' b)/\
  (∀x v val,nC ρ o' H.o nx x v->V.den (ad M φ H) φ H w v val->V.den (ad M' aj H') aj H' w x val):=by
 intro aj H'
 have a8:∀cg id,ρ cg=some id->(H'.o cg).bp=true->(H.o id).bp=true:=by
  intro cg id h1 h2
  have h3:=ho cg
  unfold jN at h3
  simp only[H']at h2
  split at h3
  ·rename_i e;rw[e]at h2;cases h2
  ·rw[h1]at h3
   simp only at h3
   split at h3
   ·rename_i e;rw[e];rfl
   ·exact h3.elim
  ·rename_i e;rw[e]at h2;cases h2
  ·rename_i e;rw[e]at h2;cases h2
  ·rw[h1]at h3
   simp only at h3
   split at h3
   ·rename_i e;rw[e];rfl
   ·exact h3.elim
  ·rw[h1]at h3
   simp only at h3
   split at h3
   ·rename_i e;rw[e];rfl
   ·exact h3.elim
  ·rw[h1]at h3
   simp only at h3
   split at h3
   ·rename_i e;rw[e];rfl
   ·exact h3.elim
  ·rw[h1]at h3
   simp only at h3
   split at h3
   ·rename_i e;rw[e];rfl
   ·exact h3.elim
  ·rw[h1]at h3
   simp only at h3
   split at h3
   ·rename_i e;rw[e];rfl
   ·exact h3.elim
 have bA:∀cg b,(o' cg).live=true->dz (aj cg)=some b->∃id,ρ cg=some id/\(H.o id).live=true/\dz (φ id)=some b:=by
  intro cg b h1 h2
  have h3:=ho cg
  unfold jN at h3
  simp only[aj]at h2
  split at h3
  ·rename_i e;rw[e]at h1;cases h1
  ·cases hr:ρ cg with
   |none=>rw[hr]at h3;exact h3.elim
   |some id=>
    rw[hr]at h3 h2
    simp only at h3 h2
    split at h3
    ·rename_i e;exact⟨id,rfl,by rw[e];rfl,h2⟩
    ·exact h3.elim
  ·cases hr:ρ cg with
   |none=>rw[hr]at h2;simp[dz]at h2
   |some id=>
    rw[hr]at h3 h2
    simp only at h3 h2
    split at h3
    ·rename_i e;exact⟨id,rfl,by rw[e];rfl,h2⟩
    ·exact h3.elim
  ·rename_i e;rw[e]at h1;cases h1
  ·cases hr:ρ cg with
   |none=>rw[hr]at h3;exact h3.elim
   |some id=>
    rw[hr]at h3 h2
    simp only at h3 h2
    split at h3
    ·rename_i e;exact⟨id,rfl,by rw[e];rfl,h2⟩
    ·exact h3.elim
  ·cases hr:ρ cg with
   |none=>rw[hr]at h3;exact h3.elim
   |some id=>
    rw[hr]at h3 h2
    simp only at h3 h2
    split at h3
    ·rename_i e;exact⟨id,rfl,by rw[e];rfl,h2⟩
    ·exact h3.elim
  ·rename_i e;rw[e]at h1;cases h1
  ·cases hr:ρ cg with
   |none=>rw[hr]at h3;exact h3.elim
   |some id=>
    rw[hr]at h3 h2
    simp only at h3 h2
    split at h3
    ·rename_i e;exact⟨id,rfl,by rw[e];rfl,h2⟩
    ·exact h3.elim
  ·cases hr:ρ cg with
   |none=>rw[hr]at h3;exact h3.elim
   |some id=>
    rw[hr]at h3 h2
    simp only at h3 h2
    split at h3
    ·rename_i e;exact⟨id,rfl,by rw[e];rfl,h2⟩
    ·exact h3.elim
 have A3:∀b,bw aj H' b->bw φ H b:=by
  rintro b ⟨cg,h1,h2⟩
  obtain⟨id,_,h3,h4⟩:=bA cg b h1 h2
  exact⟨id,h3,h4⟩
 have OI:∀b,ad M' aj H' b->ad M φ H b:=by
  rintro b (h|h)
  ·exact hM b h
  ·exact .inr (A3 b h)
 have fG:∀b,bR w b-> ¬ad M φ H b-> ¬ad M' aj H' b:=fun b _ h k=>h (OI b k)
 have Tf:=iz (M':=M') (aj:=aj) (H':=H') (ρ:=ρ) (nx:=nx) hH fG (fun _=>rfl) (fun _ h=>h) a8
 refine⟨⟨fun cg=> ?_,fun id hn=>c0 id (by simpa[H']using hn),fun i j b h1 h2 h3 h4=> ?_,fun b hb=>⟨fun hm=>BR b hm hb,(hH.ours b (A3 b hb)).2⟩,OH⟩,A3,fG,
  n6 (M':=M') (aj:=aj) (H':=H') (ρ:=ρ) (nx:=nx) hH fG (fun _=>rfl) (fun _ h=>h) a8⟩
 ·have h3:=ho cg
  unfold jN at h3
  unfold aC
  simp only[H']
  split at h3
  ·rename_i e;rw[e];trivial
  ·rename_i cs' e
   rw[e]
   cases hr:ρ cg with
   |none=>rw[hr]at h3;exact h3.elim
   |some id=>
    rw[hr]at h3
    simp only at h3
    split at h3
    ·rename_i cs e2
     have:=hH.ok id
     unfold aC at this
     rw[e2]at this
     obtain⟨b,cl,ty,k1,k2,k3,k4⟩:=this
     exact⟨b,cl,ty,by simp only[aj,hr];exact k1,k2,Tf _ _ _ h3 k3,k4⟩
    ·exact h3.elim
  ·rename_i ep ty sz es e
   rw[e]
   cases hr:ρ cg with
   |none=>
    rw[hr]at h3
    obtain⟨rfl,h4⟩:=h3
    exact⟨h4,[],by simp only[aj,hr];exact World.ownsRow_nil _ _ _ _,[],by simp,by simp,rfl⟩
   |some id=>
    rw[hr]at h3
    simp only at h3
    split at h3
    ·rename_i e2
     obtain⟨rfl,rfl,rfl⟩:=h3
     have:=hH.ok id
     unfold aC at this
     rw[e2]at this
     obtain⟨k1,xs,k2,evs,k3,k4,k5⟩:=this
     exact⟨k1,xs,by simp only[aj,hr];exact k2,evs,k3,k4,D.aB (fun b hb hn=>⟨rfl,fG b hb hn⟩) _ _ k5⟩
    ·exact h3.elim
  ·rename_i ep es e
   rw[e]
   cases hr:ρ cg with
   |none=>rw[hr]at h3;exact h3.elim
   |some id=>
    rw[hr]at h3
    simp only at h3
    split at h3
    ·rename_i e2
     subst h3
     have:=hH.ok id
     unfold aC at this
     rw[e2]at this
     simp only[aj,hr]
     exact D.ax (fun b hb hn=>⟨rfl,fG b hb hn⟩) _ _ this
    ·exact h3.elim
  ·rename_i kt vt l e
   rw[e]
   cases hr:ρ cg with
   |none=>rw[hr]at h3;exact h3.elim
   |some id=>
    rw[hr]at h3
    simp only at h3
    split at h3
    ·rename_i e2
     obtain⟨rfl,rfl,rfl⟩:=h3
     have:=hH.ok id
     unfold aC at this
     rw[e2]at this
     obtain⟨b,es,clock,k1,k2,k4,k3⟩:=this
     exact⟨b,es,clock,by simp only[aj,hr];exact k1,k2,k4,aA.mono (fun b hb hn=>⟨rfl,fG b hb hn⟩) _ _ k3⟩
    ·exact h3.elim
  ·rename_i nf n env ps a b st pd e
   rw[e]
   cases hr:ρ cg with
   |none=>rw[hr]at h3;exact h3.elim
   |some id=>
    rw[hr]at h3
    simp only at h3
    split at h3
    ·rename_i e2
     obtain⟨rfl,rfl,rfl,rfl,rfl,rfl,rfl,hv⟩:=h3
     have:=hH.ok id
     unfold aC at this
     rw[e2]at this
     obtain⟨b,r,k1,k2,k3,k4,k5,k6,k7,k8,k9,zW⟩:=this
     refine⟨b,r,by simp only[aj,hr];exact k1,k2,k3,k4,k5,k6,k7,k8,k9,fun i=> ?_⟩
     have key:∀ (xs vs:List V),m5 ρ o' H.o nx xs vs->∀i,nC ρ o' H.o nx (bD xs i) (bD vs i):=by
      intro xs
      induction xs with
      |nil=>intro vs hv i;simp[bD,nC]
      |cons x xs ih=>
       intro vs hv i
       unfold m5 at hv
       split at hv
       ·cases i with
        |zero=>exact hv.1
        |succ i=>exact ih _ hv.2 i
       ·exact hv.elim
     exact n6 (M':=M') (aj:=aj) (H':=H') (ρ:=ρ) (nx:=nx) hH fG (fun _=>rfl) (fun _ h=>h) a8 _ _ _ (key _ _ hv i) (zW i)
    ·exact h3.elim
  ·rename_i l e
   rw[e]
   cases hr:ρ cg with
   |none=>rw[hr]at h3;exact h3.elim
   |some id=>
    rw[hr]at h3
    simp only at h3
    split at h3
    ·rename_i e2
     subst h3
     have:=hH.ok id
     unfold aC at this
     rw[e2]at this
     simp only[aj,hr]
     exact D.ax (fun b hb hn=>⟨rfl,fG b hb hn⟩) _ _ this
    ·exact h3.elim
  ·rename_i l last e
   rw[e]
   cases hr:ρ cg with
   |none=>rw[hr]at h3;exact h3.elim
   |some id=>
    rw[hr]at h3
    simp only at h3
    split at h3
    ·rename_i zT e2
     obtain⟨rfl,h3⟩:=h3
     have:=hH.ok id
     unfold aC at this
     rw[e2]at this
     obtain⟨b,k1,k2⟩:=this
     have k3:ot (ad M' aj H') w l zT b:=k2.mono (fun b hb hn=>⟨rfl,fG b hb hn⟩) rfl
     refine⟨b,by simp only[aj,hr];exact k1, ?_⟩
     rcases h3 with rfl|rfl
     ·rcases k3 with⟨a1,a2,_⟩|⟨m,since,seen,es,a1,a2,a3,a4,a5,_⟩
      ·exact .inl ⟨a1,a2,rfl⟩
      ·exact .inr ⟨m,since,seen,es,a1,a2,a3,a4,a5,fun _ _ e=>by cases e⟩
     ·exact k3
    ·exact h3.elim
  ·rename_i s pos e
   rw[e]
   cases hr:ρ cg with
   |none=>rw[hr]at h3;exact h3.elim
   |some id=>
    rw[hr]at h3
    simp only at h3
    split at h3
    ·rename_i e2
     obtain⟨rfl,rfl⟩:=h3
     have:=hH.ok id
     unfold aC at this
     rw[e2]at this
     obtain⟨b,k1,k2⟩:=this
     exact⟨b,by simp only[aj,hr];exact k1,k2⟩
    ·exact h3.elim
 ·obtain⟨k1,g1,g2,g3⟩:=bA i b h1 h3
  obtain⟨k2,g4,g5,g6⟩:=bA j b h2 h4
  have:=hH.apart k1 k2 b g2 g5 g3 g6
  subst this
  exact rH i j k1 h1 h2 g1 g4
theorem cR.of_map {b:Nat}{s s':S}(ρ:Nat->Option Nat)(hb:b<=s'.nx)(ho:∀id,jN ρ s'.o s.o s'.nx id)(c0:∀id,s'.nx<=id->s'.o id= .no)
 (rH:∀i j k,(s'.o i).live=true->(s'.o j).live=true->ρ i=some k->ρ j=some k->i=j)
 (kE:∀id,id<b->ρ id=some id/\(∀e',(s'.o id).aP=some e'->∃e,(s.o id).aP=some e/\e<=e')) (cO:∀i,nC ρ s'.o s.o s'.nx (s'.env i) (s.env i)):cR b s s':=by
 intro M φ w tm hH he
 obtain⟨h1,h2,_,h4⟩:=zV (M':=M) (ρ:=ρ) (nx:=s'.nx) hH (o':=s'.o) ho c0 rH (fun b hb=> .inl hb) hH.p7 (fun b hb hl=>by
  have:bw φ s.H b:=by
   obtain⟨cg,g1,g2⟩:=hl
   have h3:=ho cg
   unfold jN at h3
   simp only at g1 g2
   split at h3
   ·rename_i e;rw[e]at g1;cases g1
   ·cases hr:ρ cg with
    |none=>rw[hr]at h3;exact h3.elim
    |some id=>
     rw[hr]at h3 g2
     simp only at h3 g2
     split at h3
     ·rename_i e;exact⟨id,by simp only[S.H];rw[e];rfl,g2⟩
     ·exact h3.elim
   ·cases hr:ρ cg with
    |none=>rw[hr]at g2;simp[dz]at g2
    |some id=>
     rw[hr]at h3 g2
     simp only at h3 g2
     split at h3
     ·rename_i e;exact⟨id,by simp only[S.H];rw[e];rfl,g2⟩
     ·exact h3.elim
   ·rename_i e;rw[e]at g1;cases g1
   ·cases hr:ρ cg with
    |none=>rw[hr]at h3;exact h3.elim
    |some id=>
     rw[hr]at h3 g2
     simp only at h3 g2
     split at h3
     ·rename_i e;exact⟨id,by simp only[S.H];rw[e];rfl,g2⟩
     ·exact h3.elim
   ·cases hr:ρ cg with
    |none=>rw[hr]at h3;exact h3.elim
    |some id=>
     rw[hr]at h3 g2
     simp only at h3 g2
     split at h3
     ·rename_i e;exact⟨id,by simp only[S.H];rw[e];rfl,g2⟩
     ·exact h3.elim
   ·rename_i e;rw[e]at g1;cases g1
   ·cases hr:ρ cg with
    |none=>rw[hr]at h3;exact h3.elim
    |some id=>
     rw[hr]at h3 g2
     simp only at h3 g2
     split at h3
     ·rename_i e;exact⟨id,by simp only[S.H];rw[e];rfl,g2⟩
     ·exact h3.elim
   ·cases hr:ρ cg with
    |none=>rw[hr]at h3;exact h3.elim
    |some id=>
     rw[hr]at h3 g2
     simp only at h3 g2
     split at h3
     ·rename_i e;exact⟨id,by simp only[S.H];rw[e];rfl,g2⟩
     ·exact h3.elim
  exact(hH.ours b this).1 hb)
 refine⟨_,h1,fun i=>h4 _ _ _ (cO i) (he i),h2,hb,fun id ah hr=> ?_,fun id e' ah dY=> ?_⟩
 ·obtain⟨g1,_⟩:=kE id ah
  refine⟨?_,by simp only[g1]⟩
  have h3:=ho id
  unfold jN at h3
  rw[g1]at h3
  split at h3
  ·rename_i e;rw[e]at hr;cases hr
  ·simp only at h3
   split at h3
   ·rename_i e;rw[e];rfl
   ·exact h3.elim
  ·rename_i e;rw[e]at hr;cases hr
  ·rename_i e;rw[e]at hr;cases hr
  ·simp only at h3
   split at h3
   ·rename_i e;rw[e];rfl
   ·exact h3.elim
  ·simp only at h3
   split at h3
   ·rename_i e;rw[e];rfl
   ·exact h3.elim
  ·simp only at h3
   split at h3
   ·rename_i e;rw[e];rfl
   ·exact h3.elim
  ·simp only at h3
   split at h3
   ·rename_i e;rw[e];rfl
   ·exact h3.elim
  ·simp only at h3
   split at h3
   ·rename_i e;rw[e];rfl
   ·exact h3.elim
 ·obtain⟨g1,g2⟩:=kE id ah
  obtain⟨e,g3,g4⟩:=g2 e' dY
  exact⟨e,g3,g4,fun _=>by simp only[g1]⟩
end
end Go.Proofs.YtpkobkdgcanmjaaGreat
namespace Go.Proofs.YtpkobkdgcanmjaaGreat
@[go_sem] theorem iA (v:V) (l:List V):bD (v::l) 0=v:=rfl
@[go_sem] theorem fQ (v:V) (l:List V) (i:Nat):bD (v::l) (i+1)=bD l i:=rfl
@[go_sem] theorem iB (i:Nat):bD [] i= .ak:=by simp[bD]
def fD:List (Nat×Option Nat)->Nat->Option Nat
 |[],id=>some id
 |(i,r)::R,id=>if i=id then r else fD R id
def BS(R:List (Nat×Option Nat)):List Nat->Bool
 |[]=>true
 |i::l=>l.all (fun j=>i==j||fD R i==none||fD R i !=fD R j)&&BS R l
def wN(ρ:Nat->Option Nat)(o' o:Nat->aa)(nx:Nat)(env:Nat->V):List V->Nat->Prop
 |[],_=>True
 |v::l,i=>nC ρ o' o nx v (env i)/\wN ρ o' o nx env l (i+1)
def sd(ρ:Nat->Option Nat)(o' o:Nat->aa)(nx:Nat):List Nat->Prop
 |[]=>True
 |i::l=>jN ρ o' o nx i/\sd ρ o' o nx l
def EH:Option Nat->Option Nat->Prop
 |none,_=>True
 |some _,none=>False
 |some a,some b=>b<=a
def wO(b:Nat)(o' o:Nat->aa):List Nat->Prop
 |[]=>True
 |i::l=>(i<b->EH (o' i).aP (o i).aP)/\wO b o' o l
theorem BT{o:Nat->aa}:∀ (Δ:List (Nat×aa)) (id:Nat),id∉Δ.map (·.1)->put o Δ id=o id:=by
 intro Δ
 induction Δ generalizing o with
 |nil=>intro id _;rfl
 |cons p Δ ih=>
  intro id h
  simp only[List.map_cons,List.mem_cons,not_or]at h
  rw[yi,ih id h.2]
  simp[h.1]
theorem cR.to {b:Nat}{s:S}(l:List V)(Δ:List (Nat×aa))(nx:Nat)(R:List (Nat×Option Nat))(h1:decide (b<=nx)=true)(h2:(Δ.map (·.1)).all (· <nx)=true)(h3:BS R (Δ.map (·.1))=true)(h4:R.all (fun r=>decide (b<=r.1))=true)
 (h5:wO b (put (fun _=> .no) Δ) s.o (Δ.map (·.1))) (h6:sd (fD R) (put (fun _=> .no) Δ) s.o nx (Δ.map (·.1))) (h7:wN (fD R) (put (fun _=> .no) Δ) s.o nx s.env l 0):
 cR b s ⟨bD l,put (fun _=> .no) Δ,nx⟩:=by
 have qc:∀id,id∈Δ.map (·.1)\/put (fun _=>aa.no) Δ id= .no:=fun id=>by
  by_cases h:id∈Δ.map (·.1)
  ·exact .inl h
  ·exact .inr (BT Δ id h)
 have oA:∀ (ids:List Nat),sd (fD R) (put (fun _=> .no) Δ) s.o nx ids->∀id∈ids,jN (fD R) (put (fun _=> .no) Δ) s.o nx id:=by
  intro ids
  induction ids with
  |nil=>intro _ id h;cases h
  |cons i ids ih=>
   intro h id ah
   rcases List.mem_cons.1 ah with rfl|ah
   ·exact h.1
   ·exact ih h.2 id ah
 have OJ:∀ (ids:List Nat),wO b (put (fun _=> .no) Δ) s.o ids->∀id∈ids,id<b->EH (put (fun _=>aa.no) Δ id).aP (s.o id).aP:=by
  intro ids
  induction ids with
  |nil=>intro _ id h;cases h
  |cons i ids ih=>
   intro h id ah
   rcases List.mem_cons.1 ah with rfl|ah
   ·exact h.1
   ·exact ih h.2 id ah
 have cO:∀ (l:List V) (i:Nat),wN (fD R) (put (fun _=> .no) Δ) s.o nx s.env l i->∀j,nC (fD R) (put (fun _=> .no) Δ) s.o nx (bD l j) (s.env (i+j)):=by
  intro l
  induction l with
  |nil=>intro i _ j;rw[iB];simp[nC]
  |cons v l ih=>
   intro i h j
   cases j with
   |zero=>exact h.1
   |succ j=>
    rw[fQ]
    have:=ih (i+1) h.2 j
    rwa [show i+1+j=i+(j+1) by omega]at this
 have rH:∀ (ids:List Nat),BS R ids=true->∀i∈ids,∀j∈ids,∀k,fD R i=some k->fD R j=some k->i=j:=by
  intro ids
  induction ids with
  |nil=>intro _ i h;cases h
  |cons x ids ih=>
   intro h i hi j hj k h1 h2
   simp only[BS,Bool.and_eq_true,List.all_eq_true]at h
   rcases List.mem_cons.1 hi with yW|yW<;>rcases List.mem_cons.1 hj with Br|Br
   ·exact yW.trans Br.symm
   ·subst yW
    have:=h.1 j Br
    simp only[Bool.or_eq_true,beq_iff_eq,bne_iff_ne,ne_eq]at this
    rcases this with(e|e)|e
    ·exact e
    ·rw[h1]at e;cases e
    ·exact absurd (h1.trans h2.symm) e
   ·subst Br
    have:=h.1 i yW
    simp only[Bool.or_eq_true,beq_iff_eq,bne_iff_ne,ne_eq]at this
    rcases this with(e|e)|e
    ·exact e.symm
    ·rw[h2]at e;cases e
    ·exact absurd (h2.trans h1.symm) e
   ·exact ih h.2 i yW j Br k h1 h2
 have HU:∀ (R:List (Nat×Option Nat)),R.all (fun r=>decide (b<=r.1))=true->∀id,id<b->fD R id=some id:=by
  intro R
  induction R with
  |nil=>intro _ id _;rfl
  |cons r R ih=>
   intro h id ah
   obtain⟨i,r⟩:=r
   simp only[List.all_cons,Bool.and_eq_true,decide_eq_true_eq]at h
   unfold fD
   rw[if_neg (by omega)]
   exact ih h.2 id ah
 have rK:∀id,(put (fun _=>aa.no) Δ id).live=true->id∈Δ.map (·.1):=fun id h=>by
  rcases qc id with h'|h'
  ·exact h'
  ·rw[h']at h;cases h
 refine cR.of_map (fD R) (by simpa using h1) (fun id=> ?_) (fun id ah=> ?_) (fun i j k g1 g2 g3 g4=>rH _ h3 i (rK i g1) j (rK j g2) k g3 g4) (fun id ah=>⟨HU R h4 id ah,fun e' he=> ?_⟩) (fun i=>by simpa using cO l 0 h7 i)
 ·rcases qc id with h|h
  ·exact oA _ h6 id h
  ·unfold jN;simp only[h]
 ·rcases qc id with h|h
  ·have:=List.all_eq_true.1 h2 id h
   simp only[decide_eq_true_eq]at this
   simp only at ah
   omega
  ·exact h
 ·rcases qc id with h|h
  ·have:=OJ _ h5 id h ah
   simp only at he
   rw[he]at this
   cases hs:(s.o id).aP with
   |none=>rw[hs]at this;exact this.elim
   |some e=>rw[hs]at this;exact⟨e,rfl,this⟩
  ·simp only[h]at he;cases he
@[go_sem] theorem Dr (k:Nat):(0<=(k:Int))=True:=by simp
attribute [go_sem] List.getElem?_map List.length_map Int.toNat_natCast
attribute [go_sem] dE List.flatMap_cons List.flatMap_nil
attribute [go_sem] isConst mP Bb mN mO sS mL xq kR kS ql ox oy lJ
attribute [go_sem] fO V.refs V.aw
attribute [go_sem] wN sd wO EH nC m5 jN fD BQ List.all_nil List.all_cons Option.some.injEq D.int.injEq D.bool.injEq Nat.zero_add Nat.add_zero
theorem wrap64{n:Int}(h1: -9223372036854775808<=n)(h2:n<=9223372036854775807):IntKind.i64.wrap n=n:=by
 unfold IntKind.wrap
 have e1:((2:Int)^IntKind.i64.bits)=18446744073709551616:=by decide
 have e2:((2:Int)^(IntKind.i64.bits - 1))=9223372036854775808:=by decide
 have e3:IntKind.i64.signed=true:=rfl
 simp only[e1,e2,e3,Bool.true_and,decide_eq_true_eq]
 split<;>omega
end Go.Proofs.YtpkobkdgcanmjaaGreat
namespace Go.Proofs.YtpkobkdgcanmjaaGreat
structure Good (o:Nat->aa) (nx:Nat):Prop where
 fresh:∀id,nx<=id->o id= .no
 refs:∀id,∀r∈(o id).refs,r<nx
theorem Good.nil {nx:Nat}:Good (fun _=> .no) nx:=⟨fun _ _=>rfl,fun id r h=>by cases h⟩
theorem Good.aQ {o:Nat->aa}{nx i:Nat}{x:aa}(h:Good o nx)(hi:i<nx)(hx:x.refs.all (fun r=>decide (r<nx))=true):Good (aQ o i x) nx:=by
 refine⟨fun id ah=> ?_,fun id r hr=> ?_⟩
 ·rw[ay _ _ _ _ (by omega)];exact h.fresh id ah
 ·by_cases e:id=i
  ·subst e
   rw[aG]at hr
   simpa using List.all_eq_true.1 hx r hr
  ·rw[ay _ _ _ _ e]at hr
   exact h.refs id r hr
theorem Good.mono {o:Nat->aa}{nx m:Nat}(h:Good o nx)(hm:nx<=m):Good o m:=⟨fun id ah=>h.fresh id (by omega),fun id r hr=>Nat.lt_of_lt_of_le (h.refs id r hr) hm⟩
theorem Good.lt {o:Nat->aa}{nx id:Nat}(h:Good o nx)(hn:o id≠ .no):id<nx:=by
 rcases Nat.lt_or_ge id nx with hl|hl
 ·exact hl
 ·exact absurd (h.fresh id hl) hn
theorem V.iC:∀ (l:List V) (i:Nat),∀r∈(bD l i).refs,r∈V.aw l
 |[],i,r,h=>by rw[iB]at h;cases h
 |v::l,0,r,h=>by rw[iA]at h;simp only[V.aw,List.mem_append];exact .inl h
 |v::l,i+1,r,h=>by rw[fQ]at h;simp only[V.aw,List.mem_append];exact .inr (V.iC l i r h)
theorem cR.back {b:Nat}{s:S}{env:Nat->V}{o:Nat->aa}{nx:Nat}(hb:b<=nx)(hn:nx<=s.nx)(hg:Good o nx)(ho:∀id,id<nx->s.o id=o id)
 (he:∀i,env i= .ak\/(env i=s.env i/\∀r∈(env i).refs,r<nx)):cR b s ⟨env,o,nx⟩:=by
 intro M φ w tm hH hd
 have bA:∀k,bw φ (hp o nx) k->bw φ s.H k:=by
  rintro k ⟨id,h1,h2⟩
  have ah:id<nx:=hg.lt (fun e=>by simp only[hp]at h1;rw[e]at h1;cases h1)
  exact⟨id,by simp only[S.H];rw[ho id ah];exact h1,h2⟩
 have hB:∀k, ¬ad M φ s.H k-> ¬ad M φ (hp o nx) k:=fun k h h'=>h (h'.imp id (bA k))
 have dt:∀ (v:V) (val:Value),(∀r∈v.refs,r<nx)->V.den (ad M φ s.H) φ s.H w v val->V.den (ad M φ (hp o nx)) φ (hp o nx) w v val:=fun v val hr h=>
  V.iw (H:=s.H) (H':=hp o nx) hB v val (fun id ah=>⟨(ho id (hr id ah)).symm,rfl,hr id ah⟩) h
 have jg:∀ (v:List V) (val:List Value),(∀r∈V.aw v,r<nx)->V.au (ad M φ s.H) φ s.H w v val->V.au (ad M φ (hp o nx)) φ (hp o nx) w v val:=fun v val hr h=>
  V.dP (H:=s.H) (H':=hp o nx) hB v val (fun id ah=>⟨(ho id (hr id ah)).symm,rfl,hr id ah⟩) h
 refine⟨φ,⟨fun id=> ?_,fun id hu=>hg.fresh id (by simpa[S.H]using hu),fun i j k h1 h2 h3 h4=> ?_,fun k hk=>hH.ours k (bA k hk),hH.p7⟩,fun i=> ?_,bA,hb,fun id ah hr=> ?_,fun id e' ah dY=> ?_⟩
 ·have aJ:=hH.ok id
  have hrefs:=hg.refs id
  unfold aC at aJ|-
  by_cases ah:id<nx
  ·have e:s.H.o id=o id:=ho id ah
   rw[e]at aJ
   simp only[S.H]at aJ|-
   cases hx:o id with
   |no=>trivial
   |row cs=>
    simp only[hx]at aJ hrefs|-
    obtain⟨b,cl,ty,k1,k2,k3,k4⟩:=aJ
    exact⟨b,cl,ty,k1,k2,jg _ _ hrefs k3,k4⟩
   |arr ep ty sz es=>
    simp only[hx]at aJ|-
    obtain⟨k1,xs,k2,evs,k3,k4,k5⟩:=aJ
    exact⟨k1,xs,k2,evs,k3,k4,D.aB (fun b _ hn=>⟨rfl,hB b hn⟩) _ _ k5⟩
   |lG ep es=>
    simp only[hx]at aJ|-
    exact D.ax (fun b _ hn=>⟨rfl,hB b hn⟩) _ _ aJ
   |map kt vt es=>
    simp only[hx]at aJ|-
    obtain⟨b,es',clock,k1,k2,k4,k3⟩:=aJ
    exact⟨b,es',clock,k1,k2,k4,aA.mono (fun b _ hn=>⟨rfl,hB b hn⟩) _ _ k3⟩
   |ef l=>
    simp only[hx]at aJ|-
    exact D.ax (fun b _ hn=>⟨rfl,hB b hn⟩) _ _ aJ
   |mJ l last=>
    simp only[hx]at aJ|-
    obtain⟨b,k1,k2⟩:=aJ
    exact⟨b,k1,k2.mono (fun b _ hn=>⟨rfl,hB b hn⟩) rfl⟩
   |oq s pos=>
    simp only[hx]at aJ|-
    exact aJ
   |loop nf n env ps a b st pd=>
    simp only[hx]at aJ hrefs|-
    obtain⟨b,r,k1,k2,k3,k4,k5,k6,k7,k8,k9,zW⟩:=aJ
    exact⟨b,r,k1,k2,k3,k4,k5,k6,k7,k8,k9,fun i=>dt _ _ (fun r hr=>hrefs r (V.iC _ _ r hr)) (zW i)⟩
  ·simp only[S.H]
   rw[hg.fresh id (by omega)]
   trivial
 ·have hi:i<nx:=hg.lt (fun e=>by simp only[S.H]at h1;rw[e]at h1;cases h1)
  have hj:j<nx:=hg.lt (fun e=>by simp only[S.H]at h2;rw[e]at h2;cases h2)
  exact hH.apart i j k (by simp only[S.H];rw[ho i hi];exact h1) (by simp only[S.H];rw[ho j hj];exact h2) h3 h4
 ·rcases he i with h|⟨h1,h2⟩
  ·simp only[h];trivial
  ·have:=hd i
   rw[<- h1]at this
   exact dt _ _ h2 this
 ·have bz:id<nx:=by omega
  exact⟨by rw[ho id bz];exact hr,rfl⟩
 ·have bz:id<nx:=by omega
  exact⟨e',by rw[ho id bz];exact dY,Nat.le_refl _,fun _=>rfl⟩
def iD(nx:Nat)(env:Nat->V):List V->Nat->Prop
 |[],_=>True
 |v::l,i=>(v= .ak\/(v=env i/\∀r∈v.refs,r<nx))/\iD nx env l (i+1)
theorem cR.fE {b:Nat}{e:Nat->V}{so:Nat->aa}{m:Nat}(l:List V){o:Nat->aa}{nx:Nat}(hb:b<=nx)(hn:nx<=m)(hg:Good o nx)(ho:∀id,id<nx->so id=o id)(he:iD nx e l 0):cR b ⟨e,so,m⟩ ⟨bD l,o,nx⟩:=by
 refine cR.back hb hn hg ho ?_
 have key:∀ (l:List V) (i:Nat),iD nx e l i->∀j,bD l j= .ak\/(bD l j=e (i+j)/\∀r∈(bD l j).refs,r<nx):=by
  intro l
  induction l with
  |nil=>intro i _ j;rw[iB];exact .inl rfl
  |cons v l ih=>
   intro i h j
   cases j with
   |zero=>rw[iA];exact h.1
   |succ j=>
    rw[fQ]
    have:=ih (i+1) h.2 j
    rwa [show i+1+j=i+(j+1) by omega]at this
 intro i
 have:=key l 0 he i
 rwa [Nat.zero_add]at this
theorem aL{nx:Nat}{env:Nat->V}{i:Nat}:iD nx env [] i:=trivial
theorem aK{nx:Nat}{env:Nat->V}{l:List V}{i:Nat}(h:iD nx env l (i+1)):iD nx env (.ak::l) i:=⟨.inl rfl,h⟩
theorem az{nx:Nat}{env:Nat->V}{l:List V}{i:Nat}{x:D}(he:env i= .d x)(h:iD nx env l (i+1)):iD nx env (.d x::l) i:=⟨.inr ⟨he.symm,fun r hr=>by simp[V.refs]at hr⟩,h⟩
theorem aY{nx:Nat}{env:Nat->V}{l:List V}{i:Nat}{v:V}(he:env i=v)(hr:∀r∈v.refs,r<nx)(h:iD nx env l (i+1)):iD nx env (v::l) i:=⟨.inr ⟨he.symm,hr⟩,h⟩
theorem cR.d0 {e:Nat->V}{so:Nat->aa}{m:Nat}(l:List V)(he:iD 0 e l 0):cR 0 ⟨e,so,m⟩ ⟨bD l,fun _=> .no,0⟩:=cR.fE l (Nat.le_refl 0) (Nat.zero_le _) Good.nil (fun _ h=>absurd h (Nat.not_lt_zero _)) he
theorem bS{k:Nat}(h:(k:Int)+1<=9223372036854775807):IntKind.i64.wrap ((k:Int)+1)=((k+1:Nat):Int):=by rw[wrap64 (by omega) h];rfl
theorem bT{k:IntKind}{a b:Int}(h:a=b):V.d (D.int k a)=V.d (D.int k b):=by rw[h]
end Go.Proofs.YtpkobkdgcanmjaaGreat
namespace Go.Proofs.YtpkobkdgcanmjaaGreat
abbrev D.i (n:Int):D:= .int .i64 n
structure lD where
 name:List UInt8
 args:Int
structure bX where
 cons:List lD
 dU:List lD
inductive Tm where
 |mk (op n:Int) (kids:List Tm)
 deriving Inhabited
structure TB where
 var:Int
 term:Tm
def Tm.op:Tm->Int| .mk op _ _=>op
def Tm.n:Tm->Int| .mk _ n _=>n
def Tm.kids:Tm->List Tm| .mk _ _ l=>l
theorem Tm.eta (t:Tm):Tm.mk t.op t.n t.kids=t:=by cases t;rfl
theorem Tm.ind {P:Tm->Prop}(h:∀op n kids,(∀k∈kids,P k)->P (.mk op n kids)):∀t,P t:=
 fun t=>Tm.rec (motive_1:=P) (motive_2:=fun l=>∀k∈l,P k) (fun op n kids ih=>h op n kids ih) (fun _ h=>by cases h)
  (fun x l hx hl k hk=>(List.mem_cons.1 hk).elim (fun e=>e ▸ hx) (hl k)) t
mutual
def Tm.d:Tm->D
 | .mk op n kids=> .agg [.i op, .i n, .sl (Tm.ds kids)]
def Tm.ds:List Tm->List D
 |[]=>[]
 |t::l=>t.d::Tm.ds l
end
theorem Tm.vM:∀l:List Tm,Tm.ds l=l.map Tm.d
 |[]=>rfl
 |t::l=>by simp[Tm.ds,Tm.vM l]
theorem Tm.HV (t:Tm):t.d= .agg [.i t.op, .i t.n, .sl (t.kids.map Tm.d)]:=by cases t;simp[Tm.d,Tm.vM,Tm.op,Tm.n,Tm.kids]
@[go_sem] theorem Tm.OK (t:Tm):D.agg [.i t.op, .i t.n, .sl (t.kids.map Tm.d)]=t.d:=(Tm.HV t).symm
@[go_sem] theorem Tm.Nn (t:Tm):D.cells t.d=[.i t.op, .i t.n, .sl (t.kids.map Tm.d)]:=by rw[Tm.HV];rfl
theorem Tm.ja {P:Tm->Prop}(h:∀t:Tm,(∀k∈t.kids,P k)->P t):∀t,P t:=Tm.ind fun op n kids ih=>h (.mk op n kids) ih
theorem Tm.zX (op n:Int)(l:List Tm):(Tm.mk op n l).d= .agg [.i op, .i n, .sl (l.map Tm.d)]:=by simp[Tm.d,Tm.vM]
@[reducible] def lD.d (x:lD):D:= .agg [.str x.name, .i x.args]
@[reducible] def bX.d (s:bX):D:= .agg [.sl (s.cons.map lD.d), .sl (s.dU.map lD.d)]
@[reducible] def TB.d (b:TB):D:= .agg [.i b.var, .i b.term.op, .i b.term.n, .sl (b.term.kids.map Tm.d)]
mutual
def Tm.fits:Tm->Prop
 | .mk _ _ kids=>kids.length<=9223372036854775807/\Tm.pt kids
def Tm.pt:List Tm->Prop
 |[]=>True
 |t::l=>t.fits/\Tm.pt l
end
theorem Tm.qR:∀l:List Tm,Tm.pt l↔∀k∈l,k.fits
 |[]=>by simp[Tm.pt]
 |t::l=>by simp[Tm.pt,Tm.qR l]
theorem Tm.bF (t:Tm):t.fits↔t.kids.length<=9223372036854775807/\∀k∈t.kids,k.fits:=by cases t;simp[Tm.fits,Tm.qR,Tm.kids]
mutual
def Tm.lE:Tm->Nat
 | .mk _ _ kids=>1+Tm.gu kids
def Tm.gu:List Tm->Nat
 |[]=>0
 |k::l=>Nat.max k.lE (Tm.gu l)
end
theorem Tm.ui:∀ {l:List Tm} {k:Tm},k∈l->k.lE<=Tm.gu l
 |x::l,k,h=>by
  simp only[Tm.gu]
  rcases List.mem_cons.1 h with rfl|h
  ·exact Nat.le_max_left _ _
  ·exact Nat.le_trans (Tm.ui h) (Nat.le_max_right _ _)
theorem Tm.BU {t k:Tm}(h:k∈t.kids):k.lE+1<=t.lE:=by
 cases t;simp only[Tm.kids]at h;simp only[Tm.lE];have:=Tm.ui h;omega
mutual
def pre:Tm->Int->List (Tm×Int)
 | .mk op n kids,d=>(.mk op n kids,d)::BV kids (d+1)
def BV:List Tm->Int->List (Tm×Int)
 |[],_=>[]
 |k::l,d=>pre k d++BV l d
end
theorem yj(l:List Tm)(d:Int):BV l d=l.flatMap fun k=>pre k d:=by
 induction l with
 |nil=>rfl
 |cons k l ih=>simp[BV,ih]
theorem se(t:Tm)(d:Int):pre t d=(t,d)::t.kids.flatMap fun k=>pre k (d+1):=by cases t;simp[pre,yj,Tm.kids]
def iI(n low high:Int):Bool:=decide (low<=n)&&decide (n<=high)
def letterF(b:UInt8):Bool:= !((decide ((b.toNat:Int)<97)||decide (122<(b.toNat:Int)))&&(decide ((b.toNat:Int)<65)||decide (90<(b.toNat:Int))))
def gv(s:List UInt8):Bool:=s.all letterF&&iI s.length 1 8
def bO:List lD->List (List UInt8)->Option (List (List UInt8))
 |[],before=>some before
 |x::l,before=>if before.any (· ==x.name)then none else if(!gv x.name|| !iI x.args 0 4)=true then none else bO l (before++[x.name])
def fB:List UInt8:=[70,97,108,115,101]
def tB:List UInt8:=[84,114,117,101]
def jm(x:lD)(s:List UInt8):Bool:=x.name==s&&x.args==0
def ml(s:bX):Bool:=
 if(!iI s.cons.length 2 12||decide (8<(s.dU.length:Int)))=true then false else
 match s.cons with
 |a::b::_=>if(!jm a fB|| !jm b tB)=true then false else
  match bO s.cons []with
  |none=>false
  |some l=>(bO s.dU l).isSome
 |_=>false
mutual
def eS:Tm->Int->Int->Int
 | .mk _ _ kids,left,depth=>if left<1\/depth<1 then -1 else bP kids (left - 1) (depth - 1)
def bP:List Tm->Int->Int->Int
 |[],left,_=>left
 |k::l,left,depth=>if 0<=left then bP l (eS k left depth) depth else left
end
def jP(l:List lD)(n:Int):Int:=match l[n.toNat]? with|some x=>x.args|none=>0
mutual
def mm:Tm->Tm->Bool
 | .mk op n kids, .mk Tg n' Ds=>op==Tg&&n==n'&&kids.length==Ds.length&&jb kids Ds
def jb:List Tm->List Tm->Bool
 |[],_=>true
 |k::l,k'::l'=>mm k k'&&jb l l'
 |_::_,[]=>true
end
def ee(l:List lD):Bool:=l.all fun x=>decide ((x.name.length:Int)<=30)
def iE(s:bX):Bool:= !(decide (16<(s.cons.length:Int))||decide (12<(s.dU.length:Int)))&&ee s.cons&&ee s.dU
end Go.Proofs.YtpkobkdgcanmjaaGreat
namespace Go.Proofs.YtpkobkdgcanmjaaGreat
def vN(id:Nat)(K X:V->(Nat->aa)->Nat->Prop)(e:fq)(s:S):Prop:=
 match e with
 | .normal=>∃nf m en p c d st pd,s.o id= .loop nf m en p c d st pd/\K (.d (.bool true)) (aQ s.o id (.loop nf m en p c d .ready none)) s.nx
 | .ret=>∃nf m en p c d st pd,s.o id= .loop nf m en p c d st pd/\K (.d (.bool false)) (aQ s.o id (.loop nf m en p c d .done (some .ret))) s.nx
 | .exit j=>∃nf m en p c d st pd,s.o id= .loop nf m en p c d st pd/\K (.d (.bool false)) (aQ s.o id (.loop nf m en p c d .done (some (.exit j)))) s.nx
 | .bf v=>X v s.o s.nx
def EI(P:Program)(n b id:Nat)(gB:IC)(K X:V->(Nat->aa)->Nat->Prop)(e:fq)(s:S):Prop:=
 match e with
 | .normal=>∃nf m en p c d pd,s.o id= .loop nf m en p c d .ready pd/\n5 P n b true gB (vN id K X) ⟨s.env,aQ s.o id (.loop nf m en p c d .busy pd),s.nx⟩
 | .bf v=>X v s.o s.nx
 |_=>False
section
variable {P:Program}{M:Nat->Prop}{φ b7:Place}{H0:Hp}{w w0:World}{n:Nat}{s:S}{a:Act}{cx:Cx}
theorem uj{id:Nat}{x:aa}{s:S}(bz:id<s.nx)(j:Nat)(hu:(s.H.put [(id,x)]).us j):j<s.nx:=by
 simp only[cZ]at hu
 rcases hu with hu|hu
 ·exact hu
 ·subst hu;exact bz
theorem pv{B:Nat->Prop}{H:Hp}{n:Nat}:∀ (ps:List Nat) (vs:List V) (us:List Value) (env:Nat->V) (tmps:Array Value),tmps.size=n->ps.length=vs.length->V.au B φ H w vs us->ps.all (fun t=>decide (t<n))=true->(∀i,V.den B φ H w (env i) (tmps.getD i undef))->
 ((ps.zip us).foldl (fun tmps p=>tmps.setIfInBounds p.1 p.2) tmps).size=n/\∀i,V.den B φ H w (vK env ps vs i) (((ps.zip us).foldl (fun tmps p=>tmps.setIfInBounds p.1 p.2) tmps).getD i undef)
 |[],[],us,env,tmps,du,_,hd,_,he=>by simp only[V.au]at hd;subst hd;exact⟨du,he⟩
 |[],v::vs,us,env,tmps,_,h,_,_,_=>by simp at h
 |t::ps,[],us,env,tmps,_,h,_,_,_=>by simp at h
 |t::ps,v::vs,us,env,tmps,du,hl,hd,hp,he=>by
  obtain⟨u,us,rfl,h1,h2⟩:=hd
  simp only[List.all_cons,Bool.and_eq_true,decide_eq_true_eq]at hp
  simp only[List.zip_cons_cons,List.foldl_cons,vK]
  refine pv ps vs us (aQ env t v) (tmps.setIfInBounds t u) (by simp[du]) (by simpa using hl) h2 hp.2 (fun i=> ?_)
  simp only[aE]
  by_cases hi:i=t
  ·subst hi
   have:(tmps.setIfInBounds i u).getD i undef=u:=by simp[Array.getD,du,hp.1]
   rw[if_pos rfl,this];exact h1
  ·have:(tmps.setIfInBounds t u).getD i undef=tmps.getD i undef:=by
    simp only[Array.getD_eq_getD_getElem?]
    rw[Array.getElem?_setIfInBounds_ne (Ne.symm hi)]
   rw[if_neg hi,this];exact he i
theorem dS.pf (aS:P.follows .mixedOrders=true){id:Nat}{args:List V}{o:Nat->aa}{nx:Nat}{K X:V->(Nat->aa)->Nat->Prop}{env:List V}{ps:List Nat}{kA gB:IC}{st:LoopState}{pd:Option lz}
 (ho:o id= .loop P.funcs.size n env ps kA gB st pd) (bz:id<nx) (HW:ps.all (fun t=>decide (t<n))=true) (hl:args.length=ps.length)
 (h:n5 P n nx true kA (EI P n nx id gB K X) ⟨vK (bD env) ps args,o,nx⟩):dS P id args o nx K X:=by
 refine⟨by rw[ho];rfl,fun M φ w vals b hH hd cN=> ?_⟩
 have ba:=hH.ok id
 simp only[aC,hp,ho]at ba
 obtain⟨b',r,h1,h2,h0,h3,h4,h5,h6,h7,h8,h9⟩:=ba
 rw[cN]at h1;simp at h1;subst h1
 have hlen:=V.aq _ _ hd
 have du:vals.size=r.params.size:=by
  have:r.params.toList.length=ps.length:=by rw[h5]
  simp at hlen this;omega
 let tm:Array Value:=(ps.zip vals.toList).foldl (fun tmps p=>tmps.setIfInBounds p.1 p.2) r.tmps
 have HX:(r.params.zip vals).foldl (fun tmps (p:Tmp×Value)=>tmps.setIfInBounds p.1 p.2) r.tmps=tm:=by
  rw[<- Array.foldl_toList,Array.toList_zip,h5]
 obtain⟨p1,p2⟩:=pv (B:=ad M φ (hp o nx)) (H:=hp o nx) (φ:=φ) (w:=w) ps args vals.toList (bD env) r.tmps h6 hl.symm hd HW h9
 refine⟨r.fn,tm,r.assign,r.body, ?_,fun k=> ?_⟩
 ·simp only[Instr.yield,Sem.run_bind,gL h2,Result.andThen_ok,du,ne_eq,not_true_eq_false,if_false,Sem.run_pure]
  rw[<- HX]
 ·
   let s0:S:=⟨vK (bD env) ps args,o,nx⟩
   let a0:Act:={tmps:=tm,defers:=[]}
   have rJ:bI M φ (hp o nx) w n ⟨[],true⟩ φ s0 a0 w:=⟨hH,Trans.refl _ _ _,p1,⟨[],rfl,List.nodup_nil,fun _=>rfl,fun r hr=>by cases hr⟩,p2⟩
   have pw:∀ {aj s' a' w'},bI M φ (hp o nx) w n ⟨[],true⟩ aj s' a' w'->a'.defers=[]:=by
    intro aj s' a' w' hs
    obtain⟨ms,g1,_,g3,_⟩:=hs.defers
    rw[g3 rfl]at g1;exact g1
   have HY:∀ {aj s' a' w'} {nf m:Nat} {en:List V} {p:List Nat} {c d:IC} {st:LoopState} {pd:Option lz} (st':LoopState) (pd':Option lz),bI M φ (hp o nx) w n ⟨[],true⟩ aj s' a' w'->s'.o id= .loop nf m en p c d st pd->
    ∃r',w'.heap[b]? =some (.loop r')/\r'.state=st/\r'.pending=pd.map lz.code/\
     bI M φ (hp o nx) w n ⟨[],true⟩ aj ⟨s'.env,aQ s'.o id (.loop nf m en p c d st' pd'),s'.nx⟩ a' {w' with heap:=w'.heap.setIfInBounds b (.loop {r' with state:=st',pending:=pd'.map lz.code})}:=by
    intro aj s' a' w' nf m en p c d st pd st' pd' hs hU
    have DX:aj id= .pointer (some ⟨b,0,none⟩):=by
     have:=(hs.tr.rel.row id bz (by show(s'.o id).bp=true;rw[hU];rfl)).2
     rw[this];exact cN
    have HZ:id<s'.nx:=hs.tr.rel.us id bz
    obtain⟨r',r1,r2,r3,r4,r5⟩:=qC (st':=st') (pd':=pd') hs.heap HZ (show s'.H.o id=_ from hU) DX
    exact⟨r',r1,r2,r3,dk hs r4 r5 rfl (uj HZ)⟩
   have ha:=e9 (P:=P) (n:=n) (b:=nx) (rd:=true) aS r.assign _ _ s0 (fun _ _ h=>h) (by rw[h7];exact h)
   refine oT h0 (eN (eX (P:=P) (H0:=hp o nx) (b:=nx) (cx:=⟨[],true⟩) (ro:=some b) (fun id hu=>hu) (fun h=>by cases h) r.assign _ s0 φ a0 w ha rJ) ?_)
   rintro e a1 w1 ⟨x,s1,fm,hq,qD,hm⟩
   cases e<;>cases x<;>first|(exact hm.elim)|skip
   ·
     obtain⟨nf,m,en,p,c,d,OL,q1,q2⟩:=hq
     obtain⟨r',r1,r2,r3,A5⟩:=HY .busy OL qD q1
     have EJ:(Instr.beginRound b).run P w1= .ok () {w1 with heap:=w1.heap.setIfInBounds b (.loop {r' with state:= .busy,pending:=OL.map lz.code})}:=by
      have e1:({r' with state:= .busy}:Loop)={r' with state:= .busy,pending:=OL.map lz.code}:=by rw[<- r3]
      simp only[Instr.beginRound,Sem.run_bind,gL r1,Result.andThen_ok,fu _ r1,r2,Sem.run_pure,e1]
     refine⟨_,EJ, ?_⟩
     have a9:=A5.heap.ok id
     simp only[aC,S.H,aE,if_true]at a9
     obtain⟨b2,TU,_,_,_,_,_,_,_,_,_,_⟩:=a9
     have hb:=e9 (P:=P) (n:=n) (b:=nx) (rd:=true) aS r.body _ _ _ (fun _ _ h=>h) (by rw[h8];exact q2)
     refine eN (eX (P:=P) (H0:=hp o nx) (b:=nx) (cx:=⟨[],true⟩) (ro:=some b) (fun id hu=>hu) (fun h=>by cases h) r.body _ _ fm a1 _ hb A5) ?_
     rintro e a2 w2 ⟨x,s2,xV,FE,wz,M6⟩
     have fin:∀ {nf m:Nat} {en:List V} {p:List Nat} {c d:IC} {st:LoopState} {pd:Option lz} (jump:Option lz) (t:Bool) (st':LoopState),t=jump.isNone->st'=(if jump.isNone then .ready else .done)->s2.o id= .loop nf m en p c d st pd->K (.d (.bool t)) (aQ s2.o id (.loop nf m en p c d st' jump)) s2.nx->
      ∃v w',(Instr.endRound b (jump.map lz.code)).run P w2= .ok v w'/\jy M φ (hp o nx) w K X (.returned v) w':=by
      intro nf m en p c d st pd jump t st' ht lB Th hK
      obtain⟨TV,g1,g2,g3,FF⟩:=HY st' jump wz Th
      refine⟨.bool t,_, ?_,xV,_,_,_,FF.heap,FF.tr,by simp only[V.den,D.den],hK⟩
      subst ht;subst lB
      simp only[Instr.endRound,Sem.run_bind,gL g1,Result.andThen_ok,fu _ g1,Sem.run_pure,Option.isNone_map]
     cases e<;>cases x<;>first|(exact M6.elim)|skip
     ·obtain⟨nf,m,en,p,c,d,st,pd,k1,k2⟩:=FE
      exact fin none true .ready rfl rfl k1 k2
     ·rename_i j
      subst M6
      obtain⟨nf,m,en,p,c,d,st,pd,k1,k2⟩:=FE
      exact fin (some (.exit _)) false .done rfl rfl k1 k2
     ·obtain⟨nf,m,en,p,c,d,st,pd,k1,k2⟩:=FE
      exact fin (some .ret) false .done rfl rfl k1 k2
     ·obtain⟨val,rfl,k2⟩:=M6
      exact⟨pw wz,xV,_,_,_,wz.heap,wz.tr,val,rfl,k2,FE⟩
   ·exact hq.elim
   ·exact hq.elim
   ·obtain⟨val,rfl,k2⟩:=hm
    exact⟨pw qD,fm,_,_,_,qD.heap,qD.tr,val,rfl,k2,hq⟩
end
end Go.Proofs.YtpkobkdgcanmjaaGreat
namespace Go.Proofs.YtpkobkdgcanmjaaGreat
def EK(ops:Array Oper)(t t1:Nat):Prop:=
 (∃o1 o2,ops=#[o1,o2]/\o1.op= .call ⟨.builtin .recover,#[],#[]⟩/\o1.dst=some t/\o1.guard=none/\o2.op= .assign (.tmp t)/\o2.dst=some t1/\o2.guard=none)\/
 (∃o1,ops=#[o1]/\t1=t/\o1.op= .call ⟨.builtin .recover,#[],#[]⟩/\o1.dst=some t/\o1.guard=none)
structure wP (P:Program) (g:FuncId) (n t t1:Nat) (ic:IC):Prop where
 get:∃fn id ops c,P.funcs[g]? =some fn/\(fn.name== "runtime.NumGoroutine")=false/\fn.ntmps=n/\fn.results=#[]/\fn.body=some (.seq (.region id ops false) c)/\
  EK ops t t1/\t<n/\t1<n/\low n c=ic
structure zY (P:Program) (f:FuncId) (n:Nat) (kA gB:IC) (g:FuncId) (t:Nat) (cj:List Operand) (rs:List ResultVar):Prop where
 get:∃fn id o1 o2 a b,P.funcs[f]? =some fn/\(fn.name== "runtime.NumGoroutine")=false/\fn.ntmps=n/\fn.results.toList=rs/\fn.body=some (.seq a (.seq (.region id #[o1,o2] false) b))/\
  o1.op= .makeFunc (.func g) #[] cj.toArray/\o1.dst=some t/\o1.guard=none/\o2.op= .defer ⟨.value (.tmp t),#[],#[]⟩/\o2.dst=none/\o2.guard=none/\t<n/\low n a=kA/\low n b=gB
def OM(K:(Nat->aa)->Nat->Prop)(e:fq)(s:S):Prop:=match e with| .normal| .ret=>K s.o s.nx|_=>False
def yk(P:Program)(n t t1:Nat)(ic:IC)(cj:List V)(u:V)(o:Nat->aa)(nx:Nat)(K:(Nat->aa)->Nat->Prop):Prop:=
 cj.length<=n/\n5 P n nx true ic (OM K) ⟨aQ (aQ (b9 cj) t u) t1 u,o,nx⟩
def vO(P:Program)(n t t1:Nat)(ic:IC)(cj:List V)(rs:List ResultVar)(K X:V->(Nat->aa)->Nat->Prop)(e:fq)(s:S):Prop:=
 match e with
 | .normal| .ret=>yk P n t t1 ic cj (.d .dI) s.o s.nx fun o nx=>iX P rs K X .ret ⟨s.env,o,nx⟩
 | .bf v=>yk P n t t1 ic cj v s.o s.nx fun o nx=>iX P rs K X .ret ⟨s.env,o,nx⟩
 | .exit _=>False
def zZ(P:Program)(n t:Nat)(gB:IC)(fI:List Operand)(g:FuncId)(D:List V->fq->S->Prop)(e:fq)(s:S):Prop:=
 match e with
 | .normal=>n5 P n s.nx false gB (D (fI.map s.ev)) ⟨aQ s.env t (.func (.func g) [] (fI.map s.ev)),s.o,s.nx⟩
 |_=>False
section
variable {P:Program}{M:Nat->Prop}{φ b7:Place}{H H0:Hp}{w w0:World}{n:Nat}{s:S}{a:Act}{cx:Cx}{k:Nat}
theorem yl(aS:P.follows .mixedOrders=true){g:FuncId}{t t1:Nat}{ic:IC}(hg:wP P g n t t1 ic){cj:List V}{u:V}{o:Nat->aa}{nx:Nat}{K:(Nat->aa)->Nat->Prop}(h:yk P n t t1 ic cj u o nx K)
 {vals:Array Value} {val:Value} {m:FrameMode} (hH:ai M φ (hp o nx) w) (hd:V.au (ad M φ (hp o nx)) φ (hp o nx) w cj vals.toList) (hv:V.den (ad M φ (hp o nx)) φ (hp o nx) w u val)
 (hm:(m= .returning/\val= .nilIface)\/m= .panicking [{v:=val,recovered:=false}]):
 CallsDIn (cV none) k P g vals m w fun e u' w'=>∃v aj o' nx',e= .returned v/\settle u'= .returning/\ai M aj (hp o' nx') w'/\Trans φ (hp o nx) w aj (hp o' nx') w'/\K o' nx':=by
 obtain⟨fn,id,ops,c,hf,Dt,Ti,tD,l8,x9,ht,sI,kE⟩:=hg.get
 have bz:g<P.funcs.size:=(Array.getElem?_eq_some_iff.1 hf).1
 obtain⟨nK,h⟩:=h
 have hlen:=V.aq _ _ hd
 refine⟨trivial,fun lk cs z5 CF=> ?_⟩
 let b:Frame:={(default:Frame)with fn:=g,kind:= .deferred,roundOf:=none}
 let n7:Array Value:=vals++Array.replicate (fn.ntmps - vals.size) undef
 have ON:n7.size=n:=by simp only[n7,Array.size_append,Array.size_replicate];simp at hlen;omega
 have iW:Frame.enter P g vals .deferred=b.atR {tmps:=n7,defers:=[]} [.code (.seq (.region id ops false) c)]:=by
  simp[Frame.enter,Frame.atR,hf,l8,b,n7]
 obtain⟨m',Rc,a9⟩:∃m',settle m'= .returning/\((recoverD (lk::cs)=none/\m'=m/\val= .nilIface)\/recoverD (lk::cs)=some (val,{lk with mode:=m'}::cs)):=by
  rcases hm with⟨rfl,rfl⟩|rfl
  ·exact⟨.returning,rfl, .inl ⟨by simp[recoverD,z5],rfl,rfl⟩⟩
  ·exact⟨.panicking [{v:=val,recovered:=true}],rfl, .inr (by simp[recoverD,z5])⟩
 have M3:({lk with mode:=m}:Frame)=lk:=by subst z5;rfl
 let a1:Act:={tmps:=(n7.setIfInBounds t val).setIfInBounds t1 val,defers:=[]}
 have BD:(Code.region id ops false).wpSIn (cV none) k P (fun e a' cs' w'=>e= .normal/\a'=a1/\cs'={lk with mode:=m'}::cs/\w'=w) {tmps:=n7,defers:=[]} (lk::cs) w:=by
  rcases x9 with⟨o1,o2,rfl,e1,e2,e3,e4,e5,e6⟩|⟨o1,rfl,rfl,e1,e2,e3⟩
  ·refine wpSIn_region ?_
   have hr:List.range (#[o1,o2]:Array Oper).size=[0,1]:=rfl
   have g0:(#[o1,o2]:Array Oper)[0]? =some o1:=rfl
   have g1:(#[o1,o2]:Array Oper)[1]? =some o2:=rfl
   rw[hr]
   have x1:∀ (ρ:Operand->Value) (w:World),(execOp ρ o1).run P w= .ok .recover w:=by
    intro ρ w
    simp[execOp,e1,resolve,invoke,builtin]
   have x2:∀ (ρ:Operand->Value) (w:World),(execOp ρ o2).run P w= .ok (.value (ρ (.tmp t))) w:=by
    intro ρ w
    simp[execOp,e4]
   have last:∀cs',cs'={lk with mode:=m'}::cs->wpOpsSIn (cV none) k P #[o1,o2] (fun e a' cs' w'=>e= .normal/\a'=a1/\cs'={lk with mode:=m'}::cs/\w'=w) [1] (({tmps:=n7,defers:=[]}:Act).put (some t) val) cs' w:=by
    rintro cs' rfl
    have hw:Region.wanted o2 (yielded #[o1,o2] (({tmps:=n7,defers:=[]}:Act).put (some t) val).tmps)=true:=by simp[Region.wanted,e6]
    have cU:(({tmps:=n7,defers:=[]}:Act).put (some t) val).eval (.tmp t)=val:=by
     have:t<n7.size:=by omega
     simp[Act.put,Act.eval,Array.getD,this]
    simp only[wpOpsSIn,g1,hw,if_true,x2,cU,e5]
    refine⟨fun _ _=>trivial, ?_⟩
    simp[a1,Act.put]
   have hw:Region.wanted o1 (yielded #[o1,o2] n7)=true:=by simp[Region.wanted,e3]
   rw[wpOpsSIn,g0]
   refine⟨fun _ _=>trivial, ?_⟩
   simp only[hw,if_true,x1,e2]
   rcases a9 with⟨hr,rfl,rfl⟩|hr
   ·simp only[hr]
    exact last _ (by rw[M3])
   ·simp only[hr]
    exact last _ rfl
  ·refine wpSIn_region ?_
   have hr:List.range (#[o1]:Array Oper).size=[0]:=rfl
   have g0:(#[o1]:Array Oper)[0]? =some o1:=rfl
   rw[hr]
   have x1:∀ (ρ:Operand->Value) (w:World),(execOp ρ o1).run P w= .ok .recover w:=by
    intro ρ w
    simp[execOp,e1,resolve,invoke,builtin]
   have same:a1=({tmps:=n7,defers:=[]}:Act).put (some t1) val:=by
    simp only[a1,Act.put]
    congr 1
    apply Array.ext_getElem?
    intro j
    simp only[Array.getElem?_setIfInBounds]
    by_cases hj:t1=j
    ·subst hj;simp
    ·simp[hj]
   have last:∀cs',cs'={lk with mode:=m'}::cs->wpOpsSIn (cV none) k P #[o1] (fun e a' cs' w'=>e= .normal/\a'=a1/\cs'={lk with mode:=m'}::cs/\w'=w) [] (({tmps:=n7,defers:=[]}:Act).put (some t1) val) cs' w:=by
    rintro cs' rfl
    simp only[wpOpsSIn]
    exact⟨trivial,same.symm,trivial,trivial⟩
   have hw:Region.wanted o1 (yielded #[o1] n7)=true:=by simp[Region.wanted,e3]
   rw[wpOpsSIn,g0]
   refine⟨fun _ _=>trivial, ?_⟩
   simp only[hw,if_true,x1,e2]
   rcases a9 with⟨hr,rfl,rfl⟩|hr
   ·simp only[hr]
    exact last _ (by rw[M3])
   ·simp only[hr]
    exact last _ rfl
 obtain⟨er,ar,TW,wr,hl,⟨rfl,rfl,rfl,Tj⟩,bZ⟩:=BD b [.code c] rfl rfl trivial (fun d hd=>by simp[cV]at hd)
 rw[Tj]at bZ
 let s0:S:=⟨aQ (aQ (b9 cj) t u) t1 u,o,nx⟩
 have rJ:bI M φ (hp o nx) w n ⟨[],true⟩ φ s0 a1 w:=by
  refine⟨hH,Trans.refl _ _ _,by simp[a1,ON],⟨[],rfl,List.nodup_nil,fun _=>rfl,fun r hr=>by cases hr⟩,fun i=> ?_⟩
  have cO:=oS (m:=fn.ntmps - vals.size) hd i
  simp only[s0,a1,aE]
  have M8:t<n7.size:=by omega
  have OO:t1<n7.size:=by omega
  by_cases h1:i=t1
  ·subst h1
   simp only[if_true]
   have:((n7.setIfInBounds t val).setIfInBounds i val).getD i undef=val:=by simp[Array.getD,OO]
   rw[this];exact hv
  ·simp only[h1,if_false]
   have e1:((n7.setIfInBounds t val).setIfInBounds t1 val).getD i undef=(n7.setIfInBounds t val).getD i undef:=by
    simp only[Array.getD_eq_getD_getElem?]
    rw[Array.getElem?_setIfInBounds_ne (Ne.symm h1)]
   rw[e1]
   by_cases h2:i=t
   ·subst h2
    simp only[if_true]
    have:(n7.setIfInBounds i val).getD i undef=val:=by simp[Array.getD,M8]
    rw[this];exact hv
   ·simp only[h2,if_false]
    have e1:(n7.setIfInBounds t val).getD i undef=n7.getD i undef:=by
     simp only[Array.getD_eq_getD_getElem?]
     rw[Array.getElem?_setIfInBounds_ne (Ne.symm h2)]
    rw[e1];exact cO
 have Tk:=e9 (P:=P) (n:=n) (b:=nx) (rd:=true) aS c _ _ s0 (fun _ _ h=>h) (by rw[kE];exact h)
 obtain⟨e,a',w',⟨x,s',aj,hq,gR,hx⟩,wy⟩:=eX (P:=P) (H0:=hp o nx) (b:=nx) (cx:=⟨[],true⟩) (ro:=none) (fun id hu=>hu) (fun h=>by cases h) c _ s0 φ a1 w Tk rJ b [] ({lk with mode:=m'}::cs) rfl bz
 have i0:(lone (b.atR {tmps:=n7,defers:=[]} [.code (.seq (.region id ops false) c)]) (lk::cs) w).fenced P (cV none):=fenced_calm (n:=0) trivial eM rfl
 have Du:StepsIn (Machine.fenced P (cV none)) P (lone (b.atR {tmps:=n7,defers:=[]} [.code (.seq (.region id ops false) c)]) (lk::cs) w) (lone (b.atR a1 [.code c]) ({lk with mode:=m'}::cs) w):= .head i0 stepR_seq bZ
 have pw:a'.defers=[]:=by
  obtain⟨ms,g1,_,g3,_⟩:=gR.defers
  rw[g3 rfl]at g1;exact g1
 have H3:∀tm:Array Value,∃v,(results fn tm).run P w'= .ok v w':=by
  intro tm
  refine⟨_,jD (vals:=[]) ?_⟩
  rw[tD];rfl
 rw[iW]
 obtain⟨v,pZ⟩:=H3 a'.tmps
 cases e<;>cases x<;>first|(exact hx.elim)|(exact hq.elim)|skip
 ·exact⟨.returned v,m',w',_,⟨v,aj,s'.o,s'.nx,rfl,Rc,gR.heap,gR.tr,hq⟩,StepsIn.trans Du (StepsIn.trans wy (.one (fenced_calm (n:=0) (fr:=b.atR a' []) trivial eM rfl) (stepR_end rfl))),rfl,rfl,rfl,pw,fn,hf,pZ⟩
 ·obtain⟨todo,hs⟩:=wy.1 rfl
  exact⟨.returned v,m',w',_,⟨v,aj,s'.o,s'.nx,rfl,Rc,gR.heap,gR.tr,hq⟩,StepsIn.trans Du hs,rfl,rfl,rfl,pw,fn,hf,pZ⟩
theorem ft.z6 (aS:P.follows .mixedOrders=true){f g:FuncId}{kA gB uk:IC}{t m r r1:Nat}{fI:List Operand}{rs:List ResultVar}(hf:zY P f n kA gB g t fI rs)(hg:wP P g m r r1 uk)
 {args:List V} {o:Nat->aa} {nx:Nat} {K X:V->(Nat->aa)->Nat->Prop} (hl:args.length<=n)
 (h:n5 P n nx true kA (zZ P n t gB fI g fun cj=>vO P m r r1 uk cj rs K X) ⟨b9 args,o,nx⟩):ft P f args o nx K X:=by
 obtain⟨fn,id,o1,o2,ca,cb,xR,Dt,Ti,tD,l8,e1,e2,e3,e4,e5,e6,ht,Tl,A3⟩:=hf.get
 obtain⟨gn,_,_,gc,Tn,EL,_,_,EM,_⟩:=hg.get
 refine⟨⟨fn,xR,Dt,by rw[l8];rfl⟩,fun M φ w vals hH hd=> ?_⟩
 have hlen:=V.aq _ _ hd
 let s0:S:=⟨b9 args,o,nx⟩
 let a0:Act:={tmps:=vals++Array.replicate (fn.ntmps - vals.size) undef,defers:=[]}
 have rJ:bI M φ (hp o nx) w n ⟨[],true⟩ φ s0 a0 w:=by
  refine⟨hH,Trans.refl _ _ _, ?_,⟨[],rfl,List.nodup_nil,fun _=>rfl,fun r hr=>by cases hr⟩,oS hd⟩
  simp only[a0,Array.size_append,Array.size_replicate];simp at hlen;omega
 have ha:=e9 (P:=P) (n:=n) (b:=nx) (rd:=true) aS ca _ _ s0 (fun _ _ h=>h) (by rw[Tl];exact h)
 refine tw (ro:=none) (k:=0) (jF xR l8 (rF (eN (eX (P:=P) (H0:=hp o nx) (b:=nx) (cx:=⟨[],true⟩) (ro:=none) (fun id hu=>hu) (fun h=>by cases h) ca _ s0 φ a0 w ha rJ) ?_)))
 rintro e a1 w1 ⟨x,s1,fm,hq,qD,hm⟩
 cases e<;>cases x<;>first|(exact hm.elim)|(exact hq.elim)|skip
 have pw:a1.defers=[]:=by
  obtain⟨ms,g1,_,g3,_⟩:=qD.defers
  rw[g3 rfl]at g1;exact g1
 let cv:Array Value:=(fI.map a1.eval).toArray
 let fv:Value:= .func (.func g) #[] cv
 let dd:Deferred:={target:= .fn (.func g) cv,args:=#[]}
 let a2:Act:={tmps:=a1.tmps.setIfInBounds t fv,defers:=[dd]}
 have Dv:V.au (ad M fm s1.H) fm s1.H w1 (fI.map s1.ev) cv.toList:=by
  simpa[cv]using gD (M:=M) (φ:=fm) (H:=s1.H) (w:=w1) s1 a1 qD.env fI
 refine rF (eN (Q:=fun e a w=>e= .normal/\a=a2/\w=w1) (kZ (k:=0) (wpIn_region_list ?_)) ?_)
 ·have y1:Region.wanted o1 (yielded #[o1,o2] a1.tmps)=true:=by simp[Region.wanted,e3]
  have y2:∀tm,Region.wanted o2 (yielded #[o1,o2] tm)=true:=by intro tm;simp[Region.wanted,e6]
  have cU:(a1.put (some t) fv).eval (.tmp t)=fv:=by
   have:t<a1.tmps.size:=by rw[qD.size];exact ht
   simp[Act.put,Act.eval,Array.getD,this]
  show wpListIn (cV none) 0 P #[o1,o2] _ [o1,o2] a1 w1
  unfold wpListIn
  rw[if_pos y1]
  have x1:(execOp a1.eval o1).run P w1= .ok (.value fv) w1:=by simp[execOp,e1,fv,cv,Instr.makeFunc]
  refine gJ (fun c hc=>by rw[e1]at hc;cases hc) ?_
  rw[x1]
  show wpListIn (cV none) 0 P #[o1,o2] _ [o2] (a1.put o1.dst fv) w1
  rw[e2]
  unfold wpListIn
  rw[if_pos (y2 _)]
  have x2:(execOp (a1.put (some t) fv).eval o2).run P w1= .ok (.defer dd) w1:=by
   simp[execOp,e4,resolve,cU,Deferred.ofValue,fv,dd]
  refine⟨fun _ _=>trivial, ?_⟩
  have:(o2.semAt (cV none).round (a1.put (some t) fv).eval)=execOp (a1.put (some t) fv).eval o2:=rfl
  rw[this,x2]
  unfold Oper.uponIn
  simp only[e5,wpListIn,Act.put,pw,a2,and_self]
 rintro e a w2 ⟨rfl,rfl,rfl⟩
 have sI:t<a1.tmps.size:=by rw[qD.size];exact ht
 let s2:S:=⟨aQ s1.env t (.func (.func g) [] (fI.map s1.ev)),s1.o,s1.nx⟩
 have A5:bI M fm s1.H w2 n ⟨[dd],false⟩ fm s2 a2 w2:=by
  refine⟨qD.heap,Trans.refl _ _ _,by simp[a2,qD.size],⟨[],rfl,List.nodup_nil,fun _=>rfl,fun r hr=>by cases hr⟩,fun i=> ?_⟩
  simp only[s2,a2,aE]
  by_cases h1:i=t
  ·subst h1
   have:(a1.tmps.setIfInBounds i fv).getD i undef=fv:=by simp[Array.getD,sI]
   simp only[if_true];rw[this]
   exact⟨#[],cv,rfl,rfl,Dv⟩
  ·have:(a1.tmps.setIfInBounds t fv).getD i undef=a1.tmps.getD i undef:=by
    simp only[Array.getD_eq_getD_getElem?]
    rw[Array.getElem?_setIfInBounds_ne (Ne.symm h1)]
   simp only[h1,if_false];rw[this]
   exact qD.env i
 have hb:=e9 (P:=P) (n:=n) (b:=s1.nx) (rd:=false) aS cb _ _ s2 (fun _ _ h=>h) (by rw[A3];exact hq)
 refine eN (eX (P:=P) (H0:=s1.H) (b:=s1.nx) (cx:=⟨[dd],false⟩) (ro:=none) (fun id hu=>hu) (fun _=>rfl) cb _ s2 fm a2 w2 hb A5) ?_
 rintro e a3 w3 ⟨x,s3,H4,Np,wz,sJ⟩
 obtain⟨ms,g1,g2,_,g4⟩:=wz.defers
 have hinv:(invoke dd.target dd.args).run P=fun w=> .ok (.enter g cv) w:=by
  funext w
  have:=ir (w:=w) ⟨gn,Tn,EL,by rw[EM];rfl⟩ cv
  simpa[dd,invoke]using this
 have last:∀ {w4:World} {tm:Array Value} {u:V} {val:Value} {m0:FrameMode},m0≠ .run->rI M fm s1.H w2 H4 s3 a3.tmps w4->V.den (ad M H4 s3.H) H4 s3.H w4 u val->
  ((m0= .returning/\val= .nilIface)\/m0= .panicking [{v:=val,recovered:=false}])->
  (yk P m r r1 uk (fI.map s1.ev) u s3.o s3.nx fun o nx=>iX P rs K X .ret ⟨s3.env,o,nx⟩)->
  LeavesInM (cV none) 0 P fn a3.tmps (jy M φ (hp o nx) w K X) [dd] m0 w4:=by
  intro w4 tm u val m0 dO hB DS To a9
  have EN:=V.aB hB.tr _ _ Dv
  refine⟨dO, .inr ⟨fun h=>by simp[cV]at h, .func g,cv,g,cv,rfl,by rw[hinv],fun _ _=>trivial,CallsDIn.mono (yl (k:=0 - 1) aS hg a9 (m:=m0) hB.heap EN DS To) ?_⟩⟩
  rintro e u' w5 ⟨v,OP,o5,Nq,rfl,OQ,k1,k2,k3⟩
  show LeavesInM (cV none) 0 P fn a3.tmps (jy M φ (hp o nx) w K X) [] (settle u') w5
  rw[OQ]
  obtain⟨vs,h1,h2⟩:=tF k3
  rw[<- tD]at h1
  have H5:∀i,V.den (ad M OP (hp o5 Nq)) OP (hp o5 Nq) w5 (s3.env i) (a3.tmps.getD i undef):=fun i=>V.ax k2 _ _ (hB.env i)
  obtain⟨Rd,h3,h4⟩:=nZ (P:=P) (s:=⟨s3.env,o5,Nq⟩) (a:=a3) k1 H5 _ _ h1
  exact⟨_,jD h3,OP,o5,Nq,_,k1,qD.tr.trans (hB.tr.trans k2),tG h4,h2⟩
 have done:yk P m r r1 uk (fI.map s1.ev) (.d .dI) s3.o s3.nx (fun o nx=>iX P rs K X .ret ⟨s3.env,o,nx⟩)->LeavesInM (cV none) 0 P fn a3.tmps (jy M φ (hp o nx) w K X) a3.defers .returning w3:=by
  intro a9
  rw[g1]
  exact eO (P:=P) (k:=0) (fn:=fn) (R:=jy M φ (hp o nx) w K X) (u:= .returning) (by simp) (ds:=[dd]) (fun w4 hB=>last (tm:=a3.tmps) (by simp) hB (u:= .d .dI) (val:= .nilIface) (by simp[V.den,D.den]) (.inl ⟨rfl,rfl⟩) a9) ms w3 g2 g4 wz.Q6
 cases e<;>cases x<;>first|(exact sJ.elim)|skip
 ·exact done Np
 ·exact Np.elim
 ·exact done Np
 ·rename_i v
  obtain⟨val,rfl,Oi⟩:=sJ
  show LeavesInM (cV none) 0 P fn a3.tmps (jy M φ (hp o nx) w K X) a3.defers _ w3
  rw[g1]
  let H6:Nat->V:=fun i=>match i with|0=>v|i+1=>s3.env i
  have H7:(#[val]++a3.tmps).getD 0 undef=val:=by simp[Array.getD]
  have H8:∀i,(#[val]++a3.tmps).getD (i+1) undef=a3.tmps.getD i undef:=by
   intro i
   simp only[Array.getD_eq_getD_getElem?]
   rw[Array.getElem?_append_right (by simp)]
   simp
  have CV:rI M fm s1.H w2 H4 ⟨H6,s3.o,s3.nx⟩ (#[val]++a3.tmps) w3:=⟨wz.heap,wz.tr,fun i=>by
   cases i with
   |zero=>rw[H7];exact Oi
   |succ i=>rw[H8];exact wz.env i⟩
  have H9:∀w4,rI M fm s1.H w2 H4 ⟨H6,s3.o,s3.nx⟩ (#[val]++a3.tmps) w4->LeavesInM (cV none) 0 P fn a3.tmps (jy M φ (hp o nx) w K X) [dd] (.panicking [{v:=val,recovered:=false}]) w4:=by
   intro w4 hB
   have Re:=hB.env 0
   rw[H7]at Re
   refine last (tm:=a3.tmps) (by simp) ⟨hB.heap,hB.tr,fun i=> ?_⟩ Re (.inr rfl) Np
   have hs:=hB.env (i+1)
   rw[H8]at hs
   exact hs
  exact eO (P:=P) (k:=0) (fn:=fn) (R:=jy M φ (hp o nx) w K X) (u:= .panicking [{v:=val,recovered:=false}]) (by simp) (ds:=[dd]) H9 ms w3 g2 g4 CV
end
end Go.Proofs.YtpkobkdgcanmjaaGreat
