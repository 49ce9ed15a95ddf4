/-
  A PART OF THE PROOF. Conditions: none.
-/
import Derived.Test.YtpkobkdgcanmjaaGreatLo8
set_option linter.unusedSimpArgs false
set_option linter.unusedVariables false
namespace Go.Proofs.YtpkobkdgcanmjaaGreat
def aa.Dl:aa->Bool
 | .lu .. =>true
 |_=>false
def BP(o:Nat->aa)(v:V):Option D:=if v.ids.all (fun id=>(o id).Dl)=true then dn o v else none
section
variable (ρ:Nat->Option Nat)(o' o:Nat->aa)(nx:Nat)
mutual
def nr:V->V->Prop
 | .aw,_=>True
 | .d x,v=>BP o v=some x
 | .aM,v=>v= .aM
 | .agg cs,v=>match v with| .agg ds=>mQ cs ds|_=>False
 | .bM cs,v=>match v with| .bM ds=>mQ cs ds|_=>False
 | .ptr b8 tP,v=>match v with| .ptr id off=>ρ b8=some id/\tP=off/\b8<nx|_=>False
 | .osl b8 eQ,v=>b8<nx/\(o' b8).aO=some eQ/\match v with
   | .aM=>ρ b8=none
   | .osl id ep=>ρ b8=some id/\(o id).aO=some ep
   |_=>False
 | .pe b8 eQ i' ki tP,v=>b8<nx/\(o' b8).aO=some eQ/\match v with
   | .pe id ep i sz off=>ρ b8=some id/\(o id).aO=some ep/\i'=i/\ki=sz/\tP=off
   |_=>False
 | .pp cs off,v=>v= .pp cs off
 | .func fn a b,v=>match v with| .func S8 a' b'=>fn=S8/\mQ a a'/\mQ b b'|_=>False
 | .iface t x,v=>match v with| .iface t' y=>t=t'/\nr x y|_=>False
 | .kG es,v=>v= .kG es
 | .n5 b8 tP n',v=>match v with| .n5 id off n=>ρ b8=some id/\tP=off/\n'=n/\b8<nx|_=>False
 | .mp b8,v=>match v with| .mp id=>ρ b8=some id/\b8<nx|_=>False
 | .dC,v=>v= .dC\/∃b,v= .d (.bool b)
 | .jT b8,v=>match v with| .jT id=>ρ b8=some id/\b8<nx|_=>False
def mQ:List V->List V->Prop
 |[],vs=>vs=[]
 |x::xs,vs=>match vs with|v::vs=>nr x v/\mQ xs vs|[]=>False
end
def jG(b8:Nat):Prop:=
 match o' b8 with
 | .no=>True
 | .row cs'=>match ρ b8 with
   |some id=>match o id with| .row cs=>mQ ρ o' o nx cs' cs|_=>False
   |none=>False
 | .arr _ ty sz es=>match ρ b8 with
   |some id=>match o id with| .arr _ Ot ki es'=>ty=Ot/\sz=ki/\es=es'|_=>False
   |none=>es=[]/\0<sz
 | .lu _ es=>match ρ b8 with
   |some id=>match o id with| .lu _ es'=>es=es'|_=>False
   |none=>False
 | .map kt vt l=>match ρ b8 with
   |some id=>match o id with| .map xl xm l'=>kt=xl/\vt=xm/\l=l'|_=>False
   |none=>False
 | .loop nf n env ps a b st pd=>match ρ b8 with
   |some id=>match o id with| .loop HO n' Ou S9 a' b' st' pd'=>nf=HO/\n=n'/\ps=S9/\a=a'/\b=b'/\st=st'/\pd=pd'/\mQ ρ o' o nx env Ou|_=>False
   |none=>False
 | .eg l=>match ρ b8 with
   |some id=>match o id with| .eg l'=>l=l'|_=>False
   |none=>False
 | .my l last=>match ρ b8 with
   |some id=>match o id with| .my l' zP=>l=l'/\(last=none\/last=zP)|_=>False
   |none=>False
 | .n6 s pos=>match ρ b8 with
   |some id=>match o id with| .n6 s' pos'=>s=s'/\pos=pos'|_=>False
   |none=>False
end
section
variable {M M':Nat->Prop}{φ aj:Place}{H H':Hp}{w:World}{ρ:Nat->Option Nat}{nx:Nat}
theorem zQ(hH:ai M φ H w){v:V}{x:D}{val:Value}(h:BP H.o v=some x)(hd:V.den (ad M φ H) φ H w v val):D.den (ad M φ H) w x val:=by
 unfold BP at h
 split at h
 ·rename_i ha
  refine dM hH (o:=H.o) v x val (fun id ag=> ?_) h hd
  have:=List.all_eq_true.1 ha id ag
  cases ho:H.o id<;>rw[ho]at this<;>simp[aa.Dl]at this
  rfl
 ·cases h
mutual
theorem nR(hH:ai M φ H w)(fE:∀b,bN w b-> ¬ad M φ H b-> ¬ad M' aj H' b)(cM:∀id,aj id=match ρ id with|some j=>φ j|none=> .slice none 0 0)
 (de:∀id,id<nx->H'.us id) (aZ:∀b8 id,ρ b8=some id->(H'.o b8).bd=true->(H.o id).bd=true):
 ∀ (x v:V) (val:Value),nr ρ H'.o H.o nx x v->V.den (ad M φ H) φ H w v val->V.den (ad M' aj H') aj H' w x val
 | .aw,_,_,_,_=>trivial
 | .d x,v,val,h,hd=>D.au (fun b hb hn=>⟨rfl,fE b hb hn⟩) x val (zQ hH (by simpa[nr]using h) hd)
 | .aM,v,val,h,hd=>by simp only[nr]at h;subst h;exact hd
 | .agg cs,v,val,h,hd=>by
   unfold nr at h
   split at h
   ·obtain⟨a,rfl,hd,hf⟩:=hd
    exact⟨a,rfl,im hH fE cM de aZ _ _ _ h hd,hf⟩
   ·exact h.elim
 | .bM cs,v,val,h,hd=>by
   unfold nr at h
   split at h
   ·obtain⟨a,rfl,hd⟩:=hd
    exact⟨a,rfl,im hH fE cM de aZ _ _ _ h hd⟩
   ·exact h.elim
 | .ptr b8 tP,v,val,h,hd=>by
   unfold nr at h
   split at h
   ·obtain⟨h1,rfl,h3⟩:=h
    obtain⟨g1,_,g3⟩:=hd
    refine⟨g1,de _ h3,fun hr=> ?_⟩
    obtain⟨b,k1,k2⟩:=g3 (aZ _ _ h1 hr)
    exact⟨b,by rw[cM,h1];exact k1,k2⟩
   ·exact h.elim
 | .osl b8 eQ,v,val,h,hd=>by
   unfold nr at h
   obtain⟨h1,h2,h3⟩:=h
   split at h3
   ·simp only[V.den]at hd;subst hd
    refine⟨rfl,de _ h1,fun e he=> ?_⟩
    rw[h2]at he;injection he with he;subst he
    exact⟨Nat.le_refl _,fun _=>by rw[cM,h3]⟩
   ·obtain⟨g1,_,g3⟩:=hd
    refine⟨g1,de _ h1,fun e he=> ?_⟩
    rw[h2]at he;injection he with he;subst he
    exact⟨Nat.le_refl _,fun _=>by rw[cM,h3.1];exact(g3 _ h3.2).2 rfl⟩
   ·exact h3.elim
 | .pe b8 eQ i' ki tP,v,val,h,hd=>by
   unfold nr at h
   obtain⟨h1,h2,h3⟩:=h
   split at h3
   ·obtain⟨h3,h4,rfl,rfl,rfl⟩:=h3
    obtain⟨g1,_,g3⟩:=hd
    refine⟨g1,de _ h1,fun e he=> ?_⟩
    rw[h2]at he;injection he with he;subst he
    refine⟨Nat.le_refl _,fun _=> ?_⟩
    obtain⟨b,n,c,k1,k2⟩:=(g3 _ h4).2 rfl
    exact⟨b,n,c,by rw[cM,h3];exact k1,k2⟩
   ·exact h3.elim
 | .pp cs off,v,val,h,hd=>by
   simp only[nr]at h;subst h
   obtain⟨a,ev,h1,h2,h3,h5,h4⟩:=hd
   exact⟨a,ev,h1,h2,D.az (fun b hb hn=>⟨rfl,fE b hb hn⟩) cs ev h3,h5,h4.mono (fun b hb hn=>⟨rfl,fE b hb hn⟩)⟩
 | .func fn a b,v,val,h,hd=>by
   unfold nr at h
   split at h
   ·obtain⟨rfl,h1,h2⟩:=h
    obtain⟨f,c,rfl,k1,k2⟩:=hd
    exact⟨f,c,rfl,im hH fE cM de aZ _ _ _ h1 k1,im hH fE cM de aZ _ _ _ h2 k2⟩
   ·exact h.elim
 | .iface t x,v,val,h,hd=>by
   unfold nr at h
   split at h
   ·obtain⟨rfl,h1⟩:=h
    obtain⟨u,rfl,k1⟩:=hd
    exact⟨u,rfl,nR hH fE cM de aZ _ _ _ h1 k1⟩
   ·exact h.elim
 | .kG es,v,val,h,hd=>by
   simp only[nr]at h;subst h
   exact⟨D.au (fun b hb hn=>⟨rfl,fE b hb hn⟩) (.sl es) val hd.1,hd.2⟩
 | .n5 b8 tP n',v,val,h,hd=>by
   unfold nr at h
   split at h
   ·obtain⟨h1,rfl,rfl,h3⟩:=h
    obtain⟨g1,_,g3⟩:=hd
    refine⟨g1,de _ h3,fun hr=> ?_⟩
    obtain⟨b,k1,k2⟩:=g3 (aZ _ _ h1 hr)
    exact⟨b,by rw[cM,h1];exact k1,k2⟩
   ·exact h.elim
 | .mp b8,v,val,h,hd=>by
   unfold nr at h
   split at h
   ·obtain⟨h1,h3⟩:=h
    obtain⟨g1,_,g3⟩:=hd
    exact⟨g1,de _ h3,fun hr=>by rw[cM,h1];exact g3 (aZ _ _ h1 hr)⟩
   ·exact h.elim
 | .dC,v,val,h,hd=>by
   unfold nr at h
   rcases h with rfl|⟨b,rfl⟩
   ·exact hd
   ·exact⟨b,hd⟩
 | .jT b8,v,val,h,hd=>by
   unfold nr at h
   split at h
   ·obtain⟨h1,h3⟩:=h
    obtain⟨g1,_,g3⟩:=hd
    refine⟨g1,de _ h3,fun hr=> ?_⟩
    obtain⟨b,k1,k2⟩:=g3 (aZ _ _ h1 hr)
    exact⟨b,by rw[cM,h1];exact k1,k2⟩
   ·exact h.elim
theorem im(hH:ai M φ H w)(fE:∀b,bN w b-> ¬ad M φ H b-> ¬ad M' aj H' b)(cM:∀id,aj id=match ρ id with|some j=>φ j|none=> .slice none 0 0)
 (de:∀id,id<nx->H'.us id) (aZ:∀b8 id,ρ b8=some id->(H'.o b8).bd=true->(H.o id).bd=true):
 ∀ (xs vs:List V) (vals:List Value),mQ ρ H'.o H.o nx xs vs->V.aq (ad M φ H) φ H w vs vals->V.aq (ad M' aj H') aj H' w xs vals
 |[],vs,vals,h,hd=>by simp only[mQ]at h;subst h;exact hd
 |x::xs,vs,vals,h,hd=>by
  unfold mQ at h
  split at h
  ·obtain⟨u,us,rfl,k1,k2⟩:=hd
   exact⟨u,us,rfl,nR hH fE cM de aZ _ _ _ h.1 k1,im hH fE cM de aZ _ _ _ h.2 k2⟩
  ·exact h.elim
end
theorem zR(hH:ai M φ H w){o':Nat->aa}(ho:∀id,jG ρ o' H.o nx id)(cZ:∀id,nx<=id->o' id= .no)
 (rp:∀i j k,(o' i).live=true->(o' j).live=true->ρ i=some k->ρ j=some k->i=j)
 (hM:∀b,M' b->ad M φ H b) (Ov:∀b,M' b->b<w.heap.size) (BQ:∀b,M' b-> ¬bq (fun id=>match ρ id with|some j=>φ j|none=> .slice none 0 0) ⟨o',fun id=>id<nx⟩ b):
 let aj:Place:=fun id=>match ρ id with|some j=>φ j|none=> .slice none 0 0
 let H':Hp:=⟨o',fun id=>id<nx⟩
 ai M' aj H' w/\(∀b,bq aj H' b->bq φ H b)/\(∀b,bN w b-> ¬ad M φ H b-> ¬ad M' aj H' b)/\
  (∀x v val,nr ρ o' H.o nx x v->V.den (ad M φ H) φ H w v val->V.den (ad M' aj H') aj H' w x val):=by
 intro aj H'
 have aZ:∀b8 id,ρ b8=some id->(H'.o b8).bd=true->(H.o id).bd=true:=by
  intro b8 id h1 h2
  have h3:=ho b8
  unfold jG at h3
  simp only[H']at h2
  split at h3
  ·rename_i e;rw[e]at h2;cases h2
  ·rw[h1]at h3
   simp only at h3
   split at h3
   ·rename_i e;rw[e];rfl
   ·exact h3.elim
  ·rename_i e;rw[e]at h2;cases h2
  ·rename_i e;rw[e]at h2;cases h2
  ·rw[h1]at h3
   simp only at h3
   split at h3
   ·rename_i e;rw[e];rfl
   ·exact h3.elim
  ·rw[h1]at h3
   simp only at h3
   split at h3
   ·rename_i e;rw[e];rfl
   ·exact h3.elim
  ·rw[h1]at h3
   simp only at h3
   split at h3
   ·rename_i e;rw[e];rfl
   ·exact h3.elim
  ·rw[h1]at h3
   simp only at h3
   split at h3
   ·rename_i e;rw[e];rfl
   ·exact h3.elim
  ·rw[h1]at h3
   simp only at h3
   split at h3
   ·rename_i e;rw[e];rfl
   ·exact h3.elim
 have bt:∀b8 b,(o' b8).live=true->dA (aj b8)=some b->∃id,ρ b8=some id/\(H.o id).live=true/\dA (φ id)=some b:=by
  intro b8 b h1 h2
  have h3:=ho b8
  unfold jG at h3
  simp only[aj]at h2
  split at h3
  ·rename_i e;rw[e]at h1;cases h1
  ·cases hr:ρ b8 with
   |none=>rw[hr]at h3;exact h3.elim
   |some id=>
    rw[hr]at h3 h2
    simp only at h3 h2
    split at h3
    ·rename_i e;exact⟨id,rfl,by rw[e];rfl,h2⟩
    ·exact h3.elim
  ·cases hr:ρ b8 with
   |none=>rw[hr]at h2;simp[dA]at h2
   |some id=>
    rw[hr]at h3 h2
    simp only at h3 h2
    split at h3
    ·rename_i e;exact⟨id,rfl,by rw[e];rfl,h2⟩
    ·exact h3.elim
  ·rename_i e;rw[e]at h1;cases h1
  ·cases hr:ρ b8 with
   |none=>rw[hr]at h3;exact h3.elim
   |some id=>
    rw[hr]at h3 h2
    simp only at h3 h2
    split at h3
    ·rename_i e;exact⟨id,rfl,by rw[e];rfl,h2⟩
    ·exact h3.elim
  ·cases hr:ρ b8 with
   |none=>rw[hr]at h3;exact h3.elim
   |some id=>
    rw[hr]at h3 h2
    simp only at h3 h2
    split at h3
    ·rename_i e;exact⟨id,rfl,by rw[e];rfl,h2⟩
    ·exact h3.elim
  ·rename_i e;rw[e]at h1;cases h1
  ·cases hr:ρ b8 with
   |none=>rw[hr]at h3;exact h3.elim
   |some id=>
    rw[hr]at h3 h2
    simp only at h3 h2
    split at h3
    ·rename_i e;exact⟨id,rfl,by rw[e];rfl,h2⟩
    ·exact h3.elim
  ·cases hr:ρ b8 with
   |none=>rw[hr]at h3;exact h3.elim
   |some id=>
    rw[hr]at h3 h2
    simp only at h3 h2
    split at h3
    ·rename_i e;exact⟨id,rfl,by rw[e];rfl,h2⟩
    ·exact h3.elim
 have A0:∀b,bq aj H' b->bq φ H b:=by
  rintro b ⟨b8,h1,h2⟩
  obtain⟨id,_,h3,h4⟩:=bt b8 b h1 h2
  exact⟨id,h3,h4⟩
 have Ow:∀b,ad M' aj H' b->ad M φ H b:=by
  rintro b (h|h)
  ·exact hM b h
  ·exact .inr (A0 b h)
 have fE:∀b,bN w b-> ¬ad M φ H b-> ¬ad M' aj H' b:=fun b _ h k=>h (Ow b k)
 have Ta:=im (M':=M') (aj:=aj) (H':=H') (ρ:=ρ) (nx:=nx) hH fE (fun _=>rfl) (fun _ h=>h) aZ
 refine⟨⟨fun b8=> ?_,fun id hn=>cZ id (by simpa[H']using hn),fun i j b h1 h2 h3 h4=> ?_,fun b hb=>⟨fun hm=>BQ b hm hb,(hH.ours b (A0 b hb)).2⟩,Ov⟩,A0,fE,
  nR (M':=M') (aj:=aj) (H':=H') (ρ:=ρ) (nx:=nx) hH fE (fun _=>rfl) (fun _ h=>h) aZ⟩
 ·have h3:=ho b8
  unfold jG at h3
  unfold aA
  simp only[H']
  split at h3
  ·rename_i e;rw[e];trivial
  ·rename_i cs' e
   rw[e]
   cases hr:ρ b8 with
   |none=>rw[hr]at h3;exact h3.elim
   |some id=>
    rw[hr]at h3
    simp only at h3
    split at h3
    ·rename_i cs e2
     have:=hH.ok id
     unfold aA at this
     rw[e2]at this
     obtain⟨b,cd,ty,k1,k2,k3,k4⟩:=this
     exact⟨b,cd,ty,by simp only[aj,hr];exact k1,k2,Ta _ _ _ h3 k3,k4⟩
    ·exact h3.elim
  ·rename_i ep ty sz es e
   rw[e]
   cases hr:ρ b8 with
   |none=>
    rw[hr]at h3
    obtain⟨rfl,h4⟩:=h3
    exact⟨h4,[],by simp only[aj,hr];exact World.ownsRow_nil _ _ _ _,[],by simp,by simp,rfl⟩
   |some id=>
    rw[hr]at h3
    simp only at h3
    split at h3
    ·rename_i e2
     obtain⟨rfl,rfl,rfl⟩:=h3
     have:=hH.ok id
     unfold aA at this
     rw[e2]at this
     obtain⟨k1,xs,k2,evs,k3,k4,k5⟩:=this
     exact⟨k1,xs,by simp only[aj,hr];exact k2,evs,k3,k4,D.az (fun b hb hn=>⟨rfl,fE b hb hn⟩) _ _ k5⟩
    ·exact h3.elim
  ·rename_i ep es e
   rw[e]
   cases hr:ρ b8 with
   |none=>rw[hr]at h3;exact h3.elim
   |some id=>
    rw[hr]at h3
    simp only at h3
    split at h3
    ·rename_i e2
     subst h3
     have:=hH.ok id
     unfold aA at this
     rw[e2]at this
     simp only[aj,hr]
     exact D.au (fun b hb hn=>⟨rfl,fE b hb hn⟩) _ _ this
    ·exact h3.elim
  ·rename_i kt vt l e
   rw[e]
   cases hr:ρ b8 with
   |none=>rw[hr]at h3;exact h3.elim
   |some id=>
    rw[hr]at h3
    simp only at h3
    split at h3
    ·rename_i e2
     obtain⟨rfl,rfl,rfl⟩:=h3
     have:=hH.ok id
     unfold aA at this
     rw[e2]at this
     obtain⟨b,es,clock,k1,k2,k4,k3⟩:=this
     exact⟨b,es,clock,by simp only[aj,hr];exact k1,k2,k4,ay.mono (fun b hb hn=>⟨rfl,fE b hb hn⟩) _ _ k3⟩
    ·exact h3.elim
  ·rename_i nf n env ps a b st pd e
   rw[e]
   cases hr:ρ b8 with
   |none=>rw[hr]at h3;exact h3.elim
   |some id=>
    rw[hr]at h3
    simp only at h3
    split at h3
    ·rename_i e2
     obtain⟨rfl,rfl,rfl,rfl,rfl,rfl,rfl,hv⟩:=h3
     have:=hH.ok id
     unfold aA at this
     rw[e2]at this
     obtain⟨b,r,k1,k2,k3,k4,k5,k6,k7,k8,k9,zS⟩:=this
     refine⟨b,r,by simp only[aj,hr];exact k1,k2,k3,k4,k5,k6,k7,k8,k9,fun i=> ?_⟩
     have key:∀ (xs vs:List V),mQ ρ o' H.o nx xs vs->∀i,nr ρ o' H.o nx (bI xs i) (bI vs i):=by
      intro xs
      induction xs with
      |nil=>intro vs hv i;simp[bI,nr]
      |cons x xs ih=>
       intro vs hv i
       unfold mQ at hv
       split at hv
       ·cases i with
        |zero=>exact hv.1
        |succ i=>exact ih _ hv.2 i
       ·exact hv.elim
     exact nR (M':=M') (aj:=aj) (H':=H') (ρ:=ρ) (nx:=nx) hH fE (fun _=>rfl) (fun _ h=>h) aZ _ _ _ (key _ _ hv i) (zS i)
    ·exact h3.elim
  ·rename_i l e
   rw[e]
   cases hr:ρ b8 with
   |none=>rw[hr]at h3;exact h3.elim
   |some id=>
    rw[hr]at h3
    simp only at h3
    split at h3
    ·rename_i e2
     subst h3
     have:=hH.ok id
     unfold aA at this
     rw[e2]at this
     simp only[aj,hr]
     exact D.au (fun b hb hn=>⟨rfl,fE b hb hn⟩) _ _ this
    ·exact h3.elim
  ·rename_i l last e
   rw[e]
   cases hr:ρ b8 with
   |none=>rw[hr]at h3;exact h3.elim
   |some id=>
    rw[hr]at h3
    simp only at h3
    split at h3
    ·rename_i zP e2
     obtain⟨rfl,h3⟩:=h3
     have:=hH.ok id
     unfold aA at this
     rw[e2]at this
     obtain⟨b,k1,k2⟩:=this
     have k3:n7 (ad M' aj H') w l zP b:=k2.mono (fun b hb hn=>⟨rfl,fE b hb hn⟩) rfl
     refine⟨b,by simp only[aj,hr];exact k1, ?_⟩
     rcases h3 with rfl|rfl
     ·rcases k3 with⟨a1,a2,_⟩|⟨m,since,seen,es,a1,a2,a3,a4,a5,_⟩
      ·exact .inl ⟨a1,a2,rfl⟩
      ·exact .inr ⟨m,since,seen,es,a1,a2,a3,a4,a5,fun _ _ e=>by cases e⟩
     ·exact k3
    ·exact h3.elim
  ·rename_i s pos e
   rw[e]
   cases hr:ρ b8 with
   |none=>rw[hr]at h3;exact h3.elim
   |some id=>
    rw[hr]at h3
    simp only at h3
    split at h3
    ·rename_i e2
     obtain⟨rfl,rfl⟩:=h3
     have:=hH.ok id
     unfold aA at this
     rw[e2]at this
     obtain⟨b,k1,k2⟩:=this
     exact⟨b,by simp only[aj,hr];exact k1,k2⟩
    ·exact h3.elim
 ·obtain⟨k1,g1,g2,g3⟩:=bt i b h1 h3
  obtain⟨k2,g4,g5,g6⟩:=bt j b h2 h4
  have:=hH.apart k1 k2 b g2 g5 g3 g6
  subst this
  exact rp i j k1 h1 h2 g1 g4
theorem dq.of_map {b:Nat}{s s':S}(ρ:Nat->Option Nat)(hb:b<=s'.nx)(ho:∀id,jG ρ s'.o s.o s'.nx id)(cZ:∀id,s'.nx<=id->s'.o id= .no)
 (rp:∀i j k,(s'.o i).live=true->(s'.o j).live=true->ρ i=some k->ρ j=some k->i=j)
 (ko:∀id,id<b->ρ id=some id/\(∀e',(s'.o id).aO=some e'->∃e,(s.o id).aO=some e/\e<=e')) (cN:∀i,nr ρ s'.o s.o s'.nx (s'.env i) (s.env i)):dq b s s':=by
 intro M φ w tm hH he
 obtain⟨h1,h2,_,h4⟩:=zR (M':=M) (ρ:=ρ) (nx:=s'.nx) hH (o':=s'.o) ho cZ rp (fun b hb=> .inl hb) hH.pP (fun b hb hl=>by
  have:bq φ s.H b:=by
   obtain⟨b8,g1,g2⟩:=hl
   have h3:=ho b8
   unfold jG at h3
   simp only at g1 g2
   split at h3
   ·rename_i e;rw[e]at g1;cases g1
   ·cases hr:ρ b8 with
    |none=>rw[hr]at h3;exact h3.elim
    |some id=>
     rw[hr]at h3 g2
     simp only at h3 g2
     split at h3
     ·rename_i e;exact⟨id,by simp only[S.H];rw[e];rfl,g2⟩
     ·exact h3.elim
   ·cases hr:ρ b8 with
    |none=>rw[hr]at g2;simp[dA]at g2
    |some id=>
     rw[hr]at h3 g2
     simp only at h3 g2
     split at h3
     ·rename_i e;exact⟨id,by simp only[S.H];rw[e];rfl,g2⟩
     ·exact h3.elim
   ·rename_i e;rw[e]at g1;cases g1
   ·cases hr:ρ b8 with
    |none=>rw[hr]at h3;exact h3.elim
    |some id=>
     rw[hr]at h3 g2
     simp only at h3 g2
     split at h3
     ·rename_i e;exact⟨id,by simp only[S.H];rw[e];rfl,g2⟩
     ·exact h3.elim
   ·cases hr:ρ b8 with
    |none=>rw[hr]at h3;exact h3.elim
    |some id=>
     rw[hr]at h3 g2
     simp only at h3 g2
     split at h3
     ·rename_i e;exact⟨id,by simp only[S.H];rw[e];rfl,g2⟩
     ·exact h3.elim
   ·rename_i e;rw[e]at g1;cases g1
   ·cases hr:ρ b8 with
    |none=>rw[hr]at h3;exact h3.elim
    |some id=>
     rw[hr]at h3 g2
     simp only at h3 g2
     split at h3
     ·rename_i e;exact⟨id,by simp only[S.H];rw[e];rfl,g2⟩
     ·exact h3.elim
   ·cases hr:ρ b8 with
    |none=>rw[hr]at h3;exact h3.elim
    |some id=>
     rw[hr]at h3 g2
     simp only at h3 g2
     split at h3
     ·rename_i e;exact⟨id,by simp only[S.H];rw[e];rfl,g2⟩
     ·exact h3.elim
  exact(hH.ours b this).1 hb)
 refine⟨_,h1,fun i=>h4 _ _ _ (cN i) (he i),h2,hb,fun id ag hr=> ?_,fun id e' ag dZ=> ?_⟩
 ·obtain⟨g1,_⟩:=ko id ag
  refine⟨?_,by simp only[g1]⟩
  have h3:=ho id
  unfold jG at h3
  rw[g1]at h3
  split at h3
  ·rename_i e;rw[e]at hr;cases hr
  ·simp only at h3
   split at h3
   ·rename_i e;rw[e];rfl
   ·exact h3.elim
  ·rename_i e;rw[e]at hr;cases hr
  ·rename_i e;rw[e]at hr;cases hr
  ·simp only at h3
   split at h3
   ·rename_i e;rw[e];rfl
   ·exact h3.elim
  ·simp only at h3
   split at h3
   ·rename_i e;rw[e];rfl
   ·exact h3.elim
  ·simp only at h3
   split at h3
   ·rename_i e;rw[e];rfl
   ·exact h3.elim
  ·simp only at h3
   split at h3
   ·rename_i e;rw[e];rfl
   ·exact h3.elim
  ·simp only at h3
   split at h3
   ·rename_i e;rw[e];rfl
   ·exact h3.elim
 ·obtain⟨g1,g2⟩:=ko id ag
  obtain⟨e,g3,g4⟩:=g2 e' dZ
  exact⟨e,g3,g4,fun _=>by simp only[g1]⟩
end
end Go.Proofs.YtpkobkdgcanmjaaGreat
namespace Go.Proofs.YtpkobkdgcanmjaaGreat
@[go_sem] theorem iq (v:V) (l:List V):bI (v::l) 0=v:=rfl
@[go_sem] theorem fN (v:V) (l:List V) (i:Nat):bI (v::l) (i+1)=bI l i:=rfl
@[go_sem] theorem ir (i:Nat):bI [] i= .aw:=by simp[bI]
def fC:List (Nat×Option Nat)->Nat->Option Nat
 |[],id=>some id
 |(i,r)::R,id=>if i=id then r else fC R id
def BR(R:List (Nat×Option Nat)):List Nat->Bool
 |[]=>true
 |i::l=>l.all (fun j=>i==j||fC R i==none||fC R i !=fC R j)&&BR R l
def wF(ρ:Nat->Option Nat)(o' o:Nat->aa)(nx:Nat)(env:Nat->V):List V->Nat->Prop
 |[],_=>True
 |v::l,i=>nr ρ o' o nx v (env i)/\wF ρ o' o nx env l (i+1)
def rR(ρ:Nat->Option Nat)(o' o:Nat->aa)(nx:Nat):List Nat->Prop
 |[]=>True
 |i::l=>jG ρ o' o nx i/\rR ρ o' o nx l
def ED:Option Nat->Option Nat->Prop
 |none,_=>True
 |some _,none=>False
 |some a,some b=>b<=a
def wG(b:Nat)(o' o:Nat->aa):List Nat->Prop
 |[]=>True
 |i::l=>(i<b->ED (o' i).aO (o i).aO)/\wG b o' o l
theorem BS{o:Nat->aa}:∀ (Δ:List (Nat×aa)) (id:Nat),id∉Δ.map (·.1)->put o Δ id=o id:=by
 intro Δ
 induction Δ generalizing o with
 |nil=>intro id _;rfl
 |cons p Δ ih=>
  intro id h
  simp only[List.map_cons,List.mem_cons,not_or]at h
  rw[yg,ih id h.2]
  simp[h.1]
theorem dq.to {b:Nat}{s:S}(l:List V)(Δ:List (Nat×aa))(nx:Nat)(R:List (Nat×Option Nat))(h1:decide (b<=nx)=true)(h2:(Δ.map (·.1)).all (· <nx)=true)(h3:BR R (Δ.map (·.1))=true)(h4:R.all (fun r=>decide (b<=r.1))=true)
 (h5:wG b (put (fun _=> .no) Δ) s.o (Δ.map (·.1))) (h6:rR (fC R) (put (fun _=> .no) Δ) s.o nx (Δ.map (·.1))) (h7:wF (fC R) (put (fun _=> .no) Δ) s.o nx s.env l 0):
 dq b s ⟨bI l,put (fun _=> .no) Δ,nx⟩:=by
 have pU:∀id,id∈Δ.map (·.1)\/put (fun _=>aa.no) Δ id= .no:=fun id=>by
  by_cases h:id∈Δ.map (·.1)
  ·exact .inl h
  ·exact .inr (BS Δ id h)
 have oi:∀ (ids:List Nat),rR (fC R) (put (fun _=> .no) Δ) s.o nx ids->∀id∈ids,jG (fC R) (put (fun _=> .no) Δ) s.o nx id:=by
  intro ids
  induction ids with
  |nil=>intro _ id h;cases h
  |cons i ids ih=>
   intro h id ag
   rcases List.mem_cons.1 ag with rfl|ag
   ·exact h.1
   ·exact ih h.2 id ag
 have Ox:∀ (ids:List Nat),wG b (put (fun _=> .no) Δ) s.o ids->∀id∈ids,id<b->ED (put (fun _=>aa.no) Δ id).aO (s.o id).aO:=by
  intro ids
  induction ids with
  |nil=>intro _ id h;cases h
  |cons i ids ih=>
   intro h id ag
   rcases List.mem_cons.1 ag with rfl|ag
   ·exact h.1
   ·exact ih h.2 id ag
 have cN:∀ (l:List V) (i:Nat),wF (fC R) (put (fun _=> .no) Δ) s.o nx s.env l i->∀j,nr (fC R) (put (fun _=> .no) Δ) s.o nx (bI l j) (s.env (i+j)):=by
  intro l
  induction l with
  |nil=>intro i _ j;rw[ir];simp[nr]
  |cons v l ih=>
   intro i h j
   cases j with
   |zero=>exact h.1
   |succ j=>
    rw[fN]
    have:=ih (i+1) h.2 j
    rwa [show i+1+j=i+(j+1) by omega]at this
 have rp:∀ (ids:List Nat),BR R ids=true->∀i∈ids,∀j∈ids,∀k,fC R i=some k->fC R j=some k->i=j:=by
  intro ids
  induction ids with
  |nil=>intro _ i h;cases h
  |cons x ids ih=>
   intro h i hi j hj k h1 h2
   simp only[BR,Bool.and_eq_true,List.all_eq_true]at h
   rcases List.mem_cons.1 hi with yR|yR<;>rcases List.mem_cons.1 hj with Bq|Bq
   ·exact yR.trans Bq.symm
   ·subst yR
    have:=h.1 j Bq
    simp only[Bool.or_eq_true,beq_iff_eq,bne_iff_ne,ne_eq]at this
    rcases this with(e|e)|e
    ·exact e
    ·rw[h1]at e;cases e
    ·exact absurd (h1.trans h2.symm) e
   ·subst Bq
    have:=h.1 i yR
    simp only[Bool.or_eq_true,beq_iff_eq,bne_iff_ne,ne_eq]at this
    rcases this with(e|e)|e
    ·exact e.symm
    ·rw[h2]at e;cases e
    ·exact absurd (h2.trans h1.symm) e
   ·exact ih h.2 i yR j Bq k h1 h2
 have HP:∀ (R:List (Nat×Option Nat)),R.all (fun r=>decide (b<=r.1))=true->∀id,id<b->fC R id=some id:=by
  intro R
  induction R with
  |nil=>intro _ id _;rfl
  |cons r R ih=>
   intro h id ag
   obtain⟨i,r⟩:=r
   simp only[List.all_cons,Bool.and_eq_true,decide_eq_true_eq]at h
   unfold fC
   rw[if_neg (by omega)]
   exact ih h.2 id ag
 have ru:∀id,(put (fun _=>aa.no) Δ id).live=true->id∈Δ.map (·.1):=fun id h=>by
  rcases pU id with h'|h'
  ·exact h'
  ·rw[h']at h;cases h
 refine dq.of_map (fC R) (by simpa using h1) (fun id=> ?_) (fun id ag=> ?_) (fun i j k g1 g2 g3 g4=>rp _ h3 i (ru i g1) j (ru j g2) k g3 g4) (fun id ag=>⟨HP R h4 id ag,fun e' he=> ?_⟩) (fun i=>by simpa using cN l 0 h7 i)
 ·rcases pU id with h|h
  ·exact oi _ h6 id h
  ·unfold jG;simp only[h]
 ·rcases pU id with h|h
  ·have:=List.all_eq_true.1 h2 id h
   simp only[decide_eq_true_eq]at this
   simp only at ag
   omega
  ·exact h
 ·rcases pU id with h|h
  ·have:=Ox _ h5 id h ag
   simp only at he
   rw[he]at this
   cases hs:(s.o id).aO with
   |none=>rw[hs]at this;exact this.elim
   |some e=>rw[hs]at this;exact⟨e,rfl,this⟩
  ·simp only[h]at he;cases he
@[go_sem] theorem Dm (k:Nat):(0<=(k:Int))=True:=by simp
attribute [go_sem] List.getElem?_map List.length_map Int.toNat_natCast
attribute [go_sem] dF List.flatMap_cons List.flatMap_nil
attribute [go_sem] isConst mE Ba mC mD sE mA xk kH kI p6 oe og lz
attribute [go_sem] fL V.refs V.ax
attribute [go_sem] wF rR wG ED nr mQ jG fC BP List.all_nil List.all_cons Option.some.injEq D.int.injEq D.bool.injEq Nat.zero_add Nat.add_zero
theorem wrap64{n:Int}(h1: -9223372036854775808<=n)(h2:n<=9223372036854775807):IntKind.i64.wrap n=n:=by
 unfold IntKind.wrap
 have e1:((2:Int)^IntKind.i64.bits)=18446744073709551616:=by decide
 have e2:((2:Int)^(IntKind.i64.bits - 1))=9223372036854775808:=by decide
 have e3:IntKind.i64.signed=true:=rfl
 simp only[e1,e2,e3,Bool.true_and,decide_eq_true_eq]
 split<;>omega
end Go.Proofs.YtpkobkdgcanmjaaGreat
namespace Go.Proofs.YtpkobkdgcanmjaaGreat
structure Good (o:Nat->aa) (nx:Nat):Prop where
 fresh:∀id,nx<=id->o id= .no
 refs:∀id,∀r∈(o id).refs,r<nx
theorem Good.nil {nx:Nat}:Good (fun _=> .no) nx:=⟨fun _ _=>rfl,fun id r h=>by cases h⟩
theorem Good.aV {o:Nat->aa}{nx i:Nat}{x:aa}(h:Good o nx)(hi:i<nx)(hx:x.refs.all (fun r=>decide (r<nx))=true):Good (aV o i x) nx:=by
 refine⟨fun id ag=> ?_,fun id r hr=> ?_⟩
 ·rw[aH _ _ _ _ (by omega)];exact h.fresh id ag
 ·by_cases e:id=i
  ·subst e
   rw[aI]at hr
   simpa using List.all_eq_true.1 hx r hr
  ·rw[aH _ _ _ _ e]at hr
   exact h.refs id r hr
theorem Good.mono {o:Nat->aa}{nx m:Nat}(h:Good o nx)(hm:nx<=m):Good o m:=⟨fun id ag=>h.fresh id (by omega),fun id r hr=>Nat.lt_of_lt_of_le (h.refs id r hr) hm⟩
theorem Good.lt {o:Nat->aa}{nx id:Nat}(h:Good o nx)(hn:o id≠ .no):id<nx:=by
 rcases Nat.lt_or_ge id nx with hl|hl
 ·exact hl
 ·exact absurd (h.fresh id hl) hn
theorem V.iu:∀ (l:List V) (i:Nat),∀r∈(bI l i).refs,r∈V.ax l
 |[],i,r,h=>by rw[ir]at h;cases h
 |v::l,0,r,h=>by rw[iq]at h;simp only[V.ax,List.mem_append];exact .inl h
 |v::l,i+1,r,h=>by rw[fN]at h;simp only[V.ax,List.mem_append];exact .inr (V.iu l i r h)
theorem dq.back {b:Nat}{s:S}{env:Nat->V}{o:Nat->aa}{nx:Nat}(hb:b<=nx)(hn:nx<=s.nx)(hg:Good o nx)(ho:∀id,id<nx->s.o id=o id)
 (he:∀i,env i= .aw\/(env i=s.env i/\∀r∈(env i).refs,r<nx)):dq b s ⟨env,o,nx⟩:=by
 intro M φ w tm hH hd
 have bt:∀k,bq φ (hp o nx) k->bq φ s.H k:=by
  rintro k ⟨id,h1,h2⟩
  have ag:id<nx:=hg.lt (fun e=>by simp only[hp]at h1;rw[e]at h1;cases h1)
  exact⟨id,by simp only[S.H];rw[ho id ag];exact h1,h2⟩
 have hB:∀k, ¬ad M φ s.H k-> ¬ad M φ (hp o nx) k:=fun k h h'=>h (h'.imp id (bt k))
 have du:∀ (v:V) (val:Value),(∀r∈v.refs,r<nx)->V.den (ad M φ s.H) φ s.H w v val->V.den (ad M φ (hp o nx)) φ (hp o nx) w v val:=fun v val hr h=>
  V.ik (H:=s.H) (H':=hp o nx) hB v val (fun id ag=>⟨(ho id (hr id ag)).symm,rfl,hr id ag⟩) h
 have jb:∀ (v:List V) (val:List Value),(∀r∈V.ax v,r<nx)->V.aq (ad M φ s.H) φ s.H w v val->V.aq (ad M φ (hp o nx)) φ (hp o nx) w v val:=fun v val hr h=>
  V.dP (H:=s.H) (H':=hp o nx) hB v val (fun id ag=>⟨(ho id (hr id ag)).symm,rfl,hr id ag⟩) h
 refine⟨φ,⟨fun id=> ?_,fun id hu=>hg.fresh id (by simpa[S.H]using hu),fun i j k h1 h2 h3 h4=> ?_,fun k hk=>hH.ours k (bt k hk),hH.pP⟩,fun i=> ?_,bt,hb,fun id ag hr=> ?_,fun id e' ag dZ=> ?_⟩
 ·have aF:=hH.ok id
  have hrefs:=hg.refs id
  unfold aA at aF|-
  by_cases ag:id<nx
  ·have e:s.H.o id=o id:=ho id ag
   rw[e]at aF
   simp only[S.H]at aF|-
   cases hx:o id with
   |no=>trivial
   |row cs=>
    simp only[hx]at aF hrefs|-
    obtain⟨b,cd,ty,k1,k2,k3,k4⟩:=aF
    exact⟨b,cd,ty,k1,k2,jb _ _ hrefs k3,k4⟩
   |arr ep ty sz es=>
    simp only[hx]at aF|-
    obtain⟨k1,xs,k2,evs,k3,k4,k5⟩:=aF
    exact⟨k1,xs,k2,evs,k3,k4,D.az (fun b _ hn=>⟨rfl,hB b hn⟩) _ _ k5⟩
   |lu ep es=>
    simp only[hx]at aF|-
    exact D.au (fun b _ hn=>⟨rfl,hB b hn⟩) _ _ aF
   |map kt vt es=>
    simp only[hx]at aF|-
    obtain⟨b,es',clock,k1,k2,k4,k3⟩:=aF
    exact⟨b,es',clock,k1,k2,k4,ay.mono (fun b _ hn=>⟨rfl,hB b hn⟩) _ _ k3⟩
   |eg l=>
    simp only[hx]at aF|-
    exact D.au (fun b _ hn=>⟨rfl,hB b hn⟩) _ _ aF
   |my l last=>
    simp only[hx]at aF|-
    obtain⟨b,k1,k2⟩:=aF
    exact⟨b,k1,k2.mono (fun b _ hn=>⟨rfl,hB b hn⟩) rfl⟩
   |n6 s pos=>
    simp only[hx]at aF|-
    exact aF
   |loop nf n env ps a b st pd=>
    simp only[hx]at aF hrefs|-
    obtain⟨b,r,k1,k2,k3,k4,k5,k6,k7,k8,k9,zS⟩:=aF
    exact⟨b,r,k1,k2,k3,k4,k5,k6,k7,k8,k9,fun i=>du _ _ (fun r hr=>hrefs r (V.iu _ _ r hr)) (zS i)⟩
  ·simp only[S.H]
   rw[hg.fresh id (by omega)]
   trivial
 ·have hi:i<nx:=hg.lt (fun e=>by simp only[S.H]at h1;rw[e]at h1;cases h1)
  have hj:j<nx:=hg.lt (fun e=>by simp only[S.H]at h2;rw[e]at h2;cases h2)
  exact hH.apart i j k (by simp only[S.H];rw[ho i hi];exact h1) (by simp only[S.H];rw[ho j hj];exact h2) h3 h4
 ·rcases he i with h|⟨h1,h2⟩
  ·simp only[h];trivial
  ·have:=hd i
   rw[<- h1]at this
   exact du _ _ h2 this
 ·have br:id<nx:=by omega
  exact⟨by rw[ho id br];exact hr,rfl⟩
 ·have br:id<nx:=by omega
  exact⟨e',by rw[ho id br];exact dZ,Nat.le_refl _,fun _=>rfl⟩
def iw(nx:Nat)(env:Nat->V):List V->Nat->Prop
 |[],_=>True
 |v::l,i=>(v= .aw\/(v=env i/\∀r∈v.refs,r<nx))/\iw nx env l (i+1)
theorem dq.gH {b:Nat}{e:Nat->V}{so:Nat->aa}{m:Nat}(l:List V){o:Nat->aa}{nx:Nat}(hb:b<=nx)(hn:nx<=m)(hg:Good o nx)(ho:∀id,id<nx->so id=o id)(he:iw nx e l 0):dq b ⟨e,so,m⟩ ⟨bI l,o,nx⟩:=by
 refine dq.back hb hn hg ho ?_
 have key:∀ (l:List V) (i:Nat),iw nx e l i->∀j,bI l j= .aw\/(bI l j=e (i+j)/\∀r∈(bI l j).refs,r<nx):=by
  intro l
  induction l with
  |nil=>intro i _ j;rw[ir];exact .inl rfl
  |cons v l ih=>
   intro i h j
   cases j with
   |zero=>rw[iq];exact h.1
   |succ j=>
    rw[fN]
    have:=ih (i+1) h.2 j
    rwa [show i+1+j=i+(j+1) by omega]at this
 intro i
 have:=key l 0 he i
 rwa [Nat.zero_add]at this
theorem aP{nx:Nat}{env:Nat->V}{i:Nat}:iw nx env [] i:=trivial
theorem aK{nx:Nat}{env:Nat->V}{l:List V}{i:Nat}(h:iw nx env l (i+1)):iw nx env (.aw::l) i:=⟨.inl rfl,h⟩
theorem aG{nx:Nat}{env:Nat->V}{l:List V}{i:Nat}{x:D}(he:env i= .d x)(h:iw nx env l (i+1)):iw nx env (.d x::l) i:=⟨.inr ⟨he.symm,fun r hr=>by simp[V.refs]at hr⟩,h⟩
theorem bn{nx:Nat}{env:Nat->V}{l:List V}{i:Nat}{v:V}(he:env i=v)(hr:∀r∈v.refs,r<nx)(h:iw nx env l (i+1)):iw nx env (v::l) i:=⟨.inr ⟨he.symm,hr⟩,h⟩
theorem dq.d0 {e:Nat->V}{so:Nat->aa}{m:Nat}(l:List V)(he:iw 0 e l 0):dq 0 ⟨e,so,m⟩ ⟨bI l,fun _=> .no,0⟩:=dq.gH l (Nat.le_refl 0) (Nat.zero_le _) Good.nil (fun _ h=>absurd h (Nat.not_lt_zero _)) he
theorem cI{k:Nat}(h:(k:Int)+1<=9223372036854775807):IntKind.i64.wrap ((k:Int)+1)=((k+1:Nat):Int):=by rw[wrap64 (by omega) h];rfl
theorem cJ{k:IntKind}{a b:Int}(h:a=b):V.d (D.int k a)=V.d (D.int k b):=by rw[h]
end Go.Proofs.YtpkobkdgcanmjaaGreat
namespace Go.Proofs.YtpkobkdgcanmjaaGreat
abbrev D.i (n:Int):D:= .int .i64 n
structure ll where
 name:List UInt8
 args:Int
structure bJ where
 cons:List ll
 dV:List ll
inductive Tm where
 |mk (op n:Int) (kids:List Tm)
 deriving Inhabited
structure TB where
 var:Int
 term:Tm
def Tm.op:Tm->Int| .mk op _ _=>op
def Tm.n:Tm->Int| .mk _ n _=>n
def Tm.kids:Tm->List Tm| .mk _ _ l=>l
theorem Tm.eta (t:Tm):Tm.mk t.op t.n t.kids=t:=by cases t;rfl
theorem Tm.ind {P:Tm->Prop}(h:∀op n kids,(∀k∈kids,P k)->P (.mk op n kids)):∀t,P t:=
 fun t=>Tm.rec (motive_1:=P) (motive_2:=fun l=>∀k∈l,P k) (fun op n kids ih=>h op n kids ih) (fun _ h=>by cases h)
  (fun x l hx hl k hk=>(List.mem_cons.1 hk).elim (fun e=>e ▸ hx) (hl k)) t
mutual
def Tm.d:Tm->D
 | .mk op n kids=> .agg [.i op, .i n, .sl (Tm.ds kids)]
def Tm.ds:List Tm->List D
 |[]=>[]
 |t::l=>t.d::Tm.ds l
end
theorem Tm.vA:∀l:List Tm,Tm.ds l=l.map Tm.d
 |[]=>rfl
 |t::l=>by simp[Tm.ds,Tm.vA l]
theorem Tm.HQ (t:Tm):t.d= .agg [.i t.op, .i t.n, .sl (t.kids.map Tm.d)]:=by cases t;simp[Tm.d,Tm.vA,Tm.op,Tm.n,Tm.kids]
@[go_sem] theorem Tm.Oy (t:Tm):D.agg [.i t.op, .i t.n, .sl (t.kids.map Tm.d)]=t.d:=(Tm.HQ t).symm
@[go_sem] theorem Tm.Na (t:Tm):D.cells t.d=[.i t.op, .i t.n, .sl (t.kids.map Tm.d)]:=by rw[Tm.HQ];rfl
theorem Tm.iy {P:Tm->Prop}(h:∀t:Tm,(∀k∈t.kids,P k)->P t):∀t,P t:=Tm.ind fun op n kids ih=>h (.mk op n kids) ih
theorem Tm.BT (op n:Int)(l:List Tm):(Tm.mk op n l).d= .agg [.i op, .i n, .sl (l.map Tm.d)]:=by simp[Tm.d,Tm.vA]
@[reducible] def ll.d (x:ll):D:= .agg [.str x.name, .i x.args]
@[reducible] def bJ.d (s:bJ):D:= .agg [.sl (s.cons.map ll.d), .sl (s.dV.map ll.d)]
@[reducible] def TB.d (b:TB):D:= .agg [.i b.var, .i b.term.op, .i b.term.n, .sl (b.term.kids.map Tm.d)]
mutual
def Tm.fits:Tm->Prop
 | .mk _ _ kids=>kids.length<=9223372036854775807/\Tm.tQ kids
def Tm.tQ:List Tm->Prop
 |[]=>True
 |t::l=>t.fits/\Tm.tQ l
end
theorem Tm.qC:∀l:List Tm,Tm.tQ l↔∀k∈l,k.fits
 |[]=>by simp[Tm.tQ]
 |t::l=>by simp[Tm.tQ,Tm.qC l]
theorem Tm.cK (t:Tm):t.fits↔t.kids.length<=9223372036854775807/\∀k∈t.kids,k.fits:=by cases t;simp[Tm.fits,Tm.qC,Tm.kids]
mutual
def Tm.lq:Tm->Nat
 | .mk _ _ kids=>1+Tm.gm kids
def Tm.gm:List Tm->Nat
 |[]=>0
 |k::l=>Nat.max k.lq (Tm.gm l)
end
theorem Tm.tR:∀ {l:List Tm} {k:Tm},k∈l->k.lq<=Tm.gm l
 |x::l,k,h=>by
  simp only[Tm.gm]
  rcases List.mem_cons.1 h with rfl|h
  ·exact Nat.le_max_left _ _
  ·exact Nat.le_trans (Tm.tR h) (Nat.le_max_right _ _)
theorem Tm.BU {t k:Tm}(h:k∈t.kids):k.lq+1<=t.lq:=by
 cases t;simp only[Tm.kids]at h;simp only[Tm.lq];have:=Tm.tR h;omega
mutual
def pre:Tm->Int->List (Tm×Int)
 | .mk op n kids,d=>(.mk op n kids,d)::BV kids (d+1)
def BV:List Tm->Int->List (Tm×Int)
 |[],_=>[]
 |k::l,d=>pre k d++BV l d
end
theorem yh(l:List Tm)(d:Int):BV l d=l.flatMap fun k=>pre k d:=by
 induction l with
 |nil=>rfl
 |cons k l ih=>simp[BV,ih]
theorem rS(t:Tm)(d:Int):pre t d=(t,d)::t.kids.flatMap fun k=>pre k (d+1):=by cases t;simp[pre,yh,Tm.kids]
def iD(n low high:Int):Bool:=decide (low<=n)&&decide (n<=high)
def letterF(b:UInt8):Bool:= !((decide ((b.toNat:Int)<97)||decide (122<(b.toNat:Int)))&&(decide ((b.toNat:Int)<65)||decide (90<(b.toNat:Int))))
def gq(s:List UInt8):Bool:=s.all letterF&&iD s.length 1 8
def bK:List ll->List (List UInt8)->Option (List (List UInt8))
 |[],before=>some before
 |x::l,before=>if before.any (· ==x.name)then none else if(!gq x.name|| !iD x.args 0 4)=true then none else bK l (before++[x.name])
def fB:List UInt8:=[70,97,108,115,101]
def tB:List UInt8:=[84,114,117,101]
def jg(x:ll)(s:List UInt8):Bool:=x.name==s&&x.args==0
def mR(s:bJ):Bool:=
 if(!iD s.cons.length 2 12||decide (8<(s.dV.length:Int)))=true then false else
 match s.cons with
 |a::b::_=>if(!jg a fB|| !jg b tB)=true then false else
  match bK s.cons []with
  |none=>false
  |some l=>(bK s.dV l).isSome
 |_=>false
mutual
def eR:Tm->Int->Int->Int
 | .mk _ _ kids,left,depth=>if left<1\/depth<1 then -1 else bL kids (left - 1) (depth - 1)
def bL:List Tm->Int->Int->Int
 |[],left,_=>left
 |k::l,left,depth=>if 0<=left then bL l (eR k left depth) depth else left
end
def jH(l:List ll)(n:Int):Int:=match l[n.toNat]? with|some x=>x.args|none=>0
mutual
def ma:Tm->Tm->Bool
 | .mk op n kids, .mk Tb n' Dn=>op==Tb&&n==n'&&kids.length==Dn.length&&iW kids Dn
def iW:List Tm->List Tm->Bool
 |[],_=>true
 |k::l,k'::l'=>ma k k'&&iW l l'
 |_::_,[]=>true
end
def ef(l:List ll):Bool:=l.all fun x=>decide ((x.name.length:Int)<=30)
def iz(s:bJ):Bool:= !(decide (16<(s.cons.length:Int))||decide (12<(s.dV.length:Int)))&&ef s.cons&&ef s.dV
end Go.Proofs.YtpkobkdgcanmjaaGreat
namespace Go.Proofs.YtpkobkdgcanmjaaGreat
def vB(id:Nat)(K X:V->(Nat->aa)->Nat->Prop)(e:fl)(s:S):Prop:=
 match e with
 | .normal=>∃nf m en p c d st pd,s.o id= .loop nf m en p c d st pd/\K (.d (.bool true)) (aV s.o id (.loop nf m en p c d .ready none)) s.nx
 | .ret=>∃nf m en p c d st pd,s.o id= .loop nf m en p c d st pd/\K (.d (.bool false)) (aV s.o id (.loop nf m en p c d .done (some .ret))) s.nx
 | .exit j=>∃nf m en p c d st pd,s.o id= .loop nf m en p c d st pd/\K (.d (.bool false)) (aV s.o id (.loop nf m en p c d .done (some (.exit j)))) s.nx
 | .ba v=>X v s.o s.nx
def EE(P:Program)(n b id:Nat)(gv:IC)(K X:V->(Nat->aa)->Nat->Prop)(e:fl)(s:S):Prop:=
 match e with
 | .normal=>∃nf m en p c d pd,s.o id= .loop nf m en p c d .ready pd/\nQ P n b true gv (vB id K X) ⟨s.env,aV s.o id (.loop nf m en p c d .busy pd),s.nx⟩
 | .ba v=>X v s.o s.nx
 |_=>False
section
variable {P:Program}{M:Nat->Prop}{φ bT:Place}{H0:Hp}{w w0:World}{n:Nat}{s:S}{a:Act}{cx:Cx}
theorem tS{id:Nat}{x:aa}{s:S}(br:id<s.nx)(j:Nat)(hu:(s.H.put [(id,x)]).us j):j<s.nx:=by
 simp only[cY]at hu
 rcases hu with hu|hu
 ·exact hu
 ·subst hu;exact br
theorem oZ{B:Nat->Prop}{H:Hp}{n:Nat}:∀ (ps:List Nat) (vs:List V) (us:List Value) (env:Nat->V) (tmps:Array Value),tmps.size=n->ps.length=vs.length->V.aq B φ H w vs us->ps.all (fun t=>decide (t<n))=true->(∀i,V.den B φ H w (env i) (tmps.getD i undef))->
 ((ps.zip us).foldl (fun tmps p=>tmps.setIfInBounds p.1 p.2) tmps).size=n/\∀i,V.den B φ H w (vx env ps vs i) (((ps.zip us).foldl (fun tmps p=>tmps.setIfInBounds p.1 p.2) tmps).getD i undef)
 |[],[],us,env,tmps,dv,_,hd,_,he=>by simp only[V.aq]at hd;subst hd;exact⟨dv,he⟩
 |[],v::vs,us,env,tmps,_,h,_,_,_=>by simp at h
 |t::ps,[],us,env,tmps,_,h,_,_,_=>by simp at h
 |t::ps,v::vs,us,env,tmps,dv,hl,hd,hp,he=>by
  obtain⟨u,us,rfl,h1,h2⟩:=hd
  simp only[List.all_cons,Bool.and_eq_true,decide_eq_true_eq]at hp
  simp only[List.zip_cons_cons,List.foldl_cons,vx]
  refine oZ ps vs us (aV env t v) (tmps.setIfInBounds t u) (by simp[dv]) (by simpa using hl) h2 hp.2 (fun i=> ?_)
  simp only[aC]
  by_cases hi:i=t
  ·subst hi
   have:(tmps.setIfInBounds i u).getD i undef=u:=by simp[Array.getD,dv,hp.1]
   rw[if_pos rfl,this];exact h1
  ·have:(tmps.setIfInBounds t u).getD i undef=tmps.getD i undef:=by
    simp only[Array.getD_eq_getD_getElem?]
    rw[Array.getElem?_setIfInBounds_ne (Ne.symm hi)]
   rw[if_neg hi,this];exact he i
theorem dT.oT (aR:P.follows .mixedOrders=true){id:Nat}{args:List V}{o:Nat->aa}{nx:Nat}{K X:V->(Nat->aa)->Nat->Prop}{env:List V}{ps:List Nat}{kg gv:IC}{st:LoopState}{pd:Option lg}
 (ho:o id= .loop P.funcs.size n env ps kg gv st pd) (br:id<nx) (HS:ps.all (fun t=>decide (t<n))=true) (hl:args.length=ps.length)
 (h:nQ P n nx true kg (EE P n nx id gv K X) ⟨vx (bI env) ps args,o,nx⟩):dT P id args o nx K X:=by
 refine⟨by rw[ho];rfl,fun M φ w vals b hH hd cM=> ?_⟩
 have a8:=hH.ok id
 simp only[aA,hp,ho]at a8
 obtain⟨b',r,h1,h2,h0,h3,h4,h5,h6,h7,h8,h9⟩:=a8
 rw[cM]at h1;simp at h1;subst h1
 have hlen:=V.ao _ _ hd
 have dv:vals.size=r.params.size:=by
  have:r.params.toList.length=ps.length:=by rw[h5]
  simp at hlen this;omega
 let tm:Array Value:=(ps.zip vals.toList).foldl (fun tmps p=>tmps.setIfInBounds p.1 p.2) r.tmps
 have HT:(r.params.zip vals).foldl (fun tmps (p:Tmp×Value)=>tmps.setIfInBounds p.1 p.2) r.tmps=tm:=by
  rw[<- Array.foldl_toList,Array.toList_zip,h5]
 obtain⟨p1,p2⟩:=oZ (B:=ad M φ (hp o nx)) (H:=hp o nx) (φ:=φ) (w:=w) ps args vals.toList (bI env) r.tmps h6 hl.symm hd HS h9
 refine⟨r.fn,tm,r.assign,r.body, ?_,fun k=> ?_⟩
 ·simp only[Instr.yield,Sem.run_bind,gE h2,Result.andThen_ok,dv,ne_eq,not_true_eq_false,if_false,Sem.run_pure]
  rw[<- HT]
 ·
   let s0:S:=⟨vx (bI env) ps args,o,nx⟩
   let a0:Act:={tmps:=tm,defers:=[]}
   have rr:bC M φ (hp o nx) w n ⟨[],true⟩ φ s0 a0 w:=⟨hH,Trans.refl _ _ _,p1,⟨[],rfl,List.nodup_nil,fun _=>rfl,fun r hr=>by cases hr⟩,p2⟩
   have o6:∀ {aj s' a' w'},bC M φ (hp o nx) w n ⟨[],true⟩ aj s' a' w'->a'.defers=[]:=by
    intro aj s' a' w' hs
    obtain⟨ms,g1,_,g3,_⟩:=hs.defers
    rw[g3 rfl]at g1;exact g1
   have HU:∀ {aj s' a' w'} {nf m:Nat} {en:List V} {p:List Nat} {c d:IC} {st:LoopState} {pd:Option lg} (st':LoopState) (pd':Option lg),bC M φ (hp o nx) w n ⟨[],true⟩ aj s' a' w'->s'.o id= .loop nf m en p c d st pd->
    ∃r',w'.heap[b]? =some (.loop r')/\r'.state=st/\r'.pending=pd.map lg.code/\
     bC M φ (hp o nx) w n ⟨[],true⟩ aj ⟨s'.env,aV s'.o id (.loop nf m en p c d st' pd'),s'.nx⟩ a' {w' with heap:=w'.heap.setIfInBounds b (.loop {r' with state:=st',pending:=pd'.map lg.code})}:=by
    intro aj s' a' w' nf m en p c d st pd st' pd' hs gW
    have DT:aj id= .pointer (some ⟨b,0,none⟩):=by
     have:=(hs.tr.rel.row id br (by show(s'.o id).bd=true;rw[gW];rfl)).2
     rw[this];exact cM
    have HV:id<s'.nx:=hs.tr.rel.us id br
    obtain⟨r',r1,r2,r3,r4,r5⟩:=qm (st':=st') (pd':=pd') hs.heap HV (show s'.H.o id=_ from gW) DT
    exact⟨r',r1,r2,r3,dh hs r4 r5 rfl (tS HV)⟩
   have ha:=e8 (P:=P) (n:=n) (b:=nx) (rd:=true) aR r.assign _ _ s0 (fun _ _ h=>h) (by rw[h7];exact h)
   refine oH h0 (eM (eW (P:=P) (H0:=hp o nx) (b:=nx) (cx:=⟨[],true⟩) (ro:=some b) (fun id hu=>hu) (fun h=>by cases h) r.assign _ s0 φ a0 w ha rr) ?_)
   rintro e a1 w1 ⟨x,s1,fk,hq,qn,hm⟩
   cases e<;>cases x<;>first|(exact hm.elim)|skip
   ·
     obtain⟨nf,m,en,p,c,d,Oz,q1,q2⟩:=hq
     obtain⟨r',r1,r2,r3,A2⟩:=HU .busy Oz qn q1
     have EF:(Instr.beginRound b).run P w1= .ok () {w1 with heap:=w1.heap.setIfInBounds b (.loop {r' with state:= .busy,pending:=Oz.map lg.code})}:=by
      have e1:({r' with state:= .busy}:Loop)={r' with state:= .busy,pending:=Oz.map lg.code}:=by rw[<- r3]
      simp only[Instr.beginRound,Sem.run_bind,gE r1,Result.andThen_ok,fq _ r1,r2,Sem.run_pure,e1]
     refine⟨_,EF, ?_⟩
     have a7:=A2.heap.ok id
     simp only[aA,S.H,aC,if_true]at a7
     obtain⟨b2,TS,_,_,_,_,_,_,_,_,_,_⟩:=a7
     have hb:=e8 (P:=P) (n:=n) (b:=nx) (rd:=true) aR r.body _ _ _ (fun _ _ h=>h) (by rw[h8];exact q2)
     refine eM (eW (P:=P) (H0:=hp o nx) (b:=nx) (cx:=⟨[],true⟩) (ro:=some b) (fun id hu=>hu) (fun h=>by cases h) r.body _ _ fk a1 _ hb A2) ?_
     rintro e a2 w2 ⟨x,s2,xS,FE,wk,MT⟩
     have fin:∀ {nf m:Nat} {en:List V} {p:List Nat} {c d:IC} {st:LoopState} {pd:Option lg} (jump:Option lg) (t:Bool) (st':LoopState),t=jump.isNone->st'=(if jump.isNone then .ready else .done)->s2.o id= .loop nf m en p c d st pd->K (.d (.bool t)) (aV s2.o id (.loop nf m en p c d st' jump)) s2.nx->
      ∃v w',(Instr.endRound b (jump.map lg.code)).run P w2= .ok v w'/\jr M φ (hp o nx) w K X (.returned v) w':=by
      intro nf m en p c d st pd jump t st' ht lj Tc hK
      obtain⟨TT,g1,g2,g3,FF⟩:=HU st' jump wk Tc
      refine⟨.bool t,_, ?_,xS,_,_,_,FF.heap,FF.tr,by simp only[V.den,D.den],hK⟩
      subst ht;subst lj
      simp only[Instr.endRound,Sem.run_bind,gE g1,Result.andThen_ok,fq _ g1,Sem.run_pure,Option.isNone_map]
     cases e<;>cases x<;>first|(exact MT.elim)|skip
     ·obtain⟨nf,m,en,p,c,d,st,pd,k1,k2⟩:=FE
      exact fin none true .ready rfl rfl k1 k2
     ·rename_i j
      subst MT
      obtain⟨nf,m,en,p,c,d,st,pd,k1,k2⟩:=FE
      exact fin (some (.exit _)) false .done rfl rfl k1 k2
     ·obtain⟨nf,m,en,p,c,d,st,pd,k1,k2⟩:=FE
      exact fin (some .ret) false .done rfl rfl k1 k2
     ·obtain⟨val,rfl,k2⟩:=MT
      exact⟨o6 wk,xS,_,_,_,wk.heap,wk.tr,val,rfl,k2,FE⟩
   ·exact hq.elim
   ·exact hq.elim
   ·obtain⟨val,rfl,k2⟩:=hm
    exact⟨o6 qn,fk,_,_,_,qn.heap,qn.tr,val,rfl,k2,hq⟩
end
end Go.Proofs.YtpkobkdgcanmjaaGreat
namespace Go.Proofs.YtpkobkdgcanmjaaGreat
def EG(ops:Array Oper)(t t1:Nat):Prop:=
 (∃o1 o2,ops=#[o1,o2]/\o1.op= .call ⟨.builtin .recover,#[],#[]⟩/\o1.dst=some t/\o1.guard=none/\o2.op= .assign (.tmp t)/\o2.dst=some t1/\o2.guard=none)\/
 (∃o1,ops=#[o1]/\t1=t/\o1.op= .call ⟨.builtin .recover,#[],#[]⟩/\o1.dst=some t/\o1.guard=none)
structure wH (P:Program) (g:FuncId) (n t t1:Nat) (ic:IC):Prop where
 get:∃fn id ops c,P.funcs[g]? =some fn/\(fn.name== "runtime.NumGoroutine")=false/\fn.ntmps=n/\fn.results=#[]/\fn.body=some (.seq (.region id ops false) c)/\
  EG ops t t1/\t<n/\t1<n/\low n c=ic
structure zT (P:Program) (f:FuncId) (n:Nat) (kg gv:IC) (g:FuncId) (t:Nat) (b9:List Operand) (rs:List ResultVar):Prop where
 get:∃fn id o1 o2 a b,P.funcs[f]? =some fn/\(fn.name== "runtime.NumGoroutine")=false/\fn.ntmps=n/\fn.results.toList=rs/\fn.body=some (.seq a (.seq (.region id #[o1,o2] false) b))/\
  o1.op= .makeFunc (.func g) #[] b9.toArray/\o1.dst=some t/\o1.guard=none/\o2.op= .defer ⟨.value (.tmp t),#[],#[]⟩/\o2.dst=none/\o2.guard=none/\t<n/\low n a=kg/\low n b=gv
def OA(K:(Nat->aa)->Nat->Prop)(e:fl)(s:S):Prop:=match e with| .normal| .ret=>K s.o s.nx|_=>False
def yi(P:Program)(n t t1:Nat)(ic:IC)(b9:List V)(u:V)(o:Nat->aa)(nx:Nat)(K:(Nat->aa)->Nat->Prop):Prop:=
 b9.length<=n/\nQ P n nx true ic (OA K) ⟨aV (aV (bW b9) t u) t1 u,o,nx⟩
def vC(P:Program)(n t t1:Nat)(ic:IC)(b9:List V)(rs:List ResultVar)(K X:V->(Nat->aa)->Nat->Prop)(e:fl)(s:S):Prop:=
 match e with
 | .normal| .ret=>yi P n t t1 ic b9 (.d .dI) s.o s.nx fun o nx=>iS P rs K X .ret ⟨s.env,o,nx⟩
 | .ba v=>yi P n t t1 ic b9 v s.o s.nx fun o nx=>iS P rs K X .ret ⟨s.env,o,nx⟩
 | .exit _=>False
def zU(P:Program)(n t:Nat)(gv:IC)(fG:List Operand)(g:FuncId)(D:List V->fl->S->Prop)(e:fl)(s:S):Prop:=
 match e with
 | .normal=>nQ P n s.nx false gv (D (fG.map s.ev)) ⟨aV s.env t (.func (.func g) [] (fG.map s.ev)),s.o,s.nx⟩
 |_=>False
section
variable {P:Program}{M:Nat->Prop}{φ bT:Place}{H H0:Hp}{w w0:World}{n:Nat}{s:S}{a:Act}{cx:Cx}{k:Nat}
theorem yj(aR:P.follows .mixedOrders=true){g:FuncId}{t t1:Nat}{ic:IC}(hg:wH P g n t t1 ic){b9:List V}{u:V}{o:Nat->aa}{nx:Nat}{K:(Nat->aa)->Nat->Prop}(h:yi P n t t1 ic b9 u o nx K)
 {vals:Array Value} {val:Value} {m:FrameMode} (hH:ai M φ (hp o nx) w) (hd:V.aq (ad M φ (hp o nx)) φ (hp o nx) w b9 vals.toList) (hv:V.den (ad M φ (hp o nx)) φ (hp o nx) w u val)
 (hm:(m= .returning/\val= .nilIface)\/m= .panicking [{v:=val,recovered:=false}]):
 CallsDIn (cV none) k P g vals m w fun e u' w'=>∃v aj o' nx',e= .returned v/\settle u'= .returning/\ai M aj (hp o' nx') w'/\Trans φ (hp o nx) w aj (hp o' nx') w'/\K o' nx':=by
 obtain⟨fn,id,ops,c,hf,Dp,Td,te,lX,x7,ht,su,ko⟩:=hg.get
 have br:g<P.funcs.size:=(Array.getElem?_eq_some_iff.1 hf).1
 obtain⟨nB,h⟩:=h
 have hlen:=V.ao _ _ hd
 refine⟨trivial,fun kV cs zV CA=> ?_⟩
 let b:Frame:={(default:Frame)with fn:=g,kind:= .deferred,roundOf:=none}
 let nS:Array Value:=vals++Array.replicate (fn.ntmps - vals.size) undef
 have OB:nS.size=n:=by simp only[nS,Array.size_append,Array.size_replicate];simp at hlen;omega
 have iR:Frame.enter P g vals .deferred=b.atR {tmps:=nS,defers:=[]} [.code (.seq (.region id ops false) c)]:=by
  simp[Frame.enter,Frame.atR,hf,lX,b,nS]
 obtain⟨m',Q0,a7⟩:∃m',settle m'= .returning/\((recoverD (kV::cs)=none/\m'=m/\val= .nilIface)\/recoverD (kV::cs)=some (val,{kV with mode:=m'}::cs)):=by
  rcases hm with⟨rfl,rfl⟩|rfl
  ·exact⟨.returning,rfl, .inl ⟨by simp[recoverD,zV],rfl,rfl⟩⟩
  ·exact⟨.panicking [{v:=val,recovered:=true}],rfl, .inr (by simp[recoverD,zV])⟩
 have MQ:({kV with mode:=m}:Frame)=kV:=by subst zV;rfl
 let a1:Act:={tmps:=(nS.setIfInBounds t val).setIfInBounds t1 val,defers:=[]}
 have BC:(Code.region id ops false).wpSIn (cV none) k P (fun e a' cs' w'=>e= .normal/\a'=a1/\cs'={kV with mode:=m'}::cs/\w'=w) {tmps:=nS,defers:=[]} (kV::cs) w:=by
  rcases x7 with⟨o1,o2,rfl,e1,e2,e3,e4,e5,e6⟩|⟨o1,rfl,rfl,e1,e2,e3⟩
  ·refine wpSIn_region ?_
   have hr:List.range (#[o1,o2]:Array Oper).size=[0,1]:=rfl
   have g0:(#[o1,o2]:Array Oper)[0]? =some o1:=rfl
   have g1:(#[o1,o2]:Array Oper)[1]? =some o2:=rfl
   rw[hr]
   have x1:∀ (ρ:Operand->Value) (w:World),(execOp ρ o1).run P w= .ok .recover w:=by
    intro ρ w
    simp[execOp,e1,resolve,invoke,builtin]
   have x2:∀ (ρ:Operand->Value) (w:World),(execOp ρ o2).run P w= .ok (.value (ρ (.tmp t))) w:=by
    intro ρ w
    simp[execOp,e4]
   have last:∀cs',cs'={kV with mode:=m'}::cs->wpOpsSIn (cV none) k P #[o1,o2] (fun e a' cs' w'=>e= .normal/\a'=a1/\cs'={kV with mode:=m'}::cs/\w'=w) [1] (({tmps:=nS,defers:=[]}:Act).put (some t) val) cs' w:=by
    rintro cs' rfl
    have hw:Region.wanted o2 (yielded #[o1,o2] (({tmps:=nS,defers:=[]}:Act).put (some t) val).tmps)=true:=by simp[Region.wanted,e6]
    have cU:(({tmps:=nS,defers:=[]}:Act).put (some t) val).eval (.tmp t)=val:=by
     have:t<nS.size:=by omega
     simp[Act.put,Act.eval,Array.getD,this]
    simp only[wpOpsSIn,g1,hw,if_true,x2,cU,e5]
    refine⟨fun _ _=>trivial, ?_⟩
    simp[a1,Act.put]
   have hw:Region.wanted o1 (yielded #[o1,o2] nS)=true:=by simp[Region.wanted,e3]
   rw[wpOpsSIn,g0]
   refine⟨fun _ _=>trivial, ?_⟩
   simp only[hw,if_true,x1,e2]
   rcases a7 with⟨hr,rfl,rfl⟩|hr
   ·simp only[hr]
    exact last _ (by rw[MQ])
   ·simp only[hr]
    exact last _ rfl
  ·refine wpSIn_region ?_
   have hr:List.range (#[o1]:Array Oper).size=[0]:=rfl
   have g0:(#[o1]:Array Oper)[0]? =some o1:=rfl
   rw[hr]
   have x1:∀ (ρ:Operand->Value) (w:World),(execOp ρ o1).run P w= .ok .recover w:=by
    intro ρ w
    simp[execOp,e1,resolve,invoke,builtin]
   have same:a1=({tmps:=nS,defers:=[]}:Act).put (some t1) val:=by
    simp only[a1,Act.put]
    congr 1
    apply Array.ext_getElem?
    intro j
    simp only[Array.getElem?_setIfInBounds]
    by_cases hj:t1=j
    ·subst hj;simp
    ·simp[hj]
   have last:∀cs',cs'={kV with mode:=m'}::cs->wpOpsSIn (cV none) k P #[o1] (fun e a' cs' w'=>e= .normal/\a'=a1/\cs'={kV with mode:=m'}::cs/\w'=w) [] (({tmps:=nS,defers:=[]}:Act).put (some t1) val) cs' w:=by
    rintro cs' rfl
    simp only[wpOpsSIn]
    exact⟨trivial,same.symm,trivial,trivial⟩
   have hw:Region.wanted o1 (yielded #[o1] nS)=true:=by simp[Region.wanted,e3]
   rw[wpOpsSIn,g0]
   refine⟨fun _ _=>trivial, ?_⟩
   simp only[hw,if_true,x1,e2]
   rcases a7 with⟨hr,rfl,rfl⟩|hr
   ·simp only[hr]
    exact last _ (by rw[MQ])
   ·simp only[hr]
    exact last _ rfl
 obtain⟨er,ar,TU,wr,hl,⟨rfl,rfl,rfl,Te⟩,bS⟩:=BC b [.code c] rfl rfl trivial (fun d hd=>by simp[cV]at hd)
 rw[Te]at bS
 let s0:S:=⟨aV (aV (bW b9) t u) t1 u,o,nx⟩
 have rr:bC M φ (hp o nx) w n ⟨[],true⟩ φ s0 a1 w:=by
  refine⟨hH,Trans.refl _ _ _,by simp[a1,OB],⟨[],rfl,List.nodup_nil,fun _=>rfl,fun r hr=>by cases hr⟩,fun i=> ?_⟩
  have cN:=oG (m:=fn.ntmps - vals.size) hd i
  simp only[s0,a1,aC]
  have MV:t<nS.size:=by omega
  have OC:t1<nS.size:=by omega
  by_cases h1:i=t1
  ·subst h1
   simp only[if_true]
   have:((nS.setIfInBounds t val).setIfInBounds i val).getD i undef=val:=by simp[Array.getD,OC]
   rw[this];exact hv
  ·simp only[h1,if_false]
   have e1:((nS.setIfInBounds t val).setIfInBounds t1 val).getD i undef=(nS.setIfInBounds t val).getD i undef:=by
    simp only[Array.getD_eq_getD_getElem?]
    rw[Array.getElem?_setIfInBounds_ne (Ne.symm h1)]
   rw[e1]
   by_cases h2:i=t
   ·subst h2
    simp only[if_true]
    have:(nS.setIfInBounds i val).getD i undef=val:=by simp[Array.getD,MV]
    rw[this];exact hv
   ·simp only[h2,if_false]
    have e1:(nS.setIfInBounds t val).getD i undef=nS.getD i undef:=by
     simp only[Array.getD_eq_getD_getElem?]
     rw[Array.getElem?_setIfInBounds_ne (Ne.symm h2)]
    rw[e1];exact cN
 have Tf:=e8 (P:=P) (n:=n) (b:=nx) (rd:=true) aR c _ _ s0 (fun _ _ h=>h) (by rw[ko];exact h)
 obtain⟨e,a',w',⟨x,s',aj,hq,gM,hx⟩,wh⟩:=eW (P:=P) (H0:=hp o nx) (b:=nx) (cx:=⟨[],true⟩) (ro:=none) (fun id hu=>hu) (fun h=>by cases h) c _ s0 φ a1 w Tf rr b [] ({kV with mode:=m'}::cs) rfl br
 have i0:(lone (b.atR {tmps:=nS,defers:=[]} [.code (.seq (.region id ops false) c)]) (kV::cs) w).fenced P (cV none):=fenced_calm (n:=0) trivial eL rfl
 have Dq:StepsIn (Machine.fenced P (cV none)) P (lone (b.atR {tmps:=nS,defers:=[]} [.code (.seq (.region id ops false) c)]) (kV::cs) w) (lone (b.atR a1 [.code c]) ({kV with mode:=m'}::cs) w):= .head i0 stepR_seq bS
 have o6:a'.defers=[]:=by
  obtain⟨ms,g1,_,g3,_⟩:=gM.defers
  rw[g3 rfl]at g1;exact g1
 have HW:∀tm:Array Value,∃v,(results fn tm).run P w'= .ok v w':=by
  intro tm
  refine⟨_,jw (vals:=[]) ?_⟩
  rw[te];rfl
 rw[iR]
 obtain⟨v,pL⟩:=HW a'.tmps
 cases e<;>cases x<;>first|(exact hx.elim)|(exact hq.elim)|skip
 ·exact⟨.returned v,m',w',_,⟨v,aj,s'.o,s'.nx,rfl,Q0,gM.heap,gM.tr,hq⟩,StepsIn.trans Dq (StepsIn.trans wh (.one (fenced_calm (n:=0) (fr:=b.atR a' []) trivial eL rfl) (stepR_end rfl))),rfl,rfl,rfl,o6,fn,hf,pL⟩
 ·obtain⟨todo,hs⟩:=wh.1 rfl
  exact⟨.returned v,m',w',_,⟨v,aj,s'.o,s'.nx,rfl,Q0,gM.heap,gM.tr,hq⟩,StepsIn.trans Dq hs,rfl,rfl,rfl,o6,fn,hf,pL⟩
theorem fm.zW (aR:P.follows .mixedOrders=true){f g:FuncId}{kg gv tT:IC}{t m r r1:Nat}{fG:List Operand}{rs:List ResultVar}(hf:zT P f n kg gv g t fG rs)(hg:wH P g m r r1 tT)
 {args:List V} {o:Nat->aa} {nx:Nat} {K X:V->(Nat->aa)->Nat->Prop} (hl:args.length<=n)
 (h:nQ P n nx true kg (zU P n t gv fG g fun b9=>vC P m r r1 tT b9 rs K X) ⟨bW args,o,nx⟩):fm P f args o nx K X:=by
 obtain⟨fn,id,o1,o2,ca,cb,xN,Dp,Td,te,lX,e1,e2,e3,e4,e5,e6,ht,Tg,A0⟩:=hf.get
 obtain⟨gn,_,_,gc,Th,EH,_,_,EI,_⟩:=hg.get
 refine⟨⟨fn,xN,Dp,by rw[lX];rfl⟩,fun M φ w vals hH hd=> ?_⟩
 have hlen:=V.ao _ _ hd
 let s0:S:=⟨bW args,o,nx⟩
 let a0:Act:={tmps:=vals++Array.replicate (fn.ntmps - vals.size) undef,defers:=[]}
 have rr:bC M φ (hp o nx) w n ⟨[],true⟩ φ s0 a0 w:=by
  refine⟨hH,Trans.refl _ _ _, ?_,⟨[],rfl,List.nodup_nil,fun _=>rfl,fun r hr=>by cases hr⟩,oG hd⟩
  simp only[a0,Array.size_append,Array.size_replicate];simp at hlen;omega
 have ha:=e8 (P:=P) (n:=n) (b:=nx) (rd:=true) aR ca _ _ s0 (fun _ _ h=>h) (by rw[Tg];exact h)
 refine s7 (ro:=none) (k:=0) (jx xN lX (rm (eM (eW (P:=P) (H0:=hp o nx) (b:=nx) (cx:=⟨[],true⟩) (ro:=none) (fun id hu=>hu) (fun h=>by cases h) ca _ s0 φ a0 w ha rr) ?_)))
 rintro e a1 w1 ⟨x,s1,fk,hq,qn,hm⟩
 cases e<;>cases x<;>first|(exact hm.elim)|(exact hq.elim)|skip
 have o6:a1.defers=[]:=by
  obtain⟨ms,g1,_,g3,_⟩:=qn.defers
  rw[g3 rfl]at g1;exact g1
 let cv:Array Value:=(fG.map a1.eval).toArray
 let fv:Value:= .func (.func g) #[] cv
 let dd:Deferred:={target:= .fn (.func g) cv,args:=#[]}
 let a2:Act:={tmps:=a1.tmps.setIfInBounds t fv,defers:=[dd]}
 have Dr:V.aq (ad M fk s1.H) fk s1.H w1 (fG.map s1.ev) cv.toList:=by
  simpa[cv]using gx (M:=M) (φ:=fk) (H:=s1.H) (w:=w1) s1 a1 qn.env fG
 refine rm (eM (Q:=fun e a w=>e= .normal/\a=a2/\w=w1) (kP (k:=0) (wpIn_region_list ?_)) ?_)
 ·have y1:Region.wanted o1 (yielded #[o1,o2] a1.tmps)=true:=by simp[Region.wanted,e3]
  have y2:∀tm,Region.wanted o2 (yielded #[o1,o2] tm)=true:=by intro tm;simp[Region.wanted,e6]
  have cU:(a1.put (some t) fv).eval (.tmp t)=fv:=by
   have:t<a1.tmps.size:=by rw[qn.size];exact ht
   simp[Act.put,Act.eval,Array.getD,this]
  show wpListIn (cV none) 0 P #[o1,o2] _ [o1,o2] a1 w1
  unfold wpListIn
  rw[if_pos y1]
  have x1:(execOp a1.eval o1).run P w1= .ok (.value fv) w1:=by simp[execOp,e1,fv,cv,Instr.makeFunc]
  refine gC (fun c hc=>by rw[e1]at hc;cases hc) ?_
  rw[x1]
  show wpListIn (cV none) 0 P #[o1,o2] _ [o2] (a1.put o1.dst fv) w1
  rw[e2]
  unfold wpListIn
  rw[if_pos (y2 _)]
  have x2:(execOp (a1.put (some t) fv).eval o2).run P w1= .ok (.defer dd) w1:=by
   simp[execOp,e4,resolve,cU,Deferred.ofValue,fv,dd]
  refine⟨fun _ _=>trivial, ?_⟩
  have:(o2.semAt (cV none).round (a1.put (some t) fv).eval)=execOp (a1.put (some t) fv).eval o2:=rfl
  rw[this,x2]
  unfold Oper.uponIn
  simp only[e5,wpListIn,Act.put,o6,a2,and_self]
 rintro e a w2 ⟨rfl,rfl,rfl⟩
 have su:t<a1.tmps.size:=by rw[qn.size];exact ht
 let s2:S:=⟨aV s1.env t (.func (.func g) [] (fG.map s1.ev)),s1.o,s1.nx⟩
 have A2:bC M fk s1.H w2 n ⟨[dd],false⟩ fk s2 a2 w2:=by
  refine⟨qn.heap,Trans.refl _ _ _,by simp[a2,qn.size],⟨[],rfl,List.nodup_nil,fun _=>rfl,fun r hr=>by cases hr⟩,fun i=> ?_⟩
  simp only[s2,a2,aC]
  by_cases h1:i=t
  ·subst h1
   have:(a1.tmps.setIfInBounds i fv).getD i undef=fv:=by simp[Array.getD,su]
   simp only[if_true];rw[this]
   exact⟨#[],cv,rfl,rfl,Dr⟩
  ·have:(a1.tmps.setIfInBounds t fv).getD i undef=a1.tmps.getD i undef:=by
    simp only[Array.getD_eq_getD_getElem?]
    rw[Array.getElem?_setIfInBounds_ne (Ne.symm h1)]
   simp only[h1,if_false];rw[this]
   exact qn.env i
 have hb:=e8 (P:=P) (n:=n) (b:=s1.nx) (rd:=false) aR cb _ _ s2 (fun _ _ h=>h) (by rw[A0];exact hq)
 refine eM (eW (P:=P) (H0:=s1.H) (b:=s1.nx) (cx:=⟨[dd],false⟩) (ro:=none) (fun id hu=>hu) (fun _=>rfl) cb _ s2 fk a2 w2 hb A2) ?_
 rintro e a3 w3 ⟨x,s3,HX,Nb,wk,sv⟩
 obtain⟨ms,g1,g2,_,g4⟩:=wk.defers
 have hinv:(invoke dd.target dd.args).run P=fun w=> .ok (.enter g cv) w:=by
  funext w
  have:=ig (w:=w) ⟨gn,Th,EH,by rw[EI];rfl⟩ cv
  simpa[dd,invoke]using this
 have last:∀ {w4:World} {tm:Array Value} {u:V} {val:Value} {m0:FrameMode},m0≠ .run->rq M fk s1.H w2 HX s3 a3.tmps w4->V.den (ad M HX s3.H) HX s3.H w4 u val->
  ((m0= .returning/\val= .nilIface)\/m0= .panicking [{v:=val,recovered:=false}])->
  (yi P m r r1 tT (fG.map s1.ev) u s3.o s3.nx fun o nx=>iS P rs K X .ret ⟨s3.env,o,nx⟩)->
  LeavesInM (cV none) 0 P fn a3.tmps (jr M φ (hp o nx) w K X) [dd] m0 w4:=by
  intro w4 tm u val m0 dO hB DM Ti a7
  have EJ:=V.az hB.tr _ _ Dr
  refine⟨dO, .inr ⟨fun h=>by simp[cV]at h, .func g,cv,g,cv,rfl,by rw[hinv],fun _ _=>trivial,CallsDIn.mono (yj (k:=0 - 1) aR hg a7 (m:=m0) hB.heap EJ DM Ti) ?_⟩⟩
  rintro e u' w5 ⟨v,OD,o5,Nc,rfl,OE,k1,k2,k3⟩
  show LeavesInM (cV none) 0 P fn a3.tmps (jr M φ (hp o nx) w K X) [] (settle u') w5
  rw[OE]
  obtain⟨vs,h1,h2⟩:=tg k3
  rw[<- te]at h1
  have HY:∀i,V.den (ad M OD (hp o5 Nc)) OD (hp o5 Nc) w5 (s3.env i) (a3.tmps.getD i undef):=fun i=>V.au k2 _ _ (hB.env i)
  obtain⟨Q1,h3,h4⟩:=nP (P:=P) (s:=⟨s3.env,o5,Nc⟩) (a:=a3) k1 HY _ _ h1
  exact⟨_,jw h3,OD,o5,Nc,_,k1,qn.tr.trans (hB.tr.trans k2),th h4,h2⟩
 have done:yi P m r r1 tT (fG.map s1.ev) (.d .dI) s3.o s3.nx (fun o nx=>iS P rs K X .ret ⟨s3.env,o,nx⟩)->LeavesInM (cV none) 0 P fn a3.tmps (jr M φ (hp o nx) w K X) a3.defers .returning w3:=by
  intro a7
  rw[g1]
  exact eN (P:=P) (k:=0) (fn:=fn) (R:=jr M φ (hp o nx) w K X) (u:= .returning) (by simp) (ds:=[dd]) (fun w4 hB=>last (tm:=a3.tmps) (by simp) hB (u:= .d .dI) (val:= .nilIface) (by simp[V.den,D.den]) (.inl ⟨rfl,rfl⟩) a7) ms w3 g2 g4 wk.QU
 cases e<;>cases x<;>first|(exact sv.elim)|skip
 ·exact done Nb
 ·exact Nb.elim
 ·exact done Nb
 ·rename_i v
  obtain⟨val,rfl,N7⟩:=sv
  show LeavesInM (cV none) 0 P fn a3.tmps (jr M φ (hp o nx) w K X) a3.defers _ w3
  rw[g1]
  let HZ:Nat->V:=fun i=>match i with|0=>v|i+1=>s3.env i
  have H3:(#[val]++a3.tmps).getD 0 undef=val:=by simp[Array.getD]
  have H4:∀i,(#[val]++a3.tmps).getD (i+1) undef=a3.tmps.getD i undef:=by
   intro i
   simp only[Array.getD_eq_getD_getElem?]
   rw[Array.getElem?_append_right (by simp)]
   simp
  have CQ:rq M fk s1.H w2 HX ⟨HZ,s3.o,s3.nx⟩ (#[val]++a3.tmps) w3:=⟨wk.heap,wk.tr,fun i=>by
   cases i with
   |zero=>rw[H3];exact N7
   |succ i=>rw[H4];exact wk.env i⟩
  have H5:∀w4,rq M fk s1.H w2 HX ⟨HZ,s3.o,s3.nx⟩ (#[val]++a3.tmps) w4->LeavesInM (cV none) 0 P fn a3.tmps (jr M φ (hp o nx) w K X) [dd] (.panicking [{v:=val,recovered:=false}]) w4:=by
   intro w4 hB
   have Q2:=hB.env 0
   rw[H3]at Q2
   refine last (tm:=a3.tmps) (by simp) ⟨hB.heap,hB.tr,fun i=> ?_⟩ Q2 (.inr rfl) Nb
   have hs:=hB.env (i+1)
   rw[H4]at hs
   exact hs
  exact eN (P:=P) (k:=0) (fn:=fn) (R:=jr M φ (hp o nx) w K X) (u:= .panicking [{v:=val,recovered:=false}]) (by simp) (ds:=[dd]) H5 ms w3 g2 g4 CQ
end
end Go.Proofs.YtpkobkdgcanmjaaGreat
