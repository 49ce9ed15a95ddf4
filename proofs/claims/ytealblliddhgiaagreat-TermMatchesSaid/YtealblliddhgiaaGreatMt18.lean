/-
  A PART OF THE PROOF. Conditions: none.
-/
import Derived.Test.YtealblliddhgiaaGreatMt17
set_option linter.unusedSimpArgs false
set_option linter.unusedVariables false
namespace Go.Proofs.YtealblliddhgiaaGreat
def BB(t:Tm):D:=if t.op=1 then .iface 131 (.i t.n)else .iface 132 t.d
theorem seeD_1{t:Tm}(h:t.op=1):BB t= .iface 131 (.i t.n):=if_pos h
theorem seeD_2{t:Tm}(h: ¬t.op=1):BB t= .iface 132 t.d:=if_neg h
@[go_sem] theorem Jn:pO Tryz.prog 131=true:=by kernel_rfl
@[go_sem] theorem K7:pO Tryz.prog 132=true:=by kernel_rfl
theorem lJ(t:Tm):bC Tryz.prog 98 [t.d] (.ret [BB t]):=by
 refine bC.aV mix Rh (by simp) ?_
 rw[Wq]
 by_cases h1:t.op=1
 ·have eI:(t.op==1)=true:=by simpa using h1
  rw[seeD_1 h1]
  simp+contextual (disch:=first|omega|simp only[go_sem,false_implies]) only[go_sem,wrap64,if_pos,eI]
 ·have eI:(t.op==1)=false:=by simpa using h1
  rw[seeD_2 h1]
  simp+contextual (disch:=first|omega|simp only[go_sem,false_implies]) only[go_sem,wrap64,if_pos,eI]
theorem xn(n:Int):bC Tryz.prog 125 [.i n] (.ret [(Tm.mk 1 n []).d]):=by
 refine bC.aV mix KU (by simp) ?_
 rw[M4]
 simp+contextual (disch:=first|omega|simp only[go_sem,false_implies]) only[go_sem,wrap64,if_pos,and_self]
 refine aU (qU n) ?_
 simp+contextual (disch:=first|omega|simp only[go_sem,false_implies]) only[go_sem,wrap64,if_pos,and_self]
theorem rN(t:Tm):bC Tryz.prog 128 [t.d] (.ret [t.d]):=by
 refine bC.aV mix KY (by simp) ?_
 rw[M6]
 simp+contextual (disch:=first|omega|simp only[go_sem,false_implies]) only[go_sem,wrap64,if_pos,and_self]
theorem Jo{b:List (Int×Tm)}{f:Nat}{t x:Tm}(h:ka f b t=some x){o:Nat->ab}{nx id:Nat}(hg:Good o nx)(ho:o id=dG b)(K X:V->(Nat->ab)->Nat->Prop)
 (hK:∀o' nx',nx<=nx'->Good o' nx'->(∀j,j<nx->o' j=o j)->K (.d (BB x)) o' nx'):eR Tryz.prog 101 [.mp id, .d t.d] o nx K X:=by
 have bI:id<nx:=hg.lt (by rw[ho];exact ab.noConfusion)
 have y1:id≠nx:=by omega
 have y2:∀k,id≠nx+k:=fun k=>by omega
 refine eR.aV mix Gc (by simp) ?_
 rw[IV]
 simp+contextual (disch:=first|omega|simp only[go_sem,false_implies]) only[go_sem,wrap64,if_pos,ho,y1,y2,Nat.add_assoc,Nat.left_eq_add,Nat.add_eq_left,Nat.add_left_cancel_iff]
 refine aT (fun i:Nat×Tm=>⟨bq [.mp id, .af, .af, .ptr nx 0],ax o nx (.row i.2.row),nx+1⟩)
  (fun i=>ka i.1 b i.2=some x) (fun i=>i.1) (f,t) h ?_ ?_
 ·dsimp only
  refine bP.cF _ (by omega) (by omega) (by repeat(first|exact hg.mono (by omega)|exact Good.nil|refine Good.ax ?_ (by omega) rfl|refine Good.ax ?_ (by omega) (cX _ _ _ (by omega))|refine Good.ax ?_ (by omega) (by simp[ab.refs,V.ah,V.refs]<;>omega))) (fun j hj=> ?_) ?_
  ·(repeat(first|rfl|rw[aa]|rw[ae _ _ _ _ (by omega)]))
  ·(repeat(first|exact ao|refine ai ?_|refine ag rfl ?_|refine ag (aR (aQ (by omega))) ?_|refine aD rfl (by simp[V.refs,V.ah]<;>first|omega|assumption) ?_))
 rintro⟨f,t⟩ hf
 simp only at hf
 simp+contextual (disch:=first|omega|simp only[go_sem,false_implies]) only[go_sem,wrap64,if_pos,ho,y1,y2,Nat.add_assoc,Nat.left_eq_add,Nat.add_eq_left,Nat.add_left_cancel_iff]
 refine aU (lJ t) ?_
 cases f with
 |zero=>cases hf
 |succ f=>
 simp only[ka]at hf
 by_cases h1:t.op=1
 ·rw[if_pos h1]at hf
  rw[seeD_1 h1]
  cases hl:bL b t.n with
  |none=>
   rw[hl]at hf
   injection hf with hf
   subst hf
   simp+contextual (disch:=first|omega|simp only[go_sem,false_implies]) only[go_sem,wrap64,if_pos,ho,y1,y2,Nat.add_assoc,Nat.left_eq_add,Nat.add_eq_left,Nat.add_left_cancel_iff,dk hl]
   refine aU (lJ t) ?_
   rw[seeD_1 h1]at hK|-
   simp+contextual (disch:=first|omega|simp only[go_sem,false_implies]) only[go_sem,wrap64,if_pos,and_self]
   exact hK _ _ (by omega) (by repeat(first|exact hg.mono (by omega)|exact Good.nil|refine Good.ax ?_ (by omega) rfl|refine Good.ax ?_ (by omega) (cX _ _ _ (by omega))|refine Good.ax ?_ (by omega) (by simp[ab.refs,V.ah,V.refs]<;>omega))) (fun j hj=>by(repeat(first|rfl|rw[aa]|rw[ae _ _ _ _ (by omega)])))
  |some z=>
   rw[hl]at hf
   obtain⟨j,hj⟩:=ef hl
   simp+contextual (disch:=first|omega|simp only[go_sem,false_implies]) only[go_sem,wrap64,if_pos,ho,y1,y2,Nat.add_assoc,Nat.left_eq_add,Nat.add_eq_left,Nat.add_left_cancel_iff,hj]
   refine aA (f,z) hf (by dsimp only;omega) (bP.cF _ (by omega) (by omega) (by repeat(first|exact hg.mono (by omega)|exact Good.nil|refine Good.ax ?_ (by omega) rfl|refine Good.ax ?_ (by omega) (cX _ _ _ (by omega))|refine Good.ax ?_ (by omega) (by simp[ab.refs,V.ah,V.refs]<;>omega))) (fun j hj=> ?_) ?_)
   ·by_cases e:j=nx
    ·subst e;(repeat(first|rfl|rw[aa]|rw[ae _ _ _ _ (by omega)]))
    ·(repeat(first|rfl|rw[aa]|rw[ae _ _ _ _ (by omega)]))
   ·(repeat(first|exact ao|refine ai ?_|refine ag rfl ?_|refine ag (aR (aQ (by omega))) ?_|refine aD rfl (by simp[V.refs,V.ah]<;>first|omega|assumption) ?_))
 ·rw[if_neg h1]at hf
  injection hf with hf
  subst hf
  rw[seeD_2 h1]at hK|-
  cases hl:bL b 0 with
  |none=>
   simp+contextual (disch:=first|omega|simp only[go_sem,false_implies]) only[go_sem,wrap64,if_pos,ho,y1,y2,Nat.add_assoc,Nat.left_eq_add,Nat.add_eq_left,Nat.add_left_cancel_iff,dk hl]
   refine aU (lJ t) ?_
   rw[seeD_2 h1]
   simp+contextual (disch:=first|omega|simp only[go_sem,false_implies]) only[go_sem,wrap64,if_pos,and_self]
   exact hK _ _ (by omega) (by repeat(first|exact hg.mono (by omega)|exact Good.nil|refine Good.ax ?_ (by omega) rfl|refine Good.ax ?_ (by omega) (cX _ _ _ (by omega))|refine Good.ax ?_ (by omega) (by simp[ab.refs,V.ah,V.refs]<;>omega))) (fun j hj=>by(repeat(first|rfl|rw[aa]|rw[ae _ _ _ _ (by omega)])))
  |some z=>
   obtain⟨j,hj⟩:=ef hl
   simp+contextual (disch:=first|omega|simp only[go_sem,false_implies]) only[go_sem,wrap64,if_pos,ho,y1,y2,Nat.add_assoc,Nat.left_eq_add,Nat.add_eq_left,Nat.add_left_cancel_iff,hj]
   refine aU (lJ t) ?_
   rw[seeD_2 h1]
   simp+contextual (disch:=first|omega|simp only[go_sem,false_implies]) only[go_sem,wrap64,if_pos,and_self]
   exact hK _ _ (by omega) (by repeat(first|exact hg.mono (by omega)|exact Good.nil|refine Good.ax ?_ (by omega) rfl|refine Good.ax ?_ (by omega) (cX _ _ _ (by omega))|refine Good.ax ?_ (by omega) (by simp[ab.refs,V.ah,V.refs]<;>omega))) (fun j hj=>by(repeat(first|rfl|rw[aa]|rw[ae _ _ _ _ (by omega)])))
end Go.Proofs.YtealblliddhgiaaGreat
namespace Go.Proofs.YtealblliddhgiaaGreat
theorem mL{P:Program}{g:FuncId}{K:KD}{X:XD}{o:Nat->ab}{nx fr:Nat}{rd:List Nat}{ds:List D}{all:List V}(h:lz P g K X o nx fr all):nS P g K X o nx fr rd ds all:=by unfold nS;exact Or.inr h
def Yw(id:Nat)(b':List (Int×Tm))(o:Nat->ab)(nx:Nat)(K:(Nat->ab)->Nat->Prop):Prop:=
 ∀o' nx',nx<=nx'->Good o' nx'->(∀j,j<nx->j≠id->o' j=o j)->o' id=dG b'->K o' nx'
def SC(t:Tm):Prop:=∀ (v:Tm),v.fits->∀ (b:List (Int×Tm)),(∀p∈b,p.2.fits)->∀ (o:Nat->ab) (nx id:Nat),Good o nx->o id=dG b->∀ (K X:V->(Nat->ab)->Nat->Prop),Yw id (mJ t v b).1 o nx (K (.d (.bool (mJ t v b).2)))->
    eR Tryz.prog 61 [.mp id, .d t.d, .d v.d] o nx K X
theorem SD{t v:Tm}(h:SC t)(hv:v.fits){b:List (Int×Tm)}(hb:∀p∈b,p.2.fits){o:Nat->ab}{nx id:Nat}(ho:o id=dG b)(bI:id<nx):
 wA Tryz.prog 61 [.mp id, .d t.d, .d v.d] [id] o (.ret [.bool (mJ t v b).2]) [(id,dG (mJ t v b).1)]:=by
 have sX:∀j∈[id],j<nx:=by simp;exact bI
 have lV:∀k∈[id],∀j∈(o k).refs,j∈[id]:=by
  intro k hk j hj
  simp at hk
  subst hk
  rw[ho]at hj;simp[ab.refs]at hj
 refine wA.jT sX (by simp[V.ah,V.refs]) lV (by simp) (by simp[ab.refs]) ?_
 refine h v hv b hb _ _ id (tH sX lV) ((xi (by simp)).trans ho) _ _ ?_
 intro o' nx' g1 g2 g3 g4
 refine⟨fun k hk=> ?_,[.d (.bool (mJ t v b).2)],[.bool (mJ t v b).2],rfl,rfl,rfl,fun k hk=>by simp[V.bg,V.ids]at hk⟩
 simp at hk
 subst hk
 rw[g4];simp only[mU,sS];rw[aa]
theorem xo{P:Tm->Prop}(hP:∀t k,P t->k∈t.kids->P k):∀ (t v:Tm) (b:List (Int×Tm)),P v->(∀p∈b,P p.2)->∀p∈(mJ t v b).1,P p.2:=by
 refine Tm.ej fun t ih v b hv hb=> ?_
 rw[xm]
 split
 ·split
  ·exact hb
  ·intro p hp
   rcases List.mem_append.1 hp with hp|hp
   ·exact hb p hp
   ·simp at hp;subst hp;exact hv
 ·split
  ·exact hb
  ·have key:∀ (ks cW:List Tm) (b:List (Int×Tm)),(∀k∈ks,k∈t.kids)->(∀k∈cW,P k)->(∀p∈b,P p.2)->∀p∈(jP ks cW b).1,P p.2:=by
    intro ks
    induction ks with
    |nil=>intro cW b _ _ hb;exact hb
    |cons k ks qW=>
     intro cW b m1 m2 hb
     cases cW with
     |nil=>exact hb
     |cons k' cW=>
      simp only[jP]
      have:=ih k (m1 k (by simp)) k' b (m2 k' (by simp)) hb
      split
      ·exact qW cW _ (fun y hy=>m1 y (by simp[hy])) (fun y hy=>m2 y (by simp[hy])) this
      ·exact this
   exact key t.kids v.kids b (fun _ h=>h) (fun k hk=>hP v k hv hk) hb
theorem G0(t v:Tm)(b:List (Int×Tm)):v.fits->(∀p∈b,p.2.fits)->∀p∈(mJ t v b).1,p.2.fits:=
 xo (P:=Tm.fits) (fun t k h hk=>((Tm.bD t).1 h).2 k hk) t v b
theorem Jp:∀t:Tm,t.fits->SC t:=by
 refine Tm.ej fun t ih ht=> ?_
 have yc:=(Tm.bD t).1 ht
 intro v hv b hb o nx id hg ho K X hK
 have l5:=(Tm.bD v).1 hv
 have bI:id<nx:=hg.lt (by rw[ho];exact ab.noConfusion)
 have y1:id≠nx:=by omega
 have y2:∀k,id≠nx+k:=fun k=>by omega
 refine eR.aV mix QT (by simp) ?_
 rw[VP]
 rw[xm]at hK
 simp+contextual (disch:=first|omega|simp only[go_sem,false_implies]) only[go_sem,wrap64,if_pos,ho,y1,y2,Nat.add_assoc,Nat.left_eq_add,Nat.add_eq_left,Nat.add_left_cancel_iff]
 refine aU (lJ t) ?_
 by_cases h1:t.op=1
 ·rw[if_pos h1]at hK
  rw[seeD_1 h1]
  cases hl:bL b t.n with
  |none=>
   rw[hl]at hK
   simp+contextual (disch:=first|omega|simp only[go_sem,false_implies]) only[go_sem,wrap64,if_pos,ho,y1,y2,Nat.add_assoc,Nat.left_eq_add,Nat.add_eq_left,Nat.add_left_cancel_iff,dk hl,pz hl]
   refine hK _ _ (by omega) (by repeat(first|exact hg.mono (by omega)|exact Good.nil|refine Good.ax ?_ (by omega) rfl|refine Good.ax ?_ (by omega) (cX _ _ _ (by omega))|refine Good.ax ?_ (by omega) (by simp[ab.refs,V.ah,V.refs]<;>omega))) (fun j h1 h2=>by(repeat(first|rfl|rw[aa]|rw[ae _ _ _ _ (by omega)]))) (by(repeat(first|rfl|rw[aa]|rw[ae _ _ _ _ (by omega)])))
  |some z=>
   rw[hl]at hK
   simp only at hK
   obtain⟨j,hj⟩:=ef hl
   simp+contextual (disch:=first|omega|simp only[go_sem,false_implies]) only[go_sem,wrap64,if_pos,ho,y1,y2,Nat.add_assoc,Nat.left_eq_add,Nat.add_eq_left,Nat.add_left_cancel_iff,hj]
   refine ay (Jc z (hb _ (gU hl)) v hv) rfl ?_
   simp+contextual (disch:=first|omega|simp only[go_sem,false_implies]) only[go_sem,wrap64,if_pos,and_self]
   refine hK _ _ (by omega) (by repeat(first|exact hg.mono (by omega)|exact Good.nil|refine Good.ax ?_ (by omega) rfl|refine Good.ax ?_ (by omega) (cX _ _ _ (by omega))|refine Good.ax ?_ (by omega) (by simp[ab.refs,V.ah,V.refs]<;>omega))) (fun j h1 h2=>by(repeat(first|rfl|rw[aa]|rw[ae _ _ _ _ (by omega)]))) (by(repeat(first|rfl|rw[aa]|rw[ae _ _ _ _ (by omega)]))<;>exact ho)
 ·rw[if_neg h1]at hK
  rw[seeD_2 h1]
  by_cases h2:t.op≠v.op\/t.n≠v.n\/t.kids.length≠v.kids.length
  ·rw[if_pos h2]at hK
   have ir:(t.op !=v.op||t.n !=v.n||(t.kids.length:Int)!=(v.kids.length:Int))=true:=by
    rcases h2 with h|h|h
    ·simp[h]
    ·simp[h]
    ·have:((t.kids.length:Int)!=(v.kids.length:Int))=true:=by simp;omega
     simp[this]
   simp+contextual (disch:=first|omega|simp only[go_sem,false_implies]) only[go_sem,wrap64,if_pos,ho,y1,y2,Nat.add_assoc,Nat.left_eq_add,Nat.add_eq_left,Nat.add_left_cancel_iff,ir,List.length_map]
   refine hK _ _ (by omega) (by repeat(first|exact hg.mono (by omega)|exact Good.nil|refine Good.ax ?_ (by omega) rfl|refine Good.ax ?_ (by omega) (cX _ _ _ (by omega))|refine Good.ax ?_ (by omega) (by simp[ab.refs,V.ah,V.refs]<;>omega))) (fun j h1 h2=>by(repeat(first|rfl|rw[aa]|rw[ae _ _ _ _ (by omega)]))) (by(repeat(first|rfl|rw[aa]|rw[ae _ _ _ _ (by omega)]))<;>exact ho)
  ·rw[if_neg h2]at hK
   have ir:(t.op !=v.op||t.n !=v.n||(t.kids.length:Int)!=(v.kids.length:Int))=false:=by
    have e1:t.op=v.op:=Classical.byContradiction fun e=>h2 (Or.inl e)
    have e2:t.n=v.n:=Classical.byContradiction fun e=>h2 (Or.inr (Or.inl e))
    have e3:t.kids.length=v.kids.length:=Classical.byContradiction fun e=>h2 (Or.inr (Or.inr e))
    simp[e1,e2,e3]
   have e3:t.kids.length=v.kids.length:=Classical.byContradiction fun e=>h2 (Or.inr (Or.inr e))
   simp+contextual (disch:=first|omega|simp only[go_sem,false_implies]) only[go_sem,wrap64,if_pos,ho,y1,y2,Nat.add_assoc,Nat.left_eq_add,Nat.add_eq_left,Nat.add_left_cancel_iff,ir,List.length_map]
   refine aT (fun i:Nat×List (Int×Tm)=>⟨bq [.mp id, .af, .af, .af, .af, .ptr (nx+1) 0, .af, .af, .af, .af, .af, .af, .af, .af, .af, .af, .af, .af, .af, .af, .af, .af, .af, .af, .af, .af, .af, .af, .af, .af, .af, .af, .af, .af, .af, .af, .af, .af, .af, .af, .af, .af, .af, .af, .af, .af, .af, .af, .af, .af, .af, .af, .af, .af, .af, .af, .d (.sl (t.kids.map Tm.d)), .d (.i t.kids.length), .d (.i i.1)],ax (ax (ax o nx (.row t.row)) (nx+1) (.row v.row)) id (dG i.2),nx+2⟩)
    (fun i=>i.1<=t.kids.length/\(∀p∈i.2,p.2.fits)/\jP t.kids v.kids b=jP (t.kids.drop i.1) (v.kids.drop i.1) i.2) (fun i=>t.kids.length - i.1) (0,b) ⟨Nat.zero_le _,hb,rfl⟩ ?_ ?_
   ·dsimp only
    refine bP.cF _ (by omega) (by omega) (by repeat(first|exact hg.mono (by omega)|exact Good.nil|refine Good.ax ?_ (by omega) rfl|refine Good.ax ?_ (by omega) (cX _ _ _ (by omega))|refine Good.ax ?_ (by omega) (by simp[ab.refs,V.ah,V.refs]<;>omega))) (fun j hj=> ?_) ?_
    ·by_cases e:j=id
     ·subst e;(repeat(first|rfl|rw[aa]|rw[ae _ _ _ _ (by omega)]));exact ho
     ·by_cases e1:j=nx+1
      ·subst e1;(repeat(first|rfl|rw[aa]|rw[ae _ _ _ _ (by omega)]))
      ·by_cases e2:j=nx
       ·subst e2;(repeat(first|rfl|rw[aa]|rw[ae _ _ _ _ (by omega)]))
       ·(repeat(first|rfl|rw[aa]|rw[ae _ _ _ _ (by omega)]))
    ·(repeat(first|exact ao|refine ai ?_|refine ag rfl ?_|refine ag (aR (aQ (by omega))) ?_|refine aD rfl (by simp[V.refs,V.ah]<;>first|omega|assumption) ?_))
   rintro⟨k,b1⟩ ⟨hk,tY,aH⟩
   simp only at hk tY aH
   simp+contextual (disch:=first|omega|simp only[go_sem,false_implies]) only[go_sem,wrap64,if_pos,ho,y1,y2,Nat.add_assoc,Nat.left_eq_add,Nat.add_eq_left,Nat.add_left_cancel_iff]
   refine ak (fun h5=> ?_) (fun h5=> ?_)
   ·simp at h5
    obtain⟨x,hx⟩:=aM h5
    have gS:=List.mem_of_getElem? hx
    obtain⟨z,hz⟩:=aM (l:=v.kids) (k:=k) (by omega)
    have Hx:=List.mem_of_getElem? hz
    have K8:t.kids.drop k=x::t.kids.drop (k+1):=by
     obtain⟨h5,h6⟩:=List.getElem?_eq_some_iff.1 hx
     rw[List.drop_eq_getElem_cons h5,h6]
    have NA:v.kids.drop k=z::v.kids.drop (k+1):=by
     obtain⟨h5,h6⟩:=List.getElem?_eq_some_iff.1 hz
     rw[List.drop_eq_getElem_cons h5,h6]
    rw[K8,NA]at aH
    simp only[jP]at aH
    have Z9:=G0 x z b1 (l5.2 z Hx) tY
    simp+contextual (disch:=first|omega|simp only[go_sem,false_implies]) only[go_sem,wrap64,if_pos,ho,y1,y2,Nat.add_assoc,Nat.left_eq_add,Nat.add_eq_left,Nat.add_left_cancel_iff,hx,hz]
    refine mL (mn (by simp;omega) (SD (ih x gS (yc.2 x gS)) (l5.2 z Hx) tY (nx:=nx+9) ?_ (by omega)) ?_)
    ·(repeat(first|rfl|rw[aa]|rw[ae _ _ _ _ (by omega)]))
    simp+contextual (disch:=first|omega|simp only[go_sem,false_implies]) only[go_sem,wrap64,if_pos,ho,y1,y2,Nat.add_assoc,Nat.left_eq_add,Nat.add_eq_left,Nat.add_left_cancel_iff]
    refine aP (kO (by kernel_rfl)) ?_
    cases h6:(mJ x z b1).2 with
    |false=>
     rw[h6]at aH
     simp only[Bool.false_eq_true,if_false]at aH
     rw[aH]at hK
     simp+contextual (disch:=first|omega|simp only[go_sem,false_implies]) only[go_sem,wrap64,if_pos,ho,y1,y2,Nat.add_assoc,Nat.left_eq_add,Nat.add_eq_left,Nat.add_left_cancel_iff]
     exact hK _ _ (by omega) (by repeat(first|exact hg.mono (by omega)|exact Good.nil|refine Good.ax ?_ (by omega) rfl|refine Good.ax ?_ (by omega) (cX _ _ _ (by omega))|refine Good.ax ?_ (by omega) (by simp[ab.refs,V.ah,V.refs]<;>omega))) (fun j h1 h2=>by(repeat(first|rfl|rw[aa]|rw[ae _ _ _ _ (by omega)]))) (by(repeat(first|rfl|rw[aa]|rw[ae _ _ _ _ (by omega)])))
    |true=>
     rw[h6]at aH
     simp only[if_true]at aH
     simp+contextual (disch:=first|omega|simp only[go_sem,false_implies]) only[go_sem,wrap64,if_pos,ho,y1,y2,Nat.add_assoc,Nat.left_eq_add,Nat.add_eq_left,Nat.add_left_cancel_iff]
     refine aA (k+1,(mJ x z b1).1) ⟨h5,Z9,aH⟩ (by dsimp only;omega) (bP.cF _ (by omega) (by omega) (by repeat(first|exact hg.mono (by omega)|exact Good.nil|refine Good.ax ?_ (by omega) rfl|refine Good.ax ?_ (by omega) (cX _ _ _ (by omega))|refine Good.ax ?_ (by omega) (by simp[ab.refs,V.ah,V.refs]<;>omega))) (fun j hj=> ?_) ?_)
     ·dsimp only
      by_cases e:j=id
      ·subst e;(repeat(first|rfl|rw[aa]|rw[ae _ _ _ _ (by omega)]))
      ·by_cases e1:j=nx+1
       ·subst e1;(repeat(first|rfl|rw[aa]|rw[ae _ _ _ _ (by omega)]))
       ·by_cases e2:j=nx
        ·subst e2;(repeat(first|rfl|rw[aa]|rw[ae _ _ _ _ (by omega)]))
        ·(repeat(first|rfl|rw[aa]|rw[ae _ _ _ _ (by omega)]))
     ·(repeat(first|exact ao|refine ai ?_|refine ag rfl ?_|refine ag (aR (aQ (by omega))) ?_|refine aD rfl (by simp[V.refs,V.ah]<;>first|omega|assumption) ?_))
   ·simp at h5
    rw[List.drop_eq_nil_of_le h5]at aH
    simp only[jP]at aH
    rw[aH]at hK
    simp+contextual (disch:=first|omega|simp only[go_sem,false_implies]) only[go_sem,wrap64,if_pos,ho,y1,y2,Nat.add_assoc,Nat.left_eq_add,Nat.add_eq_left,Nat.add_left_cancel_iff]
    refine hK _ _ (by omega) (by repeat(first|exact hg.mono (by omega)|exact Good.nil|refine Good.ax ?_ (by omega) rfl|refine Good.ax ?_ (by omega) (cX _ _ _ (by omega))|refine Good.ax ?_ (by omega) (by simp[ab.refs,V.ah,V.refs]<;>omega))) (fun j h1 h2=> ?_) (by(repeat(first|rfl|rw[aa]|rw[ae _ _ _ _ (by omega)])))
    (repeat(first|rfl|rw[aa]|rw[ae _ _ _ _ (by omega)]))
end Go.Proofs.YtealblliddhgiaaGreat
namespace Go.Proofs.YtealblliddhgiaaGreat
theorem CY{b:List (Int×Tm)}(hb:∀p∈b,p.2.fits):∀ (f:Nat) (t x:Tm),t.fits->ka f b t=some x->x.fits
 |0,_,_,_,h=>by cases h
 |f+1,t,x,ht,h=>by
  simp only[ka]at h
  split at h
  ·split at h
   ·rename_i y hy;exact CY hb f y x (hb _ (gU hy)) h
   ·injection h with h;exact h ▸ ht
  ·injection h with h;exact h ▸ ht
theorem tO{b:List (Int×Tm)}(hb:∀p∈b,p.2.fits):∀ (f:Nat) (n:Int) (t:Tm) (met:List Int) (is:Bool) (fE:List Int),t.fits->Ah f b n t met=some (is,fE)->∀ (o:Nat->ab) (nx id mid:Nat),Good o nx->o id=dG b->o mid=GI met->∀ (K X:V->(Nat->ab)->Nat->Prop),
 (∀o' nx',nx<=nx'->Good o' nx'->(∀j,j<nx->j≠mid->o' j=o j)->o' mid=GI fE->K (.d (.bool is)) o' nx')->
 eR Tryz.prog 127 [.mp id, .d (.i n), .d t.d, .mp mid] o nx K X
 |0,_,_,_,_,_,_,h=>by cases h
 |f+1,n,t,met,is,fE,ht,h=>by
  intro o nx id mid hg ho hm K X hK
  have bI:id<nx:=hg.lt (by rw[ho];exact ab.noConfusion)
  have LA:mid<nx:=hg.lt (by rw[hm];exact ab.noConfusion)
  have Yx:id≠mid:=fun e=>by subst e;rw[hm]at ho;cases ho
  have hmi:mid≠id:=fun e=>Yx e.symm
  have y1:id≠nx:=by omega
  have y2:∀k,id≠nx+k:=fun k=>by omega
  have y3:mid≠nx:=by omega
  have y4:∀k,mid≠nx+k:=fun k=>by omega
  simp only[Ah]at h
  cases ha:ka f b t with
  |none=>rw[ha]at h;cases h
  |some x=>
  rw[ha]at h
  simp only at h
  have TF:=(Tm.bD x).1 (CY hb f t x ht ha)
  refine eR.aV mix KW (by simp) ?_
  rw[M5]
  simp+contextual (disch:=first|omega|simp only[go_sem,false_implies]) only[go_sem,wrap64,if_pos,ho,hm,y1,y2,y3,y4,Nat.add_assoc,Nat.left_eq_add,Nat.add_eq_left,Nat.add_left_cancel_iff]
  refine cB (Jo ha (id:=id) ?_ ?_ _ _ fun o1 n1 g1 g2 g3=> ?_)
  ·exact(by repeat(first|exact hg.mono (by omega)|exact Good.nil|refine Good.ax ?_ (by omega) rfl|refine Good.ax ?_ (by omega) (cX _ _ _ (by omega))|refine Good.ax ?_ (by omega) (by simp[ab.refs,V.ah,V.refs]<;>omega)))
  ·(repeat(first|rfl|rw[aa]|rw[ae _ _ _ _ (by omega)]))
   exact ho
  have kU:o1 id=dG b:=by rw[g3 id (by omega)];(repeat(first|rfl|rw[aa]|rw[ae _ _ _ _ (by omega)]));exact ho
  have Ax:o1 mid=GI met:=by rw[g3 mid (by omega)];(repeat(first|rfl|rw[aa]|rw[ae _ _ _ _ (by omega)]));exact hm
  have TG:∀ (o':Nat->ab) (n':Nat),n1<=n'->Good o' n'->(∀j,j<n1->j≠mid->o' j=o1 j)->o' mid=GI fE->K (.d (.bool is)) o' n':=fun o' n' k1 k2 k3 k4=>
   hK o' n' (by omega) k2 (fun j j1 j2=>by rw[k3 j (by omega) j2,g3 j (by omega)];(repeat(first|rfl|rw[aa]|rw[ae _ _ _ _ (by omega)]))) k4
  clear hK
  replace hg:=g2
  by_cases h1:x.op=1
  ·rw[if_pos h1]at h
   injection h with h
   injection h with h h2
   subst h;subst h2
   rw[seeD_1 h1]
   simp+contextual (disch:=first|omega|simp only[go_sem,false_implies]) only[go_sem,wrap64,if_pos,and_self]
   exact TG _ _ (by omega) (by repeat(first|exact hg.mono (by omega)|exact Good.nil|refine Good.ax ?_ (by omega) rfl|refine Good.ax ?_ (by omega) (cX _ _ _ (by omega))|refine Good.ax ?_ (by omega) (by simp[ab.refs,V.ah,V.refs]<;>omega))) (fun j j1 j2=>by(repeat(first|rfl|rw[aa]|rw[ae _ _ _ _ (by omega)]))) (by(repeat(first|rfl|rw[aa]|rw[ae _ _ _ _ (by omega)]))<;>exact Ax)
  ·rw[if_neg h1]at h
   rw[seeD_2 h1]
   simp+contextual (disch:=first|omega|simp only[go_sem,false_implies]) only[go_sem,wrap64,if_pos,and_self]
   refine aT (fun i:Nat×List Int×(Nat->ab)×Nat=>⟨bq [.mp id, .d (.i n), .af, .mp mid, .af, .af, .af, .af, .af, .af, .af, .af, .af, .af, .af, .af, .af, .af, .af, .af, .af, .af, .af, .af, .af, .af, .d (.sl (x.kids.map Tm.d)), .d (.i x.kids.length), .d (.i i.1)],i.2.2.1,i.2.2.2⟩)
    (fun i=>i.1<=x.kids.length/\Eo (Ah f b n) (x.kids.drop i.1) i.2.1=some (is,fE)/\Good i.2.2.1 i.2.2.2/\n1<=i.2.2.2/\(∀j,j<n1->j≠mid->i.2.2.1 j=o1 j)/\i.2.2.1 mid=GI i.2.1) (fun i=>x.kids.length - i.1)
    (0,met,ax (ax o1 (n1+6) (.row [.d (.i 0), .d (.i 0), .br])) (n1+6) (.row x.row),n1+12) ⟨Nat.zero_le _,h,by dsimp only;exact(by repeat(first|exact hg.mono (by omega)|exact Good.nil|refine Good.ax ?_ (by omega) rfl|refine Good.ax ?_ (by omega) (cX _ _ _ (by omega))|refine Good.ax ?_ (by omega) (by simp[ab.refs,V.ah,V.refs]<;>omega))),by dsimp only;omega,fun j j1 j2=>by dsimp only;(repeat(first|rfl|rw[aa]|rw[ae _ _ _ _ (by omega)])),by dsimp only;(repeat(first|rfl|rw[aa]|rw[ae _ _ _ _ (by omega)]))<;>exact Ax⟩ ?_ ?_
   ·dsimp only
    refine bP.cF _ (by omega) (by omega) (by repeat(first|exact hg.mono (by omega)|exact Good.nil|refine Good.ax ?_ (by omega) rfl|refine Good.ax ?_ (by omega) (cX _ _ _ (by omega))|refine Good.ax ?_ (by omega) (by simp[ab.refs,V.ah,V.refs]<;>omega))) (fun j hj=>rfl) ?_
    (repeat(first|exact ao|refine ai ?_|refine ag rfl ?_|refine ag (aR (aQ (by omega))) ?_|refine aD rfl (by simp[V.refs,V.ah]<;>first|omega|assumption) ?_))
   rintro⟨k,m,o2,n2⟩ ⟨hk,hL,TD,hn,cL,Ay⟩
   simp only at hk hL TD hn cL Ay
   have aaa:mid<n2:=by omega
   have nv:o2 id=dG b:=by rw[cL id (by omega) Yx];exact kU
   have z2:∀k,id≠n2+k:=fun k=>by omega
   have z4:∀k,mid≠n2+k:=fun k=>by omega
   clear hg
   have hg:=TD
   simp+contextual (disch:=first|omega|simp only[go_sem,false_implies]) only[go_sem,wrap64,if_pos,nv,Ay,z2,z4,Nat.add_assoc,Nat.left_eq_add,Nat.add_eq_left,Nat.add_left_cancel_iff]
   refine ak (fun h5=> ?_) (fun h5=> ?_)
   ·simp at h5
    obtain⟨y,hy⟩:=aM h5
    have EI:=List.mem_of_getElem? hy
    have Br:x.kids.drop k=y::x.kids.drop (k+1):=by
     obtain⟨h5,h6⟩:=List.getElem?_eq_some_iff.1 hy
     rw[List.drop_eq_getElem_cons h5,h6]
    rw[Br]at hL
    simp only[Eo]at hL
    by_cases hv:y.op=1
    ·have l5:(y.op==1)=true:=by simpa using hv
     by_cases hc:y.n∈m
     ·rw[if_pos ⟨hv,hc⟩]at hL
      have yn:m.contains y.n=true:=List.contains_iff_mem.2 hc
      simp+contextual (disch:=first|omega|simp only[go_sem,false_implies]) only[go_sem,wrap64,if_pos,nv,Ay,z2,z4,Nat.add_assoc,Nat.left_eq_add,Nat.add_eq_left,Nat.add_left_cancel_iff,hy,l5,yn]
      refine aA (k+1,m,ax (ax o2 (n2+3) (.row [.d (.i 0), .d (.i 0), .br])) (n2+3) (.row y.row),n2+16) ⟨h5,hL, ?_,by dsimp only;omega, ?_, ?_⟩ (by dsimp only;omega) (bP.cF _ (by dsimp only;omega) (by dsimp only;omega) ?_ (fun j hj=>rfl) ?_)
      ·dsimp only;exact(by repeat(first|exact hg.mono (by omega)|exact Good.nil|refine Good.ax ?_ (by omega) rfl|refine Good.ax ?_ (by omega) (cX _ _ _ (by omega))|refine Good.ax ?_ (by omega) (by simp[ab.refs,V.ah,V.refs]<;>omega)))
      ·intro j j1 j2;dsimp only;rw[<- cL j j1 j2];(repeat(first|rfl|rw[aa]|rw[ae _ _ _ _ (by omega)]))
      ·dsimp only;(repeat(first|rfl|rw[aa]|rw[ae _ _ _ _ (by omega)]));exact Ay
      ·dsimp only;exact(by repeat(first|exact hg.mono (by omega)|exact Good.nil|refine Good.ax ?_ (by omega) rfl|refine Good.ax ?_ (by omega) (cX _ _ _ (by omega))|refine Good.ax ?_ (by omega) (by simp[ab.refs,V.ah,V.refs]<;>omega)))
      ·dsimp only
       (repeat(first|exact ao|refine ai ?_|refine ag rfl ?_|refine ag (aR (aQ (by omega))) ?_|refine aD rfl (by simp[V.refs,V.ah]<;>first|omega|assumption) ?_))
     ·rw[if_neg (fun h=>hc h.2),if_pos hv]at hL
      have yn:m.contains y.n=false:=by rw[Bool.eq_false_iff];intro h;exact hc (List.contains_iff_mem.1 h)
      simp+contextual (disch:=first|omega|simp only[go_sem,false_implies]) only[go_sem,wrap64,if_pos,nv,Ay,z2,z4,Nat.add_assoc,Nat.left_eq_add,Nat.add_eq_left,Nat.add_left_cancel_iff,hy,l5,yn]
      cases e:Ah f b n y (zQ m y.n)with
      |none=>rw[e]at hL;cases hL
      |some r=>
      obtain⟨SE,m1⟩:=r
      refine cB (tO hb f n y _ SE m1 (TF.2 y EI) e _ _ id mid ?_ ?_ ?_ _ _ fun o3 n3 w1 w2 w3 w4=> ?_)
      ·exact(by repeat(first|exact hg.mono (by omega)|exact Good.nil|refine Good.ax ?_ (by omega) rfl|refine Good.ax ?_ (by omega) (cX _ _ _ (by omega))|refine Good.ax ?_ (by omega) (by simp[ab.refs,V.ah,V.refs]<;>omega)))
      ·(repeat(first|rfl|rw[aa]|rw[ae _ _ _ _ (by omega)]))
       exact nv
      ·(repeat(first|rfl|rw[aa]|rw[ae _ _ _ _ (by omega)]))
      rw[e]at hL
      cases SE with
      |true=>
       simp only at hL
       injection hL with hL
       injection hL with hL SF
       subst hL;subst SF
       simp+contextual (disch:=first|omega|simp only[go_sem,false_implies]) only[go_sem,wrap64,if_pos,and_self]
       exact TG _ _ (by omega) (w2.mono (by omega)) (fun j j1 j2=>by rw[w3 j (by omega) j2, <- cL j j1 j2];(repeat(first|rfl|rw[aa]|rw[ae _ _ _ _ (by omega)]))) w4
      |false=>
       simp only at hL
       simp+contextual (disch:=first|omega|simp only[go_sem,false_implies]) only[go_sem,wrap64,if_pos,and_self]
       refine aA (k+1,m1,o3,n3+2) ⟨h5,hL,by dsimp only;exact w2.mono (by omega),by dsimp only;omega,fun j j1 j2=>by dsimp only;rw[w3 j (by omega) j2, <- cL j j1 j2];(repeat(first|rfl|rw[aa]|rw[ae _ _ _ _ (by omega)])),w4⟩ (by dsimp only;omega) (bP.cF _ (by dsimp only;omega) (by dsimp only;omega) (by dsimp only;exact w2.mono (by omega)) (fun j hj=>rfl) ?_)
       dsimp only
       (repeat(first|exact ao|refine ai ?_|refine ag rfl ?_|refine ag (aR (aQ (by omega))) ?_|refine aD rfl (by simp[V.refs,V.ah]<;>first|omega|assumption) ?_))
    ·have l5:(y.op==1)=false:=by simpa using hv
     rw[if_neg (fun h=>hv h.1),if_neg hv]at hL
     simp+contextual (disch:=first|omega|simp only[go_sem,false_implies]) only[go_sem,wrap64,if_pos,nv,Ay,z2,z4,Nat.add_assoc,Nat.left_eq_add,Nat.add_eq_left,Nat.add_left_cancel_iff,hy,l5]
     cases e:Ah f b n y m with
     |none=>rw[e]at hL;cases hL
     |some r=>
     obtain⟨SE,m1⟩:=r
     refine cB (tO hb f n y _ SE m1 (TF.2 y EI) e _ _ id mid ?_ ?_ ?_ _ _ fun o3 n3 w1 w2 w3 w4=> ?_)
     ·exact(by repeat(first|exact hg.mono (by omega)|exact Good.nil|refine Good.ax ?_ (by omega) rfl|refine Good.ax ?_ (by omega) (cX _ _ _ (by omega))|refine Good.ax ?_ (by omega) (by simp[ab.refs,V.ah,V.refs]<;>omega)))
     ·(repeat(first|rfl|rw[aa]|rw[ae _ _ _ _ (by omega)]))
      exact nv
     ·(repeat(first|rfl|rw[aa]|rw[ae _ _ _ _ (by omega)]))
      exact Ay
     rw[e]at hL
     cases SE with
     |true=>
      simp only at hL
      injection hL with hL
      injection hL with hL SF
      subst hL;subst SF
      simp+contextual (disch:=first|omega|simp only[go_sem,false_implies]) only[go_sem,wrap64,if_pos,and_self]
      exact TG _ _ (by omega) (w2.mono (by omega)) (fun j j1 j2=>by rw[w3 j (by omega) j2, <- cL j j1 j2];(repeat(first|rfl|rw[aa]|rw[ae _ _ _ _ (by omega)]))) w4
     |false=>
      simp only at hL
      simp+contextual (disch:=first|omega|simp only[go_sem,false_implies]) only[go_sem,wrap64,if_pos,and_self]
      refine aA (k+1,m1,o3,n3+2) ⟨h5,hL,by dsimp only;exact w2.mono (by omega),by dsimp only;omega,fun j j1 j2=>by dsimp only;rw[w3 j (by omega) j2, <- cL j j1 j2];(repeat(first|rfl|rw[aa]|rw[ae _ _ _ _ (by omega)])),w4⟩ (by dsimp only;omega) (bP.cF _ (by dsimp only;omega) (by dsimp only;omega) (by dsimp only;exact w2.mono (by omega)) (fun j hj=>rfl) ?_)
      dsimp only
      (repeat(first|exact ao|refine ai ?_|refine ag rfl ?_|refine ag (aR (aQ (by omega))) ?_|refine aD rfl (by simp[V.refs,V.ah]<;>first|omega|assumption) ?_))
   ·simp at h5
    rw[List.drop_eq_nil_of_le h5]at hL
    simp only[Eo]at hL
    injection hL with hL
    injection hL with hL SF
    subst hL;subst SF
    simp+contextual (disch:=first|omega|simp only[go_sem,false_implies]) only[go_sem,wrap64,if_pos,and_self]
    exact TG _ _ (by omega) (by repeat(first|exact hg.mono (by omega)|exact Good.nil|refine Good.ax ?_ (by omega) rfl|refine Good.ax ?_ (by omega) (cX _ _ _ (by omega))|refine Good.ax ?_ (by omega) (by simp[ab.refs,V.ah,V.refs]<;>omega))) (fun j j1 j2=>by rw[<- cL j j1 j2];(repeat(first|rfl|rw[aa]|rw[ae _ _ _ _ (by omega)]))) (by(repeat(first|rfl|rw[aa]|rw[ae _ _ _ _ (by omega)]))<;>exact Ay)
end Go.Proofs.YtealblliddhgiaaGreat
namespace Go.Proofs.YtealblliddhgiaaGreat
def qn:D:= .iface 134 (.agg [])
theorem CZ:bC Tryz.prog 126 [.bool true] (.ret []):=by
 refine bC.aV mix Gd (by simp) ?_
 rw[IW]
 simp+contextual (disch:=first|omega|simp only[go_sem,false_implies]) only[go_sem,wrap64,if_pos,and_self]
theorem C0:bC Tryz.prog 126 [.bool false] (.bJ qn):=by
 refine bC.aV mix Gd (by simp) ?_
 rw[IW]
 simp+contextual (disch:=first|omega|simp only[go_sem,false_implies]) only[go_sem,wrap64,if_pos,and_self]
 rfl
theorem qo{P:Tm->Prop}{b:List (Int×Tm)}(hb:∀p∈b,P p.2):∀ (f:Nat) (t x:Tm),P t->ka f b t=some x->P x
 |0,_,_,_,h=>by cases h
 |f+1,t,x,ht,h=>by
  simp only[ka]at h
  split at h
  ·split at h
   ·rename_i y hy;exact qo hb f y x (hb _ (gU hy)) h
   ·injection h with h;exact h ▸ ht
  ·injection h with h;exact h ▸ ht
theorem xp{P:Tm->Prop}(hP:∀t k,P t->k∈t.kids->P k)(hv:∀v,P (.mk 1 v [])):∀ (f:Nat) (t u:Tm) (b:List (Int×Tm)) (r:List (Int×Tm)×Bool),P t->P u->(∀p∈b,P p.2)->pB f t u b=some r->∀p∈r.1,P p.2
 |0,_,_,_,_,_,_,_,h=>by cases h
 |f+1,t,u,b,r,ht,hu,hb,h=>by
  simp only[pB]at h
  split at h
  ·rename_i x y e1 e2
   have hx:=qo hb f t x ht e1
   have hy:=qo hb f u y hu e2
   have snoc:∀ (n:Int) (z:Tm),P z->∀p∈b++[(n,z)],P p.2:=fun n z hz p hp=>by
    rcases List.mem_append.1 hp with hp|hp
    ·exact hb p hp
    ·simp at hp;subst hp;exact hz
   split at h
   ·split at h
    ·split at h
     ·injection h with h;subst h;exact hb
     ·injection h with h;subst h;exact snoc _ _ (hv _)
    ·split at h
     ·injection h with h;subst h;exact hb
     ·injection h with h;subst h;exact snoc _ _ hy
     ·cases h
   ·split at h
    ·exact xp hP hv f y x b r hy hx hb h
    ·split at h
     ·have key:∀ (ks cW:List Tm) (b:List (Int×Tm)),(∀k∈ks,P k)->(∀k∈cW,P k)->(∀p∈b,P p.2)->xl (pB f) ks cW b=some r->∀p∈r.1,P p.2:=by
       intro ks
       induction ks with
       |nil=>intro cW b _ _ hb h;simp only[xl]at h;injection h with h;subst h;exact hb
       |cons k ks qW=>
        intro cW b m1 m2 hb h
        cases cW with
        |nil=>simp only[xl]at h;injection h with h;subst h;exact hb
        |cons k' cW=>
         simp only[xl]at h
         cases e:pB f k k' b with
         |none=>rw[e]at h;cases h
         |some r1=>
          have h1:=xp hP hv f k k' b r1 (m1 k (by simp)) (m2 k' (by simp)) hb e
          obtain⟨b1,ok⟩:=r1
          rw[e]at h
          cases ok with
          |false=>simp only at h;injection h with h;subst h;exact h1
          |true=>exact qW cW b1 (fun y hy=>m1 y (by simp[hy])) (fun y hy=>m2 y (by simp[hy])) h1 h
      exact key _ _ b (fun k hk=>hP x k hx hk) (fun k hk=>hP y k hy hk) hb h
     ·injection h with h;subst h;exact hb
  ·cases h
theorem G1(t k:Tm)(h:t.fits)(hk:k∈t.kids):k.fits:=((Tm.bD t).1 h).2 k hk
theorem G2(v:Int):(Tm.mk 1 v []).fits:=by rw[Tm.bD];simp[Tm.kids]
def oh(t:Tm):Prop:=t.fits/\t.wf
theorem oh.lU (t k:Tm)(h:oh t)(hk:k∈t.kids):oh k:=⟨G1 t k h.1 hk,((Tm.j8 t).1 h.2).2.2 k hk⟩
theorem oh.var (v:Int):oh (.mk 1 v []):=⟨G2 v,by rw[Tm.j8];exact⟨fun _=>rfl,fun h=>absurd (show(1:Int)=8 from h) (by decide),fun k hk=>by cases hk⟩⟩
def NB:Nat->Tm->Tm->List (Int×Tm)->List (Int×Tm)->ab
 |0,_,_,_,_=> .no
 |f+1,t,u,b,b'=>match ka f b t,ka f b u with
  |some x,some y=>if x.op=1 then dG b' else if y.op=1 then .no else if x.op=y.op/\x.n=y.n/\x.kids.length=y.kids.length then .no else dG b'
  |_,_=> .no
theorem G3(f:Nat)(t u:Tm)(b b':List (Int×Tm)):(NB f t u b b').refs=[]:=by
 have:NB f t u b b'= .no\/∃m,NB f t u b b'=dG m:=by
  cases f with
  |zero=>exact Or.inl rfl
  |succ f=>
   simp only[NB]
   repeat' split
   all_goals first
    |exact Or.inl rfl
    |exact Or.inr ⟨_,rfl⟩
 rcases this with h|⟨m,h⟩<;>rw[h]<;>rfl
def Yy(id:Nat)(ob:ab)(o:Nat->ab)(nx:Nat)(K:(Nat->ab)->Nat->Prop):Prop:=
 ∀o' nx',nx<=nx'->Good o' nx'->(∀j,j<nx->j≠id->o' j=o j)->o' id=ob->K o' nx'
def G4(f:Nat):Prop:=∀ (t u:Tm) (b:List (Int×Tm)) (r:List (Int×Tm)×Bool),oh t->oh u->(∀p∈b,oh p.2)->pB f t u b=some r->∀ (o:Nat->ab) (nx id:Nat),Good o nx->o id=dG b->∀ (K X:V->(Nat->ab)->Nat->Prop),
    (r.2=true->Yw id r.1 o nx (K (.bU [])))->(r.2=false->Yy id (NB f t u b r.1) o nx (X (.d qn)))->eR Tryz.prog 100 [.mp id, .d t.d, .d u.d] o nx K X
theorem G5{f:Nat}(h:G4 f){t u:Tm}{b b':List (Int×Tm)}(ht:oh t)(hu:oh u)(hb:∀p∈b,oh p.2)(hr:pB f t u b=some (b',true)){o:Nat->ab}{nx id:Nat}(ho:o id=dG b)(bI:id<nx):
 wA Tryz.prog 100 [.mp id, .d t.d, .d u.d] [id] o (.ret []) [(id,dG b')]:=by
 have sX:∀j∈[id],j<nx:=by simp;exact bI
 have lV:∀k∈[id],∀j∈(o k).refs,j∈[id]:=by
  intro k hk j hj
  simp at hk
  subst hk
  rw[ho]at hj;simp[ab.refs]at hj
 refine wA.jT sX (by simp[V.ah,V.refs]) lV (by simp) (by simp[ab.refs]) ?_
 refine h t u b _ ht hu hb hr _ _ id (tH sX lV) ((xi (by simp)).trans ho) _ _ (fun _=> ?_) (fun h=>by cases h)
 intro o' nx' g1 g2 g3 g4
 refine⟨fun k hk=> ?_,[],[],rfl,rfl,rfl,fun k hk=>by simp[V.bg,V.ids]at hk⟩
 simp at hk
 subst hk
 rw[g4];simp only[mU,sS];rw[aa]
theorem G6{f:Nat}(h:G4 f){t u:Tm}{b b':List (Int×Tm)}(ht:oh t)(hu:oh u)(hb:∀p∈b,oh p.2)(hr:pB f t u b=some (b',false)){o:Nat->ab}{nx id:Nat}(ho:o id=dG b)(bI:id<nx):
 wA Tryz.prog 100 [.mp id, .d t.d, .d u.d] [id] o (.bJ qn) [(id,NB f t u b b')]:=by
 have sX:∀j∈[id],j<nx:=by simp;exact bI
 have lV:∀k∈[id],∀j∈(o k).refs,j∈[id]:=by
  intro k hk j hj
  simp at hk
  subst hk
  rw[ho]at hj;simp[ab.refs]at hj
 refine wA.jT sX (by simp[V.ah,V.refs]) lV (by simp) (by simp[G3]) ?_
 refine h t u b _ ht hu hb hr _ _ id (tH sX lV) ((xi (by simp)).trans ho) _ _ (fun h=>by cases h) (fun _=> ?_)
 intro o' nx' g1 g2 g3 g4
 refine⟨fun k hk=> ?_,qn,rfl,rfl,fun k hk=>by simp[V.ids]at hk⟩
 simp at hk
 subst hk
 rw[g4];simp only[mU,sS];rw[aa]
theorem rO{b:List (Int×Tm)}:∀ {f:Nat} {t x:Tm},ka f b t=some x->x.op=1->bL b x.n=none
 |0,_,_,h,_=>by cases h
 |f+1,t,x,h,h1=>by
  simp only[ka]at h
  split at h
  ·cases hl:bL b t.n with
   |none=>rw[hl]at h;injection h with h;exact h ▸ hl
   |some y=>rw[hl]at h;exact rO h h1
  ·rename_i h2;injection h with h;exact absurd (h ▸ h1) h2
theorem K9(id:Nat)(o:Nat->ab):(fun j=>if[id].contains j=true then ab.no else o j)=ax o id .no:=by
 funext j
 by_cases e:j=id
 ·subst e;simp[aa]
 ·rw[ae _ _ _ _ e,if_neg];simpa using e
theorem BC{f:Nat}(ih:G4 f):G4 (f+1):=by
 intro t u b r ht hu hb h o nx id hg ho K X hK hX
 have bI:id<nx:=hg.lt (by rw[ho];exact ab.noConfusion)
 have y1:id≠nx:=by omega
 have y2:∀k,id≠nx+k:=fun k=>by omega
 simp only[pB]at h
 cases e1:ka f b t with
 |none=>rw[e1]at h;cases h
 |some x=>
 cases e2:ka f b u with
 |none=>rw[e1,e2]at h;cases h
 |some y=>
 rw[e1,e2]at h
 simp only at h
 have hx:=qo hb f t x ht e1
 have hy:=qo hb f u y hu e2
 have nb:=(Tm.bD x).1 hx.1
 have Xn:=(Tm.bD y).1 hy.1
 refine eR.aV mix Kw (by simp) ?_
 rw[MJ]
 simp+contextual (disch:=first|omega|simp only[go_sem,false_implies]) only[go_sem,wrap64,if_pos,ho,y1,y2,Nat.add_assoc,Nat.left_eq_add,Nat.add_eq_left,Nat.add_left_cancel_iff]
 refine cB (Jo e1 (id:=id) ?_ ?_ _ _ fun o1 n1 g1 g2 g3=> ?_)
 ·exact(by repeat(first|exact hg.mono (by omega)|exact Good.nil|refine Good.ax ?_ (by omega) rfl|refine Good.ax ?_ (by omega) (cX _ _ _ (by omega))|refine Good.ax ?_ (by omega) (by simp[ab.refs,V.ah,V.refs]<;>omega)))
 ·(repeat(first|rfl|rw[aa]|rw[ae _ _ _ _ (by omega)]))
  exact ho
 have kU:o1 id=dG b:=by rw[g3 id (by omega)];(repeat(first|rfl|rw[aa]|rw[ae _ _ _ _ (by omega)]));exact ho
 have Yz:o1 (nx+1)= .row u.row:=by rw[g3 _ (by omega)];(repeat(first|rfl|rw[aa]|rw[ae _ _ _ _ (by omega)]))
 have cL:∀j,j<nx->o1 j=o j:=fun j hj=>by rw[g3 j (by omega)];(repeat(first|rfl|rw[aa]|rw[ae _ _ _ _ (by omega)]))
 have done:∀ (ob:ab) (K:(Nat->ab)->Nat->Prop),Yy id ob o nx K->∀o' n',n1<=n'->Good o' n'->(∀j,j<n1->j≠id->o' j=o1 j)->o' id=ob->K o' n':=fun ob K hK o' n' k1 k2 k3 k4=>
  hK o' n' (by omega) k2 (fun j j1 j2=>by rw[k3 j (by omega) j2,cL j j1]) k4
 simp only[NB,e1,e2]at hX
 have z1:id≠n1:=by omega
 have z2:∀k,id≠n1+k:=fun k=>by omega
 have z3:nx+1≠n1:=by omega
 have z4:∀k,nx+1≠n1+k:=fun k=>by omega
 clear hg
 have hg:=g2
 by_cases h1:x.op=1
 ·rw[if_pos h1]at h
  rw[seeD_1 h1]
  simp+contextual (disch:=first|omega|simp only[go_sem,false_implies]) only[go_sem,wrap64,if_pos,kU,Yz,z1,z2,z3,z4,Nat.add_assoc,Nat.left_eq_add,Nat.add_eq_left,Nat.add_left_cancel_iff]
  refine cB (Jo e2 (id:=id) ?_ ?_ _ _ fun o2 n2 w1 w2 w3=> ?_)
  ·exact(by repeat(first|exact hg.mono (by omega)|exact Good.nil|refine Good.ax ?_ (by omega) rfl|refine Good.ax ?_ (by omega) (cX _ _ _ (by omega))|refine Good.ax ?_ (by omega) (by simp[ab.refs,V.ah,V.refs]<;>omega)))
  ·(repeat(first|rfl|rw[aa]|rw[ae _ _ _ _ (by omega)]))
   exact kU
  have nv:o2 id=dG b:=by rw[w3 id (by omega)];(repeat(first|rfl|rw[aa]|rw[ae _ _ _ _ (by omega)]));exact kU
  clear hg
  have hg:=w2
  by_cases h2:y.op=1
  ·rw[if_pos h2]at h
   rw[seeD_1 h2]
   by_cases h3:x.n=y.n
   ·rw[if_pos h3]at h
    injection h with h
    subst h
    have re:(x.n !=y.n)=false:=by simp[h3]
    simp+contextual (disch:=first|omega|simp only[go_sem,false_implies]) only[go_sem,wrap64,if_pos,nv,re]
    exact done _ _ (hK rfl) _ _ (by omega) (by repeat(first|exact hg.mono (by omega)|exact Good.nil|refine Good.ax ?_ (by omega) rfl|refine Good.ax ?_ (by omega) (cX _ _ _ (by omega))|refine Good.ax ?_ (by omega) (by simp[ab.refs,V.ah,V.refs]<;>omega))) (fun j j1 j2=>by rw[w3 j (by omega)];(repeat(first|rfl|rw[aa]|rw[ae _ _ _ _ (by omega)]))) nv
   ·rw[if_neg h3]at h
    injection h with h
    subst h
    have re:(x.n !=y.n)=true:=by simp[h3]
    have vP:(if y.n>x.n then y.n else x.n)=max x.n y.n:=by rw[Int.max_def];split<;>split<;>omega
    have NC:(if y.n<x.n then y.n else x.n)=min x.n y.n:=by rw[Int.min_def];split<;>split<;>omega
    have LA:bL b (max x.n y.n)=none:=by
     rw[Int.max_def];split
     ·exact rO e2 h2
     ·exact rO e1 h1
    simp+contextual (disch:=first|omega|simp only[go_sem,false_implies]) only[go_sem,wrap64,if_pos,nv,re]
    rw[vP,NC]
    refine aU (xn (min x.n y.n)) ?_
    simp+contextual (disch:=first|omega|simp only[go_sem,false_implies]) only[go_sem,wrap64,if_pos,nv,pz LA]
    exact done _ _ (hK rfl) _ _ (by omega) (by repeat(first|exact hg.mono (by omega)|exact Good.nil|refine Good.ax ?_ (by omega) rfl|refine Good.ax ?_ (by omega) (cX _ _ _ (by omega))|refine Good.ax ?_ (by omega) (by simp[ab.refs,V.ah,V.refs]<;>omega))) (fun j j1 j2=>by(repeat(first|rfl|rw[aa]|rw[ae _ _ _ _ (by omega)]));rw[w3 j (by omega)];(repeat(first|rfl|rw[aa]|rw[ae _ _ _ _ (by omega)]))) (by(repeat(first|rfl|rw[aa]|rw[ae _ _ _ _ (by omega)])))
  ·rw[if_neg h2]at h
   rw[seeD_2 h2]
   cases e3:Ah f b x.n y []with
   |none=>rw[e3]at h;cases h
   |some r3=>
   obtain⟨is,m⟩:=r3
   rw[e3]at h
   have SG:bL b x.n=none:=rO e1 h1
   have u2:∀k,id≠n2+k:=fun k=>by omega
   simp+contextual (disch:=first|omega|simp only[go_sem,false_implies]) only[go_sem,wrap64,if_pos,nv,u2,Nat.add_assoc,Nat.left_eq_add,Nat.add_eq_left,Nat.add_left_cancel_iff]
   refine aU (rN y) ?_
   simp+contextual (disch:=first|omega|simp only[go_sem,false_implies]) only[go_sem,wrap64,if_pos,nv,u2,Nat.add_assoc,Nat.left_eq_add,Nat.add_eq_left,Nat.add_left_cancel_iff]
   refine cB (tO (fun p hp=>(hb p hp).1) f x.n y [] is m hy.1 e3 _ _ id (n2+12) ?_ ?_ ?_ _ _ fun o3 n3 v1 v2 v3 v4=> ?_)
   ·exact(by repeat(first|exact hg.mono (by omega)|exact Good.nil|refine Good.ax ?_ (by omega) rfl|refine Good.ax ?_ (by omega) (cX _ _ _ (by omega))|refine Good.ax ?_ (by omega) (by simp[ab.refs,V.ah,V.refs]<;>omega)))
   ·(repeat(first|rfl|rw[aa]|rw[ae _ _ _ _ (by omega)]))
    exact nv
   ·(repeat(first|rfl|rw[aa]|rw[ae _ _ _ _ (by omega)]))
   have I2:o3 id=dG b:=by rw[v3 id (by omega) (by omega)];(repeat(first|rfl|rw[aa]|rw[ae _ _ _ _ (by omega)]));exact nv
   have YA:o3 (n2+6)= .row y.row:=by rw[v3 _ (by omega) (by omega)];(repeat(first|rfl|rw[aa]|rw[ae _ _ _ _ (by omega)]))
   have YB:∀j,j<n1->o3 j=o1 j:=fun j j1=>by rw[v3 j (by omega) (by omega)];(repeat(first|rfl|rw[aa]|rw[ae _ _ _ _ (by omega)]));rw[w3 j (by omega)];(repeat(first|rfl|rw[aa]|rw[ae _ _ _ _ (by omega)]))
   clear hg
   have hg:=v2
   cases is with
   |true=>
    simp only at h
    injection h with h
    subst h
    simp+contextual (disch:=first|omega|simp only[go_sem,false_implies]) only[go_sem,wrap64,if_pos,I2]
    refine yZ C0 rfl ?_
    simp+contextual (disch:=first|omega|simp only[go_sem,false_implies]) only[go_sem,wrap64,if_pos,I2]
    rw[if_pos h1]at hX
    exact done _ _ (hX rfl) _ _ (by omega) (by repeat(first|exact hg.mono (by omega)|exact Good.nil|refine Good.ax ?_ (by omega) rfl|refine Good.ax ?_ (by omega) (cX _ _ _ (by omega))|refine Good.ax ?_ (by omega) (by simp[ab.refs,V.ah,V.refs]<;>omega))) (fun j j1 j2=>YB j j1) I2
   |false=>
    simp only at h
    injection h with h
    subst h
    simp+contextual (disch:=first|omega|simp only[go_sem,false_implies]) only[go_sem,wrap64,if_pos,I2]
    refine ay CZ rfl ?_
    simp+contextual (disch:=first|omega|simp only[go_sem,false_implies]) only[go_sem,wrap64,if_pos,I2,YA]
    refine aU (rN y) ?_
    simp+contextual (disch:=first|omega|simp only[go_sem,false_implies]) only[go_sem,wrap64,if_pos,I2,YA,pz SG]
    exact done _ _ (hK rfl) _ _ (by omega) (by repeat(first|exact hg.mono (by omega)|exact Good.nil|refine Good.ax ?_ (by omega) rfl|refine Good.ax ?_ (by omega) (cX _ _ _ (by omega))|refine Good.ax ?_ (by omega) (by simp[ab.refs,V.ah,V.refs]<;>omega))) (fun j j1 j2=>by(repeat(first|rfl|rw[aa]|rw[ae _ _ _ _ (by omega)]));exact YB j j1) (by(repeat(first|rfl|rw[aa]|rw[ae _ _ _ _ (by omega)])))
 ·rw[if_neg h1]at h
  rw[seeD_2 h1]
  simp+contextual (disch:=first|omega|simp only[go_sem,false_implies]) only[go_sem,wrap64,if_pos,kU,Yz,z1,z2,z3,z4,Nat.add_assoc,Nat.left_eq_add,Nat.add_eq_left,Nat.add_left_cancel_iff]
  refine cB (Jo e2 (id:=id) ?_ ?_ _ _ fun o2 n2 w1 w2 w3=> ?_)
  ·exact(by repeat(first|exact hg.mono (by omega)|exact Good.nil|refine Good.ax ?_ (by omega) rfl|refine Good.ax ?_ (by omega) (cX _ _ _ (by omega))|refine Good.ax ?_ (by omega) (by simp[ab.refs,V.ah,V.refs]<;>omega)))
  ·(repeat(first|rfl|rw[aa]|rw[ae _ _ _ _ (by omega)]))
   exact kU
  have nv:o2 id=dG b:=by rw[w3 id (by omega)];(repeat(first|rfl|rw[aa]|rw[ae _ _ _ _ (by omega)]));exact kU
  have uJ:o2 (n1+6)= .row x.row:=by rw[w3 _ (by omega)];(repeat(first|rfl|rw[aa]|rw[ae _ _ _ _ (by omega)]))
  clear hg
  have hg:=w2
  have u2:∀k,id≠n2+k:=fun k=>by omega
  have u3:∀k,n1+6≠n2+k:=fun k=>by omega
  have HU:∀j,j<n1->o2 j=o1 j:=fun j j1=>by rw[w3 j (by omega)];(repeat(first|rfl|rw[aa]|rw[ae _ _ _ _ (by omega)]))
  by_cases h2:y.op=1
  ·rw[if_pos h2]at h
   rw[if_neg h1,if_pos h2]at hX
   rw[seeD_1 h2]
   simp+contextual (disch:=first|omega|simp only[go_sem,false_implies]) only[go_sem,wrap64,if_pos,nv,uJ,u2,u3,Nat.add_assoc,Nat.left_eq_add,Nat.add_eq_left,Nat.add_left_cancel_iff]
   refine cc (xn y.n) ?_
   simp+contextual (disch:=first|omega|simp only[go_sem,false_implies]) only[go_sem,wrap64,if_pos,nv,uJ,u2,u3,Nat.add_assoc,Nat.left_eq_add,Nat.add_eq_left,Nat.add_left_cancel_iff]
   refine cc (rN x) ?_
   simp+contextual (disch:=first|omega|simp only[go_sem,false_implies]) only[go_sem,wrap64,if_pos,nv,uJ,u2,u3,Nat.add_assoc,Nat.left_eq_add,Nat.add_eq_left,Nat.add_left_cancel_iff]
   rw[<- xh hy.2 h2]
   obtain⟨b',ok⟩:=r
   cases ok with
   |true=>
    refine mL (mn (by simp;omega) (G5 ih hy hx hb h nv (nx:=n2+4) (by omega)) ?_)
    simp+contextual (disch:=first|omega|simp only[go_sem,false_implies]) only[go_sem,wrap64,if_pos,nv,uJ,u2,u3,Nat.add_assoc,Nat.left_eq_add,Nat.add_eq_left,Nat.add_left_cancel_iff]
    refine aP (kO (by kernel_rfl)) ?_
    simp+contextual (disch:=first|omega|simp only[go_sem,false_implies]) only[go_sem,wrap64,if_pos,nv,uJ,u2,u3,Nat.add_assoc,Nat.left_eq_add,Nat.add_eq_left,Nat.add_left_cancel_iff]
    exact done _ _ (hK rfl) _ _ (by omega) (by repeat(first|exact hg.mono (by omega)|exact Good.nil|refine Good.ax ?_ (by omega) rfl|refine Good.ax ?_ (by omega) (cX _ _ _ (by omega))|refine Good.ax ?_ (by omega) (by simp[ab.refs,V.ah,V.refs]<;>omega))) (fun j j1 j2=>by(repeat(first|rfl|rw[aa]|rw[ae _ _ _ _ (by omega)]));exact HU j j1) (by(repeat(first|rfl|rw[aa]|rw[ae _ _ _ _ (by omega)])))
   |false=>
    refine mL (tn (by simp;omega) (G6 ih hy hx hb h nv (nx:=n2+4) (by omega)) ?_)
    simp+contextual (disch:=first|omega|simp only[go_sem,false_implies]) only[go_sem,wrap64,if_pos,nv,uJ,u2,u3,Nat.add_assoc,Nat.left_eq_add,Nat.add_eq_left,Nat.add_left_cancel_iff]
    refine zA ?_
    refine⟨kO (by kernel_rfl), ?_⟩
    simp only[p7,sT,zc]
    rw[K9]
    exact done _ _ (hX rfl) _ _ (by omega) (by repeat(first|exact hg.mono (by omega)|exact Good.nil|refine Good.ax ?_ (by omega) rfl|refine Good.ax ?_ (by omega) (cX _ _ _ (by omega))|refine Good.ax ?_ (by omega) (by simp[ab.refs,V.ah,V.refs]<;>omega))) (fun j j1 j2=>by(repeat(first|rfl|rw[aa]|rw[ae _ _ _ _ (by omega)]));exact HU j j1) (aa _ _ _)
  ·rw[if_neg h2]at h
   rw[seeD_2 h2]
   by_cases h3:x.op=y.op/\x.n=y.n/\x.kids.length=y.kids.length
   ·rw[if_pos h3]at h
    rw[if_neg h1,if_neg h2,if_pos h3]at hX
    have re:(x.op==y.op&&x.n==y.n&&(x.kids.length:Int)==(y.kids.length:Int))=true:=by
     simp[h3.1,h3.2.1,h3.2.2]
    have SH:=CZ
    rw[<- re]at SH
    simp+contextual (disch:=first|omega|simp only[go_sem,false_implies]) only[go_sem,wrap64,if_pos,nv,uJ,u2,u3,Nat.add_assoc,Nat.left_eq_add,Nat.add_eq_left,Nat.add_left_cancel_iff,List.length_map]
    refine ay SH rfl ?_
    simp+contextual (disch:=first|omega|simp only[go_sem,false_implies]) only[go_sem,wrap64,if_pos,nv,uJ,u2,u3,Nat.add_assoc,Nat.left_eq_add,Nat.add_eq_left,Nat.add_left_cancel_iff,List.length_map]
    refine aT (fun i:Nat×List (Int×Tm)=>⟨bq [.mp id, .af, .af, .af, .af, .af, .af, .af, .af, .af, .af, .ptr (n2+6) 0, .af, .af, .af, .af, .af, .af, .af, .af, .af, .af, .af, .af, .af, .af, .af, .af, .af, .af, .af, .af, .af, .af, .af, .af, .af, .af, .af, .af, .af, .af, .af, .af, .af, .af, .af, .af, .af, .af, .af, .af, .af, .af, .af, .af, .af, .af, .af, .af, .af, .af, .af, .af, .af, .af, .af, .af, .af, .af, .af, .af, .af, .af, .af, .af, .af, .af, .af, .af, .af, .af, .af, .af, .af, .af, .af, .af, .af, .af, .af, .af, .af, .d (.sl (x.kids.map Tm.d)), .d (.i x.kids.length), .d (.i i.1)],ax (ax o2 (n2+6) (.row y.row)) id (dG i.2),n2+7⟩)
     (fun i=>i.1<=x.kids.length/\(∀p∈i.2,oh p.2)/\xl (pB f) (x.kids.drop i.1) (y.kids.drop i.1) i.2=some r) (fun i=>x.kids.length - i.1) (0,b) ⟨Nat.zero_le _,hb,h⟩ ?_ ?_
    ·dsimp only
     refine bP.cF _ (by omega) (by omega) (by repeat(first|exact hg.mono (by omega)|exact Good.nil|refine Good.ax ?_ (by omega) rfl|refine Good.ax ?_ (by omega) (cX _ _ _ (by omega))|refine Good.ax ?_ (by omega) (by simp[ab.refs,V.ah,V.refs]<;>omega))) (fun j hj=> ?_) ?_
     ·by_cases e:j=id
      ·subst e;(repeat(first|rfl|rw[aa]|rw[ae _ _ _ _ (by omega)]));exact nv
      ·by_cases e1:j=n2+6
       ·subst e1;(repeat(first|rfl|rw[aa]|rw[ae _ _ _ _ (by omega)]))
       ·(repeat(first|rfl|rw[aa]|rw[ae _ _ _ _ (by omega)]))
     ·(repeat(first|exact ao|refine ai ?_|refine ag rfl ?_|refine ag (aR (aQ (by omega))) ?_|refine aD rfl (by simp[V.refs,V.ah]<;>first|omega|assumption) ?_))
    rintro⟨k,b1⟩ ⟨hk,tY,aH⟩
    simp only at hk tY aH
    have u4:∀k,n2+6≠n2+7+k:=fun k=>by omega
    simp+contextual (disch:=first|omega|simp only[go_sem,false_implies]) only[go_sem,wrap64,if_pos,u2,Nat.add_assoc,Nat.left_eq_add,Nat.add_eq_left,Nat.add_left_cancel_iff]
    refine ak (fun h5=> ?_) (fun h5=> ?_)
    ·simp at h5
     obtain⟨p,hp⟩:=aM h5
     have hpm:=List.mem_of_getElem? hp
     obtain⟨q,hq⟩:=aM (l:=y.kids) (k:=k) (by omega)
     have hqm:=List.mem_of_getElem? hq
     have K8:x.kids.drop k=p::x.kids.drop (k+1):=by
      obtain⟨h5,h6⟩:=List.getElem?_eq_some_iff.1 hp
      rw[List.drop_eq_getElem_cons h5,h6]
     have NA:y.kids.drop k=q::y.kids.drop (k+1):=by
      obtain⟨h5,h6⟩:=List.getElem?_eq_some_iff.1 hq
      rw[List.drop_eq_getElem_cons h5,h6]
     rw[K8,NA]at aH
     simp only[xl]at aH
     have WV:=oh.lU x p hx hpm
     have WW:=oh.lU y q hy hqm
     simp+contextual (disch:=first|omega|simp only[go_sem,false_implies]) only[go_sem,wrap64,if_pos,u2,Nat.add_assoc,Nat.left_eq_add,Nat.add_eq_left,Nat.add_left_cancel_iff,hp,hq]
     cases e:pB f p q b1 with
     |none=>rw[e]at aH;cases aH
     |some r1=>
     have aN:=xp oh.lU oh.var f p q b1 r1 WV WW tY e
     obtain⟨b2,ok⟩:=r1
     rw[e]at aH
     cases ok with
     |true=>
      simp only at aH aN
      refine mL (mn (by simp;omega) (G5 ih WV WW tY e (nx:=n2+17) ?_ (by omega)) ?_)
      ·(repeat(first|rfl|rw[aa]|rw[ae _ _ _ _ (by omega)]))
      simp+contextual (disch:=first|omega|simp only[go_sem,false_implies]) only[go_sem,wrap64,if_pos,u2,Nat.add_assoc,Nat.left_eq_add,Nat.add_eq_left,Nat.add_left_cancel_iff]
      refine aP (kO (by kernel_rfl)) ?_
      simp+contextual (disch:=first|omega|simp only[go_sem,false_implies]) only[go_sem,wrap64,if_pos,u2,Nat.add_assoc,Nat.left_eq_add,Nat.add_eq_left,Nat.add_left_cancel_iff]
      refine aA (k+1,b2) ⟨h5,aN,aH⟩ (by dsimp only;omega) (bP.cF _ (by omega) (by omega) (by repeat(first|exact hg.mono (by omega)|exact Good.nil|refine Good.ax ?_ (by omega) rfl|refine Good.ax ?_ (by omega) (cX _ _ _ (by omega))|refine Good.ax ?_ (by omega) (by simp[ab.refs,V.ah,V.refs]<;>omega))) (fun j hj=> ?_) ?_)
      ·dsimp only
       by_cases e:j=id
       ·subst e;(repeat(first|rfl|rw[aa]|rw[ae _ _ _ _ (by omega)]))
       ·by_cases e1:j=n2+6
        ·subst e1;(repeat(first|rfl|rw[aa]|rw[ae _ _ _ _ (by omega)]))
        ·(repeat(first|rfl|rw[aa]|rw[ae _ _ _ _ (by omega)]))
      ·(repeat(first|exact ao|refine ai ?_|refine ag rfl ?_|refine ag (aR (aQ (by omega))) ?_|refine aD rfl (by simp[V.refs,V.ah]<;>first|omega|assumption) ?_))
     |false=>
      simp only at aH
      injection aH with aH
      subst aH
      refine mL (tn (by simp;omega) (G6 ih WV WW tY e (nx:=n2+17) ?_ (by omega)) ?_)
      ·(repeat(first|rfl|rw[aa]|rw[ae _ _ _ _ (by omega)]))
      simp+contextual (disch:=first|omega|simp only[go_sem,false_implies]) only[go_sem,wrap64,if_pos,u2,Nat.add_assoc,Nat.left_eq_add,Nat.add_eq_left,Nat.add_left_cancel_iff]
      refine zA ?_
      refine⟨kO (by kernel_rfl), ?_⟩
      simp only[p7,sT,zc,DS,DU]
      rw[K9]
      exact done _ _ (hX rfl) _ _ (by omega) (by repeat(first|exact hg.mono (by omega)|exact Good.nil|refine Good.ax ?_ (by omega) rfl|refine Good.ax ?_ (by omega) (cX _ _ _ (by omega))|refine Good.ax ?_ (by omega) (by simp[ab.refs,V.ah,V.refs]<;>omega))) (fun j j1 j2=>by(repeat(first|rfl|rw[aa]|rw[ae _ _ _ _ (by omega)]));exact HU j j1) (aa _ _ _)
    ·simp at h5
     rw[List.drop_eq_nil_of_le h5]at aH
     simp only[xl]at aH
     injection aH with aH
     subst aH
     simp+contextual (disch:=first|omega|simp only[go_sem,false_implies]) only[go_sem,wrap64,if_pos,u2,Nat.add_assoc,Nat.left_eq_add,Nat.add_eq_left,Nat.add_left_cancel_iff]
     exact done _ _ (hK rfl) _ _ (by omega) (by repeat(first|exact hg.mono (by omega)|exact Good.nil|refine Good.ax ?_ (by omega) rfl|refine Good.ax ?_ (by omega) (cX _ _ _ (by omega))|refine Good.ax ?_ (by omega) (by simp[ab.refs,V.ah,V.refs]<;>omega))) (fun j j1 j2=>by(repeat(first|rfl|rw[aa]|rw[ae _ _ _ _ (by omega)]));exact HU j j1) (by(repeat(first|rfl|rw[aa]|rw[ae _ _ _ _ (by omega)])))
   ·rw[if_neg h3]at h
    rw[if_neg h1,if_neg h2,if_neg h3]at hX
    injection h with h
    subst h
    have re:(x.op==y.op&&x.n==y.n&&(x.kids.length:Int)==(y.kids.length:Int))=false:=by
     rw[Bool.eq_false_iff]
     intro h4
     simp only[Bool.and_eq_true,beq_iff_eq]at h4
     exact h3 ⟨h4.1.1,h4.1.2,by omega⟩
    have SH:=C0
    rw[<- re]at SH
    simp+contextual (disch:=first|omega|simp only[go_sem,false_implies]) only[go_sem,wrap64,if_pos,nv,uJ,u2,u3,Nat.add_assoc,Nat.left_eq_add,Nat.add_eq_left,Nat.add_left_cancel_iff,List.length_map]
    refine yZ SH rfl ?_
    simp+contextual (disch:=first|omega|simp only[go_sem,false_implies]) only[go_sem,wrap64,if_pos,nv,uJ,u2,u3,Nat.add_assoc,Nat.left_eq_add,Nat.add_eq_left,Nat.add_left_cancel_iff,List.length_map]
    exact done _ _ (hX rfl) _ _ (by omega) (by repeat(first|exact hg.mono (by omega)|exact Good.nil|refine Good.ax ?_ (by omega) rfl|refine Good.ax ?_ (by omega) (cX _ _ _ (by omega))|refine Good.ax ?_ (by omega) (by simp[ab.refs,V.ah,V.refs]<;>omega))) (fun j j1 j2=>by(repeat(first|rfl|rw[aa]|rw[ae _ _ _ _ (by omega)]));exact HU j j1) (by(repeat(first|rfl|rw[aa]|rw[ae _ _ _ _ (by omega)]))<;>exact nv)
theorem C1:∀f,G4 f
 |0=>fun t u b r _ _ _ h=>by cases h
 |f+1=>BC (C1 f)
end Go.Proofs.YtealblliddhgiaaGreat
namespace Go.Proofs.YtealblliddhgiaaGreat
section
variable {P:Program}
def qp(P:Program)(n t t1:Nat)(ic:IC)(cj:List V)(u:V)(o:Nat->ab)(nx:Nat)(K:(Nat->ab)->Nat->Prop):Prop:=
 cj.length<=n/\lA P n nx true ic (DX K) ⟨ax (ax (b9 cj) t u) t1 u,o,nx⟩
def pD(P:Program)(n t t1:Nat)(ic:IC)(cj:List V)(rs:List ResultVar)(K X:V->(Nat->ab)->Nat->Prop)(e:fO)(s:S):Prop:=
 match e with
 | .normal| .ret=>qp P n t t1 ic cj (.d .eh) s.o s.nx fun o nx=>p9 P rs K X .ret ⟨s.env,o,nx⟩
 | .bJ v=>qp P n t t1 ic cj v s.o s.nx fun o nx=>p9 P rs K X .ret ⟨s.env,o,nx⟩
 | .exit _=>False
def xq(P:Program)(n t:Nat)(ft:IC)(eW:List Operand)(g:FuncId)(D:List V->fO->S->Prop)(e:fO)(s:S):Prop:=
 match e with
 | .normal=>lA P n s.nx false ft (D (eW.map s.ev)) ⟨ax s.env t (.func (.func g) [] (eW.map s.ev)),s.o,s.nx⟩
 |_=>False
variable {n t t1:Nat}{ic ft:IC}{cj:List V}{rs:List ResultVar}{K X:V->(Nat->ab)->Nat->Prop}{s:S}{v:V}{eW:List Operand}{g:FuncId}{D:List V->fO->S->Prop}{KR:(Nat->ab)->Nat->Prop}
@[go_sem ↓] theorem G7:pD P n t t1 ic cj rs K X .normal s=qp P n t t1 ic cj (.d .eh) s.o s.nx fun o nx=>p9 P rs K X .ret ⟨s.env,o,nx⟩:=propext Iff.rfl
@[go_sem ↓] theorem La:pD P n t t1 ic cj rs K X .ret s=qp P n t t1 ic cj (.d .eh) s.o s.nx fun o nx=>p9 P rs K X .ret ⟨s.env,o,nx⟩:=propext Iff.rfl
@[go_sem ↓] theorem Lb:pD P n t t1 ic cj rs K X (.bJ v) s=qp P n t t1 ic cj v s.o s.nx fun o nx=>p9 P rs K X .ret ⟨s.env,o,nx⟩:=propext Iff.rfl
@[go_sem ↓] theorem G8:xq P n t ft eW g D .normal s=lA P n s.nx false ft (D (eW.map s.ev)) ⟨ax s.env t (.func (.func g) [] (eW.map s.ev)),s.o,s.nx⟩:=propext Iff.rfl
@[go_sem ↓] theorem Lc:DX KR .normal s=KR s.o s.nx:=propext Iff.rfl
@[go_sem ↓] theorem SI:DX KR .ret s=KR s.o s.nx:=propext Iff.rfl
theorem qp.w {o:Nat->ab}{nx:Nat}{K K':(Nat->ab)->Nat->Prop}(hK:∀o nx,K o nx->K' o nx)(h:qp P n t t1 ic cj v o nx K):A9 P n t t1 ic cj v o nx K':=by
 refine⟨h.1,dO ic _ _ _ (fun e s h=> ?_) h.2⟩
 unfold DX at h|-
 cases e with
 |normal=>exact hK _ _ h
 |ret=>exact hK _ _ h
 |_=>exact h
theorem eR.Et (bc:P.follows .mixedOrders=true){f g:FuncId}{kj ft vf:IC}{t m r r1:Nat}{eW:List Operand}{rs:List ResultVar}(hf:Cg P f n kj ft g t eW rs)(hg:zg P g m r r1 vf)
 {args:List V} {o:Nat->ab} {nx:Nat} {K X:V->(Nat->ab)->Nat->Prop} (hl:args.length<=n)
 (h:lA P n nx true kj (xq P n t ft eW g fun cj=>pD P m r r1 vf cj rs K X) ⟨b9 args,o,nx⟩):eR P f args o nx K X:=by
 refine eR.zi bc hf hg hl (dO kj _ _ _ (fun e s h=> ?_) h)
 unfold xq at h
 unfold zh
 cases e with
 |normal=>
  refine dO ft _ _ _ (fun e s h=> ?_) h
  unfold pD at h
  unfold wM
  cases e with
  |normal=>exact qp.w (fun _ _ h=>by unfold p9 at h;exact h) h
  |ret=>exact qp.w (fun _ _ h=>by unfold p9 at h;exact h) h
  |bJ v=>exact qp.w (fun _ _ h=>by unfold p9 at h;exact h) h
  |exit _=>exact h
 |_=>exact h
end
attribute [irreducible] qp
theorem tP{P:Program}{n t t1:Nat}{ic:IC}{cj:List V}{v:V}{o:Nat->ab}{nx:Nat}{K:(Nat->ab)->Nat->Prop}(h1:cj.length<=n)(h2:lA P n nx true ic (DX K) ⟨ax (ax (b9 cj) t v) t1 v,o,nx⟩):qp P n t t1 ic cj v o nx K:=by
 unfold qp
 exact⟨h1,h2⟩
end Go.Proofs.YtealblliddhgiaaGreat
namespace Go.Proofs.YtealblliddhgiaaGreat
theorem SJ{o:Nat->ab}:Ak Tryz.prog o 20 true (.d .eh) (.d .eh)=some (.d (.bool true)):=by kernel_rfl
theorem Jq{o:Nat->ab}:Ak Tryz.prog o 20 true (.d qn) (.d .eh)=some (.d (.bool false)):=by kernel_rfl
theorem xr:pO Tryz.prog 134=true:=by kernel_rfl
theorem Eu{f:Nat}{t u:Tm}{r:List (Int×Tm)×Bool}(ht:oh t)(hu:oh u)(hr:pB f t u []=some r)(o:Nat->ab)(nx:Nat)(hg:Good o nx)(K X:V->(Nat->ab)->Nat->Prop)
 (h1:r.2=true->∀o' nx' mid,nx<=mid->nx<=nx'->Good o' nx'->(∀j,j<nx->o' j=o j)->o' mid=dG r.1->K (.bU [.mp mid, .d (.bool true)]) o' nx')
 (h0:r.2=false->∀o' nx',nx<=nx'->Good o' nx'->(∀j,j<nx->o' j=o j)->K (.bU [.d .cU, .d (.bool false)]) o' nx'):
 eR Tryz.prog 63 [.d t.d, .d u.d] o nx K X:=by
 refine eR.Et mix Kv Ku (by simp) ?_
 rw[MI,VR]
 simp+contextual (disch:=first|omega|simp only[go_sem,false_implies]) only[go_sem,wrap64,if_pos,Nat.add_assoc,Nat.left_eq_add,Nat.add_eq_left,Nat.add_left_cancel_iff]
 refine cB (C1 f t u [] r ht hu (fun _ h=>by cases h) hr _ _ (nx+4) ?_ ?_ _ _ (fun bB o1 n1 g1 g2 g3 g4=> ?_) (fun Am o1 n1 g1 g2 g3 g4=> ?_))
 ·exact(by repeat(first|exact hg.mono (by omega)|exact Good.nil|refine Good.ax ?_ (by omega) rfl|refine Good.ax ?_ (by omega) (cX _ _ _ (by omega))|refine Good.ax ?_ (by omega) (by simp[ab.refs,V.ah,V.refs]<;>omega)))
 ·(repeat(first|rfl|rw[aa]|rw[ae _ _ _ _ (by omega)]))
 ·have q2:o1 (nx+2)= .row [.mp (nx+4)]:=by rw[g3 _ (by omega) (by omega)];(repeat(first|rfl|rw[aa]|rw[ae _ _ _ _ (by omega)]))
  have q3:o1 (nx+3)= .row [.d (.bool false)]:=by rw[g3 _ (by omega) (by omega)];(repeat(first|rfl|rw[aa]|rw[ae _ _ _ _ (by omega)]))
  have cL:∀j,j<nx->o1 j=o j:=fun j hj=>by rw[g3 j (by omega) (by omega)];(repeat(first|rfl|rw[aa]|rw[ae _ _ _ _ (by omega)]))
  clear hg
  have hg:=g2
  simp+contextual (disch:=first|omega|simp only[go_sem,false_implies]) only[go_sem,wrap64,if_pos,q2,q3,Nat.add_assoc,Nat.left_eq_add,Nat.add_eq_left,Nat.add_left_cancel_iff]
  refine tP (by simp) ?_
  rw[Tp]
  simp+contextual (disch:=first|omega|simp only[go_sem,false_implies]) only[go_sem,wrap64,if_pos,q2,q3,SJ,Nat.add_assoc,Nat.left_eq_add,Nat.add_eq_left,Nat.add_left_cancel_iff]
  refine h1 bB _ _ (nx+4) (by omega) (by omega) (by repeat(first|exact hg.mono (by omega)|exact Good.nil|refine Good.ax ?_ (by omega) rfl|refine Good.ax ?_ (by omega) (cX _ _ _ (by omega))|refine Good.ax ?_ (by omega) (by simp[ab.refs,V.ah,V.refs]<;>omega))) (fun j j1=>by(repeat(first|rfl|rw[aa]|rw[ae _ _ _ _ (by omega)]));exact cL j j1) ?_
  (repeat(first|rfl|rw[aa]|rw[ae _ _ _ _ (by omega)]))
  exact g4
 ·have q2:o1 (nx+2)= .row [.mp (nx+4)]:=by rw[g3 _ (by omega) (by omega)];(repeat(first|rfl|rw[aa]|rw[ae _ _ _ _ (by omega)]))
  have q3:o1 (nx+3)= .row [.d (.bool false)]:=by rw[g3 _ (by omega) (by omega)];(repeat(first|rfl|rw[aa]|rw[ae _ _ _ _ (by omega)]))
  have cL:∀j,j<nx->o1 j=o j:=fun j hj=>by rw[g3 j (by omega) (by omega)];(repeat(first|rfl|rw[aa]|rw[ae _ _ _ _ (by omega)]))
  clear hg
  have hg:=g2
  simp+contextual (disch:=first|omega|simp only[go_sem,false_implies]) only[go_sem,wrap64,if_pos,q2,q3,Nat.add_assoc,Nat.left_eq_add,Nat.add_eq_left,Nat.add_left_cancel_iff]
  refine tP (by simp) ?_
  rw[Tp]
  have z2:∀k,nx+2≠n1+k:=fun k=>by omega
  have z3:∀k,nx+3≠n1+k:=fun k=>by omega
  have z4:nx+2≠n1:=by omega
  have z5:nx+3≠n1:=by omega
  simp+contextual (disch:=first|omega|simp only[go_sem,false_implies]) only[go_sem,wrap64,if_pos,q2,q3,Jq,Nat.add_assoc,Nat.left_eq_add,Nat.add_eq_left,Nat.add_left_cancel_iff]
  simp+contextual (disch:=first|omega|simp only[go_sem,false_implies]) only[go_sem,wrap64,if_pos,q2,q3,xr,qn,Nat.add_assoc,Nat.left_eq_add,Nat.add_eq_left,Nat.add_left_cancel_iff,z2,z3,z4,z5]
  refine h0 Am _ _ (by omega) (by repeat(first|exact hg.mono (by omega)|exact Good.nil|refine Good.ax ?_ (by omega) rfl|refine Good.ax ?_ (by omega) (cX _ _ _ (by omega))|refine Good.ax ?_ (by omega) (by simp[ab.refs,V.ah,V.refs]<;>omega))) (fun j j1=>by(repeat(first|rfl|rw[aa]|rw[ae _ _ _ _ (by omega)]));exact cL j j1)
end Go.Proofs.YtealblliddhgiaaGreat
namespace Go.Proofs.YtealblliddhgiaaGreat
theorem tQ:∀ (l:List TB) (n:Int) (t:Tm),∃k,k<=l.length/\(∀x∈l.take k,x.var<n)/\(∀x,l[k]? =some x-> ¬x.var<n)/\jC l n t=l.take k++⟨n,t⟩::l.drop k
 |[],n,t=>⟨0,Nat.zero_le _,by simp,by simp,by simp[jC]⟩
 |x::l,n,t=>by
  obtain⟨k,h1,h2,h3,h4⟩:=tQ l n t
  by_cases hx:x.var<n
  ·refine⟨k+1,by simp;omega, ?_,by simpa using h3, ?_⟩
   ·intro y hy
    simp only[List.take_succ_cons,List.mem_cons]at hy
    rcases hy with rfl|hy
    ·exact hx
    ·exact h2 y hy
   ·simp only[jC,if_pos hx,h4,List.take_succ_cons,List.drop_succ_cons]
    simp
  ·exact⟨0,Nat.zero_le _,by simp,by simpa using hx,by simp[jC,if_neg hx]⟩
theorem G9(l:List TB)(n:Int)(t:Tm)(hl:l.length<=1000000):bC Tryz.prog 104 [.sl (l.map TB.d), .i n,t.d] (.ret [.sl ((jC l n t).map TB.d)]):=by
 obtain⟨j,j1,j2,j3,j4⟩:=tQ l n t
 have tk:∀ (i:Nat) (l:List TB),List.take i (l.map TB.d)=(l.take i).map TB.d:=fun i l=>List.map_take.symm
 have dr:∀ (i:Nat) (l:List TB),List.drop i (l.map TB.d)=(l.drop i).map TB.d:=fun i l=>List.map_drop.symm
 have ap:∀ (a b:List TB),a.map TB.d++[D.agg [.i n, .i t.op, .i t.n, .sl (t.kids.map Tm.d)]]++b.map TB.d=(a++⟨n,t⟩::b).map TB.d:=fun a b=>by simp
 rw[j4]
 refine bC.aV mix Kz (by simp) ?_
 rw[MM]
 simp+contextual (disch:=first|omega|simp only[go_sem,false_implies]) only[go_sem,wrap64,if_pos,and_self]
 refine aT (fun k:Nat=>⟨bq [.d (.sl (l.map TB.d)), .d (.i n), .af, .af, .af, .ptr 0 0, .af, .d (.i k)],js t.row,1⟩)
  (fun k=>k<=j) (fun k=>l.length - k) 0 (Nat.zero_le _) (bP.d1 _ (bw rfl) (by omega) rfl ?_) (fun k hk=> ?_)
 ·(repeat(first|exact ao|refine ai ?_|refine ag rfl ?_|refine ag (aR (aQ (by omega))) ?_|refine aD rfl (by simp[V.refs,V.ah]<;>first|omega|assumption) ?_))
 by_cases WE:k=j
 ·subst WE
  by_cases h5:k<l.length
  ·obtain⟨x,hx⟩:=aM h5
   have h6:=j3 x hx
   have oj:(k:Int)<l.length:=by omega
   simp+contextual (disch:=first|omega|simp only[go_sem,false_implies]) only[go_sem,wrap64,if_pos,hx,oj,h6,tk,dr,List.take_length,List.length_map,List.length_take,List.length_drop,List.length_append,List.length_cons,List.length_nil]
   refine aP (by decide) ?_
   simp+contextual (disch:=first|omega|simp only[go_sem,false_implies]) only[go_sem,wrap64,if_pos,hx,oj,h6,tk,dr,List.take_length,List.length_map,List.length_take,List.length_drop,List.length_append,List.length_cons,List.length_nil]
   rw[<- ap]
  ·have oj: ¬ (k:Int)<l.length:=by omega
   simp+contextual (disch:=first|omega|simp only[go_sem,false_implies]) only[go_sem,wrap64,if_pos,oj,tk,dr,List.take_length,List.length_map,List.length_take,List.length_drop,List.length_append,List.length_cons,List.length_nil]
   refine aP (by decide) ?_
   simp+contextual (disch:=first|omega|simp only[go_sem,false_implies]) only[go_sem,wrap64,if_pos,oj,tk,dr,List.take_length,List.length_map,List.length_take,List.length_drop,List.length_append,List.length_cons,List.length_nil]
   rw[<- ap]
 ·have bI:k<l.length:=by omega
  obtain⟨x,hx⟩:=aM bI
  have oj:(k:Int)<l.length:=by omega
  have h6:x.var<n:=j2 x (List.mem_of_getElem? (i:=k) (by rw[List.getElem?_take_of_lt (by omega)];exact hx))
  simp+contextual (disch:=first|omega|simp only[go_sem,false_implies]) only[go_sem,wrap64,if_pos,hx,oj,h6,List.length_map]
  refine aA (k+1) (by omega) (by omega) (bP.d1 _ (bw rfl) (by omega) rfl ?_)
  (repeat(first|exact ao|refine ai ?_|refine ag rfl ?_|refine ag (aR (aQ (by omega))) ?_|refine aD rfl (by simp[V.refs,V.ah]<;>first|omega|assumption) ?_))
theorem vE(s:aW)(hs:s.Fits)(l:List TB)(hl:l.length<=1000000)(hf:∀x∈l,x.term.fits):bC Tryz.prog 30 [s.d, .sl (l.map TB.d)] (.ret [.bool (l.all fun x=>et s x.term)]):=by
 refine bC.aV mix QE (by simp) ?_
 rw[Vk]
 simp+contextual (disch:=first|omega|simp only[go_sem,false_implies]) only[go_sem,wrap64,if_pos,and_self]
 refine aT (fun k:Nat=>⟨bq [.af, .d (.sl (l.map TB.d)), .ptr 0 0, .af, .af, .d (.i k)],js s.row,1⟩)
  (fun k=>k<=l.length/\(l.take k).all (fun x=>et s x.term)=true) (fun k=>l.length - k) 0 ⟨Nat.zero_le _,by simp⟩ (bP.d1 _ (bw rfl) (by omega) rfl ?_) (fun k hk=> ?_)
 ·(repeat(first|exact ao|refine ai ?_|refine ag rfl ?_|refine ag (aR (aQ (by omega))) ?_|refine aD rfl (by simp[V.refs,V.ah]<;>first|omega|assumption) ?_))
 simp+contextual (disch:=first|omega|simp only[go_sem,false_implies]) only[go_sem,wrap64,if_pos,List.length_map]
 refine ak (fun h2=> ?_) (fun h2=> ?_)
 ·simp at h2
  obtain⟨x,hx⟩:=aM h2
  simp+contextual (disch:=first|omega|simp only[go_sem,false_implies]) only[go_sem,wrap64,if_pos,hx,List.length_map]
  refine bp (Gq s hs x.term (hf x (List.mem_of_getElem? hx))) rfl ?_
  simp+contextual (disch:=first|omega|simp only[go_sem,false_implies]) only[go_sem,wrap64,if_pos,and_self]
  refine aP (aY rfl) ?_
  simp+contextual (disch:=first|omega|simp only[go_sem,false_implies]) only[go_sem,wrap64,if_pos,and_self]
  refine ak (fun h3=> ?_) (fun h3=> ?_)
  ·simp+contextual (disch:=first|omega|simp only[go_sem,false_implies]) only[go_sem,wrap64,if_pos,and_self]
   simp at h3
   rw[gh (p:=fun x:TB=>et s x.term) hx h3]
  ·simp+contextual (disch:=first|omega|simp only[go_sem,false_implies]) only[go_sem,wrap64,if_pos,and_self]
   simp at h3
   refine aA (k+1) ⟨h2,ij hx hk.2 h3⟩ (by omega) (bP.d1 _ (bw rfl) (by omega) rfl ?_)
   (repeat(first|exact ao|refine ai ?_|refine ag rfl ?_|refine ag (aR (aQ (by omega))) ?_|refine aD rfl (by simp[V.refs,V.ah]<;>first|omega|assumption) ?_))
 ·simp at h2
  simp+contextual (disch:=first|omega|simp only[go_sem,false_implies]) only[go_sem,wrap64,if_pos,and_self]
  rw[ik hk.2 h2]
theorem jy(l:List TB)(hl:l.length<=1000000)(hf:∀x∈l,x.term.fits):bC Tryz.prog 28 [.sl (l.map TB.d), .sl (l.map TB.d)] (.ret [.bool true]):=by
 refine bC.aV mix QC (by simp) ?_
 rw[Vi]
 simp+contextual (disch:=first|omega|simp only[go_sem,false_implies]) only[go_sem,wrap64,if_pos,List.length_map,bne_self_eq_false]
 refine aT (fun k:Nat=>⟨bq [.d (.sl (l.map TB.d)), .d (.sl (l.map TB.d)), .af, .af, .af, .d (.i k)],fun _=> .no,0⟩)
  (fun k=>k<=l.length) (fun k=>l.length - k) 0 (Nat.zero_le _) (bP.d0 _ ?_) (fun k hk=> ?_)
 ·(repeat(first|exact ao|refine ai ?_|refine ag rfl ?_|refine ag (aR (aQ (by omega))) ?_|refine aD rfl (by simp[V.refs,V.ah]<;>first|omega|assumption) ?_))
 simp+contextual (disch:=first|omega|simp only[go_sem,false_implies]) only[go_sem,wrap64,if_pos,List.length_map]
 refine ak (fun h2=> ?_) (fun h2=> ?_)
 ·simp at h2
  obtain⟨x,hx⟩:=aM h2
  have BT:=Bk x.term (hf x (List.mem_of_getElem? hx)) x.term (hf x (List.mem_of_getElem? hx))
  rw[tE]at BT
  simp+contextual (disch:=first|omega|simp only[go_sem,false_implies]) only[go_sem,wrap64,if_pos,hx,List.length_map,bne_self_eq_false]
  refine bp BT rfl ?_
  simp+contextual (disch:=first|omega|simp only[go_sem,false_implies]) only[go_sem,wrap64,if_pos,and_self]
  refine aP (aY rfl) ?_
  simp+contextual (disch:=first|omega|simp only[go_sem,false_implies]) only[go_sem,wrap64,if_pos,and_self]
  refine aA (k+1) h2 (by omega) (bP.d0 _ ?_)
  (repeat(first|exact ao|refine ai ?_|refine ag rfl ?_|refine ag (aR (aQ (by omega))) ?_|refine aD rfl (by simp[V.refs,V.ah]<;>first|omega|assumption) ?_))
 ·simp+contextual (disch:=first|omega|simp only[go_sem,false_implies]) only[go_sem,wrap64,if_pos,and_self]
end Go.Proofs.YtealblliddhgiaaGreat
namespace Go.Proofs.YtealblliddhgiaaGreat
end Go.Proofs.YtealblliddhgiaaGreat
namespace Go.Proofs.YtealblliddhgiaaGreat
structure BL (l:List TB):Prop where
 len:l.length<=100
 sz:∀x∈l,x.term.sz<=1000
end Go.Proofs.YtealblliddhgiaaGreat
