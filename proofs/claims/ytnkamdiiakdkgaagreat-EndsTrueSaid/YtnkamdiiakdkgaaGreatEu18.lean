/-
  A PART OF THE PROOF. Conditions: none.
-/
import Derived.OpenShut
import Derived.Carry
import Derived.Handed
import Derived.JoinedOf
import Derived.ProofKit
import Derived.Test.YtnkamdiiakdkgaaGreatEu17
set_option linter.unusedSimpArgs false
set_option linter.unusedVariables false
namespace Go.Proofs.YtnkamdiiakdkgaaGreat
section
@[reducible] def Sp.row (x:Sp):List V:=[.d (.i x.t.op), .d (.i x.t.n), .d (.sl (x.t.kids.map Tm.d)), .d (.sl (x.path.map .i)), .d (.bool x.bare)]
@[reducible] def Sp.d (x:Sp):D:= .agg [.i x.t.op, .i x.t.n, .sl (x.t.kids.map Tm.d), .sl (x.path.map .i), .bool x.bare]
section
variable {σ:Type}(base mC:Nat)(H:σ->Nat->ab)(step:σ->Sp->σ×Bool)(ok:List Sp->σ->Prop)
theorem qN(k:Tm)(l:List Tm)(i:Int)(q:List Int)(b:Bool):gP (k::l) i q b=j6 k (q++[i]) b++gP l (i+1) q b:=by rw[gP]
theorem wQ{α:Type}{step:σ->α->σ×Bool}:∀ (a b:List α) (s:σ),aw step s (a++b)=if(aw step s a).2=true then aw step (aw step s a).1 b else aw step s a
 |[],b,s=>by simp[aw]
 |x::a,b,s=>by
  simp only[List.cons_append,aw]
  split
  ·exact wQ a b _
  ·simp
theorem p5(aZ:∀x r s,ok (x::r) s->(step s x).2=true->ok r (step s x).1):∀ (l rest:List Sp) (s:σ),ok (l++rest) s->(aw step s l).2=true->ok rest (aw step s l).1
 |[],rest,s,h,_=>h
 |x::l,rest,s,h,h2=>by
  simp only[aw]at h2|-
  split at h2
  ·rename_i hb
   rw[if_pos hb]
   exact p5 aZ l rest _ (aZ _ _ _ h hb) h2
  ·rename_i hb
   exact absurd h2 Bool.false_ne_true
theorem GH(aZ:∀x r s,ok (x::r) s->(step s x).2=true->ok r (step s x).1):∀t:Tm,t.fits->∀ (q:List Int) (b:Bool),q.length+t.mm<=1000000->(∀x∈j6 t q b,∀r s,ok (x::r) s->VC Tryz.prog mC [.d x.d] base (H s) (H (step s x).1) (.d (.bool (step s x).2)))->mC<base->
 ∀ (c:Nat) (o0:Nat->ab) (yb vb:Nat),base<=c->base<=yb->yb<c->base<=vb->vb<c->o0 yb= .row [.iD mC]->o0 vb= .row [.func (.func 102) [] [.ptr yb 0, .ptr vb 0]]->
 ∀rest s,ok (j6 t q b++rest) s->j7 Tryz.prog 102 [.d (Sp.mk t q b).d, .ptr yb 0, .ptr vb 0] c (ext base (H s) o0) (ext base (H (aw step s (j6 t q b)).1) o0) (.d (.bool (aw step s (j6 t q b)).2)):=by
 refine Tm.cl fun t ih hf q b hqh hR tV c o0 yb vb VD Le hy Lf hv oy ov rest s jb=> ?_
 have lK:=(Tm.aX _).1 hf
 intro o nx hI K X hK
 have hle:=hI.le
 have ML:o yb= .row [.iD mC]:=by rw[hI.eq yb hy];unfold ext;rw[if_neg (by omega),oy]
 have MM:o vb= .row [.func (.func 102) [] [.ptr yb 0, .ptr vb 0]]:=by rw[hI.eq vb hv];unfold ext;rw[if_neg (by omega),ov]
 have y1:yb≠nx:=ah
 have y2:∀k,yb≠nx+k:=fun k=>ah
 have y3:vb≠nx:=ah
 have y4:∀k,vb≠nx+k:=fun k=>ah
 refine de.aH mix Pv aI ?_
 rw[SV]
 simp+contextual (disch:=first|omega|simp only[go_sem,false_implies]) only[go_sem,wrap64,if_pos,ML,MM,y1,y2,y3,y4,Nat.add_assoc,Nat.left_eq_add,Nat.add_eq_left,Nat.add_left_cancel_iff]
 have rK:=yo t q b
 rw[rK,List.cons_append]at jb
 have hb:∀id,id<base->o id=H s id:=fun id au=>by rw[hI.eq id (by omega)];unfold ext;rw[if_pos au]
 have hIb:cI base (H s) o nx:=⟨hI.bD,ah,hb⟩
 refine mA (hR ⟨t,q,b⟩ y0 _ s jb _ _ (hIb.aF (i:=nx) (m:=nx+4) ah ah ah rfl) _ _ fun o2 n2 m1 m2 m3=> ?_)
 have k0:o2 nx= .row (Sp.mk t q b).row:=by rw[m3 nx (by omega) (by omega),ae]
 have hold:∀id,base<=id->id<nx->o2 id=o id:=fun id h1 h2=>by rw[m3 id h1 (by omega),ai _ _ _ _ (by omega)]
 have BU:∀id,base<=id->id<c->o id=o0 id:=fun id h1 h2=>by rw[hI.eq id h2];unfold ext;rw[if_neg (by omega)]
 cases AS:(step s ⟨t,q,b⟩).2 with
 |false=>
  refine gk AS ?_
  have wy:aw step s (j6 t q b)=((step s ⟨t,q,b⟩).1,false):=by rw[rK,aw,if_neg (by rw[AS];exact Bool.false_ne_true)]
  rw[wy]at hK
  refine hK _ _ ah ⟨m2.bD.mono ah,ah,fun id au=> ?_⟩ (fun id h1 h2=>hold id ah h2)
  unfold ext
  split
  ·exact m2.eq id ox
  ·exact Hf
 |true=>
  have wy:aw step s (j6 t q b)=aw step (step s ⟨t,q,b⟩).1 (gP t.kids 0 q (qK t.op b)):=by rw[rK,aw,if_pos AS]
  have q0:o2 yb= .row [.iD mC]:=by rw[hold yb Le (by omega),ML]
  have q1:o2 vb= .row [.func (.func 102) [] [.ptr yb 0, .ptr vb 0]]:=by rw[hold vb Lf (by omega),MM]
  simp+contextual (disch:=first|omega|simp only[go_sem,false_implies]) only[go_sem,wrap64,if_pos,AS,k0,q1]
  have HX:nx+4<=n2:=m1
  refine aE (fun i:Nat×σ×(Nat->ab)×Nat=>⟨ba [.aa, .ptr yb 0, .ptr vb 0, .ptr nx 0, .aa, .aa, .aa, .aa, .aa, .aa, .aa, .aa, .aa, .d (.sl (t.kids.map Tm.d)), .d (.i t.kids.length), .d (.i i.1)],i.2.2.1,i.2.2.2⟩)
   (fun i=>i.1<=t.kids.length/\cI base (H i.2.1) i.2.2.1 i.2.2.2/\nx<i.2.2.2/\i.2.2.1 nx= .row (Sp.mk t q b).row/\(∀id,base<=id->id<nx->i.2.2.1 id=o id)/\aw step (step s ⟨t,q,b⟩).1 (gP t.kids 0 q (qK t.op b))=aw step i.2.1 (gP (t.kids.drop i.1) i.1 q (qK t.op b))/\ok (gP (t.kids.drop i.1) i.1 q (qK t.op b)++rest) i.2.1) (fun i=>t.kids.length - i.1) (0,(step s ⟨t,q,b⟩).1,o2,n2)
   ⟨Nat.zero_le _,m2.mono (Nat.le_refl _),(show nx<n2 from ah),k0,fun id h1 h2=>hold id h1 h2,rfl,aZ _ _ s jb AS⟩ ?_ ?_
  ·dsimp only
   refine bC.bB _ (show nx<=n2 from ah) ah m2.bD (fun _ _=>rfl) ?_
   exact cE
  rintro⟨k,s',o',n'⟩ ⟨hk,uQ,hn,bJ,cO,yL,iS⟩
  simp only at hk uQ hn bJ cO yL iS
  have hg:Good o' n':=uQ.bD
  have z1:∀k,yb≠n'+k:=fun k=>ah
  have z2:yb≠n':=ah
  have z3:∀k,vb≠n'+k:=fun k=>ah
  have z4:vb≠n':=ah
  have z5:∀k,nx≠n'+k:=fun k=>ah
  have z6:nx≠n':=ah
  have yu:o' vb= .row [.func (.func 102) [] [.ptr yb 0, .ptr vb 0]]:=by rw[cO vb Lf (by omega),MM]
  have yw:o' yb= .row [.iD mC]:=by rw[cO yb Le (by omega),ML]
  have JL:=lK.1
  refine br ?_
  refine aj (fun h1=> ?_) (fun h1=> ?_)
  ·simp at h1
   obtain⟨x,hx⟩:=az h1
   have eg:=List.mem_of_getElem? hx
   have hd:t.kids.drop k=x::t.kids.drop (k+1):=by
    exact WI
   rw[hd,qN,wQ]at yL
   rw[hd,qN,List.append_assoc]at iS
   have hh:=Tm.pg eg
   have jt:∀y∈j6 x (q++[(k:Int)]) (qK t.op b),y∈j6 t q b:=fun y hy=>by
    rw[rK]
    refine List.mem_cons_of_mem _ ?_
    rw[show t.kids=t.kids.take k++(x::t.kids.drop (k+1)) by rw[<- hd,List.take_append_drop],rD,qN]
    have b8:(t.kids.take k).length=k:=by rw[List.length_take];omega
    rw[b8,Int.zero_add]
    simp[hy]
   simp+contextual (disch:=first|omega|simp only[go_sem,false_implies]) only[go_sem,wrap64,if_pos,hx,Nat.add_assoc,Nat.left_eq_add,Nat.add_eq_left,Nat.add_left_cancel_iff,bJ,yu,yw,z1,z2,z3,z4,z5,z6]
   refine CH (m:=23) cG ag ?_
   simp+contextual (disch:=first|omega|simp only[go_sem,false_implies]) only[go_sem,wrap64,if_pos,Nat.add_assoc,Nat.left_eq_add,Nat.add_eq_left,Nat.add_left_cancel_iff,bJ,yu,yw,z1,z2,z3,z4,z5,z6]
   refine qx rfl (uc q ah _ _) ?_
   have rL:(b=false/\(t.op !=3)=(t.op !=3)/\qK t.op b=false)\/(b=true/\(t.op !=3)=false/\qK t.op b=false)\/(b=true/\(t.op !=3)=true/\qK t.op b=(t.op !=5)):=by
    unfold qK
    cases b<;>cases h3:(t.op !=3)<;>simp
   have fin:∀bb:Bool,(∀y∈j6 x (q++[(k:Int)]) bb,y∈j6 t q b)->ok (j6 x (q++[(k:Int)]) bb++(gP (t.kids.drop (k+1)) (k+1) q (qK t.op b)++rest)) s'->∀O:Nat->ab,cI base (H s') O (n'+30)->(∀id,base<=id->id<=nx->O id=o' id)->∀KK XX:V->(Nat->ab)->Nat->Prop,
    (∀o5 n5,n'+30<=n5->cI base (H (aw step s' (j6 x (q++[(k:Int)]) bb)).1) o5 n5->(∀id,base<=id->id<=nx->o5 id=o' id)->KK (.d (.bool (aw step s' (j6 x (q++[(k:Int)]) bb)).2)) o5 n5)->
    de Tryz.prog 102 [.d (Sp.mk x (q++[(k:Int)]) bb).d, .ptr yb 0, .ptr vb 0] O (n'+30) KK XX:=by
    intro bb jt ac1 O hIO hO KK XX hKK
    refine ih x eg (lK.2 x eg) (q++[(k:Int)]) bb ow (fun y hy=>hR y (jt y hy)) tV (n'+30) O yb vb ah Le ah Lf ah (by rw[hO yb Le (by omega),yw]) (by rw[hO vb Lf (by omega),yu]) _ s' ac1 O (n'+30) (hIO.ext (Nat.le_refl _) ah) KK XX fun o5 n5 p1 p2 p3=>hKK o5 n5 p1 ⟨p2.bD,ah,fun id au=> ?_⟩ fun id g1 g2=> ?_
    ·rw[p2.eq id (by omega)];unfold ext;rw[if_pos au]
    ·rw[p2.eq id (by omega)];unfold ext;rw[if_neg (by omega),hO id g1 g2]
   rcases rL with⟨Qo,h3,rL⟩|⟨Qo,h3,rL⟩|⟨Qo,h3,rL⟩
   all_goals rw[rL]at yL jt fin iS
   ·simp+contextual (disch:=first|omega|simp only[go_sem,false_implies]) only[go_sem,wrap64,if_pos,Nat.add_assoc,Nat.left_eq_add,Nat.add_eq_left,Nat.add_left_cancel_iff,bJ,yu,yw,z1,z2,z3,z4,z5,z6,Qo]
    refine ml (hY (ids:=[vb,nx]) (nx:=n'+4) ow ow [([0],[]),([2],[]),([1],[]),([1],[]),([],[9]),([],[]),([],[11]),([9,11],[9]),([1],[]),([1],[]),([],[]),([],[]),([],[]),([],[]),([],[]),([],[]),([],[]),([],[]),([],[]),([],[]),([],[]),([],[]),([],[])] cG) ?_
    dsimp only[List.drop]
    simp+contextual (disch:=first|omega|simp only[go_sem,false_implies]) only[go_sem,wrap64,if_pos,Nat.add_assoc,Nat.left_eq_add,Nat.add_eq_left,Nat.add_left_cancel_iff,bJ,yu,yw,z1,z2,z3,z4,z5,z6,Qo]
    refine bA (de.pH (d:=(Sp.mk x (q++[(k:Int)]) false).d) ?_ (fin _ jt iS _ ⟨?_,ah,fun id au=> ?_⟩ (fun id g1 g2=> ?_) _ _ fun o5 n5 p1 p2 p3=> ?_))
    ·refine br ?_
     simp
    ·refine br ?_
     exact eL
    ·refine br ?_
     (repeat(first|rfl|rw[ae]|rw[ai _ _ _ _ (by omega)]))
     exact uQ.eq id au
    ·exact pW
    cases hr:(aw step s' (j6 x (q++[(k:Int)]) false)).2 with
    |false=>
     rw[hr,if_neg Bool.false_ne_true]at yL
     refine br ?_
     rw[wy,rL,yL,hr]at hK
     refine hK _ _ ah ⟨p2.bD.mono ah,ah,fun id au=> ?_⟩ (fun id g1 g2=>(p3 id ah ah).trans (cO id ah g2))
     unfold ext
     split
     ·exact p2.eq id ox
     ·exact QP
    |true=>
     exact zw1
   ·simp+contextual (disch:=first|omega|simp only[go_sem,false_implies]) only[go_sem,wrap64,if_pos,Nat.add_assoc,Nat.left_eq_add,Nat.add_eq_left,Nat.add_left_cancel_iff,bJ,yu,yw,z1,z2,z3,z4,z5,z6,Qo,h3]
    refine ml (hY (ids:=[vb,nx]) (nx:=n'+4) ow ow [([0],[]),([2],[]),([1],[]),([1],[]),([],[9]),([],[]),([],[11]),([9,11],[9]),([1],[]),([1],[]),([],[]),([1],[]),([1],[]),([1],[]),([],[]),([],[]),([],[]),([],[]),([],[]),([],[]),([],[]),([],[]),([],[])] cG) ?_
    dsimp only[List.drop]
    simp+contextual (disch:=first|omega|simp only[go_sem,false_implies]) only[go_sem,wrap64,if_pos,Nat.add_assoc,Nat.left_eq_add,Nat.add_eq_left,Nat.add_left_cancel_iff,bJ,yu,yw,z1,z2,z3,z4,z5,z6,Qo,h3]
    refine bA (de.pH (d:=(Sp.mk x (q++[(k:Int)]) false).d) ?_ (fin _ jt iS _ ⟨?_,ah,fun id au=> ?_⟩ (fun id g1 g2=> ?_) _ _ fun o5 n5 p1 p2 p3=> ?_))
    ·refine br ?_
     simp
    ·refine br ?_
     exact eL
    ·refine br ?_
     (repeat(first|rfl|rw[ae]|rw[ai _ _ _ _ (by omega)]))
     exact uQ.eq id au
    ·exact pW
    cases hr:(aw step s' (j6 x (q++[(k:Int)]) false)).2 with
    |false=>
     rw[hr,if_neg Bool.false_ne_true]at yL
     refine br ?_
     rw[wy,rL,yL,hr]at hK
     refine hK _ _ ah ⟨p2.bD.mono ah,ah,fun id au=> ?_⟩ (fun id g1 g2=>(p3 id ah ah).trans (cO id ah g2))
     unfold ext
     split
     ·exact p2.eq id ox
     ·exact QP
    |true=>
     exact zw1
   ·simp+contextual (disch:=first|omega|simp only[go_sem,false_implies]) only[go_sem,wrap64,if_pos,Nat.add_assoc,Nat.left_eq_add,Nat.add_eq_left,Nat.add_left_cancel_iff,bJ,yu,yw,z1,z2,z3,z4,z5,z6,Qo,h3]
    refine ml (hY (ids:=[vb,nx]) (nx:=n'+4) ow ow [([0],[]),([2],[]),([1],[]),([1],[]),([],[9]),([],[]),([],[11]),([9,11],[9]),([1],[]),([1],[]),([],[]),([1],[]),([1],[]),([1],[]),([],[]),([],[]),([],[]),([1],[]),([1],[]),([1],[]),([],[]),([],[]),([],[])] cG) ?_
    dsimp only[List.drop]
    simp+contextual (disch:=first|omega|simp only[go_sem,false_implies]) only[go_sem,wrap64,if_pos,Nat.add_assoc,Nat.left_eq_add,Nat.add_eq_left,Nat.add_left_cancel_iff,bJ,yu,yw,z1,z2,z3,z4,z5,z6,Qo,h3]
    refine bA (de.pH (d:=(Sp.mk x (q++[(k:Int)]) (t.op !=5)).d) ?_ (fin _ jt iS _ ⟨?_,ah,fun id au=> ?_⟩ (fun id g1 g2=> ?_) _ _ fun o5 n5 p1 p2 p3=> ?_))
    ·refine br ?_
     simp
    ·refine br ?_
     exact eL
    ·refine br ?_
     (repeat(first|rfl|rw[ae]|rw[ai _ _ _ _ (by omega)]))
     exact uQ.eq id au
    ·exact pW
    cases hr:(aw step s' (j6 x (q++[(k:Int)]) (t.op !=5))).2 with
    |false=>
     rw[hr,if_neg Bool.false_ne_true]at yL
     refine br ?_
     rw[wy,rL,yL,hr]at hK
     refine hK _ _ ah ⟨p2.bD.mono ah,ah,fun id au=> ?_⟩ (fun id g1 g2=>(p3 id ah ah).trans (cO id ah g2))
     unfold ext
     split
     ·exact p2.eq id ox
     ·exact QP
    |true=>
     rw[hr,if_pos rfl]at yL
     refine br ?_
     refine aq (k+1,(aw step s' (j6 x (q++[(k:Int)]) (t.op !=5))).1,o5,n5+1+1) ⟨h1,p2.mono (show n5<=n5+1+1 from ah),(show nx<n5+1+1 from ah),by dsimp only;rw[p3 nx (by omega) (Nat.le_refl _),bJ],fun id i1 i2=>(p3 id i1 ah).trans (cO id i1 i2),by dsimp only;rw[rL];exact yL,by dsimp only;rw[rL];exact p5 step ok aZ _ _ s' iS hr⟩ nb (bC.bB _ (show nx<=n5+1+1 from ah) nb (p2.mono (show n5<=n5+1+1 from ah)).bD (fun _ _=>rfl) ?_)
     exact cE
  ·simp at h1
   refine br ?_
   rw[List.drop_eq_nil_of_le h1]at yL
   rw[wy]at hK
   have cw:aw step s' (gP [] k q (qK t.op b))=(s',true):=by simp[gP,aw]
   rw[cw]at yL
   rw[yL]at hK
   refine hK _ _ ah ⟨uQ.bD.mono ah,ah,fun id au=> ?_⟩ (fun id g1 g2=>cO id ah g2)
   unfold ext
   split
   ·exact uQ.eq id ox
   ·rw[cO id (by omega) (by omega),BU id (by omega) au]
theorem Kg(t:Tm)(hf:t.fits)(hqh:t.mm<=1000000)(aZ:∀x r s,ok (x::r) s->(step s x).2=true->ok r (step s x).1)(hR:∀x∈j6 t [] true,∀r s,ok (x::r) s->VC Tryz.prog mC [.d x.d] base (H s) (H (step s x).1) (.d (.bool (step s x).2)))(tV:mC<base)(tb:Nat)(BX:tb<base)(s:σ)(jb:ok (j6 t [] true) s)(bJ:H s tb= .row t.row):
 j7 Tryz.prog 101 [.iD mC, .ptr tb 0] base (H s) (H (aw step s (j6 t [] true)).1) (.bS []):=by
 intro o nx hI K X hK
 have hle:=hI.le
 have ot:o tb= .row t.row:=by rw[hI.eq tb BX,bJ]
 have y1:tb≠nx:=ah
 have y2:∀k,tb≠nx+k:=fun k=>ah
 refine de.aH mix Pu aI ?_
 rw[SU]
 refine QK ot y1 y2 ?_
 have hI1:cI base (H s) (aF (aF (aF o nx (.row [.iD mC])) (nx+1) (.row [.d .bY])) (nx+1) (.row [.func (.func 102) [] [.ptr nx 0, .ptr (nx+1) 0]])) (nx+7):=by
  refine((hI.aF (i:=nx) (m:=nx+7) ah ah ah ?_).aF (i:=nx+1) (m:=nx+7) ah ah ah rfl).aF (i:=nx+1) ah ah ah ?_
  ·exact Ht
  ·exact pX
 refine bA (de.pH (d:=(Sp.mk t [] true).d) ?_ (GH base mC H step ok aZ t hf [] true (by simpa using hqh) hR tV (nx+7) _ nx (nx+1) ah hle ah ah ah ?_ ?_ [] s (by rw[List.append_nil];exact jb) _ _ (hI1.ext (Nat.le_refl _) ah) _ _ ?_))
 ·rfl
 ·exact eY
 ·exact eY
 intro o2 n2 m1 m2 m3
 refine cj ?_
 refine hK _ _ ah ⟨m2.bD,ah,fun id au=> ?_⟩ (fun id h1 h2=> ?_)
 ·exact Hg
 ·exact Rj
end
theorem Bk(t:Tm)(o:Nat->ab)(nx:Nat)(K X:V->(Nat->ab)->Nat->Prop)(h:K (.func (.func 101) [] [.ptr nx 0]) (aF o nx (.row t.row)) (nx+4)):de Tryz.prog 72 [.d t.d] o nx K X:=by
 refine de.aH mix YX aI ?_
 rw[c72]
 refine cj ?_
 exact h
def vh{σ:Type}(J:σ->Option jo)(step:σ->Sp->σ)(s:σ)(x:Sp):σ×Bool:=(step s x,(J (step s x)).isNone)
theorem rF{σ:Type}(t:Tm)(hf:t.fits)(hqh:t.mm<=1000000){n bq:Nat}{gq:Operand}{ps:List Nat}{iT eF:IC}{Q:eS->S->Prop}{e:Nat->V}{o:Nat->ab}{nx tb:Nat}(env:List V)(he:lA e env 0)
 (uO:ps.all (fun t=>decide (t<n))=true) (hl:ps.length=1) (hg:Good o nx) (hrefs:∀r∈V.aL env,r<nx) (ht:o tb= .row t.row)
 (G:σ->Nat->ab) (J:σ->Option jo) (step:σ->Sp->σ) (ok:List Sp->σ->Prop) (s0:σ) (jb:ok (j6 t [] true) s0) (UC:J s0=none) (h0:∀id,id<nx->o id=G s0 id) (aZ:∀x r s,ok (x::r) s->J s=none->J (step s x)=none->ok r (step s x))
 (nV:∀L,gM Tryz.prog n env ps iT eF L->(∀st pd m,nx<=m->(L st pd).refs.all (fun r=>decide (r<m))=true)->∀x∈j6 t [] true,∀r s,ok (x::r) s->J s=none->∀o3 n3,cI nx (G s) o3 n3->nx<n3->o3 nx=L .ready none->∀K X,
  (∀e' o' n' st pd,n3<=n'->cI nx (G (step s x)) o' n'->o' nx=L st pd->(∀id,nx<id->id<n3->o' id=o3 id)->jh nx K X (Jv (J (step s x))) ⟨e',o',n'⟩)->
  kL Tryz.prog n n3 true iT (n6 Tryz.prog n n3 nx eF K X) ⟨mh (ba env) ps [.d x.d],o3,n3⟩)
 (iF:∀o' n',cI nx (G (aw (vh J step) s0 (j6 t [] true)).1) o' n'->nU Q (J (aw (vh J step) s0 (j6 t [] true)).1) ⟨e,o',n'⟩):
 xU Tryz.prog n bq false gq ps iT eF Q ⟨e,o,nx⟩ (.func (.func 101) [] [.ptr tb 0]):=by
 refine CU env he (fun L hL=> ?_)
 have BX:tb<nx:=hg.lt HI
 let H:σ->Nat->ab:=fun s id=>if id<nx then G s id else if id=nx then(match J s with|none=>L .ready none|some j=>L .done (some j))else .no
 have Fc:∀s id,id<nx->H s id=G s id:=fun s id h=>if_pos h
 have K6:∀s,J s=none->H s nx=L .ready none:=fun s h=>by show(if nx<nx then _ else _)=_;rw[if_neg (by omega),if_pos rfl,h]
 have QU:∀s j,J s=some j->H s nx=L .done (some j):=fun s j h=>by show(if nx<nx then _ else _)=_;rw[if_neg (by omega),if_pos rfl,h]
 have vj:∀st pd m,nx<=m->(L st pd).refs.all (fun r=>decide (r<m))=true:=fun st pd m hm=>by
  exact Rf
 refine Kg (nx+1) nx H (vh J step) (fun l s=>ok l s/\J s=none) t hf hqh (fun x r s h1 h2=> ?_) (fun x hx r s h1=> ?_) ah tb ah s0 ⟨jb,UC⟩ HG _ _ ⟨?_,Nat.le_refl _,fun id au=> ?_⟩ _ _ ?_
 ·have hj:J (step s x)=none:=by simpa[vh]using h2
  exact⟨aZ x r s h1.1 h1.2 hj,hj⟩
 ·intro o3 n3 hI K X hK
  have hle:=hI.le
  have G5:o3 nx=L .ready none:=by rw[hI.eq nx (by omega),K6 s h1.2]
  refine tS hL mix G5 ah uO (by simp[hl]) ?_
  refine nV L hL vj x hx r s h1.1 h1.2 o3 n3 ⟨hI.bD,ah,fun id au=>by rw[hI.eq id (by omega),Fc _ _ au]⟩ ah G5 K X (fun e' o' n' st pd k1 k2 k3 k4=> ?_)
  have key:∀st' pd' b,(J (step s x)).isNone=b->H (step s x) nx=L st' pd'->K (.d (.bool b)) (aF o' nx (L st' pd')) n':=fun st' pd' b hb hh=>by
   subst hb
   refine hK _ _ k1 ⟨k2.bD.aF ah (vj _ _ _ ah),ah,fun id au=> ?_⟩ (fun id g1 g2=> ?_)
   ·by_cases sH:id=nx
    ·exact Hu
    ·rw[ai _ _ _ _ sH]
     show o' id=H (step s x) id
     exact Hl
   ·exact Q0
  cases hj:J (step s x)with
  |none=>exact QX
  |some j=>
   cases j with
   |ret=>exact QV
   |exit j=>exact QT
 ·exact QW
 ·by_cases sH:id=nx
  ·exact Hz
  ·exact QS
 ·intro o' n' k1 k2 k3
  have hle:=k2.le
  generalize hsf:(aw (vh J step) s0 (j6 t [] true)).1=sf at*
  have kk:∀st pd,cI nx (G sf) (aF o' nx (L st pd)) n':=fun st pd=>⟨k2.bD.aF ah (vj _ _ _ ah),ah,fun id au=>by rw[ai _ _ _ _ (by omega),k2.eq id (by omega),Fc _ _ au]⟩
  cases hj:J sf with
  |none=>
   refine⟨.ready,none,by rw[k2.eq nx (by omega),K6 _ hj],(fun h=>by cases h), ?_⟩
   have:=iF _ _ (kk .exhausted none)
   rwa [hj]at this
  |some j=>
   refine⟨.done,some j,by rw[k2.eq nx (by omega),QU _ _ hj],(fun h=>by cases h), ?_⟩
   have:=iF _ _ (kk .exhausted (some j))
   rwa [hj]at this
end
theorem sG{c:Nat}{G:List Gr}{so:Nat->ab}{gone:Nat->Prop}{x x' y y':ab}(h:x=y)(h':x'=y')(hs:qy c G so gone y y'):qy c G so gone x x':=Dt
@[reducible] def jw (B:Nat->ab) (r c:Nat) (ds:List D) (ty sz:Nat) (es:List D):Nat->ab:=aF (aF B r (.row (ds.map .d++[.osl c 0]))) c (.arr 0 ty sz es)
theorem yx{c:Nat}{G:List Gr}{so:Nat->ab}{gone:Nat->Prop}{l l':List V}:∀ds:List D,tQ c G so gone l l'->tQ c G so gone (ds.map .d++l) (ds.map .d++l')
 |[],h=>h
 |d::ds,h=>TE (yx ds h)
theorem yy(B:Nat->ab)(r c:Nat)(ds:List D)(ty sz:Nat)(es:List D):jw B r c ds ty sz es c= .arr 0 ty sz es:=ae _ _ _
theorem yz(B:Nat->ab){r c:Nat}(h:r<c)(ds:List D)(ty sz:Nat)(es:List D):jw B r c ds ty sz es r= .row (ds.map .d++[.osl c 0]):=(ai _ _ _ _ ah).trans (ae _ _ _)
theorem Dk(B:Nat->ab){r c j:Nat}(h:j≠r)(h2:j≠c)(ds:List D)(ty sz:Nat)(es:List D):jw B r c ds ty sz es j=B j:=(ai _ _ _ _ h2).trans (ai _ _ _ _ h)
theorem wR{B:Nat->ab}{r c:Nat}{ds:List D}{ty sz:Nat}{e:Nat->V}{so:Nat->ab}{m:Nat}(l:List V)(hg:Good B c)(sc:∀j,c<=j->B j= .no)(hr:r<c)(ho:∀j,j<c->j≠r->so j=B j)(bJ:so r= .row (ds.map .d++[.bw]))(dw:0<sz)
 (he:lI c [⟨.bw,ty,sz,[]⟩] so (fun _=>False) e l 0):bC 0 ⟨e,so,m⟩ ⟨ba l,jw B r c ds ty sz [],c+1⟩:=by
 refine bC.ya (fun _=>False) .bw c _ ah (fun j hj=> ?_) (yy _ _ _ _ _ _ _) (.inl ⟨rfl,rfl,dw⟩) (fun j hj=> ?_) (fun _ h=>h.elim) he
 ·by_cases e1:j=r
  ·subst e1
   exact sG (y:= .row (ds.map .d++[.bw])) bJ (yz B hr ds ty sz _) (AM rfl (yx ds (Jm (g:=⟨.bw,ty,sz,[]⟩) 0 rfl rfl rfl AL)))
  ·exact Wa
 ·exact NR
theorem Bl{B:Nat->ab}{r c ep:Nat}{ds:List D}{ty sz:Nat}{es:List D}{e:Nat->V}{so:Nat->ab}{m:Nat}(l:List V)(hg:Good B c)(sc:∀j,c<=j->B j= .no)(hr:r<c)(ho:∀j,j<c->j≠r->so j=B j)(bJ:so r= .row (ds.map .d++[.osl c ep]))(cR:so c= .arr ep ty sz es)
 (he:lI c [⟨.osl c ep,ty,sz,es⟩] so (fun j=>j=c) e l 0):bC 0 ⟨e,so,m⟩ ⟨ba l,jw B r c ds ty sz es,c+1⟩:=by
 refine bC.ya (fun j=>j=c) (.osl c ep) c _ ah (fun j hj=> ?_) (yy _ _ _ _ _ _ _) (.inr ⟨c,ep,rfl,rfl,cR⟩) (fun j hj=> ?_) (fun j h h2=>ah) he
 ·by_cases e1:j=r
  ·subst e1
   exact sG (y:= .row (ds.map .d++[.osl c ep])) bJ (yz B hr ds ty sz _) (AM rfl (yx ds (Jm (g:=⟨.osl c ep,ty,sz,es⟩) 0 rfl rfl rfl AL)))
  ·exact Wa
 ·exact NR
end Go.Proofs.YtnkamdiiakdkgaaGreat
section
namespace Go.Proofs.YtnkamdiiakdkgaaGreat
open Go.Shelf
def Bm:Go.Shelf.Ren:=⟨fun|189=>73|125=>104|257=>103|128=>147|129=>148|294=>138|295=>139|296=>140|297=>141|298=>142|299=>143|216=>144|300=>145|301=>146|328=>164|329=>165|330=>166|331=>167|332=>168|215=>169|343=>180|n=>n,fun|28=>37|3=>3|46=>144|0=>0|51=>186|53=>188|4=>4|183=>178|182=>177|131=>183|5=>5|9=>9|218=>205|222=>209|228=>211|229=>212|n=>n,fun|n=>n⟩
theorem EK:Go.Proofs.Lays.n189 Tryz.prog Bm:={
 mixed:=ag
 f125:=Tryz.func104.trans (congrArg some ag)
 f128:=Tryz.func147.trans (congrArg some ag)
 f129:=Tryz.func148.trans (congrArg some ag)
 f189:=Tryz.func73.trans (congrArg some ag)
 f215:=Tryz.func169.trans (congrArg some ag)
 f216:=Tryz.func144.trans (congrArg some ag)
 f257:=Tryz.func103.trans (congrArg some ag)
 f294:=Tryz.func138.trans (congrArg some ag)
 f295:=Tryz.func139.trans (congrArg some ag)
 f296:=Tryz.func140.trans (congrArg some ag)
 f297:=Tryz.func141.trans (congrArg some ag)
 f298:=Tryz.func142.trans (congrArg some ag)
 f299:=Tryz.func143.trans (congrArg some ag)
 f300:=Tryz.func145.trans (congrArg some ag)
 f301:=Tryz.func146.trans (congrArg some ag)
 f328:=Tryz.func164.trans (congrArg some ag)
 f329:=Tryz.func165.trans (congrArg some ag)
 f330:=Tryz.func166.trans (congrArg some ag)
 f331:=Tryz.func167.trans (congrArg some ag)
 f332:=Tryz.func168.trans (congrArg some ag)
 f343:=Tryz.func180.trans (congrArg some ag)
 t0:=Tryz.underlying0
 a0:=Tryz.isAgg0
 z0:=Tryz.sizeOf0
 v0:=Tryz.zeroValue0
 t3:=Tryz.underlying3
 a3:=Tryz.isAgg3
 z3:=Tryz.sizeOf3
 v3:=Tryz.zeroValue3
 t4:=Tryz.underlying4
 a4:=Tryz.isAgg4
 z4:=Tryz.sizeOf4
 v4:=Tryz.zeroValue4
 t5:=Tryz.underlying5
 a5:=Tryz.isAgg5
 z5:=Tryz.sizeOf5
 v5:=Tryz.zeroValue5
 t9:=Tryz.underlying9
 a9:=Tryz.isAgg9
 z9:=Tryz.sizeOf9
 v9:=Tryz.zeroValue9
 t28:=Tryz.underlying37
 a28:=Tryz.isAgg37
 z28:=Tryz.sizeOf37
 v28:=Tryz.zeroValue37
 t46:=Tryz.underlying144
 a46:=Tryz.isAgg144
 z46:=Tryz.sizeOf144
 v46:=Tryz.zeroValue144
 t51:=Tryz.underlying186
 a51:=Tryz.isAgg186
 z51:=Tryz.sizeOf186
 v51:=Tryz.zeroValue186
 t53:=Tryz.underlying188
 a53:=Tryz.isAgg188
 z53:=Tryz.sizeOf188
 v53:=Tryz.zeroValue188
 t131:=Tryz.underlying183
 a131:=Tryz.isAgg183
 z131:=Tryz.sizeOf183
 v131:=Tryz.zeroValue183
 t182:=Tryz.underlying177
 a182:=Tryz.isAgg177
 z182:=Tryz.sizeOf177
 v182:=Tryz.zeroValue177
 t183:=Tryz.underlying178
 a183:=Tryz.isAgg178
 z183:=Tryz.sizeOf178
 v183:=Tryz.zeroValue178
 t218:=Tryz.underlying205
 a218:=Tryz.isAgg205
 z218:=Tryz.sizeOf205
 v218:=Tryz.zeroValue205
 t222:=Tryz.underlying209
 a222:=Tryz.isAgg209
 z222:=Tryz.sizeOf209
 v222:=Tryz.zeroValue209
 t228:=Tryz.underlying211
 a228:=Tryz.isAgg211
 z228:=Tryz.sizeOf211
 v228:=Tryz.zeroValue211
 t229:=Tryz.underlying212
 a229:=Tryz.isAgg212
 z229:=Tryz.sizeOf212
 v229:=Tryz.zeroValue212}
theorem GI:Be Tryz.prog 73:=fun c8 off cap zs w h1 h2 h3=>Any.slices_Sort_int EK c8 off cap zs w h1 h2 h3
theorem GJ:∀ (p:Option Addr) (cap:Nat) (w:World),Calls Tryz.prog 73 #[.slice p 0 cap] w fun e w'=>e= .returned (.tuple #[])/\w'=w:=fun p cap w=>Any.slices_Sort_int_none EK p cap w
theorem Bn:Enters Tryz.prog 73:=⟨_,Tryz.func73,ag,ag⟩
def Bo:Go.Shelf.Ren:=⟨fun|20=>74|n=>n,fun|22=>37|3=>3|4=>4|0=>0|n=>n,fun|n=>n⟩
theorem EL:Go.Proofs.Lays2.n20 Tryz.prog Bo:={
 mixed:=ag
 f20:=Tryz.func74.trans (congrArg some ag)
 t0:=Tryz.underlying0
 a0:=Tryz.isAgg0
 z0:=Tryz.sizeOf0
 v0:=Tryz.zeroValue0
 t3:=Tryz.underlying3
 a3:=Tryz.isAgg3
 z3:=Tryz.sizeOf3
 v3:=Tryz.zeroValue3
 t4:=Tryz.underlying4
 a4:=Tryz.isAgg4
 z4:=Tryz.sizeOf4
 v4:=Tryz.zeroValue4
 t22:=Tryz.underlying37
 a22:=Tryz.isAgg37
 z22:=Tryz.sizeOf37
 v22:=Tryz.zeroValue37
 i3:=by kernel_rfl}
theorem yA:mK Tryz.prog 74:=fun c8 off cap zs w h1 h2 h3=>Any.slices_Compact_int EL c8 off cap zs w h1 h2 h3
theorem yB:∀ (p:Option Addr) (cap:Nat) (w:World),Calls Tryz.prog 74 #[.slice p 0 cap] w fun e w'=>e= .returned (.slice p 0 cap)/\w'=w:=fun p cap w=>Any.slices_Compact_int_empty EL p cap w
theorem uy:Enters Tryz.prog 74:=⟨_,Tryz.func74,ag,ag⟩
end Go.Proofs.YtnkamdiiakdkgaaGreat
end
section
namespace Go.Proofs.YtnkamdiiakdkgaaGreat
open Go.ChangeShapes Go.WideShapes Go.RowKit
def uz(P:Program)(rec:TypeId->Option (List TypeId)):Nat->List Field->Option (List TypeId)
 |_,[]=>some []
 |off,f::fs=>if f.offset=off then match rec f.type with
  |some l=>if P.cellsOf f.type=l.length then(uz P rec (off+l.length) fs).map (l++·)else none
  |none=>none else none
def lC(P:Program):Nat->TypeId->Option (List TypeId)
 |0,_=>none
 |n+1,t=>match P.underlying t with
  |some .bool|some (.int _)|some .string|some (.slice _)=>some [t]
  |some (.struct fs)=>uz P (lC P n) 0 fs.toList
  |some (.array k e)=>match lC P n e with
   |some l=>if P.cellsOf e=l.length then some (List.replicate k l).flatten else none
   |none=>none
  |_=>none
def isAgg(P:Program)(t:TypeId):Bool:=match P.underlying t with
 |some (.struct _)|some (.array _ _)=>true
 |_=>false
mutual
def D.iH (P:Program):D->TypeId->Prop
 | .int k n,t=>P.underlying t=some (.int k)/\(Lit.int k n).wf=true
 | .bool _,t=>P.underlying t=some .bool
 | .str l,t=>P.underlying t=some .string/\l.length<=maxLen
 | .sl es,t=>∃e,P.underlying t=some (.slice e)/\es.length<=maxLen/\D.GK P es e
 | .agg cs,t=>isAgg P t=true/\∃ls,lC P 20 t=some ls/\D.ig P cs ls
 |_,_=>False
def D.GK (P:Program):List D->TypeId->Prop
 |[],_=>True
 |x::l,e=>D.iH P x e/\D.GK P l e
def D.ig (P:Program):List D->List TypeId->Prop
 |[],ts=>ts=[]
 |x::l,ts=>∃t r,ts=t::r/\D.iH P x t/\D.ig P l r
end
def sF(P:Program)(T:List TypeId):Bool:=T.all fun t=>match lC P 20 t with
 |some l=>decide (l.length=P.cellsOf t)&&decide (0<l.length)&&l.all fun u=>match P.underlying u with
  |some (.slice e)=>T.contains e
  |_=>true
 |none=>false
theorem pI{P:Program}:∀ {xs ys:List D} {l r:List TypeId},D.ig P xs l->D.ig P ys r->D.ig P (xs++ys) (l++r)
 |[],_,_,_,h,h'=>by simp only[D.ig]at h;subst h;exact h'
 |x::xs,_,_,_,h,h'=>by
  obtain⟨t,r,rfl,h1,h2⟩:=h
  exact⟨t,_,rfl,h1,pI h2 h'⟩
theorem bt{B:Nat->Prop}{w:World}:∀ {xs ys:List D} {l r:List Value},D.aC B w xs l->D.aC B w ys r->D.aC B w (xs++ys) (l++r)
 |[],_,_,_,h,h'=>by simp only[D.aC]at h;subst h;exact h'
 |x::xs,_,_,_,h,h'=>by
  obtain⟨t,r,rfl,h1,h2⟩:=h
  exact⟨t,_,rfl,h1,bt h2 h'⟩
theorem Flat.append {l r:List Value}(h:Flat l)(h':Flat r):Flat (l++r):=fun u hu=>(List.mem_append.1 hu).elim (h u) (h' u)
abbrev Ua:Nat->Prop:=fun _=>False
section
variable {H:Type}{enc:TypeId×Value->H}{P:Program}{W:World}{T:List TypeId}{b0:Nat}
def cZ(P:Program)(W:World)(l:List TypeId)(cs:List Value):Prop:=∃xs,D.ig P xs l/\D.aC Ua W xs cs/\Flat cs
theorem cZ.append {l r:List TypeId}{cs ds:List Value}(h:cZ P W l cs)(h':cZ P W r ds):cZ P W (l++r) (cs++ds):=by
 obtain⟨xs,a1,a2,a3⟩:=h
 obtain⟨ys,b1,b2,b3⟩:=h'
 exact⟨xs++ys,pI a1 b1,bt a2 b2,a3.append b3⟩
theorem cZ.length {l:List TypeId}{cs:List Value}(h:cZ P W l cs):cs.length=l.length:=by
 obtain⟨xs,a1,a2,_⟩:=h
 rw[D.aA _ _ a2]
 clear a2
 induction xs generalizing l with
 |nil=>simp only[D.ig]at a1;simp[a1]
 |cons x xs ih=>obtain⟨t,r,rfl,_,h⟩:=a1;simp[ih h]
theorem cZ.nil:cZ P W [] []:=⟨[],rfl,rfl,fun _ h=>by cases h⟩
theorem Bp{α:Type}(cs:List α)(o k:Nat):cs.drop o=(cs.drop o).take k++cs.drop (o+k):=by
 rw[<- List.drop_drop];exact(List.take_append_drop k _).symm
theorem pK{rec:TypeId->Option (List TypeId)}{cs:List Value}{rd:TypeId->List Value->Prop}
 (bp:∀t l vs,rec t=some l->(∀u∈l,∀e,P.underlying u=some (.slice e)->e∈T)->P.cellsOf t=l.length->rd t vs->cZ P W l vs):
 ∀ (fs:List Field) (off:Nat) (l:List TypeId),uz P rec off fs=some l->(∀u∈l,∀e,P.underlying u=some (.slice e)->e∈T)->(∀f∈fs,rd f.type ((cs.drop f.offset).take (P.cellsOf f.type)))->
   off+l.length=cs.length->cZ P W l (cs.drop off)
 |[],off,l,h,_,_,hl=>by
  simp only[uz,Option.some.injEq]at h
  subst h
  have:cs.drop off=[]:=List.drop_eq_nil_of_le (by simp at hl;omega)
  rw[this];exact cZ.nil
 |f::fs,off,l,h,hT,hr,hl=>by
  simp only[uz]at h
  split at h
  ·rename_i ho
   split at h
   ·rename_i l1 h1
    split at h
    ·rename_i hc
     simp only[Option.map_eq_some_iff]at h
     obtain⟨r,h2,rfl⟩:=h
     have hd:=hr f aI
     rw[ho,hc]at hd
     rw[Bp cs off l1.length]
     simp only[List.length_append]at hl
     exact(bp f.type l1 _ h1 (fun u hu=>hT u (by simp[hu])) hc hd).append (pK bp fs _ r h2 (fun u hu=>hT u (by simp[hu])) (fun f hf=>hr f (by simp[hf])) ah)
    ·cases h
   ·cases h
  ·cases h
theorem rG{l:List TypeId}{cs:List Value}:∀ (k i:Nat),(∀j,j<k->cZ P W l ((cs.drop ((i+j)*l.length)).take l.length))->(i+k)*l.length=cs.length->cZ P W (List.replicate k l).flatten (cs.drop (i*l.length))
 |0,i,_,hl=>by
  have:cs.drop (i*l.length)=[]:=List.drop_eq_nil_of_le (by simp at hl;omega)
  rw[this];exact cZ.nil
 |k+1,i,h,hl=>by
  rw[List.replicate_succ,List.flatten_cons,Bp cs (i*l.length) l.length]
  refine(by simpa using h 0 ah:cZ P W l _).append ?_
  rw[show i*l.length+l.length=(i+1)*l.length by rw[Nat.add_mul];omega]
  refine rG k (i+1) (fun j hj=> ?_) (by rw[<- hl];congr 1;omega)
  have:=h (j+1) ah
  rwa [show i+(j+1)=i+1+j by omega]at this
theorem Bq{e:TypeId}{l:List TypeId}{cs:List Value}(hl:lC P 20 e=some l)(h:cZ P W l cs):∃ (ev:Value) (x:D),ev.cells.toList=cs/\D.iH P x e/\D.den Ua W x ev/\(isAgg P e=true->ev= .agg cs.toArray)/\(isAgg P e=false->cs=[ev]/\ev.oneCell'=true):=by
 obtain⟨xs,h1,h2,h3⟩:=h
 cases ha:isAgg P e with
 |true=>exact⟨.agg cs.toArray, .agg xs,by simp[Value.cells],⟨ha,l,hl,h1⟩,⟨_,rfl,by simpa using h2,by simpa using h3⟩,fun _=>rfl,(fun h=>by cases h)⟩
 |false=>
  have:l=[e]:=by
   unfold lC at hl
   unfold isAgg at ha
   split at hl<;>simp_all
  subst this
  obtain⟨t,r,e1,h4,h5⟩:∃x r,xs=x::r/\D.iH P x e/\D.ig P r []:=by
   cases xs with
   |nil=>simp[D.ig]at h1
   |cons x r=>obtain⟨t,r',e1,h4,h5⟩:=h1;injection e1 with e1 e2;subst e1;subst e2;exact⟨x,r,rfl,h4,h5⟩
  subst e1
  have:r=[]:=by cases r with
   |nil=>rfl
   |cons y r=>obtain⟨_,_,e,_⟩:=h5;cases e
  subst this
  obtain⟨u,us,rfl,h6,h7⟩:=h2
  simp only[D.aC]at h7
  subst h7
  have ho:=h3 u aI
  refine⟨u,t, ?_,h4,h6,(fun h=>by cases h),fun _=>⟨rfl,ho⟩⟩
  cases u<;>simp_all[Value.oneCell',Value.cells]
theorem Br(hp:sF P T=true){t:TypeId}(ht:t∈T):∃l,lC P 20 t=some l/\l.length=P.cellsOf t/\0<l.length/\∀u∈l,∀e,P.underlying u=some (.slice e)->e∈T:=by
 have:=List.all_eq_true.1 hp t ht
 split at this
 ·rename_i l hl
  simp only[Bool.and_eq_true,decide_eq_true_eq,List.all_eq_true]at this
  refine⟨l,hl,this.1.1,this.1.2,fun u hu e he=> ?_⟩
  have:=this.2 u hu
  rw[he]at this
  simpa using this
 ·cases this
theorem Dc(hp:sF P T=true):∀ (n m:Nat) (t:TypeId) (l:List TypeId) (cs:List Value) (x:DataW H×List MemPlace),lC P m t=some l->(∀u∈l,∀e,P.underlying u=some (.slice e)->e∈T)->
 P.cellsOf t=l.length->DataW.trod enc P W 0 (fun _=>true) true n t cs=some x->cZ P W l cs:=by
 intro n
 induction n with
 |zero=>intro m t l cs x _ _ _ h;simp[DataW.trod]at h
 |succ n ih=>
  intro m t l cs x hl hT hc h
  cases m with
  |zero=>simp[lC]at hl
  |succ m=>
  unfold lC at hl
  split at hl
  ·rename_i hu
   injection hl with hl;subst hl
   obtain⟨b,rfl,_⟩:=DataW.trod_bool hu h
   exact⟨[.bool b],⟨t,[],rfl,hu,rfl⟩,⟨_,_,rfl,rfl,rfl⟩,by simp[Flat,Value.oneCell']⟩
  ·rename_i k hu
   injection hl with hl;subst hl
   obtain⟨b,rfl,_,hw⟩:=DataW.trod_int hu h
   exact⟨[.int k b],⟨t,[],rfl,⟨hu,hw⟩,rfl⟩,⟨_,_,rfl,rfl,rfl⟩,by simp[Flat,Value.oneCell']⟩
  ·rename_i hu
   injection hl with hl;subst hl
   obtain⟨s,rfl,_,hw⟩:=DataW.trod_string hu h
   exact⟨[.str s.data.toList],⟨t,[],rfl,⟨hu,by simpa using hw⟩,rfl⟩,⟨_,_,rfl,⟨s,rfl,rfl⟩,rfl⟩,by simp[Flat,Value.oneCell']⟩
  ·rename_i e hu
   injection hl with hl;subst hl
   rcases DataW.trod_slice hu h with⟨rfl,_⟩|⟨a,len,cap,elems,rest,n',hn,rfl,_,_,h2,h3,h4,h5,h6,_⟩
   ·exact⟨[.sl []],⟨t,[],rfl,⟨e,hu,aI,trivial⟩,rfl⟩,⟨_,_,rfl,⟨none,0,0,rfl,rfl,aI,fun _=>rfl,0,(fun a ha=>by cases ha)⟩,rfl⟩,by simp[Flat,Value.oneCell']⟩
   ·injection hn with hn;subst hn
    obtain⟨l',g1,g2,g3,g4⟩:=Br hp (hT t aI e hu)
    have at':∀i,i<len->∃ev:Value,∃y:D,ev.cells.size=P.cellsOf e/\fQ Ua W (a.add (i*P.cellsOf e)) ev.cells/\D.den Ua W y ev/\D.iH P y e:=by
     intro i hi
     have:=h5 i hi
     rw[List.getElem?_eq_getElem (by omega)]at this
     obtain⟨ci,k1,k2⟩:=Option.bind_eq_some_iff.1 this
     obtain⟨_,k3,k4⟩:=World.cells?_some k1
     have k5:=ih 20 e l' ci _ g1 g4 g2.symm k2
     obtain⟨ev,y,q1,q2,q3,_,_⟩:=Bq g1 k5
     have q4:ev.cells=ci.toArray:=by rw[<- q1]
     refine⟨ev,y,by rw[q4];simp[k5.length,g2],fun j u hj=>⟨?_,fun h=>h⟩,q3,q2⟩
     rw[q4]at hj
     have GY:ci[j]? =some u:=by simpa using hj
     have b8:j<P.cellsOf e:=by rw[<- g2, <- k5.length];exact(List.getElem?_eq_some_iff.1 GY).1
     rw[k4 j b8];exact GY
    have list:∀k i,i+k=len->∃es,es.length=k/\D.GK P es e/\D.elems Ua W (P.cellsOf e) a i es:=by
     intro k
     induction k with
     |zero=>intro i _;exact⟨[],rfl,trivial,trivial⟩
     |succ k Qp=>
      intro i hi
      obtain⟨es,e1,e2,e3⟩:=Qp (i+1) ah
      obtain⟨ev,y,y1,y2,y3,y4⟩:=at' i ah
      exact⟨y::es,by simp[e1],⟨y4,e2⟩,⟨ev,y1,y2,y3⟩,e3⟩
    obtain⟨es,e1,e2,e3⟩:=list len 0 ah
    have aaH:cap≠0->a.spot=none:=by
     intro kp
     have Qq:∀z,(W.cells? 0 (a.add (0*P.cellsOf e)) (P.cellsOf e)).bind (DataW.trod enc P W 0 (fun _=>true) true n e)=some z->a.spot=none:=by
      intro z hz
      obtain⟨ci,k1,k2⟩:=Option.bind_eq_some_iff.1 hz
      obtain⟨_,k3,k4⟩:=World.cells?_some k1
      have k5:=k4 0 ah
      rw[List.getElem?_eq_getElem (by omega)]at k5
      simpa[Addr.add]using World.cell?_spot k5
     by_cases hlen:0<len
     ·have:=h5 0 hlen
      rw[List.getElem?_eq_getElem (by omega)]at this
      exact Qq _ this
     ·obtain⟨h7,h8⟩:=h6 rfl
      have:=h8 0 ah
      rw[List.getElem?_eq_getElem (by omega),show(len+0)=0 by omega]at this
      exact Qq _ this
    exact⟨[.sl es],⟨t,[],rfl,⟨e,hu,ah,e2⟩,rfl⟩,⟨_,_,rfl,⟨some a,len,cap,rfl,e1.symm,h2,(fun h=>by cases h),P.cellsOf e,(fun a' VK=>by injection VK with VK;subst VK;exact⟨aaH,e3⟩)⟩,rfl⟩,by simp[Flat,Value.oneCell']⟩
  ·rename_i fs hu
   obtain⟨xs,n',hn,_,h2,h3,h4⟩:=DataW.trod_struct hu h
   injection hn with hn;subst hn
   have:=pK (P:=P) (W:=W) (T:=T) (cs:=cs) (rd:=fun t vs=>∃y,DataW.trod enc P W 0 (fun _=>true) true n t vs=some y) (rec:=lC P m) (fun t l vs q1 q2 q3 ⟨y,q4⟩=>ih m t l vs y q1 q2 q3 q4) fs.toList 0 l hl hT ?_ ah
   ·simpa using this
   ·intro f hf
    obtain⟨i,hi,hfi⟩:=List.getElem_of_mem hf
    have:=h4 i f (by simp at hi;simp[<- hfi,Array.getElem?_eq_getElem hi])
    rw[List.getElem?_eq_getElem (by simp at hi;omega)]at this
    exact⟨_,this⟩
  ·rename_i k e hu
   split at hl
   ·rename_i l' LX
    split at hl
    ·rename_i hce
     injection hl with hl;subst hl
     obtain⟨xs,n',hn,_,h2,h3,h4⟩:=DataW.trod_array hu h
     injection hn with hn;subst hn
     have hlen:cs.length=k*l'.length:=by rw[h2,hc];simp
     have hT':0<k->∀u∈l',∀e,P.underlying u=some (.slice e)->e∈T:=fun hk u hu=>hT u (List.mem_flatten.2 ⟨l',List.mem_replicate.2 ⟨ah,rfl⟩,hu⟩)
     have:=rG (P:=P) (W:=W) (l:=l') (cs:=cs) k 0 (fun j hj=> ?_) (by rw[hlen];simp)
     ·simpa using this
     ·have:=h4 j hj
      rw[hce,List.getElem?_eq_getElem (by omega)]at this
      rw[Nat.zero_add]
      exact ih m e l' _ _ LX (hT' ah) hce this
    ·cases hl
   ·cases hl
  ·cases hl
theorem wS(hp:sF P T=true):∀ (ts:List TypeId) (vs:List Value) (ds:List (DataW H)) (p:List MemPlace),(∀t∈ts,t∈T)->DataW.TrodAll enc P W 0 (fun _=>true) true ts vs ds p->
 (∀ (j:Nat) t v,ts[j]? =some t->vs[j]? =some v->Value.okWide P W .any b0 t v)->∃xs,D.ig P xs ts/\D.aC Ua W xs vs
 |[],vs,ds,p,_,h,_=>by
  obtain⟨rfl,rfl,rfl⟩:=trodAll_nil h
  exact⟨[],rfl,rfl⟩
 |t::ts,vs,ds,p,hT,h,hv=>by
  obtain⟨v,vs',d,XF,p1,q1,rfl,rfl,rfl,⟨n,h1⟩,h2⟩:=trodAll_cons h
  obtain⟨xs,a1,a2⟩:=wS hp ts vs' XF q1 (fun t ht=>hT t (by simp[ht])) h2 (fun j t v h1 h2=>hv (j+1) t v (by simpa using h1) sI)
  obtain⟨l,g1,g2,g3,g4⟩:=Br hp (hT t aI)
  obtain⟨ev,x,q1,q2,q3,q4,q5⟩:=Bq g1 (Dc hp n 20 t l _ _ g1 g4 g2.symm h1)
  have aZ:=hv 0 t v rfl rfl
  have:ev=v:=by
   cases ha:isAgg P t with
   |true=>
    have:∃cs,v= .agg cs:=by
     unfold isAgg at ha
     unfold Value.okWide at aZ
     split at ha
     ·rename_i hu;rw[hu]at aZ;obtain⟨cs,rfl,_⟩:=aZ;exact⟨cs,rfl⟩
     ·rename_i hu;rw[hu]at aZ;obtain⟨cs,rfl,_⟩:=aZ;exact⟨cs,rfl⟩
     ·cases ha
    obtain⟨cs,rfl⟩:=this
    rw[q4 ha]
    simp[Value.cells]
   |false=>
    obtain⟨q6,q7⟩:=q5 ha
    cases v with
    |agg cs=>
     exfalso
     unfold isAgg at ha
     unfold Value.okWide at aZ
     split at aZ
     ·rename_i hu;rw[hu]at ha;cases ha
     ·rename_i hu;rw[hu]at ha;cases ha
     ·unfold Cell.okWide at aZ
      split at aZ
      case h_8=>
       unfold Cell.ok at aZ
       split at aZ<;>first|exact aZ|contradiction
      all_goals contradiction
    |_=>simp only[Value.cells,List.cons.injEq,and_true]at q6;exact q6.symm
  subst this
  exact⟨x::xs,⟨t,ts,rfl,q2,a1⟩,⟨_,_,rfl,q3,a2⟩⟩
theorem dx.below {w w':World}(h:dx (fun _=>False) w w'):Below w.heap.size w w':=⟨h.os,h.tape,h.output,h.size,fun k hk=>h.block k hk (fun h=>h)⟩
theorem wT(hl:laidOutB P=true){W':World}{sp:Nat->Bool}:∀ {ts:List TypeId} {vs:List Value} {ds:List (DataW H)} {p:List MemPlace},(∀t∈ts,P.readableRec t=true/\t<P.types.size)->DataW.TrodAll enc P W 0 (fun _=>true) true ts vs ds p->
 (∀x∈p,W.sameAt W' x/\sp x.block=true)->DataW.TrodAll enc P W' 0 sp true ts vs ds p
 |[],vs,ds,p,_,h,_=>by
  obtain⟨rfl,rfl,rfl⟩:=trodAll_nil h
  exact trodAll_mk0
 |t::ts,vs,ds,p,hr,h,hs=>by
  obtain⟨v,vs',d,XF,p1,q1,rfl,rfl,rfl,h1,h2⟩:=trodAll_cons h
  exact⟨p1,q1,WideElems.Trod_stays hl (hr t aI).1 (hr t aI).2 h1 (fun x hx=>(hs x ng).1) (fun x hx=>(hs x ng).2),wT hl (fun t ht=>hr t (by simp[ht])) h2 (fun x hx=>hs x ng),rfl⟩
theorem Kh{sp:Nat->Bool}:∀ {ts:List TypeId} {vs:List Value} {ds:List (DataW H)} {ps:List MemPlace},DataW.TrodAll enc P W 0 sp true ts vs ds ps->ds.length=ts.length
 |[],_,_,_,h=>by obtain⟨_,rfl,_⟩:=trodAll_nil h;rfl
 |_::_,_,_,_,h=>by
  obtain⟨_,_,_,_,_,_,_,rfl,_,_,h2⟩:=trodAll_cons h
  simp[Kh h2]
theorem yD{f:FuncId}{fn:Func}{s:ChangeSpec}{tb:TypeId}{fresh handsOn again:Bool}(xw:fn.resultTypes=#[tb])(BX:P.underlying tb=some .bool)(Qr:s.vars=[])
 (Ki:∀ds:List (DataW H),ds.length=fn.params.toList.length->s.fn H ds={results:=[.lit (.bool true)],args:=ds}) (hp:sF P T=true) (hT:∀t∈fn.params.toList,t∈T) (hl:laidOutB P=true)
 (hr:∀t∈fn.params.toList,P.readableRec t=true/\t<P.types.size) (law:∀xs,D.ig P xs fn.params.toList->aW P f xs (.ret [.bool true]))
 (base:Nat) (args:Array Value) (ds gs:List (DataW H)) (before:List MemPlace)
 (dH:∀ (j:Nat) t v,fn.params[j]? =some t->args[j]? =some v->Value.okWide P W .any base t v) (hW:DataW.Whole enc P fn.params.toList s.vars false W args.toList ds gs before):
 Calls P f args W fun e W'=>∃v,e= .returned v/\s.post enc P fn false fresh handsOn again W args v W':=by
 have hW':=hW
 obtain⟨p,q,hA,hV,rfl,hfz,hnd⟩:=hW
 rw[Qr]at hV
 obtain⟨rfl,rfl⟩:=trodVars_none hV
 obtain⟨xs,a1,a2⟩:=wS (b0:=base) hp fn.params.toList args.toList ds p hT hA (fun j t v h1 h2=>dH j t v (by simpa using h1) sI)
 refine((law xs a1).2 Ua W args (fun _ h=>h.elim) a2).mono fun e W' ⟨hk,ho⟩=> ?_
 have hb:=hk.below
 cases e with
 |panicked ch=>exact ho.elim
 |outgrown=>exact ho.elim
 |returned v=>
  simp only[R.is,D.den]at ho
  subst ho
  refine⟨_,rfl, ?_⟩
  have hlen:ds.length=fn.params.toList.length:=(Kh hA)
  have hold:∀x∈p,x.block<W.heap.size:=fun x hx=>by simpa using hW'.lt x vq
  have dz:∀sp:Nat->Bool,(∀x∈p,sp x.block=true)->DataW.TrodAll enc P W' 0 sp true fn.params.toList args.toList ds p:=fun sp G0=>wT hl hr hA fun x hx=>⟨hb.same (hold x hx),G0 x hx⟩
  have Qs:∀ (b:Nat) (sp:Nat->Bool) (hd:Bool),DataW.TrodAll enc P W' b sp hd fn.resultTypes.toList ((Value.bool true).resultList fn.resultTypes.size) [.lit (.bool true)] []:=fun b sp hd=>by
   rw[xw]
   exact trodAll_cons_mk (p:=[]) (p':=[]) ⟨1,by simp[DataW.trod,Value.cells,BX]⟩ trodAll_mk0
  have Kj:∀sp:Nat->Bool,DataW.TrodVars enc P W' sp s.vars [] []:=fun sp=>by rw[Qr];rfl
  refine⟨ds,[],p++[],[],p,[],hW', ?_, ?_, ?_,World.keptBut_mono (fun _ h=>h.elim) (hb.frame (fun _=>False)),fun _=>⟨?_,[.lit (.bool true)]++ds,[],([]++p)++[],⟨[]++p,[],trodAll_append (dz _ fun _ _=>rfl) (Qs 0 (fun _=>true) true),Kj _,rfl, ?_,(fun h=>by cases h)⟩,fun x hx _=>by simpa using hx⟩⟩
  ·rw[List.append_nil,Ki ds hlen];exact Qs _ _ _
  ·rw[List.append_nil,Ki ds hlen];exact dz _ fun x hx=>by simpa using hold x hx
  ·rw[List.append_nil,Ki ds hlen];exact Kj _
  ·intro j t r h1 h2
   rw[xw]at h1 h2
   match j,h1,h2 with
   |0,h1,h2=>
    simp[Value.resultList]at h1 h2
    subst h1;subst h2
    simp[Value.okWide,BX,Cell.okWide,Cell.ok]
  ·intro b off hx
   rw[hb.frozen (by simpa[MemPlace.block]using hold _ (by simpa using hx))]
   exact hfz b off vq
end
section
variable {P:Program}{t e:TypeId}{x:D}
theorem uA{k:IntKind}(ht:P.underlying t=some (.int k))(h:D.iH P x t):∃n,x= .int k n/\(Lit.int k n).wf=true:=by
 cases x<;>simp only[D.iH]at h
 case int k' n=>
  rw[ht]at h
  obtain⟨h1,h2⟩:=h
  injection h1 with h1;injection h1 with h1;subst h1
  exact⟨n,rfl,h2⟩
 case bool=>rw[ht]at h;cases h
 case str=>rw[ht]at h;cases h.1
 case sl=>obtain⟨e,h,_⟩:=h;rw[ht]at h;cases h
 case agg=>have:=h.1;unfold isAgg at this;rw[ht]at this;cases this
theorem Kk(ht:P.underlying t=some .string)(h:D.iH P x t):∃l,x= .str l/\l.length<=maxLen:=by
 cases x<;>simp only[D.iH]at h
 case int k' n=>rw[ht]at h;cases h.1
 case bool b=>rw[ht]at h;cases h
 case str l=>exact⟨l,rfl,h.2⟩
 case sl=>obtain⟨e,h,_⟩:=h;rw[ht]at h;cases h
 case agg=>have:=h.1;unfold isAgg at this;rw[ht]at this;cases this
theorem pL(ht:P.underlying t=some (.slice e))(h:D.iH P x t):∃es,x= .sl es/\es.length<=maxLen/\D.GK P es e:=by
 cases x<;>simp only[D.iH]at h
 case int k' n=>rw[ht]at h;cases h.1
 case bool b=>rw[ht]at h;cases h
 case str l=>rw[ht]at h;cases h.1
 case sl es=>
  obtain⟨e',h,h2,h3⟩:=h
  rw[ht]at h;injection h with h;injection h with h;subst h
  exact⟨es,rfl,h2,h3⟩
 case agg=>have:=h.1;unfold isAgg at this;rw[ht]at this;cases this
theorem pM{ls:List TypeId}(ha:isAgg P t=true)(hl:lC P 20 t=some ls)(h:D.iH P x t):∃cs,x= .agg cs/\D.ig P cs ls:=by
 have no:∀u,P.underlying t=some u->(∀fs,u≠ .struct fs)->(∀k e,u≠ .array k e)->False:=by
  intro u hu h1 h2
  unfold isAgg at ha
  rw[hu]at ha
  split at ha
  ·rename_i e;injection e with e;exact h1 _ e
  ·rename_i e;injection e with e;exact h2 _ _ e
  ·cases ha
 cases x<;>simp only[D.iH]at h
 case int k' n=>exact(no _ h.1 (fun _ h=>by cases h) (fun _ _ h=>by cases h)).elim
 case bool b=>exact(no _ h (fun _ h=>by cases h) (fun _ _ h=>by cases h)).elim
 case str l=>exact(no _ h.1 (fun _ h=>by cases h) (fun _ _ h=>by cases h)).elim
 case sl es=>obtain⟨e',h,_⟩:=h;exact(no _ h (fun _ h=>by cases h) (fun _ _ h=>by cases h)).elim
 case agg cs=>
  obtain⟨_,ls',h1,h2⟩:=h
  rw[hl]at h1;injection h1 with h1;subst h1
  exact⟨cs,rfl,h2⟩
theorem bI{t:TypeId}{ts:List TypeId}{cs:List D}(h:D.ig P cs (t::ts)):∃x xs,cs=x::xs/\D.iH P x t/\D.ig P xs ts:=by
 cases cs with
 |nil=>simp[D.ig]at h
 |cons x xs=>obtain⟨_,_,e,h1,h2⟩:=h;injection e with e1 e2;subst e1;subst e2;exact⟨x,xs,rfl,h1,h2⟩
theorem kH{cs:List D}(h:D.ig P cs []):cs=[]:=by
 cases cs with
 |nil=>rfl
 |cons x xs=>obtain⟨_,_,e,_⟩:=h;cases e
theorem mL{α:Type}{f:α->D}{q:α->Prop}(hf:∀x,D.iH P x e->∃a,x=f a/\q a):∀ (es:List D),D.GK P es e->∃l:List α,es=l.map f/\∀a∈l,q a
 |[],_=>⟨[],rfl,fun _ h=>by cases h⟩
 |x::es,h=>by
  obtain⟨a,rfl,h1⟩:=hf x h.1
  obtain⟨l,rfl,h2⟩:=mL hf es h.2
  exact⟨a::l,rfl,fun b hb=>(List.mem_cons.1 hb).elim (fun e=>e ▸ h1) (h2 b)⟩
end
end Go.Proofs.YtnkamdiiakdkgaaGreat
end
section
namespace Go.Proofs.YtnkamdiiakdkgaaGreat
open Go.ChangeShapes Go.WideShapes Go.RowKit
theorem m8:maxLen<=9223372036854775807:=cG
theorem Bs{x:D}(h:D.iH Tryz.prog x 3):∃n:Int,x= .i n:=by
 obtain⟨n,h,_⟩:=uA undT_3 h
 exact⟨n,h⟩
theorem aaI{x:D}(h:D.iH Tryz.prog x 53):∃n:Int,x= .i n:=by
 obtain⟨n,h,_⟩:=uA undT_53 h
 exact⟨n,h⟩
theorem aaJ{x:D}(h:D.iH Tryz.prog x 102):∃r:iu,x=r.d/\r.name.length<=9223372036854775807:=by
 obtain⟨cs,rfl,hh⟩:=pM ag (ls:=[9,3]) ag h
 clear h;have h:=hh;clear hh
 obtain⟨a,cs,rfl,ha,h⟩:=bI h
 obtain⟨b,cs,rfl,hb,h⟩:=bI h
 have:=kH h;subst this
 obtain⟨l,rfl,hl⟩:=Kk ag ha
 obtain⟨n,rfl⟩:=Bs hb
 exact⟨⟨l,n⟩,rfl,by have:=m8;simp only;omega⟩
theorem Kl:∀ (n:Nat) (x:D),SizeOf.sizeOf x<=n->D.iH Tryz.prog x 55->∃t:Tm,x=t.d/\t.fits:=by
 intro n
 induction n with
 |zero=>intro x hx _;cases x<;>simp at hx
 |succ n ih=>
  intro x hx h
  obtain⟨cs,rfl,hh⟩:=pM ag (ls:=[53,3,49]) ag h
  clear h;have h:=hh;clear hh
  obtain⟨a,cs,rfl,ha,h⟩:=bI h
  obtain⟨b,cs,rfl,hb,h⟩:=bI h
  obtain⟨c,cs,rfl,hc,h⟩:=bI h
  have:=kH h;subst this
  obtain⟨o,rfl⟩:=aaI ha
  obtain⟨m,rfl⟩:=Bs hb
  obtain⟨es,rfl,h1,h2⟩:=pL undT_49 hc
  have DG:SizeOf.sizeOf es<=n:=by simp at hx;omega
  have:∀es:List D,SizeOf.sizeOf es<=n->D.GK Tryz.prog es 55->∃l:List Tm,es=l.map Tm.d/\∀k∈l,k.fits:=by
   intro es
   induction es with
   |nil=>intro _ _;exact⟨[],rfl,fun _ h=>by cases h⟩
   |cons y es ihe=>
    intro hs h
    simp at hs
    obtain⟨t,rfl,ht⟩:=ih y ah h.1
    obtain⟨l,rfl,hl⟩:=ihe ah h.2
    exact⟨t::l,rfl,fun b hb=>(List.mem_cons.1 hb).elim (fun e=>e ▸ ht) (hl b)⟩
  obtain⟨l,rfl,hl⟩:=this es DG h2
  refine⟨.mk o m l,by rw[Tm.CJ], ?_⟩
  rw[Tm.aX]
  exact⟨by have:=m8;simp at h1;simp only[Tm.kids];omega,hl⟩
theorem ac2{x:D}(h:D.iH Tryz.prog x 55):∃t:Tm,x=t.d/\t.fits:=Kl _ x (Nat.le_refl _) h
end Go.Proofs.YtnkamdiiakdkgaaGreat
end
section
namespace Go.Proofs.YtnkamdiiakdkgaaGreat
open Go.ChangeShapes Go.WideShapes Go.RowKit
theorem Km{x:D}(h:D.iH Tryz.prog x 49):∃l:List Tm,x= .sl (l.map Tm.d)/\l.length<=9223372036854775807/\∀t∈l,t.fits:=by
 obtain⟨es,rfl,h1,h2⟩:=pL undT_49 h
 obtain⟨l,rfl,hl⟩:=mL (fun x h=>ac2 h) es h2
 have:=m8
 exact⟨l,rfl,by simp at h1;omega,hl⟩
structure Rl.Fits (r:Rl):Prop where
 ax:r.ax.length<=9223372036854775807
 all:∀t∈r.ax,t.fits
 rhs:r.rhs.fits
theorem ac3{x:D}(h:D.iH Tryz.prog x 57):∃r:Rl,x=r.d/\r.Fits:=by
 obtain⟨cs,rfl,hh⟩:=pM ag (ls:=[3,49,53,3,49,3]) ag h
 clear h;have h:=hh;clear hh
 obtain⟨a,cs,rfl,ha,h⟩:=bI h
 obtain⟨b,cs,rfl,hb,h⟩:=bI h
 obtain⟨c,cs,rfl,hc,h⟩:=bI h
 obtain⟨d,cs,rfl,hd,h⟩:=bI h
 obtain⟨e,cs,rfl,he,h⟩:=bI h
 obtain⟨f,cs,rfl,hf,h⟩:=bI h
 have:=kH h;subst this
 obtain⟨m,rfl⟩:=Bs ha
 obtain⟨l,rfl,l1,l2⟩:=Km hb
 obtain⟨o,rfl⟩:=aaI hc
 obtain⟨n,rfl⟩:=Bs hd
 obtain⟨k,rfl,k1,k2⟩:=Km he
 obtain⟨v,rfl⟩:=Bs hf
 exact⟨⟨m,l, .mk o n k,v⟩,rfl,⟨l1,l2,(Tm.aX _).2 ⟨k1,k2⟩⟩⟩
structure Pg.Fits (p:Pg):Prop where
 sig:p.sig.Fits
 len:p.rules.length<=9223372036854775807
 all:∀r∈p.rules,r.Fits
theorem ac4{x:D}(h:D.iH Tryz.prog x 27):∃p:Pg,x=p.d/\p.Fits:=by
 obtain⟨cs,rfl,hh⟩:=pM ag (ls:=[22,22,25]) ag h
 clear h;have h:=hh;clear hh
 obtain⟨a,cs,rfl,ha,h⟩:=bI h
 obtain⟨b,cs,rfl,hb,h⟩:=bI h
 obtain⟨c,cs,rfl,hc,h⟩:=bI h
 have:=kH h;subst this
 obtain⟨es,rfl,h1,h2⟩:=pL undT_22 ha
 obtain⟨l,rfl,hl⟩:=mL (fun x h=>aaJ h) es h2
 obtain⟨es',rfl,h3,h4⟩:=pL undT_22 hb
 obtain⟨l',rfl,LX⟩:=mL (fun x h=>aaJ h) es' h4
 obtain⟨es2,rfl,h5,h6⟩:=pL (e:=57) ag hc
 obtain⟨q,rfl,hq⟩:=mL (fun x h=>ac3 h) es2 h6
 have:=m8
 exact⟨⟨⟨l,l'⟩,q⟩,rfl,⟨⟨by simp at h1;simp only;omega,by simp at h3;simp only;omega,hl,LX⟩,by simp at h5;simp only;omega,hq⟩⟩
end Go.Proofs.YtnkamdiiakdkgaaGreat
end
namespace Go.Proofs.YtnkamdiiakdkgaaGreat
def cJ(l:List Tm):Bool:=decide (l.length<=6)&&l.all jg
def ij(p:Pg):Bool:=(gJ p.sig&&decide (p.rules.length<=20))&&p.rules.all fun r=>cJ r.ax&&jg r.rhs
theorem GL{p:Pg}(hf:p.Fits)(h:ij p=true):p.Fin/\EE p:=by
 simp only[ij,cJ,Bool.and_eq_true,decide_eq_true_eq,List.all_eq_true,tZ]at h
 obtain⟨_,h⟩:=h
 refine⟨⟨hf.sig,hf.len,fun r hr=> ?_⟩,fun r hr=> ?_⟩
 ·obtain⟨⟨a,b⟩,c⟩:=h r hr
  have xm:=hf.all r hr
  exact⟨ah,fun t ht=>⟨xm.all t ht,by have:=(b t ht).2;omega⟩,⟨xm.rhs,by have:=c.2;omega⟩⟩
 ·obtain⟨⟨a,b⟩,c⟩:=h r hr
  exact⟨a,fun t ht=>(b t ht).1,c.1⟩
end Go.Proofs.YtnkamdiiakdkgaaGreat
namespace Go.Proofs.YtnkamdiiakdkgaaGreat
def wU(s:aS)(n:Int)(p:Tm):Bool:=(cN s p&&((fI p []).2&&fq p))&&ed n p
theorem wV(s:aS)(r:Rl):eR s r=((jm s r&&cN s r.rhs)&&r.ax.all (wU s r.vars)&&(C8 r.ax&&ed r.vars r.rhs&&qI r.rhs (bN (.mk 0 0 r.ax)))):=rfl
set_option maxHeartbeats 1000000 in
theorem Ub(s:aS)(hs:s.Fits)(r:Rl)(hp:Kd r.ax)(hf:r.rhs.fits)(hz:r.rhs.sz<=500):aW Tryz.prog 78 [s.d,r.d] (.ret [.bool (eR s r)]):=by
 have uX:=hp.len
 have hlf:=hs.lf
 have hrc:r.rhs.C0:=Tm.C0.Db hf ah
 refine aW.aH mix acI aI ?_
 rw[c78]
 have fin:(jm s r&&cN s r.rhs)=false->eR s r=false:=fun h=>by rw[wV,h];rfl
 refine QF ?_
 refine aQ (yY _ _ _) rfl ?_
 cases f1:dP r.fn 0 ((s.bH.length:Int) - 1)with
 |false=>
  have e:eR s r=false:=fin (by
   have:jm s r=false:=by
    simp only[dP,Bool.and_eq_false_iff,decide_eq_false_iff_not]at f1
    unfold jm
    by_cases h:0<=r.fn
    ·rw[List.getElem?_eq_none (by omega:s.bH.length<=r.fn.toNat)];simp
    ·rw[decide_eq_false h];rfl
   rw[this];rfl)
  refine QF ?_
  exact N1
 |true=>
 obtain⟨h0,x,hx⟩:=w7 f1
 have Bb:jm s r=((r.ax.length:Int)==x.args&&decide (0<=r.vars)&&decide (r.vars<=20)):=by
  unfold jm;rw[hx];simp[h0]
 cases f2:((r.ax.length:Int)!=x.args)with
 |true=>
  have e:eR s r=false:=fin (by
   have:((r.ax.length:Int)==x.args)=false:=by simpa using f2
   rw[Bb,this];rfl)
  exact Rh
 |false=>
 have JM:((r.ax.length:Int)==x.args)=true:=by simpa using f2
 refine VO hx f2 ?_
 refine aQ (yY _ _ _) rfl ?_
 cases f3:dP r.vars 0 20 with
 |false=>
  have e:eR s r=false:=fin (by
   have:(decide (0<=r.vars)&&decide (r.vars<=20))=false:=f3
   rw[Bb,Bool.and_assoc ((r.ax.length:Int)==x.args),this];simp)
  exact Rh
 |true=>
 have TX:(decide (0<=r.vars)&&decide (r.vars<=20))=true:=f3
 refine VO hx f2 ?_
 refine aQ (CV s hs r.rhs hf) rfl ?_
 cases f4:cN s r.rhs with
 |false=>
  have e:eR s r=false:=fin (by rw[f4];simp)
  exact Rh
 |true=>
 have hh:jm s r=true:=by rw[Bb,JM,Bool.true_and,TX]
 refine VO hx f2 ?_
 refine aN (aR rfl) ?_
 refine br ?_
 rw[wV,hh,f4,Bool.true_and,Bool.true_and]
 refine aE (fun k:Nat=>⟨ba [.aa, .aa, .ptr 0 0, .ptr 1 0, .aa, .d (.i k)],yc s.row r.row,2⟩)
  (fun k=>k<=r.ax.length/\(r.ax.take k).all (wU s r.vars)=true) (fun k=>r.ax.length - k) 0 ⟨Nat.zero_le _,aI⟩ (bC.d2 _ (fH rfl rfl) ah rfl rfl ?_) (fun k hk=> ?_)
 ·exact cE
 refine lN ?_
 refine aj (fun h2=> ?_) (fun h2=> ?_)
 ·simp at h2
  obtain⟨y,hy⟩:=az h2
  have Qi:=List.mem_of_getElem? hy
  have G6:=hp.all y Qi
  refine lM hy ?_
  refine aQ (CV s hs y G6.1) rfl ?_
  cases g1:cN s y with
  |false=>
   refine lM hy ?_
   refine aN (aR rfl) ?_
   refine br ?_
   rw[cf hy (by rw[wU,g1];rfl)];rfl
  |true=>
  refine lM hy ?_
  refine aQ (GG y (hp.cnt Qi)) rfl ?_
  cases g2:((fI y []).2&&fq y)with
  |false=>
   refine lM hy ?_
   refine aN (aR rfl) ?_
   refine br ?_
   rw[cf hy (by rw[wU,g1,g2];rfl)];rfl
  |true=>
  refine lM hy ?_
  refine aQ (Bi r.vars y G6.1) rfl ?_
  cases g3:ed r.vars y with
  |false=>
   refine lM hy ?_
   refine aN (aR rfl) ?_
   refine br ?_
   rw[cf hy (by rw[wU,g1,g2,g3];rfl)];rfl
  |true=>
  refine lM hy ?_
  refine aN (aR rfl) ?_
  refine br ?_
  refine aq (k+1) ⟨h2,eh hy hk.2 (by rw[wU,g1,g2,g3];rfl)⟩ ah (bC.d2 _ (fH rfl rfl) ah rfl rfl ?_)
  exact cE
 ·simp at h2
  rw[dK hk.2 h2,Bool.true_and]
  refine lN ?_
  refine aQ (Ke r.ax hp) rfl ?_
  cases g1:C8 r.ax with
  |false=>
   exact Ro
  |true=>
  refine lN ?_
  refine aQ (Bi r.vars r.rhs hf) rfl ?_
  cases g2:ed r.vars r.rhs with
  |false=>
   exact Ro
  |true=>
  refine lN ?_
  refine c7 (Bj r.ax) ?_
  refine lN ?_
  refine c7 (sE _ hp.whole) ?_
  refine lN ?_
  refine aQ (Ng r.rhs hrc _ ?_) rfl ?_
  ·have:=kG (.mk 0 0 r.ax);have:=hp.eC;rw[Tm.AZ]at*;omega
  exact Ro
structure Pg.Fw (p:Pg):Prop where
 sig:p.sig.Fits
 len:p.rules.length<=1000
 all:∀r∈p.rules,Kd r.ax/\r.rhs.fits/\r.rhs.sz<=500
theorem Nh(p:Pg)(hp:p.Fw):aW Tryz.prog 43 [p.d] (.ret [.bool (dT p)]):=by
 have hl:=hp.len
 refine aW.aH mix acj aI ?_
 rw[c43,dT]
 refine lN ?_
 refine aB (aar p.sig hp.sig) rfl ?_
 cases h1:iG p.sig with
 |false=>
  exact QI
 |true=>
 cases h2:decide (16<(p.rules.length:Int))with
 |true=>
  have uZ:decide (p.rules.length<=16)=false:=by simp at h2|-;omega
  refine lM h2 ?_
  rw[uZ];rfl
 |false=>
 have uZ:decide (p.rules.length<=16)=true:=by simp at h2|-;omega
 refine lM h2 ?_
 rw[uZ,Bool.true_and,Bool.true_and]
 refine aE (fun k:Nat=>⟨ba [.aa, .ptr 0 0, .aa, .d (.i k)],gf p.row,1⟩)
  (fun k=>k<=p.rules.length/\(p.rules.take k).all (eR p.sig)=true) (fun k=>p.rules.length - k) 0 ⟨Nat.zero_le _,aI⟩ (bC.d1 _ (aT rfl) ah rfl ?_) (fun k hk=> ?_)
 ·exact cE
 refine lN ?_
 refine aj (fun h2=> ?_) (fun h2=> ?_)
 ·simp at h2
  obtain⟨y,hy⟩:=az h2
  have G6:=hp.all y (List.mem_of_getElem? hy)
  refine lM hy ?_
  refine aQ (Ub p.sig hp.sig y G6.1 G6.2.1 G6.2.2) rfl ?_
  cases g1:eR p.sig y with
  |false=>
   refine lM hy ?_
   refine aN (aR rfl) ?_
   refine br ?_
   rw[cf hy g1]
  |true=>
  refine lM hy ?_
  refine aN (aR rfl) ?_
  refine br ?_
  refine aq (k+1) ⟨h2,eh hy hk.2 g1⟩ ah (bC.d1 _ (aT rfl) ah rfl ?_)
  exact cE
 ·simp at h2
  rw[dK hk.2 h2]
  exact pW
theorem uB(l:List Tm)(hl:l.length<=9223372036854775807)(hf:∀t∈l,t.fits):aW Tryz.prog 60 [.sl (l.map Tm.d)] (.ret [.bool (cJ l)]):=by
 refine aW.aH mix acw aI ?_
 rw[c60]
 refine br ?_
 refine aE (fun k:Nat=>⟨ba [.d (.sl (l.map Tm.d)), .aa, .aa, .d (.i k)],fun _=> .no,0⟩)
  (fun k=>k<=l.length/\(l.take k).all jg=true) (fun k=>l.length - k) 0 ⟨Nat.zero_le _,aI⟩ (bC.d0 _ ?_) (fun k hk=> ?_)
 ·exact cE
 refine lN ?_
 refine aj (fun h2=> ?_) (fun h2=> ?_)
 ·simp at h2
  obtain⟨y,hy⟩:=az (l:=l) (k:=k) ah
  have G6:=hf y (List.mem_of_getElem? hy)
  refine lM hy ?_
  refine aB (Eo y G6) rfl ?_
  cases g1:jg y with
  |false=>
   refine lM hy ?_
   rw[cJ,cf hy g1,Bool.and_false]
  |true=>
  refine lM hy ?_
  refine aq (k+1) ⟨ah,eh hy hk.2 g1⟩ ah (bC.d0 _ ?_)
  exact cE
 ·refine lN ?_
  congr 3
  by_cases h3:l.length<=6
  ·have h4:l.length<=k:=by simp at h2;omega
   rw[cJ,dK hk.2 h4]
   simp;omega
  ·rw[cJ,decide_eq_false h3]
   simp;omega
theorem GM(p:Pg)(hp:p.Fits):aW Tryz.prog 34 [p.d] (.ret [.bool (ij p)]):=by
 have hl:=hp.len
 let q:Rl->Bool:=fun r=>cJ r.ax&&jg r.rhs
 have hq:ij p=((gJ p.sig&&decide (p.rules.length<=20))&&p.rules.all q):=rfl
 refine aW.aH mix acd aI ?_
 rw[c34,hq]
 refine br ?_
 refine aE (fun k:Nat=>⟨ba [.aa, .ptr 0 0, .aa, .d (.i k)],gf p.row,1⟩)
  (fun k=>k<=p.rules.length/\(p.rules.take k).all q=true) (fun k=>p.rules.length - k) 0 ⟨Nat.zero_le _,aI⟩ (bC.d1 _ (aT rfl) ah rfl ?_) (fun k hk=> ?_)
 ·exact cE
 refine lN ?_
 refine aj (fun h2=> ?_) (fun h2=> ?_)
 ·simp at h2
  obtain⟨y,hy⟩:=az (l:=p.rules) (k:=k) ah
  have G6:=hp.all y (List.mem_of_getElem? hy)
  have hqy:q y=(cJ y.ax&&jg y.rhs):=rfl
  refine lM hy ?_
  refine aB (uB y.ax G6.ax G6.all) rfl ?_
  cases g1:cJ y.ax with
  |false=>
   refine lM hy ?_
   rw[cf hy (by rw[hqy,g1];rfl),Bool.and_false]
  |true=>
  refine lM hy ?_
  refine aB (Eo y.rhs G6.rhs) rfl ?_
  cases g2:jg y.rhs with
  |false=>
   refine lM hy ?_
   rw[cf hy (by rw[hqy,g1,g2];rfl),Bool.and_false]
  |true=>
  refine lM hy ?_
  refine aq (k+1) ⟨ah,eh hy hk.2 (by rw[hqy,g1,g2];rfl)⟩ ah (bC.d1 _ (aT rfl) ah rfl ?_)
  exact cE
 ·refine lN ?_
  refine aB (CW p.sig hp.sig) rfl ?_
  cases g1:gJ p.sig with
  |false=>exact QI
  |true=>
  refine lN ?_
  congr 3
  by_cases h3:p.rules.length<=20
  ·have h4:p.rules.length<=k:=by simp at h2;omega
   rw[dK hk.2 h4]
   simp;omega
  ·rw[decide_eq_false h3]
   simp;omega
theorem GN{p:Pg}(hf:p.Fits)(h:ij p=true):p.Fw:=by
 simp only[ij,cJ,Bool.and_eq_true,decide_eq_true_eq,List.all_eq_true,tZ]at h
 obtain⟨⟨_,hl⟩,h⟩:=h
 refine⟨hf.sig,ah,fun r hr=> ?_⟩
 obtain⟨⟨a,b⟩,c⟩:=h r hr
 have xm:=hf.all r hr
 exact⟨⟨ah,fun t ht=>⟨xm.all t ht,by have:=(b t ht).1;omega⟩⟩,xm.rhs,ah⟩
theorem yE:∀ (t:Tm) (q:List Int) (b:Bool),(j6 t q b).map Sp.t=fM t:=by
 refine Tm.cl fun t ih q b=> ?_
 have key:∀l:List Tm,(∀k∈l,k∈t.kids)->∀ (i:Int) (b':Bool),(gP l i q b').map Sp.t=l.flatMap fM:=by
  intro l
  induction l with
  |nil=>intro _ _ _;rfl
  |cons k l tT=>
   intro hk i b'
   rw[gP,List.map_append,ih k (hk k (by simp)),tT (fun x hx=>hk x (by simp[hx])),List.flatMap_cons]
 rw[yo,lj,List.map_cons,key t.kids (fun _ h=>h)]
def lP(s:List Int)(x:Sp):List Int:=s++(if x.t.op=5 then [x.t.n]else [])
theorem EM:∀ (l:List Sp) (s:List Int),(aw (vh (fun _=>none) lP) s l).1=s++((l.map Sp.t).filter (fun x=>x.op==5)).map Tm.n
 |[],s=>by simp[aw]
 |x::l,s=>by
  simp only[aw,vh,Option.isNone_none,if_true]
  rw[EM l,List.map_cons,List.filter_cons,lP,List.append_assoc]
  by_cases h:x.t.op=5
  ·simp[h]
  ·have h':(x.t.op==5)=false:=by simpa using h
   simp[h,h']
theorem Uc(t:Tm):(aw (vh (fun _=>none) lP) [] (j6 t [] true)).1=qL t:=by
 rw[EM,yE];rfl
theorem Ni(t:Tm):(qL t).length<=t.sz:=by
 unfold qL
 rw[List.length_map, <- sB]
 exact List.length_filter_le _ _
def yF(p:Pg)(k:Nat):List Int:=(p.rules.take k).flatMap fun r=>qL r.rhs
theorem Bt(p:Pg){k:Nat}{r:Rl}(h:p.rules[k]? =some r):yF p (k+1)=yF p k++qL r.rhs:=by
 unfold yF
 rw[List.take_add_one,h,List.flatMap_append];simp
theorem EN{p:Pg}(hp:p.Fw):∀k,k<=p.rules.length->(yF p k).length<=k*500
 |0,_=>by simp[yF]
 |k+1,hk=>by
  have hx:p.rules[k]? =some p.rules[k]:=List.getElem?_eq_getElem ah
  rw[Bt p hx,List.length_append]
  have h1:=EN hp k ah
  have h2:=Ni p.rules[k].rhs
  have h3:=(hp.all _ (List.getElem_mem (by omega:k<p.rules.length))).2.2
  omega
@[reducible] def crD (p:Pg) (ps:List Int):D:= .agg [.sl (p.sig.cons.map iu.d), .sl (p.sig.bH.map iu.d), .sl (p.rules.map Rl.d), .sl (ps.map .i)]
def EO(p:Pg):Nat->ab:=aF (aF (fun _=> .no) 0 (.row p.row)) 1 (.row [.bw, .bw, .bw, .bw])
def Kn(p:Pg)(k:Nat)(r:Rl)(s:List Int):Nat->ab:=aF (aF (aF (aF (jw (EO p) 2 7 [] 3 1 ((yF p k).map .i)) 11 (.row r.row)) 15 (.row r.rhs.row)) 2 (.row [.osl 7 s.length])) 7 (.arr s.length 3 1 ((yF p k++s).map .i))
theorem Nj(p:Pg)(hp:p.Fw):aW Tryz.prog 41 [p.d] (.ret [crD p (Lib.compact (dL (yF p p.rules.length)))]):=by
 have uX:=hp.len
 refine aW.aH mix YT aI ?_
 rw[c41]
 refine lN ?_
 have hB:Good (EO p) 7:=by unfold EO;exact eL
 have kb1:EO p 1= .row [.bw, .bw, .bw, .bw]:=by unfold EO;(repeat(first|rfl|rw[ae]|rw[ai _ _ _ _ (by omega)]))
 have sc:∀j,7<=j->EO p j= .no:=fun j hj=>by unfold EO;(repeat(first|rfl|rw[ae]|rw[ai _ _ _ _ (by omega)]))
 refine aE (fun k:Nat=>⟨ba [.aa, .ptr 0 0, .ptr 1 0, .ptr 2 0, .aa, .aa, .aa, .aa, .d (.sl (p.rules.map Rl.d)), .d (.i p.rules.length), .d (.i k)],jw (EO p) 2 7 [] 3 1 ((yF p k).map .i),8⟩)
  (fun k=>k<=p.rules.length) (fun k=>p.rules.length - k) 0 (Nat.zero_le _) (wR (ds:=[]) _ hB sc ah (fun j hj kK=>by unfold EO;exact UB) eY ah ?_) (fun k hk=> ?_)
 ·exact E5
 replace hk:k<=p.rules.length:=hk
 have JL:=EN hp k hk
 have k0:jw (EO p) 2 7 [] 3 1 ((yF p k).map .i) 0= .row p.row:=by unfold jw EO;(repeat(first|rfl|rw[ae]|rw[ai _ _ _ _ (by omega)]))
 have k2:jw (EO p) 2 7 [] 3 1 ((yF p k).map .i) 2= .row [.osl 7 0]:=yz _ ah [] _ _ _
 have k7:jw (EO p) 2 7 [] 3 1 ((yF p k).map .i) 7= .arr 0 3 1 ((yF p k).map .i):=yy _ _ _ _ _ _ _
 refine br ?_
 refine aj (fun h1=> ?_) (fun h1=> ?_)
 ·simp at h1
  obtain⟨r,hr⟩:=az h1
  have Ko:=List.mem_of_getElem? hr
  obtain⟨f1,f2,f3⟩:=hp.all r Ko
  refine VT hr k7 ?_
  refine fF (Bk r.rhs _ _ _ _ ?_)
  refine QJ k7 ?_
  refine rF (σ:=List Int) r.rhs f2 (by have:=yr r.rhs;omega) [.aa, .ptr 0 0, .ptr 1 0, .ptr 2 0, .aa, .aa, .aa, .aa, .d (.sl (p.rules.map Rl.d)), .d (.i p.rules.length), .d (.i k)] ?_ cG rfl (by unfold jw EO;exact eL) oq eY (Kn p k r) (fun _=>none) lP (fun l s=>s.length+l.length<=1000) [] ?_ rfl (fun id au=> ?_) (fun x l s hs _ h2=> ?_) ?_ ?_
  ·exact E7
  ·rw[List.length_nil, <- List.length_map (f:=Sp.t),yE,sB];omega
  ·unfold Kn
   by_cases e2:id=2
   ·exact QQ
   by_cases e7:id=7
   ·subst e7;(repeat(first|rfl|rw[ae]|rw[ai _ _ _ _ (by omega)]));rw[k7,List.append_nil];rfl
   rw[ai _ 7 _ _ e7,ai _ 2 _ _ e2,fZ]
  ·simp only[lP,List.length_append,List.length_cons]at hs|-
   split<;>simp<;>omega
  ·intro L hL vj x hx l s' h1 h2 o3 n3 hI hn ho K X cw
   simp only[mh]
   have hg:=hI.bD
   have q2:o3 2= .row [.osl 7 s'.length]:=by rw[hI.eq 2 (by omega)];unfold Kn;(repeat(first|rfl|rw[ae]|rw[ai _ _ _ _ (by omega)]))
   have q7:o3 7= .arr s'.length 3 1 ((yF p k++s').map .i):=by rw[hI.eq 7 (by omega)];unfold Kn;(repeat(first|rfl|rw[ae]|rw[ai _ _ _ _ (by omega)]))
   simp only[List.length_cons]at h1
   refine br ?_
   refine kB hL (pd:=none) ?_ ?_
   ·(repeat(first|rfl|rw[ae]|rw[ai _ _ _ _ (by omega)]))
    exact ho
   have fin:∀ (o':Nat->ab) (n':Nat) (s2:List Int),Good o' n'->n3<=n'->o' 2= .row [.osl 7 s2.length]->o' 7= .arr s2.length 3 1 ((yF p k++s2).map .i)->(∀j,j<19->j≠2->j≠7->o' j=o3 j)->cI 19 (Kn p k r s2) o' n':=fun o' n' s2 k1 k2 k3 k4 k6=>⟨k1,ah,fun j hj=>by
    by_cases e:j=2
    ·subst e;rw[k3];unfold Kn;(repeat(first|rfl|rw[ae]|rw[ai _ _ _ _ (by omega)]))
    by_cases e2:j=7
    ·subst e2;rw[k4];unfold Kn;(repeat(first|rfl|rw[ae]|rw[ai _ _ _ _ (by omega)]))
    rw[k6 j hj e e2,hI.eq j hj];unfold Kn
    rw[ai _ _ _ _ e2,ai _ _ _ _ e,ai _ _ _ _ e2,ai _ _ _ _ e]⟩
   by_cases h5:x.t.op=5
   ·have nJ:(x.t.op==5)=true:=by simpa using h5
    have hlen:(yF p k++s').length<=600000:=by rw[List.length_append];omega
    refine G9 q2 q7 nJ ?_
    refine cw _ _ _ .busy none ah (fin _ _ _ eL ah ?_ ?_ fun j hj j1 j2=> ?_) eY (fun id h3 h4=>by(repeat(first|rfl|rw[ae]|rw[ai _ _ _ _ (by omega)])))
    ·exact Wd
    ·exact Wd
    ·exact eY
   ·have nJ:(x.t.op==5)=false:=by simpa using h5
    refine BQ q2 q7 nJ ?_
    refine cw _ _ _ .busy none ah (fin _ _ _ eL ah ?_ ?_ fun j hj j1 j2=> ?_) eY (fun id h3 h4=>by(repeat(first|rfl|rw[ae]|rw[ai _ _ _ _ (by omega)])))
    ·unfold lP;rw[if_neg h5];(repeat(first|rfl|rw[ae]|rw[ai _ _ _ _ (by omega)]));simp[q2]
    ·unfold lP;rw[if_neg h5];(repeat(first|rfl|rw[ae]|rw[ai _ _ _ _ (by omega)]));simp[q7]
    ·exact eY
  ·intro o' n' hI
   rw[Uc]at hI
   simp only[nU]
   refine br ?_
   have hg:=hI.bD
   refine aq (k+1) h1 ah (Bl (r:=2) (c:=7) (ep:=(qL r.rhs).length) (ds:=[]) _ hB sc ah (fun j hj kK=> ?_) ?_ ?_ ?_)
   ·rw[hI.eq j (by omega)];unfold Kn jw;(repeat(first|rfl|rw[ae]|rw[ai _ _ _ _ (by omega)]))
   ·rw[hI.eq 2 (by omega)];unfold Kn;(repeat(first|rfl|rw[ae]|rw[ai _ _ _ _ (by omega)]))
   ·rw[hI.eq 7 (by omega),Bt p hr];unfold Kn;(repeat(first|rfl|rw[ae]|rw[ai _ _ _ _ (by omega)]))
   ·exact E5
 ·simp at h1
  have Xu:k=p.rules.length:=ah
  subst Xu
  simp+contextual (disch:=first|omega|simp only[go_sem,false_implies]) only[go_sem,wrap64,if_pos,k2,k7]
  refine fF (JY Bn GI (zs:=yF p p.rules.length) eY GJ ah ?_)
  refine QJ k7 ?_
  refine qx cG (GA uy yA eY yB (by unfold dL;rw[List.length_mergeSort];omega)) ?_
  simp+contextual (disch:=first|omega|simp only[go_sem,false_implies]) only[go_sem,wrap64,if_pos,k0,k2,k7,kb1]
  exact Ly
end Go.Proofs.YtnkamdiiakdkgaaGreat
