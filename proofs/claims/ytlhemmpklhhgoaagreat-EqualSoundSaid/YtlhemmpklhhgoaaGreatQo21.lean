/-
  A PART OF THE PROOF. Conditions: none.
-/
import Derived.Test.YtlhemmpklhhgoaaGreatQo20
set_option linter.unusedSimpArgs false
set_option linter.unusedVariables false
set_option maxHeartbeats 8000000
namespace Go.Proofs.YtlhemmpklhhgoaaGreat
theorem zK(s:bU)(hs:s.Cp)(b:List (Int×Tm))(o:Nat->ad)(nx mid:Nat)(vb:V)(hg:Good o nx)(aeW:o mid=dt b)(Ze:dM o vb=some (.sl (s.binds.map TB.d)))(K X:V->(Nat->ad)->Nat->Prop)
 (xf:∀o' nx' i j k,nx<=nx'->Good o' nx'->(∀j,j<nx->j∉vb.ids->j≠mid->o' j=o j)->
  o' i= .arr 0 59 4 (s.binds.map TB.d)->o' j= .arr 0 101 6 (s.aI.map Nt.d)->o' k= .arr 0 77 2 (s.marks.map tj)->
  K (.agg [.d (.sl (s.sig.cons.map dX.d)), .d (.sl (s.sig.bZ.map dX.d)), .osl i 0, .osl j 0, .osl k 0]) o' nx'):
 bP Tryz.prog 65 [.agg [.d (.sl (s.sig.cons.map dX.d)), .d (.sl (s.sig.bZ.map dX.d)),vb, .d (.sl (s.aI.map Nt.d)), .d (.sl (s.marks.map tj)), .mp mid]] o nx K X:=by
 refine bP.xd (d:=s.kd b) ?_ ?_
 ·exact Pr aeW Ze
 ·refine Bn s hs b _ nx (xo hg _) K X (fun o' nx' i j k m1 m2 m3 m4 m5 m6=>xf o' nx' i j k m1 m2 (fun j j1 j2 j3=>(m3 j j1).trans (Bp _ _ _ fun y hy=> ?_)) m4 m5 m6)
  unfold bG at hy
  obtain⟨q,hq,rfl⟩:=List.mem_map.1 hy
  simp[V.ids,V.bc]at hq
  dsimp only
  rcases hq with hq|hq
  ·exact fun e=>j2 (e ▸ hq)
  ·exact fun e=>j3 (e.symm.trans hq)
theorem bU.RC {s:bU}(h:bB s){E:List TB}(hB:iz s.sig (s.binds++E)):(s.tell (ag (s.binds++E))).Cp:=by
 have hc:=h.cp
 have:=hB.len
 refine⟨hc.lc,hc.lf, ?_,hc.nl,hc.ml,fun x hx=> ?_,hc.nt⟩
 ·show(xY _).length<=_
  rw[oP];omega
 ·have hx:x∈xY (ag (s.binds++E)):=hx
  rw[oP]at hx
  have:=(bz (hB.ok x hx).2).2.1
  omega
theorem zL{s:bU}(h:bB s){a c:Tm}(ha:bJ s.sig a=true)(hc:bJ s.sig c=true){f:Nat}{b':List (Int×Tm)}(hf:jl true f a c (ag s.binds)=some (0,b')){E:List TB}(hE:b'=ag (s.binds++E)):iz s.sig (s.binds++E):=by
 obtain⟨E',h1,h2⟩:=oo h ha hc hf
 have e:s.binds++E=s.binds++E':=by rw[<- oP (s.binds++E), <- hE,h1,oP]
 rw[e];exact h2
theorem On{s:bU}(h:bB s){a c:Tm}(ha:bJ s.sig a=true)(hc:bJ s.sig c=true){f:Nat}{e:Int}{b':List (Int×Tm)}(hf:jl true f a c (ag s.binds)=some (e,b')){bk:Nt->Bool}(xZ:e=0->∀n∈s.aI,(bk n=true↔BP b' n)):
 e=0->∀E,b'=ag (s.binds++E)->∀n∈s.aI,aW Tryz.prog 66 [bU.kd ⟨s.sig,s.binds++E,s.aI,s.marks⟩ b',n.d] (.ret [.bool (bk n)]):=fun h0 E hE n hn=>by
 have hB:=zL h ha hc (h0 ▸ hf) hE
 have hk:=xZ h0 n hn
 subst hE
 exact(Ol hB _ (h.aI n hn).1 (h.aI n hn).2.1 hk).1
theorem Oo(s:bU)(hs:s.Fin)(a c:Tm)(ha:a.Fin)(hc:c.Fin)(h:bB s)(va:bJ s.sig a=true)(vc:bJ s.sig c=true){f:Nat}{e:Int}{b':List (Int×Tm)}(hf:jl true f a c (ag s.binds)=some (e,b'))(he:e=0\/e=5\/e=3){bk:Nt->Bool}(xZ:e=0->∀n∈s.aI,(bk n=true↔BP b' n)):
 aW Tryz.prog 15 [s.d,a.d,c.d] (.ret [if im e (s.aI.any bk)=0 then(s.tell b').d else mM.d, .i (im e (s.aI.any bk))]):=by
 refine aW.aG mix ac4 aE ?_
 rw[c15]
 refine fY ?_
 refine bX (Ij s hs a c ha hc _ _ dh _ _ (fun h1 h2 h3 o' nx' id i1 i2 i3 i4=> ?_) (fun hn=>absurd ⟨h,va,vc⟩ hn))
 have e1:o' 1= .row a.row:=(i3 _ af).trans cg
 have e2:o' 2= .row c.row:=(i3 _ af).trans cg
 have e3:o' 3= .row [.ax, .ax, .ax, .ax, .ax]:=(i3 _ af).trans cg
 have aw:id<nx':=Good.lt i2 LB
 refine BC e1 e2 e3 i4 ?_
 have hgT:Good (ay (ay o' (nx'+3) (.row [.ax, .ax, .ax, .ax, .ax, .d .dL])) (nx'+3) (.row (s.row++[.mp id]))) (nx'+11):=by
  refine Good.ay (Good.ay (i2.mono af) af rfl) af ?_
  simp[ad.refs,V.aL,V.refs]
  omega
 refine bX (YT h va vc hf _ _ hgT VI bk (On h va vc hf xZ) _ _ (fun h5 o2 n2 g1 g2 g3=> ?_) (fun h0 hb o2 n2 g1 g2 g3=> ?_) (fun h0 E hE hb o2 n2 vb mid g1 g2 g3 g4 g7 g8=> ?_))
 ·have f3:o2 3= .row [.ax, .ax, .ax, .ax, .ax]:=(g3 _ af).trans IP
  have f8:o2 (nx'+3)= .row (s.row++[.mp id]):=(g3 _ af).trans cg
  have k3:(3:Nat)≠nx'+3:=af
  have w1:im e (s.aI.any bk)=e:=by unfold im;rw[if_neg (by omega)]
  have w2:e≠0:=af
  have w3:(e !=0)=true:=by rw[bne_iff_ne];exact w2
  rw[w1,if_neg w2]
  simp+contextual (disch:=first|omega|simp only[go_sem,false_implies]) only[go_sem,wrap64,if_pos,Nat.add_assoc,Nat.left_eq_add,Nat.add_eq_left,Nat.add_left_cancel_iff,f3,f8,k3,w3,oO]
 ·have f3:o2 3= .row [.ax, .ax, .ax, .ax, .ax]:=(g3 _ af).trans IP
  have f8:o2 (nx'+3)= .row (s.row++[.mp id]):=(g3 _ af).trans cg
  have k3:(3:Nat)≠nx'+3:=af
  have w1:im e (s.aI.any bk)=5:=by unfold im;rw[if_pos h0,if_pos hb]
  rw[w1]
  simp+contextual (disch:=first|omega|simp only[go_sem,false_implies]) only[go_sem,wrap64,if_pos,Nat.add_assoc,Nat.left_eq_add,Nat.add_eq_left,Nat.add_left_cancel_iff,f3,f8,k3,oO]
 ·have f3:o2 3= .row [.ax, .ax, .ax, .ax, .ax]:=(g3 _ af).trans IP
  have f8:o2 (nx'+3)= .row (s.row++[.mp id]):=(g3 _ af).trans cg
  have k3:(3:Nat)≠nx'+3:=af
  have w1:im e (s.aI.any bk)=0:=by unfold im;rw[if_pos h0,if_neg (by rw[hb];exact Bool.false_ne_true)]
  have hB:iz s.sig (s.binds++E):=zL h va vc (h0 ▸ hf) hE
  have aeW:mid<n2:=g2.lt (by rw[g8];exact ad.noConfusion)
  rw[w1,if_pos rfl]
  have RD:(s.tell b').Cp:=by rw[hE];exact bU.RC h hB
  have OY:(s.tell b').binds=s.binds++E:=by show xY b'=_;rw[hE,oP]
  have fin:∀ (o3:Nat->ad) (n3 i j k:Nat),n2<=n3->(∀q,q<n2->q≠nx'+3->(q<nx'+11)->o3 q=o2 q)->o3 i= .arr 0 59 4 ((s.tell b').binds.map TB.d)->o3 j= .arr 0 101 6 ((s.tell b').aI.map Nt.d)->o3 k= .arr 0 77 2 ((s.tell b').marks.map tj)->o3 3= .row [.ax, .ax, .ax, .ax, .ax]/\i≠3/\j≠3/\k≠3:=fun o3 n3 i j k q1 q2 q3 q4 q5=>by
   have e3:o3 3= .row [.ax, .ax, .ax, .ax, .ax]:=by rw[q2 3 (by omega) (by omega) (by omega),f3]
   exact⟨e3,fun e=>(by subst e;rw[q3]at e3;cases e3),fun e=>(by subst e;rw[q4]at e3;cases e3),fun e=>(by subst e;rw[q5]at e3;cases e3)⟩
  rcases g4 with rfl|⟨lb,rfl,l1,l2,l3⟩
  ·refine aan f3 f8 ?_
   refine gG (zK (s.tell b') RD b' _ _ mid _ ?_ Sk (by rw[OY];rfl) _ _ (fun o3 n3 i j k m1 m2 m3 m4 m5 m6=> ?_))
   ·refine Good.ay (g2.mono af) af ?_
    simp[ad.refs,V.aL,V.refs]
    omega
   obtain⟨z1,z2,z3,z4⟩:=fin o3 n3 i j k af (fun q q1 q2 q3=>by rw[m3 q (by omega) (by simp[V.ids]) (by omega)];(repeat(first|rfl|rw[aa]|rw[ae _ _ _ _ (by omega)]))) m4 m5 m6
   exact Pp z1 z2 z3 z4 m4 m5 m6
  ·have y1:lb≠nx'+3:=af
   refine aan f3 f8 ?_
   refine gG (zK (s.tell b') RD b' _ _ mid _ ?_ Sk (by rw[OY];simp+contextual (disch:=first|omega|simp only[go_sem,false_implies]) only[go_sem,wrap64,if_pos,l3,y1]) _ _ (fun o3 n3 i j k m1 m2 m3 m4 m5 m6=> ?_))
   ·refine Good.ay (g2.mono af) af ?_
    simp[ad.refs,V.aL,V.refs]
    omega
   obtain⟨z1,z2,z3,z4⟩:=fin o3 n3 i j k af (fun q q1 q2 q3=>by rw[m3 q (by omega) (by simp[V.ids];omega) (by omega)];(repeat(first|rfl|rw[aa]|rw[ae _ _ _ _ (by omega)]))) m4 m5 m6
   exact Pp z1 z2 z3 z4 m4 m5 m6
end Go.Proofs.YtlhemmpklhhgoaaGreat
set_option maxHeartbeats 8000000
namespace Go.Proofs.YtlhemmpklhhgoaaGreat
def Gq(o:Nat->ad)(x m c:Nat)(E:List TB):Nat->ad:=ay (ay (ay o x (.row [.mp m, .osl c 0, .d (.bool false)])) m (dt (ag E))) c (.arr 0 59 4 (E.map TB.d))
section
variable {o:Nat->ad}{x m nx:Nat}{E:List TB}(lx:x<nx)(lm:m<nx)(cf:x≠m)
include lx lm cf
theorem Vk:Gq o x m nx E x= .row [.mp m, .osl nx 0, .d (.bool false)]:=VD
theorem Vl:Gq o x m nx E m=dt (ag E):=VD
theorem Vm:Gq o x m nx E nx= .arr 0 59 4 (E.map TB.d):=VD
omit lx lm cf in
theorem oq{j:Nat}(h1:j≠x)(h2:j≠m)(h3:j≠nx):Gq o x m nx E j=o j:=by unfold Gq;(repeat(first|rfl|rw[aa]|rw[ae _ _ _ _ (by omega)]))
theorem Oq(hg:Good o nx):Good (Gq o x m nx E) (nx+1):=by
 have _:=cf
 unfold Gq
 refine Good.ay (Good.ay (Good.ay (hg.mono af) af ?_) af rfl) af rfl
 simp[ad.refs,V.aL,V.refs]
 omega
theorem Ot(gone:Nat->Prop)(xl:V)(l:List V)(hg:Good o nx)(sT:∀id,gone id->nx<=id){e:Nat->V}{so:Nat->ad}{k:Nat}(gl:fN so gone 59 4 (E.map TB.d) xl)
 (sx:so x= .row [.mp m,xl, .d (.bool false)]) (sm:so m=dt (ag E)) (h:∀j,j<nx->j≠x->j≠m->so j=o j) (he:iP nx [⟨xl,59,4,E.map TB.d⟩] so gone e l 0):bL nx ⟨e,so,k⟩ ⟨aX l,Gq o x m nx E,nx+1⟩:=by
 refine bL.uD gone xl nx l (Nat.le_refl _) (fun j hj=> ?_) (Vm lx lm cf) gl (fun j hj=> ?_) (fun j h1 h2=>absurd (sT j h1) af) he
 ·by_cases e1:j=x
  ·subst e1
   rw[Vk lx lm cf]
   exact aaY
  ·by_cases e2:j=m
   ·subst e2
    rw[Vl lx lm cf]
    exact bn sm (fun r hr=>by simp[ad.refs]at hr)
   ·rw[oq e1 e2 (by omega),h j hj e1 e2]
    exact bn rfl (fun r hr=>hg.refs j r hr)
 ·rw[oq (by omega) (by omega) (by omega)]
  exact BX
end
theorem RE{s:az}{ps:List (Tm×Tm)}(Ft:∀p∈ps,QT s p.1/\QT s p.2)(hlen:ps.length<=1000){f:Nat}{e:Int}{b':List (Int×Tm)}(hf:l8 (jl false f) (ps.map (·.1)) (ps.map (·.2)) []=some (e,b')){lb xb x m:Nat}(o:Nat->ad)(nx:Nat)(hg:Good o nx)
 (hl:o lb= .row [.d (.sl (ps.map xc))]) (RF:o xb= .row [.ptr x 0]) (hx:o x= .row [.mp m, .ax, .d (.bool false)]) (hm:o m=dt []) (K X:V->(Nat->ad)->Nat->Prop)
 (aY:e=0->qp s b'->∀ (o':Nat->ad) (nx' l:Nat),nx<=nx'->l<nx'->Good o' nx'->o' x= .row [.mp m, .osl l 0, .d (.bool false)]->o' m=dt b'->(∀j,j<nx->j≠x->j≠m->o' j=o j)->K (.bY []) o' nx')
 (mP:e≠0->∀v o' nx',v= .d (.iface 162 (.agg []))\/v= .d (.iface 163 (.agg []))->nx<=nx'->Good o' nx'->(∀j,j<nx->j≠x->j≠m->o' j=o j)->X v o' nx'):
 bP Tryz.prog 109 [.ptr lb 0, .ptr xb 0] o nx K X:=by
 have lx:x<nx:=hg.lt LG
 have lm:m<nx:=hg.lt Gv
 have llb:lb<nx:=hg.lt (by rw[hl];exact ad.noConfusion)
 have lxb:xb<nx:=hg.lt (by rw[RF];exact ad.noConfusion)
 have cf:x≠m:=fun e=>by subst e;rw[hx]at hm;cases hm
 have d1:lb≠x:=fun e=>by subst e;rw[hx]at hl;cases hl
 have d2:lb≠m:=fun e=>by subst e;rw[hm]at hl;cases hl
 have d3:xb≠x:=fun e=>by subst e;rw[hx]at RF;cases RF
 have d4:xb≠m:=fun e=>by subst e;rw[hm]at RF;cases RF
 refine bP.aG mix Um aE ?_
 rw[Xz]
 refine aaj hl RF hx hm ?_
 refine aD (fun i:Nat×List TB=>⟨aX [.ptr lb 0, .ptr xb 0, .ab, .ab, .d (.sl (ps.map xc)), .d (.i ps.length), .d (.i i.1)],Gq o x m nx i.2,nx+1⟩)
  (fun i=>i.1<=ps.length/\l8 (jl false f) ((ps.drop i.1).map (·.1)) ((ps.drop i.1).map (·.2)) (ag i.2)=some (e,b')/\qp s (ag i.2)) (fun i=>ps.length - i.1) (0,[]) ⟨Nat.zero_le _,hf,qp.nil⟩ ?_ ?_
 ·refine Ot lx lm cf (fun _=>False) .ax _ hg (fun _ h=>h.elim) (.inl ⟨rfl,rfl,bF⟩) hx hm (fun j j1 j2 j3=>rfl) ?_
  exact jH
 rintro⟨k,E⟩ ⟨hk,hL,hA⟩
 dsimp only at hk hL hA|-
 have ahd:=hA.len
 have q1:Gq o x m nx E lb= .row [.d (.sl (ps.map xc))]:=by rw[oq d1 d2 (by omega),hl]
 have q2:Gq o x m nx E xb= .row [.ptr x 0]:=by rw[oq d3 d4 (by omega),RF]
 have q3:=Vk (o:=o) (E:=E) lx lm cf
 have q4:=Vl (o:=o) (E:=E) lx lm cf
 have q5:=Vm (o:=o) (E:=E) lx lm cf
 have hgU:=Oq (o:=o) (E:=E) lx lm cf hg
 refine Ey ?_
 refine ak (fun h6=> ?_) (fun h6=> ?_)
 ·replace h6:k<ps.length:=by simp at h6;omega
  obtain⟨⟨a,c⟩,hp⟩:=aB h6
  obtain⟨ha,hc⟩:=Ft _ (List.mem_of_getElem? hp)
  have FX:ps.drop k=(a,c)::ps.drop (k+1):=by
   obtain⟨i1,i2⟩:=List.getElem?_eq_some_iff.1 hp
   exact IW
  rw[FX]at hL
  simp only[List.map_cons,l8]at hL
  cases hq:jl false f a c (ag E)with
  |none=>rw[hq]at hL;cases hL
  |some q=>
  obtain⟨e1,b1⟩:=q
  rw[hq]at hL
  dsimp only at hL
  simp+contextual (disch:=first|omega|simp only[go_sem,false_implies]) only[go_sem,wrap64,if_pos,hp,q1,q2,q3,q4,q5,Nat.add_assoc,Nat.left_eq_add,Nat.add_eq_left,Nat.add_left_cancel_iff,List.length_map]
  have si:Good (ay (ay (Gq o x m nx E) (nx+4) (.row [.d (.i 0), .d (.i 0), .ax, .d (.i 0), .d (.i 0), .ax])) (nx+4) (.row [.d (.i a.op), .d (.i a.n), .d (.sl (a.kids.map Tm.d)), .d (.i c.op), .d (.i c.n), .d (.sl (c.kids.map Tm.d))])) (nx+11):=
   Good.ay (Good.ay (hgU.mono af) af rfl) af rfl
  refine aT (xe hA ha hc (L:=E) af hq (x:=x) (m:=m) (xl:= .osl nx 0) _ (ay (ay (ay (Gq o x m nx E) (nx+4) (.row [.d (.i 0), .d (.i 0), .ax, .d (.i 0), .d (.i 0), .ax])) (nx+4) (.row [.d (.i a.op), .d (.i a.n), .d (.sl (a.kids.map Tm.d)), .d (.i c.op), .d (.i c.n), .d (.sl (c.kids.map Tm.d))])) nx .no) _ (fun j=>j=nx) si (si.ay af rfl) VH Sh (.inr ⟨nx,0,rfl,rfl,by(repeat(first|rfl|rw[aa]|rw[ae _ _ _ _ (by omega)]));exact q5⟩) (fun j e=>by subst e;exact⟨af,af,af,aa _ _ _⟩) (fun j hj=> ?_) _ _ (fun h0 E' hE o' nx' h1 h2 h3 h4=> ?_) (fun h5 o' nx' h1 h2 h4=> ?_) (fun h3 o' nx' h1 h2 h4=> ?_))
  ·by_cases e:j=nx
   ·subst e;exact .inl (aa _ _ _)
   ·exact .inr (ae _ _ _ _ e).symm
  ·have hA':=(xa f a c _ b1 (h0 ▸ hq) hA ha hc).1
   have Rz:b1=ag (E++E'):=by rw[hE,dS]
   rw[if_pos h0,Rz]at hL
   rw[Rz]at hA'
   refine fY ?_
   refine aj (k+1,E++E') ⟨h6,hL,hA'⟩ kV (Ot lx lm cf (fun j=>j=nx+18) (.osl (nx+18) 0) _ hg (fun j e=>af) (.inr ⟨nx+18,0,rfl,rfl,h3.Ub⟩) h3.row (by rw[<- Rz];exact h3.map) (fun j j1 j2 j3=> ?_) ?_)
   ·rw[h4 j (by omega) j2 j3]
    (repeat(first|rfl|rw[aa]|rw[ae _ _ _ _ (by omega)]))
    exact oq j2 j3 af
   ·exact jH
  ·rw[if_neg (by omega)]at hL
   injection hL with hL
   injection hL with hL1 hL2
   refine fY ?_
   refine mP af _ _ _ (.inl rfl) af h2 (fun j j1 j2 j3=> ?_)
   rw[h4 j (by omega) j2 j3]
   (repeat(first|rfl|rw[aa]|rw[ae _ _ _ _ (by omega)]))
   exact oq j2 j3 af
  ·rw[if_neg (by omega)]at hL
   injection hL with hL
   injection hL with hL1 hL2
   refine fY ?_
   refine mP af _ _ _ (.inr rfl) af h2 (fun j j1 j2 j3=> ?_)
   rw[h4 j (by omega) j2 j3]
   (repeat(first|rfl|rw[aa]|rw[ae _ _ _ _ (by omega)]))
   exact oq j2 j3 af
 ·replace h6:k=ps.length:=by simp at h6;omega
  subst h6
  rw[List.drop_length]at hL
  simp only[List.map_nil,l8]at hL
  injection hL with hL
  injection hL with hL1 hL2
  subst hL2
  refine fY ?_
  refine aY hL1.symm hA _ _ nx ?_ ?_ ?_ q3 q4 (fun j j1 j2 j3=>oq j2 j3 af)
  ·omega
  ·omega
  ·exact hgU.mono af
theorem Ou{s:az}{b:List (Int×Tm)}{l:List TB}{ρ:Int->Nat}{R:Nat}(h:kn s b l ρ R)(hl:iq s l):c9 (b.map (·.1))=l.map (·.var):=by
 have hp:(c9 (b.map (·.1))).Perm (b.map (·.1)):=List.mergeSort_perm _ _
 have hs:(c9 (b.map (·.1))).Pairwise (fun a b=>decide (a<=b)=true):=List.pairwise_mergeSort (fun a b c h1 h2=>by simp at*;omega) (fun a b=>by simp;omega) _
 have Ar:(c9 (b.map (·.1))).Nodup:=hp.nodup_iff.2 h.keys
 refine Nw ((hs.and Ar).imp fun {a b} h=>by have:=h.1;have:=h.2;simp at*;omega) (List.pairwise_map.2 hl.srt) fun v=> ?_
 have e:=h.xC v
 rw[lS,lS]at e
 have e2:(ag l).map (·.1)=l.map (·.var):=by unfold ag;rw[List.map_map];rfl
 rw[e2]at e
 rw[hp.mem_iff]
 exact Decidable.not_iff_not.1 e
theorem Ov{s:az}{l:List TB}(hl:iq s l):((ag l).map (·.1)).Nodup:=by
 have e2:(ag l).map (·.1)=l.map (·.var):=by unfold ag;rw[List.map_map];rfl
 rw[e2]
 exact(List.pairwise_map.2 hl.srt).imp fun h=>af
theorem Ow{s:az}{b:List (Int×Tm)}{l:List TB}{ρ:Int->Nat}{R:Nat}(h:kn s b l ρ R)(hl:iq s l){k:Nat}{y:TB}(hy:l[k]? =some y):∃x f,bQ b y.var=some x/\u5 f b x=some y.term/\Vs s x:=by
 have hm:=List.mem_of_getElem? hy
 have h1:bQ (ag l) y.var=some y.term:=(fW (Ov hl)).2 (ez hm)
 cases hx:bQ b y.var with
 |none=>rw[(h.xC _).1 hx]at h1;cases h1
 |some x=>
  obtain⟨q1,q2,_⟩:=h.ok _ _ hx
  have e:y.term=aR (ag l) x:=by rw[<- q2];simp[Lv,h1]
  exact⟨x,_,rfl,by rw[e];exact pB h _ x q1 (Nat.le_refl _),q1⟩
theorem Tm.RG:∀t:Tm,t.gN->t.wid:=by
 refine Tm.ek fun t ih h=> ?_
 have h':=(Tm.ik t).1 h
 rw[Tm.Bi]
 exact⟨af,fun k hk=>ih k hk (h'.2 k hk)⟩
def Pc(l c:Nat)(b:List (Int×Tm))(L:List TB):Nat->ad:=ay (ay (ay (ay (fun _=> .no) 3 (.cc (enc (D.int .i64) (kA b)))) 5 (.row [.mp 3, .osl l 0, .d (.bool false)])) 6 (.row [.ptr 5 0])) c (.arr 0 59 4 (L.map TB.d))
theorem Ox{l c:Nat}{b:List (Int×Tm)}{L:List TB}(hc:6<c):Pc l c b L 3= .cc (enc (D.int .i64) (kA b))/\Pc l c b L 5= .row [.mp 3, .osl l 0, .d (.bool false)]/\Pc l c b L 6= .row [.ptr 5 0]/\Pc l c b L c= .arr 0 59 4 (L.map TB.d):=by
 unfold Pc
 exact⟨by(repeat(first|rfl|rw[aa]|rw[ae _ _ _ _ (by omega)])),by(repeat(first|rfl|rw[aa]|rw[ae _ _ _ _ (by omega)])),by(repeat(first|rfl|rw[aa]|rw[ae _ _ _ _ (by omega)])),by(repeat(first|rfl|rw[aa]|rw[ae _ _ _ _ (by omega)]))⟩
theorem Oy(gone:Nat->Prop)(x:V)(env:List V){l c:Nat}{b:List (Int×Tm)}{L:List TB}(hc:6<c)(hl:l<c)(sT:∀id,gone id->c<=id){e:Nat->V}{so:Nat->ad}{m:Nat}(gx:fN so gone 59 4 (L.map TB.d) x)
 (s3:so 3= .cc (enc (D.int .i64) (kA b))) (s5:so 5= .row [.mp 3, .osl l 0, .d (.bool false)]) (s6:so 6= .row [.ptr 5 0]) (he:iP c [⟨x,59,4,L.map TB.d⟩] so gone e env 0):bL 0 ⟨e,so,m⟩ ⟨aX env,Pc l c b L,c+1⟩:=by
 obtain⟨g3,g5,g6,gc⟩:=Ox (l:=l) (b:=b) (L:=L) hc
 refine bL.uD gone x c env af (fun j hj=> ?_) gc gx (fun j hj=> ?_) (fun j h1 h2=>absurd (sT j h1) af) he
 ·by_cases e3:j=3
  ·subst e3;rw[s3,g3];exact bn rfl (fun r hr=>by simp[ad.refs]at hr)
  by_cases e5:j=5
  ·subst e5;rw[s5,g5];exact bn rfl (fun r hr=>by simp[ad.refs,V.aL,V.refs]at hr;omega)
  by_cases e6:j=6
  ·subst e6;rw[s6,g6];exact bn rfl (fun r hr=>by simp[ad.refs,V.aL,V.refs]at hr;omega)
  have:Pc l c b L j= .no:=by unfold Pc;(repeat(first|rfl|rw[aa]|rw[ae _ _ _ _ (by omega)]))
  rw[this];exact js
 ·unfold Pc
  exact cg
theorem zM{s:az}{ps:List (Tm×Tm)}(Ft:∀p∈ps,QT s p.1/\QT s p.2)(hlen:ps.length<=1000){f:Nat}{e:Int}{b':List (Int×Tm)}(hf:l8 (jl false f) (ps.map (·.1)) (ps.map (·.2)) []=some (e,b')){l':List TB}{ρ:Int->Nat}{R:Nat}(hS:e=0->kn s b' l' ρ R/\iq s l'/\∀x∈l',x.term.gN):
 aW Tryz.prog 67 [.sl (ps.map xc)] (.ret [.sl (if e=0 then l'.map TB.d else []), .bool (e==0)]):=by
 refine aW.aG mix adg aE ?_
 rw[c67]
 refine fY ?_
 refine aT (zJ _ _ _ _ ?_ _ _ (RE Ft hlen hf (lb:=0) (xb:=6) (x:=5) (m:=3) _ _ ?_ cg cg cg cg _ _ (fun h0 hA o1 n1 l g1 g2 g3 g4 g5 g6=>⟨af,g3, ?_,fun o2 n2 k1 k2 k3=> ?_⟩) (fun iu v o1 n1 hv g1 g3 g6=> ?_)))
 ·exact dh
 ·exact dh
 ·rw[g6 _ (by omega) (by omega) (by omega)];(repeat(first|rfl|rw[aa]|rw[ae _ _ _ _ (by omega)]))
 ·have f5:o2 5= .row [.mp 3, .osl l 0, .d (.bool false)]:=by rw[k3 _ (by omega) (by omega)];exact g4
  have f3:o2 3=dt b':=by rw[k3 _ (by omega) (by omega)];exact g5
  have f6:o2 6= .row [.ptr 5 0]:=by rw[k3 _ (by omega) (by omega),g6 _ (by omega) (by omega) (by omega)];(repeat(first|rfl|rw[aa]|rw[ae _ _ _ _ (by omega)]))
  obtain⟨aeX,aeY,hfw⟩:=hS h0
  have ahs:b'.length<=20:=by
   have:=DU hA.keys fun v hv=>by
    obtain⟨p,hp,rfl⟩:=List.mem_map.1 hv
    exact(hA.ok p hp).1
   rwa [List.length_map]at this
  have Vn:=Ou aeX aeY
  have ahz:l'.length<=20:=by
   have e1:=congrArg List.length Vn
   unfold c9 at e1
   rw[List.length_mergeSort,List.length_map,List.length_map]at e1
   omega
  refine Vw f5 f3 f6 ?_
  refine bX (bP.FO (id:=3) f3 af (RA 3 _ _ _ _ ?_))
  refine fY ?_
  refine aT (bP.seal (Om (b:=b') af (p:=n2+8) (m:=3) _ _ ?_ cg cg _ _ (fun o3 n3 id ep m1 m2 m3 m4 m5=>⟨.sl ((l'.map (·.var)).map .i), ?_, ?_⟩)))
  ·refine Good.ay (Good.ay (k2.mono af) af rfl) af ?_
   exact uf
  ·rw[Vn]at m5
   exact zS m5
  have F:∀j,j<n2+8->put o3 (bG o3 [id]) j=ay (ay o2 3 (.cc (enc (D.int .i64) (kA b')))) (n2+8) (.row [.mp 3]) j:=fun j hj=>by
   rw[Bp _ _ _ (fun y hy=> ?_),m4 j (by omega)]
   simp[bG]at hy
   subst hy
   dsimp only
   omega
  have F5:put o3 (bG o3 [id]) 5= .row [.mp 3, .osl l 0, .d (.bool false)]:=by rw[F 5 (by omega)];(repeat(first|rfl|rw[aa]|rw[ae _ _ _ _ (by omega)]));exact f5
  have F3:put o3 (bG o3 [id]) 3= .cc (enc (D.int .i64) (kA b')):=by rw[F 3 (by omega)];(repeat(first|rfl|rw[aa]|rw[ae _ _ _ _ (by omega)]))
  have F6:put o3 (bG o3 [id]) 6= .row [.ptr 5 0]:=by rw[F 6 (by omega)];(repeat(first|rfl|rw[aa]|rw[ae _ _ _ _ (by omega)]));exact f6
  have hGO:=xo m3 [id]
  have YU:l<n3:=af
  clear F
  simp only[V.ids]
  generalize put o3 (bG o3 [id])=O at F5 F3 F6 hGO|-
  simp+contextual (disch:=first|omega|simp only[go_sem,false_implies]) only[go_sem,wrap64,if_pos,F5,F3,F6,Nat.add_assoc,Nat.left_eq_add,Nat.add_eq_left,Nat.add_left_cancel_iff,List.length_map]
  refine aD (fun k:Nat=>⟨aX [.ab, .ab, .ab, .ab, .ptr 6 0, .ab, .osl n3 0, .ab, .ab, .ab, .ab, .ab, .ab, .ab, .ab, .ab, .ab, .ab, .ab, .ab, .ab, .d (.sl ((l'.map (·.var)).map .i)), .d (.i l'.length), .d (.i k)],Pc l n3 b' (l'.take k),n3+1⟩)
   (fun k=>k<=l'.length) (fun k=>l'.length - k) 0 (Nat.zero_le _) (Oy (fun _=>False) .ax _ af YU (fun _ h=>h.elim) (.inl ⟨rfl,rfl,bF⟩) F3 F5 F6 ?_) (fun k hk=> ?_)
  ·exact jH
  replace hk:k<=l'.length:=hk
  obtain⟨g3,g5,g6',gc⟩:=Ox (l:=l) (c:=n3) (b:=b') (L:=l'.take k) af
  refine aaj g3 g5 g6' gc ?_
  refine ak (fun h6=> ?_) (fun h6=> ?_)
  ·replace h6:k<l'.length:=by simp at h6;omega
   obtain⟨y,hy⟩:=aB h6
   obtain⟨x,fx,x1,x2,x3⟩:=Ow aeX aeY hy
   have sb:l'.take (k+1)=l'.take k++[y]:=by rw[List.take_add_one,hy];rfl
   have e0:(l'.take k).length=k:=by rw[List.length_take];omega
   have dV:k<=140737488355327/\(k+1)*48<=140737488355328:=af
   obtain⟨jx,hjx⟩:=fX x1
   refine aai g3 g5 g6' gc hy hjx ?_
   refine bC (FZ (fun p hp=>(hA.ok p hp).2.fits) fx x y.term (hA.ok _ (ck x1)).2.fits x2 (Tm.RG _ (hfw y (List.mem_of_getElem? hy)))) ?_
   refine aai g3 g5 g6' gc e0 dV ?_
   refine aK (bD (ids:=[6,5,3,n3,n3+19]) (nx:=n3+22) (by simp<;>omega) (by simp<;>omega) [([],[]),([],[]),([0],[]),([1],[]),([1],[]),([1],[]),([0],[]),([1],[]),([1],[]),([1],[]),([],[]),([2],[]),([2],[2]),([],[]),([],[4]),([3,4],[3]),([],[])] bF) ?_
   refine fY ?_
   refine aj (k+1) h6 af (Oy (fun j=>n3<=j) (.osl n3 1) _ af YU (fun _ h=>h) (.inr ⟨n3,1,Nat.le_refl _,rfl,by(repeat(first|rfl|rw[aa]|rw[ae _ _ _ _ (by omega)]));rw[sb,List.map_append];rfl⟩) cg (by(repeat(first|rfl|rw[aa]|rw[ae _ _ _ _ (by omega)]));exact g5) (by(repeat(first|rfl|rw[aa]|rw[ae _ _ _ _ (by omega)]));exact g6') ?_)
   exact jH
  ·replace h6:k=l'.length:=by simp at h6;omega
   subst h6
   rw[List.take_length]at g3 g5 g6' gc|-
   rw[if_pos h0]
   subst h0
   simp+contextual (disch:=first|omega|simp only[go_sem,false_implies]) only[go_sem,wrap64,if_pos,g3,g5,g6',gc,Nat.add_assoc,Nat.left_eq_add,Nat.add_eq_left,Nat.add_left_cancel_iff]
 ·have ee:(e==0)=false:=by rw[beq_eq_false_iff_ne];exact iu
  rw[if_neg iu,ee]
  rcases hv with rfl|rfl
  ·refine .inl ⟨rfl,af,g3,by rw[g6 _ (by omega) (by omega) (by omega)];(repeat(first|rfl|rw[aa]|rw[ae _ _ _ _ (by omega)])),fun o2 n2 k1 k2 k3=> ?_⟩
   exact Vx
  ·refine .inr ⟨rfl,af,g3,by rw[g6 _ (by omega) (by omega) (by omega)];(repeat(first|rfl|rw[aa]|rw[ae _ _ _ _ (by omega)])),fun o2 n2 k1 k2 k3=> ?_⟩
   exact Vx
end Go.Proofs.YtlhemmpklhhgoaaGreat
namespace Go.Proofs.YtlhemmpklhhgoaaGreat
theorem Ik(v:Int):(Tm.mk 1 v []).gN:=by rw[Tm.ik];simp[Tm.kids]
theorem mN{l:List TB}(h:∀x∈l,x.term.gN):∀p∈ag l,p.2.gN:=fun p hp=>by
 obtain⟨x,hx,rfl⟩:=List.mem_map.1 hp
 exact h x hx
theorem xp{l:List TB}{n:Int}{t:Tm}(hl:∀x∈l,x.term.gN)(ht:t.gN):∀x∈iy l n t,x.term.gN:=fun x hx=>by
 rcases uX.1 hx with rfl|hx
 ·exact ht
 ·obtain⟨y,hy,rfl⟩:=List.mem_map.1 hx
  exact Tm.oi (fun p hp=>by simp[xV]at hp;subst hp;exact ht) _ (hl y hy)
theorem Il:∀ (f:Nat) (a c:Tm) (l:List TB) (r:List TB×Bool),fP f a c l=some r->a.gN->c.gN->(∀x∈l,x.term.gN)->∀x∈r.1,x.term.gN
 |0,_,_,_,_,h,_,_,_=>by cases h
 |f+1,a,c,l,r,h,ha,hc,hl=>by
  have fa:=Tm.oi (mN hl) a ha
  have fc:=Tm.oi (mN hl) c hc
  simp only[fP]at h
  generalize aR (ag l) a=a0 at*
  generalize aR (ag l) c=c0 at*
  split at h
  ·injection h with h;subst h;exact hl
  ·split at h
   ·injection h with h;subst h;exact xp hl (Ik _)
   ·split at h
    ·injection h with h;subst h;exact xp hl fc
    ·split at h
     ·injection h with h;subst h;exact xp hl fa
     ·split at h
      ·injection h with h;subst h;intro x hx;cases hx
      ·have key:∀ (ks cE:List Tm) (l:List TB),(∀k∈ks,k.gN)->(∀k∈cE,k.gN)->(∀x∈l,x.term.gN)->da (fP f) ks cE l=some r->∀x∈r.1,x.term.gN:=by
        intro ks
        induction ks with
        |nil=>intro cE l _ _ hl h;simp only[da]at h;injection h with h;subst h;exact hl
        |cons k ks uF=>
         intro cE l m1 m2 hl h
         cases cE with
         |nil=>simp only[da]at h;injection h with h;subst h;exact hl
         |cons k' cE=>
          simp only[da]at h
          cases e:fP f k k' l with
          |none=>rw[e]at h;cases h
          |some r1=>
           have h1:=Il f k k' l r1 e (m1 k aE) (m2 k' aE) hl
           obtain⟨l1,ok⟩:=r1
           rw[e]at h
           cases ok with
           |false=>simp only at h;injection h with h;subst h;exact h1
           |true=>exact uF cE l1 (fun y hy=>m1 y lD) (fun y hy=>m2 y lD) h1 h
       exact key _ _ l ((Tm.ik _).1 fa).2 ((Tm.ik _).1 fc).2 hl h
end Go.Proofs.YtlhemmpklhhgoaaGreat
set_option maxHeartbeats 8000000
namespace Go.Proofs.YtlhemmpklhhgoaaGreat
theorem YV{s:az}{b:List (Int×Tm)}{l:List TB}{ρ:Int->Nat}{R:Nat}(h:kn s b l ρ R)(hl:iq s l)(hf:∀p∈b,zB b p.2):∀y∈l,y.term.sz<=40:=fun y hm=>by
 have h1:bQ (ag l) y.var=some y.term:=(fW (Ov hl)).2 (ez hm)
 cases hx:bQ b y.var with
 |none=>rw[(h.xC _).1 hx]at h1;cases h1
 |some x=>
  obtain⟨q1,q2,_⟩:=h.ok _ _ hx
  have e:y.term=aR (ag l) x:=by rw[<- q2];simp[Lv,h1]
  rw[e]
  exact F2 h q1 (hf _ (ck hx))
theorem Im{s:az}{b:List (Int×Tm)}{l:List TB}{ρ:Int->Nat}{R:Nat}(h:kn s b l ρ R)(hl:iq s l)(hf:∀p∈b,zB b p.2){t:Tm}(ht:bJ s t=true):Vs s (aR (ag l) t)/\(aR (ag l) t).gN/\(aR (ag l) t).sz<=1600:=by
 obtain⟨h1,h2,_⟩:=bz ht
 refine⟨Vs.sub hl.bd t h1,Tm.oi (mN fun x hx=>Tm.F9 _ (by have:=YV h hl hf x hx;omega)) t (il ht), ?_⟩
 have:=mK h hf h1
 omega
theorem RH{s:az}{x y:Tm}(hx:Vs s x/\x.gN/\x.sz<=1600)(hy:Vs s y/\y.gN/\y.sz<=1600){f:Nat}{r:List TB×Bool}(h:fP f x y []=some r):
 aW Tryz.prog 67 [.sl [xc (x,y)]] (.ret [.sl (if r.2=true then r.1.map TB.d else []), .bool r.2]):=by
 obtain⟨g,e,b',h1,h2⟩:=Bk (lim:=false) f x y [] r h iq.nil hx.1 hy.1 x y [] _ _ kn.nil hx.1 hy.1 rfl rfl
 have hL:l8 (jl false g) (([(x,y)]:List (Tm×Tm)).map (·.1)) (([(x,y)]:List (Tm×Tm)).map (·.2)) []=some (e,b'):=by
  simp only[List.map_cons,List.map_nil,l8,h1]
  by_cases e0:e=0
  ·rw[if_pos e0,e0]
  ·rw[if_neg e0]
 have hq:∀p∈([(x,y)]:List (Tm×Tm)),QT s p.1/\QT s p.2:=fun p hp=>by
  simp at hp
  subst hp
  exact⟨⟨hx.1,by have:=hx.2.2;dsimp only;omega⟩,⟨hy.1,by have:=hy.2.2;dsimp only;omega⟩⟩
 rcases h2 with⟨rfl,h3,NI,R',hS⟩|⟨rfl,h3⟩|⟨_,h3⟩
 ·have hr:r=(r.1,true):=by rw[<- h3]
  have ahe:=(od f x y [] r.1 (by rw[h,hr]) iq.nil hx.1 hy.1).1
  have:=zM hq aE hL (l':=r.1) (ρ:=NI) (R:=R') (fun _=>⟨hS,ahe,Il f x y [] r h hx.2.1 hy.2.1 (fun _ h=>by cases h)⟩)
  rw[h3,if_pos rfl]
  exact this
 ·have:=zM hq aE hL (l':=[]) (ρ:=fun _=>0) (R:=0) (fun h=>absurd h bF)
  rw[h3,if_neg (by decide)]
  exact this
 ·cases h3
theorem RI(l:List Nt)(hl:l.length<=1000):O4 Tryz.prog 69 [.sl (l.map Nt.d)] (.pb (l.map Nt.d)):=by
 refine O4.la rfl ?_
 refine bP.aG mix adi aE ?_
 rw[c69]
 have hc:((l.map Nt.d).all fun z=>z.cells.length==6)=true:=by
  rw[List.all_eq_true]
  intro z hz
  obtain⟨r,_,rfl⟩:=List.mem_map.1 hz
  rfl
 have hk:(l.map Nt.d).take l.length=l.map Nt.d:=List.take_of_length_le aE
 exact aao hk
theorem Gi(s:bU)(hs:s.Cp)(b:List (Int×Tm))(o:Nat->ad)(nx id lb:Nat)(hg:Good o nx)(aw:o id= .cc (enc (D.int .i64) (kA b)))(LY:o lb= .arr 0 101 6 (s.aI.map Nt.d))(K X:V->(Nat->ad)->Nat->Prop)
 (xf:∀o' nx' i j k,nx<=nx'->Good o' nx'->(∀j,j<nx->j≠lb->o' j=o j)->
  o' i= .arr 0 59 4 (s.binds.map TB.d)->o' j= .arr 0 101 6 (s.aI.map Nt.d)->o' k= .arr 0 77 2 (s.marks.map tj)->
  K (.agg [.d (.sl (s.sig.cons.map dX.d)), .d (.sl (s.sig.bZ.map dX.d)), .osl i 0, .osl j 0, .osl k 0]) o' nx'):
 bP Tryz.prog 65 [.agg [.d (.sl (s.sig.cons.map dX.d)), .d (.sl (s.sig.bZ.map dX.d)), .d (.sl (s.binds.map TB.d)), .osl lb 0, .d (.sl (s.marks.map tj)), .mp id]] o nx K X:=by
 refine bP.xd (d:=s.kd b) ?_ ?_
 ·exact Pr aw LY
 ·refine Bn s hs b _ nx (xo hg _) K X (fun o' nx' i j k m1 m2 m3 m4 m5 m6=>xf o' nx' i j k m1 m2 (fun j j1 j2=>(m3 j j1).trans ?_) m4 m5 m6)
  show put o (bG o [lb,id]) j=o j
  simp only[bG,List.map_cons,List.map_nil,aw,LY,put,List.foldl_cons,List.foldl_nil]
  by_cases e:j=id
  ·subst e;rw[aa,aw]
  ·rw[ae _ _ _ _ e,ae _ _ _ _ j2]
def jb(s:bU)(bA uy:Bool):Int:=if bA=true then 5 else if uy=true then(if s.aI.length=12 then 3 else 0)else 0
def kp(s:bU)(n:Nt)(bA uy:Bool):bU:=if bA=true then mM else if uy=true then(if s.aI.length=12 then mM else s.Ed n)else s
theorem Oz(s:bU)(hs:s.Fin)(a c:Tm)(ha:a.Fin)(hc:c.Fin)(h:bB s)(va:bJ s.sig a=true)(vc:bJ s.sig c=true){bA:Bool}(RJ:bA=true↔BP (ag s.binds) ⟨a,c⟩){l':List TB}{ρ:Int->Nat}{R:Nat}(hS:kn s.sig (ag s.binds) l' ρ R)(hl:iq s.sig l')
 {f:Nat} {r:List TB×Bool} (hr:fP f (aR (ag l') a) (aR (ag l') c) []=some r):aW Tryz.prog 16 [s.d,a.d,c.d] (.ret [(kp s ⟨a,c⟩ bA r.2).d, .i (jb s bA r.2)]):=by
 have c7:∀p∈ag s.binds,zB (ag s.binds) p.2:=fun p hp=>(h.iS.all p hp).1
 have oa:=Im hS hl c7 va
 have oc:=Im hS hl c7 vc
 have fa:=pB hS _ a (bz va).1 (Nat.le_refl _)
 have fc:=pB hS _ c (bz vc).1 (Nat.le_refl _)
 have uO:=h.tl
 refine aW.aG mix ac5 aE ?_
 rw[c16]
 refine fY ?_
 refine bX (Ij s hs a c ha hc _ _ dh _ _ (fun h1 h2 h3 o' nx' id i1 i2 i3 i4=> ?_) (fun hn=>absurd ⟨h,va,vc⟩ hn))
 have e1:o' 1= .row a.row:=(i3 _ af).trans cg
 have e2:o' 2= .row c.row:=(i3 _ af).trans cg
 have e3:o' 3= .row [.ax, .ax, .ax, .ax, .ax]:=(i3 _ af).trans cg
 have aw:id<nx':=Good.lt i2 LB
 have w1:∀k,id≠nx'+k:=fun k=>af
 have w2:∀k,(1:Nat)≠nx'+k:=fun k=>af
 have w3:∀k,(2:Nat)≠nx'+k:=fun k=>af
 have w4:∀k,(3:Nat)≠nx'+k:=fun k=>af
 have w5:∀k,nx'+k≠id:=fun k=>af
 have d1:(1:Nat)≠id:=fun e=>by subst e;rw[e1]at i4;cases i4
 have d2:(2:Nat)≠id:=fun e=>by subst e;rw[e2]at i4;cases i4
 have d3:(3:Nat)≠id:=fun e=>by subst e;rw[e3]at i4;cases i4
 simp+contextual (disch:=first|omega|simp only[go_sem,false_implies]) only[go_sem,wrap64,if_pos,Nat.add_assoc,Nat.left_eq_add,Nat.add_eq_left,Nat.add_left_cancel_iff,e1,e2,e3,i4,w1,w2,w3,w4,w5,d1,d2,d3]
 refine aq (Ol h.iS s (n:=⟨a,c⟩) va vc RJ).1 rfl ?_
 cases bA with
 |true=>
  simp+contextual (disch:=first|omega|simp only[go_sem,false_implies]) only[go_sem,wrap64,if_pos,Nat.add_assoc,Nat.left_eq_add,Nat.add_eq_left,Nat.add_left_cancel_iff,e1,e2,e3,i4,w1,w2,w3,w4,oO,jb,kp]
 |false=>
  simp+contextual (disch:=first|omega|simp only[go_sem,false_implies]) only[go_sem,wrap64,if_pos,Nat.add_assoc,Nat.left_eq_add,Nat.add_eq_left,Nat.add_left_cancel_iff,e1,e2,e3,i4,w1,w2,w3,w4,w5,d1,d2,d3]
  refine bC (w7 (fun p hp=>(h.iS.all p hp).2) _ a _ ha.fits fa af) ?_
  simp+contextual (disch:=first|omega|simp only[go_sem,false_implies]) only[go_sem,wrap64,if_pos,Nat.add_assoc,Nat.left_eq_add,Nat.add_eq_left,Nat.add_left_cancel_iff,e1,e2,e3,i4,w1,w2,w3,w4,w5,d1,d2,d3]
  refine bC (w7 (fun p hp=>(h.iS.all p hp).2) _ c _ hc.fits fc af) ?_
  simp+contextual (disch:=first|omega|simp only[go_sem,false_implies]) only[go_sem,wrap64,if_pos,Nat.add_assoc,Nat.left_eq_add,Nat.add_eq_left,Nat.add_left_cancel_iff,e1,e2,e3,i4,w1,w2,w3,w4,w5,d1,d2,d3]
  refine bC (RH oa oc hr) ?_
  simp+contextual (disch:=first|omega|simp only[go_sem,false_implies]) only[go_sem,wrap64,if_pos,Nat.add_assoc,Nat.left_eq_add,Nat.add_eq_left,Nat.add_left_cancel_iff,e1,e2,e3,i4,w1,w2,w3,w4,w5,d1,d2,d3]
  refine aK (bD (ids:=[nx'+3,1,id,2,nx'+25]) (nx:=nx'+32) gL gL [([0],[]),([0],[]),([1],[]),([2],[2]),([0],[]),([0],[]),([3],[]),([2],[2]),([],[]),([],[4]),([4],[4]),([],[]),([],[]),([],[]),([],[]),([],[])] bF) ?_
  have hg:=i2
  have RD:=h.cp
  cases yJ:r.2 with
  |false=>
   rw[show kp s ⟨a,c⟩ false false=s from rfl,show jb s false false=0 from rfl]
   simp+contextual (disch:=first|omega|simp only[go_sem,false_implies]) only[go_sem,wrap64,if_pos,Nat.add_assoc,Nat.left_eq_add,Nat.add_eq_left,Nat.add_left_cancel_iff,e1,e2,e3,i4,w1,w2,w3,w4,w5,d1,d2,d3]
   refine bX (Of s h.cp (ag s.binds) _ _ id dh cg _ _ (fun o2 n2 i j k m1 m2 m3 m4 m5 m6=> ?_))
   have f3:o2 3= .row [.ax, .ax, .ax, .ax, .ax]:=(m3 3 af).trans IP
   have z1:i≠3:=fun e=>by subst e;rw[m4]at f3;cases f3
   have z2:j≠3:=fun e=>by subst e;rw[m5]at f3;cases f3
   have z3:k≠3:=fun e=>by subst e;rw[m6]at f3;cases f3
   exact Pp f3 m4 m5 m6 z1 z2 z3
  |true=>
   by_cases O9:s.aI.length=12
   ·have YW:((s.aI.length:Int)==12)=true:=by rw[beq_iff_eq];omega
    simp+contextual (disch:=first|omega|simp only[go_sem,false_implies]) only[go_sem,wrap64,if_pos,Nat.add_assoc,Nat.left_eq_add,Nat.add_eq_left,Nat.add_left_cancel_iff,e1,e2,e3,i4,w1,w2,w3,w4,w5,d1,d2,d3,List.length_map,YW,O9,oO,jb,kp]
   ·have YW:((s.aI.length:Int)==12)=false:=by rw[beq_eq_false_iff_ne];omega
    simp+contextual (disch:=first|omega|simp only[go_sem,false_implies]) only[go_sem,wrap64,if_pos,Nat.add_assoc,Nat.left_eq_add,Nat.add_eq_left,Nat.add_left_cancel_iff,e1,e2,e3,i4,w1,w2,w3,w4,w5,d1,d2,d3,List.length_map,YW]
    refine zd (RI s.aI af) ?_
    have dV:s.aI.length+1<=1099511627776/\(s.aI.length+1)*72<=1099511627776:=af
    simp+contextual (disch:=first|omega|simp only[go_sem,false_implies]) only[go_sem,wrap64,if_pos,Nat.add_assoc,Nat.left_eq_add,Nat.add_eq_left,Nat.add_left_cancel_iff,e1,e2,e3,i4,w1,w2,w3,w4,w5,d1,d2,d3,List.length_map,dV]
    refine aK (bD (ids:=[nx'+3,nx'+11,nx'+43,nx'+44]) (nx:=nx'+48) aE aE [([0],[]),([0],[]),([0],[]),([],[]),([1],[]),([],[2]),([2],[3]),([0],[]),([0],[]),([0,3],[0])] bF) ?_
    simp+contextual (disch:=first|omega|simp only[go_sem,false_implies]) only[go_sem,wrap64,if_pos,Nat.add_assoc,Nat.left_eq_add,Nat.add_eq_left,Nat.add_left_cancel_iff,e1,e2,e3,i4,w1,w2,w3,w4,w5,d1,d2,d3]
    have ahf:(s.Ed ⟨a,c⟩).Cp:=by
     refine⟨RD.lc,RD.lf,RD.bl, ?_,RD.ml,RD.bt,fun x hx=> ?_⟩
     ·show(s.aI++[_]).length<=1000
      simp;omega
     ·have hx:x∈s.aI++[⟨a,c⟩]:=hx
      rcases List.mem_append.1 hx with hx|hx
      ·exact RD.nt x hx
      ·simp at hx
       subst hx
       have q1:=(bz va).2.1
       have q2:=(bz vc).2.1
       exact⟨by dsimp only;omega,by dsimp only;omega⟩
    rw[show kp s ⟨a,c⟩ false true=s.Ed ⟨a,c⟩ by simp[kp,O9],show jb s false true=0 by simp[jb,O9]]
    refine bX (Gi (s.Ed ⟨a,c⟩) ahf (ag s.binds) _ _ id (nx'+44) ?_ ?_ ?_ _ _ (fun o2 n2 i j k m1 m2 m3 m4 m5 m6=> ?_))
    ·exact dh
    ·exact cg
    ·(repeat(first|rfl|rw[aa]|rw[ae _ _ _ _ (by omega)]))
     simp[bU.Ed]
    have f3:o2 3= .row [.ax, .ax, .ax, .ax, .ax]:=(m3 3 af af).trans IP
    have z1:i≠3:=fun e=>by subst e;rw[m4]at f3;cases f3
    have z2:j≠3:=fun e=>by subst e;rw[m5]at f3;cases f3
    have z3:k≠3:=fun e=>by subst e;rw[m6]at f3;cases f3
    exact Pp f3 m4 m5 m6 z1 z2 z3
end Go.Proofs.YtlhemmpklhhgoaaGreat
set_option maxHeartbeats 4000000
namespace Go.Proofs.YtlhemmpklhhgoaaGreat
theorem bB.same {s:bU}(h:s.Cp):aW Tryz.prog 21 [s.d,s.d] (.ret [.bool true]):=by
 have h3:=h.bl
 have h4:=h.nl
 have h5:=h.ml
 exact xn s h.lc h.lf af af af (fun x hx=>Tm.dC _ (h.bt x hx)) (fun x hx=>⟨Tm.dC _ (h.nt x hx).1,Tm.dC _ (h.nt x hx).2⟩)
end Go.Proofs.YtlhemmpklhhgoaaGreat
set_option maxHeartbeats 8000000
namespace Go.Proofs.YtlhemmpklhhgoaaGreat
theorem Io:mM.Cp:=⟨bF,bF,bF,bF,bF,fun _ h=>jQ,fun _ h=>jQ⟩
theorem kT{s:az}{t:Tm}(h:bJ s t=true):t.Fin:=by
 obtain⟨_,h2,h3⟩:=bz h
 exact⟨Tm.dC t af,af⟩
theorem bB.fin {s:bU}(h:bB s)(hf:s.sig.Fits):s.Fin:=by
 have h1:=h.iS.len
 have h2:=h.tl
 have h3:=h.D2
 exact⟨hf,af,af,af,fun x hx=>kT (h.iS.ok x hx).2,fun n hn=>⟨kT (h.aI n hn).1,kT (h.aI n hn).2.1⟩⟩
theorem Gj{s:bU}(h:bB s)(hf:s.sig.Fits){a c:Tm}(va:bJ s.sig a=true)(vc:bJ s.sig c=true){bA:Bool}(RJ:bA=true↔BP (ag s.binds) ⟨a,c⟩)(uy:Bool):
 (kp s ⟨a,c⟩ bA uy).Cp/\(jb s bA uy=0->bB (kp s ⟨a,c⟩ bA uy)/\(kp s ⟨a,c⟩ bA uy).Fin):=by
 unfold kp jb
 have uO:=h.tl
 cases bA with
 |true=>exact⟨Io,fun h=>absurd (show(5:Int)=0 from h) bF⟩
 |false=>
  cases uy with
  |false=>exact⟨h.cp,fun _=>⟨h,h.fin hf⟩⟩
  |true=>
   by_cases O9:s.aI.length=12
   ·simp only[Bool.false_eq_true,if_false,if_true,if_pos O9]
    exact⟨Io,fun h=>absurd h bF⟩
   ·simp only[Bool.false_eq_true,if_false,if_true,if_neg O9]
    have hD:bB (s.Ed ⟨a,c⟩):=Ki h va vc (fun hb=>Bool.false_ne_true (RJ.2 hb)) af
    exact⟨hD.cp,fun _=>⟨hD,hD.fin hf⟩⟩
end Go.Proofs.YtlhemmpklhhgoaaGreat
set_option maxHeartbeats 8000000
namespace Go.Proofs.YtlhemmpklhhgoaaGreat
end Go.Proofs.YtlhemmpklhhgoaaGreat
namespace Go.Proofs.YtlhemmpklhhgoaaGreat
theorem Eh{s:az}:∀ (f:Nat) (a c:Tm) (l l':List TB),fP f a c l=some (l',true)->iq s l->Vs s a->Vs s c->aR (ag l') a=aR (ag l') c
 |0,_,_,_,_,h,_,_,_=>by cases h
 |f+1,a,c,l,l',h,hl,ha,hc=>by
  obtain⟨G0,aeZ⟩:=od (f+1) a c l l' h hl ha hc
  rw[<- aeZ.sub ha, <- aeZ.sub hc]
  have va:=Vs.sub hl.bd a ha
  have vc:=Vs.sub hl.bd c hc
  have fc:=fun u=>hl.free hc (u:=u)
  have fa:=fun u=>hl.free ha (u:=u)
  have na:=hl.Ke ha
  have nc:=hl.Ke hc
  have lone:∀ (n:Int) (t:Tm),bQ (ag l) n=none->Vs s t->(∀u,fO u t=true->bQ (ag l) u=none)-> ¬fO n t=true->aR (ag (iy l n t)) t=t:=fun n t hn ht hf kx=>by
   refine HT t ht fun u hu=> ?_
   rw[uW hn,if_neg (show ¬u=n from fun e=>kx (by rw[<- e];exact hu)),hf u hu]
   rfl
  simp only[fP]at h
  generalize aR (ag l) a=a0 at*
  generalize aR (ag l) c=c0 at*
  split at h
  ·rename_i hs
   rw[(dR _ _).1 hs]
  ·rename_i hs
   split at h
   ·rename_i h1
    injection h with h;injection h with h;subst h
    obtain⟨r1,u1,e1⟩:=na h1.1
    obtain⟨r2,u2,e2⟩:=nc h1.2
    have iu:a0.n≠c0.n:=fun e=>hs (by rw[dR,e1,e2,e])
    have Ah:bQ (ag l) (max a0.n c0.n)=none:=by rcases Int.le_total a0.n c0.n with h|h<;>simp[Int.max_def]<;>split<;>assumption
    have hmn:bQ (ag l) (min a0.n c0.n)=none:=by rcases Int.le_total a0.n c0.n with h|h<;>simp[Int.min_def]<;>split<;>assumption
    have both:∀v,v=a0.n\/v=c0.n->Lv (ag (iy l (max a0.n c0.n) (.mk 1 (min a0.n c0.n) []))) v= .mk 1 (min a0.n c0.n) []:=fun v hv=>by
     rw[ju Ah]
     by_cases e:v=max a0.n c0.n
     ·rw[if_pos e]
     ·rw[if_neg e]
      have e3:v=min a0.n c0.n:=af
      have hlv:bQ (ag l) v=none:=by rw[e3];exact hmn
      rw[show Lv (ag l) v= .mk 1 v [] by simp[Lv,hlv],gv,tc,if_neg e,e3]
    rw[du va h1.1,du vc h1.2,both _ (.inl rfl),both _ (.inr rfl)]
   ·split at h
    ·rename_i h1 h2
     injection h with h;injection h with h h3;subst h
     obtain⟨r1,u1,e1⟩:=na h2
     have kx: ¬fO a0.n c0=true:=fun hh=>by
      have:(cJ c0).contains a0.n=true:=List.contains_iff_mem.2 (((cO c0).2 _).2 hh)
      exact GD
     rw[lone _ _ u1 vc (fun u hu=>fc u hu) kx,du va h2,ju u1,if_pos rfl]
    ·split at h
     ·rename_i h1 h2 kF
      injection h with h;injection h with h h3;subst h
      obtain⟨r2,u2,e2⟩:=nc kF
      have kx: ¬fO c0.n a0=true:=fun hh=>by
       have:(cJ a0).contains c0.n=true:=List.contains_iff_mem.2 (((cO a0).2 _).2 hh)
       exact GD
      rw[lone _ _ u2 va (fun u hu=>fa u hu) kx,du vc kF,ju u2,if_pos rfl]
     ·split at h
      ·injection h with h;injection h with _ h;cases h
      ·rename_i h1 h2 h3 h4
       have key:∀ (ks cE:List Tm) (l:List TB),(∀k∈ks,Vs s k)->(∀k∈cE,Vs s k)->iq s l->ks.length=cE.length->da (fP f) ks cE l=some (l',true)->ks.map (aR (ag l'))=cE.map (aR (ag l'))/\mY l l':=by
        intro ks
        induction ks with
        |nil=>
         intro cE l _ _ hl hlen h
         cases cE with
         |nil=>simp only[da]at h;injection h with h;injection h with h;subst h;exact⟨rfl,mY.refl hl⟩
         |cons _ _=>cases hlen
        |cons k ks uF=>
         intro cE l h1 h2 hl hlen h
         cases cE with
         |nil=>cases hlen
         |cons k' cE=>
          simp only[da]at h
          split at h
          ·rename_i l1 e
           have v1:=h1 k aE
           have v2:=h2 k' aE
           obtain⟨g1,g2⟩:=od f k k' l l1 e hl v1 v2
           have g5:=Eh f k k' l l1 e hl v1 v2
           obtain⟨g3,g4⟩:=uF cE l1 (fun x hx=>h1 x kE) (fun x hx=>h2 x kE) g1 (by simpa using hlen) h
           refine⟨?_,g2.trans hl g4 (fun v=>hl.xC)⟩
           rw[List.map_cons,List.map_cons,g3, <- g4.sub v1, <- g4.sub v2,g5]
          ·injection h with h;injection h with _ h;cases h
          ·cases h
       have e1:a0.op=c0.op:=Classical.byContradiction fun e=>h4 (Or.inl e)
       have e2:a0.n=c0.n:=Classical.byContradiction fun e=>h4 (Or.inr (Or.inl e))
       have e3:a0.kids.length=c0.kids.length:=Classical.byContradiction fun e=>h4 (Or.inr (Or.inr e))
       rw[dY h2,dY h3,e1,e2,(key _ _ _ (fun k hk=>va.ki hk) (fun k hk=>vc.ki hk) hl e3 h).1]
def x5(θ:List (Int×Tm))(l:List TB):Prop:=∀v,0<=v/\v<20->aR θ (Lv (ag l) v)=Lv θ v
theorem x5.nil {θ:List (Int×Tm)}:x5 θ []:=fun v _=>by rw[show Lv (ag []) v= .mk 1 v []from rfl,gv]
theorem x5.sub {s:az}{θ:List (Int×Tm)}{l:List TB}(h:x5 θ l){t:Tm}(ht:Vs s t):aR θ (aR (ag l) t)=aR θ t:=mI t ht fun v hv=>h v (ht.range hv)
theorem x5.YX {s:az}{θ:List (Int×Tm)}{l:List TB}(h:x5 θ l)(hl:iq s l){n:Int}{t:Tm}(hn:bQ (ag l) n=none)(e:Lv θ n=aR θ t):x5 θ (iy l n t):=fun v hv=>by
 rw[ju hn]
 by_cases h1:v=n
 ·rw[if_pos h1,h1,e]
 ·rw[if_neg h1, <- h v hv]
  refine mI (s:=s) _ (Vs.Lv hl.bd hv) fun u _=> ?_
  rw[tc]
  split
  ·rename_i h2;rw[h2,e]
  ·rw[gv]
theorem YY{s:az}{θ:List (Int×Tm)}{n:Int}:∀t:Tm,Vs s t->fO n t=true->(Lv θ n).sz<=(aR θ t).sz/\(t.op≠1->(Lv θ n).sz<(aR θ t).sz):=by
 refine Tm.ek fun t ih hv hf=> ?_
 by_cases h1:t.op=1
 ·rw[du hv h1,(fG h1).1 hf]
  exact⟨Nat.le_refl _,fun h=>absurd h1 h⟩
 ·obtain⟨k,hk,hf2⟩:=(pA hv h1).1 hf
  have h2:=(ih k hk (hv.ki hk) hf2).1
  have h3:aR θ k∈(aR θ t).kids:=by rw[dY h1];exact List.mem_map.2 ⟨k,hk,rfl⟩
  have h4:=Tm.l7 h3
  exact⟨af,fun _=>af⟩
theorem rK{s:az}{θ:List (Int×Tm)}:∀ (f:Nat) (a c:Tm) (l:List TB) (r:List TB×Bool),fP f a c l=some r->iq s l->Vs s a->Vs s c->x5 θ l->aR θ a=aR θ c->r.2=true/\x5 θ r.1
 |0,_,_,_,_,h,_,_,_,_,_=>by cases h
 |f+1,a,c,l,r,h,hl,ha,hc,hg,hs=>by
  have va:=Vs.sub hl.bd a ha
  have vc:=Vs.sub hl.bd c hc
  have na:=hl.Ke ha
  have nc:=hl.Ke hc
  rw[<- hg.sub ha, <- hg.sub hc]at hs
  simp only[fP]at h
  generalize aR (ag l) a=a0 at*
  generalize aR (ag l) c=c0 at*
  have occ:∀ (x y:Tm),Vs s x->Vs s y->x.op=1->y.op≠1->aR θ x=aR θ y-> ¬ (cJ y).contains x.n=true:=fun x y hx hy h1 h2 e hc=>by
   have h3:=((cO y).2 _).1 (List.contains_iff_mem.1 hc)
   have h4:=(YY (θ:=θ) y hy h3).2 h2
   rw[du hx h1]at e
   rw[e]at h4
   omega
  split at h
  ·injection h with h;subst h;exact⟨rfl,hg⟩
  ·rename_i EO
   split at h
   ·rename_i h1
    injection h with h;subst h
    obtain⟨r1,u1,e1⟩:=na h1.1
    obtain⟨r2,u2,e2⟩:=nc h1.2
    have Ah:bQ (ag l) (max a0.n c0.n)=none:=by rcases Int.le_total a0.n c0.n with h|h<;>simp[Int.max_def]<;>split<;>assumption
    refine⟨rfl,hg.YX hl Ah ?_⟩
    rw[du va h1.1,du vc h1.2]at hs
    rw[gv]
    rcases Int.le_total a0.n c0.n with h|h
    ·rw[Int.max_eq_right h,Int.min_eq_left h,hs]
    ·rw[Int.max_eq_left h,Int.min_eq_right h,hs]
   ·split at h
    ·rename_i h1 h2
     injection h with h;subst h
     obtain⟨r1,u1,e1⟩:=na h2
     have mP:=occ a0 c0 va vc h2 (fun e=>h1 ⟨h2,e⟩) hs
     refine⟨by simpa using mP,hg.YX hl u1 ?_⟩
     rw[<- hs,du va h2]
    ·split at h
     ·rename_i h1 h2 h3
      injection h with h;subst h
      obtain⟨r2,u2,e2⟩:=nc h3
      have mP:=occ c0 a0 vc va h3 h2 hs.symm
      refine⟨by simpa using mP,hg.YX hl u2 ?_⟩
      rw[hs,du vc h3]
     ·rename_i h1 h2 h3
      rw[dY h2,dY h3]at hs
      injection hs with q1 q2 q3
      have q4:a0.kids.length=c0.kids.length:=by simpa using congrArg List.length q3
      rw[if_neg (by rintro(h|h|h)<;>contradiction)]at h
      have key:∀ (ks cE:List Tm) (l:List TB),(∀k∈ks,Vs s k)->(∀k∈cE,Vs s k)->iq s l->x5 θ l->ks.map (aR θ)=cE.map (aR θ)->da (fP f) ks cE l=some r->r.2=true/\x5 θ r.1:=by
       intro ks
       induction ks with
       |nil=>intro cE l _ _ hl hg hm h;simp only[da]at h;injection h with h;subst h;exact⟨rfl,hg⟩
       |cons k ks uF=>
        intro cE l h1 h2 hl hg hm h
        cases cE with
        |nil=>cases hm
        |cons k' cE=>
         rw[List.map_cons,List.map_cons]at hm
         injection hm with m1 m2
         have v1:=h1 k aE
         have v2:=h2 k' aE
         simp only[da]at h
         split at h
         ·rename_i l1 e
          have g1:=(od f k k' l l1 e hl v1 v2).1
          have g2:=(rK f k k' l _ e hl v1 v2 hg m1).2
          exact uF cE l1 (fun x hx=>h1 x kE) (fun x hx=>h2 x kE) g1 g2 m2 h
         ·rename_i l1 e
          have:=(rK f k k' l _ e hl v1 v2 hg m1).1
          cases this
         ·cases h
      exact key _ _ _ (fun k hk=>va.ki hk) (fun k hk=>vc.ki hk) hl hg q3 h
def Pf(x:TB):Tm:= .mk 1 x.var []
def slV(s:bU):List Tm:=s.binds.map Pf
def slT(s:bU):List Tm:=s.binds.map (·.term)
structure ahA (s:bU) (l:List TB):Prop where
 uni:∃f,da (fP f) (slV s) (slT s) []=some (l,true)
 sol:iq s.sig l
 gN:∀x∈l,x.term.gN
 eq:∃g b' ρ R,l8 (jl false g) (slV s) (slT s) []=some (0,b')/\kn s.sig b' l ρ R
 val:∀t,bJ s.sig t=true->Vs s.sig (aR (ag l) t)/\(aR (ag l) t).gN/\(aR (ag l) t).sz<=1600
end Go.Proofs.YtlhemmpklhhgoaaGreat
set_option maxHeartbeats 8000000
namespace Go.Proofs.YtlhemmpklhhgoaaGreat
end Go.Proofs.YtlhemmpklhhgoaaGreat
set_option maxHeartbeats 8000000
namespace Go.Proofs.YtlhemmpklhhgoaaGreat
structure Fm where
 binds:List TB
 aI:List (List TB)
@[reducible] def tlD (l:List TB):D:= .sl (l.map TB.d)
@[reducible] def Fm.d (x:Fm):D:= .agg [.sl (x.binds.map TB.d), .sl (x.aI.map tlD)]
@[reducible] def Fm.row (x:Fm):List V:=[.d (.sl (x.binds.map TB.d)), .d (.sl (x.aI.map tlD))]
end Go.Proofs.YtlhemmpklhhgoaaGreat
set_option maxHeartbeats 8000000
namespace Go.Proofs.YtlhemmpklhhgoaaGreat
theorem dJ{O:Nat->ad}{b c ty sz:Nat}{es:List D}(hg:Good O c)(hb:b<=c)(gone:Nat->Prop)(x:V)(env:List V)(sT:∀id,gone id->c<=id){e:Nat->V}{so:Nat->ad}{m:Nat}(gx:fN so gone ty sz es x)(ho:∀j,j<c->so j=O j)(he:iP c [⟨x,ty,sz,es⟩] so gone e env 0):
 bL b ⟨e,so,m⟩ ⟨aX env,ay O c (.arr 0 ty sz es),c+1⟩:=by
 refine bL.uD gone x c env hb (fun j hj=> ?_) (aa _ _ _) gx (fun j hj=> ?_) (fun j h1 h2=>absurd (sT j h1) af) he
 ·rw[ae _ _ _ _ (by omega)]
  exact bn (ho j hj) (fun r hr=>hg.refs j r hr)
 ·rw[ae _ _ _ _ (by omega)]
  exact BX
end Go.Proofs.YtlhemmpklhhgoaaGreat
section
set_option maxHeartbeats 8000000
namespace Go.Proofs.YtlhemmpklhhgoaaGreat
structure Sy where
 a:Tm
 b:Tm
 no:Bool
@[reducible] def Sy.d (x:Sy):D:= .agg [.i x.a.op, .i x.a.n, .sl (x.a.kids.map Tm.d), .i x.b.op, .i x.b.n, .sl (x.b.kids.map Tm.d), .bool x.no]
@[reducible] def Sy.row (x:Sy):List V:=[.d (.i x.a.op), .d (.i x.a.n), .d (.sl (x.a.kids.map Tm.d)), .d (.i x.b.op), .d (.i x.b.n), .d (.sl (x.b.kids.map Tm.d)), .d (.bool x.no)]
structure Sy.Ok (s:az) (x:Sy):Prop where
 va:bJ s x.a=true
 vb:bJ s x.b=true
theorem lW{s:az}{t:Tm}(h:bJ s t=true):gu t=true:=(FJ t).2 (by have:=(bz h).2;omega)
theorem bB.sm {s:bU}(h:bB s)(hs:fD s.sig=true):Ob s:=by
 have h1:=h.iS.len
 have h2:=h.tl
 have h3:=h.D2
 exact⟨hs,af,af,af,fun x hx=>lW (h.iS.ok x hx).2,fun n hn=>⟨lW (h.aI n hn).1,lW (h.aI n hn).2.1⟩⟩
theorem bB.fits {s:bU}(h:bB s)(hf:s.sig.Fits):s.Fits:=by
 have h1:=h.iS.len
 have h2:=h.tl
 have h3:=h.D2
 exact⟨hf,af,af,af,fun x hx=>(kT (h.iS.ok x hx).2).fits,fun n hn=>⟨(kT (h.aI n hn).1).fits,(kT (h.aI n hn).2.1).fits⟩⟩
structure SdP (s:bU) (x:Sy) (T:bU) (e:Int):Prop where
 call:aW Tryz.prog 29 [s.d,x.d] (.ret [T.d, .i e])
 err:e=0\/e=5\/e=3
 ok:e=0->bB T/\T.sig=s.sig/\T.marks=s.marks/\(∃E,T.binds=s.binds++E)/\∃F,T.aI=s.aI++F
 sem:(x.no=false/\∃f e1 b' bk,jl true f x.a x.b (ag s.binds)=some (e1,b')/\(∀n,bk n=true↔BP b' n)/\e=im e1 (s.aI.any bk)/\(e=0->T=s.tell b'))\/
  (x.no=true/\∃bA l ρ R f r,(bA=true↔BP (ag s.binds) ⟨x.a,x.b⟩)/\kn s.sig (ag s.binds) l ρ R/\iq s.sig l/\fP f (aR (ag l) x.a) (aR (ag l) x.b) []=some r/\e=jb s bA r.2/\T=kp s ⟨x.a,x.b⟩ bA r.2)
theorem zN(s:bU)(x:Sy)(hx:x.no=false){T:bU}{e:Int}(h:aW Tryz.prog 15 [s.d,x.a.d,x.b.d] (.ret [T.d, .i e])):aW Tryz.prog 29 [s.d,x.d] (.ret [T.d, .i e]):=by
 exact SS
theorem Km(s:bU)(x:Sy)(hx:x.no=true){T:bU}{e:Int}(h:aW Tryz.prog 16 [s.d,x.a.d,x.b.d] (.ret [T.d, .i e])):aW Tryz.prog 29 [s.d,x.d] (.ret [T.d, .i e]):=by
 exact SS
theorem tellE_0{e:Int}{b:Bool}(h:im e b=0):e=0/\b=false:=by
 unfold im at h
 split at h
 ·cases b with
  |false=>exact⟨by assumption,rfl⟩
  |true=>exact absurd (show(5:Int)=0 from h) bF
 ·rename_i h1;exact absurd h h1
theorem Ei{e:Int}(he:e=0\/e=5\/e=3)(b:Bool):im e b=0\/im e b=5\/im e b=3:=by
 unfold im
 split
 ·split
  ·exact .inr (.inl rfl)
  ·exact .inl rfl
 ·exact he
theorem OA(s:bU)(b u:Bool):jb s b u=0\/jb s b u=5\/jb s b u=3:=by
 unfold jb
 split
 ·exact .inr (.inl rfl)
 ·split
  ·split
   ·exact .inr (.inr rfl)
   ·exact .inl rfl
  ·exact .inl rfl
theorem RK{s:bU}(h:bB s)(hf:s.sig.Fits){x:Sy}(hx:x.Ok s.sig):∃p:bU×Int,SdP s x p.1 p.2:=by
 have ly:=h.fin hf
 have fa:=kT hx.va
 have fb:=kT hx.vb
 cases hn:x.no with
 |false=>
  obtain⟨f,e,b',hq,To⟩:=H9 h hx.va hx.vb
  have he:e=0\/e=5\/e=3:=by
   rcases To with⟨h,_⟩|h|h
   ·exact .inl h
   ·exact .inr (.inl h)
   ·exact .inr (.inr h)
  obtain⟨bk,xZ⟩:∃bk:Nt->Bool,∀n,bk n=true↔BP b' n:=by
   classical
   exact⟨fun n=>decide (BP b' n),fun n=>aE⟩
  have t1:=Oo s ly x.a x.b fa fb h hx.va hx.vb hq he (bk:=bk) (fun _ n _=>xZ n)
  by_cases h0:im e (s.aI.any bk)=0
  ·obtain⟨e0,b0⟩:=tellE_0 h0
   rw[if_pos h0]at t1
   refine⟨(s.tell b',im e (s.aI.any bk)),zN s x hn t1,Ei he _,fun _=> ?_, .inl ⟨hn,f,e,b',bk,hq,xZ,rfl,fun _=>rfl⟩⟩
   subst e0
   obtain⟨E,rfl,hB⟩:=oo h hx.va hx.vb hq
   have hT:=Rn h hB (fun n hn Zm=>by
    have h2:s.aI.any bk=true:=List.any_eq_true.2 ⟨n,hn,(xZ n).2 Zm⟩
    rw[b0]at h2;cases h2)
   have et:s.tell (ag (s.binds++E))=⟨s.sig,s.binds++E,s.aI,s.marks⟩:=by unfold bU.tell;rw[oP]
   dsimp only
   rw[et]
   exact⟨hT,rfl,rfl,⟨E,rfl⟩,[],aE⟩
  ·rw[if_neg h0]at t1
   exact⟨(mM,im e (s.aI.any bk)),zN s x hn t1,Ei he _,fun h1=>absurd h1 h0, .inl ⟨hn,f,e,b',bk,hq,xZ,rfl,fun h1=>absurd h1 h0⟩⟩
 |true=>
  obtain⟨bA,RJ⟩:∃bA:Bool,bA=true↔BP (ag s.binds) ⟨x.a,x.b⟩:=by
   classical
   exact⟨decide (BP (ag s.binds) ⟨x.a,x.b⟩),aE⟩
  obtain⟨l',ρ,R,hS,hl⟩:=jv h.iS.keys h.iS.ok h.iS.FW
  obtain⟨fu,r,hr⟩:=tf _ _ (aR (ag l') x.a) (aR (ag l') x.b) [] (Nat.le_refl _) (Nat.le_refl _) iq.nil (Vs.sub hl.bd x.a (bz hx.va).1) (Vs.sub hl.bd x.b (bz hx.vb).1)
  have t3:=Oz s ly x.a x.b fa fb h hx.va hx.vb RJ hS hl hr
  refine⟨(kp s ⟨x.a,x.b⟩ bA r.2,jb s bA r.2),Km s x hn t3,OA s bA r.2,fun h0=> ?_, .inr ⟨hn,bA,l',ρ,R,fu,r,RJ,hS,hl,hr,rfl,rfl⟩⟩
  have hd:=(Gj h hf hx.va hx.vb RJ r.2).2 h0
  refine⟨hd.1, ?_⟩
  dsimp only at h0|-
  unfold jb at h0
  unfold kp
  split at h0
  ·exact absurd h0 bF
  ·rename_i h1
   rw[if_neg h1]
   split at h0
   ·rename_i h2
    rw[if_pos h2]
    split at h0
    ·exact absurd h0 bF
    ·rename_i h3
     rw[if_neg h3]
     exact⟨rfl,rfl,⟨[],by simp[bU.Ed]⟩,[⟨x.a,x.b⟩],rfl⟩
   ·rename_i h2
    rw[if_neg h2]
    exact⟨rfl,rfl,⟨[],aE⟩,[],aE⟩
open Classical in
noncomputable def syF(s:bU)(x:Sy):bU×Int:=if h:∃p:bU×Int,SdP s x p.1 p.2 then h.choose else(s,0)
theorem ae0{s:bU}(h:bB s)(hf:s.sig.Fits){x:Sy}(hx:x.Ok s.sig):SdP s x (syF s x).1 (syF s x).2:=by
 have he:=RK h hf hx
 unfold syF
 rw[dif_pos he]
 exact he.choose_spec
end Go.Proofs.YtlhemmpklhhgoaaGreat
end
set_option maxHeartbeats 8000000
namespace Go.Proofs.YtlhemmpklhhgoaaGreat
def Br(s:az)(x:Sy):Bool:= !(bJ s x.a&&bJ s x.b)
theorem YZ(s:az)(hs:s.Fits)(OB:ji s=true)(x:Sy)(hx:x.a.fits/\x.b.fits){p:Nat}(o:Nat->ad)(nx:Nat)(hg:Good o nx)(hp:o p= .row s.row)(K X:V->(Nat->ad)->Nat->Prop)
 (hK:∀ (o':Nat->ad) (nx':Nat),nx<=nx'->Good o' nx'->(∀j,j<nx->o' j=o j)->K (.d (.bool (Br s x))) o' nx'):
 bP Tryz.prog 84 [.d x.d, .ptr p 0] o nx K X:=by
 have lp:p<nx:=hg.lt BW
 have w1:∀k,p≠nx+k:=fun k=>af
 have w2:p≠nx:=af
 refine bP.aG mix agO aE ?_
 rw[c84]
 have va:=xi OB x.a
 have vb:=xi OB x.b
 have nw:bJ s x.a=false\/bJ s x.b=false->Br s x=true:=fun h=>by unfold Br;rcases h with h|h<;>simp[h]
 have fin:∀n,nx+1<=n->Good (ay o nx (.row x.row)) n:=fun n hn=>(hg.mono af).ay af rfl
 refine K0 w1 w2 ?_
 refine aq (rl x.a hx.1) rfl ?_
 cases h1:gu x.a with
 |false=>
  rw[nw (.inl (Bool.eq_false_iff.2 fun h=>by rw[lW h]at h1;cases h1))]at hK
  exact GL
 |true=>
  refine K0 w1 w2 ?_
  refine aq (rl x.b hx.2) rfl ?_
  cases h2:gu x.b with
  |false=>
   rw[nw (.inr (Bool.eq_false_iff.2 fun h=>by rw[lW h]at h2;cases h2))]at hK
   exact GL
  |true=>
   refine K0 w1 w2 ?_
   refine aq (lV s hs x.a hx.1) rfl ?_
   cases h3:(gI s x.a&&ff x.a)with
   |false=>
    rw[nw (.inl (va.trans h3))]at hK
    exact GL
   |true=>
    refine K0 w1 w2 ?_
    refine aq (lV s hs x.b hx.2) rfl ?_
    have hv:Br s x= !(gI s x.b&&ff x.b):=by unfold Br;rw[va,vb,h3,Bool.true_and]
    rw[hv]at hK
    exact GL
theorem Ip(l:List Sy)(hl:l.length<=9223372036854775807){g p:Nat}{R:ad}(br:Sy->Bool)(hb:∀x∈l,∀ (o:Nat->ad) (nx:Nat),Good o nx->o p=R->∀ (K X:V->(Nat->ad)->Nat->Prop),(∀ (o':Nat->ad) (nx':Nat),nx<=nx'->Good o' nx'->(∀j,j<nx->o' j=o j)->K (.d (.bool (br x))) o' nx')->bP Tryz.prog g [.d x.d, .ptr p 0] o nx K X)
 (o:Nat->ad) (nx:Nat) (hg:Good o nx) (hp:o p=R) (lp:p<nx) (K X:V->(Nat->ad)->Nat->Prop)
 (hK:∀ (o':Nat->ad) (nx':Nat),nx<=nx'->Good o' nx'->(∀j,j<nx->o' j=o j)->K (.d (.bool (l.any br))) o' nx'):
 bP Tryz.prog 83 [.d (.sl (l.map Sy.d)), .func (.func g) [] [.ptr p 0]] o nx K X:=by
 refine bP.aG mix agN aE ?_
 rw[c83]
 refine fY ?_
 have key:∀ (K X:V->(Nat->ad)->Nat->Prop),(∀r:Int,decide (0<=r)=l.any br->∀ (o':Nat->ad) (nx':Nat),nx+3<=nx'->Good o' nx'->(∀j,j<nx->o' j=o j)->K (.d (.i r)) o' nx')->
  bP Tryz.prog 125 [.d (.sl (l.map Sy.d)), .func (.func g) [] [.ptr p 0]] o (nx+3) K X:=by
  intro K X hK
  refine bP.aG mix adE aE ?_
  rw[adD]
  refine Ey ?_
  refine aD (fun i:Nat=>⟨aX [.d (.sl (l.map Sy.d)), .func (.func g) [] [.ptr p 0], .ab, .ab, .ab, .ab, .ab, .d (.i l.length), .d (.i i)],o,nx+3⟩)
   (fun i=>i<=l.length/\l.any br=(l.drop i).any br) (fun i=>l.length - i) 0 ⟨Nat.zero_le _,rfl⟩ ?_ ?_
  ·exact S2
  rintro k ⟨Mi,zV⟩
  refine Ey ?_
  refine ak (fun h1=> ?_) (fun h1=> ?_)
  ·have h1:k<l.length:=by simp at h1;omega
   obtain⟨x,hx⟩:=aB h1
   have cf:=List.mem_of_getElem? hx
   have hd:l.drop k=x::l.drop (k+1):=by
    exact LH
   rw[hd,List.any_cons]at zV
   refine aam hx ?_
   refine aT (hb x cf _ _ (hg.mono af) hp _ _ (fun o2 n2 m1 m2 m3=> ?_))
   cases ym:br x with
   |true=>
    rw[ym]at zV
    refine fY ?_
    exact aaJ
   |false=>
    exact abi
  ·have h1:k=l.length:=by simp at h1;omega
   subst h1
   refine fY ?_
   exact aaR
 exact abG
structure Iq (s:az) (l:List Sy):Prop where
 sm:fD s=true
 sig:ji s=true
 len:l.length<=14
 ok:∀x∈l,x.Ok s
theorem RL(s:az)(hs:s.Fits)(l:List Sy)(hl:l.length<=9223372036854775807)(hb:∀x∈l,x.a.fits/\x.b.fits){ok:Bool}(aY:ok=true↔Iq s l):aW Tryz.prog 27 [s.d, .sl (l.map Sy.d)] (.ret [.bool ok]):=by
 have no: ¬Iq s l->ok=false:=fun h=>by
  cases ok with
  |false=>rfl
  |true=>exact absurd (aY.1 rfl) h
 refine aW.aG mix agq aE ?_
 rw[c27]
 refine cK ?_
 refine aq (wL s hs) rfl ?_
 cases h1:fD s with
 |false=>
  rw[no fun h=>by have:=h.sm;rw[h1]at this;cases this]
  exact pD
 |true=>
  refine cK ?_
  refine aq (U2 s hs) rfl ?_
  cases h2:ji s with
  |false=>
   rw[no fun h=>by have:=h.sig;rw[h2]at this;cases this]
   exact pD
  |true=>
   by_cases h3:14<l.length
   ·have kF:decide ((l.length:Int)>14)=true:=decide_eq_true af
    rw[no fun h=>by have:=h.len;omega]
    exact K6 kF
   ·have kF:decide ((l.length:Int)>14)=false:=decide_eq_false af
    have hr:ok= !(l.any (Br s)):=by
     rw[Bool.eq_iff_iff,aY,Bool.not_eq_true',List.any_eq_false]
     constructor
     ·intro h x hx
      obtain⟨q1,q2⟩:=h.ok x hx
      simp[Br,q1,q2]
     ·intro h
      refine⟨h1,h2,af,fun x hx=> ?_⟩
      have:=h x hx
      simp[Br]at this
      exact⟨this.1,this.2⟩
    rw[hr]
    refine rU kF ?_
    refine aT (Ip l hl (R:= .row s.row) (Br s) (fun x hx o nx hg hp K X hK=>YZ s hs h2 x (hb x hx) o nx hg hp K X hK) _ _ dh cg af _ _ fun o' nx' g2 g3 g4=> ?_)
    exact Vx
end Go.Proofs.YtlhemmpklhhgoaaGreat
set_option maxHeartbeats 8000000
namespace Go.Proofs.YtlhemmpklhhgoaaGreat
theorem RM{s:az}{P:List TB}(hlen:P.length<=100){id ep:Nat}:∀t:Tm,Vs s t->t.gN->∀ (o:Nat->ad) (nx:Nat),Good o nx->o id= .arr ep 59 4 (P.map TB.d)->∀ (K X:V->(Nat->ad)->Nat->Prop),
 (∀ (o':Nat->ad) (nx':Nat),nx<=nx'->Good o' nx'->(∀j,j<nx->o' j=o j)->K (.d (aR (ag P) t).d) o' nx')->bP Tryz.prog 82 [.d t.d, .osl id ep] o nx K X:=by
 refine Tm.ek fun t ih hv hw o nx hg ho K X hK=> ?_
 have hw':=(Tm.ik t).1 hw
 have aw:id<nx:=hg.lt LF
 have w1:∀k,id≠nx+k:=fun k=>af
 have w2:id≠nx:=af
 refine bP.seal ?_
 refine bP.aG mix adn aE ?_
 rw[c82]
 by_cases h1:t.op=1
 ·have fh:(t.op==1)=true:=by simpa using h1
  refine BC fh ho w1 w2 ?_
  refine aq (NC P t.n af) rfl ?_
  rcases rz P t.n with⟨f1,f2⟩|⟨k,x,f1,f2,f3⟩
  ·have hs:aR (ag P) t=t:=by rw[n9,if_pos h1,f2]
   have f3:decide (findF P t.n≥0)=false:=by simp;omega
   rw[hs]at hK
   refine zR fh f3 ho w1 w2 ?_
   refine⟨_,rfl,hK _ _ ?_ ?_ (fun j hj=> ?_)⟩
   ·omega
   ·exact dh
   ·exact cg
  ·have hs:aR (ag P) t=x.term:=by rw[n9,if_pos h1,f3]
   have Kj:decide (((k:Nat):Int)≥0)=true:=aE
   rw[hs]at hK
   have Cq:k<P.length:=(List.getElem?_eq_some_iff.1 f2).1
   refine K1 fh f1 Kj f2 Cq ho w1 w2 ?_
   refine⟨_,rfl,hK _ _ ?_ ?_ (fun j hj=> ?_)⟩
   ·omega
   ·exact dh
   ·exact cg
 ·have fh:(t.op==1)=false:=by simpa using h1
  have h8':(t.op==8)=false:=by simpa using hv.n8
  rw[dY h1]at hK
  refine zR fh h8' ho w1 w2 ?_
  have hgO:Good (ay (ay o nx (.row t.row)) (nx+1) (.row [.d (.i 0), .d (.i 0), .ax])) (nx+2):=dh
  refine aD (fun i:Nat=>⟨aX [.ab, .osl id ep, .ptr nx 0, .ab, .ptr (nx+1) 0, .ab, .osl (nx+2) 0, .d (.i i)],ay (ay (ay o nx (.row t.row)) (nx+1) (.row [.d (.i 0), .d (.i 0), .ax])) (nx+2) (.arr 0 33 3 (((t.kids.take i).map (aR (ag P))).map Tm.d)),nx+3⟩)
   (fun i=>i<=t.kids.length) (fun i=>t.kids.length - i) 0 (Nat.zero_le _) ?_ ?_
  ·refine dJ hgO af (fun _=>False) .ax _ (fun _ h=>h.elim) (.inl ⟨rfl,rfl,bF⟩) (fun j hj=>rfl) ?_
   exact jH
  rintro k hk
  replace hk:k<=t.kids.length:=hk
  refine aak ho w1 w2 ?_
  refine ak (fun h2=> ?_) (fun h2=> ?_)
  ·simp at h2
   obtain⟨x,hx⟩:=aB h2
   have cf:=List.mem_of_getElem? hx
   have sb:t.kids.take (k+1)=t.kids.take k++[x]:=by rw[List.take_add_one,hx];rfl
   have e0:(t.kids.take k).length=k:=by rw[List.length_take];omega
   have dV:k<=140737488355327/\(k+1)*24<=140737488355328:=by have:=hw'.1;omega
   simp+contextual (disch:=first|omega|simp only[go_sem,false_implies]) only[go_sem,wrap64,if_pos,ho,w1,w2,Nat.add_assoc,Nat.left_eq_add,Nat.add_eq_left,Nat.add_left_cancel_iff,List.length_map,hx,e0]
   refine bX (ih x cf (hv.ki cf) (hw'.2 x cf) _ _ ?_ ?_ _ _ (fun o2 n2 m1 m2 m3=> ?_))
   ·exact Good.ay (hgO.mono af) af rfl
   ·(repeat(first|rfl|rw[aa]|rw[ae _ _ _ _ (by omega)]));exact ho
   have q0:o2 nx= .row t.row:=by rw[m3 _ (by omega)];(repeat(first|rfl|rw[aa]|rw[ae _ _ _ _ (by omega)]))
   have q1:o2 (nx+1)= .row [.d (.i 0), .d (.i 0), .ax]:=by rw[m3 _ (by omega)];(repeat(first|rfl|rw[aa]|rw[ae _ _ _ _ (by omega)]))
   have q2:o2 (nx+2)= .arr 0 33 3 (((t.kids.take k).map (aR (ag P))).map Tm.d):=by rw[m3 _ (by omega)];(repeat(first|rfl|rw[aa]|rw[ae _ _ _ _ (by omega)]))
   have y1:∀k,nx+2≠n2+k:=fun k=>af
   refine BQ q0 q1 q2 y1 hx e0 dV ?_
   refine aj (k+1) h2 af (dJ hgO af (fun j=>nx+2<=j) (.osl (nx+2) 1) _ (fun _ h=>h) (.inr ⟨nx+2,1,af,rfl,by(repeat(first|rfl|rw[aa]|rw[ae _ _ _ _ (by omega)]));rw[sb,List.map_append,List.map_append];rfl⟩) (fun j hj=> ?_) ?_)
   ·(repeat(first|rfl|rw[aa]|rw[ae _ _ _ _ (by omega)]))
    rw[m3 j (by omega)]
    exact cg
   ·exact jH
  ·simp at h2
   have Cq:k=t.kids.length:=af
   subst Cq
   rw[List.take_length]
   rw[Tm.Db]at hK
   refine aak ho w1 w2 ?_
   refine⟨_,rfl,hK _ _ ?_ ?_ (fun j hj=> ?_)⟩
   ·omega
   ·exact dh
   ·exact cg
theorem OC(P:List TB)(hp:P≠[])(hl:P.length<=1000)(o:Nat->ad)(nx:Nat)(hg:Good o nx)(K X:V->(Nat->ad)->Nat->Prop)
 (hK:∀ (o':Nat->ad) (nx' id ep:Nat),nx<=nx'->nx<=id->id<nx'->Good o' nx'->(∀j,j<nx->o' j=o j)->o' id= .arr ep 59 4 (P.map TB.d)->K (.osl id ep) o' nx'):bP Tryz.prog 86 [.d (.sl (P.map TB.d))] o nx K X:=by
 refine bP.aG mix agP aE ?_
 rw[c86]
 have hu:Tryz.prog.underlying 25=some (.slice 59):=ai
 obtain⟨a,l,rfl⟩:∃a l,P=a::l:=by
  cases P with
  |nil=>exact absurd rfl hp
  |cons a l=>exact⟨a,l,rfl⟩
 have heq:∀O,qu Tryz.prog O 25 true (.d (.sl (TB.d a::l.map TB.d))) .ax=some (.d (.bool false)):=by
  intro O
  unfold qu
  rw[hu]
  rfl
 simp only[List.map_cons]at hK|-
 refine Iy heq ?_
 simp only[List.isEmpty_nil,if_true]
 have dV:(l.length+1<=1099511627776/\(l.length+1)*48<=1099511627776):=by simp only[List.length_cons]at hl;omega
 simp+contextual (disch:=first|omega|simp only[go_sem,false_implies]) only[go_sem,wrap64,if_pos,heq,Nat.add_assoc,Nat.left_eq_add,Nat.add_eq_left,Nat.add_left_cancel_iff,List.length_cons,List.length_map,dV]
 refine hK _ _ (nx+3) 1 ?_ af ?_ ?_ (fun j hj=> ?_) ?_
 ·omega
 ·omega
 ·exact dh
 ·exact cg
 ·exact cg
theorem xq{s:az}{P:List TB}(hlen:P.length<=100)(hP:∀x∈P,x.term.gN)(a c:Tm)(va:Vs s a)(fa:a.gN)(vc:Vs s c)(fc:c.gN):aW Tryz.prog 36 [.sl (P.map TB.d),a.d,c.d] (.ret [.bool (gY (aR (ag P) a) (aR (ag P) c))]):=by
 refine aW.aG mix agw aE ?_
 rw[c36]
 refine cK ?_
 refine bC (Ic a va fa P hlen) ?_
 refine cK ?_
 refine bC (Ic c vc fc P hlen) ?_
 refine cK ?_
 refine aZ (wK _ (Tm.rH _ (Tm.oi (mN hP) a fa)) _ (Tm.rH _ (Tm.oi (mN hP) c fc))) rfl ?_
 exact PE
theorem Y0(n:Int):aW Tryz.prog 48 [.i n] (.ret [(Tm.mk 1 n []).d]):=by
 refine aW.aG mix ac8 aE ?_
 rw[c48]
 refine cK ?_
 refine bE (Yw n) ?_
 exact pD
end Go.Proofs.YtlhemmpklhhgoaaGreat
set_option maxHeartbeats 8000000
namespace Go.Proofs.YtlhemmpklhhgoaaGreat
structure x6 (P:List TB):Prop where
 len:P.length=20
 var:∀ (i:Nat) (y:TB),P[i]? =some y->y.var=i
 gN:∀y∈P,y.term.gN
def Bs(P:List TB)(b:TB):List TB:=if 0<=eQ (aR (ag P) b.term) 4000 400 then P.set b.var.toNat ⟨b.var,aR (ag P) b.term⟩else P
def exR(s:bU)(P:List TB):List TB:=s.binds.foldl Bs P
def Bt(s:bU):Nat->List TB->List TB
 |0,P=>P
 |n+1,P=>Bt s n (exR s P)
theorem u9{P:List TB}(h:x6 P){b:TB}(hr:0<=b.var/\b.var<20)(hf:b.term.gN):x6 (Bs P b):=by
 unfold Bs
 split
 ·refine⟨by rw[List.length_set];exact h.len,fun i y hy=> ?_,fun y hy=> ?_⟩
  ·rw[List.getElem?_set]at hy
   split at hy
   ·rename_i e
    split at hy
    ·injection hy with hy
     rw[<- hy]
     dsimp only
     omega
    ·cases hy
   ·exact h.var i y hy
  ·rcases List.mem_or_eq_of_mem_set hy with hy|rfl
   ·exact h.gN y hy
   ·exact Tm.oi (mN h.gN) _ hf
 ·exact h
def Vo(s:bU)(P:List TB):Nat->ad:=ay (ay (fun _=> .no) 0 (.row s.row)) 1 (.arr 0 59 4 (P.map TB.d))
theorem qj{s:bU}(h:bB s){P:List TB}(hP:x6 P):aW Tryz.prog 30 [s.d, .sl (P.map TB.d)] (.ret [.sl ((Bt s s.binds.length P).map TB.d)]):=by
 have rY:=h.iS.len
 have iu:P≠[]:=fun e=>by have:=hP.len;rw[e]at this;cases this
 have KW:Good (ay (fun _=> .no) 0 (.row s.row)) 1:=dh
 refine aW.aG mix ags aE ?_
 rw[c30]
 refine cK ?_
 refine bX (OC P iu (by have:=hP.len;omega) _ _ dh _ _ (fun o1 n1 id ep m1 m2 m2' m3 m4 m5=> ?_))
 have q0:o1 0= .row s.row:=by rw[m4 0 (by omega)];(repeat(first|rfl|rw[aa]|rw[ae _ _ _ _ (by omega)]))
 refine sc q0 m5 ?_
 refine aD (fun i:Nat×List TB=>⟨aX [.ab, .osl 1 0, .ptr 0 0, .ab, .ab, .ab, .ab, .ab, .ab, .ab, .ab, .ab, .d (.i s.binds.length), .d (.i i.1)],Vo s i.2,2⟩)
  (fun i=>i.1<=s.binds.length/\x6 i.2/\Bt s (s.binds.length - i.1) i.2=Bt s s.binds.length P) (fun i=>s.binds.length - i.1) (0,P) ⟨Nat.zero_le _,hP,rfl⟩ ?_ ?_
 ·refine dJ KW af (fun j=>j=id) (.osl id ep) _ (fun j e=>af) (.inr ⟨id,ep,rfl,rfl,m5⟩) (fun j hj=> ?_) ?_
  ·have:j=0:=af
   subst this
   rw[q0];(repeat(first|rfl|rw[aa]|rw[ae _ _ _ _ (by omega)]))
  ·exact jH
 rintro⟨j,Q⟩ ⟨hj,hQ,hI⟩
 dsimp only at hj hQ hI|-
 have v0:Vo s Q 0= .row s.row:=rfl
 have v1:Vo s Q 1= .arr 0 59 4 (Q.map TB.d):=rfl
 refine sc v0 v1 ?_
 refine ak (fun h6=> ?_) (fun h6=> ?_)
 ·replace h6:j<s.binds.length:=by simp at h6;omega
  refine sc v0 v1 ?_
  refine aD (fun i:Nat×List TB=>⟨aX [.ab, .osl 1 0, .ptr 0 0, .ab, .ab, .ab, .ab, .ab, .ab, .ab, .ab, .ab, .d (.i s.binds.length), .d (.i j), .ab, .ab, .d (.sl (s.binds.map TB.d)), .d (.i s.binds.length), .d (.i i.1)],Vo s i.2,2⟩)
   (fun i=>i.1<=s.binds.length/\x6 i.2/\(s.binds.drop i.1).foldl Bs i.2=exR s Q) (fun i=>s.binds.length - i.1) (0,Q) ⟨Nat.zero_le _,hQ,rfl⟩ ?_ ?_
  ·refine dJ KW af (fun j=>j=1) (.osl 1 0) _ (fun j e=>af) (.inr ⟨1,0,rfl,rfl,v1⟩) (fun j hj=> ?_) ?_
   ·have:j=0:=af
    subst this
    rfl
   ·exact jH
  rintro⟨k,W⟩ ⟨hk,hW,hF⟩
  dsimp only at hk hW hF|-
  have u0:Vo s W 0= .row s.row:=rfl
  have u1:Vo s W 1= .arr 0 59 4 (W.map TB.d):=rfl
  have hWl:=hW.len
  refine sc u0 u1 ?_
  refine ak (fun h7=> ?_) (fun h7=> ?_)
  ·replace h7:k<s.binds.length:=by simp at h7;omega
   obtain⟨x,hx⟩:=aB h7
   have cf:=List.mem_of_getElem? hx
   obtain⟨hr,hv⟩:=h.iS.ok x cf
   have FX:s.binds.drop k=x::s.binds.drop (k+1):=by
    exact LH
   rw[FX,List.foldl_cons]at hF
   have hWx:=u9 hW hr (il hv)
   refine pE u0 u1 hx ?_
   refine bX (RM (P:=W) af x.term (bz hv).1 (il hv) _ _ ?_ ?_ _ _ (fun o2 n2 m1 m2 m3=> ?_))
   ·have hg:Good (Vo s W) 2:=by unfold Vo;exact dh
    exact dh
   ·exact cg
   have f0:o2 0= .row s.row:=by rw[m3 _ (by omega)];(repeat(first|rfl|rw[aa]|rw[ae _ _ _ _ (by omega)]))
   have f1:o2 1= .arr 0 59 4 (W.map TB.d):=by rw[m3 _ (by omega)];(repeat(first|rfl|rw[aa]|rw[ae _ _ _ _ (by omega)]))
   have f5:o2 5= .row [.d (.i x.var), .d (.i x.term.op), .d (.i x.term.n), .d (.sl (x.term.kids.map Tm.d))]:=by rw[m3 _ (by omega)];(repeat(first|rfl|rw[aa]|rw[ae _ _ _ _ (by omega)]))
   obtain⟨v,hvv⟩:∃v:Nat,x.var=v:=⟨x.var.toNat,af⟩
   have Oa:v<W.length:=af
   obtain⟨y,hy⟩:=aB Oa
   have hyv:=hW.var v y hy
   have c1:decide ((v:Int)≥0)=true:=decide_eq_true af
   have c2:decide ((v:Int)<(W.length:Int))=true:=decide_eq_true af
   have Nr:(aR (ag W) x.term).fits:=Tm.rH _ (Tm.oi (mN hW.gN) _ (il hv))
   have cw:=A6 (aR (ag W) x.term) Nr 4000 400 af af
   have ex:Bs W x=if 0<=eQ (aR (ag W) x.term) 4000 400 then W.set v ⟨x.var,aR (ag W) x.term⟩else W:=by unfold Bs;rw[hvv];rfl
   have w1:∀k,(1:Nat)≠n2+k:=fun k=>af
   have w5:∀k,(5:Nat)≠n2+k:=fun k=>af
   rw[hvv]at f5
   generalize aR (ag W) x.term=u at cw ex Nr
   refine K1 f0 f1 f5 hvv c1 c2 w1 w5 ?_
   refine aq cw rfl ?_
   by_cases hz:0<=eQ u 4000 400
   ·have Jb:decide (eQ u 4000 400≥0)=true:=decide_eq_true af
    rw[if_pos hz]at ex
    obtain⟨yv,yt⟩:=y
    obtain⟨yo,yn,yk⟩:=yt
    obtain⟨uo,un,uk⟩:=u
    simp+contextual (disch:=first|omega|simp only[go_sem,false_implies]) only[go_sem,wrap64,if_pos,f0,f1,f5,hvv,c1,c2,Jb,w1,w5,Oa,hy,Nat.add_assoc,Nat.left_eq_add,Nat.add_eq_left,Nat.add_left_cancel_iff,List.length_map,Tm.Db]
    have hyv:yv=(v:Int):=hyv
    refine aj (k+1,W.set v ⟨x.var, .mk uo un uk⟩) ⟨h7,by rw[ex]at hWx;exact hWx,by rw[ex]at hF;exact hF⟩ kV (dJ KW af (fun j=>j=1) (.osl 1 0) _ (fun j e=>af) (.inr ⟨1,0,rfl,rfl, ?_⟩) (fun j hj=> ?_) ?_)
    ·(repeat(first|rfl|rw[aa]|rw[ae _ _ _ _ (by omega)]))
     dsimp only
     rw[List.map_set,hyv, <- hvv]
     rfl
    ·have:j=0:=af
     subst this
     (repeat(first|rfl|rw[aa]|rw[ae _ _ _ _ (by omega)]))
     exact f0
    ·exact jH
   ·have Jb:decide (eQ u 4000 400≥0)=false:=decide_eq_false af
    rw[if_neg hz]at ex
    simp+contextual (disch:=first|omega|simp only[go_sem,false_implies]) only[go_sem,wrap64,if_pos,f0,f1,f5,hvv,c1,c2,Jb,w1,w5,Nat.add_assoc,Nat.left_eq_add,Nat.add_eq_left,Nat.add_left_cancel_iff,List.length_map]
    refine aj (k+1,W) ⟨h7,hW,by rw[ex]at hF;exact hF⟩ kV (dJ KW af (fun j=>j=1) (.osl 1 0) _ (fun j e=>af) (.inr ⟨1,0,rfl,rfl,by(repeat(first|rfl|rw[aa]|rw[ae _ _ _ _ (by omega)]));exact f1⟩) (fun j hj=> ?_) ?_)
    ·have:j=0:=af
     subst this
     (repeat(first|rfl|rw[aa]|rw[ae _ _ _ _ (by omega)]))
     exact f0
    ·exact jH
  ·replace h7:k=s.binds.length:=by simp at h7;omega
   subst h7
   rw[List.drop_length]at hF
   have hF:W=exR s Q:=hF
   refine sc u0 u1 ?_
   have e1:s.binds.length - j=(s.binds.length - (j+1))+1:=af
   rw[e1]at hI
   refine aj (j+1,W) ⟨h6,hW,by rw[hF];exact hI⟩ kV (dJ KW af (fun j=>j=1) (.osl 1 0) _ (fun j e=>af) (.inr ⟨1,0,rfl,rfl,u1⟩) (fun j hj=> ?_) ?_)
   ·have:j=0:=af
    subst this
    rfl
   ·exact jH
 ·replace h6:j=s.binds.length:=by simp at h6;omega
  subst h6
  rw[Nat.sub_self]at hI
  have hI:Q=Bt s s.binds.length P:=hI
  rw[<- hI]
  exact K5 v0 v1
end Go.Proofs.YtlhemmpklhhgoaaGreat
namespace Go.Proofs.YtlhemmpklhhgoaaGreat
def Sat(θ b:List (Int×Tm)):Prop:=∀p∈b,Lv θ p.1=aR θ p.2
theorem ve{s:az}{θ b:List (Int×Tm)}{l:List TB}{ρ:Int->Nat}{R:Nat}(h:kn s b l ρ R)(hs:Sat θ b):x5 θ l:=by
 have key:∀ (n:Nat) (v:Int),ρ v<=n->aR θ (Lv (ag l) v)=Lv θ v:=by
  intro n
  induction n using Nat.strongRecOn with
  |ind n ih=>
   intro v hv
   cases hx:bQ b v with
   |none=>
    rw[show Lv (ag l) v= .mk 1 v [] by simp[Lv,(h.xC v).1 hx],gv]
   |some x=>
    obtain⟨q1,q2,q3⟩:=h.ok v x hx
    rw[q2,mI x q1 (fun u hu=>ih (ρ u) (by have:=q3 u hu;omega) u (Nat.le_refl _))]
    exact(hs _ (ck hx)).symm
 exact fun v _=>key _ v (Nat.le_refl _)
theorem RN{s:az}{θ b:List (Int×Tm)}{l:List TB}{ρ:Int->Nat}{R:Nat}(h:kn s b l ρ R)(hr:∀p∈b,0<=p.1/\p.1<20)(hg:x5 θ l):Sat θ b:=fun p hp=>by
 obtain⟨q1,q2,q3⟩:=h.ok p.1 p.2 ((fW h.keys).2 hp)
 rw[<- hg p.1 (hr p hp),q2]
 exact x5.sub hg q1
theorem RP{sg:az}{l:List TB}(h:iz sg l):∀p∈ag l,0<=p.1/\p.1<20:=fun p hp=>by
 obtain⟨x,hx,rfl⟩:=dq hp
 exact(h.ok x hx).1
theorem rL{s:bU}(h:bB s){a c:Tm}(ha:bJ s.sig a=true)(hc:bJ s.sig c=true){f:Nat}{e:Int}{b':List (Int×Tm)}(hq:jl true f a c (ag s.binds)=some (e,b')){θ:List (Int×Tm)}(hs:Sat θ (ag s.binds)):
 (e=0->(Sat θ b'↔aR θ a=aR θ c))/\(e=5->aR θ a≠aR θ c):=by
 obtain⟨l,ρ,R,hS,hl⟩:=jv h.iS.keys h.iS.ok h.iS.FW
 have va:=(bz ha).1
 have vc:=(bz hc).1
 obtain⟨f2,r,hr⟩:=tf _ _ a c l (Nat.le_refl _) (Nat.le_refl _) hl va vc
 obtain⟨g,e2,b2,h1,h2⟩:=Bk (lim:=true) f2 a c l r hr hl va vc a c _ ρ R hS va vc rfl rfl
 have e1:=fg hq (Nat.le_max_left f g)
 rw[fg h1 (Nat.le_max_right f g)]at e1
 injection e1 with e1
 injection e1 with e1 e3
 subst e1
 subst e3
 have ae1:=ve hS hs
 refine⟨fun h0=> ?_,fun h5 he=> ?_⟩
 ·rcases h2 with⟨_,k2,NI,R',k3⟩|⟨k1,_⟩|⟨k1,_⟩
  ·obtain⟨l',ok⟩:=r
   have k2:ok=true:=k2
   subst k2
   have aY:=od f2 a c l l' hr hl va vc
   subst h0
   obtain⟨E,hE,hB⟩:=oo h ha hc hq
   constructor
   ·intro jR
    have Q6:=ve k3 jR
    have tK:=Eh f2 a c l l' hr hl va vc
    have e1:=x5.sub Q6 va
    have e2:=x5.sub Q6 vc
    rw[<- e1, <- e2]
    exact congrArg (aR θ) tK
   ·intro he
    have:=rK f2 a c l (l',true) hr hl va vc ae1 he
    refine RN k3 ?_ this.2
    rw[hE]
    exact RP hB
  ·omega
  ·omega
 ·have:=(rK f2 a c l r hr hl va vc ae1 he).1
  rcases h2 with⟨k1,_⟩|⟨_,k2⟩|⟨k1,_⟩
  ·omega
  ·rw[this]at k2;cases k2
  ·omega
theorem Ir{sg:az}{l:List TB}(h:iz sg l){n:Nt}(na:bJ sg n.a=true)(nb:bJ sg n.b=true)(hb:BP (ag l) n){θ:List (Int×Tm)}(hs:Sat θ (ag l)):aR θ n.a=aR θ n.b:=by
 obtain⟨l',ρ,R,hS,hl⟩:=jv h.keys h.ok h.FW
 have va:=(bz na).1
 have vb:=(bz nb).1
 have hg:=ve hS hs
 rw[<- x5.sub hg va, <- x5.sub hg vb,(rE hS va vb).1 hb]
theorem OD{s:az}{b:List (Int×Tm)}{l:List TB}{ρ:Int->Nat}{R:Nat}(hS:kn s b l ρ R)(hl:iq s l){a c:Tm}(va:Vs s a)(vc:Vs s c){f:Nat}{r:List TB×Bool}(hr:fP f (aR (ag l) a) (aR (ag l) c) []=some r)(h2:r.2=false){θ:List (Int×Tm)}(hs:Sat θ b):aR θ a≠aR θ c:=fun he=>by
 have hg:=ve hS hs
 have:=(rK f _ _ [] r hr iq.nil (Vs.sub hl.bd a va) (Vs.sub hl.bd c vc) (θ:=θ) x5.nil (by rw[x5.sub hg va,x5.sub hg vc];exact he)).1
 rw[h2]at this;cases this
def Pg(θ:List (Int×Tm))(s:bU):Prop:=Sat θ (ag s.binds)/\∀n∈s.aI,aR θ n.a≠aR θ n.b
def Ph(θ:List (Int×Tm))(x:Sy):Prop:=aR θ x.a=aR θ x.b↔x.no=false
theorem Ej{s:bU}(h:bB s){x:Sy}(hx:x.Ok s.sig){T:bU}{e:Int}(sd:SdP s x T e)(θ:List (Int×Tm)):(e=0->(Pg θ T↔Pg θ s/\Ph θ x))/\(e=5-> ¬ (Pg θ s/\Ph θ x)):=by
 rcases sd.sem with⟨hn,f,e1,b',bk,hq,xZ,he,hT⟩|⟨hn,bA,l,ρ,R,f,r,RJ,hS,hl,hr,he,hT⟩
 ·have hld:Ph θ x↔aR θ x.a=aR θ x.b:=by unfold Ph;rw[hn];simp
  rw[hld]
  refine⟨fun h0=> ?_,fun h5 hh=> ?_⟩
  ·have hT:=hT h0
   rw[h0]at he
   obtain⟨rfl,hb⟩:=tellE_0 he.symm
   obtain⟨E,hE,hB⟩:=oo h hx.va hx.vb hq
   have eb:ag T.binds=b':=by rw[hT];exact H8 b'
   have en:T.aI=s.aI:=by rw[hT];rfl
   unfold Pg
   rw[eb,en]
   constructor
   ·rintro⟨k1,k2⟩
    have k3:Sat θ (ag s.binds):=fun p hp=>k1 p (by rw[hE,dS];exact List.mem_append_left _ hp)
    exact⟨⟨k3,k2⟩,((rL h hx.va hx.vb hq k3).1 rfl).1 k1⟩
   ·rintro⟨⟨k1,k2⟩,k3⟩
    exact⟨((rL h hx.va hx.vb hq k1).1 rfl).2 k3,k2⟩
  ·obtain⟨⟨k1,k2⟩,k3⟩:=hh
   rw[h5]at he
   unfold im at he
   split at he
   ·rename_i h0
    subst h0
    split at he
    ·rename_i hb
     obtain⟨n,KK,KA⟩:=List.any_eq_true.1 hb
     obtain⟨E,hE,hB⟩:=oo h hx.va hx.vb hq
     have k4:=((rL h hx.va hx.vb hq k1).1 rfl).2 k3
     subst hE
     exact k2 n KK (Ir hB (h.aI n KK).1 (h.aI n KK).2.1 ((xZ n).1 KA) k4)
    ·exact yd
   ·exact(rL h hx.va hx.vb hq k1).2 he.symm k3
 ·have hld:Ph θ x↔aR θ x.a≠aR θ x.b:=by unfold Ph;rw[hn];simp
  have va:=(bz hx.va).1
  have vb:=(bz hx.vb).1
  rw[hld]
  refine⟨fun h0=> ?_,fun h5 hh=> ?_⟩
  ·rw[h0]at he
   unfold jb at he
   split at he
   ·exact yd
   ·rename_i h1
    split at he
    ·rename_i h2
     split at he
     ·exact yd
     ·rename_i h3
      have:T=s.Ed ⟨x.a,x.b⟩:=by rw[hT];unfold kp;rw[if_neg h1,if_pos h2,if_neg h3]
      subst this
      unfold Pg
      show Sat θ (ag s.binds)/\(∀n∈s.aI++[_],_)↔_
      constructor
      ·rintro⟨k1,k2⟩
       exact⟨⟨k1,fun n hn=>k2 n (List.mem_append_left _ hn)⟩,k2 ⟨x.a,x.b⟩ aE⟩
      ·rintro⟨⟨k1,k2⟩,k3⟩
       refine⟨k1,fun n hn=> ?_⟩
       rcases List.mem_append.1 hn with hn|hn
       ·exact k2 n hn
       ·simp at hn;subst hn;exact k3
    ·rename_i h2
     have:T=s:=by rw[hT];unfold kp;rw[if_neg h1,if_neg h2]
     subst this
     exact⟨fun hh=>⟨hh,OD hS hl va vb hr vm hh.1⟩,fun hh=>hh.1⟩
  ·rw[h5]at he
   unfold jb at he
   split at he
   ·rename_i h1
    exact hh.2 (Ir h.iS hx.va hx.vb (RJ.1 h1) hh.1.1)
   ·split at he
    ·split at he
     ·exact yd
     ·exact yd
    ·exact yd
end Go.Proofs.YtlhemmpklhhgoaaGreat
