/-
  A PART OF THE PROOF. Conditions: none.
-/
import Derived.Test.YtlhemmpklhhgoaaGreatQn20
set_option linter.unusedSimpArgs false
set_option linter.unusedVariables false
set_option maxHeartbeats 8000000
namespace Go.Proofs.YtlhemmpklhhgoaaGreat
def GD(o:Nat->ab)(x m c:Nat)(E:List TB):Nat->ab:=ay (ay (ay o x (.row [.mp m, .osl c 0, .d (.bool false)])) m (dv (ah E))) c (.arr 0 59 4 (E.map TB.d))
section
variable {o:Nat->ab}{x m nx:Nat}{E:List TB}(lx:x<nx)(lm:m<nx)(ck:x≠m)
include lx lm ck
theorem Vf:GD o x m nx E x= .row [.mp m, .osl nx 0, .d (.bool false)]:=VC
theorem Vg:GD o x m nx E m=dv (ah E):=VC
theorem Vh:GD o x m nx E nx= .arr 0 59 4 (E.map TB.d):=VC
omit lx lm ck in
theorem oE{j:Nat}(h1:j≠x)(h2:j≠m)(h3:j≠nx):GD o x m nx E j=o j:=by unfold GD;(repeat(first|rfl|rw[aa]|rw[ae _ _ _ _ (by omega)]))
theorem Ot(hg:Good o nx):Good (GD o x m nx E) (nx+1):=by
 have _:=ck
 unfold GD
 refine Good.ay (Good.ay (Good.ay (hg.mono af) af ?_) af rfl) af rfl
 simp[ab.refs,V.aL,V.refs]
 omega
theorem Ou(gone:Nat->Prop)(xl:V)(l:List V)(hg:Good o nx)(ta:∀id,gone id->nx<=id){e:Nat->V}{so:Nat->ab}{k:Nat}(gl:fW so gone 59 4 (E.map TB.d) xl)
 (sx:so x= .row [.mp m,xl, .d (.bool false)]) (sm:so m=dv (ah E)) (h:∀j,j<nx->j≠x->j≠m->so j=o j) (he:iV nx [⟨xl,59,4,E.map TB.d⟩] so gone e l 0):bO nx ⟨e,so,k⟩ ⟨aZ l,GD o x m nx E,nx+1⟩:=by
 refine bO.uK gone xl nx l (Nat.le_refl _) (fun j hj=> ?_) (Vh lx lm ck) gl (fun j hj=> ?_) (fun j h1 h2=>absurd (ta j h1) af) he
 ·by_cases e1:j=x
  ·subst e1
   rw[Vf lx lm ck]
   exact aa0
  ·by_cases e2:j=m
   ·subst e2
    rw[Vg lx lm ck]
    exact bD sm (fun r hr=>by simp[ab.refs]at hr)
   ·rw[oE e1 e2 (by omega),h j hj e1 e2]
    exact bD rfl (fun r hr=>hg.refs j r hr)
 ·rw[oE (by omega) (by omega) (by omega)]
  exact B2
end
theorem Ry{s:aA}{ps:List (Tm×Tm)}(FG:∀p∈ps,QT s p.1/\QT s p.2)(hlen:ps.length<=1000){f:Nat}{e:Int}{b':List (Int×Tm)}(hf:lJ (iw false f) (ps.map (·.1)) (ps.map (·.2)) []=some (e,b')){lb xb x m:Nat}(o:Nat->ab)(nx:Nat)(hg:Good o nx)
 (hl:o lb= .row [.d (.sl (ps.map xe))]) (Rz:o xb= .row [.ptr x 0]) (hx:o x= .row [.mp m, .aw, .d (.bool false)]) (hm:o m=dv []) (K X:V->(Nat->ab)->Nat->Prop)
 (aY:e=0->qJ s b'->∀ (o':Nat->ab) (nx' l:Nat),nx<=nx'->l<nx'->Good o' nx'->o' x= .row [.mp m, .osl l 0, .d (.bool false)]->o' m=dv b'->(∀j,j<nx->j≠x->j≠m->o' j=o j)->K (.bW []) o' nx')
 (nk:e≠0->∀v o' nx',v= .d (.iface 162 (.agg []))\/v= .d (.iface 163 (.agg []))->nx<=nx'->Good o' nx'->(∀j,j<nx->j≠x->j≠m->o' j=o j)->X v o' nx'):
 bQ Tryz.prog 109 [.ptr lb 0, .ptr xb 0] o nx K X:=by
 have lx:x<nx:=hg.lt LM
 have lm:m<nx:=hg.lt GI
 have llb:lb<nx:=hg.lt (by rw[hl];exact ab.noConfusion)
 have lxb:xb<nx:=hg.lt (by rw[Rz];exact ab.noConfusion)
 have ck:x≠m:=fun e=>by subst e;rw[hx]at hm;cases hm
 have d1:lb≠x:=fun e=>by subst e;rw[hx]at hl;cases hl
 have d2:lb≠m:=fun e=>by subst e;rw[hm]at hl;cases hl
 have d3:xb≠x:=fun e=>by subst e;rw[hx]at Rz;cases Rz
 have d4:xb≠m:=fun e=>by subst e;rw[hm]at Rz;cases Rz
 refine bQ.aG mix Ui aE ?_
 rw[Xz]
 refine aam hl Rz hx hm ?_
 refine aD (fun i:Nat×List TB=>⟨aZ [.ptr lb 0, .ptr xb 0, .ad, .ad, .d (.sl (ps.map xe)), .d (.i ps.length), .d (.i i.1)],GD o x m nx i.2,nx+1⟩)
  (fun i=>i.1<=ps.length/\lJ (iw false f) ((ps.drop i.1).map (·.1)) ((ps.drop i.1).map (·.2)) (ah i.2)=some (e,b')/\qJ s (ah i.2)) (fun i=>ps.length - i.1) (0,[]) ⟨Nat.zero_le _,hf,qJ.nil⟩ ?_ ?_
 ·refine Ou lx lm ck (fun _=>False) .aw _ hg (fun _ h=>h.elim) (.inl ⟨rfl,rfl,bC⟩) hx hm (fun j j1 j2 j3=>rfl) ?_
  exact kG
 rintro⟨k,E⟩ ⟨hk,hL,hA⟩
 dsimp only at hk hL hA|-
 have ahe:=hA.len
 have q1:GD o x m nx E lb= .row [.d (.sl (ps.map xe))]:=by rw[oE d1 d2 (by omega),hl]
 have q2:GD o x m nx E xb= .row [.ptr x 0]:=by rw[oE d3 d4 (by omega),Rz]
 have q3:=Vf (o:=o) (E:=E) lx lm ck
 have q4:=Vg (o:=o) (E:=E) lx lm ck
 have q5:=Vh (o:=o) (E:=E) lx lm ck
 have hgU:=Ot (o:=o) (E:=E) lx lm ck hg
 refine EJ ?_
 refine ao (fun h6=> ?_) (fun h6=> ?_)
 ·replace h6:k<ps.length:=by simp at h6;omega
  obtain⟨⟨a,c⟩,hp⟩:=aB h6
  obtain⟨ha,hc⟩:=FG _ (List.mem_of_getElem? hp)
  have D5:ps.drop k=(a,c)::ps.drop (k+1):=by
   obtain⟨i1,i2⟩:=List.getElem?_eq_some_iff.1 hp
   exact EM
  rw[D5]at hL
  simp only[List.map_cons,lJ]at hL
  cases hq:iw false f a c (ah E)with
  |none=>rw[hq]at hL;cases hL
  |some q=>
  obtain⟨e1,b1⟩:=q
  rw[hq]at hL
  dsimp only at hL
  simp+contextual (disch:=first|omega|simp only[go_sem,false_implies]) only[go_sem,wrap64,if_pos,hp,q1,q2,q3,q4,q5,Nat.add_assoc,Nat.left_eq_add,Nat.add_eq_left,Nat.add_left_cancel_iff,List.length_map]
  have sB:Good (ay (ay (GD o x m nx E) (nx+4) (.row [.d (.i 0), .d (.i 0), .aw, .d (.i 0), .d (.i 0), .aw])) (nx+4) (.row [.d (.i a.op), .d (.i a.n), .d (.sl (a.kids.map Tm.d)), .d (.i c.op), .d (.i c.n), .d (.sl (c.kids.map Tm.d))])) (nx+11):=
   Good.ay (Good.ay (hgU.mono af) af rfl) af rfl
  refine aU (xg hA ha hc (L:=E) af hq (x:=x) (m:=m) (xl:= .osl nx 0) _ (ay (ay (ay (GD o x m nx E) (nx+4) (.row [.d (.i 0), .d (.i 0), .aw, .d (.i 0), .d (.i 0), .aw])) (nx+4) (.row [.d (.i a.op), .d (.i a.n), .d (.sl (a.kids.map Tm.d)), .d (.i c.op), .d (.i c.n), .d (.sl (c.kids.map Tm.d))])) nx .no) _ (fun j=>j=nx) sB (sB.ay af rfl) VG Sc (.inr ⟨nx,0,rfl,rfl,by(repeat(first|rfl|rw[aa]|rw[ae _ _ _ _ (by omega)]));exact q5⟩) (fun j e=>by subst e;exact⟨af,af,af,aa _ _ _⟩) (fun j hj=> ?_) _ _ (fun h0 E' hE o' nx' h1 h2 h3 h4=> ?_) (fun h5 o' nx' h1 h2 h4=> ?_) (fun h3 o' nx' h1 h2 h4=> ?_))
  ·by_cases e:j=nx
   ·subst e;exact .inl (aa _ _ _)
   ·exact .inr (ae _ _ _ _ e).symm
  ·have hA':=(xd f a c _ b1 (h0 ▸ hq) hA ha hc).1
   have Rt:b1=ah (E++E'):=by rw[hE,dS]
   rw[if_pos h0,Rt]at hL
   rw[Rt]at hA'
   refine fZ ?_
   refine aj (k+1,E++E') ⟨h6,hL,hA'⟩ lK (Ou lx lm ck (fun j=>j=nx+18) (.osl (nx+18) 0) _ hg (fun j e=>af) (.inr ⟨nx+18,0,rfl,rfl,h3.T7⟩) h3.row (by rw[<- Rt];exact h3.map) (fun j j1 j2 j3=> ?_) ?_)
   ·rw[h4 j (by omega) j2 j3]
    (repeat(first|rfl|rw[aa]|rw[ae _ _ _ _ (by omega)]))
    exact oE j2 j3 af
   ·exact kG
  ·rw[if_neg (by omega)]at hL
   injection hL with hL
   injection hL with hL1 hL2
   refine fZ ?_
   refine nk af _ _ _ (.inl rfl) af h2 (fun j j1 j2 j3=> ?_)
   rw[h4 j (by omega) j2 j3]
   (repeat(first|rfl|rw[aa]|rw[ae _ _ _ _ (by omega)]))
   exact oE j2 j3 af
  ·rw[if_neg (by omega)]at hL
   injection hL with hL
   injection hL with hL1 hL2
   refine fZ ?_
   refine nk af _ _ _ (.inr rfl) af h2 (fun j j1 j2 j3=> ?_)
   rw[h4 j (by omega) j2 j3]
   (repeat(first|rfl|rw[aa]|rw[ae _ _ _ _ (by omega)]))
   exact oE j2 j3 af
 ·replace h6:k=ps.length:=by simp at h6;omega
  subst h6
  rw[List.drop_length]at hL
  simp only[List.map_nil,lJ]at hL
  injection hL with hL
  injection hL with hL1 hL2
  subst hL2
  refine fZ ?_
  refine aY hL1.symm hA _ _ nx ?_ ?_ ?_ q3 q4 (fun j j1 j2 j3=>oE j2 j3 af)
  ·omega
  ·omega
  ·exact hgU.mono af
theorem Ov{s:aA}{b:List (Int×Tm)}{l:List TB}{ρ:Int->Nat}{R:Nat}(h:kq s b l ρ R)(hl:iE s l):dc (b.map (·.1))=l.map (·.var):=by
 have hp:(dc (b.map (·.1))).Perm (b.map (·.1)):=List.mergeSort_perm _ _
 have hs:(dc (b.map (·.1))).Pairwise (fun a b=>decide (a<=b)=true):=List.pairwise_mergeSort (fun a b c h1 h2=>by simp at*;omega) (fun a b=>by simp;omega) _
 have AF:(dc (b.map (·.1))).Nodup:=hp.nodup_iff.2 h.keys
 refine NA ((hs.and AF).imp fun {a b} h=>by have:=h.1;have:=h.2;simp at*;omega) (List.pairwise_map.2 hl.srt) fun v=> ?_
 have e:=h.x5 v
 rw[l6,l6]at e
 have e2:(ah l).map (·.1)=l.map (·.var):=by unfold ah;rw[List.map_map];rfl
 rw[e2]at e
 rw[hp.mem_iff]
 exact Decidable.not_iff_not.1 e
theorem Ow{s:aA}{l:List TB}(hl:iE s l):((ah l).map (·.1)).Nodup:=by
 have e2:(ah l).map (·.1)=l.map (·.var):=by unfold ah;rw[List.map_map];rfl
 rw[e2]
 exact(List.pairwise_map.2 hl.srt).imp fun h=>af
theorem Ox{s:aA}{b:List (Int×Tm)}{l:List TB}{ρ:Int->Nat}{R:Nat}(h:kq s b l ρ R)(hl:iE s l){k:Nat}{y:TB}(hy:l[k]? =some y):∃x f,bS b y.var=some x/\ve f b x=some y.term/\Vs s x:=by
 have hm:=List.mem_of_getElem? hy
 have h1:bS (ah l) y.var=some y.term:=(jj (Ow hl)).2 (ir hm)
 cases hx:bS b y.var with
 |none=>rw[(h.x5 _).1 hx]at h1;cases h1
 |some x=>
  obtain⟨q1,q2,_⟩:=h.ok _ _ hx
  have e:y.term=aS (ah l) x:=by rw[<- q2];simp[Lv,h1]
  exact⟨x,_,rfl,by rw[e];exact pU h _ x q1 (Nat.le_refl _),q1⟩
theorem Tm.RA:∀t:Tm,t.iz->t.wid:=by
 refine Tm.eN fun t ih h=> ?_
 have h':=(Tm.iA t).1 h
 rw[Tm.Bt]
 exact⟨af,fun k hk=>ih k hk (h'.2 k hk)⟩
def Pa(l c:Nat)(b:List (Int×Tm))(L:List TB):Nat->ab:=ay (ay (ay (ay (fun _=> .no) 3 (.cj (enc (D.int .i64) (kD b)))) 5 (.row [.mp 3, .osl l 0, .d (.bool false)])) 6 (.row [.ptr 5 0])) c (.arr 0 59 4 (L.map TB.d))
theorem Oy{l c:Nat}{b:List (Int×Tm)}{L:List TB}(hc:6<c):Pa l c b L 3= .cj (enc (D.int .i64) (kD b))/\Pa l c b L 5= .row [.mp 3, .osl l 0, .d (.bool false)]/\Pa l c b L 6= .row [.ptr 5 0]/\Pa l c b L c= .arr 0 59 4 (L.map TB.d):=by
 unfold Pa
 exact⟨by(repeat(first|rfl|rw[aa]|rw[ae _ _ _ _ (by omega)])),by(repeat(first|rfl|rw[aa]|rw[ae _ _ _ _ (by omega)])),by(repeat(first|rfl|rw[aa]|rw[ae _ _ _ _ (by omega)])),by(repeat(first|rfl|rw[aa]|rw[ae _ _ _ _ (by omega)]))⟩
theorem Oz(gone:Nat->Prop)(x:V)(env:List V){l c:Nat}{b:List (Int×Tm)}{L:List TB}(hc:6<c)(hl:l<c)(ta:∀id,gone id->c<=id){e:Nat->V}{so:Nat->ab}{m:Nat}(gx:fW so gone 59 4 (L.map TB.d) x)
 (s3:so 3= .cj (enc (D.int .i64) (kD b))) (s5:so 5= .row [.mp 3, .osl l 0, .d (.bool false)]) (s6:so 6= .row [.ptr 5 0]) (he:iV c [⟨x,59,4,L.map TB.d⟩] so gone e env 0):bO 0 ⟨e,so,m⟩ ⟨aZ env,Pa l c b L,c+1⟩:=by
 obtain⟨g3,g5,g6,gc⟩:=Oy (l:=l) (b:=b) (L:=L) hc
 refine bO.uK gone x c env af (fun j hj=> ?_) gc gx (fun j hj=> ?_) (fun j h1 h2=>absurd (ta j h1) af) he
 ·by_cases e3:j=3
  ·subst e3;rw[s3,g3];exact bD rfl (fun r hr=>by simp[ab.refs]at hr)
  by_cases e5:j=5
  ·subst e5;rw[s5,g5];exact bD rfl (fun r hr=>by simp[ab.refs,V.aL,V.refs]at hr;omega)
  by_cases e6:j=6
  ·subst e6;rw[s6,g6];exact bD rfl (fun r hr=>by simp[ab.refs,V.aL,V.refs]at hr;omega)
  have:Pa l c b L j= .no:=by unfold Pa;(repeat(first|rfl|rw[aa]|rw[ae _ _ _ _ (by omega)]))
  rw[this];exact kW
 ·unfold Pa
  exact cg
theorem z7{s:aA}{ps:List (Tm×Tm)}(FG:∀p∈ps,QT s p.1/\QT s p.2)(hlen:ps.length<=1000){f:Nat}{e:Int}{b':List (Int×Tm)}(hf:lJ (iw false f) (ps.map (·.1)) (ps.map (·.2)) []=some (e,b')){l':List TB}{ρ:Int->Nat}{R:Nat}(hS:e=0->kq s b' l' ρ R/\iE s l'/\∀x∈l',x.term.iz):
 aX Tryz.prog 67 [.sl (ps.map xe)] (.ret [.sl (if e=0 then l'.map TB.d else []), .bool (e==0)]):=by
 refine aX.aG mix adh aE ?_
 rw[c67]
 refine fZ ?_
 refine aU (zX _ _ _ _ ?_ _ _ (Ry FG hlen hf (lb:=0) (xb:=6) (x:=5) (m:=3) _ _ ?_ cg cg cg cg _ _ (fun h0 hA o1 n1 l g1 g2 g3 g4 g5 g6=>⟨af,g3, ?_,fun o2 n2 k1 k2 k3=> ?_⟩) (fun je v o1 n1 hv g1 g3 g6=> ?_)))
 ·exact dt
 ·exact dt
 ·rw[g6 _ (by omega) (by omega) (by omega)];(repeat(first|rfl|rw[aa]|rw[ae _ _ _ _ (by omega)]))
 ·have f5:o2 5= .row [.mp 3, .osl l 0, .d (.bool false)]:=by rw[k3 _ (by omega) (by omega)];exact g4
  have f3:o2 3=dv b':=by rw[k3 _ (by omega) (by omega)];exact g5
  have f6:o2 6= .row [.ptr 5 0]:=by rw[k3 _ (by omega) (by omega),g6 _ (by omega) (by omega) (by omega)];(repeat(first|rfl|rw[aa]|rw[ae _ _ _ _ (by omega)]))
  obtain⟨aeY,aeZ,hfw⟩:=hS h0
  have aht:b'.length<=20:=by
   have:=DY hA.keys fun v hv=>by
    obtain⟨p,hp,rfl⟩:=List.mem_map.1 hv
    exact(hA.ok p hp).1
   rwa [List.length_map]at this
  have Vi:=Ov aeY aeZ
  have ahA:l'.length<=20:=by
   have e1:=congrArg List.length Vi
   unfold dc at e1
   rw[List.length_mergeSort,List.length_map,List.length_map]at e1
   omega
  refine Vv f5 f3 f6 ?_
  refine bM (bQ.F2 (id:=3) f3 af (Ru 3 _ _ _ _ ?_))
  refine fZ ?_
  refine aU (bQ.seal (Oq (b:=b') af (p:=n2+8) (m:=3) _ _ ?_ cg cg _ _ (fun o3 n3 id ep m1 m2 m3 m4 m5=>⟨.sl ((l'.map (·.var)).map .i), ?_, ?_⟩)))
  ·refine Good.ay (Good.ay (k2.mono af) af rfl) af ?_
   exact ur
  ·rw[Vi]at m5
   exact Ad m5
  have F:∀j,j<n2+8->put o3 (bG o3 [id]) j=ay (ay o2 3 (.cj (enc (D.int .i64) (kD b')))) (n2+8) (.row [.mp 3]) j:=fun j hj=>by
   rw[BC _ _ _ (fun y hy=> ?_),m4 j (by omega)]
   simp[bG]at hy
   subst hy
   dsimp only
   omega
  have F5:put o3 (bG o3 [id]) 5= .row [.mp 3, .osl l 0, .d (.bool false)]:=by rw[F 5 (by omega)];(repeat(first|rfl|rw[aa]|rw[ae _ _ _ _ (by omega)]));exact f5
  have F3:put o3 (bG o3 [id]) 3= .cj (enc (D.int .i64) (kD b')):=by rw[F 3 (by omega)];(repeat(first|rfl|rw[aa]|rw[ae _ _ _ _ (by omega)]))
  have F6:put o3 (bG o3 [id]) 6= .row [.ptr 5 0]:=by rw[F 6 (by omega)];(repeat(first|rfl|rw[aa]|rw[ae _ _ _ _ (by omega)]));exact f6
  have hGO:=xq m3 [id]
  have YV:l<n3:=af
  clear F
  simp only[V.ids]
  generalize put o3 (bG o3 [id])=O at F5 F3 F6 hGO|-
  simp+contextual (disch:=first|omega|simp only[go_sem,false_implies]) only[go_sem,wrap64,if_pos,F5,F3,F6,Nat.add_assoc,Nat.left_eq_add,Nat.add_eq_left,Nat.add_left_cancel_iff,List.length_map]
  refine aD (fun k:Nat=>⟨aZ [.ad, .ad, .ad, .ad, .ptr 6 0, .ad, .osl n3 0, .ad, .ad, .ad, .ad, .ad, .ad, .ad, .ad, .ad, .ad, .ad, .ad, .ad, .ad, .d (.sl ((l'.map (·.var)).map .i)), .d (.i l'.length), .d (.i k)],Pa l n3 b' (l'.take k),n3+1⟩)
   (fun k=>k<=l'.length) (fun k=>l'.length - k) 0 (Nat.zero_le _) (Oz (fun _=>False) .aw _ af YV (fun _ h=>h.elim) (.inl ⟨rfl,rfl,bC⟩) F3 F5 F6 ?_) (fun k hk=> ?_)
  ·exact kG
  replace hk:k<=l'.length:=hk
  obtain⟨g3,g5,g6',gc⟩:=Oy (l:=l) (c:=n3) (b:=b') (L:=l'.take k) af
  refine aam g3 g5 g6' gc ?_
  refine ao (fun h6=> ?_) (fun h6=> ?_)
  ·replace h6:k<l'.length:=by simp at h6;omega
   obtain⟨y,hy⟩:=aB h6
   obtain⟨x,fx,x1,x2,x3⟩:=Ox aeY aeZ hy
   have oz:l'.take (k+1)=l'.take k++[y]:=by rw[List.take_add_one,hy];rfl
   have e0:(l'.take k).length=k:=by rw[List.length_take];omega
   have eE:k<=140737488355327/\(k+1)*48<=140737488355328:=af
   obtain⟨jx,hjx⟩:=gk x1
   refine aal g3 g5 g6' gc hy hjx ?_
   refine aV (Gd (fun p hp=>(hA.ok p hp).2.fits) fx x y.term (hA.ok _ (cK x1)).2.fits x2 (Tm.RA _ (hfw y (List.mem_of_getElem? hy)))) ?_
   refine aal g3 g5 g6' gc e0 eE ?_
   refine aI (bu (ids:=[6,5,3,n3,n3+19]) (nx:=n3+22) (by simp<;>omega) (by simp<;>omega) [([],[]),([],[]),([0],[]),([1],[]),([1],[]),([1],[]),([0],[]),([1],[]),([1],[]),([1],[]),([],[]),([2],[]),([2],[2]),([],[]),([],[4]),([3,4],[3]),([],[])] bC) ?_
   refine fZ ?_
   refine aj (k+1) h6 af (Oz (fun j=>n3<=j) (.osl n3 1) _ af YV (fun _ h=>h) (.inr ⟨n3,1,Nat.le_refl _,rfl,by(repeat(first|rfl|rw[aa]|rw[ae _ _ _ _ (by omega)]));rw[oz,List.map_append];rfl⟩) cg (by(repeat(first|rfl|rw[aa]|rw[ae _ _ _ _ (by omega)]));exact g5) (by(repeat(first|rfl|rw[aa]|rw[ae _ _ _ _ (by omega)]));exact g6') ?_)
   exact kG
  ·replace h6:k=l'.length:=by simp at h6;omega
   subst h6
   rw[List.take_length]at g3 g5 g6' gc|-
   rw[if_pos h0]
   subst h0
   simp+contextual (disch:=first|omega|simp only[go_sem,false_implies]) only[go_sem,wrap64,if_pos,g3,g5,g6',gc,Nat.add_assoc,Nat.left_eq_add,Nat.add_eq_left,Nat.add_left_cancel_iff]
 ·have ee:(e==0)=false:=by rw[beq_eq_false_iff_ne];exact je
  rw[if_neg je,ee]
  rcases hv with rfl|rfl
  ·refine .inl ⟨rfl,af,g3,by rw[g6 _ (by omega) (by omega) (by omega)];(repeat(first|rfl|rw[aa]|rw[ae _ _ _ _ (by omega)])),fun o2 n2 k1 k2 k3=> ?_⟩
   exact Vw
  ·refine .inr ⟨rfl,af,g3,by rw[g6 _ (by omega) (by omega) (by omega)];(repeat(first|rfl|rw[aa]|rw[ae _ _ _ _ (by omega)])),fun o2 n2 k1 k2 k3=> ?_⟩
   exact Vw
end Go.Proofs.YtlhemmpklhhgoaaGreat
namespace Go.Proofs.YtlhemmpklhhgoaaGreat
theorem Iv(v:Int):(Tm.mk 1 v []).iz:=by rw[Tm.iA];simp[Tm.kids]
theorem mU{l:List TB}(h:∀x∈l,x.term.iz):∀p∈ah l,p.2.iz:=fun p hp=>by
 obtain⟨x,hx,rfl⟩:=List.mem_map.1 hp
 exact h x hx
theorem xr{l:List TB}{n:Int}{t:Tm}(hl:∀x∈l,x.term.iz)(ht:t.iz):∀x∈iD l n t,x.term.iz:=fun x hx=>by
 rcases u7.1 hx with rfl|hx
 ·exact ht
 ·obtain⟨y,hy,rfl⟩:=List.mem_map.1 hx
  exact Tm.oC (fun p hp=>by simp[xZ]at hp;subst hp;exact ht) _ (hl y hy)
theorem Iw:∀ (f:Nat) (a c:Tm) (l:List TB) (r:List TB×Bool),fN f a c l=some r->a.iz->c.iz->(∀x∈l,x.term.iz)->∀x∈r.1,x.term.iz
 |0,_,_,_,_,h,_,_,_=>by cases h
 |f+1,a,c,l,r,h,ha,hc,hl=>by
  have fa:=Tm.oC (mU hl) a ha
  have fc:=Tm.oC (mU hl) c hc
  simp only[fN]at h
  generalize aS (ah l) a=a0 at*
  generalize aS (ah l) c=c0 at*
  split at h
  ·injection h with h;subst h;exact hl
  ·split at h
   ·injection h with h;subst h;exact xr hl (Iv _)
   ·split at h
    ·injection h with h;subst h;exact xr hl fc
    ·split at h
     ·injection h with h;subst h;exact xr hl fa
     ·split at h
      ·injection h with h;subst h;intro x hx;cases hx
      ·have key:∀ (ks cE:List Tm) (l:List TB),(∀k∈ks,k.iz)->(∀k∈cE,k.iz)->(∀x∈l,x.term.iz)->de (fN f) ks cE l=some r->∀x∈r.1,x.term.iz:=by
        intro ks
        induction ks with
        |nil=>intro cE l _ _ hl h;simp only[de]at h;injection h with h;subst h;exact hl
        |cons k ks x7=>
         intro cE l m1 m2 hl h
         cases cE with
         |nil=>simp only[de]at h;injection h with h;subst h;exact hl
         |cons k' cE=>
          simp only[de]at h
          cases e:fN f k k' l with
          |none=>rw[e]at h;cases h
          |some r1=>
           have h1:=Iw f k k' l r1 e (m1 k aE) (m2 k' aE) hl
           obtain⟨l1,ok⟩:=r1
           rw[e]at h
           cases ok with
           |false=>simp only at h;injection h with h;subst h;exact h1
           |true=>exact x7 cE l1 (fun y hy=>m1 y lh) (fun y hy=>m2 y lh) h1 h
       exact key _ _ l ((Tm.iA _).1 fa).2 ((Tm.iA _).1 fc).2 hl h
end Go.Proofs.YtlhemmpklhhgoaaGreat
set_option maxHeartbeats 8000000
namespace Go.Proofs.YtlhemmpklhhgoaaGreat
theorem YW{s:aA}{b:List (Int×Tm)}{l:List TB}{ρ:Int->Nat}{R:Nat}(h:kq s b l ρ R)(hl:iE s l)(hf:∀p∈b,zQ b p.2):∀y∈l,y.term.sz<=40:=fun y hm=>by
 have h1:bS (ah l) y.var=some y.term:=(jj (Ow hl)).2 (ir hm)
 cases hx:bS b y.var with
 |none=>rw[(h.x5 _).1 hx]at h1;cases h1
 |some x=>
  obtain⟨q1,q2,_⟩:=h.ok _ _ hx
  have e:y.term=aS (ah l) x:=by rw[<- q2];simp[Lv,h1]
  rw[e]
  exact N2 h q1 (hf _ (cK hx))
theorem Ix{s:aA}{b:List (Int×Tm)}{l:List TB}{ρ:Int->Nat}{R:Nat}(h:kq s b l ρ R)(hl:iE s l)(hf:∀p∈b,zQ b p.2){t:Tm}(ht:bB s t=true):Vs s (aS (ah l) t)/\(aS (ah l) t).iz/\(aS (ah l) t).sz<=1600:=by
 obtain⟨h1,h2,_⟩:=bz ht
 refine⟨Vs.sub hl.bd t h1,Tm.oC (mU fun x hx=>Tm.Gj _ (by have:=YW h hl hf x hx;omega)) t (iY ht), ?_⟩
 have:=mS h hf h1
 omega
theorem RB{s:aA}{x y:Tm}(hx:Vs s x/\x.iz/\x.sz<=1600)(hy:Vs s y/\y.iz/\y.sz<=1600){f:Nat}{r:List TB×Bool}(h:fN f x y []=some r):
 aX Tryz.prog 67 [.sl [xe (x,y)]] (.ret [.sl (if r.2=true then r.1.map TB.d else []), .bool r.2]):=by
 obtain⟨g,e,b',h1,h2⟩:=Bv (lim:=false) f x y [] r h iE.nil hx.1 hy.1 x y [] _ _ kq.nil hx.1 hy.1 rfl rfl
 have hL:lJ (iw false g) (([(x,y)]:List (Tm×Tm)).map (·.1)) (([(x,y)]:List (Tm×Tm)).map (·.2)) []=some (e,b'):=by
  simp only[List.map_cons,List.map_nil,lJ,h1]
  by_cases e0:e=0
  ·rw[if_pos e0,e0]
  ·rw[if_neg e0]
 have hq:∀p∈([(x,y)]:List (Tm×Tm)),QT s p.1/\QT s p.2:=fun p hp=>by
  simp at hp
  subst hp
  exact⟨⟨hx.1,by have:=hx.2.2;dsimp only;omega⟩,⟨hy.1,by have:=hy.2.2;dsimp only;omega⟩⟩
 rcases h2 with⟨rfl,h3,K4,R',hS⟩|⟨rfl,h3⟩|⟨_,h3⟩
 ·have hr:r=(r.1,true):=by rw[<- h3]
  have ahf:=(ow f x y [] r.1 (by rw[h,hr]) iE.nil hx.1 hy.1).1
  have:=z7 hq aE hL (l':=r.1) (ρ:=K4) (R:=R') (fun _=>⟨hS,ahf,Iw f x y [] r h hx.2.1 hy.2.1 (fun _ h=>by cases h)⟩)
  rw[h3,if_pos rfl]
  exact this
 ·have:=z7 hq aE hL (l':=[]) (ρ:=fun _=>0) (R:=0) (fun h=>absurd h bC)
  rw[h3,if_neg (by decide)]
  exact this
 ·cases h3
theorem RC(l:List Nt)(hl:l.length<=1000):O4 Tryz.prog 69 [.sl (l.map Nt.d)] (.pF (l.map Nt.d)):=by
 refine O4.lA rfl ?_
 refine bQ.aG mix adj aE ?_
 rw[c69]
 have hc:((l.map Nt.d).all fun z=>z.cells.length==6)=true:=by
  rw[List.all_eq_true]
  intro z hz
  obtain⟨r,_,rfl⟩:=List.mem_map.1 hz
  rfl
 have hk:(l.map Nt.d).take l.length=l.map Nt.d:=List.take_of_length_le aE
 exact aar hk
theorem Gu(s:bU)(hs:s.Cp)(b:List (Int×Tm))(o:Nat->ab)(nx id lb:Nat)(hg:Good o nx)(ax:o id= .cj (enc (D.int .i64) (kD b)))(L4:o lb= .arr 0 101 6 (s.aH.map Nt.d))(K X:V->(Nat->ab)->Nat->Prop)
 (xh:∀o' nx' i j k,nx<=nx'->Good o' nx'->(∀j,j<nx->j≠lb->o' j=o j)->
  o' i= .arr 0 59 4 (s.binds.map TB.d)->o' j= .arr 0 101 6 (s.aH.map Nt.d)->o' k= .arr 0 77 2 (s.marks.map tx)->
  K (.agg [.d (.sl (s.sig.cons.map ei.d)), .d (.sl (s.sig.b9.map ei.d)), .osl i 0, .osl j 0, .osl k 0]) o' nx'):
 bQ Tryz.prog 65 [.agg [.d (.sl (s.sig.cons.map ei.d)), .d (.sl (s.sig.b9.map ei.d)), .d (.sl (s.binds.map TB.d)), .osl lb 0, .d (.sl (s.marks.map tx)), .mp id]] o nx K X:=by
 refine bQ.xf (d:=s.kd b) ?_ ?_
 ·exact Po ax L4
 ·refine Bz s hs b _ nx (xq hg _) K X (fun o' nx' i j k m1 m2 m3 m4 m5 m6=>xh o' nx' i j k m1 m2 (fun j j1 j2=>(m3 j j1).trans ?_) m4 m5 m6)
  show put o (bG o [lb,id]) j=o j
  simp only[bG,List.map_cons,List.map_nil,ax,L4,put,List.foldl_cons,List.foldl_nil]
  by_cases e:j=id
  ·subst e;rw[aa,ax]
  ·rw[ae _ _ _ _ e,ae _ _ _ _ j2]
def fA(s:bU)(bA uy:Bool):Int:=if bA=true then 5 else if uy=true then(if s.aH.length=12 then 3 else 0)else 0
def jl(s:bU)(n:Nt)(bA uy:Bool):bU:=if bA=true then kZ else if uy=true then(if s.aH.length=12 then kZ else s.tE n)else s
theorem Ep(s:bU)(hs:s.Fin)(a c:Tm)(ha:a.Fin)(hc:c.Fin)(h:bw s)(va:bB s.sig a=true)(vc:bB s.sig c=true){bA:Bool}(EI:bA=true↔oZ (ah s.binds) ⟨a,c⟩){l':List TB}{ρ:Int->Nat}{R:Nat}(hS:kq s.sig (ah s.binds) l' ρ R)(hl:iE s.sig l')
 {f:Nat} {r:List TB×Bool} (hr:fN f (aS (ah l') a) (aS (ah l') c) []=some r):aX Tryz.prog 16 [s.d,a.d,c.d] (.ret [(jl s ⟨a,c⟩ bA r.2).d, .i (fA s bA r.2)]):=by
 have c9:∀p∈ah s.binds,zQ (ah s.binds) p.2:=fun p hp=>(h.jk.all p hp).1
 have oa:=Ix hS hl c9 va
 have oc:=Ix hS hl c9 vc
 have fa:=pU hS _ a (bz va).1 (Nat.le_refl _)
 have fc:=pU hS _ c (bz vc).1 (Nat.le_refl _)
 have uD:=h.rW
 refine aX.aG mix ac5 aE ?_
 rw[c16]
 refine fZ ?_
 refine bM (BB s hs a c ha hc _ _ dt _ _ (fun h1 h2 h3 o' nx' id i1 i2 i3 i4=> ?_) (fun hn=>absurd ⟨h,va,vc⟩ hn))
 have e1:o' 1= .row a.row:=(i3 _ af).trans cg
 have e2:o' 2= .row c.row:=(i3 _ af).trans cg
 have e3:o' 3= .row [.aw, .aw, .aw, .aw, .aw]:=(i3 _ af).trans cg
 have ax:id<nx':=Good.lt i2 GG
 have w1:∀k,id≠nx'+k:=fun k=>af
 have w2:∀k,(1:Nat)≠nx'+k:=fun k=>af
 have w3:∀k,(2:Nat)≠nx'+k:=fun k=>af
 have w4:∀k,(3:Nat)≠nx'+k:=fun k=>af
 have w5:∀k,nx'+k≠id:=fun k=>af
 have d1:(1:Nat)≠id:=fun e=>by subst e;rw[e1]at i4;cases i4
 have d2:(2:Nat)≠id:=fun e=>by subst e;rw[e2]at i4;cases i4
 have d3:(3:Nat)≠id:=fun e=>by subst e;rw[e3]at i4;cases i4
 simp+contextual (disch:=first|omega|simp only[go_sem,false_implies]) only[go_sem,wrap64,if_pos,Nat.add_assoc,Nat.left_eq_add,Nat.add_eq_left,Nat.add_left_cancel_iff,e1,e2,e3,i4,w1,w2,w3,w4,w5,d1,d2,d3]
 refine ak (Gs h.jk s (n:=⟨a,c⟩) va vc EI).1 rfl ?_
 cases bA with
 |true=>
  simp+contextual (disch:=first|omega|simp only[go_sem,false_implies]) only[go_sem,wrap64,if_pos,Nat.add_assoc,Nat.left_eq_add,Nat.add_eq_left,Nat.add_left_cancel_iff,e1,e2,e3,i4,w1,w2,w3,w4,o9,fA,jl]
 |false=>
  simp+contextual (disch:=first|omega|simp only[go_sem,false_implies]) only[go_sem,wrap64,if_pos,Nat.add_assoc,Nat.left_eq_add,Nat.add_eq_left,Nat.add_left_cancel_iff,e1,e2,e3,i4,w1,w2,w3,w4,w5,d1,d2,d3]
  refine aV (w9 (fun p hp=>(h.jk.all p hp).2) _ a _ ha.fits fa af) ?_
  simp+contextual (disch:=first|omega|simp only[go_sem,false_implies]) only[go_sem,wrap64,if_pos,Nat.add_assoc,Nat.left_eq_add,Nat.add_eq_left,Nat.add_left_cancel_iff,e1,e2,e3,i4,w1,w2,w3,w4,w5,d1,d2,d3]
  refine aV (w9 (fun p hp=>(h.jk.all p hp).2) _ c _ hc.fits fc af) ?_
  simp+contextual (disch:=first|omega|simp only[go_sem,false_implies]) only[go_sem,wrap64,if_pos,Nat.add_assoc,Nat.left_eq_add,Nat.add_eq_left,Nat.add_left_cancel_iff,e1,e2,e3,i4,w1,w2,w3,w4,w5,d1,d2,d3]
  refine aV (RB oa oc hr) ?_
  simp+contextual (disch:=first|omega|simp only[go_sem,false_implies]) only[go_sem,wrap64,if_pos,Nat.add_assoc,Nat.left_eq_add,Nat.add_eq_left,Nat.add_left_cancel_iff,e1,e2,e3,i4,w1,w2,w3,w4,w5,d1,d2,d3]
  refine aI (bu (ids:=[nx'+3,1,id,2,nx'+25]) (nx:=nx'+32) gP gP [([0],[]),([0],[]),([1],[]),([2],[2]),([0],[]),([0],[]),([3],[]),([2],[2]),([],[]),([],[4]),([4],[4]),([],[]),([],[]),([],[]),([],[]),([],[])] bC) ?_
  have hg:=i2
  have Rx:=h.cp
  cases yS:r.2 with
  |false=>
   rw[show jl s ⟨a,c⟩ false false=s from rfl,show fA s false false=0 from rfl]
   simp+contextual (disch:=first|omega|simp only[go_sem,false_implies]) only[go_sem,wrap64,if_pos,Nat.add_assoc,Nat.left_eq_add,Nat.add_eq_left,Nat.add_left_cancel_iff,e1,e2,e3,i4,w1,w2,w3,w4,w5,d1,d2,d3]
   refine bM (Oi s h.cp (ah s.binds) _ _ id dt cg _ _ (fun o2 n2 i j k m1 m2 m3 m4 m5 m6=> ?_))
   have f3:o2 3= .row [.aw, .aw, .aw, .aw, .aw]:=(m3 3 af).trans I6
   have z1:i≠3:=fun e=>by subst e;rw[m4]at f3;cases f3
   have z2:j≠3:=fun e=>by subst e;rw[m5]at f3;cases f3
   have z3:k≠3:=fun e=>by subst e;rw[m6]at f3;cases f3
   exact Pk f3 m4 m5 m6 z1 z2 z3
  |true=>
   by_cases Ij:s.aH.length=12
   ·have YX:((s.aH.length:Int)==12)=true:=by rw[beq_iff_eq];omega
    simp+contextual (disch:=first|omega|simp only[go_sem,false_implies]) only[go_sem,wrap64,if_pos,Nat.add_assoc,Nat.left_eq_add,Nat.add_eq_left,Nat.add_left_cancel_iff,e1,e2,e3,i4,w1,w2,w3,w4,w5,d1,d2,d3,List.length_map,YX,Ij,o9,fA,jl]
   ·have YX:((s.aH.length:Int)==12)=false:=by rw[beq_eq_false_iff_ne];omega
    simp+contextual (disch:=first|omega|simp only[go_sem,false_implies]) only[go_sem,wrap64,if_pos,Nat.add_assoc,Nat.left_eq_add,Nat.add_eq_left,Nat.add_left_cancel_iff,e1,e2,e3,i4,w1,w2,w3,w4,w5,d1,d2,d3,List.length_map,YX]
    refine zp (RC s.aH af) ?_
    have eE:s.aH.length+1<=1099511627776/\(s.aH.length+1)*72<=1099511627776:=af
    simp+contextual (disch:=first|omega|simp only[go_sem,false_implies]) only[go_sem,wrap64,if_pos,Nat.add_assoc,Nat.left_eq_add,Nat.add_eq_left,Nat.add_left_cancel_iff,e1,e2,e3,i4,w1,w2,w3,w4,w5,d1,d2,d3,List.length_map,eE]
    refine aI (bu (ids:=[nx'+3,nx'+11,nx'+43,nx'+44]) (nx:=nx'+48) aE aE [([0],[]),([0],[]),([0],[]),([],[]),([1],[]),([],[2]),([2],[3]),([0],[]),([0],[]),([0,3],[0])] bC) ?_
    simp+contextual (disch:=first|omega|simp only[go_sem,false_implies]) only[go_sem,wrap64,if_pos,Nat.add_assoc,Nat.left_eq_add,Nat.add_eq_left,Nat.add_left_cancel_iff,e1,e2,e3,i4,w1,w2,w3,w4,w5,d1,d2,d3]
    have ahg:(s.tE ⟨a,c⟩).Cp:=by
     refine⟨Rx.lc,Rx.lf,Rx.bl, ?_,Rx.ml,Rx.bt,fun x hx=> ?_⟩
     ·show(s.aH++[_]).length<=1000
      simp;omega
     ·have hx:x∈s.aH++[⟨a,c⟩]:=hx
      rcases List.mem_append.1 hx with hx|hx
      ·exact Rx.nt x hx
      ·simp at hx
       subst hx
       have q1:=(bz va).2.1
       have q2:=(bz vc).2.1
       exact⟨by dsimp only;omega,by dsimp only;omega⟩
    rw[show jl s ⟨a,c⟩ false true=s.tE ⟨a,c⟩ by simp[jl,Ij],show fA s false true=0 by simp[fA,Ij]]
    refine bM (Gu (s.tE ⟨a,c⟩) ahg (ah s.binds) _ _ id (nx'+44) ?_ ?_ ?_ _ _ (fun o2 n2 i j k m1 m2 m3 m4 m5 m6=> ?_))
    ·exact dt
    ·exact cg
    ·(repeat(first|rfl|rw[aa]|rw[ae _ _ _ _ (by omega)]))
     simp[bU.tE]
    have f3:o2 3= .row [.aw, .aw, .aw, .aw, .aw]:=(m3 3 af af).trans I6
    have z1:i≠3:=fun e=>by subst e;rw[m4]at f3;cases f3
    have z2:j≠3:=fun e=>by subst e;rw[m5]at f3;cases f3
    have z3:k≠3:=fun e=>by subst e;rw[m6]at f3;cases f3
    exact Pk f3 m4 m5 m6 z1 z2 z3
end Go.Proofs.YtlhemmpklhhgoaaGreat
set_option maxHeartbeats 4000000
namespace Go.Proofs.YtlhemmpklhhgoaaGreat
theorem bw.same {s:bU}(h:s.Cp):aX Tryz.prog 21 [s.d,s.d] (.ret [.bool true]):=by
 have h3:=h.bl
 have h4:=h.nl
 have h5:=h.ml
 exact xp s h.lc h.lf af af af (fun x hx=>Tm.dD _ (h.bt x hx)) (fun x hx=>⟨Tm.dD _ (h.nt x hx).1,Tm.dD _ (h.nt x hx).2⟩)
end Go.Proofs.YtlhemmpklhhgoaaGreat
set_option maxHeartbeats 8000000
namespace Go.Proofs.YtlhemmpklhhgoaaGreat
theorem Iy:kZ.Cp:=⟨bC,bC,bC,bC,bC,fun _ h=>kJ,fun _ h=>kJ⟩
theorem iZ{s:aA}{t:Tm}(h:bB s t=true):t.Fin:=by
 obtain⟨_,h2,h3⟩:=bz h
 exact⟨Tm.dD t af,af⟩
theorem bw.fin {s:bU}(h:bw s)(hf:s.sig.Fits):s.Fin:=by
 have h1:=h.jk.len
 have h2:=h.rW
 have h3:=h.D8
 exact⟨hf,af,af,af,fun x hx=>iZ (h.jk.ok x hx).2,fun n hn=>⟨iZ (h.aH n hn).1,iZ (h.aH n hn).2.1⟩⟩
theorem Gv{s:bU}(h:bw s)(hf:s.sig.Fits){a c:Tm}(va:bB s.sig a=true)(vc:bB s.sig c=true){bA:Bool}(EI:bA=true↔oZ (ah s.binds) ⟨a,c⟩)(uy:Bool):
 (jl s ⟨a,c⟩ bA uy).Cp/\(fA s bA uy=0->bw (jl s ⟨a,c⟩ bA uy)/\(jl s ⟨a,c⟩ bA uy).Fin):=by
 unfold jl fA
 have uD:=h.rW
 cases bA with
 |true=>exact⟨Iy,fun h=>absurd (show(5:Int)=0 from h) bC⟩
 |false=>
  cases uy with
  |false=>exact⟨h.cp,fun _=>⟨h,h.fin hf⟩⟩
  |true=>
   by_cases Ij:s.aH.length=12
   ·simp only[Bool.false_eq_true,if_false,if_true,if_pos Ij]
    exact⟨Iy,fun h=>absurd h bC⟩
   ·simp only[Bool.false_eq_true,if_false,if_true,if_neg Ij]
    have hD:bw (s.tE ⟨a,c⟩):=zU h va vc (fun hb=>Bool.false_ne_true (EI.2 hb)) af
    exact⟨hD.cp,fun _=>⟨hD,hD.fin hf⟩⟩
end Go.Proofs.YtlhemmpklhhgoaaGreat
set_option maxHeartbeats 8000000
namespace Go.Proofs.YtlhemmpklhhgoaaGreat
def aah(bA:Bool)(w:Int):Int:=if bA=true then 1 else if w=0 then 3 else if w=5 then 2 else 0
def aai(bA:Bool)(w:Int):Int:=if bA=true then 0 else if w=3 then 3 else 0
theorem BE(s:bU)(hs:s.Fin)(a c:Tm)(ha:a.Fin)(hc:c.Fin)(h:bw s)(va:bB s.sig a=true)(vc:bB s.sig c=true){f:Nat}{e:Int}{b':List (Int×Tm)}(hf:iw true f a c (ah s.binds)=some (e,b'))(he:e=0\/e=5\/e=3){bk:Nt->Bool}(py:e=0->∀n∈s.aH,(bk n=true↔oZ b' n)){bA:Bool}(EI:bA=true↔oZ (ah s.binds) ⟨a,c⟩):
 aX Tryz.prog 35 [s.d,a.d,c.d] (.ret [.i (aah bA (dE e (s.aH.any bk))), .i (aai bA (dE e (s.aH.any bk)))]):=by
 refine aX.aG mix ac7 aE ?_
 rw[c35]
 refine fZ ?_
 refine bM (BB s hs a c ha hc _ _ dt _ _ (fun h1 h2 h3 o' nx' id i1 i2 i3 i4=> ?_) (fun hn=>absurd ⟨h,va,vc⟩ hn))
 have e1:o' 1= .row a.row:=(i3 _ af).trans cg
 have e2:o' 2= .row c.row:=(i3 _ af).trans cg
 have ax:id<nx':=Good.lt i2 GG
 have w1:∀k,id≠nx'+k:=fun k=>af
 have w2:∀k,(1:Nat)≠nx'+k:=fun k=>af
 have w3:∀k,(2:Nat)≠nx'+k:=fun k=>af
 have hg:=i2
 simp+contextual (disch:=first|omega|simp only[go_sem,false_implies]) only[go_sem,wrap64,if_pos,Nat.add_assoc,Nat.left_eq_add,Nat.add_eq_left,Nat.add_left_cancel_iff,e1,e2,i4,w1,w2,w3]
 refine ak (Gs h.jk s (n:=⟨a,c⟩) va vc EI).1 rfl ?_
 cases bA with
 |true=>exact Lc
 |false=>
  simp+contextual (disch:=first|omega|simp only[go_sem,false_implies]) only[go_sem,wrap64,if_pos,Nat.add_assoc,Nat.left_eq_add,Nat.add_eq_left,Nat.add_left_cancel_iff,e1,e2,i4,w1,w2,w3]
  refine bM (On h va vc hf _ _ ?_ Pu bk (En h va vc hf py) _ _ (fun h5 o2 n2 g1 g2 g3=> ?_) (fun h0 hb o2 n2 g1 g2 g3=> ?_) (fun h0 E hE hb o2 n2 vb mid g1 g2 g3 g4 g7 g8=> ?_))
  ·exact dt
  ·have q1:dE e (s.aH.any bk)=e:=by unfold dE;rw[if_neg (by omega)]
   rw[q1]
   rcases h5 with rfl|rfl
   ·exact Lc
   ·exact Lc
  ·have q1:dE e (s.aH.any bk)=5:=by unfold dE;rw[if_pos h0,if_pos hb]
   rw[q1]
   exact Lc
  ·have q1:dE e (s.aH.any bk)=0:=by unfold dE;rw[if_pos h0,if_neg (by rw[hb];exact Bool.false_ne_true)]
   rw[q1]
   exact Lc
end Go.Proofs.YtlhemmpklhhgoaaGreat
namespace Go.Proofs.YtlhemmpklhhgoaaGreat
theorem Er{s:aA}:∀ (f:Nat) (a c:Tm) (l l':List TB),fN f a c l=some (l',true)->iE s l->Vs s a->Vs s c->aS (ah l') a=aS (ah l') c
 |0,_,_,_,_,h,_,_,_=>by cases h
 |f+1,a,c,l,l',h,hl,ha,hc=>by
  obtain⟨yT,ae0⟩:=ow (f+1) a c l l' h hl ha hc
  rw[<- ae0.sub ha, <- ae0.sub hc]
  have va:=Vs.sub hl.bd a ha
  have vc:=Vs.sub hl.bd c hc
  have fc:=fun u=>hl.free hc (u:=u)
  have fa:=fun u=>hl.free ha (u:=u)
  have na:=hl.Kr ha
  have nc:=hl.Kr hc
  have lone:∀ (n:Int) (t:Tm),bS (ah l) n=none->Vs s t->(∀u,fX u t=true->bS (ah l) u=none)-> ¬fX n t=true->aS (ah (iD l n t)) t=t:=fun n t hn ht hf kz=>by
   refine H6 t ht fun u hu=> ?_
   rw[u6 hn,if_neg (show ¬u=n from fun e=>kz (by rw[<- e];exact hu)),hf u hu]
   rfl
  simp only[fN]at h
  generalize aS (ah l) a=a0 at*
  generalize aS (ah l) c=c0 at*
  split at h
  ·rename_i hs
   rw[(dR _ _).1 hs]
  ·rename_i hs
   split at h
   ·rename_i h1
    injection h with h;injection h with h;subst h
    obtain⟨r1,u1,e1⟩:=na h1.1
    obtain⟨r2,u2,e2⟩:=nc h1.2
    have je:a0.n≠c0.n:=fun e=>hs (by rw[dR,e1,e2,e])
    have Av:bS (ah l) (max a0.n c0.n)=none:=by rcases Int.le_total a0.n c0.n with h|h<;>simp[Int.max_def]<;>split<;>assumption
    have hmn:bS (ah l) (min a0.n c0.n)=none:=by rcases Int.le_total a0.n c0.n with h|h<;>simp[Int.min_def]<;>split<;>assumption
    have both:∀v,v=a0.n\/v=c0.n->Lv (ah (iD l (max a0.n c0.n) (.mk 1 (min a0.n c0.n) []))) v= .mk 1 (min a0.n c0.n) []:=fun v hv=>by
     rw[jG Av]
     by_cases e:v=max a0.n c0.n
     ·rw[if_pos e]
     ·rw[if_neg e]
      have e3:v=min a0.n c0.n:=af
      have hlv:bS (ah l) v=none:=by rw[e3];exact hmn
      rw[show Lv (ah l) v= .mk 1 v [] by simp[Lv,hlv],il,tt,if_neg e,e3]
    rw[dV va h1.1,dV vc h1.2,both _ (.inl rfl),both _ (.inr rfl)]
   ·split at h
    ·rename_i h1 h2
     injection h with h;injection h with h h3;subst h
     obtain⟨r1,u1,e1⟩:=na h2
     have kz: ¬fX a0.n c0=true:=fun hh=>by
      have:(cM c0).contains a0.n=true:=List.contains_iff_mem.2 (((cQ c0).2 _).2 hh)
      exact GR
     rw[lone _ _ u1 vc (fun u hu=>fc u hu) kz,dV va h2,jG u1,if_pos rfl]
    ·split at h
     ·rename_i h1 h2 kK
      injection h with h;injection h with h h3;subst h
      obtain⟨r2,u2,e2⟩:=nc kK
      have kz: ¬fX c0.n a0=true:=fun hh=>by
       have:(cM a0).contains c0.n=true:=List.contains_iff_mem.2 (((cQ a0).2 _).2 hh)
       exact GR
      rw[lone _ _ u2 va (fun u hu=>fa u hu) kz,dV vc kK,jG u2,if_pos rfl]
     ·split at h
      ·injection h with h;injection h with _ h;cases h
      ·rename_i h1 h2 h3 h4
       have key:∀ (ks cE:List Tm) (l:List TB),(∀k∈ks,Vs s k)->(∀k∈cE,Vs s k)->iE s l->ks.length=cE.length->de (fN f) ks cE l=some (l',true)->ks.map (aS (ah l'))=cE.map (aS (ah l'))/\ni l l':=by
        intro ks
        induction ks with
        |nil=>
         intro cE l _ _ hl hlen h
         cases cE with
         |nil=>simp only[de]at h;injection h with h;injection h with h;subst h;exact⟨rfl,ni.refl hl⟩
         |cons _ _=>cases hlen
        |cons k ks x7=>
         intro cE l h1 h2 hl hlen h
         cases cE with
         |nil=>cases hlen
         |cons k' cE=>
          simp only[de]at h
          split at h
          ·rename_i l1 e
           have v1:=h1 k aE
           have v2:=h2 k' aE
           obtain⟨g1,g2⟩:=ow f k k' l l1 e hl v1 v2
           have g5:=Er f k k' l l1 e hl v1 v2
           obtain⟨g3,g4⟩:=x7 cE l1 (fun x hx=>h1 x kI) (fun x hx=>h2 x kI) g1 (by simpa using hlen) h
           refine⟨?_,g2.trans hl g4 (fun v=>hl.x5)⟩
           rw[List.map_cons,List.map_cons,g3, <- g4.sub v1, <- g4.sub v2,g5]
          ·injection h with h;injection h with _ h;cases h
          ·cases h
       have e1:a0.op=c0.op:=Classical.byContradiction fun e=>h4 (Or.inl e)
       have e2:a0.n=c0.n:=Classical.byContradiction fun e=>h4 (Or.inr (Or.inl e))
       have e3:a0.kids.length=c0.kids.length:=Classical.byContradiction fun e=>h4 (Or.inr (Or.inr e))
       rw[fQ h2,fQ h3,e1,e2,(key _ _ _ (fun k hk=>va.kA hk) (fun k hk=>vc.kA hk) hl e3 h).1]
def yd(θ:List (Int×Tm))(l:List TB):Prop:=∀v,0<=v/\v<20->aS θ (Lv (ah l) v)=Lv θ v
theorem yd.nil {θ:List (Int×Tm)}:yd θ []:=fun v _=>by rw[show Lv (ah []) v= .mk 1 v []from rfl,il]
theorem yd.sub {s:aA}{θ:List (Int×Tm)}{l:List TB}(h:yd θ l){t:Tm}(ht:Vs s t):aS θ (aS (ah l) t)=aS θ t:=rR t ht fun v hv=>h v (ht.range hv)
theorem yd.YY {s:aA}{θ:List (Int×Tm)}{l:List TB}(h:yd θ l)(hl:iE s l){n:Int}{t:Tm}(hn:bS (ah l) n=none)(e:Lv θ n=aS θ t):yd θ (iD l n t):=fun v hv=>by
 rw[jG hn]
 by_cases h1:v=n
 ·rw[if_pos h1,h1,e]
 ·rw[if_neg h1, <- h v hv]
  refine rR (s:=s) _ (Vs.Lv hl.bd hv) fun u _=> ?_
  rw[tt]
  split
  ·rename_i h2;rw[h2,e]
  ·rw[il]
theorem YZ{s:aA}{θ:List (Int×Tm)}{n:Int}:∀t:Tm,Vs s t->fX n t=true->(Lv θ n).sz<=(aS θ t).sz/\(t.op≠1->(Lv θ n).sz<(aS θ t).sz):=by
 refine Tm.eN fun t ih hv hf=> ?_
 by_cases h1:t.op=1
 ·rw[dV hv h1,(iC h1).1 hf]
  exact⟨Nat.le_refl _,fun h=>absurd h1 h⟩
 ·obtain⟨k,hk,hf2⟩:=(pT hv h1).1 hf
  have h2:=(ih k hk (hv.kA hk) hf2).1
  have h3:aS θ k∈(aS θ t).kids:=by rw[fQ h1];exact List.mem_map.2 ⟨k,hk,rfl⟩
  have h4:=Tm.mm h3
  exact⟨af,fun _=>af⟩
theorem sa{s:aA}{θ:List (Int×Tm)}:∀ (f:Nat) (a c:Tm) (l:List TB) (r:List TB×Bool),fN f a c l=some r->iE s l->Vs s a->Vs s c->yd θ l->aS θ a=aS θ c->r.2=true/\yd θ r.1
 |0,_,_,_,_,h,_,_,_,_,_=>by cases h
 |f+1,a,c,l,r,h,hl,ha,hc,hg,hs=>by
  have va:=Vs.sub hl.bd a ha
  have vc:=Vs.sub hl.bd c hc
  have na:=hl.Kr ha
  have nc:=hl.Kr hc
  rw[<- hg.sub ha, <- hg.sub hc]at hs
  simp only[fN]at h
  generalize aS (ah l) a=a0 at*
  generalize aS (ah l) c=c0 at*
  have occ:∀ (x y:Tm),Vs s x->Vs s y->x.op=1->y.op≠1->aS θ x=aS θ y-> ¬ (cM y).contains x.n=true:=fun x y hx hy h1 h2 e hc=>by
   have h3:=((cQ y).2 _).1 (List.contains_iff_mem.1 hc)
   have h4:=(YZ (θ:=θ) y hy h3).2 h2
   rw[dV hx h1]at e
   rw[e]at h4
   omega
  split at h
  ·injection h with h;subst h;exact⟨rfl,hg⟩
  ·rename_i E1
   split at h
   ·rename_i h1
    injection h with h;subst h
    obtain⟨r1,u1,e1⟩:=na h1.1
    obtain⟨r2,u2,e2⟩:=nc h1.2
    have Av:bS (ah l) (max a0.n c0.n)=none:=by rcases Int.le_total a0.n c0.n with h|h<;>simp[Int.max_def]<;>split<;>assumption
    refine⟨rfl,hg.YY hl Av ?_⟩
    rw[dV va h1.1,dV vc h1.2]at hs
    rw[il]
    rcases Int.le_total a0.n c0.n with h|h
    ·rw[Int.max_eq_right h,Int.min_eq_left h,hs]
    ·rw[Int.max_eq_left h,Int.min_eq_right h,hs]
   ·split at h
    ·rename_i h1 h2
     injection h with h;subst h
     obtain⟨r1,u1,e1⟩:=na h2
     have nk:=occ a0 c0 va vc h2 (fun e=>h1 ⟨h2,e⟩) hs
     refine⟨by simpa using nk,hg.YY hl u1 ?_⟩
     rw[<- hs,dV va h2]
    ·split at h
     ·rename_i h1 h2 h3
      injection h with h;subst h
      obtain⟨r2,u2,e2⟩:=nc h3
      have nk:=occ c0 a0 vc va h3 h2 hs.symm
      refine⟨by simpa using nk,hg.YY hl u2 ?_⟩
      rw[hs,dV vc h3]
     ·rename_i h1 h2 h3
      rw[fQ h2,fQ h3]at hs
      injection hs with q1 q2 q3
      have q4:a0.kids.length=c0.kids.length:=by simpa using congrArg List.length q3
      rw[if_neg (by rintro(h|h|h)<;>contradiction)]at h
      have key:∀ (ks cE:List Tm) (l:List TB),(∀k∈ks,Vs s k)->(∀k∈cE,Vs s k)->iE s l->yd θ l->ks.map (aS θ)=cE.map (aS θ)->de (fN f) ks cE l=some r->r.2=true/\yd θ r.1:=by
       intro ks
       induction ks with
       |nil=>intro cE l _ _ hl hg hm h;simp only[de]at h;injection h with h;subst h;exact⟨rfl,hg⟩
       |cons k ks x7=>
        intro cE l h1 h2 hl hg hm h
        cases cE with
        |nil=>cases hm
        |cons k' cE=>
         rw[List.map_cons,List.map_cons]at hm
         injection hm with m1 m2
         have v1:=h1 k aE
         have v2:=h2 k' aE
         simp only[de]at h
         split at h
         ·rename_i l1 e
          have g1:=(ow f k k' l l1 e hl v1 v2).1
          have g2:=(sa f k k' l _ e hl v1 v2 hg m1).2
          exact x7 cE l1 (fun x hx=>h1 x kI) (fun x hx=>h2 x kI) g1 g2 m2 h
         ·rename_i l1 e
          have:=(sa f k k' l _ e hl v1 v2 hg m1).1
          cases this
         ·cases h
      exact key _ _ _ (fun k hk=>va.kA hk) (fun k hk=>vc.kA hk) hl hg q3 h
def Pb(x:TB):Tm:= .mk 1 x.var []
def slV(s:bU):List Tm:=s.binds.map Pb
def slT(s:bU):List Tm:=s.binds.map (·.term)
structure ahB (s:bU) (l:List TB):Prop where
 uni:∃f,de (fN f) (slV s) (slT s) []=some (l,true)
 sol:iE s.sig l
 iz:∀x∈l,x.term.iz
 eq:∃g b' ρ R,lJ (iw false g) (slV s) (slT s) []=some (0,b')/\kq s.sig b' l ρ R
 val:∀t,bB s.sig t=true->Vs s.sig (aS (ah l) t)/\(aS (ah l) t).iz/\(aS (ah l) t).sz<=1600
end Go.Proofs.YtlhemmpklhhgoaaGreat
set_option maxHeartbeats 8000000
namespace Go.Proofs.YtlhemmpklhhgoaaGreat
end Go.Proofs.YtlhemmpklhhgoaaGreat
set_option maxHeartbeats 8000000
namespace Go.Proofs.YtlhemmpklhhgoaaGreat
structure Fm where
 binds:List TB
 aH:List (List TB)
@[reducible] def tlD (l:List TB):D:= .sl (l.map TB.d)
@[reducible] def Fm.d (x:Fm):D:= .agg [.sl (x.binds.map TB.d), .sl (x.aH.map tlD)]
@[reducible] def Fm.row (x:Fm):List V:=[.d (.sl (x.binds.map TB.d)), .d (.sl (x.aH.map tlD))]
end Go.Proofs.YtlhemmpklhhgoaaGreat
set_option maxHeartbeats 8000000
namespace Go.Proofs.YtlhemmpklhhgoaaGreat
theorem eV{O:Nat->ab}{b c ty sz:Nat}{es:List D}(hg:Good O c)(hb:b<=c)(gone:Nat->Prop)(x:V)(env:List V)(ta:∀id,gone id->c<=id){e:Nat->V}{so:Nat->ab}{m:Nat}(gx:fW so gone ty sz es x)(ho:∀j,j<c->so j=O j)(he:iV c [⟨x,ty,sz,es⟩] so gone e env 0):
 bO b ⟨e,so,m⟩ ⟨aZ env,ay O c (.arr 0 ty sz es),c+1⟩:=by
 refine bO.uK gone x c env hb (fun j hj=> ?_) (aa _ _ _) gx (fun j hj=> ?_) (fun j h1 h2=>absurd (ta j h1) af) he
 ·rw[ae _ _ _ _ (by omega)]
  exact bD (ho j hj) (fun r hr=>hg.refs j r hr)
 ·rw[ae _ _ _ _ (by omega)]
  exact B2
end Go.Proofs.YtlhemmpklhhgoaaGreat
section
set_option maxHeartbeats 8000000
namespace Go.Proofs.YtlhemmpklhhgoaaGreat
structure Sy where
 a:Tm
 b:Tm
 no:Bool
@[reducible] def Sy.d (x:Sy):D:= .agg [.i x.a.op, .i x.a.n, .sl (x.a.kids.map Tm.d), .i x.b.op, .i x.b.n, .sl (x.b.kids.map Tm.d), .bool x.no]
@[reducible] def Sy.row (x:Sy):List V:=[.d (.i x.a.op), .d (.i x.a.n), .d (.sl (x.a.kids.map Tm.d)), .d (.i x.b.op), .d (.i x.b.n), .d (.sl (x.b.kids.map Tm.d)), .d (.bool x.no)]
structure Sy.Ok (s:aA) (x:Sy):Prop where
 va:bB s x.a=true
 vb:bB s x.b=true
theorem mc{s:aA}{t:Tm}(h:bB s t=true):gA t=true:=(FY t).2 (by have:=(bz h).2;omega)
theorem bw.sm {s:bU}(h:bw s)(hs:eH s.sig=true):Oe s:=by
 have h1:=h.jk.len
 have h2:=h.rW
 have h3:=h.D8
 exact⟨hs,af,af,af,fun x hx=>mc (h.jk.ok x hx).2,fun n hn=>⟨mc (h.aH n hn).1,mc (h.aH n hn).2.1⟩⟩
theorem bw.fits {s:bU}(h:bw s)(hf:s.sig.Fits):s.Fits:=by
 have h1:=h.jk.len
 have h2:=h.rW
 have h3:=h.D8
 exact⟨hf,af,af,af,fun x hx=>(iZ (h.jk.ok x hx).2).fits,fun n hn=>⟨(iZ (h.aH n hn).1).fits,(iZ (h.aH n hn).2.1).fits⟩⟩
structure SdP (s:bU) (x:Sy) (T:bU) (e:Int):Prop where
 call:aX Tryz.prog 29 [s.d,x.d] (.ret [T.d, .i e])
 err:e=0\/e=5\/e=3
 ok:e=0->bw T/\T.sig=s.sig/\T.marks=s.marks/\(∃E,T.binds=s.binds++E)/\∃F,T.aH=s.aH++F
 sem:(x.no=false/\∃f e1 b' bk,iw true f x.a x.b (ah s.binds)=some (e1,b')/\(∀n,bk n=true↔oZ b' n)/\e=dE e1 (s.aH.any bk)/\(e=0->T=s.tell b'))\/
  (x.no=true/\∃bA l ρ R f r,(bA=true↔oZ (ah s.binds) ⟨x.a,x.b⟩)/\kq s.sig (ah s.binds) l ρ R/\iE s.sig l/\fN f (aS (ah l) x.a) (aS (ah l) x.b) []=some r/\e=fA s bA r.2/\T=jl s ⟨x.a,x.b⟩ bA r.2)
theorem z8(s:bU)(x:Sy)(hx:x.no=false){T:bU}{e:Int}(h:aX Tryz.prog 15 [s.d,x.a.d,x.b.d] (.ret [T.d, .i e])):aX Tryz.prog 29 [s.d,x.d] (.ret [T.d, .i e]):=by
 exact SP
theorem Ky(s:bU)(x:Sy)(hx:x.no=true){T:bU}{e:Int}(h:aX Tryz.prog 16 [s.d,x.a.d,x.b.d] (.ret [T.d, .i e])):aX Tryz.prog 29 [s.d,x.d] (.ret [T.d, .i e]):=by
 exact SP
theorem tellE_0{e:Int}{b:Bool}(h:dE e b=0):e=0/\b=false:=by
 unfold dE at h
 split at h
 ·cases b with
  |false=>exact⟨by assumption,rfl⟩
  |true=>exact absurd (show(5:Int)=0 from h) bC
 ·rename_i h1;exact absurd h h1
theorem xw{e:Int}(he:e=0\/e=5\/e=3)(b:Bool):dE e b=0\/dE e b=5\/dE e b=3:=by
 unfold dE
 split
 ·split
  ·exact .inr (.inl rfl)
  ·exact .inl rfl
 ·exact he
theorem OA(s:bU)(b u:Bool):fA s b u=0\/fA s b u=5\/fA s b u=3:=by
 unfold fA
 split
 ·exact .inr (.inl rfl)
 ·split
  ·split
   ·exact .inr (.inr rfl)
   ·exact .inl rfl
  ·exact .inl rfl
theorem RD{s:bU}(h:bw s)(hf:s.sig.Fits){x:Sy}(hx:x.Ok s.sig):∃p:bU×Int,SdP s x p.1 p.2:=by
 have jt:=h.fin hf
 have fa:=iZ hx.va
 have fb:=iZ hx.vb
 cases hn:x.no with
 |false=>
  obtain⟨f,e,b',hq,G9⟩:=vh h hx.va hx.vb
  have he:e=0\/e=5\/e=3:=by
   rcases G9 with⟨h,_⟩|h|h
   ·exact .inl h
   ·exact .inr (.inl h)
   ·exact .inr (.inr h)
  obtain⟨bk,py⟩:∃bk:Nt->Bool,∀n,bk n=true↔oZ b' n:=by
   classical
   exact⟨fun n=>decide (oZ b' n),fun n=>aE⟩
  have t1:=Eo s jt x.a x.b fa fb h hx.va hx.vb hq he (bk:=bk) (fun _ n _=>py n)
  by_cases h0:dE e (s.aH.any bk)=0
  ·obtain⟨e0,b0⟩:=tellE_0 h0
   rw[if_pos h0]at t1
   refine⟨(s.tell b',dE e (s.aH.any bk)),z8 s x hn t1,xw he _,fun _=> ?_, .inl ⟨hn,f,e,b',bk,hq,py,rfl,fun _=>rfl⟩⟩
   subst e0
   obtain⟨E,rfl,hB⟩:=ma h hx.va hx.vb hq
   have hT:=Im h hB (fun n hn Tv=>by
    have h2:s.aH.any bk=true:=List.any_eq_true.2 ⟨n,hn,(py n).2 Tv⟩
    rw[b0]at h2;cases h2)
   have et:s.tell (ah (s.binds++E))=⟨s.sig,s.binds++E,s.aH,s.marks⟩:=by unfold bU.tell;rw[la]
   dsimp only
   rw[et]
   exact⟨hT,rfl,rfl,⟨E,rfl⟩,[],aE⟩
  ·rw[if_neg h0]at t1
   exact⟨(kZ,dE e (s.aH.any bk)),z8 s x hn t1,xw he _,fun h1=>absurd h1 h0, .inl ⟨hn,f,e,b',bk,hq,py,rfl,fun h1=>absurd h1 h0⟩⟩
 |true=>
  obtain⟨bA,EI⟩:∃bA:Bool,bA=true↔oZ (ah s.binds) ⟨x.a,x.b⟩:=by
   classical
   exact⟨decide (oZ (ah s.binds) ⟨x.a,x.b⟩),aE⟩
  obtain⟨l',ρ,R,hS,hl⟩:=iu h.jk.keys h.jk.ok h.jk.DZ
  obtain⟨fu,r,hr⟩:=oY _ _ (aS (ah l') x.a) (aS (ah l') x.b) [] (Nat.le_refl _) (Nat.le_refl _) iE.nil (Vs.sub hl.bd x.a (bz hx.va).1) (Vs.sub hl.bd x.b (bz hx.vb).1)
  have t3:=Ep s jt x.a x.b fa fb h hx.va hx.vb EI hS hl hr
  refine⟨(jl s ⟨x.a,x.b⟩ bA r.2,fA s bA r.2),Ky s x hn t3,OA s bA r.2,fun h0=> ?_, .inr ⟨hn,bA,l',ρ,R,fu,r,EI,hS,hl,hr,rfl,rfl⟩⟩
  have hd:=(Gv h hf hx.va hx.vb EI r.2).2 h0
  refine⟨hd.1, ?_⟩
  dsimp only at h0|-
  unfold fA at h0
  unfold jl
  split at h0
  ·exact absurd h0 bC
  ·rename_i h1
   rw[if_neg h1]
   split at h0
   ·rename_i h2
    rw[if_pos h2]
    split at h0
    ·exact absurd h0 bC
    ·rename_i h3
     rw[if_neg h3]
     exact⟨rfl,rfl,⟨[],by simp[bU.tE]⟩,[⟨x.a,x.b⟩],rfl⟩
   ·rename_i h2
    rw[if_neg h2]
    exact⟨rfl,rfl,⟨[],aE⟩,[],aE⟩
open Classical in
noncomputable def Vj(s:bU)(x:Sy):bU×Int:=if h:∃p:bU×Int,SdP s x p.1 p.2 then h.choose else(s,0)
theorem Vk{s:bU}(h:bw s)(hf:s.sig.Fits){x:Sy}(hx:x.Ok s.sig):SdP s x (Vj s x).1 (Vj s x).2:=by
 have he:=RD h hf hx
 unfold Vj
 rw[dif_pos he]
 exact he.choose_spec
noncomputable def ye:bU->List Sy->bU×List Sy
 |s,[]=>(s,[])
 |s,x::l=>if(Vj s x).2=0 then((ye (Vj s x).1 l).1,x::(ye (Vj s x).1 l).2)else ye s l
theorem Gw:∀ (l:List Sy) {s:bU},bw s->s.sig.Fits->(∀x∈l,x.Ok s.sig)->bw (ye s l).1/\(ye s l).1.sig=s.sig/\(ye s l).1.marks=s.marks/\∀x∈(ye s l).2,x∈l
 |[],s,h,_,_=>⟨h,rfl,rfl,fun x hx=>hx⟩
 |x::l,s,h,hf,hx=>by
  have hs:=Vk h hf (hx x aE)
  simp only[ye]
  by_cases h0:(Vj s x).2=0
  ·rw[if_pos h0]
   obtain⟨k1,k2,k3,_⟩:=hs.ok h0
   obtain⟨g1,g2,g3,g4⟩:=Gw l k1 (by rw[k2];exact hf) (fun y hy=>by rw[k2];exact hx y lh)
   exact⟨g1,g2.trans k2,g3.trans k3,fun y hy=>by
    rcases List.mem_cons.1 hy with rfl|hy
    ·simp
    ·simp[g4 y hy]⟩
  ·rw[if_neg h0]
   obtain⟨g1,g2,g3,g4⟩:=Gw l h hf (fun y hy=>hx y lh)
   exact⟨g1,g2,g3,fun y hy=>by simp[g4 y hy]⟩
theorem ae1(s0:bU)(h0:bw s0)(hf:s0.sig.Fits)(hss:eH s0.sig=true)(l:List Sy)(hl:l.length<=1000)(hx:∀x∈l,x.Ok s0.sig):aX Tryz.prog 34 [s0.d, .sl (l.map Sy.d)] (.ret [(ye s0 l).1.d, .sl ((ye s0 l).2.map Sy.d), .bool true]):=by
 refine aX.aG mix agx aE ?_
 rw[c34]
 refine uL ?_
 have Ec:∀s:bU,Good (ay (ay (fun _=> .no) 0 (.row s.row)) 1 (.row [.aw, .aw, .aw, .aw, .aw])) 2:=fun s=>dt
 refine aD (fun i:Nat×bU×List Sy=>⟨aZ [.ad, .ad, .ptr 0 0, .ad, .ptr 1 0, .ad, .ad, .osl 2 0, .ad, .ad, .ad, .ad, .d (.sl (l.map Sy.d)), .d (.i l.length), .d (.i i.1)],ay (ay (ay (fun _=> .no) 0 (.row i.2.1.row)) 1 (.row [.aw, .aw, .aw, .aw, .aw])) 2 (.arr 0 53 7 (i.2.2.map Sy.d)),3⟩)
  (fun i=>i.1<=l.length/\i.2.2.length<=i.1/\bw i.2.1/\i.2.1.sig=s0.sig/\(ye s0 l).1=(ye i.2.1 (l.drop i.1)).1/\(ye s0 l).2=i.2.2++(ye i.2.1 (l.drop i.1)).2) (fun i=>l.length - i.1) (0,s0,[]) ⟨Nat.zero_le _,aE,h0,rfl,rfl,rfl⟩ ?_ ?_
 ·refine eV (Ec s0) af (fun _=>False) .aw _ (fun _ h=>h.elim) (.inl ⟨rfl,rfl,bC⟩) (fun j hj=>rfl) ?_
  exact kG
 rintro⟨k,s,own⟩ ⟨hk,ho,h,RE,K7,K8⟩
 dsimp only at hk ho h RE K7 K8|-
 have eE:own.length<=140737488355327/\(own.length+1)*80<=140737488355328:=af
 refine uL ?_
 refine ao (fun h6=> ?_) (fun h6=> ?_)
 ·replace h6:k<l.length:=by simp at h6;omega
  obtain⟨x,Vl⟩:=aB h6
  have ck:=List.mem_of_getElem? Vl
  have D5:l.drop k=x::l.drop (k+1):=by
   obtain⟨i1,i2⟩:=List.getElem?_eq_some_iff.1 Vl
   exact EM
  have sd:=Vk h (by rw[RE];exact hf) (x:=x) (by rw[RE];exact hx x ck)
  rw[D5]at K7 K8
  simp only[ye]at K7 K8
  cases hp:Vj s x with
  |mk T e=>
  rw[hp]at sd K7 K8
  dsimp only at sd K7 K8
  refine mV Vl ?_
  refine bc sd.call ?_
  have skip:e≠0->(ye s0 l).1=(ye s (l.drop (k+1))).1/\(ye s0 l).2=own++(ye s (l.drop (k+1))).2:=fun he=>by
   rw[if_neg he]at K7 K8
   exact⟨K7,K8⟩
  rcases sd.err with rfl|rfl|rfl
  ·obtain⟨k1,k2,k3,_⟩:=sd.ok rfl
   rw[if_pos rfl]at K7 K8
   have qq:T.sig=s0.sig:=k2.trans RE
   have hfT:T.sig.Fits:=by rw[qq];exact hf
   refine mV Vl ?_
   refine ak (xm T (k1.fits hfT) (ok:=true) ⟨fun _=>k1.sm (by rw[qq];exact hss),fun _=>rfl⟩) rfl ?_
   refine mV Vl ?_
   refine ak (Gp T (k1.fin hfT) (ok:=true) ⟨fun _=>k1,fun _=>rfl⟩) rfl ?_
   refine pf Vl eE ?_
   refine aj (k+1,T,own++[x]) ⟨h6,by rw[List.length_append,List.length_singleton];omega,k1,qq,K7,by rw[K8];simp⟩ lK (eV (Ec T) af (fun j=>2<=j) (.osl 2 1) _ (fun _ h=>h) (.inr ⟨2,1,af,rfl,by(repeat(first|rfl|rw[aa]|rw[ae _ _ _ _ (by omega)]));rw[List.map_append];rfl⟩) (fun j hj=> ?_) ?_)
   ·have hj:j<2:=hj
    rcases(by omega:j=0\/j=1)with rfl|rfl
    ·exact cg
    ·exact cg
   ·exact kG
  ·obtain⟨s1,s2⟩:=skip bC
   refine mV Vl ?_
   refine aj (k+1,s,own) ⟨h6,Nat.le_succ_of_le ho,h,RE,s1,s2⟩ lK (eV (Ec s) af (fun j=>2<=j) (.osl 2 0) _ (fun _ h=>h) (.inr ⟨2,0,af,rfl,by(repeat(first|rfl|rw[aa]|rw[ae _ _ _ _ (by omega)]))⟩) (fun j hj=> ?_) ?_)
   ·have hj:j<2:=hj
    rcases(by omega:j=0\/j=1)with rfl|rfl
    ·exact cg
    ·exact cg
   ·exact kG
  ·obtain⟨s1,s2⟩:=skip bC
   refine mV Vl ?_
   refine aj (k+1,s,own) ⟨h6,Nat.le_succ_of_le ho,h,RE,s1,s2⟩ lK (eV (Ec s) af (fun j=>2<=j) (.osl 2 0) _ (fun _ h=>h) (.inr ⟨2,0,af,rfl,by(repeat(first|rfl|rw[aa]|rw[ae _ _ _ _ (by omega)]))⟩) (fun j hj=> ?_) ?_)
   ·have hj:j<2:=hj
    rcases(by omega:j=0\/j=1)with rfl|rfl
    ·exact cg
    ·exact cg
   ·exact kG
 ·replace h6:k=l.length:=by simp at h6;omega
  subst h6
  rw[List.drop_length]at K7 K8
  simp only[ye,List.append_nil]at K7 K8
  rw[K7,K8]
  simp+contextual (disch:=first|omega|simp only[go_sem,false_implies]) only[go_sem,wrap64,if_pos,List.length_map]
end Go.Proofs.YtlhemmpklhhgoaaGreat
end
set_option maxHeartbeats 8000000
namespace Go.Proofs.YtlhemmpklhhgoaaGreat
def BF(s:aA)(x:Sy):Bool:= !(bB s x.a&&bB s x.b)
theorem Y0(s:aA)(hs:s.Fits)(RE:ju s=true)(x:Sy)(hx:x.a.fits/\x.b.fits){p:Nat}(o:Nat->ab)(nx:Nat)(hg:Good o nx)(hp:o p= .row s.row)(K X:V->(Nat->ab)->Nat->Prop)
 (hK:∀ (o':Nat->ab) (nx':Nat),nx<=nx'->Good o' nx'->(∀j,j<nx->o' j=o j)->K (.d (.bool (BF s x))) o' nx'):
 bQ Tryz.prog 84 [.d x.d, .ptr p 0] o nx K X:=by
 have lp:p<nx:=hg.lt GJ
 have w1:∀k,p≠nx+k:=fun k=>af
 have w2:p≠nx:=af
 refine bQ.aG mix agQ aE ?_
 rw[c84]
 have va:=xj RE x.a
 have vb:=xj RE x.b
 have nw:bB s x.a=false\/bB s x.b=false->BF s x=true:=fun h=>by unfold BF;rcases h with h|h<;>simp[h]
 have fin:∀n,nx+1<=n->Good (ay o nx (.row x.row)) n:=fun n hn=>(hg.mono af).ay af rfl
 refine R0 w1 w2 ?_
 refine ak (rI x.a hx.1) rfl ?_
 cases h1:gA x.a with
 |false=>
  rw[nw (.inl (Bool.eq_false_iff.2 fun h=>by rw[mc h]at h1;cases h1))]at hK
  exact GZ
 |true=>
  refine R0 w1 w2 ?_
  refine ak (rI x.b hx.2) rfl ?_
  cases h2:gA x.b with
  |false=>
   rw[nw (.inr (Bool.eq_false_iff.2 fun h=>by rw[mc h]at h2;cases h2))]at hK
   exact GZ
  |true=>
   refine R0 w1 w2 ?_
   refine ak (l9 s hs x.a hx.1) rfl ?_
   cases h3:(gM s x.a&&ft x.a)with
   |false=>
    rw[nw (.inl (va.trans h3))]at hK
    exact GZ
   |true=>
    refine R0 w1 w2 ?_
    refine ak (l9 s hs x.b hx.2) rfl ?_
    have hv:BF s x= !(gM s x.b&&ft x.b):=by unfold BF;rw[va,vb,h3,Bool.true_and]
    rw[hv]at hK
    exact GZ
theorem RF(l:List Sy)(hl:l.length<=9223372036854775807){g p:Nat}{R:ab}(br:Sy->Bool)(hb:∀x∈l,∀ (o:Nat->ab) (nx:Nat),Good o nx->o p=R->∀ (K X:V->(Nat->ab)->Nat->Prop),(∀ (o':Nat->ab) (nx':Nat),nx<=nx'->Good o' nx'->(∀j,j<nx->o' j=o j)->K (.d (.bool (br x))) o' nx')->bQ Tryz.prog g [.d x.d, .ptr p 0] o nx K X)
 (o:Nat->ab) (nx:Nat) (hg:Good o nx) (hp:o p=R) (lp:p<nx) (K X:V->(Nat->ab)->Nat->Prop)
 (hK:∀ (o':Nat->ab) (nx':Nat),nx<=nx'->Good o' nx'->(∀j,j<nx->o' j=o j)->K (.d (.bool (l.any br))) o' nx'):
 bQ Tryz.prog 83 [.d (.sl (l.map Sy.d)), .func (.func g) [] [.ptr p 0]] o nx K X:=by
 refine bQ.aG mix agP aE ?_
 rw[c83]
 refine fZ ?_
 have key:∀ (K X:V->(Nat->ab)->Nat->Prop),(∀r:Int,decide (0<=r)=l.any br->∀ (o':Nat->ab) (nx':Nat),nx+3<=nx'->Good o' nx'->(∀j,j<nx->o' j=o j)->K (.d (.i r)) o' nx')->
  bQ Tryz.prog 125 [.d (.sl (l.map Sy.d)), .func (.func g) [] [.ptr p 0]] o (nx+3) K X:=by
  intro K X hK
  refine bQ.aG mix adF aE ?_
  rw[adE]
  refine EJ ?_
  refine aD (fun i:Nat=>⟨aZ [.d (.sl (l.map Sy.d)), .func (.func g) [] [.ptr p 0], .ad, .ad, .ad, .ad, .ad, .d (.i l.length), .d (.i i)],o,nx+3⟩)
   (fun i=>i<=l.length/\l.any br=(l.drop i).any br) (fun i=>l.length - i) 0 ⟨Nat.zero_le _,rfl⟩ ?_ ?_
  ·exact SZ
  rintro k ⟨Mn,Ag⟩
  refine EJ ?_
  refine ao (fun h1=> ?_) (fun h1=> ?_)
  ·have h1:k<l.length:=by simp at h1;omega
   obtain⟨x,hx⟩:=aB h1
   have ck:=List.mem_of_getElem? hx
   have hd:l.drop k=x::l.drop (k+1):=by
    exact LN
   rw[hd,List.any_cons]at Ag
   refine aap hx ?_
   refine aU (hb x ck _ _ (hg.mono af) hp _ _ (fun o2 n2 m1 m2 m3=> ?_))
   cases yy:br x with
   |true=>
    rw[yy]at Ag
    refine fZ ?_
    exact aaL
   |false=>
    exact abk
  ·have h1:k=l.length:=by simp at h1;omega
   subst h1
   refine fZ ?_
   exact aaT
 exact abI
structure Iz (s:aA) (l:List Sy):Prop where
 sm:eH s=true
 sig:ju s=true
 len:l.length<=14
 ok:∀x∈l,x.Ok s
theorem RG(s:aA)(hs:s.Fits)(l:List Sy)(hl:l.length<=9223372036854775807)(hb:∀x∈l,x.a.fits/\x.b.fits){ok:Bool}(aY:ok=true↔Iz s l):aX Tryz.prog 27 [s.d, .sl (l.map Sy.d)] (.ret [.bool ok]):=by
 have no: ¬Iz s l->ok=false:=fun h=>by
  cases ok with
  |false=>rfl
  |true=>exact absurd (aY.1 rfl) h
 refine aX.aG mix ags aE ?_
 rw[c27]
 refine bY ?_
 refine ak (wN s hs) rfl ?_
 cases h1:eH s with
 |false=>
  rw[no fun h=>by have:=h.sm;rw[h1]at this;cases this]
  exact pX
 |true=>
  refine bY ?_
  refine ak (UY s hs) rfl ?_
  cases h2:ju s with
  |false=>
   rw[no fun h=>by have:=h.sig;rw[h2]at this;cases this]
   exact pX
  |true=>
   by_cases h3:14<l.length
   ·have kK:decide ((l.length:Int)>14)=true:=decide_eq_true af
    rw[no fun h=>by have:=h.len;omega]
    exact Lg kK
   ·have kK:decide ((l.length:Int)>14)=false:=decide_eq_false af
    have hr:ok= !(l.any (BF s)):=by
     rw[Bool.eq_iff_iff,aY,Bool.not_eq_true',List.any_eq_false]
     constructor
     ·intro h x hx
      obtain⟨q1,q2⟩:=h.ok x hx
      simp[BF,q1,q2]
     ·intro h
      refine⟨h1,h2,af,fun x hx=> ?_⟩
      have:=h x hx
      simp[BF]at this
      exact⟨this.1,this.2⟩
    rw[hr]
    refine mV kK ?_
    refine aU (RF l hl (R:= .row s.row) (BF s) (fun x hx o nx hg hp K X hK=>Y0 s hs h2 x (hb x hx) o nx hg hp K X hK) _ _ dt cg af _ _ fun o' nx' g2 g3 g4=> ?_)
    exact Vw
end Go.Proofs.YtlhemmpklhhgoaaGreat
set_option maxHeartbeats 8000000
namespace Go.Proofs.YtlhemmpklhhgoaaGreat
theorem RH{s:aA}{P:List TB}(hlen:P.length<=100){id ep:Nat}:∀t:Tm,Vs s t->t.iz->∀ (o:Nat->ab) (nx:Nat),Good o nx->o id= .arr ep 59 4 (P.map TB.d)->∀ (K X:V->(Nat->ab)->Nat->Prop),
 (∀ (o':Nat->ab) (nx':Nat),nx<=nx'->Good o' nx'->(∀j,j<nx->o' j=o j)->K (.d (aS (ah P) t).d) o' nx')->bQ Tryz.prog 82 [.d t.d, .osl id ep] o nx K X:=by
 refine Tm.eN fun t ih hv hw o nx hg ho K X hK=> ?_
 have hw':=(Tm.iA t).1 hw
 have ax:id<nx:=hg.lt LL
 have w1:∀k,id≠nx+k:=fun k=>af
 have w2:id≠nx:=af
 refine bQ.seal ?_
 refine bQ.aG mix ado aE ?_
 rw[c82]
 by_cases h1:t.op=1
 ·have eW:(t.op==1)=true:=by simpa using h1
  refine BK eW ho w1 w2 ?_
  refine ak (NH P t.n af) rfl ?_
  rcases rQ P t.n with⟨f1,f2⟩|⟨k,x,f1,f2,f3⟩
  ·have hs:aS (ah P) t=t:=by rw[ou,if_pos h1,f2]
   have f3:decide (findF P t.n≥0)=false:=by simp;omega
   rw[hs]at hK
   refine Ac eW f3 ho w1 w2 ?_
   refine⟨_,rfl,hK _ _ ?_ ?_ (fun j hj=> ?_)⟩
   ·omega
   ·exact dt
   ·exact cg
  ·have hs:aS (ah P) t=x.term:=by rw[ou,if_pos h1,f3]
   have Kv:decide (((k:Nat):Int)≥0)=true:=aE
   rw[hs]at hK
   have Cu:k<P.length:=(List.getElem?_eq_some_iff.1 f2).1
   refine Lb eW f1 Kv f2 Cu ho w1 w2 ?_
   refine⟨_,rfl,hK _ _ ?_ ?_ (fun j hj=> ?_)⟩
   ·omega
   ·exact dt
   ·exact cg
 ·have eW:(t.op==1)=false:=by simpa using h1
  have h8':(t.op==8)=false:=by simpa using hv.n8
  rw[fQ h1]at hK
  refine Ac eW h8' ho w1 w2 ?_
  have hgO:Good (ay (ay o nx (.row t.row)) (nx+1) (.row [.d (.i 0), .d (.i 0), .aw])) (nx+2):=dt
  refine aD (fun i:Nat=>⟨aZ [.ad, .osl id ep, .ptr nx 0, .ad, .ptr (nx+1) 0, .ad, .osl (nx+2) 0, .d (.i i)],ay (ay (ay o nx (.row t.row)) (nx+1) (.row [.d (.i 0), .d (.i 0), .aw])) (nx+2) (.arr 0 33 3 (((t.kids.take i).map (aS (ah P))).map Tm.d)),nx+3⟩)
   (fun i=>i<=t.kids.length) (fun i=>t.kids.length - i) 0 (Nat.zero_le _) ?_ ?_
  ·refine eV hgO af (fun _=>False) .aw _ (fun _ h=>h.elim) (.inl ⟨rfl,rfl,bC⟩) (fun j hj=>rfl) ?_
   exact kG
  rintro k hk
  replace hk:k<=t.kids.length:=hk
  refine aan ho w1 w2 ?_
  refine ao (fun h2=> ?_) (fun h2=> ?_)
  ·simp at h2
   obtain⟨x,hx⟩:=aB h2
   have ck:=List.mem_of_getElem? hx
   have oz:t.kids.take (k+1)=t.kids.take k++[x]:=by rw[List.take_add_one,hx];rfl
   have e0:(t.kids.take k).length=k:=by rw[List.length_take];omega
   have eE:k<=140737488355327/\(k+1)*24<=140737488355328:=by have:=hw'.1;omega
   simp+contextual (disch:=first|omega|simp only[go_sem,false_implies]) only[go_sem,wrap64,if_pos,ho,w1,w2,Nat.add_assoc,Nat.left_eq_add,Nat.add_eq_left,Nat.add_left_cancel_iff,List.length_map,hx,e0]
   refine bM (ih x ck (hv.kA ck) (hw'.2 x ck) _ _ ?_ ?_ _ _ (fun o2 n2 m1 m2 m3=> ?_))
   ·exact Good.ay (hgO.mono af) af rfl
   ·(repeat(first|rfl|rw[aa]|rw[ae _ _ _ _ (by omega)]));exact ho
   have q0:o2 nx= .row t.row:=by rw[m3 _ (by omega)];(repeat(first|rfl|rw[aa]|rw[ae _ _ _ _ (by omega)]))
   have q1:o2 (nx+1)= .row [.d (.i 0), .d (.i 0), .aw]:=by rw[m3 _ (by omega)];(repeat(first|rfl|rw[aa]|rw[ae _ _ _ _ (by omega)]))
   have q2:o2 (nx+2)= .arr 0 33 3 (((t.kids.take k).map (aS (ah P))).map Tm.d):=by rw[m3 _ (by omega)];(repeat(first|rfl|rw[aa]|rw[ae _ _ _ _ (by omega)]))
   have y1:∀k,nx+2≠n2+k:=fun k=>af
   refine BV q0 q1 q2 y1 hx e0 eE ?_
   refine aj (k+1) h2 af (eV hgO af (fun j=>nx+2<=j) (.osl (nx+2) 1) _ (fun _ h=>h) (.inr ⟨nx+2,1,af,rfl,by(repeat(first|rfl|rw[aa]|rw[ae _ _ _ _ (by omega)]));rw[oz,List.map_append,List.map_append];rfl⟩) (fun j hj=> ?_) ?_)
   ·(repeat(first|rfl|rw[aa]|rw[ae _ _ _ _ (by omega)]))
    rw[m3 j (by omega)]
    exact cg
   ·exact kG
  ·simp at h2
   have Cu:k=t.kids.length:=af
   subst Cu
   rw[List.take_length]
   rw[Tm.Df]at hK
   refine aan ho w1 w2 ?_
   refine⟨_,rfl,hK _ _ ?_ ?_ (fun j hj=> ?_)⟩
   ·omega
   ·exact dt
   ·exact cg
theorem OB(P:List TB)(hp:P≠[])(hl:P.length<=1000)(o:Nat->ab)(nx:Nat)(hg:Good o nx)(K X:V->(Nat->ab)->Nat->Prop)
 (hK:∀ (o':Nat->ab) (nx' id ep:Nat),nx<=nx'->nx<=id->id<nx'->Good o' nx'->(∀j,j<nx->o' j=o j)->o' id= .arr ep 59 4 (P.map TB.d)->K (.osl id ep) o' nx'):bQ Tryz.prog 86 [.d (.sl (P.map TB.d))] o nx K X:=by
 refine bQ.aG mix agR aE ?_
 rw[c86]
 have hu:Tryz.prog.underlying 25=some (.slice 59):=ai
 obtain⟨a,l,rfl⟩:∃a l,P=a::l:=by
  cases P with
  |nil=>exact absurd rfl hp
  |cons a l=>exact⟨a,l,rfl⟩
 have heq:∀O,pn Tryz.prog O 25 true (.d (.sl (TB.d a::l.map TB.d))) .aw=some (.d (.bool false)):=by
  intro O
  unfold pn
  rw[hu]
  rfl
 simp only[List.map_cons]at hK|-
 refine IQ heq ?_
 simp only[List.isEmpty_nil,if_true]
 have eE:(l.length+1<=1099511627776/\(l.length+1)*48<=1099511627776):=by simp only[List.length_cons]at hl;omega
 simp+contextual (disch:=first|omega|simp only[go_sem,false_implies]) only[go_sem,wrap64,if_pos,heq,Nat.add_assoc,Nat.left_eq_add,Nat.add_eq_left,Nat.add_left_cancel_iff,List.length_cons,List.length_map,eE]
 refine hK _ _ (nx+3) 1 ?_ af ?_ ?_ (fun j hj=> ?_) ?_
 ·omega
 ·omega
 ·exact dt
 ·exact cg
 ·exact cg
theorem xy{s:aA}{P:List TB}(hlen:P.length<=100)(hP:∀x∈P,x.term.iz)(a c:Tm)(va:Vs s a)(fa:a.iz)(vc:Vs s c)(fc:c.iz):aX Tryz.prog 36 [.sl (P.map TB.d),a.d,c.d] (.ret [.bool (hY (aS (ah P) a) (aS (ah P) c))]):=by
 refine aX.aG mix agy aE ?_
 rw[c36]
 refine bY ?_
 refine aV (Iq a va fa P hlen) ?_
 refine bY ?_
 refine aV (Iq c vc fc P hlen) ?_
 refine bY ?_
 refine a7 (wM _ (Tm.rZ _ (Tm.oC (mU hP) a fa)) _ (Tm.rZ _ (Tm.oC (mU hP) c fc))) rfl ?_
 exact PA
theorem Y1(n:Int):aX Tryz.prog 48 [.i n] (.ret [(Tm.mk 1 n []).d]):=by
 refine aX.aG mix ac9 aE ?_
 rw[c48]
 refine bY ?_
 refine bc (Yw n) ?_
 exact pX
end Go.Proofs.YtlhemmpklhhgoaaGreat
set_option maxHeartbeats 8000000
namespace Go.Proofs.YtlhemmpklhhgoaaGreat
structure IA (P:List TB):Prop where
 len:P.length=20
 var:∀ (i:Nat) (y:TB),P[i]? =some y->y.var=i
 iz:∀y∈P,y.term.iz
def Y2(P:List TB)(b:TB):List TB:=if 0<=fP (aS (ah P) b.term) 4000 400 then P.set b.var.toNat ⟨b.var,aS (ah P) b.term⟩else P
def exR(s:bU)(P:List TB):List TB:=s.binds.foldl Y2 P
def Pc(s:bU):Nat->List TB->List TB
 |0,P=>P
 |n+1,P=>Pc s n (exR s P)
theorem IB{P:List TB}(h:IA P){b:TB}(hr:0<=b.var/\b.var<20)(hf:b.term.iz):IA (Y2 P b):=by
 unfold Y2
 split
 ·refine⟨by rw[List.length_set];exact h.len,fun i y hy=> ?_,fun y hy=> ?_⟩
  ·rw[List.getElem?_set]at hy
   split at hy
   ·rename_i e
    split at hy
    ·injection hy with hy
     rw[<- hy]
     dsimp only
     omega
    ·cases hy
   ·exact h.var i y hy
  ·rcases List.mem_or_eq_of_mem_set hy with hy|rfl
   ·exact h.iz y hy
   ·exact Tm.oC (mU h.iz) _ hf
 ·exact h
def Vm(s:bU)(P:List TB):Nat->ab:=ay (ay (fun _=> .no) 0 (.row s.row)) 1 (.arr 0 59 4 (P.map TB.d))
theorem Gx{s:bU}(h:bw s){P:List TB}(hP:IA P):aX Tryz.prog 30 [s.d, .sl (P.map TB.d)] (.ret [.sl ((Pc s s.binds.length P).map TB.d)]):=by
 have ss:=h.jk.len
 have je:P≠[]:=fun e=>by have:=hP.len;rw[e]at this;cases this
 have Ec:Good (ay (fun _=> .no) 0 (.row s.row)) 1:=dt
 refine aX.aG mix agu aE ?_
 rw[c30]
 refine bY ?_
 refine bM (OB P je (by have:=hP.len;omega) _ _ dt _ _ (fun o1 n1 id ep m1 m2 m2' m3 m4 m5=> ?_))
 have q0:o1 0= .row s.row:=by rw[m4 0 (by omega)];(repeat(first|rfl|rw[aa]|rw[ae _ _ _ _ (by omega)]))
 refine pf q0 m5 ?_
 refine aD (fun i:Nat×List TB=>⟨aZ [.ad, .osl 1 0, .ptr 0 0, .ad, .ad, .ad, .ad, .ad, .ad, .ad, .ad, .ad, .d (.i s.binds.length), .d (.i i.1)],Vm s i.2,2⟩)
  (fun i=>i.1<=s.binds.length/\IA i.2/\Pc s (s.binds.length - i.1) i.2=Pc s s.binds.length P) (fun i=>s.binds.length - i.1) (0,P) ⟨Nat.zero_le _,hP,rfl⟩ ?_ ?_
 ·refine eV Ec af (fun j=>j=id) (.osl id ep) _ (fun j e=>af) (.inr ⟨id,ep,rfl,rfl,m5⟩) (fun j hj=> ?_) ?_
  ·have:j=0:=af
   subst this
   rw[q0];(repeat(first|rfl|rw[aa]|rw[ae _ _ _ _ (by omega)]))
  ·exact kG
 rintro⟨j,Q⟩ ⟨hj,hQ,hI⟩
 dsimp only at hj hQ hI|-
 have v0:Vm s Q 0= .row s.row:=rfl
 have v1:Vm s Q 1= .arr 0 59 4 (Q.map TB.d):=rfl
 refine pf v0 v1 ?_
 refine ao (fun h6=> ?_) (fun h6=> ?_)
 ·replace h6:j<s.binds.length:=by simp at h6;omega
  refine pf v0 v1 ?_
  refine aD (fun i:Nat×List TB=>⟨aZ [.ad, .osl 1 0, .ptr 0 0, .ad, .ad, .ad, .ad, .ad, .ad, .ad, .ad, .ad, .d (.i s.binds.length), .d (.i j), .ad, .ad, .d (.sl (s.binds.map TB.d)), .d (.i s.binds.length), .d (.i i.1)],Vm s i.2,2⟩)
   (fun i=>i.1<=s.binds.length/\IA i.2/\(s.binds.drop i.1).foldl Y2 i.2=exR s Q) (fun i=>s.binds.length - i.1) (0,Q) ⟨Nat.zero_le _,hQ,rfl⟩ ?_ ?_
  ·refine eV Ec af (fun j=>j=1) (.osl 1 0) _ (fun j e=>af) (.inr ⟨1,0,rfl,rfl,v1⟩) (fun j hj=> ?_) ?_
   ·have:j=0:=af
    subst this
    rfl
   ·exact kG
  rintro⟨k,W⟩ ⟨hk,hW,hF⟩
  dsimp only at hk hW hF|-
  have u0:Vm s W 0= .row s.row:=rfl
  have u1:Vm s W 1= .arr 0 59 4 (W.map TB.d):=rfl
  have hWl:=hW.len
  refine pf u0 u1 ?_
  refine ao (fun h7=> ?_) (fun h7=> ?_)
  ·replace h7:k<s.binds.length:=by simp at h7;omega
   obtain⟨x,hx⟩:=aB h7
   have ck:=List.mem_of_getElem? hx
   obtain⟨hr,hv⟩:=h.jk.ok x ck
   have D5:s.binds.drop k=x::s.binds.drop (k+1):=by
    exact LN
   rw[D5,List.foldl_cons]at hF
   have hWx:=IB hW hr (iY hv)
   refine Le u0 u1 hx ?_
   refine bM (RH (P:=W) af x.term (bz hv).1 (iY hv) _ _ ?_ ?_ _ _ (fun o2 n2 m1 m2 m3=> ?_))
   ·have hg:Good (Vm s W) 2:=by unfold Vm;exact dt
    exact dt
   ·exact cg
   have f0:o2 0= .row s.row:=by rw[m3 _ (by omega)];(repeat(first|rfl|rw[aa]|rw[ae _ _ _ _ (by omega)]))
   have f1:o2 1= .arr 0 59 4 (W.map TB.d):=by rw[m3 _ (by omega)];(repeat(first|rfl|rw[aa]|rw[ae _ _ _ _ (by omega)]))
   have f5:o2 5= .row [.d (.i x.var), .d (.i x.term.op), .d (.i x.term.n), .d (.sl (x.term.kids.map Tm.d))]:=by rw[m3 _ (by omega)];(repeat(first|rfl|rw[aa]|rw[ae _ _ _ _ (by omega)]))
   obtain⟨v,hvv⟩:∃v:Nat,x.var=v:=⟨x.var.toNat,af⟩
   have Od:v<W.length:=af
   obtain⟨y,hy⟩:=aB Od
   have hyv:=hW.var v y hy
   have c1:decide ((v:Int)≥0)=true:=decide_eq_true af
   have c2:decide ((v:Int)<(W.length:Int))=true:=decide_eq_true af
   have Nw:(aS (ah W) x.term).fits:=Tm.rZ _ (Tm.oC (mU hW.iz) _ (iY hv))
   have cw:=Bh (aS (ah W) x.term) Nw 4000 400 af af
   have ex:Y2 W x=if 0<=fP (aS (ah W) x.term) 4000 400 then W.set v ⟨x.var,aS (ah W) x.term⟩else W:=by unfold Y2;rw[hvv];rfl
   have w1:∀k,(1:Nat)≠n2+k:=fun k=>af
   have w5:∀k,(5:Nat)≠n2+k:=fun k=>af
   rw[hvv]at f5
   generalize aS (ah W) x.term=u at cw ex Nw
   refine Lb f0 f1 f5 hvv c1 c2 w1 w5 ?_
   refine ak cw rfl ?_
   by_cases hz:0<=fP u 4000 400
   ·have Jn:decide (fP u 4000 400≥0)=true:=decide_eq_true af
    rw[if_pos hz]at ex
    obtain⟨yv,yt⟩:=y
    obtain⟨yo,yn,yk⟩:=yt
    obtain⟨uo,un,uk⟩:=u
    simp+contextual (disch:=first|omega|simp only[go_sem,false_implies]) only[go_sem,wrap64,if_pos,f0,f1,f5,hvv,c1,c2,Jn,w1,w5,Od,hy,Nat.add_assoc,Nat.left_eq_add,Nat.add_eq_left,Nat.add_left_cancel_iff,List.length_map,Tm.Df]
    have hyv:yv=(v:Int):=hyv
    refine aj (k+1,W.set v ⟨x.var, .mk uo un uk⟩) ⟨h7,by rw[ex]at hWx;exact hWx,by rw[ex]at hF;exact hF⟩ lK (eV Ec af (fun j=>j=1) (.osl 1 0) _ (fun j e=>af) (.inr ⟨1,0,rfl,rfl, ?_⟩) (fun j hj=> ?_) ?_)
    ·(repeat(first|rfl|rw[aa]|rw[ae _ _ _ _ (by omega)]))
     dsimp only
     rw[List.map_set,hyv, <- hvv]
     rfl
    ·have:j=0:=af
     subst this
     (repeat(first|rfl|rw[aa]|rw[ae _ _ _ _ (by omega)]))
     exact f0
    ·exact kG
   ·have Jn:decide (fP u 4000 400≥0)=false:=decide_eq_false af
    rw[if_neg hz]at ex
    simp+contextual (disch:=first|omega|simp only[go_sem,false_implies]) only[go_sem,wrap64,if_pos,f0,f1,f5,hvv,c1,c2,Jn,w1,w5,Nat.add_assoc,Nat.left_eq_add,Nat.add_eq_left,Nat.add_left_cancel_iff,List.length_map]
    refine aj (k+1,W) ⟨h7,hW,by rw[ex]at hF;exact hF⟩ lK (eV Ec af (fun j=>j=1) (.osl 1 0) _ (fun j e=>af) (.inr ⟨1,0,rfl,rfl,by(repeat(first|rfl|rw[aa]|rw[ae _ _ _ _ (by omega)]));exact f1⟩) (fun j hj=> ?_) ?_)
    ·have:j=0:=af
     subst this
     (repeat(first|rfl|rw[aa]|rw[ae _ _ _ _ (by omega)]))
     exact f0
    ·exact kG
  ·replace h7:k=s.binds.length:=by simp at h7;omega
   subst h7
   rw[List.drop_length]at hF
   have hF:W=exR s Q:=hF
   refine pf u0 u1 ?_
   have e1:s.binds.length - j=(s.binds.length - (j+1))+1:=af
   rw[e1]at hI
   refine aj (j+1,W) ⟨h6,hW,by rw[hF];exact hI⟩ lK (eV Ec af (fun j=>j=1) (.osl 1 0) _ (fun j e=>af) (.inr ⟨1,0,rfl,rfl,u1⟩) (fun j hj=> ?_) ?_)
   ·have:j=0:=af
    subst this
    rfl
   ·exact kG
 ·replace h6:j=s.binds.length:=by simp at h6;omega
  subst h6
  rw[Nat.sub_self]at hI
  have hI:Q=Pc s s.binds.length P:=hI
  rw[<- hI]
  exact Lf v0 v1
end Go.Proofs.YtlhemmpklhhgoaaGreat
namespace Go.Proofs.YtlhemmpklhhgoaaGreat
def Sat(θ b:List (Int×Tm)):Prop:=∀p∈b,Lv θ p.1=aS θ p.2
theorem vi{s:aA}{θ b:List (Int×Tm)}{l:List TB}{ρ:Int->Nat}{R:Nat}(h:kq s b l ρ R)(hs:Sat θ b):yd θ l:=by
 have key:∀ (n:Nat) (v:Int),ρ v<=n->aS θ (Lv (ah l) v)=Lv θ v:=by
  intro n
  induction n using Nat.strongRecOn with
  |ind n ih=>
   intro v hv
   cases hx:bS b v with
   |none=>
    rw[show Lv (ah l) v= .mk 1 v [] by simp[Lv,(h.x5 v).1 hx],il]
   |some x=>
    obtain⟨q1,q2,q3⟩:=h.ok v x hx
    rw[q2,rR x q1 (fun u hu=>ih (ρ u) (by have:=q3 u hu;omega) u (Nat.le_refl _))]
    exact(hs _ (cK hx)).symm
 exact fun v _=>key _ v (Nat.le_refl _)
theorem RI{s:aA}{θ b:List (Int×Tm)}{l:List TB}{ρ:Int->Nat}{R:Nat}(h:kq s b l ρ R)(hr:∀p∈b,0<=p.1/\p.1<20)(hg:yd θ l):Sat θ b:=fun p hp=>by
 obtain⟨q1,q2,q3⟩:=h.ok p.1 p.2 ((jj h.keys).2 hp)
 rw[<- hg p.1 (hr p hp),q2]
 exact yd.sub hg q1
theorem RJ{sg:aA}{l:List TB}(h:iF sg l):∀p∈ah l,0<=p.1/\p.1<20:=fun p hp=>by
 obtain⟨x,hx,rfl⟩:=ez hp
 exact(h.ok x hx).1
theorem xz{s:bU}(h:bw s){a c:Tm}(ha:bB s.sig a=true)(hc:bB s.sig c=true){f:Nat}{e:Int}{b':List (Int×Tm)}(hq:iw true f a c (ah s.binds)=some (e,b')){θ:List (Int×Tm)}(hs:Sat θ (ah s.binds)):
 (e=0->(Sat θ b'↔aS θ a=aS θ c))/\(e=5->aS θ a≠aS θ c):=by
 obtain⟨l,ρ,R,hS,hl⟩:=iu h.jk.keys h.jk.ok h.jk.DZ
 have va:=(bz ha).1
 have vc:=(bz hc).1
 obtain⟨f2,r,hr⟩:=oY _ _ a c l (Nat.le_refl _) (Nat.le_refl _) hl va vc
 obtain⟨g,e2,b2,h1,h2⟩:=Bv (lim:=true) f2 a c l r hr hl va vc a c _ ρ R hS va vc rfl rfl
 have e1:=fw hq (Nat.le_max_left f g)
 rw[fw h1 (Nat.le_max_right f g)]at e1
 injection e1 with e1
 injection e1 with e1 e3
 subst e1
 subst e3
 have ae2:=vi hS hs
 refine⟨fun h0=> ?_,fun h5 he=> ?_⟩
 ·rcases h2 with⟨_,k2,K4,R',k3⟩|⟨k1,_⟩|⟨k1,_⟩
  ·obtain⟨l',ok⟩:=r
   have k2:ok=true:=k2
   subst k2
   have aY:=ow f2 a c l l' hr hl va vc
   subst h0
   obtain⟨E,hE,hB⟩:=ma h ha hc hq
   constructor
   ·intro jU
    have Q1:=vi k3 jU
    have tR:=Er f2 a c l l' hr hl va vc
    have e1:=yd.sub Q1 va
    have e2:=yd.sub Q1 vc
    rw[<- e1, <- e2]
    exact congrArg (aS θ) tR
   ·intro he
    have:=sa f2 a c l (l',true) hr hl va vc ae2 he
    refine RI k3 ?_ this.2
    rw[hE]
    exact RJ hB
  ·omega
  ·omega
 ·have:=(sa f2 a c l r hr hl va vc ae2 he).1
  rcases h2 with⟨k1,_⟩|⟨_,k2⟩|⟨k1,_⟩
  ·omega
  ·rw[this]at k2;cases k2
  ·omega
theorem ID{sg:aA}{l:List TB}(h:iF sg l){n:Nt}(na:bB sg n.a=true)(nb:bB sg n.b=true)(hb:oZ (ah l) n){θ:List (Int×Tm)}(hs:Sat θ (ah l)):aS θ n.a=aS θ n.b:=by
 obtain⟨l',ρ,R,hS,hl⟩:=iu h.keys h.ok h.DZ
 have va:=(bz na).1
 have vb:=(bz nb).1
 have hg:=vi hS hs
 rw[<- yd.sub hg va, <- yd.sub hg vb,(o6 hS va vb).1 hb]
theorem OC{s:aA}{b:List (Int×Tm)}{l:List TB}{ρ:Int->Nat}{R:Nat}(hS:kq s b l ρ R)(hl:iE s l){a c:Tm}(va:Vs s a)(vc:Vs s c){f:Nat}{r:List TB×Bool}(hr:fN f (aS (ah l) a) (aS (ah l) c) []=some r)(h2:r.2=false){θ:List (Int×Tm)}(hs:Sat θ b):aS θ a≠aS θ c:=fun he=>by
 have hg:=vi hS hs
 have:=(sa f _ _ [] r hr iE.nil (Vs.sub hl.bd a va) (Vs.sub hl.bd c vc) (θ:=θ) yd.nil (by rw[yd.sub hg va,yd.sub hg vc];exact he)).1
 rw[h2]at this;cases this
def Slv(θ:List (Int×Tm))(s:bU):Prop:=Sat θ (ah s.binds)/\∀n∈s.aH,aS θ n.a≠aS θ n.b
end Go.Proofs.YtlhemmpklhhgoaaGreat
