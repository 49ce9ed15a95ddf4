/-
  A PART OF THE PROOF. Conditions: none.
-/
import Derived.Test.YtlhemmpklhhgoaaGreatQu20
set_option linter.unusedSimpArgs false
set_option linter.unusedVariables false
set_option maxHeartbeats 8000000
namespace Go.Proofs.YtlhemmpklhhgoaaGreat
def Fu(o:Nat->ad)(x m c:Nat)(E:List TB):Nat->ad:=ay (ay (ay o x (.row [.mp m, .osl c 0, .d (.bool false)])) m (dh (ai E))) c (.arr 0 59 4 (E.map TB.d))
section
variable {o:Nat->ad}{x m nx:Nat}{E:List TB}(lx:x<nx)(lm:m<nx)(cF:x≠m)
include lx lm cF
theorem S1:Fu o x m nx E x= .row [.mp m, .osl nx 0, .d (.bool false)]:=Tl
theorem S2:Fu o x m nx E m=dh (ai E):=Tl
theorem S3:Fu o x m nx E nx= .arr 0 59 4 (E.map TB.d):=Tl
omit lx lm cF in
theorem nS{j:Nat}(h1:j≠x)(h2:j≠m)(h3:j≠nx):Fu o x m nx E j=o j:=by unfold Fu;(repeat(first|rfl|rw[ab]|rw[ae _ _ _ _ (by omega)]))
theorem MM(hg:Good o nx):Good (Fu o x m nx E) (nx+1):=by
 have _:=cF
 unfold Fu
 refine Good.ay (Good.ay (Good.ay (hg.mono af) af ?_) af rfl) af rfl
 simp[ad.refs,V.aK,V.refs]
 omega
theorem MN(gone:Nat->Prop)(xl:V)(l:List V)(hg:Good o nx)(si:∀id,gone id->nx<=id){e:Nat->V}{so:Nat->ad}{k:Nat}(gl:fE so gone 59 4 (E.map TB.d) xl)
 (sx:so x= .row [.mp m,xl, .d (.bool false)]) (sm:so m=dh (ai E)) (h:∀j,j<nx->j≠x->j≠m->so j=o j) (he:iL nx [⟨xl,59,4,E.map TB.d⟩] so gone e l 0):bI nx ⟨e,so,k⟩ ⟨aY l,Fu o x m nx E,nx+1⟩:=by
 refine bI.w7 gone xl nx l (Nat.le_refl _) (fun j hj=> ?_) (S3 lx lm cF) gl (fun j hj=> ?_) (fun j h1 h2=>absurd (si j h1) af) he
 ·by_cases e1:j=x
  ·subst e1
   rw[S1 lx lm cF]
   exact Y2
  ·by_cases e2:j=m
   ·subst e2
    rw[S2 lx lm cF]
    exact bX sm (fun r hr=>by simp[ad.refs]at hr)
   ·rw[nS e1 e2 (by omega),h j hj e1 e2]
    exact bX rfl (fun r hr=>hg.refs j r hr)
 ·rw[nS (by omega) (by omega) (by omega)]
  exact Bb
end
theorem PD{s:aB}{ps:List (Tm×Tm)}(Ey:∀p∈ps,QT s p.1/\QT s p.2)(hlen:ps.length<=1000){f:Nat}{e:Int}{b':List (Int×Tm)}(hf:lN (jd false f) (ps.map (·.1)) (ps.map (·.2)) []=some (e,b')){lb xb x m:Nat}(o:Nat->ad)(nx:Nat)(hg:Good o nx)
 (hl:o lb= .row [.d (.sl (ps.map wk))]) (WL:o xb= .row [.ptr x 0]) (hx:o x= .row [.mp m, .aq, .d (.bool false)]) (hm:o m=dh []) (K X:V->(Nat->ad)->Nat->Prop)
 (aV:e=0->pU s b'->∀ (o':Nat->ad) (nx' l:Nat),nx<=nx'->l<nx'->Good o' nx'->o' x= .row [.mp m, .osl l 0, .d (.bool false)]->o' m=dh b'->(∀j,j<nx->j≠x->j≠m->o' j=o j)->K (.bP []) o' nx')
 (oI:e≠0->∀v o' nx',v= .d (.iface 162 (.agg []))\/v= .d (.iface 163 (.agg []))->nx<=nx'->Good o' nx'->(∀j,j<nx->j≠x->j≠m->o' j=o j)->X v o' nx'):
 bQ Tryz.prog 109 [.ptr lb 0, .ptr xb 0] o nx K X:=by
 have lx:x<nx:=hg.lt J1
 have lm:m<nx:=hg.lt Fw
 have llb:lb<nx:=hg.lt (by rw[hl];exact ad.noConfusion)
 have lxb:xb<nx:=hg.lt (by rw[WL];exact ad.noConfusion)
 have cF:x≠m:=fun e=>by subst e;rw[hx]at hm;cases hm
 have d1:lb≠x:=fun e=>by subst e;rw[hx]at hl;cases hl
 have d2:lb≠m:=fun e=>by subst e;rw[hm]at hl;cases hl
 have d3:xb≠x:=fun e=>by subst e;rw[hx]at WL;cases WL
 have d4:xb≠m:=fun e=>by subst e;rw[hm]at WL;cases WL
 refine bQ.aH mix RY aE ?_
 rw[Vm]
 refine Yr hl WL hx hm ?_
 refine aG (fun i:Nat×List TB=>⟨aY [.ptr lb 0, .ptr xb 0, .aa, .aa, .d (.sl (ps.map wk)), .d (.i ps.length), .d (.i i.1)],Fu o x m nx i.2,nx+1⟩)
  (fun i=>i.1<=ps.length/\lN (jd false f) ((ps.drop i.1).map (·.1)) ((ps.drop i.1).map (·.2)) (ai i.2)=some (e,b')/\pU s (ai i.2)) (fun i=>ps.length - i.1) (0,[]) ⟨Nat.zero_le _,hf,pU.nil⟩ ?_ ?_
 ·refine MN lx lm cF (fun _=>False) .aq _ hg (fun _ h=>h.elim) (.inl ⟨rfl,rfl,bu⟩) hx hm (fun j j1 j2 j3=>rfl) ?_
  exact rn
 rintro⟨k,E⟩ ⟨hk,hL,hA⟩
 dsimp only at hk hL hA|-
 have afe:=hA.len
 have q1:Fu o x m nx E lb= .row [.d (.sl (ps.map wk))]:=by rw[nS d1 d2 (by omega),hl]
 have q2:Fu o x m nx E xb= .row [.ptr x 0]:=by rw[nS d3 d4 (by omega),WL]
 have q3:=S1 (o:=o) (E:=E) lx lm cF
 have q4:=S2 (o:=o) (E:=E) lx lm cF
 have q5:=S3 (o:=o) (E:=E) lx lm cF
 have hgU:=MM (o:=o) (E:=E) lx lm cF hg
 refine Jx ?_
 refine ao (fun h6=> ?_) (fun h6=> ?_)
 ·replace h6:k<ps.length:=by simp at h6;omega
  obtain⟨⟨a,c⟩,hp⟩:=aD h6
  obtain⟨ha,hc⟩:=Ey _ (List.mem_of_getElem? hp)
  have I6:ps.drop k=(a,c)::ps.drop (k+1):=by
   obtain⟨i1,i2⟩:=List.getElem?_eq_some_iff.1 hp
   exact A7
  rw[I6]at hL
  simp only[List.map_cons,lN]at hL
  cases hq:jd false f a c (ai E)with
  |none=>rw[hq]at hL;cases hL
  |some q=>
  obtain⟨e1,b1⟩:=q
  rw[hq]at hL
  dsimp only at hL
  simp+contextual (disch:=first|omega|simp only[go_sem,false_implies]) only[go_sem,wrap64,if_pos,hp,q1,q2,q3,q4,q5,Nat.add_assoc,Nat.left_eq_add,Nat.add_eq_left,Nat.add_left_cancel_iff,List.length_map]
  have rE:Good (ay (ay (Fu o x m nx E) (nx+4) (.row [.d (.i 0), .d (.i 0), .aq, .d (.i 0), .d (.i 0), .aq])) (nx+4) (.row [.d (.i a.op), .d (.i a.n), .d (.sl (a.kids.map Tm.d)), .d (.i c.op), .d (.i c.n), .d (.sl (c.kids.map Tm.d))])) (nx+11):=
   Good.ay (Good.ay (hgU.mono af) af rfl) af rfl
  refine aU (wo hA ha hc (L:=E) af hq (x:=x) (m:=m) (xl:= .osl nx 0) _ (ay (ay (ay (Fu o x m nx E) (nx+4) (.row [.d (.i 0), .d (.i 0), .aq, .d (.i 0), .d (.i 0), .aq])) (nx+4) (.row [.d (.i a.op), .d (.i a.n), .d (.sl (a.kids.map Tm.d)), .d (.i c.op), .d (.i c.n), .d (.sl (c.kids.map Tm.d))])) nx .no) _ (fun j=>j=nx) rE (rE.ay af rfl) Tq PW (.inr ⟨nx,0,rfl,rfl,by(repeat(first|rfl|rw[ab]|rw[ae _ _ _ _ (by omega)]));exact q5⟩) (fun j e=>by subst e;exact⟨af,af,af,ab _ _ _⟩) (fun j hj=> ?_) _ _ (fun h0 E' hE o' nx' h1 h2 h3 h4=> ?_) (fun h5 o' nx' h1 h2 h4=> ?_) (fun h3 o' nx' h1 h2 h4=> ?_))
  ·by_cases e:j=nx
   ·subst e;exact .inl (ab _ _ _)
   ·exact .inr (ae _ _ _ _ e).symm
  ·have hA':=(wh f a c _ b1 (h0 ▸ hq) hA ha hc).1
   have Px:b1=ai (E++E'):=by rw[hE,eo]
   rw[if_pos h0,Px]at hL
   rw[Px]at hA'
   refine fM ?_
   refine aj (k+1,E++E') ⟨h6,hL,hA'⟩ je (MN lx lm cF (fun j=>j=nx+18) (.osl (nx+18) 0) _ hg (fun j e=>af) (.inr ⟨nx+18,0,rfl,rfl,h3.RM⟩) h3.row (by rw[<- Px];exact h3.map) (fun j j1 j2 j3=> ?_) ?_)
   ·rw[h4 j (by omega) j2 j3]
    (repeat(first|rfl|rw[ab]|rw[ae _ _ _ _ (by omega)]))
    exact nS j2 j3 af
   ·exact rn
  ·rw[if_neg (by omega)]at hL
   injection hL with hL
   injection hL with hL1 hL2
   refine fM ?_
   refine oI af _ _ _ (.inl rfl) af h2 (fun j j1 j2 j3=> ?_)
   rw[h4 j (by omega) j2 j3]
   (repeat(first|rfl|rw[ab]|rw[ae _ _ _ _ (by omega)]))
   exact nS j2 j3 af
  ·rw[if_neg (by omega)]at hL
   injection hL with hL
   injection hL with hL1 hL2
   refine fM ?_
   refine oI af _ _ _ (.inr rfl) af h2 (fun j j1 j2 j3=> ?_)
   rw[h4 j (by omega) j2 j3]
   (repeat(first|rfl|rw[ab]|rw[ae _ _ _ _ (by omega)]))
   exact nS j2 j3 af
 ·replace h6:k=ps.length:=by simp at h6;omega
  subst h6
  rw[List.drop_length]at hL
  simp only[List.map_nil,lN]at hL
  injection hL with hL
  injection hL with hL1 hL2
  subst hL2
  refine fM ?_
  refine aV hL1.symm hA _ _ nx ?_ ?_ ?_ q3 q4 (fun j j1 j2 j3=>nS j2 j3 af)
  ·omega
  ·omega
  ·exact hgU.mono af
theorem MO{s:aB}{b:List (Int×Tm)}{l:List TB}{ρ:Int->Nat}{R:Nat}(h:lC s b l ρ R)(hl:jP s l):c6 (b.map (·.1))=l.map (·.var):=by
 have hp:(c6 (b.map (·.1))).Perm (b.map (·.1)):=List.mergeSort_perm _ _
 have hs:(c6 (b.map (·.1))).Pairwise (fun a b=>decide (a<=b)=true):=List.pairwise_mergeSort (fun a b c h1 h2=>by simp at*;omega) (fun a b=>by simp;omega) _
 have zp:(c6 (b.map (·.1))).Nodup:=hp.nodup_iff.2 h.keys
 refine LS ((hs.and zp).imp fun {a b} h=>by have:=h.1;have:=h.2;simp at*;omega) (List.pairwise_map.2 hl.srt) fun v=> ?_
 have e:=h.Ar v
 rw[lz,lz]at e
 have e2:(ai l).map (·.1)=l.map (·.var):=by unfold ai;rw[List.map_map];rfl
 rw[e2]at e
 rw[hp.mem_iff]
 exact Decidable.not_iff_not.1 e
theorem MP{s:aB}{l:List TB}(hl:jP s l):((ai l).map (·.1)).Nodup:=by
 have e2:(ai l).map (·.1)=l.map (·.var):=by unfold ai;rw[List.map_map];rfl
 rw[e2]
 exact(List.pairwise_map.2 hl.srt).imp fun h=>af
theorem MQ{s:aB}{b:List (Int×Tm)}{l:List TB}{ρ:Int->Nat}{R:Nat}(h:lC s b l ρ R)(hl:jP s l){k:Nat}{y:TB}(hy:l[k]? =some y):∃x f,bS b y.var=some x/\ui f b x=some y.term/\Vs s x:=by
 have hm:=List.mem_of_getElem? hy
 have h1:bS (ai l) y.var=some y.term:=(lA (MP hl)).2 (iy hm)
 cases hx:bS b y.var with
 |none=>rw[(h.Ar _).1 hx]at h1;cases h1
 |some x=>
  obtain⟨q1,q2,_⟩:=h.ok _ _ hx
  have e:y.term=aZ (ai l) x:=by rw[<- q2];simp[Lv,h1]
  exact⟨x,_,rfl,by rw[e];exact oZ h _ x q1 (Nat.le_refl _),q1⟩
theorem Tm.PE:∀t:Tm,t.mI->t.wid:=by
 refine Tm.fj fun t ih h=> ?_
 have h':=(Tm.ji t).1 h
 rw[Tm.Az]
 exact⟨af,fun k hk=>ih k hk (h'.2 k hk)⟩
def Nq(l c:Nat)(b:List (Int×Tm))(L:List TB):Nat->ad:=ay (ay (ay (ay (fun _=> .no) 3 (.b8 (enc (D.int .i64) (jW b)))) 5 (.row [.mp 3, .osl l 0, .d (.bool false)])) 6 (.row [.ptr 5 0])) c (.arr 0 59 4 (L.map TB.d))
theorem MR{l c:Nat}{b:List (Int×Tm)}{L:List TB}(hc:6<c):Nq l c b L 3= .b8 (enc (D.int .i64) (jW b))/\Nq l c b L 5= .row [.mp 3, .osl l 0, .d (.bool false)]/\Nq l c b L 6= .row [.ptr 5 0]/\Nq l c b L c= .arr 0 59 4 (L.map TB.d):=by
 unfold Nq
 exact⟨by(repeat(first|rfl|rw[ab]|rw[ae _ _ _ _ (by omega)])),by(repeat(first|rfl|rw[ab]|rw[ae _ _ _ _ (by omega)])),by(repeat(first|rfl|rw[ab]|rw[ae _ _ _ _ (by omega)])),by(repeat(first|rfl|rw[ab]|rw[ae _ _ _ _ (by omega)]))⟩
theorem MT(gone:Nat->Prop)(x:V)(env:List V){l c:Nat}{b:List (Int×Tm)}{L:List TB}(hc:6<c)(hl:l<c)(si:∀id,gone id->c<=id){e:Nat->V}{so:Nat->ad}{m:Nat}(gx:fE so gone 59 4 (L.map TB.d) x)
 (s3:so 3= .b8 (enc (D.int .i64) (jW b))) (s5:so 5= .row [.mp 3, .osl l 0, .d (.bool false)]) (s6:so 6= .row [.ptr 5 0]) (he:iL c [⟨x,59,4,L.map TB.d⟩] so gone e env 0):bI 0 ⟨e,so,m⟩ ⟨aY env,Nq l c b L,c+1⟩:=by
 obtain⟨g3,g5,g6,gc⟩:=MR (l:=l) (b:=b) (L:=L) hc
 refine bI.w7 gone x c env af (fun j hj=> ?_) gc gx (fun j hj=> ?_) (fun j h1 h2=>absurd (si j h1) af) he
 ·by_cases e3:j=3
  ·subst e3;rw[s3,g3];exact bX rfl (fun r hr=>by simp[ad.refs]at hr)
  by_cases e5:j=5
  ·subst e5;rw[s5,g5];exact bX rfl (fun r hr=>by simp[ad.refs,V.aK,V.refs]at hr;omega)
  by_cases e6:j=6
  ·subst e6;rw[s6,g6];exact bX rfl (fun r hr=>by simp[ad.refs,V.aK,V.refs]at hr;omega)
  have:Nq l c b L j= .no:=by unfold Nq;(repeat(first|rfl|rw[ab]|rw[ae _ _ _ _ (by omega)]))
  rw[this];exact me
 ·unfold Nq
  exact cA
theorem yJ{s:aB}{ps:List (Tm×Tm)}(Ey:∀p∈ps,QT s p.1/\QT s p.2)(hlen:ps.length<=1000){f:Nat}{e:Int}{b':List (Int×Tm)}(hf:lN (jd false f) (ps.map (·.1)) (ps.map (·.2)) []=some (e,b')){l':List TB}{ρ:Int->Nat}{R:Nat}(hS:e=0->lC s b' l' ρ R/\jP s l'/\∀x∈l',x.term.mI):
 aW Tryz.prog 67 [.sl (ps.map wk)] (.ret [.sl (if e=0 then l'.map TB.d else []), .bool (e==0)]):=by
 refine aW.aH mix abj aE ?_
 rw[c67]
 refine fM ?_
 refine aU (yG _ _ _ _ ?_ _ _ (PD Ey hlen hf (lb:=0) (xb:=6) (x:=5) (m:=3) _ _ ?_ cA cA cA cA _ _ (fun h0 hA o1 n1 l g1 g2 g3 g4 g5 g6=>⟨af,g3, ?_,fun o2 n2 k1 k2 k3=> ?_⟩) (fun iZ v o1 n1 hv g1 g3 g6=> ?_)))
 ·exact dE
 ·exact dE
 ·rw[g6 _ (by omega) (by omega) (by omega)];(repeat(first|rfl|rw[ab]|rw[ae _ _ _ _ (by omega)]))
 ·have f5:o2 5= .row [.mp 3, .osl l 0, .d (.bool false)]:=by rw[k3 _ (by omega) (by omega)];exact g4
  have f3:o2 3=dh b':=by rw[k3 _ (by omega) (by omega)];exact g5
  have f6:o2 6= .row [.ptr 5 0]:=by rw[k3 _ (by omega) (by omega),g6 _ (by omega) (by omega) (by omega)];(repeat(first|rfl|rw[ab]|rw[ae _ _ _ _ (by omega)]))
  obtain⟨ac5,ac6,hfw⟩:=hS h0
  have afs:b'.length<=20:=by
   have:=C5 hA.keys fun v hv=>by
    obtain⟨p,hp,rfl⟩:=List.mem_map.1 hv
    exact(hA.ok p hp).1
   rwa [List.length_map]at this
  have S4:=MO ac5 ac6
  have afz:l'.length<=20:=by
   have e1:=congrArg List.length S4
   unfold c6 at e1
   rw[List.length_mergeSort,List.length_map,List.length_map]at e1
   omega
  refine Td f5 f3 f6 ?_
  refine bY (bQ.ES (id:=3) f3 af (Pz 3 _ _ _ _ ?_))
  refine fM ?_
  refine aU (bQ.seal (MJ (b:=b') af (p:=n2+8) (m:=3) _ _ ?_ cA cA _ _ (fun o3 n3 id ep m1 m2 m3 m4 m5=>⟨.sl ((l'.map (·.var)).map .i), ?_, ?_⟩)))
  ·refine Good.ay (Good.ay (k2.mono af) af rfl) af ?_
   exact A8
  ·rw[S4]at m5
   exact yP m5
  have F:∀j,j<n2+8->put o3 (bw o3 [id]) j=ay (ay o2 3 (.b8 (enc (D.int .i64) (jW b')))) (n2+8) (.row [.mp 3]) j:=fun j hj=>by
   rw[AL _ _ _ (fun y hy=> ?_),m4 j (by omega)]
   simp[bw]at hy
   subst hy
   dsimp only
   omega
  have F5:put o3 (bw o3 [id]) 5= .row [.mp 3, .osl l 0, .d (.bool false)]:=by rw[F 5 (by omega)];(repeat(first|rfl|rw[ab]|rw[ae _ _ _ _ (by omega)]));exact f5
  have F3:put o3 (bw o3 [id]) 3= .b8 (enc (D.int .i64) (jW b')):=by rw[F 3 (by omega)];(repeat(first|rfl|rw[ab]|rw[ae _ _ _ _ (by omega)]))
  have F6:put o3 (bw o3 [id]) 6= .row [.ptr 5 0]:=by rw[F 6 (by omega)];(repeat(first|rfl|rw[ab]|rw[ae _ _ _ _ (by omega)]));exact f6
  have hGO:=wE m3 [id]
  have WK:l<n3:=af
  clear F
  simp only[V.ids]
  generalize put o3 (bw o3 [id])=O at F5 F3 F6 hGO|-
  simp+contextual (disch:=first|omega|simp only[go_sem,false_implies]) only[go_sem,wrap64,if_pos,F5,F3,F6,Nat.add_assoc,Nat.left_eq_add,Nat.add_eq_left,Nat.add_left_cancel_iff,List.length_map]
  refine aG (fun k:Nat=>⟨aY [.aa, .aa, .aa, .aa, .ptr 6 0, .aa, .osl n3 0, .aa, .aa, .aa, .aa, .aa, .aa, .aa, .aa, .aa, .aa, .aa, .aa, .aa, .aa, .d (.sl ((l'.map (·.var)).map .i)), .d (.i l'.length), .d (.i k)],Nq l n3 b' (l'.take k),n3+1⟩)
   (fun k=>k<=l'.length) (fun k=>l'.length - k) 0 (Nat.zero_le _) (MT (fun _=>False) .aq _ af WK (fun _ h=>h.elim) (.inl ⟨rfl,rfl,bu⟩) F3 F5 F6 ?_) (fun k hk=> ?_)
  ·exact rn
  replace hk:k<=l'.length:=hk
  obtain⟨g3,g5,Ym,gc⟩:=MR (l:=l) (c:=n3) (b:=b') (L:=l'.take k) af
  refine Yr g3 g5 Ym gc ?_
  refine ao (fun h6=> ?_) (fun h6=> ?_)
  ·replace h6:k<l'.length:=by simp at h6;omega
   obtain⟨y,hy⟩:=aD h6
   obtain⟨x,fx,x1,x2,x3⟩:=MQ ac5 ac6 hy
   have uh:l'.take (k+1)=l'.take k++[y]:=by rw[List.take_add_one,hy];rfl
   have e0:(l'.take k).length=k:=by rw[List.length_take];omega
   have fh:k<=140737488355327/\(k+1)*48<=140737488355328:=af
   obtain⟨jx,hjx⟩:=fL x1
   refine Yq g3 g5 Ym gc hy hjx ?_
   refine cy (E0 (fun p hp=>(hA.ok p hp).2.fits) fx x y.term (hA.ok _ (cK x1)).2.fits x2 (Tm.PE _ (hfw y (List.mem_of_getElem? hy)))) ?_
   refine Yq g3 g5 Ym gc e0 fh ?_
   refine aO (bz (ids:=[6,5,3,n3,n3+19]) (nx:=n3+22) (by simp<;>omega) (by simp<;>omega) [([],[]),([],[]),([0],[]),([1],[]),([1],[]),([1],[]),([0],[]),([1],[]),([1],[]),([1],[]),([],[]),([2],[]),([2],[2]),([],[]),([],[4]),([3,4],[3]),([],[])] bu) ?_
   refine fM ?_
   refine aj (k+1) h6 af (MT (fun j=>n3<=j) (.osl n3 1) _ af WK (fun _ h=>h) (.inr ⟨n3,1,Nat.le_refl _,rfl,by(repeat(first|rfl|rw[ab]|rw[ae _ _ _ _ (by omega)]));rw[uh,List.map_append];rfl⟩) cA (by(repeat(first|rfl|rw[ab]|rw[ae _ _ _ _ (by omega)]));exact g5) (by(repeat(first|rfl|rw[ab]|rw[ae _ _ _ _ (by omega)]));exact Ym) ?_)
   exact rn
  ·replace h6:k=l'.length:=by simp at h6;omega
   subst h6
   rw[List.take_length]at g3 g5 Ym gc|-
   rw[if_pos h0]
   subst h0
   simp+contextual (disch:=first|omega|simp only[go_sem,false_implies]) only[go_sem,wrap64,if_pos,g3,g5,Ym,gc,Nat.add_assoc,Nat.left_eq_add,Nat.add_eq_left,Nat.add_left_cancel_iff]
 ·have ee:(e==0)=false:=by rw[beq_eq_false_iff_ne];exact iZ
  rw[if_neg iZ,ee]
  rcases hv with rfl|rfl
  ·refine .inl ⟨rfl,af,g3,by rw[g6 _ (by omega) (by omega) (by omega)];(repeat(first|rfl|rw[ab]|rw[ae _ _ _ _ (by omega)])),fun o2 n2 k1 k2 k3=> ?_⟩
   exact Te
  ·refine .inr ⟨rfl,af,g3,by rw[g6 _ (by omega) (by omega) (by omega)];(repeat(first|rfl|rw[ab]|rw[ae _ _ _ _ (by omega)])),fun o2 n2 k1 k2 k3=> ?_⟩
   exact Te
end Go.Proofs.YtlhemmpklhhgoaaGreat
namespace Go.Proofs.YtlhemmpklhhgoaaGreat
theorem PF(v:Int):(Tm.mk 1 v []).mI:=by rw[Tm.ji];simp[Tm.kids]
theorem AO{l:List TB}(h:∀x∈l,x.term.mI):∀p∈ai l,p.2.mI:=fun p hp=>by
 obtain⟨x,hx,rfl⟩:=List.mem_map.1 hp
 exact h x hx
theorem wF{l:List TB}{n:Int}{t:Tm}(hl:∀x∈l,x.term.mI)(ht:t.mI):∀x∈jO l n t,x.term.mI:=fun x hx=>by
 rcases ue.1 hx with rfl|hx
 ·exact ht
 ·obtain⟨y,hy,rfl⟩:=List.mem_map.1 hx
  exact Tm.AH (fun p hp=>by simp[w9]at hp;subst hp;exact ht) _ (hl y hy)
theorem He:∀ (f:Nat) (a c:Tm) (l:List TB) (r:List TB×Bool),iM f a c l=some r->a.mI->c.mI->(∀x∈l,x.term.mI)->∀x∈r.1,x.term.mI
 |0,_,_,_,_,h,_,_,_=>by cases h
 |f+1,a,c,l,r,h,ha,hc,hl=>by
  have fa:=Tm.AH (AO hl) a ha
  have fc:=Tm.AH (AO hl) c hc
  simp only[iM]at h
  generalize aZ (ai l) a=a0 at*
  generalize aZ (ai l) c=c0 at*
  split at h
  ·injection h with h;subst h;exact hl
  ·split at h
   ·injection h with h;subst h;exact wF hl (PF _)
   ·split at h
    ·injection h with h;subst h;exact wF hl fc
    ·split at h
     ·injection h with h;subst h;exact wF hl fa
     ·split at h
      ·injection h with h;subst h;intro x hx;cases hx
      ·have key:∀ (ks dx:List Tm) (l:List TB),(∀k∈ks,k.mI)->(∀k∈dx,k.mI)->(∀x∈l,x.term.mI)->dM (iM f) ks dx l=some r->∀x∈r.1,x.term.mI:=by
        intro ks
        induction ks with
        |nil=>intro dx l _ _ hl h;simp only[dM]at h;injection h with h;subst h;exact hl
        |cons k ks CZ=>
         intro dx l m1 m2 hl h
         cases dx with
         |nil=>simp only[dM]at h;injection h with h;subst h;exact hl
         |cons k' dx=>
          simp only[dM]at h
          cases e:iM f k k' l with
          |none=>rw[e]at h;cases h
          |some r1=>
           have h1:=He f k k' l r1 e (m1 k aE) (m2 k' aE) hl
           obtain⟨l1,ok⟩:=r1
           rw[e]at h
           cases ok with
           |false=>simp only at h;injection h with h;subst h;exact h1
           |true=>exact CZ dx l1 (fun y hy=>m1 y kQ) (fun y hy=>m2 y kQ) h1 h
       exact key _ _ l ((Tm.ji _).1 fa).2 ((Tm.ji _).1 fc).2 hl h
end Go.Proofs.YtlhemmpklhhgoaaGreat
set_option maxHeartbeats 8000000
namespace Go.Proofs.YtlhemmpklhhgoaaGreat
theorem WM{s:aB}{b:List (Int×Tm)}{l:List TB}{ρ:Int->Nat}{R:Nat}(h:lC s b l ρ R)(hl:jP s l)(hf:∀p∈b,yA b p.2):∀y∈l,y.term.sz<=40:=fun y hm=>by
 have h1:bS (ai l) y.var=some y.term:=(lA (MP hl)).2 (iy hm)
 cases hx:bS b y.var with
 |none=>rw[(h.Ar _).1 hx]at h1;cases h1
 |some x=>
  obtain⟨q1,q2,_⟩:=h.ok _ _ hx
  have e:y.term=aZ (ai l) x:=by rw[<- q2];simp[Lv,h1]
  rw[e]
  exact Mk h q1 (hf _ (cK hx))
theorem Hf{s:aB}{b:List (Int×Tm)}{l:List TB}{ρ:Int->Nat}{R:Nat}(h:lC s b l ρ R)(hl:jP s l)(hf:∀p∈b,yA b p.2){t:Tm}(ht:bL s t=true):Vs s (aZ (ai l) t)/\(aZ (ai l) t).mI/\(aZ (ai l) t).sz<=1600:=by
 obtain⟨h1,h2,_⟩:=cg ht
 refine⟨Vs.sub hl.bd t h1,Tm.AH (AO fun x hx=>Tm.E7 _ (by have:=WM h hl hf x hx;omega)) t (Py ht), ?_⟩
 have:=mm h hf h1
 omega
theorem PG{s:aB}{x y:Tm}(hx:Vs s x/\x.mI/\x.sz<=1600)(hy:Vs s y/\y.mI/\y.sz<=1600){f:Nat}{r:List TB×Bool}(h:iM f x y []=some r):
 aW Tryz.prog 67 [.sl [wk (x,y)]] (.ret [.sl (if r.2=true then r.1.map TB.d else []), .bool r.2]):=by
 obtain⟨g,e,b',h1,h2⟩:=E4 (lim:=false) f x y [] r h jP.nil hx.1 hy.1 x y [] _ _ lC.nil hx.1 hy.1 rfl rfl
 have hL:lN (jd false g) (([(x,y)]:List (Tm×Tm)).map (·.1)) (([(x,y)]:List (Tm×Tm)).map (·.2)) []=some (e,b'):=by
  simp only[List.map_cons,List.map_nil,lN,h1]
  by_cases e0:e=0
  ·rw[if_pos e0,e0]
  ·rw[if_neg e0]
 have hq:∀p∈([(x,y)]:List (Tm×Tm)),QT s p.1/\QT s p.2:=fun p hp=>by
  simp at hp
  subst hp
  exact⟨⟨hx.1,by have:=hx.2.2;dsimp only;omega⟩,⟨hy.1,by have:=hy.2.2;dsimp only;omega⟩⟩
 rcases h2 with⟨rfl,h3,Nl,R',hS⟩|⟨rfl,h3⟩|⟨_,h3⟩
 ·have hr:r=(r.1,true):=by rw[<- h3]
  have aff:=(As f x y [] r.1 (by rw[h,hr]) jP.nil hx.1 hy.1).1
  have:=yJ hq aE hL (l':=r.1) (ρ:=Nl) (R:=R') (fun _=>⟨hS,aff,He f x y [] r h hx.2.1 hy.2.1 (fun _ h=>by cases h)⟩)
  rw[h3,if_pos rfl]
  exact this
 ·have:=yJ hq aE hL (l':=[]) (ρ:=fun _=>0) (R:=0) (fun h=>absurd h bu)
  rw[h3,if_neg (by decide)]
  exact this
 ·cases h3
theorem PH(l:List Nt)(hl:l.length<=1000):Ng Tryz.prog 69 [.sl (l.map Nt.d)] (.oM (l.map Nt.d)):=by
 refine Ng.kF rfl ?_
 refine bQ.aH mix abl aE ?_
 rw[c69]
 have hc:((l.map Nt.d).all fun z=>z.cells.length==6)=true:=by
  rw[List.all_eq_true]
  intro z hz
  obtain⟨r,_,rfl⟩:=List.mem_map.1 hz
  rfl
 have hk:(l.map Nt.d).take l.length=l.map Nt.d:=List.take_of_length_le aE
 exact Yu hk
theorem Fi(s:bW)(hs:s.Cp)(b:List (Int×Tm))(o:Nat->ad)(nx id lb:Nat)(hg:Good o nx)(ax:o id= .b8 (enc (D.int .i64) (jW b)))(Kk:o lb= .arr 0 101 6 (s.aJ.map Nt.d))(K X:V->(Nat->ad)->Nat->Prop)
 (wq:∀o' nx' i j k,nx<=nx'->Good o' nx'->(∀j,j<nx->j≠lb->o' j=o j)->
  o' i= .arr 0 59 4 (s.binds.map TB.d)->o' j= .arr 0 101 6 (s.aJ.map Nt.d)->o' k= .arr 0 77 2 (s.marks.map ra)->
  K (.agg [.d (.sl (s.sig.cons.map ec.d)), .d (.sl (s.sig.bV.map ec.d)), .osl i 0, .osl j 0, .osl k 0]) o' nx'):
 bQ Tryz.prog 65 [.agg [.d (.sl (s.sig.cons.map ec.d)), .d (.sl (s.sig.bV.map ec.d)), .d (.sl (s.binds.map TB.d)), .osl lb 0, .d (.sl (s.marks.map ra)), .mp id]] o nx K X:=by
 refine bQ.wm (d:=s.kd b) ?_ ?_
 ·exact YA ax Kk
 ·refine AJ s hs b _ nx (wE hg _) K X (fun o' nx' i j k m1 m2 m3 m4 m5 m6=>wq o' nx' i j k m1 m2 (fun j j1 j2=>(m3 j j1).trans ?_) m4 m5 m6)
  show put o (bw o [lb,id]) j=o j
  simp only[bw,List.map_cons,List.map_nil,ax,Kk,put,List.foldl_cons,List.foldl_nil]
  by_cases e:j=id
  ·subst e;rw[ab,ax]
  ·rw[ae _ _ _ _ e,ae _ _ _ _ j2]
def jR(s:bW)(bA uy:Bool):Int:=if bA=true then 5 else if uy=true then(if s.aJ.length=12 then 3 else 0)else 0
def lF(s:bW)(n:Nt)(bA uy:Bool):bW:=if bA=true then gU else if uy=true then(if s.aJ.length=12 then gU else s.Fg n)else s
theorem MU(s:bW)(hs:s.Fin)(a c:Tm)(ha:a.Fin)(hc:c.Fin)(h:bp s)(va:bL s.sig a=true)(vc:bL s.sig c=true){bA:Bool}(WN:bA=true↔Dd (ai s.binds) ⟨a,c⟩){l':List TB}{ρ:Int->Nat}{R:Nat}(hS:lC s.sig (ai s.binds) l' ρ R)(hl:jP s.sig l')
 {f:Nat} {r:List TB×Bool} (hr:iM f (aZ (ai l') a) (aZ (ai l') c) []=some r):aW Tryz.prog 16 [s.d,a.d,c.d] (.ret [(lF s ⟨a,c⟩ bA r.2).d, .i (jR s bA r.2)]):=by
 have cY:∀p∈ai s.binds,yA (ai s.binds) p.2:=fun p hp=>(h.mG.all p hp).1
 have oa:=Hf hS hl cY va
 have oc:=Hf hS hl cY vc
 have fa:=oZ hS _ a (cg va).1 (Nat.le_refl _)
 have fc:=oZ hS _ c (cg vc).1 (Nat.le_refl _)
 have uX:=h.tL
 refine aW.aH mix abb aE ?_
 rw[c16]
 refine fM ?_
 refine bY (Hd s hs a c ha hc _ _ dE _ _ (fun h1 h2 h3 o' nx' id i1 i2 i3 i4=> ?_) (fun hn=>absurd ⟨h,va,vc⟩ hn))
 have e1:o' 1= .row a.row:=(i3 _ af).trans cA
 have e2:o' 2= .row c.row:=(i3 _ af).trans cA
 have e3:o' 3= .row [.aq, .aq, .aq, .aq, .aq]:=(i3 _ af).trans cA
 have ax:id<nx':=Good.lt i2 JK
 have w1:∀k,id≠nx'+k:=fun k=>af
 have w2:∀k,(1:Nat)≠nx'+k:=fun k=>af
 have w3:∀k,(2:Nat)≠nx'+k:=fun k=>af
 have w4:∀k,(3:Nat)≠nx'+k:=fun k=>af
 have w5:∀k,nx'+k≠id:=fun k=>af
 have d1:(1:Nat)≠id:=fun e=>by subst e;rw[e1]at i4;cases i4
 have d2:(2:Nat)≠id:=fun e=>by subst e;rw[e2]at i4;cases i4
 have d3:(3:Nat)≠id:=fun e=>by subst e;rw[e3]at i4;cases i4
 simp+contextual (disch:=first|omega|simp only[go_sem,false_implies]) only[go_sem,wrap64,if_pos,Nat.add_assoc,Nat.left_eq_add,Nat.add_eq_left,Nat.add_left_cancel_iff,e1,e2,e3,i4,w1,w2,w3,w4,w5,d1,d2,d3]
 refine aw (MI h.mG s (n:=⟨a,c⟩) va vc WN).1 rfl ?_
 cases bA with
 |true=>
  simp+contextual (disch:=first|omega|simp only[go_sem,false_implies]) only[go_sem,wrap64,if_pos,Nat.add_assoc,Nat.left_eq_add,Nat.add_eq_left,Nat.add_left_cancel_iff,e1,e2,e3,i4,w1,w2,w3,w4,eX,jR,lF]
 |false=>
  simp+contextual (disch:=first|omega|simp only[go_sem,false_implies]) only[go_sem,wrap64,if_pos,Nat.add_assoc,Nat.left_eq_add,Nat.add_eq_left,Nat.add_left_cancel_iff,e1,e2,e3,i4,w1,w2,w3,w4,w5,d1,d2,d3]
  refine cy (wc (fun p hp=>(h.mG.all p hp).2) _ a _ ha.fits fa af) ?_
  simp+contextual (disch:=first|omega|simp only[go_sem,false_implies]) only[go_sem,wrap64,if_pos,Nat.add_assoc,Nat.left_eq_add,Nat.add_eq_left,Nat.add_left_cancel_iff,e1,e2,e3,i4,w1,w2,w3,w4,w5,d1,d2,d3]
  refine cy (wc (fun p hp=>(h.mG.all p hp).2) _ c _ hc.fits fc af) ?_
  simp+contextual (disch:=first|omega|simp only[go_sem,false_implies]) only[go_sem,wrap64,if_pos,Nat.add_assoc,Nat.left_eq_add,Nat.add_eq_left,Nat.add_left_cancel_iff,e1,e2,e3,i4,w1,w2,w3,w4,w5,d1,d2,d3]
  refine cy (PG oa oc hr) ?_
  simp+contextual (disch:=first|omega|simp only[go_sem,false_implies]) only[go_sem,wrap64,if_pos,Nat.add_assoc,Nat.left_eq_add,Nat.add_eq_left,Nat.add_left_cancel_iff,e1,e2,e3,i4,w1,w2,w3,w4,w5,d1,d2,d3]
  refine aO (bz (ids:=[nx'+3,1,id,2,nx'+25]) (nx:=nx'+32) gz gz [([0],[]),([0],[]),([1],[]),([2],[2]),([0],[]),([0],[]),([3],[]),([2],[2]),([],[]),([],[4]),([4],[4]),([],[]),([],[]),([],[]),([],[]),([],[])] bu) ?_
  have hg:=i2
  have PC:=h.cp
  cases uQ:r.2 with
  |false=>
   rw[show lF s ⟨a,c⟩ false false=s from rfl,show jR s false false=0 from rfl]
   simp+contextual (disch:=first|omega|simp only[go_sem,false_implies]) only[go_sem,wrap64,if_pos,Nat.add_assoc,Nat.left_eq_add,Nat.add_eq_left,Nat.add_left_cancel_iff,e1,e2,e3,i4,w1,w2,w3,w4,w5,d1,d2,d3]
   refine bY (wB s h.cp (ai s.binds) _ _ id dE cA _ _ (fun o2 n2 i j k m1 m2 m3 m4 m5 m6=> ?_))
   have f3:o2 3= .row [.aq, .aq, .aq, .aq, .aq]:=(m3 3 af).trans Hv
   have z1:i≠3:=fun e=>by subst e;rw[m4]at f3;cases f3
   have z2:j≠3:=fun e=>by subst e;rw[m5]at f3;cases f3
   have z3:k≠3:=fun e=>by subst e;rw[m6]at f3;cases f3
   exact Ns f3 m4 m5 m6 z1 z2 z3
  |true=>
   by_cases Np:s.aJ.length=12
   ·have WO:((s.aJ.length:Int)==12)=true:=by rw[beq_iff_eq];omega
    simp+contextual (disch:=first|omega|simp only[go_sem,false_implies]) only[go_sem,wrap64,if_pos,Nat.add_assoc,Nat.left_eq_add,Nat.add_eq_left,Nat.add_left_cancel_iff,e1,e2,e3,i4,w1,w2,w3,w4,w5,d1,d2,d3,List.length_map,WO,Np,eX,jR,lF]
   ·have WO:((s.aJ.length:Int)==12)=false:=by rw[beq_eq_false_iff_ne];omega
    simp+contextual (disch:=first|omega|simp only[go_sem,false_implies]) only[go_sem,wrap64,if_pos,Nat.add_assoc,Nat.left_eq_add,Nat.add_eq_left,Nat.add_left_cancel_iff,e1,e2,e3,i4,w1,w2,w3,w4,w5,d1,d2,d3,List.length_map,WO]
    refine ye (PH s.aJ af) ?_
    have fh:s.aJ.length+1<=1099511627776/\(s.aJ.length+1)*72<=1099511627776:=af
    simp+contextual (disch:=first|omega|simp only[go_sem,false_implies]) only[go_sem,wrap64,if_pos,Nat.add_assoc,Nat.left_eq_add,Nat.add_eq_left,Nat.add_left_cancel_iff,e1,e2,e3,i4,w1,w2,w3,w4,w5,d1,d2,d3,List.length_map,fh]
    refine aO (bz (ids:=[nx'+3,nx'+11,nx'+43,nx'+44]) (nx:=nx'+48) aE aE [([0],[]),([0],[]),([0],[]),([],[]),([1],[]),([],[2]),([2],[3]),([0],[]),([0],[]),([0,3],[0])] bu) ?_
    simp+contextual (disch:=first|omega|simp only[go_sem,false_implies]) only[go_sem,wrap64,if_pos,Nat.add_assoc,Nat.left_eq_add,Nat.add_eq_left,Nat.add_left_cancel_iff,e1,e2,e3,i4,w1,w2,w3,w4,w5,d1,d2,d3]
    have afg:(s.Fg ⟨a,c⟩).Cp:=by
     refine⟨PC.lc,PC.lf,PC.bl, ?_,PC.ml,PC.bt,fun x hx=> ?_⟩
     ·show(s.aJ++[_]).length<=1000
      simp;omega
     ·have hx:x∈s.aJ++[⟨a,c⟩]:=hx
      rcases List.mem_append.1 hx with hx|hx
      ·exact PC.nt x hx
      ·simp at hx
       subst hx
       have q1:=(cg va).2.1
       have q2:=(cg vc).2.1
       exact⟨by dsimp only;omega,by dsimp only;omega⟩
    rw[show lF s ⟨a,c⟩ false true=s.Fg ⟨a,c⟩ by simp[lF,Np],show jR s false true=0 by simp[jR,Np]]
    refine bY (Fi (s.Fg ⟨a,c⟩) afg (ai s.binds) _ _ id (nx'+44) ?_ ?_ ?_ _ _ (fun o2 n2 i j k m1 m2 m3 m4 m5 m6=> ?_))
    ·exact dE
    ·exact cA
    ·(repeat(first|rfl|rw[ab]|rw[ae _ _ _ _ (by omega)]))
     simp[bW.Fg]
    have f3:o2 3= .row [.aq, .aq, .aq, .aq, .aq]:=(m3 3 af af).trans Hv
    have z1:i≠3:=fun e=>by subst e;rw[m4]at f3;cases f3
    have z2:j≠3:=fun e=>by subst e;rw[m5]at f3;cases f3
    have z3:k≠3:=fun e=>by subst e;rw[m6]at f3;cases f3
    exact Ns f3 m4 m5 m6 z1 z2 z3
end Go.Proofs.YtlhemmpklhhgoaaGreat
set_option maxHeartbeats 4000000
namespace Go.Proofs.YtlhemmpklhhgoaaGreat
theorem bp.same {s:bW}(h:s.Cp):aW Tryz.prog 21 [s.d,s.d] (.ret [.bool true]):=by
 have h3:=h.bl
 have h4:=h.nl
 have h5:=h.ml
 exact wD s h.lc h.lf af af af (fun x hx=>Tm.dv _ (h.bt x hx)) (fun x hx=>⟨Tm.dv _ (h.nt x hx).1,Tm.dv _ (h.nt x hx).2⟩)
end Go.Proofs.YtlhemmpklhhgoaaGreat
set_option maxHeartbeats 8000000
namespace Go.Proofs.YtlhemmpklhhgoaaGreat
theorem Hg:gU.Cp:=⟨bu,bu,bu,bu,bu,fun _ h=>j5,fun _ h=>j5⟩
theorem ky{s:aB}{t:Tm}(h:bL s t=true):t.Fin:=by
 obtain⟨_,h2,h3⟩:=cg h
 exact⟨Tm.dv t af,af⟩
theorem bp.fin {s:bW}(h:bp s)(hf:s.sig.Fits):s.Fin:=by
 have h1:=h.mG.len
 have h2:=h.tL
 have h3:=h.xd
 exact⟨hf,af,af,af,fun x hx=>ky (h.mG.ok x hx).2,fun n hn=>⟨ky (h.aJ n hn).1,ky (h.aJ n hn).2.1⟩⟩
theorem Fj{s:bW}(h:bp s)(hf:s.sig.Fits){a c:Tm}(va:bL s.sig a=true)(vc:bL s.sig c=true){bA:Bool}(WN:bA=true↔Dd (ai s.binds) ⟨a,c⟩)(uy:Bool):
 (lF s ⟨a,c⟩ bA uy).Cp/\(jR s bA uy=0->bp (lF s ⟨a,c⟩ bA uy)/\(lF s ⟨a,c⟩ bA uy).Fin):=by
 unfold lF jR
 have uX:=h.tL
 cases bA with
 |true=>exact⟨Hg,fun h=>absurd (show(5:Int)=0 from h) bu⟩
 |false=>
  cases uy with
  |false=>exact⟨h.cp,fun _=>⟨h,h.fin hf⟩⟩
  |true=>
   by_cases Np:s.aJ.length=12
   ·simp only[Bool.false_eq_true,if_false,if_true,if_pos Np]
    exact⟨Hg,fun h=>absurd h bu⟩
   ·simp only[Bool.false_eq_true,if_false,if_true,if_neg Np]
    have hD:bp (s.Fg ⟨a,c⟩):=I7 h va vc (fun hb=>Bool.false_ne_true (WN.2 hb)) af
    exact⟨hD.cp,fun _=>⟨hD,hD.fin hf⟩⟩
end Go.Proofs.YtlhemmpklhhgoaaGreat
set_option maxHeartbeats 8000000
namespace Go.Proofs.YtlhemmpklhhgoaaGreat
end Go.Proofs.YtlhemmpklhhgoaaGreat
namespace Go.Proofs.YtlhemmpklhhgoaaGreat
def Gen(θ:List (Int×Tm))(l:List TB):Prop:=∀v,0<=v/\v<20->aZ θ (Lv (ai l) v)=Lv θ v
theorem Gen.nil {θ:List (Int×Tm)}:Gen θ []:=fun v _=>by rw[show Lv (ai []) v= .mk 1 v []from rfl,nN]
theorem Gen.sub {s:aB}{θ:List (Int×Tm)}{l:List TB}(h:Gen θ l){t:Tm}(ht:Vs s t):aZ θ (aZ (ai l) t)=aZ θ t:=Ao t ht fun v hv=>h v (ht.range hv)
def vrT(x:TB):Tm:= .mk 1 x.var []
def slV(s:bW):List Tm:=s.binds.map vrT
def slT(s:bW):List Tm:=s.binds.map (·.term)
structure afA (s:bW) (l:List TB):Prop where
 uni:∃f,dM (iM f) (slV s) (slT s) []=some (l,true)
 sol:jP s.sig l
 mI:∀x∈l,x.term.mI
 eq:∃g b' ρ R,lN (jd false g) (slV s) (slT s) []=some (0,b')/\lC s.sig b' l ρ R
 val:∀t,bL s.sig t=true->Vs s.sig (aZ (ai l) t)/\(aZ (ai l) t).mI/\(aZ (ai l) t).sz<=1600
end Go.Proofs.YtlhemmpklhhgoaaGreat
set_option maxHeartbeats 8000000
namespace Go.Proofs.YtlhemmpklhhgoaaGreat
end Go.Proofs.YtlhemmpklhhgoaaGreat
set_option maxHeartbeats 8000000
namespace Go.Proofs.YtlhemmpklhhgoaaGreat
structure Fm where
 binds:List TB
 aJ:List (List TB)
@[reducible] def tlD (l:List TB):D:= .sl (l.map TB.d)
@[reducible] def Fm.d (x:Fm):D:= .agg [.sl (x.binds.map TB.d), .sl (x.aJ.map tlD)]
@[reducible] def Fm.row (x:Fm):List V:=[.d (.sl (x.binds.map TB.d)), .d (.sl (x.aJ.map tlD))]
end Go.Proofs.YtlhemmpklhhgoaaGreat
set_option maxHeartbeats 8000000
namespace Go.Proofs.YtlhemmpklhhgoaaGreat
theorem um{O:Nat->ad}{b c ty sz:Nat}{es:List D}(hg:Good O c)(hb:b<=c)(gone:Nat->Prop)(x:V)(env:List V)(si:∀id,gone id->c<=id){e:Nat->V}{so:Nat->ad}{m:Nat}(gx:fE so gone ty sz es x)(ho:∀j,j<c->so j=O j)(he:iL c [⟨x,ty,sz,es⟩] so gone e env 0):
 bI b ⟨e,so,m⟩ ⟨aY env,ay O c (.arr 0 ty sz es),c+1⟩:=by
 refine bI.w7 gone x c env hb (fun j hj=> ?_) (ab _ _ _) gx (fun j hj=> ?_) (fun j h1 h2=>absurd (si j h1) af) he
 ·rw[ae _ _ _ _ (by omega)]
  exact bX (ho j hj) (fun r hr=>hg.refs j r hr)
 ·rw[ae _ _ _ _ (by omega)]
  exact Bb
end Go.Proofs.YtlhemmpklhhgoaaGreat
section
set_option maxHeartbeats 8000000
namespace Go.Proofs.YtlhemmpklhhgoaaGreat
structure Sy where
 a:Tm
 b:Tm
 no:Bool
@[reducible] def Sy.d (x:Sy):D:= .agg [.i x.a.op, .i x.a.n, .sl (x.a.kids.map Tm.d), .i x.b.op, .i x.b.n, .sl (x.b.kids.map Tm.d), .bool x.no]
@[reducible] def Sy.row (x:Sy):List V:=[.d (.i x.a.op), .d (.i x.a.n), .d (.sl (x.a.kids.map Tm.d)), .d (.i x.b.op), .d (.i x.b.n), .d (.sl (x.b.kids.map Tm.d)), .d (.bool x.no)]
structure Sy.Ok (s:aB) (x:Sy):Prop where
 va:bL s x.a=true
 vb:bL s x.b=true
theorem lG{s:aB}{t:Tm}(h:bL s t=true):fT t=true:=(EN t).2 (by have:=(cg h).2;omega)
theorem bp.sm {s:bW}(h:bp s)(hs:ez s.sig=true):Mz s:=by
 have h1:=h.mG.len
 have h2:=h.tL
 have h3:=h.xd
 exact⟨hs,af,af,af,fun x hx=>lG (h.mG.ok x hx).2,fun n hn=>⟨lG (h.aJ n hn).1,lG (h.aJ n hn).2.1⟩⟩
theorem bp.fits {s:bW}(h:bp s)(hf:s.sig.Fits):s.Fits:=by
 have h1:=h.mG.len
 have h2:=h.tL
 have h3:=h.xd
 exact⟨hf,af,af,af,fun x hx=>(ky (h.mG.ok x hx).2).fits,fun n hn=>⟨(ky (h.aJ n hn).1).fits,(ky (h.aJ n hn).2.1).fits⟩⟩
structure SdP (s:bW) (x:Sy) (T:bW) (e:Int):Prop where
 call:aW Tryz.prog 29 [s.d,x.d] (.ret [T.d, .i e])
 err:e=0\/e=5\/e=3
 ok:e=0->bp T/\T.sig=s.sig/\T.marks=s.marks/\(∃E,T.binds=s.binds++E)/\∃F,T.aJ=s.aJ++F
 sem:(x.no=false/\∃f e1 b' bk,jd true f x.a x.b (ai s.binds)=some (e1,b')/\(∀n,bk n=true↔Dd b' n)/\e=gW e1 (s.aJ.any bk)/\(e=0->T=s.tell b'))\/
  (x.no=true/\∃bA l ρ R f r,(bA=true↔Dd (ai s.binds) ⟨x.a,x.b⟩)/\lC s.sig (ai s.binds) l ρ R/\jP s.sig l/\iM f (aZ (ai l) x.a) (aZ (ai l) x.b) []=some r/\e=jR s bA r.2/\T=lF s ⟨x.a,x.b⟩ bA r.2)
theorem yK(s:bW)(x:Sy)(hx:x.no=false){T:bW}{e:Int}(h:aW Tryz.prog 15 [s.d,x.a.d,x.b.d] (.ret [T.d, .i e])):aW Tryz.prog 29 [s.d,x.d] (.ret [T.d, .i e]):=by
 exact ZR
theorem I9(s:bW)(x:Sy)(hx:x.no=true){T:bW}{e:Int}(h:aW Tryz.prog 16 [s.d,x.a.d,x.b.d] (.ret [T.d, .i e])):aW Tryz.prog 29 [s.d,x.d] (.ret [T.d, .i e]):=by
 exact ZR
theorem tellE_0{e:Int}{b:Bool}(h:gW e b=0):e=0/\b=false:=by
 unfold gW at h
 split at h
 ·cases b with
  |false=>exact⟨by assumption,rfl⟩
  |true=>exact absurd (show(5:Int)=0 from h) bu
 ·rename_i h1;exact absurd h h1
theorem Dr{e:Int}(he:e=0\/e=5\/e=3)(b:Bool):gW e b=0\/gW e b=5\/gW e b=3:=by
 unfold gW
 split
 ·split
  ·exact .inr (.inl rfl)
  ·exact .inl rfl
 ·exact he
theorem MV(s:bW)(b u:Bool):jR s b u=0\/jR s b u=5\/jR s b u=3:=by
 unfold jR
 split
 ·exact .inr (.inl rfl)
 ·split
  ·split
   ·exact .inr (.inr rfl)
   ·exact .inl rfl
  ·exact .inl rfl
theorem PI{s:bW}(h:bp s)(hf:s.sig.Fits){x:Sy}(hx:x.Ok s.sig):∃p:bW×Int,SdP s x p.1 p.2:=by
 have kK:=h.fin hf
 have fa:=ky hx.va
 have fb:=ky hx.vb
 cases hn:x.no with
 |false=>
  obtain⟨f,e,b',hq,QZ⟩:=G6 h hx.va hx.vb
  have he:e=0\/e=5\/e=3:=by
   rcases QZ with⟨h,_⟩|h|h
   ·exact .inl h
   ·exact .inr (.inl h)
   ·exact .inr (.inr h)
  obtain⟨bk,AG⟩:∃bk:Nt->Bool,∀n,bk n=true↔Dd b' n:=by
   classical
   exact⟨fun n=>decide (Dd b' n),fun n=>aE⟩
  have t1:=ML s kK x.a x.b fa fb h hx.va hx.vb hq he (bk:=bk) (fun _ n _=>AG n)
  by_cases h0:gW e (s.aJ.any bk)=0
  ·obtain⟨e0,b0⟩:=tellE_0 h0
   rw[if_pos h0]at t1
   refine⟨(s.tell b',gW e (s.aJ.any bk)),yK s x hn t1,Dr he _,fun _=> ?_, .inl ⟨hn,f,e,b',bk,hq,AG,rfl,fun _=>rfl⟩⟩
   subst e0
   obtain⟨E,rfl,hB⟩:=Dn h hx.va hx.vb hq
   have hT:=Pm h hB (fun n hn Xa=>by
    have h2:s.aJ.any bk=true:=List.any_eq_true.2 ⟨n,hn,(AG n).2 Xa⟩
    rw[b0]at h2;cases h2)
   have et:s.tell (ai (s.binds++E))=⟨s.sig,s.binds++E,s.aJ,s.marks⟩:=by unfold bW.tell;rw[ox]
   dsimp only
   rw[et]
   exact⟨hT,rfl,rfl,⟨E,rfl⟩,[],aE⟩
  ·rw[if_neg h0]at t1
   exact⟨(gU,gW e (s.aJ.any bk)),yK s x hn t1,Dr he _,fun h1=>absurd h1 h0, .inl ⟨hn,f,e,b',bk,hq,AG,rfl,fun h1=>absurd h1 h0⟩⟩
 |true=>
  obtain⟨bA,WN⟩:∃bA:Bool,bA=true↔Dd (ai s.binds) ⟨x.a,x.b⟩:=by
   classical
   exact⟨decide (Dd (ai s.binds) ⟨x.a,x.b⟩),aE⟩
  obtain⟨l',ρ,R,hS,hl⟩:=oq h.mG.keys h.mG.ok h.mG.Js
  obtain⟨fu,r,hr⟩:=yz _ _ (aZ (ai l') x.a) (aZ (ai l') x.b) [] (Nat.le_refl _) (Nat.le_refl _) jP.nil (Vs.sub hl.bd x.a (cg hx.va).1) (Vs.sub hl.bd x.b (cg hx.vb).1)
  have t3:=MU s kK x.a x.b fa fb h hx.va hx.vb WN hS hl hr
  refine⟨(lF s ⟨x.a,x.b⟩ bA r.2,jR s bA r.2),I9 s x hn t3,MV s bA r.2,fun h0=> ?_, .inr ⟨hn,bA,l',ρ,R,fu,r,WN,hS,hl,hr,rfl,rfl⟩⟩
  have hd:=(Fj h hf hx.va hx.vb WN r.2).2 h0
  refine⟨hd.1, ?_⟩
  dsimp only at h0|-
  unfold jR at h0
  unfold lF
  split at h0
  ·exact absurd h0 bu
  ·rename_i h1
   rw[if_neg h1]
   split at h0
   ·rename_i h2
    rw[if_pos h2]
    split at h0
    ·exact absurd h0 bu
    ·rename_i h3
     rw[if_neg h3]
     exact⟨rfl,rfl,⟨[],by simp[bW.Fg]⟩,[⟨x.a,x.b⟩],rfl⟩
   ·rename_i h2
    rw[if_neg h2]
    exact⟨rfl,rfl,⟨[],aE⟩,[],aE⟩
open Classical in
noncomputable def Nr(s:bW)(x:Sy):bW×Int:=if h:∃p:bW×Int,SdP s x p.1 p.2 then h.choose else(s,0)
theorem Hh{s:bW}(h:bp s)(hf:s.sig.Fits){x:Sy}(hx:x.Ok s.sig):SdP s x (Nr s x).1 (Nr s x).2:=by
 have he:=PI h hf hx
 unfold Nr
 rw[dif_pos he]
 exact he.choose_spec
noncomputable def xg:bW->List Sy->bW×List Sy
 |s,[]=>(s,[])
 |s,x::l=>if(Nr s x).2=0 then((xg (Nr s x).1 l).1,x::(xg (Nr s x).1 l).2)else xg s l
theorem Fk:∀ (l:List Sy) {s:bW},bp s->s.sig.Fits->(∀x∈l,x.Ok s.sig)->bp (xg s l).1/\(xg s l).1.sig=s.sig/\(xg s l).1.marks=s.marks/\∀x∈(xg s l).2,x∈l
 |[],s,h,_,_=>⟨h,rfl,rfl,fun x hx=>hx⟩
 |x::l,s,h,hf,hx=>by
  have hs:=Hh h hf (hx x aE)
  simp only[xg]
  by_cases h0:(Nr s x).2=0
  ·rw[if_pos h0]
   obtain⟨k1,k2,k3,_⟩:=hs.ok h0
   obtain⟨g1,g2,g3,g4⟩:=Fk l k1 (by rw[k2];exact hf) (fun y hy=>by rw[k2];exact hx y kQ)
   exact⟨g1,g2.trans k2,g3.trans k3,fun y hy=>by
    rcases List.mem_cons.1 hy with rfl|hy
    ·simp
    ·simp[g4 y hy]⟩
  ·rw[if_neg h0]
   obtain⟨g1,g2,g3,g4⟩:=Fk l h hf (fun y hy=>hx y kQ)
   exact⟨g1,g2,g3,fun y hy=>by simp[g4 y hy]⟩
theorem ac7(s0:bW)(h0:bp s0)(hf:s0.sig.Fits)(hss:ez s0.sig=true)(l:List Sy)(hl:l.length<=1000)(hx:∀x∈l,x.Ok s0.sig):aW Tryz.prog 34 [s0.d, .sl (l.map Sy.d)] (.ret [(xg s0 l).1.d, .sl ((xg s0 l).2.map Sy.d), .bool true]):=by
 refine aW.aH mix aev aE ?_
 rw[c34]
 refine yO ?_
 have WA:∀s:bW,Good (ay (ay (fun _=> .no) 0 (.row s.row)) 1 (.row [.aq, .aq, .aq, .aq, .aq])) 2:=fun s=>dE
 refine aG (fun i:Nat×bW×List Sy=>⟨aY [.aa, .aa, .ptr 0 0, .aa, .ptr 1 0, .aa, .aa, .osl 2 0, .aa, .aa, .aa, .aa, .d (.sl (l.map Sy.d)), .d (.i l.length), .d (.i i.1)],ay (ay (ay (fun _=> .no) 0 (.row i.2.1.row)) 1 (.row [.aq, .aq, .aq, .aq, .aq])) 2 (.arr 0 53 7 (i.2.2.map Sy.d)),3⟩)
  (fun i=>i.1<=l.length/\i.2.2.length<=i.1/\bp i.2.1/\i.2.1.sig=s0.sig/\(xg s0 l).1=(xg i.2.1 (l.drop i.1)).1/\(xg s0 l).2=i.2.2++(xg i.2.1 (l.drop i.1)).2) (fun i=>l.length - i.1) (0,s0,[]) ⟨Nat.zero_le _,aE,h0,rfl,rfl,rfl⟩ ?_ ?_
 ·refine um (WA s0) af (fun _=>False) .aq _ (fun _ h=>h.elim) (.inl ⟨rfl,rfl,bu⟩) (fun j hj=>rfl) ?_
  exact rn
 rintro⟨k,s,own⟩ ⟨hk,ho,h,PJ,Jv,Jw⟩
 dsimp only at hk ho h PJ Jv Jw|-
 have fh:own.length<=140737488355327/\(own.length+1)*80<=140737488355328:=af
 refine yO ?_
 refine ao (fun h6=> ?_) (fun h6=> ?_)
 ·replace h6:k<l.length:=by simp at h6;omega
  obtain⟨x,S5⟩:=aD h6
  have cF:=List.mem_of_getElem? S5
  have I6:l.drop k=x::l.drop (k+1):=by
   obtain⟨i1,i2⟩:=List.getElem?_eq_some_iff.1 S5
   exact A7
  have sd:=Hh h (by rw[PJ];exact hf) (x:=x) (by rw[PJ];exact hx x cF)
  rw[I6]at Jv Jw
  simp only[xg]at Jv Jw
  cases hp:Nr s x with
  |mk T e=>
  rw[hp]at sd Jv Jw
  dsimp only at sd Jv Jw
  refine pW S5 ?_
  refine bH sd.call ?_
  have skip:e≠0->(xg s0 l).1=(xg s (l.drop (k+1))).1/\(xg s0 l).2=own++(xg s (l.drop (k+1))).2:=fun he=>by
   rw[if_neg he]at Jv Jw
   exact⟨Jv,Jw⟩
  rcases sd.err with rfl|rfl|rfl
  ·obtain⟨k1,k2,k3,_⟩:=sd.ok rfl
   rw[if_pos rfl]at Jv Jw
   have pD:T.sig=s0.sig:=k2.trans PJ
   have hfT:T.sig.Fits:=by rw[pD];exact hf
   refine pW S5 ?_
   refine aw (wy T (k1.fits hfT) (ok:=true) ⟨fun _=>k1.sm (by rw[pD];exact hss),fun _=>rfl⟩) rfl ?_
   refine pW S5 ?_
   refine aw (Fc T (k1.fin hfT) (ok:=true) ⟨fun _=>k1,fun _=>rfl⟩) rfl ?_
   refine DI S5 fh ?_
   refine aj (k+1,T,own++[x]) ⟨h6,by rw[List.length_append,List.length_singleton];omega,k1,pD,Jv,by rw[Jw];simp⟩ je (um (WA T) af (fun j=>2<=j) (.osl 2 1) _ (fun _ h=>h) (.inr ⟨2,1,af,rfl,by(repeat(first|rfl|rw[ab]|rw[ae _ _ _ _ (by omega)]));rw[List.map_append];rfl⟩) (fun j hj=> ?_) ?_)
   ·have hj:j<2:=hj
    rcases(by omega:j=0\/j=1)with rfl|rfl
    ·exact cA
    ·exact cA
   ·exact rn
  ·obtain⟨s1,s2⟩:=skip bu
   refine pW S5 ?_
   refine aj (k+1,s,own) ⟨h6,Nat.le_succ_of_le ho,h,PJ,s1,s2⟩ je (um (WA s) af (fun j=>2<=j) (.osl 2 0) _ (fun _ h=>h) (.inr ⟨2,0,af,rfl,by(repeat(first|rfl|rw[ab]|rw[ae _ _ _ _ (by omega)]))⟩) (fun j hj=> ?_) ?_)
   ·have hj:j<2:=hj
    rcases(by omega:j=0\/j=1)with rfl|rfl
    ·exact cA
    ·exact cA
   ·exact rn
  ·obtain⟨s1,s2⟩:=skip bu
   refine pW S5 ?_
   refine aj (k+1,s,own) ⟨h6,Nat.le_succ_of_le ho,h,PJ,s1,s2⟩ je (um (WA s) af (fun j=>2<=j) (.osl 2 0) _ (fun _ h=>h) (.inr ⟨2,0,af,rfl,by(repeat(first|rfl|rw[ab]|rw[ae _ _ _ _ (by omega)]))⟩) (fun j hj=> ?_) ?_)
   ·have hj:j<2:=hj
    rcases(by omega:j=0\/j=1)with rfl|rfl
    ·exact cA
    ·exact cA
   ·exact rn
 ·replace h6:k=l.length:=by simp at h6;omega
  subst h6
  rw[List.drop_length]at Jv Jw
  simp only[xg,List.append_nil]at Jv Jw
  rw[Jv,Jw]
  simp+contextual (disch:=first|omega|simp only[go_sem,false_implies]) only[go_sem,wrap64,if_pos,List.length_map]
end Go.Proofs.YtlhemmpklhhgoaaGreat
end
set_option maxHeartbeats 8000000
namespace Go.Proofs.YtlhemmpklhhgoaaGreat
def AP(s:aB)(x:Sy):Bool:= !(bL s x.a&&bL s x.b)
theorem WQ(s:aB)(hs:s.Fits)(PJ:iU s=true)(x:Sy)(hx:x.a.fits/\x.b.fits){p:Nat}(o:Nat->ad)(nx:Nat)(hg:Good o nx)(hp:o p= .row s.row)(K X:V->(Nat->ad)->Nat->Prop)
 (hK:∀ (o':Nat->ad) (nx':Nat),nx<=nx'->Good o' nx'->(∀j,j<nx->o' j=o j)->K (.d (.bool (AP s x))) o' nx'):
 bQ Tryz.prog 84 [.d x.d, .ptr p 0] o nx K X:=by
 have lp:p<nx:=hg.lt J2
 have w1:∀k,p≠nx+k:=fun k=>af
 have w2:p≠nx:=af
 refine bQ.aH mix aeS aE ?_
 rw[c84]
 have va:=wv PJ x.a
 have vb:=wv PJ x.b
 have nw:bL s x.a=false\/bL s x.b=false->AP s x=true:=fun h=>by unfold AP;rcases h with h|h<;>simp[h]
 have fin:∀n,nx+1<=n->Good (ay o nx (.row x.row)) n:=fun n hn=>(hg.mono af).ay af rfl
 refine Hl w1 w2 ?_
 refine aw (qN x.a hx.1) rfl ?_
 cases h1:fT x.a with
 |false=>
  rw[nw (.inl (Bool.eq_false_iff.2 fun h=>by rw[lG h]at h1;cases h1))]at hK
  exact NF
 |true=>
  refine Hl w1 w2 ?_
  refine aw (qN x.b hx.2) rfl ?_
  cases h2:fT x.b with
  |false=>
   rw[nw (.inr (Bool.eq_false_iff.2 fun h=>by rw[lG h]at h2;cases h2))]at hK
   exact NF
  |true=>
   refine Hl w1 w2 ?_
   refine aw (lE s hs x.a hx.1) rfl ?_
   cases h3:(gr s x.a&&eV x.a)with
   |false=>
    rw[nw (.inl (va.trans h3))]at hK
    exact NF
   |true=>
    refine Hl w1 w2 ?_
    refine aw (lE s hs x.b hx.2) rfl ?_
    have hv:AP s x= !(gr s x.b&&eV x.b):=by unfold AP;rw[va,vb,h3,Bool.true_and]
    rw[hv]at hK
    exact NF
theorem PK(l:List Sy)(hl:l.length<=9223372036854775807){g p:Nat}{R:ad}(br:Sy->Bool)(hb:∀x∈l,∀ (o:Nat->ad) (nx:Nat),Good o nx->o p=R->∀ (K X:V->(Nat->ad)->Nat->Prop),(∀ (o':Nat->ad) (nx':Nat),nx<=nx'->Good o' nx'->(∀j,j<nx->o' j=o j)->K (.d (.bool (br x))) o' nx')->bQ Tryz.prog g [.d x.d, .ptr p 0] o nx K X)
 (o:Nat->ad) (nx:Nat) (hg:Good o nx) (hp:o p=R) (lp:p<nx) (K X:V->(Nat->ad)->Nat->Prop)
 (hK:∀ (o':Nat->ad) (nx':Nat),nx<=nx'->Good o' nx'->(∀j,j<nx->o' j=o j)->K (.d (.bool (l.any br))) o' nx'):
 bQ Tryz.prog 83 [.d (.sl (l.map Sy.d)), .func (.func g) [] [.ptr p 0]] o nx K X:=by
 refine bQ.aH mix aeR aE ?_
 rw[c83]
 refine fM ?_
 have key:∀ (K X:V->(Nat->ad)->Nat->Prop),(∀r:Int,decide (0<=r)=l.any br->∀ (o':Nat->ad) (nx':Nat),nx+3<=nx'->Good o' nx'->(∀j,j<nx->o' j=o j)->K (.d (.i r)) o' nx')->
  bQ Tryz.prog 125 [.d (.sl (l.map Sy.d)), .func (.func g) [] [.ptr p 0]] o (nx+3) K X:=by
  intro K X hK
  refine bQ.aH mix abE aE ?_
  rw[abD]
  refine Jx ?_
  refine aG (fun i:Nat=>⟨aY [.d (.sl (l.map Sy.d)), .func (.func g) [] [.ptr p 0], .aa, .aa, .aa, .aa, .aa, .d (.i l.length), .d (.i i)],o,nx+3⟩)
   (fun i=>i<=l.length/\l.any br=(l.drop i).any br) (fun i=>l.length - i) 0 ⟨Nat.zero_le _,rfl⟩ ?_ ?_
  ·refine bI.bE _ (Nat.le_refl _) af (hg.mono af) (fun _ _=>rfl) ?_
   exact dA
  rintro k ⟨Nd,DC⟩
  refine Jx ?_
  refine ao (fun h1=> ?_) (fun h1=> ?_)
  ·have h1:k<l.length:=by simp at h1;omega
   obtain⟨x,hx⟩:=aD h1
   have cF:=List.mem_of_getElem? hx
   have hd:l.drop k=x::l.drop (k+1):=by
    obtain⟨i1,i2⟩:=List.getElem?_eq_some_iff.1 hx
    exact A7
   rw[hd,List.any_cons]at DC
   simp+contextual (disch:=first|omega|simp only[go_sem,false_implies]) only[go_sem,wrap64,if_pos,hx,Nat.add_assoc,Nat.left_eq_add,Nat.add_eq_left,Nat.add_left_cancel_iff,List.length_map]
   refine aU (hb x cF _ _ (hg.mono af) hp _ _ (fun o2 n2 m1 m2 m3=> ?_))
   cases AW:br x with
   |true=>
    rw[AW]at DC
    refine fM ?_
    exact hK k (by rw[DC,Bool.true_or,decide_eq_true_eq];omega) _ _ af (m2.mono af) (fun j hj=>m3 j af)
   |false=>
    rw[AW]at DC
    refine fM ?_
    refine aj (k+1) ⟨h1,DC⟩ af ?_
    refine bI.bE _ (Nat.le_refl _) af (hg.mono af) (fun j hj=>m3 j af) ?_
    exact dA
  ·have h1:k=l.length:=by simp at h1;omega
   subst h1
   refine fM ?_
   exact hK _ (by rw[DC,List.drop_length];rfl) _ _ af (hg.mono af) (fun j hj=>rfl)
 refine aU (key _ _ fun r g1 o' nx' g2 g3 g4=> ?_)
 refine Jf g1 ?_
 exact hK _ _ af (g3.mono af) g4
structure yL (s:aB) (l:List Sy):Prop where
 sm:ez s=true
 sig:iU s=true
 len:l.length<=14
 ok:∀x∈l,x.Ok s
theorem Hi(s:aB)(hs:s.Fits)(l:List Sy)(hl:l.length<=9223372036854775807)(hb:∀x∈l,x.a.fits/\x.b.fits){ok:Bool}(aV:ok=true↔yL s l):aW Tryz.prog 27 [s.d, .sl (l.map Sy.d)] (.ret [.bool ok]):=by
 have no: ¬yL s l->ok=false:=fun h=>by
  cases ok with
  |false=>rfl
  |true=>exact absurd (aV.1 rfl) h
 refine aW.aH mix aeu aE ?_
 rw[c27]
 refine cS ?_
 refine aw (vO s hs) rfl ?_
 cases h1:ez s with
 |false=>
  rw[no fun h=>by have:=h.sm;rw[h1]at this;cases this]
  exact pV
 |true=>
  refine cS ?_
  refine aw (SJ s hs) rfl ?_
  cases h2:iU s with
  |false=>
   rw[no fun h=>by have:=h.sig;rw[h2]at this;cases this]
   exact pV
  |true=>
   by_cases h3:14<l.length
   ·have mw:decide ((l.length:Int)>14)=true:=decide_eq_true af
    rw[no fun h=>by have:=h.len;omega]
    exact Jz mw
   ·have mw:decide ((l.length:Int)>14)=false:=decide_eq_false af
    have hr:ok= !(l.any (AP s)):=by
     rw[Bool.eq_iff_iff,aV,Bool.not_eq_true',List.any_eq_false]
     constructor
     ·intro h x hx
      obtain⟨q1,q2⟩:=h.ok x hx
      simp[AP,q1,q2]
     ·intro h
      refine⟨h1,h2,af,fun x hx=> ?_⟩
      have:=h x hx
      simp[AP]at this
      exact⟨this.1,this.2⟩
    rw[hr]
    refine pW mw ?_
    refine aU (PK l hl (R:= .row s.row) (AP s) (fun x hx o nx hg hp K X hK=>WQ s hs h2 x (hb x hx) o nx hg hp K X hK) _ _ dE cA af _ _ fun o' nx' g2 g3 g4=> ?_)
    exact Te
end Go.Proofs.YtlhemmpklhhgoaaGreat
set_option maxHeartbeats 8000000
namespace Go.Proofs.YtlhemmpklhhgoaaGreat
theorem Hj{nb nn:Int}:∀ (l:List (Int×Int)) (a:Int×Int),mj nb nn a l=true->a.1<=nb->a.2<=nn->mj nb nn a (l++[(nb,nn)])=true
 |[],a,_,h1,h2=>by simp[mj];omega
 |x::l,a,h,h1,h2=>by
  simp only[List.cons_append,mj,Bool.and_eq_true,Bool.not_eq_true',Bool.or_eq_false_iff,decide_eq_false_iff_not]at h|-
  exact⟨h.1,Hj l x h.2 af af⟩
theorem PL{s:bW}(h:bp s)(hm:s.marks.length<8):bp s.mark:=
 ⟨h.sig,h.tL,by show(s.marks++_).length<=8;simp;omega,h.mG,h.aJ,Hj _ _ h.marks aE aE⟩
theorem Ja(s:bW):s.mark.tM=s:=by
 unfold bW.tM bW.mark
 simp
theorem Jb{s T:bW}(h:bp s)(iZ:s.marks≠[])(hs:T.sig=s.sig)(hm:T.marks=s.marks)(hb:∃E,T.binds=s.binds++E)(hn:∃F,T.aJ=s.aJ++F):T.tM=s.tM:=by
 obtain⟨E,hE⟩:=hb
 obtain⟨F,hF⟩:=hn
 unfold bW.tM
 rw[hm]
 cases hl:s.marks.getLast? with
 |none=>exact absurd (List.getLast?_eq_none_iff.1 hl) iZ
 |some m=>
  have mD:=List.mem_of_getLast? hl
  obtain⟨q1,q2,q3,q4⟩:=wC aE aE h.marks m mD
  dsimp only
  rw[hs,hE,hF,List.take_append_of_le_length (by omega),List.take_append_of_le_length (by omega)]
def MW(sg:aB):bW:=⟨sg,[],[],[]⟩
theorem Ds{sg:aB}(h:iU sg=true):bp (MW sg):=
 ⟨h,Nat.zero_le _,Nat.zero_le _,⟨Nat.zero_le _,List.nodup_nil,fun _ h=>j5,fun _ _ h=>j5,fun _ h=>j5⟩,fun _ h=>j5,rfl⟩
def sJ:Nat->bW->bW->Prop
 |0,t,s=>t=s/\bp s/\s.marks=[]
 |n+1,t,s=>bp t/\t.marks.length=n+1/\t.sig=s.sig/\sJ n t.tM s
theorem sJ.ok {n:Nat}{t s:bW}(h:sJ n t s):bp t/\t.marks.length=n/\t.sig=s.sig:=by
 cases n with
 |zero=>obtain⟨rfl,h2,h3⟩:=h;exact⟨h2,by rw[h3];rfl,rfl⟩
 |succ n=>exact⟨h.1,h.2.1,h.2.2.1⟩
theorem sJ.mark {n:Nat}{t s:bW}(h:sJ n t s)(hn:n<8):sJ (n+1) t.mark s:=by
 obtain⟨h1,h2,h3⟩:=h.ok
 refine⟨PL h1 af,by show(t.marks++_).length=_;simp[h2],h3, ?_⟩
 rw[Ja];exact h
theorem sJ.more {n:Nat}{t s T:bW}(h:sJ (n+1) t s)(hT:bp T)(hs:T.sig=t.sig)(hm:T.marks=t.marks)(hb:∃E,T.binds=t.binds++E)(hn:∃F,T.aJ=t.aJ++F):sJ (n+1) T s:=by
 obtain⟨h1,h2,h3,h4⟩:=h
 refine⟨hT,by rw[hm];exact h2,hs.trans h3, ?_⟩
 rw[Jb h1 (fun e=>by rw[e]at h2;cases h2) hs hm hb hn]
 exact h4
def Ft(sg:aB)(s t:bW):Nat->ad:=ay (ay (ay (fun _=> .no) 0 (.row sg.row)) 20 (.row s.row)) 31 (.row t.row)
theorem gV(sg:aB)(s t:bW):Good (Ft sg s t) 32:=by unfold Ft;exact dE
theorem yQ{sg:aB}{s t:bW}{so:Nat->ad}{m:Nat}(h0:so 0= .row sg.row)(Yb:so 20= .row s.row)(h31:so 31= .row t.row)(ho:∀j,j<m->j≠0->j≠20->j≠31->so j= .no){j:Nat}(hj:j<m):so j=Ft sg s t j:=by
 by_cases e0:j=0
 ·subst e0;exact h0
 by_cases e20:j=20
 ·subst e20;exact Yb
 by_cases e31:j=31
 ·subst e31;exact h31
 rw[ho j hj e0 e20 e31]
 unfold Ft
 exact cA
theorem xh(hkn:aW Tryz.prog 14 [] (.ret [.bool true]))(sg:aB)(hs:sg.Fits)(l:List Sy)(hl:l.length<=9223372036854775807)(Kk:∀x∈l,x.a.fits/\x.b.fits)(more:List Sy)(hm:more.length<=9223372036854775807)(hmb:∀x∈more,x.a.fits/\x.b.fits):
 aW Tryz.prog 10 [sg.d, .sl (l.map Sy.d), .sl (more.map Sy.d)] (.ret [.bool true]):=by
 obtain⟨r1,hr1⟩:∃r1:Bool,r1=true↔yL sg l:=by
  classical
  exact⟨decide (yL sg l),aE⟩
 obtain⟨r2,uQ⟩:∃r2:Bool,r2=true↔yL sg more:=by
  classical
  exact⟨decide (yL sg more),aE⟩
 have c1:=Hi sg hs l hl Kk hr1
 have c2:=Hi sg hs more hm hmb uQ
 refine aW.aH mix aeo aE ?_
 rw[c10]
 refine cS ?_
 refine aw c1 rfl ?_
 cases r1 with
 |false=>
  exact TR
 |true=>
  have R1:=hr1.1 rfl
  refine cS ?_
  refine aw c2 rfl ?_
  cases r2 with
  |false=>
   exact TR
  |true=>
   have R2:=uQ.1 rfl
   have h14:=R1.len
   have afB:=R2.len
   obtain⟨a1,a2,a3,a4⟩:=Fk l (Ds R1.sig) hs R1.ok
   have ca:=ac7 (MW sg) (Ds R1.sig) hs R1.sm l af R1.ok
   cases hp:xg (MW sg) l with
   |mk s own=>
   rw[hp]at a1 a2 a3 a4 ca
   dsimp only at a1 a2 a3 a4 ca
   have hfs:s.sig.Fits:=by rw[a2];exact hs
   refine cS ?_
   refine bH ca ?_
   refine cS ?_
   have cm:=MD s (a1.fin hfs) (ok:=true) ⟨fun _=>a1,fun _=>rfl⟩
   have hm0:s.marks=[]:=a3
   rw[if_pos rfl,if_neg (by rw[hm0];decide)]at cm
   refine bH cm ?_
   have H0:sJ 0 s s:=⟨rfl,a1,hm0⟩
   have H1:=H0.mark bu
   have smc:∀T:bW,bp T->T.sig=sg->aW Tryz.prog 23 [T.d] (.ret [.bool true]):=fun T hT pD=>wy T (hT.fits (by rw[pD];exact hs)) (ok:=true) ⟨fun _=>hT.sm (by rw[pD];exact R1.sm),fun _=>rfl⟩
   have Jc:s.sig=sg:=a2
   generalize s.mark=t1 at H1|-
   obtain⟨o1,_,g1⟩:=H1.ok
   refine cS ?_
   refine aw (smc t1 o1 (g1.trans Jc)) rfl ?_
   refine yO ?_
   refine aG (fun i:Nat×bW×Nat=>⟨aY [.aa, .aa, .aa, .aa, .aa, .aa, .aa, .ptr 20 0, .aa, .aa, .ptr 31 0, .aa, .d (.i i.2.2), .aa, .aa, .aa, .aa, .aa, .aa, .aa, .aa, .aa, .aa, .aa, .aa, .aa, .aa, .aa, .aa, .aa, .aa, .aa, .aa, .aa, .aa, .aa, .aa, .aa, .aa, .aa, .aa, .aa, .aa, .aa, .aa, .aa, .aa, .aa, .aa, .aa, .aa, .aa, .d (.sl (more.map Sy.d)), .d (.i more.length), .d (.i i.1)],Ft sg s i.2.1,32⟩)
    (fun i=>i.1<=more.length/\1<=i.2.2/\i.2.2<=8/\sJ i.2.2 i.2.1 s) (fun i=>more.length - i.1) (0,t1,1) ⟨Nat.zero_le _,Nat.le_refl _,by dsimp only;omega,H1⟩ ?_ ?_
   ·refine bI.bE _ af af (gV sg s t1) (fun j hj=> ?_) ?_
    ·exact yQ (m:=32) cA cA cA (fun j h0 h1 h2 h3=>by(repeat(first|rfl|rw[ab]|rw[ae _ _ _ _ (by omega)]))) hj
    ·exact dA
   rintro⟨k,t,n⟩ ⟨hk,Nf,hn8,H⟩
   dsimp only at hk Nf hn8 H|-
   obtain⟨ot,lt,gt⟩:=H.ok
   have u0:Ft sg s t 0= .row sg.row:=rfl
   have Fl:Ft sg s t 20= .row s.row:=rfl
   have Fo:Ft sg s t 31= .row t.row:=rfl
   refine Hq u0 Fl Fo ?_
   refine ao (fun h6=> ?_) (fun h6=> ?_)
   ·replace h6:k<more.length:=by simp at h6;omega
    obtain⟨x,hx⟩:=aD h6
    have Rl:=R2.ok x (List.mem_of_getElem? hx)
    refine DF u0 Fl Fo hx ?_
    refine ao (fun hc=> ?_) (fun hc=> ?_)
    ·have hn7:n<8:=by simp at hc;omega
     have Hm:=H.mark hn7
     have cm2:=MD t (ot.fin (by rw[gt,Jc];exact hs)) (ok:=true) ⟨fun _=>ot,fun _=>rfl⟩
     rw[if_pos rfl,if_neg (by omega)]at cm2
     have om:=Hm.ok
     refine DF u0 Fl Fo hx ?_
     refine bH cm2 ?_
     refine DF u0 Fl Fo hx ?_
     refine aw (smc t.mark om.1 (om.2.2.trans Jc)) rfl ?_
     refine DF u0 Fl Fo hx ?_
     obtain⟨WR,XZ,gt2⟩:=Hm.ok
     have WS:t.mark.sig=sg:=gt2.trans Jc
     have sd:=Hh WR (by rw[WS];exact hs) (x:=x) (by rw[WS];exact Rl)
     cases DB:Nr t.mark x with
     |mk T e=>
     rw[DB]at sd
     dsimp only at sd
     refine bH sd.call ?_
     rcases sd.err with rfl|rfl|rfl
     ·obtain⟨k1,k2,k3,k4,k5⟩:=sd.ok rfl
      have lT:((T.marks.length:Int)!=((n+1:Nat):Int))=false:=by rw[bne_eq_false_iff_eq,k3,XZ]
      have sT:=k2.trans WS
      refine DF u0 Fl Fo hx ?_
      refine aw (smc T k1 sT) rfl ?_
      simp+contextual (disch:=first|omega|simp only[go_sem,false_implies]) only[go_sem,wrap64,if_pos,u0,Fl,Fo,hx,List.length_map,show((n:Int)+1)=((n+1:Nat):Int) by omega,lT]
      refine aj (k+1,T,n+1) ⟨h6,by dsimp only;omega,by dsimp only;omega,Hm.more k1 k2 k3 k4 k5⟩ je (bI.bE _ af af (gV sg s T) (fun j hj=> ?_) ?_)
      ·exact W2
      ·exact dA
     ·refine DF u0 Fl Fo hx ?_
      refine aj (k+1,t.mark,n+1) ⟨h6,by dsimp only;omega,by dsimp only;omega,Hm⟩ je (bI.bE _ af af (gV sg s t.mark) (fun j hj=> ?_) ?_)
      ·exact W2
      ·exact dA
     ·refine DF u0 Fl Fo hx ?_
      refine aj (k+1,t.mark,n+1) ⟨h6,by dsimp only;omega,by dsimp only;omega,Hm⟩ je (bI.bE _ af af (gV sg s t.mark) (fun j hj=> ?_) ?_)
      ·exact W2
      ·exact dA
    ·refine DF u0 Fl Fo hx ?_
     obtain⟨WR,XZ,gt2⟩:=H.ok
     have WS:t.sig=sg:=gt2.trans Jc
     have sd:=Hh WR (by rw[WS];exact hs) (x:=x) (by rw[WS];exact Rl)
     cases DB:Nr t x with
     |mk T e=>
     rw[DB]at sd
     dsimp only at sd
     refine bH sd.call ?_
     rcases sd.err with rfl|rfl|rfl
     ·obtain⟨k1,k2,k3,k4,k5⟩:=sd.ok rfl
      have lT:((T.marks.length:Int)!=((n:Nat):Int))=false:=by rw[bne_eq_false_iff_eq,k3,XZ]
      have sT:=k2.trans WS
      refine DF u0 Fl Fo hx ?_
      refine aw (smc T k1 sT) rfl ?_
      simp+contextual (disch:=first|omega|simp only[go_sem,false_implies]) only[go_sem,wrap64,if_pos,u0,Fl,Fo,hx,List.length_map,lT]
      refine aj (k+1,T,n) ⟨h6,by dsimp only;omega,by dsimp only;omega,(by obtain⟨q,rfl⟩:∃q,n=q+1:=⟨n - 1,af⟩;exact H.more k1 k2 k3 k4 k5)⟩ je (bI.bE _ af af (gV sg s T) (fun j hj=> ?_) ?_)
      ·exact W2
      ·exact dA
     ·refine DF u0 Fl Fo hx ?_
      refine aj (k+1,t,n) ⟨h6,by dsimp only;omega,by dsimp only;omega,H⟩ je (bI.bE _ af af (gV sg s t) (fun j hj=> ?_) ?_)
      ·exact W2
      ·exact dA
     ·refine DF u0 Fl Fo hx ?_
      refine aj (k+1,t,n) ⟨h6,by dsimp only;omega,by dsimp only;omega,H⟩ je (bI.bE _ af af (gV sg s t) (fun j hj=> ?_) ?_)
      ·exact W2
      ·exact dA
   ·refine Hq u0 Fl Fo ?_
    refine aG (fun i:Nat×bW=>⟨aY [.aa, .aa, .aa, .aa, .aa, .aa, .aa, .ptr 20 0, .aa, .aa, .ptr 31 0, .aa, .aa, .aa, .aa, .aa, .aa, .aa, .aa, .aa, .aa, .aa, .aa, .aa, .aa, .aa, .aa, .aa, .aa, .aa, .aa, .aa, .aa, .aa, .aa, .aa, .aa, .aa, .aa, .aa, .aa, .aa, .aa, .aa, .aa, .aa, .aa, .aa, .aa, .aa, .aa, .aa, .aa, .aa, .aa, .aa, .aa, .aa, .aa, .aa, .aa, .aa, .aa, .aa, .aa, .aa, .aa, .aa, .aa, .aa, .aa, .aa, .aa, .aa, .aa, .aa, .aa, .aa, .aa, .aa, .aa, .aa, .aa, .aa, .aa, .aa, .aa, .aa, .aa, .aa, .aa, .aa, .aa, .aa, .aa, .aa, .aa, .aa, .aa, .aa, .d (.i n), .d (.i i.1)],Ft sg s i.2,32⟩)
     (fun i=>i.1<=n/\sJ (n - i.1) i.2 s) (fun i=>n - i.1) (0,t) ⟨Nat.zero_le _,H⟩ ?_ ?_
    ·refine bI.bE _ af af (gV sg s t) (fun j hj=>rfl) ?_
     exact dA
    rintro⟨j,t2⟩ ⟨hj,H2⟩
    dsimp only at hj H2|-
    obtain⟨WR,XZ,gt2⟩:=H2.ok
    have v0:Ft sg s t2 0= .row sg.row:=rfl
    have v20:Ft sg s t2 20= .row s.row:=rfl
    have v31:Ft sg s t2 31= .row t2.row:=rfl
    have cu:=WE t2 (WR.fin (by rw[gt2,Jc];exact hs)) (ok:=true) ⟨fun _=>WR,fun _=>rfl⟩
    rw[if_pos rfl]at cu
    refine wM v0 v20 v31 ?_
    refine ao (fun h7=> ?_) (fun h7=> ?_)
    ·replace h7:j<n:=by simp at h7;omega
     rw[if_neg (by omega)]at cu
     obtain⟨m,hmj⟩:∃m,n - j=m+1:=⟨n - j - 1,af⟩
     rw[hmj]at H2
     have H3:sJ (n - (j+1)) t2.tM s:=by
      have e:n - (j+1)=m:=af
      rw[e];exact H2.2.2.2
     refine wM v0 v20 v31 ?_
     refine bH cu ?_
     refine wM v0 v20 v31 ?_
     refine aj (j+1,t2.tM) ⟨h7,H3⟩ je (bI.bE _ af af (gV sg s t2.tM) (fun i hi=> ?_) ?_)
     ·exact yQ (m:=32) cA cA cA (fun i h0 h1 h2 h3=>by(repeat(first|rfl|rw[ab]|rw[ae _ _ _ _ (by omega)]));unfold Ft;(repeat(first|rfl|rw[ab]|rw[ae _ _ _ _ (by omega)]))) hi
     ·exact dA
    ·replace h7:j=n:=by simp at h7;omega
     subst h7
     rw[Nat.sub_self]at H2 XZ
     rw[if_pos (by omega)]at cu
     obtain⟨rfl,_,_⟩:=H2
     refine wM v0 v20 v31 ?_
     refine bH cu ?_
     refine wM v0 v20 v31 ?_
     refine aw (bp.same WR.cp) rfl ?_
     exact TR
end Go.Proofs.YtlhemmpklhhgoaaGreat
