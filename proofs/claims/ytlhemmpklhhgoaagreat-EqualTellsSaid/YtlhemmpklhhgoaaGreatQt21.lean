/-
  A PART OF THE PROOF. Conditions: none.
-/
import Derived.OpenShut
import Derived.Carry
import Derived.Handed
import Derived.JoinedOf
import Derived.ProofKit
import Derived.Test.YtlhemmpklhhgoaaGreatQt20
set_option linter.unusedSimpArgs false
set_option linter.unusedVariables false
set_option maxHeartbeats 8000000
namespace Go.Proofs.YtlhemmpklhhgoaaGreat
def FC(o:Nat->ab)(x m c:Nat)(E:List TB):Nat->ab:=ay (ay (ay o x (.row [.mp m, .osl c 0, .d (.bool false)])) m (dg (ah E))) c (.arr 0 59 4 (E.map TB.d))
section
variable {o:Nat->ab}{x m nx:Nat}{E:List TB}(lx:x<nx)(lm:m<nx)(cy:x≠m)
include lx lm cy
theorem S1:FC o x m nx E x= .row [.mp m, .osl nx 0, .d (.bool false)]:=Tk
theorem S2:FC o x m nx E m=dg (ah E):=Tk
theorem S3:FC o x m nx E nx= .arr 0 59 4 (E.map TB.d):=Tk
omit lx lm cy in
theorem nY{j:Nat}(h1:j≠x)(h2:j≠m)(h3:j≠nx):FC o x m nx E j=o j:=by unfold FC;(repeat(first|rfl|rw[aa]|rw[ae _ _ _ _ (by omega)]))
theorem MK(hg:Good o nx):Good (FC o x m nx E) (nx+1):=by
 have _:=cy
 unfold FC
 refine Good.ay (Good.ay (Good.ay (hg.mono af) af ?_) af rfl) af rfl
 simp[ab.refs,V.aO,V.refs]
 omega
theorem ML(gone:Nat->Prop)(xl:V)(l:List V)(hg:Good o nx)(uh:∀id,gone id->nx<=id){e:Nat->V}{so:Nat->ab}{k:Nat}(gl:fY so gone 59 4 (E.map TB.d) xl)
 (sx:so x= .row [.mp m,xl, .d (.bool false)]) (sm:so m=dg (ah E)) (h:∀j,j<nx->j≠x->j≠m->so j=o j) (he:iY nx [⟨xl,59,4,E.map TB.d⟩] so gone e l 0):bH nx ⟨e,so,k⟩ ⟨aY l,FC o x m nx E,nx+1⟩:=by
 refine bH.sG gone xl nx l (Nat.le_refl _) (fun j hj=> ?_) (S3 lx lm cy) gl (fun j hj=> ?_) (fun j h1 h2=>absurd (uh j h1) af) he
 ·by_cases e1:j=x
  ·subst e1
   rw[S1 lx lm cy]
   exact YO
  ·by_cases e2:j=m
   ·subst e2
    rw[S2 lx lm cy]
    exact bC sm (fun r hr=>by simp[ab.refs]at hr)
   ·rw[nY e1 e2 (by omega),h j hj e1 e2]
    exact bC rfl (fun r hr=>hg.refs j r hr)
 ·rw[nY (by omega) (by omega) (by omega)]
  exact FK
end
theorem PD{s:aF}{ps:List (Tm×Tm)}(EO:∀p∈ps,QT s p.1/\QT s p.2)(hlen:ps.length<=1000){f:Nat}{e:Int}{b':List (Int×Tm)}(hf:lg (iC false f) (ps.map (·.1)) (ps.map (·.2)) []=some (e,b')){lb xb x m:Nat}(o:Nat->ab)(nx:Nat)(hg:Good o nx)
 (hl:o lb= .row [.d (.sl (ps.map wQ))]) (WK:o xb= .row [.ptr x 0]) (hx:o x= .row [.mp m, .ax, .d (.bool false)]) (hm:o m=dg []) (K X:V->(Nat->ab)->Nat->Prop)
 (aW:e=0->oC s b'->∀ (o':Nat->ab) (nx' l:Nat),nx<=nx'->l<nx'->Good o' nx'->o' x= .row [.mp m, .osl l 0, .d (.bool false)]->o' m=dg b'->(∀j,j<nx->j≠x->j≠m->o' j=o j)->K (.bS []) o' nx')
 (oQ:e≠0->∀v o' nx',v= .d (.iface 162 (.agg []))\/v= .d (.iface 163 (.agg []))->nx<=nx'->Good o' nx'->(∀j,j<nx->j≠x->j≠m->o' j=o j)->X v o' nx'):
 bZ Tryz.prog 109 [.ptr lb 0, .ptr xb 0] o nx K X:=by
 have lx:x<nx:=hg.lt J1
 have lm:m<nx:=hg.lt FF
 have llb:lb<nx:=hg.lt (by rw[hl];exact ab.noConfusion)
 have lxb:xb<nx:=hg.lt (by rw[WK];exact ab.noConfusion)
 have cy:x≠m:=fun e=>by subst e;rw[hx]at hm;cases hm
 have d1:lb≠x:=fun e=>by subst e;rw[hx]at hl;cases hl
 have d2:lb≠m:=fun e=>by subst e;rw[hm]at hl;cases hl
 have d3:xb≠x:=fun e=>by subst e;rw[hx]at WK;cases WK
 have d4:xb≠m:=fun e=>by subst e;rw[hm]at WK;cases WK
 refine bZ.aG mix RZ aH ?_
 rw[Vl]
 refine Yc hl WK hx hm ?_
 refine aC (fun i:Nat×List TB=>⟨aY [.ptr lb 0, .ptr xb 0, .ad, .ad, .d (.sl (ps.map wQ)), .d (.i ps.length), .d (.i i.1)],FC o x m nx i.2,nx+1⟩)
  (fun i=>i.1<=ps.length/\lg (iC false f) ((ps.drop i.1).map (·.1)) ((ps.drop i.1).map (·.2)) (ah i.2)=some (e,b')/\oC s (ah i.2)) (fun i=>ps.length - i.1) (0,[]) ⟨Nat.zero_le _,hf,oC.nil⟩ ?_ ?_
 ·refine ML lx lm cy (fun _=>False) .ax _ hg (fun _ h=>h.elim) (.inl ⟨rfl,rfl,bD⟩) hx hm (fun j j1 j2 j3=>rfl) ?_
  exact rE
 rintro⟨k,E⟩ ⟨hk,hL,hA⟩
 dsimp only at hk hL hA|-
 have afi:=hA.len
 have q1:FC o x m nx E lb= .row [.d (.sl (ps.map wQ))]:=by rw[nY d1 d2 (by omega),hl]
 have q2:FC o x m nx E xb= .row [.ptr x 0]:=by rw[nY d3 d4 (by omega),WK]
 have q3:=S1 (o:=o) (E:=E) lx lm cy
 have q4:=S2 (o:=o) (E:=E) lx lm cy
 have q5:=S3 (o:=o) (E:=E) lx lm cy
 have hgU:=MK (o:=o) (E:=E) lx lm cy hg
 refine Td ?_
 refine ao (fun h6=> ?_) (fun h6=> ?_)
 ·replace h6:k<ps.length:=by simp at h6;omega
  obtain⟨⟨a,c⟩,hp⟩:=aA h6
  obtain⟨ha,hc⟩:=EO _ (List.mem_of_getElem? hp)
  have I5:ps.drop k=(a,c)::ps.drop (k+1):=by
   obtain⟨i1,i2⟩:=List.getElem?_eq_some_iff.1 hp
   exact zu
  rw[I5]at hL
  simp only[List.map_cons,lg]at hL
  cases hq:iC false f a c (ah E)with
  |none=>rw[hq]at hL;cases hL
  |some q=>
  obtain⟨e1,b1⟩:=q
  rw[hq]at hL
  dsimp only at hL
  simp+contextual (disch:=first|omega|simp only[go_sem,false_implies]) only[go_sem,wrap64,if_pos,hp,q1,q2,q3,q4,q5,Nat.add_assoc,Nat.left_eq_add,Nat.add_eq_left,Nat.add_left_cancel_iff,List.length_map]
  have rQ:Good (ay (ay (FC o x m nx E) (nx+4) (.row [.d (.i 0), .d (.i 0), .ax, .d (.i 0), .d (.i 0), .ax])) (nx+4) (.row [.d (.i a.op), .d (.i a.n), .d (.sl (a.kids.map Tm.d)), .d (.i c.op), .d (.i c.n), .d (.sl (c.kids.map Tm.d))])) (nx+11):=
   Good.ay (Good.ay (hgU.mono af) af rfl) af rfl
  refine aX (wS hA ha hc (L:=E) af hq (x:=x) (m:=m) (xl:= .osl nx 0) _ (ay (ay (ay (FC o x m nx E) (nx+4) (.row [.d (.i 0), .d (.i 0), .ax, .d (.i 0), .d (.i 0), .ax])) (nx+4) (.row [.d (.i a.op), .d (.i a.n), .d (.sl (a.kids.map Tm.d)), .d (.i c.op), .d (.i c.n), .d (.sl (c.kids.map Tm.d))])) nx .no) _ (fun j=>j=nx) rQ (rQ.ay af rfl) Tp Y1 (.inr ⟨nx,0,rfl,rfl,by(repeat(first|rfl|rw[aa]|rw[ae _ _ _ _ (by omega)]));exact q5⟩) (fun j e=>by subst e;exact⟨af,af,af,aa _ _ _⟩) (fun j hj=> ?_) _ _ (fun h0 E' hE o' nx' h1 h2 h3 h4=> ?_) (fun h5 o' nx' h1 h2 h4=> ?_) (fun h3 o' nx' h1 h2 h4=> ?_))
  ·by_cases e:j=nx
   ·subst e;exact .inl (aa _ _ _)
   ·exact .inr (ae _ _ _ _ e).symm
  ·have hA':=(sW f a c _ b1 (h0 ▸ hq) hA ha hc).1
   have Px:b1=ah (E++E'):=by rw[hE,dP]
   rw[if_pos h0,Px]at hL
   rw[Px]at hA'
   refine gH ?_
   refine aj (k+1,E++E') ⟨h6,hL,hA'⟩ mQ (ML lx lm cy (fun j=>j=nx+18) (.osl (nx+18) 0) _ hg (fun j e=>af) (.inr ⟨nx+18,0,rfl,rfl,h3.RN⟩) h3.row (by rw[<- Px];exact h3.map) (fun j j1 j2 j3=> ?_) ?_)
   ·rw[h4 j (by omega) j2 j3]
    (repeat(first|rfl|rw[aa]|rw[ae _ _ _ _ (by omega)]))
    exact nY j2 j3 af
   ·exact rE
  ·rw[if_neg (by omega)]at hL
   injection hL with hL
   injection hL with hL1 hL2
   refine gH ?_
   refine oQ af _ _ _ (.inl rfl) af h2 (fun j j1 j2 j3=> ?_)
   rw[h4 j (by omega) j2 j3]
   (repeat(first|rfl|rw[aa]|rw[ae _ _ _ _ (by omega)]))
   exact nY j2 j3 af
  ·rw[if_neg (by omega)]at hL
   injection hL with hL
   injection hL with hL1 hL2
   refine gH ?_
   refine oQ af _ _ _ (.inr rfl) af h2 (fun j j1 j2 j3=> ?_)
   rw[h4 j (by omega) j2 j3]
   (repeat(first|rfl|rw[aa]|rw[ae _ _ _ _ (by omega)]))
   exact nY j2 j3 af
 ·replace h6:k=ps.length:=by simp at h6;omega
  subst h6
  rw[List.drop_length]at hL
  simp only[List.map_nil,lg]at hL
  injection hL with hL
  injection hL with hL1 hL2
  subst hL2
  refine gH ?_
  refine aW hL1.symm hA _ _ nx ?_ ?_ ?_ q3 q4 (fun j j1 j2 j3=>nY j2 j3 af)
  ·omega
  ·omega
  ·exact hgU.mono af
theorem MM{s:aF}{b:List (Int×Tm)}{l:List TB}{ρ:Int->Nat}{R:Nat}(h:lM s b l ρ R)(hl:jh s l):cW (b.map (·.1))=l.map (·.var):=by
 have hp:(cW (b.map (·.1))).Perm (b.map (·.1)):=List.mergeSort_perm _ _
 have hs:(cW (b.map (·.1))).Pairwise (fun a b=>decide (a<=b)=true):=List.pairwise_mergeSort (fun a b c h1 h2=>by simp at*;omega) (fun a b=>by simp;omega) _
 have zZ:(cW (b.map (·.1))).Nodup:=hp.nodup_iff.2 h.keys
 refine LS ((hs.and zZ).imp fun {a b} h=>by have:=h.1;have:=h.2;simp at*;omega) (List.pairwise_map.2 hl.srt) fun v=> ?_
 have e:=h.AU v
 rw[lJ,lJ]at e
 have e2:(ah l).map (·.1)=l.map (·.var):=by unfold ah;rw[List.map_map];rfl
 rw[e2]at e
 rw[hp.mem_iff]
 exact Decidable.not_iff_not.1 e
theorem MN{s:aF}{l:List TB}(hl:jh s l):((ah l).map (·.1)).Nodup:=by
 have e2:(ah l).map (·.1)=l.map (·.var):=by unfold ah;rw[List.map_map];rfl
 rw[e2]
 exact(List.pairwise_map.2 hl.srt).imp fun h=>af
theorem MO{s:aF}{b:List (Int×Tm)}{l:List TB}{ρ:Int->Nat}{R:Nat}(h:lM s b l ρ R)(hl:jh s l){k:Nat}{y:TB}(hy:l[k]? =some y):∃x f,bR b y.var=some x/\uI f b x=some y.term/\Vs s x:=by
 have hm:=List.mem_of_getElem? hy
 have h1:bR (ah l) y.var=some y.term:=(lK (MN hl)).2 (gY hm)
 cases hx:bR b y.var with
 |none=>rw[(h.AU _).1 hx]at h1;cases h1
 |some x=>
  obtain⟨q1,q2,_⟩:=h.ok _ _ hx
  have e:y.term=bc (ah l) x:=by rw[<- q2];simp[Lv,h1]
  exact⟨x,_,rfl,by rw[e];exact pg h _ x q1 (Nat.le_refl _),q1⟩
theorem Tm.PE:∀t:Tm,t.kX->t.wid:=by
 refine Tm.eY fun t ih h=> ?_
 have h':=(Tm.fS t).1 h
 rw[Tm.AZ]
 exact⟨af,fun k hk=>ih k hk (h'.2 k hk)⟩
def Nl(l c:Nat)(b:List (Int×Tm))(L:List TB):Nat->ab:=ay (ay (ay (ay (fun _=> .no) 3 (.b7 (enc (D.int .i64) (j8 b)))) 5 (.row [.mp 3, .osl l 0, .d (.bool false)])) 6 (.row [.ptr 5 0])) c (.arr 0 59 4 (L.map TB.d))
theorem MP{l c:Nat}{b:List (Int×Tm)}{L:List TB}(hc:6<c):Nl l c b L 3= .b7 (enc (D.int .i64) (j8 b))/\Nl l c b L 5= .row [.mp 3, .osl l 0, .d (.bool false)]/\Nl l c b L 6= .row [.ptr 5 0]/\Nl l c b L c= .arr 0 59 4 (L.map TB.d):=by
 unfold Nl
 exact⟨by(repeat(first|rfl|rw[aa]|rw[ae _ _ _ _ (by omega)])),by(repeat(first|rfl|rw[aa]|rw[ae _ _ _ _ (by omega)])),by(repeat(first|rfl|rw[aa]|rw[ae _ _ _ _ (by omega)])),by(repeat(first|rfl|rw[aa]|rw[ae _ _ _ _ (by omega)]))⟩
theorem MQ(gone:Nat->Prop)(x:V)(env:List V){l c:Nat}{b:List (Int×Tm)}{L:List TB}(hc:6<c)(hl:l<c)(uh:∀id,gone id->c<=id){e:Nat->V}{so:Nat->ab}{m:Nat}(gx:fY so gone 59 4 (L.map TB.d) x)
 (s3:so 3= .b7 (enc (D.int .i64) (j8 b))) (s5:so 5= .row [.mp 3, .osl l 0, .d (.bool false)]) (s6:so 6= .row [.ptr 5 0]) (he:iY c [⟨x,59,4,L.map TB.d⟩] so gone e env 0):bH 0 ⟨e,so,m⟩ ⟨aY env,Nl l c b L,c+1⟩:=by
 obtain⟨g3,g5,g6,gc⟩:=MP (l:=l) (b:=b) (L:=L) hc
 refine bH.sG gone x c env af (fun j hj=> ?_) gc gx (fun j hj=> ?_) (fun j h1 h2=>absurd (uh j h1) af) he
 ·by_cases e3:j=3
  ·subst e3;rw[s3,g3];exact bC rfl (fun r hr=>by simp[ab.refs]at hr)
  by_cases e5:j=5
  ·subst e5;rw[s5,g5];exact bC rfl (fun r hr=>by simp[ab.refs,V.aO,V.refs]at hr;omega)
  by_cases e6:j=6
  ·subst e6;rw[s6,g6];exact bC rfl (fun r hr=>by simp[ab.refs,V.aO,V.refs]at hr;omega)
  have:Nl l c b L j= .no:=by unfold Nl;(repeat(first|rfl|rw[aa]|rw[ae _ _ _ _ (by omega)]))
  rw[this];exact mo
 ·unfold Nl
  exact cF
theorem zm{s:aF}{ps:List (Tm×Tm)}(EO:∀p∈ps,QT s p.1/\QT s p.2)(hlen:ps.length<=1000){f:Nat}{e:Int}{b':List (Int×Tm)}(hf:lg (iC false f) (ps.map (·.1)) (ps.map (·.2)) []=some (e,b')){l':List TB}{ρ:Int->Nat}{R:Nat}(hS:e=0->lM s b' l' ρ R/\jh s l'/\∀x∈l',x.term.kX):
 aV Tryz.prog 67 [.sl (ps.map wQ)] (.ret [.sl (if e=0 then l'.map TB.d else []), .bool (e==0)]):=by
 refine aV.aG mix aba aH ?_
 rw[c67]
 refine gH ?_
 refine aX (zh _ _ _ _ ?_ _ _ (PD EO hlen hf (lb:=0) (xb:=6) (x:=5) (m:=3) _ _ ?_ cF cF cF cF _ _ (fun h0 hA o1 n1 l g1 g2 g3 g4 g5 g6=>⟨af,g3, ?_,fun o2 n2 k1 k2 k3=> ?_⟩) (fun jo v o1 n1 hv g1 g3 g6=> ?_)))
 ·exact dB
 ·exact dB
 ·rw[g6 _ (by omega) (by omega) (by omega)];(repeat(first|rfl|rw[aa]|rw[ae _ _ _ _ (by omega)]))
 ·have f5:o2 5= .row [.mp 3, .osl l 0, .d (.bool false)]:=by rw[k3 _ (by omega) (by omega)];exact g4
  have f3:o2 3=dg b':=by rw[k3 _ (by omega) (by omega)];exact g5
  have f6:o2 6= .row [.ptr 5 0]:=by rw[k3 _ (by omega) (by omega),g6 _ (by omega) (by omega) (by omega)];(repeat(first|rfl|rw[aa]|rw[ae _ _ _ _ (by omega)]))
  obtain⟨ada,adb,hfw⟩:=hS h0
  have afz:b'.length<=20:=by
   have:=Dv hA.keys fun v hv=>by
    obtain⟨p,hp,rfl⟩:=List.mem_map.1 hv
    exact(hA.ok p hp).1
   rwa [List.length_map]at this
  have S4:=MM ada adb
  have afG:l'.length<=20:=by
   have e1:=congrArg List.length S4
   unfold cW at e1
   rw[List.length_mergeSort,List.length_map,List.length_map]at e1
   omega
  refine Tf f5 f3 f6 ?_
  refine bX (bZ.E8 (id:=3) f3 af (Py 3 _ _ _ _ ?_))
  refine gH ?_
  refine aX (bZ.seal (MH (b:=b') af (p:=n2+8) (m:=3) _ _ ?_ cF cF _ _ (fun o3 n3 id ep m1 m2 m3 m4 m5=>⟨.sl ((l'.map (·.var)).map .i), ?_, ?_⟩)))
  ·refine Good.ay (Good.ay (k2.mono af) af rfl) af ?_
   exact qb
  ·rw[S4]at m5
   exact xq m5
  have F:∀j,j<n2+8->put o3 (bE o3 [id]) j=ay (ay o2 3 (.b7 (enc (D.int .i64) (j8 b')))) (n2+8) (.row [.mp 3]) j:=fun j hj=>by
   rw[Bb _ _ _ (fun y hy=> ?_),m4 j (by omega)]
   simp[bE]at hy
   subst hy
   dsimp only
   omega
  have F5:put o3 (bE o3 [id]) 5= .row [.mp 3, .osl l 0, .d (.bool false)]:=by rw[F 5 (by omega)];(repeat(first|rfl|rw[aa]|rw[ae _ _ _ _ (by omega)]));exact f5
  have F3:put o3 (bE o3 [id]) 3= .b7 (enc (D.int .i64) (j8 b')):=by rw[F 3 (by omega)];(repeat(first|rfl|rw[aa]|rw[ae _ _ _ _ (by omega)]))
  have F6:put o3 (bE o3 [id]) 6= .row [.ptr 5 0]:=by rw[F 6 (by omega)];(repeat(first|rfl|rw[aa]|rw[ae _ _ _ _ (by omega)]));exact f6
  have hGO:=xa m3 [id]
  have WJ:l<n3:=af
  clear F
  simp only[V.ids]
  generalize put o3 (bE o3 [id])=O at F5 F3 F6 hGO|-
  simp+contextual (disch:=first|omega|simp only[go_sem,false_implies]) only[go_sem,wrap64,if_pos,F5,F3,F6,Nat.add_assoc,Nat.left_eq_add,Nat.add_eq_left,Nat.add_left_cancel_iff,List.length_map]
  refine aC (fun k:Nat=>⟨aY [.ad, .ad, .ad, .ad, .ptr 6 0, .ad, .osl n3 0, .ad, .ad, .ad, .ad, .ad, .ad, .ad, .ad, .ad, .ad, .ad, .ad, .ad, .ad, .d (.sl ((l'.map (·.var)).map .i)), .d (.i l'.length), .d (.i k)],Nl l n3 b' (l'.take k),n3+1⟩)
   (fun k=>k<=l'.length) (fun k=>l'.length - k) 0 (Nat.zero_le _) (MQ (fun _=>False) .ax _ af WJ (fun _ h=>h.elim) (.inl ⟨rfl,rfl,bD⟩) F3 F5 F6 ?_) (fun k hk=> ?_)
  ·exact rE
  replace hk:k<=l'.length:=hk
  obtain⟨g3,g5,X8,gc⟩:=MP (l:=l) (c:=n3) (b:=b') (L:=l'.take k) af
  refine Yc g3 g5 X8 gc ?_
  refine ao (fun h6=> ?_) (fun h6=> ?_)
  ·replace h6:k<l'.length:=by simp at h6;omega
   obtain⟨y,hy⟩:=aA h6
   obtain⟨x,fx,x1,x2,x3⟩:=MO ada adb hy
   have rL:l'.take (k+1)=l'.take k++[y]:=by rw[List.take_add_one,hy];rfl
   have e0:(l'.take k).length=k:=by rw[List.length_take];omega
   have fE:k<=140737488355327/\(k+1)*48<=140737488355328:=af
   obtain⟨jx,hjx⟩:=fP x1
   refine Yb g3 g5 X8 gc hy hjx ?_
   refine aS (Fh (fun p hp=>(hA.ok p hp).2.fits) fx x y.term (hA.ok _ (cK x1)).2.fits x2 (Tm.PE _ (hfw y (List.mem_of_getElem? hy)))) ?_
   refine Yb g3 g5 X8 gc e0 fE ?_
   refine aE (bK (ids:=[6,5,3,n3,n3+19]) (nx:=n3+22) (by simp<;>omega) (by simp<;>omega) [([],[]),([],[]),([0],[]),([1],[]),([1],[]),([1],[]),([0],[]),([1],[]),([1],[]),([1],[]),([],[]),([2],[]),([2],[2]),([],[]),([],[4]),([3,4],[3]),([],[])] bD) ?_
   refine gH ?_
   refine aj (k+1) h6 af (MQ (fun j=>n3<=j) (.osl n3 1) _ af WJ (fun _ h=>h) (.inr ⟨n3,1,Nat.le_refl _,rfl,by(repeat(first|rfl|rw[aa]|rw[ae _ _ _ _ (by omega)]));rw[rL,List.map_append];rfl⟩) cF (by(repeat(first|rfl|rw[aa]|rw[ae _ _ _ _ (by omega)]));exact g5) (by(repeat(first|rfl|rw[aa]|rw[ae _ _ _ _ (by omega)]));exact X8) ?_)
   exact rE
  ·replace h6:k=l'.length:=by simp at h6;omega
   subst h6
   rw[List.take_length]at g3 g5 X8 gc|-
   rw[if_pos h0]
   subst h0
   simp+contextual (disch:=first|omega|simp only[go_sem,false_implies]) only[go_sem,wrap64,if_pos,g3,g5,X8,gc,Nat.add_assoc,Nat.left_eq_add,Nat.add_eq_left,Nat.add_left_cancel_iff]
 ·have ee:(e==0)=false:=by rw[beq_eq_false_iff_ne];exact jo
  rw[if_neg jo,ee]
  rcases hv with rfl|rfl
  ·refine .inl ⟨rfl,af,g3,by rw[g6 _ (by omega) (by omega) (by omega)];(repeat(first|rfl|rw[aa]|rw[ae _ _ _ _ (by omega)])),fun o2 n2 k1 k2 k3=> ?_⟩
   exact Yh
  ·refine .inr ⟨rfl,af,g3,by rw[g6 _ (by omega) (by omega) (by omega)];(repeat(first|rfl|rw[aa]|rw[ae _ _ _ _ (by omega)])),fun o2 n2 k1 k2 k3=> ?_⟩
   exact Yh
end Go.Proofs.YtlhemmpklhhgoaaGreat
namespace Go.Proofs.YtlhemmpklhhgoaaGreat
theorem xc{s:aF}(l:List TB)(n:Int)(t:Tm)(hl:l.length<=50)(hx:∀x∈l,Vs s x.term/\x.term.kX):aV Tryz.prog 150 [.sl (l.map TB.d), .i n,t.d] (.ret [.sl ((jg l n t).map TB.d)]):=by
 refine aV.aG mix abT aH ?_
 rw[abS]
 refine bI ?_
 refine aC (fun i:Nat=>⟨aY [.d (.sl (l.map TB.d)), .d (.i n), .ad, .ad, .ad, .ptr 0 0, .ad, .osl 1 0, .d (.i i)],ay (ay (fun _=> .no) 0 (.row t.row)) 1 (.arr 0 59 4 (((l.take i).map fun x=>(⟨x.var,bc (sP n t) x.term⟩:TB)).map TB.d)),2⟩)
  (fun i=>i<=l.length) (fun i=>l.length - i) 0 (Nat.zero_le _) (bH.sG (ty:=59) (sz:=4) (es:=[]) (fun _=>False) .ax 1 _ af (lt1 (bC rfl qb)) (by rw[aa];simp) (.inl ⟨rfl,rfl,bD⟩) (fun j hj=>by(repeat(first|rfl|rw[aa]|rw[ae _ _ _ _ (by omega)]))) (fun _ h=>h.elim) ?_) ?_
 ·exact rE
 rintro i hi
 replace hi:i<=l.length:=hi
 refine uj ?_
 refine ao (fun h2=> ?_) (fun h2=> ?_)
 ·simp at h2
  obtain⟨x,NV⟩:=aA h2
  obtain⟨x1,x2⟩:=hx x (List.mem_of_getElem? NV)
  have rL:l.take (i+1)=l.take i++[x]:=by rw[List.take_add_one,NV];rfl
  have e0:(l.take i).length=i:=by rw[List.length_take];omega
  refine rN NV e0 ?_
  refine aS (rs:=[(bc (sP n t) x.term).d]) (A5 x.term x1 x2 [⟨n,t⟩] aH) ?_
  refine rN NV e0 ?_
  refine aE bD ?_
  refine rN NV e0 ?_
  refine aj (i+1) h2 af (bH.sG (fun j=>j=1) (.osl 1 1) 1 _ af (lt1 (kD (y:= .row t.row) cF cF (bC rfl qb))) (aa _ _ _) (.inr ⟨1,1,rfl,rfl,by(repeat(first|rfl|rw[aa]|rw[ae _ _ _ _ (by omega)]));rw[rL,List.map_append,List.map_append];rfl⟩) (fun j hj=>by(repeat(first|rfl|rw[aa]|rw[ae _ _ _ _ (by omega)]))) (fun j h h2=>af) ?_)
  exact rE
 ·simp at h2
  have hil:i=l.length:=af
  subst hil
  rw[List.take_length]
  refine uj ?_
  refine bw (WA (l.map fun x=>(⟨x.var,bc (sP n t) x.term⟩:TB)) n t fI) ?_
  refine bI ?_
  rfl
theorem PF(v:Int):(Tm.mk 1 v []).kX:=by rw[Tm.fS];simp[Tm.kids]
theorem rv{l:List TB}(h:∀x∈l,x.term.kX):∀p∈ah l,p.2.kX:=fun p hp=>by
 obtain⟨x,hx,rfl⟩:=List.mem_map.1 hp
 exact h x hx
theorem xd{l:List TB}{n:Int}{t:Tm}(hl:∀x∈l,x.term.kX)(ht:t.kX):∀x∈jg l n t,x.term.kX:=fun x hx=>by
 rcases uF.1 hx with rfl|hx
 ·exact ht
 ·obtain⟨y,hy,rfl⟩:=List.mem_map.1 hx
  exact Tm.sX (fun p hp=>by simp[sP]at hp;subst hp;exact ht) _ (hl y hy)
theorem Bd:∀ (f:Nat) (a c:Tm) (l:List TB) (r:List TB×Bool),fZ f a c l=some r->a.kX->c.kX->(∀x∈l,x.term.kX)->∀x∈r.1,x.term.kX
 |0,_,_,_,_,h,_,_,_=>by cases h
 |f+1,a,c,l,r,h,ha,hc,hl=>by
  have fa:=Tm.sX (rv hl) a ha
  have fc:=Tm.sX (rv hl) c hc
  simp only[fZ]at h
  generalize bc (ah l) a=a0 at*
  generalize bc (ah l) c=c0 at*
  split at h
  ·injection h with h;subst h;exact hl
  ·split at h
   ·injection h with h;subst h;exact xd hl (PF _)
   ·split at h
    ·injection h with h;subst h;exact xd hl fc
    ·split at h
     ·injection h with h;subst h;exact xd hl fa
     ·split at h
      ·injection h with h;subst h;intro x hx;cases hx
      ·have key:∀ (ks dD:List Tm) (l:List TB),(∀k∈ks,k.kX)->(∀k∈dD,k.kX)->(∀x∈l,x.term.kX)->dw (fZ f) ks dD l=some r->∀x∈r.1,x.term.kX:=by
        intro ks
        induction ks with
        |nil=>intro dD l _ _ hl h;simp only[dw]at h;injection h with h;subst h;exact hl
        |cons k ks Dp=>
         intro dD l m1 m2 hl h
         cases dD with
         |nil=>simp only[dw]at h;injection h with h;subst h;exact hl
         |cons k' dD=>
          simp only[dw]at h
          cases e:fZ f k k' l with
          |none=>rw[e]at h;cases h
          |some r1=>
           have h1:=Bd f k k' l r1 e (m1 k aH) (m2 k' aH) hl
           obtain⟨l1,ok⟩:=r1
           rw[e]at h
           cases ok with
           |false=>simp only at h;injection h with h;subst h;exact h1
           |true=>exact Dp dD l1 (fun y hy=>m1 y mK) (fun y hy=>m2 y mK) h1 h
       exact key _ _ l ((Tm.fS _).1 fa).2 ((Tm.fS _).1 fc).2 hl h
theorem zo{s:aF}:∀ (f:Nat) (a c:Tm) (l:List TB) (r:List TB×Bool),fZ f a c l=some r->Vs s a->a.kX->Vs s c->c.kX->jh s l->(∀x∈l,x.term.kX)->aV Tryz.prog 122 [a.d,c.d, .sl (l.map TB.d)] (.ret [.sl (r.1.map TB.d), .bool r.2])
 |0,_,_,_,_,h,_,_,_,_,_,_=>by cases h
 |f+1,a,c,l,r,h,va,fa,vc,fc,hl,mV=>by
  have h20:=hl.len
  have sa:=A5 a va fa l af
  have sc:=A5 c vc fc l af
  have va0:=Vs.sub hl.bd a va
  have vc0:=Vs.sub hl.bd c vc
  have fa0:=Tm.sX (rv mV) a fa
  have fc0:=Tm.sX (rv mV) c fc
  have hlx:∀x∈l,Vs s x.term/\x.term.kX:=fun x hx=>⟨(hl.ok x hx).2,mV x hx⟩
  have na:=hl.O5 va
  have nc:=hl.O5 vc
  simp only[fZ]at h
  refine aV.aG mix aby aH ?_
  rw[abx]
  refine bI ?_
  refine aS sa ?_
  refine bI ?_
  refine aS sc ?_
  refine bI ?_
  generalize bc (ah l) a=a0 at*
  generalize bc (ah l) c=c0 at*
  refine aE bD ?_
  have fia:=Tm.wW a0 fa0
  have fic:=Tm.wW c0 fc0
  have ade:=(Tm.fS a0).1 fa0
  have adf:=(Tm.fS c0).1 fc0
  refine bI ?_
  refine ak (wo a0 fia c0 fic) rfl ?_
  cases xh:hO a0 c0 with
  |true=>
   rw[if_pos xh]at h
   injection h with h
   subst h
   exact jW
  |false=>
  rw[if_neg (by rw[xh];exact Bool.false_ne_true)]at h
  by_cases h1:a0.op=1
  ·have db:(a0.op==1)=true:=by simpa using h1
   by_cases h2:c0.op=1
   ·have eO:(c0.op==1)=true:=by simpa using h2
    rw[if_pos ⟨h1,h2⟩]at h
    injection h with h
    subst h
    have zP:(if c0.n>a0.n then c0.n else a0.n)=max a0.n c0.n:=by rw[Int.max_def];split<;>split<;>omega
    have afj:(if c0.n<a0.n then c0.n else a0.n)=min a0.n c0.n:=by rw[Int.min_def];split<;>split<;>omega
    refine Bh db eO ?_
    rw[zP,afj]
    refine aS (LW (min a0.n c0.n)) ?_
    refine Bh db eO ?_
    refine aS (xc l (max a0.n c0.n) (.mk 1 (min a0.n c0.n) []) af hlx) ?_
    exact TJ
   ·have eO:(c0.op==1)=false:=by simpa using h2
    rw[if_neg (fun h=>h2 h.2),if_pos h1]at h
    injection h with h
    subst h
    have Pr:=A6 vc0
    refine Bh db eO ?_
    refine aS (xc l a0.n c0 af hlx) ?_
    refine Bh db eO ?_
    refine aS (rq c0 vc0 fc0) ?_
    refine Bh db eO ?_
    refine aZ (SQ (cJ c0) a0.n af) rfl ?_
    exact TJ
  ·have db:(a0.op==1)=false:=by simpa using h1
   by_cases h2:c0.op=1
   ·have eO:(c0.op==1)=true:=by simpa using h2
    rw[if_neg (fun h=>h1 h.1),if_neg h1,if_pos h2]at h
    injection h with h
    subst h
    have Pr:=A6 va0
    refine Bh db eO ?_
    refine aS (xc l c0.n a0 af hlx) ?_
    refine Bh db eO ?_
    refine aS (rq a0 va0 fa0) ?_
    refine Bh db eO ?_
    refine aZ (SQ (cJ a0) c0.n af) rfl ?_
    exact TJ
   ·have eO:(c0.op==1)=false:=by simpa using h2
    rw[if_neg (fun h=>h1 h.1),if_neg h1,if_neg h2]at h
    by_cases h3:a0.op≠c0.op\/a0.n≠c0.n\/a0.kids.length≠c0.kids.length
    ·rw[if_pos h3]at h
     injection h with h
     subst h
     have j6:(a0.op !=c0.op||a0.n !=c0.n||(a0.kids.length:Int)!=(c0.kids.length:Int))=true:=by
      rcases h3 with h|h|h
      ·simp[h]
      ·simp[h]
      ·have:((a0.kids.length:Int)!=(c0.kids.length:Int))=true:=by simp;omega
       simp[this]
     exact Nq db eO j6
    ·rw[if_neg h3]at h
     have e3:a0.kids.length=c0.kids.length:=Classical.byContradiction fun e=>h3 (Or.inr (Or.inr e))
     have j6:(a0.op !=c0.op||a0.n !=c0.n||(a0.kids.length:Int)!=(c0.kids.length:Int))=false:=by
      have e1:a0.op=c0.op:=Classical.byContradiction fun e=>h3 (Or.inl e)
      have e2:a0.n=c0.n:=Classical.byContradiction fun e=>h3 (Or.inr (Or.inl e))
      simp[e1,e2,e3]
     refine Bu db eO j6 ?_
     refine aC (fun i:Nat×List TB×Bool=>⟨aY [.ad, .ad, .d (.sl (i.2.1.map TB.d)), .ptr 0 0, .ptr 1 0, .ad, .ad, .ad, .d (.bool i.2.2), .d (.i i.1)],ay (ay (fun _=> .no) 0 (.row a0.row)) 1 (.row c0.row),2⟩)
      (fun i=>i.1<=a0.kids.length/\(if i.2.2=true then dw (fZ f) (a0.kids.drop i.1) (c0.kids.drop i.1) i.2.1=some r else(i.2.1,false)=r)/\(i.2.2=true->jh s i.2.1/\∀x∈i.2.1,x.term.kX)) (fun i=>a0.kids.length - i.1) (0,l,true) ⟨Nat.zero_le _,h,fun _=>⟨hl,mV⟩⟩ ?_ ?_
     ·dsimp only
      refine bH.bM _ af af dB (fun j hj=> ?_) ?_
      ·rcases(by omega:j=0\/j=1)with rfl|rfl
       ·exact cF
       ·exact cF
      ·exact dC
     rintro⟨k,l1,is⟩ ⟨hk,bg,mL⟩
     simp only at hk bg mL
     refine uj ?_
     cases is with
     |false=>
      simp only[Bool.false_eq_true,if_false]at bg
      subst bg
      simp+contextual (disch:=first|omega|simp only[go_sem,false_implies]) only[go_sem,wrap64,if_pos,List.length_map]
     |true=>
      simp only[if_true]at bg
      obtain⟨oJ,hf1⟩:=mL rfl
      by_cases h5:k<a0.kids.length
      ·have tS:decide ((k:Int)<(a0.kids.length:Int))=true:=by simpa using h5
       obtain⟨x,hx⟩:=aA h5
       have cy:=List.mem_of_getElem? hx
       obtain⟨z,hz⟩:=aA (l:=c0.kids) (k:=k) af
       have SS:=List.mem_of_getElem? hz
       have hdx:a0.kids.drop k=x::a0.kids.drop (k+1):=by
        obtain⟨h5,h6⟩:=List.getElem?_eq_some_iff.1 hx
        exact JT
       have hdz:c0.kids.drop k=z::c0.kids.drop (k+1):=by
        obtain⟨h5,h6⟩:=List.getElem?_eq_some_iff.1 hz
        exact JT
       rw[hdx,hdz]at bg
       simp only[dw]at bg
       cases e:fZ f x z l1 with
       |none=>rw[e]at bg;cases bg
       |some r1=>
       have ez:=zo f x z l1 r1 e (va0.kY cy) (ade.2 x cy) (vc0.kY SS) (adf.2 z SS) oJ hf1
       have afk:=Bd f x z l1 r1 e (ade.2 x cy) (adf.2 z SS) hf1
       rw[e]at bg
       obtain⟨l2,ok⟩:=r1
       refine Bu tS hx hz ?_
       refine aS ez ?_
       refine Bu tS hx hz ?_
       refine aE (ba rfl) ?_
       refine bI ?_
       refine aj (k+1,l2,ok) ⟨h5, ?_,fun aW=> ?_⟩ mQ (bH.bM _ af af dB (fun j hj=> ?_) ?_)
       ·cases ok with
        |true=>simpa using bg
        |false=>simp only at bg;injection bg
       ·simp only at aW
        subst aW
        exact⟨(wI f x z l1 l2 e oJ (va0.kY cy) (vc0.kY SS)).1,afk⟩
       ·exact cF
       ·exact dC
      ·have tS:decide ((k:Int)<(a0.kids.length:Int))=false:=by simp;omega
       rw[List.drop_eq_nil_of_le (by omega)]at bg
       simp only[dw]at bg
       injection bg with bg
       subst bg
       exact Jy tS
theorem MR{s:aF}{f:Nat}{a c:Tm}{r:List TB×Bool}(h:fZ f a c []=some r)(va:Vs s a)(fa:a.kX)(vc:Vs s c)(fc:c.kX):aV Tryz.prog 81 [a.d,c.d] (.ret [.sl (r.1.map TB.d), .bool r.2]):=by
 refine aV.aG mix aeW aH ?_
 rw[c81]
 refine bI ?_
 refine bw (zo f a c [] r h va fa vc fc jh.nil (fun _ h=>by cases h)) ?_
 exact jW
end Go.Proofs.YtlhemmpklhhgoaaGreat
set_option maxHeartbeats 8000000
namespace Go.Proofs.YtlhemmpklhhgoaaGreat
theorem WL{s:aF}{b:List (Int×Tm)}{l:List TB}{ρ:Int->Nat}{R:Nat}(h:lM s b l ρ R)(hl:jh s l)(hf:∀p∈b,ui b p.2):∀y∈l,y.term.sz<=40:=fun y hm=>by
 have h1:bR (ah l) y.var=some y.term:=(lK (MN hl)).2 (gY hm)
 cases hx:bR b y.var with
 |none=>rw[(h.AU _).1 hx]at h1;cases h1
 |some x=>
  obtain⟨q1,q2,_⟩:=h.ok _ _ hx
  have e:y.term=bc (ah l) x:=by rw[<- q2];simp[Lv,h1]
  rw[e]
  exact Mn h q1 (hf _ (cK hx))
theorem uO{s:aF}{b:List (Int×Tm)}{l:List TB}{ρ:Int->Nat}{R:Nat}(h:lM s b l ρ R)(hl:jh s l)(hf:∀p∈b,ui b p.2){t:Tm}(ht:bn s t=true):Vs s (bc (ah l) t)/\(bc (ah l) t).kX/\(bc (ah l) t).sz<=1600:=by
 obtain⟨h1,h2,_⟩:=b9 ht
 refine⟨Vs.sub hl.bd t h1,Tm.sX (rv fun x hx=>Tm.Fm _ (by have:=WL h hl hf x hx;omega)) t (A9 ht), ?_⟩
 have:=mz h hf h1
 omega
theorem PG{s:aF}{x y:Tm}(hx:Vs s x/\x.kX/\x.sz<=1600)(hy:Vs s y/\y.kX/\y.sz<=1600){f:Nat}{r:List TB×Bool}(h:fZ f x y []=some r):
 aV Tryz.prog 67 [.sl [wQ (x,y)]] (.ret [.sl (if r.2=true then r.1.map TB.d else []), .bool r.2]):=by
 obtain⟨g,e,b',h1,h2⟩:=Fk (lim:=false) f x y [] r h jh.nil hx.1 hy.1 x y [] _ _ lM.nil hx.1 hy.1 rfl rfl
 have hL:lg (iC false g) (([(x,y)]:List (Tm×Tm)).map (·.1)) (([(x,y)]:List (Tm×Tm)).map (·.2)) []=some (e,b'):=by
  simp only[List.map_cons,List.map_nil,lg,h1]
  by_cases e0:e=0
  ·rw[if_pos e0,e0]
  ·rw[if_neg e0]
 have hq:∀p∈([(x,y)]:List (Tm×Tm)),QT s p.1/\QT s p.2:=fun p hp=>by
  simp at hp
  subst hp
  exact⟨⟨hx.1,by have:=hx.2.2;dsimp only;omega⟩,⟨hy.1,by have:=hy.2.2;dsimp only;omega⟩⟩
 rcases h2 with⟨rfl,h3,L5,R',hS⟩|⟨rfl,h3⟩|⟨_,h3⟩
 ·have hr:r=(r.1,true):=by rw[<- h3]
  have afl:=(wI f x y [] r.1 (by rw[h,hr]) jh.nil hx.1 hy.1).1
  have:=zm hq aH hL (l':=r.1) (ρ:=L5) (R:=R') (fun _=>⟨hS,afl,Bd f x y [] r h hx.2.1 hy.2.1 (fun _ h=>by cases h)⟩)
  rw[h3,if_pos rfl]
  exact this
 ·have:=zm hq aH hL (l':=[]) (ρ:=fun _=>0) (R:=0) (fun h=>absurd h bD)
  rw[h3,if_neg (by decide)]
  exact this
 ·cases h3
theorem PH(l:List Nt)(hl:l.length<=1000):Nd Tryz.prog 69 [.sl (l.map Nt.d)] (.oV (l.map Nt.d)):=by
 refine Nd.kM rfl ?_
 refine bZ.aG mix abc aH ?_
 rw[c69]
 have hc:((l.map Nt.d).all fun z=>z.cells.length==6)=true:=by
  rw[List.all_eq_true]
  intro z hz
  obtain⟨r,_,rfl⟩:=List.mem_map.1 hz
  rfl
 have hk:(l.map Nt.d).take l.length=l.map Nt.d:=List.take_of_length_le aH
 exact Yg hk
theorem Fw(s:c6)(hs:s.Cp)(b:List (Int×Tm))(o:Nat->ab)(nx id lb:Nat)(hg:Good o nx)(aw:o id= .b7 (enc (D.int .i64) (j8 b)))(NO:o lb= .arr 0 101 6 (s.aJ.map Nt.d))(K X:V->(Nat->ab)->Nat->Prop)
 (wT:∀o' nx' i j k,nx<=nx'->Good o' nx'->(∀j,j<nx->j≠lb->o' j=o j)->
  o' i= .arr 0 59 4 (s.binds.map TB.d)->o' j= .arr 0 101 6 (s.aJ.map Nt.d)->o' k= .arr 0 77 2 (s.marks.map rM)->
  K (.agg [.d (.sl (s.sig.cons.map ef.d)), .d (.sl (s.sig.bW.map ef.d)), .osl i 0, .osl j 0, .osl k 0]) o' nx'):
 bZ Tryz.prog 65 [.agg [.d (.sl (s.sig.cons.map ef.d)), .d (.sl (s.sig.bW.map ef.d)), .d (.sl (s.binds.map TB.d)), .osl lb 0, .d (.sl (s.marks.map rM)), .mp id]] o nx K X:=by
 refine bZ.wR (d:=s.kd b) ?_ ?_
 ·exact Jz aw NO
 ·refine A7 s hs b _ nx (xa hg _) K X (fun o' nx' i j k m1 m2 m3 m4 m5 m6=>wT o' nx' i j k m1 m2 (fun j j1 j2=>(m3 j j1).trans ?_) m4 m5 m6)
  show put o (bE o [lb,id]) j=o j
  simp only[bE,List.map_cons,List.map_nil,aw,NO,put,List.foldl_cons,List.foldl_nil]
  by_cases e:j=id
  ·subst e;rw[aa,aw]
  ·rw[ae _ _ _ _ e,ae _ _ _ _ j2]
def jV(s:c6)(bA uy:Bool):Int:=if bA=true then 5 else if uy=true then(if s.aJ.length=12 then 3 else 0)else 0
def iP(s:c6)(n:Nt)(bA uy:Bool):c6:=if bA=true then fT else if uy=true then(if s.aJ.length=12 then fT else s.DJ n)else s
theorem PI(s:c6)(hs:s.Fin)(a c:Tm)(ha:a.Fin)(hc:c.Fin)(h: ¬ (bO s/\bn s.sig a=true/\bn s.sig c=true)):aV Tryz.prog 16 [s.d,a.d,c.d] (.ret [fT.d, .i 2]):=by
 refine aV.aG mix Vc aH ?_
 rw[c16]
 refine gH ?_
 refine bX (uN s hs a c ha hc _ _ dB _ _ (fun h1 h2 h3=>absurd ⟨h1,h2,h3⟩ h) (fun _ o' nx' id m i1 i0 i2 i3 i4=> ?_))
 have e3:o' 3= .row [.ax, .ax, .ax, .ax, .ax]:=(i3 _ af).trans cF
 exact Ye e3
theorem MT(s:c6)(hs:s.Fin)(a c:Tm)(ha:a.Fin)(hc:c.Fin)(h:bO s)(va:bn s.sig a=true)(vc:bn s.sig c=true){bA:Bool}(PJ:bA=true↔A1 (ah s.binds) ⟨a,c⟩){l':List TB}{ρ:Int->Nat}{R:Nat}(hS:lM s.sig (ah s.binds) l' ρ R)(hl:jh s.sig l')
 {f:Nat} {r:List TB×Bool} (hr:fZ f (bc (ah l') a) (bc (ah l') c) []=some r):aV Tryz.prog 16 [s.d,a.d,c.d] (.ret [(iP s ⟨a,c⟩ bA r.2).d, .i (jV s bA r.2)]):=by
 have cQ:∀p∈ah s.binds,ui (ah s.binds) p.2:=fun p hp=>(h.kZ.all p hp).1
 have oa:=uO hS hl cQ va
 have oc:=uO hS hl cQ vc
 have fa:=pg hS _ a (b9 va).1 (Nat.le_refl _)
 have fc:=pg hS _ c (b9 vc).1 (Nat.le_refl _)
 have tY:=h.wM
 refine aV.aG mix Vc aH ?_
 rw[c16]
 refine gH ?_
 refine bX (uN s hs a c ha hc _ _ dB _ _ (fun h1 h2 h3 o' nx' id i1 i2 i3 i4=> ?_) (fun hn=>absurd ⟨h,va,vc⟩ hn))
 have e1:o' 1= .row a.row:=(i3 _ af).trans cF
 have e2:o' 2= .row c.row:=(i3 _ af).trans cF
 have e3:o' 3= .row [.ax, .ax, .ax, .ax, .ax]:=(i3 _ af).trans cF
 have aw:id<nx':=Good.lt i2 JY
 have w1:∀k,id≠nx'+k:=fun k=>af
 have w2:∀k,(1:Nat)≠nx'+k:=fun k=>af
 have w3:∀k,(2:Nat)≠nx'+k:=fun k=>af
 have w4:∀k,(3:Nat)≠nx'+k:=fun k=>af
 have w5:∀k,nx'+k≠id:=fun k=>af
 have d1:(1:Nat)≠id:=fun e=>by subst e;rw[e1]at i4;cases i4
 have d2:(2:Nat)≠id:=fun e=>by subst e;rw[e2]at i4;cases i4
 have d3:(3:Nat)≠id:=fun e=>by subst e;rw[e3]at i4;cases i4
 simp+contextual (disch:=first|omega|simp only[go_sem,false_implies]) only[go_sem,wrap64,if_pos,Nat.add_assoc,Nat.left_eq_add,Nat.add_eq_left,Nat.add_left_cancel_iff,e1,e2,e3,i4,w1,w2,w3,w4,w5,d1,d2,d3]
 refine ak (Ba h.kZ s (n:=⟨a,c⟩) va vc PJ).1 rfl ?_
 cases bA with
 |true=>
  simp+contextual (disch:=first|omega|simp only[go_sem,false_implies]) only[go_sem,wrap64,if_pos,Nat.add_assoc,Nat.left_eq_add,Nat.add_eq_left,Nat.add_left_cancel_iff,e1,e2,e3,i4,w1,w2,w3,w4,e8,jV,iP]
 |false=>
  simp+contextual (disch:=first|omega|simp only[go_sem,false_implies]) only[go_sem,wrap64,if_pos,Nat.add_assoc,Nat.left_eq_add,Nat.add_eq_left,Nat.add_left_cancel_iff,e1,e2,e3,i4,w1,w2,w3,w4,w5,d1,d2,d3]
  refine aS (wL (fun p hp=>(h.kZ.all p hp).2) _ a _ ha.fits fa af) ?_
  simp+contextual (disch:=first|omega|simp only[go_sem,false_implies]) only[go_sem,wrap64,if_pos,Nat.add_assoc,Nat.left_eq_add,Nat.add_eq_left,Nat.add_left_cancel_iff,e1,e2,e3,i4,w1,w2,w3,w4,w5,d1,d2,d3]
  refine aS (wL (fun p hp=>(h.kZ.all p hp).2) _ c _ hc.fits fc af) ?_
  simp+contextual (disch:=first|omega|simp only[go_sem,false_implies]) only[go_sem,wrap64,if_pos,Nat.add_assoc,Nat.left_eq_add,Nat.add_eq_left,Nat.add_left_cancel_iff,e1,e2,e3,i4,w1,w2,w3,w4,w5,d1,d2,d3]
  refine aS (PG oa oc hr) ?_
  simp+contextual (disch:=first|omega|simp only[go_sem,false_implies]) only[go_sem,wrap64,if_pos,Nat.add_assoc,Nat.left_eq_add,Nat.add_eq_left,Nat.add_left_cancel_iff,e1,e2,e3,i4,w1,w2,w3,w4,w5,d1,d2,d3]
  refine aE (bK (ids:=[nx'+3,1,id,2,nx'+25]) (nx:=nx'+32) fI fI [([0],[]),([0],[]),([1],[]),([2],[2]),([0],[]),([0],[]),([3],[]),([2],[2]),([],[]),([],[4]),([4],[4]),([],[]),([],[]),([],[]),([],[]),([],[])] bD) ?_
  have hg:=i2
  have PC:=h.cp
  cases xG:r.2 with
  |false=>
   rw[show iP s ⟨a,c⟩ false false=s from rfl,show jV s false false=0 from rfl]
   simp+contextual (disch:=first|omega|simp only[go_sem,false_implies]) only[go_sem,wrap64,if_pos,Nat.add_assoc,Nat.left_eq_add,Nat.add_eq_left,Nat.add_left_cancel_iff,e1,e2,e3,i4,w1,w2,w3,w4,w5,d1,d2,d3]
   refine bX (MC s h.cp (ah s.binds) _ _ id dB cF _ _ (fun o2 n2 i j k m1 m2 m3 m4 m5 m6=> ?_))
   have f3:o2 3= .row [.ax, .ax, .ax, .ax, .ax]:=(m3 3 af).trans Hu
   have z1:i≠3:=fun e=>by subst e;rw[m4]at f3;cases f3
   have z2:j≠3:=fun e=>by subst e;rw[m5]at f3;cases f3
   have z3:k≠3:=fun e=>by subst e;rw[m6]at f3;cases f3
   exact Nn f3 m4 m5 m6 z1 z2 z3
  |true=>
   by_cases He:s.aJ.length=12
   ·have Fx:((s.aJ.length:Int)==12)=true:=by rw[beq_iff_eq];omega
    simp+contextual (disch:=first|omega|simp only[go_sem,false_implies]) only[go_sem,wrap64,if_pos,Nat.add_assoc,Nat.left_eq_add,Nat.add_eq_left,Nat.add_left_cancel_iff,e1,e2,e3,i4,w1,w2,w3,w4,w5,d1,d2,d3,List.length_map,Fx,He,e8,jV,iP]
   ·have Fx:((s.aJ.length:Int)==12)=false:=by rw[beq_eq_false_iff_ne];omega
    simp+contextual (disch:=first|omega|simp only[go_sem,false_implies]) only[go_sem,wrap64,if_pos,Nat.add_assoc,Nat.left_eq_add,Nat.add_eq_left,Nat.add_left_cancel_iff,e1,e2,e3,i4,w1,w2,w3,w4,w5,d1,d2,d3,List.length_map,Fx]
    refine yJ (PH s.aJ af) ?_
    have fE:s.aJ.length+1<=1099511627776/\(s.aJ.length+1)*72<=1099511627776:=af
    simp+contextual (disch:=first|omega|simp only[go_sem,false_implies]) only[go_sem,wrap64,if_pos,Nat.add_assoc,Nat.left_eq_add,Nat.add_eq_left,Nat.add_left_cancel_iff,e1,e2,e3,i4,w1,w2,w3,w4,w5,d1,d2,d3,List.length_map,fE]
    refine aE (bK (ids:=[nx'+3,nx'+11,nx'+43,nx'+44]) (nx:=nx'+48) aH aH [([0],[]),([0],[]),([0],[]),([],[]),([1],[]),([],[2]),([2],[3]),([0],[]),([0],[]),([0,3],[0])] bD) ?_
    simp+contextual (disch:=first|omega|simp only[go_sem,false_implies]) only[go_sem,wrap64,if_pos,Nat.add_assoc,Nat.left_eq_add,Nat.add_eq_left,Nat.add_left_cancel_iff,e1,e2,e3,i4,w1,w2,w3,w4,w5,d1,d2,d3]
    have afm:(s.DJ ⟨a,c⟩).Cp:=by
     refine⟨PC.lc,PC.lf,PC.bl, ?_,PC.ml,PC.bt,fun x hx=> ?_⟩
     ·show(s.aJ++[_]).length<=1000
      simp;omega
     ·have hx:x∈s.aJ++[⟨a,c⟩]:=hx
      rcases List.mem_append.1 hx with hx|hx
      ·exact PC.nt x hx
      ·simp at hx
       subst hx
       have q1:=(b9 va).2.1
       have q2:=(b9 vc).2.1
       exact⟨by dsimp only;omega,by dsimp only;omega⟩
    rw[show iP s ⟨a,c⟩ false true=s.DJ ⟨a,c⟩ by simp[iP,He],show jV s false true=0 by simp[jV,He]]
    refine bX (Fw (s.DJ ⟨a,c⟩) afm (ah s.binds) _ _ id (nx'+44) ?_ ?_ ?_ _ _ (fun o2 n2 i j k m1 m2 m3 m4 m5 m6=> ?_))
    ·exact dB
    ·exact cF
    ·(repeat(first|rfl|rw[aa]|rw[ae _ _ _ _ (by omega)]))
     simp[c6.DJ]
    have f3:o2 3= .row [.ax, .ax, .ax, .ax, .ax]:=(m3 3 af af).trans Hu
    have z1:i≠3:=fun e=>by subst e;rw[m4]at f3;cases f3
    have z2:j≠3:=fun e=>by subst e;rw[m5]at f3;cases f3
    have z3:k≠3:=fun e=>by subst e;rw[m6]at f3;cases f3
    exact Nn f3 m4 m5 m6 z1 z2 z3
end Go.Proofs.YtlhemmpklhhgoaaGreat
set_option maxHeartbeats 4000000
namespace Go.Proofs.YtlhemmpklhhgoaaGreat
theorem bO.same {s:c6}(h:s.Cp):aV Tryz.prog 21 [s.d,s.d] (.ret [.bool true]):=by
 have h3:=h.bl
 have h4:=h.nl
 have h5:=h.ml
 exact nX s h.lc h.lf af af af (fun x hx=>Tm.dv _ (h.bt x hx)) (fun x hx=>⟨Tm.dv _ (h.nt x hx).1,Tm.dv _ (h.nt x hx).2⟩)
end Go.Proofs.YtlhemmpklhhgoaaGreat
set_option maxHeartbeats 8000000
namespace Go.Proofs.YtlhemmpklhhgoaaGreat
theorem Be:fT.Cp:=⟨bD,bD,bD,bD,bD,fun _ h=>oU,fun _ h=>oU⟩
theorem rz{s:aF}{t:Tm}(h:bn s t=true):t.Fin:=by
 obtain⟨_,h2,h3⟩:=b9 h
 exact⟨Tm.dv t af,af⟩
theorem bO.fin {s:c6}(h:bO s)(hf:s.sig.Fits):s.Fin:=by
 have h1:=h.kZ.len
 have h2:=h.wM
 have h3:=h.I6
 exact⟨hf,af,af,af,fun x hx=>rz (h.kZ.ok x hx).2,fun n hn=>⟨rz (h.aJ n hn).1,rz (h.aJ n hn).2.1⟩⟩
theorem Fy{s:c6}(h:bO s){a c:Tm}(va:bn s.sig a=true)(vc:bn s.sig c=true){l':List TB}{ρ:Int->Nat}{R:Nat}(hS:lM s.sig (ah s.binds) l' ρ R)(hl:jh s.sig l')
 {f:Nat} {r:List TB×Bool} (hr:fZ f (bc (ah l') a) (bc (ah l') c) []=some r):aV Tryz.prog 72 [s.d,a.d,c.d] (.ret [.bool r.2]):=by
 have cQ:∀p∈ah s.binds,ui (ah s.binds) p.2:=fun p hp=>(h.kZ.all p hp).1
 have oa:=uO hS hl cQ va
 have oc:=uO hS hl cQ vc
 obtain⟨g1,u1⟩:=sU hS (b9 va).1
 obtain⟨g2,u2⟩:=sU hS (b9 vc).1
 have hlen:=h.kZ.len
 have LO:∀p∈ah s.binds,p.2.fits:=fun p hp=>(h.kZ.all p hp).2
 refine aV.aG mix aeR aH ?_
 rw[c72]
 refine bI ?_
 refine aS (oF af LO (rz va).fits u1 af) ?_
 refine bI ?_
 refine aS (oF af LO (rz vc).fits u2 af) ?_
 refine bI ?_
 refine aS (MR hr oa.1 oa.2.1 oc.1 oc.2.1) ?_
 exact J2
theorem Jd{s:c6}(h:bO s){a c:Tm}(va:bn s.sig a=true)(vc:bn s.sig c=true){bA:Bool}(PJ:bA=true↔A1 (ah s.binds) ⟨a,c⟩){l':List TB}{ρ:Int->Nat}{R:Nat}(hS:lM s.sig (ah s.binds) l' ρ R)(hl:jh s.sig l')
 {f:Nat} {r:List TB×Bool} (hr:fZ f (bc (ah l') a) (bc (ah l') c) []=some r):aV Tryz.prog 20 [s.d,a.d,c.d] (.ret [(iP s ⟨a,c⟩ bA r.2).d, .i (jV s bA r.2)]):=by
 have tY:=h.wM
 refine aV.aG mix aex aH ?_
 rw[c20]
 refine bI ?_
 refine ak (Ba h.kZ s (n:=⟨a,c⟩) va vc PJ).2 rfl ?_
 cases bA with
 |true=>simp+contextual (disch:=first|omega|simp only[go_sem,false_implies]) only[go_sem,wrap64,if_pos,e8,jV,iP]
 |false=>
  refine bI ?_
  refine ak (Fy h va vc hS hl hr) rfl ?_
  cases xG:r.2 with
  |false=>simp+contextual (disch:=first|omega|simp only[go_sem,false_implies]) only[go_sem,wrap64,if_pos,jV,iP]
  |true=>
   by_cases He:s.aJ.length=12
   ·have Fx:decide ((s.aJ.length:Int)≥12)=true:=decide_eq_true af
    simp+contextual (disch:=first|omega|simp only[go_sem,false_implies]) only[go_sem,wrap64,if_pos,List.length_map,Fx,He,e8,jV,iP]
   ·have Fx:decide ((s.aJ.length:Int)≥12)=false:=decide_eq_false af
    rw[show iP s ⟨a,c⟩ false true=s.DJ ⟨a,c⟩ by simp[iP,He],show jV s false true=0 by simp[jV,He]]
    refine rD Fx ?_
    refine aE ai ?_
    refine uj ?_
    simp only[c6.DJ,c6.d,List.map_append,List.map_cons,List.map_nil]
theorem Je(s:c6)(hs:s.Fits)(a c:Tm)(ha:a.fits)(hc:c.fits){sm:Bool}(xh:sm=true↔zg s):aV Tryz.prog 13 [s.d,a.d,c.d] (.ret [.bool (sm&&eg a&&eg c)]):=by
 refine aV.aG mix aes aH ?_
 rw[c13]
 refine bI ?_
 refine ak (Ft s hs xh) rfl ?_
 cases sm with
 |false=>exact jW
 |true=>
  refine bI ?_
  refine ak (qV a ha) rfl ?_
  cases h1:eg a with
  |false=>exact jW
  |true=>
   refine bI ?_
   refine ak (qV c hc) rfl ?_
   exact jW
theorem MU(s:c6)(hs:s.Fin)(a c:Tm)(ha:a.fits)(hc:c.fits){ok:Bool}(aW:ok=true↔bO s/\bn s.sig a=true/\bn s.sig c=true):aV Tryz.prog 17 [s.d,a.d,c.d] (.ret [.bool ok]):=by
 have no: ¬ (bO s/\bn s.sig a=true/\bn s.sig c=true)->ok=false:=fun h=>by
  cases ok with
  |false=>rfl
  |true=>exact absurd (aW.1 rfl) h
 obtain⟨so,mL⟩:∃so:Bool,so=true↔bO s:=by
  classical
  exact⟨decide (bO s),aH⟩
 refine aV.aG mix aeu aH ?_
 rw[c17]
 refine bI ?_
 refine ak (pX s hs mL) rfl ?_
 cases so with
 |false=>
  rw[no fun h=>Bool.false_ne_true (mL.2 h.1)]
  exact jW
 |true=>
  have h:=mL.1 rfl
  have ea:=wX h.sig a
  have ec:=wX h.sig c
  refine bI ?_
  refine ak (lP s.sig hs.sig a ha) rfl ?_
  cases h1:(gA s.sig a&&eZ a)with
  |false=>
   rw[no fun h=>by have:=h.2.1;rw[ea,h1]at this;cases this]
   exact jW
  |true=>
   refine bI ?_
   refine ak (lP s.sig hs.sig c hc) rfl ?_
   cases h2:(gA s.sig c&&eZ c)with
   |false=>
    rw[no fun h=>by have:=h.2.2;rw[ec,h2]at this;cases this]
    exact jW
   |true=>
    rw[aW.2 ⟨h,ea.trans h1,ec.trans h2⟩]
    exact jW
theorem MV{s:c6}(h:bO s)(hf:s.sig.Fits){a c:Tm}(va:bn s.sig a=true)(vc:bn s.sig c=true){f:Nat}{e:Int}{b':List (Int×Tm)}(hq:iC true f a c (ah s.binds)=some (e,b')){bk:Nt->Bool}(uM:e=0->∀n∈s.aJ,(bk n=true↔A1 b' n)):
 ∃T:c6,(if fA e (s.aJ.any bk)=0 then(s.tell b').d else fT.d)=T.d/\T.Cp/\(fA e (s.aJ.any bk)=0->bO T/\T.Fin):=by
 by_cases h0:fA e (s.aJ.any bk)=0
 ·refine⟨s.tell b',if_pos h0, ?_⟩
  have he:e=0:=by
   unfold fA at h0
   split at h0
   ·assumption
   ·exact h0
  have hb:s.aJ.any bk=false:=by
   cases hb:s.aJ.any bk with
   |false=>rfl
   |true=>rw[hb,he]at h0;exact absurd h0 bD
  subst he
  obtain⟨E,rfl,hB⟩:=w9 h va vc hq
  have hT:bO (s.tell (ah (s.binds++E))):=by
   have:=Pl h hB (fun n hn W2=>by
    have h1:=(uM rfl n hn).2 W2
    have h2:s.aJ.any bk=true:=List.any_eq_true.2 ⟨n,hn,h1⟩
    rw[hb]at h2;cases h2)
   unfold c6.tell
   rw[iE]
   exact this
  exact⟨hT.cp,fun _=>⟨hT,hT.fin hf⟩⟩
 ·exact⟨fT,if_neg h0,Be,fun h=>absurd h h0⟩
theorem Fz{s:c6}(h:bO s)(hf:s.sig.Fits){a c:Tm}(va:bn s.sig a=true)(vc:bn s.sig c=true){bA:Bool}(PJ:bA=true↔A1 (ah s.binds) ⟨a,c⟩)(uy:Bool):
 (iP s ⟨a,c⟩ bA uy).Cp/\(jV s bA uy=0->bO (iP s ⟨a,c⟩ bA uy)/\(iP s ⟨a,c⟩ bA uy).Fin):=by
 unfold iP jV
 have tY:=h.wM
 cases bA with
 |true=>exact⟨Be,fun h=>absurd (show(5:Int)=0 from h) bD⟩
 |false=>
  cases uy with
  |false=>exact⟨h.cp,fun _=>⟨h,h.fin hf⟩⟩
  |true=>
   by_cases He:s.aJ.length=12
   ·simp only[Bool.false_eq_true,if_false,if_true,if_pos He]
    exact⟨Be,fun h=>absurd h bD⟩
   ·simp only[Bool.false_eq_true,if_false,if_true,if_neg He]
    have hD:bO (s.DJ ⟨a,c⟩):=I8 h va vc (fun hb=>Bool.false_ne_true (PJ.2 hb)) af
    exact⟨hD.cp,fun _=>⟨hD,hD.fin hf⟩⟩
theorem Bf(hkn:aV Tryz.prog 14 [] (.ret [.bool true]))(s:c6)(hs:s.Fits)(a:Tm)(ha:a.fits)(c:Tm)(hc:c.fits):aV Tryz.prog 3 [s.d,a.d,c.d] (.ret [.bool true]):=by
 obtain⟨sm,xh⟩:∃sm:Bool,sm=true↔zg s:=by
  classical
  exact⟨decide (zg s),aH⟩
 refine aV.aG mix fn3 aH ?_
 rw[c3]
 refine bI ?_
 refine ak (Je s hs a c ha hc xh) rfl ?_
 cases hsa:(sm&&eg a&&eg c)with
 |false=>
  exact Zf
 |true=>
  simp only[Bool.and_eq_true]at hsa
  obtain⟨⟨oJ,DV⟩,DW⟩:=hsa
  have jl:=WD hs (xh.1 oJ)
  have fin:∀t:Tm,t.fits->eg t=true->t.Fin:=fun t h1 h2=>⟨h1,by have:=((wA t).1 h2).2;omega⟩
  have zD:=fin a ha DV
  have hfc:=fin c hc DW
  obtain⟨ok,aW⟩:∃ok:Bool,ok=true↔bO s/\bn s.sig a=true/\bn s.sig c=true:=by
   classical
   exact⟨decide (bO s/\bn s.sig a=true/\bn s.sig c=true),aH⟩
  have S5:=MU s jl a c ha hc aW
  refine bI ?_
  cases ok with
  |false=>
   have hn: ¬ (bO s/\bn s.sig a=true/\bn s.sig c=true):=fun h=>Bool.false_ne_true (aW.2 h)
   refine bw (PB s jl a c zD hfc hn) ?_
   refine bI ?_
   refine bw (PI s jl a c zD hfc hn) ?_
   refine bI ?_
   refine ak S5 rfl ?_
   refine bI ?_
   refine ak zj rfl ?_
   refine bI ?_
   refine ak zj rfl ?_
   exact Zf
  |true=>
   obtain⟨h,va,vc⟩:=aW.1 rfl
   obtain⟨f,e,b',hf,Q0⟩:=Hg h va vc
   have he:e=0\/e=5\/e=3:=by
    rcases Q0 with⟨h,_⟩|h|h
    ·exact .inl h
    ·exact .inr (.inl h)
    ·exact .inr (.inr h)
   obtain⟨bk,uM⟩:∃bk:Nt->Bool,∀n,bk n=true↔A1 b' n:=by
    classical
    exact⟨fun n=>decide (A1 b' n),fun n=>aH⟩
   obtain⟨bA,PJ⟩:∃bA:Bool,bA=true↔A1 (ah s.binds) ⟨a,c⟩:=by
    classical
    exact⟨decide (A1 (ah s.binds) ⟨a,c⟩),aH⟩
   obtain⟨l',ρ,R,hS,hl⟩:=oA h.kZ.keys h.kZ.ok h.kZ.I2
   obtain⟨fu,r,hr⟩:=y9 _ _ (bc (ah l') a) (bc (ah l') c) [] (Nat.le_refl _) (Nat.le_refl _) jh.nil (Vs.sub hl.bd a (b9 va).1) (Vs.sub hl.bd c (b9 vc).1)
   have t1:=MJ s jl a c zD hfc h va vc hf he (bk:=bk) (fun _ n _=>uM n)
   have t2:=Jc h va vc hf (bk:=bk) (fun _ n _=>uM n)
   have t3:=MT s jl a c zD hfc h va vc PJ hS hl hr
   have t4:=Jd h va vc PJ hS hl hr
   obtain⟨T,hT1,hT2,hT3⟩:=MV h hs.sig va vc hf (bk:=bk) (fun _ n _=>uM n)
   obtain⟨hD2,hD3⟩:=Fz h hs.sig va vc PJ r.2
   rw[hT1]at t1 t2
   generalize iP s ⟨a,c⟩ bA r.2=Dn at t3 t4 hD2 hD3
   generalize jV s bA r.2=w2 at t3 t4 hD3
   generalize fA e (s.aJ.any bk)=w1 at t1 t2 hT3
   refine bw t1 ?_
   refine bI ?_
   refine bw t3 ?_
   refine bI ?_
   refine ak S5 rfl ?_
   refine bI ?_
   refine bw t2 ?_
   refine bI ?_
   refine bw t4 ?_
   refine Yk ?_
   refine ak (bO.same hT2) rfl ?_
   refine Yk ?_
   refine ak (bO.same hD2) rfl ?_
   have sT:w1=0->aV Tryz.prog 22 [T.d] (.ret [.bool true]):=fun h0=>pX T (hT3 h0).2 ⟨fun _=>(hT3 h0).1,fun _=>rfl⟩
   have sD:w2=0->aV Tryz.prog 22 [Dn.d] (.ret [.bool true]):=fun h0=>pX Dn (hD3 h0).2 ⟨fun _=>(hD3 h0).1,fun _=>rfl⟩
   have WM:∀ (w:Int),(w=0/\(w !=0)=false)\/(w !=0)=true:=fun w=>by
    by_cases h0:w=0
    ·exact .inl ⟨h0,by rw[bne_eq_false_iff_eq];exact h0⟩
    ·exact .inr (by rw[bne_iff_ne];exact h0)
   rcases WM w1 with⟨h1,db⟩|db
   ·refine lT db ?_
    refine ak (sT h1) rfl ?_
    rcases WM w2 with⟨h2,eO⟩|eO
    ·refine lT eO ?_
     exact Qz
    ·refine lT eO ?_
     exact Zc
   ·rcases WM w2 with⟨h2,eO⟩|eO
    ·refine Bh db eO ?_
     exact Qz
    ·refine Bh db eO ?_
     exact Zc
end Go.Proofs.YtlhemmpklhhgoaaGreat
section
namespace Go.Proofs.YtlhemmpklhhgoaaGreat
open Go.ChangeShapes Go.WideShapes Go.RowKit
def xe(P:Program)(rec:TypeId->Option (List TypeId)):Nat->List Field->Option (List TypeId)
 |_,[]=>some []
 |off,f::fs=>if f.offset=off then match rec f.type with
  |some l=>if P.cellsOf f.type=l.length then(xe P rec (off+l.length) fs).map (l++·)else none
  |none=>none else none
def mI(P:Program):Nat->TypeId->Option (List TypeId)
 |0,_=>none
 |n+1,t=>match P.underlying t with
  |some .bool|some (.int _)|some .string|some (.slice _)=>some [t]
  |some (.struct fs)=>xe P (mI P n) 0 fs.toList
  |some (.array k e)=>match mI P n e with
   |some l=>if P.cellsOf e=l.length then some (List.replicate k l).flatten else none
   |none=>none
  |_=>none
def isAgg(P:Program)(t:TypeId):Bool:=match P.underlying t with
 |some (.struct _)|some (.array _ _)=>true
 |_=>false
mutual
def D.iQ (P:Program):D->TypeId->Prop
 | .int k n,t=>P.underlying t=some (.int k)/\(Lit.int k n).wf=true
 | .bool _,t=>P.underlying t=some .bool
 | .str l,t=>P.underlying t=some .string/\l.length<=maxLen
 | .sl es,t=>∃e,P.underlying t=some (.slice e)/\es.length<=maxLen/\D.Jf P es e
 | .agg cs,t=>isAgg P t=true/\∃ls,mI P 20 t=some ls/\D.iR P cs ls
 |_,_=>False
def D.Jf (P:Program):List D->TypeId->Prop
 |[],_=>True
 |x::l,e=>D.iQ P x e/\D.Jf P l e
def D.iR (P:Program):List D->List TypeId->Prop
 |[],ts=>ts=[]
 |x::l,ts=>∃t r,ts=t::r/\D.iQ P x t/\D.iR P l r
end
def uP(P:Program)(T:List TypeId):Bool:=T.all fun t=>match mI P 20 t with
 |some l=>decide (l.length=P.cellsOf t)&&decide (0<l.length)&&l.all fun u=>match P.underlying u with
  |some (.slice e)=>T.contains e
  |_=>true
 |none=>false
theorem rA{P:Program}:∀ {xs ys:List D} {l r:List TypeId},D.iR P xs l->D.iR P ys r->D.iR P (xs++ys) (l++r)
 |[],_,_,_,h,h'=>by simp only[D.iR]at h;subst h;exact h'
 |x::xs,_,_,_,h,h'=>by
  obtain⟨t,r,rfl,h1,h2⟩:=h
  exact⟨t,_,rfl,h1,rA h2 h'⟩
theorem bz{B:Nat->Prop}{w:World}:∀ {xs ys:List D} {l r:List Value},D.aD B w xs l->D.aD B w ys r->D.aD B w (xs++ys) (l++r)
 |[],_,_,_,h,h'=>by simp only[D.aD]at h;subst h;exact h'
 |x::xs,_,_,_,h,h'=>by
  obtain⟨t,r,rfl,h1,h2⟩:=h
  exact⟨t,_,rfl,h1,bz h2 h'⟩
theorem Flat.append {l r:List Value}(h:Flat l)(h':Flat r):Flat (l++r):=fun u hu=>(List.mem_append.1 hu).elim (h u) (h' u)
abbrev WN:Nat->Prop:=fun _=>False
section
variable {H:Type}{enc:TypeId×Value->H}{P:Program}{W:World}{T:List TypeId}{b0:Nat}
def dA(P:Program)(W:World)(l:List TypeId)(cs:List Value):Prop:=∃xs,D.iR P xs l/\D.aD WN W xs cs/\Flat cs
theorem dA.append {l r:List TypeId}{cs ds:List Value}(h:dA P W l cs)(h':dA P W r ds):dA P W (l++r) (cs++ds):=by
 obtain⟨xs,a1,a2,a3⟩:=h
 obtain⟨ys,b1,b2,b3⟩:=h'
 exact⟨xs++ys,rA a1 b1,bz a2 b2,a3.append b3⟩
theorem dA.length {l:List TypeId}{cs:List Value}(h:dA P W l cs):cs.length=l.length:=by
 obtain⟨xs,a1,a2,_⟩:=h
 rw[D.aB _ _ a2]
 clear a2
 induction xs generalizing l with
 |nil=>simp only[D.iR]at a1;simp[a1]
 |cons x xs ih=>obtain⟨t,r,rfl,_,h⟩:=a1;simp[ih h]
theorem dA.nil:dA P W [] []:=⟨[],rfl,rfl,fun _ h=>by cases h⟩
theorem DM{α:Type}(cs:List α)(o k:Nat):cs.drop o=(cs.drop o).take k++cs.drop (o+k):=by
 rw[<- List.drop_drop];exact(List.take_append_drop k _).symm
theorem rB{rec:TypeId->Option (List TypeId)}{cs:List Value}{rd:TypeId->List Value->Prop}
 (bg:∀t l vs,rec t=some l->(∀u∈l,∀e,P.underlying u=some (.slice e)->e∈T)->P.cellsOf t=l.length->rd t vs->dA P W l vs):
 ∀ (fs:List Field) (off:Nat) (l:List TypeId),xe P rec off fs=some l->(∀u∈l,∀e,P.underlying u=some (.slice e)->e∈T)->(∀f∈fs,rd f.type ((cs.drop f.offset).take (P.cellsOf f.type)))->
   off+l.length=cs.length->dA P W l (cs.drop off)
 |[],off,l,h,_,_,hl=>by
  simp only[xe,Option.some.injEq]at h
  subst h
  have:cs.drop off=[]:=List.drop_eq_nil_of_le (by simp at hl;omega)
  rw[this];exact dA.nil
 |f::fs,off,l,h,hT,hr,hl=>by
  simp only[xe]at h
  split at h
  ·rename_i ho
   split at h
   ·rename_i l1 h1
    split at h
    ·rename_i hc
     simp only[Option.map_eq_some_iff]at h
     obtain⟨r,h2,rfl⟩:=h
     have hd:=hr f aH
     rw[ho,hc]at hd
     rw[DM cs off l1.length]
     simp only[List.length_append]at hl
     exact(bg f.type l1 _ h1 (fun u hu=>hT u (by simp[hu])) hc hd).append (rB bg fs _ r h2 (fun u hu=>hT u (by simp[hu])) (fun f hf=>hr f (by simp[hf])) af)
    ·cases h
   ·cases h
  ·cases h
theorem tN{l:List TypeId}{cs:List Value}:∀ (k i:Nat),(∀j,j<k->dA P W l ((cs.drop ((i+j)*l.length)).take l.length))->(i+k)*l.length=cs.length->dA P W (List.replicate k l).flatten (cs.drop (i*l.length))
 |0,i,_,hl=>by
  have:cs.drop (i*l.length)=[]:=List.drop_eq_nil_of_le (by simp at hl;omega)
  rw[this];exact dA.nil
 |k+1,i,h,hl=>by
  rw[List.replicate_succ,List.flatten_cons,DM cs (i*l.length) l.length]
  refine(by simpa using h 0 af:dA P W l _).append ?_
  rw[show i*l.length+l.length=(i+1)*l.length by rw[Nat.add_mul];omega]
  refine tN k (i+1) (fun j hj=> ?_) (by rw[<- hl];congr 1;omega)
  have:=h (j+1) af
  rwa [show i+(j+1)=i+1+j by omega]at this
theorem DN{e:TypeId}{l:List TypeId}{cs:List Value}(hl:mI P 20 e=some l)(h:dA P W l cs):∃ (ev:Value) (x:D),ev.cells.toList=cs/\D.iQ P x e/\D.den WN W x ev/\(isAgg P e=true->ev= .agg cs.toArray)/\(isAgg P e=false->cs=[ev]/\ev.oneCell'=true):=by
 obtain⟨xs,h1,h2,h3⟩:=h
 cases ha:isAgg P e with
 |true=>exact⟨.agg cs.toArray, .agg xs,by simp[Value.cells],⟨ha,l,hl,h1⟩,⟨_,rfl,by simpa using h2,by simpa using h3⟩,fun _=>rfl,(fun h=>by cases h)⟩
 |false=>
  have:l=[e]:=by
   unfold mI at hl
   unfold isAgg at ha
   split at hl<;>simp_all
  subst this
  obtain⟨t,r,e1,h4,h5⟩:∃x r,xs=x::r/\D.iQ P x e/\D.iR P r []:=by
   cases xs with
   |nil=>simp[D.iR]at h1
   |cons x r=>obtain⟨t,r',e1,h4,h5⟩:=h1;injection e1 with e1 e2;subst e1;subst e2;exact⟨x,r,rfl,h4,h5⟩
  subst e1
  have:r=[]:=by cases r with
   |nil=>rfl
   |cons y r=>obtain⟨_,_,e,_⟩:=h5;cases e
  subst this
  obtain⟨u,us,rfl,h6,h7⟩:=h2
  simp only[D.aD]at h7
  subst h7
  have ho:=h3 u aH
  refine⟨u,t, ?_,h4,h6,(fun h=>by cases h),fun _=>⟨rfl,ho⟩⟩
  cases u<;>simp_all[Value.oneCell',Value.cells]
theorem DO(hp:uP P T=true){t:TypeId}(ht:t∈T):∃l,mI P 20 t=some l/\l.length=P.cellsOf t/\0<l.length/\∀u∈l,∀e,P.underlying u=some (.slice e)->e∈T:=by
 have:=List.all_eq_true.1 hp t ht
 split at this
 ·rename_i l hl
  simp only[Bool.and_eq_true,decide_eq_true_eq,List.all_eq_true]at this
  refine⟨l,hl,this.1.1,this.1.2,fun u hu e he=> ?_⟩
  have:=this.2 u hu
  rw[he]at this
  simpa using this
 ·cases this
theorem FA(hp:uP P T=true):∀ (n m:Nat) (t:TypeId) (l:List TypeId) (cs:List Value) (x:DataW H×List MemPlace),mI P m t=some l->(∀u∈l,∀e,P.underlying u=some (.slice e)->e∈T)->
 P.cellsOf t=l.length->DataW.trod enc P W 0 (fun _=>true) true n t cs=some x->dA P W l cs:=by
 intro n
 induction n with
 |zero=>intro m t l cs x _ _ _ h;simp[DataW.trod]at h
 |succ n ih=>
  intro m t l cs x hl hT hc h
  cases m with
  |zero=>simp[mI]at hl
  |succ m=>
  unfold mI at hl
  split at hl
  ·rename_i hu
   injection hl with hl;subst hl
   obtain⟨b,rfl,_⟩:=DataW.trod_bool hu h
   exact⟨[.bool b],⟨t,[],rfl,hu,rfl⟩,⟨_,_,rfl,rfl,rfl⟩,by simp[Flat,Value.oneCell']⟩
  ·rename_i k hu
   injection hl with hl;subst hl
   obtain⟨b,rfl,_,hw⟩:=DataW.trod_int hu h
   exact⟨[.int k b],⟨t,[],rfl,⟨hu,hw⟩,rfl⟩,⟨_,_,rfl,rfl,rfl⟩,by simp[Flat,Value.oneCell']⟩
  ·rename_i hu
   injection hl with hl;subst hl
   obtain⟨s,rfl,_,hw⟩:=DataW.trod_string hu h
   exact⟨[.str s.data.toList],⟨t,[],rfl,⟨hu,by simpa using hw⟩,rfl⟩,⟨_,_,rfl,⟨s,rfl,rfl⟩,rfl⟩,by simp[Flat,Value.oneCell']⟩
  ·rename_i e hu
   injection hl with hl;subst hl
   rcases DataW.trod_slice hu h with⟨rfl,_⟩|⟨a,len,cap,elems,rest,n',hn,rfl,_,_,h2,h3,h4,h5,h6,_⟩
   ·exact⟨[.sl []],⟨t,[],rfl,⟨e,hu,aH,trivial⟩,rfl⟩,⟨_,_,rfl,⟨none,0,0,rfl,rfl,aH,fun _=>rfl,0,(fun a ha=>by cases ha)⟩,rfl⟩,by simp[Flat,Value.oneCell']⟩
   ·injection hn with hn;subst hn
    obtain⟨l',g1,g2,g3,g4⟩:=DO hp (hT t aH e hu)
    have at':∀i,i<len->∃ev:Value,∃y:D,ev.cells.size=P.cellsOf e/\gL WN W (a.add (i*P.cellsOf e)) ev.cells/\D.den WN W y ev/\D.iQ P y e:=by
     intro i hi
     have:=h5 i hi
     rw[List.getElem?_eq_getElem (by omega)]at this
     obtain⟨ci,k1,k2⟩:=Option.bind_eq_some_iff.1 this
     obtain⟨_,k3,k4⟩:=World.cells?_some k1
     have k5:=ih 20 e l' ci _ g1 g4 g2.symm k2
     obtain⟨ev,y,q1,q2,q3,_,_⟩:=DN g1 k5
     have q4:ev.cells=ci.toArray:=by rw[<- q1]
     refine⟨ev,y,by rw[q4];simp[k5.length,g2],fun j u hj=>⟨?_,fun h=>h⟩,q3,q2⟩
     rw[q4]at hj
     have Jk:ci[j]? =some u:=by simpa using hj
     have ck:j<P.cellsOf e:=by rw[<- g2, <- k5.length];exact(List.getElem?_eq_some_iff.1 Jk).1
     rw[k4 j ck];exact Jk
    have list:∀k i,i+k=len->∃es,es.length=k/\D.Jf P es e/\D.elems WN W (P.cellsOf e) a i es:=by
     intro k
     induction k with
     |zero=>intro i _;exact⟨[],rfl,trivial,trivial⟩
     |succ k Dp=>
      intro i hi
      obtain⟨es,e1,e2,e3⟩:=Dp (i+1) af
      obtain⟨ev,y,y1,y2,y3,y4⟩:=at' i af
      exact⟨y::es,by simp[e1],⟨y4,e2⟩,⟨ev,y1,y2,y3⟩,e3⟩
    obtain⟨es,e1,e2,e3⟩:=list len 0 af
    have adg:cap≠0->a.spot=none:=by
     intro fE
     have S6:∀z,(W.cells? 0 (a.add (0*P.cellsOf e)) (P.cellsOf e)).bind (DataW.trod enc P W 0 (fun _=>true) true n e)=some z->a.spot=none:=by
      intro z hz
      obtain⟨ci,k1,k2⟩:=Option.bind_eq_some_iff.1 hz
      obtain⟨_,k3,k4⟩:=World.cells?_some k1
      have k5:=k4 0 af
      rw[List.getElem?_eq_getElem (by omega)]at k5
      simpa[Addr.add]using World.cell?_spot k5
     by_cases hlen:0<len
     ·have:=h5 0 hlen
      rw[List.getElem?_eq_getElem (by omega)]at this
      exact S6 _ this
     ·obtain⟨h7,h8⟩:=h6 rfl
      have:=h8 0 af
      rw[List.getElem?_eq_getElem (by omega),show(len+0)=0 by omega]at this
      exact S6 _ this
    exact⟨[.sl es],⟨t,[],rfl,⟨e,hu,af,e2⟩,rfl⟩,⟨_,_,rfl,⟨some a,len,cap,rfl,e1.symm,h2,(fun h=>by cases h),P.cellsOf e,(fun a' Md=>by injection Md with Md;subst Md;exact⟨adg,e3⟩)⟩,rfl⟩,by simp[Flat,Value.oneCell']⟩
  ·rename_i fs hu
   obtain⟨xs,n',hn,_,h2,h3,h4⟩:=DataW.trod_struct hu h
   injection hn with hn;subst hn
   have:=rB (P:=P) (W:=W) (T:=T) (cs:=cs) (rd:=fun t vs=>∃y,DataW.trod enc P W 0 (fun _=>true) true n t vs=some y) (rec:=mI P m) (fun t l vs q1 q2 q3 ⟨y,q4⟩=>ih m t l vs y q1 q2 q3 q4) fs.toList 0 l hl hT ?_ af
   ·simpa using this
   ·intro f hf
    obtain⟨i,hi,hfi⟩:=List.getElem_of_mem hf
    have:=h4 i f (by simp at hi;simp[<- hfi,Array.getElem?_eq_getElem hi])
    rw[List.getElem?_eq_getElem (by simp at hi;omega)]at this
    exact⟨_,this⟩
  ·rename_i k e hu
   split at hl
   ·rename_i l' Gb
    split at hl
    ·rename_i hce
     injection hl with hl;subst hl
     obtain⟨xs,n',hn,_,h2,h3,h4⟩:=DataW.trod_array hu h
     injection hn with hn;subst hn
     have hlen:cs.length=k*l'.length:=by rw[h2,hc];simp
     have hT':0<k->∀u∈l',∀e,P.underlying u=some (.slice e)->e∈T:=fun hk u hu=>hT u (List.mem_flatten.2 ⟨l',List.mem_replicate.2 ⟨af,rfl⟩,hu⟩)
     have:=tN (P:=P) (W:=W) (l:=l') (cs:=cs) k 0 (fun j hj=> ?_) (by rw[hlen];simp)
     ·simpa using this
     ·have:=h4 j hj
      rw[hce,List.getElem?_eq_getElem (by omega)]at this
      rw[Nat.zero_add]
      exact ih m e l' _ _ Gb (hT' af) hce this
    ·cases hl
   ·cases hl
  ·cases hl
theorem zp(hp:uP P T=true):∀ (ts:List TypeId) (vs:List Value) (ds:List (DataW H)) (p:List MemPlace),(∀t∈ts,t∈T)->DataW.TrodAll enc P W 0 (fun _=>true) true ts vs ds p->
 (∀ (j:Nat) t v,ts[j]? =some t->vs[j]? =some v->Value.okWide P W .any b0 t v)->∃xs,D.iR P xs ts/\D.aD WN W xs vs
 |[],vs,ds,p,_,h,_=>by
  obtain⟨rfl,rfl,rfl⟩:=trodAll_nil h
  exact⟨[],rfl,rfl⟩
 |t::ts,vs,ds,p,hT,h,hv=>by
  obtain⟨v,vs',d,Z4,p1,q1,rfl,rfl,rfl,⟨n,h1⟩,h2⟩:=trodAll_cons h
  obtain⟨xs,a1,a2⟩:=zp hp ts vs' Z4 q1 (fun t ht=>hT t (by simp[ht])) h2 (fun j t v h1 h2=>hv (j+1) t v (by simpa using h1) xW)
  obtain⟨l,g1,g2,g3,g4⟩:=DO hp (hT t aH)
  obtain⟨ev,x,q1,q2,q3,q4,q5⟩:=DN g1 (FA hp n 20 t l _ _ g1 g4 g2.symm h1)
  have aW:=hv 0 t v rfl rfl
  have:ev=v:=by
   cases ha:isAgg P t with
   |true=>
    have:∃cs,v= .agg cs:=by
     unfold isAgg at ha
     unfold Value.okWide at aW
     split at ha
     ·rename_i hu;rw[hu]at aW;obtain⟨cs,rfl,_⟩:=aW;exact⟨cs,rfl⟩
     ·rename_i hu;rw[hu]at aW;obtain⟨cs,rfl,_⟩:=aW;exact⟨cs,rfl⟩
     ·cases ha
    obtain⟨cs,rfl⟩:=this
    rw[q4 ha]
    simp[Value.cells]
   |false=>
    obtain⟨q6,q7⟩:=q5 ha
    cases v with
    |agg cs=>
     exfalso
     unfold isAgg at ha
     unfold Value.okWide at aW
     split at aW
     ·rename_i hu;rw[hu]at ha;cases ha
     ·rename_i hu;rw[hu]at ha;cases ha
     ·unfold Cell.okWide at aW
      split at aW
      case h_8=>
       unfold Cell.ok at aW
       split at aW<;>first|exact aW|contradiction
      all_goals contradiction
    |_=>simp only[Value.cells,List.cons.injEq,and_true]at q6;exact q6.symm
  subst this
  exact⟨x::xs,⟨t,ts,rfl,q2,a1⟩,⟨_,_,rfl,q3,a2⟩⟩
theorem eo.below {w w':World}(h:eo (fun _=>False) w w'):Below w.heap.size w w':=⟨h.os,h.tape,h.output,h.size,fun k hk=>h.block k hk (fun h=>h)⟩
theorem zq(hl:laidOutB P=true){W':World}{sp:Nat->Bool}:∀ {ts:List TypeId} {vs:List Value} {ds:List (DataW H)} {p:List MemPlace},(∀t∈ts,P.readableRec t=true/\t<P.types.size)->DataW.TrodAll enc P W 0 (fun _=>true) true ts vs ds p->
 (∀x∈p,W.sameAt W' x/\sp x.block=true)->DataW.TrodAll enc P W' 0 sp true ts vs ds p
 |[],vs,ds,p,_,h,_=>by
  obtain⟨rfl,rfl,rfl⟩:=trodAll_nil h
  exact trodAll_mk0
 |t::ts,vs,ds,p,hr,h,hs=>by
  obtain⟨v,vs',d,Z4,p1,q1,rfl,rfl,rfl,h1,h2⟩:=trodAll_cons h
  exact⟨p1,q1,WideElems.Trod_stays hl (hr t aH).1 (hr t aH).2 h1 (fun x hx=>(hs x oT).1) (fun x hx=>(hs x oT).2),zq hl (fun t ht=>hr t (by simp[ht])) h2 (fun x hx=>hs x oT),rfl⟩
theorem MW{sp:Nat->Bool}:∀ {ts:List TypeId} {vs:List Value} {ds:List (DataW H)} {ps:List MemPlace},DataW.TrodAll enc P W 0 sp true ts vs ds ps->ds.length=ts.length
 |[],_,_,_,h=>by obtain⟨_,rfl,_⟩:=trodAll_nil h;rfl
 |_::_,_,_,_,h=>by
  obtain⟨_,_,_,_,_,_,_,rfl,_,_,h2⟩:=trodAll_cons h
  simp[MW h2]
theorem Bg{f:FuncId}{fn:Func}{s:ChangeSpec}{tb:TypeId}{fresh handsOn again:Bool}(Ce:fn.resultTypes=#[tb])(Js:P.underlying tb=some .bool)(S7:s.vars=[])
 (MX:∀ds:List (DataW H),ds.length=fn.params.toList.length->s.fn H ds={results:=[.lit (.bool true)],args:=ds}) (hp:uP P T=true) (hT:∀t∈fn.params.toList,t∈T) (hl:laidOutB P=true)
 (hr:∀t∈fn.params.toList,P.readableRec t=true/\t<P.types.size) (law:∀xs,D.iR P xs fn.params.toList->aV P f xs (.ret [.bool true]))
 (base:Nat) (args:Array Value) (ds gs:List (DataW H)) (before:List MemPlace)
 (fK:∀ (j:Nat) t v,fn.params[j]? =some t->args[j]? =some v->Value.okWide P W .any base t v) (hW:DataW.Whole enc P fn.params.toList s.vars false W args.toList ds gs before):
 Calls P f args W fun e W'=>∃v,e= .returned v/\s.post enc P fn false fresh handsOn again W args v W':=by
 have hW':=hW
 obtain⟨p,q,hA,hV,rfl,hfz,zZ⟩:=hW
 rw[S7]at hV
 obtain⟨rfl,rfl⟩:=trodVars_none hV
 obtain⟨xs,a1,a2⟩:=zp (b0:=base) hp fn.params.toList args.toList ds p hT hA (fun j t v h1 h2=>fK j t v (by simpa using h1) xW)
 refine((law xs a1).2 WN W args (fun _ h=>h.elim) a2).mono fun e W' ⟨hk,ho⟩=> ?_
 have hb:=hk.below
 cases e with
 |panicked ch=>exact ho.elim
 |outgrown=>exact ho.elim
 |returned v=>
  simp only[R.is,D.den]at ho
  subst ho
  refine⟨_,rfl, ?_⟩
  have hlen:ds.length=fn.params.toList.length:=(MW hA)
  have hold:∀x∈p,x.block<W.heap.size:=fun x hx=>by simpa using hW'.lt x xX
  have dF:∀sp:Nat->Bool,(∀x∈p,sp x.block=true)->DataW.TrodAll enc P W' 0 sp true fn.params.toList args.toList ds p:=fun sp QW=>zq hl hr hA fun x hx=>⟨hb.same (hold x hx),QW x hx⟩
  have S8:∀ (b:Nat) (sp:Nat->Bool) (hd:Bool),DataW.TrodAll enc P W' b sp hd fn.resultTypes.toList ((Value.bool true).resultList fn.resultTypes.size) [.lit (.bool true)] []:=fun b sp hd=>by
   rw[Ce]
   exact trodAll_cons_mk (p:=[]) (p':=[]) ⟨1,by simp[DataW.trod,Value.cells,Js]⟩ trodAll_mk0
  have MY:∀sp:Nat->Bool,DataW.TrodVars enc P W' sp s.vars [] []:=fun sp=>by rw[S7];rfl
  refine⟨ds,[],p++[],[],p,[],hW', ?_, ?_, ?_,World.keptBut_mono (fun _ h=>h.elim) (hb.frame (fun _=>False)),fun _=>⟨?_,[.lit (.bool true)]++ds,[],([]++p)++[],⟨[]++p,[],trodAll_append (dF _ fun _ _=>rfl) (S8 0 (fun _=>true) true),MY _,rfl, ?_,(fun h=>by cases h)⟩,fun x hx _=>by simpa using hx⟩⟩
  ·rw[List.append_nil,MX ds hlen];exact S8 _ _ _
  ·rw[List.append_nil,MX ds hlen];exact dF _ fun x hx=>by simpa using hold x hx
  ·rw[List.append_nil,MX ds hlen];exact MY _
  ·intro j t r h1 h2
   rw[Ce]at h1 h2
   match j,h1,h2 with
   |0,h1,h2=>
    simp[Value.resultList]at h1 h2
    subst h1;subst h2
    simp[Value.okWide,Js,Cell.okWide,Cell.ok]
  ·intro b off hx
   rw[hb.frozen (by simpa[MemPlace.block]using hold _ (by simpa using hx))]
   exact hfz b off xX
end
section
variable {P:Program}{t e:TypeId}{x:D}
theorem DP{k:IntKind}(ht:P.underlying t=some (.int k))(h:D.iQ P x t):∃n,x= .int k n/\(Lit.int k n).wf=true:=by
 cases x<;>simp only[D.iQ]at h
 case int k' n=>
  rw[ht]at h
  obtain⟨h1,h2⟩:=h
  injection h1 with h1;injection h1 with h1;subst h1
  exact⟨n,rfl,h2⟩
 case bool=>rw[ht]at h;cases h
 case str=>rw[ht]at h;cases h.1
 case sl=>obtain⟨e,h,_⟩:=h;rw[ht]at h;cases h
 case agg=>have:=h.1;unfold isAgg at this;rw[ht]at this;cases this
theorem MZ(ht:P.underlying t=some .string)(h:D.iQ P x t):∃l,x= .str l/\l.length<=maxLen:=by
 cases x<;>simp only[D.iQ]at h
 case int k' n=>rw[ht]at h;cases h.1
 case bool b=>rw[ht]at h;cases h
 case str l=>exact⟨l,rfl,h.2⟩
 case sl=>obtain⟨e,h,_⟩:=h;rw[ht]at h;cases h
 case agg=>have:=h.1;unfold isAgg at this;rw[ht]at this;cases this
theorem kF(ht:P.underlying t=some (.slice e))(h:D.iQ P x t):∃es,x= .sl es/\es.length<=maxLen/\D.Jf P es e:=by
 cases x<;>simp only[D.iQ]at h
 case int k' n=>rw[ht]at h;cases h.1
 case bool b=>rw[ht]at h;cases h
 case str l=>rw[ht]at h;cases h.1
 case sl es=>
  obtain⟨e',h,h2,h3⟩:=h
  rw[ht]at h;injection h with h;injection h with h;subst h
  exact⟨es,rfl,h2,h3⟩
 case agg=>have:=h.1;unfold isAgg at this;rw[ht]at this;cases this
theorem lR{ls:List TypeId}(ha:isAgg P t=true)(hl:mI P 20 t=some ls)(h:D.iQ P x t):∃cs,x= .agg cs/\D.iR P cs ls:=by
 have no:∀u,P.underlying t=some u->(∀fs,u≠ .struct fs)->(∀k e,u≠ .array k e)->False:=by
  intro u hu h1 h2
  unfold isAgg at ha
  rw[hu]at ha
  split at ha
  ·rename_i e;injection e with e;exact h1 _ e
  ·rename_i e;injection e with e;exact h2 _ _ e
  ·cases ha
 cases x<;>simp only[D.iQ]at h
 case int k' n=>exact(no _ h.1 (fun _ h=>by cases h) (fun _ _ h=>by cases h)).elim
 case bool b=>exact(no _ h (fun _ h=>by cases h) (fun _ _ h=>by cases h)).elim
 case str l=>exact(no _ h.1 (fun _ h=>by cases h) (fun _ _ h=>by cases h)).elim
 case sl es=>obtain⟨e',h,_⟩:=h;exact(no _ h (fun _ h=>by cases h) (fun _ _ h=>by cases h)).elim
 case agg cs=>
  obtain⟨_,ls',h1,h2⟩:=h
  rw[hl]at h1;injection h1 with h1;subst h1
  exact⟨cs,rfl,h2⟩
theorem a7{t:TypeId}{ts:List TypeId}{cs:List D}(h:D.iR P cs (t::ts)):∃x xs,cs=x::xs/\D.iQ P x t/\D.iR P xs ts:=by
 cases cs with
 |nil=>simp[D.iR]at h
 |cons x xs=>obtain⟨_,_,e,h1,h2⟩:=h;injection e with e1 e2;subst e1;subst e2;exact⟨x,xs,rfl,h1,h2⟩
theorem iD{cs:List D}(h:D.iR P cs []):cs=[]:=by
 cases cs with
 |nil=>rfl
 |cons x xs=>obtain⟨_,_,e,_⟩:=h;cases e
theorem iS{α:Type}{f:α->D}{q:α->Prop}(hf:∀x,D.iQ P x e->∃a,x=f a/\q a):∀ (es:List D),D.Jf P es e->∃l:List α,es=l.map f/\∀a∈l,q a
 |[],_=>⟨[],rfl,fun _ h=>by cases h⟩
 |x::es,h=>by
  obtain⟨a,rfl,h1⟩:=hf x h.1
  obtain⟨l,rfl,h2⟩:=iS hf es h.2
  exact⟨a::l,rfl,fun b hb=>(List.mem_cons.1 hb).elim (fun e=>e ▸ h1) (h2 b)⟩
end
end Go.Proofs.YtlhemmpklhhgoaaGreat
end
section
namespace Go.Proofs.YtlhemmpklhhgoaaGreat
open Go.ChangeShapes Go.WideShapes Go.RowKit
theorem la:maxLen<=9223372036854775807:=bD
theorem tO{x:D}(h:D.iQ Tryz.prog x 3):∃n:Int,x= .i n:=by
 obtain⟨n,h,_⟩:=DP undT_3 h
 exact⟨n,h⟩
theorem PK{x:D}(h:D.iQ Tryz.prog x 30):∃n:Int,x= .i n:=by
 obtain⟨n,h,_⟩:=DP undT_30 h
 exact⟨n,h⟩
theorem adh{x:D}(h:D.iQ Tryz.prog x 124):∃r:ef,x=r.d/\r.name.length<=9223372036854775807:=by
 obtain⟨cs,rfl,hh⟩:=lR ai (ls:=[9,3]) ai h
 clear h;have h:=hh;clear hh
 obtain⟨a,cs,rfl,ha,h⟩:=a7 h
 obtain⟨b,cs,rfl,hb,h⟩:=a7 h
 have:=iD h;subst this
 obtain⟨l,rfl,hl⟩:=MZ ai ha
 obtain⟨n,rfl⟩:=tO hb
 exact⟨⟨l,n⟩,rfl,by have:=la;simp only;omega⟩
theorem M0:∀ (n:Nat) (x:D),SizeOf.sizeOf x<=n->D.iQ Tryz.prog x 33->∃t:Tm,x=t.d/\t.fits:=by
 intro n
 induction n with
 |zero=>intro x hx _;cases x<;>simp at hx
 |succ n ih=>
  intro x hx h
  obtain⟨cs,rfl,hh⟩:=lR ai (ls:=[30,3,31]) ai h
  clear h;have h:=hh;clear hh
  obtain⟨a,cs,rfl,ha,h⟩:=a7 h
  obtain⟨b,cs,rfl,hb,h⟩:=a7 h
  obtain⟨c,cs,rfl,hc,h⟩:=a7 h
  have:=iD h;subst this
  obtain⟨o,rfl⟩:=PK ha
  obtain⟨m,rfl⟩:=tO hb
  obtain⟨es,rfl,h1,h2⟩:=kF undT_31 hc
  have F7:SizeOf.sizeOf es<=n:=by simp at hx;omega
  have:∀es:List D,SizeOf.sizeOf es<=n->D.Jf Tryz.prog es 33->∃l:List Tm,es=l.map Tm.d/\∀k∈l,k.fits:=by
   intro es
   induction es with
   |nil=>intro _ _;exact⟨[],rfl,fun _ h=>by cases h⟩
   |cons y es ihe=>
    intro hs h
    simp at hs
    obtain⟨t,rfl,ht⟩:=ih y af h.1
    obtain⟨l,rfl,hl⟩:=ihe af h.2
    exact⟨t::l,rfl,fun b hb=>(List.mem_cons.1 hb).elim (fun e=>e ▸ ht) (hl b)⟩
  obtain⟨l,rfl,hl⟩:=this es F7 h2
  refine⟨.mk o m l,by rw[Tm.K7], ?_⟩
  rw[Tm.bT]
  exact Qi
theorem PL{x:D}(h:D.iQ Tryz.prog x 33):∃t:Tm,x=t.d/\t.fits:=M0 _ x (Nat.le_refl _) h
end Go.Proofs.YtlhemmpklhhgoaaGreat
end
section
namespace Go.Proofs.YtlhemmpklhhgoaaGreat
open Go.ChangeShapes Go.WideShapes Go.RowKit
theorem afn{x:D}(h:D.iQ Tryz.prog x 59):∃b:TB,x=b.d/\b.term.fits:=by
 obtain⟨cs,rfl,hh⟩:=lR ai (ls:=[3,30,3,31]) ai h
 clear h;have h:=hh;clear hh
 obtain⟨v,cs,rfl,hv,h⟩:=a7 h
 obtain⟨a,cs,rfl,ha,h⟩:=a7 h
 obtain⟨b,cs,rfl,hb,h⟩:=a7 h
 obtain⟨c,cs,rfl,hc,h⟩:=a7 h
 have:=iD h;subst this
 obtain⟨k,rfl⟩:=tO hv
 obtain⟨o,rfl⟩:=PK ha
 obtain⟨m,rfl⟩:=tO hb
 obtain⟨es,rfl,h1,h2⟩:=kF undT_31 hc
 obtain⟨l,rfl,hl⟩:=iS (fun x h=>PL h) es h2
 refine⟨⟨k, .mk o m l⟩,rfl, ?_⟩
 rw[Tm.bT]
 exact Qi
theorem PM{x:D}(h:D.iQ Tryz.prog x 25):∃l:List TB,x= .sl (l.map TB.d)/\(l.length<=9223372036854775807/\∀b∈l,b.term.fits):=by
 obtain⟨es,rfl,h1,h2⟩:=kF undT_25 h
 obtain⟨l,rfl,hl⟩:=iS (fun x h=>afn h) es h2
 exact⟨l,rfl,by have:=la;simp at h1;omega,hl⟩
end Go.Proofs.YtlhemmpklhhgoaaGreat
end
section
namespace Go.Proofs.YtlhemmpklhhgoaaGreat
open Go.ChangeShapes Go.WideShapes Go.RowKit
theorem M3{x:D}(h:D.iQ Tryz.prog x 31):∃l:List Tm,x= .sl (l.map Tm.d)/\l.length<=9223372036854775807/\∀t∈l,t.fits:=by
 obtain⟨es,rfl,h1,h2⟩:=kF undT_31 h
 obtain⟨l,rfl,hl⟩:=iS (fun x h=>PL h) es h2
 have:=la
 exact⟨l,rfl,by simp at h1;omega,hl⟩
theorem afo{x:D}(h:D.iQ Tryz.prog x 101):∃n:Nt,x=n.d/\n.a.fits/\n.b.fits:=by
 obtain⟨cs,rfl,hh⟩:=lR ai (ls:=[30,3,31,30,3,31]) ai h
 clear h;have h:=hh;clear hh
 obtain⟨a,cs,rfl,ha,h⟩:=a7 h
 obtain⟨b,cs,rfl,hb,h⟩:=a7 h
 obtain⟨c,cs,rfl,hc,h⟩:=a7 h
 obtain⟨d,cs,rfl,hd,h⟩:=a7 h
 obtain⟨e,cs,rfl,he,h⟩:=a7 h
 obtain⟨f,cs,rfl,hf,h⟩:=a7 h
 have:=iD h;subst this
 obtain⟨o1,rfl⟩:=PK ha
 obtain⟨n1,rfl⟩:=tO hb
 obtain⟨k1,rfl,l1,l2⟩:=M3 hc
 obtain⟨o2,rfl⟩:=PK hd
 obtain⟨n2,rfl⟩:=tO he
 obtain⟨k2,rfl,l3,l4⟩:=M3 hf
 exact⟨⟨.mk o1 n1 k1, .mk o2 n2 k2⟩,rfl,(Tm.bT _).2 ⟨l1,l2⟩,(Tm.bT _).2 ⟨l3,l4⟩⟩
theorem afp{x:D}(h:D.iQ Tryz.prog x 77):∃m:Int×Int,x=rM m/\True:=by
 obtain⟨cs,rfl,hh⟩:=lR ai (ls:=[3,3]) ai h
 clear h;have h:=hh;clear hh
 obtain⟨a,cs,rfl,ha,h⟩:=a7 h
 obtain⟨b,cs,rfl,hb,h⟩:=a7 h
 have:=iD h;subst this
 obtain⟨n1,rfl⟩:=tO ha
 obtain⟨n2,rfl⟩:=tO hb
 exact⟨(n1,n2),rfl,trivial⟩
theorem adi{x:D}(h:D.iQ Tryz.prog x 29):∃s:c6,x=s.d/\s.Fits:=by
 obtain⟨cs,rfl,hh⟩:=lR ai (ls:=[22,22,25,26,27]) ai h
 clear h;have h:=hh;clear hh
 obtain⟨a,cs,rfl,ha,h⟩:=a7 h
 obtain⟨b,cs,rfl,hb,h⟩:=a7 h
 obtain⟨c,cs,rfl,hc,h⟩:=a7 h
 obtain⟨d,cs,rfl,hd,h⟩:=a7 h
 obtain⟨e,cs,rfl,he,h⟩:=a7 h
 have:=iD h;subst this
 obtain⟨es,rfl,h1,h2⟩:=kF undT_22 ha
 obtain⟨l,rfl,hl⟩:=iS (fun x h=>adh h) es h2
 obtain⟨es',rfl,h3,h4⟩:=kF undT_22 hb
 obtain⟨l',rfl,Gb⟩:=iS (fun x h=>adh h) es' h4
 obtain⟨bs,rfl,F9,hb2⟩:=PM hc
 obtain⟨es2,rfl,h5,h6⟩:=kF (e:=101) ai hd
 obtain⟨q,rfl,hq⟩:=iS (fun x h=>afo h) es2 h6
 obtain⟨es3,rfl,h7,h8⟩:=kF (e:=77) ai he
 obtain⟨ms,rfl,_⟩:=iS (fun x h=>afp h) es3 h8
 have:=la
 exact⟨⟨⟨l,l'⟩,bs,q,ms⟩,rfl,⟨⟨by simp at h1;simp only;omega,by simp at h3;simp only;omega,hl,Gb⟩,F9,by simp at h5;simp only;omega,by simp at h7;simp only;omega,hb2,hq⟩⟩
end Go.Proofs.YtlhemmpklhhgoaaGreat
end
section
namespace Go.Proofs.YtlhemmpklhhgoaaGreat
open Go
def WO:Nat->Bool:=fun g=> !([159,172,173,174,187,135,162,175,176,177,178,179,180,182,183,188,191,192,201,149,164,165,167,111,136,100,79,63,64,112,104,69]:List Nat).contains g
@[reducible] def zC:D:= .sl [.agg [.str [70,97,108,115,101], .i 0], .agg [.str [84,114,117,101], .i 0], .agg [.str [90], .i 0], .agg [.str [83], .i 1], .agg [.str [78,105,108], .i 0], .agg [.str [67,111,110,115], .i 2]]
@[reducible] def zF:D:= .sl [.agg [.str [97,112,112], .i 2], .agg [.str [111,110,101], .i 0]]
def tP:qQ Tryz.prog:=qQ.of WO [] (fun _ h=>by cases h)
end Go.Proofs.YtlhemmpklhhgoaaGreat
end
