/-
  A PART OF THE PROOF. Conditions: none.
-/
import Derived.Test.YtlhemmpklhhgoaaGreatQs19
set_option linter.unusedSimpArgs false
set_option linter.unusedVariables false
set_option maxHeartbeats 8000000
namespace Go.Proofs.YtlhemmpklhhgoaaGreat
def ER(o:Nat->ad)(x m c:Nat)(E:List TB):Nat->ad:=az (az (az o x (.row [.mp m, .osl c 0, .d (.bool false)])) m (dt (ai E))) c (.arr 0 59 4 (E.map TB.d))
section
variable {o:Nat->ad}{x m nx:Nat}{E:List TB}(lx:x<nx)(lm:m<nx)(bY:x≠m)
include lx lm bY
theorem RA:ER o x m nx E x= .row [.mp m, .osl nx 0, .d (.bool false)]:=RZ
theorem RB:ER o x m nx E m=dt (ai E):=RZ
theorem RC:ER o x m nx E nx= .arr 0 59 4 (E.map TB.d):=RZ
omit lx lm bY in
theorem nM{j:Nat}(h1:j≠x)(h2:j≠m)(h3:j≠nx):ER o x m nx E j=o j:=by unfold ER;(repeat(first|rfl|rw[ab]|rw[ae _ _ _ _ (by omega)]))
theorem LQ(hg:Good o nx):Good (ER o x m nx E) (nx+1):=by
 have _:=bY
 unfold ER
 refine Good.az (Good.az (Good.az (hg.mono af) af ?_) af rfl) af rfl
 simp[ad.refs,V.aQ,V.refs]
 omega
theorem LR(gone:Nat->Prop)(xl:V)(l:List V)(hg:Good o nx)(rV:∀id,gone id->nx<=id){e:Nat->V}{so:Nat->ad}{k:Nat}(gl:eL so gone 59 4 (E.map TB.d) xl)
 (sx:so x= .row [.mp m,xl, .d (.bool false)]) (sm:so m=dt (ai E)) (h:∀j,j<nx->j≠x->j≠m->so j=o j) (he:gM nx [⟨xl,59,4,E.map TB.d⟩] so gone e l 0):bA nx ⟨e,so,k⟩ ⟨aX l,ER o x m nx E,nx+1⟩:=by
 refine bA.ou gone xl nx l (Nat.le_refl _) (fun j hj=> ?_) (RC lx lm bY) gl (fun j hj=> ?_) (fun j h1 h2=>absurd (rV j h1) af) he
 ·by_cases e1:j=x
  ·subst e1
   rw[RA lx lm bY]
   exact XL
  ·by_cases e2:j=m
   ·subst e2
    rw[RB lx lm bY]
    exact a7 sm (fun r hr=>by simp[ad.refs]at hr)
   ·rw[nM e1 e2 (by omega),h j hj e1 e2]
    exact a7 rfl (fun r hr=>hg.refs j r hr)
 ·rw[nM (by omega) (by omega) (by omega)]
  exact hg.fresh j af
end
theorem Oq{s:aD}{ps:List (Tm×Tm)}(DZ:∀p∈ps,QT s p.1/\QT s p.2)(hlen:ps.length<=1000){f:Nat}{e:Int}{b':List (Int×Tm)}(hf:lH (mf false f) (ps.map (·.1)) (ps.map (·.2)) []=some (e,b')){lb xb x m:Nat}(o:Nat->ad)(nx:Nat)(hg:Good o nx)
 (hl:o lb= .row [.d (.sl (ps.map qT))]) (Vz:o xb= .row [.ptr x 0]) (hx:o x= .row [.mp m, .aJ, .d (.bool false)]) (hm:o m=dt []) (K X:V->(Nat->ad)->Nat->Prop)
 (aW:e=0->rj s b'->∀ (o':Nat->ad) (nx' l:Nat),nx<=nx'->l<nx'->Good o' nx'->o' x= .row [.mp m, .osl l 0, .d (.bool false)]->o' m=dt b'->(∀j,j<nx->j≠x->j≠m->o' j=o j)->K (.bT []) o' nx')
 (pL:e≠0->∀v o' nx',v= .d (.iface 162 (.agg []))\/v= .d (.iface 163 (.agg []))->nx<=nx'->Good o' nx'->(∀j,j<nx->j≠x->j≠m->o' j=o j)->X v o' nx'):
 cI Tryz.prog 109 [.ptr lb 0, .ptr xb 0] o nx K X:=by
 have lx:x<nx:=hg.lt Ji
 have lm:m<nx:=hg.lt EU
 have llb:lb<nx:=hg.lt (by rw[hl];exact ad.noConfusion)
 have lxb:xb<nx:=hg.lt (by rw[Vz];exact ad.noConfusion)
 have bY:x≠m:=fun e=>by subst e;rw[hx]at hm;cases hm
 have d1:lb≠x:=fun e=>by subst e;rw[hx]at hl;cases hl
 have d2:lb≠m:=fun e=>by subst e;rw[hm]at hl;cases hl
 have d3:xb≠x:=fun e=>by subst e;rw[hx]at Vz;cases Vz
 have d4:xb≠m:=fun e=>by subst e;rw[hm]at Vz;cases Vz
 refine cI.aI mix QD aF ?_
 rw[T5]
 refine W8 hl Vz hx hm ?_
 refine aB (fun i:Nat×List TB=>⟨aX [.ptr lb 0, .ptr xb 0, .aa, .aa, .d (.sl (ps.map qT)), .d (.i ps.length), .d (.i i.1)],ER o x m nx i.2,nx+1⟩)
  (fun i=>i.1<=ps.length/\lH (mf false f) ((ps.drop i.1).map (·.1)) ((ps.drop i.1).map (·.2)) (ai i.2)=some (e,b')/\rj s (ai i.2)) (fun i=>ps.length - i.1) (0,[]) ⟨Nat.zero_le _,hf,rj.nil⟩ ?_ ?_
 ·refine LR lx lm bY (fun _=>False) .aJ _ hg (fun _ h=>h.elim) (.inl ⟨rfl,rfl,bV⟩) hx hm (fun j j1 j2 j3=>rfl) ?_
  exact mE
 rintro⟨k,E⟩ ⟨hk,hL,hA⟩
 dsimp only at hk hL hA|-
 have aev:=hA.len
 have q1:ER o x m nx E lb= .row [.d (.sl (ps.map qT))]:=by rw[nM d1 d2 (by omega),hl]
 have q2:ER o x m nx E xb= .row [.ptr x 0]:=by rw[nM d3 d4 (by omega),Vz]
 have q3:=RA (o:=o) (E:=E) lx lm bY
 have q4:=RB (o:=o) (E:=E) lx lm bY
 have q5:=RC (o:=o) (E:=E) lx lm bY
 have hgU:=LQ (o:=o) (E:=E) lx lm bY hg
 simp+contextual (disch:=first|omega|simp only[go_sem,false_implies]) only[go_sem,wrap64,if_pos,Nat.add_assoc,Nat.left_eq_add,Nat.add_eq_left,Nat.add_left_cancel_iff,List.length_map]
 refine ak (fun h6=> ?_) (fun h6=> ?_)
 ·replace h6:k<ps.length:=by simp at h6;omega
  obtain⟨⟨a,c⟩,hp⟩:=ay h6
  obtain⟨ha,hc⟩:=DZ _ (List.mem_of_getElem? hp)
  have Lm:ps.drop k=(a,c)::ps.drop (k+1):=by
   obtain⟨i1,i2⟩:=List.getElem?_eq_some_iff.1 hp
   exact I0
  rw[Lm]at hL
  simp only[List.map_cons,lH]at hL
  cases hq:mf false f a c (ai E)with
  |none=>rw[hq]at hL;cases hL
  |some q=>
  obtain⟨e1,b1⟩:=q
  rw[hq]at hL
  dsimp only at hL
  simp+contextual (disch:=first|omega|simp only[go_sem,false_implies]) only[go_sem,wrap64,if_pos,hp,q1,q2,q3,q4,q5,Nat.add_assoc,Nat.left_eq_add,Nat.add_eq_left,Nat.add_left_cancel_iff,List.length_map]
  have rn:Good (az (az (ER o x m nx E) (nx+4) (.row [.d (.i 0), .d (.i 0), .aJ, .d (.i 0), .d (.i 0), .aJ])) (nx+4) (.row [.d (.i a.op), .d (.i a.n), .d (.sl (a.kids.map Tm.d)), .d (.i c.op), .d (.i c.n), .d (.sl (c.kids.map Tm.d))])) (nx+11):=
   Good.az (Good.az (hgU.mono af) af rfl) af rfl
  refine bz (EG hA ha hc (L:=E) af hq (x:=x) (m:=m) (xl:= .osl nx 0) _ (az (az (az (ER o x m nx E) (nx+4) (.row [.d (.i 0), .d (.i 0), .aJ, .d (.i 0), .d (.i 0), .aJ])) (nx+4) (.row [.d (.i a.op), .d (.i a.n), .d (.sl (a.kids.map Tm.d)), .d (.i c.op), .d (.i c.n), .d (.sl (c.kids.map Tm.d))])) nx .no) _ (fun j=>j=nx) rn (rn.az af rfl) R3 X0 (.inr ⟨nx,0,rfl,rfl,by(repeat(first|rfl|rw[ab]|rw[ae _ _ _ _ (by omega)]));exact q5⟩) (fun j e=>by subst e;exact⟨af,af,af,ab _ _ _⟩) (fun j hj=> ?_) _ _ (fun h0 E' hE o' nx' h1 h2 h3 h4=> ?_) (fun h5 o' nx' h1 h2 h4=> ?_) (fun h3 o' nx' h1 h2 h4=> ?_))
  ·by_cases e:j=nx
   ·subst e;exact .inl (ab _ _ _)
   ·exact .inr (ae _ _ _ _ e).symm
  ·have hA':=(Ac f a c _ b1 (h0 ▸ hq) hA ha hc).1
   have hbE:b1=ai (E++E'):=by rw[hE,fA]
   rw[if_pos h0,hbE]at hL
   rw[hbE]at hA'
   refine kR ?_
   refine aj (k+1,E++E') ⟨h6,hL,hA'⟩ kC (LR lx lm bY (fun j=>j=nx+18) (.osl (nx+18) 0) _ hg (fun j e=>af) (.inr ⟨nx+18,0,rfl,rfl,h3.WH⟩) h3.row (by rw[<- hbE];exact h3.map) (fun j j1 j2 j3=> ?_) ?_)
   ·rw[h4 j (by omega) j2 j3]
    (repeat(first|rfl|rw[ab]|rw[ae _ _ _ _ (by omega)]))
    exact nM j2 j3 af
   ·exact mE
  ·rw[if_neg (by omega)]at hL
   injection hL with hL
   injection hL with hL1 hL2
   refine kR ?_
   refine pL af _ _ _ (.inl rfl) af h2 (fun j j1 j2 j3=> ?_)
   rw[h4 j (by omega) j2 j3]
   (repeat(first|rfl|rw[ab]|rw[ae _ _ _ _ (by omega)]))
   exact nM j2 j3 af
  ·rw[if_neg (by omega)]at hL
   injection hL with hL
   injection hL with hL1 hL2
   refine kR ?_
   refine pL af _ _ _ (.inr rfl) af h2 (fun j j1 j2 j3=> ?_)
   rw[h4 j (by omega) j2 j3]
   (repeat(first|rfl|rw[ab]|rw[ae _ _ _ _ (by omega)]))
   exact nM j2 j3 af
 ·replace h6:k=ps.length:=by simp at h6;omega
  subst h6
  rw[List.drop_length]at hL
  simp only[List.map_nil,lH]at hL
  injection hL with hL
  injection hL with hL1 hL2
  subst hL2
  refine kR ?_
  refine aW hL1.symm hA _ _ nx ?_ ?_ ?_ q3 q4 (fun j j1 j2 j3=>nM j2 j3 af)
  ·omega
  ·omega
  ·exact hgU.mono af
theorem LS{s:aD}{b:List (Int×Tm)}{l:List TB}{ρ:Int->Nat}{R:Nat}(h:lD s b l ρ R)(hl:gf s l):cM (b.map (·.1))=l.map (·.var):=by
 have hp:(cM (b.map (·.1))).Perm (b.map (·.1)):=List.mergeSort_perm _ _
 have hs:(cM (b.map (·.1))).Pairwise (fun a b=>decide (a<=b)=true):=List.pairwise_mergeSort (fun a b c h1 h2=>by simp at*;omega) (fun a b=>by simp;omega) _
 have wQ:(cM (b.map (·.1))).Nodup:=hp.nodup_iff.2 h.keys
 refine K1 ((hs.and wQ).imp fun {a b} h=>by have:=h.1;have:=h.2;simp at*;omega) (List.pairwise_map.2 hl.srt) fun v=> ?_
 have e:=h.Av v
 rw[jJ,jJ]at e
 have e2:(ai l).map (·.1)=l.map (·.var):=by unfold ai;rw[List.map_map];rfl
 rw[e2]at e
 rw[hp.mem_iff]
 exact Decidable.not_iff_not.1 e
theorem EK{s:aD}{l:List TB}(hl:gf s l):((ai l).map (·.1)).Nodup:=by
 have e2:(ai l).map (·.1)=l.map (·.var):=by unfold ai;rw[List.map_map];rfl
 rw[e2]
 exact(List.pairwise_map.2 hl.srt).imp fun h=>af
theorem LU{s:aD}{b:List (Int×Tm)}{l:List TB}{ρ:Int->Nat}{R:Nat}(h:lD s b l ρ R)(hl:gf s l){k:Nat}{y:TB}(hy:l[k]? =some y):∃x f,bN b y.var=some x/\yp f b x=some y.term/\Vs s x:=by
 have hm:=List.mem_of_getElem? hy
 have h1:bN (ai l) y.var=some y.term:=(jK (EK hl)).2 (iV hm)
 cases hx:bN b y.var with
 |none=>rw[(h.Av _).1 hx]at h1;cases h1
 |some x=>
  obtain⟨q1,q2,_⟩:=h.ok _ _ hx
  have e:y.term=aV (ai l) x:=by rw[<- q2];simp[Lv,h1]
  exact⟨x,_,rfl,by rw[e];exact tn h _ x q1 (Nat.le_refl _),q1⟩
theorem Tm.Ot:∀t:Tm,t.gu->t.wid:=by
 refine Tm.ei fun t ih h=> ?_
 have h':=(Tm.fE t).1 h
 rw[Tm.Aa]
 exact⟨af,fun k hk=>ih k hk (h'.2 k hk)⟩
def Mm(l c:Nat)(b:List (Int×Tm))(L:List TB):Nat->ad:=az (az (az (az (fun _=> .no) 3 (.bU (enc (D.int .i64) (jW b)))) 5 (.row [.mp 3, .osl l 0, .d (.bool false)])) 6 (.row [.ptr 5 0])) c (.arr 0 59 4 (L.map TB.d))
theorem LV{l c:Nat}{b:List (Int×Tm)}{L:List TB}(hc:6<c):Mm l c b L 3= .bU (enc (D.int .i64) (jW b))/\Mm l c b L 5= .row [.mp 3, .osl l 0, .d (.bool false)]/\Mm l c b L 6= .row [.ptr 5 0]/\Mm l c b L c= .arr 0 59 4 (L.map TB.d):=by
 unfold Mm
 exact⟨by(repeat(first|rfl|rw[ab]|rw[ae _ _ _ _ (by omega)])),by(repeat(first|rfl|rw[ab]|rw[ae _ _ _ _ (by omega)])),by(repeat(first|rfl|rw[ab]|rw[ae _ _ _ _ (by omega)])),by(repeat(first|rfl|rw[ab]|rw[ae _ _ _ _ (by omega)]))⟩
theorem LW(gone:Nat->Prop)(x:V)(env:List V){l c:Nat}{b:List (Int×Tm)}{L:List TB}(hc:6<c)(hl:l<c)(rV:∀id,gone id->c<=id){e:Nat->V}{so:Nat->ad}{m:Nat}(gx:eL so gone 59 4 (L.map TB.d) x)
 (s3:so 3= .bU (enc (D.int .i64) (jW b))) (s5:so 5= .row [.mp 3, .osl l 0, .d (.bool false)]) (s6:so 6= .row [.ptr 5 0]) (he:gM c [⟨x,59,4,L.map TB.d⟩] so gone e env 0):bA 0 ⟨e,so,m⟩ ⟨aX env,Mm l c b L,c+1⟩:=by
 obtain⟨g3,g5,g6,gc⟩:=LV (l:=l) (b:=b) (L:=L) hc
 refine bA.ou gone x c env af (fun j hj=> ?_) gc gx (fun j hj=> ?_) (fun j h1 h2=>absurd (rV j h1) af) he
 ·by_cases e3:j=3
  ·subst e3;rw[s3,g3];exact a7 rfl (fun r hr=>by simp[ad.refs]at hr)
  by_cases e5:j=5
  ·subst e5;rw[s5,g5];exact a7 rfl (fun r hr=>by simp[ad.refs,V.aQ,V.refs]at hr;omega)
  by_cases e6:j=6
  ·subst e6;rw[s6,g6];exact a7 rfl (fun r hr=>by simp[ad.refs,V.aQ,V.refs]at hr;omega)
  have:Mm l c b L j= .no:=by unfold Mm;(repeat(first|rfl|rw[ab]|rw[ae _ _ _ _ (by omega)]))
  rw[this];exact kx
 ·unfold Mm
  exact c6
theorem sD{s:aD}{ps:List (Tm×Tm)}(DZ:∀p∈ps,QT s p.1/\QT s p.2)(hlen:ps.length<=1000){f:Nat}{e:Int}{b':List (Int×Tm)}(hf:lH (mf false f) (ps.map (·.1)) (ps.map (·.2)) []=some (e,b')){l':List TB}{ρ:Int->Nat}{R:Nat}(hS:e=0->lD s b' l' ρ R/\gf s l'/\∀x∈l',x.term.gu):
 a8 Tryz.prog 67 [.sl (ps.map qT)] (.ret [.sl (if e=0 then l'.map TB.d else []), .bool (e==0)]):=by
 refine a8.aI mix aaj aF ?_
 rw[c67]
 refine kR ?_
 refine bz (Ij _ _ _ _ ?_ _ _ (Oq DZ hlen hf (lb:=0) (xb:=6) (x:=5) (m:=3) _ _ ?_ c6 c6 c6 c6 _ _ (fun h0 hA o1 n1 l g1 g2 g3 g4 g5 g6=>⟨af,g3, ?_,fun o2 n2 k1 k2 k3=> ?_⟩) (fun fG v o1 n1 hv g1 g3 g6=> ?_)))
 ·exact dI
 ·exact dI
 ·rw[g6 _ (by omega) (by omega) (by omega)];(repeat(first|rfl|rw[ab]|rw[ae _ _ _ _ (by omega)]))
 ·have f5:o2 5= .row [.mp 3, .osl l 0, .d (.bool false)]:=by rw[k3 _ (by omega) (by omega)];exact g4
  have f3:o2 3=dt b':=by rw[k3 _ (by omega) (by omega)];exact g5
  have f6:o2 6= .row [.ptr 5 0]:=by rw[k3 _ (by omega) (by omega),g6 _ (by omega) (by omega) (by omega)];(repeat(first|rfl|rw[ab]|rw[ae _ _ _ _ (by omega)]))
  obtain⟨aci,acj,hfw⟩:=hS h0
  have aeM:b'.length<=20:=by
   have:=Ib hA.keys fun v hv=>by
    obtain⟨p,hp,rfl⟩:=List.mem_map.1 hv
    exact(hA.ok p hp).1
   rwa [List.length_map]at this
  have RD:=LS aci acj
  have aew:l'.length<=20:=by
   have e1:=congrArg List.length RD
   unfold cM at e1
   rw[List.length_mergeSort,List.length_map,List.length_map]at e1
   omega
  refine RS f5 f3 f6 ?_
  refine dD (cI.El (id:=3) f3 af (On 3 _ _ _ _ ?_))
  refine kR ?_
  refine bz (cI.seal (LP (b:=b') af (p:=n2+8) (m:=3) _ _ ?_ c6 c6 _ _ (fun o3 n3 id ep m1 m2 m3 m4 m5=>⟨.sl ((l'.map (·.var)).map .i), ?_, ?_⟩)))
  ·refine Good.az (Good.az (k2.mono af) af rfl) af ?_
   exact pQ
  ·rw[RD]at m5
   exact Db m5
  have F:∀j,j<n2+8->put o3 (bL o3 [id]) j=az (az o2 3 (.bU (enc (D.int .i64) (jW b')))) (n2+8) (.row [.mp 3]) j:=fun j hj=>by
   rw[Gx _ _ _ (fun y hy=> ?_),m4 j (by omega)]
   simp[bL]at hy
   subst hy
   dsimp only
   omega
  have F5:put o3 (bL o3 [id]) 5= .row [.mp 3, .osl l 0, .d (.bool false)]:=by rw[F 5 (by omega)];(repeat(first|rfl|rw[ab]|rw[ae _ _ _ _ (by omega)]));exact f5
  have F3:put o3 (bL o3 [id]) 3= .bU (enc (D.int .i64) (jW b')):=by rw[F 3 (by omega)];(repeat(first|rfl|rw[ab]|rw[ae _ _ _ _ (by omega)]))
  have F6:put o3 (bL o3 [id]) 6= .row [.ptr 5 0]:=by rw[F 6 (by omega)];(repeat(first|rfl|rw[ab]|rw[ae _ _ _ _ (by omega)]));exact f6
  have hGO:=LO m3 [id]
  have Vy:l<n3:=af
  clear F
  simp only[V.ids]
  generalize put o3 (bL o3 [id])=O at F5 F3 F6 hGO|-
  simp+contextual (disch:=first|omega|simp only[go_sem,false_implies]) only[go_sem,wrap64,if_pos,F5,F3,F6,Nat.add_assoc,Nat.left_eq_add,Nat.add_eq_left,Nat.add_left_cancel_iff,List.length_map]
  refine aB (fun k:Nat=>⟨aX [.aa, .aa, .aa, .aa, .ptr 6 0, .aa, .osl n3 0, .aa, .aa, .aa, .aa, .aa, .aa, .aa, .aa, .aa, .aa, .aa, .aa, .aa, .aa, .d (.sl ((l'.map (·.var)).map .i)), .d (.i l'.length), .d (.i k)],Mm l n3 b' (l'.take k),n3+1⟩)
   (fun k=>k<=l'.length) (fun k=>l'.length - k) 0 (Nat.zero_le _) (LW (fun _=>False) .aJ _ af Vy (fun _ h=>h.elim) (.inl ⟨rfl,rfl,bV⟩) F3 F5 F6 ?_) (fun k hk=> ?_)
  ·exact mE
  replace hk:k<=l'.length:=hk
  obtain⟨g3,g5,W3,gc⟩:=LV (l:=l) (c:=n3) (b:=b') (L:=l'.take k) af
  refine W8 g3 g5 W3 gc ?_
  refine ak (fun h6=> ?_) (fun h6=> ?_)
  ·replace h6:k<l'.length:=by simp at h6;omega
   obtain⟨y,hy⟩:=ay h6
   obtain⟨x,fx,x1,x2,x3⟩:=LU aci acj hy
   have q8:l'.take (k+1)=l'.take k++[y]:=by rw[List.take_add_one,hy];rfl
   have e0:(l'.take k).length=k:=by rw[List.length_take];omega
   have fL:k<=140737488355327/\(k+1)*48<=140737488355328:=af
   obtain⟨jx,hjx⟩:=fw x1
   refine Ir g3 g5 W3 gc hy hjx ?_
   refine aU (Ev (fun p hp=>(hA.ok p hp).2.fits) fx x y.term (hA.ok _ (cJ x1)).2.fits x2 (Tm.Ot _ (hfw y (List.mem_of_getElem? hy)))) ?_
   refine Ir g3 g5 W3 gc e0 fL ?_
   refine aN (eM (ids:=[6,5,3,n3,n3+19]) (nx:=n3+22) (by simp<;>omega) (by simp<;>omega) [([],[]),([],[]),([0],[]),([1],[]),([1],[]),([1],[]),([0],[]),([1],[]),([1],[]),([1],[]),([],[]),([2],[]),([2],[2]),([],[]),([],[4]),([3,4],[3]),([],[])] bV) ?_
   refine kR ?_
   refine aj (k+1) h6 af (LW (fun j=>n3<=j) (.osl n3 1) _ af Vy (fun _ h=>h) (.inr ⟨n3,1,Nat.le_refl _,rfl,by(repeat(first|rfl|rw[ab]|rw[ae _ _ _ _ (by omega)]));rw[q8,List.map_append];rfl⟩) c6 (by(repeat(first|rfl|rw[ab]|rw[ae _ _ _ _ (by omega)]));exact g5) (by(repeat(first|rfl|rw[ab]|rw[ae _ _ _ _ (by omega)]));exact W3) ?_)
   exact mE
  ·replace h6:k=l'.length:=by simp at h6;omega
   subst h6
   rw[List.take_length]at g3 g5 W3 gc|-
   rw[if_pos h0]
   subst h0
   simp+contextual (disch:=first|omega|simp only[go_sem,false_implies]) only[go_sem,wrap64,if_pos,g3,g5,W3,gc,Nat.add_assoc,Nat.left_eq_add,Nat.add_eq_left,Nat.add_left_cancel_iff]
 ·have ee:(e==0)=false:=by rw[beq_eq_false_iff_ne];exact fG
  rw[if_neg fG,ee]
  rcases hv with rfl|rfl
  ·refine .inl ⟨rfl,af,g3,by rw[g6 _ (by omega) (by omega) (by omega)];(repeat(first|rfl|rw[ab]|rw[ae _ _ _ _ (by omega)])),fun o2 n2 k1 k2 k3=> ?_⟩
   exact Xa
  ·refine .inr ⟨rfl,af,g3,by rw[g6 _ (by omega) (by omega) (by omega)];(repeat(first|rfl|rw[ab]|rw[ae _ _ _ _ (by omega)])),fun o2 n2 k1 k2 k3=> ?_⟩
   exact Xa
end Go.Proofs.YtlhemmpklhhgoaaGreat
namespace Go.Proofs.YtlhemmpklhhgoaaGreat
theorem wk{s:aD}(l:List TB)(n:Int)(t:Tm)(hl:l.length<=50)(hx:∀x∈l,Vs s x.term/\x.term.gu):a8 Tryz.prog 150 [.sl (l.map TB.d), .i n,t.d] (.ret [.sl ((iI l n t).map TB.d)]):=by
 refine a8.aI mix aa5 aF ?_
 rw[aa4]
 refine bW ?_
 refine aB (fun i:Nat=>⟨aX [.d (.sl (l.map TB.d)), .d (.i n), .aa, .aa, .aa, .ptr 0 0, .aa, .osl 1 0, .d (.i i)],az (az (fun _=> .no) 0 (.row t.row)) 1 (.arr 0 59 4 (((l.take i).map fun x=>(⟨x.var,aV (sn n t) x.term⟩:TB)).map TB.d)),2⟩)
  (fun i=>i<=l.length) (fun i=>l.length - i) 0 (Nat.zero_le _) (bA.ou (ty:=59) (sz:=4) (es:=[]) (fun _=>False) .aJ 1 _ af (lt1 (a7 rfl pQ)) (by rw[ab];simp) (.inl ⟨rfl,rfl,bV⟩) (fun j hj=>by(repeat(first|rfl|rw[ab]|rw[ae _ _ _ _ (by omega)]))) (fun _ h=>h.elim) ?_) ?_
 ·exact mE
 rintro i hi
 replace hi:i<=l.length:=hi
 refine sG ?_
 refine ak (fun h2=> ?_) (fun h2=> ?_)
 ·simp at h2
  obtain⟨x,SG⟩:=ay h2
  obtain⟨x1,x2⟩:=hx x (List.mem_of_getElem? SG)
  have q8:l.take (i+1)=l.take i++[x]:=by rw[List.take_add_one,SG];rfl
  have e0:(l.take i).length=i:=by rw[List.length_take];omega
  refine GH SG e0 ?_
  refine aU (rs:=[(aV (sn n t) x.term).d]) (oi x.term x1 x2 [⟨n,t⟩] aF) ?_
  refine GH SG e0 ?_
  refine aN bV ?_
  refine GH SG e0 ?_
  refine aj (i+1) h2 af (bA.ou (fun j=>j=1) (.osl 1 1) 1 _ af (lt1 (eO (y:= .row t.row) c6 c6 (a7 rfl pQ))) (ab _ _ _) (.inr ⟨1,1,rfl,rfl,by(repeat(first|rfl|rw[ab]|rw[ae _ _ _ _ (by omega)]));rw[q8,List.map_append,List.map_append];rfl⟩) (fun j hj=>by(repeat(first|rfl|rw[ab]|rw[ae _ _ _ _ (by omega)]))) (fun j h h2=>af) ?_)
  exact mE
 ·simp at h2
  have hil:i=l.length:=af
  subst hil
  rw[List.take_length]
  refine sG ?_
  refine bD (Vm (l.map fun x=>(⟨x.var,aV (sn n t) x.term⟩:TB)) n t oY) ?_
  refine bW ?_
  rfl
theorem Gy(v:Int):(Tm.mk 1 v []).gu:=by rw[Tm.fE];simp[Tm.kids]
theorem qV{l:List TB}(h:∀x∈l,x.term.gu):∀p∈ai l,p.2.gu:=fun p hp=>by
 obtain⟨x,hx,rfl⟩:=List.mem_map.1 hp
 exact h x hx
theorem wm{l:List TB}{n:Int}{t:Tm}(hl:∀x∈l,x.term.gu)(ht:t.gu):∀x∈iI l n t,x.term.gu:=fun x hx=>by
 rcases uj.1 hx with rfl|hx
 ·exact ht
 ·obtain⟨y,hy,rfl⟩:=List.mem_map.1 hx
  exact Tm.sv (fun p hp=>by simp[sn]at hp;subst hp;exact ht) _ (hl y hy)
theorem oo:∀ (f:Nat) (a c:Tm) (l:List TB) (r:List TB×Bool),dh f a c l=some r->a.gu->c.gu->(∀x∈l,x.term.gu)->∀x∈r.1,x.term.gu
 |0,_,_,_,_,h,_,_,_=>by cases h
 |f+1,a,c,l,r,h,ha,hc,hl=>by
  have fa:=Tm.sv (qV hl) a ha
  have fc:=Tm.sv (qV hl) c hc
  simp only[dh]at h
  generalize aV (ai l) a=a0 at*
  generalize aV (ai l) c=c0 at*
  split at h
  ·injection h with h;subst h;exact hl
  ·split at h
   ·injection h with h;subst h;exact wm hl (Gy _)
   ·split at h
    ·injection h with h;subst h;exact wm hl fc
    ·split at h
     ·injection h with h;subst h;exact wm hl fa
     ·split at h
      ·injection h with h;subst h;intro x hx;cases hx
      ·have key:∀ (ks c9:List Tm) (l:List TB),(∀k∈ks,k.gu)->(∀k∈c9,k.gu)->(∀x∈l,x.term.gu)->bG (dh f) ks c9 l=some r->∀x∈r.1,x.term.gu:=by
        intro ks
        induction ks with
        |nil=>intro c9 l _ _ hl h;simp only[bG]at h;injection h with h;subst h;exact hl
        |cons k ks wY=>
         intro c9 l m1 m2 hl h
         cases c9 with
         |nil=>simp only[bG]at h;injection h with h;subst h;exact hl
         |cons k' c9=>
          simp only[bG]at h
          cases e:dh f k k' l with
          |none=>rw[e]at h;cases h
          |some r1=>
           have h1:=oo f k k' l r1 e (m1 k aF) (m2 k' aF) hl
           obtain⟨l1,ok⟩:=r1
           rw[e]at h
           cases ok with
           |false=>simp only at h;injection h with h;subst h;exact h1
           |true=>exact wY c9 l1 (fun y hy=>m1 y lJ) (fun y hy=>m2 y lJ) h1 h
       exact key _ _ l ((Tm.fE _).1 fa).2 ((Tm.fE _).1 fc).2 hl h
theorem sE{s:aD}:∀ (f:Nat) (a c:Tm) (l:List TB) (r:List TB×Bool),dh f a c l=some r->Vs s a->a.gu->Vs s c->c.gu->gf s l->(∀x∈l,x.term.gu)->a8 Tryz.prog 122 [a.d,c.d, .sl (l.map TB.d)] (.ret [.sl (r.1.map TB.d), .bool r.2])
 |0,_,_,_,_,h,_,_,_,_,_,_=>by cases h
 |f+1,a,c,l,r,h,va,fa,vc,fc,hl,mJ=>by
  have h20:=hl.len
  have sa:=oi a va fa l af
  have sc:=oi c vc fc l af
  have va0:=Vs.sub hl.bd a va
  have vc0:=Vs.sub hl.bd c vc
  have fa0:=Tm.sv (qV mJ) a fa
  have fc0:=Tm.sv (qV mJ) c fc
  have hlx:∀x∈l,Vs s x.term/\x.term.gu:=fun x hx=>⟨(hl.ok x hx).2,mJ x hx⟩
  have na:=hl.H8 va
  have nc:=hl.H8 vc
  simp only[dh]at h
  refine a8.aI mix QJ aF ?_
  rw[Ub]
  refine bW ?_
  refine aU sa ?_
  refine bW ?_
  refine aU sc ?_
  refine bW ?_
  generalize aV (ai l) a=a0 at*
  generalize aV (ai l) c=c0 at*
  refine aN bV ?_
  have fia:=Tm.jQ a0 fa0
  have fic:=Tm.jQ c0 fc0
  have ack:=(Tm.fE a0).1 fa0
  have acm:=(Tm.fE c0).1 fc0
  refine bW ?_
  refine aw (r8 a0 fia c0 fic) rfl ?_
  cases tQ:fX a0 c0 with
  |true=>
   rw[if_pos tQ]at h
   exact Jl
  |false=>
  rw[if_neg (by rw[tQ];exact Bool.false_ne_true)]at h
  by_cases h1:a0.op=1
  ·have eg:(a0.op==1)=true:=by simpa using h1
   by_cases h2:c0.op=1
   ·have iy:(c0.op==1)=true:=by simpa using h2
    rw[if_pos ⟨h1,h2⟩]at h
    injection h with h
    subst h
    have yP:(if c0.n>a0.n then c0.n else a0.n)=max a0.n c0.n:=by rw[Int.max_def];split<;>split<;>omega
    have aex:(if c0.n<a0.n then c0.n else a0.n)=min a0.n c0.n:=by rw[Int.min_def];split<;>split<;>omega
    refine rk eg iy ?_
    rw[yP,aex]
    refine aU (K5 (min a0.n c0.n)) ?_
    refine rk eg iy ?_
    refine aU (wk l (max a0.n c0.n) (.mk 1 (min a0.n c0.n) []) af hlx) ?_
    exact Sq
   ·have iy:(c0.op==1)=false:=by simpa using h2
    rw[if_neg (fun h=>h2 h.2),if_pos h1]at h
    injection h with h
    subst h
    have Oj:=Ad vc0
    refine rk eg iy ?_
    refine aU (wk l a0.n c0 af hlx) ?_
    refine rk eg iy ?_
    refine aU (qR c0 vc0 fc0) ?_
    refine rk eg iy ?_
    refine aZ (Rr (ct c0) a0.n af) rfl ?_
    exact Sq
  ·have eg:(a0.op==1)=false:=by simpa using h1
   by_cases h2:c0.op=1
   ·have iy:(c0.op==1)=true:=by simpa using h2
    rw[if_neg (fun h=>h1 h.1),if_neg h1,if_pos h2]at h
    injection h with h
    subst h
    have Oj:=Ad va0
    refine rk eg iy ?_
    refine aU (wk l c0.n a0 af hlx) ?_
    refine rk eg iy ?_
    refine aU (qR a0 va0 fa0) ?_
    refine rk eg iy ?_
    refine aZ (Rr (ct a0) c0.n af) rfl ?_
    exact Sq
   ·have iy:(c0.op==1)=false:=by simpa using h2
    rw[if_neg (fun h=>h1 h.1),if_neg h1,if_neg h2]at h
    by_cases h3:a0.op≠c0.op\/a0.n≠c0.n\/a0.kids.length≠c0.kids.length
    ·rw[if_pos h3]at h
     injection h with h
     subst h
     have kW:(a0.op !=c0.op||a0.n !=c0.n||(a0.kids.length:Int)!=(c0.kids.length:Int))=true:=by
      rcases h3 with h|h|h
      ·simp[h]
      ·simp[h]
      ·have:((a0.kids.length:Int)!=(c0.kids.length:Int))=true:=by simp;omega
       simp[this]
     exact RU eg iy kW
    ·rw[if_neg h3]at h
     have e3:a0.kids.length=c0.kids.length:=Classical.byContradiction fun e=>h3 (Or.inr (Or.inr e))
     have kW:(a0.op !=c0.op||a0.n !=c0.n||(a0.kids.length:Int)!=(c0.kids.length:Int))=false:=by
      have e1:a0.op=c0.op:=Classical.byContradiction fun e=>h3 (Or.inl e)
      have e2:a0.n=c0.n:=Classical.byContradiction fun e=>h3 (Or.inr (Or.inl e))
      simp[e1,e2,e3]
     refine uu eg iy kW ?_
     refine aB (fun i:Nat×List TB×Bool=>⟨aX [.aa, .aa, .d (.sl (i.2.1.map TB.d)), .ptr 0 0, .ptr 1 0, .aa, .aa, .aa, .d (.bool i.2.2), .d (.i i.1)],az (az (fun _=> .no) 0 (.row a0.row)) 1 (.row c0.row),2⟩)
      (fun i=>i.1<=a0.kids.length/\(if i.2.2=true then bG (dh f) (a0.kids.drop i.1) (c0.kids.drop i.1) i.2.1=some r else(i.2.1,false)=r)/\(i.2.2=true->gf s i.2.1/\∀x∈i.2.1,x.term.gu)) (fun i=>a0.kids.length - i.1) (0,l,true) ⟨Nat.zero_le _,h,fun _=>⟨hl,mJ⟩⟩ ?_ ?_
     ·dsimp only
      refine bA.bJ _ af af dI (fun j hj=> ?_) ?_
      ·rcases(by omega:j=0\/j=1)with rfl|rfl
       ·exact c6
       ·exact c6
      ·exact dp
     rintro⟨k,l1,is⟩ ⟨hk,aY,mo⟩
     simp only at hk aY mo
     refine sG ?_
     cases is with
     |false=>
      exact Pr
     |true=>
      simp only[if_true]at aY
      obtain⟨nU,hf1⟩:=mo rfl
      by_cases h5:k<a0.kids.length
      ·have pR:decide ((k:Int)<(a0.kids.length:Int))=true:=by simpa using h5
       obtain⟨x,hx⟩:=ay h5
       have bY:=List.mem_of_getElem? hx
       obtain⟨z,hz⟩:=ay (l:=c0.kids) (k:=k) af
       have Ie:=List.mem_of_getElem? hz
       have hdx:a0.kids.drop k=x::a0.kids.drop (k+1):=by
        exact Sv
       have hdz:c0.kids.drop k=z::c0.kids.drop (k+1):=by
        obtain⟨h5,h6⟩:=List.getElem?_eq_some_iff.1 hz
        exact R6
       rw[hdx,hdz]at aY
       simp only[bG]at aY
       cases e:dh f x z l1 with
       |none=>rw[e]at aY;cases aY
       |some r1=>
       have dC:=sE f x z l1 r1 e (va0.jV bY) (ack.2 x bY) (vc0.jV Ie) (acm.2 z Ie) nU hf1
       have VA:=oo f x z l1 r1 e (ack.2 x bY) (acm.2 z Ie) hf1
       rw[e]at aY
       obtain⟨l2,ok⟩:=r1
       refine uu pR hx hz ?_
       refine aU dC ?_
       refine uu pR hx hz ?_
       refine aN (bc rfl) ?_
       refine bW ?_
       refine aj (k+1,l2,ok) ⟨h5, ?_,fun aW=> ?_⟩ kC (bA.bJ _ af af dI (fun j hj=> ?_) ?_)
       ·cases ok with
        |true=>simpa using aY
        |false=>simp only at aY;injection aY
       ·simp only at aW
        subst aW
        exact⟨(jM f x z l1 l2 e nU (va0.jV bY) (vc0.jV Ie)).1,VA⟩
       ·exact c6
       ·exact dp
      ·have pR:decide ((k:Int)<(a0.kids.length:Int))=false:=by simp;omega
       exact Yr
theorem LX{s:aD}{f:Nat}{a c:Tm}{r:List TB×Bool}(h:dh f a c []=some r)(va:Vs s a)(fa:a.gu)(vc:Vs s c)(fc:c.gu):a8 Tryz.prog 81 [a.d,c.d] (.ret [.sl (r.1.map TB.d), .bool r.2]):=by
 refine a8.aI mix aap aF ?_
 rw[c81]
 refine bW ?_
 refine bD (sE f a c [] r h va fa vc fc gf.nil (fun _ h=>by cases h)) ?_
 exact pK
def CV(θ:List (Int×Tm))(l:List TB):Prop:=∀v,0<=v/\v<20->aV θ (Lv (ai l) v)=Lv θ v
theorem CV.nil {θ:List (Int×Tm)}:CV θ []:=fun v _=>by rw[show Lv (ai []) v= .mk 1 v []from rfl,jL]
theorem CV.sub {s:aD}{θ:List (Int×Tm)}{l:List TB}(h:CV θ l){t:Tm}(ht:Vs s t):aV θ (aV (ai l) t)=aV θ t:=ui t ht fun v hv=>h v (ht.range hv)
theorem CV.VB {s:aD}{θ:List (Int×Tm)}{l:List TB}(h:CV θ l)(hl:gf s l){n:Int}{t:Tm}(hn:bN (ai l) n=none)(e:Lv θ n=aV θ t):CV θ (iI l n t):=fun v hv=>by
 rw[og hn]
 by_cases h1:v=n
 ·rw[if_pos h1,h1,e]
 ·rw[if_neg h1, <- h v hv]
  refine ui (s:=s) _ (Vs.Lv hl.bd hv) fun u _=> ?_
  rw[v7]
  split
  ·rename_i h2;rw[h2,e]
  ·rw[jL]
theorem VC{s:aD}{θ:List (Int×Tm)}{n:Int}:∀t:Tm,Vs s t->fO n t=true->(Lv θ n).sz<=(aV θ t).sz/\(t.op≠1->(Lv θ n).sz<(aV θ t).sz):=by
 refine Tm.ei fun t ih hv hf=> ?_
 by_cases h1:t.op=1
 ·rw[e8 hv h1,(gN h1).1 hf]
  exact⟨Nat.le_refl _,fun h=>absurd h1 h⟩
 ·obtain⟨k,hk,YR⟩:=(oT hv h1).1 hf
  have h2:=(ih k hk (hv.jV hk) YR).1
  have h3:aV θ k∈(aV θ t).kids:=by rw[fZ h1];exact List.mem_map.2 ⟨k,hk,rfl⟩
  have h4:=Tm.mI h3
  exact⟨af,fun _=>af⟩
theorem Ag{s:aD}{θ:List (Int×Tm)}:∀ (f:Nat) (a c:Tm) (l:List TB) (r:List TB×Bool),dh f a c l=some r->gf s l->Vs s a->Vs s c->CV θ l->aV θ a=aV θ c->r.2=true/\CV θ r.1
 |0,_,_,_,_,h,_,_,_,_,_=>by cases h
 |f+1,a,c,l,r,h,hl,ha,hc,hg,hs=>by
  have va:=Vs.sub hl.bd a ha
  have vc:=Vs.sub hl.bd c hc
  have na:=hl.H8 ha
  have nc:=hl.H8 hc
  rw[<- hg.sub ha, <- hg.sub hc]at hs
  simp only[dh]at h
  generalize aV (ai l) a=a0 at*
  generalize aV (ai l) c=c0 at*
  have occ:∀ (x y:Tm),Vs s x->Vs s y->x.op=1->y.op≠1->aV θ x=aV θ y-> ¬ (ct y).contains x.n=true:=fun x y hx hy h1 h2 e hc=>by
   have h3:=((cX y).2 _).1 (List.contains_iff_mem.1 hc)
   have h4:=(VC (θ:=θ) y hy h3).2 h2
   rw[e8 hx h1]at e
   rw[e]at h4
   omega
  split at h
  ·injection h with h;subst h;exact⟨rfl,hg⟩
  ·rename_i tQ
   split at h
   ·rename_i h1
    injection h with h;subst h
    obtain⟨r1,u1,e1⟩:=na h1.1
    obtain⟨r2,u2,e2⟩:=nc h1.2
    have A6:bN (ai l) (max a0.n c0.n)=none:=by rcases Int.le_total a0.n c0.n with h|h<;>simp[Int.max_def]<;>split<;>assumption
    refine⟨rfl,hg.VB hl A6 ?_⟩
    rw[e8 va h1.1,e8 vc h1.2]at hs
    rw[jL]
    rcases Int.le_total a0.n c0.n with h|h
    ·rw[Int.max_eq_right h,Int.min_eq_left h,hs]
    ·rw[Int.max_eq_left h,Int.min_eq_right h,hs]
   ·split at h
    ·rename_i h1 h2
     injection h with h;subst h
     obtain⟨r1,u1,e1⟩:=na h2
     have pL:=occ a0 c0 va vc h2 (fun e=>h1 ⟨h2,e⟩) hs
     refine⟨by simpa using pL,hg.VB hl u1 ?_⟩
     rw[<- hs,e8 va h2]
    ·split at h
     ·rename_i h1 h2 h3
      injection h with h;subst h
      obtain⟨r2,u2,e2⟩:=nc h3
      have pL:=occ c0 a0 vc va h3 h2 hs.symm
      refine⟨by simpa using pL,hg.VB hl u2 ?_⟩
      rw[hs,e8 vc h3]
     ·rename_i h1 h2 h3
      rw[fZ h2,fZ h3]at hs
      injection hs with q1 q2 q3
      have q4:a0.kids.length=c0.kids.length:=by simpa using congrArg List.length q3
      rw[if_neg (by rintro(h|h|h)<;>contradiction)]at h
      have key:∀ (ks c9:List Tm) (l:List TB),(∀k∈ks,Vs s k)->(∀k∈c9,Vs s k)->gf s l->CV θ l->ks.map (aV θ)=c9.map (aV θ)->bG (dh f) ks c9 l=some r->r.2=true/\CV θ r.1:=by
       intro ks
       induction ks with
       |nil=>intro c9 l _ _ hl hg hm h;simp only[bG]at h;injection h with h;subst h;exact⟨rfl,hg⟩
       |cons k ks wY=>
        intro c9 l h1 h2 hl hg hm h
        cases c9 with
        |nil=>cases hm
        |cons k' c9=>
         rw[List.map_cons,List.map_cons]at hm
         injection hm with m1 m2
         have v1:=h1 k aF
         have v2:=h2 k' aF
         simp only[bG]at h
         split at h
         ·rename_i l1 e
          have g1:=(jM f k k' l l1 e hl v1 v2).1
          have g2:=(Ag f k k' l _ e hl v1 v2 hg m1).2
          exact wY c9 l1 (fun x hx=>h1 x mm) (fun x hx=>h2 x mm) g1 g2 m2 h
         ·rename_i l1 e
          have:=(Ag f k k' l _ e hl v1 v2 hg m1).1
          cases this
         ·cases h
      exact key _ _ _ (fun k hk=>va.jV hk) (fun k hk=>vc.jV hk) hl hg q3 h
theorem Gz{s:aD}{f:Nat}:∀ (ps cs:List Tm) (l:List TB) (r:List TB×Bool),bG (dh f) ps cs l=some r->gf s l->(∀t∈ps,Vs s t)->(∀t∈cs,Vs s t)->∀ (b:List (Int×Tm)) (ρ:Int->Nat) (R:Nat),lD s b l ρ R->
 ∃g e b',lH (mf false g) ps cs b=some (e,b')/\EqR s false r e b'
 |[],cs,l,r,h,_,_,_,b,ρ,R,hS=>by
  simp only[bG]at h
  injection h with h
  subst h
  exact OY
 |a::ps,[],l,r,h,_,_,_,b,ρ,R,hS=>by
  simp only[bG]at h
  injection h with h
  subst h
  exact OY
 |a::ps,c::cs,l,r,h,hl,ha,hc,b,ρ,R,hS=>by
  have va:=ha a aF
  have vc:=hc c aF
  simp only[bG]at h
  cases hq:dh f a c l with
  |none=>rw[hq]at h;cases h
  |some q=>
  obtain⟨l1,ok⟩:=q
  rw[hq]at h
  obtain⟨g,e,b1,h1,h2⟩:=Ez (lim:=false) f a c l (l1,ok) hq hl va vc a c b ρ R hS va vc rfl rfl
  cases ok with
  |false=>
   simp only at h
   injection h with h
   subst h
   rcases h2 with⟨_,h3,_⟩|⟨rfl,_⟩|⟨_,h3⟩
   ·cases h3
   ·exact⟨g,5,b1,by simp only[lH,h1];rfl, .inr (.inl ⟨rfl,rfl⟩)⟩
   ·cases h3
  |true=>
   simp only at h
   have pO:=(jM f a c l l1 hq hl va vc).1
   rcases h2 with⟨rfl,_,H9,R',LH⟩|⟨_,h3⟩|⟨_,h3⟩
   ·obtain⟨g2,e2,b2,k1,k2⟩:=Gz ps cs l1 r h pO (fun t ht=>ha t sK) (fun t ht=>hc t sK) b1 H9 R' LH
    refine⟨max g g2,e2,b2, ?_,k2⟩
    simp only[lH]
    rw[iw h1 (Nat.le_max_left _ _)]
    exact OP
   ·cases h3
   ·cases h3
theorem wo{s:aD}:∀ (ps cs:List Tm) (l:List TB),gf s l->(∀t∈ps,Vs s t)->(∀t∈cs,Vs s t)->∃f r,bG (dh f) ps cs l=some r
 |[],cs,l,_,_,_=>⟨0,_,by simp only[bG];rfl⟩
 |a::ps,[],l,_,_,_=>⟨0,_,by simp only[bG];rfl⟩
 |a::ps,c::cs,l,hl,ha,hc=>by
  have va:=ha a aF
  have vc:=hc c aF
  obtain⟨f,⟨l1,ok⟩,h⟩:=yo _ _ a c l (Nat.le_refl _) (Nat.le_refl _) hl va vc
  cases ok with
  |false=>exact⟨f,(l1,false),by simp only[bG,h]⟩
  |true=>
   obtain⟨f2,r,h2⟩:=wo ps cs l1 (jM f a c l l1 h hl va vc).1 (fun t ht=>ha t sK) (fun t ht=>hc t sK)
   refine⟨max f f2,r, ?_⟩
   simp only[bG]
   rw[lE h (Nat.le_max_left _ _)]
   exact me (fun k k' l r hk=>lE hk (Nat.le_max_right _ _)) h2
theorem CW{s:aD}{θ:List (Int×Tm)}{f:Nat}:∀ (ps cs:List Tm) (l:List TB) (r:List TB×Bool),bG (dh f) ps cs l=some r->gf s l->(∀t∈ps,Vs s t/\t.gu)->(∀t∈cs,Vs s t/\t.gu)->(∀x∈l,x.term.gu)->CV θ l->ps.map (aV θ)=cs.map (aV θ)->
 r.2=true/\CV θ r.1/\gf s r.1/\∀x∈r.1,x.term.gu
 |[],cs,l,r,h,hl,_,_,hw,hg,_=>by
  exact Pm
 |a::ps,[],l,r,h,hl,_,_,hw,hg,_=>by
  exact Pm
 |a::ps,c::cs,l,r,h,hl,ha,hc,hw,hg,he=>by
  have va:=ha a aF
  have vc:=hc c aF
  rw[List.map_cons,List.map_cons]at he
  injection he with he1 he2
  simp only[bG]at h
  cases hq:dh f a c l with
  |none=>rw[hq]at h;cases h
  |some q=>
  obtain⟨l1,ok⟩:=q
  rw[hq]at h
  obtain⟨h1,h2⟩:=Ag f a c l (l1,ok) hq hl va.1 vc.1 hg he1
  have h1:ok=true:=h1
  subst h1
  simp only at h
  exact CW ps cs l1 r h (jM f a c l l1 hq hl va.1 vc.1).1 (fun t ht=>ha t sK) (fun t ht=>hc t sK) (oo f a c l (l1,true) hq va.2 vc.2 hw) h2 he2
theorem VD{s:aD}{θ:List (Int×Tm)}:∀t:Tm,Vs s t->t.sz<=(aV θ t).sz:=by
 refine Tm.ei fun t ih ht=> ?_
 by_cases h1:t.op=1
 ·rw[ht.eta h1]
  have:=Tm.pC (aV θ (.mk 1 t.n []))
  rw[Tm.iH]
  simp[Tm.kids,oB]
  omega
 ·rw[fZ h1,Tm.iH,Tm.iH (.mk _ _ _)]
  show 1+oB t.kids<=1+oB (t.kids.map (aV θ))
  have key:∀ks:List Tm,(∀k∈ks,k.sz<=(aV θ k).sz)->oB ks<=oB (ks.map (aV θ)):=by
   intro ks
   induction ks with
   |nil=>intro _;simp[oB]
   |cons k ks wY=>
    intro h
    have h1:=h k aF
    have h2:=wY fun y hy=>h y lJ
    rw[List.map_cons,lB,lB]
    omega
  have:=key t.kids fun k hk=>ih k hk (ht.jV hk)
  omega
def vrT(x:TB):Tm:= .mk 1 x.var []
def wF(s:iU):List Tm:=s.binds.map vrT
def w7(s:iU):List Tm:=s.binds.map (·.term)
structure VE (s:iU) (l:List TB):Prop where
 uni:∃f,bG (dh f) (wF s) (w7 s) []=some (l,true)
 W4:gf s.sig l
 gu:∀x∈l,x.term.gu
 eq:∃g b' ρ R,lH (mf false g) (wF s) (w7 s) []=some (0,b')/\lD s.sig b' l ρ R
 val:∀t,jc s.sig t=true->Vs s.sig (aV (ai l) t)/\(aV (ai l) t).gu/\(aV (ai l) t).sz<=1600
theorem RE{s:iU}(h:gO s):(∀t∈wF s,Vs s.sig t/\t.gu)/\∀t∈w7 s,Vs s.sig t/\t.gu:=by
 refine⟨fun t ht=> ?_,fun t ht=> ?_⟩
 ·obtain⟨x,hx,rfl⟩:=List.mem_map.1 ht
  exact⟨Vs.var (h.tp.ok x hx).1,Gy _⟩
 ·obtain⟨x,hx,rfl⟩:=List.mem_map.1 ht
  exact⟨(dF (h.tp.ok x hx).2).1,uq (h.tp.ok x hx).2⟩
theorem Ik{s:iU}(h:gO s):∃l,VE s l/\∃l0 ρ R,lD s.sig (ai s.binds) l0 ρ R/\gf s.sig l0/\CV (ai l0) l:=by
 obtain⟨l0,ρ,R,hS,YU⟩:=uo h.tp.keys h.tp.ok h.tp.N9
 obtain⟨hv,ht⟩:=RE h
 obtain⟨f,r,hr⟩:=wo (wF s) (w7 s) [] gf.nil (fun t h=>(hv t h).1) (fun t h=>(ht t h).1)
 have he:(wF s).map (aV (ai l0))=(w7 s).map (aV (ai l0)):=by
  unfold wF w7
  rw[List.map_map,List.map_map]
  refine List.map_congr_left fun x hx=> ?_
  have h1:bN (ai s.binds) x.var=some x.term:=(jK h.tp.keys).2 (iV hx)
  have h2:=(hS.ok _ _ h1).2.1
  show aV (ai l0) (.mk 1 x.var [])=aV (ai l0) x.term
  rw[jL,h2]
 obtain⟨h1,h2,h3,h4⟩:=CW (wF s) (w7 s) [] r hr gf.nil hv ht (fun _ h=>by cases h) CV.nil he
 obtain⟨l,ok⟩:=r
 have h1:ok=true:=h1
 subst h1
 have h2:CV (ai l0) l:=h2
 have h3:gf s.sig l:=h3
 have h4:∀x∈l,x.term.gu:=h4
 obtain⟨g,e,b',k1,k2⟩:=Gz (wF s) (w7 s) [] (l,true) hr gf.nil (fun t h=>(hv t h).1) (fun t h=>(ht t h).1) [] _ _ lD.nil
 refine⟨l,⟨⟨f,hr⟩,h3,h4, ?_,fun t hq=> ?_⟩,l0,ρ,R,hS,YU,h2⟩
 ·rcases k2 with⟨rfl,_,H9,R',LH⟩|⟨_,k3⟩|⟨_,k3⟩
  ·exact⟨g,b',H9,R',k1,LH⟩
  ·cases k3
  ·cases k3
 ·have hvt:=(dF hq).1
  have v1:=Vs.sub h3.bd t hvt
  refine⟨v1,Tm.sv (qV h4) t (uq hq), ?_⟩
  have e1:=VD (θ:=ai l0) _ v1
  rw[CV.sub h2 hvt]at e1
  have e2:=qP hS (fun p hp=>by obtain⟨x,hx,rfl⟩:=eY hp;exact h.tp.WU x hx) hvt
  have e3:=(dF hq).2.1
  omega
theorem acn{s:iU}(h:gO s)(fG:s.binds≠[]):fX (.mk 0 0 (wF s)) (.mk 0 0 (w7 s))=false:=by
 rw[Bool.eq_false_iff]
 intro hc
 rw[fY]at hc
 injection hc with _ _ hc
 obtain⟨x,hx⟩:=List.exists_mem_of_ne_nil _ fG
 have e:vrT x=x.term:=by
  have:=List.map_inj_left.1 hc x hx
  exact this
 have h1:bN (ai s.binds) x.var=some x.term:=(jK h.tp.keys).2 (iV hx)
 refine h.tp.N9 _ _ h1 (.here ?_)
 rw[<- e]
 exact(gN rfl).2 rfl
end Go.Proofs.YtlhemmpklhhgoaaGreat
set_option maxHeartbeats 8000000
namespace Go.Proofs.YtlhemmpklhhgoaaGreat
end Go.Proofs.YtlhemmpklhhgoaaGreat
set_option maxHeartbeats 4000000
namespace Go.Proofs.YtlhemmpklhhgoaaGreat
theorem nN(l:List kO)(hl:l.length<=1000000):a8 Tryz.prog 73 [.sl (l.map kO.d), .sl (l.map kO.d)] (.ret [.bool true]):=by
 refine a8.aI mix aal aF ?_
 rw[c73]
 refine sG ?_
 refine aB (fun k:Nat=>⟨aX [.d (.sl (l.map kO.d)), .d (.sl (l.map kO.d)), .aa, .aa, .aa, .d (.i k)],fun _=> .no,0⟩)
  (fun k=>k<=l.length) (fun k=>l.length - k) 0 (Nat.zero_le _) (bA.d0 _ ?_) (fun k hk=> ?_)
 ·exact dp
 refine Xb ?_
 refine ak (fun h2=> ?_) (fun h2=> ?_)
 ·simp at h2
  obtain⟨x,hx⟩:=ay h2
  refine RT hx ?_
  refine aN (bc rfl) ?_
  refine bW ?_
  refine aj (k+1) h2 af (bA.d0 _ ?_)
  exact dp
 ·exact Mq
theorem w8(l:List Nt)(hl:l.length<=1000000)(hf:∀x∈l,x.a.fits/\x.b.fits):a8 Tryz.prog 74 [.sl (l.map Nt.d), .sl (l.map Nt.d)] (.ret [.bool true]):=by
 refine a8.aI mix aam aF ?_
 rw[c74]
 refine sG ?_
 refine aB (fun k:Nat=>⟨aX [.d (.sl (l.map Nt.d)), .d (.sl (l.map Nt.d)), .aa, .aa, .aa, .d (.i k)],fun _=> .no,0⟩)
  (fun k=>k<=l.length) (fun k=>l.length - k) 0 (Nat.zero_le _) (bA.d0 _ ?_) (fun k hk=> ?_)
 ·exact dp
 refine Xb ?_
 refine ak (fun h2=> ?_) (fun h2=> ?_)
 ·simp at h2
  obtain⟨x,hx⟩:=ay h2
  have IK:=hf x (List.mem_of_getElem? hx)
  have s1:=r8 x.a IK.1 x.a IK.1
  have s2:=r8 x.b IK.2 x.b IK.2
  rw[pD]at s1 s2
  refine RT hx ?_
  refine aZ s1 rfl ?_
  refine sF hx ?_
  refine aZ s2 rfl ?_
  exact Yq
 ·exact Mq
theorem LY(o:Nat->ad)(mL:Bool)(a b:Int):yF Tryz.prog o 77 mL (.d (.agg [.i a, .i b])) (.d (.agg [.i a, .i b]))=some (.d (.bool true)):=by
 have h1:bH Tryz.prog 77=some (.struct [(3,0),(3,1)]):=ah
 have h3:bH Tryz.prog 3=some .int:=ah
 have h5:cT Tryz.prog 3=some false:=ah
 have h6:oH Tryz.prog 100 77 (.agg [.i a, .i b]) (.agg [.i a, .i b])=some true:=by simp[oH,h1,h3,h5,xp,MC,iC,Di]
 obtain⟨fs,h⟩:∃fs,Tryz.prog.underlying 77=some (.struct fs):=structOf ah
 have h2:Tryz.prog.eqGuardType Tryz.prog.depth 77=false:=ah
 unfold yF
 rw[h]
 dsimp only
 rw[if_pos h2,h6]
 simp
theorem wq(s:iU)(h1:s.sig.cons.length<=1000000)(h2:s.sig.cL.length<=1000000)(h3:s.binds.length<=1000000)(h4:s.aR.length<=1000000)(h5:s.marks.length<=1000000)
 (h6:∀x∈s.binds,x.term.fits) (h7:∀x∈s.aR,x.a.fits/\x.b.fits):a8 Tryz.prog 21 [s.d,s.d] (.ret [.bool true]):=by
 refine a8.aI mix aae aF ?_
 rw[c21]
 refine sG ?_
 refine aB (fun k:Nat=>⟨aX [.aa, .aa, .ptr 0 0, .ptr 1 0, .aa, .d (.i k)],az (az (fun _=> .no) 0 (.row s.row)) 1 (.row s.row),2⟩)
  (fun k=>k<=s.marks.length) (fun k=>s.marks.length - k) 0 (Nat.zero_le _) ?_ (fun k hk=> ?_)
 ·exact Sf
 refine Xc ?_
 refine ak (fun g2=> ?_) (fun g2=> ?_)
 ·simp at g2
  obtain⟨x,hx⟩:=ay g2
  obtain⟨m1,m2⟩:=x
  simp+contextual (disch:=first|omega|simp only[go_sem,false_implies]) only[go_sem,wrap64,if_pos,hx,List.length_map,bne_self_eq_false,LY]
  exact Yf
 ·refine IP ?_
  refine aw (nN s.sig.cons h1) rfl ?_
  refine IP ?_
  refine aw (nN s.sig.cL h2) rfl ?_
  refine IP ?_
  refine aw (jP s.binds h3 h6) rfl ?_
  refine IP ?_
  refine aw (w8 s.aR h4 h7) rfl ?_
  exact Mq
end Go.Proofs.YtlhemmpklhhgoaaGreat
set_option maxHeartbeats 4000000
namespace Go.Proofs.YtlhemmpklhhgoaaGreat
theorem qO.all {sg:aD}{l:List TB}(h:qO sg l):∀p∈ai l,CE (ai l) p.2/\p.2.fits:=fun p hp=>by
 obtain⟨x,hx,rfl⟩:=eY hp
 exact⟨h.WU x hx,Tm.iu x.term (by have:=(dF (h.ok x hx).2).2.1;omega)⟩
end Go.Proofs.YtlhemmpklhhgoaaGreat
set_option maxHeartbeats 8000000
namespace Go.Proofs.YtlhemmpklhhgoaaGreat
end Go.Proofs.YtlhemmpklhhgoaaGreat
set_option maxHeartbeats 8000000
namespace Go.Proofs.YtlhemmpklhhgoaaGreat
theorem GA{s:aD}{x y:Tm}(hx:Vs s x/\x.gu/\x.sz<=1600)(hy:Vs s y/\y.gu/\y.sz<=1600){f:Nat}{r:List TB×Bool}(h:dh f x y []=some r):
 a8 Tryz.prog 67 [.sl [qT (x,y)]] (.ret [.sl (if r.2=true then r.1.map TB.d else []), .bool r.2]):=by
 obtain⟨g,e,b',h1,h2⟩:=Ez (lim:=false) f x y [] r h gf.nil hx.1 hy.1 x y [] _ _ lD.nil hx.1 hy.1 rfl rfl
 have hL:lH (mf false g) (([(x,y)]:List (Tm×Tm)).map (·.1)) (([(x,y)]:List (Tm×Tm)).map (·.2)) []=some (e,b'):=by
  simp only[List.map_cons,List.map_nil,lH,h1]
  by_cases e0:e=0
  ·rw[if_pos e0,e0]
  ·rw[if_neg e0]
 have hq:∀p∈([(x,y)]:List (Tm×Tm)),QT s p.1/\QT s p.2:=fun p hp=>by
  simp at hp
  subst hp
  exact⟨⟨hx.1,by have:=hx.2.2;dsimp only;omega⟩,⟨hy.1,by have:=hy.2.2;dsimp only;omega⟩⟩
 rcases h2 with⟨rfl,h3,H9,R',hS⟩|⟨rfl,h3⟩|⟨_,h3⟩
 ·have hr:r=(r.1,true):=by rw[<- h3]
  have aey:=(jM f x y [] r.1 (by rw[h,hr]) gf.nil hx.1 hy.1).1
  have:=sD hq aF hL (l':=r.1) (ρ:=H9) (R:=R') (fun _=>⟨hS,aey,oo f x y [] r h hx.2.1 hy.2.1 (fun _ h=>by cases h)⟩)
  rw[h3,if_pos rfl]
  exact this
 ·have:=sD hq aF hL (l':=[]) (ρ:=fun _=>0) (R:=0) (fun h=>absurd h bV)
  rw[h3,if_neg (by decide)]
  exact this
 ·cases h3
end Go.Proofs.YtlhemmpklhhgoaaGreat
set_option maxHeartbeats 4000000
namespace Go.Proofs.YtlhemmpklhhgoaaGreat
theorem gO.same {s:iU}(h:s.Cp):a8 Tryz.prog 21 [s.d,s.d] (.ret [.bool true]):=by
 have h3:=h.bl
 have h4:=h.nl
 have h5:=h.ml
 exact wq s h.lc h.lf af af af (fun x hx=>Tm.iu _ (h.bt x hx)) (fun x hx=>⟨Tm.iu _ (h.nt x hx).1,Tm.iu _ (h.nt x hx).2⟩)
end Go.Proofs.YtlhemmpklhhgoaaGreat
set_option maxHeartbeats 8000000
namespace Go.Proofs.YtlhemmpklhhgoaaGreat
theorem mh{s:aD}{t:Tm}(h:jc s t=true):t.Fin:=by
 obtain⟨_,h2,h3⟩:=dF h
 exact⟨Tm.iu t af,af⟩
theorem gO.fin {s:iU}(h:gO s)(hf:s.sig.Fits):s.Fin:=by
 have h1:=h.tp.len
 have h2:=h.Ih
 have h3:=h.Vh
 exact⟨hf,af,af,af,fun x hx=>mh (h.tp.ok x hx).2,fun n hn=>⟨mh (h.aR n hn).1,mh (h.aR n hn).2.1⟩⟩
end Go.Proofs.YtlhemmpklhhgoaaGreat
namespace Go.Proofs.YtlhemmpklhhgoaaGreat
theorem uv{c:Nat}{G:List Gr}{so:Nat->ad}{gone:Nat->Prop}{x x' y y':ad}(h:x=y)(h':x'=y')(hs:wV c G so gone y y'):wV c G so gone x x':=by rw[h,h'];exact hs
@[reducible] def pI (B:Nat->ad) (r c:Nat) (ds:List D) (ty sz:Nat) (es:List D):Nat->ad:=az (az B r (.row (ds.map .d++[.osl c 0]))) c (.arr 0 ty sz es)
theorem Ah{c:Nat}{G:List Gr}{so:Nat->ad}{gone:Nat->Prop}{l l':List V}:∀ds:List D,rX c G so gone l l'->rX c G so gone (ds.map .d++l) (ds.map .d++l')
 |[],h=>h
 |d::ds,h=>uw (Ah ds h)
theorem LZ(B:Nat->ad)(r c:Nat)(ds:List D)(ty sz:Nat)(es:List D):pI B r c ds ty sz es c= .arr 0 ty sz es:=ab _ _ _
theorem L0(B:Nat->ad){r c:Nat}(h:r<c)(ds:List D)(ty sz:Nat)(es:List D):pI B r c ds ty sz es r= .row (ds.map .d++[.osl c 0]):=(ae _ _ _ _ af).trans (ab _ _ _)
theorem yA(B:Nat->ad){r c j:Nat}(h:j≠r)(h2:j≠c)(ds:List D)(ty sz:Nat)(es:List D):pI B r c ds ty sz es j=B j:=(ae _ _ _ _ h2).trans (ae _ _ _ _ h)
theorem Il{B:Nat->ad}{r c:Nat}{ds:List D}{ty sz:Nat}{e:Nat->V}{so:Nat->ad}{m:Nat}(l:List V)(hg:Good B c)(pL:∀j,c<=j->B j= .no)(hr:r<c)(ho:∀j,j<c->j≠r->so j=B j)(cz:so r= .row (ds.map .d++[.aJ]))(dK:0<sz)
 (he:gM c [⟨.aJ,ty,sz,[]⟩] so (fun _=>False) e l 0):bA 0 ⟨e,so,m⟩ ⟨aX l,pI B r c ds ty sz [],c+1⟩:=by
 refine bA.ou (fun _=>False) .aJ c _ af (fun j hj=> ?_) (LZ _ _ _ _ _ _ _) (.inl ⟨rfl,rfl,dK⟩) (fun j hj=> ?_) (fun _ h=>h.elim) he
 ·by_cases e1:j=r
  ·subst e1
   exact uv (y:= .row (ds.map .d++[.aJ])) cz (L0 B hr ds ty sz _) (kS rfl (Ah ds (rm (g:=⟨.aJ,ty,sz,[]⟩) 0 rfl rfl rfl kT)))
  ·exact Xx
 ·exact OO
theorem qW{B:Nat->ad}{r c ep:Nat}{ds:List D}{ty sz:Nat}{es:List D}{e:Nat->V}{so:Nat->ad}{m:Nat}(l:List V)(hg:Good B c)(pL:∀j,c<=j->B j= .no)(hr:r<c)(ho:∀j,j<c->j≠r->so j=B j)(cz:so r= .row (ds.map .d++[.osl c ep]))(c7:so c= .arr ep ty sz es)
 (he:gM c [⟨.osl c ep,ty,sz,es⟩] so (fun j=>j=c) e l 0):bA 0 ⟨e,so,m⟩ ⟨aX l,pI B r c ds ty sz es,c+1⟩:=by
 refine bA.ou (fun j=>j=c) (.osl c ep) c _ af (fun j hj=> ?_) (LZ _ _ _ _ _ _ _) (.inr ⟨c,ep,rfl,rfl,c7⟩) (fun j hj=> ?_) (fun j h h2=>af) he
 ·by_cases e1:j=r
  ·subst e1
   exact uv (y:= .row (ds.map .d++[.osl c ep])) cz (L0 B hr ds ty sz _) (kS rfl (Ah ds (rm (g:=⟨.osl c ep,ty,sz,es⟩) 0 rfl rfl rfl kT)))
  ·exact Xx
 ·exact OO
end Go.Proofs.YtlhemmpklhhgoaaGreat
set_option maxHeartbeats 8000000
namespace Go.Proofs.YtlhemmpklhhgoaaGreat
theorem GC{s:aD}{t:Tm}(h0:t.op=0)(Va:∀k∈t.kids,Vs s k/\k.gu)(C5:t.kids.length<=1000)(l:List TB)(hlen:l.length<=100):a8 Tryz.prog 82 [t.d, .sl (l.map TB.d)] (.ret [(Tm.mk t.op t.n (t.kids.map (aV (ai l)))).d]):=by
 have eg:(t.op==1)=false:=by rw[h0];rfl
 have h8':(t.op==8)=false:=by rw[h0];rfl
 refine a8.aI mix aaq aF ?_
 rw[c82]
 refine rk eg h8' ?_
 refine aB (fun i:Nat=>⟨aX [.aa, .d (.sl (l.map TB.d)), .ptr 0 0, .aa, .ptr 1 0, .aa, .osl 2 0, .d (.i i)],az (az (az (fun _=> .no) 0 (.row t.row)) 1 (.row [.d (.i 0), .d (.i 0), .aJ])) 2 (.arr 0 33 3 (((t.kids.take i).map (aV (ai l))).map Tm.d)),3⟩)
  (fun i=>i<=t.kids.length) (fun i=>t.kids.length - i) 0 (Nat.zero_le _) (bA.ou (ty:=33) (sz:=3) (es:=[]) (fun _=>False) .aJ 2 _ af (lt2 (a7 rfl pQ) (a7 rfl pQ)) (by rw[ab];simp) (.inl ⟨rfl,rfl,bV⟩) (fun j hj=>by(repeat(first|rfl|rw[ab]|rw[ae _ _ _ _ (by omega)]))) (fun _ h=>h.elim) ?_) ?_
 ·exact mE
 rintro k hk
 replace hk:k<=t.kids.length:=hk
 refine sG ?_
 refine ak (fun h2=> ?_) (fun h2=> ?_)
 ·simp at h2
  obtain⟨x,hx⟩:=ay h2
  have bY:=List.mem_of_getElem? hx
  have q8:t.kids.take (k+1)=t.kids.take k++[x]:=by rw[List.take_add_one,hx];rfl
  have e0:(t.kids.take k).length=k:=by rw[List.length_take];omega
  refine GH hx e0 ?_
  refine bD (rs:=[(aV (ai l) x).d]) (oi x (Va x bY).1 (Va x bY).2 l hlen) ?_
  exact zw1
 ·simp at h2
  have C5:k=t.kids.length:=af
  subst C5
  rw[List.take_length]
  refine sG ?_
  rw[Tm.DY]
theorem GD{s:aD}(t:Tm)(h:Vs s t):aV (ai []) t=t:=Cv t h fun v _=>rfl
theorem Im{s:aD}{a c:Tm}(ha0:a.op=0)(PA:c.op=0)(han:a.n=0)(hcn:c.n=0)(hp:∀k∈a.kids,Vs s k/\k.gu)(hc:∀k∈c.kids,Vs s k/\k.gu)(wz:a.kids.length<=1000)(hl:a.kids.length=c.kids.length){f:Nat}{r:List TB×Bool}(h:bG (dh f) a.kids c.kids []=some r)(fG:a.kids≠[]->fX a c=false):
 a8 Tryz.prog 81 [a.d,c.d] (.ret [.sl (r.1.map TB.d), .bool r.2]):=by
 have ep:a.kids.map (aV (ai []))=a.kids:=(List.map_congr_left fun k hk=>GD k (hp k hk).1).trans (List.map_id _)
 have ec:c.kids.map (aV (ai []))=c.kids:=(List.map_congr_left fun k hk=>GD k (hc k hk).1).trans (List.map_id _)
 have sp:=GC ha0 hp wz [] aF
 have sc:=GC PA hc af [] aF
 rw[ep,Tm.eta]at sp
 rw[ec,Tm.eta]at sc
 have fp:a.fits:=by rw[Tm.bK];exact⟨af,fun k hk=>Tm.jQ k (hp k hk).2⟩
 have fc:c.fits:=by rw[Tm.bK];exact⟨af,fun k hk=>Tm.jQ k (hc k hk).2⟩
 have a1:(a.op==1)=false:=by rw[ha0];rfl
 have c1:(c.op==1)=false:=by rw[PA];rfl
 have n3:(a.op !=c.op||a.n !=c.n||(a.kids.length:Int)!=(c.kids.length:Int))=false:=by simp[ha0,PA,han,hcn,hl]
 refine a8.aI mix aap aF ?_
 rw[c81]
 refine bW ?_
 refine bD (rs:=[.sl (r.1.map TB.d), .bool r.2]) ?_ ?_
 ·refine a8.aI mix QJ aF ?_
  rw[Ub]
  refine bW ?_
  refine aU sp ?_
  refine bW ?_
  refine aU sc ?_
  refine bW ?_
  refine aN bV ?_
  refine bW ?_
  refine aw (r8 _ fp _ fc) rfl ?_
  cases tQ:fX a c with
  |true=>
   have he:a.kids=[]:=Classical.byContradiction fun hn=>by rw[fG hn]at tQ;cases tQ
   rw[he]at h
   simp only[bG]at h
   exact Jl
  |false=>
   refine uu a1 c1 n3 ?_
   refine aB (fun i:Nat×List TB×Bool=>⟨aX [.aa, .aa, .d (.sl (i.2.1.map TB.d)), .ptr 0 0, .ptr 1 0, .aa, .aa, .aa, .d (.bool i.2.2), .d (.i i.1)],az (az (fun _=> .no) 0 (.row a.row)) 1 (.row c.row),2⟩)
    (fun i=>i.1<=a.kids.length/\(if i.2.2=true then bG (dh f) (a.kids.drop i.1) (c.kids.drop i.1) i.2.1=some r else(i.2.1,false)=r)/\(i.2.2=true->gf s i.2.1/\∀x∈i.2.1,x.term.gu)) (fun i=>a.kids.length - i.1) (0,[],true) ⟨Nat.zero_le _,h,fun _=>⟨gf.nil,fun _ h=>by cases h⟩⟩ ?_ ?_
   ·dsimp only
    refine bA.bJ _ af af dI (fun j hj=> ?_) ?_
    ·rcases(by omega:j=0\/j=1)with rfl|rfl
     ·exact c6
     ·exact c6
    ·exact dp
   rintro⟨k,l1,is⟩ ⟨hk,aY,mo⟩
   simp only at hk aY mo
   refine sG ?_
   cases is with
   |false=>
    exact Pr
   |true=>
    simp only[if_true]at aY
    obtain⟨nU,hf1⟩:=mo rfl
    by_cases h5:k<a.kids.length
    ·have pR:decide ((k:Int)<(a.kids.length:Int))=true:=by simpa using h5
     obtain⟨x,hx⟩:=ay h5
     have bY:=List.mem_of_getElem? hx
     obtain⟨z,hz⟩:=ay (l:=c.kids) (k:=k) af
     have Ie:=List.mem_of_getElem? hz
     have hdx:a.kids.drop k=x::a.kids.drop (k+1):=by
      exact Sv
     have hdz:c.kids.drop k=z::c.kids.drop (k+1):=by
      obtain⟨h5,h6⟩:=List.getElem?_eq_some_iff.1 hz
      exact R6
     rw[hdx,hdz]at aY
     simp only[bG]at aY
     cases e:dh f x z l1 with
     |none=>rw[e]at aY;cases aY
     |some r1=>
     have dC:=sE f x z l1 r1 e (hp x bY).1 (hp x bY).2 (hc z Ie).1 (hc z Ie).2 nU hf1
     have VA:=oo f x z l1 r1 e (hp x bY).2 (hc z Ie).2 hf1
     rw[e]at aY
     obtain⟨l2,ok⟩:=r1
     refine uu pR hx hz ?_
     refine aU dC ?_
     refine uu pR hx hz ?_
     refine aN (bc rfl) ?_
     refine bW ?_
     refine aj (k+1,l2,ok) ⟨h5, ?_,fun aW=> ?_⟩ kC (bA.bJ _ af af dI (fun j hj=> ?_) ?_)
     ·cases ok with
      |true=>simpa using aY
      |false=>simp only at aY;injection aY
     ·simp only at aW
      subst aW
      exact⟨(jM f x z l1 l2 e nU (hp x bY).1 (hc z Ie).1).1,VA⟩
     ·exact c6
     ·exact dp
    ·have pR:decide ((k:Int)<(a.kids.length:Int))=false:=by simp;omega
     exact Yr
 ·exact pK
end Go.Proofs.YtlhemmpklhhgoaaGreat
set_option maxHeartbeats 8000000
namespace Go.Proofs.YtlhemmpklhhgoaaGreat
structure Fm where
 binds:List TB
 aR:List (List TB)
@[reducible] def Io (l:List TB):D:= .sl (l.map TB.d)
@[reducible] def Fm.d (x:Fm):D:= .agg [.sl (x.binds.map TB.d), .sl (x.aR.map Io)]
@[reducible] def Fm.row (x:Fm):List V:=[.d (.sl (x.binds.map TB.d)), .d (.sl (x.aR.map Io))]
theorem oU(x:Fm)(h1:x.binds.length<=1000000)(h2:x.aR.length<=1000000)(h3:∀y∈x.binds,y.term.fits)(h4:∀l∈x.aR,l.length<=1000000/\∀y∈l,y.term.fits):a8 Tryz.prog 25 [x.d,x.d] (.ret [.bool true]):=by
 refine a8.aI mix aaf aF ?_
 rw[c25]
 refine sG ?_
 refine aB (fun k:Nat=>⟨aX [.aa, .aa, .ptr 0 0, .ptr 1 0, .aa, .d (.i k)],az (az (fun _=> .no) 0 (.row x.row)) 1 (.row x.row),2⟩)
  (fun k=>k<=x.aR.length) (fun k=>x.aR.length - k) 0 (Nat.zero_le _) ?_ (fun k hk=> ?_)
 ·exact Sf
 refine Xc ?_
 refine ak (fun g2=> ?_) (fun g2=> ?_)
 ·simp at g2
  obtain⟨y,hy⟩:=ay g2
  obtain⟨q1,q2⟩:=h4 y (List.mem_of_getElem? hy)
  refine sF hy ?_
  refine aZ (jP y q1 q2) rfl ?_
  refine sF hy ?_
  exact Yf
 ·refine IP ?_
  refine aw (jP x.binds h1 h3) rfl ?_
  exact Mq
def dH(ru:Nt->List TB×Bool)(l:List Nt):List (List TB):=(l.filter fun n=>(ru n).2).map fun n=>(ru n).1
theorem lF(ru:Nt->List TB×Bool)(l:List Nt)(n:Nt):dH ru (l++[n])=dH ru l++(if(ru n).2=true then [(ru n).1]else []):=by
 unfold dH
 rw[List.filter_append,List.map_append]
 by_cases h:(ru n).2=true
 ·simp[h]
 ·simp[h]
theorem Ai(ru:Nt->List TB×Bool)(l:List Nt):(dH ru l).length<=l.length:=by
 unfold dH
 rw[List.length_map]
 exact List.length_filter_le _ _
def RF(s:iU)(k:Nat):Nat->ad:=az (az (az (az (fun _=> .no) 0 (.row s.row)) 1 (.row [.aJ, .aJ])) 2 (.arr 0 33 3 (((w7 s).take k).map Tm.d))) 3 (.arr 0 33 3 (((wF s).take k).map Tm.d))
theorem L1(s:iU)(k:Nat)(gone:Nat->Prop)(xt xv:V)(env:List V)(rV:∀id,gone id->2<=id){e:Nat->V}{so:Nat->ad}{m:Nat}(gt:eL so gone 33 3 (((w7 s).take k).map Tm.d) xt)(gv:eL so gone 33 3 (((wF s).take k).map Tm.d) xv)
 (fG:∀id ep e7,xt= .osl id ep->xv= .osl id e7->False) (s0:so 0= .row s.row) (s1:so 1= .row [.aJ, .aJ]) (he:gM 2 [⟨xt,33,3,((w7 s).take k).map Tm.d⟩,⟨xv,33,3,((wF s).take k).map Tm.d⟩] so gone e env 0):bA 0 ⟨e,so,m⟩ ⟨aX env,RF s k,4⟩:=by
 refine bA.see gone _ 2 env rfl af (fun j hj=> ?_) (fun i g h=> ?_) (fun j hj=> ?_) (fun j h1 h2=>absurd (rV j h1) af) (fun i j gi gj id ep e7 h h' e1 e2=> ?_) he
 ·rcases(show j=0\/j=1 from af)with rfl|rfl
  ·exact eO (y:= .row s.row) (y':= .row s.row) s0 rfl (a7 rfl (fun r hr=>by simp[ad.refs,V.aQ,V.refs]at hr))
  ·exact eO (y:= .row [.aJ, .aJ]) (y':= .row [.aJ, .aJ]) s1 rfl (a7 rfl (fun r hr=>by simp[ad.refs,V.aQ,V.refs]at hr))
 ·match i,h with
  |0,h=>have h:=Option.some.inj h;subst h;exact⟨rfl,gt⟩
  |1,h=>have h:=Option.some.inj h;subst h;exact⟨rfl,gv⟩
 ·show RF s k j= .no
  unfold RF
  have hj:4<=j:=hj
  exact c6
 ·match i,j,h,h' with
  |0,0,_,_=>rfl
  |1,1,_,_=>rfl
  |0,1,h,h'=>have h:=Option.some.inj h;have h':=Option.some.inj h';subst h;subst h';exact(fG _ _ _ e1 e2).elim
  |1,0,h,h'=>have h:=Option.some.inj h;have h':=Option.some.inj h';subst h;subst h';exact(fG _ _ _ e2 e1).elim
def Ou(s:iU)(l:List TB)(L:List (List TB)):Nat->ad:=az (az (az (az (fun _=> .no) 0 (.row s.row)) 1 (.row [.aJ, .aJ])) 9 (.row [.d (.sl (l.map TB.d)), .osl 10 0])) 10 (.arr 0 25 1 (L.map Io))
theorem EL{s:iU}{l:List TB}{L:List (List TB)}(gone:Nat->Prop)(x:V)(env:List V)(rV:∀id,gone id->10<=id){e:Nat->V}{so:Nat->ad}{m:Nat}(gx:eL so gone 25 1 (L.map Io) x)
 (s0:so 0= .row s.row) (s1:so 1= .row [.aJ, .aJ]) (s9:so 9= .row [.d (.sl (l.map TB.d)),x]) (he:gM 10 [⟨x,25,1,L.map Io⟩] so gone e env 0):bA 0 ⟨e,so,m⟩ ⟨aX env,Ou s l L,11⟩:=by
 refine bA.ou gone x 10 env af (fun j hj=> ?_) rfl gx (fun j hj=> ?_) (fun j h1 h2=>absurd (rV j h1) af) he
 ·by_cases e0:j=0
  ·subst e0;exact eO (y:= .row s.row) (y':= .row s.row) s0 rfl (a7 rfl (fun r hr=>by simp[ad.refs,V.aQ,V.refs]at hr))
  by_cases e1:j=1
  ·subst e1;exact eO (y:= .row [.aJ, .aJ]) (y':= .row [.aJ, .aJ]) s1 rfl (a7 rfl (fun r hr=>by simp[ad.refs,V.aQ,V.refs]at hr))
  by_cases e9:j=9
  ·subst e9;exact eO (y:= .row [.d (.sl (l.map TB.d)),x]) (y':= .row [.d (.sl (l.map TB.d)), .osl 10 0]) s9 rfl (kS rfl (uw (rm 0 rfl rfl rfl kT)))
  have:Ou s l L j= .no:=by unfold Ou;(repeat(first|rfl|rw[ab]|rw[ae _ _ _ _ (by omega)]))
  rw[this];exact kx
 ·unfold Ou;(repeat(first|rfl|rw[ab]|rw[ae _ _ _ _ (by omega)]))
theorem CX{s:iU}(h:gO s){l:List TB}(hl:VE s l){ru:Nt->List TB×Bool}(Mn:∀n∈s.aR,∃f,dh f (aV (ai l) n.a) (aV (ai l) n.b) []=some (ru n)):a8 Tryz.prog 26 [s.d] (.ret [Fm.d ⟨l,dH ru s.aR⟩]):=by
 have tA:=h.tp.len
 have wA:=h.Ih
 have e1:(wF s).length=s.binds.length:=List.length_map _
 have e2:(w7 s).length=s.binds.length:=List.length_map _
 obtain⟨hv,ht⟩:=RE h
 refine a8.aI mix adM aF ?_
 rw[c26]
 refine bW ?_
 refine aB (fun k:Nat=>⟨aX [.aa, .ptr 0 0, .ptr 1 0, .osl 2 0, .osl 3 0, .d (.i k)],RF s k,4⟩)
  (fun k=>k<=s.binds.length) (fun k=>s.binds.length - k) 0 (Nat.zero_le _) ?_ (fun k hk=> ?_)
 ·refine L1 s 0 (fun _=>False) .aJ .aJ _ (fun _ h=>h.elim) (.inl ⟨rfl,rfl,bV⟩) (.inl ⟨rfl,rfl,bV⟩) (fun id ep e7 h _=>by cases h) c6 c6 ?_
  (repeat(first|exact eC|refine dw ?_|refine cN rfl ?_|refine cN (jZ (mi af)) ?_|refine iN 0 rfl rfl rfl ?_|refine jk rfl Mb ?_|refine jl rfl Mc ?_))
  exact O6
 replace hk:k<=s.binds.length:=hk
 have q0:RF s k 0= .row s.row:=rfl
 have q1:RF s k 1= .row [.aJ, .aJ]:=rfl
 have q2:RF s k 2= .arr 0 33 3 (((w7 s).take k).map Tm.d):=rfl
 have q3:RF s k 3= .arr 0 33 3 (((wF s).take k).map Tm.d):=rfl
 have l1:((wF s).take k).length=k:=by rw[List.length_take];omega
 have l2:((w7 s).take k).length=k:=by rw[List.length_take];omega
 have fL:k<=140737488355327/\(k+1)*24<=140737488355328:=af
 refine Ax q0 q1 q2 q3 ?_
 refine ak (fun h6=> ?_) (fun h6=> ?_)
 ·replace h6:k<s.binds.length:=by simp at h6;omega
  obtain⟨x,hx⟩:=ay h6
  have tV:(wF s).take (k+1)=(wF s).take k++[vrT x]:=by rw[List.take_add_one,wF,List.getElem?_map,hx];rfl
  have tT:(w7 s).take (k+1)=(w7 s).take k++[x.term]:=by rw[List.take_add_one,w7,List.getElem?_map,hx];rfl
  refine Da q0 q1 q2 q3 hx ?_
  refine bD (K5 _) ?_
  simp+contextual (disch:=first|omega|simp only[go_sem,false_implies]) only[go_sem,wrap64,if_pos,q0,q1,q2,q3,hx,List.length_map,l1,l2,fL]
  refine aj (k+1) h6 af (L1 s (k+1) (fun j=>2<=j) (.osl 2 1) (.osl 3 1) _ (fun _ h=>h) (.inr ⟨2,1,af,rfl,by(repeat(first|rfl|rw[ab]|rw[ae _ _ _ _ (by omega)]));rw[tT,List.map_append];rfl⟩) (.inr ⟨3,1,af,rfl,by(repeat(first|rfl|rw[ab]|rw[ae _ _ _ _ (by omega)]));rw[tV,List.map_append];rfl⟩) (fun id ep e7 h h'=>by cases h;cases h') c6 c6 ?_)
  (repeat(first|exact eC|refine dw ?_|refine cN rfl ?_|refine cN (jZ (mi af)) ?_|refine iN 0 rfl rfl rfl ?_|refine jk rfl Mb ?_|refine jl rfl Mc ?_))
  exact O6
 ·replace h6:k=s.binds.length:=by simp at h6;omega
  subst h6
  rw[List.take_of_length_le (by omega)]at q2 q3
  refine Ax q0 q1 q2 q3 ?_
  obtain⟨fu,hfu⟩:=hl.uni
  have hun:=Im (a:= .mk 0 0 (wF s)) (c:= .mk 0 0 (w7 s)) rfl rfl rfl rfl hv ht (by simp only[Tm.kids];omega) (by simp only[Tm.kids];omega) hfu (fun fG=>acn h fun e=>fG (by simp only[Tm.kids,wF,e,List.map_nil]))
  simp only[Tm.DY]at hun
  refine bD hun ?_
  refine GH q0 q1 ?_
  refine aB (fun k:Nat=>⟨aX [.aa, .ptr 0 0, .ptr 1 0, .aa, .aa, .aa, .ptr 9 0, .d (.i k)],Ou s l (dH ru (s.aR.take k)),11⟩)
   (fun k=>k<=s.aR.length) (fun k=>s.aR.length - k) 0 (Nat.zero_le _) ?_ (fun k hk=> ?_)
  ·refine EL (fun _=>False) .aJ _ (fun _ h=>h.elim) (.inl ⟨rfl,rfl,bV⟩) c6 c6 c6 ?_
   exact mE
  replace hk:k<=s.aR.length:=hk
  have r0:Ou s l (dH ru (s.aR.take k)) 0= .row s.row:=rfl
  have r1:Ou s l (dH ru (s.aR.take k)) 1= .row [.aJ, .aJ]:=rfl
  have r9:Ou s l (dH ru (s.aR.take k)) 9= .row [.d (.sl (l.map TB.d)), .osl 10 0]:=rfl
  have Mo:Ou s l (dH ru (s.aR.take k)) 10= .arr 0 25 1 ((dH ru (s.aR.take k)).map Io):=rfl
  have hl3:(dH ru (s.aR.take k)).length<=12:=by have:=Ai ru (s.aR.take k);rw[List.length_take]at this;omega
  refine Ax r0 r1 r9 Mo ?_
  refine ak (fun h6=> ?_) (fun h6=> ?_)
  ·replace h6:k<s.aR.length:=by simp at h6;omega
   obtain⟨n,hn⟩:=ay h6
   have tU:=List.mem_of_getElem? hn
   have II:s.aR.take (k+1)=s.aR.take k++[n]:=by rw[List.take_add_one,hn];rfl
   obtain⟨na,nb,_⟩:=h.aR n tU
   obtain⟨fn,AD⟩:=Mn n tU
   obtain⟨va1,va2,va3⟩:=hl.val _ na
   obtain⟨vb1,vb2,vb3⟩:=hl.val _ nb
   have hll:l.length<=100:=by have:=hl.W4.len;omega
   refine Da r0 r1 r9 Mo hn ?_
   refine aU (oi n.a (dF na).1 (uq na) l hll) ?_
   refine Da r0 r1 r9 Mo hn ?_
   refine aU (oi n.b (dF nb).1 (uq nb) l hll) ?_
   refine Da r0 r1 r9 Mo hn ?_
   refine aU (LX AD va1 va2 vb1 vb2) ?_
   refine Da r0 r1 r9 Mo hn ?_
   refine aN (bc rfl) ?_
   have fL:(dH ru (s.aR.take k)).length<=140737488355327/\((dH ru (s.aR.take k)).length+1)*24<=140737488355328:=af
   cases rh:(ru n).2 with
   |false=>
    have L2:dH ru (s.aR.take (k+1))=dH ru (s.aR.take k):=by rw[II,lF,rh];simp
    refine Ax r0 r1 r9 Mo ?_
    refine aj (k+1) h6 af ?_
    rw[L2]
    refine EL (fun j=>10<=j) (.osl 10 0) _ (fun _ h=>h) (.inr ⟨10,0,af,rfl,Mo⟩) r0 r1 r9 ?_
    exact mE
   |true=>
    have L2:dH ru (s.aR.take (k+1))=dH ru (s.aR.take k)++[(ru n).1]:=by rw[II,lF,rh];simp
    refine Da r0 r1 r9 Mo fL ?_
    refine aj (k+1) h6 af ?_
    rw[L2]
    refine EL (fun j=>10<=j) (.osl 10 1) _ (fun _ h=>h) (.inr ⟨10,1,af,rfl,by(repeat(first|rfl|rw[ab]|rw[ae _ _ _ _ (by omega)]));rw[List.map_append];rfl⟩) c6 c6 c6 ?_
    exact mE
  ·replace h6:k=s.aR.length:=by simp at h6;omega
   subst h6
   rw[List.take_length]at r0 r1 r9 Mo|-
   simp+contextual (disch:=first|omega|simp only[go_sem,false_implies]) only[go_sem,wrap64,if_pos,r0,r1,r9,Mo,List.length_map]
end Go.Proofs.YtlhemmpklhhgoaaGreat
set_option maxHeartbeats 8000000
namespace Go.Proofs.YtlhemmpklhhgoaaGreat
theorem GF{O:Nat->ad}{b c ty sz:Nat}{es:List D}(hg:Good O c)(hb:b<=c)(gone:Nat->Prop)(x:V)(env:List V)(rV:∀id,gone id->c<=id){e:Nat->V}{so:Nat->ad}{m:Nat}(gx:eL so gone ty sz es x)(ho:∀j,j<c->so j=O j)(he:gM c [⟨x,ty,sz,es⟩] so gone e env 0):
 bA b ⟨e,so,m⟩ ⟨aX env,az O c (.arr 0 ty sz es),c+1⟩:=by
 refine bA.ou gone x c env hb (fun j hj=> ?_) (ab _ _ _) gx (fun j hj=> ?_) (fun j h1 h2=>absurd (rV j h1) af) he
 ·rw[ae _ _ _ _ (by omega)]
  exact a7 (ho j hj) (fun r hr=>hg.refs j r hr)
 ·rw[ae _ _ _ _ (by omega)]
  exact hg.fresh j af
def EM:Fm:=⟨[],[]⟩
theorem wu:EM.d= .agg [.sl [], .sl []]:=rfl
def C7(s:iU):List (Tm×Tm):=s.binds.map fun x=>(vrT x,x.term)
theorem Ov{s:aD}{l:List TB}(h:gf s l):∃ρ R,lD s (ai l) l ρ R:=by
 refine⟨fun v=>if bN (ai l) v=none then 0 else 1,1,EK h,fun v=>Iff.rfl,fun v x hx=> ?_,fun v=> ?_⟩
 ·have hm:=cJ hx
  obtain⟨y,hy,e⟩:=eY hm
  have e2:y.term=x:=(congrArg Prod.snd e).symm
  have hi:=h.idem y hy
  rw[e2]at hi
  have hv:Vs s x:=e2 ▸ (h.ok y hy).2
  refine⟨hv, ?_,fun u hu=> ?_⟩
  ·rw[Cv x hv hi];simp[Lv,hx]
  ·rw[if_pos (hi u hu),if_neg (by rw[hx];exact Option.some_ne_none _)]
   omega
 ·split<;>omega
theorem Ip(s:iU)(hs:s.Fin)(h: ¬gO s):a8 Tryz.prog 24 [s.d] (.ret [EM.d, .i 2]):=by
 refine a8.aI mix T1 aF ?_
 rw[c24]
 refine kR ?_
 refine dD (Gu s hs _ _ dI _ _ (fun h1=>absurd h1 h) (fun _ o' nx' id m i1 i0 i2 i3 i4=> ?_))
 have e1:o' 1= .row [.aJ, .aJ]:=(i3 1 af).trans c6
 simp+contextual (disch:=first|omega|simp only[go_sem,false_implies]) only[go_sem,wrap64,if_pos,Nat.add_assoc,Nat.left_eq_add,Nat.add_eq_left,Nat.add_left_cancel_iff,e1,wu]
theorem EN(s:iU)(hs:s.Fin)(h:gO s){l:List TB}(hl:VE s l){ru:Nt->List TB×Bool}(Mn:∀n∈s.aR,∃f,dh f (aV (ai l) n.a) (aV (ai l) n.b) []=some (ru n)):a8 Tryz.prog 24 [s.d] (.ret [Fm.d ⟨l,dH ru s.aR⟩, .i 0]):=by
 have tA:=h.tp.len
 have wA:=h.Ih
 have wz:(C7 s).length=s.binds.length:=List.length_map _
 refine a8.aI mix T1 aF ?_
 rw[c24]
 refine kR ?_
 refine dD (Gu s hs _ _ dI _ _ (fun _ o' nx' id i1 i2 i3 i4=> ?_) (fun hn=>absurd h hn))
 have e1:o' 1= .row [.aJ, .aJ]:=(i3 1 af).trans c6
 have au:id<nx':=Good.lt i2 (by rw[i4];exact fun h=>nomatch h)
 simp+contextual (disch:=first|omega|simp only[go_sem,false_implies]) only[go_sem,wrap64,if_pos,Nat.add_assoc,Nat.left_eq_add,Nat.add_eq_left,Nat.add_left_cancel_iff,e1,List.length_map]
 obtain⟨O,hO⟩:∃O,O=az (az o' (nx'+3) (.row [.aJ, .aJ, .aJ, .aJ, .aJ, .d .fj])) (nx'+3) (.row (s.row++[.mp id])):=⟨_,rfl⟩
 have hgO:Good O (nx'+4):=by
  rw[hO]
  refine Good.az (Good.az (i2.mono af) af rfl) af ?_
  simp[ad.refs,V.aQ,V.refs]
  omega
 have O1:O 1= .row [.aJ, .aJ]:=by rw[hO];(repeat(first|rfl|rw[ab]|rw[ae _ _ _ _ (by omega)]));exact e1
 have O3:O (nx'+3)= .row (s.row++[.mp id]):=by rw[hO];(repeat(first|rfl|rw[ab]|rw[ae _ _ _ _ (by omega)]))
 have w1:∀k,(1:Nat)≠nx'+k:=fun k=>af
 refine aB (fun k:Nat=>⟨aX [.aa, .aa, .ptr 1 0, .aa, .ptr (nx'+3) 0, .aa, .osl (nx'+4) 0, .aa, .aa, .aa, .aa, .aa, .aa, .aa, .aa, .aa, .aa, .aa, .aa, .aa, .aa, .aa, .aa, .aa, .aa, .aa, .aa, .d (.sl (s.binds.map TB.d)), .d (.i s.binds.length), .d (.i k)],az O (nx'+4) (.arr 0 106 6 (((C7 s).take k).map qT)),nx'+5⟩)
  (fun k=>k<=s.binds.length) (fun k=>s.binds.length - k) 0 (Nat.zero_le _) ?_ (fun k hk=> ?_)
 ·refine GF hgO af (fun _=>False) .aJ _ (fun _ h=>h.elim) (.inl ⟨rfl,rfl,bV⟩) (fun j hj=>by rw[hO];rfl) ?_
  exact mE
 replace hk:k<=s.binds.length:=hk
 have q1:az O (nx'+4) (.arr 0 106 6 (((C7 s).take k).map qT)) 1= .row [.aJ, .aJ]:=by rw[ae _ _ _ _ (by omega)];exact O1
 have q3:az O (nx'+4) (.arr 0 106 6 (((C7 s).take k).map qT)) (nx'+3)= .row (s.row++[.mp id]):=by rw[ae _ _ _ _ (by omega)];exact O3
 have l1:((C7 s).take k).length=k:=by rw[List.length_take];omega
 have fL:k<=140737488355327/\(k+1)*72<=140737488355328:=af
 refine RL w1 ?_
 refine ak (fun h6=> ?_) (fun h6=> ?_)
 ·replace h6:k<s.binds.length:=by simp at h6;omega
  obtain⟨x,hx⟩:=ay h6
  have tP:(C7 s).take (k+1)=(C7 s).take k++[(vrT x,x.term)]:=by rw[List.take_add_one,C7,List.getElem?_map,hx];rfl
  simp+contextual (disch:=first|omega|simp only[go_sem,false_implies]) only[go_sem,wrap64,if_pos,O1,O3,w1,hx,Nat.add_assoc,Nat.left_eq_add,Nat.add_eq_left,Nat.add_left_cancel_iff,List.length_map,l1,fL]
  refine aj (k+1) h6 af (GF hgO af (fun j=>nx'+4<=j) (.osl (nx'+4) 1) _ (fun _ h=>h) (.inr ⟨nx'+4,1,af,rfl,by(repeat(first|rfl|rw[ab]|rw[ae _ _ _ _ (by omega)]));rw[tP,List.map_append];rfl⟩) (fun j hj=>by(repeat(first|rfl|rw[ab]|rw[ae _ _ _ _ (by omega)]))) ?_)
  exact mE
 ·replace h6:k=s.binds.length:=by simp at h6;omega
  subst h6
  rw[List.take_of_length_le (by omega)]
  refine RL w1 ?_
  have hun:a8 Tryz.prog 67 [.sl ((C7 s).map qT)] (.ret [.sl (l.map TB.d), .bool true]):=by
   obtain⟨g,b',ρ,R,k1,k2⟩:=hl.eq
   have ev:(C7 s).map (·.1)=wF s:=by unfold C7 wF;rw[List.map_map];rfl
   have et:(C7 s).map (·.2)=w7 s:=by unfold C7 w7;rw[List.map_map];rfl
   have hq:∀p∈C7 s,QT s.sig p.1/\QT s.sig p.2:=fun p hp=>by
    obtain⟨x,hx,rfl⟩:=List.mem_map.1 hp
    exact⟨QT.var (h.tp.ok x hx).1,Vk (h.tp.ok x hx).2⟩
   exact sD hq af (by rw[ev,et];exact k1) (fun _=>⟨k2,hl.W4,hl.gu⟩)
  refine bD hun ?_
  refine RL w1 ?_
  obtain⟨B,hB⟩:∃B,B=az (az (az (az O (nx'+4) (.arr 0 106 6 ((C7 s).map qT))) (nx'+6) (.row [.aJ, .aJ])) (nx'+4) (.tw 0 ((C7 s).map qT))) (nx'+6) (.row [.d (.sl (l.map TB.d)), .aJ]):=⟨_,rfl⟩
  have hgB:Good B (nx'+14):=by
   rw[hB]
   exact Good.az (Good.az (Good.az (Good.az (hgO.mono af) af rfl) af rfl) af rfl) af rfl
  have B1:B 1= .row [.aJ, .aJ]:=by rw[hB];(repeat(first|rfl|rw[ab]|rw[ae _ _ _ _ (by omega)]));exact O1
  have B3:B (nx'+3)= .row (s.row++[.mp id]):=by rw[hB];(repeat(first|rfl|rw[ab]|rw[ae _ _ _ _ (by omega)]));exact O3
  have B6:B (nx'+6)= .row [.d (.sl (l.map TB.d)), .aJ]:=by rw[hB];(repeat(first|rfl|rw[ab]|rw[ae _ _ _ _ (by omega)]))
  have hll:l.length<=20:=hl.W4.len
  refine aB (fun k:Nat=>⟨aX [.aa, .aa, .ptr 1 0, .aa, .ptr (nx'+3) 0, .aa, .aa, .aa, .aa, .ptr (nx'+6) 0, .mp (nx'+14), .aa, .aa, .aa, .aa, .aa, .aa, .aa, .aa, .aa, .aa, .aa, .aa, .aa, .aa, .aa, .aa, .aa, .aa, .aa, .aa, .aa, .aa, .aa, .aa, .aa, .aa, .aa, .aa, .aa, .aa, .aa, .aa, .aa, .aa, .aa, .aa, .aa, .aa, .aa, .aa, .d (.sl (l.map TB.d)), .d (.i l.length), .d (.i k)],az B (nx'+14) (dt (ai (l.take k))),nx'+15⟩)
   (fun k=>k<=l.length) (fun k=>l.length - k) 0 (Nat.zero_le _) ?_ (fun k hk=> ?_)
  ·refine bA.bJ _ af af (Good.az (hgB.mono af) af rfl) (fun j hj=>by rw[hB];rfl) ?_
   exact dp
  replace hk:k<=l.length:=hk
  refine W5 w1 ?_
  refine ak (fun h6=> ?_) (fun h6=> ?_)
  ·replace h6:k<l.length:=by simp at h6;omega
   obtain⟨x,hx⟩:=ay h6
   have q8:=we l hx
   have Ru:bN (ai (l.take k)) x.var=none:=by
    rw[jJ]
    intro hm
    have wQ:=EK hl.W4
    have h7:((ai (l.take (k+1))).map (·.1)).Nodup:=wQ.sublist (((List.take_sublist _ _).map _).map _)
    rw[q8,List.map_append,List.nodup_append]at h7
    exact h7.2.2 x.var hm x.var aF rfl
   simp+contextual (disch:=first|omega|simp only[go_sem,false_implies]) only[go_sem,wrap64,if_pos,B1,B3,B6,w1,hx,Nat.add_assoc,Nat.left_eq_add,Nat.add_eq_left,Nat.add_left_cancel_iff,List.length_map,dn Ru]
   refine aj (k+1) h6 af (bA.bJ _ af af (Good.az (hgB.mono af) af rfl) (fun j hj=> ?_) ?_)
   ·have hj:j<nx'+15:=hj
    rw[q8]
    by_cases e:j=nx'+14
    ·subst e;(repeat(first|rfl|rw[ab]|rw[ae _ _ _ _ (by omega)]));rw[vZ Ru]
    ·exact c6
   ·exact dp
  ·replace h6:k=l.length:=by simp at h6;omega
   subst h6
   rw[List.take_length]
   refine W5 w1 ?_
   obtain⟨ρs,Rs,hSl⟩:=Ov hl.W4
   have GG:∀p∈ai l,p.2.fits:=fun p hp=>by
    obtain⟨x,hx,rfl⟩:=eY hp
    exact Tm.jQ _ (hl.gu x hx)
   have L3:∀M:ad,(M=dt (ai l)\/M= .bU (enc (D.int .i64) (jW (ai l))))->Good (az B (nx'+14) M) (nx'+15):=fun M hM=>Good.az (hgB.mono af) af (by rcases hM with rfl|rfl<;>rfl)
   refine aB (fun i:Nat×ad=>⟨aX [.aa, .aa, .ptr 1 0, .aa, .aa, .aa, .aa, .aa, .aa, .ptr (nx'+6) 0, .mp (nx'+14), .aa, .aa, .aa, .aa, .aa, .aa, .aa, .aa, .aa, .aa, .aa, .aa, .aa, .aa, .aa, .aa, .aa, .aa, .aa, .aa, .aa, .aa, .aa, .aa, .aa, .aa, .aa, .aa, .aa, .aa, .aa, .aa, .aa, .aa, .aa, .aa, .aa, .aa, .aa, .aa, .aa, .aa, .aa, .aa, .aa, .aa, .aa, .aa, .aa, .aa, .aa, .aa, .aa, .aa, .d (.sl (s.aR.map Nt.d)), .d (.i s.aR.length), .d (.i i.1)],pI (az B (nx'+14) i.2) (nx'+6) (nx'+15) [.sl (l.map TB.d)] 25 1 ((dH ru (s.aR.take i.1)).map Io),nx'+16⟩)
    (fun i=>i.1<=s.aR.length/\(i.2=dt (ai l)\/i.2= .bU (enc (D.int .i64) (jW (ai l))))) (fun i=>s.aR.length - i.1) (0,dt (ai l)) ⟨Nat.zero_le _, .inl rfl⟩ ?_ ?_
   ·refine Il (ds:=[.sl (l.map TB.d)]) _ (L3 _ (.inl rfl)) (fun j hj=>(L3 _ (.inl rfl)).fresh j hj) af (fun j hj fG=>rfl) (by(repeat(first|rfl|rw[ab]|rw[ae _ _ _ _ (by omega)]));exact B6) bV ?_
    exact mE
   rintro⟨k,M⟩ ⟨hk,hM⟩
   dsimp only at hk hM|-
   have hgm:=L3 M hM
   have m1:pI (az B (nx'+14) M) (nx'+6) (nx'+15) [.sl (l.map TB.d)] 25 1 ((dH ru (s.aR.take k)).map Io) 1= .row [.aJ, .aJ]:=by unfold pI;(repeat(first|rfl|rw[ab]|rw[ae _ _ _ _ (by omega)]));exact B1
   have m6:pI (az B (nx'+14) M) (nx'+6) (nx'+15) [.sl (l.map TB.d)] 25 1 ((dH ru (s.aR.take k)).map Io) (nx'+6)= .row [.d (.sl (l.map TB.d)), .osl (nx'+15) 0]:=by unfold pI;(repeat(first|rfl|rw[ab]|rw[ae _ _ _ _ (by omega)]))
   have C8:pI (az B (nx'+14) M) (nx'+6) (nx'+15) [.sl (l.map TB.d)] 25 1 ((dH ru (s.aR.take k)).map Io) (nx'+14)=M:=by unfold pI;(repeat(first|rfl|rw[ab]|rw[ae _ _ _ _ (by omega)]))
   have AA:pI (az B (nx'+14) M) (nx'+6) (nx'+15) [.sl (l.map TB.d)] 25 1 ((dH ru (s.aR.take k)).map Io) (nx'+15)= .arr 0 25 1 ((dH ru (s.aR.take k)).map Io):=by unfold pI;(repeat(first|rfl|rw[ab]|rw[ae _ _ _ _ (by omega)]))
   have hl3:(dH ru (s.aR.take k)).length<=12:=by have:=Ai ru (s.aR.take k);rw[List.length_take]at this;omega
   have fL:(dH ru (s.aR.take k)).length<=140737488355327/\((dH ru (s.aR.take k)).length+1)*24<=140737488355328:=af
   obtain⟨Q,hQ⟩:∃Q,Q=pI (az B (nx'+14) M) (nx'+6) (nx'+15) [.sl (l.map TB.d)] 25 1 ((dH ru (s.aR.take k)).map Io):=⟨_,rfl⟩
   rw[<- hQ]at m1 m6 C8 AA|-
   refine RP m1 m6 C8 AA w1 ?_
   refine ak (fun h6=> ?_) (fun h6=> ?_)
   ·replace h6:k<s.aR.length:=by simp at h6;omega
    obtain⟨n,hn⟩:=ay h6
    have tU:=List.mem_of_getElem? hn
    have II:s.aR.take (k+1)=s.aR.take k++[n]:=by rw[List.take_add_one,hn];rfl
    obtain⟨na,nb,_⟩:=h.aR n tU
    obtain⟨fn,AD⟩:=Mn n tU
    have va:=hl.val _ na
    have vb:=hl.val _ nb
    have fa:=tn hSl _ n.a (dF na).1 (Nat.le_refl _)
    have fb:=tn hSl _ n.b (dF nb).1 (Nat.le_refl _)
    rcases hM with hM|hM
    ·rw[hM]at C8
     refine Ir m1 m6 C8 AA w1 hn ?_
     refine aU (su GG _ n.a _ (mh na).fits fa af) ?_
     refine Ir m1 m6 C8 AA w1 hn ?_
     refine aU (su GG _ n.b _ (mh nb).fits fb af) ?_
     refine Ir m1 m6 C8 AA w1 hn ?_
     refine aU (GA va vb AD) ?_
     refine Ir m1 m6 C8 AA w1 hn ?_
     refine aN (eM (ids:=[nx'+19,nx'+14,nx'+30]) (nx:=nx'+37) aF aF [([],[]),([0],[]),([0],[]),([1],[1]),([],[]),([0],[]),([0],[]),([1],[1]),([],[]),([],[2]),([2],[2]),([],[]),([],[]),([],[]),([],[]),([],[])] bV) ?_
     cases rh:(ru n).2 with
     |false=>
      have L2:dH ru (s.aR.take (k+1))=dH ru (s.aR.take k):=by rw[II,lF,rh];simp
      refine RP m1 m6 C8 AA w1 ?_
      refine aj (k+1, .bU (enc (D.int .i64) (jW (ai l)))) ⟨h6, .inr rfl⟩ kC ?_
      dsimp only
      rw[L2]
      refine qW (ep:=0) (ds:=[.sl (l.map TB.d)]) _ (L3 _ (.inr rfl)) (fun j hj=>(L3 _ (.inr rfl)).fresh j hj) af (fun j hj fG=> ?_) X1 XZ ?_
      ·by_cases e:j=nx'+14
       ·exact oV
       ·(repeat(first|rfl|rw[ab]|rw[ae _ _ _ _ (by omega)]))
        exact Mw
      ·exact mE
     |true=>
      have L2:dH ru (s.aR.take (k+1))=dH ru (s.aR.take k)++[(ru n).1]:=by rw[II,lF,rh];simp
      refine Ir m1 m6 C8 AA w1 fL ?_
      refine aj (k+1, .bU (enc (D.int .i64) (jW (ai l)))) ⟨h6, .inr rfl⟩ kC ?_
      dsimp only
      rw[L2]
      refine qW (ep:=1) (ds:=[.sl (l.map TB.d)]) _ (L3 _ (.inr rfl)) (fun j hj=>(L3 _ (.inr rfl)).fresh j hj) af (fun j hj fG=> ?_) c6 XG ?_
      ·by_cases e:j=nx'+14
       ·exact oV
       ·(repeat(first|rfl|rw[ab]|rw[ae _ _ _ _ (by omega)]))
        exact Mw
      ·exact mE
    ·rw[hM]at C8
     refine Ir m1 m6 C8 AA w1 hn ?_
     refine aU (su GG _ n.a _ (mh na).fits fa af) ?_
     refine Ir m1 m6 C8 AA w1 hn ?_
     refine aU (su GG _ n.b _ (mh nb).fits fb af) ?_
     refine Ir m1 m6 C8 AA w1 hn ?_
     refine aU (GA va vb AD) ?_
     refine Ir m1 m6 C8 AA w1 hn ?_
     refine aN (eM (ids:=[nx'+19,nx'+14,nx'+30]) (nx:=nx'+37) aF aF [([],[]),([0],[]),([0],[]),([1],[1]),([],[]),([0],[]),([0],[]),([1],[1]),([],[]),([],[2]),([2],[2]),([],[]),([],[]),([],[]),([],[]),([],[])] bV) ?_
     cases rh:(ru n).2 with
     |false=>
      have L2:dH ru (s.aR.take (k+1))=dH ru (s.aR.take k):=by rw[II,lF,rh];simp
      refine RP m1 m6 C8 AA w1 ?_
      refine aj (k+1, .bU (enc (D.int .i64) (jW (ai l)))) ⟨h6, .inr rfl⟩ kC ?_
      dsimp only
      rw[L2]
      refine qW (ep:=0) (ds:=[.sl (l.map TB.d)]) _ (L3 _ (.inr rfl)) (fun j hj=>(L3 _ (.inr rfl)).fresh j hj) af (fun j hj fG=> ?_) X1 XZ ?_
      ·by_cases e:j=nx'+14
       ·exact oV
       ·(repeat(first|rfl|rw[ab]|rw[ae _ _ _ _ (by omega)]))
        exact Mw
      ·exact mE
     |true=>
      have L2:dH ru (s.aR.take (k+1))=dH ru (s.aR.take k)++[(ru n).1]:=by rw[II,lF,rh];simp
      refine Ir m1 m6 C8 AA w1 fL ?_
      refine aj (k+1, .bU (enc (D.int .i64) (jW (ai l)))) ⟨h6, .inr rfl⟩ kC ?_
      dsimp only
      rw[L2]
      refine qW (ep:=1) (ds:=[.sl (l.map TB.d)]) _ (L3 _ (.inr rfl)) (fun j hj=>(L3 _ (.inr rfl)).fresh j hj) af (fun j hj fG=> ?_) c6 XG ?_
      ·by_cases e:j=nx'+14
       ·exact oV
       ·(repeat(first|rfl|rw[ab]|rw[ae _ _ _ _ (by omega)]))
        exact Mw
      ·exact mE
   ·replace h6:k=s.aR.length:=by simp at h6;omega
    subst h6
    rw[List.take_length]at AA
    simp+contextual (disch:=first|omega|simp only[go_sem,false_implies]) only[go_sem,wrap64,if_pos,m1,m6,AA,w1,Nat.add_assoc,Nat.left_eq_add,Nat.add_eq_left,Nat.add_left_cancel_iff,List.length_map]
end Go.Proofs.YtlhemmpklhhgoaaGreat
