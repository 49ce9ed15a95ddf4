/-
  A PART OF THE PROOF. Conditions: none.
-/
import Derived.Test.YtlhemmpklhhgoaaGreatQo18
set_option linter.unusedSimpArgs false
set_option linter.unusedVariables false
set_option maxHeartbeats 8000000
namespace Go.Proofs.YtlhemmpklhhgoaaGreat
def eqE(nx x:Nat):List V:=[.ptr x 0, .ab, .ab, .ab, .ptr nx 0, .ptr (nx+1) 0, .osl (nx+8) 0]
theorem xe{s:az}{lim:Bool}{b:List (Int×Tm)}{L:List TB}{a c:Tm}(hb:qp s b)(ha:QT s a)(hc:QT s c)(hL:L.length<=100){f:Nat}{e:Int}{b':List (Int×Tm)}(hf:jl lim f a c b=some (e,b'))
 {x m:Nat} {xl:V} (o o1:Nat->ad) (nx:Nat) (gn:Nat->Prop) (hg:Good o nx) (Et:Good o1 nx) (hx:o x= .row [.mp m,xl, .d (.bool lim)]) (hm:o m=dt b) (hl:fN o gn 59 4 (L.map TB.d) xl)
 (sT:∀j,gn j->j<nx/\j≠x/\j≠m/\o1 j= .no) (h1:∀j,j<nx->o1 j= .no\/o j=o1 j) (K X:V->(Nat->ad)->Nat->Prop)
 (aY:e=0->∀E:List TB,b'=b++ag E->∀o' nx',nx+8<=nx'->Good o' nx'->EqH o' x m (nx+7) 0 lim b' (L++E)->(∀j,j<nx->j≠x->j≠m->o' j=o1 j)->K (.bY []) o' nx')
 (mP:e=5->∀o' nx',nx<=nx'->Good o' nx'->(∀j,j<nx->j≠x->j≠m->o' j=o1 j)->X (.d (.iface 162 (.agg []))) o' nx')
 (Ag:e=3->∀o' nx',nx<=nx'->Good o' nx'->(∀j,j<nx->j≠x->j≠m->o' j=o1 j)->X (.d (.iface 163 (.agg []))) o' nx'):
 bP Tryz.prog 103 [.ptr x 0, .d a.d, .d c.d] o nx K X:=by
 have lx:x<nx:=hg.lt LG
 have lm:m<nx:=hg.lt Gv
 have cf:x≠m:=fun e=>by subst e;rw[hx]at hm;cases hm
 obtain⟨N,hN⟩:=N1 hb ha hc hf
 refine bP.aG mix Ug aE ?_
 rw[Xt]
 refine K2 hx hm ?_
 refine aD (fun i:Nat×List (Tm×Tm)×List TB=>⟨aX (eqE nx x),rV o1 nx x m lim a c (b++ag i.2.2) (L++i.2.2) (i.2.1.reverse.map xc),nx+9⟩)
  (fun i=>ko lim 1000000000 i.1 i.2.1 (b++ag i.2.2)=some (e,b')/\qp s (b++ag i.2.2)/\∀p∈i.2.1,QT s p.1/\QT s p.2) (fun i=>i.1) (N,[(a,c)],[])
  ⟨by simpa[ag]using hN,by simpa[ag]using hb,fun p hp=>by simp at hp;subst hp;exact⟨ha,hc⟩⟩ ?_ ?_
 ·dsimp only
  have gx: ¬gn x:=fun h=>(sT x h).2.1 rfl
  have gm: ¬gn m:=fun h=>(sT m h).2.2.1 rfl
  refine oN lx lm cf (fun j=>gn j\/j=nx+5) xl (.osl (nx+5) 0) _ Et (fun id h=> ?_) ?_ (.inr ⟨nx+5,0, .inr rfl,rfl,by(repeat(first|rfl|rw[aa]|rw[ae _ _ _ _ (by omega)]))⟩) (fun id ep fT h h'=> ?_) (by(repeat(first|rfl|rw[aa]|rw[ae _ _ _ _ (by omega)]));exact hx) (by(repeat(first|rfl|rw[aa]|rw[ae _ _ _ _ (by omega)]));rw[hm];simp[ag]) (fun j j1 j2 j3=> ?_) ?_
  ·rcases h with h|h
   ·obtain⟨h1,h2,h3,h4⟩:=sT id h
    exact .inr ⟨h4,af,af,h2,h3⟩
   ·exact .inr ⟨Et.fresh _ af,af,af,af,af⟩
  ·rcases hl with h|⟨id,ep,h1,h2,h3⟩
   ·exact .inl (by simpa using h)
   ·have:=(sT id h1).1
    exact .inr ⟨id,ep, .inl h1,h2,by(repeat(first|rfl|rw[aa]|rw[ae _ _ _ _ (by omega)]));simpa using h3⟩
  ·rcases hl with⟨h1,_⟩|⟨BG,ahy,h1,h2,h3⟩
   ·rw[h1]at h;cases h
   ·have:=(sT BG h1).1
    rw[h2]at h
    cases h
    cases h'
    omega
  ·by_cases e1:j=nx
   ·subst e1;rw[eqS_0 lx lm cf];right;(repeat(first|rfl|rw[aa]|rw[ae _ _ _ _ (by omega)]))
   ·by_cases e2:j=nx+1
    ·subst e2;rw[eqS_1 lx lm cf];right;(repeat(first|rfl|rw[aa]|rw[ae _ _ _ _ (by omega)]))
    ·rw[se e1 e2 j2 j3 (by omega) (by omega)]
     by_cases e3:j<nx
     ·rcases h1 j e3 with h|h
      ·exact .inl h
      ·right;(repeat(first|rfl|rw[aa]|rw[ae _ _ _ _ (by omega)]));exact h
     ·left;exact Et.fresh j af
  ·unfold eqE
   (repeat(first|exact gO|refine cD ?_|refine cZ rfl ?_|refine cZ (mO (o8 af)) ?_|refine jI 0 rfl rfl rfl ?_|refine iA rfl R8 ?_|refine l0 rfl R9 ?_))
   exact I2
 rintro⟨n,st,E⟩ ⟨hM,hA,hS⟩
 dsimp only at hM hA hS|-
 have f0:=eqS_0 (o:=o1) (lim:=lim) (a:=a) (c:=c) (b:=b++ag E) (L:=L++E) (st:=st.reverse.map xc) lx lm cf
 have f1:=eqS_1 (o:=o1) (lim:=lim) (a:=a) (c:=c) (b:=b++ag E) (L:=L++E) (st:=st.reverse.map xc) lx lm cf
 have fx:=N3 (o:=o1) (lim:=lim) (a:=a) (c:=c) (b:=b++ag E) (L:=L++E) (st:=st.reverse.map xc) lx lm cf
 have fm:=N4 (o:=o1) (lim:=lim) (a:=a) (c:=c) (b:=b++ag E) (L:=L++E) (st:=st.reverse.map xc) lx lm cf
 have f7:=eqS_7 (o:=o1) (lim:=lim) (a:=a) (c:=c) (b:=b++ag E) (L:=L++E) (st:=st.reverse.map xc) lx lm cf
 have f8:=eqS_8 (o:=o1) (lim:=lim) (a:=a) (c:=c) (b:=b++ag E) (L:=L++E) (st:=st.reverse.map xc) lx lm cf
 unfold eqE
 cases n with
 |zero=>cases hM
 |succ n=>
 cases st with
 |nil=>
  simp only[ko]at hM
  injection hM with hM
  injection hM with hM1 hM2
  simp only[List.reverse_nil,List.map_nil]at f0 f1 fx fm f7 f8|-
  refine Vv f0 f1 fm f7 f8 ?_
  refine aY hM1.symm E hM2.symm _ _ af (Good.mono (jJ lx lm cf Et) af) ⟨fx,hM2 ▸ fm,f7⟩ (fun j h1 h2 h3=> ?_)
  exact se af af h2 h3 af af
 |cons p st=>
 obtain⟨t,u⟩:=p
 have KI:Good o1 nx:=Et
 have hlen:(st.length:Int)+1>0:=af
 have hrv:((t,u)::st).reverse.map xc=st.reverse.map xc++[xc (t,u)]:=aE
 rw[hrv]at f0 f1 fx fm f7 f8|-
 have ky:st.length<1000000000:=by
  refine Classical.byContradiction fun h=> ?_
  simp only[ko]at hM
  rw[if_pos (by omega)]at hM
  cases hM
 have fI:decide ((0:Int)<((st.length+1:Nat):Int))=true:=by rw[decide_eq_true_eq];omega
 have ug:((st.length+1:Nat):Int) - 1=(st.length:Nat):=af
 have pF:(st.reverse.map xc++[xc (t,u)])[st.length]? =some (xc (t,u)):=by
  rw[List.getElem?_append_right (by simp)]
  simp
 have aha:(if((st.length:Nat):Int)=0 then some (V.osl (nx+8) 1,[(nx+8,ad.arr 1 106 6 [])],[nx+8])else some (V.osl (nx+8) 1,[(nx+8,ad.arr 1 106 6 (List.take st.length (st.reverse.map xc++[xc (t,u)])))],[nx+8]))=some (V.osl (nx+8) 1,[(nx+8,ad.arr 1 106 6 (st.reverse.map xc))],[nx+8]):=by
  split
  ·have Jb:st=[]:=List.eq_nil_of_length_eq_zero af
   subst Jb
   rfl
  ·rw[List.take_append_of_le_length (by simp),List.take_of_length_le (by simp)]
 obtain⟨xt,hxt,qxt,uxt⟩:=ij hA (hS (t,u) aE).1
 obtain⟨xu,L3,qxu,uxu⟩:=ij hA (hS (t,u) aE).2
 simp+contextual (disch:=first|omega|simp only[go_sem,false_implies]) only[go_sem,wrap64,if_pos,f0,f1,fx,fm,f7,f8,Nat.add_assoc,Nat.left_eq_add,Nat.add_eq_left,Nat.add_left_cancel_iff,List.length_map,List.length_append,List.length_reverse,fI,ug,pF,aha]
 refine D5 gL (N2 hxt IM) ?_
 refine Vv f0 f1 fm f7 f8 ?_
 refine D5 gL (N2 L3 IM) ?_
 refine Vv f0 f1 fm f7 f8 ?_
 refine aK (bD (ids:=[x,nx+18,m,nx+40,nx+41]) (nx:=nx+44) gL gL [([],[]),([0],[]),([0],[]),([0],[]),([1],[]),([1],[]),([2],[]),([],[]),([0],[]),([0],[]),([0],[]),([1],[]),([1],[]),([2],[]),([],[3]),([],[4]),([3],[3]),([4],[4])] bF) ?_
 simp only[ko]at hM
 rw[if_neg (by omega),hxt,L3]at hM
 dsimp only at hM
 have hLE:(L++E).length<=1000:=by
  have h20:=DU hA.keys fun v hv=>by
   obtain⟨p,hp,rfl⟩:=List.mem_map.1 hv
   exact(hA.ok p hp).1
  rw[List.length_map,List.length_append,ag,List.length_map]at h20
  rw[List.length_append]
  omega
 have NZ:∀p∈st,QT s p.1/\QT s p.2:=fun p hp=>hS p (by simp[hp])
 by_cases h1:xt.op=1
 ·rw[if_pos h1]at hM
  have fh:(xt.op==1)=true:=by simpa using h1
  by_cases h2:xu.op=1
  ·rw[if_pos h2]at hM
   have mR:(xu.op==1)=true:=by simpa using h2
   by_cases h3:xt.n=xu.n
   ·rw[if_pos h3]at hM
    have kF:(xt.n !=xu.n)=false:=by simp[h3]
    simp+contextual (disch:=first|omega|simp only[go_sem,false_implies]) only[go_sem,wrap64,if_pos,f0,f1,fx,fm,f7,f8,Nat.add_assoc,Nat.left_eq_add,Nat.add_eq_left,Nat.add_left_cancel_iff,kS,fh,mR,kF,Bool.and_self]
    refine aj (n,st,E) ⟨hM,hA,NZ⟩ (Nat.lt_succ_self n) (oN lx lm cf (fun j=>nx+7<=j) (.osl (nx+7) 0) (.osl (nx+8) 1) _ Et (fun id h=> .inl h) (.inr ⟨nx+7,0,Nat.le_refl _,rfl,by(repeat(first|rfl|rw[aa]|rw[ae _ _ _ _ (by omega)]));exact f7⟩) (.inr ⟨nx+8,1,af,rfl,by(repeat(first|rfl|rw[aa]|rw[ae _ _ _ _ (by omega)]))⟩) (fun id ep fT h h'=>by cases h;cases h') Px IM (fun j j1 j2 j3=> ?_) ?_)
    ·right
     (repeat(first|rfl|rw[aa]|rw[ae _ _ _ _ (by omega)]))
     exact B0
    ·(repeat(first|exact gO|refine cD ?_|refine cZ rfl ?_|refine cZ (mO (o8 af)) ?_|refine jI 0 rfl rfl rfl ?_|refine iA rfl R8 ?_|refine l0 rfl R9 ?_))
     exact I2
   ·rw[if_neg h3]at hM
    have kF:(xt.n !=xu.n)=true:=by simp[h3]
    obtain⟨rt,et⟩:=qxt.eta h1
    obtain⟨ru,eu⟩:=qxu.eta h2
    have lmx:bQ (b++ag E) (max xt.n xu.n)=none:=by
     rw[Int.max_def];split
     ·exact uxu h2
     ·exact uxt h1
    simp+contextual (disch:=first|omega|simp only[go_sem,false_implies]) only[go_sem,wrap64,if_pos,f0,f1,fx,fm,f7,f8,Nat.add_assoc,Nat.left_eq_add,Nat.add_eq_left,Nat.add_left_cancel_iff,kS,fh,mR,kF,Bool.and_self]
    have em:(if xu.n>xt.n then xu.n else xt.n)=max xt.n xu.n:=by rw[Int.max_def];split<;>split<;>omega
    have en:(if xu.n<xt.n then xu.n else xt.n)=min xt.n xu.n:=by rw[Int.min_def];split<;>split<;>omega
    rw[em,en]
    refine aT (bP.YM [.ptr x 0, .d (.i (max xt.n xu.n))] (d:=(Tm.mk 1 (min xt.n xu.n) []).d) (rest:=[]) rfl ?_)
    simp only[V.ids,V.bc,List.append_nil,bG,List.map_nil,MD,List.cons_append,List.nil_append]
    refine F8 (s:=s) (lim:=lim) (b:=b++ag E) (L:=L++E) (n:=max xt.n xu.n) (y:= .mk 1 (min xt.n xu.n) []) hA lmx af (QT.var af) hLE (x:=x) (m:=m) (l:=nx+7) _ _ ?_ ⟨?_, ?_, ?_⟩ _ _ (fun mZ o2 n2 k1 k2 k3 k4=> ?_) (fun mZ o2 n2 k1 k2 k4=> ?_) (fun mZ o2 n2 k1 k2 k4=> ?_)
    ·refine Good.ay (Good.ay (Good.ay (Good.ay (Good.ay (Good.ay (Good.ay (Good.mono (jJ lx lm cf Et) af) af rfl) af rfl) af rfl) af rfl) af rfl) af rfl) af rfl
    ·exact Px
    ·exact IM
    ·exact Lb
    ·rw[mZ,if_pos rfl]at hM
     obtain⟨g1,g2,g3⟩:=k3
     refine cK ?_
     refine aj (n,st,E++[⟨max xt.n xu.n, .mk 1 (min xt.n xu.n) []⟩]) ⟨by rw[dS];simpa[ag]using hM,by have:=(oM (lim:=lim) (n:=max xt.n xu.n) (y:= .mk 1 (min xt.n xu.n) []) hA lmx af (QT.var af) (by rw[mZ])).1;rw[mZ]at this;rw[dS];simpa[ag]using this,NZ⟩ (Nat.lt_succ_self n) (oN lx lm cf (fun j=>nx+7<=j) (.osl (nx+7) 1) (.osl (nx+8) 1) _ Et (fun id h=> .inl h) (.inr ⟨nx+7,1,Nat.le_refl _,rfl,by rw[g3,List.append_assoc]⟩) (.inr ⟨nx+8,1,af,rfl,by rw[k4 _ (by omega) (by omega) (by omega) (by omega)];(repeat(first|rfl|rw[aa]|rw[ae _ _ _ _ (by omega)]))⟩) (fun id ep fT h h'=>by cases h;cases h') g1 (by rw[g2,dS];simp[ag]) (fun j j1 j2 j3=> ?_) ?_)
     ·right
      rw[k4 j (by omega) j2 j3 (by omega)]
      (repeat(first|rfl|rw[aa]|rw[ae _ _ _ _ (by omega)]))
      exact B0
     ·(repeat(first|exact gO|refine cD ?_|refine cZ rfl ?_|refine cZ (mO (o8 af)) ?_|refine jI 0 rfl rfl rfl ?_|refine iA rfl R8 ?_|refine l0 rfl R9 ?_))
      exact I2
    ·rw[if_neg (by rw[mZ];decide)]at hM
     have he:e=5:=by injection hM with hM;rw[hM]at mZ;exact mZ
     refine cK ?_
     refine mP he _ _ af k2 (fun j j1 j2 j3=> ?_)
     rw[k4 j (by omega) j2 j3 (by omega)]
     (repeat(first|rfl|rw[aa]|rw[ae _ _ _ _ (by omega)]))
     exact IX
    ·rw[if_neg (by rw[mZ];decide)]at hM
     have he:e=3:=by injection hM with hM;rw[hM]at mZ;exact mZ
     refine cK ?_
     refine Ag he _ _ af k2 (fun j j1 j2 j3=> ?_)
     rw[k4 j (by omega) j2 j3 (by omega)]
     (repeat(first|rfl|rw[aa]|rw[ae _ _ _ _ (by omega)]))
     exact IX
  ·rw[if_neg h2]at hM
   have mR:(xu.op==1)=false:=by simpa using h2
   obtain⟨rt,et⟩:=qxt.eta h1
   simp+contextual (disch:=first|omega|simp only[go_sem,false_implies]) only[go_sem,wrap64,if_pos,f0,f1,fx,fm,f7,f8,Nat.add_assoc,Nat.left_eq_add,Nat.add_eq_left,Nat.add_left_cancel_iff,kS,fh,mR,Bool.and_false]
   refine aT (F8 (s:=s) (lim:=lim) (b:=b++ag E) (L:=L++E) (n:=xt.n) (y:=xu) hA (uxt h1) rt qxu hLE (x:=x) (m:=m) (l:=nx+7) _ _ ?_ ⟨?_, ?_, ?_⟩ _ _ (fun mZ o2 n2 k1 k2 k3 k4=> ?_) (fun mZ o2 n2 k1 k2 k4=> ?_) (fun mZ o2 n2 k1 k2 k4=> ?_))
   ·refine Good.ay (Good.ay (Good.ay (Good.ay (Good.ay (Good.ay (Good.ay (Good.mono (jJ lx lm cf Et) af) af rfl) af rfl) af rfl) af rfl) af rfl) af rfl) af rfl
   ·exact Px
   ·exact IM
   ·exact Lb
   ·rw[mZ,if_pos rfl]at hM
    obtain⟨g1,g2,g3⟩:=k3
    refine cK ?_
    refine aj (n,st,E++[⟨xt.n,xu⟩]) ⟨by rw[dS];simpa[ag]using hM,by have:=(oM (lim:=lim) hA (uxt h1) rt qxu (by rw[mZ])).1;rw[mZ]at this;rw[dS];simpa[ag]using this,NZ⟩ (Nat.lt_succ_self n) (oN lx lm cf (fun j=>nx+7<=j) (.osl (nx+7) 1) (.osl (nx+8) 1) _ Et (fun id h=> .inl h) (.inr ⟨nx+7,1,Nat.le_refl _,rfl,by rw[g3,List.append_assoc]⟩) (.inr ⟨nx+8,1,af,rfl,by rw[k4 _ (by omega) (by omega) (by omega) (by omega)];(repeat(first|rfl|rw[aa]|rw[ae _ _ _ _ (by omega)]))⟩) (fun id ep fT h h'=>by cases h;cases h') g1 (by rw[g2,dS];simp[ag]) (fun j j1 j2 j3=> ?_) ?_)
    ·right
     rw[k4 j (by omega) j2 j3 (by omega)]
     (repeat(first|rfl|rw[aa]|rw[ae _ _ _ _ (by omega)]))
     exact B0
    ·(repeat(first|exact gO|refine cD ?_|refine cZ rfl ?_|refine cZ (mO (o8 af)) ?_|refine jI 0 rfl rfl rfl ?_|refine iA rfl R8 ?_|refine l0 rfl R9 ?_))
     exact I2
   ·rw[if_neg (by rw[mZ];decide)]at hM
    have he:e=5:=by injection hM with hM;rw[hM]at mZ;exact mZ
    refine cK ?_
    refine mP he _ _ af k2 (fun j j1 j2 j3=> ?_)
    rw[k4 j (by omega) j2 j3 (by omega)]
    (repeat(first|rfl|rw[aa]|rw[ae _ _ _ _ (by omega)]))
    exact IX
   ·rw[if_neg (by rw[mZ];decide)]at hM
    have he:e=3:=by injection hM with hM;rw[hM]at mZ;exact mZ
    refine cK ?_
    refine Ag he _ _ af k2 (fun j j1 j2 j3=> ?_)
    rw[k4 j (by omega) j2 j3 (by omega)]
    (repeat(first|rfl|rw[aa]|rw[ae _ _ _ _ (by omega)]))
    exact IX
 ·rw[if_neg h1]at hM
  have fh:(xt.op==1)=false:=by simpa using h1
  by_cases h2:xu.op=1
  ·rw[if_pos h2]at hM
   have mR:(xu.op==1)=true:=by simpa using h2
   obtain⟨ru,eu⟩:=qxu.eta h2
   simp+contextual (disch:=first|omega|simp only[go_sem,false_implies]) only[go_sem,wrap64,if_pos,f0,f1,fx,fm,f7,f8,Nat.add_assoc,Nat.left_eq_add,Nat.add_eq_left,Nat.add_left_cancel_iff,kS,fh,mR,Bool.false_and]
   refine aT (F8 (s:=s) (lim:=lim) (b:=b++ag E) (L:=L++E) (n:=xu.n) (y:=xt) hA (uxu h2) ru qxt hLE (x:=x) (m:=m) (l:=nx+7) _ _ ?_ ⟨?_, ?_, ?_⟩ _ _ (fun mZ o2 n2 k1 k2 k3 k4=> ?_) (fun mZ o2 n2 k1 k2 k4=> ?_) (fun mZ o2 n2 k1 k2 k4=> ?_))
   ·refine Good.ay (Good.ay (Good.ay (Good.ay (Good.ay (Good.ay (Good.ay (Good.mono (jJ lx lm cf Et) af) af rfl) af rfl) af rfl) af rfl) af rfl) af rfl) af rfl
   ·exact Px
   ·exact IM
   ·exact Lb
   ·rw[mZ,if_pos rfl]at hM
    obtain⟨g1,g2,g3⟩:=k3
    refine cK ?_
    refine aj (n,st,E++[⟨xu.n,xt⟩]) ⟨by rw[dS];simpa[ag]using hM,by have:=(oM (lim:=lim) hA (uxu h2) ru qxt (by rw[mZ])).1;rw[mZ]at this;rw[dS];simpa[ag]using this,NZ⟩ (Nat.lt_succ_self n) (oN lx lm cf (fun j=>nx+7<=j) (.osl (nx+7) 1) (.osl (nx+8) 1) _ Et (fun id h=> .inl h) (.inr ⟨nx+7,1,Nat.le_refl _,rfl,by rw[g3,List.append_assoc]⟩) (.inr ⟨nx+8,1,af,rfl,by rw[k4 _ (by omega) (by omega) (by omega) (by omega)];(repeat(first|rfl|rw[aa]|rw[ae _ _ _ _ (by omega)]))⟩) (fun id ep fT h h'=>by cases h;cases h') g1 (by rw[g2,dS];simp[ag]) (fun j j1 j2 j3=> ?_) ?_)
    ·right
     rw[k4 j (by omega) j2 j3 (by omega)]
     (repeat(first|rfl|rw[aa]|rw[ae _ _ _ _ (by omega)]))
     exact B0
    ·(repeat(first|exact gO|refine cD ?_|refine cZ rfl ?_|refine cZ (mO (o8 af)) ?_|refine jI 0 rfl rfl rfl ?_|refine iA rfl R8 ?_|refine l0 rfl R9 ?_))
     exact I2
   ·rw[if_neg (by rw[mZ];decide)]at hM
    have he:e=5:=by injection hM with hM;rw[hM]at mZ;exact mZ
    refine cK ?_
    refine mP he _ _ af k2 (fun j j1 j2 j3=> ?_)
    rw[k4 j (by omega) j2 j3 (by omega)]
    (repeat(first|rfl|rw[aa]|rw[ae _ _ _ _ (by omega)]))
    exact IX
   ·rw[if_neg (by rw[mZ];decide)]at hM
    have he:e=3:=by injection hM with hM;rw[hM]at mZ;exact mZ
    refine cK ?_
    refine Ag he _ _ af k2 (fun j j1 j2 j3=> ?_)
    rw[k4 j (by omega) j2 j3 (by omega)]
    (repeat(first|rfl|rw[aa]|rw[ae _ _ _ _ (by omega)]))
    exact IX
  ·rw[if_neg h2]at hM
   have mR:(xu.op==1)=false:=by simpa using h2
   by_cases h3:xt.op=xu.op/\xt.n=xu.n/\xt.kids.length=xu.kids.length
   ·rw[if_pos h3]at hM
    obtain⟨h3a,h3b,h3c⟩:=h3
    have c1:(xt.op !=xu.op)=false:=by simp[h3a]
    have c2:(xt.n !=xu.n)=false:=by simp[h3b]
    have c3:((xt.kids.length:Int)!=(xu.kids.length:Int))=false:=by simp[h3c]
    have zV:xt.kids.length<=2000:=by have:=mH xt.kids;have:=Tm.iw xt;have:=qxt.sz;omega
    simp+contextual (disch:=first|omega|simp only[go_sem,false_implies]) only[go_sem,wrap64,if_pos,f0,f1,fx,fm,f7,f8,Nat.add_assoc,Nat.left_eq_add,Nat.add_eq_left,Nat.add_left_cancel_iff,kS,fh,mR,Bool.and_self,c1,c2,c3,List.length_map]
    obtain⟨len,pv⟩:∃len,xt.kids.length=len:=⟨_,rfl⟩
    have hlu:xu.kids.length=len:=by rw[<- h3c,pv]
    refine aD (fun j:Nat=>⟨aX [.ptr x 0, .ab, .ab, .ab, .ptr nx 0, .ptr (nx+1) 0, .osl (nx+87) 0, .ab, .ptr (nx+40) 0, .ptr (nx+41) 0, .d (.i ((len:Int) - 1 - (j:Int)))],ay (ay (ay (ay (rV o1 nx x m lim a c (b++ag E) (L++E) []) (nx+8) .no) (nx+40) (.row xt.row)) (nx+41) (.row xu.row)) (nx+87) (.arr 0 106 6 (st.reverse.map xc++((xt.kids.zip xu.kids).reverse.take j).map xc)),nx+88⟩)
     (fun j=>j<=len) (fun j=>len - j) 0 (Nat.zero_le _) (N5 lx lm cf (fun id=>id=nx+8) (.osl (nx+8) 1) _ Et (fun id h=> .inr h) (.inr ⟨nx+8,1,rfl,rfl,by(repeat(first|rfl|rw[aa]|rw[ae _ _ _ _ (by omega)]));simp⟩) cg cg (fun j j1 j2 j3 j4=>by(repeat(first|rfl|rw[aa]|rw[ae _ _ _ _ (by omega)]));exact YL j2) ?_) (fun j hj=> ?_)
    ·(repeat(first|exact gO|refine cD ?_|refine cZ rfl ?_|refine cZ (mO (o8 af)) ?_|refine jI 0 rfl rfl rfl ?_|refine iA rfl R8 ?_|refine l0 rfl R9 ?_))
     refine cZ (mO af) ?_
     exact jH
    ·replace hj:j<=len:=hj
     have q40:∀l,ay (ay (ay (ay (rV o1 nx x m lim a c (b++ag E) (L++E) []) (nx+8) .no) (nx+40) (.row xt.row)) (nx+41) (.row xu.row)) (nx+87) (.arr 0 106 6 l) (nx+40)= .row xt.row:=fun l=>by(repeat(first|rfl|rw[aa]|rw[ae _ _ _ _ (by omega)]))
     have q41:∀l,ay (ay (ay (ay (rV o1 nx x m lim a c (b++ag E) (L++E) []) (nx+8) .no) (nx+40) (.row xt.row)) (nx+41) (.row xu.row)) (nx+87) (.arr 0 106 6 l) (nx+41)= .row xu.row:=fun l=>by(repeat(first|rfl|rw[aa]|rw[ae _ _ _ _ (by omega)]))
     have hrl:(xt.kids.zip xu.kids).reverse.length=len:=by rw[List.length_reverse,List.length_zip,pv,hlu];omega
     refine fY ?_
     refine ak (fun h4=> ?_) (fun h4=> ?_)
     ·have h4:j<len:=by simp at h4;omega
      obtain⟨i0,hi0⟩:∃i0:Nat,(len:Int) - 1 - (j:Int)=(i0:Int):=⟨len - 1 - j,af⟩
      rw[hi0]
      obtain⟨z1,hz1⟩:=aB (show i0<xt.kids.length from af)
      obtain⟨z2,Pb⟩:=aB (show i0<xu.kids.length from af)
      have hrz:(xt.kids.zip xu.kids).reverse[j]? =some (z1,z2):=by
       rw[List.getElem?_reverse (by rw[List.length_zip];omega),List.length_zip,pv,hlu,show min len len - 1 - j=i0 by omega,List.getElem?_zip_eq_some]
       exact⟨hz1,Pb⟩
      have sb:(xt.kids.zip xu.kids).reverse.take (j+1)=(xt.kids.zip xu.kids).reverse.take j++[(z1,z2)]:=by rw[List.take_add_one,hrz];rfl
      have e0:((xt.kids.zip xu.kids).reverse.take j).length=j:=by rw[List.length_take];omega
      have dV:st.length+j<=140737488355327/\(st.length+j+1)*80<=140737488355328:=af
      simp+contextual (disch:=first|omega|simp only[go_sem,false_implies]) only[go_sem,wrap64,if_pos,Nat.add_assoc,Nat.left_eq_add,Nat.add_eq_left,Nat.add_left_cancel_iff,hz1,Pb,List.length_map,List.length_append,List.length_reverse,e0,dV]
      refine aK (bD (ids:=[nx+40,nx+41,nx+102,nx+87]) (nx:=nx+105) aE aE [([],[]),([0],[]),([0],[]),([],[]),([],[]),([],[]),([1],[]),([1],[]),([],[]),([],[]),([],[]),([],[]),([],[2]),([3,2],[3]),([],[])] bF) ?_
      refine fY ?_
      refine aj (j+1) h4 af (N5 lx lm cf (fun id=>nx+87<=id) (.osl (nx+87) 1) _ Et (fun id h=> .inl h) (.inr ⟨nx+87,1,Nat.le_refl _,rfl,by(repeat(first|rfl|rw[aa]|rw[ae _ _ _ _ (by omega)]));rw[sb,List.map_append,List.append_assoc];rfl⟩) cg cg (fun j j1 j2 j3 j4=>by(repeat(first|rfl|rw[aa]|rw[ae _ _ _ _ (by omega)]))) ?_)
      (repeat(first|exact gO|refine cD ?_|refine cZ rfl ?_|refine cZ (mO (o8 af)) ?_|refine jI 0 rfl rfl rfl ?_|refine iA rfl R8 ?_|refine l0 rfl R9 ?_))
      refine cZ (mO af) ?_
      exact jH
     ·have h4:j=len:=by simp at h4;omega
      subst h4
      refine fY ?_
      refine aj (n,xt.kids.zip xu.kids++st,E) ⟨hM,hA,fun p hp=> ?_⟩ (Nat.lt_succ_self n) (oN lx lm cf (fun j=>nx+7<=j) (.osl (nx+7) 0) (.osl (nx+87) 0) _ Et (fun id h=> .inl h) (.inr ⟨nx+7,0,Nat.le_refl _,rfl, ?_⟩) (.inr ⟨nx+87,0,af,rfl, ?_⟩) (fun id ep fT h h'=>by cases h;cases h') ?_ ?_ (fun j j1 j2 j3=> ?_) ?_)
      ·rcases List.mem_append.1 hp with hp|hp
       ·exact⟨qxt.ki (List.of_mem_zip hp).1,qxu.ki (List.of_mem_zip hp).2⟩
       ·exact NZ p hp
      ·(repeat(first|rfl|rw[aa]|rw[ae _ _ _ _ (by omega)]))
       exact eqS_7 lx lm cf
      ·(repeat(first|rfl|rw[aa]|rw[ae _ _ _ _ (by omega)]))
       rw[List.take_of_length_le (by omega),List.reverse_append,List.map_append]
      ·(repeat(first|rfl|rw[aa]|rw[ae _ _ _ _ (by omega)]))
       exact N3 lx lm cf
      ·(repeat(first|rfl|rw[aa]|rw[ae _ _ _ _ (by omega)]))
       exact N4 lx lm cf
      ·right
       (repeat(first|rfl|rw[aa]|rw[ae _ _ _ _ (by omega)]))
       exact B0
      ·(repeat(first|exact gO|refine cD ?_|refine cZ rfl ?_|refine cZ (mO (o8 af)) ?_|refine jI 0 rfl rfl rfl ?_|refine iA rfl R8 ?_|refine l0 rfl R9 ?_))
       exact I2
   ·rw[if_neg h3]at hM
    injection hM with hM
    injection hM with hM1 hM2
    by_cases c1:(xt.op !=xu.op)=true
    ·simp+contextual (disch:=first|omega|simp only[go_sem,false_implies]) only[go_sem,wrap64,if_pos,f0,f1,fx,fm,f7,f8,Nat.add_assoc,Nat.left_eq_add,Nat.add_eq_left,Nat.add_left_cancel_iff,kS,fh,mR,Bool.and_self,c1,List.length_map]
     exact VB
    have c1':(xt.op !=xu.op)=false:=by simpa using c1
    by_cases c2:(xt.n !=xu.n)=true
    ·simp+contextual (disch:=first|omega|simp only[go_sem,false_implies]) only[go_sem,wrap64,if_pos,f0,f1,fx,fm,f7,f8,Nat.add_assoc,Nat.left_eq_add,Nat.add_eq_left,Nat.add_left_cancel_iff,kS,fh,mR,Bool.and_self,c1',c2,List.length_map]
     exact VB
    have c2':(xt.n !=xu.n)=false:=by simpa using c2
    have c3:((xt.kids.length:Int)!=(xu.kids.length:Int))=true:=by
     rw[bne_iff_ne]
     intro h
     exact h3 ⟨by simpa using c1',by simpa using c2',af⟩
    simp+contextual (disch:=first|omega|simp only[go_sem,false_implies]) only[go_sem,wrap64,if_pos,f0,f1,fx,fm,f7,f8,Nat.add_assoc,Nat.left_eq_add,Nat.add_eq_left,Nat.add_left_cancel_iff,kS,fh,mR,Bool.and_self,c1',c2',c3,List.length_map]
    exact VB
end Go.Proofs.YtlhemmpklhhgoaaGreat
set_option maxHeartbeats 4000000
namespace Go.Proofs.YtlhemmpklhhgoaaGreat
def xD(o:Nat->ad)(nx:Nat)(s:bU)(m:ad):Nat->ad:=
 ay (ay (ay (ay o nx (.row s.row)) (nx+1) (.row [.ax, .ax, .ax, .ax, .ax, .d .dL])) (nx+4) m) (nx+6) (.row (s.row++[.mp (nx+4)]))
theorem kpH_0(o:Nat->ad)(nx:Nat)(s:bU)(m:ad):xD o nx s m nx= .row s.row:=by
 unfold xD;rw[ae _ _ _ _ (by omega),ae _ _ _ _ (by omega),ae _ _ _ _ (by omega),aa]
theorem kpH_1(o:Nat->ad)(nx:Nat)(s:bU)(m:ad):xD o nx s m (nx+1)= .row [.ax, .ax, .ax, .ax, .ax, .d .dL]:=by
 unfold xD;rw[ae _ _ _ _ (by omega),ae _ _ _ _ (by omega),aa]
theorem kpH_4(o:Nat->ad)(nx:Nat)(s:bU)(m:ad):xD o nx s m (nx+4)=m:=by
 unfold xD;rw[ae _ _ _ _ (by omega),aa]
theorem kpH_6(o:Nat->ad)(nx:Nat)(s:bU)(m:ad):xD o nx s m (nx+6)= .row (s.row++[.mp (nx+4)]):=by unfold xD;rw[aa]
theorem N6(o:Nat->ad)(nx:Nat)(s:bU)(m:ad){j:Nat}(h0:j≠nx)(h1:j≠nx+1)(h4:j≠nx+4)(h6:j≠nx+6):xD o nx s m j=o j:=by
 unfold xD;rw[ae _ _ _ _ h6,ae _ _ _ _ h4,ae _ _ _ _ h1,ae _ _ _ _ h0]
theorem Ib(o:Nat->ad)(nx:Nat)(s:bU)(m m':ad)(j:Nat):ay (xD o nx s m) (nx+4) m' j=xD o nx s m' j:=by
 by_cases e:j=nx+4
 ·subst e;rw[aa,kpH_4]
 ·rw[ae _ _ _ _ e]
  unfold xD
  by_cases e6:j=nx+6
  ·subst e6;rw[aa,aa]
  ·rw[ae _ _ _ _ e6,ae _ _ _ _ e6,ae _ _ _ _ e,ae _ _ _ _ e]
theorem rG{o:Nat->ad}{nx:Nat}(hg:Good o nx)(s:bU){m:ad}(hm:m.refs=[]):Good (xD o nx s m) (nx+7):=by
 unfold xD
 refine Good.ay (Good.ay (Good.ay (Good.ay (hg.mono af) af rfl) af rfl) af (by rw[hm];rfl)) af uf
theorem Rq(o:Nat->ad)(nx:Nat)(s:bU)(j:Nat):
 ay (ay (ay (ay (ay o nx (.row s.row)) (nx+1) (.row [.ax, .ax, .ax, .ax, .ax, .d .dL])) (nx+4) (dt [])) (nx+6) (.row [.ax, .ax, .ax, .ax, .ax, .d .dL])) (nx+6) (.row (s.row++[.mp (nx+4)])) j=xD o nx s (dt []) j:=by
 unfold xD
 by_cases e:j=nx+6
 ·subst e;rw[aa,aa]
 ·rw[ae _ _ _ _ e,ae _ _ _ _ e,ae _ _ _ _ e]
set_option maxRecDepth 100000 in
theorem Rr(s:bU)(hs:s.Fin)(o:Nat->ad)(nx:Nat)(hg:Good o nx)(K X:V->(Nat->ad)->Nat->Prop)
 (xf:bB s->∀o' nx' id,nx<=nx'->Good o' nx'->(∀j,j<nx->o' j=o j)->o' id= .cc (enc (D.int .i64) (kA (ag s.binds)))->K (.bY [.agg (s.row++[.mp id]), .d (.bool true)]) o' nx')
 (mP: ¬bB s->∀o' nx' id m,nx<=nx'->id<nx'->Good o' nx'->(∀j,j<nx->o' j=o j)->o' id=dt m\/o' id= .cc (enc (D.int .i64) (kA m))->K (.bY [.agg (s.row++[.mp id]), .d (.bool false)]) o' nx'):
 bP Tryz.prog 79 [.d s.d] o nx K X:=by
 refine bP.aG mix adl aE ?_
 rw[c79]
 refine fY ?_
 refine aq (wR s.sig hs.sig) rfl ?_
 have rY:=hs.bl
 have uO:=hs.nl
 have KC:=hs.ml
 cases h1:ji s.sig with
 |false=>
  simp+contextual (disch:=first|omega|simp only[go_sem,false_implies]) only[go_sem,wrap64,if_pos,m7,Nat.add_assoc,Nat.left_eq_add,Nat.add_eq_left,Nat.add_left_cancel_iff,List.length_map]
  refine mP (fun h=> ?_) _ _ (nx+4) [] ?_ ?_ ?_ (fun j hj=> ?_) (.inl ?_)
  rotate_left
  ·omega
  ·omega
  ·exact dh
  ·exact cg
  ·exact cg
  have:=h.sig
  rw[h1]at this;cases this
 |true=>
 by_cases h2:20<s.binds.length
 ·have mR:decide ((s.binds.length:Int)>20)=true:=by simp;omega
  simp+contextual (disch:=first|omega|simp only[go_sem,false_implies]) only[go_sem,wrap64,if_pos,m7,Nat.add_assoc,Nat.left_eq_add,Nat.add_eq_left,Nat.add_left_cancel_iff,List.length_map,mR]
  refine mP (fun h=> ?_) _ _ (nx+4) [] ?_ ?_ ?_ (fun j hj=> ?_) (.inl ?_)
  rotate_left
  ·omega
  ·omega
  ·exact dh
  ·exact cg
  ·exact cg
  have:=h.iS.len
  omega
 have mR:decide ((s.binds.length:Int)>20)=false:=by simp;omega
 by_cases h3:12<s.aI.length
 ·have kF:decide ((s.aI.length:Int)>12)=true:=by simp;omega
  simp+contextual (disch:=first|omega|simp only[go_sem,false_implies]) only[go_sem,wrap64,if_pos,m7,Nat.add_assoc,Nat.left_eq_add,Nat.add_eq_left,Nat.add_left_cancel_iff,List.length_map,mR,kF]
  refine mP (fun h=> ?_) _ _ (nx+4) [] ?_ ?_ ?_ (fun j hj=> ?_) (.inl ?_)
  rotate_left
  ·omega
  ·omega
  ·exact dh
  ·exact cg
  ·exact cg
  have:=h.tl
  omega
 have kF:decide ((s.aI.length:Int)>12)=false:=by simp;omega
 by_cases h4:8<s.marks.length
 ·have Jp:decide ((s.marks.length:Int)>8)=true:=by simp;omega
  refine aag mR kF Jp ?_
  refine mP (fun h=> ?_) _ _ (nx+4) [] ?_ ?_ ?_ (fun j hj=> ?_) (.inl ?_)
  rotate_left
  ·omega
  ·omega
  ·exact dh
  ·exact cg
  ·exact cg
  have:=h.D2
  omega
 have Jp:decide ((s.marks.length:Int)>8)=false:=by simp;omega
 refine aag mR kF Jp ?_
 have fin:∀ (m:List (Int×Tm)) (M:ad),(M=dt m\/M= .cc (enc (D.int .i64) (kA m)))->∀O n,nx+7<=n->Good O n->(∀j,j<nx+7->j≠nx+1->O j=xD o nx s M j)-> ¬bB s->K (.bY [.agg (s.row++[.mp (nx+4)]), .d (.bool false)]) O n:=fun m M hM O n i1 i2 i3 i4=>
  mP i4 O n (nx+4) m af af i2 (fun j hj=>by rw[i3 j (by omega) (by omega),N6 _ _ _ _ (by omega) (by omega) (by omega) (by omega)]) (by rw[i3 (nx+4) (by omega) (by omega),kpH_4];exact hM)
 refine aD (fun k:Nat=>⟨aX [.ab, .ptr nx 0, .ptr (nx+1) 0, .ab, .ptr (nx+6) 0, .ab, .ab, .ab, .ab, .ab, .ab, .ab, .ab, .ab, .ab, .ab, .ab, .ab, .ab, .ab, .ab, .ab, .ab, .ab, .ab, .ab, .ab, .ab, .ab, .ab, .ab, .ab, .ab, .ab, .ab, .ab, .ab, .ab, .ab, .ab, .ab, .ab, .ab, .d (.sl (s.binds.map TB.d)), .d (.i s.binds.length), .d (.i k)],xD o nx s (dt (ag (s.binds.take k))),nx+7⟩)
  (fun k=>k<=s.binds.length/\((ag (s.binds.take k)).map (·.1)).Nodup/\∀x∈s.binds.take k,(0<=x.var/\x.var<20)/\bJ s.sig x.term=true) (fun k=>s.binds.length - k) 0 ⟨Nat.zero_le _,List.nodup_nil,fun x hx=>by simp at hx⟩ (bL.bS _ (show nx<=nx+7 from af) af (rG hg s (by rfl)) (fun j hj=> ?_) ?_) (fun k hk=> ?_)
 ·exact Rq o nx s j
 ·exact dT
 obtain⟨hk,Ar,aY⟩:=hk
 have Rf:bB s->((ag (s.binds.take (k+1))).map (·.1)).Nodup:=fun h=>h.iS.keys.sublist (((List.take_sublist _ _).map _).map _)
 have hgk:=rG (m:=dt (ag (s.binds.take k))) hg s rfl
 have KW:=hg
 clear hg
 have hg:=hgk
 have e0:=kpH_0 o nx s (dt (ag (s.binds.take k)))
 have e1:=kpH_1 o nx s (dt (ag (s.binds.take k)))
 have e4:=kpH_4 o nx s (dt (ag (s.binds.take k)))
 have e6:=kpH_6 o nx s (dt (ag (s.binds.take k)))
 refine BR e0 e1 e4 e6 ?_
 refine ak (fun h5=> ?_) (fun h5=> ?_)
 ·replace h5:k<s.binds.length:=by simp at h5;omega
  obtain⟨x,hx⟩:=aB h5
  have cf:=List.mem_of_getElem? hx
  have sb:=D3 s.binds hx
  have hnk:∀ (P:Prop),(iz s.sig s.binds->P)->(bB s->P):=fun P h hs=>h hs.iS
  cases hl:bQ (ag (s.binds.take k)) x.var with
  |some z=>
   obtain⟨jz,hj⟩:=fX hl
   refine aah e0 e1 e4 e6 hx hj ?_
   refine fin _ _ (.inl rfl) _ _ af dh (fun j j1 j2=>by(repeat(first|rfl|rw[aa]|rw[ae _ _ _ _ (by omega)]))) (fun h=> ?_)
   have h7:=Rf h
   rw[sb,List.map_append,List.nodup_append]at h7
   exact h7.2.2 x.var (List.mem_map.2 ⟨_,ck hl,rfl⟩) x.var aE rfl
  |none=>
   have hln:=eH hl
   by_cases h6:x.var<0
   ·have h6':decide (x.var<0)=true:=decide_eq_true h6
    refine Vu e0 e1 e4 e6 hx hln h6' ?_
    refine fin _ _ (.inl rfl) _ _ af dh (fun j j1 j2=>by(repeat(first|rfl|rw[aa]|rw[ae _ _ _ _ (by omega)]))) (fun h=> ?_)
    have:=(h.iS.ok x cf).1
    omega
   have h6':decide (x.var<0)=false:=decide_eq_false h6
   by_cases h7:20<=x.var
   ·have h7':decide (x.var≥20)=true:=decide_eq_true h7
    refine Vt e0 e1 e4 e6 hx hln h6' h7' ?_
    refine fin _ _ (.inl rfl) _ _ af dh (fun j j1 j2=>by(repeat(first|rfl|rw[aa]|rw[ae _ _ _ _ (by omega)]))) (fun h=> ?_)
    have:=(h.iS.ok x cf).1
    omega
   have h7':decide (x.var≥20)=false:=decide_eq_false h7
   refine Vt e0 e1 e4 e6 hx hln h6' h7' ?_
   refine aq (oh s hs.sig (ag (s.binds.take k)) x.term (hs.bt x cf)) rfl ?_
   cases hv:bJ s.sig x.term with
   |false=>
    refine BR e0 e1 e4 e6 ?_
    refine fin _ _ (.inl rfl) _ _ af dh (fun j j1 j2=>by(repeat(first|rfl|rw[aa]|rw[ae _ _ _ _ (by omega)]))) (fun h=> ?_)
    have:=(h.iS.ok x cf).2
    rw[hv]at this;cases this
   |true=>
    have has:=DK (x:=x.term) hl
    refine Iz e0 e1 e4 e6 has ?_
    refine aj (k+1) ⟨h5, ?_,fun y hy=> ?_⟩ af (bL.bS _ (show nx<=nx+7 from af) af (rG KW s (by rfl)) (fun j hj=> ?_) ?_)
    ·rw[sb,List.map_append,List.nodup_append]
     refine⟨Ar,aE,fun a ha c hc e=> ?_⟩
     simp at hc
     rw[e,hc]at ha
     exact lS.1 hl ha
    ·rw[List.take_add_one,hx]at hy
     rcases List.mem_append.1 hy with hy|hy
     ·exact aY y hy
     ·simp at hy
      subst hy
      exact⟨af,hv⟩
    ·have hj:j<nx+7:=hj
     rw[sb, <- Ib o nx s (dt (ag (s.binds.take k)))]
     by_cases e:j=nx+4
     ·exact vi
     ·exact cg
    ·exact dT
 ·replace h5:k=s.binds.length:=by simp at h5;omega
  subst h5
  rw[List.take_length]at Ar aY e0 e1 e4 e6|-
  refine BC e0 e1 e4 e6 ?_
  obtain⟨b,hb⟩:∃b,b=ag s.binds:=⟨_,rfl⟩
  have og:∀p∈b,p.2.fits:=fun p hp=>by
   rw[hb]at hp
   obtain⟨x,hx,rfl⟩:=dq hp
   exact(hs.bt x hx).fits
  have GN:∀p∈b,Vs s.sig p.2:=fun p hp=>by
   rw[hb]at hp
   obtain⟨x,hx,rfl⟩:=dq hp
   exact(bz (aY x hx).2).1
  rw[<- hb]at Ar|-
  clear hg hgk
  have hg:=rG (m:= .cc (enc (D.int .i64) (kA b))) KW s (by rfl)
  have f0:=kpH_0 o nx s (.cc (enc (D.int .i64) (kA b)))
  have f1:=kpH_1 o nx s (.cc (enc (D.int .i64) (kA b)))
  have f4:=kpH_4 o nx s (.cc (enc (D.int .i64) (kA b)))
  have f6:=kpH_6 o nx s (.cc (enc (D.int .i64) (kA b)))
  clear e0 e1 e4 e6
  refine aD (fun i:List (Int×Tm)×Option (D×D)=>⟨aX [.ab, .ptr nx 0, .ptr (nx+1) 0, .ab, .ptr (nx+6) 0, .ab, .ab, .ab, .ab, .ab, .ab, .ab, .ab, .ab, .ab, .ab, .ab, .ab, .ab, .ab, .ab, .ab, .ab, .ab, .ab, .ab, .ab, .ab, .ab, .ab, .ab, .ab, .ab, .ab, .ab, .ab, .ab, .ab, .ab, .ab, .ab, .ab, .ab, .ab, .ab, .ab, .ab, .ab, .ab, .ab, .ab, .ab, .ab, .ab, .ab, .ab, .ab, .ab, .ab, .ab, .ab, .ab, .ab, .ab, .ab, .ab, .ab, .ab, .ab, .ab, .ab, .ab, .ab, .ab, .ab, .ab, .ab, .ab, .ab, .ab, .ab, .ab, .ab, .ab, .ab, .ptr (nx+10) 0],ay (xD o nx s (.cc (enc (D.int .i64) (kA b)))) (nx+10) (.rW (enc (D.int .i64) (kA i.1)) i.2),nx+11⟩)
   (fun i=>(∀p∈i.1,p∈b)/\∀p∈b,p∉i.1-> ¬oe b p.1 p.2) (fun i=>i.1.length) (b,none) ⟨fun _ h=>h,fun p h h'=>absurd h h'⟩ (bL.bS _ (show nx<=nx+11 from af) af dh (fun j hj=> ?_) ?_) ?_
  ·dsimp only
   by_cases e:j=nx+10
   ·subst e;rw[aa,aa]
   ·rw[ae _ _ _ _ e,ae _ _ _ _ e,Ib]
  ·exact dT
  rintro⟨rest,last⟩ ⟨hr,hd⟩
  dsimp only at hr hd|-
  refine BC f0 f1 f4 f6 ?_
  refine s9 (fun h0=> ?_) fun i v x hm=> ?_
  ·subst h0
   have N7:YC b:=fun v x hx=>hd (v,x) (ck hx) aE
   have ur:=jv (by rw[<- hb];exact Ar) aY (by rw[<- hb];exact N7)
   rw[<- hb]at ur
   obtain⟨l',ρ,R,hS,hl⟩:=ur
   have hle:∀p∈b,∃f r,tZ f b p.2 40 12=some r:=fun p hp=>by
    exact Tf
   obtain⟨fo,BN⟩:∃fo:Bool,fo=true↔∀p∈b,zB b p.2:=by
    classical
    exact⟨decide (∀p∈b,zB b p.2),aE⟩
   refine BC f0 f1 f4 f6 ?_
   refine aq (zE og hle BN) rfl ?_
   cases fo with
   |false=>
    refine BC f0 f1 f4 f6 ?_
    refine fin _ _ (.inr rfl) _ _ af dh (fun j j1 j2=>by(repeat(first|rfl|rw[aa]|rw[ae _ _ _ _ (by omega)]))) (fun h=> ?_)
    have:=BN.2 fun p hp=>by
     rw[hb]at hp|-
     obtain⟨x,hx,rfl⟩:=dq hp
     exact h.iS.Vd x hx
    cases this
   |true=>
    have Wk:iz s.sig s.binds:=⟨af,by rw[<- hb];exact Ar,aY,by rw[<- hb];exact N7,fun x hx=>by rw[<- hb];exact BN.1 rfl _ (hb ▸ ez hx)⟩
    refine BR f0 f1 f4 f6 ?_
    refine aD (fun k:Nat=>⟨aX [.ab, .ptr nx 0, .ptr (nx+1) 0, .ab, .ptr (nx+6) 0, .ab, .ab, .ab, .ab, .ab, .ab, .ab, .ab, .ab, .ab, .ab, .ab, .ab, .ab, .ab, .ab, .ab, .ab, .ab, .ab, .ab, .ab, .ab, .ab, .ab, .ab, .ab, .ab, .ab, .ab, .ab, .ab, .ab, .ab, .ab, .ab, .ab, .ab, .ab, .ab, .ab, .ab, .ab, .ab, .ab, .ab, .ab, .ab, .ab, .ab, .ab, .ab, .ab, .ab, .ab, .ab, .ab, .ab, .ab, .ab, .ab, .ab, .ab, .ab, .ab, .ab, .ab, .ab, .ab, .ab, .ab, .ab, .ab, .ab, .ab, .ab, .ab, .ab, .ab, .ab, .ab, .ab, .ab, .ab, .ab, .ab, .ab, .ab, .ab, .ab, .ab, .ab, .ab, .ab, .ab, .ab, .ab, .ab, .d (.sl (s.aI.map Nt.d)), .d (.i s.aI.length), .d (.i k)],xD o nx s (.cc (enc (D.int .i64) (kA b))),nx+7⟩)
     (fun k=>k<=s.aI.length/\∀n∈s.aI.take k,bJ s.sig n.a=true/\bJ s.sig n.b=true/\ ¬BP b n) (fun k=>s.aI.length - k) 0 ⟨Nat.zero_le _,fun n hn=>by simp at hn⟩ (bL.bS _ (show nx<=nx+7 from af) af hg (fun j hj=> ?_) ?_) (fun k hk=> ?_)
    ·have hj:j<nx+7:=hj
     exact cg
    ·exact dT
    obtain⟨hk,YN⟩:=hk
    refine BR f0 f1 f4 f6 ?_
    refine ak (fun h6=> ?_) (fun h6=> ?_)
    ·replace h6:k<s.aI.length:=by simp at h6;omega
     obtain⟨n,hn⟩:=aB h6
     have BH:=List.mem_of_getElem? hn
     obtain⟨na,nb⟩:=hs.nt n BH
     refine Iz f0 f1 f4 f6 hn ?_
     refine aq (oh s hs.sig b n.a na) rfl ?_
     cases va:bJ s.sig n.a with
     |false=>
      refine BC f0 f1 f4 f6 ?_
      refine fin _ _ (.inr rfl) _ _ af dh (fun j j1 j2=>by(repeat(first|rfl|rw[aa]|rw[ae _ _ _ _ (by omega)]))) (fun h=> ?_)
      have:=(h.aI n BH).1
      rw[va]at this;cases this
     |true=>
      refine BC f0 f1 f4 f6 ?_
      refine aq (oh s hs.sig b n.b nb) rfl ?_
      cases vb:bJ s.sig n.b with
      |false=>
       refine BC f0 f1 f4 f6 ?_
       refine fin _ _ (.inr rfl) _ _ af dh (fun j j1 j2=>by(repeat(first|rfl|rw[aa]|rw[ae _ _ _ _ (by omega)]))) (fun h=> ?_)
       have:=(h.aI n BH).2.1
       rw[vb]at this;cases this
      |true=>
       obtain⟨a1,a2,a3⟩:=bz va
       obtain⟨b1,b2,b3⟩:=bz vb
       have c7:∀p∈b,zB b p.2:=BN.1 rfl
       have za:=mK hS c7 a1
       have zb:=mK hS c7 b1
       have ua:u5 (R+3+3200) b n.a=some (aR (ag l') n.a):=pB hS 3200 n.a a1 af
       have ub:u5 (R+3+3200) b n.b=some (aR (ag l') n.b):=pB hS 3200 n.b b1 af
       have xZ:=rE (n:=n) hS a1 b1
       refine BC f0 f1 f4 f6 ?_
       refine aq (zG s og n na.fits nb.fits ua ub (Tm.dC _ af) (Tm.dC _ af) af af) rfl ?_
       cases EO:gY (aR (ag l') n.a) (aR (ag l') n.b)with
       |true=>
        refine BC f0 f1 f4 f6 ?_
        refine fin _ _ (.inr rfl) _ _ af dh (fun j j1 j2=>by(repeat(first|rfl|rw[aa]|rw[ae _ _ _ _ (by omega)]))) (fun h=> ?_)
        exact(h.aI n BH).2.2 (hb ▸ xZ.2 ((dR _ _).1 EO))
       |false=>
        refine BC f0 f1 f4 f6 ?_
        refine aj (k+1) ⟨h6,fun y hy=> ?_⟩ af (bL.bS _ (show nx<=nx+7 from af) af hg (fun j hj=> ?_) ?_)
        ·rw[List.take_add_one,hn]at hy
         rcases List.mem_append.1 hy with hy|hy
         ·exact YN y hy
         ·simp at hy
          subst hy
          refine⟨va,vb,fun h=> ?_⟩
          rw[(dR _ _).2 (xZ.1 h)]at EO;cases EO
        ·have hj:j<nx+7:=hj
         exact cg
        ·exact dT
    ·replace h6:k=s.aI.length:=by simp at h6;omega
     subst h6
     rw[List.take_length]at YN
     refine BR f0 f1 f4 f6 ?_
     refine aD (fun i:Nat×Int×Int=>⟨aX [.ab, .ptr nx 0, .ptr (nx+1) 0, .ab, .ptr (nx+6) 0, .ab, .ab, .ab, .ab, .ab, .ab, .ab, .ab, .ptr (nx+8) 0, .ab, .ab, .ab, .ab, .ab, .ab, .ab, .ab, .ab, .ab, .ab, .ab, .ab, .ab, .ab, .ab, .ab, .ab, .ab, .ab, .ab, .ab, .ab, .ab, .ab, .ab, .ab, .ab, .ab, .ab, .ab, .ab, .ab, .ab, .ab, .ab, .ab, .ab, .ab, .ab, .ab, .ab, .ab, .ab, .ab, .ab, .ab, .ab, .ab, .ab, .ab, .ab, .ab, .ab, .ab, .ab, .ab, .ab, .ab, .ab, .ab, .ab, .ab, .ab, .ab, .ab, .ab, .ab, .ab, .ab, .ab, .ab, .ab, .ab, .ab, .ab, .ab, .ab, .ab, .ab, .ab, .ab, .ab, .ab, .ab, .ab, .ab, .ab, .ab, .ab, .ab, .ab, .ab, .ab, .ab, .ab, .ab, .ab, .ab, .ab, .ab, .ab, .ab, .ab, .ab, .ab, .ab, .ab, .ab, .ab, .ab, .ab, .ab, .ab, .ab, .d (.sl (s.marks.map tj)), .d (.i s.marks.length), .d (.i i.1)],ay (xD o nx s (.cc (enc (D.int .i64) (kA b)))) (nx+8) (.row [.d (.i i.2.1), .d (.i i.2.2)]),nx+9⟩)
      (fun i=>i.1<=s.marks.length/\mJ s.binds.length s.aI.length i.2 (s.marks.drop i.1)=mJ s.binds.length s.aI.length (0,0) s.marks) (fun i=>s.marks.length - i.1) (0,0,0) ⟨Nat.zero_le _,rfl⟩ (bL.bS _ (show nx<=nx+9 from af) af dh (fun j hj=>by(repeat(first|rfl|rw[aa]|rw[ae _ _ _ _ (by omega)]))) ?_) ?_
     ·exact dT
     rintro⟨k,l1,l2⟩ ⟨hk,l6⟩
     dsimp only at hk l6|-
     refine BR f0 f1 f4 f6 ?_
     refine ak (fun h7=> ?_) (fun h7=> ?_)
     ·replace h7:k<s.marks.length:=by simp at h7;omega
      obtain⟨⟨m1,m2⟩,hm⟩:=aB h7
      have FX:s.marks.drop k=(m1,m2)::s.marks.drop (k+1):=by
       obtain⟨i1,i2⟩:=List.getElem?_eq_some_iff.1 hm
       exact IW
      rw[FX,mJ]at l6
      dsimp only at l6
      cases g1:decide (m1<l1)with
      |true=>
       rw[g1]at l6
       simp only[Bool.true_or,Bool.or_true,Bool.not_true,Bool.false_and]at l6
       refine Vu f0 f1 f4 f6 hm hm g1 ?_
       exact zw3
      |false=>
      rw[g1]at l6
      cases g2:decide (m1>(s.binds.length:Int))with
      |true=>
       rw[g2]at l6
       simp only[Bool.true_or,Bool.or_true,Bool.not_true,Bool.false_and]at l6
       refine Vu f0 f1 f4 f6 hm g1 g2 ?_
       exact zw3
      |false=>
      rw[g2]at l6
      cases g3:decide (m2<l2)with
      |true=>
       rw[g3]at l6
       simp only[Bool.true_or,Bool.or_true,Bool.not_true,Bool.false_and]at l6
       refine Vt f0 f1 f4 f6 hm g1 g2 g3 ?_
       exact zw3
      |false=>
      rw[g3]at l6
      cases g4:decide (m2>(s.aI.length:Int))with
      |true=>
       rw[g4]at l6
       simp only[Bool.true_or,Bool.or_true,Bool.not_true,Bool.false_and]at l6
       simp+contextual (disch:=first|omega|simp only[go_sem,false_implies]) only[go_sem,wrap64,if_pos,f0,f1,f4,f6,hm,g1,g2,g3,g4,List.length_map,Nat.add_assoc,Nat.left_eq_add,Nat.add_eq_left,Nat.add_left_cancel_iff]
       exact zw3
      |false=>
      rw[g4]at l6
      simp only[Bool.or_false,Bool.not_false,Bool.true_and]at l6
      simp+contextual (disch:=first|omega|simp only[go_sem,false_implies]) only[go_sem,wrap64,if_pos,f0,f1,f4,f6,hm,g1,g2,g3,g4,List.length_map,Nat.add_assoc,Nat.left_eq_add,Nat.add_eq_left,Nat.add_left_cancel_iff]
      refine aj (k+1,m1,m2) ⟨h7,l6⟩ kV (bL.bS _ (show nx<=nx+9 from af) af dh (fun j hj=> ?_) ?_)
      ·have hj:j<nx+9:=hj
       by_cases e:j=nx+8
       ·exact vi
       ·exact cg
      ·exact dT
     ·replace h7:k=s.marks.length:=by simp at h7;omega
      subst h7
      rw[List.drop_length]at l6
      refine BC f0 f1 f4 f6 ?_
      refine xf ⟨h1,af,af,Wk,fun n hn=> ?_,l6.symm⟩ _ _ (nx+4) af dh (fun j hj=> ?_) ?_
      ·rw[<- hb];exact YN n hn
      ·(repeat(first|rfl|rw[aa]|rw[ae _ _ _ _ (by omega)]));exact N6 _ _ _ _ af af af af
      ·(repeat(first|rfl|rw[aa]|rw[ae _ _ _ _ (by omega)]));rw[f4,hb]
  ·have mW:=List.mem_of_getElem? hm
   have O2:=hr _ mW
   have vq:=qe hm
   have hlen:(rest.eraseIdx i).length<rest.length:=by
    exact V2
   obtain⟨is,F1⟩:∃is:Bool,is=true↔oe b v x:=by
    classical
    exact⟨decide (oe b v x),aE⟩
   refine BC f0 f1 f4 f6 ?_
   refine aq (H6 GN og v x (GN _ O2) (og _ O2) F1) rfl ?_
   cases is with
   |true=>
    refine BC f0 f1 f4 f6 ?_
    refine fin _ _ (.inr rfl) _ _ af dh (fun j j1 j2=>by(repeat(first|rfl|rw[aa]|rw[ae _ _ _ _ (by omega)]))) (fun h=> ?_)
    exact h.iS.FW v x ((fW h.iS.keys).2 (hb ▸ O2)) (hb ▸ F1.1 rfl)
   |false=>
    refine BC f0 f1 f4 f6 ?_
    refine aj (rest.eraseIdx i,some (.int .i64 v,x.d)) ⟨fun p hp=>hr p (vq.mem_iff.1 (List.mem_cons_of_mem _ hp)),fun p hp hpn=> ?_⟩ hlen (bL.bS _ (show nx<=nx+11 from af) af dh (fun j hj=> ?_) ?_)
    ·by_cases e:p=(v,x)
     ·subst e
      exact fun h=>Bool.false_ne_true (F1.2 h)
     ·exact hd p hp fun tG=>by
       rcases List.mem_cons.1 (vq.mem_iff.2 tG)with h|h
       ·exact e h
       ·exact hpn h
    ·have hj:j<nx+11:=hj
     by_cases e:j=nx+10
     ·exact vi
     ·exact cg
    ·exact dT
end Go.Proofs.YtlhemmpklhhgoaaGreat
namespace Go.Proofs.YtlhemmpklhhgoaaGreat
structure Srt (s:az) (l:List TB):Prop where
 srt:l.Pairwise fun x y=>x.var<y.var
 ok:∀x∈l,(0<=x.var/\x.var<20)/\Vs s x.term
structure MS (b:List (Int×Tm)) (l:List TB):Prop where
 keys:(b.map (·.1)).Nodup
 lk:∀v,bQ b v=bQ (ag l) v
theorem xg(l:List TB)(hl:l.length<=1000000)(hf:∀x∈l,x.term.fits):aW Tryz.prog 60 [.sl (l.map TB.d), .sl (l.map TB.d)] (.ret [.bool true]):=by
 refine aW.aG mix ac9 aE ?_
 rw[c60]
 simp+contextual (disch:=first|omega|simp only[go_sem,false_implies]) only[go_sem,wrap64,if_pos,List.length_map,bne_self_eq_false]
 refine aD (fun k:Nat=>⟨aX [.d (.sl (l.map TB.d)), .d (.sl (l.map TB.d)), .ab, .ab, .ab, .d (.i k)],fun _=> .no,0⟩)
  (fun k=>k<=l.length) (fun k=>l.length - k) 0 (Nat.zero_le _) (bL.d0 _ ?_) (fun k hk=> ?_)
 ·exact dT
 refine tv ?_
 refine ak (fun h2=> ?_) (fun h2=> ?_)
 ·simp at h2
  obtain⟨x,hx⟩:=aB h2
  have tK:=wK x.term (hf x (List.mem_of_getElem? hx)) x.term (hf x (List.mem_of_getElem? hx))
  rw[qc]at tK
  refine Vy hx ?_
  refine aZ tK rfl ?_
  exact aby
 ·exact pD
mutual
def Tm.gN:Tm->Prop
 | .mk _ _ kids=>kids.length<=1000/\Tm.xh kids
def Tm.xh:List Tm->Prop
 |[]=>True
 |k::l=>k.gN/\Tm.xh l
end
theorem Tm.D6:∀l:List Tm,Tm.xh l↔∀k∈l,k.gN
 |[]=>by simp[Tm.xh]
 |k::l=>by simp[Tm.xh,Tm.D6 l]
theorem Tm.ik (t:Tm):t.gN↔t.kids.length<=1000/\∀k∈t.kids,k.gN:=by cases t;simp[Tm.gN,Tm.D6,Tm.kids]
theorem Tm.F9:∀t:Tm,t.sz<=1000->t.gN:=by
 refine Tm.ek fun t ih h=> ?_
 rw[Tm.ik]
 have:=mH t.kids
 have h2:=Tm.iw t
 exact SA
theorem Tm.oi {b:List (Int×Tm)}(hb:∀p∈b,p.2.gN):∀t:Tm,t.gN->(aR b t).gN:=by
 refine Tm.ek fun t ih h=> ?_
 have h':=(Tm.ik t).1 h
 rw[n9]
 split
 ·split
  ·rename_i x hx;exact hb _ (ck hx)
  ·exact h
 ·rw[Tm.ik]
  refine⟨by simp only[Tm.kids,List.length_map];exact h'.1,fun k hk=> ?_⟩
  obtain⟨y,hy,rfl⟩:=List.mem_map.1 hk
  exact ih y hy (h'.2 y hy)
theorem Tm.rH:∀t:Tm,t.gN->t.fits:=by
 refine Tm.ek fun t ih h=> ?_
 have h':=(Tm.ik t).1 h
 rw[Tm.cj]
 exact⟨af,fun k hk=>ih k hk (h'.2 k hk)⟩
theorem Ic{s:az}:∀t:Tm,Vs s t->t.gN->∀l:List TB,l.length<=100->aW Tryz.prog 82 [t.d, .sl (l.map TB.d)] (.ret [(aR (ag l) t).d]):=by
 refine Tm.ek fun t ih hv hw l hlen=> ?_
 have hw':=(Tm.ik t).1 hw
 refine aW.aG mix adn aE ?_
 rw[c82]
 by_cases h1:t.op=1
 ·have fh:(t.op==1)=true:=by simpa using h1
  refine ou fh ?_
  refine aq (NC l t.n af) rfl ?_
  rcases rz l t.n with⟨f1,f2⟩|⟨k,x,f1,f2,f3⟩
  ·have hs:aR (ag l) t=t:=by rw[n9,if_pos h1,f2]
   have f3:decide (0<=findF l t.n)=false:=by simpa using f1
   rw[hs]
   exact Pr fh f3
  ·have hs:aR (ag l) t=x.term:=by rw[n9,if_pos h1,f3]
   rw[hs,f1]
   exact Pr fh f2
 ·have fh:(t.op==1)=false:=by simpa using h1
  have h8':(t.op==8)=false:=by simpa using hv.n8
  rw[dY h1]
  refine IB fh h8' ?_
  refine aD (fun i:Nat=>⟨aX [.ab, .d (.sl (l.map TB.d)), .ptr 0 0, .ab, .ptr 1 0, .ab, .osl 2 0, .d (.i i)],ay (ay (ay (fun _=> .no) 0 (.row t.row)) 1 (.row [.d (.i 0), .d (.i 0), .ax])) 2 (.arr 0 33 3 (((t.kids.take i).map (aR (ag l))).map Tm.d)),3⟩)
   (fun i=>i<=t.kids.length) (fun i=>t.kids.length - i) 0 (Nat.zero_le _) (bL.uD (ty:=33) (sz:=3) (es:=[]) (fun _=>False) .ax 2 _ af (lt2 (bn rfl uf) (bn rfl uf)) (by rw[aa];simp) (.inl ⟨rfl,rfl,bF⟩) (fun j hj=>by(repeat(first|rfl|rw[aa]|rw[ae _ _ _ _ (by omega)]))) (fun _ h=>h.elim) ?_) ?_
  ·exact jH
  rintro k hk
  replace hk:k<=t.kids.length:=hk
  refine tv ?_
  refine ak (fun h2=> ?_) (fun h2=> ?_)
  ·simp at h2
   obtain⟨x,hx⟩:=aB h2
   have cf:=List.mem_of_getElem? hx
   have sb:t.kids.take (k+1)=t.kids.take k++[x]:=by rw[List.take_add_one,hx];rfl
   have e0:(t.kids.take k).length=k:=by rw[List.length_take];omega
   refine sc hx e0 ?_
   refine bE (rs:=[(aR (ag l) x).d]) (ih x cf (hv.ki cf) (hw'.2 x cf) l hlen) ?_
   refine sc hx e0 ?_
   refine aj (k+1) h2 af (bL.uD (fun j=>j=2) (.osl 2 1) 2 _ af (lt2 (mG (y:= .row t.row) cg cg (bn rfl uf)) (mG (y:= .row [.d (.i 0), .d (.i 0), .ax]) cg cg (bn rfl uf))) (aa _ _ _) (.inr ⟨2,1,rfl,rfl,by(repeat(first|rfl|rw[aa]|rw[ae _ _ _ _ (by omega)]));rw[sb,List.map_append,List.map_append];rfl⟩) (fun j hj=>by(repeat(first|rfl|rw[aa]|rw[ae _ _ _ _ (by omega)]))) (fun j h h2=>af) ?_)
   exact jH
  ·simp at h2
   have Cq:k=t.kids.length:=af
   subst Cq
   rw[List.take_length]
   refine tv ?_
   rw[Tm.Db]
theorem Rs{s:az}{t:Tm}(hv:Vs s t):(cJ t).length<=20:=Bc (fun n hn=>hv.range (((cO t).2 n).1 hn)) (cO t).1
theorem D7{s:az}:∀t:Tm,Vs s t->t.gN->aW Tryz.prog 141 [t.d] (.ret [.sl ((cJ t).map .i)]):=by
 refine Tm.ek fun t ih hv ht=> ?_
 have hw':=(Tm.ik t).1 ht
 refine aW.aG mix adO aE ?_
 rw[adN]
 by_cases h1:t.op=1
 ·refine ou h1 ?_
  rw[rv,if_pos h1]
  rfl
 ·have fh:(t.op==1)=false:=by simpa using h1
  have b1:(t.op !=8)=true:=by simpa using hv.n8
  refine ou fh ?_
  rw[rv,if_neg h1]
  refine aD (fun i:Nat×List Int=>⟨aX [.ab, .ptr 0 0, .ab, .d (.sl (i.2.map .i)), .d (.i i.1)],pX t.row,1⟩)
   (fun i=>i.1<=t.kids.length/\mF t.op t.n t.kids 0 []=mF t.op t.n (t.kids.drop i.1) i.1 i.2/\FM i.2/\∀v∈i.2,0<=v/\v<20) (fun i=>t.kids.length - i.1) (0,[]) ⟨Nat.zero_le _,rfl,List.Pairwise.nil,fun _ h=>by cases h⟩
   (bL.aez (fun _=>False) 1 _ af (lt1 (bn rfl uf)) (fun j hj=>ae _ _ _ _ af) (fun _ h=>h.elim) ?_) ?_
  ·try dsimp only
   exact jH
  rintro⟨k,out⟩ ⟨hk,FN,aeU,hrg⟩
  simp only at hk FN aeU hrg
  refine cK ?_
  refine ak (fun h2=> ?_) (fun h2=> ?_)
  ·simp at h2
   obtain⟨x,hx⟩:=aB h2
   have cf:=List.mem_of_getElem? hx
   have vx:=hv.ki cf
   have hvl:=Rs vx
   have FX:t.kids.drop k=x::t.kids.drop (k+1):=by
    obtain⟨h5,h6⟩:=List.getElem?_eq_some_iff.1 hx
    rw[List.drop_eq_getElem_cons h5,h6]
   have part:∀L:List Int,(∀v∈L,v∈cJ x)->FM (qd t.op t.n k L out)/\∀v∈qd t.op t.n k L out,0<=v/\v<20:=fun L hL=>by
    obtain⟨q1,q2⟩:=oK t.op t.n k L out aeU
    refine⟨q1,fun v NF=> ?_⟩
    rcases(q2 v).1 NF with h|h
    ·exact hrg v h
    ·exact vx.range (((cO x).2 v).1 (hL v h.1))
   refine ou hx ?_
   refine bE (ih x cf vx (hw'.2 x cf)) ?_
   refine ou hx ?_
   refine aD (fun j:Nat=>⟨aX [.ab, .ptr 0 0, .ab, .d (.sl ((qd t.op t.n k ((cJ x).take j) out).map .i)), .d (.i k), .d (.sl ((cJ x).map .i)), .d (.i j)],pX t.row,1⟩)
    (fun j=>j<=(cJ x).length) (fun j=>(cJ x).length - j) 0 (Nat.zero_le _) (bL.d1 _ (cT rfl) af rfl ?_) (fun j hj=> ?_)
   ·exact dT
   refine cK ?_
   refine ak (fun h3=> ?_) (fun h3=> ?_)
   ·simp at h3
    obtain⟨v,NF⟩:=aB h3
    have xM:=part ((cJ x).take j) (fun v hv=>List.mem_of_mem_take hv)
    have Cq:=Bc xM.2 xM.1
    have hc:(t.op !=8||(k:Int)!=1||v !=t.n)=true:=by rw[b1];rfl
    refine IB NF b1 ?_
    refine aK bF ?_
    refine ou NF ?_
    refine bE (aeM _ v af) ?_
    refine cK ?_
    refine aj (j+1) h3 af (bL.d1 _ (cT rfl) af rfl ?_)
    rw[Kc NF,if_pos hc]
    exact dT
   ·simp at h3
    refine cK ?_
    rw[List.take_of_length_le (by omega)]
    obtain⟨p1,p2⟩:=part (cJ x) (fun v hv=>hv)
    refine aj (k+1,qd t.op t.n k (cJ x) out) ⟨h2,by rw[FN,FX];rfl,p1,p2⟩ kV (bL.d1 _ (cT rfl) af rfl ?_)
    exact dT
  ·simp at h2
   refine cK ?_
   rw[FN,List.drop_eq_nil_of_le (by omega)]
   rfl
theorem Ga(n low high:Int):aW Tryz.prog 77 [.i n, .i low, .i high] (.ret [.bool (dU n low high)]):=by
 refine aW.aG mix agL aE ?_
 rw[c77]
 refine a7 ?_
 rfl
theorem lV(s:az)(hs:s.Fits)(t:Tm)(ht:t.fits):aW Tryz.prog 39 [s.d,t.d] (.ret [.bool (gI s t&&ff t)]):=by
 refine aW.aG mix agx aE ?_
 rw[c39]
 refine cK ?_
 refine aq (Ym s hs t ht) rfl ?_
 cases h:gI s t with
 |false=>exact pD
 |true=>
  refine cK ?_
  refine aq (QU t ht) rfl ?_
  exact pD
theorem xi{s:az}(h:ji s=true)(t:Tm):bJ s t=(gI s t&&ff t):=by
 unfold bJ jk
 rw[h]
 simp only[List.all_cons,List.all_nil,Bool.and_true,Bool.true_and,qb]
 cases h1:gI s t with
 |false=>rfl
 |true=>rw[oJ h1]
theorem rI(l:List TB)(n:Int)(hl:l.length<=1000000):aW Tryz.prog 116 [.sl (l.map TB.d), .i n] (.ret [.i (findF l n)]):=by
 refine aW.aG mix adw aE ?_
 rw[adv]
 refine cK ?_
 refine aD (fun k:Nat=>⟨aX [.d (.sl (l.map TB.d)), .d (.i n), .ab, .ab, .ab, .d (.i k)],fun _=> .no,0⟩)
  (fun k=>k<=l.length/\∀j x,j<k->l[j]? =some x->x.var≠n) (fun k=>l.length - k) 0 ⟨Nat.zero_le _,fun _ _ h=>absurd h af⟩ (bL.d0 _ ?_) (fun k hk=> ?_)
 ·exact dT
 refine tv ?_
 refine ak (fun h2=> ?_) (fun h2=> ?_)
 ·simp at h2
  obtain⟨x,hx⟩:=aB h2
  refine rU hx ?_
  refine ak (fun h3=> ?_) (fun h3=> ?_)
  ·have kF:x.var=n:=by simpa using h3
   have:findF l n=k:=by
    have:l.findIdx? (·.var==n)=some k:=by
     rw[List.findIdx?_eq_some_iff_getElem]
     obtain⟨Cq,e⟩:=List.getElem?_eq_some_iff.1 hx
     refine⟨Cq,by rw[e];simpa using kF,fun j hj=> ?_⟩
     have:=hk.2 j _ hj (List.getElem?_eq_getElem af)
     simpa using this
    rw[findF,this]
   exact yp
  ·have kF:x.var≠n:=by simpa using h3
   refine cK ?_
   refine aj (k+1) ⟨h2,fun j y hj hy=> ?_⟩ af (bL.d0 _ ?_)
   ·by_cases e:j=k
    ·exact SF
    ·exact hk.2 j y af hy
   ·exact dT
 ·simp at h2
  have:findF l n= -1:=by
   have:l.findIdx? (·.var==n)=none:=by
    rw[List.findIdx?_eq_none_iff]
    intro x hx
    obtain⟨j,hj,e⟩:=List.getElem_of_mem hx
    have:=hk.2 j x af (by rw[List.getElem?_eq_getElem hj,e])
    simpa using this
   rw[findF,this]
  exact yp
theorem Ie(l:List Int)(n:Int)(hl:l.length<=1000000):aW Tryz.prog 142 [.sl (l.map .i), .i n] (.ret [.bool (l.contains n)]):=by
 refine aW.aG mix adQ aE ?_
 rw[adP]
 refine cK ?_
 refine aD (fun k:Nat=>⟨aX [.d (.sl (l.map .i)), .d (.i n), .ab, .ab, .ab, .d (.i k)],fun _=> .no,0⟩)
  (fun k=>k<=l.length/\(l.take k).contains n=false) (fun k=>l.length - k) 0 ⟨Nat.zero_le _,aE⟩ (bL.d0 _ ?_) (fun k hk=> ?_)
 ·exact dT
 refine cK ?_
 refine ak (fun h2=> ?_) (fun h2=> ?_)
 ·simp at h2
  obtain⟨x,hx⟩:=aB h2
  refine ou hx ?_
  refine ak (fun h3=> ?_) (fun h3=> ?_)
  ·refine cK ?_
   have:l.contains n=true:=by
    rw[List.contains_iff_mem, <- (by simpa using h3:x=n)];exact List.mem_of_getElem? hx
   rw[this]
  ·refine cK ?_
   refine aj (k+1) ⟨h2, ?_⟩ af (bL.d0 _ ?_)
   ·have h4: ¬n=x:=fun e=>by subst e;simp at h3
    have h5:=hk.2
    rw[List.take_add_one,hx]
    rw[Bool.eq_false_iff]at h5|-
    intro hc;apply h5
    rw[List.contains_iff_mem]at hc|-
    rcases List.mem_append.1 hc with hc|hc
    ·exact hc
    ·simp at hc;exact absurd hc h4
   ·exact dT
 ·simp at h2
  refine cK ?_
  have:=hk.2
  rw[List.take_of_length_le (by omega)]at this
  rw[this]
def Ve(o:Nat->ad)(nx:Nat)(l:List Int):Nat->ad:=ay o nx (.arr 0 3 1 (l.map D.i))
theorem ilH_0(o:Nat->ad)(nx:Nat)(l:List Int):Ve o nx l nx= .arr 0 3 1 (l.map D.i):=by unfold Ve;rw[aa]
theorem tn(o:Nat->ad)(nx:Nat)(l:List Int){j:Nat}(h:j≠nx):Ve o nx l j=o j:=by unfold Ve;rw[ae _ _ _ _ h]
theorem tp{o:Nat->ad}{nx b:Nat}(WC:Good o nx)(hb:b<=nx){e:Nat->V}{so:Nat->ad}{m:Nat}(L:List V)(l:List Int){x:V}(gone:Nat->Prop)(sT:∀id,gone id->id<nx->o id= .no)
 (gx:fN so gone 3 1 (l.map D.i) x) (sr:∀j,j<nx->so j=o j\/o j= .no) (he:iP nx [⟨x,3,1,l.map D.i⟩] so gone e L 0):bL b ⟨e,so,m⟩ ⟨aX L,Ve o nx l,nx+1⟩:=by
 refine bL.uD gone x nx L hb (fun j hj=> ?_) (ilH_0 o nx l) gx (fun j hj=> ?_) (fun j h1 h2=>by rw[tn _ _ _ (by omega)];exact sT j h1 h2) he
 ·rw[tn _ _ _ (by omega)]
  rcases sr j hj with h|h
  ·exact bn h (fun r hr=>WC.refs j r hr)
  ·rw[h];exact js
 ·rw[tn _ _ _ (by omega)]
  exact WC.fresh j af
def IsL(o:Nat->ad)(x:V)(l:List Int):Prop:=(x= .ax/\l=[])\/∃id ep,x= .osl id ep/\o id= .arr ep 3 1 (l.map D.i)
theorem N8:∀ (more l:List Int),(qh l more).length<=l.length+more.length
 |[],l=>by simp[qh]
 |u::more,l=>by
  have h1:(ew l u).length<=l.length+1:=by
   unfold ew
   split
   ·omega
   ·rw[List.length_append,List.length_singleton];omega
  have h2:=N8 more (ew l u)
  show(qh (ew l u) more).length<=_
  rw[List.length_cons];omega
theorem IsL.Vf {o:Nat->ad}{x:V}{l:List Int}(h:IsL o x l):fN o (fun _=>True) 3 1 (l.map D.i) x:=by
 rcases h with⟨rfl,rfl⟩|⟨id,ep,rfl,ho⟩
 ·exact .inl ⟨rfl,rfl,bF⟩
 ·exact .inr ⟨id,ep,trivial,rfl,ho⟩
theorem N9(l more:List Int)(hl:l.length<=100000)(hm:more.length<=100000){x:V}{o:Nat->ad}{nx:Nat}(hg:Good o nx)(hx:IsL o x l){K X:V->(Nat->ad)->Nat->Prop}
 (hK:∀y o' nx',nx<=nx'->Good o' nx'->(∀j,j<nx->(∀ep,x≠ .osl j ep)->o' j=o j)->IsL o' y (qh l more)->K y o' nx'):bP Tryz.prog 140 [x, .d (.sl (more.map D.i))] o nx K X:=by
 refine bP.aG mix adM aE ?_
 rw[adL]
 refine fY ?_
 obtain⟨o0,gone,c1,c2,c3,c4,c5⟩:∃ (o0:Nat->ad) (gone:Nat->Prop),Good o0 nx/\(∀j,j<nx->o j=o0 j\/o0 j= .no)/\(∀id,gone id->id<nx->o0 id= .no)/\fN o gone 3 1 (l.map D.i) x/\(∀j,j<nx->(∀ep,x≠ .osl j ep)->o0 j=o j):=by
  rcases hx with⟨rfl,rfl⟩|⟨id,ep,rfl,ho⟩
  ·exact⟨o,fun _=>False,hg,fun j _=> .inl rfl,fun _ h=>h.elim, .inl ⟨rfl,rfl,bF⟩,fun j _ _=>rfl⟩
  ·have aw:id<nx:=hg.lt LF
   refine⟨ay o id .no,(· =id),hg.ay aw rfl,fun j hj=> ?_,fun j e _=>by rw[e,aa], .inr ⟨id,ep,rfl,rfl,ho⟩,fun j hj iu=> ?_⟩
   ·by_cases e:j=id
    ·subst e;rw[aa];exact .inr rfl
    ·rw[ae _ _ _ _ e];exact .inl rfl
   ·by_cases e:j=id
    ·subst e;exact absurd rfl (iu ep)
    ·exact GH
 refine aD (fun k:Nat=>⟨aX [.osl nx 0, .d (.sl (more.map D.i)), .ab, .ab, .ab, .d (.i k)],Ve o0 nx (qh l (more.take k)),nx+1⟩)
  (fun k=>k<=more.length) (fun k=>more.length - k) 0 (Nat.zero_le _) (tp c1 (Nat.le_refl _) _ (qh l []) gone c3 c4 c2 ?_) (fun k hk=> ?_)
 ·exact jH
 replace hk:k<=more.length:=hk
 have q0:=ilH_0 o0 nx (qh l (more.take k))
 have hlen:=N8 (more.take k) l
 rw[List.length_take]at hlen
 refine aal q0 ?_
 refine ak (fun h2=> ?_) (fun h2=> ?_)
 ·replace h2:k<more.length:=by simp at h2;omega
  obtain⟨v,hv⟩:=aB h2
  have sb:qh l (more.take (k+1))=ew (qh l (more.take k)) v:=by unfold qh;rw[List.take_add_one,hv,List.foldl_append];rfl
  simp+contextual (disch:=first|omega|simp only[go_sem,false_implies]) only[go_sem,wrap64,if_pos,q0,hv,List.length_map,Nat.add_assoc,Nat.left_eq_add,Nat.add_eq_left,Nat.add_left_cancel_iff]
  refine aq (Ie (qh l (more.take k)) v af) rfl ?_
  cases hc:(qh l (more.take k)).contains v with
  |true=>
   have e1:ew (qh l (more.take k)) v=qh l (more.take k):=by unfold ew;rw[if_pos hc]
   refine aal q0 ?_
   refine aj (k+1) h2 af ?_
   rw[sb,e1]
   refine tp c1 (Nat.le_refl _) _ _ (fun id=>nx<=id) (fun id h1 h2=>af) (x:= .osl nx 0) (.inr ⟨nx,0,Nat.le_refl _,rfl,q0⟩) (fun j hj=> .inl (by rw[tn _ _ _ (by omega)])) ?_
   exact jH
  |false=>
   have e1:ew (qh l (more.take k)) v=qh l (more.take k)++[v]:=by unfold ew;rw[if_neg (by rw[hc];exact Bool.false_ne_true)]
   have dV:(qh l (more.take k)).length<=140737488355327/\((qh l (more.take k)).length+1)*8<=140737488355328:=af
   simp+contextual (disch:=first|omega|simp only[go_sem,false_implies]) only[go_sem,wrap64,if_pos,q0,hv,List.length_map,if_pos dV,Nat.add_assoc,Nat.left_eq_add,Nat.add_eq_left,Nat.add_left_cancel_iff]
   refine aj (k+1) h2 af ?_
   rw[sb,e1]
   refine tp c1 (Nat.le_refl _) _ _ (fun id=>nx<=id) (fun id h1 h2=>af) (x:= .osl nx 1) (.inr ⟨nx,1,Nat.le_refl _,rfl,by(repeat(first|rfl|rw[aa]|rw[ae _ _ _ _ (by omega)]));rw[List.map_append];rfl⟩) (fun j hj=> .inl (by(repeat(first|rfl|rw[aa]|rw[ae _ _ _ _ (by omega)]));rw[tn _ _ _ (by omega)])) ?_
   exact jH
 ·replace h2:k=more.length:=by simp at h2;omega
  subst h2
  rw[List.take_length]at q0|-
  refine Iy q0 ?_
  refine hK _ _ _ ?_ ?_ (fun j hj iu=> ?_) (.inr ⟨nx,0,rfl,q0⟩)
  ·omega
  ·unfold Ve;exact(c1.mono af).ay af rfl
  ·rw[tn _ _ _ (by omega)];exact c5 j hj iu
theorem Re.done {s:az}{b:List (Int×Tm)}{t:Tm}{all:List Int}(h:Re s b t all.length all)(n:Int):n∈all↔oe b n t:=by
 refine⟨fun hn=>h.snd n hn,fun hr=> ?_⟩
 have key:∀x,oe b n x->(∀v,fO v x=true->v∈all)->n∈all:=by
  intro x hr
  induction hr with
  |here h1=>exact fun hs=>hs _ h1
  |step h1 h2 _ ih=>
   intro hs
   refine ih fun u hu=> ?_
   obtain⟨j,hj⟩:=List.mem_iff_getElem?.1 (hs _ h1)
   exact h.cl j (List.getElem?_eq_some_iff.1 hj).1 _ _ hj h2 u hu
 exact key t hr h.fst
theorem Gb{s:az}{l:List TB}(hl:l.length<=1000)(hb:∀p∈ag l,Vs s p.2)(hf:∀p∈ag l,p.2.gN)(n:Int)(t:Tm)(ht:Vs s t)(YI:t.gN){is:Bool}(F1:is=true↔oe (ag l) n t):
 aW Tryz.prog 117 [.sl (l.map TB.d),t.d, .i n] (.ret [.bool is]):=by
 have Oa:∀t,Vs s t->(cJ t).length<=100000:=fun t ht=>by
  have hv:=cO t
  have:(cJ t).length<=20:=DU (Ka hv.1) fun v h=>ht.range ((hv.2 v).1 h)
  omega
 refine aW.aG mix ady aE ?_
 rw[adx]
 refine cK ?_
 refine bE (D7 t ht YI) ?_
 refine cK ?_
 refine bX (N9 [] (cJ t) aE (Oa t ht) dh (.inl ⟨rfl,rfl⟩) (fun y o' nx' w1 w2 w3 w4=> ?_))
 refine cK ?_
 refine aD (fun i:Nat×List Int=>⟨aX [.d (.sl (l.map TB.d)), .ab, .d (.i n), .ab, .ab, .ab, .ab, .osl 0 0, .d (.i i.1)],Ve (fun _=> .no) 0 i.2,0+1⟩)
  (fun i=>Re s (ag l) t i.1 i.2) (fun i=>21 - i.1) (0,qh [] (cJ t)) (Re.zero ht) (tp Good.nil (Nat.le_refl _) _ _ (fun _=>True) (fun id _ h=>absurd h af) w4.Vf (fun j hj=>absurd hj af) ?_) ?_
 ·exact jH
 rintro⟨i,all⟩ hI
 dsimp only at hI|-
 have q0:=ilH_0 (fun _=> .no) 0 all
 have h20:=DU hI.nd hI.rg
 have hle:=hI.le
 refine rU q0 ?_
 refine ak (fun h2=> ?_) (fun h2=> ?_)
 ·replace h2:i<all.length:=by simp at h2;omega
  obtain⟨v,hv⟩:=aB h2
  refine sc q0 hv ?_
  refine aq (rI l v af) rfl ?_
  have jm:=hI.succ hb hv
  rcases rz l v with⟨g1,g2⟩|⟨k,x,g1,g2,g3⟩
  ·have Kj:decide (findF l v≥0)=false:=by simp;omega
   have e1:NM (ag l) all v=all:=by unfold NM;rw[g2]
   rw[e1]at jm
   refine sc q0 Kj ?_
   refine aj (i+1,all) jm kV (tp Good.nil (Nat.le_refl _) _ _ (fun _=>True) (fun id _ h=>absurd h af) (x:= .osl 0 0) (.inr ⟨0,0,trivial,rfl,q0⟩) (fun j hj=>absurd hj af) ?_)
   exact jH
  ·have Kj:decide (((k:Nat):Int)≥0)=true:=aE
   have e1:NM (ag l) all v=qh all (cJ x.term):=by unfold NM;rw[g3]
   rw[e1]at jm
   have cf:=ez (List.mem_of_getElem? g2)
   refine K4 q0 g1 Kj g2 ?_
   refine bE (D7 x.term (hb _ cf) (hf _ cf)) ?_
   refine rU q0 ?_
   refine bX (N9 all (cJ x.term) af (Oa _ (hb _ cf)) (Good.ay Good.nil af rfl) (.inr ⟨0,0,rfl,q0⟩) (fun y o2 nx2 u1 u2 u3 u4=> ?_))
   refine cK ?_
   refine aj (i+1,qh all (cJ x.term)) jm kV (tp Good.nil (Nat.le_refl _) _ _ (fun _=>True) (fun id _ h=>absurd h af) u4.Vf (fun j hj=>absurd hj af) ?_)
   exact jH
 ·replace h2:i=all.length:=by simp at h2;omega
  subst h2
  have:is=all.contains n:=by rw[Bool.eq_iff_iff,F1,List.contains_iff_mem];exact(hI.done n).symm
  refine rU q0 ?_
  refine aq (Ie all n af) rfl ?_
  exact yp
def Ru:IC:=QP.snd.snd
theorem Gc{l:List TB}{F:Tm->Int->Option Int}{x:Tm}(hx:x.fits){n:Int}{d:Nat}{r:Int}(hn:0<=n/\n<=1000)(hd:d<=1000)(hF:∀k m q,0<=m->F k m=some q-> -1<=q/\q<=m)
 (ih:∀k∈x.kids,∀m q d',d=d'+1->0<=m/\m<=1000->F k m=some q->aW Tryz.prog 143 [.sl (l.map TB.d),k.d, .i m, .i d'] (.ret [.i q]))
 (h:(match d with|0=>some (-1)|_+1=>BO F x.kids (n - 1))=some r) {e:Nat->V} {o:Nat->ad} {nx:Nat} (hg:Good o nx) (e0:e 0= .d (.sl (l.map TB.d))) (e2:e 2= .d (.i n)) (e3:e 3= .d (.i d)) (e5:e 5= .ptr 0 0) (ho:o 0= .row x.row) (h1:1<=nx):
 j7 Tryz.prog 55 0 false Ru (Aq Tryz.prog [.tmp 8] (.ret [.i r])) ⟨e,o,nx⟩:=by
 have KT:=(Tm.cj x).1 hx
 simp only[Ru,QP,IC.snd]
 cases d with
 |zero=>
  cases h
  simp+contextual (disch:=first|omega|simp only[go_sem,false_implies]) only[go_sem,wrap64,if_pos,e0,e2,e3,e5,ho]
 |succ d=>
  dsimp only at h
  have Qc:(((d+1:Nat):Int)==0)=false:=by rw[beq_eq_false_iff_ne];omega
  refine BS e0 e2 e3 e5 ho Qc ?_
  refine aD (fun i:Nat×Int=>⟨aX [.d (.sl (l.map TB.d)), .ab, .d (.i i.2), .d (.i (d+1:Nat)), .ab, .ptr 0 0, .ab, .ab, .ab, .ab, .d (.i i.1)],ay (fun _=> .no) 0 (.row x.row),1⟩)
   (fun i=>i.1<=x.kids.length/\BO F (x.kids.drop i.1) i.2=some r/\ -1<=i.2/\i.2<=1000) (fun i=>x.kids.length - i.1) (0,n - 1) ⟨Nat.zero_le _,h,by dsimp only;omega,by dsimp only;omega⟩ (bL.bS _ af af (Good.ay Good.nil af rfl) (fun j hj=> ?_) ?_) ?_
  ·have hj:j<1:=hj
   have:j=0:=af
   subst this
   rw[aa];exact ho
  ·exact ow (by(repeat(first|rfl|rw[aa]|rw[ae _ _ _ _ (by omega)]));exact e0) (gh (ow rfl (ow IP (gh (Gn Sj oU (gh (gh (gh (gh (ow rfl x9))))))))))
  rintro⟨k,m⟩ ⟨hk,hl,KG,OZ⟩
  simp only at hk hl KG OZ
  by_cases h2:k<x.kids.length
  ·have mR:decide ((k:Int)<(x.kids.length:Int))=true:=by simp;omega
   obtain⟨y,hy⟩:=aB h2
   have QV:=List.mem_of_getElem? hy
   have FX:x.kids.drop k=y::x.kids.drop (k+1):=by
    obtain⟨i1,i2⟩:=List.getElem?_eq_some_iff.1 hy
    exact IW
   rw[FX]at hl
   simp only[BO]at hl
   by_cases h0:m<0
   ·have Aj:decide (m≥0)=false:=by simp;omega
    rw[if_pos h0]at hl
    cases hl
    exact aas hy mR Aj
   ·have Aj:decide (m≥0)=true:=by simp;omega
    rw[if_neg h0]at hl
    cases e:F y m with
    |none=>rw[e]at hl;cases hl
    |some q=>
    rw[e]at hl
    have hq:=hF y m q af e
    refine pE hy mR Aj ?_
    rw[show(((d+1:Nat):Int) - 1)=((d:Nat):Int) by omega]
    refine aq (ih y QV m q d rfl af e) rfl ?_
    refine cK ?_
    refine aj (k+1,q) ⟨h2,hl,by dsimp only;omega,by dsimp only;omega⟩ kV (bL.bS _ af af (Good.ay Good.nil af rfl) (fun j hj=>rfl) ?_)
    exact dT
  ·have mR:decide ((k:Int)<(x.kids.length:Int))=false:=by simp;omega
   have:k=x.kids.length:=af
   subst this
   rw[List.drop_length]at hl
   cases hl
   exact K6 mR
theorem xj{l:List TB}(hl:l.length<=1000)(og:∀p∈ag l,p.2.fits):∀ (f:Nat) (t:Tm) (n:Int) (d:Nat) (r:Int),t.fits->0<=n/\n<=1000->d<=1000->tZ f (ag l) t n d=some r->
 aW Tryz.prog 143 [.sl (l.map TB.d),t.d, .i n, .i d] (.ret [.i r])
 |0,_,_,_,_,_,_,_,h=>by cases h
 |f+1,t,n,d,r,ht,hn,hd,h=>by
  simp only[tZ]at h
  cases ha:lC f (ag l) t with
  |none=>rw[ha]at h;cases h
  |some x=>
  rw[ha]at h
  dsimp only at h
  have KT:=rC og f t x ht ha
  have ahb:∀ (d':Nat) (k:Tm) (m q:Int),0<=m->tZ f (ag l) k m d'=some q-> -1<=q/\q<=m:=fun d' k m q=>Bf f k m d' q
  have rest:∀ {e:Nat->V} {o:Nat->ad} {nx:Nat},Good o nx->e 0= .d (.sl (l.map TB.d))->e 2= .d (.i n)->e 3= .d (.i d)->e 5= .ptr 0 0->o 0= .row x.row->1<=nx->j7 Tryz.prog 55 0 false Ru (Aq Tryz.prog [.tmp 8] (.ret [.i r])) ⟨e,o,nx⟩:=by
   intro e o nx hg e0 e2 e3 e5 ho h1
   refine Gc (F:=fun k m=>tZ f (ag l) k m (d - 1)) KT hn hd (fun k m q h1 h2=>ahb _ k m q h1 h2) (fun k hk m q d' he hm hF=> ?_) ?_ hg e0 e2 e3 e5 ho h1
   ·subst he
    exact xj hl og f k m d' q ((Tm.cj x).1 KT |>.2 k hk) hm af hF
   ·cases d with
    |zero=>exact h
    |succ d=>exact h
  have chain:∀ (g:Nat) (t:Tm),t.fits->lC g (ag l) t=some x->aW Tryz.prog 143 [.sl (l.map TB.d),t.d, .i n, .i d] (.ret [.i r]):=by
   intro g
   induction g with
   |zero=>intro t _ h;cases h
   |succ g ihg=>
    intro t ht KF
    simp only[lC]at KF
    refine aW.aG mix adR aE ?_
    rw[QP]
    show j7 _ _ _ _ (.seq _ (.seq _ Ru)) _ _
    by_cases h1:t.op=1
    ·have fh:(t.op==1)=true:=by simpa using h1
     rw[if_pos h1]at KF
     refine ou fh ?_
     refine aq (rI l t.n af) rfl ?_
     rcases rz l t.n with⟨g1,g2⟩|⟨k,y,g1,g2,g3⟩
     ·have Kj:decide (findF l t.n≥0)=false:=by simp;omega
      rw[g2]at KF
      cases KF
      refine ou Kj ?_
      exact rest dh rfl rfl rfl rfl rfl af
     ·have Kj:decide (((k:Nat):Int)≥0)=true:=aE
      rw[g3]at KF
      refine pE g1 Kj g2 ?_
      refine aq (ihg y.term (og _ (ez (List.mem_of_getElem? g2))) KF) rfl ?_
      exact pD
    ·have fh:(t.op==1)=false:=by simpa using h1
     rw[if_neg h1]at KF
     cases KF
     refine ou fh ?_
     exact rest dh rfl rfl rfl rfl rfl af
  exact chain f t ht ha
theorem D8{l:List TB}(hl:l.length<=1000)(og:∀p∈ag l,p.2.fits)(hle:∀p∈ag l,∃f r,tZ f (ag l) p.2 40 12=some r){ok:Bool}(aY:ok=true↔∀x∈l,zB (ag l) x.term):
 aW Tryz.prog 118 [.sl (l.map TB.d)] (.ret [.bool ok]):=by
 refine aW.aG mix adA aE ?_
 rw[adz]
 refine cK ?_
 refine aD (fun k:Nat=>⟨aX [.d (.sl (l.map TB.d)), .ab, .ab, .d (.i k)],fun _=> .no,0⟩)
  (fun k=>k<=l.length/\∀x∈l.take k,zB (ag l) x.term) (fun k=>l.length - k) 0 ⟨Nat.zero_le _,fun x hx=>by simp at hx⟩ (bL.d0 _ ?_) (fun k hk=> ?_)
 ·exact dT
 obtain⟨hk,ho⟩:=hk
 refine tv ?_
 refine ak (fun h2=> ?_) (fun h2=> ?_)
 ·replace h2:k<l.length:=by simp at h2;omega
  obtain⟨x,hx⟩:=aB h2
  have cf:=List.mem_of_getElem? hx
  obtain⟨f,r,hf⟩:=hle _ (ez cf)
  have c7:=HW hf
  refine rU hx ?_
  refine aq (xj hl og f x.term 40 12 r (og _ (ez cf)) af af hf) rfl ?_
  by_cases h0:r<0
  ·have Aj:decide (r<0)=true:=decide_eq_true h0
   have:ok=false:=by
    cases ok with
    |false=>rfl
    |true=>have:=c7.1 (aY.1 rfl x cf);omega
   subst this
   exact zS Aj
  ·have Aj:decide (r<0)=false:=decide_eq_false h0
   refine ou Aj ?_
   refine aj (k+1) ⟨h2,fun y hy=> ?_⟩ af (bL.d0 _ ?_)
   ·rw[List.take_add_one,hx]at hy
    rcases List.mem_append.1 hy with hy|hy
    ·exact ho y hy
    ·simp at hy
     subst hy
     exact c7.2 af
   ·exact dT
 ·replace h2:k=l.length:=by simp at h2;omega
  subst h2
  rw[List.take_length]at ho
  have:ok=true:=aY.2 ho
  exact zW
theorem Rv{l:List TB}{i:Nat}{x:TB}(hx:l[i]? =some x):findF l x.var<(i:Int)↔x.var∈(ag (l.take i)).map (·.1):=by
 have e:(ag (l.take i)).map (·.1)=(l.take i).map (·.var):=by unfold ag;rw[List.map_map];rfl
 rw[e]
 obtain⟨hi,hxe⟩:=List.getElem?_eq_some_iff.1 hx
 unfold findF
 cases h:l.findIdx? (·.var==x.var)with
 |none=>
  rw[List.findIdx?_eq_none_iff]at h
  have:=h x (List.mem_of_getElem? hx)
  simp at this
 |some k=>
  rw[List.findIdx?_eq_some_iff_getElem]at h
  obtain⟨hk,h1,h2⟩:=h
  dsimp only
  constructor
  ·intro cq
   have cq:k<i:=af
   refine List.mem_map.2 ⟨l[k], ?_,by simpa using h1⟩
   rw[List.mem_iff_getElem?]
   exact⟨k,by rw[List.getElem?_take,if_pos cq,List.getElem?_eq_getElem hk]⟩
  ·intro hm
   obtain⟨y,hy,hyv⟩:=List.mem_map.1 hm
   obtain⟨j,hj⟩:=List.mem_iff_getElem?.1 hy
   rw[List.getElem?_take]at hj
   split at hj
   ·rename_i hji
    obtain⟨hjl,Zj⟩:=List.getElem?_eq_some_iff.1 hj
    rcases Nat.lt_or_ge j k with Tg|Tg
    ·have:=h2 j Tg
     rw[Zj]at this
     simp[hyv]at this
    ·omega
   ·cases hj
theorem Gd(s:az)(hs:s.Fits)(uE:ji s=true)(l:List TB)(hl:l.length<=1000)(hlf:∀x∈l,x.term.fits){ok:Bool}(aY:ok=true↔iz s l):
 aW Tryz.prog 76 [s.d, .sl (l.map TB.d)] (.ret [.bool ok]):=by
 have no: ¬iz s l->ok=false:=fun h=>by
  cases ok with
  |false=>rfl
  |true=>exact absurd (aY.1 rfl) h
 refine aW.aG mix agK aE ?_
 rw[c76]
 by_cases h20:20<l.length
 ·have YO:decide ((l.length:Int)>20)=true:=by simp;omega
  have:=no fun h=>by have:=h.len;omega
  subst this
  exact K6 YO
 have YO:decide ((l.length:Int)>20)=false:=by simp;omega
 refine rU YO ?_
 refine aD (fun k:Nat=>⟨aX [.ab, .d (.sl (l.map TB.d)), .ptr 0 0, .ab, .ab, .d (.i k)],ay (fun _=> .no) 0 (.row [.d (.sl (s.cons.map dX.d)), .d (.sl (s.bZ.map dX.d))]),1⟩)
  (fun k=>k<=l.length/\((ag (l.take k)).map (·.1)).Nodup/\∀x∈l.take k,(0<=x.var/\x.var<20)/\bJ s x.term=true) (fun k=>l.length - k) 0 ⟨Nat.zero_le _,List.nodup_nil,fun x hx=>by simp at hx⟩ (bL.bS _ af af dh (fun j hj=>rfl) ?_) (fun k hk=> ?_)
 ·exact dT
 obtain⟨hk,Ar,ho⟩:=hk
 refine tv ?_
 refine ak (fun h2=> ?_) (fun h2=> ?_)
 ·replace h2:k<l.length:=by simp at h2;omega
  obtain⟨x,hx⟩:=aB h2
  have cf:=List.mem_of_getElem? hx
  have sb:=D3 l hx
  refine rU hx ?_
  refine aZ (Ga x.var 0 19) rfl ?_
  have GV:dU x.var 0 19=true↔0<=x.var/\x.var<20:=by unfold dU;simp;omega
  cases h6:dU x.var 0 19 with
  |false=>
   have:=no fun h=>by
    have:=GV.2 (h.ok x cf).1
    rw[h6]at this;cases this
   exact S7
  |true=>
   refine rU hx ?_
   refine aZ (rI l x.var af) rfl ?_
   have cq:=Rv hx
   cases h7:decide (findF l x.var<(k:Int))with
   |true=>
    have:=no fun h=>by
     have h8:=cq.1 (of_decide_eq_true h7)
     have h9:=h.keys.sublist (((List.take_sublist (k+1) l).map _).map _)
     have h9:((ag (l.take (k+1))).map (·.1)).Nodup:=h9
     rw[sb,List.map_append,List.nodup_append]at h9
     exact h9.2.2 x.var h8 x.var aE rfl
    subst this
    refine sc hx h7 ?_
    refine aK (bp rfl) ?_
    exact pD
   |false=>
    refine sc hx h7 ?_
    refine aZ (lV s hs x.term (hlf x cf)) rfl ?_
    have hve:=xi uE x.term
    cases h8:(gI s x.term&&ff x.term)with
    |false=>
     have:=no fun h=>by
      have:=(h.ok x cf).2
      rw[hve,h8]at this;cases this
     exact S7
    |true=>
     refine rU hx ?_
     refine aK (bp rfl) ?_
     refine cK ?_
     refine aj (k+1) ⟨h2, ?_,fun y hy=> ?_⟩ af (bL.bS _ af af dh (fun j hj=>rfl) ?_)
     ·rw[sb,List.map_append,List.nodup_append]
      refine⟨Ar,aE,fun a ha c hc e=> ?_⟩
      simp at hc
      rw[e,hc]at ha
      exact of_decide_eq_false h7 (cq.2 ha)
     ·rw[List.take_add_one,hx]at hy
      rcases List.mem_append.1 hy with hy|hy
      ·exact ho y hy
      ·simp at hy
       subst hy
       exact⟨GV.1 h6,by rw[hve,h8]⟩
     ·exact dT
 ·replace h2:k=l.length:=by simp at h2;omega
  subst h2
  rw[List.take_length]at Ar ho
  have GN:∀p∈ag l,Vs s p.2:=fun p hp=>by
   obtain⟨x,hx,rfl⟩:=dq hp
   exact(bz (ho x hx).2).1
  have og:∀p∈ag l,p.2.gN:=fun p hp=>by
   obtain⟨x,hx,rfl⟩:=dq hp
   exact Tm.F9 _ (by have:=(bz (ho x hx).2).2.1;show x.term.sz<=1000;omega)
  refine cK ?_
  refine aD (fun k:Nat=>⟨aX [.ab, .d (.sl (l.map TB.d)), .ab, .ab, .ab, .ab, .d (.i k)],fun _=> .no,0⟩)
   (fun k=>k<=l.length/\∀x∈l.take k, ¬oe (ag l) x.var x.term) (fun k=>l.length - k) 0 ⟨Nat.zero_le _,fun x hx=>by simp at hx⟩ (bL.d0 _ ?_) (fun k hk=> ?_)
  ·exact dT
  obtain⟨hk,hc⟩:=hk
  refine tv ?_
  refine ak (fun h2=> ?_) (fun h2=> ?_)
  ·replace h2:k<l.length:=by simp at h2;omega
   obtain⟨x,hx⟩:=aB h2
   have cf:=List.mem_of_getElem? hx
   obtain⟨is,F1⟩:∃is:Bool,is=true↔oe (ag l) x.var x.term:=by
    classical
    exact⟨decide (oe (ag l) x.var x.term),aE⟩
   refine rU hx ?_
   refine aZ (Gb hl GN og x.var x.term (GN _ (ez cf)) (og _ (ez cf)) F1) rfl ?_
   cases is with
   |true=>
    have:=no fun h=>h.FW x.var x.term ((fW h.keys).2 (ez cf)) (F1.1 rfl)
    subst this
    exact PE
   |false=>
    refine cK ?_
    refine aK (bp rfl) ?_
    refine cK ?_
    refine aj (k+1) ⟨h2,fun y hy=> ?_⟩ af (bL.d0 _ ?_)
    ·rw[List.take_add_one,hx]at hy
     rcases List.mem_append.1 hy with hy|hy
     ·exact hc y hy
     ·simp at hy
      subst hy
      exact fun h=>Bool.false_ne_true (F1.2 h)
    ·exact dT
  ·replace h2:k=l.length:=by simp at h2;omega
   subst h2
   rw[List.take_length]at hc
   have N7:YC (ag l):=fun v t ht=>by
    obtain⟨x,hx,e⟩:=dq (ck ht)
    cases e
    exact hc x hx
   obtain⟨l',ρ,R,hS,G0⟩:=jv Ar ho N7
   have hle:∀p∈ag l,∃f r,tZ f (ag l) p.2 40 12=some r:=fun p hp=>by
    exact Tf
   refine cK ?_
   refine aq (D8 (ok:=ok) hl (fun p hp=>Tm.rH _ (og p hp)) hle (aY.trans ⟨fun h=>h.Vd,fun h=>⟨af,Ar,ho,N7,h⟩⟩)) rfl ?_
   exact pD
end Go.Proofs.YtlhemmpklhhgoaaGreat
