/-
  A PART OF THE PROOF. Conditions: none.
-/
import Derived.WalkKit
import Derived.Below
set_option linter.unusedSimpArgs false
set_option linter.unusedVariables false
namespace Go.Proofs.YtnkamdiiakdkgaaGreat
theorem bc{G G':Prop}(g:G')(h:G=G':=by simp+contextual (disch:=first|omega|simp only[go_sem,false_implies]) only[go_sem,wrap64,if_pos,and_self]<;>rfl):G:=Eq.mpr h g
theorem gD{P0 G G':Prop}(p0:P0)(g:G')(h:P0->G=G':=by intro p0;simp+contextual (disch:=first|omega|simp only[go_sem,false_implies]) only[go_sem,wrap64,if_pos,p0]<;>rfl):G:=Eq.mpr (h p0) g
theorem qo{G G':Prop}(g:G')(h:G=G':=by simp+contextual (disch:=first|omega|simp only[go_sem,false_implies]) only[go_sem,wrap64,if_pos,Nat.add_assoc,Nat.left_eq_add,Nat.add_eq_left,Nat.add_left_cancel_iff]<;>rfl):G:=Eq.mpr h g
theorem ll{P0 G G':Prop}(p0:P0)(g:G')(h:P0->G=G':=by intro p0;simp+contextual (disch:=first|omega|simp only[go_sem,false_implies]) only[go_sem,wrap64,if_pos,List.length_map,p0]<;>rfl):G:=Eq.mpr (h p0) g
theorem nk{G G':Prop}(g:G')(h:G=G':=by simp+contextual (disch:=first|omega|simp only[go_sem,false_implies]) only[go_sem,wrap64,if_pos,List.length_map]<;>rfl):G:=Eq.mpr h g
theorem yc{G:Prop}(h:G:=by simp+contextual (disch:=first|omega|simp only[go_sem,false_implies]) only[go_sem,wrap64,if_pos,and_self]):G:=h
theorem ck{G G':Prop}(g:G')(h:G=G':=by simp+contextual only[go_sem]<;>rfl):G:=Eq.mpr h g
theorem Ul{P0 P1 G G':Prop}(p0:P0)(p1:P1)(g:G')(h:P0->P1->G=G':=by intro p0 p1;simp+contextual (disch:=first|omega|simp only[go_sem,false_implies]) only[go_sem,wrap64,if_pos,Nat.add_assoc,Nat.left_eq_add,Nat.add_eq_left,Nat.add_left_cancel_iff,List.length_map,p0,p1]<;>rfl):G:=Eq.mpr (h p0 p1) g
theorem D8{P0 G:Prop}(p0:P0)(h:P0->G:=by intro p0;simp+contextual (disch:=first|omega|simp only[go_sem,false_implies]) only[go_sem,wrap64,if_pos,p0]):G:=h p0
theorem JD{P0 P1 G G':Prop}(p0:P0)(p1:P1)(g:G')(h:P0->P1->G=G':=by intro p0 p1;simp+contextual (disch:=first|omega|simp only[go_sem,false_implies]) only[go_sem,wrap64,if_pos,p0,p1]<;>rfl):G:=Eq.mpr (h p0 p1) g
theorem A7{P0 P1 P2 G G':Prop}(p0:P0)(p1:P1)(p2:P2)(g:G')(h:P0->P1->P2->G=G':=by intro p0 p1 p2;simp+contextual (disch:=first|omega|simp only[go_sem,false_implies]) only[go_sem,wrap64,if_pos,List.length_map,p0,p1,p2]<;>rfl):G:=Eq.mpr (h p0 p1 p2) g
theorem A8{P0 P1 G G':Prop}(p0:P0)(p1:P1)(g:G')(h:P0->P1->G=G':=by intro p0 p1;simp+contextual (disch:=first|omega|simp only[go_sem,false_implies]) only[go_sem,wrap64,if_pos,List.length_map,p0,p1]<;>rfl):G:=Eq.mpr (h p0 p1) g
theorem A9{G G':Prop}(g:G')(h:G=G':=by simp+contextual (disch:=first|omega|simp only[go_sem,false_implies]) only[go_sem,wrap64,if_pos,m4]<;>rfl):G:=Eq.mpr h g
theorem JR{P0 G G':Prop}(p0:P0)(g:G')(h:P0->G=G':=by intro p0;simp+contextual (disch:=first|omega|simp only[go_sem,false_implies]) only[go_sem,wrap64,if_pos,Nat.add_assoc,Nat.left_eq_add,Nat.add_eq_left,Nat.add_left_cancel_iff,p0]<;>rfl):G:=Eq.mpr (h p0) g
theorem Ba{P0 P1 P2 G G':Prop}(p0:P0)(p1:P1)(p2:P2)(g:G')(h:P0->P1->P2->G=G':=by intro p0 p1 p2;simp+contextual (disch:=first|omega|simp only[go_sem,false_implies]) only[go_sem,wrap64,if_pos,p0,p1,p2]<;>rfl):G:=Eq.mpr (h p0 p1 p2) g
theorem O7{G G':Prop}(g:G')(h:G=G':=by simp+contextual (disch:=first|omega|simp only[go_sem,false_implies]) only[go_sem,wrap64,if_pos,Nat.add_assoc,Nat.left_eq_add,Nat.add_eq_left,Nat.add_left_cancel_iff,List.length_map]<;>rfl):G:=Eq.mpr h g
theorem JS{G G':Prop}(g:G')(h:G=G':=by simp+contextual (disch:=first|omega|simp only[go_sem,false_implies]) only[go_sem,wrap64,if_pos,apI_0,apI_1,apI_2,List.length_map]<;>rfl):G:=Eq.mpr h g
theorem O8{P0 P1 P2 G G':Prop}(p0:P0)(p1:P1)(p2:P2)(g:G')(h:P0->P1->P2->G=G':=by intro p0 p1 p2;simp+contextual (disch:=first|omega|simp only[go_sem,false_implies]) only[go_sem,wrap64,if_pos,Nat.add_assoc,Nat.left_eq_add,Nat.add_eq_left,Nat.add_left_cancel_iff,p0,p1,p2]<;>rfl):G:=Eq.mpr (h p0 p1 p2) g
theorem jj{P0 G G':Prop}(p0:P0)(g:G')(h:P0->G=G':=by intro p0;simp+contextual only[go_sem,p0]<;>rfl):G:=Eq.mpr (h p0) g
theorem Um{P0 P1 P2 P3 P4 P5 G G':Prop}(p0:P0)(p1:P1)(p2:P2)(p3:P3)(p4:P4)(p5:P5)(g:G')(h:P0->P1->P2->P3->P4->P5->G=G':=by intro p0 p1 p2 p3 p4 p5;simp+contextual (disch:=first|omega|simp only[go_sem,false_implies]) only[go_sem,wrap64,if_pos,Nat.add_assoc,Nat.left_eq_add,Nat.add_eq_left,Nat.add_left_cancel_iff,List.length_map,p0,p1,p2,p3,p4,p5]<;>rfl):G:=Eq.mpr (h p0 p1 p2 p3 p4 p5) g
theorem O9{G G':Prop}(g:G')(h:G=G':=by simp+contextual (disch:=first|omega|simp only[go_sem,false_implies]) only[go_sem,wrap64,if_pos,raH_0,raH_1,List.length_map]<;>rfl):G:=Eq.mpr h g
theorem Pa{G G':Prop}(g:G')(h:G=G':=by simp+contextual (disch:=first|omega|simp only[go_sem,false_implies]) only[go_sem,wrap64,if_pos,apH_0,apH_1,List.length_map]<;>rfl):G:=Eq.mpr h g
theorem JT{P0 G G':Prop}(p0:P0)(g:G')(h:P0->G=G':=by intro p0;simp+contextual only[go_sem,Nat.add_assoc,Nat.left_eq_add,Nat.add_eq_left,Nat.add_left_cancel_iff,p0]<;>rfl):G:=Eq.mpr (h p0) g
theorem Un{P0 P1 P2 G G':Prop}(p0:P0)(p1:P1)(p2:P2)(g:G')(h:P0->P1->P2->G=G':=by intro p0 p1 p2;simp+contextual (disch:=first|omega|simp only[go_sem,false_implies]) only[go_sem,wrap64,if_pos,Nat.add_assoc,Nat.left_eq_add,Nat.add_eq_left,Nat.add_left_cancel_iff,wh,p0,p1,p2]<;>rfl):G:=Eq.mpr (h p0 p1 p2) g
theorem Uo{G G':Prop}(g:G')(h:G=G':=by simp+contextual (disch:=first|omega|simp only[go_sem,false_implies]) only[go_sem,wrap64,if_pos,Nat.add_assoc,Nat.left_eq_add,Nat.add_eq_left,Nat.add_left_cancel_iff,rC]<;>rfl):G:=Eq.mpr h g
theorem aae{G G':Prop}(g:G')(h:G=G':=by simp+contextual (disch:=first|omega|simp only[go_sem,false_implies]) only[go_sem,wrap64,if_pos,m4,Nat.add_assoc,Nat.left_eq_add,Nat.add_eq_left,Nat.add_left_cancel_iff]<;>rfl):G:=Eq.mpr h g
theorem Up{P0 P1 G G':Prop}(p0:P0)(p1:P1)(g:G')(h:P0->P1->G=G':=by intro p0 p1;simp+contextual (disch:=first|omega|simp only[go_sem,false_implies]) only[go_sem,wrap64,if_pos,Nat.add_assoc,Nat.left_eq_add,Nat.add_eq_left,Nat.add_left_cancel_iff,p0,p1]<;>rfl):G:=Eq.mpr (h p0 p1) g
theorem Pb{P0 G G':Prop}(p0:P0)(g:G')(h:P0->G=G':=by intro p0;simp+contextual (disch:=first|omega|simp only[go_sem,false_implies]) only[go_sem,wrap64,if_pos,k0,k2,p0]<;>rfl):G:=Eq.mpr (h p0) g
theorem Pc{P0 G:Prop}(p0:P0)(h:P0->G:=by intro p0;simp+contextual (disch:=first|omega|simp only[go_sem,false_implies]) only[go_sem,wrap64,if_pos,ofH_2,p0]):G:=h p0
theorem Pf{P0 P1 P2 G G':Prop}(p0:P0)(p1:P1)(p2:P2)(g:G')(h:P0->P1->P2->G=G':=by intro p0 p1 p2;simp+contextual only[go_sem,Nat.add_assoc,Nat.left_eq_add,Nat.add_eq_left,Nat.add_left_cancel_iff,p0,p1,p2]<;>rfl):G:=Eq.mpr (h p0 p1 p2) g
theorem aaf{P0 P1 G G':Prop}(p0:P0)(p1:P1)(g:G')(h:P0->P1->G=G':=by intro p0 p1;simp+contextual (disch:=first|omega|simp only[go_sem,false_implies]) only[go_sem,wrap64,if_pos,apI_0,apI_1,apI_2,List.length_map,p0,p1]<;>rfl):G:=Eq.mpr (h p0 p1) g
theorem Uq{P0 G G':Prop}(p0:P0)(g:G')(h:P0->G=G':=by intro p0;simp+contextual (disch:=first|omega|simp only[go_sem,false_implies]) only[go_sem,wrap64,if_pos,raH_0,raH_1,List.length_map,p0]<;>rfl):G:=Eq.mpr (h p0) g
theorem Ur{P0 P1 G G':Prop}(p0:P0)(p1:P1)(g:G')(h:P0->P1->G=G':=by intro p0 p1;simp+contextual (disch:=first|omega|simp only[go_sem,false_implies]) only[go_sem,wrap64,if_pos,List.length_map,k0,k2,p0,p1]<;>rfl):G:=Eq.mpr (h p0 p1) g
theorem Us{G G':Prop}(g:G')(h:G=G':=by simp+contextual only[go_sem,F9,Nat.add_assoc,Nat.left_eq_add,Nat.add_eq_left,Nat.add_left_cancel_iff,List.replicate]<;>rfl):G:=Eq.mpr h g
theorem Ut{G G':Prop}(g:G')(h:G=G':=by simp+contextual (disch:=first|omega|simp only[go_sem,false_implies]) only[go_sem,wrap64,if_pos,beq_self_eq_true]<;>rfl):G:=Eq.mpr h g
theorem Uu{G:Prop}(h:G:=by simp+contextual (disch:=first|omega|simp only[go_sem,false_implies]) only[go_sem,wrap64,if_pos,List.length_map]):G:=h
theorem cN{P:Prop}(h:P:=by(repeat(first|exact D9|refine Bb ?_|refine CB rfl ?_|refine CB (Ga (Gb (by omega))) ?_|refine JU rfl (by simp[V.refs,V.aJ]<;>first|omega|assumption) ?_))):P:=h
theorem eH{P:Prop}(h:P:=by repeat(first|exact hg.mono (by omega)|exact Good.nil|refine Good.aA ?_ (by omega) rfl|refine Good.aA ?_ (by omega) (uL _ _ _ (by omega))|refine Good.aA ?_ (by omega) (by simp[ab.refs,V.aJ,V.refs]<;>omega))):P:=h
theorem ah{P:Prop}(h:P:=by kernel_rfl):P:=h
theorem ag{P:Prop}(h:P:=by omega):P:=h
theorem qp{P:Prop}(h:P:=by(repeat(first|exact yd|refine uM ?_|refine wk rfl ?_|refine wk (Ga (Gb (by omega))) ?_|refine Gc 0 rfl rfl rfl ?_|refine Gd rfl (by simp[V.refs,V.aJ]<;>first|omega|assumption) ?_|refine Ge rfl (by simp[V.ids]<;>omega) ?_))):P:=h
theorem zy5{P:Prop}(h:P:=by simp[V.refs,V.aJ]<;>first|omega|assumption):P:=h
theorem eO{P:Prop}(h:P:=by(repeat(first|rfl|rw[ad]|rw[af _ _ _ _ (by omega)]))):P:=h
theorem zy7{P:Prop}(h:P:=by simp[ab.refs,V.aJ,V.refs]<;>omega):P:=h
theorem aK{P:Prop}(h:P:=by simp):P:=h
theorem S8{P:Prop}(h:P:=by simp only[aA]<;>((repeat' split)<;>first|rfl|omega|(subst_vars;first|rfl|assumption|(symm;assumption)|omega|(simp_all;done)))):P:=h
theorem Bc{P:Prop}(h:P:=by rintro⟨h1,h2⟩;first|(cases h1;done)|(cases h2;done)):P:=h
theorem gV{P:Prop}(h:P:=by simpa[execOp,fN]using this):P:=h
theorem Ph{P:Prop}(h:P:=by exact cw (y:=Pj p t j) (by unfold Pj;(repeat(first|rfl|rw[ad]|rw[af _ _ _ _ (by omega)]))) (by unfold Ea Pj;(repeat(first|rfl|rw[ad]|rw[af _ _ _ _ (by omega)]))) (bw rfl (fun r hr=>(ye p t).refs j r hr))):P:=h
theorem ug{P:Prop}(h:P:=by cases rs with|nil=>exact ho.elim|cons x l=>cases l<;>exact ho.elim):P:=h
theorem aag{P:Prop}(h:P:=by simp[V.ids]<;>omega):P:=h
theorem lA{P:Prop}(h:P:=by simp[ab.refs,V.aJ,V.refs]):P:=h
theorem Gf{P:Prop}(h:P:=by simp+contextual (disch:=first|omega|simp only[go_sem,false_implies]) only[go_sem,wrap64,if_pos,and_self];simp[m4]):P:=h
theorem JV{P:Prop}(h:P:=by exact(by simp only[aA]<;>((repeat' split)<;>first|rfl|omega|(subst_vars;first|rfl|assumption|(symm;assumption)|omega|(simp_all;done))))):P:=h
theorem Gg{P:Prop}(h:P:=by exact⟨_,mO,iG,hq, .of_steps (.one h0 stepR_seq) (.pass (x:= .code y) rfl (fun _ _=> .inl (by simp)) cM)⟩):P:=h
theorem dP{P:Prop}(h:P:=by rw[ho];rfl):P:=h
theorem cl{P:Prop}(h:P:=by decide):P:=h
theorem Pk{P:Prop}(h:P:=by exact⟨false, .inl rfl,rfl,iH (fun _ _ h=>by cases h.1) (by rintro⟨h1,h2⟩;first|(cases h1;done)|(cases h2;done)),eq _ (fun d=>by rw[Uv w d ht])⟩):P:=h
theorem Eb{P:Prop}(h:P:=by(repeat(first|exact Ec|refine Bd ?_|refine JW rfl ?_))):P:=h
theorem Ed{P:Prop}(h:P:=by subst e;(repeat(first|rfl|rw[ad]|rw[af _ _ _ _ (by omega)]))):P:=h
theorem Uw{P:Prop}(h:P:=by unfold Ea Pj;(repeat(first|rfl|rw[ad]|rw[af _ _ _ _ (by omega)]))):P:=h
theorem Ux{P:Prop}(h:P:=by exact⟨_,_,_,_,_,_,_,hK,by simp[Instr.range,run_underlying ht,pz], .inl rfl,n1,n2,⟨rfl,by simp,fun _=>⟨w.heap.size,by simp,rfl⟩⟩,fun j hj=> .inr (by simpa using hj)⟩):P:=h
theorem Uy{P:Prop}(h:P:=by exact⟨_,_,_,_,_,_,_,hK,by simp[Instr.range,run_underlying ht], .inl rfl,n1,n2,⟨rfl,by simp,fun _=>⟨w.heap.size,by simp,rfl⟩⟩,fun j hj=> .inr (by simpa using hj)⟩):P:=h
theorem lB{P:Prop}(h:P:=by simpa using hj):P:=h
theorem wm{P:Prop}(h:P:=by simp[Op.equalIn,run_underlying ht]):P:=h
theorem nP{P:Prop}(h:P:=by simp[V.aJ,V.refs]):P:=h
theorem JX{P:Prop}(h:P:=by unfold JE;(repeat(first|rfl|rw[ad]|rw[af _ _ _ _ (by omega)]))):P:=h
theorem Pl{P:Prop}(h:P:=by unfold Mg;(repeat(first|rfl|rw[ad]|rw[af _ _ _ _ (by omega)]))):P:=h
theorem JY{P:Prop}(h:P:=by unfold JF;(repeat(first|rfl|rw[ad]|rw[af _ _ _ _ (by omega)]))):P:=h
theorem aah{P:Prop}(h:P:=by exact⟨false, .inl rfl,rfl,iH (fun _ _ h=>by cases h.1) (by rintro⟨h1,h2⟩;first|(cases h1;done)|(cases h2;done)),eq _ (fun d=>by rw[Uz w d ht])⟩):P:=h
theorem aai{P:Prop}(h:P:=by exact⟨false, .inl rfl,rfl,iH (fun _ _ h=>by cases h.1) (by rintro⟨h1,h2⟩;first|(cases h1;done)|(cases h2;done)),eq _ (fun d=>by rw[UA w d ht])⟩):P:=h
theorem UB{P:Prop}(h:P:=by exact⟨false, .inl rfl,rfl,iH (fun _ _ h=>by cases h.1) (by rintro⟨h1,h2⟩;first|(cases h1;done)|(cases h2;done)),eq _ (fun d=>by rw[UC w d ht])⟩):P:=h
theorem nQ{P:Prop}(h:P:=by dsimp only;omega):P:=h
theorem UD{P:Prop}(h:P:=by exact⟨a,ev,h1,h2,D.aN (w:=w) (w':=w) (fun b _ hn=>⟨rfl,hB b hn⟩) cs ev h3,h5,h4.mono (w:=w) (w':=w) (fun b _ hn=>⟨rfl,hB b hn⟩)⟩):P:=h
theorem UE{P:Prop}(h:P:=by exact .inl ⟨_,_,_, .inr ⟨c,f,g,first,cap,hc,ee,hf, .inr (.inl ⟨rs,hH,rfl,fun id au=>by simpa using List.all_eq_true.1 mP id au⟩)⟩,h⟩):P:=h
theorem UF{P:Prop}(h:P:=by exact .inl ⟨_,_,_, .inr ⟨c,f,g,first,cap,hc,ee,hf, .inr (.inr (.inr ⟨hH,fun id au=>by simpa using List.all_eq_true.1 mP id au⟩))⟩,h⟩):P:=h
theorem UG{P:Prop}(h:P:=by exact cf.same hH _ hK (by simp only[Sem.run_bind,hr,Result.andThen_ok];rfl) ⟨_,rfl,zv,[.bool false],rfl,r2, .bool false,[],rfl,rfl,rfl⟩):P:=h
theorem UH{P:Prop}(h:P:=by exact .inr ⟨_,_,_,⟨c,f,g,first,cap,hc,ee,hf, .inr ⟨x,Δ,hH,rfl,rfl,fun id au=>by simpa using List.all_eq_true.1 mP id au⟩⟩,h⟩):P:=h
theorem Gh{P:Prop}(h:P:=by rw[hold id (by omega) (by omega),Be id (by omega) au]):P:=h
theorem Gi{P:Prop}(h:P:=by rw[m2.eq id (by omega)];unfold ext;rw[if_pos au]):P:=h
theorem nm{P:Prop}(h:P:=by simp[m5,au]):P:=h
theorem Pm{P:Prop}(h:P:=by rw[p3 id (by omega) (by omega),cJ id (by omega) (by omega),Be id (by omega) au]):P:=h
theorem Po{P:Prop}(h:P:=by unfold Ee;(repeat(first|rfl|rw[ad]|rw[af _ _ _ _ (by omega)]))):P:=h
theorem Pp{P:Prop}(h:P:=by unfold Ea;(repeat(first|rfl|rw[ad]|rw[af _ _ _ _ (by omega)]))):P:=h
theorem aci{P:Prop}(h:P:=by unfold Pj;(repeat(first|rfl|rw[ad]|rw[af _ _ _ _ (by omega)]))):P:=h
theorem UI{P:Prop}(h:P:=by exact(uh.aA (i:=nx'+3) (m:=nx'+7) (by omega) (by omega) (by omega) rfl).aA (by omega) (by omega) (by omega) rfl):P:=h
theorem Pq{P:Prop}(h:P:=by subst e2;(repeat(first|rfl|rw[ad]|rw[af _ _ _ _ (by omega)]))):P:=h
theorem Pr{P:Prop}(h:P:=by subst ec;(repeat(first|rfl|rw[ad]|rw[af _ _ _ _ (by omega)]))):P:=h
theorem UJ{P:Prop}(h:P:=by unfold nR rU;rw[if_neg h4,if_pos h6];(repeat(first|rfl|rw[ad]|rw[af _ _ _ _ (by omega)]));simp):P:=h
theorem aaj{P:Prop}(h:P:=by exact⟨b,r,k1,k2,k3,k4,k5,k6,k7,k8,k9,fun i=>ef _ _ (fun r hr=>hrefs r (V.uN _ _ r hr)) (k10 i)⟩):P:=h
theorem UK{P:Prop}(h:P:=by exact rV (y:=B j) (ho j hj e1) (CC B e1 (by omega) ds ty sz _) (bw rfl (fun q hq=>hg.refs j q hq))):P:=h
theorem JZ{P:Prop}(h:P:=by simpa[execOp,fN,resolve,invoke,builtin]using this):P:=h
theorem J0{P:Prop}(h:P:=by exact D.aL (fun b _ hn=>⟨rfl,hB b hn⟩) _ _ aX):P:=h
theorem UL{P:Prop}(h:P:=by exact hK _ _ (by omega) (m2.mono (by omega)) fun id i1 i2=>by rw[m3 id i1 (by omega),af _ _ _ _ (by omega)]):P:=h
theorem Ps{P:Prop}(h:P:=by rw[gW];exact List.mem_cons_of_mem _ (List.mem_flatMap.2 ⟨x,hx,hy⟩)):P:=h
theorem UM{P:Prop}(h:P:=by exact⟨fo J1.1,fo J1.2,fun id au=>⟨dj uO.1.1 id au,dj uO.1.2 id au⟩,fun id au=>dj uO.2 id au⟩):P:=h
theorem UN{P:Prop}(h:P:=by unfold lC;rw[if_pos h5];(repeat(first|rfl|rw[ad]|rw[af _ _ _ _ (by omega)]));simp):P:=h
theorem UO{P:Prop}(h:P:=by simp only[Sem.run_bind,hr,Result.andThen_ok];rfl):P:=h
theorem Pt{P:Prop}(h:P:=by rw[af _ _ _ _ rW,Eg _ _ (by omega)];exact h0 id (by omega)):P:=h
theorem UP{P:Prop}(h:P:=by exact fin _ [] (fun b hb=>by cases hb) dh (World.ownsRow_nil w' 0 ty sz) ⟨[],rfl,by simp,rfl⟩ rfl):P:=h
theorem aak{P:Prop}(h:P:=by exact hK _ _ (by omega) (m2.mono (by omega)) fun id i1 i2=>(m3 id i1 (by omega)).trans (cJ id i1 i2)):P:=h
theorem nn{P:Prop}(h:P:=by simp;omega):P:=h
theorem UQ{P:Prop}(h:P:=by exact hK _ _ (by omega) (uh.mono (by omega)) cJ):P:=h
theorem J2{P:Prop}(h:P:=by unfold fO;rw[List.map_append,List.sum_append]):P:=h
theorem Pu{P:Prop}(h:P:=by exact yf hL k3 (key _ _ _ (by rw[hj];rfl) (Pv _ _ hj))):P:=h
theorem UR{P:Prop}(h:P:=by simp only[Op.operands,Call.operands];exact Array.mem_append.2 (.inr (Array.mem_toList_iff.1 hx))):P:=h
theorem US{P:Prop}(h:P:=by rw[hn,hI,Bf hx];rfl):P:=h
theorem Pw{P:Prop}(h:P:=by exact Bg hL k3 (key _ _ _ (by rw[hj];rfl) (Pv _ _ hj))):P:=h
theorem aal{P:Prop}(h:P:=by exact Gj hu cJ (fun id h=> .inl (by rw[jD]at h;exact h)) g1.symm g3 ly (jQ rfl)):P:=h
theorem Px{P:Prop}(h:P:=by exact(hg.mono (by omega)).aA (by omega) (uL _ _ _ (by omega))):P:=h
theorem Gk{P:Prop}(h:P:=by injection h with h;subst h;exact hK):P:=h
theorem UT{P:Prop}(h:P:=by simp only[h1,cG,Option.map_some];exact hK):P:=h
theorem UU{P:Prop}(h:P:=by exact⟨k1,yg.tr.trans k2,yg.size,yg.defers.mono k2,fun j=>V.aL k2 _ _ (yg.env j)⟩):P:=h
theorem UW{P:Prop}(h:P:=by rw[af _ _ _ _ e,af _ _ _ _ e,af _ _ _ _ (by omega),hI.eq j hj,af _ _ _ _ e]):P:=h
theorem Py{P:Prop}(h:P:=by exact Eh hL k3 (key _ _ _ (by rw[hj];rfl) (JG _ hj))):P:=h
theorem mQ{P:Prop}(h:P:=by simp[hx]):P:=h
theorem J3{P:Prop}(h:P:=by exact V.aL (ht.trans k2) _ _ (hs.env i)):P:=h
theorem yh{P:Prop}(h:P:=by simp[V.refs]):P:=h
theorem aam{P:Prop}(h:P:=by exact⟨k1,hs.tr.trans k2,hs.size,hs.defers.mono k2,fun j=>V.aL k2 _ _ (hs.env j)⟩):P:=h
theorem UX{P:Prop}(h:P:=by rw[m3 id h2 (by omega),af _ _ _ _ (by omega),af _ _ _ _ (by omega),cJ id h2 h3]):P:=h
theorem UY{P:Prop}(h:P:=by exact hQ _ _ _ _ val k5 (dR hs k1 k2 (o':=o') (nx':=nx') rfl fun id hu=>hu) k4):P:=h
theorem Pz{P:Prop}(h:P:=by exact⟨_,mO,iG,hq, .of_steps (.one h0 stepR_block) cM⟩):P:=h
theorem PA{P:Prop}(h:P:=by exact⟨_,mO,iG,hq, .of_steps (.one h0 jq) cM⟩):P:=h
theorem Gl{P:Prop}(h:P:=by unfold ew;rw[J4 trivial]):P:=h
theorem UZ{P:Prop}(h:P:=by exact .inr (.inr (.inr (m6.mono (fun v o n h=>hK _ h) (fun v o n h=>hX _ _ h) h)))):P:=h
theorem PB{P:Prop}(h:P:=by rw[af _ _ _ _ (by omega)];exact k4 id (by omega) g2):P:=h
theorem U0{P:Prop}(h:P:=by rw[m2.eq id (by omega)];unfold ext;rw[if_neg (by omega),af _ _ _ _ (by omega)]):P:=h
theorem U1{P:Prop}(h:P:=by unfold JF Ee;(repeat(first|rfl|rw[ad]|rw[af _ _ _ _ (by omega)]))):P:=h
theorem U2{P:Prop}(h:P:=by exact⟨none,0,0,rfl,rfl,Nat.le_refl _,fun _=>rfl,0,fun a ha=>by cases ha⟩):P:=h
theorem U3{P:Prop}(h:P:=by exact⟨b,es',clock,k1,k2,k4,aI.mono (fun b _ hn=>⟨rfl,hB b hn⟩) _ _ k3⟩):P:=h
theorem J5{P:Prop}(h:P:=by rw[show(hp o nx).o id=_ from ho];rfl):P:=h
theorem U4{P:Prop}(h:P:=by exact fun k hk s' h1 h2=>yi _ (fun x hx=>aU x (jk k hk x hx)) s' h1 h2):P:=h
theorem PC{P:Prop}(h:P:=by injection h with h;subst h;exact⟨by assumption,hK⟩):P:=h
theorem U5{P:Prop}(h:P:=by exact⟨k1,xs,k2,evs,k3,k4,D.aN (fun b _ hn=>⟨rfl,hB b hn⟩) _ _ k5⟩):P:=h
theorem U6{P:Prop}(h:P:=by subst e23;(repeat(first|rfl|rw[ad]|rw[af _ _ _ _ (by omega)]))):P:=h
theorem U7{P:Prop}(h:P:=by subst ea;(repeat(first|rfl|rw[ad]|rw[af _ _ _ _ (by omega)]))):P:=h
theorem Mh{P:Prop}(h:P:=by subst en;(repeat(first|rfl|rw[ad]|rw[af _ _ _ _ (by omega)]))):P:=h
theorem Mi{P:Prop}(h:P:=by subst eo;(repeat(first|rfl|rw[ad]|rw[af _ _ _ _ (by omega)]))):P:=h
theorem Mj{P:Prop}(h:P:=by exact hK _ _ (by omega) (m2.mono (by omega)) fun id i1 i2=>m3 id i1 (by omega)):P:=h
theorem Mk{P:Prop}(h:P:=by exact hH.fresh j fun hu=>h (.inl hu)):P:=h
theorem U8{P:Prop}(h:P:=by exact⟨r, .inl rfl,by obtain⟨_,rfl,_⟩:=hx;rfl,fun op=>g2 op p q,g1⟩):P:=h
theorem Gm{P:Prop}(h:P:=by simp at h;obtain⟨rfl,rfl⟩:=h;exact⟨rfl,rfl⟩):P:=h
theorem Ml{P:Prop}(h:P:=by exact hN _ _ _ (iI hs k1 k2 (lD ho) cz rfl fun id hu=> .inl hu)):P:=h
theorem Gn{P:Prop}(h:P:=by rw[Eg _ _ (by omega)];exact k2.eq id (by omega)):P:=h
theorem Mm{P:Prop}(h:P:=by exact⟨_,_,_,_,_,_,_,hK,by simp[hr], .inl rfl,h1,h2,h3,by simp⟩):P:=h
theorem U9{P:Prop}(h:P:=by simp only[a0,Array.size_append,Array.size_replicate];simp at hlen;omega):P:=h
theorem Va{P:Prop}(h:P:=by exact forall_congr' fun k=>forall_congr' fun hk=>by rw[ih k hk (d+1)]):P:=h
theorem Mn{P:Prop}(h:P:=by exact(hI.aA (by omega) (by omega) (by omega) hr).ext (by omega) (by omega)):P:=h
theorem Mo{P:Prop}(h:P:=by cases xv<;>first|(simp[Mp]at hwd;done)|(cases yv<;>simp[he])):P:=h
theorem Mq{P:Prop}(h:P:=by exact⟨x,b.trans y,z⟩):P:=h
theorem uP{P:Prop}(h:P:=by simpa[V.refs]using hr):P:=h
theorem Mr{P:Prop}(h:P:=by exact(CC B (by omega) (by omega) ds ty sz _).trans (uQ j (by omega))):P:=h
theorem Gp{P:Prop}(h:P:=by have:=fR hx;have:=Tm.hZ t;omega):P:=h
theorem Ms{P:Prop}(h:P:=by rw[show(i*4+j)/4=i by omega,show(i*4+j)%4=j by omega]):P:=h
theorem Gq{P:Prop}(h:P:=by rw[mP];simp only[m5,ee,ui];exact au):P:=h
theorem Mt{P:Prop}(h:P:=by injection hu with hu;injection hv with hv;subst hu;subst hv;exact h3):P:=h
theorem Mu{P:Prop}(h:P:=by rw[ra];exact List.mem_cons_of_mem _ (List.mem_flatMap.2 ⟨k,hk,hx⟩)):P:=h
theorem Mv{P:Prop}(h:P:=by exact hN _ _ _ _ k3.2 (mw hs k1 k2 k3.1 cz rfl fun id hu=>hu)):P:=h
theorem Gs{P:Prop}(h:P:=by simp at hl;obtain⟨rfl,rfl⟩:=hl;exact hK):P:=h
theorem Gt{P:Prop}(h:P:=by simp at hj hy;subst hj;subst hy;exact aU):P:=h
theorem CD{P:Prop}(h:P:=by rw[if_neg e,if_neg (by omega)]):P:=h
theorem ab9{P:Prop}(h:P:=by rw[hj];rfl):P:=h
theorem Vb{P:Prop}(h:P:=by exact h3 e (Array.mem_toList_iff.1 he) hb):P:=h
theorem CE{P:Prop}(h:P:=by rw[hg];simp[dq,hv,e]):P:=h
theorem Mw{P:Prop}(h:P:=by exact cf.same hH _ h (by simp[execOp,fN,hr]) ⟨_,rfl,hv⟩):P:=h
theorem Gu{P:Prop}(h:P:=by rw[rD];exact cD all _ aX):P:=h
theorem Gv{P:Prop}(h:P:=by simp[ab.refs,V.aJ,V.refs];omega):P:=h
theorem Gw{P:Prop}(h:P:=by subst rW;rw[ad];exact hh.symm):P:=h
theorem qq{P:Prop}(h:P:=by rw[tY];rfl):P:=h
theorem Mx{P:Prop}(h:P:=by exact bD t u hu (hQ _ s φ w (.iface t u) h hs ⟨u,rfl,hd⟩)):P:=h
theorem CF{P:Prop}(h:P:=by simp[binOp,yj hr]):P:=h
theorem Gx{P:Prop}(h:P:=by exact⟨.ret,s',aE,hq,jl,trivial⟩):P:=h
theorem My{P:Prop}(h:P:=by exact⟨e',PD,Zx,hR,ComesIn.of_steps Mz hs,FY,hl⟩):P:=h
theorem qs{P:Prop}(h:P:=by rw[hx];rfl):P:=h
theorem uR{P:Prop}(h:P:=by rw[hx];exact hk):P:=h
theorem Gy{P:Prop}(h:P:=by rw[tZ i hi];exact congrArg some hb):P:=h
theorem MA{P:Prop}(h:P:=by exact⟨b,k1,k2.mono (fun b _ hn=>⟨rfl,hB b hn⟩) rfl⟩):P:=h
theorem rX{P:Prop}(h:P:=by simpa using h2):P:=h
theorem Gz{P:Prop}(h:P:=by unfold ew;exact Eq.trans rfl rfl):P:=h
theorem nS{P:Prop}(h:P:=by assumption):P:=h
theorem GA{P:Prop}(h:P:=by subst rW;rw[ad,JG _ S9]):P:=h
theorem CG{P:Prop}(h:P:=by rw[Vc]at hl;simp at hl):P:=h
theorem CH{P:Prop}(h:P:=by subst hi;simp[Ne.symm h]):P:=h
theorem GC{P:Prop}(h:P:=by exact⟨.bD _,s',aE,hq,jl,hm⟩):P:=h
theorem GD{P:Prop}(h:P:=by unfold Ei;exact Eq.trans rfl rfl):P:=h
theorem CI{P:Prop}(h:P:=by exact fun _=>yk _ _ _):P:=h
theorem GF{P:Prop}(h:P:=by unfold eqGuard;cases op<;>simp):P:=h
theorem CJ{P:Prop}(h:P:=by rw[h]at h1;simp at h1):P:=h
theorem GG{P:Prop}(h:P:=by simpa only[pA]using this):P:=h
theorem GH{P:Prop}(h:P:=by simp[hj]at hr;exact⟨hr,rfl⟩):P:=h
theorem GI{P:Prop}(h:P:=by rw[Eg _ _ Bh, <- h0 _ Bh,ht]):P:=h
theorem GJ{P:Prop}(h:P:=by simp at hj;subst hj;exact dG):P:=h
theorem uS{P:Prop}(h:P:=by simpa using hx):P:=h
theorem GK{P:Prop}(h:P:=by rw[ht];exact ab.noConfusion):P:=h
theorem uT{P:Prop}(h:P:=by rw[h1];rfl):P:=h
theorem yl{P:Prop}(h:P:=by cases b<;>rfl):P:=h
theorem ym{P:Prop}(h:P:=by rw[ra];simp):P:=h
theorem Vd{P:Prop}(h:P:=by exact⟨b,h4.trans h5,h6⟩):P:=h
theorem rY{P:Prop}(h:P:=by simp[hy]):P:=h
theorem MB{P:Prop}(h:P:=by refine aO (aP rfl) ?_;refine bc ?_;rw[e]):P:=h
theorem zw1{P:Prop}(h:P:=by rw[hr,if_pos rfl]at x4;refine bc ?_;refine aj (k+1,(aq step s' (jr x (q++[(k:Int)]) false)).1,o5,n5+1+1) ⟨h1,p2.mono (show n5<=n5+1+1 from ag),(show nx<n5+1+1 from ag),by dsimp only;rw[p3 nx (by omega) (Nat.le_refl _),bG],fun id i1 i2=>(p3 id i1 ag).trans (cJ id i1 i2),by dsimp only;rw[kx];exact x4,by dsimp only;rw[kx];exact pB step ok aU _ _ s' iJ hr⟩ nQ (bf.bC _ (show nx<=n5+1+1 from ag) nQ (p2.mono (show n5<=n5+1+1 from ag)).bB (fun _ _=>rfl) ?_);exact cN):P:=h
theorem zw4{P:Prop}(h:P:=by refine aO (aP rfl) ?_;refine gD q2 ?_;refine cm _ _ _ .busy none ag (fin _ _ (fun id au=>S8) eH ag) eO (fun id h3 h4=>by(repeat(first|rfl|rw[ad]|rw[af _ _ _ _ (by omega)])))):P:=h
theorem Ve{P:Prop}(h:P:=by rw[List.drop_eq_getElem_cons h1];rw[List.getElem?_eq_getElem h1]at hx;injection hx with hx;rw[hx]):P:=h
theorem zw6{P:Prop}(h:P:=by refine aj (j+1) h2 ag (bf.iK (fun j=>j=1) (.osl 1 1) 1 _ ag (FZ (cw (y:= .row r.row) Pl (raH_0 _ _) (bw rfl lA))) (raH_1 _ _) (.inr ⟨1,1,rfl,rfl,by(repeat(first|rfl|rw[ad]|rw[af _ _ _ _ (by omega)]));rw[ly];simp⟩) (fun j hj=>by unfold Mg;(repeat(first|rfl|rw[ad]|rw[af _ _ _ _ (by omega)]))) (fun j h h2=>ag) ?_);exact qp):P:=h
theorem zw7{P:Prop}(h:P:=by refine aj (k+1,(step s' x).1,o2,n2+1+1) ⟨h1,m2.mono (show n2<=n2+1+1 from ag),(show nx<=n2+1+1 from ag),fun id i1 i2=>(m3 id i1 ag).trans (cJ id i1 i2),hf,aU x eC s' iJ hb,by rw[yn];rfl⟩ nQ (bf.bC _ (show nx<=n2+1+1 from ag) (Nat.le_refl _) (m2.mono (show n2<=n2+1+1 from ag)).bB (fun _ _=>rfl) ?_);exact cN):P:=h
theorem J6{P:Prop}(h:P:=by simp[Ef,Array.getD_eq_getD_getElem?,Array.getElem?_replicate]at ig;split at ig<;>simp at ig):P:=h
theorem PE{P:Prop}(h:P:=by obtain⟨h0,h1,h2⟩:=h;refine⟨h0,hr.us id h1,fun bG=> ?_⟩;obtain⟨h3,h4⟩:=hr.row id h1 bG;obtain⟨b,h5,h6⟩:=h2 h3;exact Vd):P:=h
theorem PF{P:Prop}(h:P:=by obtain⟨a,b,c⟩:=hr id yh;obtain⟨h0,h1,h2⟩:=h;refine⟨h0,c,fun bG=> ?_⟩;rw[a]at bG;obtain⟨x,y,z⟩:=h2 bG;exact Mq):P:=h
theorem PG{P:Prop}(h:P:=by obtain⟨h0,x,hx⟩:=wo hI;simp+contextual only[go_sem,hI,hx,h0];refine aO (aP rfl) ?_;refine ck ?_;exact US):P:=h
theorem PH{P:Prop}(h:P:=by obtain⟨a,b,c⟩:=hr id yh;obtain⟨h0,h1,h2⟩:=h;refine⟨h0,c,fun bG=> ?_⟩;obtain⟨x,y,z⟩:=h2 (a.1 bG);exact Mq):P:=h
theorem J7{P:Prop}(h:P:=by dsimp only;refine bf.bC _ (Nat.le_refl _) ag hI.bB (fun _ _=>rfl) ?_;exact cN):P:=h
theorem Vf{P:Prop}(h:P:=by refine bc ?_;rw[e]):P:=h
theorem Vg{P:Prop}(h:P:=by refine bf.iK (fun _=>False) .a8 1 _ ag (FZ (bw rfl lA)) (ad _ _ _) (.inl ⟨rfl,rfl,cl⟩) (fun j hj=>by(repeat(first|rfl|rw[ad]|rw[af _ _ _ _ (by omega)]))) (fun _ h=>h.elim) ?_;exact qp):P:=h
theorem PI{P:Prop}(h:P:=by intro j hj;simp only[bp,h2,List.mem_map,List.mem_filter]at hj;obtain⟨e,⟨he,hb⟩,rfl⟩:=hj;exact Vb):P:=h
theorem Vh{P:Prop}(h:P:=by rw[hs,Bool.true_and]at rZ;refine gD hs ?_;refine aj (k+1) ⟨h2,rZ⟩ ag (bf.bC _ (show 0<=1 from ag) ag eH (fun j hj=>by(repeat(first|rfl|rw[ad]|rw[af _ _ _ _ (by omega)]))) ?_);exact cN):P:=h
theorem Vi{P:Prop}(h:P:=by obtain⟨h0,h1,h2⟩:=h;refine⟨h0,hr.us id h1,fun e' nM=> ?_⟩;obtain⟨e,g1,g2,g3⟩:=hr.ep id e' h1 nM;obtain⟨h3,h4⟩:=h2 e g1;refine⟨Nat.le_trans h3 g2,fun heq=> ?_⟩;rw[g3 (by omega)];exact h4 ag):P:=h
theorem Vj{P:Prop}(h:P:=by refine aO cl ?_;refine gD JH ?_;refine bz (GL _ v ag) ?_;refine bc ?_;refine aj (j+1) h3 ag (bf.d1 _ (aS rfl) ag rfl ?_);rw[pC JH,if_pos hc];exact cN):P:=h
theorem Vk{P:Prop}(h:P:=by rw[e]at hK;refine aae ?_;exact hK _ _ ag ⟨eH,ag,fun j hj=>by rw[af _ _ _ _ (by omega),hI.eq j hj]⟩ (fun j g1 g2=>by(repeat(first|rfl|rw[ad]|rw[af _ _ _ _ (by omega)])))):P:=h
theorem PJ{P:Prop}(h:P:=by obtain⟨z,h1,h⟩:=im h;simp only[Prod.mk.injEq]at h;obtain⟨rfl,rfl,rfl⟩:=h;exact UT):P:=h
theorem Vl{P:Prop}(h:P:=by refine bc ?_;exact hK _ _ ag ⟨eH,ag,fun j hj=>by rw[af _ _ _ _ (by omega),hI.eq j hj]⟩ (fun j g1 g2=>by(repeat(first|rfl|rw[ad]|rw[af _ _ _ _ (by omega)])))):P:=h
theorem GM{P:Prop}(h:P:=by simp only[St.S,iA]at this;exact this):P:=h
theorem PK{P:Prop}(h:P:=by obtain⟨h0,x,hx⟩:=wo hI;simp+contextual only[go_sem,h,hI,hx,h0];exact US):P:=h
theorem PL{P:Prop}(h:P:=by simp only[Array.getD_eq_getD_getElem?];rw[Array.getElem?_setIfInBounds_ne (Ne.symm hi)]):P:=h
theorem PM{P:Prop}(h:P:=by refine jj hI ?_;refine aO (aP rfl) ?_;refine ck ?_;rw[hn,hI];rfl):P:=h
theorem PN{P:Prop}(h:P:=by rw[hL.refs,List.all_eq_true];intro r hr;have:=hrefs r hr;exact decide_eq_true ag):P:=h
theorem PO{P:Prop}(h:P:=by refine ll hx ?_;refine aj (k+1) h2 ag (bf.d0 _ ?_);rw[A4];exact cN):P:=h
theorem PQ{P:Prop}(h:P:=by refine Ul hx f2 ?_;refine aO (aP rfl) ?_;refine bc ?_;rw[e]):P:=h
theorem Vm{P:Prop}(h:P:=by simp only[Option.map_eq_some_iff]at h;obtain⟨d,h1,rfl⟩:=h;obtain⟨arr,rfl,g1,g2⟩:=hx;obtain⟨val,r1,r2⟩:=fS h1 g1 g2;exact fin (r1 w) r2):P:=h
theorem PR{P:Prop}(h:P:=by refine ck ?_;refine aD (ft _ _ _) rfl ?_;refine ck ?_;rw[hn]):P:=h
theorem Vn{P:Prop}(h:P:=by refine aaf hy hc ?_;refine aj (m+1) h3 ag (bf.bC _ (show 0<=3 from ag) ag (r8 _ _ _) (fun j hj=>rfl) ?_);rw[A4];exact cN):P:=h
theorem Vo{P:Prop}(h:P:=by rw[show(⟨put o' [(fr, .arr 0 ty sz es)],fun id=>us id\/id=fr⟩:Hp).o fr=put o' [(fr, .arr 0 ty sz es)] fr from rfl,this]at he;injection he):P:=h
theorem Vp{P:Prop}(h:P:=by simp only[hx]at h ho;injection h with h;subst h;simp only[ab.fz]at ho;simp only[aM,ho]at aU;rw[hd (by rw[ho];rfl)];exact aU):P:=h
theorem PS{P:Prop}(h:P:=by rw[m2.eq id (by omega)];unfold ext;rw[if_neg (by omega)];exact eO):P:=h
theorem Vq{P:Prop}(h:P:=by obtain⟨h0,y,h1,h2,h3,h4⟩:=r9 h;simp only[Prod.mk.injEq]at h4;obtain⟨rfl,rfl,rfl⟩:=h4;exact⟨h0,y,h1,h2,h3,hK⟩):P:=h
theorem Vr{P:Prop}(h:P:=by simp only[Option.map_eq_some_iff]at h;obtain⟨r,h1,rfl⟩:=h;obtain⟨g1,g2⟩:=PT h1 hg (ak M φ H) w xv yv hx hy;exact U8):P:=h
theorem Vs{P:Prop}(h:P:=by obtain⟨h3,h4⟩:=hb _ cc h2;exact⟨by rw[World.cell?_of_block (w:=w) (w':=w') (a:=a.add j) (by simpa using h3)];exact h1,h4⟩):P:=h
theorem Vt{P:Prop}(h:P:=by refine bc ?_;simp at h3;refine aj (k+1) ⟨h2,eD hx hk.2 h3⟩ ag (bf.d1 _ (aS rfl) ag rfl ?_);exact cN):P:=h
theorem Vu{P:Prop}(h:P:=by simp only[ha];obtain⟨z,h1,h⟩:=im h;simp only[Prod.mk.injEq]at h;obtain⟨rfl,rfl,rfl⟩:=h;exact wq h1 hK):P:=h
theorem Vv{P:Prop}(h:P:=by simp only[hw,if_true];obtain⟨rE,ly⟩:=yo GN (fun id au=>ag2 id (by rw[tZ];exact au)) PU aU.2;exact aal):P:=h
theorem Vw{P:Prop}(h:P:=by cases y<;>simp only[V.same,Bool.false_eq_true,Bool.and_eq_true]at h;rw[Nat.eq_of_beq_eq_true h.1,Nat.eq_of_beq_eq_true h.2]):P:=h
theorem PV{P:Prop}(h:P:=by subst Ej;rw[List.take_length];refine nk ?_;exact hQ _ _ rfl):P:=h
theorem PW{P:Prop}(h:P:=by refine nk ?_;refine aO (aP rfl) ?_;exact yc):P:=h
theorem Vx{P:Prop}(h:P:=by intro u hu;simp only[Array.toList_extract,List.extract]at hu;exact hf u (List.mem_of_mem_drop (List.mem_of_mem_take hu))):P:=h
theorem Vy{P:Prop}(h:P:=by refine⟨hH,Trans.refl _ _ _, ?_,⟨[],rfl,List.nodup_nil,fun _=>rfl,fun r hr=>by cases hr⟩,yp hd⟩;exact U9):P:=h
theorem Vz{P:Prop}(h:P:=by rw[e];obtain⟨k1,k2⟩:=iq (us':=CK (Array.replicate ops.size false)) hs.heap (fun id h=> .inl h);exact aam):P:=h
theorem VA{P:Prop}(h:P:=by unfold World.cell?;simp only[hg,Option.isSome_none,Bool.false_eq_true,if_false,Nat.zero_add];rw[MC j hj];simp):P:=h
theorem PX{P:Prop}(h:P:=by simp only[bA,aH,h1,if_false];exact Mk):P:=h
theorem VB{P:Prop}(h:P:=by rw[hb]at hf yn;simp only[Bool.false_eq_true,if_false]at hf yn;refine ck ?_;rw[hf,yn]at hK;exact aak):P:=h
theorem VC{P:Prop}(h:P:=by refine ck ?_;simp at h1;rw[List.drop_eq_nil_of_le h1]at hf;simp only[aq]at hf;rw[hf]at hK;exact UQ):P:=h
theorem J8{P:Prop}(h:P:=by refine aD hkn rfl ?_;exact yc):P:=h
theorem VD{P:Prop}(h:P:=by simp only[Option.some.injEq,Prod.mk.injEq]at h;obtain⟨rfl,rfl,rfl⟩:=h;simp only[ho];exact⟨_,hg,hK⟩):P:=h
theorem PY{P:Prop}(h:P:=by rw[show fr+(j+1)=fr+1+j by omega];exact this):P:=h
theorem PZ{P:Prop}(h:P:=by simp+contextual only[go_sem,h,hI];rw[hn,hI];rfl):P:=h
theorem VE{P:Prop}(h:P:=by injection h with h;subst h;obtain⟨u,rfl,_⟩:=hy;simp only[V.den,D.den]at hx;subst hx;exact aai):P:=h
theorem VF{P:Prop}(h:P:=by injection h with h;subst h;obtain⟨u,rfl,_⟩:=hx;simp only[V.den,D.den]at hy;subst hy;exact aah):P:=h
theorem VG{P:Prop}(h:P:=by refine .inr (.inr (.inl ⟨ds,out,eg,hP,pw, ?_⟩));cases out<;>first|exact hK _ h|exact hX _ _ h):P:=h
theorem VH{P:Prop}(h:P:=by rw[hI.eq 2 (by omega)];(repeat(first|rfl|rw[ad]|rw[af _ _ _ _ (by omega)]));exact p2):P:=h
theorem J9{P:Prop}(h:P:=by refine aO cl ?_;exact yc):P:=h
theorem VI{P:Prop}(h:P:=by simp only[ab.fz]at ho;simp only[aM,ho]at aU;rw[(hd ep (by rw[ho];rfl)).2 rfl];exact aU):P:=h
theorem MD{P:Prop}(h:P:=by rw[Array.toList_append,Array.toList_append,Array.toList_map];exact V.nT CL dn Zy):P:=h
theorem ME{P:Prop}(h:P:=by refine .inr (.inl ⟨ds,out,eg,hP,pw, ?_⟩);cases out<;>first|exact hK _ h|exact hX _ _ h):P:=h
theorem MF{P:Prop}(h:P:=by simp at h1;refine ck ?_;rw[List.drop_eq_nil_of_le h1]at hf yn;rw[hf,yn]at hK;exact UQ):P:=h
theorem MG{P:Prop}(h:P:=by obtain⟨b,dt,ty,k1,k2,k3,k4⟩:=aX;exact⟨b,dt,ty,k1,k2,jR _ _ hrefs k3,k4⟩):P:=h
theorem MH{P:Prop}(h:P:=by obtain⟨arr,rfl,g1,g2⟩:=hx;obtain⟨val,r1,r2⟩:=Ek h g1 g2;exact fin r1 r2):P:=h
theorem MI{P:Prop}(h:P:=by subst e9;(repeat(first|rfl|rw[ad]|rw[af _ _ _ _ (by omega)]));exact q2):P:=h
theorem MJ{P:Prop}(h:P:=by simp only[Array.getD_eq_getD_getElem?];rw[Array.getElem?_setIfInBounds_ne (Ne.symm h1)]):P:=h
theorem MK{P:Prop}(h:P:=by subst e;(repeat(first|rfl|rw[ad]|rw[af _ _ _ _ (by omega)]));exact q2):P:=h
theorem ML{P:Prop}(h:P:=by refine⟨x,fun heq=> ?_⟩;obtain⟨p,q,r,z,u⟩:=y heq;exact⟨p,q,r,b.trans z,u⟩):P:=h
theorem MM{P:Prop}(h:P:=by obtain⟨g1,g2⟩:=List.getElem?_eq_some_iff.1 hx;rw[List.drop_eq_getElem_cons g1,g2]):P:=h
theorem MN{P:Prop}(h:P:=by obtain⟨h5,h6⟩:=List.getElem?_eq_some_iff.1 hx;rw[List.drop_eq_getElem_cons h5,h6]):P:=h
theorem MO{P:Prop}(h:P:=by refine .inl ⟨ds,out,eg,hP, ?_⟩;cases out<;>first|exact hK _ h|exact hX _ _ h):P:=h
theorem MP{P:Prop}(h:P:=by simp only[Ef,Array.getD_eq_getD_getElem?,Array.getElem?_replicate];split<;>rfl):P:=h
theorem MQ{P:Prop}(h:P:=by simp[H',ab.bT]at he;subst he;exact⟨Nat.le_refl _,fun _=>by simp[aE]⟩):P:=h
theorem MR{P:Prop}(h:P:=by rw[p2.eq id (by omega)];unfold ext;rw[if_neg (by omega),hold id (by omega) h2]):P:=h
theorem MS{P:Prop}(h:P:=by rw[hm,fT (o:=s.o) fun id au=>hr id (ky _ id au)];exact Ta):P:=h
theorem MT{P:Prop}(h:P:=by obtain⟨a,b,c,h⟩:=funcOf (P:=Tryz.prog) (t:=214) ah;unfold ua;rw[h]):P:=h
theorem MU{P:Prop}(h:P:=by cases y<;>simp only[D.same,Bool.false_eq_true]at h;rw[D.c6 bU _ h]):P:=h
theorem MV{P:Prop}(h:P:=by rw[Bool.eq_iff_iff,decide_eq_true_eq,this];cases(aq step s l).2<;>simp):P:=h
theorem MW{P:Prop}(h:P:=by simp at h2;rw[List.drop_eq_nil_of_le h2]at rZ;refine bc ?_;rw[rZ];rfl):P:=h
theorem MX{P:Prop}(h:P:=by rw[Bool.eq_iff_iff];simp only[List.all_eq_true (l:=t.kids)];exact Va):P:=h
theorem MY{P:Prop}(h:P:=by obtain⟨b,r,k1,k2,k3,k4,k5,k6,k7,k8,k9,k10⟩:=aX;exact aaj):P:=h
theorem MZ{P:Prop}(h:P:=by obtain⟨u,us,rfl,h1,_⟩:=h;simp at hd;subst hd;exact⟨u,aK,h1⟩):P:=h
theorem M0{P:Prop}(h:P:=by intro c hx;rw[Array.getD_eq_getD_getElem?,hx]at cM;simp at cM):P:=h
def qt(ops:Array Oper)(j:Nat):Option Tmp:=(ops[j]?).bind (·.dst)
structure bI where
 dst:Option Nat
 op:Op
 gd:Option (Nat×Bool):=none
instance:Inhabited bI:=⟨⟨none, .ready 0,none⟩⟩
def Bi(n:Nat):Option Tmp->Bool
 |some d=>decide (d<n)
 |none=>true
def GO(n:Nat)(ops:Array Oper)(o:Oper):Option bI:=
 if Bi n o.dst=true then match o.guard with
  |none=>some ⟨o.dst,o.op,none⟩
  |some (j,want)=>match qt ops j with
   |some d=>some ⟨o.dst,o.op,some (d,want)⟩
   |none=>none
 else none
def jS(n:Nat)(ops:Array Oper):List Oper->Option (List bI)
 |[]=>some []
 |o::l=>match GO n ops o,jS n ops l with
  |some x,some xs=>some (x::xs)
  |_,_=>none
def tmpsOf(o:bI):List Nat:=(o.op.operands.toList.filterMap fun| .tmp t=>some t|_=>none)++(match o.gd with|some (d,_)=>[d]|none=>[])
def eh(o:bI):List Nat:=tmpsOf o++o.dst.toList
def bp(ops:Array Oper)(i:Nat):List Nat:=match ops[i]? with|some o=>(o.after.toList.filter (Region.binds .any)).map (·.on)|none=>[]
def bL(l:List bI)(i:Nat):bI:=l.getD i default
inductive IC where
 |skip|ae (l:List bI)|cU (l:List bI) (pr:List (List Nat))|seq (a b:IC)|cond (c:Operand) (a b:IC)|block (id:Nat) (a:IC)|loop (a:IC)|exit (id:Nat)|ret|bad
 |El (g:Operand) (ps:List Nat) (a b:IC)
 deriving Inhabited
inductive jh where
 |ret|exit (id:Nat)
def jh.code:jh->Code
 | .ret=> .ret
 | .exit id=> .exit id
def kz(acc:List Nat):List Nat->Nat
 |[]=>0
 |j::ps=>(2^j|||acc.getD j 0)|||kz acc ps
def dJ:List (List Nat)->List Nat->List Nat
 |[],acc=>acc
 |ps::l,acc=>dJ l (acc++[kz acc ps])
def pD(x y:bI):Bool:=match x.dst with|some d=> !(eh y).contains d|none=>true
def wu(l:List bI)(pr:List (List Nat)):Bool:=
 (List.range l.length).all fun j=>(List.range j).all fun i=>((dJ pr []).getD j 0).testBit i||(pD (bL l i) (bL l j)&&pD (bL l j) (bL l i))
def jE(xs ys:List Nat):Bool:=xs.all fun x=> !ys.contains x
def dH(pr:List (List Nat))(fp:List (List Nat×List Nat)):Bool:=
 (List.range fp.length).all fun j=>(List.range j).all fun i=>((dJ pr []).getD j 0).testBit i||
  (jE (fp.getD i ([],[])).2 (fp.getD j ([],[])).1&&jE (fp.getD i ([],[])).2 (fp.getD j ([],[])).2&&jE (fp.getD j ([],[])).2 (fp.getD i ([],[])).1)
def fu(ops:Array Oper):List (List Nat):=(List.range ops.size).map (bp ops)
def P6(pr:List (List Nat)):Bool:=(List.range pr.length).all fun k=>(pr.getD k []).all fun j=>decide (j<k)
theorem sa{acc:List Nat}{i:Nat}:∀ (ps:List Nat),(kz acc ps).testBit i=true->∃j∈ps,i=j\/(acc.getD j 0).testBit i=true
 |[],h=>by simp[kz]at h
 |j::ps,h=>by
  simp only[kz,Nat.testBit_or,Bool.or_eq_true]at h
  rcases h with(h|h)|h
  ·rw[Nat.testBit_two_pow]at h
   exact⟨j,aK, .inl (by have h:=of_decide_eq_true h;exact h.symm)⟩
  ·exact⟨j,aK, .inr h⟩
  ·obtain⟨j',h1,h2⟩:=sa ps h
   exact⟨j',by simp[h1],h2⟩
theorem pE{k:Nat}:∀ (l:List (List Nat)) (acc:List Nat),k<acc.length->(dJ l acc).getD k 0=acc.getD k 0
 |[],_,_=>rfl
 |ps::l,acc,h=>by
  rw[dJ,pE l _ (by simp;omega)]
  simp[List.getD_eq_getElem?_getD,List.getElem?_append_left h]
theorem pF{i:Nat}:∀ (l:List (List Nat)) (acc:List Nat) (k:Nat),acc.length<=k->(∀k',k'<l.length->∀j∈l.getD k' [],j<acc.length+k')->((dJ l acc).getD k 0).testBit i=true->
 ∃j∈l.getD (k - acc.length) [],i=j\/((dJ l acc).getD j 0).testBit i=true
 |[],acc,k,hk,_,h=>by
  simp only[dJ]at h
  rw[List.getD_eq_getElem?_getD,List.getElem?_eq_none hk]at h
  simp at h
 |ps::l,acc,k,hk,hp,h=>by
  simp only[dJ]at h|-
  by_cases he:k=acc.length
  ·subst he
   rw[pE l _ (by simp)]at h
   have e:(acc++[kz acc ps]).getD acc.length 0=kz acc ps:=by simp[List.getD_eq_getElem?_getD]
   rw[e]at h
   obtain⟨j,h1,h2⟩:=sa ps h
   refine⟨j,by simpa using h1,h2.imp id fun h2=> ?_⟩
   have hj:j<acc.length:=by simpa using hp 0 aK j (by simpa using h1)
   rw[pE l _ (by simp;omega)]
   simpa[List.getD_eq_getElem?_getD,List.getElem?_append_left hj]using h2
  ·obtain⟨j,h1,h2⟩:=pF l (acc++[kz acc ps]) k nn (fun k' GP j hj=>by
    have:=hp (k'+1) nn j lB
    simp;omega) h
   refine⟨j, ?_,h2⟩
   have e:k - acc.length=(k - (acc++[kz acc ps]).length)+1:=by simp;omega
   rw[e];simpa using h1
theorem nU{pr:List (List Nat)}(hp:∀k,k<pr.length->∀j∈pr.getD k [],j<k){E:Nat->Bool}(hE:∀k,k<pr.length->E k=true->∀j∈pr.getD k [],E j=true):
 ∀k,k<pr.length->(∀j∈pr.getD k [],E j=true)->∀i,((dJ pr []).getD k 0).testBit i=true->E i=true:=by
 intro k
 induction k using Nat.strongRecOn with
 |ind k ih=>
  intro hk hj i hi
  obtain⟨j,h1,h2⟩:=pF pr [] k aK (fun k' GP j hj=>by simpa using hp k' GP j hj) hi
  simp only[List.length_nil,Nat.sub_zero]at h1
  rcases h2 with rfl|h2
  ·exact hj _ h1
  ·have VJ:=hp k hk j h1
   exact ih j VJ ag (hE j ag (hj j h1)) i h2
theorem yq{pr:List (List Nat)}(hp:∀k,k<pr.length->∀j∈pr.getD k [],j<k):∀k,k<pr.length->∀i,((dJ pr []).getD k 0).testBit i=true->i<k:=by
 intro k
 induction k using Nat.strongRecOn with
 |ind k ih=>
  intro hk i hi
  obtain⟨j,h1,h2⟩:=pF pr [] k aK (fun k' GP j hj=>by simpa using hp k' GP j hj) hi
  simp only[List.length_nil,Nat.sub_zero]at h1
  have VJ:=hp k hk j h1
  rcases h2 with rfl|h2
  ·exact VJ
  ·have:=ih j VJ ag i h2;omega
def low(n:Nat):Code->IC
 | .skip=> .skip
 | .label _=> .skip
 | .scope c=>low n c
 | .region _ ops false=>match jS n ops ops.toList with
   |some l=> .ae l
   |none=> .bad
 | .region _ ops true=>match jS n ops ops.toList with
   |some l=>if wu l (fu ops)&&P6 (fu ops)then .cU l (fu ops)else .bad
   |none=> .bad
 | .seq a b=> .seq (low n a) (low n b)
 | .cond c a b=> .cond c (low n a) (low n b)
 | .block id a=> .block id (low n a)
 | .loop a=> .loop (low n a)
 | .exit id=> .exit id
 | .ret=> .ret
 | .rangeFunc g ps a b=> .El g ps.toList (low n a) (low n b)
 |_=> .bad
section
inductive D where
 |int (k:IntKind) (n:Int)|bool (b:Bool)|str (s:List UInt8)
 |fP|lp|bV|gE
 |agg (cs:List D)|sl (es:List D)|iface (t:TypeId) (d:D)
 |mp (ks vs:List D)
 deriving Inhabited
def Flat(vs:List Value):Prop:=∀u∈vs,u.oneCell'=true
def fw(B:Nat->Prop)(w:World)(a:Addr)(cs:Array Value):Prop:=∀j u,cs[j]? =some u->w.cell? (a.add j)=some u/\ ¬B a.block
def ij(es:Array MapEntry)(clock:Nat):Prop:=(∀e∈es.toList,e.born<clock)/\(es.toList.map (·.born)).Nodup
def wv(ks:List D):Prop:=ks.Nodup/\∀k∈ks,∃n,k= .int .i64 n
mutual
def D.den (B:Nat->Prop)(w:World):D->Value->Prop
 | .int k n,v=>v= .int k n
 | .bool b,v=>v= .bool b
 | .str l,v=>∃s:ByteArray,v= .string s/\s.data.toList=l
 | .fP,v=>v= .nilIface
 | .lp,v=>v= .pointer none
 | .bV,v=>v= .nilFunc
 | .gE,v=>v= .map none
 | .agg cs,v=>∃a,v= .agg a/\D.az B w cs a.toList/\Flat a.toList
 | .sl es,v=>∃base len cap,v= .slice base len cap/\len=es.length/\len<=cap/\(base=none->cap=0)/\
  ∃sz,∀a,base=some a->(cap≠0->a.spot=none)/\D.elems B w sz a 0 es
 | .iface t d,v=>∃u,v= .iface t u/\D.den B w d u
 | .mp ks vs,v=>∃m es clock p,v= .map (some m)/\w.heap[m]? =some (.map es clock)/\ ¬B m/\ij es clock/\(p=es.toList\/(p.Perm es.toList/\wv ks))/\D.az B w ks (p.map (·.key))/\D.az B w vs (p.map (·.val))
def D.az (B:Nat->Prop)(w:World):List D->List Value->Prop
 |[],vs=>vs=[]
 |d::ds,vs=>∃u us,vs=u::us/\D.den B w d u/\D.az B w ds us
def D.elems (B:Nat->Prop)(w:World)(sz:Nat)(a:Addr):Nat->List D->Prop
 |_,[]=>True
 |i,e::es=>(∃ev:Value,ev.cells.size=sz/\fw B w (a.add (i*sz)) ev.cells/\D.den B w e ev)/\D.elems B w sz a (i+1) es
end
inductive V where
 |d (x:D)|a8|agg (cs:List V)|bP (vs:List V)
 |ptr (id off:Nat)|osl (id ep:Nat)|pe (id ep i sz off:Nat)|pp (cs:List D) (off:Nat)
 |func (fn:Fn) (first cap:List V)|iface (t:TypeId) (x:V)
 |aa
 |px (es:List D)|uU (id off n:Nat)|mp (id:Nat)|ey|ir (id:Nat)
 deriving Inhabited
inductive ab where
 |no|row (cs:List V)|arr (ep:Nat) (ty:TypeId) (sz:Nat) (es:List D)|qu (ep:Nat) (es:List D)
 |map (kt vt:TypeId) (es:List (D×D))
 |loop (nf n:Nat) (env:List V) (ps:List Nat) (a b:IC) (st:LoopState) (Em:Option jh)
 |fU (es:List (D×D))|np (es:List (D×D)) (last:Option (D×D))|wx (s:List UInt8) (pos:Nat)
 deriving Inhabited
def aW(l:List V):Nat->V:=fun i=>l.getD i .aa
structure Hp where
 o:Nat->ab
 us:Nat->Prop
def ab.bT:ab->Option Nat
 | .arr ep _ _ _| .qu ep _=>some ep
 |_=>none
def ab.bW:ab->Bool
 | .row _| .map .. | .loop .. | .fU _| .np .. | .wx .. =>true
 |_=>false
def ab.live:ab->Bool
 | .row _| .arr .. | .map .. | .loop .. | .np .. | .wx .. =>true
 |_=>false
def cX:Value->Option Nat
 | .pointer (some a)| .slice (some a) _ _=>some a.block
 | .map (some b)=>some b
 |_=>none
abbrev Place:=Nat->Value
def cp(φ:Place)(H:Hp)(b:Nat):Prop:=∃id,(H.o id).live=true/\cX (φ id)=some b
def ak(M:Nat->Prop)(φ:Place)(H:Hp)(b:Nat):Prop:=M b\/cp φ H b
mutual
def V.den (B:Nat->Prop)(φ:Place)(H:Hp)(w:World):V->Value->Prop
 | .d x,v=>D.den B w x v
 | .a8,v=>v= .slice none 0 0
 | .agg cs,v=>∃a,v= .agg a/\V.az B φ H w cs a.toList/\Flat a.toList
 | .bP vs,v=>∃a,v= .tuple a/\V.az B φ H w vs a.toList
 | .ptr id off,v=>v.oneCell'=true/\H.us id/\((H.o id).bW=true->∃b,φ id= .pointer (some ⟨b,0,none⟩)/\v= .pointer (some ⟨b,off,none⟩))
 | .osl id ep,v=>v.oneCell'=true/\H.us id/\∀e,(H.o id).bT=some e->ep<=e/\(ep=e->v=φ id)
 | .pe id ep i sz off,v=>v.oneCell'=true/\H.us id/\∀e,(H.o id).bT=some e->ep<=e/\(ep=e->∃b n c,φ id= .slice (some ⟨b,0,none⟩) n c/\v= .pointer (some ⟨b,i*sz+off,none⟩))
 | .pp cs off,v=>∃a ev,a.spot=none/\v= .pointer (some (a.add off))/\D.az B w cs ev/\Flat ev/\fw B w a ev.toArray
 | .func fn first cap,v=>∃f c,v= .func fn f c/\V.az B φ H w first f.toList/\V.az B φ H w cap c.toList
 | .iface t x,v=>∃u,v= .iface t u/\V.den B φ H w x u
 | .aa,_=>True
 | .px es,v=>D.den B w (.sl es) v/\∃base n,v= .slice base n n
 | .uU id off n,v=>v.oneCell'=true/\H.us id/\((H.o id).bW=true->∃b,φ id= .pointer (some ⟨b,0,none⟩)/\v= .slice (some ⟨b,off,none⟩) n n)
 | .mp id,v=>v.oneCell'=true/\H.us id/\((H.o id).bW=true->v=φ id)
 | .ey,v=>∃b,v= .bool b
 | .ir id,v=>v.oneCell'=true/\H.us id/\((H.o id).bW=true->∃b,φ id= .pointer (some ⟨b,0,none⟩)/\v= .func (.yield b) #[] #[])
def V.az (B:Nat->Prop)(φ:Place)(H:Hp)(w:World):List V->List Value->Prop
 |[],vs=>vs=[]
 |x::xs,vs=>∃u us,vs=u::us/\V.den B φ H w x u/\V.az B φ H w xs us
end
def eP(B:Nat->Prop)(w:World)(sz:Nat)(es:List D)(xs:List Value):Prop:=
 ∃evs:List Value,xs=evs.flatMap (·.cells.toList)/\(∀ev∈evs,ev.cells.size=sz)/\D.az B w es evs
def aI(B:Nat->Prop)(w:World):List (D×D)->List MapEntry->Prop
 |[],es=>es=[]
 |(k,x)::l,es=>∃e es',es=e::es'/\D.den B w k e.key/\D.den B w x e.val/\aI B w l es'
def wy(B:Nat->Prop)(w:World)(l:List (D×D))(last:Option (D×D))(b:Nat):Prop:=
 w.heap[b]? =some (.mapIter none 0 #[] 0)/\l=[]/\last=none\/
 ∃m since seen es,w.heap[b]? =some (.mapIter (some m) since seen since)/\w.heap[m]? =some (.map es since)/\ ¬B m/\ij es since/\(∃l',l'.Perm l/\aI B w l' (es.toList.filter fun e=> !seen.contains e.born))/\
  ∀k x,last=some (k,x)->∃e∈es.toList,seen.back?=some e.born/\D.den B w k e.key/\D.den B w x e.val
def aM(M:Nat->Prop)(φ:Place)(H:Hp)(w:World)(id:Nat):Prop:=
 match H.o id with
 | .no=>True
 | .row cs=>∃b dt ty,φ id= .pointer (some ⟨b,0,none⟩)/\w.heap[b]? =some (.cells dt ty (0,0))/\V.az (ak M φ H) φ H w cs dt.toList/\Flat dt.toList
 | .arr _ ty sz es=>0<sz/\∃xs,w.ownsRow 0 ty sz (φ id) es.length xs/\eP (ak M φ H) w sz es xs
 | .qu _ es=>D.den (ak M φ H) w (.sl es) (φ id)
 | .loop nf n env ps iL eI st Em=>∃b r,φ id= .pointer (some ⟨b,0,none⟩)/\w.heap[b]? =some (.loop r)/\r.fn<nf/\r.state=st/\r.pending=Em.map jh.code/\r.params.toList=ps/\r.tmps.size=n/\low n r.assign=iL/\low n r.body=eI/\
  ∀i,V.den (ak M φ H) φ H w (aW env i) (r.tmps.getD i undef)
 | .map _ _ l=>∃b es clock,φ id= .map (some b)/\w.heap[b]? =some (.map es clock)/\ij es clock/\aI (ak M φ H) w l es.toList
 | .fU l=>D.den (ak M φ H) w (.mp (l.map (·.1)) (l.map (·.2))) (φ id)
 | .np l last=>∃b,φ id= .pointer (some ⟨b,0,none⟩)/\wy (ak M φ H) w l last b
 | .wx s pos=>∃b,φ id= .pointer (some ⟨b,0,none⟩)/\w.heap[b]? =some (.stringIter ⟨⟨s⟩⟩ pos)
structure ax (M:Nat->Prop) (φ:Place) (H:Hp) (w:World):Prop where
 ok:∀id,aM M φ H w id
 fresh:∀id, ¬H.us id->H.o id= .no
 apart:∀i j b,(H.o i).live=true->(H.o j).live=true->cX (φ i)=some b->cX (φ j)=some b->i=j
 ours:∀b,cp φ H b-> ¬M b/\b<w.heap.size
 x5:∀b,M b->b<w.heap.size
structure dk (m:Nat->Prop) (w w':World):Prop where
 os:w'.os=w.os
 tape:w'.tape=w.tape
 output:w'.output=w.output
 size:w.heap.size<=w'.heap.size
 block:∀k,k<w.heap.size-> ¬m k->w'.heap[k]? =w.heap[k]?
structure du (φ:Place) (H:Hp) (aE:Place) (H':Hp):Prop where
 us:∀id,H.us id->H'.us id
 row:∀id,H.us id->(H'.o id).bW=true->(H.o id).bW=true/\aE id=φ id
 ep:∀id e',H.us id->(H'.o id).bT=some e'->∃e,(H.o id).bT=some e/\e<=e'/\(e=e'->aE id=φ id)
structure Trans (φ:Place) (H:Hp) (w:World) (aE:Place) (H':Hp) (w':World):Prop where
 keep:dk (cp φ H) w w'
 grow:∀b,cp aE H' b->cp φ H b\/w.heap.size<=b
 rel:du φ H aE H'
theorem dk.refl (m:Nat->Prop)(w:World):dk m w w:=⟨rfl,rfl,rfl,Nat.le_refl _,fun _ _ _=>rfl⟩
theorem du.refl (φ:Place)(H:Hp):du φ H φ H:=⟨fun _ h=>h,fun _ _ h=>⟨h,rfl⟩,fun _ e' _ h=>⟨e',h,Nat.le_refl _,fun _=>rfl⟩⟩
theorem Trans.refl (φ:Place)(H:Hp)(w:World):Trans φ H w φ H w:=⟨dk.refl _ _,fun _ h=> .inl h,du.refl _ _⟩
theorem du.trans {φ aE Bj:Place}{H H' VK:Hp}(h:du φ H aE H')(k:du aE H' Bj VK):du φ H Bj VK where
 us id au:=k.us id (h.us id au)
 row id au hr:=by
  obtain⟨a,b⟩:=k.row id (h.us id au) hr
  obtain⟨c,d⟩:=h.row id au a
  exact⟨c,b.trans d⟩
 ep id e' au he:=by
  obtain⟨e,h1,h2,h3⟩:=k.ep id e' (h.us id au) he
  obtain⟨e0,g1,g2,g3⟩:=h.ep id e au h1
  refine⟨e0,g1,Nat.le_trans g2 h2,fun heq=> ?_⟩
  have a:e0=e:=ag
  have b:e=e':=ag
  exact(h3 b).trans (g3 a)
theorem Trans.trans {φ aE Bj:Place}{H H' VK:Hp}{w w' PD:World}(h:Trans φ H w aE H' w')(k:Trans aE H' w' Bj VK PD):Trans φ H w Bj VK PD where
 keep:={
  os:=k.keep.os.trans h.keep.os
  tape:=k.keep.tape.trans h.keep.tape
  output:=k.keep.output.trans h.keep.output
  size:=Nat.le_trans h.keep.size k.keep.size
  block:=fun b hb hm=>by
   rw[k.keep.block b (Nat.lt_of_lt_of_le hb h.keep.size) (fun hl=>by
    rcases h.grow b hl with h1|h1
    ·exact hm h1
    ·omega),h.keep.block b hb hm]}
 grow b hl:=by
  rcases k.grow b hl with h1|h1
  ·exact h.grow b h1
  ·exact .inr (Nat.le_trans h.keep.size h1)
 rel:=h.rel.trans k.rel
@[simp] theorem Tb (a:Addr) (j:Nat):(a.add j).block=a.block:=by unfold Addr.add;split<;>rfl
def nV(w:World)(b:Nat):Prop:=∃cs ty fz,w.heap[b]? =some (.cells cs ty fz)
def cK(w:World)(b:Nat):Prop:=nV w b\/∃es clock,w.heap[b]? =some (.map es clock)
theorem cK.lt {w:World}{b:Nat}(h:cK w b):b<w.heap.size:=by
 rcases Nat.lt_or_ge b w.heap.size with hl|hl
 ·exact hl
 ·rcases h with⟨cs,ty,fz,h⟩|⟨es,clock,h⟩
  ·rw[Array.getElem?_eq_none hl]at h;cases h
  ·rw[Array.getElem?_eq_none hl]at h;cases h
theorem m7{w:World}{a:Addr}{u:Value}(h:w.cell? a=some u):nV w a.block:=by
 unfold World.cell? at h
 split at h
 ·exact⟨_,_,_,by assumption⟩
 ·cases h
theorem rb{w:World}{a:Addr}{u:Value}(h:w.cell? a=some u):cK w a.block:= .inl (m7 h)
theorem fw.mono {B B':Nat->Prop}{w w':World}{a:Addr}{cs:Array Value}
 (hb:∀b,cK w b-> ¬B b->w'.heap[b]? =w.heap[b]? /\ ¬B' b) (h:fw B w a cs):fw B' w' a cs:=by
 intro j u hj
 obtain⟨h1,h2⟩:=h j u hj
 have cc:cK w a.block:=by simpa using rb h1
 exact Vs
mutual
theorem D.aL {B B':Nat->Prop}{w w':World}(hb:∀b,cK w b-> ¬B b->w'.heap[b]? =w.heap[b]? /\ ¬B' b):
 ∀ (x:D) (v:Value),D.den B w x v->D.den B' w' x v
 | .int _ _,_,h| .bool _,_,h| .str _,_,h| .fP,_,h| .lp,_,h| .bV,_,h| .gE,_,h=>by simpa[D.den]using h
 | .agg cs,_,h=>by
   obtain⟨a,rfl,h,hf⟩:=h
   exact⟨a,rfl,D.aN hb cs _ h,hf⟩
 | .sl es,_,h=>by
   obtain⟨base,len,cap,rfl,h1,h2,h3,sz,h4⟩:=h
   exact⟨base,len,cap,rfl,h1,h2,h3,sz,fun a ha=>⟨(h4 a ha).1,D.sb hb sz a es 0 (h4 a ha).2⟩⟩
 | .iface t d,_,h=>by
   obtain⟨u,rfl,h⟩:=h
   exact⟨u,rfl,D.aL hb d u h⟩
 | .mp ks vs,_,h=>by
   obtain⟨m,es,clock,p,rfl,h1,h2,h3,hp,h4,h5⟩:=h
   obtain⟨k1,k2⟩:=hb m (.inr ⟨es,clock,h1⟩) h2
   exact⟨m,es,clock,p,rfl,k1.trans h1,k2,h3,hp,D.aN hb ks _ h4,D.aN hb vs _ h5⟩
theorem D.aN {B B':Nat->Prop}{w w':World}(hb:∀b,cK w b-> ¬B b->w'.heap[b]? =w.heap[b]? /\ ¬B' b):
 ∀ (ds:List D) (vs:List Value),D.az B w ds vs->D.az B' w' ds vs
 |[],_,h=>h
 |d::ds,_,h=>by
  obtain⟨u,us,rfl,h1,h2⟩:=h
  exact⟨u,us,rfl,D.aL hb d u h1,D.aN hb ds us h2⟩
theorem D.sb {B B':Nat->Prop}{w w':World}(hb:∀b,cK w b-> ¬B b->w'.heap[b]? =w.heap[b]? /\ ¬B' b)(sz:Nat)(a:Addr):
 ∀ (es:List D) (i:Nat),D.elems B w sz a i es->D.elems B' w' sz a i es
 |[],_,_=>trivial
 |e::es,i,h=>by
  obtain⟨⟨ev,h1,h2,h3⟩,h4⟩:=h
  exact⟨⟨ev,h1,h2.mono hb,D.aL hb e ev h3⟩,D.sb hb sz a es (i+1) h4⟩
end
theorem aI.mono {B B':Nat->Prop}{w w':World}(hb:∀b,cK w b-> ¬B b->w'.heap[b]? =w.heap[b]? /\ ¬B' b):
 ∀ (l:List (D×D)) (es:List MapEntry),aI B w l es->aI B' w' l es
 |[],_,h=>h
 |(k,x)::l,_,h=>by
  obtain⟨e,es,rfl,h1,h2,h3⟩:=h
  exact⟨e,es,rfl,D.aL hb k _ h1,D.aL hb x _ h2,aI.mono hb l es h3⟩
theorem wy.mono {B B':Nat->Prop}{w w':World}(hb:∀b,cK w b-> ¬B b->w'.heap[b]? =w.heap[b]? /\ ¬B' b){l:List (D×D)}{last:Option (D×D)}{b:Nat}(hbb:w'.heap[b]? =w.heap[b]?)(h:wy B w l last b):wy B' w' l last b:=by
 rcases h with⟨h1,h2⟩|⟨m,since,seen,es,h1,h2,h3,h4,h5,h6⟩
 ·exact .inl ⟨hbb.trans h1,h2⟩
 ·obtain⟨k1,k2⟩:=hb m (.inr ⟨es,since,h2⟩) h3
  obtain⟨l',h5,ub⟩:=h5
  refine .inr ⟨m,since,seen,es,hbb.trans h1,k1.trans h2,k2,h4,⟨l',h5,aI.mono hb l' _ ub⟩,fun k x e=> ?_⟩
  obtain⟨e,g1,g2,g3,g4⟩:=h6 k x e
  exact⟨e,g1,g2,D.aL hb k _ g3,D.aL hb x _ g4⟩
theorem jT{B:Nat->Prop}{w:World}:∀ (l:List (D×D)) (es:List MapEntry),aI B w l es↔D.az B w (l.map (·.1)) (es.map (·.key))/\D.az B w (l.map (·.2)) (es.map (·.val))
 |[],es=>by
  simp only[aI,List.map_nil,D.az]
  constructor
  ·rintro rfl;exact⟨rfl,rfl⟩
  ·rintro⟨h,_⟩;simpa using h
 |(k,x)::l,es=>by
  simp only[aI,List.map_cons,D.az]
  constructor
  ·rintro⟨e,es',rfl,h1,h2,h3⟩
   obtain⟨g1,g2⟩:=(jT l es').1 h3
   exact⟨⟨_,_,rfl,h1,g1⟩,⟨_,_,rfl,h2,g2⟩⟩
  ·rintro⟨⟨u,us,h1,h2,h3⟩,⟨v,vs,h4,h5,h6⟩⟩
   cases es with
   |nil=>simp at h1
   |cons e es'=>
    simp only[List.map_cons,List.cons.injEq]at h1 h4
    obtain⟨rfl,rfl⟩:=h1
    obtain⟨rfl,rfl⟩:=h4
    exact⟨e,es',rfl,h2,h5,(jT l es').2 ⟨h3,h6⟩⟩
theorem D.ay {B:Nat->Prop}{w:World}:∀ (ds:List D) (vs:List Value),D.az B w ds vs->vs.length=ds.length
 |[],_,h=>by simp[D.az]at h;simp[h]
 |d::ds,_,h=>by obtain⟨u,us,rfl,_,h2⟩:=h;simp[D.ay ds us h2]
theorem D.c7 {B:Nat->Prop}{w:World}:∀ (ds:List D) (vs:List Value) (i:Nat) (d:D),D.az B w ds vs->ds[i]? =some d->∃v,vs[i]? =some v/\D.den B w d v
 |[],_,_,_,_,hd=>by simp at hd
 |d::ds,_,0,x,h,hd=>by
  exact MZ
 |d::ds,_,i+1,x,h,hd=>by
  obtain⟨u,us,rfl,_,h2⟩:=h
  simpa using D.c7 ds us i x h2 (by simpa using hd)
theorem D.uV {B:Nat->Prop}{w:World}{sz:Nat}{a:Addr}:∀ (es:List D) (i j:Nat) (e:D),D.elems B w sz a i es->es[j]? =some e->
 ∃ev:Value,ev.cells.size=sz/\fw B w (a.add ((i+j)*sz)) ev.cells/\D.den B w e ev
 |[],_,_,_,_,hd=>by simp at hd
 |e::es,i,0,x,h,hd=>by
  simp at hd;subst hd;simpa using h.1
 |e::es,i,j+1,x,h,hd=>by
  have:=D.uV es (i+1) j x h.2 (by simpa using hd)
  simpa[Nat.add_assoc,Nat.add_comm 1 j]using this
section
variable {M:Nat->Prop}{φ aE:Place}{H H':Hp}{w w':World}
theorem Trans.blocks (ht:Trans φ H w aE H' w')(b:Nat)(hc:cK w b)(h: ¬ak M φ H b):w'.heap[b]? =w.heap[b]? /\ ¬ak M aE H' b:=by
 have hb:=hc.lt
 refine⟨ht.keep.block b hb fun hl=>h (.inr hl), ?_⟩
 rintro(h1|h1)
 ·exact h (.inl h1)
 ·rcases ht.grow b h1 with h2|h2
  ·exact h (.inr h2)
  ·omega
mutual
theorem V.jU (hb:∀b,cK w b-> ¬ak M φ H b->w'.heap[b]? =w.heap[b]? /\ ¬ak M aE H' b)(hr:du φ H aE H'):∀ (x:V) (v:Value),V.den (ak M φ H) φ H w x v->V.den (ak M aE H') aE H' w' x v
 | .d x,v,h=>D.aL hb x v h
 | .a8,_,h=>h
 | .aa,_,_=>trivial
 | .px es,v,h=>⟨D.aL hb (.sl es) v h.1,h.2⟩
 | .uU id off n,v,h=>by
   exact PE
 | .mp id,v,h=>by
   obtain⟨h0,h1,h2⟩:=h
   refine⟨h0,hr.us id h1,fun bG=> ?_⟩
   obtain⟨h3,h4⟩:=hr.row id h1 bG
   exact(h2 h3).trans h4.symm
 | .ey,v,h=>h
 | .ir id,v,h=>by
   exact PE
 | .agg cs,_,h=>by obtain⟨a,rfl,h,hf⟩:=h;exact⟨a,rfl,V.eQ hb hr cs _ h,hf⟩
 | .bP cs,_,h=>by obtain⟨a,rfl,h⟩:=h;exact⟨a,rfl,V.eQ hb hr cs _ h⟩
 | .ptr id off,v,h=>by
   exact PE
 | .osl id ep,v,h=>by
   exact Vi
 | .pe id ep i sz off,v,h=>by
   exact Vi
 | .pp cs off,v,h=>by
   obtain⟨a,ev,h1,h2,h3,h5,h4⟩:=h
   exact⟨a,ev,h1,h2,D.aN hb cs ev h3,h5,h4.mono hb⟩
 | .func fn first cap,_,h=>by
   obtain⟨f,c,rfl,h1,h2⟩:=h
   exact⟨f,c,rfl,V.eQ hb hr first _ h1,V.eQ hb hr cap _ h2⟩
 | .iface t x,_,h=>by obtain⟨u,rfl,h⟩:=h;exact⟨u,rfl,V.jU hb hr x u h⟩
theorem V.eQ (hb:∀b,cK w b-> ¬ak M φ H b->w'.heap[b]? =w.heap[b]? /\ ¬ak M aE H' b)(hr:du φ H aE H'):∀ (ds:List V) (vs:List Value),V.az (ak M φ H) φ H w ds vs->V.az (ak M aE H') aE H' w' ds vs
 |[],_,h=>h
 |x::xs,_,h=>by
  obtain⟨u,us,rfl,h1,h2⟩:=h
  exact⟨u,us,rfl,V.jU hb hr x u h1,V.eQ hb hr xs us h2⟩
end
theorem V.aL (ht:Trans φ H w aE H' w')(x:V)(v:Value)(h:V.den (ak M φ H) φ H w x v):V.den (ak M aE H') aE H' w' x v:=V.jU ht.blocks ht.rel x v h
theorem V.aN (ht:Trans φ H w aE H' w')(ds:List V)(vs:List Value)(h:V.az (ak M φ H) φ H w ds vs):V.az (ak M aE H') aE H' w' ds vs:=V.eQ ht.blocks ht.rel ds vs h
end
end
end Go.Proofs.YtnkamdiiakdkgaaGreat
