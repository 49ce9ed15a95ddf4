/-
  A PART OF THE PROOF. Conditions: none.
-/
import Derived.WalkKit
import Derived.Below
set_option linter.unusedSimpArgs false
set_option linter.unusedVariables false
namespace Go.Proofs.YtlhemmpklhhgoaaGreat
theorem cQ{G G':Prop}(g:G')(h:G=G':=by simp+contextual (disch:=first|omega|simp only[go_sem,false_implies]) only[go_sem,wrap64,if_pos,and_self]<;>rfl):G:=Eq.mpr h g
theorem qG{G:Prop}(h:G:=by simp+contextual (disch:=first|omega|simp only[go_sem,false_implies]) only[go_sem,wrap64,if_pos,and_self]):G:=h
theorem wJ{G G':Prop}(g:G')(h:G=G':=by simp+contextual (disch:=first|omega|simp only[go_sem,false_implies]) only[go_sem,wrap64,if_pos,Nat.add_assoc,Nat.left_eq_add,Nat.add_eq_left,Nat.add_left_cancel_iff]<;>rfl):G:=Eq.mpr h g
theorem sF{P0 G G':Prop}(p0:P0)(g:G')(h:P0->G=G':=by intro p0;simp+contextual (disch:=first|omega|simp only[go_sem,false_implies]) only[go_sem,wrap64,if_pos,List.length_map,p0]<;>rfl):G:=Eq.mpr (h p0) g
theorem ou{P0 G G':Prop}(p0:P0)(g:G')(h:P0->G=G':=by intro p0;simp+contextual (disch:=first|omega|simp only[go_sem,false_implies]) only[go_sem,wrap64,if_pos,p0]<;>rfl):G:=Eq.mpr (h p0) g
theorem AV{P0 P1 P2 P3 G G':Prop}(p0:P0)(p1:P1)(p2:P2)(p3:P3)(g:G')(h:P0->P1->P2->P3->G=G':=by intro p0 p1 p2 p3;simp+contextual (disch:=first|omega|simp only[go_sem,false_implies]) only[go_sem,wrap64,if_pos,Nat.add_assoc,Nat.left_eq_add,Nat.add_eq_left,Nat.add_left_cancel_iff,p0,p1,p2,p3]<;>rfl):G:=Eq.mpr (h p0 p1 p2 p3) g
theorem bX{G G':Prop}(g:G')(h:G=G':=by simp+contextual only[go_sem]<;>rfl):G:=Eq.mpr h g
theorem DE{G G':Prop}(g:G')(h:G=G':=by simp+contextual (disch:=first|omega|simp only[go_sem,false_implies]) only[go_sem,wrap64,if_pos,List.length_map]<;>rfl):G:=Eq.mpr h g
theorem O6{P0 P1 P2 P3 G G':Prop}(p0:P0)(p1:P1)(p2:P2)(p3:P3)(g:G')(h:P0->P1->P2->P3->G=G':=by intro p0 p1 p2 p3;simp+contextual (disch:=first|omega|simp only[go_sem,false_implies]) only[go_sem,wrap64,if_pos,List.length_map,Nat.add_assoc,Nat.left_eq_add,Nat.add_eq_left,Nat.add_left_cancel_iff,p0,p1,p2,p3]<;>rfl):G:=Eq.mpr (h p0 p1 p2 p3) g
theorem O7{P0 P1 G G':Prop}(p0:P0)(p1:P1)(g:G')(h:P0->P1->G=G':=by intro p0 p1;simp+contextual (disch:=first|omega|simp only[go_sem,false_implies]) only[go_sem,wrap64,if_pos,List.length_map,p0,p1]<;>rfl):G:=Eq.mpr (h p0 p1) g
theorem Ci{P0 P1 P2 P3 P4 P5 G G':Prop}(p0:P0)(p1:P1)(p2:P2)(p3:P3)(p4:P4)(p5:P5)(g:G')(h:P0->P1->P2->P3->P4->P5->G=G':=by intro p0 p1 p2 p3 p4 p5;simp+contextual (disch:=first|omega|simp only[go_sem,false_implies]) only[go_sem,wrap64,if_pos,p0,p1,p2,p3,p4,p5]<;>rfl):G:=Eq.mpr (h p0 p1 p2 p3 p4 p5) g
theorem Lr{P0 P1 P2 P3 P4 P5 P6 P7 G G':Prop}(p0:P0)(p1:P1)(p2:P2)(p3:P3)(p4:P4)(p5:P5)(p6:P6)(p7:P7)(g:G')(h:P0->P1->P2->P3->P4->P5->P6->P7->G=G':=by intro p0 p1 p2 p3 p4 p5 p6 p7;simp+contextual (disch:=first|omega|simp only[go_sem,false_implies]) only[go_sem,wrap64,if_pos,List.length_map,Nat.add_assoc,Nat.left_eq_add,Nat.add_eq_left,Nat.add_left_cancel_iff,p0,p1,p2,p3,p4,p5,p6,p7]<;>rfl):G:=Eq.mpr (h p0 p1 p2 p3 p4 p5 p6 p7) g
theorem Ls{P0 P1 P2 P3 P4 P5 P6 G G':Prop}(p0:P0)(p1:P1)(p2:P2)(p3:P3)(p4:P4)(p5:P5)(p6:P6)(g:G')(h:P0->P1->P2->P3->P4->P5->P6->G=G':=by intro p0 p1 p2 p3 p4 p5 p6;simp+contextual (disch:=first|omega|simp only[go_sem,false_implies]) only[go_sem,wrap64,if_pos,List.length_map,Nat.add_assoc,Nat.left_eq_add,Nat.add_eq_left,Nat.add_left_cancel_iff,p0,p1,p2,p3,p4,p5,p6]<;>rfl):G:=Eq.mpr (h p0 p1 p2 p3 p4 p5 p6) g
theorem Cj{P0 G:Prop}(p0:P0)(h:P0->G:=by intro p0;simp+contextual (disch:=first|omega|simp only[go_sem,false_implies]) only[go_sem,wrap64,if_pos,p0]):G:=h p0
theorem Lt{P0 G G':Prop}(p0:P0)(g:G')(h:P0->G=G':=by intro p0;simp+contextual (disch:=first|omega|simp only[go_sem,false_implies]) only[go_sem,wrap64,if_pos,Nat.add_assoc,Nat.left_eq_add,Nat.add_eq_left,Nat.add_left_cancel_iff,p0]<;>rfl):G:=Eq.mpr (h p0) g
theorem D2{P0 P1 P2 G G':Prop}(p0:P0)(p1:P1)(p2:P2)(g:G')(h:P0->P1->P2->G=G':=by intro p0 p1 p2;simp+contextual (disch:=first|omega|simp only[go_sem,false_implies]) only[go_sem,wrap64,if_pos,p0,p1,p2]<;>rfl):G:=Eq.mpr (h p0 p1 p2) g
theorem G2{P0 P1 P2 P3 G G':Prop}(p0:P0)(p1:P1)(p2:P2)(p3:P3)(g:G')(h:P0->P1->P2->P3->G=G':=by intro p0 p1 p2 p3;simp+contextual (disch:=first|omega|simp only[go_sem,false_implies]) only[go_sem,wrap64,if_pos,List.length_map,p0,p1,p2,p3]<;>rfl):G:=Eq.mpr (h p0 p1 p2 p3) g
theorem G3{P0 P1 P2 G G':Prop}(p0:P0)(p1:P1)(p2:P2)(g:G')(h:P0->P1->P2->G=G':=by intro p0 p1 p2;simp+contextual (disch:=first|omega|simp only[go_sem,false_implies]) only[go_sem,wrap64,if_pos,List.length_map,p0,p1,p2]<;>rfl):G:=Eq.mpr (h p0 p1 p2) g
theorem G4{P0 G:Prop}(p0:P0)(h:P0->G:=by intro p0;simp+contextual (disch:=first|omega|simp only[go_sem,false_implies]) only[go_sem,wrap64,if_pos,List.length_map,p0]):G:=h p0
theorem iO{P0 G G':Prop}(p0:P0)(g:G')(h:P0->G=G':=by intro p0;simp+contextual only[go_sem,p0]<;>rfl):G:=Eq.mpr (h p0) g
theorem Qq{P0 P1 P2 G G':Prop}(p0:P0)(p1:P1)(p2:P2)(g:G')(h:P0->P1->P2->G=G':=by intro p0 p1 p2;simp+contextual (disch:=first|omega|simp only[go_sem,false_implies]) only[go_sem,wrap64,if_pos,ke,Nat.add_assoc,Nat.left_eq_add,Nat.add_eq_left,Nat.add_left_cancel_iff,List.length_map,p0,p1,p2]<;>rfl):G:=Eq.mpr (h p0 p1 p2) g
theorem Qr{P0 P1 P2 P3 P4 G G':Prop}(p0:P0)(p1:P1)(p2:P2)(p3:P3)(p4:P4)(g:G')(h:P0->P1->P2->P3->P4->G=G':=by intro p0 p1 p2 p3 p4;simp+contextual (disch:=first|omega|simp only[go_sem,false_implies]) only[go_sem,wrap64,if_pos,List.length_map,Nat.add_assoc,Nat.left_eq_add,Nat.add_eq_left,Nat.add_left_cancel_iff,p0,p1,p2,p3,p4]<;>rfl):G:=Eq.mpr (h p0 p1 p2 p3 p4) g
theorem Qs{P0 G G':Prop}(p0:P0)(g:G')(h:P0->G=G':=by intro p0;simp+contextual (disch:=first|omega|simp only[go_sem,false_implies]) only[go_sem,wrap64,if_pos,List.length_map,Nat.add_assoc,Nat.left_eq_add,Nat.add_eq_left,Nat.add_left_cancel_iff,p0]<;>rfl):G:=Eq.mpr (h p0) g
theorem Lu{P0 P1 G:Prop}(p0:P0)(p1:P1)(h:P0->P1->G:=by intro p0 p1;simp+contextual (disch:=first|omega|simp only[go_sem,false_implies]) only[go_sem,wrap64,if_pos,List.length_map,p0,p1]):G:=h p0 p1
theorem Lw{P0 G G':Prop}(p0:P0)(g:G')(h:P0->G=G':=by intro p0;simp+contextual only[go_sem,Nat.add_assoc,Nat.left_eq_add,Nat.add_eq_left,Nat.add_left_cancel_iff,p0]<;>rfl):G:=Eq.mpr (h p0) g
theorem Qt{G G':Prop}(g:G')(h:G=G':=by simp+contextual only[go_sem,D3,Nat.add_assoc,Nat.left_eq_add,Nat.add_eq_left,Nat.add_left_cancel_iff,List.replicate]<;>rfl):G:=Eq.mpr h g
theorem Qu{P0 P1 P2 G:Prop}(p0:P0)(p1:P1)(p2:P2)(h:P0->P1->P2->G:=by intro p0 p1 p2;simp+contextual (disch:=first|omega|simp only[go_sem,false_implies]) only[go_sem,wrap64,if_pos,List.length_map,p0,p1,p2]):G:=h p0 p1 p2
theorem Qv{G G':Prop}(g:G')(h:G=G':=by simp+contextual (disch:=first|omega|simp only[go_sem,false_implies]) only[go_sem,wrap64,if_pos,ke]<;>rfl):G:=Eq.mpr h g
theorem Qw{G:Prop}(h:G:=by simp+contextual (disch:=first|omega|simp only[go_sem,false_implies]) only[go_sem,wrap64,if_pos,ke]):G:=h
theorem dZ{P:Prop}(h:P:=by repeat(first|exact hg.mono (by omega)|exact Good.nil|refine Good.aM ?_ (by omega) rfl|refine Good.aM ?_ (by omega) (AW _ _ _ (by omega))|refine Good.aM ?_ (by omega) (by simp[aa.refs,V.aO,V.refs]<;>omega))):P:=h
theorem ec{P:Prop}(h:P:=by(repeat(first|exact tf|refine ej ?_|refine lq rfl ?_|refine lq (Ji (Jj (by omega))) ?_|refine AX rfl (by simp[V.refs,V.aO]<;>first|omega|assumption) ?_))):P:=h
theorem ae{P:Prop}(h:P:=by kernel_rfl):P:=h
theorem af{P:Prop}(h:P:=by omega):P:=h
theorem zy4{P:Prop}(h:P:=by simp[V.refs,V.aO]<;>first|omega|assumption):P:=h
theorem DF{P:Prop}(h:P:=by(repeat(first|exact D4|refine Ck ?_|refine D5 rfl ?_|refine D5 (Ji (Jj (by omega))) ?_|refine Lx 0 rfl rfl rfl ?_|refine Ly rfl (by simp[V.refs,V.aO]<;>first|omega|assumption) ?_|refine Lz rfl (by simp[V.ids]<;>omega) ?_))):P:=h
theorem iA{P:Prop}(h:P:=by(repeat(first|rfl|rw[ag]|rw[ah _ _ _ _ (by omega)]))):P:=h
theorem zy7{P:Prop}(h:P:=by simp[aa.refs,V.aO,V.refs]<;>omega):P:=h
theorem aK{P:Prop}(h:P:=by simp):P:=h
theorem LA{P:Prop}(h:P:=by rintro⟨h1,h2⟩;first|(cases h1;done)|(cases h2;done)):P:=h
theorem sO{P:Prop}(h:P:=by subst e;(repeat(first|rfl|rw[ag]|rw[ah _ _ _ _ (by omega)]))):P:=h
theorem fX{P:Prop}(h:P:=by simpa[execOp,e8]using this):P:=h
theorem sP{P:Prop}(h:P:=by cases rs with|nil=>exact ho.elim|cons x l=>cases l<;>exact ho.elim):P:=h
theorem LB{P:Prop}(h:P:=by simp only[aM]<;>((repeat' split)<;>first|rfl|omega|(subst_vars;first|rfl|assumption|(symm;assumption)|omega|(simp_all;done)))):P:=h
theorem D6{P:Prop}(h:P:=by exact⟨_,lJ,gM,hq, .of_steps (.one h0 stepR_seq) (.pass (x:= .code y) rfl (fun _ _=> .inl (by simp)) cE)⟩):P:=h
theorem dw{P:Prop}(h:P:=by rw[ho];rfl):P:=h
theorem Qx{P:Prop}(h:P:=by exact⟨false, .inl rfl,rfl,gN (fun _ _ h=>by cases h.1) (by rintro⟨h1,h2⟩;first|(cases h1;done)|(cases h2;done)),eq _ (fun d=>by rw[Qy w d ht])⟩):P:=h
theorem Qz{P:Prop}(h:P:=by exact⟨_,_,_,_,_,_,_,hK,by simp[Instr.range,run_underlying ht,ow], .inl rfl,n1,n2,⟨rfl,by simp,fun _=>⟨w.heap.size,by simp,rfl⟩⟩,fun j hj=> .inr (by simpa using hj)⟩):P:=h
theorem QA{P:Prop}(h:P:=by exact⟨_,_,_,_,_,_,_,hK,by simp[Instr.range,run_underlying ht], .inl rfl,n1,n2,⟨rfl,by simp,fun _=>⟨w.heap.size,by simp,rfl⟩⟩,fun j hj=> .inr (by simpa using hj)⟩):P:=h
theorem ki{P:Prop}(h:P:=by simpa using hj):P:=h
theorem uI{P:Prop}(h:P:=by simp[Op.equalIn,run_underlying ht]):P:=h
theorem WX{P:Prop}(h:P:=by exact⟨false, .inl rfl,rfl,gN (fun _ _ h=>by cases h.1) (by rintro⟨h1,h2⟩;first|(cases h1;done)|(cases h2;done)),eq _ (fun d=>by rw[QB w d ht])⟩):P:=h
theorem WY{P:Prop}(h:P:=by exact⟨false, .inl rfl,rfl,gN (fun _ _ h=>by cases h.1) (by rintro⟨h1,h2⟩;first|(cases h1;done)|(cases h2;done)),eq _ (fun d=>by rw[QC w d ht])⟩):P:=h
theorem QD{P:Prop}(h:P:=by exact⟨false, .inl rfl,rfl,gN (fun _ _ h=>by cases h.1) (by rintro⟨h1,h2⟩;first|(cases h1;done)|(cases h2;done)),eq _ (fun d=>by rw[QE w d ht])⟩):P:=h
theorem G5{P:Prop}(h:P:=by(repeat(first|exact Cl|refine zf ?_|refine G6 rfl ?_))):P:=h
theorem QF{P:Prop}(h:P:=by exact⟨a,ev,h1,h2,D.aI (w:=w) (w':=w) (fun b _ hn=>⟨rfl,hB b hn⟩) cs ev h3,h5,h4.mono (w:=w) (w':=w) (fun b _ hn=>⟨rfl,hB b hn⟩)⟩):P:=h
theorem QG{P:Prop}(h:P:=by exact .inl ⟨_,_,_, .inr ⟨c,f,g,first,cap,hc,dL,hf, .inr (.inl ⟨rs,hH,rfl,fun id aq=>by simpa using List.all_eq_true.1 me id aq⟩)⟩,h⟩):P:=h
theorem dU{P:Prop}(h:P:=by decide):P:=h
theorem QH{P:Prop}(h:P:=by exact .inl ⟨_,_,_, .inr ⟨c,f,g,first,cap,hc,dL,hf, .inr (.inr (.inr ⟨hH,fun id aq=>by simpa using List.all_eq_true.1 me id aq⟩))⟩,h⟩):P:=h
theorem QI{P:Prop}(h:P:=by exact bY.same hH _ hK (by simp only[Sem.run_bind,hr,Result.andThen_ok];rfl) ⟨_,rfl,zv,[.bool false],rfl,r2, .bool false,[],rfl,rfl,rfl⟩):P:=h
theorem QJ{P:Prop}(h:P:=by exact .inr ⟨_,_,_,⟨c,f,g,first,cap,hc,dL,hf, .inr ⟨x,Δ,hH,rfl,rfl,fun id aq=>by simpa using List.all_eq_true.1 me id aq⟩⟩,h⟩):P:=h
theorem aad{P:Prop}(h:P:=by simp[V.ids]<;>omega):P:=h
theorem LC{P:Prop}(h:P:=by subst e1;(repeat(first|rfl|rw[ag]|rw[ah _ _ _ _ (by omega)]));exact q5):P:=h
theorem mf{P:Prop}(h:P:=by simp[lQ,aq]):P:=h
theorem QK{P:Prop}(h:P:=by exact(GR.aM (i:=nx'+3) (m:=nx'+7) (by omega) (by omega) (by omega) rfl).aM (by omega) (by omega) (by omega) rfl):P:=h
theorem WZ{P:Prop}(h:P:=by exact⟨b,r,k1,k2,k3,k4,k5,k6,k7,k8,k9,fun i=>eI _ _ (fun r hr=>hrefs r (V.tg _ _ r hr)) (W0 i)⟩):P:=h
theorem G7{P:Prop}(h:P:=by rw[hold id (by omega) (by omega),DG id (by omega) aq]):P:=h
theorem G8{P:Prop}(h:P:=by simpa[execOp,e8,resolve,invoke,builtin]using this):P:=h
theorem QL{P:Prop}(h:P:=by exact⟨fo G9.1,fo G9.2,fun id aq=>⟨dj th.1.1 id aq,dj th.1.2 id aq⟩,fun id aq=>dj th.2 id aq⟩):P:=h
theorem QM{P:Prop}(h:P:=by simp only[Sem.run_bind,hr,Result.andThen_ok];rfl):P:=h
theorem qH{P:Prop}(h:P:=by dsimp only;omega):P:=h
theorem QN{P:Prop}(h:P:=by exact⟨t,by simp only[pq,if_neg h1],hv,rfl,fun h=>absurd h h1,fun _=>rfl,fun h=>absurd h h1⟩):P:=h
theorem LD{P:Prop}(h:P:=by rw[List.length_map];exact Nat.le_refl _):P:=h
theorem QO{P:Prop}(h:P:=by unfold sQ;exact Nat.le_trans (List.length_filter_le _ _) (by rw[List.length_map];exact Nat.le_refl _)):P:=h
theorem QP{P:Prop}(h:P:=by exact fin _ [] (fun b hb=>by cases hb) dn (World.ownsRow_nil w' 0 ty sz) ⟨[],rfl,by simp,rfl⟩ rfl):P:=h
theorem uJ{P:Prop}(h:P:=by simp[V.refs]):P:=h
theorem W1{P:Prop}(h:P:=by exact⟨w.heap.size,es,clock,rfl,heap_alloc_new w _,e3,aB.mono (ht.blocks (M:=M)) l _ e4⟩):P:=h
theorem QQ{P:Prop}(h:P:=by simp only[Op.operands,Call.operands];exact Array.mem_append.2 (.inr (Array.mem_toList_iff.1 hx))):P:=h
theorem QR{P:Prop}(h:P:=by rw[hn,hI,zg hx];rfl):P:=h
theorem W2{P:Prop}(h:P:=by exact D7 hu cC (fun id h=> .inl (by rw[iP]at h;exact h)) g1.symm g3 j5 (gk rfl)):P:=h
theorem D8{P:Prop}(h:P:=by injection h with h;subst h;exact hK):P:=h
theorem QS{P:Prop}(h:P:=by simp only[h1,ct,Option.map_some];exact hK):P:=h
theorem QT{P:Prop}(h:P:=by exact⟨k1,wK.tr.trans k2,wK.size,wK.defers.mono k2,fun j=>V.aG k2 _ _ (wK.env j)⟩):P:=h
theorem QU{P:Prop}(h:P:=by rw[ah _ _ _ _ e,ah _ _ _ _ e,ah _ _ _ _ (by omega),hI.eq j hj,ah _ _ _ _ e]):P:=h
theorem Ha{P:Prop}(h:P:=by exact V.aG (ht.trans k2) _ _ (hs.env i)):P:=h
theorem W3{P:Prop}(h:P:=by exact⟨k1,hs.tr.trans k2,hs.size,hs.defers.mono k2,fun j=>V.aG k2 _ _ (hs.env j)⟩):P:=h
theorem QV{P:Prop}(h:P:=by rw[m3 id h2 (by omega),ah _ _ _ _ (by omega),ah _ _ _ _ (by omega),cC id h2 h3]):P:=h
theorem QW{P:Prop}(h:P:=by subst e2;(repeat(first|rfl|rw[ag]|rw[ah _ _ _ _ (by omega)]));exact q6):P:=h
theorem QX{P:Prop}(h:P:=by subst e1;(repeat(first|rfl|rw[ag]|rw[ah _ _ _ _ (by omega)]));exact w4):P:=h
theorem W4{P:Prop}(h:P:=by exact Bool.false_ne_true (js.trans h.marks)):P:=h
theorem QY{P:Prop}(h:P:=by exact hQ _ _ _ _ val k5 (dE hs k1 k2 (o':=o') (nx':=nx') rfl fun id hu=>hu) k4):P:=h
theorem LF{P:Prop}(h:P:=by exact⟨_,lJ,gM,hq, .of_steps (.one h0 stepR_block) cE⟩):P:=h
theorem LG{P:Prop}(h:P:=by exact⟨_,lJ,gM,hq, .of_steps (.one h0 iB) cE⟩):P:=h
theorem D9{P:Prop}(h:P:=by unfold dS;rw[Hb trivial]):P:=h
theorem QZ{P:Prop}(h:P:=by exact .inr (.inr (.inr (lR.mono (fun v o n h=>hK _ h) (fun v o n h=>hX _ _ h) h)))):P:=h
theorem Q0{P:Prop}(h:P:=by(repeat(first|rfl|rw[ag]|rw[ah _ _ _ _ (by omega)]));exact pj j hj e1):P:=h
theorem Q1{P:Prop}(h:P:=by exact⟨none,0,0,rfl,rfl,Nat.le_refl _,fun _=>rfl,0,fun a ha=>by cases ha⟩):P:=h
theorem Q2{P:Prop}(h:P:=by exact⟨b,es',clock,k1,k2,k4,aB.mono (fun b _ hn=>⟨rfl,hB b hn⟩) _ _ k3⟩):P:=h
theorem Q3{P:Prop}(h:P:=by(repeat(first|rfl|rw[ag]|rw[ah _ _ _ _ (by omega)]))<;>exact q1):P:=h
theorem Q4{P:Prop}(h:P:=by exact fun k hk s' h1 h2=>wL _ (fun x hx=>aP x (sR k hk x hx)) s' h1 h2):P:=h
theorem LH{P:Prop}(h:P:=by injection h with h;subst h;exact⟨by assumption,hK⟩):P:=h
theorem Q5{P:Prop}(h:P:=by exact⟨k1,xs,k2,evs,k3,k4,D.aI (fun b _ hn=>⟨rfl,hB b hn⟩) _ _ k5⟩):P:=h
theorem Q6{P:Prop}(h:P:=by subst e2;(repeat(first|rfl|rw[ag]|rw[ah _ _ _ _ (by omega)]))):P:=h
theorem Q7{P:Prop}(h:P:=by exact hH.fresh j fun hu=>h (.inl hu)):P:=h
theorem W5{P:Prop}(h:P:=by exact⟨r, .inl rfl,by obtain⟨_,rfl,_⟩:=hx;rfl,fun op=>g2 op p q,g1⟩):P:=h
theorem LI{P:Prop}(h:P:=by simp at h;obtain⟨rfl,rfl⟩:=h;exact⟨rfl,rfl⟩):P:=h
theorem Q8{P:Prop}(h:P:=by exact hN _ _ _ (gO hs k1 k2 (kj ho) cf rfl fun id hu=> .inl hu)):P:=h
theorem Hc{P:Prop}(h:P:=by rw[List.drop_eq_getElem_cons i1,i2]):P:=h
theorem Q9{P:Prop}(h:P:=by exact⟨_,_,_,_,_,_,_,hK,by simp[hr], .inl rfl,h1,h2,h3,by simp⟩):P:=h
theorem W6{P:Prop}(h:P:=by simp only[a0,Array.size_append,Array.size_replicate];simp at hlen;omega):P:=h
theorem W7{P:Prop}(h:P:=by exact forall_congr' fun k=>forall_congr' fun hk=>by rw[ih k hk (d+1)]):P:=h
theorem Ra{P:Prop}(h:P:=by cases xv<;>first|(simp[Jk]at ZR;done)|(cases yv<;>simp[he])):P:=h
theorem Rb{P:Prop}(h:P:=by exact⟨x,b.trans y,z⟩):P:=h
theorem Cm{P:Prop}(h:P:=by simpa[V.refs]using hr):P:=h
theorem Rc{P:Prop}(h:P:=by exact hK _ _ (by omega) (GR.mono (by omega)) cC):P:=h
theorem Re{P:Prop}(h:P:=by exact lr s1 (fun r hr=>by simp[aa.refs,V.aO,V.refs]at hr)):P:=h
theorem LJ{P:Prop}(h:P:=by rw[me];simp only[lQ,dL,sS];exact aq):P:=h
theorem Rf{P:Prop}(h:P:=by injection hu with hu;injection hv with hv;subst hu;subst hv;exact h3):P:=h
theorem Rg{P:Prop}(h:P:=by exact⟨by have:=jd;simp at h1;simp only[Tm.kids];omega,hl⟩):P:=h
theorem Rh{P:Prop}(h:P:=by exact hN _ _ _ _ k3.2 (lu hs k1 k2 k3.1 cf rfl fun id hu=>hu)):P:=h
theorem LK{P:Prop}(h:P:=by simp at hl;obtain⟨rfl,rfl⟩:=hl;exact hK):P:=h
theorem Hd{P:Prop}(h:P:=by simp[aa.refs,V.aO,V.refs]):P:=h
theorem Ri{P:Prop}(h:P:=by rw[ah _ _ _ _ sT,DH _ _ (by omega)];exact h0 id (by omega)):P:=h
theorem Rj{P:Prop}(h:P:=by exact Ea ZS (Eb (Eb (LL 0 rfl rfl rfl Ec)))):P:=h
theorem LM{P:Prop}(h:P:=by simp at hj hy;subst hj;subst hy;exact aP):P:=h
theorem He{P:Prop}(h:P:=by rw[if_neg e,if_neg (by omega)]):P:=h
theorem LN{P:Prop}(h:P:=by simp only[V.den,D.den]at AY;rw[AY]):P:=h
theorem W8{P:Prop}(h:P:=by exact h3 e (Array.mem_toList_iff.1 he) hb):P:=h
theorem Hf{P:Prop}(h:P:=by rw[hg];simp[c9,hv,e]):P:=h
theorem Rk{P:Prop}(h:P:=by exact bY.same hH _ h (by simp[execOp,e8,hr]) ⟨_,rfl,hv⟩):P:=h
theorem Ed{P:Prop}(h:P:=by rw[qn];exact cm all _ aR):P:=h
theorem pt{P:Prop}(h:P:=by rw[sG];rfl):P:=h
theorem AZ{P:Prop}(h:P:=by simp[V.aO,V.refs];omega):P:=h
theorem Jl{P:Prop}(h:P:=by exact bf t u hu (hQ _ s φ w (.iface t u) h hs ⟨u,rfl,hd⟩)):P:=h
theorem Ee{P:Prop}(h:P:=by rw[if_neg e,if_neg fun h=>e h.symm]):P:=h
theorem wM{P:Prop}(h:P:=by simp[V.aO,V.refs]):P:=h
theorem A0{P:Prop}(h:P:=by simp[binOp,wN hr]):P:=h
theorem Eg{P:Prop}(h:P:=by exact⟨.ret,s',aA,hq,iw,trivial⟩):P:=h
theorem Jm{P:Prop}(h:P:=by exact⟨e',LO,V4,hR,ComesIn.of_steps Jn hs,DI,hl⟩):P:=h
theorem pv{P:Prop}(h:P:=by rw[hx];rfl):P:=h
theorem lS{P:Prop}(h:P:=by simp[hy]):P:=h
theorem tj{P:Prop}(h:P:=by rw[hx];exact hk):P:=h
theorem Eh{P:Prop}(h:P:=by rw[sH i hi];exact congrArg some hb):P:=h
theorem Jo{P:Prop}(h:P:=by exact⟨b,k1,k2.mono (fun b _ hn=>⟨rfl,hB b hn⟩) rfl⟩):P:=h
theorem Ei{P:Prop}(h:P:=by unfold dS;exact Eq.trans rfl rfl):P:=h
theorem A1{P:Prop}(h:P:=by rw[ZT]at hl;simp at hl):P:=h
theorem A2{P:Prop}(h:P:=by subst hi;simp[Ne.symm h]):P:=h
theorem Ej{P:Prop}(h:P:=by exact⟨.bf _,s',aA,hq,iw,hm⟩):P:=h
theorem Ek{P:Prop}(h:P:=by unfold Cn;exact Eq.trans rfl rfl):P:=h
theorem A3{P:Prop}(h:P:=by exact fun _=>Co _ _ _):P:=h
theorem El{P:Prop}(h:P:=by unfold eqGuard;cases op<;>simp):P:=h
theorem A4{P:Prop}(h:P:=by rw[h]at h1;simp at h1):P:=h
theorem Em{P:Prop}(h:P:=by simp[hj]at hr;exact⟨hr,rfl⟩):P:=h
theorem tl{P:Prop}(h:P:=by simpa using h2):P:=h
theorem En{P:Prop}(h:P:=by simp at hj;subst hj;exact ed):P:=h
theorem tn{P:Prop}(h:P:=by simpa using hx):P:=h
theorem pw{P:Prop}(h:P:=by simp[hx]):P:=h
theorem tp{P:Prop}(h:P:=by rw[h1];rfl):P:=h
theorem wO{P:Prop}(h:P:=by cases b<;>rfl):P:=h
theorem tq{P:Prop}(h:P:=by rw[hj];rfl):P:=h
theorem Rl{P:Prop}(h:P:=by exact⟨b,h4.trans h5,h6⟩):P:=h
theorem tt{P:Prop}(h:P:=by simp;omega):P:=h
theorem V5{P:Prop}(h:P:=by refine fin _ _ (.inr rfl) _ _ af dZ (fun j j1 j2=>by(repeat(first|rfl|rw[ag]|rw[ah _ _ _ _ (by omega)]))) (fun h=> ?_);exact W4):P:=h
theorem W9{P:Prop}(h:P:=by refine bg (bG rfl) ?_;refine ou q2 ?_;refine dx _ _ _ .busy none af (fin _ _ (fun id aq=>LB) dZ af) iA (fun id h3 h4=>by(repeat(first|rfl|rw[ag]|rw[ah _ _ _ _ (by omega)])))):P:=h
theorem V6{P:Prop}(h:P:=by simp[Ef,Array.getD_eq_getD_getElem?,Array.getElem?_replicate]at gr;split at gr<;>simp at gr):P:=h
theorem Xa{P:Prop}(h:P:=by obtain⟨h0,h1,h2⟩:=h;refine⟨h0,hr.us id h1,fun cn=> ?_⟩;obtain⟨h3,h4⟩:=hr.row id h1 cn;obtain⟨b,h5,h6⟩:=h2 h3;exact Rl):P:=h
theorem Xb{P:Prop}(h:P:=by obtain⟨a,b,c⟩:=hr id uJ;obtain⟨h0,h1,h2⟩:=h;refine⟨h0,c,fun cn=> ?_⟩;rw[a]at cn;obtain⟨x,y,z⟩:=h2 cn;exact Rb):P:=h
theorem Xc{P:Prop}(h:P:=by obtain⟨h0,x,hx⟩:=A5 hI;simp+contextual only[go_sem,hI,hx,h0];refine bg (bG rfl) ?_;refine bX ?_;exact QR):P:=h
theorem Xd{P:Prop}(h:P:=by obtain⟨a,b,c⟩:=hr id uJ;obtain⟨h0,h1,h2⟩:=h;refine⟨h0,c,fun cn=> ?_⟩;obtain⟨x,y,z⟩:=h2 (a.1 cn);exact Rb):P:=h
theorem LP{P:Prop}(h:P:=by intro j hj;simp only[aZ,h2,List.mem_map,List.mem_filter]at hj;obtain⟨e,⟨he,hb⟩,rfl⟩:=hj;exact W8):P:=h
theorem Rm{P:Prop}(h:P:=by obtain⟨h0,h1,h2⟩:=h;refine⟨h0,hr.us id h1,fun e' mO=> ?_⟩;obtain⟨e,g1,g2,g3⟩:=hr.ep id e' h1 mO;obtain⟨h3,h4⟩:=h2 e g1;refine⟨Nat.le_trans h3 g2,fun heq=> ?_⟩;rw[g3 (by omega)];exact h4 af):P:=h
theorem qI{P:Prop}(h:P:=by subst this;exact qG):P:=h
theorem LQ{P:Prop}(h:P:=by rw[List.drop_eq_getElem_cons h1];rw[List.getElem?_eq_getElem h1]at hx;injection hx with hx;rw[hx]):P:=h
theorem LR{P:Prop}(h:P:=by obtain⟨z,h1,h⟩:=gw h;simp only[Prod.mk.injEq]at h;obtain⟨rfl,rfl,rfl⟩:=h;exact QS):P:=h
theorem Eo{P:Prop}(h:P:=by simp only[St.S,gC]at this;exact this):P:=h
theorem LS{P:Prop}(h:P:=by obtain⟨h0,x,hx⟩:=A5 hI;simp+contextual only[go_sem,h,hI,hx,h0];exact QR):P:=h
theorem Rn{P:Prop}(h:P:=by refine⟨t,by simp only[pq,if_pos h1,hl],hv,rfl,fun _=>hl,fun h=>absurd h1 h,fun _=>⟨fun u hu=> ?_,fun h=>absurd h1 h⟩⟩;rw[(lT h1).1 hu];exact Nat.le_refl _):P:=h
theorem LU{P:Prop}(h:P:=by simp only[Array.getD_eq_getD_getElem?];rw[Array.getElem?_setIfInBounds_ne (Ne.symm hi)]):P:=h
theorem LV{P:Prop}(h:P:=by refine iO hI ?_;refine bg (bG rfl) ?_;refine bX ?_;rw[hn,hI];rfl):P:=h
theorem LW{P:Prop}(h:P:=by dsimp only;refine bM.bP _ (Nat.le_refl _) af hI.bZ (fun _ _=>rfl) ?_;exact ec):P:=h
theorem Ro{P:Prop}(h:P:=by simp only[Option.map_eq_some_iff]at h;obtain⟨d,h1,rfl⟩:=h;obtain⟨arr,rfl,g1,g2⟩:=hx;obtain⟨val,r1,r2⟩:=ff h1 g1 g2;exact fin (r1 w) r2):P:=h
theorem LX{P:Prop}(h:P:=by refine bX ?_;refine aw (eN _ _ _) rfl ?_;refine bX ?_;rw[hn]):P:=h
theorem LY{P:Prop}(h:P:=by subst this;refine sF hn ?_;refine bg (bG rfl) ?_;exact qG):P:=h
theorem Rp{P:Prop}(h:P:=by rw[show(⟨put o' [(fr, .arr 0 ty sz es)],fun id=>us id\/id=fr⟩:Hp).o fr=put o' [(fr, .arr 0 ty sz es)] fr from rfl,this]at he;injection he):P:=h
theorem Rq{P:Prop}(h:P:=by simp only[hx]at h ho;injection h with h;subst h;simp only[aa.fz]at ho;simp only[aF,ho]at aP;rw[hd (by rw[ho];rfl)];exact aP.den):P:=h
theorem Rr{P:Prop}(h:P:=by obtain⟨h0,y,h1,h2,h3,h4⟩:=qJ h;simp only[Prod.mk.injEq]at h4;obtain⟨rfl,rfl,rfl⟩:=h4;exact⟨h0,y,h1,h2,h3,hK⟩):P:=h
theorem Rs{P:Prop}(h:P:=by obtain⟨h3,h4⟩:=hb _ bQ h2;exact⟨by rw[World.cell?_of_block (w:=w) (w':=w') (a:=a.add j) (by simpa using h3)];exact h1,h4⟩):P:=h
theorem Rt{P:Prop}(h:P:=by simp only[Option.map_eq_some_iff]at h;obtain⟨r,h1,rfl⟩:=h;obtain⟨g1,g2⟩:=LZ h1 hg (ai M φ H) w xv yv hx hy;exact W5):P:=h
theorem Ru{P:Prop}(h:P:=by simp only[ha];obtain⟨z,h1,h⟩:=gw h;simp only[Prod.mk.injEq]at h;obtain⟨rfl,rfl,rfl⟩:=h;exact uK h1 hK):P:=h
theorem Rv{P:Prop}(h:P:=by simp only[hw,if_true];obtain⟨uL,j5⟩:=wP Ep (fun id aq=>Xe id (by rw[sH];exact aq)) L0 aP.2;exact W2):P:=h
theorem Rw{P:Prop}(h:P:=by cases y<;>simp only[V.same,Bool.false_eq_true,Bool.and_eq_true]at h;rw[Nat.eq_of_beq_eq_true h.1,Nat.eq_of_beq_eq_true h.2]):P:=h
theorem Rx{P:Prop}(h:P:=by rw[<- uM];refine fM hH (bH w _) cC _ _ V7 ?_;unfold aF;simp only[ba,aC,if_true];exact W1):P:=h
theorem L1{P:Prop}(h:P:=by refine cQ ?_;refine bg (bG rfl) ?_;exact qG):P:=h
theorem Ry{P:Prop}(h:P:=by intro u hu;simp only[Array.toList_extract,List.extract]at hu;exact hf u (List.mem_of_mem_drop (List.mem_of_mem_take hu))):P:=h
theorem Rz{P:Prop}(h:P:=by refine⟨hH,Trans.refl _ _ _, ?_,⟨[],rfl,List.nodup_nil,fun _=>rfl,fun r hr=>by cases hr⟩,wQ hd⟩;exact W6):P:=h
theorem RA{P:Prop}(h:P:=by rw[e];obtain⟨k1,k2⟩:=iC (us':=A6 (Array.replicate ops.size false)) hs.heap (fun id h=> .inl h);exact W3):P:=h
theorem L2{P:Prop}(h:P:=by simp only[ba,aC,h1,if_false];exact Q7):P:=h
theorem RB{P:Prop}(h:P:=by refine bX ?_;simp at h1;rw[List.drop_eq_nil_of_le h1]at hf;simp only[aD]at hf;rw[hf]at hK;exact Rc):P:=h
theorem RC{P:Prop}(h:P:=by simp only[Option.some.injEq,Prod.mk.injEq]at h;obtain⟨rfl,rfl,rfl⟩:=h;simp only[ho];exact⟨_,hg,hK⟩):P:=h
theorem L3{P:Prop}(h:P:=by rw[show fr+(j+1)=fr+1+j by omega];exact this):P:=h
theorem L4{P:Prop}(h:P:=by simp+contextual only[go_sem,h,hI];rw[hn,hI];rfl):P:=h
theorem RD{P:Prop}(h:P:=by injection h with h;subst h;obtain⟨u,rfl,_⟩:=hy;simp only[V.den,D.den]at hx;subst hx;exact WY):P:=h
theorem RE{P:Prop}(h:P:=by injection h with h;subst h;obtain⟨u,rfl,_⟩:=hx;simp only[V.den,D.den]at hy;subst hy;exact WX):P:=h
theorem RF{P:Prop}(h:P:=by refine .inr (.inr (.inl ⟨ds,out,dM,hP,mP, ?_⟩));cases out<;>first|exact hK _ h|exact hX _ _ h):P:=h
theorem RG{P:Prop}(h:P:=by rw[hI.eq 2 (by omega)];(repeat(first|rfl|rw[ag]|rw[ah _ _ _ _ (by omega)]));exact p2):P:=h
theorem L5{P:Prop}(h:P:=by refine cQ ?_;refine aw hkn rfl ?_;exact qG):P:=h
theorem RH{P:Prop}(h:P:=by simp only[aF,ho]at aP;obtain⟨bk,es,clock,g1,_⟩:=aP;rw[<- dT]at g1;subst g1;exact Qx):P:=h
theorem RI{P:Prop}(h:P:=by simp only[aa.fz]at ho;simp only[aF,ho]at aP;rw[(hd ep (by rw[ho];rfl)).2 rfl];exact aP):P:=h
theorem RJ{P:Prop}(h:P:=by rw[Array.toList_append,Array.toList_append,Array.toList_map];exact V.mU A7 cZ V8):P:=h
theorem RK{P:Prop}(h:P:=by refine .inr (.inl ⟨ds,out,dM,hP,mP, ?_⟩);cases out<;>first|exact hK _ h|exact hX _ _ h):P:=h
theorem RL{P:Prop}(h:P:=by obtain⟨b,da,ty,k1,k2,k3,k4⟩:=aR;exact⟨b,da,ty,k1,k2,qK _ _ hrefs k3,k4⟩):P:=h
theorem RM{P:Prop}(h:P:=by obtain⟨hi,_⟩:=List.getElem?_eq_some_iff.1 hm;rw[List.length_eraseIdx];simp[hi];omega):P:=h
theorem RN{P:Prop}(h:P:=by obtain⟨arr,rfl,g1,g2⟩:=hx;obtain⟨val,r1,r2⟩:=Cp h g1 g2;exact fin r1 r2):P:=h
theorem RP{P:Prop}(h:P:=by simp only[Array.getD_eq_getD_getElem?];rw[Array.getElem?_setIfInBounds_ne (Ne.symm h1)]):P:=h
theorem RQ{P:Prop}(h:P:=by refine⟨x,fun heq=> ?_⟩;obtain⟨p,q,r,z,u⟩:=y heq;exact⟨p,q,r,b.trans z,u⟩):P:=h
theorem RR{P:Prop}(h:P:=by rw[hL.refs,List.all_eq_true];intro r hr;have:=hrefs r hr;exact decide_eq_true af):P:=h
theorem RS{P:Prop}(h:P:=by refine .inl ⟨ds,out,dM,hP, ?_⟩;cases out<;>first|exact hK _ h|exact hX _ _ h):P:=h
theorem RT{P:Prop}(h:P:=by simp only[Ef,Array.getD_eq_getD_getElem?,Array.getElem?_replicate];split<;>rfl):P:=h
theorem RU{P:Prop}(h:P:=by simp[H',aa.bL]at he;subst he;exact⟨Nat.le_refl _,fun _=>by simp[aA]⟩):P:=h
theorem RV{P:Prop}(h:P:=by rw[hm,fg (o:=s.o) fun id aq=>hr id (jt _ id aq)];exact O8):P:=h
theorem RW{P:Prop}(h:P:=by obtain⟨a,b,c,h⟩:=funcOf (P:=Tryz.prog) (t:=209) ae;unfold DJ;rw[h]):P:=h
theorem RX{P:Prop}(h:P:=by cases y<;>simp only[D.same,Bool.false_eq_true]at h;rw[D.cR bF _ h]):P:=h
theorem RY{P:Prop}(h:P:=by subst this;refine sF hx ?_;refine bg (bG rfl) ?_;exact qG):P:=h
theorem Jp{P:Prop}(h:P:=by rw[Bool.eq_iff_iff];simp only[List.all_eq_true (l:=t.kids)];exact W7):P:=h
theorem Jq{P:Prop}(h:P:=by obtain⟨b,r,k1,k2,k3,k4,k5,k6,k7,k8,k9,W0⟩:=aR;exact WZ):P:=h
theorem Jr{P:Prop}(h:P:=by obtain⟨u,us,rfl,h1,_⟩:=h;simp at hd;subst hd;exact⟨u,aK,h1⟩):P:=h
theorem Js{P:Prop}(h:P:=by rw[m2.eq id (by omega)];unfold ext;rw[if_neg (by omega)];exact iA):P:=h
theorem Jt{P:Prop}(h:P:=by intro c hx;rw[Array.getD_eq_getD_getElem?,hx]at cE;simp at cE):P:=h
theorem Ju{P:Prop}(h:P:=by obtain⟨r,h⟩:=Jv hS 12 p.2 40 (DK p hp);exact⟨_,r,h⟩):P:=h
def px(ops:Array Oper)(j:Nat):Option Tmp:=(ops[j]?).bind (·.dst)
structure bw where
 dst:Option Nat
 op:Op
 gd:Option (Nat×Bool):=none
instance:Inhabited bw:=⟨⟨none, .ready 0,none⟩⟩
def zh(n:Nat):Option Tmp->Bool
 |some d=>decide (d<n)
 |none=>true
def Er(n:Nat)(ops:Array Oper)(o:Oper):Option bw:=
 if zh n o.dst=true then match o.guard with
  |none=>some ⟨o.dst,o.op,none⟩
  |some (j,want)=>match px ops j with
   |some d=>some ⟨o.dst,o.op,some (d,want)⟩
   |none=>none
 else none
def je(n:Nat)(ops:Array Oper):List Oper->Option (List bw)
 |[]=>some []
 |o::l=>match Er n ops o,je n ops l with
  |some x,some xs=>some (x::xs)
  |_,_=>none
def tmpsOf(o:bw):List Nat:=(o.op.operands.toList.filterMap fun| .tmp t=>some t|_=>none)++(match o.gd with|some (d,_)=>[d]|none=>[])
def dN(o:bw):List Nat:=tmpsOf o++o.dst.toList
def aZ(ops:Array Oper)(i:Nat):List Nat:=match ops[i]? with|some o=>(o.after.toList.filter (Region.binds .any)).map (·.on)|none=>[]
def bz(l:List bw)(i:Nat):bw:=l.getD i default
inductive IC where
 |skip|ad (l:List bw)|c0 (l:List bw) (pr:List (List Nat))|seq (a b:IC)|cond (c:Operand) (a b:IC)|block (id:Nat) (a:IC)|loop (a:IC)|exit (id:Nat)|ret|bad
 |DL (g:Operand) (ps:List Nat) (a b:IC)
 deriving Inhabited
inductive iu where
 |ret|exit (id:Nat)
def iu.code:iu->Code
 | .ret=> .ret
 | .exit id=> .exit id
def ju(acc:List Nat):List Nat->Nat
 |[]=>0
 |j::ps=>(2^j|||acc.getD j 0)|||ju acc ps
def dA:List (List Nat)->List Nat->List Nat
 |[],acc=>acc
 |ps::l,acc=>dA l (acc++[ju acc ps])
def ox(x y:bw):Bool:=match x.dst with|some d=> !(dN y).contains d|none=>true
def uN(l:List bw)(pr:List (List Nat)):Bool:=
 (List.range l.length).all fun j=>(List.range j).all fun i=>((dA pr []).getD j 0).testBit i||(ox (bz l i) (bz l j)&&ox (bz l j) (bz l i))
def kn(xs ys:List Nat):Bool:=xs.all fun x=> !ys.contains x
def fY(pr:List (List Nat))(fp:List (List Nat×List Nat)):Bool:=
 (List.range fp.length).all fun j=>(List.range j).all fun i=>((dA pr []).getD j 0).testBit i||
  (kn (fp.getD i ([],[])).2 (fp.getD j ([],[])).1&&kn (fp.getD i ([],[])).2 (fp.getD j ([],[])).2&&kn (fp.getD j ([],[])).2 (fp.getD i ([],[])).1)
def eO(ops:Array Oper):List (List Nat):=(List.range ops.size).map (aZ ops)
def L6(pr:List (List Nat)):Bool:=(List.range pr.length).all fun k=>(pr.getD k []).all fun j=>decide (j<k)
theorem qL{acc:List Nat}{i:Nat}:∀ (ps:List Nat),(ju acc ps).testBit i=true->∃j∈ps,i=j\/(acc.getD j 0).testBit i=true
 |[],h=>by simp[ju]at h
 |j::ps,h=>by
  simp only[ju,Nat.testBit_or,Bool.or_eq_true]at h
  rcases h with(h|h)|h
  ·rw[Nat.testBit_two_pow]at h
   exact⟨j,aK, .inl (by have h:=of_decide_eq_true h;exact h.symm)⟩
  ·exact⟨j,aK, .inr h⟩
  ·obtain⟨j',h1,h2⟩:=qL ps h
   exact⟨j',by simp[h1],h2⟩
theorem oz{k:Nat}:∀ (l:List (List Nat)) (acc:List Nat),k<acc.length->(dA l acc).getD k 0=acc.getD k 0
 |[],_,_=>rfl
 |ps::l,acc,h=>by
  rw[dA,oz l _ (by simp;omega)]
  simp[List.getD_eq_getElem?_getD,List.getElem?_append_left h]
theorem oA{i:Nat}:∀ (l:List (List Nat)) (acc:List Nat) (k:Nat),acc.length<=k->(∀k',k'<l.length->∀j∈l.getD k' [],j<acc.length+k')->((dA l acc).getD k 0).testBit i=true->
 ∃j∈l.getD (k - acc.length) [],i=j\/((dA l acc).getD j 0).testBit i=true
 |[],acc,k,hk,_,h=>by
  simp only[dA]at h
  rw[List.getD_eq_getElem?_getD,List.getElem?_eq_none hk]at h
  simp at h
 |ps::l,acc,k,hk,hp,h=>by
  simp only[dA]at h|-
  by_cases he:k=acc.length
  ·subst he
   rw[oz l _ (by simp)]at h
   have e:(acc++[ju acc ps]).getD acc.length 0=ju acc ps:=by simp[List.getD_eq_getElem?_getD]
   rw[e]at h
   obtain⟨j,h1,h2⟩:=qL ps h
   refine⟨j,by simpa using h1,h2.imp id fun h2=> ?_⟩
   have hj:j<acc.length:=by simpa using hp 0 aK j (by simpa using h1)
   rw[oz l _ (by simp;omega)]
   simpa[List.getD_eq_getElem?_getD,List.getElem?_append_left hj]using h2
  ·obtain⟨j,h1,h2⟩:=oA l (acc++[ju acc ps]) k tt (fun k' Jw j hj=>by
    have:=hp (k'+1) tt j ki
    simp;omega) h
   refine⟨j, ?_,h2⟩
   have e:k - acc.length=(k - (acc++[ju acc ps]).length)+1:=by simp;omega
   rw[e];simpa using h1
theorem mV{pr:List (List Nat)}(hp:∀k,k<pr.length->∀j∈pr.getD k [],j<k){E:Nat->Bool}(hE:∀k,k<pr.length->E k=true->∀j∈pr.getD k [],E j=true):
 ∀k,k<pr.length->(∀j∈pr.getD k [],E j=true)->∀i,((dA pr []).getD k 0).testBit i=true->E i=true:=by
 intro k
 induction k using Nat.strongRecOn with
 |ind k ih=>
  intro hk hj i hi
  obtain⟨j,h1,h2⟩:=oA pr [] k aK (fun k' Jw j hj=>by simpa using hp k' Jw j hj) hi
  simp only[List.length_nil,Nat.sub_zero]at h1
  rcases h2 with rfl|h2
  ·exact hj _ h1
  ·have Jx:=hp k hk j h1
   exact ih j Jx af (hE j af (hj j h1)) i h2
theorem wR{pr:List (List Nat)}(hp:∀k,k<pr.length->∀j∈pr.getD k [],j<k):∀k,k<pr.length->∀i,((dA pr []).getD k 0).testBit i=true->i<k:=by
 intro k
 induction k using Nat.strongRecOn with
 |ind k ih=>
  intro hk i hi
  obtain⟨j,h1,h2⟩:=oA pr [] k aK (fun k' Jw j hj=>by simpa using hp k' Jw j hj) hi
  simp only[List.length_nil,Nat.sub_zero]at h1
  have Jx:=hp k hk j h1
  rcases h2 with rfl|h2
  ·exact Jx
  ·have:=ih j Jx af i h2;omega
def low(n:Nat):Code->IC
 | .skip=> .skip
 | .label _=> .skip
 | .scope c=>low n c
 | .region _ ops false=>match je n ops ops.toList with
   |some l=> .ad l
   |none=> .bad
 | .region _ ops true=>match je n ops ops.toList with
   |some l=>if uN l (eO ops)&&L6 (eO ops)then .c0 l (eO ops)else .bad
   |none=> .bad
 | .seq a b=> .seq (low n a) (low n b)
 | .cond c a b=> .cond c (low n a) (low n b)
 | .block id a=> .block id (low n a)
 | .loop a=> .loop (low n a)
 | .exit id=> .exit id
 | .ret=> .ret
 | .rangeFunc g ps a b=> .DL g ps.toList (low n a) (low n b)
 |_=> .bad
section
inductive D where
 |int (k:IntKind) (n:Int)|bool (b:Bool)|str (s:List UInt8)
 |e9|j6|bK|eJ
 |agg (cs:List D)|sl (es:List D)|iface (t:TypeId) (d:D)
 |mp (ks vs:List D)
 deriving Inhabited
def Flat(vs:List Value):Prop:=∀u∈vs,u.oneCell'=true
def eP(B:Nat->Prop)(w:World)(a:Addr)(cs:Array Value):Prop:=∀j u,cs[j]? =some u->w.cell? (a.add j)=some u/\ ¬B a.block
def fN(es:Array MapEntry)(clock:Nat):Prop:=(∀e∈es.toList,e.born<clock)/\(es.toList.map (·.born)).Nodup
def uO(ks:List D):Prop:=ks.Nodup/\∀k∈ks,∃n,k= .int .i64 n
mutual
def D.den (B:Nat->Prop)(w:World):D->Value->Prop
 | .int k n,v=>v= .int k n
 | .bool b,v=>v= .bool b
 | .str l,v=>∃s:ByteArray,v= .string s/\s.data.toList=l
 | .e9,v=>v= .nilIface
 | .j6,v=>v= .pointer none
 | .bK,v=>v= .nilFunc
 | .eJ,v=>v= .map none
 | .agg cs,v=>∃a,v= .agg a/\D.az B w cs a.toList/\Flat a.toList
 | .sl es,v=>∃base len cap,v= .slice base len cap/\len=es.length/\len<=cap/\(base=none->cap=0)/\
  ∃sz,∀a,base=some a->(cap≠0->a.spot=none)/\D.elems B w sz a 0 es
 | .iface t d,v=>∃u,v= .iface t u/\D.den B w d u
 | .mp ks vs,v=>∃m es clock p,v= .map (some m)/\w.heap[m]? =some (.map es clock)/\ ¬B m/\fN es clock/\(p=es.toList\/(p.Perm es.toList/\uO ks))/\D.az B w ks (p.map (·.key))/\D.az B w vs (p.map (·.val))
def D.az (B:Nat->Prop)(w:World):List D->List Value->Prop
 |[],vs=>vs=[]
 |d::ds,vs=>∃u us,vs=u::us/\D.den B w d u/\D.az B w ds us
def D.elems (B:Nat->Prop)(w:World)(sz:Nat)(a:Addr):Nat->List D->Prop
 |_,[]=>True
 |i,e::es=>(∃ev:Value,ev.cells.size=sz/\eP B w (a.add (i*sz)) ev.cells/\D.den B w e ev)/\D.elems B w sz a (i+1) es
end
inductive V where
 |d (x:D)|a8|agg (cs:List V)|bC (vs:List V)
 |ptr (id off:Nat)|osl (id ep:Nat)|pe (id ep i sz off:Nat)|pp (cs:List D) (off:Nat)
 |func (fn:Fn) (first cap:List V)|iface (t:TypeId) (x:V)
 |ab
 |oj (es:List D)|tu (id off n:Nat)|mp (id:Nat)|ek|jc (id:Nat)
 deriving Inhabited
inductive aa where
 |no|row (cs:List V)|arr (ep:Nat) (ty:TypeId) (sz:Nat) (es:List D)|qo (ep:Nat) (es:List D)
 |map (kt vt:TypeId) (es:List (D×D))
 |loop (nf n:Nat) (env:List V) (ps:List Nat) (a b:IC) (st:LoopState) (Cq:Option iu)
 |cO (es:List (D×D))|oB (es:List (D×D)) (last:Option (D×D))|uP (s:List UInt8) (pos:Nat)
 deriving Inhabited
def bc(l:List V):Nat->V:=fun i=>l.getD i .ab
structure Hp where
 o:Nat->aa
 us:Nat->Prop
def aa.bL:aa->Option Nat
 | .arr ep _ _ _| .qo ep _=>some ep
 |_=>none
def aa.bI:aa->Bool
 | .row _| .map .. | .loop .. | .cO _| .oB .. | .uP .. =>true
 |_=>false
def aa.live:aa->Bool
 | .row _| .arr .. | .map .. | .loop .. | .oB .. | .uP .. =>true
 |_=>false
def dK:Value->Option Nat
 | .pointer (some a)| .slice (some a) _ _=>some a.block
 | .map (some b)=>some b
 |_=>none
abbrev Place:=Nat->Value
def cu(φ:Place)(H:Hp)(b:Nat):Prop:=∃id,(H.o id).live=true/\dK (φ id)=some b
def ai(M:Nat->Prop)(φ:Place)(H:Hp)(b:Nat):Prop:=M b\/cu φ H b
mutual
def V.den (B:Nat->Prop)(φ:Place)(H:Hp)(w:World):V->Value->Prop
 | .d x,v=>D.den B w x v
 | .a8,v=>v= .slice none 0 0
 | .agg cs,v=>∃a,v= .agg a/\V.az B φ H w cs a.toList/\Flat a.toList
 | .bC vs,v=>∃a,v= .tuple a/\V.az B φ H w vs a.toList
 | .ptr id off,v=>v.oneCell'=true/\H.us id/\((H.o id).bI=true->∃b,φ id= .pointer (some ⟨b,0,none⟩)/\v= .pointer (some ⟨b,off,none⟩))
 | .osl id ep,v=>v.oneCell'=true/\H.us id/\∀e,(H.o id).bL=some e->ep<=e/\(ep=e->v=φ id)
 | .pe id ep i sz off,v=>v.oneCell'=true/\H.us id/\∀e,(H.o id).bL=some e->ep<=e/\(ep=e->∃b n c,φ id= .slice (some ⟨b,0,none⟩) n c/\v= .pointer (some ⟨b,i*sz+off,none⟩))
 | .pp cs off,v=>∃a ev,a.spot=none/\v= .pointer (some (a.add off))/\D.az B w cs ev/\Flat ev/\eP B w a ev.toArray
 | .func fn first cap,v=>∃f c,v= .func fn f c/\V.az B φ H w first f.toList/\V.az B φ H w cap c.toList
 | .iface t x,v=>∃u,v= .iface t u/\V.den B φ H w x u
 | .ab,_=>True
 | .oj es,v=>D.den B w (.sl es) v/\∃base n,v= .slice base n n
 | .tu id off n,v=>v.oneCell'=true/\H.us id/\((H.o id).bI=true->∃b,φ id= .pointer (some ⟨b,0,none⟩)/\v= .slice (some ⟨b,off,none⟩) n n)
 | .mp id,v=>v.oneCell'=true/\H.us id/\((H.o id).bI=true->v=φ id)
 | .ek,v=>∃b,v= .bool b
 | .jc id,v=>v.oneCell'=true/\H.us id/\((H.o id).bI=true->∃b,φ id= .pointer (some ⟨b,0,none⟩)/\v= .func (.yield b) #[] #[])
def V.az (B:Nat->Prop)(φ:Place)(H:Hp)(w:World):List V->List Value->Prop
 |[],vs=>vs=[]
 |x::xs,vs=>∃u us,vs=u::us/\V.den B φ H w x u/\V.az B φ H w xs us
end
def dF(B:Nat->Prop)(w:World)(sz:Nat)(es:List D)(xs:List Value):Prop:=
 ∃evs:List Value,xs=evs.flatMap (·.cells.toList)/\(∀ev∈evs,ev.cells.size=sz)/\D.az B w es evs
def aB(B:Nat->Prop)(w:World):List (D×D)->List MapEntry->Prop
 |[],es=>es=[]
 |(k,x)::l,es=>∃e es',es=e::es'/\D.den B w k e.key/\D.den B w x e.val/\aB B w l es'
def uQ(B:Nat->Prop)(w:World)(l:List (D×D))(last:Option (D×D))(b:Nat):Prop:=
 w.heap[b]? =some (.mapIter none 0 #[] 0)/\l=[]/\last=none\/
 ∃m since seen es,w.heap[b]? =some (.mapIter (some m) since seen since)/\w.heap[m]? =some (.map es since)/\ ¬B m/\fN es since/\(∃l',l'.Perm l/\aB B w l' (es.toList.filter fun e=> !seen.contains e.born))/\
  ∀k x,last=some (k,x)->∃e∈es.toList,seen.back?=some e.born/\D.den B w k e.key/\D.den B w x e.val
def iQ(B:Nat->Prop)(w:World)(l:List (D×D))(v:Value):Prop:=
 ∃b es clock,v= .map (some b)/\w.heap[b]? =some (.map es clock)/\ ¬B b/\fN es clock/\aB B w l es.toList
def aF(M:Nat->Prop)(φ:Place)(H:Hp)(w:World)(id:Nat):Prop:=
 match H.o id with
 | .no=>True
 | .row cs=>∃b da ty,φ id= .pointer (some ⟨b,0,none⟩)/\w.heap[b]? =some (.cells da ty (0,0))/\V.az (ai M φ H) φ H w cs da.toList/\Flat da.toList
 | .arr _ ty sz es=>0<sz/\∃xs,w.ownsRow 0 ty sz (φ id) es.length xs/\dF (ai M φ H) w sz es xs
 | .qo _ es=>D.den (ai M φ H) w (.sl es) (φ id)
 | .loop nf n env ps iR eL st Cq=>∃b r,φ id= .pointer (some ⟨b,0,none⟩)/\w.heap[b]? =some (.loop r)/\r.fn<nf/\r.state=st/\r.pending=Cq.map iu.code/\r.params.toList=ps/\r.tmps.size=n/\low n r.assign=iR/\low n r.body=eL/\
  ∀i,V.den (ai M φ H) φ H w (bc env i) (r.tmps.getD i undef)
 | .map _ _ l=>∃b es clock,φ id= .map (some b)/\w.heap[b]? =some (.map es clock)/\fN es clock/\aB (ai M φ H) w l es.toList
 | .cO l=>iQ (ai M φ H) w l (φ id)
 | .oB l last=>∃b,φ id= .pointer (some ⟨b,0,none⟩)/\uQ (ai M φ H) w l last b
 | .uP s pos=>∃b,φ id= .pointer (some ⟨b,0,none⟩)/\w.heap[b]? =some (.stringIter ⟨⟨s⟩⟩ pos)
structure ao (M:Nat->Prop) (φ:Place) (H:Hp) (w:World):Prop where
 ok:∀id,aF M φ H w id
 fresh:∀id, ¬H.us id->H.o id= .no
 apart:∀i j b,(H.o i).live=true->(H.o j).live=true->dK (φ i)=some b->dK (φ j)=some b->i=j
 ours:∀b,cu φ H b-> ¬M b/\b<w.heap.size
 wA:∀b,M b->b<w.heap.size
structure dy (m:Nat->Prop) (w w':World):Prop where
 os:w'.os=w.os
 tape:w'.tape=w.tape
 output:w'.output=w.output
 size:w.heap.size<=w'.heap.size
 block:∀k,k<w.heap.size-> ¬m k->w'.heap[k]? =w.heap[k]?
structure db (φ:Place) (H:Hp) (aA:Place) (H':Hp):Prop where
 us:∀id,H.us id->H'.us id
 row:∀id,H.us id->(H'.o id).bI=true->(H.o id).bI=true/\aA id=φ id
 ep:∀id e',H.us id->(H'.o id).bL=some e'->∃e,(H.o id).bL=some e/\e<=e'/\(e=e'->aA id=φ id)
structure Trans (φ:Place) (H:Hp) (w:World) (aA:Place) (H':Hp) (w':World):Prop where
 keep:dy (cu φ H) w w'
 grow:∀b,cu aA H' b->cu φ H b\/w.heap.size<=b
 rel:db φ H aA H'
theorem dy.refl (m:Nat->Prop)(w:World):dy m w w:=⟨rfl,rfl,rfl,Nat.le_refl _,fun _ _ _=>rfl⟩
theorem db.refl (φ:Place)(H:Hp):db φ H φ H:=⟨fun _ h=>h,fun _ _ h=>⟨h,rfl⟩,fun _ e' _ h=>⟨e',h,Nat.le_refl _,fun _=>rfl⟩⟩
theorem Trans.refl (φ:Place)(H:Hp)(w:World):Trans φ H w φ H w:=⟨dy.refl _ _,fun _ h=> .inl h,db.refl _ _⟩
theorem db.trans {φ aA zi:Place}{H H' RZ:Hp}(h:db φ H aA H')(k:db aA H' zi RZ):db φ H zi RZ where
 us id aq:=k.us id (h.us id aq)
 row id aq hr:=by
  obtain⟨a,b⟩:=k.row id (h.us id aq) hr
  obtain⟨c,d⟩:=h.row id aq a
  exact⟨c,b.trans d⟩
 ep id e' aq he:=by
  obtain⟨e,h1,h2,h3⟩:=k.ep id e' (h.us id aq) he
  obtain⟨e0,g1,g2,g3⟩:=h.ep id e aq h1
  refine⟨e0,g1,Nat.le_trans g2 h2,fun heq=> ?_⟩
  have a:e0=e:=af
  have b:e=e':=af
  exact(h3 b).trans (g3 a)
theorem Trans.trans {φ aA zi:Place}{H H' RZ:Hp}{w w' LO:World}(h:Trans φ H w aA H' w')(k:Trans aA H' w' zi RZ LO):Trans φ H w zi RZ LO where
 keep:={
  os:=k.keep.os.trans h.keep.os
  tape:=k.keep.tape.trans h.keep.tape
  output:=k.keep.output.trans h.keep.output
  size:=Nat.le_trans h.keep.size k.keep.size
  block:=fun b hb hm=>by
   rw[k.keep.block b (Nat.lt_of_lt_of_le hb h.keep.size) (fun hl=>by
    rcases h.grow b hl with h1|h1
    ·exact hm h1
    ·omega),h.keep.block b hb hm]}
 grow b hl:=by
  rcases k.grow b hl with h1|h1
  ·exact h.grow b h1
  ·exact .inr (Nat.le_trans h.keep.size h1)
 rel:=h.rel.trans k.rel
@[simp] theorem O9 (a:Addr) (j:Nat):(a.add j).block=a.block:=by unfold Addr.add;split<;>rfl
def mW(w:World)(b:Nat):Prop:=∃cs ty fz,w.heap[b]? =some (.cells cs ty fz)
def cg(w:World)(b:Nat):Prop:=mW w b\/∃es clock,w.heap[b]? =some (.map es clock)
theorem cg.lt {w:World}{b:Nat}(h:cg w b):b<w.heap.size:=by
 rcases Nat.lt_or_ge b w.heap.size with hl|hl
 ·exact hl
 ·rcases h with⟨cs,ty,fz,h⟩|⟨es,clock,h⟩
  ·rw[Array.getElem?_eq_none hl]at h;cases h
  ·rw[Array.getElem?_eq_none hl]at h;cases h
theorem lU{w:World}{a:Addr}{u:Value}(h:w.cell? a=some u):mW w a.block:=by
 unfold World.cell? at h
 split at h
 ·exact⟨_,_,_,by assumption⟩
 ·cases h
theorem qa{w:World}{a:Addr}{u:Value}(h:w.cell? a=some u):cg w a.block:= .inl (lU h)
theorem eP.mono {B B':Nat->Prop}{w w':World}{a:Addr}{cs:Array Value}
 (hb:∀b,cg w b-> ¬B b->w'.heap[b]? =w.heap[b]? /\ ¬B' b) (h:eP B w a cs):eP B' w' a cs:=by
 intro j u hj
 obtain⟨h1,h2⟩:=h j u hj
 have bQ:cg w a.block:=by simpa using qa h1
 exact Rs
mutual
theorem D.aG {B B':Nat->Prop}{w w':World}(hb:∀b,cg w b-> ¬B b->w'.heap[b]? =w.heap[b]? /\ ¬B' b):
 ∀ (x:D) (v:Value),D.den B w x v->D.den B' w' x v
 | .int _ _,_,h| .bool _,_,h| .str _,_,h| .e9,_,h| .j6,_,h| .bK,_,h| .eJ,_,h=>by simpa[D.den]using h
 | .agg cs,_,h=>by
   obtain⟨a,rfl,h,hf⟩:=h
   exact⟨a,rfl,D.aI hb cs _ h,hf⟩
 | .sl es,_,h=>by
   obtain⟨base,len,cap,rfl,h1,h2,h3,sz,h4⟩:=h
   exact⟨base,len,cap,rfl,h1,h2,h3,sz,fun a ha=>⟨(h4 a ha).1,D.qM hb sz a es 0 (h4 a ha).2⟩⟩
 | .iface t d,_,h=>by
   obtain⟨u,rfl,h⟩:=h
   exact⟨u,rfl,D.aG hb d u h⟩
 | .mp ks vs,_,h=>by
   obtain⟨m,es,clock,p,rfl,h1,h2,h3,hp,h4,h5⟩:=h
   obtain⟨k1,k2⟩:=hb m (.inr ⟨es,clock,h1⟩) h2
   exact⟨m,es,clock,p,rfl,k1.trans h1,k2,h3,hp,D.aI hb ks _ h4,D.aI hb vs _ h5⟩
theorem D.aI {B B':Nat->Prop}{w w':World}(hb:∀b,cg w b-> ¬B b->w'.heap[b]? =w.heap[b]? /\ ¬B' b):
 ∀ (ds:List D) (vs:List Value),D.az B w ds vs->D.az B' w' ds vs
 |[],_,h=>h
 |d::ds,_,h=>by
  obtain⟨u,us,rfl,h1,h2⟩:=h
  exact⟨u,us,rfl,D.aG hb d u h1,D.aI hb ds us h2⟩
theorem D.qM {B B':Nat->Prop}{w w':World}(hb:∀b,cg w b-> ¬B b->w'.heap[b]? =w.heap[b]? /\ ¬B' b)(sz:Nat)(a:Addr):
 ∀ (es:List D) (i:Nat),D.elems B w sz a i es->D.elems B' w' sz a i es
 |[],_,_=>trivial
 |e::es,i,h=>by
  obtain⟨⟨ev,h1,h2,h3⟩,h4⟩:=h
  exact⟨⟨ev,h1,h2.mono hb,D.aG hb e ev h3⟩,D.qM hb sz a es (i+1) h4⟩
end
theorem aB.mono {B B':Nat->Prop}{w w':World}(hb:∀b,cg w b-> ¬B b->w'.heap[b]? =w.heap[b]? /\ ¬B' b):
 ∀ (l:List (D×D)) (es:List MapEntry),aB B w l es->aB B' w' l es
 |[],_,h=>h
 |(k,x)::l,_,h=>by
  obtain⟨e,es,rfl,h1,h2,h3⟩:=h
  exact⟨e,es,rfl,D.aG hb k _ h1,D.aG hb x _ h2,aB.mono hb l es h3⟩
theorem uQ.mono {B B':Nat->Prop}{w w':World}(hb:∀b,cg w b-> ¬B b->w'.heap[b]? =w.heap[b]? /\ ¬B' b){l:List (D×D)}{last:Option (D×D)}{b:Nat}(ZU:w'.heap[b]? =w.heap[b]?)(h:uQ B w l last b):uQ B' w' l last b:=by
 rcases h with⟨h1,h2⟩|⟨m,since,seen,es,h1,h2,h3,h4,h5,h6⟩
 ·exact .inl ⟨ZU.trans h1,h2⟩
 ·obtain⟨k1,k2⟩:=hb m (.inr ⟨es,since,h2⟩) h3
  obtain⟨l',h5,DM⟩:=h5
  refine .inr ⟨m,since,seen,es,ZU.trans h1,k1.trans h2,k2,h4,⟨l',h5,aB.mono hb l' _ DM⟩,fun k x e=> ?_⟩
  obtain⟨e,g1,g2,g3,g4⟩:=h6 k x e
  exact⟨e,g1,g2,D.aG hb k _ g3,D.aG hb x _ g4⟩
theorem jf{B:Nat->Prop}{w:World}:∀ (l:List (D×D)) (es:List MapEntry),aB B w l es↔D.az B w (l.map (·.1)) (es.map (·.key))/\D.az B w (l.map (·.2)) (es.map (·.val))
 |[],es=>by
  simp only[aB,List.map_nil,D.az]
  constructor
  ·rintro rfl;exact⟨rfl,rfl⟩
  ·rintro⟨h,_⟩;simpa using h
 |(k,x)::l,es=>by
  simp only[aB,List.map_cons,D.az]
  constructor
  ·rintro⟨e,es',rfl,h1,h2,h3⟩
   obtain⟨g1,g2⟩:=(jf l es').1 h3
   exact⟨⟨_,_,rfl,h1,g1⟩,⟨_,_,rfl,h2,g2⟩⟩
  ·rintro⟨⟨u,us,h1,h2,h3⟩,⟨v,vs,h4,h5,h6⟩⟩
   cases es with
   |nil=>simp at h1
   |cons e es'=>
    simp only[List.map_cons,List.cons.injEq]at h1 h4
    obtain⟨rfl,rfl⟩:=h1
    obtain⟨rfl,rfl⟩:=h4
    exact⟨e,es',rfl,h2,h5,(jf l es').2 ⟨h3,h6⟩⟩
theorem iQ.den {B:Nat->Prop}{w:World}{l:List (D×D)}{v:Value}(h:iQ B w l v):D.den B w (.mp (l.map (·.1)) (l.map (·.2))) v:=by
 obtain⟨b,es,clock,h1,h2,h3,h4,h5⟩:=h
 obtain⟨h6,h7⟩:=(jf _ _).1 h5
 exact⟨b,es,clock,es.toList,h1,h2,h3,h4, .inl rfl,h6,h7⟩
theorem iQ.mono {B B':Nat->Prop}{w w':World}(hb:∀b,cg w b-> ¬B b->w'.heap[b]? =w.heap[b]? /\ ¬B' b){l:List (D×D)}{v:Value}(h:iQ B w l v):iQ B' w' l v:=by
 obtain⟨b,es,clock,h1,h2,h3,h4,h5⟩:=h
 obtain⟨k1,k2⟩:=hb b (.inr ⟨es,clock,h2⟩) h3
 exact⟨b,es,clock,h1,k1.trans h2,k2,h4,aB.mono hb l _ h5⟩
theorem D.au {B:Nat->Prop}{w:World}:∀ (ds:List D) (vs:List Value),D.az B w ds vs->vs.length=ds.length
 |[],_,h=>by simp[D.az]at h;simp[h]
 |d::ds,_,h=>by obtain⟨u,us,rfl,_,h2⟩:=h;simp[D.au ds us h2]
theorem D.cF {B:Nat->Prop}{w:World}:∀ (ds:List D) (vs:List Value) (i:Nat) (d:D),D.az B w ds vs->ds[i]? =some d->∃v,vs[i]? =some v/\D.den B w d v
 |[],_,_,_,_,hd=>by simp at hd
 |d::ds,_,0,x,h,hd=>by
  exact Jr
 |d::ds,_,i+1,x,h,hd=>by
  obtain⟨u,us,rfl,_,h2⟩:=h
  simpa using D.cF ds us i x h2 (by simpa using hd)
theorem D.tv {B:Nat->Prop}{w:World}{sz:Nat}{a:Addr}:∀ (es:List D) (i j:Nat) (e:D),D.elems B w sz a i es->es[j]? =some e->
 ∃ev:Value,ev.cells.size=sz/\eP B w (a.add ((i+j)*sz)) ev.cells/\D.den B w e ev
 |[],_,_,_,_,hd=>by simp at hd
 |e::es,i,0,x,h,hd=>by
  simp at hd;subst hd;simpa using h.1
 |e::es,i,j+1,x,h,hd=>by
  have:=D.tv es (i+1) j x h.2 (by simpa using hd)
  simpa[Nat.add_assoc,Nat.add_comm 1 j]using this
section
variable {M:Nat->Prop}{φ aA:Place}{H H':Hp}{w w':World}
theorem Trans.blocks (ht:Trans φ H w aA H' w')(b:Nat)(hc:cg w b)(h: ¬ai M φ H b):w'.heap[b]? =w.heap[b]? /\ ¬ai M aA H' b:=by
 have hb:=hc.lt
 refine⟨ht.keep.block b hb fun hl=>h (.inr hl), ?_⟩
 rintro(h1|h1)
 ·exact h (.inl h1)
 ·rcases ht.grow b h1 with h2|h2
  ·exact h (.inr h2)
  ·omega
mutual
theorem V.jg (hb:∀b,cg w b-> ¬ai M φ H b->w'.heap[b]? =w.heap[b]? /\ ¬ai M aA H' b)(hr:db φ H aA H'):∀ (x:V) (v:Value),V.den (ai M φ H) φ H w x v->V.den (ai M aA H') aA H' w' x v
 | .d x,v,h=>D.aG hb x v h
 | .a8,_,h=>h
 | .ab,_,_=>trivial
 | .oj es,v,h=>⟨D.aG hb (.sl es) v h.1,h.2⟩
 | .tu id off n,v,h=>by
   exact Xa
 | .mp id,v,h=>by
   obtain⟨h0,h1,h2⟩:=h
   refine⟨h0,hr.us id h1,fun cn=> ?_⟩
   obtain⟨h3,h4⟩:=hr.row id h1 cn
   exact(h2 h3).trans h4.symm
 | .ek,v,h=>h
 | .jc id,v,h=>by
   exact Xa
 | .agg cs,_,h=>by obtain⟨a,rfl,h,hf⟩:=h;exact⟨a,rfl,V.eo hb hr cs _ h,hf⟩
 | .bC cs,_,h=>by obtain⟨a,rfl,h⟩:=h;exact⟨a,rfl,V.eo hb hr cs _ h⟩
 | .ptr id off,v,h=>by
   exact Xa
 | .osl id ep,v,h=>by
   exact Rm
 | .pe id ep i sz off,v,h=>by
   exact Rm
 | .pp cs off,v,h=>by
   obtain⟨a,ev,h1,h2,h3,h5,h4⟩:=h
   exact⟨a,ev,h1,h2,D.aI hb cs ev h3,h5,h4.mono hb⟩
 | .func fn first cap,_,h=>by
   obtain⟨f,c,rfl,h1,h2⟩:=h
   exact⟨f,c,rfl,V.eo hb hr first _ h1,V.eo hb hr cap _ h2⟩
 | .iface t x,_,h=>by obtain⟨u,rfl,h⟩:=h;exact⟨u,rfl,V.jg hb hr x u h⟩
theorem V.eo (hb:∀b,cg w b-> ¬ai M φ H b->w'.heap[b]? =w.heap[b]? /\ ¬ai M aA H' b)(hr:db φ H aA H'):∀ (ds:List V) (vs:List Value),V.az (ai M φ H) φ H w ds vs->V.az (ai M aA H') aA H' w' ds vs
 |[],_,h=>h
 |x::xs,_,h=>by
  obtain⟨u,us,rfl,h1,h2⟩:=h
  exact⟨u,us,rfl,V.jg hb hr x u h1,V.eo hb hr xs us h2⟩
end
theorem V.aG (ht:Trans φ H w aA H' w')(x:V)(v:Value)(h:V.den (ai M φ H) φ H w x v):V.den (ai M aA H') aA H' w' x v:=V.jg ht.blocks ht.rel x v h
theorem V.aI (ht:Trans φ H w aA H' w')(ds:List V)(vs:List Value)(h:V.az (ai M φ H) φ H w ds vs):V.az (ai M aA H') aA H' w' ds vs:=V.eo ht.blocks ht.rel ds vs h
end
end
end Go.Proofs.YtlhemmpklhhgoaaGreat
