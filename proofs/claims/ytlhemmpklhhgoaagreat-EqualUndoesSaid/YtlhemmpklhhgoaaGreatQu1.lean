/-
  A PART OF THE PROOF. Conditions: none.
-/
import Derived.WalkKit
import Derived.Below
set_option linter.unusedSimpArgs false
set_option linter.unusedVariables false
namespace Go.Proofs.YtlhemmpklhhgoaaGreat
theorem cS{G G':Prop}(g:G')(h:G=G':=by simp+contextual (disch:=first|omega|simp only[go_sem,false_implies]) only[go_sem,wrap64,if_pos,and_self]<;>rfl):G:=Eq.mpr h g
theorem fM{G G':Prop}(g:G')(h:G=G':=by simp+contextual (disch:=first|omega|simp only[go_sem,false_implies]) only[go_sem,wrap64,if_pos,Nat.add_assoc,Nat.left_eq_add,Nat.add_eq_left,Nat.add_left_cancel_iff]<;>rfl):G:=Eq.mpr h g
theorem pV{G:Prop}(h:G:=by simp+contextual (disch:=first|omega|simp only[go_sem,false_implies]) only[go_sem,wrap64,if_pos,and_self]):G:=h
theorem pW{P0 G G':Prop}(p0:P0)(g:G')(h:P0->G=G':=by intro p0;simp+contextual (disch:=first|omega|simp only[go_sem,false_implies]) only[go_sem,wrap64,if_pos,List.length_map,p0]<;>rfl):G:=Eq.mpr (h p0) g
theorem oz{P0 G G':Prop}(p0:P0)(g:G')(h:P0->G=G':=by intro p0;simp+contextual (disch:=first|omega|simp only[go_sem,false_implies]) only[go_sem,wrap64,if_pos,p0]<;>rfl):G:=Eq.mpr (h p0) g
theorem A4{P0 P1 P2 P3 G G':Prop}(p0:P0)(p1:P1)(p2:P2)(p3:P3)(g:G')(h:P0->P1->P2->P3->G=G':=by intro p0 p1 p2 p3;simp+contextual (disch:=first|omega|simp only[go_sem,false_implies]) only[go_sem,wrap64,if_pos,Nat.add_assoc,Nat.left_eq_add,Nat.add_eq_left,Nat.add_left_cancel_iff,p0,p1,p2,p3]<;>rfl):G:=Eq.mpr (h p0 p1 p2 p3) g
theorem yO{G G':Prop}(g:G')(h:G=G':=by simp+contextual (disch:=first|omega|simp only[go_sem,false_implies]) only[go_sem,wrap64,if_pos,List.length_map]<;>rfl):G:=Eq.mpr h g
theorem Jf{P0 G G':Prop}(p0:P0)(g:G')(h:P0->G=G':=by intro p0;simp+contextual (disch:=first|omega|simp only[go_sem,false_implies]) only[go_sem,wrap64,if_pos,Nat.add_assoc,Nat.left_eq_add,Nat.add_eq_left,Nat.add_left_cancel_iff,p0]<;>rfl):G:=Eq.mpr (h p0) g
theorem cM{G G':Prop}(g:G')(h:G=G':=by simp+contextual only[go_sem]<;>rfl):G:=Eq.mpr h g
theorem DF{P0 P1 P2 P3 G G':Prop}(p0:P0)(p1:P1)(p2:P2)(p3:P3)(g:G')(h:P0->P1->P2->P3->G=G':=by intro p0 p1 p2 p3;simp+contextual (disch:=first|omega|simp only[go_sem,false_implies]) only[go_sem,wrap64,if_pos,List.length_map,p0,p1,p2,p3]<;>rfl):G:=Eq.mpr (h p0 p1 p2 p3) g
theorem Hl{P0 P1 G G':Prop}(p0:P0)(p1:P1)(g:G')(h:P0->P1->G=G':=by intro p0 p1;simp+contextual (disch:=first|omega|simp only[go_sem,false_implies]) only[go_sem,wrap64,if_pos,hp,Nat.add_assoc,Nat.left_eq_add,Nat.add_eq_left,Nat.add_left_cancel_iff,p0,p1]<;>rfl):G:=Eq.mpr (h p0 p1) g
theorem A5{P0 P1 P2 P3 G G':Prop}(p0:P0)(p1:P1)(p2:P2)(p3:P3)(g:G')(h:P0->P1->P2->P3->G=G':=by intro p0 p1 p2 p3;simp+contextual (disch:=first|omega|simp only[go_sem,false_implies]) only[go_sem,wrap64,if_pos,List.length_map,Nat.add_assoc,Nat.left_eq_add,Nat.add_eq_left,Nat.add_left_cancel_iff,p0,p1,p2,p3]<;>rfl):G:=Eq.mpr (h p0 p1 p2 p3) g
theorem DG{P0 P1 P2 P3 P4 P5 P6 G G':Prop}(p0:P0)(p1:P1)(p2:P2)(p3:P3)(p4:P4)(p5:P5)(p6:P6)(g:G')(h:P0->P1->P2->P3->P4->P5->P6->G=G':=by intro p0 p1 p2 p3 p4 p5 p6;simp+contextual (disch:=first|omega|simp only[go_sem,false_implies]) only[go_sem,wrap64,if_pos,Nat.add_assoc,Nat.left_eq_add,Nat.add_eq_left,Nat.add_left_cancel_iff,p0,p1,p2,p3,p4,p5,p6]<;>rfl):G:=Eq.mpr (h p0 p1 p2 p3 p4 p5 p6) g
theorem DH{P0 P1 P2 P3 P4 G G':Prop}(p0:P0)(p1:P1)(p2:P2)(p3:P3)(p4:P4)(g:G')(h:P0->P1->P2->P3->P4->G=G':=by intro p0 p1 p2 p3 p4;simp+contextual (disch:=first|omega|simp only[go_sem,false_implies]) only[go_sem,wrap64,if_pos,Nat.add_assoc,Nat.left_eq_add,Nat.add_eq_left,Nat.add_left_cancel_iff,p0,p1,p2,p3,p4]<;>rfl):G:=Eq.mpr (h p0 p1 p2 p3 p4) g
theorem Hn{P0 P1 P2 P3 P4 G G':Prop}(p0:P0)(p1:P1)(p2:P2)(p3:P3)(p4:P4)(g:G')(h:P0->P1->P2->P3->P4->G=G':=by intro p0 p1 p2 p3 p4;simp+contextual (disch:=first|omega|simp only[go_sem,false_implies]) only[go_sem,wrap64,if_pos,List.length_map,Nat.add_assoc,Nat.left_eq_add,Nat.add_eq_left,Nat.add_left_cancel_iff,p0,p1,p2,p3,p4]<;>rfl):G:=Eq.mpr (h p0 p1 p2 p3 p4) g
theorem Ho{P0 P1 P2 P3 P4 P5 P6 P7 P8 G G':Prop}(p0:P0)(p1:P1)(p2:P2)(p3:P3)(p4:P4)(p5:P5)(p6:P6)(p7:P7)(p8:P8)(g:G')(h:P0->P1->P2->P3->P4->P5->P6->P7->P8->G=G':=by intro p0 p1 p2 p3 p4 p5 p6 p7 p8;simp+contextual (disch:=first|omega|simp only[go_sem,false_implies]) only[go_sem,wrap64,if_pos,Nat.add_assoc,Nat.left_eq_add,Nat.add_eq_left,Nat.add_left_cancel_iff,p0,p1,p2,p3,p4,p5,p6,p7,p8]<;>rfl):G:=Eq.mpr (h p0 p1 p2 p3 p4 p5 p6 p7 p8) g
theorem wM{P0 P1 P2 G G':Prop}(p0:P0)(p1:P1)(p2:P2)(g:G')(h:P0->P1->P2->G=G':=by intro p0 p1 p2;simp+contextual (disch:=first|omega|simp only[go_sem,false_implies]) only[go_sem,wrap64,if_pos,p0,p1,p2]<;>rfl):G:=Eq.mpr (h p0 p1 p2) g
theorem Jx{G G':Prop}(g:G')(h:G=G':=by simp+contextual (disch:=first|omega|simp only[go_sem,false_implies]) only[go_sem,wrap64,if_pos,Nat.add_assoc,Nat.left_eq_add,Nat.add_eq_left,Nat.add_left_cancel_iff,List.length_map]<;>rfl):G:=Eq.mpr h g
theorem yP{P0 G:Prop}(p0:P0)(h:P0->G:=by intro p0;simp+contextual (disch:=first|omega|simp only[go_sem,false_implies]) only[go_sem,wrap64,if_pos,p0]):G:=h p0
theorem Jy{P0 P1 G G':Prop}(p0:P0)(p1:P1)(g:G')(h:P0->P1->G=G':=by intro p0 p1;simp+contextual (disch:=first|omega|simp only[go_sem,false_implies]) only[go_sem,wrap64,if_pos,Nat.add_assoc,Nat.left_eq_add,Nat.add_eq_left,Nat.add_left_cancel_iff,p0,p1]<;>rfl):G:=Eq.mpr (h p0 p1) g
theorem DI{P0 P1 G G':Prop}(p0:P0)(p1:P1)(g:G')(h:P0->P1->G=G':=by intro p0 p1;simp+contextual (disch:=first|omega|simp only[go_sem,false_implies]) only[go_sem,wrap64,if_pos,List.length_map,p0,p1]<;>rfl):G:=Eq.mpr (h p0 p1) g
theorem Ns{P0 P1 P2 P3 P4 P5 P6 G:Prop}(p0:P0)(p1:P1)(p2:P2)(p3:P3)(p4:P4)(p5:P5)(p6:P6)(h:P0->P1->P2->P3->P4->P5->P6->G:=by intro p0 p1 p2 p3 p4 p5 p6;simp+contextual (disch:=first|omega|simp only[go_sem,false_implies]) only[go_sem,wrap64,if_pos,Nat.add_assoc,Nat.left_eq_add,Nat.add_eq_left,Nat.add_left_cancel_iff,p0,p1,p2,p3,p4,p5,p6]):G:=h p0 p1 p2 p3 p4 p5 p6
theorem Hq{P0 P1 P2 G G':Prop}(p0:P0)(p1:P1)(p2:P2)(g:G')(h:P0->P1->P2->G=G':=by intro p0 p1 p2;simp+contextual (disch:=first|omega|simp only[go_sem,false_implies]) only[go_sem,wrap64,if_pos,List.length_map,p0,p1,p2]<;>rfl):G:=Eq.mpr (h p0 p1 p2) g
theorem Hr{P0 P1 P2 P3 P4 P5 G G':Prop}(p0:P0)(p1:P1)(p2:P2)(p3:P3)(p4:P4)(p5:P5)(g:G')(h:P0->P1->P2->P3->P4->P5->G=G':=by intro p0 p1 p2 p3 p4 p5;simp+contextual (disch:=first|omega|simp only[go_sem,false_implies]) only[go_sem,wrap64,if_pos,p0,p1,p2,p3,p4,p5]<;>rfl):G:=Eq.mpr (h p0 p1 p2 p3 p4 p5) g
theorem Ta{P0 P1 P2 P3 P4 P5 P6 P7 G G':Prop}(p0:P0)(p1:P1)(p2:P2)(p3:P3)(p4:P4)(p5:P5)(p6:P6)(p7:P7)(g:G')(h:P0->P1->P2->P3->P4->P5->P6->P7->G=G':=by intro p0 p1 p2 p3 p4 p5 p6 p7;simp+contextual (disch:=first|omega|simp only[go_sem,false_implies]) only[go_sem,wrap64,if_pos,List.length_map,Nat.add_assoc,Nat.left_eq_add,Nat.add_eq_left,Nat.add_left_cancel_iff,p0,p1,p2,p3,p4,p5,p6,p7]<;>rfl):G:=Eq.mpr (h p0 p1 p2 p3 p4 p5 p6 p7) g
theorem Tb{P0 P1 P2 P3 P4 P5 P6 G G':Prop}(p0:P0)(p1:P1)(p2:P2)(p3:P3)(p4:P4)(p5:P5)(p6:P6)(g:G')(h:P0->P1->P2->P3->P4->P5->P6->G=G':=by intro p0 p1 p2 p3 p4 p5 p6;simp+contextual (disch:=first|omega|simp only[go_sem,false_implies]) only[go_sem,wrap64,if_pos,List.length_map,Nat.add_assoc,Nat.left_eq_add,Nat.add_eq_left,Nat.add_left_cancel_iff,p0,p1,p2,p3,p4,p5,p6]<;>rfl):G:=Eq.mpr (h p0 p1 p2 p3 p4 p5 p6) g
theorem Jz{P0 G:Prop}(p0:P0)(h:P0->G:=by intro p0;simp+contextual (disch:=first|omega|simp only[go_sem,false_implies]) only[go_sem,wrap64,if_pos,List.length_map,p0]):G:=h p0
theorem Tc{P0 P1 P2 P3 P4 G G':Prop}(p0:P0)(p1:P1)(p2:P2)(p3:P3)(p4:P4)(g:G')(h:P0->P1->P2->P3->P4->G=G':=by intro p0 p1 p2 p3 p4;simp+contextual (disch:=first|omega|simp only[go_sem,false_implies]) only[go_sem,wrap64,if_pos,fx,Nat.add_assoc,Nat.left_eq_add,Nat.add_eq_left,Nat.add_left_cancel_iff,p0,p1,p2,p3,p4]<;>rfl):G:=Eq.mpr (h p0 p1 p2 p3 p4) g
theorem Nu{G G':Prop}(g:G')(h:G=G':=by simp+contextual (disch:=first|omega|simp only[go_sem,false_implies]) only[go_sem,wrap64,if_pos,List.length_map,beq_self_eq_true]<;>rfl):G:=Eq.mpr h g
theorem Td{P0 P1 P2 G G':Prop}(p0:P0)(p1:P1)(p2:P2)(g:G')(h:P0->P1->P2->G=G':=by intro p0 p1 p2;simp+contextual (disch:=first|omega|simp only[go_sem,false_implies]) only[go_sem,wrap64,if_pos,Nat.add_assoc,Nat.left_eq_add,Nat.add_eq_left,Nat.add_left_cancel_iff,p0,p1,p2]<;>rfl):G:=Eq.mpr (h p0 p1 p2) g
theorem Te{G:Prop}(h:G:=by simp+contextual (disch:=first|omega|simp only[go_sem,false_implies]) only[go_sem,wrap64,if_pos,Nat.add_assoc,Nat.left_eq_add,Nat.add_eq_left,Nat.add_left_cancel_iff]):G:=h
theorem Yn{P0 P1 P2 P3 G:Prop}(p0:P0)(p1:P1)(p2:P2)(p3:P3)(h:P0->P1->P2->P3->G:=by intro p0 p1 p2 p3;simp+contextual (disch:=first|omega|simp only[go_sem,false_implies]) only[go_sem,wrap64,if_pos,Nat.add_assoc,Nat.left_eq_add,Nat.add_eq_left,Nat.add_left_cancel_iff,List.length_map,eX,p0,p1,p2,p3]):G:=h p0 p1 p2 p3
theorem kz{P0 G G':Prop}(p0:P0)(g:G')(h:P0->G=G':=by intro p0;simp+contextual only[go_sem,p0]<;>rfl):G:=Eq.mpr (h p0) g
theorem Tf{P0 G G':Prop}(p0:P0)(g:G')(h:P0->G=G':=by intro p0;simp+contextual (disch:=first|omega|simp only[go_sem,false_implies]) only[go_sem,wrap64,if_pos,List.length_map,bne_self_eq_false,p0]<;>rfl):G:=Eq.mpr (h p0) g
theorem Yo{P0 P1 P2 G G':Prop}(p0:P0)(p1:P1)(p2:P2)(g:G')(h:P0->P1->P2->G=G':=by intro p0 p1 p2;simp+contextual (disch:=first|omega|simp only[go_sem,false_implies]) only[go_sem,wrap64,if_pos,mJ,Nat.add_assoc,Nat.left_eq_add,Nat.add_eq_left,Nat.add_left_cancel_iff,List.length_map,p0,p1,p2]<;>rfl):G:=Eq.mpr (h p0 p1 p2) g
theorem Tg{G:Prop}(h:G:=by simp+contextual (disch:=first|omega|simp only[go_sem,false_implies]) only[go_sem,wrap64,if_pos,List.length_map,beq_self_eq_true]):G:=h
theorem Nv{P0 P1 G G':Prop}(p0:P0)(p1:P1)(g:G')(h:P0->P1->G=G':=by intro p0 p1;simp+contextual (disch:=first|omega|simp only[go_sem,false_implies]) only[go_sem,wrap64,if_pos,p0,p1]<;>rfl):G:=Eq.mpr (h p0 p1) g
theorem Yp{P0 P1 P2 P3 P4 P5 G G':Prop}(p0:P0)(p1:P1)(p2:P2)(p3:P3)(p4:P4)(p5:P5)(g:G')(h:P0->P1->P2->P3->P4->P5->G=G':=by intro p0 p1 p2 p3 p4 p5;simp+contextual (disch:=first|omega|simp only[go_sem,false_implies]) only[go_sem,wrap64,if_pos,List.length_map,Nat.add_assoc,Nat.left_eq_add,Nat.add_eq_left,Nat.add_left_cancel_iff,p0,p1,p2,p3,p4,p5]<;>rfl):G:=Eq.mpr (h p0 p1 p2 p3 p4 p5) g
theorem Yq{P0 P1 P2 P3 P4 P5 G G':Prop}(p0:P0)(p1:P1)(p2:P2)(p3:P3)(p4:P4)(p5:P5)(g:G')(h:P0->P1->P2->P3->P4->P5->G=G':=by intro p0 p1 p2 p3 p4 p5;simp+contextual (disch:=first|omega|simp only[go_sem,false_implies]) only[go_sem,wrap64,if_pos,Nat.add_assoc,Nat.left_eq_add,Nat.add_eq_left,Nat.add_left_cancel_iff,List.length_map,p0,p1,p2,p3,p4,p5]<;>rfl):G:=Eq.mpr (h p0 p1 p2 p3 p4 p5) g
theorem Yr{P0 P1 P2 P3 G G':Prop}(p0:P0)(p1:P1)(p2:P2)(p3:P3)(g:G')(h:P0->P1->P2->P3->G=G':=by intro p0 p1 p2 p3;simp+contextual (disch:=first|omega|simp only[go_sem,false_implies]) only[go_sem,wrap64,if_pos,Nat.add_assoc,Nat.left_eq_add,Nat.add_eq_left,Nat.add_left_cancel_iff,List.length_map,p0,p1,p2,p3]<;>rfl):G:=Eq.mpr (h p0 p1 p2 p3) g
theorem Ys{P0 G G':Prop}(p0:P0)(g:G')(h:P0->G=G':=by intro p0;simp+contextual (disch:=first|omega|simp only[go_sem,false_implies]) only[go_sem,wrap64,if_pos,List.length_map,Nat.add_assoc,Nat.left_eq_add,Nat.add_eq_left,Nat.add_left_cancel_iff,p0]<;>rfl):G:=Eq.mpr (h p0) g
theorem Yt{P0 P1 G G':Prop}(p0:P0)(p1:P1)(g:G')(h:P0->P1->G=G':=by intro p0 p1;simp+contextual (disch:=first|omega|simp only[go_sem,false_implies]) only[go_sem,wrap64,if_pos,Nat.add_assoc,Nat.left_eq_add,Nat.add_eq_left,Nat.add_left_cancel_iff,k3,p0,p1]<;>rfl):G:=Eq.mpr (h p0 p1) g
theorem Th{P0 P1 G:Prop}(p0:P0)(p1:P1)(h:P0->P1->G:=by intro p0 p1;simp+contextual (disch:=first|omega|simp only[go_sem,false_implies]) only[go_sem,wrap64,if_pos,List.length_map,p0,p1]):G:=h p0 p1
theorem Yu{P0 G:Prop}(p0:P0)(h:P0->G:=by intro p0;simp+contextual (disch:=first|omega|simp only[go_sem,false_implies]) only[go_sem,wrap64,if_pos,hc,List.length_map,if_true,Nat.zero_le,Nat.le_refl,List.take_length,p0]):G:=h p0
theorem Yv{G G':Prop}(g:G')(h:G=G':=by simp+contextual (disch:=first|omega|simp only[go_sem,false_implies]) only[go_sem,wrap64,if_pos,List.length_map,beq_self_eq_true,Bool.and_true]<;>rfl):G:=Eq.mpr h g
theorem Ti{P0 G G':Prop}(p0:P0)(g:G')(h:P0->G=G':=by intro p0;simp+contextual only[go_sem,Nat.add_assoc,Nat.left_eq_add,Nat.add_eq_left,Nat.add_left_cancel_iff,p0]<;>rfl):G:=Eq.mpr (h p0) g
theorem Yw{G G':Prop}(g:G')(h:G=G':=by simp+contextual only[go_sem,JA,Nat.add_assoc,Nat.left_eq_add,Nat.add_eq_left,Nat.add_left_cancel_iff,List.replicate]<;>rfl):G:=Eq.mpr h g
theorem Yx{P0 P1 P2 G:Prop}(p0:P0)(p1:P1)(p2:P2)(h:P0->P1->P2->G:=by intro p0 p1 p2;simp+contextual (disch:=first|omega|simp only[go_sem,false_implies]) only[go_sem,wrap64,if_pos,List.length_map,p0,p1,p2]):G:=h p0 p1 p2
theorem Yy{G G':Prop}(g:G')(h:G=G':=by simp+contextual (disch:=first|omega|simp only[go_sem,false_implies]) only[go_sem,wrap64,if_pos,mJ]<;>rfl):G:=Eq.mpr h g
theorem Yz{G:Prop}(h:G:=by simp+contextual (disch:=first|omega|simp only[go_sem,false_implies]) only[go_sem,wrap64,if_pos,mJ]):G:=h
theorem YA{P0 P1 G:Prop}(p0:P0)(p1:P1)(h:P0->P1->G:=by intro p0 p1;simp+contextual (disch:=first|omega|simp only[go_sem,false_implies]) only[go_sem,wrap64,if_pos,p0,p1]):G:=h p0 p1
theorem dE{P:Prop}(h:P:=by repeat(first|exact hg.mono (by omega)|exact Good.nil|refine Good.ay ?_ (by omega) rfl|refine Good.ay ?_ (by omega) (xi _ _ _ (by omega))|refine Good.ay ?_ (by omega) (by simp[ad.refs,V.aK,V.refs]<;>omega))):P:=h
theorem dA{P:Prop}(h:P:=by(repeat(first|exact xj|refine fP ?_|refine nU rfl ?_|refine nU (mo (oH (by omega))) ?_|refine Fs rfl (by simp[V.refs,V.aK]<;>first|omega|assumption) ?_))):P:=h
theorem af{P:Prop}(h:P:=by omega):P:=h
theorem ah{P:Prop}(h:P:=by kernel_rfl):P:=h
theorem cA{P:Prop}(h:P:=by(repeat(first|rfl|rw[ab]|rw[ae _ _ _ _ (by omega)]))):P:=h
theorem rn{P:Prop}(h:P:=by(repeat(first|exact gB|refine eY ?_|refine dF rfl ?_|refine dF (mo (oH (by omega))) ?_|refine kA 0 rfl rfl rfl ?_|refine lK rfl (by simp[V.refs,V.aK]<;>first|omega|assumption) ?_|refine lL rfl (by simp[V.ids]<;>omega) ?_))):P:=h
theorem PV{P:Prop}(h:P:=by simp[V.refs,V.aK]<;>first|omega|assumption):P:=h
theorem zy7{P:Prop}(h:P:=by simp[ad.refs,V.aK,V.refs]<;>omega):P:=h
theorem aE{P:Prop}(h:P:=by simp):P:=h
theorem W2{P:Prop}(h:P:=by exact yQ (m:=32) (by(repeat(first|rfl|rw[ab]|rw[ae _ _ _ _ (by omega)]))) (by(repeat(first|rfl|rw[ab]|rw[ae _ _ _ _ (by omega)]))) (by(repeat(first|rfl|rw[ab]|rw[ae _ _ _ _ (by omega)]))) (fun j h0 h1 h2 h3=>by(repeat(first|rfl|rw[ab]|rw[ae _ _ _ _ (by omega)]));unfold Ft;(repeat(first|rfl|rw[ab]|rw[ae _ _ _ _ (by omega)]))) hj):P:=h
theorem Tj{P:Prop}(h:P:=by exact oI hM1.symm _ _ (by omega) (Good.ay (Good.ay (Good.ay (Good.ay (Good.ay (Good.ay (Good.ay (Good.mono (jr lx lm cF Dz) (by omega)) (by omega) rfl) (by omega) rfl) (by omega) rfl) (by omega) rfl) (by omega) rfl) (by omega) rfl) (by omega) rfl) (fun j j1 j2 j3=>by(repeat(first|rfl|rw[ab]|rw[ae _ _ _ _ (by omega)]));exact rC (by omega) (by omega) j2 j3 (by omega) (by omega))):P:=h
theorem A6{P:Prop}(h:P:=by simp[V.ids]<;>omega):P:=h
theorem DJ{P:Prop}(h:P:=by rintro⟨h1,h2⟩;first|(cases h1;done)|(cases h2;done)):P:=h
theorem uq{P:Prop}(h:P:=by subst e;(repeat(first|rfl|rw[ab]|rw[ae _ _ _ _ (by omega)]))):P:=h
theorem iQ{P:Prop}(h:P:=by simpa[execOp,fV]using this):P:=h
theorem wN{P:Prop}(h:P:=by cases rs with|nil=>exact ho.elim|cons x l=>cases l<;>exact ho.elim):P:=h
theorem Hs{P:Prop}(h:P:=by have _:=lx;have _:=lm;have _:=cF;unfold rp;(repeat(first|rfl|rw[ab]|rw[ae _ _ _ _ (by omega)]))):P:=h
theorem Tk{P:Prop}(h:P:=by simp only[ay]<;>((repeat' split)<;>first|rfl|omega|(subst_vars;first|rfl|assumption|(symm;assumption)|omega|(simp_all;done)))):P:=h
theorem bu{P:Prop}(h:P:=by decide):P:=h
theorem JB{P:Prop}(h:P:=by exact⟨_,oA,js,hq, .of_steps (.one h0 stepR_seq) (.pass (x:= .code y) rfl (fun _ _=> .inl (by simp)) dn)⟩):P:=h
theorem eC{P:Prop}(h:P:=by rw[ho];rfl):P:=h
theorem adB{P:Prop}(h:P:=by exact hK _ _ (by omega) (fin _ (by omega)) (fun j hj=>by(repeat(first|rfl|rw[ab]|rw[ae _ _ _ _ (by omega)])))):P:=h
theorem Ht{P:Prop}(h:P:=by unfold yR;(repeat(first|rfl|rw[ab]|rw[ae _ _ _ _ (by omega)]))):P:=h
theorem YB{P:Prop}(h:P:=by exact⟨false, .inl rfl,rfl,jt (fun _ _ h=>by cases h.1) (by rintro⟨h1,h2⟩;first|(cases h1;done)|(cases h2;done)),eq _ (fun d=>by rw[YC w d ht])⟩):P:=h
theorem Hu{P:Prop}(h:P:=by(repeat(first|rfl|rw[ab]|rw[ae _ _ _ _ (by omega)]));exact fm):P:=h
theorem Hv{P:Prop}(h:P:=by(repeat(first|rfl|rw[ab]|rw[ae _ _ _ _ (by omega)]));exact e3):P:=h
theorem je{P:Prop}(h:P:=by dsimp only;omega):P:=h
theorem YD{P:Prop}(h:P:=by exact h4 _ _ (by omega) (Good.ay (Good.ay (Good.ay (h2.mono (by omega)) (by omega) rfl) (by omega) rfl) (by omega) rfl) (fun j j1 j2=>by(repeat(first|rfl|rw[ab]|rw[ae _ _ _ _ (by omega)])))):P:=h
theorem gz{P:Prop}(h:P:=by simp;omega):P:=h
theorem JC{P:Prop}(h:P:=by(repeat(first|exact Hw|refine DK ?_|refine Nw rfl ?_))):P:=h
theorem JD{P:Prop}(h:P:=by(repeat(first|rfl|rw[ab]|rw[ae _ _ _ _ (by omega)]));exact f7):P:=h
theorem JE{P:Prop}(h:P:=by(repeat(first|rfl|rw[ab]|rw[ae _ _ _ _ (by omega)]));exact i4):P:=h
theorem Hx{P:Prop}(h:P:=by exact rC (by omega) (by omega) j2 j3 (by omega) (by omega)):P:=h
theorem Tl{P:Prop}(h:P:=by have _:=lx;have _:=lm;have _:=cF;unfold Fu;(repeat(first|rfl|rw[ab]|rw[ae _ _ _ _ (by omega)]))):P:=h
theorem YE{P:Prop}(h:P:=by exact⟨_,_,_,_,_,_,_,hK,by simp[Instr.range,run_underlying ht,mK], .inl rfl,n1,n2,⟨rfl,by simp,fun _=>⟨w.heap.size,by simp,rfl⟩⟩,fun j hj=> .inr (by simpa using hj)⟩):P:=h
theorem YF{P:Prop}(h:P:=by exact⟨_,_,_,_,_,_,_,hK,by simp[Instr.range,run_underlying ht], .inl rfl,n1,n2,⟨rfl,by simp,fun _=>⟨w.heap.size,by simp,rfl⟩⟩,fun j hj=> .inr (by simpa using hj)⟩):P:=h
theorem mL{P:Prop}(h:P:=by simpa using hj):P:=h
theorem Tn{P:Prop}(h:P:=by rw[g5 _ (by omega) (by omega) (by omega)];(repeat(first|rfl|rw[ab]|rw[ae _ _ _ _ (by omega)]))):P:=h
theorem yS{P:Prop}(h:P:=by simp[Op.equalIn,run_underlying ht]):P:=h
theorem adC{P:Prop}(h:P:=by exact⟨false, .inl rfl,rfl,jt (fun _ _ h=>by cases h.1) (by rintro⟨h1,h2⟩;first|(cases h1;done)|(cases h2;done)),eq _ (fun d=>by rw[YG w d ht])⟩):P:=h
theorem adD{P:Prop}(h:P:=by exact⟨false, .inl rfl,rfl,jt (fun _ _ h=>by cases h.1) (by rintro⟨h1,h2⟩;first|(cases h1;done)|(cases h2;done)),eq _ (fun d=>by rw[YH w d ht])⟩):P:=h
theorem YI{P:Prop}(h:P:=by exact⟨false, .inl rfl,rfl,jt (fun _ _ h=>by cases h.1) (by rintro⟨h1,h2⟩;first|(cases h1;done)|(cases h2;done)),eq _ (fun d=>by rw[YJ w d ht])⟩):P:=h
theorem Nx{P:Prop}(h:P:=by(repeat(first|rfl|rw[ab]|rw[ae _ _ _ _ (by omega)]));exact fx):P:=h
theorem A7{P:Prop}(h:P:=by rw[List.drop_eq_getElem_cons i1,i2]):P:=h
theorem YK{P:Prop}(h:P:=by exact⟨a,ev,h1,h2,D.aT (w:=w) (w':=w) (fun b _ hn=>⟨rfl,hB b hn⟩) cs ev h3,h5,h4.mono (w:=w) (w':=w) (fun b _ hn=>⟨rfl,hB b hn⟩)⟩):P:=h
theorem YL{P:Prop}(h:P:=by exact .inl ⟨_,_,_, .inr ⟨c,f,g,first,cap,hc,eZ,hf, .inr (.inl ⟨rs,hH,rfl,fun id ax=>by simpa using List.all_eq_true.1 mC id ax⟩)⟩,h⟩):P:=h
theorem YM{P:Prop}(h:P:=by exact .inl ⟨_,_,_, .inr ⟨c,f,g,first,cap,hc,eZ,hf, .inr (.inr (.inr ⟨hH,fun id ax=>by simpa using List.all_eq_true.1 mC id ax⟩))⟩,h⟩):P:=h
theorem YN{P:Prop}(h:P:=by exact cN.same hH _ hK (by simp only[Sem.run_bind,hr,Result.andThen_ok];rfl) ⟨_,rfl,zv,[.bool false],rfl,r2, .bool false,[],rfl,rfl,rfl⟩):P:=h
theorem YO{P:Prop}(h:P:=by exact .inr ⟨_,_,_,⟨c,f,g,first,cap,hc,eZ,hf, .inr ⟨x,Δ,hH,rfl,rfl,fun id ax=>by simpa using List.all_eq_true.1 mC id ax⟩⟩,h⟩):P:=h
theorem A8{P:Prop}(h:P:=by simp[ad.refs,V.aK,V.refs]):P:=h
theorem To{P:Prop}(h:P:=by subst e1;(repeat(first|rfl|rw[ab]|rw[ae _ _ _ _ (by omega)]));exact q5):P:=h
theorem rD{P:Prop}(h:P:=by simp[V.refs]):P:=h
theorem o7{P:Prop}(h:P:=by simp[oJ,ax]):P:=h
theorem YP{P:Prop}(h:P:=by rw[List.length_map];exact Nat.le_refl _):P:=h
theorem YQ{P:Prop}(h:P:=by exact(M6.ay (i:=nx'+3) (m:=nx'+7) (by omega) (by omega) (by omega) rfl).ay (by omega) (by omega) (by omega) rfl):P:=h
theorem Tp{P:Prop}(h:P:=by subst e2;(repeat(first|rfl|rw[ab]|rw[ae _ _ _ _ (by omega)]))):P:=h
theorem Tq{P:Prop}(h:P:=by(repeat(first|rfl|rw[ab]|rw[ae _ _ _ _ (by omega)]));exact q3):P:=h
theorem adE{P:Prop}(h:P:=by exact⟨b,r,k1,k2,k3,k4,k5,k6,k7,k8,k9,fun i=>fG _ _ (fun r hr=>hrefs r (V.xk _ _ r hr)) (k10 i)⟩):P:=h
theorem kQ{P:Prop}(h:P:=by simp[hy]):P:=h
theorem Ny{P:Prop}(h:P:=by rw[hold id (by omega) (by omega),Jg id (by omega) ax]):P:=h
theorem Ts{P:Prop}(h:P:=by injection h with h;injection h with h;subst h;right;rw[JF];omega):P:=h
theorem Nz{P:Prop}(h:P:=by simpa[execOp,fV,resolve,invoke,builtin]using this):P:=h
theorem YR{P:Prop}(h:P:=by exact⟨fo NA.1,fo NA.2,fun id ax=>⟨dj xm.1.1 id ax,dj xm.1.2 id ax⟩,fun id ax=>dj xm.2 id ax⟩):P:=h
theorem YS{P:Prop}(h:P:=by simp only[Sem.run_bind,hr,Result.andThen_ok];rfl):P:=h
theorem YT{P:Prop}(h:P:=by exact⟨t,by simp only[kP,if_neg h1],hv,rfl,fun h=>absurd h h1,fun _=>rfl,fun h=>absurd h h1⟩):P:=h
theorem YU{P:Prop}(h:P:=by unfold wO;exact Nat.le_trans (List.length_filter_le _ _) (by rw[List.length_map];exact Nat.le_refl _)):P:=h
theorem JG{P:Prop}(h:P:=by simp[ad.refs,V.aK,V.refs];omega):P:=h
theorem YV{P:Prop}(h:P:=by exact fin _ [] (fun b hb=>by cases hb) eh (World.ownsRow_nil w' 0 ty sz) ⟨[],rfl,by simp,rfl⟩ rfl):P:=h
theorem Hy{P:Prop}(h:P:=by injection h with h;exact h ▸ ht):P:=h
theorem adF{P:Prop}(h:P:=by exact⟨w.heap.size,es,clock,rfl,heap_alloc_new w _,e3,aI.mono (ht.blocks (M:=M)) l _ e4⟩):P:=h
theorem YW{P:Prop}(h:P:=by simp only[Op.operands,Call.operands];exact Array.mem_append.2 (.inr (Array.mem_toList_iff.1 hx))):P:=h
theorem YX{P:Prop}(h:P:=by rw[hn,hI,DL hx];rfl):P:=h
theorem adG{P:Prop}(h:P:=by exact JH hu cY (fun id h=> .inl (by rw[kB]at h;exact h)) g1.symm g3 jT (iX rfl)):P:=h
theorem JI{P:Prop}(h:P:=by injection h with h;subst h;exact hK):P:=h
theorem YY{P:Prop}(h:P:=by simp only[h1,db,Option.map_some];exact hK):P:=h
theorem YZ{P:Prop}(h:P:=by exact⟨k1,A9.tr.trans k2,A9.size,A9.defers.mono k2,fun j=>V.aS k2 _ _ (A9.env j)⟩):P:=h
theorem Y0{P:Prop}(h:P:=by rw[ae _ _ _ _ e,ae _ _ _ _ e,ae _ _ _ _ (by omega),hI.eq j hj,ae _ _ _ _ e]):P:=h
theorem NB{P:Prop}(h:P:=by exact V.aS (ht.trans k2) _ _ (hs.env i)):P:=h
theorem adH{P:Prop}(h:P:=by exact⟨k1,hs.tr.trans k2,hs.size,hs.defers.mono k2,fun j=>V.aS k2 _ _ (hs.env j)⟩):P:=h
theorem Y1{P:Prop}(h:P:=by exact Nat.le_trans (List.length_filter_le _ _) (by rw[List.length_map];exact Nat.le_refl _)):P:=h
theorem Y2{P:Prop}(h:P:=by exact mM sx (ur (by simp[V.refs];omega) (uu 0 rfl rfl rfl (o8 mN)))):P:=h
theorem Y3{P:Prop}(h:P:=by rw[m3 id h2 (by omega),ae _ _ _ _ (by omega),ae _ _ _ _ (by omega),cY id h2 h3]):P:=h
theorem Y4{P:Prop}(h:P:=by subst e2;(repeat(first|rfl|rw[ab]|rw[ae _ _ _ _ (by omega)]));exact q6):P:=h
theorem Y5{P:Prop}(h:P:=by subst e1;(repeat(first|rfl|rw[ab]|rw[ae _ _ _ _ (by omega)]));exact w4):P:=h
theorem adI{P:Prop}(h:P:=by exact Bool.false_ne_true (lM.trans h.marks)):P:=h
theorem Y6{P:Prop}(h:P:=by exact hQ _ _ _ _ val k5 (eN hs k1 k2 (o':=o') (nx':=nx') rfl fun id hu=>hu) k4):P:=h
theorem Tt{P:Prop}(h:P:=by exact⟨_,oA,js,hq, .of_steps (.one h0 stepR_block) dn⟩):P:=h
theorem Tu{P:Prop}(h:P:=by exact⟨_,oA,js,hq, .of_steps (.one h0 jZ) dn⟩):P:=h
theorem JJ{P:Prop}(h:P:=by unfold ft;rw[NC trivial]):P:=h
theorem Y7{P:Prop}(h:P:=by exact .inr (.inr (.inr (oK.mono (fun v o n h=>hK _ h) (fun v o n h=>hX _ _ h) h)))):P:=h
theorem Y8{P:Prop}(h:P:=by(repeat(first|rfl|rw[ab]|rw[ae _ _ _ _ (by omega)]));exact pj j hj e1):P:=h
theorem Tv{P:Prop}(h:P:=by exact h ▸ ⟨hb,[],by simp⟩):P:=h
theorem JK{P:Prop}(h:P:=by rw[i4];exact fun h=>nomatch h):P:=h
theorem Y9{P:Prop}(h:P:=by exact⟨none,0,0,rfl,rfl,Nat.le_refl _,fun _=>rfl,0,fun a ha=>by cases ha⟩):P:=h
theorem Za{P:Prop}(h:P:=by exact⟨b,es',clock,k1,k2,k4,aI.mono (fun b _ hn=>⟨rfl,hB b hn⟩) _ _ k3⟩):P:=h
theorem ND{P:Prop}(h:P:=by rw[show(hp o nx).o id=_ from ho];rfl):P:=h
theorem Zb{P:Prop}(h:P:=by(repeat(first|rfl|rw[ab]|rw[ae _ _ _ _ (by omega)]))<;>exact q1):P:=h
theorem Zc{P:Prop}(h:P:=by exact fun k hk s' h1 h2=>Ba _ (fun x hx=>aV x (tw k hk x hx)) s' h1 h2):P:=h
theorem Tw{P:Prop}(h:P:=by injection h with h;subst h;exact⟨by assumption,hK⟩):P:=h
theorem Zd{P:Prop}(h:P:=by exact⟨k1,xs,k2,evs,k3,k4,D.aT (fun b _ hn=>⟨rfl,hB b hn⟩) _ _ k5⟩):P:=h
theorem PW{P:Prop}(h:P:=by(repeat(first|rfl|rw[ab]|rw[ae _ _ _ _ (by omega)]));exact q4):P:=h
theorem PX{P:Prop}(h:P:=by rw[show((hp o nx).put (bw o x.ids)).o j=_ from f4 j hm];exact jU.rfl' rfl):P:=h
theorem PY{P:Prop}(h:P:=by(repeat(first|rfl|rw[ab]|rw[ae _ _ _ _ (by omega)]));exact e0):P:=h
theorem PZ{P:Prop}(h:P:=by(repeat(first|rfl|rw[ab]|rw[ae _ _ _ _ (by omega)]));exact e1):P:=h
theorem P9{P:Prop}(h:P:=by(repeat(first|rfl|rw[ab]|rw[ae _ _ _ _ (by omega)]));exact g8):P:=h
theorem Qa{P:Prop}(h:P:=by subst h;(repeat(first|rfl|rw[ab]|rw[ae _ _ _ _ (by omega)]))):P:=h
theorem Qb{P:Prop}(h:P:=by exact hH.fresh j fun hu=>h (.inl hu)):P:=h
theorem Ze{P:Prop}(h:P:=by exact⟨r, .inl rfl,by obtain⟨_,rfl,_⟩:=hx;rfl,fun op=>g2 op p q,g1⟩):P:=h
theorem JL{P:Prop}(h:P:=by simp at h;obtain⟨rfl,rfl⟩:=h;exact⟨rfl,rfl⟩):P:=h
theorem Qc{P:Prop}(h:P:=by exact hN _ _ _ (ju hs k1 k2 (mO ho) c7 rfl fun id hu=> .inl hu)):P:=h
theorem Qd{P:Prop}(h:P:=by rw[show((hp o nx).put (bw o x.ids)).o j=_ from f3 j hm];exact jU.fz _):P:=h
theorem Qe{P:Prop}(h:P:=by exact⟨_,_,_,_,_,_,_,hK,by simp[hr], .inl rfl,h1,h2,h3,by simp⟩):P:=h
theorem Zf{P:Prop}(h:P:=by simp only[a0,Array.size_append,Array.size_replicate];simp at hlen;omega):P:=h
theorem Zg{P:Prop}(h:P:=by exact forall_congr' fun k=>forall_congr' fun hk=>by rw[ih k hk (d+1)]):P:=h
theorem Qf{P:Prop}(h:P:=by cases xv<;>first|(simp[Qg]at hwd;done)|(cases yv<;>simp[he])):P:=h
theorem Qh{P:Prop}(h:P:=by exact⟨x,b.trans y,z⟩):P:=h
theorem xn{P:Prop}(h:P:=by simpa[V.refs]using hr):P:=h
theorem Qi{P:Prop}(h:P:=by exact hK _ _ (by omega) (M6.mono (by omega)) cY):P:=h
theorem Qj{P:Prop}(h:P:=by exact bX s1 (fun r hr=>by simp[ad.refs,V.aK,V.refs]at hr)):P:=h
theorem JM{P:Prop}(h:P:=by rw[mC];simp only[oJ,eZ,wP];exact ax):P:=h
theorem Qk{P:Prop}(h:P:=by injection hu with hu;injection hv with hv;subst hu;subst hv;exact h3):P:=h
theorem xo{P:Prop}(h:P:=by simp[V.aK,V.refs]):P:=h
theorem Bb{P:Prop}(h:P:=by exact hg.fresh j (by omega)):P:=h
theorem Ql{P:Prop}(h:P:=by exact hN _ _ _ _ k3.2 (nV hs k1 k2 k3.1 c7 rfl fun id hu=>hu)):P:=h
theorem Qm{P:Prop}(h:P:=by exact⟨by omega,fun k hk=>ih k hk (by have:=Tm.mP hk;omega)⟩):P:=h
theorem JN{P:Prop}(h:P:=by simp at hl;obtain⟨rfl,rfl⟩:=hl;exact hK):P:=h
theorem Qn{P:Prop}(h:P:=by rw[ae _ _ _ _ wQ,rE _ _ (by omega)];exact h0 id (by omega)):P:=h
theorem Qo{P:Prop}(h:P:=by exact mM s11 (o8 (o8 (uu 0 rfl rfl rfl mN)))):P:=h
theorem Qp{P:Prop}(h:P:=by subst e2;rw[DM]at hr;simp[ad.refs,V.aK,V.refs]at hr):P:=h
theorem JO{P:Prop}(h:P:=by simp at hj hy;subst hj;subst hy;exact aV):P:=h
theorem Fv{P:Prop}(h:P:=by rw[if_neg e,if_neg (by omega)]):P:=h
theorem j5{P:Prop}(h:P:=by cases h):P:=h
theorem Zh{P:Prop}(h:P:=by rw[List.length_eraseIdx];simp[hi];omega):P:=h
theorem Fw{P:Prop}(h:P:=by rw[hm];exact ad.noConfusion):P:=h
theorem JP{P:Prop}(h:P:=by simp only[V.den,D.den]at Fx;rw[Fx]):P:=h
theorem Zi{P:Prop}(h:P:=by exact h3 e (Array.mem_toList_iff.1 he) hb):P:=h
theorem Fy{P:Prop}(h:P:=by rw[hg];simp[dS,hv,e]):P:=h
theorem Qq{P:Prop}(h:P:=by exact cN.same hH _ h (by simp[execOp,fV,hr]) ⟨_,rfl,hv⟩):P:=h
theorem JQ{P:Prop}(h:P:=by rw[tN];exact da all _ a7):P:=h
theorem sK{P:Prop}(h:P:=by rw[wH];rfl):P:=h
theorem Fz{P:Prop}(h:P:=by simp[V.aK,V.refs];omega):P:=h
theorem Qr{P:Prop}(h:P:=by exact bJ t u hu (hQ _ s φ w (.iface t u) h hs ⟨u,rfl,hd⟩)):P:=h
theorem JR{P:Prop}(h:P:=by rw[if_neg e,if_neg fun h=>e h.symm]):P:=h
theorem FA{P:Prop}(h:P:=by simp[binOp,Bc hr]):P:=h
theorem JS{P:Prop}(h:P:=by exact⟨.ret,s',aF,hq,jV,trivial⟩):P:=h
theorem JT{P:Prop}(h:P:=by exact bnd _ h _ (Nat.le_max_right _ _)):P:=h
theorem Qs{P:Prop}(h:P:=by exact⟨e',Tx,fr',hR,ComesIn.of_steps Qt hs,Jh,hl⟩):P:=h
theorem sL{P:Prop}(h:P:=by rw[hx];rfl):P:=h
theorem oL{P:Prop}(h:P:=by simp[hx]):P:=h
theorem sM{P:Prop}(h:P:=by simp[hz]):P:=h
theorem xp{P:Prop}(h:P:=by rw[hx];exact hk):P:=h
theorem JU{P:Prop}(h:P:=by rw[wI i hi];exact congrArg some hb):P:=h
theorem Qu{P:Prop}(h:P:=by exact⟨b,k1,k2.mono (fun b _ hn=>⟨rfl,hB b hn⟩) rfl⟩):P:=h
theorem Bd{P:Prop}(h:P:=by exact Ty j1 j2 j3):P:=h
theorem JV{P:Prop}(h:P:=by unfold ft;exact Eq.trans rfl rfl):P:=h
theorem FB{P:Prop}(h:P:=by rw[Zj]at hl;simp at hl):P:=h
theorem FC{P:Prop}(h:P:=by subst hi;simp[Ne.symm h]):P:=h
theorem JW{P:Prop}(h:P:=by exact⟨.bJ _,s',aF,hq,jV,hm⟩):P:=h
theorem JX{P:Prop}(h:P:=by unfold Hz;exact Eq.trans rfl rfl):P:=h
theorem FE{P:Prop}(h:P:=by exact fun _=>HA _ _ _):P:=h
theorem FF{P:Prop}(h:P:=by exact absurd h0 (by simp)):P:=h
theorem JY{P:Prop}(h:P:=by unfold eqGuard;cases op<;>simp):P:=h
theorem FG{P:Prop}(h:P:=by rw[h]at h1;simp at h1):P:=h
theorem JZ{P:Prop}(h:P:=by simp[hj]at hr;exact⟨hr,rfl⟩):P:=h
theorem xq{P:Prop}(h:P:=by simpa using h2):P:=h
theorem J0{P:Prop}(h:P:=by simp at hj;subst hj;exact dT):P:=h
theorem xr{P:Prop}(h:P:=by simpa using hx):P:=h
theorem J1{P:Prop}(h:P:=by rw[hx];exact ad.noConfusion):P:=h
theorem J2{P:Prop}(h:P:=by rw[hp];exact ad.noConfusion):P:=h
theorem FH{P:Prop}(h:P:=by rw[ae _ _ _ _ e]):P:=h
theorem xw{P:Prop}(h:P:=by rw[h1];rfl):P:=h
theorem Be{P:Prop}(h:P:=by cases b<;>rfl):P:=h
theorem xy{P:Prop}(h:P:=by rw[hj];rfl):P:=h
theorem Zk{P:Prop}(h:P:=by exact⟨b,h4.trans h5,h6⟩):P:=h
theorem zw0{P:Prop}(h:P:=by refine fin _ _ (.inr rfl) _ _ af dE (fun j j1 j2=>by(repeat(first|rfl|rw[ab]|rw[ae _ _ _ _ (by omega)]))) (fun h=> ?_);exact adI):P:=h
theorem zw1{P:Prop}(h:P:=by refine aO (bB rfl) ?_;refine oz q2 ?_;refine eD _ _ _ .busy none af (fin _ _ (fun id ax=>Tk) dE af) cA (fun id h3 h4=>by(repeat(first|rfl|rw[ab]|rw[ae _ _ _ _ (by omega)])))):P:=h
theorem zw4{P:Prop}(h:P:=by simp[Ef,Array.getD_eq_getD_getElem?,Array.getElem?_replicate]at iY;split at iY<;>simp at iY):P:=h
theorem zw5{P:Prop}(h:P:=by obtain⟨h0,h1,h2⟩:=h;refine⟨h0,hr.us id h1,fun cZ=> ?_⟩;obtain⟨h3,h4⟩:=hr.row id h1 cZ;obtain⟨b,h5,h6⟩:=h2 h3;exact Zk):P:=h
theorem zw6{P:Prop}(h:P:=by obtain⟨a,b,c⟩:=hr id rD;obtain⟨h0,h1,h2⟩:=h;refine⟨h0,c,fun cZ=> ?_⟩;rw[a]at cZ;obtain⟨x,y,z⟩:=h2 cZ;exact Qh):P:=h
theorem zw7{P:Prop}(h:P:=by obtain⟨h0,x,hx⟩:=FI hI;simp+contextual only[go_sem,hI,hx,h0];refine aO (bB rfl) ?_;refine cM ?_;exact YX):P:=h
theorem zw8{P:Prop}(h:P:=by obtain⟨a,b,c⟩:=hr id rD;obtain⟨h0,h1,h2⟩:=h;refine⟨h0,c,fun cZ=> ?_⟩;obtain⟨x,y,z⟩:=h2 (a.1 cZ);exact Qh):P:=h
theorem Tz{P:Prop}(h:P:=by intro j hj;simp only[bC,h2,List.mem_map,List.mem_filter]at hj;obtain⟨e,⟨he,hb⟩,rfl⟩:=hj;exact Zi):P:=h
theorem Zl{P:Prop}(h:P:=by simp only[lN]at h;injection h with h;injection h with _ h;exact Tv):P:=h
theorem Zm{P:Prop}(h:P:=by obtain⟨h0,h1,h2⟩:=h;refine⟨h0,hr.us id h1,fun e' pQ=> ?_⟩;obtain⟨e,g1,g2,g3⟩:=hr.ep id e' h1 pQ;obtain⟨h3,h4⟩:=h2 e g1;refine⟨Nat.le_trans h3 g2,fun heq=> ?_⟩;rw[g3 (by omega)];exact h4 af):P:=h
theorem TA{P:Prop}(h:P:=by rw[List.drop_eq_getElem_cons h1];rw[List.getElem?_eq_getElem h1]at hx;injection hx with hx;rw[hx]):P:=h
theorem TC{P:Prop}(h:P:=by obtain⟨z,h1,h⟩:=jf h;simp only[Prod.mk.injEq]at h;obtain⟨rfl,rfl,rfl⟩:=h;exact YY):P:=h
theorem HB{P:Prop}(h:P:=by refine kA 1 rfl rfl rfl ?_;exact rn):P:=h
theorem J3{P:Prop}(h:P:=by simp only[St.S,jj]at this;exact this):P:=h
theorem TD{P:Prop}(h:P:=by obtain⟨h0,x,hx⟩:=FI hI;simp+contextual only[go_sem,h,hI,hx,h0];exact YX):P:=h
theorem Zn{P:Prop}(h:P:=by refine⟨t,by simp only[kP,if_pos h1,hl],hv,rfl,fun _=>hl,fun h=>absurd h1 h,fun _=>⟨fun u hu=> ?_,fun h=>absurd h1 h⟩⟩;rw[(iA h1).1 hu];exact Nat.le_refl _):P:=h
theorem TE{P:Prop}(h:P:=by simp only[Array.getD_eq_getD_getElem?];rw[Array.getElem?_setIfInBounds_ne (Ne.symm hi)]):P:=h
theorem TF{P:Prop}(h:P:=by refine kz hI ?_;refine aO (bB rfl) ?_;refine cM ?_;rw[hn,hI];rfl):P:=h
theorem TG{P:Prop}(h:P:=by dsimp only;refine bI.bE _ (Nat.le_refl _) af hI.cC (fun _ _=>rfl) ?_;exact dA):P:=h
theorem yT{P:Prop}(h:P:=by subst this;exact pV):P:=h
theorem Zo{P:Prop}(h:P:=by simp only[Option.map_eq_some_iff]at h;obtain⟨d,h1,rfl⟩:=h;obtain⟨arr,rfl,g1,g2⟩:=hx;obtain⟨val,r1,r2⟩:=gX h1 g1 g2;exact fin (r1 w) r2):P:=h
theorem TH{P:Prop}(h:P:=by refine cM ?_;refine aw (gC _ _ _) rfl ?_;refine cM ?_;rw[hn]):P:=h
theorem TI{P:Prop}(h:P:=by subst this;refine pW hn ?_;refine aO (bB rfl) ?_;exact pV):P:=h
theorem Zp{P:Prop}(h:P:=by rw[show(⟨put o' [(fr, .arr 0 ty sz es)],fun id=>us id\/id=fr⟩:Hp).o fr=put o' [(fr, .arr 0 ty sz es)] fr from rfl,this]at he;injection he):P:=h
theorem Zq{P:Prop}(h:P:=by simp only[hx]at h ho;injection h with h;subst h;simp only[ad.fz]at ho;simp only[aR,ho]at aV;rw[hd (by rw[ho];rfl)];exact aV.den):P:=h
theorem Zr{P:Prop}(h:P:=by dsimp only;refine bI.bE _ af af dE (fun j hj=>by(repeat(first|rfl|rw[ab]|rw[ae _ _ _ _ (by omega)]))) ?_;exact dA):P:=h
theorem Zs{P:Prop}(h:P:=by obtain⟨g3,x2,g4⟩:=ih dx b1 (fun z hz=>m1 z sM) (fun z hz=>m2 z sM) g1 h;exact⟨g3,x1++x2,by rw[g4,g2,List.append_assoc]⟩):P:=h
theorem Zt{P:Prop}(h:P:=by obtain⟨h0,y,h1,h2,h3,h4⟩:=uv h;simp only[Prod.mk.injEq]at h4;obtain⟨rfl,rfl,rfl⟩:=h4;exact⟨h0,y,h1,h2,h3,hK⟩):P:=h
theorem Zu{P:Prop}(h:P:=by simp only[Option.map_eq_some_iff]at h;obtain⟨r,h1,rfl⟩:=h;obtain⟨g1,g2⟩:=TJ h1 hg (ak M φ H) w xv yv hx hy;exact Ze):P:=h
theorem Zv{P:Prop}(h:P:=by obtain⟨h3,h4⟩:=hb _ ck h2;exact⟨by rw[World.cell?_of_block (w:=w) (w':=w') (a:=a.add j) (by simpa using h3)];exact h1,h4⟩):P:=h
theorem Zw{P:Prop}(h:P:=by simp only[ha];obtain⟨z,h1,h⟩:=jf h;simp only[Prod.mk.injEq]at h;obtain⟨rfl,rfl,rfl⟩:=h;exact yU h1 hK):P:=h
theorem Zx{P:Prop}(h:P:=by simp only[hw,if_true];obtain⟨tO,jT⟩:=Bf J4 (fun id ax=>ag2 id (by rw[wI];exact ax)) TK aV.2;exact adG):P:=h
theorem Zy{P:Prop}(h:P:=by cases y<;>simp only[V.same,Bool.false_eq_true,Bool.and_eq_true]at h;rw[Nat.eq_of_beq_eq_true h.1,Nat.eq_of_beq_eq_true h.2]):P:=h
theorem Zz{P:Prop}(h:P:=by rw[<- uw];refine iB hH (cn w _) cY _ _ W3 ?_;unfold aR;simp only[bG,aL,if_true];exact adF):P:=h
theorem TL{P:Prop}(h:P:=by refine cS ?_;refine aO (bB rfl) ?_;exact pV):P:=h
theorem ZA{P:Prop}(h:P:=by refine cS ?_;refine aO (bB rfl) ?_;refine cS ?_;refine aj (k+1) h2 af (bI.d0 _ ?_);exact dA):P:=h
theorem ZB{P:Prop}(h:P:=by intro u hu;simp only[Array.toList_extract,List.extract]at hu;exact hf u (List.mem_of_mem_drop (List.mem_of_mem_take hu))):P:=h
theorem ZC{P:Prop}(h:P:=by refine⟨hH,Trans.refl _ _ _, ?_,⟨[],rfl,List.nodup_nil,fun _=>rfl,fun r hr=>by cases hr⟩,Bg hd⟩;exact Zf):P:=h
theorem TM{P:Prop}(h:P:=by refine bI.bE _ af af dE (fun j hj=>rfl) ?_;exact dA):P:=h
theorem TN{P:Prop}(h:P:=by obtain⟨hi,_⟩:=List.getElem?_eq_some_iff.1 hm;exact Zh):P:=h
theorem ZD{P:Prop}(h:P:=by simp only[lN]at h;injection h with h;injection h with h4 h5;subst h4;subst h5;rw[if_pos rfl]at hr;exact⟨n,hr⟩):P:=h
theorem ZE{P:Prop}(h:P:=by rw[e];obtain⟨k1,k2⟩:=j6 (us':=FJ (Array.replicate ops.size false)) hs.heap (fun id h=> .inl h);exact adH):P:=h
theorem TO{P:Prop}(h:P:=by simp only[bG,aL,h1,if_false];exact Qb):P:=h
theorem ZF{P:Prop}(h:P:=by refine cM ?_;simp at h1;rw[List.drop_eq_nil_of_le h1]at hf;simp only[aN]at hf;rw[hf]at hK;exact Qi):P:=h
theorem ZG{P:Prop}(h:P:=by simp only[Option.some.injEq,Prod.mk.injEq]at h;obtain⟨rfl,rfl,rfl⟩:=h;simp only[ho];exact⟨_,hg,hK⟩):P:=h
theorem TP{P:Prop}(h:P:=by rw[show fr+(j+1)=fr+1+j by omega];exact this):P:=h
theorem TQ{P:Prop}(h:P:=by simp+contextual only[go_sem,h,hI];rw[hn,hI];rfl):P:=h
theorem ZH{P:Prop}(h:P:=by injection h with h;subst h;obtain⟨u,rfl,_⟩:=hy;simp only[V.den,D.den]at hx;subst hx;exact adD):P:=h
theorem ZI{P:Prop}(h:P:=by injection h with h;subst h;obtain⟨u,rfl,_⟩:=hx;simp only[V.den,D.den]at hy;subst hy;exact adC):P:=h
theorem ZJ{P:Prop}(h:P:=by refine .inr (.inr (.inl ⟨ds,out,e7,hP,pR, ?_⟩));cases out<;>first|exact hK _ h|exact hX _ _ h):P:=h
theorem ZK{P:Prop}(h:P:=by rw[hI.eq 2 (by omega)];(repeat(first|rfl|rw[ab]|rw[ae _ _ _ _ (by omega)]));exact p2):P:=h
theorem TR{P:Prop}(h:P:=by refine cS ?_;refine aw hkn rfl ?_;exact pV):P:=h
theorem ZL{P:Prop}(h:P:=by simp only[aR,ho]at aV;obtain⟨bk,es,clock,g1,_⟩:=aV;rw[<- eM]at g1;subst g1;exact YB):P:=h
theorem ZM{P:Prop}(h:P:=by simp only[ad.fz]at ho;simp only[aR,ho]at aV;rw[(hd ep (by rw[ho];rfl)).2 rfl];exact aV):P:=h
theorem ZN{P:Prop}(h:P:=by rw[Array.toList_append,Array.toList_append,Array.toList_map];exact V.pX FK dz hca):P:=h
theorem ZO{P:Prop}(h:P:=by refine .inr (.inl ⟨ds,out,e7,hP,pR, ?_⟩);cases out<;>first|exact hK _ h|exact hX _ _ h):P:=h
theorem ZP{P:Prop}(h:P:=by obtain⟨b,dU,ty,k1,k2,k3,k4⟩:=a7;exact⟨b,dU,ty,k1,k2,kR _ _ hrefs k3,k4⟩):P:=h
theorem ZQ{P:Prop}(h:P:=by intro dx b _ _ hb h;simp only[lN]at h;injection h with h;injection h with _ h;exact Tv):P:=h
theorem NF{P:Prop}(h:P:=by refine Hl w1 w2 ?_;exact adB):P:=h
theorem ZR{P:Prop}(h:P:=by refine aW.aH mix adJ aE ?_;rw[c29];refine oz hx ?_;refine bH h ?_;exact pV):P:=h
theorem Qv{P:Prop}(h:P:=by obtain⟨arr,rfl,g1,g2⟩:=hx;obtain⟨val,r1,r2⟩:=HC h g1 g2;exact fin r1 r2):P:=h
theorem Qw{P:Prop}(h:P:=by simp only[Array.getD_eq_getD_getElem?];rw[Array.getElem?_setIfInBounds_ne (Ne.symm h1)]):P:=h
theorem Qx{P:Prop}(h:P:=by refine⟨x,fun heq=> ?_⟩;obtain⟨p,q,r,z,u⟩:=y heq;exact⟨p,q,r,b.trans z,u⟩):P:=h
theorem Qy{P:Prop}(h:P:=by rw[hL.refs,List.all_eq_true];intro r hr;have:=hrefs r hr;exact decide_eq_true af):P:=h
theorem Qz{P:Prop}(h:P:=by refine .inl ⟨ds,out,e7,hP, ?_⟩;cases out<;>first|exact hK _ h|exact hX _ _ h):P:=h
theorem QA{P:Prop}(h:P:=by simp only[Ef,Array.getD_eq_getD_getElem?,Array.getElem?_replicate];split<;>rfl):P:=h
theorem QB{P:Prop}(h:P:=by rw[show((hp o nx).put (bw o x.ids)).o id=_ from this]at g1;exact⟨id,g1,g2⟩):P:=h
theorem QC{P:Prop}(h:P:=by simp[H',ad.cq]at he;subst he;exact⟨Nat.le_refl _,fun _=>by simp[aF]⟩):P:=h
theorem QD{P:Prop}(h:P:=by rw[hm,gY (o:=s.o) fun id ax=>hr id (lO _ id ax)];exact W4):P:=h
theorem QE{P:Prop}(h:P:=by obtain⟨a,b,c,h⟩:=funcOf (P:=Tryz.prog) (t:=209) ah;unfold rF;rw[h]):P:=h
theorem QF{P:Prop}(h:P:=by cases y<;>simp only[D.same,Bool.false_eq_true]at h;rw[D.dG cj _ h]):P:=h
theorem QG{P:Prop}(h:P:=by rw[if_neg e0]at h;injection h with h;injection h with h _;exact absurd h e0):P:=h
theorem QH{P:Prop}(h:P:=by subst this;refine pW hx ?_;refine aO (bB rfl) ?_;exact pV):P:=h
theorem QI{P:Prop}(h:P:=by rw[Bool.eq_iff_iff];simp only[List.all_eq_true (l:=t.kids)];exact Zg):P:=h
theorem QJ{P:Prop}(h:P:=by obtain⟨b,r,k1,k2,k3,k4,k5,k6,k7,k8,k9,k10⟩:=a7;exact adE):P:=h
theorem QK{P:Prop}(h:P:=by obtain⟨u,us,rfl,h1,_⟩:=h;simp at hd;subst hd;exact⟨u,aE,h1⟩):P:=h
theorem QL{P:Prop}(h:P:=by rw[if_pos h3]at h;injection h with h;injection h with _ h;exact Tv):P:=h
theorem QM{P:Prop}(h:P:=by refine bI.bE _ (Nat.le_refl _) af hg (fun _ _=>rfl) ?_;exact dA):P:=h
theorem QN{P:Prop}(h:P:=by rw[m2.eq id (by omega)];unfold ext;rw[if_neg (by omega)];exact cA):P:=h
theorem QO{P:Prop}(h:P:=by intro c hx;rw[Array.getD_eq_getD_getElem?,hx]at dn;simp at dn):P:=h
theorem QP{P:Prop}(h:P:=by obtain⟨r,h⟩:=J5 hS 12 p.2 40 (FL p hp);exact⟨_,r,h⟩):P:=h
def sN(ops:Array Oper)(j:Nat):Option Tmp:=(ops[j]?).bind (·.dst)
structure bT where
 dst:Option Nat
 op:Op
 gd:Option (Nat×Bool):=none
instance:Inhabited bT:=⟨⟨none, .ready 0,none⟩⟩
def DN(n:Nat):Option Tmp->Bool
 |some d=>decide (d<n)
 |none=>true
def J6(n:Nat)(ops:Array Oper)(o:Oper):Option bT:=
 if DN n o.dst=true then match o.guard with
  |none=>some ⟨o.dst,o.op,none⟩
  |some (j,want)=>match sN ops j with
   |some d=>some ⟨o.dst,o.op,some (d,want)⟩
   |none=>none
 else none
def kS(n:Nat)(ops:Array Oper):List Oper->Option (List bT)
 |[]=>some []
 |o::l=>match J6 n ops o,kS n ops l with
  |some x,some xs=>some (x::xs)
  |_,_=>none
def tmpsOf(o:bT):List Nat:=(o.op.operands.toList.filterMap fun| .tmp t=>some t|_=>none)++(match o.gd with|some (d,_)=>[d]|none=>[])
def e8(o:bT):List Nat:=tmpsOf o++o.dst.toList
def bC(ops:Array Oper)(i:Nat):List Nat:=match ops[i]? with|some o=>(o.after.toList.filter (Region.binds .any)).map (·.on)|none=>[]
def bZ(l:List bT)(i:Nat):bT:=l.getD i default
inductive IC where
 |skip|ag (l:List bT)|dO (l:List bT) (pr:List (List Nat))|seq (a b:IC)|cond (c:Operand) (a b:IC)|block (id:Nat) (a:IC)|loop (a:IC)|exit (id:Nat)|ret|bad
 |Ji (g:Operand) (ps:List Nat) (a b:IC)
 deriving Inhabited
inductive jS where
 |ret|exit (id:Nat)
def jS.code:jS->Code
 | .ret=> .ret
 | .exit id=> .exit id
def lP(acc:List Nat):List Nat->Nat
 |[]=>0
 |j::ps=>(2^j|||acc.getD j 0)|||lP acc ps
def eG:List (List Nat)->List Nat->List Nat
 |[],acc=>acc
 |ps::l,acc=>eG l (acc++[lP acc ps])
def rG(x y:bT):Bool:=match x.dst with|some d=> !(e8 y).contains d|none=>true
def yV(l:List bT)(pr:List (List Nat)):Bool:=
 (List.range l.length).all fun j=>(List.range j).all fun i=>((eG pr []).getD j 0).testBit i||(rG (bZ l i) (bZ l j)&&rG (bZ l j) (bZ l i))
def kC(xs ys:List Nat):Bool:=xs.all fun x=> !ys.contains x
def eO(pr:List (List Nat))(fp:List (List Nat×List Nat)):Bool:=
 (List.range fp.length).all fun j=>(List.range j).all fun i=>((eG pr []).getD j 0).testBit i||
  (kC (fp.getD i ([],[])).2 (fp.getD j ([],[])).1&&kC (fp.getD i ([],[])).2 (fp.getD j ([],[])).2&&kC (fp.getD j ([],[])).2 (fp.getD i ([],[])).1)
def gD(ops:Array Oper):List (List Nat):=(List.range ops.size).map (bC ops)
def TS(pr:List (List Nat)):Bool:=(List.range pr.length).all fun k=>(pr.getD k []).all fun j=>decide (j<k)
theorem ux{acc:List Nat}{i:Nat}:∀ (ps:List Nat),(lP acc ps).testBit i=true->∃j∈ps,i=j\/(acc.getD j 0).testBit i=true
 |[],h=>by simp[lP]at h
 |j::ps,h=>by
  simp only[lP,Nat.testBit_or,Bool.or_eq_true]at h
  rcases h with(h|h)|h
  ·rw[Nat.testBit_two_pow]at h
   exact⟨j,aE, .inl (by have h:=of_decide_eq_true h;exact h.symm)⟩
  ·exact⟨j,aE, .inr h⟩
  ·obtain⟨j',h1,h2⟩:=ux ps h
   exact⟨j',by simp[h1],h2⟩
theorem rH{k:Nat}:∀ (l:List (List Nat)) (acc:List Nat),k<acc.length->(eG l acc).getD k 0=acc.getD k 0
 |[],_,_=>rfl
 |ps::l,acc,h=>by
  rw[eG,rH l _ (by simp;omega)]
  simp[List.getD_eq_getElem?_getD,List.getElem?_append_left h]
theorem rI{i:Nat}:∀ (l:List (List Nat)) (acc:List Nat) (k:Nat),acc.length<=k->(∀k',k'<l.length->∀j∈l.getD k' [],j<acc.length+k')->((eG l acc).getD k 0).testBit i=true->
 ∃j∈l.getD (k - acc.length) [],i=j\/((eG l acc).getD j 0).testBit i=true
 |[],acc,k,hk,_,h=>by
  simp only[eG]at h
  rw[List.getD_eq_getElem?_getD,List.getElem?_eq_none hk]at h
  simp at h
 |ps::l,acc,k,hk,hp,h=>by
  simp only[eG]at h|-
  by_cases he:k=acc.length
  ·subst he
   rw[rH l _ (by simp)]at h
   have e:(acc++[lP acc ps]).getD acc.length 0=lP acc ps:=by simp[List.getD_eq_getElem?_getD]
   rw[e]at h
   obtain⟨j,h1,h2⟩:=ux ps h
   refine⟨j,by simpa using h1,h2.imp id fun h2=> ?_⟩
   have hj:j<acc.length:=by simpa using hp 0 aE j (by simpa using h1)
   rw[rH l _ (by simp;omega)]
   simpa[List.getD_eq_getElem?_getD,List.getElem?_append_left hj]using h2
  ·obtain⟨j,h1,h2⟩:=rI l (acc++[lP acc ps]) k gz (fun k' HD j hj=>by
    have:=hp (k'+1) gz j mL
    simp;omega) h
   refine⟨j, ?_,h2⟩
   have e:k - acc.length=(k - (acc++[lP acc ps]).length)+1:=by simp;omega
   rw[e];simpa using h1
theorem pY{pr:List (List Nat)}(hp:∀k,k<pr.length->∀j∈pr.getD k [],j<k){E:Nat->Bool}(hE:∀k,k<pr.length->E k=true->∀j∈pr.getD k [],E j=true):
 ∀k,k<pr.length->(∀j∈pr.getD k [],E j=true)->∀i,((eG pr []).getD k 0).testBit i=true->E i=true:=by
 intro k
 induction k using Nat.strongRecOn with
 |ind k ih=>
  intro hk hj i hi
  obtain⟨j,h1,h2⟩:=rI pr [] k aE (fun k' HD j hj=>by simpa using hp k' HD j hj) hi
  simp only[List.length_nil,Nat.sub_zero]at h1
  rcases h2 with rfl|h2
  ·exact hj _ h1
  ·have QQ:=hp k hk j h1
   exact ih j QQ af (hE j af (hj j h1)) i h2
theorem Bh{pr:List (List Nat)}(hp:∀k,k<pr.length->∀j∈pr.getD k [],j<k):∀k,k<pr.length->∀i,((eG pr []).getD k 0).testBit i=true->i<k:=by
 intro k
 induction k using Nat.strongRecOn with
 |ind k ih=>
  intro hk i hi
  obtain⟨j,h1,h2⟩:=rI pr [] k aE (fun k' HD j hj=>by simpa using hp k' HD j hj) hi
  simp only[List.length_nil,Nat.sub_zero]at h1
  have QQ:=hp k hk j h1
  rcases h2 with rfl|h2
  ·exact QQ
  ·have:=ih j QQ af i h2;omega
def low(n:Nat):Code->IC
 | .skip=> .skip
 | .label _=> .skip
 | .scope c=>low n c
 | .region _ ops false=>match kS n ops ops.toList with
   |some l=> .ag l
   |none=> .bad
 | .region _ ops true=>match kS n ops ops.toList with
   |some l=>if yV l (gD ops)&&TS (gD ops)then .dO l (gD ops)else .bad
   |none=> .bad
 | .seq a b=> .seq (low n a) (low n b)
 | .cond c a b=> .cond c (low n a) (low n b)
 | .block id a=> .block id (low n a)
 | .loop a=> .loop (low n a)
 | .exit id=> .exit id
 | .ret=> .ret
 | .rangeFunc g ps a b=> .Ji g ps.toList (low n a) (low n b)
 |_=> .bad
section
inductive D where
 |int (k:IntKind) (n:Int)|bool (b:Bool)|str (s:List UInt8)
 |eP|kT|cz|dH
 |agg (cs:List D)|sl (es:List D)|iface (t:TypeId) (d:D)
 |mp (ks vs:List D)
 deriving Inhabited
def Flat(vs:List Value):Prop:=∀u∈vs,u.oneCell'=true
def gE(B:Nat->Prop)(w:World)(a:Addr)(cs:Array Value):Prop:=∀j u,cs[j]? =some u->w.cell? (a.add j)=some u/\ ¬B a.block
def iC(es:Array MapEntry)(clock:Nat):Prop:=(∀e∈es.toList,e.born<clock)/\(es.toList.map (·.born)).Nodup
def yW(ks:List D):Prop:=ks.Nodup/\∀k∈ks,∃n,k= .int .i64 n
mutual
def D.den (B:Nat->Prop)(w:World):D->Value->Prop
 | .int k n,v=>v= .int k n
 | .bool b,v=>v= .bool b
 | .str l,v=>∃s:ByteArray,v= .string s/\s.data.toList=l
 | .eP,v=>v= .nilIface
 | .kT,v=>v= .pointer none
 | .cz,v=>v= .nilFunc
 | .dH,v=>v= .map none
 | .agg cs,v=>∃a,v= .agg a/\D.aC B w cs a.toList/\Flat a.toList
 | .sl es,v=>∃base len cap,v= .slice base len cap/\len=es.length/\len<=cap/\(base=none->cap=0)/\
  ∃sz,∀a,base=some a->(cap≠0->a.spot=none)/\D.elems B w sz a 0 es
 | .iface t d,v=>∃u,v= .iface t u/\D.den B w d u
 | .mp ks vs,v=>∃m es clock p,v= .map (some m)/\w.heap[m]? =some (.map es clock)/\ ¬B m/\iC es clock/\(p=es.toList\/(p.Perm es.toList/\yW ks))/\D.aC B w ks (p.map (·.key))/\D.aC B w vs (p.map (·.val))
def D.aC (B:Nat->Prop)(w:World):List D->List Value->Prop
 |[],vs=>vs=[]
 |d::ds,vs=>∃u us,vs=u::us/\D.den B w d u/\D.aC B w ds us
def D.elems (B:Nat->Prop)(w:World)(sz:Nat)(a:Addr):Nat->List D->Prop
 |_,[]=>True
 |i,e::es=>(∃ev:Value,ev.cells.size=sz/\gE B w (a.add (i*sz)) ev.cells/\D.den B w e ev)/\D.elems B w sz a (i+1) es
end
inductive V where
 |d (x:D)|aq|agg (cs:List V)|bP (vs:List V)
 |ptr (id off:Nat)|osl (id ep:Nat)|pe (id ep i sz off:Nat)|pp (cs:List D) (off:Nat)
 |func (fn:Fn) (first cap:List V)|iface (t:TypeId) (x:V)
 |aa
 |oM (es:List D)|xz (id off n:Nat)|mp (id:Nat)|fw|j7 (id:Nat)
 deriving Inhabited
inductive ad where
 |no|row (cs:List V)|arr (ep:Nat) (ty:TypeId) (sz:Nat) (es:List D)|tP (ep:Nat) (es:List D)
 |map (kt vt:TypeId) (es:List (D×D))
 |loop (nf n:Nat) (env:List V) (ps:List Nat) (a b:IC) (st:LoopState) (HE:Option jS)
 |b8 (es:List (D×D))|rq (es:List (D×D)) (last:Option (D×D))|yX (s:List UInt8) (pos:Nat)
 deriving Inhabited
def aY(l:List V):Nat->V:=fun i=>l.getD i .aa
structure Hp where
 o:Nat->ad
 us:Nat->Prop
def ad.cq:ad->Option Nat
 | .arr ep _ _ _| .tP ep _=>some ep
 |_=>none
def ad.ct:ad->Bool
 | .row _| .map .. | .loop .. | .b8 _| .rq .. | .yX .. =>true
 |_=>false
def ad.live:ad->Bool
 | .row _| .arr .. | .map .. | .loop .. | .rq .. | .yX .. =>true
 |_=>false
def eg:Value->Option Nat
 | .pointer (some a)| .slice (some a) _ _=>some a.block
 | .map (some b)=>some b
 |_=>none
abbrev Place:=Nat->Value
def cG(φ:Place)(H:Hp)(b:Nat):Prop:=∃id,(H.o id).live=true/\eg (φ id)=some b
def ak(M:Nat->Prop)(φ:Place)(H:Hp)(b:Nat):Prop:=M b\/cG φ H b
mutual
def V.den (B:Nat->Prop)(φ:Place)(H:Hp)(w:World):V->Value->Prop
 | .d x,v=>D.den B w x v
 | .aq,v=>v= .slice none 0 0
 | .agg cs,v=>∃a,v= .agg a/\V.aC B φ H w cs a.toList/\Flat a.toList
 | .bP vs,v=>∃a,v= .tuple a/\V.aC B φ H w vs a.toList
 | .ptr id off,v=>v.oneCell'=true/\H.us id/\((H.o id).ct=true->∃b,φ id= .pointer (some ⟨b,0,none⟩)/\v= .pointer (some ⟨b,off,none⟩))
 | .osl id ep,v=>v.oneCell'=true/\H.us id/\∀e,(H.o id).cq=some e->ep<=e/\(ep=e->v=φ id)
 | .pe id ep i sz off,v=>v.oneCell'=true/\H.us id/\∀e,(H.o id).cq=some e->ep<=e/\(ep=e->∃b n c,φ id= .slice (some ⟨b,0,none⟩) n c/\v= .pointer (some ⟨b,i*sz+off,none⟩))
 | .pp cs off,v=>∃a ev,a.spot=none/\v= .pointer (some (a.add off))/\D.aC B w cs ev/\Flat ev/\gE B w a ev.toArray
 | .func fn first cap,v=>∃f c,v= .func fn f c/\V.aC B φ H w first f.toList/\V.aC B φ H w cap c.toList
 | .iface t x,v=>∃u,v= .iface t u/\V.den B φ H w x u
 | .aa,_=>True
 | .oM es,v=>D.den B w (.sl es) v/\∃base n,v= .slice base n n
 | .xz id off n,v=>v.oneCell'=true/\H.us id/\((H.o id).ct=true->∃b,φ id= .pointer (some ⟨b,0,none⟩)/\v= .slice (some ⟨b,off,none⟩) n n)
 | .mp id,v=>v.oneCell'=true/\H.us id/\((H.o id).ct=true->v=φ id)
 | .fw,v=>∃b,v= .bool b
 | .j7 id,v=>v.oneCell'=true/\H.us id/\((H.o id).ct=true->∃b,φ id= .pointer (some ⟨b,0,none⟩)/\v= .func (.yield b) #[] #[])
def V.aC (B:Nat->Prop)(φ:Place)(H:Hp)(w:World):List V->List Value->Prop
 |[],vs=>vs=[]
 |x::xs,vs=>∃u us,vs=u::us/\V.den B φ H w x u/\V.aC B φ H w xs us
end
def eE(B:Nat->Prop)(w:World)(sz:Nat)(es:List D)(xs:List Value):Prop:=
 ∃evs:List Value,xs=evs.flatMap (·.cells.toList)/\(∀ev∈evs,ev.cells.size=sz)/\D.aC B w es evs
def aI(B:Nat->Prop)(w:World):List (D×D)->List MapEntry->Prop
 |[],es=>es=[]
 |(k,x)::l,es=>∃e es',es=e::es'/\D.den B w k e.key/\D.den B w x e.val/\aI B w l es'
def yY(B:Nat->Prop)(w:World)(l:List (D×D))(last:Option (D×D))(b:Nat):Prop:=
 w.heap[b]? =some (.mapIter none 0 #[] 0)/\l=[]/\last=none\/
 ∃m since seen es,w.heap[b]? =some (.mapIter (some m) since seen since)/\w.heap[m]? =some (.map es since)/\ ¬B m/\iC es since/\(∃l',l'.Perm l/\aI B w l' (es.toList.filter fun e=> !seen.contains e.born))/\
  ∀k x,last=some (k,x)->∃e∈es.toList,seen.back?=some e.born/\D.den B w k e.key/\D.den B w x e.val
def kD(B:Nat->Prop)(w:World)(l:List (D×D))(v:Value):Prop:=
 ∃b es clock,v= .map (some b)/\w.heap[b]? =some (.map es clock)/\ ¬B b/\iC es clock/\aI B w l es.toList
def aR(M:Nat->Prop)(φ:Place)(H:Hp)(w:World)(id:Nat):Prop:=
 match H.o id with
 | .no=>True
 | .row cs=>∃b dU ty,φ id= .pointer (some ⟨b,0,none⟩)/\w.heap[b]? =some (.cells dU ty (0,0))/\V.aC (ak M φ H) φ H w cs dU.toList/\Flat dU.toList
 | .arr _ ty sz es=>0<sz/\∃xs,w.ownsRow 0 ty sz (φ id) es.length xs/\eE (ak M φ H) w sz es xs
 | .tP _ es=>D.den (ak M φ H) w (.sl es) (φ id)
 | .loop nf n env ps jv e9 st HE=>∃b r,φ id= .pointer (some ⟨b,0,none⟩)/\w.heap[b]? =some (.loop r)/\r.fn<nf/\r.state=st/\r.pending=HE.map jS.code/\r.params.toList=ps/\r.tmps.size=n/\low n r.assign=jv/\low n r.body=e9/\
  ∀i,V.den (ak M φ H) φ H w (aY env i) (r.tmps.getD i undef)
 | .map _ _ l=>∃b es clock,φ id= .map (some b)/\w.heap[b]? =some (.map es clock)/\iC es clock/\aI (ak M φ H) w l es.toList
 | .b8 l=>kD (ak M φ H) w l (φ id)
 | .rq l last=>∃b,φ id= .pointer (some ⟨b,0,none⟩)/\yY (ak M φ H) w l last b
 | .yX s pos=>∃b,φ id= .pointer (some ⟨b,0,none⟩)/\w.heap[b]? =some (.stringIter ⟨⟨s⟩⟩ pos)
structure az (M:Nat->Prop) (φ:Place) (H:Hp) (w:World):Prop where
 ok:∀id,aR M φ H w id
 fresh:∀id, ¬H.us id->H.o id= .no
 apart:∀i j b,(H.o i).live=true->(H.o j).live=true->eg (φ i)=some b->eg (φ j)=some b->i=j
 ours:∀b,cG φ H b-> ¬M b/\b<w.heap.size
 AR:∀b,M b->b<w.heap.size
structure ei (m:Nat->Prop) (w w':World):Prop where
 os:w'.os=w.os
 tape:w'.tape=w.tape
 output:w'.output=w.output
 size:w.heap.size<=w'.heap.size
 block:∀k,k<w.heap.size-> ¬m k->w'.heap[k]? =w.heap[k]?
structure dV (φ:Place) (H:Hp) (aF:Place) (H':Hp):Prop where
 us:∀id,H.us id->H'.us id
 row:∀id,H.us id->(H'.o id).ct=true->(H.o id).ct=true/\aF id=φ id
 ep:∀id e',H.us id->(H'.o id).cq=some e'->∃e,(H.o id).cq=some e/\e<=e'/\(e=e'->aF id=φ id)
structure Trans (φ:Place) (H:Hp) (w:World) (aF:Place) (H':Hp) (w':World):Prop where
 cH:ei (cG φ H) w w'
 grow:∀b,cG aF H' b->cG φ H b\/w.heap.size<=b
 rel:dV φ H aF H'
theorem ei.refl (m:Nat->Prop)(w:World):ei m w w:=⟨rfl,rfl,rfl,Nat.le_refl _,fun _ _ _=>rfl⟩
theorem dV.refl (φ:Place)(H:Hp):dV φ H φ H:=⟨fun _ h=>h,fun _ _ h=>⟨h,rfl⟩,fun _ e' _ h=>⟨e',h,Nat.le_refl _,fun _=>rfl⟩⟩
theorem Trans.refl (φ:Place)(H:Hp)(w:World):Trans φ H w φ H w:=⟨ei.refl _ _,fun _ h=> .inl h,dV.refl _ _⟩
theorem dV.trans {φ aF DO:Place}{H H' ZS:Hp}(h:dV φ H aF H')(k:dV aF H' DO ZS):dV φ H DO ZS where
 us id ax:=k.us id (h.us id ax)
 row id ax hr:=by
  obtain⟨a,b⟩:=k.row id (h.us id ax) hr
  obtain⟨c,d⟩:=h.row id ax a
  exact⟨c,b.trans d⟩
 ep id e' ax he:=by
  obtain⟨e,h1,h2,h3⟩:=k.ep id e' (h.us id ax) he
  obtain⟨e0,g1,g2,g3⟩:=h.ep id e ax h1
  refine⟨e0,g1,Nat.le_trans g2 h2,fun heq=> ?_⟩
  have a:e0=e:=af
  have b:e=e':=af
  exact(h3 b).trans (g3 a)
theorem Trans.trans {φ aF DO:Place}{H H' ZS:Hp}{w w' Tx:World}(h:Trans φ H w aF H' w')(k:Trans aF H' w' DO ZS Tx):Trans φ H w DO ZS Tx where
 cH:={
  os:=k.cH.os.trans h.cH.os
  tape:=k.cH.tape.trans h.cH.tape
  output:=k.cH.output.trans h.cH.output
  size:=Nat.le_trans h.cH.size k.cH.size
  block:=fun b hb hm=>by
   rw[k.cH.block b (Nat.lt_of_lt_of_le hb h.cH.size) (fun hl=>by
    rcases h.grow b hl with h1|h1
    ·exact hm h1
    ·omega),h.cH.block b hb hm]}
 grow b hl:=by
  rcases k.grow b hl with h1|h1
  ·exact h.grow b h1
  ·exact .inr (Nat.le_trans h.cH.size h1)
 rel:=h.rel.trans k.rel
@[simp] theorem W5 (a:Addr) (j:Nat):(a.add j).block=a.block:=by unfold Addr.add;split<;>rfl
def pZ(w:World)(b:Nat):Prop:=∃cs ty fz,w.heap[b]? =some (.cells cs ty fz)
def c8(w:World)(b:Nat):Prop:=pZ w b\/∃es clock,w.heap[b]? =some (.map es clock)
theorem c8.lt {w:World}{b:Nat}(h:c8 w b):b<w.heap.size:=by
 rcases Nat.lt_or_ge b w.heap.size with hl|hl
 ·exact hl
 ·rcases h with⟨cs,ty,fz,h⟩|⟨es,clock,h⟩
  ·rw[Array.getElem?_eq_none hl]at h;cases h
  ·rw[Array.getElem?_eq_none hl]at h;cases h
theorem oN{w:World}{a:Addr}{u:Value}(h:w.cell? a=some u):pZ w a.block:=by
 unfold World.cell? at h
 split at h
 ·exact⟨_,_,_,by assumption⟩
 ·cases h
theorem tx{w:World}{a:Addr}{u:Value}(h:w.cell? a=some u):c8 w a.block:= .inl (oN h)
theorem gE.mono {B B':Nat->Prop}{w w':World}{a:Addr}{cs:Array Value}
 (hb:∀b,c8 w b-> ¬B b->w'.heap[b]? =w.heap[b]? /\ ¬B' b) (h:gE B w a cs):gE B' w' a cs:=by
 intro j u hj
 obtain⟨h1,h2⟩:=h j u hj
 have ck:c8 w a.block:=by simpa using tx h1
 exact Zv
mutual
theorem D.aS {B B':Nat->Prop}{w w':World}(hb:∀b,c8 w b-> ¬B b->w'.heap[b]? =w.heap[b]? /\ ¬B' b):
 ∀ (x:D) (v:Value),D.den B w x v->D.den B' w' x v
 | .int _ _,_,h| .bool _,_,h| .str _,_,h| .eP,_,h| .kT,_,h| .cz,_,h| .dH,_,h=>by simpa[D.den]using h
 | .agg cs,_,h=>by
   obtain⟨a,rfl,h,hf⟩:=h
   exact⟨a,rfl,D.aT hb cs _ h,hf⟩
 | .sl es,_,h=>by
   obtain⟨base,len,cap,rfl,h1,h2,h3,sz,h4⟩:=h
   exact⟨base,len,cap,rfl,h1,h2,h3,sz,fun a ha=>⟨(h4 a ha).1,D.uz hb sz a es 0 (h4 a ha).2⟩⟩
 | .iface t d,_,h=>by
   obtain⟨u,rfl,h⟩:=h
   exact⟨u,rfl,D.aS hb d u h⟩
 | .mp ks vs,_,h=>by
   obtain⟨m,es,clock,p,rfl,h1,h2,h3,hp,h4,h5⟩:=h
   obtain⟨k1,k2⟩:=hb m (.inr ⟨es,clock,h1⟩) h2
   exact⟨m,es,clock,p,rfl,k1.trans h1,k2,h3,hp,D.aT hb ks _ h4,D.aT hb vs _ h5⟩
theorem D.aT {B B':Nat->Prop}{w w':World}(hb:∀b,c8 w b-> ¬B b->w'.heap[b]? =w.heap[b]? /\ ¬B' b):
 ∀ (ds:List D) (vs:List Value),D.aC B w ds vs->D.aC B' w' ds vs
 |[],_,h=>h
 |d::ds,_,h=>by
  obtain⟨u,us,rfl,h1,h2⟩:=h
  exact⟨u,us,rfl,D.aS hb d u h1,D.aT hb ds us h2⟩
theorem D.uz {B B':Nat->Prop}{w w':World}(hb:∀b,c8 w b-> ¬B b->w'.heap[b]? =w.heap[b]? /\ ¬B' b)(sz:Nat)(a:Addr):
 ∀ (es:List D) (i:Nat),D.elems B w sz a i es->D.elems B' w' sz a i es
 |[],_,_=>trivial
 |e::es,i,h=>by
  obtain⟨⟨ev,h1,h2,h3⟩,h4⟩:=h
  exact⟨⟨ev,h1,h2.mono hb,D.aS hb e ev h3⟩,D.uz hb sz a es (i+1) h4⟩
end
theorem aI.mono {B B':Nat->Prop}{w w':World}(hb:∀b,c8 w b-> ¬B b->w'.heap[b]? =w.heap[b]? /\ ¬B' b):
 ∀ (l:List (D×D)) (es:List MapEntry),aI B w l es->aI B' w' l es
 |[],_,h=>h
 |(k,x)::l,_,h=>by
  obtain⟨e,es,rfl,h1,h2,h3⟩:=h
  exact⟨e,es,rfl,D.aS hb k _ h1,D.aS hb x _ h2,aI.mono hb l es h3⟩
theorem yY.mono {B B':Nat->Prop}{w w':World}(hb:∀b,c8 w b-> ¬B b->w'.heap[b]? =w.heap[b]? /\ ¬B' b){l:List (D×D)}{last:Option (D×D)}{b:Nat}(QR:w'.heap[b]? =w.heap[b]?)(h:yY B w l last b):yY B' w' l last b:=by
 rcases h with⟨h1,h2⟩|⟨m,since,seen,es,h1,h2,h3,h4,h5,h6⟩
 ·exact .inl ⟨QR.trans h1,h2⟩
 ·obtain⟨k1,k2⟩:=hb m (.inr ⟨es,since,h2⟩) h3
  obtain⟨l',h5,Jj⟩:=h5
  refine .inr ⟨m,since,seen,es,QR.trans h1,k1.trans h2,k2,h4,⟨l',h5,aI.mono hb l' _ Jj⟩,fun k x e=> ?_⟩
  obtain⟨e,g1,g2,g3,g4⟩:=h6 k x e
  exact⟨e,g1,g2,D.aS hb k _ g3,D.aS hb x _ g4⟩
theorem kU{B:Nat->Prop}{w:World}:∀ (l:List (D×D)) (es:List MapEntry),aI B w l es↔D.aC B w (l.map (·.1)) (es.map (·.key))/\D.aC B w (l.map (·.2)) (es.map (·.val))
 |[],es=>by
  simp only[aI,List.map_nil,D.aC]
  constructor
  ·rintro rfl;exact⟨rfl,rfl⟩
  ·rintro⟨h,_⟩;simpa using h
 |(k,x)::l,es=>by
  simp only[aI,List.map_cons,D.aC]
  constructor
  ·rintro⟨e,es',rfl,h1,h2,h3⟩
   obtain⟨g1,g2⟩:=(kU l es').1 h3
   exact⟨⟨_,_,rfl,h1,g1⟩,⟨_,_,rfl,h2,g2⟩⟩
  ·rintro⟨⟨u,us,h1,h2,h3⟩,⟨v,vs,h4,h5,h6⟩⟩
   cases es with
   |nil=>simp at h1
   |cons e es'=>
    simp only[List.map_cons,List.cons.injEq]at h1 h4
    obtain⟨rfl,rfl⟩:=h1
    obtain⟨rfl,rfl⟩:=h4
    exact⟨e,es',rfl,h2,h5,(kU l es').2 ⟨h3,h6⟩⟩
theorem kD.den {B:Nat->Prop}{w:World}{l:List (D×D)}{v:Value}(h:kD B w l v):D.den B w (.mp (l.map (·.1)) (l.map (·.2))) v:=by
 obtain⟨b,es,clock,h1,h2,h3,h4,h5⟩:=h
 obtain⟨h6,h7⟩:=(kU _ _).1 h5
 exact⟨b,es,clock,es.toList,h1,h2,h3,h4, .inl rfl,h6,h7⟩
theorem kD.mono {B B':Nat->Prop}{w w':World}(hb:∀b,c8 w b-> ¬B b->w'.heap[b]? =w.heap[b]? /\ ¬B' b){l:List (D×D)}{v:Value}(h:kD B w l v):kD B' w' l v:=by
 obtain⟨b,es,clock,h1,h2,h3,h4,h5⟩:=h
 obtain⟨k1,k2⟩:=hb b (.inr ⟨es,clock,h2⟩) h3
 exact⟨b,es,clock,h1,k1.trans h2,k2,h4,aI.mono hb l _ h5⟩
theorem D.aA {B:Nat->Prop}{w:World}:∀ (ds:List D) (vs:List Value),D.aC B w ds vs->vs.length=ds.length
 |[],_,h=>by simp[D.aC]at h;simp[h]
 |d::ds,_,h=>by obtain⟨u,us,rfl,_,h2⟩:=h;simp[D.aA ds us h2]
theorem D.dp {B:Nat->Prop}{w:World}:∀ (ds:List D) (vs:List Value) (i:Nat) (d:D),D.aC B w ds vs->ds[i]? =some d->∃v,vs[i]? =some v/\D.den B w d v
 |[],_,_,_,_,hd=>by simp at hd
 |d::ds,_,0,x,h,hd=>by
  exact QK
 |d::ds,_,i+1,x,h,hd=>by
  obtain⟨u,us,rfl,_,h2⟩:=h
  simpa using D.dp ds us i x h2 (by simpa using hd)
theorem D.xA {B:Nat->Prop}{w:World}{sz:Nat}{a:Addr}:∀ (es:List D) (i j:Nat) (e:D),D.elems B w sz a i es->es[j]? =some e->
 ∃ev:Value,ev.cells.size=sz/\gE B w (a.add ((i+j)*sz)) ev.cells/\D.den B w e ev
 |[],_,_,_,_,hd=>by simp at hd
 |e::es,i,0,x,h,hd=>by
  simp at hd;subst hd;simpa using h.1
 |e::es,i,j+1,x,h,hd=>by
  have:=D.xA es (i+1) j x h.2 (by simpa using hd)
  simpa[Nat.add_assoc,Nat.add_comm 1 j]using this
section
variable {M:Nat->Prop}{φ aF:Place}{H H':Hp}{w w':World}
theorem Trans.blocks (ht:Trans φ H w aF H' w')(b:Nat)(hc:c8 w b)(h: ¬ak M φ H b):w'.heap[b]? =w.heap[b]? /\ ¬ak M aF H' b:=by
 have hb:=hc.lt
 refine⟨ht.cH.block b hb fun hl=>h (.inr hl), ?_⟩
 rintro(h1|h1)
 ·exact h (.inl h1)
 ·rcases ht.grow b h1 with h2|h2
  ·exact h (.inr h2)
  ·omega
mutual
theorem V.kV (hb:∀b,c8 w b-> ¬ak M φ H b->w'.heap[b]? =w.heap[b]? /\ ¬ak M aF H' b)(hr:dV φ H aF H'):∀ (x:V) (v:Value),V.den (ak M φ H) φ H w x v->V.den (ak M aF H') aF H' w' x v
 | .d x,v,h=>D.aS hb x v h
 | .aq,_,h=>h
 | .aa,_,_=>trivial
 | .oM es,v,h=>⟨D.aS hb (.sl es) v h.1,h.2⟩
 | .xz id off n,v,h=>by
   exact zw5
 | .mp id,v,h=>by
   obtain⟨h0,h1,h2⟩:=h
   refine⟨h0,hr.us id h1,fun cZ=> ?_⟩
   obtain⟨h3,h4⟩:=hr.row id h1 cZ
   exact(h2 h3).trans h4.symm
 | .fw,v,h=>h
 | .j7 id,v,h=>by
   exact zw5
 | .agg cs,_,h=>by obtain⟨a,rfl,h,hf⟩:=h;exact⟨a,rfl,V.fQ hb hr cs _ h,hf⟩
 | .bP cs,_,h=>by obtain⟨a,rfl,h⟩:=h;exact⟨a,rfl,V.fQ hb hr cs _ h⟩
 | .ptr id off,v,h=>by
   exact zw5
 | .osl id ep,v,h=>by
   exact Zm
 | .pe id ep i sz off,v,h=>by
   exact Zm
 | .pp cs off,v,h=>by
   obtain⟨a,ev,h1,h2,h3,h5,h4⟩:=h
   exact⟨a,ev,h1,h2,D.aT hb cs ev h3,h5,h4.mono hb⟩
 | .func fn first cap,_,h=>by
   obtain⟨f,c,rfl,h1,h2⟩:=h
   exact⟨f,c,rfl,V.fQ hb hr first _ h1,V.fQ hb hr cap _ h2⟩
 | .iface t x,_,h=>by obtain⟨u,rfl,h⟩:=h;exact⟨u,rfl,V.kV hb hr x u h⟩
theorem V.fQ (hb:∀b,c8 w b-> ¬ak M φ H b->w'.heap[b]? =w.heap[b]? /\ ¬ak M aF H' b)(hr:dV φ H aF H'):∀ (ds:List V) (vs:List Value),V.aC (ak M φ H) φ H w ds vs->V.aC (ak M aF H') aF H' w' ds vs
 |[],_,h=>h
 |x::xs,_,h=>by
  obtain⟨u,us,rfl,h1,h2⟩:=h
  exact⟨u,us,rfl,V.kV hb hr x u h1,V.fQ hb hr xs us h2⟩
end
theorem V.aS (ht:Trans φ H w aF H' w')(x:V)(v:Value)(h:V.den (ak M φ H) φ H w x v):V.den (ak M aF H') aF H' w' x v:=V.kV ht.blocks ht.rel x v h
theorem V.aT (ht:Trans φ H w aF H' w')(ds:List V)(vs:List Value)(h:V.aC (ak M φ H) φ H w ds vs):V.aC (ak M aF H') aF H' w' ds vs:=V.fQ ht.blocks ht.rel ds vs h
end
end
end Go.Proofs.YtlhemmpklhhgoaaGreat
