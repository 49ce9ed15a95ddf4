/-
  A PART OF THE PROOF. Conditions: none.
-/
import Derived.WalkKit
import Derived.Below
set_option linter.unusedSimpArgs false
set_option linter.unusedVariables false
namespace Go.Proofs.YtlhemmpklhhgoaaGreat
theorem cK{G G':Prop}(g:G')(h:G=G':=by simp+contextual (disch:=first|omega|simp only[go_sem,false_implies]) only[go_sem,wrap64,if_pos,and_self]<;>rfl):G:=Eq.mpr h g
theorem fY{G G':Prop}(g:G')(h:G=G':=by simp+contextual (disch:=first|omega|simp only[go_sem,false_implies]) only[go_sem,wrap64,if_pos,Nat.add_assoc,Nat.left_eq_add,Nat.add_eq_left,Nat.add_left_cancel_iff]<;>rfl):G:=Eq.mpr h g
theorem pD{G:Prop}(h:G:=by simp+contextual (disch:=first|omega|simp only[go_sem,false_implies]) only[go_sem,wrap64,if_pos,and_self]):G:=h
theorem ou{P0 G G':Prop}(p0:P0)(g:G')(h:P0->G=G':=by intro p0;simp+contextual (disch:=first|omega|simp only[go_sem,false_implies]) only[go_sem,wrap64,if_pos,p0]<;>rfl):G:=Eq.mpr (h p0) g
theorem rU{P0 G G':Prop}(p0:P0)(g:G')(h:P0->G=G':=by intro p0;simp+contextual (disch:=first|omega|simp only[go_sem,false_implies]) only[go_sem,wrap64,if_pos,List.length_map,p0]<;>rfl):G:=Eq.mpr (h p0) g
theorem BC{P0 P1 P2 P3 G G':Prop}(p0:P0)(p1:P1)(p2:P2)(p3:P3)(g:G')(h:P0->P1->P2->P3->G=G':=by intro p0 p1 p2 p3;simp+contextual (disch:=first|omega|simp only[go_sem,false_implies]) only[go_sem,wrap64,if_pos,Nat.add_assoc,Nat.left_eq_add,Nat.add_eq_left,Nat.add_left_cancel_iff,p0,p1,p2,p3]<;>rfl):G:=Eq.mpr (h p0 p1 p2 p3) g
theorem sc{P0 P1 G G':Prop}(p0:P0)(p1:P1)(g:G')(h:P0->P1->G=G':=by intro p0 p1;simp+contextual (disch:=first|omega|simp only[go_sem,false_implies]) only[go_sem,wrap64,if_pos,List.length_map,p0,p1]<;>rfl):G:=Eq.mpr (h p0 p1) g
theorem tv{G G':Prop}(g:G')(h:G=G':=by simp+contextual (disch:=first|omega|simp only[go_sem,false_implies]) only[go_sem,wrap64,if_pos,List.length_map]<;>rfl):G:=Eq.mpr h g
theorem K0{P0 P1 G G':Prop}(p0:P0)(p1:P1)(g:G')(h:P0->P1->G=G':=by intro p0 p1;simp+contextual (disch:=first|omega|simp only[go_sem,false_implies]) only[go_sem,wrap64,if_pos,hp,Nat.add_assoc,Nat.left_eq_add,Nat.add_eq_left,Nat.add_left_cancel_iff,p0,p1]<;>rfl):G:=Eq.mpr (h p0 p1) g
theorem Iy{P0 G G':Prop}(p0:P0)(g:G')(h:P0->G=G':=by intro p0;simp+contextual (disch:=first|omega|simp only[go_sem,false_implies]) only[go_sem,wrap64,if_pos,Nat.add_assoc,Nat.left_eq_add,Nat.add_eq_left,Nat.add_left_cancel_iff,p0]<;>rfl):G:=Eq.mpr (h p0) g
theorem a7{G G':Prop}(g:G')(h:G=G':=by simp+contextual only[go_sem]<;>rfl):G:=Eq.mpr h g
theorem K1{P0 P1 P2 P3 P4 P5 P6 P7 G G':Prop}(p0:P0)(p1:P1)(p2:P2)(p3:P3)(p4:P4)(p5:P5)(p6:P6)(p7:P7)(g:G')(h:P0->P1->P2->P3->P4->P5->P6->P7->G=G':=by intro p0 p1 p2 p3 p4 p5 p6 p7;simp+contextual (disch:=first|omega|simp only[go_sem,false_implies]) only[go_sem,wrap64,if_pos,Nat.add_assoc,Nat.left_eq_add,Nat.add_eq_left,Nat.add_left_cancel_iff,List.length_map,p0,p1,p2,p3,p4,p5,p6,p7]<;>rfl):G:=Eq.mpr (h p0 p1 p2 p3 p4 p5 p6 p7) g
theorem BQ{P0 P1 P2 P3 P4 P5 P6 G G':Prop}(p0:P0)(p1:P1)(p2:P2)(p3:P3)(p4:P4)(p5:P5)(p6:P6)(g:G')(h:P0->P1->P2->P3->P4->P5->P6->G=G':=by intro p0 p1 p2 p3 p4 p5 p6;simp+contextual (disch:=first|omega|simp only[go_sem,false_implies]) only[go_sem,wrap64,if_pos,Nat.add_assoc,Nat.left_eq_add,Nat.add_eq_left,Nat.add_left_cancel_iff,List.length_map,p0,p1,p2,p3,p4,p5,p6]<;>rfl):G:=Eq.mpr (h p0 p1 p2 p3 p4 p5 p6) g
theorem pE{P0 P1 P2 G G':Prop}(p0:P0)(p1:P1)(p2:P2)(g:G')(h:P0->P1->P2->G=G':=by intro p0 p1 p2;simp+contextual (disch:=first|omega|simp only[go_sem,false_implies]) only[go_sem,wrap64,if_pos,List.length_map,p0,p1,p2]<;>rfl):G:=Eq.mpr (h p0 p1 p2) g
theorem zR{P0 P1 P2 P3 P4 G G':Prop}(p0:P0)(p1:P1)(p2:P2)(p3:P3)(p4:P4)(g:G')(h:P0->P1->P2->P3->P4->G=G':=by intro p0 p1 p2 p3 p4;simp+contextual (disch:=first|omega|simp only[go_sem,false_implies]) only[go_sem,wrap64,if_pos,Nat.add_assoc,Nat.left_eq_add,Nat.add_eq_left,Nat.add_left_cancel_iff,p0,p1,p2,p3,p4]<;>rfl):G:=Eq.mpr (h p0 p1 p2 p3 p4) g
theorem BR{P0 P1 P2 P3 G G':Prop}(p0:P0)(p1:P1)(p2:P2)(p3:P3)(g:G')(h:P0->P1->P2->P3->G=G':=by intro p0 p1 p2 p3;simp+contextual (disch:=first|omega|simp only[go_sem,false_implies]) only[go_sem,wrap64,if_pos,List.length_map,Nat.add_assoc,Nat.left_eq_add,Nat.add_eq_left,Nat.add_left_cancel_iff,p0,p1,p2,p3]<;>rfl):G:=Eq.mpr (h p0 p1 p2 p3) g
theorem Ey{G G':Prop}(g:G')(h:G=G':=by simp+contextual (disch:=first|omega|simp only[go_sem,false_implies]) only[go_sem,wrap64,if_pos,Nat.add_assoc,Nat.left_eq_add,Nat.add_eq_left,Nat.add_left_cancel_iff,List.length_map]<;>rfl):G:=Eq.mpr h g
theorem Ez{P0 P1 P2 P3 P4 P5 P6 G G':Prop}(p0:P0)(p1:P1)(p2:P2)(p3:P3)(p4:P4)(p5:P5)(p6:P6)(g:G')(h:P0->P1->P2->P3->P4->P5->P6->G=G':=by intro p0 p1 p2 p3 p4 p5 p6;simp+contextual (disch:=first|omega|simp only[go_sem,false_implies]) only[go_sem,wrap64,if_pos,Nat.add_assoc,Nat.left_eq_add,Nat.add_eq_left,Nat.add_left_cancel_iff,p0,p1,p2,p3,p4,p5,p6]<;>rfl):G:=Eq.mpr (h p0 p1 p2 p3 p4 p5 p6) g
theorem Iz{P0 P1 P2 P3 P4 G G':Prop}(p0:P0)(p1:P1)(p2:P2)(p3:P3)(p4:P4)(g:G')(h:P0->P1->P2->P3->P4->G=G':=by intro p0 p1 p2 p3 p4;simp+contextual (disch:=first|omega|simp only[go_sem,false_implies]) only[go_sem,wrap64,if_pos,List.length_map,Nat.add_assoc,Nat.left_eq_add,Nat.add_eq_left,Nat.add_left_cancel_iff,p0,p1,p2,p3,p4]<;>rfl):G:=Eq.mpr (h p0 p1 p2 p3 p4) g
theorem IA{P0 P1 P2 P3 P4 P5 P6 P7 P8 G G':Prop}(p0:P0)(p1:P1)(p2:P2)(p3:P3)(p4:P4)(p5:P5)(p6:P6)(p7:P7)(p8:P8)(g:G')(h:P0->P1->P2->P3->P4->P5->P6->P7->P8->G=G':=by intro p0 p1 p2 p3 p4 p5 p6 p7 p8;simp+contextual (disch:=first|omega|simp only[go_sem,false_implies]) only[go_sem,wrap64,if_pos,Nat.add_assoc,Nat.left_eq_add,Nat.add_eq_left,Nat.add_left_cancel_iff,p0,p1,p2,p3,p4,p5,p6,p7,p8]<;>rfl):G:=Eq.mpr (h p0 p1 p2 p3 p4 p5 p6 p7 p8) g
theorem zS{P0 G:Prop}(p0:P0)(h:P0->G:=by intro p0;simp+contextual (disch:=first|omega|simp only[go_sem,false_implies]) only[go_sem,wrap64,if_pos,p0]):G:=h p0
theorem K2{P0 P1 G G':Prop}(p0:P0)(p1:P1)(g:G')(h:P0->P1->G=G':=by intro p0 p1;simp+contextual (disch:=first|omega|simp only[go_sem,false_implies]) only[go_sem,wrap64,if_pos,Nat.add_assoc,Nat.left_eq_add,Nat.add_eq_left,Nat.add_left_cancel_iff,p0,p1]<;>rfl):G:=Eq.mpr (h p0 p1) g
theorem BS{P0 P1 P2 P3 P4 P5 G G':Prop}(p0:P0)(p1:P1)(p2:P2)(p3:P3)(p4:P4)(p5:P5)(g:G')(h:P0->P1->P2->P3->P4->P5->G=G':=by intro p0 p1 p2 p3 p4 p5;simp+contextual (disch:=first|omega|simp only[go_sem,false_implies]) only[go_sem,wrap64,if_pos,p0,p1,p2,p3,p4,p5]<;>rfl):G:=Eq.mpr (h p0 p1 p2 p3 p4 p5) g
theorem Pp{P0 P1 P2 P3 P4 P5 P6 G:Prop}(p0:P0)(p1:P1)(p2:P2)(p3:P3)(p4:P4)(p5:P5)(p6:P6)(h:P0->P1->P2->P3->P4->P5->P6->G:=by intro p0 p1 p2 p3 p4 p5 p6;simp+contextual (disch:=first|omega|simp only[go_sem,false_implies]) only[go_sem,wrap64,if_pos,Nat.add_assoc,Nat.left_eq_add,Nat.add_eq_left,Nat.add_left_cancel_iff,p0,p1,p2,p3,p4,p5,p6]):G:=h p0 p1 p2 p3 p4 p5 p6
theorem Vt{P0 P1 P2 P3 P4 P5 P6 P7 G G':Prop}(p0:P0)(p1:P1)(p2:P2)(p3:P3)(p4:P4)(p5:P5)(p6:P6)(p7:P7)(g:G')(h:P0->P1->P2->P3->P4->P5->P6->P7->G=G':=by intro p0 p1 p2 p3 p4 p5 p6 p7;simp+contextual (disch:=first|omega|simp only[go_sem,false_implies]) only[go_sem,wrap64,if_pos,List.length_map,Nat.add_assoc,Nat.left_eq_add,Nat.add_eq_left,Nat.add_left_cancel_iff,p0,p1,p2,p3,p4,p5,p6,p7]<;>rfl):G:=Eq.mpr (h p0 p1 p2 p3 p4 p5 p6 p7) g
theorem Vu{P0 P1 P2 P3 P4 P5 P6 G G':Prop}(p0:P0)(p1:P1)(p2:P2)(p3:P3)(p4:P4)(p5:P5)(p6:P6)(g:G')(h:P0->P1->P2->P3->P4->P5->P6->G=G':=by intro p0 p1 p2 p3 p4 p5 p6;simp+contextual (disch:=first|omega|simp only[go_sem,false_implies]) only[go_sem,wrap64,if_pos,List.length_map,Nat.add_assoc,Nat.left_eq_add,Nat.add_eq_left,Nat.add_left_cancel_iff,p0,p1,p2,p3,p4,p5,p6]<;>rfl):G:=Eq.mpr (h p0 p1 p2 p3 p4 p5 p6) g
theorem IB{P0 P1 G G':Prop}(p0:P0)(p1:P1)(g:G')(h:P0->P1->G=G':=by intro p0 p1;simp+contextual (disch:=first|omega|simp only[go_sem,false_implies]) only[go_sem,wrap64,if_pos,p0,p1]<;>rfl):G:=Eq.mpr (h p0 p1) g
theorem K4{P0 P1 P2 P3 G G':Prop}(p0:P0)(p1:P1)(p2:P2)(p3:P3)(g:G')(h:P0->P1->P2->P3->G=G':=by intro p0 p1 p2 p3;simp+contextual (disch:=first|omega|simp only[go_sem,false_implies]) only[go_sem,wrap64,if_pos,List.length_map,p0,p1,p2,p3]<;>rfl):G:=Eq.mpr (h p0 p1 p2 p3) g
theorem K5{P0 P1 G:Prop}(p0:P0)(p1:P1)(h:P0->P1->G:=by intro p0 p1;simp+contextual (disch:=first|omega|simp only[go_sem,false_implies]) only[go_sem,wrap64,if_pos,List.length_map,p0,p1]):G:=h p0 p1
theorem K6{P0 G:Prop}(p0:P0)(h:P0->G:=by intro p0;simp+contextual (disch:=first|omega|simp only[go_sem,false_implies]) only[go_sem,wrap64,if_pos,List.length_map,p0]):G:=h p0
theorem Vv{P0 P1 P2 P3 P4 G G':Prop}(p0:P0)(p1:P1)(p2:P2)(p3:P3)(p4:P4)(g:G')(h:P0->P1->P2->P3->P4->G=G':=by intro p0 p1 p2 p3 p4;simp+contextual (disch:=first|omega|simp only[go_sem,false_implies]) only[go_sem,wrap64,if_pos,fx,Nat.add_assoc,Nat.left_eq_add,Nat.add_eq_left,Nat.add_left_cancel_iff,p0,p1,p2,p3,p4]<;>rfl):G:=Eq.mpr (h p0 p1 p2 p3 p4) g
theorem Pq{G G':Prop}(g:G')(h:G=G':=by simp+contextual (disch:=first|omega|simp only[go_sem,false_implies]) only[go_sem,wrap64,if_pos,List.length_map,beq_self_eq_true]<;>rfl):G:=Eq.mpr h g
theorem Vw{P0 P1 P2 G G':Prop}(p0:P0)(p1:P1)(p2:P2)(g:G')(h:P0->P1->P2->G=G':=by intro p0 p1 p2;simp+contextual (disch:=first|omega|simp only[go_sem,false_implies]) only[go_sem,wrap64,if_pos,Nat.add_assoc,Nat.left_eq_add,Nat.add_eq_left,Nat.add_left_cancel_iff,p0,p1,p2]<;>rfl):G:=Eq.mpr (h p0 p1 p2) g
theorem Vx{G:Prop}(h:G:=by simp+contextual (disch:=first|omega|simp only[go_sem,false_implies]) only[go_sem,wrap64,if_pos,Nat.add_assoc,Nat.left_eq_add,Nat.add_eq_left,Nat.add_left_cancel_iff]):G:=h
theorem K7{P0 P1 P2 G G':Prop}(p0:P0)(p1:P1)(p2:P2)(g:G')(h:P0->P1->P2->G=G':=by intro p0 p1 p2;simp+contextual (disch:=first|omega|simp only[go_sem,false_implies]) only[go_sem,wrap64,if_pos,p0,p1,p2]<;>rfl):G:=Eq.mpr (h p0 p1 p2) g
theorem kU{P0 G G':Prop}(p0:P0)(g:G')(h:P0->G=G':=by intro p0;simp+contextual only[go_sem,p0]<;>rfl):G:=Eq.mpr (h p0) g
theorem Vy{P0 G G':Prop}(p0:P0)(g:G')(h:P0->G=G':=by intro p0;simp+contextual (disch:=first|omega|simp only[go_sem,false_implies]) only[go_sem,wrap64,if_pos,List.length_map,bne_self_eq_false,p0]<;>rfl):G:=Eq.mpr (h p0) g
theorem aag{P0 P1 P2 G G':Prop}(p0:P0)(p1:P1)(p2:P2)(g:G')(h:P0->P1->P2->G=G':=by intro p0 p1 p2;simp+contextual (disch:=first|omega|simp only[go_sem,false_implies]) only[go_sem,wrap64,if_pos,m7,Nat.add_assoc,Nat.left_eq_add,Nat.add_eq_left,Nat.add_left_cancel_iff,List.length_map,p0,p1,p2]<;>rfl):G:=Eq.mpr (h p0 p1 p2) g
theorem Vz{G:Prop}(h:G:=by simp+contextual (disch:=first|omega|simp only[go_sem,false_implies]) only[go_sem,wrap64,if_pos,List.length_map,beq_self_eq_true]):G:=h
theorem aah{P0 P1 P2 P3 P4 P5 G G':Prop}(p0:P0)(p1:P1)(p2:P2)(p3:P3)(p4:P4)(p5:P5)(g:G')(h:P0->P1->P2->P3->P4->P5->G=G':=by intro p0 p1 p2 p3 p4 p5;simp+contextual (disch:=first|omega|simp only[go_sem,false_implies]) only[go_sem,wrap64,if_pos,List.length_map,Nat.add_assoc,Nat.left_eq_add,Nat.add_eq_left,Nat.add_left_cancel_iff,p0,p1,p2,p3,p4,p5]<;>rfl):G:=Eq.mpr (h p0 p1 p2 p3 p4 p5) g
theorem Pr{P0 P1 G:Prop}(p0:P0)(p1:P1)(h:P0->P1->G:=by intro p0 p1;simp+contextual (disch:=first|omega|simp only[go_sem,false_implies]) only[go_sem,wrap64,if_pos,p0,p1]):G:=h p0 p1
theorem aai{P0 P1 P2 P3 P4 P5 G G':Prop}(p0:P0)(p1:P1)(p2:P2)(p3:P3)(p4:P4)(p5:P5)(g:G')(h:P0->P1->P2->P3->P4->P5->G=G':=by intro p0 p1 p2 p3 p4 p5;simp+contextual (disch:=first|omega|simp only[go_sem,false_implies]) only[go_sem,wrap64,if_pos,Nat.add_assoc,Nat.left_eq_add,Nat.add_eq_left,Nat.add_left_cancel_iff,List.length_map,p0,p1,p2,p3,p4,p5]<;>rfl):G:=Eq.mpr (h p0 p1 p2 p3 p4 p5) g
theorem aaj{P0 P1 P2 P3 G G':Prop}(p0:P0)(p1:P1)(p2:P2)(p3:P3)(g:G')(h:P0->P1->P2->P3->G=G':=by intro p0 p1 p2 p3;simp+contextual (disch:=first|omega|simp only[go_sem,false_implies]) only[go_sem,wrap64,if_pos,Nat.add_assoc,Nat.left_eq_add,Nat.add_eq_left,Nat.add_left_cancel_iff,List.length_map,p0,p1,p2,p3]<;>rfl):G:=Eq.mpr (h p0 p1 p2 p3) g
theorem aak{P0 P1 P2 G G':Prop}(p0:P0)(p1:P1)(p2:P2)(g:G')(h:P0->P1->P2->G=G':=by intro p0 p1 p2;simp+contextual (disch:=first|omega|simp only[go_sem,false_implies]) only[go_sem,wrap64,if_pos,Nat.add_assoc,Nat.left_eq_add,Nat.add_eq_left,Nat.add_left_cancel_iff,List.length_map,p0,p1,p2]<;>rfl):G:=Eq.mpr (h p0 p1 p2) g
theorem aal{P0 G G':Prop}(p0:P0)(g:G')(h:P0->G=G':=by intro p0;simp+contextual (disch:=first|omega|simp only[go_sem,false_implies]) only[go_sem,wrap64,if_pos,List.length_map,Nat.add_assoc,Nat.left_eq_add,Nat.add_eq_left,Nat.add_left_cancel_iff,p0]<;>rfl):G:=Eq.mpr (h p0) g
theorem aam{P0 G G':Prop}(p0:P0)(g:G')(h:P0->G=G':=by intro p0;simp+contextual (disch:=first|omega|simp only[go_sem,false_implies]) only[go_sem,wrap64,if_pos,Nat.add_assoc,Nat.left_eq_add,Nat.add_eq_left,Nat.add_left_cancel_iff,List.length_map,p0]<;>rfl):G:=Eq.mpr (h p0) g
theorem aan{P0 P1 G G':Prop}(p0:P0)(p1:P1)(g:G')(h:P0->P1->G=G':=by intro p0 p1;simp+contextual (disch:=first|omega|simp only[go_sem,false_implies]) only[go_sem,wrap64,if_pos,Nat.add_assoc,Nat.left_eq_add,Nat.add_eq_left,Nat.add_left_cancel_iff,k3,p0,p1]<;>rfl):G:=Eq.mpr (h p0 p1) g
theorem aao{P0 G:Prop}(p0:P0)(h:P0->G:=by intro p0;simp+contextual (disch:=first|omega|simp only[go_sem,false_implies]) only[go_sem,wrap64,if_pos,hc,List.length_map,if_true,Nat.zero_le,Nat.le_refl,List.take_length,p0]):G:=h p0
theorem aap{G G':Prop}(g:G')(h:G=G':=by simp+contextual (disch:=first|omega|simp only[go_sem,false_implies]) only[go_sem,wrap64,if_pos,List.length_map,beq_self_eq_true,Bool.and_true]<;>rfl):G:=Eq.mpr h g
theorem VA{P0 G G':Prop}(p0:P0)(g:G')(h:P0->G=G':=by intro p0;simp+contextual only[go_sem,Nat.add_assoc,Nat.left_eq_add,Nat.add_eq_left,Nat.add_left_cancel_iff,p0]<;>rfl):G:=Eq.mpr (h p0) g
theorem aaq{P0 P1 G G':Prop}(p0:P0)(p1:P1)(g:G')(h:P0->P1->G=G':=by intro p0 p1;simp+contextual (disch:=first|omega|simp only[go_sem,false_implies]) only[go_sem,wrap64,if_pos,List.length_map,bne_self_eq_false,p0,p1]<;>rfl):G:=Eq.mpr (h p0 p1) g
theorem aar{G G':Prop}(g:G')(h:G=G':=by simp+contextual only[go_sem,K8,Nat.add_assoc,Nat.left_eq_add,Nat.add_eq_left,Nat.add_left_cancel_iff,List.replicate]<;>rfl):G:=Eq.mpr h g
theorem aas{P0 P1 P2 G:Prop}(p0:P0)(p1:P1)(p2:P2)(h:P0->P1->P2->G:=by intro p0 p1 p2;simp+contextual (disch:=first|omega|simp only[go_sem,false_implies]) only[go_sem,wrap64,if_pos,List.length_map,p0,p1,p2]):G:=h p0 p1 p2
theorem aat{G G':Prop}(g:G')(h:G=G':=by simp+contextual (disch:=first|omega|simp only[go_sem,false_implies]) only[go_sem,wrap64,if_pos,m7]<;>rfl):G:=Eq.mpr h g
theorem aau{G:Prop}(h:G:=by simp+contextual (disch:=first|omega|simp only[go_sem,false_implies]) only[go_sem,wrap64,if_pos,m7]):G:=h
theorem dh{P:Prop}(h:P:=by repeat(first|exact hg.mono (by omega)|exact Good.nil|refine Good.ay ?_ (by omega) rfl|refine Good.ay ?_ (by omega) (x8 _ _ _ (by omega))|refine Good.ay ?_ (by omega) (by simp[ad.refs,V.aL,V.refs]<;>omega))):P:=h
theorem dT{P:Prop}(h:P:=by(repeat(first|exact x9|refine gh ?_|refine ow rfl ?_|refine ow (mO (o8 (by omega))) ?_|refine Gn rfl (by simp[V.refs,V.aL]<;>first|omega|assumption) ?_))):P:=h
theorem jH{P:Prop}(h:P:=by(repeat(first|exact gO|refine cD ?_|refine cZ rfl ?_|refine cZ (mO (o8 (by omega))) ?_|refine jI 0 rfl rfl rfl ?_|refine iA rfl (by simp[V.refs,V.aL]<;>first|omega|assumption) ?_|refine l0 rfl (by simp[V.ids]<;>omega) ?_))):P:=h
theorem af{P:Prop}(h:P:=by omega):P:=h
theorem ai{P:Prop}(h:P:=by kernel_rfl):P:=h
theorem cg{P:Prop}(h:P:=by(repeat(first|rfl|rw[aa]|rw[ae _ _ _ _ (by omega)]))):P:=h
theorem R8{P:Prop}(h:P:=by simp[V.refs,V.aL]<;>first|omega|assumption):P:=h
theorem zy7{P:Prop}(h:P:=by simp[ad.refs,V.aL,V.refs]<;>omega):P:=h
theorem aE{P:Prop}(h:P:=by simp):P:=h
theorem R9{P:Prop}(h:P:=by simp[V.ids]<;>omega):P:=h
theorem VB{P:Prop}(h:P:=by exact mP hM1.symm _ _ (by omega) (Good.ay (Good.ay (Good.ay (Good.ay (Good.ay (Good.ay (Good.ay (Good.mono (jJ lx lm cf Et) (by omega)) (by omega) rfl) (by omega) rfl) (by omega) rfl) (by omega) rfl) (by omega) rfl) (by omega) rfl) (by omega) rfl) (fun j j1 j2 j3=>by(repeat(first|rfl|rw[aa]|rw[ae _ _ _ _ (by omega)]));exact se (by omega) (by omega) j2 j3 (by omega) (by omega))):P:=h
theorem EA{P:Prop}(h:P:=by rintro⟨h1,h2⟩;first|(cases h1;done)|(cases h2;done)):P:=h
theorem vi{P:Prop}(h:P:=by subst e;(repeat(first|rfl|rw[aa]|rw[ae _ _ _ _ (by omega)]))):P:=h
theorem Ps{P:Prop}(h:P:=by(repeat(first|rfl|rw[aa]|rw[ae _ _ _ _ (by omega)]))<;>exact u0):P:=h
theorem Pt{P:Prop}(h:P:=by(repeat(first|rfl|rw[aa]|rw[ae _ _ _ _ (by omega)]))<;>exact u1):P:=h
theorem Pu{P:Prop}(h:P:=by(repeat(first|rfl|rw[aa]|rw[ae _ _ _ _ (by omega)]))<;>exact ua):P:=h
theorem je{P:Prop}(h:P:=by simpa[execOp,gy]using this):P:=h
theorem bF{P:Prop}(h:P:=by decide):P:=h
theorem xE{P:Prop}(h:P:=by cases rs with|nil=>exact ho.elim|cons x l=>cases l<;>exact ho.elim):P:=h
theorem ID{P:Prop}(h:P:=by have _:=lx;have _:=lm;have _:=cf;unfold rV;(repeat(first|rfl|rw[aa]|rw[ae _ _ _ _ (by omega)]))):P:=h
theorem VC{P:Prop}(h:P:=by simp only[ay]<;>((repeat' split)<;>first|rfl|omega|(subst_vars;first|rfl|assumption|(symm;assumption)|omega|(simp_all;done)))):P:=h
theorem K9{P:Prop}(h:P:=by exact⟨_,oT,jK,hq, .of_steps (.one h0 stepR_seq) (.pass (x:= .code y) rfl (fun _ _=> .inl (by simp)) dx)⟩):P:=h
theorem eI{P:Prop}(h:P:=by rw[ho];rfl):P:=h
theorem afx{P:Prop}(h:P:=by exact hK _ _ (by omega) (fin _ (by omega)) (fun j hj=>by(repeat(first|rfl|rw[aa]|rw[ae _ _ _ _ (by omega)])))):P:=h
theorem IE{P:Prop}(h:P:=by(repeat(first|rfl|rw[aa]|rw[ae _ _ _ _ (by omega)]))<;>exact Gp):P:=h
theorem IF{P:Prop}(h:P:=by(repeat(first|rfl|rw[aa]|rw[ae _ _ _ _ (by omega)]))<;>exact e1):P:=h
theorem IG{P:Prop}(h:P:=by(repeat(first|rfl|rw[aa]|rw[ae _ _ _ _ (by omega)]))<;>exact e2):P:=h
theorem II{P:Prop}(h:P:=by(repeat(first|rfl|rw[aa]|rw[ae _ _ _ _ (by omega)]))<;>exact e5):P:=h
theorem IJ{P:Prop}(h:P:=by(repeat(first|rfl|rw[aa]|rw[ae _ _ _ _ (by omega)]))<;>exact e6):P:=h
theorem IK{P:Prop}(h:P:=by(repeat(first|rfl|rw[aa]|rw[ae _ _ _ _ (by omega)]))<;>exact e7):P:=h
theorem IL{P:Prop}(h:P:=by unfold zT;(repeat(first|rfl|rw[aa]|rw[ae _ _ _ _ (by omega)]))):P:=h
theorem aav{P:Prop}(h:P:=by exact⟨false, .inl rfl,rfl,jL (fun _ _ h=>by cases h.1) (by rintro⟨h1,h2⟩;first|(cases h1;done)|(cases h2;done)),eq _ (fun d=>by rw[aaw w d ht])⟩):P:=h
theorem IM{P:Prop}(h:P:=by(repeat(first|rfl|rw[aa]|rw[ae _ _ _ _ (by omega)]));exact fm):P:=h
theorem IP{P:Prop}(h:P:=by(repeat(first|rfl|rw[aa]|rw[ae _ _ _ _ (by omega)]));exact e3):P:=h
theorem IQ{P:Prop}(h:P:=by(repeat(first|rfl|rw[aa]|rw[ae _ _ _ _ (by omega)]));exact o0):P:=h
theorem IU{P:Prop}(h:P:=by(repeat(first|rfl|rw[aa]|rw[ae _ _ _ _ (by omega)]));exact o1):P:=h
theorem aax{P:Prop}(h:P:=by exact h4 _ _ (by omega) (Good.ay (Good.ay (Good.ay (h2.mono (by omega)) (by omega) rfl) (by omega) rfl) (by omega) rfl) (fun j j1 j2=>by(repeat(first|rfl|rw[aa]|rw[ae _ _ _ _ (by omega)])))):P:=h
theorem uf{P:Prop}(h:P:=by simp[ad.refs,V.aL,V.refs]):P:=h
theorem gL{P:Prop}(h:P:=by simp;omega):P:=h
theorem kV{P:Prop}(h:P:=by dsimp only;omega):P:=h
theorem La{P:Prop}(h:P:=by(repeat(first|exact IV|refine EB ?_|refine Pv rfl ?_))):P:=h
theorem Lb{P:Prop}(h:P:=by(repeat(first|rfl|rw[aa]|rw[ae _ _ _ _ (by omega)]));exact f7):P:=h
theorem IW{P:Prop}(h:P:=by rw[List.drop_eq_getElem_cons i1,i2]):P:=h
theorem IX{P:Prop}(h:P:=by exact se (by omega) (by omega) j2 j3 (by omega) (by omega)):P:=h
theorem VD{P:Prop}(h:P:=by have _:=lx;have _:=lm;have _:=cf;unfold Gq;(repeat(first|rfl|rw[aa]|rw[ae _ _ _ _ (by omega)]))):P:=h
theorem aay{P:Prop}(h:P:=by exact⟨_,_,_,_,_,_,_,hK,by simp[Instr.range,run_underlying ht,pF], .inl rfl,n1,n2,⟨rfl,by simp,fun _=>⟨w.heap.size,by simp,rfl⟩⟩,fun j hj=> .inr (by simpa using hj)⟩):P:=h
theorem aaz{P:Prop}(h:P:=by exact⟨_,_,_,_,_,_,_,hK,by simp[Instr.range,run_underlying ht], .inl rfl,n1,n2,⟨rfl,by simp,fun _=>⟨w.heap.size,by simp,rfl⟩⟩,fun j hj=> .inr (by simpa using hj)⟩):P:=h
theorem Pw{P:Prop}(h:P:=by unfold Gs Eu;(repeat(first|rfl|rw[aa]|rw[ae _ _ _ _ (by omega)]))):P:=h
theorem m8{P:Prop}(h:P:=by simpa using hj):P:=h
theorem VE{P:Prop}(h:P:=by rw[g5 _ (by omega) (by omega) (by omega)];(repeat(first|rfl|rw[aa]|rw[ae _ _ _ _ (by omega)]))):P:=h
theorem zU{P:Prop}(h:P:=by simp[Op.equalIn,run_underlying ht]):P:=h
theorem afy{P:Prop}(h:P:=by exact⟨false, .inl rfl,rfl,jL (fun _ _ h=>by cases h.1) (by rintro⟨h1,h2⟩;first|(cases h1;done)|(cases h2;done)),eq _ (fun d=>by rw[aaA w d ht])⟩):P:=h
theorem afz{P:Prop}(h:P:=by exact⟨false, .inl rfl,rfl,jL (fun _ _ h=>by cases h.1) (by rintro⟨h1,h2⟩;first|(cases h1;done)|(cases h2;done)),eq _ (fun d=>by rw[aaB w d ht])⟩):P:=h
theorem aaC{P:Prop}(h:P:=by exact⟨false, .inl rfl,rfl,jL (fun _ _ h=>by cases h.1) (by rintro⟨h1,h2⟩;first|(cases h1;done)|(cases h2;done)),eq _ (fun d=>by rw[aaD w d ht])⟩):P:=h
theorem oU{P:Prop}(h:P:=by simp[V.refs]):P:=h
theorem Px{P:Prop}(h:P:=by(repeat(first|rfl|rw[aa]|rw[ae _ _ _ _ (by omega)]));exact fx):P:=h
theorem Py{P:Prop}(h:P:=by subst e8;(repeat(first|rfl|rw[aa]|rw[ae _ _ _ _ (by omega)]))):P:=h
theorem aaE{P:Prop}(h:P:=by exact⟨a,ev,h1,h2,D.aV (w:=w) (w':=w) (fun b _ hn=>⟨rfl,hB b hn⟩) cs ev h3,h5,h4.mono (w:=w) (w':=w) (fun b _ hn=>⟨rfl,hB b hn⟩)⟩):P:=h
theorem aaF{P:Prop}(h:P:=by exact .inl ⟨_,_,_, .inr ⟨c,f,g,first,cap,hc,fi,hf, .inr (.inl ⟨rs,hH,rfl,fun id aw=>by simpa using List.all_eq_true.1 mV id aw⟩)⟩,h⟩):P:=h
theorem aaG{P:Prop}(h:P:=by exact .inl ⟨_,_,_, .inr ⟨c,f,g,first,cap,hc,fi,hf, .inr (.inr (.inr ⟨hH,fun id aw=>by simpa using List.all_eq_true.1 mV id aw⟩))⟩,h⟩):P:=h
theorem aaH{P:Prop}(h:P:=by exact cQ.same hH _ hK (by simp only[Sem.run_bind,hr,Result.andThen_ok];rfl) ⟨_,rfl,zv,[.bool false],rfl,r2, .bool false,[],rfl,rfl,rfl⟩):P:=h
theorem aaI{P:Prop}(h:P:=by exact .inr ⟨_,_,_,⟨c,f,g,first,cap,hc,fi,hf, .inr ⟨x,Δ,hH,rfl,rfl,fun id aw=>by simpa using List.all_eq_true.1 mV id aw⟩⟩,h⟩):P:=h
theorem VF{P:Prop}(h:P:=by subst e1;(repeat(first|rfl|rw[aa]|rw[ae _ _ _ _ (by omega)]));exact q5):P:=h
theorem pG{P:Prop}(h:P:=by simp[o9,aw]):P:=h
theorem aaJ{P:Prop}(h:P:=by exact hK k (by rw[zV,Bool.true_or,decide_eq_true_eq];omega) _ _ (by omega) (m2.mono (by omega)) (fun j hj=>m3 j (by omega))):P:=h
theorem aaK{P:Prop}(h:P:=by rw[List.length_map];exact Nat.le_refl _):P:=h
theorem aaL{P:Prop}(h:P:=by exact(OW.ay (i:=nx'+3) (m:=nx'+7) (by omega) (by omega) (by omega) rfl).ay (by omega) (by omega) (by omega) rfl):P:=h
theorem VG{P:Prop}(h:P:=by subst e2;(repeat(first|rfl|rw[aa]|rw[ae _ _ _ _ (by omega)]))):P:=h
theorem VH{P:Prop}(h:P:=by(repeat(first|rfl|rw[aa]|rw[ae _ _ _ _ (by omega)]));exact q3):P:=h
theorem VI{P:Prop}(h:P:=by(repeat(first|rfl|rw[aa]|rw[ae _ _ _ _ (by omega)]));exact i4):P:=h
theorem afA{P:Prop}(h:P:=by exact⟨b,r,k1,k2,k3,k4,k5,k6,k7,k8,k9,fun i=>fS _ _ (fun r hr=>hrefs r (V.ya _ _ r hr)) (k10 i)⟩):P:=h
theorem lD{P:Prop}(h:P:=by simp[hy]):P:=h
theorem Pz{P:Prop}(h:P:=by rw[hold id (by omega) (by omega),Kw id (by omega) aw]):P:=h
theorem VJ{P:Prop}(h:P:=by injection h with h;injection h with h;subst h;right;rw[Lc];omega):P:=h
theorem PA{P:Prop}(h:P:=by simpa[execOp,gy,resolve,invoke,builtin]using this):P:=h
theorem aaM{P:Prop}(h:P:=by exact⟨fo PB.1,fo PB.2,fun id aw=>⟨dj yc.1.1 id aw,dj yc.1.2 id aw⟩,fun id aw=>dj yc.2 id aw⟩):P:=h
theorem aaN{P:Prop}(h:P:=by simp only[Sem.run_bind,hr,Result.andThen_ok];rfl):P:=h
theorem aaO{P:Prop}(h:P:=by exact⟨t,by simp only[lC,if_neg h1],hv,rfl,fun h=>absurd h h1,fun _=>rfl,fun h=>absurd h h1⟩):P:=h
theorem aaP{P:Prop}(h:P:=by unfold xF;exact Nat.le_trans (List.length_filter_le _ _) (by rw[List.length_map];exact Nat.le_refl _)):P:=h
theorem Ld{P:Prop}(h:P:=by simp[ad.refs,V.aL,V.refs];omega):P:=h
theorem aaQ{P:Prop}(h:P:=by exact fin _ [] (fun b hb=>by cases hb) eA (World.ownsRow_nil w' 0 ty sz) ⟨[],rfl,by simp,rfl⟩ rfl):P:=h
theorem IY{P:Prop}(h:P:=by injection h with h;exact h ▸ ht):P:=h
theorem afB{P:Prop}(h:P:=by exact⟨w.heap.size,es,clock,rfl,heap_alloc_new w _,e3,aJ.mono (ht.blocks (M:=M)) l _ e4⟩):P:=h
theorem aaR{P:Prop}(h:P:=by exact hK _ (by rw[zV,List.drop_length];rfl) _ _ (by omega) (hg.mono (by omega)) (fun j hj=>rfl)):P:=h
theorem aaS{P:Prop}(h:P:=by simp only[Op.operands,Call.operands];exact Array.mem_append.2 (.inr (Array.mem_toList_iff.1 hx))):P:=h
theorem aaT{P:Prop}(h:P:=by rw[hn,hI,EC hx];rfl):P:=h
theorem afC{P:Prop}(h:P:=by exact Le hu c7 (fun id h=> .inl (by rw[kW]at h;exact h)) g1.symm g3 ky (jm rfl)):P:=h
theorem Lf{P:Prop}(h:P:=by injection h with h;subst h;exact hK):P:=h
theorem aaU{P:Prop}(h:P:=by simp only[h1,dk,Option.map_some];exact hK):P:=h
theorem aaV{P:Prop}(h:P:=by exact⟨k1,BT.tr.trans k2,BT.size,BT.defers.mono k2,fun j=>V.aU k2 _ _ (BT.env j)⟩):P:=h
theorem aaW{P:Prop}(h:P:=by rw[ae _ _ _ _ e,ae _ _ _ _ e,ae _ _ _ _ (by omega),hI.eq j hj,ae _ _ _ _ e]):P:=h
theorem PC{P:Prop}(h:P:=by exact V.aU (ht.trans k2) _ _ (hs.env i)):P:=h
theorem afD{P:Prop}(h:P:=by exact⟨k1,hs.tr.trans k2,hs.size,hs.defers.mono k2,fun j=>V.aU k2 _ _ (hs.env j)⟩):P:=h
theorem aaX{P:Prop}(h:P:=by exact Nat.le_trans (List.length_filter_le _ _) (by rw[List.length_map];exact Nat.le_refl _)):P:=h
theorem aaY{P:Prop}(h:P:=by exact jM sx (vj (by simp[V.refs];omega) (vl 0 rfl rfl rfl (jN jO)))):P:=h
theorem aaZ{P:Prop}(h:P:=by rw[m3 id h2 (by omega),ae _ _ _ _ (by omega),ae _ _ _ _ (by omega),c7 id h2 h3]):P:=h
theorem aa0{P:Prop}(h:P:=by subst e2;(repeat(first|rfl|rw[aa]|rw[ae _ _ _ _ (by omega)]));exact q6):P:=h
theorem aa1{P:Prop}(h:P:=by subst e1;(repeat(first|rfl|rw[aa]|rw[ae _ _ _ _ (by omega)]));exact w4):P:=h
theorem afE{P:Prop}(h:P:=by exact Bool.false_ne_true (l6.trans h.marks)):P:=h
theorem aa2{P:Prop}(h:P:=by exact hQ _ _ _ _ val k5 (eU hs k1 k2 (o':=o') (nx':=nx') rfl fun id hu=>hu) k4):P:=h
theorem Lg{P:Prop}(h:P:=by exact⟨_,oT,jK,hq, .of_steps (.one h0 stepR_block) dx⟩):P:=h
theorem Lh{P:Prop}(h:P:=by exact⟨_,oT,jK,hq, .of_steps (.one h0 kD) dx⟩):P:=h
theorem BU{P:Prop}(h:P:=by unfold fF;rw[PD trivial]):P:=h
theorem Sa{P:Prop}(h:P:=by exact .inr (.inr (.inr (pa.mono (fun v o n h=>hK _ h) (fun v o n h=>hX _ _ h) h)))):P:=h
theorem Sb{P:Prop}(h:P:=by(repeat(first|rfl|rw[aa]|rw[ae _ _ _ _ (by omega)]));exact pj j hj e1):P:=h
theorem Li{P:Prop}(h:P:=by exact h ▸ ⟨hb,[],by simp⟩):P:=h
theorem yd{P:Prop}(h:P:=by exact absurd he (by decide)):P:=h
theorem Sc{P:Prop}(h:P:=by exact⟨none,0,0,rfl,rfl,Nat.le_refl _,fun _=>rfl,0,fun a ha=>by cases ha⟩):P:=h
theorem Sd{P:Prop}(h:P:=by exact⟨b,es',clock,k1,k2,k4,aJ.mono (fun b _ hn=>⟨rfl,hB b hn⟩) _ _ k3⟩):P:=h
theorem Gt{P:Prop}(h:P:=by rw[show(hp o nx).o id=_ from ho];rfl):P:=h
theorem Se{P:Prop}(h:P:=by(repeat(first|rfl|rw[aa]|rw[ae _ _ _ _ (by omega)]))<;>exact q1):P:=h
theorem ye{P:Prop}(h:P:=by exact⟨by omega,by omega⟩):P:=h
theorem aa3{P:Prop}(h:P:=by(repeat(first|rfl|rw[aa]|rw[ae _ _ _ _ (by omega)]))<;>exact g1):P:=h
theorem aa4{P:Prop}(h:P:=by(repeat(first|rfl|rw[aa]|rw[ae _ _ _ _ (by omega)]))<;>exact g2):P:=h
theorem aa5{P:Prop}(h:P:=by(repeat(first|rfl|rw[aa]|rw[ae _ _ _ _ (by omega)]))<;>exact g3):P:=h
theorem Sf{P:Prop}(h:P:=by exact fun k hk s' h1 h2=>BV _ (fun x hx=>aY x (ug k hk x hx)) s' h1 h2):P:=h
theorem Lj{P:Prop}(h:P:=by injection h with h;subst h;exact⟨by assumption,hK⟩):P:=h
theorem Sg{P:Prop}(h:P:=by exact⟨k1,xs,k2,evs,k3,k4,D.aV (fun b _ hn=>⟨rfl,hB b hn⟩) _ _ k5⟩):P:=h
theorem BW{P:Prop}(h:P:=by rw[hp];exact ad.noConfusion):P:=h
theorem kE{P:Prop}(h:P:=by simp[hx]):P:=h
theorem Sh{P:Prop}(h:P:=by(repeat(first|rfl|rw[aa]|rw[ae _ _ _ _ (by omega)]));exact q4):P:=h
theorem Si{P:Prop}(h:P:=by rw[show((hp o nx).put (bG o x.ids)).o j=_ from f4 j hm];exact kz.rfl' rfl):P:=h
theorem Sj{P:Prop}(h:P:=by(repeat(first|rfl|rw[aa]|rw[ae _ _ _ _ (by omega)]));exact e5):P:=h
theorem Sk{P:Prop}(h:P:=by(repeat(first|rfl|rw[aa]|rw[ae _ _ _ _ (by omega)]));exact g8):P:=h
theorem Sl{P:Prop}(h:P:=by subst h;(repeat(first|rfl|rw[aa]|rw[ae _ _ _ _ (by omega)]))):P:=h
theorem Sm{P:Prop}(h:P:=by exact hH.fresh j fun hu=>h (.inl hu)):P:=h
theorem aa6{P:Prop}(h:P:=by exact⟨r, .inl rfl,by obtain⟨_,rfl,_⟩:=hx;rfl,fun op=>g2 op p q,g1⟩):P:=h
theorem Lk{P:Prop}(h:P:=by simp at h;obtain⟨rfl,rfl⟩:=h;exact⟨rfl,rfl⟩):P:=h
theorem Sn{P:Prop}(h:P:=by exact hN _ _ _ (jP hs k1 k2 (m9 ho) db rfl fun id hu=> .inl hu)):P:=h
theorem Sp{P:Prop}(h:P:=by rw[show((hp o nx).put (bG o x.ids)).o j=_ from f3 j hm];exact kz.fz _):P:=h
theorem Sq{P:Prop}(h:P:=by exact⟨_,_,_,_,_,_,_,hK,by simp[hr], .inl rfl,h1,h2,h3,by simp⟩):P:=h
theorem aa7{P:Prop}(h:P:=by simp only[a0,Array.size_append,Array.size_replicate];simp at hlen;omega):P:=h
theorem aa8{P:Prop}(h:P:=by exact forall_congr' fun k=>forall_congr' fun hk=>by rw[ih k hk (d+1)]):P:=h
theorem Sr{P:Prop}(h:P:=by cases xv<;>first|(simp[Ss]at hwd;done)|(cases yv<;>simp[he])):P:=h
theorem Su{P:Prop}(h:P:=by exact⟨x,b.trans y,z⟩):P:=h
theorem yf{P:Prop}(h:P:=by simpa[V.refs]using hr):P:=h
theorem Sv{P:Prop}(h:P:=by exact hK _ _ (by omega) (OW.mono (by omega)) c7):P:=h
theorem Sw{P:Prop}(h:P:=by exact bn s1 (fun r hr=>by simp[ad.refs,V.aL,V.refs]at hr)):P:=h
theorem aa9{P:Prop}(h:P:=by rw[zV,Bool.true_or,decide_eq_true_eq];omega):P:=h
theorem Ll{P:Prop}(h:P:=by rw[mV];simp only[o9,fi,xG];exact aw):P:=h
theorem jQ{P:Prop}(h:P:=by cases h):P:=h
theorem Sx{P:Prop}(h:P:=by injection hu with hu;injection hv with hv;subst hu;subst hv;exact h3):P:=h
theorem yg{P:Prop}(h:P:=by simp[V.aL,V.refs]):P:=h
theorem BX{P:Prop}(h:P:=by exact hg.fresh j (by omega)):P:=h
theorem Sz{P:Prop}(h:P:=by exact hN _ _ _ _ k3.2 (ox hs k1 k2 k3.1 db rfl fun id hu=>hu)):P:=h
theorem SA{P:Prop}(h:P:=by exact⟨by omega,fun k hk=>ih k hk (by have:=Tm.l7 hk;omega)⟩):P:=h
theorem SB{P:Prop}(h:P:=by cases hs:IZ P x.a x.b<;>cases hn:x.no<;>simp[hs,hn]at h1|-):P:=h
theorem Lm{P:Prop}(h:P:=by simp at hl;obtain⟨rfl,rfl⟩:=hl;exact hK):P:=h
theorem SC{P:Prop}(h:P:=by rw[ae _ _ _ _ xH,si _ _ (by omega)];exact h0 id (by omega)):P:=h
theorem SD{P:Prop}(h:P:=by exact jM s11 (jN (jN (vl 0 rfl rfl rfl jO)))):P:=h
theorem SE{P:Prop}(h:P:=by subst e2;rw[ED]at hr;simp[ad.refs,V.aL,V.refs]at hr):P:=h
theorem Ln{P:Prop}(h:P:=by simp at hj hy;subst hj;subst hy;exact aY):P:=h
theorem Gu{P:Prop}(h:P:=by rw[if_neg e,if_neg (by omega)]):P:=h
theorem SF{P:Prop}(h:P:=by subst e;rw[hx]at hy;injection hy with hy;rw[<- hy];exact kF):P:=h
theorem aba{P:Prop}(h:P:=by rw[List.length_eraseIdx];simp[hi];omega):P:=h
theorem Gv{P:Prop}(h:P:=by rw[hm];exact ad.noConfusion):P:=h
theorem Lo{P:Prop}(h:P:=by simp only[V.den,D.den]at Gw;rw[Gw]):P:=h
theorem qq{P:Prop}(h:P:=by simp[hz]):P:=h
theorem abb{P:Prop}(h:P:=by exact h3 e (Array.mem_toList_iff.1 he) hb):P:=h
theorem Gx{P:Prop}(h:P:=by rw[hg];simp[dZ,hv,e]):P:=h
theorem SG{P:Prop}(h:P:=by exact cQ.same hH _ h (by simp[execOp,gy,hr]) ⟨_,rfl,hv⟩):P:=h
theorem Lp{P:Prop}(h:P:=by rw[uG];exact df all _ ba):P:=h
theorem Lq{P:Prop}(h:P:=by exact⟨l,rfl,by simp at h1;omega,hl⟩):P:=h
theorem tw{P:Prop}(h:P:=by rw[uh];rfl):P:=h
theorem Gy{P:Prop}(h:P:=by simp[V.aL,V.refs];omega):P:=h
theorem SH{P:Prop}(h:P:=by exact bN t u hu (hQ _ s φ w (.iface t u) h hs ⟨u,rfl,hd⟩)):P:=h
theorem Lr{P:Prop}(h:P:=by rw[if_neg e,if_neg fun h=>e h.symm]):P:=h
theorem Gz{P:Prop}(h:P:=by simp[binOp,BZ hr]):P:=h
theorem Ls{P:Prop}(h:P:=by exact⟨.ret,s',aH,hq,jR,trivial⟩):P:=h
theorem Lt{P:Prop}(h:P:=by exact bnd _ h _ (Nat.le_max_right _ _)):P:=h
theorem SI{P:Prop}(h:P:=by exact⟨e',VK,fr',hR,ComesIn.of_steps SJ hs,Kx,hl⟩):P:=h
theorem tx{P:Prop}(h:P:=by rw[hx];rfl):P:=h
theorem yh{P:Prop}(h:P:=by rw[hx];exact hk):P:=h
theorem Lu{P:Prop}(h:P:=by rw[xz i hi];exact congrArg some hb):P:=h
theorem SK{P:Prop}(h:P:=by exact⟨b,k1,k2.mono (fun b _ hn=>⟨rfl,hB b hn⟩) rfl⟩):P:=h
theorem B0{P:Prop}(h:P:=by exact VL j1 j2 j3):P:=h
theorem vm{P:Prop}(h:P:=by simpa using h2):P:=h
theorem Lw{P:Prop}(h:P:=by unfold fF;exact Eq.trans rfl rfl):P:=h
theorem GA{P:Prop}(h:P:=by rw[SL]at hl;simp at hl):P:=h
theorem GC{P:Prop}(h:P:=by subst hi;simp[Ne.symm h]):P:=h
theorem Lx{P:Prop}(h:P:=by exact⟨.bN _,s',aH,hq,jR,hm⟩):P:=h
theorem Ly{P:Prop}(h:P:=by unfold I0;exact Eq.trans rfl rfl):P:=h
theorem abc{P:Prop}(h:P:=by exact fun _=>I1 _ _ _):P:=h
theorem GD{P:Prop}(h:P:=by rw[this]at h3;cases h3):P:=h
theorem GF{P:Prop}(h:P:=by exact absurd h0 (by simp)):P:=h
theorem LA{P:Prop}(h:P:=by unfold eqGuard;cases op<;>simp):P:=h
theorem GG{P:Prop}(h:P:=by rw[h]at h1;simp at h1):P:=h
theorem LB{P:Prop}(h:P:=by rw[i4];exact fun h=>nomatch h):P:=h
theorem LC{P:Prop}(h:P:=by simp[hj]at hr;exact⟨hr,rfl⟩):P:=h
theorem LD{P:Prop}(h:P:=by simp at hj;subst hj;exact ec):P:=h
theorem yi{P:Prop}(h:P:=by simpa using hx):P:=h
theorem LF{P:Prop}(h:P:=by rw[ho];exact ad.noConfusion):P:=h
theorem LG{P:Prop}(h:P:=by rw[hx];exact ad.noConfusion):P:=h
theorem abd{P:Prop}(h:P:=by rw[zV,List.drop_length];rfl):P:=h
theorem GH{P:Prop}(h:P:=by rw[ae _ _ _ _ e]):P:=h
theorem yj{P:Prop}(h:P:=by rw[h1];rfl):P:=h
theorem B1{P:Prop}(h:P:=by cases b<;>rfl):P:=h
theorem yl{P:Prop}(h:P:=by rw[hj];rfl):P:=h
theorem abe{P:Prop}(h:P:=by exact⟨b,h4.trans h5,h6⟩):P:=h
theorem zw3{P:Prop}(h:P:=by refine fin _ _ (.inr rfl) _ _ af dh (fun j j1 j2=>by(repeat(first|rfl|rw[aa]|rw[ae _ _ _ _ (by omega)]))) (fun h=> ?_);exact afE):P:=h
theorem zw4{P:Prop}(h:P:=by refine aK (bp rfl) ?_;refine ou q2 ?_;refine eJ _ _ _ .busy none af (fin _ _ (fun id aw=>VC) dh af) cg (fun id h3 h4=>by(repeat(first|rfl|rw[aa]|rw[ae _ _ _ _ (by omega)])))):P:=h
theorem zw7{P:Prop}(h:P:=by simp+contextual (disch:=first|omega|simp only[go_sem,false_implies]) only[go_sem,wrap64,if_pos,u0,u1,ua,d0,d1,EE,EF,Nat.add_assoc,Nat.left_eq_add,Nat.add_eq_left,Nat.add_left_cancel_iff,List.length_map,xI,SM,B2];refine aj (1+1) h6 af ?_;rw[hS];refine vn ha.1 Ps Pt (.inl Pu) ?_;exact jH):P:=h
theorem zw8{P:Prop}(h:P:=by simp[Ef,Array.getD_eq_getD_getElem?,Array.getElem?_replicate]at jn;split at jn<;>simp at jn):P:=h
theorem zw9{P:Prop}(h:P:=by obtain⟨h0,h1,h2⟩:=h;refine⟨h0,hr.us id h1,fun c8=> ?_⟩;obtain⟨h3,h4⟩:=hr.row id h1 c8;obtain⟨b,h5,h6⟩:=h2 h3;exact abe):P:=h
theorem VM{P:Prop}(h:P:=by obtain⟨a,b,c⟩:=hr id oU;obtain⟨h0,h1,h2⟩:=h;refine⟨h0,c,fun c8=> ?_⟩;rw[a]at c8;obtain⟨x,y,z⟩:=h2 c8;exact Su):P:=h
theorem VN{P:Prop}(h:P:=by refine K1 u0 u1 ua d0 d1 EE EF xI ?_;refine aj (1+1) h6 af ?_;rw[hS];refine vn ha.1 Ps Pt (.inl Pu) ?_;exact jH):P:=h
theorem VO{P:Prop}(h:P:=by obtain⟨h0,x,hx⟩:=GI hI;simp+contextual only[go_sem,hI,hx,h0];refine aK (bp rfl) ?_;refine a7 ?_;exact aaT):P:=h
theorem VP{P:Prop}(h:P:=by refine K1 u0 u1 ua d0 d1 EE EF fh ?_;refine aj (i+1) h6 af ?_;rw[hS];refine vn ha.1 Ps Pt (.inl Pu) ?_;exact jH):P:=h
theorem VQ{P:Prop}(h:P:=by obtain⟨a,b,c⟩:=hr id oU;obtain⟨h0,h1,h2⟩:=h;refine⟨h0,c,fun c8=> ?_⟩;obtain⟨x,y,z⟩:=h2 (a.1 c8);exact Su):P:=h
theorem LH{P:Prop}(h:P:=by obtain⟨i1,i2⟩:=List.getElem?_eq_some_iff.1 hx;exact IW):P:=h
theorem VR{P:Prop}(h:P:=by intro j hj;simp only[bH,h2,List.mem_map,List.mem_filter]at hj;obtain⟨e,⟨he,hb⟩,rfl⟩:=hj;exact abb):P:=h
theorem abf{P:Prop}(h:P:=by simp only[l8]at h;injection h with h;injection h with _ h;exact Li):P:=h
theorem abg{P:Prop}(h:P:=by obtain⟨h0,h1,h2⟩:=h;refine⟨h0,hr.us id h1,fun e' ql=> ?_⟩;obtain⟨e,g1,g2,g3⟩:=hr.ep id e' h1 ql;obtain⟨h3,h4⟩:=h2 e g1;refine⟨Nat.le_trans h3 g2,fun heq=> ?_⟩;rw[g3 (by omega)];exact h4 af):P:=h
theorem VS{P:Prop}(h:P:=by rw[List.drop_eq_getElem_cons h1];rw[List.getElem?_eq_getElem h1]at hx;injection hx with hx;rw[hx]):P:=h
theorem VT{P:Prop}(h:P:=by obtain⟨z,h1,h⟩:=jq h;simp only[Prod.mk.injEq]at h;obtain⟨rfl,rfl,rfl⟩:=h;exact aaU):P:=h
theorem I2{P:Prop}(h:P:=by refine jI 1 rfl rfl rfl ?_;exact jH):P:=h
theorem PE{P:Prop}(h:P:=by refine cK ?_;refine aK (bp rfl) ?_;exact pD):P:=h
theorem LI{P:Prop}(h:P:=by simp only[St.S,jw]at this;exact this):P:=h
theorem PF{P:Prop}(h:P:=by refine bL.bS _ af af dh (fun j hj=>rfl) ?_;exact dT):P:=h
theorem VU{P:Prop}(h:P:=by obtain⟨h0,x,hx⟩:=GI hI;simp+contextual only[go_sem,h,hI,hx,h0];exact aaT):P:=h
theorem VV{P:Prop}(h:P:=by refine kU hI ?_;refine aK (bp rfl) ?_;refine a7 ?_;rw[hn,hI];rfl):P:=h
theorem abh{P:Prop}(h:P:=by refine⟨t,by simp only[lC,if_pos h1,hl],hv,rfl,fun _=>hl,fun h=>absurd h1 h,fun _=>⟨fun u hu=> ?_,fun h=>absurd h1 h⟩⟩;rw[(fG h1).1 hu];exact Nat.le_refl _):P:=h
theorem VW{P:Prop}(h:P:=by simp only[Array.getD_eq_getD_getElem?];rw[Array.getElem?_setIfInBounds_ne (Ne.symm hi)]):P:=h
theorem VX{P:Prop}(h:P:=by dsimp only;refine bL.bS _ (Nat.le_refl _) af hI.cu (fun _ _=>rfl) ?_;exact dT):P:=h
theorem zW{P:Prop}(h:P:=by subst this;exact pD):P:=h
theorem abi{P:Prop}(h:P:=by rw[ym]at zV;refine fY ?_;refine aj (k+1) ⟨h1,zV⟩ af ?_;refine bL.bS _ (Nat.le_refl _) af (hg.mono af) (fun j hj=>m3 j af) ?_;exact dT):P:=h
theorem abj{P:Prop}(h:P:=by simp only[Option.map_eq_some_iff]at h;obtain⟨d,h1,rfl⟩:=h;obtain⟨arr,rfl,g1,g2⟩:=hx;obtain⟨val,r1,r2⟩:=iB h1 g1 g2;exact fin (r1 w) r2):P:=h
theorem VY{P:Prop}(h:P:=by refine a7 ?_;refine aq (gP _ _ _) rfl ?_;refine a7 ?_;rw[hn]):P:=h
theorem VZ{P:Prop}(h:P:=by subst this;refine rU hn ?_;refine aK (bp rfl) ?_;exact pD):P:=h
theorem abk{P:Prop}(h:P:=by rw[show(⟨put o' [(fr, .arr 0 ty sz es)],fun id=>us id\/id=fr⟩:Hp).o fr=put o' [(fr, .arr 0 ty sz es)] fr from rfl,this]at he;injection he):P:=h
theorem abl{P:Prop}(h:P:=by simp only[hx]at h ho;injection h with h;subst h;simp only[ad.fz]at ho;simp only[aS,ho]at aY;rw[hd (by rw[ho];rfl)];exact aY.den):P:=h
theorem abm{P:Prop}(h:P:=by dsimp only;refine bL.bS _ af af dh (fun j hj=>by(repeat(first|rfl|rw[aa]|rw[ae _ _ _ _ (by omega)]))) ?_;exact dT):P:=h
theorem abn{P:Prop}(h:P:=by obtain⟨g3,x2,g4⟩:=ih cE b1 (fun z hz=>m1 z qq) (fun z hz=>m2 z qq) g1 h;exact⟨g3,x1++x2,by rw[g4,g2,List.append_assoc]⟩):P:=h
theorem abo{P:Prop}(h:P:=by obtain⟨h0,y,h1,h2,h3,h4⟩:=vo h;simp only[Prod.mk.injEq]at h4;obtain⟨rfl,rfl,rfl⟩:=h4;exact⟨h0,y,h1,h2,h3,hK⟩):P:=h
theorem abp{P:Prop}(h:P:=by refine BQ u0 u1 ua d0 d1 EE EF ?_;refine aj (1+1) h6 af ?_;rw[hS];refine vn ha.1 Ps Pt (.inl Pu) ?_;exact jH):P:=h
theorem abq{P:Prop}(h:P:=by simp only[Option.map_eq_some_iff]at h;obtain⟨r,h1,rfl⟩:=h;obtain⟨g1,g2⟩:=V0 h1 hg (ao M φ H) w xv yv hx hy;exact aa6):P:=h
theorem abr{P:Prop}(h:P:=by obtain⟨h3,h4⟩:=hb _ cq h2;exact⟨by rw[World.cell?_of_block (w:=w) (w':=w') (a:=a.add j) (by simpa using h3)];exact h1,h4⟩):P:=h
theorem abt{P:Prop}(h:P:=by simp only[ha];obtain⟨z,h1,h⟩:=jq h;simp only[Prod.mk.injEq]at h;obtain⟨rfl,rfl,rfl⟩:=h;exact zX h1 hK):P:=h
theorem abu{P:Prop}(h:P:=by simp only[hw,if_true];obtain⟨uH,ky⟩:=B3 LJ (fun id aw=>ag2 id (by rw[xz];exact aw)) V1 aY.2;exact afC):P:=h
theorem abv{P:Prop}(h:P:=by cases y<;>simp only[V.same,Bool.false_eq_true,Bool.and_eq_true]at h;rw[Nat.eq_of_beq_eq_true h.1,Nat.eq_of_beq_eq_true h.2]):P:=h
theorem abw{P:Prop}(h:P:=by rw[h]at hy;injection hy with hy;obtain⟨h1,h2⟩:=List.getElem?_eq_some_iff.1 h;rw[List.getElem_range]at h2;rw[<- hy, <- h2]):P:=h
theorem abx{P:Prop}(h:P:=by rw[<- vq];refine iT hH (cy w _) c7 _ _ Ze ?_;unfold aS;simp only[bM,aN,if_true];exact afB):P:=h
theorem aby{P:Prop}(h:P:=by refine cK ?_;refine aK (bp rfl) ?_;refine cK ?_;refine aj (k+1) h2 af (bL.d0 _ ?_);exact dT):P:=h
theorem abz{P:Prop}(h:P:=by intro u hu;simp only[Array.toList_extract,List.extract]at hu;exact hf u (List.mem_of_mem_drop (List.mem_of_mem_take hu))):P:=h
theorem abA{P:Prop}(h:P:=by refine⟨hH,Trans.refl _ _ _, ?_,⟨[],rfl,List.nodup_nil,fun _=>rfl,fun r hr=>by cases hr⟩,B4 hd⟩;exact aa7):P:=h
theorem V2{P:Prop}(h:P:=by obtain⟨hi,_⟩:=List.getElem?_eq_some_iff.1 hm;exact aba):P:=h
theorem abB{P:Prop}(h:P:=by simp only[l8]at h;injection h with h;injection h with h4 h5;subst h4;subst h5;rw[if_pos rfl]at hr;exact⟨n,hr⟩):P:=h
theorem abC{P:Prop}(h:P:=by rw[e];obtain⟨k1,k2⟩:=kG (us':=GJ (Array.replicate ops.size false)) hs.heap (fun id h=> .inl h);exact afD):P:=h
theorem V3{P:Prop}(h:P:=by simp only[bM,aN,h1,if_false];exact Sm):P:=h
theorem abD{P:Prop}(h:P:=by refine a7 ?_;simp at h1;rw[List.drop_eq_nil_of_le h1]at hf;simp only[aQ]at hf;rw[hf]at hK;exact Sv):P:=h
theorem abE{P:Prop}(h:P:=by refine cD (cZ aa3 (iA aa4 oU (cD (cD (jI 0 rfl rfl aa5 ?_)))));exact jH):P:=h
theorem abF{P:Prop}(h:P:=by simp only[Option.some.injEq,Prod.mk.injEq]at h;obtain⟨rfl,rfl,rfl⟩:=h;simp only[ho];exact⟨_,hg,hK⟩):P:=h
theorem V4{P:Prop}(h:P:=by rw[show fr+(j+1)=fr+1+j by omega];exact this):P:=h
theorem abG{P:Prop}(h:P:=by refine aT (key _ _ fun r g1 o' nx' g2 g3 g4=> ?_);refine Iy g1 ?_;exact hK _ _ af (g3.mono af) g4):P:=h
theorem V5{P:Prop}(h:P:=by simp+contextual only[go_sem,h,hI];rw[hn,hI];rfl):P:=h
theorem abH{P:Prop}(h:P:=by injection h with h;subst h;obtain⟨u,rfl,_⟩:=hy;simp only[V.den,D.den]at hx;subst hx;exact afz):P:=h
theorem abI{P:Prop}(h:P:=by injection h with h;subst h;obtain⟨u,rfl,_⟩:=hx;simp only[V.den,D.den]at hy;subst hy;exact afy):P:=h
theorem abJ{P:Prop}(h:P:=by refine .inr (.inr (.inl ⟨ds,out,fj,hP,oV, ?_⟩));cases out<;>first|exact hK _ h|exact hX _ _ h):P:=h
theorem abK{P:Prop}(h:P:=by rw[hI.eq 2 (by omega)];(repeat(first|rfl|rw[aa]|rw[ae _ _ _ _ (by omega)]));exact p2):P:=h
theorem abL{P:Prop}(h:P:=by simp only[aS,ho]at aY;obtain⟨bk,es,clock,g1,_⟩:=aY;rw[<- eT]at g1;subst g1;exact aav):P:=h
theorem SN{P:Prop}(h:P:=by simp only[ad.fz]at ho;simp only[aS,ho]at aY;rw[(hd ep (by rw[ho];rfl)).2 rfl];exact aY):P:=h
theorem yp{P:Prop}(h:P:=by rw[this];exact pD):P:=h
theorem SO{P:Prop}(h:P:=by rw[Array.toList_append,Array.toList_append,Array.toList_map];exact V.qs GK dE hca):P:=h
theorem SP{P:Prop}(h:P:=by refine .inr (.inl ⟨ds,out,fj,hP,oV, ?_⟩);cases out<;>first|exact hK _ h|exact hX _ _ h):P:=h
theorem SQ{P:Prop}(h:P:=by obtain⟨b,ed,ty,k1,k2,k3,k4⟩:=ba;exact⟨b,ed,ty,k1,k2,lE _ _ hrefs k3,k4⟩):P:=h
theorem SR{P:Prop}(h:P:=by intro cE b _ _ hb h;simp only[l8]at h;injection h with h;injection h with _ h;exact Li):P:=h
theorem SS{P:Prop}(h:P:=by refine aW.aG mix afF aE ?_;rw[c29];refine ou hx ?_;refine bE h ?_;exact pD):P:=h
theorem GL{P:Prop}(h:P:=by refine K0 w1 w2 ?_;exact afx):P:=h
theorem SU{P:Prop}(h:P:=by obtain⟨arr,rfl,g1,g2⟩:=hx;obtain⟨val,r1,r2⟩:=I3 h g1 g2;exact fin r1 r2):P:=h
theorem SV{P:Prop}(h:P:=by simp only[Array.getD_eq_getD_getElem?];rw[Array.getElem?_setIfInBounds_ne (Ne.symm h1)]):P:=h
theorem SW{P:Prop}(h:P:=by refine⟨x,fun heq=> ?_⟩;obtain⟨p,q,r,z,u⟩:=y heq;exact⟨p,q,r,b.trans z,u⟩):P:=h
theorem SX{P:Prop}(h:P:=by rw[hL.refs,List.all_eq_true];intro r hr;have:=hrefs r hr;exact decide_eq_true af):P:=h
theorem SY{P:Prop}(h:P:=by refine .inl ⟨ds,out,fj,hP, ?_⟩;cases out<;>first|exact hK _ h|exact hX _ _ h):P:=h
theorem SZ{P:Prop}(h:P:=by simp only[Ef,Array.getD_eq_getD_getElem?,Array.getElem?_replicate];split<;>rfl):P:=h
theorem S0{P:Prop}(h:P:=by rw[show((hp o nx).put (bG o x.ids)).o id=_ from this]at g1;exact⟨id,g1,g2⟩):P:=h
theorem S1{P:Prop}(h:P:=by simp[H',ad.cz]at he;subst he;exact⟨Nat.le_refl _,fun _=>by simp[aH]⟩):P:=h
theorem S2{P:Prop}(h:P:=by refine bL.bS _ (Nat.le_refl _) af (hg.mono af) (fun _ _=>rfl) ?_;exact dT):P:=h
theorem S3{P:Prop}(h:P:=by rw[hm,iC (o:=s.o) fun id aw=>hr id (l9 _ id aw)];exact Zf):P:=h
theorem GM{P:Prop}(h:P:=by refine a7 ?_;exact abc):P:=h
theorem S4{P:Prop}(h:P:=by obtain⟨a,b,c,h⟩:=funcOf (P:=Tryz.prog) (t:=209) ai;unfold qu;rw[h]):P:=h
theorem S5{P:Prop}(h:P:=by cases y<;>simp only[D.same,Bool.false_eq_true]at h;rw[D.dK ct _ h]):P:=h
theorem S6{P:Prop}(h:P:=by rw[if_neg e0]at h;injection h with h;injection h with h _;exact absurd h e0):P:=h
theorem S7{P:Prop}(h:P:=by subst this;refine rU hx ?_;refine aK (bp rfl) ?_;exact pD):P:=h
theorem S8{P:Prop}(h:P:=by rw[Bool.eq_iff_iff];simp only[List.all_eq_true (l:=t.kids)];exact aa8):P:=h
theorem S9{P:Prop}(h:P:=by obtain⟨b,r,k1,k2,k3,k4,k5,k6,k7,k8,k9,k10⟩:=ba;exact afA):P:=h
theorem Ta{P:Prop}(h:P:=by rw[if_pos h3]at h;injection h with h;injection h with _ h;exact Li):P:=h
theorem Tb{P:Prop}(h:P:=by obtain⟨u,us,rfl,h1,_⟩:=h;simp at hd;subst hd;exact⟨u,aE,h1⟩):P:=h
theorem Tc{P:Prop}(h:P:=by refine bL.bS _ (Nat.le_refl _) af hg (fun _ _=>rfl) ?_;exact dT):P:=h
theorem Td{P:Prop}(h:P:=by rw[m2.eq id (by omega)];unfold ext;rw[if_neg (by omega)];exact cg):P:=h
theorem Te{P:Prop}(h:P:=by intro c hx;rw[Array.getD_eq_getD_getElem?,hx]at dx;simp at dx):P:=h
theorem Tf{P:Prop}(h:P:=by obtain⟨r,h⟩:=LK hS 12 p.2 40 (GN p hp);exact⟨_,r,h⟩):P:=h
def tz(ops:Array Oper)(j:Nat):Option Tmp:=(ops[j]?).bind (·.dst)
structure b7 where
 dst:Option Nat
 op:Op
 gd:Option (Nat×Bool):=none
instance:Inhabited b7:=⟨⟨none, .ready 0,none⟩⟩
def EG(n:Nat):Option Tmp->Bool
 |some d=>decide (d<n)
 |none=>true
def LL(n:Nat)(ops:Array Oper)(o:Oper):Option b7:=
 if EG n o.dst=true then match o.guard with
  |none=>some ⟨o.dst,o.op,none⟩
  |some (j,want)=>match tz ops j with
   |some d=>some ⟨o.dst,o.op,some (d,want)⟩
   |none=>none
 else none
def lF(n:Nat)(ops:Array Oper):List Oper->Option (List b7)
 |[]=>some []
 |o::l=>match LL n ops o,lF n ops l with
  |some x,some xs=>some (x::xs)
  |_,_=>none
def tmpsOf(o:b7):List Nat:=(o.op.operands.toList.filterMap fun| .tmp t=>some t|_=>none)++(match o.gd with|some (d,_)=>[d]|none=>[])
def fk(o:b7):List Nat:=tmpsOf o++o.dst.toList
def bH(ops:Array Oper)(i:Nat):List Nat:=match ops[i]? with|some o=>(o.after.toList.filter (Region.binds .any)).map (·.on)|none=>[]
def b9(l:List b7)(i:Nat):b7:=l.getD i default
inductive IC where
 |skip|ah (l:List b7)|dI (l:List b7) (pr:List (List Nat))|seq (a b:IC)|cond (c:Operand) (a b:IC)|block (id:Nat) (a:IC)|loop (a:IC)|exit (id:Nat)|ret|bad
 |Ky (g:Operand) (ps:List Nat) (a b:IC)
 deriving Inhabited
inductive ku where
 |ret|exit (id:Nat)
def ku.code:ku->Code
 | .ret=> .ret
 | .exit id=> .exit id
def ma(acc:List Nat):List Nat->Nat
 |[]=>0
 |j::ps=>(2^j|||acc.getD j 0)|||ma acc ps
def eM:List (List Nat)->List Nat->List Nat
 |[],acc=>acc
 |ps::l,acc=>eM l (acc++[ma acc ps])
def sj(x y:b7):Bool:=match x.dst with|some d=> !(fk y).contains d|none=>true
def zY(l:List b7)(pr:List (List Nat)):Bool:=
 (List.range l.length).all fun j=>(List.range j).all fun i=>((eM pr []).getD j 0).testBit i||(sj (b9 l i) (b9 l j)&&sj (b9 l j) (b9 l i))
def kX(xs ys:List Nat):Bool:=xs.all fun x=> !ys.contains x
def eV(pr:List (List Nat))(fp:List (List Nat×List Nat)):Bool:=
 (List.range fp.length).all fun j=>(List.range j).all fun i=>((eM pr []).getD j 0).testBit i||
  (kX (fp.getD i ([],[])).2 (fp.getD j ([],[])).1&&kX (fp.getD i ([],[])).2 (fp.getD j ([],[])).2&&kX (fp.getD j ([],[])).2 (fp.getD i ([],[])).1)
def gQ(ops:Array Oper):List (List Nat):=(List.range ops.size).map (bH ops)
def V6(pr:List (List Nat)):Bool:=(List.range pr.length).all fun k=>(pr.getD k []).all fun j=>decide (j<k)
theorem vr{acc:List Nat}{i:Nat}:∀ (ps:List Nat),(ma acc ps).testBit i=true->∃j∈ps,i=j\/(acc.getD j 0).testBit i=true
 |[],h=>by simp[ma]at h
 |j::ps,h=>by
  simp only[ma,Nat.testBit_or,Bool.or_eq_true]at h
  rcases h with(h|h)|h
  ·rw[Nat.testBit_two_pow]at h
   exact⟨j,aE, .inl (by have h:=of_decide_eq_true h;exact h.symm)⟩
  ·exact⟨j,aE, .inr h⟩
  ·obtain⟨j',h1,h2⟩:=vr ps h
   exact⟨j',by simp[h1],h2⟩
theorem sn{k:Nat}:∀ (l:List (List Nat)) (acc:List Nat),k<acc.length->(eM l acc).getD k 0=acc.getD k 0
 |[],_,_=>rfl
 |ps::l,acc,h=>by
  rw[eM,sn l _ (by simp;omega)]
  simp[List.getD_eq_getElem?_getD,List.getElem?_append_left h]
theorem sq{i:Nat}:∀ (l:List (List Nat)) (acc:List Nat) (k:Nat),acc.length<=k->(∀k',k'<l.length->∀j∈l.getD k' [],j<acc.length+k')->((eM l acc).getD k 0).testBit i=true->
 ∃j∈l.getD (k - acc.length) [],i=j\/((eM l acc).getD j 0).testBit i=true
 |[],acc,k,hk,_,h=>by
  simp only[eM]at h
  rw[List.getD_eq_getElem?_getD,List.getElem?_eq_none hk]at h
  simp at h
 |ps::l,acc,k,hk,hp,h=>by
  simp only[eM]at h|-
  by_cases he:k=acc.length
  ·subst he
   rw[sn l _ (by simp)]at h
   have e:(acc++[ma acc ps]).getD acc.length 0=ma acc ps:=by simp[List.getD_eq_getElem?_getD]
   rw[e]at h
   obtain⟨j,h1,h2⟩:=vr ps h
   refine⟨j,by simpa using h1,h2.imp id fun h2=> ?_⟩
   have hj:j<acc.length:=by simpa using hp 0 aE j (by simpa using h1)
   rw[sn l _ (by simp;omega)]
   simpa[List.getD_eq_getElem?_getD,List.getElem?_append_left hj]using h2
  ·obtain⟨j,h1,h2⟩:=sq l (acc++[ma acc ps]) k gL (fun k' I4 j hj=>by
    have:=hp (k'+1) gL j m8
    simp;omega) h
   refine⟨j, ?_,h2⟩
   have e:k - acc.length=(k - (acc++[ma acc ps]).length)+1:=by simp;omega
   rw[e];simpa using h1
theorem qv{pr:List (List Nat)}(hp:∀k,k<pr.length->∀j∈pr.getD k [],j<k){E:Nat->Bool}(hE:∀k,k<pr.length->E k=true->∀j∈pr.getD k [],E j=true):
 ∀k,k<pr.length->(∀j∈pr.getD k [],E j=true)->∀i,((eM pr []).getD k 0).testBit i=true->E i=true:=by
 intro k
 induction k using Nat.strongRecOn with
 |ind k ih=>
  intro hk hj i hi
  obtain⟨j,h1,h2⟩:=sq pr [] k aE (fun k' I4 j hj=>by simpa using hp k' I4 j hj) hi
  simp only[List.length_nil,Nat.sub_zero]at h1
  rcases h2 with rfl|h2
  ·exact hj _ h1
  ·have Tg:=hp k hk j h1
   exact ih j Tg af (hE j af (hj j h1)) i h2
theorem B5{pr:List (List Nat)}(hp:∀k,k<pr.length->∀j∈pr.getD k [],j<k):∀k,k<pr.length->∀i,((eM pr []).getD k 0).testBit i=true->i<k:=by
 intro k
 induction k using Nat.strongRecOn with
 |ind k ih=>
  intro hk i hi
  obtain⟨j,h1,h2⟩:=sq pr [] k aE (fun k' I4 j hj=>by simpa using hp k' I4 j hj) hi
  simp only[List.length_nil,Nat.sub_zero]at h1
  have Tg:=hp k hk j h1
  rcases h2 with rfl|h2
  ·exact Tg
  ·have:=ih j Tg af i h2;omega
def low(n:Nat):Code->IC
 | .skip=> .skip
 | .label _=> .skip
 | .scope c=>low n c
 | .region _ ops false=>match lF n ops ops.toList with
   |some l=> .ah l
   |none=> .bad
 | .region _ ops true=>match lF n ops ops.toList with
   |some l=>if zY l (gQ ops)&&V6 (gQ ops)then .dI l (gQ ops)else .bad
   |none=> .bad
 | .seq a b=> .seq (low n a) (low n b)
 | .cond c a b=> .cond c (low n a) (low n b)
 | .block id a=> .block id (low n a)
 | .loop a=> .loop (low n a)
 | .exit id=> .exit id
 | .ret=> .ret
 | .rangeFunc g ps a b=> .Ky g ps.toList (low n a) (low n b)
 |_=> .bad
section
inductive D where
 |int (k:IntKind) (n:Int)|bool (b:Bool)|str (s:List UInt8)
 |eW|lG|cF|dL
 |agg (cs:List D)|sl (es:List D)|iface (t:TypeId) (d:D)
 |mp (ks vs:List D)
 deriving Inhabited
def Flat(vs:List Value):Prop:=∀u∈vs,u.oneCell'=true
def gR(B:Nat->Prop)(w:World)(a:Addr)(cs:Array Value):Prop:=∀j u,cs[j]? =some u->w.cell? (a.add j)=some u/\ ¬B a.block
def iU(es:Array MapEntry)(clock:Nat):Prop:=(∀e∈es.toList,e.born<clock)/\(es.toList.map (·.born)).Nodup
def zZ(ks:List D):Prop:=ks.Nodup/\∀k∈ks,∃n,k= .int .i64 n
mutual
def D.den (B:Nat->Prop)(w:World):D->Value->Prop
 | .int k n,v=>v= .int k n
 | .bool b,v=>v= .bool b
 | .str l,v=>∃s:ByteArray,v= .string s/\s.data.toList=l
 | .eW,v=>v= .nilIface
 | .lG,v=>v= .pointer none
 | .cF,v=>v= .nilFunc
 | .dL,v=>v= .map none
 | .agg cs,v=>∃a,v= .agg a/\D.aF B w cs a.toList/\Flat a.toList
 | .sl es,v=>∃base len cap,v= .slice base len cap/\len=es.length/\len<=cap/\(base=none->cap=0)/\
  ∃sz,∀a,base=some a->(cap≠0->a.spot=none)/\D.elems B w sz a 0 es
 | .iface t d,v=>∃u,v= .iface t u/\D.den B w d u
 | .mp ks vs,v=>∃m es clock p,v= .map (some m)/\w.heap[m]? =some (.map es clock)/\ ¬B m/\iU es clock/\(p=es.toList\/(p.Perm es.toList/\zZ ks))/\D.aF B w ks (p.map (·.key))/\D.aF B w vs (p.map (·.val))
def D.aF (B:Nat->Prop)(w:World):List D->List Value->Prop
 |[],vs=>vs=[]
 |d::ds,vs=>∃u us,vs=u::us/\D.den B w d u/\D.aF B w ds us
def D.elems (B:Nat->Prop)(w:World)(sz:Nat)(a:Addr):Nat->List D->Prop
 |_,[]=>True
 |i,e::es=>(∃ev:Value,ev.cells.size=sz/\gR B w (a.add (i*sz)) ev.cells/\D.den B w e ev)/\D.elems B w sz a (i+1) es
end
inductive V where
 |d (x:D)|ax|agg (cs:List V)|bY (vs:List V)
 |ptr (id off:Nat)|osl (id ep:Nat)|pe (id ep i sz off:Nat)|pp (cs:List D) (off:Nat)
 |func (fn:Fn) (first cap:List V)|iface (t:TypeId) (x:V)
 |ab
 |pb (es:List D)|yq (id off n:Nat)|mp (id:Nat)|fH|kH (id:Nat)
 deriving Inhabited
inductive ad where
 |no|row (cs:List V)|arr (ep:Nat) (ty:TypeId) (sz:Nat) (es:List D)|uI (ep:Nat) (es:List D)
 |map (kt vt:TypeId) (es:List (D×D))
 |loop (nf n:Nat) (env:List V) (ps:List Nat) (a b:IC) (st:LoopState) (I5:Option ku)
 |cc (es:List (D×D))|rW (es:List (D×D)) (last:Option (D×D))|z7 (s:List UInt8) (pos:Nat)
 deriving Inhabited
def aX(l:List V):Nat->V:=fun i=>l.getD i .ab
structure Hp where
 o:Nat->ad
 us:Nat->Prop
def ad.cz:ad->Option Nat
 | .arr ep _ _ _| .uI ep _=>some ep
 |_=>none
def ad.cA:ad->Bool
 | .row _| .map .. | .loop .. | .cc _| .rW .. | .z7 .. =>true
 |_=>false
def ad.live:ad->Bool
 | .row _| .arr .. | .map .. | .loop .. | .rW .. | .z7 .. =>true
 |_=>false
def eB:Value->Option Nat
 | .pointer (some a)| .slice (some a) _ _=>some a.block
 | .map (some b)=>some b
 |_=>none
abbrev Place:=Nat->Value
def cI(φ:Place)(H:Hp)(b:Nat):Prop:=∃id,(H.o id).live=true/\eB (φ id)=some b
def ao(M:Nat->Prop)(φ:Place)(H:Hp)(b:Nat):Prop:=M b\/cI φ H b
mutual
def V.den (B:Nat->Prop)(φ:Place)(H:Hp)(w:World):V->Value->Prop
 | .d x,v=>D.den B w x v
 | .ax,v=>v= .slice none 0 0
 | .agg cs,v=>∃a,v= .agg a/\V.aF B φ H w cs a.toList/\Flat a.toList
 | .bY vs,v=>∃a,v= .tuple a/\V.aF B φ H w vs a.toList
 | .ptr id off,v=>v.oneCell'=true/\H.us id/\((H.o id).cA=true->∃b,φ id= .pointer (some ⟨b,0,none⟩)/\v= .pointer (some ⟨b,off,none⟩))
 | .osl id ep,v=>v.oneCell'=true/\H.us id/\∀e,(H.o id).cz=some e->ep<=e/\(ep=e->v=φ id)
 | .pe id ep i sz off,v=>v.oneCell'=true/\H.us id/\∀e,(H.o id).cz=some e->ep<=e/\(ep=e->∃b n c,φ id= .slice (some ⟨b,0,none⟩) n c/\v= .pointer (some ⟨b,i*sz+off,none⟩))
 | .pp cs off,v=>∃a ev,a.spot=none/\v= .pointer (some (a.add off))/\D.aF B w cs ev/\Flat ev/\gR B w a ev.toArray
 | .func fn first cap,v=>∃f c,v= .func fn f c/\V.aF B φ H w first f.toList/\V.aF B φ H w cap c.toList
 | .iface t x,v=>∃u,v= .iface t u/\V.den B φ H w x u
 | .ab,_=>True
 | .pb es,v=>D.den B w (.sl es) v/\∃base n,v= .slice base n n
 | .yq id off n,v=>v.oneCell'=true/\H.us id/\((H.o id).cA=true->∃b,φ id= .pointer (some ⟨b,0,none⟩)/\v= .slice (some ⟨b,off,none⟩) n n)
 | .mp id,v=>v.oneCell'=true/\H.us id/\((H.o id).cA=true->v=φ id)
 | .fH,v=>∃b,v= .bool b
 | .kH id,v=>v.oneCell'=true/\H.us id/\((H.o id).cA=true->∃b,φ id= .pointer (some ⟨b,0,none⟩)/\v= .func (.yield b) #[] #[])
def V.aF (B:Nat->Prop)(φ:Place)(H:Hp)(w:World):List V->List Value->Prop
 |[],vs=>vs=[]
 |x::xs,vs=>∃u us,vs=u::us/\V.den B φ H w x u/\V.aF B φ H w xs us
end
def eK(B:Nat->Prop)(w:World)(sz:Nat)(es:List D)(xs:List Value):Prop:=
 ∃evs:List Value,xs=evs.flatMap (·.cells.toList)/\(∀ev∈evs,ev.cells.size=sz)/\D.aF B w es evs
def aJ(B:Nat->Prop)(w:World):List (D×D)->List MapEntry->Prop
 |[],es=>es=[]
 |(k,x)::l,es=>∃e es',es=e::es'/\D.den B w k e.key/\D.den B w x e.val/\aJ B w l es'
def z8(B:Nat->Prop)(w:World)(l:List (D×D))(last:Option (D×D))(b:Nat):Prop:=
 w.heap[b]? =some (.mapIter none 0 #[] 0)/\l=[]/\last=none\/
 ∃m since seen es,w.heap[b]? =some (.mapIter (some m) since seen since)/\w.heap[m]? =some (.map es since)/\ ¬B m/\iU es since/\(∃l',l'.Perm l/\aJ B w l' (es.toList.filter fun e=> !seen.contains e.born))/\
  ∀k x,last=some (k,x)->∃e∈es.toList,seen.back?=some e.born/\D.den B w k e.key/\D.den B w x e.val
def kY(B:Nat->Prop)(w:World)(l:List (D×D))(v:Value):Prop:=
 ∃b es clock,v= .map (some b)/\w.heap[b]? =some (.map es clock)/\ ¬B b/\iU es clock/\aJ B w l es.toList
def aS(M:Nat->Prop)(φ:Place)(H:Hp)(w:World)(id:Nat):Prop:=
 match H.o id with
 | .no=>True
 | .row cs=>∃b ed ty,φ id= .pointer (some ⟨b,0,none⟩)/\w.heap[b]? =some (.cells ed ty (0,0))/\V.aF (ao M φ H) φ H w cs ed.toList/\Flat ed.toList
 | .arr _ ty sz es=>0<sz/\∃xs,w.ownsRow 0 ty sz (φ id) es.length xs/\eK (ao M φ H) w sz es xs
 | .uI _ es=>D.den (ao M φ H) w (.sl es) (φ id)
 | .loop nf n env ps jS fq st I5=>∃b r,φ id= .pointer (some ⟨b,0,none⟩)/\w.heap[b]? =some (.loop r)/\r.fn<nf/\r.state=st/\r.pending=I5.map ku.code/\r.params.toList=ps/\r.tmps.size=n/\low n r.assign=jS/\low n r.body=fq/\
  ∀i,V.den (ao M φ H) φ H w (aX env i) (r.tmps.getD i undef)
 | .map _ _ l=>∃b es clock,φ id= .map (some b)/\w.heap[b]? =some (.map es clock)/\iU es clock/\aJ (ao M φ H) w l es.toList
 | .cc l=>kY (ao M φ H) w l (φ id)
 | .rW l last=>∃b,φ id= .pointer (some ⟨b,0,none⟩)/\z8 (ao M φ H) w l last b
 | .z7 s pos=>∃b,φ id= .pointer (some ⟨b,0,none⟩)/\w.heap[b]? =some (.stringIter ⟨⟨s⟩⟩ pos)
structure aA (M:Nat->Prop) (φ:Place) (H:Hp) (w:World):Prop where
 ok:∀id,aS M φ H w id
 fresh:∀id, ¬H.us id->H.o id= .no
 apart:∀i j b,(H.o i).live=true->(H.o j).live=true->eB (φ i)=some b->eB (φ j)=some b->i=j
 ours:∀b,cI φ H b-> ¬M b/\b<w.heap.size
 BD:∀b,M b->b<w.heap.size
structure eC (m:Nat->Prop) (w w':World):Prop where
 os:w'.os=w.os
 tape:w'.tape=w.tape
 output:w'.output=w.output
 size:w.heap.size<=w'.heap.size
 block:∀k,k<w.heap.size-> ¬m k->w'.heap[k]? =w.heap[k]?
structure ef (φ:Place) (H:Hp) (aH:Place) (H':Hp):Prop where
 us:∀id,H.us id->H'.us id
 row:∀id,H.us id->(H'.o id).cA=true->(H.o id).cA=true/\aH id=φ id
 ep:∀id e',H.us id->(H'.o id).cz=some e'->∃e,(H.o id).cz=some e/\e<=e'/\(e=e'->aH id=φ id)
structure Trans (φ:Place) (H:Hp) (w:World) (aH:Place) (H':Hp) (w':World):Prop where
 cL:eC (cI φ H) w w'
 grow:∀b,cI aH H' b->cI φ H b\/w.heap.size<=b
 rel:ef φ H aH H'
theorem eC.refl (m:Nat->Prop)(w:World):eC m w w:=⟨rfl,rfl,rfl,Nat.le_refl _,fun _ _ _=>rfl⟩
theorem ef.refl (φ:Place)(H:Hp):ef φ H φ H:=⟨fun _ h=>h,fun _ _ h=>⟨h,rfl⟩,fun _ e' _ h=>⟨e',h,Nat.le_refl _,fun _=>rfl⟩⟩
theorem Trans.refl (φ:Place)(H:Hp)(w:World):Trans φ H w φ H w:=⟨eC.refl _ _,fun _ h=> .inl h,ef.refl _ _⟩
theorem ef.trans {φ aH EH:Place}{H H' H'':Hp}(h:ef φ H aH H')(k:ef aH H' EH H''):ef φ H EH H'' where
 us id aw:=k.us id (h.us id aw)
 row id aw hr:=by
  obtain⟨a,b⟩:=k.row id (h.us id aw) hr
  obtain⟨c,d⟩:=h.row id aw a
  exact⟨c,b.trans d⟩
 ep id e' aw he:=by
  obtain⟨e,h1,h2,h3⟩:=k.ep id e' (h.us id aw) he
  obtain⟨e0,g1,g2,g3⟩:=h.ep id e aw h1
  refine⟨e0,g1,Nat.le_trans g2 h2,fun heq=> ?_⟩
  have a:e0=e:=af
  have b:e=e':=af
  exact(h3 b).trans (g3 a)
theorem Trans.trans {φ aH EH:Place}{H H' H'':Hp}{w w' VK:World}(h:Trans φ H w aH H' w')(k:Trans aH H' w' EH H'' VK):Trans φ H w EH H'' VK where
 cL:={
  os:=k.cL.os.trans h.cL.os
  tape:=k.cL.tape.trans h.cL.tape
  output:=k.cL.output.trans h.cL.output
  size:=Nat.le_trans h.cL.size k.cL.size
  block:=fun b hb hm=>by
   rw[k.cL.block b (Nat.lt_of_lt_of_le hb h.cL.size) (fun hl=>by
    rcases h.grow b hl with h1|h1
    ·exact hm h1
    ·omega),h.cL.block b hb hm]}
 grow b hl:=by
  rcases k.grow b hl with h1|h1
  ·exact h.grow b h1
  ·exact .inr (Nat.le_trans h.cL.size h1)
 rel:=h.rel.trans k.rel
@[simp] theorem Zg (a:Addr) (j:Nat):(a.add j).block=a.block:=by unfold Addr.add;split<;>rfl
def qw(w:World)(b:Nat):Prop:=∃cs ty fz,w.heap[b]? =some (.cells cs ty fz)
def dc(w:World)(b:Nat):Prop:=qw w b\/∃es clock,w.heap[b]? =some (.map es clock)
theorem dc.lt {w:World}{b:Nat}(h:dc w b):b<w.heap.size:=by
 rcases Nat.lt_or_ge b w.heap.size with hl|hl
 ·exact hl
 ·rcases h with⟨cs,ty,fz,h⟩|⟨es,clock,h⟩
  ·rw[Array.getElem?_eq_none hl]at h;cases h
  ·rw[Array.getElem?_eq_none hl]at h;cases h
theorem pc{w:World}{a:Addr}{u:Value}(h:w.cell? a=some u):qw w a.block:=by
 unfold World.cell? at h
 split at h
 ·exact⟨_,_,_,by assumption⟩
 ·cases h
theorem ui{w:World}{a:Addr}{u:Value}(h:w.cell? a=some u):dc w a.block:= .inl (pc h)
theorem gR.mono {B B':Nat->Prop}{w w':World}{a:Addr}{cs:Array Value}
 (hb:∀b,dc w b-> ¬B b->w'.heap[b]? =w.heap[b]? /\ ¬B' b) (h:gR B w a cs):gR B' w' a cs:=by
 intro j u hj
 obtain⟨h1,h2⟩:=h j u hj
 have cq:dc w a.block:=by simpa using ui h1
 exact abr
mutual
theorem D.aU {B B':Nat->Prop}{w w':World}(hb:∀b,dc w b-> ¬B b->w'.heap[b]? =w.heap[b]? /\ ¬B' b):
 ∀ (x:D) (v:Value),D.den B w x v->D.den B' w' x v
 | .int _ _,_,h| .bool _,_,h| .str _,_,h| .eW,_,h| .lG,_,h| .cF,_,h| .dL,_,h=>by simpa[D.den]using h
 | .agg cs,_,h=>by
   obtain⟨a,rfl,h,hf⟩:=h
   exact⟨a,rfl,D.aV hb cs _ h,hf⟩
 | .sl es,_,h=>by
   obtain⟨base,len,cap,rfl,h1,h2,h3,sz,h4⟩:=h
   exact⟨base,len,cap,rfl,h1,h2,h3,sz,fun a ha=>⟨(h4 a ha).1,D.vu hb sz a es 0 (h4 a ha).2⟩⟩
 | .iface t d,_,h=>by
   obtain⟨u,rfl,h⟩:=h
   exact⟨u,rfl,D.aU hb d u h⟩
 | .mp ks vs,_,h=>by
   obtain⟨m,es,clock,p,rfl,h1,h2,h3,hp,h4,h5⟩:=h
   obtain⟨k1,k2⟩:=hb m (.inr ⟨es,clock,h1⟩) h2
   exact⟨m,es,clock,p,rfl,k1.trans h1,k2,h3,hp,D.aV hb ks _ h4,D.aV hb vs _ h5⟩
theorem D.aV {B B':Nat->Prop}{w w':World}(hb:∀b,dc w b-> ¬B b->w'.heap[b]? =w.heap[b]? /\ ¬B' b):
 ∀ (ds:List D) (vs:List Value),D.aF B w ds vs->D.aF B' w' ds vs
 |[],_,h=>h
 |d::ds,_,h=>by
  obtain⟨u,us,rfl,h1,h2⟩:=h
  exact⟨u,us,rfl,D.aU hb d u h1,D.aV hb ds us h2⟩
theorem D.vu {B B':Nat->Prop}{w w':World}(hb:∀b,dc w b-> ¬B b->w'.heap[b]? =w.heap[b]? /\ ¬B' b)(sz:Nat)(a:Addr):
 ∀ (es:List D) (i:Nat),D.elems B w sz a i es->D.elems B' w' sz a i es
 |[],_,_=>trivial
 |e::es,i,h=>by
  obtain⟨⟨ev,h1,h2,h3⟩,h4⟩:=h
  exact⟨⟨ev,h1,h2.mono hb,D.aU hb e ev h3⟩,D.vu hb sz a es (i+1) h4⟩
end
theorem aJ.mono {B B':Nat->Prop}{w w':World}(hb:∀b,dc w b-> ¬B b->w'.heap[b]? =w.heap[b]? /\ ¬B' b):
 ∀ (l:List (D×D)) (es:List MapEntry),aJ B w l es->aJ B' w' l es
 |[],_,h=>h
 |(k,x)::l,_,h=>by
  obtain⟨e,es,rfl,h1,h2,h3⟩:=h
  exact⟨e,es,rfl,D.aU hb k _ h1,D.aU hb x _ h2,aJ.mono hb l es h3⟩
theorem z8.mono {B B':Nat->Prop}{w w':World}(hb:∀b,dc w b-> ¬B b->w'.heap[b]? =w.heap[b]? /\ ¬B' b){l:List (D×D)}{last:Option (D×D)}{b:Nat}(OX:w'.heap[b]? =w.heap[b]?)(h:z8 B w l last b):z8 B' w' l last b:=by
 rcases h with⟨h1,h2⟩|⟨m,since,seen,es,h1,h2,h3,h4,h5,h6⟩
 ·exact .inl ⟨OX.trans h1,h2⟩
 ·obtain⟨k1,k2⟩:=hb m (.inr ⟨es,since,h2⟩) h3
  obtain⟨l',h5,uJ⟩:=h5
  refine .inr ⟨m,since,seen,es,OX.trans h1,k1.trans h2,k2,h4,⟨l',h5,aJ.mono hb l' _ uJ⟩,fun k x e=> ?_⟩
  obtain⟨e,g1,g2,g3,g4⟩:=h6 k x e
  exact⟨e,g1,g2,D.aU hb k _ g3,D.aU hb x _ g4⟩
theorem lH{B:Nat->Prop}{w:World}:∀ (l:List (D×D)) (es:List MapEntry),aJ B w l es↔D.aF B w (l.map (·.1)) (es.map (·.key))/\D.aF B w (l.map (·.2)) (es.map (·.val))
 |[],es=>by
  simp only[aJ,List.map_nil,D.aF]
  constructor
  ·rintro rfl;exact⟨rfl,rfl⟩
  ·rintro⟨h,_⟩;simpa using h
 |(k,x)::l,es=>by
  simp only[aJ,List.map_cons,D.aF]
  constructor
  ·rintro⟨e,es',rfl,h1,h2,h3⟩
   obtain⟨g1,g2⟩:=(lH l es').1 h3
   exact⟨⟨_,_,rfl,h1,g1⟩,⟨_,_,rfl,h2,g2⟩⟩
  ·rintro⟨⟨u,us,h1,h2,h3⟩,⟨v,vs,h4,h5,h6⟩⟩
   cases es with
   |nil=>simp at h1
   |cons e es'=>
    simp only[List.map_cons,List.cons.injEq]at h1 h4
    obtain⟨rfl,rfl⟩:=h1
    obtain⟨rfl,rfl⟩:=h4
    exact⟨e,es',rfl,h2,h5,(lH l es').2 ⟨h3,h6⟩⟩
theorem kY.den {B:Nat->Prop}{w:World}{l:List (D×D)}{v:Value}(h:kY B w l v):D.den B w (.mp (l.map (·.1)) (l.map (·.2))) v:=by
 obtain⟨b,es,clock,h1,h2,h3,h4,h5⟩:=h
 obtain⟨h6,h7⟩:=(lH _ _).1 h5
 exact⟨b,es,clock,es.toList,h1,h2,h3,h4, .inl rfl,h6,h7⟩
theorem kY.mono {B B':Nat->Prop}{w w':World}(hb:∀b,dc w b-> ¬B b->w'.heap[b]? =w.heap[b]? /\ ¬B' b){l:List (D×D)}{v:Value}(h:kY B w l v):kY B' w' l v:=by
 obtain⟨b,es,clock,h1,h2,h3,h4,h5⟩:=h
 obtain⟨k1,k2⟩:=hb b (.inr ⟨es,clock,h2⟩) h3
 exact⟨b,es,clock,h1,k1.trans h2,k2,h4,aJ.mono hb l _ h5⟩
theorem D.aC {B:Nat->Prop}{w:World}:∀ (ds:List D) (vs:List Value),D.aF B w ds vs->vs.length=ds.length
 |[],_,h=>by simp[D.aF]at h;simp[h]
 |d::ds,_,h=>by obtain⟨u,us,rfl,_,h2⟩:=h;simp[D.aC ds us h2]
theorem D.dy {B:Nat->Prop}{w:World}:∀ (ds:List D) (vs:List Value) (i:Nat) (d:D),D.aF B w ds vs->ds[i]? =some d->∃v,vs[i]? =some v/\D.den B w d v
 |[],_,_,_,_,hd=>by simp at hd
 |d::ds,_,0,x,h,hd=>by
  exact Tb
 |d::ds,_,i+1,x,h,hd=>by
  obtain⟨u,us,rfl,_,h2⟩:=h
  simpa using D.dy ds us i x h2 (by simpa using hd)
theorem D.yr {B:Nat->Prop}{w:World}{sz:Nat}{a:Addr}:∀ (es:List D) (i j:Nat) (e:D),D.elems B w sz a i es->es[j]? =some e->
 ∃ev:Value,ev.cells.size=sz/\gR B w (a.add ((i+j)*sz)) ev.cells/\D.den B w e ev
 |[],_,_,_,_,hd=>by simp at hd
 |e::es,i,0,x,h,hd=>by
  simp at hd;subst hd;simpa using h.1
 |e::es,i,j+1,x,h,hd=>by
  have:=D.yr es (i+1) j x h.2 (by simpa using hd)
  simpa[Nat.add_assoc,Nat.add_comm 1 j]using this
section
variable {M:Nat->Prop}{φ aH:Place}{H H':Hp}{w w':World}
theorem Trans.blocks (ht:Trans φ H w aH H' w')(b:Nat)(hc:dc w b)(h: ¬ao M φ H b):w'.heap[b]? =w.heap[b]? /\ ¬ao M aH H' b:=by
 have hb:=hc.lt
 refine⟨ht.cL.block b hb fun hl=>h (.inr hl), ?_⟩
 rintro(h1|h1)
 ·exact h (.inl h1)
 ·rcases ht.grow b h1 with h2|h2
  ·exact h (.inr h2)
  ·omega
mutual
theorem V.lI (hb:∀b,dc w b-> ¬ao M φ H b->w'.heap[b]? =w.heap[b]? /\ ¬ao M aH H' b)(hr:ef φ H aH H'):∀ (x:V) (v:Value),V.den (ao M φ H) φ H w x v->V.den (ao M aH H') aH H' w' x v
 | .d x,v,h=>D.aU hb x v h
 | .ax,_,h=>h
 | .ab,_,_=>trivial
 | .pb es,v,h=>⟨D.aU hb (.sl es) v h.1,h.2⟩
 | .yq id off n,v,h=>by
   exact zw9
 | .mp id,v,h=>by
   obtain⟨h0,h1,h2⟩:=h
   refine⟨h0,hr.us id h1,fun c8=> ?_⟩
   obtain⟨h3,h4⟩:=hr.row id h1 c8
   exact(h2 h3).trans h4.symm
 | .fH,v,h=>h
 | .kH id,v,h=>by
   exact zw9
 | .agg cs,_,h=>by obtain⟨a,rfl,h,hf⟩:=h;exact⟨a,rfl,V.gk hb hr cs _ h,hf⟩
 | .bY cs,_,h=>by obtain⟨a,rfl,h⟩:=h;exact⟨a,rfl,V.gk hb hr cs _ h⟩
 | .ptr id off,v,h=>by
   exact zw9
 | .osl id ep,v,h=>by
   exact abg
 | .pe id ep i sz off,v,h=>by
   exact abg
 | .pp cs off,v,h=>by
   obtain⟨a,ev,h1,h2,h3,h5,h4⟩:=h
   exact⟨a,ev,h1,h2,D.aV hb cs ev h3,h5,h4.mono hb⟩
 | .func fn first cap,_,h=>by
   obtain⟨f,c,rfl,h1,h2⟩:=h
   exact⟨f,c,rfl,V.gk hb hr first _ h1,V.gk hb hr cap _ h2⟩
 | .iface t x,_,h=>by obtain⟨u,rfl,h⟩:=h;exact⟨u,rfl,V.lI hb hr x u h⟩
theorem V.gk (hb:∀b,dc w b-> ¬ao M φ H b->w'.heap[b]? =w.heap[b]? /\ ¬ao M aH H' b)(hr:ef φ H aH H'):∀ (ds:List V) (vs:List Value),V.aF (ao M φ H) φ H w ds vs->V.aF (ao M aH H') aH H' w' ds vs
 |[],_,h=>h
 |x::xs,_,h=>by
  obtain⟨u,us,rfl,h1,h2⟩:=h
  exact⟨u,us,rfl,V.lI hb hr x u h1,V.gk hb hr xs us h2⟩
end
theorem V.aU (ht:Trans φ H w aH H' w')(x:V)(v:Value)(h:V.den (ao M φ H) φ H w x v):V.den (ao M aH H') aH H' w' x v:=V.lI ht.blocks ht.rel x v h
theorem V.aV (ht:Trans φ H w aH H' w')(ds:List V)(vs:List Value)(h:V.aF (ao M φ H) φ H w ds vs):V.aF (ao M aH H') aH H' w' ds vs:=V.gk ht.blocks ht.rel ds vs h
end
end
end Go.Proofs.YtlhemmpklhhgoaaGreat
