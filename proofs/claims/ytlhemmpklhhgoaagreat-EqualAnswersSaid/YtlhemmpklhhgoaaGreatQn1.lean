/-
  A PART OF THE PROOF. Conditions: none.
-/
import Derived.WalkKit
import Derived.Below
set_option linter.unusedSimpArgs false
set_option linter.unusedVariables false
namespace Go.Proofs.YtlhemmpklhhgoaaGreat
theorem bY{G G':Prop}(g:G')(h:G=G':=by simp+contextual (disch:=first|omega|simp only[go_sem,false_implies]) only[go_sem,wrap64,if_pos,and_self]<;>rfl):G:=Eq.mpr h g
theorem fZ{G G':Prop}(g:G')(h:G=G':=by simp+contextual (disch:=first|omega|simp only[go_sem,false_implies]) only[go_sem,wrap64,if_pos,Nat.add_assoc,Nat.left_eq_add,Nat.add_eq_left,Nat.add_left_cancel_iff]<;>rfl):G:=Eq.mpr h g
theorem pX{G:Prop}(h:G:=by simp+contextual (disch:=first|omega|simp only[go_sem,false_implies]) only[go_sem,wrap64,if_pos,and_self]):G:=h
theorem mV{P0 G G':Prop}(p0:P0)(g:G')(h:P0->G=G':=by intro p0;simp+contextual (disch:=first|omega|simp only[go_sem,false_implies]) only[go_sem,wrap64,if_pos,List.length_map,p0]<;>rfl):G:=Eq.mpr (h p0) g
theorem oF{P0 G G':Prop}(p0:P0)(g:G')(h:P0->G=G':=by intro p0;simp+contextual (disch:=first|omega|simp only[go_sem,false_implies]) only[go_sem,wrap64,if_pos,p0]<;>rfl):G:=Eq.mpr (h p0) g
theorem BK{P0 P1 P2 P3 G G':Prop}(p0:P0)(p1:P1)(p2:P2)(p3:P3)(g:G')(h:P0->P1->P2->P3->G=G':=by intro p0 p1 p2 p3;simp+contextual (disch:=first|omega|simp only[go_sem,false_implies]) only[go_sem,wrap64,if_pos,Nat.add_assoc,Nat.left_eq_add,Nat.add_eq_left,Nat.add_left_cancel_iff,p0,p1,p2,p3]<;>rfl):G:=Eq.mpr (h p0 p1 p2 p3) g
theorem uL{G G':Prop}(g:G')(h:G=G':=by simp+contextual (disch:=first|omega|simp only[go_sem,false_implies]) only[go_sem,wrap64,if_pos,List.length_map]<;>rfl):G:=Eq.mpr h g
theorem IQ{P0 G G':Prop}(p0:P0)(g:G')(h:P0->G=G':=by intro p0;simp+contextual (disch:=first|omega|simp only[go_sem,false_implies]) only[go_sem,wrap64,if_pos,Nat.add_assoc,Nat.left_eq_add,Nat.add_eq_left,Nat.add_left_cancel_iff,p0]<;>rfl):G:=Eq.mpr (h p0) g
theorem R0{P0 P1 G G':Prop}(p0:P0)(p1:P1)(g:G')(h:P0->P1->G=G':=by intro p0 p1;simp+contextual (disch:=first|omega|simp only[go_sem,false_implies]) only[go_sem,wrap64,if_pos,hp,Nat.add_assoc,Nat.left_eq_add,Nat.add_eq_left,Nat.add_left_cancel_iff,p0,p1]<;>rfl):G:=Eq.mpr (h p0 p1) g
theorem cT{G G':Prop}(g:G')(h:G=G':=by simp+contextual only[go_sem]<;>rfl):G:=Eq.mpr h g
theorem pf{P0 P1 G G':Prop}(p0:P0)(p1:P1)(g:G')(h:P0->P1->G=G':=by intro p0 p1;simp+contextual (disch:=first|omega|simp only[go_sem,false_implies]) only[go_sem,wrap64,if_pos,List.length_map,p0,p1]<;>rfl):G:=Eq.mpr (h p0 p1) g
theorem Lb{P0 P1 P2 P3 P4 P5 P6 P7 G G':Prop}(p0:P0)(p1:P1)(p2:P2)(p3:P3)(p4:P4)(p5:P5)(p6:P6)(p7:P7)(g:G')(h:P0->P1->P2->P3->P4->P5->P6->P7->G=G':=by intro p0 p1 p2 p3 p4 p5 p6 p7;simp+contextual (disch:=first|omega|simp only[go_sem,false_implies]) only[go_sem,wrap64,if_pos,Nat.add_assoc,Nat.left_eq_add,Nat.add_eq_left,Nat.add_left_cancel_iff,List.length_map,p0,p1,p2,p3,p4,p5,p6,p7]<;>rfl):G:=Eq.mpr (h p0 p1 p2 p3 p4 p5 p6 p7) g
theorem BV{P0 P1 P2 P3 P4 P5 P6 G G':Prop}(p0:P0)(p1:P1)(p2:P2)(p3:P3)(p4:P4)(p5:P5)(p6:P6)(g:G')(h:P0->P1->P2->P3->P4->P5->P6->G=G':=by intro p0 p1 p2 p3 p4 p5 p6;simp+contextual (disch:=first|omega|simp only[go_sem,false_implies]) only[go_sem,wrap64,if_pos,Nat.add_assoc,Nat.left_eq_add,Nat.add_eq_left,Nat.add_left_cancel_iff,List.length_map,p0,p1,p2,p3,p4,p5,p6]<;>rfl):G:=Eq.mpr (h p0 p1 p2 p3 p4 p5 p6) g
theorem Ac{P0 P1 P2 P3 P4 G G':Prop}(p0:P0)(p1:P1)(p2:P2)(p3:P3)(p4:P4)(g:G')(h:P0->P1->P2->P3->P4->G=G':=by intro p0 p1 p2 p3 p4;simp+contextual (disch:=first|omega|simp only[go_sem,false_implies]) only[go_sem,wrap64,if_pos,Nat.add_assoc,Nat.left_eq_add,Nat.add_eq_left,Nat.add_left_cancel_iff,p0,p1,p2,p3,p4]<;>rfl):G:=Eq.mpr (h p0 p1 p2 p3 p4) g
theorem BW{P0 P1 P2 P3 G G':Prop}(p0:P0)(p1:P1)(p2:P2)(p3:P3)(g:G')(h:P0->P1->P2->P3->G=G':=by intro p0 p1 p2 p3;simp+contextual (disch:=first|omega|simp only[go_sem,false_implies]) only[go_sem,wrap64,if_pos,List.length_map,Nat.add_assoc,Nat.left_eq_add,Nat.add_eq_left,Nat.add_left_cancel_iff,p0,p1,p2,p3]<;>rfl):G:=Eq.mpr (h p0 p1 p2 p3) g
theorem EJ{G G':Prop}(g:G')(h:G=G':=by simp+contextual (disch:=first|omega|simp only[go_sem,false_implies]) only[go_sem,wrap64,if_pos,Nat.add_assoc,Nat.left_eq_add,Nat.add_eq_left,Nat.add_left_cancel_iff,List.length_map]<;>rfl):G:=Eq.mpr h g
theorem EK{P0 P1 P2 P3 P4 P5 P6 G G':Prop}(p0:P0)(p1:P1)(p2:P2)(p3:P3)(p4:P4)(p5:P5)(p6:P6)(g:G')(h:P0->P1->P2->P3->P4->P5->P6->G=G':=by intro p0 p1 p2 p3 p4 p5 p6;simp+contextual (disch:=first|omega|simp only[go_sem,false_implies]) only[go_sem,wrap64,if_pos,Nat.add_assoc,Nat.left_eq_add,Nat.add_eq_left,Nat.add_left_cancel_iff,p0,p1,p2,p3,p4,p5,p6]<;>rfl):G:=Eq.mpr (h p0 p1 p2 p3 p4 p5 p6) g
theorem IU{P0 P1 P2 P3 P4 G G':Prop}(p0:P0)(p1:P1)(p2:P2)(p3:P3)(p4:P4)(g:G')(h:P0->P1->P2->P3->P4->G=G':=by intro p0 p1 p2 p3 p4;simp+contextual (disch:=first|omega|simp only[go_sem,false_implies]) only[go_sem,wrap64,if_pos,List.length_map,Nat.add_assoc,Nat.left_eq_add,Nat.add_eq_left,Nat.add_left_cancel_iff,p0,p1,p2,p3,p4]<;>rfl):G:=Eq.mpr (h p0 p1 p2 p3 p4) g
theorem IV{P0 P1 P2 P3 P4 P5 P6 P7 P8 G G':Prop}(p0:P0)(p1:P1)(p2:P2)(p3:P3)(p4:P4)(p5:P5)(p6:P6)(p7:P7)(p8:P8)(g:G')(h:P0->P1->P2->P3->P4->P5->P6->P7->P8->G=G':=by intro p0 p1 p2 p3 p4 p5 p6 p7 p8;simp+contextual (disch:=first|omega|simp only[go_sem,false_implies]) only[go_sem,wrap64,if_pos,Nat.add_assoc,Nat.left_eq_add,Nat.add_eq_left,Nat.add_left_cancel_iff,p0,p1,p2,p3,p4,p5,p6,p7,p8]<;>rfl):G:=Eq.mpr (h p0 p1 p2 p3 p4 p5 p6 p7 p8) g
theorem Lc{G:Prop}(h:G:=by simp+contextual (disch:=first|omega|simp only[go_sem,false_implies]) only[go_sem,wrap64,if_pos,Nat.add_assoc,Nat.left_eq_add,Nat.add_eq_left,Nat.add_left_cancel_iff,aah,aai]):G:=h
theorem Ad{P0 G:Prop}(p0:P0)(h:P0->G:=by intro p0;simp+contextual (disch:=first|omega|simp only[go_sem,false_implies]) only[go_sem,wrap64,if_pos,p0]):G:=h p0
theorem Ld{P0 P1 G G':Prop}(p0:P0)(p1:P1)(g:G')(h:P0->P1->G=G':=by intro p0 p1;simp+contextual (disch:=first|omega|simp only[go_sem,false_implies]) only[go_sem,wrap64,if_pos,Nat.add_assoc,Nat.left_eq_add,Nat.add_eq_left,Nat.add_left_cancel_iff,p0,p1]<;>rfl):G:=Eq.mpr (h p0 p1) g
theorem BX{P0 P1 P2 P3 P4 P5 G G':Prop}(p0:P0)(p1:P1)(p2:P2)(p3:P3)(p4:P4)(p5:P5)(g:G')(h:P0->P1->P2->P3->P4->P5->G=G':=by intro p0 p1 p2 p3 p4 p5;simp+contextual (disch:=first|omega|simp only[go_sem,false_implies]) only[go_sem,wrap64,if_pos,p0,p1,p2,p3,p4,p5]<;>rfl):G:=Eq.mpr (h p0 p1 p2 p3 p4 p5) g
theorem Pk{P0 P1 P2 P3 P4 P5 P6 G:Prop}(p0:P0)(p1:P1)(p2:P2)(p3:P3)(p4:P4)(p5:P5)(p6:P6)(h:P0->P1->P2->P3->P4->P5->P6->G:=by intro p0 p1 p2 p3 p4 p5 p6;simp+contextual (disch:=first|omega|simp only[go_sem,false_implies]) only[go_sem,wrap64,if_pos,Nat.add_assoc,Nat.left_eq_add,Nat.add_eq_left,Nat.add_left_cancel_iff,p0,p1,p2,p3,p4,p5,p6]):G:=h p0 p1 p2 p3 p4 p5 p6
theorem IW{P0 P1 G G':Prop}(p0:P0)(p1:P1)(g:G')(h:P0->P1->G=G':=by intro p0 p1;simp+contextual (disch:=first|omega|simp only[go_sem,false_implies]) only[go_sem,wrap64,if_pos,p0,p1]<;>rfl):G:=Eq.mpr (h p0 p1) g
theorem Vr{P0 P1 P2 P3 P4 P5 P6 P7 G G':Prop}(p0:P0)(p1:P1)(p2:P2)(p3:P3)(p4:P4)(p5:P5)(p6:P6)(p7:P7)(g:G')(h:P0->P1->P2->P3->P4->P5->P6->P7->G=G':=by intro p0 p1 p2 p3 p4 p5 p6 p7;simp+contextual (disch:=first|omega|simp only[go_sem,false_implies]) only[go_sem,wrap64,if_pos,List.length_map,Nat.add_assoc,Nat.left_eq_add,Nat.add_eq_left,Nat.add_left_cancel_iff,p0,p1,p2,p3,p4,p5,p6,p7]<;>rfl):G:=Eq.mpr (h p0 p1 p2 p3 p4 p5 p6 p7) g
theorem Vt{P0 P1 P2 P3 P4 P5 P6 G G':Prop}(p0:P0)(p1:P1)(p2:P2)(p3:P3)(p4:P4)(p5:P5)(p6:P6)(g:G')(h:P0->P1->P2->P3->P4->P5->P6->G=G':=by intro p0 p1 p2 p3 p4 p5 p6;simp+contextual (disch:=first|omega|simp only[go_sem,false_implies]) only[go_sem,wrap64,if_pos,List.length_map,Nat.add_assoc,Nat.left_eq_add,Nat.add_eq_left,Nat.add_left_cancel_iff,p0,p1,p2,p3,p4,p5,p6]<;>rfl):G:=Eq.mpr (h p0 p1 p2 p3 p4 p5 p6) g
theorem Le{P0 P1 P2 G G':Prop}(p0:P0)(p1:P1)(p2:P2)(g:G')(h:P0->P1->P2->G=G':=by intro p0 p1 p2;simp+contextual (disch:=first|omega|simp only[go_sem,false_implies]) only[go_sem,wrap64,if_pos,List.length_map,p0,p1,p2]<;>rfl):G:=Eq.mpr (h p0 p1 p2) g
theorem Lf{P0 P1 G:Prop}(p0:P0)(p1:P1)(h:P0->P1->G:=by intro p0 p1;simp+contextual (disch:=first|omega|simp only[go_sem,false_implies]) only[go_sem,wrap64,if_pos,List.length_map,p0,p1]):G:=h p0 p1
theorem Lg{P0 G:Prop}(p0:P0)(h:P0->G:=by intro p0;simp+contextual (disch:=first|omega|simp only[go_sem,false_implies]) only[go_sem,wrap64,if_pos,List.length_map,p0]):G:=h p0
theorem Vu{P0 P1 P2 P3 P4 G G':Prop}(p0:P0)(p1:P1)(p2:P2)(p3:P3)(p4:P4)(g:G')(h:P0->P1->P2->P3->P4->G=G':=by intro p0 p1 p2 p3 p4;simp+contextual (disch:=first|omega|simp only[go_sem,false_implies]) only[go_sem,wrap64,if_pos,fx,Nat.add_assoc,Nat.left_eq_add,Nat.add_eq_left,Nat.add_left_cancel_iff,p0,p1,p2,p3,p4]<;>rfl):G:=Eq.mpr (h p0 p1 p2 p3 p4) g
theorem Pl{G G':Prop}(g:G')(h:G=G':=by simp+contextual (disch:=first|omega|simp only[go_sem,false_implies]) only[go_sem,wrap64,if_pos,List.length_map,beq_self_eq_true]<;>rfl):G:=Eq.mpr h g
theorem Vv{P0 P1 P2 G G':Prop}(p0:P0)(p1:P1)(p2:P2)(g:G')(h:P0->P1->P2->G=G':=by intro p0 p1 p2;simp+contextual (disch:=first|omega|simp only[go_sem,false_implies]) only[go_sem,wrap64,if_pos,Nat.add_assoc,Nat.left_eq_add,Nat.add_eq_left,Nat.add_left_cancel_iff,p0,p1,p2]<;>rfl):G:=Eq.mpr (h p0 p1 p2) g
theorem Vw{G:Prop}(h:G:=by simp+contextual (disch:=first|omega|simp only[go_sem,false_implies]) only[go_sem,wrap64,if_pos,Nat.add_assoc,Nat.left_eq_add,Nat.add_eq_left,Nat.add_left_cancel_iff]):G:=h
theorem Lh{P0 P1 P2 G G':Prop}(p0:P0)(p1:P1)(p2:P2)(g:G')(h:P0->P1->P2->G=G':=by intro p0 p1 p2;simp+contextual (disch:=first|omega|simp only[go_sem,false_implies]) only[go_sem,wrap64,if_pos,p0,p1,p2]<;>rfl):G:=Eq.mpr (h p0 p1 p2) g
theorem Pm{P0 P1 P2 P3 G G':Prop}(p0:P0)(p1:P1)(p2:P2)(p3:P3)(g:G')(h:P0->P1->P2->P3->G=G':=by intro p0 p1 p2 p3;simp+contextual (disch:=first|omega|simp only[go_sem,false_implies]) only[go_sem,wrap64,if_pos,List.length_map,p0,p1,p2,p3]<;>rfl):G:=Eq.mpr (h p0 p1 p2 p3) g
theorem lg{P0 G G':Prop}(p0:P0)(g:G')(h:P0->G=G':=by intro p0;simp+contextual only[go_sem,p0]<;>rfl):G:=Eq.mpr (h p0) g
theorem Vx{P0 G G':Prop}(p0:P0)(g:G')(h:P0->G=G':=by intro p0;simp+contextual (disch:=first|omega|simp only[go_sem,false_implies]) only[go_sem,wrap64,if_pos,List.length_map,bne_self_eq_false,p0]<;>rfl):G:=Eq.mpr (h p0) g
theorem aaj{P0 P1 P2 G G':Prop}(p0:P0)(p1:P1)(p2:P2)(g:G')(h:P0->P1->P2->G=G':=by intro p0 p1 p2;simp+contextual (disch:=first|omega|simp only[go_sem,false_implies]) only[go_sem,wrap64,if_pos,np,Nat.add_assoc,Nat.left_eq_add,Nat.add_eq_left,Nat.add_left_cancel_iff,List.length_map,p0,p1,p2]<;>rfl):G:=Eq.mpr (h p0 p1 p2) g
theorem Vy{G:Prop}(h:G:=by simp+contextual (disch:=first|omega|simp only[go_sem,false_implies]) only[go_sem,wrap64,if_pos,List.length_map,beq_self_eq_true]):G:=h
theorem aak{P0 P1 P2 P3 P4 P5 G G':Prop}(p0:P0)(p1:P1)(p2:P2)(p3:P3)(p4:P4)(p5:P5)(g:G')(h:P0->P1->P2->P3->P4->P5->G=G':=by intro p0 p1 p2 p3 p4 p5;simp+contextual (disch:=first|omega|simp only[go_sem,false_implies]) only[go_sem,wrap64,if_pos,List.length_map,Nat.add_assoc,Nat.left_eq_add,Nat.add_eq_left,Nat.add_left_cancel_iff,p0,p1,p2,p3,p4,p5]<;>rfl):G:=Eq.mpr (h p0 p1 p2 p3 p4 p5) g
theorem Po{P0 P1 G:Prop}(p0:P0)(p1:P1)(h:P0->P1->G:=by intro p0 p1;simp+contextual (disch:=first|omega|simp only[go_sem,false_implies]) only[go_sem,wrap64,if_pos,p0,p1]):G:=h p0 p1
theorem aal{P0 P1 P2 P3 P4 P5 G G':Prop}(p0:P0)(p1:P1)(p2:P2)(p3:P3)(p4:P4)(p5:P5)(g:G')(h:P0->P1->P2->P3->P4->P5->G=G':=by intro p0 p1 p2 p3 p4 p5;simp+contextual (disch:=first|omega|simp only[go_sem,false_implies]) only[go_sem,wrap64,if_pos,Nat.add_assoc,Nat.left_eq_add,Nat.add_eq_left,Nat.add_left_cancel_iff,List.length_map,p0,p1,p2,p3,p4,p5]<;>rfl):G:=Eq.mpr (h p0 p1 p2 p3 p4 p5) g
theorem aam{P0 P1 P2 P3 G G':Prop}(p0:P0)(p1:P1)(p2:P2)(p3:P3)(g:G')(h:P0->P1->P2->P3->G=G':=by intro p0 p1 p2 p3;simp+contextual (disch:=first|omega|simp only[go_sem,false_implies]) only[go_sem,wrap64,if_pos,Nat.add_assoc,Nat.left_eq_add,Nat.add_eq_left,Nat.add_left_cancel_iff,List.length_map,p0,p1,p2,p3]<;>rfl):G:=Eq.mpr (h p0 p1 p2 p3) g
theorem aan{P0 P1 P2 G G':Prop}(p0:P0)(p1:P1)(p2:P2)(g:G')(h:P0->P1->P2->G=G':=by intro p0 p1 p2;simp+contextual (disch:=first|omega|simp only[go_sem,false_implies]) only[go_sem,wrap64,if_pos,Nat.add_assoc,Nat.left_eq_add,Nat.add_eq_left,Nat.add_left_cancel_iff,List.length_map,p0,p1,p2]<;>rfl):G:=Eq.mpr (h p0 p1 p2) g
theorem aao{P0 G G':Prop}(p0:P0)(g:G')(h:P0->G=G':=by intro p0;simp+contextual (disch:=first|omega|simp only[go_sem,false_implies]) only[go_sem,wrap64,if_pos,List.length_map,Nat.add_assoc,Nat.left_eq_add,Nat.add_eq_left,Nat.add_left_cancel_iff,p0]<;>rfl):G:=Eq.mpr (h p0) g
theorem aap{P0 G G':Prop}(p0:P0)(g:G')(h:P0->G=G':=by intro p0;simp+contextual (disch:=first|omega|simp only[go_sem,false_implies]) only[go_sem,wrap64,if_pos,Nat.add_assoc,Nat.left_eq_add,Nat.add_eq_left,Nat.add_left_cancel_iff,List.length_map,p0]<;>rfl):G:=Eq.mpr (h p0) g
theorem aaq{P0 P1 G G':Prop}(p0:P0)(p1:P1)(g:G')(h:P0->P1->G=G':=by intro p0 p1;simp+contextual (disch:=first|omega|simp only[go_sem,false_implies]) only[go_sem,wrap64,if_pos,Nat.add_assoc,Nat.left_eq_add,Nat.add_eq_left,Nat.add_left_cancel_iff,k3,p0,p1]<;>rfl):G:=Eq.mpr (h p0 p1) g
theorem aar{P0 G:Prop}(p0:P0)(h:P0->G:=by intro p0;simp+contextual (disch:=first|omega|simp only[go_sem,false_implies]) only[go_sem,wrap64,if_pos,hc,List.length_map,if_true,Nat.zero_le,Nat.le_refl,List.take_length,p0]):G:=h p0
theorem aas{G G':Prop}(g:G')(h:G=G':=by simp+contextual (disch:=first|omega|simp only[go_sem,false_implies]) only[go_sem,wrap64,if_pos,List.length_map,beq_self_eq_true,Bool.and_true]<;>rfl):G:=Eq.mpr h g
theorem Vz{P0 G G':Prop}(p0:P0)(g:G')(h:P0->G=G':=by intro p0;simp+contextual only[go_sem,Nat.add_assoc,Nat.left_eq_add,Nat.add_eq_left,Nat.add_left_cancel_iff,p0]<;>rfl):G:=Eq.mpr (h p0) g
theorem aat{G G':Prop}(g:G')(h:G=G':=by simp+contextual only[go_sem,Li,Nat.add_assoc,Nat.left_eq_add,Nat.add_eq_left,Nat.add_left_cancel_iff,List.replicate]<;>rfl):G:=Eq.mpr h g
theorem aau{P0 P1 P2 G:Prop}(p0:P0)(p1:P1)(p2:P2)(h:P0->P1->P2->G:=by intro p0 p1 p2;simp+contextual (disch:=first|omega|simp only[go_sem,false_implies]) only[go_sem,wrap64,if_pos,List.length_map,p0,p1,p2]):G:=h p0 p1 p2
theorem aav{G G':Prop}(g:G')(h:G=G':=by simp+contextual (disch:=first|omega|simp only[go_sem,false_implies]) only[go_sem,wrap64,if_pos,np]<;>rfl):G:=Eq.mpr h g
theorem aaw{G:Prop}(h:G:=by simp+contextual (disch:=first|omega|simp only[go_sem,false_implies]) only[go_sem,wrap64,if_pos,np]):G:=h
theorem dt{P:Prop}(h:P:=by repeat(first|exact hg.mono (by omega)|exact Good.nil|refine Good.ay ?_ (by omega) rfl|refine Good.ay ?_ (by omega) (yg _ _ _ (by omega))|refine Good.ay ?_ (by omega) (by simp[ab.refs,V.aL,V.refs]<;>omega))):P:=h
theorem dW{P:Prop}(h:P:=by(repeat(first|exact yh|refine gw ?_|refine oG rfl ?_|refine oG (mW (pB (by omega))) ?_|refine GA rfl (by simp[V.refs,V.aL]<;>first|omega|assumption) ?_))):P:=h
theorem af{P:Prop}(h:P:=by omega):P:=h
theorem kG{P:Prop}(h:P:=by(repeat(first|exact gR|refine cD ?_|refine c7 rfl ?_|refine c7 (mW (pB (by omega))) ?_|refine jP 0 rfl rfl rfl ?_|refine iG rfl (by simp[V.refs,V.aL]<;>first|omega|assumption) ?_|refine mh rfl (by simp[V.ids]<;>omega) ?_))):P:=h
theorem ai{P:Prop}(h:P:=by kernel_rfl):P:=h
theorem cg{P:Prop}(h:P:=by(repeat(first|rfl|rw[aa]|rw[ae _ _ _ _ (by omega)]))):P:=h
theorem R3{P:Prop}(h:P:=by simp[V.refs,V.aL]<;>first|omega|assumption):P:=h
theorem zy7{P:Prop}(h:P:=by simp[ab.refs,V.aL,V.refs]<;>omega):P:=h
theorem aE{P:Prop}(h:P:=by simp):P:=h
theorem R4{P:Prop}(h:P:=by simp[V.ids]<;>omega):P:=h
theorem VA{P:Prop}(h:P:=by exact nk hM1.symm _ _ (by omega) (Good.ay (Good.ay (Good.ay (Good.ay (Good.ay (Good.ay (Good.ay (Good.mono (jQ lx lm ck EE) (by omega)) (by omega) rfl) (by omega) rfl) (by omega) rfl) (by omega) rfl) (by omega) rfl) (by omega) rfl) (by omega) rfl) (fun j j1 j2 j3=>by(repeat(first|rfl|rw[aa]|rw[ae _ _ _ _ (by omega)]));exact sA (by omega) (by omega) j2 j3 (by omega) (by omega))):P:=h
theorem EL{P:Prop}(h:P:=by rintro⟨h1,h2⟩;first|(cases h1;done)|(cases h2;done)):P:=h
theorem vl{P:Prop}(h:P:=by subst e;(repeat(first|rfl|rw[aa]|rw[ae _ _ _ _ (by omega)]))):P:=h
theorem Pp{P:Prop}(h:P:=by(repeat(first|rfl|rw[aa]|rw[ae _ _ _ _ (by omega)]))<;>exact u0):P:=h
theorem Pq{P:Prop}(h:P:=by(repeat(first|rfl|rw[aa]|rw[ae _ _ _ _ (by omega)]))<;>exact u1):P:=h
theorem Pr{P:Prop}(h:P:=by(repeat(first|rfl|rw[aa]|rw[ae _ _ _ _ (by omega)]))<;>exact ua):P:=h
theorem jo{P:Prop}(h:P:=by simpa[execOp,gC]using this):P:=h
theorem bC{P:Prop}(h:P:=by decide):P:=h
theorem xJ{P:Prop}(h:P:=by cases rs with|nil=>exact ho.elim|cons x l=>cases l<;>exact ho.elim):P:=h
theorem IX{P:Prop}(h:P:=by have _:=lx;have _:=lm;have _:=ck;unfold sj;(repeat(first|rfl|rw[aa]|rw[ae _ _ _ _ (by omega)]))):P:=h
theorem VB{P:Prop}(h:P:=by simp only[ay]<;>((repeat' split)<;>first|rfl|omega|(subst_vars;first|rfl|assumption|(symm;assumption)|omega|(simp_all;done)))):P:=h
theorem Lj{P:Prop}(h:P:=by exact⟨_,pg,jR,hq, .of_steps (.one h0 stepR_seq) (.pass (x:= .code y) rfl (fun _ _=> .inl (by simp)) dy)⟩):P:=h
theorem eK{P:Prop}(h:P:=by rw[ho];rfl):P:=h
theorem afz{P:Prop}(h:P:=by exact hK _ _ (by omega) (fin _ (by omega)) (fun j hj=>by(repeat(first|rfl|rw[aa]|rw[ae _ _ _ _ (by omega)])))):P:=h
theorem IY{P:Prop}(h:P:=by(repeat(first|rfl|rw[aa]|rw[ae _ _ _ _ (by omega)]))<;>exact GC):P:=h
theorem IZ{P:Prop}(h:P:=by(repeat(first|rfl|rw[aa]|rw[ae _ _ _ _ (by omega)]))<;>exact e1):P:=h
theorem I0{P:Prop}(h:P:=by(repeat(first|rfl|rw[aa]|rw[ae _ _ _ _ (by omega)]))<;>exact e2):P:=h
theorem I1{P:Prop}(h:P:=by(repeat(first|rfl|rw[aa]|rw[ae _ _ _ _ (by omega)]))<;>exact e5):P:=h
theorem I2{P:Prop}(h:P:=by(repeat(first|rfl|rw[aa]|rw[ae _ _ _ _ (by omega)]))<;>exact e6):P:=h
theorem I3{P:Prop}(h:P:=by(repeat(first|rfl|rw[aa]|rw[ae _ _ _ _ (by omega)]))<;>exact e7):P:=h
theorem I4{P:Prop}(h:P:=by unfold Ae;(repeat(first|rfl|rw[aa]|rw[ae _ _ _ _ (by omega)]))):P:=h
theorem aax{P:Prop}(h:P:=by exact⟨false, .inl rfl,rfl,jS (fun _ _ h=>by cases h.1) (by rintro⟨h1,h2⟩;first|(cases h1;done)|(cases h2;done)),eq _ (fun d=>by rw[aay w d ht])⟩):P:=h
theorem I5{P:Prop}(h:P:=by(repeat(first|rfl|rw[aa]|rw[ae _ _ _ _ (by omega)]));exact fm):P:=h
theorem I6{P:Prop}(h:P:=by(repeat(first|rfl|rw[aa]|rw[ae _ _ _ _ (by omega)]));exact e3):P:=h
theorem I7{P:Prop}(h:P:=by(repeat(first|rfl|rw[aa]|rw[ae _ _ _ _ (by omega)]));exact o0):P:=h
theorem I8{P:Prop}(h:P:=by(repeat(first|rfl|rw[aa]|rw[ae _ _ _ _ (by omega)]));exact o1):P:=h
theorem EM{P:Prop}(h:P:=by rw[List.drop_eq_getElem_cons i1,i2]):P:=h
theorem aaz{P:Prop}(h:P:=by exact h4 _ _ (by omega) (Good.ay (Good.ay (Good.ay (h2.mono (by omega)) (by omega) rfl) (by omega) rfl) (by omega) rfl) (fun j j1 j2=>by(repeat(first|rfl|rw[aa]|rw[ae _ _ _ _ (by omega)])))):P:=h
theorem ur{P:Prop}(h:P:=by simp[ab.refs,V.aL,V.refs]):P:=h
theorem gP{P:Prop}(h:P:=by simp;omega):P:=h
theorem Lk{P:Prop}(h:P:=by(repeat(first|exact I9|refine EN ?_|refine Ps rfl ?_))):P:=h
theorem Ll{P:Prop}(h:P:=by(repeat(first|rfl|rw[aa]|rw[ae _ _ _ _ (by omega)]));exact f7):P:=h
theorem lK{P:Prop}(h:P:=by dsimp only;omega):P:=h
theorem Ja{P:Prop}(h:P:=by exact sA (by omega) (by omega) j2 j3 (by omega) (by omega)):P:=h
theorem VC{P:Prop}(h:P:=by have _:=lx;have _:=lm;have _:=ck;unfold GD;(repeat(first|rfl|rw[aa]|rw[ae _ _ _ _ (by omega)]))):P:=h
theorem aaA{P:Prop}(h:P:=by exact⟨_,_,_,_,_,_,_,hK,by simp[Instr.range,run_underlying ht,pY], .inl rfl,n1,n2,⟨rfl,by simp,fun _=>⟨w.heap.size,by simp,rfl⟩⟩,fun j hj=> .inr (by simpa using hj)⟩):P:=h
theorem aaB{P:Prop}(h:P:=by exact⟨_,_,_,_,_,_,_,hK,by simp[Instr.range,run_underlying ht], .inl rfl,n1,n2,⟨rfl,by simp,fun _=>⟨w.heap.size,by simp,rfl⟩⟩,fun j hj=> .inr (by simpa using hj)⟩):P:=h
theorem nq{P:Prop}(h:P:=by simpa using hj):P:=h
theorem VD{P:Prop}(h:P:=by rw[g5 _ (by omega) (by omega) (by omega)];(repeat(first|rfl|rw[aa]|rw[ae _ _ _ _ (by omega)]))):P:=h
theorem Af{P:Prop}(h:P:=by simp[Op.equalIn,run_underlying ht]):P:=h
theorem afA{P:Prop}(h:P:=by exact⟨false, .inl rfl,rfl,jS (fun _ _ h=>by cases h.1) (by rintro⟨h1,h2⟩;first|(cases h1;done)|(cases h2;done)),eq _ (fun d=>by rw[aaC w d ht])⟩):P:=h
theorem afB{P:Prop}(h:P:=by exact⟨false, .inl rfl,rfl,jS (fun _ _ h=>by cases h.1) (by rintro⟨h1,h2⟩;first|(cases h1;done)|(cases h2;done)),eq _ (fun d=>by rw[aaD w d ht])⟩):P:=h
theorem aaE{P:Prop}(h:P:=by exact⟨false, .inl rfl,rfl,jS (fun _ _ h=>by cases h.1) (by rintro⟨h1,h2⟩;first|(cases h1;done)|(cases h2;done)),eq _ (fun d=>by rw[aaF w d ht])⟩):P:=h
theorem pk{P:Prop}(h:P:=by simp[V.refs]):P:=h
theorem Pt{P:Prop}(h:P:=by(repeat(first|rfl|rw[aa]|rw[ae _ _ _ _ (by omega)]));exact fx):P:=h
theorem Pu{P:Prop}(h:P:=by(repeat(first|rfl|rw[aa]|rw[ae _ _ _ _ (by omega)]));exact i4):P:=h
theorem aaG{P:Prop}(h:P:=by exact⟨a,ev,h1,h2,D.aW (w:=w) (w':=w) (fun b _ hn=>⟨rfl,hB b hn⟩) cs ev h3,h5,h4.mono (w:=w) (w':=w) (fun b _ hn=>⟨rfl,hB b hn⟩)⟩):P:=h
theorem aaH{P:Prop}(h:P:=by exact .inl ⟨_,_,_, .inr ⟨c,f,g,first,cap,hc,fC,hf, .inr (.inl ⟨rs,hH,rfl,fun id ax=>by simpa using List.all_eq_true.1 m9 id ax⟩)⟩,h⟩):P:=h
theorem aaI{P:Prop}(h:P:=by exact .inl ⟨_,_,_, .inr ⟨c,f,g,first,cap,hc,fC,hf, .inr (.inr (.inr ⟨hH,fun id ax=>by simpa using List.all_eq_true.1 m9 id ax⟩))⟩,h⟩):P:=h
theorem aaJ{P:Prop}(h:P:=by exact cU.same hH _ hK (by simp only[Sem.run_bind,hr,Result.andThen_ok];rfl) ⟨_,rfl,zv,[.bool false],rfl,r2, .bool false,[],rfl,rfl,rfl⟩):P:=h
theorem aaK{P:Prop}(h:P:=by exact .inr ⟨_,_,_,⟨c,f,g,first,cap,hc,fC,hf, .inr ⟨x,Δ,hH,rfl,rfl,fun id ax=>by simpa using List.all_eq_true.1 m9 id ax⟩⟩,h⟩):P:=h
theorem VE{P:Prop}(h:P:=by subst e1;(repeat(first|rfl|rw[aa]|rw[ae _ _ _ _ (by omega)]));exact q5):P:=h
theorem pZ{P:Prop}(h:P:=by simp[pC,ax]):P:=h
theorem aaL{P:Prop}(h:P:=by exact hK k (by rw[Ag,Bool.true_or,decide_eq_true_eq];omega) _ _ (by omega) (m2.mono (by omega)) (fun j hj=>m3 j (by omega))):P:=h
theorem aaM{P:Prop}(h:P:=by rw[List.length_map];exact Nat.le_refl _):P:=h
theorem lh{P:Prop}(h:P:=by simp[hy]):P:=h
theorem aaN{P:Prop}(h:P:=by exact(OV.ay (i:=nx'+3) (m:=nx'+7) (by omega) (by omega) (by omega) rfl).ay (by omega) (by omega) (by omega) rfl):P:=h
theorem VF{P:Prop}(h:P:=by subst e2;(repeat(first|rfl|rw[aa]|rw[ae _ _ _ _ (by omega)]))):P:=h
theorem VG{P:Prop}(h:P:=by(repeat(first|rfl|rw[aa]|rw[ae _ _ _ _ (by omega)]));exact q3):P:=h
theorem afC{P:Prop}(h:P:=by exact⟨b,r,k1,k2,k3,k4,k5,k6,k7,k8,k9,fun i=>e9 _ _ (fun r hr=>hrefs r (V.yi _ _ r hr)) (k10 i)⟩):P:=h
theorem Pv{P:Prop}(h:P:=by rw[hold id (by omega) (by omega),KG id (by omega) ax]):P:=h
theorem VH{P:Prop}(h:P:=by injection h with h;injection h with h;subst h;right;rw[Lm];omega):P:=h
theorem Pw{P:Prop}(h:P:=by simpa[execOp,gC,resolve,invoke,builtin]using this):P:=h
theorem aaO{P:Prop}(h:P:=by exact⟨fo Px.1,fo Px.2,fun id ax=>⟨dj yj.1.1 id ax,dj yj.1.2 id ax⟩,fun id ax=>dj yj.2 id ax⟩):P:=h
theorem aaP{P:Prop}(h:P:=by simp only[Sem.run_bind,hr,Result.andThen_ok];rfl):P:=h
theorem aaQ{P:Prop}(h:P:=by exact⟨t,by simp only[lI,if_neg h1],hv,rfl,fun h=>absurd h h1,fun _=>rfl,fun h=>absurd h h1⟩):P:=h
theorem aaR{P:Prop}(h:P:=by unfold xK;exact Nat.le_trans (List.length_filter_le _ _) (by rw[List.length_map];exact Nat.le_refl _)):P:=h
theorem Ln{P:Prop}(h:P:=by simp[ab.refs,V.aL,V.refs];omega):P:=h
theorem aaS{P:Prop}(h:P:=by exact fin _ [] (fun b hb=>by cases hb) eB (World.ownsRow_nil w' 0 ty sz) ⟨[],rfl,by simp,rfl⟩ rfl):P:=h
theorem Jb{P:Prop}(h:P:=by injection h with h;exact h ▸ ht):P:=h
theorem afD{P:Prop}(h:P:=by exact⟨w.heap.size,es,clock,rfl,heap_alloc_new w _,e3,aK.mono (ht.blocks (M:=M)) l _ e4⟩):P:=h
theorem aaT{P:Prop}(h:P:=by exact hK _ (by rw[Ag,List.drop_length];rfl) _ _ (by omega) (hg.mono (by omega)) (fun j hj=>rfl)):P:=h
theorem aaU{P:Prop}(h:P:=by simp only[Op.operands,Call.operands];exact Array.mem_append.2 (.inr (Array.mem_toList_iff.1 hx))):P:=h
theorem aaV{P:Prop}(h:P:=by rw[hn,hI,EO hx];rfl):P:=h
theorem afE{P:Prop}(h:P:=by exact Lo hu c9 (fun id h=> .inl (by rw[lj]at h;exact h)) g1.symm g3 kB (jA rfl)):P:=h
theorem Lp{P:Prop}(h:P:=by injection h with h;subst h;exact hK):P:=h
theorem aaW{P:Prop}(h:P:=by simp only[h1,dn,Option.map_some];exact hK):P:=h
theorem aaX{P:Prop}(h:P:=by exact⟨k1,BZ.tr.trans k2,BZ.size,BZ.defers.mono k2,fun j=>V.aT k2 _ _ (BZ.env j)⟩):P:=h
theorem aaY{P:Prop}(h:P:=by rw[ae _ _ _ _ e,ae _ _ _ _ e,ae _ _ _ _ (by omega),hI.eq j hj,ae _ _ _ _ e]):P:=h
theorem Py{P:Prop}(h:P:=by exact V.aT (ht.trans k2) _ _ (hs.env i)):P:=h
theorem afF{P:Prop}(h:P:=by exact⟨k1,hs.tr.trans k2,hs.size,hs.defers.mono k2,fun j=>V.aT k2 _ _ (hs.env j)⟩):P:=h
theorem aaZ{P:Prop}(h:P:=by exact Nat.le_trans (List.length_filter_le _ _) (by rw[List.length_map];exact Nat.le_refl _)):P:=h
theorem aa0{P:Prop}(h:P:=by exact lL sx (vm (by simp[V.refs];omega) (vn 0 rfl rfl rfl (mi lM)))):P:=h
theorem aa1{P:Prop}(h:P:=by rw[m3 id h2 (by omega),ae _ _ _ _ (by omega),ae _ _ _ _ (by omega),c9 id h2 h3]):P:=h
theorem aa2{P:Prop}(h:P:=by subst e2;(repeat(first|rfl|rw[aa]|rw[ae _ _ _ _ (by omega)]));exact q6):P:=h
theorem aa3{P:Prop}(h:P:=by subst e1;(repeat(first|rfl|rw[aa]|rw[ae _ _ _ _ (by omega)]));exact w4):P:=h
theorem afG{P:Prop}(h:P:=by exact Bool.false_ne_true (mj.trans h.marks)):P:=h
theorem aa4{P:Prop}(h:P:=by exact hQ _ _ _ _ val k5 (fe hs k1 k2 (o':=o') (nx':=nx') rfl fun id hu=>hu) k4):P:=h
theorem VI{P:Prop}(h:P:=by exact⟨_,pg,jR,hq, .of_steps (.one h0 stepR_block) dy⟩):P:=h
theorem VJ{P:Prop}(h:P:=by exact⟨_,pg,jR,hq, .of_steps (.one h0 kH) dy⟩):P:=h
theorem B0{P:Prop}(h:P:=by unfold fO;rw[Pz trivial]):P:=h
theorem R5{P:Prop}(h:P:=by exact .inr (.inr (.inr (pD.mono (fun v o n h=>hK _ h) (fun v o n h=>hX _ _ h) h)))):P:=h
theorem R6{P:Prop}(h:P:=by(repeat(first|rfl|rw[aa]|rw[ae _ _ _ _ (by omega)]));exact pj j hj e1):P:=h
theorem Lq{P:Prop}(h:P:=by exact h ▸ ⟨hb,[],by simp⟩):P:=h
theorem R7{P:Prop}(h:P:=by exact⟨none,0,0,rfl,rfl,Nat.le_refl _,fun _=>rfl,0,fun a ha=>by cases ha⟩):P:=h
theorem R8{P:Prop}(h:P:=by exact⟨b,es',clock,k1,k2,k4,aK.mono (fun b _ hn=>⟨rfl,hB b hn⟩) _ _ k3⟩):P:=h
theorem GF{P:Prop}(h:P:=by rw[show(hp o nx).o id=_ from ho];rfl):P:=h
theorem R9{P:Prop}(h:P:=by(repeat(first|rfl|rw[aa]|rw[ae _ _ _ _ (by omega)]))<;>exact q1):P:=h
theorem yl{P:Prop}(h:P:=by exact⟨by omega,by omega⟩):P:=h
theorem aa5{P:Prop}(h:P:=by(repeat(first|rfl|rw[aa]|rw[ae _ _ _ _ (by omega)]))<;>exact g1):P:=h
theorem aa6{P:Prop}(h:P:=by(repeat(first|rfl|rw[aa]|rw[ae _ _ _ _ (by omega)]))<;>exact g2):P:=h
theorem aa7{P:Prop}(h:P:=by(repeat(first|rfl|rw[aa]|rw[ae _ _ _ _ (by omega)]))<;>exact g3):P:=h
theorem Sa{P:Prop}(h:P:=by exact fun k hk s' h1 h2=>B1 _ (fun x hx=>aY x (uu k hk x hx)) s' h1 h2):P:=h
theorem Lr{P:Prop}(h:P:=by injection h with h;subst h;exact⟨by assumption,hK⟩):P:=h
theorem Sb{P:Prop}(h:P:=by exact⟨k1,xs,k2,evs,k3,k4,D.aW (fun b _ hn=>⟨rfl,hB b hn⟩) _ _ k5⟩):P:=h
theorem kI{P:Prop}(h:P:=by simp[hx]):P:=h
theorem Sc{P:Prop}(h:P:=by(repeat(first|rfl|rw[aa]|rw[ae _ _ _ _ (by omega)]));exact q4):P:=h
theorem Sd{P:Prop}(h:P:=by rw[show((hp o nx).put (bG o x.ids)).o j=_ from f4 j hm];exact kC.rfl' rfl):P:=h
theorem Se{P:Prop}(h:P:=by(repeat(first|rfl|rw[aa]|rw[ae _ _ _ _ (by omega)]));exact e5):P:=h
theorem Sf{P:Prop}(h:P:=by(repeat(first|rfl|rw[aa]|rw[ae _ _ _ _ (by omega)]));exact g8):P:=h
theorem Sg{P:Prop}(h:P:=by subst h;(repeat(first|rfl|rw[aa]|rw[ae _ _ _ _ (by omega)]))):P:=h
theorem Sh{P:Prop}(h:P:=by exact hH.fresh j fun hu=>h (.inl hu)):P:=h
theorem Si{P:Prop}(h:P:=by exact .inl ⟨3,1,rfl,aa _ _ _⟩):P:=h
theorem aa8{P:Prop}(h:P:=by exact⟨r, .inl rfl,by obtain⟨_,rfl,_⟩:=hx;rfl,fun op=>g2 op p q,g1⟩):P:=h
theorem Ls{P:Prop}(h:P:=by simp at h;obtain⟨rfl,rfl⟩:=h;exact⟨rfl,rfl⟩):P:=h
theorem Sj{P:Prop}(h:P:=by exact hN _ _ _ (jT hs k1 k2 (nr ho) df rfl fun id hu=> .inl hu)):P:=h
theorem Sk{P:Prop}(h:P:=by rw[show((hp o nx).put (bG o x.ids)).o j=_ from f3 j hm];exact kC.fz _):P:=h
theorem Sl{P:Prop}(h:P:=by exact⟨_,_,_,_,_,_,_,hK,by simp[hr], .inl rfl,h1,h2,h3,by simp⟩):P:=h
theorem aa9{P:Prop}(h:P:=by simp only[a0,Array.size_append,Array.size_replicate];simp at hlen;omega):P:=h
theorem aba{P:Prop}(h:P:=by exact forall_congr' fun k=>forall_congr' fun hk=>by rw[ih k hk (d+1)]):P:=h
theorem Sm{P:Prop}(h:P:=by cases xv<;>first|(simp[Sn]at hwd;done)|(cases yv<;>simp[he])):P:=h
theorem Sp{P:Prop}(h:P:=by exact⟨x,b.trans y,z⟩):P:=h
theorem ym{P:Prop}(h:P:=by simpa[V.refs]using hr):P:=h
theorem Sq{P:Prop}(h:P:=by exact hK _ _ (by omega) (OV.mono (by omega)) c9):P:=h
theorem Sr{P:Prop}(h:P:=by exact bD s1 (fun r hr=>by simp[ab.refs,V.aL,V.refs]at hr)):P:=h
theorem abb{P:Prop}(h:P:=by rw[Ag,Bool.true_or,decide_eq_true_eq];omega):P:=h
theorem Lt{P:Prop}(h:P:=by rw[m9];simp only[pC,fC,xL];exact ax):P:=h
theorem Ss{P:Prop}(h:P:=by injection hu with hu;injection hv with hv;subst hu;subst hv;exact h3):P:=h
theorem yp{P:Prop}(h:P:=by simp[V.aL,V.refs]):P:=h
theorem B2{P:Prop}(h:P:=by exact hg.fresh j (by omega)):P:=h
theorem Su{P:Prop}(h:P:=by exact hN _ _ _ _ k3.2 (oH hs k1 k2 k3.1 df rfl fun id hu=>hu)):P:=h
theorem Sv{P:Prop}(h:P:=by exact⟨by omega,fun k hk=>ih k hk (by have:=Tm.mm hk;omega)⟩):P:=h
theorem pE{P:Prop}(h:P:=by simp[hz]):P:=h
theorem Lu{P:Prop}(h:P:=by simp at hl;obtain⟨rfl,rfl⟩:=hl;exact hK):P:=h
theorem GG{P:Prop}(h:P:=by rw[i4];exact fun h=>nomatch h):P:=h
theorem Sw{P:Prop}(h:P:=by rw[ae _ _ _ _ xM,sB _ _ (by omega)];exact h0 id (by omega)):P:=h
theorem Sx{P:Prop}(h:P:=by exact lL s11 (mi (mi (vn 0 rfl rfl rfl lM)))):P:=h
theorem Sz{P:Prop}(h:P:=by subst e2;rw[EP]at hr;simp[ab.refs,V.aL,V.refs]at hr):P:=h
theorem Lw{P:Prop}(h:P:=by simp at hj hy;subst hj;subst hy;exact aY):P:=h
theorem GH{P:Prop}(h:P:=by rw[if_neg e,if_neg (by omega)]):P:=h
theorem kJ{P:Prop}(h:P:=by cases h):P:=h
theorem SA{P:Prop}(h:P:=by subst e;rw[hx]at hy;injection hy with hy;rw[<- hy];exact kK):P:=h
theorem abc{P:Prop}(h:P:=by rw[List.length_eraseIdx];simp[hi];omega):P:=h
theorem GI{P:Prop}(h:P:=by rw[hm];exact ab.noConfusion):P:=h
theorem GJ{P:Prop}(h:P:=by rw[hp];exact ab.noConfusion):P:=h
theorem Lx{P:Prop}(h:P:=by simp only[V.den,D.den]at GK;rw[GK]):P:=h
theorem abd{P:Prop}(h:P:=by exact h3 e (Array.mem_toList_iff.1 he) hb):P:=h
theorem GL{P:Prop}(h:P:=by rw[hg];simp[dX,hv,e]):P:=h
theorem SB{P:Prop}(h:P:=by exact cU.same hH _ h (by simp[execOp,gC,hr]) ⟨_,rfl,hv⟩):P:=h
theorem Ly{P:Prop}(h:P:=by rw[uM];exact dk all _ bf):P:=h
theorem Lz{P:Prop}(h:P:=by exact⟨l,rfl,by simp at h1;omega,hl⟩):P:=h
theorem tF{P:Prop}(h:P:=by rw[xE];rfl):P:=h
theorem GM{P:Prop}(h:P:=by simp[V.aL,V.refs];omega):P:=h
theorem SC{P:Prop}(h:P:=by exact bN t u hu (hQ _ s φ w (.iface t u) h hs ⟨u,rfl,hd⟩)):P:=h
theorem LA{P:Prop}(h:P:=by rw[if_neg e,if_neg fun h=>e h.symm]):P:=h
theorem GN{P:Prop}(h:P:=by simp[binOp,B3 hr]):P:=h
theorem LB{P:Prop}(h:P:=by exact⟨.ret,s',aJ,hq,jU,trivial⟩):P:=h
theorem LC{P:Prop}(h:P:=by exact bnd _ h _ (Nat.le_max_right _ _)):P:=h
theorem SD{P:Prop}(h:P:=by exact⟨e',VK,fr',hR,ComesIn.of_steps SE hs,KH,hl⟩):P:=h
theorem tG{P:Prop}(h:P:=by rw[hx];rfl):P:=h
theorem yq{P:Prop}(h:P:=by rw[hx];exact hk):P:=h
theorem LD{P:Prop}(h:P:=by rw[xF i hi];exact congrArg some hb):P:=h
theorem SF{P:Prop}(h:P:=by exact⟨b,k1,k2.mono (fun b _ hn=>⟨rfl,hB b hn⟩) rfl⟩):P:=h
theorem B4{P:Prop}(h:P:=by exact VL j1 j2 j3):P:=h
theorem LF{P:Prop}(h:P:=by unfold fO;exact Eq.trans rfl rfl):P:=h
theorem GO{P:Prop}(h:P:=by rw[SG]at hl;simp at hl):P:=h
theorem GP{P:Prop}(h:P:=by subst hi;simp[Ne.symm h]):P:=h
theorem LG{P:Prop}(h:P:=by exact⟨.bN _,s',aJ,hq,jU,hm⟩):P:=h
theorem LH{P:Prop}(h:P:=by unfold Jc;exact Eq.trans rfl rfl):P:=h
theorem GQ{P:Prop}(h:P:=by exact fun _=>Jd _ _ _):P:=h
theorem GR{P:Prop}(h:P:=by rw[this]at h3;cases h3):P:=h
theorem GS{P:Prop}(h:P:=by exact absurd h0 (by simp)):P:=h
theorem LI{P:Prop}(h:P:=by unfold eqGuard;cases op<;>simp):P:=h
theorem GU{P:Prop}(h:P:=by rw[h]at h1;simp at h1):P:=h
theorem LJ{P:Prop}(h:P:=by simp[hj]at hr;exact⟨hr,rfl⟩):P:=h
theorem yr{P:Prop}(h:P:=by simpa using h2):P:=h
theorem LK{P:Prop}(h:P:=by simp at hj;subst hj;exact dY):P:=h
theorem yu{P:Prop}(h:P:=by simpa using hx):P:=h
theorem LL{P:Prop}(h:P:=by rw[ho];exact ab.noConfusion):P:=h
theorem LM{P:Prop}(h:P:=by rw[hx];exact ab.noConfusion):P:=h
theorem abe{P:Prop}(h:P:=by rw[Ag,List.drop_length];rfl):P:=h
theorem GV{P:Prop}(h:P:=by rw[ae _ _ _ _ e]):P:=h
theorem yw{P:Prop}(h:P:=by rw[h1];rfl):P:=h
theorem B5{P:Prop}(h:P:=by cases b<;>rfl):P:=h
theorem yx{P:Prop}(h:P:=by rw[hj];rfl):P:=h
theorem abf{P:Prop}(h:P:=by exact⟨b,h4.trans h5,h6⟩):P:=h
theorem zw3{P:Prop}(h:P:=by refine fin _ _ (.inr rfl) _ _ af dt (fun j j1 j2=>by(repeat(first|rfl|rw[aa]|rw[ae _ _ _ _ (by omega)]))) (fun h=> ?_);exact afG):P:=h
theorem zw4{P:Prop}(h:P:=by refine aI (a8 rfl) ?_;refine oF q2 ?_;refine eL _ _ _ .busy none af (fin _ _ (fun id ax=>VB) dt af) cg (fun id h3 h4=>by(repeat(first|rfl|rw[aa]|rw[ae _ _ _ _ (by omega)])))):P:=h
theorem zw7{P:Prop}(h:P:=by simp+contextual (disch:=first|omega|simp only[go_sem,false_implies]) only[go_sem,wrap64,if_pos,u0,u1,ua,d0,d1,ER,ES,Nat.add_assoc,Nat.left_eq_add,Nat.add_eq_left,Nat.add_left_cancel_iff,List.length_map,xN,SH,B6];refine aj (1+1) h6 af ?_;rw[hS];refine vo ha.1 Pp Pq (.inl Pr) ?_;exact kG):P:=h
theorem zw8{P:Prop}(h:P:=by simp[Ef,Array.getD_eq_getD_getElem?,Array.getElem?_replicate]at jB;split at jB<;>simp at jB):P:=h
theorem zw9{P:Prop}(h:P:=by obtain⟨h0,h1,h2⟩:=h;refine⟨h0,hr.us id h1,fun da=> ?_⟩;obtain⟨h3,h4⟩:=hr.row id h1 da;obtain⟨b,h5,h6⟩:=h2 h3;exact abf):P:=h
theorem VM{P:Prop}(h:P:=by obtain⟨a,b,c⟩:=hr id pk;obtain⟨h0,h1,h2⟩:=h;refine⟨h0,c,fun da=> ?_⟩;rw[a]at da;obtain⟨x,y,z⟩:=h2 da;exact Sp):P:=h
theorem VN{P:Prop}(h:P:=by refine Lb u0 u1 ua d0 d1 ER ES xN ?_;refine aj (1+1) h6 af ?_;rw[hS];refine vo ha.1 Pp Pq (.inl Pr) ?_;exact kG):P:=h
theorem VO{P:Prop}(h:P:=by refine Lb u0 u1 ua d0 d1 ER ES eW ?_;refine aj (i+1) h6 af ?_;rw[hS];refine vo ha.1 Pp Pq (.inl Pr) ?_;exact kG):P:=h
theorem VP{P:Prop}(h:P:=by obtain⟨h0,x,hx⟩:=GW hI;simp+contextual only[go_sem,hI,hx,h0];refine aI (a8 rfl) ?_;refine cT ?_;exact aaV):P:=h
theorem VQ{P:Prop}(h:P:=by obtain⟨a,b,c⟩:=hr id pk;obtain⟨h0,h1,h2⟩:=h;refine⟨h0,c,fun da=> ?_⟩;obtain⟨x,y,z⟩:=h2 (a.1 da);exact Sp):P:=h
theorem LN{P:Prop}(h:P:=by obtain⟨i1,i2⟩:=List.getElem?_eq_some_iff.1 hx;exact EM):P:=h
theorem VR{P:Prop}(h:P:=by intro j hj;simp only[bI,h2,List.mem_map,List.mem_filter]at hj;obtain⟨e,⟨he,hb⟩,rfl⟩:=hj;exact abd):P:=h
theorem abg{P:Prop}(h:P:=by simp only[lJ]at h;injection h with h;injection h with _ h;exact Lq):P:=h
theorem abh{P:Prop}(h:P:=by obtain⟨h0,h1,h2⟩:=h;refine⟨h0,hr.us id h1,fun e' qF=> ?_⟩;obtain⟨e,g1,g2,g3⟩:=hr.ep id e' h1 qF;obtain⟨h3,h4⟩:=h2 e g1;refine⟨Nat.le_trans h3 g2,fun heq=> ?_⟩;rw[g3 (by omega)];exact h4 af):P:=h
theorem VS{P:Prop}(h:P:=by rw[List.drop_eq_getElem_cons h1];rw[List.getElem?_eq_getElem h1]at hx;injection hx with hx;rw[hx]):P:=h
theorem VT{P:Prop}(h:P:=by obtain⟨z,h1,h⟩:=jD h;simp only[Prod.mk.injEq]at h;obtain⟨rfl,rfl,rfl⟩:=h;exact aaW):P:=h
theorem Je{P:Prop}(h:P:=by refine jP 1 rfl rfl rfl ?_;exact kG):P:=h
theorem abi{P:Prop}(h:P:=by simp only[List.map_cons,List.map_nil];refine oF heq ?_;simp only[List.isEmpty_nil,if_true];refine IW heq KI ?_;rw[List.length_cons]at hl;rw[if_pos (by omega)];refine bY ?_;exact Si):P:=h
theorem PA{P:Prop}(h:P:=by refine bY ?_;refine aI (a8 rfl) ?_;exact pX):P:=h
theorem LO{P:Prop}(h:P:=by simp only[St.S,jH]at this;exact this):P:=h
theorem PB{P:Prop}(h:P:=by refine bO.cc _ af af dt (fun j hj=>rfl) ?_;exact dW):P:=h
theorem VU{P:Prop}(h:P:=by obtain⟨h0,x,hx⟩:=GW hI;simp+contextual only[go_sem,h,hI,hx,h0];exact aaV):P:=h
theorem abj{P:Prop}(h:P:=by refine⟨t,by simp only[lI,if_pos h1,hl],hv,rfl,fun _=>hl,fun h=>absurd h1 h,fun _=>⟨fun u hu=> ?_,fun h=>absurd h1 h⟩⟩;rw[(iC h1).1 hu];exact Nat.le_refl _):P:=h
theorem VV{P:Prop}(h:P:=by simp only[Array.getD_eq_getD_getElem?];rw[Array.getElem?_setIfInBounds_ne (Ne.symm hi)]):P:=h
theorem VW{P:Prop}(h:P:=by refine lg hI ?_;refine aI (a8 rfl) ?_;refine cT ?_;rw[hn,hI];rfl):P:=h
theorem VX{P:Prop}(h:P:=by dsimp only;refine bO.cc _ (Nat.le_refl _) af hI.cH (fun _ _=>rfl) ?_;exact dW):P:=h
theorem Ah{P:Prop}(h:P:=by subst this;exact pX):P:=h
theorem abk{P:Prop}(h:P:=by rw[yy]at Ag;refine fZ ?_;refine aj (k+1) ⟨h1,Ag⟩ af ?_;refine bO.cc _ (Nat.le_refl _) af (hg.mono af) (fun j hj=>m3 j af) ?_;exact dW):P:=h
theorem abl{P:Prop}(h:P:=by simp only[Option.map_eq_some_iff]at h;obtain⟨d,h1,rfl⟩:=h;obtain⟨arr,rfl,g1,g2⟩:=hx;obtain⟨val,r1,r2⟩:=iH h1 g1 g2;exact fin (r1 w) r2):P:=h
theorem VY{P:Prop}(h:P:=by refine cT ?_;refine ak (gU _ _ _) rfl ?_;refine cT ?_;rw[hn]):P:=h
theorem VZ{P:Prop}(h:P:=by subst this;refine mV hn ?_;refine aI (a8 rfl) ?_;exact pX):P:=h
theorem abm{P:Prop}(h:P:=by rw[show(⟨put o' [(fr, .arr 0 ty sz es)],fun id=>us id\/id=fr⟩:Hp).o fr=put o' [(fr, .arr 0 ty sz es)] fr from rfl,this]at he;injection he):P:=h
theorem abn{P:Prop}(h:P:=by simp only[hx]at h ho;injection h with h;subst h;simp only[ab.fz]at ho;simp only[aR,ho]at aY;rw[hd (by rw[ho];rfl)];exact aY.den):P:=h
theorem abo{P:Prop}(h:P:=by dsimp only;refine bO.cc _ af af dt (fun j hj=>by(repeat(first|rfl|rw[aa]|rw[ae _ _ _ _ (by omega)]))) ?_;exact dW):P:=h
theorem abp{P:Prop}(h:P:=by obtain⟨g3,x2,g4⟩:=ih cE b1 (fun z hz=>m1 z pE) (fun z hz=>m2 z pE) g1 h;exact⟨g3,x1++x2,by rw[g4,g2,List.append_assoc]⟩):P:=h
theorem abq{P:Prop}(h:P:=by obtain⟨h0,y,h1,h2,h3,h4⟩:=vq h;simp only[Prod.mk.injEq]at h4;obtain⟨rfl,rfl,rfl⟩:=h4;exact⟨h0,y,h1,h2,h3,hK⟩):P:=h
theorem abr{P:Prop}(h:P:=by refine BV u0 u1 ua d0 d1 ER ES ?_;refine aj (1+1) h6 af ?_;rw[hS];refine vo ha.1 Pp Pq (.inl Pr) ?_;exact kG):P:=h
theorem abt{P:Prop}(h:P:=by simp only[Option.map_eq_some_iff]at h;obtain⟨r,h1,rfl⟩:=h;obtain⟨g1,g2⟩:=V0 h1 hg (aq M φ H) w xv yv hx hy;exact aa8):P:=h
theorem abu{P:Prop}(h:P:=by obtain⟨h3,h4⟩:=hb _ cu h2;exact⟨by rw[World.cell?_of_block (w:=w) (w':=w') (a:=a.add j) (by simpa using h3)];exact h1,h4⟩):P:=h
theorem abv{P:Prop}(h:P:=by simp only[ha];obtain⟨z,h1,h⟩:=jD h;simp only[Prod.mk.injEq]at h;obtain⟨rfl,rfl,rfl⟩:=h;exact Ai h1 hK):P:=h
theorem abw{P:Prop}(h:P:=by simp only[hw,if_true];obtain⟨uN,kB⟩:=B7 LP (fun id ax=>ag2 id (by rw[xF];exact ax)) V1 aY.2;exact afE):P:=h
theorem abx{P:Prop}(h:P:=by cases y<;>simp only[V.same,Bool.false_eq_true,Bool.and_eq_true]at h;rw[Nat.eq_of_beq_eq_true h.1,Nat.eq_of_beq_eq_true h.2]):P:=h
theorem aby{P:Prop}(h:P:=by rw[<- vr];refine ja hH (cy w _) c9 _ _ Zh ?_;unfold aR;simp only[bL,aN,if_true];exact afD):P:=h
theorem abz{P:Prop}(h:P:=by simp only[List.map_cons,List.map_nil];refine oF heq ?_;simp only[List.isEmpty_nil,if_true];refine oF heq ?_;exact Si):P:=h
theorem abA{P:Prop}(h:P:=by refine bY ?_;refine aI (a8 rfl) ?_;refine bY ?_;refine aj (k+1) h2 af (bO.d0 _ ?_);exact dW):P:=h
theorem abB{P:Prop}(h:P:=by intro u hu;simp only[Array.toList_extract,List.extract]at hu;exact hf u (List.mem_of_mem_drop (List.mem_of_mem_take hu))):P:=h
theorem abC{P:Prop}(h:P:=by refine⟨hH,Trans.refl _ _ _, ?_,⟨[],rfl,List.nodup_nil,fun _=>rfl,fun r hr=>by cases hr⟩,B8 hd⟩;exact aa9):P:=h
theorem V2{P:Prop}(h:P:=by obtain⟨hi,_⟩:=List.getElem?_eq_some_iff.1 hm;exact abc):P:=h
theorem abD{P:Prop}(h:P:=by simp only[lJ]at h;injection h with h;injection h with h4 h5;subst h4;subst h5;rw[if_pos rfl]at hr;exact⟨n,hr⟩):P:=h
theorem abE{P:Prop}(h:P:=by rw[e];obtain⟨k1,k2⟩:=kL (us':=GX (Array.replicate ops.size false)) hs.heap (fun id h=> .inl h);exact afF):P:=h
theorem V3{P:Prop}(h:P:=by simp only[bL,aN,h1,if_false];exact Sh):P:=h
theorem abF{P:Prop}(h:P:=by refine cT ?_;simp at h1;rw[List.drop_eq_nil_of_le h1]at hf;simp only[aQ]at hf;rw[hf]at hK;exact Sq):P:=h
theorem abG{P:Prop}(h:P:=by refine cD (c7 aa5 (iG aa6 pk (cD (cD (jP 0 rfl rfl aa7 ?_)))));exact kG):P:=h
theorem abH{P:Prop}(h:P:=by simp only[Option.some.injEq,Prod.mk.injEq]at h;obtain⟨rfl,rfl,rfl⟩:=h;simp only[ho];exact⟨_,hg,hK⟩):P:=h
theorem V4{P:Prop}(h:P:=by rw[show fr+(j+1)=fr+1+j by omega];exact this):P:=h
theorem abI{P:Prop}(h:P:=by refine aU (key _ _ fun r g1 o' nx' g2 g3 g4=> ?_);refine IQ g1 ?_;exact hK _ _ af (g3.mono af) g4):P:=h
theorem V5{P:Prop}(h:P:=by simp+contextual only[go_sem,h,hI];rw[hn,hI];rfl):P:=h
theorem abJ{P:Prop}(h:P:=by injection h with h;subst h;obtain⟨u,rfl,_⟩:=hy;simp only[V.den,D.den]at hx;subst hx;exact afB):P:=h
theorem abK{P:Prop}(h:P:=by injection h with h;subst h;obtain⟨u,rfl,_⟩:=hx;simp only[V.den,D.den]at hy;subst hy;exact afA):P:=h
theorem abL{P:Prop}(h:P:=by refine .inr (.inr (.inl ⟨ds,out,fD,hP,qG, ?_⟩));cases out<;>first|exact hK _ h|exact hX _ _ h):P:=h
theorem SI{P:Prop}(h:P:=by rw[hI.eq 2 (by omega)];(repeat(first|rfl|rw[aa]|rw[ae _ _ _ _ (by omega)]));exact p2):P:=h
theorem SJ{P:Prop}(h:P:=by simp only[aR,ho]at aY;obtain⟨bk,es,clock,g1,_⟩:=aY;rw[<- eY]at g1;subst g1;exact aax):P:=h
theorem SK{P:Prop}(h:P:=by simp only[ab.fz]at ho;simp only[aR,ho]at aY;rw[(hd ep (by rw[ho];rfl)).2 rfl];exact aY):P:=h
theorem yz{P:Prop}(h:P:=by rw[this];exact pX):P:=h
theorem SL{P:Prop}(h:P:=by rw[Array.toList_append,Array.toList_append,Array.toList_map];exact V.qK GY dG hca):P:=h
theorem SM{P:Prop}(h:P:=by refine .inr (.inl ⟨ds,out,fD,hP,qG, ?_⟩);cases out<;>first|exact hK _ h|exact hX _ _ h):P:=h
theorem SN{P:Prop}(h:P:=by obtain⟨b,dZ,ty,k1,k2,k3,k4⟩:=bf;exact⟨b,dZ,ty,k1,k2,lN _ _ hrefs k3,k4⟩):P:=h
theorem SO{P:Prop}(h:P:=by intro cE b _ _ hb h;simp only[lJ]at h;injection h with h;injection h with _ h;exact Lq):P:=h
theorem SP{P:Prop}(h:P:=by refine aX.aG mix afH aE ?_;rw[c29];refine oF hx ?_;refine bc h ?_;exact pX):P:=h
theorem GZ{P:Prop}(h:P:=by refine R0 w1 w2 ?_;exact afz):P:=h
theorem SQ{P:Prop}(h:P:=by obtain⟨arr,rfl,g1,g2⟩:=hx;obtain⟨val,r1,r2⟩:=Jf h g1 g2;exact fin r1 r2):P:=h
theorem SR{P:Prop}(h:P:=by simp only[Array.getD_eq_getD_getElem?];rw[Array.getElem?_setIfInBounds_ne (Ne.symm h1)]):P:=h
theorem SS{P:Prop}(h:P:=by refine⟨x,fun heq=> ?_⟩;obtain⟨p,q,r,z,u⟩:=y heq;exact⟨p,q,r,b.trans z,u⟩):P:=h
theorem SU{P:Prop}(h:P:=by rw[hL.refs,List.all_eq_true];intro r hr;have:=hrefs r hr;exact decide_eq_true af):P:=h
theorem SV{P:Prop}(h:P:=by refine .inl ⟨ds,out,fD,hP, ?_⟩;cases out<;>first|exact hK _ h|exact hX _ _ h):P:=h
theorem SW{P:Prop}(h:P:=by simp only[Ef,Array.getD_eq_getD_getElem?,Array.getElem?_replicate];split<;>rfl):P:=h
theorem SX{P:Prop}(h:P:=by rw[show((hp o nx).put (bG o x.ids)).o id=_ from this]at g1;exact⟨id,g1,g2⟩):P:=h
theorem SY{P:Prop}(h:P:=by simp[H',ab.cz]at he;subst he;exact⟨Nat.le_refl _,fun _=>by simp[aJ]⟩):P:=h
theorem SZ{P:Prop}(h:P:=by refine bO.cc _ (Nat.le_refl _) af (hg.mono af) (fun _ _=>rfl) ?_;exact dW):P:=h
theorem S0{P:Prop}(h:P:=by rw[hm,iI (o:=s.o) fun id ax=>hr id (mn _ id ax)];exact Zi):P:=h
theorem S1{P:Prop}(h:P:=by obtain⟨a,b,c,h⟩:=funcOf (P:=Tryz.prog) (t:=209) ai;unfold pn;rw[h]):P:=h
theorem S2{P:Prop}(h:P:=by cases y<;>simp only[D.same,Bool.false_eq_true]at h;rw[D.dK ct _ h]):P:=h
theorem S3{P:Prop}(h:P:=by rw[if_neg e0]at h;injection h with h;injection h with h _;exact absurd h e0):P:=h
theorem S4{P:Prop}(h:P:=by subst this;refine mV hx ?_;refine aI (a8 rfl) ?_;exact pX):P:=h
theorem S5{P:Prop}(h:P:=by rw[Bool.eq_iff_iff];simp only[List.all_eq_true (l:=t.kids)];exact aba):P:=h
theorem S6{P:Prop}(h:P:=by obtain⟨b,r,k1,k2,k3,k4,k5,k6,k7,k8,k9,k10⟩:=bf;exact afC):P:=h
theorem S7{P:Prop}(h:P:=by rw[if_pos h3]at h;injection h with h;injection h with _ h;exact Lq):P:=h
theorem S8{P:Prop}(h:P:=by obtain⟨u,us,rfl,h1,_⟩:=h;simp at hd;subst hd;exact⟨u,aE,h1⟩):P:=h
theorem S9{P:Prop}(h:P:=by refine bO.cc _ (Nat.le_refl _) af hg (fun _ _=>rfl) ?_;exact dW):P:=h
theorem Ta{P:Prop}(h:P:=by rw[m2.eq id (by omega)];unfold ext;rw[if_neg (by omega)];exact cg):P:=h
theorem Tb{P:Prop}(h:P:=by intro c hx;rw[Array.getD_eq_getD_getElem?,hx]at dy;simp at dy):P:=h
theorem Tc{P:Prop}(h:P:=by obtain⟨r,h⟩:=LQ hS 12 p.2 40 (G0 p hp);exact⟨_,r,h⟩):P:=h
def tH(ops:Array Oper)(j:Nat):Option Tmp:=(ops[j]?).bind (·.dst)
structure bZ where
 dst:Option Nat
 op:Op
 gd:Option (Nat×Bool):=none
instance:Inhabited bZ:=⟨⟨none, .ready 0,none⟩⟩
def ET(n:Nat):Option Tmp->Bool
 |some d=>decide (d<n)
 |none=>true
def LR(n:Nat)(ops:Array Oper)(o:Oper):Option bZ:=
 if ET n o.dst=true then match o.guard with
  |none=>some ⟨o.dst,o.op,none⟩
  |some (j,want)=>match tH ops j with
   |some d=>some ⟨o.dst,o.op,some (d,want)⟩
   |none=>none
 else none
def lO(n:Nat)(ops:Array Oper):List Oper->Option (List bZ)
 |[]=>some []
 |o::l=>match LR n ops o,lO n ops l with
  |some x,some xs=>some (x::xs)
  |_,_=>none
def tmpsOf(o:bZ):List Nat:=(o.op.operands.toList.filterMap fun| .tmp t=>some t|_=>none)++(match o.gd with|some (d,_)=>[d]|none=>[])
def fE(o:bZ):List Nat:=tmpsOf o++o.dst.toList
def bI(ops:Array Oper)(i:Nat):List Nat:=match ops[i]? with|some o=>(o.after.toList.filter (Region.binds .any)).map (·.on)|none=>[]
def cf(l:List bZ)(i:Nat):bZ:=l.getD i default
inductive IC where
 |skip|ag (l:List bZ)|dH (l:List bZ) (pr:List (List Nat))|seq (a b:IC)|cond (c:Operand) (a b:IC)|block (id:Nat) (a:IC)|loop (a:IC)|exit (id:Nat)|ret|bad
 |KJ (g:Operand) (ps:List Nat) (a b:IC)
 deriving Inhabited
inductive ky where
 |ret|exit (id:Nat)
def ky.code:ky->Code
 | .ret=> .ret
 | .exit id=> .exit id
def mo(acc:List Nat):List Nat->Nat
 |[]=>0
 |j::ps=>(2^j|||acc.getD j 0)|||mo acc ps
def eP:List (List Nat)->List Nat->List Nat
 |[],acc=>acc
 |ps::l,acc=>eP l (acc++[mo acc ps])
def sC(x y:bZ):Bool:=match x.dst with|some d=> !(fE y).contains d|none=>true
def Aj(l:List bZ)(pr:List (List Nat)):Bool:=
 (List.range l.length).all fun j=>(List.range j).all fun i=>((eP pr []).getD j 0).testBit i||(sC (cf l i) (cf l j)&&sC (cf l j) (cf l i))
def lu(xs ys:List Nat):Bool:=xs.all fun x=> !ys.contains x
def ff(pr:List (List Nat))(fp:List (List Nat×List Nat)):Bool:=
 (List.range fp.length).all fun j=>(List.range j).all fun i=>((eP pr []).getD j 0).testBit i||
  (lu (fp.getD i ([],[])).2 (fp.getD j ([],[])).1&&lu (fp.getD i ([],[])).2 (fp.getD j ([],[])).2&&lu (fp.getD j ([],[])).2 (fp.getD i ([],[])).1)
def gV(ops:Array Oper):List (List Nat):=(List.range ops.size).map (bI ops)
def V6(pr:List (List Nat)):Bool:=(List.range pr.length).all fun k=>(pr.getD k []).all fun j=>decide (j<k)
theorem vu{acc:List Nat}{i:Nat}:∀ (ps:List Nat),(mo acc ps).testBit i=true->∃j∈ps,i=j\/(acc.getD j 0).testBit i=true
 |[],h=>by simp[mo]at h
 |j::ps,h=>by
  simp only[mo,Nat.testBit_or,Bool.or_eq_true]at h
  rcases h with(h|h)|h
  ·rw[Nat.testBit_two_pow]at h
   exact⟨j,aE, .inl (by have h:=of_decide_eq_true h;exact h.symm)⟩
  ·exact⟨j,aE, .inr h⟩
  ·obtain⟨j',h1,h2⟩:=vu ps h
   exact⟨j',by simp[h1],h2⟩
theorem sD{k:Nat}:∀ (l:List (List Nat)) (acc:List Nat),k<acc.length->(eP l acc).getD k 0=acc.getD k 0
 |[],_,_=>rfl
 |ps::l,acc,h=>by
  rw[eP,sD l _ (by simp;omega)]
  simp[List.getD_eq_getElem?_getD,List.getElem?_append_left h]
theorem sE{i:Nat}:∀ (l:List (List Nat)) (acc:List Nat) (k:Nat),acc.length<=k->(∀k',k'<l.length->∀j∈l.getD k' [],j<acc.length+k')->((eP l acc).getD k 0).testBit i=true->
 ∃j∈l.getD (k - acc.length) [],i=j\/((eP l acc).getD j 0).testBit i=true
 |[],acc,k,hk,_,h=>by
  simp only[eP]at h
  rw[List.getD_eq_getElem?_getD,List.getElem?_eq_none hk]at h
  simp at h
 |ps::l,acc,k,hk,hp,h=>by
  simp only[eP]at h|-
  by_cases he:k=acc.length
  ·subst he
   rw[sD l _ (by simp)]at h
   have e:(acc++[mo acc ps]).getD acc.length 0=mo acc ps:=by simp[List.getD_eq_getElem?_getD]
   rw[e]at h
   obtain⟨j,h1,h2⟩:=vu ps h
   refine⟨j,by simpa using h1,h2.imp id fun h2=> ?_⟩
   have hj:j<acc.length:=by simpa using hp 0 aE j (by simpa using h1)
   rw[sD l _ (by simp;omega)]
   simpa[List.getD_eq_getElem?_getD,List.getElem?_append_left hj]using h2
  ·obtain⟨j,h1,h2⟩:=sE l (acc++[mo acc ps]) k gP (fun k' Jg j hj=>by
    have:=hp (k'+1) gP j nq
    simp;omega) h
   refine⟨j, ?_,h2⟩
   have e:k - acc.length=(k - (acc++[mo acc ps]).length)+1:=by simp;omega
   rw[e];simpa using h1
theorem qL{pr:List (List Nat)}(hp:∀k,k<pr.length->∀j∈pr.getD k [],j<k){E:Nat->Bool}(hE:∀k,k<pr.length->E k=true->∀j∈pr.getD k [],E j=true):
 ∀k,k<pr.length->(∀j∈pr.getD k [],E j=true)->∀i,((eP pr []).getD k 0).testBit i=true->E i=true:=by
 intro k
 induction k using Nat.strongRecOn with
 |ind k ih=>
  intro hk hj i hi
  obtain⟨j,h1,h2⟩:=sE pr [] k aE (fun k' Jg j hj=>by simpa using hp k' Jg j hj) hi
  simp only[List.length_nil,Nat.sub_zero]at h1
  rcases h2 with rfl|h2
  ·exact hj _ h1
  ·have Td:=hp k hk j h1
   exact ih j Td af (hE j af (hj j h1)) i h2
theorem B9{pr:List (List Nat)}(hp:∀k,k<pr.length->∀j∈pr.getD k [],j<k):∀k,k<pr.length->∀i,((eP pr []).getD k 0).testBit i=true->i<k:=by
 intro k
 induction k using Nat.strongRecOn with
 |ind k ih=>
  intro hk i hi
  obtain⟨j,h1,h2⟩:=sE pr [] k aE (fun k' Jg j hj=>by simpa using hp k' Jg j hj) hi
  simp only[List.length_nil,Nat.sub_zero]at h1
  have Td:=hp k hk j h1
  rcases h2 with rfl|h2
  ·exact Td
  ·have:=ih j Td af i h2;omega
def low(n:Nat):Code->IC
 | .skip=> .skip
 | .label _=> .skip
 | .scope c=>low n c
 | .region _ ops false=>match lO n ops ops.toList with
   |some l=> .ag l
   |none=> .bad
 | .region _ ops true=>match lO n ops ops.toList with
   |some l=>if Aj l (gV ops)&&V6 (gV ops)then .dH l (gV ops)else .bad
   |none=> .bad
 | .seq a b=> .seq (low n a) (low n b)
 | .cond c a b=> .cond c (low n a) (low n b)
 | .block id a=> .block id (low n a)
 | .loop a=> .loop (low n a)
 | .exit id=> .exit id
 | .ret=> .ret
 | .rangeFunc g ps a b=> .KJ g ps.toList (low n a) (low n b)
 |_=> .bad
section
inductive D where
 |int (k:IntKind) (n:Int)|bool (b:Bool)|str (s:List UInt8)
 |fg|lP|cF|dL
 |agg (cs:List D)|sl (es:List D)|iface (t:TypeId) (d:D)
 |mp (ks vs:List D)
 deriving Inhabited
def Flat(vs:List Value):Prop:=∀u∈vs,u.oneCell'=true
def gW(B:Nat->Prop)(w:World)(a:Addr)(cs:Array Value):Prop:=∀j u,cs[j]? =some u->w.cell? (a.add j)=some u/\ ¬B a.block
def jb(es:Array MapEntry)(clock:Nat):Prop:=(∀e∈es.toList,e.born<clock)/\(es.toList.map (·.born)).Nodup
def Ak(ks:List D):Prop:=ks.Nodup/\∀k∈ks,∃n,k= .int .i64 n
mutual
def D.den (B:Nat->Prop)(w:World):D->Value->Prop
 | .int k n,v=>v= .int k n
 | .bool b,v=>v= .bool b
 | .str l,v=>∃s:ByteArray,v= .string s/\s.data.toList=l
 | .fg,v=>v= .nilIface
 | .lP,v=>v= .pointer none
 | .cF,v=>v= .nilFunc
 | .dL,v=>v= .map none
 | .agg cs,v=>∃a,v= .agg a/\D.aF B w cs a.toList/\Flat a.toList
 | .sl es,v=>∃base len cap,v= .slice base len cap/\len=es.length/\len<=cap/\(base=none->cap=0)/\
  ∃sz,∀a,base=some a->(cap≠0->a.spot=none)/\D.elems B w sz a 0 es
 | .iface t d,v=>∃u,v= .iface t u/\D.den B w d u
 | .mp ks vs,v=>∃m es clock p,v= .map (some m)/\w.heap[m]? =some (.map es clock)/\ ¬B m/\jb es clock/\(p=es.toList\/(p.Perm es.toList/\Ak ks))/\D.aF B w ks (p.map (·.key))/\D.aF B w vs (p.map (·.val))
def D.aF (B:Nat->Prop)(w:World):List D->List Value->Prop
 |[],vs=>vs=[]
 |d::ds,vs=>∃u us,vs=u::us/\D.den B w d u/\D.aF B w ds us
def D.elems (B:Nat->Prop)(w:World)(sz:Nat)(a:Addr):Nat->List D->Prop
 |_,[]=>True
 |i,e::es=>(∃ev:Value,ev.cells.size=sz/\gW B w (a.add (i*sz)) ev.cells/\D.den B w e ev)/\D.elems B w sz a (i+1) es
end
inductive V where
 |d (x:D)|aw|agg (cs:List V)|bW (vs:List V)
 |ptr (id off:Nat)|osl (id ep:Nat)|pe (id ep i sz off:Nat)|pp (cs:List D) (off:Nat)
 |func (fn:Fn) (first cap:List V)|iface (t:TypeId) (x:V)
 |ad
 |pF (es:List D)|yA (id off n:Nat)|mp (id:Nat)|fF|kM (id:Nat)
 deriving Inhabited
inductive ab where
 |no|row (cs:List V)|arr (ep:Nat) (ty:TypeId) (sz:Nat) (es:List D)|uO (ep:Nat) (es:List D)
 |map (kt vt:TypeId) (es:List (D×D))
 |loop (nf n:Nat) (env:List V) (ps:List Nat) (a b:IC) (st:LoopState) (Jh:Option ky)
 |cj (es:List (D×D))|sn (es:List (D×D)) (last:Option (D×D))|Am (s:List UInt8) (pos:Nat)
 deriving Inhabited
def aZ(l:List V):Nat->V:=fun i=>l.getD i .ad
structure Hp where
 o:Nat->ab
 us:Nat->Prop
def ab.cz:ab->Option Nat
 | .arr ep _ _ _| .uO ep _=>some ep
 |_=>none
def ab.cA:ab->Bool
 | .row _| .map .. | .loop .. | .cj _| .sn .. | .Am .. =>true
 |_=>false
def ab.live:ab->Bool
 | .row _| .arr .. | .map .. | .loop .. | .sn .. | .Am .. =>true
 |_=>false
def eA:Value->Option Nat
 | .pointer (some a)| .slice (some a) _ _=>some a.block
 | .map (some b)=>some b
 |_=>none
abbrev Place:=Nat->Value
def cL(φ:Place)(H:Hp)(b:Nat):Prop:=∃id,(H.o id).live=true/\eA (φ id)=some b
def aq(M:Nat->Prop)(φ:Place)(H:Hp)(b:Nat):Prop:=M b\/cL φ H b
mutual
def V.den (B:Nat->Prop)(φ:Place)(H:Hp)(w:World):V->Value->Prop
 | .d x,v=>D.den B w x v
 | .aw,v=>v= .slice none 0 0
 | .agg cs,v=>∃a,v= .agg a/\V.aF B φ H w cs a.toList/\Flat a.toList
 | .bW vs,v=>∃a,v= .tuple a/\V.aF B φ H w vs a.toList
 | .ptr id off,v=>v.oneCell'=true/\H.us id/\((H.o id).cA=true->∃b,φ id= .pointer (some ⟨b,0,none⟩)/\v= .pointer (some ⟨b,off,none⟩))
 | .osl id ep,v=>v.oneCell'=true/\H.us id/\∀e,(H.o id).cz=some e->ep<=e/\(ep=e->v=φ id)
 | .pe id ep i sz off,v=>v.oneCell'=true/\H.us id/\∀e,(H.o id).cz=some e->ep<=e/\(ep=e->∃b n c,φ id= .slice (some ⟨b,0,none⟩) n c/\v= .pointer (some ⟨b,i*sz+off,none⟩))
 | .pp cs off,v=>∃a ev,a.spot=none/\v= .pointer (some (a.add off))/\D.aF B w cs ev/\Flat ev/\gW B w a ev.toArray
 | .func fn first cap,v=>∃f c,v= .func fn f c/\V.aF B φ H w first f.toList/\V.aF B φ H w cap c.toList
 | .iface t x,v=>∃u,v= .iface t u/\V.den B φ H w x u
 | .ad,_=>True
 | .pF es,v=>D.den B w (.sl es) v/\∃base n,v= .slice base n n
 | .yA id off n,v=>v.oneCell'=true/\H.us id/\((H.o id).cA=true->∃b,φ id= .pointer (some ⟨b,0,none⟩)/\v= .slice (some ⟨b,off,none⟩) n n)
 | .mp id,v=>v.oneCell'=true/\H.us id/\((H.o id).cA=true->v=φ id)
 | .fF,v=>∃b,v= .bool b
 | .kM id,v=>v.oneCell'=true/\H.us id/\((H.o id).cA=true->∃b,φ id= .pointer (some ⟨b,0,none⟩)/\v= .func (.yield b) #[] #[])
def V.aF (B:Nat->Prop)(φ:Place)(H:Hp)(w:World):List V->List Value->Prop
 |[],vs=>vs=[]
 |x::xs,vs=>∃u us,vs=u::us/\V.den B φ H w x u/\V.aF B φ H w xs us
end
def eM(B:Nat->Prop)(w:World)(sz:Nat)(es:List D)(xs:List Value):Prop:=
 ∃evs:List Value,xs=evs.flatMap (·.cells.toList)/\(∀ev∈evs,ev.cells.size=sz)/\D.aF B w es evs
def aK(B:Nat->Prop)(w:World):List (D×D)->List MapEntry->Prop
 |[],es=>es=[]
 |(k,x)::l,es=>∃e es',es=e::es'/\D.den B w k e.key/\D.den B w x e.val/\aK B w l es'
def An(B:Nat->Prop)(w:World)(l:List (D×D))(last:Option (D×D))(b:Nat):Prop:=
 w.heap[b]? =some (.mapIter none 0 #[] 0)/\l=[]/\last=none\/
 ∃m since seen es,w.heap[b]? =some (.mapIter (some m) since seen since)/\w.heap[m]? =some (.map es since)/\ ¬B m/\jb es since/\(∃l',l'.Perm l/\aK B w l' (es.toList.filter fun e=> !seen.contains e.born))/\
  ∀k x,last=some (k,x)->∃e∈es.toList,seen.back?=some e.born/\D.den B w k e.key/\D.den B w x e.val
def ly(B:Nat->Prop)(w:World)(l:List (D×D))(v:Value):Prop:=
 ∃b es clock,v= .map (some b)/\w.heap[b]? =some (.map es clock)/\ ¬B b/\jb es clock/\aK B w l es.toList
def aR(M:Nat->Prop)(φ:Place)(H:Hp)(w:World)(id:Nat):Prop:=
 match H.o id with
 | .no=>True
 | .row cs=>∃b dZ ty,φ id= .pointer (some ⟨b,0,none⟩)/\w.heap[b]? =some (.cells dZ ty (0,0))/\V.aF (aq M φ H) φ H w cs dZ.toList/\Flat dZ.toList
 | .arr _ ty sz es=>0<sz/\∃xs,w.ownsRow 0 ty sz (φ id) es.length xs/\eM (aq M φ H) w sz es xs
 | .uO _ es=>D.den (aq M φ H) w (.sl es) (φ id)
 | .loop nf n env ps jV fG st Jh=>∃b r,φ id= .pointer (some ⟨b,0,none⟩)/\w.heap[b]? =some (.loop r)/\r.fn<nf/\r.state=st/\r.pending=Jh.map ky.code/\r.params.toList=ps/\r.tmps.size=n/\low n r.assign=jV/\low n r.body=fG/\
  ∀i,V.den (aq M φ H) φ H w (aZ env i) (r.tmps.getD i undef)
 | .map _ _ l=>∃b es clock,φ id= .map (some b)/\w.heap[b]? =some (.map es clock)/\jb es clock/\aK (aq M φ H) w l es.toList
 | .cj l=>ly (aq M φ H) w l (φ id)
 | .sn l last=>∃b,φ id= .pointer (some ⟨b,0,none⟩)/\An (aq M φ H) w l last b
 | .Am s pos=>∃b,φ id= .pointer (some ⟨b,0,none⟩)/\w.heap[b]? =some (.stringIter ⟨⟨s⟩⟩ pos)
structure az (M:Nat->Prop) (φ:Place) (H:Hp) (w:World):Prop where
 ok:∀id,aR M φ H w id
 fresh:∀id, ¬H.us id->H.o id= .no
 apart:∀i j b,(H.o i).live=true->(H.o j).live=true->eA (φ i)=some b->eA (φ j)=some b->i=j
 ours:∀b,cL φ H b-> ¬M b/\b<w.heap.size
 BM:∀b,M b->b<w.heap.size
structure eC (m:Nat->Prop) (w w':World):Prop where
 os:w'.os=w.os
 tape:w'.tape=w.tape
 output:w'.output=w.output
 size:w.heap.size<=w'.heap.size
 block:∀k,k<w.heap.size-> ¬m k->w'.heap[k]? =w.heap[k]?
structure ec (φ:Place) (H:Hp) (aJ:Place) (H':Hp):Prop where
 us:∀id,H.us id->H'.us id
 row:∀id,H.us id->(H'.o id).cA=true->(H.o id).cA=true/\aJ id=φ id
 ep:∀id e',H.us id->(H'.o id).cz=some e'->∃e,(H.o id).cz=some e/\e<=e'/\(e=e'->aJ id=φ id)
structure Trans (φ:Place) (H:Hp) (w:World) (aJ:Place) (H':Hp) (w':World):Prop where
 cN:eC (cL φ H) w w'
 grow:∀b,cL aJ H' b->cL φ H b\/w.heap.size<=b
 rel:ec φ H aJ H'
theorem eC.refl (m:Nat->Prop)(w:World):eC m w w:=⟨rfl,rfl,rfl,Nat.le_refl _,fun _ _ _=>rfl⟩
theorem ec.refl (φ:Place)(H:Hp):ec φ H φ H:=⟨fun _ h=>h,fun _ _ h=>⟨h,rfl⟩,fun _ e' _ h=>⟨e',h,Nat.le_refl _,fun _=>rfl⟩⟩
theorem Trans.refl (φ:Place)(H:Hp)(w:World):Trans φ H w φ H w:=⟨eC.refl _ _,fun _ h=> .inl h,ec.refl _ _⟩
theorem ec.trans {φ aJ EU:Place}{H H' H'':Hp}(h:ec φ H aJ H')(k:ec aJ H' EU H''):ec φ H EU H'' where
 us id ax:=k.us id (h.us id ax)
 row id ax hr:=by
  obtain⟨a,b⟩:=k.row id (h.us id ax) hr
  obtain⟨c,d⟩:=h.row id ax a
  exact⟨c,b.trans d⟩
 ep id e' ax he:=by
  obtain⟨e,h1,h2,h3⟩:=k.ep id e' (h.us id ax) he
  obtain⟨e0,g1,g2,g3⟩:=h.ep id e ax h1
  refine⟨e0,g1,Nat.le_trans g2 h2,fun heq=> ?_⟩
  have a:e0=e:=af
  have b:e=e':=af
  exact(h3 b).trans (g3 a)
theorem Trans.trans {φ aJ EU:Place}{H H' H'':Hp}{w w' VK:World}(h:Trans φ H w aJ H' w')(k:Trans aJ H' w' EU H'' VK):Trans φ H w EU H'' VK where
 cN:={
  os:=k.cN.os.trans h.cN.os
  tape:=k.cN.tape.trans h.cN.tape
  output:=k.cN.output.trans h.cN.output
  size:=Nat.le_trans h.cN.size k.cN.size
  block:=fun b hb hm=>by
   rw[k.cN.block b (Nat.lt_of_lt_of_le hb h.cN.size) (fun hl=>by
    rcases h.grow b hl with h1|h1
    ·exact hm h1
    ·omega),h.cN.block b hb hm]}
 grow b hl:=by
  rcases k.grow b hl with h1|h1
  ·exact h.grow b h1
  ·exact .inr (Nat.le_trans h.cN.size h1)
 rel:=h.rel.trans k.rel
@[simp] theorem Zj (a:Addr) (j:Nat):(a.add j).block=a.block:=by unfold Addr.add;split<;>rfl
def qM(w:World)(b:Nat):Prop:=∃cs ty fz,w.heap[b]? =some (.cells cs ty fz)
def dg(w:World)(b:Nat):Prop:=qM w b\/∃es clock,w.heap[b]? =some (.map es clock)
theorem dg.lt {w:World}{b:Nat}(h:dg w b):b<w.heap.size:=by
 rcases Nat.lt_or_ge b w.heap.size with hl|hl
 ·exact hl
 ·rcases h with⟨cs,ty,fz,h⟩|⟨es,clock,h⟩
  ·rw[Array.getElem?_eq_none hl]at h;cases h
  ·rw[Array.getElem?_eq_none hl]at h;cases h
theorem pG{w:World}{a:Addr}{u:Value}(h:w.cell? a=some u):qM w a.block:=by
 unfold World.cell? at h
 split at h
 ·exact⟨_,_,_,by assumption⟩
 ·cases h
theorem uv{w:World}{a:Addr}{u:Value}(h:w.cell? a=some u):dg w a.block:= .inl (pG h)
theorem gW.mono {B B':Nat->Prop}{w w':World}{a:Addr}{cs:Array Value}
 (hb:∀b,dg w b-> ¬B b->w'.heap[b]? =w.heap[b]? /\ ¬B' b) (h:gW B w a cs):gW B' w' a cs:=by
 intro j u hj
 obtain⟨h1,h2⟩:=h j u hj
 have cu:dg w a.block:=by simpa using uv h1
 exact abu
mutual
theorem D.aT {B B':Nat->Prop}{w w':World}(hb:∀b,dg w b-> ¬B b->w'.heap[b]? =w.heap[b]? /\ ¬B' b):
 ∀ (x:D) (v:Value),D.den B w x v->D.den B' w' x v
 | .int _ _,_,h| .bool _,_,h| .str _,_,h| .fg,_,h| .lP,_,h| .cF,_,h| .dL,_,h=>by simpa[D.den]using h
 | .agg cs,_,h=>by
   obtain⟨a,rfl,h,hf⟩:=h
   exact⟨a,rfl,D.aW hb cs _ h,hf⟩
 | .sl es,_,h=>by
   obtain⟨base,len,cap,rfl,h1,h2,h3,sz,h4⟩:=h
   exact⟨base,len,cap,rfl,h1,h2,h3,sz,fun a ha=>⟨(h4 a ha).1,D.vw hb sz a es 0 (h4 a ha).2⟩⟩
 | .iface t d,_,h=>by
   obtain⟨u,rfl,h⟩:=h
   exact⟨u,rfl,D.aT hb d u h⟩
 | .mp ks vs,_,h=>by
   obtain⟨m,es,clock,p,rfl,h1,h2,h3,hp,h4,h5⟩:=h
   obtain⟨k1,k2⟩:=hb m (.inr ⟨es,clock,h1⟩) h2
   exact⟨m,es,clock,p,rfl,k1.trans h1,k2,h3,hp,D.aW hb ks _ h4,D.aW hb vs _ h5⟩
theorem D.aW {B B':Nat->Prop}{w w':World}(hb:∀b,dg w b-> ¬B b->w'.heap[b]? =w.heap[b]? /\ ¬B' b):
 ∀ (ds:List D) (vs:List Value),D.aF B w ds vs->D.aF B' w' ds vs
 |[],_,h=>h
 |d::ds,_,h=>by
  obtain⟨u,us,rfl,h1,h2⟩:=h
  exact⟨u,us,rfl,D.aT hb d u h1,D.aW hb ds us h2⟩
theorem D.vw {B B':Nat->Prop}{w w':World}(hb:∀b,dg w b-> ¬B b->w'.heap[b]? =w.heap[b]? /\ ¬B' b)(sz:Nat)(a:Addr):
 ∀ (es:List D) (i:Nat),D.elems B w sz a i es->D.elems B' w' sz a i es
 |[],_,_=>trivial
 |e::es,i,h=>by
  obtain⟨⟨ev,h1,h2,h3⟩,h4⟩:=h
  exact⟨⟨ev,h1,h2.mono hb,D.aT hb e ev h3⟩,D.vw hb sz a es (i+1) h4⟩
end
theorem aK.mono {B B':Nat->Prop}{w w':World}(hb:∀b,dg w b-> ¬B b->w'.heap[b]? =w.heap[b]? /\ ¬B' b):
 ∀ (l:List (D×D)) (es:List MapEntry),aK B w l es->aK B' w' l es
 |[],_,h=>h
 |(k,x)::l,_,h=>by
  obtain⟨e,es,rfl,h1,h2,h3⟩:=h
  exact⟨e,es,rfl,D.aT hb k _ h1,D.aT hb x _ h2,aK.mono hb l es h3⟩
theorem An.mono {B B':Nat->Prop}{w w':World}(hb:∀b,dg w b-> ¬B b->w'.heap[b]? =w.heap[b]? /\ ¬B' b){l:List (D×D)}{last:Option (D×D)}{b:Nat}(OW:w'.heap[b]? =w.heap[b]?)(h:An B w l last b):An B' w' l last b:=by
 rcases h with⟨h1,h2⟩|⟨m,since,seen,es,h1,h2,h3,h4,h5,h6⟩
 ·exact .inl ⟨OW.trans h1,h2⟩
 ·obtain⟨k1,k2⟩:=hb m (.inr ⟨es,since,h2⟩) h3
  obtain⟨l',h5,uP⟩:=h5
  refine .inr ⟨m,since,seen,es,OW.trans h1,k1.trans h2,k2,h4,⟨l',h5,aK.mono hb l' _ uP⟩,fun k x e=> ?_⟩
  obtain⟨e,g1,g2,g3,g4⟩:=h6 k x e
  exact⟨e,g1,g2,D.aT hb k _ g3,D.aT hb x _ g4⟩
theorem lQ{B:Nat->Prop}{w:World}:∀ (l:List (D×D)) (es:List MapEntry),aK B w l es↔D.aF B w (l.map (·.1)) (es.map (·.key))/\D.aF B w (l.map (·.2)) (es.map (·.val))
 |[],es=>by
  simp only[aK,List.map_nil,D.aF]
  constructor
  ·rintro rfl;exact⟨rfl,rfl⟩
  ·rintro⟨h,_⟩;simpa using h
 |(k,x)::l,es=>by
  simp only[aK,List.map_cons,D.aF]
  constructor
  ·rintro⟨e,es',rfl,h1,h2,h3⟩
   obtain⟨g1,g2⟩:=(lQ l es').1 h3
   exact⟨⟨_,_,rfl,h1,g1⟩,⟨_,_,rfl,h2,g2⟩⟩
  ·rintro⟨⟨u,us,h1,h2,h3⟩,⟨v,vs,h4,h5,h6⟩⟩
   cases es with
   |nil=>simp at h1
   |cons e es'=>
    simp only[List.map_cons,List.cons.injEq]at h1 h4
    obtain⟨rfl,rfl⟩:=h1
    obtain⟨rfl,rfl⟩:=h4
    exact⟨e,es',rfl,h2,h5,(lQ l es').2 ⟨h3,h6⟩⟩
theorem ly.den {B:Nat->Prop}{w:World}{l:List (D×D)}{v:Value}(h:ly B w l v):D.den B w (.mp (l.map (·.1)) (l.map (·.2))) v:=by
 obtain⟨b,es,clock,h1,h2,h3,h4,h5⟩:=h
 obtain⟨h6,h7⟩:=(lQ _ _).1 h5
 exact⟨b,es,clock,es.toList,h1,h2,h3,h4, .inl rfl,h6,h7⟩
theorem ly.mono {B B':Nat->Prop}{w w':World}(hb:∀b,dg w b-> ¬B b->w'.heap[b]? =w.heap[b]? /\ ¬B' b){l:List (D×D)}{v:Value}(h:ly B w l v):ly B' w' l v:=by
 obtain⟨b,es,clock,h1,h2,h3,h4,h5⟩:=h
 obtain⟨k1,k2⟩:=hb b (.inr ⟨es,clock,h2⟩) h3
 exact⟨b,es,clock,h1,k1.trans h2,k2,h4,aK.mono hb l _ h5⟩
theorem D.aC {B:Nat->Prop}{w:World}:∀ (ds:List D) (vs:List Value),D.aF B w ds vs->vs.length=ds.length
 |[],_,h=>by simp[D.aF]at h;simp[h]
 |d::ds,_,h=>by obtain⟨u,us,rfl,_,h2⟩:=h;simp[D.aC ds us h2]
theorem D.dz {B:Nat->Prop}{w:World}:∀ (ds:List D) (vs:List Value) (i:Nat) (d:D),D.aF B w ds vs->ds[i]? =some d->∃v,vs[i]? =some v/\D.den B w d v
 |[],_,_,_,_,hd=>by simp at hd
 |d::ds,_,0,x,h,hd=>by
  exact S8
 |d::ds,_,i+1,x,h,hd=>by
  obtain⟨u,us,rfl,_,h2⟩:=h
  simpa using D.dz ds us i x h2 (by simpa using hd)
theorem D.yB {B:Nat->Prop}{w:World}{sz:Nat}{a:Addr}:∀ (es:List D) (i j:Nat) (e:D),D.elems B w sz a i es->es[j]? =some e->
 ∃ev:Value,ev.cells.size=sz/\gW B w (a.add ((i+j)*sz)) ev.cells/\D.den B w e ev
 |[],_,_,_,_,hd=>by simp at hd
 |e::es,i,0,x,h,hd=>by
  simp at hd;subst hd;simpa using h.1
 |e::es,i,j+1,x,h,hd=>by
  have:=D.yB es (i+1) j x h.2 (by simpa using hd)
  simpa[Nat.add_assoc,Nat.add_comm 1 j]using this
section
variable {M:Nat->Prop}{φ aJ:Place}{H H':Hp}{w w':World}
theorem Trans.blocks (ht:Trans φ H w aJ H' w')(b:Nat)(hc:dg w b)(h: ¬aq M φ H b):w'.heap[b]? =w.heap[b]? /\ ¬aq M aJ H' b:=by
 have hb:=hc.lt
 refine⟨ht.cN.block b hb fun hl=>h (.inr hl), ?_⟩
 rintro(h1|h1)
 ·exact h (.inl h1)
 ·rcases ht.grow b h1 with h2|h2
  ·exact h (.inr h2)
  ·omega
mutual
theorem V.lR (hb:∀b,dg w b-> ¬aq M φ H b->w'.heap[b]? =w.heap[b]? /\ ¬aq M aJ H' b)(hr:ec φ H aJ H'):∀ (x:V) (v:Value),V.den (aq M φ H) φ H w x v->V.den (aq M aJ H') aJ H' w' x v
 | .d x,v,h=>D.aT hb x v h
 | .aw,_,h=>h
 | .ad,_,_=>trivial
 | .pF es,v,h=>⟨D.aT hb (.sl es) v h.1,h.2⟩
 | .yA id off n,v,h=>by
   exact zw9
 | .mp id,v,h=>by
   obtain⟨h0,h1,h2⟩:=h
   refine⟨h0,hr.us id h1,fun da=> ?_⟩
   obtain⟨h3,h4⟩:=hr.row id h1 da
   exact(h2 h3).trans h4.symm
 | .fF,v,h=>h
 | .kM id,v,h=>by
   exact zw9
 | .agg cs,_,h=>by obtain⟨a,rfl,h,hf⟩:=h;exact⟨a,rfl,V.gy hb hr cs _ h,hf⟩
 | .bW cs,_,h=>by obtain⟨a,rfl,h⟩:=h;exact⟨a,rfl,V.gy hb hr cs _ h⟩
 | .ptr id off,v,h=>by
   exact zw9
 | .osl id ep,v,h=>by
   exact abh
 | .pe id ep i sz off,v,h=>by
   exact abh
 | .pp cs off,v,h=>by
   obtain⟨a,ev,h1,h2,h3,h5,h4⟩:=h
   exact⟨a,ev,h1,h2,D.aW hb cs ev h3,h5,h4.mono hb⟩
 | .func fn first cap,_,h=>by
   obtain⟨f,c,rfl,h1,h2⟩:=h
   exact⟨f,c,rfl,V.gy hb hr first _ h1,V.gy hb hr cap _ h2⟩
 | .iface t x,_,h=>by obtain⟨u,rfl,h⟩:=h;exact⟨u,rfl,V.lR hb hr x u h⟩
theorem V.gy (hb:∀b,dg w b-> ¬aq M φ H b->w'.heap[b]? =w.heap[b]? /\ ¬aq M aJ H' b)(hr:ec φ H aJ H'):∀ (ds:List V) (vs:List Value),V.aF (aq M φ H) φ H w ds vs->V.aF (aq M aJ H') aJ H' w' ds vs
 |[],_,h=>h
 |x::xs,_,h=>by
  obtain⟨u,us,rfl,h1,h2⟩:=h
  exact⟨u,us,rfl,V.lR hb hr x u h1,V.gy hb hr xs us h2⟩
end
theorem V.aT (ht:Trans φ H w aJ H' w')(x:V)(v:Value)(h:V.den (aq M φ H) φ H w x v):V.den (aq M aJ H') aJ H' w' x v:=V.lR ht.blocks ht.rel x v h
theorem V.aW (ht:Trans φ H w aJ H' w')(ds:List V)(vs:List Value)(h:V.aF (aq M φ H) φ H w ds vs):V.aF (aq M aJ H') aJ H' w' ds vs:=V.gy ht.blocks ht.rel ds vs h
end
end
end Go.Proofs.YtlhemmpklhhgoaaGreat
