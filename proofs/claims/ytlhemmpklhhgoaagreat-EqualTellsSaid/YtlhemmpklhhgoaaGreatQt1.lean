/-
  A PART OF THE PROOF. Conditions: none.
-/
import Derived.WalkKit
import Derived.Below
set_option linter.unusedSimpArgs false
set_option linter.unusedVariables false
namespace Go.Proofs.YtlhemmpklhhgoaaGreat
theorem bI{G G':Prop}(g:G')(h:G=G':=by simp+contextual (disch:=first|omega|simp only[go_sem,false_implies]) only[go_sem,wrap64,if_pos,and_self]<;>rfl):G:=Eq.mpr h g
theorem gH{G G':Prop}(g:G')(h:G=G':=by simp+contextual (disch:=first|omega|simp only[go_sem,false_implies]) only[go_sem,wrap64,if_pos,Nat.add_assoc,Nat.left_eq_add,Nat.add_eq_left,Nat.add_left_cancel_iff]<;>rfl):G:=Eq.mpr h g
theorem jW{G:Prop}(h:G:=by simp+contextual (disch:=first|omega|simp only[go_sem,false_implies]) only[go_sem,wrap64,if_pos,and_self]):G:=h
theorem lT{P0 G G':Prop}(p0:P0)(g:G')(h:P0->G=G':=by intro p0;simp+contextual (disch:=first|omega|simp only[go_sem,false_implies]) only[go_sem,wrap64,if_pos,p0]<;>rfl):G:=Eq.mpr (h p0) g
theorem rD{P0 G G':Prop}(p0:P0)(g:G')(h:P0->G=G':=by intro p0;simp+contextual (disch:=first|omega|simp only[go_sem,false_implies]) only[go_sem,wrap64,if_pos,List.length_map,p0]<;>rfl):G:=Eq.mpr (h p0) g
theorem Bs{P0 P1 P2 P3 G G':Prop}(p0:P0)(p1:P1)(p2:P2)(p3:P3)(g:G')(h:P0->P1->P2->P3->G=G':=by intro p0 p1 p2 p3;simp+contextual (disch:=first|omega|simp only[go_sem,false_implies]) only[go_sem,wrap64,if_pos,Nat.add_assoc,Nat.left_eq_add,Nat.add_eq_left,Nat.add_left_cancel_iff,p0,p1,p2,p3]<;>rfl):G:=Eq.mpr (h p0 p1 p2 p3) g
theorem uj{G G':Prop}(g:G')(h:G=G':=by simp+contextual (disch:=first|omega|simp only[go_sem,false_implies]) only[go_sem,wrap64,if_pos,List.length_map]<;>rfl):G:=Eq.mpr h g
theorem Bh{P0 P1 G G':Prop}(p0:P0)(p1:P1)(g:G')(h:P0->P1->G=G':=by intro p0 p1;simp+contextual (disch:=first|omega|simp only[go_sem,false_implies]) only[go_sem,wrap64,if_pos,p0,p1]<;>rfl):G:=Eq.mpr (h p0 p1) g
theorem cM{G G':Prop}(g:G')(h:G=G':=by simp+contextual only[go_sem]<;>rfl):G:=Eq.mpr h g
theorem Ju{P0 G G':Prop}(p0:P0)(g:G')(h:P0->G=G':=by intro p0;simp+contextual (disch:=first|omega|simp only[go_sem,false_implies]) only[go_sem,wrap64,if_pos,Nat.add_assoc,Nat.left_eq_add,Nat.add_eq_left,Nat.add_left_cancel_iff,p0]<;>rfl):G:=Eq.mpr (h p0) g
theorem Bt{P0 P1 P2 P3 G G':Prop}(p0:P0)(p1:P1)(p2:P2)(p3:P3)(g:G')(h:P0->P1->P2->P3->G=G':=by intro p0 p1 p2 p3;simp+contextual (disch:=first|omega|simp only[go_sem,false_implies]) only[go_sem,wrap64,if_pos,List.length_map,Nat.add_assoc,Nat.left_eq_add,Nat.add_eq_left,Nat.add_left_cancel_iff,p0,p1,p2,p3]<;>rfl):G:=Eq.mpr (h p0 p1 p2 p3) g
theorem rN{P0 P1 G G':Prop}(p0:P0)(p1:P1)(g:G')(h:P0->P1->G=G':=by intro p0 p1;simp+contextual (disch:=first|omega|simp only[go_sem,false_implies]) only[go_sem,wrap64,if_pos,List.length_map,p0,p1]<;>rfl):G:=Eq.mpr (h p0 p1) g
theorem D0{P0 P1 P2 P3 P4 P5 P6 G G':Prop}(p0:P0)(p1:P1)(p2:P2)(p3:P3)(p4:P4)(p5:P5)(p6:P6)(g:G')(h:P0->P1->P2->P3->P4->P5->P6->G=G':=by intro p0 p1 p2 p3 p4 p5 p6;simp+contextual (disch:=first|omega|simp only[go_sem,false_implies]) only[go_sem,wrap64,if_pos,Nat.add_assoc,Nat.left_eq_add,Nat.add_eq_left,Nat.add_left_cancel_iff,p0,p1,p2,p3,p4,p5,p6]<;>rfl):G:=Eq.mpr (h p0 p1 p2 p3 p4 p5 p6) g
theorem D1{P0 P1 P2 P3 P4 G G':Prop}(p0:P0)(p1:P1)(p2:P2)(p3:P3)(p4:P4)(g:G')(h:P0->P1->P2->P3->P4->G=G':=by intro p0 p1 p2 p3 p4;simp+contextual (disch:=first|omega|simp only[go_sem,false_implies]) only[go_sem,wrap64,if_pos,Nat.add_assoc,Nat.left_eq_add,Nat.add_eq_left,Nat.add_left_cancel_iff,p0,p1,p2,p3,p4]<;>rfl):G:=Eq.mpr (h p0 p1 p2 p3 p4) g
theorem Hn{P0 P1 P2 P3 P4 G G':Prop}(p0:P0)(p1:P1)(p2:P2)(p3:P3)(p4:P4)(g:G')(h:P0->P1->P2->P3->P4->G=G':=by intro p0 p1 p2 p3 p4;simp+contextual (disch:=first|omega|simp only[go_sem,false_implies]) only[go_sem,wrap64,if_pos,List.length_map,Nat.add_assoc,Nat.left_eq_add,Nat.add_eq_left,Nat.add_left_cancel_iff,p0,p1,p2,p3,p4]<;>rfl):G:=Eq.mpr (h p0 p1 p2 p3 p4) g
theorem Ho{P0 P1 P2 P3 P4 P5 P6 P7 P8 G G':Prop}(p0:P0)(p1:P1)(p2:P2)(p3:P3)(p4:P4)(p5:P5)(p6:P6)(p7:P7)(p8:P8)(g:G')(h:P0->P1->P2->P3->P4->P5->P6->P7->P8->G=G':=by intro p0 p1 p2 p3 p4 p5 p6 p7 p8;simp+contextual (disch:=first|omega|simp only[go_sem,false_implies]) only[go_sem,wrap64,if_pos,Nat.add_assoc,Nat.left_eq_add,Nat.add_eq_left,Nat.add_left_cancel_iff,p0,p1,p2,p3,p4,p5,p6,p7,p8]<;>rfl):G:=Eq.mpr (h p0 p1 p2 p3 p4 p5 p6 p7 p8) g
theorem xq{P0 G:Prop}(p0:P0)(h:P0->G:=by intro p0;simp+contextual (disch:=first|omega|simp only[go_sem,false_implies]) only[go_sem,wrap64,if_pos,p0]):G:=h p0
theorem Bu{P0 P1 P2 G G':Prop}(p0:P0)(p1:P1)(p2:P2)(g:G')(h:P0->P1->P2->G=G':=by intro p0 p1 p2;simp+contextual (disch:=first|omega|simp only[go_sem,false_implies]) only[go_sem,wrap64,if_pos,List.length_map,p0,p1,p2]<;>rfl):G:=Eq.mpr (h p0 p1 p2) g
theorem Jv{P0 P1 G G':Prop}(p0:P0)(p1:P1)(g:G')(h:P0->P1->G=G':=by intro p0 p1;simp+contextual (disch:=first|omega|simp only[go_sem,false_implies]) only[go_sem,wrap64,if_pos,Nat.add_assoc,Nat.left_eq_add,Nat.add_eq_left,Nat.add_left_cancel_iff,p0,p1]<;>rfl):G:=Eq.mpr (h p0 p1) g
theorem Nn{P0 P1 P2 P3 P4 P5 P6 G:Prop}(p0:P0)(p1:P1)(p2:P2)(p3:P3)(p4:P4)(p5:P5)(p6:P6)(h:P0->P1->P2->P3->P4->P5->P6->G:=by intro p0 p1 p2 p3 p4 p5 p6;simp+contextual (disch:=first|omega|simp only[go_sem,false_implies]) only[go_sem,wrap64,if_pos,Nat.add_assoc,Nat.left_eq_add,Nat.add_eq_left,Nat.add_left_cancel_iff,p0,p1,p2,p3,p4,p5,p6]):G:=h p0 p1 p2 p3 p4 p5 p6
theorem D2{P0 P1 P2 G G':Prop}(p0:P0)(p1:P1)(p2:P2)(g:G')(h:P0->P1->P2->G=G':=by intro p0 p1 p2;simp+contextual (disch:=first|omega|simp only[go_sem,false_implies]) only[go_sem,wrap64,if_pos,p0,p1,p2]<;>rfl):G:=Eq.mpr (h p0 p1 p2) g
theorem S9{P0 P1 P2 P3 P4 G G':Prop}(p0:P0)(p1:P1)(p2:P2)(p3:P3)(p4:P4)(g:G')(h:P0->P1->P2->P3->P4->G=G':=by intro p0 p1 p2 p3 p4;simp+contextual (disch:=first|omega|simp only[go_sem,false_implies]) only[go_sem,wrap64,if_pos,List.take_length,List.length_map,List.length_take,List.length_drop,List.length_append,List.length_cons,List.length_nil,p0,p1,p2,p3,p4]<;>rfl):G:=Eq.mpr (h p0 p1 p2 p3 p4) g
theorem Ta{P0 P1 P2 G G':Prop}(p0:P0)(p1:P1)(p2:P2)(g:G')(h:P0->P1->P2->G=G':=by intro p0 p1 p2;simp+contextual (disch:=first|omega|simp only[go_sem,false_implies]) only[go_sem,wrap64,if_pos,List.take_length,List.length_map,List.length_take,List.length_drop,List.length_append,List.length_cons,List.length_nil,p0,p1,p2]<;>rfl):G:=Eq.mpr (h p0 p1 p2) g
theorem Hq{P0 P1 P2 P3 P4 P5 G G':Prop}(p0:P0)(p1:P1)(p2:P2)(p3:P3)(p4:P4)(p5:P5)(g:G')(h:P0->P1->P2->P3->P4->P5->G=G':=by intro p0 p1 p2 p3 p4 p5;simp+contextual (disch:=first|omega|simp only[go_sem,false_implies]) only[go_sem,wrap64,if_pos,p0,p1,p2,p3,p4,p5]<;>rfl):G:=Eq.mpr (h p0 p1 p2 p3 p4 p5) g
theorem Tb{P0 P1 P2 P3 P4 P5 P6 P7 G G':Prop}(p0:P0)(p1:P1)(p2:P2)(p3:P3)(p4:P4)(p5:P5)(p6:P6)(p7:P7)(g:G')(h:P0->P1->P2->P3->P4->P5->P6->P7->G=G':=by intro p0 p1 p2 p3 p4 p5 p6 p7;simp+contextual (disch:=first|omega|simp only[go_sem,false_implies]) only[go_sem,wrap64,if_pos,List.length_map,Nat.add_assoc,Nat.left_eq_add,Nat.add_eq_left,Nat.add_left_cancel_iff,p0,p1,p2,p3,p4,p5,p6,p7]<;>rfl):G:=Eq.mpr (h p0 p1 p2 p3 p4 p5 p6 p7) g
theorem Tc{P0 P1 P2 P3 P4 P5 P6 G G':Prop}(p0:P0)(p1:P1)(p2:P2)(p3:P3)(p4:P4)(p5:P5)(p6:P6)(g:G')(h:P0->P1->P2->P3->P4->P5->P6->G=G':=by intro p0 p1 p2 p3 p4 p5 p6;simp+contextual (disch:=first|omega|simp only[go_sem,false_implies]) only[go_sem,wrap64,if_pos,List.length_map,Nat.add_assoc,Nat.left_eq_add,Nat.add_eq_left,Nat.add_left_cancel_iff,p0,p1,p2,p3,p4,p5,p6]<;>rfl):G:=Eq.mpr (h p0 p1 p2 p3 p4 p5 p6) g
theorem Jw{P0 P1 P2 P3 G G':Prop}(p0:P0)(p1:P1)(p2:P2)(p3:P3)(g:G')(h:P0->P1->P2->P3->G=G':=by intro p0 p1 p2 p3;simp+contextual (disch:=first|omega|simp only[go_sem,false_implies]) only[go_sem,wrap64,if_pos,List.length_map,p0,p1,p2,p3]<;>rfl):G:=Eq.mpr (h p0 p1 p2 p3) g
theorem Jx{P0 P1 G:Prop}(p0:P0)(p1:P1)(h:P0->P1->G:=by intro p0 p1;simp+contextual (disch:=first|omega|simp only[go_sem,false_implies]) only[go_sem,wrap64,if_pos,List.length_map,p0,p1]):G:=h p0 p1
theorem Jy{P0 G:Prop}(p0:P0)(h:P0->G:=by intro p0;simp+contextual (disch:=first|omega|simp only[go_sem,false_implies]) only[go_sem,wrap64,if_pos,List.length_map,p0]):G:=h p0
theorem Td{G G':Prop}(g:G')(h:G=G':=by simp+contextual (disch:=first|omega|simp only[go_sem,false_implies]) only[go_sem,wrap64,if_pos,Nat.add_assoc,Nat.left_eq_add,Nat.add_eq_left,Nat.add_left_cancel_iff,List.length_map]<;>rfl):G:=Eq.mpr h g
theorem Te{P0 P1 P2 P3 P4 G G':Prop}(p0:P0)(p1:P1)(p2:P2)(p3:P3)(p4:P4)(g:G')(h:P0->P1->P2->P3->P4->G=G':=by intro p0 p1 p2 p3 p4;simp+contextual (disch:=first|omega|simp only[go_sem,false_implies]) only[go_sem,wrap64,if_pos,fx,Nat.add_assoc,Nat.left_eq_add,Nat.add_eq_left,Nat.add_left_cancel_iff,p0,p1,p2,p3,p4]<;>rfl):G:=Eq.mpr (h p0 p1 p2 p3 p4) g
theorem Np{G G':Prop}(g:G')(h:G=G':=by simp+contextual (disch:=first|omega|simp only[go_sem,false_implies]) only[go_sem,wrap64,if_pos,List.length_map,beq_self_eq_true]<;>rfl):G:=Eq.mpr h g
theorem Tf{P0 P1 P2 G G':Prop}(p0:P0)(p1:P1)(p2:P2)(g:G')(h:P0->P1->P2->G=G':=by intro p0 p1 p2;simp+contextual (disch:=first|omega|simp only[go_sem,false_implies]) only[go_sem,wrap64,if_pos,Nat.add_assoc,Nat.left_eq_add,Nat.add_eq_left,Nat.add_left_cancel_iff,p0,p1,p2]<;>rfl):G:=Eq.mpr (h p0 p1 p2) g
theorem Jz{P0 P1 G:Prop}(p0:P0)(p1:P1)(h:P0->P1->G:=by intro p0 p1;simp+contextual (disch:=first|omega|simp only[go_sem,false_implies]) only[go_sem,wrap64,if_pos,p0,p1]):G:=h p0 p1
theorem Nq{P0 P1 P2 G:Prop}(p0:P0)(p1:P1)(p2:P2)(h:P0->P1->P2->G:=by intro p0 p1 p2;simp+contextual (disch:=first|omega|simp only[go_sem,false_implies]) only[go_sem,wrap64,if_pos,List.length_map,p0,p1,p2]):G:=h p0 p1 p2
theorem kG{P0 G G':Prop}(p0:P0)(g:G')(h:P0->G=G':=by intro p0;simp+contextual only[go_sem,p0]<;>rfl):G:=Eq.mpr (h p0) g
theorem Tg{P0 G G':Prop}(p0:P0)(g:G')(h:P0->G=G':=by intro p0;simp+contextual (disch:=first|omega|simp only[go_sem,false_implies]) only[go_sem,wrap64,if_pos,List.length_map,bne_self_eq_false,p0]<;>rfl):G:=Eq.mpr (h p0) g
theorem X9{P0 P1 P2 G G':Prop}(p0:P0)(p1:P1)(p2:P2)(g:G')(h:P0->P1->P2->G=G':=by intro p0 p1 p2;simp+contextual (disch:=first|omega|simp only[go_sem,false_implies]) only[go_sem,wrap64,if_pos,mO,Nat.add_assoc,Nat.left_eq_add,Nat.add_eq_left,Nat.add_left_cancel_iff,List.length_map,p0,p1,p2]<;>rfl):G:=Eq.mpr (h p0 p1 p2) g
theorem Th{G:Prop}(h:G:=by simp+contextual (disch:=first|omega|simp only[go_sem,false_implies]) only[go_sem,wrap64,if_pos,List.length_map,beq_self_eq_true]):G:=h
theorem Ya{P0 P1 P2 P3 P4 P5 G G':Prop}(p0:P0)(p1:P1)(p2:P2)(p3:P3)(p4:P4)(p5:P5)(g:G')(h:P0->P1->P2->P3->P4->P5->G=G':=by intro p0 p1 p2 p3 p4 p5;simp+contextual (disch:=first|omega|simp only[go_sem,false_implies]) only[go_sem,wrap64,if_pos,List.length_map,Nat.add_assoc,Nat.left_eq_add,Nat.add_eq_left,Nat.add_left_cancel_iff,p0,p1,p2,p3,p4,p5]<;>rfl):G:=Eq.mpr (h p0 p1 p2 p3 p4 p5) g
theorem Yb{P0 P1 P2 P3 P4 P5 G G':Prop}(p0:P0)(p1:P1)(p2:P2)(p3:P3)(p4:P4)(p5:P5)(g:G')(h:P0->P1->P2->P3->P4->P5->G=G':=by intro p0 p1 p2 p3 p4 p5;simp+contextual (disch:=first|omega|simp only[go_sem,false_implies]) only[go_sem,wrap64,if_pos,Nat.add_assoc,Nat.left_eq_add,Nat.add_eq_left,Nat.add_left_cancel_iff,List.length_map,p0,p1,p2,p3,p4,p5]<;>rfl):G:=Eq.mpr (h p0 p1 p2 p3 p4 p5) g
theorem Yc{P0 P1 P2 P3 G G':Prop}(p0:P0)(p1:P1)(p2:P2)(p3:P3)(g:G')(h:P0->P1->P2->P3->G=G':=by intro p0 p1 p2 p3;simp+contextual (disch:=first|omega|simp only[go_sem,false_implies]) only[go_sem,wrap64,if_pos,Nat.add_assoc,Nat.left_eq_add,Nat.add_eq_left,Nat.add_left_cancel_iff,List.length_map,p0,p1,p2,p3]<;>rfl):G:=Eq.mpr (h p0 p1 p2 p3) g
theorem Yd{P0 G G':Prop}(p0:P0)(g:G')(h:P0->G=G':=by intro p0;simp+contextual (disch:=first|omega|simp only[go_sem,false_implies]) only[go_sem,wrap64,if_pos,List.length_map,Nat.add_assoc,Nat.left_eq_add,Nat.add_eq_left,Nat.add_left_cancel_iff,p0]<;>rfl):G:=Eq.mpr (h p0) g
theorem Ye{P0 G:Prop}(p0:P0)(h:P0->G:=by intro p0;simp+contextual (disch:=first|omega|simp only[go_sem,false_implies]) only[go_sem,wrap64,if_pos,Nat.add_assoc,Nat.left_eq_add,Nat.add_eq_left,Nat.add_left_cancel_iff,e8,p0]):G:=h p0
theorem Yf{P0 P1 G G':Prop}(p0:P0)(p1:P1)(g:G')(h:P0->P1->G=G':=by intro p0 p1;simp+contextual (disch:=first|omega|simp only[go_sem,false_implies]) only[go_sem,wrap64,if_pos,Nat.add_assoc,Nat.left_eq_add,Nat.add_eq_left,Nat.add_left_cancel_iff,k3,p0,p1]<;>rfl):G:=Eq.mpr (h p0 p1) g
theorem Yg{P0 G:Prop}(p0:P0)(h:P0->G:=by intro p0;simp+contextual (disch:=first|omega|simp only[go_sem,false_implies]) only[go_sem,wrap64,if_pos,hc,List.length_map,if_true,Nat.zero_le,Nat.le_refl,List.take_length,p0]):G:=h p0
theorem Yh{G:Prop}(h:G:=by simp+contextual (disch:=first|omega|simp only[go_sem,false_implies]) only[go_sem,wrap64,if_pos,Nat.add_assoc,Nat.left_eq_add,Nat.add_eq_left,Nat.add_left_cancel_iff]):G:=h
theorem Yi{G G':Prop}(g:G')(h:G=G':=by simp+contextual (disch:=first|omega|simp only[go_sem,false_implies]) only[go_sem,wrap64,if_pos,List.length_map,beq_self_eq_true,Bool.and_true]<;>rfl):G:=Eq.mpr h g
theorem Ti{P0 G G':Prop}(p0:P0)(g:G')(h:P0->G=G':=by intro p0;simp+contextual only[go_sem,Nat.add_assoc,Nat.left_eq_add,Nat.add_eq_left,Nat.add_left_cancel_iff,p0]<;>rfl):G:=Eq.mpr (h p0) g
theorem Yj{G G':Prop}(g:G')(h:G=G':=by simp+contextual only[go_sem,JA,Nat.add_assoc,Nat.left_eq_add,Nat.add_eq_left,Nat.add_left_cancel_iff,List.replicate]<;>rfl):G:=Eq.mpr h g
theorem Yk{G G':Prop}(g:G')(h:G=G':=by simp+contextual (disch:=first|omega|simp only[go_sem,false_implies]) only[go_sem,wrap64,if_pos,bne_self_eq_false]<;>rfl):G:=Eq.mpr h g
theorem Yl{G G':Prop}(g:G')(h:G=G':=by simp+contextual (disch:=first|omega|simp only[go_sem,false_implies]) only[go_sem,wrap64,if_pos,mO]<;>rfl):G:=Eq.mpr h g
theorem Ym{G:Prop}(h:G:=by simp+contextual (disch:=first|omega|simp only[go_sem,false_implies]) only[go_sem,wrap64,if_pos,mO]):G:=h
theorem dB{P:Prop}(h:P:=by repeat(first|exact hg.mono (by omega)|exact Good.nil|refine Good.ay ?_ (by omega) rfl|refine Good.ay ?_ (by omega) (xP _ _ _ (by omega))|refine Good.ay ?_ (by omega) (by simp[ab.refs,V.aO,V.refs]<;>omega))):P:=h
theorem dC{P:Prop}(h:P:=by(repeat(first|exact xQ|refine fU ?_|refine nZ rfl ?_|refine nZ (mC (oP (by omega))) ?_|refine FB rfl (by simp[V.refs,V.aO]<;>first|omega|assumption) ?_))):P:=h
theorem af{P:Prop}(h:P:=by omega):P:=h
theorem ai{P:Prop}(h:P:=by kernel_rfl):P:=h
theorem rE{P:Prop}(h:P:=by(repeat(first|exact gI|refine e9 ?_|refine dI rfl ?_|refine dI (mC (oP (by omega))) ?_|refine kH 0 rfl rfl rfl ?_|refine lU rfl (by simp[V.refs,V.aO]<;>first|omega|assumption) ?_|refine lV rfl (by simp[V.ids]<;>omega) ?_))):P:=h
theorem cF{P:Prop}(h:P:=by(repeat(first|rfl|rw[aa]|rw[ae _ _ _ _ (by omega)]))):P:=h
theorem PW{P:Prop}(h:P:=by simp[V.refs,V.aO]<;>first|omega|assumption):P:=h
theorem zy7{P:Prop}(h:P:=by simp[ab.refs,V.aO,V.refs]<;>omega):P:=h
theorem aH{P:Prop}(h:P:=by simp):P:=h
theorem zy9{P:Prop}(h:P:=by exact oQ hM1.symm _ _ (by omega) (Good.ay (Good.ay (Good.ay (Good.ay (Good.ay (Good.ay (Good.ay (Good.mono (jA lx lm cy DU) (by omega)) (by omega) rfl) (by omega) rfl) (by omega) rfl) (by omega) rfl) (by omega) rfl) (by omega) rfl) (by omega) rfl) (fun j j1 j2 j3=>by(repeat(first|rfl|rw[aa]|rw[ae _ _ _ _ (by omega)]));exact rO (by omega) (by omega) j2 j3 (by omega) (by omega))):P:=h
theorem Bv{P:Prop}(h:P:=by simp[V.ids]<;>omega):P:=h
theorem D3{P:Prop}(h:P:=by rintro⟨h1,h2⟩;first|(cases h1;done)|(cases h2;done)):P:=h
theorem uQ{P:Prop}(h:P:=by subst e;(repeat(first|rfl|rw[aa]|rw[ae _ _ _ _ (by omega)]))):P:=h
theorem iU{P:Prop}(h:P:=by simpa[execOp,gf]using this):P:=h
theorem xr{P:Prop}(h:P:=by cases rs with|nil=>exact ho.elim|cons x l=>cases l<;>exact ho.elim):P:=h
theorem Hr{P:Prop}(h:P:=by have _:=lx;have _:=lm;have _:=cy;unfold rF;(repeat(first|rfl|rw[aa]|rw[ae _ _ _ _ (by omega)]))):P:=h
theorem Tj{P:Prop}(h:P:=by simp only[ay]<;>((repeat' split)<;>first|rfl|omega|(subst_vars;first|rfl|assumption|(symm;assumption)|omega|(simp_all;done)))):P:=h
theorem bD{P:Prop}(h:P:=by decide):P:=h
theorem JB{P:Prop}(h:P:=by exact⟨_,oG,jB,hq, .of_steps (.one h0 stepR_seq) (.pass (x:= .code y) rfl (fun _ _=> .inl (by simp)) dn)⟩):P:=h
theorem eF{P:Prop}(h:P:=by rw[ho];rfl):P:=h
theorem Hs{P:Prop}(h:P:=by unfold zr;(repeat(first|rfl|rw[aa]|rw[ae _ _ _ _ (by omega)]))):P:=h
theorem Yn{P:Prop}(h:P:=by exact⟨false, .inl rfl,rfl,jC (fun _ _ h=>by cases h.1) (by rintro⟨h1,h2⟩;first|(cases h1;done)|(cases h2;done)),eq _ (fun d=>by rw[Yo w d ht])⟩):P:=h
theorem qb{P:Prop}(h:P:=by simp[ab.refs,V.aO,V.refs]):P:=h
theorem Ht{P:Prop}(h:P:=by(repeat(first|rfl|rw[aa]|rw[ae _ _ _ _ (by omega)]));exact fm):P:=h
theorem Hu{P:Prop}(h:P:=by(repeat(first|rfl|rw[aa]|rw[ae _ _ _ _ (by omega)]));exact e3):P:=h
theorem fI{P:Prop}(h:P:=by simp;omega):P:=h
theorem Yp{P:Prop}(h:P:=by exact h4 _ _ (by omega) (Good.ay (Good.ay (Good.ay (h2.mono (by omega)) (by omega) rfl) (by omega) rfl) (by omega) rfl) (fun j j1 j2=>by(repeat(first|rfl|rw[aa]|rw[ae _ _ _ _ (by omega)])))):P:=h
theorem JC{P:Prop}(h:P:=by(repeat(first|exact Hv|refine D4 ?_|refine Nr rfl ?_))):P:=h
theorem JD{P:Prop}(h:P:=by(repeat(first|rfl|rw[aa]|rw[ae _ _ _ _ (by omega)]));exact f7):P:=h
theorem Hw{P:Prop}(h:P:=by exact rO (by omega) (by omega) j2 j3 (by omega) (by omega)):P:=h
theorem Tk{P:Prop}(h:P:=by have _:=lx;have _:=lm;have _:=cy;unfold FC;(repeat(first|rfl|rw[aa]|rw[ae _ _ _ _ (by omega)]))):P:=h
theorem Yq{P:Prop}(h:P:=by exact⟨_,_,_,_,_,_,_,hK,by simp[Instr.range,run_underlying ht,pn], .inl rfl,n1,n2,⟨rfl,by simp,fun _=>⟨w.heap.size,by simp,rfl⟩⟩,fun j hj=> .inr (by simpa using hj)⟩):P:=h
theorem Yr{P:Prop}(h:P:=by exact⟨_,_,_,_,_,_,_,hK,by simp[Instr.range,run_underlying ht], .inl rfl,n1,n2,⟨rfl,by simp,fun _=>⟨w.heap.size,by simp,rfl⟩⟩,fun j hj=> .inr (by simpa using hj)⟩):P:=h
theorem zu{P:Prop}(h:P:=by rw[List.drop_eq_getElem_cons i1,i2]):P:=h
theorem mP{P:Prop}(h:P:=by simpa using hj):P:=h
theorem Tl{P:Prop}(h:P:=by rw[g5 _ (by omega) (by omega) (by omega)];(repeat(first|rfl|rw[aa]|rw[ae _ _ _ _ (by omega)]))):P:=h
theorem zw{P:Prop}(h:P:=by simp[Op.equalIn,run_underlying ht]):P:=h
theorem adH{P:Prop}(h:P:=by exact⟨false, .inl rfl,rfl,jC (fun _ _ h=>by cases h.1) (by rintro⟨h1,h2⟩;first|(cases h1;done)|(cases h2;done)),eq _ (fun d=>by rw[Ys w d ht])⟩):P:=h
theorem adI{P:Prop}(h:P:=by exact⟨false, .inl rfl,rfl,jC (fun _ _ h=>by cases h.1) (by rintro⟨h1,h2⟩;first|(cases h1;done)|(cases h2;done)),eq _ (fun d=>by rw[Yt w d ht])⟩):P:=h
theorem Yu{P:Prop}(h:P:=by exact⟨false, .inl rfl,rfl,jC (fun _ _ h=>by cases h.1) (by rintro⟨h1,h2⟩;first|(cases h1;done)|(cases h2;done)),eq _ (fun d=>by rw[Yv w d ht])⟩):P:=h
theorem mQ{P:Prop}(h:P:=by dsimp only;omega):P:=h
theorem Ns{P:Prop}(h:P:=by(repeat(first|rfl|rw[aa]|rw[ae _ _ _ _ (by omega)]));exact fx):P:=h
theorem Yw{P:Prop}(h:P:=by exact⟨a,ev,h1,h2,D.aU (w:=w) (w':=w) (fun b _ hn=>⟨rfl,hB b hn⟩) cs ev h3,h5,h4.mono (w:=w) (w':=w) (fun b _ hn=>⟨rfl,hB b hn⟩)⟩):P:=h
theorem Yx{P:Prop}(h:P:=by exact .inl ⟨_,_,_, .inr ⟨c,f,g,first,cap,hc,fe,hf, .inr (.inl ⟨rs,hH,rfl,fun id aw=>by simpa using List.all_eq_true.1 mJ id aw⟩)⟩,h⟩):P:=h
theorem Yy{P:Prop}(h:P:=by exact .inl ⟨_,_,_, .inr ⟨c,f,g,first,cap,hc,fe,hf, .inr (.inr (.inr ⟨hH,fun id aw=>by simpa using List.all_eq_true.1 mJ id aw⟩))⟩,h⟩):P:=h
theorem Yz{P:Prop}(h:P:=by exact cN.same hH _ hK (by simp only[Sem.run_bind,hr,Result.andThen_ok];rfl) ⟨_,rfl,zv,[.bool false],rfl,r2, .bool false,[],rfl,rfl,rfl⟩):P:=h
theorem YA{P:Prop}(h:P:=by exact .inr ⟨_,_,_,⟨c,f,g,first,cap,hc,fe,hf, .inr ⟨x,Δ,hH,rfl,rfl,fun id aw=>by simpa using List.all_eq_true.1 mJ id aw⟩⟩,h⟩):P:=h
theorem Tn{P:Prop}(h:P:=by subst e1;(repeat(first|rfl|rw[aa]|rw[ae _ _ _ _ (by omega)]));exact q5):P:=h
theorem rP{P:Prop}(h:P:=by simp[V.refs]):P:=h
theorem pq{P:Prop}(h:P:=by simp[oR,aw]):P:=h
theorem YB{P:Prop}(h:P:=by rw[List.length_map];exact Nat.le_refl _):P:=h
theorem YC{P:Prop}(h:P:=by exact(M5.ay (i:=nx'+3) (m:=nx'+7) (by omega) (by omega) (by omega) rfl).ay (by omega) (by omega) (by omega) rfl):P:=h
theorem To{P:Prop}(h:P:=by subst e2;(repeat(first|rfl|rw[aa]|rw[ae _ _ _ _ (by omega)]))):P:=h
theorem Tp{P:Prop}(h:P:=by(repeat(first|rfl|rw[aa]|rw[ae _ _ _ _ (by omega)]));exact q3):P:=h
theorem Tq{P:Prop}(h:P:=by(repeat(first|rfl|rw[aa]|rw[ae _ _ _ _ (by omega)]));exact i4):P:=h
theorem adJ{P:Prop}(h:P:=by exact⟨b,r,k1,k2,k3,k4,k5,k6,k7,k8,k9,fun i=>fK _ _ (fun r hr=>hrefs r (V.xR _ _ r hr)) (k10 i)⟩):P:=h
theorem Nu{P:Prop}(h:P:=by rw[hold id (by omega) (by omega),Jg id (by omega) aw]):P:=h
theorem Ts{P:Prop}(h:P:=by injection h with h;injection h with h;subst h;right;rw[JE];omega):P:=h
theorem Nv{P:Prop}(h:P:=by simpa[execOp,gf,resolve,invoke,builtin]using this):P:=h
theorem YD{P:Prop}(h:P:=by exact⟨fo Nw.1,fo Nw.2,fun id aw=>⟨dj xS.1.1 id aw,dj xS.1.2 id aw⟩,fun id aw=>dj xS.2 id aw⟩):P:=h
theorem YE{P:Prop}(h:P:=by simp only[Sem.run_bind,hr,Result.andThen_ok];rfl):P:=h
theorem YF{P:Prop}(h:P:=by exact⟨t,by simp only[jY,if_neg h1],hv,rfl,fun h=>absurd h h1,fun _=>rfl,fun h=>absurd h h1⟩):P:=h
theorem mK{P:Prop}(h:P:=by simp[hy]):P:=h
theorem YG{P:Prop}(h:P:=by unfold xw;exact Nat.le_trans (List.length_filter_le _ _) (by rw[List.length_map];exact Nat.le_refl _)):P:=h
theorem JF{P:Prop}(h:P:=by simp[ab.refs,V.aO,V.refs];omega):P:=h
theorem YH{P:Prop}(h:P:=by exact fin _ [] (fun b hb=>by cases hb) ek (World.ownsRow_nil w' 0 ty sz) ⟨[],rfl,by simp,rfl⟩ rfl):P:=h
theorem Hx{P:Prop}(h:P:=by injection h with h;exact h ▸ ht):P:=h
theorem adK{P:Prop}(h:P:=by exact⟨w.heap.size,es,clock,rfl,heap_alloc_new w _,e3,aK.mono (ht.blocks (M:=M)) l _ e4⟩):P:=h
theorem YI{P:Prop}(h:P:=by simp only[Op.operands,Call.operands];exact Array.mem_append.2 (.inr (Array.mem_toList_iff.1 hx))):P:=h
theorem YJ{P:Prop}(h:P:=by rw[hn,hI,D5 hx];rfl):P:=h
theorem adL{P:Prop}(h:P:=by exact JG hu cQ (fun id h=> .inl (by rw[kI]at h;exact h)) g1.symm g3 jZ (jb rfl)):P:=h
theorem JH{P:Prop}(h:P:=by injection h with h;subst h;exact hK):P:=h
theorem YK{P:Prop}(h:P:=by simp only[h1,c8,Option.map_some];exact hK):P:=h
theorem YL{P:Prop}(h:P:=by exact⟨k1,Bw.tr.trans k2,Bw.size,Bw.defers.mono k2,fun j=>V.aT k2 _ _ (Bw.env j)⟩):P:=h
theorem YM{P:Prop}(h:P:=by rw[ae _ _ _ _ e,ae _ _ _ _ e,ae _ _ _ _ (by omega),hI.eq j hj,ae _ _ _ _ e]):P:=h
theorem Nx{P:Prop}(h:P:=by exact V.aT (ht.trans k2) _ _ (hs.env i)):P:=h
theorem adM{P:Prop}(h:P:=by exact⟨k1,hs.tr.trans k2,hs.size,hs.defers.mono k2,fun j=>V.aT k2 _ _ (hs.env j)⟩):P:=h
theorem YN{P:Prop}(h:P:=by exact Nat.le_trans (List.length_filter_le _ _) (by rw[List.length_map];exact Nat.le_refl _)):P:=h
theorem YO{P:Prop}(h:P:=by exact mR sx (uR (by simp[V.refs];omega) (uS 0 rfl rfl rfl (pt mS)))):P:=h
theorem YP{P:Prop}(h:P:=by rw[m3 id h2 (by omega),ae _ _ _ _ (by omega),ae _ _ _ _ (by omega),cQ id h2 h3]):P:=h
theorem YQ{P:Prop}(h:P:=by subst e2;(repeat(first|rfl|rw[aa]|rw[ae _ _ _ _ (by omega)]));exact q6):P:=h
theorem YR{P:Prop}(h:P:=by subst e1;(repeat(first|rfl|rw[aa]|rw[ae _ _ _ _ (by omega)]));exact w4):P:=h
theorem adN{P:Prop}(h:P:=by exact Bool.false_ne_true (lW.trans h.marks)):P:=h
theorem YS{P:Prop}(h:P:=by exact hQ _ _ _ _ val k5 (eR hs k1 k2 (o':=o') (nx':=nx') rfl fun id hu=>hu) k4):P:=h
theorem Tt{P:Prop}(h:P:=by exact⟨_,oG,jB,hq, .of_steps (.one h0 stepR_block) dn⟩):P:=h
theorem Tu{P:Prop}(h:P:=by exact⟨_,oG,jB,hq, .of_steps (.one h0 ki) dn⟩):P:=h
theorem JI{P:Prop}(h:P:=by unfold fw;rw[Ny trivial]):P:=h
theorem YT{P:Prop}(h:P:=by exact .inr (.inr (.inr (oS.mono (fun v o n h=>hK _ h) (fun v o n h=>hX _ _ h) h)))):P:=h
theorem YU{P:Prop}(h:P:=by(repeat(first|rfl|rw[aa]|rw[ae _ _ _ _ (by omega)]));exact pj j hj e1):P:=h
theorem YV{P:Prop}(h:P:=by rw[List.contains_iff_mem, <- (by simpa using h3:x=n)];exact List.mem_of_getElem? hx):P:=h
theorem Tv{P:Prop}(h:P:=by exact h ▸ ⟨hb,[],by simp⟩):P:=h
theorem YW{P:Prop}(h:P:=by exact⟨none,0,0,rfl,rfl,Nat.le_refl _,fun _=>rfl,0,fun a ha=>by cases ha⟩):P:=h
theorem YX{P:Prop}(h:P:=by exact⟨b,es',clock,k1,k2,k4,aK.mono (fun b _ hn=>⟨rfl,hB b hn⟩) _ _ k3⟩):P:=h
theorem Nz{P:Prop}(h:P:=by rw[show(hp o nx).o id=_ from ho];rfl):P:=h
theorem YY{P:Prop}(h:P:=by(repeat(first|rfl|rw[aa]|rw[ae _ _ _ _ (by omega)]))<;>exact q1):P:=h
theorem YZ{P:Prop}(h:P:=by exact fun k hk s' h1 h2=>Bx _ (fun x hx=>aW x (tQ k hk x hx)) s' h1 h2):P:=h
theorem Tw{P:Prop}(h:P:=by injection h with h;subst h;exact⟨by assumption,hK⟩):P:=h
theorem Y0{P:Prop}(h:P:=by exact⟨k1,xs,k2,evs,k3,k4,D.aU (fun b _ hn=>⟨rfl,hB b hn⟩) _ _ k5⟩):P:=h
theorem Y1{P:Prop}(h:P:=by(repeat(first|rfl|rw[aa]|rw[ae _ _ _ _ (by omega)]));exact q4):P:=h
theorem Y2{P:Prop}(h:P:=by rw[show((hp o nx).put (bE o x.ids)).o j=_ from f4 j hm];exact j5.rfl' rfl):P:=h
theorem PX{P:Prop}(h:P:=by(repeat(first|rfl|rw[aa]|rw[ae _ _ _ _ (by omega)]));exact g8):P:=h
theorem PY{P:Prop}(h:P:=by subst h;(repeat(first|rfl|rw[aa]|rw[ae _ _ _ _ (by omega)]))):P:=h
theorem PZ{P:Prop}(h:P:=by exact hH.fresh j fun hu=>h (.inl hu)):P:=h
theorem Y3{P:Prop}(h:P:=by exact⟨r, .inl rfl,by obtain⟨_,rfl,_⟩:=hx;rfl,fun op=>g2 op p q,g1⟩):P:=h
theorem JJ{P:Prop}(h:P:=by simp at h;obtain⟨rfl,rfl⟩:=h;exact⟨rfl,rfl⟩):P:=h
theorem P9{P:Prop}(h:P:=by exact hN _ _ _ (jD hs k1 k2 (mT ho) cX rfl fun id hu=> .inl hu)):P:=h
theorem Qa{P:Prop}(h:P:=by rw[show((hp o nx).put (bE o x.ids)).o j=_ from f3 j hm];exact j5.fz _):P:=h
theorem Qb{P:Prop}(h:P:=by exact⟨_,_,_,_,_,_,_,hK,by simp[hr], .inl rfl,h1,h2,h3,by simp⟩):P:=h
theorem Y4{P:Prop}(h:P:=by simp only[a0,Array.size_append,Array.size_replicate];simp at hlen;omega):P:=h
theorem Y5{P:Prop}(h:P:=by exact forall_congr' fun k=>forall_congr' fun hk=>by rw[ih k hk (d+1)]):P:=h
theorem Qc{P:Prop}(h:P:=by cases xv<;>first|(simp[Qd]at hwd;done)|(cases yv<;>simp[he])):P:=h
theorem Qe{P:Prop}(h:P:=by exact⟨x,b.trans y,z⟩):P:=h
theorem xT{P:Prop}(h:P:=by simpa[V.refs]using hr):P:=h
theorem Qf{P:Prop}(h:P:=by exact hK _ _ (by omega) (M5.mono (by omega)) cQ):P:=h
theorem Qg{P:Prop}(h:P:=by exact bC s1 (fun r hr=>by simp[ab.refs,V.aO,V.refs]at hr)):P:=h
theorem JK{P:Prop}(h:P:=by rw[mJ];simp only[oR,fe,xy];exact aw):P:=h
theorem Qh{P:Prop}(h:P:=by injection hu with hu;injection hv with hv;subst hu;subst hv;exact h3):P:=h
theorem xU{P:Prop}(h:P:=by simp[V.aO,V.refs]):P:=h
theorem Qi{P:Prop}(h:P:=by exact⟨by have:=la;simp at h1;simp only[Tm.kids];omega,hl⟩):P:=h
theorem Qj{P:Prop}(h:P:=by exact hN _ _ _ _ k3.2 (n6 hs k1 k2 k3.1 cX rfl fun id hu=>hu)):P:=h
theorem Qk{P:Prop}(h:P:=by exact⟨by omega,fun k hk=>ih k hk (by have:=Tm.mU hk;omega)⟩):P:=h
theorem JL{P:Prop}(h:P:=by simp at hl;obtain⟨rfl,rfl⟩:=hl;exact hK):P:=h
theorem Ql{P:Prop}(h:P:=by rw[ae _ _ _ _ xz,rQ _ _ (by omega)];exact h0 id (by omega)):P:=h
theorem Qm{P:Prop}(h:P:=by exact mR s11 (pt (pt (uS 0 rfl rfl rfl mS)))):P:=h
theorem Qn{P:Prop}(h:P:=by subst e2;rw[D6]at hr;simp[ab.refs,V.aO,V.refs]at hr):P:=h
theorem JM{P:Prop}(h:P:=by simp at hj hy;subst hj;subst hy;exact aW):P:=h
theorem FE{P:Prop}(h:P:=by rw[if_neg e,if_neg (by omega)]):P:=h
theorem Qo{P:Prop}(h:P:=by subst e;rw[hx]at hy;injection hy with hy;rw[<- hy];exact j6):P:=h
theorem Y6{P:Prop}(h:P:=by rw[List.length_eraseIdx];simp[hi];omega):P:=h
theorem FF{P:Prop}(h:P:=by rw[hm];exact ab.noConfusion):P:=h
theorem JN{P:Prop}(h:P:=by simp only[V.den,D.den]at FG;rw[FG]):P:=h
theorem Y7{P:Prop}(h:P:=by exact h3 e (Array.mem_toList_iff.1 he) hb):P:=h
theorem FH{P:Prop}(h:P:=by rw[hg];simp[dT,hv,e]):P:=h
theorem Qp{P:Prop}(h:P:=by exact cN.same hH _ h (by simp[execOp,gf,hr]) ⟨_,rfl,hv⟩):P:=h
theorem JO{P:Prop}(h:P:=by rw[uk];exact c7 all _ bf):P:=h
theorem s9{P:Prop}(h:P:=by rw[xf];rfl):P:=h
theorem FI{P:Prop}(h:P:=by simp[V.aO,V.refs];omega):P:=h
theorem Qq{P:Prop}(h:P:=by exact bL t u hu (hQ _ s φ w (.iface t u) h hs ⟨u,rfl,hd⟩)):P:=h
theorem JP{P:Prop}(h:P:=by rw[if_neg e,if_neg fun h=>e h.symm]):P:=h
theorem FJ{P:Prop}(h:P:=by simp[binOp,Bz hr]):P:=h
theorem JQ{P:Prop}(h:P:=by exact⟨.ret,s',aI,hq,j7,trivial⟩):P:=h
theorem JR{P:Prop}(h:P:=by exact bnd _ h _ (Nat.le_max_right _ _)):P:=h
theorem Qr{P:Prop}(h:P:=by exact⟨e',Tx,fr',hR,ComesIn.of_steps Qs hs,Jh,hl⟩):P:=h
theorem ta{P:Prop}(h:P:=by rw[hx];rfl):P:=h
theorem oT{P:Prop}(h:P:=by simp[hx]):P:=h
theorem tc{P:Prop}(h:P:=by simp[hz]):P:=h
theorem xV{P:Prop}(h:P:=by rw[hx];exact hk):P:=h
theorem JS{P:Prop}(h:P:=by rw[xg i hi];exact congrArg some hb):P:=h
theorem Qt{P:Prop}(h:P:=by exact⟨b,k1,k2.mono (fun b _ hn=>⟨rfl,hB b hn⟩) rfl⟩):P:=h
theorem BA{P:Prop}(h:P:=by exact Ty j1 j2 j3):P:=h
theorem JT{P:Prop}(h:P:=by rw[List.drop_eq_getElem_cons h5,h6]):P:=h
theorem FK{P:Prop}(h:P:=by exact hg.fresh j (by omega)):P:=h
theorem JU{P:Prop}(h:P:=by unfold fw;exact Eq.trans rfl rfl):P:=h
theorem FL{P:Prop}(h:P:=by rw[Y8]at hl;simp at hl):P:=h
theorem FM{P:Prop}(h:P:=by subst hi;simp[Ne.symm h]):P:=h
theorem JV{P:Prop}(h:P:=by exact⟨.bL _,s',aI,hq,j7,hm⟩):P:=h
theorem JW{P:Prop}(h:P:=by unfold Hy;exact Eq.trans rfl rfl):P:=h
theorem FN{P:Prop}(h:P:=by exact fun _=>Hz _ _ _):P:=h
theorem FO{P:Prop}(h:P:=by exact absurd h0 (by simp)):P:=h
theorem JX{P:Prop}(h:P:=by unfold eqGuard;cases op<;>simp):P:=h
theorem FP{P:Prop}(h:P:=by rw[h]at h1;simp at h1):P:=h
theorem JY{P:Prop}(h:P:=by rw[i4];exact fun h=>nomatch h):P:=h
theorem JZ{P:Prop}(h:P:=by simp[hj]at hr;exact⟨hr,rfl⟩):P:=h
theorem xW{P:Prop}(h:P:=by simpa using h2):P:=h
theorem J0{P:Prop}(h:P:=by simp at hj;subst hj;exact dU):P:=h
theorem xX{P:Prop}(h:P:=by simpa using hx):P:=h
theorem J1{P:Prop}(h:P:=by rw[hx];exact ab.noConfusion):P:=h
theorem oU{P:Prop}(h:P:=by cases h):P:=h
theorem FQ{P:Prop}(h:P:=by rw[ae _ _ _ _ e]):P:=h
theorem xY{P:Prop}(h:P:=by rw[h1];rfl):P:=h
theorem BB{P:Prop}(h:P:=by cases b<;>rfl):P:=h
theorem xZ{P:Prop}(h:P:=by rw[hj];rfl):P:=h
theorem Y9{P:Prop}(h:P:=by exact⟨b,h4.trans h5,h6⟩):P:=h
theorem zw1{P:Prop}(h:P:=by refine fin _ _ (.inr rfl) _ _ af dB (fun j j1 j2=>by(repeat(first|rfl|rw[aa]|rw[ae _ _ _ _ (by omega)]))) (fun h=> ?_);exact adN):P:=h
theorem zw2{P:Prop}(h:P:=by refine aE (ba rfl) ?_;refine lT q2 ?_;refine eG _ _ _ .busy none af (fin _ _ (fun id aw=>Tj) dB af) cF (fun id h3 h4=>by(repeat(first|rfl|rw[aa]|rw[ae _ _ _ _ (by omega)])))):P:=h
theorem zw4{P:Prop}(h:P:=by simp[Ef,Array.getD_eq_getD_getElem?,Array.getElem?_replicate]at jc;split at jc<;>simp at jc):P:=h
theorem zw5{P:Prop}(h:P:=by obtain⟨h0,h1,h2⟩:=h;refine⟨h0,hr.us id h1,fun cV=> ?_⟩;obtain⟨h3,h4⟩:=hr.row id h1 cV;obtain⟨b,h5,h6⟩:=h2 h3;exact Y9):P:=h
theorem zw6{P:Prop}(h:P:=by obtain⟨a,b,c⟩:=hr id rP;obtain⟨h0,h1,h2⟩:=h;refine⟨h0,c,fun cV=> ?_⟩;rw[a]at cV;obtain⟨x,y,z⟩:=h2 cV;exact Qe):P:=h
theorem zw7{P:Prop}(h:P:=by obtain⟨h0,x,hx⟩:=FR hI;simp+contextual only[go_sem,hI,hx,h0];refine aE (ba rfl) ?_;refine cM ?_;exact YJ):P:=h
theorem zw8{P:Prop}(h:P:=by obtain⟨a,b,c⟩:=hr id rP;obtain⟨h0,h1,h2⟩:=h;refine⟨h0,c,fun cV=> ?_⟩;obtain⟨x,y,z⟩:=h2 (a.1 cV);exact Qe):P:=h
theorem J2{P:Prop}(h:P:=by refine bI ?_;refine aE (ba rfl) ?_;exact jW):P:=h
theorem Tz{P:Prop}(h:P:=by intro j hj;simp only[bF,h2,List.mem_map,List.mem_filter]at hj;obtain⟨e,⟨he,hb⟩,rfl⟩:=hj;exact Y7):P:=h
theorem Za{P:Prop}(h:P:=by simp only[lg]at h;injection h with h;injection h with _ h;exact Tv):P:=h
theorem Zb{P:Prop}(h:P:=by obtain⟨h0,h1,h2⟩:=h;refine⟨h0,hr.us id h1,fun e' p9=> ?_⟩;obtain⟨e,g1,g2,g3⟩:=hr.ep id e' h1 p9;obtain⟨h3,h4⟩:=h2 e g1;refine⟨Nat.le_trans h3 g2,fun heq=> ?_⟩;rw[g3 (by omega)];exact h4 af):P:=h
theorem TA{P:Prop}(h:P:=by rw[List.drop_eq_getElem_cons h1];rw[List.getElem?_eq_getElem h1]at hx;injection hx with hx;rw[hx]):P:=h
theorem TC{P:Prop}(h:P:=by obtain⟨z,h1,h⟩:=jj h;simp only[Prod.mk.injEq]at h;obtain⟨rfl,rfl,rfl⟩:=h;exact YK):P:=h
theorem HA{P:Prop}(h:P:=by refine kH 1 rfl rfl rfl ?_;exact rE):P:=h
theorem Zc{P:Prop}(h:P:=by refine ak hkn rfl ?_;exact jW):P:=h
theorem J3{P:Prop}(h:P:=by simp only[St.S,jn]at this;exact this):P:=h
theorem NA{P:Prop}(h:P:=by refine bH.bM _ af af dB (fun j hj=>rfl) ?_;exact dC):P:=h
theorem TD{P:Prop}(h:P:=by obtain⟨h0,x,hx⟩:=FR hI;simp+contextual only[go_sem,h,hI,hx,h0];exact YJ):P:=h
theorem Zd{P:Prop}(h:P:=by refine⟨t,by simp only[jY,if_pos h1,hl],hv,rfl,fun _=>hl,fun h=>absurd h1 h,fun _=>⟨fun u hu=> ?_,fun h=>absurd h1 h⟩⟩;rw[(iF h1).1 hu];exact Nat.le_refl _):P:=h
theorem TE{P:Prop}(h:P:=by simp only[Array.getD_eq_getD_getElem?];rw[Array.getElem?_setIfInBounds_ne (Ne.symm hi)]):P:=h
theorem TF{P:Prop}(h:P:=by refine kG hI ?_;refine aE (ba rfl) ?_;refine cM ?_;rw[hn,hI];rfl):P:=h
theorem TG{P:Prop}(h:P:=by dsimp only;refine bH.bM _ (Nat.le_refl _) af hI.cA (fun _ _=>rfl) ?_;exact dC):P:=h
theorem zA{P:Prop}(h:P:=by subst this;exact jW):P:=h
theorem Ze{P:Prop}(h:P:=by simp only[Option.map_eq_some_iff]at h;obtain⟨d,h1,rfl⟩:=h;obtain⟨arr,rfl,g1,g2⟩:=hx;obtain⟨val,r1,r2⟩:=hU h1 g1 g2;exact fin (r1 w) r2):P:=h
theorem Zf{P:Prop}(h:P:=by refine bI ?_;refine ak hkn rfl ?_;exact jW):P:=h
theorem TH{P:Prop}(h:P:=by refine cM ?_;refine ak (gJ _ _ _) rfl ?_;refine cM ?_;rw[hn]):P:=h
theorem TI{P:Prop}(h:P:=by subst this;refine rD hn ?_;refine aE (ba rfl) ?_;exact jW):P:=h
theorem Zg{P:Prop}(h:P:=by rw[show(⟨put o' [(fr, .arr 0 ty sz es)],fun id=>us id\/id=fr⟩:Hp).o fr=put o' [(fr, .arr 0 ty sz es)] fr from rfl,this]at he;injection he):P:=h
theorem Zh{P:Prop}(h:P:=by simp only[hx]at h ho;injection h with h;subst h;simp only[ab.fz]at ho;simp only[aR,ho]at aW;rw[hd (by rw[ho];rfl)];exact aW.den):P:=h
theorem Zi{P:Prop}(h:P:=by dsimp only;refine bH.bM _ af af dB (fun j hj=>by(repeat(first|rfl|rw[aa]|rw[ae _ _ _ _ (by omega)]))) ?_;exact dC):P:=h
theorem Zj{P:Prop}(h:P:=by obtain⟨g3,x2,g4⟩:=ih dD b1 (fun z hz=>m1 z tc) (fun z hz=>m2 z tc) g1 h;exact⟨g3,x1++x2,by rw[g4,g2,List.append_assoc]⟩):P:=h
theorem TJ{P:Prop}(h:P:=by refine Bh db eO ?_;refine aE (ba rfl) ?_;exact jW):P:=h
theorem Zk{P:Prop}(h:P:=by obtain⟨h0,y,h1,h2,h3,h4⟩:=uT h;simp only[Prod.mk.injEq]at h4;obtain⟨rfl,rfl,rfl⟩:=h4;exact⟨h0,y,h1,h2,h3,hK⟩):P:=h
theorem Zl{P:Prop}(h:P:=by simp only[Option.map_eq_some_iff]at h;obtain⟨r,h1,rfl⟩:=h;obtain⟨g1,g2⟩:=TK h1 hg (aq M φ H) w xv yv hx hy;exact Y3):P:=h
theorem Zm{P:Prop}(h:P:=by obtain⟨h3,h4⟩:=hb _ ck h2;exact⟨by rw[World.cell?_of_block (w:=w) (w':=w') (a:=a.add j) (by simpa using h3)];exact h1,h4⟩):P:=h
theorem Zn{P:Prop}(h:P:=by simp only[ha];obtain⟨z,h1,h⟩:=jj h;simp only[Prod.mk.injEq]at h;obtain⟨rfl,rfl,rfl⟩:=h;exact zB h1 hK):P:=h
theorem Zo{P:Prop}(h:P:=by simp only[hw,if_true];obtain⟨um,jZ⟩:=BC J4 (fun id aw=>ag2 id (by rw[xg];exact aw)) TL aW.2;exact adL):P:=h
theorem Zp{P:Prop}(h:P:=by cases y<;>simp only[V.same,Bool.false_eq_true,Bool.and_eq_true]at h;rw[Nat.eq_of_beq_eq_true h.1,Nat.eq_of_beq_eq_true h.2]):P:=h
theorem Zq{P:Prop}(h:P:=by rw[<- uU];refine iG hH (cq w _) cQ _ _ Ji ?_;unfold aR;simp only[bJ,aL,if_true];exact adK):P:=h
theorem Zr{P:Prop}(h:P:=by refine bI ?_;refine aE (ba rfl) ?_;refine bI ?_;refine aj (k+1) h2 af (bH.d0 _ ?_);exact dC):P:=h
theorem Zs{P:Prop}(h:P:=by intro u hu;simp only[Array.toList_extract,List.extract]at hu;exact hf u (List.mem_of_mem_drop (List.mem_of_mem_take hu))):P:=h
theorem Zt{P:Prop}(h:P:=by refine⟨hH,Trans.refl _ _ _, ?_,⟨[],rfl,List.nodup_nil,fun _=>rfl,fun r hr=>by cases hr⟩,BD hd⟩;exact Y4):P:=h
theorem TM{P:Prop}(h:P:=by obtain⟨hi,_⟩:=List.getElem?_eq_some_iff.1 hm;exact Y6):P:=h
theorem Zu{P:Prop}(h:P:=by simp only[lg]at h;injection h with h;injection h with h4 h5;subst h4;subst h5;rw[if_pos rfl]at hr;exact⟨n,hr⟩):P:=h
theorem Zv{P:Prop}(h:P:=by rw[e];obtain⟨k1,k2⟩:=kj (us':=FT (Array.replicate ops.size false)) hs.heap (fun id h=> .inl h);exact adM):P:=h
theorem TN{P:Prop}(h:P:=by simp only[bJ,aL,h1,if_false];exact PZ):P:=h
theorem Zw{P:Prop}(h:P:=by refine cM ?_;simp at h1;rw[List.drop_eq_nil_of_le h1]at hf;simp only[aQ]at hf;rw[hf]at hK;exact Qf):P:=h
theorem Zx{P:Prop}(h:P:=by simp only[Option.some.injEq,Prod.mk.injEq]at h;obtain⟨rfl,rfl,rfl⟩:=h;simp only[ho];exact⟨_,hg,hK⟩):P:=h
theorem TO{P:Prop}(h:P:=by rw[show fr+(j+1)=fr+1+j by omega];exact this):P:=h
theorem TP{P:Prop}(h:P:=by simp+contextual only[go_sem,h,hI];rw[hn,hI];rfl):P:=h
theorem Zy{P:Prop}(h:P:=by injection h with h;subst h;obtain⟨u,rfl,_⟩:=hy;simp only[V.den,D.den]at hx;subst hx;exact adI):P:=h
theorem Zz{P:Prop}(h:P:=by injection h with h;subst h;obtain⟨u,rfl,_⟩:=hx;simp only[V.den,D.den]at hy;subst hy;exact adH):P:=h
theorem ZA{P:Prop}(h:P:=by refine .inr (.inr (.inl ⟨ds,out,ff,hP,mV, ?_⟩));cases out<;>first|exact hK _ h|exact hX _ _ h):P:=h
theorem ZB{P:Prop}(h:P:=by rw[hI.eq 2 (by omega)];(repeat(first|rfl|rw[aa]|rw[ae _ _ _ _ (by omega)]));exact p2):P:=h
theorem ZC{P:Prop}(h:P:=by simp only[aR,ho]at aW;obtain⟨bk,es,clock,g1,_⟩:=aW;rw[<- eQ]at g1;subst g1;exact Yn):P:=h
theorem ZD{P:Prop}(h:P:=by simp only[ab.fz]at ho;simp only[aR,ho]at aW;rw[(hd ep (by rw[ho];rfl)).2 rfl];exact aW):P:=h
theorem ZE{P:Prop}(h:P:=by rw[Array.toList_append,Array.toList_append,Array.toList_map];exact V.qc zD dF hca):P:=h
theorem ZF{P:Prop}(h:P:=by refine .inr (.inl ⟨ds,out,ff,hP,mV, ?_⟩);cases out<;>first|exact hK _ h|exact hX _ _ h):P:=h
theorem ZG{P:Prop}(h:P:=by obtain⟨b,dV,ty,k1,k2,k3,k4⟩:=bf;exact⟨b,dV,ty,k1,k2,lh _ _ hrefs k3,k4⟩):P:=h
theorem ZH{P:Prop}(h:P:=by intro dD b _ _ hb h;simp only[lg]at h;injection h with h;injection h with _ h;exact Tv):P:=h
theorem Qu{P:Prop}(h:P:=by obtain⟨arr,rfl,g1,g2⟩:=hx;obtain⟨val,r1,r2⟩:=HB h g1 g2;exact fin r1 r2):P:=h
theorem Qv{P:Prop}(h:P:=by simp only[Array.getD_eq_getD_getElem?];rw[Array.getElem?_setIfInBounds_ne (Ne.symm h1)]):P:=h
theorem Qw{P:Prop}(h:P:=by refine⟨x,fun heq=> ?_⟩;obtain⟨p,q,r,z,u⟩:=y heq;exact⟨p,q,r,b.trans z,u⟩):P:=h
theorem Qx{P:Prop}(h:P:=by rw[hL.refs,List.all_eq_true];intro r hr;have:=hrefs r hr;exact decide_eq_true af):P:=h
theorem Qy{P:Prop}(h:P:=by refine .inl ⟨ds,out,ff,hP, ?_⟩;cases out<;>first|exact hK _ h|exact hX _ _ h):P:=h
theorem Qz{P:Prop}(h:P:=by refine ak (sD h2) rfl ?_;refine bI ?_;refine ak hkn rfl ?_;exact jW):P:=h
theorem QA{P:Prop}(h:P:=by simp only[Ef,Array.getD_eq_getD_getElem?,Array.getElem?_replicate];split<;>rfl):P:=h
theorem QB{P:Prop}(h:P:=by rw[show((hp o nx).put (bE o x.ids)).o id=_ from this]at g1;exact⟨id,g1,g2⟩):P:=h
theorem QC{P:Prop}(h:P:=by simp[H',ab.ct]at he;subst he;exact⟨Nat.le_refl _,fun _=>by simp[aI]⟩):P:=h
theorem QD{P:Prop}(h:P:=by rw[hm,hY (o:=s.o) fun id aw=>hr id (lX _ id aw)];exact WW):P:=h
theorem QE{P:Prop}(h:P:=by obtain⟨a,b,c,h⟩:=funcOf (P:=Tryz.prog) (t:=209) ai;unfold rR;rw[h]):P:=h
theorem QF{P:Prop}(h:P:=by cases y<;>simp only[D.same,Bool.false_eq_true]at h;rw[D.dJ cm _ h]):P:=h
theorem QG{P:Prop}(h:P:=by rw[if_neg e0]at h;injection h with h;injection h with h _;exact absurd h e0):P:=h
theorem QH{P:Prop}(h:P:=by subst this;refine rD hx ?_;refine aE (ba rfl) ?_;exact jW):P:=h
theorem QI{P:Prop}(h:P:=by rw[Bool.eq_iff_iff];simp only[List.all_eq_true (l:=t.kids)];exact Y5):P:=h
theorem QJ{P:Prop}(h:P:=by obtain⟨b,r,k1,k2,k3,k4,k5,k6,k7,k8,k9,k10⟩:=bf;exact adJ):P:=h
theorem QK{P:Prop}(h:P:=by obtain⟨u,us,rfl,h1,_⟩:=h;simp at hd;subst hd;exact⟨u,aH,h1⟩):P:=h
theorem QL{P:Prop}(h:P:=by rw[if_pos h3]at h;injection h with h;injection h with _ h;exact Tv):P:=h
theorem QM{P:Prop}(h:P:=by refine bH.bM _ (Nat.le_refl _) af hg (fun _ _=>rfl) ?_;exact dC):P:=h
theorem QN{P:Prop}(h:P:=by rw[m2.eq id (by omega)];unfold ext;rw[if_neg (by omega)];exact cF):P:=h
theorem QO{P:Prop}(h:P:=by intro c hx;rw[Array.getD_eq_getD_getElem?,hx]at dn;simp at dn):P:=h
theorem QP{P:Prop}(h:P:=by rw[if_neg h1]at hf;injection hf with hf;subst hf;exact xq db):P:=h
theorem QQ{P:Prop}(h:P:=by obtain⟨r,h⟩:=FU hS 12 p.2 40 (FV p hp);exact⟨_,r,h⟩):P:=h
def te(ops:Array Oper)(j:Nat):Option Tmp:=(ops[j]?).bind (·.dst)
structure bV where
 dst:Option Nat
 op:Op
 gd:Option (Nat×Bool):=none
instance:Inhabited bV:=⟨⟨none, .ready 0,none⟩⟩
def D7(n:Nat):Option Tmp->Bool
 |some d=>decide (d<n)
 |none=>true
def J5(n:Nat)(ops:Array Oper)(o:Oper):Option bV:=
 if D7 n o.dst=true then match o.guard with
  |none=>some ⟨o.dst,o.op,none⟩
  |some (j,want)=>match te ops j with
   |some d=>some ⟨o.dst,o.op,some (d,want)⟩
   |none=>none
 else none
def lj(n:Nat)(ops:Array Oper):List Oper->Option (List bV)
 |[]=>some []
 |o::l=>match J5 n ops o,lj n ops l with
  |some x,some xs=>some (x::xs)
  |_,_=>none
def tmpsOf(o:bV):List Nat:=(o.op.operands.toList.filterMap fun| .tmp t=>some t|_=>none)++(match o.gd with|some (d,_)=>[d]|none=>[])
def fg(o:bV):List Nat:=tmpsOf o++o.dst.toList
def bF(ops:Array Oper)(i:Nat):List Nat:=match ops[i]? with|some o=>(o.after.toList.filter (Region.binds .any)).map (·.on)|none=>[]
def bY(l:List bV)(i:Nat):bV:=l.getD i default
inductive IC where
 |skip|ag (l:List bV)|de (l:List bV) (pr:List (List Nat))|seq (a b:IC)|cond (c:Operand) (a b:IC)|block (id:Nat) (a:IC)|loop (a:IC)|exit (id:Nat)|ret|bad
 |Jj (g:Operand) (ps:List Nat) (a b:IC)
 deriving Inhabited
inductive jX where
 |ret|exit (id:Nat)
def jX.code:jX->Code
 | .ret=> .ret
 | .exit id=> .exit id
def lY(acc:List Nat):List Nat->Nat
 |[]=>0
 |j::ps=>(2^j|||acc.getD j 0)|||lY acc ps
def eJ:List (List Nat)->List Nat->List Nat
 |[],acc=>acc
 |ps::l,acc=>eJ l (acc++[lY acc ps])
def rS(x y:bV):Bool:=match x.dst with|some d=> !(fg y).contains d|none=>true
def zE(l:List bV)(pr:List (List Nat)):Bool:=
 (List.range l.length).all fun j=>(List.range j).all fun i=>((eJ pr []).getD j 0).testBit i||(rS (bY l i) (bY l j)&&rS (bY l j) (bY l i))
def kJ(xs ys:List Nat):Bool:=xs.all fun x=> !ys.contains x
def eS(pr:List (List Nat))(fp:List (List Nat×List Nat)):Bool:=
 (List.range fp.length).all fun j=>(List.range j).all fun i=>((eJ pr []).getD j 0).testBit i||
  (kJ (fp.getD i ([],[])).2 (fp.getD j ([],[])).1&&kJ (fp.getD i ([],[])).2 (fp.getD j ([],[])).2&&kJ (fp.getD j ([],[])).2 (fp.getD i ([],[])).1)
def gK(ops:Array Oper):List (List Nat):=(List.range ops.size).map (bF ops)
def TQ(pr:List (List Nat)):Bool:=(List.range pr.length).all fun k=>(pr.getD k []).all fun j=>decide (j<k)
theorem uV{acc:List Nat}{i:Nat}:∀ (ps:List Nat),(lY acc ps).testBit i=true->∃j∈ps,i=j\/(acc.getD j 0).testBit i=true
 |[],h=>by simp[lY]at h
 |j::ps,h=>by
  simp only[lY,Nat.testBit_or,Bool.or_eq_true]at h
  rcases h with(h|h)|h
  ·rw[Nat.testBit_two_pow]at h
   exact⟨j,aH, .inl (by have h:=of_decide_eq_true h;exact h.symm)⟩
  ·exact⟨j,aH, .inr h⟩
  ·obtain⟨j',h1,h2⟩:=uV ps h
   exact⟨j',by simp[h1],h2⟩
theorem rT{k:Nat}:∀ (l:List (List Nat)) (acc:List Nat),k<acc.length->(eJ l acc).getD k 0=acc.getD k 0
 |[],_,_=>rfl
 |ps::l,acc,h=>by
  rw[eJ,rT l _ (by simp;omega)]
  simp[List.getD_eq_getElem?_getD,List.getElem?_append_left h]
theorem rU{i:Nat}:∀ (l:List (List Nat)) (acc:List Nat) (k:Nat),acc.length<=k->(∀k',k'<l.length->∀j∈l.getD k' [],j<acc.length+k')->((eJ l acc).getD k 0).testBit i=true->
 ∃j∈l.getD (k - acc.length) [],i=j\/((eJ l acc).getD j 0).testBit i=true
 |[],acc,k,hk,_,h=>by
  simp only[eJ]at h
  rw[List.getD_eq_getElem?_getD,List.getElem?_eq_none hk]at h
  simp at h
 |ps::l,acc,k,hk,hp,h=>by
  simp only[eJ]at h|-
  by_cases he:k=acc.length
  ·subst he
   rw[rT l _ (by simp)]at h
   have e:(acc++[lY acc ps]).getD acc.length 0=lY acc ps:=by simp[List.getD_eq_getElem?_getD]
   rw[e]at h
   obtain⟨j,h1,h2⟩:=uV ps h
   refine⟨j,by simpa using h1,h2.imp id fun h2=> ?_⟩
   have hj:j<acc.length:=by simpa using hp 0 aH j (by simpa using h1)
   rw[rT l _ (by simp;omega)]
   simpa[List.getD_eq_getElem?_getD,List.getElem?_append_left hj]using h2
  ·obtain⟨j,h1,h2⟩:=rU l (acc++[lY acc ps]) k fI (fun k' HC j hj=>by
    have:=hp (k'+1) fI j mP
    simp;omega) h
   refine⟨j, ?_,h2⟩
   have e:k - acc.length=(k - (acc++[lY acc ps]).length)+1:=by simp;omega
   rw[e];simpa using h1
theorem qd{pr:List (List Nat)}(hp:∀k,k<pr.length->∀j∈pr.getD k [],j<k){E:Nat->Bool}(hE:∀k,k<pr.length->E k=true->∀j∈pr.getD k [],E j=true):
 ∀k,k<pr.length->(∀j∈pr.getD k [],E j=true)->∀i,((eJ pr []).getD k 0).testBit i=true->E i=true:=by
 intro k
 induction k using Nat.strongRecOn with
 |ind k ih=>
  intro hk hj i hi
  obtain⟨j,h1,h2⟩:=rU pr [] k aH (fun k' HC j hj=>by simpa using hp k' HC j hj) hi
  simp only[List.length_nil,Nat.sub_zero]at h1
  rcases h2 with rfl|h2
  ·exact hj _ h1
  ·have QR:=hp k hk j h1
   exact ih j QR af (hE j af (hj j h1)) i h2
theorem BE{pr:List (List Nat)}(hp:∀k,k<pr.length->∀j∈pr.getD k [],j<k):∀k,k<pr.length->∀i,((eJ pr []).getD k 0).testBit i=true->i<k:=by
 intro k
 induction k using Nat.strongRecOn with
 |ind k ih=>
  intro hk i hi
  obtain⟨j,h1,h2⟩:=rU pr [] k aH (fun k' HC j hj=>by simpa using hp k' HC j hj) hi
  simp only[List.length_nil,Nat.sub_zero]at h1
  have QR:=hp k hk j h1
  rcases h2 with rfl|h2
  ·exact QR
  ·have:=ih j QR af i h2;omega
def low(n:Nat):Code->IC
 | .skip=> .skip
 | .label _=> .skip
 | .scope c=>low n c
 | .region _ ops false=>match lj n ops ops.toList with
   |some l=> .ag l
   |none=> .bad
 | .region _ ops true=>match lj n ops ops.toList with
   |some l=>if zE l (gK ops)&&TQ (gK ops)then .de l (gK ops)else .bad
   |none=> .bad
 | .seq a b=> .seq (low n a) (low n b)
 | .cond c a b=> .cond c (low n a) (low n b)
 | .block id a=> .block id (low n a)
 | .loop a=> .loop (low n a)
 | .exit id=> .exit id
 | .ret=> .ret
 | .rangeFunc g ps a b=> .Jj g ps.toList (low n a) (low n b)
 |_=> .bad
section
inductive D where
 |int (k:IntKind) (n:Int)|bool (b:Bool)|str (s:List UInt8)
 |eT|lu|cz|dK
 |agg (cs:List D)|sl (es:List D)|iface (t:TypeId) (d:D)
 |mp (ks vs:List D)
 deriving Inhabited
def Flat(vs:List Value):Prop:=∀u∈vs,u.oneCell'=true
def gL(B:Nat->Prop)(w:World)(a:Addr)(cs:Array Value):Prop:=∀j u,cs[j]? =some u->w.cell? (a.add j)=some u/\ ¬B a.block
def iH(es:Array MapEntry)(clock:Nat):Prop:=(∀e∈es.toList,e.born<clock)/\(es.toList.map (·.born)).Nodup
def zG(ks:List D):Prop:=ks.Nodup/\∀k∈ks,∃n,k= .int .i64 n
mutual
def D.den (B:Nat->Prop)(w:World):D->Value->Prop
 | .int k n,v=>v= .int k n
 | .bool b,v=>v= .bool b
 | .str l,v=>∃s:ByteArray,v= .string s/\s.data.toList=l
 | .eT,v=>v= .nilIface
 | .lu,v=>v= .pointer none
 | .cz,v=>v= .nilFunc
 | .dK,v=>v= .map none
 | .agg cs,v=>∃a,v= .agg a/\D.aD B w cs a.toList/\Flat a.toList
 | .sl es,v=>∃base len cap,v= .slice base len cap/\len=es.length/\len<=cap/\(base=none->cap=0)/\
  ∃sz,∀a,base=some a->(cap≠0->a.spot=none)/\D.elems B w sz a 0 es
 | .iface t d,v=>∃u,v= .iface t u/\D.den B w d u
 | .mp ks vs,v=>∃m es clock p,v= .map (some m)/\w.heap[m]? =some (.map es clock)/\ ¬B m/\iH es clock/\(p=es.toList\/(p.Perm es.toList/\zG ks))/\D.aD B w ks (p.map (·.key))/\D.aD B w vs (p.map (·.val))
def D.aD (B:Nat->Prop)(w:World):List D->List Value->Prop
 |[],vs=>vs=[]
 |d::ds,vs=>∃u us,vs=u::us/\D.den B w d u/\D.aD B w ds us
def D.elems (B:Nat->Prop)(w:World)(sz:Nat)(a:Addr):Nat->List D->Prop
 |_,[]=>True
 |i,e::es=>(∃ev:Value,ev.cells.size=sz/\gL B w (a.add (i*sz)) ev.cells/\D.den B w e ev)/\D.elems B w sz a (i+1) es
end
inductive V where
 |d (x:D)|ax|agg (cs:List V)|bS (vs:List V)
 |ptr (id off:Nat)|osl (id ep:Nat)|pe (id ep i sz off:Nat)|pp (cs:List D) (off:Nat)
 |func (fn:Fn) (first cap:List V)|iface (t:TypeId) (x:V)
 |ad
 |oV (es:List D)|x4 (id off n:Nat)|mp (id:Nat)|fC|kn (id:Nat)
 deriving Inhabited
inductive ab where
 |no|row (cs:List V)|arr (ep:Nat) (ty:TypeId) (sz:Nat) (es:List D)|uo (ep:Nat) (es:List D)
 |map (kt vt:TypeId) (es:List (D×D))
 |loop (nf n:Nat) (env:List V) (ps:List Nat) (a b:IC) (st:LoopState) (HD:Option jX)
 |b7 (es:List (D×D))|rG (es:List (D×D)) (last:Option (D×D))|zH (s:List UInt8) (pos:Nat)
 deriving Inhabited
def aY(l:List V):Nat->V:=fun i=>l.getD i .ad
structure Hp where
 o:Nat->ab
 us:Nat->Prop
def ab.ct:ab->Option Nat
 | .arr ep _ _ _| .uo ep _=>some ep
 |_=>none
def ab.cu:ab->Bool
 | .row _| .map .. | .loop .. | .b7 _| .rG .. | .zH .. =>true
 |_=>false
def ab.live:ab->Bool
 | .row _| .arr .. | .map .. | .loop .. | .rG .. | .zH .. =>true
 |_=>false
def ej:Value->Option Nat
 | .pointer (some a)| .slice (some a) _ _=>some a.block
 | .map (some b)=>some b
 |_=>none
abbrev Place:=Nat->Value
def cD(φ:Place)(H:Hp)(b:Nat):Prop:=∃id,(H.o id).live=true/\ej (φ id)=some b
def aq(M:Nat->Prop)(φ:Place)(H:Hp)(b:Nat):Prop:=M b\/cD φ H b
mutual
def V.den (B:Nat->Prop)(φ:Place)(H:Hp)(w:World):V->Value->Prop
 | .d x,v=>D.den B w x v
 | .ax,v=>v= .slice none 0 0
 | .agg cs,v=>∃a,v= .agg a/\V.aD B φ H w cs a.toList/\Flat a.toList
 | .bS vs,v=>∃a,v= .tuple a/\V.aD B φ H w vs a.toList
 | .ptr id off,v=>v.oneCell'=true/\H.us id/\((H.o id).cu=true->∃b,φ id= .pointer (some ⟨b,0,none⟩)/\v= .pointer (some ⟨b,off,none⟩))
 | .osl id ep,v=>v.oneCell'=true/\H.us id/\∀e,(H.o id).ct=some e->ep<=e/\(ep=e->v=φ id)
 | .pe id ep i sz off,v=>v.oneCell'=true/\H.us id/\∀e,(H.o id).ct=some e->ep<=e/\(ep=e->∃b n c,φ id= .slice (some ⟨b,0,none⟩) n c/\v= .pointer (some ⟨b,i*sz+off,none⟩))
 | .pp cs off,v=>∃a ev,a.spot=none/\v= .pointer (some (a.add off))/\D.aD B w cs ev/\Flat ev/\gL B w a ev.toArray
 | .func fn first cap,v=>∃f c,v= .func fn f c/\V.aD B φ H w first f.toList/\V.aD B φ H w cap c.toList
 | .iface t x,v=>∃u,v= .iface t u/\V.den B φ H w x u
 | .ad,_=>True
 | .oV es,v=>D.den B w (.sl es) v/\∃base n,v= .slice base n n
 | .x4 id off n,v=>v.oneCell'=true/\H.us id/\((H.o id).cu=true->∃b,φ id= .pointer (some ⟨b,0,none⟩)/\v= .slice (some ⟨b,off,none⟩) n n)
 | .mp id,v=>v.oneCell'=true/\H.us id/\((H.o id).cu=true->v=φ id)
 | .fC,v=>∃b,v= .bool b
 | .kn id,v=>v.oneCell'=true/\H.us id/\((H.o id).cu=true->∃b,φ id= .pointer (some ⟨b,0,none⟩)/\v= .func (.yield b) #[] #[])
def V.aD (B:Nat->Prop)(φ:Place)(H:Hp)(w:World):List V->List Value->Prop
 |[],vs=>vs=[]
 |x::xs,vs=>∃u us,vs=u::us/\V.den B φ H w x u/\V.aD B φ H w xs us
end
def eH(B:Nat->Prop)(w:World)(sz:Nat)(es:List D)(xs:List Value):Prop:=
 ∃evs:List Value,xs=evs.flatMap (·.cells.toList)/\(∀ev∈evs,ev.cells.size=sz)/\D.aD B w es evs
def aK(B:Nat->Prop)(w:World):List (D×D)->List MapEntry->Prop
 |[],es=>es=[]
 |(k,x)::l,es=>∃e es',es=e::es'/\D.den B w k e.key/\D.den B w x e.val/\aK B w l es'
def zI(B:Nat->Prop)(w:World)(l:List (D×D))(last:Option (D×D))(b:Nat):Prop:=
 w.heap[b]? =some (.mapIter none 0 #[] 0)/\l=[]/\last=none\/
 ∃m since seen es,w.heap[b]? =some (.mapIter (some m) since seen since)/\w.heap[m]? =some (.map es since)/\ ¬B m/\iH es since/\(∃l',l'.Perm l/\aK B w l' (es.toList.filter fun e=> !seen.contains e.born))/\
  ∀k x,last=some (k,x)->∃e∈es.toList,seen.back?=some e.born/\D.den B w k e.key/\D.den B w x e.val
def kK(B:Nat->Prop)(w:World)(l:List (D×D))(v:Value):Prop:=
 ∃b es clock,v= .map (some b)/\w.heap[b]? =some (.map es clock)/\ ¬B b/\iH es clock/\aK B w l es.toList
def aR(M:Nat->Prop)(φ:Place)(H:Hp)(w:World)(id:Nat):Prop:=
 match H.o id with
 | .no=>True
 | .row cs=>∃b dV ty,φ id= .pointer (some ⟨b,0,none⟩)/\w.heap[b]? =some (.cells dV ty (0,0))/\V.aD (aq M φ H) φ H w cs dV.toList/\Flat dV.toList
 | .arr _ ty sz es=>0<sz/\∃xs,w.ownsRow 0 ty sz (φ id) es.length xs/\eH (aq M φ H) w sz es xs
 | .uo _ es=>D.den (aq M φ H) w (.sl es) (φ id)
 | .loop nf n env ps jE fh st HD=>∃b r,φ id= .pointer (some ⟨b,0,none⟩)/\w.heap[b]? =some (.loop r)/\r.fn<nf/\r.state=st/\r.pending=HD.map jX.code/\r.params.toList=ps/\r.tmps.size=n/\low n r.assign=jE/\low n r.body=fh/\
  ∀i,V.den (aq M φ H) φ H w (aY env i) (r.tmps.getD i undef)
 | .map _ _ l=>∃b es clock,φ id= .map (some b)/\w.heap[b]? =some (.map es clock)/\iH es clock/\aK (aq M φ H) w l es.toList
 | .b7 l=>kK (aq M φ H) w l (φ id)
 | .rG l last=>∃b,φ id= .pointer (some ⟨b,0,none⟩)/\zI (aq M φ H) w l last b
 | .zH s pos=>∃b,φ id= .pointer (some ⟨b,0,none⟩)/\w.heap[b]? =some (.stringIter ⟨⟨s⟩⟩ pos)
structure az (M:Nat->Prop) (φ:Place) (H:Hp) (w:World):Prop where
 ok:∀id,aR M φ H w id
 fresh:∀id, ¬H.us id->H.o id= .no
 apart:∀i j b,(H.o i).live=true->(H.o j).live=true->ej (φ i)=some b->ej (φ j)=some b->i=j
 ours:∀b,cD φ H b-> ¬M b/\b<w.heap.size
 Bi:∀b,M b->b<w.heap.size
structure eo (m:Nat->Prop) (w w':World):Prop where
 os:w'.os=w.os
 tape:w'.tape=w.tape
 output:w'.output=w.output
 size:w.heap.size<=w'.heap.size
 block:∀k,k<w.heap.size-> ¬m k->w'.heap[k]? =w.heap[k]?
structure dW (φ:Place) (H:Hp) (aI:Place) (H':Hp):Prop where
 us:∀id,H.us id->H'.us id
 row:∀id,H.us id->(H'.o id).cu=true->(H.o id).cu=true/\aI id=φ id
 ep:∀id e',H.us id->(H'.o id).ct=some e'->∃e,(H.o id).ct=some e/\e<=e'/\(e=e'->aI id=φ id)
structure Trans (φ:Place) (H:Hp) (w:World) (aI:Place) (H':Hp) (w':World):Prop where
 cG:eo (cD φ H) w w'
 grow:∀b,cD aI H' b->cD φ H b\/w.heap.size<=b
 rel:dW φ H aI H'
theorem eo.refl (m:Nat->Prop)(w:World):eo m w w:=⟨rfl,rfl,rfl,Nat.le_refl _,fun _ _ _=>rfl⟩
theorem dW.refl (φ:Place)(H:Hp):dW φ H φ H:=⟨fun _ h=>h,fun _ _ h=>⟨h,rfl⟩,fun _ e' _ h=>⟨e',h,Nat.le_refl _,fun _=>rfl⟩⟩
theorem Trans.refl (φ:Place)(H:Hp)(w:World):Trans φ H w φ H w:=⟨eo.refl _ _,fun _ h=> .inl h,dW.refl _ _⟩
theorem dW.trans {φ aI D8:Place}{H H' ZI:Hp}(h:dW φ H aI H')(k:dW aI H' D8 ZI):dW φ H D8 ZI where
 us id aw:=k.us id (h.us id aw)
 row id aw hr:=by
  obtain⟨a,b⟩:=k.row id (h.us id aw) hr
  obtain⟨c,d⟩:=h.row id aw a
  exact⟨c,b.trans d⟩
 ep id e' aw he:=by
  obtain⟨e,h1,h2,h3⟩:=k.ep id e' (h.us id aw) he
  obtain⟨e0,g1,g2,g3⟩:=h.ep id e aw h1
  refine⟨e0,g1,Nat.le_trans g2 h2,fun heq=> ?_⟩
  have a:e0=e:=af
  have b:e=e':=af
  exact(h3 b).trans (g3 a)
theorem Trans.trans {φ aI D8:Place}{H H' ZI:Hp}{w w' Tx:World}(h:Trans φ H w aI H' w')(k:Trans aI H' w' D8 ZI Tx):Trans φ H w D8 ZI Tx where
 cG:={
  os:=k.cG.os.trans h.cG.os
  tape:=k.cG.tape.trans h.cG.tape
  output:=k.cG.output.trans h.cG.output
  size:=Nat.le_trans h.cG.size k.cG.size
  block:=fun b hb hm=>by
   rw[k.cG.block b (Nat.lt_of_lt_of_le hb h.cG.size) (fun hl=>by
    rcases h.grow b hl with h1|h1
    ·exact hm h1
    ·omega),h.cG.block b hb hm]}
 grow b hl:=by
  rcases k.grow b hl with h1|h1
  ·exact h.grow b h1
  ·exact .inr (Nat.le_trans h.cG.size h1)
 rel:=h.rel.trans k.rel
@[simp] theorem WX (a:Addr) (j:Nat):(a.add j).block=a.block:=by unfold Addr.add;split<;>rfl
def qe(w:World)(b:Nat):Prop:=∃cs ty fz,w.heap[b]? =some (.cells cs ty fz)
def cY(w:World)(b:Nat):Prop:=qe w b\/∃es clock,w.heap[b]? =some (.map es clock)
theorem cY.lt {w:World}{b:Nat}(h:cY w b):b<w.heap.size:=by
 rcases Nat.lt_or_ge b w.heap.size with hl|hl
 ·exact hl
 ·rcases h with⟨cs,ty,fz,h⟩|⟨es,clock,h⟩
  ·rw[Array.getElem?_eq_none hl]at h;cases h
  ·rw[Array.getElem?_eq_none hl]at h;cases h
theorem oW{w:World}{a:Addr}{u:Value}(h:w.cell? a=some u):qe w a.block:=by
 unfold World.cell? at h
 split at h
 ·exact⟨_,_,_,by assumption⟩
 ·cases h
theorem tR{w:World}{a:Addr}{u:Value}(h:w.cell? a=some u):cY w a.block:= .inl (oW h)
theorem gL.mono {B B':Nat->Prop}{w w':World}{a:Addr}{cs:Array Value}
 (hb:∀b,cY w b-> ¬B b->w'.heap[b]? =w.heap[b]? /\ ¬B' b) (h:gL B w a cs):gL B' w' a cs:=by
 intro j u hj
 obtain⟨h1,h2⟩:=h j u hj
 have ck:cY w a.block:=by simpa using tR h1
 exact Zm
mutual
theorem D.aT {B B':Nat->Prop}{w w':World}(hb:∀b,cY w b-> ¬B b->w'.heap[b]? =w.heap[b]? /\ ¬B' b):
 ∀ (x:D) (v:Value),D.den B w x v->D.den B' w' x v
 | .int _ _,_,h| .bool _,_,h| .str _,_,h| .eT,_,h| .lu,_,h| .cz,_,h| .dK,_,h=>by simpa[D.den]using h
 | .agg cs,_,h=>by
   obtain⟨a,rfl,h,hf⟩:=h
   exact⟨a,rfl,D.aU hb cs _ h,hf⟩
 | .sl es,_,h=>by
   obtain⟨base,len,cap,rfl,h1,h2,h3,sz,h4⟩:=h
   exact⟨base,len,cap,rfl,h1,h2,h3,sz,fun a ha=>⟨(h4 a ha).1,D.uW hb sz a es 0 (h4 a ha).2⟩⟩
 | .iface t d,_,h=>by
   obtain⟨u,rfl,h⟩:=h
   exact⟨u,rfl,D.aT hb d u h⟩
 | .mp ks vs,_,h=>by
   obtain⟨m,es,clock,p,rfl,h1,h2,h3,hp,h4,h5⟩:=h
   obtain⟨k1,k2⟩:=hb m (.inr ⟨es,clock,h1⟩) h2
   exact⟨m,es,clock,p,rfl,k1.trans h1,k2,h3,hp,D.aU hb ks _ h4,D.aU hb vs _ h5⟩
theorem D.aU {B B':Nat->Prop}{w w':World}(hb:∀b,cY w b-> ¬B b->w'.heap[b]? =w.heap[b]? /\ ¬B' b):
 ∀ (ds:List D) (vs:List Value),D.aD B w ds vs->D.aD B' w' ds vs
 |[],_,h=>h
 |d::ds,_,h=>by
  obtain⟨u,us,rfl,h1,h2⟩:=h
  exact⟨u,us,rfl,D.aT hb d u h1,D.aU hb ds us h2⟩
theorem D.uW {B B':Nat->Prop}{w w':World}(hb:∀b,cY w b-> ¬B b->w'.heap[b]? =w.heap[b]? /\ ¬B' b)(sz:Nat)(a:Addr):
 ∀ (es:List D) (i:Nat),D.elems B w sz a i es->D.elems B' w' sz a i es
 |[],_,_=>trivial
 |e::es,i,h=>by
  obtain⟨⟨ev,h1,h2,h3⟩,h4⟩:=h
  exact⟨⟨ev,h1,h2.mono hb,D.aT hb e ev h3⟩,D.uW hb sz a es (i+1) h4⟩
end
theorem aK.mono {B B':Nat->Prop}{w w':World}(hb:∀b,cY w b-> ¬B b->w'.heap[b]? =w.heap[b]? /\ ¬B' b):
 ∀ (l:List (D×D)) (es:List MapEntry),aK B w l es->aK B' w' l es
 |[],_,h=>h
 |(k,x)::l,_,h=>by
  obtain⟨e,es,rfl,h1,h2,h3⟩:=h
  exact⟨e,es,rfl,D.aT hb k _ h1,D.aT hb x _ h2,aK.mono hb l es h3⟩
theorem zI.mono {B B':Nat->Prop}{w w':World}(hb:∀b,cY w b-> ¬B b->w'.heap[b]? =w.heap[b]? /\ ¬B' b){l:List (D×D)}{last:Option (D×D)}{b:Nat}(QS:w'.heap[b]? =w.heap[b]?)(h:zI B w l last b):zI B' w' l last b:=by
 rcases h with⟨h1,h2⟩|⟨m,since,seen,es,h1,h2,h3,h4,h5,h6⟩
 ·exact .inl ⟨QS.trans h1,h2⟩
 ·obtain⟨k1,k2⟩:=hb m (.inr ⟨es,since,h2⟩) h3
  obtain⟨l',h5,tS⟩:=h5
  refine .inr ⟨m,since,seen,es,QS.trans h1,k1.trans h2,k2,h4,⟨l',h5,aK.mono hb l' _ tS⟩,fun k x e=> ?_⟩
  obtain⟨e,g1,g2,g3,g4⟩:=h6 k x e
  exact⟨e,g1,g2,D.aT hb k _ g3,D.aT hb x _ g4⟩
theorem ly{B:Nat->Prop}{w:World}:∀ (l:List (D×D)) (es:List MapEntry),aK B w l es↔D.aD B w (l.map (·.1)) (es.map (·.key))/\D.aD B w (l.map (·.2)) (es.map (·.val))
 |[],es=>by
  simp only[aK,List.map_nil,D.aD]
  constructor
  ·rintro rfl;exact⟨rfl,rfl⟩
  ·rintro⟨h,_⟩;simpa using h
 |(k,x)::l,es=>by
  simp only[aK,List.map_cons,D.aD]
  constructor
  ·rintro⟨e,es',rfl,h1,h2,h3⟩
   obtain⟨g1,g2⟩:=(ly l es').1 h3
   exact⟨⟨_,_,rfl,h1,g1⟩,⟨_,_,rfl,h2,g2⟩⟩
  ·rintro⟨⟨u,us,h1,h2,h3⟩,⟨v,vs,h4,h5,h6⟩⟩
   cases es with
   |nil=>simp at h1
   |cons e es'=>
    simp only[List.map_cons,List.cons.injEq]at h1 h4
    obtain⟨rfl,rfl⟩:=h1
    obtain⟨rfl,rfl⟩:=h4
    exact⟨e,es',rfl,h2,h5,(ly l es').2 ⟨h3,h6⟩⟩
theorem kK.den {B:Nat->Prop}{w:World}{l:List (D×D)}{v:Value}(h:kK B w l v):D.den B w (.mp (l.map (·.1)) (l.map (·.2))) v:=by
 obtain⟨b,es,clock,h1,h2,h3,h4,h5⟩:=h
 obtain⟨h6,h7⟩:=(ly _ _).1 h5
 exact⟨b,es,clock,es.toList,h1,h2,h3,h4, .inl rfl,h6,h7⟩
theorem kK.mono {B B':Nat->Prop}{w w':World}(hb:∀b,cY w b-> ¬B b->w'.heap[b]? =w.heap[b]? /\ ¬B' b){l:List (D×D)}{v:Value}(h:kK B w l v):kK B' w' l v:=by
 obtain⟨b,es,clock,h1,h2,h3,h4,h5⟩:=h
 obtain⟨k1,k2⟩:=hb b (.inr ⟨es,clock,h2⟩) h3
 exact⟨b,es,clock,h1,k1.trans h2,k2,h4,aK.mono hb l _ h5⟩
theorem D.aB {B:Nat->Prop}{w:World}:∀ (ds:List D) (vs:List Value),D.aD B w ds vs->vs.length=ds.length
 |[],_,h=>by simp[D.aD]at h;simp[h]
 |d::ds,_,h=>by obtain⟨u,us,rfl,_,h2⟩:=h;simp[D.aB ds us h2]
theorem D.dp {B:Nat->Prop}{w:World}:∀ (ds:List D) (vs:List Value) (i:Nat) (d:D),D.aD B w ds vs->ds[i]? =some d->∃v,vs[i]? =some v/\D.den B w d v
 |[],_,_,_,_,hd=>by simp at hd
 |d::ds,_,0,x,h,hd=>by
  exact QK
 |d::ds,_,i+1,x,h,hd=>by
  obtain⟨u,us,rfl,_,h2⟩:=h
  simpa using D.dp ds us i x h2 (by simpa using hd)
theorem D.x5 {B:Nat->Prop}{w:World}{sz:Nat}{a:Addr}:∀ (es:List D) (i j:Nat) (e:D),D.elems B w sz a i es->es[j]? =some e->
 ∃ev:Value,ev.cells.size=sz/\gL B w (a.add ((i+j)*sz)) ev.cells/\D.den B w e ev
 |[],_,_,_,_,hd=>by simp at hd
 |e::es,i,0,x,h,hd=>by
  simp at hd;subst hd;simpa using h.1
 |e::es,i,j+1,x,h,hd=>by
  have:=D.x5 es (i+1) j x h.2 (by simpa using hd)
  simpa[Nat.add_assoc,Nat.add_comm 1 j]using this
section
variable {M:Nat->Prop}{φ aI:Place}{H H':Hp}{w w':World}
theorem Trans.blocks (ht:Trans φ H w aI H' w')(b:Nat)(hc:cY w b)(h: ¬aq M φ H b):w'.heap[b]? =w.heap[b]? /\ ¬aq M aI H' b:=by
 have hb:=hc.lt
 refine⟨ht.cG.block b hb fun hl=>h (.inr hl), ?_⟩
 rintro(h1|h1)
 ·exact h (.inl h1)
 ·rcases ht.grow b h1 with h2|h2
  ·exact h (.inr h2)
  ·omega
mutual
theorem V.lz (hb:∀b,cY w b-> ¬aq M φ H b->w'.heap[b]? =w.heap[b]? /\ ¬aq M aI H' b)(hr:dW φ H aI H'):∀ (x:V) (v:Value),V.den (aq M φ H) φ H w x v->V.den (aq M aI H') aI H' w' x v
 | .d x,v,h=>D.aT hb x v h
 | .ax,_,h=>h
 | .ad,_,_=>trivial
 | .oV es,v,h=>⟨D.aT hb (.sl es) v h.1,h.2⟩
 | .x4 id off n,v,h=>by
   exact zw5
 | .mp id,v,h=>by
   obtain⟨h0,h1,h2⟩:=h
   refine⟨h0,hr.us id h1,fun cV=> ?_⟩
   obtain⟨h3,h4⟩:=hr.row id h1 cV
   exact(h2 h3).trans h4.symm
 | .fC,v,h=>h
 | .kn id,v,h=>by
   exact zw5
 | .agg cs,_,h=>by obtain⟨a,rfl,h,hf⟩:=h;exact⟨a,rfl,V.fV hb hr cs _ h,hf⟩
 | .bS cs,_,h=>by obtain⟨a,rfl,h⟩:=h;exact⟨a,rfl,V.fV hb hr cs _ h⟩
 | .ptr id off,v,h=>by
   exact zw5
 | .osl id ep,v,h=>by
   exact Zb
 | .pe id ep i sz off,v,h=>by
   exact Zb
 | .pp cs off,v,h=>by
   obtain⟨a,ev,h1,h2,h3,h5,h4⟩:=h
   exact⟨a,ev,h1,h2,D.aU hb cs ev h3,h5,h4.mono hb⟩
 | .func fn first cap,_,h=>by
   obtain⟨f,c,rfl,h1,h2⟩:=h
   exact⟨f,c,rfl,V.fV hb hr first _ h1,V.fV hb hr cap _ h2⟩
 | .iface t x,_,h=>by obtain⟨u,rfl,h⟩:=h;exact⟨u,rfl,V.lz hb hr x u h⟩
theorem V.fV (hb:∀b,cY w b-> ¬aq M φ H b->w'.heap[b]? =w.heap[b]? /\ ¬aq M aI H' b)(hr:dW φ H aI H'):∀ (ds:List V) (vs:List Value),V.aD (aq M φ H) φ H w ds vs->V.aD (aq M aI H') aI H' w' ds vs
 |[],_,h=>h
 |x::xs,_,h=>by
  obtain⟨u,us,rfl,h1,h2⟩:=h
  exact⟨u,us,rfl,V.lz hb hr x u h1,V.fV hb hr xs us h2⟩
end
theorem V.aT (ht:Trans φ H w aI H' w')(x:V)(v:Value)(h:V.den (aq M φ H) φ H w x v):V.den (aq M aI H') aI H' w' x v:=V.lz ht.blocks ht.rel x v h
theorem V.aU (ht:Trans φ H w aI H' w')(ds:List V)(vs:List Value)(h:V.aD (aq M φ H) φ H w ds vs):V.aD (aq M aI H') aI H' w' ds vs:=V.fV ht.blocks ht.rel ds vs h
end
end
end Go.Proofs.YtlhemmpklhhgoaaGreat
