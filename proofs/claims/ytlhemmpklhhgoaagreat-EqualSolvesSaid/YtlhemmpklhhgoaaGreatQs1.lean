/-
  A PART OF THE PROOF. Conditions: none.
-/
import Derived.WalkKit
import Derived.Below
set_option linter.unusedSimpArgs false
set_option linter.unusedVariables false
namespace Go.Proofs.YtlhemmpklhhgoaaGreat
theorem bW{G G':Prop}(g:G')(h:G=G':=by simp+contextual (disch:=first|omega|simp only[go_sem,false_implies]) only[go_sem,wrap64,if_pos,and_self]<;>rfl):G:=Eq.mpr h g
theorem kR{G G':Prop}(g:G')(h:G=G':=by simp+contextual (disch:=first|omega|simp only[go_sem,false_implies]) only[go_sem,wrap64,if_pos,Nat.add_assoc,Nat.left_eq_add,Nat.add_eq_left,Nat.add_left_cancel_iff]<;>rfl):G:=Eq.mpr h g
theorem pK{G:Prop}(h:G:=by simp+contextual (disch:=first|omega|simp only[go_sem,false_implies]) only[go_sem,wrap64,if_pos,and_self]):G:=h
theorem sF{P0 G G':Prop}(p0:P0)(g:G')(h:P0->G=G':=by intro p0;simp+contextual (disch:=first|omega|simp only[go_sem,false_implies]) only[go_sem,wrap64,if_pos,List.length_map,p0]<;>rfl):G:=Eq.mpr (h p0) g
theorem pP{P0 G G':Prop}(p0:P0)(g:G')(h:P0->G=G':=by intro p0;simp+contextual (disch:=first|omega|simp only[go_sem,false_implies]) only[go_sem,wrap64,if_pos,p0]<;>rfl):G:=Eq.mpr (h p0) g
theorem sG{G G':Prop}(g:G')(h:G=G':=by simp+contextual (disch:=first|omega|simp only[go_sem,false_implies]) only[go_sem,wrap64,if_pos,List.length_map]<;>rfl):G:=Eq.mpr h g
theorem C9{P0 P1 P2 P3 G G':Prop}(p0:P0)(p1:P1)(p2:P2)(p3:P3)(g:G')(h:P0->P1->P2->P3->G=G':=by intro p0 p1 p2 p3;simp+contextual (disch:=first|omega|simp only[go_sem,false_implies]) only[go_sem,wrap64,if_pos,Nat.add_assoc,Nat.left_eq_add,Nat.add_eq_left,Nat.add_left_cancel_iff,p0,p1,p2,p3]<;>rfl):G:=Eq.mpr (h p0 p1 p2 p3) g
theorem Ir{P0 P1 P2 P3 P4 P5 G G':Prop}(p0:P0)(p1:P1)(p2:P2)(p3:P3)(p4:P4)(p5:P5)(g:G')(h:P0->P1->P2->P3->P4->P5->G=G':=by intro p0 p1 p2 p3 p4 p5;simp+contextual (disch:=first|omega|simp only[go_sem,false_implies]) only[go_sem,wrap64,if_pos,Nat.add_assoc,Nat.left_eq_add,Nat.add_eq_left,Nat.add_left_cancel_iff,List.length_map,p0,p1,p2,p3,p4,p5]<;>rfl):G:=Eq.mpr (h p0 p1 p2 p3 p4 p5) g
theorem cB{G G':Prop}(g:G')(h:G=G':=by simp+contextual only[go_sem]<;>rfl):G:=Eq.mpr h g
theorem GH{P0 P1 G G':Prop}(p0:P0)(p1:P1)(g:G')(h:P0->P1->G=G':=by intro p0 p1;simp+contextual (disch:=first|omega|simp only[go_sem,false_implies]) only[go_sem,wrap64,if_pos,List.length_map,p0,p1]<;>rfl):G:=Eq.mpr (h p0 p1) g
theorem rk{P0 P1 G G':Prop}(p0:P0)(p1:P1)(g:G')(h:P0->P1->G=G':=by intro p0 p1;simp+contextual (disch:=first|omega|simp only[go_sem,false_implies]) only[go_sem,wrap64,if_pos,p0,p1]<;>rfl):G:=Eq.mpr (h p0 p1) g
theorem uu{P0 P1 P2 G G':Prop}(p0:P0)(p1:P1)(p2:P2)(g:G')(h:P0->P1->P2->G=G':=by intro p0 p1 p2;simp+contextual (disch:=first|omega|simp only[go_sem,false_implies]) only[go_sem,wrap64,if_pos,List.length_map,p0,p1,p2]<;>rfl):G:=Eq.mpr (h p0 p1 p2) g
theorem GI{P0 P1 P2 P3 G G':Prop}(p0:P0)(p1:P1)(p2:P2)(p3:P3)(g:G')(h:P0->P1->P2->P3->G=G':=by intro p0 p1 p2 p3;simp+contextual (disch:=first|omega|simp only[go_sem,false_implies]) only[go_sem,wrap64,if_pos,List.length_map,Nat.add_assoc,Nat.left_eq_add,Nat.add_eq_left,Nat.add_left_cancel_iff,p0,p1,p2,p3]<;>rfl):G:=Eq.mpr (h p0 p1 p2 p3) g
theorem GJ{P0 G G':Prop}(p0:P0)(g:G')(h:P0->G=G':=by intro p0;simp+contextual (disch:=first|omega|simp only[go_sem,false_implies]) only[go_sem,wrap64,if_pos,Nat.add_assoc,Nat.left_eq_add,Nat.add_eq_left,Nat.add_left_cancel_iff,p0]<;>rfl):G:=Eq.mpr (h p0) g
theorem Ax{P0 P1 P2 P3 G G':Prop}(p0:P0)(p1:P1)(p2:P2)(p3:P3)(g:G')(h:P0->P1->P2->P3->G=G':=by intro p0 p1 p2 p3;simp+contextual (disch:=first|omega|simp only[go_sem,false_implies]) only[go_sem,wrap64,if_pos,List.length_map,p0,p1,p2,p3]<;>rfl):G:=Eq.mpr (h p0 p1 p2 p3) g
theorem Da{P0 P1 P2 P3 P4 G G':Prop}(p0:P0)(p1:P1)(p2:P2)(p3:P3)(p4:P4)(g:G')(h:P0->P1->P2->P3->P4->G=G':=by intro p0 p1 p2 p3 p4;simp+contextual (disch:=first|omega|simp only[go_sem,false_implies]) only[go_sem,wrap64,if_pos,List.length_map,p0,p1,p2,p3,p4]<;>rfl):G:=Eq.mpr (h p0 p1 p2 p3 p4) g
theorem Mp{P0 P1 G G':Prop}(p0:P0)(p1:P1)(g:G')(h:P0->P1->G=G':=by intro p0 p1;simp+contextual (disch:=first|omega|simp only[go_sem,false_implies]) only[go_sem,wrap64,if_pos,Nat.add_assoc,Nat.left_eq_add,Nat.add_eq_left,Nat.add_left_cancel_iff,p0,p1]<;>rfl):G:=Eq.mpr (h p0 p1) g
theorem RJ{P0 P1 P2 P3 P4 G G':Prop}(p0:P0)(p1:P1)(p2:P2)(p3:P3)(p4:P4)(g:G')(h:P0->P1->P2->P3->P4->G=G':=by intro p0 p1 p2 p3 p4;simp+contextual (disch:=first|omega|simp only[go_sem,false_implies]) only[go_sem,wrap64,if_pos,List.take_length,List.length_map,List.length_take,List.length_drop,List.length_append,List.length_cons,List.length_nil,p0,p1,p2,p3,p4]<;>rfl):G:=Eq.mpr (h p0 p1 p2 p3 p4) g
theorem RK{P0 P1 P2 G G':Prop}(p0:P0)(p1:P1)(p2:P2)(g:G')(h:P0->P1->P2->G=G':=by intro p0 p1 p2;simp+contextual (disch:=first|omega|simp only[go_sem,false_implies]) only[go_sem,wrap64,if_pos,List.take_length,List.length_map,List.length_take,List.length_drop,List.length_append,List.length_cons,List.length_nil,p0,p1,p2]<;>rfl):G:=Eq.mpr (h p0 p1 p2) g
theorem IM{P0 G:Prop}(p0:P0)(h:P0->G:=by intro p0;simp+contextual (disch:=first|omega|simp only[go_sem,false_implies]) only[go_sem,wrap64,if_pos,List.length_map,p0]):G:=h p0
theorem Db{P0 G:Prop}(p0:P0)(h:P0->G:=by intro p0;simp+contextual (disch:=first|omega|simp only[go_sem,false_implies]) only[go_sem,wrap64,if_pos,p0]):G:=h p0
theorem IP{G G':Prop}(g:G')(h:G=G':=by simp+contextual (disch:=first|omega|simp only[go_sem,false_implies]) only[go_sem,wrap64,if_pos,List.length_map,beq_self_eq_true]<;>rfl):G:=Eq.mpr h g
theorem GK{P0 P1 P2 P3 P4 P5 G G':Prop}(p0:P0)(p1:P1)(p2:P2)(p3:P3)(p4:P4)(p5:P5)(g:G')(h:P0->P1->P2->P3->P4->P5->G=G':=by intro p0 p1 p2 p3 p4 p5;simp+contextual (disch:=first|omega|simp only[go_sem,false_implies]) only[go_sem,wrap64,if_pos,p0,p1,p2,p3,p4,p5]<;>rfl):G:=Eq.mpr (h p0 p1 p2 p3 p4 p5) g
theorem RL{P0 G G':Prop}(p0:P0)(g:G')(h:P0->G=G':=by intro p0;simp+contextual (disch:=first|omega|simp only[go_sem,false_implies]) only[go_sem,wrap64,if_pos,O1,O3,Nat.add_assoc,Nat.left_eq_add,Nat.add_eq_left,Nat.add_left_cancel_iff,List.length_map,p0]<;>rfl):G:=Eq.mpr (h p0) g
theorem RM{P0 P1 P2 P3 P4 P5 P6 P7 G G':Prop}(p0:P0)(p1:P1)(p2:P2)(p3:P3)(p4:P4)(p5:P5)(p6:P6)(p7:P7)(g:G')(h:P0->P1->P2->P3->P4->P5->P6->P7->G=G':=by intro p0 p1 p2 p3 p4 p5 p6 p7;simp+contextual (disch:=first|omega|simp only[go_sem,false_implies]) only[go_sem,wrap64,if_pos,List.length_map,Nat.add_assoc,Nat.left_eq_add,Nat.add_eq_left,Nat.add_left_cancel_iff,p0,p1,p2,p3,p4,p5,p6,p7]<;>rfl):G:=Eq.mpr (h p0 p1 p2 p3 p4 p5 p6 p7) g
theorem RN{P0 P1 P2 P3 P4 P5 P6 G G':Prop}(p0:P0)(p1:P1)(p2:P2)(p3:P3)(p4:P4)(p5:P5)(p6:P6)(g:G')(h:P0->P1->P2->P3->P4->P5->P6->G=G':=by intro p0 p1 p2 p3 p4 p5 p6;simp+contextual (disch:=first|omega|simp only[go_sem,false_implies]) only[go_sem,wrap64,if_pos,List.length_map,Nat.add_assoc,Nat.left_eq_add,Nat.add_eq_left,Nat.add_left_cancel_iff,p0,p1,p2,p3,p4,p5,p6]<;>rfl):G:=Eq.mpr (h p0 p1 p2 p3 p4 p5 p6) g
theorem RP{P0 P1 P2 P3 P4 G G':Prop}(p0:P0)(p1:P1)(p2:P2)(p3:P3)(p4:P4)(g:G')(h:P0->P1->P2->P3->P4->G=G':=by intro p0 p1 p2 p3 p4;simp+contextual (disch:=first|omega|simp only[go_sem,false_implies]) only[go_sem,wrap64,if_pos,Nat.add_assoc,Nat.left_eq_add,Nat.add_eq_left,Nat.add_left_cancel_iff,List.length_map,p0,p1,p2,p3,p4]<;>rfl):G:=Eq.mpr (h p0 p1 p2 p3 p4) g
theorem RQ{P0 P1 P2 P3 P4 P5 P6 P7 P8 G G':Prop}(p0:P0)(p1:P1)(p2:P2)(p3:P3)(p4:P4)(p5:P5)(p6:P6)(p7:P7)(p8:P8)(g:G')(h:P0->P1->P2->P3->P4->P5->P6->P7->P8->G=G':=by intro p0 p1 p2 p3 p4 p5 p6 p7 p8;simp+contextual (disch:=first|omega|simp only[go_sem,false_implies]) only[go_sem,wrap64,if_pos,Nat.add_assoc,Nat.left_eq_add,Nat.add_eq_left,Nat.add_left_cancel_iff,p0,p1,p2,p3,p4,p5,p6,p7,p8]<;>rfl):G:=Eq.mpr (h p0 p1 p2 p3 p4 p5 p6 p7 p8) g
theorem RR{P0 P1 P2 P3 P4 G G':Prop}(p0:P0)(p1:P1)(p2:P2)(p3:P3)(p4:P4)(g:G')(h:P0->P1->P2->P3->P4->G=G':=by intro p0 p1 p2 p3 p4;simp+contextual (disch:=first|omega|simp only[go_sem,false_implies]) only[go_sem,wrap64,if_pos,fx,Nat.add_assoc,Nat.left_eq_add,Nat.add_eq_left,Nat.add_left_cancel_iff,p0,p1,p2,p3,p4]<;>rfl):G:=Eq.mpr (h p0 p1 p2 p3 p4) g
theorem Mq{G:Prop}(h:G:=by simp+contextual (disch:=first|omega|simp only[go_sem,false_implies]) only[go_sem,wrap64,if_pos,List.length_map,beq_self_eq_true]):G:=h
theorem RS{P0 P1 P2 G G':Prop}(p0:P0)(p1:P1)(p2:P2)(g:G')(h:P0->P1->P2->G=G':=by intro p0 p1 p2;simp+contextual (disch:=first|omega|simp only[go_sem,false_implies]) only[go_sem,wrap64,if_pos,Nat.add_assoc,Nat.left_eq_add,Nat.add_eq_left,Nat.add_left_cancel_iff,p0,p1,p2]<;>rfl):G:=Eq.mpr (h p0 p1 p2) g
theorem IQ{P0 P1 P2 G G':Prop}(p0:P0)(p1:P1)(p2:P2)(g:G')(h:P0->P1->P2->G=G':=by intro p0 p1 p2;simp+contextual (disch:=first|omega|simp only[go_sem,false_implies]) only[go_sem,wrap64,if_pos,p0,p1,p2]<;>rfl):G:=Eq.mpr (h p0 p1 p2) g
theorem W5{P0 G G':Prop}(p0:P0)(g:G')(h:P0->G=G':=by intro p0;simp+contextual (disch:=first|omega|simp only[go_sem,false_implies]) only[go_sem,wrap64,if_pos,B1,B3,B6,Nat.add_assoc,Nat.left_eq_add,Nat.add_eq_left,Nat.add_left_cancel_iff,List.length_map,p0]<;>rfl):G:=Eq.mpr (h p0) g
theorem kB{P0 G G':Prop}(p0:P0)(g:G')(h:P0->G=G':=by intro p0;simp+contextual only[go_sem,p0]<;>rfl):G:=Eq.mpr (h p0) g
theorem RT{P0 G G':Prop}(p0:P0)(g:G')(h:P0->G=G':=by intro p0;simp+contextual (disch:=first|omega|simp only[go_sem,false_implies]) only[go_sem,wrap64,if_pos,List.length_map,bne_self_eq_false,p0]<;>rfl):G:=Eq.mpr (h p0) g
theorem W6{P0 P1 P2 G G':Prop}(p0:P0)(p1:P1)(p2:P2)(g:G')(h:P0->P1->P2->G=G':=by intro p0 p1 p2;simp+contextual (disch:=first|omega|simp only[go_sem,false_implies]) only[go_sem,wrap64,if_pos,mD,Nat.add_assoc,Nat.left_eq_add,Nat.add_eq_left,Nat.add_left_cancel_iff,List.length_map,p0,p1,p2]<;>rfl):G:=Eq.mpr (h p0 p1 p2) g
theorem W7{P0 P1 P2 P3 P4 G G':Prop}(p0:P0)(p1:P1)(p2:P2)(p3:P3)(p4:P4)(g:G')(h:P0->P1->P2->P3->P4->G=G':=by intro p0 p1 p2 p3 p4;simp+contextual (disch:=first|omega|simp only[go_sem,false_implies]) only[go_sem,wrap64,if_pos,List.length_map,Nat.add_assoc,Nat.left_eq_add,Nat.add_eq_left,Nat.add_left_cancel_iff,p0,p1,p2,p3,p4]<;>rfl):G:=Eq.mpr (h p0 p1 p2 p3 p4) g
theorem W8{P0 P1 P2 P3 G G':Prop}(p0:P0)(p1:P1)(p2:P2)(p3:P3)(g:G')(h:P0->P1->P2->P3->G=G':=by intro p0 p1 p2 p3;simp+contextual (disch:=first|omega|simp only[go_sem,false_implies]) only[go_sem,wrap64,if_pos,Nat.add_assoc,Nat.left_eq_add,Nat.add_eq_left,Nat.add_left_cancel_iff,List.length_map,p0,p1,p2,p3]<;>rfl):G:=Eq.mpr (h p0 p1 p2 p3) g
theorem W9{P0 G G':Prop}(p0:P0)(g:G')(h:P0->G=G':=by intro p0;simp+contextual (disch:=first|omega|simp only[go_sem,false_implies]) only[go_sem,wrap64,if_pos,List.length_map,Nat.add_assoc,Nat.left_eq_add,Nat.add_eq_left,Nat.add_left_cancel_iff,p0]<;>rfl):G:=Eq.mpr (h p0) g
theorem RU{P0 P1 P2 G:Prop}(p0:P0)(p1:P1)(p2:P2)(h:P0->P1->P2->G:=by intro p0 p1 p2;simp+contextual (disch:=first|omega|simp only[go_sem,false_implies]) only[go_sem,wrap64,if_pos,List.length_map,p0,p1,p2]):G:=h p0 p1 p2
theorem RV{P0 P1 G:Prop}(p0:P0)(p1:P1)(h:P0->P1->G:=by intro p0 p1;simp+contextual (disch:=first|omega|simp only[go_sem,false_implies]) only[go_sem,wrap64,if_pos,List.length_map,p0,p1]):G:=h p0 p1
theorem Xa{G:Prop}(h:G:=by simp+contextual (disch:=first|omega|simp only[go_sem,false_implies]) only[go_sem,wrap64,if_pos,Nat.add_assoc,Nat.left_eq_add,Nat.add_eq_left,Nat.add_left_cancel_iff]):G:=h
theorem Xb{G G':Prop}(g:G')(h:G=G':=by simp+contextual (disch:=first|omega|simp only[go_sem,false_implies]) only[go_sem,wrap64,if_pos,List.length_map,beq_self_eq_true,Bool.and_true]<;>rfl):G:=Eq.mpr h g
theorem Xc{G G':Prop}(g:G')(h:G=G':=by simp+contextual (disch:=first|omega|simp only[go_sem,false_implies]) only[go_sem,wrap64,if_pos,List.length_map,beq_self_eq_true,Bool.and_self]<;>rfl):G:=Eq.mpr h g
theorem RW{P0 G G':Prop}(p0:P0)(g:G')(h:P0->G=G':=by intro p0;simp+contextual only[go_sem,Nat.add_assoc,Nat.left_eq_add,Nat.add_eq_left,Nat.add_left_cancel_iff,p0]<;>rfl):G:=Eq.mpr (h p0) g
theorem Xd{G G':Prop}(g:G')(h:G=G':=by simp+contextual only[go_sem,IU,Nat.add_assoc,Nat.left_eq_add,Nat.add_eq_left,Nat.add_left_cancel_iff,List.replicate]<;>rfl):G:=Eq.mpr h g
theorem acT{G:Prop}(h:G:=by simp+contextual (disch:=first|omega|simp only[go_sem,false_implies]) only[go_sem,wrap64,if_pos,List.length_map]):G:=h
theorem Xe{G G':Prop}(g:G')(h:G=G':=by simp+contextual (disch:=first|omega|simp only[go_sem,false_implies]) only[go_sem,wrap64,if_pos,mD]<;>rfl):G:=Eq.mpr h g
theorem Xf{G:Prop}(h:G:=by simp+contextual (disch:=first|omega|simp only[go_sem,false_implies]) only[go_sem,wrap64,if_pos,mD]):G:=h
theorem Xg{P0 P1 G:Prop}(p0:P0)(p1:P1)(h:P0->P1->G:=by intro p0 p1;simp+contextual (disch:=first|omega|simp only[go_sem,false_implies]) only[go_sem,wrap64,if_pos,p0,p1]):G:=h p0 p1
theorem dI{P:Prop}(h:P:=by repeat(first|exact hg.mono (by omega)|exact Good.nil|refine Good.az ?_ (by omega) rfl|refine Good.az ?_ (by omega) (xa _ _ _ (by omega))|refine Good.az ?_ (by omega) (by simp[ad.refs,V.aQ,V.refs]<;>omega))):P:=h
theorem dp{P:Prop}(h:P:=by(repeat(first|exact xc|refine fF ?_|refine nO rfl ?_|refine nO (jZ (mi (by omega))) ?_|refine EP rfl (by simp[V.refs,V.aQ]<;>first|omega|assumption) ?_))):P:=h
theorem af{P:Prop}(h:P:=by omega):P:=h
theorem ah{P:Prop}(h:P:=by kernel_rfl):P:=h
theorem mE{P:Prop}(h:P:=by(repeat(first|exact eC|refine dw ?_|refine cN rfl ?_|refine cN (jZ (mi (by omega))) ?_|refine iN 0 rfl rfl rfl ?_|refine jk rfl (by simp[V.refs,V.aQ]<;>first|omega|assumption) ?_|refine jl rfl (by simp[V.ids]<;>omega) ?_))):P:=h
theorem Mb{P:Prop}(h:P:=by simp[V.refs,V.aQ]<;>first|omega|assumption):P:=h
theorem c6{P:Prop}(h:P:=by(repeat(first|rfl|rw[ab]|rw[ae _ _ _ _ (by omega)]))):P:=h
theorem zy7{P:Prop}(h:P:=by simp[ad.refs,V.aQ,V.refs]<;>omega):P:=h
theorem aF{P:Prop}(h:P:=by simp):P:=h
theorem Mc{P:Prop}(h:P:=by simp[V.ids]<;>omega):P:=h
theorem RX{P:Prop}(h:P:=by exact pL hM1.symm _ _ (by omega) (Good.az (Good.az (Good.az (Good.az (Good.az (Good.az (Good.az (Good.mono (jm lx lm bY C4) (by omega)) (by omega) rfl) (by omega) rfl) (by omega) rfl) (by omega) rfl) (by omega) rfl) (by omega) rfl) (by omega) rfl) (fun j j1 j2 j3=>by(repeat(first|rfl|rw[ab]|rw[ae _ _ _ _ (by omega)]));exact rl (by omega) (by omega) j2 j3 (by omega) (by omega))):P:=h
theorem oV{P:Prop}(h:P:=by subst e;(repeat(first|rfl|rw[ab]|rw[ae _ _ _ _ (by omega)]))):P:=h
theorem Dc{P:Prop}(h:P:=by rintro⟨h1,h2⟩;first|(cases h1;done)|(cases h2;done)):P:=h
theorem iO{P:Prop}(h:P:=by simpa[execOp,fP]using this):P:=h
theorem wG{P:Prop}(h:P:=by cases rs with|nil=>exact ho.elim|cons x l=>cases l<;>exact ho.elim):P:=h
theorem GL{P:Prop}(h:P:=by have _:=lx;have _:=lm;have _:=bY;unfold qZ;(repeat(first|rfl|rw[ab]|rw[ae _ _ _ _ (by omega)]))):P:=h
theorem RY{P:Prop}(h:P:=by simp only[az]<;>((repeat' split)<;>first|rfl|omega|(subst_vars;first|rfl|assumption|(symm;assumption)|omega|(simp_all;done)))):P:=h
theorem bV{P:Prop}(h:P:=by decide):P:=h
theorem pQ{P:Prop}(h:P:=by simp[ad.refs,V.aQ,V.refs]):P:=h
theorem IV{P:Prop}(h:P:=by exact⟨_,oq,jn,hq, .of_steps (.one h0 stepR_seq) (.pass (x:= .code y) rfl (fun _ _=> .inl (by simp)) c7)⟩):P:=h
theorem ed{P:Prop}(h:P:=by rw[ho];rfl):P:=h
theorem Xh{P:Prop}(h:P:=by exact⟨false, .inl rfl,rfl,jo (fun _ _ h=>by cases h.1) (by rintro⟨h1,h2⟩;first|(cases h1;done)|(cases h2;done)),eq _ (fun d=>by rw[Xi w d ht])⟩):P:=h
theorem GM{P:Prop}(h:P:=by(repeat(first|rfl|rw[ab]|rw[ae _ _ _ _ (by omega)]));exact fm):P:=h
theorem Xj{P:Prop}(h:P:=by exact h4 _ _ (by omega) (Good.az (Good.az (Good.az (h2.mono (by omega)) (by omega) rfl) (by omega) rfl) (by omega) rfl) (fun j j1 j2=>by(repeat(first|rfl|rw[ab]|rw[ae _ _ _ _ (by omega)])))):P:=h
theorem kC{P:Prop}(h:P:=by dsimp only;omega):P:=h
theorem IW{P:Prop}(h:P:=by(repeat(first|exact GN|refine Dd ?_|refine Mr rfl ?_))):P:=h
theorem GO{P:Prop}(h:P:=by exact rl (by omega) (by omega) j2 j3 (by omega) (by omega)):P:=h
theorem RZ{P:Prop}(h:P:=by have _:=lx;have _:=lm;have _:=bY;unfold ER;(repeat(first|rfl|rw[ab]|rw[ae _ _ _ _ (by omega)]))):P:=h
theorem Xk{P:Prop}(h:P:=by exact⟨_,_,_,_,_,_,_,hK,by simp[Instr.range,run_underlying ht,oW], .inl rfl,n1,n2,⟨rfl,by simp,fun _=>⟨w.heap.size,by simp,rfl⟩⟩,fun j hj=> .inr (by simpa using hj)⟩):P:=h
theorem Xl{P:Prop}(h:P:=by exact⟨_,_,_,_,_,_,_,hK,by simp[Instr.range,run_underlying ht], .inl rfl,n1,n2,⟨rfl,by simp,fun _=>⟨w.heap.size,by simp,rfl⟩⟩,fun j hj=> .inr (by simpa using hj)⟩):P:=h
theorem mF{P:Prop}(h:P:=by simpa using hj):P:=h
theorem yz{P:Prop}(h:P:=by simp[Op.equalIn,run_underlying ht]):P:=h
theorem acU{P:Prop}(h:P:=by exact⟨false, .inl rfl,rfl,jo (fun _ _ h=>by cases h.1) (by rintro⟨h1,h2⟩;first|(cases h1;done)|(cases h2;done)),eq _ (fun d=>by rw[Xm w d ht])⟩):P:=h
theorem acV{P:Prop}(h:P:=by exact⟨false, .inl rfl,rfl,jo (fun _ _ h=>by cases h.1) (by rintro⟨h1,h2⟩;first|(cases h1;done)|(cases h2;done)),eq _ (fun d=>by rw[Xn w d ht])⟩):P:=h
theorem Xo{P:Prop}(h:P:=by exact⟨false, .inl rfl,rfl,jo (fun _ _ h=>by cases h.1) (by rintro⟨h1,h2⟩;first|(cases h1;done)|(cases h2;done)),eq _ (fun d=>by rw[Xp w d ht])⟩):P:=h
theorem Ms{P:Prop}(h:P:=by(repeat(first|rfl|rw[ab]|rw[ae _ _ _ _ (by omega)]));exact fx):P:=h
theorem Xq{P:Prop}(h:P:=by exact⟨a,ev,h1,h2,D.aT (w:=w) (w':=w) (fun b _ hn=>⟨rfl,hB b hn⟩) cs ev h3,h5,h4.mono (w:=w) (w':=w) (fun b _ hn=>⟨rfl,hB b hn⟩)⟩):P:=h
theorem Xr{P:Prop}(h:P:=by exact .inl ⟨_,_,_, .inr ⟨c,f,g,first,cap,hc,eN,hf, .inr (.inl ⟨rs,hH,rfl,fun id au=>by simpa using List.all_eq_true.1 mG id au⟩)⟩,h⟩):P:=h
theorem Xs{P:Prop}(h:P:=by exact .inl ⟨_,_,_, .inr ⟨c,f,g,first,cap,hc,eN,hf, .inr (.inr (.inr ⟨hH,fun id au=>by simpa using List.all_eq_true.1 mG id au⟩))⟩,h⟩):P:=h
theorem Xt{P:Prop}(h:P:=by exact cC.same hH _ hK (by simp only[Sem.run_bind,hr,Result.andThen_ok];rfl) ⟨_,rfl,zv,[.bool false],rfl,r2, .bool false,[],rfl,rfl,rfl⟩):P:=h
theorem Xu{P:Prop}(h:P:=by exact .inr ⟨_,_,_,⟨c,f,g,first,cap,hc,eN,hf, .inr ⟨x,Δ,hH,rfl,rfl,fun id au=>by simpa using List.all_eq_true.1 mG id au⟩⟩,h⟩):P:=h
theorem R0{P:Prop}(h:P:=by subst e1;(repeat(first|rfl|rw[ab]|rw[ae _ _ _ _ (by omega)]));exact q5):P:=h
theorem oX{P:Prop}(h:P:=by simp[oE,au]):P:=h
theorem Xv{P:Prop}(h:P:=by rw[List.length_map];exact Nat.le_refl _):P:=h
theorem Xw{P:Prop}(h:P:=by exact(Md.az (i:=nx'+3) (m:=nx'+7) (by omega) (by omega) (by omega) rfl).az (by omega) (by omega) (by omega) rfl):P:=h
theorem R1{P:Prop}(h:P:=by subst e2;(repeat(first|rfl|rw[ab]|rw[ae _ _ _ _ (by omega)]))):P:=h
theorem R3{P:Prop}(h:P:=by(repeat(first|rfl|rw[ab]|rw[ae _ _ _ _ (by omega)]));exact q3):P:=h
theorem R4{P:Prop}(h:P:=by(repeat(first|rfl|rw[ab]|rw[ae _ _ _ _ (by omega)]));exact f7):P:=h
theorem acW{P:Prop}(h:P:=by exact⟨b,r,k1,k2,k3,k4,k5,k6,k7,k8,k9,fun i=>fi _ _ (fun r hr=>hrefs r (V.xd _ _ r hr)) (k10 i)⟩):P:=h
theorem Xx{P:Prop}(h:P:=by exact uv (y:=B j) (ho j hj e1) (yA B e1 (by omega) ds ty sz _) (a7 rfl (fun q hq=>hg.refs j q hq))):P:=h
theorem Mt{P:Prop}(h:P:=by rw[hold id (by omega) (by omega),Is id (by omega) au]):P:=h
theorem R5{P:Prop}(h:P:=by injection h with h;injection h with h;subst h;right;rw[IX];omega):P:=h
theorem Mu{P:Prop}(h:P:=by simpa[execOp,fP,resolve,invoke,builtin]using this):P:=h
theorem lJ{P:Prop}(h:P:=by simp[hy]):P:=h
theorem Xy{P:Prop}(h:P:=by exact⟨fo Mv.1,fo Mv.2,fun id au=>⟨dj xe.1.1 id au,dj xe.1.2 id au⟩,fun id au=>dj xe.2 id au⟩):P:=h
theorem Xz{P:Prop}(h:P:=by simp only[Sem.run_bind,hr,Result.andThen_ok];rfl):P:=h
theorem XA{P:Prop}(h:P:=by exact⟨t,by simp only[mj,if_neg h1],hv,rfl,fun h=>absurd h h1,fun _=>rfl,fun h=>absurd h h1⟩):P:=h
theorem XB{P:Prop}(h:P:=by unfold wH;exact Nat.le_trans (List.length_filter_le _ _) (by rw[List.length_map];exact Nat.le_refl _)):P:=h
theorem Mw{P:Prop}(h:P:=by rw[hQ,yA _ fG (by omega),ae _ _ _ _ e]):P:=h
theorem XC{P:Prop}(h:P:=by exact fin _ [] (fun b hb=>by cases hb) dK (World.ownsRow_nil w' 0 ty sz) ⟨[],rfl,by simp,rfl⟩ rfl):P:=h
theorem oY{P:Prop}(h:P:=by simp;omega):P:=h
theorem yB{P:Prop}(h:P:=by simp[V.refs]):P:=h
theorem acX{P:Prop}(h:P:=by exact⟨w.heap.size,es,clock,rfl,heap_alloc_new w _,e3,aG.mono (ht.blocks (M:=M)) l _ e4⟩):P:=h
theorem XE{P:Prop}(h:P:=by simp only[Op.operands,Call.operands];exact Array.mem_append.2 (.inr (Array.mem_toList_iff.1 hx))):P:=h
theorem XF{P:Prop}(h:P:=by rw[hn,hI,De hx];rfl):P:=h
theorem acY{P:Prop}(h:P:=by exact IY hu c8 (fun id h=> .inl (by rw[kD]at h;exact h)) g1.symm g3 jS (iW rfl)):P:=h
theorem XG{P:Prop}(h:P:=by(repeat(first|rfl|rw[ab]|rw[ae _ _ _ _ (by omega)]));rw[List.map_append];rfl):P:=h
theorem IZ{P:Prop}(h:P:=by injection h with h;subst h;exact hK):P:=h
theorem XH{P:Prop}(h:P:=by simp only[h1,cU,Option.map_some];exact hK):P:=h
theorem XI{P:Prop}(h:P:=by exact⟨k1,Ay.tr.trans k2,Ay.size,Ay.defers.mono k2,fun j=>V.aS k2 _ _ (Ay.env j)⟩):P:=h
theorem I0{P:Prop}(h:P:=by rw[List.drop_eq_getElem_cons i1,i2]):P:=h
theorem R6{P:Prop}(h:P:=by rw[List.drop_eq_getElem_cons h5,h6]):P:=h
theorem XJ{P:Prop}(h:P:=by rw[ae _ _ _ _ e,ae _ _ _ _ e,ae _ _ _ _ (by omega),hI.eq j hj,ae _ _ _ _ e]):P:=h
theorem Mx{P:Prop}(h:P:=by exact V.aS (ht.trans k2) _ _ (hs.env i)):P:=h
theorem acZ{P:Prop}(h:P:=by exact⟨k1,hs.tr.trans k2,hs.size,hs.defers.mono k2,fun j=>V.aS k2 _ _ (hs.env j)⟩):P:=h
theorem XK{P:Prop}(h:P:=by exact Nat.le_trans (List.length_filter_le _ _) (by rw[List.length_map];exact Nat.le_refl _)):P:=h
theorem XL{P:Prop}(h:P:=by exact kS sx (R7 (by simp[V.refs];omega) (rm 0 rfl rfl rfl (uw kT)))):P:=h
theorem XM{P:Prop}(h:P:=by rw[m3 id h2 (by omega),ae _ _ _ _ (by omega),ae _ _ _ _ (by omega),c8 id h2 h3]):P:=h
theorem XN{P:Prop}(h:P:=by subst e2;(repeat(first|rfl|rw[ab]|rw[ae _ _ _ _ (by omega)]));exact q6):P:=h
theorem XO{P:Prop}(h:P:=by subst e1;(repeat(first|rfl|rw[ab]|rw[ae _ _ _ _ (by omega)]));exact w4):P:=h
theorem ac0{P:Prop}(h:P:=by exact Bool.false_ne_true (lK.trans h.marks)):P:=h
theorem XP{P:Prop}(h:P:=by exact hQ _ _ _ _ val k5 (eD hs k1 k2 (o':=o') (nx':=nx') rfl fun id hu=>hu) k4):P:=h
theorem R8{P:Prop}(h:P:=by exact⟨_,oq,jn,hq, .of_steps (.one h0 stepR_block) c7⟩):P:=h
theorem R9{P:Prop}(h:P:=by exact⟨_,oq,jn,hq, .of_steps (.one h0 j5) c7⟩):P:=h
theorem I1{P:Prop}(h:P:=by unfold eZ;rw[My trivial]):P:=h
theorem XQ{P:Prop}(h:P:=by exact .inr (.inr (.inr (oF.mono (fun v o n h=>hK _ h) (fun v o n h=>hX _ _ h) h)))):P:=h
theorem XR{P:Prop}(h:P:=by(repeat(first|rfl|rw[ab]|rw[ae _ _ _ _ (by omega)]));exact pj j hj e1):P:=h
theorem XS{P:Prop}(h:P:=by rw[List.contains_iff_mem, <- (by simpa using h3:x=n)];exact List.mem_of_getElem? hx):P:=h
theorem XT{P:Prop}(h:P:=by exact⟨none,0,0,rfl,rfl,Nat.le_refl _,fun _=>rfl,0,fun a ha=>by cases ha⟩):P:=h
theorem XU{P:Prop}(h:P:=by exact⟨b,es',clock,k1,k2,k4,aG.mono (fun b _ hn=>⟨rfl,hB b hn⟩) _ _ k3⟩):P:=h
theorem Mz{P:Prop}(h:P:=by rw[show(hp o nx).o id=_ from ho];rfl):P:=h
theorem XW{P:Prop}(h:P:=by(repeat(first|rfl|rw[ab]|rw[ae _ _ _ _ (by omega)]))<;>exact q1):P:=h
theorem XX{P:Prop}(h:P:=by exact fun k hk s' h1 h2=>Az _ (fun x hx=>aW x (tv k hk x hx)) s' h1 h2):P:=h
theorem Sa{P:Prop}(h:P:=by injection h with h;subst h;exact⟨by assumption,hK⟩):P:=h
theorem XY{P:Prop}(h:P:=by exact⟨k1,xs,k2,evs,k3,k4,D.aT (fun b _ hn=>⟨rfl,hB b hn⟩) _ _ k5⟩):P:=h
theorem XZ{P:Prop}(h:P:=by(repeat(first|rfl|rw[ab]|rw[ae _ _ _ _ (by omega)]));exact AA):P:=h
theorem X0{P:Prop}(h:P:=by(repeat(first|rfl|rw[ab]|rw[ae _ _ _ _ (by omega)]));exact q4):P:=h
theorem X1{P:Prop}(h:P:=by(repeat(first|rfl|rw[ab]|rw[ae _ _ _ _ (by omega)]));exact m6):P:=h
theorem X2{P:Prop}(h:P:=by subst h;(repeat(first|rfl|rw[ab]|rw[ae _ _ _ _ (by omega)]))):P:=h
theorem X4{P:Prop}(h:P:=by exact hH.fresh j fun hu=>h (.inl hu)):P:=h
theorem X5{P:Prop}(h:P:=by exact⟨r, .inl rfl,by obtain⟨_,rfl,_⟩:=hx;rfl,fun op=>g2 op p q,g1⟩):P:=h
theorem I2{P:Prop}(h:P:=by simp at h;obtain⟨rfl,rfl⟩:=h;exact⟨rfl,rfl⟩):P:=h
theorem OH{P:Prop}(h:P:=by exact hN _ _ _ (jq hs k1 k2 (mH ho) cO rfl fun id hu=> .inl hu)):P:=h
theorem OI{P:Prop}(h:P:=by exact⟨_,_,_,_,_,_,_,hK,by simp[hr], .inl rfl,h1,h2,h3,by simp⟩):P:=h
theorem X6{P:Prop}(h:P:=by simp only[a0,Array.size_append,Array.size_replicate];simp at hlen;omega):P:=h
theorem X7{P:Prop}(h:P:=by exact forall_congr' fun k=>forall_congr' fun hk=>by rw[ih k hk (d+1)]):P:=h
theorem OJ{P:Prop}(h:P:=by cases xv<;>first|(simp[OK]at hwd;done)|(cases yv<;>simp[he])):P:=h
theorem OL{P:Prop}(h:P:=by exact⟨x,b.trans y,z⟩):P:=h
theorem xf{P:Prop}(h:P:=by simpa[V.refs]using hr):P:=h
theorem OM{P:Prop}(h:P:=by exact hK _ _ (by omega) (Md.mono (by omega)) c8):P:=h
theorem ON{P:Prop}(h:P:=by exact a7 s1 (fun r hr=>by simp[ad.refs,V.aQ,V.refs]at hr)):P:=h
theorem OO{P:Prop}(h:P:=by exact(yA B (by omega) (by omega) ds ty sz _).trans (pL j (by omega))):P:=h
theorem OP{P:Prop}(h:P:=by exact kU (fun k k' b r hk=>iw hk (Nat.le_max_right _ _)) k1):P:=h
theorem I3{P:Prop}(h:P:=by rw[mG];simp only[oE,eN,wI];exact au):P:=h
theorem OQ{P:Prop}(h:P:=by injection hu with hu;injection hv with hv;subst hu;subst hv;exact h3):P:=h
theorem xg{P:Prop}(h:P:=by simp[V.aQ,V.refs]):P:=h
theorem OR{P:Prop}(h:P:=by exact⟨by have:=kV;simp at h1;simp only[Tm.kids];omega,hl⟩):P:=h
theorem OS{P:Prop}(h:P:=by exact hN _ _ _ _ k3.2 (nP hs k1 k2 k3.1 cO rfl fun id hu=>hu)):P:=h
theorem OT{P:Prop}(h:P:=by exact⟨by omega,fun k hk=>ih k hk (by have:=Tm.mI hk;omega)⟩):P:=h
theorem mm{P:Prop}(h:P:=by simp[hx]):P:=h
theorem I4{P:Prop}(h:P:=by simp at hl;obtain⟨rfl,rfl⟩:=hl;exact hK):P:=h
theorem OU{P:Prop}(h:P:=by rw[ae _ _ _ _ wJ,rn _ _ (by omega)];exact h0 id (by omega)):P:=h
theorem OV{P:Prop}(h:P:=by exact kS s11 (uw (uw (rm 0 rfl rfl rfl kT)))):P:=h
theorem I5{P:Prop}(h:P:=by simp at hj hy;subst hj;subst hy;exact aW):P:=h
theorem ES{P:Prop}(h:P:=by rw[if_neg e,if_neg (by omega)]):P:=h
theorem ET{P:Prop}(h:P:=by injection h with h;exact h ▸ ht):P:=h
theorem OW{P:Prop}(h:P:=by subst e;rw[hx]at hy;injection hy with hy;rw[<- hy];exact kW):P:=h
theorem X8{P:Prop}(h:P:=by rw[List.length_eraseIdx];simp[hi];omega):P:=h
theorem EU{P:Prop}(h:P:=by rw[hm];exact ad.noConfusion):P:=h
theorem I6{P:Prop}(h:P:=by simp only[V.den,D.den]at EV;rw[EV]):P:=h
theorem X9{P:Prop}(h:P:=by exact h3 e (Array.mem_toList_iff.1 he) hb):P:=h
theorem EW{P:Prop}(h:P:=by rw[hg];simp[dL,hv,e]):P:=h
theorem OX{P:Prop}(h:P:=by exact cC.same hH _ h (by simp[execOp,fP,hr]) ⟨_,rfl,hv⟩):P:=h
theorem OY{P:Prop}(h:P:=by exact⟨0,0,b,by simp only[lH], .inl ⟨rfl,rfl,ρ,R,hS⟩⟩):P:=h
theorem I7{P:Prop}(h:P:=by rw[tN];exact cS all _ bf):P:=h
theorem sH{P:Prop}(h:P:=by rw[wx];rfl):P:=h
theorem EX{P:Prop}(h:P:=by simp[V.aQ,V.refs];omega):P:=h
theorem OZ{P:Prop}(h:P:=by exact bF t u hu (hQ _ s φ w (.iface t u) h hs ⟨u,rfl,hd⟩)):P:=h
theorem I8{P:Prop}(h:P:=by rw[if_neg e,if_neg fun h=>e h.symm]):P:=h
theorem EY{P:Prop}(h:P:=by simp[binOp,AB hr]):P:=h
theorem I9{P:Prop}(h:P:=by exact⟨.ret,s',aE,hq,jT,trivial⟩):P:=h
theorem Ja{P:Prop}(h:P:=by exact bnd _ h _ (Nat.le_max_right _ _)):P:=h
theorem O0{P:Prop}(h:P:=by exact⟨e',Sb,fr',hR,ComesIn.of_steps O2 hs,AD,hl⟩):P:=h
theorem sI{P:Prop}(h:P:=by rw[hx];rfl):P:=h
theorem xh{P:Prop}(h:P:=by rw[hx];exact hk):P:=h
theorem Jb{P:Prop}(h:P:=by rw[wy i hi];exact congrArg some hb):P:=h
theorem O4{P:Prop}(h:P:=by exact⟨b,k1,k2.mono (fun b _ hn=>⟨rfl,hB b hn⟩) rfl⟩):P:=h
theorem AE{P:Prop}(h:P:=by exact Sc j1 j2 j3):P:=h
theorem Jc{P:Prop}(h:P:=by unfold eZ;exact Eq.trans rfl rfl):P:=h
theorem EZ{P:Prop}(h:P:=by rw[Ya]at hl;simp at hl):P:=h
theorem E0{P:Prop}(h:P:=by subst hi;simp[Ne.symm h]):P:=h
theorem Jd{P:Prop}(h:P:=by exact⟨.bF _,s',aE,hq,jT,hm⟩):P:=h
theorem Je{P:Prop}(h:P:=by unfold GP;exact Eq.trans rfl rfl):P:=h
theorem E1{P:Prop}(h:P:=by exact fun _=>GQ _ _ _):P:=h
theorem Jf{P:Prop}(h:P:=by unfold eqGuard;cases op<;>simp):P:=h
theorem E2{P:Prop}(h:P:=by rw[h]at h1;simp at h1):P:=h
theorem Jg{P:Prop}(h:P:=by simp[hj]at hr;exact⟨hr,rfl⟩):P:=h
theorem xi{P:Prop}(h:P:=by simpa using h2):P:=h
theorem Jh{P:Prop}(h:P:=by simp at hj;subst hj;exact dY):P:=h
theorem xj{P:Prop}(h:P:=by simpa using hx):P:=h
theorem Ji{P:Prop}(h:P:=by rw[hx];exact ad.noConfusion):P:=h
theorem sJ{P:Prop}(h:P:=by simp[hz]):P:=h
theorem sK{P:Prop}(h:P:=by simp[ht]):P:=h
theorem xk{P:Prop}(h:P:=by rw[h1];rfl):P:=h
theorem AF{P:Prop}(h:P:=by cases b<;>rfl):P:=h
theorem xm{P:Prop}(h:P:=by rw[hj];rfl):P:=h
theorem O5{P:Prop}(h:P:=by exact h ▸ ⟨hb,[],by simp⟩):P:=h
theorem Yb{P:Prop}(h:P:=by exact⟨b,h4.trans h5,h6⟩):P:=h
theorem zw1{P:Prop}(h:P:=by refine GH hx e0 ?_;refine aj (k+1) h2 af (bA.ou (fun j=>j=2) (.osl 2 1) 2 _ af (lt2 (eO (y:= .row t.row) c6 c6 (a7 rfl pQ)) (eO (y:= .row [.d (.i 0), .d (.i 0), .aJ]) c6 c6 (a7 rfl pQ))) (ab _ _ _) (.inr ⟨2,1,rfl,rfl,by(repeat(first|rfl|rw[ab]|rw[ae _ _ _ _ (by omega)]));rw[q8,List.map_append,List.map_append];rfl⟩) (fun j hj=>by(repeat(first|rfl|rw[ab]|rw[ae _ _ _ _ (by omega)]))) (fun j h h2=>af) ?_);exact mE):P:=h
theorem zw3{P:Prop}(h:P:=by refine fin _ _ (.inr rfl) _ _ af dI (fun j j1 j2=>by(repeat(first|rfl|rw[ab]|rw[ae _ _ _ _ (by omega)]))) (fun h=> ?_);exact ac0):P:=h
theorem zw4{P:Prop}(h:P:=by refine aN (bc rfl) ?_;refine pP q2 ?_;refine ef _ _ _ .busy none af (fin _ _ (fun id au=>RY) dI af) c6 (fun id h3 h4=>by(repeat(first|rfl|rw[ab]|rw[ae _ _ _ _ (by omega)])))):P:=h
theorem zw6{P:Prop}(h:P:=by simp[Ef,Array.getD_eq_getD_getElem?,Array.getElem?_replicate]at iX;split at iX<;>simp at iX):P:=h
theorem zw7{P:Prop}(h:P:=by obtain⟨h0,h1,h2⟩:=h;refine⟨h0,hr.us id h1,fun cz=> ?_⟩;obtain⟨h3,h4⟩:=hr.row id h1 cz;obtain⟨b,h5,h6⟩:=h2 h3;exact Yb):P:=h
theorem zw8{P:Prop}(h:P:=by obtain⟨a,b,c⟩:=hr id yB;obtain⟨h0,h1,h2⟩:=h;refine⟨h0,c,fun cz=> ?_⟩;rw[a]at cz;obtain⟨x,y,z⟩:=h2 cz;exact OL):P:=h
theorem O6{P:Prop}(h:P:=by refine iN 1 rfl rfl rfl ?_;exact mE):P:=h
theorem Sd{P:Prop}(h:P:=by obtain⟨h0,x,hx⟩:=E3 hI;simp+contextual only[go_sem,hI,hx,h0];refine aN (bc rfl) ?_;refine cB ?_;exact XF):P:=h
theorem Se{P:Prop}(h:P:=by obtain⟨a,b,c⟩:=hr id yB;obtain⟨h0,h1,h2⟩:=h;refine⟨h0,c,fun cz=> ?_⟩;obtain⟨x,y,z⟩:=h2 (a.1 cz);exact OL):P:=h
theorem Sf{P:Prop}(h:P:=by refine bA.bJ _ af af dI (fun j hj=>rfl) ?_;exact dp):P:=h
theorem Sg{P:Prop}(h:P:=by intro j hj;simp only[bB,h2,List.mem_map,List.mem_filter]at hj;obtain⟨e,⟨he,hb⟩,rfl⟩:=hj;exact X9):P:=h
theorem Yc{P:Prop}(h:P:=by obtain⟨h0,h1,h2⟩:=h;refine⟨h0,hr.us id h1,fun e' pM=> ?_⟩;obtain⟨e,g1,g2,g3⟩:=hr.ep id e' h1 pM;obtain⟨h3,h4⟩:=h2 e g1;refine⟨Nat.le_trans h3 g2,fun heq=> ?_⟩;rw[g3 (by omega)];exact h4 af):P:=h
theorem Sh{P:Prop}(h:P:=by rw[List.drop_eq_getElem_cons h1];rw[List.getElem?_eq_getElem h1]at hx;injection hx with hx;rw[hx]):P:=h
theorem Si{P:Prop}(h:P:=by obtain⟨z,h1,h⟩:=iZ h;simp only[Prod.mk.injEq]at h;obtain⟨rfl,rfl,rfl⟩:=h;exact XH):P:=h
theorem MA{P:Prop}(h:P:=by refine bW ?_;refine aN (bc rfl) ?_;exact pK):P:=h
theorem Jj{P:Prop}(h:P:=by simp only[St.S,jd]at this;exact this):P:=h
theorem Sj{P:Prop}(h:P:=by obtain⟨h0,x,hx⟩:=E3 hI;simp+contextual only[go_sem,h,hI,hx,h0];exact XF):P:=h
theorem Yd{P:Prop}(h:P:=by refine⟨t,by simp only[mj,if_pos h1,hl],hv,rfl,fun _=>hl,fun h=>absurd h1 h,fun _=>⟨fun u hu=> ?_,fun h=>absurd h1 h⟩⟩;rw[(gN h1).1 hu];exact Nat.le_refl _):P:=h
theorem Sk{P:Prop}(h:P:=by simp only[Array.getD_eq_getD_getElem?];rw[Array.getElem?_setIfInBounds_ne (Ne.symm hi)]):P:=h
theorem Sl{P:Prop}(h:P:=by refine kB hI ?_;refine aN (bc rfl) ?_;refine cB ?_;rw[hn,hI];rfl):P:=h
theorem Sm{P:Prop}(h:P:=by dsimp only;refine bA.bJ _ (Nat.le_refl _) af hI.cm (fun _ _=>rfl) ?_;exact dp):P:=h
theorem yC{P:Prop}(h:P:=by subst this;exact pK):P:=h
theorem Ye{P:Prop}(h:P:=by simp only[Option.map_eq_some_iff]at h;obtain⟨d,h1,rfl⟩:=h;obtain⟨arr,rfl,g1,g2⟩:=hx;obtain⟨val,r1,r2⟩:=gQ h1 g1 g2;exact fin (r1 w) r2):P:=h
theorem Sn{P:Prop}(h:P:=by refine cB ?_;refine aw (gw _ _ _) rfl ?_;refine cB ?_;rw[hn]):P:=h
theorem Sp{P:Prop}(h:P:=by subst this;refine sF hn ?_;refine aN (bc rfl) ?_;exact pK):P:=h
theorem Yf{P:Prop}(h:P:=by refine aN (bc rfl) ?_;refine bW ?_;refine aj (k+1) g2 af ?_;refine bA.bJ _ af af dI (fun j hj=>rfl) ?_;exact dp):P:=h
theorem Yg{P:Prop}(h:P:=by rw[show(⟨put o' [(fr, .arr 0 ty sz es)],fun id=>us id\/id=fr⟩:Hp).o fr=put o' [(fr, .arr 0 ty sz es)] fr from rfl,this]at he;injection he):P:=h
theorem Yh{P:Prop}(h:P:=by simp only[hx]at h ho;injection h with h;subst h;simp only[ad.fz]at ho;simp only[aO,ho]at aW;rw[hd (by rw[ho];rfl)];exact aW.den):P:=h
theorem Sq{P:Prop}(h:P:=by refine rk eg iy ?_;refine aN (bc rfl) ?_;exact pK):P:=h
theorem Yi{P:Prop}(h:P:=by dsimp only;refine bA.bJ _ af af dI (fun j hj=>by(repeat(first|rfl|rw[ab]|rw[ae _ _ _ _ (by omega)]))) ?_;exact dp):P:=h
theorem Yj{P:Prop}(h:P:=by obtain⟨h0,y,h1,h2,h3,h4⟩:=ux h;simp only[Prod.mk.injEq]at h4;obtain⟨rfl,rfl,rfl⟩:=h4;exact⟨h0,y,h1,h2,h3,hK⟩):P:=h
theorem Yk{P:Prop}(h:P:=by simp only[Option.map_eq_some_iff]at h;obtain⟨r,h1,rfl⟩:=h;obtain⟨g1,g2⟩:=Sr h1 hg (ao M φ H) w xv yv hx hy;exact X5):P:=h
theorem Yl{P:Prop}(h:P:=by obtain⟨h3,h4⟩:=hb _ b8 h2;exact⟨by rw[World.cell?_of_block (w:=w) (w':=w') (a:=a.add j) (by simpa using h3)];exact h1,h4⟩):P:=h
theorem Ym{P:Prop}(h:P:=by simp only[ha];obtain⟨z,h1,h⟩:=iZ h;simp only[Prod.mk.injEq]at h;obtain⟨rfl,rfl,rfl⟩:=h;exact yD h1 hK):P:=h
theorem Yn{P:Prop}(h:P:=by simp only[hw,if_true];obtain⟨yE,jS⟩:=AG Jk (fun id au=>ag2 id (by rw[wy];exact au)) Ss aW.2;exact acY):P:=h
theorem Yo{P:Prop}(h:P:=by cases y<;>simp only[V.same,Bool.false_eq_true,Bool.and_eq_true]at h;rw[Nat.eq_of_beq_eq_true h.1,Nat.eq_of_beq_eq_true h.2]):P:=h
theorem Yp{P:Prop}(h:P:=by rw[<- uy];refine iz hH (cc w _) c8 _ _ hvb ?_;unfold aO;simp only[bC,aH,if_true];exact acX):P:=h
theorem Yq{P:Prop}(h:P:=by refine bW ?_;refine aN (bc rfl) ?_;refine bW ?_;refine aj (k+1) h2 af (bA.d0 _ ?_);exact dp):P:=h
theorem Yr{P:Prop}(h:P:=by rw[List.drop_eq_nil_of_le (by omega)]at aY;simp only[bG]at aY;injection aY with aY;subst aY;exact IM pR):P:=h
theorem Ys{P:Prop}(h:P:=by intro u hu;simp only[Array.toList_extract,List.extract]at hu;exact hf u (List.mem_of_mem_drop (List.mem_of_mem_take hu))):P:=h
theorem Yt{P:Prop}(h:P:=by refine⟨hH,Trans.refl _ _ _, ?_,⟨[],rfl,List.nodup_nil,fun _=>rfl,fun r hr=>by cases hr⟩,AH hd⟩;exact X6):P:=h
theorem Su{P:Prop}(h:P:=by obtain⟨hi,_⟩:=List.getElem?_eq_some_iff.1 hm;exact X8):P:=h
theorem Yu{P:Prop}(h:P:=by simp only[lH]at h;injection h with h;injection h with h4 h5;subst h4;subst h5;rw[if_pos rfl]at hr;exact⟨n,hr⟩):P:=h
theorem Sv{P:Prop}(h:P:=by obtain⟨h5,h6⟩:=List.getElem?_eq_some_iff.1 hx;exact R6):P:=h
theorem Yv{P:Prop}(h:P:=by rw[e];obtain⟨k1,k2⟩:=j6 (us':=E4 (Array.replicate ops.size false)) hs.heap (fun id h=> .inl h);exact acZ):P:=h
theorem Sw{P:Prop}(h:P:=by simp only[bC,aH,h1,if_false];exact X4):P:=h
theorem Yw{P:Prop}(h:P:=by refine cB ?_;simp at h1;rw[List.drop_eq_nil_of_le h1]at hf;simp only[aK]at hf;rw[hf]at hK;exact OM):P:=h
theorem Yx{P:Prop}(h:P:=by simp only[Option.some.injEq,Prod.mk.injEq]at h;obtain⟨rfl,rfl,rfl⟩:=h;simp only[ho];exact⟨_,hg,hK⟩):P:=h
theorem Sx{P:Prop}(h:P:=by rw[show fr+(j+1)=fr+1+j by omega];exact this):P:=h
theorem Sy{P:Prop}(h:P:=by simp+contextual only[go_sem,h,hI];rw[hn,hI];rfl):P:=h
theorem Yy{P:Prop}(h:P:=by injection h with h;subst h;obtain⟨u,rfl,_⟩:=hy;simp only[V.den,D.den]at hx;subst hx;exact acV):P:=h
theorem Yz{P:Prop}(h:P:=by injection h with h;subst h;obtain⟨u,rfl,_⟩:=hx;simp only[V.den,D.den]at hy;subst hy;exact acU):P:=h
theorem YA{P:Prop}(h:P:=by refine .inr (.inr (.inl ⟨ds,out,eP,hP,mJ, ?_⟩));cases out<;>first|exact hK _ h|exact hX _ _ h):P:=h
theorem YB{P:Prop}(h:P:=by rw[hI.eq 2 (by omega)];(repeat(first|rfl|rw[ab]|rw[ae _ _ _ _ (by omega)]));exact p2):P:=h
theorem YC{P:Prop}(h:P:=by simp only[aO,ho]at aW;obtain⟨bk,es,clock,g1,_⟩:=aW;rw[<- eB]at g1;subst g1;exact Xh):P:=h
theorem YD{P:Prop}(h:P:=by simp only[ad.fz]at ho;simp only[aO,ho]at aW;rw[(hd ep (by rw[ho];rfl)).2 rfl];exact aW):P:=h
theorem YE{P:Prop}(h:P:=by rw[Array.toList_append,Array.toList_append,Array.toList_map];exact V.pS E5 dq hca):P:=h
theorem YF{P:Prop}(h:P:=by refine .inr (.inl ⟨ds,out,eP,hP,mJ, ?_⟩);cases out<;>first|exact hK _ h|exact hX _ _ h):P:=h
theorem YG{P:Prop}(h:P:=by obtain⟨b,dM,ty,k1,k2,k3,k4⟩:=bf;exact⟨b,dM,ty,k1,k2,mK _ _ hrefs k3,k4⟩):P:=h
theorem O7{P:Prop}(h:P:=by obtain⟨arr,rfl,g1,g2⟩:=hx;obtain⟨val,r1,r2⟩:=GR h g1 g2;exact fin r1 r2):P:=h
theorem O8{P:Prop}(h:P:=by simp only[Array.getD_eq_getD_getElem?];rw[Array.getElem?_setIfInBounds_ne (Ne.symm h1)]):P:=h
theorem O9{P:Prop}(h:P:=by refine⟨x,fun heq=> ?_⟩;obtain⟨p,q,r,z,u⟩:=y heq;exact⟨p,q,r,b.trans z,u⟩):P:=h
theorem Pa{P:Prop}(h:P:=by rw[hL.refs,List.all_eq_true];intro r hr;have:=hrefs r hr;exact decide_eq_true af):P:=h
theorem Pb{P:Prop}(h:P:=by refine .inl ⟨ds,out,eP,hP, ?_⟩;cases out<;>first|exact hK _ h|exact hX _ _ h):P:=h
theorem Pc{P:Prop}(h:P:=by simp only[Ef,Array.getD_eq_getD_getElem?,Array.getElem?_replicate];split<;>rfl):P:=h
theorem Pf{P:Prop}(h:P:=by simp[H',ad.cf]at he;subst he;exact⟨Nat.le_refl _,fun _=>by simp[aE]⟩):P:=h
theorem Pg{P:Prop}(h:P:=by rw[hm,gR (o:=s.o) fun id au=>hr id (lL _ id au)];exact VN):P:=h
theorem Ph{P:Prop}(h:P:=by obtain⟨a,b,c,h⟩:=funcOf (P:=Tryz.prog) (t:=209) ah;unfold yF;rw[h]):P:=h
theorem Pj{P:Prop}(h:P:=by cases y<;>simp only[D.same,Bool.false_eq_true]at h;rw[D.dx b9 _ h]):P:=h
theorem Pk{P:Prop}(h:P:=by subst this;refine sF hx ?_;refine aN (bc rfl) ?_;exact pK):P:=h
theorem Pl{P:Prop}(h:P:=by rw[Bool.eq_iff_iff];simp only[List.all_eq_true (l:=t.kids)];exact X7):P:=h
theorem Jl{P:Prop}(h:P:=by injection h with h;subst h;exact pK):P:=h
theorem Pm{P:Prop}(h:P:=by simp only[bG]at h;injection h with h;subst h;exact⟨rfl,hg,hl,hw⟩):P:=h
theorem Po{P:Prop}(h:P:=by simp only[lH]at h;injection h with h;injection h with _ h;exact O5):P:=h
theorem Pp{P:Prop}(h:P:=by obtain⟨b,r,k1,k2,k3,k4,k5,k6,k7,k8,k9,k10⟩:=bf;exact acW):P:=h
theorem Pq{P:Prop}(h:P:=by obtain⟨u,us,rfl,h1,_⟩:=h;simp at hd;subst hd;exact⟨u,aF,h1⟩):P:=h
theorem Pr{P:Prop}(h:P:=by simp only[Bool.false_eq_true,if_false]at aY;subst aY;exact acT):P:=h
theorem Ps{P:Prop}(h:P:=by rw[m2.eq id (by omega)];unfold ext;rw[if_neg (by omega)];exact c6):P:=h
theorem Pt{P:Prop}(h:P:=by intro c hx;rw[Array.getD_eq_getD_getElem?,hx]at c7;simp at c7):P:=h
theorem Pu{P:Prop}(h:P:=by obtain⟨r,h⟩:=Jm hS 12 p.2 40 (E6 p hp);exact⟨_,r,h⟩):P:=h
def sL(ops:Array Oper)(j:Nat):Option Tmp:=(ops[j]?).bind (·.dst)
structure bP where
 dst:Option Nat
 op:Op
 gd:Option (Nat×Bool):=none
instance:Inhabited bP:=⟨⟨none, .ready 0,none⟩⟩
def Df(n:Nat):Option Tmp->Bool
 |some d=>decide (d<n)
 |none=>true
def Jn(n:Nat)(ops:Array Oper)(o:Oper):Option bP:=
 if Df n o.dst=true then match o.guard with
  |none=>some ⟨o.dst,o.op,none⟩
  |some (j,want)=>match sL ops j with
   |some d=>some ⟨o.dst,o.op,some (d,want)⟩
   |none=>none
 else none
def kX(n:Nat)(ops:Array Oper):List Oper->Option (List bP)
 |[]=>some []
 |o::l=>match Jn n ops o,kX n ops l with
  |some x,some xs=>some (x::xs)
  |_,_=>none
def tmpsOf(o:bP):List Nat:=(o.op.operands.toList.filterMap fun| .tmp t=>some t|_=>none)++(match o.gd with|some (d,_)=>[d]|none=>[])
def eQ(o:bP):List Nat:=tmpsOf o++o.dst.toList
def bB(ops:Array Oper)(i:Nat):List Nat:=match ops[i]? with|some o=>(o.after.toList.filter (Region.binds .any)).map (·.on)|none=>[]
def bQ(l:List bP)(i:Nat):bP:=l.getD i default
inductive IC where
 |skip|ag (l:List bP)|dm (l:List bP) (pr:List (List Nat))|seq (a b:IC)|cond (c:Operand) (a b:IC)|block (id:Nat) (a:IC)|loop (a:IC)|exit (id:Nat)|ret|bad
 |It (g:Operand) (ps:List Nat) (a b:IC)
 deriving Inhabited
inductive jR where
 |ret|exit (id:Nat)
def jR.code:jR->Code
 | .ret=> .ret
 | .exit id=> .exit id
def lM(acc:List Nat):List Nat->Nat
 |[]=>0
 |j::ps=>(2^j|||acc.getD j 0)|||lM acc ps
def ek:List (List Nat)->List Nat->List Nat
 |[],acc=>acc
 |ps::l,acc=>ek l (acc++[lM acc ps])
def rp(x y:bP):Bool:=match x.dst with|some d=> !(eQ y).contains d|none=>true
def yG(l:List bP)(pr:List (List Nat)):Bool:=
 (List.range l.length).all fun j=>(List.range j).all fun i=>((ek pr []).getD j 0).testBit i||(rp (bQ l i) (bQ l j)&&rp (bQ l j) (bQ l i))
def kE(xs ys:List Nat):Bool:=xs.all fun x=> !ys.contains x
def eE(pr:List (List Nat))(fp:List (List Nat×List Nat)):Bool:=
 (List.range fp.length).all fun j=>(List.range j).all fun i=>((ek pr []).getD j 0).testBit i||
  (kE (fp.getD i ([],[])).2 (fp.getD j ([],[])).1&&kE (fp.getD i ([],[])).2 (fp.getD j ([],[])).2&&kE (fp.getD j ([],[])).2 (fp.getD i ([],[])).1)
def gy(ops:Array Oper):List (List Nat):=(List.range ops.size).map (bB ops)
def Sz(pr:List (List Nat)):Bool:=(List.range pr.length).all fun k=>(pr.getD k []).all fun j=>decide (j<k)
theorem uz{acc:List Nat}{i:Nat}:∀ (ps:List Nat),(lM acc ps).testBit i=true->∃j∈ps,i=j\/(acc.getD j 0).testBit i=true
 |[],h=>by simp[lM]at h
 |j::ps,h=>by
  simp only[lM,Nat.testBit_or,Bool.or_eq_true]at h
  rcases h with(h|h)|h
  ·rw[Nat.testBit_two_pow]at h
   exact⟨j,aF, .inl (by have h:=of_decide_eq_true h;exact h.symm)⟩
  ·exact⟨j,aF, .inr h⟩
  ·obtain⟨j',h1,h2⟩:=uz ps h
   exact⟨j',by simp[h1],h2⟩
theorem rq{k:Nat}:∀ (l:List (List Nat)) (acc:List Nat),k<acc.length->(ek l acc).getD k 0=acc.getD k 0
 |[],_,_=>rfl
 |ps::l,acc,h=>by
  rw[ek,rq l _ (by simp;omega)]
  simp[List.getD_eq_getElem?_getD,List.getElem?_append_left h]
theorem rr{i:Nat}:∀ (l:List (List Nat)) (acc:List Nat) (k:Nat),acc.length<=k->(∀k',k'<l.length->∀j∈l.getD k' [],j<acc.length+k')->((ek l acc).getD k 0).testBit i=true->
 ∃j∈l.getD (k - acc.length) [],i=j\/((ek l acc).getD j 0).testBit i=true
 |[],acc,k,hk,_,h=>by
  simp only[ek]at h
  rw[List.getD_eq_getElem?_getD,List.getElem?_eq_none hk]at h
  simp at h
 |ps::l,acc,k,hk,hp,h=>by
  simp only[ek]at h|-
  by_cases he:k=acc.length
  ·subst he
   rw[rq l _ (by simp)]at h
   have e:(acc++[lM acc ps]).getD acc.length 0=lM acc ps:=by simp[List.getD_eq_getElem?_getD]
   rw[e]at h
   obtain⟨j,h1,h2⟩:=uz ps h
   refine⟨j,by simpa using h1,h2.imp id fun h2=> ?_⟩
   have hj:j<acc.length:=by simpa using hp 0 aF j (by simpa using h1)
   rw[rq l _ (by simp;omega)]
   simpa[List.getD_eq_getElem?_getD,List.getElem?_append_left hj]using h2
  ·obtain⟨j,h1,h2⟩:=rr l (acc++[lM acc ps]) k oY (fun k' GS j hj=>by
    have:=hp (k'+1) oY j mF
    simp;omega) h
   refine⟨j, ?_,h2⟩
   have e:k - acc.length=(k - (acc++[lM acc ps]).length)+1:=by simp;omega
   rw[e];simpa using h1
theorem pT{pr:List (List Nat)}(hp:∀k,k<pr.length->∀j∈pr.getD k [],j<k){E:Nat->Bool}(hE:∀k,k<pr.length->E k=true->∀j∈pr.getD k [],E j=true):
 ∀k,k<pr.length->(∀j∈pr.getD k [],E j=true)->∀i,((ek pr []).getD k 0).testBit i=true->E i=true:=by
 intro k
 induction k using Nat.strongRecOn with
 |ind k ih=>
  intro hk hj i hi
  obtain⟨j,h1,h2⟩:=rr pr [] k aF (fun k' GS j hj=>by simpa using hp k' GS j hj) hi
  simp only[List.length_nil,Nat.sub_zero]at h1
  rcases h2 with rfl|h2
  ·exact hj _ h1
  ·have Pv:=hp k hk j h1
   exact ih j Pv af (hE j af (hj j h1)) i h2
theorem AJ{pr:List (List Nat)}(hp:∀k,k<pr.length->∀j∈pr.getD k [],j<k):∀k,k<pr.length->∀i,((ek pr []).getD k 0).testBit i=true->i<k:=by
 intro k
 induction k using Nat.strongRecOn with
 |ind k ih=>
  intro hk i hi
  obtain⟨j,h1,h2⟩:=rr pr [] k aF (fun k' GS j hj=>by simpa using hp k' GS j hj) hi
  simp only[List.length_nil,Nat.sub_zero]at h1
  have Pv:=hp k hk j h1
  rcases h2 with rfl|h2
  ·exact Pv
  ·have:=ih j Pv af i h2;omega
def low(n:Nat):Code->IC
 | .skip=> .skip
 | .label _=> .skip
 | .scope c=>low n c
 | .region _ ops false=>match kX n ops ops.toList with
   |some l=> .ag l
   |none=> .bad
 | .region _ ops true=>match kX n ops ops.toList with
   |some l=>if yG l (gy ops)&&Sz (gy ops)then .dm l (gy ops)else .bad
   |none=> .bad
 | .seq a b=> .seq (low n a) (low n b)
 | .cond c a b=> .cond c (low n a) (low n b)
 | .block id a=> .block id (low n a)
 | .loop a=> .loop (low n a)
 | .exit id=> .exit id
 | .ret=> .ret
 | .rangeFunc g ps a b=> .It g ps.toList (low n a) (low n b)
 |_=> .bad
section
inductive D where
 |int (k:IntKind) (n:Int)|bool (b:Bool)|str (s:List UInt8)
 |eF|lN|ck|fj
 |agg (cs:List D)|sl (es:List D)|iface (t:TypeId) (d:D)
 |mp (ks vs:List D)
 deriving Inhabited
def Flat(vs:List Value):Prop:=∀u∈vs,u.oneCell'=true
def gz(B:Nat->Prop)(w:World)(a:Addr)(cs:Array Value):Prop:=∀j u,cs[j]? =some u->w.cell? (a.add j)=some u/\ ¬B a.block
def iA(es:Array MapEntry)(clock:Nat):Prop:=(∀e∈es.toList,e.born<clock)/\(es.toList.map (·.born)).Nodup
def yH(ks:List D):Prop:=ks.Nodup/\∀k∈ks,∃n,k= .int .i64 n
mutual
def D.den (B:Nat->Prop)(w:World):D->Value->Prop
 | .int k n,v=>v= .int k n
 | .bool b,v=>v= .bool b
 | .str l,v=>∃s:ByteArray,v= .string s/\s.data.toList=l
 | .eF,v=>v= .nilIface
 | .lN,v=>v= .pointer none
 | .ck,v=>v= .nilFunc
 | .fj,v=>v= .map none
 | .agg cs,v=>∃a,v= .agg a/\D.aC B w cs a.toList/\Flat a.toList
 | .sl es,v=>∃base len cap,v= .slice base len cap/\len=es.length/\len<=cap/\(base=none->cap=0)/\
  ∃sz,∀a,base=some a->(cap≠0->a.spot=none)/\D.elems B w sz a 0 es
 | .iface t d,v=>∃u,v= .iface t u/\D.den B w d u
 | .mp ks vs,v=>∃m es clock p,v= .map (some m)/\w.heap[m]? =some (.map es clock)/\ ¬B m/\iA es clock/\(p=es.toList\/(p.Perm es.toList/\yH ks))/\D.aC B w ks (p.map (·.key))/\D.aC B w vs (p.map (·.val))
def D.aC (B:Nat->Prop)(w:World):List D->List Value->Prop
 |[],vs=>vs=[]
 |d::ds,vs=>∃u us,vs=u::us/\D.den B w d u/\D.aC B w ds us
def D.elems (B:Nat->Prop)(w:World)(sz:Nat)(a:Addr):Nat->List D->Prop
 |_,[]=>True
 |i,e::es=>(∃ev:Value,ev.cells.size=sz/\gz B w (a.add (i*sz)) ev.cells/\D.den B w e ev)/\D.elems B w sz a (i+1) es
end
inductive V where
 |d (x:D)|aJ|agg (cs:List V)|bT (vs:List V)
 |ptr (id off:Nat)|osl (id ep:Nat)|pe (id ep i sz off:Nat)|pp (cs:List D) (off:Nat)
 |func (fn:Fn) (first cap:List V)|iface (t:TypeId) (x:V)
 |aa
 |q9 (es:List D)|xn (id off n:Nat)|mp (id:Nat)|fH|j7 (id:Nat)
 deriving Inhabited
inductive ad where
 |no|row (cs:List V)|arr (ep:Nat) (ty:TypeId) (sz:Nat) (es:List D)|tw (ep:Nat) (es:List D)
 |map (kt vt:TypeId) (es:List (D×D))
 |loop (nf n:Nat) (env:List V) (ps:List Nat) (a b:IC) (st:LoopState) (GU:Option jR)
 |bU (es:List (D×D))|ra (es:List (D×D)) (last:Option (D×D))|yI (s:List UInt8) (pos:Nat)
 deriving Inhabited
def aX(l:List V):Nat->V:=fun i=>l.getD i .aa
structure Hp where
 o:Nat->ad
 us:Nat->Prop
def ad.cf:ad->Option Nat
 | .arr ep _ _ _| .tw ep _=>some ep
 |_=>none
def ad.cg:ad->Bool
 | .row _| .map .. | .loop .. | .bU _| .ra .. | .yI .. =>true
 |_=>false
def ad.live:ad->Bool
 | .row _| .arr .. | .map .. | .loop .. | .ra .. | .yI .. =>true
 |_=>false
def dT:Value->Option Nat
 | .pointer (some a)| .slice (some a) _ _=>some a.block
 | .map (some b)=>some b
 |_=>none
abbrev Place:=Nat->Value
def cD(φ:Place)(H:Hp)(b:Nat):Prop:=∃id,(H.o id).live=true/\dT (φ id)=some b
def ao(M:Nat->Prop)(φ:Place)(H:Hp)(b:Nat):Prop:=M b\/cD φ H b
mutual
def V.den (B:Nat->Prop)(φ:Place)(H:Hp)(w:World):V->Value->Prop
 | .d x,v=>D.den B w x v
 | .aJ,v=>v= .slice none 0 0
 | .agg cs,v=>∃a,v= .agg a/\V.aC B φ H w cs a.toList/\Flat a.toList
 | .bT vs,v=>∃a,v= .tuple a/\V.aC B φ H w vs a.toList
 | .ptr id off,v=>v.oneCell'=true/\H.us id/\((H.o id).cg=true->∃b,φ id= .pointer (some ⟨b,0,none⟩)/\v= .pointer (some ⟨b,off,none⟩))
 | .osl id ep,v=>v.oneCell'=true/\H.us id/\∀e,(H.o id).cf=some e->ep<=e/\(ep=e->v=φ id)
 | .pe id ep i sz off,v=>v.oneCell'=true/\H.us id/\∀e,(H.o id).cf=some e->ep<=e/\(ep=e->∃b n c,φ id= .slice (some ⟨b,0,none⟩) n c/\v= .pointer (some ⟨b,i*sz+off,none⟩))
 | .pp cs off,v=>∃a ev,a.spot=none/\v= .pointer (some (a.add off))/\D.aC B w cs ev/\Flat ev/\gz B w a ev.toArray
 | .func fn first cap,v=>∃f c,v= .func fn f c/\V.aC B φ H w first f.toList/\V.aC B φ H w cap c.toList
 | .iface t x,v=>∃u,v= .iface t u/\V.den B φ H w x u
 | .aa,_=>True
 | .q9 es,v=>D.den B w (.sl es) v/\∃base n,v= .slice base n n
 | .xn id off n,v=>v.oneCell'=true/\H.us id/\((H.o id).cg=true->∃b,φ id= .pointer (some ⟨b,0,none⟩)/\v= .slice (some ⟨b,off,none⟩) n n)
 | .mp id,v=>v.oneCell'=true/\H.us id/\((H.o id).cg=true->v=φ id)
 | .fH,v=>∃b,v= .bool b
 | .j7 id,v=>v.oneCell'=true/\H.us id/\((H.o id).cg=true->∃b,φ id= .pointer (some ⟨b,0,none⟩)/\v= .func (.yield b) #[] #[])
def V.aC (B:Nat->Prop)(φ:Place)(H:Hp)(w:World):List V->List Value->Prop
 |[],vs=>vs=[]
 |x::xs,vs=>∃u us,vs=u::us/\V.den B φ H w x u/\V.aC B φ H w xs us
end
def eh(B:Nat->Prop)(w:World)(sz:Nat)(es:List D)(xs:List Value):Prop:=
 ∃evs:List Value,xs=evs.flatMap (·.cells.toList)/\(∀ev∈evs,ev.cells.size=sz)/\D.aC B w es evs
def aG(B:Nat->Prop)(w:World):List (D×D)->List MapEntry->Prop
 |[],es=>es=[]
 |(k,x)::l,es=>∃e es',es=e::es'/\D.den B w k e.key/\D.den B w x e.val/\aG B w l es'
def yJ(B:Nat->Prop)(w:World)(l:List (D×D))(last:Option (D×D))(b:Nat):Prop:=
 w.heap[b]? =some (.mapIter none 0 #[] 0)/\l=[]/\last=none\/
 ∃m since seen es,w.heap[b]? =some (.mapIter (some m) since seen since)/\w.heap[m]? =some (.map es since)/\ ¬B m/\iA es since/\(∃l',l'.Perm l/\aG B w l' (es.toList.filter fun e=> !seen.contains e.born))/\
  ∀k x,last=some (k,x)->∃e∈es.toList,seen.back?=some e.born/\D.den B w k e.key/\D.den B w x e.val
def kF(B:Nat->Prop)(w:World)(l:List (D×D))(v:Value):Prop:=
 ∃b es clock,v= .map (some b)/\w.heap[b]? =some (.map es clock)/\ ¬B b/\iA es clock/\aG B w l es.toList
def aO(M:Nat->Prop)(φ:Place)(H:Hp)(w:World)(id:Nat):Prop:=
 match H.o id with
 | .no=>True
 | .row cs=>∃b dM ty,φ id= .pointer (some ⟨b,0,none⟩)/\w.heap[b]? =some (.cells dM ty (0,0))/\V.aC (ao M φ H) φ H w cs dM.toList/\Flat dM.toList
 | .arr _ ty sz es=>0<sz/\∃xs,w.ownsRow 0 ty sz (φ id) es.length xs/\eh (ao M φ H) w sz es xs
 | .tw _ es=>D.den (ao M φ H) w (.sl es) (φ id)
 | .loop nf n env ps jr eR st GU=>∃b r,φ id= .pointer (some ⟨b,0,none⟩)/\w.heap[b]? =some (.loop r)/\r.fn<nf/\r.state=st/\r.pending=GU.map jR.code/\r.params.toList=ps/\r.tmps.size=n/\low n r.assign=jr/\low n r.body=eR/\
  ∀i,V.den (ao M φ H) φ H w (aX env i) (r.tmps.getD i undef)
 | .map _ _ l=>∃b es clock,φ id= .map (some b)/\w.heap[b]? =some (.map es clock)/\iA es clock/\aG (ao M φ H) w l es.toList
 | .bU l=>kF (ao M φ H) w l (φ id)
 | .ra l last=>∃b,φ id= .pointer (some ⟨b,0,none⟩)/\yJ (ao M φ H) w l last b
 | .yI s pos=>∃b,φ id= .pointer (some ⟨b,0,none⟩)/\w.heap[b]? =some (.stringIter ⟨⟨s⟩⟩ pos)
structure ax (M:Nat->Prop) (φ:Place) (H:Hp) (w:World):Prop where
 ok:∀id,aO M φ H w id
 fresh:∀id, ¬H.us id->H.o id= .no
 apart:∀i j b,(H.o i).live=true->(H.o j).live=true->dT (φ i)=some b->dT (φ j)=some b->i=j
 ours:∀b,cD φ H b-> ¬M b/\b<w.heap.size
 Ak:∀b,M b->b<w.heap.size
structure dV (m:Nat->Prop) (w w':World):Prop where
 os:w'.os=w.os
 tape:w'.tape=w.tape
 output:w'.output=w.output
 size:w.heap.size<=w'.heap.size
 block:∀k,k<w.heap.size-> ¬m k->w'.heap[k]? =w.heap[k]?
structure dN (φ:Place) (H:Hp) (aE:Place) (H':Hp):Prop where
 us:∀id,H.us id->H'.us id
 row:∀id,H.us id->(H'.o id).cg=true->(H.o id).cg=true/\aE id=φ id
 ep:∀id e',H.us id->(H'.o id).cf=some e'->∃e,(H.o id).cf=some e/\e<=e'/\(e=e'->aE id=φ id)
structure Trans (φ:Place) (H:Hp) (w:World) (aE:Place) (H':Hp) (w':World):Prop where
 cu:dV (cD φ H) w w'
 grow:∀b,cD aE H' b->cD φ H b\/w.heap.size<=b
 rel:dN φ H aE H'
theorem dV.refl (m:Nat->Prop)(w:World):dV m w w:=⟨rfl,rfl,rfl,Nat.le_refl _,fun _ _ _=>rfl⟩
theorem dN.refl (φ:Place)(H:Hp):dN φ H φ H:=⟨fun _ h=>h,fun _ _ h=>⟨h,rfl⟩,fun _ e' _ h=>⟨e',h,Nat.le_refl _,fun _=>rfl⟩⟩
theorem Trans.refl (φ:Place)(H:Hp)(w:World):Trans φ H w φ H w:=⟨dV.refl _ _,fun _ h=> .inl h,dN.refl _ _⟩
theorem dN.trans {φ aE Dg:Place}{H H' YH:Hp}(h:dN φ H aE H')(k:dN aE H' Dg YH):dN φ H Dg YH where
 us id au:=k.us id (h.us id au)
 row id au hr:=by
  obtain⟨a,b⟩:=k.row id (h.us id au) hr
  obtain⟨c,d⟩:=h.row id au a
  exact⟨c,b.trans d⟩
 ep id e' au he:=by
  obtain⟨e,h1,h2,h3⟩:=k.ep id e' (h.us id au) he
  obtain⟨e0,g1,g2,g3⟩:=h.ep id e au h1
  refine⟨e0,g1,Nat.le_trans g2 h2,fun heq=> ?_⟩
  have a:e0=e:=af
  have b:e=e':=af
  exact(h3 b).trans (g3 a)
theorem Trans.trans {φ aE Dg:Place}{H H' YH:Hp}{w w' Sb:World}(h:Trans φ H w aE H' w')(k:Trans aE H' w' Dg YH Sb):Trans φ H w Dg YH Sb where
 cu:={
  os:=k.cu.os.trans h.cu.os
  tape:=k.cu.tape.trans h.cu.tape
  output:=k.cu.output.trans h.cu.output
  size:=Nat.le_trans h.cu.size k.cu.size
  block:=fun b hb hm=>by
   rw[k.cu.block b (Nat.lt_of_lt_of_le hb h.cu.size) (fun hl=>by
    rcases h.grow b hl with h1|h1
    ·exact hm h1
    ·omega),h.cu.block b hb hm]}
 grow b hl:=by
  rcases k.grow b hl with h1|h1
  ·exact h.grow b h1
  ·exact .inr (Nat.le_trans h.cu.size h1)
 rel:=h.rel.trans k.rel
@[simp] theorem VO (a:Addr) (j:Nat):(a.add j).block=a.block:=by unfold Addr.add;split<;>rfl
def pU(w:World)(b:Nat):Prop:=∃cs ty fz,w.heap[b]? =some (.cells cs ty fz)
def cP(w:World)(b:Nat):Prop:=pU w b\/∃es clock,w.heap[b]? =some (.map es clock)
theorem cP.lt {w:World}{b:Nat}(h:cP w b):b<w.heap.size:=by
 rcases Nat.lt_or_ge b w.heap.size with hl|hl
 ·exact hl
 ·rcases h with⟨cs,ty,fz,h⟩|⟨es,clock,h⟩
  ·rw[Array.getElem?_eq_none hl]at h;cases h
  ·rw[Array.getElem?_eq_none hl]at h;cases h
theorem oG{w:World}{a:Addr}{u:Value}(h:w.cell? a=some u):pU w a.block:=by
 unfold World.cell? at h
 split at h
 ·exact⟨_,_,_,by assumption⟩
 ·cases h
theorem tx{w:World}{a:Addr}{u:Value}(h:w.cell? a=some u):cP w a.block:= .inl (oG h)
theorem gz.mono {B B':Nat->Prop}{w w':World}{a:Addr}{cs:Array Value}
 (hb:∀b,cP w b-> ¬B b->w'.heap[b]? =w.heap[b]? /\ ¬B' b) (h:gz B w a cs):gz B' w' a cs:=by
 intro j u hj
 obtain⟨h1,h2⟩:=h j u hj
 have b8:cP w a.block:=by simpa using tx h1
 exact Yl
mutual
theorem D.aS {B B':Nat->Prop}{w w':World}(hb:∀b,cP w b-> ¬B b->w'.heap[b]? =w.heap[b]? /\ ¬B' b):
 ∀ (x:D) (v:Value),D.den B w x v->D.den B' w' x v
 | .int _ _,_,h| .bool _,_,h| .str _,_,h| .eF,_,h| .lN,_,h| .ck,_,h| .fj,_,h=>by simpa[D.den]using h
 | .agg cs,_,h=>by
   obtain⟨a,rfl,h,hf⟩:=h
   exact⟨a,rfl,D.aT hb cs _ h,hf⟩
 | .sl es,_,h=>by
   obtain⟨base,len,cap,rfl,h1,h2,h3,sz,h4⟩:=h
   exact⟨base,len,cap,rfl,h1,h2,h3,sz,fun a ha=>⟨(h4 a ha).1,D.uA hb sz a es 0 (h4 a ha).2⟩⟩
 | .iface t d,_,h=>by
   obtain⟨u,rfl,h⟩:=h
   exact⟨u,rfl,D.aS hb d u h⟩
 | .mp ks vs,_,h=>by
   obtain⟨m,es,clock,p,rfl,h1,h2,h3,hp,h4,h5⟩:=h
   obtain⟨k1,k2⟩:=hb m (.inr ⟨es,clock,h1⟩) h2
   exact⟨m,es,clock,p,rfl,k1.trans h1,k2,h3,hp,D.aT hb ks _ h4,D.aT hb vs _ h5⟩
theorem D.aT {B B':Nat->Prop}{w w':World}(hb:∀b,cP w b-> ¬B b->w'.heap[b]? =w.heap[b]? /\ ¬B' b):
 ∀ (ds:List D) (vs:List Value),D.aC B w ds vs->D.aC B' w' ds vs
 |[],_,h=>h
 |d::ds,_,h=>by
  obtain⟨u,us,rfl,h1,h2⟩:=h
  exact⟨u,us,rfl,D.aS hb d u h1,D.aT hb ds us h2⟩
theorem D.uA {B B':Nat->Prop}{w w':World}(hb:∀b,cP w b-> ¬B b->w'.heap[b]? =w.heap[b]? /\ ¬B' b)(sz:Nat)(a:Addr):
 ∀ (es:List D) (i:Nat),D.elems B w sz a i es->D.elems B' w' sz a i es
 |[],_,_=>trivial
 |e::es,i,h=>by
  obtain⟨⟨ev,h1,h2,h3⟩,h4⟩:=h
  exact⟨⟨ev,h1,h2.mono hb,D.aS hb e ev h3⟩,D.uA hb sz a es (i+1) h4⟩
end
theorem aG.mono {B B':Nat->Prop}{w w':World}(hb:∀b,cP w b-> ¬B b->w'.heap[b]? =w.heap[b]? /\ ¬B' b):
 ∀ (l:List (D×D)) (es:List MapEntry),aG B w l es->aG B' w' l es
 |[],_,h=>h
 |(k,x)::l,_,h=>by
  obtain⟨e,es,rfl,h1,h2,h3⟩:=h
  exact⟨e,es,rfl,D.aS hb k _ h1,D.aS hb x _ h2,aG.mono hb l es h3⟩
theorem yJ.mono {B B':Nat->Prop}{w w':World}(hb:∀b,cP w b-> ¬B b->w'.heap[b]? =w.heap[b]? /\ ¬B' b){l:List (D×D)}{last:Option (D×D)}{b:Nat}(hbb:w'.heap[b]? =w.heap[b]?)(h:yJ B w l last b):yJ B' w' l last b:=by
 rcases h with⟨h1,h2⟩|⟨m,since,seen,es,h1,h2,h3,h4,h5,h6⟩
 ·exact .inl ⟨hbb.trans h1,h2⟩
 ·obtain⟨k1,k2⟩:=hb m (.inr ⟨es,since,h2⟩) h3
  obtain⟨l',h5,pR⟩:=h5
  refine .inr ⟨m,since,seen,es,hbb.trans h1,k1.trans h2,k2,h4,⟨l',h5,aG.mono hb l' _ pR⟩,fun k x e=> ?_⟩
  obtain⟨e,g1,g2,g3,g4⟩:=h6 k x e
  exact⟨e,g1,g2,D.aS hb k _ g3,D.aS hb x _ g4⟩
theorem kY{B:Nat->Prop}{w:World}:∀ (l:List (D×D)) (es:List MapEntry),aG B w l es↔D.aC B w (l.map (·.1)) (es.map (·.key))/\D.aC B w (l.map (·.2)) (es.map (·.val))
 |[],es=>by
  simp only[aG,List.map_nil,D.aC]
  constructor
  ·rintro rfl;exact⟨rfl,rfl⟩
  ·rintro⟨h,_⟩;simpa using h
 |(k,x)::l,es=>by
  simp only[aG,List.map_cons,D.aC]
  constructor
  ·rintro⟨e,es',rfl,h1,h2,h3⟩
   obtain⟨g1,g2⟩:=(kY l es').1 h3
   exact⟨⟨_,_,rfl,h1,g1⟩,⟨_,_,rfl,h2,g2⟩⟩
  ·rintro⟨⟨u,us,h1,h2,h3⟩,⟨v,vs,h4,h5,h6⟩⟩
   cases es with
   |nil=>simp at h1
   |cons e es'=>
    simp only[List.map_cons,List.cons.injEq]at h1 h4
    obtain⟨rfl,rfl⟩:=h1
    obtain⟨rfl,rfl⟩:=h4
    exact⟨e,es',rfl,h2,h5,(kY l es').2 ⟨h3,h6⟩⟩
theorem kF.den {B:Nat->Prop}{w:World}{l:List (D×D)}{v:Value}(h:kF B w l v):D.den B w (.mp (l.map (·.1)) (l.map (·.2))) v:=by
 obtain⟨b,es,clock,h1,h2,h3,h4,h5⟩:=h
 obtain⟨h6,h7⟩:=(kY _ _).1 h5
 exact⟨b,es,clock,es.toList,h1,h2,h3,h4, .inl rfl,h6,h7⟩
theorem kF.mono {B B':Nat->Prop}{w w':World}(hb:∀b,cP w b-> ¬B b->w'.heap[b]? =w.heap[b]? /\ ¬B' b){l:List (D×D)}{v:Value}(h:kF B w l v):kF B' w' l v:=by
 obtain⟨b,es,clock,h1,h2,h3,h4,h5⟩:=h
 obtain⟨k1,k2⟩:=hb b (.inr ⟨es,clock,h2⟩) h3
 exact⟨b,es,clock,h1,k1.trans h2,k2,h4,aG.mono hb l _ h5⟩
theorem D.aA {B:Nat->Prop}{w:World}:∀ (ds:List D) (vs:List Value),D.aC B w ds vs->vs.length=ds.length
 |[],_,h=>by simp[D.aC]at h;simp[h]
 |d::ds,_,h=>by obtain⟨u,us,rfl,_,h2⟩:=h;simp[D.aA ds us h2]
theorem D.dc {B:Nat->Prop}{w:World}:∀ (ds:List D) (vs:List Value) (i:Nat) (d:D),D.aC B w ds vs->ds[i]? =some d->∃v,vs[i]? =some v/\D.den B w d v
 |[],_,_,_,_,hd=>by simp at hd
 |d::ds,_,0,x,h,hd=>by
  exact Pq
 |d::ds,_,i+1,x,h,hd=>by
  obtain⟨u,us,rfl,_,h2⟩:=h
  simpa using D.dc ds us i x h2 (by simpa using hd)
theorem D.xo {B:Nat->Prop}{w:World}{sz:Nat}{a:Addr}:∀ (es:List D) (i j:Nat) (e:D),D.elems B w sz a i es->es[j]? =some e->
 ∃ev:Value,ev.cells.size=sz/\gz B w (a.add ((i+j)*sz)) ev.cells/\D.den B w e ev
 |[],_,_,_,_,hd=>by simp at hd
 |e::es,i,0,x,h,hd=>by
  simp at hd;subst hd;simpa using h.1
 |e::es,i,j+1,x,h,hd=>by
  have:=D.xo es (i+1) j x h.2 (by simpa using hd)
  simpa[Nat.add_assoc,Nat.add_comm 1 j]using this
section
variable {M:Nat->Prop}{φ aE:Place}{H H':Hp}{w w':World}
theorem Trans.blocks (ht:Trans φ H w aE H' w')(b:Nat)(hc:cP w b)(h: ¬ao M φ H b):w'.heap[b]? =w.heap[b]? /\ ¬ao M aE H' b:=by
 have hb:=hc.lt
 refine⟨ht.cu.block b hb fun hl=>h (.inr hl), ?_⟩
 rintro(h1|h1)
 ·exact h (.inl h1)
 ·rcases ht.grow b h1 with h2|h2
  ·exact h (.inr h2)
  ·omega
mutual
theorem V.kZ (hb:∀b,cP w b-> ¬ao M φ H b->w'.heap[b]? =w.heap[b]? /\ ¬ao M aE H' b)(hr:dN φ H aE H'):∀ (x:V) (v:Value),V.den (ao M φ H) φ H w x v->V.den (ao M aE H') aE H' w' x v
 | .d x,v,h=>D.aS hb x v h
 | .aJ,_,h=>h
 | .aa,_,_=>trivial
 | .q9 es,v,h=>⟨D.aS hb (.sl es) v h.1,h.2⟩
 | .xn id off n,v,h=>by
   exact zw7
 | .mp id,v,h=>by
   obtain⟨h0,h1,h2⟩:=h
   refine⟨h0,hr.us id h1,fun cz=> ?_⟩
   obtain⟨h3,h4⟩:=hr.row id h1 cz
   exact(h2 h3).trans h4.symm
 | .fH,v,h=>h
 | .j7 id,v,h=>by
   exact zw7
 | .agg cs,_,h=>by obtain⟨a,rfl,h,hf⟩:=h;exact⟨a,rfl,V.fI hb hr cs _ h,hf⟩
 | .bT cs,_,h=>by obtain⟨a,rfl,h⟩:=h;exact⟨a,rfl,V.fI hb hr cs _ h⟩
 | .ptr id off,v,h=>by
   exact zw7
 | .osl id ep,v,h=>by
   exact Yc
 | .pe id ep i sz off,v,h=>by
   exact Yc
 | .pp cs off,v,h=>by
   obtain⟨a,ev,h1,h2,h3,h5,h4⟩:=h
   exact⟨a,ev,h1,h2,D.aT hb cs ev h3,h5,h4.mono hb⟩
 | .func fn first cap,_,h=>by
   obtain⟨f,c,rfl,h1,h2⟩:=h
   exact⟨f,c,rfl,V.fI hb hr first _ h1,V.fI hb hr cap _ h2⟩
 | .iface t x,_,h=>by obtain⟨u,rfl,h⟩:=h;exact⟨u,rfl,V.kZ hb hr x u h⟩
theorem V.fI (hb:∀b,cP w b-> ¬ao M φ H b->w'.heap[b]? =w.heap[b]? /\ ¬ao M aE H' b)(hr:dN φ H aE H'):∀ (ds:List V) (vs:List Value),V.aC (ao M φ H) φ H w ds vs->V.aC (ao M aE H') aE H' w' ds vs
 |[],_,h=>h
 |x::xs,_,h=>by
  obtain⟨u,us,rfl,h1,h2⟩:=h
  exact⟨u,us,rfl,V.kZ hb hr x u h1,V.fI hb hr xs us h2⟩
end
theorem V.aS (ht:Trans φ H w aE H' w')(x:V)(v:Value)(h:V.den (ao M φ H) φ H w x v):V.den (ao M aE H') aE H' w' x v:=V.kZ ht.blocks ht.rel x v h
theorem V.aT (ht:Trans φ H w aE H' w')(ds:List V)(vs:List Value)(h:V.aC (ao M φ H) φ H w ds vs):V.aC (ao M aE H') aE H' w' ds vs:=V.fI ht.blocks ht.rel ds vs h
end
end
end Go.Proofs.YtlhemmpklhhgoaaGreat
