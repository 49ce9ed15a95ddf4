/-
  A PART OF THE PROOF. Conditions: none.
-/
import Derived.WalkKit
import Derived.Below
set_option linter.unusedSimpArgs false
set_option linter.unusedVariables false
namespace Go.Proofs.YtlhemmpklhhgoaaGreat
theorem bJ{G G':Prop}(g:G')(h:G=G':=by simp+contextual (disch:=first|omega|simp only[go_sem,false_implies]) only[go_sem,wrap64,if_pos,and_self]<;>rfl):G:=Eq.mpr h g
theorem ma{G G':Prop}(g:G')(h:G=G':=by simp+contextual (disch:=first|omega|simp only[go_sem,false_implies]) only[go_sem,wrap64,if_pos,Nat.add_assoc,Nat.left_eq_add,Nat.add_eq_left,Nat.add_left_cancel_iff]<;>rfl):G:=Eq.mpr h g
theorem l6{G:Prop}(h:G:=by simp+contextual (disch:=first|omega|simp only[go_sem,false_implies]) only[go_sem,wrap64,if_pos,and_self]):G:=h
theorem rT{P0 G G':Prop}(p0:P0)(g:G')(h:P0->G=G':=by intro p0;simp+contextual (disch:=first|omega|simp only[go_sem,false_implies]) only[go_sem,wrap64,if_pos,List.length_map,p0]<;>rfl):G:=Eq.mpr (h p0) g
theorem pk{P0 G G':Prop}(p0:P0)(g:G')(h:P0->G=G':=by intro p0;simp+contextual (disch:=first|omega|simp only[go_sem,false_implies]) only[go_sem,wrap64,if_pos,p0]<;>rfl):G:=Eq.mpr (h p0) g
theorem Cr{P0 P1 P2 P3 G G':Prop}(p0:P0)(p1:P1)(p2:P2)(p3:P3)(g:G')(h:P0->P1->P2->P3->G=G':=by intro p0 p1 p2 p3;simp+contextual (disch:=first|omega|simp only[go_sem,false_implies]) only[go_sem,wrap64,if_pos,Nat.add_assoc,Nat.left_eq_add,Nat.add_eq_left,Nat.add_left_cancel_iff,p0,p1,p2,p3]<;>rfl):G:=Eq.mpr (h p0 p1 p2 p3) g
theorem zR{G G':Prop}(g:G')(h:G=G':=by simp+contextual (disch:=first|omega|simp only[go_sem,false_implies]) only[go_sem,wrap64,if_pos,List.length_map]<;>rfl):G:=Eq.mpr h g
theorem cn{G G':Prop}(g:G')(h:G=G':=by simp+contextual only[go_sem]<;>rfl):G:=Eq.mpr h g
theorem HC{P0 G G':Prop}(p0:P0)(g:G')(h:P0->G=G':=by intro p0;simp+contextual (disch:=first|omega|simp only[go_sem,false_implies]) only[go_sem,wrap64,if_pos,Nat.add_assoc,Nat.left_eq_add,Nat.add_eq_left,Nat.add_left_cancel_iff,p0]<;>rfl):G:=Eq.mpr (h p0) g
theorem Nz{P0 P1 P2 P3 P4 P5 P6 G G':Prop}(p0:P0)(p1:P1)(p2:P2)(p3:P3)(p4:P4)(p5:P5)(p6:P6)(g:G')(h:P0->P1->P2->P3->P4->P5->P6->G=G':=by intro p0 p1 p2 p3 p4 p5 p6;simp+contextual (disch:=first|omega|simp only[go_sem,false_implies]) only[go_sem,wrap64,if_pos,Nat.add_assoc,Nat.left_eq_add,Nat.add_eq_left,Nat.add_left_cancel_iff,p0,p1,p2,p3,p4,p5,p6]<;>rfl):G:=Eq.mpr (h p0 p1 p2 p3 p4 p5 p6) g
theorem Cw{P0 P1 P2 P3 P4 G G':Prop}(p0:P0)(p1:P1)(p2:P2)(p3:P3)(p4:P4)(g:G')(h:P0->P1->P2->P3->P4->G=G':=by intro p0 p1 p2 p3 p4;simp+contextual (disch:=first|omega|simp only[go_sem,false_implies]) only[go_sem,wrap64,if_pos,Nat.add_assoc,Nat.left_eq_add,Nat.add_eq_left,Nat.add_left_cancel_iff,p0,p1,p2,p3,p4]<;>rfl):G:=Eq.mpr (h p0 p1 p2 p3 p4) g
theorem FJ{P0 P1 P2 P3 G G':Prop}(p0:P0)(p1:P1)(p2:P2)(p3:P3)(g:G')(h:P0->P1->P2->P3->G=G':=by intro p0 p1 p2 p3;simp+contextual (disch:=first|omega|simp only[go_sem,false_implies]) only[go_sem,wrap64,if_pos,List.length_map,Nat.add_assoc,Nat.left_eq_add,Nat.add_eq_left,Nat.add_left_cancel_iff,p0,p1,p2,p3]<;>rfl):G:=Eq.mpr (h p0 p1 p2 p3) g
theorem FK{P0 P1 P2 P3 P4 P5 P6 P7 P8 G G':Prop}(p0:P0)(p1:P1)(p2:P2)(p3:P3)(p4:P4)(p5:P5)(p6:P6)(p7:P7)(p8:P8)(g:G')(h:P0->P1->P2->P3->P4->P5->P6->P7->P8->G=G':=by intro p0 p1 p2 p3 p4 p5 p6 p7 p8;simp+contextual (disch:=first|omega|simp only[go_sem,false_implies]) only[go_sem,wrap64,if_pos,Nat.add_assoc,Nat.left_eq_add,Nat.add_eq_left,Nat.add_left_cancel_iff,p0,p1,p2,p3,p4,p5,p6,p7,p8]<;>rfl):G:=Eq.mpr (h p0 p1 p2 p3 p4 p5 p6 p7 p8) g
theorem zS{P0 P1 G G':Prop}(p0:P0)(p1:P1)(g:G')(h:P0->P1->G=G':=by intro p0 p1;simp+contextual (disch:=first|omega|simp only[go_sem,false_implies]) only[go_sem,wrap64,if_pos,List.length_map,p0,p1]<;>rfl):G:=Eq.mpr (h p0 p1) g
theorem HD{G:Prop}(h:G:=by simp+contextual (disch:=first|omega|simp only[go_sem,false_implies]) only[go_sem,wrap64,if_pos,Nat.add_assoc,Nat.left_eq_add,Nat.add_eq_left,Nat.add_left_cancel_iff,HE,HG]):G:=h
theorem Cy{P0 G:Prop}(p0:P0)(h:P0->G:=by intro p0;simp+contextual (disch:=first|omega|simp only[go_sem,false_implies]) only[go_sem,wrap64,if_pos,p0]):G:=h p0
theorem Cz{P0 P1 P2 G G':Prop}(p0:P0)(p1:P1)(p2:P2)(g:G')(h:P0->P1->P2->G=G':=by intro p0 p1 p2;simp+contextual (disch:=first|omega|simp only[go_sem,false_implies]) only[go_sem,wrap64,if_pos,p0,p1,p2]<;>rfl):G:=Eq.mpr (h p0 p1 p2) g
theorem FL{P0 P1 P2 P3 P4 P5 G G':Prop}(p0:P0)(p1:P1)(p2:P2)(p3:P3)(p4:P4)(p5:P5)(g:G')(h:P0->P1->P2->P3->P4->P5->G=G':=by intro p0 p1 p2 p3 p4 p5;simp+contextual (disch:=first|omega|simp only[go_sem,false_implies]) only[go_sem,wrap64,if_pos,p0,p1,p2,p3,p4,p5]<;>rfl):G:=Eq.mpr (h p0 p1 p2 p3 p4 p5) g
theorem Qn{P0 P1 P2 P3 P4 P5 P6 P7 G G':Prop}(p0:P0)(p1:P1)(p2:P2)(p3:P3)(p4:P4)(p5:P5)(p6:P6)(p7:P7)(g:G')(h:P0->P1->P2->P3->P4->P5->P6->P7->G=G':=by intro p0 p1 p2 p3 p4 p5 p6 p7;simp+contextual (disch:=first|omega|simp only[go_sem,false_implies]) only[go_sem,wrap64,if_pos,List.length_map,Nat.add_assoc,Nat.left_eq_add,Nat.add_eq_left,Nat.add_left_cancel_iff,p0,p1,p2,p3,p4,p5,p6,p7]<;>rfl):G:=Eq.mpr (h p0 p1 p2 p3 p4 p5 p6 p7) g
theorem Qo{P0 P1 P2 P3 P4 P5 P6 G G':Prop}(p0:P0)(p1:P1)(p2:P2)(p3:P3)(p4:P4)(p5:P5)(p6:P6)(g:G')(h:P0->P1->P2->P3->P4->P5->P6->G=G':=by intro p0 p1 p2 p3 p4 p5 p6;simp+contextual (disch:=first|omega|simp only[go_sem,false_implies]) only[go_sem,wrap64,if_pos,List.length_map,Nat.add_assoc,Nat.left_eq_add,Nat.add_eq_left,Nat.add_left_cancel_iff,p0,p1,p2,p3,p4,p5,p6]<;>rfl):G:=Eq.mpr (h p0 p1 p2 p3 p4 p5 p6) g
theorem HH{P0 P1 P2 P3 G G':Prop}(p0:P0)(p1:P1)(p2:P2)(p3:P3)(g:G')(h:P0->P1->P2->P3->G=G':=by intro p0 p1 p2 p3;simp+contextual (disch:=first|omega|simp only[go_sem,false_implies]) only[go_sem,wrap64,if_pos,List.length_map,p0,p1,p2,p3]<;>rfl):G:=Eq.mpr (h p0 p1 p2 p3) g
theorem HI{P0 P1 G:Prop}(p0:P0)(p1:P1)(h:P0->P1->G:=by intro p0 p1;simp+contextual (disch:=first|omega|simp only[go_sem,false_implies]) only[go_sem,wrap64,if_pos,List.length_map,p0,p1]):G:=h p0 p1
theorem Qp{P0 P1 P2 P3 P4 G G':Prop}(p0:P0)(p1:P1)(p2:P2)(p3:P3)(p4:P4)(g:G')(h:P0->P1->P2->P3->P4->G=G':=by intro p0 p1 p2 p3 p4;simp+contextual (disch:=first|omega|simp only[go_sem,false_implies]) only[go_sem,wrap64,if_pos,fx,Nat.add_assoc,Nat.left_eq_add,Nat.add_eq_left,Nat.add_left_cancel_iff,p0,p1,p2,p3,p4]<;>rfl):G:=Eq.mpr (h p0 p1 p2 p3 p4) g
theorem Qq{P0 P1 P2 P3 P4 P5 G G':Prop}(p0:P0)(p1:P1)(p2:P2)(p3:P3)(p4:P4)(p5:P5)(g:G')(h:P0->P1->P2->P3->P4->P5->G=G':=by intro p0 p1 p2 p3 p4 p5;simp+contextual (disch:=first|omega|simp only[go_sem,false_implies]) only[go_sem,wrap64,if_pos,Nat.add_assoc,Nat.left_eq_add,Nat.add_eq_left,Nat.add_left_cancel_iff,p0,p1,p2,p3,p4,p5]<;>rfl):G:=Eq.mpr (h p0 p1 p2 p3 p4 p5) g
theorem Lc{G G':Prop}(g:G')(h:G=G':=by simp+contextual (disch:=first|omega|simp only[go_sem,false_implies]) only[go_sem,wrap64,if_pos,List.length_map,beq_self_eq_true]<;>rfl):G:=Eq.mpr h g
theorem Qr{P0 P1 G G':Prop}(p0:P0)(p1:P1)(g:G')(h:P0->P1->G=G':=by intro p0 p1;simp+contextual (disch:=first|omega|simp only[go_sem,false_implies]) only[go_sem,wrap64,if_pos,Nat.add_assoc,Nat.left_eq_add,Nat.add_eq_left,Nat.add_left_cancel_iff,p0,p1]<;>rfl):G:=Eq.mpr (h p0 p1) g
theorem Ld{P0 P1 P2 G G':Prop}(p0:P0)(p1:P1)(p2:P2)(g:G')(h:P0->P1->P2->G=G':=by intro p0 p1 p2;simp+contextual (disch:=first|omega|simp only[go_sem,false_implies]) only[go_sem,wrap64,if_pos,List.length_map,p0,p1,p2]<;>rfl):G:=Eq.mpr (h p0 p1 p2) g
theorem Le{P0 G:Prop}(p0:P0)(h:P0->G:=by intro p0;simp+contextual (disch:=first|omega|simp only[go_sem,false_implies]) only[go_sem,wrap64,if_pos,List.length_map,p0]):G:=h p0
theorem Lf{G:Prop}(h:G:=by simp+contextual (disch:=first|omega|simp only[go_sem,false_implies]) only[go_sem,wrap64,if_pos,HE,HG]):G:=h
theorem jX{P0 G G':Prop}(p0:P0)(g:G')(h:P0->G=G':=by intro p0;simp+contextual only[go_sem,p0]<;>rfl):G:=Eq.mpr (h p0) g
theorem Qs{P0 G G':Prop}(p0:P0)(g:G')(h:P0->G=G':=by intro p0;simp+contextual (disch:=first|omega|simp only[go_sem,false_implies]) only[go_sem,wrap64,if_pos,List.length_map,bne_self_eq_false,p0]<;>rfl):G:=Eq.mpr (h p0) g
theorem Vj{P0 P1 P2 G G':Prop}(p0:P0)(p1:P1)(p2:P2)(g:G')(h:P0->P1->P2->G=G':=by intro p0 p1 p2;simp+contextual (disch:=first|omega|simp only[go_sem,false_implies]) only[go_sem,wrap64,if_pos,mc,Nat.add_assoc,Nat.left_eq_add,Nat.add_eq_left,Nat.add_left_cancel_iff,List.length_map,p0,p1,p2]<;>rfl):G:=Eq.mpr (h p0 p1 p2) g
theorem Qt{G:Prop}(h:G:=by simp+contextual (disch:=first|omega|simp only[go_sem,false_implies]) only[go_sem,wrap64,if_pos,List.length_map,beq_self_eq_true]):G:=h
theorem Lg{P0 P1 G G':Prop}(p0:P0)(p1:P1)(g:G')(h:P0->P1->G=G':=by intro p0 p1;simp+contextual (disch:=first|omega|simp only[go_sem,false_implies]) only[go_sem,wrap64,if_pos,p0,p1]<;>rfl):G:=Eq.mpr (h p0 p1) g
theorem Vk{P0 P1 P2 P3 P4 G G':Prop}(p0:P0)(p1:P1)(p2:P2)(p3:P3)(p4:P4)(g:G')(h:P0->P1->P2->P3->P4->G=G':=by intro p0 p1 p2 p3 p4;simp+contextual (disch:=first|omega|simp only[go_sem,false_implies]) only[go_sem,wrap64,if_pos,List.length_map,Nat.add_assoc,Nat.left_eq_add,Nat.add_eq_left,Nat.add_left_cancel_iff,p0,p1,p2,p3,p4]<;>rfl):G:=Eq.mpr (h p0 p1 p2 p3 p4) g
theorem Vl{P0 G G':Prop}(p0:P0)(g:G')(h:P0->G=G':=by intro p0;simp+contextual (disch:=first|omega|simp only[go_sem,false_implies]) only[go_sem,wrap64,if_pos,List.length_map,Nat.add_assoc,Nat.left_eq_add,Nat.add_eq_left,Nat.add_left_cancel_iff,p0]<;>rfl):G:=Eq.mpr (h p0) g
theorem Vm{G G':Prop}(g:G')(h:G=G':=by simp+contextual (disch:=first|omega|simp only[go_sem,false_implies]) only[go_sem,wrap64,if_pos,Nat.add_assoc,Nat.left_eq_add,Nat.add_eq_left,Nat.add_left_cancel_iff,List.length_map]<;>rfl):G:=Eq.mpr h g
theorem Vn{P0 P1 P2 G G':Prop}(p0:P0)(p1:P1)(p2:P2)(g:G')(h:P0->P1->P2->G=G':=by intro p0 p1 p2;simp+contextual (disch:=first|omega|simp only[go_sem,false_implies]) only[go_sem,wrap64,if_pos,Nat.add_assoc,Nat.left_eq_add,Nat.add_eq_left,Nat.add_left_cancel_iff,p0,p1,p2]<;>rfl):G:=Eq.mpr (h p0 p1 p2) g
theorem Qu{P0 P1 P2 G:Prop}(p0:P0)(p1:P1)(p2:P2)(h:P0->P1->P2->G:=by intro p0 p1 p2;simp+contextual (disch:=first|omega|simp only[go_sem,false_implies]) only[go_sem,wrap64,if_pos,List.length_map,p0,p1,p2]):G:=h p0 p1 p2
theorem Vo{G G':Prop}(g:G')(h:G=G':=by simp+contextual (disch:=first|omega|simp only[go_sem,false_implies]) only[go_sem,wrap64,if_pos,List.length_map,beq_self_eq_true,Bool.and_true]<;>rfl):G:=Eq.mpr h g
theorem Qv{P0 G G':Prop}(p0:P0)(g:G')(h:P0->G=G':=by intro p0;simp+contextual only[go_sem,Nat.add_assoc,Nat.left_eq_add,Nat.add_eq_left,Nat.add_left_cancel_iff,p0]<;>rfl):G:=Eq.mpr (h p0) g
theorem Vp{G G':Prop}(g:G')(h:G=G':=by simp+contextual only[go_sem,HJ,Nat.add_assoc,Nat.left_eq_add,Nat.add_eq_left,Nat.add_left_cancel_iff,List.replicate]<;>rfl):G:=Eq.mpr h g
theorem Vq{G G':Prop}(g:G')(h:G=G':=by simp+contextual (disch:=first|omega|simp only[go_sem,false_implies]) only[go_sem,wrap64,if_pos,bne_self_eq_false]<;>rfl):G:=Eq.mpr h g
theorem Vr{G G':Prop}(g:G')(h:G=G':=by simp+contextual (disch:=first|omega|simp only[go_sem,false_implies]) only[go_sem,wrap64,if_pos,pn]<;>rfl):G:=Eq.mpr h g
theorem Vt{G G':Prop}(g:G')(h:G=G':=by simp+contextual (disch:=first|omega|simp only[go_sem,false_implies]) only[go_sem,wrap64,if_pos,mc]<;>rfl):G:=Eq.mpr h g
theorem Vu{G:Prop}(h:G:=by simp+contextual (disch:=first|omega|simp only[go_sem,false_implies]) only[go_sem,wrap64,if_pos,mc]):G:=h
theorem dt{P:Prop}(h:P:=by repeat(first|exact hg.mono (by omega)|exact Good.nil|refine Good.aA ?_ (by omega) rfl|refine Good.aA ?_ (by omega) (D4 _ _ _ (by omega))|refine Good.aA ?_ (by omega) (by simp[aa.refs,V.aN,V.refs]<;>omega))):P:=h
theorem dU{P:Prop}(h:P:=by(repeat(first|exact wh|refine fC ?_|refine nk rfl ?_|refine nk (lQ (nV (by omega))) ?_|refine D5 rfl (by simp[V.refs,V.aN]<;>first|omega|assumption) ?_))):P:=h
theorem ae{P:Prop}(h:P:=by omega):P:=h
theorem ai{P:Prop}(h:P:=by kernel_rfl):P:=h
theorem NA{P:Prop}(h:P:=by simp[V.refs,V.aN]<;>first|omega|assumption):P:=h
theorem dH{P:Prop}(h:P:=by(repeat(first|rfl|rw[ad]|rw[ag _ _ _ _ (by omega)]))):P:=h
theorem CA{P:Prop}(h:P:=by(repeat(first|exact fY|refine eO ?_|refine du rfl ?_|refine du (lQ (nV (by omega))) ?_|refine jY 0 rfl rfl rfl ?_|refine kW rfl (by simp[V.refs,V.aN]<;>first|omega|assumption) ?_|refine kX rfl (by simp[V.ids]<;>omega) ?_))):P:=h
theorem zy7{P:Prop}(h:P:=by simp[aa.refs,V.aN,V.refs]<;>omega):P:=h
theorem aG{P:Prop}(h:P:=by simp):P:=h
theorem zy9{P:Prop}(h:P:=by exact pq hM1.symm _ _ (by omega) (Good.aA (Good.aA (Good.aA (Good.aA (Good.aA (Good.aA (Good.aA (Good.mono (ja lx lm cL Cs) (by omega)) (by omega) rfl) (by omega) rfl) (by omega) rfl) (by omega) rfl) (by omega) rfl) (by omega) rfl) (by omega) rfl) (fun j j1 j2 j3=>by(repeat(first|rfl|rw[ad]|rw[ag _ _ _ _ (by omega)]));exact qO (by omega) (by omega) j2 j3 (by omega) (by omega))):P:=h
theorem CB{P:Prop}(h:P:=by rintro⟨h1,h2⟩;first|(cases h1;done)|(cases h2;done)):P:=h
theorem vL{P:Prop}(h:P:=by subst e;(repeat(first|rfl|rw[ad]|rw[ag _ _ _ _ (by omega)]))):P:=h
theorem iC{P:Prop}(h:P:=by simpa[execOp,fK]using this):P:=h
theorem vM{P:Prop}(h:P:=by cases rs with|nil=>exact ho.elim|cons x l=>cases l<;>exact ho.elim):P:=h
theorem FM{P:Prop}(h:P:=by have _:=lx;have _:=lm;have _:=cL;unfold qI;(repeat(first|rfl|rw[ad]|rw[ag _ _ _ _ (by omega)]))):P:=h
theorem Qw{P:Prop}(h:P:=by simp only[aA]<;>((repeat' split)<;>first|rfl|omega|(subst_vars;first|rfl|assumption|(symm;assumption)|omega|(simp_all;done)))):P:=h
theorem zT{P:Prop}(h:P:=by simp[V.ids]<;>omega):P:=h
theorem HK{P:Prop}(h:P:=by exact⟨_,nO,jb,hq, .of_steps (.one h0 stepR_seq) (.pass (x:= .code y) rfl (fun _ _=> .inl (by simp)) c7)⟩):P:=h
theorem ef{P:Prop}(h:P:=by rw[ho];rfl):P:=h
theorem Vv{P:Prop}(h:P:=by exact⟨false, .inl rfl,rfl,jc (fun _ _ h=>by cases h.1) (by rintro⟨h1,h2⟩;first|(cases h1;done)|(cases h2;done)),eq _ (fun d=>by rw[Vw w d ht])⟩):P:=h
theorem FN{P:Prop}(h:P:=by(repeat(first|rfl|rw[ad]|rw[ag _ _ _ _ (by omega)]));exact fm):P:=h
theorem cE{P:Prop}(h:P:=by decide):P:=h
theorem Vx{P:Prop}(h:P:=by exact h4 _ _ (by omega) (Good.aA (Good.aA (Good.aA (h2.mono (by omega)) (by omega) rfl) (by omega) rfl) (by omega) rfl) (fun j j1 j2=>by(repeat(first|rfl|rw[ad]|rw[ag _ _ _ _ (by omega)])))):P:=h
theorem HL{P:Prop}(h:P:=by(repeat(first|rfl|rw[ad]|rw[ag _ _ _ _ (by omega)]));exact f7):P:=h
theorem FO{P:Prop}(h:P:=by exact qO (by omega) (by omega) j2 j3 (by omega) (by omega)):P:=h
theorem Vy{P:Prop}(h:P:=by exact⟨_,_,_,_,_,_,_,hK,by simp[Instr.range,run_underlying ht,ox], .inl rfl,n1,n2,⟨rfl,by simp,fun _=>⟨w.heap.size,by simp,rfl⟩⟩,fun j hj=> .inr (by simpa using hj)⟩):P:=h
theorem gH{P:Prop}(h:P:=by simp;omega):P:=h
theorem Vz{P:Prop}(h:P:=by exact⟨_,_,_,_,_,_,_,hK,by simp[Instr.range,run_underlying ht], .inl rfl,n1,n2,⟨rfl,by simp,fun _=>⟨w.heap.size,by simp,rfl⟩⟩,fun j hj=> .inr (by simpa using hj)⟩):P:=h
theorem me{P:Prop}(h:P:=by simpa using hj):P:=h
theorem Qx{P:Prop}(h:P:=by rw[g5 _ (by omega) (by omega) (by omega)];(repeat(first|rfl|rw[ad]|rw[ag _ _ _ _ (by omega)]))):P:=h
theorem xQ{P:Prop}(h:P:=by simp[Op.equalIn,run_underlying ht]):P:=h
theorem aa1{P:Prop}(h:P:=by exact⟨false, .inl rfl,rfl,jc (fun _ _ h=>by cases h.1) (by rintro⟨h1,h2⟩;first|(cases h1;done)|(cases h2;done)),eq _ (fun d=>by rw[VA w d ht])⟩):P:=h
theorem aa2{P:Prop}(h:P:=by exact⟨false, .inl rfl,rfl,jc (fun _ _ h=>by cases h.1) (by rintro⟨h1,h2⟩;first|(cases h1;done)|(cases h2;done)),eq _ (fun d=>by rw[VB w d ht])⟩):P:=h
theorem VC{P:Prop}(h:P:=by exact⟨false, .inl rfl,rfl,jc (fun _ _ h=>by cases h.1) (by rintro⟨h1,h2⟩;first|(cases h1;done)|(cases h2;done)),eq _ (fun d=>by rw[VD w d ht])⟩):P:=h
theorem Lh{P:Prop}(h:P:=by(repeat(first|exact FP|refine CC ?_|refine Li rfl ?_))):P:=h
theorem Lj{P:Prop}(h:P:=by(repeat(first|rfl|rw[ad]|rw[ag _ _ _ _ (by omega)]));exact fx):P:=h
theorem zU{P:Prop}(h:P:=by rw[List.drop_eq_getElem_cons i1,i2]):P:=h
theorem VE{P:Prop}(h:P:=by exact⟨a,ev,h1,h2,D.aQ (w:=w) (w':=w) (fun b _ hn=>⟨rfl,hB b hn⟩) cs ev h3,h5,h4.mono (w:=w) (w':=w) (fun b _ hn=>⟨rfl,hB b hn⟩)⟩):P:=h
theorem VF{P:Prop}(h:P:=by exact .inl ⟨_,_,_, .inr ⟨c,f,g,first,cap,hc,eP,hf, .inr (.inl ⟨rs,hH,rfl,fun id aw=>by simpa using List.all_eq_true.1 mf id aw⟩)⟩,h⟩):P:=h
theorem VG{P:Prop}(h:P:=by exact .inl ⟨_,_,_, .inr ⟨c,f,g,first,cap,hc,eP,hf, .inr (.inr (.inr ⟨hH,fun id aw=>by simpa using List.all_eq_true.1 mf id aw⟩))⟩,h⟩):P:=h
theorem VH{P:Prop}(h:P:=by exact cp.same hH _ hK (by simp only[Sem.run_bind,hr,Result.andThen_ok];rfl) ⟨_,rfl,zv,[.bool false],rfl,r2, .bool false,[],rfl,rfl,rfl⟩):P:=h
theorem VI{P:Prop}(h:P:=by exact .inr ⟨_,_,_,⟨c,f,g,first,cap,hc,eP,hf, .inr ⟨x,Δ,hH,rfl,rfl,fun id aw=>by simpa using List.all_eq_true.1 mf id aw⟩⟩,h⟩):P:=h
theorem Qy{P:Prop}(h:P:=by subst e1;(repeat(first|rfl|rw[ad]|rw[ag _ _ _ _ (by omega)]));exact q5):P:=h
theorem pt{P:Prop}(h:P:=by dsimp only;omega):P:=h
theorem oz{P:Prop}(h:P:=by simp[nW,aw]):P:=h
theorem VJ{P:Prop}(h:P:=by rw[List.length_map];exact Nat.le_refl _):P:=h
theorem VK{P:Prop}(h:P:=by exact(K1.aA (i:=nx'+3) (m:=nx'+7) (by omega) (by omega) (by omega) rfl).aA (by omega) (by omega) (by omega) rfl):P:=h
theorem Qz{P:Prop}(h:P:=by subst e2;(repeat(first|rfl|rw[ad]|rw[ag _ _ _ _ (by omega)]))):P:=h
theorem QA{P:Prop}(h:P:=by(repeat(first|rfl|rw[ad]|rw[ag _ _ _ _ (by omega)]));exact i4):P:=h
theorem aa3{P:Prop}(h:P:=by exact⟨b,r,k1,k2,k3,k4,k5,k6,k7,k8,k9,fun i=>eA _ _ (fun r hr=>hrefs r (V.wm _ _ r hr)) (k10 i)⟩):P:=h
theorem Lk{P:Prop}(h:P:=by rw[hold id (by omega) (by omega),Hm id (by omega) aw]):P:=h
theorem QB{P:Prop}(h:P:=by injection h with h;injection h with h;subst h;right;rw[HM];omega):P:=h
theorem Ll{P:Prop}(h:P:=by simpa[execOp,fK,resolve,invoke,builtin]using this):P:=h
theorem VL{P:Prop}(h:P:=by exact⟨fo Lm.1,fo Lm.2,fun id aw=>⟨dj wo.1.1 id aw,dj wo.1.2 id aw⟩,fun id aw=>dj wo.2 id aw⟩):P:=h
theorem VM{P:Prop}(h:P:=by simp only[Sem.run_bind,hr,Result.andThen_ok];rfl):P:=h
theorem VN{P:Prop}(h:P:=by exact⟨t,by simp only[jG,if_neg h1],hv,rfl,fun h=>absurd h h1,fun _=>rfl,fun h=>absurd h h1⟩):P:=h
theorem VO{P:Prop}(h:P:=by unfold vN;exact Nat.le_trans (List.length_filter_le _ _) (by rw[List.length_map];exact Nat.le_refl _)):P:=h
theorem HN{P:Prop}(h:P:=by simp[aa.refs,V.aN,V.refs];omega):P:=h
theorem VP{P:Prop}(h:P:=by exact fin _ [] (fun b hb=>by cases hb) dV (World.ownsRow_nil w' 0 ty sz) ⟨[],rfl,by simp,rfl⟩ rfl):P:=h
theorem FQ{P:Prop}(h:P:=by injection h with h;exact h ▸ ht):P:=h
theorem xR{P:Prop}(h:P:=by simp[V.refs]):P:=h
theorem aa4{P:Prop}(h:P:=by exact⟨w.heap.size,es,clock,rfl,heap_alloc_new w _,e3,aE.mono (ht.blocks (M:=M)) l _ e4⟩):P:=h
theorem mg{P:Prop}(h:P:=by simp[hy]):P:=h
theorem VQ{P:Prop}(h:P:=by simp only[Op.operands,Call.operands];exact Array.mem_append.2 (.inr (Array.mem_toList_iff.1 hx))):P:=h
theorem VR{P:Prop}(h:P:=by rw[hn,hI,CD hx];rfl):P:=h
theorem aa5{P:Prop}(h:P:=by exact HO hu cD (fun id h=> .inl (by rw[jZ]at h;exact h)) g1.symm g3 jB (iI rfl)):P:=h
theorem HP{P:Prop}(h:P:=by injection h with h;subst h;exact hK):P:=h
theorem VS{P:Prop}(h:P:=by simp only[h1,cP,Option.map_some];exact hK):P:=h
theorem VT{P:Prop}(h:P:=by exact⟨k1,zV.tr.trans k2,zV.size,zV.defers.mono k2,fun j=>V.aP k2 _ _ (zV.env j)⟩):P:=h
theorem VU{P:Prop}(h:P:=by rw[ag _ _ _ _ e,ag _ _ _ _ e,ag _ _ _ _ (by omega),hI.eq j hj,ag _ _ _ _ e]):P:=h
theorem Ln{P:Prop}(h:P:=by exact V.aP (ht.trans k2) _ _ (hs.env i)):P:=h
theorem aa6{P:Prop}(h:P:=by exact⟨k1,hs.tr.trans k2,hs.size,hs.defers.mono k2,fun j=>V.aP k2 _ _ (hs.env j)⟩):P:=h
theorem VV{P:Prop}(h:P:=by exact Nat.le_trans (List.length_filter_le _ _) (by rw[List.length_map];exact Nat.le_refl _)):P:=h
theorem VW{P:Prop}(h:P:=by rw[m3 id h2 (by omega),ag _ _ _ _ (by omega),ag _ _ _ _ (by omega),cD id h2 h3]):P:=h
theorem VX{P:Prop}(h:P:=by subst e2;(repeat(first|rfl|rw[ad]|rw[ag _ _ _ _ (by omega)]));exact q6):P:=h
theorem VY{P:Prop}(h:P:=by subst e1;(repeat(first|rfl|rw[ad]|rw[ag _ _ _ _ (by omega)]));exact w4):P:=h
theorem aa7{P:Prop}(h:P:=by exact Bool.false_ne_true (kY.trans h.marks)):P:=h
theorem VZ{P:Prop}(h:P:=by exact hQ _ _ _ _ val k5 (eB hs k1 k2 (o':=o') (nx':=nx') rfl fun id hu=>hu) k4):P:=h
theorem QC{P:Prop}(h:P:=by exact⟨_,nO,jb,hq, .of_steps (.one h0 stepR_block) c7⟩):P:=h
theorem QD{P:Prop}(h:P:=by exact⟨_,nO,jb,hq, .of_steps (.one h0 jH) c7⟩):P:=h
theorem HQ{P:Prop}(h:P:=by unfold eZ;rw[Lo trivial]):P:=h
theorem V0{P:Prop}(h:P:=by exact .inr (.inr (.inr (nX.mono (fun v o n h=>hK _ h) (fun v o n h=>hX _ _ h) h)))):P:=h
theorem V1{P:Prop}(h:P:=by(repeat(first|rfl|rw[ad]|rw[ag _ _ _ _ (by omega)]));exact pj j hj e1):P:=h
theorem QE{P:Prop}(h:P:=by exact h ▸ ⟨hb,[],by simp⟩):P:=h
theorem V2{P:Prop}(h:P:=by exact⟨none,0,0,rfl,rfl,Nat.le_refl _,fun _=>rfl,0,fun a ha=>by cases ha⟩):P:=h
theorem V3{P:Prop}(h:P:=by exact⟨b,es',clock,k1,k2,k4,aE.mono (fun b _ hn=>⟨rfl,hB b hn⟩) _ _ k3⟩):P:=h
theorem V4{P:Prop}(h:P:=by(repeat(first|rfl|rw[ad]|rw[ag _ _ _ _ (by omega)]))<;>exact q1):P:=h
theorem V5{P:Prop}(h:P:=by exact fun k hk s' h1 h2=>zW _ (fun x hx=>aS x (sL k hk x hx)) s' h1 h2):P:=h
theorem QF{P:Prop}(h:P:=by injection h with h;subst h;exact⟨by assumption,hK⟩):P:=h
theorem V6{P:Prop}(h:P:=by exact⟨k1,xs,k2,evs,k3,k4,D.aQ (fun b _ hn=>⟨rfl,hB b hn⟩) _ _ k5⟩):P:=h
theorem V7{P:Prop}(h:P:=by subst h;(repeat(first|rfl|rw[ad]|rw[ag _ _ _ _ (by omega)]))):P:=h
theorem V8{P:Prop}(h:P:=by exact hH.fresh j fun hu=>h (.inl hu)):P:=h
theorem aa8{P:Prop}(h:P:=by exact⟨r, .inl rfl,by obtain⟨_,rfl,_⟩:=hx;rfl,fun op=>g2 op p q,g1⟩):P:=h
theorem QG{P:Prop}(h:P:=by simp at h;obtain⟨rfl,rfl⟩:=h;exact⟨rfl,rfl⟩):P:=h
theorem V9{P:Prop}(h:P:=by exact hN _ _ _ (jd hs k1 k2 (mh ho) cG rfl fun id hu=> .inl hu)):P:=h
theorem Wa{P:Prop}(h:P:=by exact⟨_,_,_,_,_,_,_,hK,by simp[hr], .inl rfl,h1,h2,h3,by simp⟩):P:=h
theorem aa9{P:Prop}(h:P:=by simp only[a0,Array.size_append,Array.size_replicate];simp at hlen;omega):P:=h
theorem aba{P:Prop}(h:P:=by exact forall_congr' fun k=>forall_congr' fun hk=>by rw[ih k hk (d+1)]):P:=h
theorem Wb{P:Prop}(h:P:=by cases xv<;>first|(simp[NB]at hwd;done)|(cases yv<;>simp[he])):P:=h
theorem Wc{P:Prop}(h:P:=by exact⟨x,b.trans y,z⟩):P:=h
theorem wq{P:Prop}(h:P:=by simpa[V.refs]using hr):P:=h
theorem NC{P:Prop}(h:P:=by exact hK _ _ (by omega) (K1.mono (by omega)) cD):P:=h
theorem ND{P:Prop}(h:P:=by exact eQ s1 (fun r hr=>by simp[aa.refs,V.aN,V.refs]at hr)):P:=h
theorem HS{P:Prop}(h:P:=by rw[mf];simp only[nW,eP,vO];exact aw):P:=h
theorem NF{P:Prop}(h:P:=by injection hu with hu;injection hv with hv;subst hu;subst hv;exact h3):P:=h
theorem wu{P:Prop}(h:P:=by simp[V.aN,V.refs]):P:=h
theorem NG{P:Prop}(h:P:=by exact⟨by have:=kA;simp at h1;simp only[Tm.kids];omega,hl⟩):P:=h
theorem NH{P:Prop}(h:P:=by exact hN _ _ _ _ k3.2 (nm hs k1 k2 k3.1 cG rfl fun id hu=>hu)):P:=h
theorem NI{P:Prop}(h:P:=by exact⟨by omega,fun k hk=>ih k hk (by have:=Tm.mi hk;omega)⟩):P:=h
theorem HT{P:Prop}(h:P:=by simp at hl;obtain⟨rfl,rfl⟩:=hl;exact hK):P:=h
theorem D6{P:Prop}(h:P:=by simp[aa.refs,V.aN,V.refs]):P:=h
theorem NJ{P:Prop}(h:P:=by rw[ag _ _ _ _ vP,Hn _ _ (by omega)];exact h0 id (by omega)):P:=h
theorem NK{P:Prop}(h:P:=by exact zX s11 (CE (CE (HU 0 rfl rfl rfl zY)))):P:=h
theorem HV{P:Prop}(h:P:=by simp at hj hy;subst hj;subst hy;exact aS):P:=h
theorem D7{P:Prop}(h:P:=by rw[if_neg e,if_neg (by omega)]):P:=h
theorem HW{P:Prop}(h:P:=by simp only[V.den,D.den]at D8;rw[D8]):P:=h
theorem Wd{P:Prop}(h:P:=by exact h3 e (Array.mem_toList_iff.1 he) hb):P:=h
theorem D9{P:Prop}(h:P:=by rw[hg];simp[dI,hv,e]):P:=h
theorem NL{P:Prop}(h:P:=by exact cp.same hH _ h (by simp[execOp,fK,hr]) ⟨_,rfl,hv⟩):P:=h
theorem HX{P:Prop}(h:P:=by rw[sY];exact cM all _ aW):P:=h
theorem rU{P:Prop}(h:P:=by rw[vA];rfl):P:=h
theorem Ea{P:Prop}(h:P:=by simp[V.aN,V.refs];omega):P:=h
theorem NM{P:Prop}(h:P:=by exact bB t u hu (hQ _ s φ w (.iface t u) h hs ⟨u,rfl,hd⟩)):P:=h
theorem HY{P:Prop}(h:P:=by rw[if_neg e,if_neg fun h=>e h.symm]):P:=h
theorem NN{P:Prop}(h:P:=by rw[Tm.bF];exact⟨by decide,fun k hk=>by cases hk⟩):P:=h
theorem Eb{P:Prop}(h:P:=by simp[binOp,zZ hr]):P:=h
theorem HZ{P:Prop}(h:P:=by exact⟨.ret,s',aC,hq,jC,trivial⟩):P:=h
theorem H3{P:Prop}(h:P:=by exact bnd _ h _ (Nat.le_max_right _ _)):P:=h
theorem NO{P:Prop}(h:P:=by exact⟨e',QH,fr',hR,ComesIn.of_steps NP hs,Ho,hl⟩):P:=h
theorem rV{P:Prop}(h:P:=by rw[hx];rfl):P:=h
theorem nY{P:Prop}(h:P:=by simp[hx]):P:=h
theorem wv{P:Prop}(h:P:=by rw[hx];exact hk):P:=h
theorem H4{P:Prop}(h:P:=by rw[vB i hi];exact congrArg some hb):P:=h
theorem NQ{P:Prop}(h:P:=by exact⟨b,k1,k2.mono (fun b _ hn=>⟨rfl,hB b hn⟩) rfl⟩):P:=h
theorem z7{P:Prop}(h:P:=by exact QI j1 j2 j3):P:=h
theorem H5{P:Prop}(h:P:=by unfold eZ;exact Eq.trans rfl rfl):P:=h
theorem Ec{P:Prop}(h:P:=by rw[We]at hl;simp at hl):P:=h
theorem Ed{P:Prop}(h:P:=by subst hi;simp[Ne.symm h]):P:=h
theorem H6{P:Prop}(h:P:=by exact⟨.bB _,s',aC,hq,jC,hm⟩):P:=h
theorem H7{P:Prop}(h:P:=by unfold FR;exact Eq.trans rfl rfl):P:=h
theorem Ee{P:Prop}(h:P:=by exact fun _=>FT _ _ _):P:=h
theorem Eg{P:Prop}(h:P:=by exact absurd h0 (by simp)):P:=h
theorem H8{P:Prop}(h:P:=by unfold eqGuard;cases op<;>simp):P:=h
theorem tz{P:Prop}(h:P:=by simp[hz]):P:=h
theorem Eh{P:Prop}(h:P:=by rw[h]at h1;simp at h1):P:=h
theorem H9{P:Prop}(h:P:=by rw[i4];exact fun h=>nomatch h):P:=h
theorem Ia{P:Prop}(h:P:=by simp[hj]at hr;exact⟨hr,rfl⟩):P:=h
theorem wx{P:Prop}(h:P:=by simpa using h2):P:=h
theorem Ib{P:Prop}(h:P:=by simp at hj;subst hj;exact e7):P:=h
theorem wy{P:Prop}(h:P:=by simpa using hx):P:=h
theorem wz{P:Prop}(h:P:=by rw[h1];rfl):P:=h
theorem z8{P:Prop}(h:P:=by cases b<;>rfl):P:=h
theorem wA{P:Prop}(h:P:=by rw[hj];rfl):P:=h
theorem Wf{P:Prop}(h:P:=by exact⟨b,h4.trans h5,h6⟩):P:=h
theorem zw0{P:Prop}(h:P:=by refine fin _ _ (.inr rfl) _ _ ae dt (fun j j1 j2=>by(repeat(first|rfl|rw[ad]|rw[ag _ _ _ _ (by omega)]))) (fun h=> ?_);exact aa7):P:=h
theorem zw1{P:Prop}(h:P:=by refine aL (bc rfl) ?_;refine pk q2 ?_;refine eg _ _ _ .busy none ae (fin _ _ (fun id aw=>Qw) dt ae) dH (fun id h3 h4=>by(repeat(first|rfl|rw[ad]|rw[ag _ _ _ _ (by omega)])))):P:=h
theorem zw4{P:Prop}(h:P:=by simp[Ef,Array.getD_eq_getD_getElem?,Array.getElem?_replicate]at iJ;split at iJ<;>simp at iJ):P:=h
theorem zw5{P:Prop}(h:P:=by obtain⟨h0,h1,h2⟩:=h;refine⟨h0,hr.us id h1,fun cN=> ?_⟩;obtain⟨h3,h4⟩:=hr.row id h1 cN;obtain⟨b,h5,h6⟩:=h2 h3;exact Wf):P:=h
theorem zw6{P:Prop}(h:P:=by obtain⟨a,b,c⟩:=hr id xR;obtain⟨h0,h1,h2⟩:=h;refine⟨h0,c,fun cN=> ?_⟩;rw[a]at cN;obtain⟨x,y,z⟩:=h2 cN;exact Wc):P:=h
theorem zw7{P:Prop}(h:P:=by obtain⟨h0,x,hx⟩:=Ei hI;simp+contextual only[go_sem,hI,hx,h0];refine aL (bc rfl) ?_;refine cn ?_;exact VR):P:=h
theorem zw8{P:Prop}(h:P:=by obtain⟨a,b,c⟩:=hr id xR;obtain⟨h0,h1,h2⟩:=h;refine⟨h0,c,fun cN=> ?_⟩;obtain⟨x,y,z⟩:=h2 (a.1 cN);exact Wc):P:=h
theorem zw9{P:Prop}(h:P:=by refine bJ ?_;refine aj hkn rfl ?_;exact l6):P:=h
theorem QJ{P:Prop}(h:P:=by intro j hj;simp only[bu,h2,List.mem_map,List.mem_filter]at hj;obtain⟨e,⟨he,hb⟩,rfl⟩:=hj;exact Wd):P:=h
theorem Wg{P:Prop}(h:P:=by simp only[np]at h;injection h with h;injection h with _ h;exact QE):P:=h
theorem Wh{P:Prop}(h:P:=by obtain⟨h0,h1,h2⟩:=h;refine⟨h0,hr.us id h1,fun e' pb=> ?_⟩;obtain⟨e,g1,g2,g3⟩:=hr.ep id e' h1 pb;obtain⟨h3,h4⟩:=h2 e g1;refine⟨Nat.le_trans h3 g2,fun heq=> ?_⟩;rw[g3 (by omega)];exact h4 ae):P:=h
theorem QK{P:Prop}(h:P:=by rw[List.drop_eq_getElem_cons h1];rw[List.getElem?_eq_getElem h1]at hx;injection hx with hx;rw[hx]):P:=h
theorem QL{P:Prop}(h:P:=by obtain⟨z,h1,h⟩:=iN h;simp only[Prod.mk.injEq]at h;obtain⟨rfl,rfl,rfl⟩:=h;exact VS):P:=h
theorem FU{P:Prop}(h:P:=by refine jY 1 rfl rfl rfl ?_;exact CA):P:=h
theorem Lp{P:Prop}(h:P:=by refine bJ ?_;refine aL (bc rfl) ?_;exact l6):P:=h
theorem QM{P:Prop}(h:P:=by refine bJ ?_;refine aj z0 rfl ?_;refine bJ ?_;refine aj hkn rfl ?_;exact l6):P:=h
theorem Ic{P:Prop}(h:P:=by simp only[St.S,iR]at this;exact this):P:=h
theorem Lq{P:Prop}(h:P:=by refine bM.bH _ ae ae dt (fun j hj=>rfl) ?_;exact dU):P:=h
theorem QN{P:Prop}(h:P:=by obtain⟨h0,x,hx⟩:=Ei hI;simp+contextual only[go_sem,h,hI,hx,h0];exact VR):P:=h
theorem Wi{P:Prop}(h:P:=by refine⟨t,by simp only[jG,if_pos h1,hl],hv,rfl,fun _=>hl,fun h=>absurd h1 h,fun _=>⟨fun u hu=> ?_,fun h=>absurd h1 h⟩⟩;rw[(hU h1).1 hu];exact Nat.le_refl _):P:=h
theorem QO{P:Prop}(h:P:=by simp only[Array.getD_eq_getD_getElem?];rw[Array.getElem?_setIfInBounds_ne (Ne.symm hi)]):P:=h
theorem QP{P:Prop}(h:P:=by refine jX hI ?_;refine aL (bc rfl) ?_;refine cn ?_;rw[hn,hI];rfl):P:=h
theorem QQ{P:Prop}(h:P:=by dsimp only;refine bM.bH _ (Nat.le_refl _) ae hI.cq (fun _ _=>rfl) ?_;exact dU):P:=h
theorem xS{P:Prop}(h:P:=by subst this;exact l6):P:=h
theorem Wj{P:Prop}(h:P:=by simp only[Option.map_eq_some_iff]at h;obtain⟨d,h1,rfl⟩:=h;obtain⟨arr,rfl,g1,g2⟩:=hx;obtain⟨val,r1,r2⟩:=gI h1 g1 g2;exact fin (r1 w) r2):P:=h
theorem QR{P:Prop}(h:P:=by refine cn ?_;refine aj (fZ _ _ _) rfl ?_;refine cn ?_;rw[hn]):P:=h
theorem QS{P:Prop}(h:P:=by subst this;refine rT hn ?_;refine aL (bc rfl) ?_;exact l6):P:=h
theorem Wk{P:Prop}(h:P:=by rw[show(⟨put o' [(fr, .arr 0 ty sz es)],fun id=>us id\/id=fr⟩:Hp).o fr=put o' [(fr, .arr 0 ty sz es)] fr from rfl,this]at he;injection he):P:=h
theorem Wl{P:Prop}(h:P:=by simp only[hx]at h ho;injection h with h;subst h;simp only[aa.fz]at ho;simp only[aO,ho]at aS;rw[hd (by rw[ho];rfl)];exact aS.den):P:=h
theorem Wm{P:Prop}(h:P:=by dsimp only;refine bM.bH _ ae ae dt (fun j hj=>by(repeat(first|rfl|rw[ad]|rw[ag _ _ _ _ (by omega)]))) ?_;exact dU):P:=h
theorem Wn{P:Prop}(h:P:=by obtain⟨g3,x2,g4⟩:=ih dE b1 (fun z hz=>m1 z tz) (fun z hz=>m2 z tz) g1 h;exact⟨g3,x1++x2,by rw[g4,g2,List.append_assoc]⟩):P:=h
theorem Wo{P:Prop}(h:P:=by obtain⟨h0,y,h1,h2,h3,h4⟩:=tA h;simp only[Prod.mk.injEq]at h4;obtain⟨rfl,rfl,rfl⟩:=h4;exact⟨h0,y,h1,h2,h3,hK⟩):P:=h
theorem Wp{P:Prop}(h:P:=by obtain⟨h3,h4⟩:=hb _ bW h2;exact⟨by rw[World.cell?_of_block (w:=w) (w':=w') (a:=a.add j) (by simpa using h3)];exact h1,h4⟩):P:=h
theorem Wq{P:Prop}(h:P:=by simp only[Option.map_eq_some_iff]at h;obtain⟨r,h1,rfl⟩:=h;obtain⟨g1,g2⟩:=QU h1 hg (ak M φ H) w xv yv hx hy;exact aa8):P:=h
theorem Wr{P:Prop}(h:P:=by simp only[ha];obtain⟨z,h1,h⟩:=iN h;simp only[Prod.mk.injEq]at h;obtain⟨rfl,rfl,rfl⟩:=h;exact xT h1 hK):P:=h
theorem Ws{P:Prop}(h:P:=by simp only[hw,if_true];obtain⟨xU,jB⟩:=Aa Ie (fun id aw=>ag2 id (by rw[vB];exact aw)) QV aS.2;exact aa5):P:=h
theorem Wt{P:Prop}(h:P:=by cases y<;>simp only[V.same,Bool.false_eq_true,Bool.and_eq_true]at h;rw[Nat.eq_of_beq_eq_true h.1,Nat.eq_of_beq_eq_true h.2]):P:=h
theorem Wu{P:Prop}(h:P:=by rw[<- xV];refine hY hH (bX w _) cD _ _ K2 ?_;unfold aO;simp only[bz,aH,if_true];exact aa4):P:=h
theorem Wv{P:Prop}(h:P:=by refine bJ ?_;refine aL (bc rfl) ?_;refine bJ ?_;refine aq (k+1) h2 ae (bM.d0 _ ?_);exact dU):P:=h
theorem Ww{P:Prop}(h:P:=by intro u hu;simp only[Array.toList_extract,List.extract]at hu;exact hf u (List.mem_of_mem_drop (List.mem_of_mem_take hu))):P:=h
theorem Wx{P:Prop}(h:P:=by refine⟨hH,Trans.refl _ _ _, ?_,⟨[],rfl,List.nodup_nil,fun _=>rfl,fun r hr=>by cases hr⟩,Ab hd⟩;exact aa9):P:=h
theorem Wy{P:Prop}(h:P:=by simp only[np]at h;injection h with h;injection h with h4 h5;subst h4;subst h5;rw[if_pos rfl]at hr;exact⟨n,hr⟩):P:=h
theorem Wz{P:Prop}(h:P:=by rw[e];obtain⟨k1,k2⟩:=jI (us':=Ej (Array.replicate ops.size false)) hs.heap (fun id h=> .inl h);exact aa6):P:=h
theorem QW{P:Prop}(h:P:=by simp only[bz,aH,h1,if_false];exact V8):P:=h
theorem WA{P:Prop}(h:P:=by refine cn ?_;simp at h1;rw[List.drop_eq_nil_of_le h1]at hf;simp only[aI]at hf;rw[hf]at hK;exact NC):P:=h
theorem WB{P:Prop}(h:P:=by simp only[Option.some.injEq,Prod.mk.injEq]at h;obtain⟨rfl,rfl,rfl⟩:=h;simp only[ho];exact⟨_,hg,hK⟩):P:=h
theorem QX{P:Prop}(h:P:=by rw[show fr+(j+1)=fr+1+j by omega];exact this):P:=h
theorem QY{P:Prop}(h:P:=by simp+contextual only[go_sem,h,hI];rw[hn,hI];rfl):P:=h
theorem WC{P:Prop}(h:P:=by injection h with h;subst h;obtain⟨u,rfl,_⟩:=hy;simp only[V.den,D.den]at hx;subst hx;exact aa2):P:=h
theorem WD{P:Prop}(h:P:=by injection h with h;subst h;obtain⟨u,rfl,_⟩:=hx;simp only[V.den,D.den]at hy;subst hy;exact aa1):P:=h
theorem WE{P:Prop}(h:P:=by refine .inr (.inr (.inl ⟨ds,out,eR,hP,pc, ?_⟩));cases out<;>first|exact hK _ h|exact hX _ _ h):P:=h
theorem WG{P:Prop}(h:P:=by rw[hI.eq 2 (by omega)];(repeat(first|rfl|rw[ad]|rw[ag _ _ _ _ (by omega)]));exact p2):P:=h
theorem WH{P:Prop}(h:P:=by simp only[aO,ho]at aS;obtain⟨bk,es,clock,g1,_⟩:=aS;rw[<- e8]at g1;subst g1;exact Vv):P:=h
theorem WI{P:Prop}(h:P:=by simp only[aa.fz]at ho;simp only[aO,ho]at aS;rw[(hd ep (by rw[ho];rfl)).2 rfl];exact aS):P:=h
theorem WJ{P:Prop}(h:P:=by rw[Array.toList_append,Array.toList_append,Array.toList_map];exact V.pv wB dn hca):P:=h
theorem WK{P:Prop}(h:P:=by refine .inr (.inl ⟨ds,out,eR,hP,pc, ?_⟩);cases out<;>first|exact hK _ h|exact hX _ _ h):P:=h
theorem WL{P:Prop}(h:P:=by obtain⟨b,dJ,ty,k1,k2,k3,k4⟩:=aW;exact⟨b,dJ,ty,k1,k2,pw _ _ hrefs k3,k4⟩):P:=h
theorem WM{P:Prop}(h:P:=by intro dE b _ _ hb h;simp only[np]at h;injection h with h;injection h with _ h;exact QE):P:=h
theorem WN{P:Prop}(h:P:=by obtain⟨hi,_⟩:=List.getElem?_eq_some_iff.1 hm;rw[List.length_eraseIdx];simp[hi];omega):P:=h
theorem NR{P:Prop}(h:P:=by obtain⟨arr,rfl,g1,g2⟩:=hx;obtain⟨val,r1,r2⟩:=FV h g1 g2;exact fin r1 r2):P:=h
theorem NS{P:Prop}(h:P:=by simp only[Array.getD_eq_getD_getElem?];rw[Array.getElem?_setIfInBounds_ne (Ne.symm h1)]):P:=h
theorem NT{P:Prop}(h:P:=by refine⟨x,fun heq=> ?_⟩;obtain⟨p,q,r,z,u⟩:=y heq;exact⟨p,q,r,b.trans z,u⟩):P:=h
theorem NU{P:Prop}(h:P:=by rw[hL.refs,List.all_eq_true];intro r hr;have:=hrefs r hr;exact decide_eq_true ae):P:=h
theorem NV{P:Prop}(h:P:=by refine .inl ⟨ds,out,eR,hP, ?_⟩;cases out<;>first|exact hK _ h|exact hX _ _ h):P:=h
theorem NW{P:Prop}(h:P:=by simp only[Ef,Array.getD_eq_getD_getElem?,Array.getElem?_replicate];split<;>rfl):P:=h
theorem NX{P:Prop}(h:P:=by simp[H',aa.b9]at he;subst he;exact⟨Nat.le_refl _,fun _=>by simp[aC]⟩):P:=h
theorem NY{P:Prop}(h:P:=by rw[hm,gJ (o:=s.o) fun id aw=>hr id (kZ _ id aw)];exact T8):P:=h
theorem NZ{P:Prop}(h:P:=by obtain⟨a,b,c,h⟩:=funcOf (P:=Tryz.prog) (t:=209) ai;unfold xW;rw[h]):P:=h
theorem N0{P:Prop}(h:P:=by cases y<;>simp only[D.same,Bool.false_eq_true]at h;rw[D.dv bU _ h]):P:=h
theorem N1{P:Prop}(h:P:=by rw[if_neg e0]at h;injection h with h;injection h with h _;exact absurd h e0):P:=h
theorem N2{P:Prop}(h:P:=by subst this;refine rT hx ?_;refine aL (bc rfl) ?_;exact l6):P:=h
theorem N3{P:Prop}(h:P:=by rw[Bool.eq_iff_iff];simp only[List.all_eq_true (l:=t.kids)];exact aba):P:=h
theorem N4{P:Prop}(h:P:=by obtain⟨b,r,k1,k2,k3,k4,k5,k6,k7,k8,k9,k10⟩:=aW;exact aa3):P:=h
theorem N5{P:Prop}(h:P:=by obtain⟨u,us,rfl,h1,_⟩:=h;simp at hd;subst hd;exact⟨u,aG,h1⟩):P:=h
theorem N6{P:Prop}(h:P:=by rw[if_pos h3]at h;injection h with h;injection h with _ h;exact QE):P:=h
theorem N7{P:Prop}(h:P:=by refine bM.bH _ (Nat.le_refl _) ae hg (fun _ _=>rfl) ?_;exact dU):P:=h
theorem N8{P:Prop}(h:P:=by rw[m2.eq id (by omega)];unfold ext;rw[if_neg (by omega)];exact dH):P:=h
theorem N9{P:Prop}(h:P:=by intro c hx;rw[Array.getD_eq_getD_getElem?,hx]at c7;simp at c7):P:=h
theorem Oa{P:Prop}(h:P:=by rw[if_neg h1]at hf;injection hf with hf;subst hf;exact Cy eM):P:=h
theorem Ob{P:Prop}(h:P:=by obtain⟨r,h⟩:=Ac hS 12 p.2 40 (Ek p hp);exact⟨_,r,h⟩):P:=h
def rW(ops:Array Oper)(j:Nat):Option Tmp:=(ops[j]?).bind (·.dst)
structure bK where
 dst:Option Nat
 op:Op
 gd:Option (Nat×Bool):=none
instance:Inhabited bK:=⟨⟨none, .ready 0,none⟩⟩
def CF(n:Nat):Option Tmp->Bool
 |some d=>decide (d<n)
 |none=>true
def Ig(n:Nat)(ops:Array Oper)(o:Oper):Option bK:=
 if CF n o.dst=true then match o.guard with
  |none=>some ⟨o.dst,o.op,none⟩
  |some (j,want)=>match rW ops j with
   |some d=>some ⟨o.dst,o.op,some (d,want)⟩
   |none=>none
 else none
def kB(n:Nat)(ops:Array Oper):List Oper->Option (List bK)
 |[]=>some []
 |o::l=>match Ig n ops o,kB n ops l with
  |some x,some xs=>some (x::xs)
  |_,_=>none
def tmpsOf(o:bK):List Nat:=(o.op.operands.toList.filterMap fun| .tmp t=>some t|_=>none)++(match o.gd with|some (d,_)=>[d]|none=>[])
def eS(o:bK):List Nat:=tmpsOf o++o.dst.toList
def bu(ops:Array Oper)(i:Nat):List Nat:=match ops[i]? with|some o=>(o.after.toList.filter (Region.binds .any)).map (·.on)|none=>[]
def bO(l:List bK)(i:Nat):bK:=l.getD i default
inductive IC where
 |skip|af (l:List bK)|dq (l:List bK) (pr:List (List Nat))|seq (a b:IC)|cond (c:Operand) (a b:IC)|block (id:Nat) (a:IC)|loop (a:IC)|exit (id:Nat)|ret|bad
 |Hq (g:Operand) (ps:List Nat) (a b:IC)
 deriving Inhabited
inductive jA where
 |ret|exit (id:Nat)
def jA.code:jA->Code
 | .ret=> .ret
 | .exit id=> .exit id
def la(acc:List Nat):List Nat->Nat
 |[]=>0
 |j::ps=>(2^j|||acc.getD j 0)|||la acc ps
def ej:List (List Nat)->List Nat->List Nat
 |[],acc=>acc
 |ps::l,acc=>ej l (acc++[la acc ps])
def qP(x y:bK):Bool:=match x.dst with|some d=> !(eS y).contains d|none=>true
def xX(l:List bK)(pr:List (List Nat)):Bool:=
 (List.range l.length).all fun j=>(List.range j).all fun i=>((ej pr []).getD j 0).testBit i||(qP (bO l i) (bO l j)&&qP (bO l j) (bO l i))
def j5(xs ys:List Nat):Bool:=xs.all fun x=> !ys.contains x
def eC(pr:List (List Nat))(fp:List (List Nat×List Nat)):Bool:=
 (List.range fp.length).all fun j=>(List.range j).all fun i=>((ej pr []).getD j 0).testBit i||
  (j5 (fp.getD i ([],[])).2 (fp.getD j ([],[])).1&&j5 (fp.getD i ([],[])).2 (fp.getD j ([],[])).2&&j5 (fp.getD j ([],[])).2 (fp.getD i ([],[])).1)
def gf(ops:Array Oper):List (List Nat):=(List.range ops.size).map (bu ops)
def QZ(pr:List (List Nat)):Bool:=(List.range pr.length).all fun k=>(pr.getD k []).all fun j=>decide (j<k)
theorem tC{acc:List Nat}{i:Nat}:∀ (ps:List Nat),(la acc ps).testBit i=true->∃j∈ps,i=j\/(acc.getD j 0).testBit i=true
 |[],h=>by simp[la]at h
 |j::ps,h=>by
  simp only[la,Nat.testBit_or,Bool.or_eq_true]at h
  rcases h with(h|h)|h
  ·rw[Nat.testBit_two_pow]at h
   exact⟨j,aG, .inl (by have h:=of_decide_eq_true h;exact h.symm)⟩
  ·exact⟨j,aG, .inr h⟩
  ·obtain⟨j',h1,h2⟩:=tC ps h
   exact⟨j',by simp[h1],h2⟩
theorem qQ{k:Nat}:∀ (l:List (List Nat)) (acc:List Nat),k<acc.length->(ej l acc).getD k 0=acc.getD k 0
 |[],_,_=>rfl
 |ps::l,acc,h=>by
  rw[ej,qQ l _ (by simp;omega)]
  simp[List.getD_eq_getElem?_getD,List.getElem?_append_left h]
theorem qR{i:Nat}:∀ (l:List (List Nat)) (acc:List Nat) (k:Nat),acc.length<=k->(∀k',k'<l.length->∀j∈l.getD k' [],j<acc.length+k')->((ej l acc).getD k 0).testBit i=true->
 ∃j∈l.getD (k - acc.length) [],i=j\/((ej l acc).getD j 0).testBit i=true
 |[],acc,k,hk,_,h=>by
  simp only[ej]at h
  rw[List.getD_eq_getElem?_getD,List.getElem?_eq_none hk]at h
  simp at h
 |ps::l,acc,k,hk,hp,h=>by
  simp only[ej]at h|-
  by_cases he:k=acc.length
  ·subst he
   rw[qQ l _ (by simp)]at h
   have e:(acc++[la acc ps]).getD acc.length 0=la acc ps:=by simp[List.getD_eq_getElem?_getD]
   rw[e]at h
   obtain⟨j,h1,h2⟩:=tC ps h
   refine⟨j,by simpa using h1,h2.imp id fun h2=> ?_⟩
   have hj:j<acc.length:=by simpa using hp 0 aG j (by simpa using h1)
   rw[qQ l _ (by simp;omega)]
   simpa[List.getD_eq_getElem?_getD,List.getElem?_append_left hj]using h2
  ·obtain⟨j,h1,h2⟩:=qR l (acc++[la acc ps]) k gH (fun k' FW j hj=>by
    have:=hp (k'+1) gH j me
    simp;omega) h
   refine⟨j, ?_,h2⟩
   have e:k - acc.length=(k - (acc++[la acc ps]).length)+1:=by simp;omega
   rw[e];simpa using h1
theorem px{pr:List (List Nat)}(hp:∀k,k<pr.length->∀j∈pr.getD k [],j<k){E:Nat->Bool}(hE:∀k,k<pr.length->E k=true->∀j∈pr.getD k [],E j=true):
 ∀k,k<pr.length->(∀j∈pr.getD k [],E j=true)->∀i,((ej pr []).getD k 0).testBit i=true->E i=true:=by
 intro k
 induction k using Nat.strongRecOn with
 |ind k ih=>
  intro hk hj i hi
  obtain⟨j,h1,h2⟩:=qR pr [] k aG (fun k' FW j hj=>by simpa using hp k' FW j hj) hi
  simp only[List.length_nil,Nat.sub_zero]at h1
  rcases h2 with rfl|h2
  ·exact hj _ h1
  ·have Oc:=hp k hk j h1
   exact ih j Oc ae (hE j ae (hj j h1)) i h2
theorem Ad{pr:List (List Nat)}(hp:∀k,k<pr.length->∀j∈pr.getD k [],j<k):∀k,k<pr.length->∀i,((ej pr []).getD k 0).testBit i=true->i<k:=by
 intro k
 induction k using Nat.strongRecOn with
 |ind k ih=>
  intro hk i hi
  obtain⟨j,h1,h2⟩:=qR pr [] k aG (fun k' FW j hj=>by simpa using hp k' FW j hj) hi
  simp only[List.length_nil,Nat.sub_zero]at h1
  have Oc:=hp k hk j h1
  rcases h2 with rfl|h2
  ·exact Oc
  ·have:=ih j Oc ae i h2;omega
def low(n:Nat):Code->IC
 | .skip=> .skip
 | .label _=> .skip
 | .scope c=>low n c
 | .region _ ops false=>match kB n ops ops.toList with
   |some l=> .af l
   |none=> .bad
 | .region _ ops true=>match kB n ops ops.toList with
   |some l=>if xX l (gf ops)&&QZ (gf ops)then .dq l (gf ops)else .bad
   |none=> .bad
 | .seq a b=> .seq (low n a) (low n b)
 | .cond c a b=> .cond c (low n a) (low n b)
 | .block id a=> .block id (low n a)
 | .loop a=> .loop (low n a)
 | .exit id=> .exit id
 | .ret=> .ret
 | .rangeFunc g ps a b=> .Hq g ps.toList (low n a) (low n b)
 |_=> .bad
section
inductive D where
 |int (k:IntKind) (n:Int)|bool (b:Bool)|str (s:List UInt8)
 |eD|kC|b8|dC
 |agg (cs:List D)|sl (es:List D)|iface (t:TypeId) (d:D)
 |mp (ks vs:List D)
 deriving Inhabited
def Flat(vs:List Value):Prop:=∀u∈vs,u.oneCell'=true
def gh(B:Nat->Prop)(w:World)(a:Addr)(cs:Array Value):Prop:=∀j u,cs[j]? =some u->w.cell? (a.add j)=some u/\ ¬B a.block
def hZ(es:Array MapEntry)(clock:Nat):Prop:=(∀e∈es.toList,e.born<clock)/\(es.toList.map (·.born)).Nodup
def xY(ks:List D):Prop:=ks.Nodup/\∀k∈ks,∃n,k= .int .i64 n
mutual
def D.den (B:Nat->Prop)(w:World):D->Value->Prop
 | .int k n,v=>v= .int k n
 | .bool b,v=>v= .bool b
 | .str l,v=>∃s:ByteArray,v= .string s/\s.data.toList=l
 | .eD,v=>v= .nilIface
 | .kC,v=>v= .pointer none
 | .b8,v=>v= .nilFunc
 | .dC,v=>v= .map none
 | .agg cs,v=>∃a,v= .agg a/\D.az B w cs a.toList/\Flat a.toList
 | .sl es,v=>∃base len cap,v= .slice base len cap/\len=es.length/\len<=cap/\(base=none->cap=0)/\
  ∃sz,∀a,base=some a->(cap≠0->a.spot=none)/\D.elems B w sz a 0 es
 | .iface t d,v=>∃u,v= .iface t u/\D.den B w d u
 | .mp ks vs,v=>∃m es clock p,v= .map (some m)/\w.heap[m]? =some (.map es clock)/\ ¬B m/\hZ es clock/\(p=es.toList\/(p.Perm es.toList/\xY ks))/\D.az B w ks (p.map (·.key))/\D.az B w vs (p.map (·.val))
def D.az (B:Nat->Prop)(w:World):List D->List Value->Prop
 |[],vs=>vs=[]
 |d::ds,vs=>∃u us,vs=u::us/\D.den B w d u/\D.az B w ds us
def D.elems (B:Nat->Prop)(w:World)(sz:Nat)(a:Addr):Nat->List D->Prop
 |_,[]=>True
 |i,e::es=>(∃ev:Value,ev.cells.size=sz/\gh B w (a.add (i*sz)) ev.cells/\D.den B w e ev)/\D.elems B w sz a (i+1) es
end
inductive V where
 |d (x:D)|aM|agg (cs:List V)|bN (vs:List V)
 |ptr (id off:Nat)|osl (id ep:Nat)|pe (id ep i sz off:Nat)|pp (cs:List D) (off:Nat)
 |func (fn:Fn) (first cap:List V)|iface (t:TypeId) (x:V)
 |ab
 |oA (es:List D)|wC (id off n:Nat)|mp (id:Nat)|fD|kz (id:Nat)
 deriving Inhabited
inductive aa where
 |no|row (cs:List V)|arr (ep:Nat) (ty:TypeId) (sz:Nat) (es:List D)|sZ (ep:Nat) (es:List D)
 |map (kt vt:TypeId) (es:List (D×D))
 |loop (nf n:Nat) (env:List V) (ps:List Nat) (a b:IC) (st:LoopState) (FX:Option jA)
 |cZ (es:List (D×D))|qS (es:List (D×D)) (last:Option (D×D))|xZ (s:List UInt8) (pos:Nat)
 deriving Inhabited
def bf(l:List V):Nat->V:=fun i=>l.getD i .ab
structure Hp where
 o:Nat->aa
 us:Nat->Prop
def aa.b9:aa->Option Nat
 | .arr ep _ _ _| .sZ ep _=>some ep
 |_=>none
def aa.bY:aa->Bool
 | .row _| .map .. | .loop .. | .cZ _| .qS .. | .xZ .. =>true
 |_=>false
def aa.live:aa->Bool
 | .row _| .arr .. | .map .. | .loop .. | .qS .. | .xZ .. =>true
 |_=>false
def eN:Value->Option Nat
 | .pointer (some a)| .slice (some a) _ _=>some a.block
 | .map (some b)=>some b
 |_=>none
abbrev Place:=Nat->Value
def cF(φ:Place)(H:Hp)(b:Nat):Prop:=∃id,(H.o id).live=true/\eN (φ id)=some b
def ak(M:Nat->Prop)(φ:Place)(H:Hp)(b:Nat):Prop:=M b\/cF φ H b
mutual
def V.den (B:Nat->Prop)(φ:Place)(H:Hp)(w:World):V->Value->Prop
 | .d x,v=>D.den B w x v
 | .aM,v=>v= .slice none 0 0
 | .agg cs,v=>∃a,v= .agg a/\V.az B φ H w cs a.toList/\Flat a.toList
 | .bN vs,v=>∃a,v= .tuple a/\V.az B φ H w vs a.toList
 | .ptr id off,v=>v.oneCell'=true/\H.us id/\((H.o id).bY=true->∃b,φ id= .pointer (some ⟨b,0,none⟩)/\v= .pointer (some ⟨b,off,none⟩))
 | .osl id ep,v=>v.oneCell'=true/\H.us id/\∀e,(H.o id).b9=some e->ep<=e/\(ep=e->v=φ id)
 | .pe id ep i sz off,v=>v.oneCell'=true/\H.us id/\∀e,(H.o id).b9=some e->ep<=e/\(ep=e->∃b n c,φ id= .slice (some ⟨b,0,none⟩) n c/\v= .pointer (some ⟨b,i*sz+off,none⟩))
 | .pp cs off,v=>∃a ev,a.spot=none/\v= .pointer (some (a.add off))/\D.az B w cs ev/\Flat ev/\gh B w a ev.toArray
 | .func fn first cap,v=>∃f c,v= .func fn f c/\V.az B φ H w first f.toList/\V.az B φ H w cap c.toList
 | .iface t x,v=>∃u,v= .iface t u/\V.den B φ H w x u
 | .ab,_=>True
 | .oA es,v=>D.den B w (.sl es) v/\∃base n,v= .slice base n n
 | .wC id off n,v=>v.oneCell'=true/\H.us id/\((H.o id).bY=true->∃b,φ id= .pointer (some ⟨b,0,none⟩)/\v= .slice (some ⟨b,off,none⟩) n n)
 | .mp id,v=>v.oneCell'=true/\H.us id/\((H.o id).bY=true->v=φ id)
 | .fD,v=>∃b,v= .bool b
 | .kz id,v=>v.oneCell'=true/\H.us id/\((H.o id).bY=true->∃b,φ id= .pointer (some ⟨b,0,none⟩)/\v= .func (.yield b) #[] #[])
def V.az (B:Nat->Prop)(φ:Place)(H:Hp)(w:World):List V->List Value->Prop
 |[],vs=>vs=[]
 |x::xs,vs=>∃u us,vs=u::us/\V.den B φ H w x u/\V.az B φ H w xs us
end
def eE(B:Nat->Prop)(w:World)(sz:Nat)(es:List D)(xs:List Value):Prop:=
 ∃evs:List Value,xs=evs.flatMap (·.cells.toList)/\(∀ev∈evs,ev.cells.size=sz)/\D.az B w es evs
def aE(B:Nat->Prop)(w:World):List (D×D)->List MapEntry->Prop
 |[],es=>es=[]
 |(k,x)::l,es=>∃e es',es=e::es'/\D.den B w k e.key/\D.den B w x e.val/\aE B w l es'
def x3(B:Nat->Prop)(w:World)(l:List (D×D))(last:Option (D×D))(b:Nat):Prop:=
 w.heap[b]? =some (.mapIter none 0 #[] 0)/\l=[]/\last=none\/
 ∃m since seen es,w.heap[b]? =some (.mapIter (some m) since seen since)/\w.heap[m]? =some (.map es since)/\ ¬B m/\hZ es since/\(∃l',l'.Perm l/\aE B w l' (es.toList.filter fun e=> !seen.contains e.born))/\
  ∀k x,last=some (k,x)->∃e∈es.toList,seen.back?=some e.born/\D.den B w k e.key/\D.den B w x e.val
def j6(B:Nat->Prop)(w:World)(l:List (D×D))(v:Value):Prop:=
 ∃b es clock,v= .map (some b)/\w.heap[b]? =some (.map es clock)/\ ¬B b/\hZ es clock/\aE B w l es.toList
def aO(M:Nat->Prop)(φ:Place)(H:Hp)(w:World)(id:Nat):Prop:=
 match H.o id with
 | .no=>True
 | .row cs=>∃b dJ ty,φ id= .pointer (some ⟨b,0,none⟩)/\w.heap[b]? =some (.cells dJ ty (0,0))/\V.az (ak M φ H) φ H w cs dJ.toList/\Flat dJ.toList
 | .arr _ ty sz es=>0<sz/\∃xs,w.ownsRow 0 ty sz (φ id) es.length xs/\eE (ak M φ H) w sz es xs
 | .sZ _ es=>D.den (ak M φ H) w (.sl es) (φ id)
 | .loop nf n env ps je eT st FX=>∃b r,φ id= .pointer (some ⟨b,0,none⟩)/\w.heap[b]? =some (.loop r)/\r.fn<nf/\r.state=st/\r.pending=FX.map jA.code/\r.params.toList=ps/\r.tmps.size=n/\low n r.assign=je/\low n r.body=eT/\
  ∀i,V.den (ak M φ H) φ H w (bf env i) (r.tmps.getD i undef)
 | .map _ _ l=>∃b es clock,φ id= .map (some b)/\w.heap[b]? =some (.map es clock)/\hZ es clock/\aE (ak M φ H) w l es.toList
 | .cZ l=>j6 (ak M φ H) w l (φ id)
 | .qS l last=>∃b,φ id= .pointer (some ⟨b,0,none⟩)/\x3 (ak M φ H) w l last b
 | .xZ s pos=>∃b,φ id= .pointer (some ⟨b,0,none⟩)/\w.heap[b]? =some (.stringIter ⟨⟨s⟩⟩ pos)
structure ax (M:Nat->Prop) (φ:Place) (H:Hp) (w:World):Prop where
 ok:∀id,aO M φ H w id
 fresh:∀id, ¬H.us id->H.o id= .no
 apart:∀i j b,(H.o i).live=true->(H.o j).live=true->eN (φ i)=some b->eN (φ j)=some b->i=j
 ours:∀b,cF φ H b-> ¬M b/\b<w.heap.size
 zE:∀b,M b->b<w.heap.size
structure eh (m:Nat->Prop) (w w':World):Prop where
 os:w'.os=w.os
 tape:w'.tape=w.tape
 output:w'.output=w.output
 size:w.heap.size<=w'.heap.size
 block:∀k,k<w.heap.size-> ¬m k->w'.heap[k]? =w.heap[k]?
structure dK (φ:Place) (H:Hp) (aC:Place) (H':Hp):Prop where
 us:∀id,H.us id->H'.us id
 row:∀id,H.us id->(H'.o id).bY=true->(H.o id).bY=true/\aC id=φ id
 ep:∀id e',H.us id->(H'.o id).b9=some e'->∃e,(H.o id).b9=some e/\e<=e'/\(e=e'->aC id=φ id)
structure Trans (φ:Place) (H:Hp) (w:World) (aC:Place) (H':Hp) (w':World):Prop where
 cf:eh (cF φ H) w w'
 grow:∀b,cF aC H' b->cF φ H b\/w.heap.size<=b
 rel:dK φ H aC H'
theorem eh.refl (m:Nat->Prop)(w:World):eh m w w:=⟨rfl,rfl,rfl,Nat.le_refl _,fun _ _ _=>rfl⟩
theorem dK.refl (φ:Place)(H:Hp):dK φ H φ H:=⟨fun _ h=>h,fun _ _ h=>⟨h,rfl⟩,fun _ e' _ h=>⟨e',h,Nat.le_refl _,fun _=>rfl⟩⟩
theorem Trans.refl (φ:Place)(H:Hp)(w:World):Trans φ H w φ H w:=⟨eh.refl _ _,fun _ h=> .inl h,dK.refl _ _⟩
theorem dK.trans {φ aC CG:Place}{H H' WO:Hp}(h:dK φ H aC H')(k:dK aC H' CG WO):dK φ H CG WO where
 us id aw:=k.us id (h.us id aw)
 row id aw hr:=by
  obtain⟨a,b⟩:=k.row id (h.us id aw) hr
  obtain⟨c,d⟩:=h.row id aw a
  exact⟨c,b.trans d⟩
 ep id e' aw he:=by
  obtain⟨e,h1,h2,h3⟩:=k.ep id e' (h.us id aw) he
  obtain⟨e0,g1,g2,g3⟩:=h.ep id e aw h1
  refine⟨e0,g1,Nat.le_trans g2 h2,fun heq=> ?_⟩
  have a:e0=e:=ae
  have b:e=e':=ae
  exact(h3 b).trans (g3 a)
theorem Trans.trans {φ aC CG:Place}{H H' WO:Hp}{w w' QH:World}(h:Trans φ H w aC H' w')(k:Trans aC H' w' CG WO QH):Trans φ H w CG WO QH where
 cf:={
  os:=k.cf.os.trans h.cf.os
  tape:=k.cf.tape.trans h.cf.tape
  output:=k.cf.output.trans h.cf.output
  size:=Nat.le_trans h.cf.size k.cf.size
  block:=fun b hb hm=>by
   rw[k.cf.block b (Nat.lt_of_lt_of_le hb h.cf.size) (fun hl=>by
    rcases h.grow b hl with h1|h1
    ·exact hm h1
    ·omega),h.cf.block b hb hm]}
 grow b hl:=by
  rcases k.grow b hl with h1|h1
  ·exact h.grow b h1
  ·exact .inr (Nat.le_trans h.cf.size h1)
 rel:=h.rel.trans k.rel
@[simp] theorem T9 (a:Addr) (j:Nat):(a.add j).block=a.block:=by unfold Addr.add;split<;>rfl
def py(w:World)(b:Nat):Prop:=∃cs ty fz,w.heap[b]? =some (.cells cs ty fz)
def cH(w:World)(b:Nat):Prop:=py w b\/∃es clock,w.heap[b]? =some (.map es clock)
theorem cH.lt {w:World}{b:Nat}(h:cH w b):b<w.heap.size:=by
 rcases Nat.lt_or_ge b w.heap.size with hl|hl
 ·exact hl
 ·rcases h with⟨cs,ty,fz,h⟩|⟨es,clock,h⟩
  ·rw[Array.getElem?_eq_none hl]at h;cases h
  ·rw[Array.getElem?_eq_none hl]at h;cases h
theorem nZ{w:World}{a:Addr}{u:Value}(h:w.cell? a=some u):py w a.block:=by
 unfold World.cell? at h
 split at h
 ·exact⟨_,_,_,by assumption⟩
 ·cases h
theorem sM{w:World}{a:Addr}{u:Value}(h:w.cell? a=some u):cH w a.block:= .inl (nZ h)
theorem gh.mono {B B':Nat->Prop}{w w':World}{a:Addr}{cs:Array Value}
 (hb:∀b,cH w b-> ¬B b->w'.heap[b]? =w.heap[b]? /\ ¬B' b) (h:gh B w a cs):gh B' w' a cs:=by
 intro j u hj
 obtain⟨h1,h2⟩:=h j u hj
 have bW:cH w a.block:=by simpa using sM h1
 exact Wp
mutual
theorem D.aP {B B':Nat->Prop}{w w':World}(hb:∀b,cH w b-> ¬B b->w'.heap[b]? =w.heap[b]? /\ ¬B' b):
 ∀ (x:D) (v:Value),D.den B w x v->D.den B' w' x v
 | .int _ _,_,h| .bool _,_,h| .str _,_,h| .eD,_,h| .kC,_,h| .b8,_,h| .dC,_,h=>by simpa[D.den]using h
 | .agg cs,_,h=>by
   obtain⟨a,rfl,h,hf⟩:=h
   exact⟨a,rfl,D.aQ hb cs _ h,hf⟩
 | .sl es,_,h=>by
   obtain⟨base,len,cap,rfl,h1,h2,h3,sz,h4⟩:=h
   exact⟨base,len,cap,rfl,h1,h2,h3,sz,fun a ha=>⟨(h4 a ha).1,D.tD hb sz a es 0 (h4 a ha).2⟩⟩
 | .iface t d,_,h=>by
   obtain⟨u,rfl,h⟩:=h
   exact⟨u,rfl,D.aP hb d u h⟩
 | .mp ks vs,_,h=>by
   obtain⟨m,es,clock,p,rfl,h1,h2,h3,hp,h4,h5⟩:=h
   obtain⟨k1,k2⟩:=hb m (.inr ⟨es,clock,h1⟩) h2
   exact⟨m,es,clock,p,rfl,k1.trans h1,k2,h3,hp,D.aQ hb ks _ h4,D.aQ hb vs _ h5⟩
theorem D.aQ {B B':Nat->Prop}{w w':World}(hb:∀b,cH w b-> ¬B b->w'.heap[b]? =w.heap[b]? /\ ¬B' b):
 ∀ (ds:List D) (vs:List Value),D.az B w ds vs->D.az B' w' ds vs
 |[],_,h=>h
 |d::ds,_,h=>by
  obtain⟨u,us,rfl,h1,h2⟩:=h
  exact⟨u,us,rfl,D.aP hb d u h1,D.aQ hb ds us h2⟩
theorem D.tD {B B':Nat->Prop}{w w':World}(hb:∀b,cH w b-> ¬B b->w'.heap[b]? =w.heap[b]? /\ ¬B' b)(sz:Nat)(a:Addr):
 ∀ (es:List D) (i:Nat),D.elems B w sz a i es->D.elems B' w' sz a i es
 |[],_,_=>trivial
 |e::es,i,h=>by
  obtain⟨⟨ev,h1,h2,h3⟩,h4⟩:=h
  exact⟨⟨ev,h1,h2.mono hb,D.aP hb e ev h3⟩,D.tD hb sz a es (i+1) h4⟩
end
theorem aE.mono {B B':Nat->Prop}{w w':World}(hb:∀b,cH w b-> ¬B b->w'.heap[b]? =w.heap[b]? /\ ¬B' b):
 ∀ (l:List (D×D)) (es:List MapEntry),aE B w l es->aE B' w' l es
 |[],_,h=>h
 |(k,x)::l,_,h=>by
  obtain⟨e,es,rfl,h1,h2,h3⟩:=h
  exact⟨e,es,rfl,D.aP hb k _ h1,D.aP hb x _ h2,aE.mono hb l es h3⟩
theorem x3.mono {B B':Nat->Prop}{w w':World}(hb:∀b,cH w b-> ¬B b->w'.heap[b]? =w.heap[b]? /\ ¬B' b){l:List (D×D)}{last:Option (D×D)}{b:Nat}(Od:w'.heap[b]? =w.heap[b]?)(h:x3 B w l last b):x3 B' w' l last b:=by
 rcases h with⟨h1,h2⟩|⟨m,since,seen,es,h1,h2,h3,h4,h5,h6⟩
 ·exact .inl ⟨Od.trans h1,h2⟩
 ·obtain⟨k1,k2⟩:=hb m (.inr ⟨es,since,h2⟩) h3
  obtain⟨l',h5,Hr⟩:=h5
  refine .inr ⟨m,since,seen,es,Od.trans h1,k1.trans h2,k2,h4,⟨l',h5,aE.mono hb l' _ Hr⟩,fun k x e=> ?_⟩
  obtain⟨e,g1,g2,g3,g4⟩:=h6 k x e
  exact⟨e,g1,g2,D.aP hb k _ g3,D.aP hb x _ g4⟩
theorem kD{B:Nat->Prop}{w:World}:∀ (l:List (D×D)) (es:List MapEntry),aE B w l es↔D.az B w (l.map (·.1)) (es.map (·.key))/\D.az B w (l.map (·.2)) (es.map (·.val))
 |[],es=>by
  simp only[aE,List.map_nil,D.az]
  constructor
  ·rintro rfl;exact⟨rfl,rfl⟩
  ·rintro⟨h,_⟩;simpa using h
 |(k,x)::l,es=>by
  simp only[aE,List.map_cons,D.az]
  constructor
  ·rintro⟨e,es',rfl,h1,h2,h3⟩
   obtain⟨g1,g2⟩:=(kD l es').1 h3
   exact⟨⟨_,_,rfl,h1,g1⟩,⟨_,_,rfl,h2,g2⟩⟩
  ·rintro⟨⟨u,us,h1,h2,h3⟩,⟨v,vs,h4,h5,h6⟩⟩
   cases es with
   |nil=>simp at h1
   |cons e es'=>
    simp only[List.map_cons,List.cons.injEq]at h1 h4
    obtain⟨rfl,rfl⟩:=h1
    obtain⟨rfl,rfl⟩:=h4
    exact⟨e,es',rfl,h2,h5,(kD l es').2 ⟨h3,h6⟩⟩
theorem j6.den {B:Nat->Prop}{w:World}{l:List (D×D)}{v:Value}(h:j6 B w l v):D.den B w (.mp (l.map (·.1)) (l.map (·.2))) v:=by
 obtain⟨b,es,clock,h1,h2,h3,h4,h5⟩:=h
 obtain⟨h6,h7⟩:=(kD _ _).1 h5
 exact⟨b,es,clock,es.toList,h1,h2,h3,h4, .inl rfl,h6,h7⟩
theorem j6.mono {B B':Nat->Prop}{w w':World}(hb:∀b,cH w b-> ¬B b->w'.heap[b]? =w.heap[b]? /\ ¬B' b){l:List (D×D)}{v:Value}(h:j6 B w l v):j6 B' w' l v:=by
 obtain⟨b,es,clock,h1,h2,h3,h4,h5⟩:=h
 obtain⟨k1,k2⟩:=hb b (.inr ⟨es,clock,h2⟩) h3
 exact⟨b,es,clock,h1,k1.trans h2,k2,h4,aE.mono hb l _ h5⟩
theorem D.ay {B:Nat->Prop}{w:World}:∀ (ds:List D) (vs:List Value),D.az B w ds vs->vs.length=ds.length
 |[],_,h=>by simp[D.az]at h;simp[h]
 |d::ds,_,h=>by obtain⟨u,us,rfl,_,h2⟩:=h;simp[D.ay ds us h2]
theorem D.c9 {B:Nat->Prop}{w:World}:∀ (ds:List D) (vs:List Value) (i:Nat) (d:D),D.az B w ds vs->ds[i]? =some d->∃v,vs[i]? =some v/\D.den B w d v
 |[],_,_,_,_,hd=>by simp at hd
 |d::ds,_,0,x,h,hd=>by
  exact N5
 |d::ds,_,i+1,x,h,hd=>by
  obtain⟨u,us,rfl,_,h2⟩:=h
  simpa using D.c9 ds us i x h2 (by simpa using hd)
theorem D.wD {B:Nat->Prop}{w:World}{sz:Nat}{a:Addr}:∀ (es:List D) (i j:Nat) (e:D),D.elems B w sz a i es->es[j]? =some e->
 ∃ev:Value,ev.cells.size=sz/\gh B w (a.add ((i+j)*sz)) ev.cells/\D.den B w e ev
 |[],_,_,_,_,hd=>by simp at hd
 |e::es,i,0,x,h,hd=>by
  simp at hd;subst hd;simpa using h.1
 |e::es,i,j+1,x,h,hd=>by
  have:=D.wD es (i+1) j x h.2 (by simpa using hd)
  simpa[Nat.add_assoc,Nat.add_comm 1 j]using this
section
variable {M:Nat->Prop}{φ aC:Place}{H H':Hp}{w w':World}
theorem Trans.blocks (ht:Trans φ H w aC H' w')(b:Nat)(hc:cH w b)(h: ¬ak M φ H b):w'.heap[b]? =w.heap[b]? /\ ¬ak M aC H' b:=by
 have hb:=hc.lt
 refine⟨ht.cf.block b hb fun hl=>h (.inr hl), ?_⟩
 rintro(h1|h1)
 ·exact h (.inl h1)
 ·rcases ht.grow b h1 with h2|h2
  ·exact h (.inr h2)
  ·omega
mutual
theorem V.kE (hb:∀b,cH w b-> ¬ak M φ H b->w'.heap[b]? =w.heap[b]? /\ ¬ak M aC H' b)(hr:dK φ H aC H'):∀ (x:V) (v:Value),V.den (ak M φ H) φ H w x v->V.den (ak M aC H') aC H' w' x v
 | .d x,v,h=>D.aP hb x v h
 | .aM,_,h=>h
 | .ab,_,_=>trivial
 | .oA es,v,h=>⟨D.aP hb (.sl es) v h.1,h.2⟩
 | .wC id off n,v,h=>by
   exact zw5
 | .mp id,v,h=>by
   obtain⟨h0,h1,h2⟩:=h
   refine⟨h0,hr.us id h1,fun cN=> ?_⟩
   obtain⟨h3,h4⟩:=hr.row id h1 cN
   exact(h2 h3).trans h4.symm
 | .fD,v,h=>h
 | .kz id,v,h=>by
   exact zw5
 | .agg cs,_,h=>by obtain⟨a,rfl,h,hf⟩:=h;exact⟨a,rfl,V.fE hb hr cs _ h,hf⟩
 | .bN cs,_,h=>by obtain⟨a,rfl,h⟩:=h;exact⟨a,rfl,V.fE hb hr cs _ h⟩
 | .ptr id off,v,h=>by
   exact zw5
 | .osl id ep,v,h=>by
   exact Wh
 | .pe id ep i sz off,v,h=>by
   exact Wh
 | .pp cs off,v,h=>by
   obtain⟨a,ev,h1,h2,h3,h5,h4⟩:=h
   exact⟨a,ev,h1,h2,D.aQ hb cs ev h3,h5,h4.mono hb⟩
 | .func fn first cap,_,h=>by
   obtain⟨f,c,rfl,h1,h2⟩:=h
   exact⟨f,c,rfl,V.fE hb hr first _ h1,V.fE hb hr cap _ h2⟩
 | .iface t x,_,h=>by obtain⟨u,rfl,h⟩:=h;exact⟨u,rfl,V.kE hb hr x u h⟩
theorem V.fE (hb:∀b,cH w b-> ¬ak M φ H b->w'.heap[b]? =w.heap[b]? /\ ¬ak M aC H' b)(hr:dK φ H aC H'):∀ (ds:List V) (vs:List Value),V.az (ak M φ H) φ H w ds vs->V.az (ak M aC H') aC H' w' ds vs
 |[],_,h=>h
 |x::xs,_,h=>by
  obtain⟨u,us,rfl,h1,h2⟩:=h
  exact⟨u,us,rfl,V.kE hb hr x u h1,V.fE hb hr xs us h2⟩
end
theorem V.aP (ht:Trans φ H w aC H' w')(x:V)(v:Value)(h:V.den (ak M φ H) φ H w x v):V.den (ak M aC H') aC H' w' x v:=V.kE ht.blocks ht.rel x v h
theorem V.aQ (ht:Trans φ H w aC H' w')(ds:List V)(vs:List Value)(h:V.az (ak M φ H) φ H w ds vs):V.az (ak M aC H') aC H' w' ds vs:=V.fE ht.blocks ht.rel ds vs h
end
end
end Go.Proofs.YtlhemmpklhhgoaaGreat
