/-
  A PART OF THE PROOF. Conditions: none.
-/
import Derived.WalkKit
import Derived.Below
set_option linter.unusedSimpArgs false
set_option linter.unusedVariables false
namespace Go.Proofs.YtonbelhklnmjnaaGreat
theorem aU{G G':Prop}(g:G')(h:G=G':=by simp+contextual (disch:=first|omega|simp only[go_sem,false_implies]) only[go_sem,wrap64,if_pos,and_self]<;>rfl):G:=Eq.mpr h g
theorem dM{G:Prop}(h:G:=by simp+contextual (disch:=first|omega|simp only[go_sem,false_implies]) only[go_sem,wrap64,if_pos,and_self]):G:=h
theorem cf{P0 G G':Prop}(p0:P0)(g:G')(h:P0->G=G':=by intro p0;simp+contextual (disch:=first|omega|simp only[go_sem,false_implies]) only[go_sem,wrap64,if_pos,p0]<;>rfl):G:=Eq.mpr (h p0) g
theorem iB{P0 P1 G G':Prop}(p0:P0)(p1:P1)(g:G')(h:P0->P1->G=G':=by intro p0 p1;simp+contextual (disch:=first|omega|simp only[go_sem,false_implies]) only[go_sem,wrap64,if_pos,List.length_map,p0,p1]<;>rfl):G:=Eq.mpr (h p0 p1) g
theorem dW{P0 G G':Prop}(p0:P0)(g:G')(h:P0->G=G':=by intro p0;simp+contextual (disch:=first|omega|simp only[go_sem,false_implies]) only[go_sem,wrap64,if_pos,List.length_map,p0]<;>rfl):G:=Eq.mpr (h p0) g
theorem iZ{G G':Prop}(g:G')(h:G=G':=by simp+contextual (disch:=first|omega|simp only[go_sem,false_implies]) only[go_sem,wrap64,if_pos,Nat.add_assoc,Nat.left_eq_add,Nat.add_eq_left,Nat.add_left_cancel_iff]<;>rfl):G:=Eq.mpr h g
theorem ik{G G':Prop}(g:G')(h:G=G':=by simp+contextual (disch:=first|omega|simp only[go_sem,false_implies]) only[go_sem,wrap64,if_pos,List.length_map]<;>rfl):G:=Eq.mpr h g
theorem b8{G G':Prop}(g:G')(h:G=G':=by simp+contextual only[go_sem]<;>rfl):G:=Eq.mpr h g
theorem xB{P0 P1 G G':Prop}(p0:P0)(p1:P1)(g:G')(h:P0->P1->G=G':=by intro p0 p1;simp+contextual (disch:=first|omega|simp only[go_sem,false_implies]) only[go_sem,wrap64,if_pos,p0,p1]<;>rfl):G:=Eq.mpr (h p0 p1) g
theorem IQ{P0 P1 P2 P3 G G':Prop}(p0:P0)(p1:P1)(p2:P2)(p3:P3)(g:G')(h:P0->P1->P2->P3->G=G':=by intro p0 p1 p2 p3;simp+contextual (disch:=first|omega|simp only[go_sem,false_implies]) only[go_sem,wrap64,if_pos,List.length_map,p0,p1,p2,p3]<;>rfl):G:=Eq.mpr (h p0 p1 p2 p3) g
theorem su{P0 P1 P2 G G':Prop}(p0:P0)(p1:P1)(p2:P2)(g:G')(h:P0->P1->P2->G=G':=by intro p0 p1 p2;simp+contextual (disch:=first|omega|simp only[go_sem,false_implies]) only[go_sem,wrap64,if_pos,List.length_map,p0,p1,p2]<;>rfl):G:=Eq.mpr (h p0 p1 p2) g
theorem Ax{P0 P1 P2 G G':Prop}(p0:P0)(p1:P1)(p2:P2)(g:G')(h:P0->P1->P2->G=G':=by intro p0 p1 p2;simp+contextual (disch:=first|omega|simp only[go_sem,false_implies]) only[go_sem,wrap64,if_pos,Nat.add_assoc,Nat.left_eq_add,Nat.add_eq_left,Nat.add_left_cancel_iff,p0,p1,p2]<;>rfl):G:=Eq.mpr (h p0 p1 p2) g
theorem Ch{P0 G G':Prop}(p0:P0)(g:G')(h:P0->G=G':=by intro p0;simp+contextual (disch:=first|omega|simp only[go_sem,false_implies]) only[go_sem,wrap64,if_pos,Nat.add_assoc,Nat.left_eq_add,Nat.add_eq_left,Nat.add_left_cancel_iff,p0]<;>rfl):G:=Eq.mpr (h p0) g
theorem Lk{P0 P1 G G':Prop}(p0:P0)(p1:P1)(g:G')(h:P0->P1->G=G':=by intro p0 p1;simp+contextual (disch:=first|omega|simp only[go_sem,false_implies]) only[go_sem,wrap64,if_pos,Nat.add_assoc,Nat.left_eq_add,Nat.add_eq_left,Nat.add_left_cancel_iff,List.length_map,p0,p1]<;>rfl):G:=Eq.mpr (h p0 p1) g
theorem Ay{P0 P1 P2 P3 P4 G G':Prop}(p0:P0)(p1:P1)(p2:P2)(p3:P3)(p4:P4)(g:G')(h:P0->P1->P2->P3->P4->G=G':=by intro p0 p1 p2 p3 p4;simp+contextual (disch:=first|omega|simp only[go_sem,false_implies]) only[go_sem,wrap64,if_pos,List.length_map,p0,p1,p2,p3,p4]<;>rfl):G:=Eq.mpr (h p0 p1 p2 p3 p4) g
theorem ve{P0 G:Prop}(p0:P0)(h:P0->G:=by intro p0;simp+contextual (disch:=first|omega|simp only[go_sem,false_implies]) only[go_sem,wrap64,if_pos,p0]):G:=h p0
theorem xL{P0 P1 P2 G G':Prop}(p0:P0)(p1:P1)(p2:P2)(g:G')(h:P0->P1->P2->G=G':=by intro p0 p1 p2;simp+contextual (disch:=first|omega|simp only[go_sem,false_implies]) only[go_sem,wrap64,if_pos,p0,p1,p2]<;>rfl):G:=Eq.mpr (h p0 p1 p2) g
theorem Ci{G G':Prop}(g:G')(h:G=G':=by simp+contextual (disch:=first|omega|simp only[go_sem,false_implies]) only[go_sem,wrap64,if_pos,m9]<;>rfl):G:=Eq.mpr h g
theorem E8{P0 P1 P2 P3 G G':Prop}(p0:P0)(p1:P1)(p2:P2)(p3:P3)(g:G')(h:P0->P1->P2->P3->G=G':=by intro p0 p1 p2 p3;simp+contextual (disch:=first|omega|simp only[go_sem,false_implies]) only[go_sem,wrap64,if_pos,p0,p1,p2,p3]<;>rfl):G:=Eq.mpr (h p0 p1 p2 p3) g
theorem Ll{P0 P1 P2 P3 P4 P5 P6 P7 G G':Prop}(p0:P0)(p1:P1)(p2:P2)(p3:P3)(p4:P4)(p5:P5)(p6:P6)(p7:P7)(g:G')(h:P0->P1->P2->P3->P4->P5->P6->P7->G=G':=by intro p0 p1 p2 p3 p4 p5 p6 p7;simp+contextual (disch:=first|omega|simp only[go_sem,false_implies]) only[go_sem,wrap64,if_pos,List.length_map,List.length_append,p0,p1,p2,p3,p4,p5,p6,p7]<;>rfl):G:=Eq.mpr (h p0 p1 p2 p3 p4 p5 p6 p7) g
theorem Qn{P0 P1 P2 P3 P4 G G':Prop}(p0:P0)(p1:P1)(p2:P2)(p3:P3)(p4:P4)(g:G')(h:P0->P1->P2->P3->P4->G=G':=by intro p0 p1 p2 p3 p4;simp+contextual (disch:=first|omega|simp only[go_sem,false_implies]) only[go_sem,wrap64,if_pos,Nat.add_assoc,Nat.left_eq_add,Nat.add_eq_left,Nat.add_left_cancel_iff,p0,p1,p2,p3,p4]<;>rfl):G:=Eq.mpr (h p0 p1 p2 p3 p4) g
theorem Qo{P0 P1 P2 P3 G G':Prop}(p0:P0)(p1:P1)(p2:P2)(p3:P3)(g:G')(h:P0->P1->P2->P3->G=G':=by intro p0 p1 p2 p3;simp+contextual (disch:=first|omega|simp only[go_sem,false_implies]) only[go_sem,wrap64,if_pos,Nat.add_assoc,Nat.left_eq_add,Nat.add_eq_left,Nat.add_left_cancel_iff,p0,p1,p2,p3]<;>rfl):G:=Eq.mpr (h p0 p1 p2 p3) g
theorem iC{P0 G G':Prop}(p0:P0)(g:G')(h:P0->G=G':=by intro p0;simp+contextual only[go_sem,p0]<;>rfl):G:=Eq.mpr (h p0) g
theorem IU{G:Prop}(h:G:=by simp+contextual (disch:=first|omega|simp only[go_sem,false_implies]) only[go_sem,wrap64,if_pos,he]):G:=h
theorem Xe{G G':Prop}(g:G')(h:G=G':=by simp+contextual (disch:=first|omega|simp only[go_sem,false_implies]) only[go_sem,wrap64,if_pos,Nat.add_assoc,Nat.left_eq_add,Nat.add_eq_left,Nat.add_left_cancel_iff,List.length_map]<;>rfl):G:=Eq.mpr h g
theorem IV{P0 G G':Prop}(p0:P0)(g:G')(h:P0->G=G':=by intro p0;simp+contextual only[go_sem,Nat.add_assoc,Nat.left_eq_add,Nat.add_eq_left,Nat.add_left_cancel_iff,p0]<;>rfl):G:=Eq.mpr (h p0) g
theorem Xf{P0 P1 P2 P3 P4 P5 G G':Prop}(p0:P0)(p1:P1)(p2:P2)(p3:P3)(p4:P4)(p5:P5)(g:G')(h:P0->P1->P2->P3->P4->P5->G=G':=by intro p0 p1 p2 p3 p4 p5;simp+contextual (disch:=first|omega|simp only[go_sem,false_implies]) only[go_sem,wrap64,if_pos,Nat.add_assoc,Nat.left_eq_add,Nat.add_eq_left,Nat.add_left_cancel_iff,p0,p1,p2,p3,p4,p5]<;>rfl):G:=Eq.mpr (h p0 p1 p2 p3 p4 p5) g
theorem Xg{P0 P1 P2 P3 P4 P5 G:Prop}(p0:P0)(p1:P1)(p2:P2)(p3:P3)(p4:P4)(p5:P5)(h:P0->P1->P2->P3->P4->P5->G:=by intro p0 p1 p2 p3 p4 p5;simp+contextual (disch:=first|omega|simp only[go_sem,false_implies]) only[go_sem,wrap64,if_pos,Nat.add_assoc,Nat.left_eq_add,Nat.add_eq_left,Nat.add_left_cancel_iff,p0,p1,p2,p3,p4,p5]):G:=h p0 p1 p2 p3 p4 p5
theorem Xh{P0 P1 G G':Prop}(p0:P0)(p1:P1)(g:G')(h:P0->P1->G=G':=by intro p0 p1;simp+contextual (disch:=first|omega|simp only[go_sem,false_implies]) only[go_sem,wrap64,if_pos,Nat.add_assoc,Nat.left_eq_add,Nat.add_eq_left,Nat.add_left_cancel_iff,p0,p1]<;>rfl):G:=Eq.mpr (h p0 p1) g
theorem Lm{P0 P1 P2 P3 P4 G G':Prop}(p0:P0)(p1:P1)(p2:P2)(p3:P3)(p4:P4)(g:G')(h:P0->P1->P2->P3->P4->G=G':=by intro p0 p1 p2 p3 p4;simp+contextual (disch:=first|omega|simp only[go_sem,false_implies]) only[go_sem,wrap64,if_pos,p0,p1,p2,p3,p4]<;>rfl):G:=Eq.mpr (h p0 p1 p2 p3 p4) g
theorem Ln{P0 P1 G:Prop}(p0:P0)(p1:P1)(h:P0->P1->G:=by intro p0 p1;simp+contextual (disch:=first|omega|simp only[go_sem,false_implies]) only[go_sem,wrap64,if_pos,p0,p1]):G:=h p0 p1
theorem Xi{P0 P1 P2 P3 G G':Prop}(p0:P0)(p1:P1)(p2:P2)(p3:P3)(g:G')(h:P0->P1->P2->P3->G=G':=by intro p0 p1 p2 p3;simp+contextual (disch:=first|omega|simp only[go_sem,false_implies]) only[go_sem,wrap64,if_pos,List.length_map,List.length_append,p0,p1,p2,p3]<;>rfl):G:=Eq.mpr (h p0 p1 p2 p3) g
theorem Qp{P0 P1 P2 P3 P4 P5 G G':Prop}(p0:P0)(p1:P1)(p2:P2)(p3:P3)(p4:P4)(p5:P5)(g:G')(h:P0->P1->P2->P3->P4->P5->G=G':=by intro p0 p1 p2 p3 p4 p5;simp+contextual (disch:=first|omega|simp only[go_sem,false_implies]) only[go_sem,wrap64,if_pos,p0,p1,p2,p3,p4,p5]<;>rfl):G:=Eq.mpr (h p0 p1 p2 p3 p4 p5) g
theorem acn{P0 P1 P2 P3 P4 P5 G G':Prop}(p0:P0)(p1:P1)(p2:P2)(p3:P3)(p4:P4)(p5:P5)(g:G')(h:P0->P1->P2->P3->P4->P5->G=G':=by intro p0 p1 p2 p3 p4 p5;simp+contextual (disch:=first|omega|simp only[go_sem,false_implies]) only[go_sem,wrap64,if_pos,Nat.add_assoc,Nat.left_eq_add,Nat.add_eq_left,Nat.add_left_cancel_iff,List.length_map,p0,p1,p2,p3,p4,p5]<;>rfl):G:=Eq.mpr (h p0 p1 p2 p3 p4 p5) g
theorem aco{P0 P1 P2 G G':Prop}(p0:P0)(p1:P1)(p2:P2)(g:G')(h:P0->P1->P2->G=G':=by intro p0 p1 p2;simp+contextual (disch:=first|omega|simp only[go_sem,false_implies]) only[go_sem,wrap64,if_pos,Nat.add_assoc,Nat.left_eq_add,Nat.add_eq_left,Nat.add_left_cancel_iff,Az,p0,p1,p2]<;>rfl):G:=Eq.mpr (h p0 p1 p2) g
theorem acp{G G':Prop}(g:G')(h:G=G':=by simp+contextual (disch:=first|omega|simp only[go_sem,false_implies]) only[go_sem,wrap64,if_pos,Nat.add_assoc,Nat.left_eq_add,Nat.add_eq_left,Nat.add_left_cancel_iff,uL]<;>rfl):G:=Eq.mpr h g
theorem ahx{G G':Prop}(g:G')(h:G=G':=by simp+contextual (disch:=first|omega|simp only[go_sem,false_implies]) only[go_sem,wrap64,if_pos,m9,Nat.add_assoc,Nat.left_eq_add,Nat.add_eq_left,Nat.add_left_cancel_iff]<;>rfl):G:=Eq.mpr h g
theorem Xj{G:Prop}(h:G:=by simp+contextual (disch:=first|omega|simp only[go_sem,false_implies]) only[go_sem,wrap64,if_pos,List.length_map]):G:=h
theorem ahy{P0 P1 P2 P3 G G':Prop}(p0:P0)(p1:P1)(p2:P2)(p3:P3)(g:G')(h:P0->P1->P2->P3->G=G':=by intro p0 p1 p2 p3;simp+contextual (disch:=first|omega|simp only[go_sem,false_implies]) only[go_sem,wrap64,if_pos,List.length_map,c4,c5,c6,c7,c8,c9,Lo,SZ,k2,p0,p1,p2,p3]<;>rfl):G:=Eq.mpr (h p0 p1 p2 p3) g
theorem Xk{P0 P1 P2 G G':Prop}(p0:P0)(p1:P1)(p2:P2)(g:G')(h:P0->P1->P2->G=G':=by intro p0 p1 p2;simp+contextual only[go_sem,Nat.add_assoc,Nat.left_eq_add,Nat.add_eq_left,Nat.add_left_cancel_iff,p0,p1,p2]<;>rfl):G:=Eq.mpr (h p0 p1 p2) g
theorem acq{G G':Prop}(g:G')(h:G=G':=by simp+contextual only[go_sem,Lp,Nat.add_assoc,Nat.left_eq_add,Nat.add_eq_left,Nat.add_left_cancel_iff,List.replicate]<;>rfl):G:=Eq.mpr h g
theorem acr{G:Prop}(h:G:=by simp+contextual (disch:=first|omega|simp only[go_sem,false_implies]) only[go_sem,wrap64,if_pos,m9]):G:=h
theorem acs{P0 G G':Prop}(p0:P0)(g:G')(h:P0->G=G':=by intro p0;simp+contextual (disch:=first|omega|simp only[go_sem,false_implies]) only[go_sem,wrap64,if_pos,fR,p0]<;>rfl):G:=Eq.mpr (h p0) g
theorem Lq{P0 P1 G G':Prop}(p0:P0)(p1:P1)(g:G')(h:P0->P1->G=G':=by intro p0 p1;simp+contextual only[go_sem,p0,p1]<;>rfl):G:=Eq.mpr (h p0 p1) g
theorem Qq{G:Prop}(h:G:=by simp+contextual only[go_sem]):G:=h
theorem dc{P:Prop}(h:P:=by(repeat(first|exact yr|refine vg ?_|refine qB rfl ?_|refine qB (Lr (Ls (by omega))) ?_|refine AA rfl (by simp[V.refs,V.aO]<;>first|omega|assumption) ?_))):P:=h
theorem dE{P:Prop}(h:P:=by repeat(first|exact hg.mono (by omega)|exact Good.nil|refine Good.aM ?_ (by omega) rfl|refine Good.aM ?_ (by omega) (yu _ _ _ (by omega))|refine Good.aM ?_ (by omega) (by simp[ab.refs,V.aO,V.refs]<;>omega))):P:=h
theorem ag{P:Prop}(h:P:=by kernel_rfl):P:=h
theorem af{P:Prop}(h:P:=by omega):P:=h
theorem oP{P:Prop}(h:P:=by(repeat(first|exact Lt|refine IW ?_|refine Lu rfl ?_|refine Lu (Lr (Ls (by omega))) ?_|refine Xl 0 rfl rfl rfl ?_|refine Xm rfl (by simp[V.refs,V.aO]<;>first|omega|assumption) ?_|refine Xn rfl (by simp[V.ids]<;>omega) ?_))):P:=h
theorem zy5{P:Prop}(h:P:=by simp[V.refs,V.aO]<;>first|omega|assumption):P:=h
theorem dn{P:Prop}(h:P:=by(repeat(first|rfl|rw[ae]|rw[ak _ _ _ _ (by omega)]))):P:=h
theorem K7{P:Prop}(h:P:=by simp only[sv,Cj,vh,yw,yx,yy,List.contains_nil,Bool.false_eq_true,if_false,eI,yz]):P:=h
theorem zy8{P:Prop}(h:P:=by simp[ab.refs,V.aO,V.refs]<;>omega):P:=h
theorem zy9{P:Prop}(h:P:=by(repeat(first|exact yr|refine vg ?_|refine qB rfl ?_|refine qB (Lr (Ls (by omega))) ?_|refine AA rfl (by simp[V.refs,V.aO]<;>first|omega|assumption) ?_|refine qB (by first|exact q0|exact q1|exact q2|exact q3|exact q4|exact q5|exact q6|exact q7|exact q8|exact q9|exact q10|exact q11|exact q12|exact q13|exact q14|exact S0|exact S1|exact S2|exact q18|exact q19|exact q20|exact q21|exact q22|exact q23|exact q24|exact q25|exact q26|exact q27|exact q28|exact q29|exact q30|exact q31|exact q32|exact q33|exact q34|exact q35|exact q36|exact q37|exact q38|exact q39|exact q40) ?_|refine AA (by first|exact q0|exact q1|exact q2|exact q3|exact q4|exact q5|exact q6|exact q7|exact q8|exact q9|exact q10|exact q11|exact q12|exact q13|exact q14|exact S0|exact S1|exact S2|exact q18|exact q19|exact q20|exact q21|exact q22|exact q23|exact q24|exact q25|exact q26|exact q27|exact q28|exact q29|exact q30|exact q31|exact q32|exact q33|exact q34|exact q35|exact q36|exact q37|exact q38|exact q39|exact q40) (by simp[V.refs,V.aO]<;>first|omega|assumption) ?_))):P:=h
theorem mw{P:Prop}(h:P:=by simp only[aM]<;>((repeat' split)<;>first|rfl|omega|(subst_vars;first|rfl|assumption|(symm;assumption)|omega|(simp_all;done)))):P:=h
theorem ao{P:Prop}(h:P:=by simp):P:=h
theorem ajB{P:Prop}(h:P:=by first|exact q0|exact q1|exact q2|exact q3|exact q4|exact q5|exact q6|exact q7|exact q8|exact q9|exact q10|exact q11|exact q12|exact q13|exact q14|exact S0|exact S1|exact S2|exact q18|exact q19|exact q20|exact q21|exact q22|exact q23|exact q24|exact q25|exact q26|exact q27|exact q28|exact q29|exact q30|exact q31|exact q32|exact q33|exact q34|exact q35|exact q36|exact q37|exact q38|exact q39|exact q40):P:=h
theorem Qr{P:Prop}(h:P:=by(repeat(first|rfl|rw[ae]|rw[ak _ _ _ _ (by omega)]));rw[ny,List.map_append];rfl):P:=h
theorem bG{P:Prop}(h:P:=by decide):P:=h
theorem ajC{P:Prop}(h:P:=by simp[V.ids]<;>omega):P:=h
theorem iX{P:Prop}(h:P:=by simp[ab.refs,V.aO,V.refs]):P:=h
theorem E9{P:Prop}(h:P:=by rintro⟨h1,h2⟩;first|(cases h1;done)|(cases h2;done)):P:=h
theorem jO{P:Prop}(h:P:=by simpa[execOp,eJ]using this):P:=h
theorem IX{P:Prop}(h:P:=by simp+contextual (disch:=first|omega|simp only[go_sem,false_implies]) only[go_sem,wrap64,if_pos,and_self];simp[m9]):P:=h
theorem xM{P:Prop}(h:P:=by cases rs with|nil=>exact ho.elim|cons x l=>cases l<;>exact ho.elim):P:=h
theorem Ck{P:Prop}(h:P:=by subst e;(repeat(first|rfl|rw[ae]|rw[ak _ _ _ _ (by omega)]))):P:=h
theorem Qs{P:Prop}(h:P:=by exact(by simp only[aM]<;>((repeat' split)<;>first|rfl|omega|(subst_vars;first|rfl|assumption|(symm;assumption)|omega|(simp_all;done))))):P:=h
theorem Lv{P:Prop}(h:P:=by exact⟨_,pq,kD,hq, .of_steps (.one h0 stepR_seq) (.pass (x:= .code y) rfl (fun _ _=> .inl (by simp)) dK)⟩):P:=h
theorem fD{P:Prop}(h:P:=by rw[ho];rfl):P:=h
theorem Xo{P:Prop}(h:P:=by exact⟨false, .inl rfl,rfl,kE (fun _ _ h=>by cases h.1) (by rintro⟨h1,h2⟩;first|(cases h1;done)|(cases h2;done)),eq _ (fun d=>by rw[acu w d ht])⟩):P:=h
theorem AB{P:Prop}(h:P:=by rw[m2.eq id (by omega)];unfold ext;rw[if_pos aG]):P:=h
theorem Qt{P:Prop}(h:P:=by exact hK _ _ (by omega) (m2.mono (by omega)) fun id i1 i2=>by rw[m3 id i1 (by omega),ak _ _ _ _ (by omega)]):P:=h
theorem nk{P:Prop}(h:P:=by simp[V.aO,V.refs]):P:=h
theorem Lw{P:Prop}(h:P:=by rw[m2.eq id (by omega)];unfold ext;rw[if_neg (by omega),ak _ _ _ _ (by omega)]):P:=h
theorem ahz{P:Prop}(h:P:=by exact hK _ _ (by omega) (m2.mono (by omega)) fun id i1 i2=>(m3 id i1 (by omega)).trans (dF id i1 i2)):P:=h
theorem Lx{P:Prop}(h:P:=by(repeat(first|exact IY|refine Fa ?_|refine Qu rfl ?_))):P:=h
theorem Ly{P:Prop}(h:P:=by subst e3;(repeat(first|rfl|rw[ae]|rw[ak _ _ _ _ (by omega)]))):P:=h
theorem Lz{P:Prop}(h:P:=by exact hK _ _ (by omega) (m2.mono (by omega)) fun id i1 i2=>m3 id i1 (by omega)):P:=h
theorem LA{P:Prop}(h:P:=by unfold my at h1;simp only[Bool.and_eq_true,beq_iff_eq]at h1;exact h1.2.1):P:=h
theorem LB{P:Prop}(h:P:=by exact(hI.aM (by omega) (by omega) (by omega) hr).ext (by omega) (by omega)):P:=h
theorem acv{P:Prop}(h:P:=by exact⟨_,_,_,_,_,_,_,hK,by simp[Instr.range,run_underlying ht,sw], .inl rfl,n1,n2,⟨rfl,by simp,fun _=>⟨w.heap.size,by simp,rfl⟩⟩,fun j hj=> .inr (by simpa using hj)⟩):P:=h
theorem acw{P:Prop}(h:P:=by exact⟨_,_,_,_,_,_,_,hK,by simp[Instr.range,run_underlying ht], .inl rfl,n1,n2,⟨rfl,by simp,fun _=>⟨w.heap.size,by simp,rfl⟩⟩,fun j hj=> .inr (by simpa using hj)⟩):P:=h
theorem IZ{P:Prop}(h:P:=by rw[hold id (by omega) (by omega),I0 id (by omega) aG]):P:=h
theorem pt{P:Prop}(h:P:=by dsimp only;omega):P:=h
theorem nz{P:Prop}(h:P:=by simpa using hj):P:=h
theorem acx{P:Prop}(h:P:=by simp+contextual (disch:=first|omega|simp only[go_sem,false_implies]) only[go_sem,wrap64,if_pos,List.length_map,hx,hy,hw,n0,qC,List.length_append,pv,se]):P:=h
theorem AD{P:Prop}(h:P:=by simp[Op.equalIn,run_underlying ht]):P:=h
theorem ahA{P:Prop}(h:P:=by exact⟨false, .inl rfl,rfl,kE (fun _ _ h=>by cases h.1) (by rintro⟨h1,h2⟩;first|(cases h1;done)|(cases h2;done)),eq _ (fun d=>by rw[acy w d ht])⟩):P:=h
theorem ahB{P:Prop}(h:P:=by exact⟨false, .inl rfl,rfl,kE (fun _ _ h=>by cases h.1) (by rintro⟨h1,h2⟩;first|(cases h1;done)|(cases h2;done)),eq _ (fun d=>by rw[acz w d ht])⟩):P:=h
theorem acA{P:Prop}(h:P:=by exact⟨false, .inl rfl,rfl,kE (fun _ _ h=>by cases h.1) (by rintro⟨h1,h2⟩;first|(cases h1;done)|(cases h2;done)),eq _ (fun d=>by rw[acB w d ht])⟩):P:=h
theorem Xp{P:Prop}(h:P:=by rw[hn,hI,fF hx];rfl):P:=h
theorem acC{P:Prop}(h:P:=by exact⟨a,ev,h1,h2,D.bg (w:=w) (w':=w) (fun b _ hn=>⟨rfl,hB b hn⟩) cs ev h3,h5,h4.mono (w:=w) (w':=w) (fun b _ hn=>⟨rfl,hB b hn⟩)⟩):P:=h
theorem acD{P:Prop}(h:P:=by exact hK _ _ (by omega) (sy.mono (by omega)) dF):P:=h
theorem acE{P:Prop}(h:P:=by exact .inl ⟨_,_,_, .inr ⟨c,f,g,first,cap,hc,fS,hf, .inr (.inl ⟨rs,hH,rfl,fun id aG=>by simpa using List.all_eq_true.1 pw id aG⟩)⟩,h⟩):P:=h
theorem acF{P:Prop}(h:P:=by exact .inl ⟨_,_,_, .inr ⟨c,f,g,first,cap,hc,fS,hf, .inr (.inr (.inr ⟨hH,fun id aG=>by simpa using List.all_eq_true.1 pw id aG⟩))⟩,h⟩):P:=h
theorem acG{P:Prop}(h:P:=by exact de.same hH _ hK (by simp only[Sem.run_bind,hr,Result.andThen_ok];rfl) ⟨_,rfl,zv,[.bool false],rfl,r2, .bool false,[],rfl,rfl,rfl⟩):P:=h
theorem acH{P:Prop}(h:P:=by exact .inr ⟨_,_,_,⟨c,f,g,first,cap,hc,fS,hf, .inr ⟨x,Δ,hH,rfl,rfl,fun id aG=>by simpa using List.all_eq_true.1 pw id aG⟩⟩,h⟩):P:=h
theorem LC{P:Prop}(h:P:=by rw[hI.eq bx S3];unfold ext;rw[if_neg (by omega),hO]):P:=h
theorem Xq{P:Prop}(h:P:=by rw[q6 _ (by omega)];(repeat(first|rfl|rw[ae]|rw[ak _ _ _ _ (by omega)]))):P:=h
theorem acI{P:Prop}(h:P:=by exact⟨by show(x.val.kids++[y.val]).length<=_;rw[List.length_append,List.length_singleton];omega,fun k hk=>(Fb.all k hk).1⟩):P:=h
theorem Xr{P:Prop}(h:P:=by rw[List.contains_iff_mem, <- (by simpa using h3:x=n)];exact List.mem_of_getElem? hx):P:=h
theorem pQ{P:Prop}(h:P:=by simp[pB,aG]):P:=h
theorem ahC{P:Prop}(h:P:=by exact hK _ _ (by omega) (hg.mono (by omega)) (fun _ _=>rfl)):P:=h
theorem acJ{P:Prop}(h:P:=by exact(sy.aM (i:=nx'+3) (m:=nx'+7) (by omega) (by omega) (by omega) rfl).aM (by omega) (by omega) (by omega) rfl):P:=h
theorem ahD{P:Prop}(h:P:=by exact⟨b,r,k1,k2,k3,k4,k5,k6,k7,k8,k9,fun i=>gG _ _ (fun r hr=>hrefs r (V.yA _ _ r hr)) (k10 i)⟩):P:=h
theorem ahE{P:Prop}(h:P:=by simp+contextual (disch:=first|omega|simp only[go_sem,false_implies]) only[go_sem,wrap64,if_pos,bL,hx,n0]):P:=h
theorem acK{P:Prop}(h:P:=by exact vi (y:=B j) (ho j hj e1) (GP B e1 (by omega) ds ty sz _) (bE rfl (fun q hq=>hg.refs j q hq))):P:=h
theorem lW{P:Prop}(h:P:=by simp[hx]):P:=h
theorem Qv{P:Prop}(h:P:=by simpa[execOp,eJ,resolve,invoke,builtin]using this):P:=h
theorem Qw{P:Prop}(h:P:=by exact D.bc (fun b _ hn=>⟨rfl,hB b hn⟩) _ _ bH):P:=h
theorem acL{P:Prop}(h:P:=by exact⟨fo Fc.1,fo Fc.2,fun id aG=>⟨dj Cl.1.1 id aG,dj Cl.1.2 id aG⟩,fun id aG=>dj Cl.2 id aG⟩):P:=h
theorem Xs{P:Prop}(h:P:=by rw[um];exact List.mem_cons_of_mem _ (List.mem_flatMap.2 ⟨k,hk,hx⟩)):P:=h
theorem acM{P:Prop}(h:P:=by simp only[Sem.run_bind,hr,Result.andThen_ok];rfl):P:=h
theorem Xt{P:Prop}(h:P:=by rw[ak _ _ _ _ vj,I1 _ _ (by omega)];exact h0 id (by omega)):P:=h
theorem acN{P:Prop}(h:P:=by exact fin _ [] (fun b hb=>by cases hb) eo (World.ownsRow_nil w' 0 ty sz) ⟨[],rfl,by simp,rfl⟩ rfl):P:=h
theorem Qx{P:Prop}(h:P:=by exact hI.aM (by omega) (by omega) (by omega) rfl):P:=h
theorem Qy{P:Prop}(h:P:=by unfold fG;rw[List.map_append,List.sum_append]):P:=h
theorem Xu{P:Prop}(h:P:=by exact Cm hL k3 (key _ _ _ (by rw[hj];rfl) (Xv _ _ hj))):P:=h
theorem acO{P:Prop}(h:P:=by simp only[Op.operands,Call.operands];exact Array.mem_append.2 (.inr (Array.mem_toList_iff.1 hx))):P:=h
theorem Xw{P:Prop}(h:P:=by exact Fe hL k3 (key _ _ _ (by rw[hj];rfl) (Xv _ _ hj))):P:=h
theorem ahF{P:Prop}(h:P:=by exact LD hu dF (fun id h=> .inl (by rw[lL]at h;exact h)) g1.symm g3 ny (lX rfl)):P:=h
theorem Xx{P:Prop}(h:P:=by exact(hg.mono (by omega)).aM (by omega) (yu _ _ _ (by omega))):P:=h
theorem LF{P:Prop}(h:P:=by injection h with h;subst h;exact hK):P:=h
theorem acP{P:Prop}(h:P:=by simp only[h1,dy,Option.map_some];exact hK):P:=h
theorem acQ{P:Prop}(h:P:=by exact⟨k1,Cn.tr.trans k2,Cn.size,Cn.defers.mono k2,fun j=>V.bc k2 _ _ (Cn.env j)⟩):P:=h
theorem acR{P:Prop}(h:P:=by rw[ak _ _ _ _ e,ak _ _ _ _ e,ak _ _ _ _ (by omega),hI.eq j hj,ak _ _ _ _ e]):P:=h
theorem Xy{P:Prop}(h:P:=by simp only[Bool.and_eq_true,bu]at c2;rw[c2.2.2];rfl):P:=h
theorem Xz{P:Prop}(h:P:=by exact I2 hL k3 (key _ _ _ (by rw[hj];rfl) (PZ _ hj))):P:=h
theorem Qz{P:Prop}(h:P:=by exact V.bc (ht.trans k2) _ _ (hs.env i)):P:=h
theorem Co{P:Prop}(h:P:=by simp[V.refs]):P:=h
theorem ahG{P:Prop}(h:P:=by exact⟨k1,hs.tr.trans k2,hs.size,hs.defers.mono k2,fun j=>V.bc k2 _ _ (hs.env j)⟩):P:=h
theorem acS{P:Prop}(h:P:=by rw[m3 id h2 (by omega),ak _ _ _ _ (by omega),ak _ _ _ _ (by omega),dF id h2 h3]):P:=h
theorem acT{P:Prop}(h:P:=by exact hQ _ _ _ _ val k5 (fH hs k1 k2 (o':=o') (nx':=nx') rfl fun id hu=>hu) k4):P:=h
theorem XA{P:Prop}(h:P:=by exact⟨_,pq,kD,hq, .of_steps (.one h0 stepR_block) dK⟩):P:=h
theorem XB{P:Prop}(h:P:=by exact⟨_,pq,kD,hq, .of_steps (.one h0 lx) dK⟩):P:=h
theorem LG{P:Prop}(h:P:=by unfold e7;rw[QA trivial]):P:=h
theorem acU{P:Prop}(h:P:=by exact .inr (.inr (.inr (pC.mono (fun v o n h=>hK _ h) (fun v o n h=>hX _ _ h) h)))):P:=h
theorem XC{P:Prop}(h:P:=by rw[ak _ _ _ _ (by omega)];exact k4 id (by omega) g2):P:=h
theorem acV{P:Prop}(h:P:=by exact⟨none,0,0,rfl,rfl,Nat.le_refl _,fun _=>rfl,0,fun a ha=>by cases ha⟩):P:=h
theorem acW{P:Prop}(h:P:=by exact⟨b,es',clock,k1,k2,k4,aY.mono (fun b _ hn=>⟨rfl,hB b hn⟩) _ _ k3⟩):P:=h
theorem QB{P:Prop}(h:P:=by rw[show(hp o nx).o id=_ from ho];rfl):P:=h
theorem ahH{P:Prop}(h:P:=by exact⟨H.1,⟨by omega,tz 0 k hk ⟨by omega,by omega⟩ (by omega)⟩,pg _ _ _ H.2.2⟩):P:=h
theorem acX{P:Prop}(h:P:=by exact fun k hk s' h1 h2=>Cp _ (fun x hx=>bw x (mz k hk x hx)) s' h1 h2):P:=h
theorem ahI{P:Prop}(h:P:=by exact⟨t::l,rfl,fun b hb=>(List.mem_cons.1 hb).elim (fun e=>e ▸ ht) (hl b)⟩):P:=h
theorem S4{P:Prop}(h:P:=by dsimp only;(repeat(first|rfl|rw[ae]|rw[ak _ _ _ _ (by omega)]))):P:=h
theorem LH{P:Prop}(h:P:=by injection h with h;subst h;exact⟨by assumption,hK⟩):P:=h
theorem S5{P:Prop}(h:P:=by exact⟨k1,xs,k2,evs,k3,k4,D.bg (fun b _ hn=>⟨rfl,hB b hn⟩) _ _ k5⟩):P:=h
theorem LI{P:Prop}(h:P:=by exact(m2.mono (by omega)).ext (by omega) (by omega)):P:=h
theorem S6{P:Prop}(h:P:=by exact hH.fresh j fun hu=>h (.inl hu)):P:=h
theorem LJ{P:Prop}(h:P:=by exact .inl ⟨3,1,rfl,ae _ _ _⟩):P:=h
theorem acY{P:Prop}(h:P:=by exact⟨r, .inl rfl,by obtain⟨_,rfl,_⟩:=hx;rfl,fun op=>g2 op p q,g1⟩):P:=h
theorem LK{P:Prop}(h:P:=by simp at h;obtain⟨rfl,rfl⟩:=h;exact⟨rfl,rfl⟩):P:=h
theorem S7{P:Prop}(h:P:=by exact hN _ _ _ (kF hs k1 k2 (nA ho) dq rfl fun id hu=> .inl hu)):P:=h
theorem acZ{P:Prop}(h:P:=by rw[List.drop_eq_getElem_cons g1,List.drop_eq_getElem_cons g3,g2,g4,iD]):P:=h
theorem LL{P:Prop}(h:P:=by rw[I1 _ _ (by omega)];exact k2.eq id (by omega)):P:=h
theorem S8{P:Prop}(h:P:=by exact⟨_,_,_,_,_,_,_,hK,by simp[hr], .inl rfl,h1,h2,h3,by simp⟩):P:=h
theorem ac0{P:Prop}(h:P:=by simp only[a0,Array.size_append,Array.size_replicate];simp at hlen;omega):P:=h
theorem ac1{P:Prop}(h:P:=by exact forall_congr' fun k=>forall_congr' fun hk=>by rw[ih k hk (d+1)]):P:=h
theorem S9{P:Prop}(h:P:=by cases xv<;>first|(simp[Ta]at hwd;done)|(cases yv<;>simp[he])):P:=h
theorem Tb{P:Prop}(h:P:=by exact⟨x,b.trans y,z⟩):P:=h
theorem yB{P:Prop}(h:P:=by simpa[V.refs]using hr):P:=h
theorem LM{P:Prop}(h:P:=by have:=(List.getElem?_eq_some_iff.1 hx).1;omega):P:=h
theorem Tc{P:Prop}(h:P:=by exact(GP B (by omega) (by omega) ds ty sz _).trans (uo j (by omega))):P:=h
theorem qD{P:Prop}(h:P:=by simpa using h2):P:=h
theorem LN{P:Prop}(h:P:=by rw[pw];simp only[pB,fS,xN];exact aG):P:=h
theorem Td{P:Prop}(h:P:=by injection hu with hu;injection hv with hv;subst hu;subst hv;exact h3):P:=h
theorem Te{P:Prop}(h:P:=by exact hN _ _ _ _ k3.2 (oQ hs k1 k2 k3.1 dq rfl fun id hu=>hu)):P:=h
theorem LO{P:Prop}(h:P:=by simp at hl;obtain⟨rfl,rfl⟩:=hl;exact hK):P:=h
theorem ac2{P:Prop}(h:P:=by rw[if_neg (by omega),hold id (by omega) h2]):P:=h
theorem GQ{P:Prop}(h:P:=by simpa only[yC]using this):P:=h
theorem GR{P:Prop}(h:P:=by simp+contextual only[go_sem,h]):P:=h
theorem ac3{P:Prop}(h:P:=by cases(aC step s l).2<;>simp):P:=h
theorem LP{P:Prop}(h:P:=by simp at hj hy;subst hj;subst hy;exact bw):P:=h
theorem GS{P:Prop}(h:P:=by rw[if_neg e,if_neg (by omega)]):P:=h
theorem aju{P:Prop}(h:P:=by rw[hj];rfl):P:=h
theorem Cq{P:Prop}(h:P:=by exact hI.mono (by omega)):P:=h
theorem LQ{P:Prop}(h:P:=by unfold kG;rw[List.getElem?_map,h];rfl):P:=h
theorem ac4{P:Prop}(h:P:=by exact h3 e (Array.mem_toList_iff.1 he) hb):P:=h
theorem GU{P:Prop}(h:P:=by rw[hg];simp[eO,hv,e]):P:=h
theorem Tf{P:Prop}(h:P:=by exact de.same hH _ h (by simp[execOp,eJ,hr]) ⟨_,rfl,hv⟩):P:=h
theorem LR{P:Prop}(h:P:=by rw[uM];exact dv all _ bH):P:=h
theorem LS{P:Prop}(h:P:=by simp[ab.refs,V.aO,V.refs];omega):P:=h
theorem LU{P:Prop}(h:P:=by subst vj;rw[ae];exact hh.symm):P:=h
theorem tA{P:Prop}(h:P:=by rw[xC];rfl):P:=h
theorem GV{P:Prop}(h:P:=by simp[V.aO,V.refs];omega):P:=h
theorem qE{P:Prop}(h:P:=by simp;omega):P:=h
theorem Tg{P:Prop}(h:P:=by exact bW t u hu (hQ _ s φ w (.iface t u) h hs ⟨u,rfl,hd⟩)):P:=h
theorem GW{P:Prop}(h:P:=by simp[binOp,Cr hr]):P:=h
theorem GX{P:Prop}(h:P:=by rw[List.length_take];omega):P:=h
theorem LV{P:Prop}(h:P:=by exact⟨.ret,s',aS,hq,jC,trivial⟩):P:=h
theorem Th{P:Prop}(h:P:=by exact⟨e',XE,fr',hR,ComesIn.of_steps Ti hs,K8,hl⟩):P:=h
theorem tC{P:Prop}(h:P:=by rw[hx];rfl):P:=h
theorem pD{P:Prop}(h:P:=by simp[hy]):P:=h
theorem yD{P:Prop}(h:P:=by rw[hx];exact hk):P:=h
theorem LW{P:Prop}(h:P:=by rw[xD i hi];exact congrArg some hb):P:=h
theorem Tj{P:Prop}(h:P:=by exact⟨b,k1,k2.mono (fun b _ hn=>⟨rfl,hB b hn⟩) rfl⟩):P:=h
theorem ac5{P:Prop}(h:P:=by rw[List.drop_eq_getElem_cons g1,g2]):P:=h
theorem ac6{P:Prop}(h:P:=by rw[List.drop_eq_getElem_cons h5,h6]):P:=h
theorem LX{P:Prop}(h:P:=by unfold e7;exact Eq.trans rfl rfl):P:=h
theorem LY{P:Prop}(h:P:=by subst vj;rw[ae,PZ _ Tk]):P:=h
theorem GY{P:Prop}(h:P:=by rw[nm]at hl;simp at hl):P:=h
theorem GZ{P:Prop}(h:P:=by subst hi;simp[Ne.symm h]):P:=h
theorem LZ{P:Prop}(h:P:=by exact⟨.bW _,s',aS,hq,jC,hm⟩):P:=h
theorem L0{P:Prop}(h:P:=by unfold I3;exact Eq.trans rfl rfl):P:=h
theorem G0{P:Prop}(h:P:=by exact fun _=>Cs _ _ _):P:=h
theorem L1{P:Prop}(h:P:=by unfold eqGuard;cases op<;>simp):P:=h
theorem G1{P:Prop}(h:P:=by rw[h]at h1;simp at h1):P:=h
theorem yE{P:Prop}(h:P:=by rw[um];simp):P:=h
theorem G2{P:Prop}(h:P:=by rw[bZ hx h3];rfl):P:=h
theorem L2{P:Prop}(h:P:=by simp[hj]at hr;exact⟨hr,rfl⟩):P:=h
theorem L3{P:Prop}(h:P:=by rw[I1 _ _ I4, <- h0 _ I4,ht]):P:=h
theorem L4{P:Prop}(h:P:=by simp at hj;subst hj;exact gu):P:=h
theorem yF{P:Prop}(h:P:=by simpa using hx):P:=h
theorem L5{P:Prop}(h:P:=by rw[ht];exact ab.noConfusion):P:=h
theorem yG{P:Prop}(h:P:=by simpa using h):P:=h
theorem yH{P:Prop}(h:P:=by rw[h1];rfl):P:=h
theorem Ct{P:Prop}(h:P:=by cases b<;>rfl):P:=h
theorem ac7{P:Prop}(h:P:=by exact⟨b,h4.trans h5,h6⟩):P:=h
theorem zw0{P:Prop}(h:P:=by refine aN dz ?_;refine iB hx e0 ?_;refine aw ag ?_;refine iB hx e0 ?_;refine au (k+1) h2 af (lY (r:=19) (c:=30) (ep:=1) (ds:=[.i f.az, .i w.op, .i w.n, .sl (w.kids.map Tm.d), .i f.num, .sl (f.binds.map Tm.d)]) _ hB uo af (fun j hj il=>by(repeat(first|rfl|rw[ae]|rw[ak _ _ _ _ (by omega)]))) dn Qr ?_);exact oP):P:=h
theorem K9{P:Prop}(h:P:=by refine dk et cH ?_;refine aU ?_;refine eu ⟨bG, ?_⟩;exact K7):P:=h
theorem L6{P:Prop}(h:P:=by rw[if_neg (by omega)]at uN;subst uN;refine iB hx e0 ?_;refine aN dz ?_;refine iB hx e0 ?_;refine aw ag ?_;refine iB hx e0 ?_;refine au (k+1) h2 af (lY (r:=19) (c:=30) (ep:=1) (ds:=[.i f.az, .i w.op, .i w.n, .sl (w.kids.map Tm.d), .i f.num, .sl (f.binds.map Tm.d)]) _ hB uo af (fun j hj il=>by(repeat(first|rfl|rw[ae]|rw[ak _ _ _ _ (by omega)]))) dn Qr ?_);exact oP):P:=h
theorem L7{P:Prop}(h:P:=by rw[if_pos (by omega)]at uN;subst uN;refine iB hx e0 ?_;refine aN dz ?_;refine iB hx e0 ?_;refine aw ag ?_;refine iB hx e0 ?_;refine au (k+1) h2 af (lY (r:=19) (c:=30) (ep:=1) (ds:=[.i f.az, .i w.op, .i w.n, .sl (w.kids.map Tm.d), .i f.num, .sl (f.binds.map Tm.d)]) _ hB uo af (fun j hj il=>by(repeat(first|rfl|rw[ae]|rw[ak _ _ _ _ (by omega)]))) dn Qr ?_);exact oP):P:=h
theorem AE{P:Prop}(h:P:=by refine aw (aD rfl) ?_;exact dM):P:=h
theorem pR{P:Prop}(h:P:=by rw[g,bP]at hc;rw[bP];refine dk hc cH ?_;refine aU ?_;refine eu ⟨bG, ?_⟩;exact K7):P:=h
theorem pS{P:Prop}(h:P:=by rw[g,e8]at hc;rw[e8];refine aq hc rfl ?_;refine aU ?_;refine aw bG ?_;exact dM):P:=h
theorem QC{P:Prop}(h:P:=by refine aU ?_;refine aw bG ?_;exact dM):P:=h
theorem XF{P:Prop}(h:P:=by refine aw bG ?_;exact dM):P:=h
theorem sA{P:Prop}(h:P:=by refine cf g1 ?_;refine aw (aD rfl) ?_;exact dM):P:=h
theorem AF{P:Prop}(h:P:=by refine ew et rfl ?_;exact dM):P:=h
theorem XG{P:Prop}(h:P:=by refine iB e0 hx ?_;refine au (k+1) h2 af (bM.jP (fun j=>j=1) (.osl 1 1) 1 _ af (G3 (cP (y:= .row r.row) dn dn (bE rfl iX))) (ae _ _ _) (.inr ⟨1,1,rfl,rfl,by(repeat(first|rfl|rw[ae]|rw[ak _ _ _ _ (by omega)]));rw[hsn,List.map_append];rfl⟩) (fun j hj=>by(repeat(first|rfl|rw[ae]|rw[ak _ _ _ _ (by omega)]))) (fun j h h2=>af) ?_);exact oP):P:=h
theorem XH{P:Prop}(h:P:=by refine au (k+1,(step s' x).1,o2,n2+1+1) ⟨h1,m2.mono (show n2<=n2+1+1 from af),(show nx<=n2+1+1 from af),fun id i1 i2=>(m3 id i1 af).trans (dF id i1 i2),hf,bw x cp s' lr hb,by rw[qy];rfl⟩ pt (bM.b9 _ (show nx<=n2+1+1 from af) (Nat.le_refl _) (m2.mono (show n2<=n2+1+1 from af)).bX (fun _ _=>rfl) ?_);exact dc):P:=h
theorem Cu{P:Prop}(h:P:=by refine aw (aD rfl) ?_;refine aU ?_;rw[e]):P:=h
theorem ac8{P:Prop}(h:P:=by refine dW hx ?_;refine aT (ih x cp (fu.2 x cp) af) ?_;refine dW hx ?_;refine au (k+1) h2 af (bM.jP (fun j=>j=1) (.osl 1 1) 1 _ af (G3 (cP (y:= .row t.row) dn dn (bE rfl iX))) (ae _ _ _) (.inr ⟨1,1,rfl,rfl,by(repeat(first|rfl|rw[ae]|rw[ak _ _ _ _ (by omega)]));rw[xE,xO, <- List.append_assoc,List.map_append];simp[bD]⟩) (fun j hj=>by(repeat(first|rfl|rw[ae]|rw[ak _ _ _ _ (by omega)]))) (fun j h h2=>af) ?_);exact oP):P:=h
theorem I5{P:Prop}(h:P:=by rw[List.drop_eq_getElem_cons h1];rw[List.getElem?_eq_getElem h1]at hx;injection hx with hx;rw[hx]):P:=h
theorem L8{P:Prop}(h:P:=by rw[bP];refine aU ?_;refine dk et cH ?_;refine aU ?_;refine eu ⟨bG, ?_⟩;exact K7):P:=h
theorem XI{P:Prop}(h:P:=by refine bM.jP (fun _=>False) .bO 1 _ af (G3 (bE rfl iX)) (ae _ _ _) (.inl ⟨rfl,rfl,bG⟩) (fun j hj=>by(repeat(first|rfl|rw[ae]|rw[ak _ _ _ _ (by omega)]))) (fun _ h=>h.elim) ?_;exact oP):P:=h
theorem ac9{P:Prop}(h:P:=by rw[if_neg Bool.false_ne_true,List.append_nil]at e;refine dW hn ?_;refine au (k+1) h2 af (bM.jP (fun j=>j=1) (.osl 1 0) 1 _ af (G3 (cP (y:= .row r.row) dn dn (bE rfl iX))) (ae _ _ _) (.inr ⟨1,0,rfl,rfl,by(repeat(first|rfl|rw[ae]|rw[ak _ _ _ _ (by omega)]));rw[e]⟩) (fun j hj=>by(repeat(first|rfl|rw[ae]|rw[ak _ _ _ _ (by omega)]))) (fun j h h2=>af) ?_);exact oP):P:=h
theorem XJ{P:Prop}(h:P:=by refine aw (aD rfl) ?_;refine cf q2 ?_;refine db _ _ _ .busy none af (fin _ _ (fun id aG=>mw) dE af) dn (fun id h3 h4=>by(repeat(first|rfl|rw[ae]|rw[ak _ _ _ _ (by omega)])))):P:=h
theorem L9{P:Prop}(h:P:=by rw[e8];refine aU ?_;refine aq cu rfl ?_;refine aU ?_;refine aw bG ?_;exact dM):P:=h
theorem I6{P:Prop}(h:P:=by dsimp only;refine bM.b9 _ (Nat.le_refl _) af hI.bX (fun _ _=>rfl) ?_;exact dc):P:=h
theorem ada{P:Prop}(h:P:=by subst uN;refine ahy hx e0 d1 d2 ?_;refine aN dz ?_;refine iB hx e0 ?_;refine aw ag ?_;refine iB hx e0 ?_;refine au (k+1) h2 af (lY (r:=19) (c:=30) (ep:=1) (ds:=[.i f.az, .i w.op, .i w.n, .sl (w.kids.map Tm.d), .i f.num, .sl (f.binds.map Tm.d)]) _ hB uo af (fun j hj il=>by(repeat(first|rfl|rw[ae]|rw[ak _ _ _ _ (by omega)]))) dn Qr ?_);exact oP):P:=h
theorem QD{P:Prop}(h:P:=by rw[Bool.false_and,bP];refine aU ?_;refine dk et cH ?_;refine aU ?_;refine eu ⟨bG, ?_⟩;exact K7):P:=h
theorem Ma{P:Prop}(h:P:=by obtain⟨h0,x,hx⟩:=qF hI;simp+contextual only[go_sem,h,hI,hx,h0];exact Xp):P:=h
theorem QE{P:Prop}(h:P:=by rw[hb]at hf qy;simp only[Bool.false_eq_true,if_false]at hf qy;refine b8 ?_;rw[hf,qy]at hK;exact ahz):P:=h
theorem Mb{P:Prop}(h:P:=by rw[h1,G4]at hc;rw[Bool.false_and,bP];refine ew hc rfl ?_;exact dM):P:=h
theorem QF{P:Prop}(h:P:=by simp[Ef,Array.getD_eq_getD_getElem?,Array.getElem?_replicate]at im;split at im<;>simp at im):P:=h
theorem QG{P:Prop}(h:P:=by simp at h1;refine b8 ?_;rw[List.drop_eq_nil_of_le h1]at hf qy;rw[hf,qy]at hK;exact acD):P:=h
theorem XK{P:Prop}(h:P:=by obtain⟨h0,h1,h2⟩:=h;refine⟨h0,hr.us id h1,fun cz=> ?_⟩;obtain⟨h3,h4⟩:=hr.row id h1 cz;obtain⟨b,h5,h6⟩:=h2 h3;exact ac7):P:=h
theorem XL{P:Prop}(h:P:=by obtain⟨a,b,c⟩:=hr id Co;obtain⟨h0,h1,h2⟩:=h;refine⟨h0,c,fun cz=> ?_⟩;rw[a]at cz;obtain⟨x,y,z⟩:=h2 cz;exact Tb):P:=h
theorem XM{P:Prop}(h:P:=by dsimp only;rw[q4 j (by omega) (by omega) (by omega)];(repeat(first|rfl|rw[ae]|rw[ak _ _ _ _ (by omega)]));exact p2 j g1 g2):P:=h
theorem XN{P:Prop}(h:P:=by rw[bL,Bool.false_and,bP];refine dW bL ?_;refine dk et cH ?_;refine aU ?_;refine eu ⟨bG, ?_⟩;exact K7):P:=h
theorem adb{P:Prop}(h:P:=by refine ew hc rfl ?_;exact dM):P:=h
theorem XO{P:Prop}(h:P:=by obtain⟨h0,x,hx⟩:=qF hI;simp+contextual only[go_sem,hI,hx,h0];refine aw (aD rfl) ?_;refine b8 ?_;exact Xp):P:=h
theorem QH{P:Prop}(h:P:=by subst e;(repeat(first|rfl|rw[ae]|rw[ak _ _ _ _ (by omega)]));exact q3.symm):P:=h
theorem XP{P:Prop}(h:P:=by refine aU ?_;refine ew et rfl ?_;exact dM):P:=h
theorem XQ{P:Prop}(h:P:=by obtain⟨a,b,c⟩:=hr id Co;obtain⟨h0,h1,h2⟩:=h;refine⟨h0,c,fun cz=> ?_⟩;obtain⟨x,y,z⟩:=h2 (a.1 cz);exact Tb):P:=h
theorem ade{P:Prop}(h:P:=by refine aU ?_;refine ah hkn rfl ?_;exact dM):P:=h
theorem QI{P:Prop}(h:P:=by refine ah Mc rfl ?_;refine aU ?_;refine ah hkn rfl ?_;exact dM):P:=h
theorem XR{P:Prop}(h:P:=by rw[q4 nx (by omega) (by omega) (by omega)];(repeat(first|rfl|rw[ae]|rw[ak _ _ _ _ (by omega)]));exact p0):P:=h
theorem adf{P:Prop}(h:P:=by refine aU ?_;rw[e]):P:=h
theorem XS{P:Prop}(h:P:=by intro j hj;simp only[bT,h2,List.mem_map,List.mem_filter]at hj;obtain⟨e,⟨he,hb⟩,rfl⟩:=hj;exact ac4):P:=h
theorem adg{P:Prop}(h:P:=by rw[hs,Bool.true_and]at vl;refine cf hs ?_;refine au (k+1) ⟨h2,vl⟩ af (bM.b9 _ (show 0<=1 from af) af dE (fun j hj=>by(repeat(first|rfl|rw[ae]|rw[ak _ _ _ _ (by omega)]))) ?_);exact dc):P:=h
theorem XT{P:Prop}(h:P:=by refine iB bL jb ?_;refine dk et cH ?_;refine aU ?_;refine eu ⟨bG, ?_⟩;exact K7):P:=h
theorem adh{P:Prop}(h:P:=by obtain⟨h0,h1,h2⟩:=h;refine⟨h0,hr.us id h1,fun e' qz=> ?_⟩;obtain⟨e,g1,g2,g3⟩:=hr.ep id e' h1 qz;obtain⟨h3,h4⟩:=h2 e g1;refine⟨Nat.le_trans h3 g2,fun heq=> ?_⟩;rw[g3 (by omega)];exact h4 af):P:=h
theorem adi{P:Prop}(h:P:=by refine aw bG ?_;refine cf P8 ?_;refine aT (Md _ v af) ?_;refine aU ?_;refine au (j+1) h3 af (bM.d1 _ (ba rfl) af rfl ?_);rw[sB P8,if_pos hc];exact dc):P:=h
theorem adj{P:Prop}(h:P:=by rw[e]at hK;refine ahx ?_;exact hK _ _ af ⟨dE,af,fun j hj=>by rw[ak _ _ _ _ (by omega),hI.eq j hj]⟩ (fun j g1 g2=>by(repeat(first|rfl|rw[ae]|rw[ak _ _ _ _ (by omega)])))):P:=h
theorem XU{P:Prop}(h:P:=by obtain⟨z,h1,h⟩:=j8 h;simp only[Prod.mk.injEq]at h;obtain⟨rfl,rfl,rfl⟩:=h;exact acP):P:=h
theorem adk{P:Prop}(h:P:=by refine aU ?_;refine eu ⟨bG, ?_⟩;simp only[sv,Cj,vh,yw,yx,yy,List.contains_nil,Bool.false_eq_true,if_false,eI,yz];rw[bZ hz g];rfl):P:=h
theorem adl{P:Prop}(h:P:=by refine aU ?_;exact hK _ _ af ⟨dE,af,fun j hj=>by rw[ak _ _ _ _ (by omega),hI.eq j hj]⟩ (fun j g1 g2=>by(repeat(first|rfl|rw[ae]|rw[ak _ _ _ _ (by omega)])))):P:=h
theorem adm{P:Prop}(h:P:=by refine cf g1 ?_;refine aN qG ?_;refine cf g1 ?_;refine aq (eP _ Me _ (dO true)) rfl ?_;refine cf g1 ?_;refine aw (aD rfl) ?_;exact dM):P:=h
theorem QJ{P:Prop}(h:P:=by refine ik ?_;refine aw (aD rfl) ?_;exact dM):P:=h
theorem Cv{P:Prop}(h:P:=by simp only[St.S,ko]at this;exact this):P:=h
theorem Mf{P:Prop}(h:P:=by rw[bL,Bool.false_and,bP];refine dW bL ?_;refine ew et rfl ?_;exact dM):P:=h
theorem Tl{P:Prop}(h:P:=by refine cf bL ?_;refine ew et rfl ?_;exact dM):P:=h
theorem Mg{P:Prop}(h:P:=by simp only[Array.getD_eq_getD_getElem?];rw[Array.getElem?_setIfInBounds_ne (Ne.symm hi)]):P:=h
theorem Mh{P:Prop}(h:P:=by refine iC hI ?_;refine aw (aD rfl) ?_;refine b8 ?_;rw[hn,hI];rfl):P:=h
theorem Mi{P:Prop}(h:P:=by rw[hL.refs,List.all_eq_true];intro r hr;have:=hrefs r hr;exact decide_eq_true af):P:=h
theorem G5{P:Prop}(h:P:=by rw[Bool.eq_iff_iff,decide_eq_true_eq,this];exact ac3):P:=h
theorem Mj{P:Prop}(h:P:=by refine dW hx ?_;refine au (k+1) h2 af (bM.d0 _ ?_);rw[xE];exact dc):P:=h
theorem Tn{P:Prop}(h:P:=by refine ah cu rfl ?_;exact dM):P:=h
theorem Mk{P:Prop}(h:P:=by refine Lk hx f2 ?_;refine aw (aD rfl) ?_;refine aU ?_;rw[e]):P:=h
theorem To{P:Prop}(h:P:=by simp only[Option.map_eq_some_iff]at h;obtain⟨d,h1,rfl⟩:=h;obtain⟨arr,rfl,g1,g2⟩:=hx;obtain⟨val,r1,r2⟩:=jc h1 g1 g2;exact fin (r1 w) r2):P:=h
theorem Ml{P:Prop}(h:P:=by refine b8 ?_;refine ah (iG _ _ _) rfl ?_;refine b8 ?_;rw[hn]):P:=h
theorem Tp{P:Prop}(h:P:=by refine aq (XW hf xQ hv (he.gE af af (List.mem_of_getElem? ha))) rfl ?_;refine cf bL ?_;refine aw (aD rfl) ?_;exact dM):P:=h
theorem Tq{P:Prop}(h:P:=by rw[show(⟨put o' [(fr, .arr 0 ty sz es)],fun id=>us id\/id=fr⟩:Hp).o fr=put o' [(fr, .arr 0 ty sz es)] fr from rfl,this]at he;injection he):P:=h
theorem Ts{P:Prop}(h:P:=by rw[Bool.false_and,Bool.false_and,bP];refine aU ?_;refine dk et cH ?_;refine aU ?_;refine eu ⟨bG, ?_⟩;exact K7):P:=h
theorem Cw{P:Prop}(h:P:=by refine Lq h hI ?_;rw[hn,hI];rfl):P:=h
theorem Tt{P:Prop}(h:P:=by simp only[hx]at h ho;injection h with h;subst h;simp only[ab.fz]at ho;simp only[bf,ho]at bw;rw[hd (by rw[ho];rfl)];exact bw):P:=h
theorem Mm{P:Prop}(h:P:=by dsimp only;refine bM.b9 _ af af q2 (fun _ _=>rfl) ?_;exact zy9):P:=h
theorem Tu{P:Prop}(h:P:=by refine b8 ?_;simp at h3;refine au (k+1) ⟨h2,cI hx hk.2 h3⟩ af (bM.d2 _ (df rfl rfl) af rfl rfl ?_);exact dc):P:=h
theorem Mn{P:Prop}(h:P:=by rw[m2.eq id (by omega)];unfold ext;rw[if_neg (by omega)];exact dn):P:=h
theorem Tv{P:Prop}(h:P:=by obtain⟨n0,n1⟩:=ho t (by rw[nB];simp) h1;obtain⟨x,hx⟩:=ai (l:=l) (k:=t.n.toNat) af;rw[Mo h1 hx];exact ahE):P:=h
theorem Tw{P:Prop}(h:P:=by obtain⟨h0,y,h1,h2,h3,h4⟩:=vq h;simp only[Prod.mk.injEq]at h4;obtain⟨rfl,rfl,rfl⟩:=h4;exact⟨h0,y,h1,h2,h3,hK⟩):P:=h
theorem Mp{P:Prop}(h:P:=by rw[e8];refine aU ?_;refine ah cu rfl ?_;exact dM):P:=h
theorem Tx{P:Prop}(h:P:=by rw[g1,bP]at B8;rw[Bool.false_and,bP];refine dk B8 cH ?_;refine aU ?_;refine eu ⟨bG, ?_⟩;exact K7):P:=h
theorem Ty{P:Prop}(h:P:=by simp only[Option.map_eq_some_iff]at h;obtain⟨r,h1,rfl⟩:=h;obtain⟨g1,g2⟩:=XX h1 hg (aA M φ H) w xv yv hx hy;exact acY):P:=h
theorem Mq{P:Prop}(h:P:=by rw[bP];refine aU ?_;refine ew et rfl ?_;exact dM):P:=h
theorem Tz{P:Prop}(h:P:=by obtain⟨h3,h4⟩:=hb _ cD h2;exact⟨by rw[World.cell?_of_block (w:=w) (w':=w') (a:=a.add j) (by simpa using h3)];exact h1,h4⟩):P:=h
theorem TA{P:Prop}(h:P:=by rw[this]at hK;refine hK _ _ af ?_ (fun j hj=>by(repeat(first|rfl|rw[ae]|rw[ak _ _ _ _ (by omega)])));exact dE):P:=h
theorem TC{P:Prop}(h:P:=by refine aU ?_;simp at h3;refine au (k+1) ⟨h2,cI hx hk.2 h3⟩ af (bM.d1 _ (ba rfl) af rfl ?_);exact dc):P:=h
theorem TD{P:Prop}(h:P:=by simp only[ha];obtain⟨z,h1,h⟩:=j8 h;simp only[Prod.mk.injEq]at h;obtain⟨rfl,rfl,rfl⟩:=h;exact AG h1 hK):P:=h
theorem TE{P:Prop}(h:P:=by simp only[hw,if_true];obtain⟨uO,ny⟩:=Cy Mr (fun id aG=>ag2 id (by rw[xD];exact aG)) XY bw.2;exact ahF):P:=h
theorem TF{P:Prop}(h:P:=by cases y<;>simp only[V.same,Bool.false_eq_true,Bool.and_eq_true]at h;rw[Nat.eq_of_beq_eq_true h.1,Nat.eq_of_beq_eq_true h.2]):P:=h
theorem G6{P:Prop}(h:P:=by simp at h2;rw[cw hk.2 h2];exact dM):P:=h
theorem Ms{P:Prop}(h:P:=by subst si;rw[List.take_length];refine ik ?_;exact hQ _ _ rfl):P:=h
theorem TG{P:Prop}(h:P:=by simp only[List.map_cons,List.map_nil];refine cf heq ?_;simp only[List.isEmpty_nil,if_true];refine cf heq ?_;exact LJ):P:=h
theorem TH{P:Prop}(h:P:=by simp only[Bool.and_eq_true,beq_iff_eq,bu]at H|-;obtain⟨k,hk⟩:=ai (l:=f.kids) (k:=0) af;exact ahH):P:=h
theorem TI{P:Prop}(h:P:=by intro u hu;simp only[Array.toList_extract,List.extract]at hu;exact hf u (List.mem_of_mem_drop (List.mem_of_mem_take hu))):P:=h
theorem TJ{P:Prop}(h:P:=by refine⟨hH,Trans.refl _ _ _, ?_,⟨[],rfl,List.nodup_nil,fun _=>rfl,fun r hr=>by cases hr⟩,Cz hd⟩;exact ac0):P:=h
theorem G7{P:Prop}(h:P:=by refine iC h ?_;rw[hn]):P:=h
theorem Mt{P:Prop}(h:P:=by obtain⟨g1,g2⟩:=List.getElem?_eq_some_iff.1 hx;exact ac5):P:=h
theorem Mu{P:Prop}(h:P:=by obtain⟨h5,h6⟩:=List.getElem?_eq_some_iff.1 hx;exact ac6):P:=h
theorem TK{P:Prop}(h:P:=by rw[e];obtain⟨k1,k2⟩:=ly (us':=G8 (Array.replicate ops.size false)) hs.heap (fun id h=> .inl h);exact ahG):P:=h
theorem TL{P:Prop}(h:P:=by refine b8 ?_;refine hK3 _ _ af (p2.mono af) (fun id h1 h2=> ?_);rw[p3 id h1 (by omega),ak _ _ _ _ (by omega)]):P:=h
theorem TM{P:Prop}(h:P:=by rw[g2,bP]at hc;rw[bP];refine dk hc cH ?_;refine aU ?_;refine eu ⟨bG, ?_⟩;exact K7):P:=h
theorem Mv{P:Prop}(h:P:=by simp only[bY,aW,h1,if_false];exact S6):P:=h
theorem Mw{P:Prop}(h:P:=by rw[Bool.eq_false_iff];intro h;simp at h;simp[h]at h1):P:=h
theorem TN{P:Prop}(h:P:=by obtain⟨h0,x,hx⟩:=qF hI;refine IQ h hI hx h0 ?_;refine aw bG ?_;refine xB h hI ?_;exact Xp):P:=h
theorem TO{P:Prop}(h:P:=by refine b8 ?_;simp at h1;rw[List.drop_eq_nil_of_le h1]at hf;simp only[aC]at hf;rw[hf]at hK;exact acD):P:=h
theorem Mx{P:Prop}(h:P:=by rw[List.take_of_length_le (by omega)]at this;rw[this]):P:=h
theorem TP{P:Prop}(h:P:=by simp only[Option.some.injEq,Prod.mk.injEq]at h;obtain⟨rfl,rfl,rfl⟩:=h;simp only[ho];exact⟨_,hg,hK⟩):P:=h
theorem TQ{P:Prop}(h:P:=by obtain⟨g1,g2⟩:=List.getElem?_eq_some_iff.1 hx;obtain⟨g3,g4⟩:=List.getElem?_eq_some_iff.1 hy;exact acZ):P:=h
theorem TR{P:Prop}(h:P:=by rw[g2,e8]at hc;rw[e8];refine aq hc rfl ?_;refine aU ?_;refine aw bG ?_;exact dM):P:=h
theorem My{P:Prop}(h:P:=by rw[show fr+(j+1)=fr+1+j by omega];exact this):P:=h
theorem TS{P:Prop}(h:P:=by refine au (k+1) ⟨af,cI hy hk.2 g1⟩ af (bM.d1 _ (ba rfl) af rfl ?_);exact dc):P:=h
theorem TT{P:Prop}(h:P:=by injection h with h;subst h;obtain⟨u,rfl,_⟩:=hy;simp only[V.den,D.den]at hx;subst hx;exact ahB):P:=h
theorem TU{P:Prop}(h:P:=by injection h with h;subst h;obtain⟨u,rfl,_⟩:=hx;simp only[V.den,D.den]at hy;subst hy;exact ahA):P:=h
theorem TV{P:Prop}(h:P:=by intro hs h;simp at hs;obtain⟨t,rfl,ht⟩:=ih y af h.1;obtain⟨l,rfl,hl⟩:=ihe af h.2;exact ahI):P:=h
theorem TW{P:Prop}(h:P:=by refine .inr (.inr (.inl ⟨ds,out,fT,hP,qH, ?_⟩));cases out<;>first|exact hK _ h|exact hX _ _ h):P:=h
theorem TX{P:Prop}(h:P:=by rw[hI.eq 2 (by omega)];(repeat(first|rfl|rw[ae]|rw[ak _ _ _ _ (by omega)]));exact p2):P:=h
theorem TY{P:Prop}(h:P:=by simp only[ab.fz]at ho;simp only[bf,ho]at bw;rw[(hd ep (by rw[ho];rfl)).2 rfl];exact bw):P:=h
theorem TZ{P:Prop}(h:P:=by refine dW hy ?_;refine au (k+1) ⟨af,cI hy hk.2 g1⟩ af (bM.d0 _ ?_);exact dc):P:=h
theorem T0{P:Prop}(h:P:=by rw[Array.toList_append,Array.toList_append,Array.toList_map];exact V.qI E0 eL hca):P:=h
theorem T1{P:Prop}(h:P:=by refine .inr (.inl ⟨ds,out,fT,hP,qH, ?_⟩);cases out<;>first|exact hK _ h|exact hX _ _ h):P:=h
theorem Mz{P:Prop}(h:P:=by rw[p2.eq id (by omega)];unfold ext;exact ac2):P:=h
theorem T2{P:Prop}(h:P:=by obtain⟨b,eQ,ty,k1,k2,k3,k4⟩:=bH;exact⟨b,eQ,ty,k1,k2,qJ _ _ hrefs k3,k4⟩):P:=h
theorem T3{P:Prop}(h:P:=by rw[bL,Bool.false_and,bP];refine cf bL ?_;refine ew et rfl ?_;exact dM):P:=h
theorem T4{P:Prop}(h:P:=by refine dW hy ?_;refine aw (aD rfl) ?_;refine aU ?_;rw[bZ hy g1]):P:=h
theorem T5{P:Prop}(h:P:=by obtain⟨arr,rfl,g1,g2⟩:=hx;obtain⟨val,r1,r2⟩:=I7 h g1 g2;exact fin r1 r2):P:=h
theorem T6{P:Prop}(h:P:=by subst e9;(repeat(first|rfl|rw[ae]|rw[ak _ _ _ _ (by omega)]));exact q2):P:=h
theorem T7{P:Prop}(h:P:=by simp only[Array.getD_eq_getD_getElem?];rw[Array.getElem?_setIfInBounds_ne (Ne.symm h1)]):P:=h
theorem T8{P:Prop}(h:P:=by subst e;(repeat(first|rfl|rw[ae]|rw[ak _ _ _ _ (by omega)]));exact q2):P:=h
theorem T9{P:Prop}(h:P:=by refine⟨x,fun heq=> ?_⟩;obtain⟨p,q,r,z,u⟩:=y heq;exact⟨p,q,r,b.trans z,u⟩):P:=h
theorem Ua{P:Prop}(h:P:=by refine .inl ⟨ds,out,fT,hP, ?_⟩;cases out<;>first|exact hK _ h|exact hX _ _ h):P:=h
theorem Ub{P:Prop}(h:P:=by refine dW jZ ?_;refine aw (aD rfl) ?_;refine aU ?_;rw[nm];rfl):P:=h
theorem Uc{P:Prop}(h:P:=by refine au (k+1) h2.1 af (bM.d1 _ (ba rfl) af rfl ?_);exact dc):P:=h
theorem Ud{P:Prop}(h:P:=by simp only[Ef,Array.getD_eq_getD_getElem?,Array.getElem?_replicate];split<;>rfl):P:=h
theorem Ue{P:Prop}(h:P:=by refine cf h ?_;refine ah (kp _ _ _) rfl ?_;refine dW h ?_;rw[hn]):P:=h
theorem Uf{P:Prop}(h:P:=by simp[H',ab.cJ]at he;subst he;exact⟨Nat.le_refl _,fun _=>by simp[aS]⟩):P:=h
theorem Ug{P:Prop}(h:P:=by refine iC h ?_;refine ah (yI _ _ _) rfl ?_;refine iC h ?_;rw[hn]):P:=h
theorem Uh{P:Prop}(h:P:=by refine xB h hI ?_;refine aw bG ?_;refine xB h hI ?_;rw[hn,hI];rfl):P:=h
theorem Ui{P:Prop}(h:P:=by rw[hm,jd (o:=s.o) fun id aG=>hr id (mA _ id aG)];exact hΔ):P:=h
theorem Uj{P:Prop}(h:P:=by obtain⟨a,b,c,h⟩:=funcOf (P:=Tryz.prog) (t:=188) ag;unfold sj;rw[h]):P:=h
theorem G9{P:Prop}(h:P:=by rw[this]at hK;exact ahC):P:=h
theorem Uk{P:Prop}(h:P:=by cases y<;>simp only[D.same,Bool.false_eq_true]at h;rw[D.ey cE _ h]):P:=h
theorem Ul{P:Prop}(h:P:=by simp at h2;rw[List.drop_eq_nil_of_le h2]at vl;refine aU ?_;rw[vl];rfl):P:=h
theorem Um{P:Prop}(h:P:=by rw[Bool.eq_iff_iff];simp only[List.all_eq_true (l:=t.kids)];exact ac1):P:=h
theorem Un{P:Prop}(h:P:=by refine E8 ha hb hx hy ?_;refine aw (aD rfl) ?_;exact dM):P:=h
theorem Uo{P:Prop}(h:P:=by refine su jZ hx hy ?_;refine aw (aD rfl) ?_;exact dM):P:=h
theorem Up{P:Prop}(h:P:=by obtain⟨u,us,rfl,h1,_⟩:=h;simp at hd;subst hd;exact⟨u,ao,h1⟩):P:=h
theorem Uq{P:Prop}(h:P:=by obtain⟨b,r,k1,k2,k3,k4,k5,k6,k7,k8,k9,k10⟩:=bH;exact ahD):P:=h
theorem Ur{P:Prop}(h:P:=by obtain⟨k,hk,hx⟩:=List.mem_flatMap.1 e;exact ih k hk (h.2 k hk) x hx):P:=h
theorem Us{P:Prop}(h:P:=by refine iB jZ hx ?_;refine aw (aD rfl) ?_;exact dM):P:=h
theorem Ut{P:Prop}(h:P:=by intro c hx;rw[Array.getD_eq_getD_getElem?,hx]at dK;simp at dK):P:=h
theorem Uu{P:Prop}(h:P:=by rw[g,e8]at hc;rw[e8];refine ah hc rfl ?_;exact dM):P:=h
theorem Uv{P:Prop}(h:P:=by refine iB hx hy ?_;refine aw (aD rfl) ?_;exact dM):P:=h
theorem Uw{P:Prop}(h:P:=by rw[g,bP]at hc;rw[bP];refine ew hc rfl ?_;exact dM):P:=h
theorem Ux{P:Prop}(h:P:=by refine aw (aD rfl) ?_;refine aU ?_;rw[se];rfl):P:=h
def tD(ops:Array Oper)(j:Nat):Option Tmp:=(ops[j]?).bind (·.dst)
structure cq where
 dst:Option Nat
 op:Op
 gd:Option (Nat×Bool):=none
instance:Inhabited cq:=⟨⟨none, .ready 0,none⟩⟩
def Ff(n:Nat):Option Tmp->Bool
 |some d=>decide (d<n)
 |none=>true
def MA(n:Nat)(ops:Array Oper)(o:Oper):Option cq:=
 if Ff n o.dst=true then match o.guard with
  |none=>some ⟨o.dst,o.op,none⟩
  |some (j,want)=>match tD ops j with
   |some d=>some ⟨o.dst,o.op,some (d,want)⟩
   |none=>none
 else none
def lZ(n:Nat)(ops:Array Oper):List Oper->Option (List cq)
 |[]=>some []
 |o::l=>match MA n ops o,lZ n ops l with
  |some x,some xs=>some (x::xs)
  |_,_=>none
def tmpsOf(o:cq):List Nat:=(o.op.operands.toList.filterMap fun| .tmp t=>some t|_=>none)++(match o.gd with|some (d,_)=>[d]|none=>[])
def fU(o:cq):List Nat:=tmpsOf o++o.dst.toList
def bT(ops:Array Oper)(i:Nat):List Nat:=match ops[i]? with|some o=>(o.after.toList.filter (Region.binds .any)).map (·.on)|none=>[]
def cj(l:List cq)(i:Nat):cq:=l.getD i default
inductive IC where
 |skip|ad (l:List cq)|dp (l:List cq) (pr:List (List Nat))|seq (a b:IC)|cond (c:Operand) (a b:IC)|block (id:Nat) (a:IC)|loop (a:IC)|exit (id:Nat)|ret|bad
 |I8 (g:Operand) (ps:List Nat) (a b:IC)
 deriving Inhabited
inductive j9 where
 |ret|exit (id:Nat)
def j9.code:j9->Code
 | .ret=> .ret
 | .exit id=> .exit id
def mB(acc:List Nat):List Nat->Nat
 |[]=>0
 |j::ps=>(2^j|||acc.getD j 0)|||mB acc ps
def fb:List (List Nat)->List Nat->List Nat
 |[],acc=>acc
 |ps::l,acc=>fb l (acc++[mB acc ps])
def sC(x y:cq):Bool:=match x.dst with|some d=> !(fU y).contains d|none=>true
def AH(l:List cq)(pr:List (List Nat)):Bool:=
 (List.range l.length).all fun j=>(List.range j).all fun i=>((fb pr []).getD j 0).testBit i||(sC (cj l i) (cj l j)&&sC (cj l j) (cj l i))
def nC(xs ys:List Nat):Bool:=xs.all fun x=> !ys.contains x
def je(pr:List (List Nat))(fp:List (List Nat×List Nat)):Bool:=
 (List.range fp.length).all fun j=>(List.range j).all fun i=>((fb pr []).getD j 0).testBit i||
  (nC (fp.getD i ([],[])).2 (fp.getD j ([],[])).1&&nC (fp.getD i ([],[])).2 (fp.getD j ([],[])).2&&nC (fp.getD j ([],[])).2 (fp.getD i ([],[])).1)
def iH(ops:Array Oper):List (List Nat):=(List.range ops.size).map (bT ops)
def XZ(pr:List (List Nat)):Bool:=(List.range pr.length).all fun k=>(pr.getD k []).all fun j=>decide (j<k)
theorem vr{acc:List Nat}{i:Nat}:∀ (ps:List Nat),(mB acc ps).testBit i=true->∃j∈ps,i=j\/(acc.getD j 0).testBit i=true
 |[],h=>by simp[mB]at h
 |j::ps,h=>by
  simp only[mB,Nat.testBit_or,Bool.or_eq_true]at h
  rcases h with(h|h)|h
  ·rw[Nat.testBit_two_pow]at h
   exact⟨j,ao, .inl (by have h:=of_decide_eq_true h;exact h.symm)⟩
  ·exact⟨j,ao, .inr h⟩
  ·obtain⟨j',h1,h2⟩:=vr ps h
   exact⟨j',by simp[h1],h2⟩
theorem sD{k:Nat}:∀ (l:List (List Nat)) (acc:List Nat),k<acc.length->(fb l acc).getD k 0=acc.getD k 0
 |[],_,_=>rfl
 |ps::l,acc,h=>by
  rw[fb,sD l _ (by simp;omega)]
  simp[List.getD_eq_getElem?_getD,List.getElem?_append_left h]
theorem sE{i:Nat}:∀ (l:List (List Nat)) (acc:List Nat) (k:Nat),acc.length<=k->(∀k',k'<l.length->∀j∈l.getD k' [],j<acc.length+k')->((fb l acc).getD k 0).testBit i=true->
 ∃j∈l.getD (k - acc.length) [],i=j\/((fb l acc).getD j 0).testBit i=true
 |[],acc,k,hk,_,h=>by
  simp only[fb]at h
  rw[List.getD_eq_getElem?_getD,List.getElem?_eq_none hk]at h
  simp at h
 |ps::l,acc,k,hk,hp,h=>by
  simp only[fb]at h|-
  by_cases he:k=acc.length
  ·subst he
   rw[sD l _ (by simp)]at h
   have e:(acc++[mB acc ps]).getD acc.length 0=mB acc ps:=by simp[List.getD_eq_getElem?_getD]
   rw[e]at h
   obtain⟨j,h1,h2⟩:=vr ps h
   refine⟨j,by simpa using h1,h2.imp id fun h2=> ?_⟩
   have hj:j<acc.length:=by simpa using hp 0 ao j (by simpa using h1)
   rw[sD l _ (by simp;omega)]
   simpa[List.getD_eq_getElem?_getD,List.getElem?_append_left hj]using h2
  ·obtain⟨j,h1,h2⟩:=sE l (acc++[mB acc ps]) k qE (fun k' pv j hj=>by
    have:=hp (k'+1) qE j nz
    simp;omega) h
   refine⟨j, ?_,h2⟩
   have e:k - acc.length=(k - (acc++[mB acc ps]).length)+1:=by simp;omega
   rw[e];simpa using h1
theorem qK{pr:List (List Nat)}(hp:∀k,k<pr.length->∀j∈pr.getD k [],j<k){E:Nat->Bool}(hE:∀k,k<pr.length->E k=true->∀j∈pr.getD k [],E j=true):
 ∀k,k<pr.length->(∀j∈pr.getD k [],E j=true)->∀i,((fb pr []).getD k 0).testBit i=true->E i=true:=by
 intro k
 induction k using Nat.strongRecOn with
 |ind k ih=>
  intro hk hj i hi
  obtain⟨j,h1,h2⟩:=sE pr [] k ao (fun k' pv j hj=>by simpa using hp k' pv j hj) hi
  simp only[List.length_nil,Nat.sub_zero]at h1
  rcases h2 with rfl|h2
  ·exact hj _ h1
  ·have hjk:=hp k hk j h1
   exact ih j hjk af (hE j af (hj j h1)) i h2
theorem CA{pr:List (List Nat)}(hp:∀k,k<pr.length->∀j∈pr.getD k [],j<k):∀k,k<pr.length->∀i,((fb pr []).getD k 0).testBit i=true->i<k:=by
 intro k
 induction k using Nat.strongRecOn with
 |ind k ih=>
  intro hk i hi
  obtain⟨j,h1,h2⟩:=sE pr [] k ao (fun k' pv j hj=>by simpa using hp k' pv j hj) hi
  simp only[List.length_nil,Nat.sub_zero]at h1
  have hjk:=hp k hk j h1
  rcases h2 with rfl|h2
  ·exact hjk
  ·have:=ih j hjk af i h2;omega
def low(n:Nat):Code->IC
 | .skip=> .skip
 | .label _=> .skip
 | .scope c=>low n c
 | .region _ ops false=>match lZ n ops ops.toList with
   |some l=> .ad l
   |none=> .bad
 | .region _ ops true=>match lZ n ops ops.toList with
   |some l=>if AH l (iH ops)&&XZ (iH ops)then .dp l (iH ops)else .bad
   |none=> .bad
 | .seq a b=> .seq (low n a) (low n b)
 | .cond c a b=> .cond c (low n a) (low n b)
 | .block id a=> .block id (low n a)
 | .loop a=> .loop (low n a)
 | .exit id=> .exit id
 | .ret=> .ret
 | .rangeFunc g ps a b=> .I8 g ps.toList (low n a) (low n b)
 |_=> .bad
section
inductive D where
 |int (k:IntKind) (n:Int)|bool (b:Bool)|str (s:List UInt8)
 |fV|nn|bV|jD
 |agg (cs:List D)|sl (es:List D)|iface (t:TypeId) (d:D)
 |mp (ks vs:List D)
 deriving Inhabited
def Flat(vs:List Value):Prop:=∀u∈vs,u.oneCell'=true
def iI(B:Nat->Prop)(w:World)(a:Addr)(cs:Array Value):Prop:=∀j u,cs[j]? =some u->w.cell? (a.add j)=some u/\ ¬B a.block
def j5(es:Array MapEntry)(clock:Nat):Prop:=(∀e∈es.toList,e.born<clock)/\(es.toList.map (·.born)).Nodup
def AJ(ks:List D):Prop:=ks.Nodup/\∀k∈ks,∃n,k= .int .i64 n
mutual
def D.den (B:Nat->Prop)(w:World):D->Value->Prop
 | .int k n,v=>v= .int k n
 | .bool b,v=>v= .bool b
 | .str l,v=>∃s:ByteArray,v= .string s/\s.data.toList=l
 | .fV,v=>v= .nilIface
 | .nn,v=>v= .pointer none
 | .bV,v=>v= .nilFunc
 | .jD,v=>v= .map none
 | .agg cs,v=>∃a,v= .agg a/\D.aP B w cs a.toList/\Flat a.toList
 | .sl es,v=>∃base len cap,v= .slice base len cap/\len=es.length/\len<=cap/\(base=none->cap=0)/\
  ∃sz,∀a,base=some a->(cap≠0->a.spot=none)/\D.elems B w sz a 0 es
 | .iface t d,v=>∃u,v= .iface t u/\D.den B w d u
 | .mp ks vs,v=>∃m es clock p,v= .map (some m)/\w.heap[m]? =some (.map es clock)/\ ¬B m/\j5 es clock/\(p=es.toList\/(p.Perm es.toList/\AJ ks))/\D.aP B w ks (p.map (·.key))/\D.aP B w vs (p.map (·.val))
def D.aP (B:Nat->Prop)(w:World):List D->List Value->Prop
 |[],vs=>vs=[]
 |d::ds,vs=>∃u us,vs=u::us/\D.den B w d u/\D.aP B w ds us
def D.elems (B:Nat->Prop)(w:World)(sz:Nat)(a:Addr):Nat->List D->Prop
 |_,[]=>True
 |i,e::es=>(∃ev:Value,ev.cells.size=sz/\iI B w (a.add (i*sz)) ev.cells/\D.den B w e ev)/\D.elems B w sz a (i+1) es
end
inductive V where
 |d (x:D)|bO|agg (cs:List V)|cn (vs:List V)
 |ptr (id off:Nat)|osl (id ep:Nat)|pe (id ep i sz off:Nat)|pp (cs:List D) (off:Nat)
 |func (fn:Fn) (first cap:List V)|iface (t:TypeId) (x:V)
 |aa
 |sn (es:List D)|yJ (id off n:Nat)|mp (id:Nat)|fI|kq (id:Nat)
 deriving Inhabited
inductive ab where
 |no|row (cs:List V)|arr (ep:Nat) (ty:TypeId) (sz:Nat) (es:List D)|sF (ep:Nat) (es:List D)
 |map (kt vt:TypeId) (es:List (D×D))
 |loop (nf n:Nat) (env:List V) (ps:List Nat) (a b:IC) (st:LoopState) (I9:Option j9)
 |jf (es:List (D×D))|nD (es:List (D×D)) (last:Option (D×D))|AK (s:List UInt8) (pos:Nat)
 deriving Inhabited
def br(l:List V):Nat->V:=fun i=>l.getD i .aa
structure Hp where
 o:Nat->ab
 us:Nat->Prop
def ab.cJ:ab->Option Nat
 | .arr ep _ _ _| .sF ep _=>some ep
 |_=>none
def ab.cK:ab->Bool
 | .row _| .map .. | .loop .. | .jf _| .nD .. | .AK .. =>true
 |_=>false
def ab.live:ab->Bool
 | .row _| .arr .. | .map .. | .loop .. | .nD .. | .AK .. =>true
 |_=>false
def fk:Value->Option Nat
 | .pointer (some a)| .slice (some a) _ _=>some a.block
 | .map (some b)=>some b
 |_=>none
abbrev Place:=Nat->Value
def dt(φ:Place)(H:Hp)(b:Nat):Prop:=∃id,(H.o id).live=true/\fk (φ id)=some b
def aA(M:Nat->Prop)(φ:Place)(H:Hp)(b:Nat):Prop:=M b\/dt φ H b
mutual
def V.den (B:Nat->Prop)(φ:Place)(H:Hp)(w:World):V->Value->Prop
 | .d x,v=>D.den B w x v
 | .bO,v=>v= .slice none 0 0
 | .agg cs,v=>∃a,v= .agg a/\V.aP B φ H w cs a.toList/\Flat a.toList
 | .cn vs,v=>∃a,v= .tuple a/\V.aP B φ H w vs a.toList
 | .ptr id off,v=>v.oneCell'=true/\H.us id/\((H.o id).cK=true->∃b,φ id= .pointer (some ⟨b,0,none⟩)/\v= .pointer (some ⟨b,off,none⟩))
 | .osl id ep,v=>v.oneCell'=true/\H.us id/\∀e,(H.o id).cJ=some e->ep<=e/\(ep=e->v=φ id)
 | .pe id ep i sz off,v=>v.oneCell'=true/\H.us id/\∀e,(H.o id).cJ=some e->ep<=e/\(ep=e->∃b n c,φ id= .slice (some ⟨b,0,none⟩) n c/\v= .pointer (some ⟨b,i*sz+off,none⟩))
 | .pp cs off,v=>∃a ev,a.spot=none/\v= .pointer (some (a.add off))/\D.aP B w cs ev/\Flat ev/\iI B w a ev.toArray
 | .func fn first cap,v=>∃f c,v= .func fn f c/\V.aP B φ H w first f.toList/\V.aP B φ H w cap c.toList
 | .iface t x,v=>∃u,v= .iface t u/\V.den B φ H w x u
 | .aa,_=>True
 | .sn es,v=>D.den B w (.sl es) v/\∃base n,v= .slice base n n
 | .yJ id off n,v=>v.oneCell'=true/\H.us id/\((H.o id).cK=true->∃b,φ id= .pointer (some ⟨b,0,none⟩)/\v= .slice (some ⟨b,off,none⟩) n n)
 | .mp id,v=>v.oneCell'=true/\H.us id/\((H.o id).cK=true->v=φ id)
 | .fI,v=>∃b,v= .bool b
 | .kq id,v=>v.oneCell'=true/\H.us id/\((H.o id).cK=true->∃b,φ id= .pointer (some ⟨b,0,none⟩)/\v= .func (.yield b) #[] #[])
def V.aP (B:Nat->Prop)(φ:Place)(H:Hp)(w:World):List V->List Value->Prop
 |[],vs=>vs=[]
 |x::xs,vs=>∃u us,vs=u::us/\V.den B φ H w x u/\V.aP B φ H w xs us
end
def gW(B:Nat->Prop)(w:World)(sz:Nat)(es:List D)(xs:List Value):Prop:=
 ∃evs:List Value,xs=evs.flatMap (·.cells.toList)/\(∀ev∈evs,ev.cells.size=sz)/\D.aP B w es evs
def aY(B:Nat->Prop)(w:World):List (D×D)->List MapEntry->Prop
 |[],es=>es=[]
 |(k,x)::l,es=>∃e es',es=e::es'/\D.den B w k e.key/\D.den B w x e.val/\aY B w l es'
def AL(B:Nat->Prop)(w:World)(l:List (D×D))(last:Option (D×D))(b:Nat):Prop:=
 w.heap[b]? =some (.mapIter none 0 #[] 0)/\l=[]/\last=none\/
 ∃m since seen es,w.heap[b]? =some (.mapIter (some m) since seen since)/\w.heap[m]? =some (.map es since)/\ ¬B m/\j5 es since/\(∃l',l'.Perm l/\aY B w l' (es.toList.filter fun e=> !seen.contains e.born))/\
  ∀k x,last=some (k,x)->∃e∈es.toList,seen.back?=some e.born/\D.den B w k e.key/\D.den B w x e.val
def bf(M:Nat->Prop)(φ:Place)(H:Hp)(w:World)(id:Nat):Prop:=
 match H.o id with
 | .no=>True
 | .row cs=>∃b eQ ty,φ id= .pointer (some ⟨b,0,none⟩)/\w.heap[b]? =some (.cells eQ ty (0,0))/\V.aP (aA M φ H) φ H w cs eQ.toList/\Flat eQ.toList
 | .arr _ ty sz es=>0<sz/\∃xs,w.ownsRow 0 ty sz (φ id) es.length xs/\gW (aA M φ H) w sz es xs
 | .sF _ es=>D.den (aA M φ H) w (.sl es) (φ id)
 | .loop nf n env ps jg fe st I9=>∃b r,φ id= .pointer (some ⟨b,0,none⟩)/\w.heap[b]? =some (.loop r)/\r.fn<nf/\r.state=st/\r.pending=I9.map j9.code/\r.params.toList=ps/\r.tmps.size=n/\low n r.assign=jg/\low n r.body=fe/\
  ∀i,V.den (aA M φ H) φ H w (br env i) (r.tmps.getD i undef)
 | .map _ _ l=>∃b es clock,φ id= .map (some b)/\w.heap[b]? =some (.map es clock)/\j5 es clock/\aY (aA M φ H) w l es.toList
 | .jf l=>D.den (aA M φ H) w (.mp (l.map (·.1)) (l.map (·.2))) (φ id)
 | .nD l last=>∃b,φ id= .pointer (some ⟨b,0,none⟩)/\AL (aA M φ H) w l last b
 | .AK s pos=>∃b,φ id= .pointer (some ⟨b,0,none⟩)/\w.heap[b]? =some (.stringIter ⟨⟨s⟩⟩ pos)
structure aI (M:Nat->Prop) (φ:Place) (H:Hp) (w:World):Prop where
 ok:∀id,bf M φ H w id
 fresh:∀id, ¬H.us id->H.o id= .no
 apart:∀i j b,(H.o i).live=true->(H.o j).live=true->fk (φ i)=some b->fk (φ j)=some b->i=j
 ours:∀b,dt φ H b-> ¬M b/\b<w.heap.size
 B9:∀b,M b->b<w.heap.size
structure fg (m:Nat->Prop) (w w':World):Prop where
 os:w'.os=w.os
 tape:w'.tape=w.tape
 output:w'.output=w.output
 size:w.heap.size<=w'.heap.size
 block:∀k,k<w.heap.size-> ¬m k->w'.heap[k]? =w.heap[k]?
structure eR (φ:Place) (H:Hp) (aS:Place) (H':Hp):Prop where
 us:∀id,H.us id->H'.us id
 row:∀id,H.us id->(H'.o id).cK=true->(H.o id).cK=true/\aS id=φ id
 ep:∀id e',H.us id->(H'.o id).cJ=some e'->∃e,(H.o id).cJ=some e/\e<=e'/\(e=e'->aS id=φ id)
structure Trans (φ:Place) (H:Hp) (w:World) (aS:Place) (H':Hp) (w':World):Prop where
 keep:fg (dt φ H) w w'
 grow:∀b,dt aS H' b->dt φ H b\/w.heap.size<=b
 rel:eR φ H aS H'
theorem fg.refl (m:Nat->Prop)(w:World):fg m w w:=⟨rfl,rfl,rfl,Nat.le_refl _,fun _ _ _=>rfl⟩
theorem eR.refl (φ:Place)(H:Hp):eR φ H φ H:=⟨fun _ h=>h,fun _ _ h=>⟨h,rfl⟩,fun _ e' _ h=>⟨e',h,Nat.le_refl _,fun _=>rfl⟩⟩
theorem Trans.refl (φ:Place)(H:Hp)(w:World):Trans φ H w φ H w:=⟨fg.refl _ _,fun _ h=> .inl h,eR.refl _ _⟩
theorem eR.trans {φ aS Fg:Place}{H H' H'':Hp}(h:eR φ H aS H')(k:eR aS H' Fg H''):eR φ H Fg H'' where
 us id aG:=k.us id (h.us id aG)
 row id aG hr:=by
  obtain⟨a,b⟩:=k.row id (h.us id aG) hr
  obtain⟨c,d⟩:=h.row id aG a
  exact⟨c,b.trans d⟩
 ep id e' aG he:=by
  obtain⟨e,h1,h2,h3⟩:=k.ep id e' (h.us id aG) he
  obtain⟨e0,g1,g2,g3⟩:=h.ep id e aG h1
  refine⟨e0,g1,Nat.le_trans g2 h2,fun heq=> ?_⟩
  have a:e0=e:=af
  have b:e=e':=af
  exact(h3 b).trans (g3 a)
theorem Trans.trans {φ aS Fg:Place}{H H' H'':Hp}{w w' XE:World}(h:Trans φ H w aS H' w')(k:Trans aS H' w' Fg H'' XE):Trans φ H w Fg H'' XE where
 keep:={
  os:=k.keep.os.trans h.keep.os
  tape:=k.keep.tape.trans h.keep.tape
  output:=k.keep.output.trans h.keep.output
  size:=Nat.le_trans h.keep.size k.keep.size
  block:=fun b hb hm=>by
   rw[k.keep.block b (Nat.lt_of_lt_of_le hb h.keep.size) (fun hl=>by
    rcases h.grow b hl with h1|h1
    ·exact hm h1
    ·omega),h.keep.block b hb hm]}
 grow b hl:=by
  rcases k.grow b hl with h1|h1
  ·exact h.grow b h1
  ·exact .inr (Nat.le_trans h.keep.size h1)
 rel:=h.rel.trans k.rel
@[simp] theorem abF (a:Addr) (j:Nat):(a.add j).block=a.block:=by unfold Addr.add;split<;>rfl
def qL(w:World)(b:Nat):Prop:=∃cs ty fz,w.heap[b]? =some (.cells cs ty fz)
def dG(w:World)(b:Nat):Prop:=qL w b\/∃es clock,w.heap[b]? =some (.map es clock)
theorem dG.lt {w:World}{b:Nat}(h:dG w b):b<w.heap.size:=by
 rcases Nat.lt_or_ge b w.heap.size with hl|hl
 ·exact hl
 ·rcases h with⟨cs,ty,fz,h⟩|⟨es,clock,h⟩
  ·rw[Array.getElem?_eq_none hl]at h;cases h
  ·rw[Array.getElem?_eq_none hl]at h;cases h
theorem pE{w:World}{a:Addr}{u:Value}(h:w.cell? a=some u):qL w a.block:=by
 unfold World.cell? at h
 split at h
 ·exact⟨_,_,_,by assumption⟩
 ·cases h
theorem uq{w:World}{a:Addr}{u:Value}(h:w.cell? a=some u):dG w a.block:= .inl (pE h)
theorem iI.mono {B B':Nat->Prop}{w w':World}{a:Addr}{cs:Array Value}
 (hb:∀b,dG w b-> ¬B b->w'.heap[b]? =w.heap[b]? /\ ¬B' b) (h:iI B w a cs):iI B' w' a cs:=by
 intro j u hj
 obtain⟨h1,h2⟩:=h j u hj
 have cD:dG w a.block:=by simpa using uq h1
 exact Tz
mutual
theorem D.bc {B B':Nat->Prop}{w w':World}(hb:∀b,dG w b-> ¬B b->w'.heap[b]? =w.heap[b]? /\ ¬B' b):
 ∀ (x:D) (v:Value),D.den B w x v->D.den B' w' x v
 | .int _ _,_,h| .bool _,_,h| .str _,_,h| .fV,_,h| .nn,_,h| .bV,_,h| .jD,_,h=>by simpa[D.den]using h
 | .agg cs,_,h=>by
   obtain⟨a,rfl,h,hf⟩:=h
   exact⟨a,rfl,D.bg hb cs _ h,hf⟩
 | .sl es,_,h=>by
   obtain⟨base,len,cap,rfl,h1,h2,h3,sz,h4⟩:=h
   exact⟨base,len,cap,rfl,h1,h2,h3,sz,fun a ha=>⟨(h4 a ha).1,D.vu hb sz a es 0 (h4 a ha).2⟩⟩
 | .iface t d,_,h=>by
   obtain⟨u,rfl,h⟩:=h
   exact⟨u,rfl,D.bc hb d u h⟩
 | .mp ks vs,_,h=>by
   obtain⟨m,es,clock,p,rfl,h1,h2,h3,hp,h4,h5⟩:=h
   obtain⟨k1,k2⟩:=hb m (.inr ⟨es,clock,h1⟩) h2
   exact⟨m,es,clock,p,rfl,k1.trans h1,k2,h3,hp,D.bg hb ks _ h4,D.bg hb vs _ h5⟩
theorem D.bg {B B':Nat->Prop}{w w':World}(hb:∀b,dG w b-> ¬B b->w'.heap[b]? =w.heap[b]? /\ ¬B' b):
 ∀ (ds:List D) (vs:List Value),D.aP B w ds vs->D.aP B' w' ds vs
 |[],_,h=>h
 |d::ds,_,h=>by
  obtain⟨u,us,rfl,h1,h2⟩:=h
  exact⟨u,us,rfl,D.bc hb d u h1,D.bg hb ds us h2⟩
theorem D.vu {B B':Nat->Prop}{w w':World}(hb:∀b,dG w b-> ¬B b->w'.heap[b]? =w.heap[b]? /\ ¬B' b)(sz:Nat)(a:Addr):
 ∀ (es:List D) (i:Nat),D.elems B w sz a i es->D.elems B' w' sz a i es
 |[],_,_=>trivial
 |e::es,i,h=>by
  obtain⟨⟨ev,h1,h2,h3⟩,h4⟩:=h
  exact⟨⟨ev,h1,h2.mono hb,D.bc hb e ev h3⟩,D.vu hb sz a es (i+1) h4⟩
end
theorem aY.mono {B B':Nat->Prop}{w w':World}(hb:∀b,dG w b-> ¬B b->w'.heap[b]? =w.heap[b]? /\ ¬B' b):
 ∀ (l:List (D×D)) (es:List MapEntry),aY B w l es->aY B' w' l es
 |[],_,h=>h
 |(k,x)::l,_,h=>by
  obtain⟨e,es,rfl,h1,h2,h3⟩:=h
  exact⟨e,es,rfl,D.bc hb k _ h1,D.bc hb x _ h2,aY.mono hb l es h3⟩
theorem AL.mono {B B':Nat->Prop}{w w':World}(hb:∀b,dG w b-> ¬B b->w'.heap[b]? =w.heap[b]? /\ ¬B' b){l:List (D×D)}{last:Option (D×D)}{b:Nat}(hbb:w'.heap[b]? =w.heap[b]?)(h:AL B w l last b):AL B' w' l last b:=by
 rcases h with⟨h1,h2⟩|⟨m,since,seen,es,h1,h2,h3,h4,h5,h6⟩
 ·exact .inl ⟨hbb.trans h1,h2⟩
 ·obtain⟨k1,k2⟩:=hb m (.inr ⟨es,since,h2⟩) h3
  obtain⟨l',h5,xF⟩:=h5
  refine .inr ⟨m,since,seen,es,hbb.trans h1,k1.trans h2,k2,h4,⟨l',h5,aY.mono hb l' _ xF⟩,fun k x e=> ?_⟩
  obtain⟨e,g1,g2,g3,g4⟩:=h6 k x e
  exact⟨e,g1,g2,D.bc hb k _ g3,D.bc hb x _ g4⟩
theorem l0{B:Nat->Prop}{w:World}:∀ (l:List (D×D)) (es:List MapEntry),aY B w l es↔D.aP B w (l.map (·.1)) (es.map (·.key))/\D.aP B w (l.map (·.2)) (es.map (·.val))
 |[],es=>by
  simp only[aY,List.map_nil,D.aP]
  constructor
  ·rintro rfl;exact⟨rfl,rfl⟩
  ·rintro⟨h,_⟩;simpa using h
 |(k,x)::l,es=>by
  simp only[aY,List.map_cons,D.aP]
  constructor
  ·rintro⟨e,es',rfl,h1,h2,h3⟩
   obtain⟨g1,g2⟩:=(l0 l es').1 h3
   exact⟨⟨_,_,rfl,h1,g1⟩,⟨_,_,rfl,h2,g2⟩⟩
  ·rintro⟨⟨u,us,h1,h2,h3⟩,⟨v,vs,h4,h5,h6⟩⟩
   cases es with
   |nil=>simp at h1
   |cons e es'=>
    simp only[List.map_cons,List.cons.injEq]at h1 h4
    obtain⟨rfl,rfl⟩:=h1
    obtain⟨rfl,rfl⟩:=h4
    exact⟨e,es',rfl,h2,h5,(l0 l es').2 ⟨h3,h6⟩⟩
theorem D.aL {B:Nat->Prop}{w:World}:∀ (ds:List D) (vs:List Value),D.aP B w ds vs->vs.length=ds.length
 |[],_,h=>by simp[D.aP]at h;simp[h]
 |d::ds,_,h=>by obtain⟨u,us,rfl,_,h2⟩:=h;simp[D.aL ds us h2]
theorem D.ez {B:Nat->Prop}{w:World}:∀ (ds:List D) (vs:List Value) (i:Nat) (d:D),D.aP B w ds vs->ds[i]? =some d->∃v,vs[i]? =some v/\D.den B w d v
 |[],_,_,_,_,hd=>by simp at hd
 |d::ds,_,0,x,h,hd=>by
  exact Up
 |d::ds,_,i+1,x,h,hd=>by
  obtain⟨u,us,rfl,_,h2⟩:=h
  simpa using D.ez ds us i x h2 (by simpa using hd)
theorem D.yK {B:Nat->Prop}{w:World}{sz:Nat}{a:Addr}:∀ (es:List D) (i j:Nat) (e:D),D.elems B w sz a i es->es[j]? =some e->
 ∃ev:Value,ev.cells.size=sz/\iI B w (a.add ((i+j)*sz)) ev.cells/\D.den B w e ev
 |[],_,_,_,_,hd=>by simp at hd
 |e::es,i,0,x,h,hd=>by
  simp at hd;subst hd;simpa using h.1
 |e::es,i,j+1,x,h,hd=>by
  have:=D.yK es (i+1) j x h.2 (by simpa using hd)
  simpa[Nat.add_assoc,Nat.add_comm 1 j]using this
section
variable {M:Nat->Prop}{φ aS:Place}{H H':Hp}{w w':World}
theorem Trans.blocks (ht:Trans φ H w aS H' w')(b:Nat)(hc:dG w b)(h: ¬aA M φ H b):w'.heap[b]? =w.heap[b]? /\ ¬aA M aS H' b:=by
 have hb:=hc.lt
 refine⟨ht.keep.block b hb fun hl=>h (.inr hl), ?_⟩
 rintro(h1|h1)
 ·exact h (.inl h1)
 ·rcases ht.grow b h1 with h2|h2
  ·exact h (.inr h2)
  ·omega
mutual
theorem V.l4 (hb:∀b,dG w b-> ¬aA M φ H b->w'.heap[b]? =w.heap[b]? /\ ¬aA M aS H' b)(hr:eR φ H aS H'):∀ (x:V) (v:Value),V.den (aA M φ H) φ H w x v->V.den (aA M aS H') aS H' w' x v
 | .d x,v,h=>D.bc hb x v h
 | .bO,_,h=>h
 | .aa,_,_=>trivial
 | .sn es,v,h=>⟨D.bc hb (.sl es) v h.1,h.2⟩
 | .yJ id off n,v,h=>by
   exact XK
 | .mp id,v,h=>by
   obtain⟨h0,h1,h2⟩:=h
   refine⟨h0,hr.us id h1,fun cz=> ?_⟩
   obtain⟨h3,h4⟩:=hr.row id h1 cz
   exact(h2 h3).trans h4.symm
 | .fI,v,h=>h
 | .kq id,v,h=>by
   exact XK
 | .agg cs,_,h=>by obtain⟨a,rfl,h,hf⟩:=h;exact⟨a,rfl,V.gX hb hr cs _ h,hf⟩
 | .cn cs,_,h=>by obtain⟨a,rfl,h⟩:=h;exact⟨a,rfl,V.gX hb hr cs _ h⟩
 | .ptr id off,v,h=>by
   exact XK
 | .osl id ep,v,h=>by
   exact adh
 | .pe id ep i sz off,v,h=>by
   exact adh
 | .pp cs off,v,h=>by
   obtain⟨a,ev,h1,h2,h3,h5,h4⟩:=h
   exact⟨a,ev,h1,h2,D.bg hb cs ev h3,h5,h4.mono hb⟩
 | .func fn first cap,_,h=>by
   obtain⟨f,c,rfl,h1,h2⟩:=h
   exact⟨f,c,rfl,V.gX hb hr first _ h1,V.gX hb hr cap _ h2⟩
 | .iface t x,_,h=>by obtain⟨u,rfl,h⟩:=h;exact⟨u,rfl,V.l4 hb hr x u h⟩
theorem V.gX (hb:∀b,dG w b-> ¬aA M φ H b->w'.heap[b]? =w.heap[b]? /\ ¬aA M aS H' b)(hr:eR φ H aS H'):∀ (ds:List V) (vs:List Value),V.aP (aA M φ H) φ H w ds vs->V.aP (aA M aS H') aS H' w' ds vs
 |[],_,h=>h
 |x::xs,_,h=>by
  obtain⟨u,us,rfl,h1,h2⟩:=h
  exact⟨u,us,rfl,V.l4 hb hr x u h1,V.gX hb hr xs us h2⟩
end
theorem V.bc (ht:Trans φ H w aS H' w')(x:V)(v:Value)(h:V.den (aA M φ H) φ H w x v):V.den (aA M aS H') aS H' w' x v:=V.l4 ht.blocks ht.rel x v h
theorem V.bg (ht:Trans φ H w aS H' w')(ds:List V)(vs:List Value)(h:V.aP (aA M φ H) φ H w ds vs):V.aP (aA M aS H') aS H' w' ds vs:=V.gX ht.blocks ht.rel ds vs h
end
end
end Go.Proofs.YtonbelhklnmjnaaGreat
