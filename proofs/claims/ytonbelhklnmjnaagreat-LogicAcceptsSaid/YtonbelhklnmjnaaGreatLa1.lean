/-
  A PART OF THE PROOF. Conditions: none.
-/
import Derived.WalkKit
import Derived.Below
set_option linter.unusedSimpArgs false
set_option linter.unusedVariables false
namespace Go.Proofs.YtonbelhklnmjnaaGreat
theorem aG{G G':Prop}(g:G')(h:G=G':=by simp+contextual (disch:=first|omega|simp only[go_sem,false_implies]) only[go_sem,wrap64,if_pos,and_self]<;>rfl):G:=Eq.mpr h g
theorem bR{G:Prop}(h:G:=by simp+contextual (disch:=first|omega|simp only[go_sem,false_implies]) only[go_sem,wrap64,if_pos,and_self]):G:=h
theorem cg{P0 G G':Prop}(p0:P0)(g:G')(h:P0->G=G':=by intro p0;simp+contextual (disch:=first|omega|simp only[go_sem,false_implies]) only[go_sem,wrap64,if_pos,p0]<;>rfl):G:=Eq.mpr (h p0) g
theorem dn{P0 G G':Prop}(p0:P0)(g:G')(h:P0->G=G':=by intro p0;simp+contextual (disch:=first|omega|simp only[go_sem,false_implies]) only[go_sem,wrap64,if_pos,List.length_map,p0]<;>rfl):G:=Eq.mpr (h p0) g
theorem iP{G G':Prop}(g:G')(h:G=G':=by simp+contextual (disch:=first|omega|simp only[go_sem,false_implies]) only[go_sem,wrap64,if_pos,Nat.add_assoc,Nat.left_eq_add,Nat.add_eq_left,Nat.add_left_cancel_iff]<;>rfl):G:=Eq.mpr h g
theorem fT{G G':Prop}(g:G')(h:G=G':=by simp+contextual (disch:=first|omega|simp only[go_sem,false_implies]) only[go_sem,wrap64,if_pos,List.length_map]<;>rfl):G:=Eq.mpr h g
theorem iT{P0 P1 G G':Prop}(p0:P0)(p1:P1)(g:G')(h:P0->P1->G=G':=by intro p0 p1;simp+contextual (disch:=first|omega|simp only[go_sem,false_implies]) only[go_sem,wrap64,if_pos,List.length_map,p0,p1]<;>rfl):G:=Eq.mpr (h p0 p1) g
theorem b7{G G':Prop}(g:G')(h:G=G':=by simp+contextual only[go_sem]<;>rfl):G:=Eq.mpr h g
theorem s9{P0 P1 G G':Prop}(p0:P0)(p1:P1)(g:G')(h:P0->P1->G=G':=by intro p0 p1;simp+contextual (disch:=first|omega|simp only[go_sem,false_implies]) only[go_sem,wrap64,if_pos,p0,p1]<;>rfl):G:=Eq.mpr (h p0 p1) g
theorem FR{P0 P1 P2 P3 G G':Prop}(p0:P0)(p1:P1)(p2:P2)(p3:P3)(g:G')(h:P0->P1->P2->P3->G=G':=by intro p0 p1 p2 p3;simp+contextual (disch:=first|omega|simp only[go_sem,false_implies]) only[go_sem,wrap64,if_pos,List.length_map,p0,p1,p2,p3]<;>rfl):G:=Eq.mpr (h p0 p1 p2 p3) g
theorem qo{P0 P1 P2 G G':Prop}(p0:P0)(p1:P1)(p2:P2)(g:G')(h:P0->P1->P2->G=G':=by intro p0 p1 p2;simp+contextual (disch:=first|omega|simp only[go_sem,false_implies]) only[go_sem,wrap64,if_pos,List.length_map,p0,p1,p2]<;>rfl):G:=Eq.mpr (h p0 p1 p2) g
theorem zM{P0 P1 P2 G G':Prop}(p0:P0)(p1:P1)(p2:P2)(g:G')(h:P0->P1->P2->G=G':=by intro p0 p1 p2;simp+contextual (disch:=first|omega|simp only[go_sem,false_implies]) only[go_sem,wrap64,if_pos,Nat.add_assoc,Nat.left_eq_add,Nat.add_eq_left,Nat.add_left_cancel_iff,p0,p1,p2]<;>rfl):G:=Eq.mpr (h p0 p1 p2) g
theorem BD{P0 G G':Prop}(p0:P0)(g:G')(h:P0->G=G':=by intro p0;simp+contextual (disch:=first|omega|simp only[go_sem,false_implies]) only[go_sem,wrap64,if_pos,Nat.add_assoc,Nat.left_eq_add,Nat.add_eq_left,Nat.add_left_cancel_iff,p0]<;>rfl):G:=Eq.mpr (h p0) g
theorem Ek{P0 P1 G G':Prop}(p0:P0)(p1:P1)(g:G')(h:P0->P1->G=G':=by intro p0 p1;simp+contextual (disch:=first|omega|simp only[go_sem,false_implies]) only[go_sem,wrap64,if_pos,Nat.add_assoc,Nat.left_eq_add,Nat.add_eq_left,Nat.add_left_cancel_iff,List.length_map,p0,p1]<;>rfl):G:=Eq.mpr (h p0 p1) g
theorem uT{P0 P1 P2 G G':Prop}(p0:P0)(p1:P1)(p2:P2)(g:G')(h:P0->P1->P2->G=G':=by intro p0 p1 p2;simp+contextual (disch:=first|omega|simp only[go_sem,false_implies]) only[go_sem,wrap64,if_pos,p0,p1,p2]<;>rfl):G:=Eq.mpr (h p0 p1 p2) g
theorem zN{P0 P1 P2 P3 P4 G G':Prop}(p0:P0)(p1:P1)(p2:P2)(p3:P3)(p4:P4)(g:G')(h:P0->P1->P2->P3->P4->G=G':=by intro p0 p1 p2 p3 p4;simp+contextual (disch:=first|omega|simp only[go_sem,false_implies]) only[go_sem,wrap64,if_pos,List.length_map,p0,p1,p2,p3,p4]<;>rfl):G:=Eq.mpr (h p0 p1 p2 p3 p4) g
theorem uU{P0 G:Prop}(p0:P0)(h:P0->G:=by intro p0;simp+contextual (disch:=first|omega|simp only[go_sem,false_implies]) only[go_sem,wrap64,if_pos,p0]):G:=h p0
theorem xr{P0 P1 P2 P3 G G':Prop}(p0:P0)(p1:P1)(p2:P2)(p3:P3)(g:G')(h:P0->P1->P2->P3->G=G':=by intro p0 p1 p2 p3;simp+contextual (disch:=first|omega|simp only[go_sem,false_implies]) only[go_sem,wrap64,if_pos,p0,p1,p2,p3]<;>rfl):G:=Eq.mpr (h p0 p1 p2 p3) g
theorem zO{G G':Prop}(g:G')(h:G=G':=by simp+contextual (disch:=first|omega|simp only[go_sem,false_implies]) only[go_sem,wrap64,if_pos,mQ]<;>rfl):G:=Eq.mpr h g
theorem JW{P0 P1 P2 P3 P4 P5 P6 P7 G G':Prop}(p0:P0)(p1:P1)(p2:P2)(p3:P3)(p4:P4)(p5:P5)(p6:P6)(p7:P7)(g:G')(h:P0->P1->P2->P3->P4->P5->P6->P7->G=G':=by intro p0 p1 p2 p3 p4 p5 p6 p7;simp+contextual (disch:=first|omega|simp only[go_sem,false_implies]) only[go_sem,wrap64,if_pos,List.length_map,List.length_append,p0,p1,p2,p3,p4,p5,p6,p7]<;>rfl):G:=Eq.mpr (h p0 p1 p2 p3 p4 p5 p6 p7) g
theorem NT{P0 P1 P2 P3 P4 G G':Prop}(p0:P0)(p1:P1)(p2:P2)(p3:P3)(p4:P4)(g:G')(h:P0->P1->P2->P3->P4->G=G':=by intro p0 p1 p2 p3 p4;simp+contextual (disch:=first|omega|simp only[go_sem,false_implies]) only[go_sem,wrap64,if_pos,Nat.add_assoc,Nat.left_eq_add,Nat.add_eq_left,Nat.add_left_cancel_iff,p0,p1,p2,p3,p4]<;>rfl):G:=Eq.mpr (h p0 p1 p2 p3 p4) g
theorem NU{P0 P1 P2 P3 G G':Prop}(p0:P0)(p1:P1)(p2:P2)(p3:P3)(g:G')(h:P0->P1->P2->P3->G=G':=by intro p0 p1 p2 p3;simp+contextual (disch:=first|omega|simp only[go_sem,false_implies]) only[go_sem,wrap64,if_pos,Nat.add_assoc,Nat.left_eq_add,Nat.add_eq_left,Nat.add_left_cancel_iff,p0,p1,p2,p3]<;>rfl):G:=Eq.mpr (h p0 p1 p2 p3) g
theorem eZ{P0 G G':Prop}(p0:P0)(g:G')(h:P0->G=G':=by intro p0;simp+contextual only[go_sem,p0]<;>rfl):G:=Eq.mpr (h p0) g
theorem Hq{G:Prop}(h:G:=by simp+contextual (disch:=first|omega|simp only[go_sem,false_implies]) only[go_sem,wrap64,if_pos,he]):G:=h
theorem Tz{G G':Prop}(g:G')(h:G=G':=by simp+contextual (disch:=first|omega|simp only[go_sem,false_implies]) only[go_sem,wrap64,if_pos,Nat.add_assoc,Nat.left_eq_add,Nat.add_eq_left,Nat.add_left_cancel_iff,List.length_map]<;>rfl):G:=Eq.mpr h g
theorem Hr{P0 G G':Prop}(p0:P0)(g:G')(h:P0->G=G':=by intro p0;simp+contextual only[go_sem,Nat.add_assoc,Nat.left_eq_add,Nat.add_eq_left,Nat.add_left_cancel_iff,p0]<;>rfl):G:=Eq.mpr (h p0) g
theorem TA{P0 P1 G G':Prop}(p0:P0)(p1:P1)(g:G')(h:P0->P1->G=G':=by intro p0 p1;simp+contextual (disch:=first|omega|simp only[go_sem,false_implies]) only[go_sem,wrap64,if_pos,Nat.add_assoc,Nat.left_eq_add,Nat.add_eq_left,Nat.add_left_cancel_iff,p0,p1]<;>rfl):G:=Eq.mpr (h p0 p1) g
theorem JX{P0 P1 P2 P3 P4 G G':Prop}(p0:P0)(p1:P1)(p2:P2)(p3:P3)(p4:P4)(g:G')(h:P0->P1->P2->P3->P4->G=G':=by intro p0 p1 p2 p3 p4;simp+contextual (disch:=first|omega|simp only[go_sem,false_implies]) only[go_sem,wrap64,if_pos,p0,p1,p2,p3,p4]<;>rfl):G:=Eq.mpr (h p0 p1 p2 p3 p4) g
theorem JY{P0 P1 G:Prop}(p0:P0)(p1:P1)(h:P0->P1->G:=by intro p0 p1;simp+contextual (disch:=first|omega|simp only[go_sem,false_implies]) only[go_sem,wrap64,if_pos,p0,p1]):G:=h p0 p1
theorem TC{P0 P1 P2 P3 G G':Prop}(p0:P0)(p1:P1)(p2:P2)(p3:P3)(g:G')(h:P0->P1->P2->P3->G=G':=by intro p0 p1 p2 p3;simp+contextual (disch:=first|omega|simp only[go_sem,false_implies]) only[go_sem,wrap64,if_pos,List.length_map,List.length_append,p0,p1,p2,p3]<;>rfl):G:=Eq.mpr (h p0 p1 p2 p3) g
theorem NV{P0 P1 P2 P3 P4 P5 G G':Prop}(p0:P0)(p1:P1)(p2:P2)(p3:P3)(p4:P4)(p5:P5)(g:G')(h:P0->P1->P2->P3->P4->P5->G=G':=by intro p0 p1 p2 p3 p4 p5;simp+contextual (disch:=first|omega|simp only[go_sem,false_implies]) only[go_sem,wrap64,if_pos,p0,p1,p2,p3,p4,p5]<;>rfl):G:=Eq.mpr (h p0 p1 p2 p3 p4 p5) g
theorem Y5{P0 P1 P2 P3 P4 P5 G G':Prop}(p0:P0)(p1:P1)(p2:P2)(p3:P3)(p4:P4)(p5:P5)(g:G')(h:P0->P1->P2->P3->P4->P5->G=G':=by intro p0 p1 p2 p3 p4 p5;simp+contextual (disch:=first|omega|simp only[go_sem,false_implies]) only[go_sem,wrap64,if_pos,Nat.add_assoc,Nat.left_eq_add,Nat.add_eq_left,Nat.add_left_cancel_iff,List.length_map,p0,p1,p2,p3,p4,p5]<;>rfl):G:=Eq.mpr (h p0 p1 p2 p3 p4 p5) g
theorem Y6{P0 P1 P2 G G':Prop}(p0:P0)(p1:P1)(p2:P2)(g:G')(h:P0->P1->P2->G=G':=by intro p0 p1 p2;simp+contextual (disch:=first|omega|simp only[go_sem,false_implies]) only[go_sem,wrap64,if_pos,Nat.add_assoc,Nat.left_eq_add,Nat.add_eq_left,Nat.add_left_cancel_iff,zP,p0,p1,p2]<;>rfl):G:=Eq.mpr (h p0 p1 p2) g
theorem Y7{G G':Prop}(g:G')(h:G=G':=by simp+contextual (disch:=first|omega|simp only[go_sem,false_implies]) only[go_sem,wrap64,if_pos,Nat.add_assoc,Nat.left_eq_add,Nat.add_eq_left,Nat.add_left_cancel_iff,uw]<;>rfl):G:=Eq.mpr h g
theorem Y8{G G':Prop}(g:G')(h:G=G':=by simp+contextual (disch:=first|omega|simp only[go_sem,false_implies]) only[go_sem,wrap64,if_pos,mQ,Nat.add_assoc,Nat.left_eq_add,Nat.add_eq_left,Nat.add_left_cancel_iff]<;>rfl):G:=Eq.mpr h g
theorem TD{G G':Prop}(g:G')(h:G=G':=by simp+contextual (disch:=first|omega|simp only[go_sem,false_implies]) only[go_sem,wrap64,if_pos,bne_self_eq_false]<;>rfl):G:=Eq.mpr h g
theorem TE{G G':Prop}(g:G')(h:G=G':=by simp+contextual (disch:=first|omega|simp only[go_sem,false_implies]) only[go_sem,wrap64,if_pos,beq_self_eq_true]<;>rfl):G:=Eq.mpr h g
theorem TF{G:Prop}(h:G:=by simp+contextual (disch:=first|omega|simp only[go_sem,false_implies]) only[go_sem,wrap64,if_pos,List.length_map]):G:=h
theorem TG{G:Prop}(h:G:=by simp+contextual (disch:=first|omega|simp only[go_sem,false_implies]) only[go_sem,wrap64,if_pos,mQ]):G:=h
theorem TH{P0 P1 P2 G:Prop}(p0:P0)(p1:P1)(p2:P2)(h:P0->P1->P2->G:=by intro p0 p1 p2;simp+contextual (disch:=first|omega|simp only[go_sem,false_implies]) only[go_sem,wrap64,if_pos,p0,p1,p2]):G:=h p0 p1 p2
theorem TI{P0 P1 P2 G G':Prop}(p0:P0)(p1:P1)(p2:P2)(g:G')(h:P0->P1->P2->G=G':=by intro p0 p1 p2;simp+contextual only[go_sem,Nat.add_assoc,Nat.left_eq_add,Nat.add_eq_left,Nat.add_left_cancel_iff,p0,p1,p2]<;>rfl):G:=Eq.mpr (h p0 p1 p2) g
theorem Y9{G G':Prop}(g:G')(h:G=G':=by simp+contextual only[go_sem,JZ,Nat.add_assoc,Nat.left_eq_add,Nat.add_eq_left,Nat.add_left_cancel_iff,List.replicate]<;>rfl):G:=Eq.mpr h g
theorem zQ{P0 P1 G G':Prop}(p0:P0)(p1:P1)(g:G')(h:P0->P1->G=G':=by intro p0 p1;simp+contextual only[go_sem,p0,p1]<;>rfl):G:=Eq.mpr (h p0 p1) g
theorem NW{G:Prop}(h:G:=by simp+contextual only[go_sem]):G:=h
theorem cz{P:Prop}(h:P:=by(repeat(first|exact xU|refine uV ?_|refine qp rfl ?_|refine qp (J0 (J1 (by omega))) ?_|refine zR rfl (by simp[V.refs,V.aQ]<;>first|omega|assumption) ?_))):P:=h
theorem dp{P:Prop}(h:P:=by repeat(first|exact hg.mono (by omega)|exact Good.nil|refine Good.aK ?_ (by omega) rfl|refine Good.aK ?_ (by omega) (uW _ _ _ (by omega))|refine Good.aK ?_ (by omega) (by simp[ae.refs,V.aQ,V.refs]<;>omega))):P:=h
theorem ah{P:Prop}(h:P:=by kernel_rfl):P:=h
theorem ad{P:Prop}(h:P:=by omega):P:=h
theorem nj{P:Prop}(h:P:=by(repeat(first|exact J2|refine Hs ?_|refine J3 rfl ?_|refine J3 (J0 (J1 (by omega))) ?_|refine TJ 0 rfl rfl rfl ?_|refine TK rfl (by simp[V.refs,V.aQ]<;>first|omega|assumption) ?_|refine TL rfl (by simp[V.ids]<;>omega) ?_))):P:=h
theorem zy5{P:Prop}(h:P:=by simp[V.refs,V.aQ]<;>first|omega|assumption):P:=h
theorem cY{P:Prop}(h:P:=by(repeat(first|rfl|rw[ab]|rw[aj _ _ _ _ (by omega)]))):P:=h
theorem jH{P:Prop}(h:P:=by simp only[qq,uX,px,rU,rV,rW,List.contains_nil,Bool.false_eq_true,if_false,eu,rX]):P:=h
theorem zy8{P:Prop}(h:P:=by simp[ae.refs,V.aQ,V.refs]<;>omega):P:=h
theorem rY{P:Prop}(h:P:=by simp only[aK]<;>((repeat' split)<;>first|rfl|omega|(subst_vars;first|rfl|assumption|(symm;assumption)|omega|(simp_all;done)))):P:=h
theorem TM{P:Prop}(h:P:=by(repeat(first|exact xU|refine uV ?_|refine qp rfl ?_|refine qp (J0 (J1 (by omega))) ?_|refine zR rfl (by simp[V.refs,V.aQ]<;>first|omega|assumption) ?_|refine qp (by first|exact q0|exact q1|exact q2|exact q3|exact q4|exact q5|exact q6|exact q7|exact q8|exact q9|exact q10|exact q11|exact q12|exact q13|exact q14|exact QJ|exact QK|exact QL|exact q18|exact q19|exact q20|exact q21|exact q22|exact q23|exact q24|exact q25|exact q26|exact q27|exact q28|exact q29|exact q30|exact q31|exact q32|exact q33|exact q34|exact q35|exact q36|exact q37|exact q38|exact q39|exact q40) ?_|refine zR (by first|exact q0|exact q1|exact q2|exact q3|exact q4|exact q5|exact q6|exact q7|exact q8|exact q9|exact q10|exact q11|exact q12|exact q13|exact q14|exact QJ|exact QK|exact QL|exact q18|exact q19|exact q20|exact q21|exact q22|exact q23|exact q24|exact q25|exact q26|exact q27|exact q28|exact q29|exact q30|exact q31|exact q32|exact q33|exact q34|exact q35|exact q36|exact q37|exact q38|exact q39|exact q40) (by simp[V.refs,V.aQ]<;>first|omega|assumption) ?_))):P:=h
theorem au{P:Prop}(h:P:=by simp):P:=h
theorem afm{P:Prop}(h:P:=by first|exact q0|exact q1|exact q2|exact q3|exact q4|exact q5|exact q6|exact q7|exact q8|exact q9|exact q10|exact q11|exact q12|exact q13|exact q14|exact QJ|exact QK|exact QL|exact q18|exact q19|exact q20|exact q21|exact q22|exact q23|exact q24|exact q25|exact q26|exact q27|exact q28|exact q29|exact q30|exact q31|exact q32|exact q33|exact q34|exact q35|exact q36|exact q37|exact q38|exact q39|exact q40):P:=h
theorem aT{P:Prop}(h:P:=by decide):P:=h
theorem fH{P:Prop}(h:P:=by simp[ae.refs,V.aQ,V.refs]):P:=h
theorem oS{P:Prop}(h:P:=by rintro⟨h1,h2⟩;first|(cases h1;done)|(cases h2;done)):P:=h
theorem afn{P:Prop}(h:P:=by simp[V.ids]<;>omega):P:=h
theorem jI{P:Prop}(h:P:=by simpa[execOp,ey]using this):P:=h
theorem Ht{P:Prop}(h:P:=by simp+contextual (disch:=first|omega|simp only[go_sem,false_implies]) only[go_sem,wrap64,if_pos,and_self];simp[mQ]):P:=h
theorem fi{P:Prop}(h:P:=by rw[ho];rfl):P:=h
theorem zS{P:Prop}(h:P:=by rw[m2.eq id (by omega)];unfold ext;rw[if_pos aC]):P:=h
theorem Hu{P:Prop}(h:P:=by(repeat(first|exact Hv|refine El ?_|refine NX rfl ?_))):P:=h
theorem mc{P:Prop}(h:P:=by simp[V.aQ,V.refs]):P:=h
theorem J4{P:Prop}(h:P:=by rw[m2.eq id (by omega)];unfold ext;rw[if_neg (by omega),aj _ _ _ _ (by omega)]):P:=h
theorem J5{P:Prop}(h:P:=by unfold me at h1;simp only[Bool.and_eq_true,beq_iff_eq]at h1;exact h1.2.1):P:=h
theorem Hw{P:Prop}(h:P:=by rw[hold id (by omega) (by omega),Hx id (by omega) aC]):P:=h
theorem mX{P:Prop}(h:P:=by dsimp only;omega):P:=h
theorem ly{P:Prop}(h:P:=by simpa using hj):P:=h
theorem zT{P:Prop}(h:P:=by simp[Op.equalIn,run_underlying ht]):P:=h
theorem xu{P:Prop}(h:P:=by rw[hn,hI,fl hx];rfl):P:=h
theorem J6{P:Prop}(h:P:=by rw[hI.eq bx QM];unfold ext;rw[if_neg (by omega),hO]):P:=h
theorem TN{P:Prop}(h:P:=by rw[q6 _ (by omega)];(repeat(first|rfl|rw[ab]|rw[aj _ _ _ _ (by omega)]))):P:=h
theorem TO{P:Prop}(h:P:=by rw[List.contains_iff_mem, <- (by simpa using h3:x=n)];exact List.mem_of_getElem? hx):P:=h
theorem py{P:Prop}(h:P:=by simp[qk,aC]):P:=h
theorem NY{P:Prop}(h:P:=by simpa[execOp,ey,resolve,invoke,builtin]using this):P:=h
theorem mf{P:Prop}(h:P:=by simp[hx]):P:=h
theorem TP{P:Prop}(h:P:=by rw[tV];exact List.mem_cons_of_mem _ (List.mem_flatMap.2 ⟨k,hk,hx⟩)):P:=h
theorem NZ{P:Prop}(h:P:=by simp only[Sem.run_bind,hr,Result.andThen_ok];rfl):P:=h
theorem TQ{P:Prop}(h:P:=by rw[aj _ _ _ _ pz,Hy _ _ (by omega)];exact h0 id (by omega)):P:=h
theorem N0{P:Prop}(h:P:=by unfold fU;rw[List.map_append,List.sum_append]):P:=h
theorem N1{P:Prop}(h:P:=by simp only[h1,dA,Option.map_some];exact hK):P:=h
theorem tW{P:Prop}(h:P:=by simp[V.refs]):P:=h
theorem J7{P:Prop}(h:P:=by unfold eL;rw[N2 trivial]):P:=h
theorem TR{P:Prop}(h:P:=by rw[aj _ _ _ _ (by omega)];exact k4 id (by omega) g2):P:=h
theorem N3{P:Prop}(h:P:=by rw[show(hp o nx).o id=_ from ho];rfl):P:=h
theorem TS{P:Prop}(h:P:=by simp at h;obtain⟨rfl,rfl⟩:=h;exact⟨rfl,rfl⟩):P:=h
theorem TT{P:Prop}(h:P:=by rw[Hy _ _ (by omega)];exact k2.eq id (by omega)):P:=h
theorem Hz{P:Prop}(h:P:=by simpa[V.refs]using hr):P:=h
theorem TU{P:Prop}(h:P:=by rw[nk];simp only[qk,e7,xw];exact aC):P:=h
theorem TV{P:Prop}(h:P:=by simp at hl;obtain⟨rfl,rfl⟩:=hl;exact hK):P:=h
theorem TW{P:Prop}(h:P:=by rw[if_neg (by omega),hold id (by omega) h2]):P:=h
theorem N4{P:Prop}(h:P:=by simpa only[xV]using this):P:=h
theorem N5{P:Prop}(h:P:=by simp+contextual only[go_sem,h]):P:=h
theorem TX{P:Prop}(h:P:=by simp at hj hy;subst hj;subst hy;exact bA):P:=h
theorem N6{P:Prop}(h:P:=by rw[if_neg e,if_neg (by omega)]):P:=h
theorem zU{P:Prop}(h:P:=by rw[hj];rfl):P:=h
theorem N7{P:Prop}(h:P:=by rw[hg];simp[eB,hv,e]):P:=h
theorem TY{P:Prop}(h:P:=by rw[ux];exact dw all _ bI):P:=h
theorem TZ{P:Prop}(h:P:=by simp[ae.refs,V.aQ,V.refs];omega):P:=h
theorem BE{P:Prop}(h:P:=by rw[xg];rfl):P:=h
theorem N8{P:Prop}(h:P:=by simp[V.aQ,V.refs];omega):P:=h
theorem N9{P:Prop}(h:P:=by simp[binOp,BF hr]):P:=h
theorem BG{P:Prop}(h:P:=by rw[hx];rfl):P:=h
theorem HA{P:Prop}(h:P:=by rw[hx];exact hk):P:=h
theorem T0{P:Prop}(h:P:=by rw[uY i hi];exact congrArg some hb):P:=h
theorem T1{P:Prop}(h:P:=by rw[List.drop_eq_getElem_cons g1,g2]):P:=h
theorem T2{P:Prop}(h:P:=by rw[List.drop_eq_getElem_cons h5,h6]):P:=h
theorem Em{P:Prop}(h:P:=by simpa using h2):P:=h
theorem T3{P:Prop}(h:P:=by unfold eL;exact Eq.trans rfl rfl):P:=h
theorem Oa{P:Prop}(h:P:=by rw[oT]at hl;simp at hl):P:=h
theorem T4{P:Prop}(h:P:=by unfold HB;exact Eq.trans rfl rfl):P:=h
theorem BH{P:Prop}(h:P:=by simp;omega):P:=h
theorem T5{P:Prop}(h:P:=by unfold eqGuard;cases op<;>simp):P:=h
theorem Ob{P:Prop}(h:P:=by rw[h]at h1;simp at h1):P:=h
theorem HC{P:Prop}(h:P:=by rw[tV];simp):P:=h
theorem Oc{P:Prop}(h:P:=by rw[b8 hx h3];rfl):P:=h
theorem T6{P:Prop}(h:P:=by simp[hj]at hr;exact⟨hr,rfl⟩):P:=h
theorem T7{P:Prop}(h:P:=by rw[Hy _ _ HD, <- h0 _ HD,ht]):P:=h
theorem T8{P:Prop}(h:P:=by simp at hj;subst hj;exact fQ):P:=h
theorem HE{P:Prop}(h:P:=by simpa using hx):P:=h
theorem T9{P:Prop}(h:P:=by rw[ht];exact ae.noConfusion):P:=h
theorem Ua{P:Prop}(h:P:=by simp at hc;exact absurd hc h4):P:=h
theorem HG{P:Prop}(h:P:=by simpa using h):P:=h
theorem BI{P:Prop}(h:P:=by simp[hy]):P:=h
theorem Ub{P:Prop}(h:P:=by simp[qk,nn _ _ aC]):P:=h
theorem HH{P:Prop}(h:P:=by rw[h1];rfl):P:=h
theorem J8{P:Prop}(h:P:=by cases b<;>rfl):P:=h
theorem Uc{P:Prop}(h:P:=by rw[g3 rfl]at g1;exact g1):P:=h
theorem Ud{P:Prop}(h:P:=by rw[decide_eq_false h];rfl):P:=h
theorem Od{P:Prop}(h:P:=by simp[V.aQ,aC]):P:=h
theorem J9{P:Prop}(h:P:=by simpa using hi):P:=h
theorem Ka{P:Prop}(h:P:=by simpa using hy):P:=h
theorem Ue{P:Prop}(h:P:=by simp[binOp,Op.intArith]):P:=h
theorem Oe{P:Prop}(h:P:=by simp[V.refs,aC]):P:=h
theorem Uf{P:Prop}(h:P:=by rw[mg]at h;exact h):P:=h
theorem Of{P:Prop}(h:P:=by rw[BJ];exact hk):P:=h
theorem Ug{P:Prop}(h:P:=by simpa[V.refs]using hj):P:=h
theorem Og{P:Prop}(h:P:=by simpa using hij):P:=h
theorem Oh{P:Prop}(h:P:=by cases c<;>rfl):P:=h
theorem Oi{P:Prop}(h:P:=by simpa using r2):P:=h
theorem BK{P:Prop}(h:P:=by assumption):P:=h
def ta(ops:Array Oper)(j:Nat):Option Tmp:=(ops[j]?).bind (·.dst)
structure cI where
 dst:Option Nat
 op:Op
 gd:Option (Nat×Bool):=none
instance:Inhabited cI:=⟨⟨none, .ready 0,none⟩⟩
def En(n:Nat):Option Tmp->Bool
 |some d=>decide (d<n)
 |none=>true
def Kc(n:Nat)(ops:Array Oper)(o:Oper):Option cI:=
 if En n o.dst=true then match o.guard with
  |none=>some ⟨o.dst,o.op,none⟩
  |some (j,want)=>match ta ops j with
   |some d=>some ⟨o.dst,o.op,some (d,want)⟩
   |none=>none
 else none
def lK(n:Nat)(ops:Array Oper):List Oper->Option (List cI)
 |[]=>some []
 |o::l=>match Kc n ops o,lK n ops l with
  |some x,some xs=>some (x::xs)
  |_,_=>none
def tmpsOf(o:cI):List Nat:=(o.op.operands.toList.filterMap fun| .tmp t=>some t|_=>none)++(match o.gd with|some (d,_)=>[d]|none=>[])
def fI(o:cI):List Nat:=tmpsOf o++o.dst.toList
def bW(ops:Array Oper)(i:Nat):List Nat:=match ops[i]? with|some o=>(o.after.toList.filter (Region.binds .any)).map (·.on)|none=>[]
def cq(l:List cI)(i:Nat):cI:=l.getD i default
inductive IC where
 |skip|af (l:List cI)|dx (l:List cI) (pr:List (List Nat))|seq (a b:IC)|cond (c:Operand) (a b:IC)|block (id:Nat) (a:IC)|loop (a:IC)|exit (id:Nat)|ret|bad
 |HI (g:Operand) (ps:List Nat) (a b:IC)
 deriving Inhabited
inductive jS where
 |ret|exit (id:Nat)
def jS.code:jS->Code
 | .ret=> .ret
 | .exit id=> .exit id
def mh(acc:List Nat):List Nat->Nat
 |[]=>0
 |j::ps=>(2^j|||acc.getD j 0)|||mh acc ps
def eM:List (List Nat)->List Nat->List Nat
 |[],acc=>acc
 |ps::l,acc=>eM l (acc++[mh acc ps])
def rZ(x y:cI):Bool:=match x.dst with|some d=> !(fI y).contains d|none=>true
def zV(l:List cI)(pr:List (List Nat)):Bool:=
 (List.range l.length).all fun j=>(List.range j).all fun i=>((eM pr []).getD j 0).testBit i||(rZ (cq l i) (cq l j)&&rZ (cq l j) (cq l i))
def np(xs ys:List Nat):Bool:=xs.all fun x=> !ys.contains x
def iX(pr:List (List Nat))(fp:List (List Nat×List Nat)):Bool:=
 (List.range fp.length).all fun j=>(List.range j).all fun i=>((eM pr []).getD j 0).testBit i||
  (np (fp.getD i ([],[])).2 (fp.getD j ([],[])).1&&np (fp.getD i ([],[])).2 (fp.getD j ([],[])).2&&np (fp.getD j ([],[])).2 (fp.getD i ([],[])).1)
def iw(ops:Array Oper):List (List Nat):=(List.range ops.size).map (bW ops)
def Uh(pr:List (List Nat)):Bool:=(List.range pr.length).all fun k=>(pr.getD k []).all fun j=>decide (j<k)
theorem uZ{acc:List Nat}{i:Nat}:∀ (ps:List Nat),(mh acc ps).testBit i=true->∃j∈ps,i=j\/(acc.getD j 0).testBit i=true
 |[],h=>by simp[mh]at h
 |j::ps,h=>by
  simp only[mh,Nat.testBit_or,Bool.or_eq_true]at h
  rcases h with(h|h)|h
  ·rw[Nat.testBit_two_pow]at h
   exact⟨j,au, .inl (by have h:=of_decide_eq_true h;exact h.symm)⟩
  ·exact⟨j,au, .inr h⟩
  ·obtain⟨j',h1,h2⟩:=uZ ps h
   exact⟨j',by simp[h1],h2⟩
theorem sa{k:Nat}:∀ (l:List (List Nat)) (acc:List Nat),k<acc.length->(eM l acc).getD k 0=acc.getD k 0
 |[],_,_=>rfl
 |ps::l,acc,h=>by
  rw[eM,sa l _ (by simp;omega)]
  simp[List.getD_eq_getElem?_getD,List.getElem?_append_left h]
theorem sb{i:Nat}:∀ (l:List (List Nat)) (acc:List Nat) (k:Nat),acc.length<=k->(∀k',k'<l.length->∀j∈l.getD k' [],j<acc.length+k')->((eM l acc).getD k 0).testBit i=true->
 ∃j∈l.getD (k - acc.length) [],i=j\/((eM l acc).getD j 0).testBit i=true
 |[],acc,k,hk,_,h=>by
  simp only[eM]at h
  rw[List.getD_eq_getElem?_getD,List.getElem?_eq_none hk]at h
  simp at h
 |ps::l,acc,k,hk,hp,h=>by
  simp only[eM]at h|-
  by_cases he:k=acc.length
  ·subst he
   rw[sa l _ (by simp)]at h
   have e:(acc++[mh acc ps]).getD acc.length 0=mh acc ps:=by simp[List.getD_eq_getElem?_getD]
   rw[e]at h
   obtain⟨j,h1,h2⟩:=uZ ps h
   refine⟨j,by simpa using h1,h2.imp id fun h2=> ?_⟩
   have hj:j<acc.length:=by simpa using hp 0 au j (by simpa using h1)
   rw[sa l _ (by simp;omega)]
   simpa[List.getD_eq_getElem?_getD,List.getElem?_append_left hj]using h2
  ·obtain⟨j,h1,h2⟩:=sb l (acc++[mh acc ps]) k BH (fun k' ql j hj=>by
    have:=hp (k'+1) BH j ly
    simp;omega) h
   refine⟨j, ?_,h2⟩
   have e:k - acc.length=(k - (acc++[mh acc ps]).length)+1:=by simp;omega
   rw[e];simpa using h1
theorem qs{pr:List (List Nat)}(hp:∀k,k<pr.length->∀j∈pr.getD k [],j<k){E:Nat->Bool}(hE:∀k,k<pr.length->E k=true->∀j∈pr.getD k [],E j=true):
 ∀k,k<pr.length->(∀j∈pr.getD k [],E j=true)->∀i,((eM pr []).getD k 0).testBit i=true->E i=true:=by
 intro k
 induction k using Nat.strongRecOn with
 |ind k ih=>
  intro hk hj i hi
  obtain⟨j,h1,h2⟩:=sb pr [] k au (fun k' ql j hj=>by simpa using hp k' ql j hj) hi
  simp only[List.length_nil,Nat.sub_zero]at h1
  rcases h2 with rfl|h2
  ·exact hj _ h1
  ·have Za:=hp k hk j h1
   exact ih j Za ad (hE j ad (hj j h1)) i h2
theorem BL{pr:List (List Nat)}(hp:∀k,k<pr.length->∀j∈pr.getD k [],j<k):∀k,k<pr.length->∀i,((eM pr []).getD k 0).testBit i=true->i<k:=by
 intro k
 induction k using Nat.strongRecOn with
 |ind k ih=>
  intro hk i hi
  obtain⟨j,h1,h2⟩:=sb pr [] k au (fun k' ql j hj=>by simpa using hp k' ql j hj) hi
  simp only[List.length_nil,Nat.sub_zero]at h1
  have Za:=hp k hk j h1
  rcases h2 with rfl|h2
  ·exact Za
  ·have:=ih j Za ad i h2;omega
def low(n:Nat):Code->IC
 | .skip=> .skip
 | .label _=> .skip
 | .scope c=>low n c
 | .region _ ops false=>match lK n ops ops.toList with
   |some l=> .af l
   |none=> .bad
 | .region _ ops true=>match lK n ops ops.toList with
   |some l=>if zV l (iw ops)&&Uh (iw ops)then .dx l (iw ops)else .bad
   |none=> .bad
 | .seq a b=> .seq (low n a) (low n b)
 | .cond c a b=> .cond c (low n a) (low n b)
 | .block id a=> .block id (low n a)
 | .loop a=> .loop (low n a)
 | .exit id=> .exit id
 | .ret=> .ret
 | .rangeFunc g ps a b=> .HI g ps.toList (low n a) (low n b)
 |_=> .bad
end Go.Proofs.YtonbelhklnmjnaaGreat
namespace Go.Proofs.YtonbelhklnmjnaaGreat
inductive D where
 |int (k:IntKind) (n:Int)|bool (b:Bool)|str (s:List UInt8)
 |fK|mY|cj|jt
 |agg (cs:List D)|sl (es:List D)|iface (t:TypeId) (d:D)
 |mp (ks vs:List D)
 deriving Inhabited
def Flat(vs:List Value):Prop:=∀u∈vs,u.oneCell'=true
def iy(B:Nat->Prop)(w:World)(a:Addr)(cs:Array Value):Prop:=∀j u,cs[j]? =some u->w.cell? (a.add j)=some u/\ ¬B a.block
def jQ(es:Array MapEntry)(clock:Nat):Prop:=(∀e∈es.toList,e.born<clock)/\(es.toList.map (·.born)).Nodup
def zW(ks:List D):Prop:=ks.Nodup/\∀k∈ks,∃n,k= .int .i64 n
mutual
def D.den (B:Nat->Prop)(w:World):D->Value->Prop
 | .int k n,v=>v= .int k n
 | .bool b,v=>v= .bool b
 | .str l,v=>∃s:ByteArray,v= .string s/\s.data.toList=l
 | .fK,v=>v= .nilIface
 | .mY,v=>v= .pointer none
 | .cj,v=>v= .nilFunc
 | .jt,v=>v= .map none
 | .agg cs,v=>∃a,v= .agg a/\D.aP B w cs a.toList/\Flat a.toList
 | .sl es,v=>∃base len cap,v= .slice base len cap/\len=es.length/\len<=cap/\(base=none->cap=0)/\
  ∃sz,∀a,base=some a->(cap≠0->a.spot=none)/\D.elems B w sz a 0 es
 | .iface t d,v=>∃u,v= .iface t u/\D.den B w d u
 | .mp ks vs,v=>∃m es clock p,v= .map (some m)/\w.heap[m]? =some (.map es clock)/\ ¬B m/\jQ es clock/\(p=es.toList\/(p.Perm es.toList/\zW ks))/\D.aP B w ks (p.map (·.key))/\D.aP B w vs (p.map (·.val))
def D.aP (B:Nat->Prop)(w:World):List D->List Value->Prop
 |[],vs=>vs=[]
 |d::ds,vs=>∃u us,vs=u::us/\D.den B w d u/\D.aP B w ds us
def D.elems (B:Nat->Prop)(w:World)(sz:Nat)(a:Addr):Nat->List D->Prop
 |_,[]=>True
 |i,e::es=>(∃ev:Value,ev.cells.size=sz/\iy B w (a.add (i*sz)) ev.cells/\D.den B w e ev)/\D.elems B w sz a (i+1) es
end
inductive V where
 |d (x:D)|bT|agg (cs:List V)|cA (vs:List V)
 |ptr (id off:Nat)|osl (id ep:Nat)|pe (id ep i sz off:Nat)|pp (cs:List D) (off:Nat)
 |func (fn:Fn) (first cap:List V)|iface (t:TypeId) (x:V)
 |aa
 |rP (es:List D)|xW (id off n:Nat)|mp (id:Nat)|fm|j6 (id:Nat)
 deriving Inhabited
inductive ae where
 |no|row (cs:List V)|arr (ep:Nat) (ty:TypeId) (sz:Nat) (es:List D)|tc (ep:Nat) (es:List D)
 |map (kt vt:TypeId) (es:List (D×D))
 |loop (nf n:Nat) (env:List V) (ps:List Nat) (a b:IC) (st:LoopState) (HJ:Option jS)
 |iY (es:List (D×D))|nq (es:List (D×D)) (last:Option (D×D))|zX (s:List UInt8) (pos:Nat)
 deriving Inhabited
def bz(l:List V):Nat->V:=fun i=>l.getD i .aa
structure Hp where
 o:Nat->ae
 us:Nat->Prop
def ae.cH:ae->Option Nat
 | .arr ep _ _ _| .tc ep _=>some ep
 |_=>none
def ae.cK:ae->Bool
 | .row _| .map .. | .loop .. | .iY _| .nq .. | .zX .. =>true
 |_=>false
def ae.live:ae->Bool
 | .row _| .arr .. | .map .. | .loop .. | .nq .. | .zX .. =>true
 |_=>false
def eT:Value->Option Nat
 | .pointer (some a)| .slice (some a) _ _=>some a.block
 | .map (some b)=>some b
 |_=>none
abbrev Place:=Nat->Value
def du(φ:Place)(H:Hp)(b:Nat):Prop:=∃id,(H.o id).live=true/\eT (φ id)=some b
def az(M:Nat->Prop)(φ:Place)(H:Hp)(b:Nat):Prop:=M b\/du φ H b
mutual
def V.den (B:Nat->Prop)(φ:Place)(H:Hp)(w:World):V->Value->Prop
 | .d x,v=>D.den B w x v
 | .bT,v=>v= .slice none 0 0
 | .agg cs,v=>∃a,v= .agg a/\V.aP B φ H w cs a.toList/\Flat a.toList
 | .cA vs,v=>∃a,v= .tuple a/\V.aP B φ H w vs a.toList
 | .ptr id off,v=>v.oneCell'=true/\H.us id/\((H.o id).cK=true->∃b,φ id= .pointer (some ⟨b,0,none⟩)/\v= .pointer (some ⟨b,off,none⟩))
 | .osl id ep,v=>v.oneCell'=true/\H.us id/\∀e,(H.o id).cH=some e->ep<=e/\(ep=e->v=φ id)
 | .pe id ep i sz off,v=>v.oneCell'=true/\H.us id/\∀e,(H.o id).cH=some e->ep<=e/\(ep=e->∃b n c,φ id= .slice (some ⟨b,0,none⟩) n c/\v= .pointer (some ⟨b,i*sz+off,none⟩))
 | .pp cs off,v=>∃a ev,a.spot=none/\v= .pointer (some (a.add off))/\D.aP B w cs ev/\Flat ev/\iy B w a ev.toArray
 | .func fn first cap,v=>∃f c,v= .func fn f c/\V.aP B φ H w first f.toList/\V.aP B φ H w cap c.toList
 | .iface t x,v=>∃u,v= .iface t u/\V.den B φ H w x u
 | .aa,_=>True
 | .rP es,v=>D.den B w (.sl es) v/\∃base n,v= .slice base n n
 | .xW id off n,v=>v.oneCell'=true/\H.us id/\((H.o id).cK=true->∃b,φ id= .pointer (some ⟨b,0,none⟩)/\v= .slice (some ⟨b,off,none⟩) n n)
 | .mp id,v=>v.oneCell'=true/\H.us id/\((H.o id).cK=true->v=φ id)
 | .fm,v=>∃b,v= .bool b
 | .j6 id,v=>v.oneCell'=true/\H.us id/\((H.o id).cK=true->∃b,φ id= .pointer (some ⟨b,0,none⟩)/\v= .func (.yield b) #[] #[])
def V.aP (B:Nat->Prop)(φ:Place)(H:Hp)(w:World):List V->List Value->Prop
 |[],vs=>vs=[]
 |x::xs,vs=>∃u us,vs=u::us/\V.den B φ H w x u/\V.aP B φ H w xs us
end
def gM(B:Nat->Prop)(w:World)(sz:Nat)(es:List D)(xs:List Value):Prop:=
 ∃evs:List Value,xs=evs.flatMap (·.cells.toList)/\(∀ev∈evs,ev.cells.size=sz)/\D.aP B w es evs
def a8(B:Nat->Prop)(w:World):List (D×D)->List MapEntry->Prop
 |[],es=>es=[]
 |(k,x)::l,es=>∃e es',es=e::es'/\D.den B w k e.key/\D.den B w x e.val/\a8 B w l es'
def zY(B:Nat->Prop)(w:World)(l:List (D×D))(last:Option (D×D))(b:Nat):Prop:=
 w.heap[b]? =some (.mapIter none 0 #[] 0)/\l=[]/\last=none\/
 ∃m since seen es,w.heap[b]? =some (.mapIter (some m) since seen since)/\w.heap[m]? =some (.map es since)/\ ¬B m/\jQ es since/\(∃l',l'.Perm l/\a8 B w l' (es.toList.filter fun e=> !seen.contains e.born))/\
  ∀k x,last=some (k,x)->∃e∈es.toList,seen.back?=some e.born/\D.den B w k e.key/\D.den B w x e.val
def bn(M:Nat->Prop)(φ:Place)(H:Hp)(w:World)(id:Nat):Prop:=
 match H.o id with
 | .no=>True
 | .row cs=>∃b dX ty,φ id= .pointer (some ⟨b,0,none⟩)/\w.heap[b]? =some (.cells dX ty (0,0))/\V.aP (az M φ H) φ H w cs dX.toList/\Flat dX.toList
 | .arr _ ty sz es=>0<sz/\∃xs,w.ownsRow 0 ty sz (φ id) es.length xs/\gM (az M φ H) w sz es xs
 | .tc _ es=>D.den (az M φ H) w (.sl es) (φ id)
 | .loop nf n env ps iZ eN st HJ=>∃b r,φ id= .pointer (some ⟨b,0,none⟩)/\w.heap[b]? =some (.loop r)/\r.fn<nf/\r.state=st/\r.pending=HJ.map jS.code/\r.params.toList=ps/\r.tmps.size=n/\low n r.assign=iZ/\low n r.body=eN/\
  ∀i,V.den (az M φ H) φ H w (bz env i) (r.tmps.getD i undef)
 | .map _ _ l=>∃b es clock,φ id= .map (some b)/\w.heap[b]? =some (.map es clock)/\jQ es clock/\a8 (az M φ H) w l es.toList
 | .iY l=>D.den (az M φ H) w (.mp (l.map (·.1)) (l.map (·.2))) (φ id)
 | .nq l last=>∃b,φ id= .pointer (some ⟨b,0,none⟩)/\zY (az M φ H) w l last b
 | .zX s pos=>∃b,φ id= .pointer (some ⟨b,0,none⟩)/\w.heap[b]? =some (.stringIter ⟨⟨s⟩⟩ pos)
structure aF (M:Nat->Prop) (φ:Place) (H:Hp) (w:World):Prop where
 ok:∀id,bn M φ H w id
 fresh:∀id, ¬H.us id->H.o id= .no
 apart:∀i j b,(H.o i).live=true->(H.o j).live=true->eT (φ i)=some b->eT (φ j)=some b->i=j
 ours:∀b,du φ H b-> ¬M b/\b<w.heap.size
 Bu:∀b,M b->b<w.heap.size
structure eO (m:Nat->Prop) (w w':World):Prop where
 os:w'.os=w.os
 tape:w'.tape=w.tape
 output:w'.output=w.output
 size:w.heap.size<=w'.heap.size
 block:∀k,k<w.heap.size-> ¬m k->w'.heap[k]? =w.heap[k]?
structure eC (φ:Place) (H:Hp) (aS:Place) (H':Hp):Prop where
 us:∀id,H.us id->H'.us id
 row:∀id,H.us id->(H'.o id).cK=true->(H.o id).cK=true/\aS id=φ id
 ep:∀id e',H.us id->(H'.o id).cH=some e'->∃e,(H.o id).cH=some e/\e<=e'/\(e=e'->aS id=φ id)
structure Trans (φ:Place) (H:Hp) (w:World) (aS:Place) (H':Hp) (w':World):Prop where
 cJ:eO (du φ H) w w'
 grow:∀b,du aS H' b->du φ H b\/w.heap.size<=b
 rel:eC φ H aS H'
theorem eO.refl (m:Nat->Prop)(w:World):eO m w w:=⟨rfl,rfl,rfl,Nat.le_refl _,fun _ _ _=>rfl⟩
theorem eC.refl (φ:Place)(H:Hp):eC φ H φ H:=⟨fun _ h=>h,fun _ _ h=>⟨h,rfl⟩,fun _ e' _ h=>⟨e',h,Nat.le_refl _,fun _=>rfl⟩⟩
theorem Trans.refl (φ:Place)(H:Hp)(w:World):Trans φ H w φ H w:=⟨eO.refl _ _,fun _ h=> .inl h,eC.refl _ _⟩
theorem eC.trans {φ aS Eo:Place}{H H' Zb:Hp}(h:eC φ H aS H')(k:eC aS H' Eo Zb):eC φ H Eo Zb where
 us id aC:=k.us id (h.us id aC)
 row id aC hr:=by
  obtain⟨a,b⟩:=k.row id (h.us id aC) hr
  obtain⟨c,d⟩:=h.row id aC a
  exact⟨c,b.trans d⟩
 ep id e' aC he:=by
  obtain⟨e,h1,h2,h3⟩:=k.ep id e' (h.us id aC) he
  obtain⟨e0,g1,g2,g3⟩:=h.ep id e aC h1
  refine⟨e0,g1,Nat.le_trans g2 h2,fun heq=> ?_⟩
  have a:e0=e:=ad
  have b:e=e':=ad
  exact(h3 b).trans (g3 a)
theorem Trans.trans {φ aS Eo:Place}{H H' Zb:Hp}{w w' QN:World}(h:Trans φ H w aS H' w')(k:Trans aS H' w' Eo Zb QN):Trans φ H w Eo Zb QN where
 cJ:={
  os:=k.cJ.os.trans h.cJ.os
  tape:=k.cJ.tape.trans h.cJ.tape
  output:=k.cJ.output.trans h.cJ.output
  size:=Nat.le_trans h.cJ.size k.cJ.size
  block:=fun b hb hm=>by
   rw[k.cJ.block b (Nat.lt_of_lt_of_le hb h.cJ.size) (fun hl=>by
    rcases h.grow b hl with h1|h1
    ·exact hm h1
    ·omega),h.cJ.block b hb hm]}
 grow b hl:=by
  rcases k.grow b hl with h1|h1
  ·exact h.grow b h1
  ·exact .inr (Nat.le_trans h.cJ.size h1)
 rel:=h.rel.trans k.rel
@[simp] theorem X5 (a:Addr) (j:Nat):(a.add j).block=a.block:=by unfold Addr.add;split<;>rfl
def qt(w:World)(b:Nat):Prop:=∃cs ty fz,w.heap[b]? =some (.cells cs ty fz)
def dG(w:World)(b:Nat):Prop:=qt w b\/∃es clock,w.heap[b]? =some (.map es clock)
theorem dG.lt {w:World}{b:Nat}(h:dG w b):b<w.heap.size:=by
 rcases Nat.lt_or_ge b w.heap.size with hl|hl
 ·exact hl
 ·rcases h with⟨cs,ty,fz,h⟩|⟨es,clock,h⟩
  ·rw[Array.getElem?_eq_none hl]at h;cases h
  ·rw[Array.getElem?_eq_none hl]at h;cases h
theorem o6{w:World}{a:Addr}{u:Value}(h:w.cell? a=some u):qt w a.block:=by
 unfold World.cell? at h
 split at h
 ·exact⟨_,_,_,by assumption⟩
 ·cases h
theorem tX{w:World}{a:Addr}{u:Value}(h:w.cell? a=some u):dG w a.block:= .inl (o6 h)
theorem iy.mono {B B':Nat->Prop}{w w':World}{a:Addr}{cs:Array Value}
 (hb:∀b,dG w b-> ¬B b->w'.heap[b]? =w.heap[b]? /\ ¬B' b) (h:iy B w a cs):iy B' w' a cs:=by
 intro j u hj
 obtain⟨h1,h2⟩:=h j u hj
 have db:dG w a.block:=by simpa using tX h1
 obtain⟨h3,h4⟩:=hb _ db h2
 exact⟨by rw[World.cell?_of_block (w:=w) (w':=w') (a:=a.add j) (by simpa using h3)];exact h1,h4⟩
mutual
theorem D.aX {B B':Nat->Prop}{w w':World}(hb:∀b,dG w b-> ¬B b->w'.heap[b]? =w.heap[b]? /\ ¬B' b):
 ∀ (x:D) (v:Value),D.den B w x v->D.den B' w' x v
 | .int _ _,_,h| .bool _,_,h| .str _,_,h| .fK,_,h| .mY,_,h| .cj,_,h| .jt,_,h=>by simpa[D.den]using h
 | .agg cs,_,h=>by
   obtain⟨a,rfl,h,hf⟩:=h
   exact⟨a,rfl,D.bg hb cs _ h,hf⟩
 | .sl es,_,h=>by
   obtain⟨base,len,cap,rfl,h1,h2,h3,sz,h4⟩:=h
   exact⟨base,len,cap,rfl,h1,h2,h3,sz,fun a ha=>⟨(h4 a ha).1,D.u0 hb sz a es 0 (h4 a ha).2⟩⟩
 | .iface t d,_,h=>by
   obtain⟨u,rfl,h⟩:=h
   exact⟨u,rfl,D.aX hb d u h⟩
 | .mp ks vs,_,h=>by
   obtain⟨m,es,clock,p,rfl,h1,h2,h3,hp,h4,h5⟩:=h
   obtain⟨k1,k2⟩:=hb m (.inr ⟨es,clock,h1⟩) h2
   exact⟨m,es,clock,p,rfl,k1.trans h1,k2,h3,hp,D.bg hb ks _ h4,D.bg hb vs _ h5⟩
theorem D.bg {B B':Nat->Prop}{w w':World}(hb:∀b,dG w b-> ¬B b->w'.heap[b]? =w.heap[b]? /\ ¬B' b):
 ∀ (ds:List D) (vs:List Value),D.aP B w ds vs->D.aP B' w' ds vs
 |[],_,h=>h
 |d::ds,_,h=>by
  obtain⟨u,us,rfl,h1,h2⟩:=h
  exact⟨u,us,rfl,D.aX hb d u h1,D.bg hb ds us h2⟩
theorem D.u0 {B B':Nat->Prop}{w w':World}(hb:∀b,dG w b-> ¬B b->w'.heap[b]? =w.heap[b]? /\ ¬B' b)(sz:Nat)(a:Addr):
 ∀ (es:List D) (i:Nat),D.elems B w sz a i es->D.elems B' w' sz a i es
 |[],_,_=>trivial
 |e::es,i,h=>by
  obtain⟨⟨ev,h1,h2,h3⟩,h4⟩:=h
  exact⟨⟨ev,h1,h2.mono hb,D.aX hb e ev h3⟩,D.u0 hb sz a es (i+1) h4⟩
end
theorem a8.mono {B B':Nat->Prop}{w w':World}(hb:∀b,dG w b-> ¬B b->w'.heap[b]? =w.heap[b]? /\ ¬B' b):
 ∀ (l:List (D×D)) (es:List MapEntry),a8 B w l es->a8 B' w' l es
 |[],_,h=>h
 |(k,x)::l,_,h=>by
  obtain⟨e,es,rfl,h1,h2,h3⟩:=h
  exact⟨e,es,rfl,D.aX hb k _ h1,D.aX hb x _ h2,a8.mono hb l es h3⟩
theorem zY.mono {B B':Nat->Prop}{w w':World}(hb:∀b,dG w b-> ¬B b->w'.heap[b]? =w.heap[b]? /\ ¬B' b){l:List (D×D)}{last:Option (D×D)}{b:Nat}(hbb:w'.heap[b]? =w.heap[b]?)(h:zY B w l last b):zY B' w' l last b:=by
 rcases h with⟨h1,h2⟩|⟨m,since,seen,es,h1,h2,h3,h4,h5,h6⟩
 ·exact .inl ⟨hbb.trans h1,h2⟩
 ·obtain⟨k1,k2⟩:=hb m (.inr ⟨es,since,h2⟩) h3
  obtain⟨l',h5,xh⟩:=h5
  refine .inr ⟨m,since,seen,es,hbb.trans h1,k1.trans h2,k2,h4,⟨l',h5,a8.mono hb l' _ xh⟩,fun k x e=> ?_⟩
  obtain⟨e,g1,g2,g3,g4⟩:=h6 k x e
  exact⟨e,g1,g2,D.aX hb k _ g3,D.aX hb x _ g4⟩
theorem lL{B:Nat->Prop}{w:World}:∀ (l:List (D×D)) (es:List MapEntry),a8 B w l es↔D.aP B w (l.map (·.1)) (es.map (·.key))/\D.aP B w (l.map (·.2)) (es.map (·.val))
 |[],es=>by
  simp only[a8,List.map_nil,D.aP]
  constructor
  ·rintro rfl;exact⟨rfl,rfl⟩
  ·rintro⟨h,_⟩;simpa using h
 |(k,x)::l,es=>by
  simp only[a8,List.map_cons,D.aP]
  constructor
  ·rintro⟨e,es',rfl,h1,h2,h3⟩
   obtain⟨g1,g2⟩:=(lL l es').1 h3
   exact⟨⟨_,_,rfl,h1,g1⟩,⟨_,_,rfl,h2,g2⟩⟩
  ·rintro⟨⟨u,us,h1,h2,h3⟩,⟨v,vs,h4,h5,h6⟩⟩
   cases es with
   |nil=>simp at h1
   |cons e es'=>
    simp only[List.map_cons,List.cons.injEq]at h1 h4
    obtain⟨rfl,rfl⟩:=h1
    obtain⟨rfl,rfl⟩:=h4
    exact⟨e,es',rfl,h2,h5,(lL l es').2 ⟨h3,h6⟩⟩
theorem D.aM {B:Nat->Prop}{w:World}:∀ (ds:List D) (vs:List Value),D.aP B w ds vs->vs.length=ds.length
 |[],_,h=>by simp[D.aP]at h;simp[h]
 |d::ds,_,h=>by obtain⟨u,us,rfl,_,h2⟩:=h;simp[D.aM ds us h2]
theorem D.dY {B:Nat->Prop}{w:World}:∀ (ds:List D) (vs:List Value) (i:Nat) (d:D),D.aP B w ds vs->ds[i]? =some d->∃v,vs[i]? =some v/\D.den B w d v
 |[],_,_,_,_,hd=>by simp at hd
 |d::ds,_,0,x,h,hd=>by
  obtain⟨u,us,rfl,h1,_⟩:=h
  simp at hd;subst hd;exact⟨u,au,h1⟩
 |d::ds,_,i+1,x,h,hd=>by
  obtain⟨u,us,rfl,_,h2⟩:=h
  simpa using D.dY ds us i x h2 (by simpa using hd)
theorem D.xX {B:Nat->Prop}{w:World}{sz:Nat}{a:Addr}:∀ (es:List D) (i j:Nat) (e:D),D.elems B w sz a i es->es[j]? =some e->
 ∃ev:Value,ev.cells.size=sz/\iy B w (a.add ((i+j)*sz)) ev.cells/\D.den B w e ev
 |[],_,_,_,_,hd=>by simp at hd
 |e::es,i,0,x,h,hd=>by
  simp at hd;subst hd;simpa using h.1
 |e::es,i,j+1,x,h,hd=>by
  have:=D.xX es (i+1) j x h.2 (by simpa using hd)
  simpa[Nat.add_assoc,Nat.add_comm 1 j]using this
section
variable {M:Nat->Prop}{φ aS:Place}{H H':Hp}{w w':World}
theorem Trans.blocks (ht:Trans φ H w aS H' w')(b:Nat)(hc:dG w b)(h: ¬az M φ H b):w'.heap[b]? =w.heap[b]? /\ ¬az M aS H' b:=by
 have hb:=hc.lt
 refine⟨ht.cJ.block b hb fun hl=>h (.inr hl), ?_⟩
 rintro(h1|h1)
 ·exact h (.inl h1)
 ·rcases ht.grow b h1 with h2|h2
  ·exact h (.inr h2)
  ·omega
mutual
theorem V.lM (hb:∀b,dG w b-> ¬az M φ H b->w'.heap[b]? =w.heap[b]? /\ ¬az M aS H' b)(hr:eC φ H aS H'):∀ (x:V) (v:Value),V.den (az M φ H) φ H w x v->V.den (az M aS H') aS H' w' x v
 | .d x,v,h=>D.aX hb x v h
 | .bT,_,h=>h
 | .aa,_,_=>trivial
 | .rP es,v,h=>⟨D.aX hb (.sl es) v h.1,h.2⟩
 | .xW id off n,v,h=>by
   obtain⟨h0,h1,h2⟩:=h
   refine⟨h0,hr.us id h1,fun ck=> ?_⟩
   obtain⟨h3,h4⟩:=hr.row id h1 ck
   obtain⟨b,h5,h6⟩:=h2 h3
   exact⟨b,h4.trans h5,h6⟩
 | .mp id,v,h=>by
   obtain⟨h0,h1,h2⟩:=h
   refine⟨h0,hr.us id h1,fun ck=> ?_⟩
   obtain⟨h3,h4⟩:=hr.row id h1 ck
   exact(h2 h3).trans h4.symm
 | .fm,v,h=>h
 | .j6 id,v,h=>by
   obtain⟨h0,h1,h2⟩:=h
   refine⟨h0,hr.us id h1,fun ck=> ?_⟩
   obtain⟨h3,h4⟩:=hr.row id h1 ck
   obtain⟨b,h5,h6⟩:=h2 h3
   exact⟨b,h4.trans h5,h6⟩
 | .agg cs,_,h=>by obtain⟨a,rfl,h,hf⟩:=h;exact⟨a,rfl,V.gN hb hr cs _ h,hf⟩
 | .cA cs,_,h=>by obtain⟨a,rfl,h⟩:=h;exact⟨a,rfl,V.gN hb hr cs _ h⟩
 | .ptr id off,v,h=>by
   obtain⟨h0,h1,h2⟩:=h
   refine⟨h0,hr.us id h1,fun ck=> ?_⟩
   obtain⟨h3,h4⟩:=hr.row id h1 ck
   obtain⟨b,h5,h6⟩:=h2 h3
   exact⟨b,h4.trans h5,h6⟩
 | .osl id ep,v,h=>by
   obtain⟨h0,h1,h2⟩:=h
   refine⟨h0,hr.us id h1,fun e' o7=> ?_⟩
   obtain⟨e,g1,g2,g3⟩:=hr.ep id e' h1 o7
   obtain⟨h3,h4⟩:=h2 e g1
   refine⟨Nat.le_trans h3 g2,fun heq=> ?_⟩
   rw[g3 (by omega)]
   exact h4 ad
 | .pe id ep i sz off,v,h=>by
   obtain⟨h0,h1,h2⟩:=h
   refine⟨h0,hr.us id h1,fun e' o7=> ?_⟩
   obtain⟨e,g1,g2,g3⟩:=hr.ep id e' h1 o7
   obtain⟨h3,h4⟩:=h2 e g1
   refine⟨Nat.le_trans h3 g2,fun heq=> ?_⟩
   rw[g3 (by omega)]
   exact h4 ad
 | .pp cs off,v,h=>by
   obtain⟨a,ev,h1,h2,h3,h5,h4⟩:=h
   exact⟨a,ev,h1,h2,D.bg hb cs ev h3,h5,h4.mono hb⟩
 | .func fn first cap,_,h=>by
   obtain⟨f,c,rfl,h1,h2⟩:=h
   exact⟨f,c,rfl,V.gN hb hr first _ h1,V.gN hb hr cap _ h2⟩
 | .iface t x,_,h=>by obtain⟨u,rfl,h⟩:=h;exact⟨u,rfl,V.lM hb hr x u h⟩
theorem V.gN (hb:∀b,dG w b-> ¬az M φ H b->w'.heap[b]? =w.heap[b]? /\ ¬az M aS H' b)(hr:eC φ H aS H'):∀ (ds:List V) (vs:List Value),V.aP (az M φ H) φ H w ds vs->V.aP (az M aS H') aS H' w' ds vs
 |[],_,h=>h
 |x::xs,_,h=>by
  obtain⟨u,us,rfl,h1,h2⟩:=h
  exact⟨u,us,rfl,V.lM hb hr x u h1,V.gN hb hr xs us h2⟩
end
theorem V.aX (ht:Trans φ H w aS H' w')(x:V)(v:Value)(h:V.den (az M φ H) φ H w x v):V.den (az M aS H') aS H' w' x v:=V.lM ht.blocks ht.rel x v h
theorem V.bg (ht:Trans φ H w aS H' w')(ds:List V)(vs:List Value)(h:V.aP (az M φ H) φ H w ds vs):V.aP (az M aS H') aS H' w' ds vs:=V.gN ht.blocks ht.rel ds vs h
end
end Go.Proofs.YtonbelhklnmjnaaGreat
namespace Go.Proofs.YtonbelhklnmjnaaGreat
def aK{α:Type}(f:Nat->α)(i:Nat)(x:α):Nat->α:=fun j=>if j=i then x else f j
@[simp] theorem aW {α:Type} (f:Nat->α) (i:Nat) (x:α) (j:Nat):aK f i x j=if j=i then x else f j:=rfl
structure S where
 env:Nat->V
 o:Nat->ae
 nx:Nat
def S.H (s:S):Hp:=⟨s.o,fun id=>id<s.nx⟩
def V.dM:Value->V
 | .int k n=> .d (.int k n)| .bool b=> .d (.bool b)| .string s=> .d (.str s.data.toList)
 | .nilIface=> .d .fK| .pointer none=> .d .mY| .nilFunc=> .d .cj| .map none=> .d .jt
 | .slice none 0 0=> .bT
 |_=> .aa
def Ep:List V->Option (List D)
 |[]=>some []
 | .d x::vs=>(Ep vs).map (x::·)
 |_::_=>none
def mR(cs:List V):V:=match Ep cs with|some ds=> .d (.agg ds)|none=> .agg cs
def V.ofConst:Value->V
 | .agg a=>if a.toList.all Value.oneCell' then mR (a.toList.map V.dM)else .aa
 |v=>V.dM v
def S.ev (s:S):Operand->V
 | .tmp t=>s.env t
 | .const v=>V.ofConst v
 | .func f=> .func (.func f) [] []
 | .global _=> .aa
def D.cells:D->List D
 | .agg cs=>cs
 |x=>[x]
def V.cells:V->Option (List V)
 | .d x=>some (x.cells.map .d)
 | .agg cs=>some cs
 | .cA _| .aa=>none
 |v=>some [v]
mutual
def eu(o:Nat->ae):V->Option D
 | .d x=>some x
 | .bT=>some (.sl [])
 | .rP es=>some (.sl es)
 | .osl id ep=>match o id with
   | .arr ju _ _ es| .tc ju es=>if ep=ju then some (.sl es)else none
   |_=>none
 | .mp id=>match o id with
   | .map _ _ l=>some (.mp (l.map (·.1)) (l.map (·.2)))
   | .iY l=>some (.mp (l.map (·.1)) (l.map (·.2)))
   |_=>none
 | .agg cs=>(cE o cs).map .agg
 | .iface t x=>(eu o x).map (.iface t)
 |_=>none
def cE(o:Nat->ae):List V->Option (List D)
 |[]=>some []
 |v::vs=>(eu o v).bind fun x=>(cE o vs).map (x::·)
end
mutual
def V.ids:V->List Nat
 | .osl id _=>[id]
 | .mp id=>[id]
 | .agg cs=>V.bO cs
 | .iface _ x=>x.ids
 |_=>[]
def V.bO:List V->List Nat
 |[]=>[]
 |v::vs=>v.ids++V.bO vs
end
def dy(o:Nat->ae)(ids:List Nat):List (Nat×ae):=
 ids.map fun id=>(id,match o id with| .arr ep _ _ es=> .tc ep es| .map _ _ l=> .iY l|o=>o)
def sc(o:Nat->ae)(ids:List Nat):List (Nat×ae):=
 ids.filterMap fun id=>match o id with| .arr ep _ _ es=>some (id, .tc ep es)|_=>none
def put(o:Nat->ae)(Δ:List (Nat×ae)):Nat->ae:=Δ.foldl (fun f x=>aK f x.1 x.2) o
def Hp.put (H:Hp)(Δ:List (Nat×ae)):Hp:={o:=YtonbelhklnmjnaaGreat.put H.o Δ,us:=fun id=>H.us id\/id∈Δ.map (·.1)}
def cQ(P:Program)(t:TypeId):Option (List V):=
 match P.info? t with
 |some i=>match i.zero with
  |some z=>if z.cells.size=i.size/\z.cells.toList.all Value.oneCell'=true then some (z.cells.toList.map V.dM)else none
  |none=>none
 |none=>none
def dB(P:Program)(t:TypeId):Option Bool:=
 match P.underlying t with
 |some (.struct _)|some (.array _ _)=>some true
 |some _=>some false
 |none=>none
def cL(P:Program)(t:TypeId)(f:Nat):Option Nat:=
 match P.underlying t with
 |some (.struct fs)=>match fs[f]? with
  |some fd=>if P.cellsOf fd.type=0 then none else some fd.offset
  |none=>none
 |_=>none
def cS(P:Program)(t:TypeId):Option TypeId:=
 match P.underlying t with
 |some (.slice e)=>some e
 |_=>none
def BM(P:Program)(t:TypeId):Option (Nat×TypeId):=
 match P.underlying t with
 |some (.array n e)=>some (n,e)
 |_=>none
def gC(P:Program)(t:TypeId):Option (List (Nat×Nat)):=
 match P.underlying t with
 |some (.struct fs)=>if fs.toList.all (fun f=>(P.info? f.type).isSome)=true then some (fs.toList.map fun f=>(f.offset,P.cellsOf f.type))else none
 |some (.array n e)=>if(P.info? e).isSome=true then some ((List.range n).map fun i=>(i*P.cellsOf e,P.cellsOf e))else none
 |_=>none
def zZ(P:Program)(t:TypeId):Option IntKind:=
 match P.underlying t with
 |some (.int k)=>some k
 |_=>none
def fq(P:Program)(t:TypeId)(cs:List V)(off:Nat):Option V:=
 match dB P t with
 |some true=>if off+P.cellsOf t<=cs.length then some (mR ((cs.drop off).take (P.cellsOf t)))else none
 |some false=>cs[off]?
 |none=>none
def z6(P:Program)(t:TypeId)(cs:List V)(off:Nat)(v:V):Option (List V):=
 match v.cells with
 |some us=>if us.length=P.cellsOf t/\(0<us.length\/(P.info? t).isSome=true)/\off+us.length<=cs.length then some (cs.take off++us++cs.drop (off+us.length))else none
 |none=>none
def te(places:List (Nat×Nat))(cs:List V):List (Nat×V)->Option (List V)
 |[]=>some cs
 |(i,v)::rest=>match places[i]?,v.cells with
  |some (off,size),some us=>if us.length=size/\off+us.length<=cs.length then te places (cs.take off++us++cs.drop (off+us.length)) rest else none
  |_,_=>none
def D.put (e:D)(off:Nat)(us:List D):Option D:=
 match e with
 | .agg cs=>if off+us.length<=cs.length then some (.agg (cs.take off++us++cs.drop (off+us.length)))else none
 |_=>match off,us with
  |0,[u]=>some u
  |_,_=>none
def Zc(op:BinOp)(a b:Int):Option Bool:=
 match op with
 | .eql=>some (a==b)| .neq=>some (a !=b)| .lss=>some (decide (a<b))| .leq=>some (decide (a<=b))
 | .gtr=>some (decide (a>b))| .geq=>some (decide (a≥b))
 |_=>none
def u1(op:BinOp)(k:IntKind)(x y:Int):Option Int:=
 let a:=BitVec.ofInt k.bits x
 let b:=BitVec.ofInt k.bits y
 match op with
 | .and=>some (k.wrap (a&&&b).toNat)
 | .or=>some (k.wrap (a|||b).toNat)
 | .xor=>some (k.wrap (a ^^^ b).toNat)
 | .andNot=>some (k.wrap (a&&& ~~~b).toNat)
 |_=>none
def Oj(op:BinOp)(k:IntKind)(a b:Int)(K:V->Prop):Prop:=
 match op with
 | .add=>K (.d (.int k (k.wrap (a+b))))
 | .sub=>K (.d (.int k (k.wrap (a - b))))
 | .mul=>K (.d (.int k (k.wrap (a*b))))
 | .quo=>b≠0/\K (.d (.int k (k.wrap (a.tdiv b))))
 | .rem=>b≠0/\K (.d (.int k (a.tmod b)))
 | .and| .or| .xor| .andNot=>∃r,u1 op k a b=some r/\K (.d (.int k r))
 | .shl| .shr=>False
 |op=>∃r,Zc op a b=some r/\K (.d (.bool r))
def Kd(P:Program)(t:TypeId)(x y:D)(r:Bool):Prop:=
 ∀ (B:Nat->Prop) (w:World) (u v:Value),D.den B w x u->D.den B w y v->(Op.equal t u v).run P w= .ok r w/\∀ (op:BinOp) (a b:Operand),(eqGuard op t a b u v).run P w= .ok () w
def Ke(P:Program)(op:BinOp)(t:TypeId)(x y:V)(K:V->Prop):Prop:=
 match x,y with
 | .d (.int k a), .d (.int k' b)=>k=k'/\Oj op k a b K
 | .d (.bool a), .d (.bool b)=>match op with
   | .eql=>P.underlying t=some .bool/\K (.d (.bool (a==b)))
   | .neq=>P.underlying t=some .bool/\K (.d (.bool (a !=b)))
   |_=>False
 | .d (.str a), .d (.str b)=>match op with
   | .eql=>K (.d (.bool (a==b)))
   | .neq=>K (.d (.bool (a !=b)))
   |_=>False
 | .d (.agg a), .d (.agg b)=>match op with
   | .eql=>∃r,Kd P t (.agg a) (.agg b) r/\K (.d (.bool r))
   | .neq=>∃r,Kd P t (.agg a) (.agg b) r/\K (.d (.bool !r))
   |_=>False
 |_,_=>False
def Zd(op:UnOp)(x:V)(K:V->Prop):Prop:=
 match op,x with
 | .neg, .d (.int k n)=>K (.d (.int k (k.wrap (0 - n))))
 | .not, .d (.bool b)=>K (.d (.bool !b))
 |_,_=>False
def BN(c a b:V)(K:V->Prop):Prop:=
 match c with
 | .d (.bool t)=>(t=true->K a)/\(t=false->K b)
 |_=>False
def Kg(P:Program)(t:TypeId)(o:Nat->ae)(x:V)(K:V->List Nat->Prop):Prop:=
 match P.underlying t with
 |some (.slice _)=>match x with
  | .d (.sl es)=>K (.d (.int .i64 es.length)) []
  | .bT=>K (.d (.int .i64 0)) []
  | .rP es=>K (.d (.int .i64 es.length)) []
  | .osl id ep=>match o id with
    | .arr ju _ _ es| .tc ju es=>ep=ju/\K (.d (.int .i64 es.length)) [id]
    |_=>False
  |_=>False
 |some .string=>match x with
  | .d (.str s)=>K (.d (.int .i64 s.length)) []
  |_=>False
 |some (.array n _)=>K (.d (.int .i64 n)) []
 |_=>False
def kn(P:Program)(o:Nat->ae)(t:TypeId)(x ix:V)(K:V->List Nat->Prop):Prop:=
 match ix with
 | .d (.int _ i)=>match cS P t with
   |some e=>match x with
    | .d (.sl es)=>0<=i/\∃y,es[i.toNat]? =some y/\y.cells.length=P.cellsOf e/\0<P.cellsOf e/\K (.pp y.cells 0) []
    | .rP es=>0<=i/\∃y,es[i.toNat]? =some y/\y.cells.length=P.cellsOf e/\0<P.cellsOf e/\K (.pp y.cells 0) []
    | .osl id ep=>match o id with
      | .arr ju _ sz es=>ep=ju/\0<=i/\i.toNat<es.length/\sz=P.cellsOf e/\0<P.cellsOf e/\K (.pe id ep i.toNat sz 0) [id]
      | .tc ju es=>ep=ju/\0<=i/\∃y,es[i.toNat]? =some y/\y.cells.length=P.cellsOf e/\0<P.cellsOf e/\K (.pp y.cells 0) [id]
      |_=>False
    |_=>False
   |none=>match BM P t with
    |some (n,e)=>0<=i/\i<n/\(P.info? e).isSome=true/\(match x with
     | .ptr id off=>(o id).cK=true/\K (.ptr id (off+i.toNat*P.cellsOf e)) []
     | .pp cs off=>K (.pp cs (off+i.toNat*P.cellsOf e)) []
     | .pe id ep j sz off=>(o id).cH=some ep/\K (.pe id ep j sz (off+i.toNat*P.cellsOf e)) []
     |_=>False)
    |none=>False
 |_=>False
def ko(P:Program)(o:Nat->ae)(t:TypeId)(x:V)(f:Nat)(K:V->Prop):Prop:=
 match cL P t f with
 |some q=>match x with
  | .ptr id off=>(o id).cK=true/\K (.ptr id (off+q))
  | .pp cs off=>K (.pp cs (off+q))
  | .pe id ep j sz off=>(o id).cH=some ep/\K (.pe id ep j sz (off+q))
  |_=>False
 |none=>False
def BO(P:Program)(o:Nat->ae)(t:TypeId)(x:V)(K:V->List Nat->Prop):Prop:=
 match x with
 | .ptr id off=>match o id with
   | .row cs=>∃v,fq P t cs off=some v/\K v [id]
   |_=>False
 | .pp cs off=>∃v,fq P t (cs.map .d) off=some v/\K v []
 | .pe id ep i sz off=>match o id with
   | .arr ju _ rQ es=>ep=ju/\sz=rQ/\∃e,es[i]? =some e/\∃v,fq P t (e.cells.map .d) off=some v/\K v [id]
   |_=>False
 |_=>False
def u3(P:Program)(o:Nat->ae)(t:TypeId)(x v:V)(K:List (Nat×ae)->List Nat->Prop):Prop:=
 match x with
 | .ptr id off=>match o id with
   | .row cs=>∃cs',z6 P t cs off v=some cs'/\K [(id, .row cs')] [id]
   |_=>False
 | .pe id ep i rQ off=>match o id with
   | .arr ju ty sz es=>ep=ju/\rQ=sz/\∃e,es[i]? =some e/\∃y,eu o v=some y/\y.cells.length=P.cellsOf t/\0<y.cells.length/\v.ids.all (· !=id)=true/\
    ∃e',e.put off y.cells=some e'/\K (dy o v.ids++[(id, .arr ep ty sz (es.set i e'))]) (id::v.ids)
   |_=>False
 |_=>False
def jv(P:Program)(o:Nat->ae)(fr:Nat)(t:TypeId)(len:Nat)(parts:List (Nat×V))(K:V->List (Nat×ae)->List Nat->Prop):Prop:=
 match cS P t with
 |some e=>(len=0/\parts=[]/\0<P.cellsOf e/\K (.osl fr 0) [(fr, .arr 0 e (P.cellsOf e) [])] [])\/(parts.map (·.1)=List.range len)/\(cQ P e).isSome=true/\0<len/\0<P.cellsOf e/\len*P.cellsOf e<=2^24/\
  ∃ds,cE o (parts.map (·.2))=some ds/\(∀x∈ds,x.cells.length=P.cellsOf e)/\
   K (.osl fr 0) (dy o (V.bO (parts.map (·.2)))++[(fr, .arr 0 e (P.cellsOf e) ds)]) (V.bO (parts.map (·.2)))
 |none=>False
def BP(P:Program)(e:TypeId):Option D:=
 match cQ P e with
 |some z=>match cE (fun _=> .no) z,dB P e with
  |some ds,some true=>some (.agg ds)
  |some [x],some false=>some x
  |_,_=>none
 |none=>none
def kp(P:Program)(fr:Nat)(t:TypeId)(l c:V)(K:V->List (Nat×ae)->Prop):Prop:=
 match cS P t,l,c with
 |some e, .d (.int _ n), .d (.int _ m)=>n=m/\0<=n/\0<P.cellsOf e/\P.bytesOf e*n.toNat<=2^47/\n.toNat<=2^47/\
  ∃x,BP P e=some x/\K (.osl fr 0) [(fr, .arr 0 e (P.cellsOf e) (List.replicate n.toNat x))]
 |_,_,_=>False
def ft(o:Nat->ae)(x:V):Option (List D):=
 match eu o x with
 |some (.sl es)=>some es
 |_=>none
def qu(P:Program)(o:Nat->ae)(fr:Nat)(ts:Array TypeId)(x y:V)(K:V->List (Nat×ae)->List Nat->Prop):Prop:=
 match ts.toList with
 |[t,t']=>t=t'/\(match cS P t with
  |some e=>∃new,ft o y=some new/\0<P.cellsOf e/\(cQ P e).isSome=true/\(∀z∈new,z.cells.length=P.cellsOf e)/\(match x with
   | .bT=>new.length<=2^47/\new.length*P.bytesOf e<=2^47/\K (.osl fr 0) [(fr, .arr 0 e (P.cellsOf e) new)] y.ids
   | .rP es=>(∀z∈es,z.cells.length=P.cellsOf e)/\(if new=[]then K (.rP es) [] y.ids else es.length+new.length<=2^40/\(es.length+new.length)*P.bytesOf e<=2^40/\K (.osl fr 0) [(fr, .arr 0 e (P.cellsOf e) (es++new))] y.ids)
   | .osl id ep=>match o id with
     | .arr ju ty sz es=>ep=ju/\ty=e/\sz=P.cellsOf e/\es.length+new.length<=2^47/\(es.length+new.length)*P.bytesOf e<=2^47/\
      K (.osl id (ep+1)) [(id, .arr (ep+1) ty sz (es++new))] (id::y.ids)
     |_=>False
   |_=>False)
  |none=>False)
 |_=>False
def oz(isMax:Bool)(args:List V)(K:V->Prop):Prop:=
 match args with
 |[.d (.int k a), .d (.int k' b)]=>k=k'/\K (.d (.int k (if isMax then(if b>a then b else a)else(if b<a then b else a))))
 |_=>False
def lN(o:Nat->ae)(x:V)(K:V->Prop):Prop:=
 match x with
 | .ptr id off=>(o id).cK=true/\K (.ptr id off)
 | .pp cs off=>K (.pp cs off)
 | .func (.func f) first cap=>K (.func (.func f) first cap)
 |_=>False
def kq(P:Program)(t:TypeId)(xs:List D)(off:Nat):Option D:=
 match dB P t with
 |some true=>if off+P.cellsOf t<=xs.length then some (.agg ((xs.drop off).take (P.cellsOf t)))else none
 |some false=>xs[off]?
 |none=>none
inductive adD where
 |int|bool|str|struct (fs:List (TypeId×Nat))|arr (n:Nat) (e:TypeId)
def cy(P:Program)(t:TypeId):Option adD:=
 match P.underlying t with
 |some (.int _)=>some .int
 |some .bool=>some .bool
 |some .string=>some .str
 |some (.struct fs)=>if(!P.stoodInHeld t&&fs.toList.all (fun f=>f.name != "_"))=true then some (.struct (fs.toList.map fun f=>(f.type,f.offset)))else none
 |some (.array n e)=>if(P.info? e).isSome=true then some (.arr n e)else none
 |_=>none
def Kh(a b:Option Bool):Option Bool:=
 match a,b with
 |some a,some b=>some (a&&b)
 |_,_=>none
def BQ(f:TypeId->Nat->Option Bool):List (TypeId×Nat)->Option Bool
 |[]=>some true
 |x::l=>Kh (f x.1 x.2) (BQ f l)
def FT(f:Nat->Option Bool):Nat->Nat->Option Bool
 |0,_=>some true
 |n+1,i=>Kh (f i) (FT f n (i+1))
def Ui(f:D->D->Option Bool)(x y:Option D):Option Bool:=
 match x,y with
 |some x,some y=>f x y
 |_,_=>none
def rR(P:Program):Nat->TypeId->D->D->Option Bool
 |0,_,_,_=>none
 |d+1,t,x,y=>match cy P t with
  |some .int=>match x,y with| .int k a, .int k' b=>if k=k' then some (a==b)else none|_,_=>none
  |some .bool=>match x,y with| .bool a, .bool b=>some (a==b)|_,_=>none
  |some .str=>match x,y with| .str a, .str b=>some (a==b)|_,_=>none
  |some (.struct fs)=>match x,y with
   | .agg xs, .agg ys=>BQ (fun u off=>Ui (rR P d u) (kq P u xs off) (kq P u ys off)) fs
   |_,_=>none
  |some (.arr n e)=>match x,y with
   | .agg xs, .agg ys=>FT (fun i=>Ui (rR P d e) (kq P e xs (i*P.cellsOf e)) (kq P e ys (i*P.cellsOf e))) n 0
   |_,_=>none
  |none=>none
abbrev gO:=V×List (Nat×ae)×List Nat
def dA(x:Option gO)(K:V->List (Nat×ae)->List Nat->Prop):Prop:=
 match x with
 |some (v,Δ,rd)=>K v Δ rd
 |none=>False
def HK(x:Option V)(adE:Nat):Option Nat:=
 match x with
 |none=>some adE
 |some (.d (.int _ i))=>if 0<=i then some i.toNat else none
 |_=>none
def pA(o:Nat->ae)(x:V):Option (Nat×Nat):=
 match x with
 | .ptr id off=>if(o id).cK=true then some (id,off)else none
 |_=>none
def pB(o:Nat->ae)(x:V):Option (Nat×Nat×Nat×List V):=
 match x with
 | .xW id off n=>match o id with
   | .row cs=>some (id,off,n,cs)
   |_=>none
 |_=>none
def Er(P:Program)(o:Nat->ae)(t:TypeId)(x:V)(lo hi mx:Option V):Option gO:=
 match x with
 | .bT=>match lo,hi,mx with
   |none,some (.d (.int _ k)),none=>match cS P t with
    |some e=>if k=0/\(P.info? e).isSome=true then some (.bT,[],[])else none
    |none=>none
   |_,_,_=>none
 | .osl id ep=>match lo,hi,mx with
   |none,some (.d (.int _ k)),none=>match cS P t,o id with
    |some e, .arr ju ty sz _=>if k=0/\ep=ju/\(P.info? e).isSome=true then some (.osl id (ep+1),[(id, .arr (ep+1) ty sz [])],[id])else none
    |_,_=>none
   |_,_,_=>none
 |_=>none
def qv(P:Program)(o:Nat->ae)(t:TypeId)(x:V)(lo hi mx:Option V):Option gO:=
 match cS P t with
 |some e=>match ft o x,HK lo 0 with
  |some es,some l=>match HK hi es.length with
   |some h=>if l<=h/\h<=es.length/\(P.info? e).isSome=true/\(l=0\/es.all (fun y=>y.cells.length==P.cellsOf e)=true)then match mx with
    |none=>some (.d (.sl ((es.take h).drop l)),dy o x.ids,x.ids)
    |some m=>match hi,HK (some m) 0 with
     |some _,some m=>if h<=m/\m<=es.length then some (if h=m then .rP ((es.take h).drop l)else .d (.sl ((es.take h).drop l)),dy o x.ids,x.ids)else none
     |_,_=>none
    else none
   |none=>none
  |_,_=>none
 |none=>match BM P t,lo,hi,mx with
  |some (n,e),none,none,none=>match pA o x with
   |some (id,off)=>if(P.info? e).isSome=true then some (.xW id off n,[],[id])else none
   |none=>none
  |_,_,_,_=>none
def sd(P:Program)(o:Nat->ae)(t:TypeId)(x:V)(lo hi mx:Option V):Option gO:=
 match Er P o t x lo hi mx with
 |some r=>some r
 |none=>qv P o t x lo hi mx
def xY(P:Program)(o:Nat->ae)(ts:Array TypeId)(x y:V):Option gO:=
 match ts.toList with
 |[t,_]=>match cS P t with
  |some e=>match pB o x,ft o y with
   |some (id,off,n,cs),some es=>if P.cellsOf e=1/\off+n<=cs.length/\es.all (fun z=>z.cells.length==1)=true/\y.ids.all (· !=id)=true then
    some (.d (.int .i64 ((min es.length n:Nat):Int)),dy o y.ids++[(id, .row (cs.take off++((es.take n).flatMap D.cells).map .d++cs.drop (off+(es.take n).length)))],id::y.ids)else none
   |_,_=>none
  |none=>none
 |_=>none
def z7(P:Program)(t:TypeId)(f:Nat):Option (Nat×TypeId):=
 match P.underlying t with
 |some (.struct fs)=>match fs[f]? with
  |some fd=>some (fd.offset,fd.type)
  |none=>none
 |_=>none
def u4(P:Program)(t:TypeId)(x:V)(f:Nat):Option V:=
 match z7 P t f with
 |some (off,u)=>match x with
  | .d (.agg cs)=>(kq P u cs off).map .d
  | .agg cs=>fq P u cs off
  |_=>none
 |none=>none
def u5(P:Program)(t:TypeId)(x i:V):Option V:=
 match i with
 | .d (.int _ i)=>if 0<=i then match P.underlying t with
  |some .string=>match x with
   | .d (.str s)=>match s[i.toNat]? with
     |some b=>some (.d (.int .u8 b.toNat))
     |none=>none
   |_=>none
  |some (.array n e)=>if i<n/\(P.info? e).isSome=true then match x with
   | .d (.agg cs)=>(kq P e cs (i.toNat*P.cellsOf e)).map .d
   | .agg cs=>fq P e cs (i.toNat*P.cellsOf e)
   |_=>none
   else none
  |_=>none
   else none
 |_=>none
def pC(P:Program)(t:TypeId):Bool:=
 match P.underlying t with
 |some (.interface _)=>false
 |some _=>true
 |none=>false
def zeroV(P:Program)(t:TypeId):Option V:=
 match P.info? t with
 |some i=>match i.zero with
  |some (.agg a)=>if a.toList.all Value.oneCell'=true then some (mR (a.toList.map V.dM))else none
  |some v=>if v.oneCell'=true then some (V.dM v)else none
  |none=>none
 |none=>none
def qw(P:Program)(t:TypeId)(ok:Bool)(x:V):Option V:=
 if pC P t=true then match x with
  | .d (.iface u y)=>if u=t then some (if ok=true then .cA [.d y, .d (.bool true)]else .d y)
   else if ok=true then(zeroV P t).map fun z=> .cA [z, .d (.bool false)]else none
  | .d .fK=>if ok=true then(zeroV P t).map fun z=> .cA [z, .d (.bool false)]else none
  |_=>none
 else none
def BR(o:Nat->ae)(x:V):Option V:=
 match x with
 | .bT=>some (.d (.bool true))
 |x=>match ft o x with
  |some es=>some (if es=[]then .fm else .d (.bool false))
  |none=>none
def isConst:Operand->Bool
 | .const _=>true
 |_=>false
def Ol:V->Option V
 | .d (.bool b)=>some (.d (.bool !b))
 | .fm=>some .fm
 |_=>none
def se(o:Nat->ae)(x:V):Option V:=
 match x with
 | .d .jt=>some (.d (.bool true))
 | .d (.mp _ _)=>some (.d (.bool false))
 | .mp id=>match o id with| .map _ _ _=>some (.d (.bool false))| .iY _=>some (.d (.bool false))|_=>none
 |_=>none
def si(o:Nat->ae)(x:V):Option V:=
 match x with
 | .d .mY=>some (.d (.bool true))
 | .ptr id _=>if(o id).cK=true then some (.d (.bool false))else none
 | .pp _ _=>some (.d (.bool false))
 |_=>none
def eqI(P:Program)(a b:TypeId)(x y:D):Option Bool:=
 if a=b then(match P.info? a,P.underlying a with
  |some i,some (.int _)=>if i.comparable=true then(match x,y with
   | .int k m, .int k' n=>if k=k' then some (m==n)else none
   |_,_=>none)else none
  |_,_=>none)
 else some false
def qx(P:Program)(o:Nat->ae)(t:TypeId)(pD:Bool)(x y:V):Option V:=
 match P.underlying t with
 |some (.interface _)=>match x,y with
  | .d .fK, .d .fK=>if pD=true then some (.d (.bool true))else none
  | .d (.iface _ _), .d .fK| .iface _ _, .d .fK| .d .fK, .d (.iface _ _)| .d .fK, .iface _ _=>some (.d (.bool false))
  | .d (.iface a x), .d (.iface b y)=>(eqI P a b x y).map fun r=> .d (.bool r)
  |_,_=>none
 |some (.func _ _ _)=>match x,y with
  | .d .cj, .d .cj=>some (.d (.bool true))
  | .func _ _ _, .d .cj=>some (.d (.bool false))
  |_,_=>none
 |some (.map _ _)=>match y with
  | .d .jt=>se o x
  |_=>none
 |some (.pointer _)=>match y with
  | .d .mY=>si o x
  |_=>none
 |some (.slice _)=>match y with
  | .bT=>BR o x
  |_=>none
 |some (.struct _)|some (.array _ _)=>match x,y with
  | .d (.agg cF), .d (.agg bs)=>if P.eqGuardType P.depth t=false then(rR P 100 t (.agg cF) (.agg bs)).map fun r=> .d (.bool r)else none
  |_,_=>none
 |_=>none
def sj(P:Program)(o:Nat->ae)(op:BinOp)(t:TypeId)(pD:Bool)(x y:V):Option gO:=
 match op with
 | .eql=>(qx P o t pD x y).map fun v=>(v,[],[])
 | .neq=>((qx P o t pD x y).bind Ol).map fun v=>(v,[],[])
 |_=>none
mutual
def D.same:D->D->Bool
 | .int k a, .int j b=>k==j&&a==b
 | .bool a, .bool b=>a==b
 | .str a, .str b=>a==b
 | .fK, .fK| .mY, .mY| .cj, .cj| .jt, .jt=>true
 | .agg cF, .agg bs=>D.gY cF bs
 | .sl cF, .sl bs=>D.gY cF bs
 | .iface t a, .iface u b=>t==u&&a.same b
 | .mp ks vs, .mp ks' vs'=>D.gY ks ks'&&D.gY vs vs'
 |_,_=>false
def D.gY:List D->List D->Bool
 |[],[]=>true
 |a::cF,b::bs=>a.same b&&D.gY cF bs
 |_,_=>false
end
def qy(P:Program)(t:TypeId):Option (TypeId×TypeId):=
 match P.underlying t with
 |some (.map k v)=>some (k,v)
 |_=>none
def oU(P:Program):Nat->TypeId->D->Bool
 |0,_,_=>false
 |d+1,t,x=>match cy P t with
  |some .int|some .bool|some .str=>true
  |some (.struct fs)=>match x with
   | .agg xs=>fs.all fun f=>match kq P f.1 xs f.2 with|some y=>oU P d f.1 y|none=>false
   |_=>false
  |some (.arr n e)=>match x with
   | .agg xs=>(List.range n).all fun i=>match kq P e xs (i*P.cellsOf e)with|some y=>oU P d e y|none=>false
   |_=>false
  |none=>false
def findD(P:Program)(kt:TypeId)(k:D):List (D×D)->Nat->Option (Option (Nat×D×D))
 |[],_=>some none
 |(k',x)::l,i=>match rR P 100 kt k k' with
  |some true=>some (some (i,k',x))
  |some false=>findD P kt k l (i+1)
  |none=>none
def o8:D->Bool
 | .int _ _| .bool _| .str _=>true
 |_=>false
def lz:D->Bool
 | .agg cs=>cs.all o8
 |x=>o8 x
def o9(o:Nat->ae)(m:V):Option (Option (Nat×TypeId×TypeId)×List (D×D)):=
 match m with
 | .mp id=>match o id with
   | .map kt vt l=>some (some (id,kt,vt),l)
   |_=>none
 | .d .jt=>some (none,[])
 |_=>none
def qz(o:Nat->ae)(m:V):Option (List Nat×List (D×D)):=
 match m with
 | .mp id=>match o id with
   | .map _ _ l=>some ([id],l)
   | .iY l=>some ([id],l)
   |_=>none
 | .d .jt=>some ([],[])
 | .d (.mp ks vs)=>some ([],ks.zip vs)
 |_=>none
def adF(r:Option (Nat×TypeId×TypeId)):List Nat:=match r with|some p=>[p.1]|none=>[]
def jr(P:Program)(o:Nat->ae)(t:TypeId)(m k:V)(ok:Bool):Option gO:=
 match qy P t,eu o k,qz o m with
 |some (kt,vt),some kd,some (rd,l)=>if k.ids=[]/\oU P 100 kt kd=true then match findD P kt kd l 0 with
  |some (some (_,_,x))=>some (if ok=true then .cA [.d x, .d (.bool true)]else .d x,[],rd)
  |some none=>match zeroV P vt with
   |some z=>some (if ok=true then .cA [z, .d (.bool false)]else z,[],rd)
   |none=>none
  |none=>none
  else none
 |_,_,_=>none
def gD(P:Program)(o:Nat->ae)(t:TypeId)(m k v:V):Option gO:=
 match qy P t,eu o k,eu o v,o9 o m with
 |some (kt,_),some kd,some vd,some (some (id,FU,FV),l)=>if k.ids=[]/\oU P 100 kt kd=true/\lz kd=true/\v.ids.all (· !=id)=true then match findD P kt kd l 0 with
  |some (some (i,k',_))=>if k'.same kd=true then some (.cA [],dy o v.ids++[(id, .map FU FV (l.set i (kd,vd)))],id::v.ids)else none
  |some none=>some (.cA [],dy o v.ids++[(id, .map FU FV (l++[(kd,vd)]))],id::v.ids)
  |none=>none
  else none
 |_,_,_,_=>none
def nr(P:Program)(fr:Nat)(t:TypeId):Option gO:=
 match qy P t with
 |some (kt,vt)=>some (.mp fr,[(fr, .map kt vt [])],[])
 |none=>none
def ns(P:Program)(o:Nat->ae)(fr:Nat)(t:TypeId)(x:V):Option gO:=
 match P.underlying t with
 |some .string=>match x with
  | .d (.str s)=>some (.ptr fr 0,[(fr, .zX s 0)],[])
  |_=>none
 |some (.map _ _)=>match x with
  | .d .jt=>some (.ptr fr 0,[(fr, .nq [] none)],[])
  | .d (.mp ks vs)=>some (.ptr fr 0,[(fr, .nq (ks.zip vs) none)],[])
  | .mp id=>match o id with
    | .map _ _ l=>some (.ptr fr 0,[(id, .iY l),(fr, .nq l none)],[id])
    | .iY l=>some (.ptr fr 0,[(fr, .nq l none)],[id])
    |_=>none
  |_=>none
 |_=>none
def pc(o:Nat->ae)(x:V)(str:Bool):Option gO:=
 match x with
 | .ptr id 0=>match o id with
   | .zX s pos=>if str=true then
    (if pos<s.length then some (.cA [.d (.bool true), .d (.int .i64 pos), .d (.int .i32 (Utf8.decode ⟨⟨s⟩⟩ pos).1)],[(id, .zX s (pos+(Utf8.decode ⟨⟨s⟩⟩ pos).2))],[id])else some (.cA [.d (.bool false)],[],[id]))
     else none
   |_=>none
 |_=>none
def pg(o:Nat->ae)(x:V):Option (Nat×List (D×D)):=
 match x with
 | .ptr id 0=>match o id with
   | .nq l _=>some (id,l)
   |_=>none
 |_=>none
def FW(id:Nat)(l:List (D×D))(K:V->List (Nat×ae)->List Nat->Prop):Prop:=
 (l=[]->K (.cA [.d (.bool false)]) [] [id])/\∀i k x,l[i]? =some (k,x)->K (.cA [.d (.bool true), .d k, .d x]) [(id, .nq (l.eraseIdx i) (some (k,x)))] [id]
def nu(o:Nat->ae)(x:V):Option gO:=
 match x with
 | .ptr id 0=>match o id with
   | .nq _ (some (k,x))=>some (.cA [.d k, .d x],[],[id])
   |_=>none
 |_=>none
def oA(P:Program)(o:Nat->ae)(t:TypeId)(m k:V):Option gO:=
 match qy P t,eu o k,o9 o m with
 |some (kt,_),some kd,some (some (id,FU,FV),l)=>if k.ids=[]/\oU P 100 kt kd=true then match findD P kt kd l 0 with
  |some (some (i,_,_))=>some (.cA [],[(id, .map FU FV (l.eraseIdx i))],[id])
  |some none=>some (.cA [],[],[id])
  |none=>none
  else none
 |_,_,_=>none
def Ki(x y z:V):Option V:=
 match x,y,z with
 | .d (.int k a), .d (.int k' b), .d (.int k'' c)=>if k=k'/\k=k'' then some (.d (.int k (if c>(if b>a then b else a)then c else(if b>a then b else a))))else none
 |_,_,_=>none
def Om(P:Program)(ts:Array TypeId)(x:V):Option gO:=
 match ts.toList with
 |[t]=>match cS P t with
  |some _=>match x with
   | .bT=>some (.d (.int .i64 0),[],[])
   |_=>none
  |none=>none
 |_=>none
def xZ(P:Program)(fr:Nat)(ts:Array TypeId)(x y:V):Option gO:=
 match ts.toList with
 |[t,t']=>if t=t' then none else match cS P t with
  |some e=>match zZ P t',x,y with
   |some _, .bT, .d (.int _ n)=>if 0<n/\0<P.cellsOf e/\n.toNat*P.bytesOf e<=2^40/\n.toNat<=2^40 then match BP P e with
    |some z=>some (.osl fr 0,[(fr, .arr 0 e (P.cellsOf e) (List.replicate n.toNat z))],[])
    |none=>none
    else none
   |_,_,_=>none
  |none=>none
 |_=>none
def u6(P:Program)(s:S)(fr:Nat)(b:Builtin)(args:List Operand)(ts:Array TypeId)(K:V->List (Nat×ae)->List Nat->Prop):Prop:=
 match b,args with
 | .len,[x]=>∃t,ts.toList=[t]/\Kg P t s.o (s.ev x) fun v rd=>K v [] rd
 | .append,[x,y]=>dA (xZ P fr ts (s.ev x) (s.ev y)) K\/qu P s.o fr ts (s.ev x) (s.ev y) K
 | .max,[x,y]=>oz true [s.ev x,s.ev y] fun v=>K v [] []
 | .min,[x,y]=>oz false [s.ev x,s.ev y] fun v=>K v [] []
 | .max,[x,y,z]=>dA ((Ki (s.ev x) (s.ev y) (s.ev z)).map fun v=>(v,[],[])) K
 | .copy,[x,y]=>dA (xY P s.o ts (s.ev x) (s.ev y)) K
 | .delete,[x,y]=>∃t,ts.toList.head?=some t/\dA (oA P s.o t (s.ev x) (s.ev y)) K
 | .cap,[x]=>dA (Om P ts (s.ev x)) K
 |_,_=>False
def QO(P:Program)(s:S)(fr:Nat)(op:Op)(K:V->List (Nat×ae)->List Nat->Prop):Prop:=
 match op with
 | .move x| .assign x=>K (s.ev x) [] []
 | .pick c a b=>BN (s.ev c) (s.ev a) (s.ev b) fun v=>K v [] []
 | .alloc t=>∃cs,cQ P t=some cs/\K (.ptr fr 0) [(fr, .row cs)] []
 | .box _ x=>∃cs,(s.ev x).cells=some cs/\K (.ptr fr 0) [(fr, .row cs)] []
 | .build t parts=>∃z pl cs,cQ P t=some z/\gC P t=some pl/\te pl z (parts.toList.map fun p=>(p.1,s.ev p.2))=some cs/\K (mR cs) [] []
 | .buildSlice t len parts=>jv P s.o fr t len (parts.toList.map fun p=>(p.1,s.ev p.2)) K
 | .load t x=>BO P s.o t (s.ev x) fun v rd=>K v [] rd
 | .store t x v=>u3 P s.o t (s.ev x) (s.ev v) fun Δ rd=>K (.cA []) Δ rd
 | .nilCheck x=>lN s.o (s.ev x) fun v=>K v [] []
 | .binOp op t x y _=>Ke P op t (s.ev x) (s.ev y) (fun v=>K v [] [])\/dA (sj P s.o op t (isConst x||isConst y) (s.ev x) (s.ev y)) K
 | .unOp op _ x=>Zd op (s.ev x) (fun v=>K v [] [])\/(op= .not/\s.ev x= .fm/\K .fm [] [])
 | .convert u t x=>(P.underlying u).isSome=true/\(match zZ P t,s.ev x with
   |some k, .d (.int _ n)=>K (.d (.int k (k.wrap n))) [] []
   |_,_=>False)
 | .makeInterface t x=>(∃d,P.underlying t=some d/\(match d with| .interface _=>false|_=>true)=true)/\(match s.ev x with
   | .d y=>K (.d (.iface t y)) [] []
   |v=>K (.iface t v) [] [])
 | .makeFunc fn first cap=>K (.func fn (first.toList.map s.ev) (cap.toList.map s.ev)) [] []
 | .makeSlice t l c=>kp P fr t (s.ev l) (s.ev c) fun v Δ=>K v Δ []
 | .fieldAddr t x f=>ko P s.o t (s.ev x) f fun v=>K v [] []
 | .indexAddr t x i=>kn P s.o t (s.ev x) (s.ev i) fun v rd=>K v [] rd
 | .extract x i=>match s.ev x with
   | .cA vs=>∃v,vs[i]? =some v/\K v [] []
   |_=>False
 | .slice t x lo hi mx=>dA (sd P s.o t (s.ev x) (lo.map s.ev) (hi.map s.ev) (mx.map s.ev)) K
 | .field t x f=>dA ((u4 P t (s.ev x) f).map fun v=>(v,[],[])) K
 | .index t x i=>dA ((u5 P t (s.ev x) (s.ev i)).map fun v=>(v,[],[])) K
 | .makeMap t none=>dA (nr P fr t) K
 | .lookup t m k ok=>dA (jr P s.o t (s.ev m) (s.ev k) ok) K
 | .mapUpdate t m k v=>dA (gD P s.o t (s.ev m) (s.ev k) (s.ev v)) K
 | .insert t m k v=>dA (gD P s.o t (s.ev m) (s.ev k) (s.ev v)) K
 | .range t x=>dA (ns P s.o fr t (s.ev x)) K
 | .next x str=>dA (pc s.o (s.ev x) str) K\/(str=false/\∃id l,pg s.o (s.ev x)=some (id,l)/\FW id l K)
 | .entry x=>dA (nu s.o (s.ev x)) K
 | .typeAssert x _ t ok=>dA ((qw P t ok (s.ev x)).map fun v=>(v,[],[])) K
 | .call c=>match c.callee with
   | .builtin b=>u6 P s fr b c.args.toList c.argTypes K
   |_=>False
 |_=>False
end Go.Proofs.YtonbelhklnmjnaaGreat
