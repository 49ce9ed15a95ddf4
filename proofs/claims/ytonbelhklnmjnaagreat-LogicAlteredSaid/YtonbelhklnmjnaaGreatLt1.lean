/-
  A PART OF THE PROOF. Conditions: none.
-/
import Derived.WalkKit
import Derived.Below
set_option linter.unusedSimpArgs false
set_option linter.unusedVariables false
namespace Go.Proofs.YtonbelhklnmjnaaGreat
theorem aJ{G G':Prop}(g:G')(h:G=G':=by simp+contextual (disch:=first|omega|simp only[go_sem,false_implies]) only[go_sem,wrap64,if_pos,and_self]<;>rfl):G:=Eq.mpr h g
theorem cI{G:Prop}(h:G:=by simp+contextual (disch:=first|omega|simp only[go_sem,false_implies]) only[go_sem,wrap64,if_pos,and_self]):G:=h
theorem iL{G G':Prop}(g:G')(h:G=G':=by simp+contextual (disch:=first|omega|simp only[go_sem,false_implies]) only[go_sem,wrap64,if_pos,Nat.add_assoc,Nat.left_eq_add,Nat.add_eq_left,Nat.add_left_cancel_iff]<;>rfl):G:=Eq.mpr h g
theorem eG{P0 G G':Prop}(p0:P0)(g:G')(h:P0->G=G':=by intro p0;simp+contextual (disch:=first|omega|simp only[go_sem,false_implies]) only[go_sem,wrap64,if_pos,List.length_map,p0]<;>rfl):G:=Eq.mpr (h p0) g
theorem dD{P0 G G':Prop}(p0:P0)(g:G')(h:P0->G=G':=by intro p0;simp+contextual (disch:=first|omega|simp only[go_sem,false_implies]) only[go_sem,wrap64,if_pos,p0]<;>rfl):G:=Eq.mpr (h p0) g
theorem jk{G G':Prop}(g:G')(h:G=G':=by simp+contextual (disch:=first|omega|simp only[go_sem,false_implies]) only[go_sem,wrap64,if_pos,List.length_map]<;>rfl):G:=Eq.mpr h g
theorem oo{P0 P1 G G':Prop}(p0:P0)(p1:P1)(g:G')(h:P0->P1->G=G':=by intro p0 p1;simp+contextual (disch:=first|omega|simp only[go_sem,false_implies]) only[go_sem,wrap64,if_pos,List.length_map,p0,p1]<;>rfl):G:=Eq.mpr (h p0 p1) g
theorem b9{G G':Prop}(g:G')(h:G=G':=by simp+contextual only[go_sem]<;>rfl):G:=Eq.mpr h g
theorem ud{P0 P1 G G':Prop}(p0:P0)(p1:P1)(g:G')(h:P0->P1->G=G':=by intro p0 p1;simp+contextual (disch:=first|omega|simp only[go_sem,false_implies]) only[go_sem,wrap64,if_pos,p0,p1]<;>rfl):G:=Eq.mpr (h p0 p1) g
theorem MT{P0 P1 P2 G G':Prop}(p0:P0)(p1:P1)(p2:P2)(g:G')(h:P0->P1->P2->G=G':=by intro p0 p1 p2;simp+contextual (disch:=first|omega|simp only[go_sem,false_implies]) only[go_sem,wrap64,if_pos,Nat.add_assoc,Nat.left_eq_add,Nat.add_eq_left,Nat.add_left_cancel_iff,p0,p1,p2]<;>rfl):G:=Eq.mpr (h p0 p1 p2) g
theorem AU{P0 G G':Prop}(p0:P0)(g:G')(h:P0->G=G':=by intro p0;simp+contextual (disch:=first|omega|simp only[go_sem,false_implies]) only[go_sem,wrap64,if_pos,Nat.add_assoc,Nat.left_eq_add,Nat.add_eq_left,Nat.add_left_cancel_iff,p0]<;>rfl):G:=Eq.mpr (h p0) g
theorem Du{P0 P1 G G':Prop}(p0:P0)(p1:P1)(g:G')(h:P0->P1->G=G':=by intro p0 p1;simp+contextual (disch:=first|omega|simp only[go_sem,false_implies]) only[go_sem,wrap64,if_pos,Nat.add_assoc,Nat.left_eq_add,Nat.add_eq_left,Nat.add_left_cancel_iff,List.length_map,p0,p1]<;>rfl):G:=Eq.mpr (h p0 p1) g
theorem yS{P0 P1 P2 G G':Prop}(p0:P0)(p1:P1)(p2:P2)(g:G')(h:P0->P1->P2->G=G':=by intro p0 p1 p2;simp+contextual (disch:=first|omega|simp only[go_sem,false_implies]) only[go_sem,wrap64,if_pos,p0,p1,p2]<;>rfl):G:=Eq.mpr (h p0 p1 p2) g
theorem yT{P0 G:Prop}(p0:P0)(h:P0->G:=by intro p0;simp+contextual (disch:=first|omega|simp only[go_sem,false_implies]) only[go_sem,wrap64,if_pos,p0]):G:=h p0
theorem AV{G G':Prop}(g:G')(h:G=G':=by simp+contextual (disch:=first|omega|simp only[go_sem,false_implies]) only[go_sem,wrap64,if_pos,mC]<;>rfl):G:=Eq.mpr h g
theorem Dv{P0 P1 P2 P3 G G':Prop}(p0:P0)(p1:P1)(p2:P2)(p3:P3)(g:G')(h:P0->P1->P2->P3->G=G':=by intro p0 p1 p2 p3;simp+contextual (disch:=first|omega|simp only[go_sem,false_implies]) only[go_sem,wrap64,if_pos,List.length_map,p0,p1,p2,p3]<;>rfl):G:=Eq.mpr (h p0 p1 p2 p3) g
theorem MU{P0 P1 P2 P3 P4 G G':Prop}(p0:P0)(p1:P1)(p2:P2)(p3:P3)(p4:P4)(g:G')(h:P0->P1->P2->P3->P4->G=G':=by intro p0 p1 p2 p3 p4;simp+contextual (disch:=first|omega|simp only[go_sem,false_implies]) only[go_sem,wrap64,if_pos,Nat.add_assoc,Nat.left_eq_add,Nat.add_eq_left,Nat.add_left_cancel_iff,p0,p1,p2,p3,p4]<;>rfl):G:=Eq.mpr (h p0 p1 p2 p3 p4) g
theorem MV{P0 P1 P2 P3 G G':Prop}(p0:P0)(p1:P1)(p2:P2)(p3:P3)(g:G')(h:P0->P1->P2->P3->G=G':=by intro p0 p1 p2 p3;simp+contextual (disch:=first|omega|simp only[go_sem,false_implies]) only[go_sem,wrap64,if_pos,Nat.add_assoc,Nat.left_eq_add,Nat.add_eq_left,Nat.add_left_cancel_iff,p0,p1,p2,p3]<;>rfl):G:=Eq.mpr (h p0 p1 p2 p3) g
theorem fg{P0 G G':Prop}(p0:P0)(g:G')(h:P0->G=G':=by intro p0;simp+contextual only[go_sem,p0]<;>rfl):G:=Eq.mpr (h p0) g
theorem SA{G G':Prop}(g:G')(h:G=G':=by simp+contextual (disch:=first|omega|simp only[go_sem,false_implies]) only[go_sem,wrap64,if_pos,Nat.add_assoc,Nat.left_eq_add,Nat.add_eq_left,Nat.add_left_cancel_iff,List.length_map]<;>rfl):G:=Eq.mpr h g
theorem GG{P0 G G':Prop}(p0:P0)(g:G')(h:P0->G=G':=by intro p0;simp+contextual only[go_sem,Nat.add_assoc,Nat.left_eq_add,Nat.add_eq_left,Nat.add_left_cancel_iff,p0]<;>rfl):G:=Eq.mpr (h p0) g
theorem SB{P0 P1 G G':Prop}(p0:P0)(p1:P1)(g:G')(h:P0->P1->G=G':=by intro p0 p1;simp+contextual (disch:=first|omega|simp only[go_sem,false_implies]) only[go_sem,wrap64,if_pos,Nat.add_assoc,Nat.left_eq_add,Nat.add_eq_left,Nat.add_left_cancel_iff,p0,p1]<;>rfl):G:=Eq.mpr (h p0 p1) g
theorem MW{P0 P1 P2 G G':Prop}(p0:P0)(p1:P1)(p2:P2)(g:G')(h:P0->P1->P2->G=G':=by intro p0 p1 p2;simp+contextual (disch:=first|omega|simp only[go_sem,false_implies]) only[go_sem,wrap64,if_pos,List.length_map,p0,p1,p2]<;>rfl):G:=Eq.mpr (h p0 p1 p2) g
theorem SC{P0 P1 P2 P3 G G':Prop}(p0:P0)(p1:P1)(p2:P2)(p3:P3)(g:G')(h:P0->P1->P2->P3->G=G':=by intro p0 p1 p2 p3;simp+contextual (disch:=first|omega|simp only[go_sem,false_implies]) only[go_sem,wrap64,if_pos,List.length_map,List.length_append,p0,p1,p2,p3]<;>rfl):G:=Eq.mpr (h p0 p1 p2 p3) g
theorem MX{P0 P1 P2 P3 P4 G G':Prop}(p0:P0)(p1:P1)(p2:P2)(p3:P3)(p4:P4)(g:G')(h:P0->P1->P2->P3->P4->G=G':=by intro p0 p1 p2 p3 p4;simp+contextual (disch:=first|omega|simp only[go_sem,false_implies]) only[go_sem,wrap64,if_pos,p0,p1,p2,p3,p4]<;>rfl):G:=Eq.mpr (h p0 p1 p2 p3 p4) g
theorem MY{P0 P1 P2 P3 G G':Prop}(p0:P0)(p1:P1)(p2:P2)(p3:P3)(g:G')(h:P0->P1->P2->P3->G=G':=by intro p0 p1 p2 p3;simp+contextual (disch:=first|omega|simp only[go_sem,false_implies]) only[go_sem,wrap64,if_pos,p0,p1,p2,p3]<;>rfl):G:=Eq.mpr (h p0 p1 p2 p3) g
theorem MZ{P0 P1 G:Prop}(p0:P0)(p1:P1)(h:P0->P1->G:=by intro p0 p1;simp+contextual (disch:=first|omega|simp only[go_sem,false_implies]) only[go_sem,wrap64,if_pos,p0,p1]):G:=h p0 p1
theorem XW{P0 P1 P2 P3 P4 P5 G G':Prop}(p0:P0)(p1:P1)(p2:P2)(p3:P3)(p4:P4)(p5:P5)(g:G')(h:P0->P1->P2->P3->P4->P5->G=G':=by intro p0 p1 p2 p3 p4 p5;simp+contextual (disch:=first|omega|simp only[go_sem,false_implies]) only[go_sem,wrap64,if_pos,Nat.add_assoc,Nat.left_eq_add,Nat.add_eq_left,Nat.add_left_cancel_iff,List.length_map,p0,p1,p2,p3,p4,p5]<;>rfl):G:=Eq.mpr (h p0 p1 p2 p3 p4 p5) g
theorem XX{P0 P1 P2 G G':Prop}(p0:P0)(p1:P1)(p2:P2)(g:G')(h:P0->P1->P2->G=G':=by intro p0 p1 p2;simp+contextual (disch:=first|omega|simp only[go_sem,false_implies]) only[go_sem,wrap64,if_pos,Nat.add_assoc,Nat.left_eq_add,Nat.add_eq_left,Nat.add_left_cancel_iff,yU,p0,p1,p2]<;>rfl):G:=Eq.mpr (h p0 p1 p2) g
theorem XY{G G':Prop}(g:G')(h:G=G':=by simp+contextual (disch:=first|omega|simp only[go_sem,false_implies]) only[go_sem,wrap64,if_pos,Nat.add_assoc,Nat.left_eq_add,Nat.add_eq_left,Nat.add_left_cancel_iff,tH]<;>rfl):G:=Eq.mpr h g
theorem XZ{G G':Prop}(g:G')(h:G=G':=by simp+contextual (disch:=first|omega|simp only[go_sem,false_implies]) only[go_sem,wrap64,if_pos,mC,Nat.add_assoc,Nat.left_eq_add,Nat.add_eq_left,Nat.add_left_cancel_iff]<;>rfl):G:=Eq.mpr h g
theorem SD{G:Prop}(h:G:=by simp+contextual (disch:=first|omega|simp only[go_sem,false_implies]) only[go_sem,wrap64,if_pos,List.length_map]):G:=h
theorem SE{P0 P1 P2 G G':Prop}(p0:P0)(p1:P1)(p2:P2)(g:G')(h:P0->P1->P2->G=G':=by intro p0 p1 p2;simp+contextual only[go_sem,Nat.add_assoc,Nat.left_eq_add,Nat.add_eq_left,Nat.add_left_cancel_iff,p0,p1,p2]<;>rfl):G:=Eq.mpr (h p0 p1 p2) g
theorem X0{G G':Prop}(g:G')(h:G=G':=by simp+contextual only[go_sem,Jc,Nat.add_assoc,Nat.left_eq_add,Nat.add_eq_left,Nat.add_left_cancel_iff,List.replicate]<;>rfl):G:=Eq.mpr h g
theorem X1{P0 G G':Prop}(p0:P0)(g:G')(h:P0->G=G':=by intro p0;simp+contextual (disch:=first|omega|simp only[go_sem,false_implies]) only[go_sem,wrap64,if_pos,Pf.lz,p0]<;>rfl):G:=Eq.mpr (h p0) g
theorem X4{P0 G:Prop}(p0:P0)(h:P0->G:=by intro p0;simp+contextual (disch:=first|omega|simp only[go_sem,false_implies]) only[go_sem,wrap64,if_pos,Pf.lz,p0]):G:=h p0
theorem X5{G:Prop}(h:G:=by simp+contextual (disch:=first|omega|simp only[go_sem,false_implies]) only[go_sem,wrap64,if_pos,mC]):G:=h
theorem X6{G:Prop}(h:G:=by simp+contextual (disch:=first|omega|simp only[go_sem,false_implies]) only[go_sem,wrap64,if_pos,he]):G:=h
theorem cM{P:Prop}(h:P:=by(repeat(first|exact xa|refine ue ?_|refine pN rfl ?_|refine pN (Jd (Je (by omega))) ?_|refine yV rfl (by simp[V.refs,V.aO]<;>first|omega|assumption) ?_))):P:=h
theorem dv{P:Prop}(h:P:=by repeat(first|exact hg.mono (by omega)|exact Good.nil|refine Good.aM ?_ (by omega) rfl|refine Good.aM ?_ (by omega) (wx _ _ _ (by omega))|refine Good.aM ?_ (by omega) (by simp[ab.refs,V.aO,V.refs]<;>omega))):P:=h
theorem af{P:Prop}(h:P:=by kernel_rfl):P:=h
theorem ad{P:Prop}(h:P:=by omega):P:=h
theorem zy4{P:Prop}(h:P:=by simp[V.refs,V.aO]<;>first|omega|assumption):P:=h
theorem jD{P:Prop}(h:P:=by simp only[pO,uf,oS,re,rh,ri,List.contains_nil,Bool.false_eq_true,if_false,eg,rj]):P:=h
theorem dC{P:Prop}(h:P:=by(repeat(first|rfl|rw[ae]|rw[ah _ _ _ _ (by omega)]))):P:=h
theorem Dw{P:Prop}(h:P:=by(repeat(first|exact Jf|refine GH ?_|refine Jg rfl ?_|refine Jg (Jd (Je (by omega))) ?_|refine SF 0 rfl rfl rfl ?_|refine SG rfl (by simp[V.refs,V.aO]<;>first|omega|assumption) ?_|refine SH rfl (by simp[V.ids]<;>omega) ?_))):P:=h
theorem zy8{P:Prop}(h:P:=by simp[ab.refs,V.aO,V.refs]<;>omega):P:=h
theorem zy9{P:Prop}(h:P:=by(repeat(first|exact xa|refine ue ?_|refine pN rfl ?_|refine pN (Jd (Je (by omega))) ?_|refine yV rfl (by simp[V.refs,V.aO]<;>first|omega|assumption) ?_|refine pN (by first|exact q0|exact q1|exact q2|exact q3|exact q4|exact q5|exact q6|exact q7|exact q8|exact q9|exact q10|exact q11|exact q12|exact q13|exact q14|exact PB|exact PC|exact PD|exact q18|exact q19|exact q20|exact q21|exact q22|exact q23|exact q24|exact q25|exact q26|exact q27|exact q28|exact q29|exact q30|exact q31|exact q32|exact q33|exact q34|exact q35|exact q36|exact q37|exact q38|exact q39|exact q40) ?_|refine yV (by first|exact q0|exact q1|exact q2|exact q3|exact q4|exact q5|exact q6|exact q7|exact q8|exact q9|exact q10|exact q11|exact q12|exact q13|exact q14|exact PB|exact PC|exact PD|exact q18|exact q19|exact q20|exact q21|exact q22|exact q23|exact q24|exact q25|exact q26|exact q27|exact q28|exact q29|exact q30|exact q31|exact q32|exact q33|exact q34|exact q35|exact q36|exact q37|exact q38|exact q39|exact q40) (by simp[V.refs,V.aO]<;>first|omega|assumption) ?_))):P:=h
theorem j6{P:Prop}(h:P:=by simp only[aM]<;>((repeat' split)<;>first|rfl|omega|(subst_vars;first|rfl|assumption|(symm;assumption)|omega|(simp_all;done)))):P:=h
theorem adz{P:Prop}(h:P:=by first|exact q0|exact q1|exact q2|exact q3|exact q4|exact q5|exact q6|exact q7|exact q8|exact q9|exact q10|exact q11|exact q12|exact q13|exact q14|exact PB|exact PC|exact PD|exact q18|exact q19|exact q20|exact q21|exact q22|exact q23|exact q24|exact q25|exact q26|exact q27|exact q28|exact q29|exact q30|exact q31|exact q32|exact q33|exact q34|exact q35|exact q36|exact q37|exact q38|exact q39|exact q40):P:=h
theorem aj{P:Prop}(h:P:=by simp):P:=h
theorem aZ{P:Prop}(h:P:=by decide):P:=h
theorem oq{P:Prop}(h:P:=by rintro⟨h1,h2⟩;first|(cases h1;done)|(cases h2;done)):P:=h
theorem jE{P:Prop}(h:P:=by simpa[execOp,fA]using this):P:=h
theorem GI{P:Prop}(h:P:=by simp+contextual (disch:=first|omega|simp only[go_sem,false_implies]) only[go_sem,wrap64,if_pos,and_self];simp[mC]):P:=h
theorem lA{P:Prop}(h:P:=by simp[ab.refs,V.aO,V.refs]):P:=h
theorem e8{P:Prop}(h:P:=by rw[ho];rfl):P:=h
theorem yW{P:Prop}(h:P:=by rw[m2.eq id (by omega)];unfold ext;rw[if_pos aC]):P:=h
theorem mK{P:Prop}(h:P:=by simp[V.aO,V.refs]):P:=h
theorem Jh{P:Prop}(h:P:=by rw[m2.eq id (by omega)];unfold ext;rw[if_neg (by omega),ah _ _ _ _ (by omega)]):P:=h
theorem Ji{P:Prop}(h:P:=by(repeat(first|exact GJ|refine Dx ?_|refine M0 rfl ?_))):P:=h
theorem Jj{P:Prop}(h:P:=by unfold lX at h1;simp only[Bool.and_eq_true,beq_iff_eq]at h1;exact h1.2.1):P:=h
theorem adA{P:Prop}(h:P:=by simp[V.ids]<;>omega):P:=h
theorem GK{P:Prop}(h:P:=by rw[hold id (by omega) (by omega),GL id (by omega) aC]):P:=h
theorem mL{P:Prop}(h:P:=by dsimp only;omega):P:=h
theorem la{P:Prop}(h:P:=by simpa using hj):P:=h
theorem yX{P:Prop}(h:P:=by simp[Op.equalIn,run_underlying ht]):P:=h
theorem wD{P:Prop}(h:P:=by rw[hn,hI,iN hx];rfl):P:=h
theorem Jk{P:Prop}(h:P:=by rw[hI.eq bx PE];unfold ext;rw[if_neg (by omega),hO]):P:=h
theorem SI{P:Prop}(h:P:=by rw[q6 _ (by omega)];(repeat(first|rfl|rw[ae]|rw[ah _ _ _ _ (by omega)]))):P:=h
theorem oT{P:Prop}(h:P:=by simp[pI,aC]):P:=h
theorem M3{P:Prop}(h:P:=by simpa[execOp,fA,resolve,invoke,builtin]using this):P:=h
theorem lY{P:Prop}(h:P:=by simp[hx]):P:=h
theorem SJ{P:Prop}(h:P:=by rw[s9];exact List.mem_cons_of_mem _ (List.mem_flatMap.2 ⟨k,hk,hx⟩)):P:=h
theorem M4{P:Prop}(h:P:=by simp only[Sem.run_bind,hr,Result.andThen_ok];rfl):P:=h
theorem SK{P:Prop}(h:P:=by rw[ah _ _ _ _ oU,GM _ _ (by omega)];exact h0 id (by omega)):P:=h
theorem M5{P:Prop}(h:P:=by simp only[h1,dp,Option.map_some];exact hK):P:=h
theorem ta{P:Prop}(h:P:=by simp[V.refs]):P:=h
theorem Jl{P:Prop}(h:P:=by unfold eH;rw[M6 trivial]):P:=h
theorem SL{P:Prop}(h:P:=by rw[ah _ _ _ _ (by omega)];exact k4 id (by omega) g2):P:=h
theorem M7{P:Prop}(h:P:=by rw[show(hp o nx).o id=_ from ho];rfl):P:=h
theorem SM{P:Prop}(h:P:=by simp at h;obtain⟨rfl,rfl⟩:=h;exact⟨rfl,rfl⟩):P:=h
theorem SN{P:Prop}(h:P:=by rw[GM _ _ (by omega)];exact k2.eq id (by omega)):P:=h
theorem GN{P:Prop}(h:P:=by simpa[V.refs]using hr):P:=h
theorem SO{P:Prop}(h:P:=by unfold ir;rw[List.map_append,List.sum_append]):P:=h
theorem SP{P:Prop}(h:P:=by rw[mS];simp only[pI,eV,wE];exact aC):P:=h
theorem tc{P:Prop}(h:P:=by simp[hy]):P:=h
theorem SQ{P:Prop}(h:P:=by simp at hl;obtain⟨rfl,rfl⟩:=hl;exact hK):P:=h
theorem SR{P:Prop}(h:P:=by rw[if_neg (by omega),hold id (by omega) h2]):P:=h
theorem M8{P:Prop}(h:P:=by simpa only[xc]using this):P:=h
theorem SS{P:Prop}(h:P:=by simp at hj hy;subst hj;subst hy;exact bp):P:=h
theorem M9{P:Prop}(h:P:=by rw[if_neg e,if_neg (by omega)]):P:=h
theorem yY{P:Prop}(h:P:=by rw[hj];rfl):P:=h
theorem SU{P:Prop}(h:P:=by unfold qY;rw[List.getElem?_map,h];rfl):P:=h
theorem Na{P:Prop}(h:P:=by rw[hg];simp[eu,hv,e]):P:=h
theorem SV{P:Prop}(h:P:=by rw[tI];exact dm all _ bA):P:=h
theorem SW{P:Prop}(h:P:=by simp[ab.refs,V.aO,V.refs];omega):P:=h
theorem AW{P:Prop}(h:P:=by rw[wy];rfl):P:=h
theorem Nb{P:Prop}(h:P:=by simp[V.aO,V.refs];omega):P:=h
theorem Nc{P:Prop}(h:P:=by simp[binOp,AX hr]):P:=h
theorem AY{P:Prop}(h:P:=by rw[hx];rfl):P:=h
theorem GO{P:Prop}(h:P:=by rw[hx];exact hk):P:=h
theorem SX{P:Prop}(h:P:=by rw[ug i hi];exact congrArg some hb):P:=h
theorem SY{P:Prop}(h:P:=by rw[List.drop_eq_getElem_cons g1,g2]):P:=h
theorem SZ{P:Prop}(h:P:=by rw[List.drop_eq_getElem_cons h5,h6]):P:=h
theorem Dy{P:Prop}(h:P:=by simpa using h2):P:=h
theorem S0{P:Prop}(h:P:=by unfold eH;exact Eq.trans rfl rfl):P:=h
theorem Nd{P:Prop}(h:P:=by rw[Jm]at hl;simp at hl):P:=h
theorem S1{P:Prop}(h:P:=by unfold GP;exact Eq.trans rfl rfl):P:=h
theorem AZ{P:Prop}(h:P:=by simp;omega):P:=h
theorem S2{P:Prop}(h:P:=by unfold eqGuard;cases op<;>simp):P:=h
theorem Nf{P:Prop}(h:P:=by rw[h]at h1;simp at h1):P:=h
theorem GQ{P:Prop}(h:P:=by rw[s9];simp):P:=h
theorem S3{P:Prop}(h:P:=by simp[hj]at hr;exact⟨hr,rfl⟩):P:=h
theorem S4{P:Prop}(h:P:=by rw[GM _ _ GR, <- h0 _ GR,ht]):P:=h
theorem GS{P:Prop}(h:P:=by simpa using hi):P:=h
theorem S5{P:Prop}(h:P:=by simp at hj;subst hj;exact fL):P:=h
theorem GU{P:Prop}(h:P:=by simpa using hx):P:=h
theorem S6{P:Prop}(h:P:=by rw[ht];exact ab.noConfusion):P:=h
theorem S7{P:Prop}(h:P:=by simp+contextual only[go_sem]):P:=h
theorem GV{P:Prop}(h:P:=by simpa using h):P:=h
theorem S8{P:Prop}(h:P:=by simp[pI,mU _ _ aC]):P:=h
theorem GW{P:Prop}(h:P:=by rw[h1];rfl):P:=h
theorem Jn{P:Prop}(h:P:=by cases b<;>rfl):P:=h
theorem S9{P:Prop}(h:P:=by rw[g3 rfl]at g1;exact g1):P:=h
theorem Ng{P:Prop}(h:P:=by simp[V.aO,aC]):P:=h
theorem Ta{P:Prop}(h:P:=by rw[<- H.2.1.2, <- H'.2.1.2]):P:=h
theorem Jo{P:Prop}(h:P:=by simpa using hy):P:=h
theorem Tb{P:Prop}(h:P:=by simp[binOp,Op.intArith]):P:=h
theorem Nh{P:Prop}(h:P:=by simp[V.refs,aC]):P:=h
theorem Tc{P:Prop}(h:P:=by rw[lZ]at h;exact h):P:=h
theorem Ni{P:Prop}(h:P:=by rw[Dz];exact hk):P:=h
theorem Td{P:Prop}(h:P:=by rw[cc hx h3];rfl):P:=h
theorem Te{P:Prop}(h:P:=by simpa[V.refs]using hj):P:=h
theorem Nj{P:Prop}(h:P:=by simpa using hij):P:=h
theorem Nk{P:Prop}(h:P:=by cases c<;>rfl):P:=h
theorem Nl{P:Prop}(h:P:=by simpa using r2):P:=h
theorem Jp{P:Prop}(h:P:=by assumption):P:=h
def su(ops:Array Oper)(j:Nat):Option Tmp:=(ops[j]?).bind (·.dst)
structure cz where
 dst:Option Nat
 op:Op
 gd:Option (Nat×Bool):=none
instance:Inhabited cz:=⟨⟨none, .ready 0,none⟩⟩
def DA(n:Nat):Option Tmp->Bool
 |some d=>decide (d<n)
 |none=>true
def Jq(n:Nat)(ops:Array Oper)(o:Oper):Option cz:=
 if DA n o.dst=true then match o.guard with
  |none=>some ⟨o.dst,o.op,none⟩
  |some (j,want)=>match su ops j with
   |some d=>some ⟨o.dst,o.op,some (d,want)⟩
   |none=>none
 else none
def lB(n:Nat)(ops:Array Oper):List Oper->Option (List cz)
 |[]=>some []
 |o::l=>match Jq n ops o,lB n ops l with
  |some x,some xs=>some (x::xs)
  |_,_=>none
def tmpsOf(o:cz):List Nat:=(o.op.operands.toList.filterMap fun| .tmp t=>some t|_=>none)++(match o.gd with|some (d,_)=>[d]|none=>[])
def fC(o:cz):List Nat:=tmpsOf o++o.dst.toList
def bN(ops:Array Oper)(i:Nat):List Nat:=match ops[i]? with|some o=>(o.after.toList.filter (Region.binds .any)).map (·.on)|none=>[]
def cj(l:List cz)(i:Nat):cz:=l.getD i default
inductive IC where
 |skip|ag (l:List cz)|eX (l:List cz) (pr:List (List Nat))|seq (a b:IC)|cond (c:Operand) (a b:IC)|block (id:Nat) (a:IC)|loop (a:IC)|exit (id:Nat)|ret|bad
 |GX (g:Operand) (ps:List Nat) (a b:IC)
 deriving Inhabited
inductive jN where
 |ret|exit (id:Nat)
def jN.code:jN->Code
 | .ret=> .ret
 | .exit id=> .exit id
def l0(acc:List Nat):List Nat->Nat
 |[]=>0
 |j::ps=>(2^j|||acc.getD j 0)|||l0 acc ps
def eI:List (List Nat)->List Nat->List Nat
 |[],acc=>acc
 |ps::l,acc=>eI l (acc++[l0 acc ps])
def rk(x y:cz):Bool:=match x.dst with|some d=> !(fC y).contains d|none=>true
def yZ(l:List cz)(pr:List (List Nat)):Bool:=
 (List.range l.length).all fun j=>(List.range j).all fun i=>((eI pr []).getD j 0).testBit i||(rk (cj l i) (cj l j)&&rk (cj l j) (cj l i))
def mV(xs ys:List Nat):Bool:=xs.all fun x=> !ys.contains x
def iO(pr:List (List Nat))(fp:List (List Nat×List Nat)):Bool:=
 (List.range fp.length).all fun j=>(List.range j).all fun i=>((eI pr []).getD j 0).testBit i||
  (mV (fp.getD i ([],[])).2 (fp.getD j ([],[])).1&&mV (fp.getD i ([],[])).2 (fp.getD j ([],[])).2&&mV (fp.getD j ([],[])).2 (fp.getD i ([],[])).1)
def iu(ops:Array Oper):List (List Nat):=(List.range ops.size).map (bN ops)
def Tf(pr:List (List Nat)):Bool:=(List.range pr.length).all fun k=>(pr.getD k []).all fun j=>decide (j<k)
theorem uh{acc:List Nat}{i:Nat}:∀ (ps:List Nat),(l0 acc ps).testBit i=true->∃j∈ps,i=j\/(acc.getD j 0).testBit i=true
 |[],h=>by simp[l0]at h
 |j::ps,h=>by
  simp only[l0,Nat.testBit_or,Bool.or_eq_true]at h
  rcases h with(h|h)|h
  ·rw[Nat.testBit_two_pow]at h
   exact⟨j,aj, .inl (by have h:=of_decide_eq_true h;exact h.symm)⟩
  ·exact⟨j,aj, .inr h⟩
  ·obtain⟨j',h1,h2⟩:=uh ps h
   exact⟨j',by simp[h1],h2⟩
theorem rm{k:Nat}:∀ (l:List (List Nat)) (acc:List Nat),k<acc.length->(eI l acc).getD k 0=acc.getD k 0
 |[],_,_=>rfl
 |ps::l,acc,h=>by
  rw[eI,rm l _ (by simp;omega)]
  simp[List.getD_eq_getElem?_getD,List.getElem?_append_left h]
theorem rn{i:Nat}:∀ (l:List (List Nat)) (acc:List Nat) (k:Nat),acc.length<=k->(∀k',k'<l.length->∀j∈l.getD k' [],j<acc.length+k')->((eI l acc).getD k 0).testBit i=true->
 ∃j∈l.getD (k - acc.length) [],i=j\/((eI l acc).getD j 0).testBit i=true
 |[],acc,k,hk,_,h=>by
  simp only[eI]at h
  rw[List.getD_eq_getElem?_getD,List.getElem?_eq_none hk]at h
  simp at h
 |ps::l,acc,k,hk,hp,h=>by
  simp only[eI]at h|-
  by_cases he:k=acc.length
  ·subst he
   rw[rm l _ (by simp)]at h
   have e:(acc++[l0 acc ps]).getD acc.length 0=l0 acc ps:=by simp[List.getD_eq_getElem?_getD]
   rw[e]at h
   obtain⟨j,h1,h2⟩:=uh ps h
   refine⟨j,by simpa using h1,h2.imp id fun h2=> ?_⟩
   have hj:j<acc.length:=by simpa using hp 0 aj j (by simpa using h1)
   rw[rm l _ (by simp;omega)]
   simpa[List.getD_eq_getElem?_getD,List.getElem?_append_left hj]using h2
  ·obtain⟨j,h1,h2⟩:=rn l (acc++[l0 acc ps]) k AZ (fun k' A0 j hj=>by
    have:=hp (k'+1) AZ j la
    simp;omega) h
   refine⟨j, ?_,h2⟩
   have e:k - acc.length=(k - (acc++[l0 acc ps]).length)+1:=by simp;omega
   rw[e];simpa using h1
theorem pP{pr:List (List Nat)}(hp:∀k,k<pr.length->∀j∈pr.getD k [],j<k){E:Nat->Bool}(hE:∀k,k<pr.length->E k=true->∀j∈pr.getD k [],E j=true):
 ∀k,k<pr.length->(∀j∈pr.getD k [],E j=true)->∀i,((eI pr []).getD k 0).testBit i=true->E i=true:=by
 intro k
 induction k using Nat.strongRecOn with
 |ind k ih=>
  intro hk hj i hi
  obtain⟨j,h1,h2⟩:=rn pr [] k aj (fun k' A0 j hj=>by simpa using hp k' A0 j hj) hi
  simp only[List.length_nil,Nat.sub_zero]at h1
  rcases h2 with rfl|h2
  ·exact hj _ h1
  ·have X7:=hp k hk j h1
   exact ih j X7 ad (hE j ad (hj j h1)) i h2
theorem A1{pr:List (List Nat)}(hp:∀k,k<pr.length->∀j∈pr.getD k [],j<k):∀k,k<pr.length->∀i,((eI pr []).getD k 0).testBit i=true->i<k:=by
 intro k
 induction k using Nat.strongRecOn with
 |ind k ih=>
  intro hk i hi
  obtain⟨j,h1,h2⟩:=rn pr [] k aj (fun k' A0 j hj=>by simpa using hp k' A0 j hj) hi
  simp only[List.length_nil,Nat.sub_zero]at h1
  have X7:=hp k hk j h1
  rcases h2 with rfl|h2
  ·exact X7
  ·have:=ih j X7 ad i h2;omega
def low(n:Nat):Code->IC
 | .skip=> .skip
 | .label _=> .skip
 | .scope c=>low n c
 | .region _ ops false=>match lB n ops ops.toList with
   |some l=> .ag l
   |none=> .bad
 | .region _ ops true=>match lB n ops ops.toList with
   |some l=>if yZ l (iu ops)&&Tf (iu ops)then .eX l (iu ops)else .bad
   |none=> .bad
 | .seq a b=> .seq (low n a) (low n b)
 | .cond c a b=> .cond c (low n a) (low n b)
 | .block id a=> .block id (low n a)
 | .loop a=> .loop (low n a)
 | .exit id=> .exit id
 | .ret=> .ret
 | .rangeFunc g ps a b=> .GX g ps.toList (low n a) (low n b)
 |_=> .bad
end Go.Proofs.YtonbelhklnmjnaaGreat
namespace Go.Proofs.YtonbelhklnmjnaaGreat
inductive D where
 |int (k:IntKind) (n:Int)|bool (b:Bool)|str (s:List UInt8)
 |fD|mM|bW|jq
 |agg (cs:List D)|sl (es:List D)|iface (t:TypeId) (d:D)
 |mp (ks vs:List D)
 deriving Inhabited
def Flat(vs:List Value):Prop:=∀u∈vs,u.oneCell'=true
def iw(B:Nat->Prop)(w:World)(a:Addr)(cs:Array Value):Prop:=∀j u,cs[j]? =some u->w.cell? (a.add j)=some u/\ ¬B a.block
def jK(es:Array MapEntry)(clock:Nat):Prop:=(∀e∈es.toList,e.born<clock)/\(es.toList.map (·.born)).Nodup
def y9(ks:List D):Prop:=ks.Nodup/\∀k∈ks,∃n,k= .int .i64 n
mutual
def D.den (B:Nat->Prop)(w:World):D->Value->Prop
 | .int k n,v=>v= .int k n
 | .bool b,v=>v= .bool b
 | .str l,v=>∃s:ByteArray,v= .string s/\s.data.toList=l
 | .fD,v=>v= .nilIface
 | .mM,v=>v= .pointer none
 | .bW,v=>v= .nilFunc
 | .jq,v=>v= .map none
 | .agg cs,v=>∃a,v= .agg a/\D.aN B w cs a.toList/\Flat a.toList
 | .sl es,v=>∃base len cap,v= .slice base len cap/\len=es.length/\len<=cap/\(base=none->cap=0)/\
  ∃sz,∀a,base=some a->(cap≠0->a.spot=none)/\D.elems B w sz a 0 es
 | .iface t d,v=>∃u,v= .iface t u/\D.den B w d u
 | .mp ks vs,v=>∃m es clock p,v= .map (some m)/\w.heap[m]? =some (.map es clock)/\ ¬B m/\jK es clock/\(p=es.toList\/(p.Perm es.toList/\y9 ks))/\D.aN B w ks (p.map (·.key))/\D.aN B w vs (p.map (·.val))
def D.aN (B:Nat->Prop)(w:World):List D->List Value->Prop
 |[],vs=>vs=[]
 |d::ds,vs=>∃u us,vs=u::us/\D.den B w d u/\D.aN B w ds us
def D.elems (B:Nat->Prop)(w:World)(sz:Nat)(a:Addr):Nat->List D->Prop
 |_,[]=>True
 |i,e::es=>(∃ev:Value,ev.cells.size=sz/\iw B w (a.add (i*sz)) ev.cells/\D.den B w e ev)/\D.elems B w sz a (i+1) es
end
inductive V where
 |d (x:D)|bO|agg (cs:List V)|cp (vs:List V)
 |ptr (id off:Nat)|osl (id ep:Nat)|pe (id ep i sz off:Nat)|pp (cs:List D) (off:Nat)
 |func (fn:Fn) (first cap:List V)|iface (t:TypeId) (x:V)
 |aa
 |qZ (es:List D)|xd (id off n:Nat)|mp (id:Nat)|fh|jU (id:Nat)
 deriving Inhabited
inductive ab where
 |no|row (cs:List V)|arr (ep:Nat) (ty:TypeId) (sz:Nat) (es:List D)|sv (ep:Nat) (es:List D)
 |map (kt vt:TypeId) (es:List (D×D))
 |loop (nf n:Nat) (env:List V) (ps:List Nat) (a b:IC) (st:LoopState) (GY:Option jN)
 |iP (es:List (D×D))|mW (es:List (D×D)) (last:Option (D×D))|za (s:List UInt8) (pos:Nat)
 deriving Inhabited
def bB(l:List V):Nat->V:=fun i=>l.getD i .aa
structure Hp where
 o:Nat->ab
 us:Nat->Prop
def ab.cy:ab->Option Nat
 | .arr ep _ _ _| .sv ep _=>some ep
 |_=>none
def ab.cC:ab->Bool
 | .row _| .map .. | .loop .. | .iP _| .mW .. | .za .. =>true
 |_=>false
def ab.live:ab->Bool
 | .row _| .arr .. | .map .. | .loop .. | .mW .. | .za .. =>true
 |_=>false
def eQ:Value->Option Nat
 | .pointer (some a)| .slice (some a) _ _=>some a.block
 | .map (some b)=>some b
 |_=>none
abbrev Place:=Nat->Value
def df(φ:Place)(H:Hp)(b:Nat):Prop:=∃id,(H.o id).live=true/\eQ (φ id)=some b
def ay(M:Nat->Prop)(φ:Place)(H:Hp)(b:Nat):Prop:=M b\/df φ H b
mutual
def V.den (B:Nat->Prop)(φ:Place)(H:Hp)(w:World):V->Value->Prop
 | .d x,v=>D.den B w x v
 | .bO,v=>v= .slice none 0 0
 | .agg cs,v=>∃a,v= .agg a/\V.aN B φ H w cs a.toList/\Flat a.toList
 | .cp vs,v=>∃a,v= .tuple a/\V.aN B φ H w vs a.toList
 | .ptr id off,v=>v.oneCell'=true/\H.us id/\((H.o id).cC=true->∃b,φ id= .pointer (some ⟨b,0,none⟩)/\v= .pointer (some ⟨b,off,none⟩))
 | .osl id ep,v=>v.oneCell'=true/\H.us id/\∀e,(H.o id).cy=some e->ep<=e/\(ep=e->v=φ id)
 | .pe id ep i sz off,v=>v.oneCell'=true/\H.us id/\∀e,(H.o id).cy=some e->ep<=e/\(ep=e->∃b n c,φ id= .slice (some ⟨b,0,none⟩) n c/\v= .pointer (some ⟨b,i*sz+off,none⟩))
 | .pp cs off,v=>∃a ev,a.spot=none/\v= .pointer (some (a.add off))/\D.aN B w cs ev/\Flat ev/\iw B w a ev.toArray
 | .func fn first cap,v=>∃f c,v= .func fn f c/\V.aN B φ H w first f.toList/\V.aN B φ H w cap c.toList
 | .iface t x,v=>∃u,v= .iface t u/\V.den B φ H w x u
 | .aa,_=>True
 | .qZ es,v=>D.den B w (.sl es) v/\∃base n,v= .slice base n n
 | .xd id off n,v=>v.oneCell'=true/\H.us id/\((H.o id).cC=true->∃b,φ id= .pointer (some ⟨b,0,none⟩)/\v= .slice (some ⟨b,off,none⟩) n n)
 | .mp id,v=>v.oneCell'=true/\H.us id/\((H.o id).cC=true->v=φ id)
 | .fh,v=>∃b,v= .bool b
 | .jU id,v=>v.oneCell'=true/\H.us id/\((H.o id).cC=true->∃b,φ id= .pointer (some ⟨b,0,none⟩)/\v= .func (.yield b) #[] #[])
def V.aN (B:Nat->Prop)(φ:Place)(H:Hp)(w:World):List V->List Value->Prop
 |[],vs=>vs=[]
 |x::xs,vs=>∃u us,vs=u::us/\V.den B φ H w x u/\V.aN B φ H w xs us
end
def gJ(B:Nat->Prop)(w:World)(sz:Nat)(es:List D)(xs:List Value):Prop:=
 ∃evs:List Value,xs=evs.flatMap (·.cells.toList)/\(∀ev∈evs,ev.cells.size=sz)/\D.aN B w es evs
def aY(B:Nat->Prop)(w:World):List (D×D)->List MapEntry->Prop
 |[],es=>es=[]
 |(k,x)::l,es=>∃e es',es=e::es'/\D.den B w k e.key/\D.den B w x e.val/\aY B w l es'
def zb(B:Nat->Prop)(w:World)(l:List (D×D))(last:Option (D×D))(b:Nat):Prop:=
 w.heap[b]? =some (.mapIter none 0 #[] 0)/\l=[]/\last=none\/
 ∃m since seen es,w.heap[b]? =some (.mapIter (some m) since seen since)/\w.heap[m]? =some (.map es since)/\ ¬B m/\jK es since/\(∃l',l'.Perm l/\aY B w l' (es.toList.filter fun e=> !seen.contains e.born))/\
  ∀k x,last=some (k,x)->∃e∈es.toList,seen.back?=some e.born/\D.den B w k e.key/\D.den B w x e.val
def bc(M:Nat->Prop)(φ:Place)(H:Hp)(w:World)(id:Nat):Prop:=
 match H.o id with
 | .no=>True
 | .row cs=>∃b dU ty,φ id= .pointer (some ⟨b,0,none⟩)/\w.heap[b]? =some (.cells dU ty (0,0))/\V.aN (ay M φ H) φ H w cs dU.toList/\Flat dU.toList
 | .arr _ ty sz es=>0<sz/\∃xs,w.ownsRow 0 ty sz (φ id) es.length xs/\gJ (ay M φ H) w sz es xs
 | .sv _ es=>D.den (ay M φ H) w (.sl es) (φ id)
 | .loop nf n env ps iQ eJ st GY=>∃b r,φ id= .pointer (some ⟨b,0,none⟩)/\w.heap[b]? =some (.loop r)/\r.fn<nf/\r.state=st/\r.pending=GY.map jN.code/\r.params.toList=ps/\r.tmps.size=n/\low n r.assign=iQ/\low n r.body=eJ/\
  ∀i,V.den (ay M φ H) φ H w (bB env i) (r.tmps.getD i undef)
 | .map _ _ l=>∃b es clock,φ id= .map (some b)/\w.heap[b]? =some (.map es clock)/\jK es clock/\aY (ay M φ H) w l es.toList
 | .iP l=>D.den (ay M φ H) w (.mp (l.map (·.1)) (l.map (·.2))) (φ id)
 | .mW l last=>∃b,φ id= .pointer (some ⟨b,0,none⟩)/\zb (ay M φ H) w l last b
 | .za s pos=>∃b,φ id= .pointer (some ⟨b,0,none⟩)/\w.heap[b]? =some (.stringIter ⟨⟨s⟩⟩ pos)
structure aD (M:Nat->Prop) (φ:Place) (H:Hp) (w:World):Prop where
 ok:∀id,bc M φ H w id
 fresh:∀id, ¬H.us id->H.o id= .no
 apart:∀i j b,(H.o i).live=true->(H.o j).live=true->eQ (φ i)=some b->eQ (φ j)=some b->i=j
 ours:∀b,df φ H b-> ¬M b/\b<w.heap.size
 AL:∀b,M b->b<w.heap.size
structure eK (m:Nat->Prop) (w w':World):Prop where
 os:w'.os=w.os
 tape:w'.tape=w.tape
 output:w'.output=w.output
 size:w.heap.size<=w'.heap.size
 block:∀k,k<w.heap.size-> ¬m k->w'.heap[k]? =w.heap[k]?
structure ew (φ:Place) (H:Hp) (aQ:Place) (H':Hp):Prop where
 us:∀id,H.us id->H'.us id
 row:∀id,H.us id->(H'.o id).cC=true->(H.o id).cC=true/\aQ id=φ id
 ep:∀id e',H.us id->(H'.o id).cy=some e'->∃e,(H.o id).cy=some e/\e<=e'/\(e=e'->aQ id=φ id)
structure Trans (φ:Place) (H:Hp) (w:World) (aQ:Place) (H':Hp) (w':World):Prop where
 cA:eK (df φ H) w w'
 grow:∀b,df aQ H' b->df φ H b\/w.heap.size<=b
 rel:ew φ H aQ H'
theorem eK.refl (m:Nat->Prop)(w:World):eK m w w:=⟨rfl,rfl,rfl,Nat.le_refl _,fun _ _ _=>rfl⟩
theorem ew.refl (φ:Place)(H:Hp):ew φ H φ H:=⟨fun _ h=>h,fun _ _ h=>⟨h,rfl⟩,fun _ e' _ h=>⟨e',h,Nat.le_refl _,fun _=>rfl⟩⟩
theorem Trans.refl (φ:Place)(H:Hp)(w:World):Trans φ H w φ H w:=⟨eK.refl _ _,fun _ h=> .inl h,ew.refl _ _⟩
theorem ew.trans {φ aQ DB:Place}{H H' X8:Hp}(h:ew φ H aQ H')(k:ew aQ H' DB X8):ew φ H DB X8 where
 us id aC:=k.us id (h.us id aC)
 row id aC hr:=by
  obtain⟨a,b⟩:=k.row id (h.us id aC) hr
  obtain⟨c,d⟩:=h.row id aC a
  exact⟨c,b.trans d⟩
 ep id e' aC he:=by
  obtain⟨e,h1,h2,h3⟩:=k.ep id e' (h.us id aC) he
  obtain⟨e0,g1,g2,g3⟩:=h.ep id e aC h1
  refine⟨e0,g1,Nat.le_trans g2 h2,fun heq=> ?_⟩
  have a:e0=e:=ad
  have b:e=e':=ad
  exact(h3 b).trans (g3 a)
theorem Trans.trans {φ aQ DB:Place}{H H' X8:Hp}{w w' PF:World}(h:Trans φ H w aQ H' w')(k:Trans aQ H' w' DB X8 PF):Trans φ H w DB X8 PF where
 cA:={
  os:=k.cA.os.trans h.cA.os
  tape:=k.cA.tape.trans h.cA.tape
  output:=k.cA.output.trans h.cA.output
  size:=Nat.le_trans h.cA.size k.cA.size
  block:=fun b hb hm=>by
   rw[k.cA.block b (Nat.lt_of_lt_of_le hb h.cA.size) (fun hl=>by
    rcases h.grow b hl with h1|h1
    ·exact hm h1
    ·omega),h.cA.block b hb hm]}
 grow b hl:=by
  rcases k.grow b hl with h1|h1
  ·exact h.grow b h1
  ·exact .inr (Nat.le_trans h.cA.size h1)
 rel:=h.rel.trans k.rel
@[simp] theorem WY (a:Addr) (j:Nat):(a.add j).block=a.block:=by unfold Addr.add;split<;>rfl
def pQ(w:World)(b:Nat):Prop:=∃cs ty fz,w.heap[b]? =some (.cells cs ty fz)
def dw(w:World)(b:Nat):Prop:=pQ w b\/∃es clock,w.heap[b]? =some (.map es clock)
theorem dw.lt {w:World}{b:Nat}(h:dw w b):b<w.heap.size:=by
 rcases Nat.lt_or_ge b w.heap.size with hl|hl
 ·exact hl
 ·rcases h with⟨cs,ty,fz,h⟩|⟨es,clock,h⟩
  ·rw[Array.getElem?_eq_none hl]at h;cases h
  ·rw[Array.getElem?_eq_none hl]at h;cases h
theorem oC{w:World}{a:Addr}{u:Value}(h:w.cell? a=some u):pQ w a.block:=by
 unfold World.cell? at h
 split at h
 ·exact⟨_,_,_,by assumption⟩
 ·cases h
theorem te{w:World}{a:Addr}{u:Value}(h:w.cell? a=some u):dw w a.block:= .inl (oC h)
theorem iw.mono {B B':Nat->Prop}{w w':World}{a:Addr}{cs:Array Value}
 (hb:∀b,dw w b-> ¬B b->w'.heap[b]? =w.heap[b]? /\ ¬B' b) (h:iw B w a cs):iw B' w' a cs:=by
 intro j u hj
 obtain⟨h1,h2⟩:=h j u hj
 have cJ:dw w a.block:=by simpa using te h1
 obtain⟨h3,h4⟩:=hb _ cJ h2
 exact⟨by rw[World.cell?_of_block (w:=w) (w':=w') (a:=a.add j) (by simpa using h3)];exact h1,h4⟩
mutual
theorem D.aT {B B':Nat->Prop}{w w':World}(hb:∀b,dw w b-> ¬B b->w'.heap[b]? =w.heap[b]? /\ ¬B' b):
 ∀ (x:D) (v:Value),D.den B w x v->D.den B' w' x v
 | .int _ _,_,h| .bool _,_,h| .str _,_,h| .fD,_,h| .mM,_,h| .bW,_,h| .jq,_,h=>by simpa[D.den]using h
 | .agg cs,_,h=>by
   obtain⟨a,rfl,h,hf⟩:=h
   exact⟨a,rfl,D.ba hb cs _ h,hf⟩
 | .sl es,_,h=>by
   obtain⟨base,len,cap,rfl,h1,h2,h3,sz,h4⟩:=h
   exact⟨base,len,cap,rfl,h1,h2,h3,sz,fun a ha=>⟨(h4 a ha).1,D.ui hb sz a es 0 (h4 a ha).2⟩⟩
 | .iface t d,_,h=>by
   obtain⟨u,rfl,h⟩:=h
   exact⟨u,rfl,D.aT hb d u h⟩
 | .mp ks vs,_,h=>by
   obtain⟨m,es,clock,p,rfl,h1,h2,h3,hp,h4,h5⟩:=h
   obtain⟨k1,k2⟩:=hb m (.inr ⟨es,clock,h1⟩) h2
   exact⟨m,es,clock,p,rfl,k1.trans h1,k2,h3,hp,D.ba hb ks _ h4,D.ba hb vs _ h5⟩
theorem D.ba {B B':Nat->Prop}{w w':World}(hb:∀b,dw w b-> ¬B b->w'.heap[b]? =w.heap[b]? /\ ¬B' b):
 ∀ (ds:List D) (vs:List Value),D.aN B w ds vs->D.aN B' w' ds vs
 |[],_,h=>h
 |d::ds,_,h=>by
  obtain⟨u,us,rfl,h1,h2⟩:=h
  exact⟨u,us,rfl,D.aT hb d u h1,D.ba hb ds us h2⟩
theorem D.ui {B B':Nat->Prop}{w w':World}(hb:∀b,dw w b-> ¬B b->w'.heap[b]? =w.heap[b]? /\ ¬B' b)(sz:Nat)(a:Addr):
 ∀ (es:List D) (i:Nat),D.elems B w sz a i es->D.elems B' w' sz a i es
 |[],_,_=>trivial
 |e::es,i,h=>by
  obtain⟨⟨ev,h1,h2,h3⟩,h4⟩:=h
  exact⟨⟨ev,h1,h2.mono hb,D.aT hb e ev h3⟩,D.ui hb sz a es (i+1) h4⟩
end
theorem aY.mono {B B':Nat->Prop}{w w':World}(hb:∀b,dw w b-> ¬B b->w'.heap[b]? =w.heap[b]? /\ ¬B' b):
 ∀ (l:List (D×D)) (es:List MapEntry),aY B w l es->aY B' w' l es
 |[],_,h=>h
 |(k,x)::l,_,h=>by
  obtain⟨e,es,rfl,h1,h2,h3⟩:=h
  exact⟨e,es,rfl,D.aT hb k _ h1,D.aT hb x _ h2,aY.mono hb l es h3⟩
theorem zb.mono {B B':Nat->Prop}{w w':World}(hb:∀b,dw w b-> ¬B b->w'.heap[b]? =w.heap[b]? /\ ¬B' b){l:List (D×D)}{last:Option (D×D)}{b:Nat}(hbb:w'.heap[b]? =w.heap[b]?)(h:zb B w l last b):zb B' w' l last b:=by
 rcases h with⟨h1,h2⟩|⟨m,since,seen,es,h1,h2,h3,h4,h5,h6⟩
 ·exact .inl ⟨hbb.trans h1,h2⟩
 ·obtain⟨k1,k2⟩:=hb m (.inr ⟨es,since,h2⟩) h3
  obtain⟨l',h5,AM⟩:=h5
  refine .inr ⟨m,since,seen,es,hbb.trans h1,k1.trans h2,k2,h4,⟨l',h5,aY.mono hb l' _ AM⟩,fun k x e=> ?_⟩
  obtain⟨e,g1,g2,g3,g4⟩:=h6 k x e
  exact⟨e,g1,g2,D.aT hb k _ g3,D.aT hb x _ g4⟩
theorem lC{B:Nat->Prop}{w:World}:∀ (l:List (D×D)) (es:List MapEntry),aY B w l es↔D.aN B w (l.map (·.1)) (es.map (·.key))/\D.aN B w (l.map (·.2)) (es.map (·.val))
 |[],es=>by
  simp only[aY,List.map_nil,D.aN]
  constructor
  ·rintro rfl;exact⟨rfl,rfl⟩
  ·rintro⟨h,_⟩;simpa using h
 |(k,x)::l,es=>by
  simp only[aY,List.map_cons,D.aN]
  constructor
  ·rintro⟨e,es',rfl,h1,h2,h3⟩
   obtain⟨g1,g2⟩:=(lC l es').1 h3
   exact⟨⟨_,_,rfl,h1,g1⟩,⟨_,_,rfl,h2,g2⟩⟩
  ·rintro⟨⟨u,us,h1,h2,h3⟩,⟨v,vs,h4,h5,h6⟩⟩
   cases es with
   |nil=>simp at h1
   |cons e es'=>
    simp only[List.map_cons,List.cons.injEq]at h1 h4
    obtain⟨rfl,rfl⟩:=h1
    obtain⟨rfl,rfl⟩:=h4
    exact⟨e,es',rfl,h2,h5,(lC l es').2 ⟨h3,h6⟩⟩
theorem D.aH {B:Nat->Prop}{w:World}:∀ (ds:List D) (vs:List Value),D.aN B w ds vs->vs.length=ds.length
 |[],_,h=>by simp[D.aN]at h;simp[h]
 |d::ds,_,h=>by obtain⟨u,us,rfl,_,h2⟩:=h;simp[D.aH ds us h2]
theorem D.dV {B:Nat->Prop}{w:World}:∀ (ds:List D) (vs:List Value) (i:Nat) (d:D),D.aN B w ds vs->ds[i]? =some d->∃v,vs[i]? =some v/\D.den B w d v
 |[],_,_,_,_,hd=>by simp at hd
 |d::ds,_,0,x,h,hd=>by
  obtain⟨u,us,rfl,h1,_⟩:=h
  simp at hd;subst hd;exact⟨u,aj,h1⟩
 |d::ds,_,i+1,x,h,hd=>by
  obtain⟨u,us,rfl,_,h2⟩:=h
  simpa using D.dV ds us i x h2 (by simpa using hd)
theorem D.xe {B:Nat->Prop}{w:World}{sz:Nat}{a:Addr}:∀ (es:List D) (i j:Nat) (e:D),D.elems B w sz a i es->es[j]? =some e->
 ∃ev:Value,ev.cells.size=sz/\iw B w (a.add ((i+j)*sz)) ev.cells/\D.den B w e ev
 |[],_,_,_,_,hd=>by simp at hd
 |e::es,i,0,x,h,hd=>by
  simp at hd;subst hd;simpa using h.1
 |e::es,i,j+1,x,h,hd=>by
  have:=D.xe es (i+1) j x h.2 (by simpa using hd)
  simpa[Nat.add_assoc,Nat.add_comm 1 j]using this
section
variable {M:Nat->Prop}{φ aQ:Place}{H H':Hp}{w w':World}
theorem Trans.blocks (ht:Trans φ H w aQ H' w')(b:Nat)(hc:dw w b)(h: ¬ay M φ H b):w'.heap[b]? =w.heap[b]? /\ ¬ay M aQ H' b:=by
 have hb:=hc.lt
 refine⟨ht.cA.block b hb fun hl=>h (.inr hl), ?_⟩
 rintro(h1|h1)
 ·exact h (.inl h1)
 ·rcases ht.grow b h1 with h2|h2
  ·exact h (.inr h2)
  ·omega
mutual
theorem V.lD (hb:∀b,dw w b-> ¬ay M φ H b->w'.heap[b]? =w.heap[b]? /\ ¬ay M aQ H' b)(hr:ew φ H aQ H'):∀ (x:V) (v:Value),V.den (ay M φ H) φ H w x v->V.den (ay M aQ H') aQ H' w' x v
 | .d x,v,h=>D.aT hb x v h
 | .bO,_,h=>h
 | .aa,_,_=>trivial
 | .qZ es,v,h=>⟨D.aT hb (.sl es) v h.1,h.2⟩
 | .xd id off n,v,h=>by
   obtain⟨h0,h1,h2⟩:=h
   refine⟨h0,hr.us id h1,fun bZ=> ?_⟩
   obtain⟨h3,h4⟩:=hr.row id h1 bZ
   obtain⟨b,h5,h6⟩:=h2 h3
   exact⟨b,h4.trans h5,h6⟩
 | .mp id,v,h=>by
   obtain⟨h0,h1,h2⟩:=h
   refine⟨h0,hr.us id h1,fun bZ=> ?_⟩
   obtain⟨h3,h4⟩:=hr.row id h1 bZ
   exact(h2 h3).trans h4.symm
 | .fh,v,h=>h
 | .jU id,v,h=>by
   obtain⟨h0,h1,h2⟩:=h
   refine⟨h0,hr.us id h1,fun bZ=> ?_⟩
   obtain⟨h3,h4⟩:=hr.row id h1 bZ
   obtain⟨b,h5,h6⟩:=h2 h3
   exact⟨b,h4.trans h5,h6⟩
 | .agg cs,_,h=>by obtain⟨a,rfl,h,hf⟩:=h;exact⟨a,rfl,V.gK hb hr cs _ h,hf⟩
 | .cp cs,_,h=>by obtain⟨a,rfl,h⟩:=h;exact⟨a,rfl,V.gK hb hr cs _ h⟩
 | .ptr id off,v,h=>by
   obtain⟨h0,h1,h2⟩:=h
   refine⟨h0,hr.us id h1,fun bZ=> ?_⟩
   obtain⟨h3,h4⟩:=hr.row id h1 bZ
   obtain⟨b,h5,h6⟩:=h2 h3
   exact⟨b,h4.trans h5,h6⟩
 | .osl id ep,v,h=>by
   obtain⟨h0,h1,h2⟩:=h
   refine⟨h0,hr.us id h1,fun e' oD=> ?_⟩
   obtain⟨e,g1,g2,g3⟩:=hr.ep id e' h1 oD
   obtain⟨h3,h4⟩:=h2 e g1
   refine⟨Nat.le_trans h3 g2,fun heq=> ?_⟩
   rw[g3 (by omega)]
   exact h4 ad
 | .pe id ep i sz off,v,h=>by
   obtain⟨h0,h1,h2⟩:=h
   refine⟨h0,hr.us id h1,fun e' oD=> ?_⟩
   obtain⟨e,g1,g2,g3⟩:=hr.ep id e' h1 oD
   obtain⟨h3,h4⟩:=h2 e g1
   refine⟨Nat.le_trans h3 g2,fun heq=> ?_⟩
   rw[g3 (by omega)]
   exact h4 ad
 | .pp cs off,v,h=>by
   obtain⟨a,ev,h1,h2,h3,h5,h4⟩:=h
   exact⟨a,ev,h1,h2,D.ba hb cs ev h3,h5,h4.mono hb⟩
 | .func fn first cap,_,h=>by
   obtain⟨f,c,rfl,h1,h2⟩:=h
   exact⟨f,c,rfl,V.gK hb hr first _ h1,V.gK hb hr cap _ h2⟩
 | .iface t x,_,h=>by obtain⟨u,rfl,h⟩:=h;exact⟨u,rfl,V.lD hb hr x u h⟩
theorem V.gK (hb:∀b,dw w b-> ¬ay M φ H b->w'.heap[b]? =w.heap[b]? /\ ¬ay M aQ H' b)(hr:ew φ H aQ H'):∀ (ds:List V) (vs:List Value),V.aN (ay M φ H) φ H w ds vs->V.aN (ay M aQ H') aQ H' w' ds vs
 |[],_,h=>h
 |x::xs,_,h=>by
  obtain⟨u,us,rfl,h1,h2⟩:=h
  exact⟨u,us,rfl,V.lD hb hr x u h1,V.gK hb hr xs us h2⟩
end
theorem V.aT (ht:Trans φ H w aQ H' w')(x:V)(v:Value)(h:V.den (ay M φ H) φ H w x v):V.den (ay M aQ H') aQ H' w' x v:=V.lD ht.blocks ht.rel x v h
theorem V.ba (ht:Trans φ H w aQ H' w')(ds:List V)(vs:List Value)(h:V.aN (ay M φ H) φ H w ds vs):V.aN (ay M aQ H') aQ H' w' ds vs:=V.gK ht.blocks ht.rel ds vs h
end
end Go.Proofs.YtonbelhklnmjnaaGreat
namespace Go.Proofs.YtonbelhklnmjnaaGreat
def aM{α:Type}(f:Nat->α)(i:Nat)(x:α):Nat->α:=fun j=>if j=i then x else f j
@[simp] theorem aS {α:Type} (f:Nat->α) (i:Nat) (x:α) (j:Nat):aM f i x j=if j=i then x else f j:=rfl
structure S where
 env:Nat->V
 o:Nat->ab
 nx:Nat
def S.H (s:S):Hp:=⟨s.o,fun id=>id<s.nx⟩
def V.dG:Value->V
 | .int k n=> .d (.int k n)| .bool b=> .d (.bool b)| .string s=> .d (.str s.data.toList)
 | .nilIface=> .d .fD| .pointer none=> .d .mM| .nilFunc=> .d .bW| .map none=> .d .jq
 | .slice none 0 0=> .bO
 |_=> .aa
def DC:List V->Option (List D)
 |[]=>some []
 | .d x::vs=>(DC vs).map (x::·)
 |_::_=>none
def mD(cs:List V):V:=match DC cs with|some ds=> .d (.agg ds)|none=> .agg cs
def V.ofConst:Value->V
 | .agg a=>if a.toList.all Value.oneCell' then mD (a.toList.map V.dG)else .aa
 |v=>V.dG v
def S.ev (s:S):Operand->V
 | .tmp t=>s.env t
 | .const v=>V.ofConst v
 | .func f=> .func (.func f) [] []
 | .global _=> .aa
def D.cells:D->List D
 | .agg cs=>cs
 |x=>[x]
def V.cells:V->Option (List V)
 | .d x=>some (x.cells.map .d)
 | .agg cs=>some cs
 | .cp _| .aa=>none
 |v=>some [v]
mutual
def eg(o:Nat->ab):V->Option D
 | .d x=>some x
 | .bO=>some (.sl [])
 | .qZ es=>some (.sl es)
 | .osl id ep=>match o id with
   | .arr jr _ _ es| .sv jr es=>if ep=jr then some (.sl es)else none
   |_=>none
 | .mp id=>match o id with
   | .map _ _ l=>some (.mp (l.map (·.1)) (l.map (·.2)))
   | .iP l=>some (.mp (l.map (·.1)) (l.map (·.2)))
   |_=>none
 | .agg cs=>(ct o cs).map .agg
 | .iface t x=>(eg o x).map (.iface t)
 |_=>none
def ct(o:Nat->ab):List V->Option (List D)
 |[]=>some []
 |v::vs=>(eg o v).bind fun x=>(ct o vs).map (x::·)
end
mutual
def V.ids:V->List Nat
 | .osl id _=>[id]
 | .mp id=>[id]
 | .agg cs=>V.bF cs
 | .iface _ x=>x.ids
 |_=>[]
def V.bF:List V->List Nat
 |[]=>[]
 |v::vs=>v.ids++V.bF vs
end
def dn(o:Nat->ab)(ids:List Nat):List (Nat×ab):=
 ids.map fun id=>(id,match o id with| .arr ep _ _ es=> .sv ep es| .map _ _ l=> .iP l|o=>o)
def rp(o:Nat->ab)(ids:List Nat):List (Nat×ab):=
 ids.filterMap fun id=>match o id with| .arr ep _ _ es=>some (id, .sv ep es)|_=>none
def put(o:Nat->ab)(Δ:List (Nat×ab)):Nat->ab:=Δ.foldl (fun f x=>aM f x.1 x.2) o
def Hp.put (H:Hp)(Δ:List (Nat×ab)):Hp:={o:=YtonbelhklnmjnaaGreat.put H.o Δ,us:=fun id=>H.us id\/id∈Δ.map (·.1)}
def cN(P:Program)(t:TypeId):Option (List V):=
 match P.info? t with
 |some i=>match i.zero with
  |some z=>if z.cells.size=i.size/\z.cells.toList.all Value.oneCell'=true then some (z.cells.toList.map V.dG)else none
  |none=>none
 |none=>none
def dA(P:Program)(t:TypeId):Option Bool:=
 match P.underlying t with
 |some (.struct _)|some (.array _ _)=>some true
 |some _=>some false
 |none=>none
def cD(P:Program)(t:TypeId)(f:Nat):Option Nat:=
 match P.underlying t with
 |some (.struct fs)=>match fs[f]? with
  |some fd=>if P.cellsOf fd.type=0 then none else some fd.offset
  |none=>none
 |_=>none
def cK(P:Program)(t:TypeId):Option TypeId:=
 match P.underlying t with
 |some (.slice e)=>some e
 |_=>none
def A2(P:Program)(t:TypeId):Option (Nat×TypeId):=
 match P.underlying t with
 |some (.array n e)=>some (n,e)
 |_=>none
def gy(P:Program)(t:TypeId):Option (List (Nat×Nat)):=
 match P.underlying t with
 |some (.struct fs)=>if fs.toList.all (fun f=>(P.info? f.type).isSome)=true then some (fs.toList.map fun f=>(f.offset,P.cellsOf f.type))else none
 |some (.array n e)=>if(P.info? e).isSome=true then some ((List.range n).map fun i=>(i*P.cellsOf e,P.cellsOf e))else none
 |_=>none
def uj(P:Program)(t:TypeId):Option IntKind:=
 match P.underlying t with
 |some (.int k)=>some k
 |_=>none
def fi(P:Program)(t:TypeId)(cs:List V)(off:Nat):Option V:=
 match dA P t with
 |some true=>if off+P.cellsOf t<=cs.length then some (mD ((cs.drop off).take (P.cellsOf t)))else none
 |some false=>cs[off]?
 |none=>none
def zc(P:Program)(t:TypeId)(cs:List V)(off:Nat)(v:V):Option (List V):=
 match v.cells with
 |some us=>if us.length=P.cellsOf t/\(0<us.length\/(P.info? t).isSome=true)/\off+us.length<=cs.length then some (cs.take off++us++cs.drop (off+us.length))else none
 |none=>none
def sw(places:List (Nat×Nat))(cs:List V):List (Nat×V)->Option (List V)
 |[]=>some cs
 |(i,v)::rest=>match places[i]?,v.cells with
  |some (off,size),some us=>if us.length=size/\off+us.length<=cs.length then sw places (cs.take off++us++cs.drop (off+us.length)) rest else none
  |_,_=>none
def D.put (e:D)(off:Nat)(us:List D):Option D:=
 match e with
 | .agg cs=>if off+us.length<=cs.length then some (.agg (cs.take off++us++cs.drop (off+us.length)))else none
 |_=>match off,us with
  |0,[u]=>some u
  |_,_=>none
def X9(op:BinOp)(a b:Int):Option Bool:=
 match op with
 | .eql=>some (a==b)| .neq=>some (a !=b)| .lss=>some (decide (a<b))| .leq=>some (decide (a<=b))
 | .gtr=>some (decide (a>b))| .geq=>some (decide (a≥b))
 |_=>none
def uk(op:BinOp)(k:IntKind)(x y:Int):Option Int:=
 let a:=BitVec.ofInt k.bits x
 let b:=BitVec.ofInt k.bits y
 match op with
 | .and=>some (k.wrap (a&&&b).toNat)
 | .or=>some (k.wrap (a|||b).toNat)
 | .xor=>some (k.wrap (a ^^^ b).toNat)
 | .andNot=>some (k.wrap (a&&& ~~~b).toNat)
 |_=>none
def Nn(op:BinOp)(k:IntKind)(a b:Int)(K:V->Prop):Prop:=
 match op with
 | .add=>K (.d (.int k (k.wrap (a+b))))
 | .sub=>K (.d (.int k (k.wrap (a - b))))
 | .mul=>K (.d (.int k (k.wrap (a*b))))
 | .quo=>b≠0/\K (.d (.int k (k.wrap (a.tdiv b))))
 | .rem=>b≠0/\K (.d (.int k (a.tmod b)))
 | .and| .or| .xor| .andNot=>∃r,uk op k a b=some r/\K (.d (.int k r))
 | .shl| .shr=>False
 |op=>∃r,X9 op a b=some r/\K (.d (.bool r))
def Jr(P:Program)(t:TypeId)(x y:D)(r:Bool):Prop:=
 ∀ (B:Nat->Prop) (w:World) (u v:Value),D.den B w x u->D.den B w y v->(Op.equal t u v).run P w= .ok r w/\∀ (op:BinOp) (a b:Operand),(eqGuard op t a b u v).run P w= .ok () w
def Js(P:Program)(op:BinOp)(t:TypeId)(x y:V)(K:V->Prop):Prop:=
 match x,y with
 | .d (.int k a), .d (.int k' b)=>k=k'/\Nn op k a b K
 | .d (.bool a), .d (.bool b)=>match op with
   | .eql=>P.underlying t=some .bool/\K (.d (.bool (a==b)))
   | .neq=>P.underlying t=some .bool/\K (.d (.bool (a !=b)))
   |_=>False
 | .d (.str a), .d (.str b)=>match op with
   | .eql=>K (.d (.bool (a==b)))
   | .neq=>K (.d (.bool (a !=b)))
   |_=>False
 | .d (.agg a), .d (.agg b)=>match op with
   | .eql=>∃r,Jr P t (.agg a) (.agg b) r/\K (.d (.bool r))
   | .neq=>∃r,Jr P t (.agg a) (.agg b) r/\K (.d (.bool !r))
   |_=>False
 |_,_=>False
def Ya(op:UnOp)(x:V)(K:V->Prop):Prop:=
 match op,x with
 | .neg, .d (.int k n)=>K (.d (.int k (k.wrap (0 - n))))
 | .not, .d (.bool b)=>K (.d (.bool !b))
 |_,_=>False
def A3(c a b:V)(K:V->Prop):Prop:=
 match c with
 | .d (.bool t)=>(t=true->K a)/\(t=false->K b)
 |_=>False
def Jt(P:Program)(t:TypeId)(o:Nat->ab)(x:V)(K:V->List Nat->Prop):Prop:=
 match P.underlying t with
 |some (.slice _)=>match x with
  | .d (.sl es)=>K (.d (.int .i64 es.length)) []
  | .bO=>K (.d (.int .i64 0)) []
  | .qZ es=>K (.d (.int .i64 es.length)) []
  | .osl id ep=>match o id with
    | .arr jr _ _ es| .sv jr es=>ep=jr/\K (.d (.int .i64 es.length)) [id]
    |_=>False
  |_=>False
 |some .string=>match x with
  | .d (.str s)=>K (.d (.int .i64 s.length)) []
  |_=>False
 |some (.array n _)=>K (.d (.int .i64 n)) []
 |_=>False
def j7(P:Program)(o:Nat->ab)(t:TypeId)(x ix:V)(K:V->List Nat->Prop):Prop:=
 match ix with
 | .d (.int _ i)=>match cK P t with
   |some e=>match x with
    | .d (.sl es)=>0<=i/\∃y,es[i.toNat]? =some y/\y.cells.length=P.cellsOf e/\0<P.cellsOf e/\K (.pp y.cells 0) []
    | .qZ es=>0<=i/\∃y,es[i.toNat]? =some y/\y.cells.length=P.cellsOf e/\0<P.cellsOf e/\K (.pp y.cells 0) []
    | .osl id ep=>match o id with
      | .arr jr _ sz es=>ep=jr/\0<=i/\i.toNat<es.length/\sz=P.cellsOf e/\0<P.cellsOf e/\K (.pe id ep i.toNat sz 0) [id]
      | .sv jr es=>ep=jr/\0<=i/\∃y,es[i.toNat]? =some y/\y.cells.length=P.cellsOf e/\0<P.cellsOf e/\K (.pp y.cells 0) [id]
      |_=>False
    |_=>False
   |none=>match A2 P t with
    |some (n,e)=>0<=i/\i<n/\(P.info? e).isSome=true/\(match x with
     | .ptr id off=>(o id).cC=true/\K (.ptr id (off+i.toNat*P.cellsOf e)) []
     | .pp cs off=>K (.pp cs (off+i.toNat*P.cellsOf e)) []
     | .pe id ep j sz off=>(o id).cy=some ep/\K (.pe id ep j sz (off+i.toNat*P.cellsOf e)) []
     |_=>False)
    |none=>False
 |_=>False
def j8(P:Program)(o:Nat->ab)(t:TypeId)(x:V)(f:Nat)(K:V->Prop):Prop:=
 match cD P t f with
 |some q=>match x with
  | .ptr id off=>(o id).cC=true/\K (.ptr id (off+q))
  | .pp cs off=>K (.pp cs (off+q))
  | .pe id ep j sz off=>(o id).cy=some ep/\K (.pe id ep j sz (off+q))
  |_=>False
 |none=>False
def A4(P:Program)(o:Nat->ab)(t:TypeId)(x:V)(K:V->List Nat->Prop):Prop:=
 match x with
 | .ptr id off=>match o id with
   | .row cs=>∃v,fi P t cs off=some v/\K v [id]
   |_=>False
 | .pp cs off=>∃v,fi P t (cs.map .d) off=some v/\K v []
 | .pe id ep i sz off=>match o id with
   | .arr jr _ ra es=>ep=jr/\sz=ra/\∃e,es[i]? =some e/\∃v,fi P t (e.cells.map .d) off=some v/\K v [id]
   |_=>False
 |_=>False
def um(P:Program)(o:Nat->ab)(t:TypeId)(x v:V)(K:List (Nat×ab)->List Nat->Prop):Prop:=
 match x with
 | .ptr id off=>match o id with
   | .row cs=>∃cs',zc P t cs off v=some cs'/\K [(id, .row cs')] [id]
   |_=>False
 | .pe id ep i ra off=>match o id with
   | .arr jr ty sz es=>ep=jr/\ra=sz/\∃e,es[i]? =some e/\∃y,eg o v=some y/\y.cells.length=P.cellsOf t/\0<y.cells.length/\v.ids.all (· !=id)=true/\
    ∃e',e.put off y.cells=some e'/\K (dn o v.ids++[(id, .arr ep ty sz (es.set i e'))]) (id::v.ids)
   |_=>False
 |_=>False
def js(P:Program)(o:Nat->ab)(fr:Nat)(t:TypeId)(len:Nat)(parts:List (Nat×V))(K:V->List (Nat×ab)->List Nat->Prop):Prop:=
 match cK P t with
 |some e=>(len=0/\parts=[]/\0<P.cellsOf e/\K (.osl fr 0) [(fr, .arr 0 e (P.cellsOf e) [])] [])\/(parts.map (·.1)=List.range len)/\(cN P e).isSome=true/\0<len/\0<P.cellsOf e/\len*P.cellsOf e<=2^24/\
  ∃ds,ct o (parts.map (·.2))=some ds/\(∀x∈ds,x.cells.length=P.cellsOf e)/\
   K (.osl fr 0) (dn o (V.bF (parts.map (·.2)))++[(fr, .arr 0 e (P.cellsOf e) ds)]) (V.bF (parts.map (·.2)))
 |none=>False
def A5(P:Program)(e:TypeId):Option D:=
 match cN P e with
 |some z=>match ct (fun _=> .no) z,dA P e with
  |some ds,some true=>some (.agg ds)
  |some [x],some false=>some x
  |_,_=>none
 |none=>none
def j9(P:Program)(fr:Nat)(t:TypeId)(l c:V)(K:V->List (Nat×ab)->Prop):Prop:=
 match cK P t,l,c with
 |some e, .d (.int _ n), .d (.int _ m)=>n=m/\0<=n/\0<P.cellsOf e/\P.bytesOf e*n.toNat<=2^47/\n.toNat<=2^47/\
  ∃x,A5 P e=some x/\K (.osl fr 0) [(fr, .arr 0 e (P.cellsOf e) (List.replicate n.toNat x))]
 |_,_,_=>False
def fj(o:Nat->ab)(x:V):Option (List D):=
 match eg o x with
 |some (.sl es)=>some es
 |_=>none
def pR(P:Program)(o:Nat->ab)(fr:Nat)(ts:Array TypeId)(x y:V)(K:V->List (Nat×ab)->List Nat->Prop):Prop:=
 match ts.toList with
 |[t,t']=>t=t'/\(match cK P t with
  |some e=>∃new,fj o y=some new/\0<P.cellsOf e/\(cN P e).isSome=true/\(∀z∈new,z.cells.length=P.cellsOf e)/\(match x with
   | .bO=>new.length<=2^47/\new.length*P.bytesOf e<=2^47/\K (.osl fr 0) [(fr, .arr 0 e (P.cellsOf e) new)] y.ids
   | .qZ es=>(∀z∈es,z.cells.length=P.cellsOf e)/\(if new=[]then K (.qZ es) [] y.ids else es.length+new.length<=2^40/\(es.length+new.length)*P.bytesOf e<=2^40/\K (.osl fr 0) [(fr, .arr 0 e (P.cellsOf e) (es++new))] y.ids)
   | .osl id ep=>match o id with
     | .arr jr ty sz es=>ep=jr/\ty=e/\sz=P.cellsOf e/\es.length+new.length<=2^47/\(es.length+new.length)*P.bytesOf e<=2^47/\
      K (.osl id (ep+1)) [(id, .arr (ep+1) ty sz (es++new))] (id::y.ids)
     |_=>False
   |_=>False)
  |none=>False)
 |_=>False
def nV(isMax:Bool)(args:List V)(K:V->Prop):Prop:=
 match args with
 |[.d (.int k a), .d (.int k' b)]=>k=k'/\K (.d (.int k (if isMax then(if b>a then b else a)else(if b<a then b else a))))
 |_=>False
def lE(o:Nat->ab)(x:V)(K:V->Prop):Prop:=
 match x with
 | .ptr id off=>(o id).cC=true/\K (.ptr id off)
 | .pp cs off=>K (.pp cs off)
 | .func (.func f) first cap=>K (.func (.func f) first cap)
 |_=>False
def ke(P:Program)(t:TypeId)(xs:List D)(off:Nat):Option D:=
 match dA P t with
 |some true=>if off+P.cellsOf t<=xs.length then some (.agg ((xs.drop off).take (P.cellsOf t)))else none
 |some false=>xs[off]?
 |none=>none
inductive abJ where
 |int|bool|str|struct (fs:List (TypeId×Nat))|arr (n:Nat) (e:TypeId)
def cn(P:Program)(t:TypeId):Option abJ:=
 match P.underlying t with
 |some (.int _)=>some .int
 |some .bool=>some .bool
 |some .string=>some .str
 |some (.struct fs)=>if(!P.stoodInHeld t&&fs.toList.all (fun f=>f.name != "_"))=true then some (.struct (fs.toList.map fun f=>(f.type,f.offset)))else none
 |some (.array n e)=>if(P.info? e).isSome=true then some (.arr n e)else none
 |_=>none
def Ju(a b:Option Bool):Option Bool:=
 match a,b with
 |some a,some b=>some (a&&b)
 |_,_=>none
def A6(f:TypeId->Nat->Option Bool):List (TypeId×Nat)->Option Bool
 |[]=>some true
 |x::l=>Ju (f x.1 x.2) (A6 f l)
def E6(f:Nat->Option Bool):Nat->Nat->Option Bool
 |0,_=>some true
 |n+1,i=>Ju (f i) (E6 f n (i+1))
def Tg(f:D->D->Option Bool)(x y:Option D):Option Bool:=
 match x,y with
 |some x,some y=>f x y
 |_,_=>none
def rb(P:Program):Nat->TypeId->D->D->Option Bool
 |0,_,_,_=>none
 |d+1,t,x,y=>match cn P t with
  |some .int=>match x,y with| .int k a, .int k' b=>if k=k' then some (a==b)else none|_,_=>none
  |some .bool=>match x,y with| .bool a, .bool b=>some (a==b)|_,_=>none
  |some .str=>match x,y with| .str a, .str b=>some (a==b)|_,_=>none
  |some (.struct fs)=>match x,y with
   | .agg xs, .agg ys=>A6 (fun u off=>Tg (rb P d u) (ke P u xs off) (ke P u ys off)) fs
   |_,_=>none
  |some (.arr n e)=>match x,y with
   | .agg xs, .agg ys=>E6 (fun i=>Tg (rb P d e) (ke P e xs (i*P.cellsOf e)) (ke P e ys (i*P.cellsOf e))) n 0
   |_,_=>none
  |none=>none
abbrev gL:=V×List (Nat×ab)×List Nat
def dp(x:Option gL)(K:V->List (Nat×ab)->List Nat->Prop):Prop:=
 match x with
 |some (v,Δ,rd)=>K v Δ rd
 |none=>False
def GZ(x:Option V)(abK:Nat):Option Nat:=
 match x with
 |none=>some abK
 |some (.d (.int _ i))=>if 0<=i then some i.toNat else none
 |_=>none
def oV(o:Nat->ab)(x:V):Option (Nat×Nat):=
 match x with
 | .ptr id off=>if(o id).cC=true then some (id,off)else none
 |_=>none
def oW(o:Nat->ab)(x:V):Option (Nat×Nat×Nat×List V):=
 match x with
 | .xd id off n=>match o id with
   | .row cs=>some (id,off,n,cs)
   |_=>none
 |_=>none
def DD(P:Program)(o:Nat->ab)(t:TypeId)(x:V)(lo hi mx:Option V):Option gL:=
 match x with
 | .bO=>match lo,hi,mx with
   |none,some (.d (.int _ k)),none=>match cK P t with
    |some e=>if k=0/\(P.info? e).isSome=true then some (.bO,[],[])else none
    |none=>none
   |_,_,_=>none
 | .osl id ep=>match lo,hi,mx with
   |none,some (.d (.int _ k)),none=>match cK P t,o id with
    |some e, .arr jr ty sz _=>if k=0/\ep=jr/\(P.info? e).isSome=true then some (.osl id (ep+1),[(id, .arr (ep+1) ty sz [])],[id])else none
    |_,_=>none
   |_,_,_=>none
 |_=>none
def pS(P:Program)(o:Nat->ab)(t:TypeId)(x:V)(lo hi mx:Option V):Option gL:=
 match cK P t with
 |some e=>match fj o x,GZ lo 0 with
  |some es,some l=>match GZ hi es.length with
   |some h=>if l<=h/\h<=es.length/\(P.info? e).isSome=true/\(l=0\/es.all (fun y=>y.cells.length==P.cellsOf e)=true)then match mx with
    |none=>some (.d (.sl ((es.take h).drop l)),dn o x.ids,x.ids)
    |some m=>match hi,GZ (some m) 0 with
     |some _,some m=>if h<=m/\m<=es.length then some (if h=m then .qZ ((es.take h).drop l)else .d (.sl ((es.take h).drop l)),dn o x.ids,x.ids)else none
     |_,_=>none
    else none
   |none=>none
  |_,_=>none
 |none=>match A2 P t,lo,hi,mx with
  |some (n,e),none,none,none=>match oV o x with
   |some (id,off)=>if(P.info? e).isSome=true then some (.xd id off n,[],[id])else none
   |none=>none
  |_,_,_,_=>none
def rq(P:Program)(o:Nat->ab)(t:TypeId)(x:V)(lo hi mx:Option V):Option gL:=
 match DD P o t x lo hi mx with
 |some r=>some r
 |none=>pS P o t x lo hi mx
def xf(P:Program)(o:Nat->ab)(ts:Array TypeId)(x y:V):Option gL:=
 match ts.toList with
 |[t,_]=>match cK P t with
  |some e=>match oW o x,fj o y with
   |some (id,off,n,cs),some es=>if P.cellsOf e=1/\off+n<=cs.length/\es.all (fun z=>z.cells.length==1)=true/\y.ids.all (· !=id)=true then
    some (.d (.int .i64 ((min es.length n:Nat):Int)),dn o y.ids++[(id, .row (cs.take off++((es.take n).flatMap D.cells).map .d++cs.drop (off+(es.take n).length)))],id::y.ids)else none
   |_,_=>none
  |none=>none
 |_=>none
def zd(P:Program)(t:TypeId)(f:Nat):Option (Nat×TypeId):=
 match P.underlying t with
 |some (.struct fs)=>match fs[f]? with
  |some fd=>some (fd.offset,fd.type)
  |none=>none
 |_=>none
def uo(P:Program)(t:TypeId)(x:V)(f:Nat):Option V:=
 match zd P t f with
 |some (off,u)=>match x with
  | .d (.agg cs)=>(ke P u cs off).map .d
  | .agg cs=>fi P u cs off
  |_=>none
 |none=>none
def uq(P:Program)(t:TypeId)(x i:V):Option V:=
 match i with
 | .d (.int _ i)=>if 0<=i then match P.underlying t with
  |some .string=>match x with
   | .d (.str s)=>match s[i.toNat]? with
     |some b=>some (.d (.int .u8 b.toNat))
     |none=>none
   |_=>none
  |some (.array n e)=>if i<n/\(P.info? e).isSome=true then match x with
   | .d (.agg cs)=>(ke P e cs (i.toNat*P.cellsOf e)).map .d
   | .agg cs=>fi P e cs (i.toNat*P.cellsOf e)
   |_=>none
   else none
  |_=>none
   else none
 |_=>none
def oX(P:Program)(t:TypeId):Bool:=
 match P.underlying t with
 |some (.interface _)=>false
 |some _=>true
 |none=>false
def zeroV(P:Program)(t:TypeId):Option V:=
 match P.info? t with
 |some i=>match i.zero with
  |some (.agg a)=>if a.toList.all Value.oneCell'=true then some (mD (a.toList.map V.dG))else none
  |some v=>if v.oneCell'=true then some (V.dG v)else none
  |none=>none
 |none=>none
def pT(P:Program)(t:TypeId)(ok:Bool)(x:V):Option V:=
 if oX P t=true then match x with
  | .d (.iface u y)=>if u=t then some (if ok=true then .cp [.d y, .d (.bool true)]else .d y)
   else if ok=true then(zeroV P t).map fun z=> .cp [z, .d (.bool false)]else none
  | .d .fD=>if ok=true then(zeroV P t).map fun z=> .cp [z, .d (.bool false)]else none
  |_=>none
 else none
def A7(o:Nat->ab)(x:V):Option V:=
 match x with
 | .bO=>some (.d (.bool true))
 |x=>match fj o x with
  |some es=>some (if es=[]then .fh else .d (.bool false))
  |none=>none
def isConst:Operand->Bool
 | .const _=>true
 |_=>false
def Np:V->Option V
 | .d (.bool b)=>some (.d (.bool !b))
 | .fh=>some .fh
 |_=>none
def rr(o:Nat->ab)(x:V):Option V:=
 match x with
 | .d .jq=>some (.d (.bool true))
 | .d (.mp _ _)=>some (.d (.bool false))
 | .mp id=>match o id with| .map _ _ _=>some (.d (.bool false))| .iP _=>some (.d (.bool false))|_=>none
 |_=>none
def rv(o:Nat->ab)(x:V):Option V:=
 match x with
 | .d .mM=>some (.d (.bool true))
 | .ptr id _=>if(o id).cC=true then some (.d (.bool false))else none
 | .pp _ _=>some (.d (.bool false))
 |_=>none
def eqI(P:Program)(a b:TypeId)(x y:D):Option Bool:=
 if a=b then(match P.info? a,P.underlying a with
  |some i,some (.int _)=>if i.comparable=true then(match x,y with
   | .int k m, .int k' n=>if k=k' then some (m==n)else none
   |_,_=>none)else none
  |_,_=>none)
 else some false
def pU(P:Program)(o:Nat->ab)(t:TypeId)(oY:Bool)(x y:V):Option V:=
 match P.underlying t with
 |some (.interface _)=>match x,y with
  | .d .fD, .d .fD=>if oY=true then some (.d (.bool true))else none
  | .d (.iface _ _), .d .fD| .iface _ _, .d .fD| .d .fD, .d (.iface _ _)| .d .fD, .iface _ _=>some (.d (.bool false))
  | .d (.iface a x), .d (.iface b y)=>(eqI P a b x y).map fun r=> .d (.bool r)
  |_,_=>none
 |some (.func _ _ _)=>match x,y with
  | .d .bW, .d .bW=>some (.d (.bool true))
  | .func _ _ _, .d .bW=>some (.d (.bool false))
  |_,_=>none
 |some (.map _ _)=>match y with
  | .d .jq=>rr o x
  |_=>none
 |some (.pointer _)=>match y with
  | .d .mM=>rv o x
  |_=>none
 |some (.slice _)=>match y with
  | .bO=>A7 o x
  |_=>none
 |some (.struct _)|some (.array _ _)=>match x,y with
  | .d (.agg cu), .d (.agg bs)=>if P.eqGuardType P.depth t=false then(rb P 100 t (.agg cu) (.agg bs)).map fun r=> .d (.bool r)else none
  |_,_=>none
 |_=>none
def ry(P:Program)(o:Nat->ab)(op:BinOp)(t:TypeId)(oY:Bool)(x y:V):Option gL:=
 match op with
 | .eql=>(pU P o t oY x y).map fun v=>(v,[],[])
 | .neq=>((pU P o t oY x y).bind Np).map fun v=>(v,[],[])
 |_=>none
mutual
def D.same:D->D->Bool
 | .int k a, .int j b=>k==j&&a==b
 | .bool a, .bool b=>a==b
 | .str a, .str b=>a==b
 | .fD, .fD| .mM, .mM| .bW, .bW| .jq, .jq=>true
 | .agg cu, .agg bs=>D.gW cu bs
 | .sl cu, .sl bs=>D.gW cu bs
 | .iface t a, .iface u b=>t==u&&a.same b
 | .mp ks vs, .mp ks' Th=>D.gW ks ks'&&D.gW vs Th
 |_,_=>false
def D.gW:List D->List D->Bool
 |[],[]=>true
 |a::cu,b::bs=>a.same b&&D.gW cu bs
 |_,_=>false
end
def pV(P:Program)(t:TypeId):Option (TypeId×TypeId):=
 match P.underlying t with
 |some (.map k v)=>some (k,v)
 |_=>none
def ou(P:Program):Nat->TypeId->D->Bool
 |0,_,_=>false
 |d+1,t,x=>match cn P t with
  |some .int|some .bool|some .str=>true
  |some (.struct fs)=>match x with
   | .agg xs=>fs.all fun f=>match ke P f.1 xs f.2 with|some y=>ou P d f.1 y|none=>false
   |_=>false
  |some (.arr n e)=>match x with
   | .agg xs=>(List.range n).all fun i=>match ke P e xs (i*P.cellsOf e)with|some y=>ou P d e y|none=>false
   |_=>false
  |none=>false
def findD(P:Program)(kt:TypeId)(k:D):List (D×D)->Nat->Option (Option (Nat×D×D))
 |[],_=>some none
 |(k',x)::l,i=>match rb P 100 kt k k' with
  |some true=>some (some (i,k',x))
  |some false=>findD P kt k l (i+1)
  |none=>none
def oE:D->Bool
 | .int _ _| .bool _| .str _=>true
 |_=>false
def lb:D->Bool
 | .agg cs=>cs.all oE
 |x=>oE x
def oF(o:Nat->ab)(m:V):Option (Option (Nat×TypeId×TypeId)×List (D×D)):=
 match m with
 | .mp id=>match o id with
   | .map kt vt l=>some (some (id,kt,vt),l)
   |_=>none
 | .d .jq=>some (none,[])
 |_=>none
def pW(o:Nat->ab)(m:V):Option (List Nat×List (D×D)):=
 match m with
 | .mp id=>match o id with
   | .map _ _ l=>some ([id],l)
   | .iP l=>some ([id],l)
   |_=>none
 | .d .jq=>some ([],[])
 | .d (.mp ks vs)=>some ([],ks.zip vs)
 |_=>none
def abL(r:Option (Nat×TypeId×TypeId)):List Nat:=match r with|some p=>[p.1]|none=>[]
def jl(P:Program)(o:Nat->ab)(t:TypeId)(m k:V)(ok:Bool):Option gL:=
 match pV P t,eg o k,pW o m with
 |some (kt,vt),some kd,some (rd,l)=>if k.ids=[]/\ou P 100 kt kd=true then match findD P kt kd l 0 with
  |some (some (_,_,x))=>some (if ok=true then .cp [.d x, .d (.bool true)]else .d x,[],rd)
  |some none=>match zeroV P vt with
   |some z=>some (if ok=true then .cp [z, .d (.bool false)]else z,[],rd)
   |none=>none
  |none=>none
  else none
 |_,_,_=>none
def gz(P:Program)(o:Nat->ab)(t:TypeId)(m k v:V):Option gL:=
 match pV P t,eg o k,eg o v,oF o m with
 |some (kt,_),some kd,some vd,some (some (id,E7,E8),l)=>if k.ids=[]/\ou P 100 kt kd=true/\lb kd=true/\v.ids.all (· !=id)=true then match findD P kt kd l 0 with
  |some (some (i,k',_))=>if k'.same kd=true then some (.cp [],dn o v.ids++[(id, .map E7 E8 (l.set i (kd,vd)))],id::v.ids)else none
  |some none=>some (.cp [],dn o v.ids++[(id, .map E7 E8 (l++[(kd,vd)]))],id::v.ids)
  |none=>none
  else none
 |_,_,_,_=>none
def mX(P:Program)(fr:Nat)(t:TypeId):Option gL:=
 match pV P t with
 |some (kt,vt)=>some (.mp fr,[(fr, .map kt vt [])],[])
 |none=>none
def mY(P:Program)(o:Nat->ab)(fr:Nat)(t:TypeId)(x:V):Option gL:=
 match P.underlying t with
 |some .string=>match x with
  | .d (.str s)=>some (.ptr fr 0,[(fr, .za s 0)],[])
  |_=>none
 |some (.map _ _)=>match x with
  | .d .jq=>some (.ptr fr 0,[(fr, .mW [] none)],[])
  | .d (.mp ks vs)=>some (.ptr fr 0,[(fr, .mW (ks.zip vs) none)],[])
  | .mp id=>match o id with
    | .map _ _ l=>some (.ptr fr 0,[(id, .iP l),(fr, .mW l none)],[id])
    | .iP l=>some (.ptr fr 0,[(fr, .mW l none)],[id])
    |_=>none
  |_=>none
 |_=>none
def oG(o:Nat->ab)(x:V)(str:Bool):Option gL:=
 match x with
 | .ptr id 0=>match o id with
   | .za s pos=>if str=true then
    (if pos<s.length then some (.cp [.d (.bool true), .d (.int .i64 pos), .d (.int .i32 (Utf8.decode ⟨⟨s⟩⟩ pos).1)],[(id, .za s (pos+(Utf8.decode ⟨⟨s⟩⟩ pos).2))],[id])else some (.cp [.d (.bool false)],[],[id]))
     else none
   |_=>none
 |_=>none
def oH(o:Nat->ab)(x:V):Option (Nat×List (D×D)):=
 match x with
 | .ptr id 0=>match o id with
   | .mW l _=>some (id,l)
   |_=>none
 |_=>none
def E9(id:Nat)(l:List (D×D))(K:V->List (Nat×ab)->List Nat->Prop):Prop:=
 (l=[]->K (.cp [.d (.bool false)]) [] [id])/\∀i k x,l[i]? =some (k,x)->K (.cp [.d (.bool true), .d k, .d x]) [(id, .mW (l.eraseIdx i) (some (k,x)))] [id]
def mZ(o:Nat->ab)(x:V):Option gL:=
 match x with
 | .ptr id 0=>match o id with
   | .mW _ (some (k,x))=>some (.cp [.d k, .d x],[],[id])
   |_=>none
 |_=>none
def nW(P:Program)(o:Nat->ab)(t:TypeId)(m k:V):Option gL:=
 match pV P t,eg o k,oF o m with
 |some (kt,_),some kd,some (some (id,E7,E8),l)=>if k.ids=[]/\ou P 100 kt kd=true then match findD P kt kd l 0 with
  |some (some (i,_,_))=>some (.cp [],[(id, .map E7 E8 (l.eraseIdx i))],[id])
  |some none=>some (.cp [],[],[id])
  |none=>none
  else none
 |_,_,_=>none
def Jv(x y z:V):Option V:=
 match x,y,z with
 | .d (.int k a), .d (.int k' b), .d (.int k'' c)=>if k=k'/\k=k'' then some (.d (.int k (if c>(if b>a then b else a)then c else(if b>a then b else a))))else none
 |_,_,_=>none
def Nq(P:Program)(ts:Array TypeId)(x:V):Option gL:=
 match ts.toList with
 |[t]=>match cK P t with
  |some _=>match x with
   | .bO=>some (.d (.int .i64 0),[],[])
   |_=>none
  |none=>none
 |_=>none
def xg(P:Program)(fr:Nat)(ts:Array TypeId)(x y:V):Option gL:=
 match ts.toList with
 |[t,t']=>if t=t' then none else match cK P t with
  |some e=>match uj P t',x,y with
   |some _, .bO, .d (.int _ n)=>if 0<n/\0<P.cellsOf e/\n.toNat*P.bytesOf e<=2^40/\n.toNat<=2^40 then match A5 P e with
    |some z=>some (.osl fr 0,[(fr, .arr 0 e (P.cellsOf e) (List.replicate n.toNat z))],[])
    |none=>none
    else none
   |_,_,_=>none
  |none=>none
 |_=>none
def ur(P:Program)(s:S)(fr:Nat)(b:Builtin)(args:List Operand)(ts:Array TypeId)(K:V->List (Nat×ab)->List Nat->Prop):Prop:=
 match b,args with
 | .len,[x]=>∃t,ts.toList=[t]/\Jt P t s.o (s.ev x) fun v rd=>K v [] rd
 | .append,[x,y]=>dp (xg P fr ts (s.ev x) (s.ev y)) K\/pR P s.o fr ts (s.ev x) (s.ev y) K
 | .max,[x,y]=>nV true [s.ev x,s.ev y] fun v=>K v [] []
 | .min,[x,y]=>nV false [s.ev x,s.ev y] fun v=>K v [] []
 | .max,[x,y,z]=>dp ((Jv (s.ev x) (s.ev y) (s.ev z)).map fun v=>(v,[],[])) K
 | .copy,[x,y]=>dp (xf P s.o ts (s.ev x) (s.ev y)) K
 | .delete,[x,y]=>∃t,ts.toList.head?=some t/\dp (nW P s.o t (s.ev x) (s.ev y)) K
 | .cap,[x]=>dp (Nq P ts (s.ev x)) K
 |_,_=>False
def PG(P:Program)(s:S)(fr:Nat)(op:Op)(K:V->List (Nat×ab)->List Nat->Prop):Prop:=
 match op with
 | .move x| .assign x=>K (s.ev x) [] []
 | .pick c a b=>A3 (s.ev c) (s.ev a) (s.ev b) fun v=>K v [] []
 | .alloc t=>∃cs,cN P t=some cs/\K (.ptr fr 0) [(fr, .row cs)] []
 | .box _ x=>∃cs,(s.ev x).cells=some cs/\K (.ptr fr 0) [(fr, .row cs)] []
 | .build t parts=>∃z pl cs,cN P t=some z/\gy P t=some pl/\sw pl z (parts.toList.map fun p=>(p.1,s.ev p.2))=some cs/\K (mD cs) [] []
 | .buildSlice t len parts=>js P s.o fr t len (parts.toList.map fun p=>(p.1,s.ev p.2)) K
 | .load t x=>A4 P s.o t (s.ev x) fun v rd=>K v [] rd
 | .store t x v=>um P s.o t (s.ev x) (s.ev v) fun Δ rd=>K (.cp []) Δ rd
 | .nilCheck x=>lE s.o (s.ev x) fun v=>K v [] []
 | .binOp op t x y _=>Js P op t (s.ev x) (s.ev y) (fun v=>K v [] [])\/dp (ry P s.o op t (isConst x||isConst y) (s.ev x) (s.ev y)) K
 | .unOp op _ x=>Ya op (s.ev x) (fun v=>K v [] [])\/(op= .not/\s.ev x= .fh/\K .fh [] [])
 | .convert u t x=>(P.underlying u).isSome=true/\(match uj P t,s.ev x with
   |some k, .d (.int _ n)=>K (.d (.int k (k.wrap n))) [] []
   |_,_=>False)
 | .makeInterface t x=>(∃d,P.underlying t=some d/\(match d with| .interface _=>false|_=>true)=true)/\(match s.ev x with
   | .d y=>K (.d (.iface t y)) [] []
   |v=>K (.iface t v) [] [])
 | .makeFunc fn first cap=>K (.func fn (first.toList.map s.ev) (cap.toList.map s.ev)) [] []
 | .makeSlice t l c=>j9 P fr t (s.ev l) (s.ev c) fun v Δ=>K v Δ []
 | .fieldAddr t x f=>j8 P s.o t (s.ev x) f fun v=>K v [] []
 | .indexAddr t x i=>j7 P s.o t (s.ev x) (s.ev i) fun v rd=>K v [] rd
 | .extract x i=>match s.ev x with
   | .cp vs=>∃v,vs[i]? =some v/\K v [] []
   |_=>False
 | .slice t x lo hi mx=>dp (rq P s.o t (s.ev x) (lo.map s.ev) (hi.map s.ev) (mx.map s.ev)) K
 | .field t x f=>dp ((uo P t (s.ev x) f).map fun v=>(v,[],[])) K
 | .index t x i=>dp ((uq P t (s.ev x) (s.ev i)).map fun v=>(v,[],[])) K
 | .makeMap t none=>dp (mX P fr t) K
 | .lookup t m k ok=>dp (jl P s.o t (s.ev m) (s.ev k) ok) K
 | .mapUpdate t m k v=>dp (gz P s.o t (s.ev m) (s.ev k) (s.ev v)) K
 | .insert t m k v=>dp (gz P s.o t (s.ev m) (s.ev k) (s.ev v)) K
 | .range t x=>dp (mY P s.o fr t (s.ev x)) K
 | .next x str=>dp (oG s.o (s.ev x) str) K\/(str=false/\∃id l,oH s.o (s.ev x)=some (id,l)/\E9 id l K)
 | .entry x=>dp (mZ s.o (s.ev x)) K
 | .typeAssert x _ t ok=>dp ((pT P t ok (s.ev x)).map fun v=>(v,[],[])) K
 | .call c=>match c.callee with
   | .builtin b=>ur P s fr b c.args.toList c.argTypes K
   |_=>False
 |_=>False
end Go.Proofs.YtonbelhklnmjnaaGreat
