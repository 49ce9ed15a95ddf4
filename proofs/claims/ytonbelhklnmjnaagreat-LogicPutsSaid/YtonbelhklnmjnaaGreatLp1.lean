/-
  A PART OF THE PROOF. Conditions: none.
-/
import Derived.WalkKit
import Derived.Below
set_option linter.unusedSimpArgs false
set_option linter.unusedVariables false
namespace Go.Proofs.YtonbelhklnmjnaaGreat
theorem aS{G G':Prop}(g:G')(h:G=G':=by simp+contextual (disch:=first|omega|simp only[go_sem,false_implies]) only[go_sem,wrap64,if_pos,and_self]<;>rfl):G:=Eq.mpr h g
theorem gK{G:Prop}(h:G:=by simp+contextual (disch:=first|omega|simp only[go_sem,false_implies]) only[go_sem,wrap64,if_pos,and_self]):G:=h
theorem et{P0 G G':Prop}(p0:P0)(g:G')(h:P0->G=G':=by intro p0;simp+contextual (disch:=first|omega|simp only[go_sem,false_implies]) only[go_sem,wrap64,if_pos,List.length_map,p0]<;>rfl):G:=Eq.mpr (h p0) g
theorem dc{P0 G G':Prop}(p0:P0)(g:G')(h:P0->G=G':=by intro p0;simp+contextual (disch:=first|omega|simp only[go_sem,false_implies]) only[go_sem,wrap64,if_pos,p0]<;>rfl):G:=Eq.mpr (h p0) g
theorem iO{G G':Prop}(g:G')(h:G=G':=by simp+contextual (disch:=first|omega|simp only[go_sem,false_implies]) only[go_sem,wrap64,if_pos,Nat.add_assoc,Nat.left_eq_add,Nat.add_eq_left,Nat.add_left_cancel_iff]<;>rfl):G:=Eq.mpr h g
theorem gD{G G':Prop}(g:G')(h:G=G':=by simp+contextual (disch:=first|omega|simp only[go_sem,false_implies]) only[go_sem,wrap64,if_pos,List.length_map]<;>rfl):G:=Eq.mpr h g
theorem kS{P0 P1 G G':Prop}(p0:P0)(p1:P1)(g:G')(h:P0->P1->G=G':=by intro p0 p1;simp+contextual (disch:=first|omega|simp only[go_sem,false_implies]) only[go_sem,wrap64,if_pos,List.length_map,p0,p1]<;>rfl):G:=Eq.mpr (h p0 p1) g
theorem b8{G G':Prop}(g:G')(h:G=G':=by simp+contextual only[go_sem]<;>rfl):G:=Eq.mpr h g
theorem xB{P0 P1 G G':Prop}(p0:P0)(p1:P1)(g:G')(h:P0->P1->G=G':=by intro p0 p1;simp+contextual (disch:=first|omega|simp only[go_sem,false_implies]) only[go_sem,wrap64,if_pos,p0,p1]<;>rfl):G:=Eq.mpr (h p0 p1) g
theorem OS{P0 P1 P2 G G':Prop}(p0:P0)(p1:P1)(p2:P2)(g:G')(h:P0->P1->P2->G=G':=by intro p0 p1 p2;simp+contextual (disch:=first|omega|simp only[go_sem,false_implies]) only[go_sem,wrap64,if_pos,Nat.add_assoc,Nat.left_eq_add,Nat.add_eq_left,Nat.add_left_cancel_iff,p0,p1,p2]<;>rfl):G:=Eq.mpr (h p0 p1 p2) g
theorem Bz{P0 G G':Prop}(p0:P0)(g:G')(h:P0->G=G':=by intro p0;simp+contextual (disch:=first|omega|simp only[go_sem,false_implies]) only[go_sem,wrap64,if_pos,Nat.add_assoc,Nat.left_eq_add,Nat.add_eq_left,Nat.add_left_cancel_iff,p0]<;>rfl):G:=Eq.mpr (h p0) g
theorem Ke{P0 P1 G G':Prop}(p0:P0)(p1:P1)(g:G')(h:P0->P1->G=G':=by intro p0 p1;simp+contextual (disch:=first|omega|simp only[go_sem,false_implies]) only[go_sem,wrap64,if_pos,Nat.add_assoc,Nat.left_eq_add,Nat.add_eq_left,Nat.add_left_cancel_iff,List.length_map,p0,p1]<;>rfl):G:=Eq.mpr (h p0 p1) g
theorem Ej{P0 P1 P2 P3 G G':Prop}(p0:P0)(p1:P1)(p2:P2)(p3:P3)(g:G')(h:P0->P1->P2->P3->G=G':=by intro p0 p1 p2 p3;simp+contextual (disch:=first|omega|simp only[go_sem,false_implies]) only[go_sem,wrap64,if_pos,List.length_map,p0,p1,p2,p3]<;>rfl):G:=Eq.mpr (h p0 p1 p2 p3) g
theorem zF{G G':Prop}(g:G')(h:G=G':=by simp+contextual (disch:=first|omega|simp only[go_sem,false_implies]) only[go_sem,wrap64,if_pos,mL]<;>rfl):G:=Eq.mpr h g
theorem zG{P0 P1 P2 G G':Prop}(p0:P0)(p1:P1)(p2:P2)(g:G')(h:P0->P1->P2->G=G':=by intro p0 p1 p2;simp+contextual (disch:=first|omega|simp only[go_sem,false_implies]) only[go_sem,wrap64,if_pos,p0,p1,p2]<;>rfl):G:=Eq.mpr (h p0 p1 p2) g
theorem zH{P0 G:Prop}(p0:P0)(h:P0->G:=by intro p0;simp+contextual (disch:=first|omega|simp only[go_sem,false_implies]) only[go_sem,wrap64,if_pos,p0]):G:=h p0
theorem OT{P0 P1 P2 P3 P4 G G':Prop}(p0:P0)(p1:P1)(p2:P2)(p3:P3)(p4:P4)(g:G')(h:P0->P1->P2->P3->P4->G=G':=by intro p0 p1 p2 p3 p4;simp+contextual (disch:=first|omega|simp only[go_sem,false_implies]) only[go_sem,wrap64,if_pos,Nat.add_assoc,Nat.left_eq_add,Nat.add_eq_left,Nat.add_left_cancel_iff,p0,p1,p2,p3,p4]<;>rfl):G:=Eq.mpr (h p0 p1 p2 p3 p4) g
theorem OU{P0 P1 P2 P3 G G':Prop}(p0:P0)(p1:P1)(p2:P2)(p3:P3)(g:G')(h:P0->P1->P2->P3->G=G':=by intro p0 p1 p2 p3;simp+contextual (disch:=first|omega|simp only[go_sem,false_implies]) only[go_sem,wrap64,if_pos,Nat.add_assoc,Nat.left_eq_add,Nat.add_eq_left,Nat.add_left_cancel_iff,p0,p1,p2,p3]<;>rfl):G:=Eq.mpr (h p0 p1 p2 p3) g
theorem HO{G:Prop}(h:G:=by simp+contextual (disch:=first|omega|simp only[go_sem,false_implies]) only[go_sem,wrap64,if_pos,List.length_map]):G:=h
theorem iq{P0 G G':Prop}(p0:P0)(g:G')(h:P0->G=G':=by intro p0;simp+contextual only[go_sem,p0]<;>rfl):G:=Eq.mpr (h p0) g
theorem VG{G G':Prop}(g:G')(h:G=G':=by simp+contextual (disch:=first|omega|simp only[go_sem,false_implies]) only[go_sem,wrap64,if_pos,Nat.add_assoc,Nat.left_eq_add,Nat.add_eq_left,Nat.add_left_cancel_iff,List.length_map]<;>rfl):G:=Eq.mpr h g
theorem HP{P0 G G':Prop}(p0:P0)(g:G')(h:P0->G=G':=by intro p0;simp+contextual only[go_sem,Nat.add_assoc,Nat.left_eq_add,Nat.add_eq_left,Nat.add_left_cancel_iff,p0]<;>rfl):G:=Eq.mpr (h p0) g
theorem VH{P0 P1 G G':Prop}(p0:P0)(p1:P1)(g:G')(h:P0->P1->G=G':=by intro p0 p1;simp+contextual (disch:=first|omega|simp only[go_sem,false_implies]) only[go_sem,wrap64,if_pos,Nat.add_assoc,Nat.left_eq_add,Nat.add_eq_left,Nat.add_left_cancel_iff,p0,p1]<;>rfl):G:=Eq.mpr (h p0 p1) g
theorem Kg{P0 P1 G:Prop}(p0:P0)(p1:P1)(h:P0->P1->G:=by intro p0 p1;simp+contextual (disch:=first|omega|simp only[go_sem,false_implies]) only[go_sem,wrap64,if_pos,p0,p1]):G:=h p0 p1
theorem OV{P0 P1 P2 G G':Prop}(p0:P0)(p1:P1)(p2:P2)(g:G')(h:P0->P1->P2->G=G':=by intro p0 p1 p2;simp+contextual (disch:=first|omega|simp only[go_sem,false_implies]) only[go_sem,wrap64,if_pos,List.length_map,p0,p1,p2]<;>rfl):G:=Eq.mpr (h p0 p1 p2) g
theorem VI{P0 P1 P2 P3 G G':Prop}(p0:P0)(p1:P1)(p2:P2)(p3:P3)(g:G')(h:P0->P1->P2->P3->G=G':=by intro p0 p1 p2 p3;simp+contextual (disch:=first|omega|simp only[go_sem,false_implies]) only[go_sem,wrap64,if_pos,List.length_map,List.length_append,p0,p1,p2,p3]<;>rfl):G:=Eq.mpr (h p0 p1 p2 p3) g
theorem OW{P0 P1 P2 P3 P4 G G':Prop}(p0:P0)(p1:P1)(p2:P2)(p3:P3)(p4:P4)(g:G')(h:P0->P1->P2->P3->P4->G=G':=by intro p0 p1 p2 p3 p4;simp+contextual (disch:=first|omega|simp only[go_sem,false_implies]) only[go_sem,wrap64,if_pos,p0,p1,p2,p3,p4]<;>rfl):G:=Eq.mpr (h p0 p1 p2 p3 p4) g
theorem OX{P0 P1 P2 P3 G G':Prop}(p0:P0)(p1:P1)(p2:P2)(p3:P3)(g:G')(h:P0->P1->P2->P3->G=G':=by intro p0 p1 p2 p3;simp+contextual (disch:=first|omega|simp only[go_sem,false_implies]) only[go_sem,wrap64,if_pos,p0,p1,p2,p3]<;>rfl):G:=Eq.mpr (h p0 p1 p2 p3) g
theorem aaT{P0 P1 P2 P3 P4 P5 G G':Prop}(p0:P0)(p1:P1)(p2:P2)(p3:P3)(p4:P4)(p5:P5)(g:G')(h:P0->P1->P2->P3->P4->P5->G=G':=by intro p0 p1 p2 p3 p4 p5;simp+contextual (disch:=first|omega|simp only[go_sem,false_implies]) only[go_sem,wrap64,if_pos,Nat.add_assoc,Nat.left_eq_add,Nat.add_eq_left,Nat.add_left_cancel_iff,List.length_map,p0,p1,p2,p3,p4,p5]<;>rfl):G:=Eq.mpr (h p0 p1 p2 p3 p4 p5) g
theorem aaU{P0 P1 P2 G G':Prop}(p0:P0)(p1:P1)(p2:P2)(g:G')(h:P0->P1->P2->G=G':=by intro p0 p1 p2;simp+contextual (disch:=first|omega|simp only[go_sem,false_implies]) only[go_sem,wrap64,if_pos,Nat.add_assoc,Nat.left_eq_add,Nat.add_eq_left,Nat.add_left_cancel_iff,zI,p0,p1,p2]<;>rfl):G:=Eq.mpr (h p0 p1 p2) g
theorem aaV{G G':Prop}(g:G')(h:G=G':=by simp+contextual (disch:=first|omega|simp only[go_sem,false_implies]) only[go_sem,wrap64,if_pos,Nat.add_assoc,Nat.left_eq_add,Nat.add_eq_left,Nat.add_left_cancel_iff,uc]<;>rfl):G:=Eq.mpr h g
theorem afd{G G':Prop}(g:G')(h:G=G':=by simp+contextual (disch:=first|omega|simp only[go_sem,false_implies]) only[go_sem,wrap64,if_pos,mL,Nat.add_assoc,Nat.left_eq_add,Nat.add_eq_left,Nat.add_left_cancel_iff]<;>rfl):G:=Eq.mpr h g
theorem VJ{P0 P1 P2 P3 P4 G G':Prop}(p0:P0)(p1:P1)(p2:P2)(p3:P3)(p4:P4)(g:G')(h:P0->P1->P2->P3->P4->G=G':=by intro p0 p1 p2 p3 p4;simp+contextual (disch:=first|omega|simp only[go_sem,false_implies]) only[go_sem,wrap64,if_pos,List.length_map,p0,p1,p2,p3,p4]<;>rfl):G:=Eq.mpr (h p0 p1 p2 p3 p4) g
theorem VK{G:Prop}(h:G:=by simp+contextual (disch:=first|omega|simp only[go_sem,false_implies]) only[go_sem,wrap64,if_pos,mL]):G:=h
theorem VL{P0 P1 P2 G G':Prop}(p0:P0)(p1:P1)(p2:P2)(g:G')(h:P0->P1->P2->G=G':=by intro p0 p1 p2;simp+contextual only[go_sem,Nat.add_assoc,Nat.left_eq_add,Nat.add_eq_left,Nat.add_left_cancel_iff,p0,p1,p2]<;>rfl):G:=Eq.mpr (h p0 p1 p2) g
theorem aaW{G:Prop}(h:G:=by simp+contextual (disch:=first|omega|simp only[go_sem,false_implies]) only[go_sem,wrap64,if_pos,List.length_map,Pf.m9]):G:=h
theorem aaX{G G':Prop}(g:G')(h:G=G':=by simp+contextual only[go_sem,Kh,Nat.add_assoc,Nat.left_eq_add,Nat.add_eq_left,Nat.add_left_cancel_iff,List.replicate]<;>rfl):G:=Eq.mpr h g
theorem aaY{G:Prop}(h:G:=by simp+contextual (disch:=first|omega|simp only[go_sem,false_implies]) only[go_sem,wrap64,if_pos,he]):G:=h
theorem OY{G:Prop}(h:G:=by simp+contextual only[go_sem]):G:=h
theorem cY{P:Prop}(h:P:=by(repeat(first|exact xC|refine uH ?_|refine p9 rfl ?_|refine p9 (Ki (Kj (by omega))) ?_|refine zJ rfl (by simp[V.refs,V.aL]<;>first|omega|assumption) ?_))):P:=h
theorem dB{P:Prop}(h:P:=by repeat(first|exact hg.mono (by omega)|exact Good.nil|refine Good.aK ?_ (by omega) rfl|refine Good.aK ?_ (by omega) (xD _ _ _ (by omega))|refine Good.aK ?_ (by omega) (by simp[ab.refs,V.aL,V.refs]<;>omega))):P:=h
theorem af{P:Prop}(h:P:=by kernel_rfl):P:=h
theorem ah{P:Prop}(h:P:=by omega):P:=h
theorem zy4{P:Prop}(h:P:=by simp[V.refs,V.aL]<;>first|omega|assumption):P:=h
theorem ud{P:Prop}(h:P:=by(repeat(first|exact Kk|refine HQ ?_|refine Kl rfl ?_|refine Kl (Ki (Kj (by omega))) ?_|refine VM 0 rfl rfl rfl ?_|refine VN rfl (by simp[V.refs,V.aL]<;>first|omega|assumption) ?_|refine VO rfl (by simp[V.ids]<;>omega) ?_))):P:=h
theorem JY{P:Prop}(h:P:=by simp only[rJ,BA,uI,xE,xF,xG,List.contains_nil,Bool.false_eq_true,if_false,ew,xH]):P:=h
theorem dU{P:Prop}(h:P:=by(repeat(first|rfl|rw[ad]|rw[ak _ _ _ _ (by omega)]))):P:=h
theorem zy8{P:Prop}(h:P:=by simp[ab.refs,V.aL,V.refs]<;>omega):P:=h
theorem zK{P:Prop}(h:P:=by simp only[aK]<;>((repeat' split)<;>first|rfl|omega|(subst_vars;first|rfl|assumption|(symm;assumption)|omega|(simp_all;done)))):P:=h
theorem afe{P:Prop}(h:P:=by(repeat(first|exact xC|refine uH ?_|refine p9 rfl ?_|refine p9 (Ki (Kj (by omega))) ?_|refine zJ rfl (by simp[V.refs,V.aL]<;>first|omega|assumption) ?_|refine p9 (by first|exact q0|exact q1|exact q2|exact q3|exact q4|exact q5|exact q6|exact q7|exact q8|exact q9|exact q10|exact q11|exact q12|exact q13|exact q14|exact Ru|exact Rv|exact Rw|exact q18|exact q19|exact q20|exact q21|exact q22|exact q23|exact q24|exact q25|exact q26|exact q27|exact q28|exact q29|exact q30|exact q31|exact q32|exact q33|exact q34|exact q35|exact q36|exact q37|exact q38|exact q39|exact q40) ?_|refine zJ (by first|exact q0|exact q1|exact q2|exact q3|exact q4|exact q5|exact q6|exact q7|exact q8|exact q9|exact q10|exact q11|exact q12|exact q13|exact q14|exact Ru|exact Rv|exact Rw|exact q18|exact q19|exact q20|exact q21|exact q22|exact q23|exact q24|exact q25|exact q26|exact q27|exact q28|exact q29|exact q30|exact q31|exact q32|exact q33|exact q34|exact q35|exact q36|exact q37|exact q38|exact q39|exact q40) (by simp[V.refs,V.aL]<;>first|omega|assumption) ?_))):P:=h
theorem ahl{P:Prop}(h:P:=by first|exact q0|exact q1|exact q2|exact q3|exact q4|exact q5|exact q6|exact q7|exact q8|exact q9|exact q10|exact q11|exact q12|exact q13|exact q14|exact Ru|exact Rv|exact Rw|exact q18|exact q19|exact q20|exact q21|exact q22|exact q23|exact q24|exact q25|exact q26|exact q27|exact q28|exact q29|exact q30|exact q31|exact q32|exact q33|exact q34|exact q35|exact q36|exact q37|exact q38|exact q39|exact q40):P:=h
theorem ao{P:Prop}(h:P:=by simp):P:=h
theorem bE{P:Prop}(h:P:=by decide):P:=h
theorem Ek{P:Prop}(h:P:=by rintro⟨h1,h2⟩;first|(cases h1;done)|(cases h2;done)):P:=h
theorem jH{P:Prop}(h:P:=by simpa[execOp,fl]using this):P:=h
theorem HS{P:Prop}(h:P:=by simp+contextual (disch:=first|omega|simp only[go_sem,false_implies]) only[go_sem,wrap64,if_pos,and_self];simp[mL]):P:=h
theorem wZ{P:Prop}(h:P:=by cases rs with|nil=>exact ho.elim|cons x l=>cases l<;>exact ho.elim):P:=h
theorem zL{P:Prop}(h:P:=by subst e;(repeat(first|rfl|rw[ad]|rw[ak _ _ _ _ (by omega)]))):P:=h
theorem OZ{P:Prop}(h:P:=by exact(by simp only[aK]<;>((repeat' split)<;>first|rfl|omega|(subst_vars;first|rfl|assumption|(symm;assumption)|omega|(simp_all;done))))):P:=h
theorem mS{P:Prop}(h:P:=by simp[ab.refs,V.aL,V.refs]):P:=h
theorem ahm{P:Prop}(h:P:=by simp[V.ids]<;>omega):P:=h
theorem Km{P:Prop}(h:P:=by exact⟨_,oM,j7,hq, .of_steps (.one h0 stepR_seq) (.pass (x:= .code y) rfl (fun _ _=> .inl (by simp)) dC)⟩):P:=h
theorem fj{P:Prop}(h:P:=by rw[ho];rfl):P:=h
theorem VP{P:Prop}(h:P:=by exact⟨false, .inl rfl,rfl,j8 (fun _ _ h=>by cases h.1) (by rintro⟨h1,h2⟩;first|(cases h1;done)|(cases h2;done)),eq _ (fun d=>by rw[aaZ w d ht])⟩):P:=h
theorem zM{P:Prop}(h:P:=by rw[m2.eq id (by omega)];unfold ext;rw[if_pos aC]):P:=h
theorem O0{P:Prop}(h:P:=by exact hK _ _ (by omega) (m2.mono (by omega)) fun id i1 i2=>by rw[m3 id i1 (by omega),ak _ _ _ _ (by omega)]):P:=h
theorem mT{P:Prop}(h:P:=by simp[V.aL,V.refs]):P:=h
theorem Kn{P:Prop}(h:P:=by rw[m2.eq id (by omega)];unfold ext;rw[if_neg (by omega),ak _ _ _ _ (by omega)]):P:=h
theorem aff{P:Prop}(h:P:=by exact hK _ _ (by omega) (m2.mono (by omega)) fun id i1 i2=>(m3 id i1 (by omega)).trans (dE id i1 i2)):P:=h
theorem Ko{P:Prop}(h:P:=by(repeat(first|exact HT|refine El ?_|refine O1 rfl ?_))):P:=h
theorem Kp{P:Prop}(h:P:=by subst e3;(repeat(first|rfl|rw[ad]|rw[ak _ _ _ _ (by omega)]))):P:=h
theorem Kq{P:Prop}(h:P:=by exact hK _ _ (by omega) (m2.mono (by omega)) fun id i1 i2=>m3 id i1 (by omega)):P:=h
theorem Kr{P:Prop}(h:P:=by unfold mc at h1;simp only[Bool.and_eq_true,beq_iff_eq]at h1;exact h1.2.1):P:=h
theorem Ks{P:Prop}(h:P:=by exact(hI.aK (by omega) (by omega) (by omega) hr).ext (by omega) (by omega)):P:=h
theorem aa0{P:Prop}(h:P:=by exact⟨_,_,_,_,_,_,_,hK,by simp[Instr.range,run_underlying ht,rK], .inl rfl,n1,n2,⟨rfl,by simp,fun _=>⟨w.heap.size,by simp,rfl⟩⟩,fun j hj=> .inr (by simpa using hj)⟩):P:=h
theorem aa1{P:Prop}(h:P:=by exact⟨_,_,_,_,_,_,_,hK,by simp[Instr.range,run_underlying ht], .inl rfl,n1,n2,⟨rfl,by simp,fun _=>⟨w.heap.size,by simp,rfl⟩⟩,fun j hj=> .inr (by simpa using hj)⟩):P:=h
theorem VQ{P:Prop}(h:P:=by(repeat(first|rfl|rw[ad]|rw[ak _ _ _ _ (by omega)]));rw[sS,List.map_append,List.map_append];rfl):P:=h
theorem HU{P:Prop}(h:P:=by rw[hold id (by omega) (by omega),HV id (by omega) aC]):P:=h
theorem oN{P:Prop}(h:P:=by dsimp only;omega):P:=h
theorem na{P:Prop}(h:P:=by simpa using hj):P:=h
theorem zN{P:Prop}(h:P:=by simp[Op.equalIn,run_underlying ht]):P:=h
theorem afg{P:Prop}(h:P:=by exact⟨false, .inl rfl,rfl,j8 (fun _ _ h=>by cases h.1) (by rintro⟨h1,h2⟩;first|(cases h1;done)|(cases h2;done)),eq _ (fun d=>by rw[aa2 w d ht])⟩):P:=h
theorem afh{P:Prop}(h:P:=by exact⟨false, .inl rfl,rfl,j8 (fun _ _ h=>by cases h.1) (by rintro⟨h1,h2⟩;first|(cases h1;done)|(cases h2;done)),eq _ (fun d=>by rw[aa3 w d ht])⟩):P:=h
theorem aa4{P:Prop}(h:P:=by exact⟨false, .inl rfl,rfl,j8 (fun _ _ h=>by cases h.1) (by rintro⟨h1,h2⟩;first|(cases h1;done)|(cases h2;done)),eq _ (fun d=>by rw[aa5 w d ht])⟩):P:=h
theorem VR{P:Prop}(h:P:=by rw[hn,hI,iQ hx];rfl):P:=h
theorem aa6{P:Prop}(h:P:=by exact⟨a,ev,h1,h2,D.aY (w:=w) (w':=w) (fun b _ hn=>⟨rfl,hB b hn⟩) cs ev h3,h5,h4.mono (w:=w) (w':=w) (fun b _ hn=>⟨rfl,hB b hn⟩)⟩):P:=h
theorem aa7{P:Prop}(h:P:=by exact hK _ _ (by omega) (rL.mono (by omega)) dE):P:=h
theorem aa8{P:Prop}(h:P:=by exact .inl ⟨_,_,_, .inr ⟨c,f,g,first,cap,hc,fF,hf, .inr (.inl ⟨rs,hH,rfl,fun id aC=>by simpa using List.all_eq_true.1 oO id aC⟩)⟩,h⟩):P:=h
theorem aa9{P:Prop}(h:P:=by exact .inl ⟨_,_,_, .inr ⟨c,f,g,first,cap,hc,fF,hf, .inr (.inr (.inr ⟨hH,fun id aC=>by simpa using List.all_eq_true.1 oO id aC⟩))⟩,h⟩):P:=h
theorem aba{P:Prop}(h:P:=by exact cS.same hH _ hK (by simp only[Sem.run_bind,hr,Result.andThen_ok];rfl) ⟨_,rfl,zv,[.bool false],rfl,r2, .bool false,[],rfl,rfl,rfl⟩):P:=h
theorem abb{P:Prop}(h:P:=by exact .inr ⟨_,_,_,⟨c,f,g,first,cap,hc,fF,hf, .inr ⟨x,Δ,hH,rfl,rfl,fun id aC=>by simpa using List.all_eq_true.1 oO id aC⟩⟩,h⟩):P:=h
theorem Ku{P:Prop}(h:P:=by rw[hI.eq bx Rx];unfold ext;rw[if_neg (by omega),hO]):P:=h
theorem VS{P:Prop}(h:P:=by rw[q6 _ (by omega)];(repeat(first|rfl|rw[ad]|rw[ak _ _ _ _ (by omega)]))):P:=h
theorem pk{P:Prop}(h:P:=by simp[oS,aC]):P:=h
theorem afi{P:Prop}(h:P:=by exact hK _ _ (by omega) (hg.mono (by omega)) (fun _ _=>rfl)):P:=h
theorem abc{P:Prop}(h:P:=by exact(rL.aK (i:=nx'+3) (m:=nx'+7) (by omega) (by omega) (by omega) rfl).aK (by omega) (by omega) (by omega) rfl):P:=h
theorem afj{P:Prop}(h:P:=by exact⟨b,r,k1,k2,k3,k4,k5,k6,k7,k8,k9,fun i=>gu _ _ (fun r hr=>hrefs r (V.xI _ _ r hr)) (k10 i)⟩):P:=h
theorem abd{P:Prop}(h:P:=by exact uJ (y:=B j) (ho j hj e1) (FY B e1 (by omega) ds ty sz _) (cn rfl (fun q hq=>hg.refs j q hq))):P:=h
theorem lJ{P:Prop}(h:P:=by simp[hx]):P:=h
theorem O2{P:Prop}(h:P:=by simpa[execOp,fl,resolve,invoke,builtin]using this):P:=h
theorem O3{P:Prop}(h:P:=by exact D.aW (fun b _ hn=>⟨rfl,hB b hn⟩) _ _ bw):P:=h
theorem abe{P:Prop}(h:P:=by exact⟨fo Em.1,fo Em.2,fun id aC=>⟨dj BB.1.1 id aC,dj BB.1.2 id aC⟩,fun id aC=>dj BB.2 id aC⟩):P:=h
theorem VT{P:Prop}(h:P:=by rw[tI];exact List.mem_cons_of_mem _ (List.mem_flatMap.2 ⟨k,hk,hx⟩)):P:=h
theorem abf{P:Prop}(h:P:=by simp only[Sem.run_bind,hr,Result.andThen_ok];rfl):P:=h
theorem VU{P:Prop}(h:P:=by rw[ak _ _ _ _ uK,HW _ _ (by omega)];exact h0 id (by omega)):P:=h
theorem abg{P:Prop}(h:P:=by exact fin _ [] (fun b hb=>by cases hb) eu (World.ownsRow_nil w' 0 ty sz) ⟨[],rfl,by simp,rfl⟩ rfl):P:=h
theorem O4{P:Prop}(h:P:=by exact hI.aK (by omega) (by omega) (by omega) rfl):P:=h
theorem VV{P:Prop}(h:P:=by exact BC hL k3 (key _ _ _ (by rw[hj];rfl) (VW _ _ hj))):P:=h
theorem abh{P:Prop}(h:P:=by simp only[Op.operands,Call.operands];exact Array.mem_append.2 (.inr (Array.mem_toList_iff.1 hx))):P:=h
theorem VX{P:Prop}(h:P:=by exact En hL k3 (key _ _ _ (by rw[hj];rfl) (VW _ _ hj))):P:=h
theorem afk{P:Prop}(h:P:=by exact Kv hu dE (fun id h=> .inl (by rw[lx]at h;exact h)) g1.symm g3 oT (lK rfl)):P:=h
theorem VY{P:Prop}(h:P:=by exact(hg.mono (by omega)).aK (by omega) (xD _ _ _ (by omega))):P:=h
theorem Kw{P:Prop}(h:P:=by injection h with h;subst h;exact hK):P:=h
theorem abi{P:Prop}(h:P:=by simp only[h1,dn,Option.map_some];exact hK):P:=h
theorem abj{P:Prop}(h:P:=by exact⟨k1,BD.tr.trans k2,BD.size,BD.defers.mono k2,fun j=>V.aW k2 _ _ (BD.env j)⟩):P:=h
theorem abk{P:Prop}(h:P:=by rw[ak _ _ _ _ e,ak _ _ _ _ e,ak _ _ _ _ (by omega),hI.eq j hj,ak _ _ _ _ e]):P:=h
theorem VZ{P:Prop}(h:P:=by exact HX hL k3 (key _ _ _ (by rw[hj];rfl) (OD _ hj))):P:=h
theorem O5{P:Prop}(h:P:=by exact V.aW (ht.trans k2) _ _ (hs.env i)):P:=h
theorem BE{P:Prop}(h:P:=by simp[V.refs]):P:=h
theorem afl{P:Prop}(h:P:=by exact⟨k1,hs.tr.trans k2,hs.size,hs.defers.mono k2,fun j=>V.aW k2 _ _ (hs.env j)⟩):P:=h
theorem abl{P:Prop}(h:P:=by rw[m3 id h2 (by omega),ak _ _ _ _ (by omega),ak _ _ _ _ (by omega),dE id h2 h3]):P:=h
theorem abm{P:Prop}(h:P:=by exact hQ _ _ _ _ val k5 (fm hs k1 k2 (o':=o') (nx':=nx') rfl fun id hu=>hu) k4):P:=h
theorem V0{P:Prop}(h:P:=by exact⟨_,oM,j7,hq, .of_steps (.one h0 stepR_block) dC⟩):P:=h
theorem V1{P:Prop}(h:P:=by exact⟨_,oM,j7,hq, .of_steps (.one h0 kT) dC⟩):P:=h
theorem Kx{P:Prop}(h:P:=by unfold eP;rw[O6 trivial]):P:=h
theorem abn{P:Prop}(h:P:=by exact .inr (.inr (.inr (oU.mono (fun v o n h=>hK _ h) (fun v o n h=>hX _ _ h) h)))):P:=h
theorem V2{P:Prop}(h:P:=by rw[ak _ _ _ _ (by omega)];exact k4 id (by omega) g2):P:=h
theorem abo{P:Prop}(h:P:=by exact⟨none,0,0,rfl,rfl,Nat.le_refl _,fun _=>rfl,0,fun a ha=>by cases ha⟩):P:=h
theorem abp{P:Prop}(h:P:=by exact⟨b,es',clock,k1,k2,k4,aT.mono (fun b _ hn=>⟨rfl,hB b hn⟩) _ _ k3⟩):P:=h
theorem O7{P:Prop}(h:P:=by rw[show(hp o nx).o id=_ from ho];rfl):P:=h
theorem abq{P:Prop}(h:P:=by exact fun k hk s' h1 h2=>BF _ (fun x hx=>bn x (me k hk x hx)) s' h1 h2):P:=h
theorem afm{P:Prop}(h:P:=by exact⟨t::l,rfl,fun b hb=>(List.mem_cons.1 hb).elim (fun e=>e ▸ ht) (hl b)⟩):P:=h
theorem abr{P:Prop}(h:P:=by dsimp only;(repeat(first|rfl|rw[ad]|rw[ak _ _ _ _ (by omega)]))):P:=h
theorem V3{P:Prop}(h:P:=by injection h with h;subst h;exact⟨by assumption,hK⟩):P:=h
theorem abt{P:Prop}(h:P:=by exact⟨k1,xs,k2,evs,k3,k4,D.aY (fun b _ hn=>⟨rfl,hB b hn⟩) _ _ k5⟩):P:=h
theorem V4{P:Prop}(h:P:=by exact(m2.mono (by omega)).ext (by omega) (by omega)):P:=h
theorem abu{P:Prop}(h:P:=by exact hH.fresh j fun hu=>h (.inl hu)):P:=h
theorem V5{P:Prop}(h:P:=by exact .inl ⟨3,1,rfl,ad _ _ _⟩):P:=h
theorem afn{P:Prop}(h:P:=by exact⟨r, .inl rfl,by obtain⟨_,rfl,_⟩:=hx;rfl,fun op=>g2 op p q,g1⟩):P:=h
theorem Ky{P:Prop}(h:P:=by simp at h;obtain⟨rfl,rfl⟩:=h;exact⟨rfl,rfl⟩):P:=h
theorem Ry{P:Prop}(h:P:=by exact hN _ _ _ (j9 hs k1 k2 (nb ho) de rfl fun id hu=> .inl hu)):P:=h
theorem Kz{P:Prop}(h:P:=by rw[HW _ _ (by omega)];exact k2.eq id (by omega)):P:=h
theorem Rz{P:Prop}(h:P:=by exact⟨_,_,_,_,_,_,_,hK,by simp[hr], .inl rfl,h1,h2,h3,by simp⟩):P:=h
theorem abv{P:Prop}(h:P:=by simp only[a0,Array.size_append,Array.size_replicate];simp at hlen;omega):P:=h
theorem abw{P:Prop}(h:P:=by exact forall_congr' fun k=>forall_congr' fun hk=>by rw[ih k hk (d+1)]):P:=h
theorem RA{P:Prop}(h:P:=by cases xv<;>first|(simp[RB]at hwd;done)|(cases yv<;>simp[he])):P:=h
theorem RC{P:Prop}(h:P:=by exact⟨x,b.trans y,z⟩):P:=h
theorem xJ{P:Prop}(h:P:=by simpa[V.refs]using hr):P:=h
theorem KA{P:Prop}(h:P:=by unfold fR;rw[List.map_append,List.sum_append]):P:=h
theorem RD{P:Prop}(h:P:=by exact(FY B (by omega) (by omega) ds ty sz _).trans (wS j (by omega))):P:=h
theorem qa{P:Prop}(h:P:=by simpa using h2):P:=h
theorem KC{P:Prop}(h:P:=by rw[oO];simp only[oS,fF,w7];exact aC):P:=h
theorem RE{P:Prop}(h:P:=by injection hu with hu;injection hv with hv;subst hu;subst hv;exact h3):P:=h
theorem RF{P:Prop}(h:P:=by exact⟨by have:=jU;simp at h1;simp only[Tm.kids];omega,hl⟩):P:=h
theorem RG{P:Prop}(h:P:=by exact hN _ _ _ _ k3.2 (oo hs k1 k2 k3.1 de rfl fun id hu=>hu)):P:=h
theorem KF{P:Prop}(h:P:=by simp at hl;obtain⟨rfl,rfl⟩:=hl;exact hK):P:=h
theorem abx{P:Prop}(h:P:=by rw[if_neg (by omega),hold id (by omega) h2]):P:=h
theorem FZ{P:Prop}(h:P:=by simpa only[xK]using this):P:=h
theorem aby{P:Prop}(h:P:=by cases(aB step s l).2<;>simp):P:=h
theorem KG{P:Prop}(h:P:=by simp at hj hy;subst hj;subst hy;exact bn):P:=h
theorem F0{P:Prop}(h:P:=by rw[if_neg e,if_neg (by omega)]):P:=h
theorem ahc{P:Prop}(h:P:=by rw[hj];rfl):P:=h
theorem BG{P:Prop}(h:P:=by exact hI.mono (by omega)):P:=h
theorem KH{P:Prop}(h:P:=by unfold pn;rw[List.getElem?_map,h];rfl):P:=h
theorem abz{P:Prop}(h:P:=by exact h3 e (Array.mem_toList_iff.1 he) hb):P:=h
theorem F1{P:Prop}(h:P:=by rw[hg];simp[eD,hv,e]):P:=h
theorem RH{P:Prop}(h:P:=by exact cS.same hH _ h (by simp[execOp,fl,hr]) ⟨_,rfl,hv⟩):P:=h
theorem abA{P:Prop}(h:P:=by exact⟨H.1,⟨H.2.1.1,by rw[vp,H.2.1.2]⟩,pg _ _ _ he H.2.2⟩):P:=h
theorem KI{P:Prop}(h:P:=by rw[ue];exact dh all _ bw):P:=h
theorem KJ{P:Prop}(h:P:=by simp[ab.refs,V.aL,V.refs];omega):P:=h
theorem KK{P:Prop}(h:P:=by subst uK;rw[ad];exact hh.symm):P:=h
theorem sT{P:Prop}(h:P:=by rw[wT];rfl):P:=h
theorem F2{P:Prop}(h:P:=by simp[V.aL,V.refs];omega):P:=h
theorem qb{P:Prop}(h:P:=by simp;omega):P:=h
theorem RI{P:Prop}(h:P:=by exact bP t u hu (hQ _ s φ w (.iface t u) h hs ⟨u,rfl,hd⟩)):P:=h
theorem F3{P:Prop}(h:P:=by simp[binOp,BH hr]):P:=h
theorem KL{P:Prop}(h:P:=by exact⟨.ret,s',aN,hq,jv,trivial⟩):P:=h
theorem RJ{P:Prop}(h:P:=by exact⟨e',V6,fr',hR,ComesIn.of_steps RK hs,JZ,hl⟩):P:=h
theorem sU{P:Prop}(h:P:=by rw[hx];rfl):P:=h
theorem xL{P:Prop}(h:P:=by rw[hx];exact hk):P:=h
theorem KM{P:Prop}(h:P:=by rw[wU i hi];exact congrArg some hb):P:=h
theorem RL{P:Prop}(h:P:=by exact⟨b,k1,k2.mono (fun b _ hn=>⟨rfl,hB b hn⟩) rfl⟩):P:=h
theorem abB{P:Prop}(h:P:=by rw[List.drop_eq_getElem_cons g1,g2]):P:=h
theorem abC{P:Prop}(h:P:=by rw[List.drop_eq_getElem_cons h5,h6]):P:=h
theorem KN{P:Prop}(h:P:=by unfold eP;exact Eq.trans rfl rfl):P:=h
theorem KO{P:Prop}(h:P:=by subst uK;rw[ad,OD _ RM]):P:=h
theorem F4{P:Prop}(h:P:=by rw[BI]at hl;simp at hl):P:=h
theorem F5{P:Prop}(h:P:=by subst hi;simp[Ne.symm h]):P:=h
theorem KQ{P:Prop}(h:P:=by exact⟨.bP _,s',aN,hq,jv,hm⟩):P:=h
theorem KT{P:Prop}(h:P:=by unfold HY;exact Eq.trans rfl rfl):P:=h
theorem F6{P:Prop}(h:P:=by exact fun _=>BJ _ _ _):P:=h
theorem KU{P:Prop}(h:P:=by unfold eqGuard;cases op<;>simp):P:=h
theorem F7{P:Prop}(h:P:=by rw[h]at h1;simp at h1):P:=h
theorem xM{P:Prop}(h:P:=by rw[tI];simp):P:=h
theorem F8{P:Prop}(h:P:=by rw[b7 hx h3];rfl):P:=h
theorem KW{P:Prop}(h:P:=by simp[hj]at hr;exact⟨hr,rfl⟩):P:=h
theorem KY{P:Prop}(h:P:=by rw[HW _ _ HZ, <- h0 _ HZ,ht]):P:=h
theorem KZ{P:Prop}(h:P:=by simp at hj;subst hj;exact fS):P:=h
theorem xN{P:Prop}(h:P:=by simpa using hx):P:=h
theorem K0{P:Prop}(h:P:=by rw[ht];exact ab.noConfusion):P:=h
theorem xO{P:Prop}(h:P:=by simpa using h):P:=h
theorem sV{P:Prop}(h:P:=by simp[hy]):P:=h
theorem xQ{P:Prop}(h:P:=by rw[h1];rfl):P:=h
theorem BK{P:Prop}(h:P:=by cases b<;>rfl):P:=h
theorem abD{P:Prop}(h:P:=by exact⟨b,h4.trans h5,h6⟩):P:=h
theorem J0{P:Prop}(h:P:=by refine cZ dV cy ?_;refine aS ?_;refine dW ⟨bE, ?_⟩;exact JY):P:=h
theorem Eo{P:Prop}(h:P:=by rw[g,bI]at hc;rw[bI];refine cZ hc cy ?_;refine aS ?_;refine dW ⟨bE, ?_⟩;exact JY):P:=h
theorem Ep{P:Prop}(h:P:=by rw[g,eQ]at hc;rw[eQ];refine aw hc rfl ?_;refine aS ?_;refine aD bE ?_;exact gK):P:=h
theorem zw9{P:Prop}(h:P:=by refine aS ?_;refine aD bE ?_;exact gK):P:=h
theorem V7{P:Prop}(h:P:=by refine aD bE ?_;exact gK):P:=h
theorem zO{P:Prop}(h:P:=by refine dX dV rfl ?_;exact gK):P:=h
theorem V8{P:Prop}(h:P:=by refine au (k+1,(step s' x).1,o2,n2+1+1) ⟨h1,m2.mono (show n2<=n2+1+1 from ah),(show nx<=n2+1+1 from ah),fun id i1 i2=>(m3 id i1 ah).trans (dE id i1 i2),hf,bn x cz s' kP hb,by rw[pY];rfl⟩ oN (bJ.bX _ (show nx<=n2+1+1 from ah) (Nat.le_refl _) (m2.mono (show n2<=n2+1+1 from ah)).bQ (fun _ _=>rfl) ?_);exact cY):P:=h
theorem BL{P:Prop}(h:P:=by refine aD (aZ rfl) ?_;refine aS ?_;rw[e]):P:=h
theorem abE{P:Prop}(h:P:=by refine ba bw ?_;refine kS hx e0 ?_;refine aD af ?_;refine kS hx e0 ?_;refine au (k+1) h2 ah (bJ.oP (fun j=>j=0) (.osl 0 1) 0 _ ah (fun j hj=>absurd hj ah) (ad _ _ _) (.inr ⟨0,1,rfl,rfl,by(repeat(first|rfl|rw[ad]|rw[ak _ _ _ _ (by omega)]));rw[sS,List.map_append,List.map_append,List.map_singleton,List.map_singleton, <- hz,Tm.m9]⟩) (fun j hj=>by(repeat(first|rfl|rw[ad]|rw[ak _ _ _ _ (by omega)]))) (fun j h h2=>ah) ?_);exact ud):P:=h
theorem H3{P:Prop}(h:P:=by rw[List.drop_eq_getElem_cons h1];rw[List.getElem?_eq_getElem h1]at hx;injection hx with hx;rw[hx]):P:=h
theorem K1{P:Prop}(h:P:=by rw[bI];refine aS ?_;refine cZ dV cy ?_;refine aS ?_;refine dW ⟨bE, ?_⟩;exact JY):P:=h
theorem V9{P:Prop}(h:P:=by refine aD (aZ rfl) ?_;refine dc q2 ?_;refine cR _ _ _ .busy none ah (fin _ _ (fun id aC=>zK) dB ah) dU (fun id h3 h4=>by(repeat(first|rfl|rw[ad]|rw[ak _ _ _ _ (by omega)])))):P:=h
theorem K4{P:Prop}(h:P:=by rw[eQ];refine aS ?_;refine aw cp rfl ?_;refine aS ?_;refine aD bE ?_;exact gK):P:=h
theorem H4{P:Prop}(h:P:=by dsimp only;refine bJ.bX _ (Nat.le_refl _) ah hI.bQ (fun _ _=>rfl) ?_;exact cY):P:=h
theorem Wa{P:Prop}(h:P:=by refine aD (aZ rfl) ?_;exact gK):P:=h
theorem Wb{P:Prop}(h:P:=by refine aS ?_;refine ai hkn rfl ?_;exact gK):P:=h
theorem O8{P:Prop}(h:P:=by rw[Bool.false_and,bI];refine aS ?_;refine cZ dV cy ?_;refine aS ?_;refine dW ⟨bE, ?_⟩;exact JY):P:=h
theorem K5{P:Prop}(h:P:=by obtain⟨h0,x,hx⟩:=qc hI;simp+contextual only[go_sem,h,hI,hx,h0];exact VR):P:=h
theorem O9{P:Prop}(h:P:=by rw[hb]at hf pY;simp only[Bool.false_eq_true,if_false]at hf pY;refine b8 ?_;rw[hf,pY]at hK;exact aff):P:=h
theorem K6{P:Prop}(h:P:=by rw[h1,F9]at hc;rw[Bool.false_and,bI];refine dX hc rfl ?_;exact gK):P:=h
theorem Pa{P:Prop}(h:P:=by simp[Ef,Array.getD_eq_getD_getElem?,Array.getElem?_replicate]at iM;split at iM<;>simp at iM):P:=h
theorem abF{P:Prop}(h:P:=by refine et hy ?_;refine aD (aZ rfl) ?_;refine aS ?_;rw[e,g2,g3,Bool.true_and,Bool.true_and,Bool.true_and]at hb;refine au (k+1) ⟨ah,by rw[Wc];unfold cF at g1;simp at g1;omega,by rw[Wc];exact hb⟩ ah (bJ.d1 _ (aV rfl) ah rfl ?_);exact cY):P:=h
theorem Pb{P:Prop}(h:P:=by simp at h1;refine b8 ?_;rw[List.drop_eq_nil_of_le h1]at hf pY;rw[hf,pY]at hK;exact aa7):P:=h
theorem Wd{P:Prop}(h:P:=by obtain⟨h0,h1,h2⟩:=h;refine⟨h0,hr.us id h1,fun cq=> ?_⟩;obtain⟨h3,h4⟩:=hr.row id h1 cq;obtain⟨b,h5,h6⟩:=h2 h3;exact abD):P:=h
theorem We{P:Prop}(h:P:=by obtain⟨a,b,c⟩:=hr id BE;obtain⟨h0,h1,h2⟩:=h;refine⟨h0,c,fun cq=> ?_⟩;rw[a]at cq;obtain⟨x,y,z⟩:=h2 cq;exact RC):P:=h
theorem Wf{P:Prop}(h:P:=by dsimp only;rw[q4 j (by omega) (by omega) (by omega)];(repeat(first|rfl|rw[ad]|rw[ak _ _ _ _ (by omega)]));exact p2 j g1 g2):P:=h
theorem Wg{P:Prop}(h:P:=by rw[cH,Bool.false_and,bI];refine et cH ?_;refine cZ dV cy ?_;refine aS ?_;refine dW ⟨bE, ?_⟩;exact JY):P:=h
theorem abG{P:Prop}(h:P:=by refine dX hc rfl ?_;exact gK):P:=h
theorem Wh{P:Prop}(h:P:=by obtain⟨h0,x,hx⟩:=qc hI;simp+contextual only[go_sem,hI,hx,h0];refine aD (aZ rfl) ?_;refine b8 ?_;exact VR):P:=h
theorem Pc{P:Prop}(h:P:=by subst e;(repeat(first|rfl|rw[ad]|rw[ak _ _ _ _ (by omega)]));exact q3.symm):P:=h
theorem Wi{P:Prop}(h:P:=by refine aS ?_;refine dX dV rfl ?_;exact gK):P:=h
theorem Wj{P:Prop}(h:P:=by obtain⟨a,b,c⟩:=hr id BE;obtain⟨h0,h1,h2⟩:=h;refine⟨h0,c,fun cq=> ?_⟩;obtain⟨x,y,z⟩:=h2 (a.1 cq);exact RC):P:=h
theorem Ph{P:Prop}(h:P:=by refine ai K7 rfl ?_;refine aS ?_;refine ai hkn rfl ?_;exact gK):P:=h
theorem Wk{P:Prop}(h:P:=by rw[q4 nx (by omega) (by omega) (by omega)];(repeat(first|rfl|rw[ad]|rw[ak _ _ _ _ (by omega)]));exact p0):P:=h
theorem abH{P:Prop}(h:P:=by refine aS ?_;rw[e]):P:=h
theorem Wl{P:Prop}(h:P:=by intro j hj;simp only[bK,h2,List.mem_map,List.mem_filter]at hj;obtain⟨e,⟨he,hb⟩,rfl⟩:=hj;exact abz):P:=h
theorem abI{P:Prop}(h:P:=by rw[hs,Bool.true_and]at uL;refine dc hs ?_;refine au (k+1) ⟨h2,uL⟩ ah (bJ.bX _ (show 0<=1 from ah) ah dB (fun j hj=>by(repeat(first|rfl|rw[ad]|rw[ak _ _ _ _ (by omega)]))) ?_);exact cY):P:=h
theorem Wm{P:Prop}(h:P:=by refine kS cH kQ ?_;refine cZ dV cy ?_;refine aS ?_;refine dW ⟨bE, ?_⟩;exact JY):P:=h
theorem Pj{P:Prop}(h:P:=by refine bJ.bX _ (Nat.zero_le _) ah dB (fun id aC=>zK) ?_;exact cY):P:=h
theorem abJ{P:Prop}(h:P:=by obtain⟨h0,h1,h2⟩:=h;refine⟨h0,hr.us id h1,fun e' pZ=> ?_⟩;obtain⟨e,g1,g2,g3⟩:=hr.ep id e' h1 pZ;obtain⟨h3,h4⟩:=h2 e g1;refine⟨Nat.le_trans h3 g2,fun heq=> ?_⟩;rw[g3 (by omega)];exact h4 ah):P:=h
theorem K8{P:Prop}(h:P:=by simp+contextual only[go_sem,h,hI];rw[hn,hI];rfl):P:=h
theorem abK{P:Prop}(h:P:=by refine aD bE ?_;refine dc OE ?_;refine aP (K9 _ v ah) ?_;refine aS ?_;refine au (j+1) h3 ah (bJ.d1 _ (aV rfl) ah rfl ?_);rw[rM OE,if_pos hc];exact cY):P:=h
theorem abL{P:Prop}(h:P:=by rw[e]at hK;refine afd ?_;exact hK _ _ ah ⟨dB,ah,fun j hj=>by rw[ak _ _ _ _ (by omega),hI.eq j hj]⟩ (fun j g1 g2=>by(repeat(first|rfl|rw[ad]|rw[ak _ _ _ _ (by omega)])))):P:=h
theorem Wn{P:Prop}(h:P:=by obtain⟨z,h1,h⟩:=jP h;simp only[Prod.mk.injEq]at h;obtain⟨rfl,rfl,rfl⟩:=h;exact abi):P:=h
theorem abM{P:Prop}(h:P:=by refine aS ?_;refine dW ⟨bE, ?_⟩;simp only[rJ,BA,uI,xE,xF,xG,List.contains_nil,Bool.false_eq_true,if_false,ew,xH];rw[b7 hz g];rfl):P:=h
theorem abN{P:Prop}(h:P:=by refine aS ?_;exact hK _ _ ah ⟨dB,ah,fun j hj=>by rw[ak _ _ _ _ (by omega),hI.eq j hj]⟩ (fun j g1 g2=>by(repeat(first|rfl|rw[ad]|rw[ak _ _ _ _ (by omega)])))):P:=h
theorem La{P:Prop}(h:P:=by simp only[St.S,jV]at this;exact this):P:=h
theorem Wo{P:Prop}(h:P:=by rw[cH,Bool.false_and,bI];refine et cH ?_;refine dX dV rfl ?_;exact gK):P:=h
theorem abO{P:Prop}(h:P:=by refine dc cH ?_;refine dX dV rfl ?_;exact gK):P:=h
theorem Wp{P:Prop}(h:P:=by simp only[Array.getD_eq_getD_getElem?];rw[Array.getElem?_setIfInBounds_ne (Ne.symm hi)]):P:=h
theorem Wq{P:Prop}(h:P:=by refine iq hI ?_;refine aD (aZ rfl) ?_;refine b8 ?_;rw[hn,hI];rfl):P:=h
theorem Wr{P:Prop}(h:P:=by rw[hL.refs,List.all_eq_true];intro r hr;have:=hrefs r hr;exact decide_eq_true ah):P:=h
theorem Pk{P:Prop}(h:P:=by rw[Bool.eq_iff_iff,decide_eq_true_eq,this];exact aby):P:=h
theorem Ws{P:Prop}(h:P:=by refine et hx ?_;refine au (k+1) h2 ah (bJ.d0 _ ?_);rw[sS];exact cY):P:=h
theorem RN{P:Prop}(h:P:=by refine ai cp rfl ?_;exact gK):P:=h
theorem Lb{P:Prop}(h:P:=by refine Ke hx f2 ?_;refine aD (aZ rfl) ?_;refine aS ?_;rw[e]):P:=h
theorem RP{P:Prop}(h:P:=by simp only[Option.map_eq_some_iff]at h;obtain⟨d,h1,rfl⟩:=h;obtain⟨arr,rfl,g1,g2⟩:=hx;obtain⟨val,r1,r2⟩:=iR h1 g1 g2;exact fin (r1 w) r2):P:=h
theorem Lc{P:Prop}(h:P:=by refine b8 ?_;refine ai (ir _ _ _) rfl ?_;refine b8 ?_;rw[hn]):P:=h
theorem RQ{P:Prop}(h:P:=by rw[show(⟨put o' [(fr, .arr 0 ty sz es)],fun id=>us id\/id=fr⟩:Hp).o fr=put o' [(fr, .arr 0 ty sz es)] fr from rfl,this]at he;injection he):P:=h
theorem RR{P:Prop}(h:P:=by rw[Bool.false_and,Bool.false_and,bI];refine aS ?_;refine cZ dV cy ?_;refine aS ?_;refine dW ⟨bE, ?_⟩;exact JY):P:=h
theorem RS{P:Prop}(h:P:=by simp only[Bool.and_eq_true,beq_iff_eq,bY]at H|-;refine⟨H.1, ?_,ag f.kids _ (fun _ h=>h) H.2.2⟩;rw[H.2.1,oq σ (by omega),vm]):P:=h
theorem RT{P:Prop}(h:P:=by simp only[hx]at h ho;injection h with h;subst h;simp only[ab.fz]at ho;simp only[aX,ho]at bn;rw[hd (by rw[ho];rfl)];exact bn):P:=h
theorem Ld{P:Prop}(h:P:=by dsimp only;refine bJ.bX _ ah ah q2 (fun _ _=>rfl) ?_;exact afe):P:=h
theorem RU{P:Prop}(h:P:=by refine b8 ?_;simp at h3;refine au (k+1) ⟨h2,cT hx hk.2 h3⟩ ah (bJ.d2 _ (dH rfl rfl) ah rfl rfl ?_);exact cY):P:=h
theorem Le{P:Prop}(h:P:=by rw[m2.eq id (by omega)];unfold ext;rw[if_neg (by omega)];exact dU):P:=h
theorem RV{P:Prop}(h:P:=by obtain⟨h0,y,h1,h2,h3,h4⟩:=uM h;simp only[Prod.mk.injEq]at h4;obtain⟨rfl,rfl,rfl⟩:=h4;exact⟨h0,y,h1,h2,h3,hK⟩):P:=h
theorem Lf{P:Prop}(h:P:=by rw[eQ];refine aS ?_;refine ai cp rfl ?_;exact gK):P:=h
theorem RW{P:Prop}(h:P:=by rw[g1,bI]at BM;rw[Bool.false_and,bI];refine cZ BM cy ?_;refine aS ?_;refine dW ⟨bE, ?_⟩;exact JY):P:=h
theorem RX{P:Prop}(h:P:=by rw[g2,Bool.and_false,Bool.false_and,Bool.false_and]at hb;rw[hb];refine et hy ?_;refine aD (aZ rfl) ?_;exact gK):P:=h
theorem Lg{P:Prop}(h:P:=by rw[bI];refine aS ?_;refine dX dV rfl ?_;exact gK):P:=h
theorem RY{P:Prop}(h:P:=by obtain⟨h3,h4⟩:=hb _ cM h2;exact⟨by rw[World.cell?_of_block (w:=w) (w':=w') (a:=a.add j) (by simpa using h3)];exact h1,h4⟩):P:=h
theorem RZ{P:Prop}(h:P:=by simp only[Option.map_eq_some_iff]at h;obtain⟨r,h1,rfl⟩:=h;obtain⟨g1,g2⟩:=Wt h1 hg (ay M φ H) w xv yv hx hy;exact afn):P:=h
theorem R0{P:Prop}(h:P:=by rw[this]at hK;refine hK _ _ ah ?_ (fun j hj=>by(repeat(first|rfl|rw[ad]|rw[ak _ _ _ _ (by omega)])));exact dB):P:=h
theorem R1{P:Prop}(h:P:=by refine aS ?_;simp at h3;refine au (k+1) ⟨h2,cT hx hk.2 h3⟩ ah (bJ.d1 _ (aV rfl) ah rfl ?_);exact cY):P:=h
theorem R2{P:Prop}(h:P:=by simp only[ha];obtain⟨z,h1,h⟩:=jP h;simp only[Prod.mk.injEq]at h;obtain⟨rfl,rfl,rfl⟩:=h;exact zP h1 hK):P:=h
theorem R3{P:Prop}(h:P:=by simp only[hw,if_true];obtain⟨uf,oT⟩:=BN Lh (fun id aC=>ag2 id (by rw[wU];exact aC)) Wu bn.2;exact afk):P:=h
theorem R4{P:Prop}(h:P:=by cases y<;>simp only[V.same,Bool.false_eq_true,Bool.and_eq_true]at h;rw[Nat.eq_of_beq_eq_true h.1,Nat.eq_of_beq_eq_true h.2]):P:=h
theorem Ga{P:Prop}(h:P:=by simp at h2;rw[cJ hk.2 h2];exact gK):P:=h
theorem R5{P:Prop}(h:P:=by simp only[List.map_cons,List.map_nil];refine dc heq ?_;simp only[List.isEmpty_nil,if_true];refine dc heq ?_;exact V5):P:=h
theorem Li{P:Prop}(h:P:=by refine gD ?_;refine aD (aZ rfl) ?_;exact gK):P:=h
theorem R6{P:Prop}(h:P:=by intro u hu;simp only[Array.toList_extract,List.extract]at hu;exact hf u (List.mem_of_mem_drop (List.mem_of_mem_take hu))):P:=h
theorem R7{P:Prop}(h:P:=by refine⟨hH,Trans.refl _ _ _, ?_,⟨[],rfl,List.nodup_nil,fun _=>rfl,fun r hr=>by cases hr⟩,BO hd⟩;exact abv):P:=h
theorem Gb{P:Prop}(h:P:=by refine iq h ?_;rw[hn]):P:=h
theorem Lj{P:Prop}(h:P:=by obtain⟨g1,g2⟩:=List.getElem?_eq_some_iff.1 hx;exact abB):P:=h
theorem Lk{P:Prop}(h:P:=by obtain⟨h5,h6⟩:=List.getElem?_eq_some_iff.1 hx;exact abC):P:=h
theorem R8{P:Prop}(h:P:=by rw[g3,Bool.and_false,Bool.false_and]at hb;rw[hb];refine et hy ?_;refine aD (aZ rfl) ?_;exact gK):P:=h
theorem R9{P:Prop}(h:P:=by rw[e];obtain⟨k1,k2⟩:=kU (us':=Gc (Array.replicate ops.size false)) hs.heap (fun id h=> .inl h);exact afl):P:=h
theorem Sa{P:Prop}(h:P:=by refine b8 ?_;refine hK3 _ _ ah (p2.mono ah) (fun id h1 h2=> ?_);rw[p3 id h1 (by omega),ak _ _ _ _ (by omega)]):P:=h
theorem Sb{P:Prop}(h:P:=by rw[g2,bI]at hc;rw[bI];refine cZ hc cy ?_;refine aS ?_;refine dW ⟨bE, ?_⟩;exact JY):P:=h
theorem Sc{P:Prop}(h:P:=by obtain⟨h0,x,hx⟩:=qc hI;refine Ej h hI hx h0 ?_;refine aD bE ?_;refine xB h hI ?_;exact VR):P:=h
theorem Ll{P:Prop}(h:P:=by simp only[bT,aQ,h1,if_false];exact abu):P:=h
theorem Lm{P:Prop}(h:P:=by rw[Bool.eq_false_iff];intro h;simp at h;simp[h]at h1):P:=h
theorem Sd{P:Prop}(h:P:=by refine b8 ?_;simp at h1;rw[List.drop_eq_nil_of_le h1]at hf;simp only[aB]at hf;rw[hf]at hK;exact aa7):P:=h
theorem Se{P:Prop}(h:P:=by simp only[Option.some.injEq,Prod.mk.injEq]at h;obtain⟨rfl,rfl,rfl⟩:=h;simp only[ho];exact⟨_,hg,hK⟩):P:=h
theorem Sf{P:Prop}(h:P:=by rw[g2,eQ]at hc;rw[eQ];refine aw hc rfl ?_;refine aS ?_;refine aD bE ?_;exact gK):P:=h
theorem Ln{P:Prop}(h:P:=by rw[show fr+(j+1)=fr+1+j by omega];exact this):P:=h
theorem Sg{P:Prop}(h:P:=by refine au (k+1) ⟨ah,cT hy hk.2 g1⟩ ah (bJ.d1 _ (aV rfl) ah rfl ?_);exact cY):P:=h
theorem Sh{P:Prop}(h:P:=by injection h with h;subst h;obtain⟨u,rfl,_⟩:=hy;simp only[V.den,D.den]at hx;subst hx;exact afh):P:=h
theorem Si{P:Prop}(h:P:=by injection h with h;subst h;obtain⟨u,rfl,_⟩:=hx;simp only[V.den,D.den]at hy;subst hy;exact afg):P:=h
theorem Sj{P:Prop}(h:P:=by intro hs h;simp at hs;obtain⟨t,rfl,ht⟩:=ih y ah h.1;obtain⟨l,rfl,hl⟩:=ihe ah h.2;exact afm):P:=h
theorem Sk{P:Prop}(h:P:=by refine .inr (.inr (.inl ⟨ds,out,fG,hP,rD, ?_⟩));cases out<;>first|exact hK _ h|exact hX _ _ h):P:=h
theorem Sl{P:Prop}(h:P:=by rw[hI.eq 2 (by omega)];(repeat(first|rfl|rw[ad]|rw[ak _ _ _ _ (by omega)]));exact p2):P:=h
theorem Sm{P:Prop}(h:P:=by simp only[ab.fz]at ho;simp only[aX,ho]at bn;rw[(hd ep (by rw[ho];rfl)).2 rfl];exact bn):P:=h
theorem Sn{P:Prop}(h:P:=by rw[List.drop_eq_getElem_cons h2];rw[List.getElem?_eq_getElem h2]at hx;injection hx with hx;rw[hx]):P:=h
theorem Sp{P:Prop}(h:P:=by refine et hy ?_;refine au (k+1) ⟨ah,cT hy hk.2 g1⟩ ah (bJ.d0 _ ?_);exact cY):P:=h
theorem Sq{P:Prop}(h:P:=by rw[Array.toList_append,Array.toList_append,Array.toList_map];exact V.qd Er eA hca):P:=h
theorem Sr{P:Prop}(h:P:=by refine .inr (.inl ⟨ds,out,fG,hP,rD, ?_⟩);cases out<;>first|exact hK _ h|exact hX _ _ h):P:=h
theorem Lo{P:Prop}(h:P:=by rw[p2.eq id (by omega)];unfold ext;exact abx):P:=h
theorem Ss{P:Prop}(h:P:=by obtain⟨b,eE,ty,k1,k2,k3,k4⟩:=bw;exact⟨b,eE,ty,k1,k2,qe _ _ hrefs k3,k4⟩):P:=h
theorem Su{P:Prop}(h:P:=by rw[cH,Bool.false_and,bI];refine dc cH ?_;refine dX dV rfl ?_;exact gK):P:=h
theorem Sv{P:Prop}(h:P:=by refine et hy ?_;refine aD (aZ rfl) ?_;refine aS ?_;rw[b7 hy g1]):P:=h
theorem Sw{P:Prop}(h:P:=by obtain⟨arr,rfl,g1,g2⟩:=hx;obtain⟨val,r1,r2⟩:=H5 h g1 g2;exact fin r1 r2):P:=h
theorem Sx{P:Prop}(h:P:=by subst e9;(repeat(first|rfl|rw[ad]|rw[ak _ _ _ _ (by omega)]));exact q2):P:=h
theorem Sy{P:Prop}(h:P:=by simp only[Array.getD_eq_getD_getElem?];rw[Array.getElem?_setIfInBounds_ne (Ne.symm h1)]):P:=h
theorem Sz{P:Prop}(h:P:=by subst e;(repeat(first|rfl|rw[ad]|rw[ak _ _ _ _ (by omega)]));exact q2):P:=h
theorem SA{P:Prop}(h:P:=by refine⟨x,fun heq=> ?_⟩;obtain⟨p,q,r,z,u⟩:=y heq;exact⟨p,q,r,b.trans z,u⟩):P:=h
theorem SB{P:Prop}(h:P:=by refine .inl ⟨ds,out,fG,hP, ?_⟩;cases out<;>first|exact hK _ h|exact hX _ _ h):P:=h
theorem SC{P:Prop}(h:P:=by refine au (k+1) h2.1 ah (bJ.d1 _ (aV rfl) ah rfl ?_);exact cY):P:=h
theorem SD{P:Prop}(h:P:=by simp only[Ef,Array.getD_eq_getD_getElem?,Array.getElem?_replicate];split<;>rfl):P:=h
theorem SE{P:Prop}(h:P:=by refine dc h ?_;refine ai (iS _ _ _) rfl ?_;refine et h ?_;rw[hn]):P:=h
theorem SF{P:Prop}(h:P:=by simp[H',ab.cA]at he;subst he;exact⟨Nat.le_refl _,fun _=>by simp[aN]⟩):P:=h
theorem SG{P:Prop}(h:P:=by refine iq h ?_;refine ai (Gd _ _ _) rfl ?_;refine iq h ?_;rw[hn]):P:=h
theorem SH{P:Prop}(h:P:=by refine xB h hI ?_;refine aD bE ?_;refine xB h hI ?_;rw[hn,hI];rfl):P:=h
theorem SI{P:Prop}(h:P:=by rw[hm,iT (o:=s.o) fun id aC=>hr id (mf _ id aC)];exact hΔ):P:=h
theorem SJ{P:Prop}(h:P:=by obtain⟨a,b,c,h⟩:=funcOf (P:=Tryz.prog) (t:=188) af;unfold rE;rw[h]):P:=h
theorem Ge{P:Prop}(h:P:=by rw[this]at hK;exact afi):P:=h
theorem SK{P:Prop}(h:P:=by cases y<;>simp only[D.same,Bool.false_eq_true]at h;rw[D.dY cw _ h]):P:=h
theorem SL{P:Prop}(h:P:=by simp at h2;rw[List.drop_eq_nil_of_le h2]at uL;refine aS ?_;rw[uL];rfl):P:=h
theorem SM{P:Prop}(h:P:=by rw[Bool.eq_iff_iff];simp only[List.all_eq_true (l:=t.kids)];exact abw):P:=h
theorem SN{P:Prop}(h:P:=by refine aP ac ?_;refine aS ?_;refine ai hkn rfl ?_;exact gK):P:=h
theorem SO{P:Prop}(h:P:=by simp only[Bool.and_eq_true,beq_iff_eq,bY,ln]at H|-;exact abA):P:=h
theorem SP{P:Prop}(h:P:=by obtain⟨u,us,rfl,h1,_⟩:=h;simp at hd;subst hd;exact⟨u,ao,h1⟩):P:=h
theorem SQ{P:Prop}(h:P:=by obtain⟨b,r,k1,k2,k3,k4,k5,k6,k7,k8,k9,k10⟩:=bw;exact afj):P:=h
theorem SR{P:Prop}(h:P:=by obtain⟨k,hk,hx⟩:=List.mem_flatMap.1 e;exact ih k hk (h.2 k hk) x hx):P:=h
theorem SS{P:Prop}(h:P:=by intro c hx;rw[Array.getD_eq_getD_getElem?,hx]at dC;simp at dC):P:=h
theorem SU{P:Prop}(h:P:=by rw[g,eQ]at hc;rw[eQ];refine ai hc rfl ?_;exact gK):P:=h
theorem SV{P:Prop}(h:P:=by rw[g,bI]at hc;rw[bI];refine dX hc rfl ?_;exact gK):P:=h
def sW(ops:Array Oper)(j:Nat):Option Tmp:=(ops[j]?).bind (·.dst)
structure ck where
 dst:Option Nat
 op:Op
 gd:Option (Nat×Bool):=none
instance:Inhabited ck:=⟨⟨none, .ready 0,none⟩⟩
def Es(n:Nat):Option Tmp->Bool
 |some d=>decide (d<n)
 |none=>true
def Lp(n:Nat)(ops:Array Oper)(o:Oper):Option ck:=
 if Es n o.dst=true then match o.guard with
  |none=>some ⟨o.dst,o.op,none⟩
  |some (j,want)=>match sW ops j with
   |some d=>some ⟨o.dst,o.op,some (d,want)⟩
   |none=>none
 else none
def lL(n:Nat)(ops:Array Oper):List Oper->Option (List ck)
 |[]=>some []
 |o::l=>match Lp n ops o,lL n ops l with
  |some x,some xs=>some (x::xs)
  |_,_=>none
def tmpsOf(o:ck):List Nat:=(o.op.operands.toList.filterMap fun| .tmp t=>some t|_=>none)++(match o.gd with|some (d,_)=>[d]|none=>[])
def fH(o:ck):List Nat:=tmpsOf o++o.dst.toList
def bK(ops:Array Oper)(i:Nat):List Nat:=match ops[i]? with|some o=>(o.after.toList.filter (Region.binds .any)).map (·.on)|none=>[]
def b9(l:List ck)(i:Nat):ck:=l.getD i default
inductive IC where
 |skip|ae (l:List ck)|dZ (l:List ck) (pr:List (List Nat))|seq (a b:IC)|cond (c:Operand) (a b:IC)|block (id:Nat) (a:IC)|loop (a:IC)|exit (id:Nat)|ret|bad
 |H6 (g:Operand) (ps:List Nat) (a b:IC)
 deriving Inhabited
inductive jQ where
 |ret|exit (id:Nat)
def jQ.code:jQ->Code
 | .ret=> .ret
 | .exit id=> .exit id
def mg(acc:List Nat):List Nat->Nat
 |[]=>0
 |j::ps=>(2^j|||acc.getD j 0)|||mg acc ps
def eR:List (List Nat)->List Nat->List Nat
 |[],acc=>acc
 |ps::l,acc=>eR l (acc++[mg acc ps])
def rN(x y:ck):Bool:=match x.dst with|some d=> !(fH y).contains d|none=>true
def zQ(l:List ck)(pr:List (List Nat)):Bool:=
 (List.range l.length).all fun j=>(List.range j).all fun i=>((eR pr []).getD j 0).testBit i||(rN (b9 l i) (b9 l j)&&rN (b9 l j) (b9 l i))
def ng(xs ys:List Nat):Bool:=xs.all fun x=> !ys.contains x
def iU(pr:List (List Nat))(fp:List (List Nat×List Nat)):Bool:=
 (List.range fp.length).all fun j=>(List.range j).all fun i=>((eR pr []).getD j 0).testBit i||
  (ng (fp.getD i ([],[])).2 (fp.getD j ([],[])).1&&ng (fp.getD i ([],[])).2 (fp.getD j ([],[])).2&&ng (fp.getD j ([],[])).2 (fp.getD i ([],[])).1)
def iu(ops:Array Oper):List (List Nat):=(List.range ops.size).map (bK ops)
def Wv(pr:List (List Nat)):Bool:=(List.range pr.length).all fun k=>(pr.getD k []).all fun j=>decide (j<k)
theorem uN{acc:List Nat}{i:Nat}:∀ (ps:List Nat),(mg acc ps).testBit i=true->∃j∈ps,i=j\/(acc.getD j 0).testBit i=true
 |[],h=>by simp[mg]at h
 |j::ps,h=>by
  simp only[mg,Nat.testBit_or,Bool.or_eq_true]at h
  rcases h with(h|h)|h
  ·rw[Nat.testBit_two_pow]at h
   exact⟨j,ao, .inl (by have h:=of_decide_eq_true h;exact h.symm)⟩
  ·exact⟨j,ao, .inr h⟩
  ·obtain⟨j',h1,h2⟩:=uN ps h
   exact⟨j',by simp[h1],h2⟩
theorem rO{k:Nat}:∀ (l:List (List Nat)) (acc:List Nat),k<acc.length->(eR l acc).getD k 0=acc.getD k 0
 |[],_,_=>rfl
 |ps::l,acc,h=>by
  rw[eR,rO l _ (by simp;omega)]
  simp[List.getD_eq_getElem?_getD,List.getElem?_append_left h]
theorem rP{i:Nat}:∀ (l:List (List Nat)) (acc:List Nat) (k:Nat),acc.length<=k->(∀k',k'<l.length->∀j∈l.getD k' [],j<acc.length+k')->((eR l acc).getD k 0).testBit i=true->
 ∃j∈l.getD (k - acc.length) [],i=j\/((eR l acc).getD j 0).testBit i=true
 |[],acc,k,hk,_,h=>by
  simp only[eR]at h
  rw[List.getD_eq_getElem?_getD,List.getElem?_eq_none hk]at h
  simp at h
 |ps::l,acc,k,hk,hp,h=>by
  simp only[eR]at h|-
  by_cases he:k=acc.length
  ·subst he
   rw[rO l _ (by simp)]at h
   have e:(acc++[mg acc ps]).getD acc.length 0=mg acc ps:=by simp[List.getD_eq_getElem?_getD]
   rw[e]at h
   obtain⟨j,h1,h2⟩:=uN ps h
   refine⟨j,by simpa using h1,h2.imp id fun h2=> ?_⟩
   have hj:j<acc.length:=by simpa using hp 0 ao j (by simpa using h1)
   rw[rO l _ (by simp;omega)]
   simpa[List.getD_eq_getElem?_getD,List.getElem?_append_left hj]using h2
  ·obtain⟨j,h1,h2⟩:=rP l (acc++[mg acc ps]) k qb (fun k' BP j hj=>by
    have:=hp (k'+1) qb j na
    simp;omega) h
   refine⟨j, ?_,h2⟩
   have e:k - acc.length=(k - (acc++[mg acc ps]).length)+1:=by simp;omega
   rw[e];simpa using h1
theorem qf{pr:List (List Nat)}(hp:∀k,k<pr.length->∀j∈pr.getD k [],j<k){E:Nat->Bool}(hE:∀k,k<pr.length->E k=true->∀j∈pr.getD k [],E j=true):
 ∀k,k<pr.length->(∀j∈pr.getD k [],E j=true)->∀i,((eR pr []).getD k 0).testBit i=true->E i=true:=by
 intro k
 induction k using Nat.strongRecOn with
 |ind k ih=>
  intro hk hj i hi
  obtain⟨j,h1,h2⟩:=rP pr [] k ao (fun k' BP j hj=>by simpa using hp k' BP j hj) hi
  simp only[List.length_nil,Nat.sub_zero]at h1
  rcases h2 with rfl|h2
  ·exact hj _ h1
  ·have hjk:=hp k hk j h1
   exact ih j hjk ah (hE j ah (hj j h1)) i h2
theorem BQ{pr:List (List Nat)}(hp:∀k,k<pr.length->∀j∈pr.getD k [],j<k):∀k,k<pr.length->∀i,((eR pr []).getD k 0).testBit i=true->i<k:=by
 intro k
 induction k using Nat.strongRecOn with
 |ind k ih=>
  intro hk i hi
  obtain⟨j,h1,h2⟩:=rP pr [] k ao (fun k' BP j hj=>by simpa using hp k' BP j hj) hi
  simp only[List.length_nil,Nat.sub_zero]at h1
  have hjk:=hp k hk j h1
  rcases h2 with rfl|h2
  ·exact hjk
  ·have:=ih j hjk ah i h2;omega
def low(n:Nat):Code->IC
 | .skip=> .skip
 | .label _=> .skip
 | .scope c=>low n c
 | .region _ ops false=>match lL n ops ops.toList with
   |some l=> .ae l
   |none=> .bad
 | .region _ ops true=>match lL n ops ops.toList with
   |some l=>if zQ l (iu ops)&&Wv (iu ops)then .dZ l (iu ops)else .bad
   |none=> .bad
 | .seq a b=> .seq (low n a) (low n b)
 | .cond c a b=> .cond c (low n a) (low n b)
 | .block id a=> .block id (low n a)
 | .loop a=> .loop (low n a)
 | .exit id=> .exit id
 | .ret=> .ret
 | .rangeFunc g ps a b=> .H6 g ps.toList (low n a) (low n b)
 |_=> .bad
section
inductive D where
 |int (k:IntKind) (n:Int)|bool (b:Bool)|str (s:List UInt8)
 |fI|mU|bN|jw
 |agg (cs:List D)|sl (es:List D)|iface (t:TypeId) (d:D)
 |mp (ks vs:List D)
 deriving Inhabited
def Flat(vs:List Value):Prop:=∀u∈vs,u.oneCell'=true
def iw(B:Nat->Prop)(w:World)(a:Addr)(cs:Array Value):Prop:=∀j u,cs[j]? =some u->w.cell? (a.add j)=some u/\ ¬B a.block
def jN(es:Array MapEntry)(clock:Nat):Prop:=(∀e∈es.toList,e.born<clock)/\(es.toList.map (·.born)).Nodup
def zR(ks:List D):Prop:=ks.Nodup/\∀k∈ks,∃n,k= .int .i64 n
mutual
def D.den (B:Nat->Prop)(w:World):D->Value->Prop
 | .int k n,v=>v= .int k n
 | .bool b,v=>v= .bool b
 | .str l,v=>∃s:ByteArray,v= .string s/\s.data.toList=l
 | .fI,v=>v= .nilIface
 | .mU,v=>v= .pointer none
 | .bN,v=>v= .nilFunc
 | .jw,v=>v= .map none
 | .agg cs,v=>∃a,v= .agg a/\D.aM B w cs a.toList/\Flat a.toList
 | .sl es,v=>∃base len cap,v= .slice base len cap/\len=es.length/\len<=cap/\(base=none->cap=0)/\
  ∃sz,∀a,base=some a->(cap≠0->a.spot=none)/\D.elems B w sz a 0 es
 | .iface t d,v=>∃u,v= .iface t u/\D.den B w d u
 | .mp ks vs,v=>∃m es clock p,v= .map (some m)/\w.heap[m]? =some (.map es clock)/\ ¬B m/\jN es clock/\(p=es.toList\/(p.Perm es.toList/\zR ks))/\D.aM B w ks (p.map (·.key))/\D.aM B w vs (p.map (·.val))
def D.aM (B:Nat->Prop)(w:World):List D->List Value->Prop
 |[],vs=>vs=[]
 |d::ds,vs=>∃u us,vs=u::us/\D.den B w d u/\D.aM B w ds us
def D.elems (B:Nat->Prop)(w:World)(sz:Nat)(a:Addr):Nat->List D->Prop
 |_,[]=>True
 |i,e::es=>(∃ev:Value,ev.cells.size=sz/\iw B w (a.add (i*sz)) ev.cells/\D.den B w e ev)/\D.elems B w sz a (i+1) es
end
inductive V where
 |d (x:D)|br|agg (cs:List V)|cg (vs:List V)
 |ptr (id off:Nat)|osl (id ep:Nat)|pe (id ep i sz off:Nat)|pp (cs:List D) (off:Nat)
 |func (fn:Fn) (first cap:List V)|iface (t:TypeId) (x:V)
 |aa
 |rF (es:List D)|xR (id off n:Nat)|mp (id:Nat)|fq|jW (id:Nat)
 deriving Inhabited
inductive ab where
 |no|row (cs:List V)|arr (ep:Nat) (ty:TypeId) (sz:Nat) (es:List D)|qg (ep:Nat) (es:List D)
 |map (kt vt:TypeId) (es:List (D×D))
 |loop (nf n:Nat) (env:List V) (ps:List Nat) (a b:IC) (st:LoopState) (H7:Option jQ)
 |iV (es:List (D×D))|nh (es:List (D×D)) (last:Option (D×D))|zS (s:List UInt8) (pos:Nat)
 deriving Inhabited
def bp(l:List V):Nat->V:=fun i=>l.getD i .aa
structure Hp where
 o:Nat->ab
 us:Nat->Prop
def ab.cA:ab->Option Nat
 | .arr ep _ _ _| .qg ep _=>some ep
 |_=>none
def ab.cB:ab->Bool
 | .row _| .map .. | .loop .. | .iV _| .nh .. | .zS .. =>true
 |_=>false
def ab.live:ab->Bool
 | .row _| .arr .. | .map .. | .loop .. | .nh .. | .zS .. =>true
 |_=>false
def eW:Value->Option Nat
 | .pointer (some a)| .slice (some a) _ _=>some a.block
 | .map (some b)=>some b
 |_=>none
abbrev Place:=Nat->Value
def df(φ:Place)(H:Hp)(b:Nat):Prop:=∃id,(H.o id).live=true/\eW (φ id)=some b
def ay(M:Nat->Prop)(φ:Place)(H:Hp)(b:Nat):Prop:=M b\/df φ H b
mutual
def V.den (B:Nat->Prop)(φ:Place)(H:Hp)(w:World):V->Value->Prop
 | .d x,v=>D.den B w x v
 | .br,v=>v= .slice none 0 0
 | .agg cs,v=>∃a,v= .agg a/\V.aM B φ H w cs a.toList/\Flat a.toList
 | .cg vs,v=>∃a,v= .tuple a/\V.aM B φ H w vs a.toList
 | .ptr id off,v=>v.oneCell'=true/\H.us id/\((H.o id).cB=true->∃b,φ id= .pointer (some ⟨b,0,none⟩)/\v= .pointer (some ⟨b,off,none⟩))
 | .osl id ep,v=>v.oneCell'=true/\H.us id/\∀e,(H.o id).cA=some e->ep<=e/\(ep=e->v=φ id)
 | .pe id ep i sz off,v=>v.oneCell'=true/\H.us id/\∀e,(H.o id).cA=some e->ep<=e/\(ep=e->∃b n c,φ id= .slice (some ⟨b,0,none⟩) n c/\v= .pointer (some ⟨b,i*sz+off,none⟩))
 | .pp cs off,v=>∃a ev,a.spot=none/\v= .pointer (some (a.add off))/\D.aM B w cs ev/\Flat ev/\iw B w a ev.toArray
 | .func fn first cap,v=>∃f c,v= .func fn f c/\V.aM B φ H w first f.toList/\V.aM B φ H w cap c.toList
 | .iface t x,v=>∃u,v= .iface t u/\V.den B φ H w x u
 | .aa,_=>True
 | .rF es,v=>D.den B w (.sl es) v/\∃base n,v= .slice base n n
 | .xR id off n,v=>v.oneCell'=true/\H.us id/\((H.o id).cB=true->∃b,φ id= .pointer (some ⟨b,0,none⟩)/\v= .slice (some ⟨b,off,none⟩) n n)
 | .mp id,v=>v.oneCell'=true/\H.us id/\((H.o id).cB=true->v=φ id)
 | .fq,v=>∃b,v= .bool b
 | .jW id,v=>v.oneCell'=true/\H.us id/\((H.o id).cB=true->∃b,φ id= .pointer (some ⟨b,0,none⟩)/\v= .func (.yield b) #[] #[])
def V.aM (B:Nat->Prop)(φ:Place)(H:Hp)(w:World):List V->List Value->Prop
 |[],vs=>vs=[]
 |x::xs,vs=>∃u us,vs=u::us/\V.den B φ H w x u/\V.aM B φ H w xs us
end
def gL(B:Nat->Prop)(w:World)(sz:Nat)(es:List D)(xs:List Value):Prop:=
 ∃evs:List Value,xs=evs.flatMap (·.cells.toList)/\(∀ev∈evs,ev.cells.size=sz)/\D.aM B w es evs
def aT(B:Nat->Prop)(w:World):List (D×D)->List MapEntry->Prop
 |[],es=>es=[]
 |(k,x)::l,es=>∃e es',es=e::es'/\D.den B w k e.key/\D.den B w x e.val/\aT B w l es'
def zT(B:Nat->Prop)(w:World)(l:List (D×D))(last:Option (D×D))(b:Nat):Prop:=
 w.heap[b]? =some (.mapIter none 0 #[] 0)/\l=[]/\last=none\/
 ∃m since seen es,w.heap[b]? =some (.mapIter (some m) since seen since)/\w.heap[m]? =some (.map es since)/\ ¬B m/\jN es since/\(∃l',l'.Perm l/\aT B w l' (es.toList.filter fun e=> !seen.contains e.born))/\
  ∀k x,last=some (k,x)->∃e∈es.toList,seen.back?=some e.born/\D.den B w k e.key/\D.den B w x e.val
def aX(M:Nat->Prop)(φ:Place)(H:Hp)(w:World)(id:Nat):Prop:=
 match H.o id with
 | .no=>True
 | .row cs=>∃b eE ty,φ id= .pointer (some ⟨b,0,none⟩)/\w.heap[b]? =some (.cells eE ty (0,0))/\V.aM (ay M φ H) φ H w cs eE.toList/\Flat eE.toList
 | .arr _ ty sz es=>0<sz/\∃xs,w.ownsRow 0 ty sz (φ id) es.length xs/\gL (ay M φ H) w sz es xs
 | .qg _ es=>D.den (ay M φ H) w (.sl es) (φ id)
 | .loop nf n env ps iW eS st H7=>∃b r,φ id= .pointer (some ⟨b,0,none⟩)/\w.heap[b]? =some (.loop r)/\r.fn<nf/\r.state=st/\r.pending=H7.map jQ.code/\r.params.toList=ps/\r.tmps.size=n/\low n r.assign=iW/\low n r.body=eS/\
  ∀i,V.den (ay M φ H) φ H w (bp env i) (r.tmps.getD i undef)
 | .map _ _ l=>∃b es clock,φ id= .map (some b)/\w.heap[b]? =some (.map es clock)/\jN es clock/\aT (ay M φ H) w l es.toList
 | .iV l=>D.den (ay M φ H) w (.mp (l.map (·.1)) (l.map (·.2))) (φ id)
 | .nh l last=>∃b,φ id= .pointer (some ⟨b,0,none⟩)/\zT (ay M φ H) w l last b
 | .zS s pos=>∃b,φ id= .pointer (some ⟨b,0,none⟩)/\w.heap[b]? =some (.stringIter ⟨⟨s⟩⟩ pos)
structure aE (M:Nat->Prop) (φ:Place) (H:Hp) (w:World):Prop where
 ok:∀id,aX M φ H w id
 fresh:∀id, ¬H.us id->H.o id= .no
 apart:∀i j b,(H.o i).live=true->(H.o j).live=true->eW (φ i)=some b->eW (φ j)=some b->i=j
 ours:∀b,df φ H b-> ¬M b/\b<w.heap.size
 Br:∀b,M b->b<w.heap.size
structure eT (m:Nat->Prop) (w w':World):Prop where
 os:w'.os=w.os
 tape:w'.tape=w.tape
 output:w'.output=w.output
 size:w.heap.size<=w'.heap.size
 block:∀k,k<w.heap.size-> ¬m k->w'.heap[k]? =w.heap[k]?
structure eF (φ:Place) (H:Hp) (aN:Place) (H':Hp):Prop where
 us:∀id,H.us id->H'.us id
 row:∀id,H.us id->(H'.o id).cB=true->(H.o id).cB=true/\aN id=φ id
 ep:∀id e',H.us id->(H'.o id).cA=some e'->∃e,(H.o id).cA=some e/\e<=e'/\(e=e'->aN id=φ id)
structure Trans (φ:Place) (H:Hp) (w:World) (aN:Place) (H':Hp) (w':World):Prop where
 keep:eT (df φ H) w w'
 grow:∀b,df aN H' b->df φ H b\/w.heap.size<=b
 rel:eF φ H aN H'
theorem eT.refl (m:Nat->Prop)(w:World):eT m w w:=⟨rfl,rfl,rfl,Nat.le_refl _,fun _ _ _=>rfl⟩
theorem eF.refl (φ:Place)(H:Hp):eF φ H φ H:=⟨fun _ h=>h,fun _ _ h=>⟨h,rfl⟩,fun _ e' _ h=>⟨e',h,Nat.le_refl _,fun _=>rfl⟩⟩
theorem Trans.refl (φ:Place)(H:Hp)(w:World):Trans φ H w φ H w:=⟨eT.refl _ _,fun _ h=> .inl h,eF.refl _ _⟩
theorem eF.trans {φ aN Et:Place}{H H' H'':Hp}(h:eF φ H aN H')(k:eF aN H' Et H''):eF φ H Et H'' where
 us id aC:=k.us id (h.us id aC)
 row id aC hr:=by
  obtain⟨a,b⟩:=k.row id (h.us id aC) hr
  obtain⟨c,d⟩:=h.row id aC a
  exact⟨c,b.trans d⟩
 ep id e' aC he:=by
  obtain⟨e,h1,h2,h3⟩:=k.ep id e' (h.us id aC) he
  obtain⟨e0,g1,g2,g3⟩:=h.ep id e aC h1
  refine⟨e0,g1,Nat.le_trans g2 h2,fun heq=> ?_⟩
  have a:e0=e:=ah
  have b:e=e':=ah
  exact(h3 b).trans (g3 a)
theorem Trans.trans {φ aN Et:Place}{H H' H'':Hp}{w w' V6:World}(h:Trans φ H w aN H' w')(k:Trans aN H' w' Et H'' V6):Trans φ H w Et H'' V6 where
 keep:={
  os:=k.keep.os.trans h.keep.os
  tape:=k.keep.tape.trans h.keep.tape
  output:=k.keep.output.trans h.keep.output
  size:=Nat.le_trans h.keep.size k.keep.size
  block:=fun b hb hm=>by
   rw[k.keep.block b (Nat.lt_of_lt_of_le hb h.keep.size) (fun hl=>by
    rcases h.grow b hl with h1|h1
    ·exact hm h1
    ·omega),h.keep.block b hb hm]}
 grow b hl:=by
  rcases k.grow b hl with h1|h1
  ·exact h.grow b h1
  ·exact .inr (Nat.le_trans h.keep.size h1)
 rel:=h.rel.trans k.rel
@[simp] theorem aad (a:Addr) (j:Nat):(a.add j).block=a.block:=by unfold Addr.add;split<;>rfl
def qh(w:World)(b:Nat):Prop:=∃cs ty fz,w.heap[b]? =some (.cells cs ty fz)
def dw(w:World)(b:Nat):Prop:=qh w b\/∃es clock,w.heap[b]? =some (.map es clock)
theorem dw.lt {w:World}{b:Nat}(h:dw w b):b<w.heap.size:=by
 rcases Nat.lt_or_ge b w.heap.size with hl|hl
 ·exact hl
 ·rcases h with⟨cs,ty,fz,h⟩|⟨es,clock,h⟩
  ·rw[Array.getElem?_eq_none hl]at h;cases h
  ·rw[Array.getElem?_eq_none hl]at h;cases h
theorem oV{w:World}{a:Addr}{u:Value}(h:w.cell? a=some u):qh w a.block:=by
 unfold World.cell? at h
 split at h
 ·exact⟨_,_,_,by assumption⟩
 ·cases h
theorem tJ{w:World}{a:Addr}{u:Value}(h:w.cell? a=some u):dw w a.block:= .inl (oV h)
theorem iw.mono {B B':Nat->Prop}{w w':World}{a:Addr}{cs:Array Value}
 (hb:∀b,dw w b-> ¬B b->w'.heap[b]? =w.heap[b]? /\ ¬B' b) (h:iw B w a cs):iw B' w' a cs:=by
 intro j u hj
 obtain⟨h1,h2⟩:=h j u hj
 have cM:dw w a.block:=by simpa using tJ h1
 exact RY
mutual
theorem D.aW {B B':Nat->Prop}{w w':World}(hb:∀b,dw w b-> ¬B b->w'.heap[b]? =w.heap[b]? /\ ¬B' b):
 ∀ (x:D) (v:Value),D.den B w x v->D.den B' w' x v
 | .int _ _,_,h| .bool _,_,h| .str _,_,h| .fI,_,h| .mU,_,h| .bN,_,h| .jw,_,h=>by simpa[D.den]using h
 | .agg cs,_,h=>by
   obtain⟨a,rfl,h,hf⟩:=h
   exact⟨a,rfl,D.aY hb cs _ h,hf⟩
 | .sl es,_,h=>by
   obtain⟨base,len,cap,rfl,h1,h2,h3,sz,h4⟩:=h
   exact⟨base,len,cap,rfl,h1,h2,h3,sz,fun a ha=>⟨(h4 a ha).1,D.uO hb sz a es 0 (h4 a ha).2⟩⟩
 | .iface t d,_,h=>by
   obtain⟨u,rfl,h⟩:=h
   exact⟨u,rfl,D.aW hb d u h⟩
 | .mp ks vs,_,h=>by
   obtain⟨m,es,clock,p,rfl,h1,h2,h3,hp,h4,h5⟩:=h
   obtain⟨k1,k2⟩:=hb m (.inr ⟨es,clock,h1⟩) h2
   exact⟨m,es,clock,p,rfl,k1.trans h1,k2,h3,hp,D.aY hb ks _ h4,D.aY hb vs _ h5⟩
theorem D.aY {B B':Nat->Prop}{w w':World}(hb:∀b,dw w b-> ¬B b->w'.heap[b]? =w.heap[b]? /\ ¬B' b):
 ∀ (ds:List D) (vs:List Value),D.aM B w ds vs->D.aM B' w' ds vs
 |[],_,h=>h
 |d::ds,_,h=>by
  obtain⟨u,us,rfl,h1,h2⟩:=h
  exact⟨u,us,rfl,D.aW hb d u h1,D.aY hb ds us h2⟩
theorem D.uO {B B':Nat->Prop}{w w':World}(hb:∀b,dw w b-> ¬B b->w'.heap[b]? =w.heap[b]? /\ ¬B' b)(sz:Nat)(a:Addr):
 ∀ (es:List D) (i:Nat),D.elems B w sz a i es->D.elems B' w' sz a i es
 |[],_,_=>trivial
 |e::es,i,h=>by
  obtain⟨⟨ev,h1,h2,h3⟩,h4⟩:=h
  exact⟨⟨ev,h1,h2.mono hb,D.aW hb e ev h3⟩,D.uO hb sz a es (i+1) h4⟩
end
theorem aT.mono {B B':Nat->Prop}{w w':World}(hb:∀b,dw w b-> ¬B b->w'.heap[b]? =w.heap[b]? /\ ¬B' b):
 ∀ (l:List (D×D)) (es:List MapEntry),aT B w l es->aT B' w' l es
 |[],_,h=>h
 |(k,x)::l,_,h=>by
  obtain⟨e,es,rfl,h1,h2,h3⟩:=h
  exact⟨e,es,rfl,D.aW hb k _ h1,D.aW hb x _ h2,aT.mono hb l es h3⟩
theorem zT.mono {B B':Nat->Prop}{w w':World}(hb:∀b,dw w b-> ¬B b->w'.heap[b]? =w.heap[b]? /\ ¬B' b){l:List (D×D)}{last:Option (D×D)}{b:Nat}(hbb:w'.heap[b]? =w.heap[b]?)(h:zT B w l last b):zT B' w' l last b:=by
 rcases h with⟨h1,h2⟩|⟨m,since,seen,es,h1,h2,h3,h4,h5,h6⟩
 ·exact .inl ⟨hbb.trans h1,h2⟩
 ·obtain⟨k1,k2⟩:=hb m (.inr ⟨es,since,h2⟩) h3
  obtain⟨l',h5,Bs⟩:=h5
  refine .inr ⟨m,since,seen,es,hbb.trans h1,k1.trans h2,k2,h4,⟨l',h5,aT.mono hb l' _ Bs⟩,fun k x e=> ?_⟩
  obtain⟨e,g1,g2,g3,g4⟩:=h6 k x e
  exact⟨e,g1,g2,D.aW hb k _ g3,D.aW hb x _ g4⟩
theorem lM{B:Nat->Prop}{w:World}:∀ (l:List (D×D)) (es:List MapEntry),aT B w l es↔D.aM B w (l.map (·.1)) (es.map (·.key))/\D.aM B w (l.map (·.2)) (es.map (·.val))
 |[],es=>by
  simp only[aT,List.map_nil,D.aM]
  constructor
  ·rintro rfl;exact⟨rfl,rfl⟩
  ·rintro⟨h,_⟩;simpa using h
 |(k,x)::l,es=>by
  simp only[aT,List.map_cons,D.aM]
  constructor
  ·rintro⟨e,es',rfl,h1,h2,h3⟩
   obtain⟨g1,g2⟩:=(lM l es').1 h3
   exact⟨⟨_,_,rfl,h1,g1⟩,⟨_,_,rfl,h2,g2⟩⟩
  ·rintro⟨⟨u,us,h1,h2,h3⟩,⟨v,vs,h4,h5,h6⟩⟩
   cases es with
   |nil=>simp at h1
   |cons e es'=>
    simp only[List.map_cons,List.cons.injEq]at h1 h4
    obtain⟨rfl,rfl⟩:=h1
    obtain⟨rfl,rfl⟩:=h4
    exact⟨e,es',rfl,h2,h5,(lM l es').2 ⟨h3,h6⟩⟩
theorem D.aJ {B:Nat->Prop}{w:World}:∀ (ds:List D) (vs:List Value),D.aM B w ds vs->vs.length=ds.length
 |[],_,h=>by simp[D.aM]at h;simp[h]
 |d::ds,_,h=>by obtain⟨u,us,rfl,_,h2⟩:=h;simp[D.aJ ds us h2]
theorem D.ec {B:Nat->Prop}{w:World}:∀ (ds:List D) (vs:List Value) (i:Nat) (d:D),D.aM B w ds vs->ds[i]? =some d->∃v,vs[i]? =some v/\D.den B w d v
 |[],_,_,_,_,hd=>by simp at hd
 |d::ds,_,0,x,h,hd=>by
  exact SP
 |d::ds,_,i+1,x,h,hd=>by
  obtain⟨u,us,rfl,_,h2⟩:=h
  simpa using D.ec ds us i x h2 (by simpa using hd)
theorem D.xS {B:Nat->Prop}{w:World}{sz:Nat}{a:Addr}:∀ (es:List D) (i j:Nat) (e:D),D.elems B w sz a i es->es[j]? =some e->
 ∃ev:Value,ev.cells.size=sz/\iw B w (a.add ((i+j)*sz)) ev.cells/\D.den B w e ev
 |[],_,_,_,_,hd=>by simp at hd
 |e::es,i,0,x,h,hd=>by
  simp at hd;subst hd;simpa using h.1
 |e::es,i,j+1,x,h,hd=>by
  have:=D.xS es (i+1) j x h.2 (by simpa using hd)
  simpa[Nat.add_assoc,Nat.add_comm 1 j]using this
section
variable {M:Nat->Prop}{φ aN:Place}{H H':Hp}{w w':World}
theorem Trans.blocks (ht:Trans φ H w aN H' w')(b:Nat)(hc:dw w b)(h: ¬ay M φ H b):w'.heap[b]? =w.heap[b]? /\ ¬ay M aN H' b:=by
 have hb:=hc.lt
 refine⟨ht.keep.block b hb fun hl=>h (.inr hl), ?_⟩
 rintro(h1|h1)
 ·exact h (.inl h1)
 ·rcases ht.grow b h1 with h2|h2
  ·exact h (.inr h2)
  ·omega
mutual
theorem V.lN (hb:∀b,dw w b-> ¬ay M φ H b->w'.heap[b]? =w.heap[b]? /\ ¬ay M aN H' b)(hr:eF φ H aN H'):∀ (x:V) (v:Value),V.den (ay M φ H) φ H w x v->V.den (ay M aN H') aN H' w' x v
 | .d x,v,h=>D.aW hb x v h
 | .br,_,h=>h
 | .aa,_,_=>trivial
 | .rF es,v,h=>⟨D.aW hb (.sl es) v h.1,h.2⟩
 | .xR id off n,v,h=>by
   exact Wd
 | .mp id,v,h=>by
   obtain⟨h0,h1,h2⟩:=h
   refine⟨h0,hr.us id h1,fun cq=> ?_⟩
   obtain⟨h3,h4⟩:=hr.row id h1 cq
   exact(h2 h3).trans h4.symm
 | .fq,v,h=>h
 | .jW id,v,h=>by
   exact Wd
 | .agg cs,_,h=>by obtain⟨a,rfl,h,hf⟩:=h;exact⟨a,rfl,V.gM hb hr cs _ h,hf⟩
 | .cg cs,_,h=>by obtain⟨a,rfl,h⟩:=h;exact⟨a,rfl,V.gM hb hr cs _ h⟩
 | .ptr id off,v,h=>by
   exact Wd
 | .osl id ep,v,h=>by
   exact abJ
 | .pe id ep i sz off,v,h=>by
   exact abJ
 | .pp cs off,v,h=>by
   obtain⟨a,ev,h1,h2,h3,h5,h4⟩:=h
   exact⟨a,ev,h1,h2,D.aY hb cs ev h3,h5,h4.mono hb⟩
 | .func fn first cap,_,h=>by
   obtain⟨f,c,rfl,h1,h2⟩:=h
   exact⟨f,c,rfl,V.gM hb hr first _ h1,V.gM hb hr cap _ h2⟩
 | .iface t x,_,h=>by obtain⟨u,rfl,h⟩:=h;exact⟨u,rfl,V.lN hb hr x u h⟩
theorem V.gM (hb:∀b,dw w b-> ¬ay M φ H b->w'.heap[b]? =w.heap[b]? /\ ¬ay M aN H' b)(hr:eF φ H aN H'):∀ (ds:List V) (vs:List Value),V.aM (ay M φ H) φ H w ds vs->V.aM (ay M aN H') aN H' w' ds vs
 |[],_,h=>h
 |x::xs,_,h=>by
  obtain⟨u,us,rfl,h1,h2⟩:=h
  exact⟨u,us,rfl,V.lN hb hr x u h1,V.gM hb hr xs us h2⟩
end
theorem V.aW (ht:Trans φ H w aN H' w')(x:V)(v:Value)(h:V.den (ay M φ H) φ H w x v):V.den (ay M aN H') aN H' w' x v:=V.lN ht.blocks ht.rel x v h
theorem V.aY (ht:Trans φ H w aN H' w')(ds:List V)(vs:List Value)(h:V.aM (ay M φ H) φ H w ds vs):V.aM (ay M aN H') aN H' w' ds vs:=V.gM ht.blocks ht.rel ds vs h
end
end
end Go.Proofs.YtonbelhklnmjnaaGreat
