/-
  A PART OF THE PROOF. Conditions: none.
-/
import Derived.WalkKit
import Derived.Below
set_option linter.unusedSimpArgs false
set_option linter.unusedVariables false
namespace Go.Proofs.YtonbelhklnmjnaaGreat
theorem aI{G G':Prop}(g:G')(h:G=G':=by simp+contextual (disch:=first|omega|simp only[go_sem,false_implies]) only[go_sem,wrap64,if_pos,and_self]<;>rfl):G:=Eq.mpr h g
theorem cF{G:Prop}(h:G:=by simp+contextual (disch:=first|omega|simp only[go_sem,false_implies]) only[go_sem,wrap64,if_pos,and_self]):G:=h
theorem iC{G G':Prop}(g:G')(h:G=G':=by simp+contextual (disch:=first|omega|simp only[go_sem,false_implies]) only[go_sem,wrap64,if_pos,Nat.add_assoc,Nat.left_eq_add,Nat.add_eq_left,Nat.add_left_cancel_iff]<;>rfl):G:=Eq.mpr h g
theorem dz{P0 G G':Prop}(p0:P0)(g:G')(h:P0->G=G':=by intro p0;simp+contextual (disch:=first|omega|simp only[go_sem,false_implies]) only[go_sem,wrap64,if_pos,p0]<;>rfl):G:=Eq.mpr (h p0) g
theorem eR{P0 G G':Prop}(p0:P0)(g:G')(h:P0->G=G':=by intro p0;simp+contextual (disch:=first|omega|simp only[go_sem,false_implies]) only[go_sem,wrap64,if_pos,List.length_map,p0]<;>rfl):G:=Eq.mpr (h p0) g
theorem iG{G G':Prop}(g:G')(h:G=G':=by simp+contextual (disch:=first|omega|simp only[go_sem,false_implies]) only[go_sem,wrap64,if_pos,List.length_map]<;>rfl):G:=Eq.mpr h g
theorem mF{P0 P1 G G':Prop}(p0:P0)(p1:P1)(g:G')(h:P0->P1->G=G':=by intro p0 p1;simp+contextual (disch:=first|omega|simp only[go_sem,false_implies]) only[go_sem,wrap64,if_pos,List.length_map,p0,p1]<;>rfl):G:=Eq.mpr (h p0 p1) g
theorem bV{G G':Prop}(g:G')(h:G=G':=by simp+contextual only[go_sem]<;>rfl):G:=Eq.mpr h g
theorem uc{P0 P1 G G':Prop}(p0:P0)(p1:P1)(g:G')(h:P0->P1->G=G':=by intro p0 p1;simp+contextual (disch:=first|omega|simp only[go_sem,false_implies]) only[go_sem,wrap64,if_pos,p0,p1]<;>rfl):G:=Eq.mpr (h p0 p1) g
theorem Mi{P0 P1 P2 G G':Prop}(p0:P0)(p1:P1)(p2:P2)(g:G')(h:P0->P1->P2->G=G':=by intro p0 p1 p2;simp+contextual (disch:=first|omega|simp only[go_sem,false_implies]) only[go_sem,wrap64,if_pos,Nat.add_assoc,Nat.left_eq_add,Nat.add_eq_left,Nat.add_left_cancel_iff,p0,p1,p2]<;>rfl):G:=Eq.mpr (h p0 p1 p2) g
theorem AO{P0 G G':Prop}(p0:P0)(g:G')(h:P0->G=G':=by intro p0;simp+contextual (disch:=first|omega|simp only[go_sem,false_implies]) only[go_sem,wrap64,if_pos,Nat.add_assoc,Nat.left_eq_add,Nat.add_eq_left,Nat.add_left_cancel_iff,p0]<;>rfl):G:=Eq.mpr (h p0) g
theorem Dh{P0 P1 G G':Prop}(p0:P0)(p1:P1)(g:G')(h:P0->P1->G=G':=by intro p0 p1;simp+contextual (disch:=first|omega|simp only[go_sem,false_implies]) only[go_sem,wrap64,if_pos,Nat.add_assoc,Nat.left_eq_add,Nat.add_eq_left,Nat.add_left_cancel_iff,List.length_map,p0,p1]<;>rfl):G:=Eq.mpr (h p0 p1) g
theorem wu{G G':Prop}(g:G')(h:G=G':=by simp+contextual (disch:=first|omega|simp only[go_sem,false_implies]) only[go_sem,wrap64,if_pos,jV]<;>rfl):G:=Eq.mpr h g
theorem yG{P0 P1 P2 G G':Prop}(p0:P0)(p1:P1)(p2:P2)(g:G')(h:P0->P1->P2->G=G':=by intro p0 p1 p2;simp+contextual (disch:=first|omega|simp only[go_sem,false_implies]) only[go_sem,wrap64,if_pos,p0,p1,p2]<;>rfl):G:=Eq.mpr (h p0 p1 p2) g
theorem yH{P0 G:Prop}(p0:P0)(h:P0->G:=by intro p0;simp+contextual (disch:=first|omega|simp only[go_sem,false_implies]) only[go_sem,wrap64,if_pos,p0]):G:=h p0
theorem Di{P0 P1 P2 P3 G G':Prop}(p0:P0)(p1:P1)(p2:P2)(p3:P3)(g:G')(h:P0->P1->P2->P3->G=G':=by intro p0 p1 p2 p3;simp+contextual (disch:=first|omega|simp only[go_sem,false_implies]) only[go_sem,wrap64,if_pos,List.length_map,p0,p1,p2,p3]<;>rfl):G:=Eq.mpr (h p0 p1 p2 p3) g
theorem Mw{P0 P1 P2 P3 P4 G G':Prop}(p0:P0)(p1:P1)(p2:P2)(p3:P3)(p4:P4)(g:G')(h:P0->P1->P2->P3->P4->G=G':=by intro p0 p1 p2 p3 p4;simp+contextual (disch:=first|omega|simp only[go_sem,false_implies]) only[go_sem,wrap64,if_pos,Nat.add_assoc,Nat.left_eq_add,Nat.add_eq_left,Nat.add_left_cancel_iff,p0,p1,p2,p3,p4]<;>rfl):G:=Eq.mpr (h p0 p1 p2 p3 p4) g
theorem Mx{P0 P1 P2 P3 G G':Prop}(p0:P0)(p1:P1)(p2:P2)(p3:P3)(g:G')(h:P0->P1->P2->P3->G=G':=by intro p0 p1 p2 p3;simp+contextual (disch:=first|omega|simp only[go_sem,false_implies]) only[go_sem,wrap64,if_pos,Nat.add_assoc,Nat.left_eq_add,Nat.add_eq_left,Nat.add_left_cancel_iff,p0,p1,p2,p3]<;>rfl):G:=Eq.mpr (h p0 p1 p2 p3) g
theorem eY{P0 G G':Prop}(p0:P0)(g:G')(h:P0->G=G':=by intro p0;simp+contextual only[go_sem,p0]<;>rfl):G:=Eq.mpr (h p0) g
theorem Sc{G G':Prop}(g:G')(h:G=G':=by simp+contextual (disch:=first|omega|simp only[go_sem,false_implies]) only[go_sem,wrap64,if_pos,Nat.add_assoc,Nat.left_eq_add,Nat.add_eq_left,Nat.add_left_cancel_iff,List.length_map]<;>rfl):G:=Eq.mpr h g
theorem Gj{P0 G G':Prop}(p0:P0)(g:G')(h:P0->G=G':=by intro p0;simp+contextual only[go_sem,Nat.add_assoc,Nat.left_eq_add,Nat.add_eq_left,Nat.add_left_cancel_iff,p0]<;>rfl):G:=Eq.mpr (h p0) g
theorem Sd{P0 P1 G G':Prop}(p0:P0)(p1:P1)(g:G')(h:P0->P1->G=G':=by intro p0 p1;simp+contextual (disch:=first|omega|simp only[go_sem,false_implies]) only[go_sem,wrap64,if_pos,Nat.add_assoc,Nat.left_eq_add,Nat.add_eq_left,Nat.add_left_cancel_iff,p0,p1]<;>rfl):G:=Eq.mpr (h p0 p1) g
theorem My{P0 P1 P2 G G':Prop}(p0:P0)(p1:P1)(p2:P2)(g:G')(h:P0->P1->P2->G=G':=by intro p0 p1 p2;simp+contextual (disch:=first|omega|simp only[go_sem,false_implies]) only[go_sem,wrap64,if_pos,List.length_map,p0,p1,p2]<;>rfl):G:=Eq.mpr (h p0 p1 p2) g
theorem Se{P0 P1 P2 P3 G G':Prop}(p0:P0)(p1:P1)(p2:P2)(p3:P3)(g:G')(h:P0->P1->P2->P3->G=G':=by intro p0 p1 p2 p3;simp+contextual (disch:=first|omega|simp only[go_sem,false_implies]) only[go_sem,wrap64,if_pos,List.length_map,List.length_append,p0,p1,p2,p3]<;>rfl):G:=Eq.mpr (h p0 p1 p2 p3) g
theorem Mz{G:Prop}(h:G:=by simp+contextual (disch:=first|omega|simp only[go_sem,false_implies]) only[go_sem,wrap64,if_pos,jV]):G:=h
theorem MA{P0 P1 P2 P3 P4 G G':Prop}(p0:P0)(p1:P1)(p2:P2)(p3:P3)(p4:P4)(g:G')(h:P0->P1->P2->P3->P4->G=G':=by intro p0 p1 p2 p3 p4;simp+contextual (disch:=first|omega|simp only[go_sem,false_implies]) only[go_sem,wrap64,if_pos,p0,p1,p2,p3,p4]<;>rfl):G:=Eq.mpr (h p0 p1 p2 p3 p4) g
theorem MB{P0 P1 P2 P3 G G':Prop}(p0:P0)(p1:P1)(p2:P2)(p3:P3)(g:G')(h:P0->P1->P2->P3->G=G':=by intro p0 p1 p2 p3;simp+contextual (disch:=first|omega|simp only[go_sem,false_implies]) only[go_sem,wrap64,if_pos,p0,p1,p2,p3]<;>rfl):G:=Eq.mpr (h p0 p1 p2 p3) g
theorem MC{P0 P1 G:Prop}(p0:P0)(p1:P1)(h:P0->P1->G:=by intro p0 p1;simp+contextual (disch:=first|omega|simp only[go_sem,false_implies]) only[go_sem,wrap64,if_pos,p0,p1]):G:=h p0 p1
theorem Xw{P0 P1 P2 P3 P4 P5 G G':Prop}(p0:P0)(p1:P1)(p2:P2)(p3:P3)(p4:P4)(p5:P5)(g:G')(h:P0->P1->P2->P3->P4->P5->G=G':=by intro p0 p1 p2 p3 p4 p5;simp+contextual (disch:=first|omega|simp only[go_sem,false_implies]) only[go_sem,wrap64,if_pos,Nat.add_assoc,Nat.left_eq_add,Nat.add_eq_left,Nat.add_left_cancel_iff,List.length_map,p0,p1,p2,p3,p4,p5]<;>rfl):G:=Eq.mpr (h p0 p1 p2 p3 p4 p5) g
theorem Xx{P0 P1 P2 G G':Prop}(p0:P0)(p1:P1)(p2:P2)(g:G')(h:P0->P1->P2->G=G':=by intro p0 p1 p2;simp+contextual (disch:=first|omega|simp only[go_sem,false_implies]) only[go_sem,wrap64,if_pos,Nat.add_assoc,Nat.left_eq_add,Nat.add_eq_left,Nat.add_left_cancel_iff,yI,p0,p1,p2]<;>rfl):G:=Eq.mpr (h p0 p1 p2) g
theorem Xy{G G':Prop}(g:G')(h:G=G':=by simp+contextual (disch:=first|omega|simp only[go_sem,false_implies]) only[go_sem,wrap64,if_pos,Nat.add_assoc,Nat.left_eq_add,Nat.add_eq_left,Nat.add_left_cancel_iff,tG]<;>rfl):G:=Eq.mpr h g
theorem Xz{G G':Prop}(g:G')(h:G=G':=by simp+contextual (disch:=first|omega|simp only[go_sem,false_implies]) only[go_sem,wrap64,if_pos,jV,Nat.add_assoc,Nat.left_eq_add,Nat.add_eq_left,Nat.add_left_cancel_iff]<;>rfl):G:=Eq.mpr h g
theorem Sf{G:Prop}(h:G:=by simp+contextual (disch:=first|omega|simp only[go_sem,false_implies]) only[go_sem,wrap64,if_pos,List.length_map]):G:=h
theorem Sg{P0 P1 P2 G G':Prop}(p0:P0)(p1:P1)(p2:P2)(g:G')(h:P0->P1->P2->G=G':=by intro p0 p1 p2;simp+contextual only[go_sem,Nat.add_assoc,Nat.left_eq_add,Nat.add_eq_left,Nat.add_left_cancel_iff,p0,p1,p2]<;>rfl):G:=Eq.mpr (h p0 p1 p2) g
theorem XA{G G':Prop}(g:G')(h:G=G':=by simp+contextual only[go_sem,IJ,Nat.add_assoc,Nat.left_eq_add,Nat.add_eq_left,Nat.add_left_cancel_iff,List.replicate]<;>rfl):G:=Eq.mpr h g
theorem XB{G:Prop}(h:G:=by simp+contextual (disch:=first|omega|simp only[go_sem,false_implies]) only[go_sem,wrap64,if_pos,he]):G:=h
theorem yJ{P0 P1 G G':Prop}(p0:P0)(p1:P1)(g:G')(h:P0->P1->G=G':=by intro p0 p1;simp+contextual only[go_sem,p0,p1]<;>rfl):G:=Eq.mpr (h p0 p1) g
theorem cG{P:Prop}(h:P:=by(repeat(first|exact wW|refine ud ?_|refine pG rfl ?_|refine pG (IK (IL (by omega))) ?_|refine yK rfl (by simp[V.refs,V.aN]<;>first|omega|assumption) ?_))):P:=h
theorem dg{P:Prop}(h:P:=by repeat(first|exact hg.mono (by omega)|exact Good.nil|refine Good.aL ?_ (by omega) rfl|refine Good.aL ?_ (by omega) (wg _ _ _ (by omega))|refine Good.aL ?_ (by omega) (by simp[ab.refs,V.aN,V.refs]<;>omega))):P:=h
theorem af{P:Prop}(h:P:=by kernel_rfl):P:=h
theorem ad{P:Prop}(h:P:=by omega):P:=h
theorem zy4{P:Prop}(h:P:=by simp[V.refs,V.aN]<;>first|omega|assumption):P:=h
theorem jw{P:Prop}(h:P:=by simp only[pH,ue,oJ,qW,qX,qY,List.contains_nil,Bool.false_eq_true,if_false,dZ,qZ]):P:=h
theorem eh{P:Prop}(h:P:=by(repeat(first|rfl|rw[ae]|rw[ai _ _ _ _ (by omega)]))):P:=h
theorem zy7{P:Prop}(h:P:=by simp[ab.refs,V.aN,V.refs]<;>omega):P:=h
theorem sr{P:Prop}(h:P:=by simp only[aL]<;>((repeat' split)<;>first|rfl|omega|(subst_vars;first|rfl|assumption|(symm;assumption)|omega|(simp_all;done)))):P:=h
theorem zy9{P:Prop}(h:P:=by(repeat(first|exact wW|refine ud ?_|refine pG rfl ?_|refine pG (IK (IL (by omega))) ?_|refine yK rfl (by simp[V.refs,V.aN]<;>first|omega|assumption) ?_|refine pG (by first|exact q0|exact q1|exact q2|exact q3|exact q4|exact q5|exact q6|exact q7|exact q8|exact q9|exact q10|exact q11|exact q12|exact q13|exact q14|exact O9|exact Pa|exact Pb|exact q18|exact q19|exact q20|exact q21|exact q22|exact q23|exact q24|exact q25|exact q26|exact q27|exact q28|exact q29|exact q30|exact q31|exact q32|exact q33|exact q34|exact q35|exact q36|exact q37|exact q38|exact q39|exact q40) ?_|refine yK (by first|exact q0|exact q1|exact q2|exact q3|exact q4|exact q5|exact q6|exact q7|exact q8|exact q9|exact q10|exact q11|exact q12|exact q13|exact q14|exact O9|exact Pa|exact Pb|exact q18|exact q19|exact q20|exact q21|exact q22|exact q23|exact q24|exact q25|exact q26|exact q27|exact q28|exact q29|exact q30|exact q31|exact q32|exact q33|exact q34|exact q35|exact q36|exact q37|exact q38|exact q39|exact q40) (by simp[V.refs,V.aN]<;>first|omega|assumption) ?_))):P:=h
theorem ra{P:Prop}(h:P:=by(repeat(first|exact IM|refine Gk ?_|refine IP rfl ?_|refine IP (IK (IL (by omega))) ?_|refine Sh 0 rfl rfl rfl ?_|refine Si rfl (by simp[V.refs,V.aN]<;>first|omega|assumption) ?_|refine Sj rfl (by simp[V.ids]<;>omega) ?_))):P:=h
theorem ac4{P:Prop}(h:P:=by first|exact q0|exact q1|exact q2|exact q3|exact q4|exact q5|exact q6|exact q7|exact q8|exact q9|exact q10|exact q11|exact q12|exact q13|exact q14|exact O9|exact Pa|exact Pb|exact q18|exact q19|exact q20|exact q21|exact q22|exact q23|exact q24|exact q25|exact q26|exact q27|exact q28|exact q29|exact q30|exact q31|exact q32|exact q33|exact q34|exact q35|exact q36|exact q37|exact q38|exact q39|exact q40):P:=h
theorem aj{P:Prop}(h:P:=by simp):P:=h
theorem aV{P:Prop}(h:P:=by decide):P:=h
theorem oh{P:Prop}(h:P:=by rintro⟨h1,h2⟩;first|(cases h1;done)|(cases h2;done)):P:=h
theorem jx{P:Prop}(h:P:=by simpa[execOp,fl]using this):P:=h
theorem Gl{P:Prop}(h:P:=by simp+contextual (disch:=first|omega|simp only[go_sem,false_implies]) only[go_sem,wrap64,if_pos,and_self];simp[jV]):P:=h
theorem eV{P:Prop}(h:P:=by rw[ho];rfl):P:=h
theorem pI{P:Prop}(h:P:=by simp[ab.refs,V.aN,V.refs]):P:=h
theorem yL{P:Prop}(h:P:=by rw[m2.eq id (by omega)];unfold ext;rw[if_pos aB]):P:=h
theorem lU{P:Prop}(h:P:=by simp[V.aN,V.refs]):P:=h
theorem IQ{P:Prop}(h:P:=by rw[m2.eq id (by omega)];unfold ext;rw[if_neg (by omega),ai _ _ _ _ (by omega)]):P:=h
theorem IU{P:Prop}(h:P:=by(repeat(first|exact Gm|refine Dj ?_|refine MD rfl ?_))):P:=h
theorem IV{P:Prop}(h:P:=by unfold lV at h1;simp only[Bool.and_eq_true,beq_iff_eq]at h1;exact h1.2.1):P:=h
theorem Gn{P:Prop}(h:P:=by rw[hold id (by omega) (by omega),Gp id (by omega) aB]):P:=h
theorem mG{P:Prop}(h:P:=by dsimp only;omega):P:=h
theorem kW{P:Prop}(h:P:=by simpa using hj):P:=h
theorem yM{P:Prop}(h:P:=by simp[Op.equalIn,run_underlying ht]):P:=h
theorem wv{P:Prop}(h:P:=by rw[hn,hI,iH hx];rfl):P:=h
theorem ac5{P:Prop}(h:P:=by simp[V.ids]<;>omega):P:=h
theorem IW{P:Prop}(h:P:=by rw[hI.eq bx Pc];unfold ext;rw[if_neg (by omega),hO]):P:=h
theorem Sk{P:Prop}(h:P:=by rw[q6 _ (by omega)];(repeat(first|rfl|rw[ae]|rw[ai _ _ _ _ (by omega)]))):P:=h
theorem oK{P:Prop}(h:P:=by simp[pC,aB]):P:=h
theorem lu{P:Prop}(h:P:=by simp[hx]):P:=h
theorem ME{P:Prop}(h:P:=by simpa[execOp,fl,resolve,invoke,builtin]using this):P:=h
theorem Sl{P:Prop}(h:P:=by rw[s8];exact List.mem_cons_of_mem _ (List.mem_flatMap.2 ⟨k,hk,hx⟩)):P:=h
theorem MF{P:Prop}(h:P:=by simp only[Sem.run_bind,hr,Result.andThen_ok];rfl):P:=h
theorem Sm{P:Prop}(h:P:=by rw[ai _ _ _ _ oL,Gq _ _ (by omega)];exact h0 id (by omega)):P:=h
theorem MG{P:Prop}(h:P:=by simp only[h1,dm,Option.map_some];exact hK):P:=h
theorem s9{P:Prop}(h:P:=by simp[V.refs]):P:=h
theorem IX{P:Prop}(h:P:=by unfold eC;rw[MH trivial]):P:=h
theorem Sn{P:Prop}(h:P:=by rw[ai _ _ _ _ (by omega)];exact k4 id (by omega) g2):P:=h
theorem MI{P:Prop}(h:P:=by rw[show(hp o nx).o id=_ from ho];rfl):P:=h
theorem Sp{P:Prop}(h:P:=by simp at h;obtain⟨rfl,rfl⟩:=h;exact⟨rfl,rfl⟩):P:=h
theorem Sq{P:Prop}(h:P:=by rw[Gq _ _ (by omega)];exact k2.eq id (by omega)):P:=h
theorem Gs{P:Prop}(h:P:=by simpa[V.refs]using hr):P:=h
theorem Sr{P:Prop}(h:P:=by have:=(List.getElem?_eq_some_iff.1 hx).1;omega):P:=h
theorem Ss{P:Prop}(h:P:=by unfold hY;rw[List.map_append,List.sum_append]):P:=h
theorem Su{P:Prop}(h:P:=by rw[mL];simp only[pC,eP,wx];exact aB):P:=h
theorem Sv{P:Prop}(h:P:=by simp at hl;obtain⟨rfl,rfl⟩:=hl;exact hK):P:=h
theorem Sw{P:Prop}(h:P:=by rw[if_neg (by omega),hold id (by omega) h2]):P:=h
theorem MJ{P:Prop}(h:P:=by simpa only[wX]using this):P:=h
theorem Sx{P:Prop}(h:P:=by simp at hj hy;subst hj;subst hy;exact bn):P:=h
theorem MK{P:Prop}(h:P:=by rw[if_neg e,if_neg (by omega)]):P:=h
theorem yN{P:Prop}(h:P:=by rw[hj];rfl):P:=h
theorem ML{P:Prop}(h:P:=by rw[hg];simp[ei,hv,e]):P:=h
theorem Sy{P:Prop}(h:P:=by rw[tH];exact dh all _ bz):P:=h
theorem Sz{P:Prop}(h:P:=by simp[ab.refs,V.aN,V.refs];omega):P:=h
theorem AP{P:Prop}(h:P:=by rw[wh];rfl):P:=h
theorem MM{P:Prop}(h:P:=by simp[V.aN,V.refs];omega):P:=h
theorem MN{P:Prop}(h:P:=by simp[binOp,AQ hr]):P:=h
theorem AR{P:Prop}(h:P:=by rw[hx];rfl):P:=h
theorem Gt{P:Prop}(h:P:=by rw[hx];exact hk):P:=h
theorem SA{P:Prop}(h:P:=by rw[uf i hi];exact congrArg some hb):P:=h
theorem SB{P:Prop}(h:P:=by rw[List.drop_eq_getElem_cons g1,g2]):P:=h
theorem SC{P:Prop}(h:P:=by rw[List.drop_eq_getElem_cons h5,h6]):P:=h
theorem Dk{P:Prop}(h:P:=by simpa using h2):P:=h
theorem SD{P:Prop}(h:P:=by unfold eC;exact Eq.trans rfl rfl):P:=h
theorem MO{P:Prop}(h:P:=by rw[yO]at hl;simp at hl):P:=h
theorem SE{P:Prop}(h:P:=by unfold Gu;exact Eq.trans rfl rfl):P:=h
theorem AS{P:Prop}(h:P:=by simp;omega):P:=h
theorem SF{P:Prop}(h:P:=by unfold eqGuard;cases op<;>simp):P:=h
theorem MP{P:Prop}(h:P:=by rw[h]at h1;simp at h1):P:=h
theorem Gv{P:Prop}(h:P:=by rw[s8];simp):P:=h
theorem SG{P:Prop}(h:P:=by simp[hj]at hr;exact⟨hr,rfl⟩):P:=h
theorem SH{P:Prop}(h:P:=by rw[Gq _ _ Gw, <- h0 _ Gw,ht]):P:=h
theorem SI{P:Prop}(h:P:=by simp at hj;subst hj;exact fG):P:=h
theorem Gx{P:Prop}(h:P:=by simpa using hx):P:=h
theorem SJ{P:Prop}(h:P:=by rw[ht];exact ab.noConfusion):P:=h
theorem SK{P:Prop}(h:P:=by simp+contextual only[go_sem]):P:=h
theorem Gy{P:Prop}(h:P:=by simpa using h):P:=h
theorem AU{P:Prop}(h:P:=by simp[hy]):P:=h
theorem SL{P:Prop}(h:P:=by simp[pC,mN _ _ aB]):P:=h
theorem Gz{P:Prop}(h:P:=by rw[h1];rfl):P:=h
theorem IY{P:Prop}(h:P:=by cases b<;>rfl):P:=h
theorem SM{P:Prop}(h:P:=by rw[g3 rfl]at g1;exact g1):P:=h
theorem MQ{P:Prop}(h:P:=by simp[V.aN,aB]):P:=h
theorem IZ{P:Prop}(h:P:=by simpa using hi):P:=h
theorem I0{P:Prop}(h:P:=by simpa using hy):P:=h
theorem SN{P:Prop}(h:P:=by simp[binOp,Op.intArith]):P:=h
theorem MR{P:Prop}(h:P:=by simp[V.refs,aB]):P:=h
theorem SO{P:Prop}(h:P:=by rw[lW]at h;exact h):P:=h
theorem MS{P:Prop}(h:P:=by rw[Dl];exact hk):P:=h
theorem SP{P:Prop}(h:P:=by rw[bZ hx h3];rfl):P:=h
theorem SQ{P:Prop}(h:P:=by simpa[V.refs]using hj):P:=h
theorem MT{P:Prop}(h:P:=by simpa using hij):P:=h
theorem MU{P:Prop}(h:P:=by cases c<;>rfl):P:=h
theorem MV{P:Prop}(h:P:=by simpa using r2):P:=h
theorem I1{P:Prop}(h:P:=by assumption):P:=h
def ss(ops:Array Oper)(j:Nat):Option Tmp:=(ops[j]?).bind (·.dst)
structure cu where
 dst:Option Nat
 op:Op
 gd:Option (Nat×Bool):=none
instance:Inhabited cu:=⟨⟨none, .ready 0,none⟩⟩
def Dm(n:Nat):Option Tmp->Bool
 |some d=>decide (d<n)
 |none=>true
def I2(n:Nat)(ops:Array Oper)(o:Oper):Option cu:=
 if Dm n o.dst=true then match o.guard with
  |none=>some ⟨o.dst,o.op,none⟩
  |some (j,want)=>match ss ops j with
   |some d=>some ⟨o.dst,o.op,some (d,want)⟩
   |none=>none
 else none
def lx(n:Nat)(ops:Array Oper):List Oper->Option (List cu)
 |[]=>some []
 |o::l=>match I2 n ops o,lx n ops l with
  |some x,some xs=>some (x::xs)
  |_,_=>none
def tmpsOf(o:cu):List Nat:=(o.op.operands.toList.filterMap fun| .tmp t=>some t|_=>none)++(match o.gd with|some (d,_)=>[d]|none=>[])
def fm(o:cu):List Nat:=tmpsOf o++o.dst.toList
def bM(ops:Array Oper)(i:Nat):List Nat:=match ops[i]? with|some o=>(o.after.toList.filter (Region.binds .any)).map (·.on)|none=>[]
def cc(l:List cu)(i:Nat):cu:=l.getD i default
inductive IC where
 |skip|ag (l:List cu)|eS (l:List cu) (pr:List (List Nat))|seq (a b:IC)|cond (c:Operand) (a b:IC)|block (id:Nat) (a:IC)|loop (a:IC)|exit (id:Nat)|ret|bad
 |GA (g:Operand) (ps:List Nat) (a b:IC)
 deriving Inhabited
inductive jI where
 |ret|exit (id:Nat)
def jI.code:jI->Code
 | .ret=> .ret
 | .exit id=> .exit id
def lX(acc:List Nat):List Nat->Nat
 |[]=>0
 |j::ps=>(2^j|||acc.getD j 0)|||lX acc ps
def eD:List (List Nat)->List Nat->List Nat
 |[],acc=>acc
 |ps::l,acc=>eD l (acc++[lX acc ps])
def rb(x y:cu):Bool:=match x.dst with|some d=> !(fm y).contains d|none=>true
def yP(l:List cu)(pr:List (List Nat)):Bool:=
 (List.range l.length).all fun j=>(List.range j).all fun i=>((eD pr []).getD j 0).testBit i||(rb (cc l i) (cc l j)&&rb (cc l j) (cc l i))
def mO(xs ys:List Nat):Bool:=xs.all fun x=> !ys.contains x
def iI(pr:List (List Nat))(fp:List (List Nat×List Nat)):Bool:=
 (List.range fp.length).all fun j=>(List.range j).all fun i=>((eD pr []).getD j 0).testBit i||
  (mO (fp.getD i ([],[])).2 (fp.getD j ([],[])).1&&mO (fp.getD i ([],[])).2 (fp.getD j ([],[])).2&&mO (fp.getD j ([],[])).2 (fp.getD i ([],[])).1)
def hZ(ops:Array Oper):List (List Nat):=(List.range ops.size).map (bM ops)
def SR(pr:List (List Nat)):Bool:=(List.range pr.length).all fun k=>(pr.getD k []).all fun j=>decide (j<k)
theorem ug{acc:List Nat}{i:Nat}:∀ (ps:List Nat),(lX acc ps).testBit i=true->∃j∈ps,i=j\/(acc.getD j 0).testBit i=true
 |[],h=>by simp[lX]at h
 |j::ps,h=>by
  simp only[lX,Nat.testBit_or,Bool.or_eq_true]at h
  rcases h with(h|h)|h
  ·rw[Nat.testBit_two_pow]at h
   exact⟨j,aj, .inl (by have h:=of_decide_eq_true h;exact h.symm)⟩
  ·exact⟨j,aj, .inr h⟩
  ·obtain⟨j',h1,h2⟩:=ug ps h
   exact⟨j',by simp[h1],h2⟩
theorem re{k:Nat}:∀ (l:List (List Nat)) (acc:List Nat),k<acc.length->(eD l acc).getD k 0=acc.getD k 0
 |[],_,_=>rfl
 |ps::l,acc,h=>by
  rw[eD,re l _ (by simp;omega)]
  simp[List.getD_eq_getElem?_getD,List.getElem?_append_left h]
theorem rh{i:Nat}:∀ (l:List (List Nat)) (acc:List Nat) (k:Nat),acc.length<=k->(∀k',k'<l.length->∀j∈l.getD k' [],j<acc.length+k')->((eD l acc).getD k 0).testBit i=true->
 ∃j∈l.getD (k - acc.length) [],i=j\/((eD l acc).getD j 0).testBit i=true
 |[],acc,k,hk,_,h=>by
  simp only[eD]at h
  rw[List.getD_eq_getElem?_getD,List.getElem?_eq_none hk]at h
  simp at h
 |ps::l,acc,k,hk,hp,h=>by
  simp only[eD]at h|-
  by_cases he:k=acc.length
  ·subst he
   rw[re l _ (by simp)]at h
   have e:(acc++[lX acc ps]).getD acc.length 0=lX acc ps:=by simp[List.getD_eq_getElem?_getD]
   rw[e]at h
   obtain⟨j,h1,h2⟩:=ug ps h
   refine⟨j,by simpa using h1,h2.imp id fun h2=> ?_⟩
   have hj:j<acc.length:=by simpa using hp 0 aj j (by simpa using h1)
   rw[re l _ (by simp;omega)]
   simpa[List.getD_eq_getElem?_getD,List.getElem?_append_left hj]using h2
  ·obtain⟨j,h1,h2⟩:=rh l (acc++[lX acc ps]) k AS (fun k' AV j hj=>by
    have:=hp (k'+1) AS j kW
    simp;omega) h
   refine⟨j, ?_,h2⟩
   have e:k - acc.length=(k - (acc++[lX acc ps]).length)+1:=by simp;omega
   rw[e];simpa using h1
theorem pK{pr:List (List Nat)}(hp:∀k,k<pr.length->∀j∈pr.getD k [],j<k){E:Nat->Bool}(hE:∀k,k<pr.length->E k=true->∀j∈pr.getD k [],E j=true):
 ∀k,k<pr.length->(∀j∈pr.getD k [],E j=true)->∀i,((eD pr []).getD k 0).testBit i=true->E i=true:=by
 intro k
 induction k using Nat.strongRecOn with
 |ind k ih=>
  intro hk hj i hi
  obtain⟨j,h1,h2⟩:=rh pr [] k aj (fun k' AV j hj=>by simpa using hp k' AV j hj) hi
  simp only[List.length_nil,Nat.sub_zero]at h1
  rcases h2 with rfl|h2
  ·exact hj _ h1
  ·have XC:=hp k hk j h1
   exact ih j XC ad (hE j ad (hj j h1)) i h2
theorem AW{pr:List (List Nat)}(hp:∀k,k<pr.length->∀j∈pr.getD k [],j<k):∀k,k<pr.length->∀i,((eD pr []).getD k 0).testBit i=true->i<k:=by
 intro k
 induction k using Nat.strongRecOn with
 |ind k ih=>
  intro hk i hi
  obtain⟨j,h1,h2⟩:=rh pr [] k aj (fun k' AV j hj=>by simpa using hp k' AV j hj) hi
  simp only[List.length_nil,Nat.sub_zero]at h1
  have XC:=hp k hk j h1
  rcases h2 with rfl|h2
  ·exact XC
  ·have:=ih j XC ad i h2;omega
def low(n:Nat):Code->IC
 | .skip=> .skip
 | .label _=> .skip
 | .scope c=>low n c
 | .region _ ops false=>match lx n ops ops.toList with
   |some l=> .ag l
   |none=> .bad
 | .region _ ops true=>match lx n ops ops.toList with
   |some l=>if yP l (hZ ops)&&SR (hZ ops)then .eS l (hZ ops)else .bad
   |none=> .bad
 | .seq a b=> .seq (low n a) (low n b)
 | .cond c a b=> .cond c (low n a) (low n b)
 | .block id a=> .block id (low n a)
 | .loop a=> .loop (low n a)
 | .exit id=> .exit id
 | .ret=> .ret
 | .rangeFunc g ps a b=> .GA g ps.toList (low n a) (low n b)
 |_=> .bad
end Go.Proofs.YtonbelhklnmjnaaGreat
namespace Go.Proofs.YtonbelhklnmjnaaGreat
inductive D where
 |int (k:IntKind) (n:Int)|bool (b:Bool)|str (s:List UInt8)
 |fq|mH|bT|ji
 |agg (cs:List D)|sl (es:List D)|iface (t:TypeId) (d:D)
 |mp (ks vs:List D)
 deriving Inhabited
def Flat(vs:List Value):Prop:=∀u∈vs,u.oneCell'=true
def ig(B:Nat->Prop)(w:World)(a:Addr)(cs:Array Value):Prop:=∀j u,cs[j]? =some u->w.cell? (a.add j)=some u/\ ¬B a.block
def jF(es:Array MapEntry)(clock:Nat):Prop:=(∀e∈es.toList,e.born<clock)/\(es.toList.map (·.born)).Nodup
def yQ(ks:List D):Prop:=ks.Nodup/\∀k∈ks,∃n,k= .int .i64 n
mutual
def D.den (B:Nat->Prop)(w:World):D->Value->Prop
 | .int k n,v=>v= .int k n
 | .bool b,v=>v= .bool b
 | .str l,v=>∃s:ByteArray,v= .string s/\s.data.toList=l
 | .fq,v=>v= .nilIface
 | .mH,v=>v= .pointer none
 | .bT,v=>v= .nilFunc
 | .ji,v=>v= .map none
 | .agg cs,v=>∃a,v= .agg a/\D.aM B w cs a.toList/\Flat a.toList
 | .sl es,v=>∃base len cap,v= .slice base len cap/\len=es.length/\len<=cap/\(base=none->cap=0)/\
  ∃sz,∀a,base=some a->(cap≠0->a.spot=none)/\D.elems B w sz a 0 es
 | .iface t d,v=>∃u,v= .iface t u/\D.den B w d u
 | .mp ks vs,v=>∃m es clock p,v= .map (some m)/\w.heap[m]? =some (.map es clock)/\ ¬B m/\jF es clock/\(p=es.toList\/(p.Perm es.toList/\yQ ks))/\D.aM B w ks (p.map (·.key))/\D.aM B w vs (p.map (·.val))
def D.aM (B:Nat->Prop)(w:World):List D->List Value->Prop
 |[],vs=>vs=[]
 |d::ds,vs=>∃u us,vs=u::us/\D.den B w d u/\D.aM B w ds us
def D.elems (B:Nat->Prop)(w:World)(sz:Nat)(a:Addr):Nat->List D->Prop
 |_,[]=>True
 |i,e::es=>(∃ev:Value,ev.cells.size=sz/\ig B w (a.add (i*sz)) ev.cells/\D.den B w e ev)/\D.elems B w sz a (i+1) es
end
inductive V where
 |d (x:D)|bW|agg (cs:List V)|ck (vs:List V)
 |ptr (id off:Nat)|osl (id ep:Nat)|pe (id ep i sz off:Nat)|pp (cs:List D) (off:Nat)
 |func (fn:Fn) (first cap:List V)|iface (t:TypeId) (x:V)
 |aa
 |qT (es:List D)|wY (id off n:Nat)|mp (id:Nat)|eZ|jO (id:Nat)
 deriving Inhabited
inductive ab where
 |no|row (cs:List V)|arr (ep:Nat) (ty:TypeId) (sz:Nat) (es:List D)|su (ep:Nat) (es:List D)
 |map (kt vt:TypeId) (es:List (D×D))
 |loop (nf n:Nat) (env:List V) (ps:List Nat) (a b:IC) (st:LoopState) (GC:Option jI)
 |iJ (es:List (D×D))|mP (es:List (D×D)) (last:Option (D×D))|yR (s:List UInt8) (pos:Nat)
 deriving Inhabited
def bA(l:List V):Nat->V:=fun i=>l.getD i .aa
structure Hp where
 o:Nat->ab
 us:Nat->Prop
def ab.ct:ab->Option Nat
 | .arr ep _ _ _| .su ep _=>some ep
 |_=>none
def ab.cy:ab->Bool
 | .row _| .map .. | .loop .. | .iJ _| .mP .. | .yR .. =>true
 |_=>false
def ab.live:ab->Bool
 | .row _| .arr .. | .map .. | .loop .. | .mP .. | .yR .. =>true
 |_=>false
def eK:Value->Option Nat
 | .pointer (some a)| .slice (some a) _ _=>some a.block
 | .map (some b)=>some b
 |_=>none
abbrev Place:=Nat->Value
def de(φ:Place)(H:Hp)(b:Nat):Prop:=∃id,(H.o id).live=true/\eK (φ id)=some b
def ax(M:Nat->Prop)(φ:Place)(H:Hp)(b:Nat):Prop:=M b\/de φ H b
mutual
def V.den (B:Nat->Prop)(φ:Place)(H:Hp)(w:World):V->Value->Prop
 | .d x,v=>D.den B w x v
 | .bW,v=>v= .slice none 0 0
 | .agg cs,v=>∃a,v= .agg a/\V.aM B φ H w cs a.toList/\Flat a.toList
 | .ck vs,v=>∃a,v= .tuple a/\V.aM B φ H w vs a.toList
 | .ptr id off,v=>v.oneCell'=true/\H.us id/\((H.o id).cy=true->∃b,φ id= .pointer (some ⟨b,0,none⟩)/\v= .pointer (some ⟨b,off,none⟩))
 | .osl id ep,v=>v.oneCell'=true/\H.us id/\∀e,(H.o id).ct=some e->ep<=e/\(ep=e->v=φ id)
 | .pe id ep i sz off,v=>v.oneCell'=true/\H.us id/\∀e,(H.o id).ct=some e->ep<=e/\(ep=e->∃b n c,φ id= .slice (some ⟨b,0,none⟩) n c/\v= .pointer (some ⟨b,i*sz+off,none⟩))
 | .pp cs off,v=>∃a ev,a.spot=none/\v= .pointer (some (a.add off))/\D.aM B w cs ev/\Flat ev/\ig B w a ev.toArray
 | .func fn first cap,v=>∃f c,v= .func fn f c/\V.aM B φ H w first f.toList/\V.aM B φ H w cap c.toList
 | .iface t x,v=>∃u,v= .iface t u/\V.den B φ H w x u
 | .aa,_=>True
 | .qT es,v=>D.den B w (.sl es) v/\∃base n,v= .slice base n n
 | .wY id off n,v=>v.oneCell'=true/\H.us id/\((H.o id).cy=true->∃b,φ id= .pointer (some ⟨b,0,none⟩)/\v= .slice (some ⟨b,off,none⟩) n n)
 | .mp id,v=>v.oneCell'=true/\H.us id/\((H.o id).cy=true->v=φ id)
 | .eZ,v=>∃b,v= .bool b
 | .jO id,v=>v.oneCell'=true/\H.us id/\((H.o id).cy=true->∃b,φ id= .pointer (some ⟨b,0,none⟩)/\v= .func (.yield b) #[] #[])
def V.aM (B:Nat->Prop)(φ:Place)(H:Hp)(w:World):List V->List Value->Prop
 |[],vs=>vs=[]
 |x::xs,vs=>∃u us,vs=u::us/\V.den B φ H w x u/\V.aM B φ H w xs us
end
def gz(B:Nat->Prop)(w:World)(sz:Nat)(es:List D)(xs:List Value):Prop:=
 ∃evs:List Value,xs=evs.flatMap (·.cells.toList)/\(∀ev∈evs,ev.cells.size=sz)/\D.aM B w es evs
def aW(B:Nat->Prop)(w:World):List (D×D)->List MapEntry->Prop
 |[],es=>es=[]
 |(k,x)::l,es=>∃e es',es=e::es'/\D.den B w k e.key/\D.den B w x e.val/\aW B w l es'
def yS(B:Nat->Prop)(w:World)(l:List (D×D))(last:Option (D×D))(b:Nat):Prop:=
 w.heap[b]? =some (.mapIter none 0 #[] 0)/\l=[]/\last=none\/
 ∃m since seen es,w.heap[b]? =some (.mapIter (some m) since seen since)/\w.heap[m]? =some (.map es since)/\ ¬B m/\jF es since/\(∃l',l'.Perm l/\aW B w l' (es.toList.filter fun e=> !seen.contains e.born))/\
  ∀k x,last=some (k,x)->∃e∈es.toList,seen.back?=some e.born/\D.den B w k e.key/\D.den B w x e.val
def ba(M:Nat->Prop)(φ:Place)(H:Hp)(w:World)(id:Nat):Prop:=
 match H.o id with
 | .no=>True
 | .row cs=>∃b dO ty,φ id= .pointer (some ⟨b,0,none⟩)/\w.heap[b]? =some (.cells dO ty (0,0))/\V.aM (ax M φ H) φ H w cs dO.toList/\Flat dO.toList
 | .arr _ ty sz es=>0<sz/\∃xs,w.ownsRow 0 ty sz (φ id) es.length xs/\gz (ax M φ H) w sz es xs
 | .su _ es=>D.den (ax M φ H) w (.sl es) (φ id)
 | .loop nf n env ps iK eE st GC=>∃b r,φ id= .pointer (some ⟨b,0,none⟩)/\w.heap[b]? =some (.loop r)/\r.fn<nf/\r.state=st/\r.pending=GC.map jI.code/\r.params.toList=ps/\r.tmps.size=n/\low n r.assign=iK/\low n r.body=eE/\
  ∀i,V.den (ax M φ H) φ H w (bA env i) (r.tmps.getD i undef)
 | .map _ _ l=>∃b es clock,φ id= .map (some b)/\w.heap[b]? =some (.map es clock)/\jF es clock/\aW (ax M φ H) w l es.toList
 | .iJ l=>D.den (ax M φ H) w (.mp (l.map (·.1)) (l.map (·.2))) (φ id)
 | .mP l last=>∃b,φ id= .pointer (some ⟨b,0,none⟩)/\yS (ax M φ H) w l last b
 | .yR s pos=>∃b,φ id= .pointer (some ⟨b,0,none⟩)/\w.heap[b]? =some (.stringIter ⟨⟨s⟩⟩ pos)
structure aC (M:Nat->Prop) (φ:Place) (H:Hp) (w:World):Prop where
 ok:∀id,ba M φ H w id
 fresh:∀id, ¬H.us id->H.o id= .no
 apart:∀i j b,(H.o i).live=true->(H.o j).live=true->eK (φ i)=some b->eK (φ j)=some b->i=j
 ours:∀b,de φ H b-> ¬M b/\b<w.heap.size
 AD:∀b,M b->b<w.heap.size
structure eF (m:Nat->Prop) (w w':World):Prop where
 os:w'.os=w.os
 tape:w'.tape=w.tape
 output:w'.output=w.output
 size:w.heap.size<=w'.heap.size
 block:∀k,k<w.heap.size-> ¬m k->w'.heap[k]? =w.heap[k]?
structure ej (φ:Place) (H:Hp) (aO:Place) (H':Hp):Prop where
 us:∀id,H.us id->H'.us id
 row:∀id,H.us id->(H'.o id).cy=true->(H.o id).cy=true/\aO id=φ id
 ep:∀id e',H.us id->(H'.o id).ct=some e'->∃e,(H.o id).ct=some e/\e<=e'/\(e=e'->aO id=φ id)
structure Trans (φ:Place) (H:Hp) (w:World) (aO:Place) (H':Hp) (w':World):Prop where
 cw:eF (de φ H) w w'
 grow:∀b,de aO H' b->de φ H b\/w.heap.size<=b
 rel:ej φ H aO H'
theorem eF.refl (m:Nat->Prop)(w:World):eF m w w:=⟨rfl,rfl,rfl,Nat.le_refl _,fun _ _ _=>rfl⟩
theorem ej.refl (φ:Place)(H:Hp):ej φ H φ H:=⟨fun _ h=>h,fun _ _ h=>⟨h,rfl⟩,fun _ e' _ h=>⟨e',h,Nat.le_refl _,fun _=>rfl⟩⟩
theorem Trans.refl (φ:Place)(H:Hp)(w:World):Trans φ H w φ H w:=⟨eF.refl _ _,fun _ h=> .inl h,ej.refl _ _⟩
theorem ej.trans {φ aO Dn:Place}{H H' XE:Hp}(h:ej φ H aO H')(k:ej aO H' Dn XE):ej φ H Dn XE where
 us id aB:=k.us id (h.us id aB)
 row id aB hr:=by
  obtain⟨a,b⟩:=k.row id (h.us id aB) hr
  obtain⟨c,d⟩:=h.row id aB a
  exact⟨c,b.trans d⟩
 ep id e' aB he:=by
  obtain⟨e,h1,h2,h3⟩:=k.ep id e' (h.us id aB) he
  obtain⟨e0,g1,g2,g3⟩:=h.ep id e aB h1
  refine⟨e0,g1,Nat.le_trans g2 h2,fun heq=> ?_⟩
  have a:e0=e:=ad
  have b:e=e':=ad
  exact(h3 b).trans (g3 a)
theorem Trans.trans {φ aO Dn:Place}{H H' XE:Hp}{w w' Ph:World}(h:Trans φ H w aO H' w')(k:Trans aO H' w' Dn XE Ph):Trans φ H w Dn XE Ph where
 cw:={
  os:=k.cw.os.trans h.cw.os
  tape:=k.cw.tape.trans h.cw.tape
  output:=k.cw.output.trans h.cw.output
  size:=Nat.le_trans h.cw.size k.cw.size
  block:=fun b hb hm=>by
   rw[k.cw.block b (Nat.lt_of_lt_of_le hb h.cw.size) (fun hl=>by
    rcases h.grow b hl with h1|h1
    ·exact hm h1
    ·omega),h.cw.block b hb hm]}
 grow b hl:=by
  rcases k.grow b hl with h1|h1
  ·exact h.grow b h1
  ·exact .inr (Nat.le_trans h.cw.size h1)
 rel:=h.rel.trans k.rel
@[simp] theorem Wy (a:Addr) (j:Nat):(a.add j).block=a.block:=by unfold Addr.add;split<;>rfl
def pL(w:World)(b:Nat):Prop:=∃cs ty fz,w.heap[b]? =some (.cells cs ty fz)
def dt(w:World)(b:Nat):Prop:=pL w b\/∃es clock,w.heap[b]? =some (.map es clock)
theorem dt.lt {w:World}{b:Nat}(h:dt w b):b<w.heap.size:=by
 rcases Nat.lt_or_ge b w.heap.size with hl|hl
 ·exact hl
 ·rcases h with⟨cs,ty,fz,h⟩|⟨es,clock,h⟩
  ·rw[Array.getElem?_eq_none hl]at h;cases h
  ·rw[Array.getElem?_eq_none hl]at h;cases h
theorem oq{w:World}{a:Addr}{u:Value}(h:w.cell? a=some u):pL w a.block:=by
 unfold World.cell? at h
 split at h
 ·exact⟨_,_,_,by assumption⟩
 ·cases h
theorem ta{w:World}{a:Addr}{u:Value}(h:w.cell? a=some u):dt w a.block:= .inl (oq h)
theorem ig.mono {B B':Nat->Prop}{w w':World}{a:Addr}{cs:Array Value}
 (hb:∀b,dt w b-> ¬B b->w'.heap[b]? =w.heap[b]? /\ ¬B' b) (h:ig B w a cs):ig B' w' a cs:=by
 intro j u hj
 obtain⟨h1,h2⟩:=h j u hj
 have cU:dt w a.block:=by simpa using ta h1
 obtain⟨h3,h4⟩:=hb _ cU h2
 exact⟨by rw[World.cell?_of_block (w:=w) (w':=w') (a:=a.add j) (by simpa using h3)];exact h1,h4⟩
mutual
theorem D.aS {B B':Nat->Prop}{w w':World}(hb:∀b,dt w b-> ¬B b->w'.heap[b]? =w.heap[b]? /\ ¬B' b):
 ∀ (x:D) (v:Value),D.den B w x v->D.den B' w' x v
 | .int _ _,_,h| .bool _,_,h| .str _,_,h| .fq,_,h| .mH,_,h| .bT,_,h| .ji,_,h=>by simpa[D.den]using h
 | .agg cs,_,h=>by
   obtain⟨a,rfl,h,hf⟩:=h
   exact⟨a,rfl,D.a8 hb cs _ h,hf⟩
 | .sl es,_,h=>by
   obtain⟨base,len,cap,rfl,h1,h2,h3,sz,h4⟩:=h
   exact⟨base,len,cap,rfl,h1,h2,h3,sz,fun a ha=>⟨(h4 a ha).1,D.uh hb sz a es 0 (h4 a ha).2⟩⟩
 | .iface t d,_,h=>by
   obtain⟨u,rfl,h⟩:=h
   exact⟨u,rfl,D.aS hb d u h⟩
 | .mp ks vs,_,h=>by
   obtain⟨m,es,clock,p,rfl,h1,h2,h3,hp,h4,h5⟩:=h
   obtain⟨k1,k2⟩:=hb m (.inr ⟨es,clock,h1⟩) h2
   exact⟨m,es,clock,p,rfl,k1.trans h1,k2,h3,hp,D.a8 hb ks _ h4,D.a8 hb vs _ h5⟩
theorem D.a8 {B B':Nat->Prop}{w w':World}(hb:∀b,dt w b-> ¬B b->w'.heap[b]? =w.heap[b]? /\ ¬B' b):
 ∀ (ds:List D) (vs:List Value),D.aM B w ds vs->D.aM B' w' ds vs
 |[],_,h=>h
 |d::ds,_,h=>by
  obtain⟨u,us,rfl,h1,h2⟩:=h
  exact⟨u,us,rfl,D.aS hb d u h1,D.a8 hb ds us h2⟩
theorem D.uh {B B':Nat->Prop}{w w':World}(hb:∀b,dt w b-> ¬B b->w'.heap[b]? =w.heap[b]? /\ ¬B' b)(sz:Nat)(a:Addr):
 ∀ (es:List D) (i:Nat),D.elems B w sz a i es->D.elems B' w' sz a i es
 |[],_,_=>trivial
 |e::es,i,h=>by
  obtain⟨⟨ev,h1,h2,h3⟩,h4⟩:=h
  exact⟨⟨ev,h1,h2.mono hb,D.aS hb e ev h3⟩,D.uh hb sz a es (i+1) h4⟩
end
theorem aW.mono {B B':Nat->Prop}{w w':World}(hb:∀b,dt w b-> ¬B b->w'.heap[b]? =w.heap[b]? /\ ¬B' b):
 ∀ (l:List (D×D)) (es:List MapEntry),aW B w l es->aW B' w' l es
 |[],_,h=>h
 |(k,x)::l,_,h=>by
  obtain⟨e,es,rfl,h1,h2,h3⟩:=h
  exact⟨e,es,rfl,D.aS hb k _ h1,D.aS hb x _ h2,aW.mono hb l es h3⟩
theorem yS.mono {B B':Nat->Prop}{w w':World}(hb:∀b,dt w b-> ¬B b->w'.heap[b]? =w.heap[b]? /\ ¬B' b){l:List (D×D)}{last:Option (D×D)}{b:Nat}(hbb:w'.heap[b]? =w.heap[b]?)(h:yS B w l last b):yS B' w' l last b:=by
 rcases h with⟨h1,h2⟩|⟨m,since,seen,es,h1,h2,h3,h4,h5,h6⟩
 ·exact .inl ⟨hbb.trans h1,h2⟩
 ·obtain⟨k1,k2⟩:=hb m (.inr ⟨es,since,h2⟩) h3
  obtain⟨l',h5,AE⟩:=h5
  refine .inr ⟨m,since,seen,es,hbb.trans h1,k1.trans h2,k2,h4,⟨l',h5,aW.mono hb l' _ AE⟩,fun k x e=> ?_⟩
  obtain⟨e,g1,g2,g3,g4⟩:=h6 k x e
  exact⟨e,g1,g2,D.aS hb k _ g3,D.aS hb x _ g4⟩
theorem ly{B:Nat->Prop}{w:World}:∀ (l:List (D×D)) (es:List MapEntry),aW B w l es↔D.aM B w (l.map (·.1)) (es.map (·.key))/\D.aM B w (l.map (·.2)) (es.map (·.val))
 |[],es=>by
  simp only[aW,List.map_nil,D.aM]
  constructor
  ·rintro rfl;exact⟨rfl,rfl⟩
  ·rintro⟨h,_⟩;simpa using h
 |(k,x)::l,es=>by
  simp only[aW,List.map_cons,D.aM]
  constructor
  ·rintro⟨e,es',rfl,h1,h2,h3⟩
   obtain⟨g1,g2⟩:=(ly l es').1 h3
   exact⟨⟨_,_,rfl,h1,g1⟩,⟨_,_,rfl,h2,g2⟩⟩
  ·rintro⟨⟨u,us,h1,h2,h3⟩,⟨v,vs,h4,h5,h6⟩⟩
   cases es with
   |nil=>simp at h1
   |cons e es'=>
    simp only[List.map_cons,List.cons.injEq]at h1 h4
    obtain⟨rfl,rfl⟩:=h1
    obtain⟨rfl,rfl⟩:=h4
    exact⟨e,es',rfl,h2,h5,(ly l es').2 ⟨h3,h6⟩⟩
theorem D.aH {B:Nat->Prop}{w:World}:∀ (ds:List D) (vs:List Value),D.aM B w ds vs->vs.length=ds.length
 |[],_,h=>by simp[D.aM]at h;simp[h]
 |d::ds,_,h=>by obtain⟨u,us,rfl,_,h2⟩:=h;simp[D.aH ds us h2]
theorem D.dP {B:Nat->Prop}{w:World}:∀ (ds:List D) (vs:List Value) (i:Nat) (d:D),D.aM B w ds vs->ds[i]? =some d->∃v,vs[i]? =some v/\D.den B w d v
 |[],_,_,_,_,hd=>by simp at hd
 |d::ds,_,0,x,h,hd=>by
  obtain⟨u,us,rfl,h1,_⟩:=h
  simp at hd;subst hd;exact⟨u,aj,h1⟩
 |d::ds,_,i+1,x,h,hd=>by
  obtain⟨u,us,rfl,_,h2⟩:=h
  simpa using D.dP ds us i x h2 (by simpa using hd)
theorem D.wZ {B:Nat->Prop}{w:World}{sz:Nat}{a:Addr}:∀ (es:List D) (i j:Nat) (e:D),D.elems B w sz a i es->es[j]? =some e->
 ∃ev:Value,ev.cells.size=sz/\ig B w (a.add ((i+j)*sz)) ev.cells/\D.den B w e ev
 |[],_,_,_,_,hd=>by simp at hd
 |e::es,i,0,x,h,hd=>by
  simp at hd;subst hd;simpa using h.1
 |e::es,i,j+1,x,h,hd=>by
  have:=D.wZ es (i+1) j x h.2 (by simpa using hd)
  simpa[Nat.add_assoc,Nat.add_comm 1 j]using this
section
variable {M:Nat->Prop}{φ aO:Place}{H H':Hp}{w w':World}
theorem Trans.blocks (ht:Trans φ H w aO H' w')(b:Nat)(hc:dt w b)(h: ¬ax M φ H b):w'.heap[b]? =w.heap[b]? /\ ¬ax M aO H' b:=by
 have hb:=hc.lt
 refine⟨ht.cw.block b hb fun hl=>h (.inr hl), ?_⟩
 rintro(h1|h1)
 ·exact h (.inl h1)
 ·rcases ht.grow b h1 with h2|h2
  ·exact h (.inr h2)
  ·omega
mutual
theorem V.lz (hb:∀b,dt w b-> ¬ax M φ H b->w'.heap[b]? =w.heap[b]? /\ ¬ax M aO H' b)(hr:ej φ H aO H'):∀ (x:V) (v:Value),V.den (ax M φ H) φ H w x v->V.den (ax M aO H') aO H' w' x v
 | .d x,v,h=>D.aS hb x v h
 | .bW,_,h=>h
 | .aa,_,_=>trivial
 | .qT es,v,h=>⟨D.aS hb (.sl es) v h.1,h.2⟩
 | .wY id off n,v,h=>by
   obtain⟨h0,h1,h2⟩:=h
   refine⟨h0,hr.us id h1,fun bX=> ?_⟩
   obtain⟨h3,h4⟩:=hr.row id h1 bX
   obtain⟨b,h5,h6⟩:=h2 h3
   exact⟨b,h4.trans h5,h6⟩
 | .mp id,v,h=>by
   obtain⟨h0,h1,h2⟩:=h
   refine⟨h0,hr.us id h1,fun bX=> ?_⟩
   obtain⟨h3,h4⟩:=hr.row id h1 bX
   exact(h2 h3).trans h4.symm
 | .eZ,v,h=>h
 | .jO id,v,h=>by
   obtain⟨h0,h1,h2⟩:=h
   refine⟨h0,hr.us id h1,fun bX=> ?_⟩
   obtain⟨h3,h4⟩:=hr.row id h1 bX
   obtain⟨b,h5,h6⟩:=h2 h3
   exact⟨b,h4.trans h5,h6⟩
 | .agg cs,_,h=>by obtain⟨a,rfl,h,hf⟩:=h;exact⟨a,rfl,V.gA hb hr cs _ h,hf⟩
 | .ck cs,_,h=>by obtain⟨a,rfl,h⟩:=h;exact⟨a,rfl,V.gA hb hr cs _ h⟩
 | .ptr id off,v,h=>by
   obtain⟨h0,h1,h2⟩:=h
   refine⟨h0,hr.us id h1,fun bX=> ?_⟩
   obtain⟨h3,h4⟩:=hr.row id h1 bX
   obtain⟨b,h5,h6⟩:=h2 h3
   exact⟨b,h4.trans h5,h6⟩
 | .osl id ep,v,h=>by
   obtain⟨h0,h1,h2⟩:=h
   refine⟨h0,hr.us id h1,fun e' ou=> ?_⟩
   obtain⟨e,g1,g2,g3⟩:=hr.ep id e' h1 ou
   obtain⟨h3,h4⟩:=h2 e g1
   refine⟨Nat.le_trans h3 g2,fun heq=> ?_⟩
   rw[g3 (by omega)]
   exact h4 ad
 | .pe id ep i sz off,v,h=>by
   obtain⟨h0,h1,h2⟩:=h
   refine⟨h0,hr.us id h1,fun e' ou=> ?_⟩
   obtain⟨e,g1,g2,g3⟩:=hr.ep id e' h1 ou
   obtain⟨h3,h4⟩:=h2 e g1
   refine⟨Nat.le_trans h3 g2,fun heq=> ?_⟩
   rw[g3 (by omega)]
   exact h4 ad
 | .pp cs off,v,h=>by
   obtain⟨a,ev,h1,h2,h3,h5,h4⟩:=h
   exact⟨a,ev,h1,h2,D.a8 hb cs ev h3,h5,h4.mono hb⟩
 | .func fn first cap,_,h=>by
   obtain⟨f,c,rfl,h1,h2⟩:=h
   exact⟨f,c,rfl,V.gA hb hr first _ h1,V.gA hb hr cap _ h2⟩
 | .iface t x,_,h=>by obtain⟨u,rfl,h⟩:=h;exact⟨u,rfl,V.lz hb hr x u h⟩
theorem V.gA (hb:∀b,dt w b-> ¬ax M φ H b->w'.heap[b]? =w.heap[b]? /\ ¬ax M aO H' b)(hr:ej φ H aO H'):∀ (ds:List V) (vs:List Value),V.aM (ax M φ H) φ H w ds vs->V.aM (ax M aO H') aO H' w' ds vs
 |[],_,h=>h
 |x::xs,_,h=>by
  obtain⟨u,us,rfl,h1,h2⟩:=h
  exact⟨u,us,rfl,V.lz hb hr x u h1,V.gA hb hr xs us h2⟩
end
theorem V.aS (ht:Trans φ H w aO H' w')(x:V)(v:Value)(h:V.den (ax M φ H) φ H w x v):V.den (ax M aO H') aO H' w' x v:=V.lz ht.blocks ht.rel x v h
theorem V.a8 (ht:Trans φ H w aO H' w')(ds:List V)(vs:List Value)(h:V.aM (ax M φ H) φ H w ds vs):V.aM (ax M aO H') aO H' w' ds vs:=V.gA ht.blocks ht.rel ds vs h
end
end Go.Proofs.YtonbelhklnmjnaaGreat
namespace Go.Proofs.YtonbelhklnmjnaaGreat
def aL{α:Type}(f:Nat->α)(i:Nat)(x:α):Nat->α:=fun j=>if j=i then x else f j
@[simp] theorem aR {α:Type} (f:Nat->α) (i:Nat) (x:α) (j:Nat):aL f i x j=if j=i then x else f j:=rfl
structure S where
 env:Nat->V
 o:Nat->ab
 nx:Nat
def S.H (s:S):Hp:=⟨s.o,fun id=>id<s.nx⟩
def V.dD:Value->V
 | .int k n=> .d (.int k n)| .bool b=> .d (.bool b)| .string s=> .d (.str s.data.toList)
 | .nilIface=> .d .fq| .pointer none=> .d .mH| .nilFunc=> .d .bT| .map none=> .d .ji
 | .slice none 0 0=> .bW
 |_=> .aa
def Dp:List V->Option (List D)
 |[]=>some []
 | .d x::vs=>(Dp vs).map (x::·)
 |_::_=>none
def my(cs:List V):V:=match Dp cs with|some ds=> .d (.agg ds)|none=> .agg cs
def V.ofConst:Value->V
 | .agg a=>if a.toList.all Value.oneCell' then my (a.toList.map V.dD)else .aa
 |v=>V.dD v
def S.ev (s:S):Operand->V
 | .tmp t=>s.env t
 | .const v=>V.ofConst v
 | .func f=> .func (.func f) [] []
 | .global _=> .aa
def D.cells:D->List D
 | .agg cs=>cs
 |x=>[x]
def V.cells:V->Option (List V)
 | .d x=>some (x.cells.map .d)
 | .agg cs=>some cs
 | .ck _| .aa=>none
 |v=>some [v]
mutual
def dZ(o:Nat->ab):V->Option D
 | .d x=>some x
 | .bW=>some (.sl [])
 | .qT es=>some (.sl es)
 | .osl id ep=>match o id with
   | .arr jj _ _ es| .su jj es=>if ep=jj then some (.sl es)else none
   |_=>none
 | .mp id=>match o id with
   | .map _ _ l=>some (.mp (l.map (·.1)) (l.map (·.2)))
   | .iJ l=>some (.mp (l.map (·.1)) (l.map (·.2)))
   |_=>none
 | .agg cs=>(cn o cs).map .agg
 | .iface t x=>(dZ o x).map (.iface t)
 |_=>none
def cn(o:Nat->ab):List V->Option (List D)
 |[]=>some []
 |v::vs=>(dZ o v).bind fun x=>(cn o vs).map (x::·)
end
mutual
def V.ids:V->List Nat
 | .osl id _=>[id]
 | .mp id=>[id]
 | .agg cs=>V.bF cs
 | .iface _ x=>x.ids
 |_=>[]
def V.bF:List V->List Nat
 |[]=>[]
 |v::vs=>v.ids++V.bF vs
end
def dk(o:Nat->ab)(ids:List Nat):List (Nat×ab):=
 ids.map fun id=>(id,match o id with| .arr ep _ _ es=> .su ep es| .map _ _ l=> .iJ l|o=>o)
def ri(o:Nat->ab)(ids:List Nat):List (Nat×ab):=
 ids.filterMap fun id=>match o id with| .arr ep _ _ es=>some (id, .su ep es)|_=>none
def put(o:Nat->ab)(Δ:List (Nat×ab)):Nat->ab:=Δ.foldl (fun f x=>aL f x.1 x.2) o
def Hp.put (H:Hp)(Δ:List (Nat×ab)):Hp:={o:=YtonbelhklnmjnaaGreat.put H.o Δ,us:=fun id=>H.us id\/id∈Δ.map (·.1)}
def cL(P:Program)(t:TypeId):Option (List V):=
 match P.info? t with
 |some i=>match i.zero with
  |some z=>if z.cells.size=i.size/\z.cells.toList.all Value.oneCell'=true then some (z.cells.toList.map V.dD)else none
  |none=>none
 |none=>none
def dx(P:Program)(t:TypeId):Option Bool:=
 match P.underlying t with
 |some (.struct _)|some (.array _ _)=>some true
 |some _=>some false
 |none=>none
def cz(P:Program)(t:TypeId)(f:Nat):Option Nat:=
 match P.underlying t with
 |some (.struct fs)=>match fs[f]? with
  |some fd=>if P.cellsOf fd.type=0 then none else some fd.offset
  |none=>none
 |_=>none
def cI(P:Program)(t:TypeId):Option TypeId:=
 match P.underlying t with
 |some (.slice e)=>some e
 |_=>none
def AX(P:Program)(t:TypeId):Option (Nat×TypeId):=
 match P.underlying t with
 |some (.array n e)=>some (n,e)
 |_=>none
def gh(P:Program)(t:TypeId):Option (List (Nat×Nat)):=
 match P.underlying t with
 |some (.struct fs)=>if fs.toList.all (fun f=>(P.info? f.type).isSome)=true then some (fs.toList.map fun f=>(f.offset,P.cellsOf f.type))else none
 |some (.array n e)=>if(P.info? e).isSome=true then some ((List.range n).map fun i=>(i*P.cellsOf e,P.cellsOf e))else none
 |_=>none
def yT(P:Program)(t:TypeId):Option IntKind:=
 match P.underlying t with
 |some (.int k)=>some k
 |_=>none
def e7(P:Program)(t:TypeId)(cs:List V)(off:Nat):Option V:=
 match dx P t with
 |some true=>if off+P.cellsOf t<=cs.length then some (my ((cs.drop off).take (P.cellsOf t)))else none
 |some false=>cs[off]?
 |none=>none
def yU(P:Program)(t:TypeId)(cs:List V)(off:Nat)(v:V):Option (List V):=
 match v.cells with
 |some us=>if us.length=P.cellsOf t/\(0<us.length\/(P.info? t).isSome=true)/\off+us.length<=cs.length then some (cs.take off++us++cs.drop (off+us.length))else none
 |none=>none
def sv(places:List (Nat×Nat))(cs:List V):List (Nat×V)->Option (List V)
 |[]=>some cs
 |(i,v)::rest=>match places[i]?,v.cells with
  |some (off,size),some us=>if us.length=size/\off+us.length<=cs.length then sv places (cs.take off++us++cs.drop (off+us.length)) rest else none
  |_,_=>none
def D.put (e:D)(off:Nat)(us:List D):Option D:=
 match e with
 | .agg cs=>if off+us.length<=cs.length then some (.agg (cs.take off++us++cs.drop (off+us.length)))else none
 |_=>match off,us with
  |0,[u]=>some u
  |_,_=>none
def XF(op:BinOp)(a b:Int):Option Bool:=
 match op with
 | .eql=>some (a==b)| .neq=>some (a !=b)| .lss=>some (decide (a<b))| .leq=>some (decide (a<=b))
 | .gtr=>some (decide (a>b))| .geq=>some (decide (a≥b))
 |_=>none
def ui(op:BinOp)(k:IntKind)(x y:Int):Option Int:=
 let a:=BitVec.ofInt k.bits x
 let b:=BitVec.ofInt k.bits y
 match op with
 | .and=>some (k.wrap (a&&&b).toNat)
 | .or=>some (k.wrap (a|||b).toNat)
 | .xor=>some (k.wrap (a ^^^ b).toNat)
 | .andNot=>some (k.wrap (a&&& ~~~b).toNat)
 |_=>none
def MW(op:BinOp)(k:IntKind)(a b:Int)(K:V->Prop):Prop:=
 match op with
 | .add=>K (.d (.int k (k.wrap (a+b))))
 | .sub=>K (.d (.int k (k.wrap (a - b))))
 | .mul=>K (.d (.int k (k.wrap (a*b))))
 | .quo=>b≠0/\K (.d (.int k (k.wrap (a.tdiv b))))
 | .rem=>b≠0/\K (.d (.int k (a.tmod b)))
 | .and| .or| .xor| .andNot=>∃r,ui op k a b=some r/\K (.d (.int k r))
 | .shl| .shr=>False
 |op=>∃r,XF op a b=some r/\K (.d (.bool r))
def I3(P:Program)(t:TypeId)(x y:D)(r:Bool):Prop:=
 ∀ (B:Nat->Prop) (w:World) (u v:Value),D.den B w x u->D.den B w y v->(Op.equal t u v).run P w= .ok r w/\∀ (op:BinOp) (a b:Operand),(eqGuard op t a b u v).run P w= .ok () w
def I4(P:Program)(op:BinOp)(t:TypeId)(x y:V)(K:V->Prop):Prop:=
 match x,y with
 | .d (.int k a), .d (.int k' b)=>k=k'/\MW op k a b K
 | .d (.bool a), .d (.bool b)=>match op with
   | .eql=>P.underlying t=some .bool/\K (.d (.bool (a==b)))
   | .neq=>P.underlying t=some .bool/\K (.d (.bool (a !=b)))
   |_=>False
 | .d (.str a), .d (.str b)=>match op with
   | .eql=>K (.d (.bool (a==b)))
   | .neq=>K (.d (.bool (a !=b)))
   |_=>False
 | .d (.agg a), .d (.agg b)=>match op with
   | .eql=>∃r,I3 P t (.agg a) (.agg b) r/\K (.d (.bool r))
   | .neq=>∃r,I3 P t (.agg a) (.agg b) r/\K (.d (.bool !r))
   |_=>False
 |_,_=>False
def XG(op:UnOp)(x:V)(K:V->Prop):Prop:=
 match op,x with
 | .neg, .d (.int k n)=>K (.d (.int k (k.wrap (0 - n))))
 | .not, .d (.bool b)=>K (.d (.bool !b))
 |_,_=>False
def AY(c a b:V)(K:V->Prop):Prop:=
 match c with
 | .d (.bool t)=>(t=true->K a)/\(t=false->K b)
 |_=>False
def I5(P:Program)(t:TypeId)(o:Nat->ab)(x:V)(K:V->List Nat->Prop):Prop:=
 match P.underlying t with
 |some (.slice _)=>match x with
  | .d (.sl es)=>K (.d (.int .i64 es.length)) []
  | .bW=>K (.d (.int .i64 0)) []
  | .qT es=>K (.d (.int .i64 es.length)) []
  | .osl id ep=>match o id with
    | .arr jj _ _ es| .su jj es=>ep=jj/\K (.d (.int .i64 es.length)) [id]
    |_=>False
  |_=>False
 |some .string=>match x with
  | .d (.str s)=>K (.d (.int .i64 s.length)) []
  |_=>False
 |some (.array n _)=>K (.d (.int .i64 n)) []
 |_=>False
def jW(P:Program)(o:Nat->ab)(t:TypeId)(x ix:V)(K:V->List Nat->Prop):Prop:=
 match ix with
 | .d (.int _ i)=>match cI P t with
   |some e=>match x with
    | .d (.sl es)=>0<=i/\∃y,es[i.toNat]? =some y/\y.cells.length=P.cellsOf e/\0<P.cellsOf e/\K (.pp y.cells 0) []
    | .qT es=>0<=i/\∃y,es[i.toNat]? =some y/\y.cells.length=P.cellsOf e/\0<P.cellsOf e/\K (.pp y.cells 0) []
    | .osl id ep=>match o id with
      | .arr jj _ sz es=>ep=jj/\0<=i/\i.toNat<es.length/\sz=P.cellsOf e/\0<P.cellsOf e/\K (.pe id ep i.toNat sz 0) [id]
      | .su jj es=>ep=jj/\0<=i/\∃y,es[i.toNat]? =some y/\y.cells.length=P.cellsOf e/\0<P.cellsOf e/\K (.pp y.cells 0) [id]
      |_=>False
    |_=>False
   |none=>match AX P t with
    |some (n,e)=>0<=i/\i<n/\(P.info? e).isSome=true/\(match x with
     | .ptr id off=>(o id).cy=true/\K (.ptr id (off+i.toNat*P.cellsOf e)) []
     | .pp cs off=>K (.pp cs (off+i.toNat*P.cellsOf e)) []
     | .pe id ep j sz off=>(o id).ct=some ep/\K (.pe id ep j sz (off+i.toNat*P.cellsOf e)) []
     |_=>False)
    |none=>False
 |_=>False
def jX(P:Program)(o:Nat->ab)(t:TypeId)(x:V)(f:Nat)(K:V->Prop):Prop:=
 match cz P t f with
 |some q=>match x with
  | .ptr id off=>(o id).cy=true/\K (.ptr id (off+q))
  | .pp cs off=>K (.pp cs (off+q))
  | .pe id ep j sz off=>(o id).ct=some ep/\K (.pe id ep j sz (off+q))
  |_=>False
 |none=>False
def AZ(P:Program)(o:Nat->ab)(t:TypeId)(x:V)(K:V->List Nat->Prop):Prop:=
 match x with
 | .ptr id off=>match o id with
   | .row cs=>∃v,e7 P t cs off=some v/\K v [id]
   |_=>False
 | .pp cs off=>∃v,e7 P t (cs.map .d) off=some v/\K v []
 | .pe id ep i sz off=>match o id with
   | .arr jj _ qU es=>ep=jj/\sz=qU/\∃e,es[i]? =some e/\∃v,e7 P t (e.cells.map .d) off=some v/\K v [id]
   |_=>False
 |_=>False
def uj(P:Program)(o:Nat->ab)(t:TypeId)(x v:V)(K:List (Nat×ab)->List Nat->Prop):Prop:=
 match x with
 | .ptr id off=>match o id with
   | .row cs=>∃cs',yU P t cs off v=some cs'/\K [(id, .row cs')] [id]
   |_=>False
 | .pe id ep i qU off=>match o id with
   | .arr jj ty sz es=>ep=jj/\qU=sz/\∃e,es[i]? =some e/\∃y,dZ o v=some y/\y.cells.length=P.cellsOf t/\0<y.cells.length/\v.ids.all (· !=id)=true/\
    ∃e',e.put off y.cells=some e'/\K (dk o v.ids++[(id, .arr ep ty sz (es.set i e'))]) (id::v.ids)
   |_=>False
 |_=>False
def jk(P:Program)(o:Nat->ab)(fr:Nat)(t:TypeId)(len:Nat)(parts:List (Nat×V))(K:V->List (Nat×ab)->List Nat->Prop):Prop:=
 match cI P t with
 |some e=>(len=0/\parts=[]/\0<P.cellsOf e/\K (.osl fr 0) [(fr, .arr 0 e (P.cellsOf e) [])] [])\/(parts.map (·.1)=List.range len)/\(cL P e).isSome=true/\0<len/\0<P.cellsOf e/\len*P.cellsOf e<=2^24/\
  ∃ds,cn o (parts.map (·.2))=some ds/\(∀x∈ds,x.cells.length=P.cellsOf e)/\
   K (.osl fr 0) (dk o (V.bF (parts.map (·.2)))++[(fr, .arr 0 e (P.cellsOf e) ds)]) (V.bF (parts.map (·.2)))
 |none=>False
def A0(P:Program)(e:TypeId):Option D:=
 match cL P e with
 |some z=>match cn (fun _=> .no) z,dx P e with
  |some ds,some true=>some (.agg ds)
  |some [x],some false=>some x
  |_,_=>none
 |none=>none
def jY(P:Program)(fr:Nat)(t:TypeId)(l c:V)(K:V->List (Nat×ab)->Prop):Prop:=
 match cI P t,l,c with
 |some e, .d (.int _ n), .d (.int _ m)=>n=m/\0<=n/\0<P.cellsOf e/\P.bytesOf e*n.toNat<=2^47/\n.toNat<=2^47/\
  ∃x,A0 P e=some x/\K (.osl fr 0) [(fr, .arr 0 e (P.cellsOf e) (List.replicate n.toNat x))]
 |_,_,_=>False
def e8(o:Nat->ab)(x:V):Option (List D):=
 match dZ o x with
 |some (.sl es)=>some es
 |_=>none
def pM(P:Program)(o:Nat->ab)(fr:Nat)(ts:Array TypeId)(x y:V)(K:V->List (Nat×ab)->List Nat->Prop):Prop:=
 match ts.toList with
 |[t,t']=>t=t'/\(match cI P t with
  |some e=>∃new,e8 o y=some new/\0<P.cellsOf e/\(cL P e).isSome=true/\(∀z∈new,z.cells.length=P.cellsOf e)/\(match x with
   | .bW=>new.length<=2^47/\new.length*P.bytesOf e<=2^47/\K (.osl fr 0) [(fr, .arr 0 e (P.cellsOf e) new)] y.ids
   | .qT es=>(∀z∈es,z.cells.length=P.cellsOf e)/\(if new=[]then K (.qT es) [] y.ids else es.length+new.length<=2^40/\(es.length+new.length)*P.bytesOf e<=2^40/\K (.osl fr 0) [(fr, .arr 0 e (P.cellsOf e) (es++new))] y.ids)
   | .osl id ep=>match o id with
     | .arr jj ty sz es=>ep=jj/\ty=e/\sz=P.cellsOf e/\es.length+new.length<=2^47/\(es.length+new.length)*P.bytesOf e<=2^47/\
      K (.osl id (ep+1)) [(id, .arr (ep+1) ty sz (es++new))] (id::y.ids)
     |_=>False
   |_=>False)
  |none=>False)
 |_=>False
def nP(isMax:Bool)(args:List V)(K:V->Prop):Prop:=
 match args with
 |[.d (.int k a), .d (.int k' b)]=>k=k'/\K (.d (.int k (if isMax then(if b>a then b else a)else(if b<a then b else a))))
 |_=>False
def lA(o:Nat->ab)(x:V)(K:V->Prop):Prop:=
 match x with
 | .ptr id off=>(o id).cy=true/\K (.ptr id off)
 | .pp cs off=>K (.pp cs off)
 | .func (.func f) first cap=>K (.func (.func f) first cap)
 |_=>False
def jZ(P:Program)(t:TypeId)(xs:List D)(off:Nat):Option D:=
 match dx P t with
 |some true=>if off+P.cellsOf t<=xs.length then some (.agg ((xs.drop off).take (P.cellsOf t)))else none
 |some false=>xs[off]?
 |none=>none
inductive abg where
 |int|bool|str|struct (fs:List (TypeId×Nat))|arr (n:Nat) (e:TypeId)
def cj(P:Program)(t:TypeId):Option abg:=
 match P.underlying t with
 |some (.int _)=>some .int
 |some .bool=>some .bool
 |some .string=>some .str
 |some (.struct fs)=>if(!P.stoodInHeld t&&fs.toList.all (fun f=>f.name != "_"))=true then some (.struct (fs.toList.map fun f=>(f.type,f.offset)))else none
 |some (.array n e)=>if(P.info? e).isSome=true then some (.arr n e)else none
 |_=>none
def I6(a b:Option Bool):Option Bool:=
 match a,b with
 |some a,some b=>some (a&&b)
 |_,_=>none
def A1(f:TypeId->Nat->Option Bool):List (TypeId×Nat)->Option Bool
 |[]=>some true
 |x::l=>I6 (f x.1 x.2) (A1 f l)
def ER(f:Nat->Option Bool):Nat->Nat->Option Bool
 |0,_=>some true
 |n+1,i=>I6 (f i) (ER f n (i+1))
def SS(f:D->D->Option Bool)(x y:Option D):Option Bool:=
 match x,y with
 |some x,some y=>f x y
 |_,_=>none
def qV(P:Program):Nat->TypeId->D->D->Option Bool
 |0,_,_,_=>none
 |d+1,t,x,y=>match cj P t with
  |some .int=>match x,y with| .int k a, .int k' b=>if k=k' then some (a==b)else none|_,_=>none
  |some .bool=>match x,y with| .bool a, .bool b=>some (a==b)|_,_=>none
  |some .str=>match x,y with| .str a, .str b=>some (a==b)|_,_=>none
  |some (.struct fs)=>match x,y with
   | .agg xs, .agg ys=>A1 (fun u off=>SS (qV P d u) (jZ P u xs off) (jZ P u ys off)) fs
   |_,_=>none
  |some (.arr n e)=>match x,y with
   | .agg xs, .agg ys=>ER (fun i=>SS (qV P d e) (jZ P e xs (i*P.cellsOf e)) (jZ P e ys (i*P.cellsOf e))) n 0
   |_,_=>none
  |none=>none
abbrev gB:=V×List (Nat×ab)×List Nat
def dm(x:Option gB)(K:V->List (Nat×ab)->List Nat->Prop):Prop:=
 match x with
 |some (v,Δ,rd)=>K v Δ rd
 |none=>False
def GD(x:Option V)(abh:Nat):Option Nat:=
 match x with
 |none=>some abh
 |some (.d (.int _ i))=>if 0<=i then some i.toNat else none
 |_=>none
def oM(o:Nat->ab)(x:V):Option (Nat×Nat):=
 match x with
 | .ptr id off=>if(o id).cy=true then some (id,off)else none
 |_=>none
def oN(o:Nat->ab)(x:V):Option (Nat×Nat×Nat×List V):=
 match x with
 | .wY id off n=>match o id with
   | .row cs=>some (id,off,n,cs)
   |_=>none
 |_=>none
def Dq(P:Program)(o:Nat->ab)(t:TypeId)(x:V)(lo hi mx:Option V):Option gB:=
 match x with
 | .bW=>match lo,hi,mx with
   |none,some (.d (.int _ k)),none=>match cI P t with
    |some e=>if k=0/\(P.info? e).isSome=true then some (.bW,[],[])else none
    |none=>none
   |_,_,_=>none
 | .osl id ep=>match lo,hi,mx with
   |none,some (.d (.int _ k)),none=>match cI P t,o id with
    |some e, .arr jj ty sz _=>if k=0/\ep=jj/\(P.info? e).isSome=true then some (.osl id (ep+1),[(id, .arr (ep+1) ty sz [])],[id])else none
    |_,_=>none
   |_,_,_=>none
 |_=>none
def pN(P:Program)(o:Nat->ab)(t:TypeId)(x:V)(lo hi mx:Option V):Option gB:=
 match cI P t with
 |some e=>match e8 o x,GD lo 0 with
  |some es,some l=>match GD hi es.length with
   |some h=>if l<=h/\h<=es.length/\(P.info? e).isSome=true/\(l=0\/es.all (fun y=>y.cells.length==P.cellsOf e)=true)then match mx with
    |none=>some (.d (.sl ((es.take h).drop l)),dk o x.ids,x.ids)
    |some m=>match hi,GD (some m) 0 with
     |some _,some m=>if h<=m/\m<=es.length then some (if h=m then .qT ((es.take h).drop l)else .d (.sl ((es.take h).drop l)),dk o x.ids,x.ids)else none
     |_,_=>none
    else none
   |none=>none
  |_,_=>none
 |none=>match AX P t,lo,hi,mx with
  |some (n,e),none,none,none=>match oM o x with
   |some (id,off)=>if(P.info? e).isSome=true then some (.wY id off n,[],[id])else none
   |none=>none
  |_,_,_,_=>none
def rj(P:Program)(o:Nat->ab)(t:TypeId)(x:V)(lo hi mx:Option V):Option gB:=
 match Dq P o t x lo hi mx with
 |some r=>some r
 |none=>pN P o t x lo hi mx
def w7(P:Program)(o:Nat->ab)(ts:Array TypeId)(x y:V):Option gB:=
 match ts.toList with
 |[t,_]=>match cI P t with
  |some e=>match oN o x,e8 o y with
   |some (id,off,n,cs),some es=>if P.cellsOf e=1/\off+n<=cs.length/\es.all (fun z=>z.cells.length==1)=true/\y.ids.all (· !=id)=true then
    some (.d (.int .i64 ((min es.length n:Nat):Int)),dk o y.ids++[(id, .row (cs.take off++((es.take n).flatMap D.cells).map .d++cs.drop (off+(es.take n).length)))],id::y.ids)else none
   |_,_=>none
  |none=>none
 |_=>none
def yV(P:Program)(t:TypeId)(f:Nat):Option (Nat×TypeId):=
 match P.underlying t with
 |some (.struct fs)=>match fs[f]? with
  |some fd=>some (fd.offset,fd.type)
  |none=>none
 |_=>none
def uk(P:Program)(t:TypeId)(x:V)(f:Nat):Option V:=
 match yV P t f with
 |some (off,u)=>match x with
  | .d (.agg cs)=>(jZ P u cs off).map .d
  | .agg cs=>e7 P u cs off
  |_=>none
 |none=>none
def um(P:Program)(t:TypeId)(x i:V):Option V:=
 match i with
 | .d (.int _ i)=>if 0<=i then match P.underlying t with
  |some .string=>match x with
   | .d (.str s)=>match s[i.toNat]? with
     |some b=>some (.d (.int .u8 b.toNat))
     |none=>none
   |_=>none
  |some (.array n e)=>if i<n/\(P.info? e).isSome=true then match x with
   | .d (.agg cs)=>(jZ P e cs (i.toNat*P.cellsOf e)).map .d
   | .agg cs=>e7 P e cs (i.toNat*P.cellsOf e)
   |_=>none
   else none
  |_=>none
   else none
 |_=>none
def oO(P:Program)(t:TypeId):Bool:=
 match P.underlying t with
 |some (.interface _)=>false
 |some _=>true
 |none=>false
def zeroV(P:Program)(t:TypeId):Option V:=
 match P.info? t with
 |some i=>match i.zero with
  |some (.agg a)=>if a.toList.all Value.oneCell'=true then some (my (a.toList.map V.dD))else none
  |some v=>if v.oneCell'=true then some (V.dD v)else none
  |none=>none
 |none=>none
def pO(P:Program)(t:TypeId)(ok:Bool)(x:V):Option V:=
 if oO P t=true then match x with
  | .d (.iface u y)=>if u=t then some (if ok=true then .ck [.d y, .d (.bool true)]else .d y)
   else if ok=true then(zeroV P t).map fun z=> .ck [z, .d (.bool false)]else none
  | .d .fq=>if ok=true then(zeroV P t).map fun z=> .ck [z, .d (.bool false)]else none
  |_=>none
 else none
def A2(o:Nat->ab)(x:V):Option V:=
 match x with
 | .bW=>some (.d (.bool true))
 |x=>match e8 o x with
  |some es=>some (if es=[]then .eZ else .d (.bool false))
  |none=>none
def isConst:Operand->Bool
 | .const _=>true
 |_=>false
def MX:V->Option V
 | .d (.bool b)=>some (.d (.bool !b))
 | .eZ=>some .eZ
 |_=>none
def rk(o:Nat->ab)(x:V):Option V:=
 match x with
 | .d .ji=>some (.d (.bool true))
 | .d (.mp _ _)=>some (.d (.bool false))
 | .mp id=>match o id with| .map _ _ _=>some (.d (.bool false))| .iJ _=>some (.d (.bool false))|_=>none
 |_=>none
def rm(o:Nat->ab)(x:V):Option V:=
 match x with
 | .d .mH=>some (.d (.bool true))
 | .ptr id _=>if(o id).cy=true then some (.d (.bool false))else none
 | .pp _ _=>some (.d (.bool false))
 |_=>none
def eqI(P:Program)(a b:TypeId)(x y:D):Option Bool:=
 if a=b then(match P.info? a,P.underlying a with
  |some i,some (.int _)=>if i.comparable=true then(match x,y with
   | .int k m, .int k' n=>if k=k' then some (m==n)else none
   |_,_=>none)else none
  |_,_=>none)
 else some false
def pP(P:Program)(o:Nat->ab)(t:TypeId)(oP:Bool)(x y:V):Option V:=
 match P.underlying t with
 |some (.interface _)=>match x,y with
  | .d .fq, .d .fq=>if oP=true then some (.d (.bool true))else none
  | .d (.iface _ _), .d .fq| .iface _ _, .d .fq| .d .fq, .d (.iface _ _)| .d .fq, .iface _ _=>some (.d (.bool false))
  | .d (.iface a x), .d (.iface b y)=>(eqI P a b x y).map fun r=> .d (.bool r)
  |_,_=>none
 |some (.func _ _ _)=>match x,y with
  | .d .bT, .d .bT=>some (.d (.bool true))
  | .func _ _ _, .d .bT=>some (.d (.bool false))
  |_,_=>none
 |some (.map _ _)=>match y with
  | .d .ji=>rk o x
  |_=>none
 |some (.pointer _)=>match y with
  | .d .mH=>rm o x
  |_=>none
 |some (.slice _)=>match y with
  | .bW=>A2 o x
  |_=>none
 |some (.struct _)|some (.array _ _)=>match x,y with
  | .d (.agg cp), .d (.agg bs)=>if P.eqGuardType P.depth t=false then(qV P 100 t (.agg cp) (.agg bs)).map fun r=> .d (.bool r)else none
  |_,_=>none
 |_=>none
def rn(P:Program)(o:Nat->ab)(op:BinOp)(t:TypeId)(oP:Bool)(x y:V):Option gB:=
 match op with
 | .eql=>(pP P o t oP x y).map fun v=>(v,[],[])
 | .neq=>((pP P o t oP x y).bind MX).map fun v=>(v,[],[])
 |_=>none
mutual
def D.same:D->D->Bool
 | .int k a, .int j b=>k==j&&a==b
 | .bool a, .bool b=>a==b
 | .str a, .str b=>a==b
 | .fq, .fq| .mH, .mH| .bT, .bT| .ji, .ji=>true
 | .agg cp, .agg bs=>D.gL cp bs
 | .sl cp, .sl bs=>D.gL cp bs
 | .iface t a, .iface u b=>t==u&&a.same b
 | .mp ks vs, .mp ks' vs'=>D.gL ks ks'&&D.gL vs vs'
 |_,_=>false
def D.gL:List D->List D->Bool
 |[],[]=>true
 |a::cp,b::bs=>a.same b&&D.gL cp bs
 |_,_=>false
end
def pQ(P:Program)(t:TypeId):Option (TypeId×TypeId):=
 match P.underlying t with
 |some (.map k v)=>some (k,v)
 |_=>none
def oi(P:Program):Nat->TypeId->D->Bool
 |0,_,_=>false
 |d+1,t,x=>match cj P t with
  |some .int|some .bool|some .str=>true
  |some (.struct fs)=>match x with
   | .agg xs=>fs.all fun f=>match jZ P f.1 xs f.2 with|some y=>oi P d f.1 y|none=>false
   |_=>false
  |some (.arr n e)=>match x with
   | .agg xs=>(List.range n).all fun i=>match jZ P e xs (i*P.cellsOf e)with|some y=>oi P d e y|none=>false
   |_=>false
  |none=>false
def findD(P:Program)(kt:TypeId)(k:D):List (D×D)->Nat->Option (Option (Nat×D×D))
 |[],_=>some none
 |(k',x)::l,i=>match qV P 100 kt k k' with
  |some true=>some (some (i,k',x))
  |some false=>findD P kt k l (i+1)
  |none=>none
def ow:D->Bool
 | .int _ _| .bool _| .str _=>true
 |_=>false
def kX:D->Bool
 | .agg cs=>cs.all ow
 |x=>ow x
def ox(o:Nat->ab)(m:V):Option (Option (Nat×TypeId×TypeId)×List (D×D)):=
 match m with
 | .mp id=>match o id with
   | .map kt vt l=>some (some (id,kt,vt),l)
   |_=>none
 | .d .ji=>some (none,[])
 |_=>none
def pR(o:Nat->ab)(m:V):Option (List Nat×List (D×D)):=
 match m with
 | .mp id=>match o id with
   | .map _ _ l=>some ([id],l)
   | .iJ l=>some ([id],l)
   |_=>none
 | .d .ji=>some ([],[])
 | .d (.mp ks vs)=>some ([],ks.zip vs)
 |_=>none
def abi(r:Option (Nat×TypeId×TypeId)):List Nat:=match r with|some p=>[p.1]|none=>[]
def jf(P:Program)(o:Nat->ab)(t:TypeId)(m k:V)(ok:Bool):Option gB:=
 match pQ P t,dZ o k,pR o m with
 |some (kt,vt),some kd,some (rd,l)=>if k.ids=[]/\oi P 100 kt kd=true then match findD P kt kd l 0 with
  |some (some (_,_,x))=>some (if ok=true then .ck [.d x, .d (.bool true)]else .d x,[],rd)
  |some none=>match zeroV P vt with
   |some z=>some (if ok=true then .ck [z, .d (.bool false)]else z,[],rd)
   |none=>none
  |none=>none
  else none
 |_,_,_=>none
def gk(P:Program)(o:Nat->ab)(t:TypeId)(m k v:V):Option gB:=
 match pQ P t,dZ o k,dZ o v,ox o m with
 |some (kt,_),some kd,some vd,some (some (id,ES,ET),l)=>if k.ids=[]/\oi P 100 kt kd=true/\kX kd=true/\v.ids.all (· !=id)=true then match findD P kt kd l 0 with
  |some (some (i,k',_))=>if k'.same kd=true then some (.ck [],dk o v.ids++[(id, .map ES ET (l.set i (kd,vd)))],id::v.ids)else none
  |some none=>some (.ck [],dk o v.ids++[(id, .map ES ET (l++[(kd,vd)]))],id::v.ids)
  |none=>none
  else none
 |_,_,_,_=>none
def mQ(P:Program)(fr:Nat)(t:TypeId):Option gB:=
 match pQ P t with
 |some (kt,vt)=>some (.mp fr,[(fr, .map kt vt [])],[])
 |none=>none
def mR(P:Program)(o:Nat->ab)(fr:Nat)(t:TypeId)(x:V):Option gB:=
 match P.underlying t with
 |some .string=>match x with
  | .d (.str s)=>some (.ptr fr 0,[(fr, .yR s 0)],[])
  |_=>none
 |some (.map _ _)=>match x with
  | .d .ji=>some (.ptr fr 0,[(fr, .mP [] none)],[])
  | .d (.mp ks vs)=>some (.ptr fr 0,[(fr, .mP (ks.zip vs) none)],[])
  | .mp id=>match o id with
    | .map _ _ l=>some (.ptr fr 0,[(id, .iJ l),(fr, .mP l none)],[id])
    | .iJ l=>some (.ptr fr 0,[(fr, .mP l none)],[id])
    |_=>none
  |_=>none
 |_=>none
def oz(o:Nat->ab)(x:V)(str:Bool):Option gB:=
 match x with
 | .ptr id 0=>match o id with
   | .yR s pos=>if str=true then
    (if pos<s.length then some (.ck [.d (.bool true), .d (.int .i64 pos), .d (.int .i32 (Utf8.decode ⟨⟨s⟩⟩ pos).1)],[(id, .yR s (pos+(Utf8.decode ⟨⟨s⟩⟩ pos).2))],[id])else some (.ck [.d (.bool false)],[],[id]))
     else none
   |_=>none
 |_=>none
def oA(o:Nat->ab)(x:V):Option (Nat×List (D×D)):=
 match x with
 | .ptr id 0=>match o id with
   | .mP l _=>some (id,l)
   |_=>none
 |_=>none
def EU(id:Nat)(l:List (D×D))(K:V->List (Nat×ab)->List Nat->Prop):Prop:=
 (l=[]->K (.ck [.d (.bool false)]) [] [id])/\∀i k x,l[i]? =some (k,x)->K (.ck [.d (.bool true), .d k, .d x]) [(id, .mP (l.eraseIdx i) (some (k,x)))] [id]
def mS(o:Nat->ab)(x:V):Option gB:=
 match x with
 | .ptr id 0=>match o id with
   | .mP _ (some (k,x))=>some (.ck [.d k, .d x],[],[id])
   |_=>none
 |_=>none
def nQ(P:Program)(o:Nat->ab)(t:TypeId)(m k:V):Option gB:=
 match pQ P t,dZ o k,ox o m with
 |some (kt,_),some kd,some (some (id,ES,ET),l)=>if k.ids=[]/\oi P 100 kt kd=true then match findD P kt kd l 0 with
  |some (some (i,_,_))=>some (.ck [],[(id, .map ES ET (l.eraseIdx i))],[id])
  |some none=>some (.ck [],[],[id])
  |none=>none
  else none
 |_,_,_=>none
def I7(x y z:V):Option V:=
 match x,y,z with
 | .d (.int k a), .d (.int k' b), .d (.int k'' c)=>if k=k'/\k=k'' then some (.d (.int k (if c>(if b>a then b else a)then c else(if b>a then b else a))))else none
 |_,_,_=>none
def MY(P:Program)(ts:Array TypeId)(x:V):Option gB:=
 match ts.toList with
 |[t]=>match cI P t with
  |some _=>match x with
   | .bW=>some (.d (.int .i64 0),[],[])
   |_=>none
  |none=>none
 |_=>none
def w8(P:Program)(fr:Nat)(ts:Array TypeId)(x y:V):Option gB:=
 match ts.toList with
 |[t,t']=>if t=t' then none else match cI P t with
  |some e=>match yT P t',x,y with
   |some _, .bW, .d (.int _ n)=>if 0<n/\0<P.cellsOf e/\n.toNat*P.bytesOf e<=2^40/\n.toNat<=2^40 then match A0 P e with
    |some z=>some (.osl fr 0,[(fr, .arr 0 e (P.cellsOf e) (List.replicate n.toNat z))],[])
    |none=>none
    else none
   |_,_,_=>none
  |none=>none
 |_=>none
def uo(P:Program)(s:S)(fr:Nat)(b:Builtin)(args:List Operand)(ts:Array TypeId)(K:V->List (Nat×ab)->List Nat->Prop):Prop:=
 match b,args with
 | .len,[x]=>∃t,ts.toList=[t]/\I5 P t s.o (s.ev x) fun v rd=>K v [] rd
 | .append,[x,y]=>dm (w8 P fr ts (s.ev x) (s.ev y)) K\/pM P s.o fr ts (s.ev x) (s.ev y) K
 | .max,[x,y]=>nP true [s.ev x,s.ev y] fun v=>K v [] []
 | .min,[x,y]=>nP false [s.ev x,s.ev y] fun v=>K v [] []
 | .max,[x,y,z]=>dm ((I7 (s.ev x) (s.ev y) (s.ev z)).map fun v=>(v,[],[])) K
 | .copy,[x,y]=>dm (w7 P s.o ts (s.ev x) (s.ev y)) K
 | .delete,[x,y]=>∃t,ts.toList.head?=some t/\dm (nQ P s.o t (s.ev x) (s.ev y)) K
 | .cap,[x]=>dm (MY P ts (s.ev x)) K
 |_,_=>False
def Pj(P:Program)(s:S)(fr:Nat)(op:Op)(K:V->List (Nat×ab)->List Nat->Prop):Prop:=
 match op with
 | .move x| .assign x=>K (s.ev x) [] []
 | .pick c a b=>AY (s.ev c) (s.ev a) (s.ev b) fun v=>K v [] []
 | .alloc t=>∃cs,cL P t=some cs/\K (.ptr fr 0) [(fr, .row cs)] []
 | .box _ x=>∃cs,(s.ev x).cells=some cs/\K (.ptr fr 0) [(fr, .row cs)] []
 | .build t parts=>∃z pl cs,cL P t=some z/\gh P t=some pl/\sv pl z (parts.toList.map fun p=>(p.1,s.ev p.2))=some cs/\K (my cs) [] []
 | .buildSlice t len parts=>jk P s.o fr t len (parts.toList.map fun p=>(p.1,s.ev p.2)) K
 | .load t x=>AZ P s.o t (s.ev x) fun v rd=>K v [] rd
 | .store t x v=>uj P s.o t (s.ev x) (s.ev v) fun Δ rd=>K (.ck []) Δ rd
 | .nilCheck x=>lA s.o (s.ev x) fun v=>K v [] []
 | .binOp op t x y _=>I4 P op t (s.ev x) (s.ev y) (fun v=>K v [] [])\/dm (rn P s.o op t (isConst x||isConst y) (s.ev x) (s.ev y)) K
 | .unOp op _ x=>XG op (s.ev x) (fun v=>K v [] [])\/(op= .not/\s.ev x= .eZ/\K .eZ [] [])
 | .convert u t x=>(P.underlying u).isSome=true/\(match yT P t,s.ev x with
   |some k, .d (.int _ n)=>K (.d (.int k (k.wrap n))) [] []
   |_,_=>False)
 | .makeInterface t x=>(∃d,P.underlying t=some d/\(match d with| .interface _=>false|_=>true)=true)/\(match s.ev x with
   | .d y=>K (.d (.iface t y)) [] []
   |v=>K (.iface t v) [] [])
 | .makeFunc fn first cap=>K (.func fn (first.toList.map s.ev) (cap.toList.map s.ev)) [] []
 | .makeSlice t l c=>jY P fr t (s.ev l) (s.ev c) fun v Δ=>K v Δ []
 | .fieldAddr t x f=>jX P s.o t (s.ev x) f fun v=>K v [] []
 | .indexAddr t x i=>jW P s.o t (s.ev x) (s.ev i) fun v rd=>K v [] rd
 | .extract x i=>match s.ev x with
   | .ck vs=>∃v,vs[i]? =some v/\K v [] []
   |_=>False
 | .slice t x lo hi mx=>dm (rj P s.o t (s.ev x) (lo.map s.ev) (hi.map s.ev) (mx.map s.ev)) K
 | .field t x f=>dm ((uk P t (s.ev x) f).map fun v=>(v,[],[])) K
 | .index t x i=>dm ((um P t (s.ev x) (s.ev i)).map fun v=>(v,[],[])) K
 | .makeMap t none=>dm (mQ P fr t) K
 | .lookup t m k ok=>dm (jf P s.o t (s.ev m) (s.ev k) ok) K
 | .mapUpdate t m k v=>dm (gk P s.o t (s.ev m) (s.ev k) (s.ev v)) K
 | .insert t m k v=>dm (gk P s.o t (s.ev m) (s.ev k) (s.ev v)) K
 | .range t x=>dm (mR P s.o fr t (s.ev x)) K
 | .next x str=>dm (oz s.o (s.ev x) str) K\/(str=false/\∃id l,oA s.o (s.ev x)=some (id,l)/\EU id l K)
 | .entry x=>dm (mS s.o (s.ev x)) K
 | .typeAssert x _ t ok=>dm ((pO P t ok (s.ev x)).map fun v=>(v,[],[])) K
 | .call c=>match c.callee with
   | .builtin b=>uo P s fr b c.args.toList c.argTypes K
   |_=>False
 |_=>False
end Go.Proofs.YtonbelhklnmjnaaGreat
