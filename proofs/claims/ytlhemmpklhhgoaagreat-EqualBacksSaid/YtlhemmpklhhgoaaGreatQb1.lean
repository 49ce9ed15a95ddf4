/-
  A PART OF THE PROOF. Conditions: none.
-/
import Derived.WalkKit
import Derived.Below
set_option linter.unusedSimpArgs false
set_option linter.unusedVariables false
namespace Go.Proofs.YtlhemmpklhhgoaaGreat
theorem cm{G G':Prop}(g:G')(h:G=G':=by simp+contextual (disch:=first|omega|simp only[go_sem,false_implies]) only[go_sem,wrap64,if_pos,and_self]<;>rfl):G:=Eq.mpr h g
theorem nq{G:Prop}(h:G:=by simp+contextual (disch:=first|omega|simp only[go_sem,false_implies]) only[go_sem,wrap64,if_pos,and_self]):G:=h
theorem oQ{G G':Prop}(g:G')(h:G=G':=by simp+contextual (disch:=first|omega|simp only[go_sem,false_implies]) only[go_sem,wrap64,if_pos,Nat.add_assoc,Nat.left_eq_add,Nat.add_eq_left,Nat.add_left_cancel_iff]<;>rfl):G:=Eq.mpr h g
theorem mg{P0 G G':Prop}(p0:P0)(g:G')(h:P0->G=G':=by intro p0;simp+contextual (disch:=first|omega|simp only[go_sem,false_implies]) only[go_sem,wrap64,if_pos,p0]<;>rfl):G:=Eq.mpr (h p0) g
theorem re{P0 G G':Prop}(p0:P0)(g:G')(h:P0->G=G':=by intro p0;simp+contextual (disch:=first|omega|simp only[go_sem,false_implies]) only[go_sem,wrap64,if_pos,List.length_map,p0]<;>rfl):G:=Eq.mpr (h p0) g
theorem BF{P0 P1 P2 P3 G G':Prop}(p0:P0)(p1:P1)(p2:P2)(p3:P3)(g:G')(h:P0->P1->P2->P3->G=G':=by intro p0 p1 p2 p3;simp+contextual (disch:=first|omega|simp only[go_sem,false_implies]) only[go_sem,wrap64,if_pos,Nat.add_assoc,Nat.left_eq_add,Nat.add_eq_left,Nat.add_left_cancel_iff,p0,p1,p2,p3]<;>rfl):G:=Eq.mpr (h p0 p1 p2 p3) g
theorem b8{G G':Prop}(g:G')(h:G=G':=by simp+contextual only[go_sem]<;>rfl):G:=Eq.mpr h g
theorem zZ{G G':Prop}(g:G')(h:G=G':=by simp+contextual (disch:=first|omega|simp only[go_sem,false_implies]) only[go_sem,wrap64,if_pos,List.length_map]<;>rfl):G:=Eq.mpr h g
theorem Kk{P0 P1 P2 P3 G G':Prop}(p0:P0)(p1:P1)(p2:P2)(p3:P3)(g:G')(h:P0->P1->P2->P3->G=G':=by intro p0 p1 p2 p3;simp+contextual (disch:=first|omega|simp only[go_sem,false_implies]) only[go_sem,wrap64,if_pos,List.length_map,Nat.add_assoc,Nat.left_eq_add,Nat.add_eq_left,Nat.add_left_cancel_iff,p0,p1,p2,p3]<;>rfl):G:=Eq.mpr (h p0 p1 p2 p3) g
theorem QB{P0 P1 P2 P3 P4 G G':Prop}(p0:P0)(p1:P1)(p2:P2)(p3:P3)(p4:P4)(g:G')(h:P0->P1->P2->P3->P4->G=G':=by intro p0 p1 p2 p3 p4;simp+contextual (disch:=first|omega|simp only[go_sem,false_implies]) only[go_sem,wrap64,if_pos,List.length_map,Nat.add_assoc,Nat.left_eq_add,Nat.add_eq_left,Nat.add_left_cancel_iff,p0,p1,p2,p3,p4]<;>rfl):G:=Eq.mpr (h p0 p1 p2 p3 p4) g
theorem xq{P0 G:Prop}(p0:P0)(h:P0->G:=by intro p0;simp+contextual (disch:=first|omega|simp only[go_sem,false_implies]) only[go_sem,wrap64,if_pos,p0]):G:=h p0
theorem C9{P0 P1 G G':Prop}(p0:P0)(p1:P1)(g:G')(h:P0->P1->G=G':=by intro p0 p1;simp+contextual (disch:=first|omega|simp only[go_sem,false_implies]) only[go_sem,wrap64,if_pos,List.length_map,p0,p1]<;>rfl):G:=Eq.mpr (h p0 p1) g
theorem Da{P0 P1 P2 P3 P4 P5 G G':Prop}(p0:P0)(p1:P1)(p2:P2)(p3:P3)(p4:P4)(p5:P5)(g:G')(h:P0->P1->P2->P3->P4->P5->G=G':=by intro p0 p1 p2 p3 p4 p5;simp+contextual (disch:=first|omega|simp only[go_sem,false_implies]) only[go_sem,wrap64,if_pos,p0,p1,p2,p3,p4,p5]<;>rfl):G:=Eq.mpr (h p0 p1 p2 p3 p4 p5) g
theorem MK{P0 P1 P2 P3 P4 P5 P6 P7 G G':Prop}(p0:P0)(p1:P1)(p2:P2)(p3:P3)(p4:P4)(p5:P5)(p6:P6)(p7:P7)(g:G')(h:P0->P1->P2->P3->P4->P5->P6->P7->G=G':=by intro p0 p1 p2 p3 p4 p5 p6 p7;simp+contextual (disch:=first|omega|simp only[go_sem,false_implies]) only[go_sem,wrap64,if_pos,List.length_map,Nat.add_assoc,Nat.left_eq_add,Nat.add_eq_left,Nat.add_left_cancel_iff,p0,p1,p2,p3,p4,p5,p6,p7]<;>rfl):G:=Eq.mpr (h p0 p1 p2 p3 p4 p5 p6 p7) g
theorem ML{P0 P1 P2 P3 P4 P5 P6 G G':Prop}(p0:P0)(p1:P1)(p2:P2)(p3:P3)(p4:P4)(p5:P5)(p6:P6)(g:G')(h:P0->P1->P2->P3->P4->P5->P6->G=G':=by intro p0 p1 p2 p3 p4 p5 p6;simp+contextual (disch:=first|omega|simp only[go_sem,false_implies]) only[go_sem,wrap64,if_pos,List.length_map,Nat.add_assoc,Nat.left_eq_add,Nat.add_eq_left,Nat.add_left_cancel_iff,p0,p1,p2,p3,p4,p5,p6]<;>rfl):G:=Eq.mpr (h p0 p1 p2 p3 p4 p5 p6) g
theorem H7{G G':Prop}(g:G')(h:G=G':=by simp+contextual (disch:=first|omega|simp only[go_sem,false_implies]) only[go_sem,wrap64,if_pos,List.length_map,beq_self_eq_true]<;>rfl):G:=Eq.mpr h g
theorem MM{P0 G G':Prop}(p0:P0)(g:G')(h:P0->G=G':=by intro p0;simp+contextual (disch:=first|omega|simp only[go_sem,false_implies]) only[go_sem,wrap64,if_pos,Nat.add_assoc,Nat.left_eq_add,Nat.add_eq_left,Nat.add_left_cancel_iff,p0]<;>rfl):G:=Eq.mpr (h p0) g
theorem EY{P0 P1 P2 G G':Prop}(p0:P0)(p1:P1)(p2:P2)(g:G')(h:P0->P1->P2->G=G':=by intro p0 p1 p2;simp+contextual (disch:=first|omega|simp only[go_sem,false_implies]) only[go_sem,wrap64,if_pos,p0,p1,p2]<;>rfl):G:=Eq.mpr (h p0 p1 p2) g
theorem H8{P0 P1 P2 P3 G G':Prop}(p0:P0)(p1:P1)(p2:P2)(p3:P3)(g:G')(h:P0->P1->P2->P3->G=G':=by intro p0 p1 p2 p3;simp+contextual (disch:=first|omega|simp only[go_sem,false_implies]) only[go_sem,wrap64,if_pos,List.length_map,p0,p1,p2,p3]<;>rfl):G:=Eq.mpr (h p0 p1 p2 p3) g
theorem H9{P0 P1 P2 G G':Prop}(p0:P0)(p1:P1)(p2:P2)(g:G')(h:P0->P1->P2->G=G':=by intro p0 p1 p2;simp+contextual (disch:=first|omega|simp only[go_sem,false_implies]) only[go_sem,wrap64,if_pos,List.length_map,p0,p1,p2]<;>rfl):G:=Eq.mpr (h p0 p1 p2) g
theorem Ia{P0 G:Prop}(p0:P0)(h:P0->G:=by intro p0;simp+contextual (disch:=first|omega|simp only[go_sem,false_implies]) only[go_sem,wrap64,if_pos,List.length_map,p0]):G:=h p0
theorem RI{P0 P1 P2 P3 G:Prop}(p0:P0)(p1:P1)(p2:P2)(p3:P3)(h:P0->P1->P2->P3->G:=by intro p0 p1 p2 p3;simp+contextual (disch:=first|omega|simp only[go_sem,false_implies]) only[go_sem,wrap64,if_pos,Nat.add_assoc,Nat.left_eq_add,Nat.add_eq_left,Nat.add_left_cancel_iff,List.length_map,gO,p0,p1,p2,p3]):G:=h p0 p1 p2 p3
theorem jb{P0 G G':Prop}(p0:P0)(g:G')(h:P0->G=G':=by intro p0;simp+contextual only[go_sem,p0]<;>rfl):G:=Eq.mpr (h p0) g
theorem MN{P0 G G':Prop}(p0:P0)(g:G')(h:P0->G=G':=by intro p0;simp+contextual (disch:=first|omega|simp only[go_sem,false_implies]) only[go_sem,wrap64,if_pos,List.length_map,bne_self_eq_false,p0]<;>rfl):G:=Eq.mpr (h p0) g
theorem RJ{P0 P1 P2 G G':Prop}(p0:P0)(p1:P1)(p2:P2)(g:G')(h:P0->P1->P2->G=G':=by intro p0 p1 p2;simp+contextual (disch:=first|omega|simp only[go_sem,false_implies]) only[go_sem,wrap64,if_pos,kD,Nat.add_assoc,Nat.left_eq_add,Nat.add_eq_left,Nat.add_left_cancel_iff,List.length_map,p0,p1,p2]<;>rfl):G:=Eq.mpr (h p0 p1 p2) g
theorem MO{G:Prop}(h:G:=by simp+contextual (disch:=first|omega|simp only[go_sem,false_implies]) only[go_sem,wrap64,if_pos,List.length_map,beq_self_eq_true]):G:=h
theorem Ib{P0 P1 G G':Prop}(p0:P0)(p1:P1)(g:G')(h:P0->P1->G=G':=by intro p0 p1;simp+contextual (disch:=first|omega|simp only[go_sem,false_implies]) only[go_sem,wrap64,if_pos,p0,p1]<;>rfl):G:=Eq.mpr (h p0 p1) g
theorem RK{P0 P1 P2 P3 P4 P5 G G':Prop}(p0:P0)(p1:P1)(p2:P2)(p3:P3)(p4:P4)(p5:P5)(g:G')(h:P0->P1->P2->P3->P4->P5->G=G':=by intro p0 p1 p2 p3 p4 p5;simp+contextual (disch:=first|omega|simp only[go_sem,false_implies]) only[go_sem,wrap64,if_pos,List.length_map,Nat.add_assoc,Nat.left_eq_add,Nat.add_eq_left,Nat.add_left_cancel_iff,p0,p1,p2,p3,p4,p5]<;>rfl):G:=Eq.mpr (h p0 p1 p2 p3 p4 p5) g
theorem MP{P0 P1 G G':Prop}(p0:P0)(p1:P1)(g:G')(h:P0->P1->G=G':=by intro p0 p1;simp+contextual (disch:=first|omega|simp only[go_sem,false_implies]) only[go_sem,wrap64,if_pos,List.length_map,List.map_nil,p0,p1]<;>rfl):G:=Eq.mpr (h p0 p1) g
theorem RL{P0 G G':Prop}(p0:P0)(g:G')(h:P0->G=G':=by intro p0;simp+contextual (disch:=first|omega|simp only[go_sem,false_implies]) only[go_sem,wrap64,if_pos,List.length_map,Nat.add_assoc,Nat.left_eq_add,Nat.add_eq_left,Nat.add_left_cancel_iff,p0]<;>rfl):G:=Eq.mpr (h p0) g
theorem MQ{P0 G G':Prop}(p0:P0)(g:G')(h:P0->G=G':=by intro p0;simp+contextual (disch:=first|omega|simp only[go_sem,false_implies]) only[go_sem,wrap64,if_pos,List.length_map,k0,p0]<;>rfl):G:=Eq.mpr (h p0) g
theorem MR{P0 P1 G:Prop}(p0:P0)(p1:P1)(h:P0->P1->G:=by intro p0 p1;simp+contextual (disch:=first|omega|simp only[go_sem,false_implies]) only[go_sem,wrap64,if_pos,List.length_map,p0,p1]):G:=h p0 p1
theorem RM{G G':Prop}(g:G')(h:G=G':=by simp+contextual (disch:=first|omega|simp only[go_sem,false_implies]) only[go_sem,wrap64,if_pos,List.length_map,beq_self_eq_true,Bool.and_true]<;>rfl):G:=Eq.mpr h g
theorem MT{P0 G G':Prop}(p0:P0)(g:G')(h:P0->G=G':=by intro p0;simp+contextual only[go_sem,Nat.add_assoc,Nat.left_eq_add,Nat.add_eq_left,Nat.add_left_cancel_iff,p0]<;>rfl):G:=Eq.mpr (h p0) g
theorem RN{G G':Prop}(g:G')(h:G=G':=by simp+contextual only[go_sem,EZ,Nat.add_assoc,Nat.left_eq_add,Nat.add_eq_left,Nat.add_left_cancel_iff,List.replicate]<;>rfl):G:=Eq.mpr h g
theorem RP{P0 P1 P2 G:Prop}(p0:P0)(p1:P1)(p2:P2)(h:P0->P1->P2->G:=by intro p0 p1 p2;simp+contextual (disch:=first|omega|simp only[go_sem,false_implies]) only[go_sem,wrap64,if_pos,List.length_map,p0,p1,p2]):G:=h p0 p1 p2
theorem RQ{G G':Prop}(g:G')(h:G=G':=by simp+contextual (disch:=first|omega|simp only[go_sem,false_implies]) only[go_sem,wrap64,if_pos,kD]<;>rfl):G:=Eq.mpr h g
theorem RR{G:Prop}(h:G:=by simp+contextual (disch:=first|omega|simp only[go_sem,false_implies]) only[go_sem,wrap64,if_pos,kD]):G:=h
theorem ek{P:Prop}(h:P:=by repeat(first|exact hg.mono (by omega)|exact Good.nil|refine Good.aI ?_ (by omega) rfl|refine Good.aI ?_ (by omega) (BG _ _ _ (by omega))|refine Good.aI ?_ (by omega) (by simp[ab.refs,V.aP,V.refs]<;>omega))):P:=h
theorem dQ{P:Prop}(h:P:=by(repeat(first|exact tR|refine eB ?_|refine lK rfl ?_|refine lK (Kl (Km (by omega))) ?_|refine BH rfl (by simp[V.refs,V.aP]<;>first|omega|assumption) ?_))):P:=h
theorem ag{P:Prop}(h:P:=by kernel_rfl):P:=h
theorem af{P:Prop}(h:P:=by omega):P:=h
theorem zy4{P:Prop}(h:P:=by simp[V.refs,V.aP]<;>first|omega|assumption):P:=h
theorem z7{P:Prop}(h:P:=by(repeat(first|exact E0|refine Db ?_|refine E1 rfl ?_|refine E1 (Kl (Km (by omega))) ?_|refine MU 0 rfl rfl rfl ?_|refine MV rfl (by simp[V.refs,V.aP]<;>first|omega|assumption) ?_|refine MW rfl (by simp[V.ids]<;>omega) ?_))):P:=h
theorem fq{P:Prop}(h:P:=by(repeat(first|rfl|rw[ae]|rw[ah _ _ _ _ (by omega)]))):P:=h
theorem zy7{P:Prop}(h:P:=by simp[ab.refs,V.aP,V.refs]<;>omega):P:=h
theorem aK{P:Prop}(h:P:=by simp):P:=h
theorem MX{P:Prop}(h:P:=by rintro⟨h1,h2⟩;first|(cases h1;done)|(cases h2;done)):P:=h
theorem tv{P:Prop}(h:P:=by subst e;(repeat(first|rfl|rw[ae]|rw[ah _ _ _ _ (by omega)]))):P:=h
theorem gz{P:Prop}(h:P:=by simpa[execOp,fh]using this):P:=h
theorem tw{P:Prop}(h:P:=by cases rs with|nil=>exact ho.elim|cons x l=>cases l<;>exact ho.elim):P:=h
theorem MY{P:Prop}(h:P:=by simp only[aI]<;>((repeat' split)<;>first|rfl|omega|(subst_vars;first|rfl|assumption|(symm;assumption)|omega|(simp_all;done)))):P:=h
theorem E2{P:Prop}(h:P:=by exact⟨_,l0,gZ,hq, .of_steps (.one h0 stepR_seq) (.pass (x:= .code y) rfl (fun _ _=> .inl (by simp)) cL)⟩):P:=h
theorem dB{P:Prop}(h:P:=by rw[ho];rfl):P:=h
theorem Dc{P:Prop}(h:P:=by unfold vm;(repeat(first|rfl|rw[ae]|rw[ah _ _ _ _ (by omega)]))):P:=h
theorem RS{P:Prop}(h:P:=by exact⟨false, .inl rfl,rfl,hO (fun _ _ h=>by cases h.1) (by rintro⟨h1,h2⟩;first|(cases h1;done)|(cases h2;done)),eq _ (fun d=>by rw[RT w d ht])⟩):P:=h
theorem cA{P:Prop}(h:P:=by decide):P:=h
theorem aaQ{P:Prop}(h:P:=by simp[V.ids]<;>omega):P:=h
theorem RU{P:Prop}(h:P:=by exact⟨_,_,_,_,_,_,_,hK,by simp[Instr.range,run_underlying ht,kE], .inl rfl,n1,n2,⟨rfl,by simp,fun _=>⟨w.heap.size,by simp,rfl⟩⟩,fun j hj=> .inr (by simpa using hj)⟩):P:=h
theorem RV{P:Prop}(h:P:=by exact⟨_,_,_,_,_,_,_,hK,by simp[Instr.range,run_underlying ht], .inl rfl,n1,n2,⟨rfl,by simp,fun _=>⟨w.heap.size,by simp,rfl⟩⟩,fun j hj=> .inr (by simpa using hj)⟩):P:=h
theorem kF{P:Prop}(h:P:=by simpa using hj):P:=h
theorem vn{P:Prop}(h:P:=by simp[Op.equalIn,run_underlying ht]):P:=h
theorem Ye{P:Prop}(h:P:=by exact⟨false, .inl rfl,rfl,hO (fun _ _ h=>by cases h.1) (by rintro⟨h1,h2⟩;first|(cases h1;done)|(cases h2;done)),eq _ (fun d=>by rw[RW w d ht])⟩):P:=h
theorem Yf{P:Prop}(h:P:=by exact⟨false, .inl rfl,rfl,hO (fun _ _ h=>by cases h.1) (by rintro⟨h1,h2⟩;first|(cases h1;done)|(cases h2;done)),eq _ (fun d=>by rw[RX w d ht])⟩):P:=h
theorem RY{P:Prop}(h:P:=by exact⟨false, .inl rfl,rfl,hO (fun _ _ h=>by cases h.1) (by rintro⟨h1,h2⟩;first|(cases h1;done)|(cases h2;done)),eq _ (fun d=>by rw[RZ w d ht])⟩):P:=h
theorem Ic{P:Prop}(h:P:=by(repeat(first|exact Dd|refine Ac ?_|refine Ie rfl ?_))):P:=h
theorem R0{P:Prop}(h:P:=by exact⟨a,ev,h1,h2,D.aO (w:=w) (w':=w) (fun b _ hn=>⟨rfl,hB b hn⟩) cs ev h3,h5,h4.mono (w:=w) (w':=w) (fun b _ hn=>⟨rfl,hB b hn⟩)⟩):P:=h
theorem R1{P:Prop}(h:P:=by exact .inl ⟨_,_,_, .inr ⟨c,f,g,first,cap,hc,dS,hf, .inr (.inl ⟨rs,hH,rfl,fun id au=>by simpa using List.all_eq_true.1 l6 id au⟩)⟩,h⟩):P:=h
theorem R2{P:Prop}(h:P:=by exact .inl ⟨_,_,_, .inr ⟨c,f,g,first,cap,hc,dS,hf, .inr (.inr (.inr ⟨hH,fun id au=>by simpa using List.all_eq_true.1 l6 id au⟩))⟩,h⟩):P:=h
theorem R3{P:Prop}(h:P:=by exact b9.same hH _ hK (by simp only[Sem.run_bind,hr,Result.andThen_ok];rfl) ⟨_,rfl,zv,[.bool false],rfl,r2, .bool false,[],rfl,rfl,rfl⟩):P:=h
theorem R4{P:Prop}(h:P:=by exact .inr ⟨_,_,_,⟨c,f,g,first,cap,hc,dS,hf, .inr ⟨x,Δ,hH,rfl,rfl,fun id au=>by simpa using List.all_eq_true.1 l6 id au⟩⟩,h⟩):P:=h
theorem MZ{P:Prop}(h:P:=by subst e1;(repeat(first|rfl|rw[ae]|rw[ah _ _ _ _ (by omega)]));exact q5):P:=h
theorem oR{P:Prop}(h:P:=by simp[V.refs]):P:=h
theorem mH{P:Prop}(h:P:=by simp[mh,au]):P:=h
theorem R5{P:Prop}(h:P:=by exact(HV.aI (i:=nx'+3) (m:=nx'+7) (by omega) (by omega) (by omega) rfl).aI (by omega) (by omega) (by omega) rfl):P:=h
theorem Yg{P:Prop}(h:P:=by exact⟨b,r,k1,k2,k3,k4,k5,k6,k7,k8,k9,fun i=>eP _ _ (fun r hr=>hrefs r (V.tS _ _ r hr)) (Yh i)⟩):P:=h
theorem Ig{P:Prop}(h:P:=by rw[hold id (by omega) (by omega),ED id (by omega) au]):P:=h
theorem Ih{P:Prop}(h:P:=by simpa[execOp,fh,resolve,invoke,builtin]using this):P:=h
theorem R6{P:Prop}(h:P:=by exact⟨fo Ii.1,fo Ii.2,fun id au=>⟨dj tT.1.1 id au,dj tT.1.2 id au⟩,fun id au=>dj tT.2 id au⟩):P:=h
theorem R7{P:Prop}(h:P:=by simp only[Sem.run_bind,hr,Result.andThen_ok];rfl):P:=h
theorem rh{P:Prop}(h:P:=by dsimp only;omega):P:=h
theorem R8{P:Prop}(h:P:=by exact⟨t,by simp only[oN,if_neg h1],hv,rfl,fun h=>absurd h h1,fun _=>rfl,fun h=>absurd h h1⟩):P:=h
theorem M0{P:Prop}(h:P:=by rw[List.length_map];exact Nat.le_refl _):P:=h
theorem De{P:Prop}(h:P:=by simp[ab.refs,V.aP,V.refs]):P:=h
theorem R9{P:Prop}(h:P:=by unfold tx;exact Nat.le_trans (List.length_filter_le _ _) (by rw[List.length_map];exact Nat.le_refl _)):P:=h
theorem Sa{P:Prop}(h:P:=by exact fin _ [] (fun b hb=>by cases hb) du (World.ownsRow_nil w' 0 ty sz) ⟨[],rfl,by simp,rfl⟩ rfl):P:=h
theorem Yi{P:Prop}(h:P:=by exact⟨w.heap.size,es,clock,rfl,heap_alloc_new w _,e3,aB.mono (ht.blocks (M:=M)) l _ e4⟩):P:=h
theorem Sb{P:Prop}(h:P:=by simp only[Op.operands,Call.operands];exact Array.mem_append.2 (.inr (Array.mem_toList_iff.1 hx))):P:=h
theorem Sc{P:Prop}(h:P:=by rw[hn,hI,Ad hx];rfl):P:=h
theorem Yj{P:Prop}(h:P:=by exact E3 hu cI (fun id h=> .inl (by rw[jc]at h;exact h)) g1.symm g3 ky (gD rfl)):P:=h
theorem E4{P:Prop}(h:P:=by injection h with h;subst h;exact hK):P:=h
theorem Sd{P:Prop}(h:P:=by simp only[h1,cB,Option.map_some];exact hK):P:=h
theorem Se{P:Prop}(h:P:=by exact⟨k1,xr.tr.trans k2,xr.size,xr.defers.mono k2,fun j=>V.aL k2 _ _ (xr.env j)⟩):P:=h
theorem Sf{P:Prop}(h:P:=by rw[ah _ _ _ _ e,ah _ _ _ _ e,ah _ _ _ _ (by omega),hI.eq j hj,ah _ _ _ _ e]):P:=h
theorem Ij{P:Prop}(h:P:=by exact V.aL (ht.trans k2) _ _ (hs.env i)):P:=h
theorem Yk{P:Prop}(h:P:=by exact⟨k1,hs.tr.trans k2,hs.size,hs.defers.mono k2,fun j=>V.aL k2 _ _ (hs.env j)⟩):P:=h
theorem Sg{P:Prop}(h:P:=by rw[m3 id h2 (by omega),ah _ _ _ _ (by omega),ah _ _ _ _ (by omega),cI id h2 h3]):P:=h
theorem Sh{P:Prop}(h:P:=by subst e2;(repeat(first|rfl|rw[ae]|rw[ah _ _ _ _ (by omega)]));exact q6):P:=h
theorem Si{P:Prop}(h:P:=by subst e1;(repeat(first|rfl|rw[ae]|rw[ah _ _ _ _ (by omega)]));exact w4):P:=h
theorem Yl{P:Prop}(h:P:=by exact Bool.false_ne_true (jd.trans h.marks)):P:=h
theorem Sj{P:Prop}(h:P:=by exact hQ _ _ _ _ val k5 (dJ hs k1 k2 (o':=o') (nx':=nx') rfl fun id hu=>hu) k4):P:=h
theorem M3{P:Prop}(h:P:=by exact⟨_,l0,gZ,hq, .of_steps (.one h0 stepR_block) cL⟩):P:=h
theorem M4{P:Prop}(h:P:=by exact⟨_,l0,gZ,hq, .of_steps (.one h0 iL) cL⟩):P:=h
theorem E5{P:Prop}(h:P:=by unfold ed;rw[Ik trivial]):P:=h
theorem Sk{P:Prop}(h:P:=by exact .inr (.inr (.inr (mi.mono (fun v o n h=>hK _ h) (fun v o n h=>hX _ _ h) h)))):P:=h
theorem Sl{P:Prop}(h:P:=by(repeat(first|rfl|rw[ae]|rw[ah _ _ _ _ (by omega)]));exact pj j hj e1):P:=h
theorem Sm{P:Prop}(h:P:=by exact⟨none,0,0,rfl,rfl,Nat.le_refl _,fun _=>rfl,0,fun a ha=>by cases ha⟩):P:=h
theorem Sn{P:Prop}(h:P:=by exact⟨b,es',clock,k1,k2,k4,aB.mono (fun b _ hn=>⟨rfl,hB b hn⟩) _ _ k3⟩):P:=h
theorem Sp{P:Prop}(h:P:=by(repeat(first|rfl|rw[ae]|rw[ah _ _ _ _ (by omega)]))<;>exact q1):P:=h
theorem Sq{P:Prop}(h:P:=by exact fun k hk s' h1 h2=>xu _ (fun x hx=>aQ x (tz k hk x hx)) s' h1 h2):P:=h
theorem M5{P:Prop}(h:P:=by injection h with h;subst h;exact⟨by assumption,hK⟩):P:=h
theorem Sr{P:Prop}(h:P:=by exact⟨k1,xs,k2,evs,k3,k4,D.aO (fun b _ hn=>⟨rfl,hB b hn⟩) _ _ k5⟩):P:=h
theorem Ss{P:Prop}(h:P:=by subst e2;(repeat(first|rfl|rw[ae]|rw[ah _ _ _ _ (by omega)]))):P:=h
theorem Su{P:Prop}(h:P:=by(repeat(first|rfl|rw[ae]|rw[ah _ _ _ _ (by omega)]));exact e0):P:=h
theorem Sv{P:Prop}(h:P:=by(repeat(first|rfl|rw[ae]|rw[ah _ _ _ _ (by omega)]));exact i4):P:=h
theorem Sw{P:Prop}(h:P:=by(repeat(first|rfl|rw[ae]|rw[ah _ _ _ _ (by omega)]));exact e1):P:=h
theorem Sx{P:Prop}(h:P:=by exact hH.fresh j fun hu=>h (.inl hu)):P:=h
theorem Ym{P:Prop}(h:P:=by exact⟨r, .inl rfl,by obtain⟨_,rfl,_⟩:=hx;rfl,fun op=>g2 op p q,g1⟩):P:=h
theorem M6{P:Prop}(h:P:=by simp at h;obtain⟨rfl,rfl⟩:=h;exact⟨rfl,rfl⟩):P:=h
theorem Sy{P:Prop}(h:P:=by exact hN _ _ _ (hU hs k1 k2 (kG ho) cq rfl fun id hu=> .inl hu)):P:=h
theorem Il{P:Prop}(h:P:=by rw[List.drop_eq_getElem_cons i1,i2]):P:=h
theorem Sz{P:Prop}(h:P:=by exact⟨_,_,_,_,_,_,_,hK,by simp[hr], .inl rfl,h1,h2,h3,by simp⟩):P:=h
theorem Yn{P:Prop}(h:P:=by simp only[a0,Array.size_append,Array.size_replicate];simp at hlen;omega):P:=h
theorem Yo{P:Prop}(h:P:=by exact forall_congr' fun k=>forall_congr' fun hk=>by rw[ih k hk (d+1)]):P:=h
theorem SA{P:Prop}(h:P:=by cases xv<;>first|(simp[Kn]at hwd;done)|(cases yv<;>simp[he])):P:=h
theorem SB{P:Prop}(h:P:=by exact⟨x,b.trans y,z⟩):P:=h
theorem Df{P:Prop}(h:P:=by simpa[V.refs]using hr):P:=h
theorem SC{P:Prop}(h:P:=by exact hK _ _ (by omega) (HV.mono (by omega)) cI):P:=h
theorem SD{P:Prop}(h:P:=by exact gP s1 (fun r hr=>by simp[ab.refs,V.aP,V.refs]at hr)):P:=h
theorem M7{P:Prop}(h:P:=by rw[l6];simp only[mh,dS,tA];exact au):P:=h
theorem SE{P:Prop}(h:P:=by injection hu with hu;injection hv with hv;subst hu;subst hv;exact h3):P:=h
theorem SF{P:Prop}(h:P:=by exact⟨by have:=jt;simp at h1;simp only[Tm.kids];omega,hl⟩):P:=h
theorem SG{P:Prop}(h:P:=by exact hN _ _ _ _ k3.2 (lL hs k1 k2 k3.1 cq rfl fun id hu=>hu)):P:=h
theorem M8{P:Prop}(h:P:=by simp at hl;obtain⟨rfl,rfl⟩:=hl;exact hK):P:=h
theorem SH{P:Prop}(h:P:=by rw[ah _ _ _ _ tC,EE _ _ (by omega)];exact h0 id (by omega)):P:=h
theorem SI{P:Prop}(h:P:=by exact ri s11 (oS (oS (Ae 0 rfl rfl rfl rj)))):P:=h
theorem SJ{P:Prop}(h:P:=by subst e2;rw[Af]at hr;simp[ab.refs,V.aP,V.refs]at hr):P:=h
theorem M9{P:Prop}(h:P:=by simp at hj hy;subst hj;subst hy;exact aQ):P:=h
theorem BI{P:Prop}(h:P:=by rw[if_neg e,if_neg (by omega)]):P:=h
theorem E6{P:Prop}(h:P:=by simp only[V.den,D.den]at BJ;rw[BJ]):P:=h
theorem SK{P:Prop}(h:P:=by exact h3 e (Array.mem_toList_iff.1 he) hb):P:=h
theorem BK{P:Prop}(h:P:=by rw[hg];simp[de,hv,e]):P:=h
theorem Ko{P:Prop}(h:P:=by exact b9.same hH _ h (by simp[execOp,fh,hr]) ⟨_,rfl,hv⟩):P:=h
theorem E7{P:Prop}(h:P:=by rw[qL];exact cw all _ aT):P:=h
theorem pP{P:Prop}(h:P:=by rw[tf];rfl):P:=h
theorem BM{P:Prop}(h:P:=by simp[V.aP,V.refs];omega):P:=h
theorem Kp{P:Prop}(h:P:=by exact bu t u hu (hQ _ s φ w (.iface t u) h hs ⟨u,rfl,hd⟩)):P:=h
theorem E8{P:Prop}(h:P:=by rw[if_neg e,if_neg fun h=>e h.symm]):P:=h
theorem xw{P:Prop}(h:P:=by simp[V.aP,V.refs]):P:=h
theorem BN{P:Prop}(h:P:=by simp[binOp,xy hr]):P:=h
theorem E9{P:Prop}(h:P:=by exact⟨.ret,s',aA,hq,iI,trivial⟩):P:=h
theorem Kq{P:Prop}(h:P:=by exact⟨e',Na,Xj,hR,ComesIn.of_steps Kr hs,EF,hl⟩):P:=h
theorem pQ{P:Prop}(h:P:=by rw[hx];rfl):P:=h
theorem mj{P:Prop}(h:P:=by simp[hy]):P:=h
theorem tU{P:Prop}(h:P:=by rw[hx];exact hk):P:=h
theorem Fa{P:Prop}(h:P:=by rw[tg i hi];exact congrArg some hb):P:=h
theorem Ks{P:Prop}(h:P:=by exact⟨b,k1,k2.mono (fun b _ hn=>⟨rfl,hB b hn⟩) rfl⟩):P:=h
theorem Fb{P:Prop}(h:P:=by unfold ed;exact Eq.trans rfl rfl):P:=h
theorem BO{P:Prop}(h:P:=by rw[hl2]at hl;simp at hl):P:=h
theorem BP{P:Prop}(h:P:=by subst hi;simp[Ne.symm h]):P:=h
theorem Fc{P:Prop}(h:P:=by exact⟨.bu _,s',aA,hq,iI,hm⟩):P:=h
theorem Fe{P:Prop}(h:P:=by unfold Dg;exact Eq.trans rfl rfl):P:=h
theorem BQ{P:Prop}(h:P:=by exact fun _=>Dh _ _ _):P:=h
theorem Ff{P:Prop}(h:P:=by unfold eqGuard;cases op<;>simp):P:=h
theorem BR{P:Prop}(h:P:=by rw[h]at h1;simp at h1):P:=h
theorem Fg{P:Prop}(h:P:=by simp[hj]at hr;exact⟨hr,rfl⟩):P:=h
theorem tV{P:Prop}(h:P:=by simpa using h2):P:=h
theorem Fh{P:Prop}(h:P:=by simp at hj;subst hj;exact ee):P:=h
theorem tW{P:Prop}(h:P:=by simpa using hx):P:=h
theorem pR{P:Prop}(h:P:=by simp[hx]):P:=h
theorem tX{P:Prop}(h:P:=by rw[h1];rfl):P:=h
theorem xz{P:Prop}(h:P:=by cases b<;>rfl):P:=h
theorem tY{P:Prop}(h:P:=by rw[hj];rfl):P:=h
theorem SL{P:Prop}(h:P:=by exact⟨b,h4.trans h5,h6⟩):P:=h
theorem tZ{P:Prop}(h:P:=by simp;omega):P:=h
theorem Xk{P:Prop}(h:P:=by refine fin _ _ (.inr rfl) _ _ af ek (fun j j1 j2=>by(repeat(first|rfl|rw[ae]|rw[ah _ _ _ _ (by omega)]))) (fun h=> ?_);exact Yl):P:=h
theorem Yp{P:Prop}(h:P:=by refine aR (bp rfl) ?_;refine mg q2 ?_;refine dC _ _ _ .busy none af (fin _ _ (fun id au=>MY) ek af) fq (fun id h3 h4=>by(repeat(first|rfl|rw[ae]|rw[ah _ _ _ _ (by omega)])))):P:=h
theorem Xl{P:Prop}(h:P:=by simp[Ef,Array.getD_eq_getD_getElem?,Array.getElem?_replicate]at gE;split at gE<;>simp at gE):P:=h
theorem zw5{P:Prop}(h:P:=by simp+contextual (disch:=first|omega|simp only[go_sem,false_implies]) only[go_sem,wrap64,if_pos,List.length_map,EG,k0,el,kE];refine aR ag ?_;rw[t1,t2,t3];refine cm ?_;refine ao (fm.same hc) rfl ?_;refine cm ?_;refine ao Yq rfl ?_;exact nq):P:=h
theorem Yr{P:Prop}(h:P:=by obtain⟨h0,h1,h2⟩:=h;refine⟨h0,hr.us id h1,fun cy=> ?_⟩;obtain⟨h3,h4⟩:=hr.row id h1 cy;obtain⟨b,h5,h6⟩:=h2 h3;exact SL):P:=h
theorem Ys{P:Prop}(h:P:=by obtain⟨a,b,c⟩:=hr id oR;obtain⟨h0,h1,h2⟩:=h;refine⟨h0,c,fun cy=> ?_⟩;rw[a]at cy;obtain⟨x,y,z⟩:=h2 cy;exact SB):P:=h
theorem Yt{P:Prop}(h:P:=by obtain⟨h0,x,hx⟩:=BS hI;simp+contextual only[go_sem,hI,hx,h0];refine aR (bp rfl) ?_;refine b8 ?_;exact Sc):P:=h
theorem Yu{P:Prop}(h:P:=by obtain⟨a,b,c⟩:=hr id oR;obtain⟨h0,h1,h2⟩:=h;refine⟨h0,c,fun cy=> ?_⟩;obtain⟨x,y,z⟩:=h2 (a.1 cy);exact SB):P:=h
theorem Nb{P:Prop}(h:P:=by intro j hj;simp only[bf,h2,List.mem_map,List.mem_filter]at hj;obtain⟨e,⟨he,hb⟩,rfl⟩:=hj;exact SK):P:=h
theorem SM{P:Prop}(h:P:=by obtain⟨h0,h1,h2⟩:=h;refine⟨h0,hr.us id h1,fun e' ni=> ?_⟩;obtain⟨e,g1,g2,g3⟩:=hr.ep id e' h1 ni;obtain⟨h3,h4⟩:=h2 e g1;refine⟨Nat.le_trans h3 g2,fun heq=> ?_⟩;rw[g3 (by omega)];exact h4 af):P:=h
theorem Nc{P:Prop}(h:P:=by rw[List.drop_eq_getElem_cons h1];rw[List.getElem?_eq_getElem h1]at hx;injection hx with hx;rw[hx]):P:=h
theorem Nd{P:Prop}(h:P:=by obtain⟨z,h1,h⟩:=gJ h;simp only[Prod.mk.injEq]at h;obtain⟨rfl,rfl,rfl⟩:=h;exact Sd):P:=h
theorem Fi{P:Prop}(h:P:=by simp only[St.S,gQ]at this;exact this):P:=h
theorem Nf{P:Prop}(h:P:=by obtain⟨h0,x,hx⟩:=BS hI;simp+contextual only[go_sem,h,hI,hx,h0];exact Sc):P:=h
theorem SN{P:Prop}(h:P:=by refine⟨t,by simp only[oN,if_pos h1,hl],hv,rfl,fun _=>hl,fun h=>absurd h1 h,fun _=>⟨fun u hu=> ?_,fun h=>absurd h1 h⟩⟩;rw[(mm h1).1 hu];exact Nat.le_refl _):P:=h
theorem Ng{P:Prop}(h:P:=by simp only[Array.getD_eq_getD_getElem?];rw[Array.getElem?_setIfInBounds_ne (Ne.symm hi)]):P:=h
theorem Nh{P:Prop}(h:P:=by refine jb hI ?_;refine aR (bp rfl) ?_;refine b8 ?_;rw[hn,hI];rfl):P:=h
theorem Ni{P:Prop}(h:P:=by dsimp only;refine bG.bU _ (Nat.le_refl _) af hI.cc (fun _ _=>rfl) ?_;exact dQ):P:=h
theorem vo{P:Prop}(h:P:=by subst this;exact nq):P:=h
theorem SO{P:Prop}(h:P:=by simp only[Option.map_eq_some_iff]at h;obtain⟨d,h1,rfl⟩:=h;obtain⟨arr,rfl,g1,g2⟩:=hx;obtain⟨val,r1,r2⟩:=ft h1 g1 g2;exact fin (r1 w) r2):P:=h
theorem Nj{P:Prop}(h:P:=by refine b8 ?_;refine ao (eU _ _ _) rfl ?_;refine b8 ?_;rw[hn]):P:=h
theorem Nk{P:Prop}(h:P:=by subst this;refine re hn ?_;refine aR (bp rfl) ?_;exact nq):P:=h
theorem SP{P:Prop}(h:P:=by rw[show(⟨put o' [(fr, .arr 0 ty sz es)],fun id=>us id\/id=fr⟩:Hp).o fr=put o' [(fr, .arr 0 ty sz es)] fr from rfl,this]at he;injection he):P:=h
theorem SQ{P:Prop}(h:P:=by simp only[hx]at h ho;injection h with h;subst h;simp only[ab.fz]at ho;simp only[aJ,ho]at aQ;rw[hd (by rw[ho];rfl)];exact aQ.den):P:=h
theorem SR{P:Prop}(h:P:=by obtain⟨h0,y,h1,h2,h3,h4⟩:=rk h;simp only[Prod.mk.injEq]at h4;obtain⟨rfl,rfl,rfl⟩:=h4;exact⟨h0,y,h1,h2,h3,hK⟩):P:=h
theorem SS{P:Prop}(h:P:=by obtain⟨h3,h4⟩:=hb _ bR h2;exact⟨by rw[World.cell?_of_block (w:=w) (w':=w') (a:=a.add j) (by simpa using h3)];exact h1,h4⟩):P:=h
theorem SU{P:Prop}(h:P:=by simp only[Option.map_eq_some_iff]at h;obtain⟨r,h1,rfl⟩:=h;obtain⟨g1,g2⟩:=Nl h1 hg (ai M φ H) w xv yv hx hy;exact Ym):P:=h
theorem SV{P:Prop}(h:P:=by simp only[ha];obtain⟨z,h1,h⟩:=gJ h;simp only[Prod.mk.injEq]at h;obtain⟨rfl,rfl,rfl⟩:=h;exact vq h1 hK):P:=h
theorem SW{P:Prop}(h:P:=by simp only[hw,if_true];obtain⟨qM,ky⟩:=xA Fj (fun id au=>Yv id (by rw[tg];exact au)) Nn aQ.2;exact Yj):P:=h
theorem SX{P:Prop}(h:P:=by cases y<;>simp only[V.same,Bool.false_eq_true,Bool.and_eq_true]at h;rw[Nat.eq_of_beq_eq_true h.1,Nat.eq_of_beq_eq_true h.2]):P:=h
theorem SY{P:Prop}(h:P:=by rw[<- vr];refine fW hH (bL w _) cI _ _ Xm ?_;unfold aJ;simp only[bn,aC,if_true];exact Yi):P:=h
theorem Np{P:Prop}(h:P:=by refine cm ?_;refine aR (bp rfl) ?_;exact nq):P:=h
theorem SZ{P:Prop}(h:P:=by refine cm ?_;refine aR (bp rfl) ?_;refine cm ?_;refine aw (k+1) h2 af (bG.d0 _ ?_);exact dQ):P:=h
theorem S0{P:Prop}(h:P:=by intro u hu;simp only[Array.toList_extract,List.extract]at hu;exact hf u (List.mem_of_mem_drop (List.mem_of_mem_take hu))):P:=h
theorem S1{P:Prop}(h:P:=by refine⟨hH,Trans.refl _ _ _, ?_,⟨[],rfl,List.nodup_nil,fun _=>rfl,fun r hr=>by cases hr⟩,xB hd⟩;exact Yn):P:=h
theorem Nq{P:Prop}(h:P:=by refine bG.bU _ af af ek (fun j hj=>rfl) ?_;exact dQ):P:=h
theorem S2{P:Prop}(h:P:=by rw[e];obtain⟨k1,k2⟩:=iM (us':=BT (Array.replicate ops.size false)) hs.heap (fun id h=> .inl h);exact Yk):P:=h
theorem Nr{P:Prop}(h:P:=by simp only[bn,aC,h1,if_false];exact Sx):P:=h
theorem S3{P:Prop}(h:P:=by refine b8 ?_;simp at h1;rw[List.drop_eq_nil_of_le h1]at hf;simp only[aD]at hf;rw[hf]at hK;exact SC):P:=h
theorem S4{P:Prop}(h:P:=by simp only[Option.some.injEq,Prod.mk.injEq]at h;obtain⟨rfl,rfl,rfl⟩:=h;simp only[ho];exact⟨_,hg,hK⟩):P:=h
theorem Ns{P:Prop}(h:P:=by rw[show fr+(j+1)=fr+1+j by omega];exact this):P:=h
theorem Nu{P:Prop}(h:P:=by simp+contextual only[go_sem,h,hI];rw[hn,hI];rfl):P:=h
theorem S5{P:Prop}(h:P:=by injection h with h;subst h;obtain⟨u,rfl,_⟩:=hy;simp only[V.den,D.den]at hx;subst hx;exact Yf):P:=h
theorem S6{P:Prop}(h:P:=by injection h with h;subst h;obtain⟨u,rfl,_⟩:=hx;simp only[V.den,D.den]at hy;subst hy;exact Ye):P:=h
theorem S7{P:Prop}(h:P:=by refine .inr (.inr (.inl ⟨ds,out,dT,hP,nj, ?_⟩));cases out<;>first|exact hK _ h|exact hX _ _ h):P:=h
theorem S8{P:Prop}(h:P:=by rw[hI.eq 2 (by omega)];(repeat(first|rfl|rw[ae]|rw[ah _ _ _ _ (by omega)]));exact p2):P:=h
theorem S9{P:Prop}(h:P:=by simp only[aJ,ho]at aQ;obtain⟨bk,es,clock,g1,_⟩:=aQ;rw[<- ef]at g1;subst g1;exact RS):P:=h
theorem Ta{P:Prop}(h:P:=by simp only[ab.fz]at ho;simp only[aJ,ho]at aQ;rw[(hd ep (by rw[ho];rfl)).2 rfl];exact aQ):P:=h
theorem Tb{P:Prop}(h:P:=by rw[Array.toList_append,Array.toList_append,Array.toList_map];exact V.nr BU db Xn):P:=h
theorem Tc{P:Prop}(h:P:=by refine .inr (.inl ⟨ds,out,dT,hP,nj, ?_⟩);cases out<;>first|exact hK _ h|exact hX _ _ h):P:=h
theorem Td{P:Prop}(h:P:=by obtain⟨b,df,ty,k1,k2,k3,k4⟩:=aT;exact⟨b,df,ty,k1,k2,nu _ _ hrefs k3,k4⟩):P:=h
theorem Te{P:Prop}(h:P:=by obtain⟨hi,_⟩:=List.getElem?_eq_some_iff.1 hm;rw[List.length_eraseIdx];simp[hi];omega):P:=h
theorem Tf{P:Prop}(h:P:=by obtain⟨arr,rfl,g1,g2⟩:=hx;obtain⟨val,r1,r2⟩:=Di h g1 g2;exact fin r1 r2):P:=h
theorem Tg{P:Prop}(h:P:=by simp only[Array.getD_eq_getD_getElem?];rw[Array.getElem?_setIfInBounds_ne (Ne.symm h1)]):P:=h
theorem Th{P:Prop}(h:P:=by refine⟨x,fun heq=> ?_⟩;obtain⟨p,q,r,z,u⟩:=y heq;exact⟨p,q,r,b.trans z,u⟩):P:=h
theorem Ti{P:Prop}(h:P:=by rw[hL.refs,List.all_eq_true];intro r hr;have:=hrefs r hr;exact decide_eq_true af):P:=h
theorem Ku{P:Prop}(h:P:=by refine ao oT rfl ?_;refine cm ?_;refine ao Yq rfl ?_;exact nq):P:=h
theorem Kv{P:Prop}(h:P:=by refine .inl ⟨ds,out,dT,hP, ?_⟩;cases out<;>first|exact hK _ h|exact hX _ _ h):P:=h
theorem Kw{P:Prop}(h:P:=by simp only[Ef,Array.getD_eq_getD_getElem?,Array.getElem?_replicate];split<;>rfl):P:=h
theorem Kx{P:Prop}(h:P:=by simp[H',ab.bQ]at he;subst he;exact⟨Nat.le_refl _,fun _=>by simp[aA]⟩):P:=h
theorem Ky{P:Prop}(h:P:=by rw[hm,fu (o:=s.o) fun id au=>hr id (jK _ id au)];exact QC):P:=h
theorem Kz{P:Prop}(h:P:=by obtain⟨a,b,c,h⟩:=funcOf (P:=Tryz.prog) (t:=209) ag;unfold th;rw[h]):P:=h
theorem KA{P:Prop}(h:P:=by cases y<;>simp only[D.same,Bool.false_eq_true]at h;rw[D.cW bK _ h]):P:=h
theorem KC{P:Prop}(h:P:=by subst this;refine re hx ?_;refine aR (bp rfl) ?_;exact nq):P:=h
theorem KF{P:Prop}(h:P:=by rw[Bool.eq_iff_iff];simp only[List.all_eq_true (l:=t.kids)];exact Yo):P:=h
theorem KG{P:Prop}(h:P:=by obtain⟨b,r,k1,k2,k3,k4,k5,k6,k7,k8,k9,Yh⟩:=aT;exact Yg):P:=h
theorem KH{P:Prop}(h:P:=by obtain⟨u,us,rfl,h1,_⟩:=h;simp at hd;subst hd;exact⟨u,aK,h1⟩):P:=h
theorem KI{P:Prop}(h:P:=by rw[m2.eq id (by omega)];unfold ext;rw[if_neg (by omega)];exact fq):P:=h
theorem KJ{P:Prop}(h:P:=by intro c hx;rw[Array.getD_eq_getD_getElem?,hx]at cL;simp at cL):P:=h
theorem KK{P:Prop}(h:P:=by obtain⟨r,h⟩:=KL hS 12 p.2 40 (EH p hp);exact⟨_,r,h⟩):P:=h
def pS(ops:Array Oper)(j:Nat):Option Tmp:=(ops[j]?).bind (·.dst)
structure bB where
 dst:Option Nat
 op:Op
 gd:Option (Nat×Bool):=none
instance:Inhabited bB:=⟨⟨none, .ready 0,none⟩⟩
def Ag(n:Nat):Option Tmp->Bool
 |some d=>decide (d<n)
 |none=>true
def Fk(n:Nat)(ops:Array Oper)(o:Oper):Option bB:=
 if Ag n o.dst=true then match o.guard with
  |none=>some ⟨o.dst,o.op,none⟩
  |some (j,want)=>match pS ops j with
   |some d=>some ⟨o.dst,o.op,some (d,want)⟩
   |none=>none
 else none
def ju(n:Nat)(ops:Array Oper):List Oper->Option (List bB)
 |[]=>some []
 |o::l=>match Fk n ops o,ju n ops l with
  |some x,some xs=>some (x::xs)
  |_,_=>none
def tmpsOf(o:bB):List Nat:=(o.op.operands.toList.filterMap fun| .tmp t=>some t|_=>none)++(match o.gd with|some (d,_)=>[d]|none=>[])
def dU(o:bB):List Nat:=tmpsOf o++o.dst.toList
def bf(ops:Array Oper)(i:Nat):List Nat:=match ops[i]? with|some o=>(o.after.toList.filter (Region.binds .any)).map (·.on)|none=>[]
def bC(l:List bB)(i:Nat):bB:=l.getD i default
inductive IC where
 |skip|ad (l:List bB)|cX (l:List bB) (pr:List (List Nat))|seq (a b:IC)|cond (c:Operand) (a b:IC)|block (id:Nat) (a:IC)|loop (a:IC)|exit (id:Nat)|ret|bad
 |EI (g:Operand) (ps:List Nat) (a b:IC)
 deriving Inhabited
inductive iH where
 |ret|exit (id:Nat)
def iH.code:iH->Code
 | .ret=> .ret
 | .exit id=> .exit id
def jL(acc:List Nat):List Nat->Nat
 |[]=>0
 |j::ps=>(2^j|||acc.getD j 0)|||jL acc ps
def dF:List (List Nat)->List Nat->List Nat
 |[],acc=>acc
 |ps::l,acc=>dF l (acc++[jL acc ps])
def oU(x y:bB):Bool:=match x.dst with|some d=> !(dU y).contains d|none=>true
def vu(l:List bB)(pr:List (List Nat)):Bool:=
 (List.range l.length).all fun j=>(List.range j).all fun i=>((dF pr []).getD j 0).testBit i||(oU (bC l i) (bC l j)&&oU (bC l j) (bC l i))
def je(xs ys:List Nat):Bool:=xs.all fun x=> !ys.contains x
def dK(pr:List (List Nat))(fp:List (List Nat×List Nat)):Bool:=
 (List.range fp.length).all fun j=>(List.range j).all fun i=>((dF pr []).getD j 0).testBit i||
  (je (fp.getD i ([],[])).2 (fp.getD j ([],[])).1&&je (fp.getD i ([],[])).2 (fp.getD j ([],[])).2&&je (fp.getD j ([],[])).2 (fp.getD i ([],[])).1)
def eV(ops:Array Oper):List (List Nat):=(List.range ops.size).map (bf ops)
def Nv(pr:List (List Nat)):Bool:=(List.range pr.length).all fun k=>(pr.getD k []).all fun j=>decide (j<k)
theorem rl{acc:List Nat}{i:Nat}:∀ (ps:List Nat),(jL acc ps).testBit i=true->∃j∈ps,i=j\/(acc.getD j 0).testBit i=true
 |[],h=>by simp[jL]at h
 |j::ps,h=>by
  simp only[jL,Nat.testBit_or,Bool.or_eq_true]at h
  rcases h with(h|h)|h
  ·rw[Nat.testBit_two_pow]at h
   exact⟨j,aK, .inl (by have h:=of_decide_eq_true h;exact h.symm)⟩
  ·exact⟨j,aK, .inr h⟩
  ·obtain⟨j',h1,h2⟩:=rl ps h
   exact⟨j',by simp[h1],h2⟩
theorem oV{k:Nat}:∀ (l:List (List Nat)) (acc:List Nat),k<acc.length->(dF l acc).getD k 0=acc.getD k 0
 |[],_,_=>rfl
 |ps::l,acc,h=>by
  rw[dF,oV l _ (by simp;omega)]
  simp[List.getD_eq_getElem?_getD,List.getElem?_append_left h]
theorem oW{i:Nat}:∀ (l:List (List Nat)) (acc:List Nat) (k:Nat),acc.length<=k->(∀k',k'<l.length->∀j∈l.getD k' [],j<acc.length+k')->((dF l acc).getD k 0).testBit i=true->
 ∃j∈l.getD (k - acc.length) [],i=j\/((dF l acc).getD j 0).testBit i=true
 |[],acc,k,hk,_,h=>by
  simp only[dF]at h
  rw[List.getD_eq_getElem?_getD,List.getElem?_eq_none hk]at h
  simp at h
 |ps::l,acc,k,hk,hp,h=>by
  simp only[dF]at h|-
  by_cases he:k=acc.length
  ·subst he
   rw[oV l _ (by simp)]at h
   have e:(acc++[jL acc ps]).getD acc.length 0=jL acc ps:=by simp[List.getD_eq_getElem?_getD]
   rw[e]at h
   obtain⟨j,h1,h2⟩:=rl ps h
   refine⟨j,by simpa using h1,h2.imp id fun h2=> ?_⟩
   have hj:j<acc.length:=by simpa using hp 0 aK j (by simpa using h1)
   rw[oV l _ (by simp;omega)]
   simpa[List.getD_eq_getElem?_getD,List.getElem?_append_left hj]using h2
  ·obtain⟨j,h1,h2⟩:=oW l (acc++[jL acc ps]) k tZ (fun k' KM j hj=>by
    have:=hp (k'+1) tZ j kF
    simp;omega) h
   refine⟨j, ?_,h2⟩
   have e:k - acc.length=(k - (acc++[jL acc ps]).length)+1:=by simp;omega
   rw[e];simpa using h1
theorem nv{pr:List (List Nat)}(hp:∀k,k<pr.length->∀j∈pr.getD k [],j<k){E:Nat->Bool}(hE:∀k,k<pr.length->E k=true->∀j∈pr.getD k [],E j=true):
 ∀k,k<pr.length->(∀j∈pr.getD k [],E j=true)->∀i,((dF pr []).getD k 0).testBit i=true->E i=true:=by
 intro k
 induction k using Nat.strongRecOn with
 |ind k ih=>
  intro hk hj i hi
  obtain⟨j,h1,h2⟩:=oW pr [] k aK (fun k' KM j hj=>by simpa using hp k' KM j hj) hi
  simp only[List.length_nil,Nat.sub_zero]at h1
  rcases h2 with rfl|h2
  ·exact hj _ h1
  ·have KN:=hp k hk j h1
   exact ih j KN af (hE j af (hj j h1)) i h2
theorem xC{pr:List (List Nat)}(hp:∀k,k<pr.length->∀j∈pr.getD k [],j<k):∀k,k<pr.length->∀i,((dF pr []).getD k 0).testBit i=true->i<k:=by
 intro k
 induction k using Nat.strongRecOn with
 |ind k ih=>
  intro hk i hi
  obtain⟨j,h1,h2⟩:=oW pr [] k aK (fun k' KM j hj=>by simpa using hp k' KM j hj) hi
  simp only[List.length_nil,Nat.sub_zero]at h1
  have KN:=hp k hk j h1
  rcases h2 with rfl|h2
  ·exact KN
  ·have:=ih j KN af i h2;omega
def low(n:Nat):Code->IC
 | .skip=> .skip
 | .label _=> .skip
 | .scope c=>low n c
 | .region _ ops false=>match ju n ops ops.toList with
   |some l=> .ad l
   |none=> .bad
 | .region _ ops true=>match ju n ops ops.toList with
   |some l=>if vu l (eV ops)&&Nv (eV ops)then .cX l (eV ops)else .bad
   |none=> .bad
 | .seq a b=> .seq (low n a) (low n b)
 | .cond c a b=> .cond c (low n a) (low n b)
 | .block id a=> .block id (low n a)
 | .loop a=> .loop (low n a)
 | .exit id=> .exit id
 | .ret=> .ret
 | .rangeFunc g ps a b=> .EI g ps.toList (low n a) (low n b)
 |_=> .bad
section
inductive D where
 |int (k:IntKind) (n:Int)|bool (b:Bool)|str (s:List UInt8)
 |fi|kz|bO|eQ
 |agg (cs:List D)|sl (es:List D)|iface (t:TypeId) (d:D)
 |mp (ks vs:List D)
 deriving Inhabited
def Flat(vs:List Value):Prop:=∀u∈vs,u.oneCell'=true
def eW(B:Nat->Prop)(w:World)(a:Addr)(cs:Array Value):Prop:=∀j u,cs[j]? =some u->w.cell? (a.add j)=some u/\ ¬B a.block
def fX(es:Array MapEntry)(clock:Nat):Prop:=(∀e∈es.toList,e.born<clock)/\(es.toList.map (·.born)).Nodup
def vw(ks:List D):Prop:=ks.Nodup/\∀k∈ks,∃n,k= .int .i64 n
mutual
def D.den (B:Nat->Prop)(w:World):D->Value->Prop
 | .int k n,v=>v= .int k n
 | .bool b,v=>v= .bool b
 | .str l,v=>∃s:ByteArray,v= .string s/\s.data.toList=l
 | .fi,v=>v= .nilIface
 | .kz,v=>v= .pointer none
 | .bO,v=>v= .nilFunc
 | .eQ,v=>v= .map none
 | .agg cs,v=>∃a,v= .agg a/\D.az B w cs a.toList/\Flat a.toList
 | .sl es,v=>∃base len cap,v= .slice base len cap/\len=es.length/\len<=cap/\(base=none->cap=0)/\
  ∃sz,∀a,base=some a->(cap≠0->a.spot=none)/\D.elems B w sz a 0 es
 | .iface t d,v=>∃u,v= .iface t u/\D.den B w d u
 | .mp ks vs,v=>∃m es clock p,v= .map (some m)/\w.heap[m]? =some (.map es clock)/\ ¬B m/\fX es clock/\(p=es.toList\/(p.Perm es.toList/\vw ks))/\D.az B w ks (p.map (·.key))/\D.az B w vs (p.map (·.val))
def D.az (B:Nat->Prop)(w:World):List D->List Value->Prop
 |[],vs=>vs=[]
 |d::ds,vs=>∃u us,vs=u::us/\D.den B w d u/\D.az B w ds us
def D.elems (B:Nat->Prop)(w:World)(sz:Nat)(a:Addr):Nat->List D->Prop
 |_,[]=>True
 |i,e::es=>(∃ev:Value,ev.cells.size=sz/\eW B w (a.add (i*sz)) ev.cells/\D.den B w e ev)/\D.elems B w sz a (i+1) es
end
inductive V where
 |d (x:D)|aE|agg (cs:List V)|bH (vs:List V)
 |ptr (id off:Nat)|osl (id ep:Nat)|pe (id ep i sz off:Nat)|pp (cs:List D) (off:Nat)
 |func (fn:Fn) (first cap:List V)|iface (t:TypeId) (x:V)
 |aa
 |oO (es:List D)|uc (id off n:Nat)|mp (id:Nat)|eg|js (id:Nat)
 deriving Inhabited
inductive ab where
 |no|row (cs:List V)|arr (ep:Nat) (ty:TypeId) (sz:Nat) (es:List D)|qN (ep:Nat) (es:List D)
 |map (kt vt:TypeId) (es:List (D×D))
 |loop (nf n:Nat) (env:List V) (ps:List Nat) (a b:IC) (st:LoopState) (Dj:Option iH)
 |cM (es:List (D×D))|oX (es:List (D×D)) (last:Option (D×D))|vy (s:List UInt8) (pos:Nat)
 deriving Inhabited
def ba(l:List V):Nat->V:=fun i=>l.getD i .aa
structure Hp where
 o:Nat->ab
 us:Nat->Prop
def ab.bQ:ab->Option Nat
 | .arr ep _ _ _| .qN ep _=>some ep
 |_=>none
def ab.bM:ab->Bool
 | .row _| .map .. | .loop .. | .cM _| .oX .. | .vy .. =>true
 |_=>false
def ab.live:ab->Bool
 | .row _| .arr .. | .map .. | .loop .. | .oX .. | .vy .. =>true
 |_=>false
def dR:Value->Option Nat
 | .pointer (some a)| .slice (some a) _ _=>some a.block
 | .map (some b)=>some b
 |_=>none
abbrev Place:=Nat->Value
def cn(φ:Place)(H:Hp)(b:Nat):Prop:=∃id,(H.o id).live=true/\dR (φ id)=some b
def ai(M:Nat->Prop)(φ:Place)(H:Hp)(b:Nat):Prop:=M b\/cn φ H b
mutual
def V.den (B:Nat->Prop)(φ:Place)(H:Hp)(w:World):V->Value->Prop
 | .d x,v=>D.den B w x v
 | .aE,v=>v= .slice none 0 0
 | .agg cs,v=>∃a,v= .agg a/\V.az B φ H w cs a.toList/\Flat a.toList
 | .bH vs,v=>∃a,v= .tuple a/\V.az B φ H w vs a.toList
 | .ptr id off,v=>v.oneCell'=true/\H.us id/\((H.o id).bM=true->∃b,φ id= .pointer (some ⟨b,0,none⟩)/\v= .pointer (some ⟨b,off,none⟩))
 | .osl id ep,v=>v.oneCell'=true/\H.us id/\∀e,(H.o id).bQ=some e->ep<=e/\(ep=e->v=φ id)
 | .pe id ep i sz off,v=>v.oneCell'=true/\H.us id/\∀e,(H.o id).bQ=some e->ep<=e/\(ep=e->∃b n c,φ id= .slice (some ⟨b,0,none⟩) n c/\v= .pointer (some ⟨b,i*sz+off,none⟩))
 | .pp cs off,v=>∃a ev,a.spot=none/\v= .pointer (some (a.add off))/\D.az B w cs ev/\Flat ev/\eW B w a ev.toArray
 | .func fn first cap,v=>∃f c,v= .func fn f c/\V.az B φ H w first f.toList/\V.az B φ H w cap c.toList
 | .iface t x,v=>∃u,v= .iface t u/\V.den B φ H w x u
 | .aa,_=>True
 | .oO es,v=>D.den B w (.sl es) v/\∃base n,v= .slice base n n
 | .uc id off n,v=>v.oneCell'=true/\H.us id/\((H.o id).bM=true->∃b,φ id= .pointer (some ⟨b,0,none⟩)/\v= .slice (some ⟨b,off,none⟩) n n)
 | .mp id,v=>v.oneCell'=true/\H.us id/\((H.o id).bM=true->v=φ id)
 | .eg,v=>∃b,v= .bool b
 | .js id,v=>v.oneCell'=true/\H.us id/\((H.o id).bM=true->∃b,φ id= .pointer (some ⟨b,0,none⟩)/\v= .func (.yield b) #[] #[])
def V.az (B:Nat->Prop)(φ:Place)(H:Hp)(w:World):List V->List Value->Prop
 |[],vs=>vs=[]
 |x::xs,vs=>∃u us,vs=u::us/\V.den B φ H w x u/\V.az B φ H w xs us
end
def dL(B:Nat->Prop)(w:World)(sz:Nat)(es:List D)(xs:List Value):Prop:=
 ∃evs:List Value,xs=evs.flatMap (·.cells.toList)/\(∀ev∈evs,ev.cells.size=sz)/\D.az B w es evs
def aB(B:Nat->Prop)(w:World):List (D×D)->List MapEntry->Prop
 |[],es=>es=[]
 |(k,x)::l,es=>∃e es',es=e::es'/\D.den B w k e.key/\D.den B w x e.val/\aB B w l es'
def vz(B:Nat->Prop)(w:World)(l:List (D×D))(last:Option (D×D))(b:Nat):Prop:=
 w.heap[b]? =some (.mapIter none 0 #[] 0)/\l=[]/\last=none\/
 ∃m since seen es,w.heap[b]? =some (.mapIter (some m) since seen since)/\w.heap[m]? =some (.map es since)/\ ¬B m/\fX es since/\(∃l',l'.Perm l/\aB B w l' (es.toList.filter fun e=> !seen.contains e.born))/\
  ∀k x,last=some (k,x)->∃e∈es.toList,seen.back?=some e.born/\D.den B w k e.key/\D.den B w x e.val
def jf(B:Nat->Prop)(w:World)(l:List (D×D))(v:Value):Prop:=
 ∃b es clock,v= .map (some b)/\w.heap[b]? =some (.map es clock)/\ ¬B b/\fX es clock/\aB B w l es.toList
def aJ(M:Nat->Prop)(φ:Place)(H:Hp)(w:World)(id:Nat):Prop:=
 match H.o id with
 | .no=>True
 | .row cs=>∃b df ty,φ id= .pointer (some ⟨b,0,none⟩)/\w.heap[b]? =some (.cells df ty (0,0))/\V.az (ai M φ H) φ H w cs df.toList/\Flat df.toList
 | .arr _ ty sz es=>0<sz/\∃xs,w.ownsRow 0 ty sz (φ id) es.length xs/\dL (ai M φ H) w sz es xs
 | .qN _ es=>D.den (ai M φ H) w (.sl es) (φ id)
 | .loop nf n env ps jg eS st Dj=>∃b r,φ id= .pointer (some ⟨b,0,none⟩)/\w.heap[b]? =some (.loop r)/\r.fn<nf/\r.state=st/\r.pending=Dj.map iH.code/\r.params.toList=ps/\r.tmps.size=n/\low n r.assign=jg/\low n r.body=eS/\
  ∀i,V.den (ai M φ H) φ H w (ba env i) (r.tmps.getD i undef)
 | .map _ _ l=>∃b es clock,φ id= .map (some b)/\w.heap[b]? =some (.map es clock)/\fX es clock/\aB (ai M φ H) w l es.toList
 | .cM l=>jf (ai M φ H) w l (φ id)
 | .oX l last=>∃b,φ id= .pointer (some ⟨b,0,none⟩)/\vz (ai M φ H) w l last b
 | .vy s pos=>∃b,φ id= .pointer (some ⟨b,0,none⟩)/\w.heap[b]? =some (.stringIter ⟨⟨s⟩⟩ pos)
structure aq (M:Nat->Prop) (φ:Place) (H:Hp) (w:World):Prop where
 ok:∀id,aJ M φ H w id
 fresh:∀id, ¬H.us id->H.o id= .no
 apart:∀i j b,(H.o i).live=true->(H.o j).live=true->dR (φ i)=some b->dR (φ j)=some b->i=j
 ours:∀b,cn φ H b-> ¬M b/\b<w.heap.size
 xg:∀b,M b->b<w.heap.size
structure dD (m:Nat->Prop) (w w':World):Prop where
 os:w'.os=w.os
 tape:w'.tape=w.tape
 output:w'.output=w.output
 size:w.heap.size<=w'.heap.size
 block:∀k,k<w.heap.size-> ¬m k->w'.heap[k]? =w.heap[k]?
structure dg (φ:Place) (H:Hp) (aA:Place) (H':Hp):Prop where
 us:∀id,H.us id->H'.us id
 row:∀id,H.us id->(H'.o id).bM=true->(H.o id).bM=true/\aA id=φ id
 ep:∀id e',H.us id->(H'.o id).bQ=some e'->∃e,(H.o id).bQ=some e/\e<=e'/\(e=e'->aA id=φ id)
structure Trans (φ:Place) (H:Hp) (w:World) (aA:Place) (H':Hp) (w':World):Prop where
 keep:dD (cn φ H) w w'
 grow:∀b,cn aA H' b->cn φ H b\/w.heap.size<=b
 rel:dg φ H aA H'
theorem dD.refl (m:Nat->Prop)(w:World):dD m w w:=⟨rfl,rfl,rfl,Nat.le_refl _,fun _ _ _=>rfl⟩
theorem dg.refl (φ:Place)(H:Hp):dg φ H φ H:=⟨fun _ h=>h,fun _ _ h=>⟨h,rfl⟩,fun _ e' _ h=>⟨e',h,Nat.le_refl _,fun _=>rfl⟩⟩
theorem Trans.refl (φ:Place)(H:Hp)(w:World):Trans φ H w φ H w:=⟨dD.refl _ _,fun _ h=> .inl h,dg.refl _ _⟩
theorem dg.trans {φ aA Ah:Place}{H H' Tj:Hp}(h:dg φ H aA H')(k:dg aA H' Ah Tj):dg φ H Ah Tj where
 us id au:=k.us id (h.us id au)
 row id au hr:=by
  obtain⟨a,b⟩:=k.row id (h.us id au) hr
  obtain⟨c,d⟩:=h.row id au a
  exact⟨c,b.trans d⟩
 ep id e' au he:=by
  obtain⟨e,h1,h2,h3⟩:=k.ep id e' (h.us id au) he
  obtain⟨e0,g1,g2,g3⟩:=h.ep id e au h1
  refine⟨e0,g1,Nat.le_trans g2 h2,fun heq=> ?_⟩
  have a:e0=e:=af
  have b:e=e':=af
  exact(h3 b).trans (g3 a)
theorem Trans.trans {φ aA Ah:Place}{H H' Tj:Hp}{w w' Na:World}(h:Trans φ H w aA H' w')(k:Trans aA H' w' Ah Tj Na):Trans φ H w Ah Tj Na where
 keep:={
  os:=k.keep.os.trans h.keep.os
  tape:=k.keep.tape.trans h.keep.tape
  output:=k.keep.output.trans h.keep.output
  size:=Nat.le_trans h.keep.size k.keep.size
  block:=fun b hb hm=>by
   rw[k.keep.block b (Nat.lt_of_lt_of_le hb h.keep.size) (fun hl=>by
    rcases h.grow b hl with h1|h1
    ·exact hm h1
    ·omega),h.keep.block b hb hm]}
 grow b hl:=by
  rcases k.grow b hl with h1|h1
  ·exact h.grow b h1
  ·exact .inr (Nat.le_trans h.keep.size h1)
 rel:=h.rel.trans k.rel
@[simp] theorem QD (a:Addr) (j:Nat):(a.add j).block=a.block:=by unfold Addr.add;split<;>rfl
def nw(w:World)(b:Nat):Prop:=∃cs ty fz,w.heap[b]? =some (.cells cs ty fz)
def ct(w:World)(b:Nat):Prop:=nw w b\/∃es clock,w.heap[b]? =some (.map es clock)
theorem ct.lt {w:World}{b:Nat}(h:ct w b):b<w.heap.size:=by
 rcases Nat.lt_or_ge b w.heap.size with hl|hl
 ·exact hl
 ·rcases h with⟨cs,ty,fz,h⟩|⟨es,clock,h⟩
  ·rw[Array.getElem?_eq_none hl]at h;cases h
  ·rw[Array.getElem?_eq_none hl]at h;cases h
theorem mn{w:World}{a:Addr}{u:Value}(h:w.cell? a=some u):nw w a.block:=by
 unfold World.cell? at h
 split at h
 ·exact⟨_,_,_,by assumption⟩
 ·cases h
theorem qx{w:World}{a:Addr}{u:Value}(h:w.cell? a=some u):ct w a.block:= .inl (mn h)
theorem eW.mono {B B':Nat->Prop}{w w':World}{a:Addr}{cs:Array Value}
 (hb:∀b,ct w b-> ¬B b->w'.heap[b]? =w.heap[b]? /\ ¬B' b) (h:eW B w a cs):eW B' w' a cs:=by
 intro j u hj
 obtain⟨h1,h2⟩:=h j u hj
 have bR:ct w a.block:=by simpa using qx h1
 exact SS
mutual
theorem D.aL {B B':Nat->Prop}{w w':World}(hb:∀b,ct w b-> ¬B b->w'.heap[b]? =w.heap[b]? /\ ¬B' b):
 ∀ (x:D) (v:Value),D.den B w x v->D.den B' w' x v
 | .int _ _,_,h| .bool _,_,h| .str _,_,h| .fi,_,h| .kz,_,h| .bO,_,h| .eQ,_,h=>by simpa[D.den]using h
 | .agg cs,_,h=>by
   obtain⟨a,rfl,h,hf⟩:=h
   exact⟨a,rfl,D.aO hb cs _ h,hf⟩
 | .sl es,_,h=>by
   obtain⟨base,len,cap,rfl,h1,h2,h3,sz,h4⟩:=h
   exact⟨base,len,cap,rfl,h1,h2,h3,sz,fun a ha=>⟨(h4 a ha).1,D.rm hb sz a es 0 (h4 a ha).2⟩⟩
 | .iface t d,_,h=>by
   obtain⟨u,rfl,h⟩:=h
   exact⟨u,rfl,D.aL hb d u h⟩
 | .mp ks vs,_,h=>by
   obtain⟨m,es,clock,p,rfl,h1,h2,h3,hp,h4,h5⟩:=h
   obtain⟨k1,k2⟩:=hb m (.inr ⟨es,clock,h1⟩) h2
   exact⟨m,es,clock,p,rfl,k1.trans h1,k2,h3,hp,D.aO hb ks _ h4,D.aO hb vs _ h5⟩
theorem D.aO {B B':Nat->Prop}{w w':World}(hb:∀b,ct w b-> ¬B b->w'.heap[b]? =w.heap[b]? /\ ¬B' b):
 ∀ (ds:List D) (vs:List Value),D.az B w ds vs->D.az B' w' ds vs
 |[],_,h=>h
 |d::ds,_,h=>by
  obtain⟨u,us,rfl,h1,h2⟩:=h
  exact⟨u,us,rfl,D.aL hb d u h1,D.aO hb ds us h2⟩
theorem D.rm {B B':Nat->Prop}{w w':World}(hb:∀b,ct w b-> ¬B b->w'.heap[b]? =w.heap[b]? /\ ¬B' b)(sz:Nat)(a:Addr):
 ∀ (es:List D) (i:Nat),D.elems B w sz a i es->D.elems B' w' sz a i es
 |[],_,_=>trivial
 |e::es,i,h=>by
  obtain⟨⟨ev,h1,h2,h3⟩,h4⟩:=h
  exact⟨⟨ev,h1,h2.mono hb,D.aL hb e ev h3⟩,D.rm hb sz a es (i+1) h4⟩
end
theorem aB.mono {B B':Nat->Prop}{w w':World}(hb:∀b,ct w b-> ¬B b->w'.heap[b]? =w.heap[b]? /\ ¬B' b):
 ∀ (l:List (D×D)) (es:List MapEntry),aB B w l es->aB B' w' l es
 |[],_,h=>h
 |(k,x)::l,_,h=>by
  obtain⟨e,es,rfl,h1,h2,h3⟩:=h
  exact⟨e,es,rfl,D.aL hb k _ h1,D.aL hb x _ h2,aB.mono hb l es h3⟩
theorem vz.mono {B B':Nat->Prop}{w w':World}(hb:∀b,ct w b-> ¬B b->w'.heap[b]? =w.heap[b]? /\ ¬B' b){l:List (D×D)}{last:Option (D×D)}{b:Nat}(hbb:w'.heap[b]? =w.heap[b]?)(h:vz B w l last b):vz B' w' l last b:=by
 rcases h with⟨h1,h2⟩|⟨m,since,seen,es,h1,h2,h3,h4,h5,h6⟩
 ·exact .inl ⟨hbb.trans h1,h2⟩
 ·obtain⟨k1,k2⟩:=hb m (.inr ⟨es,since,h2⟩) h3
  obtain⟨l',h5,EJ⟩:=h5
  refine .inr ⟨m,since,seen,es,hbb.trans h1,k1.trans h2,k2,h4,⟨l',h5,aB.mono hb l' _ EJ⟩,fun k x e=> ?_⟩
  obtain⟨e,g1,g2,g3,g4⟩:=h6 k x e
  exact⟨e,g1,g2,D.aL hb k _ g3,D.aL hb x _ g4⟩
theorem jv{B:Nat->Prop}{w:World}:∀ (l:List (D×D)) (es:List MapEntry),aB B w l es↔D.az B w (l.map (·.1)) (es.map (·.key))/\D.az B w (l.map (·.2)) (es.map (·.val))
 |[],es=>by
  simp only[aB,List.map_nil,D.az]
  constructor
  ·rintro rfl;exact⟨rfl,rfl⟩
  ·rintro⟨h,_⟩;simpa using h
 |(k,x)::l,es=>by
  simp only[aB,List.map_cons,D.az]
  constructor
  ·rintro⟨e,es',rfl,h1,h2,h3⟩
   obtain⟨g1,g2⟩:=(jv l es').1 h3
   exact⟨⟨_,_,rfl,h1,g1⟩,⟨_,_,rfl,h2,g2⟩⟩
  ·rintro⟨⟨u,us,h1,h2,h3⟩,⟨v,vs,h4,h5,h6⟩⟩
   cases es with
   |nil=>simp at h1
   |cons e es'=>
    simp only[List.map_cons,List.cons.injEq]at h1 h4
    obtain⟨rfl,rfl⟩:=h1
    obtain⟨rfl,rfl⟩:=h4
    exact⟨e,es',rfl,h2,h5,(jv l es').2 ⟨h3,h6⟩⟩
theorem jf.den {B:Nat->Prop}{w:World}{l:List (D×D)}{v:Value}(h:jf B w l v):D.den B w (.mp (l.map (·.1)) (l.map (·.2))) v:=by
 obtain⟨b,es,clock,h1,h2,h3,h4,h5⟩:=h
 obtain⟨h6,h7⟩:=(jv _ _).1 h5
 exact⟨b,es,clock,es.toList,h1,h2,h3,h4, .inl rfl,h6,h7⟩
theorem jf.mono {B B':Nat->Prop}{w w':World}(hb:∀b,ct w b-> ¬B b->w'.heap[b]? =w.heap[b]? /\ ¬B' b){l:List (D×D)}{v:Value}(h:jf B w l v):jf B' w' l v:=by
 obtain⟨b,es,clock,h1,h2,h3,h4,h5⟩:=h
 obtain⟨k1,k2⟩:=hb b (.inr ⟨es,clock,h2⟩) h3
 exact⟨b,es,clock,h1,k1.trans h2,k2,h4,aB.mono hb l _ h5⟩
theorem D.ax {B:Nat->Prop}{w:World}:∀ (ds:List D) (vs:List Value),D.az B w ds vs->vs.length=ds.length
 |[],_,h=>by simp[D.az]at h;simp[h]
 |d::ds,_,h=>by obtain⟨u,us,rfl,_,h2⟩:=h;simp[D.ax ds us h2]
theorem D.cN {B:Nat->Prop}{w:World}:∀ (ds:List D) (vs:List Value) (i:Nat) (d:D),D.az B w ds vs->ds[i]? =some d->∃v,vs[i]? =some v/\D.den B w d v
 |[],_,_,_,_,hd=>by simp at hd
 |d::ds,_,0,x,h,hd=>by
  exact KH
 |d::ds,_,i+1,x,h,hd=>by
  obtain⟨u,us,rfl,_,h2⟩:=h
  simpa using D.cN ds us i x h2 (by simpa using hd)
theorem D.ud {B:Nat->Prop}{w:World}{sz:Nat}{a:Addr}:∀ (es:List D) (i j:Nat) (e:D),D.elems B w sz a i es->es[j]? =some e->
 ∃ev:Value,ev.cells.size=sz/\eW B w (a.add ((i+j)*sz)) ev.cells/\D.den B w e ev
 |[],_,_,_,_,hd=>by simp at hd
 |e::es,i,0,x,h,hd=>by
  simp at hd;subst hd;simpa using h.1
 |e::es,i,j+1,x,h,hd=>by
  have:=D.ud es (i+1) j x h.2 (by simpa using hd)
  simpa[Nat.add_assoc,Nat.add_comm 1 j]using this
section
variable {M:Nat->Prop}{φ aA:Place}{H H':Hp}{w w':World}
theorem Trans.blocks (ht:Trans φ H w aA H' w')(b:Nat)(hc:ct w b)(h: ¬ai M φ H b):w'.heap[b]? =w.heap[b]? /\ ¬ai M aA H' b:=by
 have hb:=hc.lt
 refine⟨ht.keep.block b hb fun hl=>h (.inr hl), ?_⟩
 rintro(h1|h1)
 ·exact h (.inl h1)
 ·rcases ht.grow b h1 with h2|h2
  ·exact h (.inr h2)
  ·omega
mutual
theorem V.jw (hb:∀b,ct w b-> ¬ai M φ H b->w'.heap[b]? =w.heap[b]? /\ ¬ai M aA H' b)(hr:dg φ H aA H'):∀ (x:V) (v:Value),V.den (ai M φ H) φ H w x v->V.den (ai M aA H') aA H' w' x v
 | .d x,v,h=>D.aL hb x v h
 | .aE,_,h=>h
 | .aa,_,_=>trivial
 | .oO es,v,h=>⟨D.aL hb (.sl es) v h.1,h.2⟩
 | .uc id off n,v,h=>by
   exact Yr
 | .mp id,v,h=>by
   obtain⟨h0,h1,h2⟩:=h
   refine⟨h0,hr.us id h1,fun cy=> ?_⟩
   obtain⟨h3,h4⟩:=hr.row id h1 cy
   exact(h2 h3).trans h4.symm
 | .eg,v,h=>h
 | .js id,v,h=>by
   exact Yr
 | .agg cs,_,h=>by obtain⟨a,rfl,h,hf⟩:=h;exact⟨a,rfl,V.eC hb hr cs _ h,hf⟩
 | .bH cs,_,h=>by obtain⟨a,rfl,h⟩:=h;exact⟨a,rfl,V.eC hb hr cs _ h⟩
 | .ptr id off,v,h=>by
   exact Yr
 | .osl id ep,v,h=>by
   exact SM
 | .pe id ep i sz off,v,h=>by
   exact SM
 | .pp cs off,v,h=>by
   obtain⟨a,ev,h1,h2,h3,h5,h4⟩:=h
   exact⟨a,ev,h1,h2,D.aO hb cs ev h3,h5,h4.mono hb⟩
 | .func fn first cap,_,h=>by
   obtain⟨f,c,rfl,h1,h2⟩:=h
   exact⟨f,c,rfl,V.eC hb hr first _ h1,V.eC hb hr cap _ h2⟩
 | .iface t x,_,h=>by obtain⟨u,rfl,h⟩:=h;exact⟨u,rfl,V.jw hb hr x u h⟩
theorem V.eC (hb:∀b,ct w b-> ¬ai M φ H b->w'.heap[b]? =w.heap[b]? /\ ¬ai M aA H' b)(hr:dg φ H aA H'):∀ (ds:List V) (vs:List Value),V.az (ai M φ H) φ H w ds vs->V.az (ai M aA H') aA H' w' ds vs
 |[],_,h=>h
 |x::xs,_,h=>by
  obtain⟨u,us,rfl,h1,h2⟩:=h
  exact⟨u,us,rfl,V.jw hb hr x u h1,V.eC hb hr xs us h2⟩
end
theorem V.aL (ht:Trans φ H w aA H' w')(x:V)(v:Value)(h:V.den (ai M φ H) φ H w x v):V.den (ai M aA H') aA H' w' x v:=V.jw ht.blocks ht.rel x v h
theorem V.aO (ht:Trans φ H w aA H' w')(ds:List V)(vs:List Value)(h:V.az (ai M φ H) φ H w ds vs):V.az (ai M aA H') aA H' w' ds vs:=V.eC ht.blocks ht.rel ds vs h
end
end
end Go.Proofs.YtlhemmpklhhgoaaGreat
