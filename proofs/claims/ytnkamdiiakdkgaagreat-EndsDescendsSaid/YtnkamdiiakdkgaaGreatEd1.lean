/-
  A PART OF THE PROOF. Conditions: none.
-/
import Derived.WalkKit
import Derived.Below
set_option linter.unusedSimpArgs false
set_option linter.unusedVariables false
namespace Go.Proofs.YtnkamdiiakdkgaaGreat
theorem aU{G G':Prop}(g:G')(h:G=G':=by simp+contextual (disch:=first|omega|simp only[go_sem,false_implies]) only[go_sem,wrap64,if_pos,and_self]<;>rfl):G:=Eq.mpr h g
theorem gB{P0 G G':Prop}(p0:P0)(g:G')(h:P0->G=G':=by intro p0;simp+contextual (disch:=first|omega|simp only[go_sem,false_implies]) only[go_sem,wrap64,if_pos,p0]<;>rfl):G:=Eq.mpr (h p0) g
theorem ow{G G':Prop}(g:G')(h:G=G':=by simp+contextual (disch:=first|omega|simp only[go_sem,false_implies]) only[go_sem,wrap64,if_pos,Nat.add_assoc,Nat.left_eq_add,Nat.add_eq_left,Nat.add_left_cancel_iff]<;>rfl):G:=Eq.mpr h g
theorem mi{G G':Prop}(g:G')(h:G=G':=by simp+contextual (disch:=first|omega|simp only[go_sem,false_implies]) only[go_sem,wrap64,if_pos,List.length_map]<;>rfl):G:=Eq.mpr h g
theorem mj{P0 G G':Prop}(p0:P0)(g:G')(h:P0->G=G':=by intro p0;simp+contextual (disch:=first|omega|simp only[go_sem,false_implies]) only[go_sem,wrap64,if_pos,List.length_map,p0]<;>rfl):G:=Eq.mpr (h p0) g
theorem vJ{G:Prop}(h:G:=by simp+contextual (disch:=first|omega|simp only[go_sem,false_implies]) only[go_sem,wrap64,if_pos,and_self]):G:=h
theorem cq{G G':Prop}(g:G')(h:G=G':=by simp+contextual only[go_sem]<;>rfl):G:=Eq.mpr h g
theorem zM{P0 G:Prop}(p0:P0)(h:P0->G:=by intro p0;simp+contextual (disch:=first|omega|simp only[go_sem,false_implies]) only[go_sem,wrap64,if_pos,p0]):G:=h p0
theorem H4{P0 P1 G G':Prop}(p0:P0)(p1:P1)(g:G')(h:P0->P1->G=G':=by intro p0 p1;simp+contextual (disch:=first|omega|simp only[go_sem,false_implies]) only[go_sem,wrap64,if_pos,List.length_map,p0,p1]<;>rfl):G:=Eq.mpr (h p0 p1) g
theorem Xm{P0 P1 G G':Prop}(p0:P0)(p1:P1)(g:G')(h:P0->P1->G=G':=by intro p0 p1;simp+contextual (disch:=first|omega|simp only[go_sem,false_implies]) only[go_sem,wrap64,if_pos,Nat.add_assoc,Nat.left_eq_add,Nat.add_eq_left,Nat.add_left_cancel_iff,List.length_map,p0,p1]<;>rfl):G:=Eq.mpr (h p0 p1) g
theorem qF{P0 P1 G G':Prop}(p0:P0)(p1:P1)(g:G')(h:P0->P1->G=G':=by intro p0 p1;simp+contextual (disch:=first|omega|simp only[go_sem,false_implies]) only[go_sem,wrap64,if_pos,p0,p1]<;>rfl):G:=Eq.mpr (h p0 p1) g
theorem sC{P0 P1 P2 G G':Prop}(p0:P0)(p1:P1)(p2:P2)(g:G')(h:P0->P1->P2->G=G':=by intro p0 p1 p2;simp+contextual (disch:=first|omega|simp only[go_sem,false_implies]) only[go_sem,wrap64,if_pos,p0,p1,p2]<;>rfl):G:=Eq.mpr (h p0 p1 p2) g
theorem CJ{P0 P1 P2 G G':Prop}(p0:P0)(p1:P1)(p2:P2)(g:G')(h:P0->P1->P2->G=G':=by intro p0 p1 p2;simp+contextual (disch:=first|omega|simp only[go_sem,false_implies]) only[go_sem,wrap64,if_pos,List.length_map,p0,p1,p2]<;>rfl):G:=Eq.mpr (h p0 p1 p2) g
theorem Mr{P0 P1 P2 G G':Prop}(p0:P0)(p1:P1)(p2:P2)(g:G')(h:P0->P1->P2->G=G':=by intro p0 p1 p2;simp+contextual (disch:=first|omega|simp only[go_sem,false_implies]) only[go_sem,wrap64,if_pos,Nat.add_assoc,Nat.left_eq_add,Nat.add_eq_left,Nat.add_left_cancel_iff,p0,p1,p2]<;>rfl):G:=Eq.mpr (h p0 p1 p2) g
theorem Ms{P0 G G':Prop}(p0:P0)(g:G')(h:P0->G=G':=by intro p0;simp+contextual (disch:=first|omega|simp only[go_sem,false_implies]) only[go_sem,wrap64,if_pos,Nat.add_assoc,Nat.left_eq_add,Nat.add_eq_left,Nat.add_left_cancel_iff,p0]<;>rfl):G:=Eq.mpr (h p0) g
theorem F6{G G':Prop}(g:G')(h:G=G':=by simp+contextual (disch:=first|omega|simp only[go_sem,false_implies]) only[go_sem,wrap64,if_pos,kN]<;>rfl):G:=Eq.mpr h g
theorem RU{G G':Prop}(g:G')(h:G=G':=by simp+contextual (disch:=first|omega|simp only[go_sem,false_implies]) only[go_sem,wrap64,if_pos,Nat.add_assoc,Nat.left_eq_add,Nat.add_eq_left,Nat.add_left_cancel_iff,List.length_map]<;>rfl):G:=Eq.mpr h g
theorem Mt{G G':Prop}(g:G')(h:G=G':=by simp+contextual (disch:=first|omega|simp only[go_sem,false_implies]) only[go_sem,wrap64,if_pos,apI_0,apI_1,apI_2,List.length_map]<;>rfl):G:=Eq.mpr h g
theorem Ij{P0 P1 P2 P3 P4 P5 G G':Prop}(p0:P0)(p1:P1)(p2:P2)(p3:P3)(p4:P4)(p5:P5)(g:G')(h:P0->P1->P2->P3->P4->P5->G=G':=by intro p0 p1 p2 p3 p4 p5;simp+contextual (disch:=first|omega|simp only[go_sem,false_implies]) only[go_sem,wrap64,if_pos,p0,p1,p2,p3,p4,p5]<;>rfl):G:=Eq.mpr (h p0 p1 p2 p3 p4 p5) g
theorem Ik{P0 G G':Prop}(p0:P0)(g:G')(h:P0->G=G':=by intro p0;simp+contextual only[go_sem,Nat.add_assoc,Nat.left_eq_add,Nat.add_eq_left,Nat.add_left_cancel_iff,p0]<;>rfl):G:=Eq.mpr (h p0) g
theorem jR{P0 G G':Prop}(p0:P0)(g:G')(h:P0->G=G':=by intro p0;simp+contextual only[go_sem,p0]<;>rfl):G:=Eq.mpr (h p0) g
theorem RV{P0 P1 P2 P3 G G':Prop}(p0:P0)(p1:P1)(p2:P2)(p3:P3)(g:G')(h:P0->P1->P2->P3->G=G':=by intro p0 p1 p2 p3;simp+contextual (disch:=first|omega|simp only[go_sem,false_implies]) only[go_sem,wrap64,if_pos,p0,p1,p2,p3]<;>rfl):G:=Eq.mpr (h p0 p1 p2 p3) g
theorem Xn{P0 P1 P2 P3 P4 P5 G G':Prop}(p0:P0)(p1:P1)(p2:P2)(p3:P3)(p4:P4)(p5:P5)(g:G')(h:P0->P1->P2->P3->P4->P5->G=G':=by intro p0 p1 p2 p3 p4 p5;simp+contextual (disch:=first|omega|simp only[go_sem,false_implies]) only[go_sem,wrap64,if_pos,Nat.add_assoc,Nat.left_eq_add,Nat.add_eq_left,Nat.add_left_cancel_iff,List.length_map,p0,p1,p2,p3,p4,p5]<;>rfl):G:=Eq.mpr (h p0 p1 p2 p3 p4 p5) g
theorem RW{G G':Prop}(g:G')(h:G=G':=by simp+contextual (disch:=first|omega|simp only[go_sem,false_implies]) only[go_sem,wrap64,if_pos,raH_0,raH_1,List.length_map]<;>rfl):G:=Eq.mpr h g
theorem RX{G G':Prop}(g:G')(h:G=G':=by simp+contextual (disch:=first|omega|simp only[go_sem,false_implies]) only[go_sem,wrap64,if_pos,apH_0,apH_1,List.length_map]<;>rfl):G:=Eq.mpr h g
theorem Xo{P0 P1 P2 G G':Prop}(p0:P0)(p1:P1)(p2:P2)(g:G')(h:P0->P1->P2->G=G':=by intro p0 p1 p2;simp+contextual (disch:=first|omega|simp only[go_sem,false_implies]) only[go_sem,wrap64,if_pos,Nat.add_assoc,Nat.left_eq_add,Nat.add_eq_left,Nat.add_left_cancel_iff,xM,p0,p1,p2]<;>rfl):G:=Eq.mpr (h p0 p1 p2) g
theorem Xp{G G':Prop}(g:G')(h:G=G':=by simp+contextual (disch:=first|omega|simp only[go_sem,false_implies]) only[go_sem,wrap64,if_pos,Nat.add_assoc,Nat.left_eq_add,Nat.add_eq_left,Nat.add_left_cancel_iff,sX]<;>rfl):G:=Eq.mpr h g
theorem acC{G G':Prop}(g:G')(h:G=G':=by simp+contextual (disch:=first|omega|simp only[go_sem,false_implies]) only[go_sem,wrap64,if_pos,kN,Nat.add_assoc,Nat.left_eq_add,Nat.add_eq_left,Nat.add_left_cancel_iff]<;>rfl):G:=Eq.mpr h g
theorem Xq{P0 P1 G G':Prop}(p0:P0)(p1:P1)(g:G')(h:P0->P1->G=G':=by intro p0 p1;simp+contextual (disch:=first|omega|simp only[go_sem,false_implies]) only[go_sem,wrap64,if_pos,Nat.add_assoc,Nat.left_eq_add,Nat.add_eq_left,Nat.add_left_cancel_iff,p0,p1]<;>rfl):G:=Eq.mpr (h p0 p1) g
theorem RY{P0 G G':Prop}(p0:P0)(g:G')(h:P0->G=G':=by intro p0;simp+contextual (disch:=first|omega|simp only[go_sem,false_implies]) only[go_sem,wrap64,if_pos,k0,k2,p0]<;>rfl):G:=Eq.mpr (h p0) g
theorem RZ{P0 G:Prop}(p0:P0)(h:P0->G:=by intro p0;simp+contextual (disch:=first|omega|simp only[go_sem,false_implies]) only[go_sem,wrap64,if_pos,ofH_2,p0]):G:=h p0
theorem Xr{P0 G G':Prop}(p0:P0)(g:G')(h:P0->G=G':=by intro p0;simp+contextual (disch:=first|omega|simp only[go_sem,false_implies]) only[go_sem,wrap64,if_pos,Int.toNat_natCast,Nat.mul_one,we,Option.map_some,p0]<;>rfl):G:=Eq.mpr (h p0) g
theorem R0{P0 P1 P2 G G':Prop}(p0:P0)(p1:P1)(p2:P2)(g:G')(h:P0->P1->P2->G=G':=by intro p0 p1 p2;simp+contextual only[go_sem,Nat.add_assoc,Nat.left_eq_add,Nat.add_eq_left,Nat.add_left_cancel_iff,p0,p1,p2]<;>rfl):G:=Eq.mpr (h p0 p1 p2) g
theorem acD{P0 P1 G G':Prop}(p0:P0)(p1:P1)(g:G')(h:P0->P1->G=G':=by intro p0 p1;simp+contextual (disch:=first|omega|simp only[go_sem,false_implies]) only[go_sem,wrap64,if_pos,apI_0,apI_1,apI_2,List.length_map,p0,p1]<;>rfl):G:=Eq.mpr (h p0 p1) g
theorem Xs{P0 G G':Prop}(p0:P0)(g:G')(h:P0->G=G':=by intro p0;simp+contextual (disch:=first|omega|simp only[go_sem,false_implies]) only[go_sem,wrap64,if_pos,raH_0,raH_1,List.length_map,p0]<;>rfl):G:=Eq.mpr (h p0) g
theorem Xt{P0 P1 G G':Prop}(p0:P0)(p1:P1)(g:G')(h:P0->P1->G=G':=by intro p0 p1;simp+contextual (disch:=first|omega|simp only[go_sem,false_implies]) only[go_sem,wrap64,if_pos,List.length_map,k0,k2,p0,p1]<;>rfl):G:=Eq.mpr (h p0 p1) g
theorem Xu{G G':Prop}(g:G')(h:G=G':=by simp+contextual only[go_sem,Il,Nat.add_assoc,Nat.left_eq_add,Nat.add_eq_left,Nat.add_left_cancel_iff,List.replicate]<;>rfl):G:=Eq.mpr h g
theorem Xv{G:Prop}(h:G:=by simp+contextual (disch:=first|omega|simp only[go_sem,false_implies]) only[go_sem,wrap64,if_pos,List.length_map]):G:=h
theorem bO{P:Prop}(h:P:=by(repeat(first|exact F7|refine CK ?_|refine Eh rfl ?_|refine Eh (Im (Io (by omega))) ?_|refine Mu rfl (by simp[V.refs,V.aG]<;>first|omega|assumption) ?_))):P:=h
theorem eH{P:Prop}(h:P:=by repeat(first|exact hg.mono (by omega)|exact Good.nil|refine Good.aA ?_ (by omega) rfl|refine Good.aA ?_ (by omega) (wg _ _ _ (by omega))|refine Good.aA ?_ (by omega) (by simp[ab.refs,V.aG,V.refs]<;>omega))):P:=h
theorem af{P:Prop}(h:P:=by omega):P:=h
theorem ah{P:Prop}(h:P:=by kernel_rfl):P:=h
theorem zy4{P:Prop}(h:P:=by simp[V.refs,V.aG]<;>first|omega|assumption):P:=h
theorem qz{P:Prop}(h:P:=by(repeat(first|exact zU|refine wh ?_|refine xN rfl ?_|refine xN (Im (Io (by omega))) ?_|refine Ip 0 rfl rfl rfl ?_|refine Iq rfl (by simp[V.refs,V.aG]<;>first|omega|assumption) ?_|refine Ir rfl (by simp[V.ids]<;>omega) ?_))):P:=h
theorem fi{P:Prop}(h:P:=by(repeat(first|rfl|rw[ad]|rw[ag _ _ _ _ (by omega)]))):P:=h
theorem zy7{P:Prop}(h:P:=by simp[ab.refs,V.aG,V.refs]<;>omega):P:=h
theorem aL{P:Prop}(h:P:=by simp):P:=h
theorem V6{P:Prop}(h:P:=by simp only[aA]<;>((repeat' split)<;>first|rfl|omega|(subst_vars;first|rfl|assumption|(symm;assumption)|omega|(simp_all;done)))):P:=h
theorem CL{P:Prop}(h:P:=by rintro⟨h1,h2⟩;first|(cases h1;done)|(cases h2;done)):P:=h
theorem iI{P:Prop}(h:P:=by simpa[execOp,gz]using this):P:=h
theorem R1{P:Prop}(h:P:=by exact cD (y:=R2 p t j) (by unfold R2;(repeat(first|rfl|rw[ad]|rw[ag _ _ _ _ (by omega)]))) (by unfold F8 R2;(repeat(first|rfl|rw[ad]|rw[ag _ _ _ _ (by omega)]))) (br rfl (fun r hr=>(zV p t).refs j r hr))):P:=h
theorem vK{P:Prop}(h:P:=by cases rs with|nil=>exact ho.elim|cons x l=>cases l<;>exact ho.elim):P:=h
theorem acE{P:Prop}(h:P:=by simp[V.ids]<;>omega):P:=h
theorem bF{P:Prop}(h:P:=by decide):P:=h
theorem mm{P:Prop}(h:P:=by simp[ab.refs,V.aG,V.refs]):P:=h
theorem Is{P:Prop}(h:P:=by simp+contextual (disch:=first|omega|simp only[go_sem,false_implies]) only[go_sem,wrap64,if_pos,and_self];simp[kN]):P:=h
theorem zW{P:Prop}(h:P:=by subst e;(repeat(first|rfl|rw[ad]|rw[ag _ _ _ _ (by omega)]))):P:=h
theorem Mv{P:Prop}(h:P:=by exact(by simp only[aA]<;>((repeat' split)<;>first|rfl|omega|(subst_vars;first|rfl|assumption|(symm;assumption)|omega|(simp_all;done))))):P:=h
theorem It{P:Prop}(h:P:=by exact⟨_,nN,jn,hq, .of_steps (.one h0 stepR_seq) (.pass (x:= .code y) rfl (fun _ _=> .inl (by simp)) cW)⟩):P:=h
theorem et{P:Prop}(h:P:=by rw[ho];rfl):P:=h
theorem jS{P:Prop}(h:P:=by dsimp only;omega):P:=h
theorem R3{P:Prop}(h:P:=by exact⟨false, .inl rfl,rfl,jo (fun _ _ h=>by cases h.1) (by rintro⟨h1,h2⟩;first|(cases h1;done)|(cases h2;done)),eq _ (fun d=>by rw[Xw w d ht])⟩):P:=h
theorem F9{P:Prop}(h:P:=by(repeat(first|exact Ga|refine CM ?_|refine Mw rfl ?_))):P:=h
theorem Xx{P:Prop}(h:P:=by unfold F8 R2;(repeat(first|rfl|rw[ad]|rw[ag _ _ _ _ (by omega)]))):P:=h
theorem Iu{P:Prop}(h:P:=by unfold R4;(repeat(first|rfl|rw[ad]|rw[ag _ _ _ _ (by omega)]))):P:=h
theorem nO{P:Prop}(h:P:=by simp[V.aG,V.refs]):P:=h
theorem Xy{P:Prop}(h:P:=by exact⟨_,_,_,_,_,_,_,hK,by simp[Instr.range,run_underlying ht,qG], .inl rfl,n1,n2,⟨rfl,by simp,fun _=>⟨w.heap.size,by simp,rfl⟩⟩,fun j hj=> .inr (by simpa using hj)⟩):P:=h
theorem Xz{P:Prop}(h:P:=by exact⟨_,_,_,_,_,_,_,hK,by simp[Instr.range,run_underlying ht], .inl rfl,n1,n2,⟨rfl,by simp,fun _=>⟨w.heap.size,by simp,rfl⟩⟩,fun j hj=> .inr (by simpa using hj)⟩):P:=h
theorem mn{P:Prop}(h:P:=by simpa using hj):P:=h
theorem xO{P:Prop}(h:P:=by simp[Op.equalIn,run_underlying ht]):P:=h
theorem Mx{P:Prop}(h:P:=by unfold L9;(repeat(first|rfl|rw[ad]|rw[ag _ _ _ _ (by omega)]))):P:=h
theorem R5{P:Prop}(h:P:=by unfold ON;(repeat(first|rfl|rw[ad]|rw[ag _ _ _ _ (by omega)]))):P:=h
theorem My{P:Prop}(h:P:=by unfold Ma;(repeat(first|rfl|rw[ad]|rw[ag _ _ _ _ (by omega)]))):P:=h
theorem acF{P:Prop}(h:P:=by exact⟨false, .inl rfl,rfl,jo (fun _ _ h=>by cases h.1) (by rintro⟨h1,h2⟩;first|(cases h1;done)|(cases h2;done)),eq _ (fun d=>by rw[XA w d ht])⟩):P:=h
theorem acG{P:Prop}(h:P:=by exact⟨false, .inl rfl,rfl,jo (fun _ _ h=>by cases h.1) (by rintro⟨h1,h2⟩;first|(cases h1;done)|(cases h2;done)),eq _ (fun d=>by rw[XB w d ht])⟩):P:=h
theorem XC{P:Prop}(h:P:=by exact⟨false, .inl rfl,rfl,jo (fun _ _ h=>by cases h.1) (by rintro⟨h1,h2⟩;first|(cases h1;done)|(cases h2;done)),eq _ (fun d=>by rw[XE w d ht])⟩):P:=h
theorem Gb{P:Prop}(h:P:=by rw[m2.eq id (by omega)];unfold ext;rw[if_pos au]):P:=h
theorem Mz{P:Prop}(h:P:=by exact hK _ _ (by omega) (m2.mono (by omega)) fun id i1 i2=>m3 id i1 (by omega)):P:=h
theorem XF{P:Prop}(h:P:=by exact⟨a,ev,h1,h2,D.aP (w:=w) (w':=w) (fun b _ hn=>⟨rfl,hB b hn⟩) cs ev h3,h5,h4.mono (w:=w) (w':=w) (fun b _ hn=>⟨rfl,hB b hn⟩)⟩):P:=h
theorem acH{P:Prop}(h:P:=by exact hK _ _ (by omega) (m2.mono (by omega)) fun id i1 i2=>(m3 id i1 (by omega)).trans (cN id i1 i2)):P:=h
theorem XG{P:Prop}(h:P:=by exact .inl ⟨_,_,_, .inr ⟨c,f,g,first,cap,hc,eI,hf, .inr (.inl ⟨rs,hH,rfl,fun id au=>by simpa using List.all_eq_true.1 nP id au⟩)⟩,h⟩):P:=h
theorem XH{P:Prop}(h:P:=by exact .inl ⟨_,_,_, .inr ⟨c,f,g,first,cap,hc,eI,hf, .inr (.inr (.inr ⟨hH,fun id au=>by simpa using List.all_eq_true.1 nP id au⟩))⟩,h⟩):P:=h
theorem XI{P:Prop}(h:P:=by exact ct.same hH _ hK (by simp only[Sem.run_bind,hr,Result.andThen_ok];rfl) ⟨_,rfl,zv,[.bool false],rfl,r2, .bool false,[],rfl,rfl,rfl⟩):P:=h
theorem XJ{P:Prop}(h:P:=by exact .inr ⟨_,_,_,⟨c,f,g,first,cap,hc,eI,hf, .inr ⟨x,Δ,hH,rfl,rfl,fun id au=>by simpa using List.all_eq_true.1 nP id au⟩⟩,h⟩):P:=h
theorem Iv{P:Prop}(h:P:=by rw[hold id (by omega) (by omega),CN id (by omega) au]):P:=h
theorem ox{P:Prop}(h:P:=by simp[n6,au]):P:=h
theorem R6{P:Prop}(h:P:=by rw[m2.eq id (by omega)];unfold ext;rw[if_neg (by omega),ag _ _ _ _ (by omega)]):P:=h
theorem R7{P:Prop}(h:P:=by rw[p3 id (by omega) (by omega),cN id (by omega) (by omega),CN id (by omega) au]):P:=h
theorem XK{P:Prop}(h:P:=by exact hK _ _ (by omega) (sY.mono (by omega)) cN):P:=h
theorem R8{P:Prop}(h:P:=by unfold Gc;(repeat(first|rfl|rw[ad]|rw[ag _ _ _ _ (by omega)]))):P:=h
theorem R9{P:Prop}(h:P:=by unfold F8;(repeat(first|rfl|rw[ad]|rw[ag _ _ _ _ (by omega)]))):P:=h
theorem aeJ{P:Prop}(h:P:=by unfold R2;(repeat(first|rfl|rw[ad]|rw[ag _ _ _ _ (by omega)]))):P:=h
theorem XL{P:Prop}(h:P:=by exact(sY.aA (i:=nx'+3) (m:=nx'+7) (by omega) (by omega) (by omega) rfl).aA (by omega) (by omega) (by omega) rfl):P:=h
theorem Sa{P:Prop}(h:P:=by subst e2;(repeat(first|rfl|rw[ad]|rw[ag _ _ _ _ (by omega)]))):P:=h
theorem Sb{P:Prop}(h:P:=by subst ec;(repeat(first|rfl|rw[ad]|rw[ag _ _ _ _ (by omega)]))):P:=h
theorem XM{P:Prop}(h:P:=by unfold o6 tw;rw[if_neg h4,if_pos h6];(repeat(first|rfl|rw[ad]|rw[ag _ _ _ _ (by omega)]));simp):P:=h
theorem acI{P:Prop}(h:P:=by exact⟨b,r,k1,k2,k3,k4,k5,k6,k7,k8,k9,fun i=>eJ _ _ (fun r hr=>hrefs r (V.wk _ _ r hr)) (k10 i)⟩):P:=h
theorem XN{P:Prop}(h:P:=by exact tx (y:=B j) (ho j hj e1) (Ei B e1 (by omega) ds ty sz _) (br rfl (fun q hq=>hg.refs j q hq))):P:=h
theorem Sc{P:Prop}(h:P:=by exact(hI.aA (by omega) (by omega) (by omega) hr).ext (by omega) (by omega)):P:=h
theorem MA{P:Prop}(h:P:=by simpa[execOp,gz,resolve,invoke,builtin]using this):P:=h
theorem MB{P:Prop}(h:P:=by exact D.aM (fun b _ hn=>⟨rfl,hB b hn⟩) _ _ a7):P:=h
theorem XO{P:Prop}(h:P:=by exact hK _ _ (by omega) (m2.mono (by omega)) fun id i1 i2=>by rw[m3 id i1 (by omega),ag _ _ _ _ (by omega)]):P:=h
theorem Sd{P:Prop}(h:P:=by rw[iJ];exact List.mem_cons_of_mem _ (List.mem_flatMap.2 ⟨x,hx,hy⟩)):P:=h
theorem XP{P:Prop}(h:P:=by exact⟨fo MC.1,fo MC.2,fun id au=>⟨dj wm.1.1 id au,dj wm.1.2 id au⟩,fun id au=>dj wm.2 id au⟩):P:=h
theorem XQ{P:Prop}(h:P:=by rw[show(i*4+j)/4=i by omega,show(i*4+j)%4=j by omega]):P:=h
theorem XR{P:Prop}(h:P:=by unfold mo;rw[if_pos h5];(repeat(first|rfl|rw[ad]|rw[ag _ _ _ _ (by omega)]));simp):P:=h
theorem XS{P:Prop}(h:P:=by simp only[Sem.run_bind,hr,Result.andThen_ok];rfl):P:=h
theorem Se{P:Prop}(h:P:=by rw[ag _ _ _ _ tz,Gd _ _ (by omega)];exact h0 id (by omega)):P:=h
theorem XT{P:Prop}(h:P:=by exact fin _ [] (fun b hb=>by cases hb) dA (World.ownsRow_nil w' 0 ty sz) ⟨[],rfl,by simp,rfl⟩ rfl):P:=h
theorem oz{P:Prop}(h:P:=by simp;omega):P:=h
theorem MD{P:Prop}(h:P:=by unfold gA;rw[List.map_append,List.sum_append]):P:=h
theorem Sf{P:Prop}(h:P:=by exact zX hL k3 (key _ _ _ (by rw[hj];rfl) (Sg _ _ hj))):P:=h
theorem XU{P:Prop}(h:P:=by simp only[Op.operands,Call.operands];exact Array.mem_append.2 (.inr (Array.mem_toList_iff.1 hx))):P:=h
theorem XW{P:Prop}(h:P:=by rw[hn,hI,CO hx];rfl):P:=h
theorem Sh{P:Prop}(h:P:=by exact CP hL k3 (key _ _ _ (by rw[hj];rfl) (Sg _ _ hj))):P:=h
theorem acJ{P:Prop}(h:P:=by exact Iw hu cN (fun id h=> .inl (by rw[ky]at h;exact h)) g1.symm g3 iW (kO rfl)):P:=h
theorem Si{P:Prop}(h:P:=by exact(hg.mono (by omega)).aA (by omega) (wg _ _ _ (by omega))):P:=h
theorem Ix{P:Prop}(h:P:=by injection h with h;subst h;exact hK):P:=h
theorem XY{P:Prop}(h:P:=by simp only[h1,cO,Option.map_some];exact hK):P:=h
theorem XZ{P:Prop}(h:P:=by exact⟨k1,zY.tr.trans k2,zY.size,zY.defers.mono k2,fun j=>V.aM k2 _ _ (zY.env j)⟩):P:=h
theorem X0{P:Prop}(h:P:=by rw[ag _ _ _ _ e,ag _ _ _ _ e,ag _ _ _ _ (by omega),hI.eq j hj,ag _ _ _ _ e]):P:=h
theorem Sj{P:Prop}(h:P:=by exact Ge hL k3 (key _ _ _ (by rw[hj];rfl) (Mb _ hj))):P:=h
theorem nQ{P:Prop}(h:P:=by simp[hx]):P:=h
theorem ME{P:Prop}(h:P:=by exact V.aM (ht.trans k2) _ _ (hs.env i)):P:=h
theorem zZ{P:Prop}(h:P:=by simp[V.refs]):P:=h
theorem acK{P:Prop}(h:P:=by exact⟨k1,hs.tr.trans k2,hs.size,hs.defers.mono k2,fun j=>V.aM k2 _ _ (hs.env j)⟩):P:=h
theorem X1{P:Prop}(h:P:=by rw[m3 id h2 (by omega),ag _ _ _ _ (by omega),ag _ _ _ _ (by omega),cN id h2 h3]):P:=h
theorem X2{P:Prop}(h:P:=by exact hQ _ _ _ _ val k5 (eu hs k1 k2 (o':=o') (nx':=nx') rfl fun id hu=>hu) k4):P:=h
theorem Sk{P:Prop}(h:P:=by exact⟨_,nN,jn,hq, .of_steps (.one h0 stepR_block) cW⟩):P:=h
theorem Sl{P:Prop}(h:P:=by exact⟨_,nN,jn,hq, .of_steps (.one h0 jZ) cW⟩):P:=h
theorem Iy{P:Prop}(h:P:=by unfold eT;rw[MF trivial]):P:=h
theorem X4{P:Prop}(h:P:=by exact .inr (.inr (.inr (n7.mono (fun v o n h=>hK _ h) (fun v o n h=>hX _ _ h) h)))):P:=h
theorem Sm{P:Prop}(h:P:=by unfold cP;rw[List.range_succ,List.foldl_append];rfl):P:=h
theorem Sn{P:Prop}(h:P:=by rw[ag _ _ _ _ (by omega)];exact k4 id (by omega) g2):P:=h
theorem Sq{P:Prop}(h:P:=by rw[hI.eq bx Mc];unfold ext;rw[if_neg (by omega),hO]):P:=h
theorem X5{P:Prop}(h:P:=by unfold Ma Gc;(repeat(first|rfl|rw[ad]|rw[ag _ _ _ _ (by omega)]))):P:=h
theorem X6{P:Prop}(h:P:=by exact⟨none,0,0,rfl,rfl,Nat.le_refl _,fun _=>rfl,0,fun a ha=>by cases ha⟩):P:=h
theorem X7{P:Prop}(h:P:=by exact⟨b,es',clock,k1,k2,k4,aK.mono (fun b _ hn=>⟨rfl,hB b hn⟩) _ _ k3⟩):P:=h
theorem Ej{P:Prop}(h:P:=by rw[show(hp o nx).o id=_ from ho];rfl):P:=h
theorem OO{P:Prop}(h:P:=by unfold Iz;(repeat(first|rfl|rw[ad]|rw[ag _ _ _ _ (by omega)]))):P:=h
theorem OP{P:Prop}(h:P:=by exact fun k hk s' h1 h2=>z7 _ (fun x hx=>aW x (jT k hk x hx)) s' h1 h2):P:=h
theorem IA{P:Prop}(h:P:=by injection h with h;subst h;exact⟨by assumption,hK⟩):P:=h
theorem OQ{P:Prop}(h:P:=by exact⟨k1,xs,k2,evs,k3,k4,D.aP (fun b _ hn=>⟨rfl,hB b hn⟩) _ _ k5⟩):P:=h
theorem OR{P:Prop}(h:P:=by subst e23;(repeat(first|rfl|rw[ad]|rw[ag _ _ _ _ (by omega)]))):P:=h
theorem OS{P:Prop}(h:P:=by subst ea;(repeat(first|rfl|rw[ad]|rw[ag _ _ _ _ (by omega)]))):P:=h
theorem OT{P:Prop}(h:P:=by subst en;(repeat(first|rfl|rw[ad]|rw[ag _ _ _ _ (by omega)]))):P:=h
theorem OU{P:Prop}(h:P:=by subst eo;(repeat(first|rfl|rw[ad]|rw[ag _ _ _ _ (by omega)]))):P:=h
theorem OV{P:Prop}(h:P:=by exact hH.fresh j fun hu=>h (.inl hu)):P:=h
theorem X8{P:Prop}(h:P:=by exact⟨r, .inl rfl,by obtain⟨_,rfl,_⟩:=hx;rfl,fun op=>g2 op p q,g1⟩):P:=h
theorem IB{P:Prop}(h:P:=by simp at h;obtain⟨rfl,rfl⟩:=h;exact⟨rfl,rfl⟩):P:=h
theorem OW{P:Prop}(h:P:=by exact hN _ _ _ (jq hs k1 k2 (mq ho) cF rfl fun id hu=> .inl hu)):P:=h
theorem ID{P:Prop}(h:P:=by rw[Gd _ _ (by omega)];exact k2.eq id (by omega)):P:=h
theorem OX{P:Prop}(h:P:=by exact⟨_,_,_,_,_,_,_,hK,by simp[hr], .inl rfl,h1,h2,h3,by simp⟩):P:=h
theorem X9{P:Prop}(h:P:=by simp only[a0,Array.size_append,Array.size_replicate];simp at hlen;omega):P:=h
theorem OY{P:Prop}(h:P:=by rw[if_pos h];simp only[List.filterMap_cons,if_pos h,List.filterMap_nil]):P:=h
theorem OZ{P:Prop}(h:P:=by rw[if_neg h];simp only[List.filterMap_cons,if_neg h,List.filterMap_nil]):P:=h
theorem Ya{P:Prop}(h:P:=by exact forall_congr' fun k=>forall_congr' fun hk=>by rw[ih k hk (d+1)]):P:=h
theorem O0{P:Prop}(h:P:=by cases xv<;>first|(simp[O1]at hwd;done)|(cases yv<;>simp[he])):P:=h
theorem O2{P:Prop}(h:P:=by exact⟨x,b.trans y,z⟩):P:=h
theorem wo{P:Prop}(h:P:=by simpa[V.refs]using hr):P:=h
theorem O3{P:Prop}(h:P:=by exact(Ei B (by omega) (by omega) ds ty sz _).trans (iX j (by omega))):P:=h
theorem IE{P:Prop}(h:P:=by have:=gD hx;have:=Tm.iR t;omega):P:=h
theorem IF{P:Prop}(h:P:=by rw[nP];simp only[n6,eI,vL];exact au):P:=h
theorem O4{P:Prop}(h:P:=by injection hu with hu;injection hv with hv;subst hu;subst hv;exact h3):P:=h
theorem O5{P:Prop}(h:P:=by rw[sD];exact List.mem_cons_of_mem _ (List.mem_flatMap.2 ⟨k,hk,hx⟩)):P:=h
theorem O6{P:Prop}(h:P:=by exact hN _ _ _ _ k3.2 (nq hs k1 k2 k3.1 cF rfl fun id hu=>hu)):P:=h
theorem IG{P:Prop}(h:P:=by simp at hl;obtain⟨rfl,rfl⟩:=hl;exact hK):P:=h
theorem II{P:Prop}(h:P:=by simp at hj hy;subst hj;subst hy;exact aW):P:=h
theorem Ek{P:Prop}(h:P:=by rw[if_neg e,if_neg (by omega)]):P:=h
theorem z8{P:Prop}(h:P:=by exact .inr ⟨by omega,h2⟩):P:=h
theorem aeB{P:Prop}(h:P:=by rw[hj];rfl):P:=h
theorem Yb{P:Prop}(h:P:=by exact h3 e (Array.mem_toList_iff.1 he) hb):P:=h
theorem El{P:Prop}(h:P:=by rw[hg];simp[dH,hv,e]):P:=h
theorem O7{P:Prop}(h:P:=by exact ct.same hH _ h (by simp[execOp,gz,hr]) ⟨_,rfl,hv⟩):P:=h
theorem IJ{P:Prop}(h:P:=by rw[sZ];exact cK all _ a7):P:=h
theorem IK{P:Prop}(h:P:=by simp[ab.refs,V.aG,V.refs];omega):P:=h
theorem IL{P:Prop}(h:P:=by subst tz;rw[ad];exact hh.symm):P:=h
theorem rJ{P:Prop}(h:P:=by rw[vA];rfl):P:=h
theorem O8{P:Prop}(h:P:=by exact bD t u hu (hQ _ s φ w (.iface t u) h hs ⟨u,rfl,hd⟩)):P:=h
theorem Em{P:Prop}(h:P:=by simp[binOp,Aa hr]):P:=h
theorem IM{P:Prop}(h:P:=by exact⟨.ret,s',aE,hq,jU,trivial⟩):P:=h
theorem O9{P:Prop}(h:P:=by exact⟨e',Sr,fr',hR,ComesIn.of_steps Pa hs,H5,hl⟩):P:=h
theorem rK{P:Prop}(h:P:=by rw[hx];rfl):P:=h
theorem wq{P:Prop}(h:P:=by rw[hx];exact hk):P:=h
theorem IP{P:Prop}(h:P:=by rw[vB i hi];exact congrArg some hb):P:=h
theorem Pb{P:Prop}(h:P:=by exact⟨b,k1,k2.mono (fun b _ hn=>⟨rfl,hB b hn⟩) rfl⟩):P:=h
theorem IQ{P:Prop}(h:P:=by rw[List.drop_eq_getElem_cons g1,g2]):P:=h
theorem tA{P:Prop}(h:P:=by simpa using h2):P:=h
theorem IU{P:Prop}(h:P:=by unfold eT;exact Eq.trans rfl rfl):P:=h
theorem o7{P:Prop}(h:P:=by assumption):P:=h
theorem IV{P:Prop}(h:P:=by subst tz;rw[ad,Mb _ V7]):P:=h
theorem En{P:Prop}(h:P:=by rw[Ss]at hl;simp at hl):P:=h
theorem Eo{P:Prop}(h:P:=by subst hi;simp[Ne.symm h]):P:=h
theorem IW{P:Prop}(h:P:=by exact⟨.bD _,s',aE,hq,jU,hm⟩):P:=h
theorem IX{P:Prop}(h:P:=by unfold Gf;exact Eq.trans rfl rfl):P:=h
theorem Ep{P:Prop}(h:P:=by exact fun _=>Ab _ _ _):P:=h
theorem IY{P:Prop}(h:P:=by unfold eqGuard;cases op<;>simp):P:=h
theorem Er{P:Prop}(h:P:=by rw[h]at h1;simp at h1):P:=h
theorem IZ{P:Prop}(h:P:=by simpa only[nr]using this):P:=h
theorem Es{P:Prop}(h:P:=by exact hI.mono (by omega)):P:=h
theorem Yc{P:Prop}(h:P:=by cases(aq step s l).2<;>simp):P:=h
theorem I0{P:Prop}(h:P:=by simp[hj]at hr;exact⟨hr,rfl⟩):P:=h
theorem tC{P:Prop}(h:P:=by rw[h1];rfl):P:=h
theorem I1{P:Prop}(h:P:=by rw[Gd _ _ CQ, <- h0 _ CQ,ht]):P:=h
theorem Et{P:Prop}(h:P:=by exact⟨k,by omega,k2⟩):P:=h
theorem I2{P:Prop}(h:P:=by simp at hj;subst hj;exact dW):P:=h
theorem wu{P:Prop}(h:P:=by simpa using hx):P:=h
theorem I3{P:Prop}(h:P:=by rw[ht];exact ab.noConfusion):P:=h
theorem rL{P:Prop}(h:P:=by simp[hy]):P:=h
theorem Ac{P:Prop}(h:P:=by cases b<;>rfl):P:=h
theorem Ad{P:Prop}(h:P:=by rw[sD];simp):P:=h
theorem Yd{P:Prop}(h:P:=by exact⟨b,h4.trans h5,h6⟩):P:=h
theorem zw0{P:Prop}(h:P:=by refine aj (k+1,(step s' x).1,o2,n2+1+1) ⟨h1,m2.mono (show n2<=n2+1+1 from af),(show nx<=n2+1+1 from af),fun id i1 i2=>(m3 id i1 af).trans (cN id i1 i2),hf,aW x eU s' hZ hb,by rw[tD];rfl⟩ jS (aZ.aR _ (show nx<=n2+1+1 from af) (Nat.le_refl _) (m2.mono (show n2<=n2+1+1 from af)).bA (fun _ _=>rfl) ?_);exact bO):P:=h
theorem Pc{P:Prop}(h:P:=by refine aI (aO rfl) ?_;refine aU ?_;rw[e]):P:=h
theorem zw3{P:Prop}(h:P:=by rw[hr,if_pos rfl]at zN;refine aU ?_;refine aj (k+1,(aq step s' (j5 x (q++[(k:Int)]) false)).1,o5,n5+1+1) ⟨h1,p2.mono (show n5<=n5+1+1 from af),(show nx<n5+1+1 from af),by dsimp only;rw[p3 nx (by omega) (Nat.le_refl _),bG],fun id i1 i2=>(p3 id i1 af).trans (cN id i1 i2),by dsimp only;rw[lA];exact zN,by dsimp only;rw[lA];exact qH step ok aW _ _ s' hZ hr⟩ jS (aZ.aR _ (show nx<=n5+1+1 from af) jS (p2.mono (show n5<=n5+1+1 from af)).bA (fun _ _=>rfl) ?_);exact bO):P:=h
theorem V8{P:Prop}(h:P:=by rw[List.drop_eq_getElem_cons h1];rw[List.getElem?_eq_getElem h1]at hx;injection hx with hx;rw[hx]):P:=h
theorem zw7{P:Prop}(h:P:=by refine aI (aO rfl) ?_;refine gB q2 ?_;refine cz _ _ _ .busy none af (fin _ _ (fun id au=>V6) eH af) fi (fun id h3 h4=>by(repeat(first|rfl|rw[ad]|rw[ag _ _ _ _ (by omega)])))):P:=h
theorem zw8{P:Prop}(h:P:=by refine aj (j+1) h2 af (aZ.iK (fun j=>j=1) (.osl 1 1) 1 _ af (H6 (cD (y:= .row r.row) R5 (raH_0 _ _) (br rfl mm))) (raH_1 _ _) (.inr ⟨1,1,rfl,rfl,by(repeat(first|rfl|rw[ad]|rw[ag _ _ _ _ (by omega)]));rw[iW];simp⟩) (fun j hj=>by unfold ON;(repeat(first|rfl|rw[ad]|rw[ag _ _ _ _ (by omega)]))) (fun j h h2=>af) ?_);exact qz):P:=h
theorem I4{P:Prop}(h:P:=by dsimp only;refine aZ.aR _ (Nat.le_refl _) af hI.bA (fun _ _=>rfl) ?_;exact bO):P:=h
theorem Su{P:Prop}(h:P:=by refine aI (aO rfl) ?_;refine aU ?_;refine aj (m+1) h3 af (aZ.aR _ (show 0<=1 from af) af eH (fun _ _=>rfl) ?_);rw[e1,e2];exact bO):P:=h
theorem MG{P:Prop}(h:P:=by simp[Ef,Array.getD_eq_getD_getElem?,Array.getElem?_replicate]at iS;split at iS<;>simp at iS):P:=h
theorem Sv{P:Prop}(h:P:=by obtain⟨h0,h1,h2⟩:=h;refine⟨h0,hr.us id h1,fun bG=> ?_⟩;obtain⟨h3,h4⟩:=hr.row id h1 bG;obtain⟨b,h5,h6⟩:=h2 h3;exact Yd):P:=h
theorem Sw{P:Prop}(h:P:=by obtain⟨a,b,c⟩:=hr id zZ;obtain⟨h0,h1,h2⟩:=h;refine⟨h0,c,fun bG=> ?_⟩;rw[a]at bG;obtain⟨x,y,z⟩:=h2 bG;exact O2):P:=h
theorem Sx{P:Prop}(h:P:=by obtain⟨h0,x,hx⟩:=xP hI;simp+contextual only[go_sem,hI,hx,h0];refine aI (aO rfl) ?_;refine cq ?_;exact XW):P:=h
theorem Sy{P:Prop}(h:P:=by obtain⟨a,b,c⟩:=hr id zZ;obtain⟨h0,h1,h2⟩:=h;refine⟨h0,c,fun bG=> ?_⟩;obtain⟨x,y,z⟩:=h2 (a.1 bG);exact O2):P:=h
theorem Ye{P:Prop}(h:P:=by refine aU ?_;rw[e]):P:=h
theorem Yf{P:Prop}(h:P:=by refine aZ.iK (fun _=>False) .bd 1 _ af (H6 (br rfl mm)) (ad _ _ _) (.inl ⟨rfl,rfl,bF⟩) (fun j hj=>by(repeat(first|rfl|rw[ad]|rw[ag _ _ _ _ (by omega)]))) (fun _ h=>h.elim) ?_;exact qz):P:=h
theorem Sz{P:Prop}(h:P:=by intro j hj;simp only[bw,h2,List.mem_map,List.mem_filter]at hj;obtain⟨e,⟨he,hb⟩,rfl⟩:=hj;exact Yb):P:=h
theorem Yg{P:Prop}(h:P:=by rw[hs,Bool.true_and]at tE;refine gB hs ?_;refine aj (k+1) ⟨h2,tE⟩ af (aZ.aR _ (show 0<=1 from af) af eH (fun j hj=>by(repeat(first|rfl|rw[ad]|rw[ag _ _ _ _ (by omega)]))) ?_);exact bO):P:=h
theorem SA{P:Prop}(h:P:=by rw[hb]at hf tD;simp only[Bool.false_eq_true,if_false]at hf tD;refine cq ?_;rw[hf,tD]at hK;exact acH):P:=h
theorem CS{P:Prop}(h:P:=by refine aC hkn rfl ?_;exact vJ):P:=h
theorem Yh{P:Prop}(h:P:=by obtain⟨h0,h1,h2⟩:=h;refine⟨h0,hr.us id h1,fun e' oX=> ?_⟩;obtain⟨e,g1,g2,g3⟩:=hr.ep id e' h1 oX;obtain⟨h3,h4⟩:=h2 e g1;refine⟨Nat.le_trans h3 g2,fun heq=> ?_⟩;rw[g3 (by omega)];exact h4 af):P:=h
theorem Yi{P:Prop}(h:P:=by refine aI bF ?_;refine gB Md ?_;refine a8 (I5 _ v af) ?_;refine aU ?_;refine aj (j+1) h3 af (aZ.d1 _ (aX rfl) af rfl ?_);rw[qI Md,if_pos hc];exact bO):P:=h
theorem Yj{P:Prop}(h:P:=by rw[e]at hK;refine acC ?_;exact hK _ _ af ⟨eH,af,fun j hj=>by rw[ag _ _ _ _ (by omega),hI.eq j hj]⟩ (fun j g1 g2=>by(repeat(first|rfl|rw[ad]|rw[ag _ _ _ _ (by omega)])))):P:=h
theorem SB{P:Prop}(h:P:=by obtain⟨z,h1,h⟩:=iY h;simp only[Prod.mk.injEq]at h;obtain⟨rfl,rfl,rfl⟩:=h;exact XY):P:=h
theorem SC{P:Prop}(h:P:=by simp at h1;refine cq ?_;rw[List.drop_eq_nil_of_le h1]at hf tD;rw[hf,tD]at hK;exact XK):P:=h
theorem Yk{P:Prop}(h:P:=by refine aU ?_;exact hK _ _ af ⟨eH,af,fun j hj=>by rw[ag _ _ _ _ (by omega),hI.eq j hj]⟩ (fun j g1 g2=>by(repeat(first|rfl|rw[ad]|rw[ag _ _ _ _ (by omega)])))):P:=h
theorem I6{P:Prop}(h:P:=by simp only[St.S,jg]at this;exact this):P:=h
theorem SD{P:Prop}(h:P:=by obtain⟨h0,x,hx⟩:=xP hI;simp+contextual only[go_sem,h,hI,hx,h0];exact XW):P:=h
theorem SE{P:Prop}(h:P:=by simp only[Array.getD_eq_getD_getElem?];rw[Array.getElem?_setIfInBounds_ne (Ne.symm hi)]):P:=h
theorem SF{P:Prop}(h:P:=by refine jR hI ?_;refine aI (aO rfl) ?_;refine cq ?_;rw[hn,hI];rfl):P:=h
theorem SG{P:Prop}(h:P:=by rw[hL.refs,List.all_eq_true];intro r hr;have:=hrefs r hr;exact decide_eq_true af):P:=h
theorem SH{P:Prop}(h:P:=by refine mj hx ?_;refine aj (k+1) h2 af (aZ.d0 _ ?_);rw[CG];exact bO):P:=h
theorem SI{P:Prop}(h:P:=by refine Xm hx f2 ?_;refine aI (aO rfl) ?_;refine aU ?_;rw[e]):P:=h
theorem Yl{P:Prop}(h:P:=by simp only[Option.map_eq_some_iff]at h;obtain⟨d,h1,rfl⟩:=h;obtain⟨arr,rfl,g1,g2⟩:=hx;obtain⟨val,r1,r2⟩:=gE h1 g1 g2;exact fin (r1 w) r2):P:=h
theorem SJ{P:Prop}(h:P:=by refine cq ?_;refine aC (fV _ _ _) rfl ?_;refine cq ?_;rw[hn]):P:=h
theorem Ym{P:Prop}(h:P:=by refine acD hy hc ?_;refine aj (m+1) h3 af (aZ.aR _ (show 0<=3 from af) af (tF _ _ _) (fun j hj=>rfl) ?_);rw[CG];exact bO):P:=h
theorem Yn{P:Prop}(h:P:=by rw[show(⟨put o' [(fr, .arr 0 ty sz es)],fun id=>us id\/id=fr⟩:Hp).o fr=put o' [(fr, .arr 0 ty sz es)] fr from rfl,this]at he;injection he):P:=h
theorem Yo{P:Prop}(h:P:=by refine RV hx hy hq hxl ?_;refine aj (m+1) h3 af (aZ.aR _ (show 0<=1 from af) af eH (fun _ _=>rfl) ?_);rw[e1,e2];exact bO):P:=h
theorem Yp{P:Prop}(h:P:=by simp only[hx]at h ho;injection h with h;subst h;simp only[ab.fz]at ho;simp only[aN,ho]at aW;rw[hd (by rw[ho];rfl)];exact aW):P:=h
theorem SK{P:Prop}(h:P:=by rw[m2.eq id (by omega)];unfold ext;rw[if_neg (by omega)];exact fi):P:=h
theorem Yq{P:Prop}(h:P:=by rw[List.getD_eq_getElem?_getD,List.getElem?_map,List.getElem?_range (by omega)];simp only[Option.map_some,Option.getD_some];exact XQ):P:=h
theorem Yr{P:Prop}(h:P:=by obtain⟨h0,y,h1,h2,h3,h4⟩:=tG h;simp only[Prod.mk.injEq]at h4;obtain⟨rfl,rfl,rfl⟩:=h4;exact⟨h0,y,h1,h2,h3,hK⟩):P:=h
theorem Ys{P:Prop}(h:P:=by simp only[Option.map_eq_some_iff]at h;obtain⟨r,h1,rfl⟩:=h;obtain⟨g1,g2⟩:=SL h1 hg (ak M φ H) w xv yv hx hy;exact X8):P:=h
theorem Yt{P:Prop}(h:P:=by obtain⟨h3,h4⟩:=hb _ ck h2;exact⟨by rw[World.cell?_of_block (w:=w) (w':=w') (a:=a.add j) (by simpa using h3)];exact h1,h4⟩):P:=h
theorem Yu{P:Prop}(h:P:=by refine aU ?_;simp at h3;refine aj (k+1) ⟨h2,fb hx hk.2 h3⟩ af (aZ.d1 _ (aX rfl) af rfl ?_);exact bO):P:=h
theorem Yv{P:Prop}(h:P:=by simp only[ha];obtain⟨z,h1,h⟩:=iY h;simp only[Prod.mk.injEq]at h;obtain⟨rfl,rfl,rfl⟩:=h;exact xQ h1 hK):P:=h
theorem Yw{P:Prop}(h:P:=by simp only[hw,if_true];obtain⟨s5,iW⟩:=Ae I7 (fun id au=>ag2 id (by rw[vB];exact au)) SM aW.2;exact acJ):P:=h
theorem Yx{P:Prop}(h:P:=by cases y<;>simp only[V.same,Bool.false_eq_true,Bool.and_eq_true]at h;rw[Nat.eq_of_beq_eq_true h.1,Nat.eq_of_beq_eq_true h.2]):P:=h
theorem SN{P:Prop}(h:P:=by subst Gg;rw[List.take_length];refine mi ?_;exact hQ _ _ rfl):P:=h
theorem SO{P:Prop}(h:P:=by refine mi ?_;refine aI (aO rfl) ?_;exact vJ):P:=h
theorem Yy{P:Prop}(h:P:=by refine aj (j+1) (next hh) af (aZ.aR _ (show 0<=4 from af) af (dO _ _) (fun q hq=>rfl) ?_);exact bO):P:=h
theorem Yz{P:Prop}(h:P:=by intro u hu;simp only[Array.toList_extract,List.extract]at hu;exact hf u (List.mem_of_mem_drop (List.mem_of_mem_take hu))):P:=h
theorem YA{P:Prop}(h:P:=by refine⟨hH,Trans.refl _ _ _, ?_,⟨[],rfl,List.nodup_nil,fun _=>rfl,fun r hr=>by cases hr⟩,Af hd⟩;exact X9):P:=h
theorem YB{P:Prop}(h:P:=by rw[e];obtain⟨k1,k2⟩:=iZ (us':=Eu (Array.replicate ops.size false)) hs.heap (fun id h=> .inl h);exact acK):P:=h
theorem YC{P:Prop}(h:P:=by unfold World.cell?;simp only[hg,Option.isSome_none,Bool.false_eq_true,if_false,Nat.zero_add];rw[Pf j hj];simp):P:=h
theorem YD{P:Prop}(h:P:=by refine aI (aO rfl) ?_;refine aU ?_;refine aj (k+1) ⟨h2,iW⟩ af (aZ.d0 _ ?_);exact bO):P:=h
theorem SP{P:Prop}(h:P:=by simp only[bC,aJ,h1,if_false];exact OV):P:=h
theorem SQ{P:Prop}(h:P:=by rw[Bool.eq_iff_iff,decide_eq_true_eq,this];exact Yc):P:=h
theorem YE{P:Prop}(h:P:=by refine cq ?_;simp at h1;rw[List.drop_eq_nil_of_le h1]at hf;simp only[aq]at hf;rw[hf]at hK;exact XK):P:=h
theorem YF{P:Prop}(h:P:=by simp only[Option.some.injEq,Prod.mk.injEq]at h;obtain⟨rfl,rfl,rfl⟩:=h;simp only[ho];exact⟨_,hg,hK⟩):P:=h
theorem SR{P:Prop}(h:P:=by rw[show fr+(j+1)=fr+1+j by omega];exact this):P:=h
theorem I8{P:Prop}(h:P:=by simp+contextual only[go_sem,h,hI];rw[hn,hI];rfl):P:=h
theorem Ph{P:Prop}(h:P:=by injection h with h;subst h;obtain⟨u,rfl,_⟩:=hy;simp only[V.den,D.den]at hx;subst hx;exact acG):P:=h
theorem Pj{P:Prop}(h:P:=by injection h with h;subst h;obtain⟨u,rfl,_⟩:=hx;simp only[V.den,D.den]at hy;subst hy;exact acF):P:=h
theorem Pk{P:Prop}(h:P:=by refine .inr (.inr (.inl ⟨ds,out,eK,hP,qA, ?_⟩));cases out<;>first|exact hK _ h|exact hX _ _ h):P:=h
theorem Pl{P:Prop}(h:P:=by rw[hI.eq 2 (by omega)];(repeat(first|rfl|rw[ad]|rw[ag _ _ _ _ (by omega)]));exact p2):P:=h
theorem Ev{P:Prop}(h:P:=by refine aI bF ?_;exact vJ):P:=h
theorem Pm{P:Prop}(h:P:=by simp only[ab.fz]at ho;simp only[aN,ho]at aW;rw[(hd ep (by rw[ho];rfl)).2 rfl];exact aW):P:=h
theorem Po{P:Prop}(h:P:=by rw[Array.toList_append,Array.toList_append,Array.toList_map];exact V.o8 Ew dD hca):P:=h
theorem Pp{P:Prop}(h:P:=by refine .inr (.inl ⟨ds,out,eK,hP,qA, ?_⟩);cases out<;>first|exact hK _ h|exact hX _ _ h):P:=h
theorem Pq{P:Prop}(h:P:=by obtain⟨b,dI,ty,k1,k2,k3,k4⟩:=a7;exact⟨b,dI,ty,k1,k2,kP _ _ hrefs k3,k4⟩):P:=h
theorem Pr{P:Prop}(h:P:=by obtain⟨arr,rfl,g1,g2⟩:=hx;obtain⟨val,r1,r2⟩:=Gh h g1 g2;exact fin r1 r2):P:=h
theorem Ps{P:Prop}(h:P:=by subst e9;(repeat(first|rfl|rw[ad]|rw[ag _ _ _ _ (by omega)]));exact q2):P:=h
theorem Pt{P:Prop}(h:P:=by simp only[Array.getD_eq_getD_getElem?];rw[Array.getElem?_setIfInBounds_ne (Ne.symm h1)]):P:=h
theorem Pu{P:Prop}(h:P:=by subst e;(repeat(first|rfl|rw[ad]|rw[ag _ _ _ _ (by omega)]));exact q2):P:=h
theorem Pv{P:Prop}(h:P:=by refine⟨x,fun heq=> ?_⟩;obtain⟨p,q,r,z,u⟩:=y heq;exact⟨p,q,r,b.trans z,u⟩):P:=h
theorem Pw{P:Prop}(h:P:=by obtain⟨h5,h6⟩:=List.getElem?_eq_some_iff.1 hx;rw[List.drop_eq_getElem_cons h5,h6]):P:=h
theorem Px{P:Prop}(h:P:=by refine .inl ⟨ds,out,eK,hP, ?_⟩;cases out<;>first|exact hK _ h|exact hX _ _ h):P:=h
theorem Py{P:Prop}(h:P:=by simp only[Ef,Array.getD_eq_getD_getElem?,Array.getElem?_replicate];split<;>rfl):P:=h
theorem Pz{P:Prop}(h:P:=by simp[H',ab.bY]at he;subst he;exact⟨Nat.le_refl _,fun _=>by simp[aE]⟩):P:=h
theorem PA{P:Prop}(h:P:=by rw[p2.eq id (by omega)];unfold ext;rw[if_neg (by omega),hold id (by omega) h2]):P:=h
theorem PB{P:Prop}(h:P:=by rw[hm,gG (o:=s.o) fun id au=>hr id (lB _ id au)];exact V9):P:=h
theorem PC{P:Prop}(h:P:=by obtain⟨a,b,c,h⟩:=funcOf (P:=Tryz.prog) (t:=214) ah;unfold wv;rw[h]):P:=h
theorem PD{P:Prop}(h:P:=by cases y<;>simp only[D.same,Bool.false_eq_true]at h;rw[D.dp bZ _ h]):P:=h
theorem PE{P:Prop}(h:P:=by simp at h2;rw[List.drop_eq_nil_of_le h2]at tE;refine aU ?_;rw[tE];rfl):P:=h
theorem PF{P:Prop}(h:P:=by rw[Bool.eq_iff_iff];simp only[List.all_eq_true (l:=t.kids)];exact Ya):P:=h
theorem PG{P:Prop}(h:P:=by obtain⟨b,r,k1,k2,k3,k4,k5,k6,k7,k8,k9,k10⟩:=a7;exact acI):P:=h
theorem PH{P:Prop}(h:P:=by obtain⟨u,us,rfl,h1,_⟩:=h;simp at hd;subst hd;exact⟨u,aL,h1⟩):P:=h
theorem PI{P:Prop}(h:P:=by intro c hx;rw[Array.getD_eq_getD_getElem?,hx]at cW;simp at cW):P:=h
theorem PJ{P:Prop}(h:P:=by simp at h2;rw[List.take_of_length_le h2]at iX;rw[iX];exact vJ):P:=h
def rM(ops:Array Oper)(j:Nat):Option Tmp:=(ops[j]?).bind (·.dst)
structure bI where
 dst:Option Nat
 op:Op
 gd:Option (Nat×Bool):=none
instance:Inhabited bI:=⟨⟨none, .ready 0,none⟩⟩
def CT(n:Nat):Option Tmp->Bool
 |some d=>decide (d<n)
 |none=>true
def I9(n:Nat)(ops:Array Oper)(o:Oper):Option bI:=
 if CT n o.dst=true then match o.guard with
  |none=>some ⟨o.dst,o.op,none⟩
  |some (j,want)=>match rM ops j with
   |some d=>some ⟨o.dst,o.op,some (d,want)⟩
   |none=>none
 else none
def kQ(n:Nat)(ops:Array Oper):List Oper->Option (List bI)
 |[]=>some []
 |o::l=>match I9 n ops o,kQ n ops l with
  |some x,some xs=>some (x::xs)
  |_,_=>none
def tmpsOf(o:bI):List Nat:=(o.op.operands.toList.filterMap fun| .tmp t=>some t|_=>none)++(match o.gd with|some (d,_)=>[d]|none=>[])
def eL(o:bI):List Nat:=tmpsOf o++o.dst.toList
def bw(ops:Array Oper)(i:Nat):List Nat:=match ops[i]? with|some o=>(o.after.toList.filter (Region.binds .any)).map (·.on)|none=>[]
def bN(l:List bI)(i:Nat):bI:=l.getD i default
inductive IC where
 |skip|ae (l:List bI)|cT (l:List bI) (pr:List (List Nat))|seq (a b:IC)|cond (c:Operand) (a b:IC)|block (id:Nat) (a:IC)|loop (a:IC)|exit (id:Nat)|ret|bad
 |Gi (g:Operand) (ps:List Nat) (a b:IC)
 deriving Inhabited
inductive jP where
 |ret|exit (id:Nat)
def jP.code:jP->Code
 | .ret=> .ret
 | .exit id=> .exit id
def lC(acc:List Nat):List Nat->Nat
 |[]=>0
 |j::ps=>(2^j|||acc.getD j 0)|||lC acc ps
def ed:List (List Nat)->List Nat->List Nat
 |[],acc=>acc
 |ps::l,acc=>ed l (acc++[lC acc ps])
def qJ(x y:bI):Bool:=match x.dst with|some d=> !(eL y).contains d|none=>true
def xR(l:List bI)(pr:List (List Nat)):Bool:=
 (List.range l.length).all fun j=>(List.range j).all fun i=>((ed pr []).getD j 0).testBit i||(qJ (bN l i) (bN l j)&&qJ (bN l j) (bN l i))
def kz(xs ys:List Nat):Bool:=xs.all fun x=> !ys.contains x
def dX(pr:List (List Nat))(fp:List (List Nat×List Nat)):Bool:=
 (List.range fp.length).all fun j=>(List.range j).all fun i=>((ed pr []).getD j 0).testBit i||
  (kz (fp.getD i ([],[])).2 (fp.getD j ([],[])).1&&kz (fp.getD i ([],[])).2 (fp.getD j ([],[])).2&&kz (fp.getD j ([],[])).2 (fp.getD i ([],[])).1)
def fW(ops:Array Oper):List (List Nat):=(List.range ops.size).map (bw ops)
def SS(pr:List (List Nat)):Bool:=(List.range pr.length).all fun k=>(pr.getD k []).all fun j=>decide (j<k)
theorem tH{acc:List Nat}{i:Nat}:∀ (ps:List Nat),(lC acc ps).testBit i=true->∃j∈ps,i=j\/(acc.getD j 0).testBit i=true
 |[],h=>by simp[lC]at h
 |j::ps,h=>by
  simp only[lC,Nat.testBit_or,Bool.or_eq_true]at h
  rcases h with(h|h)|h
  ·rw[Nat.testBit_two_pow]at h
   exact⟨j,aL, .inl (by have h:=of_decide_eq_true h;exact h.symm)⟩
  ·exact⟨j,aL, .inr h⟩
  ·obtain⟨j',h1,h2⟩:=tH ps h
   exact⟨j',by simp[h1],h2⟩
theorem qK{k:Nat}:∀ (l:List (List Nat)) (acc:List Nat),k<acc.length->(ed l acc).getD k 0=acc.getD k 0
 |[],_,_=>rfl
 |ps::l,acc,h=>by
  rw[ed,qK l _ (by simp;omega)]
  simp[List.getD_eq_getElem?_getD,List.getElem?_append_left h]
theorem qL{i:Nat}:∀ (l:List (List Nat)) (acc:List Nat) (k:Nat),acc.length<=k->(∀k',k'<l.length->∀j∈l.getD k' [],j<acc.length+k')->((ed l acc).getD k 0).testBit i=true->
 ∃j∈l.getD (k - acc.length) [],i=j\/((ed l acc).getD j 0).testBit i=true
 |[],acc,k,hk,_,h=>by
  simp only[ed]at h
  rw[List.getD_eq_getElem?_getD,List.getElem?_eq_none hk]at h
  simp at h
 |ps::l,acc,k,hk,hp,h=>by
  simp only[ed]at h|-
  by_cases he:k=acc.length
  ·subst he
   rw[qK l _ (by simp)]at h
   have e:(acc++[lC acc ps]).getD acc.length 0=lC acc ps:=by simp[List.getD_eq_getElem?_getD]
   rw[e]at h
   obtain⟨j,h1,h2⟩:=tH ps h
   refine⟨j,by simpa using h1,h2.imp id fun h2=> ?_⟩
   have hj:j<acc.length:=by simpa using hp 0 aL j (by simpa using h1)
   rw[qK l _ (by simp;omega)]
   simpa[List.getD_eq_getElem?_getD,List.getElem?_append_left hj]using h2
  ·obtain⟨j,h1,h2⟩:=qL l (acc++[lC acc ps]) k oz (fun k' Ex j hj=>by
    have:=hp (k'+1) oz j mn
    simp;omega) h
   refine⟨j, ?_,h2⟩
   have e:k - acc.length=(k - (acc++[lC acc ps]).length)+1:=by simp;omega
   rw[e];simpa using h1
theorem o9{pr:List (List Nat)}(hp:∀k,k<pr.length->∀j∈pr.getD k [],j<k){E:Nat->Bool}(hE:∀k,k<pr.length->E k=true->∀j∈pr.getD k [],E j=true):
 ∀k,k<pr.length->(∀j∈pr.getD k [],E j=true)->∀i,((ed pr []).getD k 0).testBit i=true->E i=true:=by
 intro k
 induction k using Nat.strongRecOn with
 |ind k ih=>
  intro hk hj i hi
  obtain⟨j,h1,h2⟩:=qL pr [] k aL (fun k' Ex j hj=>by simpa using hp k' Ex j hj) hi
  simp only[List.length_nil,Nat.sub_zero]at h1
  rcases h2 with rfl|h2
  ·exact hj _ h1
  ·have YG:=hp k hk j h1
   exact ih j YG af (hE j af (hj j h1)) i h2
theorem Ag{pr:List (List Nat)}(hp:∀k,k<pr.length->∀j∈pr.getD k [],j<k):∀k,k<pr.length->∀i,((ed pr []).getD k 0).testBit i=true->i<k:=by
 intro k
 induction k using Nat.strongRecOn with
 |ind k ih=>
  intro hk i hi
  obtain⟨j,h1,h2⟩:=qL pr [] k aL (fun k' Ex j hj=>by simpa using hp k' Ex j hj) hi
  simp only[List.length_nil,Nat.sub_zero]at h1
  have YG:=hp k hk j h1
  rcases h2 with rfl|h2
  ·exact YG
  ·have:=ih j YG af i h2;omega
def low(n:Nat):Code->IC
 | .skip=> .skip
 | .label _=> .skip
 | .scope c=>low n c
 | .region _ ops false=>match kQ n ops ops.toList with
   |some l=> .ae l
   |none=> .bad
 | .region _ ops true=>match kQ n ops ops.toList with
   |some l=>if xR l (fW ops)&&SS (fW ops)then .cT l (fW ops)else .bad
   |none=> .bad
 | .seq a b=> .seq (low n a) (low n b)
 | .cond c a b=> .cond c (low n a) (low n b)
 | .block id a=> .block id (low n a)
 | .loop a=> .loop (low n a)
 | .exit id=> .exit id
 | .ret=> .ret
 | .rangeFunc g ps a b=> .Gi g ps.toList (low n a) (low n b)
 |_=> .bad
section
inductive D where
 |int (k:IntKind) (n:Int)|bool (b:Bool)|str (s:List UInt8)
 |gC|ma|b7|ig
 |agg (cs:List D)|sl (es:List D)|iface (t:TypeId) (d:D)
 |mp (ks vs:List D)
 deriving Inhabited
def Flat(vs:List Value):Prop:=∀u∈vs,u.oneCell'=true
def fX(B:Nat->Prop)(w:World)(a:Addr)(cs:Array Value):Prop:=∀j u,cs[j]? =some u->w.cell? (a.add j)=some u/\ ¬B a.block
def iT(es:Array MapEntry)(clock:Nat):Prop:=(∀e∈es.toList,e.born<clock)/\(es.toList.map (·.born)).Nodup
def xS(ks:List D):Prop:=ks.Nodup/\∀k∈ks,∃n,k= .int .i64 n
mutual
def D.den (B:Nat->Prop)(w:World):D->Value->Prop
 | .int k n,v=>v= .int k n
 | .bool b,v=>v= .bool b
 | .str l,v=>∃s:ByteArray,v= .string s/\s.data.toList=l
 | .gC,v=>v= .nilIface
 | .ma,v=>v= .pointer none
 | .b7,v=>v= .nilFunc
 | .ig,v=>v= .map none
 | .agg cs,v=>∃a,v= .agg a/\D.aD B w cs a.toList/\Flat a.toList
 | .sl es,v=>∃base len cap,v= .slice base len cap/\len=es.length/\len<=cap/\(base=none->cap=0)/\
  ∃sz,∀a,base=some a->(cap≠0->a.spot=none)/\D.elems B w sz a 0 es
 | .iface t d,v=>∃u,v= .iface t u/\D.den B w d u
 | .mp ks vs,v=>∃m es clock p,v= .map (some m)/\w.heap[m]? =some (.map es clock)/\ ¬B m/\iT es clock/\(p=es.toList\/(p.Perm es.toList/\xS ks))/\D.aD B w ks (p.map (·.key))/\D.aD B w vs (p.map (·.val))
def D.aD (B:Nat->Prop)(w:World):List D->List Value->Prop
 |[],vs=>vs=[]
 |d::ds,vs=>∃u us,vs=u::us/\D.den B w d u/\D.aD B w ds us
def D.elems (B:Nat->Prop)(w:World)(sz:Nat)(a:Addr):Nat->List D->Prop
 |_,[]=>True
 |i,e::es=>(∃ev:Value,ev.cells.size=sz/\fX B w (a.add (i*sz)) ev.cells/\D.den B w e ev)/\D.elems B w sz a (i+1) es
end
inductive V where
 |d (x:D)|bd|agg (cs:List V)|bU (vs:List V)
 |ptr (id off:Nat)|osl (id ep:Nat)|pe (id ep i sz off:Nat)|pp (cs:List D) (off:Nat)
 |func (fn:Fn) (first cap:List V)|iface (t:TypeId) (x:V)
 |aa
 |qB (es:List D)|wx (id off n:Nat)|mp (id:Nat)|eV|ja (id:Nat)
 deriving Inhabited
inductive ab where
 |no|row (cs:List V)|arr (ep:Nat) (ty:TypeId) (sz:Nat) (es:List D)|rN (ep:Nat) (es:List D)
 |map (kt vt:TypeId) (es:List (D×D))
 |loop (nf n:Nat) (env:List V) (ps:List Nat) (a b:IC) (st:LoopState) (Gj:Option jP)
 |gH (es:List (D×D))|oA (es:List (D×D)) (last:Option (D×D))|xT (s:List UInt8) (pos:Nat)
 deriving Inhabited
def aS(l:List V):Nat->V:=fun i=>l.getD i .aa
structure Hp where
 o:Nat->ab
 us:Nat->Prop
def ab.bY:ab->Option Nat
 | .arr ep _ _ _| .rN ep _=>some ep
 |_=>none
def ab.b8:ab->Bool
 | .row _| .map .. | .loop .. | .gH _| .oA .. | .xT .. =>true
 |_=>false
def ab.live:ab->Bool
 | .row _| .arr .. | .map .. | .loop .. | .oA .. | .xT .. =>true
 |_=>false
def de:Value->Option Nat
 | .pointer (some a)| .slice (some a) _ _=>some a.block
 | .map (some b)=>some b
 |_=>none
abbrev Place:=Nat->Value
def cA(φ:Place)(H:Hp)(b:Nat):Prop:=∃id,(H.o id).live=true/\de (φ id)=some b
def ak(M:Nat->Prop)(φ:Place)(H:Hp)(b:Nat):Prop:=M b\/cA φ H b
mutual
def V.den (B:Nat->Prop)(φ:Place)(H:Hp)(w:World):V->Value->Prop
 | .d x,v=>D.den B w x v
 | .bd,v=>v= .slice none 0 0
 | .agg cs,v=>∃a,v= .agg a/\V.aD B φ H w cs a.toList/\Flat a.toList
 | .bU vs,v=>∃a,v= .tuple a/\V.aD B φ H w vs a.toList
 | .ptr id off,v=>v.oneCell'=true/\H.us id/\((H.o id).b8=true->∃b,φ id= .pointer (some ⟨b,0,none⟩)/\v= .pointer (some ⟨b,off,none⟩))
 | .osl id ep,v=>v.oneCell'=true/\H.us id/\∀e,(H.o id).bY=some e->ep<=e/\(ep=e->v=φ id)
 | .pe id ep i sz off,v=>v.oneCell'=true/\H.us id/\∀e,(H.o id).bY=some e->ep<=e/\(ep=e->∃b n c,φ id= .slice (some ⟨b,0,none⟩) n c/\v= .pointer (some ⟨b,i*sz+off,none⟩))
 | .pp cs off,v=>∃a ev,a.spot=none/\v= .pointer (some (a.add off))/\D.aD B w cs ev/\Flat ev/\fX B w a ev.toArray
 | .func fn first cap,v=>∃f c,v= .func fn f c/\V.aD B φ H w first f.toList/\V.aD B φ H w cap c.toList
 | .iface t x,v=>∃u,v= .iface t u/\V.den B φ H w x u
 | .aa,_=>True
 | .qB es,v=>D.den B w (.sl es) v/\∃base n,v= .slice base n n
 | .wx id off n,v=>v.oneCell'=true/\H.us id/\((H.o id).b8=true->∃b,φ id= .pointer (some ⟨b,0,none⟩)/\v= .slice (some ⟨b,off,none⟩) n n)
 | .mp id,v=>v.oneCell'=true/\H.us id/\((H.o id).b8=true->v=φ id)
 | .eV,v=>∃b,v= .bool b
 | .ja id,v=>v.oneCell'=true/\H.us id/\((H.o id).b8=true->∃b,φ id= .pointer (some ⟨b,0,none⟩)/\v= .func (.yield b) #[] #[])
def V.aD (B:Nat->Prop)(φ:Place)(H:Hp)(w:World):List V->List Value->Prop
 |[],vs=>vs=[]
 |x::xs,vs=>∃u us,vs=u::us/\V.den B φ H w x u/\V.aD B φ H w xs us
end
def fw(B:Nat->Prop)(w:World)(sz:Nat)(es:List D)(xs:List Value):Prop:=
 ∃evs:List Value,xs=evs.flatMap (·.cells.toList)/\(∀ev∈evs,ev.cells.size=sz)/\D.aD B w es evs
def aK(B:Nat->Prop)(w:World):List (D×D)->List MapEntry->Prop
 |[],es=>es=[]
 |(k,x)::l,es=>∃e es',es=e::es'/\D.den B w k e.key/\D.den B w x e.val/\aK B w l es'
def xU(B:Nat->Prop)(w:World)(l:List (D×D))(last:Option (D×D))(b:Nat):Prop:=
 w.heap[b]? =some (.mapIter none 0 #[] 0)/\l=[]/\last=none\/
 ∃m since seen es,w.heap[b]? =some (.mapIter (some m) since seen since)/\w.heap[m]? =some (.map es since)/\ ¬B m/\iT es since/\(∃l',l'.Perm l/\aK B w l' (es.toList.filter fun e=> !seen.contains e.born))/\
  ∀k x,last=some (k,x)->∃e∈es.toList,seen.back?=some e.born/\D.den B w k e.key/\D.den B w x e.val
def aN(M:Nat->Prop)(φ:Place)(H:Hp)(w:World)(id:Nat):Prop:=
 match H.o id with
 | .no=>True
 | .row cs=>∃b dI ty,φ id= .pointer (some ⟨b,0,none⟩)/\w.heap[b]? =some (.cells dI ty (0,0))/\V.aD (ak M φ H) φ H w cs dI.toList/\Flat dI.toList
 | .arr _ ty sz es=>0<sz/\∃xs,w.ownsRow 0 ty sz (φ id) es.length xs/\fw (ak M φ H) w sz es xs
 | .rN _ es=>D.den (ak M φ H) w (.sl es) (φ id)
 | .loop nf n env ps jr fj st Gj=>∃b r,φ id= .pointer (some ⟨b,0,none⟩)/\w.heap[b]? =some (.loop r)/\r.fn<nf/\r.state=st/\r.pending=Gj.map jP.code/\r.params.toList=ps/\r.tmps.size=n/\low n r.assign=jr/\low n r.body=fj/\
  ∀i,V.den (ak M φ H) φ H w (aS env i) (r.tmps.getD i undef)
 | .map _ _ l=>∃b es clock,φ id= .map (some b)/\w.heap[b]? =some (.map es clock)/\iT es clock/\aK (ak M φ H) w l es.toList
 | .gH l=>D.den (ak M φ H) w (.mp (l.map (·.1)) (l.map (·.2))) (φ id)
 | .oA l last=>∃b,φ id= .pointer (some ⟨b,0,none⟩)/\xU (ak M φ H) w l last b
 | .xT s pos=>∃b,φ id= .pointer (some ⟨b,0,none⟩)/\w.heap[b]? =some (.stringIter ⟨⟨s⟩⟩ pos)
structure ax (M:Nat->Prop) (φ:Place) (H:Hp) (w:World):Prop where
 ok:∀id,aN M φ H w id
 fresh:∀id, ¬H.us id->H.o id= .no
 apart:∀i j b,(H.o i).live=true->(H.o j).live=true->de (φ i)=some b->de (φ j)=some b->i=j
 ours:∀b,cA φ H b-> ¬M b/\b<w.heap.size
 zO:∀b,M b->b<w.heap.size
structure dB (m:Nat->Prop) (w w':World):Prop where
 os:w'.os=w.os
 tape:w'.tape=w.tape
 output:w'.output=w.output
 size:w.heap.size<=w'.heap.size
 block:∀k,k<w.heap.size-> ¬m k->w'.heap[k]? =w.heap[k]?
structure dJ (φ:Place) (H:Hp) (aE:Place) (H':Hp):Prop where
 us:∀id,H.us id->H'.us id
 row:∀id,H.us id->(H'.o id).b8=true->(H.o id).b8=true/\aE id=φ id
 ep:∀id e',H.us id->(H'.o id).bY=some e'->∃e,(H.o id).bY=some e/\e<=e'/\(e=e'->aE id=φ id)
structure Trans (φ:Place) (H:Hp) (w:World) (aE:Place) (H':Hp) (w':World):Prop where
 keep:dB (cA φ H) w w'
 grow:∀b,cA aE H' b->cA φ H b\/w.heap.size<=b
 rel:dJ φ H aE H'
theorem dB.refl (m:Nat->Prop)(w:World):dB m w w:=⟨rfl,rfl,rfl,Nat.le_refl _,fun _ _ _=>rfl⟩
theorem dJ.refl (φ:Place)(H:Hp):dJ φ H φ H:=⟨fun _ h=>h,fun _ _ h=>⟨h,rfl⟩,fun _ e' _ h=>⟨e',h,Nat.le_refl _,fun _=>rfl⟩⟩
theorem Trans.refl (φ:Place)(H:Hp)(w:World):Trans φ H w φ H w:=⟨dB.refl _ _,fun _ h=> .inl h,dJ.refl _ _⟩
theorem dJ.trans {φ aE CU:Place}{H H' YH:Hp}(h:dJ φ H aE H')(k:dJ aE H' CU YH):dJ φ H CU YH where
 us id au:=k.us id (h.us id au)
 row id au hr:=by
  obtain⟨a,b⟩:=k.row id (h.us id au) hr
  obtain⟨c,d⟩:=h.row id au a
  exact⟨c,b.trans d⟩
 ep id e' au he:=by
  obtain⟨e,h1,h2,h3⟩:=k.ep id e' (h.us id au) he
  obtain⟨e0,g1,g2,g3⟩:=h.ep id e au h1
  refine⟨e0,g1,Nat.le_trans g2 h2,fun heq=> ?_⟩
  have a:e0=e:=af
  have b:e=e':=af
  exact(h3 b).trans (g3 a)
theorem Trans.trans {φ aE CU:Place}{H H' YH:Hp}{w w' Sr:World}(h:Trans φ H w aE H' w')(k:Trans aE H' w' CU YH Sr):Trans φ H w CU YH Sr where
 keep:={
  os:=k.keep.os.trans h.keep.os
  tape:=k.keep.tape.trans h.keep.tape
  output:=k.keep.output.trans h.keep.output
  size:=Nat.le_trans h.keep.size k.keep.size
  block:=fun b hb hm=>by
   rw[k.keep.block b (Nat.lt_of_lt_of_le hb h.keep.size) (fun hl=>by
    rcases h.grow b hl with h1|h1
    ·exact hm h1
    ·omega),h.keep.block b hb hm]}
 grow b hl:=by
  rcases k.grow b hl with h1|h1
  ·exact h.grow b h1
  ·exact .inr (Nat.le_trans h.keep.size h1)
 rel:=h.rel.trans k.rel
@[simp] theorem Wa (a:Addr) (j:Nat):(a.add j).block=a.block:=by unfold Addr.add;split<;>rfl
def pb(w:World)(b:Nat):Prop:=∃cs ty fz,w.heap[b]? =some (.cells cs ty fz)
def cU(w:World)(b:Nat):Prop:=pb w b\/∃es clock,w.heap[b]? =some (.map es clock)
theorem cU.lt {w:World}{b:Nat}(h:cU w b):b<w.heap.size:=by
 rcases Nat.lt_or_ge b w.heap.size with hl|hl
 ·exact hl
 ·rcases h with⟨cs,ty,fz,h⟩|⟨es,clock,h⟩
  ·rw[Array.getElem?_eq_none hl]at h;cases h
  ·rw[Array.getElem?_eq_none hl]at h;cases h
theorem n8{w:World}{a:Addr}{u:Value}(h:w.cell? a=some u):pb w a.block:=by
 unfold World.cell? at h
 split at h
 ·exact⟨_,_,_,by assumption⟩
 ·cases h
theorem sE{w:World}{a:Addr}{u:Value}(h:w.cell? a=some u):cU w a.block:= .inl (n8 h)
theorem fX.mono {B B':Nat->Prop}{w w':World}{a:Addr}{cs:Array Value}
 (hb:∀b,cU w b-> ¬B b->w'.heap[b]? =w.heap[b]? /\ ¬B' b) (h:fX B w a cs):fX B' w' a cs:=by
 intro j u hj
 obtain⟨h1,h2⟩:=h j u hj
 have ck:cU w a.block:=by simpa using sE h1
 exact Yt
mutual
theorem D.aM {B B':Nat->Prop}{w w':World}(hb:∀b,cU w b-> ¬B b->w'.heap[b]? =w.heap[b]? /\ ¬B' b):
 ∀ (x:D) (v:Value),D.den B w x v->D.den B' w' x v
 | .int _ _,_,h| .bool _,_,h| .str _,_,h| .gC,_,h| .ma,_,h| .b7,_,h| .ig,_,h=>by simpa[D.den]using h
 | .agg cs,_,h=>by
   obtain⟨a,rfl,h,hf⟩:=h
   exact⟨a,rfl,D.aP hb cs _ h,hf⟩
 | .sl es,_,h=>by
   obtain⟨base,len,cap,rfl,h1,h2,h3,sz,h4⟩:=h
   exact⟨base,len,cap,rfl,h1,h2,h3,sz,fun a ha=>⟨(h4 a ha).1,D.tI hb sz a es 0 (h4 a ha).2⟩⟩
 | .iface t d,_,h=>by
   obtain⟨u,rfl,h⟩:=h
   exact⟨u,rfl,D.aM hb d u h⟩
 | .mp ks vs,_,h=>by
   obtain⟨m,es,clock,p,rfl,h1,h2,h3,hp,h4,h5⟩:=h
   obtain⟨k1,k2⟩:=hb m (.inr ⟨es,clock,h1⟩) h2
   exact⟨m,es,clock,p,rfl,k1.trans h1,k2,h3,hp,D.aP hb ks _ h4,D.aP hb vs _ h5⟩
theorem D.aP {B B':Nat->Prop}{w w':World}(hb:∀b,cU w b-> ¬B b->w'.heap[b]? =w.heap[b]? /\ ¬B' b):
 ∀ (ds:List D) (vs:List Value),D.aD B w ds vs->D.aD B' w' ds vs
 |[],_,h=>h
 |d::ds,_,h=>by
  obtain⟨u,us,rfl,h1,h2⟩:=h
  exact⟨u,us,rfl,D.aM hb d u h1,D.aP hb ds us h2⟩
theorem D.tI {B B':Nat->Prop}{w w':World}(hb:∀b,cU w b-> ¬B b->w'.heap[b]? =w.heap[b]? /\ ¬B' b)(sz:Nat)(a:Addr):
 ∀ (es:List D) (i:Nat),D.elems B w sz a i es->D.elems B' w' sz a i es
 |[],_,_=>trivial
 |e::es,i,h=>by
  obtain⟨⟨ev,h1,h2,h3⟩,h4⟩:=h
  exact⟨⟨ev,h1,h2.mono hb,D.aM hb e ev h3⟩,D.tI hb sz a es (i+1) h4⟩
end
theorem aK.mono {B B':Nat->Prop}{w w':World}(hb:∀b,cU w b-> ¬B b->w'.heap[b]? =w.heap[b]? /\ ¬B' b):
 ∀ (l:List (D×D)) (es:List MapEntry),aK B w l es->aK B' w' l es
 |[],_,h=>h
 |(k,x)::l,_,h=>by
  obtain⟨e,es,rfl,h1,h2,h3⟩:=h
  exact⟨e,es,rfl,D.aM hb k _ h1,D.aM hb x _ h2,aK.mono hb l es h3⟩
theorem xU.mono {B B':Nat->Prop}{w w':World}(hb:∀b,cU w b-> ¬B b->w'.heap[b]? =w.heap[b]? /\ ¬B' b){l:List (D×D)}{last:Option (D×D)}{b:Nat}(hbb:w'.heap[b]? =w.heap[b]?)(h:xU B w l last b):xU B' w' l last b:=by
 rcases h with⟨h1,h2⟩|⟨m,since,seen,es,h1,h2,h3,h4,h5,h6⟩
 ·exact .inl ⟨hbb.trans h1,h2⟩
 ·obtain⟨k1,k2⟩:=hb m (.inr ⟨es,since,h2⟩) h3
  obtain⟨l',h5,vC⟩:=h5
  refine .inr ⟨m,since,seen,es,hbb.trans h1,k1.trans h2,k2,h4,⟨l',h5,aK.mono hb l' _ vC⟩,fun k x e=> ?_⟩
  obtain⟨e,g1,g2,g3,g4⟩:=h6 k x e
  exact⟨e,g1,g2,D.aM hb k _ g3,D.aM hb x _ g4⟩
theorem kR{B:Nat->Prop}{w:World}:∀ (l:List (D×D)) (es:List MapEntry),aK B w l es↔D.aD B w (l.map (·.1)) (es.map (·.key))/\D.aD B w (l.map (·.2)) (es.map (·.val))
 |[],es=>by
  simp only[aK,List.map_nil,D.aD]
  constructor
  ·rintro rfl;exact⟨rfl,rfl⟩
  ·rintro⟨h,_⟩;simpa using h
 |(k,x)::l,es=>by
  simp only[aK,List.map_cons,D.aD]
  constructor
  ·rintro⟨e,es',rfl,h1,h2,h3⟩
   obtain⟨g1,g2⟩:=(kR l es').1 h3
   exact⟨⟨_,_,rfl,h1,g1⟩,⟨_,_,rfl,h2,g2⟩⟩
  ·rintro⟨⟨u,us,h1,h2,h3⟩,⟨v,vs,h4,h5,h6⟩⟩
   cases es with
   |nil=>simp at h1
   |cons e es'=>
    simp only[List.map_cons,List.cons.injEq]at h1 h4
    obtain⟨rfl,rfl⟩:=h1
    obtain⟨rfl,rfl⟩:=h4
    exact⟨e,es',rfl,h2,h5,(kR l es').2 ⟨h3,h6⟩⟩
theorem D.aB {B:Nat->Prop}{w:World}:∀ (ds:List D) (vs:List Value),D.aD B w ds vs->vs.length=ds.length
 |[],_,h=>by simp[D.aD]at h;simp[h]
 |d::ds,_,h=>by obtain⟨u,us,rfl,_,h2⟩:=h;simp[D.aB ds us h2]
theorem D.dq {B:Nat->Prop}{w:World}:∀ (ds:List D) (vs:List Value) (i:Nat) (d:D),D.aD B w ds vs->ds[i]? =some d->∃v,vs[i]? =some v/\D.den B w d v
 |[],_,_,_,_,hd=>by simp at hd
 |d::ds,_,0,x,h,hd=>by
  exact PH
 |d::ds,_,i+1,x,h,hd=>by
  obtain⟨u,us,rfl,_,h2⟩:=h
  simpa using D.dq ds us i x h2 (by simpa using hd)
theorem D.wy {B:Nat->Prop}{w:World}{sz:Nat}{a:Addr}:∀ (es:List D) (i j:Nat) (e:D),D.elems B w sz a i es->es[j]? =some e->
 ∃ev:Value,ev.cells.size=sz/\fX B w (a.add ((i+j)*sz)) ev.cells/\D.den B w e ev
 |[],_,_,_,_,hd=>by simp at hd
 |e::es,i,0,x,h,hd=>by
  simp at hd;subst hd;simpa using h.1
 |e::es,i,j+1,x,h,hd=>by
  have:=D.wy es (i+1) j x h.2 (by simpa using hd)
  simpa[Nat.add_assoc,Nat.add_comm 1 j]using this
section
variable {M:Nat->Prop}{φ aE:Place}{H H':Hp}{w w':World}
theorem Trans.blocks (ht:Trans φ H w aE H' w')(b:Nat)(hc:cU w b)(h: ¬ak M φ H b):w'.heap[b]? =w.heap[b]? /\ ¬ak M aE H' b:=by
 have hb:=hc.lt
 refine⟨ht.keep.block b hb fun hl=>h (.inr hl), ?_⟩
 rintro(h1|h1)
 ·exact h (.inl h1)
 ·rcases ht.grow b h1 with h2|h2
  ·exact h (.inr h2)
  ·omega
mutual
theorem V.kS (hb:∀b,cU w b-> ¬ak M φ H b->w'.heap[b]? =w.heap[b]? /\ ¬ak M aE H' b)(hr:dJ φ H aE H'):∀ (x:V) (v:Value),V.den (ak M φ H) φ H w x v->V.den (ak M aE H') aE H' w' x v
 | .d x,v,h=>D.aM hb x v h
 | .bd,_,h=>h
 | .aa,_,_=>trivial
 | .qB es,v,h=>⟨D.aM hb (.sl es) v h.1,h.2⟩
 | .wx id off n,v,h=>by
   exact Sv
 | .mp id,v,h=>by
   obtain⟨h0,h1,h2⟩:=h
   refine⟨h0,hr.us id h1,fun bG=> ?_⟩
   obtain⟨h3,h4⟩:=hr.row id h1 bG
   exact(h2 h3).trans h4.symm
 | .eV,v,h=>h
 | .ja id,v,h=>by
   exact Sv
 | .agg cs,_,h=>by obtain⟨a,rfl,h,hf⟩:=h;exact⟨a,rfl,V.fy hb hr cs _ h,hf⟩
 | .bU cs,_,h=>by obtain⟨a,rfl,h⟩:=h;exact⟨a,rfl,V.fy hb hr cs _ h⟩
 | .ptr id off,v,h=>by
   exact Sv
 | .osl id ep,v,h=>by
   exact Yh
 | .pe id ep i sz off,v,h=>by
   exact Yh
 | .pp cs off,v,h=>by
   obtain⟨a,ev,h1,h2,h3,h5,h4⟩:=h
   exact⟨a,ev,h1,h2,D.aP hb cs ev h3,h5,h4.mono hb⟩
 | .func fn first cap,_,h=>by
   obtain⟨f,c,rfl,h1,h2⟩:=h
   exact⟨f,c,rfl,V.fy hb hr first _ h1,V.fy hb hr cap _ h2⟩
 | .iface t x,_,h=>by obtain⟨u,rfl,h⟩:=h;exact⟨u,rfl,V.kS hb hr x u h⟩
theorem V.fy (hb:∀b,cU w b-> ¬ak M φ H b->w'.heap[b]? =w.heap[b]? /\ ¬ak M aE H' b)(hr:dJ φ H aE H'):∀ (ds:List V) (vs:List Value),V.aD (ak M φ H) φ H w ds vs->V.aD (ak M aE H') aE H' w' ds vs
 |[],_,h=>h
 |x::xs,_,h=>by
  obtain⟨u,us,rfl,h1,h2⟩:=h
  exact⟨u,us,rfl,V.kS hb hr x u h1,V.fy hb hr xs us h2⟩
end
theorem V.aM (ht:Trans φ H w aE H' w')(x:V)(v:Value)(h:V.den (ak M φ H) φ H w x v):V.den (ak M aE H') aE H' w' x v:=V.kS ht.blocks ht.rel x v h
theorem V.aP (ht:Trans φ H w aE H' w')(ds:List V)(vs:List Value)(h:V.aD (ak M φ H) φ H w ds vs):V.aD (ak M aE H') aE H' w' ds vs:=V.fy ht.blocks ht.rel ds vs h
end
end
end Go.Proofs.YtnkamdiiakdkgaaGreat
