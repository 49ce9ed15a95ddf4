/-
  A PART OF THE PROOF. Conditions: none.
-/
import Derived.WalkKit
import Derived.Below
set_option linter.unusedSimpArgs false
set_option linter.unusedVariables false
namespace Go.Proofs.YtnkamdiiakdkgaaGreat
theorem aY{G G':Prop}(g:G')(h:G=G':=by simp+contextual (disch:=first|omega|simp only[go_sem,false_implies]) only[go_sem,wrap64,if_pos,and_self]<;>rfl):G:=Eq.mpr h g
theorem gX{P0 G G':Prop}(p0:P0)(g:G')(h:P0->G=G':=by intro p0;simp+contextual (disch:=first|omega|simp only[go_sem,false_implies]) only[go_sem,wrap64,if_pos,p0]<;>rfl):G:=Eq.mpr (h p0) g
theorem od{G G':Prop}(g:G')(h:G=G':=by simp+contextual (disch:=first|omega|simp only[go_sem,false_implies]) only[go_sem,wrap64,if_pos,Nat.add_assoc,Nat.left_eq_add,Nat.add_eq_left,Nat.add_left_cancel_iff]<;>rfl):G:=Eq.mpr h g
theorem ng{P0 G G':Prop}(p0:P0)(g:G')(h:P0->G=G':=by intro p0;simp+contextual (disch:=first|omega|simp only[go_sem,false_implies]) only[go_sem,wrap64,if_pos,List.length_map,p0]<;>rfl):G:=Eq.mpr (h p0) g
theorem vP{G:Prop}(h:G:=by simp+contextual (disch:=first|omega|simp only[go_sem,false_implies]) only[go_sem,wrap64,if_pos,and_self]):G:=h
theorem qq{G G':Prop}(g:G')(h:G=G':=by simp+contextual (disch:=first|omega|simp only[go_sem,false_implies]) only[go_sem,wrap64,if_pos,List.length_map]<;>rfl):G:=Eq.mpr h g
theorem cI{G G':Prop}(g:G')(h:G=G':=by simp+contextual only[go_sem]<;>rfl):G:=Eq.mpr h g
theorem Hw{P0 P1 G G':Prop}(p0:P0)(p1:P1)(g:G')(h:P0->P1->G=G':=by intro p0 p1;simp+contextual (disch:=first|omega|simp only[go_sem,false_implies]) only[go_sem,wrap64,if_pos,List.length_map,p0,p1]<;>rfl):G:=Eq.mpr (h p0 p1) g
theorem Ws{P0 P1 G G':Prop}(p0:P0)(p1:P1)(g:G')(h:P0->P1->G=G':=by intro p0 p1;simp+contextual (disch:=first|omega|simp only[go_sem,false_implies]) only[go_sem,wrap64,if_pos,Nat.add_assoc,Nat.left_eq_add,Nat.add_eq_left,Nat.add_left_cancel_iff,List.length_map,p0,p1]<;>rfl):G:=Eq.mpr (h p0 p1) g
theorem FG{P0 G:Prop}(p0:P0)(h:P0->G:=by intro p0;simp+contextual (disch:=first|omega|simp only[go_sem,false_implies]) only[go_sem,wrap64,if_pos,p0]):G:=h p0
theorem vk{P0 P1 G G':Prop}(p0:P0)(p1:P1)(g:G')(h:P0->P1->G=G':=by intro p0 p1;simp+contextual (disch:=first|omega|simp only[go_sem,false_implies]) only[go_sem,wrap64,if_pos,p0,p1]<;>rfl):G:=Eq.mpr (h p0 p1) g
theorem xy{P0 P1 P2 G G':Prop}(p0:P0)(p1:P1)(p2:P2)(g:G')(h:P0->P1->P2->G=G':=by intro p0 p1 p2;simp+contextual (disch:=first|omega|simp only[go_sem,false_implies]) only[go_sem,wrap64,if_pos,p0,p1,p2]<;>rfl):G:=Eq.mpr (h p0 p1 p2) g
theorem LK{P0 P1 P2 G G':Prop}(p0:P0)(p1:P1)(p2:P2)(g:G')(h:P0->P1->P2->G=G':=by intro p0 p1 p2;simp+contextual (disch:=first|omega|simp only[go_sem,false_implies]) only[go_sem,wrap64,if_pos,Nat.add_assoc,Nat.left_eq_add,Nat.add_eq_left,Nat.add_left_cancel_iff,p0,p1,p2]<;>rfl):G:=Eq.mpr (h p0 p1 p2) g
theorem LL{P0 G G':Prop}(p0:P0)(g:G')(h:P0->G=G':=by intro p0;simp+contextual (disch:=first|omega|simp only[go_sem,false_implies]) only[go_sem,wrap64,if_pos,Nat.add_assoc,Nat.left_eq_add,Nat.add_eq_left,Nat.add_left_cancel_iff,p0]<;>rfl):G:=Eq.mpr (h p0) g
theorem FH{G G':Prop}(g:G')(h:G=G':=by simp+contextual (disch:=first|omega|simp only[go_sem,false_implies]) only[go_sem,wrap64,if_pos,kH]<;>rfl):G:=Eq.mpr h g
theorem Q4{G G':Prop}(g:G')(h:G=G':=by simp+contextual (disch:=first|omega|simp only[go_sem,false_implies]) only[go_sem,wrap64,if_pos,Nat.add_assoc,Nat.left_eq_add,Nat.add_eq_left,Nat.add_left_cancel_iff,List.length_map]<;>rfl):G:=Eq.mpr h g
theorem HK{P0 P1 P2 P3 P4 P5 G G':Prop}(p0:P0)(p1:P1)(p2:P2)(p3:P3)(p4:P4)(p5:P5)(g:G')(h:P0->P1->P2->P3->P4->P5->G=G':=by intro p0 p1 p2 p3 p4 p5;simp+contextual (disch:=first|omega|simp only[go_sem,false_implies]) only[go_sem,wrap64,if_pos,p0,p1,p2,p3,p4,p5]<;>rfl):G:=Eq.mpr (h p0 p1 p2 p3 p4 p5) g
theorem HL{P0 G G':Prop}(p0:P0)(g:G')(h:P0->G=G':=by intro p0;simp+contextual only[go_sem,Nat.add_assoc,Nat.left_eq_add,Nat.add_eq_left,Nat.add_left_cancel_iff,p0]<;>rfl):G:=Eq.mpr (h p0) g
theorem jN{P0 G G':Prop}(p0:P0)(g:G')(h:P0->G=G':=by intro p0;simp+contextual only[go_sem,p0]<;>rfl):G:=Eq.mpr (h p0) g
theorem Wt{P0 P1 P2 P3 P4 P5 G G':Prop}(p0:P0)(p1:P1)(p2:P2)(p3:P3)(p4:P4)(p5:P5)(g:G')(h:P0->P1->P2->P3->P4->P5->G=G':=by intro p0 p1 p2 p3 p4 p5;simp+contextual (disch:=first|omega|simp only[go_sem,false_implies]) only[go_sem,wrap64,if_pos,Nat.add_assoc,Nat.left_eq_add,Nat.add_eq_left,Nat.add_left_cancel_iff,List.length_map,p0,p1,p2,p3,p4,p5]<;>rfl):G:=Eq.mpr (h p0 p1 p2 p3 p4 p5) g
theorem Wu{P0 P1 P2 G G':Prop}(p0:P0)(p1:P1)(p2:P2)(g:G')(h:P0->P1->P2->G=G':=by intro p0 p1 p2;simp+contextual (disch:=first|omega|simp only[go_sem,false_implies]) only[go_sem,wrap64,if_pos,Nat.add_assoc,Nat.left_eq_add,Nat.add_eq_left,Nat.add_left_cancel_iff,xz,p0,p1,p2]<;>rfl):G:=Eq.mpr (h p0 p1 p2) g
theorem Wv{G G':Prop}(g:G')(h:G=G':=by simp+contextual (disch:=first|omega|simp only[go_sem,false_implies]) only[go_sem,wrap64,if_pos,Nat.add_assoc,Nat.left_eq_add,Nat.add_eq_left,Nat.add_left_cancel_iff,sG]<;>rfl):G:=Eq.mpr h g
theorem abP{G G':Prop}(g:G')(h:G=G':=by simp+contextual (disch:=first|omega|simp only[go_sem,false_implies]) only[go_sem,wrap64,if_pos,kH,Nat.add_assoc,Nat.left_eq_add,Nat.add_eq_left,Nat.add_left_cancel_iff]<;>rfl):G:=Eq.mpr h g
theorem Q5{P0 P1 P2 G G':Prop}(p0:P0)(p1:P1)(p2:P2)(g:G')(h:P0->P1->P2->G=G':=by intro p0 p1 p2;simp+contextual (disch:=first|omega|simp only[go_sem,false_implies]) only[go_sem,wrap64,if_pos,List.length_map,p0,p1,p2]<;>rfl):G:=Eq.mpr (h p0 p1 p2) g
theorem Ww{P0 P1 G G':Prop}(p0:P0)(p1:P1)(g:G')(h:P0->P1->G=G':=by intro p0 p1;simp+contextual (disch:=first|omega|simp only[go_sem,false_implies]) only[go_sem,wrap64,if_pos,Nat.add_assoc,Nat.left_eq_add,Nat.add_eq_left,Nat.add_left_cancel_iff,p0,p1]<;>rfl):G:=Eq.mpr (h p0 p1) g
theorem Q6{P0 G G':Prop}(p0:P0)(g:G')(h:P0->G=G':=by intro p0;simp+contextual (disch:=first|omega|simp only[go_sem,false_implies]) only[go_sem,wrap64,if_pos,k0,k2,p0]<;>rfl):G:=Eq.mpr (h p0) g
theorem Wx{P0 G G':Prop}(p0:P0)(g:G')(h:P0->G=G':=by intro p0;simp+contextual (disch:=first|omega|simp only[go_sem,false_implies]) only[go_sem,wrap64,if_pos,Int.toNat_natCast,Nat.mul_one,vQ,Option.map_some,p0]<;>rfl):G:=Eq.mpr (h p0) g
theorem Q7{P0 P1 P2 P3 P4 G G':Prop}(p0:P0)(p1:P1)(p2:P2)(p3:P3)(p4:P4)(g:G')(h:P0->P1->P2->P3->P4->G=G':=by intro p0 p1 p2 p3 p4;simp+contextual (disch:=first|omega|simp only[go_sem,false_implies]) only[go_sem,wrap64,if_pos,p0,p1,p2,p3,p4]<;>rfl):G:=Eq.mpr (h p0 p1 p2 p3 p4) g
theorem Q8{P0 P1 P2 G G':Prop}(p0:P0)(p1:P1)(p2:P2)(g:G')(h:P0->P1->P2->G=G':=by intro p0 p1 p2;simp+contextual only[go_sem,Nat.add_assoc,Nat.left_eq_add,Nat.add_eq_left,Nat.add_left_cancel_iff,p0,p1,p2]<;>rfl):G:=Eq.mpr (h p0 p1 p2) g
theorem Wy{P0 P1 G G':Prop}(p0:P0)(p1:P1)(g:G')(h:P0->P1->G=G':=by intro p0 p1;simp+contextual (disch:=first|omega|simp only[go_sem,false_implies]) only[go_sem,wrap64,if_pos,List.length_map,k0,k2,p0,p1]<;>rfl):G:=Eq.mpr (h p0 p1) g
theorem Wz{G G':Prop}(g:G')(h:G=G':=by simp+contextual only[go_sem,HM,Nat.add_assoc,Nat.left_eq_add,Nat.add_eq_left,Nat.add_left_cancel_iff,List.replicate]<;>rfl):G:=Eq.mpr h g
theorem WA{G:Prop}(h:G:=by simp+contextual (disch:=first|omega|simp only[go_sem,false_implies]) only[go_sem,wrap64,if_pos,List.length_map]):G:=h
theorem WB{P0 G G':Prop}(p0:P0)(g:G')(h:P0->G=G':=by intro p0;simp+contextual (disch:=first|omega|simp only[go_sem,false_implies]) only[go_sem,wrap64,if_pos,k0,p0]<;>rfl):G:=Eq.mpr (h p0) g
theorem ct{P:Prop}(h:P:=by(repeat(first|exact FI|refine Cs ?_|refine DT rfl ?_|refine DT (N6 (N7 (by omega))) ?_|refine LM rfl (by simp[V.refs,V.aE]<;>first|omega|assumption) ?_))):P:=h
theorem ff{P:Prop}(h:P:=by repeat(first|exact hg.mono (by omega)|exact Good.nil|refine Good.aD ?_ (by omega) rfl|refine Good.aD ?_ (by omega) (vR _ _ _ (by omega))|refine Good.aD ?_ (by omega) (by simp[ab.refs,V.aE,V.refs]<;>omega))):P:=h
theorem ag{P:Prop}(h:P:=by kernel_rfl):P:=h
theorem ae{P:Prop}(h:P:=by omega):P:=h
theorem zy4{P:Prop}(h:P:=by simp[V.refs,V.aE]<;>first|omega|assumption):P:=h
theorem gY{P:Prop}(h:P:=by(repeat(first|rfl|rw[af]|rw[ah _ _ _ _ (by omega)]))):P:=h
theorem zy6{P:Prop}(h:P:=by simp[ab.refs,V.aE,V.refs]<;>omega):P:=h
theorem HN{P:Prop}(h:P:=by(repeat(first|exact HO|refine FJ ?_|refine HP rfl ?_|refine HP (N6 (N7 (by omega))) ?_|refine Q9 0 rfl rfl rfl ?_|refine Ra rfl (by simp[V.refs,V.aE]<;>first|omega|assumption) ?_|refine Rb rfl (by simp[V.ids]<;>omega) ?_))):P:=h
theorem aJ{P:Prop}(h:P:=by simp):P:=h
theorem Vf{P:Prop}(h:P:=by simp only[aD]<;>((repeat' split)<;>first|rfl|omega|(subst_vars;first|rfl|assumption|(symm;assumption)|omega|(simp_all;done)))):P:=h
theorem Ct{P:Prop}(h:P:=by rintro⟨h1,h2⟩;first|(cases h1;done)|(cases h2;done)):P:=h
theorem iJ{P:Prop}(h:P:=by simpa[execOp,gy]using this):P:=h
theorem vl{P:Prop}(h:P:=by cases rs with|nil=>exact ho.elim|cons x l=>cases l<;>exact ho.elim):P:=h
theorem HQ{P:Prop}(h:P:=by simp+contextual (disch:=first|omega|simp only[go_sem,false_implies]) only[go_sem,wrap64,if_pos,and_self];simp[kH]):P:=h
theorem zP{P:Prop}(h:P:=by subst e;(repeat(first|rfl|rw[af]|rw[ah _ _ _ _ (by omega)]))):P:=h
theorem LN{P:Prop}(h:P:=by exact(by simp only[aD]<;>((repeat' split)<;>first|rfl|omega|(subst_vars;first|rfl|assumption|(symm;assumption)|omega|(simp_all;done))))):P:=h
theorem bO{P:Prop}(h:P:=by decide):P:=h
theorem HS{P:Prop}(h:P:=by exact⟨_,nE,jk,hq, .of_steps (.one h0 stepR_seq) (.pass (x:= .code y) rfl (fun _ _=> .inl (by simp)) cV)⟩):P:=h
theorem ew{P:Prop}(h:P:=by rw[ho];rfl):P:=h
theorem jO{P:Prop}(h:P:=by dsimp only;omega):P:=h
theorem Rc{P:Prop}(h:P:=by exact⟨false, .inl rfl,rfl,jl (fun _ _ h=>by cases h.1) (by rintro⟨h1,h2⟩;first|(cases h1;done)|(cases h2;done)),eq _ (fun d=>by rw[WC w d ht])⟩):P:=h
theorem FK{P:Prop}(h:P:=by(repeat(first|exact FL|refine Cu ?_|refine LO rfl ?_))):P:=h
theorem nF{P:Prop}(h:P:=by simp[V.aE,V.refs]):P:=h
theorem WD{P:Prop}(h:P:=by exact⟨_,_,_,_,_,_,_,hK,by simp[Instr.range,run_underlying ht,qs], .inl rfl,n1,n2,⟨rfl,by simp,fun _=>⟨w.heap.size,by simp,rfl⟩⟩,fun j hj=> .inr (by simpa using hj)⟩):P:=h
theorem WE{P:Prop}(h:P:=by exact⟨_,_,_,_,_,_,_,hK,by simp[Instr.range,run_underlying ht], .inl rfl,n1,n2,⟨rfl,by simp,fun _=>⟨w.heap.size,by simp,rfl⟩⟩,fun j hj=> .inr (by simpa using hj)⟩):P:=h
theorem l7{P:Prop}(h:P:=by simpa using hj):P:=h
theorem xA{P:Prop}(h:P:=by simp[Op.equalIn,run_underlying ht]):P:=h
theorem LP{P:Prop}(h:P:=by unfold Ls;(repeat(first|rfl|rw[af]|rw[ah _ _ _ _ (by omega)]))):P:=h
theorem abQ{P:Prop}(h:P:=by exact⟨false, .inl rfl,rfl,jl (fun _ _ h=>by cases h.1) (by rintro⟨h1,h2⟩;first|(cases h1;done)|(cases h2;done)),eq _ (fun d=>by rw[WG w d ht])⟩):P:=h
theorem abR{P:Prop}(h:P:=by exact⟨false, .inl rfl,rfl,jl (fun _ _ h=>by cases h.1) (by rintro⟨h1,h2⟩;first|(cases h1;done)|(cases h2;done)),eq _ (fun d=>by rw[WH w d ht])⟩):P:=h
theorem WI{P:Prop}(h:P:=by exact⟨false, .inl rfl,rfl,jl (fun _ _ h=>by cases h.1) (by rintro⟨h1,h2⟩;first|(cases h1;done)|(cases h2;done)),eq _ (fun d=>by rw[WK w d ht])⟩):P:=h
theorem LQ{P:Prop}(h:P:=by exact FM hkn p gC Vg hq h1 cy (by omega) t ht rfl rfl rfl rfl (by omega)):P:=h
theorem FN{P:Prop}(h:P:=by rw[m2.eq id (by omega)];unfold ext;rw[if_pos au]):P:=h
theorem LR{P:Prop}(h:P:=by exact hK _ _ (by omega) (m2.mono (by omega)) fun id i1 i2=>m3 id i1 (by omega)):P:=h
theorem xB{P:Prop}(h:P:=by simp[ab.refs,V.aE,V.refs]):P:=h
theorem WL{P:Prop}(h:P:=by exact⟨a,ev,h1,h2,D.aN (w:=w) (w':=w) (fun b _ hn=>⟨rfl,hB b hn⟩) cs ev h3,h5,h4.mono (w:=w) (w':=w) (fun b _ hn=>⟨rfl,hB b hn⟩)⟩):P:=h
theorem abS{P:Prop}(h:P:=by exact hK _ _ (by omega) (m2.mono (by omega)) fun id i1 i2=>(m3 id i1 (by omega)).trans (cL id i1 i2)):P:=h
theorem WM{P:Prop}(h:P:=by exact .inl ⟨_,_,_, .inr ⟨c,f,g,first,cap,hc,eJ,hf, .inr (.inl ⟨rs,hH,rfl,fun id au=>by simpa using List.all_eq_true.1 nG id au⟩)⟩,h⟩):P:=h
theorem WN{P:Prop}(h:P:=by exact .inl ⟨_,_,_, .inr ⟨c,f,g,first,cap,hc,eJ,hf, .inr (.inr (.inr ⟨hH,fun id au=>by simpa using List.all_eq_true.1 nG id au⟩))⟩,h⟩):P:=h
theorem WO{P:Prop}(h:P:=by exact cn.same hH _ hK (by simp only[Sem.run_bind,hr,Result.andThen_ok];rfl) ⟨_,rfl,zv,[.bool false],rfl,r2, .bool false,[],rfl,rfl,rfl⟩):P:=h
theorem WQ{P:Prop}(h:P:=by exact .inr ⟨_,_,_,⟨c,f,g,first,cap,hc,eJ,hf, .inr ⟨x,Δ,hH,rfl,rfl,fun id au=>by simpa using List.all_eq_true.1 nG id au⟩⟩,h⟩):P:=h
theorem HT{P:Prop}(h:P:=by rw[hold id (by omega) (by omega),Cv id (by omega) au]):P:=h
theorem adR{P:Prop}(h:P:=by simp[V.ids]<;>omega):P:=h
theorem oe{P:Prop}(h:P:=by simp[nP,au]):P:=h
theorem Re{P:Prop}(h:P:=by rw[m2.eq id (by omega)];unfold ext;rw[if_neg (by omega),ah _ _ _ _ (by omega)]):P:=h
theorem Rf{P:Prop}(h:P:=by rw[p3 id (by omega) (by omega),cL id (by omega) (by omega),Cv id (by omega) au]):P:=h
theorem WR{P:Prop}(h:P:=by exact hK _ _ (by omega) (sH.mono (by omega)) cL):P:=h
theorem WS{P:Prop}(h:P:=by exact(sH.aD (i:=nx'+3) (m:=nx'+7) (by omega) (by omega) (by omega) rfl).aD (by omega) (by omega) (by omega) rfl):P:=h
theorem Rg{P:Prop}(h:P:=by subst e2;(repeat(first|rfl|rw[af]|rw[ah _ _ _ _ (by omega)]))):P:=h
theorem Rh{P:Prop}(h:P:=by subst ec;(repeat(first|rfl|rw[af]|rw[ah _ _ _ _ (by omega)]))):P:=h
theorem WT{P:Prop}(h:P:=by unfold oV Hx;rw[if_neg h4,if_pos h6];(repeat(first|rfl|rw[af]|rw[ah _ _ _ _ (by omega)]));simp):P:=h
theorem abT{P:Prop}(h:P:=by exact⟨b,r,k1,k2,k3,k4,k5,k6,k7,k8,k9,fun i=>eK _ _ (fun r hr=>hrefs r (V.vS _ _ r hr)) (k10 i)⟩):P:=h
theorem WU{P:Prop}(h:P:=by exact ta (y:=B j) (ho j hj e1) (DU B e1 (by omega) ds ty sz _) (gD rfl (fun q hq=>hg.refs j q hq))):P:=h
theorem Ri{P:Prop}(h:P:=by exact(hI.aD (by omega) (by omega) (by omega) hr).ext (by omega) (by omega)):P:=h
theorem LS{P:Prop}(h:P:=by simpa[execOp,gy,resolve,invoke,builtin]using this):P:=h
theorem LU{P:Prop}(h:P:=by exact D.aK (fun b _ hn=>⟨rfl,hB b hn⟩) _ _ aZ):P:=h
theorem WV{P:Prop}(h:P:=by exact hK _ _ (by omega) (m2.mono (by omega)) fun id i1 i2=>by rw[m3 id i1 (by omega),ah _ _ _ _ (by omega)]):P:=h
theorem WW{P:Prop}(h:P:=by exact⟨fo LV.1,fo LV.2,fun id au=>⟨dj vT.1.1 id au,dj vT.1.2 id au⟩,fun id au=>dj vT.2 id au⟩):P:=h
theorem WX{P:Prop}(h:P:=by rw[show(i*4+j)/4=i by omega,show(i*4+j)%4=j by omega]):P:=h
theorem WY{P:Prop}(h:P:=by unfold l8;rw[if_pos h5];(repeat(first|rfl|rw[af]|rw[ah _ _ _ _ (by omega)]));simp):P:=h
theorem WZ{P:Prop}(h:P:=by simp only[Sem.run_bind,hr,Result.andThen_ok];rfl):P:=h
theorem Rj{P:Prop}(h:P:=by rw[ah _ _ _ _ tc,FO _ _ (by omega)];exact h0 id (by omega)):P:=h
theorem W0{P:Prop}(h:P:=by exact fin _ [] (fun b hb=>by cases hb) dA (World.ownsRow_nil w' 0 ty sz) ⟨[],rfl,by simp,rfl⟩ rfl):P:=h
theorem Rm{P:Prop}(h:P:=by exact zQ hL k3 (key _ _ _ (by rw[hj];rfl) (Rn _ _ hj))):P:=h
theorem W1{P:Prop}(h:P:=by simp only[Op.operands,Call.operands];exact Array.mem_append.2 (.inr (Array.mem_toList_iff.1 hx))):P:=h
theorem W2{P:Prop}(h:P:=by rw[hn,hI,Cw hx];rfl):P:=h
theorem Ro{P:Prop}(h:P:=by exact Cy hL k3 (key _ _ _ (by rw[hj];rfl) (Rn _ _ hj))):P:=h
theorem abU{P:Prop}(h:P:=by exact HU hu cL (fun id h=> .inl (by rw[ko]at h;exact h)) g1.symm g3 oO (kI rfl)):P:=h
theorem Rp{P:Prop}(h:P:=by exact(hg.mono (by omega)).aD (by omega) (vR _ _ _ (by omega))):P:=h
theorem HV{P:Prop}(h:P:=by injection h with h;subst h;exact hK):P:=h
theorem W3{P:Prop}(h:P:=by simp only[h1,cO,Option.map_some];exact hK):P:=h
theorem W4{P:Prop}(h:P:=by exact⟨k1,zR.tr.trans k2,zR.size,zR.defers.mono k2,fun j=>V.aK k2 _ _ (zR.env j)⟩):P:=h
theorem W5{P:Prop}(h:P:=by rw[ah _ _ _ _ e,ah _ _ _ _ e,ah _ _ _ _ (by omega),hI.eq j hj,ah _ _ _ _ e]):P:=h
theorem oW{P:Prop}(h:P:=by simp;omega):P:=h
theorem Rq{P:Prop}(h:P:=by exact FP hL k3 (key _ _ _ (by rw[hj];rfl) (Lt _ hj))):P:=h
theorem LW{P:Prop}(h:P:=by exact V.aK (ht.trans k2) _ _ (hs.env i)):P:=h
theorem zS{P:Prop}(h:P:=by simp[V.refs]):P:=h
theorem abV{P:Prop}(h:P:=by exact⟨k1,hs.tr.trans k2,hs.size,hs.defers.mono k2,fun j=>V.aK k2 _ _ (hs.env j)⟩):P:=h
theorem W6{P:Prop}(h:P:=by rw[m3 id h2 (by omega),ah _ _ _ _ (by omega),ah _ _ _ _ (by omega),cL id h2 h3]):P:=h
theorem W7{P:Prop}(h:P:=by exact hQ _ _ _ _ val k5 (ey hs k1 k2 (o':=o') (nx':=nx') rfl fun id hu=>hu) k4):P:=h
theorem Rr{P:Prop}(h:P:=by exact⟨_,nE,jk,hq, .of_steps (.one h0 stepR_block) cV⟩):P:=h
theorem Rs{P:Prop}(h:P:=by exact⟨_,nE,jk,hq, .of_steps (.one h0 jU) cV⟩):P:=h
theorem HW{P:Prop}(h:P:=by unfold eV;rw[LX trivial]):P:=h
theorem W8{P:Prop}(h:P:=by exact .inr (.inr (.inr (nQ.mono (fun v o n h=>hK _ h) (fun v o n h=>hX _ _ h) h)))):P:=h
theorem og{P:Prop}(h:P:=by simp[hx]):P:=h
theorem Rt{P:Prop}(h:P:=by unfold cP;rw[List.range_succ,List.foldl_append];rfl):P:=h
theorem Ru{P:Prop}(h:P:=by rw[ah _ _ _ _ (by omega)];exact k4 id (by omega) g2):P:=h
theorem Rv{P:Prop}(h:P:=by rw[hI.eq bx Lu];unfold ext;rw[if_neg (by omega),hO]):P:=h
theorem W9{P:Prop}(h:P:=by exact⟨none,0,0,rfl,rfl,Nat.le_refl _,fun _=>rfl,0,fun a ha=>by cases ha⟩):P:=h
theorem Xa{P:Prop}(h:P:=by exact⟨b,es',clock,k1,k2,k4,aH.mono (fun b _ hn=>⟨rfl,hB b hn⟩) _ _ k3⟩):P:=h
theorem LY{P:Prop}(h:P:=by rw[show(hp o nx).o id=_ from ho];rfl):P:=h
theorem Xb{P:Prop}(h:P:=by unfold HX;(repeat(first|rfl|rw[af]|rw[ah _ _ _ _ (by omega)]))):P:=h
theorem Xc{P:Prop}(h:P:=by exact fun k hk s' h1 h2=>zT _ (fun x hx=>aS x (jP k hk x hx)) s' h1 h2):P:=h
theorem Rw{P:Prop}(h:P:=by injection h with h;subst h;exact⟨by assumption,hK⟩):P:=h
theorem Xd{P:Prop}(h:P:=by exact⟨k1,xs,k2,evs,k3,k4,D.aN (fun b _ hn=>⟨rfl,hB b hn⟩) _ _ k5⟩):P:=h
theorem Xe{P:Prop}(h:P:=by subst e23;(repeat(first|rfl|rw[af]|rw[ah _ _ _ _ (by omega)]))):P:=h
theorem Xf{P:Prop}(h:P:=by subst ea;(repeat(first|rfl|rw[af]|rw[ah _ _ _ _ (by omega)]))):P:=h
theorem Xg{P:Prop}(h:P:=by subst en;(repeat(first|rfl|rw[af]|rw[ah _ _ _ _ (by omega)]))):P:=h
theorem Xh{P:Prop}(h:P:=by subst eo;(repeat(first|rfl|rw[af]|rw[ah _ _ _ _ (by omega)]))):P:=h
theorem Xi{P:Prop}(h:P:=by exact hH.fresh j fun hu=>h (.inl hu)):P:=h
theorem Xj{P:Prop}(h:P:=by exact⟨r, .inl rfl,by obtain⟨_,rfl,_⟩:=hx;rfl,fun op=>g2 op p q,g1⟩):P:=h
theorem HY{P:Prop}(h:P:=by simp at h;obtain⟨rfl,rfl⟩:=h;exact⟨rfl,rfl⟩):P:=h
theorem N8{P:Prop}(h:P:=by exact hN _ _ _ (jm hs k1 k2 (l9 ho) cD rfl fun id hu=> .inl hu)):P:=h
theorem N9{P:Prop}(h:P:=by rw[List.drop_eq_getElem_cons g1,g2]):P:=h
theorem HZ{P:Prop}(h:P:=by rw[FO _ _ (by omega)];exact k2.eq id (by omega)):P:=h
theorem Oa{P:Prop}(h:P:=by exact⟨_,_,_,_,_,_,_,hK,by simp[hr], .inl rfl,h1,h2,h3,by simp⟩):P:=h
theorem Xk{P:Prop}(h:P:=by simp only[a0,Array.size_append,Array.size_replicate];simp at hlen;omega):P:=h
theorem Xl{P:Prop}(h:P:=by exact forall_congr' fun k=>forall_congr' fun hk=>by rw[ih k hk (d+1)]):P:=h
theorem Ob{P:Prop}(h:P:=by cases xv<;>first|(simp[Oc]at hwd;done)|(cases yv<;>simp[he])):P:=h
theorem Od{P:Prop}(h:P:=by exact⟨x,b.trans y,z⟩):P:=h
theorem vU{P:Prop}(h:P:=by simpa[V.refs]using hr):P:=h
theorem H3{P:Prop}(h:P:=by unfold iH;rw[List.map_append,List.sum_append]):P:=h
theorem Oe{P:Prop}(h:P:=by exact(DU B (by omega) (by omega) ds ty sz _).trans (oP j (by omega))):P:=h
theorem H4{P:Prop}(h:P:=by rw[nG];simp only[nP,eJ,vm];exact au):P:=h
theorem Of{P:Prop}(h:P:=by rw[sd];exact List.mem_cons_of_mem _ (List.mem_flatMap.2 ⟨k,hk,hx⟩)):P:=h
theorem Og{P:Prop}(h:P:=by exact hN _ _ _ _ k3.2 (nh hs k1 k2 k3.1 cD rfl fun id hu=>hu)):P:=h
theorem H5{P:Prop}(h:P:=by simp at hl;obtain⟨rfl,rfl⟩:=hl;exact hK):P:=h
theorem Oh{P:Prop}(h:P:=by exact List.all_eq_true.1 h.2.2 _ (List.mem_range.2 (Nat.mod_lt _ hn))):P:=h
theorem H6{P:Prop}(h:P:=by simp at hj hy;subst hj;subst hy;exact aS):P:=h
theorem DV{P:Prop}(h:P:=by rw[if_neg e,if_neg (by omega)]):P:=h
theorem zU{P:Prop}(h:P:=by exact .inr ⟨by omega,h2⟩):P:=h
theorem adJ{P:Prop}(h:P:=by rw[hj];rfl):P:=h
theorem Xm{P:Prop}(h:P:=by exact h3 e (Array.mem_toList_iff.1 he) hb):P:=h
theorem DW{P:Prop}(h:P:=by rw[hg];simp[dF,hv,e]):P:=h
theorem Oi{P:Prop}(h:P:=by exact cn.same hH _ h (by simp[execOp,gy,hr]) ⟨_,rfl,hv⟩):P:=h
theorem H7{P:Prop}(h:P:=by rw[sI];exact cK all _ aZ):P:=h
theorem H8{P:Prop}(h:P:=by simp[ab.refs,V.aE,V.refs];omega):P:=h
theorem H9{P:Prop}(h:P:=by subst tc;rw[af];exact hh.symm):P:=h
theorem ru{P:Prop}(h:P:=by rw[vf];rfl):P:=h
theorem Oj{P:Prop}(h:P:=by exact bB t u hu (hQ _ s φ w (.iface t u) h hs ⟨u,rfl,hd⟩)):P:=h
theorem DX{P:Prop}(h:P:=by simp[binOp,zV hr]):P:=h
theorem Ia{P:Prop}(h:P:=by exact⟨.ret,s',aC,hq,jQ,trivial⟩):P:=h
theorem Ol{P:Prop}(h:P:=by exact⟨e',Rx,fr',hR,ComesIn.of_steps Om hs,Hy,hl⟩):P:=h
theorem rv{P:Prop}(h:P:=by rw[hx];rfl):P:=h
theorem vV{P:Prop}(h:P:=by rw[hx];exact hk):P:=h
theorem Ib{P:Prop}(h:P:=by rw[vg i hi];exact congrArg some hb):P:=h
theorem On{P:Prop}(h:P:=by exact⟨b,k1,k2.mono (fun b _ hn=>⟨rfl,hB b hn⟩) rfl⟩):P:=h
theorem te{P:Prop}(h:P:=by simpa using h2):P:=h
theorem Ic{P:Prop}(h:P:=by unfold eV;exact Eq.trans rfl rfl):P:=h
theorem oX{P:Prop}(h:P:=by assumption):P:=h
theorem Ie{P:Prop}(h:P:=by subst tc;rw[af,Lt _ Vh]):P:=h
theorem DY{P:Prop}(h:P:=by rw[Vi]at hl;simp at hl):P:=h
theorem DZ{P:Prop}(h:P:=by subst hi;simp[Ne.symm h]):P:=h
theorem Ig{P:Prop}(h:P:=by exact⟨.bB _,s',aC,hq,jQ,hm⟩):P:=h
theorem Ih{P:Prop}(h:P:=by unfold FQ;exact Eq.trans rfl rfl):P:=h
theorem D0{P:Prop}(h:P:=by exact fun _=>zW _ _ _):P:=h
theorem Ii{P:Prop}(h:P:=by unfold eqGuard;cases op<;>simp):P:=h
theorem oY{P:Prop}(h:P:=by simp[hy]):P:=h
theorem D1{P:Prop}(h:P:=by rw[h]at h1;simp at h1):P:=h
theorem Ij{P:Prop}(h:P:=by simpa only[ni]using this):P:=h
theorem D2{P:Prop}(h:P:=by exact hI.mono (by omega)):P:=h
theorem Xn{P:Prop}(h:P:=by cases(aq step s l).2<;>simp):P:=h
theorem Ik{P:Prop}(h:P:=by simp[hj]at hr;exact⟨hr,rfl⟩):P:=h
theorem tf{P:Prop}(h:P:=by rw[h1];rfl):P:=h
theorem Il{P:Prop}(h:P:=by rw[FO _ _ zF, <- h0 _ zF,ht]):P:=h
theorem D3{P:Prop}(h:P:=by exact⟨k,by omega,k2⟩):P:=h
theorem Im{P:Prop}(h:P:=by simp at hj;subst hj;exact dX):P:=h
theorem vW{P:Prop}(h:P:=by simpa using hx):P:=h
theorem Io{P:Prop}(h:P:=by rw[ht];exact ab.noConfusion):P:=h
theorem zX{P:Prop}(h:P:=by cases b<;>rfl):P:=h
theorem zY{P:Prop}(h:P:=by rw[sd];simp):P:=h
theorem Xo{P:Prop}(h:P:=by exact⟨b,h4.trans h5,h6⟩):P:=h
theorem zw0{P:Prop}(h:P:=by refine aj (k+1,(step s' x).1,o2,n2+1+1) ⟨h1,m2.mono (show n2<=n2+1+1 from ae),(show nx<=n2+1+1 from ae),fun id i1 i2=>(m3 id i1 ae).trans (cL id i1 i2),hf,aS x iK s' hY hb,by rw[tg];rfl⟩ jO (br.aR _ (show nx<=n2+1+1 from ae) (Nat.le_refl _) (m2.mono (show n2<=n2+1+1 from ae)).bz (fun _ _=>rfl) ?_);exact ct):P:=h
theorem Oo{P:Prop}(h:P:=by refine aO (aQ rfl) ?_;refine aY ?_;rw[e]):P:=h
theorem zw2{P:Prop}(h:P:=by rw[hr,if_pos rfl]at zG;refine aY ?_;refine aj (k+1,(aq step s' (ll x (q++[(k:Int)]) false)).1,o5,n5+1+1) ⟨h1,p2.mono (show n5<=n5+1+1 from ae),(show nx<n5+1+1 from ae),by dsimp only;rw[p3 nx (by omega) (Nat.le_refl _),bE],fun id i1 i2=>(p3 id i1 ae).trans (cL id i1 i2),by dsimp only;rw[se];exact zG,by dsimp only;rw[se];exact qt step ok aS _ _ s' hY hr⟩ jO (br.aR _ (show nx<=n5+1+1 from ae) jO (p2.mono (show n5<=n5+1+1 from ae)).bz (fun _ _=>rfl) ?_);exact ct):P:=h
theorem Vj{P:Prop}(h:P:=by rw[List.drop_eq_getElem_cons h1];rw[List.getElem?_eq_getElem h1]at hx;injection hx with hx;rw[hx]):P:=h
theorem zw6{P:Prop}(h:P:=by refine aO (aQ rfl) ?_;refine gX q2 ?_;refine cu _ _ _ .busy none ae (fin _ _ (fun id au=>Vf) ff ae) gY (fun id h3 h4=>by(repeat(first|rfl|rw[af]|rw[ah _ _ _ _ (by omega)])))):P:=h
theorem Xp{P:Prop}(h:P:=by dsimp only;refine br.aR _ (Nat.le_refl _) ae hI.bz (fun _ _=>rfl) ?_;exact ct):P:=h
theorem vn{P:Prop}(h:P:=by refine ay hkn rfl ?_;exact vP):P:=h
theorem LZ{P:Prop}(h:P:=by simp[Ef,Array.getD_eq_getD_getElem?,Array.getElem?_replicate]at iQ;split at iQ<;>simp at iQ):P:=h
theorem Ry{P:Prop}(h:P:=by obtain⟨h0,h1,h2⟩:=h;refine⟨h0,hr.us id h1,fun bE=> ?_⟩;obtain⟨h3,h4⟩:=hr.row id h1 bE;obtain⟨b,h5,h6⟩:=h2 h3;exact Xo):P:=h
theorem Rz{P:Prop}(h:P:=by obtain⟨a,b,c⟩:=hr id zS;obtain⟨h0,h1,h2⟩:=h;refine⟨h0,c,fun bE=> ?_⟩;rw[a]at bE;obtain⟨x,y,z⟩:=h2 bE;exact Od):P:=h
theorem RA{P:Prop}(h:P:=by obtain⟨h0,x,hx⟩:=xC hI;simp+contextual only[go_sem,hI,hx,h0];refine aO (aQ rfl) ?_;refine cI ?_;exact W2):P:=h
theorem RB{P:Prop}(h:P:=by obtain⟨a,b,c⟩:=hr id zS;obtain⟨h0,h1,h2⟩:=h;refine⟨h0,c,fun bE=> ?_⟩;obtain⟨x,y,z⟩:=h2 (a.1 bE);exact Od):P:=h
theorem Xq{P:Prop}(h:P:=by refine aY ?_;rw[e]):P:=h
theorem RC{P:Prop}(h:P:=by intro j hj;simp only[bt,h2,List.mem_map,List.mem_filter]at hj;obtain⟨e,⟨he,hb⟩,rfl⟩:=hj;exact Xm):P:=h
theorem Xr{P:Prop}(h:P:=by rw[hs,Bool.true_and]at th;refine gX hs ?_;refine aj (k+1) ⟨h2,th⟩ ae (br.aR _ (show 0<=1 from ae) ae ff (fun j hj=>by(repeat(first|rfl|rw[af]|rw[ah _ _ _ _ (by omega)]))) ?_);exact ct):P:=h
theorem RD{P:Prop}(h:P:=by rw[hb]at hf tg;simp only[Bool.false_eq_true,if_false]at hf tg;refine cI ?_;rw[hf,tg]at hK;exact abS):P:=h
theorem Xs{P:Prop}(h:P:=by obtain⟨h0,h1,h2⟩:=h;refine⟨h0,hr.us id h1,fun e' oQ=> ?_⟩;obtain⟨e,g1,g2,g3⟩:=hr.ep id e' h1 oQ;obtain⟨h3,h4⟩:=h2 e g1;refine⟨Nat.le_trans h3 g2,fun heq=> ?_⟩;rw[g3 (by omega)];exact h4 ae):P:=h
theorem Xt{P:Prop}(h:P:=by refine aO bO ?_;refine gX Lv ?_;refine aW (Ip _ v ae) ?_;refine aY ?_;refine aj (j+1) h3 ae (br.d1 _ (aT rfl) ae rfl ?_);rw[qu Lv,if_pos hc];exact ct):P:=h
theorem Xu{P:Prop}(h:P:=by rw[e]at hK;refine abP ?_;exact hK _ _ ae ⟨ff,ae,fun j hj=>by rw[ah _ _ _ _ (by omega),hI.eq j hj]⟩ (fun j g1 g2=>by(repeat(first|rfl|rw[af]|rw[ah _ _ _ _ (by omega)])))):P:=h
theorem RE{P:Prop}(h:P:=by obtain⟨z,h1,h⟩:=iU h;simp only[Prod.mk.injEq]at h;obtain⟨rfl,rfl,rfl⟩:=h;exact W3):P:=h
theorem RF{P:Prop}(h:P:=by simp at h1;refine cI ?_;rw[List.drop_eq_nil_of_le h1]at hf tg;rw[hf,tg]at hK;exact WR):P:=h
theorem Xv{P:Prop}(h:P:=by refine aO (aQ rfl) ?_;exact vP):P:=h
theorem Xw{P:Prop}(h:P:=by refine aY ?_;exact hK _ _ ae ⟨ff,ae,fun j hj=>by rw[ah _ _ _ _ (by omega),hI.eq j hj]⟩ (fun j g1 g2=>by(repeat(first|rfl|rw[af]|rw[ah _ _ _ _ (by omega)])))):P:=h
theorem Iq{P:Prop}(h:P:=by simp only[St.S,jc]at this;exact this):P:=h
theorem RG{P:Prop}(h:P:=by obtain⟨h0,x,hx⟩:=xC hI;simp+contextual only[go_sem,h,hI,hx,h0];exact W2):P:=h
theorem RH{P:Prop}(h:P:=by simp only[Array.getD_eq_getD_getElem?];rw[Array.getElem?_setIfInBounds_ne (Ne.symm hi)]):P:=h
theorem RI{P:Prop}(h:P:=by refine jN hI ?_;refine aO (aQ rfl) ?_;refine cI ?_;rw[hn,hI];rfl):P:=h
theorem RJ{P:Prop}(h:P:=by rw[hL.refs,List.all_eq_true];intro r hr;have:=hrefs r hr;exact decide_eq_true ae):P:=h
theorem RK{P:Prop}(h:P:=by refine ng hx ?_;refine aj (k+1) h2 ae (br.d0 _ ?_);rw[Oq];exact ct):P:=h
theorem RL{P:Prop}(h:P:=by refine Ws hx f2 ?_;refine aO (aQ rfl) ?_;refine aY ?_;rw[e]):P:=h
theorem Xx{P:Prop}(h:P:=by simp only[Option.map_eq_some_iff]at h;obtain⟨d,h1,rfl⟩:=h;obtain⟨arr,rfl,g1,g2⟩:=hx;obtain⟨val,r1,r2⟩:=gE h1 g1 g2;exact fin (r1 w) r2):P:=h
theorem RM{P:Prop}(h:P:=by refine cI ?_;refine ay (fU _ _ _) rfl ?_;refine cI ?_;rw[hn]):P:=h
theorem Xy{P:Prop}(h:P:=by rw[show(⟨put o' [(fr, .arr 0 ty sz es)],fun id=>us id\/id=fr⟩:Hp).o fr=put o' [(fr, .arr 0 ty sz es)] fr from rfl,this]at he;injection he):P:=h
theorem Xz{P:Prop}(h:P:=by simp only[hx]at h ho;injection h with h;subst h;simp only[ab.fz]at ho;simp only[aM,ho]at aS;rw[hd (by rw[ho];rfl)];exact aS):P:=h
theorem RN{P:Prop}(h:P:=by rw[m2.eq id (by omega)];unfold ext;rw[if_neg (by omega)];exact gY):P:=h
theorem XA{P:Prop}(h:P:=by rw[List.getD_eq_getElem?_getD,List.getElem?_map,List.getElem?_range (by omega)];simp only[Option.map_some,Option.getD_some];exact WX):P:=h
theorem XB{P:Prop}(h:P:=by obtain⟨h0,y,h1,h2,h3,h4⟩:=tj h;simp only[Prod.mk.injEq]at h4;obtain⟨rfl,rfl,rfl⟩:=h4;exact⟨h0,y,h1,h2,h3,hK⟩):P:=h
theorem XC{P:Prop}(h:P:=by simp only[Option.map_eq_some_iff]at h;obtain⟨r,h1,rfl⟩:=h;obtain⟨g1,g2⟩:=RP h1 hg (ak M φ H) w xv yv hx hy;exact Xj):P:=h
theorem XE{P:Prop}(h:P:=by obtain⟨h3,h4⟩:=hb _ cm h2;exact⟨by rw[World.cell?_of_block (w:=w) (w':=w') (a:=a.add j) (by simpa using h3)];exact h1,h4⟩):P:=h
theorem XF{P:Prop}(h:P:=by refine aY ?_;simp at h3;refine aj (k+1) ⟨h2,fg hx hk.2 h3⟩ ae (br.d1 _ (aT rfl) ae rfl ?_);exact ct):P:=h
theorem XG{P:Prop}(h:P:=by simp only[ha];obtain⟨z,h1,h⟩:=iU h;simp only[Prod.mk.injEq]at h;obtain⟨rfl,rfl,rfl⟩:=h;exact xD h1 hK):P:=h
theorem XH{P:Prop}(h:P:=by simp only[hw,if_true];obtain⟨sJ,oO⟩:=zZ Ir (fun id au=>ag2 id (by rw[vg];exact au)) RQ aS.2;exact abU):P:=h
theorem XI{P:Prop}(h:P:=by cases y<;>simp only[V.same,Bool.false_eq_true,Bool.and_eq_true]at h;rw[Nat.eq_of_beq_eq_true h.1,Nat.eq_of_beq_eq_true h.2]):P:=h
theorem RR{P:Prop}(h:P:=by refine qq ?_;refine aO (aQ rfl) ?_;exact vP):P:=h
theorem XJ{P:Prop}(h:P:=by refine aj (j+1) (next hh) ae (br.aR _ (show 0<=4 from ae) ae (dN _ _) (fun q hq=>rfl) ?_);exact ct):P:=h
theorem XK{P:Prop}(h:P:=by intro u hu;simp only[Array.toList_extract,List.extract]at hu;exact hf u (List.mem_of_mem_drop (List.mem_of_mem_take hu))):P:=h
theorem XL{P:Prop}(h:P:=by refine⟨hH,Trans.refl _ _ _, ?_,⟨[],rfl,List.nodup_nil,fun _=>rfl,fun r hr=>by cases hr⟩,z7 hd⟩;exact Xk):P:=h
theorem RS{P:Prop}(h:P:=by obtain⟨g1,g2⟩:=List.getElem?_eq_some_iff.1 hx;exact N9):P:=h
theorem XM{P:Prop}(h:P:=by rw[e];obtain⟨k1,k2⟩:=iV (us':=D4 (Array.replicate ops.size false)) hs.heap (fun id h=> .inl h);exact abV):P:=h
theorem XN{P:Prop}(h:P:=by unfold World.cell?;simp only[hg,Option.isSome_none,Bool.false_eq_true,if_false,Nat.zero_add];rw[Ot j hj];simp):P:=h
theorem RT{P:Prop}(h:P:=by simp only[bA,aG,h1,if_false];exact Xi):P:=h
theorem RU{P:Prop}(h:P:=by rw[Bool.eq_iff_iff,decide_eq_true_eq,this];exact Xn):P:=h
theorem XO{P:Prop}(h:P:=by refine cI ?_;simp at h1;rw[List.drop_eq_nil_of_le h1]at hf;simp only[aq]at hf;rw[hf]at hK;exact WR):P:=h
theorem XP{P:Prop}(h:P:=by simp only[Option.some.injEq,Prod.mk.injEq]at h;obtain⟨rfl,rfl,rfl⟩:=h;simp only[ho];exact⟨_,hg,hK⟩):P:=h
theorem RV{P:Prop}(h:P:=by rw[show fr+(j+1)=fr+1+j by omega];exact this):P:=h
theorem RW{P:Prop}(h:P:=by simp+contextual only[go_sem,h,hI];rw[hn,hI];rfl):P:=h
theorem XQ{P:Prop}(h:P:=by injection h with h;subst h;obtain⟨u,rfl,_⟩:=hy;simp only[V.den,D.den]at hx;subst hx;exact abR):P:=h
theorem XR{P:Prop}(h:P:=by injection h with h;subst h;obtain⟨u,rfl,_⟩:=hx;simp only[V.den,D.den]at hy;subst hy;exact abQ):P:=h
theorem XS{P:Prop}(h:P:=by refine .inr (.inr (.inl ⟨ds,out,eL,hP,qm, ?_⟩));cases out<;>first|exact hK _ h|exact hX _ _ h):P:=h
theorem XT{P:Prop}(h:P:=by rw[hI.eq 2 (by omega)];(repeat(first|rfl|rw[af]|rw[ah _ _ _ _ (by omega)]));exact p2):P:=h
theorem L0{P:Prop}(h:P:=by refine aO bO ?_;exact vP):P:=h
theorem Ou{P:Prop}(h:P:=by simp only[ab.fz]at ho;simp only[aM,ho]at aS;rw[(hd ep (by rw[ho];rfl)).2 rfl];exact aS):P:=h
theorem Ov{P:Prop}(h:P:=by rw[Array.toList_append,Array.toList_append,Array.toList_map];exact V.oZ D5 dB hca):P:=h
theorem Ow{P:Prop}(h:P:=by refine .inr (.inl ⟨ds,out,eL,hP,qm, ?_⟩);cases out<;>first|exact hK _ h|exact hX _ _ h):P:=h
theorem Ox{P:Prop}(h:P:=by obtain⟨b,dG,ty,k1,k2,k3,k4⟩:=aZ;exact⟨b,dG,ty,k1,k2,kJ _ _ hrefs k3,k4⟩):P:=h
theorem Oy{P:Prop}(h:P:=by obtain⟨arr,rfl,g1,g2⟩:=hx;obtain⟨val,r1,r2⟩:=FR h g1 g2;exact fin r1 r2):P:=h
theorem Oz{P:Prop}(h:P:=by subst e9;(repeat(first|rfl|rw[af]|rw[ah _ _ _ _ (by omega)]));exact q2):P:=h
theorem OA{P:Prop}(h:P:=by simp only[Array.getD_eq_getD_getElem?];rw[Array.getElem?_setIfInBounds_ne (Ne.symm h1)]):P:=h
theorem OB{P:Prop}(h:P:=by subst e;(repeat(first|rfl|rw[af]|rw[ah _ _ _ _ (by omega)]));exact q2):P:=h
theorem OC{P:Prop}(h:P:=by refine⟨x,fun heq=> ?_⟩;obtain⟨p,q,r,z,u⟩:=y heq;exact⟨p,q,r,b.trans z,u⟩):P:=h
theorem OD{P:Prop}(h:P:=by obtain⟨h5,h6⟩:=List.getElem?_eq_some_iff.1 hx;rw[List.drop_eq_getElem_cons h5,h6]):P:=h
theorem OE{P:Prop}(h:P:=by refine .inl ⟨ds,out,eL,hP, ?_⟩;cases out<;>first|exact hK _ h|exact hX _ _ h):P:=h
theorem OG{P:Prop}(h:P:=by simp only[Ef,Array.getD_eq_getD_getElem?,Array.getElem?_replicate];split<;>rfl):P:=h
theorem OH{P:Prop}(h:P:=by simp[H',ab.bX]at he;subst he;exact⟨Nat.le_refl _,fun _=>by simp[aC]⟩):P:=h
theorem OI{P:Prop}(h:P:=by rw[p2.eq id (by omega)];unfold ext;rw[if_neg (by omega),hold id (by omega) h2]):P:=h
theorem OJ{P:Prop}(h:P:=by rw[hm,gG (o:=s.o) fun id au=>hr id (lq _ id au)];exact Vk):P:=h
theorem OK{P:Prop}(h:P:=by obtain⟨a,b,c,h⟩:=funcOf (P:=Tryz.prog) (t:=214) ag;unfold vh;rw[h]):P:=h
theorem OL{P:Prop}(h:P:=by cases y<;>simp only[D.same,Bool.false_eq_true]at h;rw[D.dk bY _ h]):P:=h
theorem OM{P:Prop}(h:P:=by simp at h2;rw[List.drop_eq_nil_of_le h2]at th;refine aY ?_;rw[th];rfl):P:=h
theorem ON{P:Prop}(h:P:=by rw[Bool.eq_iff_iff];simp only[List.all_eq_true (l:=t.kids)];exact Xl):P:=h
theorem OO{P:Prop}(h:P:=by obtain⟨b,r,k1,k2,k3,k4,k5,k6,k7,k8,k9,k10⟩:=aZ;exact abT):P:=h
theorem OP{P:Prop}(h:P:=by obtain⟨u,us,rfl,h1,_⟩:=h;simp at hd;subst hd;exact⟨u,aJ,h1⟩):P:=h
theorem OQ{P:Prop}(h:P:=by intro c hx;rw[Array.getD_eq_getD_getElem?,hx]at cV;simp at cV):P:=h
def ry(ops:Array Oper)(j:Nat):Option Tmp:=(ops[j]?).bind (·.dst)
structure bH where
 dst:Option Nat
 op:Op
 gd:Option (Nat×Bool):=none
instance:Inhabited bH:=⟨⟨none, .ready 0,none⟩⟩
def Cz(n:Nat):Option Tmp->Bool
 |some d=>decide (d<n)
 |none=>true
def Is(n:Nat)(ops:Array Oper)(o:Oper):Option bH:=
 if Cz n o.dst=true then match o.guard with
  |none=>some ⟨o.dst,o.op,none⟩
  |some (j,want)=>match ry ops j with
   |some d=>some ⟨o.dst,o.op,some (d,want)⟩
   |none=>none
 else none
def kK(n:Nat)(ops:Array Oper):List Oper->Option (List bH)
 |[]=>some []
 |o::l=>match Is n ops o,kK n ops l with
  |some x,some xs=>some (x::xs)
  |_,_=>none
def tmpsOf(o:bH):List Nat:=(o.op.operands.toList.filterMap fun| .tmp t=>some t|_=>none)++(match o.gd with|some (d,_)=>[d]|none=>[])
def eM(o:bH):List Nat:=tmpsOf o++o.dst.toList
def bt(ops:Array Oper)(i:Nat):List Nat:=match ops[i]? with|some o=>(o.after.toList.filter (Region.binds .any)).map (·.on)|none=>[]
def bM(l:List bH)(i:Nat):bH:=l.getD i default
inductive IC where
 |skip|ad (l:List bH)|db (l:List bH) (pr:List (List Nat))|seq (a b:IC)|cond (c:Operand) (a b:IC)|block (id:Nat) (a:IC)|loop (a:IC)|exit (id:Nat)|ret|bad
 |FT (g:Operand) (ps:List Nat) (a b:IC)
 deriving Inhabited
inductive jL where
 |ret|exit (id:Nat)
def jL.code:jL->Code
 | .ret=> .ret
 | .exit id=> .exit id
def lr(acc:List Nat):List Nat->Nat
 |[]=>0
 |j::ps=>(2^j|||acc.getD j 0)|||lr acc ps
def ee:List (List Nat)->List Nat->List Nat
 |[],acc=>acc
 |ps::l,acc=>ee l (acc++[lr acc ps])
def qv(x y:bH):Bool:=match x.dst with|some d=> !(eM y).contains d|none=>true
def xE(l:List bH)(pr:List (List Nat)):Bool:=
 (List.range l.length).all fun j=>(List.range j).all fun i=>((ee pr []).getD j 0).testBit i||(qv (bM l i) (bM l j)&&qv (bM l j) (bM l i))
def kp(xs ys:List Nat):Bool:=xs.all fun x=> !ys.contains x
def dY(pr:List (List Nat))(fp:List (List Nat×List Nat)):Bool:=
 (List.range fp.length).all fun j=>(List.range j).all fun i=>((ee pr []).getD j 0).testBit i||
  (kp (fp.getD i ([],[])).2 (fp.getD j ([],[])).1&&kp (fp.getD i ([],[])).2 (fp.getD j ([],[])).2&&kp (fp.getD j ([],[])).2 (fp.getD i ([],[])).1)
def fV(ops:Array Oper):List (List Nat):=(List.range ops.size).map (bt ops)
def RX(pr:List (List Nat)):Bool:=(List.range pr.length).all fun k=>(pr.getD k []).all fun j=>decide (j<k)
theorem tl{acc:List Nat}{i:Nat}:∀ (ps:List Nat),(lr acc ps).testBit i=true->∃j∈ps,i=j\/(acc.getD j 0).testBit i=true
 |[],h=>by simp[lr]at h
 |j::ps,h=>by
  simp only[lr,Nat.testBit_or,Bool.or_eq_true]at h
  rcases h with(h|h)|h
  ·rw[Nat.testBit_two_pow]at h
   exact⟨j,aJ, .inl (by have h:=of_decide_eq_true h;exact h.symm)⟩
  ·exact⟨j,aJ, .inr h⟩
  ·obtain⟨j',h1,h2⟩:=tl ps h
   exact⟨j',by simp[h1],h2⟩
theorem qw{k:Nat}:∀ (l:List (List Nat)) (acc:List Nat),k<acc.length->(ee l acc).getD k 0=acc.getD k 0
 |[],_,_=>rfl
 |ps::l,acc,h=>by
  rw[ee,qw l _ (by simp;omega)]
  simp[List.getD_eq_getElem?_getD,List.getElem?_append_left h]
theorem qx{i:Nat}:∀ (l:List (List Nat)) (acc:List Nat) (k:Nat),acc.length<=k->(∀k',k'<l.length->∀j∈l.getD k' [],j<acc.length+k')->((ee l acc).getD k 0).testBit i=true->
 ∃j∈l.getD (k - acc.length) [],i=j\/((ee l acc).getD j 0).testBit i=true
 |[],acc,k,hk,_,h=>by
  simp only[ee]at h
  rw[List.getD_eq_getElem?_getD,List.getElem?_eq_none hk]at h
  simp at h
 |ps::l,acc,k,hk,hp,h=>by
  simp only[ee]at h|-
  by_cases he:k=acc.length
  ·subst he
   rw[qw l _ (by simp)]at h
   have e:(acc++[lr acc ps]).getD acc.length 0=lr acc ps:=by simp[List.getD_eq_getElem?_getD]
   rw[e]at h
   obtain⟨j,h1,h2⟩:=tl ps h
   refine⟨j,by simpa using h1,h2.imp id fun h2=> ?_⟩
   have hj:j<acc.length:=by simpa using hp 0 aJ j (by simpa using h1)
   rw[qw l _ (by simp;omega)]
   simpa[List.getD_eq_getElem?_getD,List.getElem?_append_left hj]using h2
  ·obtain⟨j,h1,h2⟩:=qx l (acc++[lr acc ps]) k oW (fun k' Hz j hj=>by
    have:=hp (k'+1) oW j l7
    simp;omega) h
   refine⟨j, ?_,h2⟩
   have e:k - acc.length=(k - (acc++[lr acc ps]).length)+1:=by simp;omega
   rw[e];simpa using h1
theorem o6{pr:List (List Nat)}(hp:∀k,k<pr.length->∀j∈pr.getD k [],j<k){E:Nat->Bool}(hE:∀k,k<pr.length->E k=true->∀j∈pr.getD k [],E j=true):
 ∀k,k<pr.length->(∀j∈pr.getD k [],E j=true)->∀i,((ee pr []).getD k 0).testBit i=true->E i=true:=by
 intro k
 induction k using Nat.strongRecOn with
 |ind k ih=>
  intro hk hj i hi
  obtain⟨j,h1,h2⟩:=qx pr [] k aJ (fun k' Hz j hj=>by simpa using hp k' Hz j hj) hi
  simp only[List.length_nil,Nat.sub_zero]at h1
  rcases h2 with rfl|h2
  ·exact hj _ h1
  ·have XU:=hp k hk j h1
   exact ih j XU ae (hE j ae (hj j h1)) i h2
theorem z8{pr:List (List Nat)}(hp:∀k,k<pr.length->∀j∈pr.getD k [],j<k):∀k,k<pr.length->∀i,((ee pr []).getD k 0).testBit i=true->i<k:=by
 intro k
 induction k using Nat.strongRecOn with
 |ind k ih=>
  intro hk i hi
  obtain⟨j,h1,h2⟩:=qx pr [] k aJ (fun k' Hz j hj=>by simpa using hp k' Hz j hj) hi
  simp only[List.length_nil,Nat.sub_zero]at h1
  have XU:=hp k hk j h1
  rcases h2 with rfl|h2
  ·exact XU
  ·have:=ih j XU ae i h2;omega
def low(n:Nat):Code->IC
 | .skip=> .skip
 | .label _=> .skip
 | .scope c=>low n c
 | .region _ ops false=>match kK n ops ops.toList with
   |some l=> .ad l
   |none=> .bad
 | .region _ ops true=>match kK n ops ops.toList with
   |some l=>if xE l (fV ops)&&RX (fV ops)then .db l (fV ops)else .bad
   |none=> .bad
 | .seq a b=> .seq (low n a) (low n b)
 | .cond c a b=> .cond c (low n a) (low n b)
 | .block id a=> .block id (low n a)
 | .loop a=> .loop (low n a)
 | .exit id=> .exit id
 | .ret=> .ret
 | .rangeFunc g ps a b=> .FT g ps.toList (low n a) (low n b)
 |_=> .bad
section
inductive D where
 |int (k:IntKind) (n:Int)|bool (b:Bool)|str (s:List UInt8)
 |gA|lY|bZ|hZ
 |agg (cs:List D)|sl (es:List D)|iface (t:TypeId) (d:D)
 |mp (ks vs:List D)
 deriving Inhabited
def Flat(vs:List Value):Prop:=∀u∈vs,u.oneCell'=true
def fW(B:Nat->Prop)(w:World)(a:Addr)(cs:Array Value):Prop:=∀j u,cs[j]? =some u->w.cell? (a.add j)=some u/\ ¬B a.block
def iR(es:Array MapEntry)(clock:Nat):Prop:=(∀e∈es.toList,e.born<clock)/\(es.toList.map (·.born)).Nodup
def xF(ks:List D):Prop:=ks.Nodup/\∀k∈ks,∃n,k= .int .i64 n
mutual
def D.den (B:Nat->Prop)(w:World):D->Value->Prop
 | .int k n,v=>v= .int k n
 | .bool b,v=>v= .bool b
 | .str l,v=>∃s:ByteArray,v= .string s/\s.data.toList=l
 | .gA,v=>v= .nilIface
 | .lY,v=>v= .pointer none
 | .bZ,v=>v= .nilFunc
 | .hZ,v=>v= .map none
 | .agg cs,v=>∃a,v= .agg a/\D.az B w cs a.toList/\Flat a.toList
 | .sl es,v=>∃base len cap,v= .slice base len cap/\len=es.length/\len<=cap/\(base=none->cap=0)/\
  ∃sz,∀a,base=some a->(cap≠0->a.spot=none)/\D.elems B w sz a 0 es
 | .iface t d,v=>∃u,v= .iface t u/\D.den B w d u
 | .mp ks vs,v=>∃m es clock p,v= .map (some m)/\w.heap[m]? =some (.map es clock)/\ ¬B m/\iR es clock/\(p=es.toList\/(p.Perm es.toList/\xF ks))/\D.az B w ks (p.map (·.key))/\D.az B w vs (p.map (·.val))
def D.az (B:Nat->Prop)(w:World):List D->List Value->Prop
 |[],vs=>vs=[]
 |d::ds,vs=>∃u us,vs=u::us/\D.den B w d u/\D.az B w ds us
def D.elems (B:Nat->Prop)(w:World)(sz:Nat)(a:Addr):Nat->List D->Prop
 |_,[]=>True
 |i,e::es=>(∃ev:Value,ev.cells.size=sz/\fW B w (a.add (i*sz)) ev.cells/\D.den B w e ev)/\D.elems B w sz a (i+1) es
end
inductive V where
 |d (x:D)|bu|agg (cs:List V)|bT (vs:List V)
 |ptr (id off:Nat)|osl (id ep:Nat)|pe (id ep i sz off:Nat)|pp (cs:List D) (off:Nat)
 |func (fn:Fn) (first cap:List V)|iface (t:TypeId) (x:V)
 |aa
 |qn (es:List D)|vX (id off n:Nat)|mp (id:Nat)|eW|iW (id:Nat)
 deriving Inhabited
inductive ab where
 |no|row (cs:List V)|arr (ep:Nat) (ty:TypeId) (sz:Nat) (es:List D)|rz (ep:Nat) (es:List D)
 |map (kt vt:TypeId) (es:List (D×D))
 |loop (nf n:Nat) (env:List V) (ps:List Nat) (a b:IC) (st:LoopState) (FU:Option jL)
 |gH (es:List (D×D))|oh (es:List (D×D)) (last:Option (D×D))|xG (s:List UInt8) (pos:Nat)
 deriving Inhabited
def a7(l:List V):Nat->V:=fun i=>l.getD i .aa
structure Hp where
 o:Nat->ab
 us:Nat->Prop
def ab.bX:ab->Option Nat
 | .arr ep _ _ _| .rz ep _=>some ep
 |_=>none
def ab.b7:ab->Bool
 | .row _| .map .. | .loop .. | .gH _| .oh .. | .xG .. =>true
 |_=>false
def ab.live:ab->Bool
 | .row _| .arr .. | .map .. | .loop .. | .oh .. | .xG .. =>true
 |_=>false
def de:Value->Option Nat
 | .pointer (some a)| .slice (some a) _ _=>some a.block
 | .map (some b)=>some b
 |_=>none
abbrev Place:=Nat->Value
def cw(φ:Place)(H:Hp)(b:Nat):Prop:=∃id,(H.o id).live=true/\de (φ id)=some b
def ak(M:Nat->Prop)(φ:Place)(H:Hp)(b:Nat):Prop:=M b\/cw φ H b
mutual
def V.den (B:Nat->Prop)(φ:Place)(H:Hp)(w:World):V->Value->Prop
 | .d x,v=>D.den B w x v
 | .bu,v=>v= .slice none 0 0
 | .agg cs,v=>∃a,v= .agg a/\V.az B φ H w cs a.toList/\Flat a.toList
 | .bT vs,v=>∃a,v= .tuple a/\V.az B φ H w vs a.toList
 | .ptr id off,v=>v.oneCell'=true/\H.us id/\((H.o id).b7=true->∃b,φ id= .pointer (some ⟨b,0,none⟩)/\v= .pointer (some ⟨b,off,none⟩))
 | .osl id ep,v=>v.oneCell'=true/\H.us id/\∀e,(H.o id).bX=some e->ep<=e/\(ep=e->v=φ id)
 | .pe id ep i sz off,v=>v.oneCell'=true/\H.us id/\∀e,(H.o id).bX=some e->ep<=e/\(ep=e->∃b n c,φ id= .slice (some ⟨b,0,none⟩) n c/\v= .pointer (some ⟨b,i*sz+off,none⟩))
 | .pp cs off,v=>∃a ev,a.spot=none/\v= .pointer (some (a.add off))/\D.az B w cs ev/\Flat ev/\fW B w a ev.toArray
 | .func fn first cap,v=>∃f c,v= .func fn f c/\V.az B φ H w first f.toList/\V.az B φ H w cap c.toList
 | .iface t x,v=>∃u,v= .iface t u/\V.den B φ H w x u
 | .aa,_=>True
 | .qn es,v=>D.den B w (.sl es) v/\∃base n,v= .slice base n n
 | .vX id off n,v=>v.oneCell'=true/\H.us id/\((H.o id).b7=true->∃b,φ id= .pointer (some ⟨b,0,none⟩)/\v= .slice (some ⟨b,off,none⟩) n n)
 | .mp id,v=>v.oneCell'=true/\H.us id/\((H.o id).b7=true->v=φ id)
 | .eW,v=>∃b,v= .bool b
 | .iW id,v=>v.oneCell'=true/\H.us id/\((H.o id).b7=true->∃b,φ id= .pointer (some ⟨b,0,none⟩)/\v= .func (.yield b) #[] #[])
def V.az (B:Nat->Prop)(φ:Place)(H:Hp)(w:World):List V->List Value->Prop
 |[],vs=>vs=[]
 |x::xs,vs=>∃u us,vs=u::us/\V.den B φ H w x u/\V.az B φ H w xs us
end
def fu(B:Nat->Prop)(w:World)(sz:Nat)(es:List D)(xs:List Value):Prop:=
 ∃evs:List Value,xs=evs.flatMap (·.cells.toList)/\(∀ev∈evs,ev.cells.size=sz)/\D.az B w es evs
def aH(B:Nat->Prop)(w:World):List (D×D)->List MapEntry->Prop
 |[],es=>es=[]
 |(k,x)::l,es=>∃e es',es=e::es'/\D.den B w k e.key/\D.den B w x e.val/\aH B w l es'
def xH(B:Nat->Prop)(w:World)(l:List (D×D))(last:Option (D×D))(b:Nat):Prop:=
 w.heap[b]? =some (.mapIter none 0 #[] 0)/\l=[]/\last=none\/
 ∃m since seen es,w.heap[b]? =some (.mapIter (some m) since seen since)/\w.heap[m]? =some (.map es since)/\ ¬B m/\iR es since/\(∃l',l'.Perm l/\aH B w l' (es.toList.filter fun e=> !seen.contains e.born))/\
  ∀k x,last=some (k,x)->∃e∈es.toList,seen.back?=some e.born/\D.den B w k e.key/\D.den B w x e.val
def aM(M:Nat->Prop)(φ:Place)(H:Hp)(w:World)(id:Nat):Prop:=
 match H.o id with
 | .no=>True
 | .row cs=>∃b dG ty,φ id= .pointer (some ⟨b,0,none⟩)/\w.heap[b]? =some (.cells dG ty (0,0))/\V.az (ak M φ H) φ H w cs dG.toList/\Flat dG.toList
 | .arr _ ty sz es=>0<sz/\∃xs,w.ownsRow 0 ty sz (φ id) es.length xs/\fu (ak M φ H) w sz es xs
 | .rz _ es=>D.den (ak M φ H) w (.sl es) (φ id)
 | .loop nf n env ps jn fl st FU=>∃b r,φ id= .pointer (some ⟨b,0,none⟩)/\w.heap[b]? =some (.loop r)/\r.fn<nf/\r.state=st/\r.pending=FU.map jL.code/\r.params.toList=ps/\r.tmps.size=n/\low n r.assign=jn/\low n r.body=fl/\
  ∀i,V.den (ak M φ H) φ H w (a7 env i) (r.tmps.getD i undef)
 | .map _ _ l=>∃b es clock,φ id= .map (some b)/\w.heap[b]? =some (.map es clock)/\iR es clock/\aH (ak M φ H) w l es.toList
 | .gH l=>D.den (ak M φ H) w (.mp (l.map (·.1)) (l.map (·.2))) (φ id)
 | .oh l last=>∃b,φ id= .pointer (some ⟨b,0,none⟩)/\xH (ak M φ H) w l last b
 | .xG s pos=>∃b,φ id= .pointer (some ⟨b,0,none⟩)/\w.heap[b]? =some (.stringIter ⟨⟨s⟩⟩ pos)
structure aw (M:Nat->Prop) (φ:Place) (H:Hp) (w:World):Prop where
 ok:∀id,aM M φ H w id
 fresh:∀id, ¬H.us id->H.o id= .no
 apart:∀i j b,(H.o i).live=true->(H.o j).live=true->de (φ i)=some b->de (φ j)=some b->i=j
 ours:∀b,cw φ H b-> ¬M b/\b<w.heap.size
 zH:∀b,M b->b<w.heap.size
structure dx (m:Nat->Prop) (w w':World):Prop where
 os:w'.os=w.os
 tape:w'.tape=w.tape
 output:w'.output=w.output
 size:w.heap.size<=w'.heap.size
 block:∀k,k<w.heap.size-> ¬m k->w'.heap[k]? =w.heap[k]?
structure dH (φ:Place) (H:Hp) (aC:Place) (H':Hp):Prop where
 us:∀id,H.us id->H'.us id
 row:∀id,H.us id->(H'.o id).b7=true->(H.o id).b7=true/\aC id=φ id
 ep:∀id e',H.us id->(H'.o id).bX=some e'->∃e,(H.o id).bX=some e/\e<=e'/\(e=e'->aC id=φ id)
structure Trans (φ:Place) (H:Hp) (w:World) (aC:Place) (H':Hp) (w':World):Prop where
 keep:dx (cw φ H) w w'
 grow:∀b,cw aC H' b->cw φ H b\/w.heap.size<=b
 rel:dH φ H aC H'
theorem dx.refl (m:Nat->Prop)(w:World):dx m w w:=⟨rfl,rfl,rfl,Nat.le_refl _,fun _ _ _=>rfl⟩
theorem dH.refl (φ:Place)(H:Hp):dH φ H φ H:=⟨fun _ h=>h,fun _ _ h=>⟨h,rfl⟩,fun _ e' _ h=>⟨e',h,Nat.le_refl _,fun _=>rfl⟩⟩
theorem Trans.refl (φ:Place)(H:Hp)(w:World):Trans φ H w φ H w:=⟨dx.refl _ _,fun _ h=> .inl h,dH.refl _ _⟩
theorem dH.trans {φ aC CA:Place}{H H' XW:Hp}(h:dH φ H aC H')(k:dH aC H' CA XW):dH φ H CA XW where
 us id au:=k.us id (h.us id au)
 row id au hr:=by
  obtain⟨a,b⟩:=k.row id (h.us id au) hr
  obtain⟨c,d⟩:=h.row id au a
  exact⟨c,b.trans d⟩
 ep id e' au he:=by
  obtain⟨e,h1,h2,h3⟩:=k.ep id e' (h.us id au) he
  obtain⟨e0,g1,g2,g3⟩:=h.ep id e au h1
  refine⟨e0,g1,Nat.le_trans g2 h2,fun heq=> ?_⟩
  have a:e0=e:=ae
  have b:e=e':=ae
  exact(h3 b).trans (g3 a)
theorem Trans.trans {φ aC CA:Place}{H H' XW:Hp}{w w' Rx:World}(h:Trans φ H w aC H' w')(k:Trans aC H' w' CA XW Rx):Trans φ H w CA XW Rx where
 keep:={
  os:=k.keep.os.trans h.keep.os
  tape:=k.keep.tape.trans h.keep.tape
  output:=k.keep.output.trans h.keep.output
  size:=Nat.le_trans h.keep.size k.keep.size
  block:=fun b hb hm=>by
   rw[k.keep.block b (Nat.lt_of_lt_of_le hb h.keep.size) (fun hl=>by
    rcases h.grow b hl with h1|h1
    ·exact hm h1
    ·omega),h.keep.block b hb hm]}
 grow b hl:=by
  rcases k.grow b hl with h1|h1
  ·exact h.grow b h1
  ·exact .inr (Nat.le_trans h.keep.size h1)
 rel:=h.rel.trans k.rel
@[simp] theorem Vl (a:Addr) (j:Nat):(a.add j).block=a.block:=by unfold Addr.add;split<;>rfl
def o7(w:World)(b:Nat):Prop:=∃cs ty fz,w.heap[b]? =some (.cells cs ty fz)
def cS(w:World)(b:Nat):Prop:=o7 w b\/∃es clock,w.heap[b]? =some (.map es clock)
theorem cS.lt {w:World}{b:Nat}(h:cS w b):b<w.heap.size:=by
 rcases Nat.lt_or_ge b w.heap.size with hl|hl
 ·exact hl
 ·rcases h with⟨cs,ty,fz,h⟩|⟨es,clock,h⟩
  ·rw[Array.getElem?_eq_none hl]at h;cases h
  ·rw[Array.getElem?_eq_none hl]at h;cases h
theorem nR{w:World}{a:Addr}{u:Value}(h:w.cell? a=some u):o7 w a.block:=by
 unfold World.cell? at h
 split at h
 ·exact⟨_,_,_,by assumption⟩
 ·cases h
theorem si{w:World}{a:Addr}{u:Value}(h:w.cell? a=some u):cS w a.block:= .inl (nR h)
theorem fW.mono {B B':Nat->Prop}{w w':World}{a:Addr}{cs:Array Value}
 (hb:∀b,cS w b-> ¬B b->w'.heap[b]? =w.heap[b]? /\ ¬B' b) (h:fW B w a cs):fW B' w' a cs:=by
 intro j u hj
 obtain⟨h1,h2⟩:=h j u hj
 have cm:cS w a.block:=by simpa using si h1
 exact XE
mutual
theorem D.aK {B B':Nat->Prop}{w w':World}(hb:∀b,cS w b-> ¬B b->w'.heap[b]? =w.heap[b]? /\ ¬B' b):
 ∀ (x:D) (v:Value),D.den B w x v->D.den B' w' x v
 | .int _ _,_,h| .bool _,_,h| .str _,_,h| .gA,_,h| .lY,_,h| .bZ,_,h| .hZ,_,h=>by simpa[D.den]using h
 | .agg cs,_,h=>by
   obtain⟨a,rfl,h,hf⟩:=h
   exact⟨a,rfl,D.aN hb cs _ h,hf⟩
 | .sl es,_,h=>by
   obtain⟨base,len,cap,rfl,h1,h2,h3,sz,h4⟩:=h
   exact⟨base,len,cap,rfl,h1,h2,h3,sz,fun a ha=>⟨(h4 a ha).1,D.tn hb sz a es 0 (h4 a ha).2⟩⟩
 | .iface t d,_,h=>by
   obtain⟨u,rfl,h⟩:=h
   exact⟨u,rfl,D.aK hb d u h⟩
 | .mp ks vs,_,h=>by
   obtain⟨m,es,clock,p,rfl,h1,h2,h3,hp,h4,h5⟩:=h
   obtain⟨k1,k2⟩:=hb m (.inr ⟨es,clock,h1⟩) h2
   exact⟨m,es,clock,p,rfl,k1.trans h1,k2,h3,hp,D.aN hb ks _ h4,D.aN hb vs _ h5⟩
theorem D.aN {B B':Nat->Prop}{w w':World}(hb:∀b,cS w b-> ¬B b->w'.heap[b]? =w.heap[b]? /\ ¬B' b):
 ∀ (ds:List D) (vs:List Value),D.az B w ds vs->D.az B' w' ds vs
 |[],_,h=>h
 |d::ds,_,h=>by
  obtain⟨u,us,rfl,h1,h2⟩:=h
  exact⟨u,us,rfl,D.aK hb d u h1,D.aN hb ds us h2⟩
theorem D.tn {B B':Nat->Prop}{w w':World}(hb:∀b,cS w b-> ¬B b->w'.heap[b]? =w.heap[b]? /\ ¬B' b)(sz:Nat)(a:Addr):
 ∀ (es:List D) (i:Nat),D.elems B w sz a i es->D.elems B' w' sz a i es
 |[],_,_=>trivial
 |e::es,i,h=>by
  obtain⟨⟨ev,h1,h2,h3⟩,h4⟩:=h
  exact⟨⟨ev,h1,h2.mono hb,D.aK hb e ev h3⟩,D.tn hb sz a es (i+1) h4⟩
end
theorem aH.mono {B B':Nat->Prop}{w w':World}(hb:∀b,cS w b-> ¬B b->w'.heap[b]? =w.heap[b]? /\ ¬B' b):
 ∀ (l:List (D×D)) (es:List MapEntry),aH B w l es->aH B' w' l es
 |[],_,h=>h
 |(k,x)::l,_,h=>by
  obtain⟨e,es,rfl,h1,h2,h3⟩:=h
  exact⟨e,es,rfl,D.aK hb k _ h1,D.aK hb x _ h2,aH.mono hb l es h3⟩
theorem xH.mono {B B':Nat->Prop}{w w':World}(hb:∀b,cS w b-> ¬B b->w'.heap[b]? =w.heap[b]? /\ ¬B' b){l:List (D×D)}{last:Option (D×D)}{b:Nat}(hbb:w'.heap[b]? =w.heap[b]?)(h:xH B w l last b):xH B' w' l last b:=by
 rcases h with⟨h1,h2⟩|⟨m,since,seen,es,h1,h2,h3,h4,h5,h6⟩
 ·exact .inl ⟨hbb.trans h1,h2⟩
 ·obtain⟨k1,k2⟩:=hb m (.inr ⟨es,since,h2⟩) h3
  obtain⟨l',h5,zI⟩:=h5
  refine .inr ⟨m,since,seen,es,hbb.trans h1,k1.trans h2,k2,h4,⟨l',h5,aH.mono hb l' _ zI⟩,fun k x e=> ?_⟩
  obtain⟨e,g1,g2,g3,g4⟩:=h6 k x e
  exact⟨e,g1,g2,D.aK hb k _ g3,D.aK hb x _ g4⟩
theorem kL{B:Nat->Prop}{w:World}:∀ (l:List (D×D)) (es:List MapEntry),aH B w l es↔D.az B w (l.map (·.1)) (es.map (·.key))/\D.az B w (l.map (·.2)) (es.map (·.val))
 |[],es=>by
  simp only[aH,List.map_nil,D.az]
  constructor
  ·rintro rfl;exact⟨rfl,rfl⟩
  ·rintro⟨h,_⟩;simpa using h
 |(k,x)::l,es=>by
  simp only[aH,List.map_cons,D.az]
  constructor
  ·rintro⟨e,es',rfl,h1,h2,h3⟩
   obtain⟨g1,g2⟩:=(kL l es').1 h3
   exact⟨⟨_,_,rfl,h1,g1⟩,⟨_,_,rfl,h2,g2⟩⟩
  ·rintro⟨⟨u,us,h1,h2,h3⟩,⟨v,vs,h4,h5,h6⟩⟩
   cases es with
   |nil=>simp at h1
   |cons e es'=>
    simp only[List.map_cons,List.cons.injEq]at h1 h4
    obtain⟨rfl,rfl⟩:=h1
    obtain⟨rfl,rfl⟩:=h4
    exact⟨e,es',rfl,h2,h5,(kL l es').2 ⟨h3,h6⟩⟩
theorem D.ax {B:Nat->Prop}{w:World}:∀ (ds:List D) (vs:List Value),D.az B w ds vs->vs.length=ds.length
 |[],_,h=>by simp[D.az]at h;simp[h]
 |d::ds,_,h=>by obtain⟨u,us,rfl,_,h2⟩:=h;simp[D.ax ds us h2]
theorem D.dm {B:Nat->Prop}{w:World}:∀ (ds:List D) (vs:List Value) (i:Nat) (d:D),D.az B w ds vs->ds[i]? =some d->∃v,vs[i]? =some v/\D.den B w d v
 |[],_,_,_,_,hd=>by simp at hd
 |d::ds,_,0,x,h,hd=>by
  exact OP
 |d::ds,_,i+1,x,h,hd=>by
  obtain⟨u,us,rfl,_,h2⟩:=h
  simpa using D.dm ds us i x h2 (by simpa using hd)
theorem D.vY {B:Nat->Prop}{w:World}{sz:Nat}{a:Addr}:∀ (es:List D) (i j:Nat) (e:D),D.elems B w sz a i es->es[j]? =some e->
 ∃ev:Value,ev.cells.size=sz/\fW B w (a.add ((i+j)*sz)) ev.cells/\D.den B w e ev
 |[],_,_,_,_,hd=>by simp at hd
 |e::es,i,0,x,h,hd=>by
  simp at hd;subst hd;simpa using h.1
 |e::es,i,j+1,x,h,hd=>by
  have:=D.vY es (i+1) j x h.2 (by simpa using hd)
  simpa[Nat.add_assoc,Nat.add_comm 1 j]using this
section
variable {M:Nat->Prop}{φ aC:Place}{H H':Hp}{w w':World}
theorem Trans.blocks (ht:Trans φ H w aC H' w')(b:Nat)(hc:cS w b)(h: ¬ak M φ H b):w'.heap[b]? =w.heap[b]? /\ ¬ak M aC H' b:=by
 have hb:=hc.lt
 refine⟨ht.keep.block b hb fun hl=>h (.inr hl), ?_⟩
 rintro(h1|h1)
 ·exact h (.inl h1)
 ·rcases ht.grow b h1 with h2|h2
  ·exact h (.inr h2)
  ·omega
mutual
theorem V.kM (hb:∀b,cS w b-> ¬ak M φ H b->w'.heap[b]? =w.heap[b]? /\ ¬ak M aC H' b)(hr:dH φ H aC H'):∀ (x:V) (v:Value),V.den (ak M φ H) φ H w x v->V.den (ak M aC H') aC H' w' x v
 | .d x,v,h=>D.aK hb x v h
 | .bu,_,h=>h
 | .aa,_,_=>trivial
 | .qn es,v,h=>⟨D.aK hb (.sl es) v h.1,h.2⟩
 | .vX id off n,v,h=>by
   exact Ry
 | .mp id,v,h=>by
   obtain⟨h0,h1,h2⟩:=h
   refine⟨h0,hr.us id h1,fun bE=> ?_⟩
   obtain⟨h3,h4⟩:=hr.row id h1 bE
   exact(h2 h3).trans h4.symm
 | .eW,v,h=>h
 | .iW id,v,h=>by
   exact Ry
 | .agg cs,_,h=>by obtain⟨a,rfl,h,hf⟩:=h;exact⟨a,rfl,V.fw hb hr cs _ h,hf⟩
 | .bT cs,_,h=>by obtain⟨a,rfl,h⟩:=h;exact⟨a,rfl,V.fw hb hr cs _ h⟩
 | .ptr id off,v,h=>by
   exact Ry
 | .osl id ep,v,h=>by
   exact Xs
 | .pe id ep i sz off,v,h=>by
   exact Xs
 | .pp cs off,v,h=>by
   obtain⟨a,ev,h1,h2,h3,h5,h4⟩:=h
   exact⟨a,ev,h1,h2,D.aN hb cs ev h3,h5,h4.mono hb⟩
 | .func fn first cap,_,h=>by
   obtain⟨f,c,rfl,h1,h2⟩:=h
   exact⟨f,c,rfl,V.fw hb hr first _ h1,V.fw hb hr cap _ h2⟩
 | .iface t x,_,h=>by obtain⟨u,rfl,h⟩:=h;exact⟨u,rfl,V.kM hb hr x u h⟩
theorem V.fw (hb:∀b,cS w b-> ¬ak M φ H b->w'.heap[b]? =w.heap[b]? /\ ¬ak M aC H' b)(hr:dH φ H aC H'):∀ (ds:List V) (vs:List Value),V.az (ak M φ H) φ H w ds vs->V.az (ak M aC H') aC H' w' ds vs
 |[],_,h=>h
 |x::xs,_,h=>by
  obtain⟨u,us,rfl,h1,h2⟩:=h
  exact⟨u,us,rfl,V.kM hb hr x u h1,V.fw hb hr xs us h2⟩
end
theorem V.aK (ht:Trans φ H w aC H' w')(x:V)(v:Value)(h:V.den (ak M φ H) φ H w x v):V.den (ak M aC H') aC H' w' x v:=V.kM ht.blocks ht.rel x v h
theorem V.aN (ht:Trans φ H w aC H' w')(ds:List V)(vs:List Value)(h:V.az (ak M φ H) φ H w ds vs):V.az (ak M aC H') aC H' w' ds vs:=V.fw ht.blocks ht.rel ds vs h
end
end
end Go.Proofs.YtnkamdiiakdkgaaGreat
