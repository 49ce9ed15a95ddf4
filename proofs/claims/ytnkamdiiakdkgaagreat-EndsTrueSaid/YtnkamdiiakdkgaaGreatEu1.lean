/-
  A PART OF THE PROOF. Conditions: none.
-/
import Derived.WalkKit
import Derived.Below
set_option linter.unusedSimpArgs false
set_option linter.unusedVariables false
namespace Go.Proofs.YtnkamdiiakdkgaaGreat
theorem br{G G':Prop}(g:G')(h:G=G':=by simp+contextual (disch:=first|omega|simp only[go_sem,false_implies]) only[go_sem,wrap64,if_pos,and_self]<;>rfl):G:=Eq.mpr h g
theorem gk{P0 G G':Prop}(p0:P0)(g:G')(h:P0->G=G':=by intro p0;simp+contextual (disch:=first|omega|simp only[go_sem,false_implies]) only[go_sem,wrap64,if_pos,p0]<;>rfl):G:=Eq.mpr (h p0) g
theorem qP{G G':Prop}(g:G')(h:G=G':=by simp+contextual (disch:=first|omega|simp only[go_sem,false_implies]) only[go_sem,wrap64,if_pos,Nat.add_assoc,Nat.left_eq_add,Nat.add_eq_left,Nat.add_left_cancel_iff]<;>rfl):G:=Eq.mpr h g
theorem lM{P0 G G':Prop}(p0:P0)(g:G')(h:P0->G=G':=by intro p0;simp+contextual (disch:=first|omega|simp only[go_sem,false_implies]) only[go_sem,wrap64,if_pos,List.length_map,p0]<;>rfl):G:=Eq.mpr (h p0) g
theorem lN{G G':Prop}(g:G')(h:G=G':=by simp+contextual (disch:=first|omega|simp only[go_sem,false_implies]) only[go_sem,wrap64,if_pos,List.length_map]<;>rfl):G:=Eq.mpr h g
theorem pW{G:Prop}(h:G:=by simp+contextual (disch:=first|omega|simp only[go_sem,false_implies]) only[go_sem,wrap64,if_pos,and_self]):G:=h
theorem cj{G G':Prop}(g:G')(h:G=G':=by simp+contextual only[go_sem]<;>rfl):G:=Eq.mpr h g
theorem BO{P0 P1 G G':Prop}(p0:P0)(p1:P1)(g:G')(h:P0->P1->G=G':=by intro p0 p1;simp+contextual (disch:=first|omega|simp only[go_sem,false_implies]) only[go_sem,wrap64,if_pos,List.length_map,p0,p1]<;>rfl):G:=Eq.mpr (h p0 p1) g
theorem VO{P0 P1 G G':Prop}(p0:P0)(p1:P1)(g:G')(h:P0->P1->G=G':=by intro p0 p1;simp+contextual (disch:=first|omega|simp only[go_sem,false_implies]) only[go_sem,wrap64,if_pos,Nat.add_assoc,Nat.left_eq_add,Nat.add_eq_left,Nat.add_left_cancel_iff,List.length_map,p0,p1]<;>rfl):G:=Eq.mpr (h p0 p1) g
theorem G8{P0 P1 G G':Prop}(p0:P0)(p1:P1)(g:G')(h:P0->P1->G=G':=by intro p0 p1;simp+contextual (disch:=first|omega|simp only[go_sem,false_implies]) only[go_sem,wrap64,if_pos,p0,p1]<;>rfl):G:=Eq.mpr (h p0 p1) g
theorem wY{P0 G:Prop}(p0:P0)(h:P0->G:=by intro p0;simp+contextual (disch:=first|omega|simp only[go_sem,false_implies]) only[go_sem,wrap64,if_pos,p0]):G:=h p0
theorem BP{G G':Prop}(g:G')(h:G=G':=by simp+contextual (disch:=first|omega|simp only[go_sem,false_implies]) only[go_sem,wrap64,if_pos,nq]<;>rfl):G:=Eq.mpr h g
theorem Lj{P0 G G':Prop}(p0:P0)(g:G')(h:P0->G=G':=by intro p0;simp+contextual (disch:=first|omega|simp only[go_sem,false_implies]) only[go_sem,wrap64,if_pos,Nat.add_assoc,Nat.left_eq_add,Nat.add_eq_left,Nat.add_left_cancel_iff,p0]<;>rfl):G:=Eq.mpr (h p0) g
theorem BQ{P0 P1 P2 G G':Prop}(p0:P0)(p1:P1)(p2:P2)(g:G')(h:P0->P1->P2->G=G':=by intro p0 p1 p2;simp+contextual (disch:=first|omega|simp only[go_sem,false_implies]) only[go_sem,wrap64,if_pos,p0,p1,p2]<;>rfl):G:=Eq.mpr (h p0 p1 p2) g
theorem QD{P0 P1 P2 P3 P4 G G':Prop}(p0:P0)(p1:P1)(p2:P2)(p3:P3)(p4:P4)(g:G')(h:P0->P1->P2->P3->P4->G=G':=by intro p0 p1 p2 p3 p4;simp+contextual (disch:=first|omega|simp only[go_sem,false_implies]) only[go_sem,wrap64,if_pos,List.take_length,List.length_map,List.length_take,List.length_drop,List.length_append,List.length_cons,List.length_nil,p0,p1,p2,p3,p4]<;>rfl):G:=Eq.mpr (h p0 p1 p2 p3 p4) g
theorem QE{P0 P1 P2 G G':Prop}(p0:P0)(p1:P1)(p2:P2)(g:G')(h:P0->P1->P2->G=G':=by intro p0 p1 p2;simp+contextual (disch:=first|omega|simp only[go_sem,false_implies]) only[go_sem,wrap64,if_pos,List.take_length,List.length_map,List.length_take,List.length_drop,List.length_append,List.length_cons,List.length_nil,p0,p1,p2]<;>rfl):G:=Eq.mpr (h p0 p1 p2) g
theorem G9{P0 P1 P2 G G':Prop}(p0:P0)(p1:P1)(p2:P2)(g:G')(h:P0->P1->P2->G=G':=by intro p0 p1 p2;simp+contextual (disch:=first|omega|simp only[go_sem,false_implies]) only[go_sem,wrap64,if_pos,List.length_map,p0,p1,p2]<;>rfl):G:=Eq.mpr (h p0 p1 p2) g
theorem QF{G G':Prop}(g:G')(h:G=G':=by simp+contextual (disch:=first|omega|simp only[go_sem,false_implies]) only[go_sem,wrap64,if_pos,Nat.add_assoc,Nat.left_eq_add,Nat.add_eq_left,Nat.add_left_cancel_iff,List.length_map]<;>rfl):G:=Eq.mpr h g
theorem QG{P0 P1 P2 G G':Prop}(p0:P0)(p1:P1)(p2:P2)(g:G')(h:P0->P1->P2->G=G':=by intro p0 p1 p2;simp+contextual (disch:=first|omega|simp only[go_sem,false_implies]) only[go_sem,wrap64,if_pos,Nat.add_assoc,Nat.left_eq_add,Nat.add_eq_left,Nat.add_left_cancel_iff,p0,p1,p2]<;>rfl):G:=Eq.mpr (h p0 p1 p2) g
theorem js{P0 G G':Prop}(p0:P0)(g:G')(h:P0->G=G':=by intro p0;simp+contextual only[go_sem,p0]<;>rfl):G:=Eq.mpr (h p0) g
theorem VP{P0 P1 P2 P3 P4 G G':Prop}(p0:P0)(p1:P1)(p2:P2)(p3:P3)(p4:P4)(g:G')(h:P0->P1->P2->P3->P4->G=G':=by intro p0 p1 p2 p3 p4;simp+contextual (disch:=first|omega|simp only[go_sem,false_implies]) only[go_sem,wrap64,if_pos,Nat.add_assoc,Nat.left_eq_add,Nat.add_eq_left,Nat.add_left_cancel_iff,List.length_map,hf,p0,p1,p2,p3,p4]<;>rfl):G:=Eq.mpr (h p0 p1 p2 p3 p4) g
theorem Lk{P0 G G':Prop}(p0:P0)(g:G')(h:P0->G=G':=by intro p0;simp+contextual only[go_sem,Nat.add_assoc,Nat.left_eq_add,Nat.add_eq_left,Nat.add_left_cancel_iff,p0]<;>rfl):G:=Eq.mpr (h p0) g
theorem VQ{P0 P1 P2 G G':Prop}(p0:P0)(p1:P1)(p2:P2)(g:G')(h:P0->P1->P2->G=G':=by intro p0 p1 p2;simp+contextual (disch:=first|omega|simp only[go_sem,false_implies]) only[go_sem,wrap64,if_pos,Nat.add_assoc,Nat.left_eq_add,Nat.add_eq_left,Nat.add_left_cancel_iff,wZ,p0,p1,p2]<;>rfl):G:=Eq.mpr (h p0 p1 p2) g
theorem VR{G G':Prop}(g:G')(h:G=G':=by simp+contextual (disch:=first|omega|simp only[go_sem,false_implies]) only[go_sem,wrap64,if_pos,Nat.add_assoc,Nat.left_eq_add,Nat.add_eq_left,Nat.add_left_cancel_iff,sb]<;>rfl):G:=Eq.mpr h g
theorem aa7{G G':Prop}(g:G')(h:G=G':=by simp+contextual (disch:=first|omega|simp only[go_sem,false_implies]) only[go_sem,wrap64,if_pos,nq,Nat.add_assoc,Nat.left_eq_add,Nat.add_eq_left,Nat.add_left_cancel_iff]<;>rfl):G:=Eq.mpr h g
theorem VS{P0 P1 G G':Prop}(p0:P0)(p1:P1)(g:G')(h:P0->P1->G=G':=by intro p0 p1;simp+contextual (disch:=first|omega|simp only[go_sem,false_implies]) only[go_sem,wrap64,if_pos,Nat.add_assoc,Nat.left_eq_add,Nat.add_eq_left,Nat.add_left_cancel_iff,p0,p1]<;>rfl):G:=Eq.mpr (h p0 p1) g
theorem QH{P0 P1 G:Prop}(p0:P0)(p1:P1)(h:P0->P1->G:=by intro p0 p1;simp+contextual (disch:=first|omega|simp only[go_sem,false_implies]) only[go_sem,wrap64,if_pos,List.length_map,p0,p1]):G:=h p0 p1
theorem QI{G:Prop}(h:G:=by simp+contextual (disch:=first|omega|simp only[go_sem,false_implies]) only[go_sem,wrap64,if_pos,List.length_map]):G:=h
theorem QJ{P0 G G':Prop}(p0:P0)(g:G')(h:P0->G=G':=by intro p0;simp+contextual (disch:=first|omega|simp only[go_sem,false_implies]) only[go_sem,wrap64,if_pos,k0,k2,p0]<;>rfl):G:=Eq.mpr (h p0) g
theorem QK{P0 P1 P2 G G':Prop}(p0:P0)(p1:P1)(p2:P2)(g:G')(h:P0->P1->P2->G=G':=by intro p0 p1 p2;simp+contextual only[go_sem,Nat.add_assoc,Nat.left_eq_add,Nat.add_eq_left,Nat.add_left_cancel_iff,p0,p1,p2]<;>rfl):G:=Eq.mpr (h p0 p1 p2) g
theorem VT{P0 P1 G G':Prop}(p0:P0)(p1:P1)(g:G')(h:P0->P1->G=G':=by intro p0 p1;simp+contextual (disch:=first|omega|simp only[go_sem,false_implies]) only[go_sem,wrap64,if_pos,List.length_map,k0,k2,p0,p1]<;>rfl):G:=Eq.mpr (h p0 p1) g
theorem VU{G G':Prop}(g:G')(h:G=G':=by simp+contextual only[go_sem,Ha,Nat.add_assoc,Nat.left_eq_add,Nat.add_eq_left,Nat.add_left_cancel_iff,List.replicate]<;>rfl):G:=Eq.mpr h g
theorem VV{P0 P1 G:Prop}(p0:P0)(p1:P1)(h:P0->P1->G:=by intro p0 p1;simp+contextual (disch:=first|omega|simp only[go_sem,false_implies]) only[go_sem,wrap64,if_pos,p0,p1]):G:=h p0 p1
theorem cE{P:Prop}(h:P:=by(repeat(first|exact E4|refine BR ?_|refine Dj rfl ?_|refine Dj (NK (NL (by omega))) ?_|refine Ll rfl (by simp[V.refs,V.aL]<;>first|omega|assumption) ?_))):P:=h
theorem eL{P:Prop}(h:P:=by repeat(first|exact hg.mono (by omega)|exact Good.nil|refine Good.aF ?_ (by omega) rfl|refine Good.aF ?_ (by omega) (vj _ _ _ (by omega))|refine Good.aF ?_ (by omega) (by simp[ab.refs,V.aL,V.refs]<;>omega))):P:=h
theorem ag{P:Prop}(h:P:=by kernel_rfl):P:=h
theorem ah{P:Prop}(h:P:=by omega):P:=h
theorem zy4{P:Prop}(h:P:=by simp[V.refs,V.aL]<;>first|omega|assumption):P:=h
theorem eY{P:Prop}(h:P:=by(repeat(first|rfl|rw[ae]|rw[ai _ _ _ _ (by omega)]))):P:=h
theorem E5{P:Prop}(h:P:=by(repeat(first|exact Hb|refine E6 ?_|refine Hc rfl ?_|refine Hc (NK (NL (by omega))) ?_|refine QL 0 rfl rfl rfl ?_|refine QM rfl (by simp[V.refs,V.aL]<;>first|omega|assumption) ?_|refine QN rfl (by simp[V.ids]<;>omega) ?_))):P:=h
theorem zy7{P:Prop}(h:P:=by simp[ab.refs,V.aL,V.refs]<;>omega):P:=h
theorem aI{P:Prop}(h:P:=by simp):P:=h
theorem UB{P:Prop}(h:P:=by simp only[aF]<;>((repeat' split)<;>first|rfl|omega|(subst_vars;first|rfl|assumption|(symm;assumption)|omega|(simp_all;done)))):P:=h
theorem BS{P:Prop}(h:P:=by rintro⟨h1,h2⟩;first|(cases h1;done)|(cases h2;done)):P:=h
theorem im{P:Prop}(h:P:=by simpa[execOp,gr]using this):P:=h
theorem uP{P:Prop}(h:P:=by cases rs with|nil=>exact ho.elim|cons x l=>cases l<;>exact ho.elim):P:=h
theorem Hd{P:Prop}(h:P:=by simp+contextual (disch:=first|omega|simp only[go_sem,false_implies]) only[go_sem,wrap64,if_pos,and_self];simp[nq]):P:=h
theorem Lm{P:Prop}(h:P:=by exact(by simp only[aF]<;>((repeat' split)<;>first|rfl|omega|(subst_vars;first|rfl|assumption|(symm;assumption)|omega|(simp_all;done))))):P:=h
theorem He{P:Prop}(h:P:=by exact⟨_,na,iP,hq, .of_steps (.one h0 stepR_seq) (.pass (x:= .code y) rfl (fun _ _=> .inl (by simp)) cR)⟩):P:=h
theorem ee{P:Prop}(h:P:=by rw[ho];rfl):P:=h
theorem QO{P:Prop}(h:P:=by exact⟨false, .inl rfl,rfl,iQ (fun _ _ h=>by cases h.1) (by rintro⟨h1,h2⟩;first|(cases h1;done)|(cases h2;done)),eq _ (fun d=>by rw[VW w d ht])⟩):P:=h
theorem E7{P:Prop}(h:P:=by(repeat(first|exact E8|refine BT ?_|refine Ln rfl ?_))):P:=h
theorem E9{P:Prop}(h:P:=by subst e;(repeat(first|rfl|rw[ae]|rw[ai _ _ _ _ (by omega)]))):P:=h
theorem cG{P:Prop}(h:P:=by decide):P:=h
theorem pX{P:Prop}(h:P:=by simp[ab.refs,V.aL,V.refs]):P:=h
theorem VX{P:Prop}(h:P:=by exact⟨_,_,_,_,_,_,_,hK,by simp[Instr.range,run_underlying ht,pY], .inl rfl,n1,n2,⟨rfl,by simp,fun _=>⟨w.heap.size,by simp,rfl⟩⟩,fun j hj=> .inr (by simpa using hj)⟩):P:=h
theorem nb{P:Prop}(h:P:=by dsimp only;omega):P:=h
theorem VY{P:Prop}(h:P:=by exact⟨_,_,_,_,_,_,_,hK,by simp[Instr.range,run_underlying ht], .inl rfl,n1,n2,⟨rfl,by simp,fun _=>⟨w.heap.size,by simp,rfl⟩⟩,fun j hj=> .inr (by simpa using hj)⟩):P:=h
theorem lO{P:Prop}(h:P:=by simpa using hj):P:=h
theorem w6{P:Prop}(h:P:=by simp[Op.equalIn,run_underlying ht]):P:=h
theorem oq{P:Prop}(h:P:=by simp[V.aL,V.refs]):P:=h
theorem Lo{P:Prop}(h:P:=by unfold K5;(repeat(first|rfl|rw[ae]|rw[ai _ _ _ _ (by omega)]))):P:=h
theorem aa8{P:Prop}(h:P:=by exact⟨false, .inl rfl,rfl,iQ (fun _ _ h=>by cases h.1) (by rintro⟨h1,h2⟩;first|(cases h1;done)|(cases h2;done)),eq _ (fun d=>by rw[VZ w d ht])⟩):P:=h
theorem aa9{P:Prop}(h:P:=by exact⟨false, .inl rfl,rfl,iQ (fun _ _ h=>by cases h.1) (by rintro⟨h1,h2⟩;first|(cases h1;done)|(cases h2;done)),eq _ (fun d=>by rw[V0 w d ht])⟩):P:=h
theorem V1{P:Prop}(h:P:=by exact⟨false, .inl rfl,rfl,iQ (fun _ _ h=>by cases h.1) (by rintro⟨h1,h2⟩;first|(cases h1;done)|(cases h2;done)),eq _ (fun d=>by rw[V2 w d ht])⟩):P:=h
theorem adw{P:Prop}(h:P:=by simp[V.ids]<;>omega):P:=h
theorem V3{P:Prop}(h:P:=by exact⟨a,ev,h1,h2,D.aP (w:=w) (w':=w) (fun b _ hn=>⟨rfl,hB b hn⟩) cs ev h3,h5,h4.mono (w:=w) (w':=w) (fun b _ hn=>⟨rfl,hB b hn⟩)⟩):P:=h
theorem V4{P:Prop}(h:P:=by exact .inl ⟨_,_,_, .inr ⟨c,f,g,first,cap,hc,eB,hf, .inr (.inl ⟨rs,hH,rfl,fun id au=>by simpa using List.all_eq_true.1 nd id au⟩)⟩,h⟩):P:=h
theorem V5{P:Prop}(h:P:=by exact .inl ⟨_,_,_, .inr ⟨c,f,g,first,cap,hc,eB,hf, .inr (.inr (.inr ⟨hH,fun id au=>by simpa using List.all_eq_true.1 nd id au⟩))⟩,h⟩):P:=h
theorem V6{P:Prop}(h:P:=by exact cu.same hH _ hK (by simp only[Sem.run_bind,hr,Result.andThen_ok];rfl) ⟨_,rfl,zv,[.bool false],rfl,r2, .bool false,[],rfl,rfl,rfl⟩):P:=h
theorem V7{P:Prop}(h:P:=by exact .inr ⟨_,_,_,⟨c,f,g,first,cap,hc,eB,hf, .inr ⟨x,Δ,hH,rfl,rfl,fun id au=>by simpa using List.all_eq_true.1 nd id au⟩⟩,h⟩):P:=h
theorem Hf{P:Prop}(h:P:=by rw[hold id (by omega) (by omega),BU id (by omega) au]):P:=h
theorem Hg{P:Prop}(h:P:=by rw[m2.eq id (by omega)];unfold ext;rw[if_pos au]):P:=h
theorem nG{P:Prop}(h:P:=by simp[nr,au]):P:=h
theorem QP{P:Prop}(h:P:=by rw[p3 id (by omega) (by omega),cO id (by omega) (by omega),BU id (by omega) au]):P:=h
theorem V8{P:Prop}(h:P:=by exact(uQ.aF (i:=nx'+3) (m:=nx'+7) (by omega) (by omega) (by omega) rfl).aF (by omega) (by omega) (by omega) rfl):P:=h
theorem QQ{P:Prop}(h:P:=by subst e2;(repeat(first|rfl|rw[ae]|rw[ai _ _ _ _ (by omega)]))):P:=h
theorem QR{P:Prop}(h:P:=by subst ec;(repeat(first|rfl|rw[ae]|rw[ai _ _ _ _ (by omega)]))):P:=h
theorem V9{P:Prop}(h:P:=by unfold ou Fa;rw[if_neg h4,if_pos h6];(repeat(first|rfl|rw[ae]|rw[ai _ _ _ _ (by omega)]));simp):P:=h
theorem aba{P:Prop}(h:P:=by exact⟨b,r,k1,k2,k3,k4,k5,k6,k7,k8,k9,fun i=>dH _ _ (fun r hr=>hrefs r (V.vl _ _ r hr)) (k10 i)⟩):P:=h
theorem Wa{P:Prop}(h:P:=by exact sG (y:=B j) (ho j hj e1) (Dk B e1 (by omega) ds ty sz _) (dg rfl (fun q hq=>hg.refs j q hq))):P:=h
theorem Lp{P:Prop}(h:P:=by simpa[execOp,gr,resolve,invoke,builtin]using this):P:=h
theorem Lq{P:Prop}(h:P:=by exact D.aM (fun b _ hn=>⟨rfl,hB b hn⟩) _ _ bc):P:=h
theorem Wb{P:Prop}(h:P:=by exact hK _ _ (by omega) (m2.mono (by omega)) fun id i1 i2=>by rw[m3 id i1 (by omega),ai _ _ _ _ (by omega)]):P:=h
theorem Wc{P:Prop}(h:P:=by exact⟨fo Fb.1,fo Fb.2,fun id au=>⟨dj vm.1.1 id au,dj vm.1.2 id au⟩,fun id au=>dj vm.2 id au⟩):P:=h
theorem Wd{P:Prop}(h:P:=by unfold lP;rw[if_pos h5];(repeat(first|rfl|rw[ae]|rw[ai _ _ _ _ (by omega)]));simp):P:=h
theorem We{P:Prop}(h:P:=by simp only[Sem.run_bind,hr,Result.andThen_ok];rfl):P:=h
theorem Wf{P:Prop}(h:P:=by exact⟨t,by simp only[Hh,if_neg h1],hv,rfl,fun h=>absurd h h1,fun _=>rfl,fun h=>absurd h h1⟩):P:=h
theorem QS{P:Prop}(h:P:=by rw[ai _ _ _ _ sH,Fc _ _ (by omega)];exact h0 id (by omega)):P:=h
theorem Wg{P:Prop}(h:P:=by exact fin _ [] (fun b hb=>by cases hb) dw (World.ownsRow_nil w' 0 ty sz) ⟨[],rfl,by simp,rfl⟩ rfl):P:=h
theorem abb{P:Prop}(h:P:=by exact hK _ _ (by omega) (m2.mono (by omega)) fun id i1 i2=>(m3 id i1 (by omega)).trans (cO id i1 i2)):P:=h
theorem Wh{P:Prop}(h:P:=by exact hK _ _ (by omega) (uQ.mono (by omega)) cO):P:=h
theorem QT{P:Prop}(h:P:=by exact yQ hL k3 (key _ _ _ (by rw[hj];rfl) (QU _ _ hj))):P:=h
theorem Wi{P:Prop}(h:P:=by simp only[Op.operands,Call.operands];exact Array.mem_append.2 (.inr (Array.mem_toList_iff.1 hx))):P:=h
theorem Wj{P:Prop}(h:P:=by rw[hn,hI,BV hx];rfl):P:=h
theorem QV{P:Prop}(h:P:=by exact BW hL k3 (key _ _ _ (by rw[hj];rfl) (QU _ _ hj))):P:=h
theorem abc{P:Prop}(h:P:=by exact Hi hu cO (fun id h=> .inl (by rw[jN]at h;exact h)) g1.symm g3 oi (j8 rfl)):P:=h
theorem QW{P:Prop}(h:P:=by exact(hg.mono (by omega)).aF (by omega) (vj _ _ _ (by omega))):P:=h
theorem Hj{P:Prop}(h:P:=by injection h with h;subst h;exact hK):P:=h
theorem Wk{P:Prop}(h:P:=by simp only[h1,cK,Option.map_some];exact hK):P:=h
theorem Wl{P:Prop}(h:P:=by exact⟨k1,yU.tr.trans k2,yU.size,yU.defers.mono k2,fun j=>V.aM k2 _ _ (yU.env j)⟩):P:=h
theorem Wm{P:Prop}(h:P:=by rw[ai _ _ _ _ e,ai _ _ _ _ e,ai _ _ _ _ (by omega),hI.eq j hj,ai _ _ _ _ e]):P:=h
theorem ow{P:Prop}(h:P:=by simp;omega):P:=h
theorem QX{P:Prop}(h:P:=by exact Fe hL k3 (key _ _ _ (by rw[hj];rfl) (K6 _ hj))):P:=h
theorem ng{P:Prop}(h:P:=by simp[hx]):P:=h
theorem Lr{P:Prop}(h:P:=by exact V.aM (ht.trans k2) _ _ (hs.env i)):P:=h
theorem yV{P:Prop}(h:P:=by simp[V.refs]):P:=h
theorem abd{P:Prop}(h:P:=by exact⟨k1,hs.tr.trans k2,hs.size,hs.defers.mono k2,fun j=>V.aM k2 _ _ (hs.env j)⟩):P:=h
theorem Wn{P:Prop}(h:P:=by rw[m3 id h2 (by omega),ai _ _ _ _ (by omega),ai _ _ _ _ (by omega),cO id h2 h3]):P:=h
theorem Wo{P:Prop}(h:P:=by exact hQ _ _ _ _ val k5 (ef hs k1 k2 (o':=o') (nx':=nx') rfl fun id hu=>hu) k4):P:=h
theorem QY{P:Prop}(h:P:=by exact⟨_,na,iP,hq, .of_steps (.one h0 stepR_block) cR⟩):P:=h
theorem QZ{P:Prop}(h:P:=by exact⟨_,na,iP,hq, .of_steps (.one h0 jy) cR⟩):P:=h
theorem Hk{P:Prop}(h:P:=by unfold eM;rw[Ls trivial]):P:=h
theorem Wp{P:Prop}(h:P:=by exact .inr (.inr (.inr (nu.mono (fun v o n h=>hK _ h) (fun v o n h=>hX _ _ h) h)))):P:=h
theorem nH{P:Prop}(h:P:=by simp[hy]):P:=h
theorem Q0{P:Prop}(h:P:=by rw[ai _ _ _ _ (by omega)];exact k4 id (by omega) g2):P:=h
theorem Wq{P:Prop}(h:P:=by rw[m2.eq id (by omega)];unfold ext;rw[if_neg (by omega),ai _ _ _ _ (by omega)]):P:=h
theorem Wr{P:Prop}(h:P:=by exact⟨none,0,0,rfl,rfl,Nat.le_refl _,fun _=>rfl,0,fun a ha=>by cases ha⟩):P:=h
theorem Ws{P:Prop}(h:P:=by exact⟨b,es',clock,k1,k2,k4,aK.mono (fun b _ hn=>⟨rfl,hB b hn⟩) _ _ k3⟩):P:=h
theorem Lt{P:Prop}(h:P:=by rw[show(hp o nx).o id=_ from ho];rfl):P:=h
theorem Wt{P:Prop}(h:P:=by exact fun k hk s' h1 h2=>yW _ (fun x hx=>aZ x (jt k hk x hx)) s' h1 h2):P:=h
theorem Q1{P:Prop}(h:P:=by injection h with h;subst h;exact⟨by assumption,hK⟩):P:=h
theorem Wu{P:Prop}(h:P:=by exact⟨k1,xs,k2,evs,k3,k4,D.aP (fun b _ hn=>⟨rfl,hB b hn⟩) _ _ k5⟩):P:=h
theorem Wv{P:Prop}(h:P:=by subst e23;(repeat(first|rfl|rw[ae]|rw[ai _ _ _ _ (by omega)]))):P:=h
theorem Ww{P:Prop}(h:P:=by subst ea;(repeat(first|rfl|rw[ae]|rw[ai _ _ _ _ (by omega)]))):P:=h
theorem Wx{P:Prop}(h:P:=by subst en;(repeat(first|rfl|rw[ae]|rw[ai _ _ _ _ (by omega)]))):P:=h
theorem Wy{P:Prop}(h:P:=by subst eo;(repeat(first|rfl|rw[ae]|rw[ai _ _ _ _ (by omega)]))):P:=h
theorem Wz{P:Prop}(h:P:=by exact hK _ _ (by omega) (m2.mono (by omega)) fun id i1 i2=>m3 id i1 (by omega)):P:=h
theorem WA{P:Prop}(h:P:=by exact hH.fresh j fun hu=>h (.inl hu)):P:=h
theorem abe{P:Prop}(h:P:=by exact⟨r, .inl rfl,by obtain⟨_,rfl,_⟩:=hx;rfl,fun op=>g2 op p q,g1⟩):P:=h
theorem Q2{P:Prop}(h:P:=by simp at h;obtain⟨rfl,rfl⟩:=h;exact⟨rfl,rfl⟩):P:=h
theorem WB{P:Prop}(h:P:=by exact hN _ _ _ (iR hs k1 k2 (lQ ho) cB rfl fun id hu=> .inl hu)):P:=h
theorem WC{P:Prop}(h:P:=by rw[List.drop_eq_getElem_cons h5,h6]):P:=h
theorem Hl{P:Prop}(h:P:=by rw[Fc _ _ (by omega)];exact k2.eq id (by omega)):P:=h
theorem NM{P:Prop}(h:P:=by exact⟨_,_,_,_,_,_,_,hK,by simp[hr], .inl rfl,h1,h2,h3,by simp⟩):P:=h
theorem WD{P:Prop}(h:P:=by simp only[a0,Array.size_append,Array.size_replicate];simp at hlen;omega):P:=h
theorem WE{P:Prop}(h:P:=by exact forall_congr' fun k=>forall_congr' fun hk=>by rw[ih k hk (d+1)]):P:=h
theorem NN{P:Prop}(h:P:=by exact(hI.aF (by omega) (by omega) (by omega) hr).ext (by omega) (by omega)):P:=h
theorem NO{P:Prop}(h:P:=by cases xv<;>first|(simp[NP]at hwd;done)|(cases yv<;>simp[he])):P:=h
theorem NQ{P:Prop}(h:P:=by exact⟨x,b.trans y,z⟩):P:=h
theorem vn{P:Prop}(h:P:=by simpa[V.refs]using hr):P:=h
theorem Hn{P:Prop}(h:P:=by unfold eC;rw[List.map_append,List.sum_append]):P:=h
theorem NR{P:Prop}(h:P:=by exact(Dk B (by omega) (by omega) ds ty sz _).trans (sc j (by omega))):P:=h
theorem NS{P:Prop}(h:P:=by rw[show(i*4+j)/4=i by omega,show(i*4+j)%4=j by omega]):P:=h
theorem Ho{P:Prop}(h:P:=by rw[nd];simp only[nr,eB,uR];exact au):P:=h
theorem NT{P:Prop}(h:P:=by injection hu with hu;injection hv with hv;subst hu;subst hv;exact h3):P:=h
theorem NU{P:Prop}(h:P:=by rw[rK];exact List.mem_cons_of_mem _ (List.mem_flatMap.2 ⟨k,hk,hx⟩)):P:=h
theorem NV{P:Prop}(h:P:=by exact hN _ _ _ _ k3.2 (mP hs k1 k2 k3.1 cB rfl fun id hu=>hu)):P:=h
theorem Hq{P:Prop}(h:P:=by simp at hl;obtain⟨rfl,rfl⟩:=hl;exact hK):P:=h
theorem Hr{P:Prop}(h:P:=by simp at hj hy;subst hj;subst hy;exact aZ):P:=h
theorem Dl{P:Prop}(h:P:=by rw[if_neg e,if_neg (by omega)]):P:=h
theorem ado{P:Prop}(h:P:=by rw[hj];rfl):P:=h
theorem WG{P:Prop}(h:P:=by exact h3 e (Array.mem_toList_iff.1 he) hb):P:=h
theorem Dm{P:Prop}(h:P:=by rw[hg];simp[dB,hv,e]):P:=h
theorem NW{P:Prop}(h:P:=by exact cu.same hH _ h (by simp[execOp,gr,hr]) ⟨_,rfl,hv⟩):P:=h
theorem Hs{P:Prop}(h:P:=by rw[sd];exact cH all _ bc):P:=h
theorem Ht{P:Prop}(h:P:=by simp[ab.refs,V.aL,V.refs];omega):P:=h
theorem Hu{P:Prop}(h:P:=by subst sH;rw[ae];exact hh.symm):P:=h
theorem qQ{P:Prop}(h:P:=by rw[uJ];rfl):P:=h
theorem NX{P:Prop}(h:P:=by exact bF t u hu (hQ _ s φ w (.iface t u) h hs ⟨u,rfl,hd⟩)):P:=h
theorem Hv{P:Prop}(h:P:=by rw[if_neg e,if_neg fun h=>e h.symm]):P:=h
theorem Dn{P:Prop}(h:P:=by simp[binOp,yX hr]):P:=h
theorem Hw{P:Prop}(h:P:=by exact⟨.ret,s',aD,hq,ju,trivial⟩):P:=h
theorem NY{P:Prop}(h:P:=by exact⟨e',Q3,fr',hR,ComesIn.of_steps NZ hs,GX,hl⟩):P:=h
theorem qR{P:Prop}(h:P:=by rw[hx];rfl):P:=h
theorem vo{P:Prop}(h:P:=by rw[hx];exact hk):P:=h
theorem Hx{P:Prop}(h:P:=by rw[uK i hi];exact congrArg some hb):P:=h
theorem N0{P:Prop}(h:P:=by exact⟨b,k1,k2.mono (fun b _ hn=>⟨rfl,hB b hn⟩) rfl⟩):P:=h
theorem sI{P:Prop}(h:P:=by simpa using h2):P:=h
theorem Hy{P:Prop}(h:P:=by unfold eM;exact Eq.trans rfl rfl):P:=h
theorem ox{P:Prop}(h:P:=by assumption):P:=h
theorem Hz{P:Prop}(h:P:=by subst sH;rw[ae,K6 _ UC]):P:=h
theorem Dp{P:Prop}(h:P:=by rw[hl2]at hl;simp at hl):P:=h
theorem Dq{P:Prop}(h:P:=by subst hi;simp[Ne.symm h]):P:=h
theorem HA{P:Prop}(h:P:=by exact⟨.bF _,s',aD,hq,ju,hm⟩):P:=h
theorem HB{P:Prop}(h:P:=by unfold Ff;exact Eq.trans rfl rfl):P:=h
theorem Dr{P:Prop}(h:P:=by exact fun _=>yY _ _ _):P:=h
theorem HC{P:Prop}(h:P:=by unfold eqGuard;cases op<;>simp):P:=h
theorem Ds{P:Prop}(h:P:=by rw[h]at h1;simp at h1):P:=h
theorem HD{P:Prop}(h:P:=by simpa only[pZ]using this):P:=h
theorem HE{P:Prop}(h:P:=by simp[hj]at hr;exact⟨hr,rfl⟩):P:=h
theorem HG{P:Prop}(h:P:=by rw[Fc _ _ BX, <- h0 _ BX,ht]):P:=h
theorem HH{P:Prop}(h:P:=by simp at hj;subst hj;exact dQ):P:=h
theorem vq{P:Prop}(h:P:=by simpa using hx):P:=h
theorem HI{P:Prop}(h:P:=by rw[ht];exact ab.noConfusion):P:=h
theorem Dt{P:Prop}(h:P:=by rw[h,h'];exact hs):P:=h
theorem vr{P:Prop}(h:P:=by rw[h1];rfl):P:=h
theorem yZ{P:Prop}(h:P:=by cases b<;>rfl):P:=h
theorem y0{P:Prop}(h:P:=by rw[rK];simp):P:=h
theorem WH{P:Prop}(h:P:=by exact⟨b,h4.trans h5,h6⟩):P:=h
theorem N1{P:Prop}(h:P:=by refine aN (aR rfl) ?_;refine br ?_;rw[e]):P:=h
theorem zw1{P:Prop}(h:P:=by rw[hr,if_pos rfl]at yL;refine br ?_;refine aq (k+1,(aw step s' (j6 x (q++[(k:Int)]) false)).1,o5,n5+1+1) ⟨h1,p2.mono (show n5<=n5+1+1 from ah),(show nx<n5+1+1 from ah),by dsimp only;rw[p3 nx (by omega) (Nat.le_refl _),bJ],fun id i1 i2=>(p3 id i1 ah).trans (cO id i1 i2),by dsimp only;rw[rL];exact yL,by dsimp only;rw[rL];exact p5 step ok aZ _ _ s' iS hr⟩ nb (bC.bB _ (show nx<=n5+1+1 from ah) nb (p2.mono (show n5<=n5+1+1 from ah)).bD (fun _ _=>rfl) ?_);exact cE):P:=h
theorem zw4{P:Prop}(h:P:=by refine aN (aR rfl) ?_;refine gk q2 ?_;refine cw _ _ _ .busy none ah (fin _ _ (fun id au=>UB) eL ah) eY (fun id h3 h4=>by(repeat(first|rfl|rw[ae]|rw[ai _ _ _ _ (by omega)])))):P:=h
theorem WI{P:Prop}(h:P:=by rw[List.drop_eq_getElem_cons h1];rw[List.getElem?_eq_getElem h1]at hx;injection hx with hx;rw[hx]):P:=h
theorem zw6{P:Prop}(h:P:=by refine aq (k+1,(step s' x).1,o2,n2+1+1) ⟨h1,m2.mono (show n2<=n2+1+1 from ah),(show nx<=n2+1+1 from ah),fun id i1 i2=>(m3 id i1 ah).trans (cO id i1 i2),hf,aZ x eg s' iS hb,by rw[y9];rfl⟩ nb (bC.bB _ (show nx<=n2+1+1 from ah) (Nat.le_refl _) (m2.mono (show n2<=n2+1+1 from ah)).bD (fun _ _=>rfl) ?_);exact cE):P:=h
theorem zw9{P:Prop}(h:P:=by refine aq (k+1) h6 ah (bC.bB _ (show 0<=1 from ah) ah eL (fun j hj=>by(repeat(first|rfl|rw[ae]|rw[ai _ _ _ _ (by omega)]))) ?_);exact cE):P:=h
theorem Q4{P:Prop}(h:P:=by refine br ?_;refine aB WJ rfl ?_;exact pW):P:=h
theorem Lu{P:Prop}(h:P:=by simp[Ef,Array.getD_eq_getD_getElem?,Array.getElem?_replicate]at iy;split at iy<;>simp at iy):P:=h
theorem Q5{P:Prop}(h:P:=by obtain⟨h0,h1,h2⟩:=h;refine⟨h0,hr.us id h1,fun bJ=> ?_⟩;obtain⟨h3,h4⟩:=hr.row id h1 bJ;obtain⟨b,h5,h6⟩:=h2 h3;exact WH):P:=h
theorem Q6{P:Prop}(h:P:=by obtain⟨a,b,c⟩:=hr id yV;obtain⟨h0,h1,h2⟩:=h;refine⟨h0,c,fun bJ=> ?_⟩;rw[a]at bJ;obtain⟨x,y,z⟩:=h2 bJ;exact NQ):P:=h
theorem Q7{P:Prop}(h:P:=by obtain⟨h0,x,hx⟩:=w7 hI;simp+contextual only[go_sem,hI,hx,h0];refine aN (aR rfl) ?_;refine cj ?_;exact Wj):P:=h
theorem Lw{P:Prop}(h:P:=by refine aN (aR rfl) ?_;refine br ?_;refine aB WJ rfl ?_;exact pW):P:=h
theorem Q8{P:Prop}(h:P:=by obtain⟨a,b,c⟩:=hr id yV;obtain⟨h0,h1,h2⟩:=h;refine⟨h0,c,fun bJ=> ?_⟩;obtain⟨x,y,z⟩:=h2 (a.1 bJ);exact NQ):P:=h
theorem Lx{P:Prop}(h:P:=by dsimp only;refine bC.bB _ (Nat.le_refl _) ah hI.bD (fun _ _=>rfl) ?_;exact cE):P:=h
theorem WK{P:Prop}(h:P:=by refine br ?_;rw[e]):P:=h
theorem Q9{P:Prop}(h:P:=by intro j hj;simp only[bz,h2,List.mem_map,List.mem_filter]at hj;obtain⟨e,⟨he,hb⟩,rfl⟩:=hj;exact WG):P:=h
theorem WL{P:Prop}(h:P:=by rw[hs,Bool.true_and]at sJ;refine gk hs ?_;refine aq (k+1) ⟨h2,sJ⟩ ah (bC.bB _ (show 0<=1 from ah) ah eL (fun j hj=>by(repeat(first|rfl|rw[ae]|rw[ai _ _ _ _ (by omega)]))) ?_);exact cE):P:=h
theorem WM{P:Prop}(h:P:=by obtain⟨h0,h1,h2⟩:=h;refine⟨h0,hr.us id h1,fun e' oj=> ?_⟩;obtain⟨e,g1,g2,g3⟩:=hr.ep id e' h1 oj;obtain⟨h3,h4⟩:=h2 e g1;refine⟨Nat.le_trans h3 g2,fun heq=> ?_⟩;rw[g3 (by omega)];exact h4 ah):P:=h
theorem WN{P:Prop}(h:P:=by refine aN cG ?_;refine gk uL ?_;refine bn (HJ _ v ah) ?_;refine br ?_;refine aq (j+1) h3 ah (bC.d1 _ (aT rfl) ah rfl ?_);rw[p6 uL,if_pos hc];exact cE):P:=h
theorem WO{P:Prop}(h:P:=by rw[e]at hK;refine aa7 ?_;exact hK _ _ ah ⟨eL,ah,fun j hj=>by rw[ai _ _ _ _ (by omega),hI.eq j hj]⟩ (fun j g1 g2=>by(repeat(first|rfl|rw[ae]|rw[ai _ _ _ _ (by omega)])))):P:=h
theorem Ra{P:Prop}(h:P:=by obtain⟨z,h1,h⟩:=iB h;simp only[Prod.mk.injEq]at h;obtain⟨rfl,rfl,rfl⟩:=h;exact Wk):P:=h
theorem WQ{P:Prop}(h:P:=by refine aN (aR rfl) ?_;exact pW):P:=h
theorem WR{P:Prop}(h:P:=by refine br ?_;exact hK _ _ ah ⟨eL,ah,fun j hj=>by rw[ai _ _ _ _ (by omega),hI.eq j hj]⟩ (fun j g1 g2=>by(repeat(first|rfl|rw[ae]|rw[ai _ _ _ _ (by omega)])))):P:=h
theorem HK{P:Prop}(h:P:=by simp only[St.S,iI]at this;exact this):P:=h
theorem Rb{P:Prop}(h:P:=by obtain⟨h0,x,hx⟩:=w7 hI;simp+contextual only[go_sem,h,hI,hx,h0];exact Wj):P:=h
theorem WS{P:Prop}(h:P:=by refine⟨t,by simp only[Hh,if_pos h1,hl],hv,rfl,fun _=>hl,fun h=>absurd h1 h,fun _=>⟨fun u hu=> ?_,fun h=>absurd h1 h⟩⟩;rw[(jz h1).1 hu];exact Nat.le_refl _):P:=h
theorem Rc{P:Prop}(h:P:=by simp only[Array.getD_eq_getD_getElem?];rw[Array.getElem?_setIfInBounds_ne (Ne.symm hi)]):P:=h
theorem Re{P:Prop}(h:P:=by refine js hI ?_;refine aN (aR rfl) ?_;refine cj ?_;rw[hn,hI];rfl):P:=h
theorem Rf{P:Prop}(h:P:=by rw[hL.refs,List.all_eq_true];intro r hr;have:=hrefs r hr;exact decide_eq_true ah):P:=h
theorem Rg{P:Prop}(h:P:=by refine lM hx ?_;refine aq (k+1) h2 ah (bC.d0 _ ?_);rw[K7];exact cE):P:=h
theorem Rh{P:Prop}(h:P:=by refine VO hx f2 ?_;refine aN (aR rfl) ?_;refine br ?_;rw[e]):P:=h
theorem WT{P:Prop}(h:P:=by simp only[Option.map_eq_some_iff]at h;obtain⟨d,h1,rfl⟩:=h;obtain⟨arr,rfl,g1,g2⟩:=hx;obtain⟨val,r1,r2⟩:=gw h1 g1 g2;exact fin (r1 w) r2):P:=h
theorem Ri{P:Prop}(h:P:=by refine cj ?_;refine aB (fO _ _ _) rfl ?_;refine cj ?_;rw[hn]):P:=h
theorem WU{P:Prop}(h:P:=by rw[show(⟨put o' [(fr, .arr 0 ty sz es)],fun id=>us id\/id=fr⟩:Hp).o fr=put o' [(fr, .arr 0 ty sz es)] fr from rfl,this]at he;injection he):P:=h
theorem WV{P:Prop}(h:P:=by simp only[hx]at h ho;injection h with h;subst h;simp only[ab.fz]at ho;simp only[aO,ho]at aZ;rw[hd (by rw[ho];rfl)];exact aZ):P:=h
theorem Rj{P:Prop}(h:P:=by rw[m2.eq id (by omega)];unfold ext;rw[if_neg (by omega)];exact eY):P:=h
theorem WW{P:Prop}(h:P:=by obtain⟨h0,y,h1,h2,h3,h4⟩:=sK h;simp only[Prod.mk.injEq]at h4;obtain⟨rfl,rfl,rfl⟩:=h4;exact⟨h0,y,h1,h2,h3,hK⟩):P:=h
theorem WX{P:Prop}(h:P:=by obtain⟨h3,h4⟩:=hb _ b8 h2;exact⟨by rw[World.cell?_of_block (w:=w) (w':=w') (a:=a.add j) (by simpa using h3)];exact h1,h4⟩):P:=h
theorem WY{P:Prop}(h:P:=by simp only[Option.map_eq_some_iff]at h;obtain⟨r,h1,rfl⟩:=h;obtain⟨g1,g2⟩:=Rm h1 hg (ak M φ H) w xv yv hx hy;exact abe):P:=h
theorem WZ{P:Prop}(h:P:=by refine br ?_;simp at h3;refine aq (k+1) ⟨h2,eh hx hk.2 h3⟩ ah (bC.d1 _ (aT rfl) ah rfl ?_);exact cE):P:=h
theorem W0{P:Prop}(h:P:=by simp only[ha];obtain⟨z,h1,h⟩:=iB h;simp only[Prod.mk.injEq]at h;obtain⟨rfl,rfl,rfl⟩:=h;exact w8 h1 hK):P:=h
theorem W1{P:Prop}(h:P:=by simp only[hw,if_true];obtain⟨se,oi⟩:=za HL (fun id au=>ag2 id (by rw[uK];exact au)) Rn aZ.2;exact abc):P:=h
theorem W2{P:Prop}(h:P:=by cases y<;>simp only[V.same,Bool.false_eq_true,Bool.and_eq_true]at h;rw[Nat.eq_of_beq_eq_true h.1,Nat.eq_of_beq_eq_true h.2]):P:=h
theorem Ro{P:Prop}(h:P:=by refine lN ?_;refine aN (aR rfl) ?_;exact pW):P:=h
theorem W3{P:Prop}(h:P:=by intro u hu;simp only[Array.toList_extract,List.extract]at hu;exact hf u (List.mem_of_mem_drop (List.mem_of_mem_take hu))):P:=h
theorem W4{P:Prop}(h:P:=by refine⟨hH,Trans.refl _ _ _, ?_,⟨[],rfl,List.nodup_nil,fun _=>rfl,fun r hr=>by cases hr⟩,zb hd⟩;exact WD):P:=h
theorem Rp{P:Prop}(h:P:=by obtain⟨h5,h6⟩:=List.getElem?_eq_some_iff.1 hx;exact WC):P:=h
theorem W5{P:Prop}(h:P:=by rw[e];obtain⟨k1,k2⟩:=iC (us':=Du (Array.replicate ops.size false)) hs.heap (fun id h=> .inl h);exact abd):P:=h
theorem W6{P:Prop}(h:P:=by unfold World.cell?;simp only[hg,Option.isSome_none,Bool.false_eq_true,if_false,Nat.zero_add];rw[N2 j hj];simp):P:=h
theorem Rq{P:Prop}(h:P:=by simp only[bE,aJ,h1,if_false];exact WA):P:=h
theorem W7{P:Prop}(h:P:=by rw[hb]at hf y9;simp only[Bool.false_eq_true,if_false]at hf y9;refine cj ?_;rw[hf,y9]at hK;exact abb):P:=h
theorem W8{P:Prop}(h:P:=by refine cj ?_;simp at h1;rw[List.drop_eq_nil_of_le h1]at hf;simp only[aw]at hf;rw[hf]at hK;exact Wh):P:=h
theorem W9{P:Prop}(h:P:=by simp only[Option.some.injEq,Prod.mk.injEq]at h;obtain⟨rfl,rfl,rfl⟩:=h;simp only[ho];exact⟨_,hg,hK⟩):P:=h
theorem Rr{P:Prop}(h:P:=by rw[show fr+(j+1)=fr+1+j by omega];exact this):P:=h
theorem Rs{P:Prop}(h:P:=by simp+contextual only[go_sem,h,hI];rw[hn,hI];rfl):P:=h
theorem Xa{P:Prop}(h:P:=by injection h with h;subst h;obtain⟨u,rfl,_⟩:=hy;simp only[V.den,D.den]at hx;subst hx;exact aa9):P:=h
theorem Xb{P:Prop}(h:P:=by injection h with h;subst h;obtain⟨u,rfl,_⟩:=hx;simp only[V.den,D.den]at hy;subst hy;exact aa8):P:=h
theorem Xc{P:Prop}(h:P:=by refine .inr (.inr (.inl ⟨ds,out,eD,hP,kJ, ?_⟩));cases out<;>first|exact hK _ h|exact hX _ _ h):P:=h
theorem Xd{P:Prop}(h:P:=by rw[hI.eq 2 (by omega)];(repeat(first|rfl|rw[ae]|rw[ai _ _ _ _ (by omega)]));exact p2):P:=h
theorem Ly{P:Prop}(h:P:=by refine aN cG ?_;exact pW):P:=h
theorem Xe{P:Prop}(h:P:=by simp only[ab.fz]at ho;simp only[aO,ho]at aZ;rw[(hd ep (by rw[ho];rfl)).2 rfl];exact aZ):P:=h
theorem N3{P:Prop}(h:P:=by rw[Array.toList_append,Array.toList_append,Array.toList_map];exact V.oz Dv dz Rt):P:=h
theorem N4{P:Prop}(h:P:=by refine .inr (.inl ⟨ds,out,eD,hP,kJ, ?_⟩);cases out<;>first|exact hK _ h|exact hX _ _ h):P:=h
theorem N5{P:Prop}(h:P:=by simp at h1;refine cj ?_;rw[List.drop_eq_nil_of_le h1]at hf y9;rw[hf,y9]at hK;exact Wh):P:=h
theorem N6{P:Prop}(h:P:=by obtain⟨b,dC,ty,k1,k2,k3,k4⟩:=bc;exact⟨b,dC,ty,k1,k2,j9 _ _ hrefs k3,k4⟩):P:=h
theorem N7{P:Prop}(h:P:=by obtain⟨arr,rfl,g1,g2⟩:=hx;obtain⟨val,r1,r2⟩:=Fg h g1 g2;exact fin r1 r2):P:=h
theorem N8{P:Prop}(h:P:=by subst e9;(repeat(first|rfl|rw[ae]|rw[ai _ _ _ _ (by omega)]));exact q2):P:=h
theorem N9{P:Prop}(h:P:=by simp only[Array.getD_eq_getD_getElem?];rw[Array.getElem?_setIfInBounds_ne (Ne.symm h1)]):P:=h
theorem Oa{P:Prop}(h:P:=by subst e;(repeat(first|rfl|rw[ae]|rw[ai _ _ _ _ (by omega)]));exact q2):P:=h
theorem Ob{P:Prop}(h:P:=by refine⟨x,fun heq=> ?_⟩;obtain⟨p,q,r,z,u⟩:=y heq;exact⟨p,q,r,b.trans z,u⟩):P:=h
theorem Oc{P:Prop}(h:P:=by obtain⟨g1,g2⟩:=List.getElem?_eq_some_iff.1 hx;rw[List.drop_eq_getElem_cons g1,g2]):P:=h
theorem Od{P:Prop}(h:P:=by refine .inl ⟨ds,out,eD,hP, ?_⟩;cases out<;>first|exact hK _ h|exact hX _ _ h):P:=h
theorem Oe{P:Prop}(h:P:=by simp only[Ef,Array.getD_eq_getD_getElem?,Array.getElem?_replicate];split<;>rfl):P:=h
theorem Of{P:Prop}(h:P:=by simp[H',ab.bW]at he;subst he;exact⟨Nat.le_refl _,fun _=>by simp[aD]⟩):P:=h
theorem Og{P:Prop}(h:P:=by rw[p2.eq id (by omega)];unfold ext;rw[if_neg (by omega),hold id (by omega) h2]):P:=h
theorem Oh{P:Prop}(h:P:=by rw[hm,gx (o:=s.o) fun id au=>hr id (kM _ id au)];exact UD):P:=h
theorem Oi{P:Prop}(h:P:=by obtain⟨a,b,c,h⟩:=funcOf (P:=Tryz.prog) (t:=214) ag;unfold vu;rw[h]):P:=h
theorem Oj{P:Prop}(h:P:=by cases y<;>simp only[D.same,Bool.false_eq_true]at h;rw[D.dh bX _ h]):P:=h
theorem Ol{P:Prop}(h:P:=by rw[Bool.eq_iff_iff,decide_eq_true_eq,this];cases(aw step s l).2<;>simp):P:=h
theorem Om{P:Prop}(h:P:=by simp at h2;rw[List.drop_eq_nil_of_le h2]at sJ;refine br ?_;rw[sJ];rfl):P:=h
theorem On{P:Prop}(h:P:=by rw[Bool.eq_iff_iff];simp only[List.all_eq_true (l:=t.kids)];exact WE):P:=h
theorem Oo{P:Prop}(h:P:=by obtain⟨b,r,k1,k2,k3,k4,k5,k6,k7,k8,k9,k10⟩:=bc;exact aba):P:=h
theorem Oq{P:Prop}(h:P:=by obtain⟨u,us,rfl,h1,_⟩:=h;simp at hd;subst hd;exact⟨u,aI,h1⟩):P:=h
theorem Ot{P:Prop}(h:P:=by intro c hx;rw[Array.getD_eq_getD_getElem?,hx]at cR;simp at cR):P:=h
def qS(ops:Array Oper)(j:Nat):Option Tmp:=(ops[j]?).bind (·.dst)
structure bL where
 dst:Option Nat
 op:Op
 gd:Option (Nat×Bool):=none
instance:Inhabited bL:=⟨⟨none, .ready 0,none⟩⟩
def BZ(n:Nat):Option Tmp->Bool
 |some d=>decide (d<n)
 |none=>true
def HM(n:Nat)(ops:Array Oper)(o:Oper):Option bL:=
 if BZ n o.dst=true then match o.guard with
  |none=>some ⟨o.dst,o.op,none⟩
  |some (j,want)=>match qS ops j with
   |some d=>some ⟨o.dst,o.op,some (d,want)⟩
   |none=>none
 else none
def ke(n:Nat)(ops:Array Oper):List Oper->Option (List bL)
 |[]=>some []
 |o::l=>match HM n ops o,ke n ops l with
  |some x,some xs=>some (x::xs)
  |_,_=>none
def tmpsOf(o:bL):List Nat:=(o.op.operands.toList.filterMap fun| .tmp t=>some t|_=>none)++(match o.gd with|some (d,_)=>[d]|none=>[])
def eE(o:bL):List Nat:=tmpsOf o++o.dst.toList
def bz(ops:Array Oper)(i:Nat):List Nat:=match ops[i]? with|some o=>(o.after.toList.filter (Region.binds .any)).map (·.on)|none=>[]
def bO(l:List bL)(i:Nat):bL:=l.getD i default
inductive IC where
 |skip|ad (l:List bL)|cT (l:List bL) (pr:List (List Nat))|seq (a b:IC)|cond (c:Operand) (a b:IC)|block (id:Nat) (a:IC)|loop (a:IC)|exit (id:Nat)|ret|bad
 |Fh (g:Operand) (ps:List Nat) (a b:IC)
 deriving Inhabited
inductive jo where
 |ret|exit (id:Nat)
def jo.code:jo->Code
 | .ret=> .ret
 | .exit id=> .exit id
def kN(acc:List Nat):List Nat->Nat
 |[]=>0
 |j::ps=>(2^j|||acc.getD j 0)|||kN acc ps
def dV:List (List Nat)->List Nat->List Nat
 |[],acc=>acc
 |ps::l,acc=>dV l (acc++[kN acc ps])
def p7(x y:bL):Bool:=match x.dst with|some d=> !(eE y).contains d|none=>true
def w9(l:List bL)(pr:List (List Nat)):Bool:=
 (List.range l.length).all fun j=>(List.range j).all fun i=>((dV pr []).getD j 0).testBit i||(p7 (bO l i) (bO l j)&&p7 (bO l j) (bO l i))
def jO(xs ys:List Nat):Bool:=xs.all fun x=> !ys.contains x
def dR(pr:List (List Nat))(fp:List (List Nat×List Nat)):Bool:=
 (List.range fp.length).all fun j=>(List.range j).all fun i=>((dV pr []).getD j 0).testBit i||
  (jO (fp.getD i ([],[])).2 (fp.getD j ([],[])).1&&jO (fp.getD i ([],[])).2 (fp.getD j ([],[])).2&&jO (fp.getD j ([],[])).2 (fp.getD i ([],[])).1)
def fP(ops:Array Oper):List (List Nat):=(List.range ops.size).map (bz ops)
def Ru(pr:List (List Nat)):Bool:=(List.range pr.length).all fun k=>(pr.getD k []).all fun j=>decide (j<k)
theorem sL{acc:List Nat}{i:Nat}:∀ (ps:List Nat),(kN acc ps).testBit i=true->∃j∈ps,i=j\/(acc.getD j 0).testBit i=true
 |[],h=>by simp[kN]at h
 |j::ps,h=>by
  simp only[kN,Nat.testBit_or,Bool.or_eq_true]at h
  rcases h with(h|h)|h
  ·rw[Nat.testBit_two_pow]at h
   exact⟨j,aI, .inl (by have h:=of_decide_eq_true h;exact h.symm)⟩
  ·exact⟨j,aI, .inr h⟩
  ·obtain⟨j',h1,h2⟩:=sL ps h
   exact⟨j',by simp[h1],h2⟩
theorem p8{k:Nat}:∀ (l:List (List Nat)) (acc:List Nat),k<acc.length->(dV l acc).getD k 0=acc.getD k 0
 |[],_,_=>rfl
 |ps::l,acc,h=>by
  rw[dV,p8 l _ (by simp;omega)]
  simp[List.getD_eq_getElem?_getD,List.getElem?_append_left h]
theorem p9{i:Nat}:∀ (l:List (List Nat)) (acc:List Nat) (k:Nat),acc.length<=k->(∀k',k'<l.length->∀j∈l.getD k' [],j<acc.length+k')->((dV l acc).getD k 0).testBit i=true->
 ∃j∈l.getD (k - acc.length) [],i=j\/((dV l acc).getD j 0).testBit i=true
 |[],acc,k,hk,_,h=>by
  simp only[dV]at h
  rw[List.getD_eq_getElem?_getD,List.getElem?_eq_none hk]at h
  simp at h
 |ps::l,acc,k,hk,hp,h=>by
  simp only[dV]at h|-
  by_cases he:k=acc.length
  ·subst he
   rw[p8 l _ (by simp)]at h
   have e:(acc++[kN acc ps]).getD acc.length 0=kN acc ps:=by simp[List.getD_eq_getElem?_getD]
   rw[e]at h
   obtain⟨j,h1,h2⟩:=sL ps h
   refine⟨j,by simpa using h1,h2.imp id fun h2=> ?_⟩
   have hj:j<acc.length:=by simpa using hp 0 aI j (by simpa using h1)
   rw[p8 l _ (by simp;omega)]
   simpa[List.getD_eq_getElem?_getD,List.getElem?_append_left hj]using h2
  ·obtain⟨j,h1,h2⟩:=p9 l (acc++[kN acc ps]) k ow (fun k' K8 j hj=>by
    have:=hp (k'+1) ow j lO
    simp;omega) h
   refine⟨j, ?_,h2⟩
   have e:k - acc.length=(k - (acc++[kN acc ps]).length)+1:=by simp;omega
   rw[e];simpa using h1
theorem oA{pr:List (List Nat)}(hp:∀k,k<pr.length->∀j∈pr.getD k [],j<k){E:Nat->Bool}(hE:∀k,k<pr.length->E k=true->∀j∈pr.getD k [],E j=true):
 ∀k,k<pr.length->(∀j∈pr.getD k [],E j=true)->∀i,((dV pr []).getD k 0).testBit i=true->E i=true:=by
 intro k
 induction k using Nat.strongRecOn with
 |ind k ih=>
  intro hk hj i hi
  obtain⟨j,h1,h2⟩:=p9 pr [] k aI (fun k' K8 j hj=>by simpa using hp k' K8 j hj) hi
  simp only[List.length_nil,Nat.sub_zero]at h1
  rcases h2 with rfl|h2
  ·exact hj _ h1
  ·have Xf:=hp k hk j h1
   exact ih j Xf ah (hE j ah (hj j h1)) i h2
theorem zc{pr:List (List Nat)}(hp:∀k,k<pr.length->∀j∈pr.getD k [],j<k):∀k,k<pr.length->∀i,((dV pr []).getD k 0).testBit i=true->i<k:=by
 intro k
 induction k using Nat.strongRecOn with
 |ind k ih=>
  intro hk i hi
  obtain⟨j,h1,h2⟩:=p9 pr [] k aI (fun k' K8 j hj=>by simpa using hp k' K8 j hj) hi
  simp only[List.length_nil,Nat.sub_zero]at h1
  have Xf:=hp k hk j h1
  rcases h2 with rfl|h2
  ·exact Xf
  ·have:=ih j Xf ah i h2;omega
def low(n:Nat):Code->IC
 | .skip=> .skip
 | .label _=> .skip
 | .scope c=>low n c
 | .region _ ops false=>match ke n ops ops.toList with
   |some l=> .ad l
   |none=> .bad
 | .region _ ops true=>match ke n ops ops.toList with
   |some l=>if w9 l (fP ops)&&Ru (fP ops)then .cT l (fP ops)else .bad
   |none=> .bad
 | .seq a b=> .seq (low n a) (low n b)
 | .cond c a b=> .cond c (low n a) (low n b)
 | .block id a=> .block id (low n a)
 | .loop a=> .loop (low n a)
 | .exit id=> .exit id
 | .ret=> .ret
 | .rangeFunc g ps a b=> .Fh g ps.toList (low n a) (low n b)
 |_=> .bad
section
inductive D where
 |int (k:IntKind) (n:Int)|bool (b:Bool)|str (s:List UInt8)
 |eZ|lE|bY|gy
 |agg (cs:List D)|sl (es:List D)|iface (t:TypeId) (d:D)
 |mp (ks vs:List D)
 deriving Inhabited
def Flat(vs:List Value):Prop:=∀u∈vs,u.oneCell'=true
def fQ(B:Nat->Prop)(w:World)(a:Addr)(cs:Array Value):Prop:=∀j u,cs[j]? =some u->w.cell? (a.add j)=some u/\ ¬B a.block
def iz(es:Array MapEntry)(clock:Nat):Prop:=(∀e∈es.toList,e.born<clock)/\(es.toList.map (·.born)).Nodup
def xa(ks:List D):Prop:=ks.Nodup/\∀k∈ks,∃n,k= .int .i64 n
mutual
def D.den (B:Nat->Prop)(w:World):D->Value->Prop
 | .int k n,v=>v= .int k n
 | .bool b,v=>v= .bool b
 | .str l,v=>∃s:ByteArray,v= .string s/\s.data.toList=l
 | .eZ,v=>v= .nilIface
 | .lE,v=>v= .pointer none
 | .bY,v=>v= .nilFunc
 | .gy,v=>v= .map none
 | .agg cs,v=>∃a,v= .agg a/\D.aC B w cs a.toList/\Flat a.toList
 | .sl es,v=>∃base len cap,v= .slice base len cap/\len=es.length/\len<=cap/\(base=none->cap=0)/\
  ∃sz,∀a,base=some a->(cap≠0->a.spot=none)/\D.elems B w sz a 0 es
 | .iface t d,v=>∃u,v= .iface t u/\D.den B w d u
 | .mp ks vs,v=>∃m es clock p,v= .map (some m)/\w.heap[m]? =some (.map es clock)/\ ¬B m/\iz es clock/\(p=es.toList\/(p.Perm es.toList/\xa ks))/\D.aC B w ks (p.map (·.key))/\D.aC B w vs (p.map (·.val))
def D.aC (B:Nat->Prop)(w:World):List D->List Value->Prop
 |[],vs=>vs=[]
 |d::ds,vs=>∃u us,vs=u::us/\D.den B w d u/\D.aC B w ds us
def D.elems (B:Nat->Prop)(w:World)(sz:Nat)(a:Addr):Nat->List D->Prop
 |_,[]=>True
 |i,e::es=>(∃ev:Value,ev.cells.size=sz/\fQ B w (a.add (i*sz)) ev.cells/\D.den B w e ev)/\D.elems B w sz a (i+1) es
end
inductive V where
 |d (x:D)|bw|agg (cs:List V)|bS (vs:List V)
 |ptr (id off:Nat)|osl (id ep:Nat)|pe (id ep i sz off:Nat)|pp (cs:List D) (off:Nat)
 |func (fn:Fn) (first cap:List V)|iface (t:TypeId) (x:V)
 |aa
 |pR (es:List D)|vw (id off n:Nat)|mp (id:Nat)|eN|iD (id:Nat)
 deriving Inhabited
inductive ab where
 |no|row (cs:List V)|arr (ep:Nat) (ty:TypeId) (sz:Nat) (es:List D)|qT (ep:Nat) (es:List D)
 |map (kt vt:TypeId) (es:List (D×D))
 |loop (nf n:Nat) (env:List V) (ps:List Nat) (a b:IC) (st:LoopState) (Fi:Option jo)
 |gu (es:List (D×D))|nI (es:List (D×D)) (last:Option (D×D))|xb (s:List UInt8) (pos:Nat)
 deriving Inhabited
def ba(l:List V):Nat->V:=fun i=>l.getD i .aa
structure Hp where
 o:Nat->ab
 us:Nat->Prop
def ab.bW:ab->Option Nat
 | .arr ep _ _ _| .qT ep _=>some ep
 |_=>none
def ab.bZ:ab->Bool
 | .row _| .map .. | .loop .. | .gu _| .nI .. | .xb .. =>true
 |_=>false
def ab.live:ab->Bool
 | .row _| .arr .. | .map .. | .loop .. | .nI .. | .xb .. =>true
 |_=>false
def c8:Value->Option Nat
 | .pointer (some a)| .slice (some a) _ _=>some a.block
 | .map (some b)=>some b
 |_=>none
abbrev Place:=Nat->Value
def cy(φ:Place)(H:Hp)(b:Nat):Prop:=∃id,(H.o id).live=true/\c8 (φ id)=some b
def ak(M:Nat->Prop)(φ:Place)(H:Hp)(b:Nat):Prop:=M b\/cy φ H b
mutual
def V.den (B:Nat->Prop)(φ:Place)(H:Hp)(w:World):V->Value->Prop
 | .d x,v=>D.den B w x v
 | .bw,v=>v= .slice none 0 0
 | .agg cs,v=>∃a,v= .agg a/\V.aC B φ H w cs a.toList/\Flat a.toList
 | .bS vs,v=>∃a,v= .tuple a/\V.aC B φ H w vs a.toList
 | .ptr id off,v=>v.oneCell'=true/\H.us id/\((H.o id).bZ=true->∃b,φ id= .pointer (some ⟨b,0,none⟩)/\v= .pointer (some ⟨b,off,none⟩))
 | .osl id ep,v=>v.oneCell'=true/\H.us id/\∀e,(H.o id).bW=some e->ep<=e/\(ep=e->v=φ id)
 | .pe id ep i sz off,v=>v.oneCell'=true/\H.us id/\∀e,(H.o id).bW=some e->ep<=e/\(ep=e->∃b n c,φ id= .slice (some ⟨b,0,none⟩) n c/\v= .pointer (some ⟨b,i*sz+off,none⟩))
 | .pp cs off,v=>∃a ev,a.spot=none/\v= .pointer (some (a.add off))/\D.aC B w cs ev/\Flat ev/\fQ B w a ev.toArray
 | .func fn first cap,v=>∃f c,v= .func fn f c/\V.aC B φ H w first f.toList/\V.aC B φ H w cap c.toList
 | .iface t x,v=>∃u,v= .iface t u/\V.den B φ H w x u
 | .aa,_=>True
 | .pR es,v=>D.den B w (.sl es) v/\∃base n,v= .slice base n n
 | .vw id off n,v=>v.oneCell'=true/\H.us id/\((H.o id).bZ=true->∃b,φ id= .pointer (some ⟨b,0,none⟩)/\v= .slice (some ⟨b,off,none⟩) n n)
 | .mp id,v=>v.oneCell'=true/\H.us id/\((H.o id).bZ=true->v=φ id)
 | .eN,v=>∃b,v= .bool b
 | .iD id,v=>v.oneCell'=true/\H.us id/\((H.o id).bZ=true->∃b,φ id= .pointer (some ⟨b,0,none⟩)/\v= .func (.yield b) #[] #[])
def V.aC (B:Nat->Prop)(φ:Place)(H:Hp)(w:World):List V->List Value->Prop
 |[],vs=>vs=[]
 |x::xs,vs=>∃u us,vs=u::us/\V.den B φ H w x u/\V.aC B φ H w xs us
end
def fb(B:Nat->Prop)(w:World)(sz:Nat)(es:List D)(xs:List Value):Prop:=
 ∃evs:List Value,xs=evs.flatMap (·.cells.toList)/\(∀ev∈evs,ev.cells.size=sz)/\D.aC B w es evs
def aK(B:Nat->Prop)(w:World):List (D×D)->List MapEntry->Prop
 |[],es=>es=[]
 |(k,x)::l,es=>∃e es',es=e::es'/\D.den B w k e.key/\D.den B w x e.val/\aK B w l es'
def xc(B:Nat->Prop)(w:World)(l:List (D×D))(last:Option (D×D))(b:Nat):Prop:=
 w.heap[b]? =some (.mapIter none 0 #[] 0)/\l=[]/\last=none\/
 ∃m since seen es,w.heap[b]? =some (.mapIter (some m) since seen since)/\w.heap[m]? =some (.map es since)/\ ¬B m/\iz es since/\(∃l',l'.Perm l/\aK B w l' (es.toList.filter fun e=> !seen.contains e.born))/\
  ∀k x,last=some (k,x)->∃e∈es.toList,seen.back?=some e.born/\D.den B w k e.key/\D.den B w x e.val
def aO(M:Nat->Prop)(φ:Place)(H:Hp)(w:World)(id:Nat):Prop:=
 match H.o id with
 | .no=>True
 | .row cs=>∃b dC ty,φ id= .pointer (some ⟨b,0,none⟩)/\w.heap[b]? =some (.cells dC ty (0,0))/\V.aC (ak M φ H) φ H w cs dC.toList/\Flat dC.toList
 | .arr _ ty sz es=>0<sz/\∃xs,w.ownsRow 0 ty sz (φ id) es.length xs/\fb (ak M φ H) w sz es xs
 | .qT _ es=>D.den (ak M φ H) w (.sl es) (φ id)
 | .loop nf n env ps iT eF st Fi=>∃b r,φ id= .pointer (some ⟨b,0,none⟩)/\w.heap[b]? =some (.loop r)/\r.fn<nf/\r.state=st/\r.pending=Fi.map jo.code/\r.params.toList=ps/\r.tmps.size=n/\low n r.assign=iT/\low n r.body=eF/\
  ∀i,V.den (ak M φ H) φ H w (ba env i) (r.tmps.getD i undef)
 | .map _ _ l=>∃b es clock,φ id= .map (some b)/\w.heap[b]? =some (.map es clock)/\iz es clock/\aK (ak M φ H) w l es.toList
 | .gu l=>D.den (ak M φ H) w (.mp (l.map (·.1)) (l.map (·.2))) (φ id)
 | .nI l last=>∃b,φ id= .pointer (some ⟨b,0,none⟩)/\xc (ak M φ H) w l last b
 | .xb s pos=>∃b,φ id= .pointer (some ⟨b,0,none⟩)/\w.heap[b]? =some (.stringIter ⟨⟨s⟩⟩ pos)
structure ay (M:Nat->Prop) (φ:Place) (H:Hp) (w:World):Prop where
 ok:∀id,aO M φ H w id
 fresh:∀id, ¬H.us id->H.o id= .no
 apart:∀i j b,(H.o i).live=true->(H.o j).live=true->c8 (φ i)=some b->c8 (φ j)=some b->i=j
 ours:∀b,cy φ H b-> ¬M b/\b<w.heap.size
 yM:∀b,M b->b<w.heap.size
structure dx (m:Nat->Prop) (w w':World):Prop where
 os:w'.os=w.os
 tape:w'.tape=w.tape
 output:w'.output=w.output
 size:w.heap.size<=w'.heap.size
 block:∀k,k<w.heap.size-> ¬m k->w'.heap[k]? =w.heap[k]?
structure dD (φ:Place) (H:Hp) (aD:Place) (H':Hp):Prop where
 us:∀id,H.us id->H'.us id
 row:∀id,H.us id->(H'.o id).bZ=true->(H.o id).bZ=true/\aD id=φ id
 ep:∀id e',H.us id->(H'.o id).bW=some e'->∃e,(H.o id).bW=some e/\e<=e'/\(e=e'->aD id=φ id)
structure Trans (φ:Place) (H:Hp) (w:World) (aD:Place) (H':Hp) (w':World):Prop where
 keep:dx (cy φ H) w w'
 grow:∀b,cy aD H' b->cy φ H b\/w.heap.size<=b
 rel:dD φ H aD H'
theorem dx.refl (m:Nat->Prop)(w:World):dx m w w:=⟨rfl,rfl,rfl,Nat.le_refl _,fun _ _ _=>rfl⟩
theorem dD.refl (φ:Place)(H:Hp):dD φ H φ H:=⟨fun _ h=>h,fun _ _ h=>⟨h,rfl⟩,fun _ e' _ h=>⟨e',h,Nat.le_refl _,fun _=>rfl⟩⟩
theorem Trans.refl (φ:Place)(H:Hp)(w:World):Trans φ H w φ H w:=⟨dx.refl _ _,fun _ h=> .inl h,dD.refl _ _⟩
theorem dD.trans {φ aD B0:Place}{H H' Xg:Hp}(h:dD φ H aD H')(k:dD aD H' B0 Xg):dD φ H B0 Xg where
 us id au:=k.us id (h.us id au)
 row id au hr:=by
  obtain⟨a,b⟩:=k.row id (h.us id au) hr
  obtain⟨c,d⟩:=h.row id au a
  exact⟨c,b.trans d⟩
 ep id e' au he:=by
  obtain⟨e,h1,h2,h3⟩:=k.ep id e' (h.us id au) he
  obtain⟨e0,g1,g2,g3⟩:=h.ep id e au h1
  refine⟨e0,g1,Nat.le_trans g2 h2,fun heq=> ?_⟩
  have a:e0=e:=ah
  have b:e=e':=ah
  exact(h3 b).trans (g3 a)
theorem Trans.trans {φ aD B0:Place}{H H' Xg:Hp}{w w' Q3:World}(h:Trans φ H w aD H' w')(k:Trans aD H' w' B0 Xg Q3):Trans φ H w B0 Xg Q3 where
 keep:={
  os:=k.keep.os.trans h.keep.os
  tape:=k.keep.tape.trans h.keep.tape
  output:=k.keep.output.trans h.keep.output
  size:=Nat.le_trans h.keep.size k.keep.size
  block:=fun b hb hm=>by
   rw[k.keep.block b (Nat.lt_of_lt_of_le hb h.keep.size) (fun hl=>by
    rcases h.grow b hl with h1|h1
    ·exact hm h1
    ·omega),h.keep.block b hb hm]}
 grow b hl:=by
  rcases k.grow b hl with h1|h1
  ·exact h.grow b h1
  ·exact .inr (Nat.le_trans h.keep.size h1)
 rel:=h.rel.trans k.rel
@[simp] theorem UE (a:Addr) (j:Nat):(a.add j).block=a.block:=by unfold Addr.add;split<;>rfl
def oB(w:World)(b:Nat):Prop:=∃cs ty fz,w.heap[b]? =some (.cells cs ty fz)
def cP(w:World)(b:Nat):Prop:=oB w b\/∃es clock,w.heap[b]? =some (.map es clock)
theorem cP.lt {w:World}{b:Nat}(h:cP w b):b<w.heap.size:=by
 rcases Nat.lt_or_ge b w.heap.size with hl|hl
 ·exact hl
 ·rcases h with⟨cs,ty,fz,h⟩|⟨es,clock,h⟩
  ·rw[Array.getElem?_eq_none hl]at h;cases h
  ·rw[Array.getElem?_eq_none hl]at h;cases h
theorem nv{w:World}{a:Addr}{u:Value}(h:w.cell? a=some u):oB w a.block:=by
 unfold World.cell? at h
 split at h
 ·exact⟨_,_,_,by assumption⟩
 ·cases h
theorem rM{w:World}{a:Addr}{u:Value}(h:w.cell? a=some u):cP w a.block:= .inl (nv h)
theorem fQ.mono {B B':Nat->Prop}{w w':World}{a:Addr}{cs:Array Value}
 (hb:∀b,cP w b-> ¬B b->w'.heap[b]? =w.heap[b]? /\ ¬B' b) (h:fQ B w a cs):fQ B' w' a cs:=by
 intro j u hj
 obtain⟨h1,h2⟩:=h j u hj
 have b8:cP w a.block:=by simpa using rM h1
 exact WX
mutual
theorem D.aM {B B':Nat->Prop}{w w':World}(hb:∀b,cP w b-> ¬B b->w'.heap[b]? =w.heap[b]? /\ ¬B' b):
 ∀ (x:D) (v:Value),D.den B w x v->D.den B' w' x v
 | .int _ _,_,h| .bool _,_,h| .str _,_,h| .eZ,_,h| .lE,_,h| .bY,_,h| .gy,_,h=>by simpa[D.den]using h
 | .agg cs,_,h=>by
   obtain⟨a,rfl,h,hf⟩:=h
   exact⟨a,rfl,D.aP hb cs _ h,hf⟩
 | .sl es,_,h=>by
   obtain⟨base,len,cap,rfl,h1,h2,h3,sz,h4⟩:=h
   exact⟨base,len,cap,rfl,h1,h2,h3,sz,fun a ha=>⟨(h4 a ha).1,D.sM hb sz a es 0 (h4 a ha).2⟩⟩
 | .iface t d,_,h=>by
   obtain⟨u,rfl,h⟩:=h
   exact⟨u,rfl,D.aM hb d u h⟩
 | .mp ks vs,_,h=>by
   obtain⟨m,es,clock,p,rfl,h1,h2,h3,hp,h4,h5⟩:=h
   obtain⟨k1,k2⟩:=hb m (.inr ⟨es,clock,h1⟩) h2
   exact⟨m,es,clock,p,rfl,k1.trans h1,k2,h3,hp,D.aP hb ks _ h4,D.aP hb vs _ h5⟩
theorem D.aP {B B':Nat->Prop}{w w':World}(hb:∀b,cP w b-> ¬B b->w'.heap[b]? =w.heap[b]? /\ ¬B' b):
 ∀ (ds:List D) (vs:List Value),D.aC B w ds vs->D.aC B' w' ds vs
 |[],_,h=>h
 |d::ds,_,h=>by
  obtain⟨u,us,rfl,h1,h2⟩:=h
  exact⟨u,us,rfl,D.aM hb d u h1,D.aP hb ds us h2⟩
theorem D.sM {B B':Nat->Prop}{w w':World}(hb:∀b,cP w b-> ¬B b->w'.heap[b]? =w.heap[b]? /\ ¬B' b)(sz:Nat)(a:Addr):
 ∀ (es:List D) (i:Nat),D.elems B w sz a i es->D.elems B' w' sz a i es
 |[],_,_=>trivial
 |e::es,i,h=>by
  obtain⟨⟨ev,h1,h2,h3⟩,h4⟩:=h
  exact⟨⟨ev,h1,h2.mono hb,D.aM hb e ev h3⟩,D.sM hb sz a es (i+1) h4⟩
end
theorem aK.mono {B B':Nat->Prop}{w w':World}(hb:∀b,cP w b-> ¬B b->w'.heap[b]? =w.heap[b]? /\ ¬B' b):
 ∀ (l:List (D×D)) (es:List MapEntry),aK B w l es->aK B' w' l es
 |[],_,h=>h
 |(k,x)::l,_,h=>by
  obtain⟨e,es,rfl,h1,h2,h3⟩:=h
  exact⟨e,es,rfl,D.aM hb k _ h1,D.aM hb x _ h2,aK.mono hb l es h3⟩
theorem xc.mono {B B':Nat->Prop}{w w':World}(hb:∀b,cP w b-> ¬B b->w'.heap[b]? =w.heap[b]? /\ ¬B' b){l:List (D×D)}{last:Option (D×D)}{b:Nat}(hbb:w'.heap[b]? =w.heap[b]?)(h:xc B w l last b):xc B' w' l last b:=by
 rcases h with⟨h1,h2⟩|⟨m,since,seen,es,h1,h2,h3,h4,h5,h6⟩
 ·exact .inl ⟨hbb.trans h1,h2⟩
 ·obtain⟨k1,k2⟩:=hb m (.inr ⟨es,since,h2⟩) h3
  obtain⟨l',h5,nJ⟩:=h5
  refine .inr ⟨m,since,seen,es,hbb.trans h1,k1.trans h2,k2,h4,⟨l',h5,aK.mono hb l' _ nJ⟩,fun k x e=> ?_⟩
  obtain⟨e,g1,g2,g3,g4⟩:=h6 k x e
  exact⟨e,g1,g2,D.aM hb k _ g3,D.aM hb x _ g4⟩
theorem ki{B:Nat->Prop}{w:World}:∀ (l:List (D×D)) (es:List MapEntry),aK B w l es↔D.aC B w (l.map (·.1)) (es.map (·.key))/\D.aC B w (l.map (·.2)) (es.map (·.val))
 |[],es=>by
  simp only[aK,List.map_nil,D.aC]
  constructor
  ·rintro rfl;exact⟨rfl,rfl⟩
  ·rintro⟨h,_⟩;simpa using h
 |(k,x)::l,es=>by
  simp only[aK,List.map_cons,D.aC]
  constructor
  ·rintro⟨e,es',rfl,h1,h2,h3⟩
   obtain⟨g1,g2⟩:=(ki l es').1 h3
   exact⟨⟨_,_,rfl,h1,g1⟩,⟨_,_,rfl,h2,g2⟩⟩
  ·rintro⟨⟨u,us,h1,h2,h3⟩,⟨v,vs,h4,h5,h6⟩⟩
   cases es with
   |nil=>simp at h1
   |cons e es'=>
    simp only[List.map_cons,List.cons.injEq]at h1 h4
    obtain⟨rfl,rfl⟩:=h1
    obtain⟨rfl,rfl⟩:=h4
    exact⟨e,es',rfl,h2,h5,(ki l es').2 ⟨h3,h6⟩⟩
theorem D.aA {B:Nat->Prop}{w:World}:∀ (ds:List D) (vs:List Value),D.aC B w ds vs->vs.length=ds.length
 |[],_,h=>by simp[D.aC]at h;simp[h]
 |d::ds,_,h=>by obtain⟨u,us,rfl,_,h2⟩:=h;simp[D.aA ds us h2]
theorem D.dk {B:Nat->Prop}{w:World}:∀ (ds:List D) (vs:List Value) (i:Nat) (d:D),D.aC B w ds vs->ds[i]? =some d->∃v,vs[i]? =some v/\D.den B w d v
 |[],_,_,_,_,hd=>by simp at hd
 |d::ds,_,0,x,h,hd=>by
  exact Oq
 |d::ds,_,i+1,x,h,hd=>by
  obtain⟨u,us,rfl,_,h2⟩:=h
  simpa using D.dk ds us i x h2 (by simpa using hd)
theorem D.vx {B:Nat->Prop}{w:World}{sz:Nat}{a:Addr}:∀ (es:List D) (i j:Nat) (e:D),D.elems B w sz a i es->es[j]? =some e->
 ∃ev:Value,ev.cells.size=sz/\fQ B w (a.add ((i+j)*sz)) ev.cells/\D.den B w e ev
 |[],_,_,_,_,hd=>by simp at hd
 |e::es,i,0,x,h,hd=>by
  simp at hd;subst hd;simpa using h.1
 |e::es,i,j+1,x,h,hd=>by
  have:=D.vx es (i+1) j x h.2 (by simpa using hd)
  simpa[Nat.add_assoc,Nat.add_comm 1 j]using this
section
variable {M:Nat->Prop}{φ aD:Place}{H H':Hp}{w w':World}
theorem Trans.blocks (ht:Trans φ H w aD H' w')(b:Nat)(hc:cP w b)(h: ¬ak M φ H b):w'.heap[b]? =w.heap[b]? /\ ¬ak M aD H' b:=by
 have hb:=hc.lt
 refine⟨ht.keep.block b hb fun hl=>h (.inr hl), ?_⟩
 rintro(h1|h1)
 ·exact h (.inl h1)
 ·rcases ht.grow b h1 with h2|h2
  ·exact h (.inr h2)
  ·omega
mutual
theorem V.kj (hb:∀b,cP w b-> ¬ak M φ H b->w'.heap[b]? =w.heap[b]? /\ ¬ak M aD H' b)(hr:dD φ H aD H'):∀ (x:V) (v:Value),V.den (ak M φ H) φ H w x v->V.den (ak M aD H') aD H' w' x v
 | .d x,v,h=>D.aM hb x v h
 | .bw,_,h=>h
 | .aa,_,_=>trivial
 | .pR es,v,h=>⟨D.aM hb (.sl es) v h.1,h.2⟩
 | .vw id off n,v,h=>by
   exact Q5
 | .mp id,v,h=>by
   obtain⟨h0,h1,h2⟩:=h
   refine⟨h0,hr.us id h1,fun bJ=> ?_⟩
   obtain⟨h3,h4⟩:=hr.row id h1 bJ
   exact(h2 h3).trans h4.symm
 | .eN,v,h=>h
 | .iD id,v,h=>by
   exact Q5
 | .agg cs,_,h=>by obtain⟨a,rfl,h,hf⟩:=h;exact⟨a,rfl,V.fe hb hr cs _ h,hf⟩
 | .bS cs,_,h=>by obtain⟨a,rfl,h⟩:=h;exact⟨a,rfl,V.fe hb hr cs _ h⟩
 | .ptr id off,v,h=>by
   exact Q5
 | .osl id ep,v,h=>by
   exact WM
 | .pe id ep i sz off,v,h=>by
   exact WM
 | .pp cs off,v,h=>by
   obtain⟨a,ev,h1,h2,h3,h5,h4⟩:=h
   exact⟨a,ev,h1,h2,D.aP hb cs ev h3,h5,h4.mono hb⟩
 | .func fn first cap,_,h=>by
   obtain⟨f,c,rfl,h1,h2⟩:=h
   exact⟨f,c,rfl,V.fe hb hr first _ h1,V.fe hb hr cap _ h2⟩
 | .iface t x,_,h=>by obtain⟨u,rfl,h⟩:=h;exact⟨u,rfl,V.kj hb hr x u h⟩
theorem V.fe (hb:∀b,cP w b-> ¬ak M φ H b->w'.heap[b]? =w.heap[b]? /\ ¬ak M aD H' b)(hr:dD φ H aD H'):∀ (ds:List V) (vs:List Value),V.aC (ak M φ H) φ H w ds vs->V.aC (ak M aD H') aD H' w' ds vs
 |[],_,h=>h
 |x::xs,_,h=>by
  obtain⟨u,us,rfl,h1,h2⟩:=h
  exact⟨u,us,rfl,V.kj hb hr x u h1,V.fe hb hr xs us h2⟩
end
theorem V.aM (ht:Trans φ H w aD H' w')(x:V)(v:Value)(h:V.den (ak M φ H) φ H w x v):V.den (ak M aD H') aD H' w' x v:=V.kj ht.blocks ht.rel x v h
theorem V.aP (ht:Trans φ H w aD H' w')(ds:List V)(vs:List Value)(h:V.aC (ak M φ H) φ H w ds vs):V.aC (ak M aD H') aD H' w' ds vs:=V.fe ht.blocks ht.rel ds vs h
end
end
end Go.Proofs.YtnkamdiiakdkgaaGreat
