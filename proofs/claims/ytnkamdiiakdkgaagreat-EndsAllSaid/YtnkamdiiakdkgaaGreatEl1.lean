/-
  A PART OF THE PROOF. Conditions: none.
-/
import Derived.WalkKit
import Derived.Below
set_option linter.unusedSimpArgs false
set_option linter.unusedVariables false
namespace Go.Proofs.YtnkamdiiakdkgaaGreat
theorem a8{G G':Prop}(g:G')(h:G=G':=by simp+contextual (disch:=first|omega|simp only[go_sem,false_implies]) only[go_sem,wrap64,if_pos,and_self]<;>rfl):G:=Eq.mpr h g
theorem iD{G G':Prop}(g:G')(h:G=G':=by simp+contextual (disch:=first|omega|simp only[go_sem,false_implies]) only[go_sem,wrap64,if_pos,Nat.add_assoc,Nat.left_eq_add,Nat.add_eq_left,Nat.add_left_cancel_iff]<;>rfl):G:=Eq.mpr h g
theorem jz{P0 G G':Prop}(p0:P0)(g:G')(h:P0->G=G':=by intro p0;simp+contextual (disch:=first|omega|simp only[go_sem,false_implies]) only[go_sem,wrap64,if_pos,p0]<;>rfl):G:=Eq.mpr (h p0) g
theorem oC{P0 G G':Prop}(p0:P0)(g:G')(h:P0->G=G':=by intro p0;simp+contextual (disch:=first|omega|simp only[go_sem,false_implies]) only[go_sem,wrap64,if_pos,List.length_map,p0]<;>rfl):G:=Eq.mpr (h p0) g
theorem xV{G:Prop}(h:G:=by simp+contextual (disch:=first|omega|simp only[go_sem,false_implies]) only[go_sem,wrap64,if_pos,and_self]):G:=h
theorem rM{G G':Prop}(g:G')(h:G=G':=by simp+contextual (disch:=first|omega|simp only[go_sem,false_implies]) only[go_sem,wrap64,if_pos,List.length_map]<;>rfl):G:=Eq.mpr h g
theorem cT{G G':Prop}(g:G')(h:G=G':=by simp+contextual only[go_sem]<;>rfl):G:=Eq.mpr h g
theorem Z1{P0 P1 G G':Prop}(p0:P0)(p1:P1)(g:G')(h:P0->P1->G=G':=by intro p0 p1;simp+contextual (disch:=first|omega|simp only[go_sem,false_implies]) only[go_sem,wrap64,if_pos,Nat.add_assoc,Nat.left_eq_add,Nat.add_eq_left,Nat.add_left_cancel_iff,List.length_map,p0,p1]<;>rfl):G:=Eq.mpr (h p0 p1) g
theorem Us{P0 G G':Prop}(p0:P0)(g:G')(h:P0->G=G':=by intro p0;simp+contextual (disch:=first|omega|simp only[go_sem,false_implies]) only[go_sem,wrap64,if_pos,Nat.add_assoc,Nat.left_eq_add,Nat.add_eq_left,Nat.add_left_cancel_iff,p0]<;>rfl):G:=Eq.mpr (h p0) g
theorem On{P0 P1 G G':Prop}(p0:P0)(p1:P1)(g:G')(h:P0->P1->G=G':=by intro p0 p1;simp+contextual (disch:=first|omega|simp only[go_sem,false_implies]) only[go_sem,wrap64,if_pos,List.length_map,p0,p1]<;>rfl):G:=Eq.mpr (h p0 p1) g
theorem uX{P0 G:Prop}(p0:P0)(h:P0->G:=by intro p0;simp+contextual (disch:=first|omega|simp only[go_sem,false_implies]) only[go_sem,wrap64,if_pos,p0]):G:=h p0
theorem xk{P0 P1 P2 G G':Prop}(p0:P0)(p1:P1)(p2:P2)(g:G')(h:P0->P1->P2->G=G':=by intro p0 p1 p2;simp+contextual (disch:=first|omega|simp only[go_sem,false_implies]) only[go_sem,wrap64,if_pos,p0,p1,p2]<;>rfl):G:=Eq.mpr (h p0 p1 p2) g
theorem xm{P0 P1 G G':Prop}(p0:P0)(p1:P1)(g:G')(h:P0->P1->G=G':=by intro p0 p1;simp+contextual (disch:=first|omega|simp only[go_sem,false_implies]) only[go_sem,wrap64,if_pos,p0,p1]<;>rfl):G:=Eq.mpr (h p0 p1) g
theorem EF{G G':Prop}(g:G')(h:G=G':=by simp+contextual (disch:=first|omega|simp only[go_sem,false_implies]) only[go_sem,wrap64,if_pos,ly]<;>rfl):G:=Eq.mpr h g
theorem OH{P0 P1 P2 G G':Prop}(p0:P0)(p1:P1)(p2:P2)(g:G')(h:P0->P1->P2->G=G':=by intro p0 p1 p2;simp+contextual (disch:=first|omega|simp only[go_sem,false_implies]) only[go_sem,wrap64,if_pos,Nat.add_assoc,Nat.left_eq_add,Nat.add_eq_left,Nat.add_left_cancel_iff,p0,p1,p2]<;>rfl):G:=Eq.mpr (h p0 p1 p2) g
theorem OI{P0 P1 G G':Prop}(p0:P0)(p1:P1)(g:G')(h:P0->P1->G=G':=by intro p0 p1;simp+contextual (disch:=first|omega|simp only[go_sem,false_implies]) only[go_sem,wrap64,if_pos,Nat.add_assoc,Nat.left_eq_add,Nat.add_eq_left,Nat.add_left_cancel_iff,p0,p1]<;>rfl):G:=Eq.mpr (h p0 p1) g
theorem Ut{G G':Prop}(g:G')(h:G=G':=by simp+contextual (disch:=first|omega|simp only[go_sem,false_implies]) only[go_sem,wrap64,if_pos,Nat.add_assoc,Nat.left_eq_add,Nat.add_eq_left,Nat.add_left_cancel_iff,List.length_map]<;>rfl):G:=Eq.mpr h g
theorem KN{P0 P1 P2 P3 P4 P5 G G':Prop}(p0:P0)(p1:P1)(p2:P2)(p3:P3)(p4:P4)(p5:P5)(g:G')(h:P0->P1->P2->P3->P4->P5->G=G':=by intro p0 p1 p2 p3 p4 p5;simp+contextual (disch:=first|omega|simp only[go_sem,false_implies]) only[go_sem,wrap64,if_pos,p0,p1,p2,p3,p4,p5]<;>rfl):G:=Eq.mpr (h p0 p1 p2 p3 p4 p5) g
theorem KO{P0 G G':Prop}(p0:P0)(g:G')(h:P0->G=G':=by intro p0;simp+contextual only[go_sem,Nat.add_assoc,Nat.left_eq_add,Nat.add_eq_left,Nat.add_left_cancel_iff,p0]<;>rfl):G:=Eq.mpr (h p0) g
theorem OJ{P0 P1 P2 G G':Prop}(p0:P0)(p1:P1)(p2:P2)(g:G')(h:P0->P1->P2->G=G':=by intro p0 p1 p2;simp+contextual (disch:=first|omega|simp only[go_sem,false_implies]) only[go_sem,wrap64,if_pos,List.length_map,p0,p1,p2]<;>rfl):G:=Eq.mpr (h p0 p1 p2) g
theorem ko{P0 G G':Prop}(p0:P0)(g:G')(h:P0->G=G':=by intro p0;simp+contextual only[go_sem,p0]<;>rfl):G:=Eq.mpr (h p0) g
theorem Z2{P0 P1 P2 P3 P4 P5 G G':Prop}(p0:P0)(p1:P1)(p2:P2)(p3:P3)(p4:P4)(p5:P5)(g:G')(h:P0->P1->P2->P3->P4->P5->G=G':=by intro p0 p1 p2 p3 p4 p5;simp+contextual (disch:=first|omega|simp only[go_sem,false_implies]) only[go_sem,wrap64,if_pos,Nat.add_assoc,Nat.left_eq_add,Nat.add_eq_left,Nat.add_left_cancel_iff,List.length_map,p0,p1,p2,p3,p4,p5]<;>rfl):G:=Eq.mpr (h p0 p1 p2 p3 p4 p5) g
theorem Z3{P0 P1 P2 P3 P4 P5 G G':Prop}(p0:P0)(p1:P1)(p2:P2)(p3:P3)(p4:P4)(p5:P5)(g:G')(h:P0->P1->P2->P3->P4->P5->G=G':=by intro p0 p1 p2 p3 p4 p5;simp+contextual (disch:=first|omega|simp only[go_sem,false_implies]) only[go_sem,wrap64,if_pos,List.length_map,Nat.add_assoc,Nat.left_eq_add,Nat.add_eq_left,Nat.add_left_cancel_iff,p0,p1,p2,p3,p4,p5]<;>rfl):G:=Eq.mpr (h p0 p1 p2 p3 p4 p5) g
theorem Z4{P0 P1 P2 G G':Prop}(p0:P0)(p1:P1)(p2:P2)(g:G')(h:P0->P1->P2->G=G':=by intro p0 p1 p2;simp+contextual (disch:=first|omega|simp only[go_sem,false_implies]) only[go_sem,wrap64,if_pos,Nat.add_assoc,Nat.left_eq_add,Nat.add_eq_left,Nat.add_left_cancel_iff,zI,p0,p1,p2]<;>rfl):G:=Eq.mpr (h p0 p1 p2) g
theorem Z5{G G':Prop}(g:G')(h:G=G':=by simp+contextual (disch:=first|omega|simp only[go_sem,false_implies]) only[go_sem,wrap64,if_pos,Nat.add_assoc,Nat.left_eq_add,Nat.add_eq_left,Nat.add_left_cancel_iff,uv]<;>rfl):G:=Eq.mpr h g
theorem Z6{G G':Prop}(g:G')(h:G=G':=by simp+contextual (disch:=first|omega|simp only[go_sem,false_implies]) only[go_sem,wrap64,if_pos,Uu,Nat.add_assoc,Nat.left_eq_add,Nat.add_eq_left,Nat.add_left_cancel_iff]<;>rfl):G:=Eq.mpr h g
theorem aeU{G G':Prop}(g:G')(h:G=G':=by simp+contextual (disch:=first|omega|simp only[go_sem,false_implies]) only[go_sem,wrap64,if_pos,ly,Nat.add_assoc,Nat.left_eq_add,Nat.add_eq_left,Nat.add_left_cancel_iff]<;>rfl):G:=Eq.mpr h g
theorem Uv{P0 G G':Prop}(p0:P0)(g:G')(h:P0->G=G':=by intro p0;simp+contextual (disch:=first|omega|simp only[go_sem,false_implies]) only[go_sem,wrap64,if_pos,k0,k2,p0]<;>rfl):G:=Eq.mpr (h p0) g
theorem Z7{P0 G G':Prop}(p0:P0)(g:G')(h:P0->G=G':=by intro p0;simp+contextual (disch:=first|omega|simp only[go_sem,false_implies]) only[go_sem,wrap64,if_pos,Int.toNat_natCast,Nat.mul_one,xW,Option.map_some,p0]<;>rfl):G:=Eq.mpr (h p0) g
theorem Uw{P0 P1 P2 G G':Prop}(p0:P0)(p1:P1)(p2:P2)(g:G')(h:P0->P1->P2->G=G':=by intro p0 p1 p2;simp+contextual only[go_sem,Nat.add_assoc,Nat.left_eq_add,Nat.add_eq_left,Nat.add_left_cancel_iff,p0,p1,p2]<;>rfl):G:=Eq.mpr (h p0 p1 p2) g
theorem Z8{P0 P1 G G':Prop}(p0:P0)(p1:P1)(g:G')(h:P0->P1->G=G':=by intro p0 p1;simp+contextual (disch:=first|omega|simp only[go_sem,false_implies]) only[go_sem,wrap64,if_pos,List.length_map,k0,k2,p0,p1]<;>rfl):G:=Eq.mpr (h p0 p1) g
theorem Z9{G G':Prop}(g:G')(h:G=G':=by simp+contextual only[go_sem,KQ,Nat.add_assoc,Nat.left_eq_add,Nat.add_eq_left,Nat.add_left_cancel_iff,List.replicate]<;>rfl):G:=Eq.mpr h g
theorem aaa{G:Prop}(h:G:=by simp+contextual (disch:=first|omega|simp only[go_sem,false_implies]) only[go_sem,wrap64,if_pos,List.length_map]):G:=h
theorem aab{G:Prop}(h:G:=by simp+contextual (disch:=first|omega|simp only[go_sem,false_implies]) only[go_sem,wrap64,if_pos,ly]):G:=h
theorem cz{P:Prop}(h:P:=by(repeat(first|exact Iz|refine EG ?_|refine Gn rfl ?_|refine Gn (BI (BJ (by omega))) ?_|refine OK rfl (by simp[V.refs,V.aE]<;>first|omega|assumption) ?_))):P:=h
theorem fm{P:Prop}(h:P:=by repeat(first|exact hg.mono (by omega)|exact Good.nil|refine Good.ax ?_ (by omega) rfl|refine Good.ax ?_ (by omega) (xX _ _ _ (by omega))|refine Good.ax ?_ (by omega) (by simp[ab.refs,V.aE,V.refs]<;>omega))):P:=h
theorem ag{P:Prop}(h:P:=by omega):P:=h
theorem ai{P:Prop}(h:P:=by kernel_rfl):P:=h
theorem zy4{P:Prop}(h:P:=by simp[V.refs,V.aE]<;>first|omega|assumption):P:=h
theorem tU{P:Prop}(h:P:=by(repeat(first|exact p6|refine dk ?_|refine jG rfl ?_|refine jG (BI (BJ (by omega))) ?_|refine mY 0 rfl rfl rfl ?_|refine mZ rfl (by simp[V.refs,V.aE]<;>first|omega|assumption) ?_|refine rN rfl (by simp[V.ids]<;>omega) ?_))):P:=h
theorem fq{P:Prop}(h:P:=by(repeat(first|rfl|rw[af]|rw[ae _ _ _ _ (by omega)]))):P:=h
theorem zy7{P:Prop}(h:P:=by simp[ab.refs,V.aE,V.refs]<;>omega):P:=h
theorem aI{P:Prop}(h:P:=by simp):P:=h
theorem YL{P:Prop}(h:P:=by simp only[ax]<;>((repeat' split)<;>first|rfl|omega|(subst_vars;first|rfl|assumption|(symm;assumption)|omega|(simp_all;done)))):P:=h
theorem EH{P:Prop}(h:P:=by rintro⟨h1,h2⟩;first|(cases h1;done)|(cases h2;done)):P:=h
theorem iX{P:Prop}(h:P:=by simpa[execOp,gW]using this):P:=h
theorem Ux{P:Prop}(h:P:=by simp[V.ids]<;>omega):P:=h
theorem xn{P:Prop}(h:P:=by cases rs with|nil=>exact ho.elim|cons x l=>cases l<;>exact ho.elim):P:=h
theorem bI{P:Prop}(h:P:=by decide):P:=h
theorem KT{P:Prop}(h:P:=by simp+contextual (disch:=first|omega|simp only[go_sem,false_implies]) only[go_sem,wrap64,if_pos,and_self];simp[ly]):P:=h
theorem BK{P:Prop}(h:P:=by subst e;(repeat(first|rfl|rw[af]|rw[ae _ _ _ _ (by omega)]))):P:=h
theorem OL{P:Prop}(h:P:=by exact(by simp only[ax]<;>((repeat' split)<;>first|rfl|omega|(subst_vars;first|rfl|assumption|(symm;assumption)|omega|(simp_all;done))))):P:=h
theorem KU{P:Prop}(h:P:=by exact⟨_,oD,jH,hq, .of_steps (.one h0 stepR_seq) (.pass (x:= .code y) rfl (fun _ _=> .inl (by simp)) dg)⟩):P:=h
theorem eH{P:Prop}(h:P:=by rw[ho];rfl):P:=h
theorem kp{P:Prop}(h:P:=by dsimp only;omega):P:=h
theorem Uy{P:Prop}(h:P:=by exact⟨false, .inl rfl,rfl,jI (fun _ _ h=>by cases h.1) (by rintro⟨h1,h2⟩;first|(cases h1;done)|(cases h2;done)),eq _ (fun d=>by rw[aac w d ht])⟩):P:=h
theorem IA{P:Prop}(h:P:=by(repeat(first|exact IB|refine EI ?_|refine OM rfl ?_))):P:=h
theorem Uz{P:Prop}(h:P:=by rw[EJ,List.any_append,List.any_cons,hb,List.any_nil,Bool.or_false,Bool.or_false];(repeat(first|rfl|rw[af]|rw[ae _ _ _ _ (by omega)]))):P:=h
theorem gE{P:Prop}(h:P:=by simp;omega):P:=h
theorem oE{P:Prop}(h:P:=by simp[V.aE,V.refs]):P:=h
theorem aad{P:Prop}(h:P:=by exact⟨_,_,_,_,_,_,_,hK,by simp[Instr.range,run_underlying ht,rO], .inl rfl,n1,n2,⟨rfl,by simp,fun _=>⟨w.heap.size,by simp,rfl⟩⟩,fun j hj=> .inr (by simpa using hj)⟩):P:=h
theorem aae{P:Prop}(h:P:=by exact⟨_,_,_,_,_,_,_,hK,by simp[Instr.range,run_underlying ht], .inl rfl,n1,n2,⟨rfl,by simp,fun _=>⟨w.heap.size,by simp,rfl⟩⟩,fun j hj=> .inr (by simpa using hj)⟩):P:=h
theorem m4{P:Prop}(h:P:=by simpa using hj):P:=h
theorem zJ{P:Prop}(h:P:=by simp[Op.equalIn,run_underlying ht]):P:=h
theorem ON{P:Prop}(h:P:=by unfold Oo;(repeat(first|rfl|rw[af]|rw[ae _ _ _ _ (by omega)]))):P:=h
theorem aeV{P:Prop}(h:P:=by exact⟨false, .inl rfl,rfl,jI (fun _ _ h=>by cases h.1) (by rintro⟨h1,h2⟩;first|(cases h1;done)|(cases h2;done)),eq _ (fun d=>by rw[aaf w d ht])⟩):P:=h
theorem aeW{P:Prop}(h:P:=by exact⟨false, .inl rfl,rfl,jI (fun _ _ h=>by cases h.1) (by rintro⟨h1,h2⟩;first|(cases h1;done)|(cases h2;done)),eq _ (fun d=>by rw[aag w d ht])⟩):P:=h
theorem aah{P:Prop}(h:P:=by exact⟨false, .inl rfl,rfl,jI (fun _ _ h=>by cases h.1) (by rintro⟨h1,h2⟩;first|(cases h1;done)|(cases h2;done)),eq _ (fun d=>by rw[aai w d ht])⟩):P:=h
theorem ID{P:Prop}(h:P:=by rw[m2.eq id (by omega)];unfold ext;rw[if_pos aq]):P:=h
theorem OO{P:Prop}(h:P:=by exact hK _ _ (by omega) (m2.mono (by omega)) fun id i1 i2=>m3 id i1 (by omega)):P:=h
theorem zK{P:Prop}(h:P:=by simp[ab.refs,V.aE,V.refs]):P:=h
theorem aaj{P:Prop}(h:P:=by exact⟨a,ev,h1,h2,D.aQ (w:=w) (w':=w) (fun b _ hn=>⟨rfl,hB b hn⟩) cs ev h3,h5,h4.mono (w:=w) (w':=w) (fun b _ hn=>⟨rfl,hB b hn⟩)⟩):P:=h
theorem aeX{P:Prop}(h:P:=by exact hK _ _ (by omega) (m2.mono (by omega)) fun id i1 i2=>(m3 id i1 (by omega)).trans (cP id i1 i2)):P:=h
theorem aak{P:Prop}(h:P:=by exact .inl ⟨_,_,_, .inr ⟨c,f,g,first,cap,hc,eX,hf, .inr (.inl ⟨rs,hH,rfl,fun id aq=>by simpa using List.all_eq_true.1 m5 id aq⟩)⟩,h⟩):P:=h
theorem aal{P:Prop}(h:P:=by exact .inl ⟨_,_,_, .inr ⟨c,f,g,first,cap,hc,eX,hf, .inr (.inr (.inr ⟨hH,fun id aq=>by simpa using List.all_eq_true.1 m5 id aq⟩))⟩,h⟩):P:=h
theorem aam{P:Prop}(h:P:=by exact cI.same hH _ hK (by simp only[Sem.run_bind,hr,Result.andThen_ok];rfl) ⟨_,rfl,zv,[.bool false],rfl,r2, .bool false,[],rfl,rfl,rfl⟩):P:=h
theorem aan{P:Prop}(h:P:=by exact .inr ⟨_,_,_,⟨c,f,g,first,cap,hc,eX,hf, .inr ⟨x,Δ,hH,rfl,rfl,fun id aq=>by simpa using List.all_eq_true.1 m5 id aq⟩⟩,h⟩):P:=h
theorem KW{P:Prop}(h:P:=by rw[hold id (by omega) (by omega),EK id (by omega) aq]):P:=h
theorem o7{P:Prop}(h:P:=by simp[oM,aq]):P:=h
theorem UA{P:Prop}(h:P:=by rw[m2.eq id (by omega)];unfold ext;rw[if_neg (by omega),ae _ _ _ _ (by omega)]):P:=h
theorem UB{P:Prop}(h:P:=by rw[p3 id (by omega) (by omega),cP id (by omega) (by omega),EK id (by omega) aq]):P:=h
theorem aao{P:Prop}(h:P:=by exact hK _ _ (by omega) (uw.mono (by omega)) cP):P:=h
theorem aap{P:Prop}(h:P:=by rw[h];simp+contextual (disch:=first|omega|simp only[go_sem,false_implies]) only[go_sem,wrap64,if_pos,and_self]):P:=h
theorem aaq{P:Prop}(h:P:=by exact(uw.ax (i:=nx'+3) (m:=nx'+7) (by omega) (by omega) (by omega) rfl).ax (by omega) (by omega) (by omega) rfl):P:=h
theorem UC{P:Prop}(h:P:=by subst e2;(repeat(first|rfl|rw[af]|rw[ae _ _ _ _ (by omega)]))):P:=h
theorem UD{P:Prop}(h:P:=by subst ec;(repeat(first|rfl|rw[af]|rw[ae _ _ _ _ (by omega)]))):P:=h
theorem aar{P:Prop}(h:P:=by unfold p7 Ez;rw[if_neg h4,if_pos h6];(repeat(first|rfl|rw[af]|rw[ae _ _ _ _ (by omega)]));simp):P:=h
theorem aeY{P:Prop}(h:P:=by exact⟨b,r,k1,k2,k3,k4,k5,k6,k7,k8,k9,fun i=>eY _ _ (fun r hr=>hrefs r (V.xY _ _ r hr)) (k10 i)⟩):P:=h
theorem aas{P:Prop}(h:P:=by exact uY (y:=B j) (ho j hj e1) (Gp B e1 (by omega) ds ty sz _) (cV rfl (fun q hq=>hg.refs j q hq))):P:=h
theorem UE{P:Prop}(h:P:=by exact(hI.ax (by omega) (by omega) (by omega) hr).ext (by omega) (by omega)):P:=h
theorem OP{P:Prop}(h:P:=by simpa[execOp,gW,resolve,invoke,builtin]using this):P:=h
theorem OQ{P:Prop}(h:P:=by exact D.aO (fun b _ hn=>⟨rfl,hB b hn⟩) _ _ bc):P:=h
theorem aat{P:Prop}(h:P:=by exact hK _ _ (by omega) (m2.mono (by omega)) fun id i1 i2=>by rw[m3 id i1 (by omega),ae _ _ _ _ (by omega)]):P:=h
theorem aau{P:Prop}(h:P:=by exact⟨fo OR.1,fo OR.2,fun id aq=>⟨dj xZ.1.1 id aq,dj xZ.1.2 id aq⟩,fun id aq=>dj xZ.2 id aq⟩):P:=h
theorem aav{P:Prop}(h:P:=by rw[show(i*4+j)/4=i by omega,show(i*4+j)%4=j by omega]):P:=h
theorem aaw{P:Prop}(h:P:=by unfold m6;rw[if_pos h5];(repeat(first|rfl|rw[af]|rw[ae _ _ _ _ (by omega)]));simp):P:=h
theorem aax{P:Prop}(h:P:=by simp only[Sem.run_bind,hr,Result.andThen_ok];rfl):P:=h
theorem KY{P:Prop}(h:P:=by simp[ab.refs,V.aE,V.refs];omega):P:=h
theorem aay{P:Prop}(h:P:=by(repeat(first|rfl|rw[af]|rw[ae _ _ _ _ (by omega)]));exact EL _ _ _ _ (by omega)):P:=h
theorem UF{P:Prop}(h:P:=by rw[ae _ _ _ _ rP,IE _ _ (by omega)];exact h0 id (by omega)):P:=h
theorem aaz{P:Prop}(h:P:=by exact fin _ [] (fun b hb=>by cases hb) dO (World.ownsRow_nil w' 0 ty sz) ⟨[],rfl,by simp,rfl⟩ rfl):P:=h
theorem UG{P:Prop}(h:P:=by exact BL hL k3 (key _ _ _ (by rw[hj];rfl) (UH _ _ hj))):P:=h
theorem aaA{P:Prop}(h:P:=by simp only[Op.operands,Call.operands];exact Array.mem_append.2 (.inr (Array.mem_toList_iff.1 hx))):P:=h
theorem aaB{P:Prop}(h:P:=by rw[hn,hI,EM hx];rfl):P:=h
theorem UI{P:Prop}(h:P:=by exact EN hL k3 (key _ _ _ (by rw[hj];rfl) (UH _ _ hj))):P:=h
theorem aeZ{P:Prop}(h:P:=by exact KZ hu cP (fun id h=> .inl (by rw[kW]at h;exact h)) g1.symm g3 iY (lz rfl)):P:=h
theorem UJ{P:Prop}(h:P:=by exact(hg.mono (by omega)).ax (by omega) (xX _ _ _ (by omega))):P:=h
theorem K0{P:Prop}(h:P:=by injection h with h;subst h;exact hK):P:=h
theorem aaC{P:Prop}(h:P:=by simp only[h1,cX,Option.map_some];exact hK):P:=h
theorem aaD{P:Prop}(h:P:=by exact⟨k1,BM.tr.trans k2,BM.size,BM.defers.mono k2,fun j=>V.aO k2 _ _ (BM.env j)⟩):P:=h
theorem aaE{P:Prop}(h:P:=by rw[ae _ _ _ _ e,ae _ _ _ _ e,ae _ _ _ _ (by omega),hI.eq j hj,ae _ _ _ _ e]):P:=h
theorem EO{P:Prop}(h:P:=by simp[ab.refs,jq]):P:=h
theorem UK{P:Prop}(h:P:=by exact IF hL k3 (key _ _ _ (by rw[hj];rfl) (Oq _ hj))):P:=h
theorem OS{P:Prop}(h:P:=by exact V.aO (ht.trans k2) _ _ (hs.env i)):P:=h
theorem BN{P:Prop}(h:P:=by simp[V.refs]):P:=h
theorem ae0{P:Prop}(h:P:=by exact⟨k1,hs.tr.trans k2,hs.size,hs.defers.mono k2,fun j=>V.aO k2 _ _ (hs.env j)⟩):P:=h
theorem aaF{P:Prop}(h:P:=by rw[m3 id h2 (by omega),ae _ _ _ _ (by omega),ae _ _ _ _ (by omega),cP id h2 h3]):P:=h
theorem aaG{P:Prop}(h:P:=by exact hQ _ _ _ _ val k5 (eJ hs k1 k2 (o':=o') (nx':=nx') rfl fun id hu=>hu) k4):P:=h
theorem UL{P:Prop}(h:P:=by exact⟨_,oD,jH,hq, .of_steps (.one h0 stepR_block) dg⟩):P:=h
theorem UM{P:Prop}(h:P:=by exact⟨_,oD,jH,hq, .of_steps (.one h0 kA) dg⟩):P:=h
theorem K1{P:Prop}(h:P:=by unfold fl;rw[OT trivial]):P:=h
theorem aaH{P:Prop}(h:P:=by exact .inr (.inr (.inr (oN.mono (fun v o n h=>hK _ h) (fun v o n h=>hX _ _ h) h)))):P:=h
theorem o8{P:Prop}(h:P:=by simp[hx]):P:=h
theorem UN{P:Prop}(h:P:=by rw[ae _ _ _ _ (by omega)];exact k4 id (by omega) g2):P:=h
theorem UO{P:Prop}(h:P:=by rw[hI.eq bx Ot];unfold ext;rw[if_neg (by omega),hO]):P:=h
theorem aaI{P:Prop}(h:P:=by(repeat(first|rfl|rw[af]|rw[ae _ _ _ _ (by omega)]));exact cP j hj):P:=h
theorem aaJ{P:Prop}(h:P:=by exact⟨none,0,0,rfl,rfl,Nat.le_refl _,fun _=>rfl,0,fun a ha=>by cases ha⟩):P:=h
theorem aaK{P:Prop}(h:P:=by exact⟨b,es',clock,k1,k2,k4,aL.mono (fun b _ hn=>⟨rfl,hB b hn⟩) _ _ k3⟩):P:=h
theorem OU{P:Prop}(h:P:=by rw[show(hp o nx).o id=_ from ho];rfl):P:=h
theorem aaL{P:Prop}(h:P:=by unfold K2;(repeat(first|rfl|rw[af]|rw[ae _ _ _ _ (by omega)]))):P:=h
theorem aaM{P:Prop}(h:P:=by exact fun k hk s' h1 h2=>BO _ (fun x hx=>aW x (kq k hk x hx)) s' h1 h2):P:=h
theorem UP{P:Prop}(h:P:=by injection h with h;subst h;exact⟨by assumption,hK⟩):P:=h
theorem aaN{P:Prop}(h:P:=by exact⟨k1,xs,k2,evs,k3,k4,D.aQ (fun b _ hn=>⟨rfl,hB b hn⟩) _ _ k5⟩):P:=h
theorem aaO{P:Prop}(h:P:=by subst e23;(repeat(first|rfl|rw[af]|rw[ae _ _ _ _ (by omega)]))):P:=h
theorem kD{P:Prop}(h:P:=by simp[hy]):P:=h
theorem Rn{P:Prop}(h:P:=by rw[show((hp o nx).put (bT o x.ids)).o j=_ from f4 j hm];exact mS.rfl' rfl):P:=h
theorem Ro{P:Prop}(h:P:=by subst ea;(repeat(first|rfl|rw[af]|rw[ae _ _ _ _ (by omega)]))):P:=h
theorem Rp{P:Prop}(h:P:=by subst en;(repeat(first|rfl|rw[af]|rw[ae _ _ _ _ (by omega)]))):P:=h
theorem Rq{P:Prop}(h:P:=by subst eo;(repeat(first|rfl|rw[af]|rw[ae _ _ _ _ (by omega)]))):P:=h
theorem K4{P:Prop}(h:P:=by rw[List.length_append,List.length_singleton];omega):P:=h
theorem Rr{P:Prop}(h:P:=by(repeat(first|rfl|rw[af]|rw[ae _ _ _ _ (by omega)]));exact r1):P:=h
theorem Rs{P:Prop}(h:P:=by(repeat(first|rfl|rw[af]|rw[ae _ _ _ _ (by omega)]));exact r3):P:=h
theorem Rt{P:Prop}(h:P:=by(repeat(first|rfl|rw[af]|rw[ae _ _ _ _ (by omega)]));exact r2):P:=h
theorem Ru{P:Prop}(h:P:=by(repeat(first|rfl|rw[af]|rw[ae _ _ _ _ (by omega)]));exact o1):P:=h
theorem Rv{P:Prop}(h:P:=by(repeat(first|rfl|rw[af]|rw[ae _ _ _ _ (by omega)]));exact o5):P:=h
theorem Rw{P:Prop}(h:P:=by(repeat(first|rfl|rw[af]|rw[ae _ _ _ _ (by omega)]));exact o2):P:=h
theorem Rx{P:Prop}(h:P:=by exact hH.fresh j fun hu=>h (.inl hu)):P:=h
theorem aaP{P:Prop}(h:P:=by exact⟨r, .inl rfl,by obtain⟨_,rfl,_⟩:=hx;rfl,fun op=>g2 op p q,g1⟩):P:=h
theorem K5{P:Prop}(h:P:=by simp at h;obtain⟨rfl,rfl⟩:=h;exact⟨rfl,rfl⟩):P:=h
theorem Ry{P:Prop}(h:P:=by exact hN _ _ _ (jJ hs k1 k2 (m7 ho) cQ rfl fun id hu=> .inl hu)):P:=h
theorem Rz{P:Prop}(h:P:=by rw[show((hp o nx).put (bT o x.ids)).o j=_ from f3 j hm];exact mS.fz _):P:=h
theorem K6{P:Prop}(h:P:=by rw[IE _ _ (by omega)];exact k2.eq id (by omega)):P:=h
theorem RA{P:Prop}(h:P:=by exact⟨_,_,_,_,_,_,_,hK,by simp[hr], .inl rfl,h1,h2,h3,by simp⟩):P:=h
theorem aaQ{P:Prop}(h:P:=by simp only[a0,Array.size_append,Array.size_replicate];simp at hlen;omega):P:=h
theorem aaR{P:Prop}(h:P:=by exact forall_congr' fun k=>forall_congr' fun hk=>by rw[ih k hk (d+1)]):P:=h
theorem RB{P:Prop}(h:P:=by cases xv<;>first|(simp[RC]at hwd;done)|(cases yv<;>simp[he])):P:=h
theorem RD{P:Prop}(h:P:=by exact⟨x,b.trans y,z⟩):P:=h
theorem x5{P:Prop}(h:P:=by simpa[V.refs]using hr):P:=h
theorem K7{P:Prop}(h:P:=by unfold iV;rw[List.map_append,List.sum_append]):P:=h
theorem RE{P:Prop}(h:P:=by exact(Gp B (by omega) (by omega) ds ty sz _).trans (gY j (by omega))):P:=h
theorem K8{P:Prop}(h:P:=by rw[m5];simp only[oM,eX,xo];exact aq):P:=h
theorem RF{P:Prop}(h:P:=by rw[o9];exact List.mem_cons_of_mem _ (List.mem_flatMap.2 ⟨k,hk,hx⟩)):P:=h
theorem K9{P:Prop}(h:P:=by show fs.length - (k+1)<fs.length - k;omega):P:=h
theorem RG{P:Prop}(h:P:=by exact hN _ _ _ _ k3.2 (n6 hs k1 k2 k3.1 cQ rfl fun id hu=>hu)):P:=h
theorem La{P:Prop}(h:P:=by simp at hl;obtain⟨rfl,rfl⟩:=hl;exact hK):P:=h
theorem Lb{P:Prop}(h:P:=by simp at hj hy;subst hj;subst hy;exact aW):P:=h
theorem Gq{P:Prop}(h:P:=by rw[if_neg e,if_neg (by omega)]):P:=h
theorem BP{P:Prop}(h:P:=by exact .inr ⟨by omega,h2⟩):P:=h
theorem agE{P:Prop}(h:P:=by rw[hj];rfl):P:=h
theorem aaS{P:Prop}(h:P:=by exact h3 e (Array.mem_toList_iff.1 he) hb):P:=h
theorem Gs{P:Prop}(h:P:=by rw[hg];simp[dS,hv,e]):P:=h
theorem RH{P:Prop}(h:P:=by exact cI.same hH _ h (by simp[execOp,gW,hr]) ⟨_,rfl,hv⟩):P:=h
theorem Lc{P:Prop}(h:P:=by rw[ux];exact cW all _ bc):P:=h
theorem Ld{P:Prop}(h:P:=by subst rP;rw[af];exact hh.symm):P:=h
theorem s6{P:Prop}(h:P:=by rw[xf];rfl):P:=h
theorem RI{P:Prop}(h:P:=by exact bE t u hu (hQ _ s φ w (.iface t u) h hs ⟨u,rfl,hd⟩)):P:=h
theorem Gt{P:Prop}(h:P:=by simp[binOp,BQ hr]):P:=h
theorem Le{P:Prop}(h:P:=by exact⟨.ret,s',aG,hq,jr,trivial⟩):P:=h
theorem RJ{P:Prop}(h:P:=by exact⟨e',UQ,fr',hR,ComesIn.of_steps RK hs,Kz,hl⟩):P:=h
theorem s7{P:Prop}(h:P:=by rw[hx];rfl):P:=h
theorem x6{P:Prop}(h:P:=by rw[hx];exact hk):P:=h
theorem Lf{P:Prop}(h:P:=by rw[xg i hi];exact congrArg some hb):P:=h
theorem RL{P:Prop}(h:P:=by exact⟨b,k1,k2.mono (fun b _ hn=>⟨rfl,hB b hn⟩) rfl⟩):P:=h
theorem Lg{P:Prop}(h:P:=by rw[List.drop_eq_getElem_cons g1,g2]):P:=h
theorem uZ{P:Prop}(h:P:=by simpa using h2):P:=h
theorem Lh{P:Prop}(h:P:=by unfold fl;exact Eq.trans rfl rfl):P:=h
theorem p8{P:Prop}(h:P:=by assumption):P:=h
theorem Li{P:Prop}(h:P:=by subst rP;rw[af,Oq _ YM]):P:=h
theorem Gu{P:Prop}(h:P:=by rw[YN]at hl;simp at hl):P:=h
theorem Gv{P:Prop}(h:P:=by subst hi;simp[Ne.symm h]):P:=h
theorem Lj{P:Prop}(h:P:=by exact⟨.bE _,s',aG,hq,jr,hm⟩):P:=h
theorem Lk{P:Prop}(h:P:=by unfold IG;exact Eq.trans rfl rfl):P:=h
theorem Gw{P:Prop}(h:P:=by exact fun _=>BR _ _ _):P:=h
theorem Gx{P:Prop}(h:P:=by exact List.Sublist.refl _):P:=h
theorem Ll{P:Prop}(h:P:=by exact lY o2 s2 (.inl i1) i2 i3):P:=h
theorem Lm{P:Prop}(h:P:=by unfold eqGuard;cases op<;>simp):P:=h
theorem Gy{P:Prop}(h:P:=by rw[h]at h1;simp at h1):P:=h
theorem Ln{P:Prop}(h:P:=by simpa only[n7]using this):P:=h
theorem Gz{P:Prop}(h:P:=by exact hI.mono (by omega)):P:=h
theorem aaT{P:Prop}(h:P:=by cases(aw step s l).2<;>simp):P:=h
theorem Lo{P:Prop}(h:P:=by simp[hj]at hr;exact⟨hr,rfl⟩):P:=h
theorem Lp{P:Prop}(h:P:=by rw[IE _ _ EP, <- h0 _ EP,ht]):P:=h
theorem Lq{P:Prop}(h:P:=by simp at hj;subst hj;exact ed):P:=h
theorem x7{P:Prop}(h:P:=by simpa using hx):P:=h
theorem Lr{P:Prop}(h:P:=by rw[ht];exact ab.noConfusion):P:=h
theorem x8{P:Prop}(h:P:=by rw[h1];rfl):P:=h
theorem BS{P:Prop}(h:P:=by cases b<;>rfl):P:=h
theorem BT{P:Prop}(h:P:=by rw[o9];simp):P:=h
theorem aaU{P:Prop}(h:P:=by exact⟨b,h4.trans h5,h6⟩):P:=h
theorem zw0{P:Prop}(h:P:=by refine ak (k+1,(step s' x).1,o2,n2+1+1) ⟨h1,m2.mono (show n2<=n2+1+1 from ag),(show nx<=n2+1+1 from ag),fun id i1 i2=>(m3 id i1 ag).trans (cP id i1 i2),hf,aW x gf s' iG hb,by rw[u0];rfl⟩ kp (bt.aT _ (show nx<=n2+1+1 from ag) (Nat.le_refl _) (m2.mono (show n2<=n2+1+1 from ag)).bn (fun _ _=>rfl) ?_);exact cz):P:=h
theorem RM{P:Prop}(h:P:=by refine aH (aR rfl) ?_;refine a8 ?_;rw[e]):P:=h
theorem zw2{P:Prop}(h:P:=by rw[hr,if_pos rfl]at BA;refine a8 ?_;refine ak (k+1,(aw step s' (lX x (q++[(k:Int)]) false)).1,o5,n5+1+1) ⟨h1,p2.mono (show n5<=n5+1+1 from ag),(show nx<n5+1+1 from ag),by dsimp only;rw[p3 nx (by omega) (Nat.le_refl _),bG],fun id i1 i2=>(p3 id i1 ag).trans (cP id i1 i2),by dsimp only;rw[tV];exact BA,by dsimp only;rw[tV];exact rQ step ok aW _ _ s' iG hr⟩ kp (bt.aT _ (show nx<=n5+1+1 from ag) kp (p2.mono (show n5<=n5+1+1 from ag)).bn (fun _ _=>rfl) ?_);exact cz):P:=h
theorem YO{P:Prop}(h:P:=by rw[List.drop_eq_getElem_cons h1];rw[List.getElem?_eq_getElem h1]at hx;injection hx with hx;rw[hx]):P:=h
theorem zw6{P:Prop}(h:P:=by refine aH (aR rfl) ?_;refine jz q2 ?_;refine cL _ _ _ .busy none ag (fin _ _ (fun id aq=>YL) fm ag) fq (fun id h3 h4=>by(repeat(first|rfl|rw[af]|rw[ae _ _ _ _ (by omega)])))):P:=h
theorem zw7{P:Prop}(h:P:=by simp+contextual (disch:=first|omega|simp only[go_sem,false_implies]) only[go_sem,wrap64,if_pos,q,List.length_map,if_pos hc1];refine ak (1+1) ag ag (uy a b 2 _ (.inr ⟨0,1,trivial,rfl,by(repeat(first|rfl|rw[af]|rw[ae _ _ _ _ (by omega)]));rw[show(zL a b 2)=a++b from rfl,List.map_append];rfl⟩) ?_);exact tU):P:=h
theorem Ls{P:Prop}(h:P:=by dsimp only;refine bt.aT _ (Nat.le_refl _) ag hI.bn (fun _ _=>rfl) ?_;exact cz):P:=h
theorem aaV{P:Prop}(h:P:=by simp+contextual (disch:=first|omega|simp only[go_sem,false_implies]) only[go_sem,wrap64,if_pos,q,List.length_map,if_pos KA];refine ak (0+1) ag ag (uy a b 1 _ (.inr ⟨0,1,trivial,rfl,by(repeat(first|rfl|rw[af]|rw[ae _ _ _ _ (by omega)]))⟩) ?_);exact tU):P:=h
theorem OV{P:Prop}(h:P:=by refine aD hkn rfl ?_;exact xV):P:=h
theorem OW{P:Prop}(h:P:=by simp[Ef,Array.getD_eq_getD_getElem?,Array.getElem?_replicate]at jl;split at jl<;>simp at jl):P:=h
theorem UR{P:Prop}(h:P:=by obtain⟨h0,h1,h2⟩:=h;refine⟨h0,hr.us id h1,fun bG=> ?_⟩;obtain⟨h3,h4⟩:=hr.row id h1 bG;obtain⟨b,h5,h6⟩:=h2 h3;exact aaU):P:=h
theorem US{P:Prop}(h:P:=by obtain⟨a,b,c⟩:=hr id BN;obtain⟨h0,h1,h2⟩:=h;refine⟨h0,c,fun bG=> ?_⟩;rw[a]at bG;obtain⟨x,y,z⟩:=h2 bG;exact RD):P:=h
theorem UT{P:Prop}(h:P:=by obtain⟨h0,x,hx⟩:=zM hI;simp+contextual only[go_sem,hI,hx,h0];refine aH (aR rfl) ?_;refine cT ?_;exact aaB):P:=h
theorem UU{P:Prop}(h:P:=by obtain⟨a,b,c⟩:=hr id BN;obtain⟨h0,h1,h2⟩:=h;refine⟨h0,c,fun bG=> ?_⟩;obtain⟨x,y,z⟩:=h2 (a.1 bG);exact RD):P:=h
theorem aaW{P:Prop}(h:P:=by refine a8 ?_;rw[e]):P:=h
theorem UW{P:Prop}(h:P:=by intro j hj;simp only[bA,h2,List.mem_map,List.mem_filter]at hj;obtain⟨e,⟨he,hb⟩,rfl⟩:=hj;exact aaS):P:=h
theorem aaX{P:Prop}(h:P:=by rw[hs,Bool.true_and]at u5;refine jz hs ?_;refine ak (k+1) ⟨h2,u5⟩ ag (bt.aT _ (show 0<=1 from ag) ag fm (fun j hj=>by(repeat(first|rfl|rw[af]|rw[ae _ _ _ _ (by omega)]))) ?_);exact cz):P:=h
theorem UX{P:Prop}(h:P:=by rw[hb]at hf u0;simp only[Bool.false_eq_true,if_false]at hf u0;refine cT ?_;rw[hf,u0]at hK;exact aeX):P:=h
theorem aaY{P:Prop}(h:P:=by obtain⟨h0,h1,h2⟩:=h;refine⟨h0,hr.us id h1,fun e' pW=> ?_⟩;obtain⟨e,g1,g2,g3⟩:=hr.ep id e' h1 pW;obtain⟨h3,h4⟩:=h2 e g1;refine⟨Nat.le_trans h3 g2,fun heq=> ?_⟩;rw[g3 (by omega)];exact h4 ag):P:=h
theorem aaZ{P:Prop}(h:P:=by refine aH bI ?_;refine jz Ou ?_;refine a7 (Lt _ v ag) ?_;refine a8 ?_;refine ak (j+1) h3 ag (bt.d1 _ (aX rfl) ag rfl ?_);rw[rR Ou,if_pos hc];exact cz):P:=h
theorem Lu{P:Prop}(h:P:=by refine a8 ?_;refine aD hkn rfl ?_;exact xV):P:=h
theorem aa0{P:Prop}(h:P:=by rw[e]at hK;refine aeU ?_;exact hK _ _ ag ⟨fm,ag,fun j hj=>by rw[ae _ _ _ _ (by omega),hI.eq j hj]⟩ (fun j g1 g2=>by(repeat(first|rfl|rw[af]|rw[ae _ _ _ _ (by omega)])))):P:=h
theorem UY{P:Prop}(h:P:=by obtain⟨z,h1,h⟩:=js h;simp only[Prod.mk.injEq]at h;obtain⟨rfl,rfl,rfl⟩:=h;exact aaC):P:=h
theorem UZ{P:Prop}(h:P:=by simp at h1;refine cT ?_;rw[List.drop_eq_nil_of_le h1]at hf u0;rw[hf,u0]at hK;exact aao):P:=h
theorem aa1{P:Prop}(h:P:=by refine a8 ?_;exact hK _ _ ag ⟨fm,ag,fun j hj=>by rw[ae _ _ _ _ (by omega),hI.eq j hj]⟩ (fun j g1 g2=>by(repeat(first|rfl|rw[af]|rw[ae _ _ _ _ (by omega)])))):P:=h
theorem Lv{P:Prop}(h:P:=by simp only[St.S,jA]at this;exact this):P:=h
theorem U0{P:Prop}(h:P:=by obtain⟨h0,x,hx⟩:=zM hI;simp+contextual only[go_sem,h,hI,hx,h0];exact aaB):P:=h
theorem aa2{P:Prop}(h:P:=by refine ak (k+1) ag ag (bt.aT _ (show 0<=40 from ag) ag fm (fun j hj=>by(repeat(first|rfl|rw[af]|rw[ae _ _ _ _ (by omega)]))) ?_);exact cz):P:=h
theorem U1{P:Prop}(h:P:=by simp only[Array.getD_eq_getD_getElem?];rw[Array.getElem?_setIfInBounds_ne (Ne.symm hi)]):P:=h
theorem U2{P:Prop}(h:P:=by refine ko hI ?_;refine aH (aR rfl) ?_;refine cT ?_;rw[hn,hI];rfl):P:=h
theorem U3{P:Prop}(h:P:=by rw[hL.refs,List.all_eq_true];intro r hr;have:=hrefs r hr;exact decide_eq_true ag):P:=h
theorem U4{P:Prop}(h:P:=by refine oC hx ?_;refine ak (k+1) h2 ag (bt.d0 _ ?_);rw[EJ];exact cz):P:=h
theorem U5{P:Prop}(h:P:=by refine Z1 hx f2 ?_;refine aH (aR rfl) ?_;refine a8 ?_;rw[e]):P:=h
theorem aa3{P:Prop}(h:P:=by simp only[Option.map_eq_some_iff]at h;obtain⟨d,h1,rfl⟩:=h;obtain⟨arr,rfl,g1,g2⟩:=hx;obtain⟨val,r1,r2⟩:=gZ h1 g1 g2;exact fin (r1 w) r2):P:=h
theorem U6{P:Prop}(h:P:=by refine cT ?_;refine aD (gG _ _ _) rfl ?_;refine cT ?_;rw[hn]):P:=h
theorem aa4{P:Prop}(h:P:=by rw[show(⟨put o' [(fr, .arr 0 ty sz es)],fun id=>us id\/id=fr⟩:Hp).o fr=put o' [(fr, .arr 0 ty sz es)] fr from rfl,this]at he;injection he):P:=h
theorem U7{P:Prop}(h:P:=by refine mZ fq (fun r hr=>by simp[V.refs]at hr;omega) ?_;exact tU):P:=h
theorem aa5{P:Prop}(h:P:=by simp only[hx]at h ho;injection h with h;subst h;simp only[ab.fz]at ho;simp only[aP,ho]at aW;rw[hd (by rw[ho];rfl)];exact aW):P:=h
theorem U8{P:Prop}(h:P:=by rw[m2.eq id (by omega)];unfold ext;rw[if_neg (by omega)];exact fq):P:=h
theorem aa6{P:Prop}(h:P:=by rw[List.getD_eq_getElem?_getD,List.getElem?_map,List.getElem?_range (by omega)];simp only[Option.map_some,Option.getD_some];exact aav):P:=h
theorem aa7{P:Prop}(h:P:=by obtain⟨h0,y,h1,h2,h3,h4⟩:=u6 h;simp only[Prod.mk.injEq]at h4;obtain⟨rfl,rfl,rfl⟩:=h4;exact⟨h0,y,h1,h2,h3,hK⟩):P:=h
theorem aa8{P:Prop}(h:P:=by simp only[Option.map_eq_some_iff]at h;obtain⟨r,h1,rfl⟩:=h;obtain⟨g1,g2⟩:=U9 h1 hg (ao M φ H) w xv yv hx hy;exact aaP):P:=h
theorem aa9{P:Prop}(h:P:=by obtain⟨h3,h4⟩:=hb _ cG h2;exact⟨by rw[World.cell?_of_block (w:=w) (w':=w') (a:=a.add j) (by simpa using h3)];exact h1,h4⟩):P:=h
theorem aba{P:Prop}(h:P:=by refine a8 ?_;simp at h3;refine ak (k+1) ⟨h2,fH hx hk.2 h3⟩ ag (bt.d1 _ (aX rfl) ag rfl ?_);exact cz):P:=h
theorem abb{P:Prop}(h:P:=by simp only[ha];obtain⟨z,h1,h⟩:=js h;simp only[Prod.mk.injEq]at h;obtain⟨rfl,rfl,rfl⟩:=h;exact zN h1 hK):P:=h
theorem abc{P:Prop}(h:P:=by simp only[hw,if_true];obtain⟨uz,iY⟩:=BU Lw (fun id aq=>ag2 id (by rw[xg];exact aq)) Va aW.2;exact aeZ):P:=h
theorem abd{P:Prop}(h:P:=by cases y<;>simp only[V.same,Bool.false_eq_true,Bool.and_eq_true]at h;rw[Nat.eq_of_beq_eq_true h.1,Nat.eq_of_beq_eq_true h.2]):P:=h
theorem Vb{P:Prop}(h:P:=by refine rM ?_;refine aH (aR rfl) ?_;exact xV):P:=h
theorem abe{P:Prop}(h:P:=by refine ak (j+1) (next hh) ag (bt.aT _ (show 0<=4 from ag) ag (ee _ _) (fun q hq=>rfl) ?_);exact cz):P:=h
theorem abf{P:Prop}(h:P:=by intro u hu;simp only[Array.toList_extract,List.extract]at hu;exact hf u (List.mem_of_mem_drop (List.mem_of_mem_take hu))):P:=h
theorem abg{P:Prop}(h:P:=by refine⟨hH,Trans.refl _ _ _, ?_,⟨[],rfl,List.nodup_nil,fun _=>rfl,fun r hr=>by cases hr⟩,BV hd⟩;exact aaQ):P:=h
theorem abh{P:Prop}(h:P:=by rw[e];obtain⟨k1,k2⟩:=jt (us':=GA (Array.replicate ops.size false)) hs.heap (fun id h=> .inl h);exact ae0):P:=h
theorem abi{P:Prop}(h:P:=by unfold World.cell?;simp only[hg,Option.isSome_none,Bool.false_eq_true,if_false,Nat.zero_add];rw[RN j hj];simp):P:=h
theorem Vc{P:Prop}(h:P:=by simp only[bD,aK,h1,if_false];exact Rx):P:=h
theorem Vd{P:Prop}(h:P:=by rw[Bool.eq_iff_iff,decide_eq_true_eq,this];exact aaT):P:=h
theorem abj{P:Prop}(h:P:=by refine cT ?_;simp at h1;rw[List.drop_eq_nil_of_le h1]at hf;simp only[aw]at hf;rw[hf]at hK;exact aao):P:=h
theorem abk{P:Prop}(h:P:=by simp only[Option.some.injEq,Prod.mk.injEq]at h;obtain⟨rfl,rfl,rfl⟩:=h;simp only[ho];exact⟨_,hg,hK⟩):P:=h
theorem Ve{P:Prop}(h:P:=by rw[show fr+(j+1)=fr+1+j by omega];exact this):P:=h
theorem abl{P:Prop}(h:P:=by intro x hx;obtain⟨n',_,c',s8,rfl⟩:=p9 l _ x hx;exact(mT c' (List.mem_of_getElem? s8)).GC.1):P:=h
theorem Vf{P:Prop}(h:P:=by simp+contextual only[go_sem,h,hI];rw[hn,hI];rfl):P:=h
theorem abm{P:Prop}(h:P:=by injection h with h;subst h;obtain⟨u,rfl,_⟩:=hy;simp only[V.den,D.den]at hx;subst hx;exact aeW):P:=h
theorem RP{P:Prop}(h:P:=by injection h with h;subst h;obtain⟨u,rfl,_⟩:=hx;simp only[V.den,D.den]at hy;subst hy;exact aeV):P:=h
theorem RQ{P:Prop}(h:P:=by refine .inr (.inr (.inl ⟨ds,out,eZ,hP,m8, ?_⟩));cases out<;>first|exact hK _ h|exact hX _ _ h):P:=h
theorem RR{P:Prop}(h:P:=by rw[hI.eq 2 (by omega)];(repeat(first|rfl|rw[af]|rw[ae _ _ _ _ (by omega)]));exact p2):P:=h
theorem GD{P:Prop}(h:P:=by refine aH bI ?_;exact xV):P:=h
theorem RS{P:Prop}(h:P:=by simp only[ab.fz]at ho;simp only[aP,ho]at aW;rw[(hd ep (by rw[ho];rfl)).2 rfl];exact aW):P:=h
theorem RT{P:Prop}(h:P:=by rw[Array.toList_append,Array.toList_append,Array.toList_map];exact V.qb GF dP hca):P:=h
theorem RU{P:Prop}(h:P:=by refine .inr (.inl ⟨ds,out,eZ,hP,m8, ?_⟩);cases out<;>first|exact hK _ h|exact hX _ _ h):P:=h
theorem RV{P:Prop}(h:P:=by obtain⟨b,dT,ty,k1,k2,k3,k4⟩:=bc;exact⟨b,dT,ty,k1,k2,jK _ _ hrefs k3,k4⟩):P:=h
theorem RW{P:Prop}(h:P:=by obtain⟨arr,rfl,g1,g2⟩:=hx;obtain⟨val,r1,r2⟩:=II h g1 g2;exact fin r1 r2):P:=h
theorem RX{P:Prop}(h:P:=by subst e9;(repeat(first|rfl|rw[af]|rw[ae _ _ _ _ (by omega)]));exact q2):P:=h
theorem RY{P:Prop}(h:P:=by simp only[Array.getD_eq_getD_getElem?];rw[Array.getElem?_setIfInBounds_ne (Ne.symm h1)]):P:=h
theorem RZ{P:Prop}(h:P:=by subst e;(repeat(first|rfl|rw[af]|rw[ae _ _ _ _ (by omega)]));exact q2):P:=h
theorem R0{P:Prop}(h:P:=by refine⟨x,fun heq=> ?_⟩;obtain⟨p,q,r,z,u⟩:=y heq;exact⟨p,q,r,b.trans z,u⟩):P:=h
theorem R1{P:Prop}(h:P:=by obtain⟨h5,h6⟩:=List.getElem?_eq_some_iff.1 hx;rw[List.drop_eq_getElem_cons h5,h6]):P:=h
theorem R2{P:Prop}(h:P:=by refine .inl ⟨ds,out,eZ,hP, ?_⟩;cases out<;>first|exact hK _ h|exact hX _ _ h):P:=h
theorem R3{P:Prop}(h:P:=by simp only[Ef,Array.getD_eq_getD_getElem?,Array.getElem?_replicate];split<;>rfl):P:=h
theorem R4{P:Prop}(h:P:=by rw[show((hp o nx).put (bT o x.ids)).o id=_ from this]at g1;exact⟨id,g1,g2⟩):P:=h
theorem R5{P:Prop}(h:P:=by simp[H',ab.b9]at he;subst he;exact⟨Nat.le_refl _,fun _=>by simp[aG]⟩):P:=h
theorem R6{P:Prop}(h:P:=by rw[p2.eq id (by omega)];unfold ext;rw[if_neg (by omega),hold id (by omega) h2]):P:=h
theorem R7{P:Prop}(h:P:=by rw[hm,hU (o:=s.o) fun id aq=>hr id (lZ _ id aq)];exact YP):P:=h
theorem R8{P:Prop}(h:P:=by obtain⟨a,b,c,h⟩:=funcOf (P:=Tryz.prog) (t:=214) ai;unfold uA;rw[h]):P:=h
theorem R9{P:Prop}(h:P:=by cases y<;>simp only[D.same,Bool.false_eq_true]at h;rw[D.dD cc _ h]):P:=h
theorem Sa{P:Prop}(h:P:=by simp at h2;rw[List.drop_eq_nil_of_le h2]at u5;refine a8 ?_;rw[u5];rfl):P:=h
theorem Sb{P:Prop}(h:P:=by rw[Bool.eq_iff_iff];simp only[List.all_eq_true (l:=t.kids)];exact aaR):P:=h
theorem Sc{P:Prop}(h:P:=by obtain⟨b,r,k1,k2,k3,k4,k5,k6,k7,k8,k9,k10⟩:=bc;exact aeY):P:=h
theorem Sd{P:Prop}(h:P:=by obtain⟨u,us,rfl,h1,_⟩:=h;simp at hd;subst hd;exact⟨u,aI,h1⟩):P:=h
theorem Se{P:Prop}(h:P:=by intro c hx;rw[Array.getD_eq_getD_getElem?,hx]at dg;simp at dg):P:=h
def s9(ops:Array Oper)(j:Nat):Option Tmp:=(ops[j]?).bind (·.dst)
structure bM where
 dst:Option Nat
 op:Op
 gd:Option (Nat×Bool):=none
instance:Inhabited bM:=⟨⟨none, .ready 0,none⟩⟩
def ER(n:Nat):Option Tmp->Bool
 |some d=>decide (d<n)
 |none=>true
def Lx(n:Nat)(ops:Array Oper)(o:Oper):Option bM:=
 if ER n o.dst=true then match o.guard with
  |none=>some ⟨o.dst,o.op,none⟩
  |some (j,want)=>match s9 ops j with
   |some d=>some ⟨o.dst,o.op,some (d,want)⟩
   |none=>none
 else none
def lA(n:Nat)(ops:Array Oper):List Oper->Option (List bM)
 |[]=>some []
 |o::l=>match Lx n ops o,lA n ops l with
  |some x,some xs=>some (x::xs)
  |_,_=>none
def tmpsOf(o:bM):List Nat:=(o.op.operands.toList.filterMap fun| .tmp t=>some t|_=>none)++(match o.gd with|some (d,_)=>[d]|none=>[])
def fb(o:bM):List Nat:=tmpsOf o++o.dst.toList
def bA(ops:Array Oper)(i:Nat):List Nat:=match ops[i]? with|some o=>(o.after.toList.filter (Region.binds .any)).map (·.on)|none=>[]
def bU(l:List bM)(i:Nat):bM:=l.getD i default
inductive IC where
 |skip|ah (l:List bM)|dw (l:List bM) (pr:List (List Nat))|seq (a b:IC)|cond (c:Operand) (a b:IC)|block (id:Nat) (a:IC)|loop (a:IC)|exit (id:Nat)|ret|bad
 |IJ (g:Operand) (ps:List Nat) (a b:IC)
 deriving Inhabited
inductive kj where
 |ret|exit (id:Nat)
def kj.code:kj->Code
 | .ret=> .ret
 | .exit id=> .exit id
def l0(acc:List Nat):List Nat->Nat
 |[]=>0
 |j::ps=>(2^j|||acc.getD j 0)|||l0 acc ps
def eB:List (List Nat)->List Nat->List Nat
 |[],acc=>acc
 |ps::l,acc=>eB l (acc++[l0 acc ps])
def rS(x y:bM):Bool:=match x.dst with|some d=> !(fb y).contains d|none=>true
def zO(l:List bM)(pr:List (List Nat)):Bool:=
 (List.range l.length).all fun j=>(List.range j).all fun i=>((eB pr []).getD j 0).testBit i||(rS (bU l i) (bU l j)&&rS (bU l j) (bU l i))
def kX(xs ys:List Nat):Bool:=xs.all fun x=> !ys.contains x
def ez(pr:List (List Nat))(fp:List (List Nat×List Nat)):Bool:=
 (List.range fp.length).all fun j=>(List.range j).all fun i=>((eB pr []).getD j 0).testBit i||
  (kX (fp.getD i ([],[])).2 (fp.getD j ([],[])).1&&kX (fp.getD i ([],[])).2 (fp.getD j ([],[])).2&&kX (fp.getD j ([],[])).2 (fp.getD i ([],[])).1)
def gH(ops:Array Oper):List (List Nat):=(List.range ops.size).map (bA ops)
def Vg(pr:List (List Nat)):Bool:=(List.range pr.length).all fun k=>(pr.getD k []).all fun j=>decide (j<k)
theorem u7{acc:List Nat}{i:Nat}:∀ (ps:List Nat),(l0 acc ps).testBit i=true->∃j∈ps,i=j\/(acc.getD j 0).testBit i=true
 |[],h=>by simp[l0]at h
 |j::ps,h=>by
  simp only[l0,Nat.testBit_or,Bool.or_eq_true]at h
  rcases h with(h|h)|h
  ·rw[Nat.testBit_two_pow]at h
   exact⟨j,aI, .inl (by have h:=of_decide_eq_true h;exact h.symm)⟩
  ·exact⟨j,aI, .inr h⟩
  ·obtain⟨j',h1,h2⟩:=u7 ps h
   exact⟨j',by simp[h1],h2⟩
theorem rT{k:Nat}:∀ (l:List (List Nat)) (acc:List Nat),k<acc.length->(eB l acc).getD k 0=acc.getD k 0
 |[],_,_=>rfl
 |ps::l,acc,h=>by
  rw[eB,rT l _ (by simp;omega)]
  simp[List.getD_eq_getElem?_getD,List.getElem?_append_left h]
theorem rU{i:Nat}:∀ (l:List (List Nat)) (acc:List Nat) (k:Nat),acc.length<=k->(∀k',k'<l.length->∀j∈l.getD k' [],j<acc.length+k')->((eB l acc).getD k 0).testBit i=true->
 ∃j∈l.getD (k - acc.length) [],i=j\/((eB l acc).getD j 0).testBit i=true
 |[],acc,k,hk,_,h=>by
  simp only[eB]at h
  rw[List.getD_eq_getElem?_getD,List.getElem?_eq_none hk]at h
  simp at h
 |ps::l,acc,k,hk,hp,h=>by
  simp only[eB]at h|-
  by_cases he:k=acc.length
  ·subst he
   rw[rT l _ (by simp)]at h
   have e:(acc++[l0 acc ps]).getD acc.length 0=l0 acc ps:=by simp[List.getD_eq_getElem?_getD]
   rw[e]at h
   obtain⟨j,h1,h2⟩:=u7 ps h
   refine⟨j,by simpa using h1,h2.imp id fun h2=> ?_⟩
   have hj:j<acc.length:=by simpa using hp 0 aI j (by simpa using h1)
   rw[rT l _ (by simp;omega)]
   simpa[List.getD_eq_getElem?_getD,List.getElem?_append_left hj]using h2
  ·obtain⟨j,h1,h2⟩:=rU l (acc++[l0 acc ps]) k gE (fun k' OX j hj=>by
    have:=hp (k'+1) gE j m4
    simp;omega) h
   refine⟨j, ?_,h2⟩
   have e:k - acc.length=(k - (acc++[l0 acc ps]).length)+1:=by simp;omega
   rw[e];simpa using h1
theorem qd{pr:List (List Nat)}(hp:∀k,k<pr.length->∀j∈pr.getD k [],j<k){E:Nat->Bool}(hE:∀k,k<pr.length->E k=true->∀j∈pr.getD k [],E j=true):
 ∀k,k<pr.length->(∀j∈pr.getD k [],E j=true)->∀i,((eB pr []).getD k 0).testBit i=true->E i=true:=by
 intro k
 induction k using Nat.strongRecOn with
 |ind k ih=>
  intro hk hj i hi
  obtain⟨j,h1,h2⟩:=rU pr [] k aI (fun k' OX j hj=>by simpa using hp k' OX j hj) hi
  simp only[List.length_nil,Nat.sub_zero]at h1
  rcases h2 with rfl|h2
  ·exact hj _ h1
  ·have hjk:=hp k hk j h1
   exact ih j hjk ag (hE j ag (hj j h1)) i h2
theorem BW{pr:List (List Nat)}(hp:∀k,k<pr.length->∀j∈pr.getD k [],j<k):∀k,k<pr.length->∀i,((eB pr []).getD k 0).testBit i=true->i<k:=by
 intro k
 induction k using Nat.strongRecOn with
 |ind k ih=>
  intro hk i hi
  obtain⟨j,h1,h2⟩:=rU pr [] k aI (fun k' OX j hj=>by simpa using hp k' OX j hj) hi
  simp only[List.length_nil,Nat.sub_zero]at h1
  have hjk:=hp k hk j h1
  rcases h2 with rfl|h2
  ·exact hjk
  ·have:=ih j hjk ag i h2;omega
def low(n:Nat):Code->IC
 | .skip=> .skip
 | .label _=> .skip
 | .scope c=>low n c
 | .region _ ops false=>match lA n ops ops.toList with
   |some l=> .ah l
   |none=> .bad
 | .region _ ops true=>match lA n ops ops.toList with
   |some l=>if zO l (gH ops)&&Vg (gH ops)then .dw l (gH ops)else .bad
   |none=> .bad
 | .seq a b=> .seq (low n a) (low n b)
 | .cond c a b=> .cond c (low n a) (low n b)
 | .block id a=> .block id (low n a)
 | .loop a=> .loop (low n a)
 | .exit id=> .exit id
 | .ret=> .ret
 | .rangeFunc g ps a b=> .IJ g ps.toList (low n a) (low n b)
 |_=> .bad
section
inductive D where
 |int (k:IntKind) (n:Int)|bool (b:Bool)|str (s:List UInt8)
 |fe|mU|cf|hY
 |agg (cs:List D)|sl (es:List D)|iface (t:TypeId) (d:D)
 |mp (ks vs:List D)
 deriving Inhabited
def Flat(vs:List Value):Prop:=∀u∈vs,u.oneCell'=true
def gI(B:Nat->Prop)(w:World)(a:Addr)(cs:Array Value):Prop:=∀j u,cs[j]? =some u->w.cell? (a.add j)=some u/\ ¬B a.block
def jm(es:Array MapEntry)(clock:Nat):Prop:=(∀e∈es.toList,e.born<clock)/\(es.toList.map (·.born)).Nodup
def zP(ks:List D):Prop:=ks.Nodup/\∀k∈ks,∃n,k= .int .i64 n
mutual
def D.den (B:Nat->Prop)(w:World):D->Value->Prop
 | .int k n,v=>v= .int k n
 | .bool b,v=>v= .bool b
 | .str l,v=>∃s:ByteArray,v= .string s/\s.data.toList=l
 | .fe,v=>v= .nilIface
 | .mU,v=>v= .pointer none
 | .cf,v=>v= .nilFunc
 | .hY,v=>v= .map none
 | .agg cs,v=>∃a,v= .agg a/\D.aB B w cs a.toList/\Flat a.toList
 | .sl es,v=>∃base len cap,v= .slice base len cap/\len=es.length/\len<=cap/\(base=none->cap=0)/\
  ∃sz,∀a,base=some a->(cap≠0->a.spot=none)/\D.elems B w sz a 0 es
 | .iface t d,v=>∃u,v= .iface t u/\D.den B w d u
 | .mp ks vs,v=>∃m es clock p,v= .map (some m)/\w.heap[m]? =some (.map es clock)/\ ¬B m/\jm es clock/\(p=es.toList\/(p.Perm es.toList/\zP ks))/\D.aB B w ks (p.map (·.key))/\D.aB B w vs (p.map (·.val))
def D.aB (B:Nat->Prop)(w:World):List D->List Value->Prop
 |[],vs=>vs=[]
 |d::ds,vs=>∃u us,vs=u::us/\D.den B w d u/\D.aB B w ds us
def D.elems (B:Nat->Prop)(w:World)(sz:Nat)(a:Addr):Nat->List D->Prop
 |_,[]=>True
 |i,e::es=>(∃ev:Value,ev.cells.size=sz/\gI B w (a.add (i*sz)) ev.cells/\D.den B w e ev)/\D.elems B w sz a (i+1) es
end
inductive V where
 |d (x:D)|aZ|agg (cs:List V)|bW (vs:List V)
 |ptr (id off:Nat)|osl (id ep:Nat)|pe (id ep i sz off:Nat)|pp (cs:List D) (off:Nat)
 |func (fn:Fn) (first cap:List V)|iface (t:TypeId) (x:V)
 |aa
 |rK (es:List D)|x9 (id off n:Nat)|mp (id:Nat)|ft|ju (id:Nat)
 deriving Inhabited
inductive ab where
 |no|row (cs:List V)|arr (ep:Nat) (ty:TypeId) (sz:Nat) (es:List D)|rV (ep:Nat) (es:List D)
 |map (kt vt:TypeId) (es:List (D×D))
 |loop (nf n:Nat) (env:List V) (ps:List Nat) (a b:IC) (st:LoopState) (IK:Option kj)
 |hZ (es:List (D×D))|pb (es:List (D×D)) (last:Option (D×D))|zQ (s:List UInt8) (pos:Nat)
 deriving Inhabited
def aU(l:List V):Nat->V:=fun i=>l.getD i .aa
structure Hp where
 o:Nat->ab
 us:Nat->Prop
def ab.b9:ab->Option Nat
 | .arr ep _ _ _| .rV ep _=>some ep
 |_=>none
def ab.cj:ab->Bool
 | .row _| .map .. | .loop .. | .hZ _| .pb .. | .zQ .. =>true
 |_=>false
def ab.live:ab->Bool
 | .row _| .arr .. | .map .. | .loop .. | .pb .. | .zQ .. =>true
 |_=>false
def dx:Value->Option Nat
 | .pointer (some a)| .slice (some a) _ _=>some a.block
 | .map (some b)=>some b
 |_=>none
abbrev Place:=Nat->Value
def cE(φ:Place)(H:Hp)(b:Nat):Prop:=∃id,(H.o id).live=true/\dx (φ id)=some b
def ao(M:Nat->Prop)(φ:Place)(H:Hp)(b:Nat):Prop:=M b\/cE φ H b
mutual
def V.den (B:Nat->Prop)(φ:Place)(H:Hp)(w:World):V->Value->Prop
 | .d x,v=>D.den B w x v
 | .aZ,v=>v= .slice none 0 0
 | .agg cs,v=>∃a,v= .agg a/\V.aB B φ H w cs a.toList/\Flat a.toList
 | .bW vs,v=>∃a,v= .tuple a/\V.aB B φ H w vs a.toList
 | .ptr id off,v=>v.oneCell'=true/\H.us id/\((H.o id).cj=true->∃b,φ id= .pointer (some ⟨b,0,none⟩)/\v= .pointer (some ⟨b,off,none⟩))
 | .osl id ep,v=>v.oneCell'=true/\H.us id/\∀e,(H.o id).b9=some e->ep<=e/\(ep=e->v=φ id)
 | .pe id ep i sz off,v=>v.oneCell'=true/\H.us id/\∀e,(H.o id).b9=some e->ep<=e/\(ep=e->∃b n c,φ id= .slice (some ⟨b,0,none⟩) n c/\v= .pointer (some ⟨b,i*sz+off,none⟩))
 | .pp cs off,v=>∃a ev,a.spot=none/\v= .pointer (some (a.add off))/\D.aB B w cs ev/\Flat ev/\gI B w a ev.toArray
 | .func fn first cap,v=>∃f c,v= .func fn f c/\V.aB B φ H w first f.toList/\V.aB B φ H w cap c.toList
 | .iface t x,v=>∃u,v= .iface t u/\V.den B φ H w x u
 | .aa,_=>True
 | .rK es,v=>D.den B w (.sl es) v/\∃base n,v= .slice base n n
 | .x9 id off n,v=>v.oneCell'=true/\H.us id/\((H.o id).cj=true->∃b,φ id= .pointer (some ⟨b,0,none⟩)/\v= .slice (some ⟨b,off,none⟩) n n)
 | .mp id,v=>v.oneCell'=true/\H.us id/\((H.o id).cj=true->v=φ id)
 | .ft,v=>∃b,v= .bool b
 | .ju id,v=>v.oneCell'=true/\H.us id/\((H.o id).cj=true->∃b,φ id= .pointer (some ⟨b,0,none⟩)/\v= .func (.yield b) #[] #[])
def V.aB (B:Nat->Prop)(φ:Place)(H:Hp)(w:World):List V->List Value->Prop
 |[],vs=>vs=[]
 |x::xs,vs=>∃u us,vs=u::us/\V.den B φ H w x u/\V.aB B φ H w xs us
end
def fQ(B:Nat->Prop)(w:World)(sz:Nat)(es:List D)(xs:List Value):Prop:=
 ∃evs:List Value,xs=evs.flatMap (·.cells.toList)/\(∀ev∈evs,ev.cells.size=sz)/\D.aB B w es evs
def aL(B:Nat->Prop)(w:World):List (D×D)->List MapEntry->Prop
 |[],es=>es=[]
 |(k,x)::l,es=>∃e es',es=e::es'/\D.den B w k e.key/\D.den B w x e.val/\aL B w l es'
def zR(B:Nat->Prop)(w:World)(l:List (D×D))(last:Option (D×D))(b:Nat):Prop:=
 w.heap[b]? =some (.mapIter none 0 #[] 0)/\l=[]/\last=none\/
 ∃m since seen es,w.heap[b]? =some (.mapIter (some m) since seen since)/\w.heap[m]? =some (.map es since)/\ ¬B m/\jm es since/\(∃l',l'.Perm l/\aL B w l' (es.toList.filter fun e=> !seen.contains e.born))/\
  ∀k x,last=some (k,x)->∃e∈es.toList,seen.back?=some e.born/\D.den B w k e.key/\D.den B w x e.val
def aP(M:Nat->Prop)(φ:Place)(H:Hp)(w:World)(id:Nat):Prop:=
 match H.o id with
 | .no=>True
 | .row cs=>∃b dT ty,φ id= .pointer (some ⟨b,0,none⟩)/\w.heap[b]? =some (.cells dT ty (0,0))/\V.aB (ao M φ H) φ H w cs dT.toList/\Flat dT.toList
 | .arr _ ty sz es=>0<sz/\∃xs,w.ownsRow 0 ty sz (φ id) es.length xs/\fQ (ao M φ H) w sz es xs
 | .rV _ es=>D.den (ao M φ H) w (.sl es) (φ id)
 | .loop nf n env ps iZ eI st IK=>∃b r,φ id= .pointer (some ⟨b,0,none⟩)/\w.heap[b]? =some (.loop r)/\r.fn<nf/\r.state=st/\r.pending=IK.map kj.code/\r.params.toList=ps/\r.tmps.size=n/\low n r.assign=iZ/\low n r.body=eI/\
  ∀i,V.den (ao M φ H) φ H w (aU env i) (r.tmps.getD i undef)
 | .map _ _ l=>∃b es clock,φ id= .map (some b)/\w.heap[b]? =some (.map es clock)/\jm es clock/\aL (ao M φ H) w l es.toList
 | .hZ l=>D.den (ao M φ H) w (.mp (l.map (·.1)) (l.map (·.2))) (φ id)
 | .pb l last=>∃b,φ id= .pointer (some ⟨b,0,none⟩)/\zR (ao M φ H) w l last b
 | .zQ s pos=>∃b,φ id= .pointer (some ⟨b,0,none⟩)/\w.heap[b]? =some (.stringIter ⟨⟨s⟩⟩ pos)
structure ay (M:Nat->Prop) (φ:Place) (H:Hp) (w:World):Prop where
 ok:∀id,aP M φ H w id
 fresh:∀id, ¬H.us id->H.o id= .no
 apart:∀i j b,(H.o i).live=true->(H.o j).live=true->dx (φ i)=some b->dx (φ j)=some b->i=j
 ours:∀b,cE φ H b-> ¬M b/\b<w.heap.size
 BB:∀b,M b->b<w.heap.size
structure dM (m:Nat->Prop) (w w':World):Prop where
 os:w'.os=w.os
 tape:w'.tape=w.tape
 output:w'.output=w.output
 size:w.heap.size<=w'.heap.size
 block:∀k,k<w.heap.size-> ¬m k->w'.heap[k]? =w.heap[k]?
structure dU (φ:Place) (H:Hp) (aG:Place) (H':Hp):Prop where
 us:∀id,H.us id->H'.us id
 row:∀id,H.us id->(H'.o id).cj=true->(H.o id).cj=true/\aG id=φ id
 ep:∀id e',H.us id->(H'.o id).b9=some e'->∃e,(H.o id).b9=some e/\e<=e'/\(e=e'->aG id=φ id)
structure Trans (φ:Place) (H:Hp) (w:World) (aG:Place) (H':Hp) (w':World):Prop where
 keep:dM (cE φ H) w w'
 grow:∀b,cE aG H' b->cE φ H b\/w.heap.size<=b
 rel:dU φ H aG H'
theorem dM.refl (m:Nat->Prop)(w:World):dM m w w:=⟨rfl,rfl,rfl,Nat.le_refl _,fun _ _ _=>rfl⟩
theorem dU.refl (φ:Place)(H:Hp):dU φ H φ H:=⟨fun _ h=>h,fun _ _ h=>⟨h,rfl⟩,fun _ e' _ h=>⟨e',h,Nat.le_refl _,fun _=>rfl⟩⟩
theorem Trans.refl (φ:Place)(H:Hp)(w:World):Trans φ H w φ H w:=⟨dM.refl _ _,fun _ h=> .inl h,dU.refl _ _⟩
theorem dU.trans {φ aG ES:Place}{H H' H'':Hp}(h:dU φ H aG H')(k:dU aG H' ES H''):dU φ H ES H'' where
 us id aq:=k.us id (h.us id aq)
 row id aq hr:=by
  obtain⟨a,b⟩:=k.row id (h.us id aq) hr
  obtain⟨c,d⟩:=h.row id aq a
  exact⟨c,b.trans d⟩
 ep id e' aq he:=by
  obtain⟨e,h1,h2,h3⟩:=k.ep id e' (h.us id aq) he
  obtain⟨e0,g1,g2,g3⟩:=h.ep id e aq h1
  refine⟨e0,g1,Nat.le_trans g2 h2,fun heq=> ?_⟩
  have a:e0=e:=ag
  have b:e=e':=ag
  exact(h3 b).trans (g3 a)
theorem Trans.trans {φ aG ES:Place}{H H' H'':Hp}{w w' UQ:World}(h:Trans φ H w aG H' w')(k:Trans aG H' w' ES H'' UQ):Trans φ H w ES H'' UQ where
 keep:={
  os:=k.keep.os.trans h.keep.os
  tape:=k.keep.tape.trans h.keep.tape
  output:=k.keep.output.trans h.keep.output
  size:=Nat.le_trans h.keep.size k.keep.size
  block:=fun b hb hm=>by
   rw[k.keep.block b (Nat.lt_of_lt_of_le hb h.keep.size) (fun hl=>by
    rcases h.grow b hl with h1|h1
    ·exact hm h1
    ·omega),h.keep.block b hb hm]}
 grow b hl:=by
  rcases k.grow b hl with h1|h1
  ·exact h.grow b h1
  ·exact .inr (Nat.le_trans h.keep.size h1)
 rel:=h.rel.trans k.rel
@[simp] theorem YQ (a:Addr) (j:Nat):(a.add j).block=a.block:=by unfold Addr.add;split<;>rfl
def qe(w:World)(b:Nat):Prop:=∃cs ty fz,w.heap[b]? =some (.cells cs ty fz)
def db(w:World)(b:Nat):Prop:=qe w b\/∃es clock,w.heap[b]? =some (.map es clock)
theorem db.lt {w:World}{b:Nat}(h:db w b):b<w.heap.size:=by
 rcases Nat.lt_or_ge b w.heap.size with hl|hl
 ·exact hl
 ·rcases h with⟨cs,ty,fz,h⟩|⟨es,clock,h⟩
  ·rw[Array.getElem?_eq_none hl]at h;cases h
  ·rw[Array.getElem?_eq_none hl]at h;cases h
theorem oO{w:World}{a:Addr}{u:Value}(h:w.cell? a=some u):qe w a.block:=by
 unfold World.cell? at h
 split at h
 ·exact⟨_,_,_,by assumption⟩
 ·cases h
theorem tW{w:World}{a:Addr}{u:Value}(h:w.cell? a=some u):db w a.block:= .inl (oO h)
theorem gI.mono {B B':Nat->Prop}{w w':World}{a:Addr}{cs:Array Value}
 (hb:∀b,db w b-> ¬B b->w'.heap[b]? =w.heap[b]? /\ ¬B' b) (h:gI B w a cs):gI B' w' a cs:=by
 intro j u hj
 obtain⟨h1,h2⟩:=h j u hj
 have cG:db w a.block:=by simpa using tW h1
 exact aa9
mutual
theorem D.aO {B B':Nat->Prop}{w w':World}(hb:∀b,db w b-> ¬B b->w'.heap[b]? =w.heap[b]? /\ ¬B' b):
 ∀ (x:D) (v:Value),D.den B w x v->D.den B' w' x v
 | .int _ _,_,h| .bool _,_,h| .str _,_,h| .fe,_,h| .mU,_,h| .cf,_,h| .hY,_,h=>by simpa[D.den]using h
 | .agg cs,_,h=>by
   obtain⟨a,rfl,h,hf⟩:=h
   exact⟨a,rfl,D.aQ hb cs _ h,hf⟩
 | .sl es,_,h=>by
   obtain⟨base,len,cap,rfl,h1,h2,h3,sz,h4⟩:=h
   exact⟨base,len,cap,rfl,h1,h2,h3,sz,fun a ha=>⟨(h4 a ha).1,D.u9 hb sz a es 0 (h4 a ha).2⟩⟩
 | .iface t d,_,h=>by
   obtain⟨u,rfl,h⟩:=h
   exact⟨u,rfl,D.aO hb d u h⟩
 | .mp ks vs,_,h=>by
   obtain⟨m,es,clock,p,rfl,h1,h2,h3,hp,h4,h5⟩:=h
   obtain⟨k1,k2⟩:=hb m (.inr ⟨es,clock,h1⟩) h2
   exact⟨m,es,clock,p,rfl,k1.trans h1,k2,h3,hp,D.aQ hb ks _ h4,D.aQ hb vs _ h5⟩
theorem D.aQ {B B':Nat->Prop}{w w':World}(hb:∀b,db w b-> ¬B b->w'.heap[b]? =w.heap[b]? /\ ¬B' b):
 ∀ (ds:List D) (vs:List Value),D.aB B w ds vs->D.aB B' w' ds vs
 |[],_,h=>h
 |d::ds,_,h=>by
  obtain⟨u,us,rfl,h1,h2⟩:=h
  exact⟨u,us,rfl,D.aO hb d u h1,D.aQ hb ds us h2⟩
theorem D.u9 {B B':Nat->Prop}{w w':World}(hb:∀b,db w b-> ¬B b->w'.heap[b]? =w.heap[b]? /\ ¬B' b)(sz:Nat)(a:Addr):
 ∀ (es:List D) (i:Nat),D.elems B w sz a i es->D.elems B' w' sz a i es
 |[],_,_=>trivial
 |e::es,i,h=>by
  obtain⟨⟨ev,h1,h2,h3⟩,h4⟩:=h
  exact⟨⟨ev,h1,h2.mono hb,D.aO hb e ev h3⟩,D.u9 hb sz a es (i+1) h4⟩
end
theorem aL.mono {B B':Nat->Prop}{w w':World}(hb:∀b,db w b-> ¬B b->w'.heap[b]? =w.heap[b]? /\ ¬B' b):
 ∀ (l:List (D×D)) (es:List MapEntry),aL B w l es->aL B' w' l es
 |[],_,h=>h
 |(k,x)::l,_,h=>by
  obtain⟨e,es,rfl,h1,h2,h3⟩:=h
  exact⟨e,es,rfl,D.aO hb k _ h1,D.aO hb x _ h2,aL.mono hb l es h3⟩
theorem zR.mono {B B':Nat->Prop}{w w':World}(hb:∀b,db w b-> ¬B b->w'.heap[b]? =w.heap[b]? /\ ¬B' b){l:List (D×D)}{last:Option (D×D)}{b:Nat}(hbb:w'.heap[b]? =w.heap[b]?)(h:zR B w l last b):zR B' w' l last b:=by
 rcases h with⟨h1,h2⟩|⟨m,since,seen,es,h1,h2,h3,h4,h5,h6⟩
 ·exact .inl ⟨hbb.trans h1,h2⟩
 ·obtain⟨k1,k2⟩:=hb m (.inr ⟨es,since,h2⟩) h3
  obtain⟨l',h5,xh⟩:=h5
  refine .inr ⟨m,since,seen,es,hbb.trans h1,k1.trans h2,k2,h4,⟨l',h5,aL.mono hb l' _ xh⟩,fun k x e=> ?_⟩
  obtain⟨e,g1,g2,g3,g4⟩:=h6 k x e
  exact⟨e,g1,g2,D.aO hb k _ g3,D.aO hb x _ g4⟩
theorem lB{B:Nat->Prop}{w:World}:∀ (l:List (D×D)) (es:List MapEntry),aL B w l es↔D.aB B w (l.map (·.1)) (es.map (·.key))/\D.aB B w (l.map (·.2)) (es.map (·.val))
 |[],es=>by
  simp only[aL,List.map_nil,D.aB]
  constructor
  ·rintro rfl;exact⟨rfl,rfl⟩
  ·rintro⟨h,_⟩;simpa using h
 |(k,x)::l,es=>by
  simp only[aL,List.map_cons,D.aB]
  constructor
  ·rintro⟨e,es',rfl,h1,h2,h3⟩
   obtain⟨g1,g2⟩:=(lB l es').1 h3
   exact⟨⟨_,_,rfl,h1,g1⟩,⟨_,_,rfl,h2,g2⟩⟩
  ·rintro⟨⟨u,us,h1,h2,h3⟩,⟨v,vs,h4,h5,h6⟩⟩
   cases es with
   |nil=>simp at h1
   |cons e es'=>
    simp only[List.map_cons,List.cons.injEq]at h1 h4
    obtain⟨rfl,rfl⟩:=h1
    obtain⟨rfl,rfl⟩:=h4
    exact⟨e,es',rfl,h2,h5,(lB l es').2 ⟨h3,h6⟩⟩
theorem D.aA {B:Nat->Prop}{w:World}:∀ (ds:List D) (vs:List Value),D.aB B w ds vs->vs.length=ds.length
 |[],_,h=>by simp[D.aB]at h;simp[h]
 |d::ds,_,h=>by obtain⟨u,us,rfl,_,h2⟩:=h;simp[D.aA ds us h2]
theorem D.dE {B:Nat->Prop}{w:World}:∀ (ds:List D) (vs:List Value) (i:Nat) (d:D),D.aB B w ds vs->ds[i]? =some d->∃v,vs[i]? =some v/\D.den B w d v
 |[],_,_,_,_,hd=>by simp at hd
 |d::ds,_,0,x,h,hd=>by
  exact Sd
 |d::ds,_,i+1,x,h,hd=>by
  obtain⟨u,us,rfl,_,h2⟩:=h
  simpa using D.dE ds us i x h2 (by simpa using hd)
theorem D.ya {B:Nat->Prop}{w:World}{sz:Nat}{a:Addr}:∀ (es:List D) (i j:Nat) (e:D),D.elems B w sz a i es->es[j]? =some e->
 ∃ev:Value,ev.cells.size=sz/\gI B w (a.add ((i+j)*sz)) ev.cells/\D.den B w e ev
 |[],_,_,_,_,hd=>by simp at hd
 |e::es,i,0,x,h,hd=>by
  simp at hd;subst hd;simpa using h.1
 |e::es,i,j+1,x,h,hd=>by
  have:=D.ya es (i+1) j x h.2 (by simpa using hd)
  simpa[Nat.add_assoc,Nat.add_comm 1 j]using this
section
variable {M:Nat->Prop}{φ aG:Place}{H H':Hp}{w w':World}
theorem Trans.blocks (ht:Trans φ H w aG H' w')(b:Nat)(hc:db w b)(h: ¬ao M φ H b):w'.heap[b]? =w.heap[b]? /\ ¬ao M aG H' b:=by
 have hb:=hc.lt
 refine⟨ht.keep.block b hb fun hl=>h (.inr hl), ?_⟩
 rintro(h1|h1)
 ·exact h (.inl h1)
 ·rcases ht.grow b h1 with h2|h2
  ·exact h (.inr h2)
  ·omega
mutual
theorem V.lC (hb:∀b,db w b-> ¬ao M φ H b->w'.heap[b]? =w.heap[b]? /\ ¬ao M aG H' b)(hr:dU φ H aG H'):∀ (x:V) (v:Value),V.den (ao M φ H) φ H w x v->V.den (ao M aG H') aG H' w' x v
 | .d x,v,h=>D.aO hb x v h
 | .aZ,_,h=>h
 | .aa,_,_=>trivial
 | .rK es,v,h=>⟨D.aO hb (.sl es) v h.1,h.2⟩
 | .x9 id off n,v,h=>by
   exact UR
 | .mp id,v,h=>by
   obtain⟨h0,h1,h2⟩:=h
   refine⟨h0,hr.us id h1,fun bG=> ?_⟩
   obtain⟨h3,h4⟩:=hr.row id h1 bG
   exact(h2 h3).trans h4.symm
 | .ft,v,h=>h
 | .ju id,v,h=>by
   exact UR
 | .agg cs,_,h=>by obtain⟨a,rfl,h,hf⟩:=h;exact⟨a,rfl,V.fR hb hr cs _ h,hf⟩
 | .bW cs,_,h=>by obtain⟨a,rfl,h⟩:=h;exact⟨a,rfl,V.fR hb hr cs _ h⟩
 | .ptr id off,v,h=>by
   exact UR
 | .osl id ep,v,h=>by
   exact aaY
 | .pe id ep i sz off,v,h=>by
   exact aaY
 | .pp cs off,v,h=>by
   obtain⟨a,ev,h1,h2,h3,h5,h4⟩:=h
   exact⟨a,ev,h1,h2,D.aQ hb cs ev h3,h5,h4.mono hb⟩
 | .func fn first cap,_,h=>by
   obtain⟨f,c,rfl,h1,h2⟩:=h
   exact⟨f,c,rfl,V.fR hb hr first _ h1,V.fR hb hr cap _ h2⟩
 | .iface t x,_,h=>by obtain⟨u,rfl,h⟩:=h;exact⟨u,rfl,V.lC hb hr x u h⟩
theorem V.fR (hb:∀b,db w b-> ¬ao M φ H b->w'.heap[b]? =w.heap[b]? /\ ¬ao M aG H' b)(hr:dU φ H aG H'):∀ (ds:List V) (vs:List Value),V.aB (ao M φ H) φ H w ds vs->V.aB (ao M aG H') aG H' w' ds vs
 |[],_,h=>h
 |x::xs,_,h=>by
  obtain⟨u,us,rfl,h1,h2⟩:=h
  exact⟨u,us,rfl,V.lC hb hr x u h1,V.fR hb hr xs us h2⟩
end
theorem V.aO (ht:Trans φ H w aG H' w')(x:V)(v:Value)(h:V.den (ao M φ H) φ H w x v):V.den (ao M aG H') aG H' w' x v:=V.lC ht.blocks ht.rel x v h
theorem V.aQ (ht:Trans φ H w aG H' w')(ds:List V)(vs:List Value)(h:V.aB (ao M φ H) φ H w ds vs):V.aB (ao M aG H') aG H' w' ds vs:=V.fR ht.blocks ht.rel ds vs h
end
end
end Go.Proofs.YtnkamdiiakdkgaaGreat
