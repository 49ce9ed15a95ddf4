/-
  A PART. Conditions: none.
-/
import Derived.WalkKit
import Derived.Below
set_option linter.unusedSimpArgs false
set_option linter.unusedVariables false
set_option maxHeartbeats 8000000
namespace Go.Proofs.YtlhemmpklhhgoaaGreat
theorem ae{a b:Prop}(x:a)(y:b):a/\b:=⟨x,y⟩
theorem c9{P G G':Prop}(p:P)(g:G')(h:P->G=G':=by intro p;simp+contextual (disch:=first|omega|simp only[go_sem,false_implies]) only[go_sem,wrap64,if_pos,Nat.add_assoc,Nat.add_eq_left,Nat.add_left_cancel_iff,Nat.left_eq_add,p]<;>rfl):G:=Eq.mpr (h p) g
theorem dQ{P G G':Prop}(p:P)(g:G')(h:P->G=G':=by intro p;simp+contextual (disch:=first|omega|simp only[go_sem,false_implies]) only[go_sem,wrap64,if_pos,List.length_map,Nat.add_assoc,Nat.add_eq_left,Nat.add_left_cancel_iff,Nat.left_eq_add,p]<;>rfl):G:=Eq.mpr (h p) g
theorem gB{G G':Prop}(g:G')(h:G=G':=by simp+contextual (disch:=first|omega|simp only[go_sem,false_implies]) only[go_sem,wrap64,if_pos,Nat.add_assoc,Nat.add_eq_left,Nat.add_left_cancel_iff,Nat.left_eq_add]<;>rfl):G:=Eq.mpr h g
theorem cS{G G':Prop}(g:G')(h:G=G':=by simp+contextual (disch:=first|omega|simp only[go_sem,false_implies]) only[go_sem,wrap64,if_pos,and_self]<;>rfl):G:=Eq.mpr h g
theorem eC{P G G':Prop}(p:P)(g:G')(h:P->G=G':=by intro p;simp+contextual (disch:=first|omega|simp only[go_sem,false_implies]) only[go_sem,wrap64,if_pos,List.length_map,p]<;>rfl):G:=Eq.mpr (h p) g
theorem gC{P G G':Prop}(p:P)(g:G')(h:P->G=G':=by intro p;simp+contextual (disch:=first|omega|simp only[go_sem,false_implies]) only[go_sem,wrap64,if_pos,p]<;>rfl):G:=Eq.mpr (h p) g
theorem qo{G:Prop}(h:G:=by simp+contextual (disch:=first|omega|simp only[go_sem,false_implies]) only[go_sem,wrap64,if_pos,and_self]):G:=h
theorem ra{G G':Prop}(g:G')(h:G=G':=by simp+contextual (disch:=first|omega|simp only[go_sem,false_implies]) only[go_sem,wrap64,if_pos,List.length_map]<;>rfl):G:=Eq.mpr h g
theorem LR{G G':Prop}(g:G')(h:G=G':=by simp+contextual (disch:=first|omega|simp only[go_sem,false_implies]) only[go_sem,wrap64,if_pos,List.length_map,Nat.add_assoc,Nat.add_eq_left,Nat.add_left_cancel_iff,Nat.left_eq_add]<;>rfl):G:=Eq.mpr h g
theorem cZ{G G':Prop}(g:G')(h:G=G':=by simp+contextual only[go_sem]<;>rfl):G:=Eq.mpr h g
theorem rk{P G:Prop}(p:P)(h:P->G:=by intro p;simp+contextual (disch:=first|omega|simp only[go_sem,false_implies]) only[go_sem,wrap64,if_pos,List.length_map,p]):G:=h p
theorem qp{P G:Prop}(p:P)(h:P->G:=by intro p;simp+contextual (disch:=first|omega|simp only[go_sem,false_implies]) only[go_sem,wrap64,if_pos,p]):G:=h p
theorem Fy{P G:Prop}(p:P)(h:P->G:=by intro p;simp+contextual (disch:=first|omega|simp only[go_sem,false_implies]) only[go_sem,wrap64,if_pos,Nat.add_assoc,Nat.add_eq_left,Nat.add_left_cancel_iff,Nat.left_eq_add,p]):G:=h p
theorem Qx{P G G':Prop}(p:P)(g:G')(h:P->G=G':=by intro p;simp+contextual (disch:=first|omega|simp only[go_sem,false_implies]) only[go_sem,wrap64,if_pos,List.length_map,Nat.add_assoc,Nat.add_eq_left,Nat.add_left_cancel_iff,Nat.left_eq_add,rl,p]<;>rfl):G:=Eq.mpr (h p) g
theorem Qy{P G G':Prop}(p:P)(g:G')(h:P->G=G':=by intro p;simp+contextual (disch:=first|omega|simp only[go_sem,false_implies]) only[go_sem,wrap64,if_pos,Bool.and_self,List.length_map,Nat.add_assoc,Nat.add_eq_left,Nat.add_left_cancel_iff,Nat.left_eq_add,p]<;>rfl):G:=Eq.mpr (h p) g
theorem Fz{P G G':Prop}(p:P)(g:G')(h:P->G=G':=by intro p;simp+contextual only[go_sem,Nat.add_assoc,Nat.add_eq_left,Nat.add_left_cancel_iff,Nat.left_eq_add,p]<;>rfl):G:=Eq.mpr (h p) g
theorem WU{G:Prop}(h:G:=by simp+contextual (disch:=first|omega|simp only[go_sem,false_implies]) only[go_sem,wrap64,if_pos,Nat.add_assoc,Nat.add_eq_left,Nat.add_left_cancel_iff,Nat.left_eq_add]):G:=h
theorem gD{P G G':Prop}(p:P)(g:G')(h:P->G=G':=by intro p;simp+contextual only[go_sem,p]<;>rfl):G:=Eq.mpr (h p) g
theorem abt{P G G':Prop}(p:P)(g:G')(h:P->G=G':=by intro p;simp+contextual (disch:=first|omega|simp only[go_sem,false_implies]) only[go_sem,wrap64,if_pos,List.length_append,List.length_cons,List.length_drop,List.length_map,List.length_nil,List.length_take,List.take_length,p]<;>rfl):G:=Eq.mpr (h p) g
theorem abu{P G G':Prop}(p:P)(g:G')(h:P->G=G':=by intro p;simp+contextual (disch:=first|omega|simp only[go_sem,false_implies]) only[go_sem,wrap64,if_pos,List.length_append,List.length_map,List.length_reverse,Nat.add_assoc,Nat.add_eq_left,Nat.add_left_cancel_iff,Nat.left_eq_add,p]<;>rfl):G:=Eq.mpr (h p) g
theorem abv{P G G':Prop}(p:P)(g:G')(h:P->G=G':=by intro p;simp+contextual (disch:=first|omega|simp only[go_sem,false_implies]) only[go_sem,wrap64,if_pos,Bool.and_self,Nat.add_assoc,Nat.add_eq_left,Nat.add_left_cancel_iff,Nat.left_eq_add,p]<;>rfl):G:=Eq.mpr (h p) g
theorem abw{P G:Prop}(p:P)(h:P->G:=by intro p;simp+contextual (disch:=first|omega|simp only[go_sem,false_implies]) only[go_sem,wrap64,if_pos,List.length_map,List.take_length,Nat.le_refl,Nat.zero_le,if_true,p]):G:=h p
theorem abx{P G G':Prop}(p:P)(g:G')(h:P->G=G':=by intro p;simp+contextual (disch:=first|omega|simp only[go_sem,false_implies]) only[go_sem,wrap64,if_pos,List.length_map,bne_self_eq_false,p]<;>rfl):G:=Eq.mpr (h p) g
theorem aby{G G':Prop}(g:G')(h:G=G':=by simp+contextual only[go_sem,List.replicate,Nat.add_assoc,Nat.add_eq_left,Nat.add_left_cancel_iff,Nat.left_eq_add,Mc]<;>rfl):G:=Eq.mpr h g
theorem abz{G G':Prop}(g:G')(h:G=G':=by simp+contextual (disch:=first|omega|simp only[go_sem,false_implies]) only[go_sem,wrap64,if_pos,rl]<;>rfl):G:=Eq.mpr h g
theorem abA{G:Prop}(h:G:=by simp+contextual (disch:=first|omega|simp only[go_sem,false_implies]) only[go_sem,wrap64,if_pos,rl]):G:=h
theorem gW{A Q:Prop}(q:Q)(h:Q->A:=by intro q;(repeat first|rfl|rw[ab]|rw[af _ _ _ _ (by omega)])<;>exact q):A:=h q
theorem dx{P:Prop}(h:P:=by repeat(first|exact hg.mono (by omega)|exact Good.nil|refine Good.aw ?_ (by omega) rfl|refine Good.aw ?_ (by omega) (zg _ _ _ (by omega))|refine Good.aw ?_ (by omega) (by simp[aa.refs,V.aN,V.refs]<;>omega))):P:=h
theorem dU{P:Prop}(h:P:=by(repeat(first|exact zh|refine gQ ?_|refine o8 rfl ?_|refine o8 (nK (pU (by omega))) ?_|refine Hw rfl (by simp[V.refs,V.aN]<;>first|omega|assumption) ?_))):P:=h
theorem iV{P:Prop}(h:P:=by(repeat(first|exact iw|refine cI ?_|refine dm rfl ?_|refine dm (nK (pU (by omega))) ?_|refine ku 0 rfl rfl rfl ?_|refine iY rfl (by simp[V.refs,V.aN]<;>first|omega|assumption) ?_|refine mU rfl (by simp[V.ids]<;>omega) ?_))):P:=h
theorem ad{P:Prop}(h:P:=by omega):P:=h
theorem bp{P:Prop}(h:P:=by(repeat first|rfl|rw[ab]|rw[af _ _ _ _ (by omega)])):P:=h
theorem Tn{P:Prop}(h:P:=by simp[V.refs,V.aN]<;>first|omega|assumption):P:=h
theorem aJ{P:Prop}(h:P:=by kernel_rfl):P:=h
theorem zy7{P:Prop}(h:P:=by simp[aa.refs,V.aN,V.refs]<;>omega):P:=h
theorem aF{P:Prop}(h:P:=by simp):P:=h
theorem To{P:Prop}(h:P:=by simp[V.ids]<;>omega):P:=h
theorem WV{P:Prop}(h:P:=by exact jK hM1.symm _ _ (by omega) (Good.aw (Good.aw (Good.aw (Good.aw (Good.aw (Good.aw (Good.aw (Good.mono (kx lx lm cj Fl) (by omega)) (by omega) rfl) (by omega) rfl) (by omega) rfl) (by omega) rfl) (by omega) rfl) (by omega) rfl) (by omega) rfl) (fun j j1 j2 j3=>by(repeat first|rfl|rw[ab]|rw[af _ _ _ _ (by omega)]);exact tf (by omega) (by omega) j2 j3 (by omega) (by omega))):P:=h
theorem qq{P:Prop}(h:P:=by subst e;(repeat first|rfl|rw[ab]|rw[af _ _ _ _ (by omega)])):P:=h
theorem FA{P:Prop}(h:P:=by rintro⟨h1,h2⟩;first|(cases h1;done)|(cases h2;done)):P:=h
theorem bF{P:Prop}(h:P:=by decide):P:=h
theorem jL{P:Prop}(h:P:=by simpa[execOp,gX]using this):P:=h
theorem yE{P:Prop}(h:P:=by cases rs with|nil=>exact ho.elim|cons x l=>cases l<;>exact ho.elim):P:=h
theorem JX{P:Prop}(h:P:=by have _:=lx;have _:=lm;have _:=cj;unfold s7;(repeat first|rfl|rw[ab]|rw[af _ _ _ _ (by omega)])):P:=h
theorem WW{P:Prop}(h:P:=by simp only[aw]<;>((repeat' split)<;>first|rfl|omega|(subst_vars;first|rfl|assumption|(symm;assumption)|omega|(simp_all;done)))):P:=h
theorem Md{P:Prop}(h:P:=by exact⟨_,pL,ky,hq, .of_steps (.one h0 stepR_seq) (.pass (x:= .code y) rfl (fun _ _=> .inl (by simp)) dF)⟩):P:=h
theorem iT{P:Prop}(h:P:=by dsimp only;omega):P:=h
theorem eY{P:Prop}(h:P:=by rw[ho];rfl):P:=h
theorem af8{P:Prop}(h:P:=by exact hK _ _ (by omega) (fin _ (by omega)) (fun j hj=>by(repeat first|rfl|rw[ab]|rw[af _ _ _ _ (by omega)]))):P:=h
theorem af9{P:Prop}(h:P:=by exact hK k (by rw[zi,Bool.true_or,decide_eq_true_eq];omega) _ _ (by omega) (m2.mono (by omega)) (fun j hj=>m3 j (by omega))):P:=h
theorem JY{P:Prop}(h:P:=by(repeat first|rfl|rw[ab]|rw[af _ _ _ _ (by omega)])<;>exact Hy):P:=h
theorem JZ{P:Prop}(h:P:=by(repeat first|rfl|rw[ab]|rw[af _ _ _ _ (by omega)])<;>exact e1):P:=h
theorem J0{P:Prop}(h:P:=by(repeat first|rfl|rw[ab]|rw[af _ _ _ _ (by omega)])<;>exact e2):P:=h
theorem J1{P:Prop}(h:P:=by(repeat first|rfl|rw[ab]|rw[af _ _ _ _ (by omega)])<;>exact e5):P:=h
theorem J2{P:Prop}(h:P:=by(repeat first|rfl|rw[ab]|rw[af _ _ _ _ (by omega)])<;>exact e6):P:=h
theorem J3{P:Prop}(h:P:=by(repeat first|rfl|rw[ab]|rw[af _ _ _ _ (by omega)])<;>exact e7):P:=h
theorem FB{P:Prop}(h:P:=by rw[List.drop_eq_getElem_cons i1,i2]):P:=h
theorem J4{P:Prop}(h:P:=by unfold AX;(repeat first|rfl|rw[ab]|rw[af _ _ _ _ (by omega)])):P:=h
theorem abB{P:Prop}(h:P:=by exact⟨false, .inl rfl,rfl,kz (fun _ _ h=>by cases h.1) (by rintro⟨h1,h2⟩;first|(cases h1;done)|(cases h2;done)),eq _ (fun d=>by rw[abC w d ht])⟩):P:=h
theorem J5{P:Prop}(h:P:=by(repeat first|rfl|rw[ab]|rw[af _ _ _ _ (by omega)]);exact o0):P:=h
theorem J6{P:Prop}(h:P:=by(repeat first|rfl|rw[ab]|rw[af _ _ _ _ (by omega)]);exact o1):P:=h
theorem abD{P:Prop}(h:P:=by exact hK _ _ (by omega) ((hg.mono (by omega)).aw (by omega) rfl) (fun j hj=>by(repeat first|rfl|rw[ab]|rw[af _ _ _ _ (by omega)]))):P:=h
theorem abE{P:Prop}(h:P:=by exact h4 _ _ (by omega) (Good.aw (Good.aw (Good.aw (h2.mono (by omega)) (by omega) rfl) (by omega) rfl) (by omega) rfl) (fun j j1 j2=>by(repeat first|rfl|rw[ab]|rw[af _ _ _ _ (by omega)]))):P:=h
theorem ve{P:Prop}(h:P:=by simp[aa.refs,V.aN,V.refs]):P:=h
theorem ir{P:Prop}(h:P:=by simp;omega):P:=h
theorem Me{P:Prop}(h:P:=by(repeat(first|exact J7|refine FC ?_|refine Qz rfl ?_))):P:=h
theorem aga{P:Prop}(h:P:=by exact hK _ (by rw[zi,List.drop_length];rfl) _ _ (by omega) (hg.mono (by omega)) (fun j hj=>rfl)):P:=h
theorem J8{P:Prop}(h:P:=by exact tf (by omega) (by omega) j2 j3 (by omega) (by omega)):P:=h
theorem WX{P:Prop}(h:P:=by have _:=lx;have _:=lm;have _:=cj;unfold Hz;(repeat first|rfl|rw[ab]|rw[af _ _ _ _ (by omega)])):P:=h
theorem abF{P:Prop}(h:P:=by exact⟨_,_,_,_,_,_,_,hK,by simp[Instr.range,run_underlying ht,qs], .inl rfl,n1,n2,⟨rfl,by simp,fun _=>⟨w.heap.size,by simp,rfl⟩⟩,fun j hj=> .inr (by simpa using hj)⟩):P:=h
theorem abG{P:Prop}(h:P:=by exact⟨_,_,_,_,_,_,_,hK,by simp[Instr.range,run_underlying ht], .inl rfl,n1,n2,⟨rfl,by simp,fun _=>⟨w.heap.size,by simp,rfl⟩⟩,fun j hj=> .inr (by simpa using hj)⟩):P:=h
theorem nU{P:Prop}(h:P:=by simpa using hj):P:=h
theorem WY{P:Prop}(h:P:=by rw[g5 _ (by omega) (by omega) (by omega)];(repeat first|rfl|rw[ab]|rw[af _ _ _ _ (by omega)])):P:=h
theorem QA{P:Prop}(h:P:=by(repeat first|rfl|rw[ab]|rw[af _ _ _ _ (by omega)])<;>exact FE):P:=h
theorem AY{P:Prop}(h:P:=by simp[Op.equalIn,run_underlying ht]):P:=h
theorem agb{P:Prop}(h:P:=by exact⟨false, .inl rfl,rfl,kz (fun _ _ h=>by cases h.1) (by rintro⟨h1,h2⟩;first|(cases h1;done)|(cases h2;done)),eq _ (fun d=>by rw[abH w d ht])⟩):P:=h
theorem agc{P:Prop}(h:P:=by exact⟨false, .inl rfl,rfl,kz (fun _ _ h=>by cases h.1) (by rintro⟨h1,h2⟩;first|(cases h1;done)|(cases h2;done)),eq _ (fun d=>by rw[abI w d ht])⟩):P:=h
theorem abJ{P:Prop}(h:P:=by exact⟨false, .inl rfl,rfl,kz (fun _ _ h=>by cases h.1) (by rintro⟨h1,h2⟩;first|(cases h1;done)|(cases h2;done)),eq _ (fun d=>by rw[abK w d ht])⟩):P:=h
theorem pM{P:Prop}(h:P:=by simp[V.refs]):P:=h
theorem abL{P:Prop}(h:P:=by exact⟨a,ev,h1,h2,D.aW (w:=w) (w':=w) (fun b _ hn=>⟨rfl,hB b hn⟩) cs ev h3,h5,h4.mono (w:=w) (w':=w) (fun b _ hn=>⟨rfl,hB b hn⟩)⟩):P:=h
theorem abM{P:Prop}(h:P:=by exact .inl ⟨_,_,_, .inr ⟨c,f,g,first,cap,hc,fQ,hf, .inr (.inl ⟨rs,hH,rfl,fun id ay=>by simpa using List.all_eq_true.1 nR id ay⟩)⟩,h⟩):P:=h
theorem abN{P:Prop}(h:P:=by exact .inl ⟨_,_,_, .inr ⟨c,f,g,first,cap,hc,fQ,hf, .inr (.inr (.inr ⟨hH,fun id ay=>by simpa using List.all_eq_true.1 nR id ay⟩))⟩,h⟩):P:=h
theorem abO{P:Prop}(h:P:=by exact db.same hH _ hK (by simp only[Sem.run_bind,hr,Result.andThen_ok];rfl) ⟨_,rfl,zv,[.bool false],rfl,r2, .bool false,[],rfl,rfl,rfl⟩):P:=h
theorem WZ{P:Prop}(h:P:=by(repeat first|rfl|rw[ab]|rw[af _ _ _ _ (by omega)]);rw[List.map_append];rfl):P:=h
theorem abP{P:Prop}(h:P:=by exact .inr ⟨_,_,_,⟨c,f,g,first,cap,hc,fQ,hf, .inr ⟨x,Δ,hH,rfl,rfl,fun id ay=>by simpa using List.all_eq_true.1 nR id ay⟩⟩,h⟩):P:=h
theorem jX{P:Prop}(h:P:=by simp[hy]):P:=h
theorem W0{P:Prop}(h:P:=by subst e1;(repeat first|rfl|rw[ab]|rw[af _ _ _ _ (by omega)]);exact q5):P:=h
theorem CJ{P:Prop}(h:P:=by rw[hp];exact aa.noConfusion):P:=h
theorem qu{P:Prop}(h:P:=by simp[pV,ay]):P:=h
theorem abQ{P:Prop}(h:P:=by rw[List.length_map];exact Nat.le_refl _):P:=h
theorem agd{P:Prop}(h:P:=by rw[zi,Bool.true_or,decide_eq_true_eq];omega):P:=h
theorem abR{P:Prop}(h:P:=by exact(Qb.aw (i:=nx'+3) (m:=nx'+7) (by omega) (by omega) (by omega) rfl).aw (by omega) (by omega) (by omega) rfl):P:=h
theorem W2{P:Prop}(h:P:=by subst e2;(repeat first|rfl|rw[ab]|rw[af _ _ _ _ (by omega)])):P:=h
theorem W3{P:Prop}(h:P:=by(repeat first|rfl|rw[ab]|rw[af _ _ _ _ (by omega)]);exact fx):P:=h
theorem W4{P:Prop}(h:P:=by(repeat first|rfl|rw[ab]|rw[af _ _ _ _ (by omega)]);exact fm):P:=h
theorem W5{P:Prop}(h:P:=by(repeat first|rfl|rw[ab]|rw[af _ _ _ _ (by omega)]);exact f7):P:=h
theorem age{P:Prop}(h:P:=by exact⟨b,r,k1,k2,k3,k4,k5,k6,k7,k8,k9,fun i=>fR _ _ (fun r hr=>hrefs r (V.zj _ _ r hr)) (k10 i)⟩):P:=h
theorem abS{P:Prop}(h:P:=by exact wo (y:=B j) (ho j hj e1) (AZ B e1 (by omega) ds ty sz _) (bB rfl (fun q hq=>hg.refs j q hq))):P:=h
theorem QB{P:Prop}(h:P:=by rw[hold id (by omega) (by omega),LS id (by omega) ay]):P:=h
theorem W6{P:Prop}(h:P:=by injection h with h;injection h with h;subst h;right;rw[Mf];omega):P:=h
theorem QC{P:Prop}(h:P:=by simpa[execOp,gX,resolve,invoke,builtin]using this):P:=h
theorem abT{P:Prop}(h:P:=by exact⟨fo QD.1,fo QD.2,fun id ay=>⟨dj zk.1.1 id ay,dj zk.1.2 id ay⟩,fun id ay=>dj zk.2 id ay⟩):P:=h
theorem abU{P:Prop}(h:P:=by simp only[Sem.run_bind,hr,Result.andThen_ok];rfl):P:=h
theorem abV{P:Prop}(h:P:=by exact⟨t,by simp only[lU,if_neg h1],hv,rfl,fun h=>absurd h h1,fun _=>rfl,fun h=>absurd h h1⟩):P:=h
theorem abW{P:Prop}(h:P:=by unfold yF;exact Nat.le_trans (List.length_filter_le _ _) (by rw[List.length_map];exact Nat.le_refl _)):P:=h
theorem QE{P:Prop}(h:P:=by rw[hQ,AZ _ fS (by omega),af _ _ _ _ e]):P:=h
theorem Mg{P:Prop}(h:P:=by simp[aa.refs,V.aN,V.refs];omega):P:=h
theorem abX{P:Prop}(h:P:=by exact fin _ [] (fun b hb=>by cases hb) eD (World.ownsRow_nil w' 0 ty sz) ⟨[],rfl,by simp,rfl⟩ rfl):P:=h
theorem J9{P:Prop}(h:P:=by injection h with h;exact h ▸ ht):P:=h
theorem agf{P:Prop}(h:P:=by exact⟨w.heap.size,es,clock,rfl,heap_alloc_new w _,e3,aK.mono (ht.blocks (M:=M)) l _ e4⟩):P:=h
theorem abY{P:Prop}(h:P:=by simp only[Op.operands,Call.operands];exact Array.mem_append.2 (.inr (Array.mem_toList_iff.1 hx))):P:=h
theorem abZ{P:Prop}(h:P:=by rw[hn,hI,FF hx];rfl):P:=h
theorem agh{P:Prop}(h:P:=by exact Mh hu dn (fun id h=> .inl (by rw[lV]at h;exact h)) g1.symm g3 kC (jS rfl)):P:=h
theorem Mi{P:Prop}(h:P:=by injection h with h;subst h;exact hK):P:=h
theorem ab0{P:Prop}(h:P:=by simp only[h1,dz,Option.map_some];exact hK):P:=h
theorem ab1{P:Prop}(h:P:=by exact⟨k1,CK.tr.trans k2,CK.size,CK.defers.mono k2,fun j=>V.aV k2 _ _ (CK.env j)⟩):P:=h
theorem agi{P:Prop}(h:P:=by exact hK _ _ (by omega) (g3.mono (by omega)) g4):P:=h
theorem ab2{P:Prop}(h:P:=by rw[af _ _ _ _ e,af _ _ _ _ e,af _ _ _ _ (by omega),hI.eq j hj,af _ _ _ _ e]):P:=h
theorem pN{P:Prop}(h:P:=by simp[hx]):P:=h
theorem QF{P:Prop}(h:P:=by exact V.aV (ht.trans k2) _ _ (hs.env i)):P:=h
theorem agj{P:Prop}(h:P:=by exact⟨k1,hs.tr.trans k2,hs.size,hs.defers.mono k2,fun j=>V.aV k2 _ _ (hs.env j)⟩):P:=h
theorem ab3{P:Prop}(h:P:=by exact Nat.le_trans (List.length_filter_le _ _) (by rw[List.length_map];exact Nat.le_refl _)):P:=h
theorem ab4{P:Prop}(h:P:=by exact jt sx (wq (by simp[V.refs];omega) (qv 0 rfl rfl rfl (lW ju)))):P:=h
theorem ab5{P:Prop}(h:P:=by rw[m3 id h2 (by omega),af _ _ _ _ (by omega),af _ _ _ _ (by omega),dn id h2 h3]):P:=h
theorem ab6{P:Prop}(h:P:=by subst e2;(repeat first|rfl|rw[ab]|rw[af _ _ _ _ (by omega)]);exact q6):P:=h
theorem ab7{P:Prop}(h:P:=by subst e1;(repeat first|rfl|rw[ab]|rw[af _ _ _ _ (by omega)]);exact w4):P:=h
theorem agk{P:Prop}(h:P:=by exact Bool.false_ne_true (mV.trans h.marks)):P:=h
theorem Tp{P:Prop}(h:P:=by exact hQ _ _ _ _ val k5 (fC hs k1 k2 (o':=o') (nx':=nx') rfl fun id hu=>hu) k4):P:=h
theorem Mj{P:Prop}(h:P:=by exact⟨_,pL,ky,hq, .of_steps (.one h0 stepR_block) dF⟩):P:=h
theorem Mk{P:Prop}(h:P:=by exact⟨_,pL,ky,hq, .of_steps (.one h0 lz) dF⟩):P:=h
theorem CL{P:Prop}(h:P:=by unfold fZ;rw[QG trivial]):P:=h
theorem Tq{P:Prop}(h:P:=by exact .inr (.inr (.inr (pW.mono (fun v o n h=>hK _ h) (fun v o n h=>hX _ _ h) h)))):P:=h
theorem Ts{P:Prop}(h:P:=by(repeat first|rfl|rw[ab]|rw[af _ _ _ _ (by omega)]);exact pj j hj e1):P:=h
theorem Ml{P:Prop}(h:P:=by exact h ▸ ⟨hb,[],by simp⟩):P:=h
theorem Tt{P:Prop}(h:P:=by exact⟨none,0,0,rfl,rfl,Nat.le_refl _,fun _=>rfl,0,fun a ha=>by cases ha⟩):P:=h
theorem Tu{P:Prop}(h:P:=by exact⟨b,es',clock,k1,k2,k4,aK.mono (fun b _ hn=>⟨rfl,hB b hn⟩) _ _ k3⟩):P:=h
theorem HA{P:Prop}(h:P:=by rw[show(hp o nx).o id=_ from ho];rfl):P:=h
theorem zl{P:Prop}(h:P:=by exact⟨by omega,by omega⟩):P:=h
theorem Tv{P:Prop}(h:P:=by exact fun k hk s' h1 h2=>CM _ (fun x hx=>a8 x (vf k hk x hx)) s' h1 h2):P:=h
theorem Mm{P:Prop}(h:P:=by injection h with h;subst h;exact⟨by assumption,hK⟩):P:=h
theorem Tw{P:Prop}(h:P:=by exact⟨k1,xs,k2,evs,k3,k4,D.aW (fun b _ hn=>⟨rfl,hB b hn⟩) _ _ k5⟩):P:=h
theorem ab8{P:Prop}(h:P:=by rw[zi,List.drop_length];rfl):P:=h
theorem Tx{P:Prop}(h:P:=by rw[ab,List.map_append,List.map_append,List.map_take,List.map_drop];rfl):P:=h
theorem Ty{P:Prop}(h:P:=by rw[show((hp o nx).put (bK o x.ids)).o j=_ from f4 j hm];exact la.rfl' rfl):P:=h
theorem Tz{P:Prop}(h:P:=by subst h;(repeat first|rfl|rw[ab]|rw[af _ _ _ _ (by omega)])):P:=h
theorem TA{P:Prop}(h:P:=by exact hH.fresh j fun hu=>h (.inl hu)):P:=h
theorem ab9{P:Prop}(h:P:=by exact⟨r, .inl rfl,by obtain⟨_,rfl,_⟩:=hx;rfl,fun op=>g2 op p q,g1⟩):P:=h
theorem Mn{P:Prop}(h:P:=by simp at h;obtain⟨rfl,rfl⟩:=h;exact⟨rfl,rfl⟩):P:=h
theorem TC{P:Prop}(h:P:=by exact hN _ _ _ (kD hs k1 k2 (nV ho) dq rfl fun id hu=> .inl hu)):P:=h
theorem TD{P:Prop}(h:P:=by rw[show((hp o nx).put (bK o x.ids)).o j=_ from f3 j hm];exact la.fz _):P:=h
theorem TE{P:Prop}(h:P:=by exact⟨_,_,_,_,_,_,_,hK,by simp[hr], .inl rfl,h1,h2,h3,by simp⟩):P:=h
theorem aca{P:Prop}(h:P:=by simp only[a0,Array.size_append,Array.size_replicate];simp at hlen;omega):P:=h
theorem acb{P:Prop}(h:P:=by exact forall_congr' fun k=>forall_congr' fun hk=>by rw[ih k hk (d+1)]):P:=h
theorem TF{P:Prop}(h:P:=by cases xv<;>first|(simp[TG]at hwd;done)|(cases yv<;>simp[he])):P:=h
theorem TH{P:Prop}(h:P:=by exact⟨x,b.trans y,z⟩):P:=h
theorem zm{P:Prop}(h:P:=by simpa[V.refs]using hr):P:=h
theorem TI{P:Prop}(h:P:=by exact hK _ _ (by omega) (Qb.mono (by omega)) dn):P:=h
theorem TJ{P:Prop}(h:P:=by exact bB s1 (fun r hr=>by simp[aa.refs,V.aN,V.refs]at hr)):P:=h
theorem TK{P:Prop}(h:P:=by exact(AZ B (by omega) (by omega) ds ty sz _).trans (jK j (by omega))):P:=h
theorem TL{P:Prop}(h:P:=by exact mo (fun k k' b r hk=>eQ hk (Nat.le_max_right _ _)) k1):P:=h
theorem Mo{P:Prop}(h:P:=by rw[nR];simp only[pV,fQ,yG];exact ay):P:=h
theorem TM{P:Prop}(h:P:=by injection hu with hu;injection hv with hv;subst hu;subst hv;exact h3):P:=h
theorem zo{P:Prop}(h:P:=by simp[V.aN,V.refs]):P:=h
theorem CN{P:Prop}(h:P:=by exact hg.fresh j (by omega)):P:=h
theorem TN{P:Prop}(h:P:=by exact hN _ _ _ _ k3.2 (o9 hs k1 k2 k3.1 dq rfl fun id hu=>hu)):P:=h
theorem TO{P:Prop}(h:P:=by exact⟨by omega,fun k hk=>ih k hk (by have:=Tm.mW hk;omega)⟩):P:=h
theorem pX{P:Prop}(h:P:=by simp[hz]):P:=h
theorem Mp{P:Prop}(h:P:=by simp at hl;obtain⟨rfl,rfl⟩:=hl;exact hK):P:=h
theorem HB{P:Prop}(h:P:=by rw[i4];exact fun h=>nomatch h):P:=h
theorem nL{P:Prop}(h:P:=by simp[ht]):P:=h
theorem TP{P:Prop}(h:P:=by rw[af _ _ _ _ yH,tg _ _ (by omega)];exact h0 id (by omega)):P:=h
theorem TQ{P:Prop}(h:P:=by exact jt s11 (lW (lW (qv 0 rfl rfl rfl ju)))):P:=h
theorem TR{P:Prop}(h:P:=by subst e2;rw[FG]at hr;simp[aa.refs,V.aN,V.refs]at hr):P:=h
theorem Mq{P:Prop}(h:P:=by simp at hj hy;subst hj;subst hy;exact a8):P:=h
theorem HC{P:Prop}(h:P:=by rw[if_neg e,if_neg (by omega)]):P:=h
theorem lA{P:Prop}(h:P:=by cases h):P:=h
theorem TS{P:Prop}(h:P:=by subst e;rw[hx]at hy;injection hy with hy;rw[<- hy];exact j7):P:=h
theorem acd{P:Prop}(h:P:=by rw[List.length_eraseIdx];simp[hi];omega):P:=h
theorem HD{P:Prop}(h:P:=by rw[hm];exact aa.noConfusion):P:=h
theorem Mr{P:Prop}(h:P:=by simp only[V.den,D.den]at HE;rw[HE]):P:=h
theorem ace{P:Prop}(h:P:=by exact h3 e (Array.mem_toList_iff.1 he) hb):P:=h
theorem HG{P:Prop}(h:P:=by rw[hg];simp[eF,hv,e]):P:=h
theorem TT{P:Prop}(h:P:=by exact db.same hH _ h (by simp[execOp,gX,hr]) ⟨_,rfl,hv⟩):P:=h
theorem TU{P:Prop}(h:P:=by exact⟨0,0,b,by simp only[lX], .inl ⟨rfl,rfl,ρ,R,hS⟩⟩):P:=h
theorem Ms{P:Prop}(h:P:=by rw[vE];exact dw all _ bu):P:=h
theorem Mt{P:Prop}(h:P:=by exact⟨l,rfl,by simp at h1;omega,hl⟩):P:=h
theorem uw{P:Prop}(h:P:=by rw[yy];rfl):P:=h
theorem HH{P:Prop}(h:P:=by simp[V.aN,V.refs];omega):P:=h
theorem acf{P:Prop}(h:P:=by exact⟨fun h=>h.elim (fun h=>h) (fun e=>e ▸ eE), .inl⟩):P:=h
theorem TV{P:Prop}(h:P:=by exact bU t u hu (hQ _ s φ w (.iface t u) h hs ⟨u,rfl,hd⟩)):P:=h
theorem Mu{P:Prop}(h:P:=by rw[if_neg e,if_neg fun h=>e h.symm]):P:=h
theorem HI{P:Prop}(h:P:=by simp[binOp,CO hr]):P:=h
theorem Mv{P:Prop}(h:P:=by exact⟨.ret,s',aI,hq,kE,trivial⟩):P:=h
theorem Mw{P:Prop}(h:P:=by exact bnd _ h _ (Nat.le_max_right _ _)):P:=h
theorem TW{P:Prop}(h:P:=by exact⟨e',QH,fr',hR,ComesIn.of_steps TX hs,FH,hl⟩):P:=h
theorem ux{P:Prop}(h:P:=by rw[hx];rfl):P:=h
theorem zp{P:Prop}(h:P:=by rw[hx];exact hk):P:=h
theorem Mx{P:Prop}(h:P:=by rw[yz i hi];exact congrArg some hb):P:=h
theorem TY{P:Prop}(h:P:=by exact⟨b,k1,k2.mono (fun b _ hn=>⟨rfl,hB b hn⟩) rfl⟩):P:=h
theorem CP{P:Prop}(h:P:=by exact W7 j1 j2 j3):P:=h
theorem My{P:Prop}(h:P:=by unfold fZ;exact Eq.trans rfl rfl):P:=h
theorem HJ{P:Prop}(h:P:=by rw[Qc]at hl;simp at hl):P:=h
theorem HK{P:Prop}(h:P:=by subst hi;simp[Ne.symm h]):P:=h
theorem Mz{P:Prop}(h:P:=by exact⟨.bU _,s',aI,hq,kE,hm⟩):P:=h
theorem MA{P:Prop}(h:P:=by unfold Ka;exact Eq.trans rfl rfl):P:=h
theorem MB{P:Prop}(h:P:=by rw[List.getElem?_eq_getElem hj,e]):P:=h
theorem HL{P:Prop}(h:P:=by exact fun _=>Kc _ _ _):P:=h
theorem HM{P:Prop}(h:P:=by rw[this]at h3;cases h3):P:=h
theorem HN{P:Prop}(h:P:=by exact absurd h0 (by simp)):P:=h
theorem MC{P:Prop}(h:P:=by unfold eqGuard;cases op<;>simp):P:=h
theorem HO{P:Prop}(h:P:=by rw[h]at h1;simp at h1):P:=h
theorem HP{P:Prop}(h:P:=by simp[Act.eval,Act.put]):P:=h
theorem MD{P:Prop}(h:P:=by simp[hj]at hr;exact⟨hr,rfl⟩):P:=h
theorem zq{P:Prop}(h:P:=by simpa using h2):P:=h
theorem ME{P:Prop}(h:P:=by simp at hj;subst hj;exact eE):P:=h
theorem zr{P:Prop}(h:P:=by simpa using hx):P:=h
theorem MF{P:Prop}(h:P:=by rw[ho];exact aa.noConfusion):P:=h
theorem MG{P:Prop}(h:P:=by rw[hx];exact aa.noConfusion):P:=h
theorem HQ{P:Prop}(h:P:=by rw[af _ _ _ _ e]):P:=h
theorem HS{P:Prop}(h:P:=by rw[Kd]at hj;omega):P:=h
theorem HT{P:Prop}(h:P:=by simp[maxLen];omega):P:=h
theorem zu{P:Prop}(h:P:=by rw[h1];rfl):P:=h
theorem CQ{P:Prop}(h:P:=by cases b<;>rfl):P:=h
theorem zw{P:Prop}(h:P:=by rw[hj];rfl):P:=h
theorem acg{P:Prop}(h:P:=by exact⟨b,h4.trans h5,h6⟩):P:=h
theorem zw3{P:Prop}(h:P:=by rw[yI]at zi;refine gB ?_;refine aj (k+1) ⟨h1,zi⟩ ad ?_;refine bM.bQ _ (Nat.le_refl _) ad (hg.mono ad) (fun j hj=>m3 j ad) ?_;exact dU):P:=h
theorem zw7{P:Prop}(h:P:=by refine dQ (ae u0 (ae u1 (ae ua (ae d0 (ae d1 (ae FI (ae FJ yJ))))))) ?_;refine aj (1+1) h6 ad ?_;rw[hS];refine wu ha.1 (gW u0) (gW u1) (.inl (gW ua)) ?_;exact iV):P:=h
theorem zw8{P:Prop}(h:P:=by refine dQ (ae u0 (ae u1 (ae ua (ae d0 (ae d1 (ae FI (ae FJ fP))))))) ?_;refine aj (i+1) h6 ad ?_;rw[hS];refine wu ha.1 (gW u0) (gW u1) (.inl (gW ua)) ?_;exact iV):P:=h
theorem W8{P:Prop}(h:P:=by obtain⟨i1,i2⟩:=List.getElem?_eq_some_iff.1 hx;exact FB):P:=h
theorem W9{P:Prop}(h:P:=by refine aL (bN rfl) ?_;refine gC q2 ?_;refine eZ _ _ _ .busy none ad (fin _ _ (fun id ay=>WW) dx ad) bp (fun id h3 h4=>bp)):P:=h
theorem QI{P:Prop}(h:P:=by simp[Ef,Array.getD_eq_getD_getElem?,Array.getElem?_replicate]at jT;split at jT<;>simp at jT):P:=h
theorem Xa{P:Prop}(h:P:=by obtain⟨h0,h1,h2⟩:=h;refine⟨h0,hr.us id h1,fun cL=> ?_⟩;obtain⟨h3,h4⟩:=hr.row id h1 cL;obtain⟨b,h5,h6⟩:=h2 h3;exact acg):P:=h
theorem Xb{P:Prop}(h:P:=by obtain⟨a,b,c⟩:=hr id pM;obtain⟨h0,h1,h2⟩:=h;refine⟨h0,c,fun cL=> ?_⟩;rw[a]at cL;obtain⟨x,y,z⟩:=h2 cL;exact TH):P:=h
theorem Xc{P:Prop}(h:P:=by obtain⟨a,b,c⟩:=hr id pM;obtain⟨h0,h1,h2⟩:=h;refine⟨h0,c,fun cL=> ?_⟩;obtain⟨x,y,z⟩:=h2 (a.1 cL);exact TH):P:=h
theorem Xd{P:Prop}(h:P:=by obtain⟨h0,x,hx⟩:=HU hI;refine gD (ae hI (ae hx h0)) ?_;refine aL (bN rfl) ?_;refine cZ ?_;exact abZ):P:=h
theorem QJ{P:Prop}(h:P:=by refine aT (key _ _ fun r g1 o' nx' g2 g3 g4=> ?_);refine c9 g1 ?_;exact agi):P:=h
theorem ach{P:Prop}(h:P:=by refine c9 (ae hp (ae w1 w2)) ?_;refine aZ (MH _) ?_;refine c9 (ae hp (ae w1 w2)) ?_;refine bf cs rfl ?_;refine c9 (ae hp (ae w1 w2)) ?_;refine aL (bN rfl) ?_;refine c9 (ae hp (ae w1 w2)) ?_;exact abD):P:=h
theorem QK{P:Prop}(h:P:=by refine fin _ _ (.inr rfl) _ _ ad dx (fun j j1 j2=>bp) (fun h=> ?_);exact agk):P:=h
theorem QL{P:Prop}(h:P:=by refine bM.bQ _ (Nat.le_refl _) ad (hg.mono ad) (fun _ _=>rfl) ?_;exact dU):P:=h
theorem Xe{P:Prop}(h:P:=by intro j hj;simp only[bO,h2,List.mem_map,List.mem_filter]at hj;obtain⟨e,⟨he,hb⟩,rfl⟩:=hj;exact ace):P:=h
theorem acj{P:Prop}(h:P:=by simp only[lX]at h;injection h with h;injection h with _ h;exact Ml):P:=h
theorem ack{P:Prop}(h:P:=by obtain⟨h0,h1,h2⟩:=h;refine⟨h0,hr.us id h1,fun e' rb=> ?_⟩;obtain⟨e,g1,g2,g3⟩:=hr.ep id e' h1 rb;obtain⟨h3,h4⟩:=h2 e g1;refine⟨Nat.le_trans h3 g2,fun heq=> ?_⟩;rw[g3 (by omega)];exact h4 ad):P:=h
theorem acm{P:Prop}(h:P:=by refine dQ (ae u0 (ae u1 (ae ua (ae d0 (ae d1 (ae FI (ae FJ (ae yJ (ae TZ CS))))))))) ?_;refine aj (1+1) h6 ad ?_;rw[hS];refine wu ha.1 (gW u0) (gW u1) (.inl (gW ua)) ?_;exact iV):P:=h
theorem Xf{P:Prop}(h:P:=by rw[List.drop_eq_getElem_cons h1];rw[List.getElem?_eq_getElem h1]at hx;injection hx with hx;rw[hx]):P:=h
theorem Xg{P:Prop}(h:P:=by obtain⟨z,h1,h⟩:=jY h;simp only[Prod.mk.injEq]at h;obtain⟨rfl,rfl,rfl⟩:=h;exact ab0):P:=h
theorem Ke{P:Prop}(h:P:=by refine ku 1 rfl rfl rfl ?_;exact iV):P:=h
theorem QM{P:Prop}(h:P:=by refine cS ?_;refine aL (bN rfl) ?_;exact qo):P:=h
theorem MI{P:Prop}(h:P:=by simp only[St.S,j8]at this;exact this):P:=h
theorem acn{P:Prop}(h:P:=by refine dQ (ae u0 (ae u1 (ae ua (ae d0 (ae d1 (ae FI FJ)))))) ?_;refine aj (1+1) h6 ad ?_;rw[hS];refine wu ha.1 (gW u0) (gW u1) (.inl (gW ua)) ?_;exact iV):P:=h
theorem aco{P:Prop}(h:P:=by refine⟨t,by simp only[lU,if_pos h1,hl],hv,rfl,fun _=>hl,fun h=>absurd h1 h,fun _=>⟨fun u hu=> ?_,fun h=>absurd h1 h⟩⟩;rw[(iy h1).1 hu];exact Nat.le_refl _):P:=h
theorem Xh{P:Prop}(h:P:=by simp only[Array.getD_eq_getD_getElem?];rw[Array.getElem?_setIfInBounds_ne (Ne.symm hi)]):P:=h
theorem Xi{P:Prop}(h:P:=by refine gD hI ?_;refine aL (bN rfl) ?_;refine cZ ?_;rw[hn,hI];rfl):P:=h
theorem Xj{P:Prop}(h:P:=by obtain⟨h0,x,hx⟩:=HU hI;refine gD (ae h (ae hI (ae hx h0))) ?_;exact abZ):P:=h
theorem Xk{P:Prop}(h:P:=by dsimp only;refine bM.bQ _ (Nat.le_refl _) ad hI.cW (fun _ _=>rfl) ?_;exact dU):P:=h
theorem A0{P:Prop}(h:P:=by subst this;exact qo):P:=h
theorem acp{P:Prop}(h:P:=by simp only[Option.map_eq_some_iff]at h;obtain⟨d,h1,rfl⟩:=h;obtain⟨arr,rfl,g1,g2⟩:=hx;obtain⟨val,r1,r2⟩:=iZ h1 g1 g2;exact fin (r1 w) r2):P:=h
theorem Xl{P:Prop}(h:P:=by refine cZ ?_;refine ax (iz _ _ _) rfl ?_;refine cZ ?_;rw[hn]):P:=h
theorem Xm{P:Prop}(h:P:=by subst this;refine eC hn ?_;refine aL (bN rfl) ?_;exact qo):P:=h
theorem acq{P:Prop}(h:P:=by rw[show(⟨put o' [(fr, .arr 0 ty sz es)],fun id=>us id\/id=fr⟩:Hp).o fr=put o' [(fr, .arr 0 ty sz es)] fr from rfl,this]at he;injection he):P:=h
theorem acr{P:Prop}(h:P:=by simp only[hx]at h ho;injection h with h;subst h;simp only[aa.fz]at ho;simp only[aU,ho]at a8;rw[hd (by rw[ho];rfl)];exact a8.den):P:=h
theorem acs{P:Prop}(h:P:=by obtain⟨g3,x2,g4⟩:=ih cK b1 (fun z hz=>m1 z pX) (fun z hz=>m2 z pX) g1 h;exact⟨g3,x1++x2,by rw[g4,g2,List.append_assoc]⟩):P:=h
theorem acu{P:Prop}(h:P:=by obtain⟨h0,y,h1,h2,h3,h4⟩:=wv h;simp only[Prod.mk.injEq]at h4;obtain⟨rfl,rfl,rfl⟩:=h4;exact⟨h0,y,h1,h2,h3,hK⟩):P:=h
theorem acv{P:Prop}(h:P:=by simp only[Option.map_eq_some_iff]at h;obtain⟨r,h1,rfl⟩:=h;obtain⟨g1,g2⟩:=Xn h1 hg (aq M φ H) w xv yv hx hy;exact ab9):P:=h
theorem QN{P:Prop}(h:P:=by refine c9 (ae hp (ae w1 w2)) ?_;exact af8):P:=h
theorem acw{P:Prop}(h:P:=by obtain⟨h3,h4⟩:=hb _ cD h2;exact⟨by rw[World.cell?_of_block (w:=w) (w':=w') (a:=a.add j) (by simpa using h3)];exact h1,h4⟩):P:=h
theorem acx{P:Prop}(h:P:=by simp only[ha];obtain⟨z,h1,h⟩:=jY h;simp only[Prod.mk.injEq]at h;obtain⟨rfl,rfl,rfl⟩:=h;exact A1 h1 hK):P:=h
theorem acz{P:Prop}(h:P:=by simp only[hw,if_true];obtain⟨vF,kC⟩:=CT MJ (fun id ay=>ag2 id (by rw[yz];exact ay)) Xo a8.2;exact agh):P:=h
theorem acA{P:Prop}(h:P:=by cases y<;>simp only[V.same,Bool.false_eq_true,Bool.and_eq_true]at h;rw[Nat.eq_of_beq_eq_true h.1,Nat.eq_of_beq_eq_true h.2]):P:=h
theorem acB{P:Prop}(h:P:=by rw[<- wx];refine jv hH (cE w _) dn _ _ MK ?_;unfold aU;simp only[bS,aQ,if_true];exact agf):P:=h
theorem QO{P:Prop}(h:P:=by rw[yI]at zi;refine gB ?_;exact af9):P:=h
theorem acC{P:Prop}(h:P:=by intro u hu;simp only[Array.toList_extract,List.extract]at hu;exact hf u (List.mem_of_mem_drop (List.mem_of_mem_take hu))):P:=h
theorem acD{P:Prop}(h:P:=by refine⟨hH,Trans.refl _ _ _, ?_,⟨[],rfl,List.nodup_nil,fun _=>rfl,fun r hr=>by cases hr⟩,CU hd⟩;exact aca):P:=h
theorem acE{P:Prop}(h:P:=by refine cI (dm (gW g1) (iY (gW g2) pM (cI (cI (ku 0 rfl rfl (gW g3) ?_)))));exact iV):P:=h
theorem Xp{P:Prop}(h:P:=by obtain⟨hi,_⟩:=List.getElem?_eq_some_iff.1 hm;exact acd):P:=h
theorem acF{P:Prop}(h:P:=by simp only[lX]at h;injection h with h;injection h with h4 h5;subst h4;subst h5;rw[if_pos rfl]at hr;exact⟨n,hr⟩):P:=h
theorem acG{P:Prop}(h:P:=by rw[e];obtain⟨k1,k2⟩:=lB (us':=HV (Array.replicate ops.size false)) hs.heap (fun id h=> .inl h);exact agj):P:=h
theorem FK{P:Prop}(h:P:=by rw[this];exact qo):P:=h
theorem Xq{P:Prop}(h:P:=by simp only[bS,aQ,h1,if_false];exact TA):P:=h
theorem acH{P:Prop}(h:P:=by refine cZ ?_;simp at h1;rw[List.drop_eq_nil_of_le h1]at hf;simp only[aR]at hf;rw[hf]at hK;exact TI):P:=h
theorem acI{P:Prop}(h:P:=by refine ra ?_;refine aj (j+1) h7 ad (bM.bQ _ ad ad hg2 (fun j hj=>rfl) ?_);rw[hsu];exact dU):P:=h
theorem acJ{P:Prop}(h:P:=by simp only[Option.some.injEq,Prod.mk.injEq]at h;obtain⟨rfl,rfl,rfl⟩:=h;simp only[ho];exact⟨_,hg,hK⟩):P:=h
theorem Xr{P:Prop}(h:P:=by rw[show fr+(j+1)=fr+1+j by omega];exact this):P:=h
theorem acK{P:Prop}(h:P:=by injection h with h;subst h;obtain⟨u,rfl,_⟩:=hy;simp only[V.den,D.den]at hx;subst hx;exact agc):P:=h
theorem acL{P:Prop}(h:P:=by injection h with h;subst h;obtain⟨u,rfl,_⟩:=hx;simp only[V.den,D.den]at hy;subst hy;exact agb):P:=h
theorem acM{P:Prop}(h:P:=by simp only[Array.toList_append,List.append_assoc];rw[<- List.append_assoc, <- this];exact List.take_left):P:=h
theorem acN{P:Prop}(h:P:=by refine .inr (.inr (.inl ⟨ds,out,fT,hP,re, ?_⟩));cases out<;>first|exact hK _ h|exact hX _ _ h):P:=h
theorem T0{P:Prop}(h:P:=by rw[hI.eq 2 (by omega)];(repeat first|rfl|rw[ab]|rw[af _ _ _ _ (by omega)]);exact p2):P:=h
theorem T1{P:Prop}(h:P:=by simp only[aU,ho]at a8;obtain⟨bk,es,clock,g1,_⟩:=a8;rw[<- fA]at g1;subst g1;exact abB):P:=h
theorem HW{P:Prop}(h:P:=by subst h1;refine gB ?_;exact aga):P:=h
theorem T2{P:Prop}(h:P:=by simp only[aa.fz]at ho;simp only[aU,ho]at a8;rw[(hd ep (by rw[ho];rfl)).2 rfl];exact a8):P:=h
theorem T3{P:Prop}(h:P:=by rw[Array.toList_append,Array.toList_append,Array.toList_map];exact V.rm Fo dV hca):P:=h
theorem T4{P:Prop}(h:P:=by refine .inr (.inl ⟨ds,out,fT,hP,re, ?_⟩);cases out<;>first|exact hK _ h|exact hX _ _ h):P:=h
theorem T5{P:Prop}(h:P:=by obtain⟨b,eG,ty,k1,k2,k3,k4⟩:=bu;exact⟨b,eG,ty,k1,k2,kF _ _ hrefs k3,k4⟩):P:=h
theorem T6{P:Prop}(h:P:=by intro cK b _ _ hb h;simp only[lX]at h;injection h with h;injection h with _ h;exact Ml):P:=h
theorem T7{P:Prop}(h:P:=by refine a7.aH mix agl aF ?_;rw[c29];refine gC hx ?_;refine bC h ?_;exact qo):P:=h
theorem T8{P:Prop}(h:P:=by obtain⟨arr,rfl,g1,g2⟩:=hx;obtain⟨val,r1,r2⟩:=Kg h g1 g2;exact fin r1 r2):P:=h
theorem T9{P:Prop}(h:P:=by simp only[Array.getD_eq_getD_getElem?];rw[Array.getElem?_setIfInBounds_ne (Ne.symm h1)]):P:=h
theorem Ua{P:Prop}(h:P:=by refine⟨x,fun heq=> ?_⟩;obtain⟨p,q,r,z,u⟩:=y heq;exact⟨p,q,r,b.trans z,u⟩):P:=h
theorem Ub{P:Prop}(h:P:=by rw[hL.refs,List.all_eq_true];intro r hr;have:=hrefs r hr;exact decide_eq_true ad):P:=h
theorem Uc{P:Prop}(h:P:=by refine .inl ⟨ds,out,fT,hP, ?_⟩;cases out<;>first|exact hK _ h|exact hX _ _ h):P:=h
theorem ML{P:Prop}(h:P:=by refine gD (ae h hI) ?_;rw[hn,hI];rfl):P:=h
theorem Ud{P:Prop}(h:P:=by refine eC (ae w0 (ae HX (ae FE hd))) ?_;refine ax hkn rfl ?_;exact qo):P:=h
theorem Ue{P:Prop}(h:P:=by simp only[Ef,Array.getD_eq_getD_getElem?,Array.getElem?_replicate];split<;>rfl):P:=h
theorem Uf{P:Prop}(h:P:=by simp only[List.map_cons,List.map_nil,List.mem_singleton,eq_iff_iff];exact acf):P:=h
theorem Ug{P:Prop}(h:P:=by rw[show((hp o nx).put (bK o x.ids)).o id=_ from this]at g1;exact⟨id,g1,g2⟩):P:=h
theorem Uh{P:Prop}(h:P:=by simp[H',aa.cu]at he;subst he;exact⟨Nat.le_refl _,fun _=>by simp[aI]⟩):P:=h
theorem Ui{P:Prop}(h:P:=by rw[hm,ja (o:=s.o) fun id ay=>hr id (mX _ id ay)];exact hΔ):P:=h
theorem Uj{P:Prop}(h:P:=by obtain⟨a,b,c,h⟩:=funcOf (P:=Tryz.prog) (t:=209) aJ;unfold th;rw[h]):P:=h
theorem Uk{P:Prop}(h:P:=by simp only[bH]at h;injection h with h;injection h with h;subst h;exact hm):P:=h
theorem Ul{P:Prop}(h:P:=by rw[h2]at hK;refine dQ h1 ?_;exact hK _ _ ad (hg.mono ad) (fun j hj=>rfl)):P:=h
theorem HY{P:Prop}(h:P:=by rw[hm]at this;exact this):P:=h
theorem Um{P:Prop}(h:P:=by cases y<;>simp only[D.same,Bool.false_eq_true]at h;rw[D.ed cC _ h]):P:=h
theorem Un{P:Prop}(h:P:=by rw[if_neg e0]at h;injection h with h;injection h with h _;exact absurd h e0):P:=h
theorem Uo{P:Prop}(h:P:=by subst this;refine eC hx ?_;refine aL (bN rfl) ?_;exact qo):P:=h
theorem Up{P:Prop}(h:P:=by rw[Bool.eq_iff_iff];simp only[List.all_eq_true (l:=t.kids)];exact acb):P:=h
theorem Uq{P:Prop}(h:P:=by simp only[bH]at h;injection h with h;subst h;exact⟨rfl,hg,hl,hw⟩):P:=h
theorem Ur{P:Prop}(h:P:=by obtain⟨b,r,k1,k2,k3,k4,k5,k6,k7,k8,k9,k10⟩:=bu;exact age):P:=h
theorem Us{P:Prop}(h:P:=by dsimp only;refine bM.bQ _ ad ad dx (fun j hj=>bp) ?_;exact dU):P:=h
theorem Ut{P:Prop}(h:P:=by rw[if_pos h3]at h;injection h with h;injection h with _ h;exact Ml):P:=h
theorem Uu{P:Prop}(h:P:=by obtain⟨u,us,rfl,h1,_⟩:=h;simp at hd;subst hd;exact⟨u,aF,h1⟩):P:=h
theorem Uv{P:Prop}(h:P:=by refine bM.bQ _ (Nat.le_refl _) ad hg (fun _ _=>rfl) ?_;exact dU):P:=h
theorem Uw{P:Prop}(h:P:=by rw[m2.eq id (by omega)];unfold ext;rw[if_neg (by omega)];exact bp):P:=h
theorem Ux{P:Prop}(h:P:=by intro c hx;rw[Array.getD_eq_getD_getElem?,hx]at dF;simp at dF):P:=h
theorem Uy{P:Prop}(h:P:=by obtain⟨r,h⟩:=MM hS 12 p.2 40 (HZ p hp);exact⟨_,r,h⟩):P:=h
def uz(ops:Array Oper)(j:Nat):Option Tmp:=(ops[j]?).bind (·.dst)
structure cg where
 dst:Option Nat
 op:Op
 gd:Option (Nat×Bool):=none
instance:Inhabited cg:=⟨⟨none, .ready 0,none⟩⟩
def FL(n:Nat):Option Tmp->Bool
 |some d=>decide (d<n)
 |none=>true
def MN(n:Nat)(ops:Array Oper)(o:Oper):Option cg:=
 if FL n o.dst=true then match o.guard with
  |none=>some ⟨o.dst,o.op,none⟩
  |some (j,want)=>match uz ops j with
   |some d=>some ⟨o.dst,o.op,some (d,want)⟩
   |none=>none
 else none
def mq(n:Nat)(ops:Array Oper):List Oper->Option (List cg)
 |[]=>some []
 |o::l=>match MN n ops o,mq n ops l with
  |some x,some xs=>some (x::xs)
  |_,_=>none
def tmpsOf(o:cg):List Nat:=(o.op.operands.toList.filterMap fun| .tmp t=>some t|_=>none)++(match o.gd with|some (d,_)=>[d]|none=>[])
def fU(o:cg):List Nat:=tmpsOf o++o.dst.toList
def bO(ops:Array Oper)(i:Nat):List Nat:=match ops[i]? with|some o=>(o.after.toList.filter (Region.binds .any)).map (·.on)|none=>[]
def cq(l:List cg)(i:Nat):cg:=l.getD i default
inductive IC where
 |skip|ck (l:List cg)|iW (l:List cg) (pr:List (List Nat))|seq (a b:IC)|cond (c:Operand) (a b:IC)|block (id:Nat) (a:IC)|loop (a:IC)|exit (id:Nat)|ret|bad
 |LU (g:Operand) (ps:List Nat) (a b:IC)
 deriving Inhabited
inductive lh where
 |ret|exit (id:Nat)
def lh.code:lh->Code
 | .ret=> .ret
 | .exit id=> .exit id
def mY(acc:List Nat):List Nat->Nat
 |[]=>0
 |j::ps=>(2^j|||acc.getD j 0)|||mY acc ps
def ff:List (List Nat)->List Nat->List Nat
 |[],acc=>acc
 |ps::l,acc=>ff l (acc++[mY acc ps])
def tj(x y:cg):Bool:=match x.dst with|some d=> !(fU y).contains d|none=>true
def A2(l:List cg)(pr:List (List Nat)):Bool:=
 (List.range l.length).all fun j=>(List.range j).all fun i=>((ff pr []).getD j 0).testBit i||(tj (cq l i) (cq l j)&&tj (cq l j) (cq l i))
def lY(xs ys:List Nat):Bool:=xs.all fun x=> !ys.contains x
def fD(pr:List (List Nat))(fp:List (List Nat×List Nat)):Bool:=
 (List.range fp.length).all fun j=>(List.range j).all fun i=>((ff pr []).getD j 0).testBit i||
  (lY (fp.getD i ([],[])).2 (fp.getD j ([],[])).1&&lY (fp.getD i ([],[])).2 (fp.getD j ([],[])).2&&lY (fp.getD j ([],[])).2 (fp.getD i ([],[])).1)
def iA(ops:Array Oper):List (List Nat):=(List.range ops.size).map (bO ops)
def Xs(pr:List (List Nat)):Bool:=(List.range pr.length).all fun k=>(pr.getD k []).all fun j=>decide (j<k)
theorem wy{acc:List Nat}{i:Nat}:∀ (ps:List Nat),(mY acc ps).testBit i=true->∃j∈ps,i=j\/(acc.getD j 0).testBit i=true
 |[],h=>by simp[mY]at h
 |j::ps,h=>by
  simp only[mY,Nat.testBit_or,Bool.or_eq_true]at h
  rcases h with(h|h)|h
  ·rw[Nat.testBit_two_pow]at h
   exact⟨j,aF, .inl (by have h:=of_decide_eq_true h;exact h.symm)⟩
  ·exact⟨j,aF, .inr h⟩
  ·obtain⟨j',h1,h2⟩:=wy ps h
   exact⟨j',by simp[h1],h2⟩
theorem tl{k:Nat}:∀ (l:List (List Nat)) (acc:List Nat),k<acc.length->(ff l acc).getD k 0=acc.getD k 0
 |[],_,_=>rfl
 |ps::l,acc,h=>by
  rw[ff,tl l _ (by simp;omega)]
  simp[List.getD_eq_getElem?_getD,List.getElem?_append_left h]
theorem tn{i:Nat}:∀ (l:List (List Nat)) (acc:List Nat) (k:Nat),acc.length<=k->(∀k',k'<l.length->∀j∈l.getD k' [],j<acc.length+k')->((ff l acc).getD k 0).testBit i=true->
 ∃j∈l.getD (k - acc.length) [],i=j\/((ff l acc).getD j 0).testBit i=true
 |[],acc,k,hk,_,h=>by
  simp only[ff]at h
  rw[List.getD_eq_getElem?_getD,List.getElem?_eq_none hk]at h
  simp at h
 |ps::l,acc,k,hk,hp,h=>by
  simp only[ff]at h|-
  by_cases he:k=acc.length
  ·subst he
   rw[tl l _ (by simp)]at h
   have e:(acc++[mY acc ps]).getD acc.length 0=mY acc ps:=by simp[List.getD_eq_getElem?_getD]
   rw[e]at h
   obtain⟨j,h1,h2⟩:=wy ps h
   refine⟨j,by simpa using h1,h2.imp id fun h2=> ?_⟩
   have hj:j<acc.length:=by simpa using hp 0 aF j (by simpa using h1)
   rw[tl l _ (by simp;omega)]
   simpa[List.getD_eq_getElem?_getD,List.getElem?_append_left hj]using h2
  ·obtain⟨j,h1,h2⟩:=tn l (acc++[mY acc ps]) k ir (fun k' Kh j hj=>by
    have:=hp (k'+1) ir j nU
    simp;omega) h
   refine⟨j, ?_,h2⟩
   have e:k - acc.length=(k - (acc++[mY acc ps]).length)+1:=by simp;omega
   rw[e];simpa using h1
theorem rn{pr:List (List Nat)}(hp:∀k,k<pr.length->∀j∈pr.getD k [],j<k){E:Nat->Bool}(hE:∀k,k<pr.length->E k=true->∀j∈pr.getD k [],E j=true):
 ∀k,k<pr.length->(∀j∈pr.getD k [],E j=true)->∀i,((ff pr []).getD k 0).testBit i=true->E i=true:=by
 intro k
 induction k using Nat.strongRecOn with
 |ind k ih=>
  intro hk hj i hi
  obtain⟨j,h1,h2⟩:=tn pr [] k aF (fun k' Kh j hj=>by simpa using hp k' Kh j hj) hi
  simp only[List.length_nil,Nat.sub_zero]at h1
  rcases h2 with rfl|h2
  ·exact hj _ h1
  ·have Uz:=hp k hk j h1
   exact ih j Uz ad (hE j ad (hj j h1)) i h2
theorem CV{pr:List (List Nat)}(hp:∀k,k<pr.length->∀j∈pr.getD k [],j<k):∀k,k<pr.length->∀i,((ff pr []).getD k 0).testBit i=true->i<k:=by
 intro k
 induction k using Nat.strongRecOn with
 |ind k ih=>
  intro hk i hi
  obtain⟨j,h1,h2⟩:=tn pr [] k aF (fun k' Kh j hj=>by simpa using hp k' Kh j hj) hi
  simp only[List.length_nil,Nat.sub_zero]at h1
  have Uz:=hp k hk j h1
  rcases h2 with rfl|h2
  ·exact Uz
  ·have:=ih j Uz ad i h2;omega
def low(n:Nat):Code->IC
 | .skip=> .skip
 | .label _=> .skip
 | .scope c=>low n c
 | .region _ ops false=>match mq n ops ops.toList with
   |some l=> .ck l
   |none=> .bad
 | .region _ ops true=>match mq n ops ops.toList with
   |some l=>if A2 l (iA ops)&&Xs (iA ops)then .iW l (iA ops)else .bad
   |none=> .bad
 | .seq a b=> .seq (low n a) (low n b)
 | .cond c a b=> .cond c (low n a) (low n b)
 | .block id a=> .block id (low n a)
 | .loop a=> .loop (low n a)
 | .exit id=> .exit id
 | .ret=> .ret
 | .rangeFunc g ps a b=> .LU g ps.toList (low n a) (low n b)
 |_=> .bad
section
inductive D where
 |int (k:IntKind) (n:Int)|bool (b:Bool)|str (s:List UInt8)
 |fE|mu|cJ|dX
 |agg (cs:List D)|sl (es:List D)|iface (t:TypeId) (d:D)
 |mp (ks vs:List D)
 deriving Inhabited
def Flat(vs:List Value):Prop:=∀u∈vs,u.oneCell'=true
def iB(B:Nat->Prop)(w:World)(a:Addr)(cs:Array Value):Prop:=∀j u,cs[j]? =some u->w.cell? (a.add j)=some u/\ ¬B a.block
def jw(es:Array MapEntry)(clock:Nat):Prop:=(∀e∈es.toList,e.born<clock)/\(es.toList.map (·.born)).Nodup
def A3(ks:List D):Prop:=ks.Nodup/\∀k∈ks,∃n,k= .int .i64 n
mutual
def D.den (B:Nat->Prop)(w:World):D->Value->Prop
 | .int k n,v=>v= .int k n
 | .bool b,v=>v= .bool b
 | .str l,v=>∃s:ByteArray,v= .string s/\s.data.toList=l
 | .fE,v=>v= .nilIface
 | .mu,v=>v= .pointer none
 | .cJ,v=>v= .nilFunc
 | .dX,v=>v= .map none
 | .agg cs,v=>∃a,v= .agg a/\D.aG B w cs a.toList/\Flat a.toList
 | .sl es,v=>∃base len cap,v= .slice base len cap/\len=es.length/\len<=cap/\(base=none->cap=0)/\
  ∃sz,∀a,base=some a->(cap≠0->a.spot=none)/\D.elems B w sz a 0 es
 | .iface t d,v=>∃u,v= .iface t u/\D.den B w d u
 | .mp ks vs,v=>∃m es clock p,v= .map (some m)/\w.heap[m]? =some (.map es clock)/\ ¬B m/\jw es clock/\(p=es.toList\/(p.Perm es.toList/\A3 ks))/\D.aG B w ks (p.map (·.key))/\D.aG B w vs (p.map (·.val))
def D.aG (B:Nat->Prop)(w:World):List D->List Value->Prop
 |[],vs=>vs=[]
 |d::ds,vs=>∃u us,vs=u::us/\D.den B w d u/\D.aG B w ds us
def D.elems (B:Nat->Prop)(w:World)(sz:Nat)(a:Addr):Nat->List D->Prop
 |_,[]=>True
 |i,e::es=>(∃ev:Value,ev.cells.size=sz/\iB B w (a.add (i*sz)) ev.cells/\D.den B w e ev)/\D.elems B w sz a (i+1) es
end
inductive V where
 |d (x:D)|ao|agg (cs:List V)|cf (vs:List V)
 |ptr (id off:Nat)|osl (id ep:Nat)|pe (id ep i sz off:Nat)|pp (cs:List D) (off:Nat)
 |func (fn:Fn) (first cap:List V)|iface (t:TypeId) (x:V)
 |ai
 |pY (es:List D)|zA (id off n:Nat)|mp (id:Nat)|gh|lC (id:Nat)
 deriving Inhabited
inductive aa where
 |no|row (cs:List V)|arr (ep:Nat) (ty:TypeId) (sz:Nat) (es:List D)|vg (ep:Nat) (es:List D)
 |map (kt vt:TypeId) (es:List (D×D))
 |loop (nf n:Nat) (env:List V) (ps:List Nat) (a b:IC) (st:LoopState) (Ki:Option lh)
 |bZ (es:List (D×D))|s8 (es:List (D×D)) (last:Option (D×D))|A4 (s:List UInt8) (pos:Nat)
 deriving Inhabited
def aY(l:List V):Nat->V:=fun i=>l.getD i .ai
structure Hp where
 o:Nat->aa
 us:Nat->Prop
def aa.cu:aa->Option Nat
 | .arr ep _ _ _| .vg ep _=>some ep
 |_=>none
def aa.cF:aa->Bool
 | .row _| .map .. | .loop .. | .bZ _| .s8 .. | .A4 .. =>true
 |_=>false
def aa.live:aa->Bool
 | .row _| .arr .. | .map .. | .loop .. | .s8 .. | .A4 .. =>true
 |_=>false
def dY:Value->Option Nat
 | .pointer (some a)| .slice (some a) _ _=>some a.block
 | .map (some b)=>some b
 |_=>none
abbrev Place:=Nat->Value
def cO(φ:Place)(H:Hp)(b:Nat):Prop:=∃id,(H.o id).live=true/\dY (φ id)=some b
def aq(M:Nat->Prop)(φ:Place)(H:Hp)(b:Nat):Prop:=M b\/cO φ H b
mutual
def V.den (B:Nat->Prop)(φ:Place)(H:Hp)(w:World):V->Value->Prop
 | .d x,v=>D.den B w x v
 | .ao,v=>v= .slice none 0 0
 | .agg cs,v=>∃a,v= .agg a/\V.aG B φ H w cs a.toList/\Flat a.toList
 | .cf vs,v=>∃a,v= .tuple a/\V.aG B φ H w vs a.toList
 | .ptr id off,v=>v.oneCell'=true/\H.us id/\((H.o id).cF=true->∃b,φ id= .pointer (some ⟨b,0,none⟩)/\v= .pointer (some ⟨b,off,none⟩))
 | .osl id ep,v=>v.oneCell'=true/\H.us id/\∀e,(H.o id).cu=some e->ep<=e/\(ep=e->v=φ id)
 | .pe id ep i sz off,v=>v.oneCell'=true/\H.us id/\∀e,(H.o id).cu=some e->ep<=e/\(ep=e->∃b n c,φ id= .slice (some ⟨b,0,none⟩) n c/\v= .pointer (some ⟨b,i*sz+off,none⟩))
 | .pp cs off,v=>∃a ev,a.spot=none/\v= .pointer (some (a.add off))/\D.aG B w cs ev/\Flat ev/\iB B w a ev.toArray
 | .func fn first cap,v=>∃f c,v= .func fn f c/\V.aG B φ H w first f.toList/\V.aG B φ H w cap c.toList
 | .iface t x,v=>∃u,v= .iface t u/\V.den B φ H w x u
 | .ai,_=>True
 | .pY es,v=>D.den B w (.sl es) v/\∃base n,v= .slice base n n
 | .zA id off n,v=>v.oneCell'=true/\H.us id/\((H.o id).cF=true->∃b,φ id= .pointer (some ⟨b,0,none⟩)/\v= .slice (some ⟨b,off,none⟩) n n)
 | .mp id,v=>v.oneCell'=true/\H.us id/\((H.o id).cF=true->v=φ id)
 | .gh,v=>∃b,v= .bool b
 | .lC id,v=>v.oneCell'=true/\H.us id/\((H.o id).cF=true->∃b,φ id= .pointer (some ⟨b,0,none⟩)/\v= .func (.yield b) #[] #[])
def V.aG (B:Nat->Prop)(φ:Place)(H:Hp)(w:World):List V->List Value->Prop
 |[],vs=>vs=[]
 |x::xs,vs=>∃u us,vs=u::us/\V.den B φ H w x u/\V.aG B φ H w xs us
end
def dG(B:Nat->Prop)(w:World)(sz:Nat)(es:List D)(xs:List Value):Prop:=
 ∃evs:List Value,xs=evs.flatMap (·.cells.toList)/\(∀ev∈evs,ev.cells.size=sz)/\D.aG B w es evs
def aK(B:Nat->Prop)(w:World):List (D×D)->List MapEntry->Prop
 |[],es=>es=[]
 |(k,x)::l,es=>∃e es',es=e::es'/\D.den B w k e.key/\D.den B w x e.val/\aK B w l es'
def A5(B:Nat->Prop)(w:World)(l:List (D×D))(last:Option (D×D))(b:Nat):Prop:=
 w.heap[b]? =some (.mapIter none 0 #[] 0)/\l=[]/\last=none\/
 ∃m since seen es,w.heap[b]? =some (.mapIter (some m) since seen since)/\w.heap[m]? =some (.map es since)/\ ¬B m/\jw es since/\(∃l',l'.Perm l/\aK B w l' (es.toList.filter fun e=> !seen.contains e.born))/\
  ∀k x,last=some (k,x)->∃e∈es.toList,seen.back?=some e.born/\D.den B w k e.key/\D.den B w x e.val
def lZ(B:Nat->Prop)(w:World)(l:List (D×D))(v:Value):Prop:=
 ∃b es clock,v= .map (some b)/\w.heap[b]? =some (.map es clock)/\ ¬B b/\jw es clock/\aK B w l es.toList
def aU(M:Nat->Prop)(φ:Place)(H:Hp)(w:World)(id:Nat):Prop:=
 match H.o id with
 | .no=>True
 | .row cs=>∃b eG ty,φ id= .pointer (some ⟨b,0,none⟩)/\w.heap[b]? =some (.cells eG ty (0,0))/\V.aG (aq M φ H) φ H w cs eG.toList/\Flat eG.toList
 | .arr _ ty sz es=>0<sz/\∃xs,w.ownsRow 0 ty sz (φ id) es.length xs/\dG (aq M φ H) w sz es xs
 | .vg _ es=>D.den (aq M φ H) w (.sl es) (φ id)
 | .loop nf n env ps kG fV st Ki=>∃b r,φ id= .pointer (some ⟨b,0,none⟩)/\w.heap[b]? =some (.loop r)/\r.fn<nf/\r.state=st/\r.pending=Ki.map lh.code/\r.params.toList=ps/\r.tmps.size=n/\low n r.assign=kG/\low n r.body=fV/\
  ∀i,V.den (aq M φ H) φ H w (aY env i) (r.tmps.getD i undef)
 | .map _ _ l=>∃b es clock,φ id= .map (some b)/\w.heap[b]? =some (.map es clock)/\jw es clock/\aK (aq M φ H) w l es.toList
 | .bZ l=>lZ (aq M φ H) w l (φ id)
 | .s8 l last=>∃b,φ id= .pointer (some ⟨b,0,none⟩)/\A5 (aq M φ H) w l last b
 | .A4 s pos=>∃b,φ id= .pointer (some ⟨b,0,none⟩)/\w.heap[b]? =some (.stringIter ⟨⟨s⟩⟩ pos)
structure aB (M:Nat->Prop) (φ:Place) (H:Hp) (w:World):Prop where
 ok:∀id,aU M φ H w id
 fresh:∀id, ¬H.us id->H.o id= .no
 apart:∀i j b,(H.o i).live=true->(H.o j).live=true->dY (φ i)=some b->dY (φ j)=some b->i=j
 ours:∀b,cO φ H b-> ¬M b/\b<w.heap.size
 Cy:∀b,M b->b<w.heap.size
structure dZ (m:Nat->Prop) (w w':World):Prop where
 os:w'.os=w.os
 tape:w'.tape=w.tape
 output:w'.output=w.output
 size:w.heap.size<=w'.heap.size
 block:∀k,k<w.heap.size-> ¬m k->w'.heap[k]? =w.heap[k]?
structure eH (φ:Place) (H:Hp) (aI:Place) (H':Hp):Prop where
 us:∀id,H.us id->H'.us id
 row:∀id,H.us id->(H'.o id).cF=true->(H.o id).cF=true/\aI id=φ id
 ep:∀id e',H.us id->(H'.o id).cu=some e'->∃e,(H.o id).cu=some e/\e<=e'/\(e=e'->aI id=φ id)
structure Trans (φ:Place) (H:Hp) (w:World) (aI:Place) (H':Hp) (w':World):Prop where
 cP:dZ (cO φ H) w w'
 grow:∀b,cO aI H' b->cO φ H b\/w.heap.size<=b
 rel:eH φ H aI H'
theorem dZ.refl (m:Nat->Prop)(w:World):dZ m w w:=⟨rfl,rfl,rfl,Nat.le_refl _,fun _ _ _=>rfl⟩
theorem eH.refl (φ:Place)(H:Hp):eH φ H φ H:=⟨fun _ h=>h,fun _ _ h=>⟨h,rfl⟩,fun _ e' _ h=>⟨e',h,Nat.le_refl _,fun _=>rfl⟩⟩
theorem Trans.refl (φ:Place)(H:Hp)(w:World):Trans φ H w φ H w:=⟨dZ.refl _ _,fun _ h=> .inl h,eH.refl _ _⟩
theorem eH.trans {φ aI FM:Place}{H H' H'':Hp}(h:eH φ H aI H')(k:eH aI H' FM H''):eH φ H FM H'' where
 us id ay:=k.us id (h.us id ay)
 row id ay hr:=by
  obtain⟨a,b⟩:=k.row id (h.us id ay) hr
  obtain⟨c,d⟩:=h.row id ay a
  exact⟨c,b.trans d⟩
 ep id e' ay he:=by
  obtain⟨e,h1,h2,h3⟩:=k.ep id e' (h.us id ay) he
  obtain⟨e0,g1,g2,g3⟩:=h.ep id e ay h1
  refine⟨e0,g1,Nat.le_trans g2 h2,fun heq=> ?_⟩
  have a:e0=e:=ad
  have b:e=e':=ad
  exact(h3 b).trans (g3 a)
theorem Trans.trans {φ aI FM:Place}{H H' H'':Hp}{w w' QH:World}(h:Trans φ H w aI H' w')(k:Trans aI H' w' FM H'' QH):Trans φ H w FM H'' QH where
 cP:={
  os:=k.cP.os.trans h.cP.os
  tape:=k.cP.tape.trans h.cP.tape
  output:=k.cP.output.trans h.cP.output
  size:=Nat.le_trans h.cP.size k.cP.size
  block:=fun b hb hm=>by
   rw[k.cP.block b (Nat.lt_of_lt_of_le hb h.cP.size) (fun hl=>by
    rcases h.grow b hl with h1|h1
    ·exact hm h1
    ·omega),h.cP.block b hb hm]}
 grow b hl:=by
  rcases k.grow b hl with h1|h1
  ·exact h.grow b h1
  ·exact .inr (Nat.le_trans h.cP.size h1)
 rel:=h.rel.trans k.rel
@[simp] theorem aaE (a:Addr) (j:Nat):(a.add j).block=a.block:=by unfold Addr.add;split<;>rfl
def rp(w:World)(b:Nat):Prop:=∃cs ty fz,w.heap[b]? =some (.cells cs ty fz)
def dt(w:World)(b:Nat):Prop:=rp w b\/∃es clock,w.heap[b]? =some (.map es clock)
theorem dt.lt {w:World}{b:Nat}(h:dt w b):b<w.heap.size:=by
 rcases Nat.lt_or_ge b w.heap.size with hl|hl
 ·exact hl
 ·rcases h with⟨cs,ty,fz,h⟩|⟨es,clock,h⟩
  ·rw[Array.getElem?_eq_none hl]at h;cases h
  ·rw[Array.getElem?_eq_none hl]at h;cases h
theorem pZ{w:World}{a:Addr}{u:Value}(h:w.cell? a=some u):rp w a.block:=by
 unfold World.cell? at h
 split at h
 ·exact⟨_,_,_,by assumption⟩
 ·cases h
theorem vh{w:World}{a:Addr}{u:Value}(h:w.cell? a=some u):dt w a.block:= .inl (pZ h)
theorem iB.mono {B B':Nat->Prop}{w w':World}{a:Addr}{cs:Array Value}
 (hb:∀b,dt w b-> ¬B b->w'.heap[b]? =w.heap[b]? /\ ¬B' b) (h:iB B w a cs):iB B' w' a cs:=by
 intro j u hj
 obtain⟨h1,h2⟩:=h j u hj
 have cD:dt w a.block:=by simpa using vh h1
 exact acw
mutual
theorem D.aV {B B':Nat->Prop}{w w':World}(hb:∀b,dt w b-> ¬B b->w'.heap[b]? =w.heap[b]? /\ ¬B' b):
 ∀ (x:D) (v:Value),D.den B w x v->D.den B' w' x v
 | .int _ _,_,h| .bool _,_,h| .str _,_,h| .fE,_,h| .mu,_,h| .cJ,_,h| .dX,_,h=>by simpa[D.den]using h
 | .agg cs,_,h=>by
   obtain⟨a,rfl,h,hf⟩:=h
   exact⟨a,rfl,D.aW hb cs _ h,hf⟩
 | .sl es,_,h=>by
   obtain⟨base,len,cap,rfl,h1,h2,h3,sz,h4⟩:=h
   exact⟨base,len,cap,rfl,h1,h2,h3,sz,fun a ha=>⟨(h4 a ha).1,D.wz hb sz a es 0 (h4 a ha).2⟩⟩
 | .iface t d,_,h=>by
   obtain⟨u,rfl,h⟩:=h
   exact⟨u,rfl,D.aV hb d u h⟩
 | .mp ks vs,_,h=>by
   obtain⟨m,es,clock,p,rfl,h1,h2,h3,hp,h4,h5⟩:=h
   obtain⟨k1,k2⟩:=hb m (.inr ⟨es,clock,h1⟩) h2
   exact⟨m,es,clock,p,rfl,k1.trans h1,k2,h3,hp,D.aW hb ks _ h4,D.aW hb vs _ h5⟩
theorem D.aW {B B':Nat->Prop}{w w':World}(hb:∀b,dt w b-> ¬B b->w'.heap[b]? =w.heap[b]? /\ ¬B' b):
 ∀ (ds:List D) (vs:List Value),D.aG B w ds vs->D.aG B' w' ds vs
 |[],_,h=>h
 |d::ds,_,h=>by
  obtain⟨u,us,rfl,h1,h2⟩:=h
  exact⟨u,us,rfl,D.aV hb d u h1,D.aW hb ds us h2⟩
theorem D.wz {B B':Nat->Prop}{w w':World}(hb:∀b,dt w b-> ¬B b->w'.heap[b]? =w.heap[b]? /\ ¬B' b)(sz:Nat)(a:Addr):
 ∀ (es:List D) (i:Nat),D.elems B w sz a i es->D.elems B' w' sz a i es
 |[],_,_=>trivial
 |e::es,i,h=>by
  obtain⟨⟨ev,h1,h2,h3⟩,h4⟩:=h
  exact⟨⟨ev,h1,h2.mono hb,D.aV hb e ev h3⟩,D.wz hb sz a es (i+1) h4⟩
end
theorem aK.mono {B B':Nat->Prop}{w w':World}(hb:∀b,dt w b-> ¬B b->w'.heap[b]? =w.heap[b]? /\ ¬B' b):
 ∀ (l:List (D×D)) (es:List MapEntry),aK B w l es->aK B' w' l es
 |[],_,h=>h
 |(k,x)::l,_,h=>by
  obtain⟨e,es,rfl,h1,h2,h3⟩:=h
  exact⟨e,es,rfl,D.aV hb k _ h1,D.aV hb x _ h2,aK.mono hb l es h3⟩
theorem A5.mono {B B':Nat->Prop}{w w':World}(hb:∀b,dt w b-> ¬B b->w'.heap[b]? =w.heap[b]? /\ ¬B' b){l:List (D×D)}{last:Option (D×D)}{b:Nat}(MO:w'.heap[b]? =w.heap[b]?)(h:A5 B w l last b):A5 B' w' l last b:=by
 rcases h with⟨h1,h2⟩|⟨m,since,seen,es,h1,h2,h3,h4,h5,h6⟩
 ·exact .inl ⟨MO.trans h1,h2⟩
 ·obtain⟨k1,k2⟩:=hb m (.inr ⟨es,since,h2⟩) h3
  obtain⟨l',h5,vG⟩:=h5
  refine .inr ⟨m,since,seen,es,MO.trans h1,k1.trans h2,k2,h4,⟨l',h5,aK.mono hb l' _ vG⟩,fun k x e=> ?_⟩
  obtain⟨e,g1,g2,g3,g4⟩:=h6 k x e
  exact⟨e,g1,g2,D.aV hb k _ g3,D.aV hb x _ g4⟩
theorem mw{B:Nat->Prop}{w:World}:∀ (l:List (D×D)) (es:List MapEntry),aK B w l es↔D.aG B w (l.map (·.1)) (es.map (·.key))/\D.aG B w (l.map (·.2)) (es.map (·.val))
 |[],es=>by
  simp only[aK,List.map_nil,D.aG]
  constructor
  ·rintro rfl;exact⟨rfl,rfl⟩
  ·rintro⟨h,_⟩;simpa using h
 |(k,x)::l,es=>by
  simp only[aK,List.map_cons,D.aG]
  constructor
  ·rintro⟨e,es',rfl,h1,h2,h3⟩
   obtain⟨g1,g2⟩:=(mw l es').1 h3
   exact⟨⟨_,_,rfl,h1,g1⟩,⟨_,_,rfl,h2,g2⟩⟩
  ·rintro⟨⟨u,us,h1,h2,h3⟩,⟨v,vs,h4,h5,h6⟩⟩
   cases es with
   |nil=>simp at h1
   |cons e es'=>
    simp only[List.map_cons,List.cons.injEq]at h1 h4
    obtain⟨rfl,rfl⟩:=h1
    obtain⟨rfl,rfl⟩:=h4
    exact⟨e,es',rfl,h2,h5,(mw l es').2 ⟨h3,h6⟩⟩
theorem lZ.den {B:Nat->Prop}{w:World}{l:List (D×D)}{v:Value}(h:lZ B w l v):D.den B w (.mp (l.map (·.1)) (l.map (·.2))) v:=by
 obtain⟨b,es,clock,h1,h2,h3,h4,h5⟩:=h
 obtain⟨h6,h7⟩:=(mw _ _).1 h5
 exact⟨b,es,clock,es.toList,h1,h2,h3,h4, .inl rfl,h6,h7⟩
theorem lZ.mono {B B':Nat->Prop}{w w':World}(hb:∀b,dt w b-> ¬B b->w'.heap[b]? =w.heap[b]? /\ ¬B' b){l:List (D×D)}{v:Value}(h:lZ B w l v):lZ B' w' l v:=by
 obtain⟨b,es,clock,h1,h2,h3,h4,h5⟩:=h
 obtain⟨k1,k2⟩:=hb b (.inr ⟨es,clock,h2⟩) h3
 exact⟨b,es,clock,h1,k1.trans h2,k2,h4,aK.mono hb l _ h5⟩
theorem D.aE {B:Nat->Prop}{w:World}:∀ (ds:List D) (vs:List Value),D.aG B w ds vs->vs.length=ds.length
 |[],_,h=>by simp[D.aG]at h;simp[h]
 |d::ds,_,h=>by obtain⟨u,us,rfl,_,h2⟩:=h;simp[D.aE ds us h2]
theorem D.dA {B:Nat->Prop}{w:World}:∀ (ds:List D) (vs:List Value) (i:Nat) (d:D),D.aG B w ds vs->ds[i]? =some d->∃v,vs[i]? =some v/\D.den B w d v
 |[],_,_,_,_,hd=>by simp at hd
 |d::ds,_,0,x,h,hd=>by
  exact Uu
 |d::ds,_,i+1,x,h,hd=>by
  obtain⟨u,us,rfl,_,h2⟩:=h
  simpa using D.dA ds us i x h2 (by simpa using hd)
theorem D.zB {B:Nat->Prop}{w:World}{sz:Nat}{a:Addr}:∀ (es:List D) (i j:Nat) (e:D),D.elems B w sz a i es->es[j]? =some e->
 ∃ev:Value,ev.cells.size=sz/\iB B w (a.add ((i+j)*sz)) ev.cells/\D.den B w e ev
 |[],_,_,_,_,hd=>by simp at hd
 |e::es,i,0,x,h,hd=>by
  simp at hd;subst hd;simpa using h.1
 |e::es,i,j+1,x,h,hd=>by
  have:=D.zB es (i+1) j x h.2 (by simpa using hd)
  simpa[Nat.add_assoc,Nat.add_comm 1 j]using this
section
variable {M:Nat->Prop}{φ aI:Place}{H H':Hp}{w w':World}
theorem Trans.blocks (ht:Trans φ H w aI H' w')(b:Nat)(hc:dt w b)(h: ¬aq M φ H b):w'.heap[b]? =w.heap[b]? /\ ¬aq M aI H' b:=by
 have hb:=hc.lt
 refine⟨ht.cP.block b hb fun hl=>h (.inr hl), ?_⟩
 rintro(h1|h1)
 ·exact h (.inl h1)
 ·rcases ht.grow b h1 with h2|h2
  ·exact h (.inr h2)
  ·omega
mutual
theorem V.my (hb:∀b,dt w b-> ¬aq M φ H b->w'.heap[b]? =w.heap[b]? /\ ¬aq M aI H' b)(hr:eH φ H aI H'):∀ (x:V) (v:Value),V.den (aq M φ H) φ H w x v->V.den (aq M aI H') aI H' w' x v
 | .d x,v,h=>D.aV hb x v h
 | .ao,_,h=>h
 | .ai,_,_=>trivial
 | .pY es,v,h=>⟨D.aV hb (.sl es) v h.1,h.2⟩
 | .zA id off n,v,h=>by
   exact Xa
 | .mp id,v,h=>by
   obtain⟨h0,h1,h2⟩:=h
   refine⟨h0,hr.us id h1,fun cL=> ?_⟩
   obtain⟨h3,h4⟩:=hr.row id h1 cL
   exact(h2 h3).trans h4.symm
 | .gh,v,h=>h
 | .lC id,v,h=>by
   exact Xa
 | .agg cs,_,h=>by obtain⟨a,rfl,h,hf⟩:=h;exact⟨a,rfl,V.gR hb hr cs _ h,hf⟩
 | .cf cs,_,h=>by obtain⟨a,rfl,h⟩:=h;exact⟨a,rfl,V.gR hb hr cs _ h⟩
 | .ptr id off,v,h=>by
   exact Xa
 | .osl id ep,v,h=>by
   exact ack
 | .pe id ep i sz off,v,h=>by
   exact ack
 | .pp cs off,v,h=>by
   obtain⟨a,ev,h1,h2,h3,h5,h4⟩:=h
   exact⟨a,ev,h1,h2,D.aW hb cs ev h3,h5,h4.mono hb⟩
 | .func fn first cap,_,h=>by
   obtain⟨f,c,rfl,h1,h2⟩:=h
   exact⟨f,c,rfl,V.gR hb hr first _ h1,V.gR hb hr cap _ h2⟩
 | .iface t x,_,h=>by obtain⟨u,rfl,h⟩:=h;exact⟨u,rfl,V.my hb hr x u h⟩
theorem V.gR (hb:∀b,dt w b-> ¬aq M φ H b->w'.heap[b]? =w.heap[b]? /\ ¬aq M aI H' b)(hr:eH φ H aI H'):∀ (ds:List V) (vs:List Value),V.aG (aq M φ H) φ H w ds vs->V.aG (aq M aI H') aI H' w' ds vs
 |[],_,h=>h
 |x::xs,_,h=>by
  obtain⟨u,us,rfl,h1,h2⟩:=h
  exact⟨u,us,rfl,V.my hb hr x u h1,V.gR hb hr xs us h2⟩
end
theorem V.aV (ht:Trans φ H w aI H' w')(x:V)(v:Value)(h:V.den (aq M φ H) φ H w x v):V.den (aq M aI H') aI H' w' x v:=V.my ht.blocks ht.rel x v h
theorem V.aW (ht:Trans φ H w aI H' w')(ds:List V)(vs:List Value)(h:V.aG (aq M φ H) φ H w ds vs):V.aG (aq M aI H') aI H' w' ds vs:=V.gR ht.blocks ht.rel ds vs h
end
end
end Go.Proofs.YtlhemmpklhhgoaaGreat
