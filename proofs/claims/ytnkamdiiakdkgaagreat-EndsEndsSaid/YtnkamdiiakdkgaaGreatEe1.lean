/-
  A PART. Conditions: none.
-/
import Derived.WalkKit
import Derived.Below
set_option linter.unusedSimpArgs false
set_option linter.unusedVariables false
set_option maxHeartbeats 8000000
namespace Go.Proofs.YtnkamdiiakdkgaaGreat
theorem ak{a b:Prop}(x:a)(y:b):a/\b:=⟨x,y⟩
theorem ba{G G':Prop}(g:G')(h:G=G':=by simp+contextual (disch:=first|omega|simp only[go_sem,false_implies]) only[go_sem,wrap64,if_pos,and_self]<;>rfl):G:=Eq.mpr h g
theorem cz{P G G':Prop}(p:P)(g:G')(h:P->G=G':=by intro p;simp+contextual (disch:=first|omega|simp only[go_sem,false_implies]) only[go_sem,wrap64,if_pos,p]<;>rfl):G:=Eq.mpr (h p) g
theorem ir{G G':Prop}(g:G')(h:G=G':=by simp+contextual (disch:=first|omega|simp only[go_sem,false_implies]) only[go_sem,wrap64,if_pos,Nat.add_assoc,Nat.add_eq_left,Nat.add_left_cancel_iff,Nat.left_eq_add]<;>rfl):G:=Eq.mpr h g
theorem gu{P G G':Prop}(p:P)(g:G')(h:P->G=G':=by intro p;simp+contextual (disch:=first|omega|simp only[go_sem,false_implies]) only[go_sem,wrap64,if_pos,Nat.add_assoc,Nat.add_eq_left,Nat.add_left_cancel_iff,Nat.left_eq_add,p]<;>rfl):G:=Eq.mpr (h p) g
theorem dY{P G G':Prop}(p:P)(g:G')(h:P->G=G':=by intro p;simp+contextual (disch:=first|omega|simp only[go_sem,false_implies]) only[go_sem,wrap64,if_pos,List.length_map,p]<;>rfl):G:=Eq.mpr (h p) g
theorem mW{G G':Prop}(g:G')(h:G=G':=by simp+contextual (disch:=first|omega|simp only[go_sem,false_implies]) only[go_sem,wrap64,if_pos,List.length_map]<;>rfl):G:=Eq.mpr h g
theorem ur{G:Prop}(h:G:=by simp+contextual (disch:=first|omega|simp only[go_sem,false_implies]) only[go_sem,wrap64,if_pos,and_self]):G:=h
theorem zy{P G G':Prop}(p:P)(g:G')(h:P->G=G':=by intro p;simp+contextual (disch:=first|omega|simp only[go_sem,false_implies]) only[go_sem,wrap64,if_pos,List.length_map,Nat.add_assoc,Nat.add_eq_left,Nat.add_left_cancel_iff,Nat.left_eq_add,p]<;>rfl):G:=Eq.mpr (h p) g
theorem s9{P G:Prop}(p:P)(h:P->G:=by intro p;simp+contextual (disch:=first|omega|simp only[go_sem,false_implies]) only[go_sem,wrap64,if_pos,p]):G:=h p
theorem dc{G G':Prop}(g:G')(h:G=G':=by simp+contextual only[go_sem]<;>rfl):G:=Eq.mpr h g
theorem yU{P G G':Prop}(p:P)(g:G')(h:P->G=G':=by intro p;simp+contextual only[go_sem,Nat.add_assoc,Nat.add_eq_left,Nat.add_left_cancel_iff,Nat.left_eq_add,p]<;>rfl):G:=Eq.mpr (h p) g
theorem Rr{G G':Prop}(g:G')(h:G=G':=by simp+contextual (disch:=first|omega|simp only[go_sem,false_implies]) only[go_sem,wrap64,if_pos,List.length_map,Nat.add_assoc,Nat.add_eq_left,Nat.add_left_cancel_iff,Nat.left_eq_add]<;>rfl):G:=Eq.mpr h g
theorem Gh{G G':Prop}(g:G')(h:G=G':=by simp+contextual (disch:=first|omega|simp only[go_sem,false_implies]) only[go_sem,wrap64,if_pos,qe]<;>rfl):G:=Eq.mpr h g
theorem fX{P G G':Prop}(p:P)(g:G')(h:P->G=G':=by intro p;simp+contextual only[go_sem,p]<;>rfl):G:=Eq.mpr (h p) g
theorem ach{P G G':Prop}(p:P)(g:G')(h:P->G=G':=by intro p;simp+contextual (disch:=first|omega|simp only[go_sem,false_implies]) only[go_sem,wrap64,if_pos,List.length_append,List.length_cons,List.length_drop,List.length_map,List.length_nil,List.length_take,List.take_length,p]<;>rfl):G:=Eq.mpr (h p) g
theorem ag9{G G':Prop}(g:G')(h:G=G':=by simp+contextual (disch:=first|omega|simp only[go_sem,false_implies]) only[go_sem,wrap64,if_pos,Nat.add_assoc,Nat.add_eq_left,Nat.add_left_cancel_iff,Nat.left_eq_add,qe]<;>rfl):G:=Eq.mpr h g
theorem aci{P G G':Prop}(p:P)(g:G')(h:P->G=G':=by intro p;simp+contextual (disch:=first|omega|simp only[go_sem,false_implies]) only[go_sem,wrap64,if_pos,Int.toNat_natCast,Nat.mul_one,Option.map_some,p]<;>rfl):G:=Eq.mpr (h p) g
theorem acj{G G':Prop}(g:G')(h:G=G':=by simp+contextual only[go_sem,List.replicate,Nat.add_assoc,Nat.add_eq_left,Nat.add_left_cancel_iff,Nat.left_eq_add,MU]<;>rfl):G:=Eq.mpr h g
theorem ack{G:Prop}(h:G:=by simp+contextual (disch:=first|omega|simp only[go_sem,false_implies]) only[go_sem,wrap64,if_pos,List.length_map]):G:=h
theorem acm{P G:Prop}(p:P)(h:P->G:=by intro p;simp+contextual (disch:=first|omega|simp only[go_sem,false_implies]) only[go_sem,wrap64,if_pos,bne_self_eq_false,p]):G:=h p
theorem acn{P G G':Prop}(p:P)(g:G')(h:P->G=G':=by intro p;simp+contextual (disch:=first|omega|simp only[go_sem,false_implies]) only[go_sem,wrap64,if_pos,Option.bind_some,p]<;>rfl):G:=Eq.mpr (h p) g
theorem T6{A Q:Prop}(q:Q)(h:Q->A:=by intro q;(repeat first|rfl|rw[af]|rw[ab _ _ _ _ (by omega)])<;>exact q):A:=h q
theorem bZ{P:Prop}(h:P:=by(repeat(first|exact Ku|refine Gi ?_|refine Ij rfl ?_|refine Ij (wh (wk (by omega))) ?_|refine Rs rfl (by simp[V.refs,V.aM]<;>first|omega|assumption) ?_))):P:=h
theorem eW{P:Prop}(h:P:=by repeat(first|exact hg.mono (by omega)|exact Good.nil|refine Good.au ?_ (by omega) rfl|refine Good.au ?_ (by omega) (zA _ _ _ (by omega))|refine Good.au ?_ (by omega) (by simp[aa.refs,V.aM,V.refs]<;>omega))):P:=h
theorem ae{P:Prop}(h:P:=by omega):P:=h
theorem lI{P:Prop}(h:P:=by(repeat(first|exact n6|refine dt ?_|refine iU rfl ?_|refine iU (wh (wk (by omega))) ?_|refine mZ 0 rfl rfl rfl ?_|refine m4 rfl (by simp[V.refs,V.aM]<;>first|omega|assumption) ?_|refine qu rfl (by simp[V.ids]<;>omega) ?_))):P:=h
theorem zy4{P:Prop}(h:P:=by simp[V.refs,V.aM]<;>first|omega|assumption):P:=h
theorem cH{P:Prop}(h:P:=by(repeat first|rfl|rw[af]|rw[ab _ _ _ _ (by omega)])):P:=h
theorem aK{P:Prop}(h:P:=by kernel_rfl):P:=h
theorem zy7{P:Prop}(h:P:=by simp[aa.refs,V.aM,V.refs]<;>omega):P:=h
theorem aJ{P:Prop}(h:P:=by simp):P:=h
theorem zy9{P:Prop}(h:P:=by simp only[au]<;>((repeat' split)<;>first|rfl|omega|(subst_vars;first|rfl|assumption|(symm;assumption)|omega|(simp_all;done)))):P:=h
theorem Rt{P:Prop}(h:P:=by(repeat(first|exact C8|refine pA ?_|refine wm rfl ?_|refine wm (wh (wk (by omega))) ?_|refine Xu rfl ?_|refine MV rfl (by first|assumption|simp) (by omega) ?_))):P:=h
theorem Ru{P:Prop}(h:P:=by simp[V.ids]<;>omega):P:=h
theorem Gj{P:Prop}(h:P:=by rintro⟨h1,h2⟩;first|(cases h1;done)|(cases h2;done)):P:=h
theorem bG{P:Prop}(h:P:=by decide):P:=h
theorem jK{P:Prop}(h:P:=by simpa[execOp,iS]using this):P:=h
theorem Xv{P:Prop}(h:P:=by exact df (y:=Xw p t j) (by unfold Xw;(repeat first|rfl|rw[af]|rw[ab _ _ _ _ (by omega)])) (by unfold Kv Xw;(repeat first|rfl|rw[af]|rw[ab _ _ _ _ (by omega)])) (bn rfl (fun r hr=>(C9 p t).refs j r hr))):P:=h
theorem yV{P:Prop}(h:P:=by cases rs with|nil=>exact ho.elim|cons x l=>cases l<;>exact ho.elim):P:=h
theorem n8{P:Prop}(h:P:=by simp[aa.refs,V.aM,V.refs]):P:=h
theorem MW{P:Prop}(h:P:=by simp+contextual (disch:=first|omega|simp only[go_sem,false_implies]) only[go_sem,wrap64,if_pos,and_self];simp[qe]):P:=h
theorem Da{P:Prop}(h:P:=by subst e;(repeat first|rfl|rw[af]|rw[ab _ _ _ _ (by omega)])):P:=h
theorem Rv{P:Prop}(h:P:=by exact(by simp only[au]<;>((repeat' split)<;>first|rfl|omega|(subst_vars;first|rfl|assumption|(symm;assumption)|omega|(simp_all;done))))):P:=h
theorem jr{P:Prop}(h:P:=by dsimp only;omega):P:=h
theorem MX{P:Prop}(h:P:=by exact⟨_,pU,ky,hq, .of_steps (.one h0 stepR_seq) (.pass (x:= .code y) rfl (fun _ _=> .inl (by simp)) dE)⟩):P:=h
theorem eL{P:Prop}(h:P:=by rw[ho];rfl):P:=h
theorem n9{P:Prop}(h:P:=by rw[hr]at h3;exact h3.elim):P:=h
theorem aco{P:Prop}(h:P:=by exact⟨false, .inl rfl,rfl,kz (fun _ _ h=>by cases h.1) (by rintro⟨h1,h2⟩;first|(cases h1;done)|(cases h2;done)),eq _ (fun d=>by rw[acp w d ht])⟩):P:=h
theorem Kw{P:Prop}(h:P:=by(repeat(first|exact Kx|refine Gk ?_|refine Rw rfl ?_))):P:=h
theorem Xx{P:Prop}(h:P:=by rw[ta,List.any_append,List.any_cons,hb,List.any_nil,Bool.or_false,Bool.or_false];(repeat first|rfl|rw[af]|rw[ab _ _ _ _ (by omega)])):P:=h
theorem acq{P:Prop}(h:P:=by unfold Kv Xw;(repeat first|rfl|rw[af]|rw[ab _ _ _ _ (by omega)])):P:=h
theorem MY{P:Prop}(h:P:=by unfold Xy;(repeat first|rfl|rw[af]|rw[ab _ _ _ _ (by omega)])):P:=h
theorem iA{P:Prop}(h:P:=by simp;omega):P:=h
theorem acr{P:Prop}(h:P:=by exact⟨_,_,_,_,_,_,_,hK,by simp[Instr.range,run_underlying ht,te], .inl rfl,n1,n2,⟨rfl,by simp,fun _=>⟨w.heap.size,by simp,rfl⟩⟩,fun j hj=> .inr (by simpa using hj)⟩):P:=h
theorem acs{P:Prop}(h:P:=by exact⟨_,_,_,_,_,_,_,hK,by simp[Instr.range,run_underlying ht], .inl rfl,n1,n2,⟨rfl,by simp,fun _=>⟨w.heap.size,by simp,rfl⟩⟩,fun j hj=> .inr (by simpa using hj)⟩):P:=h
theorem od{P:Prop}(h:P:=by simpa using hj):P:=h
theorem Bb{P:Prop}(h:P:=by simp[Op.equalIn,run_underlying ht]):P:=h
theorem ra{P:Prop}(h:P:=by simp[V.aM,V.refs]):P:=h
theorem Rx{P:Prop}(h:P:=by unfold QY;(repeat first|rfl|rw[af]|rw[ab _ _ _ _ (by omega)])):P:=h
theorem Xz{P:Prop}(h:P:=by unfold T7;(repeat first|rfl|rw[af]|rw[ab _ _ _ _ (by omega)])):P:=h
theorem Ry{P:Prop}(h:P:=by unfold QZ;(repeat first|rfl|rw[af]|rw[ab _ _ _ _ (by omega)])):P:=h
theorem aha{P:Prop}(h:P:=by exact⟨false, .inl rfl,rfl,kz (fun _ _ h=>by cases h.1) (by rintro⟨h1,h2⟩;first|(cases h1;done)|(cases h2;done)),eq _ (fun d=>by rw[acu w d ht])⟩):P:=h
theorem ahb{P:Prop}(h:P:=by exact⟨false, .inl rfl,rfl,kz (fun _ _ h=>by cases h.1) (by rintro⟨h1,h2⟩;first|(cases h1;done)|(cases h2;done)),eq _ (fun d=>by rw[acv w d ht])⟩):P:=h
theorem acw{P:Prop}(h:P:=by exact⟨false, .inl rfl,rfl,kz (fun _ _ h=>by cases h.1) (by rintro⟨h1,h2⟩;first|(cases h1;done)|(cases h2;done)),eq _ (fun d=>by rw[acx w d ht])⟩):P:=h
theorem acy{P:Prop}(h:P:=by exact⟨a,ev,h1,h2,D.aQ (w:=w) (w':=w) (fun b _ hn=>⟨rfl,hB b hn⟩) cs ev h3,h5,h4.mono (w:=w) (w':=w) (fun b _ hn=>⟨rfl,hB b hn⟩)⟩):P:=h
theorem acz{P:Prop}(h:P:=by exact .inl ⟨_,_,_, .inr ⟨c,f,g,first,cap,hc,fI,hf, .inr (.inl ⟨rs,hH,rfl,fun id aq=>by simpa using List.all_eq_true.1 nP id aq⟩)⟩,h⟩):P:=h
theorem acA{P:Prop}(h:P:=by exact .inl ⟨_,_,_, .inr ⟨c,f,g,first,cap,hc,fI,hf, .inr (.inr (.inr ⟨hH,fun id aq=>by simpa using List.all_eq_true.1 nP id aq⟩))⟩,h⟩):P:=h
theorem acB{P:Prop}(h:P:=by exact da.same hH _ hK (by simp only[Sem.run_bind,hr,Result.andThen_ok];rfl) ⟨_,rfl,zv,[.bool false],rfl,r2, .bool false,[],rfl,rfl,rfl⟩):P:=h
theorem acC{P:Prop}(h:P:=by exact .inr ⟨_,_,_,⟨c,f,g,first,cap,hc,fI,hf, .inr ⟨x,Δ,hH,rfl,rfl,fun id aq=>by simpa using List.all_eq_true.1 nP id aq⟩⟩,h⟩):P:=h
theorem MZ{P:Prop}(h:P:=by rw[hold id (by omega) (by omega),Gl id (by omega) aq]):P:=h
theorem M0{P:Prop}(h:P:=by rw[m2.eq id (by omega)];unfold ext;rw[if_pos aq]):P:=h
theorem qv{P:Prop}(h:P:=by simp[pV,aq]):P:=h
theorem XA{P:Prop}(h:P:=by rw[p3 id (by omega) (by omega),c8 id (by omega) (by omega),Gl id (by omega) aq]):P:=h
theorem XB{P:Prop}(h:P:=by unfold Ky;(repeat first|rfl|rw[af]|rw[ab _ _ _ _ (by omega)])):P:=h
theorem XC{P:Prop}(h:P:=by unfold Kv;(repeat first|rfl|rw[af]|rw[ab _ _ _ _ (by omega)])):P:=h
theorem ajq{P:Prop}(h:P:=by unfold Xw;(repeat first|rfl|rw[af]|rw[ab _ _ _ _ (by omega)])):P:=h
theorem acD{P:Prop}(h:P:=by rw[h];simp+contextual (disch:=first|omega|simp only[go_sem,false_implies]) only[go_sem,wrap64,if_pos,and_self]):P:=h
theorem acE{P:Prop}(h:P:=by exact(yW.au (i:=nx'+3) (m:=nx'+7) (by omega) (by omega) (by omega) rfl).au (by omega) (by omega) (by omega) rfl):P:=h
theorem XE{P:Prop}(h:P:=by subst e2;(repeat first|rfl|rw[af]|rw[ab _ _ _ _ (by omega)])):P:=h
theorem XF{P:Prop}(h:P:=by subst ec;(repeat first|rfl|rw[af]|rw[ab _ _ _ _ (by omega)])):P:=h
theorem acF{P:Prop}(h:P:=by unfold rb wo;rw[if_neg h4,if_pos h6];(repeat first|rfl|rw[af]|rw[ab _ _ _ _ (by omega)]);simp):P:=h
theorem ahc{P:Prop}(h:P:=by exact⟨b,r,k1,k2,k3,k4,k5,k6,k7,k8,k9,fun i=>fK _ _ (fun r hr=>hrefs r (V.zB _ _ r hr)) (k10 i)⟩):P:=h
theorem acG{P:Prop}(h:P:=by exact wq (y:=B j) (ho j hj e1) (Ik B e1 (by omega) ds ty sz _) (bn rfl (fun q hq=>hg.refs j q hq))):P:=h
theorem Rz{P:Prop}(h:P:=by simpa[execOp,iS,resolve,invoke,builtin]using this):P:=h
theorem acH{P:Prop}(h:P:=by exact hK _ _ (by omega) (m2.mono (by omega)) fun id i1 i2=>by rw[m3 id i1 (by omega),ab _ _ _ _ (by omega)]):P:=h
theorem XG{P:Prop}(h:P:=by rw[jL];exact List.mem_cons_of_mem _ (List.mem_flatMap.2 ⟨x,hx,hy⟩)):P:=h
theorem acI{P:Prop}(h:P:=by exact⟨fo RA.1,fo RA.2,fun id aq=>⟨dj wu.1.1 id aq,dj wu.1.2 id aq⟩,fun id aq=>dj wu.2 id aq⟩):P:=h
theorem acJ{P:Prop}(h:P:=by rw[show(i*4+j)/4=i by omega,show(i*4+j)%4=j by omega]):P:=h
theorem acK{P:Prop}(h:P:=by unfold oe;rw[if_pos h5];(repeat first|rfl|rw[af]|rw[ab _ _ _ _ (by omega)]);simp):P:=h
theorem acL{P:Prop}(h:P:=by simp only[Sem.run_bind,hr,Result.andThen_ok];rfl):P:=h
theorem M3{P:Prop}(h:P:=by simp[aa.refs,V.aM,V.refs];omega):P:=h
theorem acM{P:Prop}(h:P:=by(repeat first|rfl|rw[af]|rw[ab _ _ _ _ (by omega)]);exact Gm _ _ _ _ (by omega)):P:=h
theorem XH{P:Prop}(h:P:=by rw[ab _ _ _ _ tf,Kz _ _ (by omega)];exact h0 id (by omega)):P:=h
theorem acN{P:Prop}(h:P:=by exact fin _ [] (fun b hb=>by cases hb) dU (World.ownsRow_nil w' 0 ty sz) ⟨[],rfl,by simp,rfl⟩ rfl):P:=h
theorem ahd{P:Prop}(h:P:=by exact hK _ _ (by omega) (m2.mono (by omega)) fun id i1 i2=>(m3 id i1 (by omega)).trans (c8 id i1 i2)):P:=h
theorem ahe{P:Prop}(h:P:=by exact⟨w.heap.size,es,clock,rfl,heap_alloc_new w _,e3,aN.mono (ht.blocks (M:=M)) l _ e4⟩):P:=h
theorem acO{P:Prop}(h:P:=by exact hK _ _ (by omega) (yW.mono (by omega)) c8):P:=h
theorem RB{P:Prop}(h:P:=by unfold iT;rw[List.map_append,List.sum_append]):P:=h
theorem XI{P:Prop}(h:P:=by exact Db hL k3 (key _ _ _ (by rw[hj];rfl) (XJ _ _ hj))):P:=h
theorem oh{P:Prop}(h:P:=by simp[hx]):P:=h
theorem acP{P:Prop}(h:P:=by simp only[Op.operands,Call.operands];exact Array.mem_append.2 (.inr (Array.mem_toList_iff.1 hx))):P:=h
theorem acQ{P:Prop}(h:P:=by rw[hn,hI,Gn hx];rfl):P:=h
theorem XK{P:Prop}(h:P:=by exact Gp hL k3 (key _ _ _ (by rw[hj];rfl) (XJ _ _ hj))):P:=h
theorem ahf{P:Prop}(h:P:=by exact M4 hu c8 (fun id h=> .inl (by rw[lW]at h;exact h)) g1.symm g3 fj (mi rfl)):P:=h
theorem XL{P:Prop}(h:P:=by exact(hg.mono (by omega)).au (by omega) (zA _ _ _ (by omega))):P:=h
theorem M5{P:Prop}(h:P:=by injection h with h;subst h;exact hK):P:=h
theorem acR{P:Prop}(h:P:=by simp only[h1,dx,Option.map_some];exact hK):P:=h
theorem acS{P:Prop}(h:P:=by exact⟨k1,Dc.tr.trans k2,Dc.size,Dc.defers.mono k2,fun j=>V.aS k2 _ _ (Dc.env j)⟩):P:=h
theorem acT{P:Prop}(h:P:=by rw[ab _ _ _ _ e,ab _ _ _ _ e,ab _ _ _ _ (by omega),hI.eq j hj,ab _ _ _ _ e]):P:=h
theorem ajr{P:Prop}(h:P:=by first|assumption|simp):P:=h
theorem Gq{P:Prop}(h:P:=by simp[aa.refs,j6]):P:=h
theorem XM{P:Prop}(h:P:=by exact KA hL k3 (key _ _ _ (by rw[hj];rfl) (Q0 _ hj))):P:=h
theorem RC{P:Prop}(h:P:=by exact V.aS (ht.trans k2) _ _ (hs.env i)):P:=h
theorem Dd{P:Prop}(h:P:=by simp[V.refs]):P:=h
theorem ahg{P:Prop}(h:P:=by exact⟨k1,hs.tr.trans k2,hs.size,hs.defers.mono k2,fun j=>V.aS k2 _ _ (hs.env j)⟩):P:=h
theorem acU{P:Prop}(h:P:=by rw[m3 id h2 (by omega),ab _ _ _ _ (by omega),ab _ _ _ _ (by omega),c8 id h2 h3]):P:=h
theorem acV{P:Prop}(h:P:=by exact hQ _ _ _ _ val k5 (fu hs k1 k2 (o':=o') (nx':=nx') rfl fun id hu=>hu) k4):P:=h
theorem XN{P:Prop}(h:P:=by exact⟨_,pU,ky,hq, .of_steps (.one h0 stepR_block) dE⟩):P:=h
theorem XO{P:Prop}(h:P:=by exact⟨_,pU,ky,hq, .of_steps (.one h0 lJ) dE⟩):P:=h
theorem M6{P:Prop}(h:P:=by unfold fU;rw[RD trivial]):P:=h
theorem acW{P:Prop}(h:P:=by exact .inr (.inr (.inr (qf.mono (fun v o n h=>hK _ h) (fun v o n h=>hX _ _ h) h)))):P:=h
theorem XP{P:Prop}(h:P:=by unfold dy;rw[List.range_succ,List.foldl_append];rfl):P:=h
theorem M7{P:Prop}(h:P:=by rw[ab _ _ _ _ (by omega)];exact k4 id (by omega) g2):P:=h
theorem T8{P:Prop}(h:P:=by rw[m2.eq id (by omega)];unfold ext;rw[if_neg (by omega),ab _ _ _ _ (by omega)]):P:=h
theorem T9{P:Prop}(h:P:=by unfold QZ Ky;(repeat first|rfl|rw[af]|rw[ab _ _ _ _ (by omega)])):P:=h
theorem Ua{P:Prop}(h:P:=by(repeat first|rfl|rw[af]|rw[ab _ _ _ _ (by omega)]);exact c8 j hj):P:=h
theorem Ub{P:Prop}(h:P:=by exact⟨none,0,0,rfl,rfl,Nat.le_refl _,fun _=>rfl,0,fun a ha=>by cases ha⟩):P:=h
theorem Uc{P:Prop}(h:P:=by exact⟨b,es',clock,k1,k2,k4,aN.mono (fun b _ hn=>⟨rfl,hB b hn⟩) _ _ k3⟩):P:=h
theorem Il{P:Prop}(h:P:=by rw[show(hp o nx).o id=_ from ho];rfl):P:=h
theorem Ud{P:Prop}(h:P:=by exact fun k hk s' h1 h2=>De _ (fun x hx=>bp x (dH k hk x hx)) s' h1 h2):P:=h
theorem M8{P:Prop}(h:P:=by injection h with h;subst h;exact⟨by assumption,hK⟩):P:=h
theorem Ue{P:Prop}(h:P:=by exact⟨k1,xs,k2,evs,k3,k4,D.aQ (fun b _ hn=>⟨rfl,hB b hn⟩) _ _ k5⟩):P:=h
theorem Uf{P:Prop}(h:P:=by subst e23;(repeat first|rfl|rw[af]|rw[ab _ _ _ _ (by omega)])):P:=h
theorem Ug{P:Prop}(h:P:=by rw[show((hp o nx).put (bY o x.ids)).o j=_ from f4 j hm];exact nQ.rfl' rfl):P:=h
theorem Uh{P:Prop}(h:P:=by subst ea;(repeat first|rfl|rw[af]|rw[ab _ _ _ _ (by omega)])):P:=h
theorem Ui{P:Prop}(h:P:=by subst en;(repeat first|rfl|rw[af]|rw[ab _ _ _ _ (by omega)])):P:=h
theorem Uj{P:Prop}(h:P:=by subst eo;(repeat first|rfl|rw[af]|rw[ab _ _ _ _ (by omega)])):P:=h
theorem M9{P:Prop}(h:P:=by rw[List.length_append,List.length_singleton];omega):P:=h
theorem Uk{P:Prop}(h:P:=by(repeat first|rfl|rw[af]|rw[ab _ _ _ _ (by omega)]);exact o1):P:=h
theorem Ul{P:Prop}(h:P:=by(repeat first|rfl|rw[af]|rw[ab _ _ _ _ (by omega)]);exact o5):P:=h
theorem Um{P:Prop}(h:P:=by(repeat first|rfl|rw[af]|rw[ab _ _ _ _ (by omega)]);exact o2):P:=h
theorem Un{P:Prop}(h:P:=by exact hK _ _ (by omega) (m2.mono (by omega)) fun id i1 i2=>m3 id i1 (by omega)):P:=h
theorem Uo{P:Prop}(h:P:=by exact hH.fresh j fun hu=>h (.inl hu)):P:=h
theorem acX{P:Prop}(h:P:=by exact⟨r, .inl rfl,by obtain⟨_,rfl,_⟩:=hx;rfl,fun op=>g2 op p q,g1⟩):P:=h
theorem Na{P:Prop}(h:P:=by simp at h;obtain⟨rfl,rfl⟩:=h;exact⟨rfl,rfl⟩):P:=h
theorem Up{P:Prop}(h:P:=by exact hN _ _ _ (kA hs k1 k2 (oi ho) dh rfl fun id hu=> .inl hu)):P:=h
theorem Uq{P:Prop}(h:P:=by rw[show((hp o nx).put (bY o x.ids)).o j=_ from f3 j hm];exact nQ.fz _):P:=h
theorem Nb{P:Prop}(h:P:=by rw[Kz _ _ (by omega)];exact k2.eq id (by omega)):P:=h
theorem Ur{P:Prop}(h:P:=by exact⟨_,_,_,_,_,_,_,hK,by simp[hr], .inl rfl,h1,h2,h3,by simp⟩):P:=h
theorem acY{P:Prop}(h:P:=by simp only[a0,Array.size_append,Array.size_replicate];simp at hlen;omega):P:=h
theorem Us{P:Prop}(h:P:=by rw[if_pos h];simp only[List.filterMap_cons,if_pos h,List.filterMap_nil]):P:=h
theorem Ut{P:Prop}(h:P:=by rw[if_neg h];simp only[List.filterMap_cons,if_neg h,List.filterMap_nil]):P:=h
theorem acZ{P:Prop}(h:P:=by exact forall_congr' fun k=>forall_congr' fun hk=>by rw[ih k hk (d+1)]):P:=h
theorem Uu{P:Prop}(h:P:=by exact(hI.au (by omega) (by omega) (by omega) hr).ext (by omega) (by omega)):P:=h
theorem mj{P:Prop}(h:P:=by simp[hy]):P:=h
theorem Uv{P:Prop}(h:P:=by cases xv<;>first|(simp[Uw]at hwd;done)|(cases yv<;>simp[he])):P:=h
theorem Ux{P:Prop}(h:P:=by exact⟨x,b.trans y,z⟩):P:=h
theorem zC{P:Prop}(h:P:=by simpa[V.refs]using hr):P:=h
theorem Uy{P:Prop}(h:P:=by exact(Ik B (by omega) (by omega) ds ty sz _).trans (eM j (by omega))):P:=h
theorem Nc{P:Prop}(h:P:=by have:=iV hx;have:=Tm.jU t;omega):P:=h
theorem Nd{P:Prop}(h:P:=by rw[nP];simp only[pV,fI,yX];exact aq):P:=h
theorem Uz{P:Prop}(h:P:=by injection hu with hu;injection hv with hv;subst hu;subst hv;exact h3):P:=h
theorem UA{P:Prop}(h:P:=by rw[qw];exact List.mem_cons_of_mem _ (List.mem_flatMap.2 ⟨k,hk,hx⟩)):P:=h
theorem Nf{P:Prop}(h:P:=by show fs.length - (k+1)<fs.length - k;omega):P:=h
theorem UB{P:Prop}(h:P:=by exact hN _ _ _ _ k3.2 (pB hs k1 k2 k3.1 dh rfl fun id hu=>hu)):P:=h
theorem Ng{P:Prop}(h:P:=by simp at hl;obtain⟨rfl,rfl⟩:=hl;exact hK):P:=h
theorem Nh{P:Prop}(h:P:=by simp at hj hy;subst hj;subst hy;exact bp):P:=h
theorem Im{P:Prop}(h:P:=by rw[if_neg e,if_neg (by omega)]):P:=h
theorem aji{P:Prop}(h:P:=by rw[hj];rfl):P:=h
theorem Ni{P:Prop}(h:P:=by simp only[V.den,D.den]at Io;rw[Io]):P:=h
theorem ac0{P:Prop}(h:P:=by exact h3 e (Array.mem_toList_iff.1 he) hb):P:=h
theorem Ip{P:Prop}(h:P:=by rw[hg];simp[eD,hv,e]):P:=h
theorem UC{P:Prop}(h:P:=by exact da.same hH _ h (by simp[execOp,iS,hr]) ⟨_,rfl,hv⟩):P:=h
theorem Nj{P:Prop}(h:P:=by rw[vH];exact du all _ bu):P:=h
theorem Nk{P:Prop}(h:P:=by subst tf;rw[af];exact hh.symm):P:=h
theorem uu{P:Prop}(h:P:=by rw[vf];rfl):P:=h
theorem UD{P:Prop}(h:P:=by exact bU t u hu (hQ _ s φ w (.iface t u) h hs ⟨u,rfl,hd⟩)):P:=h
theorem ac1{P:Prop}(h:P:=by exact⟨b,by rw[dz,h1];exact k1,k2⟩):P:=h
theorem Iq{P:Prop}(h:P:=by simp[binOp,Df hr]):P:=h
theorem Nl{P:Prop}(h:P:=by exact⟨.ret,s',aH,hq,j7,trivial⟩):P:=h
theorem UE{P:Prop}(h:P:=by exact⟨e',XQ,fr',hR,ComesIn.of_steps UF hs,MH,hl⟩):P:=h
theorem uv{P:Prop}(h:P:=by rw[hx];rfl):P:=h
theorem zD{P:Prop}(h:P:=by rw[hx];exact hk):P:=h
theorem Nn{P:Prop}(h:P:=by rw[yM i hi];exact congrArg some hb):P:=h
theorem UG{P:Prop}(h:P:=by exact⟨b,k1,k2.mono (fun b _ hn=>⟨rfl,hB b hn⟩) rfl⟩):P:=h
theorem Np{P:Prop}(h:P:=by rw[List.drop_eq_getElem_cons g1,g2]):P:=h
theorem wv{P:Prop}(h:P:=by simpa using h2):P:=h
theorem Nq{P:Prop}(h:P:=by exact g4 u (List.mem_of_mem_take hu)):P:=h
theorem Nr{P:Prop}(h:P:=by unfold fU;exact Eq.trans rfl rfl):P:=h
theorem re{P:Prop}(h:P:=by assumption):P:=h
theorem Ns{P:Prop}(h:P:=by subst tf;rw[af,Q0 _ hJ0]):P:=h
theorem Ir{P:Prop}(h:P:=by rw[XR]at hl;simp at hl):P:=h
theorem Is{P:Prop}(h:P:=by subst hi;simp[Ne.symm h]):P:=h
theorem Nt{P:Prop}(h:P:=by exact⟨.bU _,s',aH,hq,j7,hm⟩):P:=h
theorem Nu{P:Prop}(h:P:=by unfold KC;exact Eq.trans rfl rfl):P:=h
theorem It{P:Prop}(h:P:=by exact fun _=>Dg _ _ _):P:=h
theorem Nv{P:Prop}(h:P:=by exact m5 o2 s2 (.inl i1) i2 i3):P:=h
theorem Nw{P:Prop}(h:P:=by unfold eqGuard;cases op<;>simp):P:=h
theorem Iu{P:Prop}(h:P:=by rw[h]at h1;simp at h1):P:=h
theorem Nx{P:Prop}(h:P:=by simpa only[tg]using this):P:=h
theorem Ny{P:Prop}(h:P:=by simp[hj]at hr;exact⟨hr,rfl⟩):P:=h
theorem wx{P:Prop}(h:P:=by rw[h1];rfl):P:=h
theorem Nz{P:Prop}(h:P:=by rw[Kz _ _ Gs, <- h0 _ Gs,ht]):P:=h
theorem Iv{P:Prop}(h:P:=by exact⟨k,by omega,k2⟩):P:=h
theorem NA{P:Prop}(h:P:=by simp at hj;subst hj;exact dg):P:=h
theorem zE{P:Prop}(h:P:=by simpa using hx):P:=h
theorem NB{P:Prop}(h:P:=by rw[ht];exact aa.noConfusion):P:=h
theorem Dh{P:Prop}(h:P:=by rw[Iw];rfl):P:=h
theorem Di{P:Prop}(h:P:=by cases b<;>rfl):P:=h
theorem Dj{P:Prop}(h:P:=by rw[qw];simp):P:=h
theorem ac2{P:Prop}(h:P:=by exact⟨b,h4.trans h5,h6⟩):P:=h
theorem Ix{P:Prop}(h:P:=by rw[<- UH];omega):P:=h
theorem UI{P:Prop}(h:P:=by refine aB (aD rfl) ?_;refine ba ?_;rw[e]):P:=h
theorem zw2{P:Prop}(h:P:=by rw[hr,if_pos rfl]at C0;refine ba ?_;refine ai (k+1,(aA step s' (lK x (q++[(k:Int)]) false)).1,o5,n5+1+1) ⟨h1,p2.mono (show n5<=n5+1+1 from ae),(show nx<n5+1+1 from ae),by dsimp only;rw[p3 nx (by omega) (Nat.le_refl _),bD],fun id i1 i2=>(p3 id i1 ae).trans (c8 id i1 i2),by dsimp only;rw[m6];exact C0,by dsimp only;rw[m6];exact th step ok bp _ _ s' kB hr⟩ jr (aZ.aV _ (show nx<=n5+1+1 from ae) jr (p2.mono (show n5<=n5+1+1 from ae)).bE (fun _ _=>rfl) ?_);exact bZ):P:=h
theorem zw5{P:Prop}(h:P:=by refine cz (ak i1 (ak i2 (ak a0 (ak a1 (ak a2 (ak h5 hf)))))) ?_;refine aB (aD rfl) ?_;refine ba ?_;refine ai (k+1) ⟨h5,hs⟩ ae (aZ.aV _ (show 0<=0+1 from ae) (show 1<=47 from ae) og (fun _ _=>rfl) ?_);exact bZ):P:=h
theorem zw6{P:Prop}(h:P:=by rw[List.drop_eq_getElem_cons h1];rw[List.getElem?_eq_getElem h1]at hx;injection hx with hx;rw[hx]):P:=h
theorem zw7{P:Prop}(h:P:=by refine ai (j+1) h2 ae (aZ.iu (fun j=>j=1) (.osl 1 1) 1 _ ae (MI (df (y:= .row r.row) Xz (raH_0 _ _) (bn rfl n8))) (raH_1 _ _) (.inr ⟨1,1,rfl,rfl,by(repeat first|rfl|rw[af]|rw[ab _ _ _ _ (by omega)]);rw[fj];simp⟩) (fun j hj=>by unfold T7;(repeat first|rfl|rw[af]|rw[ab _ _ _ _ (by omega)])) (fun j h h2=>ae) ?_);exact lI):P:=h
theorem zw9{P:Prop}(h:P:=by refine ai (k+1,(step s' x).1,o2,n2+1+1) ⟨h1,m2.mono (show n2<=n2+1+1 from ae),(show nx<=n2+1+1 from ae),fun id i1 i2=>(m3 id i1 ae).trans (c8 id i1 i2),hf,bp x dR s' kB hb,by rw[Dk];rfl⟩ jr (aZ.aV _ (show nx<=n2+1+1 from ae) (Nat.le_refl _) (m2.mono (show n2<=n2+1+1 from ae)).bE (fun _ _=>rfl) ?_);exact bZ):P:=h
theorem ac3{P:Prop}(h:P:=by simp+contextual (disch:=first|omega|simp only[go_sem,false_implies]) only[go_sem,wrap64,if_pos,q,List.length_map,if_pos C1];refine ai (1+1) ae ae (vI a b 2 _ (.inr ⟨0,1,trivial,rfl,by(repeat first|rfl|rw[af]|rw[ab _ _ _ _ (by omega)]);rw[show(Bc a b 2)=a++b from rfl,List.map_append];rfl⟩) ?_);exact lI):P:=h
theorem XS{P:Prop}(h:P:=by refine aB (aD rfl) ?_;refine ba ?_;refine ai (m+1) h3 ae (aZ.aV _ (show 0<=1 from ae) ae eW (fun _ _=>rfl) ?_);rw[e1,e2];exact bZ):P:=h
theorem XT{P:Prop}(h:P:=by refine aB (aD rfl) ?_;refine cz q2 ?_;refine de _ _ _ .busy none ae (fin _ _ (fun id aq=>zy9) eW ae) cH (fun id h3 h4=>cH)):P:=h
theorem RE{P:Prop}(h:P:=by simp[Ef,Array.getD_eq_getD_getElem?,Array.getElem?_replicate]at jV;split at jV<;>simp at jV):P:=h
theorem ac4{P:Prop}(h:P:=by refine ai (i+1,sh,L0,c0,c1) ⟨by dsimp only;omega,by rw[<- hM2];exact C1,fun h=>by rw[<- hM2];exact Iy h,Dl,T,hT⟩ jr ?_;dsimp only;rw[<- hM2];refine aZ.aV _ (show nx<=gN nx sh from ae) (show gN nx sh<=gN nx sh+12 from ae) og (fun _ _=>rfl) ?_;exact bZ):P:=h
theorem XU{P:Prop}(h:P:=by obtain⟨h0,h1,h2⟩:=h;refine⟨h0,hr.us id h1,fun bD=> ?_⟩;obtain⟨h3,h4⟩:=hr.row id h1 bD;obtain⟨b,h5,h6⟩:=h2 h3;exact ac2):P:=h
theorem XW{P:Prop}(h:P:=by obtain⟨a,b,c⟩:=hr id Dd;obtain⟨h0,h1,h2⟩:=h;refine⟨h0,c,fun bD=> ?_⟩;rw[a]at bD;obtain⟨x,y,z⟩:=h2 bD;exact Ux):P:=h
theorem XY{P:Prop}(h:P:=by obtain⟨a,b,c⟩:=hr id Dd;obtain⟨h0,h1,h2⟩:=h;refine⟨h0,c,fun bD=> ?_⟩;obtain⟨x,y,z⟩:=h2 (a.1 bD);exact Ux):P:=h
theorem XZ{P:Prop}(h:P:=by obtain⟨h0,x,hx⟩:=Bd hI;refine fX (ak hI (ak hx h0)) ?_;refine aB (aD rfl) ?_;refine dc ?_;exact acQ):P:=h
theorem RF{P:Prop}(h:P:=by dsimp only;refine aZ.aV _ (Nat.le_refl _) ae hI.bE (fun _ _=>rfl) ?_;exact bZ):P:=h
theorem ac5{P:Prop}(h:P:=by refine ba ?_;rw[e]):P:=h
theorem ac6{P:Prop}(h:P:=by simp+contextual (disch:=first|omega|simp only[go_sem,false_implies]) only[go_sem,wrap64,if_pos,q,List.length_map,if_pos Dl];refine ai (0+1) ae ae (vI a b 1 _ (.inr ⟨0,1,trivial,rfl,cH⟩) ?_);exact lI):P:=h
theorem X0{P:Prop}(h:P:=by intro j hj;simp only[bL,h2,List.mem_map,List.mem_filter]at hj;obtain⟨e,⟨he,hb⟩,rfl⟩:=hj;exact ac0):P:=h
theorem X1{P:Prop}(h:P:=by obtain⟨g1,_,g3⟩:=hd;refine⟨g1,dg _ h3,fun hr=> ?_⟩;obtain⟨b,k1,k2⟩:=g3 (bD _ _ h1 hr);exact ac1):P:=h
theorem ac7{P:Prop}(h:P:=by obtain⟨h0,h1,h2⟩:=h;refine⟨h0,hr.us id h1,fun e' mc=> ?_⟩;obtain⟨e,g1,g2,g3⟩:=hr.ep id e' h1 mc;obtain⟨h3,h4⟩:=h2 e g1;refine⟨Nat.le_trans h3 g2,fun heq=> ?_⟩;rw[g3 (by omega)];exact h4 ae):P:=h
theorem ac8{P:Prop}(h:P:=by refine aB bG ?_;refine cz Q1 ?_;refine br (NC _ v ae) ?_;refine ba ?_;refine ai (j+1) h3 ae (aZ.d1 _ (bt rfl) ae rfl ?_);rw[tj Q1,if_pos hc];exact bZ):P:=h
theorem X2{P:Prop}(h:P:=by obtain⟨z,h1,h⟩:=j8 h;simp only[Prod.mk.injEq]at h;obtain⟨rfl,rfl,rfl⟩:=h;exact acR):P:=h
theorem ac9{P:Prop}(h:P:=by refine dY (ak hy (ak hc (ak @apI_0 (ak @apI_1 @apI_2)))) ?_;refine ai (m+1) h3 ae (aZ.aV _ (show 0<=3 from ae) ae (wy _ _ _) (fun j hj=>rfl) ?_);rw[ta];exact bZ):P:=h
theorem ada{P:Prop}(h:P:=by refine aB (aD rfl) ?_;exact ur):P:=h
theorem ND{P:Prop}(h:P:=by simp only[St.S,kj]at this;exact this):P:=h
theorem X4{P:Prop}(h:P:=by simp only[Array.getD_eq_getD_getElem?];rw[Array.getElem?_setIfInBounds_ne (Ne.symm hi)]):P:=h
theorem X5{P:Prop}(h:P:=by refine fX hI ?_;refine aB (aD rfl) ?_;refine dc ?_;rw[hn,hI];rfl):P:=h
theorem X6{P:Prop}(h:P:=by obtain⟨h0,x,hx⟩:=Bd hI;refine fX (ak h (ak hI (ak hx h0))) ?_;exact acQ):P:=h
theorem X7{P:Prop}(h:P:=by rw[hL.refs,List.all_eq_true];intro r hr;have:=hrefs r hr;exact decide_eq_true ae):P:=h
theorem X8{P:Prop}(h:P:=by refine zy (ak hx f2) ?_;refine aB (aD rfl) ?_;refine ba ?_;rw[e]):P:=h
theorem RG{P:Prop}(h:P:=by rw[List.length_append,List.length_singleton];exact Rt):P:=h
theorem X9{P:Prop}(h:P:=by refine dY hx ?_;refine ai (k+1) h2 ae (aZ.d0 _ ?_);rw[ta];exact bZ):P:=h
theorem adb{P:Prop}(h:P:=by refine cz (ak hx (ak hy (ak hq hxl))) ?_;refine ai (m+1) h3 ae (aZ.aV _ (show 0<=1 from ae) ae eW (fun _ _=>rfl) ?_);rw[e1,e2];exact bZ):P:=h
theorem ade{P:Prop}(h:P:=by refine aZ.iu (fun _=>False) .aU 1 _ ae (MI (bn rfl n8)) (af _ _ _) (.inl ⟨rfl,rfl,bG⟩) (fun j hj=>cH) (fun _ h=>h.elim) ?_;exact lI):P:=h
theorem adf{P:Prop}(h:P:=by rw[hs,Bool.true_and]at vg;refine cz hs ?_;refine ai (k+1) ⟨h2,vg⟩ ae (aZ.aV _ (show 0<=1 from ae) ae eW (fun j hj=>cH) ?_);exact bZ):P:=h
theorem adg{P:Prop}(h:P:=by simp only[Option.map_eq_some_iff]at h;obtain⟨d,h1,rfl⟩:=h;obtain⟨arr,rfl,g1,g2⟩:=hx;obtain⟨val,r1,r2⟩:=iW h1 g1 g2;exact fin (r1 w) r2):P:=h
theorem Ya{P:Prop}(h:P:=by refine dc ?_;refine aF (iB _ _ _) rfl ?_;refine dc ?_;rw[hn]):P:=h
theorem adh{P:Prop}(h:P:=by rw[show(⟨put o' [(fr, .arr 0 ty sz es)],fun id=>us id\/id=fr⟩:Hp).o fr=put o' [(fr, .arr 0 ty sz es)] fr from rfl,this]at he;injection he):P:=h
theorem adi{P:Prop}(h:P:=by simp only[hx]at h ho;injection h with h;subst h;simp only[aa.fz]at ho;simp only[aO,ho]at bp;rw[hd (by rw[ho];rfl)];exact bp.den):P:=h
theorem Yb{P:Prop}(h:P:=by refine m4 cH (fun r hr=>by simp[V.refs]at hr;omega) ?_;exact lI):P:=h
theorem Yc{P:Prop}(h:P:=by rw[m2.eq id (by omega)];unfold ext;rw[if_neg (by omega)];exact cH):P:=h
theorem adj{P:Prop}(h:P:=by rw[List.getD_eq_getElem?_getD,List.getElem?_map,List.getElem?_range (by omega)];simp only[Option.map_some,Option.getD_some];exact acJ):P:=h
theorem adk{P:Prop}(h:P:=by obtain⟨h0,y,h1,h2,h3,h4⟩:=wz h;simp only[Prod.mk.injEq]at h4;obtain⟨rfl,rfl,rfl⟩:=h4;exact⟨h0,y,h1,h2,h3,hK⟩):P:=h
theorem adl{P:Prop}(h:P:=by simp only[Option.map_eq_some_iff]at h;obtain⟨r,h1,rfl⟩:=h;obtain⟨g1,g2⟩:=Yd h1 hg (ao M φ H) w xv yv hx hy;exact acX):P:=h
theorem adm{P:Prop}(h:P:=by obtain⟨h3,h4⟩:=hb _ cS h2;exact⟨by rw[World.cell?_of_block (w:=w) (w':=w') (a:=a.add j) (by simpa using h3)];exact h1,h4⟩):P:=h
theorem adn{P:Prop}(h:P:=by rw[e]at hK;refine ag9 ?_;exact hK _ _ ae ⟨eW,ae,fun j hj=>by rw[ab _ _ _ _ (by omega),hI.eq j hj]⟩ (fun j g1 g2=>cH)):P:=h
theorem ado{P:Prop}(h:P:=by refine ba ?_;simp at h3;refine ai (k+1) ⟨h2,gv hx hk.2 h3⟩ ae (aZ.d1 _ (bt rfl) ae rfl ?_);exact bZ):P:=h
theorem adp{P:Prop}(h:P:=by simp only[ha];obtain⟨z,h1,h⟩:=j8 h;simp only[Prod.mk.injEq]at h;obtain⟨rfl,rfl,rfl⟩:=h;exact Be h1 hK):P:=h
theorem adq{P:Prop}(h:P:=by simp only[hw,if_true];obtain⟨vJ,fj⟩:=Dm NF (fun id aq=>ag2 id (by rw[yM];exact aq)) Ye bp.2;exact ahf):P:=h
theorem adr{P:Prop}(h:P:=by cases y<;>simp only[V.same,Bool.false_eq_true,Bool.and_eq_true]at h;rw[Nat.eq_of_beq_eq_true h.1,Nat.eq_of_beq_eq_true h.2]):P:=h
theorem Yf{P:Prop}(h:P:=by refine aZ.aV _ ae ae Good.nil (fun _ _=>rfl) ?_;exact bZ):P:=h
theorem ads{P:Prop}(h:P:=by rw[<- C2];refine js hH (cO w _) c8 _ _ hvb ?_;unfold aO;simp only[bT,aR,if_true];exact ahe):P:=h
theorem Yg{P:Prop}(h:P:=by subst oj;rw[List.take_length];refine mW ?_;exact hQ _ _ rfl):P:=h
theorem Yh{P:Prop}(h:P:=by refine mW ?_;refine aB (aD rfl) ?_;exact ur):P:=h
theorem adt{P:Prop}(h:P:=by intro u hu;simp only[Array.toList_extract,List.extract]at hu;exact hf u (List.mem_of_mem_drop (List.mem_of_mem_take hu))):P:=h
theorem adu{P:Prop}(h:P:=by subst p2;simp only[List.flatMap_cons,List.flatMap_nil,List.append_nil];exact(V.cA _ _).2 (D.eR _ _ p1).1):P:=h
theorem adv{P:Prop}(h:P:=by refine⟨hH,Trans.refl _ _ _, ?_,⟨[],rfl,List.nodup_nil,fun _=>rfl,fun r hr=>by cases hr⟩,Dn hd⟩;exact acY):P:=h
theorem adw{P:Prop}(h:P:=by refine ba ?_;exact hK _ _ ae ⟨eW,ae,fun j hj=>by rw[ab _ _ _ _ (by omega),hI.eq j hj]⟩ (fun j g1 g2=>cH)):P:=h
theorem adx{P:Prop}(h:P:=by rw[e];obtain⟨k1,k2⟩:=j9 (us':=Iz (Array.replicate ops.size false)) hs.heap (fun id h=> .inl h);exact ahg):P:=h
theorem ady{P:Prop}(h:P:=by unfold World.cell?;simp only[hg,Option.isSome_none,Bool.false_eq_true,if_false,Nat.zero_add];rw[UJ j hj];simp):P:=h
theorem adz{P:Prop}(h:P:=by refine aB (aD rfl) ?_;refine ba ?_;refine ai (k+1) ⟨h2,fj⟩ ae (aZ.d0 _ ?_);exact bZ):P:=h
theorem NG{P:Prop}(h:P:=by simp only[bT,aR,h1,if_false];exact Uo):P:=h
theorem UK{P:Prop}(h:P:=by rw[hb]at hf Dk;simp only[Bool.false_eq_true,if_false]at hf Dk;refine dc ?_;rw[hf,Dk]at hK;exact ahd):P:=h
theorem UL{P:Prop}(h:P:=by refine dc ?_;simp at h1;rw[List.drop_eq_nil_of_le h1]at hf;simp only[aA]at hf;rw[hf]at hK;exact acO):P:=h
theorem IA{P:Prop}(h:P:=by refine aF hkn rfl ?_;exact ur):P:=h
theorem UM{P:Prop}(h:P:=by simp only[Option.some.injEq,Prod.mk.injEq]at h;obtain⟨rfl,rfl,rfl⟩:=h;simp only[ho];exact⟨_,hg,hK⟩):P:=h
theorem NH{P:Prop}(h:P:=by rw[show fr+(j+1)=fr+1+j by omega];exact this):P:=h
theorem UN{P:Prop}(h:P:=by intro x hx;obtain⟨n',_,c',uw,rfl⟩:=rh l _ x hx;exact(lB c' (List.mem_of_getElem? uw)).Q2.1):P:=h
theorem UO{P:Prop}(h:P:=by injection h with h;subst h;obtain⟨u,rfl,_⟩:=hy;simp only[V.den,D.den]at hx;subst hx;exact ahb):P:=h
theorem UP{P:Prop}(h:P:=by injection h with h;subst h;obtain⟨u,rfl,_⟩:=hx;simp only[V.den,D.den]at hy;subst hy;exact aha):P:=h
theorem UQ{P:Prop}(h:P:=by refine .inr (.inr (.inl ⟨ds,out,fL,hP,nX, ?_⟩));cases out<;>first|exact hK _ h|exact hX _ _ h):P:=h
theorem UR{P:Prop}(h:P:=by rw[hI.eq 2 (by omega)];(repeat first|rfl|rw[af]|rw[ab _ _ _ _ (by omega)]);exact p2):P:=h
theorem US{P:Prop}(h:P:=by simp only[aO,ho]at bp;obtain⟨bk,es,clock,g1,_⟩:=bp;rw[<- dz]at g1;subst g1;exact aco):P:=h
theorem IB{P:Prop}(h:P:=by refine aB bG ?_;exact ur):P:=h
theorem UT{P:Prop}(h:P:=by simp only[aa.fz]at ho;simp only[aO,ho]at bp;rw[(hd ep (by rw[ho];rfl)).2 rfl];exact bp):P:=h
theorem UU{P:Prop}(h:P:=by rw[Array.toList_append,Array.toList_append,Array.toList_map];exact V.ri ID eC hca):P:=h
theorem UW{P:Prop}(h:P:=by refine .inr (.inl ⟨ds,out,fL,hP,nX, ?_⟩);cases out<;>first|exact hK _ h|exact hX _ _ h):P:=h
theorem UX{P:Prop}(h:P:=by simp at h1;refine dc ?_;rw[List.drop_eq_nil_of_le h1]at hf Dk;rw[hf,Dk]at hK;exact acO):P:=h
theorem UY{P:Prop}(h:P:=by obtain⟨b,dk,ty,k1,k2,k3,k4⟩:=bu;exact⟨b,dk,ty,k1,k2,kD _ _ hrefs k3,k4⟩):P:=h
theorem UZ{P:Prop}(h:P:=by obtain⟨arr,rfl,g1,g2⟩:=hx;obtain⟨val,r1,r2⟩:=KF h g1 g2;exact fin r1 r2):P:=h
theorem U0{P:Prop}(h:P:=by subst e9;(repeat first|rfl|rw[af]|rw[ab _ _ _ _ (by omega)]);exact q2):P:=h
theorem U1{P:Prop}(h:P:=by simp only[Array.getD_eq_getD_getElem?];rw[Array.getElem?_setIfInBounds_ne (Ne.symm h1)]):P:=h
theorem U2{P:Prop}(h:P:=by subst e;(repeat first|rfl|rw[af]|rw[ab _ _ _ _ (by omega)]);exact q2):P:=h
theorem U3{P:Prop}(h:P:=by refine⟨x,fun heq=> ?_⟩;obtain⟨p,q,r,z,u⟩:=y heq;exact⟨p,q,r,b.trans z,u⟩):P:=h
theorem U4{P:Prop}(h:P:=by obtain⟨h5,h6⟩:=List.getElem?_eq_some_iff.1 hx;rw[List.drop_eq_getElem_cons h5,h6]):P:=h
theorem U5{P:Prop}(h:P:=by refine .inl ⟨ds,out,fL,hP, ?_⟩;cases out<;>first|exact hK _ h|exact hX _ _ h):P:=h
theorem NI{P:Prop}(h:P:=by refine fX (ak h hI) ?_;rw[hn,hI];rfl):P:=h
theorem U6{P:Prop}(h:P:=by simp only[Ef,Array.getD_eq_getD_getElem?,Array.getElem?_replicate];split<;>rfl):P:=h
theorem U7{P:Prop}(h:P:=by rw[show((hp o nx).put (bY o x.ids)).o id=_ from this]at g1;exact⟨id,g1,g2⟩):P:=h
theorem U8{P:Prop}(h:P:=by simp[H',aa.bV]at he;subst he;exact⟨Nat.le_refl _,fun _=>by simp[aH]⟩):P:=h
theorem U9{P:Prop}(h:P:=by rw[p2.eq id (by omega)];unfold ext;rw[if_neg (by omega),hold id (by omega) h2]):P:=h
theorem Va{P:Prop}(h:P:=by rw[hm,iX (o:=s.o) fun id aq=>hr id (m7 _ id aq)];exact hΔ):P:=h
theorem Vb{P:Prop}(h:P:=by obtain⟨a,b,c,h⟩:=funcOf (P:=Tryz.prog) (t:=214) aK;unfold ux;rw[h]):P:=h
theorem Vc{P:Prop}(h:P:=by cases y<;>simp only[D.same,Bool.false_eq_true]at h;rw[D.dZ cI _ h]):P:=h
theorem Vd{P:Prop}(h:P:=by rw[Bool.eq_iff_iff,decide_eq_true_eq,this];cases(aA step s l).2<;>simp):P:=h
theorem Ve{P:Prop}(h:P:=by simp at h2;rw[List.drop_eq_nil_of_le h2]at vg;refine ba ?_;rw[vg];rfl):P:=h
theorem Vf{P:Prop}(h:P:=by rw[Bool.eq_iff_iff];simp only[List.all_eq_true (l:=t.kids)];exact acZ):P:=h
theorem Vg{P:Prop}(h:P:=by obtain⟨b,r,k1,k2,k3,k4,k5,k6,k7,k8,k9,k10⟩:=bu;exact ahc):P:=h
theorem Vh{P:Prop}(h:P:=by obtain⟨u,us,rfl,h1,_⟩:=h;simp at hd;subst hd;exact⟨u,aJ,h1⟩):P:=h
theorem Vi{P:Prop}(h:P:=by rw[ab _ _ _ _ (by omega),ab _ _ _ _ (by omega)];exact f2 j hj):P:=h
theorem Vj{P:Prop}(h:P:=by intro c hx;rw[Array.getD_eq_getD_getElem?,hx]at dE;simp at dE):P:=h
theorem Vk{P:Prop}(h:P:=by simp at h2;rw[List.take_of_length_le h2]at eM;rw[eM];exact ur):P:=h
def uy(ops:Array Oper)(j:Nat):Option Tmp:=(ops[j]?).bind (·.dst)
structure b8 where
 dst:Option Nat
 op:Op
 gd:Option (Nat×Bool):=none
instance:Inhabited b8:=⟨⟨none, .ready 0,none⟩⟩
def Gt(n:Nat):Option Tmp->Bool
 |some d=>decide (d<n)
 |none=>true
def NJ(n:Nat)(ops:Array Oper)(o:Oper):Option b8:=
 if Gt n o.dst=true then match o.guard with
  |none=>some ⟨o.dst,o.op,none⟩
  |some (j,want)=>match uy ops j with
   |some d=>some ⟨o.dst,o.op,some (d,want)⟩
   |none=>none
 else none
def ml(n:Nat)(ops:Array Oper):List Oper->Option (List b8)
 |[]=>some []
 |o::l=>match NJ n ops o,ml n ops l with
  |some x,some xs=>some (x::xs)
  |_,_=>none
def tmpsOf(o:b8):List Nat:=(o.op.operands.toList.filterMap fun| .tmp t=>some t|_=>none)++(match o.gd with|some (d,_)=>[d]|none=>[])
def fM(o:b8):List Nat:=tmpsOf o++o.dst.toList
def bL(ops:Array Oper)(i:Nat):List Nat:=match ops[i]? with|some o=>(o.after.toList.filter (Region.binds .any)).map (·.on)|none=>[]
def cq(l:List b8)(i:Nat):b8:=l.getD i default
inductive IC where
 |skip|bA (l:List b8)|dm (l:List b8) (pr:List (List Nat))|seq (a b:IC)|cond (c:Operand) (a b:IC)|block (id:Nat) (a:IC)|loop (a:IC)|exit (id:Nat)|ret|bad
 |KG (g:Operand) (ps:List Nat) (a b:IC)
 deriving Inhabited
inductive lC where
 |ret|exit (id:Nat)
def lC.code:lC->Code
 | .ret=> .ret
 | .exit id=> .exit id
def m8(acc:List Nat):List Nat->Nat
 |[]=>0
 |j::ps=>(2^j|||acc.getD j 0)|||m8 acc ps
def fb:List (List Nat)->List Nat->List Nat
 |[],acc=>acc
 |ps::l,acc=>fb l (acc++[m8 acc ps])
def tl(x y:b8):Bool:=match x.dst with|some d=> !(fM y).contains d|none=>true
def Bf(l:List b8)(pr:List (List Nat)):Bool:=
 (List.range l.length).all fun j=>(List.range j).all fun i=>((fb pr []).getD j 0).testBit i||(tl (cq l i) (cq l j)&&tl (cq l j) (cq l i))
def lX(xs ys:List Nat):Bool:=xs.all fun x=> !ys.contains x
def eX(pr:List (List Nat))(fp:List (List Nat×List Nat)):Bool:=
 (List.range fp.length).all fun j=>(List.range j).all fun i=>((fb pr []).getD j 0).testBit i||
  (lX (fp.getD i ([],[])).2 (fp.getD j ([],[])).1&&lX (fp.getD i ([],[])).2 (fp.getD j ([],[])).2&&lX (fp.getD j ([],[])).2 (fp.getD i ([],[])).1)
def iC(ops:Array Oper):List (List Nat):=(List.range ops.size).map (bL ops)
def Yi(pr:List (List Nat)):Bool:=(List.range pr.length).all fun k=>(pr.getD k []).all fun j=>decide (j<k)
theorem wA{acc:List Nat}{i:Nat}:∀ (ps:List Nat),(m8 acc ps).testBit i=true->∃j∈ps,i=j\/(acc.getD j 0).testBit i=true
 |[],h=>by simp[m8]at h
 |j::ps,h=>by
  simp only[m8,Nat.testBit_or,Bool.or_eq_true]at h
  rcases h with(h|h)|h
  ·rw[Nat.testBit_two_pow]at h
   exact⟨j,aJ, .inl (by have h:=of_decide_eq_true h;exact h.symm)⟩
  ·exact⟨j,aJ, .inr h⟩
  ·obtain⟨j',h1,h2⟩:=wA ps h
   exact⟨j',by simp[h1],h2⟩
theorem tn{k:Nat}:∀ (l:List (List Nat)) (acc:List Nat),k<acc.length->(fb l acc).getD k 0=acc.getD k 0
 |[],_,_=>rfl
 |ps::l,acc,h=>by
  rw[fb,tn l _ (by simp;omega)]
  simp[List.getD_eq_getElem?_getD,List.getElem?_append_left h]
theorem tp{i:Nat}:∀ (l:List (List Nat)) (acc:List Nat) (k:Nat),acc.length<=k->(∀k',k'<l.length->∀j∈l.getD k' [],j<acc.length+k')->((fb l acc).getD k 0).testBit i=true->
 ∃j∈l.getD (k - acc.length) [],i=j\/((fb l acc).getD j 0).testBit i=true
 |[],acc,k,hk,_,h=>by
  simp only[fb]at h
  rw[List.getD_eq_getElem?_getD,List.getElem?_eq_none hk]at h
  simp at h
 |ps::l,acc,k,hk,hp,h=>by
  simp only[fb]at h|-
  by_cases he:k=acc.length
  ·subst he
   rw[tn l _ (by simp)]at h
   have e:(acc++[m8 acc ps]).getD acc.length 0=m8 acc ps:=by simp[List.getD_eq_getElem?_getD]
   rw[e]at h
   obtain⟨j,h1,h2⟩:=wA ps h
   refine⟨j,by simpa using h1,h2.imp id fun h2=> ?_⟩
   have hj:j<acc.length:=by simpa using hp 0 aJ j (by simpa using h1)
   rw[tn l _ (by simp;omega)]
   simpa[List.getD_eq_getElem?_getD,List.getElem?_append_left hj]using h2
  ·obtain⟨j,h1,h2⟩:=tp l (acc++[m8 acc ps]) k iA (fun k' IE j hj=>by
    have:=hp (k'+1) iA j od
    simp;omega) h
   refine⟨j, ?_,h2⟩
   have e:k - acc.length=(k - (acc++[m8 acc ps]).length)+1:=by simp;omega
   rw[e];simpa using h1
theorem rj{pr:List (List Nat)}(hp:∀k,k<pr.length->∀j∈pr.getD k [],j<k){E:Nat->Bool}(hE:∀k,k<pr.length->E k=true->∀j∈pr.getD k [],E j=true):
 ∀k,k<pr.length->(∀j∈pr.getD k [],E j=true)->∀i,((fb pr []).getD k 0).testBit i=true->E i=true:=by
 intro k
 induction k using Nat.strongRecOn with
 |ind k ih=>
  intro hk hj i hi
  obtain⟨j,h1,h2⟩:=tp pr [] k aJ (fun k' IE j hj=>by simpa using hp k' IE j hj) hi
  simp only[List.length_nil,Nat.sub_zero]at h1
  rcases h2 with rfl|h2
  ·exact hj _ h1
  ·have hjk:=hp k hk j h1
   exact ih j hjk ae (hE j ae (hj j h1)) i h2
theorem Dp{pr:List (List Nat)}(hp:∀k,k<pr.length->∀j∈pr.getD k [],j<k):∀k,k<pr.length->∀i,((fb pr []).getD k 0).testBit i=true->i<k:=by
 intro k
 induction k using Nat.strongRecOn with
 |ind k ih=>
  intro hk i hi
  obtain⟨j,h1,h2⟩:=tp pr [] k aJ (fun k' IE j hj=>by simpa using hp k' IE j hj) hi
  simp only[List.length_nil,Nat.sub_zero]at h1
  have hjk:=hp k hk j h1
  rcases h2 with rfl|h2
  ·exact hjk
  ·have:=ih j hjk ae i h2;omega
def low(n:Nat):Code->IC
 | .skip=> .skip
 | .label _=> .skip
 | .scope c=>low n c
 | .region _ ops false=>match ml n ops ops.toList with
   |some l=> .bA l
   |none=> .bad
 | .region _ ops true=>match ml n ops ops.toList with
   |some l=>if Bf l (iC ops)&&Yi (iC ops)then .dm l (iC ops)else .bad
   |none=> .bad
 | .seq a b=> .seq (low n a) (low n b)
 | .cond c a b=> .cond c (low n a) (low n b)
 | .block id a=> .block id (low n a)
 | .loop a=> .loop (low n a)
 | .exit id=> .exit id
 | .ret=> .ret
 | .rangeFunc g ps a b=> .KG g ps.toList (low n a) (low n b)
 |_=> .bad
section
inductive D where
 |int (k:IntKind) (n:Int)|bool (b:Bool)|str (s:List UInt8)
 |fN|nR|cK|iY
 |agg (cs:List D)|sl (es:List D)|iface (t:TypeId) (d:D)
 |mp (ks vs:List D)
 deriving Inhabited
def Flat(vs:List Value):Prop:=∀u∈vs,u.oneCell'=true
def iD(B:Nat->Prop)(w:World)(a:Addr)(cs:Array Value):Prop:=∀j u,cs[j]? =some u->w.cell? (a.add j)=some u/\ ¬B a.block
def jt(es:Array MapEntry)(clock:Nat):Prop:=(∀e∈es.toList,e.born<clock)/\(es.toList.map (·.born)).Nodup
def Bg(ks:List D):Prop:=ks.Nodup/\∀k∈ks,∃n,k= .int .i64 n
mutual
def D.den (B:Nat->Prop)(w:World):D->Value->Prop
 | .int k n,v=>v= .int k n
 | .bool b,v=>v= .bool b
 | .str l,v=>∃s:ByteArray,v= .string s/\s.data.toList=l
 | .fN,v=>v= .nilIface
 | .nR,v=>v= .pointer none
 | .cK,v=>v= .nilFunc
 | .iY,v=>v= .map none
 | .agg cs,v=>∃a,v= .agg a/\D.aG B w cs a.toList/\Flat a.toList
 | .sl es,v=>∃base len cap,v= .slice base len cap/\len=es.length/\len<=cap/\(base=none->cap=0)/\
  ∃sz,∀a,base=some a->(cap≠0->a.spot=none)/\D.elems B w sz a 0 es
 | .iface t d,v=>∃u,v= .iface t u/\D.den B w d u
 | .mp ks vs,v=>∃m es clock p,v= .map (some m)/\w.heap[m]? =some (.map es clock)/\ ¬B m/\jt es clock/\(p=es.toList\/(p.Perm es.toList/\Bg ks))/\D.aG B w ks (p.map (·.key))/\D.aG B w vs (p.map (·.val))
def D.aG (B:Nat->Prop)(w:World):List D->List Value->Prop
 |[],vs=>vs=[]
 |d::ds,vs=>∃u us,vs=u::us/\D.den B w d u/\D.aG B w ds us
def D.elems (B:Nat->Prop)(w:World)(sz:Nat)(a:Addr):Nat->List D->Prop
 |_,[]=>True
 |i,e::es=>(∃ev:Value,ev.cells.size=sz/\iD B w (a.add (i*sz)) ev.cells/\D.den B w e ev)/\D.elems B w sz a (i+1) es
end
inductive V where
 |d (x:D)|aU|agg (cs:List V)|cc (vs:List V)
 |ptr (id off:Nat)|osl (id ep:Nat)|pe (id ep i sz off:Nat)|pp (cs:List D) (off:Nat)
 |func (fn:Fn) (first cap:List V)|iface (t:TypeId) (x:V)
 |ag
 |qx (es:List D)|jo (id off n c:Nat)|mp (id:Nat)|fl|jI (id:Nat)
 deriving Inhabited
inductive aa where
 |no|row (cs:List V)|arr (ep:Nat) (ty:TypeId) (sz:Nat) (es:List D)|qg (ep:Nat) (es:List D)
 |map (kt vt:TypeId) (es:List (D×D))
 |loop (nf n:Nat) (env:List V) (ps:List Nat) (a b:IC) (st:LoopState) (KH:Option lC)
 |gw (es:List (D×D))|pW (es:List (D×D)) (last:Option (D×D))|yY (s:List UInt8) (pos:Nat)
 deriving Inhabited
def aT(l:List V):Nat->V:=fun i=>l.getD i .ag
structure Hp where
 o:Nat->aa
 us:Nat->Prop
def aa.bV:aa->Option Nat
 | .arr ep _ _ _| .qg ep _=>some ep
 |_=>none
def aa.bF:aa->Bool
 | .row _| .map .. | .loop .. | .gw _| .pW .. | .yY .. =>true
 |_=>false
def aa.live:aa->Bool
 | .row _| .arr .. | .map .. | .loop .. | .pW .. | .yY .. =>true
 |_=>false
def dG:Value->Option Nat
 | .pointer (some a)| .slice (some a) _ _=>some a.block
 | .map (some b)=>some b
 |_=>none
abbrev Place:=Nat->Value
def cw(φ:Place)(H:Hp)(b:Nat):Prop:=∃id,(H.o id).live=true/\dG (φ id)=some b
def ao(M:Nat->Prop)(φ:Place)(H:Hp)(b:Nat):Prop:=M b\/cw φ H b
mutual
def V.den (B:Nat->Prop)(φ:Place)(H:Hp)(w:World):V->Value->Prop
 | .d x,v=>D.den B w x v
 | .aU,v=>v= .slice none 0 0
 | .agg cs,v=>∃a,v= .agg a/\V.aG B φ H w cs a.toList/\Flat a.toList
 | .cc vs,v=>∃a,v= .tuple a/\V.aG B φ H w vs a.toList
 | .ptr id off,v=>v.oneCell'=true/\H.us id/\((H.o id).bF=true->∃b,φ id= .pointer (some ⟨b,0,none⟩)/\v= .pointer (some ⟨b,off,none⟩))
 | .osl id ep,v=>v.oneCell'=true/\H.us id/\∀e,(H.o id).bV=some e->ep<=e/\(ep=e->v=φ id)
 | .pe id ep i sz off,v=>v.oneCell'=true/\H.us id/\∀e,(H.o id).bV=some e->ep<=e/\(ep=e->∃b n c,φ id= .slice (some ⟨b,0,none⟩) n c/\v= .pointer (some ⟨b,i*sz+off,none⟩))
 | .pp cs off,v=>∃a ev,a.spot=none/\v= .pointer (some (a.add off))/\D.aG B w cs ev/\Flat ev/\iD B w a ev.toArray
 | .func fn first cap,v=>∃f c,v= .func fn f c/\V.aG B φ H w first f.toList/\V.aG B φ H w cap c.toList
 | .iface t x,v=>∃u,v= .iface t u/\V.den B φ H w x u
 | .ag,_=>True
 | .qx es,v=>D.den B w (.sl es) v/\∃base n,v= .slice base n n
 | .jo id off n c,v=>v.oneCell'=true/\H.us id/\((H.o id).bF=true->∃b,φ id= .pointer (some ⟨b,0,none⟩)/\v= .slice (some ⟨b,off,none⟩) n c)
 | .mp id,v=>v.oneCell'=true/\H.us id/\((H.o id).bF=true->v=φ id)
 | .fl,v=>∃b,v= .bool b
 | .jI id,v=>v.oneCell'=true/\H.us id/\((H.o id).bF=true->∃b,φ id= .pointer (some ⟨b,0,none⟩)/\v= .func (.yield b) #[] #[])
def V.aG (B:Nat->Prop)(φ:Place)(H:Hp)(w:World):List V->List Value->Prop
 |[],vs=>vs=[]
 |x::xs,vs=>∃u us,vs=u::us/\V.den B φ H w x u/\V.aG B φ H w xs us
end
def eY(B:Nat->Prop)(w:World)(sz:Nat)(es:List D)(xs:List Value):Prop:=
 ∃evs:List Value,xs=evs.flatMap (·.cells.toList)/\(∀ev∈evs,ev.cells.size=sz)/\D.aG B w es evs
def aN(B:Nat->Prop)(w:World):List (D×D)->List MapEntry->Prop
 |[],es=>es=[]
 |(k,x)::l,es=>∃e es',es=e::es'/\D.den B w k e.key/\D.den B w x e.val/\aN B w l es'
def wB(B:Nat->Prop)(w:World)(l:List (D×D))(last:Option (D×D))(b:Nat):Prop:=
 w.heap[b]? =some (.mapIter none 0 #[] 0)/\l=[]/\last=none\/
 ∃m since seen es,w.heap[b]? =some (.mapIter (some m) since seen since)/\w.heap[m]? =some (.map es since)/\ ¬B m/\jt es since/\(∃l',l'.Perm l/\aN B w l' (es.toList.filter fun e=> !seen.contains e.born))/\
  ∀k x,last=some (k,x)->∃e∈es.toList,seen.back?=some e.born/\D.den B w k e.key/\D.den B w x e.val
def kE(B:Nat->Prop)(w:World)(l:List (D×D))(v:Value):Prop:=
 ∃b es clock,v= .map (some b)/\w.heap[b]? =some (.map es clock)/\ ¬B b/\jt es clock/\aN B w l es.toList
def aO(M:Nat->Prop)(φ:Place)(H:Hp)(w:World)(id:Nat):Prop:=
 match H.o id with
 | .no=>True
 | .row cs=>∃b dk ty,φ id= .pointer (some ⟨b,0,none⟩)/\w.heap[b]? =some (.cells dk ty (0,0))/\V.aG (ao M φ H) φ H w cs dk.toList/\Flat dk.toList
 | .arr _ ty sz es=>0<sz/\∃xs,w.ownsRow 0 ty sz (φ id) es.length xs/\eY (ao M φ H) w sz es xs
 | .qg _ es=>D.den (ao M φ H) w (.sl es) (φ id)
 | .loop nf n env ps jM fm st KH=>∃b r,φ id= .pointer (some ⟨b,0,none⟩)/\w.heap[b]? =some (.loop r)/\r.fn<nf/\r.state=st/\r.pending=KH.map lC.code/\r.params.toList=ps/\r.tmps.size=n/\low n r.assign=jM/\low n r.body=fm/\
  ∀i,V.den (ao M φ H) φ H w (aT env i) (r.tmps.getD i undef)
 | .map _ _ l=>∃b es clock,φ id= .map (some b)/\w.heap[b]? =some (.map es clock)/\jt es clock/\aN (ao M φ H) w l es.toList
 | .gw l=>kE (ao M φ H) w l (φ id)
 | .pW l last=>∃b,φ id= .pointer (some ⟨b,0,none⟩)/\wB (ao M φ H) w l last b
 | .yY s pos=>∃b,φ id= .pointer (some ⟨b,0,none⟩)/\w.heap[b]? =some (.stringIter ⟨⟨s⟩⟩ pos)
structure ay (M:Nat->Prop) (φ:Place) (H:Hp) (w:World):Prop where
 ok:∀id,aO M φ H w id
 fresh:∀id, ¬H.us id->H.o id= .no
 apart:∀i j b,(H.o i).live=true->(H.o j).live=true->dG (φ i)=some b->dG (φ j)=some b->i=j
 ours:∀b,cw φ H b-> ¬M b/\b<w.heap.size
 Bh:∀b,M b->b<w.heap.size
structure ed (m:Nat->Prop) (w w':World):Prop where
 os:w'.os=w.os
 tape:w'.tape=w.tape
 output:w'.output=w.output
 size:w.heap.size<=w'.heap.size
 block:∀k,k<w.heap.size-> ¬m k->w'.heap[k]? =w.heap[k]?
structure eE (φ:Place) (H:Hp) (aH:Place) (H':Hp):Prop where
 us:∀id,H.us id->H'.us id
 row:∀id,H.us id->(H'.o id).bF=true->(H.o id).bF=true/\aH id=φ id
 ep:∀id e',H.us id->(H'.o id).bV=some e'->∃e,(H.o id).bV=some e/\e<=e'/\(e=e'->aH id=φ id)
structure Trans (φ:Place) (H:Hp) (w:World) (aH:Place) (H':Hp) (w':World):Prop where
 keep:ed (cw φ H) w w'
 grow:∀b,cw aH H' b->cw φ H b\/w.heap.size<=b
 rel:eE φ H aH H'
theorem ed.refl (m:Nat->Prop)(w:World):ed m w w:=⟨rfl,rfl,rfl,Nat.le_refl _,fun _ _ _=>rfl⟩
theorem eE.refl (φ:Place)(H:Hp):eE φ H φ H:=⟨fun _ h=>h,fun _ _ h=>⟨h,rfl⟩,fun _ e' _ h=>⟨e',h,Nat.le_refl _,fun _=>rfl⟩⟩
theorem Trans.refl (φ:Place)(H:Hp)(w:World):Trans φ H w φ H w:=⟨ed.refl _ _,fun _ h=> .inl h,eE.refl _ _⟩
theorem eE.trans {φ aH NK:Place}{H H' H'':Hp}(h:eE φ H aH H')(k:eE aH H' NK H''):eE φ H NK H'' where
 us id aq:=k.us id (h.us id aq)
 row id aq hr:=by
  obtain⟨a,b⟩:=k.row id (h.us id aq) hr
  obtain⟨c,d⟩:=h.row id aq a
  exact⟨c,b.trans d⟩
 ep id e' aq he:=by
  obtain⟨e,h1,h2,h3⟩:=k.ep id e' (h.us id aq) he
  obtain⟨e0,g1,g2,g3⟩:=h.ep id e aq h1
  refine⟨e0,g1,Nat.le_trans g2 h2,fun heq=> ?_⟩
  have a:e0=e:=ae
  have b:e=e':=ae
  exact(h3 b).trans (g3 a)
theorem Trans.trans {φ aH NK:Place}{H H' H'':Hp}{w w' XQ:World}(h:Trans φ H w aH H' w')(k:Trans aH H' w' NK H'' XQ):Trans φ H w NK H'' XQ where
 keep:={
  os:=k.keep.os.trans h.keep.os
  tape:=k.keep.tape.trans h.keep.tape
  output:=k.keep.output.trans h.keep.output
  size:=Nat.le_trans h.keep.size k.keep.size
  block:=fun b hb hm=>by
   rw[k.keep.block b (Nat.lt_of_lt_of_le hb h.keep.size) (fun hl=>by
    rcases h.grow b hl with h1|h1
    ·exact hm h1
    ·omega),h.keep.block b hb hm]}
 grow b hl:=by
  rcases k.grow b hl with h1|h1
  ·exact h.grow b h1
  ·exact .inr (Nat.le_trans h.keep.size h1)
 rel:=h.rel.trans k.rel
@[simp] theorem abv (a:Addr) (j:Nat):(a.add j).block=a.block:=by unfold Addr.add;split<;>rfl
def rk(w:World)(b:Nat):Prop:=∃cs ty fz,w.heap[b]? =some (.cells cs ty fz)
def cP(w:World)(b:Nat):Prop:=rk w b\/∃es clock,w.heap[b]? =some (.map es clock)
theorem cP.lt {w:World}{b:Nat}(h:cP w b):b<w.heap.size:=by
 rcases Nat.lt_or_ge b w.heap.size with hl|hl
 ·exact hl
 ·rcases h with⟨cs,ty,fz,h⟩|⟨es,clock,h⟩
  ·rw[Array.getElem?_eq_none hl]at h;cases h
  ·rw[Array.getElem?_eq_none hl]at h;cases h
theorem qh{w:World}{a:Addr}{u:Value}(h:w.cell? a=some u):rk w a.block:=by
 unfold World.cell? at h
 split at h
 ·exact⟨_,_,_,by assumption⟩
 ·cases h
theorem vh{w:World}{a:Addr}{u:Value}(h:w.cell? a=some u):cP w a.block:= .inl (qh h)
theorem iD.mono {B B':Nat->Prop}{w w':World}{a:Addr}{cs:Array Value}
 (hb:∀b,cP w b-> ¬B b->w'.heap[b]? =w.heap[b]? /\ ¬B' b) (h:iD B w a cs):iD B' w' a cs:=by
 intro j u hj
 obtain⟨h1,h2⟩:=h j u hj
 have cS:cP w a.block:=by simpa using vh h1
 exact adm
mutual
theorem D.aS {B B':Nat->Prop}{w w':World}(hb:∀b,cP w b-> ¬B b->w'.heap[b]? =w.heap[b]? /\ ¬B' b):
 ∀ (x:D) (v:Value),D.den B w x v->D.den B' w' x v
 | .int _ _,_,h| .bool _,_,h| .str _,_,h| .fN,_,h| .nR,_,h| .cK,_,h| .iY,_,h=>by simpa[D.den]using h
 | .agg cs,_,h=>by
   obtain⟨a,rfl,h,hf⟩:=h
   exact⟨a,rfl,D.aQ hb cs _ h,hf⟩
 | .sl es,_,h=>by
   obtain⟨base,len,cap,rfl,h1,h2,h3,sz,h4⟩:=h
   exact⟨base,len,cap,rfl,h1,h2,h3,sz,fun a ha=>⟨(h4 a ha).1,D.wC hb sz a es 0 (h4 a ha).2⟩⟩
 | .iface t d,_,h=>by
   obtain⟨u,rfl,h⟩:=h
   exact⟨u,rfl,D.aS hb d u h⟩
 | .mp ks vs,_,h=>by
   obtain⟨m,es,clock,p,rfl,h1,h2,h3,hp,h4,h5⟩:=h
   obtain⟨k1,k2⟩:=hb m (.inr ⟨es,clock,h1⟩) h2
   exact⟨m,es,clock,p,rfl,k1.trans h1,k2,h3,hp,D.aQ hb ks _ h4,D.aQ hb vs _ h5⟩
theorem D.aQ {B B':Nat->Prop}{w w':World}(hb:∀b,cP w b-> ¬B b->w'.heap[b]? =w.heap[b]? /\ ¬B' b):
 ∀ (ds:List D) (vs:List Value),D.aG B w ds vs->D.aG B' w' ds vs
 |[],_,h=>h
 |d::ds,_,h=>by
  obtain⟨u,us,rfl,h1,h2⟩:=h
  exact⟨u,us,rfl,D.aS hb d u h1,D.aQ hb ds us h2⟩
theorem D.wC {B B':Nat->Prop}{w w':World}(hb:∀b,cP w b-> ¬B b->w'.heap[b]? =w.heap[b]? /\ ¬B' b)(sz:Nat)(a:Addr):
 ∀ (es:List D) (i:Nat),D.elems B w sz a i es->D.elems B' w' sz a i es
 |[],_,_=>trivial
 |e::es,i,h=>by
  obtain⟨⟨ev,h1,h2,h3⟩,h4⟩:=h
  exact⟨⟨ev,h1,h2.mono hb,D.aS hb e ev h3⟩,D.wC hb sz a es (i+1) h4⟩
end
theorem aN.mono {B B':Nat->Prop}{w w':World}(hb:∀b,cP w b-> ¬B b->w'.heap[b]? =w.heap[b]? /\ ¬B' b):
 ∀ (l:List (D×D)) (es:List MapEntry),aN B w l es->aN B' w' l es
 |[],_,h=>h
 |(k,x)::l,_,h=>by
  obtain⟨e,es,rfl,h1,h2,h3⟩:=h
  exact⟨e,es,rfl,D.aS hb k _ h1,D.aS hb x _ h2,aN.mono hb l es h3⟩
theorem wB.mono {B B':Nat->Prop}{w w':World}(hb:∀b,cP w b-> ¬B b->w'.heap[b]? =w.heap[b]? /\ ¬B' b){l:List (D×D)}{last:Option (D×D)}{b:Nat}(hbb:w'.heap[b]? =w.heap[b]?)(h:wB B w l last b):wB B' w' l last b:=by
 rcases h with⟨h1,h2⟩|⟨m,since,seen,es,h1,h2,h3,h4,h5,h6⟩
 ·exact .inl ⟨hbb.trans h1,h2⟩
 ·obtain⟨k1,k2⟩:=hb m (.inr ⟨es,since,h2⟩) h3
  obtain⟨l',h5,vK⟩:=h5
  refine .inr ⟨m,since,seen,es,hbb.trans h1,k1.trans h2,k2,h4,⟨l',h5,aN.mono hb l' _ vK⟩,fun k x e=> ?_⟩
  obtain⟨e,g1,g2,g3,g4⟩:=h6 k x e
  exact⟨e,g1,g2,D.aS hb k _ g3,D.aS hb x _ g4⟩
theorem mm{B:Nat->Prop}{w:World}:∀ (l:List (D×D)) (es:List MapEntry),aN B w l es↔D.aG B w (l.map (·.1)) (es.map (·.key))/\D.aG B w (l.map (·.2)) (es.map (·.val))
 |[],es=>by
  simp only[aN,List.map_nil,D.aG]
  constructor
  ·rintro rfl;exact⟨rfl,rfl⟩
  ·rintro⟨h,_⟩;simpa using h
 |(k,x)::l,es=>by
  simp only[aN,List.map_cons,D.aG]
  constructor
  ·rintro⟨e,es',rfl,h1,h2,h3⟩
   obtain⟨g1,g2⟩:=(mm l es').1 h3
   exact⟨⟨_,_,rfl,h1,g1⟩,⟨_,_,rfl,h2,g2⟩⟩
  ·rintro⟨⟨u,us,h1,h2,h3⟩,⟨v,vs,h4,h5,h6⟩⟩
   cases es with
   |nil=>simp at h1
   |cons e es'=>
    simp only[List.map_cons,List.cons.injEq]at h1 h4
    obtain⟨rfl,rfl⟩:=h1
    obtain⟨rfl,rfl⟩:=h4
    exact⟨e,es',rfl,h2,h5,(mm l es').2 ⟨h3,h6⟩⟩
theorem kE.den {B:Nat->Prop}{w:World}{l:List (D×D)}{v:Value}(h:kE B w l v):D.den B w (.mp (l.map (·.1)) (l.map (·.2))) v:=by
 obtain⟨b,es,clock,h1,h2,h3,h4,h5⟩:=h
 obtain⟨h6,h7⟩:=(mm _ _).1 h5
 exact⟨b,es,clock,es.toList,h1,h2,h3,h4, .inl rfl,h6,h7⟩
theorem kE.mono {B B':Nat->Prop}{w w':World}(hb:∀b,cP w b-> ¬B b->w'.heap[b]? =w.heap[b]? /\ ¬B' b){l:List (D×D)}{v:Value}(h:kE B w l v):kE B' w' l v:=by
 obtain⟨b,es,clock,h1,h2,h3,h4,h5⟩:=h
 obtain⟨k1,k2⟩:=hb b (.inr ⟨es,clock,h2⟩) h3
 exact⟨b,es,clock,h1,k1.trans h2,k2,h4,aN.mono hb l _ h5⟩
theorem D.aE {B:Nat->Prop}{w:World}:∀ (ds:List D) (vs:List Value),D.aG B w ds vs->vs.length=ds.length
 |[],_,h=>by simp[D.aG]at h;simp[h]
 |d::ds,_,h=>by obtain⟨u,us,rfl,_,h2⟩:=h;simp[D.aE ds us h2]
theorem D.dL {B:Nat->Prop}{w:World}:∀ (ds:List D) (vs:List Value) (i:Nat) (d:D),D.aG B w ds vs->ds[i]? =some d->∃v,vs[i]? =some v/\D.den B w d v
 |[],_,_,_,_,hd=>by simp at hd
 |d::ds,_,0,x,h,hd=>by
  exact Vh
 |d::ds,_,i+1,x,h,hd=>by
  obtain⟨u,us,rfl,_,h2⟩:=h
  simpa using D.dL ds us i x h2 (by simpa using hd)
theorem D.zF {B:Nat->Prop}{w:World}{sz:Nat}{a:Addr}:∀ (es:List D) (i j:Nat) (e:D),D.elems B w sz a i es->es[j]? =some e->
 ∃ev:Value,ev.cells.size=sz/\iD B w (a.add ((i+j)*sz)) ev.cells/\D.den B w e ev
 |[],_,_,_,_,hd=>by simp at hd
 |e::es,i,0,x,h,hd=>by
  simp at hd;subst hd;simpa using h.1
 |e::es,i,j+1,x,h,hd=>by
  have:=D.zF es (i+1) j x h.2 (by simpa using hd)
  simpa[Nat.add_assoc,Nat.add_comm 1 j]using this
section
variable {M:Nat->Prop}{φ aH:Place}{H H':Hp}{w w':World}
theorem Trans.blocks (ht:Trans φ H w aH H' w')(b:Nat)(hc:cP w b)(h: ¬ao M φ H b):w'.heap[b]? =w.heap[b]? /\ ¬ao M aH H' b:=by
 have hb:=hc.lt
 refine⟨ht.keep.block b hb fun hl=>h (.inr hl), ?_⟩
 rintro(h1|h1)
 ·exact h (.inl h1)
 ·rcases ht.grow b h1 with h2|h2
  ·exact h (.inr h2)
  ·omega
mutual
theorem V.mn (hb:∀b,cP w b-> ¬ao M φ H b->w'.heap[b]? =w.heap[b]? /\ ¬ao M aH H' b)(hr:eE φ H aH H'):∀ (x:V) (v:Value),V.den (ao M φ H) φ H w x v->V.den (ao M aH H') aH H' w' x v
 | .d x,v,h=>D.aS hb x v h
 | .aU,_,h=>h
 | .ag,_,_=>trivial
 | .qx es,v,h=>⟨D.aS hb (.sl es) v h.1,h.2⟩
 | .jo id off n c,v,h=>by
   exact XU
 | .mp id,v,h=>by
   obtain⟨h0,h1,h2⟩:=h
   refine⟨h0,hr.us id h1,fun bD=> ?_⟩
   obtain⟨h3,h4⟩:=hr.row id h1 bD
   exact(h2 h3).trans h4.symm
 | .fl,v,h=>h
 | .jI id,v,h=>by
   exact XU
 | .agg cs,_,h=>by obtain⟨a,rfl,h,hf⟩:=h;exact⟨a,rfl,V.gL hb hr cs _ h,hf⟩
 | .cc cs,_,h=>by obtain⟨a,rfl,h⟩:=h;exact⟨a,rfl,V.gL hb hr cs _ h⟩
 | .ptr id off,v,h=>by
   exact XU
 | .osl id ep,v,h=>by
   exact ac7
 | .pe id ep i sz off,v,h=>by
   exact ac7
 | .pp cs off,v,h=>by
   obtain⟨a,ev,h1,h2,h3,h5,h4⟩:=h
   exact⟨a,ev,h1,h2,D.aQ hb cs ev h3,h5,h4.mono hb⟩
 | .func fn first cap,_,h=>by
   obtain⟨f,c,rfl,h1,h2⟩:=h
   exact⟨f,c,rfl,V.gL hb hr first _ h1,V.gL hb hr cap _ h2⟩
 | .iface t x,_,h=>by obtain⟨u,rfl,h⟩:=h;exact⟨u,rfl,V.mn hb hr x u h⟩
theorem V.gL (hb:∀b,cP w b-> ¬ao M φ H b->w'.heap[b]? =w.heap[b]? /\ ¬ao M aH H' b)(hr:eE φ H aH H'):∀ (ds:List V) (vs:List Value),V.aG (ao M φ H) φ H w ds vs->V.aG (ao M aH H') aH H' w' ds vs
 |[],_,h=>h
 |x::xs,_,h=>by
  obtain⟨u,us,rfl,h1,h2⟩:=h
  exact⟨u,us,rfl,V.mn hb hr x u h1,V.gL hb hr xs us h2⟩
end
theorem V.aS (ht:Trans φ H w aH H' w')(x:V)(v:Value)(h:V.den (ao M φ H) φ H w x v):V.den (ao M aH H') aH H' w' x v:=V.mn ht.blocks ht.rel x v h
theorem V.aQ (ht:Trans φ H w aH H' w')(ds:List V)(vs:List Value)(h:V.aG (ao M φ H) φ H w ds vs):V.aG (ao M aH H') aH H' w' ds vs:=V.gL ht.blocks ht.rel ds vs h
end
end
end Go.Proofs.YtnkamdiiakdkgaaGreat
