/-
  A PART OF THE PROOF. Conditions: none.
-/
import Derived.WalkKit
import Derived.Below
set_option linter.unusedSimpArgs false
set_option linter.unusedVariables false
namespace Go.Proofs.YtlhemmpklhhgoaaGreat
theorem af{P:Prop}(h:P:=by kernel_rfl):P:=h
theorem aN{P:Prop}(h:P:=by omega):P:=h
theorem yF{P:Prop}(h:P:=by rintro⟨h1,h2⟩;first|(cases h1;done)|(cases h2;done)):P:=h
theorem aU{P:Prop}(h:P:=by simp):P:=h
theorem kb{P:Prop}(h:P:=by simpa[execOp,dg]using this):P:=h
theorem vo{P:Prop}(h:P:=by cases rs with|nil=>exact ho.elim|cons x l=>cases l<;>exact ho.elim):P:=h
theorem B9{P:Prop}(h:P:=by exact⟨_,gG,dV,hq, .of_steps (.one h0 stepR_seq) (.pass (x:= .code y) rfl (fun _ _=> .inl (by simp)) bw)⟩):P:=h
theorem fC{P:Prop}(h:P:=by rw[ho];rfl):P:=h
theorem KU{P:Prop}(h:P:=by exact⟨false, .inl rfl,rfl,dW (fun _ _ h=>by cases h.1) (by rintro⟨h1,h2⟩;first|(cases h1;done)|(cases h2;done)),eq _ (fun d=>by rw[Ca w d ht])⟩):P:=h
theorem KW{P:Prop}(h:P:=by exact⟨_,_,_,_,_,_,_,hK,by simp[Instr.range,run_underlying ht,jo], .inl rfl,n1,n2,⟨rfl,by simp,fun _=>⟨w.heap.size,by simp,rfl⟩⟩,fun j hj=> .inr (by simpa using hj)⟩):P:=h
theorem Cb{P:Prop}(h:P:=by exact⟨_,_,_,_,_,_,_,hK,by simp[Instr.range,run_underlying ht], .inl rfl,n1,n2,⟨rfl,by simp,fun _=>⟨w.heap.size,by simp,rfl⟩⟩,fun j hj=> .inr (by simpa using hj)⟩):P:=h
theorem fG{P:Prop}(h:P:=by simpa using hj):P:=h
theorem nk{P:Prop}(h:P:=by simp[Op.equalIn,run_underlying ht]):P:=h
theorem H3{P:Prop}(h:P:=by exact⟨false, .inl rfl,rfl,dW (fun _ _ h=>by cases h.1) (by rintro⟨h1,h2⟩;first|(cases h1;done)|(cases h2;done)),eq _ (fun d=>by rw[Cc w d ht])⟩):P:=h
theorem H4{P:Prop}(h:P:=by exact⟨false, .inl rfl,rfl,dW (fun _ _ h=>by cases h.1) (by rintro⟨h1,h2⟩;first|(cases h1;done)|(cases h2;done)),eq _ (fun d=>by rw[Cd w d ht])⟩):P:=h
theorem Ce{P:Prop}(h:P:=by exact⟨false, .inl rfl,rfl,dW (fun _ _ h=>by cases h.1) (by rintro⟨h1,h2⟩;first|(cases h1;done)|(cases h2;done)),eq _ (fun d=>by rw[Cf w d ht])⟩):P:=h
theorem Cg{P:Prop}(h:P:=by exact .inl ⟨_,_,_, .inr ⟨c,f,g,first,cap,hc,cE,hf, .inr (.inl ⟨rs,hH,rfl,fun id aj=>by simpa using List.all_eq_true.1 gQ id aj⟩)⟩,h⟩):P:=h
theorem Ch{P:Prop}(h:P:=by exact .inl ⟨_,_,_, .inr ⟨c,f,g,first,cap,hc,cE,hf, .inr (.inr (.inr ⟨hH,fun id aj=>by simpa using List.all_eq_true.1 gQ id aj⟩))⟩,h⟩):P:=h
theorem Ci{P:Prop}(h:P:=by exact a6.same hH _ hK (by simp only[Sem.run_bind,hr,Result.andThen_ok];rfl) ⟨_,rfl,zv,[.bool false],rfl,r2, .bool false,[],rfl,rfl,rfl⟩):P:=h
theorem Cj{P:Prop}(h:P:=by exact .inr ⟨_,_,_,⟨c,f,g,first,cap,hc,cE,hf, .inr ⟨x,Δ,hH,rfl,rfl,fun id aj=>by simpa using List.all_eq_true.1 gQ id aj⟩⟩,h⟩):P:=h
theorem gR{P:Prop}(h:P:=by simp[gK,aj]):P:=h
theorem vx{P:Prop}(h:P:=by simpa[execOp,dg,resolve,invoke,builtin]using this):P:=h
theorem Ck{P:Prop}(h:P:=by exact⟨fo vy.1,fo vy.2,fun id aj=>⟨dj mm.1.1 id aj,dj mm.1.2 id aj⟩,fun id aj=>dj mm.2 id aj⟩):P:=h
theorem Cl{P:Prop}(h:P:=by simp only[Sem.run_bind,hr,Result.andThen_ok];rfl):P:=h
theorem Cm{P:Prop}(h:P:=by exact fin _ [] (fun b hb=>by cases hb) cg (World.ownsRow_nil w' 0 ty sz) ⟨[],rfl,by simp,rfl⟩ rfl):P:=h
theorem H5{P:Prop}(h:P:=by exact⟨w.heap.size,es,clock,rfl,heap_alloc_new w _,e3,ak.mono (ht.blocks (M:=M)) l _ e4⟩):P:=h
theorem Cn{P:Prop}(h:P:=by simp only[Op.operands,Call.operands];exact Array.mem_append.2 (.inr (Array.mem_toList_iff.1 hx))):P:=h
theorem H6{P:Prop}(h:P:=by exact th hu cq (fun id h=> .inl (by rw[eH]at h;exact h)) g1.symm g3 jq (fH rfl)):P:=h
theorem tj{P:Prop}(h:P:=by injection h with h;subst h;exact hK):P:=h
theorem Co{P:Prop}(h:P:=by simp only[h1,bf,Option.map_some];exact hK):P:=h
theorem Cp{P:Prop}(h:P:=by exact⟨k1,ov.tr.trans k2,ov.size,ov.defers.mono k2,fun j=>V.ax k2 _ _ (ov.env j)⟩):P:=h
theorem vz{P:Prop}(h:P:=by exact V.ax (ht.trans k2) _ _ (hs.env i)):P:=h
theorem H7{P:Prop}(h:P:=by exact⟨k1,hs.tr.trans k2,hs.size,hs.defers.mono k2,fun j=>V.ax k2 _ _ (hs.env j)⟩):P:=h
theorem Cq{P:Prop}(h:P:=by exact hQ _ _ _ _ val k5 (ct hs k1 k2 (o':=o') (nx':=nx') rfl fun id hu=>hu) k4):P:=h
theorem yG{P:Prop}(h:P:=by exact⟨_,gG,dV,hq, .of_steps (.one h0 stepR_block) bw⟩):P:=h
theorem yH{P:Prop}(h:P:=by exact⟨_,gG,dV,hq, .of_steps (.one h0 ek) bw⟩):P:=h
theorem tk{P:Prop}(h:P:=by unfold cK;rw[vA trivial]):P:=h
theorem Cr{P:Prop}(h:P:=by exact .inr (.inr (.inr (jL.mono (fun v o n h=>hK _ h) (fun v o n h=>hX _ _ h) h)))):P:=h
theorem Cs{P:Prop}(h:P:=by exact⟨none,0,0,rfl,rfl,Nat.le_refl _,fun _=>rfl,0,fun a ha=>by cases ha⟩):P:=h
theorem yI{P:Prop}(h:P:=by injection h with h;subst h;exact⟨by assumption,hK⟩):P:=h
theorem Ct{P:Prop}(h:P:=by exact hH.fresh j fun hu=>h (.inl hu)):P:=h
theorem H8{P:Prop}(h:P:=by exact⟨r, .inl rfl,by obtain⟨_,rfl,_⟩:=hx;rfl,fun op=>g2 op p q,g1⟩):P:=h
theorem yJ{P:Prop}(h:P:=by simp at h;obtain⟨rfl,rfl⟩:=h;exact⟨rfl,rfl⟩):P:=h
theorem Cu{P:Prop}(h:P:=by exact hN _ _ _ (dX hs k1 k2 (fI ho) ba rfl fun id hu=> .inl hu)):P:=h
theorem Cv{P:Prop}(h:P:=by exact⟨_,_,_,_,_,_,_,hK,by simp[hr], .inl rfl,h1,h2,h3,by simp⟩):P:=h
theorem H9{P:Prop}(h:P:=by simp only[a0,Array.size_append,Array.size_replicate];simp at hlen;omega):P:=h
theorem Cw{P:Prop}(h:P:=by cases xv<;>first|(simp[xn]at KY;done)|(cases yv<;>simp[he])):P:=h
theorem yK{P:Prop}(h:P:=by rw[gQ];simp only[gK,cE,ow];exact aj):P:=h
theorem Cy{P:Prop}(h:P:=by exact hN _ _ _ _ k3.2 (gz hs k1 k2 k3.1 ba rfl fun id hu=>hu)):P:=h
theorem yL{P:Prop}(h:P:=by simp at hl;obtain⟨rfl,rfl⟩:=hl;exact hK):P:=h
theorem yM{P:Prop}(h:P:=by simp at hj hy;subst hj;subst hy;exact aI):P:=h
theorem vB{P:Prop}(h:P:=by rw[if_neg e,if_neg (by omega)]):P:=h
theorem yN{P:Prop}(h:P:=by simp only[V.den,D.den]at qW;rw[qW]):P:=h
theorem Ia{P:Prop}(h:P:=by exact h3 e (Array.mem_toList_iff.1 he) hb):P:=h
theorem vC{P:Prop}(h:P:=by rw[hg];simp[bS,hv,e]):P:=h
theorem Cz{P:Prop}(h:P:=by exact a6.same hH _ h (by simp[execOp,dg,hr]) ⟨_,rfl,hv⟩):P:=h
theorem yO{P:Prop}(h:P:=by rw[kG];exact bd all _ aV):P:=h
theorem ox{P:Prop}(h:P:=by rw[l3];rfl):P:=h
theorem CA{P:Prop}(h:P:=by exact aJ t u hu (hQ _ s φ w (.iface t u) h hs ⟨u,rfl,hd⟩)):P:=h
theorem vE{P:Prop}(h:P:=by simp[binOp,oy hr]):P:=h
theorem yP{P:Prop}(h:P:=by exact⟨.ret,s',ao,hq,eM,trivial⟩):P:=h
theorem CB{P:Prop}(h:P:=by exact⟨e',yQ,Hq,hR,ComesIn.of_steps xo hs,s7,hl⟩):P:=h
theorem oz{P:Prop}(h:P:=by rw[hx];rfl):P:=h
theorem rY{P:Prop}(h:P:=by rw[hx];exact hk):P:=h
theorem yR{P:Prop}(h:P:=by rw[l4 i hi];exact congrArg some hb):P:=h
theorem yS{P:Prop}(h:P:=by unfold cK;exact Eq.trans rfl rfl):P:=h
theorem vF{P:Prop}(h:P:=by rw[KZ]at hl;simp at hl):P:=h
theorem vG{P:Prop}(h:P:=by subst hi;simp[Ne.symm h]):P:=h
theorem yT{P:Prop}(h:P:=by exact⟨.aJ _,s',ao,hq,eM,hm⟩):P:=h
theorem yU{P:Prop}(h:P:=by unfold rZ;exact Eq.trans rfl rfl):P:=h
theorem yV{P:Prop}(h:P:=by unfold eqGuard;cases op<;>simp):P:=h
theorem ke{P:Prop}(h:P:=by decide):P:=h
theorem yW{P:Prop}(h:P:=by simp[hj]at hr;exact⟨hr,rfl⟩):P:=h
theorem r8{P:Prop}(h:P:=by simpa using h2):P:=h
theorem yX{P:Prop}(h:P:=by simp at hj;subst hj;exact cR):P:=h
theorem vH{P:Prop}(h:P:=by simp[V.refs]):P:=h
theorem r9{P:Prop}(h:P:=by rw[h1];rfl):P:=h
theorem Ib{P:Prop}(h:P:=by exact⟨b,h4.trans h5,h6⟩):P:=h
theorem sa{P:Prop}(h:P:=by simp;omega):P:=h
theorem Ic{P:Prop}(h:P:=by obtain⟨a,b,c⟩:=hr id vH;obtain⟨h0,h1,h2⟩:=h;refine⟨h0,c,fun bZ=> ?_⟩;rw[a]at bZ;obtain⟨x,y,z⟩:=h2 bZ;exact⟨x,b.trans y,z⟩):P:=h
theorem Hr{P:Prop}(h:P:=by simp[Ef,Array.getD_eq_getD_getElem?,Array.getElem?_replicate]at dK;split at dK<;>simp at dK):P:=h
theorem Ie{P:Prop}(h:P:=by obtain⟨h0,h1,h2⟩:=h;refine⟨h0,hr.us id h1,fun bZ=> ?_⟩;obtain⟨h3,h4⟩:=hr.row id h1 bZ;obtain⟨b,h5,h6⟩:=h2 h3;exact Ib):P:=h
theorem Ig{P:Prop}(h:P:=by intro j hj;simp only[aE,h2,List.mem_map,List.mem_filter]at hj;obtain⟨e,⟨he,hb⟩,rfl⟩:=hj;exact Ia):P:=h
theorem K0{P:Prop}(h:P:=by obtain⟨h0,h1,h2⟩:=h;refine⟨h0,hr.us id h1,fun e' vq=> ?_⟩;obtain⟨e,g1,g2,g3⟩:=hr.ep id e' h1 vq;obtain⟨h3,h4⟩:=h2 e g1;refine⟨Nat.le_trans h3 g2,fun heq=> ?_⟩;rw[g3 (by omega)];exact h4 aN):P:=h
theorem Ih{P:Prop}(h:P:=by obtain⟨z,h1,h⟩:=dO h;simp only[Prod.mk.injEq]at h;obtain⟨rfl,rfl,rfl⟩:=h;exact Co):P:=h
theorem tl{P:Prop}(h:P:=by simp only[St.S,dQ]at this;exact this):P:=h
theorem yY{P:Prop}(h:P:=by simp only[Array.getD_eq_getD_getElem?];rw[Array.getElem?_setIfInBounds_ne (Ne.symm hi)]):P:=h
theorem CC{P:Prop}(h:P:=by simp only[Option.map_eq_some_iff]at h;obtain⟨d,h1,rfl⟩:=h;obtain⟨arr,rfl,g1,g2⟩:=hx;obtain⟨val,r1,r2⟩:=dp h1 g1 g2;exact fin (r1 w) r2):P:=h
theorem CD{P:Prop}(h:P:=by rw[show(⟨put o' [(fr, .arr 0 ty sz es)],fun id=>us id\/id=fr⟩:Hp).o fr=put o' [(fr, .arr 0 ty sz es)] fr from rfl,this]at he;injection he):P:=h
theorem CE{P:Prop}(h:P:=by simp only[hx]at h ho;injection h with h;subst h;simp only[aa.fz]at ho;simp only[au,ho]at aI;rw[hd (by rw[ho];rfl)];exact aI.den):P:=h
theorem CF{P:Prop}(h:P:=by obtain⟨h0,y,h1,h2,h3,h4⟩:=kR h;simp only[Prod.mk.injEq]at h4;obtain⟨rfl,rfl,rfl⟩:=h4;exact⟨h0,y,h1,h2,h3,hK⟩):P:=h
theorem CG{P:Prop}(h:P:=by obtain⟨h3,h4⟩:=hb _ cm h2;exact⟨by rw[World.cell?_of_block (w:=w) (w':=w') (a:=a.add j) (by simpa using h3)];exact h1,h4⟩):P:=h
theorem CH{P:Prop}(h:P:=by simp only[Option.map_eq_some_iff]at h;obtain⟨r,h1,rfl⟩:=h;obtain⟨g1,g2⟩:=yZ h1 hg (ae M φ H) w xv yv hx hy;exact H8):P:=h
theorem CI{P:Prop}(h:P:=by simp only[ha];obtain⟨z,h1,h⟩:=dO h;simp only[Prod.mk.injEq]at h;obtain⟨rfl,rfl,rfl⟩:=h;exact nm h1 hK):P:=h
theorem CJ{P:Prop}(h:P:=by simp only[hw,if_true];obtain⟨om,jq⟩:=oA tn (fun id aj=>Ii id (by rw[l4];exact aj)) y0 aI.2;exact H6):P:=h
theorem CK{P:Prop}(h:P:=by cases y<;>simp only[V.same,Bool.false_eq_true,Bool.and_eq_true]at h;rw[Nat.eq_of_beq_eq_true h.1,Nat.eq_of_beq_eq_true h.2]):P:=h
theorem CL{P:Prop}(h:P:=by rw[<- s8];refine dC hH (aS w _) cq _ _ Hs ?_;unfold au;simp only[aH,aq,if_true];exact H5):P:=h
theorem CM{P:Prop}(h:P:=by intro u hu;simp only[Array.toList_extract,List.extract]at hu;exact hf u (List.mem_of_mem_drop (List.mem_of_mem_take hu))):P:=h
theorem CN{P:Prop}(h:P:=by refine⟨hH,Trans.refl _ _ _, ?_,⟨[],rfl,List.nodup_nil,fun _=>rfl,fun r hr=>by cases hr⟩,oB hd⟩;exact H9):P:=h
theorem CO{P:Prop}(h:P:=by rw[e];obtain⟨k1,k2⟩:=eo (us':=qX (Array.replicate ops.size false)) hs.heap (fun id h=> .inl h);exact H7):P:=h
theorem y5{P:Prop}(h:P:=by simp only[aH,aq,h1,if_false];exact Ct):P:=h
theorem CP{P:Prop}(h:P:=by simp only[Option.some.injEq,Prod.mk.injEq]at h;obtain⟨rfl,rfl,rfl⟩:=h;simp only[ho];exact⟨_,hg,hK⟩):P:=h
theorem y6{P:Prop}(h:P:=by rw[show fr+(j+1)=fr+1+j by omega];exact this):P:=h
theorem CQ{P:Prop}(h:P:=by injection h with h;subst h;obtain⟨u,rfl,_⟩:=hy;simp only[V.den,D.den]at hx;subst hx;exact H4):P:=h
theorem CS{P:Prop}(h:P:=by injection h with h;subst h;obtain⟨u,rfl,_⟩:=hx;simp only[V.den,D.den]at hy;subst hy;exact H3):P:=h
theorem CT{P:Prop}(h:P:=by refine .inr (.inr (.inl ⟨ds,out,dh,hP,jk, ?_⟩));cases out<;>first|exact hK _ h|exact hX _ _ h):P:=h
theorem CU{P:Prop}(h:P:=by simp only[aa.fz]at ho;simp only[au,ho]at aI;rw[(hd ep (by rw[ho];rfl)).2 rfl];exact aI):P:=h
theorem CV{P:Prop}(h:P:=by simp only[au,ho]at aI;obtain⟨bk,es,clock,g1,_⟩:=aI;rw[<- cL]at g1;subst g1;exact KU):P:=h
theorem CW{P:Prop}(h:P:=by rw[Array.toList_append,Array.toList_append,Array.toList_map];exact V.il qY bR Ht):P:=h
theorem CX{P:Prop}(h:P:=by refine .inr (.inl ⟨ds,out,dh,hP,jk, ?_⟩);cases out<;>first|exact hK _ h|exact hX _ _ h):P:=h
theorem CY{P:Prop}(h:P:=by obtain⟨arr,rfl,g1,g2⟩:=hx;obtain⟨val,r1,r2⟩:=sb h g1 g2;exact fin r1 r2):P:=h
theorem CZ{P:Prop}(h:P:=by simp only[Array.getD_eq_getD_getElem?];rw[Array.getElem?_setIfInBounds_ne (Ne.symm h1)]):P:=h
theorem C0{P:Prop}(h:P:=by refine .inl ⟨ds,out,dh,hP, ?_⟩;cases out<;>first|exact hK _ h|exact hX _ _ h):P:=h
theorem C1{P:Prop}(h:P:=by simp only[Ef,Array.getD_eq_getD_getElem?,Array.getElem?_replicate];split<;>rfl):P:=h
theorem C2{P:Prop}(h:P:=by simp[H',aa.bz]at he;subst he;exact⟨Nat.le_refl _,fun _=>by simp[ao]⟩):P:=h
theorem C3{P:Prop}(h:P:=by rw[hm,dq (o:=s.o) fun id aj=>hr id (eZ _ id aj)];exact Bb):P:=h
theorem C4{P:Prop}(h:P:=by cases y<;>simp only[D.same,Bool.false_eq_true]at h;rw[D.bL aR _ h]):P:=h
theorem C5{P:Prop}(h:P:=by obtain⟨u,us,rfl,h1,_⟩:=h;simp at hd;subst hd;exact⟨u,aU,h1⟩):P:=h
theorem C6{P:Prop}(h:P:=by intro c hx;rw[Array.getD_eq_getD_getElem?,hx]at bw;simp at bw):P:=h
def jM(ops:Array Oper)(j:Nat):Option Tmp:=(ops[j]?).bind (·.dst)
structure aP where
 dst:Option Nat
 op:Op
 gd:Option (Nat×Bool):=none
instance:Inhabited aP:=⟨⟨none, .ready 0,none⟩⟩
def p6(n:Nat):Option Tmp->Bool
 |some d=>decide (d<n)
 |none=>true
def tp(n:Nat)(ops:Array Oper)(o:Oper):Option aP:=
 if p6 n o.dst=true then match o.guard with
  |none=>some ⟨o.dst,o.op,none⟩
  |some (j,want)=>match jM ops j with
   |some d=>some ⟨o.dst,o.op,some (d,want)⟩
   |none=>none
 else none
def eN(n:Nat)(ops:Array Oper):List Oper->Option (List aP)
 |[]=>some []
 |o::l=>match tp n ops o,eN n ops l with
  |some x,some xs=>some (x::xs)
  |_,_=>none
def tmpsOf(o:aP):List Nat:=(o.op.operands.toList.filterMap fun| .tmp t=>some t|_=>none)++(match o.gd with|some (d,_)=>[d]|none=>[])
def cF(o:aP):List Nat:=tmpsOf o++o.dst.toList
def aE(ops:Array Oper)(i:Nat):List Nat:=match ops[i]? with|some o=>(o.after.toList.filter (Region.binds .any)).map (·.on)|none=>[]
def aO(l:List aP)(i:Nat):aP:=l.getD i default
inductive IC where
 |skip|ab (l:List aP)|b9 (l:List aP) (pr:List (List Nat))|seq (a b:IC)|cond (c:Operand) (a b:IC)|block (id:Nat) (a:IC)|loop (a:IC)|exit (id:Nat)|ret|bad
 |tq (g:Operand) (ps:List Nat) (a b:IC)
 deriving Inhabited
inductive kf where
 |ret|exit (id:Nat)
def kf.code:kf->Code
 | .ret=> .ret
 | .exit id=> .exit id
def e7(acc:List Nat):List Nat->Nat
 |[]=>0
 |j::ps=>(2^j|||acc.getD j 0)|||e7 acc ps
def cj:List (List Nat)->List Nat->List Nat
 |[],acc=>acc
 |ps::l,acc=>cj l (acc++[e7 acc ps])
def jr(x y:aP):Bool:=match x.dst with|some d=> !(cF y).contains d|none=>true
def nn(l:List aP)(pr:List (List Nat)):Bool:=
 (List.range l.length).all fun j=>(List.range j).all fun i=>((cj pr []).getD j 0).testBit i||(jr (aO l i) (aO l j)&&jr (aO l j) (aO l i))
def gH(xs ys:List Nat):Bool:=xs.all fun x=> !ys.contains x
def e8(pr:List (List Nat))(fp:List (List Nat×List Nat)):Bool:=
 (List.range fp.length).all fun j=>(List.range j).all fun i=>((cj pr []).getD j 0).testBit i||
  (gH (fp.getD i ([],[])).2 (fp.getD j ([],[])).1&&gH (fp.getD i ([],[])).2 (fp.getD j ([],[])).2&&gH (fp.getD j ([],[])).2 (fp.getD i ([],[])).1)
def c5(ops:Array Oper):List (List Nat):=(List.range ops.size).map (aE ops)
def y7(pr:List (List Nat)):Bool:=(List.range pr.length).all fun k=>(pr.getD k []).all fun j=>decide (j<k)
theorem kS{acc:List Nat}{i:Nat}:∀ (ps:List Nat),(e7 acc ps).testBit i=true->∃j∈ps,i=j\/(acc.getD j 0).testBit i=true
 |[],h=>by simp[e7]at h
 |j::ps,h=>by
  simp only[e7,Nat.testBit_or,Bool.or_eq_true]at h
  rcases h with(h|h)|h
  ·rw[Nat.testBit_two_pow]at h
   exact⟨j,aU, .inl (by have h:=of_decide_eq_true h;exact h.symm)⟩
  ·exact⟨j,aU, .inr h⟩
  ·obtain⟨j',h1,h2⟩:=kS ps h
   exact⟨j',by simp[h1],h2⟩
theorem js{k:Nat}:∀ (l:List (List Nat)) (acc:List Nat),k<acc.length->(cj l acc).getD k 0=acc.getD k 0
 |[],_,_=>rfl
 |ps::l,acc,h=>by
  rw[cj,js l _ (by simp;omega)]
  simp[List.getD_eq_getElem?_getD,List.getElem?_append_left h]
theorem jt{i:Nat}:∀ (l:List (List Nat)) (acc:List Nat) (k:Nat),acc.length<=k->(∀k',k'<l.length->∀j∈l.getD k' [],j<acc.length+k')->((cj l acc).getD k 0).testBit i=true->
 ∃j∈l.getD (k - acc.length) [],i=j\/((cj l acc).getD j 0).testBit i=true
 |[],acc,k,hk,_,h=>by
  simp only[cj]at h
  rw[List.getD_eq_getElem?_getD,List.getElem?_eq_none hk]at h
  simp at h
 |ps::l,acc,k,hk,hp,h=>by
  simp only[cj]at h|-
  by_cases he:k=acc.length
  ·subst he
   rw[js l _ (by simp)]at h
   have e:(acc++[e7 acc ps]).getD acc.length 0=e7 acc ps:=by simp[List.getD_eq_getElem?_getD]
   rw[e]at h
   obtain⟨j,h1,h2⟩:=kS ps h
   refine⟨j,by simpa using h1,h2.imp id fun h2=> ?_⟩
   have hj:j<acc.length:=by simpa using hp 0 aU j (by simpa using h1)
   rw[js l _ (by simp;omega)]
   simpa[List.getD_eq_getElem?_getD,List.getElem?_append_left hj]using h2
  ·obtain⟨j,h1,h2⟩:=jt l (acc++[e7 acc ps]) k sa (fun k' Hu j hj=>by
    have:=hp (k'+1) sa j fG
    simp;omega) h
   refine⟨j, ?_,h2⟩
   have e:k - acc.length=(k - (acc++[e7 acc ps]).length)+1:=by simp;omega
   rw[e];simpa using h1
theorem im{pr:List (List Nat)}(hp:∀k,k<pr.length->∀j∈pr.getD k [],j<k){E:Nat->Bool}(hE:∀k,k<pr.length->E k=true->∀j∈pr.getD k [],E j=true):
 ∀k,k<pr.length->(∀j∈pr.getD k [],E j=true)->∀i,((cj pr []).getD k 0).testBit i=true->E i=true:=by
 intro k
 induction k using Nat.strongRecOn with
 |ind k ih=>
  intro hk hj i hi
  obtain⟨j,h1,h2⟩:=jt pr [] k aU (fun k' Hu j hj=>by simpa using hp k' Hu j hj) hi
  simp only[List.length_nil,Nat.sub_zero]at h1
  rcases h2 with rfl|h2
  ·exact hj _ h1
  ·have C7:=hp k hk j h1
   exact ih j C7 aN (hE j aN (hj j h1)) i h2
theorem oC{pr:List (List Nat)}(hp:∀k,k<pr.length->∀j∈pr.getD k [],j<k):∀k,k<pr.length->∀i,((cj pr []).getD k 0).testBit i=true->i<k:=by
 intro k
 induction k using Nat.strongRecOn with
 |ind k ih=>
  intro hk i hi
  obtain⟨j,h1,h2⟩:=jt pr [] k aU (fun k' Hu j hj=>by simpa using hp k' Hu j hj) hi
  simp only[List.length_nil,Nat.sub_zero]at h1
  have C7:=hp k hk j h1
  rcases h2 with rfl|h2
  ·exact C7
  ·have:=ih j C7 aN i h2;omega
def low(n:Nat):Code->IC
 | .skip=> .skip
 | .label _=> .skip
 | .scope c=>low n c
 | .region _ ops false=>match eN n ops ops.toList with
   |some l=> .ab l
   |none=> .bad
 | .region _ ops true=>match eN n ops ops.toList with
   |some l=>if nn l (c5 ops)&&y7 (c5 ops)then .b9 l (c5 ops)else .bad
   |none=> .bad
 | .seq a b=> .seq (low n a) (low n b)
 | .cond c a b=> .cond c (low n a) (low n b)
 | .block id a=> .block id (low n a)
 | .loop a=> .loop (low n a)
 | .exit id=> .exit id
 | .ret=> .ret
 | .rangeFunc g ps a b=> .tq g ps.toList (low n a) (low n b)
 |_=> .bad
section
inductive D where
 |int (k:IntKind) (n:Int)|bool (b:Bool)|str (s:List UInt8)
 |dk|fD|e9|ej
 |agg (cs:List D)|sl (es:List D)|iface (t:TypeId) (d:D)
 |mp (ks vs:List D)
 deriving Inhabited
def Flat(vs:List Value):Prop:=∀u∈vs,u.oneCell'=true
def c6(B:Nat->Prop)(w:World)(a:Addr)(cs:Array Value):Prop:=∀j u,cs[j]? =some u->w.cell? (a.add j)=some u/\ ¬B a.block
def dD(es:Array MapEntry)(clock:Nat):Prop:=(∀e∈es.toList,e.born<clock)/\(es.toList.map (·.born)).Nodup
def np(ks:List D):Prop:=ks.Nodup/\∀k∈ks,∃n,k= .int .i64 n
mutual
def D.den (B:Nat->Prop)(w:World):D->Value->Prop
 | .int k n,v=>v= .int k n
 | .bool b,v=>v= .bool b
 | .str l,v=>∃s:ByteArray,v= .string s/\s.data.toList=l
 | .dk,v=>v= .nilIface
 | .fD,v=>v= .pointer none
 | .e9,v=>v= .nilFunc
 | .ej,v=>v= .map none
 | .agg cs,v=>∃a,v= .agg a/\D.ai B w cs a.toList/\Flat a.toList
 | .sl es,v=>∃base len cap,v= .slice base len cap/\len=es.length/\len<=cap/\(base=none->cap=0)/\
  ∃sz,∀a,base=some a->(cap≠0->a.spot=none)/\D.elems B w sz a 0 es
 | .iface t d,v=>∃u,v= .iface t u/\D.den B w d u
 | .mp ks vs,v=>∃m es clock p,v= .map (some m)/\w.heap[m]? =some (.map es clock)/\ ¬B m/\dD es clock/\(p=es.toList\/(p.Perm es.toList/\np ks))/\D.ai B w ks (p.map (·.key))/\D.ai B w vs (p.map (·.val))
def D.ai (B:Nat->Prop)(w:World):List D->List Value->Prop
 |[],vs=>vs=[]
 |d::ds,vs=>∃u us,vs=u::us/\D.den B w d u/\D.ai B w ds us
def D.elems (B:Nat->Prop)(w:World)(sz:Nat)(a:Addr):Nat->List D->Prop
 |_,[]=>True
 |i,e::es=>(∃ev:Value,ev.cells.size=sz/\c6 B w (a.add (i*sz)) ev.cells/\D.den B w e ev)/\D.elems B w sz a (i+1) es
end
inductive V where
 |d (x:D)|cG|agg (cs:List V)|a7 (vs:List V)
 |ptr (id off:Nat)|osl (id ep:Nat)|pe (id ep i sz off:Nat)|pp (cs:List D) (off:Nat)
 |func (fn:Fn) (first cap:List V)|iface (t:TypeId) (x:V)
 |bT
 |jN (es:List D)|oo (id off n:Nat)|mp (id:Nat)|c7|jl (id:Nat)
 deriving Inhabited
inductive aa where
 |no|row (cs:List V)|arr (ep:Nat) (ty:TypeId) (sz:Nat) (es:List D)|l5 (ep:Nat) (es:List D)
 |map (kt vt:TypeId) (es:List (D×D))
 |loop (nf n:Nat) (env:List V) (ps:List Nat) (a b:IC) (st:LoopState) (sc:Option kf)
 |dm (es:List (D×D))|l8 (es:List (D×D)) (last:Option (D×D))|pX (s:List UInt8) (pos:Nat)
 deriving Inhabited
def gS(l:List V):Nat->V:=fun i=>l.getD i .bT
structure Hp where
 o:Nat->aa
 us:Nat->Prop
def aa.bz:aa->Option Nat
 | .arr ep _ _ _| .l5 ep _=>some ep
 |_=>none
def aa.aY:aa->Bool
 | .row _| .map .. | .loop .. | .dm _| .l8 .. | .pX .. =>true
 |_=>false
def aa.live:aa->Bool
 | .row _| .arr .. | .map .. | .loop .. | .l8 .. | .pX .. =>true
 |_=>false
def cM:Value->Option Nat
 | .pointer (some a)| .slice (some a) _ _=>some a.block
 | .map (some b)=>some b
 |_=>none
abbrev Place:=Nat->Value
def b4(φ:Place)(H:Hp)(b:Nat):Prop:=∃id,(H.o id).live=true/\cM (φ id)=some b
def ae(M:Nat->Prop)(φ:Place)(H:Hp)(b:Nat):Prop:=M b\/b4 φ H b
mutual
def V.den (B:Nat->Prop)(φ:Place)(H:Hp)(w:World):V->Value->Prop
 | .d x,v=>D.den B w x v
 | .cG,v=>v= .slice none 0 0
 | .agg cs,v=>∃a,v= .agg a/\V.ai B φ H w cs a.toList/\Flat a.toList
 | .a7 vs,v=>∃a,v= .tuple a/\V.ai B φ H w vs a.toList
 | .ptr id off,v=>v.oneCell'=true/\H.us id/\((H.o id).aY=true->∃b,φ id= .pointer (some ⟨b,0,none⟩)/\v= .pointer (some ⟨b,off,none⟩))
 | .osl id ep,v=>v.oneCell'=true/\H.us id/\∀e,(H.o id).bz=some e->ep<=e/\(ep=e->v=φ id)
 | .pe id ep i sz off,v=>v.oneCell'=true/\H.us id/\∀e,(H.o id).bz=some e->ep<=e/\(ep=e->∃b n c,φ id= .slice (some ⟨b,0,none⟩) n c/\v= .pointer (some ⟨b,i*sz+off,none⟩))
 | .pp cs off,v=>∃a ev,a.spot=none/\v= .pointer (some (a.add off))/\D.ai B w cs ev/\Flat ev/\c6 B w a ev.toArray
 | .func fn first cap,v=>∃f c,v= .func fn f c/\V.ai B φ H w first f.toList/\V.ai B φ H w cap c.toList
 | .iface t x,v=>∃u,v= .iface t u/\V.den B φ H w x u
 | .bT,_=>True
 | .jN es,v=>D.den B w (.sl es) v/\∃base n,v= .slice base n n
 | .oo id off n,v=>v.oneCell'=true/\H.us id/\((H.o id).aY=true->∃b,φ id= .pointer (some ⟨b,0,none⟩)/\v= .slice (some ⟨b,off,none⟩) n n)
 | .mp id,v=>v.oneCell'=true/\H.us id/\((H.o id).aY=true->v=φ id)
 | .c7,v=>∃b,v= .bool b
 | .jl id,v=>v.oneCell'=true/\H.us id/\((H.o id).aY=true->∃b,φ id= .pointer (some ⟨b,0,none⟩)/\v= .func (.yield b) #[] #[])
def V.ai (B:Nat->Prop)(φ:Place)(H:Hp)(w:World):List V->List Value->Prop
 |[],vs=>vs=[]
 |x::xs,vs=>∃u us,vs=u::us/\V.den B φ H w x u/\V.ai B φ H w xs us
end
def cu(B:Nat->Prop)(w:World)(sz:Nat)(es:List D)(xs:List Value):Prop:=
 ∃evs:List Value,xs=evs.flatMap (·.cells.toList)/\(∀ev∈evs,ev.cells.size=sz)/\D.ai B w es evs
def ak(B:Nat->Prop)(w:World):List (D×D)->List MapEntry->Prop
 |[],es=>es=[]
 |(k,x)::l,es=>∃e es',es=e::es'/\D.den B w k e.key/\D.den B w x e.val/\ak B w l es'
def nq(B:Nat->Prop)(w:World)(l:List (D×D))(last:Option (D×D))(b:Nat):Prop:=
 w.heap[b]? =some (.mapIter none 0 #[] 0)/\l=[]/\last=none\/
 ∃m since seen es,w.heap[b]? =some (.mapIter (some m) since seen since)/\w.heap[m]? =some (.map es since)/\ ¬B m/\dD es since/\(∃l',l'.Perm l/\ak B w l' (es.toList.filter fun e=> !seen.contains e.born))/\
  ∀k x,last=some (k,x)->∃e∈es.toList,seen.back?=some e.born/\D.den B w k e.key/\D.den B w x e.val
def fJ(B:Nat->Prop)(w:World)(l:List (D×D))(v:Value):Prop:=
 ∃b es clock,v= .map (some b)/\w.heap[b]? =some (.map es clock)/\ ¬B b/\dD es clock/\ak B w l es.toList
def au(M:Nat->Prop)(φ:Place)(H:Hp)(w:World)(id:Nat):Prop:=
 match H.o id with
 | .no=>True
 | .row cs=>∃b cw ty,φ id= .pointer (some ⟨b,0,none⟩)/\w.heap[b]? =some (.cells cw ty (0,0))/\V.ai (ae M φ H) φ H w cs cw.toList/\Flat cw.toList
 | .arr _ ty sz es=>0<sz/\∃xs,w.ownsRow 0 ty sz (φ id) es.length xs/\cu (ae M φ H) w sz es xs
 | .l5 _ es=>D.den (ae M φ H) w (.sl es) (φ id)
 | .loop nf n env ps gU eY st sc=>∃b r,φ id= .pointer (some ⟨b,0,none⟩)/\w.heap[b]? =some (.loop r)/\r.fn<nf/\r.state=st/\r.pending=sc.map kf.code/\r.params.toList=ps/\r.tmps.size=n/\low n r.assign=gU/\low n r.body=eY/\
  ∀i,V.den (ae M φ H) φ H w (gS env i) (r.tmps.getD i undef)
 | .map _ _ l=>∃b es clock,φ id= .map (some b)/\w.heap[b]? =some (.map es clock)/\dD es clock/\ak (ae M φ H) w l es.toList
 | .dm l=>fJ (ae M φ H) w l (φ id)
 | .l8 l last=>∃b,φ id= .pointer (some ⟨b,0,none⟩)/\nq (ae M φ H) w l last b
 | .pX s pos=>∃b,φ id= .pointer (some ⟨b,0,none⟩)/\w.heap[b]? =some (.stringIter ⟨⟨s⟩⟩ pos)
structure ag (M:Nat->Prop) (φ:Place) (H:Hp) (w:World):Prop where
 ok:∀id,au M φ H w id
 fresh:∀id, ¬H.us id->H.o id= .no
 apart:∀i j b,(H.o i).live=true->(H.o j).live=true->cM (φ i)=some b->cM (φ j)=some b->i=j
 ours:∀b,b4 φ H b-> ¬M b/\b<w.heap.size
 pY:∀b,M b->b<w.heap.size
structure cc (m:Nat->Prop) (w w':World):Prop where
 os:w'.os=w.os
 tape:w'.tape=w.tape
 output:w'.output=w.output
 size:w.heap.size<=w'.heap.size
 block:∀k,k<w.heap.size-> ¬m k->w'.heap[k]? =w.heap[k]?
structure bU (φ:Place) (H:Hp) (ao:Place) (H':Hp):Prop where
 us:∀id,H.us id->H'.us id
 row:∀id,H.us id->(H'.o id).aY=true->(H.o id).aY=true/\ao id=φ id
 ep:∀id e',H.us id->(H'.o id).bz=some e'->∃e,(H.o id).bz=some e/\e<=e'/\(e=e'->ao id=φ id)
structure Trans (φ:Place) (H:Hp) (w:World) (ao:Place) (H':Hp) (w':World):Prop where
 keep:cc (b4 φ H) w w'
 grow:∀b,b4 ao H' b->b4 φ H b\/w.heap.size<=b
 rel:bU φ H ao H'
theorem cc.refl (m:Nat->Prop)(w:World):cc m w w:=⟨rfl,rfl,rfl,Nat.le_refl _,fun _ _ _=>rfl⟩
theorem bU.refl (φ:Place)(H:Hp):bU φ H φ H:=⟨fun _ h=>h,fun _ _ h=>⟨h,rfl⟩,fun _ e' _ h=>⟨e',h,Nat.le_refl _,fun _=>rfl⟩⟩
theorem Trans.refl (φ:Place)(H:Hp)(w:World):Trans φ H w φ H w:=⟨cc.refl _ _,fun _ h=> .inl h,bU.refl _ _⟩
theorem bU.trans {φ ao tt:Place}{H H' C8:Hp}(h:bU φ H ao H')(k:bU ao H' tt C8):bU φ H tt C8 where
 us id aj:=k.us id (h.us id aj)
 row id aj hr:=by
  obtain⟨a,b⟩:=k.row id (h.us id aj) hr
  obtain⟨c,d⟩:=h.row id aj a
  exact⟨c,b.trans d⟩
 ep id e' aj he:=by
  obtain⟨e,h1,h2,h3⟩:=k.ep id e' (h.us id aj) he
  obtain⟨e0,g1,g2,g3⟩:=h.ep id e aj h1
  refine⟨e0,g1,Nat.le_trans g2 h2,fun heq=> ?_⟩
  have a:e0=e:=aN
  have b:e=e':=aN
  exact(h3 b).trans (g3 a)
theorem Trans.trans {φ ao tt:Place}{H H' C8:Hp}{w w' yQ:World}(h:Trans φ H w ao H' w')(k:Trans ao H' w' tt C8 yQ):Trans φ H w tt C8 yQ where
 keep:={
  os:=k.keep.os.trans h.keep.os
  tape:=k.keep.tape.trans h.keep.tape
  output:=k.keep.output.trans h.keep.output
  size:=Nat.le_trans h.keep.size k.keep.size
  block:=fun b hb hm=>by
   rw[k.keep.block b (Nat.lt_of_lt_of_le hb h.keep.size) (fun hl=>by
    rcases h.grow b hl with h1|h1
    ·exact hm h1
    ·omega),h.keep.block b hb hm]}
 grow b hl:=by
  rcases k.grow b hl with h1|h1
  ·exact h.grow b h1
  ·exact .inr (Nat.le_trans h.keep.size h1)
 rel:=h.rel.trans k.rel
@[simp] theorem Bc (a:Addr) (j:Nat):(a.add j).block=a.block:=by unfold Addr.add;split<;>rfl
def iq(w:World)(b:Nat):Prop:=∃cs ty fz,w.heap[b]? =some (.cells cs ty fz)
def bb(w:World)(b:Nat):Prop:=iq w b\/∃es clock,w.heap[b]? =some (.map es clock)
theorem bb.lt {w:World}{b:Nat}(h:bb w b):b<w.heap.size:=by
 rcases Nat.lt_or_ge b w.heap.size with hl|hl
 ·exact hl
 ·rcases h with⟨cs,ty,fz,h⟩|⟨es,clock,h⟩
  ·rw[Array.getElem?_eq_none hl]at h;cases h
  ·rw[Array.getElem?_eq_none hl]at h;cases h
theorem gL{w:World}{a:Addr}{u:Value}(h:w.cell? a=some u):iq w a.block:=by
 unfold World.cell? at h
 split at h
 ·exact⟨_,_,_,by assumption⟩
 ·cases h
theorem ki{w:World}{a:Addr}{u:Value}(h:w.cell? a=some u):bb w a.block:= .inl (gL h)
theorem c6.mono {B B':Nat->Prop}{w w':World}{a:Addr}{cs:Array Value}
 (hb:∀b,bb w b-> ¬B b->w'.heap[b]? =w.heap[b]? /\ ¬B' b) (h:c6 B w a cs):c6 B' w' a cs:=by
 intro j u hj
 obtain⟨h1,h2⟩:=h j u hj
 have cm:bb w a.block:=by simpa using ki h1
 exact CG
mutual
theorem D.ax {B B':Nat->Prop}{w w':World}(hb:∀b,bb w b-> ¬B b->w'.heap[b]? =w.heap[b]? /\ ¬B' b):
 ∀ (x:D) (v:Value),D.den B w x v->D.den B' w' x v
 | .int _ _,_,h| .bool _,_,h| .str _,_,h| .dk,_,h| .fD,_,h| .e9,_,h| .ej,_,h=>by simpa[D.den]using h
 | .agg cs,_,h=>by
   obtain⟨a,rfl,h,hf⟩:=h
   exact⟨a,rfl,D.aw hb cs _ h,hf⟩
 | .sl es,_,h=>by
   obtain⟨base,len,cap,rfl,h1,h2,h3,sz,h4⟩:=h
   exact⟨base,len,cap,rfl,h1,h2,h3,sz,fun a ha=>⟨(h4 a ha).1,D.kT hb sz a es 0 (h4 a ha).2⟩⟩
 | .iface t d,_,h=>by
   obtain⟨u,rfl,h⟩:=h
   exact⟨u,rfl,D.ax hb d u h⟩
 | .mp ks vs,_,h=>by
   obtain⟨m,es,clock,p,rfl,h1,h2,h3,hp,h4,h5⟩:=h
   obtain⟨k1,k2⟩:=hb m (.inr ⟨es,clock,h1⟩) h2
   exact⟨m,es,clock,p,rfl,k1.trans h1,k2,h3,hp,D.aw hb ks _ h4,D.aw hb vs _ h5⟩
theorem D.aw {B B':Nat->Prop}{w w':World}(hb:∀b,bb w b-> ¬B b->w'.heap[b]? =w.heap[b]? /\ ¬B' b):
 ∀ (ds:List D) (vs:List Value),D.ai B w ds vs->D.ai B' w' ds vs
 |[],_,h=>h
 |d::ds,_,h=>by
  obtain⟨u,us,rfl,h1,h2⟩:=h
  exact⟨u,us,rfl,D.ax hb d u h1,D.aw hb ds us h2⟩
theorem D.kT {B B':Nat->Prop}{w w':World}(hb:∀b,bb w b-> ¬B b->w'.heap[b]? =w.heap[b]? /\ ¬B' b)(sz:Nat)(a:Addr):
 ∀ (es:List D) (i:Nat),D.elems B w sz a i es->D.elems B' w' sz a i es
 |[],_,_=>trivial
 |e::es,i,h=>by
  obtain⟨⟨ev,h1,h2,h3⟩,h4⟩:=h
  exact⟨⟨ev,h1,h2.mono hb,D.ax hb e ev h3⟩,D.kT hb sz a es (i+1) h4⟩
end
theorem ak.mono {B B':Nat->Prop}{w w':World}(hb:∀b,bb w b-> ¬B b->w'.heap[b]? =w.heap[b]? /\ ¬B' b):
 ∀ (l:List (D×D)) (es:List MapEntry),ak B w l es->ak B' w' l es
 |[],_,h=>h
 |(k,x)::l,_,h=>by
  obtain⟨e,es,rfl,h1,h2,h3⟩:=h
  exact⟨e,es,rfl,D.ax hb k _ h1,D.ax hb x _ h2,ak.mono hb l es h3⟩
theorem nq.mono {B B':Nat->Prop}{w w':World}(hb:∀b,bb w b-> ¬B b->w'.heap[b]? =w.heap[b]? /\ ¬B' b){l:List (D×D)}{last:Option (D×D)}{b:Nat}(K1:w'.heap[b]? =w.heap[b]?)(h:nq B w l last b):nq B' w' l last b:=by
 rcases h with⟨h1,h2⟩|⟨m,since,seen,es,h1,h2,h3,h4,h5,h6⟩
 ·exact .inl ⟨K1.trans h1,h2⟩
 ·obtain⟨k1,k2⟩:=hb m (.inr ⟨es,since,h2⟩) h3
  obtain⟨l',h5,Mb⟩:=h5
  refine .inr ⟨m,since,seen,es,K1.trans h1,k1.trans h2,k2,h4,⟨l',h5,ak.mono hb l' _ Mb⟩,fun k x e=> ?_⟩
  obtain⟨e,g1,g2,g3,g4⟩:=h6 k x e
  exact⟨e,g1,g2,D.ax hb k _ g3,D.ax hb x _ g4⟩
theorem eO{B:Nat->Prop}{w:World}:∀ (l:List (D×D)) (es:List MapEntry),ak B w l es↔D.ai B w (l.map (·.1)) (es.map (·.key))/\D.ai B w (l.map (·.2)) (es.map (·.val))
 |[],es=>by
  simp only[ak,List.map_nil,D.ai]
  constructor
  ·rintro rfl;exact⟨rfl,rfl⟩
  ·rintro⟨h,_⟩;simpa using h
 |(k,x)::l,es=>by
  simp only[ak,List.map_cons,D.ai]
  constructor
  ·rintro⟨e,es',rfl,h1,h2,h3⟩
   obtain⟨g1,g2⟩:=(eO l es').1 h3
   exact⟨⟨_,_,rfl,h1,g1⟩,⟨_,_,rfl,h2,g2⟩⟩
  ·rintro⟨⟨u,us,h1,h2,h3⟩,⟨v,vs,h4,h5,h6⟩⟩
   cases es with
   |nil=>simp at h1
   |cons e es'=>
    simp only[List.map_cons,List.cons.injEq]at h1 h4
    obtain⟨rfl,rfl⟩:=h1
    obtain⟨rfl,rfl⟩:=h4
    exact⟨e,es',rfl,h2,h5,(eO l es').2 ⟨h3,h6⟩⟩
theorem fJ.den {B:Nat->Prop}{w:World}{l:List (D×D)}{v:Value}(h:fJ B w l v):D.den B w (.mp (l.map (·.1)) (l.map (·.2))) v:=by
 obtain⟨b,es,clock,h1,h2,h3,h4,h5⟩:=h
 obtain⟨h6,h7⟩:=(eO _ _).1 h5
 exact⟨b,es,clock,es.toList,h1,h2,h3,h4, .inl rfl,h6,h7⟩
theorem fJ.mono {B B':Nat->Prop}{w w':World}(hb:∀b,bb w b-> ¬B b->w'.heap[b]? =w.heap[b]? /\ ¬B' b){l:List (D×D)}{v:Value}(h:fJ B w l v):fJ B' w' l v:=by
 obtain⟨b,es,clock,h1,h2,h3,h4,h5⟩:=h
 obtain⟨k1,k2⟩:=hb b (.inr ⟨es,clock,h2⟩) h3
 exact⟨b,es,clock,h1,k1.trans h2,k2,h4,ak.mono hb l _ h5⟩
theorem D.ah {B:Nat->Prop}{w:World}:∀ (ds:List D) (vs:List Value),D.ai B w ds vs->vs.length=ds.length
 |[],_,h=>by simp[D.ai]at h;simp[h]
 |d::ds,_,h=>by obtain⟨u,us,rfl,_,h2⟩:=h;simp[D.ah ds us h2]
theorem D.bA {B:Nat->Prop}{w:World}:∀ (ds:List D) (vs:List Value) (i:Nat) (d:D),D.ai B w ds vs->ds[i]? =some d->∃v,vs[i]? =some v/\D.den B w d v
 |[],_,_,_,_,hd=>by simp at hd
 |d::ds,_,0,x,h,hd=>by
  exact C5
 |d::ds,_,i+1,x,h,hd=>by
  obtain⟨u,us,rfl,_,h2⟩:=h
  simpa using D.bA ds us i x h2 (by simpa using hd)
theorem D.mn {B:Nat->Prop}{w:World}{sz:Nat}{a:Addr}:∀ (es:List D) (i j:Nat) (e:D),D.elems B w sz a i es->es[j]? =some e->
 ∃ev:Value,ev.cells.size=sz/\c6 B w (a.add ((i+j)*sz)) ev.cells/\D.den B w e ev
 |[],_,_,_,_,hd=>by simp at hd
 |e::es,i,0,x,h,hd=>by
  simp at hd;subst hd;simpa using h.1
 |e::es,i,j+1,x,h,hd=>by
  have:=D.mn es (i+1) j x h.2 (by simpa using hd)
  simpa[Nat.add_assoc,Nat.add_comm 1 j]using this
section
variable {M:Nat->Prop}{φ ao:Place}{H H':Hp}{w w':World}
theorem Trans.blocks (ht:Trans φ H w ao H' w')(b:Nat)(hc:bb w b)(h: ¬ae M φ H b):w'.heap[b]? =w.heap[b]? /\ ¬ae M ao H' b:=by
 have hb:=hc.lt
 refine⟨ht.keep.block b hb fun hl=>h (.inr hl), ?_⟩
 rintro(h1|h1)
 ·exact h (.inl h1)
 ·rcases ht.grow b h1 with h2|h2
  ·exact h (.inr h2)
  ·omega
mutual
theorem V.eP (hb:∀b,bb w b-> ¬ae M φ H b->w'.heap[b]? =w.heap[b]? /\ ¬ae M ao H' b)(hr:bU φ H ao H'):∀ (x:V) (v:Value),V.den (ae M φ H) φ H w x v->V.den (ae M ao H') ao H' w' x v
 | .d x,v,h=>D.ax hb x v h
 | .cG,_,h=>h
 | .bT,_,_=>trivial
 | .jN es,v,h=>⟨D.ax hb (.sl es) v h.1,h.2⟩
 | .oo id off n,v,h=>by
   exact Ie
 | .mp id,v,h=>by
   obtain⟨h0,h1,h2⟩:=h
   refine⟨h0,hr.us id h1,fun bZ=> ?_⟩
   obtain⟨h3,h4⟩:=hr.row id h1 bZ
   exact(h2 h3).trans h4.symm
 | .c7,v,h=>h
 | .jl id,v,h=>by
   exact Ie
 | .agg cs,_,h=>by obtain⟨a,rfl,h,hf⟩:=h;exact⟨a,rfl,V.cS hb hr cs _ h,hf⟩
 | .a7 cs,_,h=>by obtain⟨a,rfl,h⟩:=h;exact⟨a,rfl,V.cS hb hr cs _ h⟩
 | .ptr id off,v,h=>by
   exact Ie
 | .osl id ep,v,h=>by
   exact K0
 | .pe id ep i sz off,v,h=>by
   exact K0
 | .pp cs off,v,h=>by
   obtain⟨a,ev,h1,h2,h3,h5,h4⟩:=h
   exact⟨a,ev,h1,h2,D.aw hb cs ev h3,h5,h4.mono hb⟩
 | .func fn first cap,_,h=>by
   obtain⟨f,c,rfl,h1,h2⟩:=h
   exact⟨f,c,rfl,V.cS hb hr first _ h1,V.cS hb hr cap _ h2⟩
 | .iface t x,_,h=>by obtain⟨u,rfl,h⟩:=h;exact⟨u,rfl,V.eP hb hr x u h⟩
theorem V.cS (hb:∀b,bb w b-> ¬ae M φ H b->w'.heap[b]? =w.heap[b]? /\ ¬ae M ao H' b)(hr:bU φ H ao H'):∀ (ds:List V) (vs:List Value),V.ai (ae M φ H) φ H w ds vs->V.ai (ae M ao H') ao H' w' ds vs
 |[],_,h=>h
 |x::xs,_,h=>by
  obtain⟨u,us,rfl,h1,h2⟩:=h
  exact⟨u,us,rfl,V.eP hb hr x u h1,V.cS hb hr xs us h2⟩
end
theorem V.ax (ht:Trans φ H w ao H' w')(x:V)(v:Value)(h:V.den (ae M φ H) φ H w x v):V.den (ae M ao H') ao H' w' x v:=V.eP ht.blocks ht.rel x v h
theorem V.aw (ht:Trans φ H w ao H' w')(ds:List V)(vs:List Value)(h:V.ai (ae M φ H) φ H w ds vs):V.ai (ae M ao H') ao H' w' ds vs:=V.cS ht.blocks ht.rel ds vs h
end
end
def cn{α:Type}(f:Nat->α)(i:Nat)(x:α):Nat->α:=fun j=>if j=i then x else f j
@[simp] theorem aq {α:Type} (f:Nat->α) (i:Nat) (x:α) (j:Nat):cn f i x j=if j=i then x else f j:=rfl
structure S where
 env:Nat->V
 o:Nat->aa
 nx:Nat
def S.H (s:S):Hp:=⟨s.o,fun id=>id<s.nx⟩
def V.bB:Value->V
 | .int k n=> .d (.int k n)| .bool b=> .d (.bool b)| .string s=> .d (.str s.data.toList)
 | .nilIface=> .d .dk| .pointer none=> .d .fD| .nilFunc=> .d .e9| .map none=> .d .ej
 | .slice none 0 0=> .cG
 |_=> .bT
def p7:List V->Option (List D)
 |[]=>some []
 | .d x::vs=>(p7 vs).map (x::·)
 |_::_=>none
def ir(cs:List V):V:=match p7 cs with|some ds=> .d (.agg ds)|none=> .agg cs
def V.ofConst:Value->V
 | .agg a=>if a.toList.all Value.oneCell' then ir (a.toList.map V.bB)else .bT
 |v=>V.bB v
def S.ev (s:S):Operand->V
 | .tmp t=>s.env t
 | .const v=>V.ofConst v
 | .func f=> .func (.func f) [] []
 | .global _=> .bT
def D.cells:D->List D
 | .agg cs=>cs
 |x=>[x]
def V.cells:V->Option (List V)
 | .d x=>some (x.cells.map .d)
 | .agg cs=>some cs
 | .a7 _| .bT=>none
 |v=>some [v]
mutual
def cN(o:Nat->aa):V->Option D
 | .d x=>some x
 | .cG=>some (.sl [])
 | .jN es=>some (.sl es)
 | .osl id ep=>match o id with
   | .arr dL _ _ es| .l5 dL es=>if ep=dL then some (.sl es)else none
   |_=>none
 | .mp id=>match o id with
   | .map _ _ l=>some (.mp (l.map (·.1)) (l.map (·.2)))
   | .dm l=>some (.mp (l.map (·.1)) (l.map (·.2)))
   |_=>none
 | .agg cs=>(aT o cs).map .agg
 | .iface t x=>(cN o x).map (.iface t)
 |_=>none
def aT(o:Nat->aa):List V->Option (List D)
 |[]=>some []
 |v::vs=>(cN o v).bind fun x=>(aT o vs).map (x::·)
end
mutual
def V.ids:V->List Nat
 | .osl id _=>[id]
 | .mp id=>[id]
 | .agg cs=>V.aC cs
 | .iface _ x=>x.ids
 |_=>[]
def V.aC:List V->List Nat
 |[]=>[]
 |v::vs=>v.ids++V.aC vs
end
def bH(o:Nat->aa)(ids:List Nat):List (Nat×aa):=
 ids.map fun id=>(id,match o id with| .arr ep _ _ es=> .l5 ep es| .map _ _ l=> .dm l|o=>o)
def kj(o:Nat->aa)(ids:List Nat):List (Nat×aa):=
 ids.filterMap fun id=>match o id with| .arr ep _ _ es=>some (id, .l5 ep es)|_=>none
def put(o:Nat->aa)(Δ:List (Nat×aa)):Nat->aa:=Δ.foldl (fun f x=>cn f x.1 x.2) o
def Hp.put (H:Hp)(Δ:List (Nat×aa)):Hp:={o:=YtlhemmpklhhgoaaGreat.put H.o Δ,us:=fun id=>H.us id\/id∈Δ.map (·.1)}
def eQ(P:Program)(t:TypeId):Option (List V):=
 match P.info? t with
 |some i=>match i.zero with
  |some z=>if z.cells.size=i.size/\z.cells.toList.all Value.oneCell'=true then some (z.cells.toList.map V.bB)else none
  |none=>none
 |none=>none
def kn(P:Program)(t:TypeId):Option Bool:=
 match P.underlying t with
 |some (.struct _)|some (.array _ _)=>some true
 |some _=>some false
 |none=>none
def gV(P:Program)(t:TypeId)(f:Nat):Option Nat:=
 match P.underlying t with
 |some (.struct fs)=>match fs[f]? with
  |some fd=>if P.cellsOf fd.type=0 then none else some fd.offset
  |none=>none
 |_=>none
def bI(P:Program)(t:TypeId):Option TypeId:=
 match P.underlying t with
 |some (.slice e)=>some e
 |_=>none
def p8(P:Program)(t:TypeId):Option (Nat×TypeId):=
 match P.underlying t with
 |some (.array n e)=>some (n,e)
 |_=>none
def iu(P:Program)(t:TypeId):Option (List (Nat×Nat)):=
 match P.underlying t with
 |some (.struct fs)=>if fs.toList.all (fun f=>(P.info? f.type).isSome)=true then some (fs.toList.map fun f=>(f.offset,P.cellsOf f.type))else none
 |some (.array n e)=>if(P.info? e).isSome=true then some ((List.range n).map fun i=>(i*P.cellsOf e,P.cellsOf e))else none
 |_=>none
def sd(P:Program)(t:TypeId):Option IntKind:=
 match P.underlying t with
 |some (.int k)=>some k
 |_=>none
def cy(P:Program)(t:TypeId)(cs:List V)(off:Nat):Option V:=
 match kn P t with
 |some true=>if off+P.cellsOf t<=cs.length then some (ir ((cs.drop off).take (P.cellsOf t)))else none
 |some false=>cs[off]?
 |none=>none
def nr(P:Program)(t:TypeId)(cs:List V)(off:Nat)(v:V):Option (List V):=
 match v.cells with
 |some us=>if us.length=P.cellsOf t/\(0<us.length\/(P.info? t).isSome=true)/\off+us.length<=cs.length then some (cs.take off++us++cs.drop (off+us.length))else none
 |none=>none
def jO(places:List (Nat×Nat))(cs:List V):List (Nat×V)->Option (List V)
 |[]=>some cs
 |(i,v)::rest=>match places[i]?,v.cells with
  |some (off,size),some us=>if us.length=size/\off+us.length<=cs.length then jO places (cs.take off++us++cs.drop (off+us.length)) rest else none
  |_,_=>none
def D.put (e:D)(off:Nat)(us:List D):Option D:=
 match e with
 | .agg cs=>if off+us.length<=cs.length then some (.agg (cs.take off++us++cs.drop (off+us.length)))else none
 |_=>match off,us with
  |0,[u]=>some u
  |_,_=>none
def C9(op:BinOp)(a b:Int):Option Bool:=
 match op with
 | .eql=>some (a==b)| .neq=>some (a !=b)| .lss=>some (decide (a<b))| .leq=>some (decide (a<=b))
 | .gtr=>some (decide (a>b))| .geq=>some (decide (a≥b))
 |_=>none
def kU(op:BinOp)(k:IntKind)(x y:Int):Option Int:=
 let a:=BitVec.ofInt k.bits x
 let b:=BitVec.ofInt k.bits y
 match op with
 | .and=>some (k.wrap (a&&&b).toNat)
 | .or=>some (k.wrap (a|||b).toNat)
 | .xor=>some (k.wrap (a ^^^ b).toNat)
 | .andNot=>some (k.wrap (a&&& ~~~b).toNat)
 |_=>none
def vI(op:BinOp)(k:IntKind)(a b:Int)(K:V->Prop):Prop:=
 match op with
 | .add=>K (.d (.int k (k.wrap (a+b))))
 | .sub=>K (.d (.int k (k.wrap (a - b))))
 | .mul=>K (.d (.int k (k.wrap (a*b))))
 | .quo=>b≠0/\K (.d (.int k (k.wrap (a.tdiv b))))
 | .rem=>b≠0/\K (.d (.int k (a.tmod b)))
 | .and| .or| .xor| .andNot=>∃r,kU op k a b=some r/\K (.d (.int k r))
 | .shl| .shr=>False
 |op=>∃r,C9 op a b=some r/\K (.d (.bool r))
def tu(P:Program)(t:TypeId)(x y:D)(r:Bool):Prop:=
 ∀ (B:Nat->Prop) (w:World) (u v:Value),D.den B w x u->D.den B w y v->(Op.equal t u v).run P w= .ok r w/\∀ (op:BinOp) (a b:Operand),(eqGuard op t a b u v).run P w= .ok () w
def tv(P:Program)(op:BinOp)(t:TypeId)(x y:V)(K:V->Prop):Prop:=
 match x,y with
 | .d (.int k a), .d (.int k' b)=>k=k'/\vI op k a b K
 | .d (.bool a), .d (.bool b)=>match op with
   | .eql=>P.underlying t=some .bool/\K (.d (.bool (a==b)))
   | .neq=>P.underlying t=some .bool/\K (.d (.bool (a !=b)))
   |_=>False
 | .d (.str a), .d (.str b)=>match op with
   | .eql=>K (.d (.bool (a==b)))
   | .neq=>K (.d (.bool (a !=b)))
   |_=>False
 | .d (.agg a), .d (.agg b)=>match op with
   | .eql=>∃r,tu P t (.agg a) (.agg b) r/\K (.d (.bool r))
   | .neq=>∃r,tu P t (.agg a) (.agg b) r/\K (.d (.bool !r))
   |_=>False
 |_,_=>False
def Da(op:UnOp)(x:V)(K:V->Prop):Prop:=
 match op,x with
 | .neg, .d (.int k n)=>K (.d (.int k (k.wrap (0 - n))))
 | .not, .d (.bool b)=>K (.d (.bool !b))
 |_,_=>False
def oD(c a b:V)(K:V->Prop):Prop:=
 match c with
 | .d (.bool t)=>(t=true->K a)/\(t=false->K b)
 |_=>False
def tw(P:Program)(t:TypeId)(o:Nat->aa)(x:V)(K:V->List Nat->Prop):Prop:=
 match P.underlying t with
 |some (.slice _)=>match x with
  | .d (.sl es)=>K (.d (.int .i64 es.length)) []
  | .cG=>K (.d (.int .i64 0)) []
  | .jN es=>K (.d (.int .i64 es.length)) []
  | .osl id ep=>match o id with
    | .arr dL _ _ es| .l5 dL es=>ep=dL/\K (.d (.int .i64 es.length)) [id]
    |_=>False
  |_=>False
 |some .string=>match x with
  | .d (.str s)=>K (.d (.int .i64 s.length)) []
  |_=>False
 |some (.array n _)=>K (.d (.int .i64 n)) []
 |_=>False
def dY(P:Program)(o:Nat->aa)(t:TypeId)(x ix:V)(K:V->List Nat->Prop):Prop:=
 match ix with
 | .d (.int _ i)=>match bI P t with
   |some e=>match x with
    | .d (.sl es)=>0<=i/\∃y,es[i.toNat]? =some y/\y.cells.length=P.cellsOf e/\0<P.cellsOf e/\K (.pp y.cells 0) []
    | .jN es=>0<=i/\∃y,es[i.toNat]? =some y/\y.cells.length=P.cellsOf e/\0<P.cellsOf e/\K (.pp y.cells 0) []
    | .osl id ep=>match o id with
      | .arr dL _ sz es=>ep=dL/\0<=i/\i.toNat<es.length/\sz=P.cellsOf e/\0<P.cellsOf e/\K (.pe id ep i.toNat sz 0) [id]
      | .l5 dL es=>ep=dL/\0<=i/\∃y,es[i.toNat]? =some y/\y.cells.length=P.cellsOf e/\0<P.cellsOf e/\K (.pp y.cells 0) [id]
      |_=>False
    |_=>False
   |none=>match p8 P t with
    |some (n,e)=>0<=i/\i<n/\(P.info? e).isSome=true/\(match x with
     | .ptr id off=>(o id).aY=true/\K (.ptr id (off+i.toNat*P.cellsOf e)) []
     | .pp cs off=>K (.pp cs (off+i.toNat*P.cellsOf e)) []
     | .pe id ep j sz off=>(o id).bz=some ep/\K (.pe id ep j sz (off+i.toNat*P.cellsOf e)) []
     |_=>False)
    |none=>False
 |_=>False
def dZ(P:Program)(o:Nat->aa)(t:TypeId)(x:V)(f:Nat)(K:V->Prop):Prop:=
 match gV P t f with
 |some q=>match x with
  | .ptr id off=>(o id).aY=true/\K (.ptr id (off+q))
  | .pp cs off=>K (.pp cs (off+q))
  | .pe id ep j sz off=>(o id).bz=some ep/\K (.pe id ep j sz (off+q))
  |_=>False
 |none=>False
def oE(P:Program)(o:Nat->aa)(t:TypeId)(x:V)(K:V->List Nat->Prop):Prop:=
 match x with
 | .ptr id off=>match o id with
   | .row cs=>∃v,cy P t cs off=some v/\K v [id]
   |_=>False
 | .pp cs off=>∃v,cy P t (cs.map .d) off=some v/\K v []
 | .pe id ep i sz off=>match o id with
   | .arr dL _ jm es=>ep=dL/\sz=jm/\∃e,es[i]? =some e/\∃v,cy P t (e.cells.map .d) off=some v/\K v [id]
   |_=>False
 |_=>False
def kV(P:Program)(o:Nat->aa)(t:TypeId)(x v:V)(K:List (Nat×aa)->List Nat->Prop):Prop:=
 match x with
 | .ptr id off=>match o id with
   | .row cs=>∃cs',nr P t cs off v=some cs'/\K [(id, .row cs')] [id]
   |_=>False
 | .pe id ep i jm off=>match o id with
   | .arr dL ty sz es=>ep=dL/\jm=sz/\∃e,es[i]? =some e/\∃y,cN o v=some y/\y.cells.length=P.cellsOf t/\0<y.cells.length/\v.ids.all (· !=id)=true/\
    ∃e',e.put off y.cells=some e'/\K (bH o v.ids++[(id, .arr ep ty sz (es.set i e'))]) (id::v.ids)
   |_=>False
 |_=>False
def dE(P:Program)(o:Nat->aa)(fr:Nat)(t:TypeId)(len:Nat)(parts:List (Nat×V))(K:V->List (Nat×aa)->List Nat->Prop):Prop:=
 match bI P t with
 |some e=>(len=0/\parts=[]/\0<P.cellsOf e/\K (.osl fr 0) [(fr, .arr 0 e (P.cellsOf e) [])] [])\/(parts.map (·.1)=List.range len)/\(eQ P e).isSome=true/\0<len/\0<P.cellsOf e/\len*P.cellsOf e<=2^24/\
  ∃ds,aT o (parts.map (·.2))=some ds/\(∀x∈ds,x.cells.length=P.cellsOf e)/\
   K (.osl fr 0) (bH o (V.aC (parts.map (·.2)))++[(fr, .arr 0 e (P.cellsOf e) ds)]) (V.aC (parts.map (·.2)))
 |none=>False
def oF(P:Program)(e:TypeId):Option D:=
 match eQ P e with
 |some z=>match aT (fun _=> .no) z,kn P e with
  |some ds,some true=>some (.agg ds)
  |some [x],some false=>some x
  |_,_=>none
 |none=>none
def ea(P:Program)(fr:Nat)(t:TypeId)(l c:V)(K:V->List (Nat×aa)->Prop):Prop:=
 match bI P t,l,c with
 |some e, .d (.int _ n), .d (.int _ m)=>n=m/\0<=n/\0<P.cellsOf e/\P.bytesOf e*n.toNat<=2^47/\n.toNat<=2^47/\
  ∃x,oF P e=some x/\K (.osl fr 0) [(fr, .arr 0 e (P.cellsOf e) (List.replicate n.toNat x))]
 |_,_,_=>False
def cz(o:Nat->aa)(x:V):Option (List D):=
 match cN o x with
 |some (.sl es)=>some es
 |_=>none
def iw(P:Program)(o:Nat->aa)(fr:Nat)(ts:Array TypeId)(x y:V)(K:V->List (Nat×aa)->List Nat->Prop):Prop:=
 match ts.toList with
 |[t,t']=>t=t'/\(match bI P t with
  |some e=>∃new,cz o y=some new/\0<P.cellsOf e/\(eQ P e).isSome=true/\(∀z∈new,z.cells.length=P.cellsOf e)/\(match x with
   | .cG=>new.length<=2^47/\new.length*P.bytesOf e<=2^47/\K (.osl fr 0) [(fr, .arr 0 e (P.cellsOf e) new)] y.ids
   | .jN es=>(∀z∈es,z.cells.length=P.cellsOf e)/\(if new=[]then K (.jN es) [] y.ids else es.length+new.length<=2^40/\(es.length+new.length)*P.bytesOf e<=2^40/\K (.osl fr 0) [(fr, .arr 0 e (P.cellsOf e) (es++new))] y.ids)
   | .osl id ep=>match o id with
     | .arr dL ty sz es=>ep=dL/\ty=e/\sz=P.cellsOf e/\es.length+new.length<=2^47/\(es.length+new.length)*P.bytesOf e<=2^47/\
      K (.osl id (ep+1)) [(id, .arr (ep+1) ty sz (es++new))] (id::y.ids)
     |_=>False
   |_=>False)
  |none=>False)
 |_=>False
def gA(isMax:Bool)(args:List V)(K:V->Prop):Prop:=
 match args with
 |[.d (.int k a), .d (.int k' b)]=>k=k'/\K (.d (.int k (if isMax then(if b>a then b else a)else(if b<a then b else a))))
 |_=>False
def eR(o:Nat->aa)(x:V)(K:V->Prop):Prop:=
 match x with
 | .ptr id off=>(o id).aY=true/\K (.ptr id off)
 | .pp cs off=>K (.pp cs off)
 | .func (.func f) first cap=>K (.func (.func f) first cap)
 |_=>False
def et(P:Program)(t:TypeId)(xs:List D)(off:Nat):Option D:=
 match kn P t with
 |some true=>if off+P.cellsOf t<=xs.length then some (.agg ((xs.drop off).take (P.cellsOf t)))else none
 |some false=>xs[off]?
 |none=>none
inductive Ij where
 |int|bool|str|struct (fs:List (TypeId×Nat))|arr (n:Nat) (e:TypeId)
def c8(P:Program)(t:TypeId):Option Ij:=
 match P.underlying t with
 |some (.int _)=>some .int
 |some .bool=>some .bool
 |some .string=>some .str
 |some (.struct fs)=>if(!P.stoodInHeld t&&fs.toList.all (fun f=>f.name != "_"))=true then some (.struct (fs.toList.map fun f=>(f.type,f.offset)))else none
 |some (.array n e)=>if(P.info? e).isSome=true then some (.arr n e)else none
 |_=>none
def vJ(a b:Option Bool):Option Bool:=
 match a,b with
 |some a,some b=>some (a&&b)
 |_,_=>none
def qZ(f:TypeId->Nat->Option Bool):List (TypeId×Nat)->Option Bool
 |[]=>some true
 |x::l=>vJ (f x.1 x.2) (qZ f l)
def q0(f:Nat->Option Bool):Nat->Nat->Option Bool
 |0,_=>some true
 |n+1,i=>vJ (f i) (q0 f n (i+1))
def Bd(f:D->D->Option Bool)(x y:Option D):Option Bool:=
 match x,y with
 |some x,some y=>f x y
 |_,_=>none
def l9(P:Program):Nat->TypeId->D->D->Option Bool
 |0,_,_,_=>none
 |d+1,t,x,y=>match c8 P t with
  |some .int=>match x,y with| .int k a, .int k' b=>if k=k' then some (a==b)else none|_,_=>none
  |some .bool=>match x,y with| .bool a, .bool b=>some (a==b)|_,_=>none
  |some .str=>match x,y with| .str a, .str b=>some (a==b)|_,_=>none
  |some (.struct fs)=>match x,y with
   | .agg xs, .agg ys=>qZ (fun u off=>Bd (l9 P d u) (et P u xs off) (et P u ys off)) fs
   |_,_=>none
  |some (.arr n e)=>match x,y with
   | .agg xs, .agg ys=>q0 (fun i=>Bd (l9 P d e) (et P e xs (i*P.cellsOf e)) (et P e ys (i*P.cellsOf e))) n 0
   |_,_=>none
  |none=>none
abbrev dn:=V×List (Nat×aa)×List Nat
def bf(x:Option dn)(K:V->List (Nat×aa)->List Nat->Prop):Prop:=
 match x with
 |some (v,Δ,rd)=>K v Δ rd
 |none=>False
def se(x:Option V)(Ik:Nat):Option Nat:=
 match x with
 |none=>some Ik
 |some (.d (.int _ i))=>if 0<=i then some i.toNat else none
 |_=>none
def gW(o:Nat->aa)(x:V):Option (Nat×Nat):=
 match x with
 | .ptr id off=>if(o id).aY=true then some (id,off)else none
 |_=>none
def gX(o:Nat->aa)(x:V):Option (Nat×Nat×Nat×List V):=
 match x with
 | .oo id off n=>match o id with
   | .row cs=>some (id,off,n,cs)
   |_=>none
 |_=>none
def p9(P:Program)(o:Nat->aa)(t:TypeId)(x:V)(lo hi mx:Option V):Option dn:=
 match x with
 | .cG=>match lo,hi,mx with
   |none,some (.d (.int _ k)),none=>match bI P t with
    |some e=>if k=0/\(P.info? e).isSome=true then some (.cG,[],[])else none
    |none=>none
   |_,_,_=>none
 | .osl id ep=>match lo,hi,mx with
   |none,some (.d (.int _ k)),none=>match bI P t,o id with
    |some e, .arr dL ty sz es=>if k=0/\ep=dL/\(P.info? e).isSome=true then some (.osl id (ep+1),[(id, .arr (ep+1) ty sz [])],[id])
     else if 0<k/\k.toNat<=es.length/\ep=dL/\(P.info? e).isSome=true then some (.osl id (ep+1),[(id, .arr (ep+1) ty sz (es.take k.toNat))],[id])else none
    |_,_=>none
   |_,_,_=>none
 |_=>none
def iy(P:Program)(o:Nat->aa)(t:TypeId)(x:V)(lo hi mx:Option V):Option dn:=
 match bI P t with
 |some e=>match cz o x,se lo 0 with
  |some es,some l=>match se hi es.length with
   |some h=>if l<=h/\h<=es.length/\(P.info? e).isSome=true/\(l=0\/es.all (fun y=>y.cells.length==P.cellsOf e)=true)then match mx with
    |none=>some (.d (.sl ((es.take h).drop l)),bH o x.ids,x.ids)
    |some m=>match hi,se (some m) 0 with
     |some _,some m=>if h<=m/\m<=es.length then some (if h=m then .jN ((es.take h).drop l)else .d (.sl ((es.take h).drop l)),bH o x.ids,x.ids)else none
     |_,_=>none
    else none
   |none=>none
  |_,_=>none
 |none=>match p8 P t,lo,hi,mx with
  |some (n,e),none,none,none=>match gW o x with
   |some (id,off)=>if(P.info? e).isSome=true then some (.oo id off n,[],[id])else none
   |none=>none
  |_,_,_,_=>none
def ju(P:Program)(o:Nat->aa)(t:TypeId)(x:V)(lo hi mx:Option V):Option dn:=
 match p9 P o t x lo hi mx with
 |some r=>some r
 |none=>iy P o t x lo hi mx
def mo(P:Program)(o:Nat->aa)(ts:Array TypeId)(x y:V):Option dn:=
 match ts.toList with
 |[t,_]=>match bI P t with
  |some e=>match gX o x,cz o y with
   |some (id,off,n,cs),some es=>if P.cellsOf e=1/\off+n<=cs.length/\es.all (fun z=>z.cells.length==1)=true/\y.ids.all (· !=id)=true then
    some (.d (.int .i64 ((min es.length n:Nat):Int)),bH o y.ids++[(id, .row (cs.take off++((es.take n).flatMap D.cells).map .d++cs.drop (off+(es.take n).length)))],id::y.ids)else none
   |_,_=>none
  |none=>none
 |_=>none
def ns(P:Program)(t:TypeId)(f:Nat):Option (Nat×TypeId):=
 match P.underlying t with
 |some (.struct fs)=>match fs[f]? with
  |some fd=>some (fd.offset,fd.type)
  |none=>none
 |_=>none
def kW(P:Program)(t:TypeId)(x:V)(f:Nat):Option V:=
 match ns P t f with
 |some (off,u)=>match x with
  | .d (.agg cs)=>(et P u cs off).map .d
  | .agg cs=>cy P u cs off
  |_=>none
 |none=>none
def kX(P:Program)(t:TypeId)(x i:V):Option V:=
 match i with
 | .d (.int _ i)=>if 0<=i then match P.underlying t with
  |some .string=>match x with
   | .d (.str s)=>match s[i.toNat]? with
     |some b=>some (.d (.int .u8 b.toNat))
     |none=>none
   |_=>none
  |some (.array n e)=>if i<n/\(P.info? e).isSome=true then match x with
   | .d (.agg cs)=>(et P e cs (i.toNat*P.cellsOf e)).map .d
   | .agg cs=>cy P e cs (i.toNat*P.cellsOf e)
   |_=>none
   else none
  |_=>none
   else none
 |_=>none
def qa(P:Program)(t:TypeId):Bool:=
 match P.underlying t with
 |some (.interface _)=>false
 |some _=>true
 |none=>false
def zeroV(P:Program)(t:TypeId):Option V:=
 match P.info? t with
 |some i=>match i.zero with
  |some (.agg a)=>if a.toList.all Value.oneCell'=true then some (ir (a.toList.map V.bB))else none
  |some v=>if v.oneCell'=true then some (V.bB v)else none
  |none=>none
 |none=>none
def iz(P:Program)(t:TypeId)(ok:Bool)(x:V):Option V:=
 if qa P t=true then match x with
  | .d (.iface u y)=>if u=t then some (if ok=true then .a7 [.d y, .d (.bool true)]else .d y)
   else if ok=true then(zeroV P t).map fun z=> .a7 [z, .d (.bool false)]else none
  | .d .dk=>if ok=true then(zeroV P t).map fun z=> .a7 [z, .d (.bool false)]else none
  |_=>none
 else none
def oG(o:Nat->aa)(x:V):Option V:=
 match x with
 | .cG=>some (.d (.bool true))
 |x=>match cz o x with
  |some es=>some (if es=[]then .c7 else .d (.bool false))
  |none=>none
def isConst:Operand->Bool
 | .const _=>true
 |_=>false
def vK:V->Option V
 | .d (.bool b)=>some (.d (.bool !b))
 | .c7=>some .c7
 |_=>none
def jv(o:Nat->aa)(x:V):Option V:=
 match x with
 | .d .ej=>some (.d (.bool true))
 | .d (.mp _ _)=>some (.d (.bool false))
 | .mp id=>match o id with| .map _ _ _=>some (.d (.bool false))| .dm _=>some (.d (.bool false))|_=>none
 |_=>none
def jw(o:Nat->aa)(x:V):Option V:=
 match x with
 | .d .fD=>some (.d (.bool true))
 | .ptr id _=>if(o id).aY=true then some (.d (.bool false))else none
 | .pp _ _=>some (.d (.bool false))
 |_=>none
def Il(P:Program)(a b:TypeId)(x y:D):Option Bool:=
 if a=b then(match P.info? a,P.underlying a with
  |some i,some (.int _)=>if i.comparable=true then(match x,y with
   | .int k m, .int k' n=>if k=k' then some (m==n)else none
   |_,_=>none)else none
  |_,_=>none)
 else some false
def y8(P:Program)(o:Nat->aa)(t:TypeId)(ko:Bool)(x y:V):Option V:=
 match P.underlying t with
 |some (.interface _)=>match x,y with
  | .d .dk, .d .dk=>if ko=true then some (.d (.bool true))else none
  | .d (.iface _ _), .d .dk| .iface _ _, .d .dk| .d .dk, .d (.iface _ _)| .d .dk, .iface _ _=>some (.d (.bool false))
  | .d (.iface a x), .d (.iface b y)=>(Il P a b x y).map fun r=> .d (.bool r)
  |_,_=>none
 |some (.func _ _ _)=>match x,y with
  | .d .e9, .d .e9=>some (.d (.bool true))
  | .func _ _ _, .d .e9=>some (.d (.bool false))
  |_,_=>none
 |some (.map _ _)=>match y with
  | .d .ej=>jv o x
  |_=>none
 |some (.pointer _)=>match y with
  | .d .fD=>jw o x
  |_=>none
 |some (.slice _)=>match y with
  | .cG=>oG o x
  |_=>none
 |some (.struct _)|some (.array _ _)=>match x,y with
  | .d (.agg aR), .d (.agg bs)=>if P.eqGuardType P.depth t=false then(l9 P 100 t (.agg aR) (.agg bs)).map fun r=> .d (.bool r)else none
  |_,_=>none
 |_=>none
def jx(P:Program)(o:Nat->aa)(op:BinOp)(t:TypeId)(ko:Bool)(x y:V):Option dn:=
 match op with
 | .eql=>(y8 P o t ko x y).map fun v=>(v,[],[])
 | .neq=>((y8 P o t ko x y).bind vK).map fun v=>(v,[],[])
 |_=>none
mutual
def D.same:D->D->Bool
 | .int k a, .int j b=>k==j&&a==b
 | .bool a, .bool b=>a==b
 | .str a, .str b=>a==b
 | .dk, .dk| .fD, .fD| .e9, .e9| .ej, .ej=>true
 | .agg aR, .agg bs=>D.cW aR bs
 | .sl aR, .sl bs=>D.cW aR bs
 | .iface t a, .iface u b=>t==u&&a.same b
 | .mp ks vs, .mp Mc Hv=>D.cW ks Mc&&D.cW vs Hv
 |_,_=>false
def D.cW:List D->List D->Bool
 |[],[]=>true
 |a::aR,b::bs=>a.same b&&D.cW aR bs
 |_,_=>false
end
def sf(P:Program)(t:TypeId):Option (TypeId×TypeId):=
 match P.underlying t with
 |some (.map k v)=>some (k,v)
 |_=>none
def ma(P:Program):Nat->TypeId->D->Bool
 |0,_,_=>false
 |d+1,t,x=>match c8 P t with
  |some .int|some .bool|some .str=>true
  |some (.struct fs)=>match x with
   | .agg xs=>fs.all fun f=>match et P f.1 xs f.2 with|some y=>ma P d f.1 y|none=>false
   |_=>false
  |some (.arr n e)=>match x with
   | .agg xs=>(List.range n).all fun i=>match et P e xs (i*P.cellsOf e)with|some y=>ma P d e y|none=>false
   |_=>false
  |none=>false
def findD(P:Program)(kt:TypeId)(k:D):List (D×D)->Nat->Option (Option (Nat×D×D))
 |[],_=>some none
 |(k',x)::l,i=>match l9 P 100 kt k k' with
  |some true=>some (some (i,k',x))
  |some false=>findD P kt k l (i+1)
  |none=>none
def jP:D->Bool
 | .int _ _| .bool _| .str _=>true
 |_=>false
def fK:D->Bool
 | .agg cs=>cs.all jP
 |x=>jP x
def kY(o:Nat->aa)(m:V):Option (Option (Nat×TypeId×TypeId)×List (D×D)):=
 match m with
 | .mp id=>match o id with
   | .map kt vt l=>some (some (id,kt,vt),l)
   |_=>none
 | .d .ej=>some (none,[])
 |_=>none
def mq(o:Nat->aa)(m:V):Option (List Nat×List (D×D)):=
 match m with
 | .mp id=>match o id with
   | .map _ _ l=>some ([id],l)
   | .dm l=>some ([id],l)
   |_=>none
 | .d .ej=>some ([],[])
 | .d (.mp ks vs)=>some ([],ks.zip vs)
 |_=>none
def iA(P:Program)(o:Nat->aa)(t:TypeId)(m k:V)(ok:Bool):Option dn:=
 match sf P t,cN o k,mq o m with
 |some (kt,vt),some kd,some (rd,l)=>if k.ids=[]/\ma P 100 kt kd=true then match findD P kt kd l 0 with
  |some (some (_,_,x))=>some (if ok=true then .a7 [.d x, .d (.bool true)]else .d x,[],rd)
  |some none=>match zeroV P vt with
   |some z=>some (if ok=true then .a7 [z, .d (.bool false)]else z,[],rd)
   |none=>none
  |none=>none
  else none
 |_,_,_=>none
def eu(P:Program)(o:Nat->aa)(t:TypeId)(m k v:V):Option dn:=
 match sf P t,cN o k,cN o v,kY o m with
 |some (kt,_),some kd,some vd,some (some (id,xp,xq),l)=>if k.ids=[]/\ma P 100 kt kd=true/\fK kd=true/\v.ids.all (· !=id)=true then match findD P kt kd l 0 with
  |some (some (i,k',_))=>if k'.same kd=true then some (.a7 [],bH o v.ids++[(id, .map xp xq (l.set i (kd,vd)))],id::v.ids)else none
  |some none=>some (.a7 [],bH o v.ids++[(id, .map xp xq (l++[(kd,vd)]))],id::v.ids)
  |none=>none
  else none
 |_,_,_,_=>none
def iB(P:Program)(fr:Nat)(t:TypeId):Option dn:=
 match sf P t with
 |some (kt,vt)=>some (.mp fr,[(fr, .map kt vt [])],[])
 |none=>none
def gY(P:Program)(o:Nat->aa)(fr:Nat)(t:TypeId)(x:V):Option dn:=
 match P.underlying t with
 |some .string=>match x with
  | .d (.str s)=>some (.ptr fr 0,[(fr, .pX s 0)],[])
  |_=>none
 |some (.map _ _)=>match x with
  | .d .ej=>some (.ptr fr 0,[(fr, .l8 [] none)],[])
  | .d (.mp ks vs)=>some (.ptr fr 0,[(fr, .l8 (ks.zip vs) none)],[])
  | .mp id=>match o id with
    | .map _ _ l=>some (.ptr fr 0,[(id, .dm l),(fr, .l8 l none)],[id])
    | .dm l=>some (.ptr fr 0,[(fr, .l8 l none)],[id])
    |_=>none
  |_=>none
 |_=>none
def iC(o:Nat->aa)(x:V)(str:Bool):Option dn:=
 match x with
 | .ptr id 0=>match o id with
   | .pX s pos=>if str=true then
    (if pos<s.length then some (.a7 [.d (.bool true), .d (.int .i64 pos), .d (.int .i32 (Utf8.decode ⟨⟨s⟩⟩ pos).1)],[(id, .pX s (pos+(Utf8.decode ⟨⟨s⟩⟩ pos).2))],[id])else some (.a7 [.d (.bool false)],[],[id]))
     else none
   |_=>none
 |_=>none
def iD(o:Nat->aa)(x:V):Option (Nat×List (D×D)):=
 match x with
 | .ptr id 0=>match o id with
   | .l8 l _=>some (id,l)
   |_=>none
 |_=>none
def q8(id:Nat)(l:List (D×D))(K:V->List (Nat×aa)->List Nat->Prop):Prop:=
 (l=[]->K (.a7 [.d (.bool false)]) [] [id])/\∀i k x,l[i]? =some (k,x)->K (.a7 [.d (.bool true), .d k, .d x]) [(id, .l8 (l.eraseIdx i) (some (k,x)))] [id]
def gZ(o:Nat->aa)(x:V):Option dn:=
 match x with
 | .ptr id 0=>match o id with
   | .l8 _ (some (k,x))=>some (.a7 [.d k, .d x],[],[id])
   |_=>none
 |_=>none
def iE(P:Program)(o:Nat->aa)(t:TypeId)(m k:V):Option dn:=
 match sf P t,cN o k,kY o m with
 |some (kt,_),some kd,some (some (id,xp,xq),l)=>if k.ids=[]/\ma P 100 kt kd=true then match findD P kt kd l 0 with
  |some (some (i,_,_))=>some (.a7 [],[(id, .map xp xq (l.eraseIdx i))],[id])
  |some none=>some (.a7 [],[],[id])
  |none=>none
  else none
 |_,_,_=>none
def tx(x y z:V):Option V:=
 match x,y,z with
 | .d (.int k a), .d (.int k' b), .d (.int K2 c)=>if k=k'/\k=K2 then some (.d (.int k (if c>(if b>a then b else a)then c else(if b>a then b else a))))else none
 |_,_,_=>none
def vL(P:Program)(ts:Array TypeId)(x:V):Option dn:=
 match ts.toList with
 |[t]=>match bI P t with
  |some _=>match x with
   | .cG=>some (.d (.int .i64 0),[],[])
   |_=>none
  |none=>none
 |_=>none
def mu(P:Program)(fr:Nat)(ts:Array TypeId)(x y:V):Option dn:=
 match ts.toList with
 |[t,t']=>if t=t' then none else match bI P t with
  |some e=>match sd P t',x,y with
   |some _, .cG, .d (.int _ n)=>if 0<n/\0<P.cellsOf e/\n.toNat*P.bytesOf e<=2^40/\n.toNat<=2^40 then match oF P e with
    |some z=>some (.osl fr 0,[(fr, .arr 0 e (P.cellsOf e) (List.replicate n.toNat z))],[])
    |none=>none
    else none
   |_,_,_=>none
  |none=>none
 |_=>none
def kZ(P:Program)(s:S)(fr:Nat)(b:Builtin)(args:List Operand)(ts:Array TypeId)(K:V->List (Nat×aa)->List Nat->Prop):Prop:=
 match b,args with
 | .len,[x]=>∃t,ts.toList=[t]/\tw P t s.o (s.ev x) fun v rd=>K v [] rd
 | .append,[x,y]=>bf (mu P fr ts (s.ev x) (s.ev y)) K\/iw P s.o fr ts (s.ev x) (s.ev y) K
 | .max,[x,y]=>gA true [s.ev x,s.ev y] fun v=>K v [] []
 | .min,[x,y]=>gA false [s.ev x,s.ev y] fun v=>K v [] []
 | .max,[x,y,z]=>bf ((tx (s.ev x) (s.ev y) (s.ev z)).map fun v=>(v,[],[])) K
 | .copy,[x,y]=>bf (mo P s.o ts (s.ev x) (s.ev y)) K
 | .delete,[x,y]=>∃t,ts.toList.head?=some t/\bf (iE P s.o t (s.ev x) (s.ev y)) K
 | .cap,[x]=>bf (vL P ts (s.ev x)) K
 |_,_=>False
def xr(P:Program)(s:S)(fr:Nat)(op:Op)(K:V->List (Nat×aa)->List Nat->Prop):Prop:=
 match op with
 | .move x| .assign x=>K (s.ev x) [] []
 | .pick c a b=>oD (s.ev c) (s.ev a) (s.ev b) fun v=>K v [] []
 | .alloc t=>∃cs,eQ P t=some cs/\K (.ptr fr 0) [(fr, .row cs)] []
 | .box _ x=>∃cs,(s.ev x).cells=some cs/\K (.ptr fr 0) [(fr, .row cs)] []
 | .build t parts=>∃z pl cs,eQ P t=some z/\iu P t=some pl/\jO pl z (parts.toList.map fun p=>(p.1,s.ev p.2))=some cs/\K (ir cs) [] []
 | .buildSlice t len parts=>dE P s.o fr t len (parts.toList.map fun p=>(p.1,s.ev p.2)) K
 | .load t x=>oE P s.o t (s.ev x) fun v rd=>K v [] rd
 | .store t x v=>kV P s.o t (s.ev x) (s.ev v) fun Δ rd=>K (.a7 []) Δ rd
 | .nilCheck x=>eR s.o (s.ev x) fun v=>K v [] []
 | .binOp op t x y _=>tv P op t (s.ev x) (s.ev y) (fun v=>K v [] [])\/bf (jx P s.o op t (isConst x||isConst y) (s.ev x) (s.ev y)) K
 | .unOp op _ x=>Da op (s.ev x) (fun v=>K v [] [])\/(op= .not/\s.ev x= .c7/\K .c7 [] [])
 | .convert u t x=>(P.underlying u).isSome=true/\(match sd P t,s.ev x with
   |some k, .d (.int _ n)=>K (.d (.int k (k.wrap n))) [] []
   |_,_=>False)
 | .makeInterface t x=>(∃d,P.underlying t=some d/\(match d with| .interface _=>false|_=>true)=true)/\(match s.ev x with
   | .d y=>K (.d (.iface t y)) [] []
   |v=>K (.iface t v) [] [])
 | .makeFunc fn first cap=>K (.func fn (first.toList.map s.ev) (cap.toList.map s.ev)) [] []
 | .makeSlice t l c=>ea P fr t (s.ev l) (s.ev c) fun v Δ=>K v Δ []
 | .fieldAddr t x f=>dZ P s.o t (s.ev x) f fun v=>K v [] []
 | .indexAddr t x i=>dY P s.o t (s.ev x) (s.ev i) fun v rd=>K v [] rd
 | .extract x i=>match s.ev x with
   | .a7 vs=>∃v,vs[i]? =some v/\K v [] []
   |_=>False
 | .slice t x lo hi mx=>bf (ju P s.o t (s.ev x) (lo.map s.ev) (hi.map s.ev) (mx.map s.ev)) K
 | .field t x f=>bf ((kW P t (s.ev x) f).map fun v=>(v,[],[])) K
 | .index t x i=>bf ((kX P t (s.ev x) (s.ev i)).map fun v=>(v,[],[])) K
 | .makeMap t none=>bf (iB P fr t) K
 | .lookup t m k ok=>bf (iA P s.o t (s.ev m) (s.ev k) ok) K
 | .mapUpdate t m k v=>bf (eu P s.o t (s.ev m) (s.ev k) (s.ev v)) K
 | .insert t m k v=>bf (eu P s.o t (s.ev m) (s.ev k) (s.ev v)) K
 | .range t x=>bf (gY P s.o fr t (s.ev x)) K
 | .next x str=>bf (iC s.o (s.ev x) str) K\/(str=false/\∃id l,iD s.o (s.ev x)=some (id,l)/\q8 id l K)
 | .entry x=>bf (gZ s.o (s.ev x)) K
 | .typeAssert x _ t ok=>bf ((iz P t ok (s.ev x)).map fun v=>(v,[],[])) K
 | .call c=>match c.callee with
   | .builtin b=>kZ P s fr b c.args.toList c.argTypes K
   |_=>False
 |_=>False
section
section
variable {B:Nat->Prop}{φ:Place}{H:Hp}{w:World}
theorem V.ah:∀ (cs:List V) (vs:List Value),V.ai B φ H w cs vs->vs.length=cs.length
 |[],_,h=>by simp[V.ai]at h;simp[h]
 |c::cs,_,h=>by obtain⟨u,us,rfl,_,h2⟩:=h;simp[V.ah cs us h2]
theorem V.bA:∀ (cs:List V) (vs:List Value) (i:Nat) (c:V),V.ai B φ H w cs vs->cs[i]? =some c->∃v,vs[i]? =some v/\V.den B φ H w c v
 |[],_,_,_,_,hd=>by simp at hd
 |c::cs,_,0,x,h,hd=>by
  exact C5
 |c::cs,_,i+1,x,h,hd=>by
  obtain⟨u,us,rfl,_,h2⟩:=h
  simpa using V.bA cs us i x h2 (by simpa using hd)
theorem V.aB:∀ (cs ds:List V) (us vs:List Value),V.ai B φ H w cs us->V.ai B φ H w ds vs->V.ai B φ H w (cs++ds) (us++vs)
 |[],ds,us,vs,h,k=>by simp[V.ai]at h;subst h;simpa using k
 |c::cs,ds,_,vs,h,k=>by
  obtain⟨u,us,rfl,h1,h2⟩:=h
  exact⟨u,us++vs,aU,h1,V.aB cs ds us vs h2 k⟩
theorem V.a8:∀ (n:Nat) (cs:List V) (vs:List Value),V.ai B φ H w cs vs->V.ai B φ H w (cs.take n) (vs.take n)
 |0,_,_,_=>by simp[V.ai]
 |n+1,[],_,h=>by simp[V.ai]at h;subst h;simp[V.ai]
 |n+1,c::cs,_,h=>by
  obtain⟨u,us,rfl,h1,h2⟩:=h
  exact⟨u,us.take n,aU,h1,V.a8 n cs us h2⟩
theorem V.b8:∀ (n:Nat) (cs:List V) (vs:List Value),V.ai B φ H w cs vs->V.ai B φ H w (cs.drop n) (vs.drop n)
 |0,_,_,h=>by simpa using h
 |n+1,[],_,h=>by simp[V.ai]at h;subst h;simp[V.ai]
 |n+1,c::cs,_,h=>by
  obtain⟨u,us,rfl,h1,h2⟩:=h
  simpa using V.b8 n cs us h2
theorem V.aW:∀ (ds:List D) (vs:List Value),V.ai B φ H w (ds.map .d) vs↔D.ai B w ds vs
 |[],vs=>by simp[V.ai,D.ai]
 |x::ds,vs=>by simp only[List.map_cons,V.ai,D.ai,V.den,V.aW ds]
theorem D.aB:∀ (cs ds:List D) (us vs:List Value),D.ai B w cs us->D.ai B w ds vs->D.ai B w (cs++ds) (us++vs)
 |[],ds,us,vs,h,k=>by simp[D.ai]at h;subst h;simpa using k
 |c::cs,ds,_,vs,h,k=>by
  obtain⟨u,us,rfl,h1,h2⟩:=h
  exact⟨u,us++vs,aU,h1,D.aB cs ds us vs h2 k⟩
theorem D.a8:∀ (n:Nat) (cs:List D) (vs:List Value),D.ai B w cs vs->D.ai B w (cs.take n) (vs.take n)
 |0,_,_,_=>by simp[D.ai]
 |n+1,[],_,h=>by simp[D.ai]at h;subst h;simp[D.ai]
 |n+1,c::cs,_,h=>by
  obtain⟨u,us,rfl,h1,h2⟩:=h
  exact⟨u,us.take n,aU,h1,D.a8 n cs us h2⟩
theorem D.b8:∀ (n:Nat) (cs:List D) (vs:List Value),D.ai B w cs vs->D.ai B w (cs.drop n) (vs.drop n)
 |0,_,_,h=>by simpa using h
 |n+1,[],_,h=>by simp[D.ai]at h;subst h;simp[D.ai]
 |n+1,c::cs,_,h=>by
  obtain⟨u,us,rfl,h1,h2⟩:=h
  simpa using D.b8 n cs us h2
theorem D.oH:∀ (i:Nat) (ds:List D) (vs:List Value) (x:D) (v:Value),D.ai B w ds vs->D.den B w x v->D.ai B w (ds.set i x) (vs.set i v)
 |_,[],_,_,_,h,_=>by simp[D.ai]at h;subst h;simp[D.ai]
 |0,c::cs,_,x,v,h,k=>by
  obtain⟨u,us,rfl,h1,h2⟩:=h
  exact⟨v,us,aU,k,h2⟩
 |i+1,c::cs,_,x,v,h,k=>by
  obtain⟨u,us,rfl,h1,h2⟩:=h
  exact⟨u,us.set i v,aU,h1,D.oH i cs us x v h2 k⟩
theorem mw:∀ (cs:List V) (ds:List D),p7 cs=some ds->cs=ds.map .d
 |[],ds,h=>by simp[p7]at h;subst h;rfl
 | .d x::cs,ds,h=>by
   simp only[p7,Option.map_eq_some_iff]at h
   obtain⟨a,h1,rfl⟩:=h
   simp[mw cs a h1]
 | .cG::_,_,h| .agg _::_,_,h| .a7 _::_,_,h| .ptr _ _::_,_,h| .osl _ _::_,_,h| .pe _ _ _ _ _::_,_,h| .pp _ _::_,_,h
 | .func _ _ _::_,_,h| .iface _ _::_,_,h| .bT::_,_,h| .jN _::_,_,h| .oo _ _ _::_,_,h| .mp _::_,_,h| .c7::_,_,h=>by simp[p7]at h
theorem eS(cs:List V)(a:Array Value)(h:V.ai B φ H w cs a.toList)(hf:Flat a.toList):V.den B φ H w (ir cs) (.agg a):=by
 unfold ir
 split
 ·rename_i ds hd
  have:=mw cs ds hd
  subst this
  exact⟨a,rfl,(V.aW ds _).1 h,hf⟩
 ·exact⟨a,rfl,h,hf⟩
theorem D.gB:∀ (x:D) (v:Value),D.den B w x v->(∃cs a,x= .agg cs/\v= .agg a)\/v.oneCell'=true/\x.cells=[x]/\v.cells=#[v]
 | .int _ _,_,h| .bool _,_,h| .dk,_,h| .fD,_,h| .e9,_,h| .ej,_,h=>by
   simp only[D.den]at h;subst h;exact .inr ⟨rfl,rfl,rfl⟩
 | .str l,_,h=>by obtain⟨s,rfl,_⟩:=h;exact .inr ⟨rfl,rfl,rfl⟩
 | .agg cs,_,h=>by obtain⟨a,rfl,_,_⟩:=h;exact .inl ⟨cs,a,rfl,rfl⟩
 | .sl es,_,h=>by obtain⟨b,l,c,rfl,_⟩:=h;exact .inr ⟨rfl,rfl,rfl⟩
 | .iface t x,_,h=>by obtain⟨u,rfl,_⟩:=h;exact .inr ⟨rfl,rfl,rfl⟩
 | .mp ks vs,_,h=>by obtain⟨m,es,c,p,rfl,_⟩:=h;exact .inr ⟨rfl,rfl,rfl⟩
theorem D.cH (x:D)(v:Value)(h:D.den B w x v):D.ai B w x.cells v.cells.toList/\Flat v.cells.toList:=by
 rcases D.gB x v h with⟨cs,a,rfl,rfl⟩|⟨h1,h2,h3⟩
 ·obtain⟨a',h1,h2,h3⟩:=h
  injection h1 with h1;subst h1
  exact⟨h2,h3⟩
 ·rw[h2,h3]
  exact⟨⟨v,[],rfl,h,rfl⟩,by intro u hu;simp at hu;subst hu;exact h1⟩
theorem V.gB (x:V)(v:Value)(us:List V)(hx:x.cells=some us)(h:V.den B φ H w x v):V.ai B φ H w us v.cells.toList/\Flat v.cells.toList:=by
 have one:∀ (y:V),v.oneCell'=true->V.den B φ H w y v->V.ai B φ H w [y] v.cells.toList/\Flat v.cells.toList:=by
  intro y h1 h2
  have h3:v.cells=#[v]:=by cases v<;>simp_all[Value.oneCell',Value.cells]
  rw[h3]
  exact⟨⟨v,[],rfl,h2,rfl⟩,by intro u hu;simp at hu;subst hu;exact h1⟩
 cases x with
 |d x=>
  simp only[V.cells,Option.some.injEq]at hx;subst hx
  have:=D.cH x v h
  exact⟨(V.aW _ _).2 this.1,this.2⟩
 |cG=>simp only[V.cells,Option.some.injEq]at hx;subst hx;exact one _ (by cases h;rfl) h
 |agg cs=>
  simp only[V.cells,Option.some.injEq]at hx;subst hx
  obtain⟨a,rfl,h1,h2⟩:=h
  exact⟨h1,h2⟩
 |a7 vs=>simp[V.cells]at hx
 |bT=>simp[V.cells]at hx
 |ptr id off=>simp only[V.cells,Option.some.injEq]at hx;subst hx;exact one _ h.1 h
 |osl id ep=>simp only[V.cells,Option.some.injEq]at hx;subst hx;exact one _ h.1 h
 |pe id ep i sz off=>simp only[V.cells,Option.some.injEq]at hx;subst hx;exact one _ h.1 h
 |pp cs off=>simp only[V.cells,Option.some.injEq]at hx;subst hx;exact one _ (by obtain⟨a,ev,_,rfl,_⟩:=h;rfl) h
 |func fn f c=>simp only[V.cells,Option.some.injEq]at hx;subst hx;exact one _ (by obtain⟨a,ev,rfl,_⟩:=h;rfl) h
 |iface t y=>simp only[V.cells,Option.some.injEq]at hx;subst hx;exact one _ (by obtain⟨a,rfl,_⟩:=h;rfl) h
 |jN es=>simp only[V.cells,Option.some.injEq]at hx;subst hx;exact one _ (by obtain⟨_,b,n,rfl⟩:=h;rfl) h
 |oo id off n=>simp only[V.cells,Option.some.injEq]at hx;subst hx;exact one _ h.1 h
 |mp id=>simp only[V.cells,Option.some.injEq]at hx;subst hx;exact one _ h.1 h
 |jl id=>simp only[V.cells,Option.some.injEq]at hx;subst hx;exact one _ h.1 h
 |c7=>simp only[V.cells,Option.some.injEq]at hx;subst hx;exact one _ (by obtain⟨a,rfl⟩:=h;rfl) h
theorem fb(v:Value)(h:v.oneCell'=true):V.den B φ H w (V.bB v) v:=by
 cases v<;>simp_all only[Value.oneCell',V.bB,V.den,D.den]<;>try trivial
 all_goals (try (split<;>simp_all[V.den,D.den]))
 all_goals (try first|(simp_all[D.den];done)|simp_all)
theorem bM:∀ (vs:List Value),Flat vs->V.ai B φ H w (vs.map V.bB) vs
 |[],_=>rfl
 |v::vs,h=>⟨v,vs,rfl,fb v (h v aU),bM vs fun u hu=>h u (by simp[hu])⟩
end
end
end Go.Proofs.YtlhemmpklhhgoaaGreat
