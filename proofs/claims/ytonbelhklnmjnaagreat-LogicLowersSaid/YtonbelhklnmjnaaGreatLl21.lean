/-
  A PART OF THE PROOF. Conditions: none.
-/
import Derived.Shelf.Sort.Plain
import Derived.Shelf.Slices.In.SortNone
import Derived.Test.YtonbelhklnmjnaaGreatLl20
set_option linter.unusedSimpArgs false
set_option linter.unusedVariables false
namespace Go.Proofs.YtonbelhklnmjnaaGreat
theorem prvB_6(p:Pg)(f:Pf)(env:List Tm)(e:Tm)(h:f.az=6):aR p f env e=(e.op==4&&lj p f env e):=by
 rw[b7,gM,if_neg (by omega),if_neg (by omega),if_neg (by omega),if_neg (by omega),if_neg (by omega),if_pos h,Bool.and_assoc]
 rfl
set_option maxHeartbeats 2000000 in
theorem KM{p:Pg}(hp:iV p)(hw:p.Fw):∀f:Pf,mY p.sig f->RpC p f:=by
 refine Pf.cc fun f ih hf env e hv he=> ?_
 have xQ:∀k∈f.kids,RpC p k:=fun k hk=>ih k hk (hf.gE hk)
 have GG:=hf.len
 have im:=((Tm.aF e).1 he.fits).1
 have hn:=he.node1
 refine aQ.ay mix aiR ao ?_
 rw[c62]
 by_cases r1:f.az=1
 ·have r1':(f.az==1)=true:=by simpa using r1
  have ht:aR p f env e=(f.kids.length==0&&f.val.op==16):=by rw[b7,gM,if_pos r1]
  rw[ht]
  refine dW r1' ?_
  cases h1:(f.kids.length==0)with
  |false=>
   have bL:((f.kids.length:Int)==0)=false:=by simpa using h1
   exact ve bL
  |true=>
   have bL:((f.kids.length:Int)==0)=true:=by simpa using h1
   exact ve bL
 have n1:(f.az==1)=false:=by simpa using r1
 by_cases r2:f.az=2
 ·have r2':(f.az==2)=true:=by simpa using r2
  have ht:aR p f env e=(e.op==1&&(f.kids.length==0&&pA f.val ((env[e.n.toNat]?).getD ec))):=by rw[b7,gM,if_neg r1,if_pos r2]
  rw[ht]
  by_cases h1:e.op=1
  rotate_left
  ·have bL:(e.op==1)=false:=by simpa using h1
   rw[bL]
   refine su n1 r2' bL ?_
   exact AE
  have bL:(e.op==1)=true:=by simpa using h1
  rw[bL,Bool.true_and]
  by_cases h2:f.kids.length=0
  rotate_left
  ·have jb:((f.kids.length:Int)==0)=false:=by rw[beq_eq_false_iff_ne];omega
   have jx:(f.kids.length==0)=false:=by simpa using h2
   refine IQ n1 r2' bL jb ?_
   refine aw (aD rfl) ?_
   refine aU ?_
   rw[jx];rfl
  have jb:((f.kids.length:Int)==0)=true:=by rw[beq_iff_eq];omega
  have jx:(f.kids.length==0)=true:=by simpa using h2
  obtain⟨v0,v1⟩:=he.var h1
  obtain⟨x,hx⟩:=ai (l:=env) (k:=e.n.toNat) af
  have Qg:=hv.all x (List.mem_of_getElem? hx)
  rw[hx,Option.getD_some,jx,Bool.true_and]
  simp+contextual (disch:=first|omega|simp only[go_sem,false_implies]) only[go_sem,wrap64,if_pos,n1,r2',List.length_map,bL,jb,hx,v0]
  refine aq (wL f.val hf.val.1.1 x Qg.1) rfl ?_
  refine cf bL ?_
  exact AE
 have n2:(f.az==2)=false:=by simpa using r2
 by_cases r3:f.az=3
 ·have r3':(f.az==3)=true:=by simpa using r3
  have ht:aR p f env e=(e.op==2&&(f.kids.length==0&&aJ f.val e)):=by rw[b7,gM,if_neg r1,if_neg r2,if_pos r3]
  rw[ht]
  by_cases h1:e.op=2
  rotate_left
  ·have bL:(e.op==2)=false:=by simpa using h1
   rw[bL]
   simp+contextual (disch:=first|omega|simp only[go_sem,false_implies]) only[go_sem,wrap64,if_pos,n1,n2,r3',List.length_map,bL]
  have bL:(e.op==2)=true:=by simpa using h1
  rw[bL,Bool.true_and]
  by_cases h2:f.kids.length=0
  rotate_left
  ·have jb:((f.kids.length:Int)==0)=false:=by rw[beq_eq_false_iff_ne];omega
   have jx:(f.kids.length==0)=false:=by simpa using h2
   refine Ay n1 n2 r3' bL jb ?_
   rw[jx];rfl
  have jb:((f.kids.length:Int)==0)=true:=by rw[beq_iff_eq];omega
  have jx:(f.kids.length==0)=true:=by simpa using h2
  rw[jx,Bool.true_and]
  refine Ay n1 n2 r3' bL jb ?_
  refine ah (eP f.val hf.val.1.1 e he.fits) rfl ?_
  exact dM
 have n3:(f.az==3)=false:=by simpa using r3
 by_cases r4:f.az=4
 ·have r4':(f.az==4)=true:=by simpa using r4
  have ht:aR p f env e=(e.op==3&&(aJ f.val (.mk e.op e.n (f.kids.map Pf.val))&&jW (f.kids.map (aR p)) env e.kids)):=by rw[b7,gM,if_neg r1,if_neg r2,if_neg r3,if_pos r4]
  rw[ht]
  by_cases h1:e.op=3
  rotate_left
  ·have bL:(e.op==3)=false:=by simpa using h1
   rw[bL]
   simp+contextual (disch:=first|omega|simp only[go_sem,false_implies]) only[go_sem,wrap64,if_pos,n1,n2,n3,r4',bL]
  have bL:(e.op==3)=true:=by simpa using h1
  rw[bL,Bool.true_and]
  refine Lm n1 n2 n3 r4' bL ?_
  refine ah (EL hf xQ hv he (.inl h1)) rfl ?_
  exact dM
 have n4:(f.az==4)=false:=by simpa using r4
 by_cases r5:f.az=5
 ·have r5':(f.az==5)=true:=by simpa using r5
  have ht:aR p f env e=(e.op==5&&(aJ f.val (.mk e.op e.n (f.kids.map Pf.val))&&jW (f.kids.map (aR p)) env e.kids)):=by rw[b7,gM,if_neg r1,if_neg r2,if_neg r3,if_neg r4,if_pos r5]
  rw[ht]
  by_cases h1:e.op=5
  rotate_left
  ·have bL:(e.op==5)=false:=by simpa using h1
   rw[bL]
   simp+contextual (disch:=first|omega|simp only[go_sem,false_implies]) only[go_sem,wrap64,if_pos,n1,n2,n3,n4,r5',bL]
  have bL:(e.op==5)=true:=by simpa using h1
  rw[bL,Bool.true_and]
  refine Qp n1 n2 n3 n4 r5' bL ?_
  refine ah (EL hf xQ hv he (.inr h1)) rfl ?_
  exact dM
 have n5:(f.az==5)=false:=by simpa using r5
 by_cases r6:f.az=6
 ·have r6':(f.az==6)=true:=by simpa using r6
  rw[prvB_6 p f env e r6]
  by_cases h1:e.op=4
  rotate_left
  ·have bL:(e.op==4)=false:=by simpa using h1
   rw[bL]
   simp+contextual (disch:=first|omega|simp only[go_sem,false_implies]) only[go_sem,wrap64,if_pos,n1,n2,n3,n4,n5,r6',bL]
  have bL:(e.op==4)=true:=by simpa using h1
  rw[bL,Bool.true_and]
  simp+contextual (disch:=first|omega|simp only[go_sem,false_implies]) only[go_sem,wrap64,if_pos,n1,n2,n3,n4,n5,r6',bL]
  refine ah (PB hp hw hf xQ hv he h1) rfl ?_
  exact dM
 have n6:(f.az==6)=false:=by simpa using r6
 by_cases r7:f.az=7
 ·have r7':(f.az==7)=true:=by simpa using r7
  have ht:aR p f env e=(e.op==7&&(f.kids.length==1&&aJ (aX f.kids 0) f.val&&kG (f.kids.map (aR p)) 0 env (cC e 0))):=by rw[b7,gM,if_neg r1,if_neg r2,if_neg r3,if_neg r4,if_neg r5,if_neg r6,if_pos r7]
  rw[ht]
  by_cases h1:e.op=7
  rotate_left
  ·have bL:(e.op==7)=false:=by simpa using h1
   rw[bL]
   simp+contextual (disch:=first|omega|simp only[go_sem,false_implies]) only[go_sem,wrap64,if_pos,n1,n2,n3,n4,n5,n6,r7',bL]
   exact AE
  have bL:(e.op==7)=true:=by simpa using h1
  rw[bL,Bool.true_and]
  have h2:=m8 hn af af
  obtain⟨a,ha⟩:=ai (l:=e.kids) (k:=0) af
  rw[eY ha]
  simp+contextual (disch:=first|omega|simp only[go_sem,false_implies]) only[go_sem,wrap64,if_pos,n1,n2,n3,n4,n5,n6,r7',bL,ha]
  exact Tp
 have n7:(f.az==7)=false:=by simpa using r7
 by_cases r8:f.az=8
 ·have r8':(f.az==8)=true:=by simpa using r8
  have ht:aR p f env e=(e.op==7&&(f.kids.length==1&&aJ (aX f.kids 0) f.val&&kG (f.kids.map (aR p)) 0 env (cC e 1))):=by rw[b7,gM,if_neg r1,if_neg r2,if_neg r3,if_neg r4,if_neg r5,if_neg r6,if_neg r7,if_pos r8]
  rw[ht]
  by_cases h1:e.op=7
  rotate_left
  ·have bL:(e.op==7)=false:=by simpa using h1
   rw[bL]
   simp+contextual (disch:=first|omega|simp only[go_sem,false_implies]) only[go_sem,wrap64,if_pos,n1,n2,n3,n4,n5,n6,n7,r8',bL]
   exact AE
  have bL:(e.op==7)=true:=by simpa using h1
  rw[bL,Bool.true_and]
  have h2:=m8 hn af af
  obtain⟨a,ha⟩:=ai (l:=e.kids) (k:=1) af
  rw[eY ha]
  simp+contextual (disch:=first|omega|simp only[go_sem,false_implies]) only[go_sem,wrap64,if_pos,n1,n2,n3,n4,n5,n6,n7,r8',bL,ha]
  exact Tp
 have n8:(f.az==8)=false:=by simpa using r8
 by_cases r9:f.az=9
 ·have r9':(f.az==9)=true:=by simpa using r9
  have ht:aR p f env e=(e.op==8&&(f.kids.length==2&&aJ (aX f.kids 1) f.val&&kG (f.kids.map (aR p)) 0 env (cC e 0)&&kG (f.kids.map (aR p)) 1 (gx env e.n (aX f.kids 0)) (cC e 1))):=by rw[b7,gM,if_neg r1,if_neg r2,if_neg r3,if_neg r4,if_neg r5,if_neg r6,if_neg r7,if_neg r8,if_pos r9]
  rw[ht]
  by_cases h1:e.op=8
  rotate_left
  ·have bL:(e.op==8)=false:=by simpa using h1
   rw[bL]
   simp+contextual (disch:=first|omega|simp only[go_sem,false_implies]) only[go_sem,wrap64,if_pos,n1,n2,n3,n4,n5,n6,n7,n8,r9',bL]
  have bL:(e.op==8)=true:=by simpa using h1
  rw[bL,Bool.true_and]
  simp+contextual (disch:=first|omega|simp only[go_sem,false_implies]) only[go_sem,wrap64,if_pos,n1,n2,n3,n4,n5,n6,n7,n8,r9',bL]
  refine ah (SD hf xQ hv he h1) rfl ?_
  exact dM
 have n9:(f.az==9)=false:=by simpa using r9
 by_cases Li:f.az=15
 ·have ag9:(f.az==15)=true:=by simpa using Li
  have ht:aR p f env e=(e.op==6&&((f.kids.length==2||f.kids.length==3)&&(kG (f.kids.map (aR p)) 0 env (cC e 0)&&kG (f.kids.map (aR p)) 1 env (cC e 1)&&(aX f.kids 0).op==5)&&
   (if((aX f.kids 0).kids.length:Int)+1<cX p.sig.bR (aX f.kids 0).n then f.kids.length==2&&aJ f.val (.mk 5 (aX f.kids 0).n ((aX f.kids 0).kids++[aX f.kids 1]))
    else f.kids.length==3&&aJ (aX f.kids 2) f.val&&kG (f.kids.map (aR p)) 2 ((aX f.kids 0).kids++[aX f.kids 1]) (lg p.sig (aX f.kids 0).n)))):=by
   rw[b7,gM,if_neg r1,if_neg r2,if_neg r3,if_neg r4,if_neg r5,if_neg r6,if_neg r7,if_neg r8,if_neg r9,if_pos Li]
   simp only[Bool.and_assoc]
  rw[ht]
  by_cases h1:e.op=6
  rotate_left
  ·have bL:(e.op==6)=false:=by simpa using h1
   rw[bL]
   simp+contextual (disch:=first|omega|simp only[go_sem,false_implies]) only[go_sem,wrap64,if_pos,n1,n2,n3,n4,n5,n6,n7,n8,n9,ag9,bL]
  have bL:(e.op==6)=true:=by simpa using h1
  rw[bL,Bool.true_and]
  simp+contextual (disch:=first|omega|simp only[go_sem,false_implies]) only[go_sem,wrap64,if_pos,n1,n2,n3,n4,n5,n6,n7,n8,n9,ag9,bL]
  refine ah (GI hp hf xQ hv he h1) rfl ?_
  exact dM
 have n15:(f.az==15)=false:=by simpa using Li
 have ht:aR p f env e=((f.kids.length==2&&jX f.az e f.val (aX f.kids 0) (aX f.kids 1))&&(kG (f.kids.map (aR p)) 0 env (cC e 0)&&kG (f.kids.map (aR p)) 1 env (cC e 1))):=by
  rw[b7,gM,if_neg r1,if_neg r2,if_neg r3,if_neg r4,if_neg r5,if_neg r6,if_neg r7,if_neg r8,if_neg r9,if_neg Li]
 rw[ht]
 simp+contextual (disch:=first|omega|simp only[go_sem,false_implies]) only[go_sem,wrap64,if_pos,n1,n2,n3,n4,n5,n6,n7,n8,n9,n15]
 refine aq (abo e he.fits hn f hf) rfl ?_
 cases h1:(f.kids.length==2&&jX f.az e f.val (aX f.kids 0) (aX f.kids 1))with
 |false=>
  refine cf h1 ?_
  exact AE
 |true=>
 have bL:=h1
 simp only[Bool.and_eq_true,beq_iff_eq]at bL
 have eJ:=Iz bL.2
 have h2:=m8 hn af af
 obtain⟨a,ha⟩:=ai (l:=e.kids) (k:=0) af
 obtain⟨b,hb⟩:=ai (l:=e.kids) (k:=1) af
 obtain⟨x,hx⟩:=ai (l:=f.kids) (k:=0) af
 obtain⟨y,hy⟩:=ai (l:=f.kids) (k:=1) af
 rw[eY ha,eY hb,lV hx,lV hy]
 refine E8 ha hb hx hy ?_
 refine aq (xQ x (List.mem_of_getElem? hx) env a hv (he.gE af af (List.mem_of_getElem? ha))) rfl ?_
 cases g1:aR p x env a with
 |false=>
  exact Un
 |true=>
 refine E8 ha hb hx hy ?_
 refine aq (xQ y (List.mem_of_getElem? hy) env b hv (he.gE af af (List.mem_of_getElem? hb))) rfl ?_
 exact Un
set_option maxHeartbeats 1000000 in
theorem SG{p:Pg}(hp:iV p)(hw:p.Fw){f:Pf}(hf:mY p.sig f)(ih:∀k∈f.kids,Cf p k){env:List Tm}(hv:da p.sig env){e:Tm}(he:cy p.sig env.length e)(r6:f.az=6):
 aQ Tryz.prog 173 [xK p env,e.d,f.d] (ym (aR p f env e)):=by
 have GG:=hf.len
 have yP:=hw.len
 have im:=((Tm.aF e).1 he.fits).1
 have xS:=hf.env.len
 rw[prvB_6 p f env e r6]
 refine aQ.ay mix V0 ao ?_
 rw[ZZ]
 by_cases eJ:e.op=4
 rotate_left
 ·have bL:(e.op==4)=false:=by simpa using eJ
  exact Mf
 have bL:(e.op==4)=true:=by simpa using eJ
 rw[bL,Bool.true_and]
 refine dW bL ?_
 refine ah (kp _ _ _) rfl ?_
 cases f1:cF f.num 0 ((p.rules.length:Int) - 1)with
 |false=>
  have hc:lj p f env e=false:=by
   simp only[cF,Bool.and_eq_false_iff,decide_eq_false_iff_not]at f1
   unfold lj
   by_cases h:0<=f.num
   ·rw[List.getElem?_eq_none (by omega:p.rules.length<=f.num.toNat)];simp
   ·rw[decide_eq_false h];rfl
  rw[hc,bP]
  refine ik ?_
  exact AF
 |true=>
 have OC:0<=f.num/\f.num<=(p.rules.length:Int) - 1:=by simpa[cF]using f1
 obtain⟨n0,n1⟩:=OC
 obtain⟨ru,PC⟩:=ai (l:=p.rules) (k:=f.num.toNat) af
 have hrm:=List.mem_of_getElem? PC
 have ho:=hp.rl hrm
 obtain⟨hfw,Zo,hrz⟩:=hw.all ru hrm
 have hcb:lj p f env e=((ru.fn==e.n&&(f.binds.length:Int)==ru.vars&&f.kids.length==e.kids.length+1&&f.val.op !=16&&aJ (aX f.kids e.kids.length) f.val)&&
  (EN f.kids ru.aZ f.binds e.kids.length&&jW ((f.kids.map (aR p)).take e.kids.length) env e.kids&&kG (f.kids.map (aR p)) e.kids.length (mW ru f.binds) ru.rhs)):=by
  unfold lj;rw[PC,decide_eq_true n0];rfl
 refine ik ?_
 refine ah cu rfl ?_
 refine iB PC n0 ?_
 refine aw bG ?_
 by_cases f2:ru.fn=e.n
 rotate_left
 ·have xJ:(ru.fn==e.n)=false:=by simpa using f2
  have e0:lj p f env e=false:=by rw[hcb];simp[f2]
  rw[e0,bP]
  refine dW xJ ?_
  exact K9
 have xJ:(ru.fn==e.n)=true:=by simpa using f2
 by_cases f3:(f.binds.length:Int)=ru.vars
 rotate_left
 ·have BM:((f.binds.length:Int)==ru.vars)=false:=by simpa using f3
  have e0:lj p f env e=false:=by rw[hcb];simp[f3]
  rw[e0,bP]
  refine iB xJ BM ?_
  exact K9
 have BM:((f.binds.length:Int)==ru.vars)=true:=by simpa using f3
 obtain⟨fx,hfx,E0⟩:=ho.fn
 have ajm:=sa hp.sg fx (List.mem_of_getElem? hfx)
 have E5:=he.node1
 have Hj:ru.aZ.length=e.kids.length:=by
  simp[bz,eJ]at E5
  have h2:=E5.2
  rw[cX, <- f2,hfx]at h2
  dsimp only at h2
  omega
 by_cases f4:f.kids.length=e.kids.length+1
 rotate_left
 ·have Ka:((f.kids.length:Int)==(e.kids.length:Int)+1)=false:=by rw[beq_eq_false_iff_ne];omega
  have KL:(f.kids.length==e.kids.length+1)=false:=by simpa using f4
  have e0:lj p f env e=false:=by rw[hcb];simp[f4]
  rw[e0,bP]
  refine su xJ BM Ka ?_
  exact K9
 have Ka:((f.kids.length:Int)==(e.kids.length:Int)+1)=true:=by rw[beq_iff_eq];omega
 have KL:(f.kids.length==e.kids.length+1)=true:=by simpa using f4
 by_cases f5:f.val.op=16
 ·have W1:(f.val.op !=16)=false:=by simpa using f5
  have e0:lj p f env e=false:=by rw[hcb];simp[f5]
  rw[e0,bP]
  refine IQ xJ BM Ka W1 ?_
  exact K9
 have W1:(f.val.op !=16)=true:=by simpa using f5
 obtain⟨z,hz⟩:=ai (l:=f.kids) (k:=e.kids.length) af
 have Pz:=List.mem_of_getElem? hz
 have e1:lj p f env e=(aJ z.val f.val&&((((f.kids.take e.kids.length).zip ru.aZ).all fun x=>aJ x.1.val (fj f.binds x.2))&&((f.kids.take e.kids.length).length==e.kids.length&&((f.kids.take e.kids.length).zip e.kids).all fun x=>aR p x.1 env x.2)&&aR p z (mW ru f.binds) ru.rhs)):=by
  rw[hcb,xJ,BM,KL,W1,bF hz,lV hz,EO _ _ _ _ (by omega) Hj, <- List.map_take,B0]
  simp only[Bool.true_and]
 rw[e1]
 refine Ay xJ BM Ka W1 hz ?_
 refine aq (cT _ (hf.gE Pz).val.1.1 _ hf.val.1.1) rfl ?_
 cases f6:aJ z.val f.val with
 |false=>
  exact QD
 |true=>
 rw[Bool.true_and]
 refine aU ?_
 refine aq cu rfl ?_
 refine aU ?_
 refine aw bG ?_
 refine ik ?_
 have xE:(f.kids.take e.kids.length).length=e.kids.length:=by rw[List.length_take];omega
 have fR:∀ {k:Nat} {x:Pf},k<e.kids.length->f.kids[k]? =some x->(f.kids.take e.kids.length)[k]? =some x:=fun h1 h2=>by rw[List.getElem?_take_of_lt h1];exact h2
 refine aH (fun k:Nat=>⟨br [.aa, .aa, .aa, .ptr 0 0, .ptr 1 0, .ptr 2 0, .ptr 27 0, .d (.i e.kids.length), .aa, .aa, .aa, .aa, .aa, .aa, .aa, .aa, .aa, .aa, .aa, .aa, .aa, .aa, .aa, .aa, .aa, .aa, .aa, .aa, .aa, .aa, .aa, .aa, .aa, .aa, .aa, .aa, .aa, .aa, .aa, .aa, .aa, .aa, .aa, .aa, .aa, .aa, .aa, .aa, .aa, .aa, .aa, .aa, .aa, .aa, .aa, .aa, .aa, .aa, .aa, .aa, .aa, .aa, .aa, .aa, .aa, .aa, .aa, .aa, .aa, .aa, .aa, .aa, .aa, .aa, .d (.sl (ru.aZ.map Tm.d)), .d (.i ru.aZ.length), .d (.i k)],aM (xi p env e f) 27 (.row ru.row),73⟩)
  (fun k=>k<=ru.aZ.length/\(((f.kids.take e.kids.length).zip ru.aZ).take k).all (fun x=>aJ x.1.val (fj f.binds x.2))=true) (fun k=>ru.aZ.length - k) 0 ⟨Nat.zero_le _,ao⟩ (bM.b9 _ af af dE (fun j hj=>mw) ?_) (fun k hk=> ?_)
 ·exact dc
 refine ik ?_
 refine aj (fun h2=> ?_) (fun h2=> ?_)
 ·simp at h2
  obtain⟨x,hx⟩:=ai (l:=f.kids) (k:=k) af
  obtain⟨q,hq⟩:=ai (l:=ru.aZ) (k:=k) af
  have cp:=List.mem_of_getElem? hx
  have hqm:=List.mem_of_getElem? hq
  have hz1:=vc (fR af hx) hq
  have hqf:=hfw.all q hqm
  have hff:(fj f.binds q).fits:=Ar (fun t ht=>(hf.env.all t ht).1) q hqf.1
  refine iB hx hq ?_
  refine aN (Pk f.binds af q hqf.1 af (ho.fill hqm f3)) ?_
  refine iB hx hq ?_
  refine aq (cT _ (hf.gE cp).val.1.1 _ hff) rfl ?_
  cases g1:aJ x.val (fj f.binds q)with
  |false=>
   rw[bZ hz1 g1,Bool.false_and,Bool.false_and,bP]
   refine aU ?_
   exact K9
  |true=>
   refine aU ?_
   refine aq cu rfl ?_
   refine aU ?_
   refine aw bG ?_
   refine aU ?_
   refine au (k+1) ⟨h2,cI hz1 hk.2 g1⟩ af (bM.b9 _ af af dE (fun j hj=>mw) ?_)
   exact dc
 ·simp at h2
  have R4:min e.kids.length f.kids.length=e.kids.length:=af
  have B8:=rX (f.kids.take e.kids.length) e.kids af im hv (fun k hk=>ih k (List.mem_of_mem_take hk)) (fun y hy=>he.gE af af hy)
  rw[List.map_take]at B8
  rw[cw hk.2 (by rw[List.length_zip];omega),Bool.true_and]
  refine ik ?_
  cases g1:((f.kids.take e.kids.length).length==e.kids.length&&((f.kids.take e.kids.length).zip e.kids).all fun x=>aR p x.1 env x.2)with
  |false=>
   exact Tx
  |true=>
  rw[g1,e8]at B8
  rw[Bool.true_and]
  refine aq B8 rfl ?_
  refine aU ?_
  refine aw bG ?_
  refine ik ?_
  refine aN (Kz ru ho Zo f.binds af f3) ?_
  refine ik ?_
  refine aN (Pl p env (mW ru f.binds)) ?_
  refine dW hz ?_
  have hc:=ih z Pz (mW ru f.binds) ru.rhs (Iv hf.env) (ho.OQ Zo (by rw[wX];exact f3))
  cases g2:aR p z (mW ru f.binds) ru.rhs with
  |false=>
   exact TM
  |true=>
  exact TR
theorem KN{α β:Type}{l:List α}{m:List β}{x y:α}{a b:β}(hx:l[0]? =some x)(hy:l[1]? =some y)(hm:m=[a,b])(h:(α×β)->Bool):((l.take 2).zip m).all h=(h (x,a)&&h (y,b)):=by
 match l,hx,hy with
 |x'::y'::r,hx,hy=>
  simp at hx hy
  subst hx;subst hy;subst hm
  simp
theorem GJ(l:List Tm)(hl:l.length<=1000000)(o:Nat->ab)(fr:Nat):zi Tryz.prog 94 [.d (.sl (l.map Tm.d))] [] o fr (.osl fr 0) [(fr, .arr 0 31 3 (l.map Tm.d))]:=by
 refine zi.F2 (ds:=[.sl (l.map Tm.d)]) ?_
 refine cR.ay mix NZ ao ?_
 rw[c94]
 have hu:Tryz.prog.underlying 28=some (.slice 31):=ag
 cases l with
 |nil=>
  have heq:∀O,sj Tryz.prog O 28 true (.d (.sl [])) .bO=some .fI:=by
   intro O
   unfold sj
   rw[hu]
   rfl
  exact TG
 |cons a l=>
  have heq:∀O,sj Tryz.prog O 28 true (.d (.sl (Tm.d a::l.map Tm.d))) .bO=some (.d (.bool false)):=by
   intro O
   unfold sj
   rw[hu]
   rfl
  simp only[List.map_cons,List.map_nil]
  refine cf heq ?_
  simp only[List.isEmpty_nil,if_true]
  refine cf heq ?_
  rw[List.length_cons]at hl
  try rw[if_pos (by omega)]
  try simp+contextual (disch:=first|omega|simp only[go_sem,false_implies]) only[go_sem,wrap64,if_pos,and_self]
  exact LJ
set_option maxHeartbeats 1000000 in
theorem KO{p:Pg}(hp:iV p){f:Pf}(hf:mY p.sig f)(ih:∀k∈f.kids,Cf p k){env:List Tm}(hv:da p.sig env){e:Tm}(he:cy p.sig env.length e)(Li:f.az=15):
 aQ Tryz.prog 182 [xK p env,e.d,f.d] (ym (aR p f env e)):=by
 have GG:=hf.len
 have im:=((Tm.aF e).1 he.fits).1
 have ht:aR p f env e=(e.op==6&&((f.kids.length==2||f.kids.length==3)&&((kG (f.kids.map (aR p)) 0 env (cC e 0)&&kG (f.kids.map (aR p)) 1 env (cC e 1))&&((aX f.kids 0).op==5&&
  (if((aX f.kids 0).kids.length:Int)+1<cX p.sig.bR (aX f.kids 0).n then f.kids.length==2&&aJ f.val (.mk 5 (aX f.kids 0).n ((aX f.kids 0).kids++[aX f.kids 1]))
   else f.kids.length==3&&aJ (aX f.kids 2) f.val&&kG (f.kids.map (aR p)) 2 ((aX f.kids 0).kids++[aX f.kids 1]) (lg p.sig (aX f.kids 0).n)))))):=by
  rw[b7,gM,if_neg (by omega),if_neg (by omega),if_neg (by omega),if_neg (by omega),if_neg (by omega),if_neg (by omega),if_neg (by omega),if_neg (by omega),if_neg (by omega),if_pos Li]
  simp only[Bool.and_assoc]
 rw[ht]
 refine aQ.ay mix V9 ao ?_
 rw[Z8]
 by_cases eJ:e.op=6
 rotate_left
 ·have bL:(e.op==6)=false:=by simpa using eJ
  exact Mf
 have bL:(e.op==6)=true:=by simpa using eJ
 rw[bL,Bool.true_and]
 refine dW bL ?_
 refine ah (kp _ _ _) rfl ?_
 by_cases hl:f.kids.length=2\/f.kids.length=3
 rotate_left
 ·have jZ:cF (f.kids.length:Int) 2 3=false:=by simp[cF];omega
  have nm:(f.kids.length==2||f.kids.length==3)=false:=by simpa using hl
  rw[jZ,nm,Bool.false_and,bP]
  exact XP
 have jZ:cF (f.kids.length:Int) 2 3=true:=by simp[cF];omega
 have nm:(f.kids.length==2||f.kids.length==3)=true:=by simpa using hl
 have he2:=m8 he.node1 af af
 obtain⟨a,b,hab⟩:=BZ he2
 have ha:e.kids[0]? =some a:=by rw[hab];rfl
 have hb:e.kids[1]? =some b:=by rw[hab];rfl
 obtain⟨x,hx⟩:=ai (l:=f.kids) (k:=0) af
 obtain⟨y,hy⟩:=ai (l:=f.kids) (k:=1) af
 have cp:=List.mem_of_getElem? hx
 have s9:=List.mem_of_getElem? hy
 have nM:=(hf.gE cp).val
 have xg:=(hf.gE s9).val
 rw[jZ,nm,bF hx,bF hy,lJ hx,lJ hy,eY ha,eY hb,Bool.true_and]
 refine aU ?_
 refine ah cu rfl ?_
 have h2t:(2:Nat)<=f.kids.length:=af
 have ajn:(2:Int)<=(f.kids.length:Int):=af
 refine iB h2t ajn ?_
 have B8:=rX (f.kids.take 2) e.kids GX im hv (fun k hk=>ih k (List.mem_of_mem_take hk)) (fun y hy=>he.gE af af hy)
 have h2l:(f.kids.take 2).length=2:=by rw[List.length_take];omega
 rw[List.map_take,h2l,he2,KN hx hy hab]at B8
 have h22:((2:Nat)==2)=true:=rfl
 rw[h22,Bool.true_and]at B8
 cases g1:(aR p x env a&&aR p y env b)with
 |false=>
  exact Tx
 |true=>
 rw[g1,e8]at B8
 rw[Bool.true_and]
 refine aq B8 rfl ?_
 refine aU ?_
 refine aw bG ?_
 refine dW hx ?_
 by_cases h5:x.val.op=5
 rotate_left
 ·have xF:(x.val.op==5)=false:=by simpa using h5
  rw[xF,Bool.false_and,bP]
  exact AF
 have xF:(x.val.op==5)=true:=by simpa using h5
 obtain⟨n0,w,hw,cD⟩:=IB nM.1.2 h5
 have hwa:=sa hp.sg w (List.mem_of_getElem? hw)
 have Fb:da p.sig (x.val.kids++[y.val]):=⟨by simp;omega,fun t ht=>by
  rcases List.mem_append.1 ht with h|h
  ·exact nM.1.gE h
  ·simp at h;subst h;exact xg.1⟩
 rw[xF,Bool.true_and,fF hw]
 refine ah cu rfl ?_
 refine aU ?_
 refine zB rfl (GJ x.val.kids af _ _) ?_
 refine dW hy ?_
 refine aw bG ?_
 by_cases hc:(x.val.kids.length:Int)+1<w.args
 ·have qC:decide (((x.val.kids.length+1:Nat):Int)<w.args)=true:=by simpa using hc
  rw[if_pos hc]
  by_cases hk:f.kids.length=2
  rotate_left
  ·have pv:((f.kids.length:Int)==2)=false:=by rw[beq_eq_false_iff_ne];omega
   have se:(f.kids.length==2)=false:=by simpa using hk
   rw[se,Bool.false_and,bP]
   refine Xi hw n0 qC pv ?_
   exact AF
  have pv:((f.kids.length:Int)==2)=true:=by rw[beq_iff_eq];omega
  have se:(f.kids.length==2)=true:=by simpa using hk
  have hmk:(Tm.mk 5 x.val.n (x.val.kids++[y.val])).fits:=by
   rw[Tm.aF]
   exact acI
  have hs:=cT _ hf.val.1.1 _ hmk
  rw[Tm.jS 5,List.map_append]at hs
  rw[se,Bool.true_and]
  refine Xi hw n0 qC pv ?_
  refine ah hs rfl ?_
  cases g3:aJ f.val (.mk 5 x.val.n (x.val.kids++[y.val]))with
  |false=>
   exact Mq
  |true=>
   exact Mp
 ·have qC:decide (((x.val.kids.length+1:Nat):Int)<w.args)=false:=by simpa using hc
  rw[if_neg hc]
  by_cases hk:f.kids.length=3
  rotate_left
  ·have pv:((f.kids.length:Int)==3)=false:=by rw[beq_eq_false_iff_ne];omega
   have se:(f.kids.length==3)=false:=by simpa using hk
   rw[se,Bool.false_and,Bool.false_and,bP]
   refine Xi hw n0 qC pv ?_
   exact K9
  have pv:((f.kids.length:Int)==3)=true:=by rw[beq_iff_eq];omega
  have se:(f.kids.length==3)=true:=by simpa using hk
  obtain⟨z,hz⟩:=ai (l:=f.kids) (k:=2) af
  have Pz:=List.mem_of_getElem? hz
  rw[bF hz,lJ hz,se,Bool.true_and]
  simp+contextual (disch:=first|omega|simp only[go_sem,false_implies]) only[go_sem,wrap64,if_pos,List.length_map,hz,hw,n0,qC,List.length_append,pv]
  refine aq (cT _ (hf.gE Pz).val.1.1 _ hf.val.1.1) rfl ?_
  cases g3:aJ z.val f.val with
  |false=>
   exact QD
  |true=>
  rw[Bool.true_and]
  refine aU ?_
  refine aq cu rfl ?_
  refine aU ?_
  refine aw bG ?_
  refine aU ?_
  have MQ:=Pl p env (x.val.kids++[y.val])
  rw[List.map_append]at MQ
  refine aN MQ ?_
  refine dW hz ?_
  refine aN (Su p x.val.n w n0 hw af af) ?_
  refine dW hz ?_
  have hr:=ih z Pz (x.val.kids++[y.val]) _ Fb (EM (s:=p.sig) n0 hw af af (by simp only[List.length_append,List.length_singleton];omega))
  cases g4:aR p z (x.val.kids++[y.val]) (lg p.sig x.val.n)with
  |false=>
   rw[g4,bP]at hr
   rw[bP]
   refine dk hr cH ?_
   refine aU ?_
   refine eu ⟨bG, ?_⟩
   exact K7
  |true=>
   rw[g4,e8]at hr
   rw[e8]
   refine aq hr rfl ?_
   exact QC
def eZ:List V:= .d .bV::[168,169,170,171,172,173,174,175,176,177,178,179,180,181,182].map fun g=> .func (.func g) [] []
theorem abr:sU Tryz.prog 147 [(1, .func (.func 168) [] []),(2, .func (.func 169) [] []),(3, .func (.func 170) [] []),(4, .func (.func 171) [] []),(5, .func (.func 172) [] []),(6, .func (.func 173) [] []),(7, .func (.func 174) [] []),(8, .func (.func 175) [] []),(9, .func (.func 176) [] []),(10, .func (.func 177) [] []),(11, .func (.func 178) [] []),(12, .func (.func 179) [] []),(13, .func (.func 180) [] []),(14, .func (.func 181) [] []),(15, .func (.func 182) [] [])]=some (.agg eZ):=ag
theorem SH:UR Tryz.prog 129 [] (.agg eZ):=by
 refine UR.mN (by rfl) ?_
 refine cR.ay mix VB ao ?_
 rw[ZA]
 simp+contextual only[al,st,List.map_nil,Rn,Rm,JM,YN,YO,bB,gZ,zeroT_147,FY,JL,Ny,Nz,Bm,mc]
 generalize hb:sU Tryz.prog 147 _=r
 have hr:r=some (.agg eZ):=by rw[<- hb];exact abr
 subst hr
 simp only[eZ,List.map_cons,List.map_nil]
 exact dM
set_option maxHeartbeats 1000000 in
theorem KQ{p:Pg}(hp:iV p)(hw:p.Fw):∀f:Pf,mY p.sig f->Cf p f:=by
 refine Pf.cc fun f ih hf env e hv he=> ?_
 have xQ:∀k∈f.kids,Cf p k:=fun k hk=>ih k hk (hf.gE hk)
 refine aQ.ay mix aeL ao ?_
 rw[c93]
 refine aU ?_
 refine ah (kp _ _ _) rfl ?_
 cases h1:cF f.az 1 15 with
 |false=>
  have h2: ¬ (1<=f.az/\f.az<=15):=by
   simp only[cF,Bool.and_eq_false_iff,decide_eq_false_iff_not]at h1;omega
  have ht:aR p f env e=false:=by
   rw[b7,gM,if_neg (by omega),if_neg (by omega),if_neg (by omega),if_neg (by omega),if_neg (by omega),if_neg (by omega),if_neg (by omega),if_neg (by omega),if_neg (by omega),if_neg (by omega)]
   have:jX f.az e f.val (aX f.kids 0) (aX f.kids 1)=false:=by
    unfold jX;rw[if_neg (by omega),if_neg (by omega),if_neg (by omega),if_neg (by omega),if_neg (by omega)]
   rw[this];simp
  rw[ht,bP]
  exact XP
 |true=>
 have h2:1<=f.az/\f.az<=15:=by simpa[cF]using h1
 refine aU ?_
 refine ah cu rfl ?_
 refine aU ?_
 refine JK SH ?_
 refine aU ?_
 rcases(by omega:f.az=1\/f.az=2\/f.az=3\/f.az=4\/f.az=5\/f.az=6\/f.az=7\/f.az=8\/f.az=9\/f.az=10\/f.az=11\/f.az=12\/f.az=13\/f.az=14\/f.az=15)with r|r|r|r|r|r|r|r|r|r|r|r|r|r|r
 ·have gz:eZ[f.az.toNat*1]? =some (.func (.func 168) [] []):=by rw[r];rfl
  have hc:=Sy (p:=p) hf (env:=env) (e:=e) r
  refine cf gz ?_
  cases g:aR p f env e with
  |false=>
   exact pR
  |true=>
   exact pS
 ·have gz:eZ[f.az.toNat*1]? =some (.func (.func 169) [] []):=by rw[r];rfl
  have hc:=Sz hf hv he r
  refine cf gz ?_
  cases g:aR p f env e with
  |false=>
   exact pR
  |true=>
   exact pS
 ·have gz:eZ[f.az.toNat*1]? =some (.func (.func 170) [] []):=by rw[r];rfl
  have hc:=SA (p:=p) hf (env:=env) he.fits r
  refine cf gz ?_
  cases g:aR p f env e with
  |false=>
   exact pR
  |true=>
   exact pS
 ·have gz:eZ[f.az.toNat*1]? =some (.func (.func 171) [] []):=by rw[r];rfl
  have hc:=Sx hf xQ hv he r
  refine cf gz ?_
  cases g:aR p f env e with
  |false=>
   exact pR
  |true=>
   exact pS
 ·have gz:eZ[f.az.toNat*1]? =some (.func (.func 172) [] []):=by rw[r];rfl
  have hc:=Ps hf xQ hv he r
  refine cf gz ?_
  cases g:aR p f env e with
  |false=>
   exact pR
  |true=>
   exact pS
 ·have gz:eZ[f.az.toNat*1]? =some (.func (.func 173) [] []):=by rw[r];rfl
  have hc:=SG hp hw hf xQ hv he r
  refine cf gz ?_
  cases g:aR p f env e with
  |false=>
   exact pR
  |true=>
   exact pS
 ·have gz:eZ[f.az.toNat*1]? =some (.func (.func 174) [] []):=by rw[r];rfl
  have hc:=Pt hf xQ hv he r
  refine cf gz ?_
  cases g:aR p f env e with
  |false=>
   exact pR
  |true=>
   exact pS
 ·have gz:eZ[f.az.toNat*1]? =some (.func (.func 175) [] []):=by rw[r];rfl
  have hc:=KJ hf xQ hv he r
  refine cf gz ?_
  cases g:aR p f env e with
  |false=>
   exact pR
  |true=>
   exact pS
 ·have gz:eZ[f.az.toNat*1]? =some (.func (.func 176) [] []):=by rw[r];rfl
  have hc:=SB hf xQ hv he r
  refine cf gz ?_
  cases g:aR p f env e with
  |false=>
   exact pR
  |true=>
   exact pS
 ·have gz:eZ[f.az.toNat*1]? =some (.func (.func 177) [] []):=by rw[r];rfl
  have hc:=Pw hf xQ hv he r
  refine cf gz ?_
  cases g:aR p f env e with
  |false=>
   exact pR
  |true=>
   exact pS
 ·have gz:eZ[f.az.toNat*1]? =some (.func (.func 178) [] []):=by rw[r];rfl
  have hc:=Px hf xQ hv he r
  refine cf gz ?_
  cases g:aR p f env e with
  |false=>
   exact pR
  |true=>
   exact pS
 ·have gz:eZ[f.az.toNat*1]? =some (.func (.func 179) [] []):=by rw[r];rfl
  have hc:=KK hf xQ hv he r
  refine cf gz ?_
  cases g:aR p f env e with
  |false=>
   exact pR
  |true=>
   exact pS
 ·have gz:eZ[f.az.toNat*1]? =some (.func (.func 180) [] []):=by rw[r];rfl
  have hc:=Py hf xQ hv he r
  refine cf gz ?_
  cases g:aR p f env e with
  |false=>
   exact pR
  |true=>
   exact pS
 ·have gz:eZ[f.az.toNat*1]? =some (.func (.func 181) [] []):=by rw[r];rfl
  have hc:=SC hf xQ hv he r
  refine cf gz ?_
  cases g:aR p f env e with
  |false=>
   exact pR
  |true=>
   exact pS
 ·have gz:eZ[f.az.toNat*1]? =some (.func (.func 182) [] []):=by rw[r];rfl
  have hc:=KO hp hf xQ hv he r
  refine cf gz ?_
  cases g:aR p f env e with
  |false=>
   exact pR
  |true=>
   exact pS
section
section
variable {P:Program}
def tw(P:Program)(n t t1:Nat)(ic:IC)(aK:List V)(u:V)(o:Nat->ab)(nx:Nat)(K:(Nat->ab)->Nat->Prop):Prop:=
 aK.length<=n/\ll P n nx true ic (JO K) ⟨aM (aM (cN aK) t u) t1 u,o,nx⟩
def sb(P:Program)(n t t1:Nat)(ic:IC)(aK:List V)(rs:List ResultVar)(K X:V->(Nat->ab)->Nat->Prop)(e:gf)(s:S):Prop:=
 match e with
 | .normal| .ret=>tw P n t t1 ic aK (.d .fV) s.o s.nx fun o nx=>s6 P rs K X .ret ⟨s.env,o,nx⟩
 | .bW v=>tw P n t t1 ic aK v s.o s.nx fun o nx=>s6 P rs K X .ret ⟨s.env,o,nx⟩
 | .exit _=>False
def B1(P:Program)(n t:Nat)(fe:IC)(gk:List Operand)(g:FuncId)(D:List V->gf->S->Prop)(e:gf)(s:S):Prop:=
 match e with
 | .normal=>ll P n s.nx false fe (D (gk.map s.ev)) ⟨aM s.env t (.func (.func g) [] (gk.map s.ev)),s.o,s.nx⟩
 |_=>False
variable {n t t1:Nat}{ic fe:IC}{aK:List V}{rs:List ResultVar}{K X:V->(Nat->ab)->Nat->Prop}{s:S}{v:V}{gk:List Operand}{g:FuncId}{D:List V->gf->S->Prop}{KR:(Nat->ab)->Nat->Prop}
@[go_sem ↓] theorem PE:sb P n t t1 ic aK rs K X .normal s=tw P n t t1 ic aK (.d .fV) s.o s.nx fun o nx=>s6 P rs K X .ret ⟨s.env,o,nx⟩:=propext Iff.rfl
@[go_sem ↓] theorem W6:sb P n t t1 ic aK rs K X .ret s=tw P n t t1 ic aK (.d .fV) s.o s.nx fun o nx=>s6 P rs K X .ret ⟨s.env,o,nx⟩:=propext Iff.rfl
@[go_sem ↓] theorem W7:sb P n t t1 ic aK rs K X (.bW v) s=tw P n t t1 ic aK v s.o s.nx fun o nx=>s6 P rs K X .ret ⟨s.env,o,nx⟩:=propext Iff.rfl
@[go_sem ↓] theorem PF:B1 P n t fe gk g D .normal s=ll P n s.nx false fe (D (gk.map s.ev)) ⟨aM s.env t (.func (.func g) [] (gk.map s.ev)),s.o,s.nx⟩:=propext Iff.rfl
@[go_sem ↓] theorem W8:JO KR .normal s=KR s.o s.nx:=propext Iff.rfl
@[go_sem ↓] theorem aha:JO KR .ret s=KR s.o s.nx:=propext Iff.rfl
theorem tw.w {o:Nat->ab}{nx:Nat}{K K':(Nat->ab)->Nat->Prop}(hK:∀o nx,K o nx->K' o nx)(h:tw P n t t1 ic aK v o nx K):F1 P n t t1 ic aK v o nx K':=by
 refine⟨h.1,eV ic _ _ _ (fun e s h=> ?_) h.2⟩
 unfold JO at h|-
 cases e with
 |normal=>exact hK _ _ h
 |ret=>exact hK _ _ h
 |_=>exact h
theorem cR.KT (bI:P.follows .mixedOrders=true){f g:FuncId}{jg fe zC:IC}{t m r r1:Nat}{gk:List Operand}{rs:List ResultVar}(hf:HJ P f n jg fe g t gk rs)(hg:DK P g m r r1 zC)
 {args:List V} {o:Nat->ab} {nx:Nat} {K X:V->(Nat->ab)->Nat->Prop} (hl:args.length<=n)
 (h:ll P n nx true jg (B1 P n t fe gk g fun aK=>sb P m r r1 zC aK rs K X) ⟨cN args,o,nx⟩):cR P f args o nx K X:=by
 refine cR.DN bI hf hg hl (eV jg _ _ _ (fun e s h=> ?_) h)
 unfold B1 at h
 unfold DL
 cases e with
 |normal=>
  refine eV fe _ _ _ (fun e s h=> ?_) h
  unfold sb at h
  unfold Bn
  cases e with
  |normal=>exact tw.w (fun _ _ h=>by unfold s6 at h;exact h) h
  |ret=>exact tw.w (fun _ _ h=>by unfold s6 at h;exact h) h
  |bW v=>exact tw.w (fun _ _ h=>by unfold s6 at h;exact h) h
  |exit _=>exact h
 |_=>exact h
end
attribute [irreducible] tw
theorem xp{P:Program}{n t t1:Nat}{ic:IC}{aK:List V}{v:V}{o:Nat->ab}{nx:Nat}{K:(Nat->ab)->Nat->Prop}(h1:aK.length<=n)(h2:ll P n nx true ic (JO K) ⟨aM (aM (cN aK) t v) t1 v,o,nx⟩):tw P n t t1 ic aK v o nx K:=by
 unfold tw
 exact⟨h1,h2⟩
end
theorem abt{o:Nat->ab}:sj Tryz.prog o 20 true (.d .fV) (.d .fV)=some (.d (.bool true)):=ag
theorem SI{o:Nat->ab}:sj Tryz.prog o 20 true (.d oJ) (.d .fV)=some (.d (.bool false)):=ag
theorem B3:pV Tryz.prog 117=true:=ag
theorem As{p:Pg}(hp:iV p)(hw:p.Fw)(f:Pf)(hf:mY p.sig f)(env:List Tm)(hv:da p.sig env)(e:Tm)(he:cy p.sig env.length e)(o:Nat->ab)(nx:Nat)(hg:Good o nx)(K X:V->(Nat->ab)->Nat->Prop)
 (hK:∀o' nx',nx<=nx'->Good o' nx'->(∀j,j<nx->o' j=o j)->K (.d (.bool (aR p f env e))) o' nx'):
 cR Tryz.prog 52 [.d p.d, .d (.sl (env.map Tm.d)), .d e.d, .d f.d] o nx K X:=by
 have hc:=KQ hp hw f hf env e hv he
 refine cR.KT mix Vr Vq ao ?_
 rw[Zq,c52]
 refine iZ ?_
 cases g:aR p f env e with
 |false=>
  rw[g,bP]at hc
  rw[g]at hK
  refine ew hc rfl ?_
  refine iZ ?_
  refine xp ao ?_
  rw[c92]
  simp+contextual (disch:=first|omega|simp only[go_sem,false_implies]) only[go_sem,wrap64,if_pos,SI,Nat.add_assoc,Nat.left_eq_add,Nat.add_eq_left,Nat.add_left_cancel_iff]
  simp+contextual (disch:=first|omega|simp only[go_sem,false_implies]) only[go_sem,wrap64,if_pos,B3,oJ,Nat.add_assoc,Nat.left_eq_add,Nat.add_eq_left,Nat.add_left_cancel_iff]
  exact hK _ _ af dE (fun j hj=>by(repeat(first|rfl|rw[ae]|rw[ak _ _ _ _ (by omega)])))
 |true=>
  rw[g,e8]at hc
  rw[g]at hK
  refine ah hc rfl ?_
  refine iZ ?_
  refine xp ao ?_
  rw[c92]
  simp+contextual (disch:=first|omega|simp only[go_sem,false_implies]) only[go_sem,wrap64,if_pos,abt,Nat.add_assoc,Nat.left_eq_add,Nat.add_eq_left,Nat.add_left_cancel_iff]
  exact hK _ _ af dE (fun j hj=>by(repeat(first|rfl|rw[ae]|rw[ak _ _ _ _ (by omega)])))
theorem abu{σ:Type}(l:List Int)(hl:l.length<=9223372036854775807)(g:Nat)(aK:List V)(base:Nat)(H:σ->Nat->ab)(step:σ->Int->σ×Bool)(hc:∀r∈V.aO aK,r<base)(ok:σ->Prop)(bw:∀x∈l,∀s,ok s->(step s x).2=true->ok (step s x).1)
 (h:∀x∈l,∀s,ok s->gv Tryz.prog g (.d (.i x)::aK) base (H s) (H (step s x).1) (.d (.bool (!(step s x).2)))) (s:σ) (gQ:ok s):
 gv Tryz.prog 167 [.d (.sl (l.map D.i)), .func (.func g) [] aK] base (H s) (H (aC step s l).1) (.d (.i (mm step s l 0))):=by
 intro o nx hI K X hK
 have fZ:∀r∈V.aO aK,r<nx:=fun r hr=>Nat.lt_of_lt_of_le (hc r hr) hI.le
 refine cR.ay mix VU ao ?_
 rw[ZT]
 refine b8 ?_
 refine aH (fun i:Nat×σ×(Nat->ab)×Nat=>⟨br [.d (.sl (l.map D.i)), .func (.func g) [] aK, .aa, .aa, .aa, .aa, .aa, .d (.i l.length), .d (.i i.1)],i.2.2.1,i.2.2.2⟩)
  (fun i=>i.1<=l.length/\c0 base (H i.2.1) i.2.2.1 i.2.2.2/\nx<=i.2.2.2/\(∀id,base<=id->id<nx->i.2.2.1 id=o id)/\aC step s l=aC step i.2.1 (l.drop i.1)/\ok i.2.1/\mm step s l 0=mm step i.2.1 (l.drop i.1) i.1) (fun i=>l.length - i.1) (0,s,o,nx)
  ⟨Nat.zero_le _,hI,Nat.le_refl _,fun _ _ _=>rfl,rfl,gQ,rfl⟩ ?_ ?_
 ·exact I6
 rintro⟨k,s',o',nx'⟩ ⟨hk,sy,hn,dF,hf,lr,qy⟩
 simp only at hk sy hn dF hf lr qy
 refine b8 ?_
 refine aj (fun h1=> ?_) (fun h1=> ?_)
 ·simp at h1
  obtain⟨x,hx⟩:=ai h1
  have cp:=List.mem_of_getElem? hx
  have hd:l.drop k=x::l.drop (k+1):=by
   exact I5
  rw[hd]at hf qy
  simp only[aC,mm]at hf qy
  refine IV hx ?_
  refine dg (h x cp s' lr _ _ (sy.mono af) _ _ fun o2 n2 m1 m2 m3=> ?_)
  cases hb:(step s' x).2 with
  |true=>
   rw[hb]at hf qy
   simp only[if_true]at hf qy
   refine aU ?_
   have D2:∀r∈V.aO aK,r<n2+1+1:=fun r hr=>by have:=fZ r hr;omega
   exact XH
  |false=>
   exact QE
 ·exact QG
theorem EP{σ:Type}(l:List Int)(hl:l.length<=9223372036854775807)(g:Nat)(aK:List V)(base:Nat)(H:σ->Nat->ab)(step:σ->Int->σ×Bool)(hc:∀r∈V.aO aK,r<base)(ok:σ->Prop)(bw:∀x∈l,∀s,ok s->(step s x).2=true->ok (step s x).1)
 (h:∀x∈l,∀s,ok s->gv Tryz.prog g (.d (.i x)::aK) base (H s) (H (step s x).1) (.d (.bool (!(step s x).2)))) (s:σ) (gQ:ok s):
 gv Tryz.prog 126 [.d (.sl (l.map D.i)), .func (.func g) [] aK] base (H s) (H (aC step s l).1) (.d (.bool (!(aC step s l).2))):=by
 intro o nx hI K X hK
 have fZ:∀r∈V.aO aK,r<nx:=fun r hr=>Nat.lt_of_lt_of_le (hc r hr) hI.le
 refine cR.ay mix Vz ao ?_
 rw[Zy]
 refine iZ ?_
 refine bn (abu l hl g aK base H step hc ok bw h s gQ _ _ ?_ _ _ fun o2 n2 m1 m2 m3=> ?_)
 ·exact Cq
 refine iZ ?_
 have e:decide (0<=mm step s l 0)= !(aC step s l).2:=by
  have:=u5 step l s 0 af
  exact G5
 rw[e]
 exact Lz
theorem ahb{x:Int}{g:Nat}{aK:List V}{base c bx:Nat}{h h2 O:Nat->ab}{r:Bool}(hS:gv Tryz.prog g (.d (.i x)::aK) base h h2 (.d (.bool r)))(hb:base<=bx)(S3:bx<c)(hO:O bx= .row [.func (.func g) [] aK])(hc:∀r∈V.aO aK,r<base):
 gv Tryz.prog 127 [.d (.i x), .ptr bx 0] c (ext base h O) (ext base h2 O) (.d (.bool (!r))):=by
 intro o nx hI K X hK
 have hle:=hI.le
 have fZ:∀r∈V.aO aK,r<nx:=fun r hr=>by have:=hc r hr;omega
 have ho:o bx= .row [.func (.func g) [] aK]:=by
  exact LC
 have y1:∀k,bx≠nx+k:=fun k=>af
 have y2:bx≠nx:=af
 refine cR.ay mix VA ao ?_
 rw[Zz]
 refine Ax ho y1 y2 ?_
 refine dg ((hS.ext (by omega:base<=c) O) _ _ ?_ _ _ fun o2 n2 m1 m2 m3=> ?_)
 ·exact Cq
 refine iZ ?_
 exact Lz
theorem KU{σ:Type}(l:List Int)(hl:l.length<=9223372036854775807)(g:Nat)(aK:List V)(base:Nat)(H:σ->Nat->ab)(step:σ->Int->σ×Bool)(hc:∀r∈V.aO aK,r<base)(ok:σ->Prop)(bw:∀x∈l,∀s,ok s->(step s x).2=true->ok (step s x).1)
 (h:∀x∈l,∀s,ok s->gv Tryz.prog g (.d (.i x)::aK) base (H s) (H (step s x).1) (.d (.bool (step s x).2))) (s:σ) (gQ:ok s):
 gv Tryz.prog 90 [.d (.sl (l.map D.i)), .func (.func g) [] aK] base (H s) (H (aC step s l).1) (.d (.bool (aC step s l).2)):=by
 intro o nx hI K X hK
 have hle:=hI.le
 have fZ:∀r∈V.aO aK,r<nx:=fun r hr=>Nat.lt_of_lt_of_le (hc r hr) hI.le
 refine cR.ay mix aeJ ao ?_
 rw[c90]
 refine iZ ?_
 refine bn (EP l hl 127 [.ptr nx 0] (nx+1) (fun s=>ext base (H s) (aM o nx (.row [.func (.func g) [] aK]))) step nk ok bw (fun x hx s hs=>ahb (h x hx s hs) hle af (ae _ _ _) hc) s gQ _ _ ?_ _ _ fun o2 n2 m1 m2 m3=> ?_)
 ·have hr:(ab.row [V.func (.func g) [] aK]).refs.all (fun r=>decide (r<nx+4))=true:=by
   rw[List.all_eq_true]
   intro r hr
   have h1:r∈V.aO aK:=by simpa[ab.refs,V.aO,V.refs]using hr
   have:=fZ r h1
   simp;omega
  exact LB
 refine iZ ?_
 refine hK _ _ af ⟨(m2.mono af).bX,by have:=m2.le;omega,fun id aG=> ?_⟩ fun id i1 i2=> ?_
 ·exact AB
 ·exact Lw
theorem B4(l:List Int)(hl:l.length<=9223372036854775807)(g:Nat)(aK:List V)(base:Nat)(h:Nat->ab)(p:Int->Bool)(hc:∀r∈V.aO aK,r<base)
 (hp:∀x∈l,gv Tryz.prog g (.d (.i x)::aK) base h h (.d (.bool (p x)))):gv Tryz.prog 90 [.d (.sl (l.map D.i)), .func (.func g) [] aK] base h h (.d (.bool (l.all p))):=by
 have:=KU l hl g aK base (fun _:Unit=>h) (fun _ x=>((),p x)) hc (fun _=>True) (fun _ _ _ _ _=>trivial) (fun x hx _ _=>hp x hx) () trivial
 exact GQ
end Go.Proofs.YtonbelhklnmjnaaGreat
section
namespace Go.Proofs.YtonbelhklnmjnaaGreat
open Go.Sort Go.RowKit
def ER(P:Program)(g:FuncId):Prop:=∀ (fk off cap:Nat) (zs:List Int) (w:World),Holds (Value.int .i64) w fk off zs.toArray->fk<w.heap.size->zs.length<4611686018427387904->
    Calls P g #[.slice (some ⟨fk,off,none⟩) zs.length cap] w fun e w'=>
     e= .returned (.tuple #[])/\∃n os,w'=grow (putRow (Value.int .i64) (Sort.ahead w n) fk off (zs.mergeSort fun x y=>decide (x<=y)).toArray) os
def eN(l:List Int):List Int:=l.mergeSort fun x y=>decide (x<=y)
theorem ID{B:Nat->Prop}{w:World}:∀ (zs:List Int) (xs:List Value),gW B w 1 (zs.map (D.int .i64)) xs↔xs=zs.map (Value.int .i64):=by
 have hd:∀ (zs:List Int) (evs:List Value),D.aP B w (zs.map (D.int .i64)) evs↔evs=zs.map (Value.int .i64):=by
  intro zs
  induction zs with
  |nil=>intro evs;simp[D.aP]
  |cons z zs ih=>
   intro evs
   simp only[List.map_cons,D.aP]
   constructor
   ·rintro⟨v,vs,rfl,h1,h2⟩
    rw[(ih vs).1 h2]
    simp only[D.den]at h1
    rw[h1]
   ·intro h
    exact⟨_,_,h,rfl,(ih _).2 rfl⟩
 have hf:∀zs:List Int,(zs.map (Value.int .i64)).flatMap (·.cells.toList)=zs.map (Value.int .i64):=by
  intro zs
  induction zs with
  |nil=>rfl
  |cons z zs ih=>simp only[List.map_cons,List.flatMap_cons,ih];rfl
 intro zs xs
 constructor
 ·rintro⟨evs,h1,h2,h3⟩
  rw[h1,(hd zs evs).1 h3,hf]
 ·intro h
  subst h
  exact⟨_,(hf zs).symm,fun ev dX=>by
   obtain⟨z,_,rfl⟩:=List.mem_map.1 dX
   rfl,(hd zs _).2 rfl⟩
theorem PG{P:Program}{g:FuncId}(hE:Enters P g)(hS:ER P g){o:Nat->ab}{nx id ep:Nat}{ty:TypeId}{zs:List Int}(ho:o id= .arr ep ty 1 (zs.map (D.int .i64)))
 (hn:∀p cap w,Calls P g #[.slice p 0 cap] w fun e w'=>e= .returned (.tuple #[])/\w'=w)
 (hlen:zs.length<4611686018427387904) {K X:V->(Nat->ab)->Nat->Prop} (hK:K (.cn []) (aM o id (.arr ep ty 1 ((eN zs).map (D.int .i64)))) nx):cR P g [.osl id ep] o nx K X:=by
 refine⟨hE,fun M φ w vals hH hd=> ?_⟩
 obtain⟨val,us,qJ,⟨v0,v1,v2⟩,gu⟩:=hd
 have gu:us=[]:=gu
 subst gu
 have gG:val=φ id:=(v2 ep (by show(o id).cJ=some ep;rw[ho];rfl)).2 rfl
 have hvs:vals=#[φ id]:=by rw[<- gG];exact Array.ext' (by simpa using qJ)
 subst hvs
 have ND:=hH.ok id
 unfold bf at ND
 rw[show(hp o nx).o id= .arr ep ty 1 (zs.map (D.int .i64))from ho]at ND
 obtain⟨_,xs,dY,cz⟩:=ND
 have CS:=(ID zs xs).1 cz
 subst CS
 simp only[List.length_map]at dY
 obtain⟨hl,X9|⟨b,cap,cur,fE,_,hg,fZ,Fm,hcs,ahc⟩⟩:=dY
 ·obtain⟨h1,h2⟩:=X9
  have hz:zs=[]:=List.length_eq_zero_iff.1 h2
  subst hz
  rw[h1]
  refine(hn none 0 w).mono ?_
  rintro e w' ⟨rfl,rfl⟩
  have MX:aM o id (.arr ep ty 1 ((eN []).map (D.int .i64)))=o:=by
   funext j
   by_cases e:j=id
   ·subst e;rw[ae,ho,show eN []=[] by simp[eN]]
   ·rw[ak _ _ _ _ e]
  rw[MX]at hK
  exact⟨φ,o,nx, .cn [],hH,Trans.refl _ _ _,⟨#[],rfl,rfl⟩,hK⟩
 ·rw[fE]
  have hb:b<w.heap.size:=(Array.getElem?_eq_some_iff.1 hg).1
  have ahd:∀j,j<zs.length->cur[j]? =some (.int .i64 zs[j]!):=by
   intro j hj
   have h1:(cur.toList.take (zs.length*1))[j]? =(zs.map (Value.int .i64))[j]? :=by rw[ahc]
   rw[List.getElem?_take_of_lt (by omega),List.getElem?_map,List.getElem?_eq_getElem hj]at h1
   simp only[Option.map_some]at h1
   rw[getElem!_pos zs j hj]
   simpa using h1
  refine(hS b 0 cap zs w (fun j hj=> ?_) hb hlen).mono ?_
  ·simp only[List.size_toArray]at hj
   refine⟨?_, ?_⟩
   ·unfold World.cell?
    simp only[hg,Option.isSome_none,Bool.false_eq_true,if_false,Nat.zero_add]
    rw[ahd j hj];simp
   ·unfold World.frozen?
    simp[hg]
  rintro e w' ⟨rfl,n,os,rfl⟩
  have Y1:(eN zs).length=zs.length:=List.length_mergeSort zs
  have H3:∀k,k<w.heap.size->(grow (putRow (Value.int .i64) (Sort.ahead w n) b 0 (eN zs).toArray) os).heap[k]? =(w.heap.modify b (onCells (putCells (Value.int .i64) 0 (eN zs).toArray)))[k]? :=by
   intro k hk
   unfold grow putRow mapBlock Sort.ahead
   simp only
   rw[Array.getElem?_append_left (by simpa using hk)]
  have zg:fg (· =b) w (grow (putRow (Value.int .i64) (Sort.ahead w n) b 0 (eN zs).toArray) os):=by
   refine⟨rfl,rfl,rfl, ?_,fun k hk il=> ?_⟩
   ·unfold grow putRow mapBlock Sort.ahead;simp
   ·rw[H3 k hk,Array.getElem?_modify,if_neg (fun e=>il e.symm)]
  have dm:((hp o nx).o id).live=true:=by show(o id).live=true;rw[ho];rfl
  have JC:fk (φ id)=some b:=by rw[fE];rfl
  have X8:(grow (putRow (Value.int .i64) (Sort.ahead w n) b 0 (eN zs).toArray) os).heap[b]? =some (.cells (putCells (Value.int .i64) 0 (eN zs).toArray cur) ty (0,0)):=by
   rw[H3 b hb,Array.getElem?_modify,if_pos rfl,hg];rfl
  have lN:(hp o nx).put [(id, .arr ep ty 1 ((eN zs).map (D.int .i64)))]=hp (aM o id (.arr ep ty 1 ((eN zs).map (D.int .i64)))) nx:=by
   have gu:id<nx:=v1
   simp only[Hp.put,hp]
   congr 1
   funext j
   simp only[List.map_cons,List.map_nil,List.mem_singleton,eq_iff_iff]
   exact⟨fun h=>h.elim (fun h=>h) (fun e=>e ▸ gu), .inl⟩
  have vB:bf M φ ((hp o nx).put [(id, .arr ep ty 1 ((eN zs).map (D.int .i64)))]) (grow (putRow (Value.int .i64) (Sort.ahead w n) b 0 (eN zs).toArray) os) id:=by
   unfold bf
   rw[show((hp o nx).put [(id, .arr ep ty 1 ((eN zs).map (D.int .i64)))]).o id= .arr ep ty 1 ((eN zs).map (D.int .i64)) by simp]
   refine⟨bG,(eN zs).map (Value.int .i64), ?_,(ID _ _).2 rfl⟩
   simp only[List.length_map,Y1]
   refine⟨by simp[Y1], .inr ⟨b,cap,_,fE,Nat.zero_le _,X8,fZ,Fm, ?_, ?_⟩⟩
   ·unfold putCells;simpa using hcs
   ·apply List.ext_getElem?
    intro j
    by_cases hj:j<zs.length
    ·rw[List.getElem?_take_of_lt (by omega),List.getElem?_map,List.getElem?_eq_getElem (l:=eN zs) (by omega)]
     have hj2:j<cur.size:=af
     unfold putCells
     simp only[Array.getElem?_toList,Array.getElem?_mapIdx,Option.map_some]
     rw[Array.getElem?_eq_getElem hj2]
     simp only[Option.map_some,Nat.zero_le,true_and,Nat.zero_add,List.size_toArray,Nat.sub_zero]
     rw[if_pos (by omega)]
     rw[getElem!_pos _ j (by simp;omega)]
     simp
    ·rw[List.getElem?_eq_none (by rw[List.length_take,Nat.mul_one];exact Nat.le_trans (Nat.min_le_left _ _) (Nat.not_lt.1 hj)),List.getElem?_eq_none (by rw[List.length_map,Y1];exact Nat.not_lt.1 hj)]
  have W9:=jh hH (id:=id) v1 dm JC zg (.arr ep ty 1 ((eN zs).map (D.int .i64))) QB QB vB
  have Vi:=fM (φ:=φ) (H:=hp o nx) (id:=id) v1 dm JC zg (.arr ep ty 1 ((eN zs).map (D.int .i64))) QB QB
  rw[lN]at W9 Vi
  exact⟨φ,_,nx, .cn [],W9,Vi,⟨#[],rfl,rfl⟩,hK⟩
end Go.Proofs.YtonbelhklnmjnaaGreat
end
section
namespace Go.Proofs.YtonbelhklnmjnaaGreat
open Go.Shelf
def ES:Go.Shelf.Ren:=⟨fun|189=>125|125=>166|257=>165|128=>216|129=>217|294=>207|295=>208|296=>209|297=>210|298=>211|299=>212|216=>213|300=>214|301=>215|328=>248|329=>249|330=>250|331=>251|332=>252|215=>253|343=>260|n=>n,fun|28=>41|3=>3|46=>172|0=>0|51=>206|53=>208|4=>4|183=>198|182=>197|131=>203|5=>5|9=>9|218=>220|222=>137|228=>227|229=>228|n=>n,fun|n=>n⟩
theorem IE:Go.Proofs.Lays.n189 Tryz.prog ES:={
 mixed:=ag
 f125:=Tryz.func166.trans (congrArg some ag)
 f128:=Tryz.func216.trans (congrArg some ag)
 f129:=Tryz.func217.trans (congrArg some ag)
 f189:=Tryz.func125.trans (congrArg some ag)
 f215:=Tryz.func253.trans (congrArg some ag)
 f216:=Tryz.func213.trans (congrArg some ag)
 f257:=Tryz.func165.trans (congrArg some ag)
 f294:=Tryz.func207.trans (congrArg some ag)
 f295:=Tryz.func208.trans (congrArg some ag)
 f296:=Tryz.func209.trans (congrArg some ag)
 f297:=Tryz.func210.trans (congrArg some ag)
 f298:=Tryz.func211.trans (congrArg some ag)
 f299:=Tryz.func212.trans (congrArg some ag)
 f300:=Tryz.func214.trans (congrArg some ag)
 f301:=Tryz.func215.trans (congrArg some ag)
 f328:=Tryz.func248.trans (congrArg some ag)
 f329:=Tryz.func249.trans (congrArg some ag)
 f330:=Tryz.func250.trans (congrArg some ag)
 f331:=Tryz.func251.trans (congrArg some ag)
 f332:=Tryz.func252.trans (congrArg some ag)
 f343:=Tryz.func260.trans (congrArg some ag)
 t0:=Tryz.underlying0
 a0:=Tryz.isAgg0
 z0:=Tryz.sizeOf0
 v0:=Tryz.zeroValue0
 t3:=Tryz.underlying3
 a3:=Tryz.isAgg3
 z3:=Tryz.sizeOf3
 v3:=Tryz.zeroValue3
 t4:=Tryz.underlying4
 a4:=Tryz.isAgg4
 z4:=Tryz.sizeOf4
 v4:=Tryz.zeroValue4
 t5:=Tryz.underlying5
 a5:=Tryz.isAgg5
 z5:=Tryz.sizeOf5
 v5:=Tryz.zeroValue5
 t9:=Tryz.underlying9
 a9:=Tryz.isAgg9
 z9:=Tryz.sizeOf9
 v9:=Tryz.zeroValue9
 t28:=Tryz.underlying41
 a28:=Tryz.isAgg41
 z28:=Tryz.sizeOf41
 v28:=Tryz.zeroValue41
 t46:=Tryz.underlying172
 a46:=Tryz.isAgg172
 z46:=Tryz.sizeOf172
 v46:=Tryz.zeroValue172
 t51:=Tryz.underlying206
 a51:=Tryz.isAgg206
 z51:=Tryz.sizeOf206
 v51:=Tryz.zeroValue206
 t53:=Tryz.underlying208
 a53:=Tryz.isAgg208
 z53:=Tryz.sizeOf208
 v53:=Tryz.zeroValue208
 t131:=Tryz.underlying203
 a131:=Tryz.isAgg203
 z131:=Tryz.sizeOf203
 v131:=Tryz.zeroValue203
 t182:=Tryz.underlying197
 a182:=Tryz.isAgg197
 z182:=Tryz.sizeOf197
 v182:=Tryz.zeroValue197
 t183:=Tryz.underlying198
 a183:=Tryz.isAgg198
 z183:=Tryz.sizeOf198
 v183:=Tryz.zeroValue198
 t218:=Tryz.underlying220
 a218:=Tryz.isAgg220
 z218:=Tryz.sizeOf220
 v218:=Tryz.zeroValue220
 t222:=Tryz.underlying137
 a222:=Tryz.isAgg137
 z222:=Tryz.sizeOf137
 v222:=Tryz.zeroValue137
 t228:=Tryz.underlying227
 a228:=Tryz.isAgg227
 z228:=Tryz.sizeOf227
 v228:=Tryz.zeroValue227
 t229:=Tryz.underlying228
 a229:=Tryz.isAgg228
 z229:=Tryz.sizeOf228
 v229:=Tryz.zeroValue228}
theorem KW:ER Tryz.prog 125:=fun fk off cap zs w h1 h2 h3=>Any.slices_Sort_int IE fk off cap zs w h1 h2 h3
theorem KY:∀ (p:Option Addr) (cap:Nat) (w:World),Calls Tryz.prog 125 #[.slice p 0 cap] w fun e w'=>e= .returned (.tuple #[])/\w'=w:=fun p cap w=>Any.slices_Sort_int_none IE p cap w
theorem ET:Enters Tryz.prog 125:=⟨_,Tryz.func125,ag,ag⟩
end Go.Proofs.YtonbelhklnmjnaaGreat
end
namespace Go.Proofs.YtonbelhklnmjnaaGreat
theorem PH(t:Tm)(ht:t.fits)(o:Nat->ab)(nx:Nat)(hg:Good o nx)(K X:V->(Nat->ab)->Nat->Prop)
 (hK:∀o' nx' id l,nx<=id->id<nx'->Good o' nx'->(∀j,j<nx->o' j=o j)->o' id=uI l->l.Nodup->(∀v,v∈l↔tj v t=true)->K (.mp id) o' nx'):
 cR Tryz.prog 124 [.d t.d] o nx K X:=by
 refine cR.ay mix Vy ao ?_
 rw[Zx]
 refine iZ ?_
 refine cW (aa8 t ht _ _ (nx+2) [] ?_ ?_ List.nodup_nil _ _ fun o2 n2 l m1 m2 m3 m4 m5=> ?_)
 ·exact dE
 ·exact dn
 refine aU ?_
 refine hK _ _ (nx+2) l ?_ ?_ ?_ (fun j hj=> ?_) m4 m5.1 (fun v=> ?_)
 ·omega
 ·omega
 ·exact m2.mono af
 ·rw[m3 j (by omega) (by omega)];(repeat(first|rfl|rw[ae]|rw[ak _ _ _ _ (by omega)]))
 ·have:=m5.2 v
  simpa using this
theorem EU{l:List Int}{t:Tm}(hn:l.Nodup)(h:∀v,v∈l↔tj v t=true):eN l=bp t:=by
 have hp:(eN l).Perm l:=List.mergeSort_perm _ _
 have hs:(eN l).Pairwise (fun a b=>decide (a<=b)=true):=List.pairwise_mergeSort (fun a b c h1 h2=>by simp at*;omega) (fun a b=>by simp;omega) l
 have hnd:(eN l).Nodup:=hp.nodup_iff.2 hn
 refine OJ ?_ (dZ t).1 fun v=>by rw[hp.mem_iff,h v,(dZ t).2 v]
 exact(hs.and hnd).imp fun {a b} h=>by have:=h.1;have:=h.2;simp at*;omega
theorem abv(s:aV)(hs:s.Fits)(t:Tm)(ht:t.Fin):aQ Tryz.prog 89 [s.d,t.d] (.ret [.sl (if dh s [t]=true then(bp t).map .i else []), .i (m9 (dh s [t]))]):=by
 refine aQ.ay mix aeI ao ?_
 rw[c89]
 refine aU ?_
 refine ah (BC s hs [t] ao (fun x hx=>by simp at hx;subst hx;exact ht)) rfl ?_
 cases h1:dh s [t]with
 |false=>exact IX
 |true=>
  refine aU ?_
  refine cW (PH t ht.fits _ _ dE _ _ fun o2 n2 id l m1 m2 m3 m4 m5 m6 m7=> ?_)
  have w1:id≠n2:=af
  have w2:∀k,id≠n2+k:=fun k=>af
  refine Ax m5 w1 w2 ?_
  have ajo:=EU m6 m7
  have hlen:l.length<=40:=by
   have e1:(eN l).length=l.length:=List.length_mergeSort l
   have e2:=fq t
   have e3:=(Kl h1 t ao).1
   rw[<- ajo]at e2;omega
  refine aH (fun i:List Int×List Int×Option (D×D)=>⟨br [.aa, .aa, .aa, .aa, .aa, .aa, .osl (n2+1) 0, .aa, .aa, .aa, .aa, .aa, .aa, .aa, .aa, .ptr n2 0],aM (aM (fun _=> .no) n2 (.nD (enc (D.int .i64) (iT i.1)) i.2.2)) (n2+1) (.arr 0 3 1 (i.2.1.map .i)),n2+2⟩)
   (fun i=>i.1.length+i.2.1.length<=40/\(i.2.1++i.1).Perm l) (fun i=>i.1.length) (l,[],none) ⟨by simpa using hlen,ao⟩ (bM.jP (fun _=>False) .bO (n2+1) _ af (fun j hj=> ?_) S4 (.inl ⟨rfl,rfl,bG⟩) (fun j hj=>by dsimp only;(repeat(first|rfl|rw[ae]|rw[ak _ _ _ _ (by omega)]))) (fun _ h=>h.elim) ?_) ?_
  ·dsimp only
   have ne:j≠n2+1:=af
   simp only[aW,ne,if_false]
   split
   ·exact bE rfl (by simp[ab.refs])
   ·exact HZ
  ·try dsimp only
   exact oP
  rintro⟨rest,Xa,last⟩ ⟨hl,hp⟩
  simp only at hl hp
  refine aU ?_
  refine zZ (fun hr=> ?_) fun i m hm=> ?_
  ·subst hr
   refine iZ ?_
   have hp':Xa.Perm l:=by simpa using hp
   have hsd:eN Xa=bp t:=EU (hp'.nodup_iff.2 m6) fun v=>by rw[hp'.mem_iff,m7 v]
   refine cW (PG ET KW (zs:=Xa) dn KY af ?_)
   refine iZ ?_
   rw[hsd]
   simp[m9]
  ·have e1:Xa.length<=140737488355328:=af
   have e2:Xa.length*8<=140737488355328:=af
   have e3:Xa.length<=140737488355327:=af
   have e4:(Xa.length+1)*8<=140737488355328:=af
   simp+contextual (disch:=first|omega|simp only[go_sem,false_implies]) only[go_sem,wrap64,if_pos,Nat.add_assoc,Nat.left_eq_add,Nat.add_eq_left,Nat.add_left_cancel_iff,e1,e2,e3,e4]
   obtain⟨r1,r2⟩:=wP hm
   have Hj:(rest.eraseIdx i).length+1=rest.length:=r2
   refine au (rest.eraseIdx i,Xa++[m],some (.int .i64 m, .bool true)) ⟨by dsimp only;simp;omega, ?_⟩ pt (bM.jP (fun j=>j=n2+1) (.osl (n2+1) 1) (n2+1) _ af (fun j hj=> ?_) S4 (.inr ⟨n2+1,1,rfl,rfl,by rw[ae,List.map_append];rfl⟩) (fun j hj=>by dsimp only;(repeat(first|rfl|rw[ae]|rw[ak _ _ _ _ (by omega)]))) (fun j h h2=>af) ?_)
   ·dsimp only
    refine List.Perm.trans ?_ hp
    rw[List.append_assoc]
    refine List.Perm.append_left _ ?_
    exact Gq hm
   ·dsimp only
    have ne:j≠n2+1:=af
    have ne9:j≠n2+9:=af
    simp only[aW,ne,ne9,if_false]
    split
    ·exact bE rfl (by simp[ab.refs])
    ·exact HZ
   ·try dsimp only
    exact oP
end Go.Proofs.YtonbelhklnmjnaaGreat
namespace Go.Proofs.YtonbelhklnmjnaaGreat
theorem PI(env:List Tm)(hl:env.length<=9223372036854775807)(n:Int)(base sp:Nat)(h:Nat->ab)(vF:h sp= .row [.d (.sl (env.map Tm.d))])(hb:sp<base):gv Tryz.prog 91 [.d (.i n), .ptr sp 0] base h h (.d (.bool (decide (n<env.length)))):=by
 intro o nx hI K X hK
 have hle:=hI.le
 have hg:=hI.bX
 have q0:o sp= .row [.d (.sl (env.map Tm.d))]:=by rw[hI.eq sp hb,vF]
 refine cR.ay mix aeK ao ?_
 rw[c91]
 refine dW q0 ?_
 exact hK _ _ af ⟨dE,af,fun j hj=>hI.eq j hj⟩ (fun j g1 g2=>rfl)
def xq(p:Pg)(env:List Tm)(e:Tm)(f:Pf):Bool:=((rP p&&lu p.sig env)&&ud p.sig f)&&(dh p.sig [e]&&(bp e).all fun n=>decide (n<(env.length:Int)))
theorem EV(p:Pg)(hp:p.Fin)(env:List Tm)(hl:env.length<=9223372036854775807)(hv:∀t∈env,t.fits)(e:Tm)(he:e.yf)(f:Pf)(hf:f.fits)(hd:f.fR<=900000):
 aQ Tryz.prog 51 [p.d, .sl (env.map Tm.d),e.d,f.d] (.ret [.bool (xq p env e f)]):=by
 have P9:=fq e
 have hz:=he.size
 rw[Tm.kY]at hz
 refine aQ.ay mix aew ao ?_
 rw[c51,xq]
 refine aU ?_
 refine ah (OE p hp) rfl ?_
 cases h1:rP p with
 |false=>exact acr
 |true=>
 refine Ci ?_
 refine ah (OH p.sig hp.sig env hl hv) rfl ?_
 cases h2:lu p.sig env with
 |false=>exact dM
 |true=>
 refine aU ?_
 refine ah (Gm p hp f hf hd) rfl ?_
 cases h3:ud p.sig f with
 |false=>exact dM
 |true=>
 refine aU ?_
 refine aT (abv p.sig hp.sig e he.toFin) ?_
 cases h4:dh p.sig [e]with
 |false=>exact acr
 |true=>
 refine Ci ?_
 refine bn (B4 (bp e) af 91 [.ptr 1 0] 4 (aM (aM (aM (aM (fun _=> .no) 0 (.row p.row)) 1 (.row [.d (.sl (env.map Tm.d))])) 2 (.row e.row)) 3 (.row f.row)) (fun n=>decide (n<(env.length:Int))) nk (fun x hx=>PI env hl x 4 1 _ dn af) _ _ ⟨dE,af,fun id aG=>rfl⟩ _ _ fun o2 n2 m1 m2 m3=> ?_)
 exact dM
section
structure eH (p:Pg) (env:List Tm) (e:Tm) (f:Pf):Prop where
 pf:p.Fits
 ps:gN p=true
 vf:∀t∈env,t.fits
 vs:gr env=true
 ef:e.fits
 es:iO e=true
 ff:f.fits
 fs:jM f=true
section
variable {p:Pg}{env:List Tm}{e:Tm}{f:Pf}
theorem eH.few (h:eH p env e f):p.Fw:=Ku h.pf h.ps
theorem eH.fin (h:eH p env e f):p.Fin:=(Ag h.pf h.ps).1
theorem eH.prog (h:eH p env e f):rP p=eX p:=Sg p (Ag h.pf h.ps).2
theorem eH.abw (h:eH p env e f):env.length<=25:=by have:=h.vs;simp only[gr,Bool.and_eq_true,decide_eq_true_eq]at this;exact this.1
theorem eH.abx (h:eH p env e f):e.yf:=Tm.yf.Of h.ef h.es
theorem eH.fsz (h:eH p env e f):f.sh.sz<=520/\f.fR<=160:=by
 have:=h.fs
 simp only[jM,Bool.and_eq_true,decide_eq_true_eq,dD,Gv]at this
 omega
end
theorem IF{l:List Int}(hi:Qm l)(n:Int):(l.all fun v=>decide (v<n))=(l.length==0||decide (l.getLast?.getD 0<n)):=by
 cases hl:l.getLast? with
 |none=>rw[List.getLast?_eq_none_iff]at hl;subst hl;rfl
 |some y=>
  have il:l≠[]:=by intro h;subst h;cases hl
  have hlen:(l.length==0)=false:=by simpa using il
  rw[hlen,Bool.false_or,Option.getD_some,Bool.eq_iff_iff,List.all_eq_true,decide_eq_true_eq]
  constructor
  ·intro h;simpa using h y (List.mem_of_getLast? hl)
  ·intro h v hv
   rw[decide_eq_true_eq]
   rw[List.getLast?_eq_getElem?]at hl
   obtain⟨i,X4,e⟩:=List.getElem_of_mem hv
   obtain⟨h1,h2⟩:=List.getElem?_eq_some_iff.1 hl
   by_cases hc:i=l.length - 1
   ·subst hc;rw[h2]at e;omega
   ·have:=(List.pairwise_iff_getElem.1 hi) i (l.length - 1) X4 h1 af
    rw[e,h2]at this;omega
theorem EW{p:Pg}{env:List Tm}{e:Tm}{f:Pf}(h:eH p env e f):xq p env e f=(eX p&&ej p.sig f&&gU p.sig env e):=by
 unfold xq gU
 rw[h.prog,Sh]
 cases h1:eX p with
 |false=>rfl
 |true=>
  have hsg:kU p.sig=true:=by simp only[eX,Bool.and_eq_true]at h1;exact h1.1.1
  have hr:dh p.sig [e]=eh p.sig e:=by unfold dh;simp[hsg,qo]
  rw[hr,IF (dZ e).1]
  cases lu p.sig env<;>cases ej p.sig f<;>cases eh p.sig e<;>simp
structure PJ (p:Pg) (env:List Tm) (e:Tm) (f:Pf):Prop where
 prog:iV p
 few:p.Fw
 ev:da p.sig env
 exp:cy p.sig env.length e
 pf:mY p.sig f
theorem KZ{s:aV}{t:Tm}(h:eW s t=true):∀v,tj v t=true->0<=v:=by
 have key:∀t:Tm,eW s t=true->∀v,tj v t=true->0<=v:=by
  refine Tm.cc fun t ih h v hv=> ?_
  rw[dQ,Bool.and_eq_true,List.all_eq_true]at h
  rw[hZ]at hv
  by_cases h1:t.op=1
  ·rw[if_pos h1]at hv
   have e:t.n=v:=by simpa using hv
   have hn:=h.1
   simp[bz,h1,cF]at hn
   omega
  ·rw[if_neg h1]at hv
   have:∀ (l:List Tm) (i:Nat),(∀k∈l,k∈t.kids)->iF v t.op t.n l i=true->0<=v:=by
    intro l
    induction l with
    |nil=>intro i _ h;simp[iF]at h
    |cons k l nh=>
     intro i hk hv
     simp only[iF,Bool.or_eq_true,Bool.and_eq_true]at hv
     rcases hv with hv|hv
     ·exact ih k (hk k ao) (h.2 k (hk k ao)) v hv.1
     ·exact nh _ (fun x hx=>hk x lW) hv
   exact this t.kids 0 (fun _ h=>h) hv
 exact key t h
theorem GK{p:Pg}{env:List Tm}{e:Tm}{f:Pf}(h:eH p env e f)(h1:eX p=true)(h2:ej p.sig f=true)(h3:gU p.sig env e=true):PJ p env e f:=by
 simp only[gU,Bool.and_eq_true]at h3
 obtain⟨⟨a,b⟩,c⟩:=h3
 simp only[ej,Bool.and_eq_true]at h2
 refine⟨⟨h.fin,h1⟩,h.few,OP h.vf a,⟨h.ef,jv b,fun v hv=>⟨KZ (jv b) v hv, ?_⟩⟩,⟨h.ff,h2.2,by have:=h.fsz;omega⟩⟩
 rw[<- IF (dZ e).1,List.all_eq_true]at c
 simpa using c v (((dZ e).2 v).2 hv)
def SJ(p:Pg)(env:List Tm)(e:Tm)(f:Pf):Tm×Int:=if(eX p&&ej p.sig f&&gU p.sig env e)=true then(if aR p f env e=true then(f.val,0)else(Ss,7))else(Ss,2)
theorem PK{p:Pg}{env:List Tm}{e:Tm}{f:Pf}(h:eH p env e f):aQ Tryz.prog 10 [p.d, .sl (env.map Tm.d),e.d,f.d] (.ret [(SJ p env e f).1.d, .i (SJ p env e f).2]):=by
 have P9:=h.abw
 have hg:=EV p h.fin env af h.vf e h.abx f h.ff (by have:=h.fsz;omega)
 rw[EW h]at hg
 refine aQ.ay mix aes ao ?_
 rw[Lo,SJ]
 refine aU ?_
 refine ah hg rfl ?_
 cases h1:(eX p&&ej p.sig f&&gU p.sig env e)with
 |false=>
  rw[if_neg Bool.false_ne_true,Pa]
  exact dM
 |true=>
 rw[if_pos rfl]
 have bL:=h1
 simp only[Bool.and_eq_true]at bL
 have ok:=GK h bL.1.1 bL.1.2 bL.2
 refine aU ?_
 refine cW (As ok.prog ok.few f ok.pf env ok.ev e ok.exp _ _ dE _ _ fun o1 n1 g1 g2 g3=> ?_)
 have q2:o1 2= .row f.row:=by
  rw[g3 2 (by omega)]
  exact dn
 have q3:o1 3= .row [.d (.i 0), .d (.i 0), .bO]:=by
  rw[g3 3 (by omega)]
  exact dn
 cases h2:aR p f env e with
 |false=>
  rw[if_neg Bool.false_ne_true,Pa]
  exact ve q3
 |true=>
 rw[if_pos rfl]
 have hz:=ok.pf.val.2.1
 have h20:3<n1:=af
 have y1:∀k,3≠n1+k:=fun k=>af
 refine Ax q2 q3 y1 ?_
 refine aT (xd [f.val] ao qE) ?_
 simp+contextual (disch:=first|omega|simp only[go_sem,false_implies]) only[go_sem,wrap64,if_pos,q2,q3,Nat.add_assoc,Nat.left_eq_add,Nat.add_eq_left,Nat.add_left_cancel_iff,y1]
end
def B5(t:Pf)(d:Int):List Int:=((dx t d).filter (fun x=>x.1.az==6)).map (·.1.num)
def xr(t:Pf):List Int:=if t.az=6 then [t.num]else []
theorem B6(t:Pf)(d:Int):B5 t d=xr t++t.kids.flatMap fun k=>B5 k (d+1):=by
 unfold B5 xr
 rw[o8,List.filter_cons]
 have:∀l:List Pf,((l.flatMap fun k=>dx k (d+1)).filter (fun x=>x.1.az==6)).map (·.1.num)=l.flatMap fun k=>((dx k (d+1)).filter (fun x=>x.1.az==6)).map (·.1.num):=fun l=>by
  rw[List.filter_flatMap,List.map_flatMap]
 by_cases h:t.az=6
 ·simp[h,this]
 ·simp[h,this]
theorem aby:∀ (t:Pf) (d d':Int),B5 t d=B5 t d':=by
 refine Pf.cc fun t ih d d'=> ?_
 rw[B6,B6 t d']
 congr 1
 have:∀l:List Pf,(∀k∈l,k∈t.kids)->(l.flatMap fun k=>B5 k (d+1))=l.flatMap fun k=>B5 k (d'+1):=by
  intro l
  induction l with
  |nil=>intro _;rfl
  |cons k l nh=>
   intro h
   rw[List.flatMap_cons,List.flatMap_cons,ih k (h k (by simp)) (d+1) (d'+1),nh fun x hx=>h x (by simp[hx])]
 exact this t.kids fun _ h=>h
def eg(t:Pf):List Int:=B5 t 1
theorem pk(t:Pf):eg t=xr t++t.kids.flatMap eg:=by
 unfold eg
 rw[B6]
 congr 2
 funext k
 exact aby k _ _
theorem qw(t:Pf):(eg t).length<=t.sh.sz:=by
 unfold eg B5
 rw[List.length_map, <- Ew t 1]
 exact List.length_filter_le _ _
def Cg(t:Pf):Nat:=t.sh.sz
def kn(l:List Pf):Nat:=(l.map Cg).sum
theorem xu(t:Pf):t.sh.sz=1+kn t.kids:=by
 rw[Tm.gw,Pf.mX];unfold fG kn Cg;rw[List.map_map];rfl
theorem SK(l:List Pf)(k:Nat):kn (l.take k)<=kn l:=by
 unfold kn
 conv=>rhs;rw[<- List.take_append_drop k l]
 rw[List.map_append,List.sum_append];omega
theorem IG{l:List Pf}{x:Pf}(h:x∈l):Cg x<=kn l:=by
 unfold kn
 induction l with
 |nil=>cases h
 |cons y l ih=>
  rw[List.map_cons,List.sum_cons]
  rcases List.mem_cons.1 h with e|e
  ·subst e;omega
  ·have:=ih e;omega
theorem PL(l:List Pf):(l.flatMap eg).length<=kn l:=by
 unfold kn
 induction l with
 |nil=>simp
 |cons y l ih=>
  rw[List.flatMap_cons,List.length_append,List.map_cons,List.sum_cons]
  have:=qw y
  unfold Cg at ih|-;omega
def II:IC:=c16.snd.snd.snd.fst.snd.fst.fst
theorem uk{t:Pf}(hf:t.fits)(hz:t.sh.sz<=1000000)(ih:∀k∈t.kids,k.fits->k.sh.sz<=1000000->aQ Tryz.prog 16 [k.d] (.ret [.sl ((eg k).map .i)]))(p:List Int)(hp:p.length<=1){e:Nat->V}{o:Nat->ab}{nx:Nat}{Q:gf->S->Prop}
 (hs:bM 0 ⟨e,o,nx⟩ ⟨br [.aa, .ptr 0 0, .aa, .osl 1 0, .d (.i 0)],aM (aM (fun _=> .no) 0 (.row t.row)) 1 (.arr 0 3 1 (p.map .i)),2⟩)
 (hQ:∀e' n',e' 3= .osl 1 0->Q (.exit 0) ⟨e',aM (aM (fun _=> .no) 0 (.row t.row)) 1 (.arr 0 3 1 ((p++t.kids.flatMap eg).map .i)),n'⟩):
 rB 0 (fun Q s=>ll Tryz.prog 29 0 false II Q s) Q ⟨e,o,nx⟩:=by
 have fu:=(Pf.aF _).1 hf
 have ss:=xu t
 refine aH (fun i:Nat=>⟨br [.aa, .ptr 0 0, .aa, .osl 1 0, .d (.i i)],aM (aM (fun _=> .no) 0 (.row t.row)) 1 (.arr 0 3 1 ((p++(t.kids.take i).flatMap eg).map .i)),2⟩)
  (fun i=>i<=t.kids.length) (fun i=>t.kids.length - i) 0 (Nat.zero_le _) ?_ fun k hk=> ?_
 ·simpa using hs
 replace hk:k<=t.kids.length:=hk
 simp only[II,c16,IC.snd,IC.fst]
 refine ik ?_
 refine aj (fun h2=> ?_) (fun h2=> ?_)
 ·simp at h2
  obtain⟨x,hx⟩:=ai h2
  have cp:=List.mem_of_getElem? hx
  have xE:t.kids.take (k+1)=t.kids.take k++[x]:=by rw[List.take_add_one,hx];rfl
  have xG:=PL (t.kids.take k)
  have eo:=SK t.kids k
  have CS:=IG cp
  unfold Cg at CS
  have nm:=qw x
  have Uz:(p++(t.kids.take k).flatMap eg).length<=1000001:=by rw[List.length_append];omega
  refine dW hx ?_
  refine aT (ih x cp (fu.2.2.2.2 x cp) af) ?_
  refine dW hx ?_
  refine au (k+1) h2 af (bM.jP (fun j=>j=1) (.osl 1 1) 1 _ af (G3 (cP (y:= .row t.row) dn dn (bE rfl iX))) (ae _ _ _) (.inr ⟨1,1,rfl,rfl,by(repeat(first|rfl|rw[ae]|rw[ak _ _ _ _ (by omega)]));rw[xE,List.flatMap_append, <- List.append_assoc,List.map_append];simp⟩) (fun j hj=>by(repeat(first|rfl|rw[ae]|rw[ak _ _ _ _ (by omega)]))) (fun j h h2=>af) ?_)
  exact oP
 ·simp at h2
  have si:k=t.kids.length:=af
  exact Ms
theorem EX:∀t:Pf,t.fits->t.sh.sz<=1000000->aQ Tryz.prog 16 [t.d] (.ret [.sl ((eg t).map .i)]):=by
 refine Pf.cc fun t ih hf hz=> ?_
 refine aQ.ay mix aio ao ?_
 rw[c16,pk,xr]
 by_cases h8:t.az=6
 ·have E6:(t.az==6)=true:=by simpa using h8
  refine cf E6 ?_
  rw[if_pos h8]
  refine uk hf hz ih [t.num] ao ?_ fun e' n' he=> ?_
  ·refine bM.jP (fun j=>1<=j) _ 1 _ af (G3 (cP (y:= .row t.row) dn dn (bE rfl iX))) (ae _ _ _) (.inr ⟨_,_, ?_,rfl,by(repeat(first|rfl|rw[ae]|rw[ak _ _ _ _ (by omega)]))⟩) (fun j hj=>by(repeat(first|rfl|rw[ae]|rw[ak _ _ _ _ (by omega)]))) (fun j h h2=>af) ?_
   ·decide
   ·exact oP
  ·exact IU
 ·have E6:(t.az==6)=false:=by simpa using h8
  refine cf E6 ?_
  rw[if_neg h8]
  refine uk hf hz ih [] ao ?_ fun e' n' he=> ?_
  ·exact XI
  ·exact IU
theorem EY{s:aV}{t:Tm}(h:mu s t=true):iS t=true:=by
 simp only[mu,Bool.and_eq_true,decide_eq_true_eq,dD]at h
 simp only[iS,decide_eq_true_eq,dD]
 omega
theorem PM(p:Pg)(hp:p.Fw):aQ Tryz.prog 12 [p.d] (.ret [.bool (eX p)]):=by
 refine aQ.ay mix ail ao ?_
 rw[c12]
 refine aU ?_
 refine ah (Sm p hp) rfl ?_
 exact dM
theorem GL(p:Pg)(hp:p.Fits):aQ Tryz.prog 39 [p.d] (.ret [.bool (gN p)]):=by
 refine aQ.ay mix aiB ao ?_
 rw[c39]
 refine aU ?_
 refine ah (Ks p hp) rfl ?_
 exact dM
theorem pn{p:Pg}{env:List Tm}{e:Tm}{f:Pf}(h:PJ p env e f):aQ Tryz.prog 19 [p.d, .sl (env.map Tm.d),e.d,f.d] (.ret [.bool (aR p f env e)]):=by
 refine aQ.ay mix aiq ao ?_
 rw[c19]
 refine aU ?_
 refine ah (KM h.prog h.few f h.pf env e h.ev h.exp) rfl ?_
 exact dM
def xw(p:Pg)(env:List Tm)(e:Tm)(f:Pf):Bool:=gN p&&gr env&&iO e&&jM f
theorem SL(p:Pg)(env:List Tm)(e:Tm)(f:Pf)(hp:p.Fits)(hl:env.length<=9223372036854775807)(hv:∀t∈env,t.fits)(he:e.fits)(hf:f.fits):aQ Tryz.prog 8 [p.d, .sl (env.map Tm.d),e.d,f.d] (.ret [.bool (xw p env e f)]):=by
 refine aQ.ay mix fn8 ao ?_
 rw[c8,xw]
 refine aU ?_
 refine ah (GL p hp) rfl ?_
 cases h1:gN p with
 |false=>exact dM
 |true=>
 refine aU ?_
 refine ah (EF env hl hv) rfl ?_
 cases h2:gr env with
 |false=>exact dM
 |true=>
 refine aU ?_
 refine ah (Bz e he) rfl ?_
 cases h3:iO e with
 |false=>exact dM
 |true=>
 refine aU ?_
 refine ah (Aj f hf) rfl ?_
 exact dM
theorem ahe{p:Pg}{env:List Tm}{e:Tm}{f:Pf}(hp:p.Fits)(hv:∀t∈env,t.fits)(he:e.fits)(hf:f.fits)(h:xw p env e f=true):eH p env e f:=by
 simp only[xw,Bool.and_eq_true]at h
 exact⟨hp,h.1.1.1,hv,h.1.1.2,he,h.1.2,hf,h.2⟩
theorem eH.val {p:Pg}{env:List Tm}{e:Tm}{f:Pf}(h:eH p env e f):iS f.val=true:=by
 have:=h.fs
 simp only[jM,Bool.and_eq_true]at this
 have:=this.2
 rw[xa]at this
 simp only[Bool.and_eq_true]at this
 exact this.1.1
def EZ(a b:List Tm):Prop:=∀i:Nat,pA ((a[i]?).getD ec) ((b[i]?).getD ec)=true
theorem Au(env:List Tm)(n:Int)(v:Tm)(i:Nat):((gx env n v)[i]?).getD ec=if i=n.toNat then v else(env[i]?).getD ec:=by
 have hl:n.toNat<(env++List.replicate (n.toNat+1 - env.length) ec).length:=by simp;omega
 unfold gx
 by_cases h:i=n.toNat
 ·subst h
  rw[if_pos rfl,List.getElem?_set_self hl];rfl
 ·rw[if_neg h,List.getElem?_set_ne (fun e=>h e.symm)]
  by_cases h2:i<env.length
  ·rw[List.getElem?_append_left h2]
  ·rw[List.getElem?_append_right (by omega),List.getElem?_eq_none (l:=env) (by omega),List.getElem?_replicate]
   split<;>rfl
theorem EZ.with {a b:List Tm}(h:EZ a b)(n:Int)(v:Tm):EZ (gx a n v) (gx b n v):=fun i=>by
 rw[Au,Au]
 split
 ·exact BF v
 ·exact h i
theorem EZ.rfl' (a:List Tm):EZ a a:=fun i=>BF _
def yp(p:Pg)(env:List Tm)(e:Tm)(f:Pf):Bool:=eX p&&gU p.sig env e&&ej p.sig f
theorem oL{p:Pg}{env:List Tm}{e:Tm}{f:Pf}(sm:eH p env e f):aQ Tryz.prog 23 [p.d, .sl (env.map Tm.d),e.d,f.d] (.ret [.bool (yp p env e f)]):=by
 have hl:=sm.abw
 refine aQ.ay mix ais ao ?_
 rw[c23,yp]
 refine aU ?_
 refine ah (PM p sm.few) rfl ?_
 cases h1:eX p with
 |false=>exact dM
 |true=>
 refine aU ?_
 refine ah (O2 p sm.fin.sig env af sm.vf e sm.abx) rfl ?_
 cases h2:gU p.sig env e with
 |false=>exact dM
 |true=>
 refine aU ?_
 refine ah (EG p sm.fin.sig f sm.ff) rfl ?_
 exact dM
theorem eH.with {p:Pg}{env v:List Tm}{e:Tm}{f:Pf}(h:eH p env e f)(hf:∀t∈v,t.fits)(hs:gr v=true):eH p v e f:=⟨h.pf,h.ps,hf,hs,h.ef,h.es,h.ff,h.fs⟩
def abz(p:Pg)(r n:Int)(b:List Tm)(vs:List Tm)(env:List Tm)(e:Tm)(i:Nat):List Tm×Tm:=
 if r=6/\i=e.kids.length then match p.rules[n.toNat]? with
  |none=>(env,e)
  |some ru=>(mW ru b,ru.rhs)
 else if r=7 then(env,cC e 0)
 else if r=8 then(env,cC e 1)
 else if r=9/\i=1 then(gx env e.n ((vs[0]?).getD ec),cC e 1)
 else if r=15/\i=2 then(((vs[0]?).getD ec).kids++[(vs[1]?).getD ec],lg p.sig ((vs[0]?).getD ec).n)
 else(env,cC e i)
theorem xy(ks:List Pf)(i:Nat):aX ks i=((ks.map Pf.val)[i]?).getD ec:=by unfold aX;rw[List.getElem?_map]
theorem gV{p:Pg}{ks:List Pf}{i:Nat}{x:Pf}(h:ks[i]? =some x):kG (ks.map (aR p)) i=aR p x:=LQ
theorem oM{p:Pg}{ks:List Pf}{env es:List Tm}{i:Nat}{x:Pf}(H:jW (ks.map (aR p)) env es=true)(h:ks[i]? =some x):∃y,es[i]? =some y/\aR p x env y=true:=by
 unfold jW at H
 rw[Bool.and_eq_true,List.all_eq_true,beq_iff_eq,List.length_map]at H
 have cD:=(List.getElem?_eq_some_iff.1 h).1
 obtain⟨y,hy⟩:∃y,es[i]? =some y:=⟨es[i]'af,ao⟩
 have hz:((ks.map (aR p)).zip es)[i]? =some (aR p x,y):=by rw[List.getElem?_zip_eq_some,List.getElem?_map,h];exact⟨rfl,hy⟩
 exact⟨y,hy,H.2 _ (List.mem_of_getElem? hz)⟩
theorem IJ{p:Pg}{f:Pf}{env:List Tm}{e:Tm}(H:aR p f env e=true){i:Nat}{x:Pf}(h:f.kids[i]? =some x):aR p x (abz p f.az f.num f.binds (f.kids.map Pf.val) env e i).1 (abz p f.az f.num f.binds (f.kids.map Pf.val) env e i).2=true:=by
 have cD:=(List.getElem?_eq_some_iff.1 h).1
 rw[b7,gM]at H
 unfold abz
 by_cases h1:f.az=1
 ·rw[if_pos h1]at H;simp at H;rw[H.1]at cD;simp at cD
 rw[if_neg h1]at H
 by_cases h1:f.az=2
 ·rw[if_pos h1]at H;simp at H;rw[H.2.1]at cD;simp at cD
 rw[if_neg h1]at H
 by_cases h1:f.az=3
 ·rw[if_pos h1]at H;simp at H;rw[H.2.1]at cD;simp at cD
 rw[if_neg h1]at H
 by_cases h1:f.az=4
 ·rw[if_pos h1]at H
  simp only[Bool.and_eq_true]at H
  obtain⟨y,hy,hp⟩:=oM H.2.2 h
  rw[if_neg (by omega),if_neg (by omega),if_neg (by omega),if_neg (by omega),if_neg (by omega)]
  have:cC e i=y:=by unfold cC;rw[hy];rfl
  rw[this];exact hp
 rw[if_neg h1]at H
 by_cases h1:f.az=5
 ·rw[if_pos h1]at H
  simp only[Bool.and_eq_true]at H
  obtain⟨y,hy,hp⟩:=oM H.2.2 h
  rw[if_neg (by omega),if_neg (by omega),if_neg (by omega),if_neg (by omega),if_neg (by omega)]
  have:cC e i=y:=by unfold cC;rw[hy];rfl
  rw[this];exact hp
 rw[if_neg h1]at H
 by_cases h1:f.az=6
 ·rw[if_pos h1]at H
  cases hr:p.rules[f.num.toNat]? with
  |none=>rw[hr]at H;simp at H
  |some ru=>
   rw[hr]at H
   simp only[Bool.and_eq_true,beq_iff_eq]at H
   have hlen:=H.2.1.1.1.2
   by_cases h2:i=e.kids.length
   ·rw[if_pos ⟨h1,h2⟩]
    have:=H.2.2.2
    rw[<- h2,gV h]at this
    exact this
   ·rw[if_neg (fun c=>h2 c.2),if_neg (by omega),if_neg (by omega),if_neg (by omega),if_neg (by omega)]
    have ha:=H.2.2.1.2
    rw[<- List.map_take]at ha
    obtain⟨y,hy,hp⟩:=oM ha (show(f.kids.take e.kids.length)[i]? =some x by rw[List.getElem?_take_of_lt (by omega)];exact h)
    have:cC e i=y:=by unfold cC;rw[hy];rfl
    rw[this];exact hp
 rw[if_neg h1]at H
 rw[if_neg (fun c=>h1 c.1)]
 by_cases h1:f.az=7
 ·rw[if_pos h1]at H|-
  simp only[Bool.and_eq_true,beq_iff_eq]at H
  obtain rfl:i=0:=af
  have:=H.2.2;rw[gV h]at this;exact this
 rw[if_neg h1]at H|-
 by_cases h1:f.az=8
 ·rw[if_pos h1]at H|-
  simp only[Bool.and_eq_true,beq_iff_eq]at H
  obtain rfl:i=0:=af
  have:=H.2.2;rw[gV h]at this;exact this
 rw[if_neg h1]at H|-
 by_cases h1:f.az=9
 ·rw[if_pos h1]at H
  simp only[Bool.and_eq_true,beq_iff_eq]at H
  rcases(by omega:i=0\/i=1)with rfl|rfl
  ·rw[if_neg (by omega),if_neg (by omega)]
   have:=H.2.1.2;rw[gV h]at this;exact this
  ·rw[if_pos ⟨h1,rfl⟩]
   have:=H.2.2;rw[gV h,xy]at this;exact this
 rw[if_neg h1]at H
 rw[if_neg (fun c=>h1 c.1)]
 by_cases h1:f.az=15
 ·rw[if_pos h1]at H
  simp only[Bool.and_eq_true,Bool.or_eq_true,beq_iff_eq]at H
  rcases(by omega:i=0\/i=1\/i=2)with rfl|rfl|rfl
  ·rw[if_neg (by omega)]
   have:=H.1.2.1.1;rw[gV h]at this;exact this
  ·rw[if_neg (by omega)]
   have:=H.1.2.1.2;rw[gV h]at this;exact this
  ·rw[if_pos ⟨h1,rfl⟩]
   have h3:=H.2
   split at h3
   ·simp at h3;omega
   ·simp only[Bool.and_eq_true]at h3
    have:=h3.2;rw[gV h,xy,xy]at this;exact this
 rw[if_neg h1]at H
 rw[if_neg (fun c=>h1 c.1)]
 simp only[Bool.and_eq_true,beq_iff_eq]at H
 rcases(by omega:i=0\/i=1)with rfl|rfl
 ·have:=H.2.1;rw[gV h]at this;exact this
 ·have:=H.2.2;rw[gV h]at this;exact this
theorem PN{s:aV}{t:Tm}(h:mu s t=true):Pn s t:=by
 simp only[mu,Bool.and_eq_true]at h
 exact h.2
end Go.Proofs.YtonbelhklnmjnaaGreat
