/-
  A PART OF THE PROOF. Conditions: none.
-/
import Derived.Test.YtnkamdiiakdkgaaGreatEu18
set_option linter.unusedSimpArgs false
set_option linter.unusedVariables false
namespace Go.Proofs.YtnkamdiiakdkgaaGreat
theorem Kp(ax kids:List Tm){i j:Nat}(hi:i<4)(hj:j<4):(um ax kids)[i*4+j]? =some (np ax kids i j):=by
 unfold um
 rw[List.getElem?_map,List.getElem?_range (by omega)]
 simp only[Option.map_some]
 exact NS
def pN(ax kids:List Tm)(i j:Nat):List Int:=(List.range 16).map fun p=>if p/4<i\/p/4=i/\p%4<j then np ax kids (p/4) (p%4)else 0
theorem ik(ax kids:List Tm)(i j:Nat):(pN ax kids i j).length=16:=by simp[pN]
theorem kI(ax kids:List Tm)(i j p:Nat)(hp:p<16):(pN ax kids i j)[p]? =some (if p/4<i\/p/4=i/\p%4<j then np ax kids (p/4) (p%4)else 0):=by
 unfold pN;rw[List.getElem?_map,List.getElem?_range hp];rfl
theorem arcP_0(ax kids:List Tm):pN ax kids 0 0=z16:=by
 refine ph (ik ..) rfl fun p hp=> ?_
 rw[kI _ _ _ _ _ hp,if_neg (by omega)]
 have:∀p,p<16->z16[p]? =some 0:=cG
 exact(this p hp).symm
theorem GO(ax kids:List Tm){i j:Nat}(hi:i<4)(hj:j<4):pN ax kids i (j+1)=(pN ax kids i j).set (i*4+j) (np ax kids i j):=by
 refine ph (ik ..) (by rw[List.length_set];exact ik ..) fun p hp=> ?_
 rw[kI _ _ _ _ _ hp,List.getElem?_set,kI _ _ _ _ _ hp]
 by_cases e:i*4+j=p
 ·rw[if_pos e,if_pos (show i*4+j<(pN ax kids i j).length by rw[ik];omega),if_pos (show p/4<i\/p/4=i/\p%4<j+1 by omega)]
  rw[show p/4=i by omega,show p%4=j by omega]
 ·rw[if_neg e]
  congr 1
  by_cases h:p/4<i\/p/4=i/\p%4<j
  ·rw[if_pos h,if_pos (show p/4<i\/p/4=i/\p%4<j+1 by omega)]
  ·rw[if_neg h,if_neg (show ¬ (p/4<i\/p/4=i/\p%4<j+1) by omega)]
theorem Kq(ax kids:List Tm){i:Nat}(hk:kids.length<=4):pN ax kids i kids.length=pN ax kids (i+1) 0:=by
 refine ph (ik ..) (ik ..) fun p hp=> ?_
 rw[kI _ _ _ _ _ hp,kI _ _ _ _ _ hp]
 by_cases h:p/4<i\/p/4=i/\p%4<kids.length
 ·rw[if_pos h,if_pos (show p/4<i+1\/p/4=i+1/\p%4<0 by omega)]
 ·rw[if_neg h]
  by_cases h2:p/4<i+1\/p/4=i+1/\p%4<0
  ·rw[if_pos h2]
   have e:kids[p%4]? =none:=List.getElem?_eq_none ah
   unfold np
   rw[e]
   cases ax[p/4]? <;>rfl
  ·rw[if_neg h2]
theorem Kr(ax kids:List Tm)(hp:ax.length<=4):pN ax kids ax.length 0=um ax kids:=by
 refine ph (ik ..) (by simp[um]) fun p DJ=> ?_
 rw[kI _ _ _ _ _ DJ]
 have:=Kp ax kids (i:=p/4) (j:=p%4) ah ah
 rw[show p/4*4+p%4=p by omega]at this
 rw[this]
 congr 1
 split
 ·rfl
 ·rename_i h
  unfold np
  rw[List.getElem?_eq_none (by omega)]
theorem Ks(l:List Int)(hl:l.length<=1000000):aW Tryz.prog 76 [.sl (l.map .i)] (.ret [.sl (l.map .i)]):=by
 refine aW.aH mix SR aI ?_
 rw[c76]
 have hu:Tryz.prog.underlying 37=some (.slice 3):=ag
 cases l with
 |nil=>
  have heq:∀O,vu Tryz.prog O 37 true (.d (.sl [])) .bw=some .eN:=by
   intro O
   unfold vu
   rw[hu]
   rfl
  simp only[List.map_cons,List.map_nil]
  refine gk heq ?_
  simp only[List.isEmpty_nil,if_true]
  exact wY heq
 |cons a l=>
  have heq:∀O,vu Tryz.prog O 37 true (.d (.sl (D.i a::l.map D.i))) .bw=some (.d (.bool false)):=by
   intro O
   unfold vu
   rw[hu]
   rfl
  simp only[List.map_cons,List.map_nil]
  refine gk heq ?_
  simp only[List.isEmpty_nil,if_true]
  refine gk heq ?_
  rw[List.length_cons]at hl
  rw[if_pos (by omega)]
  exact pW
def qO(p:Pg)(ps:List Int):Nat->ab:=aF (fun _=> .no) 0 (.row [.d (.sl (p.sig.cons.map iu.d)), .d (.sl (p.sig.bH.map iu.d)), .d (.sl (p.rules.map Rl.d)), .d (.sl (ps.map .i))])
def ou(ps:List Int)(n:Int)(r:Rl)(s:List Cl)(x:Sp):List Cl:=s++Fa ps n r x
theorem Bu(ps:List Int)(n:Int)(r:Rl):∀ (l:List Sp) (s:List Cl),(aw (vh (fun _=>none) (ou ps n r)) s l).1=s++l.flatMap (Fa ps n r)
 |[],s=>by simp[aw]
 |x::l,s=>by
  simp only[aw,vh,Option.isNone_none,if_true]
  rw[Bu ps n r l,ou,List.flatMap_cons,List.append_assoc]
theorem EP(ps:List Int)(n:Int)(r:Rl)(x:Sp)(uO:ps.length<=100):(Fa ps n r x).length<=100:=by
 unfold Fa
 split
 ·simp
 ·split
  ·simpa using uO
  ·simp
theorem ER(t:Tm)(q:List Int)(b:Bool):(j6 t q b).length=t.sz:=by rw[<- List.length_map (f:=Sp.t),yE,sB]
theorem uC{p:Pg}(hp:p.Fw){ps:List Int}(uO:ps.length<=100):∀k,k<=p.rules.length->(jv p ps k).length<=k*50500
 |0,_=>by simp[jv]
 |k+1,hk=>by
  have hx:p.rules[k]? =some p.rules[k]:=List.getElem?_eq_getElem ah
  rw[wP p ps hx,List.length_append]
  have h1:=uC hp uO k ah
  have h3:=(hp.all _ (List.getElem_mem (by omega:k<p.rules.length))).2.2
  have key:∀l:List Sp,(l.flatMap (Fa ps k p.rules[k])).length<=l.length*100:=by
   intro l
   induction l with
   |nil=>simp
   |cons x l ih=>
    rw[List.flatMap_cons,List.length_append,List.length_cons,Nat.add_mul]
    have:=EP ps k p.rules[k] x uO
    omega
  have h2:=key (j6 p.rules[k].rhs [] true)
  rw[ER]at h2
  unfold ruC
  omega
def pO(p:Pg)(ps:List Int)(k:Nat)(r:Rl)(s:List Cl):Nat->ab:=aF (aF (aF (aF (aF (jw (qO p ps) 2 8 [] 40 6 ((jv p ps k).map Cl.d)) 13 (.row [.d (.i k)])) 14 (.row r.row)) 19 (.row r.rhs.row)) 2 (.row [.osl 8 s.length])) 8 (.arr s.length 40 6 ((jv p ps k++s).map Cl.d))
set_option maxHeartbeats 4000000 in
theorem Nk(p:Pg)(hp:p.Fw)(hr4:∀r∈p.rules,r.ax.length<=4)(hk4:∀r∈p.rules,∀x∈j6 r.rhs [] true,x.t.op=4->x.t.kids.length<=4)(ps:List Int)(uO:ps.length<=100):aW Tryz.prog 42 [crD p ps] (.ret [.sl ((jv p ps p.rules.length).map Cl.d)]):=by
 have uX:=hp.len
 refine aW.aH mix YU aI ?_
 rw[c42]
 refine lN ?_
 have hB:Good (qO p ps) 8:=by unfold qO;exact eL
 have sc:∀j,8<=j->qO p ps j= .no:=fun j hj=>by unfold qO;(repeat(first|rfl|rw[ae]|rw[ai _ _ _ _ (by omega)]))
 refine aE (fun k:Nat=>⟨ba [.aa, .ptr 0 0, .aa, .ptr 2 0, .aa, .aa, .aa, .aa, .aa, .aa, .aa, .aa, .aa, .aa, .aa, .aa, .aa, .d (.sl (p.rules.map Rl.d)), .d (.i p.rules.length), .d (.i k)],jw (qO p ps) 2 8 [] 40 6 ((jv p ps k).map Cl.d),9⟩)
  (fun k=>k<=p.rules.length) (fun k=>p.rules.length - k) 0 (Nat.zero_le _) (wR (ds:=[]) _ hB sc ah (fun j hj kK=>by unfold qO;exact UB) eY ah ?_) (fun k hk=> ?_)
 ·exact E5
 replace hk:k<=p.rules.length:=hk
 have JL:(jv p ps k).length<=k*50500:=uC hp uO k hk
 have k0:jw (qO p ps) 2 8 [] 40 6 ((jv p ps k).map Cl.d) 0= .row [.d (.sl (p.sig.cons.map iu.d)), .d (.sl (p.sig.bH.map iu.d)), .d (.sl (p.rules.map Rl.d)), .d (.sl (ps.map .i))]:=by unfold jw qO;(repeat(first|rfl|rw[ae]|rw[ai _ _ _ _ (by omega)]))
 have k2:jw (qO p ps) 2 8 [] 40 6 ((jv p ps k).map Cl.d) 2= .row [.osl 8 0]:=yz _ ah [] _ _ _
 have k8:jw (qO p ps) 2 8 [] 40 6 ((jv p ps k).map Cl.d) 8= .arr 0 40 6 ((jv p ps k).map Cl.d):=yy _ _ _ _ _ _ _
 refine br ?_
 refine aj (fun h1=> ?_) (fun h1=> ?_)
 ·simp at h1
  obtain⟨r,hr⟩:=az h1
  have Ko:=List.mem_of_getElem? hr
  obtain⟨f1,f2,f3⟩:=hp.all r Ko
  refine VT hr k8 ?_
  refine fF (Bk r.rhs _ _ _ _ ?_)
  refine QJ k8 ?_
  refine rF (σ:=List Cl) r.rhs f2 (by have:=yr r.rhs;omega) [.aa, .ptr 0 0, .aa, .ptr 2 0, .ptr 13 0, .ptr 14 0, .aa, .aa, .aa, .aa, .aa, .aa, .aa, .aa, .aa, .aa, .aa, .d (.sl (p.rules.map Rl.d)), .d (.i p.rules.length), .d (.i k)] ?_ cG rfl (by unfold jw qO;exact eL) oq eY (pO p ps k r) (fun _=>none) (ou ps k r) (fun l s=>s.length+l.length*101<=60000) [] ?_ rfl (fun id au=> ?_) (fun x l s hs _ h2=> ?_) ?_ ?_
  ·exact E7
  ·rw[List.length_nil,ER];omega
  ·unfold pO
   by_cases e2:id=2
   ·exact QQ
   by_cases e8:id=8
   ·subst e8;(repeat(first|rfl|rw[ae]|rw[ai _ _ _ _ (by omega)]));rw[k8,List.append_nil];rfl
   rw[ai _ 8 _ _ e8,ai _ 2 _ _ e2]
   exact Lm
  ·have:=EP ps k r x uO
   simp only[ou,List.length_append,List.length_cons]at hs|-
   omega
  ·intro L hL vj x hx l s' h1 h2 o3 n3 hI hn ho K X cw
   simp only[mh]
   have hg:=hI.bD
   have q2:o3 2= .row [.osl 8 s'.length]:=by rw[hI.eq 2 (by omega)];unfold pO;(repeat(first|rfl|rw[ae]|rw[ai _ _ _ _ (by omega)]))
   have q8:o3 8= .arr s'.length 40 6 ((jv p ps k++s').map Cl.d):=by rw[hI.eq 8 (by omega)];unfold pO;(repeat(first|rfl|rw[ae]|rw[ai _ _ _ _ (by omega)]))
   have q0:o3 0= .row [.d (.sl (p.sig.cons.map iu.d)), .d (.sl (p.sig.bH.map iu.d)), .d (.sl (p.rules.map Rl.d)), .d (.sl (ps.map .i))]:=by rw[hI.eq 0 (by omega)];unfold pO jw qO;(repeat(first|rfl|rw[ae]|rw[ai _ _ _ _ (by omega)]))
   have q13:o3 13= .row [.d (.i k)]:=by rw[hI.eq 13 (by omega)];unfold pO;(repeat(first|rfl|rw[ae]|rw[ai _ _ _ _ (by omega)]))
   have q14:o3 14= .row r.row:=by rw[hI.eq 14 (by omega)];unfold pO;(repeat(first|rfl|rw[ae]|rw[ai _ _ _ _ (by omega)]))
   simp only[List.length_cons]at h1
   have hxp:x.path.length<=500:=by
    have t1:=(sD _ _ _ x hx).2
    have t2:=yr r.rhs
    rw[List.length_nil]at t1;omega
   refine br ?_
   refine kB hL (pd:=none) ?_ ?_
   ·(repeat(first|rfl|rw[ae]|rw[ai _ _ _ _ (by omega)]))
    exact ho
   have fin:∀ (o':Nat->ab) (n':Nat) (s2:List Cl),Good o' n'->n3<=n'->o' 2= .row [.osl 8 s2.length]->o' 8= .arr s2.length 40 6 ((jv p ps k++s2).map Cl.d)->(∀j,j<23->j≠2->j≠8->o' j=o3 j)->cI 23 (pO p ps k r s2) o' n':=fun o' n' s2 k1 k2 k3 k4 k6=>⟨k1,ah,fun j hj=>by
    by_cases e:j=2
    ·subst e;rw[k3];unfold pO;(repeat(first|rfl|rw[ae]|rw[ai _ _ _ _ (by omega)]))
    by_cases e2:j=8
    ·subst e2;rw[k4];unfold pO;(repeat(first|rfl|rw[ae]|rw[ai _ _ _ _ (by omega)]))
    rw[k6 j hj e e2,hI.eq j hj];unfold pO
    rw[ai _ _ _ _ e2,ai _ _ _ _ e,ai _ _ _ _ e2,ai _ _ _ _ e]⟩
   have hlen:(jv p ps k++s').length<=100000000:=by rw[List.length_append];omega
   by_cases h4:x.t.op=4
   ·have OD:(x.t.op==4)=true:=by simpa using h4
    have Oz:=hk4 r Ko x hx h4
    have VL:=hr4 r Ko
    have hxk:∀y∈x.t.kids,y.fits:=fun y hy=>((Tm.aX _).1 (T5 _ f2 _ (sD _ _ _ x hx).1)).2 y hy
    have hpf:∀y∈r.ax,y.fits:=fun y hy=>(f1.all y hy).1
    simp+contextual (disch:=first|omega|simp only[go_sem,false_implies]) only[go_sem,wrap64,if_pos,q0,q2,q8,q13,q14,OD,List.length_map]
    refine aE (fun i:Nat=>⟨ba [.aa, .ptr 0 0, .aa, .ptr 2 0, .ptr 13 0, .ptr 14 0, .ptr n3 0, .ptr (n3+1+1+1+1+1+1+1+1) 0, .ptr (n3+1+1+1+1+1+1+1+1+1+1+1+1+1+1+1) 0, .aa, .aa, .aa, .aa, .aa, .aa, .aa, .aa, .aa, .aa, .aa, .aa, .aa, .aa, .aa, .aa, .aa, .aa, .aa, .aa, .aa, .aa, .aa, .aa, .aa, .aa, .aa, .aa, .aa, .aa, .aa, .d (.sl (r.ax.map Tm.d)), .d (.i r.ax.length), .d (.i i)],
     aF (aF (aF (aF o3 n3 (.row x.row)) 23 (L .busy none)) (n3+1+1+1+1+1+1+1+1) (.row [.d (.i k), .d (.i r.fn), .d (.i 0), .bw, .d (.bool x.bare), .bw])) (n3+1+1+1+1+1+1+1+1+1+1+1+1+1+1+1) (mR (pN r.ax x.t.kids i 0)),(n3+1+1+1+1+1+1+1+1+1+1+1+1+1+1+1+1)⟩)
     (fun i=>i<=r.ax.length) (fun i=>r.ax.length - i) 0 (Nat.zero_le _) (bC.bB _ (show n3<=(n3+1+1+1+1+1+1+1+1+1+1+1+1+1+1+1+1)from ah) ah ?_ (fun j hj=> ?_) ?_) (fun i hi=> ?_)
    ·exact eL
    ·rw[arcP_0]
     by_cases ea:j=(n3+1+1+1+1+1+1+1+1+1+1+1+1+1+1+1)
     ·exact Ww
     by_cases ec:j=(n3+1+1+1+1+1+1+1+1)
     ·exact QR
     by_cases e23:j=23
     ·exact Wv
     by_cases en:j=n3
     ·exact Wx
     exact eY
    ·exact cE
    replace hi:i<=r.ax.length:=hi
    refine br ?_
    refine aj (fun h7=> ?_) (fun h7=> ?_)
    ·simp at h7
     obtain⟨pa,L1⟩:=az h7
     have ac5:=List.mem_of_getElem? L1
     refine lM L1 ?_
     refine aE (fun j:Nat=>⟨ba [.aa, .ptr 0 0, .aa, .ptr 2 0, .ptr 13 0, .ptr 14 0, .ptr n3 0, .ptr (n3+1+1+1+1+1+1+1+1) 0, .ptr (n3+1+1+1+1+1+1+1+1+1+1+1+1+1+1+1) 0, .d (.i i), .ptr (n3+1+1+1+1+1+1+1+1+1+1+1+1+1+1+1+1+1+1+1+1) 0, .aa, .aa, .aa, .aa, .aa, .aa, .aa, .aa, .aa, .aa, .aa, .aa, .aa, .aa, .aa, .aa, .aa, .aa, .aa, .aa, .aa, .aa, .aa, .aa, .aa, .aa, .aa, .aa, .aa, .d (.sl (r.ax.map Tm.d)), .d (.i r.ax.length), .d (.i i), .aa, .aa, .aa, .aa, .aa, .aa, .d (.sl (x.t.kids.map Tm.d)), .d (.i x.t.kids.length), .d (.i j)],
      aF (aF (aF (aF (aF o3 n3 (.row x.row)) 23 (L .busy none)) (n3+1+1+1+1+1+1+1+1) (.row [.d (.i k), .d (.i r.fn), .d (.i 0), .bw, .d (.bool x.bare), .bw])) (n3+1+1+1+1+1+1+1+1+1+1+1+1+1+1+1) (mR (pN r.ax x.t.kids i j))) (n3+1+1+1+1+1+1+1+1+1+1+1+1+1+1+1+1+1+1+1+1) (.row pa.row),(n3+1+1+1+1+1+1+1+1+1+1+1+1+1+1+1+1+1+1+1+1+1)⟩)
      (fun j=>j<=x.t.kids.length) (fun j=>x.t.kids.length - j) 0 (Nat.zero_le _) (bC.bB _ (show n3<=(n3+1+1+1+1+1+1+1+1+1+1+1+1+1+1+1+1+1+1+1+1+1)from ah) ah ?_ (fun j hj=> ?_) ?_) (fun j hj=> ?_)
     ·exact eL
     ·by_cases eo:j=(n3+1+1+1+1+1+1+1+1+1+1+1+1+1+1+1+1+1+1+1+1)
      ·exact Wy
      repeat rw[ai _ (n3+1+1+1+1+1+1+1+1+1+1+1+1+1+1+1+1+1+1+1+1) _ _ eo]
     ·exact cE
     replace hj:j<=x.t.kids.length:=hj
     refine br ?_
     refine aj (fun h8=> ?_) (fun h8=> ?_)
     ·simp at h8
      obtain⟨ka,Ud⟩:=az h8
      have ac6:=List.mem_of_getElem? Ud
      have hi4:i<4:=ah
      have hj4:j<4:=ah
      refine lM Ud ?_
      refine aQ (Da ka (hxk ka ac6) pa (hpf pa ac5)) rfl ?_
      have G1:=ik r.ax x.t.kids i j
      have hse:=T7 (pN r.ax x.t.kids i j) (i*4+j) (r9 ka pa) (by rw[G1];omega)
      have hav:np r.ax x.t.kids i j=r9 ka pa:=by unfold np;rw[L1,Ud]
      rw[<- hav, <- GO r.ax x.t.kids hi4 hj4]at hse
      simp+contextual (disch:=first|omega|simp only[go_sem,false_implies]) only[go_sem,wrap64,if_pos,Int.toNat_natCast,Nat.mul_one,hse, <- hav]
      refine aN (hY (ids:=[]) (nx:=n3) aI aI [([],[]),([],[]),([25],[]),([20],[]),([],[]),([15],[]),([15],[]),([15],[15])] cG) ?_
      refine br ?_
      refine aq (j+1) h8 ah (bC.bB _ (show n3<=(n3+1+1+1+1+1+1+1+1+1+1+1+1+1+1+1+1+1+1+1+1+1)from ah) ah ?_ (fun q hq=> ?_) ?_)
      ·exact eL
      ·by_cases ea:q=(n3+1+1+1+1+1+1+1+1+1+1+1+1+1+1+1)
       ·exact Ww
       by_cases eo:q=(n3+1+1+1+1+1+1+1+1+1+1+1+1+1+1+1+1+1+1+1+1)
       ·exact Wy
       (repeat(first|rfl|rw[ae]|rw[ai _ _ _ _ (by omega)]))
       rw[ai _ (n3+1+1+1+1+1+1+1+1+1+1+1+1+1+1+1+1+1+1+1+1) _ _ eo,ai _ (n3+1+1+1+1+1+1+1+1+1+1+1+1+1+1+1) _ _ ea]
      ·exact cE
     ·simp at h8
      have UK:j=x.t.kids.length:=ah
      subst UK
      refine br ?_
      refine aq (i+1) h7 ah (bC.bB _ (show n3<=(n3+1+1+1+1+1+1+1+1+1+1+1+1+1+1+1+1)from ah) ah ?_ (fun q hq=> ?_) ?_)
      ·exact eL
      ·rw[<- Kq _ _ Oz,ai _ (n3+1+1+1+1+1+1+1+1+1+1+1+1+1+1+1+1+1+1+1+1) _ _ (by omega)]
      ·exact cE
    ·simp at h7
     have Xq:i=r.ax.length:=ah
     subst Xq
     rw[Kr _ _ VL]
     have Fs:=(JV r.ax x.t.kids).1
     simp+contextual (disch:=first|omega|simp only[go_sem,false_implies]) only[go_sem,wrap64,if_pos,J7 _ Fs,uu,GD,EI _ Fs]
     refine c7 (T8 _ Fs) ?_
     refine br ?_
     refine aN (hY (ids:=[]) (nx:=n3) aI aI [([0],[]),([0],[]),([0],[]),([0],[]),([0],[]),([15],[]),([],[]),([8],[]),([8],[8]),([8],[]),([8],[8]),([8],[]),([8],[8])] cG) ?_
     refine BO q2 q8 ?_
     refine cw _ _ _ .busy none ah (fin _ _ _ eL ah ?_ ?_ fun j hj j1 j2=> ?_) eY (fun id h3 h4=>by(repeat(first|rfl|rw[ae]|rw[ai _ _ _ _ (by omega)])))
     ·unfold ou Fa;rw[if_pos h4];(repeat(first|rfl|rw[ae]|rw[ai _ _ _ _ (by omega)]));simp
     ·unfold ou Fa;rw[if_pos h4, <- JX _ _ VL Oz];(repeat(first|rfl|rw[ae]|rw[ai _ _ _ _ (by omega)]));simp
     ·exact eY
   have OD:(x.t.op==4)=false:=by simpa using h4
   by_cases h6:x.t.op=6
   ·have h6':(x.t.op==6)=true:=by simpa using h6
    simp+contextual (disch:=first|omega|simp only[go_sem,false_implies]) only[go_sem,wrap64,if_pos,q0,q2,q8,q13,q14,OD,h6',List.length_map]
    have hpn:V.refs (.d (.bool x.bare))=[]:=rfl
    refine aE (fun i:Nat×V×V=>⟨ba [.aa, .ptr 0 0, .aa, .ptr 2 0, .ptr 13 0, .ptr 14 0, .ptr n3 0, .ptr (n3+1+1+1+1+1+1+1+1) 0, .aa, .aa, .aa, .aa, .aa, .aa, .aa, .aa, .aa, .aa, .aa, .aa, .aa, .aa, .aa, .aa, .aa, .aa, .aa, .aa, .aa, .aa, .aa, .aa, .aa, .aa, .aa, .aa, .aa, .aa, .aa, .aa, .aa, .aa, .aa, .aa, .aa, .aa, .aa, .aa, .aa, .aa, .aa, .aa, .aa, .aa, .aa, .aa, .aa, .aa, .aa, .aa, .aa, .aa, .aa, .aa, .aa, .aa, .aa, .aa, .aa, .aa, .aa, .aa, .aa, .aa, .aa, .aa, .aa, .aa, .aa, .aa, .aa, .aa, .d (.sl (ps.map .i)), .d (.i ps.length), .d (.i i.1)],
     aF (aF (aF (aF (aF o3 n3 (.row x.row)) 23 (L .busy none)) (n3+1+1+1+1+1+1+1+1) (.row [.d (.i k), .d (.i r.fn),i.2.1,i.2.2, .d (.bool x.bare), .bw])) 2 (.row [.osl 8 (s'.length+i.1)])) 8 (.arr (s'.length+i.1) 40 6 ((jv p ps k++s'++(ps.take i.1).map fun to=>Cl.mk k r.fn to x.path x.bare []).map Cl.d)),n3+1+1+1+1+1+1+1+1+1⟩)
     (fun i=>i.1<=ps.length/\i.2.1.refs=[]/\i.2.2.refs=[]) (fun i=>ps.length - i.1) (0, .d (.i 0), .bw) ⟨Nat.zero_le _,rfl,rfl⟩ (bC.bB _ (show n3<=n3+1+1+1+1+1+1+1+1+1 from ah) ah ?_ (fun j hj=> ?_) ?_) ?_
    ·exact eL
    ·by_cases e8:j=8
     ·subst e8;(repeat(first|rfl|rw[ae]|rw[ai _ _ _ _ (by omega)]));rw[q8];simp
     by_cases e2:j=2
     ·subst e2;(repeat(first|rfl|rw[ae]|rw[ai _ _ _ _ (by omega)]));rw[q2];simp
     by_cases ec:j=(n3+1+1+1+1+1+1+1+1)
     ·exact QR
     by_cases e23:j=23
     ·exact Wv
     by_cases en:j=n3
     ·exact Wx
     exact eY
    ·exact cE
    rintro⟨m,v2,v3⟩ ⟨g1,g2,g3⟩
    simp only at g1 g2 g3
    have F6:(ab.row [.d (.i k), .d (.i r.fn),v2,v3, .d (.bool x.bare), .bw]).refs=[]:=by simp[ab.refs,V.aL,V.refs,g2,g3]
    have adv:(jv p ps k++s'++(ps.take m).map fun to=>Cl.mk k r.fn to x.path x.bare []).length<=100000100:=by
     rw[List.length_append,List.length_map,List.length_take];omega
    refine br ?_
    refine aj (fun h7=> ?_) (fun h7=> ?_)
    ·simp at h7
     obtain⟨to,hto⟩:=az h7
     have K7:ps.take (m+1)=ps.take m++[to]:=by rw[List.take_add_one,hto];rfl
     refine gk hto ?_
     refine bn (Ks x.path ah) ?_
     refine lN ?_
     refine aq (m+1, .d (.i to), .d (.sl (x.path.map .i))) ⟨h7,rfl,rfl⟩ nb (bC.bB _ (show n3<=n3+1+1+1+1+1+1+1+1+1 from ah) ah ?_ (fun j hj=> ?_) ?_)
     ·exact eL
     ·by_cases e8:j=8
      ·subst e8;(repeat(first|rfl|rw[ae]|rw[ai _ _ _ _ (by omega)]));rw[K7];simp[Nat.add_assoc]
      by_cases e2:j=2
      ·exact QQ
      by_cases ec:j=(n3+1+1+1+1+1+1+1+1)
      ·exact QR
      (repeat(first|rfl|rw[ae]|rw[ai _ _ _ _ (by omega)]))
      rw[ai _ 8 _ _ e8,ai _ 2 _ _ e2,ai _ (n3+1+1+1+1+1+1+1+1) _ _ ec]
     ·exact cE
    ·simp at h7
     have hm:m=ps.length:=ah
     subst hm
     refine br ?_
     refine cw _ _ _ .busy none ah (fin _ _ _ ?_ ah ?_ ?_ fun j hj j1 j2=> ?_) eY (fun id h3 h4=>by(repeat(first|rfl|rw[ae]|rw[ai _ _ _ _ (by omega)])))
     ·exact(((((hg.mono ah).aF ah rfl).aF ah (vj _ _ _ ah)).aF ah (by rw[F6];rfl)).aF ah pX).aF ah rfl
     ·exact V9
     ·exact V9
     ·exact eY
   ·have h6':(x.t.op==6)=false:=by simpa using h6
    simp+contextual (disch:=first|omega|simp only[go_sem,false_implies]) only[go_sem,wrap64,if_pos,q0,q2,q8,q13,q14,OD,h6',List.length_map]
    refine cw _ _ _ .busy none ah (fin _ _ _ eL ah ?_ ?_ fun j hj j1 j2=> ?_) eY (fun id h3 h4=>by(repeat(first|rfl|rw[ae]|rw[ai _ _ _ _ (by omega)])))
    ·unfold ou Fa;rw[if_neg h4,if_neg h6];(repeat(first|rfl|rw[ae]|rw[ai _ _ _ _ (by omega)]));simp[q2]
    ·unfold ou Fa;rw[if_neg h4,if_neg h6];(repeat(first|rfl|rw[ae]|rw[ai _ _ _ _ (by omega)]));simp[q8]
    ·exact eY
  ·intro o' n' hI
   rw[Bu,List.nil_append]at hI
   simp only[nU]
   refine br ?_
   have hg:=hI.bD
   refine aq (k+1) h1 ah (Bl (r:=2) (c:=8) (ep:=(ruC ps k r).length) (ds:=[]) _ hB sc ah (fun j hj kK=> ?_) ?_ ?_ ?_)
   ·rw[hI.eq j (by omega)];unfold pO jw;(repeat(first|rfl|rw[ae]|rw[ai _ _ _ _ (by omega)]))
   ·rw[hI.eq 2 (by omega)];unfold pO;(repeat(first|rfl|rw[ae]|rw[ai _ _ _ _ (by omega)]))
   ·rw[hI.eq 8 (by omega),wP p ps hr];unfold pO;(repeat(first|rfl|rw[ae]|rw[ai _ _ _ _ (by omega)]))
   ·exact E5
 ·simp at h1
  have Xu:k=p.rules.length:=ah
  subst Xu
  simp+contextual (disch:=first|omega|simp only[go_sem,false_implies]) only[go_sem,wrap64,if_pos,k2,k8]
theorem Ku{s:aS}(h:iG s=true):s.bH.length<=8:=by
 unfold iG at h
 split at h
 ·cases h
 ·rename_i h2
  simp at h2;omega
def uD(p:Pg):List Cl×Int:=if pA p=true then(if(jZ p).length<=60 then(jZ p,0)else([],3))else([],2)
theorem GP(p:Pg)(hp:p.Fw)(h:dT p=true):aW Tryz.prog 41 [p.d] (.ret [crD p (ur p)]):=by
 have:=Nj p hp
 rwa [show yF p p.rules.length=p.rules.flatMap fun r=>qL r.rhs by unfold yF;rw[List.take_length],T6 (fun r hr=>pF h hr)]at this
theorem ES{p:Pg}(h:dT p=true):(ur p).length<=100:=by
 unfold ur
 have h1:=List.length_filter_le (fun n=>(p.rules.flatMap fun r=>qL r.rhs).contains n) ((List.range p.sig.bH.length).map fun n:Nat=>(n:Int))
 rw[List.length_map,List.length_range]at h1
 have h2:=Ku (yq h)
 omega
theorem Ue(p:Pg)(hp:p.Fw)(h:dT p=true):aW Tryz.prog 42 [crD p (ur p)] (.ret [.sl ((jZ p).map Cl.d)]):=
 Nk p hp (fun r hr=>(pF h hr).len) (fun r hr x hx h4=>(pF h hr).kids (yq h) hx h4) (ur p) (ES h)
theorem Nl(p:Pg)(hf:p.Fin)(hp:p.Fw)(hq:pA p=dT p):aW Tryz.prog 11 [p.d] (.ret [.sl ((uD p).1.map Cl.d), .i (uD p).2]):=by
 refine aW.aH mix YR aI ?_
 rw[c11,uD]
 refine br ?_
 refine aB (JO p hf) rfl ?_
 cases h1:pA p with
 |false=>simp+contextual (disch:=first|omega|simp only[go_sem,false_implies]) only[go_sem,wrap64,if_pos,nq]
 |true=>
 have h2:dT p=true:=hq ▸ h1
 refine BP ?_
 refine bn (GP p hp h2) ?_
 refine br ?_
 refine bn (Ue p hp h2) ?_
 have ni:(jZ p).length<=50500000:=by
  have:=uC hp (ES h2) p.rules.length (Nat.le_refl _)
  have:=hp.len
  unfold jZ;omega
 by_cases h3:(jZ p).length<=60
 ·have lF:decide (((jZ p).length:Int)>60)=false:=by simp;omega
  simp+contextual (disch:=first|omega|simp only[go_sem,false_implies]) only[go_sem,wrap64,if_pos,List.length_map,lF,if_pos h3]
 ·have lF:decide (((jZ p).length:Int)>60)=true:=by simp;omega
  simp+contextual (disch:=first|omega|simp only[go_sem,false_implies]) only[go_sem,wrap64,if_pos,List.length_map,lF,if_neg h3]
def Kv(ax kids:List Tm)(i j:Nat):List pV:=((List.range i).flatMap fun i=>og ax kids i kids.length)++og ax kids i j
theorem GQ(ax kids:List Tm)(i j:Nat):og ax kids i (j+1)=og ax kids i j++(uo ax kids i j).toList:=by
 unfold og
 rw[List.range_succ,List.filterMap_append]
 cases h:uo ax kids i j<;>simp[h]
theorem mM(ax kids:List Tm)(i:Nat):∀j,(og ax kids i j).length<=j
 |0=>by simp[og]
 |j+1=>by
  have:=mM ax kids i j
  rw[GQ,List.length_append]
  cases uo ax kids i j<;>simp<;>omega
theorem Bv(ax kids:List Tm)(j:Nat):∀i,(Kv ax kids i j).length<=i*kids.length+j
 |0=>by have:=mM ax kids 0 j;simpa[Kv]using this
 |i+1=>by
  have h1:=Bv ax kids kids.length i
  have h2:=mM ax kids (i+1) j
  have h3:=mM ax kids i kids.length
  unfold Kv at h1|-
  rw[List.range_succ,List.flatMap_append,List.append_assoc,List.length_append,List.length_append]
  rw[List.length_append]at h1
  simp only[List.flatMap_cons,List.flatMap_nil,List.append_nil]at h1|-
  have key:∀n,((List.range n).flatMap fun i=>og ax kids i kids.length).length<=n*kids.length:=by
   intro n
   induction n with
   |zero=>simp
   |succ n ih=>
    rw[List.range_succ,List.flatMap_append,List.length_append,Nat.add_mul]
    have:=mM ax kids n kids.length
    simp only[List.flatMap_cons,List.flatMap_nil,List.append_nil];omega
  have:=key i
  rw[Nat.add_mul];omega
theorem Kw(ax kids:List Tm):Kv ax kids ax.length 0=uq ax kids:=by unfold Kv uq;simp[og]
theorem Uf:∀t:Tm,∀x∈fM t,x.sz<=t.sz:=by
 refine Tm.cl fun t ih x hx=> ?_
 rw[lj]at hx
 rcases List.mem_cons.1 hx with e|e
 ·rw[e];exact Nat.le_refl _
 ·obtain⟨k,hk,h⟩:=List.mem_flatMap.1 e
  have:=ih k hk x h
  have:=fu hk
  have:=Tm.gv t
  omega
theorem Nn(t:Tm):t.kids.length<=t.sz:=by
 have h1:=Tm.gv t
 have key:∀l:List Tm,l.length<=eC l:=by
  intro l
  induction l with
  |nil=>simp
  |cons k l ih=>
   rw[ez,List.length_cons]
   have:=Tm.gv k
   omega
 have:=key t.kids
 omega
theorem Ug(p:Pg)(hp:p.Fw):aW Tryz.prog 12 [p.d] (.ret [.bool (dT p)]):=by
 refine aW.aH mix abW aI ?_
 rw[c12]
 refine br ?_
 refine aB (Nh p hp) rfl ?_
 exact pW
theorem Uh(p:Pg)(hp:p.Fits):aW Tryz.prog 9 [p.d] (.ret [.bool (ij p)]):=by
 refine aW.aH mix fn9 aI ?_
 rw[c9]
 refine br ?_
 refine aB (GM p hp) rfl ?_
 exact pW
theorem aaK(l:List Cl)(hl:l.length<=60)(h:∀c∈l,c.path.length<=20/\c.oh.length<=20):aW Tryz.prog 14 [.sl (l.map Cl.d)] (.ret [.bool true]):=by
 refine aW.aH mix abX aI ?_
 rw[c14]
 refine br ?_
 refine aE (fun k:Nat=>⟨ba [.d (.sl (l.map Cl.d)), .aa, .aa, .d (.i k)],fun _=> .no,0⟩)
  (fun k=>k<=l.length) (fun k=>l.length - k) 0 (Nat.zero_le _) (bC.d0 _ ?_) (fun k hk=> ?_)
 ·exact cE
 replace hk:k<=l.length:=hk
 by_cases h2:k<l.length
 ·have uZ:decide ((k:Int)<(l.length:Int))=true:=by simp;omega
  have lF:decide ((k:Int)<=70)=true:=by simp;omega
  obtain⟨c,hc⟩:=az h2
  obtain⟨c1,c2⟩:=h c (List.mem_of_getElem? hc)
  have OD:decide ((c.path.length:Int)>20)=false:=by simp;omega
  have nJ:decide ((c.oh.length:Int)>20)=false:=by simp;omega
  simp+contextual (disch:=first|omega|simp only[go_sem,false_implies]) only[go_sem,wrap64,if_pos,List.length_map,uZ,lF,hc,OD,nJ]
  refine aq (k+1) h2 ah (bC.d0 _ ?_)
  exact cE
 ·have uZ:decide ((k:Int)<(l.length:Int))=false:=by simp;omega
  have lF:decide ((l.length:Int)<=70)=true:=by simp;omega
  exact QH uZ lF
theorem Np{p:Pg}(h:dT p=true):∀c∈jZ p,c.path.length<=20/\c.oh.length<=16:=by
 intro c hc
 unfold jZ jv at hc
 obtain⟨n,hn,hc⟩:=List.mem_flatMap.1 hc
 cases hr:p.rules[n]? with
 |none=>rw[hr]at hc;cases hc
 |some r=>
  rw[hr]at hc
  have Ko:=List.mem_of_getElem? hr
  have hk:=pF h Ko
  obtain⟨x,hx,hc⟩:=List.mem_flatMap.1 hc
  have hp:=(hk.node hx).2
  unfold Fa at hc
  split at hc
  ·rename_i h4
   simp only[List.mem_singleton]at hc
   subst hc
   refine⟨by dsimp only;omega, ?_⟩
   dsimp only
   rw[<- Kw]
   have h1:=Bv r.ax x.t.kids 0 r.ax.length
   have h2:=hk.len
   have h3:=hk.kids (yq h) hx h4
   have h4:r.ax.length*x.t.kids.length<=4*4:=Nat.mul_le_mul h2 h3
   omega
  ·split at hc
   ·obtain⟨to,_,rfl⟩:=List.mem_map.1 hc
    exact⟨by dsimp only;omega,aI⟩
   ·cases hc
def db:List (Int×Tm)->Int->Option Tm
 |[],_=>none
 |p::l,v=>if p.1=v then some p.2 else db l v
mutual
def Tm.wf:Tm->Prop
 | .mk op _ kids=>(op=1->kids=[])/\(op=8->kids.length=2)/\Tm.wfs kids
def Tm.wfs:List Tm->Prop
 |[]=>True
 |k::l=>k.wf/\Tm.wfs l
end
theorem Tm.ET:∀l:List Tm,Tm.wfs l↔∀k∈l,k.wf
 |[]=>by simp[Tm.wfs]
 |k::l=>by simp[Tm.wfs,Tm.ET l]
theorem Tm.uE (t:Tm):t.wf↔(t.op=1->t.kids=[])/\(t.op=8->t.kids.length=2)/\∀k∈t.kids,k.wf:=by cases t;simp[Tm.wf,Tm.ET,Tm.op,Tm.kids]
theorem Ui{t:Tm}(h:t.kids.length=2):∃a b,t.kids=[a,b]:=by
 match hk:t.kids with
 |[a,b]=>exact⟨a,b,rfl⟩
 |[]=>rw[hk]at h;cases h
 |[_]=>rw[hk]at h;cases h
 |_::_::_::_=>rw[hk]at h;simp at h
theorem Bw{b:List (Int×Tm)}{v:Int}:db b v=none↔v∉b.map (·.1):=by
 induction b with
 |nil=>simp[db]
 |cons p l ih=>
  simp only[db,List.map_cons,List.mem_cons,not_or]
  split
  ·rename_i h;simp[h]
  ·rename_i h;rw[ih];exact⟨fun h2=>⟨fun e=>h e.symm,h2⟩,fun h2=>h2.2⟩
theorem EU{b:List (Int×Tm)}{v:Int}{x:Tm}(h:db b v=some x):(v,x)∈b:=by
 induction b with
 |nil=>cases h
 |cons p l ih=>
  simp only[db]at h
  split at h
  ·rename_i e;injection h with h;subst h;subst e;exact List.mem_cons_self ..
  ·exact List.mem_cons_of_mem _ (ih h)
theorem Uj{t a body:Tm}{v:Int}(h8:t.op=8)(hk:t.kids=[a,body]):fN v t=(fN v a||(fN v body&& !(t.n==v))):=by
 rw[lr,hk,h8]
 simp[oe]
theorem Dd{v n:Int}:fN v (.mk 1 n [])=(n==v):=rfl
theorem Kx{t:Tm}{v:Int}(h1:t.op≠1)(h8:t.op≠8):fN v t=t.kids.any (fN v):=by rw[lr,if_neg h1,yl h8]
def ac7(R:Int->Int->Prop)(x y:Int):Int->Int->Prop:=fun v w=>(v=x/\w=y)\/(v≠x/\w≠y/\R v w)
inductive Al:(Int->Int->Prop)->Tm->Tm->Prop where
 |var {R:Int->Int->Prop} {v w:Int} (h:R v w):Al R (.mk 1 v []) (.mk 1 w [])
 |De {R:Int->Int->Prop} {n m:Int} {a a' b b':Tm} (ha:Al R a a') (hb:Al (ac7 R n m) b b'):Al R (.mk 8 n [a,b]) (.mk 8 m [a',b'])
 |node {R:Int->Int->Prop} {op n:Int} {l l':List Tm} (h1:op≠1) (h8:op≠8) (hl:l.length=l'.length) (h:∀ (i:Nat) (k k':Tm),l[i]? =some k->l'[i]? =some k'->Al R k k'):Al R (.mk op n l) (.mk op n l')
theorem Al.mono {R:Int->Int->Prop}{t t':Tm}(h:Al R t t'):∀ {S:Int->Int->Prop},(∀v w,R v w->S v w)->Al S t t':=by
 induction h with
 |var h=>exact fun hs=> .var (hs _ _ h)
 |De ha hb iha ihb=>
  exact fun hs=> .De (iha hs) (ihb fun v w h=>h.elim Or.inl fun h=>Or.inr ⟨h.1,h.2.1,hs _ _ h.2.2⟩)
 |node h1 h8 hl h ih=>exact fun hs=> .node h1 h8 hl fun i k k' g g'=>ih i k k' g g' hs
def aaL(R S:Int->Int->Prop):Int->Int->Prop:=fun v w=>∃u,R v u/\S u w
theorem Al.comp {R:Int->Int->Prop}{t t1:Tm}(h:Al R t t1):∀ {S:Int->Int->Prop} {t2:Tm},Al S t1 t2->Al (aaL R S) t t2:=by
 induction h with
 |var h=>
  intro S t2 h2
  generalize he:Tm.mk 1 _ []=x at h2
  cases h2 with
  |var h3=>injection he with _ e _;subst e;exact .var ⟨_,h,h3⟩
  |De _ _=>injection he with e;cases e
  |node g1 _ _ _=>injection he with e;exact absurd e.symm g1
 |De ha hb iha ihb=>
  intro S t2 h2
  generalize he:Tm.mk 8 _ _=x at h2
  cases h2 with
  |var h3=>injection he with e;cases e
  |De g1 g2=>
   injection he with _ e1 e2
   injection e2 with e2 e3
   injection e3 with e3 _
   subst e1;subst e2;subst e3
   refine .De (iha g1) ((ihb g2).mono ?_)
   rintro v w ⟨u,(⟨p1,p2⟩|⟨p1,p2,p3⟩),(⟨q1,q2⟩|⟨q1,q2,q3⟩)⟩
   ·exact Or.inl ⟨p1,q2⟩
   ·exact absurd p2 q1
   ·exact absurd q1 p2
   ·exact Or.inr ⟨p1,q2,u,p3,q3⟩
  |node g1 g8 _ _=>injection he with e;exact absurd e.symm g8
 |node h1 h8 hl h ih=>
  intro S t2 h2
  generalize he:Tm.mk _ _ _=x at h2
  cases h2 with
  |var h3=>injection he with e;exact absurd e h1
  |De _ _=>injection he with e;exact absurd e h8
  |node g1 g8 gl g3=>
   injection he with e1 e2 e3
   subst e1;subst e2;subst e3
   refine .node h1 h8 (hl.trans gl) fun i k k2 hk hk2=> ?_
   have b8:i<_:=(List.getElem?_eq_some_iff.1 hk).1
   have Co:=List.getElem?_eq_getElem (hl ▸ b8)
   exact ih i k _ hk Co (g3 i _ k2 Co hk2)
theorem Nq{t:Tm}(hw:t.wf)(h:t.op=1):t= .mk 1 t.n []:=by
 obtain⟨op,n,kids⟩:=t
 rw[Tm.uE]at hw
 simp only[Tm.op,Tm.n,Tm.kids]at h hw|-
 rw[h,hw.1 h]
@[reducible] def ac8 (m:List (Int×Int)):ab:= .map 3 3 (enc (D.int .i64) (ints m))
@[reducible] def ac9 (m:List (Int×Int)):ab:= .gu (enc (D.int .i64) (ints m))
def BdV(o:Nat->ab)(bv:V)(m:List (Int×Int)):Prop:=(bv= .d .gy/\m=[])\/∃b,bv= .mp b/\o b=ac9 m
structure ada (o:Nat->ab) (nx cid fid:Nat) (bv:V) (mB bd fr:List (Int×Int)) (n:Int) (sz:Nat):Prop where
 bD:Good o nx
 hc:o cid= .row [.d (.i n), .mp fid]
 hf:o fid=ac8 fr
 hb:BdV o bv mB
 kb:qB mB
 lk:∀v,lk mB v=lk bd v
 n0:0<=n
 n1:n+sz<=1000000
@[go_sem] theorem VM {P:Program} {kt:TypeId} {k:D} {i:Nat}:findD P kt k [] i=some none:=rfl
theorem EV{c:Nat}{G:List Gr}{so:Nat->ab}{gone:Nat->Prop}{x x' y y':ab}(h:x=y)(h':x'=y')(hs:qy c G so gone y y'):qy c G so gone x x':=Dt
theorem Tm.Ky {t k:Tm}(hk:k∈t.kids):k.sz+1<=t.sz:=by
 have:=Tm.wE hk
 rw[Tm.kC,Tm.kC]at this
 omega
theorem rH(s:aS):∀t:Tm,fW s t=true->t.wf:=by
 refine Tm.cl fun t ih h=> ?_
 rw[iO,Bool.and_eq_true,List.all_eq_true]at h
 rw[Tm.uE]
 refine⟨fun h1=>uj h.1 h1,fun h8=> ?_,fun k hk=>ih k hk (h.2 k hk)⟩
 have:=h.1
 simp[a7,h8]at this
 omega
def aU(l:List TB):List (Int×Tm):=l.map fun x=>(x.var,x.term)
theorem Df{s:aS}{op n:Int}{l l':List Tm}(h:l'.length=l.length):a7 s (.mk op n l')=a7 s (.mk op n l):=by
 unfold a7
 dsimp only[Tm.op,Tm.n,Tm.kids]
 rw[h]
 rfl
theorem GR{s:aS}{k:Int}(h:0<=k/\k<20):a7 s (.mk 1 k [])=true:=by
 have:dP k 0 19=true:=by simp[dP];omega
 simp[a7,Tm.op,Tm.n,Tm.kids,this]
theorem Kz{s:aS}:∀t:Tm,fW s t=true->∀v,fN v t=true->0<=v/\v<20:=by
 refine Tm.cl fun t ih h v hv=> ?_
 have hw:=(Tm.uE t).1 (rH s t h)
 rw[iO,Bool.and_eq_true,List.all_eq_true]at h
 by_cases h1:t.op=1
 ·rw[lr,if_pos h1]at hv
  have hv:t.n=v:=by simpa using hv
  have:=h.1
  simp[a7,h1,dP]at this
  omega
 ·by_cases h8:t.op=8
  ·obtain⟨a,body,hk⟩:=Ui (hw.2.1 h8)
   rw[Uj h8 hk,Bool.or_eq_true,Bool.and_eq_true]at hv
   rcases hv with hv|hv
   ·exact ih a (by rw[hk];simp) (h.2 a (by rw[hk];simp)) v hv
   ·exact ih body (by rw[hk];simp) (h.2 body (by rw[hk];simp)) v hv.1
  ·rw[Kx h1 h8,List.any_eq_true]at hv
   obtain⟨k,hk,hv⟩:=hv
   exact ih k hk (h.2 k hk) v hv
def findF(l:List TB)(n:Int):Int:=match l.findIdx? (·.var==n)with|some i=>i|none=> -1
theorem KA(l:List TB)(n:Int)(hl:l.length<=1000000):aW Tryz.prog 65 [.sl (l.map TB.d), .i n] (.ret [.i (findF l n)]):=by
 refine aW.aH mix acB aI ?_
 rw[c65]
 refine br ?_
 refine aE (fun k:Nat=>⟨ba [.d (.sl (l.map TB.d)), .d (.i n), .aa, .aa, .aa, .d (.i k)],fun _=> .no,0⟩)
  (fun k=>k<=l.length/\∀j x,j<k->l[j]? =some x->x.var≠n) (fun k=>l.length - k) 0 ⟨Nat.zero_le _,fun _ _ h=>absurd h ah⟩ (bC.d0 _ ?_) (fun k hk=> ?_)
 ·exact cE
 refine lN ?_
 refine aj (fun h2=> ?_) (fun h2=> ?_)
 ·simp at h2
  obtain⟨x,hx⟩:=az h2
  refine lM hx ?_
  refine aj (fun h3=> ?_) (fun h3=> ?_)
  ·have lF:x.var=n:=by simpa using h3
   have:findF l n=k:=by
    have:l.findIdx? (·.var==n)=some k:=by
     rw[List.findIdx?_eq_some_iff_getElem]
     obtain⟨JL,e⟩:=List.getElem?_eq_some_iff.1 hx
     refine⟨JL,by rw[e];simpa using lF,fun j hj=> ?_⟩
     have:=hk.2 j _ hj (List.getElem?_eq_getElem ah)
     simpa using this
    rw[findF,this]
   rw[this]
   exact pW
  ·have lF:x.var≠n:=by simpa using h3
   refine br ?_
   refine aq (k+1) ⟨h2,fun j y hj hy=> ?_⟩ ah (bC.d0 _ ?_)
   ·by_cases e:j=k
    ·subst e;rw[hx]at hy;injection hy with hy;rw[<- hy];exact lF
    ·exact hk.2 j y ah hy
   ·exact cE
 ·simp at h2
  have:findF l n= -1:=by
   have:l.findIdx? (·.var==n)=none:=by
    rw[List.findIdx?_eq_none_iff]
    intro x hx
    obtain⟨j,hj,e⟩:=List.getElem_of_mem hx
    have:=hk.2 j x ah (by rw[List.getElem?_eq_getElem hj,e])
    simpa using this
   rw[findF,this]
  rw[this]
  exact pW
theorem EW(l:List TB)(n:Int):(findF l n<0/\db (aU l) n=none)\/∃ (k:Nat) (x:TB),findF l n=k/\l[k]? =some x/\db (aU l) n=some x.term:=by
 induction l with
 |nil=>left;exact⟨by simp[findF],rfl⟩
 |cons y l ih=>
  by_cases h:y.var=n
  ·right
   refine⟨0,y, ?_,rfl, ?_⟩
   ·simp[findF,List.findIdx?_cons,h]
   ·simp[aU,db,h]
  ·have hf:db (aU (y::l)) n=db (aU l) n:=by simp[aU,db,h]
   have h':(y.var==n)=false:=by simpa using h
   rw[hf]
   unfold findF at ih|-
   rw[List.findIdx?_cons,h']
   simp only[Bool.false_eq_true,if_false]
   rcases ih with⟨h1,h2⟩|⟨k,x,h1,h2,h3⟩
   ·left
    refine⟨?_,h2⟩
    cases hi:l.findIdx? (·.var==n)with
    |none=>simp
    |some i=>rw[hi]at h1;simp at h1;omega
   ·right
    refine⟨k+1,x, ?_,h2,h3⟩
    cases hi:l.findIdx? (·.var==n)with
    |none=>rw[hi]at h1;simp at h1;try omega
    |some i=>rw[hi]at h1;simp at h1|-;try omega
def jx(g:List Int)(i:Int):Nat:=(g.filter fun x=>decide (x<i)).length
theorem mN{g:List Int}{i:Int}(h:∀x∈g,i<=x):jx g i=0:=by
 unfold jx
 rw[List.filter_eq_nil_iff.2 (fun x hx=>by have:=h x hx;simp;omega)];rfl
theorem Nr{g:List Int}{i:Int}(h:∀x∈g,x<i):jx g i=g.length:=by
 unfold jx
 rw[List.filter_eq_self.2 (fun x hx=>by simpa using h x hx)]
theorem Bx:∀ {g:List Int},Lh g->∀i:Int,if i∈g then g[jx g i]? =some i/\jx g (i+1)=jx g i+1 else jx g (i+1)=jx g i
 |[],_,i=>by simp[jx]
 |x::g,hg,i=>by
  have VN:=List.pairwise_cons.1 hg
  have ih:=Bx VN.2 i
  have hc:∀j,jx (x::g) j=(if x<j then 1 else 0)+jx g j:=fun j=>by
   unfold jx
   rw[List.filter_cons]
   by_cases e:x<j
   ·simp[e];omega
   ·simp[e]
  rcases Int.lt_trichotomy x i with h|h|h
  ·have hm:(i∈x::g)↔i∈g:=by simp;omega
   simp only[hm,hc,if_pos h,if_pos (show x<i+1 by omega)]
   split
   ·rename_i e
    rw[if_pos e]at ih
    refine⟨?_,ah⟩
    rw[show 1+jx g i=jx g i+1 by omega,List.getElem?_cons_succ]
    exact ih.1
   ·rename_i e
    rw[if_neg e]at ih
    omega
  ·subst h
   have z1:jx g x=0:=mN fun y hy=>by have:=VN.1 y hy;omega
   have z2:jx g (x+1)=0:=mN fun y hy=>by have:=VN.1 y hy;omega
   rw[if_pos (by simp),hc,hc,z1,z2,if_neg (by omega),if_pos (by omega)]
   exact⟨rfl,rfl⟩
  ·have hm: ¬i∈x::g:=by
    intro hm
    rcases List.mem_cons.1 hm with rfl|hm
    ·omega
    ·have:=VN.1 i hm;omega
   have z1:jx g i=0:=mN fun y hy=>by have:=VN.1 y hy;omega
   have z2:jx g (i+1)=0:=mN fun y hy=>by have:=VN.1 y hy;omega
   rw[if_neg hm,hc,hc,z1,z2,if_neg (by omega),if_neg (by omega)]
theorem EX{ns:List Int}(h:∀n∈ns,0<=n/\n<20)(hi:Lh ns):ns.length<=20:=by
 have hc:∀k:Nat,jx ns (k:Int)<=k:=by
  intro k
  induction k with
  |zero=>show jx ns (0:Int)<=0;rw[mN (fun x hx=>(h x hx).1)];exact Nat.le_refl _
  |succ k ih=>
   have:=Bx hi (k:Int)
   rw[Int.natCast_succ]
   split at this<;>omega
 have:jx ns (20:Int)<=20:=hc 20
 rwa [Nr (fun x hx=>(h x hx).2)]at this
mutual
def dU(b:List (Int×Tm)):Tm->Tm
 | .mk op n kids=>if op=1 then(match db b n with|some x=>x|none=> .mk op n kids)else .mk op n (Ns b kids)
def Ns(b:List (Int×Tm)):List Tm->List Tm
 |[]=>[]
 |k::l=>dU b k::Ns b l
end
theorem Bz(b:List (Int×Tm)):∀l:List Tm,Ns b l=l.map (dU b)
 |[]=>rfl
 |k::l=>by simp[Ns,Bz b l]
theorem uF(b:List (Int×Tm))(t:Tm):dU b t=if t.op=1 then(match db b t.n with|some x=>x|none=>t)else .mk t.op t.n (t.kids.map (dU b)):=by
 cases t;simp only[dU,Bz,Tm.op,Tm.n,Tm.kids];rfl
def Lv(b:List (Int×Tm))(v:Int):Tm:=match db b v with|some x=>x|none=> .mk 1 v []
def vop(t:Tm):Prop:=(1<=t.op/\t.op<=3)\/t.op=5
def Vs(s:aS)(t:Tm):Prop:=fW s t=true/\ey t=true
theorem lx{s:aS}{t:Tm}:Vs s t↔a7 s t=true/\vop t/\∀k∈t.kids,Vs s k:=by
 unfold Vs vop
 rw[iO,qz]
 simp only[Bool.and_eq_true,List.all_eq_true,Bool.or_eq_true,decide_eq_true_eq,beq_iff_eq]
 constructor
 ·rintro⟨⟨h1,h2⟩,h3,h4⟩;exact⟨h1,h4,fun k hk=>⟨h2 k hk,h3 k hk⟩⟩
 ·rintro⟨h1,h2,h3⟩;exact⟨⟨h1,fun k hk=>(h3 k hk).1⟩,fun k hk=>(h3 k hk).2,h2⟩
theorem Vs.wD {s:aS}{t k:Tm}(h:Vs s t)(hk:k∈t.kids):Vs s k:=(lx.1 h).2.2 k hk
theorem Vs.eta {s:aS}{t:Tm}(h:Vs s t)(h1:t.op=1):t= .mk 1 t.n []:=Nq (rH s t h.1) h1
theorem Vs.n8 {s:aS}{t:Tm}(h:Vs s t):t.op≠8:=by rcases(lx.1 h).2.1 with h|h<;>omega
theorem Vs.range {s:aS}{t:Tm}(h:Vs s t){v:Int}(hv:fN v t=true):0<=v/\v<20:=Kz t h.1 v hv
theorem Vs.var {s:aS}{v:Int}(h:0<=v/\v<20):Vs s (.mk 1 v []):=lx.2 ⟨GR h,Or.inl ⟨by show(1:Int)<=1;omega,by show(1:Int)<=3;omega⟩,fun k hk=>by cases hk⟩
theorem Vs.mk' {s:aS}{t:Tm}{l:List Tm}(h:Vs s t)(hl:l.length=t.kids.length)(hk:∀k∈l,Vs s k):Vs s (.mk t.op t.n l):=
 lx.2 ⟨by rw[Df hl,Tm.eta];exact(lx.1 h).1,(lx.1 h).2.1,hk⟩
theorem jz{t:Tm}(h1:t.op=1){v:Int}:fN v t=true↔t.n=v:=by rw[lr,if_pos h1];simp
theorem rI{s:aS}{t:Tm}(h:Vs s t)(h1:t.op≠1){v:Int}:fN v t=true↔∃k∈t.kids,fN v k=true:=by rw[Kx h1 h.n8,List.any_eq_true]
theorem jL{b:List (Int×Tm)}{s:aS}{t:Tm}(h:Vs s t)(h1:t.op=1):dU b t=Lv b t.n:=by
 rw[uF,if_pos h1,Lv]
 cases db b t.n with
 |some x=>rfl
 |none=>exact h.eta h1
theorem uG{b:List (Int×Tm)}{v:Int}:dU b (.mk 1 v [])=Lv b v:=by rw[uF];rfl
theorem jM{b:List (Int×Tm)}{t:Tm}(h1:t.op≠1):dU b t= .mk t.op t.n (t.kids.map (dU b)):=by rw[uF,if_neg h1]
theorem BA{s:aS}{b c:List (Int×Tm)}:∀t:Tm,Vs s t->(∀v,fN v t=true->Lv b v=Lv c v)->dU b t=dU c t:=by
 refine Tm.cl fun t ih hv h=> ?_
 by_cases h1:t.op=1
 ·rw[jL hv h1,jL hv h1,h _ ((jz h1).2 rfl)]
 ·rw[jM h1,jM h1,List.map_congr_left fun k hk=>ih k hk (hv.wD hk) fun v uL=>h v ((rI hv h1).2 ⟨k,hk,uL⟩)]
theorem yG{s:aS}{b c d:List (Int×Tm)}:∀t:Tm,Vs s t->(∀v,fN v t=true->dU c (Lv b v)=Lv d v)->dU c (dU b t)=dU d t:=by
 refine Tm.cl fun t ih hv h=> ?_
 by_cases h1:t.op=1
 ·rw[jL hv h1,jL hv h1,h _ ((jz h1).2 rfl)]
 ·rw[jM h1,jM h1 (b:=d),jM (by exact h1)]
  show Tm.mk t.op t.n ((t.kids.map (dU b)).map (dU c))=_
  rw[List.map_map,List.map_congr_left (f:=dU c∘dU b) (g:=dU d) fun k hk=>ih k hk (hv.wD hk) fun v uL=>h v ((rI hv h1).2 ⟨k,hk,uL⟩)]
theorem Qt{s:aS}{b:List (Int×Tm)}:∀t:Tm,Vs s t->(∀v,fN v t=true->db b v=none)->dU b t=t:=by
 refine Tm.cl fun t ih hv h=> ?_
 by_cases h1:t.op=1
 ·rw[jL hv h1,Lv,h _ ((jz h1).2 rfl)]
  exact(hv.eta h1).symm
 ·rw[jM h1,List.map_congr_left (g:=id) fun k hk=>ih k hk (hv.wD hk) fun v uL=>h v ((rI hv h1).2 ⟨k,hk,uL⟩),List.map_id]
  exact Tm.eta t
theorem Vs.Lv {s:aS}{b:List (Int×Tm)}(hb:∀p∈b,Vs s p.2){v:Int}(h:0<=v/\v<20):Vs s (Lv b v):=by
 unfold YtnkamdiiakdkgaaGreat.Lv
 cases hl:db b v with
 |some x=>exact hb _ (EU hl)
 |none=>exact Vs.var h
theorem Vs.sub {s:aS}{b:List (Int×Tm)}(hb:∀p∈b,Vs s p.2):∀t:Tm,Vs s t->Vs s (dU b t):=by
 refine Tm.cl fun t ih hv=> ?_
 by_cases h1:t.op=1
 ·rw[jL hv h1];exact Vs.Lv hb (hv.range ((jz h1).2 rfl))
 ·rw[jM h1]
  refine hv.mk' aI fun k hk=> ?_
  obtain⟨x,hx,rfl⟩:=List.mem_map.1 hk
  exact ih x hx (hv.wD hx)
theorem KC{s:aS}{b:List (Int×Tm)}(hb:∀p∈b,Vs s p.2):∀t:Tm,Vs s t->∀v,fN v (dU b t)=true↔∃u,fN u t=true/\fN v (Lv b u)=true:=by
 refine Tm.cl fun t ih hv v=> ?_
 by_cases h1:t.op=1
 ·rw[jL hv h1]
  simp only[jz h1]
  exact⟨fun h=>⟨_,rfl,h⟩,fun⟨u,e,h⟩=>e ▸ h⟩
 ·have Gz:=Vs.sub hb t hv
  rw[jM h1]at Gz|-
  rw[rI Gz (by exact h1)]
  simp only[rI hv h1,Tm.kids,List.mem_map]
  constructor
  ·rintro⟨_,⟨k,hk,rfl⟩,h⟩
   obtain⟨u,h2,h3⟩:=(ih k hk (hv.wD hk) v).1 h
   exact⟨u,⟨k,hk,h2⟩,h3⟩
  ·rintro⟨u,⟨k,hk,h2⟩,h3⟩
   exact⟨_,⟨k,hk,rfl⟩,(ih k hk (hv.wD hk) v).2 ⟨u,h2,h3⟩⟩
def j5:List TB->Int->Tm->List TB
 |[],n,t=>[⟨n,t⟩]
 |x::l,n,t=>if x.var<n then x::j5 l n t else⟨n,t⟩::x::l
abbrev Dg(n:Int)(t:Tm):List (Int×Tm):=[(n,t)]
def BB(l:List TB)(n:Int)(t:Tm):List TB:=j5 (l.map fun x=>⟨x.var,dU (Dg n t) x.term⟩) n t
theorem yH{l:List TB}{n:Int}{t:Tm}(hn:db (aU l) n=none)(v:Int):db (aU (j5 l n t)) v=if v=n then some t else db (aU l) v:=by
 induction l with
 |nil=>
  simp only[j5,aU,List.map_cons,List.map_nil,db]
  by_cases e:v=n
  ·simp[e]
  ·exact Hv
 |cons x l ih=>
  simp only[aU,List.map_cons,db]at hn
  by_cases e1:x.var=n
  ·rw[if_pos e1]at hn;cases hn
  ·rw[if_neg e1]at hn
   have ih:=ih hn
   simp only[j5]
   split
   ·simp only[aU,List.map_cons,db]at ih|-
    by_cases e:x.var=v
    ·rw[if_pos e,if_pos e,if_neg fun h=>e1 (e.trans h)]
    ·rw[if_neg e,if_neg e];exact ih
   ·simp only[aU,List.map_cons,db]
    by_cases e:v=n
    ·simp[e]
    ·exact Hv
theorem KF(l:List TB)(g:Tm->Tm)(v:Int):db (aU (l.map fun x=>⟨x.var,g x.term⟩)) v=(db (aU l) v).map g:=by
 induction l with
 |nil=>rfl
 |cons x l ih=>
  simp only[aU,List.map_cons,db]at ih|-
  split
  ·rfl
  ·exact ih
theorem EY{l:List TB}{n:Int}{t:Tm}(hn:db (aU l) n=none)(v:Int):db (aU (BB l n t)) v=if v=n then some t else(db (aU l) v).map (dU (Dg n t)):=by
 unfold BB
 rw[yH (by rw[KF,hn];rfl),KF]
theorem KG{n v:Int}{t:Tm}:Lv (Dg n t) v=if v=n then t else .mk 1 v []:=by
 simp only[Lv,Dg,db]
 by_cases e:v=n
 ·simp[e]
 ·exact Hv
theorem yI{l:List TB}{n:Int}{t:Tm}(hn:db (aU l) n=none)(v:Int):Lv (aU (BB l n t)) v=if v=n then t else dU (Dg n t) (Lv (aU l) v):=by
 simp only[Lv,EY hn]
 by_cases e:v=n
 ·simp[e]
 ·simp only[if_neg e]
  cases h:db (aU l) v with
  |some x=>rfl
  |none=>simp only[Option.map_none];rw[uG,KG,if_neg e]
structure BN (s:aS) (l:List TB):Prop where
 srt:l.Pairwise fun x y=>x.var<y.var
 ok:∀x∈l,(0<=x.var/\x.var<20)/\Vs s x.term
 idem:∀x∈l,∀u,fN u x.term=true->db (aU l) u=none
theorem BN.nil {s:aS}:BN s []:=⟨List.Pairwise.nil,fun _ h=>(by cases h),fun _ h=>(by cases h)⟩
theorem BN.bd {s:aS}{l:List TB}(h:BN s l):∀p∈aU l,Vs s p.2:=fun p hp=>by
 obtain⟨x,hx,rfl⟩:=List.mem_map.1 hp
 exact(h.ok x hx).2
theorem m9{l:List TB}{v:Int}{t:Tm}(h:db (aU l) v=some t):∃x∈l,x.var=v/\x.term=t:=by
 obtain⟨x,hx,e⟩:=List.mem_map.1 (EU h)
 injection e with e1 e2
 exact⟨x,hx,e1,e2⟩
theorem BN.Nt {s:aS}{l:List TB}(h:BN s l){v u:Int}(hu:fN u (Lv (aU l) v)=true):db (aU l) u=none:=by
 unfold Lv at hu
 cases hl:db (aU l) v with
 |some x=>
  rw[hl]at hu
  obtain⟨y,hy,e1,e2⟩:=m9 hl
  exact h.idem y hy u (e2 ▸ hu)
 |none=>
  rw[hl]at hu
  have:v=u:=by rw[Dd]at hu;simpa using hu
  exact this ▸ hl
theorem BN.free {s:aS}{l:List TB}(h:BN s l){t:Tm}(ht:Vs s t){u:Int}(hu:fN u (dU (aU l) t)=true):db (aU l) u=none:=by
 obtain⟨w,_,h2⟩:=(KC h.bd t ht u).1 hu
 exact h.Nt h2
def BC(l l':List TB):Prop:=∀v,dU (aU l') (Lv (aU l) v)=Lv (aU l') v
theorem BC.sub {s:aS}{l l':List TB}(h:BC l l'){t:Tm}(ht:Vs s t):dU (aU l') (dU (aU l) t)=dU (aU l') t:=yG t ht fun v _=>h v
theorem BC.refl {s:aS}{l:List TB}(h:BN s l):BC l l:=fun v=>by
 cases hl:db (aU l) v with
 |none=>rw[show Lv (aU l) v= .mk 1 v [] by simp[Lv,hl],uG];simp[Lv,hl]
 |some x=>
  have hx:Lv (aU l) v=x:=by simp[Lv,hl]
  obtain⟨y,hy,e1,e2⟩:=m9 hl
  rw[hx]
  exact Qt (s:=s) x (e2 ▸ (h.ok y hy).2) fun u hu=>h.idem y hy u (e2 ▸ hu)
theorem BC.trans {s:aS}{l l' l'':List TB}(hl:BN s l)(h:BC l l')(h':BC l' l'')(hr:∀v,db (aU l) v≠none->0<=v/\v<20):BC l l'':=fun v=>by
 cases hv:db (aU l) v with
 |none=>rw[show Lv (aU l) v= .mk 1 v [] by simp[Lv,hv],uG]
 |some x=>
  have hx:Lv (aU l) v=x:=by simp[Lv,hv]
  obtain⟨y,hy,e1,e2⟩:=m9 hv
  have Gz:Vs s x:=e2 ▸ (hl.ok y hy).2
  rw[hx, <- h'.sub Gz, <- hx,h v,h' v]
theorem BN.dom {s:aS}{l:List TB}(h:BN s l){v:Int}(hv:db (aU l) v≠none):0<=v/\v<20:=by
 cases hl:db (aU l) v with
 |none=>exact absurd hl hv
 |some x=>obtain⟨y,hy,e1,e2⟩:=m9 hl;exact e1 ▸ (h.ok y hy).1
theorem yJ{l:List TB}{n:Int}{t:Tm}{x:TB}:x∈j5 l n t↔x=⟨n,t⟩\/x∈l:=by
 induction l with
 |nil=>simp[j5]
 |cons y l ih=>
  simp only[j5]
  split
  ·simp only[List.mem_cons,ih]
   constructor
   ·rintro(h|h|h)
    ·exact Or.inr (Or.inl h)
    ·exact Or.inl h
    ·exact Or.inr (Or.inr h)
   ·rintro(h|h|h)
    ·exact Or.inr (Or.inl h)
    ·exact Or.inl h
    ·exact Or.inr (Or.inr h)
  ·simp only[List.mem_cons]
theorem Nu{l:List TB}{n:Int}{t:Tm}(h:l.Pairwise fun x y=>x.var<y.var)(hn:∀x∈l,x.var≠n):(j5 l n t).Pairwise fun x y=>x.var<y.var:=by
 induction l with
 |nil=>simp[j5]
 |cons y l ih=>
  rw[List.pairwise_cons]at h
  simp only[j5]
  split
  ·rename_i hy
   rw[List.pairwise_cons]
   refine⟨fun z hz=> ?_,ih h.2 fun x hx=>hn x ng⟩
   rcases yJ.1 hz with rfl|hz
   ·exact hy
   ·exact h.1 z hz
  ·rename_i hy
   have:=hn y aI
   rw[List.pairwise_cons,List.pairwise_cons]
   refine⟨fun z hz=> ?_,h⟩
   rcases List.mem_cons.1 hz with rfl|hz
   ·show n<z.var;omega
   ·have:=h.1 z hz;show n<z.var;omega
theorem vi{l:List TB}{n:Int}(h:db (aU l) n=none):∀x∈l,x.var≠n:=fun x hx e=>by
 rw[Bw]at h
 exact h (List.mem_map.2 ⟨(x.var,x.term),List.mem_map.2 ⟨x,hx,rfl⟩,e⟩)
def Hh:Nat->List (Int×Tm)->Tm->Option Tm
 |0,_,_=>none
 |f+1,b,t=>if t.op=1 then(match db b t.n with|some x=>Hh f b x|none=>some t)else some t
def Li(F:Tm->List Int->Option (Bool×List Int)):List Tm->List Int->Option (Bool×List Int)
 |[],met=>some (false,met)
 |k::ks,met=>if k.op=1/\k.n∈met then Li F ks met else
  match F k (if k.op=1 then rX met k.n else met)with
  |some (true,m)=>some (true,m)
  |some (false,m)=>Li F ks m
  |none=>none
def Nv:Nat->List (Int×Tm)->Int->Tm->List Int->Option (Bool×List Int)
 |0,_,_,_,_=>none
 |f+1,b,n,t,met=>match Hh f b t with
  |some x=>if x.op=1 then some (x.n==n,met)else Li (Nv f b n) x.kids met
  |none=>none
theorem uH{b:List (Int×Tm)}:∀ {f g:Nat} {t x:Tm},Hh f b t=some x->f<=g->Hh g b t=some x
 |0,_,_,_,h,_=>by cases h
 |f+1,0,_,_,_,h=>ah
 |f+1,g+1,t,x,h,hg=>by
  simp only[Hh]at h|-
  split
  ·rename_i h1
   rw[if_pos h1]at h
   cases hl:db b t.n with
   |none=>rw[hl]at h;exact h
   |some y=>rw[hl]at h;exact uH (f:=f) h ah
  ·rename_i h1
   rw[if_neg h1]at h
   exact h
theorem mO{F G:Tm->List Int->Option (Bool×List Int)}(hFG:∀k m r,F k m=some r->G k m=some r):∀ {ks:List Tm} {met:List Int} {r:Bool×List Int},Li F ks met=some r->Li G ks met=some r
 |[],_,_,h=>h
 |k::ks,met,r,h=>by
  simp only[Li]at h|-
  split
  ·rename_i h1;rw[if_pos h1]at h;exact mO hFG h
  ·rename_i h1
   rw[if_neg h1]at h
   split at h
   ·rename_i m e;rw[hFG _ _ _ e];exact h
   ·rename_i m e;rw[hFG _ _ _ e];exact mO hFG h
   ·cases h
theorem pP{b:List (Int×Tm)}{n:Int}:∀ {f g:Nat} {t:Tm} {met:List Int} {r:Bool×List Int},Nv f b n t met=some r->f<=g->Nv g b n t met=some r
 |0,_,_,_,_,h,_=>by cases h
 |f+1,0,_,_,_,_,h=>ah
 |f+1,g+1,t,met,r,h,hg=>by
  simp only[Nv]at h|-
  split at h
  ·rename_i x e
   rw[uH e (by omega:f<=g)]
   simp only
   split
   ·rename_i h1;rw[if_pos h1]at h;exact h
   ·rename_i h1;rw[if_neg h1]at h;exact mO (fun k m r hk=>pP hk ah) h
  ·cases h
structure KH (s:aS) (b:List (Int×Tm)) (l:List TB) (ρ:Int->Nat) (R:Nat):Prop where
 keys:(b.map (·.1)).Nodup
 dom:∀v,db b v=none↔db (aU l) v=none
 ok:∀v x,db b v=some x->Vs s x/\Lv (aU l) v=dU (aU l) x/\∀u,fN u x=true->ρ u<ρ v
 bd:∀v,ρ v<=R
theorem KH.nil {s:aS}:KH s [] [] (fun _=>0) 0:=⟨List.nodup_nil,fun _=>Iff.rfl,fun _ _ h=>(by cases h),fun _=>Nat.le_refl _⟩
theorem KH.at {s:aS}{b:List (Int×Tm)}{l:List TB}{ρ:Int->Nat}{R:Nat}(h:KH s b l ρ R):∀ (m:Nat) (t:Tm),Vs s t->(t.op=1->ρ t.n<=m)->∃x,Hh (m+2) b t=some x/\Vs s x/\dU (aU l) x=dU (aU l) t/\(x.op=1->db b x.n=none)/\(t.op≠1->x=t)/\(t.op=1->(∀u,fN u x=true->ρ u<=ρ t.n)/\(x.op≠1->∀u,fN u x=true->ρ u<ρ t.n)):=by
 intro m
 induction m with
 |zero=>
  intro t hv hm
  by_cases h1:t.op=1
  ·cases hl:db b t.n with
   |none=>
    exact WS
   |some x=>
    obtain⟨g1,g2,g3⟩:=h.ok _ _ hl
    by_cases hx:x.op=1
    ·have:=g3 x.n ((jz hx).2 rfl)
     have:=hm h1
     omega
    ·refine⟨x,by simp only[Hh,if_pos h1,hl,if_neg hx],g1,by rw[<- g2,jL hv h1],fun h=>absurd h hx,fun h=>absurd h1 h,fun _=>⟨fun u hu=>Nat.le_of_lt (g3 u hu),fun _=>g3⟩⟩
  ·exact Wf
 |succ m ih=>
  intro t hv hm
  by_cases h1:t.op=1
  ·cases hl:db b t.n with
   |none=>
    exact WS
   |some x=>
    obtain⟨g1,g2,g3⟩:=h.ok _ _ hl
    obtain⟨y,i1,i2,i3,i4,i5,i6⟩:=ih x g1 (fun hx=>by have:=g3 x.n ((jz hx).2 rfl);have:=hm h1;omega)
    refine⟨y,by rw[Hh,if_pos h1,hl];exact i1,i2,by rw[i3, <- g2,jL hv h1],i4,fun h=>absurd h1 h,fun _=> ?_⟩
    by_cases hx:x.op=1
    ·have g4:=g3 x.n ((jz hx).2 rfl)
     exact⟨fun u hu=>by have:=(i6 hx).1 u hu;omega,fun h2 u hu=>by have:=(i6 hx).2 h2 u hu;omega⟩
    ·rw[i5 hx]
     exact⟨fun u hu=>Nat.le_of_lt (g3 u hu),fun _=>g3⟩
  ·exact Wf
theorem KH.root {s:aS}{b:List (Int×Tm)}{l:List TB}{ρ:Int->Nat}{R:Nat}(h:KH s b l ρ R){t:Tm}(hv:Vs s t):∃x,Hh (R+2) b t=some x/\Vs s x/\dU (aU l) x=dU (aU l) t/\(x.op=1->db b x.n=none)/\(t.op≠1->x=t)/\(t.op=1->(∀u,fN u x=true->ρ u<=ρ t.n)/\(x.op≠1->∀u,fN u x=true->ρ u<ρ t.n)):=
 h.at R t hv fun _=>h.bd _
def BD(l:List TB)(ρ:Int->Nat)(n:Int)(r:Nat)(met:List Int):Prop:=∀v∈met,ρ v<r-> ¬fN n (Lv (aU l) v)=true
theorem KH.ins {s:aS}{b:List (Int×Tm)}{l:List TB}{ρ:Int->Nat}{R:Nat}(h:KH s b l ρ R)(hl:BN s l){n:Int}(hn:db (aU l) n=none):∀ (z:Nat) (t:Tm) (r:Nat) (met:List Int),Vs s t->(dU (aU l) t).sz<=z->(t.op=1->ρ t.n<=r)->(t.op≠1->∀u,fN u t=true->ρ u<r)->BD l ρ n r met->
 ∃f is jn,Nv f b n t met=some (is,jn)/\(is=true↔fN n (dU (aU l) t)=true)/\(is=false->(∀v∈met,v∈jn)/\(∀v∈jn,v∈met\/ρ v<r)/\BD l ρ n r jn):=by
 intro z
 induction z with
 |zero=>intro t r met _ hz;have:=Tm.TO (dU (aU l) t);omega
 |succ z ih=>
  intro t r met hv hz hr1 pU aaM
  obtain⟨x,a1,a2,a3,a4,a5,a6⟩:=h.root hv
  have hxr:x.op≠1->∀u,fN u x=true->ρ u<r:=fun hx u hu=>by
   by_cases h1:t.op=1
   ·have:=(a6 h1).2 hx u hu;have:=hr1 h1;omega
   ·rw[a5 h1]at hu;exact pU h1 u hu
  by_cases h1:x.op=1
  ·refine⟨R+3,x.n==n,met,by simp only[Nv,a1,if_pos h1], ?_,fun _=>⟨fun _ h=>h,fun _ h=>Or.inl h,aaM⟩⟩
   rw[<- a3,jL a2 h1,show Lv (aU l) x.n= .mk 1 x.n [] by simp[Lv,(h.dom _).1 (a4 h1)],Dd]
  ·have hvx:=jM (b:=aU l) h1
   have key:∀ (ks:List Tm) (met:List Int),(∀k∈ks,k∈x.kids)->BD l ρ n r met->
    ∃f is jn,Li (Nv f b n) ks met=some (is,jn)/\(is=true↔∃k∈ks,fN n (dU (aU l) k)=true)/\(is=false->(∀v∈met,v∈jn)/\(∀v∈jn,v∈met\/ρ v<r)/\BD l ρ n r jn):=by
    intro ks
    induction ks with
    |nil=>intro met _ hm;exact⟨0,false,met,rfl,aI,fun _=>⟨fun _ h=>h,fun _ h=>Or.inl h,hm⟩⟩
    |cons k ks Qp=>
     intro met hks hm
     have hk:=hks k aI
     have vk:=a2.wD hk
     have hkr:∀u,fN u k=true->ρ u<r:=fun u hu=>hxr h1 u ((rI a2 h1).2 ⟨k,hk,hu⟩)
     have hkz:(dU (aU l) k).sz<=z:=by
      have h3:dU (aU l) k∈(dU (aU l) x).kids:=by rw[hvx];exact List.mem_map.2 ⟨k,hk,rfl⟩
      have h4:=Tm.Ky h3
      rw[a3]at h4
      omega
     by_cases DH:k.op=1/\k.n∈met
     ·have sc: ¬fN n (dU (aU l) k)=true:=by
       rw[jL vk DH.1]
       exact hm _ DH.2 (hkr _ ((jz DH.1).2 rfl))
      obtain⟨f,is,jn,i1,i2,i3⟩:=Qp met (fun y hy=>hks y nH) hm
      refine⟨f,is,jn,by simp only[Li,if_pos DH];exact i1, ?_,i3⟩
      rw[i2]
      simp[sc]
     ·have Oz:∃f is jn,Nv f b n k (if k.op=1 then rX met k.n else met)=some (is,jn)/\(is=true↔fN n (dU (aU l) k)=true)/\(is=false->(∀v∈met,v∈jn)/\(∀v∈jn,v∈met\/ρ v<r)/\BD l ρ n r jn):=by
       by_cases Co:k.op=1
       ·have WJ:=hkr _ ((jz Co).2 rfl)
        obtain⟨f,is,jn,i1,i2,i3⟩:=ih k (ρ k.n) (rX met k.n) vk hkz (fun _=>Nat.le_refl _) (fun h=>absurd Co h) (fun v hv b8=>by
         rcases mG.1 hv with hv|rfl
         ·exact hm v hv ah
         ·omega)
        refine⟨f,is,jn,by rw[if_pos Co];exact i1,i2,fun hf=> ?_⟩
        obtain⟨j1,j2,j3⟩:=i3 hf
        refine⟨fun v hv=>j1 v (mG.2 (Or.inl hv)),fun v hv=> ?_,fun v hv b8=> ?_⟩
        ·rcases j2 v hv with hv|hv
         ·rcases mG.1 hv with hv|rfl
          ·exact Or.inl hv
          ·exact Or.inr WJ
         ·exact Or.inr ah
        ·rcases j2 v hv with uL|uL
         ·rcases mG.1 uL with uL|rfl
          ·exact hm v uL b8
          ·intro hh
           have:is=true:=i2.2 (by rw[jL vk Co];exact hh)
           rw[hf]at this;cases this
         ·exact j3 v hv uL
       ·rw[if_neg Co]
        exact ih k r met vk hkz (fun h=>absurd h Co) (fun _=>hkr) hm
      obtain⟨f,is,jn,i1,i2,i3⟩:=Oz
      cases is with
      |true=>
       refine⟨f,true,jn,by simp only[Li,if_neg DH,i1], ?_,fun h=>by cases h⟩
       exact⟨fun _=>⟨k,aI,i2.1 rfl⟩,fun _=>rfl⟩
      |false=>
       obtain⟨j1,j2,j3⟩:=i3 rfl
       have sc: ¬fN n (dU (aU l) k)=true:=fun h=>by have:=i2.2 h;cases this
       obtain⟨f2,is2,adb,k1,k2,k3⟩:=Qp jn (fun y hy=>hks y nH) j3
       refine⟨max f f2,is2,adb, ?_, ?_,fun hf=> ?_⟩
       ·simp only[Li,if_neg DH]
        rw[pP i1 (Nat.le_max_left _ _)]
        exact mO (fun k m r hk=>pP hk (Nat.le_max_right _ _)) k1
       ·rw[k2];simp[sc]
       ·obtain⟨m1,m2,m3⟩:=k3 hf
        refine⟨fun v hv=>m1 v (j1 v hv),fun v hv=> ?_,m3⟩
        rcases m2 v hv with hv|hv
        ·exact j2 v hv
        ·exact Or.inr hv
   obtain⟨f,is,jn,i1,i2,i3⟩:=key x.kids met (fun _ h=>h) aaM
   refine⟨max f (R+2)+1,is,jn, ?_, ?_,i3⟩
   ·simp only[Nv]
    rw[uH a1 (Nat.le_max_right _ _)]
    simp only[if_neg h1]
    exact mO (fun k m r hk=>pP hk (Nat.le_max_left _ _)) i1
   ·rw[i2, <- a3]
    have Gz:=Vs.sub hl.bd x a2
    rw[rI Gz (by rw[hvx];exact h1)]
    rw[hvx]
    simp only[Tm.kids,List.mem_map]
    exact⟨fun⟨k,hk,hh⟩=>⟨_,⟨k,hk,rfl⟩,hh⟩,fun⟨_,⟨k,hk,e⟩,hh⟩=>⟨k,hk,e ▸ hh⟩⟩
theorem BE(l:List (Int×Tm))(p:Int×Tm)(v:Int):db (l++[p]) v=match db l v with|some x=>some x|none=>if p.1=v then some p.2 else none:=by
 induction l with
 |nil=>simp[db]
 |cons q l ih=>
  simp only[List.cons_append,db]
  split
  ·rfl
  ·exact ih
theorem one_sub{s:aS}{l:List TB}{n:Int}{t:Tm}(hn:db (aU l) n=none){x:Tm}(hx:Vs s x):dU (Dg n t) (dU (aU l) x)=dU (aU (BB l n t)) x:=by
 refine yG x hx fun u _=> ?_
 rw[yI hn]
 split
 ·rename_i e
  rw[e,show Lv (aU l) n= .mk 1 n [] by simp[Lv,hn],uG,KG,if_pos rfl]
 ·rfl
theorem KH.ext {s:aS}{b:List (Int×Tm)}{l:List TB}{ρ:Int->Nat}{R:Nat}(h:KH s b l ρ R)(hl:BN s l){n:Int}(hn:db b n=none){y:Tm}(hy:Vs s y)(hny: ¬fN n (dU (aU l) y)=true):
 ∃ρ' R',KH s (b++[(n,y)]) (BB l n (dU (aU l) y)) ρ' R':=by
 have LW:=(h.dom n).1 hn
 refine⟨fun v=>if fN n (Lv (aU l) v)=true then R+1+ρ v else ρ v,2*R+1, ?_,fun v=> ?_,fun v x hx=> ?_,fun v=> ?_⟩
 ·rw[List.map_append,List.map_cons,List.map_nil,List.nodup_append]
  refine⟨h.keys,aI,fun a ha c hc=> ?_⟩
  simp at hc
  subst hc
  exact fun e=>(Bw.1 hn) (e ▸ ha)
 ·rw[BE,EY LW]
  by_cases e:v=n
  ·subst e;simp[hn]
  ·rw[if_neg e]
   cases hv:db b v with
   |some x=>
    simp only[reduceCtorEq,false_iff]
    intro h2
    cases h3:db (aU l) v with
    |some y=>rw[h3]at h2;cases h2
    |none=>rw[(h.dom v).2 h3]at hv;cases hv
   |none=>
    simp[(h.dom v).1 hv]
    exact fun h=>e h.symm
 ·rw[BE]at hx
  cases hv:db b v with
  |some z=>
   rw[hv]at hx
   injection hx with hx
   subst hx
   have hvn:v≠n:=fun e=>by rw[e,hn]at hv;cases hv
   obtain⟨g1,g2,g3⟩:=h.ok v z hv
   refine⟨g1,by rw[yI LW,if_neg hvn,g2,one_sub LW g1],fun u hu=> ?_⟩
   have h3:=g3 u hu
   have h4:fN n (Lv (aU l) u)=true->fN n (Lv (aU l) v)=true:=fun h5=>by rw[g2];exact(KC hl.bd z g1 n).2 ⟨u,hu,h5⟩
   by_cases h5:fN n (Lv (aU l) u)=true
   ·rw[if_pos h5,if_pos (h4 h5)];omega
   ·rw[if_neg h5];split<;>omega
  |none=>
   rw[hv]at hx
   simp only at hx
   split at hx
   ·rename_i e
    injection hx with hx
    subst hx;subst e
    refine⟨hy, ?_,fun u hu=> ?_⟩
    ·rw[yI LW,if_pos rfl, <- one_sub LW hy]
     exact(Qt (s:=s) _ (Vs.sub hl.bd y hy) fun v hv=>by
      have: ¬n=v:=fun e=>by subst e;exact hny hv
      simp[Dg,db,this]).symm
    ·have h5: ¬fN n (Lv (aU l) u)=true:=fun h5=>hny ((KC hl.bd y hy n).2 ⟨u,hu,h5⟩)
     have h6:fN n (Lv (aU l) n)=true:=by rw[show Lv (aU l) n= .mk 1 n [] by simp[Lv,LW],Dd];simp
     have:=h.bd u
     simp only[if_neg h5,if_pos h6]
     omega
   ·cases hx
 ·have:=h.bd v
  split<;>omega
theorem Nw(l:List TB)(n:Int)(t:Tm):(j5 l n t).length=l.length+1:=by
 induction l with
 |nil=>rfl
 |cons x l ih=>simp only[j5];split<;>simp[ih]
theorem BN.len {s:aS}{l:List TB}(h:BN s l):l.length<=20:=by
 have:=EX (ns:=l.map (·.var)) (fun n hn=>by obtain⟨x,hx,rfl⟩:=List.mem_map.1 hn;exact(h.ok x hx).1) (by rw[Lh,List.pairwise_map];exact h.srt)
 rwa [List.length_map]at this
def Gen(θ:List (Int×Tm))(l:List TB):Prop:=∀v,0<=v/\v<20->dU θ (Lv (aU l) v)=Lv θ v
theorem Gen.nil {θ:List (Int×Tm)}:Gen θ []:=fun v _=>by rw[show Lv (aU []) v= .mk 1 v []from rfl,uG]
theorem Gen.sub {s:aS}{θ:List (Int×Tm)}{l:List TB}(h:Gen θ l){t:Tm}(ht:Vs s t):dU θ (dU (aU l) t)=dU θ t:=yG t ht fun v hv=>h v (ht.range hv)
mutual
def cU:Tm->Tm->List TB->List TB×Bool
 | .mk op n kids,v,b=>if op=1 then(match db (aU b) n with|some x=>(b,eV x v)|none=>(j5 b n v,true))
   else if op≠v.op\/n≠v.n\/kids.length≠v.kids.length then([],false)else bV kids v.kids b
def bV:List Tm->List Tm->List TB->List TB×Bool
 |[],_,b=>(b,true)
 |_::_,[],b=>(b,true)
 |k::l,k'::l',b=>if(cU k k' b).2=true then bV l l' (cU k k' b).1 else((cU k k' b).1,false)
end
theorem pQ(t v:Tm)(b:List TB):cU t v b=if t.op=1 then(match db (aU b) t.n with|some x=>(b,eV x v)|none=>(j5 b t.n v,true))
 else if t.op≠v.op\/t.n≠v.n\/t.kids.length≠v.kids.length then([],false)else bV t.kids v.kids b:=by cases t;rfl
structure G7 (s:aS) (l:List TB):Prop where
 srt:l.Pairwise fun x y=>x.var<y.var
 ok:∀x∈l,(0<=x.var/\x.var<20)/\Vs s x.term
theorem G7.ins {s:aS}{l:List TB}(h:G7 s l){n:Int}{t:Tm}(hn:db (aU l) n=none)(hr:0<=n/\n<20)(ht:Vs s t):G7 s (j5 l n t):=
 ⟨Nu h.srt (vi hn),fun x hx=>by
  rcases yJ.1 hx with rfl|hx
  ·exact⟨hr,ht⟩
  ·exact h.ok x hx⟩
structure MS (b:List (Int×Tm)) (l:List TB):Prop where
 keys:(b.map (·.1)).Nodup
 lk:∀v,db b v=db (aU l) v
theorem KI(t k:Tm)(h:t.fits)(hk:k∈t.kids):k.fits:=((Tm.aX t).1 h).2 k hk
theorem KJ(v:Int):(Tm.mk 1 v []).fits:=by rw[Tm.aX];simp[Tm.kids]
def OkT(t:Tm):Prop:=t.fits/\t.wf
theorem OkT.wD (t k:Tm)(h:OkT t)(hk:k∈t.kids):OkT k:=⟨KI t k h.1 hk,((Tm.uE t).1 h.2).2.2 k hk⟩
theorem OkT.var (v:Int):OkT (.mk 1 v []):=⟨KJ v,by rw[Tm.uE];exact⟨fun _=>rfl,fun h=>absurd (show(1:Int)=8 from h) cG,fun k hk=>by cases hk⟩⟩
section
section
variable {P:Program}
def BF(P:Program)(n t t1:Nat)(ic:IC)(aV:List V)(u:V)(o:Nat->ab)(nx:Nat)(K:(Nat->ab)->Nat->Prop):Prop:=
 aV.length<=n/\kL P n nx true ic (IU K) ⟨aF (aF (cp aV) t u) t1 u,o,nx⟩
def yK(P:Program)(n t t1:Nat)(ic:IC)(aV:List V)(rs:List ResultVar)(K X:V->(Nat->ab)->Nat->Prop)(e:eS)(s:S):Prop:=
 match e with
 | .normal| .ret=>BF P n t t1 ic aV (.d .eZ) s.o s.nx fun o nx=>u6 P rs K X .ret ⟨s.env,o,nx⟩
 | .bF v=>BF P n t t1 ic aV v s.o s.nx fun o nx=>u6 P rs K X .ret ⟨s.env,o,nx⟩
 | .exit _=>False
def Nx(P:Program)(n t:Nat)(eF:IC)(fk:List Operand)(g:FuncId)(D:List V->eS->S->Prop)(e:eS)(s:S):Prop:=
 match e with
 | .normal=>kL P n s.nx false eF (D (fk.map s.ev)) ⟨aF s.env t (.func (.func g) [] (fk.map s.ev)),s.o,s.nx⟩
 |_=>False
variable {n t t1:Nat}{ic eF:IC}{aV:List V}{rs:List ResultVar}{K X:V->(Nat->ab)->Nat->Prop}{s:S}{v:V}{fk:List Operand}{g:FuncId}{D:List V->eS->S->Prop}{KR:(Nat->ab)->Nat->Prop}
@[go_sem ↓] theorem KL:yK P n t t1 ic aV rs K X .normal s=BF P n t t1 ic aV (.d .eZ) s.o s.nx fun o nx=>u6 P rs K X .ret ⟨s.env,o,nx⟩:=propext Iff.rfl
@[go_sem ↓] theorem Qu:yK P n t t1 ic aV rs K X .ret s=BF P n t t1 ic aV (.d .eZ) s.o s.nx fun o nx=>u6 P rs K X .ret ⟨s.env,o,nx⟩:=propext Iff.rfl
@[go_sem ↓] theorem Qv:yK P n t t1 ic aV rs K X (.bF v) s=BF P n t t1 ic aV v s.o s.nx fun o nx=>u6 P rs K X .ret ⟨s.env,o,nx⟩:=propext Iff.rfl
@[go_sem ↓] theorem KM:Nx P n t eF fk g D .normal s=kL P n s.nx false eF (D (fk.map s.ev)) ⟨aF s.env t (.func (.func g) [] (fk.map s.ev)),s.o,s.nx⟩:=propext Iff.rfl
@[go_sem ↓] theorem Qw:IU KR .normal s=KR s.o s.nx:=propext Iff.rfl
@[go_sem ↓] theorem aaN:IU KR .ret s=KR s.o s.nx:=propext Iff.rfl
theorem BF.w {o:Nat->ab}{nx:Nat}{K K':(Nat->ab)->Nat->Prop}(hK:∀o nx,K o nx->K' o nx)(h:BF P n t t1 ic aV v o nx K):CK P n t t1 ic aV v o nx K':=by
 refine⟨h.1,eK ic _ _ _ (fun e s h=> ?_) h.2⟩
 unfold IU at h|-
 cases e with
 |normal=>exact hK _ _ h
 |ret=>exact hK _ _ h
 |_=>exact h
end
attribute [irreducible] BF
end
theorem uI:∀ (l:List TB) (n:Int) (t:Tm),∃k,k<=l.length/\(∀x∈l.take k,x.var<n)/\(∀x,l[k]? =some x-> ¬x.var<n)/\j5 l n t=l.take k++⟨n,t⟩::l.drop k
 |[],n,t=>⟨0,Nat.zero_le _,aI,aI,by simp[j5]⟩
 |x::l,n,t=>by
  obtain⟨k,h1,h2,h3,h4⟩:=uI l n t
  by_cases hx:x.var<n
  ·refine⟨k+1,by simp;omega, ?_,by simpa using h3, ?_⟩
   ·intro y hy
    simp only[List.take_succ_cons,List.mem_cons]at hy
    rcases hy with rfl|hy
    ·exact hx
    ·exact h2 y hy
   ·simp only[j5,if_pos hx,h4,List.take_succ_cons,List.drop_succ_cons]
    simp
  ·exact⟨0,Nat.zero_le _,aI,by simpa using hx,by simp[j5,if_neg hx]⟩
theorem Uk(l:List TB)(n:Int)(t:Tm)(hl:l.length<=1000000):aW Tryz.prog 123 [.sl (l.map TB.d), .i n,t.d] (.ret [.sl ((j5 l n t).map TB.d)]):=by
 obtain⟨j,j1,j2,j3,j4⟩:=uI l n t
 have tk:∀ (i:Nat) (l:List TB),List.take i (l.map TB.d)=(l.take i).map TB.d:=fun i l=>List.map_take.symm
 have dr:∀ (i:Nat) (l:List TB),List.drop i (l.map TB.d)=(l.drop i).map TB.d:=fun i l=>List.map_drop.symm
 have ap:∀ (a b:List TB),a.map TB.d++[D.agg [.i n, .i t.op, .i t.n, .sl (t.kids.map Tm.d)]]++b.map TB.d=(a++⟨n,t⟩::b).map TB.d:=fun a b=>aI
 rw[j4]
 refine aW.aH mix Zv aI ?_
 rw[Zu]
 refine br ?_
 refine aE (fun k:Nat=>⟨ba [.d (.sl (l.map TB.d)), .d (.i n), .aa, .aa, .aa, .ptr 0 0, .aa, .d (.i k)],gf t.row,1⟩)
  (fun k=>k<=j) (fun k=>l.length - k) 0 (Nat.zero_le _) (bC.d1 _ (aT rfl) ah rfl ?_) (fun k hk=> ?_)
 ·exact cE
 by_cases hkj:k=j
 ·subst hkj
  by_cases h5:k<l.length
  ·obtain⟨x,hx⟩:=az h5
   have h6:=j3 x hx
   have nJ:(k:Int)<l.length:=ah
   refine QD hx nJ h6 tk dr ?_
   refine aN cG ?_
   refine QD hx nJ h6 tk dr ?_
   rw[<- ap]
  ·have nJ: ¬ (k:Int)<l.length:=ah
   refine QE nJ tk dr ?_
   refine aN cG ?_
   refine QE nJ tk dr ?_
   rw[<- ap]
 ·have b8:k<l.length:=ah
  obtain⟨x,hx⟩:=az b8
  have nJ:(k:Int)<l.length:=ah
  have h6:x.var<n:=j2 x (List.mem_of_getElem? (i:=k) (by rw[List.getElem?_take_of_lt (by omega)];exact hx))
  refine G9 hx nJ h6 ?_
  refine aq (k+1) ah ah (bC.d1 _ (aT rfl) ah rfl ?_)
  exact cE
structure BL (l:List TB):Prop where
 len:l.length<=100
 sz:∀x∈l,x.term.sz<=1000
mutual
def Tm.Qx:Tm->Prop
 | .mk _ _ kids=>kids.length<=1000/\Tm.KN kids
def Tm.KN:List Tm->Prop
 |[]=>True
 |k::l=>k.Qx/\Tm.KN l
end
theorem Tm.BG:∀l:List Tm,Tm.KN l↔∀k∈l,k.Qx
 |[]=>by simp[Tm.KN]
 |k::l=>by simp[Tm.KN,Tm.BG l]
theorem Tm.EZ (t:Tm):t.Qx↔t.kids.length<=1000/\∀k∈t.kids,k.Qx:=by cases t;simp[Tm.Qx,Tm.BG,Tm.kids]
theorem E0{s:aS}:∀t:Tm,Vs s t->t.Qx->∀l:List TB,l.length<=100->aW Tryz.prog 28 [t.d, .sl (l.map TB.d)] (.ret [(dU (aU l) t).d]):=by
 refine Tm.cl fun t ih hv hw l hlen=> ?_
 have hw':=(Tm.EZ t).1 hw
 refine aW.aH mix ab7 aI ?_
 rw[c28]
 by_cases h1:t.op=1
 ·have jq:(t.op==1)=true:=by simpa using h1
  refine gk jq ?_
  refine aB (KA l t.n ah) rfl ?_
  rcases EW l t.n with⟨f1,f2⟩|⟨k,x,f1,f2,f3⟩
  ·have hs:dU (aU l) t=t:=by rw[uF,if_pos h1,f2]
   have f3:decide (0<=findF l t.n)=false:=by simpa using f1
   rw[hs]
   exact VV jq f3
  ·have hs:dU (aU l) t=x.term:=by rw[uF,if_pos h1,f3]
   rw[hs,f1]
   exact VV jq f2
 ·have jq:(t.op==1)=false:=by simpa using h1
  have h8':(t.op==8)=false:=by simpa using hv.n8
  rw[jM h1]
  refine G8 jq h8' ?_
  refine aE (fun i:Nat=>⟨ba [.aa, .d (.sl (l.map TB.d)), .ptr 0 0, .aa, .ptr 1 0, .aa, .osl 2 0, .d (.i i)],aF (aF (aF (fun _=> .no) 0 (.row t.row)) 1 (.row [.d (.i 0), .d (.i 0), .bw])) 2 (.arr 0 55 3 (((t.kids.take i).map (dU (aU l))).map Tm.d)),3⟩)
   (fun i=>i<=t.kids.length) (fun i=>t.kids.length - i) 0 (Nat.zero_le _) (bC.ya (ty:=55) (sz:=3) (es:=[]) (fun _=>False) .bw 2 _ ah (lt2 (dg rfl pX) (dg rfl pX)) (by rw[ae];simp) (.inl ⟨rfl,rfl,cG⟩) (fun j hj=>by(repeat(first|rfl|rw[ae]|rw[ai _ _ _ _ (by omega)]))) (fun _ h=>h.elim) ?_) ?_
  ·exact E5
  rintro k hk
  replace hk:k<=t.kids.length:=hk
  refine lN ?_
  refine aj (fun h2=> ?_) (fun h2=> ?_)
  ·simp at h2
   obtain⟨x,hx⟩:=az h2
   have eg:=List.mem_of_getElem? hx
   have K7:t.kids.take (k+1)=t.kids.take k++[x]:=by rw[List.take_add_one,hx];rfl
   have e0:(t.kids.take k).length=k:=by rw[List.length_take];omega
   refine BO hx e0 ?_
   refine bn (rs:=[(dU (aU l) x).d]) (ih x eg (hv.wD eg) (hw'.2 x eg) l hlen) ?_
   refine BO hx e0 ?_
   refine aq (k+1) h2 ah (bC.ya (fun j=>j=2) (.osl 2 1) 2 _ ah (lt2 (EV (y:= .row t.row) eY eY (dg rfl pX)) (EV (y:= .row [.d (.i 0), .d (.i 0), .bw]) eY eY (dg rfl pX))) (ae _ _ _) (.inr ⟨2,1,rfl,rfl,by(repeat(first|rfl|rw[ae]|rw[ai _ _ _ _ (by omega)]));rw[K7,List.map_append,List.map_append];rfl⟩) (fun j hj=>by(repeat(first|rfl|rw[ae]|rw[ai _ _ _ _ (by omega)]))) (fun j h h2=>ah) ?_)
   exact E5
  ·simp at h2
   have JL:k=t.kids.length:=ah
   subst JL
   rw[List.take_length]
   refine lN ?_
   rw[Tm.CJ]
theorem KO{l:List Tm}{i:Nat}{x:Tm}(hx:l[i]? =some x):eC (l.take (i+1))=eC (l.take i)+x.sz:=by
 rw[List.take_add_one,hx]
 simp[eC]
theorem rJ(l:List Tm)(i:Nat):eC (l.take i)<=eC l:=by
 have:eC l=eC (l.take i)+eC (l.drop i):=by
  unfold eC
  rw[<- List.sum_append, <- List.map_append,List.take_append_drop]
 omega
theorem E1:∀t:Tm,t.fits->t.sz<=1000000->aW Tryz.prog 29 [t.d] (.ret [.i t.sz]):=by
 refine Tm.cl fun t ih ht hz=> ?_
 have Fb:=(Tm.aX t).1 ht
 have dw:=Tm.gv t
 refine aW.aH mix ab8 aI ?_
 rw[c29]
 refine br ?_
 refine aE (fun i:Nat=>⟨ba [.aa, .ptr 0 0, .aa, .d (.i (1+eC (t.kids.take i):Nat)), .d (.i i)],aF (fun _=> .no) 0 (.row t.row),1⟩) (fun i=>i<=t.kids.length) (fun i=>t.kids.length - i) 0 (Nat.zero_le _) ?_ ?_
 ·refine bC.bB _ ah ah eL (fun j hj=> ?_) ?_
  ·exact eY
  ·exact cE
 rintro i hi
 replace hi:i<=t.kids.length:=hi
 have hle:=rJ t.kids i
 refine br ?_
 refine aj (fun h5=> ?_) (fun h5=> ?_)
 ·simp at h5
  obtain⟨x,hx⟩:=az h5
  have eg:=List.mem_of_getElem? hx
  have DE:=Tm.Ky eg
  have e1:=KO hx
  have adB:=rJ t.kids (i+1)
  refine gk hx ?_
  refine aB (ih x eg (Fb.2 x eg) ah) rfl ?_
  refine br ?_
  refine aq (i+1) h5 ah (bC.bB _ ah ah eL (fun j hj=> ?_) ?_)
  ·exact eY
  ·rw[e1,show((1+(eC (t.kids.take i)+x.sz):Nat):Int)=((1+eC (t.kids.take i):Nat):Int)+(x.sz:Int) by omega]
   exact cE
 ·simp at h5
  have e:t.kids.take i=t.kids:=List.take_of_length_le h5
  refine br ?_
  rw[e, <- dw]
end Go.Proofs.YtnkamdiiakdkgaaGreat
