/-
  EndsCallsAre: at every call the law answers true, and leaves all memory as it was. Conditions: none.
-/
import Derived.Test.YtnkamdiiakdkgaaGreatRows
import Derived.Test.YtnkamdiiakdkgaaGreatEa18
set_option linter.unusedSimpArgs false
set_option linter.unusedVariables false
namespace Go.Proofs.YtnkamdiiakdkgaaGreat
theorem Ju(aw kids:List Tm){i j:Nat}(hi:i<4)(hj:j<4):(tK aw kids)[i*4+j]? =some (mY aw kids i j):=by
 unfold tK
 rw[List.getElem?_map,List.getElem?_range (by omega)]
 simp only[Option.map_some]
 exact Ms
def pn(aw kids:List Tm)(i j:Nat):List Int:=(List.range 16).map fun p=>if p/4<i\/p/4=i/\p%4<j then mY aw kids (p/4) (p%4)else 0
theorem gS(aw kids:List Tm)(i j:Nat):(pn aw kids i j).length=16:=by simp[pn]
theorem kq(aw kids:List Tm)(i j p:Nat)(hp:p<16):(pn aw kids i j)[p]? =some (if p/4<i\/p/4=i/\p%4<j then mY aw kids (p/4) (p%4)else 0):=by
 unfold pn;rw[List.getElem?_map,List.getElem?_range hp];rfl
theorem arcP_0(aw kids:List Tm):pn aw kids 0 0=z16:=by
 refine oM (gS ..) rfl fun p hp=> ?_
 rw[kq _ _ _ _ _ hp,if_neg (by omega)]
 have:∀p,p<16->z16[p]? =some 0:=cl
 exact(this p hp).symm
theorem FU(aw kids:List Tm){i j:Nat}(hi:i<4)(hj:j<4):pn aw kids i (j+1)=(pn aw kids i j).set (i*4+j) (mY aw kids i j):=by
 refine oM (gS ..) (by rw[List.length_set];exact gS ..) fun p hp=> ?_
 rw[kq _ _ _ _ _ hp,List.getElem?_set,kq _ _ _ _ _ hp]
 by_cases e:i*4+j=p
 ·rw[if_pos e,if_pos (show i*4+j<(pn aw kids i j).length by rw[gS];omega),if_pos (show p/4<i\/p/4=i/\p%4<j+1 by omega)]
  rw[show p/4=i by omega,show p%4=j by omega]
 ·rw[if_neg e]
  congr 1
  by_cases h:p/4<i\/p/4=i/\p%4<j
  ·rw[if_pos h,if_pos (show p/4<i\/p/4=i/\p%4<j+1 by omega)]
  ·rw[if_neg h,if_neg (show ¬ (p/4<i\/p/4=i/\p%4<j+1) by omega)]
theorem Jv(aw kids:List Tm){i:Nat}(hk:kids.length<=4):pn aw kids i kids.length=pn aw kids (i+1) 0:=by
 refine oM (gS ..) (gS ..) fun p hp=> ?_
 rw[kq _ _ _ _ _ hp,kq _ _ _ _ _ hp]
 by_cases h:p/4<i\/p/4=i/\p%4<kids.length
 ·rw[if_pos h,if_pos (show p/4<i+1\/p/4=i+1/\p%4<0 by omega)]
 ·rw[if_neg h]
  by_cases h2:p/4<i+1\/p/4=i+1/\p%4<0
  ·rw[if_pos h2]
   have e:kids[p%4]? =none:=List.getElem?_eq_none ag
   unfold mY
   rw[e]
   cases aw[p/4]? <;>rfl
  ·rw[if_neg h2]
theorem Jw(aw kids:List Tm)(hp:aw.length<=4):pn aw kids aw.length 0=tK aw kids:=by
 refine oM (gS ..) (by simp[tK]) fun p CZ=> ?_
 rw[kq _ _ _ _ _ CZ]
 have:=Ju aw kids (i:=p/4) (j:=p%4) ag ag
 rw[show p/4*4+p%4=p by omega]at this
 rw[this]
 congr 1
 split
 ·rfl
 ·rename_i h
  unfold mY
  rw[List.getElem?_eq_none (by omega)]
theorem Jx(l:List Int)(hl:l.length<=1000000):aR Tryz.prog 76 [.sl (l.map .i)] (.ret [.sl (l.map .i)]):=by
 refine aR.aG mix Rw aK ?_
 rw[Z3]
 have hu:Tryz.prog.underlying 37=some (.slice 3):=ah
 cases l with
 |nil=>
  have heq:∀O,ua Tryz.prog O 37 true (.d (.sl [])) .a8=some .ey:=by
   intro O
   unfold ua
   rw[hu]
   rfl
  simp only[List.map_cons,List.map_nil]
  refine gD heq ?_
  simp only[List.isEmpty_nil,if_true]
  exact D8 heq
 |cons a l=>
  have heq:∀O,ua Tryz.prog O 37 true (.d (.sl (D.i a::l.map D.i))) .a8=some (.d (.bool false)):=by
   intro O
   unfold ua
   rw[hu]
   rfl
  simp only[List.map_cons,List.map_nil]
  refine gD heq ?_
  simp only[List.isEmpty_nil,if_true]
  refine gD heq ?_
  rw[List.length_cons]at hl
  rw[if_pos (by omega)]
  exact yc
def qn(p:Pg)(ps:List Int):Nat->ab:=aA (fun _=> .no) 0 (.row [.d (.sl (p.sig.cons.map il.d)), .d (.sl (p.sig.bu.map il.d)), .d (.sl (p.rules.map Rl.d)), .d (.sl (ps.map .i))])
def nR(ps:List Int)(n:Int)(r:Rl)(s:List Cl)(x:Sp):List Cl:=s++rU ps n r x
theorem AY(ps:List Int)(n:Int)(r:Rl):∀ (l:List Sp) (s:List Cl),(aq (uJ (fun _=>none) (nR ps n r)) s l).1=s++l.flatMap (rU ps n r)
 |[],s=>by simp[aq]
 |x::l,s=>by
  simp only[aq,uJ,Option.isNone_none,if_true]
  rw[AY ps n r l,nR,List.flatMap_cons,List.append_assoc]
theorem xX(ps:List Int)(n:Int)(r:Rl)(x:Sp)(mH:ps.length<=100):(rU ps n r x).length<=100:=by
 unfold rU
 split
 ·simp
 ·split
  ·simpa using mH
  ·simp
theorem xY(t:Tm)(q:List Int)(b:Bool):(jr t q b).length=t.sz:=by rw[<- List.length_map (f:=Sp.t),xV,rQ]
theorem mq{p:Pg}(hp:p.Fw){ps:List Int}(mH:ps.length<=100):∀k,k<=p.rules.length->(jm p ps k).length<=k*50500
 |0,_=>by simp[jm]
 |k+1,hk=>by
  have hx:p.rules[k]? =some p.rules[k]:=List.getElem?_eq_getElem ag
  rw[qk p ps hx,List.length_append]
  have h1:=mq hp mH k ag
  have h3:=(hp.all _ (List.getElem_mem (by omega:k<p.rules.length))).2.2
  have key:∀l:List Sp,(l.flatMap (rU ps k p.rules[k])).length<=l.length*100:=by
   intro l
   induction l with
   |nil=>simp
   |cons x l ih=>
    rw[List.flatMap_cons,List.length_append,List.length_cons,Nat.add_mul]
    have:=xX ps k p.rules[k] x mH
    omega
  have h2:=key (jr p.rules[k].rhs [] true)
  rw[xY]at h2
  unfold Ui
  omega
def pq(p:Pg)(ps:List Int)(k:Nat)(r:Rl)(s:List Cl):Nat->ab:=aA (aA (aA (aA (aA (jo (qn p ps) 2 8 [] 40 6 ((jm p ps k).map Cl.d)) 13 (.row [.d (.i k)])) 14 (.row r.row)) 19 (.row r.rhs.row)) 2 (.row [.osl 8 s.length])) 8 (.arr s.length 40 6 ((jm p ps k++s).map Cl.d))
set_option maxHeartbeats 4000000 in
theorem L2(p:Pg)(hp:p.Fw)(hr4:∀r∈p.rules,r.aw.length<=4)(hk4:∀r∈p.rules,∀x∈jr r.rhs [] true,x.t.op=4->x.t.kids.length<=4)(ps:List Int)(mH:ps.length<=100):aR Tryz.prog 42 [crD p ps] (.ret [.sl ((jm p ps p.rules.length).map Cl.d)]):=by
 have uc:=hp.len
 refine aR.aG mix Xm aK ?_
 rw[c42]
 refine nk ?_
 have hB:Good (qn p ps) 8:=by unfold qn;exact eH
 have uQ:∀j,8<=j->qn p ps j= .no:=fun j hj=>by unfold qn;(repeat(first|rfl|rw[ad]|rw[af _ _ _ _ (by omega)]))
 refine aC (fun k:Nat=>⟨aW [.aa, .ptr 0 0, .aa, .ptr 2 0, .aa, .aa, .aa, .aa, .aa, .aa, .aa, .aa, .aa, .aa, .aa, .aa, .aa, .d (.sl (p.rules.map Rl.d)), .d (.i p.rules.length), .d (.i k)],jo (qn p ps) 2 8 [] 40 6 ((jm p ps k).map Cl.d),9⟩)
  (fun k=>k<=p.rules.length) (fun k=>p.rules.length - k) 0 (Nat.zero_le _) (v8 (ds:=[]) _ hB uQ ag (fun j hj ku=>by unfold qn;exact S8) eO ag ?_) (fun k hk=> ?_)
 ·exact qp
 replace hk:k<=p.rules.length:=hk
 have Ej:(jm p ps k).length<=k*50500:=mq hp mH k hk
 have k0:jo (qn p ps) 2 8 [] 40 6 ((jm p ps k).map Cl.d) 0= .row [.d (.sl (p.sig.cons.map il.d)), .d (.sl (p.sig.bu.map il.d)), .d (.sl (p.rules.map Rl.d)), .d (.sl (ps.map .i))]:=by unfold jo qn;(repeat(first|rfl|rw[ad]|rw[af _ _ _ _ (by omega)]))
 have k2:jo (qn p ps) 2 8 [] 40 6 ((jm p ps k).map Cl.d) 2= .row [.osl 8 0]:=xR _ ag [] _ _ _
 have k8:jo (qn p ps) 2 8 [] 40 6 ((jm p ps k).map Cl.d) 8= .arr 0 40 6 ((jm p ps k).map Cl.d):=xQ _ _ _ _ _ _ _
 refine bc ?_
 refine ai (fun h1=> ?_) (fun h1=> ?_)
 ·simp at h1
  obtain⟨r,hr⟩:=aB h1
  have JQ:=List.mem_of_getElem? hr
  obtain⟨f1,f2,f3⟩:=hp.all r JQ
  refine Ur hr k8 ?_
  refine fh (AM r.rhs _ _ _ _ ?_)
  refine Pb k8 ?_
  refine qZ (σ:=List Cl) r.rhs f2 (by have:=tO r.rhs;omega) [.aa, .ptr 0 0, .aa, .ptr 2 0, .ptr 13 0, .ptr 14 0, .aa, .aa, .aa, .aa, .aa, .aa, .aa, .aa, .aa, .aa, .aa, .d (.sl (p.rules.map Rl.d)), .d (.i p.rules.length), .d (.i k)] ?_ cl rfl (by unfold jo qn;exact eH) nP eO (pq p ps k r) (fun _=>none) (nR ps k r) (fun l s=>s.length+l.length*101<=60000) [] ?_ rfl (fun id au=> ?_) (fun x l s hs _ h2=> ?_) ?_ ?_
  ·exact Eb
  ·rw[List.length_nil,xY];omega
  ·unfold pq
   by_cases e2:id=2
   ·exact Pq
   by_cases e8:id=8
   ·subst e8;(repeat(first|rfl|rw[ad]|rw[af _ _ _ _ (by omega)]));rw[k8,List.append_nil];rfl
   rw[af _ 8 _ _ e8,af _ 2 _ _ e2]
   exact JV
  ·have:=xX ps k r x mH
   simp only[nR,List.length_append,List.length_cons]at hs|-
   omega
  ·intro L hL uL x hx l s' h1 h2 o3 n3 hI hn ho K X cm
   simp only[lZ]
   have hg:=hI.bB
   have q2:o3 2= .row [.osl 8 s'.length]:=by rw[hI.eq 2 (by omega)];unfold pq;(repeat(first|rfl|rw[ad]|rw[af _ _ _ _ (by omega)]))
   have q8:o3 8= .arr s'.length 40 6 ((jm p ps k++s').map Cl.d):=by rw[hI.eq 8 (by omega)];unfold pq;(repeat(first|rfl|rw[ad]|rw[af _ _ _ _ (by omega)]))
   have q0:o3 0= .row [.d (.sl (p.sig.cons.map il.d)), .d (.sl (p.sig.bu.map il.d)), .d (.sl (p.rules.map Rl.d)), .d (.sl (ps.map .i))]:=by rw[hI.eq 0 (by omega)];unfold pq jo qn;(repeat(first|rfl|rw[ad]|rw[af _ _ _ _ (by omega)]))
   have q13:o3 13= .row [.d (.i k)]:=by rw[hI.eq 13 (by omega)];unfold pq;(repeat(first|rfl|rw[ad]|rw[af _ _ _ _ (by omega)]))
   have q14:o3 14= .row r.row:=by rw[hI.eq 14 (by omega)];unfold pq;(repeat(first|rfl|rw[ad]|rw[af _ _ _ _ (by omega)]))
   simp only[List.length_cons]at h1
   have hxp:x.path.length<=500:=by
    have t1:=(xM _ _ _ x hx).2
    have t2:=tO r.rhs
    rw[List.length_nil]at t1;omega
   refine bc ?_
   refine kb hL (pd:=none) ?_ ?_
   ·(repeat(first|rfl|rw[ad]|rw[af _ _ _ _ (by omega)]))
    exact ho
   have fin:∀ (o':Nat->ab) (n':Nat) (s2:List Cl),Good o' n'->n3<=n'->o' 2= .row [.osl 8 s2.length]->o' 8= .arr s2.length 40 6 ((jm p ps k++s2).map Cl.d)->(∀j,j<23->j≠2->j≠8->o' j=o3 j)->cF 23 (pq p ps k r s2) o' n':=fun o' n' s2 k1 k2 k3 k4 k6=>⟨k1,ag,fun j hj=>by
    by_cases e:j=2
    ·subst e;rw[k3];unfold pq;(repeat(first|rfl|rw[ad]|rw[af _ _ _ _ (by omega)]))
    by_cases e2:j=8
    ·subst e2;rw[k4];unfold pq;(repeat(first|rfl|rw[ad]|rw[af _ _ _ _ (by omega)]))
    rw[k6 j hj e e2,hI.eq j hj];unfold pq
    rw[af _ _ _ _ e2,af _ _ _ _ e,af _ _ _ _ e2,af _ _ _ _ e]⟩
   have hlen:(jm p ps k++s').length<=100000000:=by rw[List.length_append];omega
   by_cases h4:x.t.op=4
   ·have BB:(x.t.op==4)=true:=by simpa using h4
    have ED:=hk4 r JQ x hx h4
    have hpp:=hr4 r JQ
    have hxk:∀y∈x.t.kids,y.fits:=fun y hy=>((Tm.bg _).1 (SL _ f2 _ (xM _ _ _ x hx).1)).2 y hy
    have hpf:∀y∈r.aw,y.fits:=fun y hy=>(f1.all y hy).1
    simp+contextual (disch:=first|omega|simp only[go_sem,false_implies]) only[go_sem,wrap64,if_pos,q0,q2,q8,q13,q14,BB,List.length_map]
    refine aC (fun i:Nat=>⟨aW [.aa, .ptr 0 0, .aa, .ptr 2 0, .ptr 13 0, .ptr 14 0, .ptr n3 0, .ptr (n3+1+1+1+1+1+1+1+1) 0, .ptr (n3+1+1+1+1+1+1+1+1+1+1+1+1+1+1+1) 0, .aa, .aa, .aa, .aa, .aa, .aa, .aa, .aa, .aa, .aa, .aa, .aa, .aa, .aa, .aa, .aa, .aa, .aa, .aa, .aa, .aa, .aa, .aa, .aa, .aa, .aa, .aa, .aa, .aa, .aa, .aa, .d (.sl (r.aw.map Tm.d)), .d (.i r.aw.length), .d (.i i)],
     aA (aA (aA (aA o3 n3 (.row x.row)) 23 (L .busy none)) (n3+1+1+1+1+1+1+1+1) (.row [.d (.i k), .d (.i r.fn), .d (.i 0), .a8, .d (.bool x.bare), .a8])) (n3+1+1+1+1+1+1+1+1+1+1+1+1+1+1+1) (mR (pn r.aw x.t.kids i 0)),(n3+1+1+1+1+1+1+1+1+1+1+1+1+1+1+1+1)⟩)
     (fun i=>i<=r.aw.length) (fun i=>r.aw.length - i) 0 (Nat.zero_le _) (bf.bC _ (show n3<=(n3+1+1+1+1+1+1+1+1+1+1+1+1+1+1+1+1)from ag) ag ?_ (fun j hj=> ?_) ?_) (fun i hi=> ?_)
    ·exact eH
    ·rw[arcP_0]
     by_cases ea:j=(n3+1+1+1+1+1+1+1+1+1+1+1+1+1+1+1)
     ·exact U7
     by_cases ec:j=(n3+1+1+1+1+1+1+1+1)
     ·exact Pr
     by_cases e23:j=23
     ·exact U6
     by_cases en:j=n3
     ·exact Mh
     exact eO
    ·exact cN
    replace hi:i<=r.aw.length:=hi
    refine bc ?_
    refine ai (fun h7=> ?_) (fun h7=> ?_)
    ·simp at h7
     obtain⟨pa,JJ⟩:=aB h7
     have L3:=List.mem_of_getElem? JJ
     refine ll JJ ?_
     refine aC (fun j:Nat=>⟨aW [.aa, .ptr 0 0, .aa, .ptr 2 0, .ptr 13 0, .ptr 14 0, .ptr n3 0, .ptr (n3+1+1+1+1+1+1+1+1) 0, .ptr (n3+1+1+1+1+1+1+1+1+1+1+1+1+1+1+1) 0, .d (.i i), .ptr (n3+1+1+1+1+1+1+1+1+1+1+1+1+1+1+1+1+1+1+1+1) 0, .aa, .aa, .aa, .aa, .aa, .aa, .aa, .aa, .aa, .aa, .aa, .aa, .aa, .aa, .aa, .aa, .aa, .aa, .aa, .aa, .aa, .aa, .aa, .aa, .aa, .aa, .aa, .aa, .aa, .d (.sl (r.aw.map Tm.d)), .d (.i r.aw.length), .d (.i i), .aa, .aa, .aa, .aa, .aa, .aa, .d (.sl (x.t.kids.map Tm.d)), .d (.i x.t.kids.length), .d (.i j)],
      aA (aA (aA (aA (aA o3 n3 (.row x.row)) 23 (L .busy none)) (n3+1+1+1+1+1+1+1+1) (.row [.d (.i k), .d (.i r.fn), .d (.i 0), .a8, .d (.bool x.bare), .a8])) (n3+1+1+1+1+1+1+1+1+1+1+1+1+1+1+1) (mR (pn r.aw x.t.kids i j))) (n3+1+1+1+1+1+1+1+1+1+1+1+1+1+1+1+1+1+1+1+1) (.row pa.row),(n3+1+1+1+1+1+1+1+1+1+1+1+1+1+1+1+1+1+1+1+1+1)⟩)
      (fun j=>j<=x.t.kids.length) (fun j=>x.t.kids.length - j) 0 (Nat.zero_le _) (bf.bC _ (show n3<=(n3+1+1+1+1+1+1+1+1+1+1+1+1+1+1+1+1+1+1+1+1+1)from ag) ag ?_ (fun j hj=> ?_) ?_) (fun j hj=> ?_)
     ·exact eH
     ·by_cases eo:j=(n3+1+1+1+1+1+1+1+1+1+1+1+1+1+1+1+1+1+1+1+1)
      ·exact Mi
      repeat rw[af _ (n3+1+1+1+1+1+1+1+1+1+1+1+1+1+1+1+1+1+1+1+1) _ _ eo]
     ·exact cN
     replace hj:j<=x.t.kids.length:=hj
     refine bc ?_
     refine ai (fun h8=> ?_) (fun h8=> ?_)
     ·simp at h8
      obtain⟨ka,O1⟩:=aB h8
      have L4:=List.mem_of_getElem? O1
      have hi4:i<4:=ag
      have hj4:j<4:=ag
      refine ll O1 ?_
      refine aQ (Ct ka (hxk ka L4) pa (hpf pa L3)) rfl ?_
      have F1:=gS r.aw x.t.kids i j
      have hse:=SN (pn r.aw x.t.kids i j) (i*4+j) (rB ka pa) (by rw[F1];omega)
      have hav:mY r.aw x.t.kids i j=rB ka pa:=by unfold mY;rw[JJ,O1]
      rw[<- hav, <- FU r.aw x.t.kids hi4 hj4]at hse
      simp+contextual (disch:=first|omega|simp only[go_sem,false_implies]) only[go_sem,wrap64,if_pos,Int.toNat_natCast,Nat.mul_one,hse, <- hav]
      refine aO (gN (ids:=[]) (nx:=n3) aK aK [([],[]),([],[]),([25],[]),([20],[]),([],[]),([15],[]),([15],[]),([15],[15])] cl) ?_
      refine bc ?_
      refine aj (j+1) h8 ag (bf.bC _ (show n3<=(n3+1+1+1+1+1+1+1+1+1+1+1+1+1+1+1+1+1+1+1+1+1)from ag) ag ?_ (fun q hq=> ?_) ?_)
      ·exact eH
      ·by_cases ea:q=(n3+1+1+1+1+1+1+1+1+1+1+1+1+1+1+1)
       ·exact U7
       by_cases eo:q=(n3+1+1+1+1+1+1+1+1+1+1+1+1+1+1+1+1+1+1+1+1)
       ·exact Mi
       (repeat(first|rfl|rw[ad]|rw[af _ _ _ _ (by omega)]))
       rw[af _ (n3+1+1+1+1+1+1+1+1+1+1+1+1+1+1+1+1+1+1+1+1) _ _ eo,af _ (n3+1+1+1+1+1+1+1+1+1+1+1+1+1+1+1) _ _ ea]
      ·exact cN
     ·simp at h8
      have Na:j=x.t.kids.length:=ag
      subst Na
      refine bc ?_
      refine aj (i+1) h7 ag (bf.bC _ (show n3<=(n3+1+1+1+1+1+1+1+1+1+1+1+1+1+1+1+1)from ag) ag ?_ (fun q hq=> ?_) ?_)
      ·exact eH
      ·rw[<- Jv _ _ ED,af _ (n3+1+1+1+1+1+1+1+1+1+1+1+1+1+1+1+1+1+1+1+1) _ _ (by omega)]
      ·exact cN
    ·simp at h7
     have Qb:i=r.aw.length:=ag
     subst Qb
     rw[Jw _ _ hpp]
     have CW:=(I2 r.aw x.t.kids).1
     simp+contextual (disch:=first|omega|simp only[go_sem,false_implies]) only[go_sem,wrap64,if_pos,Jf _ CW,tM,FI,DZ _ CW]
     refine cW (SO _ CW) ?_
     refine bc ?_
     refine aO (gN (ids:=[]) (nx:=n3) aK aK [([0],[]),([0],[]),([0],[]),([0],[]),([0],[]),([15],[]),([],[]),([8],[]),([8],[8]),([8],[]),([8],[8]),([8],[]),([8],[8])] cl) ?_
     refine A8 q2 q8 ?_
     refine cm _ _ _ .busy none ag (fin _ _ _ eH ag ?_ ?_ fun j hj j1 j2=> ?_) eO (fun id h3 h4=>by(repeat(first|rfl|rw[ad]|rw[af _ _ _ _ (by omega)])))
     ·unfold nR rU;rw[if_pos h4];(repeat(first|rfl|rw[ad]|rw[af _ _ _ _ (by omega)]));simp
     ·unfold nR rU;rw[if_pos h4, <- I4 _ _ hpp ED];(repeat(first|rfl|rw[ad]|rw[af _ _ _ _ (by omega)]));simp
     ·exact eO
   have BB:(x.t.op==4)=false:=by simpa using h4
   by_cases h6:x.t.op=6
   ·have Jy:(x.t.op==6)=true:=by simpa using h6
    simp+contextual (disch:=first|omega|simp only[go_sem,false_implies]) only[go_sem,wrap64,if_pos,q0,q2,q8,q13,q14,BB,Jy,List.length_map]
    have hpn:V.refs (.d (.bool x.bare))=[]:=rfl
    refine aC (fun i:Nat×V×V=>⟨aW [.aa, .ptr 0 0, .aa, .ptr 2 0, .ptr 13 0, .ptr 14 0, .ptr n3 0, .ptr (n3+1+1+1+1+1+1+1+1) 0, .aa, .aa, .aa, .aa, .aa, .aa, .aa, .aa, .aa, .aa, .aa, .aa, .aa, .aa, .aa, .aa, .aa, .aa, .aa, .aa, .aa, .aa, .aa, .aa, .aa, .aa, .aa, .aa, .aa, .aa, .aa, .aa, .aa, .aa, .aa, .aa, .aa, .aa, .aa, .aa, .aa, .aa, .aa, .aa, .aa, .aa, .aa, .aa, .aa, .aa, .aa, .aa, .aa, .aa, .aa, .aa, .aa, .aa, .aa, .aa, .aa, .aa, .aa, .aa, .aa, .aa, .aa, .aa, .aa, .aa, .aa, .aa, .aa, .aa, .d (.sl (ps.map .i)), .d (.i ps.length), .d (.i i.1)],
     aA (aA (aA (aA (aA o3 n3 (.row x.row)) 23 (L .busy none)) (n3+1+1+1+1+1+1+1+1) (.row [.d (.i k), .d (.i r.fn),i.2.1,i.2.2, .d (.bool x.bare), .a8])) 2 (.row [.osl 8 (s'.length+i.1)])) 8 (.arr (s'.length+i.1) 40 6 ((jm p ps k++s'++(ps.take i.1).map fun to=>Cl.mk k r.fn to x.path x.bare []).map Cl.d)),n3+1+1+1+1+1+1+1+1+1⟩)
     (fun i=>i.1<=ps.length/\i.2.1.refs=[]/\i.2.2.refs=[]) (fun i=>ps.length - i.1) (0, .d (.i 0), .a8) ⟨Nat.zero_le _,rfl,rfl⟩ (bf.bC _ (show n3<=n3+1+1+1+1+1+1+1+1+1 from ag) ag ?_ (fun j hj=> ?_) ?_) ?_
    ·exact eH
    ·by_cases e8:j=8
     ·subst e8;(repeat(first|rfl|rw[ad]|rw[af _ _ _ _ (by omega)]));rw[q8];simp
     by_cases e2:j=2
     ·subst e2;(repeat(first|rfl|rw[ad]|rw[af _ _ _ _ (by omega)]));rw[q2];simp
     by_cases ec:j=(n3+1+1+1+1+1+1+1+1)
     ·exact Pr
     by_cases e23:j=23
     ·exact U6
     by_cases en:j=n3
     ·exact Mh
     exact eO
    ·exact cN
    rintro⟨m,v2,v3⟩ ⟨g1,g2,g3⟩
    simp only at g1 g2 g3
    have E7:(ab.row [.d (.i k), .d (.i r.fn),v2,v3, .d (.bool x.bare), .a8]).refs=[]:=by simp[ab.refs,V.aJ,V.refs,g2,g3]
    have ach:(jm p ps k++s'++(ps.take m).map fun to=>Cl.mk k r.fn to x.path x.bare []).length<=100000100:=by
     rw[List.length_append,List.length_map,List.length_take];omega
    refine bc ?_
    refine ai (fun h7=> ?_) (fun h7=> ?_)
    ·simp at h7
     obtain⟨to,Qr⟩:=aB h7
     have A4:ps.take (m+1)=ps.take m++[to]:=by rw[List.take_add_one,Qr];rfl
     refine gD Qr ?_
     refine bz (Jx x.path ag) ?_
     refine nk ?_
     refine aj (m+1, .d (.i to), .d (.sl (x.path.map .i))) ⟨h7,rfl,rfl⟩ nQ (bf.bC _ (show n3<=n3+1+1+1+1+1+1+1+1+1 from ag) ag ?_ (fun j hj=> ?_) ?_)
     ·exact eH
     ·by_cases e8:j=8
      ·subst e8;(repeat(first|rfl|rw[ad]|rw[af _ _ _ _ (by omega)]));rw[A4];simp[Nat.add_assoc]
      by_cases e2:j=2
      ·exact Pq
      by_cases ec:j=(n3+1+1+1+1+1+1+1+1)
      ·exact Pr
      (repeat(first|rfl|rw[ad]|rw[af _ _ _ _ (by omega)]))
      rw[af _ 8 _ _ e8,af _ 2 _ _ e2,af _ (n3+1+1+1+1+1+1+1+1) _ _ ec]
     ·exact cN
    ·simp at h7
     have hm:m=ps.length:=ag
     subst hm
     refine bc ?_
     refine cm _ _ _ .busy none ag (fin _ _ _ ?_ ag ?_ ?_ fun j hj j1 j2=> ?_) eO (fun id h3 h4=>by(repeat(first|rfl|rw[ad]|rw[af _ _ _ _ (by omega)])))
     ·exact(((((hg.mono ag).aA ag rfl).aA ag (uL _ _ _ ag)).aA ag (by rw[E7];rfl)).aA ag lA).aA ag rfl
     ·exact UJ
     ·exact UJ
     ·exact eO
   ·have Jy:(x.t.op==6)=false:=by simpa using h6
    simp+contextual (disch:=first|omega|simp only[go_sem,false_implies]) only[go_sem,wrap64,if_pos,q0,q2,q8,q13,q14,BB,Jy,List.length_map]
    refine cm _ _ _ .busy none ag (fin _ _ _ eH ag ?_ ?_ fun j hj j1 j2=> ?_) eO (fun id h3 h4=>by(repeat(first|rfl|rw[ad]|rw[af _ _ _ _ (by omega)])))
    ·unfold nR rU;rw[if_neg h4,if_neg h6];(repeat(first|rfl|rw[ad]|rw[af _ _ _ _ (by omega)]));simp[q2]
    ·unfold nR rU;rw[if_neg h4,if_neg h6];(repeat(first|rfl|rw[ad]|rw[af _ _ _ _ (by omega)]));simp[q8]
    ·exact eO
  ·intro o' n' hI
   rw[AY,List.nil_append]at hI
   simp only[nB]
   refine bc ?_
   have hg:=hI.bB
   refine aj (k+1) h1 ag (AO (r:=2) (c:=8) (ep:=(Ui ps k r).length) (ds:=[]) _ hB uQ ag (fun j hj ku=> ?_) ?_ ?_ ?_)
   ·rw[hI.eq j (by omega)];unfold pq jo;(repeat(first|rfl|rw[ad]|rw[af _ _ _ _ (by omega)]))
   ·rw[hI.eq 2 (by omega)];unfold pq;(repeat(first|rfl|rw[ad]|rw[af _ _ _ _ (by omega)]))
   ·rw[hI.eq 8 (by omega),qk p ps hr];unfold pq;(repeat(first|rfl|rw[ad]|rw[af _ _ _ _ (by omega)]))
   ·exact qp
 ·simp at h1
  have Kz:k=p.rules.length:=ag
  subst Kz
  simp+contextual (disch:=first|omega|simp only[go_sem,false_implies]) only[go_sem,wrap64,if_pos,k2,k8]
theorem AZ{s:bE}(h:iw s=true):s.bu.length<=8:=by
 unfold iw at h
 split at h
 ·cases h
 ·rename_i h2
  simp at h2;omega
def kX(p:Pg):List Cl×Int:=if oY p=true then(if(jn p).length<=60 then(jn p,0)else([],3))else([],2)
theorem FV(p:Pg)(hp:p.Fw)(h:ed p=true):aR Tryz.prog 41 [p.d] (.ret [crD p (cS p)]):=by
 have:=L1 p hp
 rwa [show rT p p.rules.length=p.rules.flatMap fun r=>iz r.rhs by unfold rT;rw[List.take_length],SM (fun r hr=>pb h hr)]at this
theorem pt{p:Pg}(h:ed p=true):(cS p).length<=100:=by
 unfold cS
 have h1:=List.length_filter_le (fun n=>(p.rules.flatMap fun r=>iz r.rhs).contains n) ((List.range p.sig.bu.length).map fun n:Nat=>(n:Int))
 rw[List.length_map,List.length_range]at h1
 have h2:=AZ (tL h)
 omega
theorem SU(p:Pg)(hp:p.Fw)(h:ed p=true):aR Tryz.prog 42 [crD p (cS p)] (.ret [.sl ((jn p).map Cl.d)]):=
 L2 p hp (fun r hr=>(pb h hr).len) (fun r hr x hx h4=>(pb h hr).kids (tL h) hx h4) (cS p) (pt h)
theorem L5(p:Pg)(hf:p.Fin)(hp:p.Fw)(hq:oY p=ed p):aR Tryz.prog 11 [p.d] (.ret [.sl ((kX p).1.map Cl.d), .i (kX p).2]):=by
 refine aR.aG mix Xh aK ?_
 rw[c11,kX]
 refine bc ?_
 refine aD (IV p hf) rfl ?_
 cases h1:oY p with
 |false=>simp+contextual (disch:=first|omega|simp only[go_sem,false_implies]) only[go_sem,wrap64,if_pos,m4]
 |true=>
 have h2:ed p=true:=hq ▸ h1
 refine A9 ?_
 refine bz (FV p hp h2) ?_
 refine bc ?_
 refine bz (SU p hp h2) ?_
 have mC:(jn p).length<=50500000:=by
  have:=mq hp (pt h2) p.rules.length (Nat.le_refl _)
  have:=hp.len
  unfold jn;omega
 by_cases h3:(jn p).length<=60
 ·have mU:decide (((jn p).length:Int)>60)=false:=by simp;omega
  simp+contextual (disch:=first|omega|simp only[go_sem,false_implies]) only[go_sem,wrap64,if_pos,List.length_map,mU,if_pos h3]
 ·have mU:decide (((jn p).length:Int)>60)=true:=by simp;omega
  simp+contextual (disch:=first|omega|simp only[go_sem,false_implies]) only[go_sem,wrap64,if_pos,List.length_map,mU,if_neg h3]
def pv(aw kids:List Tm)(i j:Nat):List lb:=((List.range i).flatMap fun i=>nL aw kids i kids.length)++nL aw kids i j
theorem wg(aw kids:List Tm)(i j:Nat):nL aw kids i (j+1)=nL aw kids i j++(qj aw kids i j).toList:=by
 unfold nL
 rw[List.range_succ,List.filterMap_append]
 cases h:qj aw kids i j<;>simp[h]
theorem mu(aw kids:List Tm)(i:Nat):∀j,(nL aw kids i j).length<=j
 |0=>by simp[nL]
 |j+1=>by
  have:=mu aw kids i j
  rw[wg,List.length_append]
  cases qj aw kids i j<;>simp<;>omega
theorem tU(aw kids:List Tm)(j:Nat):∀i,(pv aw kids i j).length<=i*kids.length+j
 |0=>by have:=mu aw kids 0 j;simpa[pv]using this
 |i+1=>by
  have h1:=tU aw kids kids.length i
  have h2:=mu aw kids (i+1) j
  have h3:=mu aw kids i kids.length
  unfold pv at h1|-
  rw[List.range_succ,List.flatMap_append,List.append_assoc,List.length_append,List.length_append]
  rw[List.length_append]at h1
  simp only[List.flatMap_cons,List.flatMap_nil,List.append_nil]at h1|-
  have key:∀n,((List.range n).flatMap fun i=>nL aw kids i kids.length).length<=n*kids.length:=by
   intro n
   induction n with
   |zero=>simp
   |succ n ih=>
    rw[List.range_succ,List.flatMap_append,List.length_append,Nat.add_mul]
    have:=mu aw kids n kids.length
    simp only[List.flatMap_cons,List.flatMap_nil,List.append_nil];omega
  have:=key i
  rw[Nat.add_mul];omega
theorem Jz(aw kids:List Tm)(i:Nat):pv aw kids i kids.length=pv aw kids (i+1) 0:=by
 unfold pv
 rw[List.range_succ,List.flatMap_append]
 simp[nL]
theorem A0(aw kids:List Tm):pv aw kids aw.length 0=qW aw kids:=by unfold pv qW;simp[nL]
def Mg(r:Rl)(l:List lb):Nat->ab:=aA (aA (fun _=> .no) 0 (.row r.row)) 1 (.arr 0 64 3 (l.map lb.d))
theorem tV(r:Rl)(l:List lb):Good (Mg r l) 2:=(Good.nil.aA ag rfl).aA ag rfl
theorem raH_0(r:Rl)(l:List lb):Mg r l 0= .row r.row:=Pl
theorem raH_1(r:Rl)(l:List lb):Mg r l 1= .arr 0 64 3 (l.map lb.d):=Pl
theorem L6(r:Rl)(kids:List Tm)(hp:r.aw.length<=1000)(hk:kids.length<=1000)(fp:∀t∈r.aw,t.fits)(fk:∀t∈kids,t.fits):aR Tryz.prog 79 [r.d, .sl (kids.map Tm.d)] (.ret [.sl ((qW r.aw kids).map lb.d)]):=by
 refine aR.aG mix abB aK ?_
 rw[c79]
 refine bc ?_
 refine aC (fun i:Nat=>⟨aW [.aa, .d (.sl (kids.map Tm.d)), .ptr 0 0, .aa, .aa, .osl 1 0, .d (.i i)],Mg r (pv r.aw kids i 0),2⟩)
  (fun i=>i<=r.aw.length) (fun i=>r.aw.length - i) 0 (Nat.zero_le _) (bf.iK (fun _=>False) .a8 1 _ ag (FZ (cw (y:= .row r.row) eO (raH_0 _ _) (bw rfl lA))) (raH_1 _ _) (.inl ⟨rfl,rfl,cl⟩) (fun j hj=>by unfold Mg;(repeat(first|rfl|rw[ad]|rw[af _ _ _ _ (by omega)]))) (fun _ h=>h.elim) ?_) (fun i hi=> ?_)
 ·exact qp
 replace hi:i<=r.aw.length:=hi
 refine O9 ?_
 refine ai (fun h1=> ?_) (fun h1=> ?_)
 ·simp at h1
  obtain⟨pa,JJ⟩:=aB h1
  have L3:=List.mem_of_getElem? JJ
  refine O9 ?_
  refine aC (fun j:Nat=>⟨aW [.aa, .d (.sl (kids.map Tm.d)), .ptr 0 0, .aa, .aa, .osl 1 0, .d (.i i), .d (.i j)],Mg r (pv r.aw kids i j),2⟩)
   (fun j=>j<=kids.length) (fun j=>kids.length - j) 0 (Nat.zero_le _) (bf.bC _ (show 0<=2 from ag) ag (tV _ _) (fun j hj=>rfl) ?_) (fun j hj=> ?_)
  ·exact cN
  replace hj:j<=kids.length:=hj
  have hql:=tU r.aw kids j i
  have hqm:i*kids.length<=1000*1000:=Nat.mul_le_mul ag hk
  refine O9 ?_
  refine ai (fun h2=> ?_) (fun h2=> ?_)
  ·simp at h2
   obtain⟨ka,O1⟩:=aB h2
   have L4:=List.mem_of_getElem? O1
   have ly:pv r.aw kids i (j+1)=pv r.aw kids i j++(qj r.aw kids i j).toList:=by unfold pv;rw[wg,List.append_assoc]
   have hO:qj r.aw kids i j=if fF ka pa=true then some ⟨i,j,false⟩else if pa.kids.any (jf ka)=true then some ⟨i,j,true⟩else none:=by unfold qj;rw[JJ,O1]
   have aco:(pv r.aw kids i j).length<=1002000:=ag
   simp+contextual (disch:=first|omega|simp only[go_sem,false_implies]) only[go_sem,wrap64,if_pos,raH_0,raH_1,List.length_map,JJ,O1]
   refine aQ (Ir ka (fk ka L4) pa (fp pa L3)) rfl ?_
   refine bc ?_
   refine aO (aP rfl) ?_
   cases hs:fF ka pa with
   |true=>
    rw[hs,if_pos rfl]at hO
    rw[hO]at ly
    refine Uq hs ?_
    exact zw6
   |false=>
    rw[hs,if_neg Bool.false_ne_true]at hO
    simp+contextual (disch:=first|omega|simp only[go_sem,false_implies]) only[go_sem,wrap64,if_pos,hs,raH_0,raH_1,List.length_map,JJ,O1]
    refine aQ (FL ka (fk ka L4) pa (fp pa L3)) rfl ?_
    refine bc ?_
    refine aO (aP rfl) ?_
    cases hw:pa.kids.any (jf ka)with
    |true=>
     rw[hw,if_pos rfl]at hO
     rw[hO]at ly
     refine Uq hw ?_
     exact zw6
    |false=>
     rw[hw,if_neg Bool.false_ne_true]at hO
     rw[hO,Option.toList_none,List.append_nil]at ly
     refine gD hw ?_
     refine aj (j+1) h2 ag (bf.bC _ (show 0<=2 from ag) ag (tV _ _) (fun q hq=>by rw[ly]) ?_)
     exact cN
  ·simp at h2
   have Na:j=kids.length:=ag
   subst Na
   refine bc ?_
   refine aj (i+1) h1 ag (bf.bC _ (show 0<=2 from ag) ag (tV _ _) (fun q hq=>by rw[Jz]) ?_)
   exact cN
 ·simp at h1
  have Qb:i=r.aw.length:=ag
  subst Qb
  rw[A0]
  simp+contextual (disch:=first|omega|simp only[go_sem,false_implies]) only[go_sem,wrap64,if_pos,raH_0,raH_1]
def Ee(p:Pg)(l:List Int):Nat->ab:=aA (aA (fun _=> .no) 0 (.row p.row)) 1 (.arr 0 3 1 (l.map .i))
theorem tW(p:Pg)(l:List Int):Good (Ee p l) 2:=(Good.nil.aA ag rfl).aA ag rfl
theorem apH_0(p:Pg)(l:List Int):Ee p l 0= .row p.row:=Po
theorem apH_1(p:Pg)(l:List Int):Ee p l 1= .arr 0 3 1 (l.map .i):=Po
def JF(p:Pg)(l m:List Int):Nat->ab:=aA (Ee p l) 2 (.arr 0 3 1 (m.map .i))
theorem r8(p:Pg)(l m:List Int):Good (JF p l m) 3:=((tW p l).mono ag).aA ag rfl
theorem apI_0(p:Pg)(l m:List Int):JF p l m 0= .row p.row:=U1
theorem apI_1(p:Pg)(l m:List Int):JF p l m 1= .arr 0 3 1 (l.map .i):=U1
theorem apI_2(p:Pg)(l m:List Int):JF p l m 2= .arr 0 3 1 (m.map .i):=JY
def A1(l:List Int)(q:Nat):List Int:=((List.range q).map fun n:Nat=>(n:Int)).filter fun n=>l.contains n
theorem FW(l:List Int)(q:Nat):A1 l (q+1)=A1 l q++if l.contains (q:Int)=true then [(q:Int)]else []:=by
 unfold A1
 rw[List.range_succ,List.map_append,List.filter_append]
 simp only[List.map_cons,List.map_nil]
 by_cases h:l.contains (q:Int)=true
 ·rw[if_pos h,List.filter_cons,if_pos h];rfl
 ·rw[if_neg h,List.filter_cons,if_neg h];rfl
theorem JA(l:List Int)(q:Nat):(A1 l q).length<=q:=by
 unfold A1
 have:=List.length_filter_le (fun n=>l.contains n) ((List.range q).map fun n:Nat=>(n:Int))
 simpa using this
theorem CA(p:Pg)(hp:p.Fw)(hs:p.sig.bu.length<=1000):aR Tryz.prog 80 [p.d] (.ret [.sl ((cS p).map .i)]):=by
 have uc:=hp.len
 refine aR.aG mix abC aK ?_
 rw[c80]
 refine bc ?_
 refine aC (fun k:Nat=>⟨aW [.aa, .ptr 0 0, .aa, .osl 1 0, .a8, .d (.i k)],Ee p (rT p k),2⟩)
  (fun k=>k<=p.rules.length) (fun k=>p.rules.length - k) 0 (Nat.zero_le _) (bf.iK (fun _=>False) .a8 1 _ ag (FZ (cw (y:= .row p.row) eO (apH_0 _ _) (bw rfl lA))) (apH_1 _ _) (.inl ⟨rfl,rfl,cl⟩) (fun j hj=>by unfold Ee;(repeat(first|rfl|rw[ad]|rw[af _ _ _ _ (by omega)]))) (fun _ h=>h.elim) ?_) (fun k hk=> ?_)
 ·exact qp
 replace hk:k<=p.rules.length:=hk
 have Ej:=xW hp k hk
 refine Pa ?_
 refine ai (fun h1=> ?_) (fun h1=> ?_)
 ·simp at h1
  obtain⟨r,hr⟩:=aB h1
  obtain⟨f1,f2,f3⟩:=hp.all r (List.mem_of_getElem? hr)
  have Vc:=D6 r.rhs
  have mH:=tT p hr
  simp+contextual (disch:=first|omega|simp only[go_sem,false_implies]) only[go_sem,wrap64,if_pos,apH_0,apH_1,List.length_map,hr]
  refine bz (Zo r.rhs f2 ag) ?_
  refine Pa ?_
  refine aj (k+1) h1 ag (bf.iK (fun j=>j=1) (.osl 1 1) 1 _ ag (FZ (cw (y:= .row p.row) Po (apH_0 _ _) (bw rfl lA))) (apH_1 _ _) (.inr ⟨1,1,rfl,rfl,by(repeat(first|rfl|rw[ad]|rw[af _ _ _ _ (by omega)]));rw[mH];simp⟩) (fun j hj=>by unfold Ee;(repeat(first|rfl|rw[ad]|rw[af _ _ _ _ (by omega)]))) (fun j h h2=>ag) ?_)
  exact qp
 ·simp at h1
  have Kz:k=p.rules.length:=ag
  subst Kz
  have aX:rT p p.rules.length=p.rules.flatMap fun r=>iz r.rhs:=by unfold rT;rw[List.take_length]
  have Zs:A1 (rT p p.rules.length) p.sig.bu.length=cS p:=by rw[aX];rfl
  generalize rT p p.rules.length=all at Ej Zs|-
  refine Pa ?_
  refine aC (fun q:Nat=>⟨aW [.aa, .ptr 0 0, .aa, .osl 1 0, .osl 2 0, .aa, .d (.i q)],JF p all (A1 all q),3⟩)
   (fun q=>q<=p.sig.bu.length) (fun q=>p.sig.bu.length - q) 0 (Nat.zero_le _) (bf.iK (fun _=>False) .a8 2 _ ag (fun j hj=> ?_) (apI_2 _ _ _) (.inl ⟨rfl,rfl,cl⟩) (fun j hj=>by unfold JF Ee;(repeat(first|rfl|rw[ad]|rw[af _ _ _ _ (by omega)]))) (fun _ h=>h.elim) ?_) (fun q hq=> ?_)
  ·exact cw (y:=Ee p all j) rfl JY (bw rfl (fun r hr=>(tW p all).refs j r hr))
  ·exact qp
  replace hq:q<=p.sig.bu.length:=hq
  have hql:=JA all q
  refine JS ?_
  refine ai (fun h2=> ?_) (fun h2=> ?_)
  ·simp at h2
   refine JS ?_
   refine aC (fun m:Nat=>⟨aW [.aa, .ptr 0 0, .aa, .osl 1 0, .osl 2 0, .aa, .d (.i q), .d (.bool ((all.take m).contains (q:Int))), .d (.i m)],JF p all (A1 all q),3⟩)
    (fun m=>m<=all.length) (fun m=>all.length - m) 0 (Nat.zero_le _) (bf.bC _ (show 0<=3 from ag) ag (r8 _ _ _) (fun j hj=>rfl) ?_) (fun m hm=> ?_)
   ·exact cN
   replace hm:m<=all.length:=hm
   refine JS ?_
   refine ai (fun h3=> ?_) (fun h3=> ?_)
   ·simp at h3
    obtain⟨y,hy⟩:=aB h3
    have A4:(all.take (m+1)).contains (q:Int)=((all.take m).contains (q:Int)||y==(q:Int)):=by
     rw[List.take_add_one,hy]
     simp[List.contains_eq_mem,Bool.decide_or,eq_comm,Bool.beq_eq_decide_eq]
     try rw[Bool.eq_iff_iff];simp
    cases hc:(all.take m).contains (q:Int)with
    |true=>
     rw[hc,Bool.true_or]at A4
     exact Vn
    |false=>
     rw[hc,Bool.false_or]at A4
     exact Vn
   ·simp at h3
    rw[List.take_of_length_le h3]
    have Uk:=FW all q
    refine bc ?_
    refine ai (fun h4=> ?_) (fun h4=> ?_)
    ·rw[if_pos h4]at Uk
     refine JS ?_
     refine aj (q+1) h2 ag (bf.iK (fun j=>j=2) (.osl 2 1) 2 _ ag (fun j hj=> ?_) (apI_2 _ _ _) (.inr ⟨2,1,rfl,rfl,by(repeat(first|rfl|rw[ad]|rw[af _ _ _ _ (by omega)]));rw[Uk];simp⟩) (fun j hj=>by unfold JF Ee;(repeat(first|rfl|rw[ad]|rw[af _ _ _ _ (by omega)]))) (fun j h h2=>ag) ?_)
     ·exact cw (y:=Ee p all j) JY JY (bw rfl (fun r hr=>(tW p all).refs j r hr))
     ·exact qp
    ·rw[if_neg (by rw[h4];exact Bool.false_ne_true),List.append_nil]at Uk
     refine bc ?_
     refine aj (q+1) h2 ag (bf.bC _ (show 0<=3 from ag) ag (r8 _ _ _) (fun j hj=>by rw[Uk]) ?_)
     exact cN
  ·simp at h2
   have hqe:q=p.sig.bu.length:=ag
   subst hqe
   rw[Zs]
   simp+contextual (disch:=first|omega|simp only[go_sem,false_implies]) only[go_sem,wrap64,if_pos,apI_0,apI_1,apI_2]
theorem xZ(p:Pg){ps:List Int}(mH:ps.length<=100)(n:Int)(r:Rl)(t:Tm)(q:List Int)(b:Bool):(FF ps n r t q b).length<=t.sz*100:=by
 rw[o8, <- xY t q b]
 induction jr t q b with
 |nil=>simp
 |cons x l ih=>
  rw[List.flatMap_cons,List.length_append,List.length_cons,Nat.add_mul]
  have:=xX ps n r x mH
  omega
theorem FX(ps:List Int)(n:Int)(r:Rl){l:List Tm}{k:Nat}{x:Tm}(hx:l[k]? =some x)(q:List Int)(b:Bool):lx ps n r (l.take (k+1)) 0 q b=lx ps n r (l.take k) 0 q b++FF ps n r x (q++[(k:Int)]) b:=by
 have hk:=(List.getElem?_eq_some_iff.1 hx).1
 rw[List.take_add_one,hx,Option.toList_some,qX,lx,lx,List.append_nil]
 congr 3
 rw[List.length_take]
 congr 1
 omega
theorem SV:∀t:Tm,∀x∈eN t,x.sz<=t.sz:=by
 refine Tm.dy fun t ih x hx=> ?_
 rw[gW]at hx
 rcases List.mem_cons.1 hx with e|e
 ·rw[e];exact Nat.le_refl _
 ·obtain⟨k,hk,h⟩:=List.mem_flatMap.1 e
  have:=ih k hk x h
  have:=fR hk
  have:=Tm.hZ t
  omega
theorem L7(t:Tm):t.kids.length<=t.sz:=by
 have h1:=Tm.hZ t
 have key:∀l:List Tm,l.length<=fO l:=by
  intro l
  induction l with
  |nil=>simp
  |cons k l ih=>
   rw[fL,List.length_cons]
   have:=Tm.hZ k
   omega
 have:=key t.kids
 omega
theorem L8(p:Pg){ps:List Int}(mH:ps.length<=100)(n:Int)(r:Rl)(t:Tm)(q:List Int)(b:Bool)(k:Nat):(lx ps n r (t.kids.take k) 0 q (gz t.op b)).length<=t.sz*100:=by
 have h1:=xZ p mH n r t q b
 have h2:=qX ps n r (t.kids.take k) (t.kids.drop k) 0 q (gz t.op b)
 rw[List.take_append_drop]at h2
 rw[I5,h2,List.length_append,List.length_append]at h1
 omega
def ofB:IC:=Z2.snd.snd.snd.snd.snd.snd.fst.snd.fst.fst
def Ea(p:Pg)(t:Tm)(l:List Cl):Nat->ab:=aA (aA (aA (fun _=> .no) 0 (.row p.row)) 1 (.row t.row)) 2 (.arr 0 40 6 (l.map Cl.d))
def Pj(p:Pg)(t:Tm):Nat->ab:=aA (aA (fun _=> .no) 0 (.row p.row)) 1 (.row t.row)
theorem ye(p:Pg)(t:Tm):Good (Pj p t) 2:=(Good.nil.aA ag rfl).aA ag rfl
theorem ofH_0(p:Pg)(t:Tm)(l:List Cl):Ea p t l 0= .row p.row:=Pp
theorem ofH_1(p:Pg)(t:Tm)(l:List Cl):Ea p t l 1= .row t.row:=Pp
theorem ofH_2(p:Pg)(t:Tm)(l:List Cl):Ea p t l 2= .arr 0 40 6 (l.map Cl.d):=Pp
theorem x3{p:Pg}{n:Nat}{r:Rl}{t:Tm}(hf:t.fits)(hz:t.sz<=500){q:List Int}(b:Bool)(hq:q.length+t.la<=100000)(mH:(cS p).length<=100)
 (ih:∀x∈t.kids,∀ (q:List Int) (b:Bool),q.length+x.la<=100000->aR Tryz.prog 44 [p.d, .i n,x.d, .sl (q.map .i), .bool b] (.ret [.sl ((FF (cS p) n r x q b).map Cl.d)]))
 (pr:List Cl) (rj:pr.length<=1000) {e:Nat->V} {o:Nat->ab} {nx:Nat} {Q:eK->S->Prop}
 (hs:bf 0 ⟨e,o,nx⟩ ⟨aW [.aa, .d (.i n), .aa, .d (.sl (q.map .i)), .d (.bool b), .ptr 0 0, .aa, .ptr 1 0, .aa, .aa, .aa, .osl 2 0, .aa, .aa, .aa, .aa, .d (.i 0)],Ea p t pr,3⟩)
 (hQ:∀e' n',e' 11= .osl 2 0->Q (.exit 2) ⟨e',Ea p t (pr++lx (cS p) n r t.kids 0 q (gz t.op b)),n'⟩):
 sR 0 (fun Q s=>kN Tryz.prog 97 0 false ofB Q s) Q ⟨e,o,nx⟩:=by
 have jG:=(Tm.bg _).1 hf
 have qy:=Tm.hZ t
 refine aC (fun k:Nat=>⟨aW [.aa, .d (.i n), .aa, .d (.sl (q.map .i)), .d (.bool b), .ptr 0 0, .aa, .ptr 1 0, .aa, .aa, .aa, .osl 2 0, .aa, .aa, .aa, .aa, .d (.i k)],Ea p t (pr++lx (cS p) n r (t.kids.take k) 0 q (gz t.op b)),3⟩)
  (fun k=>k<=t.kids.length) (fun k=>t.kids.length - k) 0 (Nat.zero_le _) ?_ fun k hk=> ?_
 ·simpa[lx]using hs
 replace hk:k<=t.kids.length:=hk
 have Ej:=jG.1
 simp only[ofB,Z2,IC.snd,IC.fst]
 simp+contextual (disch:=first|omega|simp only[go_sem,false_implies]) only[go_sem,wrap64,if_pos,List.length_map,ofH_0,ofH_1,ofH_2]
 refine ai (fun h2=> ?_) (fun h2=> ?_)
 ·simp at h2
  obtain⟨x,hx⟩:=aB h2
  have eC:=List.mem_of_getElem? hx
  have hh:=Tm.mG eC
  have hsn:=FX (cS p) n r hx q (gz t.op b)
  have kx:(b=false/\(t.op !=3)=(t.op !=3)/\gz t.op b=false)\/(b=true/\(t.op !=3)=false/\gz t.op b=false)\/(b=true/\(t.op !=3)=true/\gz t.op b=(t.op !=5)):=by
   unfold gz
   cases b<;>cases h3:(t.op !=3)<;>simp
  have hle:=L8 p mH n r t q b k
  have hlx:=xZ p mH n r x (q++[(k:Int)]) (gz t.op b)
  have Bp:=fR eC
  have Qj:(pr++lx (cS p) n r (t.kids.take k) 0 q (gz t.op b)).length<=60000:=by rw[List.length_append];omega
  have abZ:(FF (cS p) n r x (q++[(k:Int)]) (gz t.op b)).length<=60000:=ag
  have e:q.map D.i++[D.i k]=(q++[(k:Int)]).map D.i:=aK
  rcases kx with⟨F7,h3,kx⟩|⟨F7,h3,kx⟩|⟨F7,h3,kx⟩
  all_goals subst F7
  all_goals rw[kx]at hsn Qj abZ
  all_goals rw[kx]
  all_goals simp+contextual (disch:=first|omega|simp only[go_sem,false_implies]) only[go_sem,wrap64,if_pos,List.length_map,ofH_0,ofH_1,ofH_2,hx,h3]
  all_goals rw[e]
  all_goals refine cW (ih x eC (q++[(k:Int)]) _ nn) ?_
  all_goals simp+contextual (disch:=first|omega|simp only[go_sem,false_implies]) only[go_sem,wrap64,if_pos,List.length_map,ofH_0,ofH_1,ofH_2]
  all_goals refine aO cl ?_
  all_goals simp+contextual (disch:=first|omega|simp only[go_sem,false_implies]) only[go_sem,wrap64,if_pos,and_self]
  all_goals refine aj (k+1) h2 ag (bf.iK (fun j=>j=2) (.osl 2 1) 2 _ ag (fun j hj=> ?_) (ofH_2 _ _ _) (.inr ⟨2,1,rfl,rfl,by(repeat(first|rfl|rw[ad]|rw[af _ _ _ _ (by omega)]));rw[hsn];simp⟩) (fun j hj=>by unfold Ea;(repeat(first|rfl|rw[ad]|rw[af _ _ _ _ (by omega)]))) (fun j h h2=>ag) ?_)
  all_goals first
   |exact cw (y:=Pj p t j) Uw Uw (bw rfl (fun r hr=>(ye p t).refs j r hr))
   |(repeat(first|exact yd|refine uM ?_|refine wk rfl ?_|refine wk (Ga (Gb ag)) ?_|refine Gc 0 rfl rfl rfl ?_|refine Gd rfl zy5 ?_|refine Ge rfl aag ?_))
 ·simp at h2
  have Ej:k=t.kids.length:=ag
  exact PV
theorem Zt(p:Pg)(hp:p.Fw)(hs:p.sig.bu.length<=100)(n:Nat)(r:Rl)(hr:p.rules[n]? =some r)(h4:r.aw.length<=4)(fp:∀t∈r.aw,t.fits):∀t:Tm,t.fits->t.sz<=500->(∀x∈eN t,x.kids.length<=1000)->∀ (q:List Int) (b:Bool),q.length+t.la<=100000->
 aR Tryz.prog 44 [p.d, .i n,t.d, .sl (q.map .i), .bool b] (.ret [.sl ((FF (cS p) n r t q b).map Cl.d)]):=by
 have mH:(cS p).length<=100:=by
  unfold cS
  have h1:=List.length_filter_le (fun n=>(p.rules.flatMap fun r=>iz r.rhs).contains n) ((List.range p.sig.bu.length).map fun n:Nat=>(n:Int))
  rw[List.length_map,List.length_range]at h1
  omega
 have uc:=hp.len
 have ue:=(List.getElem?_eq_some_iff.1 hr).1
 refine Tm.dy fun t ih hf hz ED q b hq=> ?_
 have jG:=(Tm.bg _).1 hf
 have hk0:t.kids.length<=1000:=ED t (by rw[gW];simp)
 refine aR.aG mix abi aK ?_
 rw[Z2,I5]
 by_cases h4:t.op=4
 ·have BB:(t.op==4)=true:=by simpa using h4
  have Jy:(t.op==6)=false:=by rw[h4];rfl
  refine A7 hr BB Jy ?_
  refine bz (L6 r t.kids ag hk0 fp jG.2) ?_
  refine A7 hr BB Jy ?_
  have x7:rU (cS p) n r ⟨t,q,b⟩=[⟨n,r.fn,t.n,q,b,qW r.aw t.kids⟩]:=by unfold rU;rw[if_pos h4]
  rw[x7]
  refine x3 hf hz b hq mH (fun x hx q b hq=>ih x hx (jG.2 x hx) Gp (fun y hy=>ED y Ps) q b hq) [⟨n,r.fn,t.n,q,b,qW r.aw t.kids⟩] aK ?_ fun e' n' he=> ?_
  ·refine bf.iK (fun j=>2<=j) _ 2 _ ag (fun j hj=> ?_) (ofH_2 _ _ _) (.inr ⟨_,_, ?_,rfl,by(repeat(first|rfl|rw[ad]|rw[af _ _ _ _ (by omega)]))⟩) (fun j hj=>by unfold Ea;(repeat(first|rfl|rw[ad]|rw[af _ _ _ _ (by omega)]))) (fun j h h2=>ag) ?_
   ·exact Ph
   ·decide
   ·exact qp
  ·exact Pc he
 ·have BB:(t.op==4)=false:=by simpa using h4
  by_cases h6:t.op=6
  ·have Jy:(t.op==6)=true:=by simpa using h6
   have x7:rU (cS p) n r ⟨t,q,b⟩=(cS p).map fun to=>⟨n,r.fn,to,q,b,[]⟩:=by unfold rU;rw[if_neg h4,if_pos h6]
   rw[x7]
   refine A7 hr BB Jy ?_
   refine bz (CA p hp ag) ?_
   refine A7 hr BB Jy ?_
   have Zu:∀to:Int,Good (aA (aA (aA (aA (fun _=>ab.no) 0 (.row p.row)) 1 (.row t.row)) 9 (.row r.row)) 17 (.row [.d (.i n), .d (.i r.fn), .d (.i to), .d (.sl (q.map .i)), .d (.bool b), .a8])) 18:=fun to=>eH
   refine aC (fun i:Nat×Int=>⟨aW [.aa, .d (.i n), .aa, .d (.sl (q.map .i)), .d (.bool b), .ptr 0 0, .aa, .ptr 1 0, .aa, .aa, .aa, .osl 18 0, .ptr 9 0, .ptr 17 0, .d (.sl ((cS p).map .i)), .d (.i i.1)],
    aA (aA (aA (aA (aA (fun _=> .no) 0 (.row p.row)) 1 (.row t.row)) 9 (.row r.row)) 17 (.row [.d (.i n), .d (.i r.fn), .d (.i i.2), .d (.sl (q.map .i)), .d (.bool b), .a8])) 18 (.arr 0 40 6 ((((cS p).take i.1).map fun to=>Cl.mk n r.fn to q b []).map Cl.d)),19⟩)
    (fun i=>i.1<=(cS p).length) (fun i=>(cS p).length - i.1) (0,0) (Nat.zero_le _) (bf.iK (fun _=>False) .a8 18 _ ag (fun j hj=> ?_) (ad _ _ _) (.inl ⟨rfl,rfl,cl⟩) (fun j hj=>by(repeat(first|rfl|rw[ad]|rw[af _ _ _ _ (by omega)]))) (fun _ h=>h.elim) ?_) ?_
   ·refine cw (y:=aA (aA (aA (aA (fun _=>ab.no) 0 (.row p.row)) 1 (.row t.row)) 9 (.row r.row)) 17 (.row [.d (.i n), .d (.i r.fn), .d (.i 0), .d (.sl (q.map .i)), .d (.bool b), .a8]) j) (by rw[fI,fI]) (af _ _ _ _ ag) (bw rfl (fun r hr=>(Zu 0).refs j r hr))
   ·exact qp
   rintro⟨m,to0⟩ hm
   replace hm:m<=(cS p).length:=hm
   have CW:(((cS p).take m).map fun to=>Cl.mk n r.fn to q b []).length<=100:=by rw[List.length_map,List.length_take];omega
   refine nk ?_
   refine ai (fun h7=> ?_) (fun h7=> ?_)
   ·simp at h7
    obtain⟨to,Qr⟩:=aB h7
    have A4:(cS p).take (m+1)=(cS p).take m++[to]:=by rw[List.take_add_one,Qr];rfl
    have e3:((cS p).take m).length<=140737488355327:=by rw[List.length_take];omega
    have e4:(((cS p).take m).length+1)*80<=140737488355328:=by rw[List.length_take];omega
    refine A7 Qr e3 e4 ?_
    refine aj (m+1,to) h7 ag (bf.iK (fun j=>j=18) (.osl 18 1) 18 _ ag (fun j hj=> ?_) (ad _ _ _) (.inr ⟨18,1,rfl,rfl,by(repeat(first|rfl|rw[ad]|rw[af _ _ _ _ (by omega)]));rw[A4];simp⟩) (fun j hj=>by(repeat(first|rfl|rw[ad]|rw[af _ _ _ _ (by omega)]))) (fun j h h2=>ag) ?_)
    ·refine cw (y:=aA (aA (aA (aA (fun _=>ab.no) 0 (.row p.row)) 1 (.row t.row)) 9 (.row r.row)) 17 (.row [.d (.i n), .d (.i r.fn), .d (.i to), .d (.sl (q.map .i)), .d (.bool b), .a8]) j) ?_ (af _ _ _ _ ag) (bw rfl (fun r hr=>(Zu to).refs j r hr))
     by_cases e17:j=17
     ·subst e17;(repeat(first|rfl|rw[ad]|rw[af _ _ _ _ (by omega)]))
     ·(repeat(first|rfl|rw[ad]|rw[af _ _ _ _ (by omega)]))
      rw[af _ 17 _ _ e17]
    ·exact qp
   ·simp at h7
    have hme:m=(cS p).length:=ag
    subst hme
    rw[List.take_length]
    refine bc ?_
    refine x3 hf hz b hq mH (fun x hx q b hq=>ih x hx (jG.2 x hx) Gp (fun y hy=>ED y Ps) q b hq) ((cS p).map fun to=>Cl.mk n r.fn to q b []) (by rw[List.length_map];omega) ?_ fun e' n' he=> ?_
    ·refine bf.iK (fun j=>2<=j) (.osl 18 0) 2 _ ag (fun j hj=> ?_) (ofH_2 _ _ _) (.inr ⟨18,0,cl,rfl,by(repeat(first|rfl|rw[ad]|rw[af _ _ _ _ (by omega)]))⟩) (fun j hj=>by unfold Ea;(repeat(first|rfl|rw[ad]|rw[af _ _ _ _ (by omega)]))) (fun j h h2=>ag) ?_
     ·exact Ph
     ·exact qp
    ·exact Pc he
  ·have Jy:(t.op==6)=false:=by simpa using h6
   have x7:rU (cS p) n r ⟨t,q,b⟩=[]:=by unfold rU;rw[if_neg h4,if_neg h6]
   rw[x7]
   refine A7 hr BB Jy ?_
   refine x3 hf hz b hq mH (fun x hx q b hq=>ih x hx (jG.2 x hx) Gp (fun y hy=>ED y Ps) q b hq) [] aK ?_ fun e' n' he=> ?_
   ·refine bf.iK (fun j=>2<=j) .a8 2 _ ag (fun j hj=> ?_) (ofH_2 _ _ _) (.inl ⟨rfl,rfl,cl⟩) (fun j hj=>by unfold Ea;(repeat(first|rfl|rw[ad]|rw[af _ _ _ _ (by omega)]))) (fun j h h2=>ag) ?_
    ·exact Ph
    ·exact qp
   ·exact Pc he
theorem JB(p:Pg)(hp:p.Fw)(h:ed p=true):aR Tryz.prog 13 [p.d] (.ret [.sl ((jn p).map Cl.d)]):=by
 have uc:=hp.len
 have NU:=AZ (tL h)
 refine aR.aG mix aa4 aK ?_
 rw[c13]
 refine bc ?_
 refine aC (fun k:Nat=>⟨aW [.aa, .ptr 0 0, .aa, .osl 1 0, .d (.i k)],aA (aA (fun _=> .no) 0 (.row p.row)) 1 (.arr 0 40 6 ((jm p (cS p) k).map Cl.d)),2⟩)
  (fun k=>k<=p.rules.length) (fun k=>p.rules.length - k) 0 (Nat.zero_le _) (bf.iK (fun _=>False) .a8 1 _ ag (FZ (cw (y:= .row p.row) eO eO (bw rfl lA))) (ad _ _ _) (.inl ⟨rfl,rfl,cl⟩) (fun j hj=>by(repeat(first|rfl|rw[ad]|rw[af _ _ _ _ (by omega)]))) (fun _ h=>h.elim) ?_) (fun k hk=> ?_)
 ·exact qp
 replace hk:k<=p.rules.length:=hk
 have Ej:=mq hp (pt h) k hk
 refine nk ?_
 refine ai (fun h1=> ?_) (fun h1=> ?_)
 ·simp at h1
  obtain⟨r,hr⟩:=aB h1
  have JQ:=List.mem_of_getElem? hr
  obtain⟨f1,f2,f3⟩:=hp.all r JQ
  have GP:=pb h JQ
  have Uk:=qk p (cS p) hr
  have hru:FF (cS p) k r r.rhs [] true=Ui (cS p) k r:=SI (cS p) k r
  have hll:=xZ p (pt h) k r r.rhs [] true
  rw[hru]at hll
  have ED:∀x∈eN r.rhs,x.kids.length<=1000:=fun x hx=>by
   have h1:=SV r.rhs x hx
   have h2:=L7 x
   omega
  refine ll hr ?_
  have:=Zt p hp ag k r hr GP.len (fun t ht=>(f1.all t ht).1) r.rhs f2 f3 ED [] true (by have:=tO r.rhs;simp;omega)
  rw[hru]at this
  refine cW this ?_
  refine nk ?_
  refine aO cl ?_
  refine bc ?_
  refine aj (k+1) h1 ag (bf.iK (fun j=>j=1) (.osl 1 1) 1 _ ag (FZ (cw (y:= .row p.row) eO eO (bw rfl lA))) (ad _ _ _) (.inr ⟨1,1,rfl,rfl,by(repeat(first|rfl|rw[ad]|rw[af _ _ _ _ (by omega)]));rw[Uk];simp⟩) (fun j hj=>by(repeat(first|rfl|rw[ad]|rw[af _ _ _ _ (by omega)]))) (fun j h h2=>ag) ?_)
  exact qp
 ·simp at h1
  have Kz:k=p.rules.length:=ag
  subst Kz
  refine bc ?_
  rfl
theorem SW(p:Pg)(hp:p.Fw):aR Tryz.prog 12 [p.d] (.ret [.bool (ed p)]):=by
 refine aR.aG mix aa3 aK ?_
 rw[c12]
 refine bc ?_
 refine aD (L0 p hp) rfl ?_
 exact yc
theorem SX(p:Pg)(hp:p.Fits):aR Tryz.prog 9 [p.d] (.ret [.bool (gR p)]):=by
 refine aR.aG mix fn9 aK ?_
 rw[c9]
 refine bc ?_
 refine aD (FR p hp) rfl ?_
 exact yc
theorem uK(c:Cl)(h1:c.path.length<=1000000)(h2:c.Cr.length<=1000000):aR Tryz.prog 15 [c.d,c.d] (.ret [.bool true]):=by
 obtain⟨ru,fr,to,path,bare,Cr⟩:=c
 rw[Cl.K5]
 simp only at h1 h2
 have e1:(path==path)=true:=aK
 have s1:=Cu path path h1 h1
 rw[e1]at s1
 refine aR.aG mix Xi aK ?_
 rw[c15]
 refine Ut ?_
 refine aD s1 rfl ?_
 refine Ut ?_
 refine aD (uH Cr h2) rfl ?_
 exact yc
theorem Zv(l:List Cl)(hl:l.length<=60)(h:∀c∈l,c.path.length<=20/\c.Cr.length<=20):aR Tryz.prog 14 [.sl (l.map Cl.d)] (.ret [.bool true]):=by
 refine aR.aG mix aa5 aK ?_
 rw[c14]
 refine bc ?_
 refine aC (fun k:Nat=>⟨aW [.d (.sl (l.map Cl.d)), .aa, .aa, .d (.i k)],fun _=> .no,0⟩)
  (fun k=>k<=l.length) (fun k=>l.length - k) 0 (Nat.zero_le _) (bf.d0 _ ?_) (fun k hk=> ?_)
 ·exact cN
 replace hk:k<=l.length:=hk
 by_cases h2:k<l.length
 ·have yU:decide ((k:Int)<(l.length:Int))=true:=by simp;omega
  have mU:decide ((k:Int)<=70)=true:=by simp;omega
  obtain⟨c,hc⟩:=aB h2
  obtain⟨c1,c2⟩:=h c (List.mem_of_getElem? hc)
  have BB:decide ((c.path.length:Int)>20)=false:=by simp;omega
  have ub:decide ((c.Cr.length:Int)>20)=false:=by simp;omega
  simp+contextual (disch:=first|omega|simp only[go_sem,false_implies]) only[go_sem,wrap64,if_pos,List.length_map,yU,mU,hc,BB,ub]
  refine aj (k+1) h2 ag (bf.d0 _ ?_)
  exact cN
 ·have yU:decide ((k:Int)<(l.length:Int))=false:=by simp;omega
  have mU:decide ((l.length:Int)<=70)=true:=by simp;omega
  simp+contextual (disch:=first|omega|simp only[go_sem,false_implies]) only[go_sem,wrap64,if_pos,List.length_map,yU,mU]
theorem L9{p:Pg}(h:ed p=true):∀c∈jn p,c.path.length<=20/\c.Cr.length<=16:=by
 intro c hc
 unfold jn jm at hc
 obtain⟨n,hn,hc⟩:=List.mem_flatMap.1 hc
 cases hr:p.rules[n]? with
 |none=>rw[hr]at hc;cases hc
 |some r=>
  rw[hr]at hc
  have JQ:=List.mem_of_getElem? hr
  have hk:=pb h JQ
  obtain⟨x,hx,hc⟩:=List.mem_flatMap.1 hc
  have hp:=(hk.node hx).2
  unfold rU at hc
  split at hc
  ·rename_i h4
   simp only[List.mem_singleton]at hc
   subst hc
   refine⟨by dsimp only;omega, ?_⟩
   dsimp only
   rw[<- A0]
   have h1:=tU r.aw x.t.kids 0 r.aw.length
   have h2:=hk.len
   have h3:=hk.kids (tL h) hx h4
   have h4:r.aw.length*x.t.kids.length<=4*4:=Nat.mul_le_mul h2 h3
   omega
  ·split at hc
   ·obtain⟨to,_,rfl⟩:=List.mem_map.1 hc
    exact⟨by dsimp only;omega,aK⟩
   ·cases hc
theorem tX(hkn:aR Tryz.prog 10 [] (.ret [.bool true]))(p:Pg)(hf:p.Fits):aR Tryz.prog 3 [p.d] (.ret [.bool true]):=by
 refine aR.aG mix fn3 aK ?_
 rw[c3]
 refine bc ?_
 refine aD (SX p hf) rfl ?_
 cases h0:gR p with
 |false=>
  refine gD h0 ?_
  exact J8
 |true=>
 obtain⟨iV,VP⟩:=FQ hf h0
 have Zw:=FT hf h0
 have hq:=LQ p VP
 refine gD h0 ?_
 refine bz (L5 p iV Zw hq) ?_
 refine bc ?_
 refine aD (SW p Zw) rfl ?_
 cases h1:ed p with
 |false=>
  have hc:kX p=([],2):=by unfold kX;rw[hq,h1];rfl
  refine JD h1 hc ?_
  exact J8
 |true=>
 refine gD h1 ?_
 refine bz (JB p Zw h1) ?_
 have mC:(jn p).length<=50500000:=by
  have:=mq Zw (pt h1) p.rules.length (Nat.le_refl _)
  have:=Zw.len
  unfold jn;omega
 by_cases h60:(jn p).length<=60
 ·have hc:kX p=(jn p,0):=by unfold kX;rw[hq,h1,if_pos rfl,if_pos h60]
  have SY:decide (((jn p).length:Int)>60)=false:=by simp;omega
  have Hl:=L9 h1
  rw[hc]
  refine ll SY ?_
  refine aD (Zv _ h60 (fun c hc=>⟨(Hl c hc).1,by have:=(Hl c hc).2;omega⟩)) rfl ?_
  simp+contextual (disch:=first|omega|simp only[go_sem,false_implies]) only[go_sem,wrap64,if_pos,List.length_map,bne_self_eq_false]
  refine aC (fun k:Nat=>⟨aW [.aa, .ptr 0 0, .aa, .d (.sl ((jn p).map Cl.d)), .aa, .d (.sl ((jn p).map Cl.d)), .d (.i k)],aA (fun _=> .no) 0 (.row p.row),1⟩)
   (fun k=>k<=(jn p).length) (fun k=>(jn p).length - k) 0 (Nat.zero_le _) (bf.bC _ (show 0<=1 from ag) ag eH (fun j hj=>by(repeat(first|rfl|rw[ad]|rw[af _ _ _ _ (by omega)]))) ?_) (fun k hk=> ?_)
  ·exact cN
  replace hk:k<=(jn p).length:=hk
  refine nk ?_
  refine ai (fun h2=> ?_) (fun h2=> ?_)
  ·simp at h2
   obtain⟨c,qB⟩:=aB h2
   obtain⟨c1,c2⟩:=Hl c (List.mem_of_getElem? qB)
   refine gD qB ?_
   refine aQ (uK c ag ag) rfl ?_
   refine bc ?_
   refine aO (aP rfl) ?_
   refine bc ?_
   refine aj (k+1) h2 ag (bf.bC _ (show 0<=1 from ag) ag eH (fun j hj=>by(repeat(first|rfl|rw[ad]|rw[af _ _ _ _ (by omega)]))) ?_)
   exact cN
  ·refine bc ?_
   exact J8
 ·have hc:kX p=([],3):=by unfold kX;rw[hq,h1,if_pos rfl,if_neg h60]
  have SY:decide (((jn p).length:Int)>60)=true:=by simp;omega
  rw[hc]
  refine ll SY ?_
  exact J8
end Go.Proofs.YtnkamdiiakdkgaaGreat
section
namespace Go.Proofs.YtnkamdiiakdkgaaGreat
open Go
def SZ:Nat->Bool:=fun g=> !([160,174,175,181,162,177,178,72,101,102,73,103,138,139,140,141,142,143,145,146,164,167,168,180,156,120,119,170,76]:List Nat).contains g
def yP:D:= .agg [.sl [.agg [.str [70,97,108,115,101], .i 0], .agg [.str [84,114,117,101], .i 0], .agg [.str [90], .i 0], .agg [.str [83], .i 1], .agg [.str [78,105,108], .i 0], .agg [.str [67,111,110,115], .i 2]], .sl [.agg [.str [97,100,100], .i 2], .agg [.str [111,114], .i 2], .agg [.str [99,111,105,110], .i 0], .agg [.str [108,101,110], .i 1]], .sl [.agg [.i 0, .sl [.agg [.i 3, .i 2, .sl []], .agg [.i 1, .i 0, .sl []]], .i 1, .i 0, .sl [], .i 1], .agg [.i 0, .sl [.agg [.i 3, .i 3, .sl [.agg [.i 1, .i 0, .sl []]]], .agg [.i 1, .i 1, .sl []]], .i 3, .i 3, .sl [.agg [.i 4, .i 0, .sl [.agg [.i 1, .i 0, .sl []], .agg [.i 1, .i 1, .sl []]]]], .i 2], .agg [.i 1, .sl [.agg [.i 3, .i 1, .sl []], .agg [.i 1, .i 0, .sl []]], .i 3, .i 1, .sl [], .i 1], .agg [.i 1, .sl [.agg [.i 1, .i 0, .sl []], .agg [.i 3, .i 1, .sl []]], .i 3, .i 1, .sl [], .i 1], .agg [.i 1, .sl [.agg [.i 3, .i 0, .sl []], .agg [.i 3, .i 0, .sl []]], .i 3, .i 0, .sl [], .i 0], .agg [.i 2, .sl [], .i 3, .i 2, .sl [], .i 0], .agg [.i 2, .sl [], .i 3, .i 3, .sl [.agg [.i 3, .i 2, .sl []]], .i 0], .agg [.i 3, .sl [.agg [.i 3, .i 5, .sl [.agg [.i 1, .i 0, .sl []], .agg [.i 1, .i 1, .sl []]]]], .i 3, .i 3, .sl [.agg [.i 4, .i 3, .sl [.agg [.i 1, .i 1, .sl []]]]], .i 2], .agg [.i 3, .sl [.agg [.i 1, .i 0, .sl []]], .i 4, .i 0, .sl [.agg [.i 1, .i 1, .sl []], .agg [.i 1, .i 1, .sl []]], .i 2]]]
def yR:D:= .agg [.sl [.agg [.str [70,97,108,115,101], .i 0], .agg [.str [84,114,117,101], .i 0], .agg [.str [90], .i 0], .agg [.str [83], .i 1], .agg [.str [78,105,108], .i 0], .agg [.str [67,111,110,115], .i 2]], .sl [.agg [.str [97,100,100], .i 2], .agg [.str [111,114], .i 2], .agg [.str [99,111,105,110], .i 0], .agg [.str [108,101,110], .i 1]], .sl [.agg [.i 0, .sl [.agg [.i 3, .i 2, .sl []], .agg [.i 1, .i 0, .sl []]], .i 1, .i 0, .sl [], .i 1], .agg [.i 0, .sl [.agg [.i 3, .i 3, .sl [.agg [.i 1, .i 0, .sl []]]], .agg [.i 1, .i 1, .sl []]], .i 3, .i 3, .sl [.agg [.i 4, .i 0, .sl [.agg [.i 1, .i 0, .sl []], .agg [.i 1, .i 1, .sl []]]]], .i 2], .agg [.i 1, .sl [.agg [.i 3, .i 1, .sl []], .agg [.i 1, .i 0, .sl []]], .i 3, .i 1, .sl [], .i 1], .agg [.i 1, .sl [.agg [.i 1, .i 0, .sl []], .agg [.i 3, .i 1, .sl []]], .i 3, .i 1, .sl [], .i 1], .agg [.i 1, .sl [.agg [.i 3, .i 0, .sl []], .agg [.i 3, .i 0, .sl []]], .i 3, .i 0, .sl [], .i 0], .agg [.i 2, .sl [], .i 3, .i 2, .sl [], .i 0], .agg [.i 2, .sl [], .i 3, .i 3, .sl [.agg [.i 3, .i 2, .sl []]], .i 0], .agg [.i 3, .sl [.agg [.i 3, .i 5, .sl [.agg [.i 1, .i 0, .sl []], .agg [.i 1, .i 1, .sl []]]]], .i 3, .i 3, .sl [.agg [.i 4, .i 3, .sl [.agg [.i 1, .i 1, .sl []]]]], .i 2]]]
def yS:D:= .agg [.sl [.agg [.str [70,97,108,115,101], .i 0], .agg [.str [84,114,117,101], .i 0], .agg [.str [90], .i 0], .agg [.str [83], .i 1], .agg [.str [78,105,108], .i 0], .agg [.str [67,111,110,115], .i 2]], .sl [.agg [.str [97,100,100], .i 2], .agg [.str [111,114], .i 2], .agg [.str [99,111,105,110], .i 0], .agg [.str [108,101,110], .i 1]], .sl [.agg [.i 0, .sl [.agg [.i 3, .i 2, .sl []], .agg [.i 1, .i 0, .sl []]], .i 1, .i 0, .sl [], .i 1], .agg [.i 0, .sl [.agg [.i 3, .i 3, .sl [.agg [.i 1, .i 0, .sl []]]], .agg [.i 1, .i 1, .sl []]], .i 3, .i 3, .sl [.agg [.i 4, .i 0, .sl [.agg [.i 1, .i 0, .sl []], .agg [.i 1, .i 1, .sl []]]]], .i 2], .agg [.i 1, .sl [.agg [.i 3, .i 1, .sl []], .agg [.i 1, .i 0, .sl []]], .i 3, .i 1, .sl [], .i 1], .agg [.i 1, .sl [.agg [.i 1, .i 0, .sl []], .agg [.i 3, .i 1, .sl []]], .i 3, .i 1, .sl [], .i 1], .agg [.i 1, .sl [.agg [.i 3, .i 0, .sl []], .agg [.i 3, .i 0, .sl []]], .i 3, .i 0, .sl [], .i 0], .agg [.i 2, .sl [], .i 3, .i 2, .sl [], .i 0], .agg [.i 2, .sl [], .i 3, .i 3, .sl [.agg [.i 3, .i 2, .sl []]], .i 0], .agg [.i 3, .sl [.agg [.i 1, .i 0, .sl []]], .i 4, .i 3, .sl [.agg [.i 1, .i 0, .sl []]], .i 1]]]
def yC:D:= .agg [.sl [.agg [.str [70,97,108,115,101], .i 0], .agg [.str [84,114,117,101], .i 0], .agg [.str [90], .i 0], .agg [.str [83], .i 1], .agg [.str [78,105,108], .i 0], .agg [.str [67,111,110,115], .i 2]], .sl [.agg [.str [97,100,100], .i 2], .agg [.str [111,114], .i 2], .agg [.str [99,111,105,110], .i 0], .agg [.str [108,101,110], .i 1]], .sl [.agg [.i 0, .sl [.agg [.i 3, .i 2, .sl []], .agg [.i 1, .i 0, .sl []]], .i 1, .i 0, .sl [], .i 1], .agg [.i 0, .sl [.agg [.i 3, .i 3, .sl [.agg [.i 1, .i 0, .sl []]]], .agg [.i 1, .i 1, .sl []]], .i 3, .i 3, .sl [.agg [.i 4, .i 0, .sl [.agg [.i 1, .i 0, .sl []], .agg [.i 1, .i 1, .sl []]]]], .i 2], .agg [.i 1, .sl [.agg [.i 3, .i 1, .sl []], .agg [.i 1, .i 0, .sl []]], .i 3, .i 1, .sl [], .i 1], .agg [.i 1, .sl [.agg [.i 1, .i 0, .sl []], .agg [.i 3, .i 1, .sl []]], .i 3, .i 1, .sl [], .i 1], .agg [.i 1, .sl [.agg [.i 3, .i 0, .sl []], .agg [.i 3, .i 0, .sl []]], .i 3, .i 0, .sl [], .i 0], .agg [.i 2, .sl [], .i 3, .i 2, .sl [], .i 0], .agg [.i 2, .sl [], .i 3, .i 3, .sl [.agg [.i 3, .i 2, .sl []]], .i 0], .agg [.i 3, .sl [.agg [.i 1, .i 0, .sl []]], .i 3, .i 5, .sl [.agg [.i 1, .i 0, .sl []], .agg [.i 4, .i 3, .sl [.agg [.i 1, .i 0, .sl []]]]], .i 1]]]
def yT:D:= .agg [.sl [.agg [.str [70,97,108,115,101], .i 0], .agg [.str [84,114,117,101], .i 0], .agg [.str [90], .i 0], .agg [.str [83], .i 1], .agg [.str [78,105,108], .i 0], .agg [.str [67,111,110,115], .i 2]], .sl [.agg [.str [97,100,100], .i 2], .agg [.str [111,114], .i 2], .agg [.str [99,111,105,110], .i 0], .agg [.str [108,101,110], .i 1]], .sl [.agg [.i 0, .sl [.agg [.i 3, .i 3, .sl [.agg [.i 1, .i 0, .sl []]]], .agg [.i 1, .i 1, .sl []]], .i 4, .i 0, .sl [.agg [.i 1, .i 1, .sl []], .agg [.i 1, .i 0, .sl []]], .i 2]]]
def JC:oN Tryz.prog:=oN.of SZ [] (fun _ h=>by cases h)
end Go.Proofs.YtnkamdiiakdkgaaGreat
end
section
namespace Go.Proofs.YtnkamdiiakdkgaaGreat
open Go
theorem Ma:mW Tryz.prog bJ JC 5000 40 [yP]=some (.ret [.i 0]):=ah
theorem O2:aR Tryz.prog 40 [yP] (.ret [.i 0]):=aR.fG mix fH Ma
end Go.Proofs.YtnkamdiiakdkgaaGreat
end
section
namespace Go.Proofs.YtnkamdiiakdkgaaGreat
open Go
theorem Mb:mW Tryz.prog bJ JC 5000 40 [yR]=some (.ret [.i 0]):=ah
theorem O3:aR Tryz.prog 40 [yR] (.ret [.i 0]):=aR.fG mix fH Mb
end Go.Proofs.YtnkamdiiakdkgaaGreat
end
section
namespace Go.Proofs.YtnkamdiiakdkgaaGreat
open Go
theorem Mc:mW Tryz.prog bJ JC 5000 40 [yS]=some (.ret [.i 0]):=ah
theorem O4:aR Tryz.prog 40 [yS] (.ret [.i 0]):=aR.fG mix fH Mc
end Go.Proofs.YtnkamdiiakdkgaaGreat
end
section
namespace Go.Proofs.YtnkamdiiakdkgaaGreat
open Go
theorem Md:mW Tryz.prog bJ JC 5000 40 [yC]=some (.ret [.i 0]):=ah
theorem O5:aR Tryz.prog 40 [yC] (.ret [.i 0]):=aR.fG mix fH Md
end Go.Proofs.YtnkamdiiakdkgaaGreat
end
section
namespace Go.Proofs.YtnkamdiiakdkgaaGreat
open Go
theorem Me:mW Tryz.prog bJ JC 5000 40 [yT]=some (.ret [.i 0]):=ah
theorem O6:aR Tryz.prog 40 [yT] (.ret [.i 0]):=aR.fG mix fH Me
end Go.Proofs.YtnkamdiiakdkgaaGreat
end
section
namespace Go.Proofs.YtnkamdiiakdkgaaGreat
open Go
def A2:oN Tryz.prog:=oN.of SZ [(40,[yP], .ret [.i 0]),(40,[yR], .ret [.i 0]),(40,[yS], .ret [.i 0]),(40,[yC], .ret [.i 0]),(40,[yT], .ret [.i 0])] (fun x h=>by
 simp only[List.mem_cons,List.not_mem_nil,or_false]at h
 rcases h with rfl|rfl|rfl|rfl|rfl
 ·exact O2
 ·exact O3
 ·exact O4
 ·exact O5
 ·exact O6
 )
end Go.Proofs.YtnkamdiiakdkgaaGreat
end
section
namespace Go.Proofs.YtnkamdiiakdkgaaGreat
open Go
theorem S0:mW Tryz.prog bJ A2 5000 11 [yR]=some (.ret [.sl [.agg [.i 1, .i 0, .i 0, .sl [.i 0], .bool false, .sl [.agg [.i 0, .i 0, .bool true], .agg [.i 1, .i 1, .bool false]]], .agg [.i 7, .i 3, .i 3, .sl [.i 0], .bool false, .sl [.agg [.i 0, .i 0, .bool true]]]], .i 0]):=ah
theorem ab0:aR Tryz.prog 11 [yR] (.ret [.sl [.agg [.i 1, .i 0, .i 0, .sl [.i 0], .bool false, .sl [.agg [.i 0, .i 0, .bool true], .agg [.i 1, .i 1, .bool false]]], .agg [.i 7, .i 3, .i 3, .sl [.i 0], .bool false, .sl [.agg [.i 0, .i 0, .bool true]]]], .i 0]):=aR.fG mix fH S0
theorem S1:mW Tryz.prog bJ A2 5000 16 [yR, .sl [.i 0]]=some (.ret [.bool true, .i 0]):=ah
theorem ab1:aR Tryz.prog 16 [yR, .sl [.i 0]] (.ret [.bool true, .i 0]):=aR.fG mix fH S1
end Go.Proofs.YtnkamdiiakdkgaaGreat
end
section
namespace Go.Proofs.YtnkamdiiakdkgaaGreat
open Go
theorem S2:mW Tryz.prog bJ A2 5000 19 [yR]=some (.ret [.bool true, .sl [], .i 0]):=ah
theorem ab2:aR Tryz.prog 19 [yR] (.ret [.bool true, .sl [], .i 0]):=aR.fG mix fH S2
end Go.Proofs.YtnkamdiiakdkgaaGreat
end
section
namespace Go.Proofs.YtnkamdiiakdkgaaGreat
open Go
theorem S3:mW Tryz.prog bJ A2 5000 19 [yS]=some (.ret [.bool false, .sl [.i 1], .i 0]):=ah
theorem ab3:aR Tryz.prog 19 [yS] (.ret [.bool false, .sl [.i 1], .i 0]):=aR.fG mix fH S3
theorem S4:mW Tryz.prog bJ A2 5000 20 [yS]=some (.ret [.bool false, .sl [.i 1], .i 0]):=ah
theorem ab4:aR Tryz.prog 20 [yS] (.ret [.bool false, .sl [.i 1], .i 0]):=aR.fG mix fH S4
end Go.Proofs.YtnkamdiiakdkgaaGreat
end
section
namespace Go.Proofs.YtnkamdiiakdkgaaGreat
open Go
theorem S5:mW Tryz.prog bJ A2 5000 19 [yC]=some (.ret [.bool false, .sl [.i 1], .i 0]):=ah
theorem ab5:aR Tryz.prog 19 [yC] (.ret [.bool false, .sl [.i 1], .i 0]):=aR.fG mix fH S5
theorem S6:mW Tryz.prog bJ A2 5000 20 [yC]=some (.ret [.bool true, .sl [], .i 0]):=ah
theorem ab6:aR Tryz.prog 20 [yC] (.ret [.bool true, .sl [], .i 0]):=aR.fG mix fH S6
end Go.Proofs.YtnkamdiiakdkgaaGreat
end
section
namespace Go.Proofs.YtnkamdiiakdkgaaGreat
open Go
theorem S7:mW Tryz.prog bJ A2 5000 19 [yT]=some (.ret [.bool true, .sl [], .i 0]):=ah
theorem ab7:aR Tryz.prog 19 [yT] (.ret [.bool true, .sl [], .i 0]):=aR.fG mix fH S7
end Go.Proofs.YtnkamdiiakdkgaaGreat
end
section
namespace Go.Proofs.YtnkamdiiakdkgaaGreat
open Go
def ab8:oN Tryz.prog:=oN.of SZ [(40,[yP], .ret [.i 0]),(40,[yR], .ret [.i 0]),(40,[yS], .ret [.i 0]),(40,[yC], .ret [.i 0]),(40,[yT], .ret [.i 0]),(11,[yR], .ret [.sl [.agg [.i 1, .i 0, .i 0, .sl [.i 0], .bool false, .sl [.agg [.i 0, .i 0, .bool true], .agg [.i 1, .i 1, .bool false]]], .agg [.i 7, .i 3, .i 3, .sl [.i 0], .bool false, .sl [.agg [.i 0, .i 0, .bool true]]]], .i 0]),(16,[yR, .sl [.i 0]], .ret [.bool true, .i 0]),(19,[yR], .ret [.bool true, .sl [], .i 0]),(19,[yS], .ret [.bool false, .sl [.i 1], .i 0]),(20,[yS], .ret [.bool false, .sl [.i 1], .i 0]),(19,[yC], .ret [.bool false, .sl [.i 1], .i 0]),(20,[yC], .ret [.bool true, .sl [], .i 0]),(19,[yT], .ret [.bool true, .sl [], .i 0])] (fun x h=>by
 simp only[List.mem_cons,List.not_mem_nil,or_false]at h
 rcases h with rfl|rfl|rfl|rfl|rfl|rfl|rfl|rfl|rfl|rfl|rfl|rfl|rfl
 ·exact O2
 ·exact O3
 ·exact O4
 ·exact O5
 ·exact O6
 ·exact ab0
 ·exact ab1
 ·exact ab2
 ·exact ab3
 ·exact ab4
 ·exact ab5
 ·exact ab6
 ·exact ab7
 )
theorem A3:mW Tryz.prog bJ ab8 5000 10 []=some (.ret [.bool true]):=ah
theorem Mf:aR Tryz.prog 10 [] (.ret [.bool true]):=aR.fG mix fH A3
end Go.Proofs.YtnkamdiiakdkgaaGreat
end
section
namespace Go.Proofs.YtnkamdiiakdkgaaGreat
open Go.ChangeShapes Go.WideShapes Go.RowKit
set_option maxRecDepth 100000 in
theorem mZ(os:Os)(started:os.Started)(H:Type)(enc:TypeId×Value->H):
 ReturnsInHanded {} Tryz.checked os 3 .any (Rows.endsCallsAreSpec.pre6 enc Tryz.prog Tryz.f3 Rows.endsCallsAreRow.domain false) (Rows.endsCallsAreSpec.post enc Tryz.prog Tryz.f3 Rows.endsCallsAreRow.apart Rows.endsCallsAreRow.fresh Rows.endsCallsAreRow.handsOn Rows.endsCallsAreRow.again):=by
 refine returnsInHanded_of_change (C:=Tryz.checked) ah started ah Tryz.func3
  (ChangeSpec.witness6 (enc:=enc) (C:=Tryz.checked) false ⟨#[],#[.agg #[.slice none 0 0, .slice none 0 0, .slice none 0 0]],[]⟩ 8 ah ah ah ah) ?_
 intro W base args ds gs before ef hW _ _
 refine xU (T:=[27,24,22,102,9,3,25,57,49,55,53]) (tb:=4) ah ah rfl (fun ds h=>by match ds,h with|[_],_=>rfl) ah (by intro t ht;rw[Tryz.params3]at ht;simp at ht;subst ht;simp) ah (by intro t ht;rw[Tryz.params3]at ht;simp at ht;subst ht;exact⟨ah,of_decide_eq_true ah⟩)
  (fun xs hx=> ?_) base args ds gs before ef hW
 rw[Tryz.params3]at hx
 obtain⟨x0,xs,rfl,rZ,hx⟩:=bO hx
 have:=kp hx;subst this
 obtain⟨p0,rfl,Tc⟩:=abY rZ
 exact tX Mf p0 Tc
theorem endsCallsAre_holds:Rows.EndsCallsAreSaid:=
 OpenClaim.holds_of_wide 3 Tryz.f3 rfl rfl rfl rfl rfl rfl rfl ⟨rfl,rfl,rfl,rfl,rfl⟩ rfl rfl rfl rfl rfl ah Tryz.func3 ah
  (of_decide_eq_true ah) (by unfold Func.isWrapper;first|(rw[if_pos (by decide+kernel)];kernel_rfl)|(rw[if_neg (by decide+kernel)];exact⟨rfl,rfl⟩))
  (fun os started H enc _=>mZ os started H enc)
end Go.Proofs.YtnkamdiiakdkgaaGreat
end
