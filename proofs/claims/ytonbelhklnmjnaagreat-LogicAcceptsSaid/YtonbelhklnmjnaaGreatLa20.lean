/-
  A PART OF THE PROOF. Conditions: none.
-/
import Derived.Test.YtonbelhklnmjnaaGreatLa19
set_option linter.unusedSimpArgs false
set_option linter.unusedVariables false
namespace Go.Proofs.YtonbelhklnmjnaaGreat
theorem Na(l:List Int)(x:Int)(hl:l.length<=1000):aR Tryz.prog 261 [.sl (l.map .i), .i x] (.ret [.i (match l.findIdx? (· ==x)with|some i=>(i:Int)|none=> -1)]):=by
 refine aR.ay mix Tg au ?_
 rw[Xa]
 refine fT ?_
 refine aE (fun k:Nat=>⟨bz [.d (.sl (l.map .i)), .d (.i x), .aa, .aa, .aa, .aa, .d (.sl (l.map .i)), .d (.i l.length), .d (.i k)],fun _=> .no,0⟩)
  (fun k=>k<=l.length/\∀j y,j<k->l[j]? =some y->(y==x)=false) (fun k=>l.length - k) 0 ⟨Nat.zero_le _,fun _ _ h=>absurd h ad⟩ (bE.d0 _ ?_) (fun k hk=> ?_)
 ·exact cz
 refine fT ?_
 refine aq (fun h2=> ?_) (fun h2=> ?_)
 ·simp at h2
  obtain⟨y,hy⟩:=aw h2
  refine dn hy ?_
  refine aq (fun h3=> ?_) (fun h3=> ?_)
  ·have sx:x=y:=by simpa using h3
   have:l.findIdx? (· ==x)=some k:=by
    rw[List.findIdx?_eq_some_iff_getElem]
    obtain⟨rT,e⟩:=List.getElem?_eq_some_iff.1 hy
    refine⟨rT,by rw[e];simp[sx],fun j hj=> ?_⟩
    have:=hk.2 j _ hj (List.getElem?_eq_getElem ad)
    simpa using this
   rw[this]
   exact bR
  ·refine aG ?_
   refine ax (k+1) ⟨h2,fun j z hj hz=> ?_⟩ ad (bE.d0 _ ?_)
   ·by_cases e:j=k
    ·subst e;rw[hy]at hz;injection hz with hz;subst hz
     rw[beq_eq_false_iff_ne];intro e;subst e;simp at h3
    ·exact hk.2 j z ad hz
   ·exact cz
 ·simp at h2
  have:l.findIdx? (· ==x)=none:=by
   rw[List.findIdx?_eq_none_iff]
   intro y hy
   obtain⟨j,hj,e⟩:=List.getElem_of_mem hy
   exact hk.2 j y ad (by rw[List.getElem?_eq_getElem hj,e])
  rw[this]
  exact bR
theorem Nb(l:List Int)(x:Int)(hl:l.length<=1000):aR Tryz.prog 255 [.sl (l.map .i), .i x] (.ret [.bool (l.contains x)]):=by
 refine aR.ay mix Tb au ?_
 rw[W5]
 refine aG ?_
 refine ag (Na l x hl) rfl ?_
 refine aG ?_
 cases h:l.findIdx? (· ==x)with
 |some i=>
  have:l.contains x=true:=by
   rw[List.findIdx?_eq_some_iff_getElem]at h
   obtain⟨h1,h2,_⟩:=h
   have h2:l[i]=x:=by simpa using h2
   rw[List.contains_iff_mem, <- h2];exact List.getElem_mem h1
  rw[this]
  simp
 |none=>
  have:l.contains x=false:=by
   rw[List.findIdx?_eq_none_iff]at h
   rw[Bool.eq_false_iff];intro hc
   have:=h x (List.contains_iff_mem.1 hc)
   simp at this
  rw[this]
  simp
theorem Bl{α:Type}{l:List α}(h:l.length=2):∃a b,l=[a,b]:=by
 match l,h with
 |[a,b],_=>exact⟨a,b,rfl⟩
def twR(b:Bool)(x y:Tm):R:=if b=true then .ret [x.d,y.d]else .cc ow
theorem zK(x y:Tm):twR true x y= .ret [x.d,y.d]:=rfl
theorem tT(x y:Tm):twR false x y= .cc ow:=rfl
def me(p:Pg)(ops:List Int)(f:Pf)(env:List Tm)(e:Tm):Bool:=ops.contains e.op&&(f.kids.length==2&&(lu (f.kids.map (bc p)) 0 env (gr e 0)&&lu (f.kids.map (bc p)) 1 env (gr e 1)))
theorem rL{p:Pg}{f:Pf}(hf:mN p.sig f)(ih:∀k∈f.kids,BC p k){env:List Tm}(hv:da p.sig env){e:Tm}(he:cD p.sig env.length e)(ops:List Int)(ho:ops.length<=1000)(ho2:∀o∈ops,9<=o/\o<=15):
 aR Tryz.prog 226 [xp p env,e.d,f.d, .sl (ops.map .i)] (twR (me p ops f env e) (bu f.kids 0) (bu f.kids 1)):=by
 have FL:=hf.len
 have fC:=((Tm.aJ e).1 he.fits).1
 refine aR.ay mix SR au ?_
 rw[WM]
 refine aG ?_
 refine ag (Nb ops e.op ho) rfl ?_
 unfold me
 cases h1:ops.contains e.op with
 |false=>
  rw[Bool.false_and,tT]
  refine aG ?_
  refine bB a7 rfl ?_
  exact bR
 |true=>
 have ey:=ho2 e.op (List.contains_iff_mem.1 h1)
 have he2:=mP he.node1 ad ad
 rw[Bool.true_and]
 refine aG ?_
 refine ag bY rfl ?_
 refine aG ?_
 have hc:=rK f.kids e.kids ad fC hv ih (fun y hy=>he.gx ad ad hy)
 rw[he2]at hc
 by_cases h2:f.kids.length=2
 rotate_left
 ·have iR:(f.kids.length==2)=false:=by simpa using h2
  rw[iR,Bool.false_and,aV]at hc
  rw[iR,Bool.false_and,tT]
  refine bB hc rfl ?_
  exact bR
 have iR:(f.kids.length==2)=true:=by simpa using h2
 obtain⟨a,b,XN⟩:=Bl he2
 obtain⟨x,y,hxy⟩:=Bl h2
 have hx:f.kids[0]? =some x:=by rw[hxy];rfl
 have hy:f.kids[1]? =some y:=by rw[hxy];rfl
 have ha:e.kids[0]? =some a:=by rw[XN];rfl
 have hb:e.kids[1]? =some b:=by rw[XN];rfl
 have hz:((f.kids.zip e.kids).all fun x=>bc p x.1 env x.2)=(bc p x env a&&bc p y env b):=by rw[hxy,XN];simp
 rw[iR,Bool.true_and,hz]at hc
 rw[iR,Bool.true_and,lx hx,lx hy,eJ ha,eJ hb,bK hx,bK hy]
 cases g:(bc p x env a&&bc p y env b)with
 |false=>
  rw[g,aV]at hc
  rw[tT]
  refine bB hc rfl ?_
  exact bR
 |true=>
  rw[g,bL]at hc
  rw[zK]
  refine ag hc rfl ?_
  refine iT hx hy ?_
  refine ai aT ?_
  exact bR
theorem rM{p:Pg}{f:Pf}{env:List Tm}{e:Tm}(h:10<=f.bp/\f.bp<=14):bc p f env e=(f.kids.length==2&&kU f.bp e f.val (bu f.kids 0) (bu f.kids 1)&&(lu (f.kids.map (bc p)) 0 env (gr e 0)&&lu (f.kids.map (bc p)) 1 env (gr e 1))):=by
 rw[cT,jZ,if_neg (by omega),if_neg (by omega),if_neg (by omega),if_neg (by omega),if_neg (by omega),if_neg (by omega),if_neg (by omega),if_neg (by omega),if_neg (by omega),if_neg (by omega)]
theorem Nc{p:Pg}{f:Pf}(hf:mN p.sig f)(ih:∀k∈f.kids,BC p k){env:List Tm}(hv:da p.sig env){e:Tm}(he:cD p.sig env.length e)(r:f.bp=10):
 aR Tryz.prog 177 [xp p env,e.d,f.d] (xT (bc p f env e)):=by
 have ht:bc p f env e=(me p [9] f env e&&(aI (bu f.kids 0) (dT true)&&aI (bu f.kids 1) f.val)):=by
  rw[rM (by omega),r]
  have:kU 10 e f.val (bu f.kids 0) (bu f.kids 1)=(e.op==9&&(aI (bu f.kids 0) (dT true)&&aI (bu f.kids 1) f.val)):=rfl
  rw[this,me,List.contains_cons,List.contains_nil,Bool.or_false]
  ac_rfl
 have hc:=rL hf ih hv he [9] aT aT
 rw[ht]
 refine aR.ay mix Sp au ?_
 rw[Wk]
 refine aG ?_
 cases h1:me p [9] f env e with
 |false=>
  rw[h1,tT]at hc
  rw[Bool.false_and,aV]
  refine bB hc rfl ?_
  exact bR
 |true=>
 rw[h1,zK]at hc
 have h2:f.kids.length=2:=by
  exact J5
 obtain⟨x,hx⟩:=aw (l:=f.kids) (k:=0) ad
 obtain⟨y,hy⟩:=aw (l:=f.kids) (k:=1) ad
 have oV:=(hf.gx (List.mem_of_getElem? hx)).val
 have wZ:=(hf.gx (List.mem_of_getElem? hy)).val
 rw[bK hx,bK hy]at hc
 rw[bK hx,bK hy,Bool.true_and]
 refine aO hc ?_
 refine aG ?_
 refine aZ (kQ true) ?_
 refine aG ?_
 refine ao (cX _ oV.1.1 _ (dz true)) rfl ?_
 cases g1:aI x.val (dT true)with
 |false=>
  rw[Bool.false_and,aV]
  refine aG ?_
  refine aN a7 aH ?_
  refine aG ?_
  refine aY ⟨aT, ?_⟩
  exact jH
 |true=>
 rw[Bool.true_and]
 refine aG ?_
 refine ao (cX _ wZ.1.1 _ hf.val.1.1) rfl ?_
 cases g2:aI y.val f.val with
 |false=>
  rw[aV]
  refine aG ?_
  refine aN a7 aH ?_
  refine aG ?_
  refine aY ⟨aT, ?_⟩
  exact jH
 |true=>
 rw[bL]
 refine aG ?_
 refine ao bY rfl ?_
 refine aG ?_
 refine ai aT ?_
 exact bR
set_option maxHeartbeats 1000000 in
theorem Nd{p:Pg}{f:Pf}(hf:mN p.sig f)(ih:∀k∈f.kids,BC p k){env:List Tm}(hv:da p.sig env){e:Tm}(he:cD p.sig env.length e)(r:f.bp=11):
 aR Tryz.prog 178 [xp p env,e.d,f.d] (xT (bc p f env e)):=by
 have ht:bc p f env e=(me p [10] f env e&&(aI (bu f.kids 0) (dT true)&&aI (bu f.kids 1) (dT true)&&aI f.val (dT true))):=by
  rw[rM (by omega),r]
  have:kU 11 e f.val (bu f.kids 0) (bu f.kids 1)=(e.op==10&&(aI (bu f.kids 0) (dT true)&&aI (bu f.kids 1) (dT true)&&aI f.val (dT true))):=rfl
  rw[this,me]
  simp only[List.contains_cons,List.contains_nil,Bool.or_false]
  try rw[Bool.or_assoc]
  ac_rfl
 have hc:=rL hf ih hv he [10] aT aT
 rw[ht]
 refine aR.ay mix Sq au ?_
 rw[Wl]
 refine aG ?_
 cases h1:me p [10] f env e with
 |false=>
  rw[h1,tT]at hc
  rw[Bool.false_and,aV]
  refine bB hc rfl ?_
  exact bR
 |true=>
 rw[h1,zK]at hc
 have h2:f.kids.length=2:=by
  exact J5
 obtain⟨x,hx⟩:=aw (l:=f.kids) (k:=0) ad
 obtain⟨y,hy⟩:=aw (l:=f.kids) (k:=1) ad
 have oV:=(hf.gx (List.mem_of_getElem? hx)).val
 have wZ:=(hf.gx (List.mem_of_getElem? hy)).val
 rw[bK hx,bK hy]at hc
 rw[bK hx,bK hy,Bool.true_and]
 refine aO hc ?_
 refine aG ?_
 refine aZ (kQ true) ?_
 refine aG ?_
 refine ao (cX _ oV.1.1 _ (dz true)) rfl ?_
 cases g1:aI x.val (dT true)with
 |false=>
  rw[Bool.false_and,Bool.false_and,aV]
  refine aG ?_
  refine aN a7 aH ?_
  refine aG ?_
  refine aY ⟨aT, ?_⟩
  exact jH
 |true=>
 rw[Bool.true_and]
 refine aG ?_
 refine aZ (kQ true) ?_
 refine aG ?_
 refine ao (cX _ wZ.1.1 _ (dz true)) rfl ?_
 cases g2:aI y.val (dT true)with
 |false=>
  rw[Bool.false_and,aV]
  refine aG ?_
  refine aN a7 aH ?_
  refine aG ?_
  refine aY ⟨aT, ?_⟩
  exact jH
 |true=>
 rw[Bool.true_and]
 refine aG ?_
 refine aZ (kQ true) ?_
 refine aG ?_
 refine ao (cX _ hf.val.1.1 _ (dz true)) rfl ?_
 cases g3:aI f.val (dT true)with
 |false=>
  rw[aV]
  refine aG ?_
  refine aN a7 aH ?_
  refine aG ?_
  refine aY ⟨aT, ?_⟩
  exact jH
 |true=>
 rw[bL]
 refine aG ?_
 refine ao bY rfl ?_
 refine aG ?_
 refine ai aT ?_
 exact bR
set_option maxHeartbeats 1000000 in
theorem Jv{p:Pg}{f:Pf}(hf:mN p.sig f)(ih:∀k∈f.kids,BC p k){env:List Tm}(hv:da p.sig env){e:Tm}(he:cD p.sig env.length e)(r:f.bp=12):
 aR Tryz.prog 179 [xp p env,e.d,f.d] (xT (bc p f env e)):=by
 have ht:bc p f env e=(me p [11] f env e&&(aI (bu f.kids 0) (bu f.kids 1)&&b9 16 (bu f.kids 0)&&aI f.val (dT true))):=by
  rw[rM (by omega),r]
  have:kU 12 e f.val (bu f.kids 0) (bu f.kids 1)=(e.op==11&&(aI (bu f.kids 0) (bu f.kids 1)&&b9 16 (bu f.kids 0)&&aI f.val (dT true))):=rfl
  rw[this,me]
  simp only[List.contains_cons,List.contains_nil,Bool.or_false]
  try rw[Bool.or_assoc]
  ac_rfl
 have hc:=rL hf ih hv he [11] aT aT
 rw[ht]
 refine aR.ay mix Sr au ?_
 rw[Wm]
 refine aG ?_
 cases h1:me p [11] f env e with
 |false=>
  rw[h1,tT]at hc
  rw[Bool.false_and,aV]
  refine bB hc rfl ?_
  exact bR
 |true=>
 rw[h1,zK]at hc
 have h2:f.kids.length=2:=by
  exact J5
 obtain⟨x,hx⟩:=aw (l:=f.kids) (k:=0) ad
 obtain⟨y,hy⟩:=aw (l:=f.kids) (k:=1) ad
 have oV:=(hf.gx (List.mem_of_getElem? hx)).val
 have wZ:=(hf.gx (List.mem_of_getElem? hy)).val
 rw[bK hx,bK hy]at hc
 rw[bK hx,bK hy,Bool.true_and]
 refine aO hc ?_
 refine aG ?_
 refine ao (cX _ oV.1.1 _ wZ.1.1) rfl ?_
 cases g1:aI x.val y.val with
 |false=>
  rw[Bool.false_and,Bool.false_and,aV]
  refine aG ?_
  refine aN a7 aH ?_
  refine aG ?_
  refine aY ⟨aT, ?_⟩
  exact jH
 |true=>
 rw[Bool.true_and]
 refine aG ?_
 refine ao (wB _ oV.1.1 oV.1.2) rfl ?_
 have hk:decide (1<=Fl x.val)=b9 16 x.val:=by rw[Bool.eq_iff_iff,decide_eq_true_eq];exact(Fm x.val oV.1.2).2.1
 cases g2:b9 16 x.val with
 |false=>
  rw[g2]at hk
  rw[Bool.false_and,aV]
  refine cg hk ?_
  refine aN a7 aH ?_
  refine aG ?_
  refine aY ⟨aT, ?_⟩
  exact jH
 |true=>
 rw[g2]at hk
 rw[Bool.true_and]
 refine cg hk ?_
 refine aZ (kQ true) ?_
 refine aG ?_
 refine ao (cX _ hf.val.1.1 _ (dz true)) rfl ?_
 cases g3:aI f.val (dT true)with
 |false=>
  rw[aV]
  refine aG ?_
  refine aN a7 aH ?_
  refine aG ?_
  refine aY ⟨aT, ?_⟩
  exact jH
 |true=>
 rw[bL]
 refine aG ?_
 refine ao bY rfl ?_
 refine aG ?_
 refine ai aT ?_
 exact bR
set_option maxHeartbeats 1000000 in
theorem Nf{p:Pg}{f:Pf}(hf:mN p.sig f)(ih:∀k∈f.kids,BC p k){env:List Tm}(hv:da p.sig env){e:Tm}(he:cD p.sig env.length e)(r:f.bp=13):
 aR Tryz.prog 180 [xp p env,e.d,f.d] (xT (bc p f env e)):=by
 have ht:bc p f env e=(me p [12] f env e&&((b9 16 (bu f.kids 0)&&b9 1 (bu f.kids 0))&&(b9 16 (bu f.kids 1)&&b9 1 (bu f.kids 1))&&aI f.val (dT (aI (bu f.kids 0) (bu f.kids 1))))):=by
  rw[rM (by omega),r]
  have:kU 13 e f.val (bu f.kids 0) (bu f.kids 1)=(e.op==12&&((b9 16 (bu f.kids 0)&&b9 1 (bu f.kids 0))&&(b9 16 (bu f.kids 1)&&b9 1 (bu f.kids 1))&&aI f.val (dT (aI (bu f.kids 0) (bu f.kids 1))))):=rfl
  rw[this,me]
  simp only[List.contains_cons,List.contains_nil,Bool.or_false]
  try rw[Bool.or_assoc]
  ac_rfl
 have hc:=rL hf ih hv he [12] aT aT
 rw[ht]
 refine aR.ay mix Ss au ?_
 rw[Wn]
 refine aG ?_
 cases h1:me p [12] f env e with
 |false=>
  rw[h1,tT]at hc
  rw[Bool.false_and,aV]
  refine bB hc rfl ?_
  exact bR
 |true=>
 rw[h1,zK]at hc
 have h2:f.kids.length=2:=by
  exact J5
 obtain⟨x,hx⟩:=aw (l:=f.kids) (k:=0) ad
 obtain⟨y,hy⟩:=aw (l:=f.kids) (k:=1) ad
 have oV:=(hf.gx (List.mem_of_getElem? hx)).val
 have wZ:=(hf.gx (List.mem_of_getElem? hy)).val
 rw[bK hx,bK hy]at hc
 rw[bK hx,bK hy,Bool.true_and]
 refine aO hc ?_
 refine aG ?_
 have hg:∀z:Tm,Pn p.sig z->(Fl z==2)=(b9 16 z&&b9 1 z):=fun z hz=>by
  rw[Bool.eq_iff_iff,Bool.and_eq_true,beq_iff_eq];exact(Fm z hz).2.2
 have NI:=hg _ oV.1.2
 have s7:=hg _ wZ.1.2
 refine ao (wB _ oV.1.1 oV.1.2) rfl ?_
 cases g1:(b9 16 x.val&&b9 1 x.val)with
 |false=>
  rw[g1]at NI
  rw[Bool.false_and,Bool.false_and,aV]
  refine cg NI ?_
  refine aN a7 aH ?_
  refine aG ?_
  refine aY ⟨aT, ?_⟩
  exact jH
 |true=>
 rw[g1]at NI
 rw[Bool.true_and]
 refine cg NI ?_
 refine ao (wB _ wZ.1.1 wZ.1.2) rfl ?_
 cases g2:(b9 16 y.val&&b9 1 y.val)with
 |false=>
  rw[g2]at s7
  rw[Bool.false_and,aV]
  refine cg s7 ?_
  refine aN a7 aH ?_
  refine aG ?_
  refine aY ⟨aT, ?_⟩
  exact jH
 |true=>
 rw[g2]at s7
 rw[Bool.true_and]
 refine cg s7 ?_
 refine ao (cX _ oV.1.1 _ wZ.1.1) rfl ?_
 refine aG ?_
 refine aZ (kQ _) ?_
 refine aG ?_
 refine ao (cX _ hf.val.1.1 _ (dz _)) rfl ?_
 cases g3:aI f.val (dT (aI x.val y.val))with
 |false=>
  rw[aV]
  refine aG ?_
  refine aN a7 aH ?_
  refine aG ?_
  refine aY ⟨aT, ?_⟩
  exact jH
 |true=>
 rw[bL]
 refine aG ?_
 refine ao bY rfl ?_
 refine aG ?_
 refine ai aT ?_
 exact bR
set_option maxHeartbeats 1000000 in
theorem Qu{p:Pg}{f:Pf}(hf:mN p.sig f)(ih:∀k∈f.kids,BC p k){env:List Tm}(hv:da p.sig env){e:Tm}(he:cD p.sig env.length e)(r:f.bp=14):
 aR Tryz.prog 181 [xp p env,e.d,f.d] (xT (bc p f env e)):=by
 have ht:bc p f env e=(me p [13,14,15] f env e&&((bu f.kids 0).op==2&&(bu f.kids 1).op==2&&aI f.val (om e.op (bu f.kids 0).n (bu f.kids 1).n))):=by
  rw[rM (by omega),r]
  have:kU 14 e f.val (bu f.kids 0) (bu f.kids 1)=((e.op==13||e.op==14||e.op==15)&&((bu f.kids 0).op==2&&(bu f.kids 1).op==2&&aI f.val (om e.op (bu f.kids 0).n (bu f.kids 1).n))):=rfl
  rw[this,me]
  simp only[List.contains_cons,List.contains_nil,Bool.or_false]
  try rw[Bool.or_assoc]
  ac_rfl
 have hc:=rL hf ih hv he [13,14,15] aT aT
 rw[ht]
 refine aR.ay mix Su au ?_
 rw[Wo]
 refine aG ?_
 cases h1:me p [13,14,15] f env e with
 |false=>
  rw[h1,tT]at hc
  rw[Bool.false_and,aV]
  refine bB hc rfl ?_
  exact bR
 |true=>
 rw[h1,zK]at hc
 have h2:f.kids.length=2:=by
  exact J5
 obtain⟨x,hx⟩:=aw (l:=f.kids) (k:=0) ad
 obtain⟨y,hy⟩:=aw (l:=f.kids) (k:=1) ad
 have oV:=(hf.gx (List.mem_of_getElem? hx)).val
 have wZ:=(hf.gx (List.mem_of_getElem? hy)).val
 rw[bK hx,bK hy]at hc
 rw[bK hx,bK hy,Bool.true_and]
 refine aO hc ?_
 refine aG ?_
 have ey:e.op=13\/e.op=14\/e.op=15:=by
  unfold me at h1
  simp only[Bool.and_eq_true,List.contains_cons,List.contains_nil,Bool.or_eq_true,beq_iff_eq]at h1
  rcases h1.1 with h|h|h|h
  ·exact .inl h
  ·exact .inr (.inl h)
  ·exact .inr (.inr h)
  ·cases h
 by_cases g1:x.val.op=2
 rotate_left
 ·have xS:(x.val.op==2)=false:=by simpa using g1
  rw[xS,Bool.false_and,Bool.false_and,aV]
  refine cg xS ?_
  refine bB a7 rfl ?_
  exact bR
 have xS:(x.val.op==2)=true:=by simpa using g1
 rw[xS,Bool.true_and]
 by_cases g2:y.val.op=2
 rotate_left
 ·have JO:(y.val.op==2)=false:=by simpa using g2
  rw[JO,Bool.false_and,aV]
  refine s9 xS JO ?_
  refine bB a7 rfl ?_
  exact bR
 have JO:(y.val.op==2)=true:=by simpa using g2
 rw[JO,Bool.true_and]
 obtain⟨x0,x1⟩:=wY oV.1.2 g1
 obtain⟨y0,y1⟩:=wY wZ.1.2 g2
 refine s9 xS JO ?_
 refine ag bY rfl ?_
 refine aG ?_
 have hq:=cX _ hf.val.1.1 _ (zI e.op x.val.n y.val.n)
 rcases ey with h3|h3|h3
 ·have Qo:(e.op==15)=false:=by rw[h3];rfl
  have h14:(e.op==14)=false:=by rw[h3];rfl
  rw[Bj,if_neg (by omega),if_neg (by omega)]at hq
  refine s9 h14 Qo ?_
  refine ag hq rfl ?_
  cases g3:aI f.val (om e.op x.val.n y.val.n)with
  |false=>
   rw[aV]
   refine aG ?_
   refine bB a7 rfl ?_
   exact bR
  |true=>
   rw[bL]
   refine aG ?_
   refine ag bY rfl ?_
   exact bR
 ·have Qo:(e.op==15)=false:=by rw[h3];rfl
  have h14:(e.op==14)=true:=by rw[h3];rfl
  rw[Bj,if_neg (by omega),if_pos h3]at hq
  refine s9 h14 Qo ?_
  refine ag hq rfl ?_
  cases g3:aI f.val (om e.op x.val.n y.val.n)with
  |false=>
   rw[aV]
   refine aG ?_
   refine bB a7 rfl ?_
   exact bR
  |true=>
   rw[bL]
   refine aG ?_
   refine ag bY rfl ?_
   exact bR
 ·have Qo:(e.op==15)=true:=by rw[h3];rfl
  rw[Bj,if_pos h3]at hq
  refine cg Qo ?_
  refine aZ (kQ _) ?_
  refine aG ?_
  refine ao hq rfl ?_
  cases g3:aI f.val (om e.op x.val.n y.val.n)with
  |false=>
   rw[aV]
   refine aG ?_
   refine aN a7 aH ?_
   refine aG ?_
   refine aY ⟨aT, ?_⟩
   exact jH
  |true=>
   rw[bL]
   refine aG ?_
   refine ao bY rfl ?_
   refine aG ?_
   refine ai aT ?_
   exact bR
def XO(p:Pg)(f:Pf):Prop:=∀env e,da p.sig env->cD p.sig env.length e->aR Tryz.prog 62 [p.d, .sl (env.map Tm.d),e.d,f.d] (.ret [.bool (bc p f env e)])
theorem lJ{p:Pg}{l:List Pf}{i:Nat}{x:Pf}(h:l[i]? =some x):lu (l.map (bc p)) i=bc p x:=by unfold lu;rw[List.getElem?_map,h];rfl
theorem Bm(p:Pg)(l:List Pf)(env es:List Tm):ni (l.map (bc p)) env es=(l.length==es.length&&(l.zip es).all fun x=>bc p x.1 env x.2):=by
 unfold ni
 rw[List.length_map,List.zip_map_left,List.all_map]
 rfl
theorem uR{α β:Type}{l:List α}{m:List β}{k:Nat}{x:α}{y:β}(hx:l[k]? =some x)(hy:m[k]? =some y):(l.zip m)[k]? =some (x,y):=by rw[List.getElem?_zip_eq_some];exact⟨hx,hy⟩
@[reducible] def Ts (a b c:List V):Nat->ae:=aK (aK (aK (fun _=> .no) 0 (.row a)) 1 (.row b)) 2 (.row c)
set_option maxHeartbeats 1000000 in
theorem D1{p:Pg}{f:Pf}(hf:mN p.sig f)(ih:∀k∈f.kids,XO p k){env:List Tm}(hv:da p.sig env){e:Tm}(he:cD p.sig env.length e)(ey:e.op=3\/e.op=5):
 aR Tryz.prog 104 [p.d, .sl (env.map Tm.d),e.d,f.d] (.ret [.bool (aI f.val (.mk e.op e.n (f.kids.map Pf.val))&&ni (f.kids.map (bc p)) env e.kids)]):=by
 have FL:=hf.len
 have fC:=((Tm.aJ e).1 he.fits).1
 have M7:=hf.val.1.1
 have Yc:(Tm.mk e.op e.n (f.kids.map Pf.val)).fits:=by
  rw[Tm.aJ]
  refine⟨by simp only[Tm.kids,List.length_map];omega,fun k hk=> ?_⟩
  simp only[Tm.kids]at hk
  obtain⟨x,hx,rfl⟩:=List.mem_map.1 hk
  exact(hf.gx hx).val.1.1
 have Lk:D.agg [.i e.op, .i e.n, .sl ((f.kids.map Pf.val).map Tm.d)]=(Tm.mk e.op e.n (f.kids.map Pf.val)).d:=(Tm.lH _ _ _).symm
 refine aR.ay mix aa2 au ?_
 rw[aa1,Bm]
 by_cases hl:f.kids.length=e.kids.length
 rotate_left
 ·have jy:((f.kids.length:Int)!=e.kids.length)=true:=by simp;omega
  have oT:(f.kids.length==e.kids.length)=false:=by simpa using hl
  refine dn jy ?_
  refine ai (ak rfl) ?_
  refine aG ?_
  rw[oT];simp
 have jy:((f.kids.length:Int)!=e.kids.length)=false:=by simp;omega
 have oT:(f.kids.length==e.kids.length)=true:=by simpa using hl
 rw[oT,Bool.true_and]
 refine dn jy ?_
 refine aZ (Qh f.kids ad) ?_
 refine dn jy ?_
 rw[Lk]
 refine ao (ei _ M7 _ Yc) rfl ?_
 cases g1:aI f.val (.mk e.op e.n (f.kids.map Pf.val))with
 |false=>
  refine dn jy ?_
  refine ai (ak rfl) ?_
  exact bR
 |true=>
 refine dn jy ?_
 refine ai (ak rfl) ?_
 refine aG ?_
 refine aE (fun k:Nat=>⟨bz [.aa, .d (.sl (env.map Tm.d)), .aa, .aa, .ptr 0 0, .aa, .ptr 1 0, .ptr 2 0, .aa, .d (.i k)],Ts p.row e.row f.row,3⟩)
  (fun k=>k<=f.kids.length/\((f.kids.zip e.kids).take k).all (fun x=>bc p x.1 env x.2)=true) (fun k=>f.kids.length - k) 0 ⟨Nat.zero_le _,au⟩ (bE.bS _ ad ad dp (fun j hj=>rfl) ?_) (fun k hk=> ?_)
 ·exact cz
 refine fT ?_
 refine aq (fun h2=> ?_) (fun h2=> ?_)
 ·simp at h2
  obtain⟨x,hx⟩:=aw h2
  obtain⟨y,hy⟩:=aw (l:=e.kids) (k:=k) ad
  have cw:=List.mem_of_getElem? hx
  have sO:=List.mem_of_getElem? hy
  have hz:=uR hx hy
  refine iT hx hy ?_
  refine ao (ih x cw env y hv (he.gx ad ad sO)) rfl ?_
  cases g2:bc p x env y with
  |false=>
   refine iT hx hy ?_
   refine ai (ak rfl) ?_
   refine aG ?_
   rw[b8 hz g2]
  |true=>
  refine iT hx hy ?_
  refine ai (ak rfl) ?_
  refine aG ?_
  refine ax (k+1) ⟨h2,cl hz hk.2 g2⟩ ad (bE.bS _ ad ad dp (fun j hj=>rfl) ?_)
  exact cz
 ·simp at h2
  refine aG ?_
  rw[cm hk.2 (by rw[List.length_zip];omega)]
theorem Ng{p:Pg}{f:Pf}(hf:mN p.sig f)(ih:∀k∈f.kids,XO p k){env:List Tm}(hv:da p.sig env){e:Tm}(he:cD p.sig env.length e):
 aR Tryz.prog 106 [p.d, .sl (env.map Tm.d),e.d,f.d] (.ret [.bool (f.kids.length==1&&aI (bu f.kids 0) f.val&&lu (f.kids.map (bc p)) 0 env e)]):=by
 have FL:=hf.len
 refine aR.ay mix aa6 au ?_
 rw[aa5]
 by_cases hl:f.kids.length=1
 rotate_left
 ·have jy:((f.kids.length:Int)==1)=false:=by simp;omega
  have oT:(f.kids.length==1)=false:=by simpa using hl
  refine dn jy ?_
  refine ai (ak rfl) ?_
  refine aG ?_
  rw[oT];rfl
 have jy:((f.kids.length:Int)==1)=true:=by simp;omega
 have oT:(f.kids.length==1)=true:=by simpa using hl
 obtain⟨x,hx⟩:=aw (l:=f.kids) (k:=0) ad
 have cw:=List.mem_of_getElem? hx
 rw[bK hx,lJ hx,oT,Bool.true_and]
 refine iT jy hx ?_
 refine ao (ei _ (hf.gx cw).val.1.1 _ hf.val.1.1) rfl ?_
 cases g1:aI x.val f.val with
 |false=>
  refine iT jy hx ?_
  refine ai (ak rfl) ?_
  exact bR
 |true=>
 refine iT jy hx ?_
 refine ao (ih x cw env e hv he) rfl ?_
 refine iT jy hx ?_
 refine ai (ak rfl) ?_
 exact bR
theorem Qv{p:Pg}{f:Pf}(hf:mN p.sig f)(ih:∀k∈f.kids,XO p k){env:List Tm}(hv:da p.sig env){e:Tm}(he:cD p.sig env.length e)(ey:e.op=8):
 aR Tryz.prog 107 [p.d, .sl (env.map Tm.d),e.d,f.d] (.ret [.bool (f.kids.length==2&&aI (bu f.kids 1) f.val&&lu (f.kids.map (bc p)) 0 env (gr e 0)&&lu (f.kids.map (bc p)) 1 (jE env e.n (bu f.kids 0)) (gr e 1))]):=by
 have FL:=hf.len
 have hn:=he.node1
 simp[bC,ey,cP]at hn
 refine aR.ay mix aa8 au ?_
 rw[aa7]
 by_cases hl:f.kids.length=2
 rotate_left
 ·have jy:((f.kids.length:Int)!=2)=true:=by simp;omega
  have oT:(f.kids.length==2)=false:=by simpa using hl
  refine dn jy ?_
  refine ai (ak rfl) ?_
  refine aG ?_
  rw[oT];rfl
 have jy:((f.kids.length:Int)!=2)=false:=by simp;omega
 have oT:(f.kids.length==2)=true:=by simpa using hl
 obtain⟨x,hx⟩:=aw (l:=f.kids) (k:=0) ad
 obtain⟨y,hy⟩:=aw (l:=f.kids) (k:=1) ad
 obtain⟨a,ha⟩:=aw (l:=e.kids) (k:=0) ad
 obtain⟨b,hb⟩:=aw (l:=e.kids) (k:=1) ad
 have cw:=List.mem_of_getElem? hx
 have sO:=List.mem_of_getElem? hy
 rw[bK hx,bK hy,lJ hx,lJ hy,eJ ha,eJ hb,oT,Bool.true_and]
 refine qo jy hx hy ?_
 refine ao (ei _ (hf.gx sO).val.1.1 _ hf.val.1.1) rfl ?_
 cases g1:aI y.val f.val with
 |false=>
  refine qo jy hx hy ?_
  refine ai (ak rfl) ?_
  exact bR
 |true=>
 refine qo jy hx hy ?_
 refine ai (ak rfl) ?_
 refine zN jy hx hy ha hb ?_
 refine ao (ih x cw env a hv (he.ac2 ey ha)) rfl ?_
 cases g2:bc p x env a with
 |false=>
  refine qo jy hx hy ?_
  refine ai (ak rfl) ?_
  exact bR
 |true=>
 have Oz:=hv.len
 have hwo:da p.sig (jE env e.n x.val):=DI hv ad (hf.gx cw).val.1
 have ZC:(jE env e.n x.val).length=max env.length (e.n.toNat+1):=sZ _ _ _
 refine zN jy hx hy ha hb ?_
 refine aZ (Qn env ad e.n ad ad x.val) ?_
 refine zN jy hx hy ha hb ?_
 refine ao (ih y sO _ b hwo (he.ac3 ey hb ad ad)) rfl ?_
 refine zN jy hx hy ha hb ?_
 refine ai (ak rfl) ?_
 exact bR
theorem xa:∀ {l:List jW} {b B:List (List UInt8)},cC l b=some B->∀x∈l,0<=x.args/\x.args<=4
 |[],_,_,_=>au
 |y::l,b,B,h=>by
  simp only[cC]at h
  split at h
  ·cases h
  ·split at h
   ·cases h
   ·rename_i h2
    intro x hx
    rcases List.mem_cons.1 hx with e|e
    ·subst e
     simp[cP]at h2
     exact⟨h2.2.1,h2.2.2⟩
    ·exact xa h x e
theorem rN{s:ba}(h:kF s=true):∀x∈s.bZ,0<=x.args/\x.args<=4:=by
 unfold kF at h
 split at h
 ·cases h
 ·split at h
  ·split at h
   ·cases h
   ·split at h
    ·cases h
    ·rename_i l _
     cases h2:cC s.bZ l with
     |none=>rw[h2]at h;cases h
     |some B=>exact xa h2
  ·cases h
theorem iM.sg {p:Pg}(h:iM p):kF p.sig=true:=by
 have:=h.is;simp only[fe,Bool.and_eq_true]at this;exact this.1.1
theorem Hg{s:ba}{g:Tm}(h:Pn s g)(h5:g.op=5):0<=g.n/\∃x,s.bZ[g.n.toNat]? =some x/\(g.kids.length:Int)<x.args:=by
 have:=(wx.1 h).1
 simp[mG,h5]at this
 obtain⟨h1,h2⟩:=this
 obtain⟨h0,x,hx⟩:=gK h1
 rw[fl hx]at h2
 exact⟨h0,x,hx,h2⟩
theorem D2{s:ba}{f:Int}{x:jW}(h0:0<=f)(hx:s.bZ[f.toNat]? =some x)(a0:0<=x.args)(a4:x.args<=4){n:Nat}(hn:(n:Int)=x.args):cD s n (lr s f):=by
 have e:lr s f= .mk 4 f (iO x.args.toNat):=by unfold lr;rw[fl hx];rfl
 have hl:f.toNat<s.bZ.length:=(List.getElem?_eq_some_iff.1 hx).1
 have hm:∀k∈iO x.args.toNat,∃i:Nat,(i:Int)<x.args/\k= .mk 1 (i:Int) []:=fun k hk=>by
  obtain⟨i,hi,rfl⟩:=List.mem_map.1 hk
  have:=List.mem_range.1 hi
  exact⟨i,ad,rfl⟩
 rw[e]
 refine⟨?_, ?_,fun v hv=> ?_⟩
 ·rw[Tm.aJ]
  refine⟨by simp[Tm.kids,iO];omega,fun k hk=> ?_⟩
  obtain⟨i,_,rfl⟩:=hm k hk
  simp[Tm.fits,Tm.jB]
 ·rw[dL,Bool.and_eq_true,List.all_eq_true]
  refine⟨?_,fun k hk=> ?_⟩
  ·have e1:(iO x.args.toNat).length=x.args.toNat:=by simp[iO]
   simp[bC,Tm.op,Tm.kids,Tm.n,cP,e1,fl hx,show f<=(s.bZ.length:Int) - 1 by omega,h0,Int.toNat_of_nonneg a0]
  ·obtain⟨i,hi,rfl⟩:=hm k hk
   rw[dL]
   simp[bC,Tm.op,Tm.kids,Tm.n,cP,show(i:Int)<=19 by omega]
 ·rw[gV,if_neg (by simp[Tm.op])]at hv
  have key:∀ (l:List Tm) (j:Nat),(∀k∈l,∃i:Nat,(i:Int)<x.args/\k= .mk 1 (i:Int) [])->iu v 4 f l j=true->0<=v/\v<x.args:=by
   intro l
   induction l with
   |nil=>intro j _ h;simp[iu]at h
   |cons k l ih=>
    intro j hk h
    simp only[iu,Bool.or_eq_true,Bool.and_eq_true]at h
    rcases h with⟨h,_⟩|h
    ·obtain⟨i,hi,rfl⟩:=hk k au
     have h:(i:Int)=v:=by simpa[gV,Tm.n,Tm.op]using h
     omega
    ·exact ih _ (fun y hy=>hk y BI) h
  have:=key _ _ hm hv
  omega
set_option maxHeartbeats 1000000 in
theorem FN{p:Pg}(hp:iM p){f:Pf}(hf:mN p.sig f)(ih:∀k∈f.kids,XO p k){env:List Tm}(hv:da p.sig env){e:Tm}(he:cD p.sig env.length e)(ey:e.op=6):
 aR Tryz.prog 108 [p.d, .sl (env.map Tm.d),e.d,f.d] (.ret [.bool ((f.kids.length==2||f.kids.length==3)&&(lu (f.kids.map (bc p)) 0 env (gr e 0)&&lu (f.kids.map (bc p)) 1 env (gr e 1)&&(bu f.kids 0).op==5)&&
  (if((bu f.kids 0).kids.length:Int)+1<dq p.sig.bZ (bu f.kids 0).n then f.kids.length==2&&aI f.val (.mk 5 (bu f.kids 0).n ((bu f.kids 0).kids++[bu f.kids 1]))
   else f.kids.length==3&&aI (bu f.kids 2) f.val&&lu (f.kids.map (bc p)) 2 ((bu f.kids 0).kids++[bu f.kids 1]) (lr p.sig (bu f.kids 0).n)))]):=by
 have FL:=hf.len
 have hn:=he.node1
 simp[bC,ey,cP]at hn
 refine aR.ay mix aba au ?_
 rw[aa9]
 refine fT ?_
 refine ao (wz _ _ _) rfl ?_
 by_cases hl:f.kids.length=2\/f.kids.length=3
 rotate_left
 ·have jy:cP (f.kids.length:Int) 2 3=false:=by simp[cP];omega
  have oT:(f.kids.length==2||f.kids.length==3)=false:=by simpa using hl
  rw[jy,oT]
  refine fT ?_
  refine ai (ak rfl) ?_
  exact bR
 have jy:cP (f.kids.length:Int) 2 3=true:=by simp[cP];omega
 have oT:(f.kids.length==2||f.kids.length==3)=true:=by simpa using hl
 obtain⟨x,hx⟩:=aw (l:=f.kids) (k:=0) ad
 obtain⟨y,hy⟩:=aw (l:=f.kids) (k:=1) ad
 obtain⟨a,ha⟩:=aw (l:=e.kids) (k:=0) ad
 obtain⟨b,hb⟩:=aw (l:=e.kids) (k:=1) ad
 have cw:=List.mem_of_getElem? hx
 have sO:=List.mem_of_getElem? hy
 have oV:=(hf.gx cw).val
 have wZ:=(hf.gx sO).val
 rw[jy,oT,bK hx,bK hy,lJ hx,lJ hy,eJ ha,eJ hb,Bool.true_and]
 refine FR hx hy ha hb ?_
 refine ao (ih x cw env a hv (he.gx ad ad (List.mem_of_getElem? ha))) rfl ?_
 cases g1:bc p x env a with
 |false=>
  refine iT hx hy ?_
  refine ai (ak rfl) ?_
  exact bR
 |true=>
 refine FR hx hy ha hb ?_
 refine ao (ih y sO env b hv (he.gx ad ad (List.mem_of_getElem? hb))) rfl ?_
 cases g2:bc p y env b with
 |false=>
  refine iT hx hy ?_
  refine ai (ak rfl) ?_
  exact bR
 |true=>
 refine FR hx hy ha hb ?_
 refine ai (ak rfl) ?_
 refine FR hx hy ha hb ?_
 by_cases h5:x.val.op=5
 rotate_left
 ·have xh:(x.val.op !=5)=true:=by simpa using h5
  have XP:(x.val.op==5)=false:=by simpa using h5
  exact JY xh XP
 have xh:(x.val.op !=5)=false:=by simpa using h5
 have XP:(x.val.op==5)=true:=by simpa using h5
 obtain⟨n0,w,hw,db⟩:=Hg oV.1.2 h5
 have hwa:=rN hp.sg w (List.mem_of_getElem? hw)
 have b1:x.val.kids.length<=140737488355328:=ad
 have b2:x.val.kids.length*24<=140737488355328:=ad
 have Eb:da p.sig (x.val.kids++[y.val]):=⟨by simp;omega,fun t ht=>by
  rcases List.mem_append.1 ht with h|h
  ·exact oV.1.gx h
  ·simp at h;subst h;exact wZ.1⟩
 rw[XP,fl hw]
 refine zN hx hy xh b1 b2 ?_
 refine ai aT ?_
 have e1:(x.val.kids.length:Int)+1=((x.val.kids.length+1:Nat):Int):=ad
 by_cases hc:(x.val.kids.length:Int)+1<w.args
 ·have qn:decide (((x.val.kids.length+1:Nat):Int)<w.args)=true:=by simpa using hc
  rw[if_pos hc]
  by_cases hk:f.kids.length=2
  rotate_left
  ·have ql:((f.kids.length:Int)==2)=false:=by simp;omega
   have s7:(f.kids.length==2)=false:=by simpa using hk
   simp+contextual (disch:=first|omega|simp only[go_sem,false_implies]) only[go_sem,wrap64,if_pos,List.length_map,hx,hy,hw,n0,qn,List.length_append,ql,s7]
  have ql:((f.kids.length:Int)==2)=true:=by simp;omega
  have s7:(f.kids.length==2)=true:=by simpa using hk
  have Yc:(Tm.mk 5 x.val.n (x.val.kids++[y.val])).fits:=by
   rw[Tm.aJ]
   exact⟨by show(x.val.kids++[y.val]).length<=_;rw[List.length_append,List.length_singleton];omega,fun k hk=>(Eb.all k hk).1⟩
  have hs:=ei _ hf.val.1.1 _ Yc
  rw[Tm.lH 5,List.map_append]at hs
  simp+contextual (disch:=first|omega|simp only[go_sem,false_implies]) only[go_sem,wrap64,if_pos,List.length_map,hx,hy,hw,n0,qn,List.length_append,ql,s7]
  refine ag hs rfl ?_
  simp+contextual (disch:=first|omega|simp only[go_sem,false_implies]) only[go_sem,wrap64,if_pos,List.length_map,hx,hy,hw,n0,qn,List.length_append,ql,s7]
 ·have qn:decide (((x.val.kids.length+1:Nat):Int)<w.args)=false:=by simpa using hc
  rw[if_neg hc]
  by_cases hk:f.kids.length=3
  rotate_left
  ·have ql:((f.kids.length:Int)==3)=false:=by simp;omega
   have s7:(f.kids.length==3)=false:=by simpa using hk
   simp+contextual (disch:=first|omega|simp only[go_sem,false_implies]) only[go_sem,wrap64,if_pos,List.length_map,hx,hy,hw,n0,qn,List.length_append,ql,s7]
   refine ai (ak rfl) ?_
   refine aG ?_
   rw[s7];rfl
  have ql:((f.kids.length:Int)==3)=true:=by simp;omega
  have s7:(f.kids.length==3)=true:=by simpa using hk
  obtain⟨z,hz⟩:=aw (l:=f.kids) (k:=2) ad
  have Nh:=List.mem_of_getElem? hz
  rw[bK hz,lJ hz]
  refine JW hx hy hz hw n0 qn ql s7 ?_
  refine ao (ei _ (hf.gx Nh).val.1.1 _ hf.val.1.1) rfl ?_
  cases g3:aI z.val f.val with
  |false=>
   refine JW hx hy hz hw n0 qn ql s7 ?_
   refine ai (ak rfl) ?_
   exact bR
  |true=>
  refine JW hx hy hz hw n0 qn ql s7 ?_
  refine aZ (Jl p x.val.n w n0 hw ad ad) ?_
  refine JW hx hy hz hw n0 qn ql s7 ?_
  have hr:=ih z Nh (x.val.kids++[y.val]) _ Eb (D2 (s:=p.sig) n0 hw ad ad (by simp only[List.length_append,List.length_singleton];omega))
  rw[List.map_append]at hr
  refine ao hr rfl ?_
  refine JW hx hy hz hw n0 qn ql s7 ?_
  refine ai (ak rfl) ?_
  refine aG ?_
  rw[s7];rfl
theorem Qw(p:Pg)(hl:p.rules.length<=1000)(n:Int):aR Tryz.prog 144 [p.d, .i n] (.ret [.bool (cP n 0 ((p.rules.length:Int) - 1))]):=by
 refine aR.ay mix abJ au ?_
 rw[abI]
 refine fT ?_
 refine ag (ac9 _ _ _) rfl ?_
 exact bR
theorem Ni{s:ba}{t:Tm}(h:eI s t=true):∀x∈iV t,bC s x=true:=by
 have key:∀t:Tm,eI s t=true->∀x∈iV t,bC s x=true:=by
  refine Tm.cB fun t ih h x hx=> ?_
  rw[dL,Bool.and_eq_true,List.all_eq_true]at h
  rw[mH]at hx
  rcases List.mem_cons.1 hx with e|e
  ·rw[e];exact h.1
  ·obtain⟨k,hk,hx⟩:=List.mem_flatMap.1 e
   exact ih k hk (h.2 k hk) x hx
 exact key t h
theorem oo.fill {s:ba}{r:Rl}(h:oo s r){q:Tm}(hq:q∈r.bf){n:Nat}(hn:(n:Int)=r.vars):s5 n q:=by
 obtain⟨h1,_,_,h4⟩:=h.bf q hq
 intro x hx ho
 have a:=Ni (jo h1) x hx
 simp[bC,ho,cP]at a
 have b:=(qd r.vars q).1 h4 x hx (.inl ho)
 omega
def D3(ks:List Pf)(ps b:List Tm)(m:Nat):Bool:=aI (.mk 0 0 ((ks.take m).map Pf.val)) (.mk 0 0 (ps.map (eS b)))
theorem D4(ks:List Pf)(ps b:List Tm)(m:Nat)(hk:m<=ks.length)(hp:ps.length=m):D3 ks ps b m=((ks.take m).zip ps).all fun x=>aI x.1.val (eS b x.2):=by
 subst hp
 unfold D3
 rw[Bool.eq_iff_iff,im,List.all_eq_true]
 have e:(Tm.mk 0 0 ((ks.take ps.length).map Pf.val)= .mk 0 0 (ps.map (eS b)))↔(ks.take ps.length).map Pf.val=ps.map (eS b):=⟨fun h=>by injection h,fun h=>by rw[h]⟩
 rw[e]
 have key:∀ (a:List Pf) (c:List Tm),a.length=c.length->(a.map Pf.val=c.map (eS b)↔∀x∈a.zip c,aI x.1.val (eS b x.2)=true):=by
  intro a
  induction a with
  |nil=>intro c h;have:c=[]:=List.length_eq_zero_iff.1 h.symm;subst this;simp
  |cons x a ih=>
   intro c h
   cases c with
   |nil=>simp at h
   |cons y c=>
    simp only[List.map_cons,List.cons.injEq,List.zip_cons_cons,List.mem_cons,forall_eq_or_imp,im]
    rw[ih c (by simpa using h)]
    simp only[im]
 exact key _ _ (by rw[List.length_take];omega)
theorem zL{l:List Tm}(hl:∀t∈l,t.fits):∀t:Tm,t.fits->(eS l t).fits:=by
 refine Tm.cB fun t ih hf=> ?_
 have fy:=(Tm.aJ _).1 hf
 rw[rE]
 split
 ·cases h:l[t.n.toNat]? with
  |none=>exact(Bg ⟨[],[]⟩).1
  |some x=>exact hl x (List.mem_of_getElem? h)
 ·rw[Tm.aJ]
  refine⟨by simp only[Tm.kids,List.length_map];exact fy.1,fun k hk=> ?_⟩
  simp only[Tm.kids]at hk
  obtain⟨y,hy,rfl⟩:=List.mem_map.1 hk
  exact ih y hy (fy.2 y hy)
def kR(p:Pg)(f:Pf)(env:List Tm)(e:Tm):Bool:=decide (0<=f.num)&&match p.rules[f.num.toNat]? with
    |none=>false
    |some ru=>(ru.fn==e.n&&(f.binds.length:Int)==ru.vars&&f.kids.length==e.kids.length+1&&f.val.op !=16&&aI (bu f.kids e.kids.length) f.val)&&
     (D3 f.kids ru.bf f.binds e.kids.length&&ni ((f.kids.map (bc p)).take e.kids.length) env e.kids&&lu (f.kids.map (bc p)) e.kids.length (nh ru f.binds) ru.rhs)
set_option maxHeartbeats 1000000 in
theorem Nj{p:Pg}(hp:iM p)(hw:p.Fw){f:Pf}(hf:mN p.sig f)(ih:∀k∈f.kids,XO p k){env:List Tm}(hv:da p.sig env){e:Tm}(he:cD p.sig env.length e)(ey:e.op=4):
 aR Tryz.prog 105 [p.d, .sl (env.map Tm.d),e.d,f.d] (.ret [.bool (kR p f env e)]):=by
 have FL:=hf.len
 have BJ:=hw.len
 have fC:=((Tm.aJ e).1 he.fits).1
 have x5:=hf.env.len
 refine aR.ay mix aa4 au ?_
 rw[aa3]
 refine fT ?_
 refine ao (Qw p BJ f.num) rfl ?_
 cases f1:cP f.num 0 ((p.rules.length:Int) - 1)with
 |false=>
  have hc:kR p f env e=false:=by
   simp only[cP,Bool.and_eq_false_iff,decide_eq_false_iff_not]at f1
   unfold kR
   by_cases h:0<=f.num
   ·rw[List.getElem?_eq_none (by omega:p.rules.length<=f.num.toNat)];simp
   ·exact Ud
  refine fT ?_
  refine ai (ak rfl) ?_
  refine aG ?_
  rw[hc]
 |true=>
 have Mn:0<=f.num/\f.num<=(p.rules.length:Int) - 1:=by simpa[cP]using f1
 obtain⟨n0,n1⟩:=Mn
 obtain⟨ru,Nk⟩:=aw (l:=p.rules) (k:=f.num.toNat) ad
 have hrm:=List.mem_of_getElem? Nk
 have ho:=hp.rl hrm
 obtain⟨hfw,VG,hrz⟩:=hw.all ru hrm
 have XQ:kR p f env e=((ru.fn==e.n&&(f.binds.length:Int)==ru.vars&&f.kids.length==e.kids.length+1&&f.val.op !=16&&aI (bu f.kids e.kids.length) f.val)&&
  (D3 f.kids ru.bf f.binds e.kids.length&&ni ((f.kids.map (bc p)).take e.kids.length) env e.kids&&lu (f.kids.map (bc p)) e.kids.length (nh ru f.binds) ru.rhs)):=by
  unfold kR;rw[Nk,decide_eq_true n0];rfl
 rw[XQ]
 by_cases f2:ru.fn=e.n
 rotate_left
 ·have xm:(ru.fn !=e.n)=true:=by simpa using f2
  have Nl:(ru.fn==e.n)=false:=by simpa using f2
  refine qo Nk n0 xm ?_
  refine ai (ak rfl) ?_
  refine aG ?_
  rw[Nl];rfl
 have xm:(ru.fn !=e.n)=false:=by simpa using f2
 have Nl:(ru.fn==e.n)=true:=by simpa using f2
 by_cases f3:(f.binds.length:Int)=ru.vars
 rotate_left
 ·have A9:((f.binds.length:Int)!=ru.vars)=true:=by simpa using f3
  have Qx:((f.binds.length:Int)==ru.vars)=false:=by simpa using f3
  refine FR Nk n0 xm A9 ?_
  refine ai (ak rfl) ?_
  refine aG ?_
  rw[Nl,Qx];rfl
 have A9:((f.binds.length:Int)!=ru.vars)=false:=by simpa using f3
 have Qx:((f.binds.length:Int)==ru.vars)=true:=by simpa using f3
 obtain⟨fx,hfx,B7⟩:=ho.fn
 have ae9:=rN hp.sg fx (List.mem_of_getElem? hfx)
 have Eh:=he.node1
 have F0:ru.bf.length=e.kids.length:=by
  simp[bC,ey]at Eh
  have h2:=Eh.2
  rw[dq, <- f2,hfx]at h2
  dsimp only at h2
  omega
 by_cases f4:f.kids.length=e.kids.length+1
 rotate_left
 ·have I1:((f.kids.length:Int)!=(e.kids.length:Int)+1)=true:=by simp;omega
  have Jw:(f.kids.length==e.kids.length+1)=false:=by simpa using f4
  refine zN Nk n0 xm A9 I1 ?_
  refine ai (ak rfl) ?_
  refine aG ?_
  rw[Nl,Qx,Jw];rfl
 have I1:((f.kids.length:Int)!=(e.kids.length:Int)+1)=false:=by simp;omega
 have Jw:(f.kids.length==e.kids.length+1)=true:=by simpa using f4
 obtain⟨z,hz⟩:=aw (l:=f.kids) (k:=e.kids.length) ad
 have Nh:=List.mem_of_getElem? hz
 rw[Nl,Qx,Jw,bK hz,lJ hz,D4 _ _ _ _ (by omega) F0, <- List.map_take,Bm]
 simp+contextual (disch:=first|omega|simp only[go_sem,false_implies]) only[go_sem,wrap64,if_pos,List.length_map,Nk,n0,xm,A9,I1,hz]
 refine ai (ak rfl) ?_
 refine qo Nk n0 hz ?_
 refine ai aT ?_
 refine aG ?_
 have wU:(f.kids.take e.kids.length).length=e.kids.length:=by rw[List.length_take];omega
 have iE:∀ {k:Nat} {x:Pf},k<e.kids.length->f.kids[k]? =some x->(f.kids.take e.kids.length)[k]? =some x:=fun h1 h2=>by rw[List.getElem?_take_of_lt h1];exact h2
 refine aE (fun k:Nat=>⟨bz [.aa, .d (.sl (env.map Tm.d)), .aa, .aa, .ptr 0 0, .aa, .ptr 1 0, .ptr 2 0, .aa, .ptr 57 0, .ptr 58 0, .d (.i k)],aK (aK (Ts p.row e.row f.row) 57 (.row ru.row)) 58 (.row z.row),61⟩)
  (fun k=>k<=e.kids.length/\(((f.kids.take e.kids.length).zip ru.bf).take k).all (fun x=>aI x.1.val (eS f.binds x.2))=true/\(((f.kids.take e.kids.length).zip e.kids).take k).all (fun x=>bc p x.1 env x.2)=true) (fun k=>e.kids.length - k) 0 ⟨Nat.zero_le _,au,au⟩ (bE.bS _ ad ad dp (fun j hj=>rY) ?_) (fun k hk=> ?_)
 ·exact cz
 refine fT ?_
 refine aq (fun h2=> ?_) (fun h2=> ?_)
 ·simp at h2
  obtain⟨x,hx⟩:=aw (l:=f.kids) (k:=k) ad
  obtain⟨y,hy⟩:=aw (l:=e.kids) (k:=k) ad
  obtain⟨q,hq⟩:=aw (l:=ru.bf) (k:=k) ad
  have cw:=List.mem_of_getElem? hx
  have sO:=List.mem_of_getElem? hy
  have hqm:=List.mem_of_getElem? hq
  have hz1:=uR (iE h2 hx) hq
  have hz2:=uR (iE h2 hx) hy
  have hqf:=hfw.all q hqm
  have hff:(eS f.binds q).fits:=zL (fun t ht=>(hf.env.all t ht).1) q hqf.1
  refine iT hx hq ?_
  refine aZ (XH f.binds ad q hqf.1 ad (ho.fill hqm f3)) ?_
  refine iT hx hq ?_
  refine ao (ei _ (hf.gx cw).val.1.1 _ hff) rfl ?_
  cases g1:aI x.val (eS f.binds q)with
  |false=>
   refine iT hx hq ?_
   refine ai (ak rfl) ?_
   refine aG ?_
   rw[b8 hz1 g1]
   simp
  |true=>
  refine qo hx hq hy ?_
  refine ao (ih x cw env y hv (he.gx ad ad sO)) rfl ?_
  cases g2:bc p x env y with
  |false=>
   refine qo hx hq hy ?_
   refine ai (ak rfl) ?_
   refine aG ?_
   rw[b8 hz2 g2]
   simp
  |true=>
  refine qo hx hq hy ?_
  refine ai (ak rfl) ?_
  refine aG ?_
  refine ax (k+1) ⟨h2,cl hz1 hk.2.1 g1,cl hz2 hk.2.2 g2⟩ ad (bE.bS _ ad ad dp (fun j hj=>rfl) ?_)
  exact cz
 ·simp at h2
  rw[cm hk.2.1 (by rw[List.length_zip];omega),cm hk.2.2 (by rw[List.length_zip];omega)]
  refine aG ?_
  by_cases g1:f.val.op=16
  ·have xS:(f.val.op !=16)=false:=by simpa using g1
   refine cg xS ?_
   refine ai (ak rfl) ?_
   refine aG ?_
   rw[xS];rfl
  have xS:(f.val.op !=16)=true:=by simpa using g1
  refine cg xS ?_
  refine ao (ei _ (hf.gx Nh).val.1.1 _ hf.val.1.1) rfl ?_
  cases g2:aI z.val f.val with
  |false=>
   refine cg xS ?_
   refine ai (ak rfl) ?_
   exact bR
  |true=>
  refine cg xS ?_
  refine aZ (Jr ru ho hfw VG hrz f.binds f3) ?_
  refine cg xS ?_
  refine ao (ih z Nh (nh ru f.binds) ru.rhs (Ha hf.env) (ho.Mz VG (by rw[wN];exact f3))) rfl ?_
  refine cg xS ?_
  refine ai (ak rfl) ?_
  refine aG ?_
  have PQ:min e.kids.length f.kids.length=e.kids.length:=ad
  simp[PQ,g1]
theorem prvB_6(p:Pg)(f:Pf)(env:List Tm)(e:Tm)(h:f.bp=6):bc p f env e=(e.op==4&&kR p f env e):=by
 rw[cT,jZ,if_neg (by omega),if_neg (by omega),if_neg (by omega),if_neg (by omega),if_neg (by omega),if_pos h,Bool.and_assoc]
 rfl
set_option maxHeartbeats 2000000 in
theorem Jx{p:Pg}(hp:iM p)(hw:p.Fw):∀f:Pf,mN p.sig f->XO p f:=by
 refine Pf.cB fun f ih hf env e hv he=> ?_
 have xq:∀k∈f.kids,XO p k:=fun k hk=>ih k hk (hf.gx hk)
 have FL:=hf.len
 have fC:=((Tm.aJ e).1 he.fits).1
 have hn:=he.node1
 refine aR.ay mix aeG au ?_
 rw[c62]
 by_cases r1:f.bp=1
 ·have r1':(f.bp==1)=true:=by simpa using r1
  have ht:bc p f env e=(f.kids.length==0&&f.val.op==16):=by rw[cT,jZ,if_pos r1]
  rw[ht]
  refine dn r1' ?_
  cases h1:(f.kids.length==0)with
  |false=>
   have bJ:((f.kids.length:Int)==0)=false:=by simpa using h1
   exact uU bJ
  |true=>
   have bJ:((f.kids.length:Int)==0)=true:=by simpa using h1
   exact uU bJ
 have n1:(f.bp==1)=false:=by simpa using r1
 by_cases r2:f.bp=2
 ·have r2':(f.bp==2)=true:=by simpa using r2
  have ht:bc p f env e=(e.op==1&&(f.kids.length==0&&JU f.val ((env[e.n.toNat]?).getD gA))):=by rw[cT,jZ,if_neg r1,if_pos r2]
  rw[ht]
  by_cases h1:e.op=1
  rotate_left
  ·have bJ:(e.op==1)=false:=by simpa using h1
   rw[bJ]
   refine qo n1 r2' bJ ?_
   refine ai (ak rfl) ?_
   exact bR
  have bJ:(e.op==1)=true:=by simpa using h1
  rw[bJ,Bool.true_and]
  by_cases h2:f.kids.length=0
  rotate_left
  ·have iR:((f.kids.length:Int)==0)=false:=by rw[beq_eq_false_iff_ne];omega
   have jq:(f.kids.length==0)=false:=by simpa using h2
   refine FR n1 r2' bJ iR ?_
   refine ai (ak rfl) ?_
   refine aG ?_
   rw[jq];rfl
  have iR:((f.kids.length:Int)==0)=true:=by rw[beq_iff_eq];omega
  have jq:(f.kids.length==0)=true:=by simpa using h2
  obtain⟨v0,v1⟩:=he.var h1
  obtain⟨x,hx⟩:=aw (l:=env) (k:=e.n.toNat) ad
  have NL:=hv.all x (List.mem_of_getElem? hx)
  rw[hx,Option.getD_some,jq,Bool.true_and]
  simp+contextual (disch:=first|omega|simp only[go_sem,false_implies]) only[go_sem,wrap64,if_pos,n1,r2',List.length_map,bJ,iR,hx,v0]
  refine ao (L9 f.val hf.val.1.1 x NL.1) rfl ?_
  refine cg bJ ?_
  refine ai (ak rfl) ?_
  exact bR
 have n2:(f.bp==2)=false:=by simpa using r2
 by_cases r3:f.bp=3
 ·have r3':(f.bp==3)=true:=by simpa using r3
  have ht:bc p f env e=(e.op==2&&(f.kids.length==0&&aI f.val e)):=by rw[cT,jZ,if_neg r1,if_neg r2,if_pos r3]
  rw[ht]
  by_cases h1:e.op=2
  rotate_left
  ·have bJ:(e.op==2)=false:=by simpa using h1
   rw[bJ]
   simp+contextual (disch:=first|omega|simp only[go_sem,false_implies]) only[go_sem,wrap64,if_pos,n1,n2,r3',List.length_map,bJ]
  have bJ:(e.op==2)=true:=by simpa using h1
  rw[bJ,Bool.true_and]
  by_cases h2:f.kids.length=0
  rotate_left
  ·have iR:((f.kids.length:Int)==0)=false:=by rw[beq_eq_false_iff_ne];omega
   have jq:(f.kids.length==0)=false:=by simpa using h2
   refine zN n1 n2 r3' bJ iR ?_
   rw[jq];rfl
  have iR:((f.kids.length:Int)==0)=true:=by rw[beq_iff_eq];omega
  have jq:(f.kids.length==0)=true:=by simpa using h2
  rw[jq,Bool.true_and]
  refine zN n1 n2 r3' bJ iR ?_
  refine ag (ei f.val hf.val.1.1 e he.fits) rfl ?_
  exact bR
 have n3:(f.bp==3)=false:=by simpa using r3
 by_cases r4:f.bp=4
 ·have r4':(f.bp==4)=true:=by simpa using r4
  have ht:bc p f env e=(e.op==3&&(aI f.val (.mk e.op e.n (f.kids.map Pf.val))&&ni (f.kids.map (bc p)) env e.kids)):=by rw[cT,jZ,if_neg r1,if_neg r2,if_neg r3,if_pos r4]
  rw[ht]
  by_cases h1:e.op=3
  rotate_left
  ·have bJ:(e.op==3)=false:=by simpa using h1
   rw[bJ]
   simp+contextual (disch:=first|omega|simp only[go_sem,false_implies]) only[go_sem,wrap64,if_pos,n1,n2,n3,r4',bJ]
  have bJ:(e.op==3)=true:=by simpa using h1
  rw[bJ,Bool.true_and]
  refine JX n1 n2 n3 r4' bJ ?_
  refine ag (D1 hf xq hv he (.inl h1)) rfl ?_
  exact bR
 have n4:(f.bp==4)=false:=by simpa using r4
 by_cases r5:f.bp=5
 ·have r5':(f.bp==5)=true:=by simpa using r5
  have ht:bc p f env e=(e.op==5&&(aI f.val (.mk e.op e.n (f.kids.map Pf.val))&&ni (f.kids.map (bc p)) env e.kids)):=by rw[cT,jZ,if_neg r1,if_neg r2,if_neg r3,if_neg r4,if_pos r5]
  rw[ht]
  by_cases h1:e.op=5
  rotate_left
  ·have bJ:(e.op==5)=false:=by simpa using h1
   rw[bJ]
   simp+contextual (disch:=first|omega|simp only[go_sem,false_implies]) only[go_sem,wrap64,if_pos,n1,n2,n3,n4,r5',bJ]
  have bJ:(e.op==5)=true:=by simpa using h1
  rw[bJ,Bool.true_and]
  refine NV n1 n2 n3 n4 r5' bJ ?_
  refine ag (D1 hf xq hv he (.inr h1)) rfl ?_
  exact bR
 have n5:(f.bp==5)=false:=by simpa using r5
 by_cases r6:f.bp=6
 ·have r6':(f.bp==6)=true:=by simpa using r6
  rw[prvB_6 p f env e r6]
  by_cases h1:e.op=4
  rotate_left
  ·have bJ:(e.op==4)=false:=by simpa using h1
   rw[bJ]
   simp+contextual (disch:=first|omega|simp only[go_sem,false_implies]) only[go_sem,wrap64,if_pos,n1,n2,n3,n4,n5,r6',bJ]
  have bJ:(e.op==4)=true:=by simpa using h1
  rw[bJ,Bool.true_and]
  simp+contextual (disch:=first|omega|simp only[go_sem,false_implies]) only[go_sem,wrap64,if_pos,n1,n2,n3,n4,n5,r6',bJ]
  refine ag (Nj hp hw hf xq hv he h1) rfl ?_
  exact bR
 have n6:(f.bp==6)=false:=by simpa using r6
 by_cases r7:f.bp=7
 ·have r7':(f.bp==7)=true:=by simpa using r7
  have ht:bc p f env e=(e.op==7&&(f.kids.length==1&&aI (bu f.kids 0) f.val&&lu (f.kids.map (bc p)) 0 env (gr e 0))):=by rw[cT,jZ,if_neg r1,if_neg r2,if_neg r3,if_neg r4,if_neg r5,if_neg r6,if_pos r7]
  rw[ht]
  by_cases h1:e.op=7
  rotate_left
  ·have bJ:(e.op==7)=false:=by simpa using h1
   rw[bJ]
   simp+contextual (disch:=first|omega|simp only[go_sem,false_implies]) only[go_sem,wrap64,if_pos,n1,n2,n3,n4,n5,n6,r7',bJ]
   refine ai (ak rfl) ?_
   exact bR
  have bJ:(e.op==7)=true:=by simpa using h1
  rw[bJ,Bool.true_and]
  have h2:=mP hn ad ad
  obtain⟨a,ha⟩:=aw (l:=e.kids) (k:=0) ad
  rw[eJ ha]
  simp+contextual (disch:=first|omega|simp only[go_sem,false_implies]) only[go_sem,wrap64,if_pos,n1,n2,n3,n4,n5,n6,r7',bJ,ha]
  refine ao (Ng hf xq hv (he.gx ad ad (List.mem_of_getElem? ha))) rfl ?_
  refine cg bJ ?_
  refine ai (ak rfl) ?_
  exact bR
 have n7:(f.bp==7)=false:=by simpa using r7
 by_cases r8:f.bp=8
 ·have r8':(f.bp==8)=true:=by simpa using r8
  have ht:bc p f env e=(e.op==7&&(f.kids.length==1&&aI (bu f.kids 0) f.val&&lu (f.kids.map (bc p)) 0 env (gr e 1))):=by rw[cT,jZ,if_neg r1,if_neg r2,if_neg r3,if_neg r4,if_neg r5,if_neg r6,if_neg r7,if_pos r8]
  rw[ht]
  by_cases h1:e.op=7
  rotate_left
  ·have bJ:(e.op==7)=false:=by simpa using h1
   rw[bJ]
   simp+contextual (disch:=first|omega|simp only[go_sem,false_implies]) only[go_sem,wrap64,if_pos,n1,n2,n3,n4,n5,n6,n7,r8',bJ]
   refine ai (ak rfl) ?_
   exact bR
  have bJ:(e.op==7)=true:=by simpa using h1
  rw[bJ,Bool.true_and]
  have h2:=mP hn ad ad
  obtain⟨a,ha⟩:=aw (l:=e.kids) (k:=1) ad
  rw[eJ ha]
  simp+contextual (disch:=first|omega|simp only[go_sem,false_implies]) only[go_sem,wrap64,if_pos,n1,n2,n3,n4,n5,n6,n7,r8',bJ,ha]
  refine ao (Ng hf xq hv (he.gx ad ad (List.mem_of_getElem? ha))) rfl ?_
  refine cg bJ ?_
  refine ai (ak rfl) ?_
  exact bR
 have n8:(f.bp==8)=false:=by simpa using r8
 by_cases r9:f.bp=9
 ·have r9':(f.bp==9)=true:=by simpa using r9
  have ht:bc p f env e=(e.op==8&&(f.kids.length==2&&aI (bu f.kids 1) f.val&&lu (f.kids.map (bc p)) 0 env (gr e 0)&&lu (f.kids.map (bc p)) 1 (jE env e.n (bu f.kids 0)) (gr e 1))):=by rw[cT,jZ,if_neg r1,if_neg r2,if_neg r3,if_neg r4,if_neg r5,if_neg r6,if_neg r7,if_neg r8,if_pos r9]
  rw[ht]
  by_cases h1:e.op=8
  rotate_left
  ·have bJ:(e.op==8)=false:=by simpa using h1
   rw[bJ]
   simp+contextual (disch:=first|omega|simp only[go_sem,false_implies]) only[go_sem,wrap64,if_pos,n1,n2,n3,n4,n5,n6,n7,n8,r9',bJ]
  have bJ:(e.op==8)=true:=by simpa using h1
  rw[bJ,Bool.true_and]
  simp+contextual (disch:=first|omega|simp only[go_sem,false_implies]) only[go_sem,wrap64,if_pos,n1,n2,n3,n4,n5,n6,n7,n8,r9',bJ]
  refine ag (Qv hf xq hv he h1) rfl ?_
  exact bR
 have n9:(f.bp==9)=false:=by simpa using r9
 by_cases Y1:f.bp=15
 ·have adf:(f.bp==15)=true:=by simpa using Y1
  have ht:bc p f env e=(e.op==6&&((f.kids.length==2||f.kids.length==3)&&(lu (f.kids.map (bc p)) 0 env (gr e 0)&&lu (f.kids.map (bc p)) 1 env (gr e 1)&&(bu f.kids 0).op==5)&&
   (if((bu f.kids 0).kids.length:Int)+1<dq p.sig.bZ (bu f.kids 0).n then f.kids.length==2&&aI f.val (.mk 5 (bu f.kids 0).n ((bu f.kids 0).kids++[bu f.kids 1]))
    else f.kids.length==3&&aI (bu f.kids 2) f.val&&lu (f.kids.map (bc p)) 2 ((bu f.kids 0).kids++[bu f.kids 1]) (lr p.sig (bu f.kids 0).n)))):=by
   rw[cT,jZ,if_neg r1,if_neg r2,if_neg r3,if_neg r4,if_neg r5,if_neg r6,if_neg r7,if_neg r8,if_neg r9,if_pos Y1]
   simp only[Bool.and_assoc]
  rw[ht]
  by_cases h1:e.op=6
  rotate_left
  ·have bJ:(e.op==6)=false:=by simpa using h1
   rw[bJ]
   simp+contextual (disch:=first|omega|simp only[go_sem,false_implies]) only[go_sem,wrap64,if_pos,n1,n2,n3,n4,n5,n6,n7,n8,n9,adf,bJ]
  have bJ:(e.op==6)=true:=by simpa using h1
  rw[bJ,Bool.true_and]
  simp+contextual (disch:=first|omega|simp only[go_sem,false_implies]) only[go_sem,wrap64,if_pos,n1,n2,n3,n4,n5,n6,n7,n8,n9,adf,bJ]
  refine ag (FN hp hf xq hv he h1) rfl ?_
  exact bR
 have n15:(f.bp==15)=false:=by simpa using Y1
 have ht:bc p f env e=((f.kids.length==2&&kU f.bp e f.val (bu f.kids 0) (bu f.kids 1))&&(lu (f.kids.map (bc p)) 0 env (gr e 0)&&lu (f.kids.map (bc p)) 1 env (gr e 1))):=by
  rw[cT,jZ,if_neg r1,if_neg r2,if_neg r3,if_neg r4,if_neg r5,if_neg r6,if_neg r7,if_neg r8,if_neg r9,if_neg Y1]
 rw[ht]
 simp+contextual (disch:=first|omega|simp only[go_sem,false_implies]) only[go_sem,wrap64,if_pos,n1,n2,n3,n4,n5,n6,n7,n8,n9,n15]
 refine ao (XL e he.fits hn f hf) rfl ?_
 cases h1:(f.kids.length==2&&kU f.bp e f.val (bu f.kids 0) (bu f.kids 1))with
 |false=>
  refine cg h1 ?_
  refine ai (ak rfl) ?_
  exact bR
 |true=>
 have bJ:=h1
 simp only[Bool.and_eq_true,beq_iff_eq]at bJ
 have ey:=Hf bJ.2
 have h2:=mP hn ad ad
 obtain⟨a,ha⟩:=aw (l:=e.kids) (k:=0) ad
 obtain⟨b,hb⟩:=aw (l:=e.kids) (k:=1) ad
 obtain⟨x,hx⟩:=aw (l:=f.kids) (k:=0) ad
 obtain⟨y,hy⟩:=aw (l:=f.kids) (k:=1) ad
 rw[eJ ha,eJ hb,lJ hx,lJ hy]
 refine xr ha hb hx hy ?_
 refine ao (xq x (List.mem_of_getElem? hx) env a hv (he.gx ad ad (List.mem_of_getElem? ha))) rfl ?_
 cases g1:bc p x env a with
 |false=>
  refine xr ha hb hx hy ?_
  refine ai (ak rfl) ?_
  exact bR
 |true=>
 refine xr ha hb hx hy ?_
 refine ao (xq y (List.mem_of_getElem? hy) env b hv (he.gx ad ad (List.mem_of_getElem? hb))) rfl ?_
 refine xr ha hb hx hy ?_
 refine ai (ak rfl) ?_
 exact bR
set_option maxHeartbeats 1000000 in
theorem Qy{p:Pg}(hp:iM p)(hw:p.Fw){f:Pf}(hf:mN p.sig f)(ih:∀k∈f.kids,BC p k){env:List Tm}(hv:da p.sig env){e:Tm}(he:cD p.sig env.length e)(r6:f.bp=6):
 aR Tryz.prog 173 [xp p env,e.d,f.d] (xT (bc p f env e)):=by
 have FL:=hf.len
 have BJ:=hw.len
 have fC:=((Tm.aJ e).1 he.fits).1
 have x5:=hf.env.len
 rw[prvB_6 p f env e r6]
 refine aR.ay mix Sk au ?_
 rw[Wg]
 by_cases ey:e.op=4
 rotate_left
 ·have bJ:(e.op==4)=false:=by simpa using ey
  rw[bJ,Bool.false_and,aV]
  refine dn bJ ?_
  refine bB a7 rfl ?_
  exact bR
 have bJ:(e.op==4)=true:=by simpa using ey
 rw[bJ,Bool.true_and]
 refine dn bJ ?_
 refine ag (jm _ _ _) rfl ?_
 cases f1:cP f.num 0 ((p.rules.length:Int) - 1)with
 |false=>
  have hc:kR p f env e=false:=by
   simp only[cP,Bool.and_eq_false_iff,decide_eq_false_iff_not]at f1
   unfold kR
   by_cases h:0<=f.num
   ·rw[List.getElem?_eq_none (by omega:p.rules.length<=f.num.toNat)];simp
   ·exact Ud
  rw[hc,aV]
  refine fT ?_
  refine bB a7 rfl ?_
  exact bR
 |true=>
 have Mn:0<=f.num/\f.num<=(p.rules.length:Int) - 1:=by simpa[cP]using f1
 obtain⟨n0,n1⟩:=Mn
 obtain⟨ru,Nk⟩:=aw (l:=p.rules) (k:=f.num.toNat) ad
 have hrm:=List.mem_of_getElem? Nk
 have ho:=hp.rl hrm
 obtain⟨hfw,VG,hrz⟩:=hw.all ru hrm
 have XQ:kR p f env e=((ru.fn==e.n&&(f.binds.length:Int)==ru.vars&&f.kids.length==e.kids.length+1&&f.val.op !=16&&aI (bu f.kids e.kids.length) f.val)&&
  (D3 f.kids ru.bf f.binds e.kids.length&&ni ((f.kids.map (bc p)).take e.kids.length) env e.kids&&lu (f.kids.map (bc p)) e.kids.length (nh ru f.binds) ru.rhs)):=by
  unfold kR;rw[Nk,decide_eq_true n0];rfl
 refine fT ?_
 refine ag bY rfl ?_
 refine iT Nk n0 ?_
 refine ai aT ?_
 by_cases f2:ru.fn=e.n
 rotate_left
 ·have xm:(ru.fn==e.n)=false:=by simpa using f2
  have e0:kR p f env e=false:=by rw[XQ];simp[f2]
  rw[e0,aV]
  refine dn xm ?_
  refine aN a7 aH ?_
  refine aG ?_
  refine aY ⟨aT, ?_⟩
  exact jH
 have xm:(ru.fn==e.n)=true:=by simpa using f2
 by_cases f3:(f.binds.length:Int)=ru.vars
 rotate_left
 ·have A9:((f.binds.length:Int)==ru.vars)=false:=by simpa using f3
  have e0:kR p f env e=false:=by rw[XQ];simp[f3]
  rw[e0,aV]
  refine iT xm A9 ?_
  refine aN a7 aH ?_
  refine aG ?_
  refine aY ⟨aT, ?_⟩
  exact jH
 have A9:((f.binds.length:Int)==ru.vars)=true:=by simpa using f3
 obtain⟨fx,hfx,B7⟩:=ho.fn
 have ae9:=rN hp.sg fx (List.mem_of_getElem? hfx)
 have Eh:=he.node1
 have F0:ru.bf.length=e.kids.length:=by
  simp[bC,ey]at Eh
  have h2:=Eh.2
  rw[dq, <- f2,hfx]at h2
  dsimp only at h2
  omega
 by_cases f4:f.kids.length=e.kids.length+1
 rotate_left
 ·have I1:((f.kids.length:Int)==(e.kids.length:Int)+1)=false:=by rw[beq_eq_false_iff_ne];omega
  have Jw:(f.kids.length==e.kids.length+1)=false:=by simpa using f4
  have e0:kR p f env e=false:=by rw[XQ];simp[f4]
  rw[e0,aV]
  refine qo xm A9 I1 ?_
  refine aN a7 aH ?_
  refine aG ?_
  refine aY ⟨aT, ?_⟩
  exact jH
 have I1:((f.kids.length:Int)==(e.kids.length:Int)+1)=true:=by rw[beq_iff_eq];omega
 have Jw:(f.kids.length==e.kids.length+1)=true:=by simpa using f4
 by_cases f5:f.val.op=16
 ·have Tn:(f.val.op !=16)=false:=by simpa using f5
  have e0:kR p f env e=false:=by rw[XQ];simp[f5]
  rw[e0,aV]
  refine FR xm A9 I1 Tn ?_
  refine aN a7 aH ?_
  refine aG ?_
  refine aY ⟨aT, ?_⟩
  exact jH
 have Tn:(f.val.op !=16)=true:=by simpa using f5
 obtain⟨z,hz⟩:=aw (l:=f.kids) (k:=e.kids.length) ad
 have Nh:=List.mem_of_getElem? hz
 have e1:kR p f env e=(aI z.val f.val&&((((f.kids.take e.kids.length).zip ru.bf).all fun x=>aI x.1.val (eS f.binds x.2))&&((f.kids.take e.kids.length).length==e.kids.length&&((f.kids.take e.kids.length).zip e.kids).all fun x=>bc p x.1 env x.2)&&bc p z (nh ru f.binds) ru.rhs)):=by
  rw[XQ,xm,A9,Jw,Tn,bK hz,lJ hz,D4 _ _ _ _ (by omega) F0, <- List.map_take,Bm]
  simp only[Bool.true_and]
 rw[e1]
 refine zN xm A9 I1 Tn hz ?_
 refine ao (cX _ (hf.gx Nh).val.1.1 _ hf.val.1.1) rfl ?_
 cases f6:aI z.val f.val with
 |false=>
  rw[Bool.false_and,aV]
  refine aG ?_
  refine aN a7 aH ?_
  refine aG ?_
  refine aY ⟨aT, ?_⟩
  exact jH
 |true=>
 rw[Bool.true_and]
 refine aG ?_
 refine ao bY rfl ?_
 refine aG ?_
 refine ai aT ?_
 refine fT ?_
 have wU:(f.kids.take e.kids.length).length=e.kids.length:=by rw[List.length_take];omega
 have iE:∀ {k:Nat} {x:Pf},k<e.kids.length->f.kids[k]? =some x->(f.kids.take e.kids.length)[k]? =some x:=fun h1 h2=>by rw[List.getElem?_take_of_lt h1];exact h2
 refine aE (fun k:Nat=>⟨bz [.aa, .aa, .aa, .ptr 0 0, .ptr 1 0, .ptr 2 0, .ptr 27 0, .d (.i e.kids.length), .aa, .aa, .aa, .aa, .aa, .aa, .aa, .aa, .aa, .aa, .aa, .aa, .aa, .aa, .aa, .aa, .aa, .aa, .aa, .aa, .aa, .aa, .aa, .aa, .aa, .aa, .aa, .aa, .aa, .aa, .aa, .aa, .aa, .aa, .aa, .aa, .aa, .aa, .aa, .aa, .aa, .aa, .aa, .aa, .aa, .aa, .aa, .aa, .aa, .aa, .aa, .aa, .aa, .aa, .aa, .aa, .aa, .aa, .aa, .aa, .aa, .aa, .aa, .aa, .aa, .aa, .d (.sl (ru.bf.map Tm.d)), .d (.i ru.bf.length), .d (.i k)],aK (w8 p env e f) 27 (.row ru.row),73⟩)
  (fun k=>k<=ru.bf.length/\(((f.kids.take e.kids.length).zip ru.bf).take k).all (fun x=>aI x.1.val (eS f.binds x.2))=true) (fun k=>ru.bf.length - k) 0 ⟨Nat.zero_le _,au⟩ (bE.bS _ ad ad dp (fun j hj=>rY) ?_) (fun k hk=> ?_)
 ·exact cz
 refine fT ?_
 refine aq (fun h2=> ?_) (fun h2=> ?_)
 ·simp at h2
  obtain⟨x,hx⟩:=aw (l:=f.kids) (k:=k) ad
  obtain⟨q,hq⟩:=aw (l:=ru.bf) (k:=k) ad
  have cw:=List.mem_of_getElem? hx
  have hqm:=List.mem_of_getElem? hq
  have hz1:=uR (iE ad hx) hq
  have hqf:=hfw.all q hqm
  have hff:(eS f.binds q).fits:=zL (fun t ht=>(hf.env.all t ht).1) q hqf.1
  refine iT hx hq ?_
  refine aZ (MY f.binds ad q hqf.1 ad (ho.fill hqm f3)) ?_
  refine iT hx hq ?_
  refine ao (cX _ (hf.gx cw).val.1.1 _ hff) rfl ?_
  cases g1:aI x.val (eS f.binds q)with
  |false=>
   rw[b8 hz1 g1,Bool.false_and,Bool.false_and,aV]
   refine aG ?_
   refine aN a7 aH ?_
   refine aG ?_
   refine aY ⟨aT, ?_⟩
   exact jH
  |true=>
   refine aG ?_
   refine ao bY rfl ?_
   refine aG ?_
   refine ai aT ?_
   refine aG ?_
   refine ax (k+1) ⟨h2,cl hz1 hk.2 g1⟩ ad (bE.bS _ ad ad dp (fun j hj=>rY) ?_)
   exact cz
 ·simp at h2
  have PQ:min e.kids.length f.kids.length=e.kids.length:=ad
  have A2:=rK (f.kids.take e.kids.length) e.kids ad fC hv (fun k hk=>ih k (List.mem_of_mem_take hk)) (fun y hy=>he.gx ad ad hy)
  rw[List.map_take]at A2
  rw[cm hk.2 (by rw[List.length_zip];omega),Bool.true_and]
  refine fT ?_
  cases g1:((f.kids.take e.kids.length).length==e.kids.length&&((f.kids.take e.kids.length).zip e.kids).all fun x=>bc p x.1 env x.2)with
  |false=>
   rw[g1,aV]at A2
   rw[Bool.false_and,aV]
   refine aN A2 aH ?_
   refine aG ?_
   refine aY ⟨aT, ?_⟩
   exact jH
  |true=>
  rw[g1,bL]at A2
  rw[Bool.true_and]
  refine ao A2 rfl ?_
  refine aG ?_
  refine ai aT ?_
  refine fT ?_
  refine aZ (Jn ru ho VG f.binds ad f3) ?_
  refine fT ?_
  refine aZ (MZ p env (nh ru f.binds)) ?_
  refine dn hz ?_
  have hc:=ih z Nh (nh ru f.binds) ru.rhs (Ha hf.env) (ho.Mz VG (by rw[wN];exact f3))
  cases g2:bc p z (nh ru f.binds) ru.rhs with
  |false=>
   rw[g2,aV]at hc
   rw[aV]
   refine aN hc aH ?_
   refine aG ?_
   refine aY ⟨aT, ?_⟩
   exact jH
  |true=>
  rw[g2,bL]at hc
  rw[bL]
  refine ao hc rfl ?_
  refine aG ?_
  refine ai aT ?_
  exact bR
theorem Jy{α β:Type}{l:List α}{m:List β}{x y:α}{a b:β}(hx:l[0]? =some x)(hy:l[1]? =some y)(hm:m=[a,b])(h:(α×β)->Bool):((l.take 2).zip m).all h=(h (x,a)&&h (y,b)):=by
 match l,hx,hy with
 |x'::y'::r,hx,hy=>
  simp at hx hy
  subst hx;subst hy;subst hm
  simp
theorem FO(l:List Tm)(hl:l.length<=1000000)(o:Nat->ae)(fr:Nat):yz Tryz.prog 94 [.d (.sl (l.map Tm.d))] [] o fr (.osl fr 0) [(fr, .arr 0 31 3 (l.map Tm.d))]:=by
 refine yz.E6 (ds:=[.sl (l.map Tm.d)]) ?_
 refine cU.ay mix LK au ?_
 rw[YR]
 have hu:Tryz.prog.underlying 28=some (.slice 31):=ah
 cases l with
 |nil=>
  have heq:∀O,qx Tryz.prog O 28 true (.d (.sl [])) .bT=some .fm:=by
   intro O
   unfold qx
   rw[hu]
   rfl
  simp only[List.map_cons,List.map_nil]
  refine cg heq ?_
  simp only[List.isEmpty_nil,if_true]
  refine cg heq ?_
  exact .inl ⟨3,1,rfl,ab _ _ _⟩
 |cons a l=>
  have heq:∀O,qx Tryz.prog O 28 true (.d (.sl (Tm.d a::l.map Tm.d))) .bT=some (.d (.bool false)):=by
   intro O
   unfold qx
   rw[hu]
   rfl
  simp only[List.map_cons,List.map_nil]
  refine cg heq ?_
  simp only[List.isEmpty_nil,if_true]
  refine cg heq ?_
  rw[List.length_cons]at hl
  try rw[if_pos (by omega)]
  try simp+contextual (disch:=first|omega|simp only[go_sem,false_implies]) only[go_sem,wrap64,if_pos,and_self]
  exact .inl ⟨3,1,rfl,ab _ _ _⟩
set_option maxHeartbeats 1000000 in
theorem Jz{p:Pg}(hp:iM p){f:Pf}(hf:mN p.sig f)(ih:∀k∈f.kids,BC p k){env:List Tm}(hv:da p.sig env){e:Tm}(he:cD p.sig env.length e)(Y1:f.bp=15):
 aR Tryz.prog 182 [xp p env,e.d,f.d] (xT (bc p f env e)):=by
 have FL:=hf.len
 have fC:=((Tm.aJ e).1 he.fits).1
 have ht:bc p f env e=(e.op==6&&((f.kids.length==2||f.kids.length==3)&&((lu (f.kids.map (bc p)) 0 env (gr e 0)&&lu (f.kids.map (bc p)) 1 env (gr e 1))&&((bu f.kids 0).op==5&&
  (if((bu f.kids 0).kids.length:Int)+1<dq p.sig.bZ (bu f.kids 0).n then f.kids.length==2&&aI f.val (.mk 5 (bu f.kids 0).n ((bu f.kids 0).kids++[bu f.kids 1]))
   else f.kids.length==3&&aI (bu f.kids 2) f.val&&lu (f.kids.map (bc p)) 2 ((bu f.kids 0).kids++[bu f.kids 1]) (lr p.sig (bu f.kids 0).n)))))):=by
  rw[cT,jZ,if_neg (by omega),if_neg (by omega),if_neg (by omega),if_neg (by omega),if_neg (by omega),if_neg (by omega),if_neg (by omega),if_neg (by omega),if_neg (by omega),if_pos Y1]
  simp only[Bool.and_assoc]
 rw[ht]
 refine aR.ay mix Sv au ?_
 rw[Wp]
 by_cases ey:e.op=6
 rotate_left
 ·have bJ:(e.op==6)=false:=by simpa using ey
  rw[bJ,Bool.false_and,aV]
  refine dn bJ ?_
  refine bB a7 rfl ?_
  exact bR
 have bJ:(e.op==6)=true:=by simpa using ey
 rw[bJ,Bool.true_and]
 refine dn bJ ?_
 refine ag (jm _ _ _) rfl ?_
 by_cases hl:f.kids.length=2\/f.kids.length=3
 rotate_left
 ·have jy:cP (f.kids.length:Int) 2 3=false:=by simp[cP];omega
  have oT:(f.kids.length==2||f.kids.length==3)=false:=by simpa using hl
  rw[jy,oT,Bool.false_and,aV]
  refine aG ?_
  refine bB a7 rfl ?_
  exact bR
 have jy:cP (f.kids.length:Int) 2 3=true:=by simp[cP];omega
 have oT:(f.kids.length==2||f.kids.length==3)=true:=by simpa using hl
 have he2:=mP he.node1 ad ad
 obtain⟨a,b,XN⟩:=Bl he2
 have ha:e.kids[0]? =some a:=by rw[XN];rfl
 have hb:e.kids[1]? =some b:=by rw[XN];rfl
 obtain⟨x,hx⟩:=aw (l:=f.kids) (k:=0) ad
 obtain⟨y,hy⟩:=aw (l:=f.kids) (k:=1) ad
 have cw:=List.mem_of_getElem? hx
 have sO:=List.mem_of_getElem? hy
 have oV:=(hf.gx cw).val
 have wZ:=(hf.gx sO).val
 rw[jy,oT,bK hx,bK hy,lx hx,lx hy,eJ ha,eJ hb,Bool.true_and]
 refine aG ?_
 refine ag bY rfl ?_
 have h2t:(2:Nat)<=f.kids.length:=ad
 have afa:(2:Int)<=(f.kids.length:Int):=ad
 refine iT h2t afa ?_
 have A2:=rK (f.kids.take 2) e.kids (by rw[List.length_take];omega) fC hv (fun k hk=>ih k (List.mem_of_mem_take hk)) (fun y hy=>he.gx ad ad hy)
 have h2l:(f.kids.take 2).length=2:=by rw[List.length_take];omega
 rw[List.map_take,h2l,he2,Jy hx hy XN]at A2
 have h22:((2:Nat)==2)=true:=rfl
 rw[h22,Bool.true_and]at A2
 cases g1:(bc p x env a&&bc p y env b)with
 |false=>
  rw[g1,aV]at A2
  rw[Bool.false_and,aV]
  refine aN A2 aH ?_
  refine aG ?_
  refine aY ⟨aT, ?_⟩
  exact jH
 |true=>
 rw[g1,bL]at A2
 rw[Bool.true_and]
 refine ao A2 rfl ?_
 refine aG ?_
 refine ai aT ?_
 refine dn hx ?_
 by_cases h5:x.val.op=5
 rotate_left
 ·have xh:(x.val.op==5)=false:=by simpa using h5
  rw[xh,Bool.false_and,aV]
  refine bB a7 rfl ?_
  exact bR
 have xh:(x.val.op==5)=true:=by simpa using h5
 obtain⟨n0,w,hw,db⟩:=Hg oV.1.2 h5
 have hwa:=rN hp.sg w (List.mem_of_getElem? hw)
 have Eb:da p.sig (x.val.kids++[y.val]):=⟨by simp;omega,fun t ht=>by
  rcases List.mem_append.1 ht with h|h
  ·exact oV.1.gx h
  ·simp at h;subst h;exact wZ.1⟩
 rw[xh,Bool.true_and,fl hw]
 refine ag bY rfl ?_
 refine aG ?_
 refine yL rfl (FO x.val.kids ad _ _) ?_
 refine dn hy ?_
 refine ai aT ?_
 by_cases hc:(x.val.kids.length:Int)+1<w.args
 ·have qn:decide (((x.val.kids.length+1:Nat):Int)<w.args)=true:=by simpa using hc
  rw[if_pos hc]
  by_cases hk:f.kids.length=2
  rotate_left
  ·have ql:((f.kids.length:Int)==2)=false:=by rw[beq_eq_false_iff_ne];omega
   have s7:(f.kids.length==2)=false:=by simpa using hk
   rw[s7,Bool.false_and,aV]
   refine TC hw n0 qn ql ?_
   refine bB a7 rfl ?_
   exact bR
  have ql:((f.kids.length:Int)==2)=true:=by rw[beq_iff_eq];omega
  have s7:(f.kids.length==2)=true:=by simpa using hk
  have Yc:(Tm.mk 5 x.val.n (x.val.kids++[y.val])).fits:=by
   rw[Tm.aJ]
   exact⟨by show(x.val.kids++[y.val]).length<=_;rw[List.length_append,List.length_singleton];omega,fun k hk=>(Eb.all k hk).1⟩
  have hs:=cX _ hf.val.1.1 _ Yc
  rw[Tm.lH 5,List.map_append]at hs
  rw[s7,Bool.true_and]
  refine TC hw n0 qn ql ?_
  refine ag hs rfl ?_
  cases g3:aI f.val (.mk 5 x.val.n (x.val.kids++[y.val]))with
  |false=>
   rw[aV]
   refine aG ?_
   refine bB a7 rfl ?_
   exact bR
  |true=>
   rw[bL]
   refine aG ?_
   refine ag bY rfl ?_
   exact bR
 ·have qn:decide (((x.val.kids.length+1:Nat):Int)<w.args)=false:=by simpa using hc
  rw[if_neg hc]
  by_cases hk:f.kids.length=3
  rotate_left
  ·have ql:((f.kids.length:Int)==3)=false:=by rw[beq_eq_false_iff_ne];omega
   have s7:(f.kids.length==3)=false:=by simpa using hk
   rw[s7,Bool.false_and,Bool.false_and,aV]
   refine TC hw n0 qn ql ?_
   refine aN a7 aH ?_
   refine aG ?_
   refine aY ⟨aT, ?_⟩
   exact jH
  have ql:((f.kids.length:Int)==3)=true:=by rw[beq_iff_eq];omega
  have s7:(f.kids.length==3)=true:=by simpa using hk
  obtain⟨z,hz⟩:=aw (l:=f.kids) (k:=2) ad
  have Nh:=List.mem_of_getElem? hz
  rw[bK hz,lx hz,s7,Bool.true_and]
  simp+contextual (disch:=first|omega|simp only[go_sem,false_implies]) only[go_sem,wrap64,if_pos,List.length_map,hz,hw,n0,qn,List.length_append,ql]
  refine ao (cX _ (hf.gx Nh).val.1.1 _ hf.val.1.1) rfl ?_
  cases g3:aI z.val f.val with
  |false=>
   rw[Bool.false_and,aV]
   refine aG ?_
   refine aN a7 aH ?_
   refine aG ?_
   refine aY ⟨aT, ?_⟩
   exact jH
  |true=>
  rw[Bool.true_and]
  refine aG ?_
  refine ao bY rfl ?_
  refine aG ?_
  refine ai aT ?_
  refine aG ?_
  have Kr:=MZ p env (x.val.kids++[y.val])
  rw[List.map_append]at Kr
  refine aZ Kr ?_
  refine dn hz ?_
  refine aZ (Ql p x.val.n w n0 hw ad ad) ?_
  refine dn hz ?_
  have hr:=ih z Nh (x.val.kids++[y.val]) _ Eb (D2 (s:=p.sig) n0 hw ad ad (by simp only[List.length_append,List.length_singleton];omega))
  cases g4:bc p z (x.val.kids++[y.val]) (lr p.sig x.val.n)with
  |false=>
   rw[g4,aV]at hr
   rw[aV]
   refine aN hr aH ?_
   refine aG ?_
   refine aY ⟨aT, ?_⟩
   exact jH
  |true=>
   rw[g4,bL]at hr
   rw[bL]
   refine ao hr rfl ?_
   refine aG ?_
   refine ai aT ?_
   exact bR
def eK:List V:= .d .cj::[168,169,170,171,172,173,174,175,176,177,178,179,180,181,182].map fun g=> .func (.func g) [] []
theorem XR:sB Tryz.prog 147 [(1, .func (.func 168) [] []),(2, .func (.func 169) [] []),(3, .func (.func 170) [] []),(4, .func (.func 171) [] []),(5, .func (.func 172) [] []),(6, .func (.func 173) [] []),(7, .func (.func 174) [] []),(8, .func (.func 175) [] []),(9, .func (.func 176) [] []),(10, .func (.func 177) [] []),(11, .func (.func 178) [] []),(12, .func (.func 179) [] []),(13, .func (.func 180) [] []),(14, .func (.func 181) [] []),(15, .func (.func 182) [] [])]=some (.agg eK):=ah
theorem Qz:Ra Tryz.prog 129 [] (.agg eK):=by
 refine Ra.mC (by rfl) ?_
 refine cU.ay mix RW au ?_
 rw[VS]
 simp+contextual only[al,st,List.map_nil,O2,O1,Iv,U5,U6,bF,gQ,zeroT_147,E3,Iu,Li,Lj,AH,lW]
 generalize hb:sB Tryz.prog 147 _=r
 have hr:r=some (.agg eK):=by rw[<- hb];exact XR
 subst hr
 simp only[eK,List.map_cons,List.map_nil]
 exact bR
set_option maxHeartbeats 1000000 in
theorem JA{p:Pg}(hp:iM p)(hw:p.Fw):∀f:Pf,mN p.sig f->BC p f:=by
 refine Pf.cB fun f ih hf env e hv he=> ?_
 have xq:∀k∈f.kids,BC p k:=fun k hk=>ih k hk (hf.gx hk)
 refine aR.ay mix aaN au ?_
 rw[c93]
 refine aG ?_
 refine ag (jm _ _ _) rfl ?_
 cases h1:cP f.bp 1 15 with
 |false=>
  have h2: ¬ (1<=f.bp/\f.bp<=15):=by
   simp only[cP,Bool.and_eq_false_iff,decide_eq_false_iff_not]at h1;omega
  have ht:bc p f env e=false:=by
   rw[cT,jZ,if_neg (by omega),if_neg (by omega),if_neg (by omega),if_neg (by omega),if_neg (by omega),if_neg (by omega),if_neg (by omega),if_neg (by omega),if_neg (by omega),if_neg (by omega)]
   have:kU f.bp e f.val (bu f.kids 0) (bu f.kids 1)=false:=by
    unfold kU;rw[if_neg (by omega),if_neg (by omega),if_neg (by omega),if_neg (by omega),if_neg (by omega)]
   rw[this];simp
  rw[ht,aV]
  refine aG ?_
  refine bB a7 rfl ?_
  exact bR
 |true=>
 have h2:1<=f.bp/\f.bp<=15:=by simpa[cP]using h1
 refine aG ?_
 refine ag bY rfl ?_
 refine aG ?_
 refine It Qz ?_
 refine aG ?_
 rcases(by omega:f.bp=1\/f.bp=2\/f.bp=3\/f.bp=4\/f.bp=5\/f.bp=6\/f.bp=7\/f.bp=8\/f.bp=9\/f.bp=10\/f.bp=11\/f.bp=12\/f.bp=13\/f.bp=14\/f.bp=15)with r|r|r|r|r|r|r|r|r|r|r|r|r|r|r
 ·have fW:eK[f.bp.toNat*1]? =some (.func (.func 168) [] []):=by rw[r];rfl
  have hc:=Qq (p:=p) hf (env:=env) (e:=e) r
  refine cg fW ?_
  cases g:bc p f env e with
  |false=>
   rw[g,aV]at hc
   rw[aV]
   refine aN hc aH ?_
   refine aG ?_
   refine aY ⟨aT, ?_⟩
   exact jH
  |true=>
   rw[g,bL]at hc
   rw[bL]
   refine ao hc rfl ?_
   refine aG ?_
   refine ai aT ?_
   exact bR
 ·have fW:eK[f.bp.toNat*1]? =some (.func (.func 169) [] []):=by rw[r];rfl
  have hc:=Qr hf hv he r
  refine cg fW ?_
  cases g:bc p f env e with
  |false=>
   rw[g,aV]at hc
   rw[aV]
   refine aN hc aH ?_
   refine aG ?_
   refine aY ⟨aT, ?_⟩
   exact jH
  |true=>
   rw[g,bL]at hc
   rw[bL]
   refine ao hc rfl ?_
   refine aG ?_
   refine ai aT ?_
   exact bR
 ·have fW:eK[f.bp.toNat*1]? =some (.func (.func 170) [] []):=by rw[r];rfl
  have hc:=Qs (p:=p) hf (env:=env) he.fits r
  refine cg fW ?_
  cases g:bc p f env e with
  |false=>
   rw[g,aV]at hc
   rw[aV]
   refine aN hc aH ?_
   refine aG ?_
   refine aY ⟨aT, ?_⟩
   exact jH
  |true=>
   rw[g,bL]at hc
   rw[bL]
   refine ao hc rfl ?_
   refine aG ?_
   refine ai aT ?_
   exact bR
 ·have fW:eK[f.bp.toNat*1]? =some (.func (.func 171) [] []):=by rw[r];rfl
  have hc:=Qp hf xq hv he r
  refine cg fW ?_
  cases g:bc p f env e with
  |false=>
   rw[g,aV]at hc
   rw[aV]
   refine aN hc aH ?_
   refine aG ?_
   refine aY ⟨aT, ?_⟩
   exact jH
  |true=>
   rw[g,bL]at hc
   rw[bL]
   refine ao hc rfl ?_
   refine aG ?_
   refine ai aT ?_
   exact bR
 ·have fW:eK[f.bp.toNat*1]? =some (.func (.func 172) [] []):=by rw[r];rfl
  have hc:=M8 hf xq hv he r
  refine cg fW ?_
  cases g:bc p f env e with
  |false=>
   rw[g,aV]at hc
   rw[aV]
   refine aN hc aH ?_
   refine aG ?_
   refine aY ⟨aT, ?_⟩
   exact jH
  |true=>
   rw[g,bL]at hc
   rw[bL]
   refine ao hc rfl ?_
   refine aG ?_
   refine ai aT ?_
   exact bR
 ·have fW:eK[f.bp.toNat*1]? =some (.func (.func 173) [] []):=by rw[r];rfl
  have hc:=Qy hp hw hf xq hv he r
  refine cg fW ?_
  cases g:bc p f env e with
  |false=>
   rw[g,aV]at hc
   rw[aV]
   refine aN hc aH ?_
   refine aG ?_
   refine aY ⟨aT, ?_⟩
   exact jH
  |true=>
   rw[g,bL]at hc
   rw[bL]
   refine ao hc rfl ?_
   refine aG ?_
   refine ai aT ?_
   exact bR
 ·have fW:eK[f.bp.toNat*1]? =some (.func (.func 174) [] []):=by rw[r];rfl
  have hc:=M9 hf xq hv he r
  refine cg fW ?_
  cases g:bc p f env e with
  |false=>
   rw[g,aV]at hc
   rw[aV]
   refine aN hc aH ?_
   refine aG ?_
   refine aY ⟨aT, ?_⟩
   exact jH
  |true=>
   rw[g,bL]at hc
   rw[bL]
   refine ao hc rfl ?_
   refine aG ?_
   refine ai aT ?_
   exact bR
 ·have fW:eK[f.bp.toNat*1]? =some (.func (.func 175) [] []):=by rw[r];rfl
  have hc:=Ju hf xq hv he r
  refine cg fW ?_
  cases g:bc p f env e with
  |false=>
   rw[g,aV]at hc
   rw[aV]
   refine aN hc aH ?_
   refine aG ?_
   refine aY ⟨aT, ?_⟩
   exact jH
  |true=>
   rw[g,bL]at hc
   rw[bL]
   refine ao hc rfl ?_
   refine aG ?_
   refine ai aT ?_
   exact bR
 ·have fW:eK[f.bp.toNat*1]? =some (.func (.func 176) [] []):=by rw[r];rfl
  have hc:=Qt hf xq hv he r
  refine cg fW ?_
  cases g:bc p f env e with
  |false=>
   rw[g,aV]at hc
   rw[aV]
   refine aN hc aH ?_
   refine aG ?_
   refine aY ⟨aT, ?_⟩
   exact jH
  |true=>
   rw[g,bL]at hc
   rw[bL]
   refine ao hc rfl ?_
   refine aG ?_
   refine ai aT ?_
   exact bR
 ·have fW:eK[f.bp.toNat*1]? =some (.func (.func 177) [] []):=by rw[r];rfl
  have hc:=Nc hf xq hv he r
  refine cg fW ?_
  cases g:bc p f env e with
  |false=>
   rw[g,aV]at hc
   rw[aV]
   refine aN hc aH ?_
   refine aG ?_
   refine aY ⟨aT, ?_⟩
   exact jH
  |true=>
   rw[g,bL]at hc
   rw[bL]
   refine ao hc rfl ?_
   refine aG ?_
   refine ai aT ?_
   exact bR
 ·have fW:eK[f.bp.toNat*1]? =some (.func (.func 178) [] []):=by rw[r];rfl
  have hc:=Nd hf xq hv he r
  refine cg fW ?_
  cases g:bc p f env e with
  |false=>
   rw[g,aV]at hc
   rw[aV]
   refine aN hc aH ?_
   refine aG ?_
   refine aY ⟨aT, ?_⟩
   exact jH
  |true=>
   rw[g,bL]at hc
   rw[bL]
   refine ao hc rfl ?_
   refine aG ?_
   refine ai aT ?_
   exact bR
 ·have fW:eK[f.bp.toNat*1]? =some (.func (.func 179) [] []):=by rw[r];rfl
  have hc:=Jv hf xq hv he r
  refine cg fW ?_
  cases g:bc p f env e with
  |false=>
   rw[g,aV]at hc
   rw[aV]
   refine aN hc aH ?_
   refine aG ?_
   refine aY ⟨aT, ?_⟩
   exact jH
  |true=>
   rw[g,bL]at hc
   rw[bL]
   refine ao hc rfl ?_
   refine aG ?_
   refine ai aT ?_
   exact bR
 ·have fW:eK[f.bp.toNat*1]? =some (.func (.func 180) [] []):=by rw[r];rfl
  have hc:=Nf hf xq hv he r
  refine cg fW ?_
  cases g:bc p f env e with
  |false=>
   rw[g,aV]at hc
   rw[aV]
   refine aN hc aH ?_
   refine aG ?_
   refine aY ⟨aT, ?_⟩
   exact jH
  |true=>
   rw[g,bL]at hc
   rw[bL]
   refine ao hc rfl ?_
   refine aG ?_
   refine ai aT ?_
   exact bR
 ·have fW:eK[f.bp.toNat*1]? =some (.func (.func 181) [] []):=by rw[r];rfl
  have hc:=Qu hf xq hv he r
  refine cg fW ?_
  cases g:bc p f env e with
  |false=>
   rw[g,aV]at hc
   rw[aV]
   refine aN hc aH ?_
   refine aG ?_
   refine aY ⟨aT, ?_⟩
   exact jH
  |true=>
   rw[g,bL]at hc
   rw[bL]
   refine ao hc rfl ?_
   refine aG ?_
   refine ai aT ?_
   exact bR
 ·have fW:eK[f.bp.toNat*1]? =some (.func (.func 182) [] []):=by rw[r];rfl
  have hc:=Jz hp hf xq hv he r
  refine cg fW ?_
  cases g:bc p f env e with
  |false=>
   rw[g,aV]at hc
   rw[aV]
   refine aN hc aH ?_
   refine aG ?_
   refine aY ⟨aT, ?_⟩
   exact jH
  |true=>
   rw[g,bL]at hc
   rw[bL]
   refine ao hc rfl ?_
   refine aG ?_
   refine ai aT ?_
   exact bR
end Go.Proofs.YtonbelhklnmjnaaGreat
