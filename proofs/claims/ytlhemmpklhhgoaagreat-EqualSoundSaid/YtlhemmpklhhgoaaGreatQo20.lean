/-
  A PART OF THE PROOF. Conditions: none.
-/
import Derived.Test.YtlhemmpklhhgoaaGreatQo19
set_option linter.unusedSimpArgs false
set_option linter.unusedVariables false
namespace Go.Proofs.YtlhemmpklhhgoaaGreat
theorem Ig(gone:Nat->Prop)(x:V)(L:List V)(sT:∀id,gone id->12<=id){op n:Int}{ks:List Tm}{k:Nat}{t:Tm}{e:Nat->V}{so:Nat->ad}{m:Nat}(gx:fN so gone 33 3 ((ks.take k).map Tm.d) x)
 (s0:so 0= .row t.row) (s1:so 1= .row [.d (.i 0), .d (.i 0), .ax]) (s11:so 11= .row [.d (.i op), .d (.i n),x]) (he:iP 12 [⟨x,33,3,(ks.take k).map Tm.d⟩] so gone e L 0):bL 0 ⟨e,so,m⟩ ⟨aX L,ay (FY op n ks k) 0 (.row t.row),12+1⟩:=by
 refine bL.uD gone x 12 L af (fun j hj=> ?_) (by rw[ae _ _ _ _ (by omega)];exact fuH_12 op n ks k) gx (fun j hj=>by rw[ae _ _ _ _ (by omega)];exact Bh _ _ _ _ af af af) (fun j h1 h2=>absurd (sT j h1) af) he
 by_cases e0:j=0
 ·subst e0
  rw[aa]
  exact bn s0 (fun r hr=>by simp[ad.refs,V.aL,V.refs]at hr)
 rw[ae _ _ _ _ e0]
 by_cases e1:j=1
 ·subst e1
  rw[fuH_1]
  exact Sw
 ·by_cases e2:j=11
  ·subst e2
   rw[fuH_11]
   exact SD
  ·rw[Bh _ _ _ _ e1 e2 (by omega)]
   exact js
theorem tq{l:List TB}(hl:l.length<=1000)(og:∀p∈ag l,p.2.fits):∀ (f:Nat) (t y:Tm) (d:Nat),t.fits->d<=1000->HX f (ag l) t d=some y->y.sz<=1000000->
 aW Tryz.prog 93 [.sl (l.map TB.d),t.d, .i d] (.ret [y.d, .bool true])
 |0,_,_,_,_,_,h,_=>by cases h
 |f+1,t,y,d,ht,hd,h,hz=>by
  simp only[HX]at h
  have YI:=(Tm.cj t).1 ht
  refine aW.aG mix agU aE ?_
  rw[c93]
  by_cases h1:t.op=1
  ·have fh:(t.op==1)=true:=by simpa using h1
   rw[if_pos h1]at h
   refine ou fh ?_
   refine aq (rI l t.n af) rfl ?_
   rcases rz l t.n with⟨g1,g2⟩|⟨k,z,g1,g2,g3⟩
   ·have Kj:decide (findF l t.n<0)=true:=by simp;omega
    rw[g2]at h
    cases h
    exact zS Kj
   ·have Kj:decide (((k:Nat):Int)<0)=false:=aE
    rw[g3]at h
    cases d with
    |zero=>cases h
    |succ d=>
     have Qc:(((d+1:Nat):Int)==0)=false:=by rw[beq_eq_false_iff_ne];omega
     refine K4 g1 Kj g2 Qc ?_
     rw[show(((d+1:Nat):Int) - 1)=((d:Nat):Int) by omega]
     refine bE (tq hl og f z.term y d (og _ (ez (List.mem_of_getElem? g2))) af h hz) ?_
     exact pD
  ·have fh:(t.op==1)=false:=by simpa using h1
   rw[if_neg h1]at h
   cases hL:DX (fun k=>HX f (ag l) k d) t.kids with
   |none=>rw[hL]at h;cases h
   |some ks=>
   rw[hL]at h
   cases h
   obtain⟨Cq,I4⟩:=Bg hL
   have eA:oH ks+1<=1000000:=by rw[Tm.iw]at hz;simp only[Tm.kids]at hz;omega
   have hle:=mH ks
   refine ou fh ?_
   refine aD (fun i:Nat=>⟨aX [.d (.sl (l.map TB.d)), .ab, .d (.i d), .ab, .ptr 0 0, .ab, .ptr 1 0, .ab, .ab, .ptr 11 0, .d (.i i)],ay (FY t.op t.n ks i) 0 (.row t.row),12+1⟩)
    (fun i=>i<=t.kids.length) (fun i=>t.kids.length - i) 0 (Nat.zero_le _) (Ig (fun _=>False) .ax _ (fun _ h=>h.elim) (.inl ⟨rfl,rfl,bF⟩) cg cg cg ?_) (fun k hk=> ?_)
   ·exact jH
   replace hk:k<=t.kids.length:=hk
   have q0:ay (FY t.op t.n ks k) 0 (.row t.row) 0= .row t.row:=aa _ _ _
   have q1:ay (FY t.op t.n ks k) 0 (.row t.row) 1= .row [.d (.i 0), .d (.i 0), .ax]:=rfl
   have Ri:ay (FY t.op t.n ks k) 0 (.row t.row) 11= .row [.d (.i t.op), .d (.i t.n), .osl 12 0]:=rfl
   have Rj:ay (FY t.op t.n ks k) 0 (.row t.row) 12= .arr 0 33 3 ((ks.take k).map Tm.d):=rfl
   refine K4 q0 q1 Ri Rj ?_
   refine ak (fun h2=> ?_) (fun h2=> ?_)
   ·replace h2:k<t.kids.length:=by simp at h2;omega
    obtain⟨z,Pb⟩:=aB h2
    obtain⟨z',Jb,hF⟩:=I4 k z Pb
    have hzm:=List.mem_of_getElem? Pb
    have sb:ks.take (k+1)=ks.take k++[z']:=by rw[List.take_add_one,Jb];rfl
    have e0:(ks.take k).length=k:=by rw[List.length_take];omega
    have hzs:z'.sz<=1000000:=by have:=H5 (List.mem_of_getElem? Jb);omega
    have dV:k<=140737488355327/\(k+1)*24<=140737488355328:=af
    simp+contextual (disch:=first|omega|simp only[go_sem,false_implies]) only[go_sem,wrap64,if_pos,q0,q1,Ri,Rj,Pb,List.length_map]
    refine bE (tq hl og f z z' d (YI.2 z hzm) hd hF hzs) ?_
    simp+contextual (disch:=first|omega|simp only[go_sem,false_implies]) only[go_sem,wrap64,if_pos,q0,q1,Ri,Rj,Pb,List.length_map,e0,if_pos dV]
    refine aj (k+1) h2 af (Ig (fun j=>12<=j) (.osl 12 1) _ (fun _ h=>h) (.inr ⟨12,1,Nat.le_refl _,rfl,by(repeat(first|rfl|rw[aa]|rw[ae _ _ _ _ (by omega)]));rw[sb,List.map_append];rfl⟩) cg Se cg ?_)
    exact jH
   ·replace h2:k=t.kids.length:=by simp at h2;omega
    subst h2
    have YG:ay (FY t.op t.n ks t.kids.length) 0 (.row t.row) 12= .arr 0 33 3 (ks.map Tm.d):=by rw[Rj, <- Cq,List.take_length]
    simp+contextual (disch:=first|omega|simp only[go_sem,false_implies]) only[go_sem,wrap64,if_pos,q0,q1,Ri,YG]
    rw[Tm.Db]
theorem zI{l:List TB}(hl:l.length<=1000)(og:∀p∈ag l,p.2.fits){t y:Tm}{f:Nat}(ht:t.fits)(h:HX f (ag l) t (ag l).length=some y)(hz:y.sz<=1000000):aW Tryz.prog 42 [.sl (l.map TB.d),t.d] (.ret [y.d]):=by
 have e:(ag l).length=l.length:=by unfold ag;rw[List.length_map]
 rw[e]at h
 refine aW.aG mix agy aE ?_
 rw[c42]
 refine tv ?_
 refine bE (tq hl og f t y l.length ht hl h hz) ?_
 exact pD
theorem uc{l:List TB}(hl:l.length<=1000)(og:∀p∈ag l,p.2.fits){n:Nt}{x y:Tm}{f g:Nat}(ha:n.a.fits)(hb:n.b.fits)(hx:HX f (ag l) n.a (ag l).length=some x)(hy:HX g (ag l) n.b (ag l).length=some y)(zx:x.sz<=1000000)(zy:y.sz<=1000000):
 aW Tryz.prog 71 [.sl (l.map TB.d),n.d] (.ret [.bool (gY x y)]):=by
 refine aW.aG mix agI aE ?_
 rw[c71]
 refine cK ?_
 refine bC (zI hl og ha hx zx) ?_
 refine cK ?_
 refine bC (zI hl og hb hy zy) ?_
 refine cK ?_
 refine aZ (wK x (Tm.dC _ zx) y (Tm.dC _ zy)) rfl ?_
 exact PE
end Go.Proofs.YtlhemmpklhhgoaaGreat
set_option maxHeartbeats 2000000
namespace Go.Proofs.YtlhemmpklhhgoaaGreat
theorem YP(nb nn:Int)(l m:Int×Int)(ms:List (Int×Int)):mJ nb nn l (m::ms)=(dU m.1 l.1 nb&&dU m.2 l.2 nn&&mJ nb nn m ms):=by
 rw[mJ]
 congr 1
 unfold dU
 rw[Bool.eq_iff_iff]
 simp
 omega
theorem Ge(s:bU)(hs:s.Fin){ok:Bool}(aY:ok=true↔bB s):aW Tryz.prog 22 [s.d] (.ret [.bool ok]):=by
 have no: ¬bB s->ok=false:=fun h=>by
  cases ok with
  |false=>rfl
  |true=>exact absurd (aY.1 rfl) h
 have rY:=hs.bl
 have uO:=hs.nl
 have KC:=hs.ml
 refine aW.aG mix agm aE ?_
 rw[c22]
 refine cK ?_
 refine aq (U2 s.sig hs.sig) rfl ?_
 cases h1:ji s.sig with
 |false=>
  have:=no fun h=>by have:=h.sig;rw[h1]at this;cases this
  exact zW
 |true=>
 obtain⟨bo,Wk⟩:∃bo:Bool,bo=true↔iz s.sig s.binds:=by
  classical
  exact⟨decide (iz s.sig s.binds),aE⟩
 refine cK ?_
 refine aq (Gd s.sig hs.sig h1 s.binds rY (fun x hx=>(hs.bt x hx).fits) Wk) rfl ?_
 cases bo with
 |false=>
  have:=no fun h=>Bool.false_ne_true (Wk.2 h.iS)
  exact zW
 |true=>
 have hb:=Wk.1 rfl
 by_cases h3:12<s.aI.length
 ·have kF:decide ((s.aI.length:Int)>12)=true:=by simp;omega
  have:=no fun h=>by have:=h.tl;omega
  subst this
  exact K6 kF
 have kF:decide ((s.aI.length:Int)>12)=false:=by simp;omega
 by_cases h4:8<s.marks.length
 ·have Jp:decide ((s.marks.length:Int)>8)=true:=by simp;omega
  have:=no fun h=>by have:=h.D2;omega
  subst this
  exact K5 kF Jp
 have Jp:decide ((s.marks.length:Int)>8)=false:=by simp;omega
 obtain⟨l',ρ,R,hS,G0⟩:=jv hb.keys hb.ok hb.FW
 have og:∀p∈ag s.binds,p.2.fits:=fun p hp=>by
  obtain⟨x,hx,rfl⟩:=dq hp
  exact(hs.bt x hx).fits
 have c7:∀p∈ag s.binds,zB (ag s.binds) p.2:=fun p hp=>by
  obtain⟨x,hx,rfl⟩:=dq hp
  exact hb.Vd x hx
 refine sc kF Jp ?_
 refine aD (fun k:Nat=>⟨aX [.ab, .ptr 0 0, .ab, .d (.i k)],ay (fun _=> .no) 0 (.row s.row),1⟩)
  (fun k=>k<=s.aI.length/\∀n∈s.aI.take k,bJ s.sig n.a=true/\bJ s.sig n.b=true/\ ¬BP (ag s.binds) n) (fun k=>s.aI.length - k) 0 ⟨Nat.zero_le _,fun n hn=>by simp at hn⟩ (bL.bS _ af af dh (fun j hj=>rfl) ?_) (fun k hk=> ?_)
 ·exact dT
 obtain⟨hk,ho⟩:=hk
 refine tv ?_
 refine ak (fun h6=> ?_) (fun h6=> ?_)
 ·replace h6:k<s.aI.length:=by simp at h6;omega
  obtain⟨n,hn⟩:=aB h6
  have BH:=List.mem_of_getElem? hn
  obtain⟨na,nb⟩:=hs.nt n BH
  have ea:=xi h1 n.a
  have eb:=xi h1 n.b
  refine rU hn ?_
  refine aZ (lV s.sig hs.sig n.a na.fits) rfl ?_
  cases va:(gI s.sig n.a&&ff n.a)with
  |false=>
   have:=no fun h=>by have:=(h.aI n BH).1;rw[ea,va]at this;cases this
   exact VZ
  |true=>
   refine rU hn ?_
   refine aZ (lV s.sig hs.sig n.b nb.fits) rfl ?_
   cases vb:(gI s.sig n.b&&ff n.b)with
   |false=>
    have:=no fun h=>by have:=(h.aI n BH).2.1;rw[eb,vb]at this;cases this
    exact VZ
   |true=>
    obtain⟨a1,a2,a3⟩:=bz (ea.trans va)
    obtain⟨b1,b2,b3⟩:=bz (eb.trans vb)
    have za:=mK hS c7 a1
    have zb:=mK hS c7 b1
    obtain⟨fa,ua⟩:=Be hS a1
    obtain⟨fb,ub⟩:=Be hS b1
    have xZ:=rE (n:=n) hS a1 b1
    refine rU hn ?_
    refine aZ (uc rY og (n:=n) na.fits nb.fits ua ub af af) rfl ?_
    cases EO:gY (aR (ag l') n.a) (aR (ag l') n.b)with
    |true=>
     have:=no fun h=>(h.aI n BH).2.2 (xZ.2 ((dR _ _).1 EO))
     exact VZ
    |false=>
     refine rU hn ?_
     refine aK (bp rfl) ?_
     refine cK ?_
     refine aj (k+1) ⟨h6,fun y hy=> ?_⟩ af (bL.bS _ af af dh (fun j hj=>rfl) ?_)
     ·rw[List.take_add_one,hn]at hy
      rcases List.mem_append.1 hy with hy|hy
      ·exact ho y hy
      ·simp at hy
       subst hy
       refine⟨ea.trans va,eb.trans vb,fun h=> ?_⟩
       rw[(dR _ _).2 (xZ.1 h)]at EO;cases EO
     ·exact dT
 ·replace h6:k=s.aI.length:=by simp at h6;omega
  subst h6
  rw[List.take_length]at ho
  have fin:mJ s.binds.length s.aI.length (0,0) s.marks=ok:=by
   rw[Bool.eq_iff_iff,aY]
   exact⟨fun h=>⟨h1,af,af,hb,ho,h⟩,fun h=>h.marks⟩
  refine tv ?_
  refine aD (fun i:Nat×Int×Int=>⟨aX [.ab, .ptr 0 0, .ab, .ab, .ptr 7 0, .d (.i i.1)],ay (ay (fun _=> .no) 0 (.row s.row)) 7 (.row [.d (.i i.2.1), .d (.i i.2.2)]),8⟩)
   (fun i=>i.1<=s.marks.length/\mJ s.binds.length s.aI.length i.2 (s.marks.drop i.1)=ok) (fun i=>s.marks.length - i.1) (0,0,0) ⟨Nat.zero_le _,fin⟩ (bL.bS _ (show 0<=8 from af) af dh (fun j hj=> ?_) ?_) ?_
  ·by_cases e:j=7
   ·exact vi
   ·exact cg
  ·exact dT
  rintro⟨k,l1,l2⟩ ⟨hk,l6⟩
  dsimp only at hk l6|-
  refine tv ?_
  refine ak (fun h7=> ?_) (fun h7=> ?_)
  ·replace h7:k<s.marks.length:=by simp at h7;omega
   obtain⟨⟨m1,m2⟩,hm⟩:=aB h7
   have FX:s.marks.drop k=(m1,m2)::s.marks.drop (k+1):=by
    obtain⟨i1,i2⟩:=List.getElem?_eq_some_iff.1 hm
    exact IW
   rw[FX,YP]at l6
   dsimp only at l6
   refine rU hm ?_
   refine aq (Ga m1 l1 s.binds.length) rfl ?_
   cases g1:dU m1 l1 s.binds.length with
   |false=>
    rw[g1]at l6
    simp only[Bool.false_and]at l6
    subst l6
    exact pD
   |true=>
    rw[g1]at l6
    refine rU hm ?_
    refine aq (Ga m2 l2 s.aI.length) rfl ?_
    cases g2:dU m2 l2 s.aI.length with
    |false=>
     rw[g2]at l6
     simp only[Bool.true_and,Bool.false_and]at l6
     subst l6
     exact pD
    |true=>
     rw[g2]at l6
     simp only[Bool.true_and]at l6
     refine rU hm ?_
     refine aj (k+1,m1,m2) ⟨h7,l6⟩ kV (bL.bS _ (show 0<=8 from af) af dh (fun j hj=> ?_) ?_)
     ·have hj:j<8:=hj
      by_cases e:j=7
      ·exact vi
      ·(repeat(first|rfl|rw[aa]|rw[ae _ _ _ _ (by omega)]));rw[ae _ 7 _ _ e]
     ·exact dT
  ·replace h7:k=s.marks.length:=by simp at h7;omega
   subst h7
   rw[List.drop_length]at l6
   have l6:true=ok:=l6
   subst l6
   exact pD
structure bU.Fits (s:bU):Prop where
 sig:s.sig.Fits
 bl:s.binds.length<=9223372036854775807
 nl:s.aI.length<=9223372036854775807
 ml:s.marks.length<=9223372036854775807
 bt:∀x∈s.binds,x.term.fits
 nt:∀n∈s.aI,n.a.fits/\n.b.fits
structure Ob (s:bU):Prop where
 sig:fD s.sig=true
 bl:s.binds.length<=22
 nl:s.aI.length<=14
 ml:s.marks.length<=10
 bt:∀x∈s.binds,gu x.term=true
 nt:∀n∈s.aI,gu n.a=true/\gu n.b=true
theorem Gf(s:bU)(hs:s.Fits){ok:Bool}(aY:ok=true↔Ob s):aW Tryz.prog 23 [s.d] (.ret [.bool ok]):=by
 have no: ¬Ob s->ok=false:=fun h=>by
  cases ok with
  |false=>rfl
  |true=>exact absurd (aY.1 rfl) h
 have rY:=hs.bl
 have uO:=hs.nl
 have KC:=hs.ml
 refine aW.aG mix agn aE ?_
 rw[c23]
 refine cK ?_
 refine aq (wL s.sig hs.sig) rfl ?_
 cases h1:fD s.sig with
 |false=>
  have:=no fun h=>by have:=h.sig;rw[h1]at this;cases this
  exact zW
 |true=>
 by_cases h2:22<s.binds.length
 ·have mR:decide ((s.binds.length:Int)>22)=true:=by simp;omega
  have:=no fun h=>by have:=h.bl;omega
  subst this
  exact K6 mR
 have mR:decide ((s.binds.length:Int)>22)=false:=by simp;omega
 by_cases h3:14<s.aI.length
 ·have kF:decide ((s.aI.length:Int)>14)=true:=by simp;omega
  have:=no fun h=>by have:=h.nl;omega
  subst this
  exact K5 mR kF
 have kF:decide ((s.aI.length:Int)>14)=false:=by simp;omega
 by_cases h4:10<s.marks.length
 ·have Jp:decide ((s.marks.length:Int)>10)=true:=by simp;omega
  have:=no fun h=>by have:=h.ml;omega
  subst this
  exact aas mR kF Jp
 have Jp:decide ((s.marks.length:Int)>10)=false:=by simp;omega
 refine pE mR kF Jp ?_
 refine aD (fun k:Nat=>⟨aX [.ab, .ptr 0 0, .ab, .d (.i k)],ay (fun _=> .no) 0 (.row s.row),1⟩)
  (fun k=>k<=s.binds.length/\∀x∈s.binds.take k,gu x.term=true) (fun k=>s.binds.length - k) 0 ⟨Nat.zero_le _,fun n hn=>by simp at hn⟩ (bL.bS _ af af dh (fun j hj=>rfl) ?_) (fun k hk=> ?_)
 ·exact dT
 obtain⟨hk,ho⟩:=hk
 refine tv ?_
 refine ak (fun h6=> ?_) (fun h6=> ?_)
 ·replace h6:k<s.binds.length:=by simp at h6;omega
  obtain⟨x,hx⟩:=aB h6
  have cf:=List.mem_of_getElem? hx
  refine rU hx ?_
  refine aq (rl x.term (hs.bt x cf)) rfl ?_
  cases hv:gu x.term with
  |false=>
   have:=no fun h=>by have:=h.bt x cf;rw[hv]at this;cases this
   exact zW
  |true=>
   refine cK ?_
   refine aj (k+1) ⟨h6,fun y hy=> ?_⟩ af (bL.bS _ af af dh (fun j hj=>rfl) ?_)
   ·rw[List.take_add_one,hx]at hy
    rcases List.mem_append.1 hy with hy|hy
    ·exact ho y hy
    ·simp at hy
     subst hy
     exact hv
   ·exact dT
 ·replace h6:k=s.binds.length:=by simp at h6;omega
  subst h6
  rw[List.take_length]at ho
  refine tv ?_
  refine aD (fun k:Nat=>⟨aX [.ab, .ptr 0 0, .ab, .ab, .d (.i k)],ay (fun _=> .no) 0 (.row s.row),1⟩)
   (fun k=>k<=s.aI.length/\∀n∈s.aI.take k,gu n.a=true/\gu n.b=true) (fun k=>s.aI.length - k) 0 ⟨Nat.zero_le _,fun n hn=>by simp at hn⟩ (bL.bS _ af af dh (fun j hj=>rfl) ?_) (fun k hk=> ?_)
  ·exact dT
  obtain⟨hk,Qw⟩:=hk
  refine tv ?_
  refine ak (fun h6=> ?_) (fun h6=> ?_)
  ·replace h6:k<s.aI.length:=by simp at h6;omega
   obtain⟨n,hn⟩:=aB h6
   have BH:=List.mem_of_getElem? hn
   obtain⟨na,nb⟩:=hs.nt n BH
   refine rU hn ?_
   refine aq (rl n.a na) rfl ?_
   cases va:gu n.a with
   |false=>
    have:=no fun h=>by have:=(h.nt n BH).1;rw[va]at this;cases this
    exact zW
   |true=>
    refine rU hn ?_
    refine aq (rl n.b nb) rfl ?_
    cases vb:gu n.b with
    |false=>
     have:=no fun h=>by have:=(h.nt n BH).2;rw[vb]at this;cases this
     exact zW
    |true=>
     refine cK ?_
     refine aj (k+1) ⟨h6,fun y hy=> ?_⟩ af (bL.bS _ af af dh (fun j hj=>rfl) ?_)
     ·rw[List.take_add_one,hn]at hy
      rcases List.mem_append.1 hy with hy|hy
      ·exact Qw y hy
      ·simp at hy
       subst hy
       exact⟨va,vb⟩
     ·exact dT
  ·replace h6:k=s.aI.length:=by simp at h6;omega
   subst h6
   rw[List.take_length]at Qw
   have:ok=true:=aY.2 ⟨h1,af,af,af,ho,Qw⟩
   exact zW
end Go.Proofs.YtlhemmpklhhgoaaGreat
namespace Go.Proofs.YtlhemmpklhhgoaaGreat
theorem Vg:∀ (f:Nat) (t:Tm),t.mA<=f->u5 (f+1) [] t=some t
 |0,t,h=>by rw[Tm.qa]at h;omega
 |f+1,t,h=>by
  have ha:lC (f+1) [] t=some t:=by
   simp only[lC,bQ]
   split<;>rfl
  rw[u5,ha]
  show(DX (u5 (f+1) []) t.kids).map (fun ks=>Tm.mk t.op t.n ks)=_
  rw[show DX (u5 (f+1) []) t.kids=some (t.kids.map id)from u6 fun k hk=>Vg f k (by have:=Tm.ra hk;omega),List.map_id]
  show some (Tm.mk t.op t.n t.kids)=some t
  rw[Tm.eta]
theorem xk(t:Tm)(hz:t.sz<=1000000):aW Tryz.prog 107 [t.d] (.ret [t.d]):=by
 refine aW.aG mix Uk aE ?_
 rw[Xx]
 refine cK ?_
 refine bE (w7 (b:=[]) (fun _ h=>by cases h) (t.mA+1) t t (Tm.dC t hz) (Vg _ t (Nat.le_refl _)) hz) ?_
 exact pD
theorem D9(l:List dX)(hl:l.length<=1000000):aW Tryz.prog 105 [.sl (l.map dX.d)] (.ret [.sl (l.map dX.d)]):=by
 refine aW.aG mix Ui aE ?_
 rw[Xv]
 have hu:Tryz.prog.underlying 22=some (.slice 124):=ai
 cases l with
 |nil=>
  have heq:∀O,qu Tryz.prog O 22 true (.d (.sl [])) .ax=some .fH:=by
   intro O
   unfold qu
   rw[hu]
   rfl
  simp only[List.map_cons,List.map_nil]
  refine ou heq ?_
  simp only[List.isEmpty_nil,if_true]
  exact zS heq
 |cons a l=>
  have heq:∀O,qu Tryz.prog O 22 true (.d (.sl (a.d::l.map dX.d))) .ax=some (.d (.bool false)):=by
   intro O
   unfold qu
   rw[hu]
   rfl
  have L7:(a.d::l.map dX.d).all (fun z=>z.cells.length==2)=true:=by
   rw[List.all_eq_true]
   intro z hz
   obtain⟨r,_,rfl⟩:=List.mem_map.1 (show z∈(a::l).map dX.d from hz)
   rfl
  simp only[List.map_cons,List.map_nil]
  refine ou heq ?_
  simp only[List.isEmpty_nil,if_true]
  refine IB heq L7 ?_
  rw[List.length_cons]at hl
  rw[if_pos (by omega)]
  exact pD
theorem Gg(l:List (Int×Int))(hl:l.length<=1000000)(o:Nat->ad)(fr:Nat):BJ Tryz.prog 106 [.d (.sl (l.map tj))] [] o fr (.osl fr 0) [(fr, .arr 0 77 2 (l.map tj))]:=by
 refine BJ.MF (ds:=[.sl (l.map tj)]) ?_
 refine bP.aG mix Uj aE ?_
 rw[Xw]
 have hu:Tryz.prog.underlying 27=some (.slice 77):=ai
 cases l with
 |nil=>
  have heq:∀O,qu Tryz.prog O 27 true (.d (.sl [])) .ax=some .fH:=by
   intro O
   unfold qu
   rw[hu]
   rfl
  simp only[List.map_cons,List.map_nil]
  refine ou heq ?_
  simp only[List.isEmpty_nil,if_true]
  refine ou heq ?_
  exact .inl ⟨3,1,rfl,aa _ _ _⟩
 |cons a l=>
  have heq:∀O,qu Tryz.prog O 27 true (.d (.sl (tj a::l.map tj))) .ax=some (.d (.bool false)):=by
   intro O
   unfold qu
   rw[hu]
   rfl
  have L7:(tj a::l.map tj).all (fun z=>z.cells.length==2)=true:=by
   rw[List.all_eq_true]
   intro z hz
   obtain⟨r,_,rfl⟩:=List.mem_map.1 (show z∈(a::l).map tj from hz)
   rfl
  simp only[List.map_cons,List.map_nil]
  refine ou heq ?_
  simp only[List.isEmpty_nil,if_true]
  refine IB heq L7 ?_
  rw[List.length_cons]at hl
  rw[if_pos (by omega)]
  refine cK ?_
  exact .inl ⟨3,1,rfl,aa _ _ _⟩
end Go.Proofs.YtlhemmpklhhgoaaGreat
set_option maxHeartbeats 4000000
namespace Go.Proofs.YtlhemmpklhhgoaaGreat
structure bU.Cp (s:bU):Prop where
 lc:s.sig.cons.length<=1000000
 lf:s.sig.bZ.length<=1000000
 bl:s.binds.length<=1000
 nl:s.aI.length<=1000
 ml:s.marks.length<=1000
 bt:∀x∈s.binds,x.term.sz<=1000000
 nt:∀n∈s.aI,n.a.sz<=1000000/\n.b.sz<=1000000
def zT(o:Nat->ad)(nx:Nat)(s:bU)(b:List (Int×Tm))(x:V)(y:V)(l:List D):Nat->ad:=
 ay (ay (ay (ay (ay o nx (.row [.d (.sl (s.sig.cons.map dX.d)), .d (.sl (s.sig.bZ.map dX.d)), .d (.sl (s.binds.map TB.d)), .d (.sl (s.aI.map Nt.d)), .d (.sl (s.marks.map tj)), .d (Ew b)])) (nx+1) (.row [.ax, .ax, .ax, .ax, .ax])) (nx+16) (.arr 0 77 2 (s.marks.map tj)))
  (nx+18) (.row [.d (.sl (s.sig.cons.map dX.d)), .d (.sl (s.sig.bZ.map dX.d)),x,y, .osl (nx+16) 0])) (nx+20) (.arr 0 59 4 l)
theorem ED(o:Nat->ad)(nx:Nat)(s:bU)(b:List (Int×Tm))(x y:V)(l:List D):zT o nx s b x y l nx= .row [.d (.sl (s.sig.cons.map dX.d)), .d (.sl (s.sig.bZ.map dX.d)), .d (.sl (s.binds.map TB.d)), .d (.sl (s.aI.map Nt.d)), .d (.sl (s.marks.map tj)), .d (Ew b)]:=IL
theorem stA_1(o:Nat->ad)(nx:Nat)(s:bU)(b:List (Int×Tm))(x y:V)(l:List D):zT o nx s b x y l (nx+1)= .row [.ax, .ax, .ax, .ax, .ax]:=IL
theorem stA_16(o:Nat->ad)(nx:Nat)(s:bU)(b:List (Int×Tm))(x y:V)(l:List D):zT o nx s b x y l (nx+16)= .arr 0 77 2 (s.marks.map tj):=IL
theorem stA_18(o:Nat->ad)(nx:Nat)(s:bU)(b:List (Int×Tm))(x y:V)(l:List D):zT o nx s b x y l (nx+18)= .row [.d (.sl (s.sig.cons.map dX.d)), .d (.sl (s.sig.bZ.map dX.d)),x,y, .osl (nx+16) 0]:=IL
theorem stA_20(o:Nat->ad)(nx:Nat)(s:bU)(b:List (Int×Tm))(x y:V)(l:List D):zT o nx s b x y l (nx+20)= .arr 0 59 4 l:=IL
theorem xm(o:Nat->ad)(nx:Nat)(s:bU)(b:List (Int×Tm))(x y:V)(l:List D){j:Nat}(h0:j≠nx)(h1:j≠nx+1)(h2:j≠nx+16)(h3:j≠nx+18)(h4:j≠nx+20):zT o nx s b x y l j=o j:=IL
theorem Oc(o:Nat->ad)(nx:Nat)(s:bU)(b:List (Int×Tm))(x y x' y':V)(l l':List D){j:Nat}(h1:j<nx+20)(h2:j≠nx+18):zT o nx s b x y l j=zT o nx s b x' y' l' j:=by
 have e:∀x y l,zT o nx s b x y l j=ay (ay (ay o nx (.row [.d (.sl (s.sig.cons.map dX.d)), .d (.sl (s.sig.bZ.map dX.d)), .d (.sl (s.binds.map TB.d)), .d (.sl (s.aI.map Nt.d)), .d (.sl (s.marks.map tj)), .d (Ew b)])) (nx+1) (.row [.ax, .ax, .ax, .ax, .ax])) (nx+16) (.arr 0 77 2 (s.marks.map tj)) j:=fun x y l=>by
  unfold zT
  rw[ae _ _ _ _ (show j≠nx+20 by omega),ae _ _ _ _ h2]
 rw[e,e]
theorem Od{o:Nat->ad}{nx:Nat}(hg:Good o nx)(s:bU)(b:List (Int×Tm))(i:Nat)(y:V)(hy:y.refs=[])(l:List D):Good (zT o nx s b (.osl (nx+20) i) y l) (nx+21):=by
 unfold zT
 refine Good.ay (Good.ay (Good.ay (Good.ay (Good.ay (hg.mono af) af rfl) af rfl) af rfl) af ?_) af rfl
 simp[ad.refs,V.aL,V.refs,hy]
theorem Ih(gone:Nat->Prop)(x:V)(L:List V){o:Nat->ad}{nx:Nat}(hg:Good o nx){s:bU}{b:List (Int×Tm)}{l:List D}(sT:∀id,gone id->nx+20<=id){e:Nat->V}{so:Nat->ad}{m:Nat}(gx:fN so gone 59 4 l x)
 (s18:so (nx+18)= .row [.d (.sl (s.sig.cons.map dX.d)), .d (.sl (s.sig.bZ.map dX.d)),x, .ax, .osl (nx+16) 0]) (h:∀j,j<nx+20->j≠nx+18->so j=zT o nx s b (.osl (nx+20) 0) .ax l j) (he:iP (nx+20) [⟨x,59,4,l⟩] so gone e L 0):
 bL nx ⟨e,so,m⟩ ⟨aX L,zT o nx s b (.osl (nx+20) 0) .ax l,nx+21⟩:=by
 refine bL.uD gone x (nx+20) L af (fun j hj=> ?_) (stA_20 _ _ _ _ _ _ _) gx (fun j hj=> ?_) (fun j h1 h2=>absurd (sT j h1) af) he
 ·by_cases e1:j=nx+18
  ·subst e1
   rw[stA_18]
   exact jM s18 (jN (jN (vl 0 rfl rfl rfl (vj oU (vj oU jO)))))
  ·refine bn (h j hj e1) (fun r hr=> ?_)
   by_cases e2:j=nx
   ·exact SE
   ·by_cases e3:j=nx+1
    ·subst e3;rw[stA_1]at hr;simp[ad.refs,V.aL,V.refs]at hr
    ·by_cases e4:j=nx+16
     ·subst e4;rw[stA_16]at hr;simp[ad.refs]at hr
     ·rw[xm _ _ _ _ _ _ _ e2 e3 e4 e1 (by omega)]at hr
      have:=hg.refs j r hr
      omega
 ·rw[xm _ _ _ _ _ _ _ (by omega) (by omega) (by omega) (by omega) (by omega)]
  exact BX
def Ex(o:Nat->ad)(nx:Nat)(s:bU)(b:List (Int×Tm))(l:List D):Nat->ad:=ay (zT o nx s b (.osl (nx+20) 0) (.osl (nx+21) 0) (s.binds.map TB.d)) (nx+21) (.arr 0 101 6 l)
theorem Ii(gone:Nat->Prop)(x:V)(L:List V){o:Nat->ad}{nx:Nat}(hg:Good o nx){s:bU}{b:List (Int×Tm)}{l:List D}(sT:∀id,gone id->nx+21<=id){e:Nat->V}{so:Nat->ad}{m:Nat}(gx:fN so gone 101 6 l x)
 (s18:so (nx+18)= .row [.d (.sl (s.sig.cons.map dX.d)), .d (.sl (s.sig.bZ.map dX.d)), .osl (nx+20) 0,x, .osl (nx+16) 0]) (h:∀j,j<nx+21->j≠nx+18->so j=Ex o nx s b l j) (he:iP (nx+21) [⟨x,101,6,l⟩] so gone e L 0):
 bL nx ⟨e,so,m⟩ ⟨aX L,Ex o nx s b l,nx+22⟩:=by
 refine bL.uD gone x (nx+21) L af (fun j hj=> ?_) (aa _ _ _) gx (fun j hj=> ?_) (fun j h1 h2=>absurd (sT j h1) af) he
 ·by_cases e1:j=nx+18
  ·subst e1
   rw[Ex,ae _ _ _ _ (by omega),stA_18]
   exact jM s18 (jN (jN (vj oU (vl 0 rfl rfl rfl (vj oU jO)))))
  ·refine bn (h j hj e1) (fun r hr=> ?_)
   rw[Ex,ae _ _ _ _ (by omega)]at hr
   by_cases e2:j=nx
   ·exact SE
   ·by_cases e3:j=nx+1
    ·subst e3;rw[stA_1]at hr;simp[ad.refs,V.aL,V.refs]at hr
    ·by_cases e4:j=nx+16
     ·subst e4;rw[stA_16]at hr;simp[ad.refs]at hr
     ·by_cases e5:j=nx+20
      ·subst e5;rw[stA_20]at hr;simp[ad.refs]at hr
      ·rw[xm _ _ _ _ _ _ _ e2 e3 e4 e1 e5]at hr
       have:=hg.refs j r hr
       omega
 ·rw[Ex,ae _ _ _ _ (by omega),xm _ _ _ _ _ _ _ (by omega) (by omega) (by omega) (by omega) (by omega)]
  exact BX
theorem Bn(s:bU)(hs:s.Cp)(b:List (Int×Tm))(o:Nat->ad)(nx:Nat)(hg:Good o nx)(K X:V->(Nat->ad)->Nat->Prop)
 (xf:∀o' nx' i j k,nx<=nx'->Good o' nx'->(∀j,j<nx->o' j=o j)->
  o' i= .arr 0 59 4 (s.binds.map TB.d)->o' j= .arr 0 101 6 (s.aI.map Nt.d)->o' k= .arr 0 77 2 (s.marks.map tj)->
  K (.agg [.d (.sl (s.sig.cons.map dX.d)), .d (.sl (s.sig.bZ.map dX.d)), .osl i 0, .osl j 0, .osl k 0]) o' nx'):
 bP Tryz.prog 65 [.d (s.kd b)] o nx K X:=by
 refine bP.aG mix ade aE ?_
 rw[c65]
 refine fY ?_
 refine bC (D9 s.sig.cons hs.lc) ?_
 refine fY ?_
 refine bC (D9 s.sig.bZ hs.lf) ?_
 refine fY ?_
 refine JL rfl (Gg s.marks (by have:=hs.ml;omega) _ _) ?_
 refine fY ?_
 refine aK (bD (ids:=[nx,nx+16,nx+18]) (nx:=nx+20) aE aE [([0],[]),([0],[]),([0],[]),([0],[]),([],[]),([0],[]),([0],[]),([0],[]),([0],[]),([],[]),([],[]),([0],[]),([0],[]),([0],[]),([],[1]),([],[]),([],[2]),([2,1],[2])] bF) ?_
 refine fY ?_
 refine aD (fun i:Nat=>⟨aX [.ab, .ptr nx 0, .ptr (nx+1) 0, .ptr (nx+18) 0, .ab, .ab, .ab, .ab, .ab, .ab, .ab, .ab, .ab, .ab, .ab, .ab, .ab, .ab, .ab, .ab, .ab, .ab, .ab, .ab, .ab, .ab, .d (.sl (s.binds.map TB.d)), .d (.i s.binds.length), .d (.i i)],zT o nx s b (.osl (nx+20) 0) .ax ((s.binds.take i).map TB.d),nx+21⟩)
  (fun i=>i<=s.binds.length) (fun i=>s.binds.length - i) 0 (Nat.zero_le _) (Ih (fun _=>False) .ax _ hg (fun _ h=>h.elim) (.inl ⟨rfl,rfl,bF⟩) cg (fun j h1 h2=>by unfold zT;rw[ae _ _ _ _ (show j≠nx+20 by omega),ae _ _ _ _ h2,ae _ _ _ _ h2,ae _ _ _ _ h2]) ?_) (fun k hk=> ?_)
 ·exact jH
 replace hk:k<=s.binds.length:=hk
 have f0:=ED o nx s b (.osl (nx+20) 0) .ax ((s.binds.take k).map TB.d)
 have f1:=stA_1 o nx s b (.osl (nx+20) 0) .ax ((s.binds.take k).map TB.d)
 have f16:=stA_16 o nx s b (.osl (nx+20) 0) .ax ((s.binds.take k).map TB.d)
 have f18:=stA_18 o nx s b (.osl (nx+20) 0) .ax ((s.binds.take k).map TB.d)
 have f20:=stA_20 o nx s b (.osl (nx+20) 0) .ax ((s.binds.take k).map TB.d)
 refine Iz f0 f1 f16 f18 f20 ?_
 refine ak (fun h2=> ?_) (fun h2=> ?_)
 ·replace h2:k<s.binds.length:=by simp at h2;omega
  obtain⟨z,hz⟩:=aB h2
  refine aah f0 f1 f16 f18 f20 hz ?_
  refine bC (xk z.term (hs.bt z (List.mem_of_getElem? hz))) ?_
  have e0:(s.binds.take k).length=k:=by rw[List.length_take];omega
  have dV:k<=140737488355327/\(k+1)*48<=140737488355328:=by have:=hs.bl;omega
  simp+contextual (disch:=first|omega|simp only[go_sem,false_implies]) only[go_sem,wrap64,if_pos,f0,f1,f16,f18,f20,hz,List.length_map,e0,if_pos dV,Nat.add_assoc,Nat.left_eq_add,Nat.add_eq_left,Nat.add_left_cancel_iff]
  refine aK (bD (ids:=[nx+18,nx+24,nx+34,nx+20]) (nx:=nx+38) aE aE [([0],[]),([0],[]),([1],[]),([1],[]),([1],[]),([1],[]),([],[]),([],[]),([],[2]),([3,2],[3]),([0],[]),([0,3],[0])] bF) ?_
  refine fY ?_
  have sb:s.binds.take (k+1)=s.binds.take k++[z]:=by rw[List.take_add_one,hz];rfl
  refine aj (k+1) h2 af (Ih (fun j=>nx+20<=j) (.osl (nx+20) 1) _ hg (fun _ h=>h) (.inr ⟨nx+20,1,Nat.le_refl _,rfl,by(repeat(first|rfl|rw[aa]|rw[ae _ _ _ _ (by omega)]));rw[sb,List.map_append];rfl⟩) cg (fun j h1 h2=>by(repeat(first|rfl|rw[aa]|rw[ae _ _ _ _ (by omega)]));exact Oc _ _ _ _ _ _ _ _ _ _ h1 h2) ?_)
  exact jH
 ·replace h2:k=s.binds.length:=by simp at h2;omega
  subst h2
  refine Iz f0 f1 f16 f18 f20 ?_
  rw[List.take_length]
  refine aD (fun i:Nat=>⟨aX [.ab, .ptr nx 0, .ptr (nx+1) 0, .ptr (nx+18) 0, .ab, .ab, .ab, .ab, .ab, .ab, .ab, .ab, .ab, .ab, .ab, .ab, .ab, .ab, .ab, .ab, .ab, .ab, .ab, .ab, .ab, .ab, .ab, .ab, .ab, .ab, .ab, .ab, .ab, .ab, .ab, .ab, .ab, .ab, .ab, .ab, .ab, .ab, .ab, .ab, .ab, .ab, .d (.sl (s.aI.map Nt.d)), .d (.i s.aI.length), .d (.i i)],Ex o nx s b ((s.aI.take i).map Nt.d),nx+22⟩)
   (fun i=>i<=s.aI.length) (fun i=>s.aI.length - i) 0 (Nat.zero_le _) (Ii (fun _=>False) .ax _ hg (fun _ h=>h.elim) (.inl ⟨rfl,rfl,bF⟩) (by rw[stA_18]) (fun j h1 h2=> ?_) ?_) (fun k hk=> ?_)
  ·rw[Ex,ae _ _ _ _ (by omega)]
   by_cases e:j=nx+20
   ·subst e;rw[stA_20,stA_20]
   ·exact Oc _ _ _ _ _ _ _ _ _ _ af h2
  ·exact jH
  replace hk:k<=s.aI.length:=hk
  have g0:Ex o nx s b ((s.aI.take k).map Nt.d) nx=_:=(ae _ _ _ _ af).trans (ED _ _ _ _ _ _ _)
  have g1:Ex o nx s b ((s.aI.take k).map Nt.d) (nx+1)=_:=(ae _ _ _ _ af).trans (stA_1 _ _ _ _ _ _ _)
  have g18:Ex o nx s b ((s.aI.take k).map Nt.d) (nx+18)=_:=(ae _ _ _ _ af).trans (stA_18 _ _ _ _ _ _ _)
  have g21:Ex o nx s b ((s.aI.take k).map Nt.d) (nx+21)=_:=aa _ _ _
  refine BR g0 g1 g18 g21 ?_
  refine ak (fun h2=> ?_) (fun h2=> ?_)
  ·replace h2:k<s.aI.length:=by simp at h2;omega
   obtain⟨z,hz⟩:=aB h2
   refine Iz g0 g1 g18 g21 hz ?_
   refine bC (xk z.a (hs.nt z (List.mem_of_getElem? hz)).1) ?_
   refine Iz g0 g1 g18 g21 hz ?_
   refine bC (xk z.b (hs.nt z (List.mem_of_getElem? hz)).2) ?_
   have e0:(s.aI.take k).length=k:=by rw[List.length_take];omega
   have dV:k<=140737488355327/\(k+1)*80<=140737488355328:=by have:=hs.nl;omega
   simp+contextual (disch:=first|omega|simp only[go_sem,false_implies]) only[go_sem,wrap64,if_pos,g0,g1,g18,g21,hz,List.length_map,e0,if_pos dV,Nat.add_assoc,Nat.left_eq_add,Nat.add_eq_left,Nat.add_left_cancel_iff]
   refine aK (bD (ids:=[nx+18,nx+25,nx+36,nx+21]) (nx:=nx+40) aE aE [([0],[]),([0],[]),([1],[]),([1],[]),([],[]),([1],[]),([1],[]),([],[]),([],[]),([],[2]),([3,2],[3]),([0],[]),([0,3],[0])] bF) ?_
   refine fY ?_
   have sb:s.aI.take (k+1)=s.aI.take k++[z]:=by rw[List.take_add_one,hz];rfl
   refine aj (k+1) h2 af (Ii (fun j=>nx+21<=j) (.osl (nx+21) 1) _ hg (fun _ h=>h) (.inr ⟨nx+21,1,Nat.le_refl _,rfl,by(repeat(first|rfl|rw[aa]|rw[ae _ _ _ _ (by omega)]));rw[sb,List.map_append];rfl⟩) cg (fun j h1 h2=>by(repeat(first|rfl|rw[aa]|rw[ae _ _ _ _ (by omega)]));unfold Ex;(repeat(first|rfl|rw[aa]|rw[ae _ _ _ _ (by omega)]))) ?_)
   exact jH
  ·replace h2:k=s.aI.length:=by simp at h2;omega
   subst h2
   refine BR g0 g1 g18 g21 ?_
   refine xf _ _ (nx+20) (nx+21) (nx+16) af ?_ (fun j hj=> ?_) ?_ ?_ ?_
   ·have h1:=Od hg s b 0 .ax rfl (s.binds.map TB.d)
    unfold Ex zT
    refine Good.ay (Good.ay (Good.ay (Good.ay (Good.ay (Good.ay (Good.ay (hg.mono af) af rfl) af rfl) af rfl) af ?_) af rfl) af rfl) af ?_
    ·exact uf
    ·exact uf
   ·(repeat(first|rfl|rw[aa]|rw[ae _ _ _ _ (by omega)]))
    rw[Ex,ae _ _ _ _ (by omega)]
    exact xm _ _ _ _ _ _ _ af af af af af
   ·(repeat(first|rfl|rw[aa]|rw[ae _ _ _ _ (by omega)]))
    rw[Ex,ae _ _ _ _ (by omega)]
    exact stA_20 _ _ _ _ _ _ _
   ·(repeat(first|rfl|rw[aa]|rw[ae _ _ _ _ (by omega)]))
    rw[g21,List.take_length]
   ·(repeat(first|rfl|rw[aa]|rw[ae _ _ _ _ (by omega)]))
    rw[Ex,ae _ _ _ _ (by omega)]
    exact stA_16 _ _ _ _ _ _ _
end Go.Proofs.YtlhemmpklhhgoaaGreat
set_option maxHeartbeats 4000000
namespace Go.Proofs.YtlhemmpklhhgoaaGreat
def mM:bU:=⟨⟨[],[]⟩,[],[],[]⟩
theorem oO:mM.d= .agg [.sl [], .sl [], .sl [], .sl [], .sl []]:=rfl
def bU.mark (s:bU):bU:=⟨s.sig,s.binds,s.aI,s.marks++[((s.binds.length:Int),(s.aI.length:Int))]⟩
theorem Rw{s:az}(h:ji s=true):s.cons.length<=1000000/\s.bZ.length<=1000000:=by
 unfold ji at h
 split at h
 ·cases h
 ·rename_i h1
  simp only[Bool.or_eq_true,not_or,decide_eq_true_eq,Bool.not_eq_true',Bool.not_eq_false,dU,Bool.and_eq_true]at h1
  omega
theorem bB.cp {s:bU}(h:bB s):s.Cp:=by
 obtain⟨k1,k2⟩:=Rw h.sig
 have a1:=h.tl
 have a2:=h.D2
 have a3:=h.iS.len
 refine⟨k1,k2,af,af,af,fun x hx=> ?_,fun n hn=> ?_⟩
 ·have:=(bz (h.iS.ok x hx).2).2.1
  omega
 ·have h1:=(bz (h.aI n hn).1).2.1
  have h2:=(bz (h.aI n hn).2.1).2.1
  omega
theorem Oe{o:Nat->ad}{id:Nat}{es:List (D×D)}(h:o id= .cc es):put o (bG o [id])=o:=by
 funext j
 simp only[bG,List.map_cons,List.map_nil,h,put,List.foldl_cons,List.foldl_nil]
 by_cases e:j=id
 ·subst e;rw[aa,h]
 ·exact GH
theorem Of(s:bU)(hs:s.Cp)(b:List (Int×Tm))(o:Nat->ad)(nx id:Nat)(hg:Good o nx)(aw:o id= .cc (enc (D.int .i64) (kA b)))(K X:V->(Nat->ad)->Nat->Prop)
 (xf:∀o' nx' i j k,nx<=nx'->Good o' nx'->(∀j,j<nx->o' j=o j)->
  o' i= .arr 0 59 4 (s.binds.map TB.d)->o' j= .arr 0 101 6 (s.aI.map Nt.d)->o' k= .arr 0 77 2 (s.marks.map tj)->
  K (.agg [.d (.sl (s.sig.cons.map dX.d)), .d (.sl (s.sig.bZ.map dX.d)), .osl i 0, .osl j 0, .osl k 0]) o' nx'):
 bP Tryz.prog 65 [.agg [.d (.sl (s.sig.cons.map dX.d)), .d (.sl (s.sig.bZ.map dX.d)), .d (.sl (s.binds.map TB.d)), .d (.sl (s.aI.map Nt.d)), .d (.sl (s.marks.map tj)), .mp id]] o nx K X:=by
 refine bP.xd (d:=s.kd b) ?_ ?_
 ·exact zS aw
 ·show bP _ _ _ (put o (bG o [id])) nx K X
  rw[Oe aw]
  exact Bn s hs b o nx hg K X xf
def bU.Kk (s:bU):bU:=match s.marks.getLast? with
 |some m=>⟨s.sig,s.binds.take m.1.toNat,s.aI.take m.2.toNat,s.marks.dropLast⟩
 |none=>mM
theorem Ea{nb nn:Int}:∀ {l:List (Int×Int)} {a:Int×Int},0<=a.1->0<=a.2->mJ nb nn a l=true->∀m∈l,0<=m.1/\m.1<=nb/\0<=m.2/\m.2<=nn
 |[],_,_,_,_,m,hm=>by cases hm
 |x::l,a,h1,h2,h,m,hm=>by
  simp only[mJ,Bool.and_eq_true,Bool.not_eq_true',Bool.or_eq_false_iff,decide_eq_false_iff_not]at h
  obtain⟨⟨⟨⟨g1,g2⟩,g3⟩,g4⟩,g5⟩:=h
  rcases List.mem_cons.1 hm with rfl|hm
  ·omega
  ·exact Ea af af g5 m hm
end Go.Proofs.YtlhemmpklhhgoaaGreat
namespace Go.Proofs.YtlhemmpklhhgoaaGreat
section
section
variable {P:Program}
def tt(P:Program)(n t t1:Nat)(ic:IC)(bR:List V)(u:V)(o:Nat->ad)(nx:Nat)(K:(Nat->ad)->Nat->Prop):Prop:=
 bR.length<=n/\j7 P n nx true ic (JN K) ⟨ay (ay (cC bR) t u) t1 u,o,nx⟩
def rJ(P:Program)(n t t1:Nat)(ic:IC)(bR:List V)(rs:List ResultVar)(K X:V->(Nat->ad)->Nat->Prop)(e:fK)(s:S):Prop:=
 match e with
 | .normal| .ret=>tt P n t t1 ic bR (.d .eW) s.o s.nx fun o nx=>sS P rs K X .ret ⟨s.env,o,nx⟩
 | .bN v=>tt P n t t1 ic bR v s.o s.nx fun o nx=>sS P rs K X .ret ⟨s.env,o,nx⟩
 | .exit _=>False
def Bo(P:Program)(n t:Nat)(fq:IC)(fE:List Operand)(g:FuncId)(D:List V->fK->S->Prop)(e:fK)(s:S):Prop:=
 match e with
 | .normal=>j7 P n s.nx false fq (D (fE.map s.ev)) ⟨ay s.env t (.func (.func g) [] (fE.map s.ev)),s.o,s.nx⟩
 |_=>False
variable {n t t1:Nat}{ic fq:IC}{bR:List V}{rs:List ResultVar}{K X:V->(Nat->ad)->Nat->Prop}{s:S}{v:V}{fE:List Operand}{g:FuncId}{D:List V->fK->S->Prop}{KR:(Nat->ad)->Nat->Prop}
@[go_sem ↓] theorem Og:rJ P n t t1 ic bR rs K X .normal s=tt P n t t1 ic bR (.d .eW) s.o s.nx fun o nx=>sS P rs K X .ret ⟨s.env,o,nx⟩:=propext Iff.rfl
@[go_sem ↓] theorem Vh:rJ P n t t1 ic bR rs K X .ret s=tt P n t t1 ic bR (.d .eW) s.o s.nx fun o nx=>sS P rs K X .ret ⟨s.env,o,nx⟩:=propext Iff.rfl
@[go_sem ↓] theorem Vi:rJ P n t t1 ic bR rs K X (.bN v) s=tt P n t t1 ic bR v s.o s.nx fun o nx=>sS P rs K X .ret ⟨s.env,o,nx⟩:=propext Iff.rfl
@[go_sem ↓] theorem Oh:Bo P n t fq fE g D .normal s=j7 P n s.nx false fq (D (fE.map s.ev)) ⟨ay s.env t (.func (.func g) [] (fE.map s.ev)),s.o,s.nx⟩:=propext Iff.rfl
@[go_sem ↓] theorem Vj:JN KR .normal s=KR s.o s.nx:=propext Iff.rfl
@[go_sem ↓] theorem aeV:JN KR .ret s=KR s.o s.nx:=propext Iff.rfl
theorem tt.w {o:Nat->ad}{nx:Nat}{K K':(Nat->ad)->Nat->Prop}(hK:∀o nx,K o nx->K' o nx)(h:tt P n t t1 ic bR v o nx K):Fu P n t t1 ic bR v o nx K':=by
 refine⟨h.1,ej ic _ _ _ (fun e s h=> ?_) h.2⟩
 unfold JN at h|-
 cases e with
 |normal=>exact hK _ _ h
 |ret=>exact hK _ _ h
 |_=>exact h
theorem bP.Kl (bf:P.follows .mixedOrders=true){f g:FuncId}{jS fq zf:IC}{t m r r1:Nat}{fE:List Operand}{rs:List ResultVar}(hf:Hm P f n jS fq g t fE rs)(hg:Df P g m r r1 zf)
 {args:List V} {o:Nat->ad} {nx:Nat} {K X:V->(Nat->ad)->Nat->Prop} (hl:args.length<=n)
 (h:j7 P n nx true jS (Bo P n t fq fE g fun bR=>rJ P m r r1 zf bR rs K X) ⟨cC args,o,nx⟩):bP P f args o nx K X:=by
 refine bP.Di bf hf hg hl (ej jS _ _ _ (fun e s h=> ?_) h)
 unfold Bo at h
 unfold Dg
 cases e with
 |normal=>
  refine ej fq _ _ _ (fun e s h=> ?_) h
  unfold rJ at h
  unfold AU
  cases e with
  |normal=>exact tt.w (fun _ _ h=>by unfold sS at h;exact h) h
  |ret=>exact tt.w (fun _ _ h=>by unfold sS at h;exact h) h
  |bN v=>exact tt.w (fun _ _ h=>by unfold sS at h;exact h) h
  |exit _=>exact h
 |_=>exact h
end
attribute [irreducible] tt
theorem qi{P:Program}{n t t1:Nat}{ic:IC}{bR:List V}{v:V}{o:Nat->ad}{nx:Nat}{K:(Nat->ad)->Nat->Prop}(h1:bR.length<=n)(h2:j7 P n nx true ic (JN K) ⟨ay (ay (cC bR) t v) t1 v,o,nx⟩):tt P n t t1 ic bR v o nx K:=by
 unfold tt
 exact⟨h1,h2⟩
end
end Go.Proofs.YtlhemmpklhhgoaaGreat
set_option maxHeartbeats 4000000
namespace Go.Proofs.YtlhemmpklhhgoaaGreat
theorem YQ{o:Nat->ad}:qu Tryz.prog o 20 true (.d .eW) (.d .eW)=some (.d (.bool true)):=ai
theorem YR{o:Nat->ad}:qu Tryz.prog o 20 true (.d (.iface 162 (.agg []))) (.d .eW)=some (.d (.bool false)):=ai
theorem YS{o:Nat->ad}:qu Tryz.prog o 20 true (.d (.iface 163 (.agg []))) (.d .eW)=some (.d (.bool false)):=ai
theorem Eb:vB Tryz.prog 162=true:=ai
theorem Ec:vB Tryz.prog 163=true:=ai
def AtK(K:V->(Nat->ad)->Nat->Prop)(nx:Nat)(e:Int)(o':Nat->ad)(nx':Nat):Prop:=
 nx+2<=nx'/\Good o' nx'/\o' nx= .row [.d (.i 0)]/\∀o2 n2,nx'<=n2->Good o2 n2->(∀j,j≠nx->j<nx'->o2 j=o' j)->K (.d (.i e)) o2 n2
theorem zJ(g:Nat)(bR:List V)(o:Nat->ad)(nx:Nat)(hg:Good o nx)(K X:V->(Nat->ad)->Nat->Prop)
 (hc:bP Tryz.prog g bR (ay o nx (.row [.d (.i 0)])) (nx+2) (fun v o' nx'=>AtK K nx 0 o' nx')
  (fun v o' nx'=>(v= .d (.iface 162 (.agg []))/\AtK K nx 5 o' nx')\/(v= .d (.iface 163 (.agg []))/\AtK K nx 3 o' nx'))):
 bP Tryz.prog 101 [.func (.func g) [] bR] o nx K X:=by
 refine bP.Kl mix M8 M6 aE ?_
 rw[M7,Xr]
 refine fY ?_
 refine gG (bP.mono (fun v o' nx' h=> ?_) (fun v o' nx' h=> ?_) hc)
 ·obtain⟨h1,h2,h3,h4⟩:=h
  refine Iy h3 ?_
  refine qi aE ?_
  rw[M5]
  simp+contextual (disch:=first|omega|simp only[go_sem,false_implies]) only[go_sem,wrap64,if_pos,Nat.add_assoc,Nat.left_eq_add,Nat.add_eq_left,Nat.add_left_cancel_iff,h3,YQ]
  exact h4 _ _ af (Good.ay (h2.mono af) af rfl) (fun j j1 j2=>ae _ _ _ _ j1)
 ·rcases h with⟨rfl,h1,h2,h3,h4⟩|⟨rfl,h1,h2,h3,h4⟩
  ·refine Iy h3 ?_
   refine qi aE ?_
   rw[M5]
   simp+contextual (disch:=first|omega|simp only[go_sem,false_implies]) only[go_sem,wrap64,if_pos,Nat.add_assoc,Nat.left_eq_add,Nat.add_eq_left,Nat.add_left_cancel_iff,h3,YR,Eb,Ec]
   exact aax
  ·refine Iy h3 ?_
   refine qi aE ?_
   rw[M5]
   simp+contextual (disch:=first|omega|simp only[go_sem,false_implies]) only[go_sem,wrap64,if_pos,Nat.add_assoc,Nat.left_eq_add,Nat.add_eq_left,Nat.add_left_cancel_iff,h3,YS,Eb,Ec]
   exact aax
theorem Ij(s:bU)(hs:s.Fin)(a c:Tm)(ha:a.Fin)(hc:c.Fin)(o:Nat->ad)(nx:Nat)(hg:Good o nx)(K X:V->(Nat->ad)->Nat->Prop)
 (xf:bB s->bJ s.sig a=true->bJ s.sig c=true->∀o' nx' id,nx<=nx'->Good o' nx'->(∀j,j<nx->o' j=o j)->o' id= .cc (enc (D.int .i64) (kA (ag s.binds)))->K (.bY [.agg (s.row++[.mp id]), .d (.bool true)]) o' nx')
 (mP: ¬ (bB s/\bJ s.sig a=true/\bJ s.sig c=true)->∀o' nx' id m,nx<=nx'->id<nx'->Good o' nx'->(∀j,j<nx->o' j=o j)->o' id=dt m\/o' id= .cc (enc (D.int .i64) (kA m))->K (.bY [.agg (s.row++[.mp id]), .d (.bool false)]) o' nx'):
 bP Tryz.prog 63 [.d s.d, .d a.d, .d c.d] o nx K X:=by
 refine bP.aG mix ada aE ?_
 rw[c63]
 refine fY ?_
 refine bX (Rr s hs _ _ dh _ _ (fun h o' nx' id i1 i2 i3 i4=> ?_) (fun h o' nx' id m i1 i0 i2 i3 i4=> ?_))
 ·have e0:o' nx= .row s.row:=(i3 _ af).trans cg
  have e1:o' (nx+1)= .row a.row:=(i3 _ af).trans cg
  have e2:o' (nx+2)= .row c.row:=(i3 _ af).trans cg
  have e3:o' (nx+3)= .row [.ax, .ax, .ax, .ax, .ax, .d .dL]:=(i3 _ af).trans cg
  have aw:id<nx':=Good.lt i2 LB
  have w1:∀k,nx≠nx'+k:=fun k=>af
  have w2:∀k j,nx+j≠nx'+k\/True:=fun k j=> .inr trivial
  have w3:∀k,id≠nx'+k:=fun k=>af
  have hgr:Good (ay (ay o' (nx'+3) (.row [.ax, .ax, .ax, .ax, .ax, .d .dL])) (nx'+3) (.row (s.row++[.mp id]))) (nx'+6):=by
   refine Good.ay (Good.ay (i2.mono af) af rfl) af ?_
   simp[ad.refs,V.aL,V.refs]
   omega
  have d1:id≠nx+1:=fun e=>by subst e;rw[i4]at e1;cases e1
  have d2:id≠nx+2:=fun e=>by subst e;rw[i4]at e2;cases e2
  have d3:id≠nx+3:=fun e=>by subst e;rw[i4]at e3;cases e3
  have kno: ¬ (bJ s.sig a=true/\bJ s.sig c=true)->∀o2 n2,nx'<=n2->Good o2 n2->(∀j,j<nx->o2 j=o' j)->o2 id=o' id->K (.bY [.agg (s.row++[.mp id]), .d (.bool false)]) o2 n2:=fun hv o2 n2 q1 q2 q3 q4=>
   mP (fun h=>hv h.2) o2 n2 id (ag s.binds) af af q2 (fun j hj=>by rw[q3 j hj,i3 j (by omega)];(repeat(first|rfl|rw[aa]|rw[ae _ _ _ _ (by omega)]))) (.inr (by rw[q4,i4]))
  refine Ez e0 e1 e2 e3 i4 w1 w3 ?_
  refine aZ (oh s hs.sig (ag s.binds) a ha) rfl ?_
  cases va:bJ s.sig a with
  |false=>
   refine Ez e0 e1 e2 e3 i4 w1 w3 ?_
   refine aK (bD (ids:=[nx'+3,nx+1,nx+2,nx+3,id]) (nx:=nx'+20) gL gL [([0],[]),([],[]),([],[]),([0],[]),([1],[]),([4],[]),([],[]),([],[]),([],[]),([],[]),([],[]),([],[]),([3,4],[3]),([],[])] bF) ?_
   refine fY ?_
   exact kno (fun h=>by rw[va]at h;exact Bool.false_ne_true h.1) _ _ af (Good.ay (Good.mono hgr af) af Ld) (fun j hj=>by(repeat(first|rfl|rw[aa]|rw[ae _ _ _ _ (by omega)]))) cg
  |true=>
   refine Ez e0 e1 e2 e3 i4 w1 w3 ?_
   refine aZ (oh s hs.sig (ag s.binds) c hc) rfl ?_
   cases vc:bJ s.sig c with
   |false=>
    refine Ez e0 e1 e2 e3 i4 w1 w3 ?_
    refine aK (bD (ids:=[nx'+3,nx+1,nx+2,nx+3,id]) (nx:=nx'+20) gL gL [([0],[]),([],[]),([],[]),([0],[]),([1],[]),([4],[]),([],[]),([],[]),([0],[]),([2],[]),([4],[]),([],[]),([3,4],[3]),([],[])] bF) ?_
    refine fY ?_
    exact kno (fun h=>by rw[vc]at h;exact Bool.false_ne_true h.2) _ _ af (Good.ay (Good.mono hgr af) af Ld) (fun j hj=>by(repeat(first|rfl|rw[aa]|rw[ae _ _ _ _ (by omega)]))) cg
   |true=>
    refine Ez e0 e1 e2 e3 i4 w1 w3 ?_
    refine aK (bD (ids:=[nx'+3,nx+1,nx+2,nx+3,id]) (nx:=nx'+20) gL gL [([0],[]),([],[]),([],[]),([0],[]),([1],[]),([4],[]),([],[]),([],[]),([0],[]),([2],[]),([4],[]),([],[]),([3,4],[3]),([],[])] bF) ?_
    refine fY ?_
    exact xf h va vc _ _ id af (Good.ay (Good.mono hgr af) af Ld) (fun j hj=>by(repeat(first|rfl|rw[aa]|rw[ae _ _ _ _ (by omega)]));rw[i3 j (by omega)];(repeat(first|rfl|rw[aa]|rw[ae _ _ _ _ (by omega)]))) VI
 ·have e0:o' nx= .row s.row:=(i3 _ af).trans cg
  have e3:o' (nx+3)= .row [.ax, .ax, .ax, .ax, .ax, .d .dL]:=(i3 _ af).trans cg
  have w1:∀k,nx≠nx'+k:=fun k=>af
  have w3:∀k,id≠nx'+k:=fun k=>af
  simp only[bU.row,List.cons_append,List.nil_append]at mP|-
  have e1:o' (nx+1)= .row a.row:=(i3 _ af).trans cg
  have e2:o' (nx+2)= .row c.row:=(i3 _ af).trans cg
  have d1:id≠nx+1:=fun e=>by subst e;rw[e1]at i4;rcases i4 with h|h<;>cases h
  have d2:id≠nx+2:=fun e=>by subst e;rw[e2]at i4;rcases i4 with h|h<;>cases h
  have d3:id≠nx+3:=fun e=>by subst e;rw[e3]at i4;rcases i4 with h|h<;>cases h
  refine BC e0 e3 w1 w3 ?_
  refine aK (bD (ids:=[nx'+3,nx+1,nx+2,nx+3,id]) (nx:=nx'+20) gL gL [([0],[]),([],[]),([],[]),([],[]),([],[]),([],[]),([],[]),([],[]),([],[]),([],[]),([],[]),([],[]),([3,4],[3]),([],[])] bF) ?_
  refine fY ?_
  refine mP (fun h'=>h h'.1) _ _ id m af af ?_ (fun j hj=>by(repeat(first|rfl|rw[aa]|rw[ae _ _ _ _ (by omega)]));rw[i3 j (by omega)];(repeat(first|rfl|rw[aa]|rw[ae _ _ _ _ (by omega)]))) VI
  refine Good.ay (Good.ay (Good.ay (i2.mono af) af rfl) af ?_) af ?_
  all_goals (simp[ad.refs,V.aL,V.refs];omega)
end Go.Proofs.YtlhemmpklhhgoaaGreat
set_option maxHeartbeats 4000000
namespace Go.Proofs.YtlhemmpklhhgoaaGreat
theorem Oi(l:List Nt)(hl:l.length<=1000)(g:Nat)(kv:V)(kd:D)(brk:Nt->Bool)(hb:∀x∈l,aW Tryz.prog g [kd,x.d] (.ret [.bool (brk x)]))(o:Nat->ad)(nx:Nat)(hg:Good o nx)(hr:∀r∈kv.refs,r<nx)(hk:dM o kv=some kd)(K X:V->(Nat->ad)->Nat->Prop)
 (hK:∀r:Int,decide (0<=r)=l.any brk->∀nx',nx<=nx'->K (.d (.i r)) o nx'):
 bP Tryz.prog 126 [.d (.sl (l.map Nt.d)), .func (.func g) [kv] []] o nx K X:=by
 refine bP.aG mix Na aE ?_
 rw[QO]
 refine Ey ?_
 refine aD (fun i:Nat=>⟨aX [.d (.sl (l.map Nt.d)), .func (.func g) [kv] [], .ab, .ab, .ab, .ab, .ab, .d (.i l.length), .d (.i i)],o,nx⟩)
  (fun i=>i<=l.length/\l.any brk=(l.drop i).any brk) (fun i=>l.length - i) 0 ⟨Nat.zero_le _,rfl⟩ ?_ ?_
 ·exact Tc
 rintro k ⟨Mi,zV⟩
 refine Ey ?_
 refine ak (fun h1=> ?_) (fun h1=> ?_)
 ·have h1:k<l.length:=by simp at h1;omega
  obtain⟨x,hx⟩:=aB h1
  have cf:=List.mem_of_getElem? hx
  have hd:l.drop k=x::l.drop (k+1):=by
   exact LH
  rw[hd,List.any_cons]at zV
  simp+contextual (disch:=first|omega|simp only[go_sem,false_implies]) only[go_sem,wrap64,if_pos,hx,Nat.add_assoc,Nat.left_eq_add,Nat.add_eq_left,Nat.add_left_cancel_iff,List.length_map,hk]
  refine aq (hb x cf) rfl ?_
  cases ym:brk x with
  |true=>
   rw[ym]at zV
   refine fY ?_
   exact hK k aa9 _ af
  |false=>
   rw[ym]at zV
   refine fY ?_
   refine aj (k+1) ⟨h1,zV⟩ af ?_
   exact Tc
 ·have h1:k=l.length:=by simp at h1;omega
  subst h1
  refine fY ?_
  exact hK _ abd _ af
theorem pC(l:List Nt)(hl:l.length<=1000)(g:Nat)(kv:V)(kd:D)(brk:Nt->Bool)(hb:∀x∈l,aW Tryz.prog g [kd,x.d] (.ret [.bool (brk x)]))(o:Nat->ad)(nx:Nat)(hg:Good o nx)(hr:∀r∈kv.refs,r<nx)(hk:dM o kv=some kd)(K X:V->(Nat->ad)->Nat->Prop)
 (hK:∀nx',nx<=nx'->K (.d (.bool (l.any brk))) o nx'):
 bP Tryz.prog 88 [.d (.sl (l.map Nt.d)), .func (.func g) [kv] []] o nx K X:=by
 refine bP.aG mix Xq aE ?_
 rw[c88]
 refine fY ?_
 refine aT (Oi l hl g kv kd brk hb o _ (hg.mono af) (fun r h=>by have:=hr r h;omega) hk _ _ fun r h1 nx' h2=> ?_)
 refine Iy h1 ?_
 exact hK _ af
end Go.Proofs.YtlhemmpklhhgoaaGreat
set_option maxHeartbeats 8000000
namespace Go.Proofs.YtlhemmpklhhgoaaGreat
theorem Rx(l:List TB)(hl:l.length<=1000):O4 Tryz.prog 104 [.sl (l.map TB.d)] (.pb (l.map TB.d)):=by
 refine O4.la rfl ?_
 refine bP.aG mix Uh aE ?_
 rw[Xu]
 have hc:((l.map TB.d).all fun z=>z.cells.length==4)=true:=by
  rw[List.all_eq_true]
  intro z hz
  obtain⟨r,_,rfl⟩:=List.mem_map.1 hz
  rfl
 have hk:(l.map TB.d).take l.length=l.map TB.d:=List.take_of_length_le aE
 exact aao hk
theorem Ry{s:az}{b:List (Int×Tm)}{a c:Tm}(hb:qp s b)(ha:QT s a)(hc:QT s c){f:Nat}{e:Int}{b':List (Int×Tm)}(hf:jl true f a c b=some (e,b')){p q r x m:Nat}(o:Nat->ad)(nx:Nat)(hg:Good o nx)
 (hp:o p= .row [.ptr x 0]) (hq:o q= .row a.row) (hr:o r= .row c.row) (hx:o x= .row [.mp m, .ax, .d (.bool true)]) (hm:o m=dt b) (K X:V->(Nat->ad)->Nat->Prop)
 (aY:e=0->∀E:List TB,b'=b++ag E->∀o' nx' l,nx<=l->nx<=nx'->Good o' nx'->EqH o' x m l 0 true b' E->(∀j,j<nx->j≠x->j≠m->o' j=o j)->K (.bY []) o' nx')
 (mP:e=5->∀o' nx',nx<=nx'->Good o' nx'->(∀j,j<nx->j≠x->j≠m->o' j=o j)->X (.d (.iface 162 (.agg []))) o' nx')
 (Ag:e=3->∀o' nx',nx<=nx'->Good o' nx'->(∀j,j<nx->j≠x->j≠m->o' j=o j)->X (.d (.iface 163 (.agg []))) o' nx'):
 bP Tryz.prog 102 [.ptr p 0, .ptr q 0, .ptr r 0] o nx K X:=by
 have lp:p<nx:=hg.lt BW
 have lq:q<nx:=hg.lt (by rw[hq];exact ad.noConfusion)
 have lr:r<nx:=hg.lt (by rw[hr];exact ad.noConfusion)
 refine bP.aG mix Uf aE ?_
 rw[Xs]
 refine K0 hq hr ?_
 refine aT (xe hb ha hc (L:=[]) aE hf (x:=x) (m:=m) (xl:= .ax) o o _ (fun _=>False) ?_ ?_ hx hm (.inl ⟨rfl,rfl,bF⟩) (fun _ h=>h.elim) (fun j _=> .inr rfl) _ _ (fun h0 E hE o' nx' h1 h2 h3 h4=> ?_) (fun h5 o' nx' h1 h2 h4=> ?_) (fun h3 o' nx' h1 h2 h4=> ?_))
 ·exact hg.mono af
 ·exact hg.mono af
 ·refine cK ?_
  exact aY h0 E hE _ _ _ af af h2 h3 (fun j j1 j2 j3=>h4 j af j2 j3)
 ·refine cK ?_
  exact mP h5 _ _ af h2 (fun j j1 j2 j3=>h4 j af j2 j3)
 ·refine cK ?_
  exact Ag h3 _ _ af h2 (fun j j1 j2 j3=>h4 j af j2 j3)
theorem bB.aci {s:bU}(h:bB s):qp s.sig (ag s.binds):=⟨h.iS.keys,fun p hp=>by obtain⟨x,hx,rfl⟩:=dq hp;exact⟨(h.iS.ok x hx).1,w9 (h.iS.ok x hx).2⟩,h.iS.FW⟩
def IsB(o:Nat->ad)(vb:V)(a b:Nat)(L:List D):Prop:=vb= .pb L\/∃l,vb= .osl l 0/\a<=l/\l<b/\o l= .arr 0 59 4 L
theorem YT{s:bU}(hs:bB s){a c:Tm}(ha:bJ s.sig a=true)(hc:bJ s.sig c=true){f:Nat}{e:Int}{b':List (Int×Tm)}(hf:jl true f a c (ag s.binds)=some (e,b')){id:Nat}(o:Nat->ad)(nx:Nat)(hg:Good o nx)
 (aw:o id= .cc (enc (D.int .i64) (kA (ag s.binds)))) (brk:Nt->Bool) (xZ:e=0->∀E,b'=ag (s.binds++E)->∀n∈s.aI,aW Tryz.prog 66 [bU.kd ⟨s.sig,s.binds++E,s.aI,s.marks⟩ b',n.d] (.ret [.bool (brk n)])) (K X:V->(Nat->ad)->Nat->Prop)
 (mP:e=5\/e=3->∀o' nx',nx<=nx'->Good o' nx'->(∀j,j<nx->o' j=o j)->K (.bY [.agg [.ax, .ax, .ax, .ax, .ax, .d .dL], .d (.i e)]) o' nx')
 (Zm:e=0->s.aI.any brk=true->∀o' nx',nx<=nx'->Good o' nx'->(∀j,j<nx->o' j=o j)->K (.bY [.agg [.ax, .ax, .ax, .ax, .ax, .d .dL], .d (.i 5)]) o' nx')
 (aY:e=0->∀E,b'=ag (s.binds++E)->s.aI.any brk=false->∀o' nx' vb mid,nx<=nx'->Good o' nx'->(∀j,j<nx->o' j=o j)->IsB o' vb nx nx' ((s.binds++E).map TB.d)->nx<=mid->o' mid=dt b'->K (.bY [.agg [.d (.sl (s.sig.cons.map dX.d)), .d (.sl (s.sig.bZ.map dX.d)),vb, .d (.sl (s.aI.map Nt.d)), .d (.sl (s.marks.map tj)), .mp mid], .d (.i 0)]) o' nx'):
 bP Tryz.prog 64 [.agg (s.row++[.mp id]), .d a.d, .d c.d] o nx K X:=by
 have rm:id<nx:=hg.lt (by rw[aw];exact ad.noConfusion)
 refine bP.aG mix adb aE ?_
 rw[c64]
 simp only[bU.row,List.cons_append,List.nil_append]
 refine Iy aw ?_
 refine bX (bP.Ho Nb (kt:=3) (vt:=33) (l:=enc (D.int .i64) (kA (ag s.binds))) (by(repeat(first|rfl|rw[aa]|rw[ae _ _ _ _ (by omega)]));exact aw) ?_)
 refine Iy aw ?_
 have hgH:Good (ay (ay (ay (ay (ay (ay (ay (ay o nx (.row (s.row++[.mp id]))) (nx+1) (.row a.row)) (nx+2) (.row c.row)) (nx+3) (.row [.ax, .ax, .ax, .ax, .ax, .d .dL])) (nx+7) (dt (ag s.binds))) (nx+9) (.row [.mp (nx+7), .ax, .d (.bool true)])) (nx+10) (.row [.d .lG])) (nx+10) (.row [.ptr (nx+9) 0])) (nx+13):=by
  refine Good.ay (Good.ay (Good.ay (Good.ay (Good.ay (Good.ay (Good.ay (Good.ay (hg.mono af) af ?_) af rfl) af rfl) af rfl) af rfl) af ?_) af rfl) af ?_
  all_goals (simp[ad.refs,V.aL,V.refs]<;>omega)
 refine aT (zJ _ _ _ _ hgH _ _ (Ry hs.aci (w9 ha) (w9 hc) hf (p:=nx+10) (q:=nx+1) (r:=nx+2) (x:=nx+9) (m:=nx+7) _ _ ?_ cg cg cg cg cg _ _ (fun h0 E hE o1 n1 l g1 g2 g3 g4 g5=>⟨af,g3, ?_,fun o2 n2 k1 k2 k3=> ?_⟩) (fun h5 o1 n1 g2 g3 g5=> .inl ⟨rfl,af,g3, ?_,fun o2 n2 k1 k2 k3=> ?_⟩) (fun h3 o1 n1 g2 g3 g5=> .inr ⟨rfl,af,g3, ?_,fun o2 n2 k1 k2 k3=> ?_⟩)))
 ·exact Good.ay (hgH.mono af) af rfl
 ·exact VE
 ·have ll:l<n1:=g3.lt (by rw[g4.Ub];exact ad.noConfusion)
  have f0:o2 nx= .row (s.row++[.mp id]):=by rw[k3 _ (by omega) (by omega),g5 _ (by omega) (by omega) (by omega)];(repeat(first|rfl|rw[aa]|rw[ae _ _ _ _ (by omega)]))
  have f3:o2 (nx+3)= .row [.ax, .ax, .ax, .ax, .ax, .d .dL]:=by rw[k3 _ (by omega) (by omega),g5 _ (by omega) (by omega) (by omega)];(repeat(first|rfl|rw[aa]|rw[ae _ _ _ _ (by omega)]))
  have f10:o2 (nx+10)= .row [.ptr (nx+9) 0]:=by rw[k3 _ (by omega) (by omega),g5 _ (by omega) (by omega) (by omega)];(repeat(first|rfl|rw[aa]|rw[ae _ _ _ _ (by omega)]))
  have f9:o2 (nx+9)= .row [.mp (nx+7), .osl l 0, .d (.bool true)]:=by rw[k3 _ (by omega) (by omega)];exact g4.row
  have f7:o2 (nx+7)=dt b':=by rw[k3 _ (by omega) (by omega)];exact g4.map
  have fl:o2 l= .arr 0 59 4 (E.map TB.d):=by rw[k3 _ (by omega) (by omega)];exact g4.Ub
  have c7:∀j,j<nx->o2 j=o j:=fun j hj=>by rw[k3 _ (by omega) (by omega),g5 _ (by omega) (by omega) (by omega)];(repeat(first|rfl|rw[aa]|rw[ae _ _ _ _ (by omega)]))
  have w1:∀k,nx≠n2+k:=fun k=>af
  have w2:∀k,l≠n2+k:=fun k=>af
  have w3:l≠nx:=af
  refine IA f0 f3 f10 f9 f7 fl w1 w2 w3 ?_
  refine zd (Rx s.binds (by have:=hs.iS.len;omega)) ?_
  refine IA f0 f3 f10 f9 f7 fl w1 w2 w3 ?_
  have Rz:b'=ag (s.binds++E):=by rw[hE,dS]
  have hlen:s.binds.length+E.length<=20:=by
   have h1:=(xa f a c _ b' (h0 ▸ hf) hs.aci (w9 ha) (w9 hc)).1
   have h2:=DU h1.keys fun v hv=>by
    obtain⟨p,hp,rfl⟩:=List.mem_map.1 hv
    exact(h1.ok p hp).1
   rw[List.length_map,Rz]at h2
   unfold ag at h2
   rw[List.length_map,List.length_append]at h2
   exact h2
  have dV:s.binds.length+E.length<=1099511627776/\(s.binds.length+E.length)*48<=1099511627776:=af
  by_cases hn:E=[]
  ·subst hn
   simp+contextual (disch:=first|omega|simp only[go_sem,false_implies]) only[go_sem,wrap64,if_pos,List.map_nil,if_true]
   refine aK (bD (ids:=[nx,nx+10,nx+9,l]) (nx:=n2+21) gL gL [([0],[]),([0],[]),([0],[]),([],[]),([1],[]),([2],[]),([2],[]),([2],[]),([3],[]),([0],[]),([0],[]),([0],[0])] bF) ?_
   refine zR f3 f10 f9 f7 w1 ?_
   have uO:=hs.tl
   refine aT (pC s.aI af 66 _ _ brk (xZ h0 [] Rz) _ _ ?_ ?_ ?_ _ _ (fun n3 h3=> ?_))
   ·refine(Good.ay (Good.ay (k2.mono af) af ?_) af ?_)
    all_goals (simp[ad.refs,V.aL,V.refs]<;>omega)
   ·intro r hr
    simp[V.aL,V.refs]at hr
    omega
   ·simp+contextual (disch:=first|omega|simp only[go_sem,false_implies]) only[go_sem,wrap64,if_pos,f7,w1,Nat.add_assoc,Nat.left_eq_add,Nat.add_eq_left,Nat.add_left_cancel_iff,List.append_nil]
   cases OX:s.aI.any brk with
   |true=>
    refine zR f3 f10 f9 f7 w1 ?_
    refine Zm h0 OX _ _ af (Good.ay (Good.ay (Good.ay (k2.mono af) af ?_) af ?_) af ?_) (fun j hj=>by(repeat(first|rfl|rw[aa]|rw[ae _ _ _ _ (by omega)]));exact c7 j hj)
    all_goals (simp[ad.refs,V.aL,V.refs]<;>omega)
   |false=>
    refine zR f3 f10 f9 f7 w1 ?_
    refine aY h0 [] Rz OX _ _ (.pb (s.binds.map TB.d)) (nx+7) af (Good.ay (Good.ay (Good.ay (k2.mono af) af ?_) af ?_) af ?_) (fun j hj=>by(repeat(first|rfl|rw[aa]|rw[ae _ _ _ _ (by omega)]));exact c7 j hj) (.inl (by rw[List.append_nil])) af Lb
    all_goals (simp[ad.refs,V.aL,V.refs]<;>omega)
  ·have L6: ¬List.map TB.d E=[]:=by simpa using hn
   rw[if_neg L6,if_pos dV]
   refine IA f0 f3 f10 f9 f7 fl w1 w2 w3 ?_
   refine aK (bD (ids:=[nx,nx+10,nx+9,l,n2+17]) (nx:=n2+21) gL gL [([0],[]),([0],[]),([0],[]),([],[]),([1],[]),([2],[]),([2],[]),([2],[]),([3],[4]),([0],[]),([0],[]),([0,4],[0])] bF) ?_
   refine zR f3 f10 f9 f7 w1 ?_
   have uO:=hs.tl
   refine aT (pC s.aI af 66 _ _ brk (xZ h0 E Rz) _ _ ?_ ?_ ?_ _ _ (fun n3 h3=> ?_))
   ·refine(Good.ay (Good.ay (Good.ay (k2.mono af) af ?_) af ?_) af ?_)
    all_goals (simp[ad.refs,V.aL,V.refs]<;>omega)
   ·intro r hr
    simp[V.aL,V.refs]at hr
    omega
   ·refine K2 f7 w1 ?_
    rw[<- List.map_append]
   cases OX:s.aI.any brk with
   |true=>
    refine zR f3 f10 f9 f7 w1 ?_
    refine Zm h0 OX _ _ af (Good.ay (Good.ay (Good.ay (Good.ay (k2.mono af) af ?_) af ?_) af ?_) af ?_) (fun j hj=>by(repeat(first|rfl|rw[aa]|rw[ae _ _ _ _ (by omega)]));exact c7 j hj)
    all_goals (simp[ad.refs,V.aL,V.refs]<;>omega)
   |false=>
    refine zR f3 f10 f9 f7 w1 ?_
    refine aY h0 E Rz OX _ _ (.osl (n2+17) 0) (nx+7) af (Good.ay (Good.ay (Good.ay (Good.ay (k2.mono af) af ?_) af ?_) af ?_) af ?_) (fun j hj=>by(repeat(first|rfl|rw[aa]|rw[ae _ _ _ _ (by omega)]));exact c7 j hj) (.inr ⟨n2+17,rfl,af,af,by(repeat(first|rfl|rw[aa]|rw[ae _ _ _ _ (by omega)]));rw[List.map_append]⟩) af Lb
    all_goals (simp[ad.refs,V.aL,V.refs]<;>omega)
 ·exact VE
 ·have h9:o2 (nx+3)= .row [.ax, .ax, .ax, .ax, .ax, .d .dL]:=by rw[k3 _ (by omega) (by omega),g5 _ (by omega) (by omega) (by omega)];(repeat(first|rfl|rw[aa]|rw[ae _ _ _ _ (by omega)]))
  refine Iy h9 ?_
  have e5:e=5:=h5
  subst e5
  exact mP (.inl rfl) _ _ af (Good.ay (k2.mono af) af rfl) (fun j hj=>by rw[ae _ _ _ _ (by omega),k3 _ (by omega) (by omega),g5 _ (by omega) (by omega) (by omega)];(repeat(first|rfl|rw[aa]|rw[ae _ _ _ _ (by omega)])))
 ·exact VE
 ·have h9:o2 (nx+3)= .row [.ax, .ax, .ax, .ax, .ax, .d .dL]:=by rw[k3 _ (by omega) (by omega),g5 _ (by omega) (by omega) (by omega)];(repeat(first|rfl|rw[aa]|rw[ae _ _ _ _ (by omega)]))
  refine Iy h9 ?_
  have e5:e=3:=h3
  subst e5
  exact mP (.inr rfl) _ _ af (Good.ay (k2.mono af) af rfl) (fun j hj=>by rw[ae _ _ _ _ (by omega),k3 _ (by omega) (by omega),g5 _ (by omega) (by omega) (by omega)];(repeat(first|rfl|rw[aa]|rw[ae _ _ _ _ (by omega)])))
end Go.Proofs.YtlhemmpklhhgoaaGreat
set_option maxHeartbeats 4000000
namespace Go.Proofs.YtlhemmpklhhgoaaGreat
theorem oP(l:List TB):xY (ag l)=l:=by
 unfold ag xY
 rw[List.map_map]
 exact List.map_id _
theorem il{s:az}{t:Tm}(h:bJ s t=true):t.gN:=Tm.F9 _ (by have:=(bz h).2.1;omega)
theorem qp.len {s:az}{l:List TB}(h:qp s (ag l)):l.length<=20:=by
 have:=DU h.keys fun v hv=>by
  obtain⟨p,hp,rfl⟩:=List.mem_map.1 hv
  exact(h.ok p hp).1
 rw[List.length_map]at this
 unfold ag at this
 rwa [List.length_map]at this
end Go.Proofs.YtlhemmpklhhgoaaGreat
set_option maxHeartbeats 4000000
namespace Go.Proofs.YtlhemmpklhhgoaaGreat
theorem oj(l:List dX)(hl:l.length<=1000000):aW Tryz.prog 73 [.sl (l.map dX.d), .sl (l.map dX.d)] (.ret [.bool true]):=by
 refine aW.aG mix adj aE ?_
 rw[c73]
 refine tv ?_
 refine aD (fun k:Nat=>⟨aX [.d (.sl (l.map dX.d)), .d (.sl (l.map dX.d)), .ab, .ab, .ab, .d (.i k)],fun _=> .no,0⟩)
  (fun k=>k<=l.length) (fun k=>l.length - k) 0 (Nat.zero_le _) (bL.d0 _ ?_) (fun k hk=> ?_)
 ·exact dT
 refine aap ?_
 refine ak (fun h2=> ?_) (fun h2=> ?_)
 ·simp at h2
  obtain⟨x,hx⟩:=aB h2
  refine Vy hx ?_
  refine aK (bp rfl) ?_
  refine cK ?_
  refine aj (k+1) h2 af (bL.d0 _ ?_)
  exact dT
 ·exact Vz
theorem x4(l:List Nt)(hl:l.length<=1000000)(hf:∀x∈l,x.a.fits/\x.b.fits):aW Tryz.prog 74 [.sl (l.map Nt.d), .sl (l.map Nt.d)] (.ret [.bool true]):=by
 refine aW.aG mix adk aE ?_
 rw[c74]
 refine tv ?_
 refine aD (fun k:Nat=>⟨aX [.d (.sl (l.map Nt.d)), .d (.sl (l.map Nt.d)), .ab, .ab, .ab, .d (.i k)],fun _=> .no,0⟩)
  (fun k=>k<=l.length) (fun k=>l.length - k) 0 (Nat.zero_le _) (bL.d0 _ ?_) (fun k hk=> ?_)
 ·exact dT
 refine aap ?_
 refine ak (fun h2=> ?_) (fun h2=> ?_)
 ·simp at h2
  obtain⟨x,hx⟩:=aB h2
  have KT:=hf x (List.mem_of_getElem? hx)
  have s1:=wK x.a KT.1 x.a KT.1
  have s2:=wK x.b KT.2 x.b KT.2
  rw[qc]at s1 s2
  refine Vy hx ?_
  refine aZ s1 rfl ?_
  refine rU hx ?_
  refine aZ s2 rfl ?_
  exact aby
 ·exact Vz
theorem Oj(o:Nat->ad)(ng:Bool)(a b:Int):qu Tryz.prog o 77 ng (.d (.agg [.i a, .i b])) (.d (.agg [.i a, .i b]))=some (.d (.bool true)):=by
 have h1:bO Tryz.prog 77=some (.struct [(3,0),(3,1)]):=ai
 have h3:bO Tryz.prog 3=some .int:=ai
 have h5:dg Tryz.prog 3=some false:=ai
 have h6:pf Tryz.prog 100 77 (.agg [.i a, .i b]) (.agg [.i a, .i b])=some true:=by simp[pf,h1,h3,h5,yu,PH,iW,EJ]
 obtain⟨fs,h⟩:∃fs,Tryz.prog.underlying 77=some (.struct fs):=structOf ai
 have h2:Tryz.prog.eqGuardType Tryz.prog.depth 77=false:=ai
 unfold qu
 rw[h]
 dsimp only
 rw[if_pos h2,h6]
 simp
theorem xn(s:bU)(h1:s.sig.cons.length<=1000000)(h2:s.sig.bZ.length<=1000000)(h3:s.binds.length<=1000000)(h4:s.aI.length<=1000000)(h5:s.marks.length<=1000000)
 (h6:∀x∈s.binds,x.term.fits) (h7:∀x∈s.aI,x.a.fits/\x.b.fits):aW Tryz.prog 21 [s.d,s.d] (.ret [.bool true]):=by
 refine aW.aG mix ac6 aE ?_
 rw[c21]
 refine tv ?_
 refine aD (fun k:Nat=>⟨aX [.ab, .ab, .ptr 0 0, .ptr 1 0, .ab, .d (.i k)],ay (ay (fun _=> .no) 0 (.row s.row)) 1 (.row s.row),2⟩)
  (fun k=>k<=s.marks.length) (fun k=>s.marks.length - k) 0 (Nat.zero_le _) ?_ (fun k hk=> ?_)
 ·exact PF
 simp+contextual (disch:=first|omega|simp only[go_sem,false_implies]) only[go_sem,wrap64,if_pos,List.length_map,beq_self_eq_true,Bool.and_self]
 refine ak (fun g2=> ?_) (fun g2=> ?_)
 ·simp at g2
  obtain⟨x,hx⟩:=aB g2
  obtain⟨m1,m2⟩:=x
  simp+contextual (disch:=first|omega|simp only[go_sem,false_implies]) only[go_sem,wrap64,if_pos,hx,List.length_map,bne_self_eq_false,Oj]
  refine aK (bp rfl) ?_
  refine cK ?_
  refine aj (k+1) g2 af ?_
  exact PF
 ·refine Pq ?_
  refine aq (oj s.sig.cons h1) rfl ?_
  refine Pq ?_
  refine aq (oj s.sig.bZ h2) rfl ?_
  refine Pq ?_
  refine aq (xg s.binds h3 h6) rfl ?_
  refine Pq ?_
  refine aq (x4 s.aI h4 h7) rfl ?_
  exact Vz
end Go.Proofs.YtlhemmpklhhgoaaGreat
set_option maxHeartbeats 4000000
namespace Go.Proofs.YtlhemmpklhhgoaaGreat
theorem iz.all {sg:az}{l:List TB}(h:iz sg l):∀p∈ag l,zB (ag l) p.2/\p.2.fits:=fun p hp=>by
 obtain⟨x,hx,rfl⟩:=dq hp
 exact⟨h.Vd x hx,Tm.dC x.term (by have:=(bz (h.ok x hx).2).2.1;omega)⟩
theorem Ol{sg:az}{l:List TB}(h:iz sg l)(s':bU){n:Nt}(na:bJ sg n.a=true)(nb:bJ sg n.b=true){bk:Bool}(xZ:bk=true↔BP (ag l) n):
 aW Tryz.prog 66 [s'.kd (ag l),n.d] (.ret [.bool bk])/\aW Tryz.prog 71 [.sl (l.map TB.d),n.d] (.ret [.bool bk]):=by
 obtain⟨l',ρ,R,hS,G0⟩:=jv h.keys h.ok h.FW
 obtain⟨a1,a2,_⟩:=bz na
 obtain⟨b1,b2,_⟩:=bz nb
 have za:=mK hS (fun p hp=>(h.all p hp).1) a1
 have zb:=mK hS (fun p hp=>(h.all p hp).1) b1
 have fa:=pB hS _ n.a a1 (Nat.le_refl _)
 have fb:=pB hS _ n.b b1 (Nat.le_refl _)
 have fa':=ig fa (Nat.le_max_left _ (R+3+(aR (ag l') n.b).sz))
 have fb':=ig fb (Nat.le_max_right (R+3+(aR (ag l') n.a).sz) _)
 obtain⟨f1,u1⟩:=Be hS a1
 obtain⟨f2,u2⟩:=Be hS b1
 have e:gY (aR (ag l') n.a) (aR (ag l') n.b)=bk:=by
  rw[Bool.eq_iff_iff,xZ,dR]
  exact(rE hS a1 b1).symm
 have hl:=h.len
 rw[<- e]
 exact⟨zG s' (fun p hp=>(h.all p hp).2) n (Tm.dC _ af) (Tm.dC _ af) fa' fb' (Tm.dC _ af) (Tm.dC _ af) af af,
  uc af (fun p hp=>(h.all p hp).2) (Tm.dC _ af) (Tm.dC _ af) u1 u2 af af⟩
theorem oo{s:bU}(h:bB s){a c:Tm}(ha:bJ s.sig a=true)(hc:bJ s.sig c=true){f:Nat}{b':List (Int×Tm)}(hf:jl true f a c (ag s.binds)=some (0,b')):∃E,b'=ag (s.binds++E)/\iz s.sig (s.binds++E):=by
 obtain⟨g,e,b1,h1,h2⟩:=H9 h ha hc
 have e1:=fg hf (Nat.le_max_left f g)
 rw[fg h1 (Nat.le_max_right f g)]at e1
 injection e1 with e1
 injection e1 with e1 e2
 subst e2
 rcases h2 with⟨_,E,h3,h4⟩|h|h
 ·exact⟨E,h3,h4⟩
 ·exact absurd (e1.symm.trans h) bF
 ·exact absurd (e1.symm.trans h) bF
def im(e:Int)(bk:Bool):Int:=if e=0 then(if bk=true then 5 else 0)else e
def bU.tell (s:bU)(b':List (Int×Tm)):bU:=⟨s.sig,xY b',s.aI,s.marks⟩
def bU.Ed (s:bU)(n:Nt):bU:=⟨s.sig,s.binds,s.aI++[n],s.marks⟩
end Go.Proofs.YtlhemmpklhhgoaaGreat
set_option maxHeartbeats 4000000
namespace Go.Proofs.YtlhemmpklhhgoaaGreat
theorem Bp:∀ (Δ:List (Nat×ad)) (o:Nat->ad) (j:Nat),(∀y∈Δ,y.1≠j)->put o Δ j=o j
 |[],o,j,h=>rfl
 |y::Δ,o,j,h=>by
  show put (ay o y.1 y.2) Δ j=o j
  rw[Bp Δ _ j (fun z hz=>h z (by simp[hz])),ae _ _ _ _ (h y (by simp)).symm]
theorem Ee{nx:Nat}:∀ (Δ:List (Nat×ad)) (o:Nat->ad),Good o nx->(∀y∈Δ,(nx<=y.1->y.2= .no)/\∀r∈y.2.refs,r<nx)->Good (put o Δ) nx
 |[],o,hg,h=>hg
 |y::Δ,o,hg,h=>by
  show Good (put (ay o y.1 y.2) Δ) nx
  refine Ee Δ _ ?_ (fun z hz=>h z qq)
  obtain⟨h1,h2⟩:=h y aE
  by_cases hy:nx<=y.1
  ·rw[h1 hy]
   have:ay o y.1 .no=o:=by
    funext j
    by_cases e:j=y.1
    ·subst e;rw[aa,hg.fresh _ hy]
    ·exact GH
   rw[this];exact hg
  ·exact hg.ay af (by rw[List.all_eq_true];exact fun r hr=>decide_eq_true (h2 r hr))
theorem xo{o:Nat->ad}{nx:Nat}(hg:Good o nx)(ids:List Nat):Good (put o (bG o ids)) nx:=by
 refine Ee _ _ hg fun y hy=> ?_
 unfold bG at hy
 obtain⟨id,_,rfl⟩:=List.mem_map.1 hy
 dsimp only
 refine⟨fun h=>by rw[hg.fresh id h],fun r hr=> ?_⟩
 have:=hg.refs id r
 revert this hr
 cases h:o id<;>simp[ad.refs]<;>intros<;>first|omega|simp_all
theorem RA(m:Nat)(o:Nat->ad)(nx:Nat)(K X:V->(Nat->ad)->Nat->Prop)(h:K (.func (.func 136) [] [.ptr nx 0]) (ay o nx (.row [.mp m])) (nx+4)):bP Tryz.prog 111 [.mp m] o nx K X:=by
 refine bP.aG mix Uo aE ?_
 rw[XB]
 refine fY ?_
 exact h
theorem RB{b:List (Int×Tm)}(base rm p m:Nat)(H:List Int->Nat->ad)(Dy:rm<base)(hp:p<base)(hm:m<base)(hHp:∀l,H l p= .row [.mp m])(hHm:∀l,H l m= .cc (enc (D.int .i64) (kA b)))
 (hHr:∀l id,id<base->∀r∈(H l id).refs,r<base) (hR:∀x l,l.length<b.length->RoC Tryz.prog rm [.d (.i x)] base (H l) (H (l++[x])) (.d (.bool true))) (o:Nat->ad) (nx:Nat) (hI:eS base (H []) o nx) (K X:V->(Nat->ad)->Nat->Prop)
 (hK:∀l o' nx',l.Perm (b.map (·.1))->nx<=nx'->eS base (H l) o' nx'->(∀id,base<=id->id<nx->o' id=o id)->K (.bY []) o' nx'):
 bP Tryz.prog 136 [.kH rm, .ptr p 0] o nx K X:=by
 have hle:=hI.le
 have op:o p= .row [.mp m]:=by rw[hI.eq p hp,hHp]
 have om:o m= .cc (enc (D.int .i64) (kA b)):=by rw[hI.eq m hm,hHm]
 refine bP.aG mix Uw aE ?_
 rw[XK]
 simp+contextual (disch:=first|omega|simp only[go_sem,false_implies]) only[go_sem,wrap64,if_pos,op,om,Nat.add_assoc,Nat.left_eq_add,Nat.add_eq_left,Nat.add_left_cancel_iff]
 obtain⟨S,hS1,hS2⟩:∃S:List Int->Nat->ad,(∀l id,id<base->S l id=H l id)/\∀l id,base<=id->S l id=o id:=
  ⟨fun l id=>if id<base then H l id else o id,fun l id h=>if_pos h,fun l id h=>if_neg af⟩
 have hGS:∀l M,M.refs=[]->Good (ay (S l) (nx+1) M) (nx+2):=fun l M hM=>by
  refine⟨fun id aw=> ?_,fun id r hr=> ?_⟩
  ·rw[ae _ _ _ _ (by omega),hS2 l id (by omega)];exact hI.cu.fresh id af
  ·by_cases e:id=nx+1
   ·subst e;rw[aa,hM]at hr;cases hr
   ·rw[ae _ _ _ _ e]at hr
    by_cases h:id<base
    ·rw[hS1 l id h]at hr;have:=hHr l id h r hr;omega
    ·rw[hS2 l id (by omega)]at hr;have:=hI.cu.refs id r hr;omega
 refine aD (fun i:List (Int×Tm)×List Int×Option (D×D)=>⟨aX [.kH rm, .ptr p 0, .ab, .ab, .ab, .ptr (nx+1) 0],ay (S i.2.1) (nx+1) (.rW (enc (D.int .i64) (kA i.1)) i.2.2),nx+2⟩)
  (fun i=>i.1.length+i.2.1.length=b.length/\(i.2.1++i.1.map (·.1)).Perm (b.map (·.1))) (fun i=>i.1.length) (b,[],none) ⟨aE,aE⟩ ?_ ?_
 ·dsimp only
  refine bL.bS _ af af (hGS _ _ rfl) (fun j hj=> ?_) ?_
  ·by_cases e:j=nx+1
   ·exact vi
   ·rw[ae _ _ _ _ e,ae _ _ _ _ e]
    by_cases h:j<base
    ·rw[hS1 _ _ h];exact hI.eq j h
    ·rw[hS2 _ _ (by omega)]
  ·exact dT
 rintro⟨rest,don,last⟩ ⟨hl,vq⟩
 dsimp only at hl vq|-
 refine fY ?_
 refine s9 (fun h0=> ?_) fun i v x hm=> ?_
 ·subst h0
  refine fY ?_
  refine hK don _ _ (by simpa using vq) af ⟨?_,af,fun id aw=> ?_⟩ (fun id h1 h2=> ?_)
  ·exact(hGS _ _ rfl).mono af
  ·rw[ae _ _ _ _ (by omega),hS1 _ _ aw]
  ·rw[ae _ _ _ _ (by omega),hS2 _ _ h1]
 ·have hlen:(rest.eraseIdx i).length+1=rest.length:=by
   exact V2
  have ahc:=qe hm
  refine fY ?_
  refine nQ (hR v don af _ _ ⟨?_,af,fun id aw=> ?_⟩ _ _ fun o2 n2 m1 m2 m3=> ?_)
  ·exact((hGS _ _ rfl).mono af).ay af rfl
  ·rw[ae _ _ _ _ (by omega),ae _ _ _ _ (by omega),hS1 _ _ aw]
  refine fY ?_
  refine aj (rest.eraseIdx i,don++[v],some (.int .i64 v,x.d)) ⟨by dsimp only;simp;omega, ?_⟩ kV (bL.bS _ (show nx<=nx+2 from af) af (hGS _ _ rfl) (fun j hj=> ?_) ?_)
  ·dsimp only
   refine List.Perm.trans ?_ vq
   rw[List.append_assoc]
   refine List.Perm.append_left _ ?_
   have:=ahc.map (fun p:Int×Tm=>p.1)
   simpa using this
  ·dsimp only
   have Tq:j<nx+2:=hj
   by_cases e:j=nx+1
   ·subst e
    rw[aa,m3 _ (by omega) (by omega)]
    exact cg
   ·rw[ae _ _ _ _ e]
    by_cases h:j<base
    ·rw[hS1 _ _ h];exact m2.eq j h
    ·rw[hS2 _ _ (by omega),m3 _ (by omega) (by omega),ae _ _ _ _ e,ae _ _ _ _ e,hS2 _ _ (by omega)]
  ·exact dT
def Bq(o:Nat->ad)(nx:Nat)(l:List Int):Nat->ad:=ay (ay o nx (.row [.osl (nx+3) l.length])) (nx+3) (.arr l.length 3 1 (l.map .i))
theorem Eg{b:List (Int×Tm)}(hb:b.length<=1000){p m:Nat}(o:Nat->ad)(nx:Nat)(hg:Good o nx)(hp:o p= .row [.mp m])(hm:o m= .cc (enc (D.int .i64) (kA b)))(K X:V->(Nat->ad)->Nat->Prop)
 (hK:∀ (l:List Int) (o':Nat->ad) (nx' id ep:Nat),l.Perm (b.map (·.1))->nx<=nx'->nx<=id->Good o' nx'->(∀j,j<nx->o' j=o j)->o' id= .arr ep 3 1 (l.map .i)->K (.osl id ep) o' nx'):
 bP Tryz.prog 161 [.ax, .func (.func 136) [] [.ptr p 0]] o nx K X:=by
 refine bP.aG mix UG aE ?_
 rw[XU]
 refine fY ?_
 have hlp:p<nx:=hg.lt BW
 have hlm:m<nx:=hg.lt Gv
 have hG:∀l,Good (Bq o nx l) (nx+4):=fun l=>by
  unfold Bq
  refine Good.ay (Good.ay (hg.mono af) af ?_) af rfl
  exact uf
 refine QQ (s':=⟨aX [.ab, .ab, .ptr nx 0, .ab, .ab, .ab, .func (.func 136) [] [.ptr p 0]],Bq o nx [],nx+4⟩) (bL.uD (fun _=>False) .ax (nx+3) _ af (fun j hj=> ?_) (by unfold Bq;(repeat(first|rfl|rw[aa]|rw[ae _ _ _ _ (by omega)]))) (.inl ⟨rfl,rfl,bF⟩) (fun j hj=> ?_) (fun _ h=>h.elim) ?_) ?_
 ·unfold Bq
  by_cases e:j=nx
  ·subst e
   rw[aa,ae _ _ _ _ (by omega),aa]
   exact jM rfl (vl 0 rfl rfl rfl jO)
  ·rw[ae _ _ _ _ e,ae _ _ _ _ (by omega),ae _ _ _ _ e]
   exact bn rfl (fun r hr=>by have:=hg.refs j r hr;omega)
 ·unfold Bq
  rw[ae _ _ _ _ (by omega),ae _ _ _ _ (by omega)]
  exact BX
 ·exact jH
 ·show uC _ _ _ _ _ _ _ _ _ _ (.func (.func 136) [] [.ptr p 0])
  refine FC [.ab, .ab, .ptr nx 0] La (fun L hL=> ?_)
  obtain⟨H,si,FF,U5⟩:∃H:List Int->Nat->ad,(∀l id,id<nx+4->H l id=Bq o nx l id)/\(∀l,H l (nx+4)=L .ready none)/\∀l id,nx+5<=id->H l id= .no:=
   ⟨fun l id=>if id<nx+4 then Bq o nx l id else if id=nx+4 then L .ready none else .no,fun l id h=>if_pos h,fun l=>aE,fun l id h=>by dsimp only;rw[if_neg (by omega),if_neg (by omega)]⟩
  have x8:∀st pd M,nx<M->(L st pd).refs.all (fun r=>decide (r<M))=true:=fun st pd M hM=>by
   rw[hL.refs,List.all_eq_true]
   intro r hr
   simp[V.aL,V.refs]at hr
   exact decide_eq_true af
  have aP:∀l,Bq o nx l p= .row [.mp m]:=fun l=>by unfold Bq;(repeat(first|rfl|rw[aa]|rw[ae _ _ _ _ (by omega)]));exact hp
  have aM:∀l,Bq o nx l m= .cc (enc (D.int .i64) (kA b)):=fun l=>by unfold Bq;(repeat(first|rfl|rw[aa]|rw[ae _ _ _ _ (by omega)]));exact hm
  have a0:∀l,Bq o nx l nx= .row [.osl (nx+3) l.length]:=fun l=>by unfold Bq;(repeat(first|rfl|rw[aa]|rw[ae _ _ _ _ (by omega)]))
  have a3:∀l,Bq o nx l (nx+3)= .arr l.length 3 1 (l.map .i):=fun l=>by unfold Bq;(repeat(first|rfl|rw[aa]|rw[ae _ _ _ _ (by omega)]))
  refine RB (b:=b) (nx+5) (nx+4) p m H af af af (fun l=>by rw[si _ _ (by omega)];exact aP l) (fun l=>by rw[si _ _ (by omega)];exact aM l) (fun l id aw r hr=> ?_) (fun x l cq=> ?_) _ _ ⟨?_,af,fun id aw=> ?_⟩ _ _ (fun l o' nx' h1 h2 h3 h4=> ?_)
  ·by_cases e:id=nx+4
   ·subst e
    rw[FF]at hr
    have:=List.all_eq_true.1 (x8 .ready none (nx+5) af) r hr
    simpa using this
   ·rw[si _ _ (by omega)]at hr
    have:=(hG l).refs id r hr
    omega
  ·intro o3 n3 hI K X hK
   have hle:=hI.le
   have hg3:=hI.cu
   have HI:o3 (nx+4)=L .ready none:=by rw[hI.eq _ (by omega),FF]
   have q0:o3 nx= .row [.osl (nx+3) l.length]:=by rw[hI.eq _ (by omega),si _ _ (by omega),a0]
   have q3:o3 (nx+3)= .arr l.length 3 1 (l.map .i):=by rw[hI.eq _ (by omega),si _ _ (by omega),a3]
   have dV:l.length<=140737488355327/\(l.length+1)*8<=140737488355328:=af
   have y1:nx≠n3:=af
   have y2:∀k,nx≠n3+k:=fun k=>af
   have y3:nx+3≠n3:=af
   have y4:∀k,nx+3≠n3+k:=fun k=>af
   refine wI hL mix HI af bF rfl ?_
   simp only[pS]
   refine cK ?_
   refine nR hL (pd:=none) ?_ ?_
   ·(repeat(first|rfl|rw[aa]|rw[ae _ _ _ _ (by omega)]))
    exact HI
   refine BQ q0 q3 y1 y2 y3 y4 dV ?_
   refine sW hL (st:= .busy) (pd:=none) cg (hK _ _ af ⟨?_,af,fun id aw=> ?_⟩ (fun id h1 h2=>by(repeat(first|rfl|rw[aa]|rw[ae _ _ _ _ (by omega)]))))
   ·refine Good.ay (Good.ay (Good.ay (Good.ay (Good.ay (hg3.mono af) af (x8 _ _ _ af)) af rfl) af rfl) af ?_) af (x8 _ _ _ af)
    simp[ad.refs,V.aL,V.refs]
    omega
   ·by_cases e:id=nx+4
    ·subst e;rw[aa,FF]
    ·rw[ae _ _ _ _ e,si _ _ (by omega)]
     unfold Bq
     by_cases e0:id=nx
     ·subst e0;(repeat(first|rfl|rw[aa]|rw[ae _ _ _ _ (by omega)]));simp
     ·by_cases e3:id=nx+3
      ·subst e3;(repeat(first|rfl|rw[aa]|rw[ae _ _ _ _ (by omega)]));simp
      ·(repeat(first|rfl|rw[aa]|rw[ae _ _ _ _ (by omega)]))
       rw[hI.eq _ aw,si _ _ (by omega)]
       unfold Bq
       exact cg
  ·exact(hG []).mono af |>.ay af (x8 _ _ _ af)
  ·by_cases e:id=nx+4
   ·subst e;rw[aa,FF]
   ·rw[ae _ _ _ _ e,si _ _ (by omega)]
  ·have YU:=h3.le
   refine⟨.ready,none,by rw[h3.eq _ (by omega),FF],(fun h=>by cases h), ?_⟩
   have q0:o' nx= .row [.osl (nx+3) l.length]:=by rw[h3.eq _ (by omega),si _ _ (by omega),a0]
   have q3:o' (nx+3)= .arr l.length 3 1 (l.map .i):=by rw[h3.eq _ (by omega),si _ _ (by omega),a3]
   simp only[qS]
   refine K2 q0 q3 ?_
   refine hK l _ _ (nx+3) l.length h1 ?_ af ?_ (fun j hj=> ?_) VH
   ·omega
   ·exact(h3.cu.mono af).ay af (x8 _ _ _ af)
   rw[ae _ _ _ _ (by omega),h3.eq _ (by omega),si _ _ (by omega)]
   unfold Bq
   exact cg
theorem Gh{l l':List Int}(h:l.Perm l'):c9 l=c9 l':=by
 have h1:(c9 l).Perm (c9 l'):=((List.mergeSort_perm _ _).trans h).trans (List.mergeSort_perm _ _).symm
 have hs:∀l:List Int,(c9 l).Pairwise (fun a b=>a<=b):=fun l=>(List.pairwise_mergeSort (le:=fun a b:Int=>decide (a<=b)) (fun a b c h1 h2=>by simp at*;omega) (fun a b=>by simp;omega) l).imp fun h=>by simpa using h
 exact List.Perm.eq_of_pairwise (fun a b _ _ h1 h2=>Int.le_antisymm h1 h2) (hs l) (hs l') h1
theorem Om{b:List (Int×Tm)}(hb:b.length<=1000){p m:Nat}(o:Nat->ad)(nx:Nat)(hg:Good o nx)(hp:o p= .row [.mp m])(hm:o m= .cc (enc (D.int .i64) (kA b)))(K X:V->(Nat->ad)->Nat->Prop)
 (hK:∀ (o':Nat->ad) (nx' id ep:Nat),nx<=nx'->nx<=id->Good o' nx'->(∀j,j<nx->o' j=o j)->o' id= .arr ep 3 1 ((c9 (b.map (·.1))).map .i)->K (.osl id ep) o' nx'):
 bP Tryz.prog 110 [.func (.func 136) [] [.ptr p 0]] o nx K X:=by
 refine bP.aG mix Un aE ?_
 rw[XA]
 refine fY ?_
 refine aT ?_
 refine bP.aG mix Uv aE ?_
 rw[XJ]
 refine fY ?_
 refine aT (Eg hb _ _ (hg.mono af) hp hm _ _ (fun l o' nx' id ep h1 h2 h3 h4 h5 h6=> ?_))
 have aw:id<nx':=h4.lt (by rw[h6];exact ad.noConfusion)
 have w1:∀k,id≠nx'+k:=fun k=>af
 refine K2 h6 w1 ?_
 have hlen:l.length<=1000:=by have:=h1.length_eq;rw[List.length_map]at this;omega
 have hs:c9 l=c9 (b.map (·.1)):=Gh h1
 refine bX (Nx DI J8 (zs:=l) h6 J9 af ?_)
 refine fY ?_
 refine hK _ _ id ep ?_ af ?_ (fun j hj=> ?_) (by(repeat(first|rfl|rw[aa]|rw[ae _ _ _ _ (by omega)]));rw[hs])
 ·omega
 ·exact(h4.mono af).ay af rfl
 ·rw[ae _ _ _ _ (by omega),h5 j (by omega)]
end Go.Proofs.YtlhemmpklhhgoaaGreat
