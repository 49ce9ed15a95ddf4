/-
  A PART OF THE PROOF. Conditions: none.
-/
import Derived.Test.YtlhemmpklhhgoaaGreatQb17
set_option linter.unusedSimpArgs false
set_option linter.unusedVariables false
namespace Go.Proofs.YtlhemmpklhhgoaaGreat
def J4:IC:=Ju.snd.snd
theorem Bz{l:List TB}{F:Tm->Int->Option Int}{x:Tm}(hx:x.fits){n:Int}{d:Nat}{r:Int}(hn:0<=n/\n<=1000)(hd:d<=1000)(hF:∀k m q,0<=m->F k m=some q-> -1<=q/\q<=m)
 (ih:∀k∈x.kids,∀m q d',d=d'+1->0<=m/\m<=1000->F k m=some q->aX Tryz.prog 143 [.sl (l.map TB.d),k.d, .i m, .i d'] (.ret [.i q]))
 (h:(match d with|0=>some (-1)|_+1=>xp F x.kids (n - 1))=some r) {e:Nat->V} {o:Nat->ab} {nx:Nat} (hg:Good o nx) (e0:e 0= .d (.sl (l.map TB.d))) (e2:e 2= .d (.i n)) (e3:e 3= .d (.i d)) (e5:e 5= .ptr 0 0) (ho:o 0= .row x.row) (h1:1<=nx):
 kq Tryz.prog 55 0 false J4 (vQ Tryz.prog [.tmp 8] (.ret [.i r])) ⟨e,o,nx⟩:=by
 have EW:=(Tm.bD x).1 hx
 simp only[J4,Ju,IC.snd]
 cases d with
 |zero=>
  cases h
  simp+contextual (disch:=first|omega|simp only[go_sem,false_implies]) only[go_sem,wrap64,if_pos,e0,e2,e3,e5,ho]
 |succ d=>
  dsimp only at h
  have IP:(((d+1:Nat):Int)==0)=false:=by rw[beq_eq_false_iff_ne];omega
  refine Da e0 e2 e3 e5 ho IP ?_
  refine aH (fun i:Nat×Int=>⟨ba [.d (.sl (l.map TB.d)), .aa, .d (.i i.2), .d (.i (d+1:Nat)), .aa, .ptr 0 0, .aa, .aa, .aa, .aa, .d (.i i.1)],aI (fun _=> .no) 0 (.row x.row),1⟩)
   (fun i=>i.1<=x.kids.length/\xp F (x.kids.drop i.1) i.2=some r/\ -1<=i.2/\i.2<=1000) (fun i=>x.kids.length - i.1) (0,n - 1) ⟨Nat.zero_le _,h,by dsimp only;omega,by dsimp only;omega⟩ (bG.bU _ af af (Good.aI Good.nil af rfl) (fun j hj=> ?_) ?_) ?_
  ·have hj:j<1:=hj
   have:j=0:=af
   subst this
   rw[ae];exact ho
  ·exact lK Su (eB (lK rfl (lK (by(repeat(first|rfl|rw[ae]|rw[ah _ _ _ _ (by omega)]));exact e3) (eB (BH (by(repeat(first|rfl|rw[ae]|rw[ah _ _ _ _ (by omega)]));exact e5) oR (eB (eB (eB (eB (lK rfl tR))))))))))
  rintro⟨k,m⟩ ⟨hk,hl,HX,K0⟩
  simp only at hk hl HX K0
  by_cases h2:k<x.kids.length
  ·have qa:decide ((k:Int)<(x.kids.length:Int))=true:=by simp;omega
   obtain⟨y,hy⟩:=aF h2
   have Jy:=List.mem_of_getElem? hy
   have JX:x.kids.drop k=y::x.kids.drop (k+1):=by
    obtain⟨i1,i2⟩:=List.getElem?_eq_some_iff.1 hy
    exact Il
   rw[JX]at hl
   simp only[xp]at hl
   by_cases h0:m<0
   ·have vI:decide (m≥0)=false:=by simp;omega
    rw[if_pos h0]at hl
    cases hl
    exact RP hy qa vI
   ·have vI:decide (m≥0)=true:=by simp;omega
    rw[if_neg h0]at hl
    cases e:F y m with
    |none=>rw[e]at hl;cases hl
    |some q=>
    rw[e]at hl
    have hq:=hF y m q af e
    refine H9 hy qa vI ?_
    rw[show(((d+1:Nat):Int) - 1)=((d:Nat):Int) by omega]
    refine ao (ih y Jy m q d rfl af e) rfl ?_
    refine cm ?_
    refine aw (k+1,q) ⟨h2,hl,by dsimp only;omega,by dsimp only;omega⟩ rh (bG.bU _ af af (Good.aI Good.nil af rfl) (fun j hj=>rfl) ?_)
    exact dQ
  ·have qa:decide ((k:Int)<(x.kids.length:Int))=false:=by simp;omega
   have:k=x.kids.length:=af
   subst this
   rw[List.drop_length]at hl
   cases hl
   exact Ia qa
theorem s8{l:List TB}(hl:l.length<=1000)(mf:∀p∈ay l,p.2.fits):∀ (f:Nat) (t:Tm) (n:Int) (d:Nat) (r:Int),t.fits->0<=n/\n<=1000->d<=1000->qs f (ay l) t n d=some r->
 aX Tryz.prog 143 [.sl (l.map TB.d),t.d, .i n, .i d] (.ret [.i r])
 |0,_,_,_,_,_,_,_,h=>by cases h
 |f+1,t,n,d,r,ht,hn,hd,h=>by
  simp only[qs]at h
  cases ha:oN f (ay l) t with
  |none=>rw[ha]at h;cases h
  |some x=>
  rw[ha]at h
  dsimp only at h
  have EW:=oG mf f t x ht ha
  have aaB:∀ (d':Nat) (k:Tm) (m q:Int),0<=m->qs f (ay l) k m d'=some q-> -1<=q/\q<=m:=fun d' k m q=>w6 f k m d' q
  have rest:∀ {e:Nat->V} {o:Nat->ab} {nx:Nat},Good o nx->e 0= .d (.sl (l.map TB.d))->e 2= .d (.i n)->e 3= .d (.i d)->e 5= .ptr 0 0->o 0= .row x.row->1<=nx->kq Tryz.prog 55 0 false J4 (vQ Tryz.prog [.tmp 8] (.ret [.i r])) ⟨e,o,nx⟩:=by
   intro e o nx hg e0 e2 e3 e5 ho h1
   refine Bz (F:=fun k m=>qs f (ay l) k m (d - 1)) EW hn hd (fun k m q h1 h2=>aaB _ k m q h1 h2) (fun k hk m q d' he hm hF=> ?_) ?_ hg e0 e2 e3 e5 ho h1
   ·subst he
    exact s8 hl mf f k m d' q ((Tm.bD x).1 EW |>.2 k hk) hm af hF
   ·cases d with
    |zero=>exact h
    |succ d=>exact h
  have chain:∀ (g:Nat) (t:Tm),t.fits->oN g (ay l) t=some x->aX Tryz.prog 143 [.sl (l.map TB.d),t.d, .i n, .i d] (.ret [.i r]):=by
   intro g
   induction g with
   |zero=>intro t _ h;cases h
   |succ g ihg=>
    intro t ht EM
    simp only[oN]at EM
    refine aX.aM mix VQ aK ?_
    rw[Ju]
    show kq _ _ _ _ (.seq _ (.seq _ J4)) _ _
    by_cases h1:t.op=1
    ·have jR:(t.op==1)=true:=by simpa using h1
     rw[if_pos h1]at EM
     refine mg jR ?_
     refine ao (oJ l t.n af) rfl ?_
     rcases wT l t.n with⟨g1,g2⟩|⟨k,y,g1,g2,g3⟩
     ·have HG:decide (findF l t.n≥0)=false:=by simp;omega
      rw[g2]at EM
      cases EM
      refine mg HG ?_
      exact rest ek rfl rfl rfl rfl rfl af
     ·have HG:decide (((k:Nat):Int)≥0)=true:=aK
      rw[g3]at EM
      refine H9 g1 HG g2 ?_
      refine ao (ihg y.term (mf _ (kj (List.mem_of_getElem? g2))) EM) rfl ?_
      exact nq
    ·have jR:(t.op==1)=false:=by simpa using h1
     rw[if_neg h1]at EM
     cases EM
     refine mg jR ?_
     exact rest ek rfl rfl rfl rfl rfl af
  exact chain f t ht ha
theorem zO{l:List TB}(hl:l.length<=1000)(mf:∀p∈ay l,p.2.fits)(hle:∀p∈ay l,∃f r,qs f (ay l) p.2 40 12=some r){ok:Bool}(aQ:ok=true↔∀x∈l,EV (ay l) x.term):
 aX Tryz.prog 118 [.sl (l.map TB.d)] (.ret [.bool ok]):=by
 refine aX.aM mix Vv aK ?_
 rw[Vu]
 refine cm ?_
 refine aH (fun k:Nat=>⟨ba [.d (.sl (l.map TB.d)), .aa, .aa, .d (.i k)],fun _=> .no,0⟩)
  (fun k=>k<=l.length/\∀x∈l.take k,EV (ay l) x.term) (fun k=>l.length - k) 0 ⟨Nat.zero_le _,fun x hx=>by simp at hx⟩ (bG.d0 _ ?_) (fun k hk=> ?_)
 ·exact dQ
 obtain⟨hk,ho⟩:=hk
 refine zZ ?_
 refine ak (fun h2=> ?_) (fun h2=> ?_)
 ·replace h2:k<l.length:=by simp at h2;omega
  obtain⟨x,hx⟩:=aF h2
  have gI:=List.mem_of_getElem? hx
  obtain⟨f,r,hf⟩:=hle _ (kj gI)
  have cI:=CX hf
  refine re hx ?_
  refine ao (s8 hl mf f x.term 40 12 r (mf _ (kj gI)) af af hf) rfl ?_
  by_cases h0:r<0
  ·have vI:decide (r<0)=true:=decide_eq_true h0
   have:ok=false:=by
    cases ok with
    |false=>rfl
    |true=>have:=cI.1 (aQ.1 rfl x gI);omega
   subst this
   exact xq vI
  ·have vI:decide (r<0)=false:=decide_eq_false h0
   refine mg vI ?_
   refine aw (k+1) ⟨h2,fun y hy=> ?_⟩ af (bG.d0 _ ?_)
   ·rw[List.take_add_one,hx]at hy
    rcases List.mem_append.1 hy with hy|hy
    ·exact ho y hy
    ·simp at hy
     subst hy
     exact cI.2 af
   ·exact dQ
 ·replace h2:k=l.length:=by simp at h2;omega
  subst h2
  rw[List.take_length]at ho
  have:ok=true:=aQ.2 ho
  exact vo
theorem J5{l:List TB}{i:Nat}{x:TB}(hx:l[i]? =some x):findF l x.var<(i:Int)↔x.var∈(ay (l.take i)).map (·.1):=by
 have e:(ay (l.take i)).map (·.1)=(l.take i).map (·.var):=by unfold ay;rw[List.map_map];rfl
 rw[e]
 obtain⟨hi,hxe⟩:=List.getElem?_eq_some_iff.1 hx
 unfold findF
 cases h:l.findIdx? (·.var==x.var)with
 |none=>
  rw[List.findIdx?_eq_none_iff]at h
  have:=h x (List.mem_of_getElem? hx)
  simp at this
 |some k=>
  rw[List.findIdx?_eq_some_iff_getElem]at h
  obtain⟨hk,h1,h2⟩:=h
  dsimp only
  constructor
  ·intro bR
   have bR:k<i:=af
   refine List.mem_map.2 ⟨l[k], ?_,by simpa using h1⟩
   rw[List.mem_iff_getElem?]
   exact⟨k,by rw[List.getElem?_take,if_pos bR,List.getElem?_eq_getElem hk]⟩
  ·intro hm
   obtain⟨y,hy,hyv⟩:=List.mem_map.1 hm
   obtain⟨j,hj⟩:=List.mem_iff_getElem?.1 hy
   rw[List.getElem?_take]at hj
   split at hj
   ·rename_i hji
    obtain⟨hjl,QG⟩:=List.getElem?_eq_some_iff.1 hj
    rcases Nat.lt_or_ge j k with KN|KN
    ·have:=h2 j KN
     rw[QG]at this
     simp[hyv]at this
    ·omega
   ·cases hj
theorem BA(s:aN)(hs:s.Fits)(zd:j5 s=true)(l:List TB)(hl:l.length<=1000)(hlf:∀x∈l,x.term.fits){ok:Bool}(aQ:ok=true↔s6 s l):
 aX Tryz.prog 76 [s.d, .sl (l.map TB.d)] (.ret [.bool ok]):=by
 have no: ¬s6 s l->ok=false:=fun h=>by
  cases ok with
  |false=>rfl
  |true=>exact absurd (aQ.1 rfl) h
 refine aX.aM mix aaf aK ?_
 rw[c76]
 by_cases h20:20<l.length
 ·have Qo:decide ((l.length:Int)>20)=true:=by simp;omega
  have:=no fun h=>by have:=h.len;omega
  subst this
  exact Ia Qo
 have Qo:decide ((l.length:Int)>20)=false:=by simp;omega
 refine re Qo ?_
 refine aH (fun k:Nat=>⟨ba [.aa, .d (.sl (l.map TB.d)), .ptr 0 0, .aa, .aa, .d (.i k)],aI (fun _=> .no) 0 (.row [.d (.sl (s.cons.map dZ.d)), .d (.sl (s.bF.map dZ.d))]),1⟩)
  (fun k=>k<=l.length/\((ay (l.take k)).map (·.1)).Nodup/\∀x∈l.take k,(0<=x.var/\x.var<20)/\ki s x.term=true) (fun k=>l.length - k) 0 ⟨Nat.zero_le _,List.nodup_nil,fun x hx=>by simp at hx⟩ (bG.bU _ af af ek (fun j hj=>rfl) ?_) (fun k hk=> ?_)
 ·exact dQ
 obtain⟨hk,x8,ho⟩:=hk
 refine zZ ?_
 refine ak (fun h2=> ?_) (fun h2=> ?_)
 ·replace h2:k<l.length:=by simp at h2;omega
  obtain⟨x,hx⟩:=aF h2
  have gI:=List.mem_of_getElem? hx
  have vh:=zL l hx
  refine re hx ?_
  refine bc (Bv x.var 0 19) rfl ?_
  have FE:da x.var 0 19=true↔0<=x.var/\x.var<20:=by unfold da;simp;omega
  cases h6:da x.var 0 19 with
  |false=>
   have:=no fun h=>by
    have:=FE.2 (h.ok x gI).1
    rw[h6]at this;cases this
   exact KC
  |true=>
   refine re hx ?_
   refine bc (oJ l x.var af) rfl ?_
   have bR:=J5 hx
   cases h7:decide (findF l x.var<(k:Int))with
   |true=>
    have:=no fun h=>by
     have h8:=bR.1 (of_decide_eq_true h7)
     have h9:=h.keys.sublist (((List.take_sublist (k+1) l).map _).map _)
     have h9:((ay (l.take (k+1))).map (·.1)).Nodup:=h9
     rw[vh,List.map_append,List.nodup_append]at h9
     exact h9.2.2 x.var h8 x.var aK rfl
    subst this
    refine C9 hx h7 ?_
    refine aR (bp rfl) ?_
    exact nq
   |false=>
    refine C9 hx h7 ?_
    refine bc (pL s hs x.term (hlf x gI)) rfl ?_
    have hve:=Bw zd x.term
    cases h8:(iz s x.term&&eG x.term)with
    |false=>
     have:=no fun h=>by
      have:=(h.ok x gI).2
      rw[hve,h8]at this;cases this
     exact KC
    |true=>
     refine re hx ?_
     refine aR (bp rfl) ?_
     refine cm ?_
     refine aw (k+1) ⟨h2, ?_,fun y hy=> ?_⟩ af (bG.bU _ af af ek (fun j hj=>rfl) ?_)
     ·rw[vh,List.map_append,List.nodup_append]
      refine⟨x8,aK,fun a ha c hc e=> ?_⟩
      simp at hc
      rw[e,hc]at ha
      exact of_decide_eq_false h7 (bR.2 ha)
     ·rw[List.take_add_one,hx]at hy
      rcases List.mem_append.1 hy with hy|hy
      ·exact ho y hy
      ·simp at hy
       subst hy
       exact⟨FE.1 h6,by rw[hve,h8]⟩
     ·exact dQ
 ·replace h2:k=l.length:=by simp at h2;omega
  subst h2
  rw[List.take_length]at x8 ho
  have EH:∀p∈ay l,Vs s p.2:=fun p hp=>by
   obtain⟨x,hx,rfl⟩:=gN hp
   exact(iG (ho x hx).2).1
  have mf:∀p∈ay l,p.2.HA:=fun p hp=>by
   obtain⟨x,hx,rfl⟩:=gN hp
   exact Tm.Qn _ (by have:=(iG (ho x hx).2).2.1;show x.term.sz<=1000;omega)
  refine cm ?_
  refine aH (fun k:Nat=>⟨ba [.aa, .d (.sl (l.map TB.d)), .aa, .aa, .aa, .aa, .d (.i k)],fun _=> .no,0⟩)
   (fun k=>k<=l.length/\∀x∈l.take k, ¬oE (ay l) x.var x.term) (fun k=>l.length - k) 0 ⟨Nat.zero_le _,fun x hx=>by simp at hx⟩ (bG.d0 _ ?_) (fun k hk=> ?_)
  ·exact dQ
  obtain⟨hk,hc⟩:=hk
  refine zZ ?_
  refine ak (fun h2=> ?_) (fun h2=> ?_)
  ·replace h2:k<l.length:=by simp at h2;omega
   obtain⟨x,hx⟩:=aF h2
   have gI:=List.mem_of_getElem? hx
   obtain⟨is,Hu⟩:∃is:Bool,is=true↔oE (ay l) x.var x.term:=by
    classical
    exact⟨decide (oE (ay l) x.var x.term),aK⟩
   refine re hx ?_
   refine bc (Bx hl EH mf x.var x.term (EH _ (kj gI)) (mf _ (kj gI)) Hu) rfl ?_
   cases is with
   |true=>
    have:=no fun h=>h.X6 x.var x.term ((oB h.keys).2 (kj gI)) (Hu.1 rfl)
    subst this
    exact Np
   |false=>
    refine cm ?_
    refine aR (bp rfl) ?_
    refine cm ?_
    refine aw (k+1) ⟨h2,fun y hy=> ?_⟩ af (bG.d0 _ ?_)
    ·rw[List.take_add_one,hx]at hy
     rcases List.mem_append.1 hy with hy|hy
     ·exact hc y hy
     ·simp at hy
      subst hy
      exact fun h=>Bool.false_ne_true (Hu.2 h)
    ·exact dQ
  ·replace h2:k=l.length:=by simp at h2;omega
   subst h2
   rw[List.take_length]at hc
   have Hz:RG (ay l):=fun v t ht=>by
    obtain⟨x,hx,e⟩:=gN (dt ht)
    cases e
    exact hc x hx
   obtain⟨l',ρ,R,hS,FK⟩:=xb x8 ho Hz
   have hle:∀p∈ay l,∃f r,qs f (ay l) p.2 40 12=some r:=fun p hp=>by
    exact KK
   refine cm ?_
   refine ao (zO (ok:=ok) hl (fun p hp=>Tm.HC _ (mf p hp)) hle (aQ.trans ⟨fun h=>h.frm,fun h=>⟨af,x8,ho,Hz,h⟩⟩)) rfl ?_
   exact nq
theorem C6(gone:Nat->Prop)(x:V)(L:List V)(Gn:∀id,gone id->12<=id){op n:Int}{ks:List Tm}{k:Nat}{t:Tm}{e:Nat->V}{so:Nat->ab}{m:Nat}(gx:j7 so gone 33 3 ((ks.take k).map Tm.d) x)
 (s0:so 0= .row t.row) (s1:so 1= .row [.d (.i 0), .d (.i 0), .aE]) (s11:so 11= .row [.d (.i op), .d (.i n),x]) (he:jq 12 [⟨x,33,3,(ks.take k).map Tm.d⟩] so gone e L 0):bG 0 ⟨e,so,m⟩ ⟨ba L,aI (Bt op n ks k) 0 (.row t.row),12+1⟩:=by
 refine bG.GR gone x 12 L af (fun j hj=> ?_) (by rw[ah _ _ _ _ (by omega)];exact fuH_12 op n ks k) gx (fun j hj=>by rw[ah _ _ _ _ (by omega)];exact w8 _ _ _ _ af af af) (fun j h1 h2=>absurd (Gn j h1) af) he
 by_cases e0:j=0
 ·subst e0
  rw[ae]
  exact gP s0 (fun r hr=>by simp[ab.refs,V.aP,V.refs]at hr)
 rw[ah _ _ _ _ e0]
 by_cases e1:j=1
 ·subst e1
  rw[fuH_1]
  exact SD
 ·by_cases e2:j=11
  ·subst e2
   rw[fuH_11]
   exact SI
  ·rw[w8 _ _ _ _ e1 e2 (by omega)]
   exact wL
theorem pO{l:List TB}(hl:l.length<=1000)(mf:∀p∈ay l,p.2.fits):∀ (f:Nat) (t y:Tm) (d:Nat),t.fits->d<=1000->CY f (ay l) t d=some y->y.sz<=1000000->
 aX Tryz.prog 93 [.sl (l.map TB.d),t.d, .i d] (.ret [y.d, .bool true])
 |0,_,_,_,_,_,h,_=>by cases h
 |f+1,t,y,d,ht,hd,h,hz=>by
  simp only[CY]at h
  have Qj:=(Tm.bD t).1 ht
  refine aX.aM mix aan aK ?_
  rw[c93]
  by_cases h1:t.op=1
  ·have jR:(t.op==1)=true:=by simpa using h1
   rw[if_pos h1]at h
   refine mg jR ?_
   refine ao (oJ l t.n af) rfl ?_
   rcases wT l t.n with⟨g1,g2⟩|⟨k,z,g1,g2,g3⟩
   ·have HG:decide (findF l t.n<0)=true:=by simp;omega
    rw[g2]at h
    cases h
    exact xq HG
   ·have HG:decide (((k:Nat):Int)<0)=false:=aK
    rw[g3]at h
    cases d with
    |zero=>cases h
    |succ d=>
     have IP:(((d+1:Nat):Int)==0)=false:=by rw[beq_eq_false_iff_ne];omega
     refine H8 g1 HG g2 IP ?_
     rw[show(((d+1:Nat):Int) - 1)=((d:Nat):Int) by omega]
     refine bE (pO hl mf f z.term y d (mf _ (kj (List.mem_of_getElem? g2))) af h hz) ?_
     exact nq
  ·have jR:(t.op==1)=false:=by simpa using h1
   rw[if_neg h1]at h
   cases hL:zG (fun k=>CY f (ay l) k d) t.kids with
   |none=>rw[hL]at h;cases h
   |some ks=>
   rw[hL]at h
   cases h
   obtain⟨IB,KM⟩:=w7 hL
   have du:pG ks+1<=1000000:=by rw[Tm.lD]at hz;simp only[Tm.kids]at hz;omega
   have hle:=oC ks
   refine mg jR ?_
   refine aH (fun i:Nat=>⟨ba [.d (.sl (l.map TB.d)), .aa, .d (.i d), .aa, .ptr 0 0, .aa, .ptr 1 0, .aa, .aa, .ptr 11 0, .d (.i i)],aI (Bt t.op t.n ks i) 0 (.row t.row),12+1⟩)
    (fun i=>i<=t.kids.length) (fun i=>t.kids.length - i) 0 (Nat.zero_le _) (C6 (fun _=>False) .aE _ (fun _ h=>h.elim) (.inl ⟨rfl,rfl,cA⟩) fq fq fq ?_) (fun k hk=> ?_)
   ·exact z7
   replace hk:k<=t.kids.length:=hk
   have q0:aI (Bt t.op t.n ks k) 0 (.row t.row) 0= .row t.row:=ae _ _ _
   have q1:aI (Bt t.op t.n ks k) 0 (.row t.row) 1= .row [.d (.i 0), .d (.i 0), .aE]:=rfl
   have JY:aI (Bt t.op t.n ks k) 0 (.row t.row) 11= .row [.d (.i t.op), .d (.i t.n), .osl 12 0]:=rfl
   have JZ:aI (Bt t.op t.n ks k) 0 (.row t.row) 12= .arr 0 33 3 ((ks.take k).map Tm.d):=rfl
   refine H8 q0 q1 JY JZ ?_
   refine ak (fun h2=> ?_) (fun h2=> ?_)
   ·replace h2:k<t.kids.length:=by simp at h2;omega
    obtain⟨z,Yd⟩:=aF h2
    obtain⟨z',Nz,hF⟩:=KM k z Yd
    have hzm:=List.mem_of_getElem? Yd
    have vh:ks.take (k+1)=ks.take k++[z']:=by rw[List.take_add_one,Nz];rfl
    have e0:(ks.take k).length=k:=by rw[List.length_take];omega
    have hzs:z'.sz<=1000000:=by have:=w9 (List.mem_of_getElem? Nz);omega
    have jB:k<=140737488355327/\(k+1)*24<=140737488355328:=af
    simp+contextual (disch:=first|omega|simp only[go_sem,false_implies]) only[go_sem,wrap64,if_pos,q0,q1,JY,JZ,Yd,List.length_map]
    refine bE (pO hl mf f z z' d (Qj.2 z hzm) hd hF hzs) ?_
    simp+contextual (disch:=first|omega|simp only[go_sem,false_implies]) only[go_sem,wrap64,if_pos,q0,q1,JY,JZ,Yd,List.length_map,e0,if_pos jB]
    refine aw (k+1) h2 af (C6 (fun j=>12<=j) (.osl 12 1) _ (fun _ h=>h) (.inr ⟨12,1,Nat.le_refl _,rfl,by(repeat(first|rfl|rw[ae]|rw[ah _ _ _ _ (by omega)]));rw[vh,List.map_append];rfl⟩) fq Sp fq ?_)
    exact z7
   ·replace h2:k=t.kids.length:=by simp at h2;omega
    subst h2
    have Qh:aI (Bt t.op t.n ks t.kids.length) 0 (.row t.row) 12= .arr 0 33 3 (ks.map Tm.d):=by rw[JZ, <- IB,List.take_length]
    simp+contextual (disch:=first|omega|simp only[go_sem,false_implies]) only[go_sem,wrap64,if_pos,q0,q1,JY,Qh]
    rw[Tm.On]
theorem vj{l:List TB}(hl:l.length<=1000)(mf:∀p∈ay l,p.2.fits){t y:Tm}{f:Nat}(ht:t.fits)(h:CY f (ay l) t (ay l).length=some y)(hz:y.sz<=1000000):aX Tryz.prog 42 [.sl (l.map TB.d),t.d] (.ret [y.d]):=by
 have e:(ay l).length=l.length:=by unfold ay;rw[List.length_map]
 rw[e]at h
 refine aX.aM mix ZV aK ?_
 rw[c42]
 refine zZ ?_
 refine bE (pO hl mf f t y l.length ht hl h hz) ?_
 exact nq
theorem zP{l:List TB}(hl:l.length<=1000)(mf:∀p∈ay l,p.2.fits){n:Nt}{x y:Tm}{f g:Nat}(ha:n.a.fits)(hb:n.b.fits)(hx:CY f (ay l) n.a (ay l).length=some x)(hy:CY g (ay l) n.b (ay l).length=some y)(zx:x.sz<=1000000)(zy:y.sz<=1000000):
 aX Tryz.prog 71 [.sl (l.map TB.d),n.d] (.ret [.bool (iA x y)]):=by
 refine aX.aM mix aad aK ?_
 rw[c71]
 refine cm ?_
 refine cU (vj hl mf ha hx zx) ?_
 refine cm ?_
 refine cU (vj hl mf hb hy zy) ?_
 refine cm ?_
 refine bc (wM x (Tm.iY _ zx) y (Tm.iY _ zy)) rfl ?_
 exact Np
end Go.Proofs.YtlhemmpklhhgoaaGreat
set_option maxHeartbeats 2000000
namespace Go.Proofs.YtlhemmpklhhgoaaGreat
theorem Qp(nb nn:Int)(l m:Int×Int)(ms:List (Int×Int)):qK nb nn l (m::ms)=(da m.1 l.1 nb&&da m.2 l.2 nn&&qK nb nn m ms):=by
 rw[qK]
 congr 1
 unfold da
 rw[Bool.eq_iff_iff]
 simp
 omega
theorem kn(s:eu)(hs:s.Fin){ok:Bool}(aQ:ok=true↔fm s):aX Tryz.prog 22 [s.d] (.ret [.bool ok]):=by
 have no: ¬fm s->ok=false:=fun h=>by
  cases ok with
  |false=>rfl
  |true=>exact absurd (aQ.1 rfl) h
 have rv:=hs.bl
 have vV:=hs.nl
 have B5:=hs.ml
 refine aX.aM mix ZO aK ?_
 rw[c22]
 refine cm ?_
 refine ao (WG s.sig hs.sig) rfl ?_
 cases h1:j5 s.sig with
 |false=>
  have:=no fun h=>by have:=h.sig;rw[h1]at this;cases this
  exact vo
 |true=>
 obtain⟨bo,NM⟩:∃bo:Bool,bo=true↔s6 s.sig s.binds:=by
  classical
  exact⟨decide (s6 s.sig s.binds),aK⟩
 refine cm ?_
 refine ao (BA s.sig hs.sig h1 s.binds rv (fun x hx=>(hs.bt x hx).fits) NM) rfl ?_
 cases bo with
 |false=>
  have:=no fun h=>Bool.false_ne_true (NM.2 h.EX)
  exact vo
 |true=>
 have hb:=NM.1 rfl
 by_cases h3:12<s.aV.length
 ·have qb:decide ((s.aV.length:Int)>12)=true:=by simp;omega
  have:=no fun h=>by have:=h.Qk;omega
  subst this
  exact Ia qb
 have qb:decide ((s.aV.length:Int)>12)=false:=by simp;omega
 by_cases h4:8<s.marks.length
 ·have DF:decide ((s.marks.length:Int)>8)=true:=by simp;omega
  have:=no fun h=>by have:=h.EA;omega
  subst this
  exact MR qb DF
 have DF:decide ((s.marks.length:Int)>8)=false:=by simp;omega
 obtain⟨l',ρ,R,hS,FK⟩:=xb hb.keys hb.ok hb.X6
 have mf:∀p∈ay s.binds,p.2.fits:=fun p hp=>by
  obtain⟨x,hx,rfl⟩:=gN hp
  exact(hs.bt x hx).fits
 have cI:∀p∈ay s.binds,EV (ay s.binds) p.2:=fun p hp=>by
  obtain⟨x,hx,rfl⟩:=gN hp
  exact hb.frm x hx
 refine C9 qb DF ?_
 refine aH (fun k:Nat=>⟨ba [.aa, .ptr 0 0, .aa, .d (.i k)],aI (fun _=> .no) 0 (.row s.row),1⟩)
  (fun k=>k<=s.aV.length/\∀n∈s.aV.take k,ki s.sig n.a=true/\ki s.sig n.b=true/\ ¬Ya (ay s.binds) n) (fun k=>s.aV.length - k) 0 ⟨Nat.zero_le _,fun n hn=>by simp at hn⟩ (bG.bU _ af af ek (fun j hj=>rfl) ?_) (fun k hk=> ?_)
 ·exact dQ
 obtain⟨hk,ho⟩:=hk
 refine zZ ?_
 refine ak (fun h6=> ?_) (fun h6=> ?_)
 ·replace h6:k<s.aV.length:=by simp at h6;omega
  obtain⟨n,hn⟩:=aF h6
  have xk:=List.mem_of_getElem? hn
  obtain⟨na,nb⟩:=hs.nt n xk
  have ea:=Bw h1 n.a
  have eb:=Bw h1 n.b
  refine re hn ?_
  refine bc (pL s.sig hs.sig n.a na.fits) rfl ?_
  cases va:(iz s.sig n.a&&eG n.a)with
  |false=>
   have:=no fun h=>by have:=(h.aV n xk).1;rw[ea,va]at this;cases this
   exact Nk
  |true=>
   refine re hn ?_
   refine bc (pL s.sig hs.sig n.b nb.fits) rfl ?_
   cases vb:(iz s.sig n.b&&eG n.b)with
   |false=>
    have:=no fun h=>by have:=(h.aV n xk).2.1;rw[eb,vb]at this;cases this
    exact Nk
   |true=>
    obtain⟨a1,a2,a3⟩:=iG (ea.trans va)
    obtain⟨b1,b2,b3⟩:=iG (eb.trans vb)
    have za:=ra hS cI a1
    have zb:=ra hS cI b1
    obtain⟨fa,ua⟩:=Hk hS a1
    obtain⟨fb,ub⟩:=Hk hS b1
    have W3:=C2 (n:=n) hS a1 b1
    refine re hn ?_
    refine bc (zP rv mf (n:=n) na.fits nb.fits ua ub af af) rfl ?_
    cases xh:iA (dy (ay l') n.a) (dy (ay l') n.b)with
    |true=>
     have:=no fun h=>(h.aV n xk).2.2 (W3.2 ((lW _ _).1 xh))
     exact Nk
    |false=>
     refine re hn ?_
     refine aR (bp rfl) ?_
     refine cm ?_
     refine aw (k+1) ⟨h6,fun y hy=> ?_⟩ af (bG.bU _ af af ek (fun j hj=>rfl) ?_)
     ·rw[List.take_add_one,hn]at hy
      rcases List.mem_append.1 hy with hy|hy
      ·exact ho y hy
      ·simp at hy
       subst hy
       refine⟨ea.trans va,eb.trans vb,fun h=> ?_⟩
       rw[(lW _ _).2 (W3.1 h)]at xh;cases xh
     ·exact dQ
 ·replace h6:k=s.aV.length:=by simp at h6;omega
  subst h6
  rw[List.take_length]at ho
  have fin:qK s.binds.length s.aV.length (0,0) s.marks=ok:=by
   rw[Bool.eq_iff_iff,aQ]
   exact⟨fun h=>⟨h1,af,af,hb,ho,h⟩,fun h=>h.marks⟩
  refine zZ ?_
  refine aH (fun i:Nat×Int×Int=>⟨ba [.aa, .ptr 0 0, .aa, .aa, .ptr 7 0, .d (.i i.1)],aI (aI (fun _=> .no) 0 (.row s.row)) 7 (.row [.d (.i i.2.1), .d (.i i.2.2)]),8⟩)
   (fun i=>i.1<=s.marks.length/\qK s.binds.length s.aV.length i.2 (s.marks.drop i.1)=ok) (fun i=>s.marks.length - i.1) (0,0,0) ⟨Nat.zero_le _,fin⟩ (bG.bU _ (show 0<=8 from af) af ek (fun j hj=> ?_) ?_) ?_
  ·by_cases e:j=7
   ·exact tv
   ·exact fq
  ·exact dQ
  rintro⟨k,l1,l2⟩ ⟨hk,jd⟩
  dsimp only at hk jd|-
  refine zZ ?_
  refine ak (fun h7=> ?_) (fun h7=> ?_)
  ·replace h7:k<s.marks.length:=by simp at h7;omega
   obtain⟨⟨m1,m2⟩,hm⟩:=aF h7
   have JX:s.marks.drop k=(m1,m2)::s.marks.drop (k+1):=by
    obtain⟨i1,i2⟩:=List.getElem?_eq_some_iff.1 hm
    exact Il
   rw[JX,Qp]at jd
   dsimp only at jd
   refine re hm ?_
   refine ao (Bv m1 l1 s.binds.length) rfl ?_
   cases g1:da m1 l1 s.binds.length with
   |false=>
    rw[g1]at jd
    simp only[Bool.false_and]at jd
    subst jd
    exact nq
   |true=>
    rw[g1]at jd
    refine re hm ?_
    refine ao (Bv m2 l2 s.aV.length) rfl ?_
    cases g2:da m2 l2 s.aV.length with
    |false=>
     rw[g2]at jd
     simp only[Bool.true_and,Bool.false_and]at jd
     subst jd
     exact nq
    |true=>
     rw[g2]at jd
     simp only[Bool.true_and]at jd
     refine re hm ?_
     refine aw (k+1,m1,m2) ⟨h7,jd⟩ rh (bG.bU _ (show 0<=8 from af) af ek (fun j hj=> ?_) ?_)
     ·have hj:j<8:=hj
      by_cases e:j=7
      ·exact tv
      ·(repeat(first|rfl|rw[ae]|rw[ah _ _ _ _ (by omega)]));rw[ah _ 7 _ _ e]
     ·exact dQ
  ·replace h7:k=s.marks.length:=by simp at h7;omega
   subst h7
   rw[List.drop_length]at jd
   have jd:true=ok:=jd
   subst jd
   exact nq
structure eu.Fits (s:eu):Prop where
 sig:s.sig.Fits
 bl:s.binds.length<=9223372036854775807
 nl:s.aV.length<=9223372036854775807
 ml:s.marks.length<=9223372036854775807
 bt:∀x∈s.binds,x.term.fits
 nt:∀n∈s.aV,n.a.fits/\n.b.fits
structure zQ (s:eu):Prop where
 sig:gX s.sig=true
 bl:s.binds.length<=22
 nl:s.aV.length<=14
 ml:s.marks.length<=10
 bt:∀x∈s.binds,fM x.term=true
 nt:∀n∈s.aV,fM n.a=true/\fM n.b=true
theorem Qq{s:eu}(hf:s.Fits)(h:zQ s):s.Fin:=by
 have sm:∀t:Tm,t.fits->fM t=true->t.Fin:=fun t h1 h2=>⟨h1,by have:=((Bg t).1 h2).2;omega⟩
 have:=h.bl
 have:=h.nl
 have:=h.ml
 exact⟨hf.sig,af,af,af,fun x hx=>sm _ (hf.bt x hx) (h.bt x hx),fun n hn=>⟨sm _ (hf.nt n hn).1 (h.nt n hn).1,sm _ (hf.nt n hn).2 (h.nt n hn).2⟩⟩
theorem BB(s:eu)(hs:s.Fits){ok:Bool}(aQ:ok=true↔zQ s):aX Tryz.prog 23 [s.d] (.ret [.bool ok]):=by
 have no: ¬zQ s->ok=false:=fun h=>by
  cases ok with
  |false=>rfl
  |true=>exact absurd (aQ.1 rfl) h
 have rv:=hs.bl
 have vV:=hs.nl
 have B5:=hs.ml
 refine aX.aM mix ZP aK ?_
 rw[c23]
 refine cm ?_
 refine ao (A9 s.sig hs.sig) rfl ?_
 cases h1:gX s.sig with
 |false=>
  have:=no fun h=>by have:=h.sig;rw[h1]at this;cases this
  exact vo
 |true=>
 by_cases h2:22<s.binds.length
 ·have qa:decide ((s.binds.length:Int)>22)=true:=by simp;omega
  have:=no fun h=>by have:=h.bl;omega
  subst this
  exact Ia qa
 have qa:decide ((s.binds.length:Int)>22)=false:=by simp;omega
 by_cases h3:14<s.aV.length
 ·have qb:decide ((s.aV.length:Int)>14)=true:=by simp;omega
  have:=no fun h=>by have:=h.nl;omega
  subst this
  exact MR qa qb
 have qb:decide ((s.aV.length:Int)>14)=false:=by simp;omega
 by_cases h4:10<s.marks.length
 ·have DF:decide ((s.marks.length:Int)>10)=true:=by simp;omega
  have:=no fun h=>by have:=h.ml;omega
  subst this
  exact RP qa qb DF
 have DF:decide ((s.marks.length:Int)>10)=false:=by simp;omega
 refine H9 qa qb DF ?_
 refine aH (fun k:Nat=>⟨ba [.aa, .ptr 0 0, .aa, .d (.i k)],aI (fun _=> .no) 0 (.row s.row),1⟩)
  (fun k=>k<=s.binds.length/\∀x∈s.binds.take k,fM x.term=true) (fun k=>s.binds.length - k) 0 ⟨Nat.zero_le _,fun n hn=>by simp at hn⟩ (bG.bU _ af af ek (fun j hj=>rfl) ?_) (fun k hk=> ?_)
 ·exact dQ
 obtain⟨hk,ho⟩:=hk
 refine zZ ?_
 refine ak (fun h6=> ?_) (fun h6=> ?_)
 ·replace h6:k<s.binds.length:=by simp at h6;omega
  obtain⟨x,hx⟩:=aF h6
  have gI:=List.mem_of_getElem? hx
  refine re hx ?_
  refine ao (wN x.term (hs.bt x gI)) rfl ?_
  cases hv:fM x.term with
  |false=>
   have:=no fun h=>by have:=h.bt x gI;rw[hv]at this;cases this
   exact vo
  |true=>
   refine cm ?_
   refine aw (k+1) ⟨h6,fun y hy=> ?_⟩ af (bG.bU _ af af ek (fun j hj=>rfl) ?_)
   ·rw[List.take_add_one,hx]at hy
    rcases List.mem_append.1 hy with hy|hy
    ·exact ho y hy
    ·simp at hy
     subst hy
     exact hv
   ·exact dQ
 ·replace h6:k=s.binds.length:=by simp at h6;omega
  subst h6
  rw[List.take_length]at ho
  refine zZ ?_
  refine aH (fun k:Nat=>⟨ba [.aa, .ptr 0 0, .aa, .aa, .d (.i k)],aI (fun _=> .no) 0 (.row s.row),1⟩)
   (fun k=>k<=s.aV.length/\∀n∈s.aV.take k,fM n.a=true/\fM n.b=true) (fun k=>s.aV.length - k) 0 ⟨Nat.zero_le _,fun n hn=>by simp at hn⟩ (bG.bU _ af af ek (fun j hj=>rfl) ?_) (fun k hk=> ?_)
  ·exact dQ
  obtain⟨hk,Ur⟩:=hk
  refine zZ ?_
  refine ak (fun h6=> ?_) (fun h6=> ?_)
  ·replace h6:k<s.aV.length:=by simp at h6;omega
   obtain⟨n,hn⟩:=aF h6
   have xk:=List.mem_of_getElem? hn
   obtain⟨na,nb⟩:=hs.nt n xk
   refine re hn ?_
   refine ao (wN n.a na) rfl ?_
   cases va:fM n.a with
   |false=>
    have:=no fun h=>by have:=(h.nt n xk).1;rw[va]at this;cases this
    exact vo
   |true=>
    refine re hn ?_
    refine ao (wN n.b nb) rfl ?_
    cases vb:fM n.b with
    |false=>
     have:=no fun h=>by have:=(h.nt n xk).2;rw[vb]at this;cases this
     exact vo
    |true=>
     refine cm ?_
     refine aw (k+1) ⟨h6,fun y hy=> ?_⟩ af (bG.bU _ af af ek (fun j hj=>rfl) ?_)
     ·rw[List.take_add_one,hn]at hy
      rcases List.mem_append.1 hy with hy|hy
      ·exact Ur y hy
      ·simp at hy
       subst hy
       exact⟨va,vb⟩
     ·exact dQ
  ·replace h6:k=s.aV.length:=by simp at h6;omega
   subst h6
   rw[List.take_length]at Ur
   have:ok=true:=aQ.2 ⟨h1,af,af,af,ho,Ur⟩
   exact vo
end Go.Proofs.YtlhemmpklhhgoaaGreat
namespace Go.Proofs.YtlhemmpklhhgoaaGreat
theorem MF:∀ (f:Nat) (t:Tm),t.mD<=f->tt (f+1) [] t=some t
 |0,t,h=>by rw[Tm.Bf]at h;omega
 |f+1,t,h=>by
  have ha:oN (f+1) [] t=some t:=by
   simp only[oN,bZ]
   split<;>rfl
  rw[tt,ha]
  show(zG (tt (f+1) []) t.kids).map (fun ks=>Tm.mk t.op t.n ks)=_
  rw[show zG (tt (f+1) []) t.kids=some (t.kids.map id)from q9 fun k hk=>MF f k (by have:=Tm.wz hk;omega),List.map_id]
  show some (Tm.mk t.op t.n t.kids)=some t
  rw[Tm.eta]
theorem s9(t:Tm)(hz:t.sz<=1000000):aX Tryz.prog 107 [t.d] (.ret [t.d]):=by
 refine aX.aM mix LW aK ?_
 rw[O0]
 refine cm ?_
 refine bE (xa (b:=[]) (fun _ h=>by cases h) (t.mD+1) t t (Tm.iY t hz) (MF _ t (Nat.le_refl _)) hz) ?_
 exact nq
theorem zR(l:List dZ)(hl:l.length<=1000000):aX Tryz.prog 105 [.sl (l.map dZ.d)] (.ret [.sl (l.map dZ.d)]):=by
 refine aX.aM mix LU aK ?_
 rw[OY]
 have hu:Tryz.prog.underlying 22=some (.slice 124):=ag
 cases l with
 |nil=>
  have heq:∀O,th Tryz.prog O 22 true (.d (.sl [])) .aE=some .eg:=by
   intro O
   unfold th
   rw[hu]
   rfl
  simp only[List.map_cons,List.map_nil]
  refine mg heq ?_
  simp only[List.isEmpty_nil,if_true]
  exact xq heq
 |cons a l=>
  have heq:∀O,th Tryz.prog O 22 true (.d (.sl (a.d::l.map dZ.d))) .aE=some (.d (.bool false)):=by
   intro O
   unfold th
   rw[hu]
   rfl
  have FL:(a.d::l.map dZ.d).all (fun z=>z.cells.length==2)=true:=by
   rw[List.all_eq_true]
   intro z hz
   obtain⟨r,_,rfl⟩:=List.mem_map.1 (show z∈(a::l).map dZ.d from hz)
   rfl
  simp only[List.map_cons,List.map_nil]
  refine mg heq ?_
  simp only[List.isEmpty_nil,if_true]
  refine Ib heq FL ?_
  rw[List.length_cons]at hl
  rw[if_pos (by omega)]
  exact nq
theorem BC(l:List (Int×Int))(hl:l.length<=1000000)(o:Nat->ab)(fr:Nat):xm Tryz.prog 106 [.d (.sl (l.map qt))] [] o fr (.osl fr 0) [(fr, .arr 0 77 2 (l.map qt))]:=by
 refine xm.Gp (ds:=[.sl (l.map qt)]) ?_
 refine dA.aM mix LV aK ?_
 rw[OZ]
 have hu:Tryz.prog.underlying 27=some (.slice 77):=ag
 cases l with
 |nil=>
  have heq:∀O,th Tryz.prog O 27 true (.d (.sl [])) .aE=some .eg:=by
   intro O
   unfold th
   rw[hu]
   rfl
  simp only[List.map_cons,List.map_nil]
  refine mg heq ?_
  simp only[List.isEmpty_nil,if_true]
  refine mg heq ?_
  exact .inl ⟨3,1,rfl,ae _ _ _⟩
 |cons a l=>
  have heq:∀O,th Tryz.prog O 27 true (.d (.sl (qt a::l.map qt))) .aE=some (.d (.bool false)):=by
   intro O
   unfold th
   rw[hu]
   rfl
  have FL:(qt a::l.map qt).all (fun z=>z.cells.length==2)=true:=by
   rw[List.all_eq_true]
   intro z hz
   obtain⟨r,_,rfl⟩:=List.mem_map.1 (show z∈(a::l).map qt from hz)
   rfl
  simp only[List.map_cons,List.map_nil]
  refine mg heq ?_
  simp only[List.isEmpty_nil,if_true]
  refine Ib heq FL ?_
  rw[List.length_cons]at hl
  rw[if_pos (by omega)]
  refine cm ?_
  exact .inl ⟨3,1,rfl,ae _ _ _⟩
end Go.Proofs.YtlhemmpklhhgoaaGreat
set_option maxHeartbeats 4000000
namespace Go.Proofs.YtlhemmpklhhgoaaGreat
structure eu.Cp (s:eu):Prop where
 lc:s.sig.cons.length<=1000000
 lf:s.sig.bF.length<=1000000
 bl:s.binds.length<=1000
 nl:s.aV.length<=1000
 ml:s.marks.length<=1000
 bt:∀x∈s.binds,x.term.sz<=1000000
 nt:∀n∈s.aV,n.a.sz<=1000000/\n.b.sz<=1000000
def vm(o:Nat->ab)(nx:Nat)(s:eu)(b:List (Int×Tm))(x:V)(y:V)(l:List D):Nat->ab:=
 aI (aI (aI (aI (aI o nx (.row [.d (.sl (s.sig.cons.map dZ.d)), .d (.sl (s.sig.bF.map dZ.d)), .d (.sl (s.binds.map TB.d)), .d (.sl (s.aV.map Nt.d)), .d (.sl (s.marks.map qt)), .d (Bn b)])) (nx+1) (.row [.aE, .aE, .aE, .aE, .aE])) (nx+16) (.arr 0 77 2 (s.marks.map qt)))
  (nx+18) (.row [.d (.sl (s.sig.cons.map dZ.d)), .d (.sl (s.sig.bF.map dZ.d)),x,y, .osl (nx+16) 0])) (nx+20) (.arr 0 59 4 l)
theorem Af(o:Nat->ab)(nx:Nat)(s:eu)(b:List (Int×Tm))(x y:V)(l:List D):vm o nx s b x y l nx= .row [.d (.sl (s.sig.cons.map dZ.d)), .d (.sl (s.sig.bF.map dZ.d)), .d (.sl (s.binds.map TB.d)), .d (.sl (s.aV.map Nt.d)), .d (.sl (s.marks.map qt)), .d (Bn b)]:=Dc
theorem stA_1(o:Nat->ab)(nx:Nat)(s:eu)(b:List (Int×Tm))(x y:V)(l:List D):vm o nx s b x y l (nx+1)= .row [.aE, .aE, .aE, .aE, .aE]:=Dc
theorem stA_16(o:Nat->ab)(nx:Nat)(s:eu)(b:List (Int×Tm))(x y:V)(l:List D):vm o nx s b x y l (nx+16)= .arr 0 77 2 (s.marks.map qt):=Dc
theorem stA_18(o:Nat->ab)(nx:Nat)(s:eu)(b:List (Int×Tm))(x y:V)(l:List D):vm o nx s b x y l (nx+18)= .row [.d (.sl (s.sig.cons.map dZ.d)), .d (.sl (s.sig.bF.map dZ.d)),x,y, .osl (nx+16) 0]:=Dc
theorem stA_20(o:Nat->ab)(nx:Nat)(s:eu)(b:List (Int×Tm))(x y:V)(l:List D):vm o nx s b x y l (nx+20)= .arr 0 59 4 l:=Dc
theorem ta(o:Nat->ab)(nx:Nat)(s:eu)(b:List (Int×Tm))(x y:V)(l:List D){j:Nat}(h0:j≠nx)(h1:j≠nx+1)(h2:j≠nx+16)(h3:j≠nx+18)(h4:j≠nx+20):vm o nx s b x y l j=o j:=Dc
theorem HH(o:Nat->ab)(nx:Nat)(s:eu)(b:List (Int×Tm))(x y x' y':V)(l l':List D){j:Nat}(h1:j<nx+20)(h2:j≠nx+18):vm o nx s b x y l j=vm o nx s b x' y' l' j:=by
 have e:∀x y l,vm o nx s b x y l j=aI (aI (aI o nx (.row [.d (.sl (s.sig.cons.map dZ.d)), .d (.sl (s.sig.bF.map dZ.d)), .d (.sl (s.binds.map TB.d)), .d (.sl (s.aV.map Nt.d)), .d (.sl (s.marks.map qt)), .d (Bn b)])) (nx+1) (.row [.aE, .aE, .aE, .aE, .aE])) (nx+16) (.arr 0 77 2 (s.marks.map qt)) j:=fun x y l=>by
  unfold vm
  rw[ah _ _ _ _ (show j≠nx+20 by omega),ah _ _ _ _ h2]
 rw[e,e]
theorem HI{o:Nat->ab}{nx:Nat}(hg:Good o nx)(s:eu)(b:List (Int×Tm))(i:Nat)(y:V)(hy:y.refs=[])(l:List D):Good (vm o nx s b (.osl (nx+20) i) y l) (nx+21):=by
 unfold vm
 refine Good.aI (Good.aI (Good.aI (Good.aI (Good.aI (hg.mono af) af rfl) af rfl) af rfl) af ?_) af rfl
 simp[ab.refs,V.aP,V.refs,hy]
theorem C7(gone:Nat->Prop)(x:V)(L:List V){o:Nat->ab}{nx:Nat}(hg:Good o nx){s:eu}{b:List (Int×Tm)}{l:List D}(Gn:∀id,gone id->nx+20<=id){e:Nat->V}{so:Nat->ab}{m:Nat}(gx:j7 so gone 59 4 l x)
 (s18:so (nx+18)= .row [.d (.sl (s.sig.cons.map dZ.d)), .d (.sl (s.sig.bF.map dZ.d)),x, .aE, .osl (nx+16) 0]) (h:∀j,j<nx+20->j≠nx+18->so j=vm o nx s b (.osl (nx+20) 0) .aE l j) (he:jq (nx+20) [⟨x,59,4,l⟩] so gone e L 0):
 bG nx ⟨e,so,m⟩ ⟨ba L,vm o nx s b (.osl (nx+20) 0) .aE l,nx+21⟩:=by
 refine bG.GR gone x (nx+20) L af (fun j hj=> ?_) (stA_20 _ _ _ _ _ _ _) gx (fun j hj=> ?_) (fun j h1 h2=>absurd (Gn j h1) af) he
 ·by_cases e1:j=nx+18
  ·subst e1
   rw[stA_18]
   exact ri s18 (oS (oS (Ae 0 rfl rfl rfl (wK oR (wK oR rj)))))
  ·refine gP (h j hj e1) (fun r hr=> ?_)
   by_cases e2:j=nx
   ·exact SJ
   ·by_cases e3:j=nx+1
    ·subst e3;rw[stA_1]at hr;simp[ab.refs,V.aP,V.refs]at hr
    ·by_cases e4:j=nx+16
     ·subst e4;rw[stA_16]at hr;simp[ab.refs]at hr
     ·rw[ta _ _ _ _ _ _ _ e2 e3 e4 e1 (by omega)]at hr
      have:=hg.refs j r hr
      omega
 ·rw[ta _ _ _ _ _ _ _ (by omega) (by omega) (by omega) (by omega) (by omega)]
  exact hg.fresh j af
def Ab(o:Nat->ab)(nx:Nat)(s:eu)(b:List (Int×Tm))(l:List D):Nat->ab:=aI (vm o nx s b (.osl (nx+20) 0) (.osl (nx+21) 0) (s.binds.map TB.d)) (nx+21) (.arr 0 101 6 l)
theorem C8(gone:Nat->Prop)(x:V)(L:List V){o:Nat->ab}{nx:Nat}(hg:Good o nx){s:eu}{b:List (Int×Tm)}{l:List D}(Gn:∀id,gone id->nx+21<=id){e:Nat->V}{so:Nat->ab}{m:Nat}(gx:j7 so gone 101 6 l x)
 (s18:so (nx+18)= .row [.d (.sl (s.sig.cons.map dZ.d)), .d (.sl (s.sig.bF.map dZ.d)), .osl (nx+20) 0,x, .osl (nx+16) 0]) (h:∀j,j<nx+21->j≠nx+18->so j=Ab o nx s b l j) (he:jq (nx+21) [⟨x,101,6,l⟩] so gone e L 0):
 bG nx ⟨e,so,m⟩ ⟨ba L,Ab o nx s b l,nx+22⟩:=by
 refine bG.GR gone x (nx+21) L af (fun j hj=> ?_) (ae _ _ _) gx (fun j hj=> ?_) (fun j h1 h2=>absurd (Gn j h1) af) he
 ·by_cases e1:j=nx+18
  ·subst e1
   rw[Ab,ah _ _ _ _ (by omega),stA_18]
   exact ri s18 (oS (oS (wK oR (Ae 0 rfl rfl rfl (wK oR rj)))))
  ·refine gP (h j hj e1) (fun r hr=> ?_)
   rw[Ab,ah _ _ _ _ (by omega)]at hr
   by_cases e2:j=nx
   ·exact SJ
   ·by_cases e3:j=nx+1
    ·subst e3;rw[stA_1]at hr;simp[ab.refs,V.aP,V.refs]at hr
    ·by_cases e4:j=nx+16
     ·subst e4;rw[stA_16]at hr;simp[ab.refs]at hr
     ·by_cases e5:j=nx+20
      ·subst e5;rw[stA_20]at hr;simp[ab.refs]at hr
      ·rw[ta _ _ _ _ _ _ _ e2 e3 e4 e1 e5]at hr
       have:=hg.refs j r hr
       omega
 ·rw[Ab,ah _ _ _ _ (by omega),ta _ _ _ _ _ _ _ (by omega) (by omega) (by omega) (by omega) (by omega)]
  exact hg.fresh j af
theorem J6(s:eu)(hs:s.Cp)(b:List (Int×Tm))(o:Nat->ab)(nx:Nat)(hg:Good o nx)(K X:V->(Nat->ab)->Nat->Prop)
 (Hy:∀o' nx' i j k,nx<=nx'->Good o' nx'->(∀j,j<nx->o' j=o j)->
  o' i= .arr 0 59 4 (s.binds.map TB.d)->o' j= .arr 0 101 6 (s.aV.map Nt.d)->o' k= .arr 0 77 2 (s.marks.map qt)->
  K (.agg [.d (.sl (s.sig.cons.map dZ.d)), .d (.sl (s.sig.bF.map dZ.d)), .osl i 0, .osl j 0, .osl k 0]) o' nx'):
 dA Tryz.prog 65 [.d (s.kd b)] o nx K X:=by
 refine dA.aM mix U0 aK ?_
 rw[c65]
 refine oQ ?_
 refine cU (zR s.sig.cons hs.lc) ?_
 refine oQ ?_
 refine cU (zR s.sig.bF hs.lf) ?_
 refine oQ ?_
 refine D2 rfl (BC s.marks (by have:=hs.ml;omega) _ _) ?_
 refine oQ ?_
 refine aR (iW (ids:=[nx,nx+16,nx+18]) (nx:=nx+20) aK aK [([0],[]),([0],[]),([0],[]),([0],[]),([],[]),([0],[]),([0],[]),([0],[]),([0],[]),([],[]),([],[]),([0],[]),([0],[]),([0],[]),([],[1]),([],[]),([],[2]),([2,1],[2])] cA) ?_
 refine oQ ?_
 refine aH (fun i:Nat=>⟨ba [.aa, .ptr nx 0, .ptr (nx+1) 0, .ptr (nx+18) 0, .aa, .aa, .aa, .aa, .aa, .aa, .aa, .aa, .aa, .aa, .aa, .aa, .aa, .aa, .aa, .aa, .aa, .aa, .aa, .aa, .aa, .aa, .d (.sl (s.binds.map TB.d)), .d (.i s.binds.length), .d (.i i)],vm o nx s b (.osl (nx+20) 0) .aE ((s.binds.take i).map TB.d),nx+21⟩)
  (fun i=>i<=s.binds.length) (fun i=>s.binds.length - i) 0 (Nat.zero_le _) (C7 (fun _=>False) .aE _ hg (fun _ h=>h.elim) (.inl ⟨rfl,rfl,cA⟩) fq (fun j h1 h2=>by unfold vm;rw[ah _ _ _ _ (show j≠nx+20 by omega),ah _ _ _ _ h2,ah _ _ _ _ h2,ah _ _ _ _ h2]) ?_) (fun k hk=> ?_)
 ·exact z7
 replace hk:k<=s.binds.length:=hk
 have f0:=Af o nx s b (.osl (nx+20) 0) .aE ((s.binds.take k).map TB.d)
 have f1:=stA_1 o nx s b (.osl (nx+20) 0) .aE ((s.binds.take k).map TB.d)
 have f16:=stA_16 o nx s b (.osl (nx+20) 0) .aE ((s.binds.take k).map TB.d)
 have f18:=stA_18 o nx s b (.osl (nx+20) 0) .aE ((s.binds.take k).map TB.d)
 have f20:=stA_20 o nx s b (.osl (nx+20) 0) .aE ((s.binds.take k).map TB.d)
 refine QB f0 f1 f16 f18 f20 ?_
 refine ak (fun h2=> ?_) (fun h2=> ?_)
 ·replace h2:k<s.binds.length:=by simp at h2;omega
  obtain⟨z,hz⟩:=aF h2
  refine RK f0 f1 f16 f18 f20 hz ?_
  refine cU (s9 z.term (hs.bt z (List.mem_of_getElem? hz))) ?_
  have e0:(s.binds.take k).length=k:=by rw[List.length_take];omega
  have jB:k<=140737488355327/\(k+1)*48<=140737488355328:=by have:=hs.bl;omega
  simp+contextual (disch:=first|omega|simp only[go_sem,false_implies]) only[go_sem,wrap64,if_pos,f0,f1,f16,f18,f20,hz,List.length_map,e0,if_pos jB,Nat.add_assoc,Nat.left_eq_add,Nat.add_eq_left,Nat.add_left_cancel_iff]
  refine aR (iW (ids:=[nx+18,nx+24,nx+34,nx+20]) (nx:=nx+38) aK aK [([0],[]),([0],[]),([1],[]),([1],[]),([1],[]),([1],[]),([],[]),([],[]),([],[2]),([3,2],[3]),([0],[]),([0,3],[0])] cA) ?_
  refine oQ ?_
  have vh:s.binds.take (k+1)=s.binds.take k++[z]:=by rw[List.take_add_one,hz];rfl
  refine aw (k+1) h2 af (C7 (fun j=>nx+20<=j) (.osl (nx+20) 1) _ hg (fun _ h=>h) (.inr ⟨nx+20,1,Nat.le_refl _,rfl,by(repeat(first|rfl|rw[ae]|rw[ah _ _ _ _ (by omega)]));rw[vh,List.map_append];rfl⟩) fq (fun j h1 h2=>by(repeat(first|rfl|rw[ae]|rw[ah _ _ _ _ (by omega)]));exact HH _ _ _ _ _ _ _ _ _ _ h1 h2) ?_)
  exact z7
 ·replace h2:k=s.binds.length:=by simp at h2;omega
  subst h2
  refine QB f0 f1 f16 f18 f20 ?_
  rw[List.take_length]
  refine aH (fun i:Nat=>⟨ba [.aa, .ptr nx 0, .ptr (nx+1) 0, .ptr (nx+18) 0, .aa, .aa, .aa, .aa, .aa, .aa, .aa, .aa, .aa, .aa, .aa, .aa, .aa, .aa, .aa, .aa, .aa, .aa, .aa, .aa, .aa, .aa, .aa, .aa, .aa, .aa, .aa, .aa, .aa, .aa, .aa, .aa, .aa, .aa, .aa, .aa, .aa, .aa, .aa, .aa, .aa, .aa, .d (.sl (s.aV.map Nt.d)), .d (.i s.aV.length), .d (.i i)],Ab o nx s b ((s.aV.take i).map Nt.d),nx+22⟩)
   (fun i=>i<=s.aV.length) (fun i=>s.aV.length - i) 0 (Nat.zero_le _) (C8 (fun _=>False) .aE _ hg (fun _ h=>h.elim) (.inl ⟨rfl,rfl,cA⟩) (by rw[stA_18]) (fun j h1 h2=> ?_) ?_) (fun k hk=> ?_)
  ·rw[Ab,ah _ _ _ _ (by omega)]
   by_cases e:j=nx+20
   ·subst e;rw[stA_20,stA_20]
   ·exact HH _ _ _ _ _ _ _ _ _ _ af h2
  ·exact z7
  replace hk:k<=s.aV.length:=hk
  have g0:Ab o nx s b ((s.aV.take k).map Nt.d) nx=_:=(ah _ _ _ _ af).trans (Af _ _ _ _ _ _ _)
  have g1:Ab o nx s b ((s.aV.take k).map Nt.d) (nx+1)=_:=(ah _ _ _ _ af).trans (stA_1 _ _ _ _ _ _ _)
  have g18:Ab o nx s b ((s.aV.take k).map Nt.d) (nx+18)=_:=(ah _ _ _ _ af).trans (stA_18 _ _ _ _ _ _ _)
  have g21:Ab o nx s b ((s.aV.take k).map Nt.d) (nx+21)=_:=ae _ _ _
  refine Kk g0 g1 g18 g21 ?_
  refine ak (fun h2=> ?_) (fun h2=> ?_)
  ·replace h2:k<s.aV.length:=by simp at h2;omega
   obtain⟨z,hz⟩:=aF h2
   refine QB g0 g1 g18 g21 hz ?_
   refine cU (s9 z.a (hs.nt z (List.mem_of_getElem? hz)).1) ?_
   refine QB g0 g1 g18 g21 hz ?_
   refine cU (s9 z.b (hs.nt z (List.mem_of_getElem? hz)).2) ?_
   have e0:(s.aV.take k).length=k:=by rw[List.length_take];omega
   have jB:k<=140737488355327/\(k+1)*80<=140737488355328:=by have:=hs.nl;omega
   simp+contextual (disch:=first|omega|simp only[go_sem,false_implies]) only[go_sem,wrap64,if_pos,g0,g1,g18,g21,hz,List.length_map,e0,if_pos jB,Nat.add_assoc,Nat.left_eq_add,Nat.add_eq_left,Nat.add_left_cancel_iff]
   refine aR (iW (ids:=[nx+18,nx+25,nx+36,nx+21]) (nx:=nx+40) aK aK [([0],[]),([0],[]),([1],[]),([1],[]),([],[]),([1],[]),([1],[]),([],[]),([],[]),([],[2]),([3,2],[3]),([0],[]),([0,3],[0])] cA) ?_
   refine oQ ?_
   have vh:s.aV.take (k+1)=s.aV.take k++[z]:=by rw[List.take_add_one,hz];rfl
   refine aw (k+1) h2 af (C8 (fun j=>nx+21<=j) (.osl (nx+21) 1) _ hg (fun _ h=>h) (.inr ⟨nx+21,1,Nat.le_refl _,rfl,by(repeat(first|rfl|rw[ae]|rw[ah _ _ _ _ (by omega)]));rw[vh,List.map_append];rfl⟩) fq (fun j h1 h2=>by(repeat(first|rfl|rw[ae]|rw[ah _ _ _ _ (by omega)]));unfold Ab;(repeat(first|rfl|rw[ae]|rw[ah _ _ _ _ (by omega)]))) ?_)
   exact z7
  ·replace h2:k=s.aV.length:=by simp at h2;omega
   subst h2
   refine Kk g0 g1 g18 g21 ?_
   refine Hy _ _ (nx+20) (nx+21) (nx+16) af ?_ (fun j hj=> ?_) ?_ ?_ ?_
   ·have h1:=HI hg s b 0 .aE rfl (s.binds.map TB.d)
    unfold Ab vm
    refine Good.aI (Good.aI (Good.aI (Good.aI (Good.aI (Good.aI (Good.aI (hg.mono af) af rfl) af rfl) af rfl) af ?_) af rfl) af rfl) af ?_
    ·exact De
    ·exact De
   ·(repeat(first|rfl|rw[ae]|rw[ah _ _ _ _ (by omega)]))
    rw[Ab,ah _ _ _ _ (by omega)]
    exact ta _ _ _ _ _ _ _ af af af af af
   ·(repeat(first|rfl|rw[ae]|rw[ah _ _ _ _ (by omega)]))
    rw[Ab,ah _ _ _ _ (by omega)]
    exact stA_20 _ _ _ _ _ _ _
   ·(repeat(first|rfl|rw[ae]|rw[ah _ _ _ _ (by omega)]))
    rw[g21,List.take_length]
   ·(repeat(first|rfl|rw[ae]|rw[ah _ _ _ _ (by omega)]))
    rw[Ab,ah _ _ _ _ (by omega)]
    exact stA_16 _ _ _ _ _ _ _
end Go.Proofs.YtlhemmpklhhgoaaGreat
namespace Go.Proofs.YtlhemmpklhhgoaaGreat
theorem dA.HJ {P:Program}{g:FuncId}{x:V}{d:D}{rest:List V}{o:Nat->ab}{nx:Nat}{K X:V->(Nat->ab)->Nat->Prop}(hx:dv o x=some d)
 (h:dA P g (.d d::rest) (put o (bP o x.ids)) nx K X):dA P g (x::rest) o nx K X:=by
 refine⟨h.1,fun M φ w vals hH hd=> ?_⟩
 have hd0:=hd
 obtain⟨val,us,nu,hv,ee⟩:=hd
 have hu:=fun id au=>cD x val hv id au
 obtain⟨f1,f2,f3,f4,f5⟩:=cG (H:=hp o nx) hH x.ids hu
 have im:(hp o nx).put (bP o x.ids)=hp (put o (bP o x.ids)) nx:=P8 (fun y hy=>by
  simp only[bP,List.mem_map]at hy
  obtain⟨id,au,rfl⟩:=hy
  exact hu id au)
 have f1':=f1;have f2':=f2
 rw[show bP (hp o nx).o x.ids=bP o x.ids from rfl,im]at f1' f2'
 have XR:∀k,cn φ ((hp o nx).put (bP o x.ids)) k->cn φ (hp o nx) k:=by
  rintro k ⟨id,g1,g2⟩
  by_cases au:id∈x.ids
  ·have:=f3 id au
   rw[show((hp o nx).put (bP o x.ids)).o id=_ from this]at g1
   refine⟨id, ?_,g2⟩
   revert g1
   cases(hp o nx).o id<;>simp[ab.fz,ab.live]
  ·have:=f4 id au
   rw[show((hp o nx).put (bP o x.ids)).o id=_ from this]at g1
   exact⟨id,g1,g2⟩
 have MG:∀j,lu (((hp o nx).put (bP o x.ids)).o j) ((hp o nx).o j):=fun j=>by
  by_cases hm:j∈x.ids
  ·rw[show((hp o nx).put (bP o x.ids)).o j=_ from f3 j hm];exact lu.fz _
  ·rw[show((hp o nx).put (bP o x.ids)).o j=_ from f4 j hm];exact lu.rfl' rfl
 have h4:=V.lx (H:=hp o nx) (H':=(hp o nx).put (bP o x.ids)) (B:=ai M φ (hp o nx)) (B':=ai M φ ((hp o nx).put (bP o x.ids))) (fun k h h'=>h (h'.imp id (XR k))) x val (fun id au=>⟨MG id,rfl,(f5 id).2 ((V.lU x val hv) id au)⟩) hv
 have h5:=ey f1 (o:=o) x d val (fun id au=>f3 id au) hx h4
 have h6:=V.fN (H:=hp o nx) (H':=(hp o nx).put (bP o x.ids)) (B:=ai M φ (hp o nx)) (B':=ai M φ ((hp o nx).put (bP o x.ids))) (fun k h h'=>h (h'.imp id (XR k))) rest us (fun id au=>⟨MG id,rfl,(f5 id).2 ((V.fO rest us ee) id au)⟩) ee
 rw[show(hp o nx).put (bP (hp o nx).o x.ids)=hp (put o (bP o x.ids)) nx from im]at h5
 rw[im]at h6
 refine(h.2 M φ w vals f1' ⟨val,us,nu,h5,h6⟩).mono ?_
 rintro e w' ⟨aA,o',nx',v,k1,k2,k3⟩
 exact⟨aA,o',nx',v,k1,f2'.trans k2,k3⟩
end Go.Proofs.YtlhemmpklhhgoaaGreat
set_option maxHeartbeats 4000000
namespace Go.Proofs.YtlhemmpklhhgoaaGreat
def iZ:eu:=⟨⟨[],[]⟩,[],[],[]⟩
theorem gO:iZ.d= .agg [.sl [], .sl [], .sl [], .sl [], .sl []]:=rfl
def eu.mark (s:eu):eu:=⟨s.sig,s.binds,s.aV,s.marks++[((s.binds.length:Int),(s.aV.length:Int))]⟩
theorem J7{s:aN}(h:j5 s=true):s.cons.length<=1000000/\s.bF.length<=1000000:=by
 unfold j5 at h
 split at h
 ·cases h
 ·rename_i h1
  simp only[Bool.or_eq_true,not_or,decide_eq_true_eq,Bool.not_eq_true',Bool.not_eq_false,da,Bool.and_eq_true]at h1
  omega
theorem fm.cp {s:eu}(h:fm s):s.Cp:=by
 obtain⟨k1,k2⟩:=J7 h.sig
 have a1:=h.Qk
 have a2:=h.EA
 have a3:=h.EX.len
 refine⟨k1,k2,af,af,af,fun x hx=> ?_,fun n hn=> ?_⟩
 ·have:=(iG (h.EX.ok x hx).2).2.1
  omega
 ·have h1:=(iG (h.aV n hn).1).2.1
  have h2:=(iG (h.aV n hn).2.1).2.1
  omega
theorem HK{o:Nat->ab}{id:Nat}{es:List (D×D)}(h:o id= .cM es):put o (bP o [id])=o:=by
 funext j
 simp only[bP,List.map_cons,List.map_nil,h,put,List.foldl_cons,List.foldl_nil]
 by_cases e:j=id
 ·subst e;rw[ae,h]
 ·rw[ah _ _ _ _ e]
theorem zS(s:eu)(hs:s.Cp)(b:List (Int×Tm))(o:Nat->ab)(nx id:Nat)(hg:Good o nx)(au:o id= .cM (enc (D.int .i64) (oD b)))(K X:V->(Nat->ab)->Nat->Prop)
 (Hy:∀o' nx' i j k,nx<=nx'->Good o' nx'->(∀j,j<nx->o' j=o j)->
  o' i= .arr 0 59 4 (s.binds.map TB.d)->o' j= .arr 0 101 6 (s.aV.map Nt.d)->o' k= .arr 0 77 2 (s.marks.map qt)->
  K (.agg [.d (.sl (s.sig.cons.map dZ.d)), .d (.sl (s.sig.bF.map dZ.d)), .osl i 0, .osl j 0, .osl k 0]) o' nx'):
 dA Tryz.prog 65 [.agg [.d (.sl (s.sig.cons.map dZ.d)), .d (.sl (s.sig.bF.map dZ.d)), .d (.sl (s.binds.map TB.d)), .d (.sl (s.aV.map Nt.d)), .d (.sl (s.marks.map qt)), .mp id]] o nx K X:=by
 refine dA.HJ (d:=s.kd b) ?_ ?_
 ·exact xq au
 ·show dA _ _ _ (put o (bP o [id])) nx K X
  rw[HK au]
  exact J6 s hs b o nx hg K X Hy
theorem Qr(s:eu)(hs:s.Fin){ok:Bool}(aQ:ok=true↔fm s):aX Tryz.prog 44 [s.d] (.ret (if ok=true then if s.marks.length=8 then [iZ.d, .i 3]else [s.mark.d, .i 0]else [iZ.d, .i 2])):=by
 refine aX.aM mix ZX aK ?_
 rw[c44]
 refine oQ ?_
 refine dY (C4 s hs _ _ ek _ _ (fun h o' nx' id i1 i2 i3 i4=> ?_) (fun h o' nx' id m i1 i0 i2 i3 i4=> ?_))
 ·have:ok=true:=aQ.2 h
  subst this
  have e0:o' 0= .row s.row:=(i3 0 af).trans fq
  have e1:o' 1= .row [.aE, .aE, .aE, .aE, .aE]:=(i3 1 af).trans fq
  by_cases h8:s.marks.length=8
  ·have EG:((s.marks.length:Int)==8)=true:=by rw[beq_iff_eq];omega
   exact RI e0 e1 h8 EG
  have EG:((s.marks.length:Int)==8)=false:=by rw[beq_eq_false_iff_ne];omega
  simp+contextual (disch:=first|omega|simp only[go_sem,false_implies]) only[go_sem,wrap64,if_pos,Nat.add_assoc,Nat.left_eq_add,Nat.add_eq_left,Nat.add_left_cancel_iff,e0,e1,h8,EG,List.length_map,gO]
  have au:id<nx':=Good.lt i2 (by rw[i4];exact fun h=>nomatch h)
  refine gh (zS s h.cp (ay s.binds) _ _ id ?_ Sv _ _ (fun o2 n2 i j k m1 m2 m3 m4 m5 m6=> ?_))
  ·refine Good.aI (Good.aI (i2.mono af) af rfl) af ?_
   simp[ab.refs,V.aP,V.refs]
   omega
  have e0':o2 0= .row s.row:=(m3 0 af).trans Su
  have BD:o2 1= .row [.aE, .aE, .aE, .aE, .aE]:=(m3 1 af).trans Sw
  have li:i<n2:=Good.lt m2 (by rw[m4];exact fun h=>nomatch h)
  have lj:j<n2:=Good.lt m2 (by rw[m5];exact fun h=>nomatch h)
  have lk:k<n2:=Good.lt m2 (by rw[m6];exact fun h=>nomatch h)
  have dik:i≠k:=fun e=>by subst e;rw[m4]at m6;injection m6 with _ h;exact absurd h cA
  have djk:j≠k:=fun e=>by subst e;rw[m5]at m6;injection m6 with _ h;exact absurd h cA
  have y1:k≠n2:=af
  have y2:∀a,k≠n2+a:=fun a=>af
  have y3:i≠n2:=af
  have y4:∀a,i≠n2+a:=fun a=>af
  have y5:j≠n2:=af
  have y6:∀a,j≠n2+a:=fun a=>af
  have z1:(1:Nat)≠n2:=af
  have z2:(1:Nat)≠k:=fun e=>by subst e;rw[m6]at BD;cases BD
  have z3:i≠1:=fun e=>by subst e;rw[m4]at BD;cases BD
  have z4:j≠1:=fun e=>by subst e;rw[m5]at BD;cases BD
  have jB:s.marks.length<=140737488355327/\(s.marks.length+1)*16<=140737488355328:=by have:=h.EA;omega
  simp+contextual (disch:=first|omega|simp only[go_sem,false_implies]) only[go_sem,wrap64,if_pos,Nat.add_assoc,Nat.left_eq_add,Nat.add_eq_left,Nat.add_left_cancel_iff,e0',BD,m4,m5,m6,List.length_map,y1,y2,y3,y4,y5,y6,dik,djk,z1,z2,z3,z4,jB]
  rw[if_neg h8]
  simp only[eu.mark,eu.d,List.map_append,List.map_cons,List.map_nil]
 ·have:ok=false:=by
   cases ok with
   |false=>rfl
   |true=>exact absurd (aQ.1 rfl) h
  subst this
  have e0:o' 0= .row s.row:=(i3 0 af).trans fq
  have e1:o' 1= .row [.aE, .aE, .aE, .aE, .aE]:=(i3 1 af).trans fq
  simp+contextual (disch:=first|omega|simp only[go_sem,false_implies]) only[go_sem,wrap64,if_pos,Nat.add_assoc,Nat.left_eq_add,Nat.add_eq_left,Nat.add_left_cancel_iff,e0,e1,gO]
def eu.HL (s:eu):eu:=match s.marks.getLast? with
 |some m=>⟨s.sig,s.binds.take m.1.toNat,s.aV.take m.2.toNat,s.marks.dropLast⟩
 |none=>iZ
theorem tc{nb nn:Int}:∀ {l:List (Int×Int)} {a:Int×Int},0<=a.1->0<=a.2->qK nb nn a l=true->∀m∈l,0<=m.1/\m.1<=nb/\0<=m.2/\m.2<=nn
 |[],_,_,_,_,m,hm=>by cases hm
 |x::l,a,h1,h2,h,m,hm=>by
  simp only[qK,Bool.and_eq_true,Bool.not_eq_true',Bool.or_eq_false_iff,decide_eq_false_iff_not]at h
  obtain⟨⟨⟨⟨g1,g2⟩,g3⟩,g4⟩,g5⟩:=h
  rcases List.mem_cons.1 hm with rfl|hm
  ·omega
  ·exact tc af af g5 m hm
theorem xd(s:eu)(hs:s.Fin){ok:Bool}(aQ:ok=true↔fm s):aX Tryz.prog 45 [s.d] (.ret (if ok=true then if s.marks.length=0 then [iZ.d, .i 6]else [s.HL.d, .i 0]else [iZ.d, .i 2])):=by
 refine aX.aM mix ZY aK ?_
 rw[c45]
 refine oQ ?_
 refine dY (C4 s hs _ _ ek _ _ (fun h o' nx' id i1 i2 i3 i4=> ?_) (fun h o' nx' id m i1 i0 i2 i3 i4=> ?_))
 ·have:ok=true:=aQ.2 h
  subst this
  have e0:o' 0= .row s.row:=(i3 0 af).trans fq
  have e1:o' 1= .row [.aE, .aE, .aE, .aE, .aE]:=(i3 1 af).trans fq
  have B5:=h.EA
  by_cases h8:s.marks.length=0
  ·have aaC:decide ((0:Int) - 1<0)=true:=cA
   exact RI e0 e1 h8 aaC
  have EG:decide ((s.marks.length:Int) - 1<0)=false:=by rw[decide_eq_false_iff_not];omega
  obtain⟨ms,m,EB⟩:∃ms m,s.marks=ms++[m]:=⟨s.marks.dropLast,s.marks.getLast (by intro e;rw[e]at h8;exact h8 rfl),(List.dropLast_concat_getLast _).symm⟩
  have Qs:s.HL=⟨s.sig,s.binds.take m.1.toNat,s.aV.take m.2.toNat,ms⟩:=by unfold eu.HL;rw[EB];simp
  obtain⟨m1,m2⟩:=m
  have W6:=tc aK aK h.marks (m1,m2) (by rw[EB];simp)
  dsimp only at W6 Qs
  obtain⟨q1,q2,q3,q4⟩:=W6
  obtain⟨a,rfl⟩:∃a:Nat,m1=a:=⟨m1.toNat,af⟩
  obtain⟨b,rfl⟩:∃b:Nat,m2=b:=⟨m2.toNat,af⟩
  have el:(s.marks.length:Int) - 1=(ms.length:Nat):=by rw[EB];simp
  have kE:s.marks[ms.length]? =some ((a:Int),(b:Int)):=by rw[EB];simp
  have bR:ms.length<=s.marks.length:=by rw[EB];simp
  have htm:s.marks.take ms.length=ms:=by rw[EB];simp
  have q2':a<=s.binds.length:=af
  have q4':b<=s.aV.length:=af
  rw[el]at EG
  simp+contextual (disch:=first|omega|simp only[go_sem,false_implies]) only[go_sem,wrap64,if_pos,Nat.add_assoc,Nat.left_eq_add,Nat.add_eq_left,Nat.add_left_cancel_iff,e0,e1,h8,EG,List.length_map,gO,el,kE]
  refine aR (iW (ids:=[0,nx'+3]) (nx:=nx'+17) aK aK [([0],[]),([0],[]),([0],[]),([0],[]),([],[]),([],[]),([],[]),([],[]),([],[]),([0],[]),([0],[]),([0],[]),([0],[]),([],[]),([],[]),([],[]),([],[]),([],[]),([0],[]),([0],[]),([],[]),([],[]),([1],[]),([1],[]),([1],[1]),([1],[]),([1],[]),([1],[1]),([1],[]),([1],[]),([1],[1])] cA) ?_
  have au:id<nx':=Good.lt i2 (by rw[i4];exact fun h=>nomatch h)
  have t1:List.take a (List.map TB.d s.binds)=(s.binds.take a).map TB.d:=List.map_take.symm
  have t2:List.take b (List.map Nt.d s.aV)=(s.aV.take b).map Nt.d:=List.map_take.symm
  have t3:List.take ms.length (List.map qt s.marks)=ms.map qt:=by rw[<- List.map_take,htm]
  rw[t1,t2,t3]
  refine oQ ?_
  have hc:eu.Cp ⟨s.sig,s.binds.take a,s.aV.take b,ms⟩:=by
   have hc:=h.cp
   refine⟨hc.lc,hc.lf, ?_, ?_, ?_,fun x hx=>hc.bt x (List.mem_of_mem_take hx),fun x hx=>hc.nt x (List.mem_of_mem_take hx)⟩
   ·have:=hc.bl;simp only[List.length_take];omega
   ·have:=hc.nl;simp only[List.length_take];omega
   ·have:=hc.ml;dsimp only;omega
  refine gh (zS ⟨s.sig,s.binds.take a,s.aV.take b,ms⟩ hc (ay s.binds) _ _ id ?_ Sv _ _ (fun o2 n2 i j k m1 m2 m3 m4 m5 m6=> ?_))
  ·refine Good.aI (Good.aI (Good.aI (Good.aI (Good.aI (i2.mono af) af rfl) af ?_) af ?_) af ?_) af ?_
   all_goals (simp[ab.refs,V.aP,V.refs];omega)
  have BD:o2 1= .row [.aE, .aE, .aE, .aE, .aE]:=(m3 1 af).trans Sw
  have z3:i≠1:=fun e=>by subst e;rw[m4]at BD;cases BD
  have z4:j≠1:=fun e=>by subst e;rw[m5]at BD;cases BD
  have z5:k≠1:=fun e=>by subst e;rw[m6]at BD;cases BD
  dsimp only at m4 m5 m6
  simp+contextual (disch:=first|omega|simp only[go_sem,false_implies]) only[go_sem,wrap64,if_pos,Nat.add_assoc,Nat.left_eq_add,Nat.add_eq_left,Nat.add_left_cancel_iff,BD,m4,m5,m6,z3,z4,z5,h8]
  rw[Qs]
  rfl
 ·have:ok=false:=by
   cases ok with
   |false=>rfl
   |true=>exact absurd (aQ.1 rfl) h
  subst this
  have e0:o' 0= .row s.row:=(i3 0 af).trans fq
  have e1:o' 1= .row [.aE, .aE, .aE, .aE, .aE]:=(i3 1 af).trans fq
  simp+contextual (disch:=first|omega|simp only[go_sem,false_implies]) only[go_sem,wrap64,if_pos,Nat.add_assoc,Nat.left_eq_add,Nat.add_eq_left,Nat.add_left_cancel_iff,e0,e1,gO,List.length_map]
end Go.Proofs.YtlhemmpklhhgoaaGreat
set_option maxHeartbeats 4000000
namespace Go.Proofs.YtlhemmpklhhgoaaGreat
theorem lI(l:List dZ)(hl:l.length<=1000000):aX Tryz.prog 73 [.sl (l.map dZ.d), .sl (l.map dZ.d)] (.ret [.bool true]):=by
 refine aX.aM mix U3 aK ?_
 rw[c73]
 refine zZ ?_
 refine aH (fun k:Nat=>⟨ba [.d (.sl (l.map dZ.d)), .d (.sl (l.map dZ.d)), .aa, .aa, .aa, .d (.i k)],fun _=> .no,0⟩)
  (fun k=>k<=l.length) (fun k=>l.length - k) 0 (Nat.zero_le _) (bG.d0 _ ?_) (fun k hk=> ?_)
 ·exact dQ
 refine RM ?_
 refine ak (fun h2=> ?_) (fun h2=> ?_)
 ·simp at h2
  obtain⟨x,hx⟩:=aF h2
  refine MN hx ?_
  refine aR (bp rfl) ?_
  refine cm ?_
  refine aw (k+1) h2 af (bG.d0 _ ?_)
  exact dQ
 ·exact MO
theorem tQ(l:List Nt)(hl:l.length<=1000000)(hf:∀x∈l,x.a.fits/\x.b.fits):aX Tryz.prog 74 [.sl (l.map Nt.d), .sl (l.map Nt.d)] (.ret [.bool true]):=by
 refine aX.aM mix U4 aK ?_
 rw[c74]
 refine zZ ?_
 refine aH (fun k:Nat=>⟨ba [.d (.sl (l.map Nt.d)), .d (.sl (l.map Nt.d)), .aa, .aa, .aa, .d (.i k)],fun _=> .no,0⟩)
  (fun k=>k<=l.length) (fun k=>l.length - k) 0 (Nat.zero_le _) (bG.d0 _ ?_) (fun k hk=> ?_)
 ·exact dQ
 refine RM ?_
 refine ak (fun h2=> ?_) (fun h2=> ?_)
 ·simp at h2
  obtain⟨x,hx⟩:=aF h2
  have EW:=hf x (List.mem_of_getElem? hx)
  have s1:=wM x.a EW.1 x.a EW.1
  have s2:=wM x.b EW.2 x.b EW.2
  rw[m9]at s1 s2
  refine MN hx ?_
  refine bc s1 rfl ?_
  refine re hx ?_
  refine bc s2 rfl ?_
  exact SZ
 ·exact MO
theorem HM(o:Nat->ab)(l7:Bool)(a b:Int):th Tryz.prog o 77 l7 (.d (.agg [.i a, .i b])) (.d (.agg [.i a, .i b]))=some (.d (.bool true)):=by
 have h1:bw Tryz.prog 77=some (.struct [(3,0),(3,1)]):=ag
 have h3:bw Tryz.prog 3=some .int:=ag
 have h5:c7 Tryz.prog 3=some false:=ag
 have h6:nk Tryz.prog 100 77 (.agg [.i a, .i b]) (.agg [.i a, .i b])=some true:=by simp[nk,h1,h3,h5,ue,KO,gG,Dk]
 obtain⟨fs,h⟩:∃fs,Tryz.prog.underlying 77=some (.struct fs):=structOf ag
 have h2:Tryz.prog.eqGuardType Tryz.prog.depth 77=false:=ag
 unfold th
 rw[h]
 dsimp only
 rw[if_pos h2,h6]
 simp
theorem lJ(s:eu)(h1:s.sig.cons.length<=1000000)(h2:s.sig.bF.length<=1000000)(h3:s.binds.length<=1000000)(h4:s.aV.length<=1000000)(h5:s.marks.length<=1000000)
 (h6:∀x∈s.binds,x.term.fits) (h7:∀x∈s.aV,x.a.fits/\x.b.fits):aX Tryz.prog 21 [s.d,s.d] (.ret [.bool true]):=by
 refine aX.aM mix UX aK ?_
 rw[ZN]
 refine zZ ?_
 refine aH (fun k:Nat=>⟨ba [.aa, .aa, .ptr 0 0, .ptr 1 0, .aa, .d (.i k)],aI (aI (fun _=> .no) 0 (.row s.row)) 1 (.row s.row),2⟩)
  (fun k=>k<=s.marks.length) (fun k=>s.marks.length - k) 0 (Nat.zero_le _) ?_ (fun k hk=> ?_)
 ·exact Nq
 simp+contextual (disch:=first|omega|simp only[go_sem,false_implies]) only[go_sem,wrap64,if_pos,List.length_map,beq_self_eq_true,Bool.and_self]
 refine ak (fun g2=> ?_) (fun g2=> ?_)
 ·simp at g2
  obtain⟨x,hx⟩:=aF g2
  obtain⟨m1,m2⟩:=x
  simp+contextual (disch:=first|omega|simp only[go_sem,false_implies]) only[go_sem,wrap64,if_pos,hx,List.length_map,bne_self_eq_false,HM]
  refine aR (bp rfl) ?_
  refine cm ?_
  refine aw (k+1) g2 af ?_
  exact Nq
 ·refine H7 ?_
  refine ao (lI s.sig.cons h1) rfl ?_
  refine H7 ?_
  refine ao (lI s.sig.bF h2) rfl ?_
  refine H7 ?_
  refine ao (s7 s.binds h3 h6) rfl ?_
  refine H7 ?_
  refine ao (tQ s.aV h4 h7) rfl ?_
  exact MO
theorem oT:aX Tryz.prog 18 [iZ.d] (.ret [.bool true]):=by
 refine aX.aM mix ZM aK ?_
 rw[c18]
 simp+contextual (disch:=first|omega|simp only[go_sem,false_implies]) only[go_sem,wrap64,if_pos,gO]
 refine ao (lJ iZ cA cA cA cA cA (fun _ h=>by cases h) (fun _ h=>by cases h)) rfl ?_
 exact nq
end Go.Proofs.YtlhemmpklhhgoaaGreat
set_option maxHeartbeats 4000000
namespace Go.Proofs.YtlhemmpklhhgoaaGreat
theorem fm.same {s:eu}(h:s.Cp):aX Tryz.prog 21 [s.d,s.d] (.ret [.bool true]):=by
 have h3:=h.bl
 have h4:=h.nl
 have h5:=h.ml
 exact lJ s h.lc h.lf af af af (fun x hx=>Tm.iY _ (h.bt x hx)) (fun x hx=>⟨Tm.iY _ (h.nt x hx).1,Tm.iY _ (h.nt x hx).2⟩)
theorem xe(Yq:aX Tryz.prog 14 [] (.ret [.bool true]))(s:eu)(hs:s.Fits):aX Tryz.prog 9 [s.d] (.ret [.bool true]):=by
 obtain⟨sm,xh⟩:∃sm:Bool,sm=true↔zQ s:=by
  classical
  exact⟨decide (zQ s),aK⟩
 refine aX.aM mix fn9 aK ?_
 rw[c9]
 refine cm ?_
 refine ao (BB s hs xh) rfl ?_
 cases sm with
 |false=>
  refine cm ?_
  refine ao Yq rfl ?_
  exact nq
 |true=>
  have fj:=Qq hs (xh.1 rfl)
  obtain⟨ok,aQ⟩:∃ok:Bool,ok=true↔fm s:=by
   classical
   exact⟨decide (fm s),aK⟩
  refine cm ?_
  refine bE (Qr s fj aQ) ?_
  cases ok with
  |false=>
   simp only[if_false,Bool.false_eq_true]
   refine cm ?_
   refine bE (xd s fj aQ) ?_
   simp only[if_false,Bool.false_eq_true]
   refine cm ?_
   refine ao (kn s fj aQ) rfl ?_
   refine cm ?_
   refine ao oT rfl ?_
   refine cm ?_
   exact Ku
  |true=>
   have h:=aQ.1 rfl
   have B5:=h.EA
   simp only[if_true]
   have aaV:=fm.same h.cp
   by_cases h0:s.marks.length=0
   ·have Ap:s.marks=[]:=List.eq_nil_of_length_eq_zero h0
    have jd:s.mark.Cp:=⟨h.cp.lc,h.cp.lf,h.cp.bl,h.cp.nl,by show(s.marks++_).length<=1000;rw[Ap];simp,h.cp.bt,h.cp.nt⟩
    rw[if_neg (by omega)]
    refine cm ?_
    refine bE (xd s fj aQ) ?_
    rw[if_pos rfl,if_pos h0]
    refine cm ?_
    refine ao (kn s fj aQ) rfl ?_
    refine MP h0 Ap ?_
    refine aR ag ?_
    refine MP h0 Ap ?_
    have xh:∀X,s.mark.d=X->aX Tryz.prog 21 [s.mark.d,X] (.ret [.bool true]):=fun X e=>by subst e;exact fm.same jd
    refine ao (xh _ (by simp[eu.mark,Ap])) rfl ?_
    refine MP h0 Ap ?_
    exact Ku
   obtain⟨ms,m,EB⟩:∃ms m,s.marks=ms++[m]:=⟨s.marks.dropLast,s.marks.getLast (by intro e;rw[e]at h0;exact h0 rfl),(List.dropLast_concat_getLast _).symm⟩
   have Qs:s.HL=⟨s.sig,s.binds.take m.1.toNat,s.aV.take m.2.toNat,ms⟩:=by unfold eu.HL;rw[EB];simp
   obtain⟨m1,m2⟩:=m
   have W6:=tc aK aK h.marks (m1,m2) (by rw[EB];simp)
   dsimp only at W6 Qs
   obtain⟨q1,q2,q3,q4⟩:=W6
   obtain⟨a,rfl⟩:∃a:Nat,m1=a:=⟨m1.toNat,af⟩
   obtain⟨b,rfl⟩:∃b:Nat,m2=b:=⟨m2.toNat,af⟩
   rw[Int.toNat_natCast,Int.toNat_natCast]at Qs
   have el:(s.marks.length:Int) - 1=(ms.length:Nat):=by rw[EB];simp
   have kE:s.marks[ms.length]? =some ((a:Int),(b:Int)):=by rw[EB];simp
   have bR:ms.length<=s.marks.length:=by rw[EB];simp
   have htm:s.marks.take ms.length=ms:=by rw[EB];simp
   have q2':a<=s.binds.length:=af
   have q4':b<=s.aV.length:=af
   have hc:eu.Cp ⟨s.sig,s.binds.take a,s.aV.take b,ms⟩:=by
    have hc:=h.cp
    refine⟨hc.lc,hc.lf, ?_, ?_, ?_,fun x hx=>hc.bt x (List.mem_of_mem_take hx),fun x hx=>hc.nt x (List.mem_of_mem_take hx)⟩
    ·have:=hc.bl;simp only[List.length_take];omega
    ·have:=hc.nl;simp only[List.length_take];omega
    ·have:=hc.ml;dsimp only;omega
   have t1:List.take a (List.map TB.d s.binds)=(s.binds.take a).map TB.d:=List.map_take.symm
   have t2:List.take b (List.map Nt.d s.aV)=(s.aV.take b).map Nt.d:=List.map_take.symm
   have t3:List.take ms.length (List.map qt s.marks)=ms.map qt:=by rw[<- List.map_take,htm]
   have k0:((s.marks.length:Int)==0)=false:=by rw[beq_eq_false_iff_ne];omega
   by_cases h8:s.marks.length=8
   ·have EG:decide ((s.marks.length:Int)≥8)=true:=by rw[decide_eq_true_eq];omega
    rw[if_pos h8]
    refine cm ?_
    refine bE (xd s fj aQ) ?_
    rw[if_pos rfl,if_neg (by omega),Qs]
    refine cm ?_
    refine ao (kn s fj aQ) rfl ?_
    refine MQ EG ?_
    refine ao oT rfl ?_
    exact zw5
   ·rw[if_neg h8]
    have EG:decide ((s.marks.length:Int)≥8)=false:=by rw[decide_eq_false_iff_not];omega
    refine cm ?_
    refine bE (xd s fj aQ) ?_
    rw[if_pos rfl,if_neg (by omega),Qs]
    refine cm ?_
    refine ao (kn s fj aQ) rfl ?_
    refine MQ EG ?_
    refine aR ag ?_
    refine MQ EG ?_
    have jd:s.mark.Cp:=⟨h.cp.lc,h.cp.lf,h.cp.bl,h.cp.nl,by show(s.marks++_).length<=1000;simp;omega,h.cp.bt,h.cp.nt⟩
    have xh:∀X,s.mark.d=X->aX Tryz.prog 21 [s.mark.d,X] (.ret [.bool true]):=fun X e=>by subst e;exact fm.same jd
    refine ao (xh _ (by simp[eu.mark])) rfl ?_
    exact zw5
end Go.Proofs.YtlhemmpklhhgoaaGreat
