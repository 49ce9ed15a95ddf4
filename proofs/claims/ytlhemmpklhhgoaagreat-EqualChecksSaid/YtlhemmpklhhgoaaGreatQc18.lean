/-
  EqualChecks: at every call the law answers true, and leaves all memory as it was. Conditions: none.
-/
import Derived.OpenShut
import Derived.Carry
import Derived.Handed
import Derived.JoinedOf
import Derived.ProofKit
import Derived.Test.YtlhemmpklhhgoaaGreatRows
import Derived.Test.YtlhemmpklhhgoaaGreatQc17
set_option linter.unusedSimpArgs false
set_option linter.unusedVariables false
namespace Go.Proofs.YtlhemmpklhhgoaaGreat
def I6:IC:=Ip.snd.snd
theorem AP{l:List TB}{F:Tm->Int->Option Int}{x:Tm}(hx:x.fits){n:Int}{d:Nat}{r:Int}(hn:0<=n/\n<=1000)(hd:d<=1000)(hF:∀k m q,0<=m->F k m=some q-> -1<=q/\q<=m)
 (ih:∀k∈x.kids,∀m q d',d=d'+1->0<=m/\m<=1000->F k m=some q->aY Tryz.prog 143 [.sl (l.map TB.d),k.d, .i m, .i d'] (.ret [.i q]))
 (h:(match d with|0=>some (-1)|_+1=>wH F x.kids (n - 1))=some r) {e:Nat->V} {o:Nat->aa} {nx:Nat} (hg:Good o nx) (e0:e 0= .d (.sl (l.map TB.d))) (e2:e 2= .d (.i n)) (e3:e 3= .d (.i d)) (e5:e 5= .ptr 0 0) (ho:o 0= .row x.row) (h1:1<=nx):
 jW Tryz.prog 55 0 false I6 (ve Tryz.prog [.tmp 8] (.ret [.i r])) ⟨e,o,nx⟩:=by
 have OM:=(Tm.bA x).1 hx
 simp only[I6,Ip,IC.snd]
 cases d with
 |zero=>
  cases h
  simp+contextual (disch:=first|omega|simp only[go_sem,false_implies]) only[go_sem,wrap64,if_pos,e0,e2,e3,e5,ho]
 |succ d=>
  dsimp only at h
  have HG:(((d+1:Nat):Int)==0)=false:=by rw[beq_eq_false_iff_ne];omega
  refine Ci e0 e2 e3 e5 ho HG ?_
  refine aL (fun i:Nat×Int=>⟨bc [.d (.sl (l.map TB.d)), .ab, .d (.i i.2), .d (.i (d+1:Nat)), .ab, .ptr 0 0, .ab, .ab, .ab, .ab, .d (.i i.1)],aM (fun _=> .no) 0 (.row x.row),1⟩)
   (fun i=>i.1<=x.kids.length/\wH F (x.kids.drop i.1) i.2=some r/\ -1<=i.2/\i.2<=1000) (fun i=>x.kids.length - i.1) (0,n - 1) ⟨Nat.zero_le _,h,by dsimp only;omega,by dsimp only;omega⟩ (bM.bP _ af af (Good.aM Good.nil af rfl) (fun j hj=> ?_) ?_) ?_
  ·have hj:j<1:=hj
   have:j=0:=af
   subst this
   rw[ag];exact ho
  ·exact lq (by(repeat(first|rfl|rw[ag]|rw[ah _ _ _ _ (by omega)]));exact e0) (ej (lq rfl (lq (by(repeat(first|rfl|rw[ag]|rw[ah _ _ _ _ (by omega)]));exact e3) (ej (AX (by(repeat(first|rfl|rw[ag]|rw[ah _ _ _ _ (by omega)]));exact e5) uJ (ej (ej (ej (ej (lq rfl tf))))))))))
  rintro⟨k,m⟩ ⟨hk,hl,GU,JF⟩
  simp only at hk hl GU JF
  by_cases h2:k<x.kids.length
  ·have pH:decide ((k:Int)<(x.kids.length:Int))=true:=by simp;omega
   obtain⟨y,hy⟩:=aH h2
   have Is:=List.mem_of_getElem? hy
   have IY:x.kids.drop k=y::x.kids.drop (k+1):=by
    obtain⟨i1,i2⟩:=List.getElem?_eq_some_iff.1 hy
    exact Hc
   rw[IY]at hl
   simp only[wH]at hl
   by_cases h0:m<0
   ·have uZ:decide (m≥0)=false:=by simp;omega
    rw[if_pos h0]at hl
    cases hl
    exact Qu hy pH uZ
   ·have uZ:decide (m≥0)=true:=by simp;omega
    rw[if_neg h0]at hl
    cases e:F y m with
    |none=>rw[e]at hl;cases hl
    |some q=>
    rw[e]at hl
    have hq:=hF y m q af e
    refine G3 hy pH uZ ?_
    rw[show(((d+1:Nat):Int) - 1)=((d:Nat):Int) by omega]
    refine aw (ih y Is m q d rfl af e) rfl ?_
    refine cQ ?_
    refine ax (k+1,q) ⟨h2,hl,by dsimp only;omega,by dsimp only;omega⟩ qH (bM.bP _ af af (Good.aM Good.nil af rfl) (fun j hj=>rfl) ?_)
    exact ec
  ·have pH:decide ((k:Int)<(x.kids.length:Int))=false:=by simp;omega
   have:k=x.kids.length:=af
   subst this
   rw[List.drop_length]at hl
   cases hl
   exact G4 pH
theorem sD{l:List TB}(hl:l.length<=1000)(lP:∀p∈ay l,p.2.fits):∀ (f:Nat) (t:Tm) (n:Int) (d:Nat) (r:Int),t.fits->0<=n/\n<=1000->d<=1000->pY f (ay l) t n d=some r->
 aY Tryz.prog 143 [.sl (l.map TB.d),t.d, .i n, .i d] (.ret [.i r])
 |0,_,_,_,_,_,_,_,h=>by cases h
 |f+1,t,n,d,r,ht,hn,hd,h=>by
  simp only[pY]at h
  cases ha:pq f (ay l) t with
  |none=>rw[ha]at h;cases h
  |some x=>
  rw[ha]at h
  dsimp only at h
  have OM:=n9 lP f t x ht ha
  have ZI:∀ (d':Nat) (k:Tm) (m q:Int),0<=m->pY f (ay l) k m d'=some q-> -1<=q/\q<=m:=fun d' k m q=>wo f k m d' q
  have rest:∀ {e:Nat->V} {o:Nat->aa} {nx:Nat},Good o nx->e 0= .d (.sl (l.map TB.d))->e 2= .d (.i n)->e 3= .d (.i d)->e 5= .ptr 0 0->o 0= .row x.row->1<=nx->jW Tryz.prog 55 0 false I6 (ve Tryz.prog [.tmp 8] (.ret [.i r])) ⟨e,o,nx⟩:=by
   intro e o nx hg e0 e2 e3 e5 ho h1
   refine AP (F:=fun k m=>pY f (ay l) k m (d - 1)) OM hn hd (fun k m q h1 h2=>ZI _ k m q h1 h2) (fun k hk m q d' he hm hF=> ?_) ?_ hg e0 e2 e3 e5 ho h1
   ·subst he
    exact sD hl lP f k m d' q ((Tm.bA x).1 OM |>.2 k hk) hm af hF
   ·cases d with
    |zero=>exact h
    |succ d=>exact h
  have chain:∀ (g:Nat) (t:Tm),t.fits->pq g (ay l) t=some x->aY Tryz.prog 143 [.sl (l.map TB.d),t.d, .i n, .i d] (.ret [.i r]):=by
   intro g
   induction g with
   |zero=>intro t _ h;cases h
   |succ g ihg=>
    intro t ht DS
    simp only[pq]at DS
    refine aY.aN mix Uz aK ?_
    rw[Ip]
    show jW _ _ _ _ (.seq _ (.seq _ I6)) _ _
    by_cases h1:t.op=1
    ·have jD:(t.op==1)=true:=by simpa using h1
     rw[if_pos h1]at DS
     refine ou jD ?_
     refine aw (og l t.n af) rfl ?_
     rcases wa l t.n with⟨g1,g2⟩|⟨k,y,g1,g2,g3⟩
     ·have GJ:decide (findF l t.n≥0)=false:=by simp;omega
      rw[g2]at DS
      cases DS
      refine ou GJ ?_
      exact rest dZ rfl rfl rfl rfl rfl af
     ·have GJ:decide (((k:Nat):Int)≥0)=true:=aK
      rw[g3]at DS
      refine G3 g1 GJ g2 ?_
      refine aw (ihg y.term (lP _ (jT (List.mem_of_getElem? g2))) DS) rfl ?_
      exact qG
    ·have jD:(t.op==1)=false:=by simpa using h1
     rw[if_neg h1]at DS
     cases DS
     refine ou jD ?_
     exact rest dZ rfl rfl rfl rfl rfl af
  exact chain f t ht ha
theorem yT{l:List TB}(hl:l.length<=1000)(lP:∀p∈ay l,p.2.fits)(hle:∀p∈ay l,∃f r,pY f (ay l) p.2 40 12=some r){ok:Bool}(aP:ok=true↔∀x∈l,D1 (ay l) x.term):
 aY Tryz.prog 118 [.sl (l.map TB.d)] (.ret [.bool ok]):=by
 refine aY.aN mix Ue aK ?_
 rw[Ud]
 refine cQ ?_
 refine aL (fun k:Nat=>⟨bc [.d (.sl (l.map TB.d)), .ab, .ab, .d (.i k)],fun _=> .no,0⟩)
  (fun k=>k<=l.length/\∀x∈l.take k,D1 (ay l) x.term) (fun k=>l.length - k) 0 ⟨Nat.zero_le _,fun x hx=>by simp at hx⟩ (bM.d0 _ ?_) (fun k hk=> ?_)
 ·exact ec
 obtain⟨hk,ho⟩:=hk
 refine DE ?_
 refine ak (fun h2=> ?_) (fun h2=> ?_)
 ·replace h2:k<l.length:=by simp at h2;omega
  obtain⟨x,hx⟩:=aH h2
  have gv:=List.mem_of_getElem? hx
  obtain⟨f,r,hf⟩:=hle _ (jT gv)
  have cC:=B9 hf
  refine sF hx ?_
  refine aw (sD hl lP f x.term 40 12 r (lP _ (jT gv)) af af hf) rfl ?_
  by_cases h0:r<0
  ·have uZ:decide (r<0)=true:=decide_eq_true h0
   have:ok=false:=by
    cases ok with
    |false=>rfl
    |true=>have:=cC.1 (aP.1 rfl x gv);omega
   subst this
   exact Cj uZ
  ·have uZ:decide (r<0)=false:=decide_eq_false h0
   refine ou uZ ?_
   refine ax (k+1) ⟨h2,fun y hy=> ?_⟩ af (bM.d0 _ ?_)
   ·rw[List.take_add_one,hx]at hy
    rcases List.mem_append.1 hy with hy|hy
    ·exact ho y hy
    ·simp at hy
     subst hy
     exact cC.2 af
   ·exact ec
 ·replace h2:k=l.length:=by simp at h2;omega
  subst h2
  rw[List.take_length]at ho
  have:ok=true:=aP.2 ho
  exact qI
theorem I7{l:List TB}{i:Nat}{x:TB}(hx:l[i]? =some x):findF l x.var<(i:Int)↔x.var∈(ay (l.take i)).map (·.1):=by
 have e:(ay (l.take i)).map (·.1)=(l.take i).map (·.var):=by unfold ay;rw[List.map_map];rfl
 rw[e]
 obtain⟨hi,hxe⟩:=List.getElem?_eq_some_iff.1 hx
 unfold findF
 cases h:l.findIdx? (·.var==x.var)with
 |none=>
  rw[List.findIdx?_eq_none_iff]at h
  have:=h x (List.mem_of_getElem? hx)
  simp at this
 |some k=>
  rw[List.findIdx?_eq_some_iff_getElem]at h
  obtain⟨hk,h1,h2⟩:=h
  dsimp only
  constructor
  ·intro bQ
   have bQ:k<i:=af
   refine List.mem_map.2 ⟨l[k], ?_,by simpa using h1⟩
   rw[List.mem_iff_getElem?]
   exact⟨k,by rw[List.getElem?_take,if_pos bQ,List.getElem?_eq_getElem hk]⟩
  ·intro hm
   obtain⟨y,hy,hyv⟩:=List.mem_map.1 hm
   obtain⟨j,hj⟩:=List.mem_iff_getElem?.1 hy
   rw[List.getElem?_take]at hj
   split at hj
   ·rename_i Zz
    obtain⟨hjl,Pc⟩:=List.getElem?_eq_some_iff.1 hj
    rcases Nat.lt_or_ge j k with Jx|Jx
    ·have:=h2 j Jx
     rw[Pc]at this
     simp[hyv]at this
    ·omega
   ·cases hj
theorem AQ(s:aJ)(hs:s.Fits)(yp:kQ s=true)(l:List TB)(hl:l.length<=1000)(hlf:∀x∈l,x.term.fits){ok:Bool}(aP:ok=true↔sC s l):
 aY Tryz.prog 76 [s.d, .sl (l.map TB.d)] (.ret [.bool ok]):=by
 have no: ¬sC s l->ok=false:=fun h=>by
  cases ok with
  |false=>rfl
  |true=>exact absurd (aP.1 rfl) h
 refine aY.aN mix Y5 aK ?_
 rw[c76]
 by_cases h20:20<l.length
 ·have OT:decide ((l.length:Int)>20)=true:=by simp;omega
  have:=no fun h=>by have:=h.len;omega
  subst this
  exact G4 OT
 have OT:decide ((l.length:Int)>20)=false:=by simp;omega
 refine sF OT ?_
 refine aL (fun k:Nat=>⟨bc [.ab, .d (.sl (l.map TB.d)), .ptr 0 0, .ab, .ab, .d (.i k)],aM (fun _=> .no) 0 (.row [.d (.sl (s.cons.map jX.d)), .d (.sl (s.cA.map jX.d))]),1⟩)
  (fun k=>k<=l.length/\((ay (l.take k)).map (·.1)).Nodup/\∀x∈l.take k,(0<=x.var/\x.var<20)/\jS s x.term=true) (fun k=>l.length - k) 0 ⟨Nat.zero_le _,List.nodup_nil,fun x hx=>by simp at hx⟩ (bM.bP _ af af dZ (fun j hj=>rfl) ?_) (fun k hk=> ?_)
 ·exact ec
 obtain⟨hk,xr,ho⟩:=hk
 refine DE ?_
 refine ak (fun h2=> ?_) (fun h2=> ?_)
 ·replace h2:k<l.length:=by simp at h2;omega
  obtain⟨x,hx⟩:=aH h2
  have gv:=List.mem_of_getElem? hx
  have ze:=yQ l hx
  refine sF hx ?_
  refine bp (AL x.var 0 19) rfl ?_
  have EI:c6 x.var 0 19=true↔0<=x.var/\x.var<20:=by unfold c6;simp;omega
  cases h6:c6 x.var 0 19 with
  |false=>
   have:=no fun h=>by
    have:=EI.2 (h.ok x gv).1
    rw[h6]at this;cases this
   exact RY
  |true=>
   refine sF hx ?_
   refine bp (og l x.var af) rfl ?_
   have bQ:=I7 hx
   cases h7:decide (findF l x.var<(k:Int))with
   |true=>
    have:=no fun h=>by
     have h8:=bQ.1 (of_decide_eq_true h7)
     have h9:=h.keys.sublist (((List.take_sublist (k+1) l).map _).map _)
     have h9:((ay (l.take (k+1))).map (·.1)).Nodup:=h9
     rw[ze,List.map_append,List.nodup_append]at h9
     exact h9.2.2 x.var h8 x.var aK rfl
    subst this
    refine O7 hx h7 ?_
    refine bg (bG rfl) ?_
    exact qG
   |false=>
    refine O7 hx h7 ?_
    refine bp (pf s hs x.term (hlf x gv)) rfl ?_
    have hve:=AM yp x.term
    cases h8:(hZ s x.term&&ey x.term)with
    |false=>
     have:=no fun h=>by
      have:=(h.ok x gv).2
      rw[hve,h8]at this;cases this
     exact RY
    |true=>
     refine sF hx ?_
     refine bg (bG rfl) ?_
     refine cQ ?_
     refine ax (k+1) ⟨h2, ?_,fun y hy=> ?_⟩ af (bM.bP _ af af dZ (fun j hj=>rfl) ?_)
     ·rw[ze,List.map_append,List.nodup_append]
      refine⟨xr,aK,fun a ha c hc e=> ?_⟩
      simp at hc
      rw[e,hc]at ha
      exact of_decide_eq_false h7 (bQ.2 ha)
     ·rw[List.take_add_one,hx]at hy
      rcases List.mem_append.1 hy with hy|hy
      ·exact ho y hy
      ·simp at hy
       subst hy
       exact⟨EI.1 h6,by rw[hve,h8]⟩
     ·exact ec
 ·replace h2:k=l.length:=by simp at h2;omega
  subst h2
  rw[List.take_length]at xr ho
  have DK:∀p∈ay l,Vs s p.2:=fun p hp=>by
   obtain⟨x,hx,rfl⟩:=gB hp
   exact(lp (ho x hx).2).1
  have lP:∀p∈ay l,p.2.GC:=fun p hp=>by
   obtain⟨x,hx,rfl⟩:=gB hp
   exact Tm.OS _ (by have:=(lp (ho x hx).2).2.1;show x.term.sz<=1000;omega)
  refine cQ ?_
  refine aL (fun k:Nat=>⟨bc [.ab, .d (.sl (l.map TB.d)), .ab, .ab, .ab, .ab, .d (.i k)],fun _=> .no,0⟩)
   (fun k=>k<=l.length/\∀x∈l.take k, ¬nZ (ay l) x.var x.term) (fun k=>l.length - k) 0 ⟨Nat.zero_le _,fun x hx=>by simp at hx⟩ (bM.d0 _ ?_) (fun k hk=> ?_)
  ·exact ec
  obtain⟨hk,hc⟩:=hk
  refine DE ?_
  refine ak (fun h2=> ?_) (fun h2=> ?_)
  ·replace h2:k<l.length:=by simp at h2;omega
   obtain⟨x,hx⟩:=aH h2
   have gv:=List.mem_of_getElem? hx
   obtain⟨is,Gw⟩:∃is:Bool,is=true↔nZ (ay l) x.var x.term:=by
    classical
    exact⟨decide (nZ (ay l) x.var x.term),aK⟩
   refine sF hx ?_
   refine bp (AO hl DK lP x.var x.term (DK _ (jT gv)) (lP _ (jT gv)) Gw) rfl ?_
   cases is with
   |true=>
    have:=no fun h=>h.WO x.var x.term ((nX h.keys).2 (jT gv)) (Gw.1 rfl)
    subst this
    exact L1
   |false=>
    refine cQ ?_
    refine bg (bG rfl) ?_
    refine cQ ?_
    refine ax (k+1) ⟨h2,fun y hy=> ?_⟩ af (bM.d0 _ ?_)
    ·rw[List.take_add_one,hx]at hy
     rcases List.mem_append.1 hy with hy|hy
     ·exact hc y hy
     ·simp at hy
      subst hy
      exact fun h=>Bool.false_ne_true (Gw.2 h)
    ·exact ec
  ·replace h2:k=l.length:=by simp at h2;omega
   subst h2
   rw[List.take_length]at hc
   have GA:Qo (ay l):=fun v t ht=>by
    obtain⟨x,hx,e⟩:=gB (dm ht)
    cases e
    exact hc x hx
   obtain⟨l',ρ,R,hS,EO⟩:=wx xr ho GA
   have hle:∀p∈ay l,∃f r,pY f (ay l) p.2 40 12=some r:=fun p hp=>by
    exact Ju
   refine cQ ?_
   refine aw (yT (ok:=ok) hl (fun p hp=>Tm.GF _ (lP p hp)) hle (aP.trans ⟨fun h=>h.ZE,fun h=>⟨af,xr,ho,GA,h⟩⟩)) rfl ?_
   exact qG
theorem Ch(gone:Nat->Prop)(x:V)(L:List V)(M5:∀id,gone id->12<=id){op n:Int}{ks:List Tm}{k:Nat}{t:Tm}{e:Nat->V}{so:Nat->aa}{m:Nat}(gx:mG so gone 33 3 ((ks.take k).map Tm.d) x)
 (s0:so 0= .row t.row) (s1:so 1= .row [.d (.i 0), .d (.i 0), .a8]) (ZS:so 11= .row [.d (.i op), .d (.i n),x]) (he:jO 12 [⟨x,33,3,(ks.take k).map Tm.d⟩] so gone e L 0):bM 0 ⟨e,so,m⟩ ⟨bc L,aM (AH op n ks k) 0 (.row t.row),12+1⟩:=by
 refine bM.Og gone x 12 L af (fun j hj=> ?_) (by rw[ah _ _ _ _ (by omega)];exact fuH_12 op n ks k) gx (fun j hj=>by rw[ah _ _ _ _ (by omega)];exact wu _ _ _ _ af af af) (fun j h1 h2=>absurd (M5 j h1) af) he
 by_cases e0:j=0
 ·subst e0
  rw[ag]
  exact lr s0 (fun r hr=>by simp[aa.refs,V.aO,V.refs]at hr)
 rw[ah _ _ _ _ e0]
 by_cases e1:j=1
 ·subst e1
  rw[fuH_1]
  exact Re
 ·by_cases e2:j=11
  ·subst e2
   rw[fuH_11]
   exact Rj
  ·rw[wu _ _ _ _ e1 e2 (by omega)]
   exact vV
theorem pn{l:List TB}(hl:l.length<=1000)(lP:∀p∈ay l,p.2.fits):∀ (f:Nat) (t y:Tm) (d:Nat),t.fits->d<=1000->Ca f (ay l) t d=some y->y.sz<=1000000->
 aY Tryz.prog 93 [.sl (l.map TB.d),t.d, .i d] (.ret [y.d, .bool true])
 |0,_,_,_,_,_,h,_=>by cases h
 |f+1,t,y,d,ht,hd,h,hz=>by
  simp only[Ca]at h
  have OP:=(Tm.bA t).1 ht
  refine aY.aN mix Zf aK ?_
  rw[c93]
  by_cases h1:t.op=1
  ·have jD:(t.op==1)=true:=by simpa using h1
   rw[if_pos h1]at h
   refine ou jD ?_
   refine aw (og l t.n af) rfl ?_
   rcases wa l t.n with⟨g1,g2⟩|⟨k,z,g1,g2,g3⟩
   ·have GJ:decide (findF l t.n<0)=true:=by simp;omega
    rw[g2]at h
    cases h
    exact Cj GJ
   ·have GJ:decide (((k:Nat):Int)<0)=false:=aK
    rw[g3]at h
    cases d with
    |zero=>cases h
    |succ d=>
     have HG:(((d+1:Nat):Int)==0)=false:=by rw[beq_eq_false_iff_ne];omega
     refine G2 g1 GJ g2 HG ?_
     rw[show(((d+1:Nat):Int) - 1)=((d:Nat):Int) by omega]
     refine cW (pn hl lP f z.term y d (lP _ (jT (List.mem_of_getElem? g2))) af h hz) ?_
     exact qG
  ·have jD:(t.op==1)=false:=by simpa using h1
   rw[if_neg h1]at h
   cases hL:AG (fun k=>Ca f (ay l) k d) t.kids with
   |none=>rw[hL]at h;cases h
   |some ks=>
   rw[hL]at h
   cases h
   obtain⟨Hv,Jw⟩:=wq hL
   have dn:o8 ks+1<=1000000:=by rw[Tm.lb]at hz;simp only[Tm.kids]at hz;omega
   have hle:=nY ks
   refine ou jD ?_
   refine aL (fun i:Nat=>⟨bc [.d (.sl (l.map TB.d)), .ab, .d (.i d), .ab, .ptr 0 0, .ab, .ptr 1 0, .ab, .ab, .ptr 11 0, .d (.i i)],aM (AH t.op t.n ks i) 0 (.row t.row),12+1⟩)
    (fun i=>i<=t.kids.length) (fun i=>t.kids.length - i) 0 (Nat.zero_le _) (Ch (fun _=>False) .a8 _ (fun _ h=>h.elim) (.inl ⟨rfl,rfl,dU⟩) iA iA iA ?_) (fun k hk=> ?_)
   ·exact DF
   replace hk:k<=t.kids.length:=hk
   have q0:aM (AH t.op t.n ks k) 0 (.row t.row) 0= .row t.row:=ag _ _ _
   have q1:aM (AH t.op t.n ks k) 0 (.row t.row) 1= .row [.d (.i 0), .d (.i 0), .a8]:=rfl
   have IZ:aM (AH t.op t.n ks k) 0 (.row t.row) 11= .row [.d (.i t.op), .d (.i t.n), .osl 12 0]:=rfl
   have I0:aM (AH t.op t.n ks k) 0 (.row t.row) 12= .arr 0 33 3 ((ks.take k).map Tm.d):=rfl
   refine G2 q0 q1 IZ I0 ?_
   refine ak (fun h2=> ?_) (fun h2=> ?_)
   ·replace h2:k<t.kids.length:=by simp at h2;omega
    obtain⟨z,WW⟩:=aH h2
    obtain⟨z',Mb,hF⟩:=Jw k z WW
    have ZB:=List.mem_of_getElem? WW
    have ze:ks.take (k+1)=ks.take k++[z']:=by rw[List.take_add_one,Mb];rfl
    have e0:(ks.take k).length=k:=by rw[List.length_take];omega
    have ZC:z'.sz<=1000000:=by have:=wv (List.mem_of_getElem? Mb);omega
    have nk:k<=140737488355327/\(k+1)*24<=140737488355328:=af
    simp+contextual (disch:=first|omega|simp only[go_sem,false_implies]) only[go_sem,wrap64,if_pos,q0,q1,IZ,I0,WW,List.length_map]
    refine cW (pn hl lP f z z' d (OP.2 z ZB) hd hF ZC) ?_
    simp+contextual (disch:=first|omega|simp only[go_sem,false_implies]) only[go_sem,wrap64,if_pos,q0,q1,IZ,I0,WW,List.length_map,e0,if_pos nk]
    refine ax (k+1) h2 af (Ch (fun j=>12<=j) (.osl 12 1) _ (fun _ h=>h) (.inr ⟨12,1,Nat.le_refl _,rfl,by(repeat(first|rfl|rw[ag]|rw[ah _ _ _ _ (by omega)]));rw[ze,List.map_append];rfl⟩) iA Q3 iA ?_)
    exact DF
   ·replace h2:k=t.kids.length:=by simp at h2;omega
    subst h2
    have ON:aM (AH t.op t.n ks t.kids.length) 0 (.row t.row) 12= .arr 0 33 3 (ks.map Tm.d):=by rw[I0, <- Hv,List.take_length]
    simp+contextual (disch:=first|omega|simp only[go_sem,false_implies]) only[go_sem,wrap64,if_pos,q0,q1,IZ,ON]
    rw[Tm.MZ]
theorem uF{l:List TB}(hl:l.length<=1000)(lP:∀p∈ay l,p.2.fits){t y:Tm}{f:Nat}(ht:t.fits)(h:Ca f (ay l) t (ay l).length=some y)(hz:y.sz<=1000000):aY Tryz.prog 42 [.sl (l.map TB.d),t.d] (.ret [y.d]):=by
 have e:(ay l).length=l.length:=by unfold ay;rw[List.length_map]
 rw[e]at h
 refine aY.aN mix YI aK ?_
 rw[c42]
 refine DE ?_
 refine cW (pn hl lP f t y l.length ht hl h hz) ?_
 exact qG
theorem yU{l:List TB}(hl:l.length<=1000)(lP:∀p∈ay l,p.2.fits){n:Nt}{x y:Tm}{f g:Nat}(ha:n.a.fits)(hb:n.b.fits)(hx:Ca f (ay l) n.a (ay l).length=some x)(hy:Ca g (ay l) n.b (ay l).length=some y)(zx:x.sz<=1000000)(zy:y.sz<=1000000):
 aY Tryz.prog 71 [.sl (l.map TB.d),n.d] (.ret [.bool (ig x y)]):=by
 refine aY.aN mix Y1 aK ?_
 rw[c71]
 refine cQ ?_
 refine hU (uF hl lP ha hx zx) ?_
 refine cQ ?_
 refine hU (uF hl lP hb hy zy) ?_
 refine cQ ?_
 refine bp (Oo x (Tm.qB _ zx) y (Tm.qB _ zy)) rfl ?_
 exact L1
end Go.Proofs.YtlhemmpklhhgoaaGreat
set_option maxHeartbeats 2000000
namespace Go.Proofs.YtlhemmpklhhgoaaGreat
theorem OU(nb nn:Int)(l m:Int×Int)(ms:List (Int×Int)):tc nb nn l (m::ms)=(c6 m.1 l.1 nb&&c6 m.2 l.2 nn&&tc nb nn m ms):=by
 rw[tc]
 congr 1
 unfold c6
 rw[Bool.eq_iff_iff]
 simp
 omega
theorem AR(s:mT)(hs:s.Fin){ok:Bool}(aP:ok=true↔mc s):aY Tryz.prog 22 [s.d] (.ret [.bool ok]):=by
 have no: ¬mc s->ok=false:=fun h=>by
  cases ok with
  |false=>rfl
  |true=>exact absurd (aP.1 rfl) h
 have qS:=hs.bl
 have vj:=hs.nl
 have DO:=hs.ml
 refine aY.aN mix YA aK ?_
 rw[c22]
 refine cQ ?_
 refine aw (Vp s.sig hs.sig) rfl ?_
 cases h1:kQ s.sig with
 |false=>
  have:=no fun h=>by have:=h.sig;rw[h1]at this;cases this
  exact qI
 |true=>
 obtain⟨bo,Mo⟩:∃bo:Bool,bo=true↔sC s.sig s.binds:=by
  classical
  exact⟨decide (sC s.sig s.binds),aK⟩
 refine cQ ?_
 refine aw (AQ s.sig hs.sig h1 s.binds qS (fun x hx=>(hs.bt x hx).fits) Mo) rfl ?_
 cases bo with
 |false=>
  have:=no fun h=>Bool.false_ne_true (Mo.2 h.G1)
  exact qI
 |true=>
 have hb:=Mo.1 rfl
 by_cases h3:12<s.b8.length
 ·have pI:decide ((s.b8.length:Int)>12)=true:=by simp;omega
  have:=no fun h=>by have:=h.VM;omega
  subst this
  exact G4 pI
 have pI:decide ((s.b8.length:Int)>12)=false:=by simp;omega
 by_cases h4:8<s.marks.length
 ·have CL:decide ((s.marks.length:Int)>8)=true:=by simp;omega
  have:=no fun h=>by have:=h.VN;omega
  subst this
  exact Lu pI CL
 have CL:decide ((s.marks.length:Int)>8)=false:=by simp;omega
 obtain⟨l',ρ,R,hS,EO⟩:=wx hb.keys hb.ok hb.WO
 have lP:∀p∈ay s.binds,p.2.fits:=fun p hp=>by
  obtain⟨x,hx,rfl⟩:=gB hp
  exact(hs.bt x hx).fits
 have cC:∀p∈ay s.binds,D1 (ay s.binds) p.2:=fun p hp=>by
  obtain⟨x,hx,rfl⟩:=gB hp
  exact hb.ZE x hx
 refine O7 pI CL ?_
 refine aL (fun k:Nat=>⟨bc [.ab, .ptr 0 0, .ab, .d (.i k)],aM (fun _=> .no) 0 (.row s.row),1⟩)
  (fun k=>k<=s.b8.length/\∀n∈s.b8.take k,jS s.sig n.a=true/\jS s.sig n.b=true/\ ¬WT (ay s.binds) n) (fun k=>s.b8.length - k) 0 ⟨Nat.zero_le _,fun n hn=>by simp at hn⟩ (bM.bP _ af af dZ (fun j hj=>rfl) ?_) (fun k hk=> ?_)
 ·exact ec
 obtain⟨hk,ho⟩:=hk
 refine DE ?_
 refine ak (fun h6=> ?_) (fun h6=> ?_)
 ·replace h6:k<s.b8.length:=by simp at h6;omega
  obtain⟨n,hn⟩:=aH h6
  have wD:=List.mem_of_getElem? hn
  obtain⟨na,nb⟩:=hs.nt n wD
  have ea:=AM h1 n.a
  have eb:=AM h1 n.b
  refine sF hn ?_
  refine bp (pf s.sig hs.sig n.a na.fits) rfl ?_
  cases va:(hZ s.sig n.a&&ey n.a)with
  |false=>
   have:=no fun h=>by have:=(h.b8 n wD).1;rw[ea,va]at this;cases this
   exact LY
  |true=>
   refine sF hn ?_
   refine bp (pf s.sig hs.sig n.b nb.fits) rfl ?_
   cases vb:(hZ s.sig n.b&&ey n.b)with
   |false=>
    have:=no fun h=>by have:=(h.b8 n wD).2.1;rw[eb,vb]at this;cases this
    exact LY
   |true=>
    obtain⟨a1,a2,a3⟩:=lp (ea.trans va)
    obtain⟨b1,b2,b3⟩:=lp (eb.trans vb)
    have za:=qE hS cC a1
    have zb:=qE hS cC b1
    obtain⟨fa,ua⟩:=Gl hS a1
    obtain⟨fb,ub⟩:=Gl hS b1
    have VP:=Ce (n:=n) hS a1 b1
    refine sF hn ?_
    refine bp (yU qS lP (n:=n) na.fits nb.fits ua ub af af) rfl ?_
    cases Be:ig (dt (ay l') n.a) (dt (ay l') n.b)with
    |true=>
     have:=no fun h=>(h.b8 n wD).2.2 (VP.2 ((lF _ _).1 Be))
     exact LY
    |false=>
     refine sF hn ?_
     refine bg (bG rfl) ?_
     refine cQ ?_
     refine ax (k+1) ⟨h6,fun y hy=> ?_⟩ af (bM.bP _ af af dZ (fun j hj=>rfl) ?_)
     ·rw[List.take_add_one,hn]at hy
      rcases List.mem_append.1 hy with hy|hy
      ·exact ho y hy
      ·simp at hy
       subst hy
       refine⟨ea.trans va,eb.trans vb,fun h=> ?_⟩
       rw[(lF _ _).2 (VP.1 h)]at Be;cases Be
     ·exact ec
 ·replace h6:k=s.b8.length:=by simp at h6;omega
  subst h6
  rw[List.take_length]at ho
  have fin:tc s.binds.length s.b8.length (0,0) s.marks=ok:=by
   rw[Bool.eq_iff_iff,aP]
   exact⟨fun h=>⟨h1,af,af,hb,ho,h⟩,fun h=>h.marks⟩
  refine DE ?_
  refine aL (fun i:Nat×Int×Int=>⟨bc [.ab, .ptr 0 0, .ab, .ab, .ptr 7 0, .d (.i i.1)],aM (aM (fun _=> .no) 0 (.row s.row)) 7 (.row [.d (.i i.2.1), .d (.i i.2.2)]),8⟩)
   (fun i=>i.1<=s.marks.length/\tc s.binds.length s.b8.length i.2 (s.marks.drop i.1)=ok) (fun i=>s.marks.length - i.1) (0,0,0) ⟨Nat.zero_le _,fin⟩ (bM.bP _ (show 0<=8 from af) af dZ (fun j hj=> ?_) ?_) ?_
  ·by_cases e:j=7
   ·exact sO
   ·exact iA
  ·exact ec
  rintro⟨k,l1,l2⟩ ⟨hk,js⟩
  dsimp only at hk js|-
  refine DE ?_
  refine ak (fun h7=> ?_) (fun h7=> ?_)
  ·replace h7:k<s.marks.length:=by simp at h7;omega
   obtain⟨⟨m1,m2⟩,hm⟩:=aH h7
   have IY:s.marks.drop k=(m1,m2)::s.marks.drop (k+1):=by
    obtain⟨i1,i2⟩:=List.getElem?_eq_some_iff.1 hm
    exact Hc
   rw[IY,OU]at js
   dsimp only at js
   refine sF hm ?_
   refine aw (AL m1 l1 s.binds.length) rfl ?_
   cases g1:c6 m1 l1 s.binds.length with
   |false=>
    rw[g1]at js
    simp only[Bool.false_and]at js
    subst js
    exact qG
   |true=>
    rw[g1]at js
    refine sF hm ?_
    refine aw (AL m2 l2 s.b8.length) rfl ?_
    cases g2:c6 m2 l2 s.b8.length with
    |false=>
     rw[g2]at js
     simp only[Bool.true_and,Bool.false_and]at js
     subst js
     exact qG
    |true=>
     rw[g2]at js
     simp only[Bool.true_and]at js
     refine sF hm ?_
     refine ax (k+1,m1,m2) ⟨h7,js⟩ qH (bM.bP _ (show 0<=8 from af) af dZ (fun j hj=> ?_) ?_)
     ·have hj:j<8:=hj
      by_cases e:j=7
      ·exact sO
      ·(repeat(first|rfl|rw[ag]|rw[ah _ _ _ _ (by omega)]));rw[ah _ 7 _ _ e]
     ·exact ec
  ·replace h7:k=s.marks.length:=by simp at h7;omega
   subst h7
   rw[List.drop_length]at js
   have js:true=ok:=js
   subst js
   exact qG
structure mT.Fits (s:mT):Prop where
 sig:s.sig.Fits
 bl:s.binds.length<=9223372036854775807
 nl:s.b8.length<=9223372036854775807
 ml:s.marks.length<=9223372036854775807
 bt:∀x∈s.binds,x.term.fits
 nt:∀n∈s.b8,n.a.fits/\n.b.fits
structure yV (s:mT):Prop where
 sig:gJ s.sig=true
 bl:s.binds.length<=22
 nl:s.b8.length<=14
 ml:s.marks.length<=10
 bt:∀x∈s.binds,fD x.term=true
 nt:∀n∈s.b8,fD n.a=true/\fD n.b=true
theorem OV{s:mT}(hf:s.Fits)(h:yV s):s.Fin:=by
 have sm:∀t:Tm,t.fits->fD t=true->t.Fin:=fun t h1 h2=>⟨h1,by have:=((Ar t).1 h2).2;omega⟩
 have:=h.bl
 have:=h.nl
 have:=h.ml
 exact⟨hf.sig,af,af,af,fun x hx=>sm _ (hf.bt x hx) (h.bt x hx),fun n hn=>⟨sm _ (hf.nt n hn).1 (h.nt n hn).1,sm _ (hf.nt n hn).2 (h.nt n hn).2⟩⟩
theorem AS(s:mT)(hs:s.Fits){ok:Bool}(aP:ok=true↔yV s):aY Tryz.prog 23 [s.d] (.ret [.bool ok]):=by
 have no: ¬yV s->ok=false:=fun h=>by
  cases ok with
  |false=>rfl
  |true=>exact absurd (aP.1 rfl) h
 have qS:=hs.bl
 have vj:=hs.nl
 have DO:=hs.ml
 refine aY.aN mix YB aK ?_
 rw[c23]
 refine cQ ?_
 refine aw (Ak s.sig hs.sig) rfl ?_
 cases h1:gJ s.sig with
 |false=>
  have:=no fun h=>by have:=h.sig;rw[h1]at this;cases this
  exact qI
 |true=>
 by_cases h2:22<s.binds.length
 ·have pH:decide ((s.binds.length:Int)>22)=true:=by simp;omega
  have:=no fun h=>by have:=h.bl;omega
  subst this
  exact G4 pH
 have pH:decide ((s.binds.length:Int)>22)=false:=by simp;omega
 by_cases h3:14<s.b8.length
 ·have pI:decide ((s.b8.length:Int)>14)=true:=by simp;omega
  have:=no fun h=>by have:=h.nl;omega
  subst this
  exact Lu pH pI
 have pI:decide ((s.b8.length:Int)>14)=false:=by simp;omega
 by_cases h4:10<s.marks.length
 ·have CL:decide ((s.marks.length:Int)>10)=true:=by simp;omega
  have:=no fun h=>by have:=h.ml;omega
  subst this
  exact Qu pH pI CL
 have CL:decide ((s.marks.length:Int)>10)=false:=by simp;omega
 refine G3 pH pI CL ?_
 refine aL (fun k:Nat=>⟨bc [.ab, .ptr 0 0, .ab, .d (.i k)],aM (fun _=> .no) 0 (.row s.row),1⟩)
  (fun k=>k<=s.binds.length/\∀x∈s.binds.take k,fD x.term=true) (fun k=>s.binds.length - k) 0 ⟨Nat.zero_le _,fun n hn=>by simp at hn⟩ (bM.bP _ af af dZ (fun j hj=>rfl) ?_) (fun k hk=> ?_)
 ·exact ec
 obtain⟨hk,ho⟩:=hk
 refine DE ?_
 refine ak (fun h6=> ?_) (fun h6=> ?_)
 ·replace h6:k<s.binds.length:=by simp at h6;omega
  obtain⟨x,hx⟩:=aH h6
  have gv:=List.mem_of_getElem? hx
  refine sF hx ?_
  refine aw (vW x.term (hs.bt x gv)) rfl ?_
  cases hv:fD x.term with
  |false=>
   have:=no fun h=>by have:=h.bt x gv;rw[hv]at this;cases this
   exact qI
  |true=>
   refine cQ ?_
   refine ax (k+1) ⟨h6,fun y hy=> ?_⟩ af (bM.bP _ af af dZ (fun j hj=>rfl) ?_)
   ·rw[List.take_add_one,hx]at hy
    rcases List.mem_append.1 hy with hy|hy
    ·exact ho y hy
    ·simp at hy
     subst hy
     exact hv
   ·exact ec
 ·replace h6:k=s.binds.length:=by simp at h6;omega
  subst h6
  rw[List.take_length]at ho
  refine DE ?_
  refine aL (fun k:Nat=>⟨bc [.ab, .ptr 0 0, .ab, .ab, .d (.i k)],aM (fun _=> .no) 0 (.row s.row),1⟩)
   (fun k=>k<=s.b8.length/\∀n∈s.b8.take k,fD n.a=true/\fD n.b=true) (fun k=>s.b8.length - k) 0 ⟨Nat.zero_le _,fun n hn=>by simp at hn⟩ (bM.bP _ af af dZ (fun j hj=>rfl) ?_) (fun k hk=> ?_)
  ·exact ec
  obtain⟨hk,S8⟩:=hk
  refine DE ?_
  refine ak (fun h6=> ?_) (fun h6=> ?_)
  ·replace h6:k<s.b8.length:=by simp at h6;omega
   obtain⟨n,hn⟩:=aH h6
   have wD:=List.mem_of_getElem? hn
   obtain⟨na,nb⟩:=hs.nt n wD
   refine sF hn ?_
   refine aw (vW n.a na) rfl ?_
   cases va:fD n.a with
   |false=>
    have:=no fun h=>by have:=(h.nt n wD).1;rw[va]at this;cases this
    exact qI
   |true=>
    refine sF hn ?_
    refine aw (vW n.b nb) rfl ?_
    cases vb:fD n.b with
    |false=>
     have:=no fun h=>by have:=(h.nt n wD).2;rw[vb]at this;cases this
     exact qI
    |true=>
     refine cQ ?_
     refine ax (k+1) ⟨h6,fun y hy=> ?_⟩ af (bM.bP _ af af dZ (fun j hj=>rfl) ?_)
     ·rw[List.take_add_one,hn]at hy
      rcases List.mem_append.1 hy with hy|hy
      ·exact S8 y hy
      ·simp at hy
       subst hy
       exact⟨va,vb⟩
     ·exact ec
  ·replace h6:k=s.b8.length:=by simp at h6;omega
   subst h6
   rw[List.take_length]at S8
   have:ok=true:=aP.2 ⟨h1,af,af,af,ho,S8⟩
   exact qI
theorem te(hkn:aY Tryz.prog 14 [] (.ret [.bool true]))(s:mT)(hs:s.Fits):aY Tryz.prog 7 [s.d] (.ret [.bool true]):=by
 obtain⟨sm,Be⟩:∃sm:Bool,sm=true↔yV s:=by
  classical
  exact⟨decide (yV s),aK⟩
 refine aY.aN mix fn7 aK ?_
 rw[c7]
 refine cQ ?_
 refine aw (AS s hs Be) rfl ?_
 cases sm with
 |false=>
  exact L5
 |true=>
  have iX:=OV hs (Be.1 rfl)
  obtain⟨ok,aP⟩:∃ok:Bool,ok=true↔mc s:=by
   classical
   exact⟨decide (mc s),aK⟩
  refine cQ ?_
  refine aw (GG s iX aP) rfl ?_
  refine cQ ?_
  refine aw (AR s iX aP) rfl ?_
  cases ok with
  |false=>
   exact L5
  |true=>
   exact L5
end Go.Proofs.YtlhemmpklhhgoaaGreat
section
namespace Go.Proofs.YtlhemmpklhhgoaaGreat
open Go.ChangeShapes Go.WideShapes Go.RowKit
def sE(P:Program)(rec:TypeId->Option (List TypeId)):Nat->List Field->Option (List TypeId)
 |_,[]=>some []
 |off,f::fs=>if f.offset=off then match rec f.type with
  |some l=>if P.cellsOf f.type=l.length then(sE P rec (off+l.length) fs).map (l++·)else none
  |none=>none else none
def jZ(P:Program):Nat->TypeId->Option (List TypeId)
 |0,_=>none
 |n+1,t=>match P.underlying t with
  |some .bool|some (.int _)|some .string|some (.slice _)=>some [t]
  |some (.struct fs)=>sE P (jZ P n) 0 fs.toList
  |some (.array k e)=>match jZ P n e with
   |some l=>if P.cellsOf e=l.length then some (List.replicate k l).flatten else none
   |none=>none
  |_=>none
def isAgg(P:Program)(t:TypeId):Bool:=match P.underlying t with
 |some (.struct _)|some (.array _ _)=>true
 |_=>false
mutual
def D.fT (P:Program):D->TypeId->Prop
 | .int k n,t=>P.underlying t=some (.int k)/\(Lit.int k n).wf=true
 | .bool _,t=>P.underlying t=some .bool
 | .str l,t=>P.underlying t=some .string/\l.length<=maxLen
 | .sl es,t=>∃e,P.underlying t=some (.slice e)/\es.length<=maxLen/\D.DD P es e
 | .agg cs,t=>isAgg P t=true/\∃ls,jZ P 20 t=some ls/\D.fU P cs ls
 |_,_=>False
def D.DD (P:Program):List D->TypeId->Prop
 |[],_=>True
 |x::l,e=>D.fT P x e/\D.DD P l e
def D.fU (P:Program):List D->List TypeId->Prop
 |[],ts=>ts=[]
 |x::l,ts=>∃t r,ts=t::r/\D.fT P x t/\D.fU P l r
end
def qF(P:Program)(T:List TypeId):Bool:=T.all fun t=>match jZ P 20 t with
 |some l=>decide (l.length=P.cellsOf t)&&decide (0<l.length)&&l.all fun u=>match P.underlying u with
  |some (.slice e)=>T.contains e
  |_=>true
 |none=>false
theorem oh{P:Program}:∀ {xs ys:List D} {l r:List TypeId},D.fU P xs l->D.fU P ys r->D.fU P (xs++ys) (l++r)
 |[],_,_,_,h,h'=>by simp only[D.fU]at h;subst h;exact h'
 |x::xs,_,_,_,h,h'=>by
  obtain⟨t,r,rfl,h1,h2⟩:=h
  exact⟨t,_,rfl,h1,oh h2 h'⟩
theorem aW{B:Nat->Prop}{w:World}:∀ {xs ys:List D} {l r:List Value},D.az B w xs l->D.az B w ys r->D.az B w (xs++ys) (l++r)
 |[],_,_,_,h,h'=>by simp only[D.az]at h;subst h;exact h'
 |x::xs,_,_,_,h,h'=>by
  obtain⟨t,r,rfl,h1,h2⟩:=h
  exact⟨t,_,rfl,h1,aW h2 h'⟩
theorem Flat.append {l r:List Value}(h:Flat l)(h':Flat r):Flat (l++r):=fun u hu=>(List.mem_append.1 hu).elim (h u) (h' u)
abbrev OW:Nat->Prop:=fun _=>False
section
variable {H:Type}{enc:TypeId×Value->H}{P:Program}{W:World}{T:List TypeId}{b0:Nat}
def cM(P:Program)(W:World)(l:List TypeId)(cs:List Value):Prop:=∃xs,D.fU P xs l/\D.az OW W xs cs/\Flat cs
theorem cM.append {l r:List TypeId}{cs ds:List Value}(h:cM P W l cs)(h':cM P W r ds):cM P W (l++r) (cs++ds):=by
 obtain⟨xs,a1,a2,a3⟩:=h
 obtain⟨ys,b1,b2,b3⟩:=h'
 exact⟨xs++ys,oh a1 b1,aW a2 b2,a3.append b3⟩
theorem cM.length {l:List TypeId}{cs:List Value}(h:cM P W l cs):cs.length=l.length:=by
 obtain⟨xs,a1,a2,_⟩:=h
 rw[D.au _ _ a2]
 clear a2
 induction xs generalizing l with
 |nil=>simp only[D.fU]at a1;simp[a1]
 |cons x xs ih=>obtain⟨t,r,rfl,_,h⟩:=a1;simp[ih h]
theorem cM.nil:cM P W [] []:=⟨[],rfl,rfl,fun _ h=>by cases h⟩
theorem yW{α:Type}(cs:List α)(o k:Nat):cs.drop o=(cs.drop o).take k++cs.drop (o+k):=by
 rw[<- List.drop_drop];exact(List.take_append_drop k _).symm
theorem oi{rec:TypeId->Option (List TypeId)}{cs:List Value}{rd:TypeId->List Value->Prop}
 (a7:∀t l vs,rec t=some l->(∀u∈l,∀e,P.underlying u=some (.slice e)->e∈T)->P.cellsOf t=l.length->rd t vs->cM P W l vs):
 ∀ (fs:List Field) (off:Nat) (l:List TypeId),sE P rec off fs=some l->(∀u∈l,∀e,P.underlying u=some (.slice e)->e∈T)->(∀f∈fs,rd f.type ((cs.drop f.offset).take (P.cellsOf f.type)))->
   off+l.length=cs.length->cM P W l (cs.drop off)
 |[],off,l,h,_,_,hl=>by
  simp only[sE,Option.some.injEq]at h
  subst h
  have:cs.drop off=[]:=List.drop_eq_nil_of_le (by simp at hl;omega)
  rw[this];exact cM.nil
 |f::fs,off,l,h,hT,hr,hl=>by
  simp only[sE]at h
  split at h
  ·rename_i ho
   split at h
   ·rename_i l1 h1
    split at h
    ·rename_i hc
     simp only[Option.map_eq_some_iff]at h
     obtain⟨r,h2,rfl⟩:=h
     have hd:=hr f aK
     rw[ho,hc]at hd
     rw[yW cs off l1.length]
     simp only[List.length_append]at hl
     exact(a7 f.type l1 _ h1 (fun u hu=>hT u (by simp[hu])) hc hd).append (oi a7 fs _ r h2 (fun u hu=>hT u (by simp[hu])) (fun f hf=>hr f (by simp[hf])) af)
    ·cases h
   ·cases h
  ·cases h
theorem pZ{l:List TypeId}{cs:List Value}:∀ (k i:Nat),(∀j,j<k->cM P W l ((cs.drop ((i+j)*l.length)).take l.length))->(i+k)*l.length=cs.length->cM P W (List.replicate k l).flatten (cs.drop (i*l.length))
 |0,i,_,hl=>by
  have:cs.drop (i*l.length)=[]:=List.drop_eq_nil_of_le (by simp at hl;omega)
  rw[this];exact cM.nil
 |k+1,i,h,hl=>by
  rw[List.replicate_succ,List.flatten_cons,yW cs (i*l.length) l.length]
  refine(by simpa using h 0 af:cM P W l _).append ?_
  rw[show i*l.length+l.length=(i+1)*l.length by rw[Nat.add_mul];omega]
  refine pZ k (i+1) (fun j hj=> ?_) (by rw[<- hl];congr 1;omega)
  have:=h (j+1) af
  rwa [show i+(j+1)=i+1+j by omega]at this
theorem yX{e:TypeId}{l:List TypeId}{cs:List Value}(hl:jZ P 20 e=some l)(h:cM P W l cs):∃ (ev:Value) (x:D),ev.cells.toList=cs/\D.fT P x e/\D.den OW W x ev/\(isAgg P e=true->ev= .agg cs.toArray)/\(isAgg P e=false->cs=[ev]/\ev.oneCell'=true):=by
 obtain⟨xs,h1,h2,h3⟩:=h
 cases ha:isAgg P e with
 |true=>exact⟨.agg cs.toArray, .agg xs,by simp[Value.cells],⟨ha,l,hl,h1⟩,⟨_,rfl,by simpa using h2,by simpa using h3⟩,fun _=>rfl,(fun h=>by cases h)⟩
 |false=>
  have:l=[e]:=by
   unfold jZ at hl
   unfold isAgg at ha
   split at hl<;>simp_all
  subst this
  obtain⟨t,r,e1,h4,h5⟩:∃x r,xs=x::r/\D.fT P x e/\D.fU P r []:=by
   cases xs with
   |nil=>simp[D.fU]at h1
   |cons x r=>obtain⟨t,r',e1,h4,h5⟩:=h1;injection e1 with e1 e2;subst e1;subst e2;exact⟨x,r,rfl,h4,h5⟩
  subst e1
  have:r=[]:=by cases r with
   |nil=>rfl
   |cons y r=>obtain⟨_,_,e,_⟩:=h5;cases e
  subst this
  obtain⟨u,us,rfl,h6,h7⟩:=h2
  simp only[D.az]at h7
  subst h7
  have ho:=h3 u aK
  refine⟨u,t, ?_,h4,h6,(fun h=>by cases h),fun _=>⟨rfl,ho⟩⟩
  cases u<;>simp_all[Value.oneCell',Value.cells]
theorem yY(hp:qF P T=true){t:TypeId}(ht:t∈T):∃l,jZ P 20 t=some l/\l.length=P.cellsOf t/\0<l.length/\∀u∈l,∀e,P.underlying u=some (.slice e)->e∈T:=by
 have:=List.all_eq_true.1 hp t ht
 split at this
 ·rename_i l hl
  simp only[Bool.and_eq_true,decide_eq_true_eq,List.all_eq_true]at this
  refine⟨l,hl,this.1.1,this.1.2,fun u hu e he=> ?_⟩
  have:=this.2 u hu
  rw[he]at this
  simpa using this
 ·cases this
theorem AU(hp:qF P T=true):∀ (n m:Nat) (t:TypeId) (l:List TypeId) (cs:List Value) (x:DataW H×List MemPlace),jZ P m t=some l->(∀u∈l,∀e,P.underlying u=some (.slice e)->e∈T)->
 P.cellsOf t=l.length->DataW.trod enc P W 0 (fun _=>true) true n t cs=some x->cM P W l cs:=by
 intro n
 induction n with
 |zero=>intro m t l cs x _ _ _ h;simp[DataW.trod]at h
 |succ n ih=>
  intro m t l cs x hl hT hc h
  cases m with
  |zero=>simp[jZ]at hl
  |succ m=>
  unfold jZ at hl
  split at hl
  ·rename_i hu
   injection hl with hl;subst hl
   obtain⟨b,rfl,_⟩:=DataW.trod_bool hu h
   exact⟨[.bool b],⟨t,[],rfl,hu,rfl⟩,⟨_,_,rfl,rfl,rfl⟩,by simp[Flat,Value.oneCell']⟩
  ·rename_i k hu
   injection hl with hl;subst hl
   obtain⟨b,rfl,_,hw⟩:=DataW.trod_int hu h
   exact⟨[.int k b],⟨t,[],rfl,⟨hu,hw⟩,rfl⟩,⟨_,_,rfl,rfl,rfl⟩,by simp[Flat,Value.oneCell']⟩
  ·rename_i hu
   injection hl with hl;subst hl
   obtain⟨s,rfl,_,hw⟩:=DataW.trod_string hu h
   exact⟨[.str s.data.toList],⟨t,[],rfl,⟨hu,by simpa using hw⟩,rfl⟩,⟨_,_,rfl,⟨s,rfl,rfl⟩,rfl⟩,by simp[Flat,Value.oneCell']⟩
  ·rename_i e hu
   injection hl with hl;subst hl
   rcases DataW.trod_slice hu h with⟨rfl,_⟩|⟨a,len,cap,elems,rest,n',hn,rfl,_,_,h2,h3,h4,h5,h6,_⟩
   ·exact⟨[.sl []],⟨t,[],rfl,⟨e,hu,aK,trivial⟩,rfl⟩,⟨_,_,rfl,⟨none,0,0,rfl,rfl,aK,fun _=>rfl,0,(fun a ha=>by cases ha)⟩,rfl⟩,by simp[Flat,Value.oneCell']⟩
   ·injection hn with hn;subst hn
    obtain⟨l',g1,g2,g3,g4⟩:=yY hp (hT t aK e hu)
    have at':∀i,i<len->∃ev:Value,∃y:D,ev.cells.size=P.cellsOf e/\eP OW W (a.add (i*P.cellsOf e)) ev.cells/\D.den OW W y ev/\D.fT P y e:=by
     intro i hi
     have:=h5 i hi
     rw[List.getElem?_eq_getElem (by omega)]at this
     obtain⟨ci,k1,k2⟩:=Option.bind_eq_some_iff.1 this
     obtain⟨_,k3,k4⟩:=World.cells?_some k1
     have k5:=ih 20 e l' ci _ g1 g4 g2.symm k2
     obtain⟨ev,y,q1,q2,q3,_,_⟩:=yX g1 k5
     have q4:ev.cells=ci.toArray:=by rw[<- q1]
     refine⟨ev,y,by rw[q4];simp[k5.length,g2],fun j u hj=>⟨?_,fun h=>h⟩,q3,q2⟩
     rw[q4]at hj
     have DN:ci[j]? =some u:=by simpa using hj
     have bQ:j<P.cellsOf e:=by rw[<- g2, <- k5.length];exact(List.getElem?_eq_some_iff.1 DN).1
     rw[k4 j bQ];exact DN
    have list:∀k i,i+k=len->∃es,es.length=k/\D.DD P es e/\D.elems OW W (P.cellsOf e) a i es:=by
     intro k
     induction k with
     |zero=>intro i _;exact⟨[],rfl,trivial,trivial⟩
     |succ k VJ=>
      intro i hi
      obtain⟨es,e1,e2,e3⟩:=VJ (i+1) af
      obtain⟨ev,y,y1,y2,y3,y4⟩:=at' i af
      exact⟨y::es,by simp[e1],⟨y4,e2⟩,⟨ev,y1,y2,y3⟩,e3⟩
    obtain⟨es,e1,e2,e3⟩:=list len 0 af
    have VS:cap≠0->a.spot=none:=by
     intro nk
     have Lo:∀z,(W.cells? 0 (a.add (0*P.cellsOf e)) (P.cellsOf e)).bind (DataW.trod enc P W 0 (fun _=>true) true n e)=some z->a.spot=none:=by
      intro z hz
      obtain⟨ci,k1,k2⟩:=Option.bind_eq_some_iff.1 hz
      obtain⟨_,k3,k4⟩:=World.cells?_some k1
      have k5:=k4 0 af
      rw[List.getElem?_eq_getElem (by omega)]at k5
      simpa[Addr.add]using World.cell?_spot k5
     by_cases hlen:0<len
     ·have:=h5 0 hlen
      rw[List.getElem?_eq_getElem (by omega)]at this
      exact Lo _ this
     ·obtain⟨h7,h8⟩:=h6 rfl
      have:=h8 0 af
      rw[List.getElem?_eq_getElem (by omega),show(len+0)=0 by omega]at this
      exact Lo _ this
    exact⟨[.sl es],⟨t,[],rfl,⟨e,hu,af,e2⟩,rfl⟩,⟨_,_,rfl,⟨some a,len,cap,rfl,e1.symm,h2,(fun h=>by cases h),P.cellsOf e,(fun a' Qp=>by injection Qp with Qp;subst Qp;exact⟨VS,e3⟩)⟩,rfl⟩,by simp[Flat,Value.oneCell']⟩
  ·rename_i fs hu
   obtain⟨xs,n',hn,_,h2,h3,h4⟩:=DataW.trod_struct hu h
   injection hn with hn;subst hn
   have:=oi (P:=P) (W:=W) (T:=T) (cs:=cs) (rd:=fun t vs=>∃y,DataW.trod enc P W 0 (fun _=>true) true n t vs=some y) (rec:=jZ P m) (fun t l vs q1 q2 q3 ⟨y,q4⟩=>ih m t l vs y q1 q2 q3 q4) fs.toList 0 l hl hT ?_ af
   ·simpa using this
   ·intro f hf
    obtain⟨i,hi,hfi⟩:=List.getElem_of_mem hf
    have:=h4 i f (by simp at hi;simp[<- hfi,Array.getElem?_eq_getElem hi])
    rw[List.getElem?_eq_getElem (by simp at hi;omega)]at this
    exact⟨_,this⟩
  ·rename_i k e hu
   split at hl
   ·rename_i l' EO
    split at hl
    ·rename_i hce
     injection hl with hl;subst hl
     obtain⟨xs,n',hn,_,h2,h3,h4⟩:=DataW.trod_array hu h
     injection hn with hn;subst hn
     have hlen:cs.length=k*l'.length:=by rw[h2,hc];simp
     have hT':0<k->∀u∈l',∀e,P.underlying u=some (.slice e)->e∈T:=fun hk u hu=>hT u (List.mem_flatten.2 ⟨l',List.mem_replicate.2 ⟨af,rfl⟩,hu⟩)
     have:=pZ (P:=P) (W:=W) (l:=l') (cs:=cs) k 0 (fun j hj=> ?_) (by rw[hlen];simp)
     ·simpa using this
     ·have:=h4 j hj
      rw[hce,List.getElem?_eq_getElem (by omega)]at this
      rw[Nat.zero_add]
      exact ih m e l' _ _ EO (hT' af) hce this
    ·cases hl
   ·cases hl
  ·cases hl
theorem uG(hp:qF P T=true):∀ (ts:List TypeId) (vs:List Value) (ds:List (DataW H)) (p:List MemPlace),(∀t∈ts,t∈T)->DataW.TrodAll enc P W 0 (fun _=>true) true ts vs ds p->
 (∀ (j:Nat) t v,ts[j]? =some t->vs[j]? =some v->Value.okWide P W .any b0 t v)->∃xs,D.fU P xs ts/\D.az OW W xs vs
 |[],vs,ds,p,_,h,_=>by
  obtain⟨rfl,rfl,rfl⟩:=trodAll_nil h
  exact⟨[],rfl,rfl⟩
 |t::ts,vs,ds,p,hT,h,hv=>by
  obtain⟨v,V9,d,Sn,p1,q1,rfl,rfl,rfl,⟨n,h1⟩,h2⟩:=trodAll_cons h
  obtain⟨xs,a1,a2⟩:=uG hp ts V9 Sn q1 (fun t ht=>hT t (by simp[ht])) h2 (fun j t v h1 h2=>hv (j+1) t v (by simpa using h1) tl)
  obtain⟨l,g1,g2,g3,g4⟩:=yY hp (hT t aK)
  obtain⟨ev,x,q1,q2,q3,q4,q5⟩:=yX g1 (AU hp n 20 t l _ _ g1 g4 g2.symm h1)
  have aP:=hv 0 t v rfl rfl
  have:ev=v:=by
   cases ha:isAgg P t with
   |true=>
    have:∃cs,v= .agg cs:=by
     unfold isAgg at ha
     unfold Value.okWide at aP
     split at ha
     ·rename_i hu;rw[hu]at aP;obtain⟨cs,rfl,_⟩:=aP;exact⟨cs,rfl⟩
     ·rename_i hu;rw[hu]at aP;obtain⟨cs,rfl,_⟩:=aP;exact⟨cs,rfl⟩
     ·cases ha
    obtain⟨cs,rfl⟩:=this
    rw[q4 ha]
    simp[Value.cells]
   |false=>
    obtain⟨q6,q7⟩:=q5 ha
    cases v with
    |agg cs=>
     exfalso
     unfold isAgg at ha
     unfold Value.okWide at aP
     split at aP
     ·rename_i hu;rw[hu]at ha;cases ha
     ·rename_i hu;rw[hu]at ha;cases ha
     ·unfold Cell.okWide at aP
      split at aP
      case h_8=>
       unfold Cell.ok at aP
       split at aP<;>first|exact aP|contradiction
      all_goals contradiction
    |_=>simp only[Value.cells,List.cons.injEq,and_true]at q6;exact q6.symm
  subst this
  exact⟨x::xs,⟨t,ts,rfl,q2,a1⟩,⟨_,_,rfl,q3,a2⟩⟩
theorem dy.below {w w':World}(h:dy (fun _=>False) w w'):Below w.heap.size w w':=⟨h.os,h.tape,h.output,h.size,fun k hk=>h.block k hk (fun h=>h)⟩
theorem uH(hl:laidOutB P=true){W':World}{sp:Nat->Bool}:∀ {ts:List TypeId} {vs:List Value} {ds:List (DataW H)} {p:List MemPlace},(∀t∈ts,P.readableRec t=true/\t<P.types.size)->DataW.TrodAll enc P W 0 (fun _=>true) true ts vs ds p->
 (∀x∈p,W.sameAt W' x/\sp x.block=true)->DataW.TrodAll enc P W' 0 sp true ts vs ds p
 |[],vs,ds,p,_,h,_=>by
  obtain⟨rfl,rfl,rfl⟩:=trodAll_nil h
  exact trodAll_mk0
 |t::ts,vs,ds,p,hr,h,hs=>by
  obtain⟨v,V9,d,Sn,p1,q1,rfl,rfl,rfl,h1,h2⟩:=trodAll_cons h
  exact⟨p1,q1,WideElems.Trod_stays hl (hr t aK).1 (hr t aK).2 h1 (fun x hx=>(hs x pw).1) (fun x hx=>(hs x pw).2),uH hl (fun t ht=>hr t (by simp[ht])) h2 (fun x hx=>hs x pw),rfl⟩
theorem GK{sp:Nat->Bool}:∀ {ts:List TypeId} {vs:List Value} {ds:List (DataW H)} {ps:List MemPlace},DataW.TrodAll enc P W 0 sp true ts vs ds ps->ds.length=ts.length
 |[],_,_,_,h=>by obtain⟨_,rfl,_⟩:=trodAll_nil h;rfl
 |_::_,_,_,_,h=>by
  obtain⟨_,_,_,_,_,_,_,rfl,_,_,h2⟩:=trodAll_cons h
  simp[GK h2]
theorem wz{f:FuncId}{fn:Func}{s:ChangeSpec}{tb:TypeId}{fresh handsOn again:Bool}(xA:fn.resultTypes=#[tb])(DZ:P.underlying tb=some .bool)(Lp:s.vars=[])
 (GL:∀ds:List (DataW H),ds.length=fn.params.toList.length->s.fn H ds={results:=[.lit (.bool true)],args:=ds}) (hp:qF P T=true) (hT:∀t∈fn.params.toList,t∈T) (hl:laidOutB P=true)
 (hr:∀t∈fn.params.toList,P.readableRec t=true/\t<P.types.size) (law:∀xs,D.fU P xs fn.params.toList->aY P f xs (.ret [.bool true]))
 (base:Nat) (args:Array Value) (ds gs:List (DataW H)) (before:List MemPlace)
 (eI:∀ (j:Nat) t v,fn.params[j]? =some t->args[j]? =some v->Value.okWide P W .any base t v) (hW:DataW.Whole enc P fn.params.toList s.vars false W args.toList ds gs before):
 Calls P f args W fun e W'=>∃v,e= .returned v/\s.post enc P fn false fresh handsOn again W args v W':=by
 have hW':=hW
 obtain⟨p,q,hA,hV,rfl,hfz,xr⟩:=hW
 rw[Lp]at hV
 obtain⟨rfl,rfl⟩:=trodVars_none hV
 obtain⟨xs,a1,a2⟩:=uG (b0:=base) hp fn.params.toList args.toList ds p hT hA (fun j t v h1 h2=>eI j t v (by simpa using h1) tl)
 refine((law xs a1).2 OW W args (fun _ h=>h.elim) a2).mono fun e W' ⟨hk,ho⟩=> ?_
 have hb:=hk.below
 cases e with
 |panicked ch=>exact ho.elim
 |outgrown=>exact ho.elim
 |returned v=>
  simp only[R.is,D.den]at ho
  subst ho
  refine⟨_,rfl, ?_⟩
  have hlen:ds.length=fn.params.toList.length:=(GK hA)
  have hold:∀x∈p,x.block<W.heap.size:=fun x hx=>by simpa using hW'.lt x tn
  have cZ:∀sp:Nat->Bool,(∀x∈p,sp x.block=true)->DataW.TrodAll enc P W' 0 sp true fn.params.toList args.toList ds p:=fun sp JA=>uH hl hr hA fun x hx=>⟨hb.same (hold x hx),JA x hx⟩
  have Lq:∀ (b:Nat) (sp:Nat->Bool) (hd:Bool),DataW.TrodAll enc P W' b sp hd fn.resultTypes.toList ((Value.bool true).resultList fn.resultTypes.size) [.lit (.bool true)] []:=fun b sp hd=>by
   rw[xA]
   exact trodAll_cons_mk (p:=[]) (p':=[]) ⟨1,by simp[DataW.trod,Value.cells,DZ]⟩ trodAll_mk0
  have GM:∀sp:Nat->Bool,DataW.TrodVars enc P W' sp s.vars [] []:=fun sp=>by rw[Lp];rfl
  refine⟨ds,[],p++[],[],p,[],hW', ?_, ?_, ?_,World.keptBut_mono (fun _ h=>h.elim) (hb.frame (fun _=>False)),fun _=>⟨?_,[.lit (.bool true)]++ds,[],([]++p)++[],⟨[]++p,[],trodAll_append (cZ _ fun _ _=>rfl) (Lq 0 (fun _=>true) true),GM _,rfl, ?_,(fun h=>by cases h)⟩,fun x hx _=>by simpa using hx⟩⟩
  ·rw[List.append_nil,GL ds hlen];exact Lq _ _ _
  ·rw[List.append_nil,GL ds hlen];exact cZ _ fun x hx=>by simpa using hold x hx
  ·rw[List.append_nil,GL ds hlen];exact GM _
  ·intro j t r h1 h2
   rw[xA]at h1 h2
   match j,h1,h2 with
   |0,h1,h2=>
    simp[Value.resultList]at h1 h2
    subst h1;subst h2
    simp[Value.okWide,DZ,Cell.okWide,Cell.ok]
  ·intro b off hx
   rw[hb.frozen (by simpa[MemPlace.block]using hold _ (by simpa using hx))]
   exact hfz b off tn
end
section
variable {P:Program}{t e:TypeId}{x:D}
theorem yZ{k:IntKind}(ht:P.underlying t=some (.int k))(h:D.fT P x t):∃n,x= .int k n/\(Lit.int k n).wf=true:=by
 cases x<;>simp only[D.fT]at h
 case int k' n=>
  rw[ht]at h
  obtain⟨h1,h2⟩:=h
  injection h1 with h1;injection h1 with h1;subst h1
  exact⟨n,rfl,h2⟩
 case bool=>rw[ht]at h;cases h
 case str=>rw[ht]at h;cases h.1
 case sl=>obtain⟨e,h,_⟩:=h;rw[ht]at h;cases h
 case agg=>have:=h.1;unfold isAgg at this;rw[ht]at this;cases this
theorem GN(ht:P.underlying t=some .string)(h:D.fT P x t):∃l,x= .str l/\l.length<=maxLen:=by
 cases x<;>simp only[D.fT]at h
 case int k' n=>rw[ht]at h;cases h.1
 case bool b=>rw[ht]at h;cases h
 case str l=>exact⟨l,rfl,h.2⟩
 case sl=>obtain⟨e,h,_⟩:=h;rw[ht]at h;cases h
 case agg=>have:=h.1;unfold isAgg at this;rw[ht]at this;cases this
theorem iN(ht:P.underlying t=some (.slice e))(h:D.fT P x t):∃es,x= .sl es/\es.length<=maxLen/\D.DD P es e:=by
 cases x<;>simp only[D.fT]at h
 case int k' n=>rw[ht]at h;cases h.1
 case bool b=>rw[ht]at h;cases h
 case str l=>rw[ht]at h;cases h.1
 case sl es=>
  obtain⟨e',h,h2,h3⟩:=h
  rw[ht]at h;injection h with h;injection h with h;subst h
  exact⟨es,rfl,h2,h3⟩
 case agg=>have:=h.1;unfold isAgg at this;rw[ht]at this;cases this
theorem jr{ls:List TypeId}(ha:isAgg P t=true)(hl:jZ P 20 t=some ls)(h:D.fT P x t):∃cs,x= .agg cs/\D.fU P cs ls:=by
 have no:∀u,P.underlying t=some u->(∀fs,u≠ .struct fs)->(∀k e,u≠ .array k e)->False:=by
  intro u hu h1 h2
  unfold isAgg at ha
  rw[hu]at ha
  split at ha
  ·rename_i e;injection e with e;exact h1 _ e
  ·rename_i e;injection e with e;exact h2 _ _ e
  ·cases ha
 cases x<;>simp only[D.fT]at h
 case int k' n=>exact(no _ h.1 (fun _ h=>by cases h) (fun _ _ h=>by cases h)).elim
 case bool b=>exact(no _ h (fun _ h=>by cases h) (fun _ _ h=>by cases h)).elim
 case str l=>exact(no _ h.1 (fun _ h=>by cases h) (fun _ _ h=>by cases h)).elim
 case sl es=>obtain⟨e',h,_⟩:=h;exact(no _ h (fun _ h=>by cases h) (fun _ _ h=>by cases h)).elim
 case agg cs=>
  obtain⟨_,ls',h1,h2⟩:=h
  rw[hl]at h1;injection h1 with h1;subst h1
  exact⟨cs,rfl,h2⟩
theorem aS{t:TypeId}{ts:List TypeId}{cs:List D}(h:D.fU P cs (t::ts)):∃x xs,cs=x::xs/\D.fT P x t/\D.fU P xs ts:=by
 cases cs with
 |nil=>simp[D.fU]at h
 |cons x xs=>obtain⟨_,_,e,h1,h2⟩:=h;injection e with e1 e2;subst e1;subst e2;exact⟨x,xs,rfl,h1,h2⟩
theorem fI{cs:List D}(h:D.fU P cs []):cs=[]:=by
 cases cs with
 |nil=>rfl
 |cons x xs=>obtain⟨_,_,e,_⟩:=h;cases e
theorem fV{α:Type}{f:α->D}{q:α->Prop}(hf:∀x,D.fT P x e->∃a,x=f a/\q a):∀ (es:List D),D.DD P es e->∃l:List α,es=l.map f/\∀a∈l,q a
 |[],_=>⟨[],rfl,fun _ h=>by cases h⟩
 |x::es,h=>by
  obtain⟨a,rfl,h1⟩:=hf x h.1
  obtain⟨l,rfl,h2⟩:=fV hf es h.2
  exact⟨a::l,rfl,fun b hb=>(List.mem_cons.1 hb).elim (fun e=>e ▸ h1) (h2 b)⟩
end
end Go.Proofs.YtlhemmpklhhgoaaGreat
end
section
namespace Go.Proofs.YtlhemmpklhhgoaaGreat
open Go.ChangeShapes Go.WideShapes Go.RowKit
theorem jd:maxLen<=9223372036854775807:=dU
theorem p8{x:D}(h:D.fT Tryz.prog x 3):∃n:Int,x= .i n:=by
 obtain⟨n,h,_⟩:=yZ undT_3 h
 exact⟨n,h⟩
theorem I8{x:D}(h:D.fT Tryz.prog x 30):∃n:Int,x= .i n:=by
 obtain⟨n,h,_⟩:=yZ undT_30 h
 exact⟨n,h⟩
theorem VT{x:D}(h:D.fT Tryz.prog x 124):∃r:jX,x=r.d/\r.name.length<=9223372036854775807:=by
 obtain⟨cs,rfl,hh⟩:=jr ae (ls:=[9,3]) ae h
 clear h;have h:=hh;clear hh
 obtain⟨a,cs,rfl,ha,h⟩:=aS h
 obtain⟨b,cs,rfl,hb,h⟩:=aS h
 have:=fI h;subst this
 obtain⟨l,rfl,hl⟩:=GN ae ha
 obtain⟨n,rfl⟩:=p8 hb
 exact⟨⟨l,n⟩,rfl,by have:=jd;simp only;omega⟩
theorem GO:∀ (n:Nat) (x:D),SizeOf.sizeOf x<=n->D.fT Tryz.prog x 33->∃t:Tm,x=t.d/\t.fits:=by
 intro n
 induction n with
 |zero=>intro x hx _;cases x<;>simp at hx
 |succ n ih=>
  intro x hx h
  obtain⟨cs,rfl,hh⟩:=jr ae (ls:=[30,3,31]) ae h
  clear h;have h:=hh;clear hh
  obtain⟨a,cs,rfl,ha,h⟩:=aS h
  obtain⟨b,cs,rfl,hb,h⟩:=aS h
  obtain⟨c,cs,rfl,hc,h⟩:=aS h
  have:=fI h;subst this
  obtain⟨o,rfl⟩:=I8 ha
  obtain⟨m,rfl⟩:=p8 hb
  obtain⟨es,rfl,h1,h2⟩:=iN undT_31 hc
  have Bi:SizeOf.sizeOf es<=n:=by simp at hx;omega
  have:∀es:List D,SizeOf.sizeOf es<=n->D.DD Tryz.prog es 33->∃l:List Tm,es=l.map Tm.d/\∀k∈l,k.fits:=by
   intro es
   induction es with
   |nil=>intro _ _;exact⟨[],rfl,fun _ h=>by cases h⟩
   |cons y es ihe=>
    intro hs h
    simp at hs
    obtain⟨t,rfl,ht⟩:=ih y af h.1
    obtain⟨l,rfl,hl⟩:=ihe af h.2
    exact⟨t::l,rfl,fun b hb=>(List.mem_cons.1 hb).elim (fun e=>e ▸ ht) (hl b)⟩
  obtain⟨l,rfl,hl⟩:=this es Bi h2
  refine⟨.mk o m l,by rw[Tm.MZ], ?_⟩
  rw[Tm.bA]
  exact Rg
theorem VU{x:D}(h:D.fT Tryz.prog x 33):∃t:Tm,x=t.d/\t.fits:=GO _ x (Nat.le_refl _) h
end Go.Proofs.YtlhemmpklhhgoaaGreat
end
section
namespace Go.Proofs.YtlhemmpklhhgoaaGreat
open Go.ChangeShapes Go.WideShapes Go.RowKit
theorem ZJ{x:D}(h:D.fT Tryz.prog x 59):∃b:TB,x=b.d/\b.term.fits:=by
 obtain⟨cs,rfl,hh⟩:=jr ae (ls:=[3,30,3,31]) ae h
 clear h;have h:=hh;clear hh
 obtain⟨v,cs,rfl,hv,h⟩:=aS h
 obtain⟨a,cs,rfl,ha,h⟩:=aS h
 obtain⟨b,cs,rfl,hb,h⟩:=aS h
 obtain⟨c,cs,rfl,hc,h⟩:=aS h
 have:=fI h;subst this
 obtain⟨k,rfl⟩:=p8 hv
 obtain⟨o,rfl⟩:=I8 ha
 obtain⟨m,rfl⟩:=p8 hb
 obtain⟨es,rfl,h1,h2⟩:=iN undT_31 hc
 obtain⟨l,rfl,hl⟩:=fV (fun x h=>VU h) es h2
 refine⟨⟨k, .mk o m l⟩,rfl, ?_⟩
 rw[Tm.bA]
 exact Rg
theorem I9{x:D}(h:D.fT Tryz.prog x 25):∃l:List TB,x= .sl (l.map TB.d)/\(l.length<=9223372036854775807/\∀b∈l,b.term.fits):=by
 obtain⟨es,rfl,h1,h2⟩:=iN undT_25 h
 obtain⟨l,rfl,hl⟩:=fV (fun x h=>ZJ h) es h2
 exact⟨l,rfl,by have:=jd;simp at h1;omega,hl⟩
end Go.Proofs.YtlhemmpklhhgoaaGreat
end
section
namespace Go.Proofs.YtlhemmpklhhgoaaGreat
open Go.ChangeShapes Go.WideShapes Go.RowKit
theorem GP{x:D}(h:D.fT Tryz.prog x 31):∃l:List Tm,x= .sl (l.map Tm.d)/\l.length<=9223372036854775807/\∀t∈l,t.fits:=by
 obtain⟨es,rfl,h1,h2⟩:=iN undT_31 h
 obtain⟨l,rfl,hl⟩:=fV (fun x h=>VU h) es h2
 have:=jd
 exact⟨l,rfl,by simp at h1;omega,hl⟩
theorem ZK{x:D}(h:D.fT Tryz.prog x 101):∃n:Nt,x=n.d/\n.a.fits/\n.b.fits:=by
 obtain⟨cs,rfl,hh⟩:=jr ae (ls:=[30,3,31,30,3,31]) ae h
 clear h;have h:=hh;clear hh
 obtain⟨a,cs,rfl,ha,h⟩:=aS h
 obtain⟨b,cs,rfl,hb,h⟩:=aS h
 obtain⟨c,cs,rfl,hc,h⟩:=aS h
 obtain⟨d,cs,rfl,hd,h⟩:=aS h
 obtain⟨e,cs,rfl,he,h⟩:=aS h
 obtain⟨f,cs,rfl,hf,h⟩:=aS h
 have:=fI h;subst this
 obtain⟨o1,rfl⟩:=I8 ha
 obtain⟨n1,rfl⟩:=p8 hb
 obtain⟨k1,rfl,l1,l2⟩:=GP hc
 obtain⟨o2,rfl⟩:=I8 hd
 obtain⟨n2,rfl⟩:=p8 he
 obtain⟨k2,rfl,l3,l4⟩:=GP hf
 exact⟨⟨.mk o1 n1 k1, .mk o2 n2 k2⟩,rfl,(Tm.bA _).2 ⟨l1,l2⟩,(Tm.bA _).2 ⟨l3,l4⟩⟩
theorem ZL{x:D}(h:D.fT Tryz.prog x 77):∃m:Int×Int,x=VL m/\True:=by
 obtain⟨cs,rfl,hh⟩:=jr ae (ls:=[3,3]) ae h
 clear h;have h:=hh;clear hh
 obtain⟨a,cs,rfl,ha,h⟩:=aS h
 obtain⟨b,cs,rfl,hb,h⟩:=aS h
 have:=fI h;subst this
 obtain⟨n1,rfl⟩:=p8 ha
 obtain⟨n2,rfl⟩:=p8 hb
 exact⟨(n1,n2),rfl,trivial⟩
theorem VV{x:D}(h:D.fT Tryz.prog x 29):∃s:mT,x=s.d/\s.Fits:=by
 obtain⟨cs,rfl,hh⟩:=jr ae (ls:=[22,22,25,26,27]) ae h
 clear h;have h:=hh;clear hh
 obtain⟨a,cs,rfl,ha,h⟩:=aS h
 obtain⟨b,cs,rfl,hb,h⟩:=aS h
 obtain⟨c,cs,rfl,hc,h⟩:=aS h
 obtain⟨d,cs,rfl,hd,h⟩:=aS h
 obtain⟨e,cs,rfl,he,h⟩:=aS h
 have:=fI h;subst this
 obtain⟨es,rfl,h1,h2⟩:=iN undT_22 ha
 obtain⟨l,rfl,hl⟩:=fV (fun x h=>VT h) es h2
 obtain⟨es',rfl,h3,h4⟩:=iN undT_22 hb
 obtain⟨l',rfl,EO⟩:=fV (fun x h=>VT h) es' h4
 obtain⟨bs,rfl,CH,hb2⟩:=I9 hc
 obtain⟨es2,rfl,h5,h6⟩:=iN (e:=101) ae hd
 obtain⟨q,rfl,hq⟩:=fV (fun x h=>ZK h) es2 h6
 obtain⟨es3,rfl,h7,h8⟩:=iN (e:=77) ae he
 obtain⟨ms,rfl,_⟩:=fV (fun x h=>ZL h) es3 h8
 have:=jd
 exact⟨⟨⟨l,l'⟩,bs,q,ms⟩,rfl,⟨⟨by simp at h1;simp only;omega,by simp at h3;simp only;omega,hl,EO⟩,CH,by simp at h5;simp only;omega,by simp at h7;simp only;omega,hb2,hq⟩⟩
end Go.Proofs.YtlhemmpklhhgoaaGreat
end
section
namespace Go.Proofs.YtlhemmpklhhgoaaGreat
open Go
def OX:Nat->Bool:=fun g=> !([159,172,173,174,187,135,162,175,176,177,178,179,180,182,183,188,191,192,201,149,164,165,167,111,136,100,79,63,64,112,104,69]:List Nat).contains g
@[reducible] def zC:D:= .sl [.agg [.str [70,97,108,115,101], .i 0], .agg [.str [84,114,117,101], .i 0], .agg [.str [90], .i 0], .agg [.str [83], .i 1], .agg [.str [78,105,108], .i 0], .agg [.str [67,111,110,115], .i 2]]
@[reducible] def zF:D:= .sl [.agg [.str [97,112,112], .i 2], .agg [.str [111,110,101], .i 0]]
def p9:nJ Tryz.prog:=nJ.of OX [] (fun _ h=>by cases h)
end Go.Proofs.YtlhemmpklhhgoaaGreat
end
section
namespace Go.Proofs.YtlhemmpklhhgoaaGreat
open Go
theorem GQ:lM Tryz.prog bu p9 5000 119 [.agg [zC,zF]]=some (.ret [.i 0]):=ae
theorem OY:aY Tryz.prog 119 [.agg [zC,zF]] (.ret [.i 0]):=aY.eY mix eZ GQ
theorem Ja:lM Tryz.prog bu p9 5000 129 [.agg [zC,zF], .agg [.i 1, .i 0, .sl []]]=some (.ret [.bool true, .bool false, .i 0]):=ae
theorem VW:aY Tryz.prog 129 [.agg [zC,zF], .agg [.i 1, .i 0, .sl []]] (.ret [.bool true, .bool false, .i 0]):=aY.eY mix eZ Ja
theorem Jb:lM Tryz.prog bu p9 5000 129 [.agg [zC,zF], .agg [.i 1, .i 2, .sl []]]=some (.ret [.bool true, .bool false, .i 0]):=ae
theorem VX:aY Tryz.prog 129 [.agg [zC,zF], .agg [.i 1, .i 2, .sl []]] (.ret [.bool true, .bool false, .i 0]):=aY.eY mix eZ Jb
theorem Jc:lM Tryz.prog bu p9 5000 129 [.agg [zC,zF], .agg [.i 3, .i 5, .sl [.agg [.i 1, .i 0, .sl []], .agg [.i 1, .i 1, .sl []]]]]=some (.ret [.bool true, .bool false, .i 0]):=ae
theorem VY:aY Tryz.prog 129 [.agg [zC,zF], .agg [.i 3, .i 5, .sl [.agg [.i 1, .i 0, .sl []], .agg [.i 1, .i 1, .sl []]]]] (.ret [.bool true, .bool false, .i 0]):=aY.eY mix eZ Jc
theorem Jd:lM Tryz.prog bu p9 5000 129 [.agg [zC,zF], .agg [.i 3, .i 5, .sl [.agg [.i 1, .i 2, .sl []], .agg [.i 3, .i 5, .sl [.agg [.i 1, .i 0, .sl []], .agg [.i 3, .i 4, .sl []]]]]]]=some (.ret [.bool true, .bool false, .i 0]):=ae
theorem VZ:aY Tryz.prog 129 [.agg [zC,zF], .agg [.i 3, .i 5, .sl [.agg [.i 1, .i 2, .sl []], .agg [.i 3, .i 5, .sl [.agg [.i 1, .i 0, .sl []], .agg [.i 3, .i 4, .sl []]]]]]] (.ret [.bool true, .bool false, .i 0]):=aY.eY mix eZ Jd
theorem Je:lM Tryz.prog bu p9 5000 129 [.agg [zC,zF], .agg [.i 3, .i 5, .sl [.agg [.i 1, .i 0, .sl []], .agg [.i 3, .i 4, .sl []]]]]=some (.ret [.bool true, .bool false, .i 0]):=ae
theorem V0:aY Tryz.prog 129 [.agg [zC,zF], .agg [.i 3, .i 5, .sl [.agg [.i 1, .i 0, .sl []], .agg [.i 3, .i 4, .sl []]]]] (.ret [.bool true, .bool false, .i 0]):=aY.eY mix eZ Je
theorem Jf:lM Tryz.prog bu p9 5000 129 [.agg [zC,zF], .agg [.i 3, .i 3, .sl [.agg [.i 1, .i 3, .sl []]]]]=some (.ret [.bool true, .bool false, .i 0]):=ae
theorem V1:aY Tryz.prog 129 [.agg [zC,zF], .agg [.i 3, .i 3, .sl [.agg [.i 1, .i 3, .sl []]]]] (.ret [.bool true, .bool false, .i 0]):=aY.eY mix eZ Jf
theorem Jg:lM Tryz.prog bu p9 5000 129 [.agg [zC,zF], .agg [.i 3, .i 3, .sl [.agg [.i 3, .i 2, .sl []]]]]=some (.ret [.bool true, .bool true, .i 0]):=ae
theorem V2:aY Tryz.prog 129 [.agg [zC,zF], .agg [.i 3, .i 3, .sl [.agg [.i 3, .i 2, .sl []]]]] (.ret [.bool true, .bool true, .i 0]):=aY.eY mix eZ Jg
def y0:nJ Tryz.prog:=nJ.of OX [(119,[.agg [zC,zF]], .ret [.i 0]),(129,[.agg [zC,zF], .agg [.i 1, .i 0, .sl []]], .ret [.bool true, .bool false, .i 0]),(129,[.agg [zC,zF], .agg [.i 1, .i 2, .sl []]], .ret [.bool true, .bool false, .i 0]),(129,[.agg [zC,zF], .agg [.i 3, .i 5, .sl [.agg [.i 1, .i 0, .sl []], .agg [.i 1, .i 1, .sl []]]]], .ret [.bool true, .bool false, .i 0]),(129,[.agg [zC,zF], .agg [.i 3, .i 5, .sl [.agg [.i 1, .i 2, .sl []], .agg [.i 3, .i 5, .sl [.agg [.i 1, .i 0, .sl []], .agg [.i 3, .i 4, .sl []]]]]]], .ret [.bool true, .bool false, .i 0]),(129,[.agg [zC,zF], .agg [.i 3, .i 5, .sl [.agg [.i 1, .i 0, .sl []], .agg [.i 3, .i 4, .sl []]]]], .ret [.bool true, .bool false, .i 0]),(129,[.agg [zC,zF], .agg [.i 3, .i 3, .sl [.agg [.i 1, .i 3, .sl []]]]], .ret [.bool true, .bool false, .i 0]),(129,[.agg [zC,zF], .agg [.i 3, .i 3, .sl [.agg [.i 3, .i 2, .sl []]]]], .ret [.bool true, .bool true, .i 0])] (fun x h=>by
 simp only[List.mem_cons,List.not_mem_nil,or_false]at h
 rcases h with rfl|rfl|rfl|rfl|rfl|rfl|rfl|rfl
 ·exact OY
 ·exact VW
 ·exact VX
 ·exact VY
 ·exact VZ
 ·exact V0
 ·exact V1
 ·exact V2)
end Go.Proofs.YtlhemmpklhhgoaaGreat
end
section
namespace Go.Proofs.YtlhemmpklhhgoaaGreat
open Go
theorem OZ:lM Tryz.prog bu y0 5000 15 [.agg [zC,zF, .sl [], .sl [], .sl []], .agg [.i 3, .i 5, .sl [.agg [.i 1, .i 0, .sl []], .agg [.i 1, .i 1, .sl []]]], .agg [.i 3, .i 5, .sl [.agg [.i 1, .i 2, .sl []], .agg [.i 3, .i 5, .sl [.agg [.i 1, .i 0, .sl []], .agg [.i 3, .i 4, .sl []]]]]]]=some (.ret [.agg [zC,zF, .sl [.agg [.i 2, .i 1, .i 0, .sl []], .agg [.i 1, .i 3, .i 5, .sl [.agg [.i 1, .i 0, .sl []], .agg [.i 3, .i 4, .sl []]]]], .sl [], .sl []], .i 0]):=ae
theorem ZM:aY Tryz.prog 15 [.agg [zC,zF, .sl [], .sl [], .sl []], .agg [.i 3, .i 5, .sl [.agg [.i 1, .i 0, .sl []], .agg [.i 1, .i 1, .sl []]]], .agg [.i 3, .i 5, .sl [.agg [.i 1, .i 2, .sl []], .agg [.i 3, .i 5, .sl [.agg [.i 1, .i 0, .sl []], .agg [.i 3, .i 4, .sl []]]]]]] (.ret [.agg [zC,zF, .sl [.agg [.i 2, .i 1, .i 0, .sl []], .agg [.i 1, .i 3, .i 5, .sl [.agg [.i 1, .i 0, .sl []], .agg [.i 3, .i 4, .sl []]]]], .sl [], .sl []], .i 0]):=aY.eY mix eZ OZ
end Go.Proofs.YtlhemmpklhhgoaaGreat
end
section
namespace Go.Proofs.YtlhemmpklhhgoaaGreat
open Go
theorem O0:lM Tryz.prog bu y0 5000 16 [.agg [zC,zF, .sl [.agg [.i 2, .i 1, .i 0, .sl []], .agg [.i 1, .i 3, .i 5, .sl [.agg [.i 1, .i 0, .sl []], .agg [.i 3, .i 4, .sl []]]]], .sl [], .sl []], .agg [.i 3, .i 3, .sl [.agg [.i 1, .i 3, .sl []]]], .agg [.i 1, .i 2, .sl []]]=some (.ret [.agg [zC,zF, .sl [.agg [.i 2, .i 1, .i 0, .sl []], .agg [.i 1, .i 3, .i 5, .sl [.agg [.i 1, .i 0, .sl []], .agg [.i 3, .i 4, .sl []]]]], .sl [.agg [.i 3, .i 3, .sl [.agg [.i 1, .i 3, .sl []]], .i 1, .i 2, .sl []]], .sl []], .i 0]):=ae
theorem ZN:aY Tryz.prog 16 [.agg [zC,zF, .sl [.agg [.i 2, .i 1, .i 0, .sl []], .agg [.i 1, .i 3, .i 5, .sl [.agg [.i 1, .i 0, .sl []], .agg [.i 3, .i 4, .sl []]]]], .sl [], .sl []], .agg [.i 3, .i 3, .sl [.agg [.i 1, .i 3, .sl []]]], .agg [.i 1, .i 2, .sl []]] (.ret [.agg [zC,zF, .sl [.agg [.i 2, .i 1, .i 0, .sl []], .agg [.i 1, .i 3, .i 5, .sl [.agg [.i 1, .i 0, .sl []], .agg [.i 3, .i 4, .sl []]]]], .sl [.agg [.i 3, .i 3, .sl [.agg [.i 1, .i 3, .sl []]], .i 1, .i 2, .sl []]], .sl []], .i 0]):=aY.eY mix eZ O0
end Go.Proofs.YtlhemmpklhhgoaaGreat
end
section
namespace Go.Proofs.YtlhemmpklhhgoaaGreat
open Go
theorem O2:lM Tryz.prog bu y0 5000 15 [.agg [zC,zF, .sl [.agg [.i 2, .i 1, .i 0, .sl []], .agg [.i 1, .i 3, .i 5, .sl [.agg [.i 1, .i 0, .sl []], .agg [.i 3, .i 4, .sl []]]]], .sl [.agg [.i 3, .i 3, .sl [.agg [.i 1, .i 3, .sl []]], .i 1, .i 2, .sl []]], .sl []], .agg [.i 1, .i 0, .sl []], .agg [.i 3, .i 3, .sl [.agg [.i 1, .i 3, .sl []]]]]=some (.ret [.agg [.sl [], .sl [], .sl [], .sl [], .sl []], .i 5]):=ae
theorem ZO:aY Tryz.prog 15 [.agg [zC,zF, .sl [.agg [.i 2, .i 1, .i 0, .sl []], .agg [.i 1, .i 3, .i 5, .sl [.agg [.i 1, .i 0, .sl []], .agg [.i 3, .i 4, .sl []]]]], .sl [.agg [.i 3, .i 3, .sl [.agg [.i 1, .i 3, .sl []]], .i 1, .i 2, .sl []]], .sl []], .agg [.i 1, .i 0, .sl []], .agg [.i 3, .i 3, .sl [.agg [.i 1, .i 3, .sl []]]]] (.ret [.agg [.sl [], .sl [], .sl [], .sl [], .sl []], .i 5]):=aY.eY mix eZ O2
end Go.Proofs.YtlhemmpklhhgoaaGreat
end
section
namespace Go.Proofs.YtlhemmpklhhgoaaGreat
open Go
theorem O4:lM Tryz.prog bu y0 5000 24 [.agg [zC,zF, .sl [.agg [.i 2, .i 1, .i 0, .sl []], .agg [.i 1, .i 3, .i 5, .sl [.agg [.i 1, .i 0, .sl []], .agg [.i 3, .i 4, .sl []]]]], .sl [.agg [.i 3, .i 3, .sl [.agg [.i 1, .i 3, .sl []]], .i 1, .i 2, .sl []]], .sl []]]=some (.ret [.agg [.sl [.agg [.i 1, .i 3, .i 5, .sl [.agg [.i 1, .i 0, .sl []], .agg [.i 3, .i 4, .sl []]]], .agg [.i 2, .i 1, .i 0, .sl []]], .sl [.sl [.agg [.i 0, .i 3, .i 3, .sl [.agg [.i 1, .i 3, .sl []]]]]]], .i 0]):=ae
theorem ZP:aY Tryz.prog 24 [.agg [zC,zF, .sl [.agg [.i 2, .i 1, .i 0, .sl []], .agg [.i 1, .i 3, .i 5, .sl [.agg [.i 1, .i 0, .sl []], .agg [.i 3, .i 4, .sl []]]]], .sl [.agg [.i 3, .i 3, .sl [.agg [.i 1, .i 3, .sl []]], .i 1, .i 2, .sl []]], .sl []]] (.ret [.agg [.sl [.agg [.i 1, .i 3, .i 5, .sl [.agg [.i 1, .i 0, .sl []], .agg [.i 3, .i 4, .sl []]]], .agg [.i 2, .i 1, .i 0, .sl []]], .sl [.sl [.agg [.i 0, .i 3, .i 3, .sl [.agg [.i 1, .i 3, .sl []]]]]]], .i 0]):=aY.eY mix eZ O4
end Go.Proofs.YtlhemmpklhhgoaaGreat
end
section
namespace Go.Proofs.YtlhemmpklhhgoaaGreat
open Go
theorem O5:lM Tryz.prog bu y0 5000 35 [.agg [zC,zF, .sl [.agg [.i 2, .i 1, .i 0, .sl []], .agg [.i 1, .i 3, .i 5, .sl [.agg [.i 1, .i 0, .sl []], .agg [.i 3, .i 4, .sl []]]]], .sl [.agg [.i 3, .i 3, .sl [.agg [.i 1, .i 3, .sl []]], .i 1, .i 2, .sl []]], .sl []], .agg [.i 1, .i 0, .sl []], .agg [.i 3, .i 3, .sl [.agg [.i 3, .i 2, .sl []]]]]=some (.ret [.i 3, .i 0]):=ae
theorem ZQ:aY Tryz.prog 35 [.agg [zC,zF, .sl [.agg [.i 2, .i 1, .i 0, .sl []], .agg [.i 1, .i 3, .i 5, .sl [.agg [.i 1, .i 0, .sl []], .agg [.i 3, .i 4, .sl []]]]], .sl [.agg [.i 3, .i 3, .sl [.agg [.i 1, .i 3, .sl []]], .i 1, .i 2, .sl []]], .sl []], .agg [.i 1, .i 0, .sl []], .agg [.i 3, .i 3, .sl [.agg [.i 3, .i 2, .sl []]]]] (.ret [.i 3, .i 0]):=aY.eY mix eZ O5
end Go.Proofs.YtlhemmpklhhgoaaGreat
end
section
namespace Go.Proofs.YtlhemmpklhhgoaaGreat
open Go
def V3:nJ Tryz.prog:=nJ.of OX [(15,[.agg [zC,zF, .sl [], .sl [], .sl []], .agg [.i 3, .i 5, .sl [.agg [.i 1, .i 0, .sl []], .agg [.i 1, .i 1, .sl []]]], .agg [.i 3, .i 5, .sl [.agg [.i 1, .i 2, .sl []], .agg [.i 3, .i 5, .sl [.agg [.i 1, .i 0, .sl []], .agg [.i 3, .i 4, .sl []]]]]]], .ret [.agg [zC,zF, .sl [.agg [.i 2, .i 1, .i 0, .sl []], .agg [.i 1, .i 3, .i 5, .sl [.agg [.i 1, .i 0, .sl []], .agg [.i 3, .i 4, .sl []]]]], .sl [], .sl []], .i 0]),(16,[.agg [zC,zF, .sl [.agg [.i 2, .i 1, .i 0, .sl []], .agg [.i 1, .i 3, .i 5, .sl [.agg [.i 1, .i 0, .sl []], .agg [.i 3, .i 4, .sl []]]]], .sl [], .sl []], .agg [.i 3, .i 3, .sl [.agg [.i 1, .i 3, .sl []]]], .agg [.i 1, .i 2, .sl []]], .ret [.agg [zC,zF, .sl [.agg [.i 2, .i 1, .i 0, .sl []], .agg [.i 1, .i 3, .i 5, .sl [.agg [.i 1, .i 0, .sl []], .agg [.i 3, .i 4, .sl []]]]], .sl [.agg [.i 3, .i 3, .sl [.agg [.i 1, .i 3, .sl []]], .i 1, .i 2, .sl []]], .sl []], .i 0]),(15,[.agg [zC,zF, .sl [.agg [.i 2, .i 1, .i 0, .sl []], .agg [.i 1, .i 3, .i 5, .sl [.agg [.i 1, .i 0, .sl []], .agg [.i 3, .i 4, .sl []]]]], .sl [.agg [.i 3, .i 3, .sl [.agg [.i 1, .i 3, .sl []]], .i 1, .i 2, .sl []]], .sl []], .agg [.i 1, .i 0, .sl []], .agg [.i 3, .i 3, .sl [.agg [.i 1, .i 3, .sl []]]]], .ret [.agg [.sl [], .sl [], .sl [], .sl [], .sl []], .i 5]),(24,[.agg [zC,zF, .sl [.agg [.i 2, .i 1, .i 0, .sl []], .agg [.i 1, .i 3, .i 5, .sl [.agg [.i 1, .i 0, .sl []], .agg [.i 3, .i 4, .sl []]]]], .sl [.agg [.i 3, .i 3, .sl [.agg [.i 1, .i 3, .sl []]], .i 1, .i 2, .sl []]], .sl []]], .ret [.agg [.sl [.agg [.i 1, .i 3, .i 5, .sl [.agg [.i 1, .i 0, .sl []], .agg [.i 3, .i 4, .sl []]]], .agg [.i 2, .i 1, .i 0, .sl []]], .sl [.sl [.agg [.i 0, .i 3, .i 3, .sl [.agg [.i 1, .i 3, .sl []]]]]]], .i 0]),(35,[.agg [zC,zF, .sl [.agg [.i 2, .i 1, .i 0, .sl []], .agg [.i 1, .i 3, .i 5, .sl [.agg [.i 1, .i 0, .sl []], .agg [.i 3, .i 4, .sl []]]]], .sl [.agg [.i 3, .i 3, .sl [.agg [.i 1, .i 3, .sl []]], .i 1, .i 2, .sl []]], .sl []], .agg [.i 1, .i 0, .sl []], .agg [.i 3, .i 3, .sl [.agg [.i 3, .i 2, .sl []]]]], .ret [.i 3, .i 0])] (fun x h=>by
 simp only[List.mem_cons,List.not_mem_nil,or_false]at h
 rcases h with rfl|rfl|rfl|rfl|rfl
 ·exact ZM
 ·exact ZN
 ·exact ZO
 ·exact ZP
 ·exact ZQ)
theorem y9:lM Tryz.prog bu V3 5000 14 []=some (.ret [.bool true]):=ae
theorem Jh:aY Tryz.prog 14 [] (.ret [.bool true]):=aY.eY mix eZ y9
end Go.Proofs.YtlhemmpklhhgoaaGreat
end
section
namespace Go.Proofs.YtlhemmpklhhgoaaGreat
open Go.ChangeShapes Go.WideShapes Go.RowKit
set_option maxRecDepth 100000 in
theorem mN(os:Os)(started:os.Started)(H:Type)(enc:TypeId×Value->H):
 ReturnsInHanded {} Tryz.checked os 7 .any (Rows.equalChecksSpec.pre6 enc Tryz.prog Tryz.f7 Rows.equalChecksRow.domain false) (Rows.equalChecksSpec.post enc Tryz.prog Tryz.f7 Rows.equalChecksRow.apart Rows.equalChecksRow.fresh Rows.equalChecksRow.handsOn Rows.equalChecksRow.again):=by
 refine returnsInHanded_of_change (C:=Tryz.checked) ae started ae Tryz.func7
  (ChangeSpec.witness6 (enc:=enc) (C:=Tryz.checked) false ⟨#[],#[.agg #[.slice none 0 0, .slice none 0 0, .slice none 0 0, .slice none 0 0, .slice none 0 0]],[]⟩ 8 ae ae ae ae) ?_
 intro W base args ds gs before eI hW _ _
 refine wz (T:=[29,24,22,124,9,3,25,59,31,33,30,26,101,27,77]) (tb:=4) ae ae rfl (fun ds h=>by match ds,h with|[_],_=>rfl) ae (by intro t ht;rw[Tryz.params7]at ht;simp at ht;subst ht;simp) ae (by intro t ht;rw[Tryz.params7]at ht;simp at ht;subst ht;exact⟨ae,of_decide_eq_true ae⟩)
  (fun xs hx=> ?_) base args ds gs before eI hW
 rw[Tryz.params7]at hx
 obtain⟨x0,xs,rfl,Xp,hx⟩:=aS hx
 have:=fI hx;subst this
 obtain⟨q0,rfl,ZF⟩:=VV Xp
 exact te Jh q0 ZF
theorem equalChecks_holds:Rows.EqualChecksSaid:=
 OpenClaim.holds_of_wide 7 Tryz.f7 rfl rfl rfl rfl rfl rfl rfl ⟨rfl,rfl,rfl,rfl,rfl⟩ rfl rfl rfl rfl rfl ae Tryz.func7 ae
  (of_decide_eq_true ae) (by unfold Func.isWrapper;first|(rw[if_pos (by decide+kernel)];kernel_rfl)|(rw[if_neg (by decide+kernel)];exact⟨rfl,rfl⟩))
  (fun os started H enc _=>mN os started H enc)
end Go.Proofs.YtlhemmpklhhgoaaGreat
end
