/-
  A PART OF THE PROOF. Conditions: none.
-/
import Derived.Test.YtonbelhklnmjnaaGreatLp18
set_option linter.unusedSimpArgs false
set_option linter.unusedVariables false
namespace Go.Proofs.YtonbelhklnmjnaaGreat
theorem NK(l:List Int)(n:Int)(hl:l.length<=1000000):aR Tryz.prog 198 [.sl (l.map .i), .i n] (.ret [.bool (l.contains n)]):=by
 refine aR.az mix aee ao ?_
 rw[aed]
 refine aS ?_
 refine aF (fun k:Nat=>⟨bp [.d (.sl (l.map .i)), .d (.i n), .aa, .aa, .aa, .d (.i k)],fun _=> .no,0⟩)
  (fun k=>k<=l.length/\(l.take k).contains n=false) (fun k=>l.length - k) 0 ⟨Nat.zero_le _,ao⟩ (bJ.d0 _ ?_) (fun k hk=> ?_)
 ·exact cY
 refine aS ?_
 refine aj (fun h2=> ?_) (fun h2=> ?_)
 ·simp at h2
  obtain⟨x,hx⟩:=aq h2
  refine dc hx ?_
  refine aj (fun h3=> ?_) (fun h3=> ?_)
  ·refine aS ?_
   have:l.contains n=true:=by
    rw[List.contains_iff_mem, <- (by simpa using h3:x=n)];exact List.mem_of_getElem? hx
   rw[this]
  ·refine aS ?_
   refine au (k+1) ⟨h2, ?_⟩ ah (bJ.d0 _ ?_)
   ·have h4: ¬n=x:=fun e=>by subst e;simp at h3
    have h5:=hk.2
    rw[List.take_add_one,hx]
    rw[Bool.eq_false_iff]at h5|-
    intro hc;apply h5
    rw[List.contains_iff_mem]at hc|-
    rcases List.mem_append.1 hc with hc|hc
    ·exact hc
    ·simp at hc;exact absurd hc h4
   ·exact cY
 ·simp at h2
  refine aS ?_
  have:=hk.2
  rw[List.take_of_length_le (by omega)]at this
  rw[this]
theorem wy:∀ (l:List Int) (n:Int),∃k,k<=l.length/\(∀x∈l.take k,x<n)/\(∀x,l[k]? =some x-> ¬x<n)/\kI l n=if l[k]? =some n then l else l.take k++n::l.drop k
 |[],n=>⟨0,Nat.zero_le _,ao,ao,by simp[kI]⟩
 |x::l,n=>by
  obtain⟨k,h1,h2,h3,h4⟩:=wy l n
  by_cases hx:x<n
  ·refine⟨k+1,by simp;omega, ?_,by simpa using h3, ?_⟩
   ·intro y hy
    simp only[List.take_succ_cons,List.mem_cons]at hy
    rcases hy with rfl|hy
    ·exact hx
    ·exact h2 y hy
   ·simp only[kI,if_pos hx,h4,List.getElem?_cons_succ,List.take_succ_cons,List.drop_succ_cons]
    split<;>simp
  ·refine⟨0,Nat.zero_le _,ao,by simpa using hx, ?_⟩
   simp only[kI,if_neg hx]
   by_cases e:x=n
   ·subst e;simp
   ·simp[e]
theorem K9(l:List Int)(n:Int)(hl:l.length<=1000000):aR Tryz.prog 103 [.sl (l.map .i), .i n] (.ret [.sl ((kI l n).map .i)]):=by
 obtain⟨j,j1,j2,j3,j4⟩:=wy l n
 have tk:∀ (i:Nat) (l:List Int),List.take i (l.map D.i)=(l.take i).map D.i:=fun i l=>List.map_take.symm
 have dr:∀ (i:Nat) (l:List Int),List.drop i (l.map D.i)=(l.drop i).map D.i:=fun i l=>List.map_drop.symm
 have ap:∀ (a b:List Int),a.map D.i++[D.i n]++b.map D.i=(a++n::b).map D.i:=fun a b=>ao
 refine aR.az mix adx ao ?_
 rw[adw]
 refine aS ?_
 refine aF (fun k:Nat=>⟨bp [.d (.sl (l.map .i)), .d (.i n), .aa, .aa, .aa, .d (.i k)],fun _=> .no,0⟩)
  (fun k=>k<=j) (fun k=>l.length - k) 0 (Nat.zero_le _) (bJ.d0 _ ?_) (fun k hk=> ?_)
 ·exact cY
 by_cases hkj:k=j
 ·subst hkj
  by_cases h5:k<l.length
  ·obtain⟨x,hx⟩:=aq h5
   have h6:=j3 x hx
   have Bs:(k:Int)<l.length:=ah
   refine zG hx Bs h6 ?_
   refine aj (fun h3=> ?_) (fun h3=> ?_)
   ·refine aS ?_
    have e:x=n:=by simpa using h3
    rw[j4,if_pos (by rw[hx,e])]
   ·have e: ¬x=n:=by simpa using h3
    rw[j4,if_neg (by rw[hx];simpa using e)]
    simp+contextual (disch:=first|omega|simp only[go_sem,false_implies]) only[go_sem,wrap64,if_pos,hx,Bs,h6,tk,dr,List.take_length,List.length_map,List.length_take,List.length_drop,List.length_append,List.length_cons,List.length_nil]
    rw[ap]
    exact V7
  ·have Bs: ¬ (k:Int)<l.length:=ah
   have hx:l[k]? =none:=by simp;omega
   rw[j4,if_neg (by rw[hx];simp)]
   simp+contextual (disch:=first|omega|simp only[go_sem,false_implies]) only[go_sem,wrap64,if_pos,Bs,tk,dr,List.take_length,List.length_map,List.length_take,List.length_drop,List.length_append,List.length_cons,List.length_nil]
   rw[ap]
   exact V7
 ·have cM:k<l.length:=ah
  obtain⟨x,hx⟩:=aq cM
  have Bs:(k:Int)<l.length:=ah
  have h6:x<n:=j2 x (List.mem_of_getElem? (i:=k) (by rw[List.getElem?_take_of_lt (by omega)];exact hx))
  refine zG hx Bs h6 ?_
  refine au (k+1) ah ah (bJ.d0 _ ?_)
  exact cY
theorem rM{op n:Int}{i:Nat}{l:List Int}{k:Nat}{v:Int}(h:l[k]? =some v)(out:List Int):mG op n i (l.take (k+1)) out=if(op !=8||(i:Int)!=1||v !=n)=true then kI (mG op n i (l.take k) out) v else mG op n i (l.take k) out:=by
 unfold mG
 rw[List.take_add_one,h,List.foldl_append]
 rfl
theorem uG:∀t:Tm,t.yU->aR Tryz.prog 61 [t.d] (.ret [.sl ((bM t).map .i)]):=by
 refine Tm.bW fun t ih ht=> ?_
 have dR:=(Tm.aH _).1 ht.fits
 refine aR.az mix agv ao ?_
 rw[c61]
 by_cases h1:t.op=1
 ·refine dc h1 ?_
  rw[n6,if_pos h1]
  rfl
 ·have cH:(t.op==1)=false:=by simpa using h1
  refine dc cH ?_
  rw[n6,if_neg h1]
  refine aF (fun i:Nat×List Int=>⟨bp [.aa, .ptr 0 0, .aa, .d (.sl (i.2.map .i)), .d (.i i.1)],e8 t.row,1⟩)
   (fun i=>i.1<=t.kids.length/\jM t.op t.n t.kids 0 []=jM t.op t.n (t.kids.drop i.1) i.1 i.2/\i.2.length<=fR (t.kids.take i.1)) (fun i=>t.kids.length - i.1) (0,[]) ⟨Nat.zero_le _,rfl,Nat.zero_le _⟩
   (bJ.aeo (fun _=>False) 1 _ ah (lt1 (cn rfl mS)) (fun j hj=>ak _ _ _ _ ah) (fun _ h=>h.elim) ?_) ?_
  ·try dsimp only
   exact ud
  rintro⟨k,out⟩ ⟨hk,hv,hlen⟩
  simp only at hk hv hlen
  refine aS ?_
  refine aj (fun h2=> ?_) (fun h2=> ?_)
  ·simp at h2
   obtain⟨x,hx⟩:=aq h2
   have cz:=List.mem_of_getElem? hx
   have eu:fR (t.kids.take (k+1))=fR (t.kids.take k)+x.sz:=by
    rw[List.take_add_one,hx];simp[fR]
   have hle:fR (t.kids.take (k+1))<=fR t.kids:=by
    have:fR t.kids=fR (t.kids.take (k+1))+fR (t.kids.drop (k+1)):=by
     conv=>lhs;rw[<- List.take_append_drop (k+1) t.kids]
     exact KA
    omega
   have s5:fR t.kids<=1000000:=by have:=ht.size;rw[Tm.l0,Tm.ig]at this;omega
   have WA:=jk x
   have hdr:t.kids.drop k=x::t.kids.drop (k+1):=by
    exact Lk
   refine dc hx ?_
   refine aP (ih x cz (ht.kH cz)) ?_
   refine dc hx ?_
   refine aF (fun j:Nat=>⟨bp [.aa, .ptr 0 0, .aa, .d (.sl ((mG t.op t.n k ((bM x).take j) out).map .i)), .d (.i k), .d (.sl ((bM x).map .i)), .d (.i j)],e8 t.row,1⟩)
    (fun j=>j<=(bM x).length) (fun j=>(bM x).length - j) 0 (Nat.zero_le _) (bJ.d1 _ (aV rfl) ah rfl ?_) (fun j hj=> ?_)
   ·exact cY
   refine aS ?_
   refine aj (fun h3=> ?_) (fun h3=> ?_)
   ·simp at h3
    obtain⟨v,OE⟩:=aq h3
    have rI:=n7 t.op t.n k ((bM x).take j) out
    have htl:((bM x).take j).length<=(bM x).length:=by rw[List.length_take];omega
    cases b1:(t.op !=8)with
    |true=>
     have hc:(t.op !=8||(k:Int)!=1||v !=t.n)=true:=by rw[b1];rfl
     refine xB OE b1 ?_
     exact abK
    |false=>
     cases b2:((k:Int)!=1)with
     |true=>
      have hc:(t.op !=8||(k:Int)!=1||v !=t.n)=true:=by rw[b1,b2];rfl
      refine zG OE b1 b2 ?_
      exact abK
     |false=>
      refine zG OE b1 b2 ?_
      refine aD bE ?_
      refine dc OE ?_
      refine aj (fun h4=> ?_) (fun h4=> ?_)
      ·have hc:(t.op !=8||(k:Int)!=1||v !=t.n)=true:=by rw[h4];simp
       refine dc OE ?_
       refine aP (K9 _ v ah) ?_
       refine aS ?_
       refine au (j+1) h3 ah (bJ.d1 _ (aV rfl) ah rfl ?_)
       rw[rM OE,if_pos hc]
       exact cY
      ·have hc: ¬ (t.op !=8||(k:Int)!=1||v !=t.n)=true:=by rw[b1,b2,h4];simp
       refine dc OE ?_
       refine au (j+1) h3 ah (bJ.d1 _ (aV rfl) ah rfl ?_)
       rw[rM OE,if_neg hc]
       exact cY
   ·simp at h3
    refine aS ?_
    rw[List.take_of_length_le (by omega)]
    refine au (k+1,mG t.op t.n k (bM x) out) ⟨h2,by rw[hv,hdr];rfl, ?_⟩ oN (bJ.d1 _ (aV rfl) ah rfl ?_)
    ·dsimp only
     have:=n7 t.op t.n k (bM x) out
     omega
    ·exact cY
  ·simp at h2
   refine aS ?_
   rw[hv,List.drop_eq_nil_of_le (by omega)]
   rfl
theorem QV:∀t:Tm,t.fits->aR Tryz.prog 195 [t.d] (.ret [.bool (gV t)]):=by
 refine Tm.bW fun t ih hf=> ?_
 have dR:=(Tm.aH _).1 hf
 refine aR.az mix ad9 ao ?_
 rw[ad8,zi]
 refine aS ?_
 refine aF (fun k:Nat=>⟨bp [.aa, .ptr 0 0, .aa, .d (.i k)],e8 t.row,1⟩)
  (fun k=>k<=t.kids.length/\(t.kids.take k).all gV=true) (fun k=>t.kids.length - k) 0 ⟨Nat.zero_le _,ao⟩ (bJ.d1 _ (aV rfl) ah rfl ?_) (fun k hk=> ?_)
 ·exact cY
 refine aS ?_
 refine aj (fun h2=> ?_) (fun h2=> ?_)
 ·simp at h2
  obtain⟨x,hx⟩:=aq h2
  have cz:=List.mem_of_getElem? hx
  refine dc hx ?_
  refine ai (ih x cz (dR.2 x cz)) rfl ?_
  refine aS ?_
  refine aj (fun h3=> ?_) (fun h3=> ?_)
  ·refine aS ?_
   simp at h3
   exact F8
  ·exact R1
 ·refine aS ?_
  simp at h2
  rw[cJ hk.2 h2];rfl
theorem ZR:∀t:Tm,t.yU->∀b:List Int,b.length+t.sz<=1000000->aR Tryz.prog 194 [t.d, .sl (b.map .i)] (.ret [.sl ((gz t b).1.map .i), .bool (gz t b).2]):=by
 refine Tm.bW fun t ih ht b hb=> ?_
 have dR:=(Tm.aH _).1 ht.fits
 refine aR.az mix ad7 ao ?_
 rw[ad6]
 by_cases h1:t.op=1
 ·rw[re,if_pos h1]
  refine dc h1 ?_
  refine ba (K9 _ _ ah) ?_
  refine aS ?_
  refine aw (NK _ _ ah) rfl ?_
  exact zw9
 ·have cH:(t.op==1)=false:=by simpa using h1
  rw[re,if_neg h1]
  refine dc cH ?_
  refine aF (fun i:Nat×List Int×Bool=>⟨bp [.aa, .d (.sl (i.2.1.map .i)), .ptr 0 0, .aa, .aa, .aa, .d (.bool i.2.2), .d (.i i.1)],e8 t.row,1⟩)
   (fun i=>i.1<=t.kids.length/\gW t.kids b=(if i.2.2=true then gW (t.kids.drop i.1) i.2.1 else(i.2.1,false))/\i.2.1.length<=b.length+fR (t.kids.take i.1)) (fun i=>t.kids.length - i.1) (0,b,true) ⟨Nat.zero_le _,rfl,Nat.le_add_right _ _⟩ (bJ.d1 _ (aV rfl) ah rfl ?_) ?_
  ·dsimp only
   exact cY
  rintro⟨k,b',is⟩ ⟨hk,hv,hlen⟩
  simp only at hk hv hlen
  have s5:=Tm.ig t
  have fin:is=false\/t.kids.length<=k->gW t.kids b=(b',is):=by
   intro h
   cases is with
   |false=>rw[hv];rfl
   |true=>
    have h:t.kids.length<=k:=by simpa using h
    rw[hv,List.drop_eq_nil_of_le h];rfl
  refine aS ?_
  cases is with
  |false=>
   refine aS ?_
   rw[fin (.inl rfl)]
  |true=>
   refine aS ?_
   refine aj (fun h2=> ?_) (fun h2=> ?_)
   ·simp at h2
    obtain⟨x,hx⟩:=aq h2
    have cz:=List.mem_of_getElem? hx
    have eu:fR (t.kids.take (k+1))=fR (t.kids.take k)+x.sz:=by
     rw[List.take_add_one,hx];simp[fR]
    have hle:fR t.kids=fR (t.kids.take (k+1))+fR (t.kids.drop (k+1)):=by
     conv=>lhs;rw[<- List.take_append_drop (k+1) t.kids]
     exact KA
    have hdr:t.kids.drop k=x::t.kids.drop (k+1):=by
     exact Lk
    refine dc hx ?_
    refine aP (ih x cz (ht.kH cz) b' ah) ?_
    refine aS ?_
    refine au (k+1,(gz x b').1,(gz x b').2) ⟨h2, ?_, ?_⟩ oN (bJ.d1 _ (aV rfl) ah rfl ?_)
    ·dsimp only
     rw[hv,if_pos rfl,hdr]
     simp only[gW]
    ·dsimp only
     have:=Ju x b'
     omega
    ·exact cY
   ·simp at h2
    refine aS ?_
    rw[fin (.inr h2)]
theorem Jy(t:Tm)(ht:t.yU):aR Tryz.prog 137 [t.d] (.ret [.bool ((gz t []).2&&gV t)]):=by
 have ho:=ZR t ht [] (by have:=ht.size;rw[Tm.l0]at this;simp;omega)
 simp only[List.map_nil]at ho
 refine aR.az mix adR ao ?_
 rw[adQ]
 refine aS ?_
 refine aP ho ?_
 refine aS ?_
 refine gR (fC [.bool (gV t)] ?_ ?_)
 ·refine aS ?_
  exact fun _=>QV t ht.fits
 exact gK
def IC.snd:IC->IC
 | .seq _ y=>y
 |c=>c
def IC.fst:IC->IC
 | .seq x _=>x
 | .block _ x=>x
 | .loop x=>x
 | .cond _ x _=>x
 |c=>c
theorem gC{c:Nat}{G:List Gr}{so:Nat->ab}{gone:Nat->Prop}{x x' y y':ab}(h:x=y)(h':x'=y')(hs:xm c G so gone y y'):xm c G so gone x x':=by rw[h,h'];exact hs
theorem jq{l:List Tm}{k:Tm}(h:k∈l):k.sz<=fR l:=by
 induction l with
 |nil=>cases h
 |cons x l ih=>
  rw[db]
  rcases List.mem_cons.1 h with e|e
  ·subst e;omega
  ·have:=ih e;omega
theorem ZS:∀t:Tm,t.iN<=t.sz:=by
 refine Tm.bW fun t ih=> ?_
 rw[Tm.vX,Tm.ig]
 have:=(ux t.kids (fR t.kids)).2 fun k hk=>Nat.le_trans (ih k hk) (jq hk)
 omega
theorem Tm.yU.FM {t:Tm}(hf:t.fits)(h:t.sz<=900000):t.yU:=⟨⟨hf,Nat.le_trans (ZS t) h⟩,by rw[Tm.l0];omega⟩
theorem wz(l:List Tm)(h:∀k∈l,(cI k).length<=k.sz):(bH l).length<=fR l:=by
 induction l with
 |nil=>simp[bH]
 |cons k l ih=>
  rw[bH,List.length_append,db]
  have:=h k ao
  have:=ih fun x hx=>h x lJ
  omega
theorem sN:∀t:Tm,(cI t).length<=t.sz:=by
 refine Tm.bW fun t ih=> ?_
 have:=wz t.kids ih
 rw[jl,List.length_append,Tm.ig]
 split<;>simp<;>omega
theorem xz(a b:List Tm):bH (a++b)=bH a++bH b:=by
 induction a with
 |nil=>simp[bH]
 |cons k a ih=>simp[bH,ih]
def NL:IC:=Qr.snd.snd.snd.fst.snd.fst.fst
theorem wA{t:Tm}(hf:t.fits)(hz:t.sz<=1000000)(ih:∀k∈t.kids,k.fits->k.sz<=1000000->aR Tryz.prog 196 [k.d] (.ret [.sl ((cI k).map .i)]))(p:List Int)(hp:p.length<=1){e:Nat->V}{o:Nat->ab}{nx:Nat}{Q:fX->S->Prop}
 (hs:bJ 0 ⟨e,o,nx⟩ ⟨bp [.aa, .ptr 0 0, .aa, .osl 1 0, .d (.i 0)],aK (aK (fun _=> .no) 0 (.row t.row)) 1 (.arr 0 3 1 (p.map .i)),2⟩)
 (hQ:∀e' n',e' 3= .osl 1 0->Q (.exit 0) ⟨e',aK (aK (fun _=> .no) 0 (.row t.row)) 1 (.arr 0 3 1 ((p++bH t.kids).map .i)),n'⟩):
 vz 0 (fun Q s=>lj Tryz.prog 29 0 false NL Q s) Q ⟨e,o,nx⟩:=by
 have dR:=(Tm.aH _).1 hf
 have s5:=Tm.ig t
 refine aF (fun i:Nat=>⟨bp [.aa, .ptr 0 0, .aa, .osl 1 0, .d (.i i)],aK (aK (fun _=> .no) 0 (.row t.row)) 1 (.arr 0 3 1 ((p++bH (t.kids.take i)).map .i)),2⟩)
  (fun i=>i<=t.kids.length) (fun i=>t.kids.length - i) 0 (Nat.zero_le _) ?_ fun k hk=> ?_
 ·simpa[bH]using hs
 replace hk:k<=t.kids.length:=hk
 simp only[NL,Qr,IC.snd,IC.fst]
 refine gD ?_
 refine aj (fun h2=> ?_) (fun h2=> ?_)
 ·simp at h2
  obtain⟨x,hx⟩:=aq h2
  have cz:=List.mem_of_getElem? hx
  have sS:t.kids.take (k+1)=t.kids.take k++[x]:=by rw[List.take_add_one,hx];rfl
  have x8:(bH (t.kids.take k)).length<=fR (t.kids.take k):=wz _ fun y _=>sN y
  have eu:fR t.kids=fR (t.kids.take k)+fR (t.kids.drop k):=by
   conv=>lhs;rw[<- List.take_append_drop k t.kids]
   exact KA
  have Ea:=jq cz
  have BI:=sN x
  have hl3:(p++bH (t.kids.take k)).length<=1000001:=by rw[List.length_append];omega
  refine et hx ?_
  refine aP (ih x cz (dR.2 x cz) ah) ?_
  refine et hx ?_
  refine au (k+1) h2 ah (bJ.oP (fun j=>j=1) (.osl 1 1) 1 _ ah (lt1 (gC (y:= .row t.row) dU dU (cn rfl mS))) (ad _ _ _) (.inr ⟨1,1,rfl,rfl,by(repeat(first|rfl|rw[ad]|rw[ak _ _ _ _ (by omega)]));rw[sS,xz, <- List.append_assoc,List.map_append];simp[bH]⟩) (fun j hj=>by(repeat(first|rfl|rw[ad]|rw[ak _ _ _ _ (by omega)]))) (fun j h h2=>ah) ?_)
  exact ud
 ·simp at h2
  have rI:k=t.kids.length:=ah
  subst rI
  rw[List.take_length]
  refine gD ?_
  exact hQ _ _ rfl
theorem QW:∀t:Tm,t.fits->t.sz<=1000000->aR Tryz.prog 196 [t.d] (.ret [.sl ((cI t).map .i)]):=by
 refine Tm.bW fun t ih hf hz=> ?_
 refine aR.az mix aea ao ?_
 rw[Qr,jl]
 by_cases h8:t.op=8
 ·have Vy:(t.op==8)=true:=by simpa using h8
  refine dc Vy ?_
  rw[if_pos h8]
  refine wA hf hz ih [t.n] ao ?_ fun e' n' he=> ?_
  ·refine bJ.oP (fun j=>1<=j) _ 1 _ ah (lt1 (gC (y:= .row t.row) dU dU (cn rfl mS))) (ad _ _ _) (.inr ⟨_,_, ?_,rfl,by(repeat(first|rfl|rw[ad]|rw[ak _ _ _ _ (by omega)]))⟩) (fun j hj=>by(repeat(first|rfl|rw[ad]|rw[ak _ _ _ _ (by omega)]))) (fun j h h2=>ah) ?_
   ·decide
   ·exact ud
  ·exact aaY
 ·have Vy:(t.op==8)=false:=by simpa using h8
  refine dc Vy ?_
  rw[if_neg h8]
  refine wA hf hz ih [] ao ?_ fun e' n' he=> ?_
  ·refine bJ.oP (fun _=>False) .br 1 _ ah (lt1 (cn rfl mS)) (ad _ _ _) (.inl ⟨rfl,rfl,bE⟩) (fun j hj=>by(repeat(first|rfl|rw[ad]|rw[ak _ _ _ _ (by omega)]))) (fun _ h=>h.elim) ?_
   exact ud
  ·exact aaY
theorem NM(l:List Int)(n:Int)(hl:l.length<=1000000):aR Tryz.prog 197 [.sl (l.map .i), .i n] (.ret [.i (l.count n)]):=by
 refine aR.az mix aec ao ?_
 rw[aeb]
 refine aS ?_
 refine aF (fun k:Nat=>⟨bp [.d (.sl (l.map .i)), .d (.i n), .aa, .aa, .aa, .d (.i ((l.take k).count n)), .d (.i k)],fun _=> .no,0⟩)
  (fun k=>k<=l.length) (fun k=>l.length - k) 0 (Nat.zero_le _) (bJ.d0 _ ?_) (fun k hk=> ?_)
 ·exact cY
 replace hk:k<=l.length:=hk
 have hc:(l.take k).count n<=1000000:=by have:=List.count_le_length (a:=n) (l:=l.take k);rw[List.length_take]at this;omega
 refine gD ?_
 refine aj (fun h2=> ?_) (fun h2=> ?_)
 ·simp at h2
  obtain⟨x,hx⟩:=aq h2
  have sS:(l.take (k+1)).count n=(l.take k).count n+if x=n then 1 else 0:=by rw[List.take_add_one,hx,List.count_append];simp[List.count_singleton]
  refine et hx ?_
  refine aj (fun h3=> ?_) (fun h3=> ?_)
  ·have sb:x=n:=by simpa using h3
   rw[if_pos sb]at sS
   exact Ws
  ·have sb: ¬x=n:=by simpa using h3
   rw[if_neg sb]at sS
   exact Ws
 ·simp at h2
  refine aS ?_
  rw[List.take_of_length_le h2]
theorem tG(n:Int):∀l:List Tm,gy n l=l.all (dz n)
 |[]=>rfl
 |k::l=>by simp[gy,tG n l]
theorem DP(n:Int):∀t:Tm,t.fits->aR Tryz.prog 138 [t.d, .i n] (.ret [.bool (dz n t)]):=by
 refine Tm.bW fun t ih hf=> ?_
 have dR:=(Tm.aH _).1 hf
 refine aR.az mix adT ao ?_
 rw[adS,pU,tG]
 refine aS ?_
 refine aF (fun k:Nat=>⟨bp [.aa, .d (.i n), .ptr 0 0, .aa, .aa, .d (.i k)],e8 t.row,1⟩)
  (fun k=>k<=t.kids.length/\(t.kids.take k).all (dz n)=true) (fun k=>t.kids.length - k) 0 ⟨Nat.zero_le _,ao⟩ (bJ.d1 _ (aV rfl) ah rfl ?_) (fun k hk=> ?_)
 ·exact cY
 refine aS ?_
 refine aj (fun h2=> ?_) (fun h2=> ?_)
 ·simp at h2
  obtain⟨x,hx⟩:=aq h2
  have cz:=List.mem_of_getElem? hx
  refine dc hx ?_
  refine ai (ih x cz (dR.2 x cz)) rfl ?_
  refine aS ?_
  refine aj (fun h3=> ?_) (fun h3=> ?_)
  ·refine aS ?_
   simp at h3
   exact F8
  ·exact R1
 ·simp at h2
  rw[cJ hk.2 h2,Bool.true_and]
  exact gK
theorem rn(l:List Tm):aR Tryz.prog 141 [.sl (l.map Tm.d)] (.ret [(Tm.mk 0 0 l).d]):=by
 refine aR.az mix T9 ao ?_
 rw[Yf,Tm.m9]
 exact gK
structure NN (l:List Tm):Prop where
 len:l.length<=1000
 all:∀t∈l,t.fits/\t.sz<=500
theorem NN.cnt {l:List Tm}(h:NN l){t:Tm}(ht:t∈l):t.yU:=Tm.yU.FM (h.all t ht).1 (by have:=(h.all t ht).2;omega)
theorem NN.fR {l:List Tm}(h:NN l):fR l<=500000:=by
 have:∀l:List Tm,(∀t∈l,t.sz<=500)->Go.Proofs.YtonbelhklnmjnaaGreat.fR l<=500*l.length:=by
  intro l
  induction l with
  |nil=>intro _;simp[Go.Proofs.YtonbelhklnmjnaaGreat.fR]
  |cons k l ih=>intro h;rw[db,List.length_cons];have:=h k ao;have:=ih fun x hx=>h x lJ;omega
 have:=this l fun t ht=>(h.all t ht).2
 have:=h.len
 omega
theorem NN.fits {l:List Tm}(h:NN l):(Tm.mk 0 0 l).fits:=by
 rw[Tm.aH]
 exact⟨by have:=h.len;simp only[Tm.kids];omega,fun k hk=>(h.all k hk).1⟩
theorem NN.whole {l:List Tm}(h:NN l):(Tm.mk 0 0 l).yU:=Tm.yU.FM h.fits (by have:=h.fR;rw[Tm.Vt];omega)
theorem NO(l:List Tm)(h:NN l):aR Tryz.prog 139 [.sl (l.map Tm.d)] (.ret [.bool (DF l)]):=by
 have hlen:=h.len
 refine aR.az mix adV ao ?_
 rw[adU]
 refine aS ?_
 refine aF (fun k:Nat=>⟨bp [.d (.sl (l.map Tm.d)), .aa, .aa, .d (.i (((l.take k).map fun t=>(bM t).length).sum:Nat)), .d (.i k)],fun _=> .no,0⟩)
  (fun k=>k<=l.length) (fun k=>l.length - k) 0 (Nat.zero_le _) (bJ.d0 _ ?_) (fun k hk=> ?_)
 ·exact cY
 replace hk:k<=l.length:=hk
 have hs:((l.take k).map fun t=>(bM t).length).sum<=500000:=by
  have h1:∀m:List Tm,(m.map fun t=>(bM t).length).sum<=Go.Proofs.YtonbelhklnmjnaaGreat.fR m:=by
   intro m
   induction m with
   |nil=>simp[Go.Proofs.YtonbelhklnmjnaaGreat.fR]
   |cons x m ih=>rw[List.map_cons,List.sum_cons,db];have:=jk x;omega
  have h2:Go.Proofs.YtonbelhklnmjnaaGreat.fR l=Go.Proofs.YtonbelhklnmjnaaGreat.fR (l.take k)+Go.Proofs.YtonbelhklnmjnaaGreat.fR (l.drop k):=by
   conv=>lhs;rw[<- List.take_append_drop k l]
   unfold Go.Proofs.YtonbelhklnmjnaaGreat.fR;rw[List.map_append,List.sum_append]
  have:=h1 (l.take k)
  have:=h.fR
  omega
 refine gD ?_
 refine aj (fun h2=> ?_) (fun h2=> ?_)
 ·simp at h2
  obtain⟨x,hx⟩:=aq h2
  have cz:=List.mem_of_getElem? hx
  have hv:=jk x
  have hx5:=(h.all x cz).2
  have sS:((l.take (k+1)).map fun t=>(bM t).length).sum=((l.take k).map fun t=>(bM t).length).sum+(bM x).length:=by rw[List.take_add_one,hx,List.map_append,List.sum_append];simp
  refine et hx ?_
  refine aP (uG x (h.cnt cz)) ?_
  exact Ws
 ·simp at h2
  refine aS ?_
  refine aP (rn l) ?_
  refine aS ?_
  refine aP (uG _ h.whole) ?_
  rw[List.take_of_length_le h2]
  refine gD ?_
  congr 3
  rw[DF,Bool.eq_iff_iff]
  simp
  omega
theorem QX(t:Tm)(ht:t.yU)(p:List Int)(hp:p.length<=1000000):aR Tryz.prog 140 [t.d, .sl (p.map .i)] (.ret [.bool (pW t p)]):=by
 have hz:t.sz<=1000000:=by have:=ht.size;rw[Tm.l0]at this;omega
 have hl:=sN t
 have hv:=jk t
 refine aR.az mix adX ao ?_
 rw[adW]
 refine aS ?_
 refine ba (QW t ht.fits hz) ?_
 refine aS ?_
 refine ba (uG t ht) ?_
 refine aS ?_
 refine aD bE ?_
 refine aS ?_
 let q:Int->Bool:=fun v=> !(decide (1<((cI t).count v:Int))||p.contains v||(bM t).contains v)
 have hq:pW t p=(cI t).all q:=rfl
 rw[hq]
 refine aF (fun k:Nat=>⟨bp [.aa, .d (.sl (p.map .i)), .ptr 0 0, .aa, .aa, .d (.sl ((cI t).map .i)), .d (.sl ((bM t).map .i)), .d (.i k)],e8 t.row,1⟩)
  (fun k=>k<=(cI t).length/\((cI t).take k).all q=true) (fun k=>(cI t).length - k) 0 ⟨Nat.zero_le _,ao⟩ (bJ.d1 _ (aV rfl) ah rfl ?_) (fun k hk=> ?_)
 ·exact cY
 refine gD ?_
 refine aj (fun h2=> ?_) (fun h2=> ?_)
 ·simp at h2
  obtain⟨x,hx⟩:=aq h2
  have hqx:q x= !(decide (1<((cI t).count x:Int))||p.contains x||(bM t).contains x):=rfl
  refine et hx ?_
  refine ai (NM (cI t) x ah) rfl ?_
  cases h3:decide (1<((cI t).count x:Int))with
  |true=>
   refine kS hx h3 ?_
   rw[b7 hx (by rw[hqx,h3];rfl)]
  |false=>
   refine kS hx h3 ?_
   refine ai (NK p x ah) rfl ?_
   cases h4:p.contains x with
   |true=>
    refine kS hx h3 ?_
    rw[b7 hx (by rw[hqx,h3,h4];rfl)]
   |false=>
    refine kS hx h3 ?_
    refine ai (NK (bM t) x ah) rfl ?_
    cases h5:(bM t).contains x with
    |true=>
     refine kS hx h3 ?_
     rw[b7 hx (by rw[hqx,h3,h4,h5];rfl)]
    |false=>
     refine kS hx h3 ?_
     refine au (k+1) ⟨h2,cT hx hk.2 (by rw[hqx,h3,h4,h5];rfl)⟩ ah (bJ.d1 _ (aV rfl) ah rfl ?_)
     exact cY
 ·exact Ga
def zu(s:aO)(n:Int)(p:Tm):Bool:=(ei s p&&((gz p []).2&&gV p))&&dz n p
theorem zw(s:aO)(r:Rl):gh s r=((kJ s r&&ei s r.rhs)&&r.bg.all (zu s r.vars)&&(DF r.bg&&dz r.vars r.rhs&&pW r.rhs (bM (.mk 0 0 r.bg)))):=rfl
set_option maxHeartbeats 1000000 in
theorem ZT(s:aO)(hs:s.Fits)(r:Rl)(hp:NN r.bg)(hf:r.rhs.fits)(hz:r.rhs.sz<=500):aR Tryz.prog 101 [s.d,r.d] (.ret [.bool (gh s r)]):=by
 have xY:=hp.len
 have hlf:=hs.lf
 have hrc:r.rhs.yU:=Tm.yU.FM hf ah
 refine aR.az mix adt ao ?_
 rw[ads]
 have fin:(kJ s r&&ei s r.rhs)=false->gh s r=false:=fun h=>by rw[zw,h];rfl
 refine VG ?_
 refine aw (BJ _ _ _) rfl ?_
 cases f1:cF r.fn 0 ((s.bR.length:Int) - 1)with
 |false=>
  have e:gh s r=false:=fin (by
   have:kJ s r=false:=by
    simp only[cF,Bool.and_eq_false_iff,decide_eq_false_iff_not]at f1
    unfold kJ
    by_cases h:0<=r.fn
    ·rw[List.getElem?_eq_none (by omega:s.bR.length<=r.fn.toNat)];simp
    ·rw[decide_eq_false h];rfl
   rw[this];rfl)
  refine VG ?_
  exact BL
 |true=>
 obtain⟨h0,x,hx⟩:=qc f1
 have DI:kJ s r=((r.bg.length:Int)==x.args&&decide (0<=r.vars)&&decide (r.vars<=20)):=by
  unfold kJ;rw[hx];simp[h0]
 cases f2:((r.bg.length:Int)!=x.args)with
 |true=>
  have e:gh s r=false:=fin (by
   have:((r.bg.length:Int)==x.args)=false:=by simpa using f2
   rw[DI,this];rfl)
  exact Lb
 |false=>
 have Ei:((r.bg.length:Int)==x.args)=true:=by simpa using f2
 refine Ke hx f2 ?_
 refine aw (BJ _ _ _) rfl ?_
 cases f3:cF r.vars 0 20 with
 |false=>
  have e:gh s r=false:=fin (by
   have:(decide (0<=r.vars)&&decide (r.vars<=20))=false:=f3
   rw[DI,Bool.and_assoc ((r.bg.length:Int)==x.args),this];simp)
  exact Lb
 |true=>
 have Hi:(decide (0<=r.vars)&&decide (r.vars<=20))=true:=f3
 refine Ke hx f2 ?_
 refine aw (MR s hs r.rhs hf) rfl ?_
 cases f4:ei s r.rhs with
 |false=>
  have e:gh s r=false:=fin (by rw[f4];simp)
  exact Lb
 |true=>
 have hh:kJ s r=true:=by rw[DI,Ei,Bool.true_and,Hi]
 refine Ke hx f2 ?_
 refine aD (aZ rfl) ?_
 refine aS ?_
 rw[zw,hh,f4,Bool.true_and,Bool.true_and]
 refine aF (fun k:Nat=>⟨bp [.aa, .aa, .ptr 0 0, .ptr 1 0, .aa, .d (.i k)],sx s.row r.row,2⟩)
  (fun k=>k<=r.bg.length/\(r.bg.take k).all (zu s r.vars)=true) (fun k=>r.bg.length - k) 0 ⟨Nat.zero_le _,ao⟩ (bJ.d2 _ (dH rfl rfl) ah rfl rfl ?_) (fun k hk=> ?_)
 ·exact cY
 refine gD ?_
 refine aj (fun h2=> ?_) (fun h2=> ?_)
 ·simp at h2
  obtain⟨y,hy⟩:=aq h2
  have Fl:=List.mem_of_getElem? hy
  have wB:=hp.all y Fl
  refine et hy ?_
  refine aw (MR s hs y wB.1) rfl ?_
  cases g1:ei s y with
  |false=>
   refine et hy ?_
   refine aD (aZ rfl) ?_
   refine aS ?_
   rw[b7 hy (by rw[zu,g1];rfl)];rfl
  |true=>
  refine et hy ?_
  refine aw (Jy y (hp.cnt Fl)) rfl ?_
  cases g2:((gz y []).2&&gV y)with
  |false=>
   refine et hy ?_
   refine aD (aZ rfl) ?_
   refine aS ?_
   rw[b7 hy (by rw[zu,g1,g2];rfl)];rfl
  |true=>
  refine et hy ?_
  refine aw (DP r.vars y wB.1) rfl ?_
  cases g3:dz r.vars y with
  |false=>
   refine et hy ?_
   refine aD (aZ rfl) ?_
   refine aS ?_
   rw[b7 hy (by rw[zu,g1,g2,g3];rfl)];rfl
  |true=>
  refine et hy ?_
  refine aD (aZ rfl) ?_
  refine aS ?_
  refine au (k+1) ⟨h2,cT hy hk.2 (by rw[zu,g1,g2,g3];rfl)⟩ ah (bJ.d2 _ (dH rfl rfl) ah rfl rfl ?_)
  exact cY
 ·simp at h2
  rw[cJ hk.2 h2,Bool.true_and]
  refine gD ?_
  refine aw (NO r.bg hp) rfl ?_
  cases g1:DF r.bg with
  |false=>
   exact Li
  |true=>
  refine gD ?_
  refine aw (DP r.vars r.rhs hf) rfl ?_
  cases g2:dz r.vars r.rhs with
  |false=>
   exact Li
  |true=>
  refine gD ?_
  refine ba (rn r.bg) ?_
  refine gD ?_
  refine ba (uG _ hp.whole) ?_
  refine gD ?_
  refine aw (QX r.rhs hrc _ ?_) rfl ?_
  ·have:=jk (.mk 0 0 r.bg);have:=hp.fR;rw[Tm.Vt]at*;omega
  exact Li
structure Pg.Fw (p:Pg):Prop where
 sig:p.sig.Fits
 len:p.rules.length<=1000
 all:∀r∈p.rules,NN r.bg/\r.rhs.fits/\r.rhs.sz<=500
theorem QY(p:Pg)(hp:p.Fw):aR Tryz.prog 57 [p.d] (.ret [.bool (gk p)]):=by
 have hl:=hp.len
 refine aR.az mix agr ao ?_
 rw[c57,gk]
 refine gD ?_
 refine ai (aer p.sig hp.sig) rfl ?_
 cases h1:kE p.sig with
 |false=>
  exact HO
 |true=>
 cases h2:decide (16<(p.rules.length:Int))with
 |true=>
  have kQ:decide (p.rules.length<=16)=false:=by simp at h2|-;omega
  refine et h2 ?_
  rw[kQ];rfl
 |false=>
 have kQ:decide (p.rules.length<=16)=true:=by simp at h2|-;omega
 refine et h2 ?_
 rw[kQ,Bool.true_and,Bool.true_and]
 refine aF (fun k:Nat=>⟨bp [.aa, .ptr 0 0, .aa, .d (.i k)],e8 p.row,1⟩)
  (fun k=>k<=p.rules.length/\(p.rules.take k).all (gh p.sig)=true) (fun k=>p.rules.length - k) 0 ⟨Nat.zero_le _,ao⟩ (bJ.d1 _ (aV rfl) ah rfl ?_) (fun k hk=> ?_)
 ·exact cY
 refine gD ?_
 refine aj (fun h2=> ?_) (fun h2=> ?_)
 ·simp at h2
  obtain⟨y,hy⟩:=aq h2
  have wB:=hp.all y (List.mem_of_getElem? hy)
  refine et hy ?_
  refine aw (ZT p.sig hp.sig y wB.1 wB.2.1 wB.2.2) rfl ?_
  cases g1:gh p.sig y with
  |false=>
   exact Sv
  |true=>
  refine et hy ?_
  refine aD (aZ rfl) ?_
  refine aS ?_
  refine au (k+1) ⟨h2,cT hy hk.2 g1⟩ ah (bJ.d1 _ (aV rfl) ah rfl ?_)
  exact cY
 ·exact Ga
theorem FN(l:List Tm)(hl:l.length<=9223372036854775807)(hf:∀t∈l,t.fits):aR Tryz.prog 120 [.sl (l.map Tm.d)] (.ret [.bool (eZ l)]):=by
 refine aR.az mix adH ao ?_
 rw[adG]
 refine aS ?_
 refine aF (fun k:Nat=>⟨bp [.d (.sl (l.map Tm.d)), .aa, .aa, .d (.i k)],fun _=> .no,0⟩)
  (fun k=>k<=l.length/\(l.take k).all iE=true) (fun k=>l.length - k) 0 ⟨Nat.zero_le _,ao⟩ (bJ.d0 _ ?_) (fun k hk=> ?_)
 ·exact cY
 refine gD ?_
 refine aj (fun h2=> ?_) (fun h2=> ?_)
 ·simp at h2
  obtain⟨y,hy⟩:=aq (l:=l) (k:=k) ah
  have wB:=hf y (List.mem_of_getElem? hy)
  refine et hy ?_
  refine ai (AR y wB) rfl ?_
  cases g1:iE y with
  |false=>
   refine et hy ?_
   rw[eZ,b7 hy g1,Bool.and_false]
  |true=>
  exact Sp
 ·refine gD ?_
  congr 3
  by_cases h3:l.length<=6
  ·have h4:l.length<=k:=by simp at h2;omega
   rw[eZ,cJ hk.2 h4]
   simp;omega
  ·rw[eZ,decide_eq_false h3]
   simp;omega
theorem Jz(p:Pg)(hp:p.Fits):aR Tryz.prog 76 [p.d] (.ret [.bool (gB p)]):=by
 have hl:=hp.len
 let q:Rl->Bool:=fun r=>eZ r.bg&&iE r.rhs
 have hq:gB p=((jg p.sig&&decide (p.rules.length<=20))&&p.rules.all q):=rfl
 refine aR.az mix agC ao ?_
 rw[c76,hq]
 refine aS ?_
 refine aF (fun k:Nat=>⟨bp [.aa, .ptr 0 0, .aa, .d (.i k)],e8 p.row,1⟩)
  (fun k=>k<=p.rules.length/\(p.rules.take k).all q=true) (fun k=>p.rules.length - k) 0 ⟨Nat.zero_le _,ao⟩ (bJ.d1 _ (aV rfl) ah rfl ?_) (fun k hk=> ?_)
 ·exact cY
 refine gD ?_
 refine aj (fun h2=> ?_) (fun h2=> ?_)
 ·simp at h2
  obtain⟨y,hy⟩:=aq (l:=p.rules) (k:=k) ah
  have wB:=hp.all y (List.mem_of_getElem? hy)
  have hqy:q y=(eZ y.bg&&iE y.rhs):=rfl
  refine et hy ?_
  refine ai (FN y.bg wB.bg wB.all) rfl ?_
  cases g1:eZ y.bg with
  |false=>
   refine et hy ?_
   rw[b7 hy (by rw[hqy,g1];rfl),Bool.and_false]
  |true=>
  refine et hy ?_
  refine ai (AR y.rhs wB.rhs) rfl ?_
  cases g2:iE y.rhs with
  |false=>
   refine et hy ?_
   rw[b7 hy (by rw[hqy,g1,g2];rfl),Bool.and_false]
  |true=>
  refine et hy ?_
  refine au (k+1) ⟨ah,cT hy hk.2 (by rw[hqy,g1,g2];rfl)⟩ ah (bJ.d1 _ (aV rfl) ah rfl ?_)
  exact cY
 ·refine gD ?_
  refine ai (Fm p.sig hp.sig) rfl ?_
  cases g1:jg p.sig with
  |false=>exact HO
  |true=>
  refine gD ?_
  congr 3
  by_cases h3:p.rules.length<=20
  ·have h4:p.rules.length<=k:=by simp at h2;omega
   rw[cJ hk.2 h4]
   simp;omega
  ·rw[decide_eq_false h3]
   simp;omega
theorem JA{p:Pg}(hf:p.Fits)(h:gB p=true):p.Fw:=by
 simp only[gB,eZ,Bool.and_eq_true,decide_eq_true_eq,List.all_eq_true,pQ]at h
 obtain⟨⟨_,hl⟩,h⟩:=h
 refine⟨hf.sig,ah,fun r hr=> ?_⟩
 obtain⟨⟨a,b⟩,c⟩:=h r hr
 have z7:=hf.all r hr
 exact⟨⟨ah,fun t ht=>⟨z7.all t ht,by have:=(b t ht).1;omega⟩⟩,z7.rhs,ah⟩
theorem QZ{f:Pf}{k:Nat}{x:Pf}(hx:f.kids[k]? =some x)(left d:Int)(h:0<=cc (f.sh.kids.take k) left d):cc (f.sh.kids.take (k+1)) left d=eB x.sh (cc (f.sh.kids.take k) left d) d:=
 tv (by rw[Pf.mI,List.getElem?_map,hx];rfl) left d h
theorem DS:∀t:Pf,t.fits->∀left depth:Int, -1<=left/\left<=1000000-> -1<=depth/\depth<=1000000->aR Tryz.prog 58 [t.d, .i left, .i depth] (.ret [.i (eB t.sh left depth)]):=by
 refine Pf.bW fun t ih hf left depth hl hd=> ?_
 have dR:=(Pf.aH _).1 hf
 refine aR.az mix ags ao ?_
 rw[c58]
 refine b8 ?_
 refine aj (fun h1=> ?_) (fun h1=> ?_)
 ·refine b8 ?_
  simp at h1
  rw[De h1]
 ·simp at h1
  refine b8 ?_
  rw[wrap64 (n:=left - 1) (by omega) (by omega),vS,if_neg (by omega)]
  have rI:t.sh.kids.length=t.kids.length:=by rw[Pf.mI,List.length_map]
  refine aF (fun k:Nat=>⟨bp [.aa, .d (.i (cc (t.sh.kids.take k) (left - 1) (depth - 1))), .d (.i depth), .ptr 0 0, .aa, .aa, .aa, .d (.i k)],e8 t.row,1⟩)
   (fun k=>k<=t.kids.length) (fun k=>t.kids.length - k) 0 (Nat.zero_le _) (bJ.d1 _ (aV rfl) ah rfl ?_) (fun k hk=> ?_)
  ·exact cY
  have hb:=yO (t.sh.kids.take k) (left - 1) (depth - 1) ah
  simp+contextual only[go_sem,List.length_map]
  refine aj (fun h2=> ?_) (fun h2=> ?_)
  ·simp at h2
   obtain⟨x,hx⟩:∃x,t.kids[k]? =some x:=⟨t.kids[k],by simp[h2.1]⟩
   have cz:=List.mem_of_getElem? hx
   refine iq hx ?_
   rw[wrap64 (n:=depth - 1) (by omega) (by omega)]
   refine ai (ih x cz (dR.2.2.2.2 x cz) _ _ ah ah) rfl ?_
   refine b8 ?_
   rw[<- QZ hx _ _ h2.2]
   exact SC
  ·refine b8 ?_
   simp only[Bool.and_eq_false_iff,decide_eq_false_iff_not]at h2
   congr 3
   rcases h2 with h2|h2
   ·rw[List.take_of_length_le (by omega)]
   ·exact tw _ _ ah
theorem NP(s:aO)(hs:s.Fits)(l:List Tm)(hl:l.length<=9223372036854775807)(hf:∀t∈l,t.fits):aR Tryz.prog 24 [s.d, .sl (l.map Tm.d)] (.ret [.bool (jS s l)]):=by
 refine aR.az mix af3 ao ?_
 rw[c24]
 refine aS ?_
 refine aF (fun k:Nat=>⟨bp [.aa, .d (.sl (l.map Tm.d)), .ptr 0 0, .aa, .aa, .d (.i k)],e8 s.row,1⟩)
  (fun k=>k<=l.length/\(l.take k).all (p8 s)=true) (fun k=>l.length - k) 0 ⟨Nat.zero_le _,ao⟩ (bJ.d1 _ (aV rfl) ah rfl ?_) (fun k hk=> ?_)
 ·exact cY
 refine gD ?_
 refine aj (fun h2=> ?_) (fun h2=> ?_)
 ·simp at h2
  obtain⟨y,hy⟩:=aq (l:=l) (k:=k) ah
  have wB:=hf y (List.mem_of_getElem? hy)
  refine et hy ?_
  refine aw (AZ s hs y wB) rfl ?_
  cases g1:p8 s y with
  |false=>
   refine et hy ?_
   refine aD (aZ rfl) ?_
   refine aS ?_
   rw[jS,b7 hy g1,Bool.and_false]
  |true=>
  refine et hy ?_
  refine aD (aZ rfl) ?_
  refine aS ?_
  exact Sg
 ·refine gD ?_
  congr 3
  by_cases h3:l.length<=20
  ·have h4:l.length<=k:=by simp at h2;omega
   rw[jS,cJ hk.2 h4]
   simp;omega
  ·rw[jS,decide_eq_false h3]
   simp;omega
def dA(l:List Tm):Bool:=decide (l.length<=25)&&l.all da
theorem DT(l:List Tm)(hl:l.length<=9223372036854775807)(hf:∀t∈l,t.fits):aR Tryz.prog 22 [.sl (l.map Tm.d)] (.ret [.bool (dA l)]):=by
 refine aR.az mix af2 ao ?_
 rw[c22]
 refine aS ?_
 refine aF (fun k:Nat=>⟨bp [.d (.sl (l.map Tm.d)), .aa, .aa, .d (.i k)],fun _=> .no,0⟩)
  (fun k=>k<=l.length/\(l.take k).all da=true) (fun k=>l.length - k) 0 ⟨Nat.zero_le _,ao⟩ (bJ.d0 _ ?_) (fun k hk=> ?_)
 ·exact cY
 refine gD ?_
 refine aj (fun h2=> ?_) (fun h2=> ?_)
 ·simp at h2
  obtain⟨y,hy⟩:=aq (l:=l) (k:=k) ah
  have wB:=hf y (List.mem_of_getElem? hy)
  refine et hy ?_
  refine ai (nX y wB) rfl ?_
  cases g1:da y with
  |false=>
   refine et hy ?_
   rw[dA,b7 hy g1,Bool.and_false]
  |true=>
  exact Sp
 ·refine gD ?_
  congr 3
  by_cases h3:l.length<=25
  ·have h4:l.length<=k:=by simp at h2;omega
   rw[dA,cJ hk.2 h4]
   simp;omega
  ·rw[dA,decide_eq_false h3]
   simp;omega
theorem NQ(s:aO)(hs:s.Fits):∀f:Pf,f.fits->aR Tryz.prog 59 [s.d,f.d] (.ret [.bool (gr s f)]):=by
 refine Pf.bW fun f ih hf=> ?_
 have dR:=(Pf.aH _).1 hf
 refine aR.az mix agt ao ?_
 rw[c59,ij]
 refine aS ?_
 refine ai (AZ s hs f.val dR.1) rfl ?_
 cases h1:p8 s f.val with
 |false=>
  refine aS ?_
  rw[fe,h1];rfl
 |true=>
 refine aS ?_
 refine ai (NP s hs f.binds dR.2.1 dR.2.2.1) rfl ?_
 cases h2:jS s f.binds with
 |false=>
  refine aS ?_
  rw[fe,h1,h2];rfl
 |true=>
 have hn:fe s f=(f.bG==6||(f.num==0&&f.binds.length==0)):=by rw[fe,h1,h2];rfl
 refine gD ?_
 refine aj (fun h3=> ?_) (fun h3=> ?_)
 ·have:fe s f=false:=by
   rw[hn]
   simp only[Bool.and_eq_true,bne_iff_ne,Bool.or_eq_true,decide_eq_true_eq]at h3
   simp only[Bool.or_eq_false_iff,beq_eq_false_iff_ne,Bool.and_eq_false_iff]
   refine⟨h3.1, ?_⟩
   rcases h3.2 with h|h
   ·exact .inl h
   ·exact .inr ah
  refine aS ?_
  rw[this];rfl
 ·have:fe s f=true:=by
   rw[hn]
   simp only[Bool.and_eq_false_iff,bne_eq_false_iff_eq,Bool.or_eq_false_iff,decide_eq_false_iff_not]at h3
   simp only[Bool.or_eq_true,beq_iff_eq,Bool.and_eq_true]
   rcases h3 with h|h
   ·exact .inl h
   ·exact .inr ⟨h.1,ah⟩
  refine aS ?_
  rw[this,Bool.true_and]
  refine aF (fun k:Nat=>⟨bp [.aa, .aa, .ptr 0 0, .ptr 1 0, .aa, .d (.i k)],sx s.row f.row,2⟩)
   (fun k=>k<=f.kids.length/\(f.kids.take k).all (gr s)=true) (fun k=>f.kids.length - k) 0 ⟨Nat.zero_le _,ao⟩ (bJ.d2 _ (dH rfl rfl) ah rfl rfl ?_) (fun k hk=> ?_)
  ·exact cY
  refine gD ?_
  refine aj (fun h2=> ?_) (fun h2=> ?_)
  ·simp at h2
   obtain⟨y,hy⟩:=aq (l:=f.kids) (k:=k) ah
   have Fl:=List.mem_of_getElem? hy
   refine et hy ?_
   refine aw (ih y Fl (dR.2.2.2.2 y Fl)) rfl ?_
   cases g1:gr s y with
   |false=>
    exact Sv
   |true=>
   refine et hy ?_
   refine aD (aZ rfl) ?_
   refine aS ?_
   refine au (k+1) ⟨ah,cT hy hk.2 g1⟩ ah (bJ.d2 _ (dH rfl rfl) ah rfl rfl ?_)
   exact cY
  ·exact Ga
theorem DU(p:Pg)(hp:p.sig.Fits)(f:Pf)(hf:f.fits):aR Tryz.prog 13 [p.d,f.d] (.ret [.bool (dS p.sig f)]):=by
 refine aR.az mix af0 ao ?_
 rw[c13,dS]
 refine aS ?_
 refine ai (DS f hf 500 150 ah ah) rfl ?_
 cases h1:decide (0<=eB f.sh 500 150)with
 |false=>exact zH h1
 |true=>
  refine dc h1 ?_
  refine ai (NQ p.sig hp f hf) rfl ?_
  exact gK
mutual
def lr:Pf->Bool
 | .mk _ v _ b kids=>(da v&&dA b)&&Be kids
def Be:List Pf->Bool
 |[]=>true
 |k::l=>lr k&&Be l
end
theorem oh(f:Pf):lr f=((da f.val&&dA f.binds)&&f.kids.all lr):=by
 have:∀l:List Pf,Be l=l.all lr:=fun l=>by
  induction l with
  |nil=>rfl
  |cons k l ih=>simp[Be,ih]
 cases f;rw[lr,this];rfl
theorem ZU:∀f:Pf,f.fits->aR Tryz.prog 73 [f.d] (.ret [.bool (lr f)]):=by
 refine Pf.bW fun f ih hf=> ?_
 have dR:=(Pf.aH _).1 hf
 refine aR.az mix agB ao ?_
 rw[c73,oh]
 refine aS ?_
 refine ai (nX f.val dR.1) rfl ?_
 cases h1:da f.val with
 |false=>exact gK
 |true=>
 refine aS ?_
 refine ai (DT f.binds dR.2.1 dR.2.2.1) rfl ?_
 cases h2:dA f.binds with
 |false=>exact gK
 |true=>
 refine aS ?_
 refine aF (fun k:Nat=>⟨bp [.aa, .ptr 0 0, .aa, .d (.i k)],e8 f.row,1⟩)
  (fun k=>k<=f.kids.length/\(f.kids.take k).all lr=true) (fun k=>f.kids.length - k) 0 ⟨Nat.zero_le _,ao⟩ (bJ.d1 _ (aV rfl) ah rfl ?_) (fun k hk=> ?_)
 ·exact cY
 refine gD ?_
 refine aj (fun h2=> ?_) (fun h2=> ?_)
 ·simp at h2
  obtain⟨y,hy⟩:=aq (l:=f.kids) (k:=k) ah
  have Fl:=List.mem_of_getElem? hy
  refine et hy ?_
  refine ai (ih y Fl (dR.2.2.2.2 y Fl)) rfl ?_
  cases g1:lr y with
  |false=>
   refine et hy ?_
   rw[b7 hy g1]
  |true=>
  refine et hy ?_
  exact Sg
 ·exact Ga
def iJ(f:Pf):Bool:=decide (0<=eB f.sh 520 160)&&lr f
theorem zx(f:Pf)(hf:f.fits):aR Tryz.prog 34 [f.d] (.ret [.bool (iJ f)]):=by
 refine aR.az mix agb ao ?_
 rw[c34,iJ]
 refine aS ?_
 refine ai (DS f hf 520 160 ah ah) rfl ?_
 cases h1:decide (0<=eB f.sh 520 160)with
 |false=>exact zH h1
 |true=>
  refine dc h1 ?_
  refine ai (ZU f hf) rfl ?_
  exact gK
def ju(s:aO)(env:List Tm)(e:Tm):Bool:=(jS s env&&ei s e)&&((bM e).length==0||decide ((bM e).getLast?.getD 0<(env.length:Int)))
def Hx(t:Pf):Nat:=t.sh.sz
def rq(l:List Pf):Nat:=(l.map Hx).sum
theorem NR(t:Pf):t.sh.sz=1+rq t.kids:=by
 rw[Tm.ig,Pf.mI];unfold fR rq Hx;rw[List.map_map];rfl
theorem Hy{l:List Pf}{x:Pf}(h:x∈l):Hx x<=rq l:=by
 unfold rq
 induction l with
 |nil=>cases h
 |cons y l ih=>
  rw[List.map_cons,List.sum_cons]
  rcases List.mem_cons.1 h with e|e
  ·subst e;omega
  ·have:=ih e;omega
theorem wC{s:aO}{t:Tm}(h:p8 s t=true):Pn s t:=by
 simp only[p8,Bool.and_eq_true]at h
 exact h.2
section
theorem Q0{p:Pg}{ks:List Pf}{env es:List Tm}(hl:ks.length=es.length)(h:∀ (i:Nat) (x:Pf) (y:Tm),ks[i]? =some x->es[i]? =some y->bd p x env y=true):lI (ks.map (bd p)) env es=true:=by
 unfold lI
 rw[Bool.and_eq_true,List.all_eq_true,beq_iff_eq,List.length_map]
 refine⟨hl,fun z hz=> ?_⟩
 obtain⟨i,hi⟩:=List.getElem?_of_mem hz
 rw[List.getElem?_zip_eq_some,List.getElem?_map]at hi
 obtain⟨h1,h2⟩:=hi
 cases hk:ks[i]? with
 |none=>rw[hk]at h1;cases h1
 |some x=>
  rw[hk]at h1
  injection h1 with h1
  rw[<- h1]
  exact h i x z.2 hk h2
theorem Hz:∀ {l l':List Tm} {i:Nat} {x y:Tm},kR l l'=true->l[i]? =some x->l'[i]? =some y->Eh x y=true
 |[],_,_,_,_,_,h,_=>by simp at h
 |_::_,[],_,_,_,_,_,h=>by simp at h
 |a::l,b::l',0,x,y,h,h1,h2=>by
  simp at h1 h2;subst h1;subst h2
  rw[kR,Bool.and_eq_true]at h;exact h.1
 |a::l,b::l',i+1,x,y,h,h1,h2=>by
  rw[kR,Bool.and_eq_true]at h
  exact Hz h.2 (by simpa using h1) qa
theorem NS:∀ {l l':List Tm},l.length=l'.length->(∀ (i:Nat) (x y:Tm),l[i]? =some x->l'[i]? =some y->Eh x y=true)->kR l l'=true
 |[],_,_,_=>by simp[kR]
 |_::_,[],h,_=>by simp at h
 |a::l,b::l',hl,h=>by
  rw[kR,Bool.and_eq_true]
  exact⟨h 0 a b rfl rfl,NS (by simpa using hl) fun i x y h1 h2=>h (i+1) x y (by simpa using h1) qa⟩
section
variable {p:Pg}{s:aO}{f:Pf}{w:Tm}{env:List Tm}{e:Tm}
end
end
section
mutual
def bO(σ:Int->Option Tm):Tm->Tm
 | .mk op n kids=>if op=1 then(σ n).getD (.mk op n kids)else .mk op n (HA σ kids)
def HA(σ:Int->Option Tm):List Tm->List Tm
 |[]=>[]
 |k::l=>bO σ k::HA σ l
end
theorem sO(σ:Int->Option Tm):∀l:List Tm,HA σ l=l.map (bO σ)
 |[]=>rfl
 |k::l=>by rw[HA,sO σ l];rfl
theorem dT(σ:Int->Option Tm)(t:Tm):bO σ t=if t.op=1 then(σ t.n).getD t else .mk t.op t.n (t.kids.map (bO σ)):=by
 cases t;rw[bO,sO];rfl
theorem oq(σ:Int->Option Tm){op:Int}(h:op≠1)(n:Int)(l:List Tm):bO σ (.mk op n l)= .mk op n (l.map (bO σ)):=by
 rw[bO,sO,if_neg h]
mutual
def eN(σ:Int->Option Tm):Pf->Pf
 | .mk r v n b ks=> .mk r (bO σ v) n (b.map (bO σ)) (HB σ ks)
def HB(σ:Int->Option Tm):List Pf->List Pf
 |[]=>[]
 |k::l=>eN σ k::HB σ l
end
theorem zy(σ:Int->Option Tm):∀l:List Pf,HB σ l=l.map (eN σ)
 |[]=>rfl
 |k::l=>by rw[HB,zy σ l];rfl
theorem oJ(σ:Int->Option Tm)(f:Pf):eN σ f= .mk f.bG (bO σ f.val) f.num (f.binds.map (bO σ)) (f.kids.map (eN σ)):=by
 cases f;rw[eN,zy];rfl
theorem rr(σ:Int->Option Tm)(f:Pf):(eN σ f).val=bO σ f.val:=by rw[oJ];rfl
theorem HC(σ:Int->Option Tm):∀f:Pf,(eN σ f).sh=f.sh:=by
 refine Pf.bW fun f ih=> ?_
 rw[oJ,Pf.Ny,Pf.Ny f]
 show Tm.mk 0 0 ((f.kids.map (eN σ)).map Pf.sh)=_
 rw[List.map_map]
 congr 1
 exact List.map_congr_left fun k hk=>ih k hk
theorem oi(σ:Int->Option Tm):bO σ ez=ez:=by unfold ez;rw[oq σ (by omega)];rfl
theorem kM(σ:Int->Option Tm)(b:Bool):bO σ (fQ b)=fQ b:=by unfold fQ;rw[oq σ (by omega)];rfl
theorem DV(σ:Int->Option Tm)(l:List Tm)(i:Nat):((l.map (bO σ))[i]?).getD ez=bO σ ((l[i]?).getD ez):=by
 rw[List.getElem?_map]
 cases l[i]? with
 |none=>exact(oi σ).symm
 |some x=>rfl
section
variable {s:aO}{σ:Int->Option Tm}(FO:∀n x,σ n=some x->Pn s x/\bS 16 x=true)
include FO
theorem NT:∀t:Tm,bS 16 t=true->bS 16 (bO σ t)=true:=by
 refine Tm.bW fun t ih h=> ?_
 rw[dT]
 split
 ·cases hx:σ t.n with
  |none=>exact h
  |some x=>exact(FO _ x hx).2
 ·rw[gx,Bool.and_eq_true,List.all_eq_true]at h|-
  refine⟨fun k hk=> ?_,h.2⟩
  obtain⟨x,hx,rfl⟩:=List.mem_map.1 (show k∈t.kids.map (bO σ)from hk)
  exact ih x hx (h.1 x hx)
theorem ZV:∀a b:Tm,Pn s a->Pn s b->Eh a b=true->Eh (bO σ a) (bO σ b)=true:=by
 have _:=FO
 refine Tm.bW fun a ih b pa pb h=> ?_
 rcases uz.1 h with h16|⟨e1,e2,e3,e4⟩
 ·rw[dT,if_neg (by omega)]
  exact uz.2 (.inl h16)
 ·by_cases h1:a.op=1
  ·have hk:=pa.bare (.inr (.inl h1))
   have HD:b.kids=[]:=List.length_eq_zero_iff.1 (by rw[<- e3,hk];rfl)
   have:a=b:=by rw[<- Tm.eta a, <- Tm.eta b,e1,e2,hk,HD]
   rw[this];exact AY _
  ·rw[dT,dT σ b,if_neg h1,if_neg (by omega)]
   refine uz.2 (.inr ⟨e1,e2,by simp[Tm.kids];exact e3, ?_⟩)
   refine NS (by change (a.kids.map _).length=(b.kids.map _).length;simp;exact e3) fun i x y hx hy=> ?_
   change (a.kids.map (bO σ))[i]? =some x at hx
   change (b.kids.map (bO σ))[i]? =some y at hy
   rw[List.getElem?_map]at hx hy
   cases ha:a.kids[i]? with
   |none=>rw[ha]at hx;cases hx
   |some u=>
   cases hb:b.kids[i]? with
   |none=>rw[hb]at hy;cases hy
   |some v=>
    rw[ha]at hx;rw[hb]at hy
    injection hx with hx;injection hy with hy
    rw[<- hx, <- hy]
    exact ih u (List.mem_of_getElem? ha) v (Pn.kH pa (List.mem_of_getElem? ha)) (Pn.kH pb (List.mem_of_getElem? hb)) (Hz e4 ha hb)
end
theorem NU(σ:Int->Option Tm){t:Tm}(h1:t.op≠1)(h2:t.kids=[]):bO σ t=t:=by
 rw[dT,if_neg h1,h2]
 rw[<- Tm.eta t,h2];rfl
theorem wD(σ:Int->Option Tm):∀t:Tm,bS 1 t=true->bO σ t=t:=by
 refine Tm.bW fun t ih h=> ?_
 rw[gx,Bool.and_eq_true,List.all_eq_true,bne_iff_ne]at h
 rw[dT,if_neg h.2]
 have:t.kids.map (bO σ)=t.kids:=by
  conv=>rhs;rw[<- List.map_id t.kids]
  exact List.map_congr_left fun k hk=>ih k hk (h.1 k hk)
 rw[this,Tm.eta]
theorem NV(σ:Int->Option Tm)(b:List Tm):∀t:Tm,bO σ (fU b t)=fU (b.map (bO σ)) t:=by
 refine Tm.bW fun t ih=> ?_
 rw[n9,n9]
 split
 ·exact(DV σ b _).symm
 ·rename_i h1
  rw[oq σ h1,List.map_map]
  congr 1
  exact List.map_congr_left fun k hk=>ih k hk
theorem Q1(σ:Int->Option Tm)(r:Rl)(b:List Tm):(mZ r b).map (bO σ)=mZ r (b.map (bO σ)):=by
 unfold mZ
 refine List.ext_getElem? fun i=> ?_
 rw[List.getElem?_map,List.getElem?_mapIdx,List.getElem?_mapIdx,List.getElem?_map]
 cases b[i]? with
 |none=>rfl
 |some x=>
  simp only[Option.map_some]
  split
  ·rw[oi]
  ·rfl
theorem NW(σ:Int->Option Tm)(env:List Tm)(n:Int)(v:Tm):(gA env n v).map (bO σ)=gA (env.map (bO σ)) n (bO σ v):=by
 unfold gA
 rw[List.map_set,List.map_append,List.map_replicate,oi,List.length_map]
theorem Bf{s:aO}:Pn s ez:=pS.2 ⟨by simp[mb,ez,Tm.op,Tm.n,Tm.kids],fun k hk=>by simp[ez,Tm.kids]at hk⟩
theorem Q2{s:aO}{l:List Tm}(h:∀t∈l,Pn s t)(i:Nat):Pn s ((l[i]?).getD ez):=by
 cases hx:l[i]? with
 |none=>exact Bf
 |some x=>exact h x (List.mem_of_getElem? hx)
theorem Q3{r:Rl}{b:List Tm}{t:Tm}(h:t∈mZ r b):t=ez\/t∈b:=by
 obtain⟨i,hi⟩:=List.getElem?_of_mem h
 unfold mZ at hi
 rw[List.getElem?_mapIdx]at hi
 cases hx:b[i]? with
 |none=>rw[hx]at hi;cases hi
 |some x=>
  rw[hx,Option.map_some]at hi
  injection hi with hi
  split at hi
  ·exact .inl hi.symm
  ·exact .inr (hi ▸ List.mem_of_getElem? hx)
theorem NX{env:List Tm}{n:Int}{v t:Tm}(h:t∈gA env n v):t=v\/t=ez\/t∈env:=by
 unfold gA at h
 rcases List.mem_or_eq_of_mem_set h with h|h
 ·rcases List.mem_append.1 h with h|h
  ·exact .inr (.inr h)
  ·exact .inr (.inl (List.eq_of_mem_replicate h))
 ·exact .inl h
theorem Q4{p:Pg}{s:aO}{σ:Int->Option Tm}(FO:∀n x,σ n=some x->Pn s x/\bS 16 x=true):∀f:Pf,gr s f=true->∀env e,(∀t∈env,Pn s t)->bd p f env e=true->bd p (eN σ f) (env.map (bO σ)) e=true:=by
 refine Pf.bW fun f ih pl env e he H=> ?_
 rw[ij,Bool.and_eq_true,List.all_eq_true]at pl
 have J8:=pl.1
 unfold fe at J8
 simp only[Bool.and_eq_true]at J8
 have hv:Pn s f.val:=wC J8.1.1
 have hbs:∀t∈f.binds,Pn s t:=fun t ht=>by
  have h1:=J8.1.2
  simp only[jS,Bool.and_eq_true,List.all_eq_true]at h1
  exact wC (h1.2 t ht)
 have hkv:∀k∈f.kids,Pn s k.val:=fun k hk=>by
  have:=pl.2 k hk
  rw[ij,fe]at this
  simp only[Bool.and_eq_true]at this
  exact wC this.1.1.1
 have hvp:∀j,Pn s (bu f.kids j):=fun j=>by
  unfold bu
  cases hk:f.kids[j]? with
  |none=>exact Bf
  |some k=>exact hkv k (List.mem_of_getElem? hk)
 have vp:∀j,bu (f.kids.map (eN σ)) j=bO σ (bu f.kids j):=fun j=>by
  unfold bu
  rw[List.getElem?_map]
  cases f.kids[j]? with
  |none=>exact(oi σ).symm
  |some k=>exact rr σ k
 have gt:∀ (j:Nat) (k:Pf),f.kids[j]? =some k->(f.kids.map (eN σ))[j]? =some (eN σ k):=fun j k hk=>by rw[List.getElem?_map,hk];rfl
 have pg:∀ (j:Nat) env e,(∀t∈env,Pn s t)->pn (f.kids.map (bd p)) j env e=true->pn ((f.kids.map (eN σ)).map (bd p)) j (env.map (bO σ)) e=true:=fun j env e he h=>by
  cases hk:f.kids[j]? with
  |none=>unfold pn at h;rw[List.getElem?_map,hk]at h;cases h
  |some k=>
   rw[Hw hk]at h
   rw[Hw (gt j k hk)]
   have hm:=List.mem_of_getElem? hk
   exact ih k hm (pl.2 k hm) env e he h
 have vm:∀l:List Pf,(l.map (eN σ)).map Pf.val=(l.map Pf.val).map (bO σ):=fun l=>by
  rw[List.map_map,List.map_map]
  exact List.map_congr_left fun k _=>rr σ k
 have ag:∀ (l:List Pf) (es:List Tm),(∀k∈l,k∈f.kids)->lI (l.map (bd p)) env es=true->lI ((l.map (eN σ)).map (bd p)) (env.map (bO σ)) es=true:=fun l es hl ha=>by
  have rI:l.length=es.length:=by
   unfold lI at ha;rw[Bool.and_eq_true,beq_iff_eq,List.length_map]at ha;exact ha.1
  refine Q0 (by simp;exact rI) fun i x y hx hy=> ?_
  rw[List.getElem?_map]at hx
  cases hk:l[i]? with
  |none=>rw[hk]at hx;cases hx
  |some k=>
   rw[hk]at hx
   injection hx with hx
   rw[<- hx]
   obtain⟨y',hy',hp⟩:=ND ha hk
   rw[hy]at hy'
   injection hy' with hy'
   subst hy'
   have hm:=hl k (List.mem_of_getElem? hk)
   exact ih k hm (pl.2 k hm) env y he hp
 have ln:(f.kids.map (eN σ)).length=f.kids.length:=List.length_map _
 rw[oJ,fi]
 change od p f.bG (bO σ f.val) f.num (f.binds.map (bO σ)) (f.kids.map (eN σ)) ((f.kids.map (eN σ)).map (bd p)) (env.map (bO σ)) e=true
 rw[fi,od]at H
 rw[od]
 by_cases h1:f.bG=1
 ·rw[if_pos h1]at H|-
  simp only[Bool.and_eq_true,beq_iff_eq,ln]at H|-
  refine⟨H.1, ?_⟩
  rw[hv.bot H.2];exact congrArg Tm.op (oi σ)
 rw[if_neg h1]at H|-
 by_cases h2:f.bG=2
 ·rw[if_pos h2]at H|-
  simp only[Bool.and_eq_true,beq_iff_eq,ln]at H|-
  rw[DV]
  exact⟨H.1,H.2.1,ZV FO _ _ hv (Q2 he _) H.2.2⟩
 rw[if_neg h2]at H|-
 by_cases h3:f.bG=3
 ·rw[if_pos h3]at H|-
  simp only[Bool.and_eq_true,beq_iff_eq,ln,bY]at H|-
  have fl:f.val.op=2:=by rw[H.2.2];exact H.1
  refine⟨H.1,H.2.1, ?_⟩
  rw[NU σ (by omega) (hv.bare (.inr (.inr fl)))];exact H.2.2
 rw[if_neg h3]at H|-
 by_cases h4:f.bG=4
 ·rw[if_pos h4]at H|-
  exact RS
 rw[if_neg h4]at H|-
 by_cases h5:f.bG=5
 ·rw[if_pos h5]at H|-
  exact RS
 rw[if_neg h5]at H|-
 by_cases h6:f.bG=6
 ·rw[if_pos h6]at H|-
  cases hr:p.rules[f.num.toNat]? with
  |none=>rw[hr]at H;simp at H
  |some ru=>
   rw[hr]at H
   simp only[Bool.and_eq_true,beq_iff_eq,bY,bne_iff_ne,ln,List.length_map]at H|-
   obtain⟨H0,⟨⟨⟨⟨a1,a2⟩,a3⟩,a4⟩,a5⟩,⟨a6,a7⟩,a8⟩:=H
   refine⟨H0,⟨⟨⟨⟨a1,a2⟩,a3⟩, ?_⟩, ?_⟩,⟨?_, ?_⟩, ?_⟩
   ·rw[dT]
    split
    ·cases hx:σ f.val.n with
     |none=>exact a4
     |some x=>
      have:=(FO _ x hx).2
      rw[gx,Bool.and_eq_true,bne_iff_ne]at this
      exact this.2
    ·exact a4
   ·rw[vp,a5]
   ·rw[<- List.map_take,vm]
    injection a6 with _ _ a6
    rw[a6,List.map_map]
    congr 1
    exact List.map_congr_left fun t _=>NV σ f.binds t
   ·rw[<- List.map_take, <- List.map_take]
    rw[<- List.map_take]at a7
    exact ag _ _ (fun k hk=>List.mem_of_mem_take hk) a7
   ·rw[<- Q1]
    exact pg _ _ _ (fun t ht=>by
     rcases Q3 ht with h|h
     ·rw[h];exact Bf
     ·exact hbs t h) a8
 rw[if_neg h6]at H|-
 by_cases h7:f.bG=7
 ·rw[if_pos h7]at H|-
  exact SO
 rw[if_neg h7]at H|-
 by_cases h8:f.bG=8
 ·rw[if_pos h8]at H|-
  exact SO
 rw[if_neg h8]at H|-
 by_cases h9:f.bG=9
 ·rw[if_pos h9]at H|-
  simp only[Bool.and_eq_true,beq_iff_eq,bY,ln]at H|-
  obtain⟨H0,⟨⟨a1,a2⟩,a3⟩,a4⟩:=H
  refine⟨H0,⟨⟨a1,by rw[vp,a2]⟩,pg _ _ _ he a3⟩, ?_⟩
  rw[vp, <- NW]
  exact pg _ _ _ (fun t ht=>by
   rcases NX ht with h|h|h
   ·rw[h];exact hvp 0
   ·rw[h];exact Bf
   ·exact he t h) a4
 rw[if_neg h9]at H|-
 by_cases Vz:f.bG=15
 ·rw[if_pos Vz]at H|-
  rw[Bool.and_eq_true]at H|-
  obtain⟨Ha,Hb⟩:=H
  simp only[Bool.and_eq_true,Bool.or_eq_true,beq_iff_eq]at Ha
  obtain⟨⟨c1,c2⟩,⟨c3,c4⟩,c5⟩:=Ha
  have v0:bO σ (bu f.kids 0)= .mk (bu f.kids 0).op (bu f.kids 0).n ((bu f.kids 0).kids.map (bO σ)):=by rw[dT,if_neg (by omega)]
  have e1:(bu (f.kids.map (eN σ)) 0).op=(bu f.kids 0).op:=by rw[vp,v0];rfl
  have e2:(bu (f.kids.map (eN σ)) 0).n=(bu f.kids 0).n:=by rw[vp,v0];rfl
  have e3:(bu (f.kids.map (eN σ)) 0).kids=(bu f.kids 0).kids.map (bO σ):=by rw[vp,v0];rfl
  refine⟨?_, ?_⟩
  ·simp only[Bool.and_eq_true,Bool.or_eq_true,beq_iff_eq,ln]
   exact⟨⟨c1,c2⟩,⟨pg _ _ _ he c3,pg _ _ _ he c4⟩,e1.trans c5⟩
  ·rw[e2,e3,List.length_map,vp 1]
   split at Hb
   ·rename_i cM
    rw[if_pos cM]
    simp only[Bool.and_eq_true,beq_iff_eq,bY,ln]at Hb|-
    refine⟨Hb.1, ?_⟩
    rw[Hb.2,oq σ (by omega),List.map_append];rfl
   ·rename_i cM
    rw[if_neg cM]
    simp only[Bool.and_eq_true,beq_iff_eq,bY,ln]at Hb|-
    refine⟨⟨Hb.1.1,by rw[vp,Hb.1.2]⟩, ?_⟩
    have:=pg 2 _ _ (fun t ht=>by
     rcases List.mem_append.1 ht with h|h
     ·exact Pn.kH (hvp 0) h
     ·rw[List.mem_singleton.1 h];exact hvp 1) Hb.2
    rwa [List.map_append,List.map_singleton]at this
 rw[if_neg Vz]at H|-
 simp only[Bool.and_eq_true,beq_iff_eq,ln]at H|-
 obtain⟨⟨c1,c2⟩,c3,c4⟩:=H
 refine⟨⟨c1, ?_⟩,pg _ _ _ he c3,pg _ _ _ he c4⟩
 rw[vp,vp]
 generalize bu f.kids 0=a at c2
 generalize bu f.kids 1=b at c2
 unfold xy at c2|-
 split at c2
 ·rename_i r
  rw[if_pos r]
  simp only[Bool.and_eq_true,bY]at c2|-
  exact⟨c2.1,by rw[c2.2.1];exact kM σ true,by rw[c2.2.2]⟩
 rename_i r10
 rw[if_neg r10]
 split at c2
 ·rename_i r
  rw[if_pos r]
  simp only[Bool.and_eq_true,bY]at c2|-
  exact⟨c2.1,⟨by rw[c2.2.1.1];exact kM σ true,by rw[c2.2.1.2];exact kM σ true⟩,by rw[c2.2.2];exact kM σ true⟩
 rename_i r11
 rw[if_neg r11]
 split at c2
 ·rename_i r
  rw[if_pos r]
  simp only[Bool.and_eq_true,bY]at c2|-
  exact⟨c2.1,⟨by rw[c2.2.1.1],NT FO _ c2.2.1.2⟩,by rw[c2.2.2];exact kM σ true⟩
 rename_i r12
 rw[if_neg r12]
 split at c2
 ·rename_i r
  rw[if_pos r]
  simp only[Bool.and_eq_true,bY]at c2|-
  obtain⟨d1,⟨⟨d2,d3⟩,d4,d5⟩,d6⟩:=c2
  rw[wD σ a d3,wD σ b d5]
  exact⟨d1,⟨⟨d2,d3⟩,d4,d5⟩,by rw[d6];exact kM σ _⟩
 rename_i r13
 rw[if_neg r13]
 split at c2
 ·rename_i r
  rw[if_pos r]
  simp only[Bool.and_eq_true,bY,beq_iff_eq]at c2|-
  have ea:(bO σ a).op=a.op/\(bO σ a).n=a.n:=by rw[dT,if_neg (by omega)];exact⟨rfl,rfl⟩
  have eb:(bO σ b).op=b.op/\(bO σ b).n=b.n:=by rw[dT,if_neg (by omega)];exact⟨rfl,rfl⟩
  rw[ea.1,ea.2,eb.1,eb.2]
  refine⟨c2.1,c2.2.1, ?_⟩
  rw[c2.2.2]
  unfold wu
  split
  ·exact kM σ _
  ·rw[oq σ (by omega)];rfl
 cases c2
end
theorem ZW:ez.d= .agg [.i 16, .i 0, .sl []]:=by unfold ez;rw[Tm.m9];rfl
theorem ZX(b:Bool):(fQ b).d= .agg [.i 3, .i (if b=true then 1 else 0), .sl []]:=by unfold fQ;rw[Tm.m9];rfl
def bdN(n:Int):Prop:= -1000000<=n/\n<=1000000
theorem FP(op a b:Int):(wu op a b).d=if op=15 then(fQ (decide (a<b))).d else .agg [.i 2, .i (if op=14 then a - b else a+b), .sl []]:=by
 unfold wu
 split
 ·rfl
 ·rw[Tm.m9];rfl
theorem NY{l:List Tm}{t x:Tm}(h1:t.op=1)(hx:l[t.n.toNat]? =some x):fU l t=x:=by rw[n9,if_pos h1,hx];rfl
def wE(n:Nat)(t:Tm):Prop:=∀x∈iP t,x.op=1->0<=x.n/\x.n<n
theorem wE.kH {n:Nat}{t k:Tm}(h:wE n t)(hk:k∈t.kids):wE n k:=fun x hx=>h x (by rw[nY];exact List.mem_cons_of_mem _ (List.mem_flatMap.2 ⟨k,hk,hx⟩))
def mR(n:Nat):List Tm:=(List.range n).map fun i:Nat=> .mk 1 (i:Int) []
theorem FQ(n:Nat):mR (n+1)=mR n++[.mk 1 (n:Int) []]:=by simp[mR,List.range_succ]
end Go.Proofs.YtonbelhklnmjnaaGreat
section
namespace Go.Proofs.YtonbelhklnmjnaaGreat
open Go.ChangeShapes Go.WideShapes Go.RowKit
theorem NZ:∀ (n:Nat) (x:D),SizeOf.sizeOf x<=n->D.jn Tryz.prog x 35->∃t:Pf,x=t.d/\t.fits:=by
 intro n
 induction n with
 |zero=>intro x hx _;cases x<;>simp at hx
 |succ n ih=>
  intro x hx h
  obtain⟨cs,rfl,hh⟩:=l9 af (ls:=[32,29,3,28,3,28,33]) af h
  clear h;have h:=hh;clear hh
  obtain⟨a,cs,rfl,ha,h⟩:=bf h
  obtain⟨b,cs,rfl,hb,h⟩:=bf h
  obtain⟨c,cs,rfl,hc,h⟩:=bf h
  obtain⟨d,cs,rfl,hd,h⟩:=bf h
  obtain⟨e,cs,rfl,he,h⟩:=bf h
  obtain⟨f,cs,rfl,hf,h⟩:=bf h
  obtain⟨g,cs,rfl,hg,h⟩:=bf h
  have:=jo h;subst this
  obtain⟨r,hr,_⟩:=wx undT_32 ha
  subst hr
  obtain⟨o,rfl⟩:=QU hb
  obtain⟨m,rfl⟩:=rm hc
  obtain⟨vk,rfl,v1,v2⟩:=DO hd
  obtain⟨u,rfl⟩:=rm he
  obtain⟨bs,rfl,b1,b2⟩:=DO hf
  obtain⟨es,rfl,h1,h2⟩:=lq (e:=35) af hg
  have Eb:SizeOf.sizeOf es<=n:=by simp at hx;omega
  have:∀es:List D,SizeOf.sizeOf es<=n->D.FK Tryz.prog es 35->∃l:List Pf,es=l.map Pf.d/\∀k∈l,k.fits:=by
   intro es
   induction es with
   |nil=>intro _ _;exact⟨[],rfl,fun _ h=>by cases h⟩
   |cons y es ihe=>
    exact Sj
  obtain⟨l,rfl,hl⟩:=this es Eb h2
  refine⟨.mk r (.mk o m vk) u bs l,by rw[Pf.E8];rfl, ?_⟩
  rw[Pf.aH]
  exact⟨(Tm.aH _).2 ⟨v1,v2⟩,b1,b2,by have:=jU;simp at h1;simp only[Pf.kids];omega,hl⟩
theorem ag4{x:D}(h:D.jn Tryz.prog x 35):∃t:Pf,x=t.d/\t.fits:=NZ _ x (Nat.le_refl _) h
end Go.Proofs.YtonbelhklnmjnaaGreat
end
namespace Go.Proofs.YtonbelhklnmjnaaGreat
theorem zA:aR Tryz.prog 94 [.sl []] (.ret [.sl []]):=by
 refine aR.az mix MI ao ?_
 rw[c94]
 have hu:Tryz.prog.underlying 28=some (.slice 31):=af
 have heq:∀O,rE Tryz.prog O 28 true (.d (.sl [])) .br=some .fq:=by
  intro O
  unfold rE
  rw[hu]
  rfl
 refine dc heq ?_
 simp only[List.isEmpty_nil,if_true]
 exact zH heq
theorem wF(l:List Tm)(ik:l≠[])(hl:l.length<=1000000)(o:Nat->ab)(nx:Nat)(K X:V->(Nat->ab)->Nat->Prop)
 (hK:K (.osl (nx+3) 1) (aK o (nx+3) (.arr 1 31 3 (l.map Tm.d))) (nx+7)):
 cK Tryz.prog 94 [.d (.sl (l.map Tm.d))] o nx K X:=by
 refine cK.az mix MI ao ?_
 rw[c94]
 have hu:Tryz.prog.underlying 28=some (.slice 31):=af
 have heq:∀O,rE Tryz.prog O 28 true (.d (.sl (l.map Tm.d))) .br=some (.d (.bool false)):=by
  intro O
  unfold rE
  rw[hu]
  cases l with
  |nil=>exact absurd rfl ik
  |cons a l=>rfl
 refine Bz heq ?_
 simp only[List.isEmpty_nil,if_true]
 refine Bz heq ?_
 rw[jt]
 exact hK
theorem DW(l:List Tm)(hl:l.length<=1000000)(h:∀t∈l,aR Tryz.prog 53 [.sl (t.kids.map Tm.d)] (.ret [.sl (t.kids.map Tm.d)])):aR Tryz.prog 53 [.sl (l.map Tm.d)] (.ret [.sl (l.map Tm.d)]):=by
 refine aR.az mix ac4 ao ?_
 rw[c53]
 cases ik:l with
 |nil=>
  refine aS ?_
  refine aP zA ?_
  refine aS ?_
  refine aF (fun _:Unit=>⟨bp [.aa, .aa, .aa, .d (.sl []), .aa, .aa, .aa, .aa, .d (.sl []), .d (.i 0), .d (.i 0)],fun _=> .no,1⟩) (fun _=>True) (fun _=>0) () trivial (bJ.bX _ ah ah dB (fun _ _=>rfl) ?_) (fun _ _=> ?_)
  ·exact cY
  exact gK
 |cons a r=>
  rw[<- ik]
  have ZY:l≠[]:=by rw[ik];simp
  refine aS ?_
  refine c7 (wF l ZY hl _ _ _ _ ?_)
  refine aS ?_
  refine aF (fun i:Nat=>⟨bp [.aa, .aa, .aa, .osl 5 1, .aa, .aa, .aa, .aa, .osl 5 1, .d (.i l.length), .d (.i i)],aK (fun _=> .no) 5 (.arr 1 31 3 (l.map Tm.d)),6⟩)
   (fun k=>k<=l.length) (fun k=>l.length - k) 0 (Nat.zero_le _) (bJ.bX _ ah ah dB (fun j hj=>by(repeat(first|rfl|rw[ad]|rw[ak _ _ _ _ (by omega)]))) ?_) (fun k hk=> ?_)
  ·exact cY
  replace hk:k<=l.length:=hk
  refine aS ?_
  refine aj (fun h2=> ?_) (fun h2=> ?_)
  ·simp at h2
   obtain⟨x,hx⟩:=aq h2
   have cz:=List.mem_of_getElem? hx
   refine dc hx ?_
   refine aP (h x cz) ?_
   refine dc hx ?_
   have hxd:x.d= .agg [.i x.op, .i x.n, .sl (x.kids.map Tm.d)]:=by cases x;rw[Tm.m9];rfl
   have oT:(l.map Tm.d).set k x.d=l.map Tm.d:=by
    apply List.ext_getElem?
    intro i
    rw[List.getElem?_set]
    by_cases e:k=i
    ·subst e
     rw[if_pos rfl,if_pos (by simpa using h2),List.getElem?_map,hx];rfl
    ·rw[if_neg e]
   simp only[hxd,List.length_cons,List.length_nil,List.take,List.drop,List.append_nil,List.cons_append,List.nil_append]
   rw[if_pos (by omega)]
   refine dc oT ?_
   refine au (k+1) h2 ah (bJ.bX _ ah ah dB (fun j hj=> ?_) ?_)
   ·skip
    by_cases e:j=5
    ·exact zL
    ·rw[ak _ _ _ _ e,ak _ _ _ _ (by omega),ak _ _ _ _ (by omega)]
   ·exact cY
  ·simp at h2
   exact gK
theorem Q5{l:List Tm}{k:Tm}(h:k∈l):k.sz<=fR l:=by
 induction l with
 |nil=>cases h
 |cons x l ih=>
  rw[db]
  rcases List.mem_cons.1 h with rfl|h
  ·omega
  ·have:=ih h;omega
theorem HE:∀l:List Tm,l.length<=fR l
 |[]=>Nat.zero_le _
 |x::l=>by
  have:=HE l
  have:=Tm.sB x
  rw[db,List.length_cons];omega
theorem DX:∀t:Tm,t.sz<=1000000->aR Tryz.prog 53 [.sl (t.kids.map Tm.d)] (.ret [.sl (t.kids.map Tm.d)]):=by
 refine Tm.bW fun t ih hz=> ?_
 rw[Tm.ig]at hz
 have h1:=HE t.kids
 exact DW t.kids ah fun k hk=>ih k hk (by have:=Q5 hk;omega)
theorem DY(l:List Tm)(hl:l.length<=1000000)(h:∀t∈l,t.sz<=1000000):aR Tryz.prog 53 [.sl (l.map Tm.d)] (.ret [.sl (l.map Tm.d)]):=
 DW l hl fun t ht=>DX t (h t ht)
end Go.Proofs.YtonbelhklnmjnaaGreat
namespace Go.Proofs.YtonbelhklnmjnaaGreat
def Q6:Tm:= .mk 0 0 []
theorem Bg:Q6.d= .agg [.i 0, .i 0, .sl []]:=by unfold Q6;rw[Tm.m9];rfl
theorem uJ{c:Nat}{G:List Gr}{so:Nat->ab}{gone:Nat->Prop}{x x' y y':ab}(h:x=y)(h':x'=y')(hs:xm c G so gone y y'):xm c G so gone x x':=by rw[h,h'];exact hs
@[reducible] def N0 (B:Nat->ab) (r c:Nat) (ds:List D) (ty sz:Nat) (es:List D):Nat->ab:=aK (aK B r (.row (ds.map .d++[.osl c 0]))) c (.arr 0 ty sz es)
theorem Bh{c:Nat}{G:List Gr}{so:Nat->ab}{gone:Nat->Prop}{l l':List V}:∀ds:List D,vQ c G so gone l l'->vQ c G so gone (ds.map .d++l) (ds.map .d++l')
 |[],h=>h
 |d::ds,h=>Zr (Bh ds h)
theorem N1(B:Nat->ab)(r c:Nat)(ds:List D)(ty sz:Nat)(es:List D):N0 B r c ds ty sz es c= .arr 0 ty sz es:=ad _ _ _
theorem N2(B:Nat->ab){r c:Nat}(h:r<c)(ds:List D)(ty sz:Nat)(es:List D):N0 B r c ds ty sz es r= .row (ds.map .d++[.osl c 0]):=(ak _ _ _ _ ah).trans (ad _ _ _)
theorem FY(B:Nat->ab){r c j:Nat}(h:j≠r)(h2:j≠c)(ds:List D)(ty sz:Nat)(es:List D):N0 B r c ds ty sz es j=B j:=(ak _ _ _ _ h2).trans (ak _ _ _ _ h)
theorem oK{B:Nat->ab}{r c:Nat}{ds:List D}{ty sz:Nat}{e:Nat->V}{so:Nat->ab}{m:Nat}(l:List V)(hg:Good B c)(wS:∀j,c<=j->B j= .no)(hr:r<c)(ho:∀j,j<c->j≠r->so j=B j)(cq:so r= .row (ds.map .d++[.br]))(eu:0<sz)
 (he:mW c [⟨.br,ty,sz,[]⟩] so (fun _=>False) e l 0):bJ 0 ⟨e,so,m⟩ ⟨bp l,N0 B r c ds ty sz [],c+1⟩:=by
 refine bJ.oP (fun _=>False) .br c _ ah (fun j hj=> ?_) (N1 _ _ _ _ _ _ _) (.inl ⟨rfl,rfl,eu⟩) (fun j hj=> ?_) (fun _ h=>h.elim) he
 ·by_cases e1:j=r
  ·subst e1
   exact uJ (y:= .row (ds.map .d++[.br])) cq (N2 B hr ds ty sz _) (Dd rfl (Bh ds (MN (g:=⟨.br,ty,sz,[]⟩) 0 rfl rfl rfl Dc)))
  ·exact abd
 ·exact RD
theorem rv{B:Nat->ab}{r c ep:Nat}{ds:List D}{ty sz:Nat}{es:List D}{e:Nat->V}{so:Nat->ab}{m:Nat}(l:List V)(hg:Good B c)(wS:∀j,c<=j->B j= .no)(hr:r<c)(ho:∀j,j<c->j≠r->so j=B j)(cq:so r= .row (ds.map .d++[.osl c ep]))(dC:so c= .arr ep ty sz es)
 (he:mW c [⟨.osl c ep,ty,sz,es⟩] so (fun j=>j=c) e l 0):bJ 0 ⟨e,so,m⟩ ⟨bp l,N0 B r c ds ty sz es,c+1⟩:=by
 refine bJ.oP (fun j=>j=c) (.osl c ep) c _ ah (fun j hj=> ?_) (N1 _ _ _ _ _ _ _) (.inr ⟨c,ep,rfl,rfl,dC⟩) (fun j hj=> ?_) (fun j h h2=>ah) he
 ·by_cases e1:j=r
  ·subst e1
   exact uJ (y:= .row (ds.map .d++[.osl c ep])) cq (N2 B hr ds ty sz _) (Dd rfl (Bh ds (MN (g:=⟨.osl c ep,ty,sz,es⟩) 0 rfl rfl rfl Dc)))
  ·exact abd
 ·exact RD
theorem cL:∀a:Tm,a.fits->∀b:Tm,b.fits->aR Tryz.prog 218 [a.d,b.d] (.ret [.bool (aU a b)]):=by
 refine Tm.bW fun a ih ha b hb=> ?_
 have QF:=(Tm.aH _).1 ha
 have J1:=(Tm.aH _).1 hb
 refine aR.az mix UP ao ?_
 rw[YV,nV]
 refine aS ?_
 refine CW (aj (fun h1=> ?_) (fun h1=> ?_))
 ·rw[h1]
  refine dc h1 ?_
  refine bc (Nh a.kids b.kids QF.1 J1.1 218 (fun x hx y hy=>ih x hx (QF.2 x hx) y (J1.2 y hy)) _ _ dB _ _ fun o2 n2 m1 m2 m3=> ?_)
  exact zH h1
 ·rw[h1]
  exact zH h1
def oj:D:= .iface 117 (.agg [])
theorem cp:aR Tryz.prog 128 [.bool true] (.ret []):=by
 refine aR.az mix MK ao ?_
 rw[Qq]
 exact gK
theorem dV:aR Tryz.prog 128 [.bool false] (.bP oj):=by
 refine aR.az mix MK ao ?_
 rw[Qq]
 refine aS ?_
 rfl
theorem kN(b:Bool):aR Tryz.prog 227 [.bool b] (.ret [(fQ b).d]):=by
 refine aR.az mix UZ ao ?_
 rw[Y4,ZX]
 cases b<;>simp+contextual (disch:=first|omega|simp only[go_sem,false_implies]) only[go_sem,wrap64,if_pos,and_self]
theorem wG:aR Tryz.prog 225 [.agg []] (.ret [ez.d]):=by
 refine aR.az mix UX ao ?_
 rw[Y2,ZW]
 exact gK
theorem N3(n:Int):aR Tryz.prog 256 [.i n] (.ret [(Tm.mk 1 n []).d]):=by
 refine aR.az mix Vi ao ?_
 rw[Zm,Tm.m9]
 exact gK
theorem N4(l:List Tm)(hl:l.length<=1000000):∀t:Tm,t.fits->t.sz<=1000000->wE l.length t->aR Tryz.prog 220 [t.d, .sl (l.map Tm.d)] (.ret [(fU l t).d]):=by
 refine Tm.bW fun t ih hf hz ho=> ?_
 have dR:=(Tm.aH _).1 hf
 have s5:=Tm.ig t
 refine aR.az mix UR ao ?_
 rw[YX]
 by_cases h1:t.op=1
 ·have cH:(t.op==1)=true:=by simpa using h1
  obtain⟨n0,n1⟩:=ho t (by rw[nY];simp) h1
  obtain⟨x,hx⟩:=aq (l:=l) (k:=t.n.toNat) ah
  rw[NY h1 hx]
  simp+contextual (disch:=first|omega|simp only[go_sem,false_implies]) only[go_sem,wrap64,if_pos,cH,hx,n0]
 ·have cH:(t.op==1)=false:=by simpa using h1
  rw[n9,if_neg h1]
  refine dc cH ?_
  have hB:Good (aK (aK (fun _=> .no) 0 (.row t.row)) 1 (.row [.d (.i 0), .d (.i 0), .br])) 16:=dB
  have wS:∀j,16<=j->(aK (aK (fun _=>ab.no) 0 (.row t.row)) 1 (.row [.d (.i 0), .d (.i 0), .br])) j= .no:=fun j hj=>by(repeat(first|rfl|rw[ad]|rw[ak _ _ _ _ (by omega)]))
  refine aF (fun i:Nat=>⟨bp [.aa, .d (.sl (l.map Tm.d)), .ptr 0 0, .aa, .ptr 1 0, .ptr 10 0, .aa, .aa, .aa, .aa, .aa, .aa, .aa, .aa, .aa, .aa, .aa, .aa, .aa, .aa, .aa, .aa, .d (.sl (t.kids.map Tm.d)), .d (.i t.kids.length), .d (.i i)],aK (aK (aK (aK (fun _=> .no) 0 (.row t.row)) 1 (.row [.d (.i 0), .d (.i 0), .br])) 10 (.row [.d (.i t.op), .d (.i t.n), .osl 16 0])) 16 (.arr 0 31 3 (((t.kids.take i).map (fU l)).map Tm.d)),17⟩)
   (fun i=>i<=t.kids.length) (fun i=>t.kids.length - i) 0 (Nat.zero_le _) (oK (r:=10) (ds:=[.i t.op, .i t.n]) _ hB wS ah (fun j hj ik=>zK) dU ah ?_) ?_
  ·exact ud
  rintro k hk
  replace hk:k<=t.kids.length:=hk
  refine gD ?_
  refine aj (fun h2=> ?_) (fun h2=> ?_)
  ·simp at h2
   obtain⟨x,hx⟩:=aq h2
   have cz:=List.mem_of_getElem? hx
   have Ea:=jq cz
   have rI:t.kids.length<=1000000:=by have:=og t.kids;omega
   have sS:t.kids.take (k+1)=t.kids.take k++[x]:=by rw[List.take_add_one,hx];rfl
   have e0:(t.kids.take k).length=k:=by rw[List.length_take];omega
   refine kS hx e0 ?_
   refine ba (ih x cz (dR.2 x cz) ah (ho.kH cz)) ?_
   refine kS hx e0 ?_
   refine aD bE ?_
   refine kS hx e0 ?_
   refine au (k+1) h2 ah (rv (r:=10) (c:=16) (ep:=1) (ds:=[.i t.op, .i t.n]) _ hB wS ah (fun j hj ik=>zK) dU VQ ?_)
   exact ud
  ·simp at h2
   have rI:k=t.kids.length:=ah
   subst rI
   rw[List.take_length]
   refine gD ?_
   rw[Tm.m9]
theorem Q7(p:Pg)(f:Int)(x:kB)(h0:0<=f)(hx:p.sig.bR[f.toNat]? =some x)(h1:0<=x.args)(h2:x.args<=1000):aR Tryz.prog 228 [p.d, .i f] (.ret [(ri p.sig f).d]):=by
 have e:(ri p.sig f).d= .agg [.i 4, .i f, .sl ((mR x.args.toNat).map Tm.d)]:=by
  unfold ri
  rw[Tm.m9,iQ hx];rfl
 refine aR.az mix U0 ao ?_
 rw[Y5,e]
 refine xB hx h0 ?_
 have hB:Good (aK (aK (fun _=> .no) 0 (.row p.row)) 1 (.row [.d (.i 0), .d (.i 0), .br])) 14:=dB
 have wS:∀j,14<=j->(aK (aK (fun _=>ab.no) 0 (.row p.row)) 1 (.row [.d (.i 0), .d (.i 0), .br])) j= .no:=fun j hj=>by(repeat(first|rfl|rw[ad]|rw[ak _ _ _ _ (by omega)]))
 obtain⟨n,hn⟩:∃n:Nat,x.args=n:=⟨x.args.toNat,ah⟩
 rw[hn]
 have Iy:n<=1000:=ah
 refine aF (fun i:Nat=>⟨bp [.aa, .aa, .ptr 0 0, .aa, .ptr 1 0, .ptr 4 0, .aa, .aa, .aa, .aa, .aa, .aa, .aa, .aa, .aa, .d (.i n), .d (.i i)],aK (aK (aK (aK (fun _=> .no) 0 (.row p.row)) 1 (.row [.d (.i 0), .d (.i 0), .br])) 4 (.row [.d (.i 4), .d (.i f), .osl 14 0])) 14 (.arr 0 31 3 ((mR i).map Tm.d)),15⟩)
  (fun i=>i<=n) (fun i=>n - i) 0 (Nat.zero_le _) (oK (r:=4) (ds:=[.i 4, .i f]) _ hB wS ah (fun j hj ik=>zK) dU ah ?_) ?_
 ·exact ud
 rintro k hk
 replace hk:k<=n:=hk
 have e0:(mR k).length=k:=by simp[mR]
 refine gD ?_
 refine aj (fun h2=> ?_) (fun h2=> ?_)
 ·simp at h2
  refine et e0 ?_
  refine ba (N3 k) ?_
  refine et e0 ?_
  refine aD bE ?_
  refine et e0 ?_
  refine au (k+1) h2 ah (rv (r:=4) (c:=14) (ep:=1) (ds:=[.i 4, .i f]) _ hB wS ah (fun j hj ik=>zK) dU (by(repeat(first|rfl|rw[ad]|rw[ak _ _ _ _ (by omega)]));rw[FQ,List.map_append];rfl) ?_)
  exact ud
 ·simp at h2
  have rI:k=n:=ah
  subst rI
  exact HO
@[reducible] def wY (p:Pg) (env:List Tm):D:= .agg [.sl (p.sig.cons.map kB.d), .sl (p.sig.bR.map kB.d), .sl (p.rules.map Rl.d), .sl (env.map Tm.d)]
@[reducible] def HG (p:Pg) (env:List Tm):List V:=[.d (.sl (p.sig.cons.map kB.d)), .d (.sl (p.sig.bR.map kB.d)), .d (.sl (p.rules.map Rl.d)), .d (.sl (env.map Tm.d))]
theorem N5(p:Pg)(a b:List Tm):aR Tryz.prog 222 [wY p a, .sl (b.map Tm.d)] (.ret [wY p b]):=by
 refine aR.az mix UT ao ?_
 rw[YZ]
 exact gK
theorem JB{pr:List (List Nat)}{fp:List (List Nat×List Nat)}(h:((List.range fp.length).all fun j=>(List.range j).all fun i=>((eR pr []).getD j 0).testBit i||((fp.getD i ([],[])).2.isEmpty&&(fp.getD j ([],[])).2.isEmpty))=true):iU pr fp=true:=by
 unfold iU
 rw[List.all_eq_true]at h|-
 intro j hj
 have h:=h j hj
 rw[List.all_eq_true]at h|-
 intro i hi
 have h:=h i hi
 rw[Bool.or_eq_true]at h|-
 refine h.imp id fun h=> ?_
 simp only[Bool.and_eq_true,List.isEmpty_iff]at h
 rw[h.1,h.2]
 rfl
end Go.Proofs.YtonbelhklnmjnaaGreat
