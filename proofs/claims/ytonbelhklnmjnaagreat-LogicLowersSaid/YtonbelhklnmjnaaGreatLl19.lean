/-
  A PART OF THE PROOF. Conditions: none.
-/
import Derived.Test.YtonbelhklnmjnaaGreatLl18
set_option linter.unusedSimpArgs false
set_option linter.unusedVariables false
namespace Go.Proofs.YtonbelhklnmjnaaGreat
theorem OW(l:List Int)(n:Int)(hl:l.length<=1000000):aQ Tryz.prog 198 [.sl (l.map .i), .i n] (.ret [.bool (l.contains n)]):=by
 refine aQ.ay mix agb ao ?_
 rw[aga]
 refine aU ?_
 refine aH (fun k:Nat=>⟨br [.d (.sl (l.map .i)), .d (.i n), .aa, .aa, .aa, .d (.i k)],fun _=> .no,0⟩)
  (fun k=>k<=l.length/\(l.take k).contains n=false) (fun k=>l.length - k) 0 ⟨Nat.zero_le _,ao⟩ (bM.d0 _ ?_) (fun k hk=> ?_)
 ·exact dc
 refine aU ?_
 refine aj (fun h2=> ?_) (fun h2=> ?_)
 ·simp at h2
  obtain⟨x,hx⟩:=ai h2
  refine cf hx ?_
  refine aj (fun h3=> ?_) (fun h3=> ?_)
  ·refine aU ?_
   have:l.contains n=true:=by
    exact Xr
   rw[this]
  ·refine aU ?_
   refine au (k+1) ⟨h2, ?_⟩ af (bM.d0 _ ?_)
   ·have h4: ¬n=x:=fun e=>by subst e;simp at h3
    have h5:=hk.2
    rw[List.take_add_one,hx]
    rw[Bool.eq_false_iff]at h5|-
    intro hc;apply h5
    rw[List.contains_iff_mem]at hc|-
    rcases List.mem_append.1 hc with hc|hc
    ·exact hc
    ·simp at hc;exact absurd hc h4
   ·exact dc
 ·simp at h2
  refine aU ?_
  have:=hk.2
  exact Mx
theorem w8:∀ (l:List Int) (n:Int),∃k,k<=l.length/\(∀x∈l.take k,x<n)/\(∀x,l[k]? =some x-> ¬x<n)/\la l n=if l[k]? =some n then l else l.take k++n::l.drop k
 |[],n=>⟨0,Nat.zero_le _,ao,ao,by simp[la]⟩
 |x::l,n=>by
  obtain⟨k,h1,h2,h3,h4⟩:=w8 l n
  by_cases hx:x<n
  ·refine⟨k+1,by simp;omega, ?_,by simpa using h3, ?_⟩
   ·intro y hy
    simp only[List.take_succ_cons,List.mem_cons]at hy
    rcases hy with rfl|hy
    ·exact hx
    ·exact h2 y hy
   ·simp only[la,if_pos hx,h4,List.getElem?_cons_succ,List.take_succ_cons,List.drop_succ_cons]
    split<;>simp
  ·refine⟨0,Nat.zero_le _,ao,by simpa using hx, ?_⟩
   simp only[la,if_neg hx]
   by_cases e:x=n
   ·subst e;simp
   ·simp[e]
theorem Md(l:List Int)(n:Int)(hl:l.length<=1000000):aQ Tryz.prog 103 [.sl (l.map .i), .i n] (.ret [.sl ((la l n).map .i)]):=by
 obtain⟨j,j1,j2,j3,j4⟩:=w8 l n
 have tk:∀ (i:Nat) (l:List Int),List.take i (l.map D.i)=(l.take i).map D.i:=fun i l=>List.map_take.symm
 have dr:∀ (i:Nat) (l:List Int),List.drop i (l.map D.i)=(l.drop i).map D.i:=fun i l=>List.map_drop.symm
 have ap:∀ (a b:List Int),a.map D.i++[D.i n]++b.map D.i=(a++n::b).map D.i:=fun a b=>ao
 refine aQ.ay mix aeY ao ?_
 rw[aeX]
 refine aU ?_
 refine aH (fun k:Nat=>⟨br [.d (.sl (l.map .i)), .d (.i n), .aa, .aa, .aa, .d (.i k)],fun _=> .no,0⟩)
  (fun k=>k<=j) (fun k=>l.length - k) 0 (Nat.zero_le _) (bM.d0 _ ?_) (fun k hk=> ?_)
 ·exact dc
 by_cases hkj:k=j
 ·subst hkj
  by_cases h5:k<l.length
  ·obtain⟨x,hx⟩:=ai h5
   have h6:=j3 x hx
   have xF:(k:Int)<l.length:=af
   refine xL hx xF h6 ?_
   refine aj (fun h3=> ?_) (fun h3=> ?_)
   ·refine aU ?_
    have e:x=n:=by simpa using h3
    rw[j4,if_pos (by rw[hx,e])]
   ·have e: ¬x=n:=by simpa using h3
    rw[j4,if_neg (by rw[hx];simpa using e)]
    simp+contextual (disch:=first|omega|simp only[go_sem,false_implies]) only[go_sem,wrap64,if_pos,hx,xF,h6,tk,dr,List.take_length,List.length_map,List.length_take,List.length_drop,List.length_append,List.length_cons,List.length_nil]
    rw[ap]
    exact XF
  ·have xF: ¬ (k:Int)<l.length:=af
   have hx:l[k]? =none:=by simp;omega
   rw[j4,if_neg (by rw[hx];simp)]
   simp+contextual (disch:=first|omega|simp only[go_sem,false_implies]) only[go_sem,wrap64,if_pos,xF,tk,dr,List.take_length,List.length_map,List.length_take,List.length_drop,List.length_append,List.length_cons,List.length_nil]
   rw[ap]
   exact XF
 ·have cD:k<l.length:=af
  obtain⟨x,hx⟩:=ai cD
  have xF:(k:Int)<l.length:=af
  have h6:x<n:=j2 x (List.mem_of_getElem? (i:=k) (by rw[List.getElem?_take_of_lt (by omega)];exact hx))
  refine xL hx xF h6 ?_
  refine au (k+1) af af (bM.d0 _ ?_)
  exact dc
theorem sB{op n:Int}{i:Nat}{l:List Int}{k:Nat}{v:Int}(h:l[k]? =some v)(out:List Int):mU op n i (l.take (k+1)) out=if(op !=8||(i:Int)!=1||v !=n)=true then la (mU op n i (l.take k) out) v else mU op n i (l.take k) out:=by
 unfold mU
 rw[List.take_add_one,h,List.foldl_append]
 rfl
theorem mZ:∀t:Tm,t.yf->aQ Tryz.prog 61 [t.d] (.ret [.sl ((bp t).map .i)]):=by
 refine Tm.cc fun t ih ht=> ?_
 have fu:=(Tm.aF _).1 ht.fits
 refine aQ.ay mix aiQ ao ?_
 rw[c61]
 by_cases h1:t.op=1
 ·refine cf h1 ?_
  rw[oD,if_pos h1]
  rfl
 ·have bL:(t.op==1)=false:=by simpa using h1
  refine cf bL ?_
  rw[oD,if_neg h1]
  refine aH (fun i:Nat×List Int=>⟨br [.aa, .ptr 0 0, .aa, .d (.sl (i.2.map .i)), .d (.i i.1)],fP t.row,1⟩)
   (fun i=>i.1<=t.kids.length/\jV t.op t.n t.kids 0 []=jV t.op t.n (t.kids.drop i.1) i.1 i.2/\i.2.length<=fG (t.kids.take i.1)) (fun i=>t.kids.length - i.1) (0,[]) ⟨Nat.zero_le _,rfl,Nat.zero_le _⟩
   (bM.agD (fun _=>False) 1 _ af (G3 (bE rfl iX)) (fun j hj=>ak _ _ _ _ af) (fun _ h=>h.elim) ?_) ?_
  ·try dsimp only
   exact oP
  rintro⟨k,out⟩ ⟨hk,hv,hlen⟩
  simp only at hk hv hlen
  refine aU ?_
  refine aj (fun h2=> ?_) (fun h2=> ?_)
  ·simp at h2
   obtain⟨x,hx⟩:=ai h2
   have cp:=List.mem_of_getElem? hx
   have eo:fG (t.kids.take (k+1))=fG (t.kids.take k)+x.sz:=by
    rw[List.take_add_one,hx];simp[fG]
   have hle:fG (t.kids.take (k+1))<=fG t.kids:=by
    have:fG t.kids=fG (t.kids.take (k+1))+fG (t.kids.drop (k+1)):=by
     conv=>lhs;rw[<- List.take_append_drop (k+1) t.kids]
     exact Qy
    omega
   have ss:fG t.kids<=1000000:=by have:=ht.size;rw[Tm.kY,Tm.gw]at this;omega
   have P9:=fq x
   have hdr:t.kids.drop k=x::t.kids.drop (k+1):=by
    exact Mu
   refine cf hx ?_
   refine aT (ih x cp (ht.gE cp)) ?_
   refine cf hx ?_
   refine aH (fun j:Nat=>⟨br [.aa, .ptr 0 0, .aa, .d (.sl ((mU t.op t.n k ((bp x).take j) out).map .i)), .d (.i k), .d (.sl ((bp x).map .i)), .d (.i j)],fP t.row,1⟩)
    (fun j=>j<=(bp x).length) (fun j=>(bp x).length - j) 0 (Nat.zero_le _) (bM.d1 _ (ba rfl) af rfl ?_) (fun j hj=> ?_)
   ·exact dc
   refine aU ?_
   refine aj (fun h3=> ?_) (fun h3=> ?_)
   ·simp at h3
    obtain⟨v,P8⟩:=ai h3
    have si:=oE t.op t.n k ((bp x).take j) out
    have htl:((bp x).take j).length<=(bp x).length:=by rw[List.length_take];omega
    cases b1:(t.op !=8)with
    |true=>
     have hc:(t.op !=8||(k:Int)!=1||v !=t.n)=true:=by rw[b1];rfl
     refine xB P8 b1 ?_
     exact adi
    |false=>
     cases b2:((k:Int)!=1)with
     |true=>
      have hc:(t.op !=8||(k:Int)!=1||v !=t.n)=true:=by rw[b1,b2];rfl
      refine xL P8 b1 b2 ?_
      exact adi
     |false=>
      refine xL P8 b1 b2 ?_
      refine aw bG ?_
      refine cf P8 ?_
      refine aj (fun h4=> ?_) (fun h4=> ?_)
      ·have hc:(t.op !=8||(k:Int)!=1||v !=t.n)=true:=by rw[h4];simp
       refine cf P8 ?_
       refine aT (Md _ v af) ?_
       refine aU ?_
       refine au (j+1) h3 af (bM.d1 _ (ba rfl) af rfl ?_)
       rw[sB P8,if_pos hc]
       exact dc
      ·have hc: ¬ (t.op !=8||(k:Int)!=1||v !=t.n)=true:=by rw[b1,b2,h4];simp
       refine cf P8 ?_
       refine au (j+1) h3 af (bM.d1 _ (ba rfl) af rfl ?_)
       rw[sB P8,if_neg hc]
       exact dc
   ·simp at h3
    refine aU ?_
    rw[List.take_of_length_le (by omega)]
    refine au (k+1,mU t.op t.n k (bp x) out) ⟨h2,by rw[hv,hdr];rfl, ?_⟩ pt (bM.d1 _ (ba rfl) af rfl ?_)
    ·dsimp only
     have:=oE t.op t.n k (bp x) out
     omega
    ·exact dc
  ·simp at h2
   refine aU ?_
   rw[hv,List.drop_eq_nil_of_le (by omega)]
   rfl
theorem Sj:∀t:Tm,t.fits->aQ Tryz.prog 195 [t.d] (.ret [.bool (ig t)]):=by
 refine Tm.cc fun t ih hf=> ?_
 have fu:=(Tm.aF _).1 hf
 refine aQ.ay mix af6 ao ?_
 rw[af5,Ac]
 refine aU ?_
 refine aH (fun k:Nat=>⟨br [.aa, .ptr 0 0, .aa, .d (.i k)],fP t.row,1⟩)
  (fun k=>k<=t.kids.length/\(t.kids.take k).all ig=true) (fun k=>t.kids.length - k) 0 ⟨Nat.zero_le _,ao⟩ (bM.d1 _ (ba rfl) af rfl ?_) (fun k hk=> ?_)
 ·exact dc
 refine aU ?_
 refine aj (fun h2=> ?_) (fun h2=> ?_)
 ·simp at h2
  obtain⟨x,hx⟩:=ai h2
  have cp:=List.mem_of_getElem? hx
  refine cf hx ?_
  refine ah (ih x cp (fu.2 x cp)) rfl ?_
  refine aU ?_
  refine aj (fun h3=> ?_) (fun h3=> ?_)
  ·refine aU ?_
   simp at h3
   exact G2
  ·exact TC
 ·refine aU ?_
  simp at h2
  rw[cw hk.2 h2];rfl
theorem abf:∀t:Tm,t.yf->∀b:List Int,b.length+t.sz<=1000000->aQ Tryz.prog 194 [t.d, .sl (b.map .i)] (.ret [.sl ((gL t b).1.map .i), .bool (gL t b).2]):=by
 refine Tm.cc fun t ih ht b hb=> ?_
 have fu:=(Tm.aF _).1 ht.fits
 refine aQ.ay mix af4 ao ?_
 rw[af3]
 by_cases h1:t.op=1
 ·rw[rR,if_pos h1]
  refine cf h1 ?_
  refine aN (Md _ _ af) ?_
  refine aU ?_
  refine aq (OW _ _ af) rfl ?_
  exact QC
 ·have bL:(t.op==1)=false:=by simpa using h1
  rw[rR,if_neg h1]
  refine cf bL ?_
  refine aH (fun i:Nat×List Int×Bool=>⟨br [.aa, .d (.sl (i.2.1.map .i)), .ptr 0 0, .aa, .aa, .aa, .d (.bool i.2.2), .d (.i i.1)],fP t.row,1⟩)
   (fun i=>i.1<=t.kids.length/\ij t.kids b=(if i.2.2=true then ij (t.kids.drop i.1) i.2.1 else(i.2.1,false))/\i.2.1.length<=b.length+fG (t.kids.take i.1)) (fun i=>t.kids.length - i.1) (0,b,true) ⟨Nat.zero_le _,rfl,Nat.le_add_right _ _⟩ (bM.d1 _ (ba rfl) af rfl ?_) ?_
  ·dsimp only
   exact dc
  rintro⟨k,b',is⟩ ⟨hk,hv,hlen⟩
  simp only at hk hv hlen
  have ss:=Tm.gw t
  have fin:is=false\/t.kids.length<=k->ij t.kids b=(b',is):=by
   intro h
   cases is with
   |false=>rw[hv];rfl
   |true=>
    have h:t.kids.length<=k:=by simpa using h
    rw[hv,List.drop_eq_nil_of_le h];rfl
  refine aU ?_
  cases is with
  |false=>
   refine aU ?_
   rw[fin (.inl rfl)]
  |true=>
   refine aU ?_
   refine aj (fun h2=> ?_) (fun h2=> ?_)
   ·simp at h2
    obtain⟨x,hx⟩:=ai h2
    have cp:=List.mem_of_getElem? hx
    have eo:fG (t.kids.take (k+1))=fG (t.kids.take k)+x.sz:=by
     rw[List.take_add_one,hx];simp[fG]
    have hle:fG t.kids=fG (t.kids.take (k+1))+fG (t.kids.drop (k+1)):=by
     conv=>lhs;rw[<- List.take_append_drop (k+1) t.kids]
     exact Qy
    have hdr:t.kids.drop k=x::t.kids.drop (k+1):=by
     exact Mu
    refine cf hx ?_
    refine aT (ih x cp (ht.gE cp) b' af) ?_
    refine aU ?_
    refine au (k+1,(gL x b').1,(gL x b').2) ⟨h2, ?_, ?_⟩ pt (bM.d1 _ (ba rfl) af rfl ?_)
    ·dsimp only
     rw[hv,if_pos rfl,hdr]
     simp only[ij]
    ·dsimp only
     have:=Km x b'
     omega
    ·exact dc
   ·simp at h2
    refine aU ?_
    rw[fin (.inr h2)]
theorem Kq(t:Tm)(ht:t.yf):aQ Tryz.prog 137 [t.d] (.ret [.bool ((gL t []).2&&ig t)]):=by
 have ho:=abf t ht [] (by have:=ht.size;rw[Tm.kY]at this;simp;omega)
 simp only[List.map_nil]at ho
 refine aQ.ay mix afu ao ?_
 rw[aft]
 refine aU ?_
 refine aT ho ?_
 refine aU ?_
 refine hU (fO [.bool (ig t)] ?_ ?_)
 ·refine aU ?_
  exact fun _=>Sj t ht.fits
 exact dM
def IC.snd:IC->IC
 | .seq _ y=>y
 |c=>c
def IC.fst:IC->IC
 | .seq x _=>x
 | .block _ x=>x
 | .loop x=>x
 | .cond _ x _=>x
 |c=>c
theorem cP{c:Nat}{G:List Gr}{so:Nat->ab}{gone:Nat->Prop}{x x' y y':ab}(h:x=y)(h':x'=y')(hs:yc c G so gone y y'):yc c G so gone x x':=by rw[h,h'];exact hs
theorem jw{l:List Tm}{k:Tm}(h:k∈l):k.sz<=fG l:=by
 induction l with
 |nil=>cases h
 |cons x l ih=>
  rw[eE]
  rcases List.mem_cons.1 h with e|e
  ·subst e;omega
  ·have:=ih e;omega
theorem abg:∀t:Tm,t.fR<=t.sz:=by
 refine Tm.cc fun t ih=> ?_
 rw[Tm.oC,Tm.gw]
 have:=(mR t.kids (fG t.kids)).2 fun k hk=>Nat.le_trans (ih k hk) (jw hk)
 omega
theorem Tm.yf.GA {t:Tm}(hf:t.fits)(h:t.sz<=900000):t.yf:=⟨⟨hf,Nat.le_trans (abg t) h⟩,by rw[Tm.kY];omega⟩
theorem qv(l:List Tm)(h:∀k∈l,(bQ k).length<=k.sz):(bD l).length<=fG l:=by
 induction l with
 |nil=>simp[bD]
 |cons k l ih=>
  rw[bD,List.length_append,eE]
  have:=h k ao
  have:=ih fun x hx=>h x lW
  omega
theorem kC:∀t:Tm,(bQ t).length<=t.sz:=by
 refine Tm.cc fun t ih=> ?_
 have:=qv t.kids ih
 rw[iA,List.length_append,Tm.gw]
 split<;>simp<;>omega
theorem xO(a b:List Tm):bD (a++b)=bD a++bD b:=by
 induction a with
 |nil=>simp[bD]
 |cons k a ih=>simp[bD,ih]
def OX:IC:=RM.snd.snd.snd.fst.snd.fst.fst
theorem w9{t:Tm}(hf:t.fits)(hz:t.sz<=1000000)(ih:∀k∈t.kids,k.fits->k.sz<=1000000->aQ Tryz.prog 196 [k.d] (.ret [.sl ((bQ k).map .i)]))(p:List Int)(hp:p.length<=1){e:Nat->V}{o:Nat->ab}{nx:Nat}{Q:gf->S->Prop}
 (hs:bM 0 ⟨e,o,nx⟩ ⟨br [.aa, .ptr 0 0, .aa, .osl 1 0, .d (.i 0)],aM (aM (fun _=> .no) 0 (.row t.row)) 1 (.arr 0 3 1 (p.map .i)),2⟩)
 (hQ:∀e' n',e' 3= .osl 1 0->Q (.exit 0) ⟨e',aM (aM (fun _=> .no) 0 (.row t.row)) 1 (.arr 0 3 1 ((p++bD t.kids).map .i)),n'⟩):
 rB 0 (fun Q s=>ll Tryz.prog 29 0 false OX Q s) Q ⟨e,o,nx⟩:=by
 have fu:=(Tm.aF _).1 hf
 have ss:=Tm.gw t
 refine aH (fun i:Nat=>⟨br [.aa, .ptr 0 0, .aa, .osl 1 0, .d (.i i)],aM (aM (fun _=> .no) 0 (.row t.row)) 1 (.arr 0 3 1 ((p++bD (t.kids.take i)).map .i)),2⟩)
  (fun i=>i<=t.kids.length) (fun i=>t.kids.length - i) 0 (Nat.zero_le _) ?_ fun k hk=> ?_
 ·simpa[bD]using hs
 replace hk:k<=t.kids.length:=hk
 simp only[OX,RM,IC.snd,IC.fst]
 refine ik ?_
 refine aj (fun h2=> ?_) (fun h2=> ?_)
 ·simp at h2
  obtain⟨x,hx⟩:=ai h2
  have cp:=List.mem_of_getElem? hx
  have xE:t.kids.take (k+1)=t.kids.take k++[x]:=by rw[List.take_add_one,hx];rfl
  have xG:(bD (t.kids.take k)).length<=fG (t.kids.take k):=qv _ fun y _=>kC y
  have eo:fG t.kids=fG (t.kids.take k)+fG (t.kids.drop k):=by
   conv=>lhs;rw[<- List.take_append_drop k t.kids]
   exact Qy
  have CS:=jw cp
  have nm:=kC x
  have Uz:(p++bD (t.kids.take k)).length<=1000001:=by rw[List.length_append];omega
  exact ac8
 ·simp at h2
  have si:k=t.kids.length:=af
  exact Ms
theorem Sk:∀t:Tm,t.fits->t.sz<=1000000->aQ Tryz.prog 196 [t.d] (.ret [.sl ((bQ t).map .i)]):=by
 refine Tm.cc fun t ih hf hz=> ?_
 refine aQ.ay mix af7 ao ?_
 rw[RM,iA]
 by_cases h8:t.op=8
 ·have E6:(t.op==8)=true:=by simpa using h8
  refine cf E6 ?_
  rw[if_pos h8]
  refine w9 hf hz ih [t.n] ao ?_ fun e' n' he=> ?_
  ·refine bM.jP (fun j=>1<=j) _ 1 _ af (G3 (cP (y:= .row t.row) dn dn (bE rfl iX))) (ae _ _ _) (.inr ⟨_,_, ?_,rfl,by(repeat(first|rfl|rw[ae]|rw[ak _ _ _ _ (by omega)]))⟩) (fun j hj=>by(repeat(first|rfl|rw[ae]|rw[ak _ _ _ _ (by omega)]))) (fun j h h2=>af) ?_
   ·decide
   ·exact oP
  ·exact IU
 ·have E6:(t.op==8)=false:=by simpa using h8
  refine cf E6 ?_
  rw[if_neg h8]
  refine w9 hf hz ih [] ao ?_ fun e' n' he=> ?_
  ·exact XI
  ·exact IU
theorem OY(l:List Int)(n:Int)(hl:l.length<=1000000):aQ Tryz.prog 197 [.sl (l.map .i), .i n] (.ret [.i (l.count n)]):=by
 refine aQ.ay mix af9 ao ?_
 rw[af8]
 refine aU ?_
 refine aH (fun k:Nat=>⟨br [.d (.sl (l.map .i)), .d (.i n), .aa, .aa, .aa, .d (.i ((l.take k).count n)), .d (.i k)],fun _=> .no,0⟩)
  (fun k=>k<=l.length) (fun k=>l.length - k) 0 (Nat.zero_le _) (bM.d0 _ ?_) (fun k hk=> ?_)
 ·exact dc
 replace hk:k<=l.length:=hk
 have hc:(l.take k).count n<=1000000:=by have:=List.count_le_length (a:=n) (l:=l.take k);rw[List.length_take]at this;omega
 refine ik ?_
 refine aj (fun h2=> ?_) (fun h2=> ?_)
 ·simp at h2
  obtain⟨x,hx⟩:=ai h2
  have xE:(l.take (k+1)).count n=(l.take k).count n+if x=n then 1 else 0:=by rw[List.take_add_one,hx,List.count_append];simp[List.count_singleton]
  refine dW hx ?_
  refine aj (fun h3=> ?_) (fun h3=> ?_)
  ·have sR:x=n:=by simpa using h3
   rw[if_pos sR]at xE
   exact Mj
  ·have sR: ¬x=n:=by simpa using h3
   rw[if_neg sR]at xE
   exact Mj
 ·simp at h2
  refine aU ?_
  rw[List.take_of_length_le h2]
theorem ug(n:Int):∀l:List Tm,gK n l=l.all (dJ n)
 |[]=>rfl
 |k::l=>by simp[gK,ug n l]
theorem EC(n:Int):∀t:Tm,t.fits->aQ Tryz.prog 138 [t.d, .i n] (.ret [.bool (dJ n t)]):=by
 refine Tm.cc fun t ih hf=> ?_
 have fu:=(Tm.aF _).1 hf
 refine aQ.ay mix afw ao ?_
 rw[afv,qs,ug]
 refine aU ?_
 refine aH (fun k:Nat=>⟨br [.aa, .d (.i n), .ptr 0 0, .aa, .aa, .d (.i k)],fP t.row,1⟩)
  (fun k=>k<=t.kids.length/\(t.kids.take k).all (dJ n)=true) (fun k=>t.kids.length - k) 0 ⟨Nat.zero_le _,ao⟩ (bM.d1 _ (ba rfl) af rfl ?_) (fun k hk=> ?_)
 ·exact dc
 refine aU ?_
 refine aj (fun h2=> ?_) (fun h2=> ?_)
 ·simp at h2
  obtain⟨x,hx⟩:=ai h2
  have cp:=List.mem_of_getElem? hx
  refine cf hx ?_
  refine ah (ih x cp (fu.2 x cp)) rfl ?_
  refine aU ?_
  refine aj (fun h3=> ?_) (fun h3=> ?_)
  ·refine aU ?_
   simp at h3
   exact G2
  ·exact TC
 ·simp at h2
  rw[cw hk.2 h2,Bool.true_and]
  exact dM
theorem ED(l:List Tm):aQ Tryz.prog 141 [.sl (l.map Tm.d)] (.ret [(Tm.mk 0 0 l).d]):=by
 refine aQ.ay mix VH ao ?_
 rw[ZG,Tm.jS]
 exact dM
structure Kr (l:List Tm):Prop where
 len:l.length<=1000
 all:∀t∈l,t.fits/\t.sz<=500
theorem Kr.cnt {l:List Tm}(h:Kr l){t:Tm}(ht:t∈l):t.yf:=Tm.yf.GA (h.all t ht).1 (by have:=(h.all t ht).2;omega)
theorem Kr.fG {l:List Tm}(h:Kr l):fG l<=500000:=by
 have:∀l:List Tm,(∀t∈l,t.sz<=500)->Go.Proofs.YtonbelhklnmjnaaGreat.fG l<=500*l.length:=by
  intro l
  induction l with
  |nil=>intro _;simp[Go.Proofs.YtonbelhklnmjnaaGreat.fG]
  |cons k l ih=>intro h;rw[eE,List.length_cons];have:=h k ao;have:=ih fun x hx=>h x lW;omega
 have:=this l fun t ht=>(h.all t ht).2
 have:=h.len
 omega
theorem Kr.fits {l:List Tm}(h:Kr l):(Tm.mk 0 0 l).fits:=by
 rw[Tm.aF]
 exact⟨by have:=h.len;simp only[Tm.kids];omega,fun k hk=>(h.all k hk).1⟩
theorem Kr.whole {l:List Tm}(h:Kr l):(Tm.mk 0 0 l).yf:=Tm.yf.GA h.fits (by have:=h.fG;rw[Tm.H8];omega)
theorem OZ(l:List Tm)(h:Kr l):aQ Tryz.prog 139 [.sl (l.map Tm.d)] (.ret [.bool (Es l)]):=by
 have hlen:=h.len
 refine aQ.ay mix afy ao ?_
 rw[afx]
 refine aU ?_
 refine aH (fun k:Nat=>⟨br [.d (.sl (l.map Tm.d)), .aa, .aa, .d (.i (((l.take k).map fun t=>(bp t).length).sum:Nat)), .d (.i k)],fun _=> .no,0⟩)
  (fun k=>k<=l.length) (fun k=>l.length - k) 0 (Nat.zero_le _) (bM.d0 _ ?_) (fun k hk=> ?_)
 ·exact dc
 replace hk:k<=l.length:=hk
 have hs:((l.take k).map fun t=>(bp t).length).sum<=500000:=by
  have h1:∀m:List Tm,(m.map fun t=>(bp t).length).sum<=Go.Proofs.YtonbelhklnmjnaaGreat.fG m:=by
   intro m
   induction m with
   |nil=>simp[Go.Proofs.YtonbelhklnmjnaaGreat.fG]
   |cons x m ih=>rw[List.map_cons,List.sum_cons,eE];have:=fq x;omega
  have h2:Go.Proofs.YtonbelhklnmjnaaGreat.fG l=Go.Proofs.YtonbelhklnmjnaaGreat.fG (l.take k)+Go.Proofs.YtonbelhklnmjnaaGreat.fG (l.drop k):=by
   conv=>lhs;rw[<- List.take_append_drop k l]
   unfold Go.Proofs.YtonbelhklnmjnaaGreat.fG;rw[List.map_append,List.sum_append]
  have:=h1 (l.take k)
  have:=h.fG
  omega
 refine ik ?_
 refine aj (fun h2=> ?_) (fun h2=> ?_)
 ·simp at h2
  obtain⟨x,hx⟩:=ai h2
  have cp:=List.mem_of_getElem? hx
  have hv:=fq x
  have hx5:=(h.all x cp).2
  have xE:((l.take (k+1)).map fun t=>(bp t).length).sum=((l.take k).map fun t=>(bp t).length).sum+(bp x).length:=by rw[List.take_add_one,hx,List.map_append,List.sum_append];simp
  refine dW hx ?_
  refine aT (mZ x (h.cnt cp)) ?_
  exact Mj
 ·simp at h2
  refine aU ?_
  refine aT (ED l) ?_
  refine aU ?_
  refine aT (mZ _ h.whole) ?_
  rw[List.take_of_length_le h2]
  refine ik ?_
  congr 3
  rw[Es,Bool.eq_iff_iff]
  simp
  omega
theorem Sl(t:Tm)(ht:t.yf)(p:List Int)(hp:p.length<=1000000):aQ Tryz.prog 140 [t.d, .sl (p.map .i)] (.ret [.bool (qu t p)]):=by
 have hz:t.sz<=1000000:=by have:=ht.size;rw[Tm.kY]at this;omega
 have hl:=kC t
 have hv:=fq t
 refine aQ.ay mix afA ao ?_
 rw[afz]
 refine aU ?_
 refine aN (Sk t ht.fits hz) ?_
 refine aU ?_
 refine aN (mZ t ht) ?_
 refine aU ?_
 refine aw bG ?_
 refine aU ?_
 let q:Int->Bool:=fun v=> !(decide (1<((bQ t).count v:Int))||p.contains v||(bp t).contains v)
 have hq:qu t p=(bQ t).all q:=rfl
 rw[hq]
 refine aH (fun k:Nat=>⟨br [.aa, .d (.sl (p.map .i)), .ptr 0 0, .aa, .aa, .d (.sl ((bQ t).map .i)), .d (.sl ((bp t).map .i)), .d (.i k)],fP t.row,1⟩)
  (fun k=>k<=(bQ t).length/\((bQ t).take k).all q=true) (fun k=>(bQ t).length - k) 0 ⟨Nat.zero_le _,ao⟩ (bM.d1 _ (ba rfl) af rfl ?_) (fun k hk=> ?_)
 ·exact dc
 refine ik ?_
 refine aj (fun h2=> ?_) (fun h2=> ?_)
 ·simp at h2
  obtain⟨x,hx⟩:=ai h2
  have hqx:q x= !(decide (1<((bQ t).count x:Int))||p.contains x||(bp t).contains x):=rfl
  refine dW hx ?_
  refine ah (OY (bQ t) x af) rfl ?_
  cases h3:decide (1<((bQ t).count x:Int))with
  |true=>
   refine iB hx h3 ?_
   rw[bZ hx (by rw[hqx,h3];rfl)]
  |false=>
   refine iB hx h3 ?_
   refine ah (OW p x af) rfl ?_
   cases h4:p.contains x with
   |true=>
    refine iB hx h3 ?_
    rw[bZ hx (by rw[hqx,h3,h4];rfl)]
   |false=>
    refine iB hx h3 ?_
    refine ah (OW (bp t) x af) rfl ?_
    cases h5:(bp t).contains x with
    |true=>
     refine iB hx h3 ?_
     rw[bZ hx (by rw[hqx,h3,h4,h5];rfl)]
    |false=>
     refine iB hx h3 ?_
     refine au (k+1) ⟨h2,cI hx hk.2 (by rw[hqx,h3,h4,h5];rfl)⟩ af (bM.d1 _ (ba rfl) af rfl ?_)
     exact dc
 ·exact G6
def Ah(s:aV)(n:Int)(p:Tm):Bool:=(eh s p&&((gL p []).2&&ig p))&&dJ n p
theorem Ai(s:aV)(r:Rl):gD s r=((lb s r&&eh s r.rhs)&&r.aZ.all (Ah s r.vars)&&(Es r.aZ&&dJ r.vars r.rhs&&qu r.rhs (bp (.mk 0 0 r.aZ)))):=rfl
set_option maxHeartbeats 1000000 in
theorem abh(s:aV)(hs:s.Fits)(r:Rl)(hp:Kr r.aZ)(hf:r.rhs.fits)(hz:r.rhs.sz<=500):aQ Tryz.prog 101 [s.d,r.d] (.ret [.bool (gD s r)]):=by
 have yP:=hp.len
 have hlf:=hs.lf
 have hrc:r.rhs.yf:=Tm.yf.GA hf af
 refine aQ.ay mix aeU ao ?_
 rw[aeT]
 have fin:(lb s r&&eh s r.rhs)=false->gD s r=false:=fun h=>by rw[Ai,h];rfl
 refine Xe ?_
 refine aq (Cs _ _ _) rfl ?_
 cases f1:cF r.fn 0 ((s.bR.length:Int) - 1)with
 |false=>
  have e:gD s r=false:=fin (by
   have:lb s r=false:=by
    simp only[cF,Bool.and_eq_false_iff,decide_eq_false_iff_not]at f1
    unfold lb
    by_cases h:0<=r.fn
    ·rw[List.getElem?_eq_none (by omega:s.bR.length<=r.fn.toNat)];simp
    ·rw[decide_eq_false h];rfl
   rw[this];rfl)
  refine Xe ?_
  exact Cu
 |true=>
 obtain⟨h0,x,hx⟩:=qF f1
 have Ev:lb s r=((r.aZ.length:Int)==x.args&&decide (0<=r.vars)&&decide (r.vars<=20)):=by
  unfold lb;rw[hx];simp[h0]
 cases f2:((r.aZ.length:Int)!=x.args)with
 |true=>
  have e:gD s r=false:=fin (by
   have:((r.aZ.length:Int)==x.args)=false:=by simpa using f2
   rw[Ev,this];rfl)
  exact Mk
 |false=>
 have xJ:((r.aZ.length:Int)==x.args)=true:=by simpa using f2
 refine Lk hx f2 ?_
 refine aq (Cs _ _ _) rfl ?_
 cases f3:cF r.vars 0 20 with
 |false=>
  have e:gD s r=false:=fin (by
   have:(decide (0<=r.vars)&&decide (r.vars<=20))=false:=f3
   rw[Ev,Bool.and_assoc ((r.aZ.length:Int)==x.args),this];simp)
  exact Mk
 |true=>
 have BM:(decide (0<=r.vars)&&decide (r.vars<=20))=true:=f3
 refine Lk hx f2 ?_
 refine aq (Ga s hs r.rhs hf) rfl ?_
 cases f4:eh s r.rhs with
 |false=>
  have e:gD s r=false:=fin (by rw[f4];simp)
  exact Mk
 |true=>
 have hh:lb s r=true:=by rw[Ev,xJ,Bool.true_and,BM]
 refine Lk hx f2 ?_
 refine aw (aD rfl) ?_
 refine aU ?_
 rw[Ai,hh,f4,Bool.true_and,Bool.true_and]
 refine aH (fun k:Nat=>⟨br [.aa, .aa, .ptr 0 0, .ptr 1 0, .aa, .d (.i k)],qj s.row r.row,2⟩)
  (fun k=>k<=r.aZ.length/\(r.aZ.take k).all (Ah s r.vars)=true) (fun k=>r.aZ.length - k) 0 ⟨Nat.zero_le _,ao⟩ (bM.d2 _ (df rfl rfl) af rfl rfl ?_) (fun k hk=> ?_)
 ·exact dc
 refine ik ?_
 refine aj (fun h2=> ?_) (fun h2=> ?_)
 ·simp at h2
  obtain⟨y,hy⟩:=ai h2
  have s9:=List.mem_of_getElem? hy
  have E7:=hp.all y s9
  refine dW hy ?_
  refine aq (Ga s hs y E7.1) rfl ?_
  cases g1:eh s y with
  |false=>
   refine dW hy ?_
   refine aw (aD rfl) ?_
   refine aU ?_
   rw[bZ hy (by rw[Ah,g1];rfl)];rfl
  |true=>
  refine dW hy ?_
  refine aq (Kq y (hp.cnt s9)) rfl ?_
  cases g2:((gL y []).2&&ig y)with
  |false=>
   refine dW hy ?_
   refine aw (aD rfl) ?_
   refine aU ?_
   rw[bZ hy (by rw[Ah,g1,g2];rfl)];rfl
  |true=>
  refine dW hy ?_
  refine aq (EC r.vars y E7.1) rfl ?_
  cases g3:dJ r.vars y with
  |false=>
   refine dW hy ?_
   refine aw (aD rfl) ?_
   refine aU ?_
   rw[bZ hy (by rw[Ah,g1,g2,g3];rfl)];rfl
  |true=>
  refine dW hy ?_
  refine aw (aD rfl) ?_
  refine aU ?_
  refine au (k+1) ⟨h2,cI hy hk.2 (by rw[Ah,g1,g2,g3];rfl)⟩ af (bM.d2 _ (df rfl rfl) af rfl rfl ?_)
  exact dc
 ·simp at h2
  rw[cw hk.2 h2,Bool.true_and]
  refine ik ?_
  refine aq (OZ r.aZ hp) rfl ?_
  cases g1:Es r.aZ with
  |false=>
   exact QJ
  |true=>
  refine ik ?_
  refine aq (EC r.vars r.rhs hf) rfl ?_
  cases g2:dJ r.vars r.rhs with
  |false=>
   exact QJ
  |true=>
  refine ik ?_
  refine aN (ED r.aZ) ?_
  refine ik ?_
  refine aN (mZ _ hp.whole) ?_
  refine ik ?_
  refine aq (Sl r.rhs hrc _ ?_) rfl ?_
  ·have:=fq (.mk 0 0 r.aZ);have:=hp.fG;rw[Tm.H8]at*;omega
  exact QJ
structure Pg.Fw (p:Pg):Prop where
 sig:p.sig.Fits
 len:p.rules.length<=1000
 all:∀r∈p.rules,Kr r.aZ/\r.rhs.fits/\r.rhs.sz<=500
theorem Sm(p:Pg)(hp:p.Fw):aQ Tryz.prog 57 [p.d] (.ret [.bool (eX p)]):=by
 have hl:=hp.len
 refine aQ.ay mix aiM ao ?_
 rw[c57,eX]
 refine ik ?_
 refine ah (agG p.sig hp.sig) rfl ?_
 cases h1:kU p.sig with
 |false=>
  exact Xj
 |true=>
 cases h2:decide (16<(p.rules.length:Int))with
 |true=>
  have jb:decide (p.rules.length<=16)=false:=by simp at h2|-;omega
  refine dW h2 ?_
  rw[jb];rfl
 |false=>
 have jb:decide (p.rules.length<=16)=true:=by simp at h2|-;omega
 refine dW h2 ?_
 rw[jb,Bool.true_and,Bool.true_and]
 refine aH (fun k:Nat=>⟨br [.aa, .ptr 0 0, .aa, .d (.i k)],fP p.row,1⟩)
  (fun k=>k<=p.rules.length/\(p.rules.take k).all (gD p.sig)=true) (fun k=>p.rules.length - k) 0 ⟨Nat.zero_le _,ao⟩ (bM.d1 _ (ba rfl) af rfl ?_) (fun k hk=> ?_)
 ·exact dc
 refine ik ?_
 refine aj (fun h2=> ?_) (fun h2=> ?_)
 ·simp at h2
  obtain⟨y,hy⟩:=ai h2
  have E7:=hp.all y (List.mem_of_getElem? hy)
  refine dW hy ?_
  refine aq (abh p.sig hp.sig y E7.1 E7.2.1 E7.2.2) rfl ?_
  cases g1:gD p.sig y with
  |false=>
   exact T4
  |true=>
  refine dW hy ?_
  refine aw (aD rfl) ?_
  refine aU ?_
  refine au (k+1) ⟨h2,cI hy hk.2 g1⟩ af (bM.d1 _ (ba rfl) af rfl ?_)
  exact dc
 ·exact G6
theorem GC(l:List Tm)(hl:l.length<=9223372036854775807)(hf:∀t∈l,t.fits):aQ Tryz.prog 120 [.sl (l.map Tm.d)] (.ret [.bool (ft l)]):=by
 refine aQ.ay mix afk ao ?_
 rw[afj]
 refine aU ?_
 refine aH (fun k:Nat=>⟨br [.d (.sl (l.map Tm.d)), .aa, .aa, .d (.i k)],fun _=> .no,0⟩)
  (fun k=>k<=l.length/\(l.take k).all iO=true) (fun k=>l.length - k) 0 ⟨Nat.zero_le _,ao⟩ (bM.d0 _ ?_) (fun k hk=> ?_)
 ·exact dc
 refine ik ?_
 refine aj (fun h2=> ?_) (fun h2=> ?_)
 ·simp at h2
  obtain⟨y,hy⟩:=ai (l:=l) (k:=k) af
  have E7:=hf y (List.mem_of_getElem? hy)
  refine dW hy ?_
  refine ah (Bz y E7) rfl ?_
  cases g1:iO y with
  |false=>
   refine dW hy ?_
   rw[ft,bZ hy g1,Bool.and_false]
  |true=>
  exact TZ
 ·refine ik ?_
  congr 3
  by_cases h3:l.length<=6
  ·have h4:l.length<=k:=by simp at h2;omega
   rw[ft,cw hk.2 h4]
   simp;omega
  ·rw[ft,decide_eq_false h3]
   simp;omega
theorem Ks(p:Pg)(hp:p.Fits):aQ Tryz.prog 76 [p.d] (.ret [.bool (gN p)]):=by
 have hl:=hp.len
 let q:Rl->Bool:=fun r=>ft r.aZ&&iO r.rhs
 have hq:gN p=((jr p.sig&&decide (p.rules.length<=20))&&p.rules.all q):=rfl
 refine aQ.ay mix aiZ ao ?_
 rw[c76,hq]
 refine aU ?_
 refine aH (fun k:Nat=>⟨br [.aa, .ptr 0 0, .aa, .d (.i k)],fP p.row,1⟩)
  (fun k=>k<=p.rules.length/\(p.rules.take k).all q=true) (fun k=>p.rules.length - k) 0 ⟨Nat.zero_le _,ao⟩ (bM.d1 _ (ba rfl) af rfl ?_) (fun k hk=> ?_)
 ·exact dc
 refine ik ?_
 refine aj (fun h2=> ?_) (fun h2=> ?_)
 ·simp at h2
  obtain⟨y,hy⟩:=ai (l:=p.rules) (k:=k) af
  have E7:=hp.all y (List.mem_of_getElem? hy)
  have hqy:q y=(ft y.aZ&&iO y.rhs):=rfl
  refine dW hy ?_
  refine ah (GC y.aZ E7.aZ E7.all) rfl ?_
  cases g1:ft y.aZ with
  |false=>
   refine dW hy ?_
   rw[bZ hy (by rw[hqy,g1];rfl),Bool.and_false]
  |true=>
  refine dW hy ?_
  refine ah (Bz y.rhs E7.rhs) rfl ?_
  cases g2:iO y.rhs with
  |false=>
   refine dW hy ?_
   rw[bZ hy (by rw[hqy,g1,g2];rfl),Bool.and_false]
  |true=>
  refine dW hy ?_
  refine au (k+1) ⟨af,cI hy hk.2 (by rw[hqy,g1,g2];rfl)⟩ af (bM.d1 _ (ba rfl) af rfl ?_)
  exact dc
 ·refine ik ?_
  refine ah (Gb p.sig hp.sig) rfl ?_
  cases g1:jr p.sig with
  |false=>exact Xj
  |true=>
  refine ik ?_
  congr 3
  by_cases h3:p.rules.length<=20
  ·have h4:p.rules.length<=k:=by simp at h2;omega
   rw[cw hk.2 h4]
   simp;omega
  ·rw[decide_eq_false h3]
   simp;omega
theorem Ku{p:Pg}(hf:p.Fits)(h:gN p=true):p.Fw:=by
 simp only[gN,ft,Bool.and_eq_true,decide_eq_true_eq,List.all_eq_true,qn]at h
 obtain⟨⟨_,hl⟩,h⟩:=h
 refine⟨hf.sig,af,fun r hr=> ?_⟩
 obtain⟨⟨a,b⟩,c⟩:=h r hr
 have AV:=hf.all r hr
 exact⟨⟨af,fun t ht=>⟨AV.all t ht,by have:=(b t ht).1;omega⟩⟩,AV.rhs,af⟩
theorem Sn{f:Pf}{k:Nat}{x:Pf}(hx:f.kids[k]? =some x)(left d:Int)(h:0<=ck (f.sh.kids.take k) left d):ck (f.sh.kids.take (k+1)) left d=eM x.sh (ck (f.sh.kids.take k) left d) d:=
 tW (by rw[Pf.mX,List.getElem?_map,hx];rfl) left d h
theorem EE:∀t:Pf,t.fits->∀left depth:Int, -1<=left/\left<=1000000-> -1<=depth/\depth<=1000000->aQ Tryz.prog 58 [t.d, .i left, .i depth] (.ret [.i (eM t.sh left depth)]):=by
 refine Pf.cc fun t ih hf left depth hl hd=> ?_
 have fu:=(Pf.aF _).1 hf
 refine aQ.ay mix aiN ao ?_
 rw[c58]
 refine b8 ?_
 refine aj (fun h1=> ?_) (fun h1=> ?_)
 ·refine b8 ?_
  simp at h1
  rw[D0 h1]
 ·simp at h1
  refine b8 ?_
  rw[wrap64 (n:=left - 1) (by omega) (by omega),wB,if_neg (by omega)]
  have si:t.sh.kids.length=t.kids.length:=by rw[Pf.mX,List.length_map]
  refine aH (fun k:Nat=>⟨br [.aa, .d (.i (ck (t.sh.kids.take k) (left - 1) (depth - 1))), .d (.i depth), .ptr 0 0, .aa, .aa, .aa, .d (.i k)],fP t.row,1⟩)
   (fun k=>k<=t.kids.length) (fun k=>t.kids.length - k) 0 (Nat.zero_le _) (bM.d1 _ (ba rfl) af rfl ?_) (fun k hk=> ?_)
  ·exact dc
  have hb:=zK (t.sh.kids.take k) (left - 1) (depth - 1) af
  simp+contextual only[go_sem,List.length_map]
  refine aj (fun h2=> ?_) (fun h2=> ?_)
  ·simp at h2
   obtain⟨x,hx⟩:∃x,t.kids[k]? =some x:=⟨t.kids[k],by simp[h2.1]⟩
   have cp:=List.mem_of_getElem? hx
   refine iC hx ?_
   rw[wrap64 (n:=depth - 1) (by omega) (by omega)]
   refine ah (ih x cp (fu.2.2.2.2 x cp) _ _ af af) rfl ?_
   refine b8 ?_
   rw[<- Sn hx _ _ h2.2]
   exact Uc
  ·refine b8 ?_
   simp only[Bool.and_eq_false_iff,decide_eq_false_iff_not]at h2
   congr 3
   rcases h2 with h2|h2
   ·rw[List.take_of_length_le (by omega)]
   ·exact tX _ _ af
theorem O0(s:aV)(hs:s.Fits)(l:List Tm)(hl:l.length<=9223372036854775807)(hf:∀t∈l,t.fits):aQ Tryz.prog 24 [s.d, .sl (l.map Tm.d)] (.ret [.bool (lu s l)]):=by
 refine aQ.ay mix ait ao ?_
 rw[c24]
 refine aU ?_
 refine aH (fun k:Nat=>⟨br [.aa, .d (.sl (l.map Tm.d)), .ptr 0 0, .aa, .aa, .d (.i k)],fP s.row,1⟩)
  (fun k=>k<=l.length/\(l.take k).all (mu s)=true) (fun k=>l.length - k) 0 ⟨Nat.zero_le _,ao⟩ (bM.d1 _ (ba rfl) af rfl ?_) (fun k hk=> ?_)
 ·exact dc
 refine ik ?_
 refine aj (fun h2=> ?_) (fun h2=> ?_)
 ·simp at h2
  obtain⟨y,hy⟩:=ai (l:=l) (k:=k) af
  have E7:=hf y (List.mem_of_getElem? hy)
  refine dW hy ?_
  refine aq (te s hs y E7) rfl ?_
  cases g1:mu s y with
  |false=>
   refine dW hy ?_
   refine aw (aD rfl) ?_
   refine aU ?_
   rw[lu,bZ hy g1,Bool.and_false]
  |true=>
  refine dW hy ?_
  refine aw (aD rfl) ?_
  refine aU ?_
  exact TS
 ·refine ik ?_
  congr 3
  by_cases h3:l.length<=20
  ·have h4:l.length<=k:=by simp at h2;omega
   rw[lu,cw hk.2 h4]
   simp;omega
  ·rw[lu,decide_eq_false h3]
   simp;omega
def gr(l:List Tm):Bool:=decide (l.length<=25)&&l.all iS
theorem EF(l:List Tm)(hl:l.length<=9223372036854775807)(hf:∀t∈l,t.fits):aQ Tryz.prog 22 [.sl (l.map Tm.d)] (.ret [.bool (gr l)]):=by
 refine aQ.ay mix air ao ?_
 rw[c22]
 refine aU ?_
 refine aH (fun k:Nat=>⟨br [.d (.sl (l.map Tm.d)), .aa, .aa, .d (.i k)],fun _=> .no,0⟩)
  (fun k=>k<=l.length/\(l.take k).all iS=true) (fun k=>l.length - k) 0 ⟨Nat.zero_le _,ao⟩ (bM.d0 _ ?_) (fun k hk=> ?_)
 ·exact dc
 refine ik ?_
 refine aj (fun h2=> ?_) (fun h2=> ?_)
 ·simp at h2
  obtain⟨y,hy⟩:=ai (l:=l) (k:=k) af
  have E7:=hf y (List.mem_of_getElem? hy)
  refine dW hy ?_
  refine ah (rL y E7) rfl ?_
  cases g1:iS y with
  |false=>
   refine dW hy ?_
   rw[gr,bZ hy g1,Bool.and_false]
  |true=>
  exact TZ
 ·refine ik ?_
  congr 3
  by_cases h3:l.length<=25
  ·have h4:l.length<=k:=by simp at h2;omega
   rw[gr,cw hk.2 h4]
   simp;omega
  ·rw[gr,decide_eq_false h3]
   simp;omega
theorem O1(s:aV)(hs:s.Fits):∀f:Pf,f.fits->aQ Tryz.prog 59 [s.d,f.d] (.ret [.bool (fy s f)]):=by
 refine Pf.cc fun f ih hf=> ?_
 have fu:=(Pf.aF _).1 hf
 refine aQ.ay mix aiO ao ?_
 rw[c59,dR]
 refine aU ?_
 refine ah (te s hs f.val fu.1) rfl ?_
 cases h1:mu s f.val with
 |false=>
  refine aU ?_
  rw[ee,h1];rfl
 |true=>
 refine aU ?_
 refine ah (O0 s hs f.binds fu.2.1 fu.2.2.1) rfl ?_
 cases h2:lu s f.binds with
 |false=>
  refine aU ?_
  rw[ee,h1,h2];rfl
 |true=>
 have hn:ee s f=(f.az==6||(f.num==0&&f.binds.length==0)):=by rw[ee,h1,h2];rfl
 refine ik ?_
 refine aj (fun h3=> ?_) (fun h3=> ?_)
 ·have:ee s f=false:=by
   rw[hn]
   simp only[Bool.and_eq_true,bne_iff_ne,Bool.or_eq_true,decide_eq_true_eq]at h3
   simp only[Bool.or_eq_false_iff,beq_eq_false_iff_ne,Bool.and_eq_false_iff]
   refine⟨h3.1, ?_⟩
   rcases h3.2 with h|h
   ·exact .inl h
   ·exact .inr af
  refine aU ?_
  rw[this];rfl
 ·have:ee s f=true:=by
   rw[hn]
   simp only[Bool.and_eq_false_iff,bne_eq_false_iff_eq,Bool.or_eq_false_iff,decide_eq_false_iff_not]at h3
   simp only[Bool.or_eq_true,beq_iff_eq,Bool.and_eq_true]
   rcases h3 with h|h
   ·exact .inl h
   ·exact .inr ⟨h.1,af⟩
  refine aU ?_
  rw[this,Bool.true_and]
  refine aH (fun k:Nat=>⟨br [.aa, .aa, .ptr 0 0, .ptr 1 0, .aa, .d (.i k)],qj s.row f.row,2⟩)
   (fun k=>k<=f.kids.length/\(f.kids.take k).all (fy s)=true) (fun k=>f.kids.length - k) 0 ⟨Nat.zero_le _,ao⟩ (bM.d2 _ (df rfl rfl) af rfl rfl ?_) (fun k hk=> ?_)
  ·exact dc
  refine ik ?_
  refine aj (fun h2=> ?_) (fun h2=> ?_)
  ·simp at h2
   obtain⟨y,hy⟩:=ai (l:=f.kids) (k:=k) af
   have s9:=List.mem_of_getElem? hy
   refine dW hy ?_
   refine aq (ih y s9 (fu.2.2.2.2 y s9)) rfl ?_
   cases g1:fy s y with
   |false=>
    exact T4
   |true=>
   refine dW hy ?_
   refine aw (aD rfl) ?_
   refine aU ?_
   refine au (k+1) ⟨af,cI hy hk.2 g1⟩ af (bM.d2 _ (df rfl rfl) af rfl rfl ?_)
   exact dc
  ·exact G6
theorem EG(p:Pg)(hp:p.sig.Fits)(f:Pf)(hf:f.fits):aQ Tryz.prog 13 [p.d,f.d] (.ret [.bool (ej p.sig f)]):=by
 refine aQ.ay mix aim ao ?_
 rw[c13,ej]
 refine aU ?_
 refine ah (EE f hf 500 150 af af) rfl ?_
 cases h1:decide (0<=eM f.sh 500 150)with
 |false=>exact ve h1
 |true=>
  refine cf h1 ?_
  refine ah (O1 p.sig hp f hf) rfl ?_
  exact dM
mutual
def pP:Pf->Bool
 | .mk _ v _ b kids=>(iS v&&gr b)&&BV kids
def BV:List Pf->Bool
 |[]=>true
 |k::l=>pP k&&BV l
end
theorem xa(f:Pf):pP f=((iS f.val&&gr f.binds)&&f.kids.all pP):=by
 have:∀l:List Pf,BV l=l.all pP:=fun l=>by
  induction l with
  |nil=>rfl
  |cons k l ih=>simp[BV,ih]
 cases f;rw[pP,this];rfl
theorem abi:∀f:Pf,f.fits->aQ Tryz.prog 73 [f.d] (.ret [.bool (pP f)]):=by
 refine Pf.cc fun f ih hf=> ?_
 have fu:=(Pf.aF _).1 hf
 refine aQ.ay mix aiW ao ?_
 rw[c73,xa]
 refine aU ?_
 refine ah (rL f.val fu.1) rfl ?_
 cases h1:iS f.val with
 |false=>exact dM
 |true=>
 refine aU ?_
 refine ah (EF f.binds fu.2.1 fu.2.2.1) rfl ?_
 cases h2:gr f.binds with
 |false=>exact dM
 |true=>
 refine aU ?_
 refine aH (fun k:Nat=>⟨br [.aa, .ptr 0 0, .aa, .d (.i k)],fP f.row,1⟩)
  (fun k=>k<=f.kids.length/\(f.kids.take k).all pP=true) (fun k=>f.kids.length - k) 0 ⟨Nat.zero_le _,ao⟩ (bM.d1 _ (ba rfl) af rfl ?_) (fun k hk=> ?_)
 ·exact dc
 refine ik ?_
 refine aj (fun h2=> ?_) (fun h2=> ?_)
 ·simp at h2
  obtain⟨y,hy⟩:=ai (l:=f.kids) (k:=k) af
  have s9:=List.mem_of_getElem? hy
  refine dW hy ?_
  refine ah (ih y s9 (fu.2.2.2.2 y s9)) rfl ?_
  cases g1:pP y with
  |false=>
   refine dW hy ?_
   rw[bZ hy g1]
  |true=>
  refine dW hy ?_
  exact TS
 ·exact G6
def jM(f:Pf):Bool:=decide (0<=eM f.sh 520 160)&&pP f
theorem Aj(f:Pf)(hf:f.fits):aQ Tryz.prog 34 [f.d] (.ret [.bool (jM f)]):=by
 refine aQ.ay mix aiy ao ?_
 rw[c34,jM]
 refine aU ?_
 refine ah (EE f hf 520 160 af af) rfl ?_
 cases h1:decide (0<=eM f.sh 520 160)with
 |false=>exact ve h1
 |true=>
  refine cf h1 ?_
  refine ah (abi f hf) rfl ?_
  exact dM
def gU(s:aV)(env:List Tm)(e:Tm):Bool:=(lu s env&&eh s e)&&((bp e).length==0||decide ((bp e).getLast?.getD 0<(env.length:Int)))
theorem O2(p:Pg)(hp:p.sig.Fits)(env:List Tm)(hl:env.length<=9223372036854775807)(hf:∀t∈env,t.fits)(e:Tm)(he:e.yf):aQ Tryz.prog 18 [p.d, .sl (env.map Tm.d),e.d] (.ret [.bool (gU p.sig env e)]):=by
 have P9:=fq e
 have hz:=he.size
 rw[Tm.kY]at hz
 refine aQ.ay mix aip ao ?_
 rw[c18,gU]
 refine aU ?_
 refine ah (O0 p.sig hp env hl hf) rfl ?_
 cases h1:lu p.sig env with
 |false=>exact dM
 |true=>
 refine aU ?_
 refine ah (Ga p.sig hp e he.fits) rfl ?_
 cases h2:eh p.sig e with
 |false=>exact dM
 |true=>
 refine aU ?_
 refine aT (mZ e he) ?_
 cases h3:((bp e).length==0)with
 |true=>
  have sR:((bp e).length:Int)==0:=by simpa using h3
  simp+contextual (disch:=first|omega|simp only[go_sem,false_implies]) only[go_sem,wrap64,if_pos,List.length_map,sR]
 |false=>
  have sR:(((bp e).length:Int)==0)=false:=by simpa using h3
  have gH:0<(bp e).length:=by simp at h3;exact List.length_pos_iff.2 h3
  obtain⟨y,hy⟩:=ai (l:=bp e) (k:=(bp e).length - 1) af
  have gz:((bp e).length:Int) - 1=(((bp e).length - 1:Nat):Int):=af
  have tz:(bp e).getLast?=some y:=by rw[List.getLast?_eq_getElem?,hy]
  simp+contextual (disch:=first|omega|simp only[go_sem,false_implies]) only[go_sem,wrap64,if_pos,List.length_map,sR,gz,hy,tz,Option.getD_some]
def Iw:IC:=RN.snd.snd.snd.fst.snd.fst.fst
theorem uh{t:Tm}(hf:t.fits)(hz:t.sz<=1000000)(ih:∀k∈t.kids,k.fits->k.sz<=1000000->aQ Tryz.prog 235 [k.d] (.ret [.sl ((bQ k).map .i)]))(p:List Int)(hp:p.length<=1){e:Nat->V}{o:Nat->ab}{nx:Nat}{Q:gf->S->Prop}
 (hs:bM 0 ⟨e,o,nx⟩ ⟨br [.aa, .ptr 0 0, .aa, .osl 1 0, .d (.i 0)],aM (aM (fun _=> .no) 0 (.row t.row)) 1 (.arr 0 3 1 (p.map .i)),2⟩)
 (hQ:∀e' n',e' 3= .osl 1 0->Q (.exit 0) ⟨e',aM (aM (fun _=> .no) 0 (.row t.row)) 1 (.arr 0 3 1 ((p++bD t.kids).map .i)),n'⟩):
 rB 0 (fun Q s=>ll Tryz.prog 29 0 false Iw Q s) Q ⟨e,o,nx⟩:=by
 have fu:=(Tm.aF _).1 hf
 have ss:=Tm.gw t
 refine aH (fun i:Nat=>⟨br [.aa, .ptr 0 0, .aa, .osl 1 0, .d (.i i)],aM (aM (fun _=> .no) 0 (.row t.row)) 1 (.arr 0 3 1 ((p++bD (t.kids.take i)).map .i)),2⟩)
  (fun i=>i<=t.kids.length) (fun i=>t.kids.length - i) 0 (Nat.zero_le _) ?_ fun k hk=> ?_
 ·simpa[bD]using hs
 replace hk:k<=t.kids.length:=hk
 simp only[Iw,RN,IC.snd,IC.fst]
 refine ik ?_
 refine aj (fun h2=> ?_) (fun h2=> ?_)
 ·simp at h2
  obtain⟨x,hx⟩:=ai h2
  have cp:=List.mem_of_getElem? hx
  have xE:t.kids.take (k+1)=t.kids.take k++[x]:=by rw[List.take_add_one,hx];rfl
  have xG:(bD (t.kids.take k)).length<=fG (t.kids.take k):=qv _ fun y _=>kC y
  have eo:fG t.kids=fG (t.kids.take k)+fG (t.kids.drop k):=by
   conv=>lhs;rw[<- List.take_append_drop k t.kids]
   exact Qy
  have CS:=jw cp
  have nm:=kC x
  have Uz:(p++bD (t.kids.take k)).length<=1000001:=by rw[List.length_append];omega
  exact ac8
 ·simp at h2
  have si:k=t.kids.length:=af
  exact Ms
theorem O3:∀t:Tm,t.fits->t.sz<=1000000->aQ Tryz.prog 235 [t.d] (.ret [.sl ((bQ t).map .i)]):=by
 refine Tm.cc fun t ih hf hz=> ?_
 refine aQ.ay mix agv ao ?_
 rw[RN,iA]
 by_cases h8:t.op=8
 ·have E6:(t.op==8)=true:=by simpa using h8
  refine cf E6 ?_
  rw[if_pos h8]
  refine uh hf hz ih [t.n] ao ?_ fun e' n' he=> ?_
  ·refine bM.jP (fun j=>1<=j) _ 1 _ af (G3 (cP (y:= .row t.row) dn dn (bE rfl iX))) (ae _ _ _) (.inr ⟨_,_, ?_,rfl,by(repeat(first|rfl|rw[ae]|rw[ak _ _ _ _ (by omega)]))⟩) (fun j hj=>by(repeat(first|rfl|rw[ae]|rw[ak _ _ _ _ (by omega)]))) (fun j h h2=>af) ?_
   ·decide
   ·exact oP
  ·exact IU
 ·have E6:(t.op==8)=false:=by simpa using h8
  refine cf E6 ?_
  rw[if_neg h8]
  refine uh hf hz ih [] ao ?_ fun e' n' he=> ?_
  ·exact XI
  ·exact IU
theorem Kv(l:List Tm):aQ Tryz.prog 234 [.sl (l.map Tm.d)] (.ret [(Tm.mk 0 0 l).d]):=by
 refine aQ.ay mix agu ao ?_
 rw[agt,Tm.jS]
 exact dM
theorem O4(l:List Int)(n:Int)(hl:l.length<=1000000):aQ Tryz.prog 236 [.sl (l.map .i), .i n] (.ret [.bool (l.contains n)]):=by
 refine aQ.ay mix agx ao ?_
 rw[agw]
 refine aU ?_
 refine aH (fun k:Nat=>⟨br [.d (.sl (l.map .i)), .d (.i n), .aa, .aa, .aa, .d (.i k)],fun _=> .no,0⟩)
  (fun k=>k<=l.length/\(l.take k).contains n=false) (fun k=>l.length - k) 0 ⟨Nat.zero_le _,ao⟩ (bM.d0 _ ?_) (fun k hk=> ?_)
 ·exact dc
 refine aU ?_
 refine aj (fun h2=> ?_) (fun h2=> ?_)
 ·simp at h2
  obtain⟨x,hx⟩:=ai h2
  refine cf hx ?_
  refine aj (fun h3=> ?_) (fun h3=> ?_)
  ·refine aU ?_
   have:l.contains n=true:=by
    exact Xr
   rw[this]
  ·refine aU ?_
   refine au (k+1) ⟨h2, ?_⟩ af (bM.d0 _ ?_)
   ·have h4: ¬n=x:=fun e=>by subst e;simp at h3
    have h5:=hk.2
    rw[List.take_add_one,hx]
    rw[Bool.eq_false_iff]at h5|-
    intro hc;apply h5
    rw[List.contains_iff_mem]at hc|-
    rcases List.mem_append.1 hc with hc|hc
    ·exact hc
    ·simp at hc;exact absurd hc h4
   ·exact dc
 ·simp at h2
  refine aU ?_
  have:=hk.2
  exact Mx
theorem O5(l:List Int)(n:Int)(hl:l.length<=1000000):aQ Tryz.prog 201 [.sl (l.map .i), .i n] (.ret [.bool (l.contains n)]):=by
 refine aQ.ay mix agi ao ?_
 rw[agh]
 refine aU ?_
 refine aH (fun k:Nat=>⟨br [.d (.sl (l.map .i)), .d (.i n), .aa, .aa, .aa, .d (.i k)],fun _=> .no,0⟩)
  (fun k=>k<=l.length/\(l.take k).contains n=false) (fun k=>l.length - k) 0 ⟨Nat.zero_le _,ao⟩ (bM.d0 _ ?_) (fun k hk=> ?_)
 ·exact dc
 refine aU ?_
 refine aj (fun h2=> ?_) (fun h2=> ?_)
 ·simp at h2
  obtain⟨x,hx⟩:=ai h2
  refine cf hx ?_
  refine aj (fun h3=> ?_) (fun h3=> ?_)
  ·refine aU ?_
   have:l.contains n=true:=by
    exact Xr
   rw[this]
  ·refine aU ?_
   refine au (k+1) ⟨h2, ?_⟩ af (bM.d0 _ ?_)
   ·have h4: ¬n=x:=fun e=>by subst e;simp at h3
    have h5:=hk.2
    rw[List.take_add_one,hx]
    rw[Bool.eq_false_iff]at h5|-
    intro hc;apply h5
    rw[List.contains_iff_mem]at hc|-
    rcases List.mem_append.1 hc with hc|hc
    ·exact hc
    ·simp at hc;exact absurd hc h4
   ·exact dc
 ·simp at h2
  refine aU ?_
  have:=hk.2
  exact Mx
theorem ag5(n low high:Int):aQ Tryz.prog 199 [.i n, .i low, .i high] (.ret [.bool (cF n low high)]):=by
 refine aQ.ay mix agd ao ?_
 rw[agc]
 refine b8 ?_
 rfl
theorem O6:ec.d= .agg [.i 16, .i 0, .sl []]:=by unfold ec;rw[Tm.jS];rfl
theorem GD(b:Bool):(ed b).d= .agg [.i 3, .i (if b=true then 1 else 0), .sl []]:=by unfold ed;rw[Tm.jS];rfl
theorem O7:aQ Tryz.prog 45 [] (.ret [ec.d]):=by
 refine aQ.ay mix aev ao ?_
 rw[c45,O6]
 exact dM
theorem qG:aQ Tryz.prog 149 [] (.ret [(ed true).d]):=by
 refine aQ.ay mix afQ ao ?_
 rw[afP,GD]
 exact dM
theorem O8:aQ Tryz.prog 203 [] (.ret [(ed false).d]):=by
 refine aQ.ay mix agm ao ?_
 rw[agl,GD]
 exact dM
theorem EH(b:Bool):aQ Tryz.prog 151 [.bool b] (.ret [(ed b).d]):=by
 refine aQ.ay mix afU ao ?_
 rw[afT]
 cases b with
 |true=>
  refine aU ?_
  refine aT qG ?_
  exact dM
 |false=>
  refine aU ?_
  refine aT O8 ?_
  exact dM
def bdN(n:Int):Prop:= -1000000<=n/\n<=1000000
theorem BW(op a b:Int):(ns op a b).d=if op=15 then(ed (decide (a<b))).d else .agg [.i 2, .i (if op=14 then a - b else a+b), .sl []]:=by
 unfold ns
 split
 ·rfl
 ·rw[Tm.jS];rfl
def Kw(op a b:Int):Bool:=if op=15 then true else cF (if op=14 then a - b else a+b) (-1000000) 1000000
theorem abj(op a b:Int)(ha:bdN a)(hb:bdN b):aQ Tryz.prog 152 [.i op, .i a, .i b] (.ret [(ns op a b).d, .bool (Kw op a b)]):=by
 obtain⟨a0,a1⟩:=ha
 obtain⟨b0,b1⟩:=hb
 refine aQ.ay mix afW ao ?_
 rw[afV,BW,Kw]
 by_cases h1:op=15
 ·subst h1
  refine aU ?_
  refine aT (EH _) ?_
  exact dM
 ·have bL:(op==15)=false:=by simpa using h1
  rw[if_neg h1,if_neg h1]
  by_cases h2:op=14
  ·subst h2
   refine aU ?_
   refine ah (yI _ _ _) rfl ?_
   exact dM
  ·have jb:(op==14)=false:=by simpa using h2
   rw[if_neg h2]
   refine xB bL jb ?_
   refine ah (yI _ _ _) rfl ?_
   exact dM
theorem Sp(l:List Pf)(hl:l.length<=1000000):aQ Tryz.prog 143 [.sl (l.map Pf.d)] (.ret [.sl ((l.map Pf.val).map Tm.d)]):=by
 refine aQ.ay mix afE ao ?_
 rw[afD]
 refine aU ?_
 refine aH (fun i:Nat=>⟨br [.d (.sl (l.map Pf.d)), .aa, .aa, .osl 0 0, .d (.i i)],aM (fun _=> .no) 0 (.arr 0 31 3 (((l.take i).map Pf.val).map Tm.d)),1⟩)
  (fun i=>i<=l.length) (fun i=>l.length - i) 0 (Nat.zero_le _) (bM.jP (ty:=31) (sz:=3) (es:=[]) (fun _=>False) .bO 0 _ af (fun j hj=>absurd hj af) (by rw[ae];simp) (.inl ⟨rfl,rfl,bG⟩) (fun j hj=>by(repeat(first|rfl|rw[ae]|rw[ak _ _ _ _ (by omega)]))) (fun _ h=>h.elim) ?_) ?_
 ·exact oP
 rintro k hk
 replace hk:k<=l.length:=hk
 have e0:(l.take k).length=k:=by rw[List.length_take];omega
 refine dW e0 ?_
 refine aj (fun h2=> ?_) (fun h2=> ?_)
 ·simp at h2
  obtain⟨x,hx⟩:=ai h2
  have xE:l.take (k+1)=l.take k++[x]:=by rw[List.take_add_one,hx];rfl
  refine iB hx e0 ?_
  refine au (k+1) h2 af (bM.jP (fun j=>j=0) (.osl 0 1) 0 _ af (fun j hj=>absurd hj af) (ae _ _ _) (.inr ⟨0,1,rfl,rfl,by rw[ae,xE,List.map_append,List.map_append];rfl⟩) (fun j hj=>by(repeat(first|rfl|rw[ae]|rw[ak _ _ _ _ (by omega)]))) (fun j h h2=>af) ?_)
  exact oP
 ·simp at h2
  have si:k=l.length:=af
  subst si
  rw[List.take_length]
  exact dM
theorem Mo{l:List Tm}{t x:Tm}(h1:t.op=1)(hx:l[t.n.toNat]? =some x):fj l t=x:=by rw[rT,if_pos h1,hx];rfl
def tu(n:Nat)(t:Tm):Prop:=∀x∈ja t,x.op=1->0<=x.n/\x.n<n
theorem tu.gE {n:Nat}{t k:Tm}(h:tu n t)(hk:k∈t.kids):tu n k:=fun x hx=>h x (by rw[nB];exact List.mem_cons_of_mem _ (List.mem_flatMap.2 ⟨k,hk,hx⟩))
theorem abk(l:List Tm)(hl:l.length<=1000000):∀t:Tm,t.fits->t.sz<=1000000->tu l.length t->aQ Tryz.prog 145 [t.d, .sl (l.map Tm.d)] (.ret [(fj l t).d]):=by
 refine Tm.cc fun t ih hf hz ho=> ?_
 have fu:=(Tm.aF _).1 hf
 have ss:=Tm.gw t
 refine aQ.ay mix afI ao ?_
 rw[afH]
 by_cases h1:t.op=1
 ·have bL:(t.op==1)=true:=by simpa using h1
  exact Tv
 ·have bL:(t.op==1)=false:=by simpa using h1
  rw[rT,if_neg h1]
  refine cf bL ?_
  refine aH (fun i:Nat=>⟨br [.aa, .d (.sl (l.map Tm.d)), .ptr 0 0, .aa, .ptr 1 0, .osl 2 0, .d (.i i)],aM (aM (aM (fun _=> .no) 0 (.row t.row)) 1 (.row [.d (.i 0), .d (.i 0), .bO])) 2 (.arr 0 31 3 (((t.kids.take i).map (fj l)).map Tm.d)),3⟩)
   (fun i=>i<=t.kids.length) (fun i=>t.kids.length - i) 0 (Nat.zero_le _) (bM.jP (ty:=31) (sz:=3) (es:=[]) (fun _=>False) .bO 2 _ af (lt2 (bE rfl iX) (bE rfl iX)) (by rw[ae];simp) (.inl ⟨rfl,rfl,bG⟩) (fun j hj=>by(repeat(first|rfl|rw[ae]|rw[ak _ _ _ _ (by omega)]))) (fun _ h=>h.elim) ?_) ?_
  ·exact oP
  rintro k hk
  replace hk:k<=t.kids.length:=hk
  refine ik ?_
  refine aj (fun h2=> ?_) (fun h2=> ?_)
  ·simp at h2
   obtain⟨x,hx⟩:=ai h2
   have cp:=List.mem_of_getElem? hx
   have CS:=jw cp
   have si:t.kids.length<=1000000:=by
    have:∀l:List Tm,l.length<=fG l:=fun l=>by
     induction l with
     |nil=>simp
     |cons k l ih=>rw[eE,List.length_cons];have:=Tm.wG k;omega
    have:=this t.kids;omega
   have xE:t.kids.take (k+1)=t.kids.take k++[x]:=by rw[List.take_add_one,hx];rfl
   have e0:(t.kids.take k).length=k:=by rw[List.length_take];omega
   refine iB hx e0 ?_
   refine aT (ih x cp (fu.2 x cp) af (ho.gE cp)) ?_
   refine iB hx e0 ?_
   refine au (k+1) h2 af (bM.jP (fun j=>j=2) (.osl 2 1) 2 _ af (lt2 (cP (y:= .row t.row) dn dn (bE rfl iX)) (cP (y:= .row [.d (.i 0), .d (.i 0), .bO]) dn dn (bE rfl iX))) (ae _ _ _) (.inr ⟨2,1,rfl,rfl,by(repeat(first|rfl|rw[ae]|rw[ak _ _ _ _ (by omega)]));rw[xE,List.map_append,List.map_append];rfl⟩) (fun j hj=>by(repeat(first|rfl|rw[ae]|rw[ak _ _ _ _ (by omega)]))) (fun j h h2=>af) ?_)
   exact oP
  ·simp at h2
   have si:k=t.kids.length:=af
   subst si
   rw[List.take_length]
   refine ik ?_
   rw[Tm.jS]
def iW(n:Nat):List Tm:=(List.range n).map fun i:Nat=> .mk 1 (i:Int) []
theorem xb(n:Nat):iW (n+1)=iW n++[.mk 1 (n:Int) []]:=by simp[iW,List.range_succ]
theorem Sq(n:Nat)(hn:n<=1000):aQ Tryz.prog 237 [.i n] (.ret [.sl ((iW n).map Tm.d)]):=by
 refine aQ.ay mix agz ao ?_
 rw[agy]
 refine aU ?_
 refine aH (fun i:Nat=>⟨br [.d (.i n), .aa, .aa, .osl 0 0, .d (.i i)],aM (fun _=> .no) 0 (.arr 0 31 3 ((iW i).map Tm.d)),1⟩)
  (fun i=>i<=n) (fun i=>n - i) 0 (Nat.zero_le _) (bM.jP (ty:=31) (sz:=3) (es:=[]) (fun _=>False) .bO 0 _ af (fun j hj=>absurd hj af) (by rw[ae];simp[iW]) (.inl ⟨rfl,rfl,bG⟩) (fun j hj=>by(repeat(first|rfl|rw[ae]|rw[ak _ _ _ _ (by omega)]))) (fun _ h=>h.elim) ?_) ?_
 ·exact oP
 rintro k hk
 replace hk:k<=n:=hk
 have e0:(iW k).length=k:=by simp[iW]
 refine dW e0 ?_
 refine aj (fun h2=> ?_) (fun h2=> ?_)
 ·simp at h2
  refine dW e0 ?_
  refine aT (aa5 k) ?_
  refine dW e0 ?_
  refine au (k+1) h2 af (bM.jP (fun j=>j=0) (.osl 0 1) 0 _ af (fun j hj=>absurd hj af) (ae _ _ _) (.inr ⟨0,1,rfl,rfl,by rw[ae,xb,List.map_append];rfl⟩) (fun j hj=>by(repeat(first|rfl|rw[ae]|rw[ak _ _ _ _ (by omega)]))) (fun j h h2=>af) ?_)
  exact oP
 ·simp at h2
  have si:k=n:=af
  subst si
  exact dM
theorem O9(p:Pg)(f:Int)(x:ki)(h0:0<=f)(hx:p.sig.bR[f.toNat]? =some x)(h1:0<=x.args)(h2:x.args<=1000):aQ Tryz.prog 202 [p.d, .i f] (.ret [.sl ((iW x.args.toNat).map Tm.d)]):=by
 have:=Sq x.args.toNat af
 rw[show((x.args.toNat:Nat):Int)=x.args by omega]at this
 refine aQ.ay mix agk ao ?_
 rw[agj]
 refine xB hx h0 ?_
 refine aT this ?_
 exact dM
theorem Kx(p:Pg)(f:Int)(x:ki)(h0:0<=f)(hx:p.sig.bR[f.toNat]? =some x)(h1:0<=x.args)(h2:x.args<=1000):aQ Tryz.prog 148 [p.d, .i f] (.ret [(lg p.sig f).d]):=by
 have e:(lg p.sig f).d= .agg [.i 4, .i f, .sl ((iW x.args.toNat).map Tm.d)]:=by
  unfold lg
  rw[Tm.jS,fF hx];rfl
 refine aQ.ay mix afO ao ?_
 rw[afN,e]
 refine aU ?_
 refine aT (O9 p f x h0 hx h1 h2) ?_
 exact dM
theorem Ak:aQ Tryz.prog 94 [.sl []] (.ret [.sl []]):=by
 refine aQ.ay mix NZ ao ?_
 rw[c94]
 have hu:Tryz.prog.underlying 28=some (.slice 31):=ag
 have heq:∀O,sj Tryz.prog O 28 true (.d (.sl [])) .bO=some .fI:=by
  intro O
  unfold sj
  rw[hu]
  rfl
 refine cf heq ?_
 simp only[List.isEmpty_nil,if_true]
 exact ve heq
theorem xc(l:List Tm)(il:l≠[])(hl:l.length<=1000000)(o:Nat->ab)(nx:Nat)(K X:V->(Nat->ab)->Nat->Prop)
 (hK:K (.osl (nx+3) 1) (aM o (nx+3) (.arr 1 31 3 (l.map Tm.d))) (nx+7)):
 cR Tryz.prog 94 [.d (.sl (l.map Tm.d))] o nx K X:=by
 refine cR.ay mix NZ ao ?_
 rw[c94]
 have hu:Tryz.prog.underlying 28=some (.slice 31):=ag
 have heq:∀O,sj Tryz.prog O 28 true (.d (.sl (l.map Tm.d))) .bO=some (.d (.bool false)):=by
  intro O
  unfold sj
  rw[hu]
  cases l with
  |nil=>exact absurd rfl il
  |cons a l=>rfl
 refine Ch heq ?_
 simp only[List.isEmpty_nil,if_true]
 refine Ch heq ?_
 rw[jB]
 exact hK
theorem EI(l:List Tm)(hl:l.length<=1000000)(h:∀t∈l,aQ Tryz.prog 53 [.sl (t.kids.map Tm.d)] (.ret [.sl (t.kids.map Tm.d)])):aQ Tryz.prog 53 [.sl (l.map Tm.d)] (.ret [.sl (l.map Tm.d)]):=by
 refine aQ.ay mix aex ao ?_
 rw[c53]
 cases il:l with
 |nil=>
  refine aU ?_
  refine aT Ak ?_
  refine aU ?_
  refine aH (fun _:Unit=>⟨br [.aa, .aa, .aa, .d (.sl []), .aa, .aa, .aa, .aa, .d (.sl []), .d (.i 0), .d (.i 0)],fun _=> .no,1⟩) (fun _=>True) (fun _=>0) () trivial (bM.b9 _ af af dE (fun _ _=>rfl) ?_) (fun _ _=> ?_)
  ·exact dc
  exact dM
 |cons a r=>
  rw[<- il]
  have abl:l≠[]:=by rw[il];simp
  refine aU ?_
  refine cW (xc l abl hl _ _ _ _ ?_)
  refine aU ?_
  refine aH (fun i:Nat=>⟨br [.aa, .aa, .aa, .osl 5 1, .aa, .aa, .aa, .aa, .osl 5 1, .d (.i l.length), .d (.i i)],aM (fun _=> .no) 5 (.arr 1 31 3 (l.map Tm.d)),6⟩)
   (fun k=>k<=l.length) (fun k=>l.length - k) 0 (Nat.zero_le _) (bM.b9 _ af af dE (fun j hj=>by(repeat(first|rfl|rw[ae]|rw[ak _ _ _ _ (by omega)]))) ?_) (fun k hk=> ?_)
  ·exact dc
  replace hk:k<=l.length:=hk
  refine aU ?_
  refine aj (fun h2=> ?_) (fun h2=> ?_)
  ·simp at h2
   obtain⟨x,hx⟩:=ai h2
   have cp:=List.mem_of_getElem? hx
   refine cf hx ?_
   refine aT (h x cp) ?_
   refine cf hx ?_
   have hxd:x.d= .agg [.i x.op, .i x.n, .sl (x.kids.map Tm.d)]:=by cases x;rw[Tm.jS];rfl
   have ny:(l.map Tm.d).set k x.d=l.map Tm.d:=by
    apply List.ext_getElem?
    intro i
    rw[List.getElem?_set]
    by_cases e:k=i
    ·subst e
     rw[if_pos rfl,if_pos (by simpa using h2),List.getElem?_map,hx];rfl
    ·rw[if_neg e]
   simp only[hxd,List.length_cons,List.length_nil,List.take,List.drop,List.append_nil,List.cons_append,List.nil_append]
   rw[if_pos (by omega)]
   refine cf ny ?_
   refine au (k+1) h2 af (bM.b9 _ af af dE (fun j hj=> ?_) ?_)
   ·skip
    by_cases e:j=5
    ·exact Ck
    ·rw[ak _ _ _ _ e,ak _ _ _ _ (by omega),ak _ _ _ _ (by omega)]
   ·exact dc
  ·simp at h2
   exact dM
theorem Sr{l:List Tm}{k:Tm}(h:k∈l):k.sz<=fG l:=by
 induction l with
 |nil=>cases h
 |cons x l ih=>
  rw[eE]
  rcases List.mem_cons.1 h with rfl|h
  ·omega
  ·have:=ih h;omega
theorem Ix:∀l:List Tm,l.length<=fG l
 |[]=>Nat.zero_le _
 |x::l=>by
  have:=Ix l
  have:=Tm.wG x
  rw[eE,List.length_cons];omega
theorem EJ:∀t:Tm,t.sz<=1000000->aQ Tryz.prog 53 [.sl (t.kids.map Tm.d)] (.ret [.sl (t.kids.map Tm.d)]):=by
 refine Tm.cc fun t ih hz=> ?_
 rw[Tm.gw]at hz
 have h1:=Ix t.kids
 exact EI t.kids af fun k hk=>ih k hk (by have:=Sr hk;omega)
theorem xd(l:List Tm)(hl:l.length<=1000000)(h:∀t∈l,t.sz<=1000000):aQ Tryz.prog 53 [.sl (l.map Tm.d)] (.ret [.sl (l.map Tm.d)]):=
 EI l hl fun t ht=>EJ t (h t ht)
def Ss:Tm:= .mk 0 0 []
theorem Pa:Ss.d= .agg [.i 0, .i 0, .sl []]:=by unfold Ss;rw[Tm.jS];rfl
theorem vi{c:Nat}{G:List Gr}{so:Nat->ab}{gone:Nat->Prop}{x x' y y':ab}(h:x=y)(h':x'=y')(hs:yc c G so gone y y'):yc c G so gone x x':=by rw[h,h'];exact hs
@[reducible] def Pb (B:Nat->ab) (r c:Nat) (ds:List D) (ty sz:Nat) (es:List D):Nat->ab:=aM (aM B r (.row (ds.map .d++[.osl c 0]))) c (.arr 0 ty sz es)
theorem BX{c:Nat}{G:List Gr}{so:Nat->ab}{gone:Nat->Prop}{l l':List V}:∀ds:List D,wz c G so gone l l'->wz c G so gone (ds.map .d++l) (ds.map .d++l')
 |[],h=>h
 |d::ds,h=>aaS (BX ds h)
theorem Pc(B:Nat->ab)(r c:Nat)(ds:List D)(ty sz:Nat)(es:List D):Pb B r c ds ty sz es c= .arr 0 ty sz es:=ae _ _ _
theorem Ph(B:Nat->ab){r c:Nat}(h:r<c)(ds:List D)(ty sz:Nat)(es:List D):Pb B r c ds ty sz es r= .row (ds.map .d++[.osl c 0]):=(ak _ _ _ _ af).trans (ae _ _ _)
theorem GP(B:Nat->ab){r c j:Nat}(h:j≠r)(h2:j≠c)(ds:List D)(ty sz:Nat)(es:List D):Pb B r c ds ty sz es j=B j:=(ak _ _ _ _ h2).trans (ak _ _ _ _ h)
theorem tv{B:Nat->ab}{r c:Nat}{ds:List D}{ty sz:Nat}{e:Nat->V}{so:Nat->ab}{m:Nat}(l:List V)(hg:Good B c)(uo:∀j,c<=j->B j= .no)(hr:r<c)(ho:∀j,j<c->j≠r->so j=B j)(cz:so r= .row (ds.map .d++[.bO]))(eo:0<sz)
 (he:nq c [⟨.bO,ty,sz,[]⟩] so (fun _=>False) e l 0):bM 0 ⟨e,so,m⟩ ⟨br l,Pb B r c ds ty sz [],c+1⟩:=by
 refine bM.jP (fun _=>False) .bO c _ af (fun j hj=> ?_) (Pc _ _ _ _ _ _ _) (.inl ⟨rfl,rfl,eo⟩) (fun j hj=> ?_) (fun _ h=>h.elim) he
 ·by_cases e1:j=r
  ·subst e1
   exact vi (y:= .row (ds.map .d++[.bO])) cz (Ph B hr ds ty sz _) (DZ rfl (BX ds (N4 (g:=⟨.bO,ty,sz,[]⟩) 0 rfl rfl rfl DY)))
  ·exact acK
 ·exact Tc
theorem lY{B:Nat->ab}{r c ep:Nat}{ds:List D}{ty sz:Nat}{es:List D}{e:Nat->V}{so:Nat->ab}{m:Nat}(l:List V)(hg:Good B c)(uo:∀j,c<=j->B j= .no)(hr:r<c)(ho:∀j,j<c->j≠r->so j=B j)(cz:so r= .row (ds.map .d++[.osl c ep]))(dK:so c= .arr ep ty sz es)
 (he:nq c [⟨.osl c ep,ty,sz,es⟩] so (fun j=>j=c) e l 0):bM 0 ⟨e,so,m⟩ ⟨br l,Pb B r c ds ty sz es,c+1⟩:=by
 refine bM.jP (fun j=>j=c) (.osl c ep) c _ af (fun j hj=> ?_) (Pc _ _ _ _ _ _ _) (.inr ⟨c,ep,rfl,rfl,dK⟩) (fun j hj=> ?_) (fun j h h2=>af) he
 ·by_cases e1:j=r
  ·subst e1
   exact vi (y:= .row (ds.map .d++[.osl c ep])) cz (Ph B hr ds ty sz _) (DZ rfl (BX ds (N4 (g:=⟨.osl c ep,ty,sz,es⟩) 0 rfl rfl rfl DY)))
  ·exact acK
 ·exact Tc
theorem cT:∀a:Tm,a.fits->∀b:Tm,b.fits->aQ Tryz.prog 218 [a.d,b.d] (.ret [.bool (aJ a b)]):=by
 refine Tm.cc fun a ih ha b hb=> ?_
 have R3:=(Tm.aF _).1 ha
 have Hg:=(Tm.aF _).1 hb
 refine aQ.ay mix Wn ao ?_
 rw[aam,oA]
 refine aU ?_
 refine DF (aj (fun h1=> ?_) (fun h1=> ?_))
 ·rw[h1]
  refine cf h1 ?_
  refine bn (Ox a.kids b.kids R3.1 Hg.1 218 (fun x hx y hy=>ih x hx (R3.2 x hx) y (Hg.2 y hy)) _ _ dE _ _ fun o2 n2 m1 m2 m3=> ?_)
  exact ve h1
 ·rw[h1]
  exact ve h1
def oJ:D:= .iface 117 (.agg [])
theorem cu:aQ Tryz.prog 128 [.bool true] (.ret []):=by
 refine aQ.ay mix N1 ao ?_
 rw[RL]
 exact dM
theorem et:aQ Tryz.prog 128 [.bool false] (.bW oJ):=by
 refine aQ.ay mix N1 ao ?_
 rw[RL]
 refine aU ?_
 rfl
theorem lh(b:Bool):aQ Tryz.prog 227 [.bool b] (.ret [(ed b).d]):=by
 refine aQ.ay mix Ww ao ?_
 rw[aav,GD]
 cases b<;>simp+contextual (disch:=first|omega|simp only[go_sem,false_implies]) only[go_sem,wrap64,if_pos,and_self]
theorem xe:aQ Tryz.prog 225 [.agg []] (.ret [ec.d]):=by
 refine aQ.ay mix Wu ao ?_
 rw[aat,O6]
 exact dM
theorem Pj(n:Int):aQ Tryz.prog 256 [.i n] (.ret [(Tm.mk 1 n []).d]):=by
 refine aQ.ay mix WR ao ?_
 rw[aaN,Tm.jS]
 exact dM
theorem Pk(l:List Tm)(hl:l.length<=1000000):∀t:Tm,t.fits->t.sz<=1000000->tu l.length t->aQ Tryz.prog 220 [t.d, .sl (l.map Tm.d)] (.ret [(fj l t).d]):=by
 refine Tm.cc fun t ih hf hz ho=> ?_
 have fu:=(Tm.aF _).1 hf
 have ss:=Tm.gw t
 refine aQ.ay mix Wp ao ?_
 rw[aao]
 by_cases h1:t.op=1
 ·have bL:(t.op==1)=true:=by simpa using h1
  exact Tv
 ·have bL:(t.op==1)=false:=by simpa using h1
  rw[rT,if_neg h1]
  refine cf bL ?_
  have hB:Good (aM (aM (fun _=> .no) 0 (.row t.row)) 1 (.row [.d (.i 0), .d (.i 0), .bO])) 16:=dE
  have uo:∀j,16<=j->(aM (aM (fun _=>ab.no) 0 (.row t.row)) 1 (.row [.d (.i 0), .d (.i 0), .bO])) j= .no:=fun j hj=>by(repeat(first|rfl|rw[ae]|rw[ak _ _ _ _ (by omega)]))
  refine aH (fun i:Nat=>⟨br [.aa, .d (.sl (l.map Tm.d)), .ptr 0 0, .aa, .ptr 1 0, .ptr 10 0, .aa, .aa, .aa, .aa, .aa, .aa, .aa, .aa, .aa, .aa, .aa, .aa, .aa, .aa, .aa, .aa, .d (.sl (t.kids.map Tm.d)), .d (.i t.kids.length), .d (.i i)],aM (aM (aM (aM (fun _=> .no) 0 (.row t.row)) 1 (.row [.d (.i 0), .d (.i 0), .bO])) 10 (.row [.d (.i t.op), .d (.i t.n), .osl 16 0])) 16 (.arr 0 31 3 (((t.kids.take i).map (fj l)).map Tm.d)),17⟩)
   (fun i=>i<=t.kids.length) (fun i=>t.kids.length - i) 0 (Nat.zero_le _) (tv (r:=10) (ds:=[.i t.op, .i t.n]) _ hB uo af (fun j hj il=>mw) dn af ?_) ?_
  ·exact oP
  rintro k hk
  replace hk:k<=t.kids.length:=hk
  refine ik ?_
  refine aj (fun h2=> ?_) (fun h2=> ?_)
  ·simp at h2
   obtain⟨x,hx⟩:=ai h2
   have cp:=List.mem_of_getElem? hx
   have CS:=jw cp
   have si:t.kids.length<=1000000:=by have:=rU t.kids;omega
   have xE:t.kids.take (k+1)=t.kids.take k++[x]:=by rw[List.take_add_one,hx];rfl
   have e0:(t.kids.take k).length=k:=by rw[List.length_take];omega
   refine iB hx e0 ?_
   refine aN (ih x cp (fu.2 x cp) af (ho.gE cp)) ?_
   refine iB hx e0 ?_
   refine aw bG ?_
   refine iB hx e0 ?_
   refine au (k+1) h2 af (lY (r:=10) (c:=16) (ep:=1) (ds:=[.i t.op, .i t.n]) _ hB uo af (fun j hj il=>mw) dn (by(repeat(first|rfl|rw[ae]|rw[ak _ _ _ _ (by omega)]));rw[xE,List.map_append,List.map_append];rfl) ?_)
   exact oP
  ·simp at h2
   have si:k=t.kids.length:=af
   subst si
   rw[List.take_length]
   refine ik ?_
   rw[Tm.jS]
theorem Su(p:Pg)(f:Int)(x:ki)(h0:0<=f)(hx:p.sig.bR[f.toNat]? =some x)(h1:0<=x.args)(h2:x.args<=1000):aQ Tryz.prog 228 [p.d, .i f] (.ret [(lg p.sig f).d]):=by
 have e:(lg p.sig f).d= .agg [.i 4, .i f, .sl ((iW x.args.toNat).map Tm.d)]:=by
  unfold lg
  rw[Tm.jS,fF hx];rfl
 refine aQ.ay mix Wx ao ?_
 rw[aaw,e]
 refine xB hx h0 ?_
 have hB:Good (aM (aM (fun _=> .no) 0 (.row p.row)) 1 (.row [.d (.i 0), .d (.i 0), .bO])) 14:=dE
 have uo:∀j,14<=j->(aM (aM (fun _=>ab.no) 0 (.row p.row)) 1 (.row [.d (.i 0), .d (.i 0), .bO])) j= .no:=fun j hj=>by(repeat(first|rfl|rw[ae]|rw[ak _ _ _ _ (by omega)]))
 obtain⟨n,hn⟩:∃n:Nat,x.args=n:=⟨x.args.toNat,af⟩
 rw[hn]
 have E5:n<=1000:=af
 refine aH (fun i:Nat=>⟨br [.aa, .aa, .ptr 0 0, .aa, .ptr 1 0, .ptr 4 0, .aa, .aa, .aa, .aa, .aa, .aa, .aa, .aa, .aa, .d (.i n), .d (.i i)],aM (aM (aM (aM (fun _=> .no) 0 (.row p.row)) 1 (.row [.d (.i 0), .d (.i 0), .bO])) 4 (.row [.d (.i 4), .d (.i f), .osl 14 0])) 14 (.arr 0 31 3 ((iW i).map Tm.d)),15⟩)
  (fun i=>i<=n) (fun i=>n - i) 0 (Nat.zero_le _) (tv (r:=4) (ds:=[.i 4, .i f]) _ hB uo af (fun j hj il=>mw) dn af ?_) ?_
 ·exact oP
 rintro k hk
 replace hk:k<=n:=hk
 have e0:(iW k).length=k:=by simp[iW]
 refine ik ?_
 refine aj (fun h2=> ?_) (fun h2=> ?_)
 ·simp at h2
  refine dW e0 ?_
  refine aN (Pj k) ?_
  refine dW e0 ?_
  refine aw bG ?_
  refine dW e0 ?_
  refine au (k+1) h2 af (lY (r:=4) (c:=14) (ep:=1) (ds:=[.i 4, .i f]) _ hB uo af (fun j hj il=>mw) dn (by(repeat(first|rfl|rw[ae]|rw[ak _ _ _ _ (by omega)]));rw[xb,List.map_append];rfl) ?_)
  exact oP
 ·simp at h2
  have si:k=n:=af
  subst si
  exact Xj
@[reducible] def xK (p:Pg) (env:List Tm):D:= .agg [.sl (p.sig.cons.map ki.d), .sl (p.sig.bR.map ki.d), .sl (p.rules.map Rl.d), .sl (env.map Tm.d)]
@[reducible] def Iy (p:Pg) (env:List Tm):List V:=[.d (.sl (p.sig.cons.map ki.d)), .d (.sl (p.sig.bR.map ki.d)), .d (.sl (p.rules.map Rl.d)), .d (.sl (env.map Tm.d))]
theorem Pl(p:Pg)(a b:List Tm):aQ Tryz.prog 222 [xK p a, .sl (b.map Tm.d)] (.ret [xK p b]):=by
 refine aQ.ay mix Wr ao ?_
 rw[aaq]
 exact dM
theorem Ky{pr:List (List Nat)}{fp:List (List Nat×List Nat)}(h:((List.range fp.length).all fun j=>(List.range j).all fun i=>((fb pr []).getD j 0).testBit i||((fp.getD i ([],[])).2.isEmpty&&(fp.getD j ([],[])).2.isEmpty))=true):je pr fp=true:=by
 unfold je
 rw[List.all_eq_true]at h|-
 intro j hj
 have h:=h j hj
 rw[List.all_eq_true]at h|-
 intro i hi
 have h:=h i hi
 rw[Bool.or_eq_true]at h|-
 refine h.imp id fun h=> ?_
 simp only[Bool.and_eq_true,List.isEmpty_iff]at h
 rw[h.1,h.2]
 rfl
def gy(ls:List Int)(L:List Tm):List Tm:=L.mapIdx fun i x=>if ls.contains (i:Int)=true then ec else x
theorem Pm(r:Rl)(b:List Tm):gy (bQ r.rhs) b=mW r b:=rfl
theorem Po(ls:List Int)(L:List Tm):(gy ls L).length=L.length:=by simp[gy]
theorem Pp(L:List Tm):gy [] L=L:=by
 refine List.ext_getElem (by simp[gy]) fun i h1 h2=> ?_
 simp[gy]
theorem ui(a b:List Int)(L:List Tm):gy (a++b) L=gy b (gy a L):=by
 refine List.ext_getElem (by simp[gy]) fun i h1 h2=> ?_
 simp only[gy,List.getElem_mapIdx,List.contains_eq_mem,List.mem_append]
 by_cases ha:(i:Int)∈a
 ·by_cases hb:(i:Int)∈b<;>simp[ha,hb]
 ·by_cases hb:(i:Int)∈b<;>simp[ha,hb]
theorem Pq{n:Int}{L:List Tm}(h0:0<=n)(h1:n<L.length):gy [n] L=L.set n.toNat ec:=by
 refine List.ext_getElem (by simp[gy]) fun i h1 h2=> ?_
 simp only[gy,List.getElem_mapIdx,List.getElem_set,List.contains_eq_mem,List.mem_singleton]
 by_cases h:n.toNat=i
 ·rw[if_pos h,if_pos (by simp;omega)]
 ·rw[if_neg h,if_neg (by simp;omega)]
structure Pr (base eb vb:Nat) (ev:V) (H:List Tm->Nat->ab):Prop where
 e1:eb<base
 v1:vb<base
 he:∀L,H L eb= .row [ev]
 hv:∀L,H L vb= .row [.func (.func 254) [] [.ptr eb 0, .ptr vb 0]]
 own:ev= .d (.sl [])\/∃a ep,ev= .osl a ep/\a<base/\(∀L,H L a= .arr ep 31 3 (L.map Tm.d))/\∀L L' j,j≠a->H L j=H L' j
def ag6:IC:=N2.snd.snd.snd.fst.fst
def ag7{base eb vb:Nat}{ev:V}{H:List Tm->Nat->ab}(hH:Pr base eb vb ev H)(t:Tm):Prop:=t.fits->∀L:List Tm,(∀v∈bQ t,0<=v/\v<L.length)->(ev= .d (.sl [])->L=[])->
    gv Tryz.prog 254 [.d t.d, .ptr eb 0, .ptr vb 0] base (H L) (H (gy (bQ t) L)) (.cn [])
theorem EK{base eb vb:Nat}{ev:V}{H:List Tm->Nat->ab}(hH:Pr base eb vb ev H){t:Tm}(hf:t.fits)(ih:∀k∈t.kids,ag7 hH k)(L:List Tm)(hr:∀v∈bD t.kids,0<=v/\v<L.length)(hL:ev= .d (.sl [])->L=[])
 {o o1:Nat->ab} {nx n1:Nat} {e:Nat->V} {Q:gf->S->Prop} (hb:base<=nx) (hn:nx<=n1) (hI:c0 base (H L) o1 n1) (dF:∀id,base<=id->id<nx->o1 id=o id)
 (he:kS n1 e [.aa, .ptr eb 0, .ptr vb 0, .aa, .aa, .aa, .aa, .aa, .aa, .aa, .aa, .aa, .aa, .aa, .aa, .aa, .d (.sl (t.kids.map Tm.d)), .d (.i t.kids.length), .d (.i 0)] 0)
 (hQ:∀e' o' n',nx<=n'->c0 base (H (gy (bD t.kids) L)) o' n'->(∀id,base<=id->id<nx->o' id=o id)->Q (.exit 0) ⟨e',o',n'⟩):
 rB nx (fun Q s=>ll Tryz.prog 26 nx false ag6 Q s) Q ⟨e,o1,n1⟩:=by
 have fu:=(Tm.aF _).1 hf
 have e1:=hH.e1
 have v1:=hH.v1
 refine aH (fun i:Nat×(Nat->ab)×Nat=>⟨br [.aa, .ptr eb 0, .ptr vb 0, .aa, .aa, .aa, .aa, .aa, .aa, .aa, .aa, .aa, .aa, .aa, .aa, .aa, .d (.sl (t.kids.map Tm.d)), .d (.i t.kids.length), .d (.i i.1)],i.2.1,i.2.2⟩)
  (fun i=>i.1<=t.kids.length/\c0 base (H (gy (bD (t.kids.take i.1)) L)) i.2.1 i.2.2/\nx<=i.2.2/\(∀id,base<=id->id<nx->i.2.1 id=o id)) (fun i=>t.kids.length - i.1) (0,o1,n1)
  ⟨Nat.zero_le _,by simpa[bD,Pp]using hI,hn,dF⟩ ?_ ?_
 ·dsimp only
  exact bM.b9 _ hn (Nat.le_refl _) hI.bX (fun _ _=>rfl) he
 rintro⟨k,o',n'⟩ ⟨hk,sy,Qd,abm⟩
 simp only at hk sy Qd abm
 have hg:=sy.bX
 have hle:=sy.le
 have ov:o' vb= .row [.func (.func 254) [] [.ptr eb 0, .ptr vb 0]]:=by rw[sy.eq vb v1,hH.hv]
 have y3:vb≠n':=af
 have y4:∀k,vb≠n'+k:=fun k=>af
 simp only[ag6,N2,IC.snd,IC.fst]
 refine ik ?_
 refine aj (fun h2=> ?_) (fun h2=> ?_)
 ·simp at h2
  obtain⟨x,hx⟩:=ai h2
  have cp:=List.mem_of_getElem? hx
  have xE:t.kids.take (k+1)=t.kids.take k++[x]:=by rw[List.take_add_one,hx];rfl
  have X1:∀a b:List Tm,bD (a++b)=bD a++bD b:=fun a b=>by
   induction a with
   |nil=>simp[bD]
   |cons k a ih=>simp[bD,ih]
  have sQ:∀v∈bQ x,v∈bD t.kids:=fun v hv=>by
   rw[<- List.take_append_drop (k+1) t.kids,X1,xE,X1]
   simp[bD,hv]
  have ag8:gy (bD (t.kids.take (k+1))) L=gy (bQ x) (gy (bD (t.kids.take k)) L):=by
   rw[xE,X1,ui];simp[bD]
  refine Qo hx ov y3 y4 ?_
  refine bn (ih x cp (fu.2 x cp) (gy (bD (t.kids.take k)) L) (fun v hv=>by rw[Po];exact hr v (sQ v hv)) (fun h=>by rw[hL h];rfl) _ _ ?_ _ _ fun o2 n2 m1 m2 m3=> ?_)
  ·exact⟨dE,af,fun j hj=>by(repeat(first|rfl|rw[ae]|rw[ak _ _ _ _ (by omega)]));exact sy.eq j hj⟩
  rw[<- ag8]at m2
  refine iZ ?_
  refine au (k+1,o2,n2+2) ⟨h2,m2.mono (show n2<=n2+2 from af),(show nx<=n2+2 from af),fun id i1 i2=> ?_⟩ pt (bM.b9 _ (show nx<=n2+2 from af) (Nat.le_refl _) (m2.mono (show n2<=n2+2 from af)).bX (fun _ _=>rfl) ?_)
  ·dsimp only
   rw[m3 id i1 (by omega)]
   (repeat(first|rfl|rw[ae]|rw[ak _ _ _ _ (by omega)]))
   exact abm id i1 i2
  ·dsimp only
   exact dc
 ·simp at h2
  refine aU ?_
  rw[List.take_of_length_le h2]at sy
  exact hQ _ _ _ af (sy.mono af) abm
theorem Al{base eb vb:Nat}{ev:V}{H:List Tm->Nat->ab}(hH:Pr base eb vb ev H):∀t:Tm,ag7 hH t:=by
 refine Tm.cc fun t ih hf L hr hL=> ?_
 have fu:=(Tm.aF _).1 hf
 have e1:=hH.e1
 have v1:=hH.v1
 intro o nx hI K X hK
 have hle:=hI.le
 have hg:=hI.bX
 have oe:o eb= .row [ev]:=by rw[hI.eq eb e1,hH.he]
 have ov:o vb= .row [.func (.func 254) [] [.ptr eb 0, .ptr vb 0]]:=by rw[hI.eq vb v1,hH.hv]
 have y1:eb≠nx:=af
 have y2:∀k,eb≠nx+k:=fun k=>af
 have y3:vb≠nx:=af
 have y4:∀k,vb≠nx+k:=fun k=>af
 refine cR.ay mix WO ao ?_
 rw[N2]
 by_cases h8:t.op=8
 ·have E6:(t.op==8)=true:=by simpa using h8
  obtain⟨n0,n1⟩:=hr t.n (by rw[iA,if_pos h8];simp)
  rcases hH.own with hn|⟨a,ep,ha,a1,hA,hA2⟩
  ·rw[hL hn]at n1;simp at n1;omega
  have oa:o a= .arr ep 31 3 (L.map Tm.d):=by rw[hI.eq a a1,hA]
  rw[ha]at oe
  have y5:a≠nx:=af
  have y6:∀k,a≠nx+k:=fun k=>af
  obtain⟨x,hx⟩:=ai (l:=L) (k:=t.n.toNat) af
  obtain⟨xo,xn,xk⟩:=x
  simp+contextual (disch:=first|omega|simp only[go_sem,false_implies]) only[go_sem,wrap64,if_pos,E6,oe,ov,oa,y1,y2,y3,y4,y5,y6,Nat.add_assoc,Nat.left_eq_add,Nat.add_eq_left,Nat.add_left_cancel_iff]
  refine aN xe ?_
  simp+contextual (disch:=first|omega|simp only[go_sem,false_implies]) only[go_sem,wrap64,if_pos,E6,oe,ov,oa,y1,y2,y3,y4,y5,y6,Nat.add_assoc,Nat.left_eq_add,Nat.add_eq_left,Nat.add_left_cancel_iff,n0,hx,Tm.jS,List.length_map]
  refine aw (Ky ag) ?_
  refine iZ ?_
  rw[iA,if_pos h8,ui,Pq n0 n1]at hK
  rw[iA,if_pos h8]at hr
  have M9:c0 base (H (L.set t.n.toNat ec)) (aM (aM o nx (.row t.row)) a (.arr ep 31 3 ((L.map Tm.d).set t.n.toNat ec.d))) (nx+15):=⟨dE,af,fun id aG=>by
   by_cases e:id=a
   ·subst e;rw[ae,hA,List.map_set]
   ·rw[ak _ _ _ _ e,ak _ _ _ _ (by omega),hI.eq id aG];exact hA2 _ _ id e⟩
  refine EK hH hf ih (L.set t.n.toNat ec) (fun v hv=>by rw[List.length_set];exact hr v (by simp[hv])) (fun h=>by rw[ha]at h;cases h) (o:=o) af af M9 (fun id i1 i2=>by(repeat(first|rfl|rw[ae]|rw[ak _ _ _ _ (by omega)]))) ?_ fun e' o' n' k1 k2 k3=> ?_
  ·exact dc
  ·refine aU ?_
   exact hK _ _ af k2 k3
 ·have E6:(t.op==8)=false:=by simpa using h8
  simp+contextual (disch:=first|omega|simp only[go_sem,false_implies]) only[go_sem,wrap64,if_pos,E6,oe,ov,y1,y2,y3,y4,Nat.add_assoc,Nat.left_eq_add,Nat.add_eq_left,Nat.add_left_cancel_iff]
  rw[iA,if_neg h8,List.nil_append]at hK hr
  have M9:c0 base (H L) (aM o nx (.row t.row)) (nx+8):=hI.aM af af af rfl
  refine EK hH hf ih L hr hL (o:=o) af af M9 (fun id i1 i2=>by(repeat(first|rfl|rw[ae]|rw[ak _ _ _ _ (by omega)]))) ?_ fun e' o' n' k1 k2 k3=> ?_
  ·exact dc
  ·refine aU ?_
   exact hK _ _ af k2 k3
theorem Kz{s:aV}(r:Rl)(ho:oG s r)(hf:r.rhs.fits)(b:List Tm)(hl:b.length<=1000)(hb:(b.length:Int)=r.vars):aQ Tryz.prog 223 [r.d, .sl (b.map Tm.d)] (.ret [.sl ((mW r b).map Tm.d)]):=by
 have hr:∀v∈bQ r.rhs,0<=v/\v<b.length:=fun v hv=>by
  have h1:=(pc r.rhs v).1 hv
  obtain⟨x,hx,h2,h3⟩:=(kj _ _ _).1 h1
  have h4:=(qt r.vars r.rhs).1 ho.small x hx (.inr h2)
  have key:∀t:Tm,eW s t=true->∀x∈ja t,bz s x=true:=by
   refine Tm.cc fun t ih h x hx=> ?_
   rw[dQ,Bool.and_eq_true,List.all_eq_true]at h
   rw[nB]at hx
   rcases List.mem_cons.1 hx with e|e
   ·rw[e];exact h.1
   ·exact Ur
  have h5:=key _ (jv ho.rhs) x hx
  simp[bz,h2,cF]at h5
  omega
 refine aQ.ay mix Ws ao ?_
 rw[aar, <- Pm]
 cases il:b with
 |nil=>
  refine aU ?_
  refine aT Ak ?_
  refine aU ?_
  subst il
  have hH:Pr 12 4 6 (.d (.sl [])) (fun _=>aM (aM (aM (fun _=> .no) 0 (.row r.row)) 4 (.row [.d (.sl [])])) 6 (.row [.func (.func 254) [] [.ptr 4 0, .ptr 6 0]])):=
   ⟨af,af,fun _=>by(repeat(first|rfl|rw[ae]|rw[ak _ _ _ _ (by omega)])),fun _=>by(repeat(first|rfl|rw[ae]|rw[ak _ _ _ _ (by omega)])), .inl rfl⟩
  refine bn (Al hH r.rhs hf [] hr (fun _=>rfl) _ _ ⟨dE,Nat.le_refl _,fun id aG=>mw⟩ _ _ fun o2 n2 m1 m2 m3=> ?_)
  have q1:o2 4= .row [.d (.sl [])]:=by rw[m2.eq 4 (by omega)];(repeat(first|rfl|rw[ae]|rw[ak _ _ _ _ (by omega)]))
  refine cf q1 ?_
  rfl
 |cons a l=>
  rw[<- il]
  have abl:b≠[]:=by rw[il];simp
  refine aU ?_
  refine cW (xc b abl af _ _ _ _ ?_)
  refine aU ?_
  have hH:Pr 18 10 12 (.osl 6 1) (fun L=>aM (aM (aM (aM (fun _=> .no) 0 (.row r.row)) 6 (.arr 1 31 3 (L.map Tm.d))) 10 (.row [.osl 6 1])) 12 (.row [.func (.func 254) [] [.ptr 10 0, .ptr 12 0]])):=
   ⟨af,af,fun _=>by(repeat(first|rfl|rw[ae]|rw[ak _ _ _ _ (by omega)])),fun _=>by(repeat(first|rfl|rw[ae]|rw[ak _ _ _ _ (by omega)])), .inr ⟨6,1,rfl,af,fun _=>by(repeat(first|rfl|rw[ae]|rw[ak _ _ _ _ (by omega)])),fun L L' j hj=>mw⟩⟩
  refine bn (Al hH r.rhs hf b hr (fun h=>by cases h) _ _ ⟨dE,Nat.le_refl _,fun id aG=>mw⟩ _ _ fun o2 n2 m1 m2 m3=> ?_)
  have q1:o2 10= .row [.osl 6 1]:=by rw[m2.eq 10 (by omega)];(repeat(first|rfl|rw[ae]|rw[ak _ _ _ _ (by omega)]))
  have q2:o2 6= .arr 1 31 3 ((gy (bQ r.rhs) b).map Tm.d):=by rw[m2.eq 6 (by omega)];(repeat(first|rfl|rw[ae]|rw[ak _ _ _ _ (by omega)]))
  exact Ln q1 q2
end Go.Proofs.YtonbelhklnmjnaaGreat
