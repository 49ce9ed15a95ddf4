/-
  A PART OF THE PROOF. Conditions: none.
-/
import Derived.Test.YtnkamdiiakdkgaaGreatEd15
set_option linter.unusedSimpArgs false
set_option linter.unusedVariables false
namespace Go.Proofs.YtnkamdiiakdkgaaGreat
@[reducible] def mD (m:List Int):D:= .agg (m.map D.i)
def sR(l:List cp):List Int×Bool:=match jV l (-1) xd with
 |some m=>(m,true)
 |none=>(xd,false)
theorem KT{α:Type}{l:List α}{k:Nat}(h:k<l.length):∃x,l[k]? =some x:=⟨l[k],by simp[h]⟩
theorem eD:∀l:List D,xV (l.map V.d)=some l
 |[]=>rfl
 |x::l=>by simp[xV,eD l]
theorem jJ(m:List Int)(h:m.length=16):List.take 16 ((m.map D.i).map V.d)=(m.map D.i).map V.d:=List.take_of_length_le (by simp[h])
theorem dn(m:List Int)(h:m.length=16):((m.map D.i).map V.d).length=16:=by simp[h]
theorem rq(m:List Int)(k:Nat)(v:Int)(h:k<m.length):List.take k ((m.map D.i).map V.d)++[V.d (D.i v)]++List.drop (k+1) ((m.map D.i).map V.d)=((m.set k v).map D.i).map V.d:=by
 rw[List.set_eq_take_append_cons_drop,if_pos h]
 simp[List.map_take,List.map_drop]
theorem gW(l:List D):(D.agg l).cells=l:=rfl
@[reducible] def mR (m:List Int):ab:= .row ((m.map D.i).map V.d)
theorem Fz:∀l:List D,V.aG (l.map V.d)=[]
 |[]=>rfl
 |x::l=>by simp[V.aG,V.refs,Fz l]
theorem ou(m:List Int)(n:Nat):(mR m).refs.all (fun r=>decide (r<n))=true:=by
 show(V.aG ((m.map D.i).map V.d)).all _=true
 rw[Fz];rfl
theorem NS{l l':List cp}{last:Int}{m:List Int}{a:cp}(h:jV l (-1) xd=jV (a::l') last m)(hb:a.f<0\/4<=a.f\/a.t<0\/4<=a.t\/a.f*4+a.t<=last):sR l=(xd,false):=by
 unfold sR
 rw[h,jV,if_pos hb]
theorem NT(l:List cp)(hl:l.length<=1000000):aT Tryz.prog 48 [.sl (l.map cp.d)] (.ret [mD (sR l).1, .bool (sR l).2]):=by
 refine aT.aF mix aai aL ?_
 rw[c48]
 refine aU ?_
 refine aw (fun i:Nat×Int×List Int=>⟨aS [.aa, .aa, .ptr 0 0, .aa, .ptr 2 0, .d (.i i.2.1), .aa, .aa, .d (.sl (l.map cp.d)), .d (.i l.length), .d (.i i.1)],aA (aA (fun _=> .no) 0 (.row [.d (.i 0), .d (.i 0), .d (.i 0), .d (.i 0), .d (.i 0), .d (.i 0), .d (.i 0), .d (.i 0), .d (.i 0), .d (.i 0), .d (.i 0), .d (.i 0), .d (.i 0), .d (.i 0), .d (.i 0), .d (.i 0)])) 2 (mR i.2.2),3⟩)
  (fun i=>i.1<=l.length/\i.2.2.length=16/\ -1<=i.2.1/\i.2.1<=15/\jV l (-1) xd=jV (l.drop i.1) i.2.1 i.2.2) (fun i=>l.length - i.1) (0, -1,xd) ⟨Nat.zero_le _,rfl,by dsimp only;omega,by dsimp only;omega,rfl⟩ (aZ.aR _ af af ?_ (fun j hj=> ?_) ?_) ?_
 ·exact eH
 ·rfl
 ·exact bO
 rintro⟨k,last,m⟩ ⟨hk,hm,tS,Ss,ht⟩
 simp only at hk hm tS Ss ht
 refine aU ?_
 refine ai (fun h2=> ?_) (fun h2=> ?_)
 ·simp at h2
  obtain⟨a,ha⟩:=KT h2
  have hda:l.drop k=a::l.drop (k+1):=by
   obtain⟨g1,g2⟩:=List.getElem?_eq_some_iff.1 ha
   exact IQ
  rw[hda]at ht
  have iX:=NS ht
  by_cases b1:a.f<0
  ·rw[iX (by omega)]
   have Vd:decide (a.f<0)=true:=by simpa using b1
   refine qF ha Vd ?_
   rfl
  have Vd:decide (a.f<0)=false:=by simpa using b1
  by_cases b2:4<=a.f
  ·rw[iX (by omega)]
   have Xa:decide (4<=a.f)=true:=by simpa using b2
   refine sC ha Vd Xa ?_
   rfl
  have Xa:decide (4<=a.f)=false:=by simpa using b2
  by_cases b3:a.t<0
  ·rw[iX (by omega)]
   have b3':decide (a.t<0)=true:=by simpa using b3
   refine RV ha Vd Xa b3' ?_
   rfl
  have b3':decide (a.t<0)=false:=by simpa using b3
  by_cases b4:4<=a.t
  ·rw[iX (by omega)]
   have b4':decide (4<=a.t)=true:=by simpa using b4
   simp+contextual (disch:=first|omega|simp only[go_sem,false_implies]) only[go_sem,wrap64,if_pos,ha,Vd,Xa,b3',b4']
   rfl
  have b4':decide (4<=a.t)=false:=by simpa using b4
  by_cases b5:a.f*4+a.t<=last
  ·rw[iX (by omega)]
   have b5':decide (a.f*4+a.t<=last)=true:=by simpa using b5
   refine Ij ha Vd Xa b3' b4' b5' ?_
   rfl
  have b5':decide (a.f*4+a.t<=last)=false:=by simpa using b5
  rw[jV,if_neg (by omega)]at ht
  have hK:a.f.toNat*4+a.t.toNat*1=a.k:=by unfold cp.k;omega
  have aeO:a.k<16:=by unfold cp.k;omega
  have g1:=rq m a.k 1 af
  have g2:=rq (m.set a.k 1) a.k 2 (by rw[List.length_set];omega)
  rw[List.set_set]at g2
  refine Ij ha Vd Xa b3' b4' b5' ?_
  refine aI bF ?_
  cases hl:a.l with
  |true=>
   have hv:a.v=2:=by unfold cp.v;rw[hl];rfl
   rw[hv]at ht
   have Ib:a.k+1<=(m.set a.k 1).length:=by rw[List.length_set];omega
   simp+contextual (disch:=first|omega|simp only[go_sem,false_implies]) only[go_sem,wrap64,if_pos,hK,g1,hl,if_pos Ib]
   refine aI bF ?_
   refine qF hK g2 ?_
   refine aj (k+1,a.f*4+a.t,m.set a.k 2) ⟨h2,by rw[List.length_set];exact hm,by dsimp only;omega,by dsimp only;omega,ht⟩ jS (aZ.aR _ (show 0<=3 from af) af ((Good.nil.aA af rfl).aA af (ou _ _)) (fun j hj=> ?_) ?_)
   ·by_cases e:j=2
    ·exact zW
    ·rw[ag _ 2 _ _ e,ag _ 2 _ _ e,ag _ _ _ _ (by omega),ag _ _ _ _ (by omega),ag _ 2 _ _ e,ag _ 2 _ _ e]
   ·exact bO
  |false=>
   have hv:a.v=1:=by unfold cp.v;rw[hl];rfl
   rw[hv]at ht
   refine sC hK g1 hl ?_
   refine aj (k+1,a.f*4+a.t,m.set a.k 1) ⟨h2,by rw[List.length_set];exact hm,by dsimp only;omega,by dsimp only;omega,ht⟩ jS (aZ.aR _ (show 0<=3 from af) af ((Good.nil.aA af rfl).aA af (ou _ _)) (fun j hj=> ?_) ?_)
   ·by_cases e:j=2
    ·exact zW
    ·rw[ag _ 2 _ _ e,ag _ 2 _ _ e,ag _ _ _ _ (by omega),ag _ _ _ _ (by omega),ag _ 2 _ _ e]
   ·exact bO
 ·simp at h2
  rw[List.drop_eq_nil_of_le h2,jV]at ht
  have e:sR l=(m,true):=by unfold sR;rw[ht]
  rw[e]
  simp+contextual (disch:=first|omega|simp only[go_sem,false_implies]) only[go_sem,wrap64,if_pos,jJ m hm,eD,gW,dn m hm]
  trace_state
theorem we(cs:List D)(k:Nat):il Tryz.prog 3 cs k=cs[k]? :=by
 have h:cQ Tryz.prog 3=some false:=ah
 unfold il;rw[h]
def rowOf(m:List Int)(i:Nat):List Int:=(m.drop (i*4)).take 4
theorem p9(m:List Int)(i:Nat):List.take 4 (List.drop (i*4) ((m.map D.i).map V.d))=((rowOf m i).map D.i).map V.d:=by simp[rowOf,List.map_take,List.map_drop]
theorem nF{m:List Int}(hm:m.length=16){i k:Nat}(hi:i<4)(hk:k<4):((rowOf m i).map D.i)[k]? =some (D.i (m.getD (i*4+k) 0)):=by
 unfold rowOf
 rw[List.getElem?_map,List.getElem?_take_of_lt hk,List.getElem?_drop,List.getD_eq_getElem?_getD]
 have:i*4+k<m.length:=af
 rw[List.getElem?_eq_getElem this];rfl
theorem NU(a b c:Int):(if c>(if b>a then b else a)then c else(if b>a then b else a))=max (max a b) c:=by
 simp only[Int.max_def];repeat' split
 all_goals omega
def BK(m n:List Int)(i k j:Nat):Nat->ab:=aA (aA (aA (aA (fun _=> .no) 0 (mR m)) 1 (mR n)) 2 (.row [.d (.i 0), .d (.i 0), .d (.i 0), .d (.i 0), .d (.i 0), .d (.i 0), .d (.i 0), .d (.i 0), .d (.i 0), .d (.i 0), .d (.i 0), .d (.i 0), .d (.i 0), .d (.i 0), .d (.i 0), .d (.i 0)])) 3 (mR (jW m n i k j))
theorem jK(m n:List Int)(i k j:Nat):Good (BK m n i k j) 4:=(((Good.nil.aA af (ou _ _)).aA af (ou _ _)).aA af rfl).aA af (ou _ _)
theorem thH_0(m n:List Int)(i k j:Nat):BK m n i k j 0=mR m:=by unfold BK;rw[ag _ _ _ _ (by omega),ag _ _ _ _ (by omega),ag _ _ _ _ (by omega),ad]
theorem thH_1(m n:List Int)(i k j:Nat):BK m n i k j 1=mR n:=by unfold BK;rw[ag _ _ _ _ (by omega),ag _ _ _ _ (by omega),ad]
theorem thH_3(m n:List Int)(i k j:Nat):BK m n i k j 3=mR (jW m n i k j):=by unfold BK;rw[ad]
theorem thH_2(m n:List Int)(i k j:Nat):BK m n i k j 2= .row [.d (.i 0), .d (.i 0), .d (.i 0), .d (.i 0), .d (.i 0), .d (.i 0), .d (.i 0), .d (.i 0), .d (.i 0), .d (.i 0), .d (.i 0), .d (.i 0), .d (.i 0), .d (.i 0), .d (.i 0), .d (.i 0)]:=by unfold BK;rw[ag _ _ _ _ (by omega),ad]
theorem Ve(m n:List Int)(hm:m.length=16)(hn:n.length=16):aT Tryz.prog 49 [mD m,mD n] (.ret [mD (fT m n)]):=by
 refine aT.aF mix aaj aL ?_
 rw[c49]
 refine aU ?_
 refine aw (fun i:Nat=>⟨aS [.aa, .aa, .ptr 0 0, .ptr 1 0, .ptr 2 0, .ptr 3 0, .aa, .aa, .aa, .aa, .aa, .d (.i i)],BK m n i 0 0,4⟩)
  (fun i=>i<=4) (fun i=>4 - i) 0 (Nat.zero_le _) (aZ.aR _ (show 0<=4 from af) af (jK _ _ _ _ _) (fun j hj=> ?_) ?_) (fun i hi=> ?_)
 ·unfold BK;rw[outS_0];rfl
 ·exact bO
 replace hi:i<=4:=hi
 refine aU ?_
 refine ai (fun h1=> ?_) (fun h1=> ?_)
 ·replace h1:i<4:=by simp at h1;omega
  have li:i*4+4<=((m.map D.i).map V.d).length:=by rw[dn m hm];omega
  simp+contextual (disch:=first|omega|simp only[go_sem,false_implies]) only[go_sem,wrap64,if_pos,thH_0,Int.toNat_natCast,p9,eD,if_pos li]
  refine aw (fun k:Nat=>⟨aS [.aa, .aa, .ptr 0 0, .ptr 1 0, .ptr 2 0, .ptr 3 0, .d (.i i), .aa, .aa, .aa, .aa, .d (.i i), .aa, .aa, .aa, .aa, .d (.agg ((rowOf m i).map D.i)), .d (.i k)],BK m n i k 0,4⟩)
   (fun k=>k<=4) (fun k=>4 - k) 0 (Nat.zero_le _) (aZ.aR _ (show 0<=4 from af) af (jK _ _ _ _ _) (fun j hj=>rfl) ?_) (fun k hk=> ?_)
  ·exact bO
  replace hk:k<=4:=hk
  refine aU ?_
  refine ai (fun h2=> ?_) (fun h2=> ?_)
  ·replace h2:k<4:=by simp at h2;omega
   have lk:k*4+4<=((n.map D.i).map V.d).length:=by rw[dn n hn];omega
   have hx:=nF hm h1 h2
   simp+contextual (disch:=first|omega|simp only[go_sem,false_implies]) only[go_sem,wrap64,if_pos,thH_1,Int.toNat_natCast,Nat.mul_one,p9,eD,if_pos lk,we,hx,Option.map_some]
   refine aw (fun j:Nat=>⟨aS [.aa, .aa, .ptr 0 0, .ptr 1 0, .ptr 2 0, .ptr 3 0, .d (.i i), .d (.i k), .d (.i (m.getD (i*4+k) 0)), .aa, .aa, .d (.i i), .aa, .aa, .aa, .aa, .d (.agg ((rowOf m i).map D.i)), .d (.i k), .aa, .aa, .aa, .aa, .aa, .d (.agg ((rowOf n k).map D.i)), .d (.i j)],BK m n i k j,4⟩)
    (fun j=>j<=4) (fun j=>4 - j) 0 (Nat.zero_le _) (aZ.aR _ (show 0<=4 from af) af (jK _ _ _ _ _) (fun j hj=>rfl) ?_) (fun j hj=> ?_)
   ·exact bO
   replace hj:j<=4:=hj
   refine aU ?_
   refine ai (fun h3=> ?_) (fun h3=> ?_)
   ·replace h3:j<4:=by simp at h3;omega
    have hy:=nF hn h2 h3
    have ho:((jW m n i k j).map D.i |>.map V.d)[i*4+j]? =some (V.d (D.i (cP m n i j k))):=by
     rw[List.getElem?_map,List.getElem?_map,E9 m n i k j h1 h3];rfl
    have iW:=G3 m n i k j h1 h3
    have zR:=fh m n i k j
    have Ib:i*4+j+1<=((jW m n i k j).map D.i |>.map V.d).length:=by rw[dn _ zR];omega
    have KU:=rq (jW m n i k j) (i*4+j) (sQ m n i j (cP m n i j k) k) (by rw[zR];omega)
    rw[<- iW]at KU
    refine Xr hy ?_
    by_cases hc:m.getD (i*4+k) 0≠0/\n.getD (k*4+j) 0≠0
    ·have AS:(m.getD (i*4+k) 0!=0&&n.getD (k*4+j) 0!=0)=true:=by simp[bne_iff_ne];exact hc
     have vF:sQ m n i j (cP m n i j k) k=max (max (cP m n i j k) (m.getD (i*4+k) 0)) (n.getD (k*4+j) 0):=by unfold sQ;rw[if_pos hc]
     rw[vF]at KU
     simp+contextual (disch:=first|omega|simp only[go_sem,false_implies]) only[go_sem,wrap64,if_pos,AS,thH_3,Int.toNat_natCast,Nat.mul_one,ho,EC,NU,KU,if_pos Ib]
     refine aI bF ?_
     refine aU ?_
     refine aj (j+1) h3 af (aZ.aR _ (show 0<=4 from af) af (jK _ _ _ _ _) (fun q hq=> ?_) ?_)
     ·unfold BK;rw[dm]
     ·exact bO
    ·have AS:(m.getD (i*4+k) 0!=0&&n.getD (k*4+j) 0!=0)=false:=by
      rw[Bool.eq_false_iff];intro h;apply hc
      rw[Bool.and_eq_true,bne_iff_ne,bne_iff_ne]at h;exact h
     have vF:sQ m n i j (cP m n i j k) k=cP m n i j k:=by unfold sQ;rw[if_neg hc]
     have AM:jW m n i k (j+1)=jW m n i k j:=by
      rw[iW,vF]
      refine iz (by rw[List.length_set];exact zR) zR fun p hp=> ?_
      rw[List.getElem?_set]
      split
      ·rename_i e;subst e;rw[if_pos (by rw[zR];omega),E9 m n i k j h1 h3]
      ·rfl
     refine gB AS ?_
     refine aj (j+1) h3 af (aZ.aR _ (show 0<=4 from af) af (jK _ _ _ _ _) (fun q hq=> ?_) ?_)
     ·unfold BK;rw[AM]
     ·exact bO
   ·have mL:j=4:=by simp at h3;omega
    subst mL
    refine aU ?_
    refine aj (k+1) h2 af (aZ.aR _ (show 0<=4 from af) af (jK _ _ _ _ _) (fun q hq=> ?_) ?_)
    ·unfold BK;rw[TP]
    ·exact bO
  ·have pA:k=4:=by simp at h2;omega
   subst pA
   refine aU ?_
   refine aj (i+1) h1 af (aZ.aR _ (show 0<=4 from af) af (jK _ _ _ _ _) (fun q hq=> ?_) ?_)
   ·unfold BK;rw[TQ]
   ·exact bO
 ·have mG:i=4:=by simp at h1;omega
  subst mG
  have l16:=dn _ (fh m n 4 0 0)
  have t16:=jJ _ (fh m n 4 0 0)
  simp+contextual (disch:=first|omega|simp only[go_sem,false_implies]) only[go_sem,wrap64,if_pos,thH_3,thH_2,t16,l16,eD,gW]
  rw[TR]
theorem qa{c:Nat}{G:List Gr}{so:Nat->ab}{gone:Nat->Prop}{x x' y y':ab}(h:x=y)(h':x'=y')(hs:uP c G so gone y y'):uP c G so gone x x':=by rw[h,h'];exact hs
def L9(m:List Int)(c:Nat)(l:List cp):Nat->ab:=aA (aA (fun _=> .no) 0 (mR m)) c (.arr 0 64 3 (l.map cp.d))
theorem qb(m:List Int)(l:List cp):Good (L9 m 4 l) 5:=(Good.nil.aA af (ou _ _)).aA af rfl
theorem lsH_0(m:List Int)(l:List cp):L9 m 4 l 0=mR m:=by unfold L9;rw[ag _ _ _ _ (by omega),ad]
theorem lsH_4(m:List Int)(l:List cp):L9 m 4 l 4= .arr 0 64 3 (l.map cp.d):=by unfold L9;rw[ad]
theorem Vf(m:List Int)(hm:m.length=16):aT Tryz.prog 67 [mD m] (.ret [.sl ((cL m 16).map cp.d)]):=by
 refine aT.aF mix aal aL ?_
 rw[c67]
 refine aU ?_
 have hg:Good (aA (fun _=> .no) 0 (mR m)) 4:=Good.nil.aA af (ou _ _)
 refine aw (fun i:Nat=>⟨aS [.aa, .ptr 0 0, .aa, .osl 4 0, .aa, .aa, .aa, .d (.i i)],L9 m 4 (cL m (i*4)),5⟩)
  (fun i=>i<=4) (fun i=>4 - i) 0 (Nat.zero_le _) (aZ.iK (ty:=64) (sz:=3) (es:=[]) (fun _=>False) .bd 4 _ af (fun j hj=> ?_) (by unfold L9;rw[ad];rfl) (.inl ⟨rfl,rfl,bF⟩) (fun j hj=> ?_) (fun _ h=>h.elim) ?_) (fun i hi=> ?_)
 ·exact qa (y:=aA (fun _=> .no) 0 (mR m) j) rfl (by unfold L9;rw[ag _ _ _ _ (by omega)]) (br rfl (fun r hr=>hg.refs j r hr))
 ·exact Mx
 ·exact qz
 replace hi:i<=4:=hi
 refine aU ?_
 refine ai (fun h1=> ?_) (fun h1=> ?_)
 ·replace h1:i<4:=by simp at h1;omega
  have li:i*4+4<=((m.map D.i).map V.d).length:=by rw[dn m hm];omega
  simp+contextual (disch:=first|omega|simp only[go_sem,false_implies]) only[go_sem,wrap64,if_pos,lsH_0,Int.toNat_natCast,p9,eD,if_pos li]
  refine aw (fun j:Nat=>⟨aS [.aa, .ptr 0 0, .aa, .osl 4 0, .d (.i i), .aa, .aa, .d (.i i), .aa, .aa, .aa, .aa, .d (.agg ((rowOf m i).map D.i)), .d (.i j)],L9 m 4 (cL m (i*4+j)),5⟩)
   (fun j=>j<=4) (fun j=>4 - j) 0 (Nat.zero_le _) (aZ.aR _ (show 0<=5 from af) af (qb _ _) (fun j hj=>rfl) ?_) (fun j hj=> ?_)
  ·exact bO
  replace hj:j<=4:=hj
  refine aU ?_
  refine ai (fun h2=> ?_) (fun h2=> ?_)
  ·replace h2:j<4:=by simp at h2;omega
   have hx:=nF hm h1 h2
   have KW:=J6 m (i*4+j)
   have e1:(i*4+j)/4=i:=af
   have e2:(i*4+j)%4=j:=af
   rw[e1,e2]at KW
   refine Xr hx ?_
   have hlen:=nB m (i*4+j)
   refine ai (fun h3=> ?_) (fun h3=> ?_)
   ·have mL:m.getD (i*4+j) 0≠0:=by simpa using h3
    rw[if_pos mL]at KW
    simp+contextual (disch:=first|omega|simp only[go_sem,false_implies]) only[go_sem,wrap64,if_pos,lsH_4,List.length_map]
    have hgl:=qb m (cL m (i*4+j))
    refine aj (j+1) h2 af (aZ.iK (fun j=>j=4) (.osl 4 1) 4 _ af (fun q hq=> ?_) (lsH_4 _ _) (.inr ⟨4,1,rfl,rfl, ?_⟩) (fun q hq=> ?_) (fun q h h2=>af) ?_)
    ·exact qa (y:=aA (fun _=> .no) 0 (mR m) q) Mx Mx (br rfl (fun r hr=>hg.refs q r hr))
    ·(repeat(first|rfl|rw[ad]|rw[ag _ _ _ _ (by omega)]))
     rw[<- Nat.add_assoc,KW,List.map_append];rfl
    ·exact Mx
    ·exact qz
   ·have mL: ¬m.getD (i*4+j) 0≠0:=by simpa using h3
    rw[if_neg mL,List.append_nil]at KW
    refine aU ?_
    refine aj (j+1) h2 af (aZ.aR _ (show 0<=5 from af) af (qb _ _) (fun q hq=> ?_) ?_)
    ·rw[<- Nat.add_assoc,KW]
    ·exact bO
  ·have pA:j=4:=by simp at h2;omega
   subst pA
   refine aU ?_
   refine aj (i+1) h1 af (aZ.aR _ (show 0<=5 from af) af (qb _ _) (fun q hq=> ?_) ?_)
   ·rw[show(i+1)*4=i*4+4 by omega]
   ·exact bO
 ·have mG:i=4:=by simp at h1;omega
  subst mG
  simp+contextual (disch:=first|omega|simp only[go_sem,false_implies]) only[go_sem,wrap64,if_pos,lsH_4]
theorem Vg{B:List Int}(hB:B.length=16){i j a b:Nat}(hi:i<4)(hj:j<4)(ha:a<4)(hb:b<4)(v:Int):mg (B.set (i*4+j) v) a b=if a=i/\b=j then v else mg B a b:=by
 unfold mg
 rw[List.getD_eq_getElem?_getD,List.getD_eq_getElem?_getD,List.getElem?_set]
 by_cases h:a=i/\b=j
 ·obtain⟨rfl,rfl⟩:=h
  rw[if_pos rfl,if_pos (show a*4+b<B.length by omega),if_pos ⟨rfl,rfl⟩];rfl
 ·rw[if_neg (show ¬ (i*4+j=a*4+b) by omega),if_neg h]
def WJ(r:Nat->Nat->Bool)(k i j:Nat)(B:List Int):Prop:=B.length=16/\∀a b,a<4->b<4->(mg B a b≠0↔(wR r k a b=true\/((a<i\/a=i/\b<j)/\wR r (k+1) a b=true)))
theorem wk1(r:Nat->Nat->Bool)(k i:Nat):wR r (k+1) i k=wR r k i k:=by simp only[wR];cases wR r k i k<;>simp
theorem wk2(r:Nat->Nat->Bool)(k j:Nat):wR r (k+1) k j=wR r k k j:=by simp only[wR];cases wR r k k j<;>cases wR r k k k<;>simp
theorem WJ_0{m:List Int}(hm:m.length=16):WJ (eG m) 0 0 0 m:=by
 refine⟨hm,fun a b ha hb=> ?_⟩
 constructor
 ·intro h;exact .inl (dh.2 ⟨ha,hb,h⟩)
 ·rintro(h|⟨h,_⟩)
  ·exact(dh.1 h).2.2
  ·omega
theorem Vh{r:Nat->Nat->Bool}{k i:Nat}{B:List Int}(h:WJ r k i 4 B):WJ r k (i+1) 0 B:=by
 refine⟨h.1,fun a b ha hb=>(h.2 a b ha hb).trans ?_⟩
 constructor
 ·rintro(h|⟨h,h2⟩)
  ·exact .inl h
  ·exact z8
 ·rintro(h|⟨h,h2⟩)
  ·exact .inl h
  ·exact z8
theorem NV{r:Nat->Nat->Bool}{k:Nat}{B:List Int}(h:WJ r k 4 0 B):WJ r (k+1) 0 0 B:=by
 refine⟨h.1,fun a b ha hb=>(h.2 a b ha hb).trans ?_⟩
 constructor
 ·rintro(h|⟨_,h2⟩)
  ·exact .inl (by simp only[wR,h,Bool.true_or])
  ·exact .inl h2
 ·rintro(h|⟨h,_⟩)
  ·exact .inr ⟨.inl ha,h⟩
  ·omega
theorem RA{r:Nat->Nat->Bool}{k i j a:Nat}{B:List Int}(h:WJ r k i j B)(ha:a<4)(hk:k<4):mg B a k≠0↔wR r k a k=true:=by
 rw[h.2 a k ha hk,wk1]
 exact⟨fun h=>h.elim id fun h=>h.2, .inl⟩
theorem RB{r:Nat->Nat->Bool}{k i j b:Nat}{B:List Int}(h:WJ r k i j B)(hb:b<4)(hk:k<4):mg B k b≠0↔wR r k k b=true:=by
 rw[h.2 k b hk hb,wk2]
 exact⟨fun h=>h.elim id fun h=>h.2, .inl⟩
theorem Vi{r:Nat->Nat->Bool}{k i j:Nat}{B:List Int}(h:WJ r k i j B)(hi:i<4)(hj:j<4)(hk:k<4)(h1:mg B i k≠0)(h2:mg B k j≠0):WJ r k i (j+1) (B.set (i*4+j) 2):=by
 have g1:=(RA h hi hk).1 h1
 have g2:=(RB h hj hk).1 h2
 refine⟨by rw[List.length_set];exact h.1,fun a b ha hb=> ?_⟩
 rw[Vg h.1 hi hj ha hb]
 by_cases e:a=i/\b=j
 ·obtain⟨rfl,rfl⟩:=e
  rw[if_pos ⟨rfl,rfl⟩]
  exact⟨fun _=> .inr ⟨.inr ⟨rfl,af⟩,by simp only[wR,g1,g2,Bool.and_self,Bool.or_true]⟩,fun _=>bF⟩
 ·rw[if_neg e,h.2 a b ha hb]
  constructor
  ·rintro(h|⟨h,h2⟩)
   ·exact .inl h
   ·exact z8
  ·rintro(h|⟨h,h2⟩)
   ·exact .inl h
   ·exact z8
theorem RC{r:Nat->Nat->Bool}{k i j:Nat}{B:List Int}(h:WJ r k i j B)(hi:i<4)(hj:j<4)(hk:k<4)(h1: ¬ (mg B i k≠0/\mg B k j≠0)):WJ r k i (j+1) B:=by
 refine⟨h.1,fun a b ha hb=>(h.2 a b ha hb).trans ?_⟩
 constructor
 ·rintro(h|⟨h,h2⟩)
  ·exact .inl h
  ·exact z8
 ·rintro(g|⟨g,g2⟩)
  ·exact .inl g
  ·by_cases e:a=i/\b=j
   ·obtain⟨rfl,rfl⟩:=e
    simp only[wR,Bool.or_eq_true,Bool.and_eq_true]at g2
    rcases g2 with g2|g2
    ·exact .inl g2
    ·exact absurd ⟨(RA h ha hk).2 g2.1,(RB h hb hk).2 g2.2⟩ h1
   ·exact .inr ⟨af,g2⟩
theorem zc{B:List Int}(hB:B.length=16){i j:Nat}(hi:i<4)(hj:j<4):((B.map D.i).map V.d)[i*4+j]? =some (V.d (D.i (mg B i j))):=by
 unfold mg
 rw[List.getElem?_map,List.getElem?_map,List.getElem?_eq_getElem (by omega),List.getD_eq_getElem?_getD,List.getElem?_eq_getElem (by omega)];rfl
def nV(m:List Int)(i j:Nat):Bool:=decide (mg m i j=2)&&(decide (i=j)||wR (eG m) 4 j i)
theorem BL{m:List Int}{i j:Nat}(hi:i<4)(hj:j<4)(h:nV m i j=true):l6 m=true:=by
 unfold nV at h
 simp only[Bool.and_eq_true,Bool.or_eq_true,decide_eq_true_eq]at h
 exact nC.2 ⟨i,j,hi,hj,h.1,h.2⟩
theorem Hh{m:List Int}(h:∀i j,i<4->j<4->nV m i j=false):l6 m=false:=by
 rw[Bool.eq_false_iff]
 intro h2
 obtain⟨i,j,hi,hj,h3,h4⟩:=nC.1 h2
 have:=h i j hi hj
 unfold nV at this
 rw[Bool.eq_false_iff]at this
 exact this (by simp only[Bool.and_eq_true,Bool.or_eq_true,decide_eq_true_eq];exact⟨h3,h4⟩)
def Iz(m B:List Int):Nat->ab:=aA (aA (fun _=> .no) 0 (mR m)) 3 (mR B)
theorem dO(m B:List Int):Good (Iz m B) 4:=(Good.nil.aA af (ou _ _)).aA af (ou _ _)
theorem faH_0(m B:List Int):Iz m B 0=mR m:=OO
theorem faH_3(m B:List Int):Iz m B 3=mR B:=OO
set_option maxHeartbeats 2000000 in
theorem NW(m:List Int)(hm:m.length=16):aT Tryz.prog 50 [mD m] (.ret [.bool (l6 m)]):=by
 refine aT.aF mix aak aL ?_
 rw[c50]
 simp+contextual (disch:=first|omega|simp only[go_sem,false_implies]) only[go_sem,wrap64,if_pos,jJ m hm,eD,gW,dn m hm]
 refine aw (fun i:Nat×List Int=>⟨aS [.aa, .ptr 0 0, .aa, .ptr 3 0, .aa, .aa, .aa, .aa, .aa, .aa, .aa, .d (.i i.1)],Iz m i.2,4⟩)
  (fun i=>i.1<=4/\WJ (eG m) i.1 0 0 i.2) (fun i=>4 - i.1) (0,m) ⟨Nat.zero_le _,WJ_0 hm⟩ (aZ.aR _ (show 0<=4 from af) af (dO _ _) (fun j hj=> ?_) ?_) ?_
 ·unfold Iz;rw[dm]
 ·exact bO
 rintro⟨k,B⟩ ⟨hk,hB⟩
 simp only at hk hB
 refine aU ?_
 refine ai (fun h1=> ?_) (fun h1=> ?_)
 ·replace h1:k<4:=by simp at h1;omega
  refine aU ?_
  refine aw (fun i:Nat×List Int=>⟨aS [.aa, .ptr 0 0, .aa, .ptr 3 0, .d (.i k), .aa, .aa, .aa, .aa, .aa, .aa, .d (.i k), .aa, .aa, .d (.i i.1)],Iz m i.2,4⟩)
   (fun i=>i.1<=4/\WJ (eG m) k i.1 0 i.2) (fun i=>4 - i.1) (0,B) ⟨Nat.zero_le _,hB⟩ (aZ.aR _ (show 0<=4 from af) af (dO _ _) (fun j hj=>rfl) ?_) ?_
  ·exact bO
  rintro⟨i,B⟩ ⟨hi,hB⟩
  simp only at hi hB
  refine aU ?_
  refine ai (fun h2=> ?_) (fun h2=> ?_)
  ·replace h2:i<4:=by simp at h2;omega
   refine aU ?_
   refine aw (fun j:Nat×List Int=>⟨aS [.aa, .ptr 0 0, .aa, .ptr 3 0, .d (.i k), .d (.i i), .aa, .aa, .aa, .aa, .aa, .d (.i k), .aa, .aa, .d (.i i), .aa, .aa, .d (.i j.1)],Iz m j.2,4⟩)
    (fun j=>j.1<=4/\WJ (eG m) k i j.1 j.2) (fun j=>4 - j.1) (0,B) ⟨Nat.zero_le _,hB⟩ (aZ.aR _ (show 0<=4 from af) af (dO _ _) (fun j hj=>rfl) ?_) ?_
   ·exact bO
   rintro⟨j,B⟩ ⟨hj,hB⟩
   simp only at hj hB
   have hl:=dn B hB.1
   refine aU ?_
   refine ai (fun h3=> ?_) (fun h3=> ?_)
   ·replace h3:j<4:=by simp at h3;omega
    have g1:=zc hB.1 h2 h1
    have g2:=zc hB.1 h1 h3
    have Ib:i*4+k+1<=((B.map D.i).map V.d).length:=by rw[hl];omega
    have le2:k*4+j+1<=((B.map D.i).map V.d).length:=by rw[hl];omega
    have le3:i*4+j+1<=B.length:=by rw[hB.1];omega
    cases c1:(mg B i k !=0)with
    |false=>
     simp+contextual (disch:=first|omega|simp only[go_sem,false_implies]) only[go_sem,wrap64,if_pos,faH_3,Int.toNat_natCast,Nat.mul_one,g1,if_pos Ib,c1]
     refine aj (j+1,B) ⟨h3,RC hB h2 h3 h1 (fun h=>by simp at c1;exact h.1 c1)⟩ jS (aZ.aR _ (show 0<=4 from af) af (dO _ _) (fun q hq=>rfl) ?_)
     exact bO
    |true=>
     cases c2:(mg B k j !=0)with
     |false=>
      simp+contextual (disch:=first|omega|simp only[go_sem,false_implies]) only[go_sem,wrap64,if_pos,faH_3,Int.toNat_natCast,Nat.mul_one,g1,g2,if_pos Ib,if_pos le2,c1,c2]
      refine aj (j+1,B) ⟨h3,RC hB h2 h3 h1 (fun h=>by simp at c2;exact h.2 c2)⟩ jS (aZ.aR _ (show 0<=4 from af) af (dO _ _) (fun q hq=>rfl) ?_)
      exact bO
     |true=>
      have KU:=rq B (i*4+j) 2 (by rw[hB.1];omega)
      simp+contextual (disch:=first|omega|simp only[go_sem,false_implies]) only[go_sem,wrap64,if_pos,faH_3,Int.toNat_natCast,Nat.mul_one,g1,g2,if_pos Ib,if_pos le2,if_pos le3,c1,c2,KU]
      refine aj (j+1,B.set (i*4+j) 2) ⟨h3,Vi hB h2 h3 h1 (by simpa using c1) (by simpa using c2)⟩ jS (aZ.aR _ (show 0<=4 from af) af (dO _ _) (fun q hq=> ?_) ?_)
      ·unfold Iz;rw[dm]
      ·exact bO
   ·have mL:j=4:=by simp at h3;omega
    subst mL
    refine aU ?_
    refine aj (i+1,B) ⟨h2,Vh hB⟩ jS (aZ.aR _ (show 0<=4 from af) af (dO _ _) (fun q hq=>rfl) ?_)
    exact bO
  ·have pA:i=4:=by simp at h2;omega
   subst pA
   refine aU ?_
   refine aj (k+1,B) ⟨h1,NV hB⟩ jS (aZ.aR _ (show 0<=4 from af) af (dO _ _) (fun q hq=>rfl) ?_)
   exact bO
 ·have mG:k=4:=by simp at h1;omega
  subst mG
  have hb:∀a b,a<4->b<4->(mg B a b≠0↔wR (eG m) 4 a b=true):=fun a b ha hb=>by
   rw[hB.2 a b ha hb]
   exact⟨fun h=>h.elim id fun h=>af, .inl⟩
  have hl:=dn B hB.1
  refine aU ?_
  refine aw (fun i:Nat=>⟨aS [.aa, .ptr 0 0, .aa, .ptr 3 0, .aa, .aa, .aa, .aa, .aa, .aa, .aa, .aa, .aa, .aa, .aa, .aa, .aa, .aa, .aa, .aa, .aa, .aa, .aa, .aa, .aa, .aa, .aa, .aa, .aa, .aa, .aa, .aa, .aa, .aa, .aa, .aa, .aa, .aa, .aa, .aa, .aa, .d (.i i)],Iz m B,4⟩)
   (fun i=>i<=4/\∀a b,a<i->b<4->nV m a b=false) (fun i=>4 - i) 0 ⟨bF,fun a b h=>absurd h (Nat.not_lt_zero _)⟩ (aZ.aR _ (show 0<=4 from af) af (dO _ _) (fun j hj=>rfl) ?_) ?_
  ·exact bO
  rintro i ⟨hi,iX⟩
  refine aU ?_
  refine ai (fun h2=> ?_) (fun h2=> ?_)
  ·replace h2:i<4:=by simp at h2;omega
   have li:i*4+4<=((m.map D.i).map V.d).length:=by rw[dn m hm];omega
   simp+contextual (disch:=first|omega|simp only[go_sem,false_implies]) only[go_sem,wrap64,if_pos,faH_0,Int.toNat_natCast,p9,eD,if_pos li]
   refine aw (fun j:Nat=>⟨aS [.aa, .ptr 0 0, .aa, .ptr 3 0, .aa, .aa, .aa, .d (.i i), .aa, .aa, .aa, .aa, .aa, .aa, .aa, .aa, .aa, .aa, .aa, .aa, .aa, .aa, .aa, .aa, .aa, .aa, .aa, .aa, .aa, .aa, .aa, .aa, .aa, .aa, .aa, .aa, .aa, .aa, .aa, .aa, .aa, .d (.i i), .aa, .aa, .aa, .aa, .d (.agg ((rowOf m i).map D.i)), .d (.i j)],Iz m B,4⟩)
    (fun j=>j<=4/\∀b,b<j->nV m i b=false) (fun j=>4 - j) 0 ⟨bF,fun b h=>absurd h (Nat.not_lt_zero _)⟩ (aZ.aR _ (show 0<=4 from af) af (dO _ _) (fun j hj=>rfl) ?_) ?_
   ·exact bO
   rintro j ⟨hj,abU⟩
   refine aU ?_
   refine ai (fun h3=> ?_) (fun h3=> ?_)
   ·replace h3:j<4:=by simp at h3;omega
    have hx:=nF hm h2 h3
    have qE:((rowOf m i).map D.i)[j]? =some (D.i (mg m i j)):=hx
    have g1:=zc hB.1 h3 h2
    have Ib:j*4+i+1<=((B.map D.i).map V.d).length:=by rw[hl];omega
    have hbj:=hb j i h3 h2
    have next:∀h:nV m i j=false,j+1<=4/\∀b,b<j+1->nV m i b=false:=fun h=>⟨h3,fun b hb=>by
     by_cases e:b=j
     ·rw[e];exact h
     ·exact abU b af⟩
    cases c1:(mg m i j==2)with
    |false=>
     have hh:nV m i j=false:=by unfold nV;simp at c1;simp[c1]
     simp+contextual (disch:=first|omega|simp only[go_sem,false_implies]) only[go_sem,wrap64,if_pos,Int.toNat_natCast,Nat.mul_one,we,qE,Option.map_some,c1]
     exact Yy
    |true=>
     have c1':mg m i j=2:=by simpa using c1
     cases c2:((i:Int)==(j:Int))with
     |true=>
      have e:i=j:=by simp at c2;omega
      have hh:nV m i j=true:=by unfold nV;rw[c1'];simp[e]
      simp+contextual (disch:=first|omega|simp only[go_sem,false_implies]) only[go_sem,wrap64,if_pos,Int.toNat_natCast,Nat.mul_one,we,qE,Option.map_some,c1,c2]
      rw[BL h2 h3 hh]
     |false=>
      have e:i≠j:=by simp at c2;omega
      cases c3:(mg B j i !=0)with
      |true=>
       have hh:nV m i j=true:=by unfold nV;rw[hbj.1 (by simpa using c3)];simp[c1']
       simp+contextual (disch:=first|omega|simp only[go_sem,false_implies]) only[go_sem,wrap64,if_pos,Int.toNat_natCast,Nat.mul_one,we,qE,Option.map_some,c1,c2,c3,faH_3,g1,if_pos Ib]
       rw[BL h2 h3 hh]
      |false=>
       have hh:nV m i j=false:=by
        unfold nV
        have:wR (eG m) 4 j i=false:=by
         rw[Bool.eq_false_iff];intro h;exact absurd (hbj.2 h) (by simpa using c3)
        rw[this];simp[e]
       simp+contextual (disch:=first|omega|simp only[go_sem,false_implies]) only[go_sem,wrap64,if_pos,Int.toNat_natCast,Nat.mul_one,we,qE,Option.map_some,c1,c2,c3,faH_3,g1,if_pos Ib]
       exact Yy
   ·have mL:j=4:=by simp at h3;omega
    subst mL
    refine aU ?_
    refine aj (i+1) ⟨h2,fun a b ha hb=> ?_⟩ af (aZ.aR _ (show 0<=4 from af) af (dO _ _) (fun q hq=>rfl) ?_)
    ·by_cases e:a=i
     ·rw[e];exact abU b hb
     ·exact iX a b af hb
    ·exact bO
  ·have pA:i=4:=by simp at h2;omega
   subst pA
   rw[Hh (fun a b ha hb=>iX a b ha hb)]
   exact vJ
theorem CO{l:List iV}{n:Int}{x:iV}(h:l[n.toNat]? =some x):fE l n=x.args:=by simp[fE,h]
theorem xP{l:List iV}{n:Int}(h:dG n 0 (l.length - 1)=true):0<=n/\∃x,l[n.toNat]? =some x:=by
 simp[dG]at h
 exact⟨h.1,l[n.toNat]'af,aL⟩
theorem Vj(s:bE)(t:Tm)(hs:s.Fits)(ht:t.kids.length<=9223372036854775807):aT Tryz.prog 122 [s.d,t.d] (.ret [.bool (bt s t)]):=by
 refine aT.aF mix aaW aL ?_
 rw[aaV]
 refine cq ?_
 rcases(by omega:t.op=1\/t.op=2\/t.op=3\/t.op=4\/t.op=5\/t.op=8\/(t.op=6\/t.op=7\/t.op=9\/t.op=10\/t.op=11\/t.op=12\/t.op=13\/t.op=14\/t.op=15)\/(t.op<1\/15<t.op))with h|h|h|h|h|h|h|h
 ·have hn:bt s t=((t.kids.length:Int)==0&&dG t.n 0 19):=by simp[bt,h]
  refine jR h ?_
  refine fD (eC [.bool (dG t.n 0 19)] ?_ ?_)
  ·refine cq ?_
   exact Ep
  refine jR h ?_
  rw[hn]
 ·have hn:bt s t=((t.kids.length:Int)==0&&dG t.n (-1000000) 1000000):=by simp[bt,h]
  refine jR h ?_
  refine fD (eC [.bool (dG t.n (-1000000) 1000000)] ?_ ?_)
  ·refine cq ?_
   exact Ep
  refine jR h ?_
  rw[hn]
 ·have hn:bt s t=(dG t.n 0 (s.cons.length - 1)&&(t.kids.length:Int)==fE s.cons t.n):=by simp[bt,h]
  refine jR h ?_
  rw[wrap64 (by have:=hs.lc;omega) (by have:=hs.lc;omega)]
  refine aC (Ab _ _ _) rfl ?_
  cases hI:dG t.n 0 (s.cons.length - 1)with
  |false=>
   exact I8
  |true=>
   exact SD
 ·have hn:bt s t=(dG t.n 0 (s.bB.length - 1)&&(t.kids.length:Int)==fE s.bB t.n):=by simp[bt,h]
  refine jR h ?_
  rw[wrap64 (by have:=hs.lf;omega) (by have:=hs.lf;omega)]
  refine aC (Ab _ _ _) rfl ?_
  cases hI:dG t.n 0 (s.bB.length - 1)with
  |false=>
   exact I8
  |true=>
   exact SD
 ·have hn:bt s t=(dG t.n 0 (s.bB.length - 1)&&decide ((t.kids.length:Int)<fE s.bB t.n)):=by simp[bt,h]
  refine jR h ?_
  rw[wrap64 (by have:=hs.lf;omega) (by have:=hs.lf;omega)]
  refine aC (Ab _ _ _) rfl ?_
  cases hI:dG t.n 0 (s.bB.length - 1)with
  |false=>
   exact I8
  |true=>
   exact SD
 ·have hn:bt s t=((t.kids.length:Int)==2&&dG t.n 0 19):=by simp[bt,h]
  refine jR h ?_
  refine fD (eC [.bool (dG t.n 0 19)] ?_ ?_)
  ·refine cq ?_
   exact Ep
  refine jR h ?_
  rw[hn]
 ·have hn:bt s t=((t.kids.length:Int)==2&&t.n==0):=by
   rcases h with h|h|h|h|h|h|h|h|h<;>simp[bt,h,dG]
  rw[hn]
  rcases h with h|h|h|h|h|h|h|h|h<;>simp+contextual only[go_sem,h]
 ·have hn:bt s t=false:=by
   simp[bt,dG,show ¬ (t.op=1) by omega,show ¬ (t.op=2) by omega,show ¬ (t.op=3) by omega,show ¬ (t.op=4) by omega,show ¬ (t.op=5) by omega,show ¬ (t.op=8) by omega,show ¬ (6<=t.op/\t.op<=15) by omega]
  have e:∀k:Int,1<=k->k<=15->(t.op==k)=false:=fun k h1 h2=>by simp;omega
  simp+contextual only[go_sem,e 1 (by omega) (by omega),e 2 (by omega) (by omega),e 3 (by omega) (by omega),e 4 (by omega) (by omega),e 5 (by omega) (by omega),e 6 (by omega) (by omega),e 7 (by omega) (by omega),e 8 (by omega) (by omega),e 9 (by omega) (by omega),e 10 (by omega) (by omega),e 11 (by omega) (by omega),e 12 (by omega) (by omega),e 13 (by omega) (by omega),e 14 (by omega) (by omega),e 15 (by omega) (by omega)]
  rw[hn]
theorem rr(s:bE)(t:Tm):jE s t=(bt s t&&t.kids.all (jE s)):=by
 have:∀l:List Tm,tc s l=l.all (jE s):=fun l=>by
  induction l with
  |nil=>rfl
  |cons k l ih=>simp[tc,ih]
 cases t;simp[jE,this,Tm.kids]
theorem cw{α:Type}{l:List α}{p:α->Bool}{k:Nat}{x:α}(hx:l[k]? =some x)(h:p x=false):l.all p=false:=by
 rw[List.all_eq_false];exact⟨x,List.mem_of_getElem? hx,by rw[h];exact Bool.false_ne_true⟩
theorem fb{α:Type}{l:List α}{p:α->Bool}{k:Nat}{x:α}(hx:l[k]? =some x)(h0:(l.take k).all p=true)(h:p x=true):(l.take (k+1)).all p=true:=by
 rw[List.take_add_one,hx,List.all_append,h0];simp[h]
theorem eE{α:Type}{l:List α}{p:α->Bool}{k:Nat}(h0:(l.take k).all p=true)(h:l.length<=k):l.all p=true:=by
 rwa [List.take_of_length_le h]at h0
theorem az{α:Type}{l:List α}{k:Nat}(h:k<l.length):∃x,l[k]? =some x:=⟨l[k],by simp[h]⟩
@[reducible] def bE.row (s:bE):List V:=[.d (.sl (s.cons.map iV.d)), .d (.sl (s.bB.map iV.d))]
theorem NX(s:bE)(hs:s.Fits):∀t:Tm,t.fits->aT Tryz.prog 87 [s.d,t.d] (.ret [.bool (jE s t)]):=by
 refine Tm.dN fun t ih hf=> ?_
 have kC:=(Tm.bu _).1 hf
 refine aT.aF mix ad7 aL ?_
 rw[c87]
 refine cq ?_
 refine aC (Vj s t hs kC.1) rfl ?_
 refine cq ?_
 rw[rr]
 refine ai (fun h1=> ?_) (fun h1=> ?_)
 ·refine cq ?_
  simp at h1;simp[h1]
 ·simp at h1
  rw[h1,Bool.true_and]
  refine cq ?_
  refine aw (fun k:Nat=>⟨aS [.aa, .aa, .ptr 0 0, .ptr 1 0, .aa, .d (.i k)],zb s.row t.row,2⟩)
   (fun k=>k<=t.kids.length/\(t.kids.take k).all (jE s)=true) (fun k=>t.kids.length - k) 0 ⟨Nat.zero_le _,aL⟩ (aZ.d2 _ (fQ rfl rfl) af rfl rfl ?_) (fun k hk=> ?_)
  ·exact bO
  refine cq ?_
  refine ai (fun h2=> ?_) (fun h2=> ?_)
  ·simp at h2
   obtain⟨x,hx⟩:=az h2
   have eU:=List.mem_of_getElem? hx
   refine jR hx ?_
   refine aV (ih x eU (kC.2 x eU)) rfl ?_
   refine cq ?_
   refine aI bF ?_
   refine cq ?_
   refine ai (fun h3=> ?_) (fun h3=> ?_)
   ·refine cq ?_
    simp at h3
    rw[cw hx h3]
   ·refine cq ?_
    simp at h3
    refine aj (k+1) ⟨h2,fb hx hk.2 h3⟩ af (aZ.d2 _ (fQ rfl rfl) af rfl rfl ?_)
    exact bO
  ·refine cq ?_
   simp at h2
   rw[eE hk.2 h2]
theorem KY(s:bE)(hs:s.Fits)(t:Tm)(hf:t.fits):aT Tryz.prog 61 [s.d,t.d] (.ret [.bool (fg s t)]):=by
 refine aT.aF mix adV aL ?_
 rw[c61]
 refine cq ?_
 refine aC (Fx t hf 40 12 af af) rfl ?_
 refine cq ?_
 refine fD (eC [.bool (jE s t)] ?_ ?_)
 ·refine cq ?_
  exact fun _=>NX s hs t hf
 refine cq ?_
 rfl
theorem lh:∀l l':List Tm,l.length=l'.length->(iN l l'=true↔∀ (i:Nat) (x y:Tm),l[i]? =some x->l'[i]? =some y->gr x y=true)
 |[],l',_=>by simp[iN]
 |k::l,k'::l',h=>by
  simp only[iN,Bool.and_eq_true]
  rw[lh l l' (by simpa using h)]
  constructor
  ·rintro⟨h1,h2⟩ i x y hx hy
   cases i with
   |zero=>simp at hx hy;subst hx;subst hy;exact h1
   |succ i=>exact h2 i x y wu (by simpa using hy)
  ·intro h3
   exact⟨h3 0 k k' rfl rfl,fun i x y hx hy=>h3 (i+1) x y wu (by simpa using hy)⟩
 |_::_,[],h=>by simp at h
theorem BM(a b:Tm):gr a b=(a.op==b.op&&a.n==b.n&&a.kids.length==b.kids.length&&iN a.kids b.kids):=by cases a;cases b;simp[gr,Tm.op,Tm.n,Tm.kids]
theorem KZ:∀a:Tm,a.fits->∀b:Tm,b.fits->aT Tryz.prog 30 [a.d,b.d] (.ret [.bool (gr a b)]):=by
 refine Tm.dN fun t ih hf b hb=> ?_
 have kC:=(Tm.bu _).1 hf
 have ML:=(Tm.bu _).1 hb
 refine aT.aF mix adB aL ?_
 rw[c30,BM]
 refine cq ?_
 refine ai (fun h1=> ?_) (fun h1=> ?_)
 ·refine cq ?_
  have:(t.op==b.op&&t.n==b.n&&t.kids.length==b.kids.length)=false:=by
   rw[Bool.eq_false_iff]
   intro h
   simp at h
   simp[h]at h1
  rw[this];rfl
 ·have mG:t.op=b.op/\t.n=b.n/\t.kids.length=b.kids.length:=by
   simp at h1
   refine⟨h1.1.1,h1.1.2,by have:=h1.2;omega⟩
  rw[show(t.op==b.op&&t.n==b.n&&t.kids.length==b.kids.length)=true by simp[mG],Bool.true_and]
  have hl:=mG.2.2
  refine cq ?_
  refine aw (fun k:Nat=>⟨aS [.aa, .aa, .ptr 0 0, .ptr 1 0, .aa, .d (.i k)],zb t.row b.row,2⟩)
   (fun k=>k<=t.kids.length/\∀i,i<k->∀x y,t.kids[i]? =some x->b.kids[i]? =some y->gr x y=true) (fun k=>t.kids.length - k) 0 ⟨Nat.zero_le _,fun i h=>af⟩ (aZ.d2 _ (fQ rfl rfl) af rfl rfl ?_) (fun k hk=> ?_)
  ·exact bO
  refine cq ?_
  refine ai (fun h2=> ?_) (fun h2=> ?_)
  ·simp at h2
   obtain⟨x,hx⟩:=az h2
   obtain⟨y,hy⟩:=az (l:=b.kids) (k:=k) af
   have eU:=List.mem_of_getElem? hx
   have hym:=List.mem_of_getElem? hy
   simp+contextual only[go_sem,hx,hy]
   refine aV (ih x eU (kC.2 x eU) y (ML.2 y hym)) rfl ?_
   refine cq ?_
   refine aI bF ?_
   refine cq ?_
   refine ai (fun h3=> ?_) (fun h3=> ?_)
   ·refine cq ?_
    simp at h3
    have:iN t.kids b.kids=false:=by
     rw[Bool.eq_false_iff]
     intro h
     have:=(lh _ _ hl).1 h k x y hx hy
     rw[h3]at this;cases this
    rw[this]
   ·refine cq ?_
    simp at h3
    refine aj (k+1) ⟨h2,fun i hi u v hu hv=> ?_⟩ af (aZ.d2 _ (fQ rfl rfl) af rfl rfl ?_)
    ·by_cases e:i=k
     ·subst e
      rw[hx]at hu;rw[hy]at hv
      exact O4
     ·exact hk.2 i af u v hu hv
    ·exact bO
  ·refine cq ?_
   simp at h2
   have:iN t.kids b.kids=true:=(lh _ _ hl).2 fun i x y hx hy=>hk.2 i (by have:=(List.getElem?_eq_some_iff.1 hx).1;omega) x y hx hy
   rw[this]
theorem FA(t:Tm)(hf:t.fits):aT Tryz.prog 68 [t.d] (.ret [.bool (kJ t)]):=by
 refine aT.aF mix adW aL ?_
 rw[c68]
 refine cq ?_
 refine aC (Fx t hf 50 14 af af) rfl ?_
 refine cq ?_
 rfl
theorem DM(s:bE)(hs:s.Fits):aT Tryz.prog 69 [s.d] (.ret [.bool (gR s)]):=by
 refine aT.aF mix adX aL ?_
 rw[c69]
 refine cq ?_
 refine ai (fun h1=> ?_) (fun h1=> ?_)
 ·refine cq ?_
  simp only[gR,h1];rfl
 ·have e:gR s=(ft s.cons&&ft s.bB):=by simp only[gR,h1];rfl
  rw[e]
  simp at h1
  refine cq ?_
  refine aw (fun k:Nat=>⟨aS [.aa, .ptr 0 0, .aa, .d (.i k)],iP s.row,1⟩)
   (fun k=>k<=s.cons.length/\ft (s.cons.take k)=true) (fun k=>s.cons.length - k) 0 ⟨Nat.zero_le _,by simp[ft]⟩ (aZ.d1 _ (aX rfl) af rfl ?_) (fun k hk=> ?_)
  ·exact bO
  refine cq ?_
  refine ai (fun h2=> ?_) (fun h2=> ?_)
  ·simp at h2
   obtain⟨x,hx⟩:=az h2
   refine jR hx ?_
   refine ai (fun h3=> ?_) (fun h3=> ?_)
   ·refine cq ?_
    rw[show ft s.cons=false from cw hx (by simpa using h3)];rfl
   ·refine cq ?_
    refine aj (k+1) ⟨h2,fb hx hk.2 (by simpa using h3)⟩ af (aZ.d1 _ (aX rfl) af rfl ?_)
    exact bO
  ·simp at h2
   rw[show ft s.cons=true from eE hk.2 h2,Bool.true_and]
   refine cq ?_
   refine aw (fun k:Nat=>⟨aS [.aa, .ptr 0 0, .aa, .aa, .d (.i k)],iP s.row,1⟩)
    (fun k=>k<=s.bB.length/\ft (s.bB.take k)=true) (fun k=>s.bB.length - k) 0 ⟨Nat.zero_le _,by simp[ft]⟩ (aZ.d1 _ (aX rfl) af rfl ?_) (fun k hk=> ?_)
   ·exact bO
   refine cq ?_
   refine ai (fun h4=> ?_) (fun h4=> ?_)
   ·simp at h4
    obtain⟨x,hx⟩:=az h4
    refine jR hx ?_
    refine ai (fun h3=> ?_) (fun h3=> ?_)
    ·refine cq ?_
     rw[show ft s.bB=false from cw hx (by simpa using h3)]
    ·refine cq ?_
     refine aj (k+1) ⟨h4,fb hx hk.2 (by simpa using h3)⟩ af (aZ.d1 _ (aX rfl) af rfl ?_)
     exact bO
   ·simp at h4
    rw[show ft s.bB=true from eE hk.2 h4]
    simp+contextual only[go_sem]
section
theorem BN{σ:Type}(l:List Tm)(hl:l.length<=9223372036854775807)(g:Nat)(aQ:List V)(base:Nat)(H:σ->Nat->ab)(step:σ->Tm->σ×Bool)(hc:∀r∈V.aG aQ,r<base)(ok:σ->Prop)(aW:∀x∈l,∀s,ok s->(step s x).2=true->ok (step s x).1)
 (h:∀x∈l,∀s,ok s->iO Tryz.prog g (.d x.d::aQ) base (H s) (H (step s x).1) (.d (.bool (step s x).2))) (s:σ) (iu:ok s):
 iO Tryz.prog 171 [.d (.sl (l.map Tm.d)), .func (.func g) [] aQ] base (H s) (H (aq step s l).1) (.d (.bool (aq step s l).2)):=by
 intro o nx hI K X hK
 have iq:∀r∈V.aG aQ,r<nx:=fun r hr=>Nat.lt_of_lt_of_le (hc r hr) hI.le
 refine cX.aF mix Rg aL ?_
 rw[UR]
 refine cq ?_
 refine aw (fun i:Nat×σ×(Nat->ab)×Nat=>⟨aS [.aa, .func (.func g) [] aQ, .aa, .aa, .aa, .aa, .aa, .d (.sl (l.map Tm.d)), .d (.i l.length), .d (.i i.1)],i.2.2.1,i.2.2.2⟩)
  (fun i=>i.1<=l.length/\cH base (H i.2.1) i.2.2.1 i.2.2.2/\nx<=i.2.2.2/\(∀id,base<=id->id<nx->i.2.2.1 id=o id)/\aq step s l=aq step i.2.1 (l.drop i.1)/\ok i.2.1) (fun i=>l.length - i.1) (0,s,o,nx)
  ⟨Nat.zero_le _,hI,Nat.le_refl _,fun _ _ _=>rfl,rfl,iu⟩ ?_ ?_
 ·exact I4
 rintro⟨k,s',o',nx'⟩ ⟨hk,sY,hn,cN,hf,hZ⟩
 simp only at hk sY hn cN hf hZ
 refine cq ?_
 refine ai (fun h1=> ?_) (fun h1=> ?_)
 ·simp at h1
  obtain⟨x,hx⟩:=az h1
  have eU:=List.mem_of_getElem? hx
  have hd:l.drop k=x::l.drop (k+1):=by
   exact V8
  refine Ik hx ?_
  have hl0:=sY.le
  refine dF (h x eU s' hZ _ _ (?_:cH base (H s') _ (nx'+7)) _ _ fun o2 n2 m1 m2 m3=> ?_)
  ·exact XL
  have K0:∀id,base<=id->id<nx->o2 id=o id:=fun id h2 h3=>by
   exact X1
  refine cq ?_
  refine ai (fun h2=> ?_) (fun h2=> ?_)
  ·refine cq ?_
   simp at h2
   have:aq step s l=((step s' x).1,false):=by rw[hf,hd,aq,if_neg (by rw[h2];exact Bool.false_ne_true)]
   rw[this]at hK
   exact hK _ _ af (m2.mono af) K0
  ·refine cq ?_
   simp at h2
   have:aq step s l=aq step (step s' x).1 (l.drop (k+1)):=by rw[hf,hd,aq,if_pos h2]
   refine aj (k+1,(step s' x).1,o2,n2) ⟨h1,m2,by dsimp only;omega,K0,this,aW x eU s' hZ h2⟩ jS ?_
   dsimp only
   have FB:∀r∈V.aG aQ,r<n2:=fun r hr=>by have:=iq r hr;omega
   refine aZ.aR _ af af m2.bA (fun _ _=>rfl) ?_
   exact bO
 ·exact YE
theorem zd{α σ:Type}(step:σ->α->σ×Bool)(a b:List α):∀s,aq step s (a++b)=if(aq step s a).2=true then aq step (aq step s a).1 b else((aq step s a).1,false):=by
 induction a with
 |nil=>intro s;simp[aq]
 |cons x a ih=>
  intro s
  simp only[List.cons_append,aq]
  split
  ·exact ih _
  ·rename_i h;simp
theorem uT{α β σ:Type}(step:σ->β->σ×Bool)(f:α->List β)(l:List α):∀s,aq step s (l.flatMap f)=aq (fun s x=>aq step s (f x)) s l:=by
 induction l with
 |nil=>intro s;rfl
 |cons x l ih=>intro s;simp only[List.flatMap_cons,zd,aq,ih]
theorem z7{α σ:Type}{step:σ->α->σ×Bool}{ok:σ->Prop}:∀ (l:List α),(∀x∈l,∀s,ok s->(step s x).2=true->ok (step s x).1)->∀s,ok s->(aq step s l).2=true->ok (aq step s l).1
 |[],_,s,h,_=>h
 |x::l,aW,s,h,h2=>by
  simp only[aq]at h2|-
  split at h2
  ·rename_i hb
   rw[if_pos hb]
   exact z7 l (fun y hy=>aW y rL) _ (aW x aL s h hb) h2
  ·cases h2
def Xb(P:Program)(nd:Nat)(args:List V)(base:Nat)(h h2:Nat->ab)(v:V):Prop:=
 ∀o nx,cH base h o nx->∀K X,StK base h2 v o nx K->dw P nd args o nx K X
section
variable {σ:Type}(base nd:Nat)(H:σ->Nat->ab)(step:σ->Tm×Int->σ×Bool)(ok:σ->Prop)
theorem NY:∀t:Tm,t.fits->∀d:Int,0<=d->d+t.l5<=1000000->(∀x∈pre t d,∀s,ok s->(step s x).2=true->ok (step s x).1)->(∀x∈pre t d,∀s,ok s->Xb Tryz.prog nd [.d x.1.d, .d (.i x.2)] base (H s) (H (step s x).1) (.d (.bool (step s x).2)))->nd<base->
 ∀ (c:Nat) (o0:Nat->ab) (yb vb:Nat),base<=c->base<=yb->yb<c->base<=vb->vb<c->o0 yb= .row [.ja nd]->o0 vb= .row [.func (.func 175) [] [.ptr yb 0, .ptr vb 0]]->
 ∀s,ok s->iO Tryz.prog 175 [.d t.d, .d (.i d), .ptr yb 0, .ptr vb 0] c (ext base (H s) o0) (ext base (H (aq step s (pre t d)).1) o0) (.d (.bool (aq step s (pre t d)).2)):=by
 refine Tm.dN fun t ih hf d hd0 hd aW hR uU c o0 yb vb Mc Mm hy Mn hv oy ov s iu=> ?_
 have kC:=(Tm.bu _).1 hf
 intro o nx hI K X hK
 have hle:=hI.le
 have NZ:o yb= .row [.ja nd]:=by rw[hI.eq yb hy];unfold ext;rw[if_neg (by omega),oy]
 have N0:o vb= .row [.func (.func 175) [] [.ptr yb 0, .ptr vb 0]]:=by rw[hI.eq vb hv];unfold ext;rw[if_neg (by omega),ov]
 have y1:yb≠nx:=af
 have y2:∀k,yb≠nx+k:=fun k=>af
 have y3:vb≠nx:=af
 have y4:∀k,vb≠nx+k:=fun k=>af
 refine cX.aF mix Rm aL ?_
 rw[UW]
 simp+contextual only[go_sem,NZ,N0,y1,y2,y3,y4,Nat.add_assoc,Nat.left_eq_add,Nat.add_eq_left,Nat.add_left_cancel_iff]
 have sD:=jC t d
 have jT:∀k∈t.kids,∀x∈pre k (d+1),x∈pre t d:=fun k hk x hx=>by
  exact O5
 have hb:∀id,id<base->o id=H s id:=fun id au=>by rw[hI.eq id (by omega)];unfold ext;rw[if_pos au]
 have hIb:cH base (H s) o nx:=⟨hI.bA,af,hb⟩
 refine nb (hR (t,d) Ad s iu _ _ ((hIb.aA (i:=nx) (m:=nx+6) af af af rfl).aA (i:=nx+1) af af af rfl) _ _ fun o2 n2 m1 m2 m3=> ?_)
 have k0:o2 nx= .row t.row:=by rw[m3 nx (by omega) (by omega),ag _ _ _ _ (by omega),ad]
 have k1:o2 (nx+1)= .row [.d (.i d)]:=by rw[m3 (nx+1) (by omega) (by omega),ad]
 have hold:∀id,base<=id->id<nx->o2 id=o id:=fun id h1 h2=>by rw[m3 id h1 (by omega),ag _ _ _ _ (by omega),ag _ _ _ _ (by omega)]
 have CN:∀id,base<=id->id<c->o id=o0 id:=fun id h1 h2=>by rw[hI.eq id h2];unfold ext;rw[if_neg (by omega)]
 cases BO:(step s (t,d)).2 with
 |false=>
  refine jR BO ?_
  have xl:aq step s (pre t d)=((step s (t,d)).1,false):=by rw[sD,aq,if_neg (by rw[BO];exact Bool.false_ne_true)]
  rw[xl]at hK
  refine hK _ _ af ⟨m2.bA.mono af,af,fun id au=> ?_⟩ (fun id h1 h2=>hold id af h2)
  unfold ext
  split
  ·exact m2.eq id o7
  ·exact Iv
 |true=>
  have xl:aq step s (pre t d)=aq (fun s k=>aq step s (pre k (d+1))) (step s (t,d)).1 t.kids:=by rw[sD,aq,if_pos BO,uT]
  simp+contextual only[go_sem,BO,k0,k1]
  have q0:o2 yb= .row [.ja nd]:=by rw[hold yb Mm (by omega),NZ]
  have q1:o2 vb= .row [.func (.func 175) [] [.ptr yb 0, .ptr vb 0]]:=by rw[hold vb Mn (by omega),N0]
  have m0:=m2.le
  refine bg (BN t.kids kC.1 176 [.ptr vb 0, .ptr (nx+1) 0] n2 (fun s=>ext base (H s) o2) (fun s k=>aq step s (pre k (d+1))) ?_ ok ?_ ?_ (step s (t,d)).1 (aW (t,d) Ad s iu BO) _ _ ?_ _ _ ?_)
  ·simp[V.aG,V.refs];omega
  ·exact OP
  ·intro k hk s' jU o3 n3 hI3 K3 X3 hK3
   have l3:=hI3.le
   have r0:o3 vb= .row [.func (.func 175) [] [.ptr yb 0, .ptr vb 0]]:=by rw[hI3.eq vb (by omega)];unfold ext;rw[if_neg (by omega),q1]
   have r1:o3 (nx+1)= .row [.d (.i d)]:=by rw[hI3.eq (nx+1) (by omega)];unfold ext;rw[if_neg (by omega),k1]
   have y5:vb≠n3:=af
   have y6:∀k,vb≠n3+k:=fun k=>af
   have y7:nx+1≠n3:=af
   have y8:∀k,nx+1≠n3+k:=fun k=>af
   have hh:=Tm.nA hk
   refine cX.aF mix Rn aL ?_
   rw[UX]
   simp+contextual only[go_sem,r0,r1,y5,y6,y7,y8]
   rw[wrap64 (n:=d+1) (by omega) (by omega)]
   refine bg (ih k hk (kC.2 k hk) (d+1) af af (fun x hx=>aW x (jT k hk x hx)) (fun x hx=>hR x (jT k hk x hx)) uU n2 o2 yb vb af Mm af Mn af q0 q1 s' jU _ _ (hI3.aA (i:=n3) (m:=n3+6) af af af rfl) _ _ fun o4 n4 p1 p2 p3=> ?_)
   refine cq ?_
   refine hK3 _ _ af (p2.mono af) (fun id h1 h2=> ?_)
   rw[p3 id h1 (by omega),ag _ _ _ _ (by omega)]
  ·exact(m2.mono af).ext af af
  ·intro o5 n5 p1 p2 p3
   refine cq ?_
   rw[<- xl]
   refine hK _ _ af ⟨p2.bA.mono af,af,fun id au=> ?_⟩ (fun id h1 h2=> ?_)
   ·rw[p2.eq id (by omega), <- xl]
    unfold ext
    split
    ·rfl
    ·exact Iv
   ·exact PA
theorem K1(t:Tm)(hf:t.fits)(hd:t.l5<=900000)(aW:∀x∈pre t 1,∀s,ok s->(step s x).2=true->ok (step s x).1)(hR:∀x∈pre t 1,∀s,ok s->Xb Tryz.prog nd [.d x.1.d, .d (.i x.2)] base (H s) (H (step s x).1) (.d (.bool (step s x).2)))(uU:nd<base)(tb:Nat)(CQ:tb<base)(s:σ)(iu:ok s)(bG:H s tb= .row t.row):
 iO Tryz.prog 174 [.ja nd, .ptr tb 0] base (H s) (H (aq step s (pre t 1)).1) (.bU []):=by
 intro o nx hI K X hK
 have hle:=hI.le
 have ot:o tb= .row t.row:=by rw[hI.eq tb CQ,bG]
 have y1:tb≠nx:=af
 have y2:∀k,tb≠nx+k:=fun k=>af
 refine cX.aF mix Rj aL ?_
 rw[UU]
 refine R0 ot y1 y2 ?_
 have hI1:cH base (H s) (aA (aA (aA o nx (.row [.ja nd])) (nx+1) (.row [.d .b7])) (nx+1) (.row [.func (.func 175) [] [.ptr nx 0, .ptr (nx+1) 0]])) (nx+6):=by
  refine((hI.aA (i:=nx) (m:=nx+6) af af af ?_).aA (i:=nx+1) (m:=nx+6) af af af rfl).aA (i:=nx+1) af af af ?_
  ·exact IK
  ·exact mm
 refine bg (NY base nd H step ok t hf 1 af af aW hR uU (nx+6) _ nx (nx+1) af hle af af af ?_ ?_ s iu _ _ (hI1.ext (Nat.le_refl _) af) _ _ ?_)
 ·exact fi
 ·exact fi
 intro o2 n2 m1 m2 m3
 refine cq ?_
 refine hK _ _ af ⟨m2.bA,af,fun id au=> ?_⟩ (fun id h1 h2=> ?_)
 ·exact Gb
 ·exact SK
end
theorem BP(t:Tm)(o:Nat->ab)(nx:Nat)(K X:V->(Nat->ab)->Nat->Prop)(h:K (.func (.func 174) [] [.ptr nx 0]) (aA o nx (.row t.row)) (nx+4)):cX Tryz.prog 160 [.d t.d] o nx K X:=by
 refine cX.aF mix Rb aL ?_
 rw[UN]
 refine cq ?_
 exact h
end
def K2:Option jP->fm
 |none=> .normal
 |some .ret=> .ret
 |some (.exit j)=> .exit j
def xm{σ:Type}(J:σ->Option jP)(step:σ->Tm×Int->σ)(s:σ)(x:Tm×Int):σ×Bool:=(step s x,(J (step s x)).isNone)
theorem ze{σ:Type}(J:σ->Option jP)(step:σ->Tm×Int->σ):∀ (l:List (Tm×Int)) (s:σ),J s=none->(aq (xm J step) s l).2=(J (aq (xm J step) s l).1).isNone
 |[],s,h=>by simp[aq,h]
 |x::l,s,h=>by
  simp only[aq]
  split
  ·rename_i hb
   exact ze J step l _ (by simpa[xm]using hb)
  ·rename_i hb
   cases hj:J (step s x)with
   |none=>exact absurd (by simp[xm,hj]) hb
   |some j=>simp[xm,hj]
theorem sm{σ:Type}(t:Tm)(hf:t.fits)(hd:t.l5<=900000){n bq:Nat}{gq:Operand}{ps:List Nat}{jr fj:IC}{Q:fm->S->Prop}{e:Nat->V}{o:Nat->ab}{nx tb:Nat}(env:List V)(he:l7 e env 0)
 (nD:ps.all (fun t=>decide (t<n))=true) (hl:ps.length=2) (hg:Good o nx) (hrefs:∀r∈V.aG env,r<nx) (ht:o tb= .row t.row)
 (G:σ->Nat->ab) (J:σ->Option jP) (step:σ->Tm×Int->σ) (ok:σ->Prop) (s0:σ) (iu:ok s0) (V7:J s0=none) (h0:∀id,id<nx->o id=G s0 id) (aW:∀x∈pre t 1,∀s,ok s->J s=none->J (step s x)=none->ok (step s x))
 (oM:∀L,gV Tryz.prog n env ps jr fj L->(∀st pd m,nx<=m->(L st pd).refs.all (fun r=>decide (r<m))=true)->∀x∈pre t 1,∀s,ok s->J s=none->∀o3 n3,cH nx (G s) o3 n3->nx<n3->o3 nx=L .ready none->∀K X,
  (∀e' o' n' st pd,n3<=n'->cH nx (G (step s x)) o' n'->o' nx=L st pd->(∀id,nx<id->id<n3->o' id=o3 id)->jH nx K X (K2 (J (step s x))) ⟨e',o',n'⟩)->
  lQ Tryz.prog n n3 true jr (oR Tryz.prog n n3 nx fj K X) ⟨mW (aS env) ps [.d x.1.d, .d (.i x.2)],o3,n3⟩)
 (jA:∀o' n',cH nx (G (aq (xm J step) s0 (pre t 1)).1) o' n'->oL Q (J (aq (xm J step) s0 (pre t 1)).1) ⟨e,o',n'⟩):
 yI Tryz.prog n bq false gq ps jr fj Q ⟨e,o,nx⟩ (.func (.func 174) [] [.ptr tb 0]):=by
 refine DL env he (fun L hL=> ?_)
 have CQ:tb<nx:=hg.lt I3
 let H:σ->Nat->ab:=fun s id=>if id<nx then G s id else if id=nx then(match J s with|none=>L .ready none|some j=>L .done (some j))else .no
 have Gd:∀s id,id<nx->H s id=G s id:=fun s id h=>if_pos h
 have Mb:∀s,J s=none->H s nx=L .ready none:=fun s h=>by show(if nx<nx then _ else _)=_;rw[if_neg (by omega),if_pos rfl,h]
 have Sg:∀s j,J s=some j->H s nx=L .done (some j):=fun s j h=>by show(if nx<nx then _ else _)=_;rw[if_neg (by omega),if_pos rfl,h]
 have wg:∀st pd m,nx<=m->(L st pd).refs.all (fun r=>decide (r<m))=true:=fun st pd m hm=>by
  exact SG
 refine K1 (nx+1) nx H (xm J step) (fun s=>ok s/\J s=none) t hf hd (fun x hx s h1 h2=> ?_) (fun x hx s h1=> ?_) af tb af s0 ⟨iu,V7⟩ I1 _ _ ⟨?_,Nat.le_refl _,fun id au=> ?_⟩ _ _ ?_
 ·have hj:J (step s x)=none:=by simpa[xm]using h2
  exact⟨aW x hx s h1.1 h1.2 hj,hj⟩
 ·intro o3 n3 hI K X hK
  have hle:=hI.le
  have Ic:o3 nx=L .ready none:=by rw[hI.eq nx (by omega),Mb s h1.2]
  refine uR hL mix Ic af nD (by simp[hl]) ?_
  refine oM L hL wg x hx s h1.1 h1.2 o3 n3 ⟨hI.bA,af,fun id au=>by rw[hI.eq id (by omega),Gd _ _ au]⟩ af Ic K X (fun e' o' n' st pd k1 k2 k3 k4=> ?_)
  have key:∀st' pd' b,(J (step s x)).isNone=b->H (step s x) nx=L st' pd'->K (.d (.bool b)) (aA o' nx (L st' pd')) n':=fun st' pd' b hb hh=>by
   subst hb
   refine hK _ _ k1 ⟨k2.bA.aA af (wg _ _ _ af),af,fun id au=> ?_⟩ (fun id g1 g2=> ?_)
   ·by_cases tz:id=nx
    ·exact IL
    ·rw[ag _ _ _ _ tz]
     show o' id=H (step s x) id
     exact ID
   ·exact Sn
  cases hj:J (step s x)with
  |none=>exact Sj
  |some j=>
   cases j with
   |ret=>exact Sh
   |exit j=>exact Sf
 ·exact Si
 ·by_cases tz:id=nx
  ·exact IV
  ·exact Se
 ·intro o' n' k1 k2 k3
  have hle:=k2.le
  generalize hsf:(aq (xm J step) s0 (pre t 1)).1=sf at*
  have kk:∀st pd,cH nx (G sf) (aA o' nx (L st pd)) n':=fun st pd=>⟨k2.bA.aA af (wg _ _ _ af),af,fun id au=>by rw[ag _ _ _ _ (by omega),k2.eq id (by omega),Gd _ _ au]⟩
  cases hj:J sf with
  |none=>
   refine⟨.ready,none,by rw[k2.eq nx (by omega),Mb _ hj],(fun h=>by cases h), ?_⟩
   have:=jA _ _ (kk .exhausted none)
   rwa [hj]at this
  |some j=>
   refine⟨.done,some j,by rw[k2.eq nx (by omega),Sg _ _ hj],(fun h=>by cases h), ?_⟩
   have:=jA _ _ (kk .exhausted (some j))
   rwa [hj]at this
theorem fV(n low high:Int):aT Tryz.prog 127 [.i n, .i low, .i high] (.ret [.bool (dG n low high)]):=by
 refine aT.aF mix QW aL ?_
 rw[Uy]
 refine cq ?_
 rfl
theorem DN(s:bE)(t:Tm)(h:t.op=1):aT Tryz.prog 182 [s.d,t.d] (.ret [.bool (bt s t)]):=by
 have hn:bt s t=(dG t.n 0 19&&(t.kids.length:Int)==0):=by simp[bt,h,Bool.and_comm]
 refine aT.aF mix Rs aL ?_
 rw[U2]
 exact SJ
theorem Hi(s:bE)(t:Tm)(h:t.op=2):aT Tryz.prog 183 [s.d,t.d] (.ret [.bool (bt s t)]):=by
 have hn:bt s t=(dG t.n (-1000000) 1000000&&(t.kids.length:Int)==0):=by simp[bt,h,Bool.and_comm]
 refine aT.aF mix Rt aL ?_
 rw[U3]
 exact SJ
theorem abV(s:bE)(t:Tm)(h:t.op=8):aT Tryz.prog 187 [s.d,t.d] (.ret [.bool (bt s t)]):=by
 have hn:bt s t=(dG t.n 0 19&&(t.kids.length:Int)==2):=by simp[bt,h,Bool.and_comm]
 refine aT.aF mix Rx aL ?_
 rw[U7]
 exact SJ
theorem Vk(s:bE)(t:Tm)(h:t.op=6\/t.op=7\/t.op=9\/t.op=10\/t.op=11\/t.op=12\/t.op=13\/t.op=14\/t.op=15):aT Tryz.prog 188 [s.d,t.d] (.ret [.bool (bt s t)]):=by
 have hn:bt s t=(t.n==0&&(t.kids.length:Int)==2):=by
  rcases h with h|h|h|h|h|h|h|h|h<;>simp[bt,h,dG,Bool.and_comm]
 refine aT.aF mix Ry aL ?_
 rw[U8]
 refine cq ?_
 rw[hn]
theorem abW(s:bE)(t:Tm)(hs:s.Fits)(h:t.op=3):aT Tryz.prog 184 [s.d,t.d] (.ret [.bool (bt s t)]):=by
 have hn:bt s t=(dG t.n 0 (s.cons.length - 1)&&(t.kids.length:Int)==fE s.cons t.n):=by simp[bt,h]
 refine aT.aF mix Ru aL ?_
 rw[U4]
 refine cq ?_
 rw[wrap64 (by have:=hs.lc;omega) (by have:=hs.lc;omega)]
 refine aV (fV _ _ _) rfl ?_
 cases hI:dG t.n 0 (s.cons.length - 1)with
 |false=>
  exact SF
 |true=>
  exact Sx
theorem abX(s:bE)(t:Tm)(hs:s.Fits)(h:t.op=4):aT Tryz.prog 185 [s.d,t.d] (.ret [.bool (bt s t)]):=by
 have hn:bt s t=(dG t.n 0 (s.bB.length - 1)&&(t.kids.length:Int)==fE s.bB t.n):=by simp[bt,h]
 refine aT.aF mix Rv aL ?_
 rw[U5]
 refine cq ?_
 rw[wrap64 (by have:=hs.lf;omega) (by have:=hs.lf;omega)]
 refine aV (fV _ _ _) rfl ?_
 cases hI:dG t.n 0 (s.bB.length - 1)with
 |false=>
  exact SF
 |true=>
  exact Sx
theorem Vl(s:bE)(t:Tm)(hs:s.Fits)(h:t.op=5):aT Tryz.prog 186 [s.d,t.d] (.ret [.bool (bt s t)]):=by
 have hn:bt s t=(dG t.n 0 (s.bB.length - 1)&&decide ((t.kids.length:Int)<fE s.bB t.n)):=by simp[bt,h]
 refine aT.aF mix Rw aL ?_
 rw[U6]
 refine cq ?_
 rw[wrap64 (by have:=hs.lf;omega) (by have:=hs.lf;omega)]
 refine aV (fV _ _ _) rfl ?_
 cases hI:dG t.n 0 (s.bB.length - 1)with
 |false=>
  exact SF
 |true=>
  exact Sx
@[reducible] def rf (n:Nat):V:= .func (.func n) [] []
@[reducible] def aef:List V:=[.d .b7,rf 182,rf 183,rf 184,rf 185,rf 186, .d .b7, .d .b7,rf 187, .d .b7, .d .b7, .d .b7, .d .b7, .d .b7, .d .b7, .d .b7]
@[reducible] def DO:List V:=[.d .b7,rf 182,rf 183,rf 184,rf 185,rf 186,rf 188,rf 188,rf 187,rf 188,rf 188,rf 188,rf 188,rf 188,rf 188,rf 188]
def Il(k:Nat):List V:=DO.take k++aef.drop k
theorem funcOf{P:Program}{t:TypeId}(h:(match P.underlying t with|some (.func _ _ _)=>true|_=>false)=true):∃a b c,P.underlying t=some (.func a b c):=by
 split at h
 ·exact⟨_,_,_,by assumption⟩
 ·cases h
@[go_sem] theorem aeg (o:Nat->ab) (oD:Bool):wv Tryz.prog o 214 oD (.d .b7) (.d .b7)=some (.d (.bool true)):=by
  exact PC
@[go_sem] theorem aeh (o:Nat->ab) (oD:Bool) (f:Fn) (x y:List V):wv Tryz.prog o 214 oD (.func f x y) (.d .b7)=some (.d (.bool false)):=by
  exact PC
theorem N1(base:Nat)(h:Nat->ab):iO Tryz.prog 181 [] base h h (.agg DO):=by
 intro o nx hI K X hK
 have hle:=hI.le
 refine cX.aF mix Rr aL ?_
 rw[U1]
 simp+contextual only[go_sem,Nat.add_assoc,Nat.left_eq_add,Nat.add_eq_left,Nat.add_left_cancel_iff]
 refine aw (fun k:Nat=>⟨aS [.ptr nx 0, .ptr (nx+2) 0, .aa, .aa, .d (.i k)],aA (aA o nx (.row (List.replicate 16 (.d .b7)))) (nx+2) (.row (Il k)),nx+5⟩)
  (fun k=>k<=16) (fun k=>16 - k) 0 (Nat.zero_le _) ?_ (fun k hk=> ?_)
 ·refine aZ.aR _ af af ?_ (fun id au=> ?_) ?_
  ·exact((hI.bA.mono af).aA af rfl).aA af rfl
  ·rw[dm];rfl
  ·exact bO
 have hg:∀k,k<16->Good (aA (aA o nx (.row (List.replicate 16 (.d .b7)))) (nx+2) (.row (Il (k+1)))) (nx+5):=fun k hk=>
  ((hI.bA.mono af).aA af rfl).aA af (by
    rcases(by omega:k=0\/k=1\/k=2\/k=3\/k=4\/k=5\/k=6\/k=7\/k=8\/k=9\/k=10\/k=11\/k=12\/k=13\/k=14\/k=15)with rfl|rfl|rfl|rfl|rfl|rfl|rfl|rfl|rfl|rfl|rfl|rfl|rfl|rfl|rfl|rfl<;>rfl)
 by_cases aei:k=16
 ·subst aei
  refine Xu ?_
  refine hK _ _ ?_ ⟨?_, ?_,fun id au=> ?_⟩ (fun id h1 h2=> ?_)
  rotate_left
  ·exact(((hI.bA.mono af).aA af rfl).aA af rfl).aA af rfl
  ·omega
  ·(repeat(first|rfl|rw[ad]|rw[ag _ _ _ _ (by omega)]))
   exact hI.eq id au
  ·exact fi
  ·omega
 ·have hgk:=hg k af
  obtain⟨k1,Wi⟩:∃k1,k1=k+1:=⟨_,rfl⟩
  rw[<- Wi]at hgk
  rcases(by omega:k=0\/k=1\/k=2\/k=3\/k=4\/k=5\/k=6\/k=7\/k=8\/k=9\/k=10\/k=11\/k=12\/k=13\/k=14\/k=15)with rfl|rfl|rfl|rfl|rfl|rfl|rfl|rfl|rfl|rfl|rfl|rfl|rfl|rfl|rfl|rfl
  all_goals
   refine Xu ?_
   refine aj k1 af af (aZ.aR _ af af hgk (fun id au=> ?_) ?_)
   all_goals subst Wi
   ·first|rfl|(rw[dm];rfl)
   ·exact bO
def K4(n:Int):Nat:=if n=1 then 182 else if n=2 then 183 else if n=3 then 184 else if n=4 then 185 else if n=5 then 186 else if n=8 then 187 else 188
theorem Vm(s:bE)(t:Tm)(hs:s.Fits)(h:dG t.op 1 15=true):aT Tryz.prog (K4 t.op) [s.d,t.d] (.ret [.bool (bt s t)])/\DO[t.op.toNat]? =some (rf (K4 t.op))/\0<=t.op/\t.op<16:=by
 simp[dG]at h
 rcases(by omega:t.op=1\/t.op=2\/t.op=3\/t.op=4\/t.op=5\/t.op=8\/(t.op=6\/t.op=7\/t.op=9\/t.op=10\/t.op=11\/t.op=12\/t.op=13\/t.op=14\/t.op=15))with h|h|h|h|h|h|h
 ·exact⟨by rw[h];exact DN s t h,by rw[h];rfl,af,af⟩
 ·exact⟨by rw[h];exact Hi s t h,by rw[h];rfl,af,af⟩
 ·exact⟨by rw[h];exact abW s t hs h,by rw[h];rfl,af,af⟩
 ·exact⟨by rw[h];exact abX s t hs h,by rw[h];rfl,af,af⟩
 ·exact⟨by rw[h];exact Vl s t hs h,by rw[h];rfl,af,af⟩
 ·exact⟨by rw[h];exact abV s t h,by rw[h];rfl,af,af⟩
 ·have hp:=Vk s t h
  rcases h with h|h|h|h|h|h|h|h|h<;>exact⟨by rw[h];exact hp,by rw[h];rfl,af,af⟩
def nW(s:bE)(n:Int)(x:Tm×Int):Bool:=decide (40<n+1)||decide (12<x.2)|| !dG x.1.op 1 15|| !bt s x.1
def gw(s:bE)(n:Int×Bool)(x:Tm×Int):Int×Bool:=(n.1+1, !nW s n.1 x)
def fJ(n:Int×Bool):Option jP:=if n.2=true then none else some .ret
def lU(s:bE)(t:Tm):Bool:=(aq (xm fJ (gw s)) (0,true) (pre t 1)).2
theorem K5(s:bE)(hs:s.Fits)(t:Tm)(hf:t.fits)(hd:t.l5<=900000):aT Tryz.prog 173 [s.d,t.d] (.ret [.bool (lU s t)]):=by
 refine aT.aF mix Ri aL ?_
 rw[UT]
 refine cq ?_
 refine fP (N1 3 _ _ _ (?_:cH 3 (aA (aA (aA (fun _=> .no) 0 (.row s.row)) 1 (.row t.row)) 2 (.row [.d (.bool false)])) _ 3) _ _ fun o2 n2 m1 m2 m3=> ?_)
 ·exact⟨eH,Nat.le_refl _,fun _ _=>rfl⟩
 have p0:o2 0= .row s.row:=m2.eq 0 af
 have p1:o2 1= .row t.row:=m2.eq 1 af
 have p2:o2 2= .row [.d (.bool false)]:=m2.eq 2 af
 have e0:0≠n2:=af
 have e1:1≠n2:=af
 have e2:2≠n2:=af
 have e3:∀k,0≠n2+k:=fun k=>af
 have e4:∀k,1≠n2+k:=fun k=>af
 have e5:∀k,2≠n2+k:=fun k=>af
 simp+contextual only[go_sem,p0,p1,p2,e0,e1,e2,e3,e4,e5,Nat.add_assoc,Nat.left_eq_add,Nat.add_eq_left,Nat.add_left_cancel_iff]
 refine fP (BP t _ _ _ _ ?_)
 refine cq ?_
 have hG0:∀n,Good (aA (aA (aA (aA (aA (aA o2 n2 (.row (List.replicate 16 (.d .b7)))) (n2+1) (.row [.d (.i 0)])) n2 (.row DO)) (n2+1) (.row [.d (.i 0)])) (n2+5) (.row t.row)) (n2+1) (.row [.d (.i n)])) (n2+9):=fun n=>by
  have hg:=m2.bA
  exact eH
 refine sm t hf hd [.aa, .aa, .ptr 0 0, .aa, .ptr 2 0, .ptr n2 0, .ptr (n2+1) 0] ?_ bF rfl ?_ (by simp[V.aG,V.refs];omega) (ad _ _ _)
  (fun s=>aA (aA (aA (aA (aA (aA o2 n2 (.row (List.replicate 16 (.d .b7)))) (n2+1) (.row [.d (.i 0)])) n2 (.row DO)) (n2+1) (.row [.d (.i 0)])) (n2+5) (.row t.row)) (n2+1) (.row [.d (.i s.1)]))
  fJ (gw s) (fun s=>0<=s.1/\s.1<=40) (0,true) ⟨bF,bF⟩ rfl ?_ ?_ ?_ ?_
 ·exact F9
 ·have hg:=m2.bA
  exact eH
 ·intro id au
  by_cases h:id=n2+1
  ·subst h;(repeat(first|rfl|rw[ad]|rw[ag _ _ _ _ (by omega)]))
  ·rw[ag _ _ _ _ h];rfl
 ·intro x hx s' h1 h2 h3
  have:nW s s'.1 x=false:=by simpa[fJ,gw]using h3
  simp[nW]at this
  simp only[gw]
  omega
 ·intro L hL wg x hx s' h1 h2 o3 n3 hI hn ho K X cz
  simp only[mW]
  have hg:=hI.bA
  have q0:o3 0= .row s.row:=by
   rw[hI.eq 0 (by omega)];(repeat(first|rfl|rw[ad]|rw[ag _ _ _ _ (by omega)]))
   exact p0
  have q2:o3 2= .row [.d (.bool false)]:=by
   exact Pl
  have q3:o3 n2= .row DO:=by rw[hI.eq n2 (by omega)];(repeat(first|rfl|rw[ad]|rw[ag _ _ _ _ (by omega)]))
  have q4:o3 (n2+1)= .row [.d (.i s'.1)]:=by rw[hI.eq (n2+1) (by omega)];(repeat(first|rfl|rw[ad]|rw[ag _ _ _ _ (by omega)]))
  have fin:∀ (o':Nat->ab) (n':Nat),(∀id,id<n2+5+4->o' id=aA o3 (n2+1) (.row [.d (.i (s'.1+1))]) id)->Good o' n'->n3<=n'->cH (n2+5+4) (aA (aA (aA (aA (aA (aA o2 n2 (.row (List.replicate 16 (.d .b7)))) (n2+1) (.row [.d (.i 0)])) n2 (.row DO)) (n2+1) (.row [.d (.i 0)])) (n2+5) (.row t.row)) (n2+1) (.row [.d (.i (gw s s' x).1)])) o' n':=by
   intro o' n' k1 k2 k3
   refine⟨k2,af,fun id au=> ?_⟩
   rw[k1 id au]
   by_cases h:id=n2+1
   ·subst h;rw[ad,ad];rfl
   ·rw[ag _ _ _ _ h,ag _ _ _ _ h,hI.eq id au,ag _ _ _ _ h]
  refine cq ?_
  refine lg hL (pd:=none) ?_ ?_
  ·(repeat(first|rfl|rw[ad]|rw[ag _ _ _ _ (by omega)]))
   exact ho
  cases c1:decide (40<s'.1+1)with
  |true=>
   have hJ:fJ (gw s s' x)=some .ret:=by simp[fJ,gw,nW,c1]
   rw[hJ]at cz
   simp+contextual (disch:=first|omega|simp only[go_sem,false_implies]) only[go_sem,wrap64,if_pos,q0,q2,q3,q4,c1]
   exact zw7
  |false=>
  cases c2:decide (12<x.2)with
  |true=>
   have hJ:fJ (gw s s' x)=some .ret:=by simp[fJ,gw,nW,c2]
   rw[hJ]at cz
   refine Ij q0 q2 q3 q4 c1 c2 ?_
   exact zw7
  |false=>
  cases c3:dG x.1.op 1 15 with
  |false=>
   have hJ:fJ (gw s s' x)=some .ret:=by simp[fJ,gw,nW,c3]
   rw[hJ]at cz
   refine Ij q0 q2 q3 q4 c1 c2 ?_
   refine aV (fV _ _ _) rfl ?_
   simp+contextual (disch:=first|omega|simp only[go_sem,false_implies]) only[go_sem,wrap64,if_pos,q0,q2,q3,q4,c1,c2,c3]
   exact zw7
  |true=>
  obtain⟨r1,r2,r3,r4⟩:=Vm s x.1 hs c3
  refine Ij q0 q2 q3 q4 c1 c2 ?_
  refine aV (fV _ _ _) rfl ?_
  simp+contextual (disch:=first|omega|simp only[go_sem,false_implies]) only[go_sem,wrap64,if_pos,q0,q2,q3,q4,c1,c2,c3,r2,r3,r4,Nat.mul_one]
  refine aV r1 rfl ?_
  simp+contextual (disch:=first|omega|simp only[go_sem,false_implies]) only[go_sem,wrap64,if_pos,q0,q2,q3,q4,c1,c2,c3]
  refine aI (aO rfl) ?_
  cases c4:bt s x.1 with
  |false=>
   have hJ:fJ (gw s s' x)=some .ret:=by simp[fJ,gw,nW,c4]
   rw[hJ]at cz
   simp+contextual (disch:=first|omega|simp only[go_sem,false_implies]) only[go_sem,wrap64,if_pos,q2,c4]
   refine cz _ _ _ .busy none af (fin _ _ (fun id au=>V6) eH af) fi (fun id h3 h4=>by(repeat(first|rfl|rw[ad]|rw[ag _ _ _ _ (by omega)])))
  |true=>
   have hJ:fJ (gw s s' x)=none:=by simp[fJ,gw,nW,c1,c2,c3,c4]
   rw[hJ]at cz
   simp+contextual (disch:=first|omega|simp only[go_sem,false_implies]) only[go_sem,wrap64,if_pos,c4]
   refine cz _ _ _ .busy none af (fin _ _ (fun id au=>V6) eH af) fi (fun id h3 h4=>by(repeat(first|rfl|rw[ad]|rw[ag _ _ _ _ (by omega)])))
 ·intro o' n' hI
  have q2:o' 2= .row [.d (.bool false)]:=by
   exact Pl
  rw[show lU s t=(fJ (aq (xm fJ (gw s)) (0,true) (pre t 1)).1).isNone from ze _ _ _ _ rfl]
  generalize (aq (xm fJ (gw s)) (0,true) (pre t 1)).1=sf at*
  cases hj:fJ sf with
  |none=>
   simp only[oL]
   refine gB q2 ?_
   rfl
  |some j=>
   have:j= .ret:=by
    unfold fJ at hj;split at hj
    ·cases hj
    ·injection hj with hj;exact hj.symm
   subst this
   simp only[oL]
   refine gB q2 ?_
   rfl
section
def enc{κ:Type}(kf:κ->D)(m:List (κ×D)):List (D×D):=m.map fun p=>(kf p.1,p.2)
def fF{κ:Type}[BEq κ](k:κ):List (κ×D)->Nat->Option (Nat×D)
 |[],_=>none
 |p::m,i=>if(k==p.1)=true then some (i,p.2)else fF k m (i+1)
def vZ{κ:Type}[BEq κ](k:κ)(x:D)(m:List (κ×D)):List (κ×D):=match fF k m 0 with|some (i,_)=>m.set i (k,x)|none=>m++[(k,x)]
def abY{κ:Type}[BEq κ](k:κ)(m:List (κ×D)):List (κ×D):=match fF k m 0 with|some (i,_)=>m.eraseIdx i|none=>m
def v7(d:D)(r:Option (Nat×D)):Option (Nat×D×D):=match r with|some (i,x)=>some (i,d,x)|none=>none
@[go_sem] theorem Xc (d:D) (i:Nat) (x:D):v7 d (some (i,x))=some (i,d,x):=rfl
@[go_sem] theorem Xd (d:D):v7 d none=none:=rfl
section
variable {P:Program}{kt:TypeId}
theorem N2(h:bR P kt=some .int)(a b:Int):qD P 100 kt (.int .i64 a) (.int .i64 b)=some (a==b):=by simp[qD,h]
theorem N3(h:bR P kt=some .str)(a b:List UInt8):qD P 100 kt (.str a) (.str b)=some (a==b):=by simp[qD,h]
@[go_sem] theorem FC (h:bR P kt=some .int) (a:Int):nR P 100 kt (.int .i64 a)=true:=by simp[nR,h]
@[go_sem] theorem acv (h:bR P kt=some .str) (a:List UInt8):nR P 100 kt (.str a)=true:=by simp[nR,h]
theorem uV{κ:Type}[BEq κ][LawfulBEq κ](kf:κ->D)(he:∀a b,qD P 100 kt (kf a) (kf b)=some (a==b))(k:κ):∀ (m:List (κ×D)) (i:Nat),findD P kt (kf k) (enc kf m) i=some (v7 (kf k) (fF k m i))
 |[],_=>rfl
 |p::m,i=>by
  have ih:=uV kf he k m (i+1)
  simp only[enc,List.map_cons,findD,he,fF]at ih|-
  by_cases h:k=p.1
  ·subst h;simp[v7]
  ·have:(k==p.1)=false:=by simpa using h
   simp only[this,Bool.false_eq_true,if_false];exact ih
@[go_sem] theorem BQ (h:bR P kt=some .int) (k:Int) (m:List (Int×D)):findD P kt (.int .i64 k) (enc (.int .i64) m) 0=some (v7 (.int .i64 k) (fF k m 0)):=uV (.int .i64) (N2 h) k m 0
@[go_sem] theorem abZ (h:bR P kt=some .str) (k:List UInt8) (m:List (List UInt8×D)):findD P kt (.str k) (enc .str m) 0=some (v7 (.str k) (fF k m 0)):=uV .str (N3 h) k m 0
end
section
variable {κ:Type}(kf:κ->D)
theorem K6(m:List (κ×D))(k:κ)(x:D):enc kf m++[(kf k,x)]=enc kf (m++[(k,x)]):=by simp[enc]
theorem FE(m:List (κ×D))(i:Nat)(k:κ)(x:D):(enc kf m).set i (kf k,x)=enc kf (m.set i (k,x)):=by simp[enc,List.map_set]
theorem xn:∀ (m:List (κ×D)) (i:Nat),(enc kf m).eraseIdx i=enc kf (m.eraseIdx i)
 |[],i=>rfl
 |p::m,0=>rfl
 |p::m,i+1=>by
  have:=xn m i
  simp only[enc,List.map_cons,List.eraseIdx_cons_succ]at this|-
  rw[this]
theorem N4(m:List (κ×D)):(((enc kf m).map (·.1)).zip ((enc kf m).map (·.2)))=enc kf m:=by
 induction m with
 |nil=>rfl
 |cons p m ih=>simp only[enc,List.map_cons,List.zip_cons_cons]at ih|-;rw[ih]
theorem Hj{K:V->List (Nat×ab)->Prop}{id:Nat}{m:List (κ×D)}(h0:m=[]->K (.bU [.d (.bool false)]) [])
 (h1:∀ (i:Nat) k x,m[i]? =some (k,x)->K (.bU [.d (.bool true), .d (kf k), .d x]) [(id, .oA (enc kf (m.eraseIdx i)) (some (kf k,x)))]):E2 K id (enc kf m):=by
 refine⟨fun h=>h0 ?_,fun i k x h=> ?_⟩
 ·cases m with
  |nil=>rfl
  |cons p m=>simp[enc]at h
 ·simp only[enc,List.getElem?_map]at h
  cases hm:m[i]? with
  |none=>rw[hm]at h;cases h
  |some p=>
   rw[hm]at h
   simp at h
   obtain⟨rfl,rfl⟩:=h
   have:=h1 i p.1 p.2 (by rw[hm])
   rwa [<- xn]at this
end
theorem BR{κ:Type}[BEq κ][LawfulBEq κ]{k:κ}:∀ {m:List (κ×D)} {i j:Nat} {x:D},fF k m i=some (j,x)->i<=j/\m[j - i]? =some (k,x)
 |[],_,_,_,h=>by cases h
 |p::m,i,j,x,h=>by
  simp only[fF]at h
  split at h
  ·rename_i hk
   injection h with h;injection h with h1 h2
   subst h1;subst h2
   exact⟨Nat.le_refl _,by simp[(by simpa using hk:k=p.1)]⟩
  ·obtain⟨h1,h2⟩:=BR h
   refine⟨af, ?_⟩
   rw[show j - i=(j - (i+1))+1 by omega]
   simpa using h2
theorem xo{κ:Type}[BEq κ][LawfulBEq κ]{k:κ}:∀ {m:List (κ×D)} {i:Nat},fF k m i=none↔∀p∈m,p.1≠k
 |[],_=>by simp[fF]
 |p::m,i=>by
  simp only[fF]
  split
  ·rename_i hk
   simp[(by simpa using hk:k=p.1)]
  ·rename_i hk
   rw[xo]
   have:p.1≠k:=fun e=>hk (by simp[e])
   simp[this]
def qc(P:Program)(o:Nat->ab)(t:TypeId)(m k v:V):Option fA:=
 match qT P t,dE o k,dE o v,od o m with
 |some (kt,_),some kd,some vd,some (some (id,Ez,EA),l)=>if k.ids=[]/\nR P 100 kt kd=true/\kA kd=true/\v.ids.all (· !=id)=true then match findD P kt kd l 0 with
  |some (some (i,k',_))=>if k'.same kd=true then some (.bU [],cg o v.ids++[(id, .map Ez EA (l.set i (kd,vd)))],id::v.ids)else none
  |some none=>some (.bU [],cg o v.ids++[(id, .map Ez EA (l++[(kd,vd)]))],id::v.ids)
  |none=>none
  else none
 |_,_,_,_=>none
@[go_sem low] theorem xp (P:Program) (o:Nat->ab) (t:TypeId) (m v:V) (k:D):fl P o t m (.d k) v=qc P o t m (.d k) v:=by unfold fl qc;rfl
def uW(P:Program)(o:Nat->ab)(t:TypeId)(m k:V)(ok:Bool):Option fA:=
 match qT P t,dE o k,pj o m with
 |some (kt,vt),some kd,some (rd,l)=>if k.ids=[]/\nR P 100 kt kd=true then match findD P kt kd l 0 with
  |some (some (_,_,x))=>some (if ok=true then .bU [.d x, .d (.bool true)]else .d x,[],rd)
  |some none=>match zeroV P vt with
   |some z=>some (if ok=true then .bU [z, .d (.bool false)]else z,[],rd)
   |none=>none
  |none=>none
  else none
 |_,_,_=>none
@[go_sem low] theorem nG (P:Program) (o:Nat->ab) (t:TypeId) (m:V) (k:D) (ok:Bool):hU P o t m (.d k) ok=uW P o t m (.d k) ok:=by unfold hU uW;rfl
attribute [go_sem] uW qc nu mu mw oe og my pj od acN n9 kA D.same
end
end Go.Proofs.YtnkamdiiakdkgaaGreat
