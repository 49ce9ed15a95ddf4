/-
  A PART OF THE PROOF. Conditions: none.
-/
import Derived.Test.YtnkamdiiakdkgaaGreatEt15
set_option linter.unusedSimpArgs false
set_option linter.unusedVariables false
namespace Go.Proofs.YtnkamdiiakdkgaaGreat
@[reducible] def mD (m:List Int):D:= .agg (m.map D.i)
def iC(l:List cB):List Int×Bool:=match iw l (-1) sS with
 |some m=>(m,true)
 |none=>(sS,false)
theorem E0{α:Type}{l:List α}{k:Nat}(h:k<l.length):∃x,l[k]? =some x:=⟨l[k],by simp[h]⟩
theorem dQ:∀l:List D,xI (l.map V.d)=some l
 |[]=>rfl
 |x::l=>by simp[xI,dQ l]
theorem gu(m:List Int)(h:m.length=16):List.take 16 ((m.map D.i).map V.d)=(m.map D.i).map V.d:=List.take_of_length_le (by simp[h])
theorem cU(m:List Int)(h:m.length=16):((m.map D.i).map V.d).length=16:=by simp[h]
theorem qV(m:List Int)(k:Nat)(v:Int)(h:k<m.length):List.take k ((m.map D.i).map V.d)++[V.d (D.i v)]++List.drop (k+1) ((m.map D.i).map V.d)=((m.set k v).map D.i).map V.d:=by
 rw[List.set_eq_take_append_cons_drop,if_pos h]
 simp[List.map_take,List.map_drop]
theorem eU(l:List D):(D.agg l).cells=l:=rfl
@[reducible] def mR (m:List Int):ab:= .row ((m.map D.i).map V.d)
theorem E1:∀l:List D,V.aE (l.map V.d)=[]
 |[]=>rfl
 |x::l=>by simp[V.aE,V.refs,E1 l]
theorem n9(m:List Int)(n:Nat):(mR m).refs.all (fun r=>decide (r<n))=true:=by
 show(V.aE ((m.map D.i).map V.d)).all _=true
 rw[E1];rfl
theorem M7{l l':List cB}{last:Int}{m:List Int}{a:cB}(h:iw l (-1) sS=iw (a::l') last m)(hb:a.f<0\/4<=a.f\/a.t<0\/4<=a.t\/a.f*4+a.t<=last):iC l=(sS,false):=by
 unfold iC
 rw[h,iw,if_pos hb]
theorem yU(l:List cB)(hl:l.length<=1000000):aV Tryz.prog 48 [.sl (l.map cB.d)] (.ret [mD (iC l).1, .bool (iC l).2]):=by
 refine aV.aF mix ZF aJ ?_
 rw[c48]
 refine aY ?_
 refine aB (fun i:Nat×Int×List Int=>⟨a7 [.aa, .aa, .ptr 0 0, .aa, .ptr 2 0, .d (.i i.2.1), .aa, .aa, .d (.sl (l.map cB.d)), .d (.i l.length), .d (.i i.1)],aD (aD (fun _=> .no) 0 (.row [.d (.i 0), .d (.i 0), .d (.i 0), .d (.i 0), .d (.i 0), .d (.i 0), .d (.i 0), .d (.i 0), .d (.i 0), .d (.i 0), .d (.i 0), .d (.i 0), .d (.i 0), .d (.i 0), .d (.i 0), .d (.i 0)])) 2 (mR i.2.2),3⟩)
  (fun i=>i.1<=l.length/\i.2.2.length=16/\ -1<=i.2.1/\i.2.1<=15/\iw l (-1) sS=iw (l.drop i.1) i.2.1 i.2.2) (fun i=>l.length - i.1) (0, -1,sS) ⟨Nat.zero_le _,rfl,by dsimp only;omega,by dsimp only;omega,rfl⟩ (br.aR _ ae ae ?_ (fun j hj=> ?_) ?_) ?_
 ·exact ff
 ·rfl
 ·exact ct
 rintro⟨k,last,m⟩ ⟨hk,hm,tD,Vi,ht⟩
 simp only at hk hm tD Vi ht
 refine aY ?_
 refine ai (fun h2=> ?_) (fun h2=> ?_)
 ·simp at h2
  obtain⟨a,ha⟩:=E0 h2
  have hda:l.drop k=a::l.drop (k+1):=by
   obtain⟨g1,g2⟩:=List.getElem?_eq_some_iff.1 ha
   exact N9
  rw[hda]at ht
  have oP:=M7 ht
  by_cases b1:a.f<0
  ·rw[oP (by omega)]
   have Ul:decide (a.f<0)=true:=by simpa using b1
   refine vk ha Ul ?_
   rfl
  have Ul:decide (a.f<0)=false:=by simpa using b1
  by_cases b2:4<=a.f
  ·rw[oP (by omega)]
   have Wj:decide (4<=a.f)=true:=by simpa using b2
   refine xy ha Ul Wj ?_
   rfl
  have Wj:decide (4<=a.f)=false:=by simpa using b2
  by_cases b3:a.t<0
  ·rw[oP (by omega)]
   have LF:decide (a.t<0)=true:=by simpa using b3
   simp+contextual (disch:=first|omega|simp only[go_sem,false_implies]) only[go_sem,wrap64,if_pos,ha,Ul,Wj,LF]
   rfl
  have LF:decide (a.t<0)=false:=by simpa using b3
  by_cases b4:4<=a.t
  ·rw[oP (by omega)]
   have b4':decide (4<=a.t)=true:=by simpa using b4
   refine Q7 ha Ul Wj LF b4' ?_
   rfl
  have b4':decide (4<=a.t)=false:=by simpa using b4
  by_cases b5:a.f*4+a.t<=last
  ·rw[oP (by omega)]
   have b5':decide (a.f*4+a.t<=last)=true:=by simpa using b5
   refine HK ha Ul Wj LF b4' b5' ?_
   rfl
  have b5':decide (a.f*4+a.t<=last)=false:=by simpa using b5
  rw[iw,if_neg (by omega)]at ht
  have hK:a.f.toNat*4+a.t.toNat*1=a.k:=by unfold cB.k;omega
  have adW:a.k<16:=by unfold cB.k;omega
  have g1:=qV m a.k 1 ae
  have g2:=qV (m.set a.k 1) a.k 2 (by rw[List.length_set];omega)
  rw[List.set_set]at g2
  refine HK ha Ul Wj LF b4' b5' ?_
  refine aO bO ?_
  cases hl:a.l with
  |true=>
   have hv:a.v=2:=by unfold cB.v;rw[hl];rfl
   rw[hv]at ht
   have HE:a.k+1<=(m.set a.k 1).length:=by rw[List.length_set];omega
   simp+contextual (disch:=first|omega|simp only[go_sem,false_implies]) only[go_sem,wrap64,if_pos,hK,g1,hl,if_pos HE]
   refine aO bO ?_
   refine vk hK g2 ?_
   refine aj (k+1,a.f*4+a.t,m.set a.k 2) ⟨h2,by rw[List.length_set];exact hm,by dsimp only;omega,by dsimp only;omega,ht⟩ jO (br.aR _ (show 0<=3 from ae) ae ((Good.nil.aD ae rfl).aD ae (n9 _ _)) (fun j hj=> ?_) ?_)
   ·by_cases e:j=2
    ·exact zP
    ·rw[ah _ 2 _ _ e,ah _ 2 _ _ e,ah _ _ _ _ (by omega),ah _ _ _ _ (by omega),ah _ 2 _ _ e,ah _ 2 _ _ e]
   ·exact ct
  |false=>
   have hv:a.v=1:=by unfold cB.v;rw[hl];rfl
   rw[hv]at ht
   refine xy hK g1 hl ?_
   refine aj (k+1,a.f*4+a.t,m.set a.k 1) ⟨h2,by rw[List.length_set];exact hm,by dsimp only;omega,by dsimp only;omega,ht⟩ jO (br.aR _ (show 0<=3 from ae) ae ((Good.nil.aD ae rfl).aD ae (n9 _ _)) (fun j hj=> ?_) ?_)
   ·by_cases e:j=2
    ·exact zP
    ·rw[ah _ 2 _ _ e,ah _ 2 _ _ e,ah _ _ _ _ (by omega),ah _ _ _ _ (by omega),ah _ 2 _ _ e]
   ·exact ct
 ·simp at h2
  rw[List.drop_eq_nil_of_le h2,iw]at ht
  have e:iC l=(m,true):=by unfold iC;rw[ht]
  rw[e]
  simp+contextual (disch:=first|omega|simp only[go_sem,false_implies]) only[go_sem,wrap64,if_pos,gu m hm,dQ,eU,cU m hm]
  trace_state
theorem vQ(cs:List D)(k:Nat):gB Tryz.prog 3 cs k=cs[k]? :=by
 have h:cE Tryz.prog 3=some false:=ag
 unfold gB;rw[h]
def rowOf(m:List Int)(i:Nat):List Int:=(m.drop (i*4)).take 4
theorem pX(m:List Int)(i:Nat):List.take 4 (List.drop (i*4) ((m.map D.i).map V.d))=((rowOf m i).map D.i).map V.d:=by simp[rowOf,List.map_take,List.map_drop]
theorem nv{m:List Int}(hm:m.length=16){i k:Nat}(hi:i<4)(hk:k<4):((rowOf m i).map D.i)[k]? =some (D.i (m.getD (i*4+k) 0)):=by
 unfold rowOf
 rw[List.getElem?_map,List.getElem?_take_of_lt hk,List.getElem?_drop,List.getD_eq_getElem?_getD]
 have:i*4+k<m.length:=ae
 rw[List.getElem?_eq_getElem this];rfl
theorem M8(a b c:Int):(if c>(if b>a then b else a)then c else(if b>a then b else a))=max (max a b) c:=by
 simp only[Int.max_def];repeat' split
 all_goals omega
def BB(m n:List Int)(i k j:Nat):Nat->ab:=aD (aD (aD (aD (fun _=> .no) 0 (mR m)) 1 (mR n)) 2 (.row [.d (.i 0), .d (.i 0), .d (.i 0), .d (.i 0), .d (.i 0), .d (.i 0), .d (.i 0), .d (.i 0), .d (.i 0), .d (.i 0), .d (.i 0), .d (.i 0), .d (.i 0), .d (.i 0), .d (.i 0), .d (.i 0)])) 3 (mR (jR m n i k j))
theorem jF(m n:List Int)(i k j:Nat):Good (BB m n i k j) 4:=(((Good.nil.aD ae (n9 _ _)).aD ae (n9 _ _)).aD ae rfl).aD ae (n9 _ _)
theorem thH_0(m n:List Int)(i k j:Nat):BB m n i k j 0=mR m:=by unfold BB;rw[ah _ _ _ _ (by omega),ah _ _ _ _ (by omega),ah _ _ _ _ (by omega),af]
theorem thH_1(m n:List Int)(i k j:Nat):BB m n i k j 1=mR n:=by unfold BB;rw[ah _ _ _ _ (by omega),ah _ _ _ _ (by omega),af]
theorem thH_3(m n:List Int)(i k j:Nat):BB m n i k j 3=mR (jR m n i k j):=by unfold BB;rw[af]
theorem thH_2(m n:List Int)(i k j:Nat):BB m n i k j 2= .row [.d (.i 0), .d (.i 0), .d (.i 0), .d (.i 0), .d (.i 0), .d (.i 0), .d (.i 0), .d (.i 0), .d (.i 0), .d (.i 0), .d (.i 0), .d (.i 0), .d (.i 0), .d (.i 0), .d (.i 0), .d (.i 0)]:=by unfold BB;rw[ah _ _ _ _ (by omega),af]
theorem J6(m n:List Int)(hm:m.length=16)(hn:n.length=16):aV Tryz.prog 49 [mD m,mD n] (.ret [mD (bK m n)]):=by
 refine aV.aF mix ZG aJ ?_
 rw[c49]
 refine aY ?_
 refine aB (fun i:Nat=>⟨a7 [.aa, .aa, .ptr 0 0, .ptr 1 0, .ptr 2 0, .ptr 3 0, .aa, .aa, .aa, .aa, .aa, .d (.i i)],BB m n i 0 0,4⟩)
  (fun i=>i<=4) (fun i=>4 - i) 0 (Nat.zero_le _) (br.aR _ (show 0<=4 from ae) ae (jF _ _ _ _ _) (fun j hj=> ?_) ?_) (fun i hi=> ?_)
 ·unfold BB;rw[outS_0];rfl
 ·exact ct
 replace hi:i<=4:=hi
 refine aY ?_
 refine ai (fun h1=> ?_) (fun h1=> ?_)
 ·replace h1:i<4:=by simp at h1;omega
  have li:i*4+4<=((m.map D.i).map V.d).length:=by rw[cU m hm];omega
  simp+contextual (disch:=first|omega|simp only[go_sem,false_implies]) only[go_sem,wrap64,if_pos,thH_0,Int.toNat_natCast,pX,dQ,if_pos li]
  refine aB (fun k:Nat=>⟨a7 [.aa, .aa, .ptr 0 0, .ptr 1 0, .ptr 2 0, .ptr 3 0, .d (.i i), .aa, .aa, .aa, .aa, .d (.i i), .aa, .aa, .aa, .aa, .d (.agg ((rowOf m i).map D.i)), .d (.i k)],BB m n i k 0,4⟩)
   (fun k=>k<=4) (fun k=>4 - k) 0 (Nat.zero_le _) (br.aR _ (show 0<=4 from ae) ae (jF _ _ _ _ _) (fun j hj=>rfl) ?_) (fun k hk=> ?_)
  ·exact ct
  replace hk:k<=4:=hk
  refine aY ?_
  refine ai (fun h2=> ?_) (fun h2=> ?_)
  ·replace h2:k<4:=by simp at h2;omega
   have lk:k*4+4<=((n.map D.i).map V.d).length:=by rw[cU n hn];omega
   have hx:=nv hm h1 h2
   simp+contextual (disch:=first|omega|simp only[go_sem,false_implies]) only[go_sem,wrap64,if_pos,thH_1,Int.toNat_natCast,Nat.mul_one,pX,dQ,if_pos lk,vQ,hx,Option.map_some]
   refine aB (fun j:Nat=>⟨a7 [.aa, .aa, .ptr 0 0, .ptr 1 0, .ptr 2 0, .ptr 3 0, .d (.i i), .d (.i k), .d (.i (m.getD (i*4+k) 0)), .aa, .aa, .d (.i i), .aa, .aa, .aa, .aa, .d (.agg ((rowOf m i).map D.i)), .d (.i k), .aa, .aa, .aa, .aa, .aa, .d (.agg ((rowOf n k).map D.i)), .d (.i j)],BB m n i k j,4⟩)
    (fun j=>j<=4) (fun j=>4 - j) 0 (Nat.zero_le _) (br.aR _ (show 0<=4 from ae) ae (jF _ _ _ _ _) (fun j hj=>rfl) ?_) (fun j hj=> ?_)
   ·exact ct
   replace hj:j<=4:=hj
   refine aY ?_
   refine ai (fun h3=> ?_) (fun h3=> ?_)
   ·replace h3:j<4:=by simp at h3;omega
    have hy:=nv hn h2 h3
    have ho:((jR m n i k j).map D.i |>.map V.d)[i*4+j]? =some (V.d (D.i (cP m n i j k))):=by
     rw[List.getElem?_map,List.getElem?_map,EE m n i k j h1 h3];rfl
    have oO:=GF m n i k j h1 h3
    have zL:=fk m n i k j
    have HE:i*4+j+1<=((jR m n i k j).map D.i |>.map V.d).length:=by rw[cU _ zL];omega
    have J7:=qV (jR m n i k j) (i*4+j) (sA m n i j (cP m n i j k) k) (by rw[zL];omega)
    rw[<- oO]at J7
    refine Wx hy ?_
    by_cases hc:m.getD (i*4+k) 0≠0/\n.getD (k*4+j) 0≠0
    ·have wz:(m.getD (i*4+k) 0!=0&&n.getD (k*4+j) 0!=0)=true:=by simp[bne_iff_ne];exact hc
     have Cq:sA m n i j (cP m n i j k) k=max (max (cP m n i j k) (m.getD (i*4+k) 0)) (n.getD (k*4+j) 0):=by unfold sA;rw[if_pos hc]
     rw[Cq]at J7
     simp+contextual (disch:=first|omega|simp only[go_sem,false_implies]) only[go_sem,wrap64,if_pos,wz,thH_3,Int.toNat_natCast,Nat.mul_one,ho,Ea,M8,J7,if_pos HE]
     refine aO bO ?_
     refine aY ?_
     refine aj (j+1) h3 ae (br.aR _ (show 0<=4 from ae) ae (jF _ _ _ _ _) (fun q hq=> ?_) ?_)
     ·unfold BB;rw[et]
     ·exact ct
    ·have wz:(m.getD (i*4+k) 0!=0&&n.getD (k*4+j) 0!=0)=false:=by
      rw[Bool.eq_false_iff];intro h;apply hc
      rw[Bool.and_eq_true,bne_iff_ne,bne_iff_ne]at h;exact h
     have Cq:sA m n i j (cP m n i j k) k=cP m n i j k:=by unfold sA;rw[if_neg hc]
     have AB:jR m n i k (j+1)=jR m n i k j:=by
      rw[oO,Cq]
      refine iy (by rw[List.length_set];exact zL) zL fun p hp=> ?_
      rw[List.getElem?_set]
      split
      ·rename_i e;subst e;rw[if_pos (by rw[zL];omega),EE m n i k j h1 h3]
      ·rfl
     refine gX wz ?_
     refine aj (j+1) h3 ae (br.aR _ (show 0<=4 from ae) ae (jF _ _ _ _ _) (fun q hq=> ?_) ?_)
     ·unfold BB;rw[AB]
     ·exact ct
   ·have my:j=4:=by simp at h3;omega
    subst my
    refine aY ?_
    refine aj (k+1) h2 ae (br.aR _ (show 0<=4 from ae) ae (jF _ _ _ _ _) (fun q hq=> ?_) ?_)
    ·unfold BB;rw[SU]
    ·exact ct
  ·have sq:k=4:=by simp at h2;omega
   subst sq
   refine aY ?_
   refine aj (i+1) h1 ae (br.aR _ (show 0<=4 from ae) ae (jF _ _ _ _ _) (fun q hq=> ?_) ?_)
   ·unfold BB;rw[SV]
   ·exact ct
 ·have oS:i=4:=by simp at h1;omega
  subst oS
  have l16:=cU _ (fk m n 4 0 0)
  have t16:=gu _ (fk m n 4 0 0)
  simp+contextual (disch:=first|omega|simp only[go_sem,false_implies]) only[go_sem,wrap64,if_pos,thH_3,thH_2,t16,l16,dQ,eU]
  rw[SW]
theorem BC{c:Nat}{G:List Gr}{so:Nat->ab}{gone:Nat->Prop}{x x' y y':ab}(h:x=y)(h':x'=y')(hs:uE c G so gone y y'):uE c G so gone x x':=by rw[h,h'];exact hs
def Ls(m:List Int)(c:Nat)(l:List cB):Nat->ab:=aD (aD (fun _=> .no) 0 (mR m)) c (.arr 0 64 3 (l.map cB.d))
theorem pY(m:List Int)(l:List cB):Good (Ls m 4 l) 5:=(Good.nil.aD ae (n9 _ _)).aD ae rfl
theorem lsH_0(m:List Int)(l:List cB):Ls m 4 l 0=mR m:=by unfold Ls;rw[ah _ _ _ _ (by omega),af]
theorem lsH_4(m:List Int)(l:List cB):Ls m 4 l 4= .arr 0 64 3 (l.map cB.d):=by unfold Ls;rw[af]
theorem J8(m:List Int)(hm:m.length=16):aV Tryz.prog 67 [mD m] (.ret [.sl ((kW m 16).map cB.d)]):=by
 refine aV.aF mix ZI aJ ?_
 rw[c67]
 refine aY ?_
 have hg:Good (aD (fun _=> .no) 0 (mR m)) 4:=Good.nil.aD ae (n9 _ _)
 refine aB (fun i:Nat=>⟨a7 [.aa, .ptr 0 0, .aa, .osl 4 0, .aa, .aa, .aa, .d (.i i)],Ls m 4 (kW m (i*4)),5⟩)
  (fun i=>i<=4) (fun i=>4 - i) 0 (Nat.zero_le _) (br.Dp (ty:=64) (sz:=3) (es:=[]) (fun _=>False) .bu 4 _ ae (fun j hj=> ?_) (by unfold Ls;rw[af];rfl) (.inl ⟨rfl,rfl,bO⟩) (fun j hj=> ?_) (fun _ h=>h.elim) ?_) (fun i hi=> ?_)
 ·exact BC (y:=aD (fun _=> .no) 0 (mR m) j) rfl (by unfold Ls;rw[ah _ _ _ _ (by omega)]) (gD rfl (fun r hr=>hg.refs j r hr))
 ·exact LP
 ·exact HN
 replace hi:i<=4:=hi
 refine aY ?_
 refine ai (fun h1=> ?_) (fun h1=> ?_)
 ·replace h1:i<4:=by simp at h1;omega
  have li:i*4+4<=((m.map D.i).map V.d).length:=by rw[cU m hm];omega
  simp+contextual (disch:=first|omega|simp only[go_sem,false_implies]) only[go_sem,wrap64,if_pos,lsH_0,Int.toNat_natCast,pX,dQ,if_pos li]
  refine aB (fun j:Nat=>⟨a7 [.aa, .ptr 0 0, .aa, .osl 4 0, .d (.i i), .aa, .aa, .d (.i i), .aa, .aa, .aa, .aa, .d (.agg ((rowOf m i).map D.i)), .d (.i j)],Ls m 4 (kW m (i*4+j)),5⟩)
   (fun j=>j<=4) (fun j=>4 - j) 0 (Nat.zero_le _) (br.aR _ (show 0<=5 from ae) ae (pY _ _) (fun j hj=>rfl) ?_) (fun j hj=> ?_)
  ·exact ct
  replace hj:j<=4:=hj
  refine aY ?_
  refine ai (fun h2=> ?_) (fun h2=> ?_)
  ·replace h2:j<4:=by simp at h2;omega
   have hx:=nv hm h1 h2
   have hls:=Jt m (i*4+j)
   have e1:(i*4+j)/4=i:=ae
   have e2:(i*4+j)%4=j:=ae
   rw[e1,e2]at hls
   refine Wx hx ?_
   have hlen:=EF m (i*4+j)
   refine ai (fun h3=> ?_) (fun h3=> ?_)
   ·have my:m.getD (i*4+j) 0≠0:=by simpa using h3
    rw[if_pos my]at hls
    simp+contextual (disch:=first|omega|simp only[go_sem,false_implies]) only[go_sem,wrap64,if_pos,lsH_4,List.length_map]
    have hgl:=pY m (kW m (i*4+j))
    refine aj (j+1) h2 ae (br.Dp (fun j=>j=4) (.osl 4 1) 4 _ ae (fun q hq=> ?_) (lsH_4 _ _) (.inr ⟨4,1,rfl,rfl, ?_⟩) (fun q hq=> ?_) (fun q h h2=>ae) ?_)
    ·exact BC (y:=aD (fun _=> .no) 0 (mR m) q) LP LP (gD rfl (fun r hr=>hg.refs q r hr))
    ·(repeat(first|rfl|rw[af]|rw[ah _ _ _ _ (by omega)]))
     rw[<- Nat.add_assoc,hls,List.map_append];rfl
    ·exact LP
    ·exact HN
   ·have my: ¬m.getD (i*4+j) 0≠0:=by simpa using h3
    rw[if_neg my,List.append_nil]at hls
    refine aY ?_
    refine aj (j+1) h2 ae (br.aR _ (show 0<=5 from ae) ae (pY _ _) (fun q hq=> ?_) ?_)
    ·rw[<- Nat.add_assoc,hls]
    ·exact ct
  ·have sq:j=4:=by simp at h2;omega
   subst sq
   refine aY ?_
   refine aj (i+1) h1 ae (br.aR _ (show 0<=5 from ae) ae (pY _ _) (fun q hq=> ?_) ?_)
   ·rw[show(i+1)*4=i*4+4 by omega]
   ·exact ct
 ·have oS:i=4:=by simp at h1;omega
  subst oS
  simp+contextual (disch:=first|omega|simp only[go_sem,false_implies]) only[go_sem,wrap64,if_pos,lsH_4]
theorem Um{B:List Int}(hB:B.length=16){i j a b:Nat}(hi:i<4)(hj:j<4)(ha:a<4)(hb:b<4)(v:Int):mg (B.set (i*4+j) v) a b=if a=i/\b=j then v else mg B a b:=by
 unfold mg
 rw[List.getD_eq_getElem?_getD,List.getD_eq_getElem?_getD,List.getElem?_set]
 by_cases h:a=i/\b=j
 ·obtain⟨rfl,rfl⟩:=h
  rw[if_pos rfl,if_pos (show a*4+b<B.length by omega),if_pos ⟨rfl,rfl⟩];rfl
 ·rw[if_neg (show ¬ (i*4+j=a*4+b) by omega),if_neg h]
def WJ(r:Nat->Nat->Bool)(k i j:Nat)(B:List Int):Prop:=B.length=16/\∀a b,a<4->b<4->(mg B a b≠0↔(wR r k a b=true\/((a<i\/a=i/\b<j)/\wR r (k+1) a b=true)))
theorem wk1(r:Nat->Nat->Bool)(k i:Nat):wR r (k+1) i k=wR r k i k:=by simp only[wR];cases wR r k i k<;>simp
theorem wk2(r:Nat->Nat->Bool)(k j:Nat):wR r (k+1) k j=wR r k k j:=by simp only[wR];cases wR r k k j<;>cases wR r k k k<;>simp
theorem WJ_0{m:List Int}(hm:m.length=16):WJ (eI m) 0 0 0 m:=by
 refine⟨hm,fun a b ha hb=> ?_⟩
 constructor
 ·intro h;exact .inl (dh.2 ⟨ha,hb,h⟩)
 ·rintro(h|⟨h,_⟩)
  ·exact(dh.1 h).2.2
  ·omega
theorem Un{r:Nat->Nat->Bool}{k i:Nat}{B:List Int}(h:WJ r k i 4 B):WJ r k (i+1) 0 B:=by
 refine⟨h.1,fun a b ha hb=>(h.2 a b ha hb).trans ?_⟩
 constructor
 ·rintro(h|⟨h,h2⟩)
  ·exact .inl h
  ·exact zU
 ·rintro(h|⟨h,h2⟩)
  ·exact .inl h
  ·exact zU
theorem M9{r:Nat->Nat->Bool}{k:Nat}{B:List Int}(h:WJ r k 4 0 B):WJ r (k+1) 0 0 B:=by
 refine⟨h.1,fun a b ha hb=>(h.2 a b ha hb).trans ?_⟩
 constructor
 ·rintro(h|⟨_,h2⟩)
  ·exact .inl (by simp only[wR,h,Bool.true_or])
  ·exact .inl h2
 ·rintro(h|⟨h,_⟩)
  ·exact .inr ⟨.inl ha,h⟩
  ·omega
theorem QI{r:Nat->Nat->Bool}{k i j a:Nat}{B:List Int}(h:WJ r k i j B)(ha:a<4)(hk:k<4):mg B a k≠0↔wR r k a k=true:=by
 rw[h.2 a k ha hk,wk1]
 exact⟨fun h=>h.elim id fun h=>h.2, .inl⟩
theorem QJ{r:Nat->Nat->Bool}{k i j b:Nat}{B:List Int}(h:WJ r k i j B)(hb:b<4)(hk:k<4):mg B k b≠0↔wR r k k b=true:=by
 rw[h.2 k b hk hb,wk2]
 exact⟨fun h=>h.elim id fun h=>h.2, .inl⟩
theorem Uo{r:Nat->Nat->Bool}{k i j:Nat}{B:List Int}(h:WJ r k i j B)(hi:i<4)(hj:j<4)(hk:k<4)(h1:mg B i k≠0)(h2:mg B k j≠0):WJ r k i (j+1) (B.set (i*4+j) 2):=by
 have g1:=(QI h hi hk).1 h1
 have g2:=(QJ h hj hk).1 h2
 refine⟨by rw[List.length_set];exact h.1,fun a b ha hb=> ?_⟩
 rw[Um h.1 hi hj ha hb]
 by_cases e:a=i/\b=j
 ·obtain⟨rfl,rfl⟩:=e
  rw[if_pos ⟨rfl,rfl⟩]
  exact⟨fun _=> .inr ⟨.inr ⟨rfl,ae⟩,by simp only[wR,g1,g2,Bool.and_self,Bool.or_true]⟩,fun _=>bO⟩
 ·rw[if_neg e,h.2 a b ha hb]
  constructor
  ·rintro(h|⟨h,h2⟩)
   ·exact .inl h
   ·exact zU
  ·rintro(h|⟨h,h2⟩)
   ·exact .inl h
   ·exact zU
theorem QK{r:Nat->Nat->Bool}{k i j:Nat}{B:List Int}(h:WJ r k i j B)(hi:i<4)(hj:j<4)(hk:k<4)(h1: ¬ (mg B i k≠0/\mg B k j≠0)):WJ r k i (j+1) B:=by
 refine⟨h.1,fun a b ha hb=>(h.2 a b ha hb).trans ?_⟩
 constructor
 ·rintro(h|⟨h,h2⟩)
  ·exact .inl h
  ·exact zU
 ·rintro(g|⟨g,g2⟩)
  ·exact .inl g
  ·by_cases e:a=i/\b=j
   ·obtain⟨rfl,rfl⟩:=e
    simp only[wR,Bool.or_eq_true,Bool.and_eq_true]at g2
    rcases g2 with g2|g2
    ·exact .inl g2
    ·exact absurd ⟨(QI h ha hk).2 g2.1,(QJ h hb hk).2 g2.2⟩ h1
   ·exact .inr ⟨ae,g2⟩
theorem yV{B:List Int}(hB:B.length=16){i j:Nat}(hi:i<4)(hj:j<4):((B.map D.i).map V.d)[i*4+j]? =some (V.d (D.i (mg B i j))):=by
 unfold mg
 rw[List.getElem?_map,List.getElem?_map,List.getElem?_eq_getElem (by omega),List.getD_eq_getElem?_getD,List.getElem?_eq_getElem (by omega)];rfl
def nM(m:List Int)(i j:Nat):Bool:=decide (mg m i j=2)&&(decide (i=j)||wR (eI m) 4 j i)
theorem BD{m:List Int}{i j:Nat}(hi:i<4)(hj:j<4)(h:nM m i j=true):iA m=true:=by
 unfold nM at h
 simp only[Bool.and_eq_true,Bool.or_eq_true,decide_eq_true_eq]at h
 exact ns.2 ⟨i,j,hi,hj,h.1,h.2⟩
theorem GS{m:List Int}(h:∀i j,i<4->j<4->nM m i j=false):iA m=false:=by
 rw[Bool.eq_false_iff]
 intro h2
 obtain⟨i,j,hi,hj,h3,h4⟩:=ns.1 h2
 have:=h i j hi hj
 unfold nM at this
 rw[Bool.eq_false_iff]at this
 exact this (by simp only[Bool.and_eq_true,Bool.or_eq_true,decide_eq_true_eq];exact⟨h3,h4⟩)
def HX(m B:List Int):Nat->ab:=aD (aD (fun _=> .no) 0 (mR m)) 3 (mR B)
theorem dN(m B:List Int):Good (HX m B) 4:=(Good.nil.aD ae (n9 _ _)).aD ae (n9 _ _)
theorem faH_0(m B:List Int):HX m B 0=mR m:=Xb
theorem faH_3(m B:List Int):HX m B 3=mR B:=Xb
set_option maxHeartbeats 2000000 in
theorem Na(m:List Int)(hm:m.length=16):aV Tryz.prog 50 [mD m] (.ret [.bool (iA m)]):=by
 refine aV.aF mix ZH aJ ?_
 rw[c50]
 simp+contextual (disch:=first|omega|simp only[go_sem,false_implies]) only[go_sem,wrap64,if_pos,gu m hm,dQ,eU,cU m hm]
 refine aB (fun i:Nat×List Int=>⟨a7 [.aa, .ptr 0 0, .aa, .ptr 3 0, .aa, .aa, .aa, .aa, .aa, .aa, .aa, .d (.i i.1)],HX m i.2,4⟩)
  (fun i=>i.1<=4/\WJ (eI m) i.1 0 0 i.2) (fun i=>4 - i.1) (0,m) ⟨Nat.zero_le _,WJ_0 hm⟩ (br.aR _ (show 0<=4 from ae) ae (dN _ _) (fun j hj=> ?_) ?_) ?_
 ·unfold HX;rw[et]
 ·exact ct
 rintro⟨k,B⟩ ⟨hk,hB⟩
 simp only at hk hB
 refine aY ?_
 refine ai (fun h1=> ?_) (fun h1=> ?_)
 ·replace h1:k<4:=by simp at h1;omega
  refine aY ?_
  refine aB (fun i:Nat×List Int=>⟨a7 [.aa, .ptr 0 0, .aa, .ptr 3 0, .d (.i k), .aa, .aa, .aa, .aa, .aa, .aa, .d (.i k), .aa, .aa, .d (.i i.1)],HX m i.2,4⟩)
   (fun i=>i.1<=4/\WJ (eI m) k i.1 0 i.2) (fun i=>4 - i.1) (0,B) ⟨Nat.zero_le _,hB⟩ (br.aR _ (show 0<=4 from ae) ae (dN _ _) (fun j hj=>rfl) ?_) ?_
  ·exact ct
  rintro⟨i,B⟩ ⟨hi,hB⟩
  simp only at hi hB
  refine aY ?_
  refine ai (fun h2=> ?_) (fun h2=> ?_)
  ·replace h2:i<4:=by simp at h2;omega
   refine aY ?_
   refine aB (fun j:Nat×List Int=>⟨a7 [.aa, .ptr 0 0, .aa, .ptr 3 0, .d (.i k), .d (.i i), .aa, .aa, .aa, .aa, .aa, .d (.i k), .aa, .aa, .d (.i i), .aa, .aa, .d (.i j.1)],HX m j.2,4⟩)
    (fun j=>j.1<=4/\WJ (eI m) k i j.1 j.2) (fun j=>4 - j.1) (0,B) ⟨Nat.zero_le _,hB⟩ (br.aR _ (show 0<=4 from ae) ae (dN _ _) (fun j hj=>rfl) ?_) ?_
   ·exact ct
   rintro⟨j,B⟩ ⟨hj,hB⟩
   simp only at hj hB
   have hl:=cU B hB.1
   refine aY ?_
   refine ai (fun h3=> ?_) (fun h3=> ?_)
   ·replace h3:j<4:=by simp at h3;omega
    have g1:=yV hB.1 h2 h1
    have g2:=yV hB.1 h1 h3
    have HE:i*4+k+1<=((B.map D.i).map V.d).length:=by rw[hl];omega
    have le2:k*4+j+1<=((B.map D.i).map V.d).length:=by rw[hl];omega
    have le3:i*4+j+1<=B.length:=by rw[hB.1];omega
    cases c1:(mg B i k !=0)with
    |false=>
     simp+contextual (disch:=first|omega|simp only[go_sem,false_implies]) only[go_sem,wrap64,if_pos,faH_3,Int.toNat_natCast,Nat.mul_one,g1,if_pos HE,c1]
     refine aj (j+1,B) ⟨h3,QK hB h2 h3 h1 (fun h=>by simp at c1;exact h.1 c1)⟩ jO (br.aR _ (show 0<=4 from ae) ae (dN _ _) (fun q hq=>rfl) ?_)
     exact ct
    |true=>
     cases c2:(mg B k j !=0)with
     |false=>
      simp+contextual (disch:=first|omega|simp only[go_sem,false_implies]) only[go_sem,wrap64,if_pos,faH_3,Int.toNat_natCast,Nat.mul_one,g1,g2,if_pos HE,if_pos le2,c1,c2]
      refine aj (j+1,B) ⟨h3,QK hB h2 h3 h1 (fun h=>by simp at c2;exact h.2 c2)⟩ jO (br.aR _ (show 0<=4 from ae) ae (dN _ _) (fun q hq=>rfl) ?_)
      exact ct
     |true=>
      have J7:=qV B (i*4+j) 2 (by rw[hB.1];omega)
      simp+contextual (disch:=first|omega|simp only[go_sem,false_implies]) only[go_sem,wrap64,if_pos,faH_3,Int.toNat_natCast,Nat.mul_one,g1,g2,if_pos HE,if_pos le2,if_pos le3,c1,c2,J7]
      refine aj (j+1,B.set (i*4+j) 2) ⟨h3,Uo hB h2 h3 h1 (by simpa using c1) (by simpa using c2)⟩ jO (br.aR _ (show 0<=4 from ae) ae (dN _ _) (fun q hq=> ?_) ?_)
      ·unfold HX;rw[et]
      ·exact ct
   ·have my:j=4:=by simp at h3;omega
    subst my
    refine aY ?_
    refine aj (i+1,B) ⟨h2,Un hB⟩ jO (br.aR _ (show 0<=4 from ae) ae (dN _ _) (fun q hq=>rfl) ?_)
    exact ct
  ·have sq:i=4:=by simp at h2;omega
   subst sq
   refine aY ?_
   refine aj (k+1,B) ⟨h1,M9 hB⟩ jO (br.aR _ (show 0<=4 from ae) ae (dN _ _) (fun q hq=>rfl) ?_)
   exact ct
 ·have oS:k=4:=by simp at h1;omega
  subst oS
  have hb:∀a b,a<4->b<4->(mg B a b≠0↔wR (eI m) 4 a b=true):=fun a b ha hb=>by
   rw[hB.2 a b ha hb]
   exact⟨fun h=>h.elim id fun h=>ae, .inl⟩
  have hl:=cU B hB.1
  refine aY ?_
  refine aB (fun i:Nat=>⟨a7 [.aa, .ptr 0 0, .aa, .ptr 3 0, .aa, .aa, .aa, .aa, .aa, .aa, .aa, .aa, .aa, .aa, .aa, .aa, .aa, .aa, .aa, .aa, .aa, .aa, .aa, .aa, .aa, .aa, .aa, .aa, .aa, .aa, .aa, .aa, .aa, .aa, .aa, .aa, .aa, .aa, .aa, .aa, .aa, .d (.i i)],HX m B,4⟩)
   (fun i=>i<=4/\∀a b,a<i->b<4->nM m a b=false) (fun i=>4 - i) 0 ⟨bO,fun a b h=>absurd h (Nat.not_lt_zero _)⟩ (br.aR _ (show 0<=4 from ae) ae (dN _ _) (fun j hj=>rfl) ?_) ?_
  ·exact ct
  rintro i ⟨hi,oP⟩
  refine aY ?_
  refine ai (fun h2=> ?_) (fun h2=> ?_)
  ·replace h2:i<4:=by simp at h2;omega
   have li:i*4+4<=((m.map D.i).map V.d).length:=by rw[cU m hm];omega
   simp+contextual (disch:=first|omega|simp only[go_sem,false_implies]) only[go_sem,wrap64,if_pos,faH_0,Int.toNat_natCast,pX,dQ,if_pos li]
   refine aB (fun j:Nat=>⟨a7 [.aa, .ptr 0 0, .aa, .ptr 3 0, .aa, .aa, .aa, .d (.i i), .aa, .aa, .aa, .aa, .aa, .aa, .aa, .aa, .aa, .aa, .aa, .aa, .aa, .aa, .aa, .aa, .aa, .aa, .aa, .aa, .aa, .aa, .aa, .aa, .aa, .aa, .aa, .aa, .aa, .aa, .aa, .aa, .aa, .d (.i i), .aa, .aa, .aa, .aa, .d (.agg ((rowOf m i).map D.i)), .d (.i j)],HX m B,4⟩)
    (fun j=>j<=4/\∀b,b<j->nM m i b=false) (fun j=>4 - j) 0 ⟨bO,fun b h=>absurd h (Nat.not_lt_zero _)⟩ (br.aR _ (show 0<=4 from ae) ae (dN _ _) (fun j hj=>rfl) ?_) ?_
   ·exact ct
   rintro j ⟨hj,abd⟩
   refine aY ?_
   refine ai (fun h3=> ?_) (fun h3=> ?_)
   ·replace h3:j<4:=by simp at h3;omega
    have hx:=nv hm h2 h3
    have qp:((rowOf m i).map D.i)[j]? =some (D.i (mg m i j)):=hx
    have g1:=yV hB.1 h3 h2
    have HE:j*4+i+1<=((B.map D.i).map V.d).length:=by rw[hl];omega
    have hbj:=hb j i h3 h2
    have next:∀h:nM m i j=false,j+1<=4/\∀b,b<j+1->nM m i b=false:=fun h=>⟨h3,fun b hb=>by
     by_cases e:b=j
     ·rw[e];exact h
     ·exact abd b ae⟩
    cases c1:(mg m i j==2)with
    |false=>
     have hh:nM m i j=false:=by unfold nM;simp at c1;simp[c1]
     simp+contextual (disch:=first|omega|simp only[go_sem,false_implies]) only[go_sem,wrap64,if_pos,Int.toNat_natCast,Nat.mul_one,vQ,qp,Option.map_some,c1]
     exact XJ
    |true=>
     have HG:mg m i j=2:=by simpa using c1
     cases c2:((i:Int)==(j:Int))with
     |true=>
      have e:i=j:=by simp at c2;omega
      have hh:nM m i j=true:=by unfold nM;rw[HG];simp[e]
      simp+contextual (disch:=first|omega|simp only[go_sem,false_implies]) only[go_sem,wrap64,if_pos,Int.toNat_natCast,Nat.mul_one,vQ,qp,Option.map_some,c1,c2]
      rw[BD h2 h3 hh]
     |false=>
      have e:i≠j:=by simp at c2;omega
      cases c3:(mg B j i !=0)with
      |true=>
       have hh:nM m i j=true:=by unfold nM;rw[hbj.1 (by simpa using c3)];simp[HG]
       simp+contextual (disch:=first|omega|simp only[go_sem,false_implies]) only[go_sem,wrap64,if_pos,Int.toNat_natCast,Nat.mul_one,vQ,qp,Option.map_some,c1,c2,c3,faH_3,g1,if_pos HE]
       rw[BD h2 h3 hh]
      |false=>
       have hh:nM m i j=false:=by
        unfold nM
        have:wR (eI m) 4 j i=false:=by
         rw[Bool.eq_false_iff];intro h;exact absurd (hbj.2 h) (by simpa using c3)
        rw[this];simp[e]
       simp+contextual (disch:=first|omega|simp only[go_sem,false_implies]) only[go_sem,wrap64,if_pos,Int.toNat_natCast,Nat.mul_one,vQ,qp,Option.map_some,c1,c2,c3,faH_3,g1,if_pos HE]
       exact XJ
   ·have my:j=4:=by simp at h3;omega
    subst my
    refine aY ?_
    refine aj (i+1) ⟨h2,fun a b ha hb=> ?_⟩ ae (br.aR _ (show 0<=4 from ae) ae (dN _ _) (fun q hq=>rfl) ?_)
    ·by_cases e:a=i
     ·rw[e];exact abd b hb
     ·exact oP a b ae hb
    ·exact ct
  ·have sq:i=4:=by simp at h2;omega
   subst sq
   rw[GS (fun a b ha hb=>oP a b ha hb)]
   exact vP
theorem Cw{l:List iT}{n:Int}{x:iT}(h:l[n.toNat]? =some x):fD l n=x.args:=by simp[fD,h]
theorem xC{l:List iT}{n:Int}(h:dE n 0 (l.length - 1)=true):0<=n/\∃x,l[n.toNat]? =some x:=by
 simp[dE]at h
 exact⟨h.1,l[n.toNat]'ae,aJ⟩
theorem Up(s:bC)(t:Tm)(hs:s.Fits)(ht:t.kids.length<=9223372036854775807):aV Tryz.prog 122 [s.d,t.d] (.ret [.bool (bn s t)]):=by
 refine aV.aF mix aag aJ ?_
 rw[aaf]
 refine cI ?_
 rcases(by omega:t.op=1\/t.op=2\/t.op=3\/t.op=4\/t.op=5\/t.op=8\/(t.op=6\/t.op=7\/t.op=9\/t.op=10\/t.op=11\/t.op=12\/t.op=13\/t.op=14\/t.op=15)\/(t.op<1\/15<t.op))with h|h|h|h|h|h|h|h
 ·have hn:bn s t=((t.kids.length:Int)==0&&dE t.n 0 19):=by simp[bn,h]
  refine jN h ?_
  refine fC (eE [.bool (dE t.n 0 19)] ?_ ?_)
  ·refine cI ?_
   exact D0
  refine jN h ?_
  rw[hn]
 ·have hn:bn s t=((t.kids.length:Int)==0&&dE t.n (-1000000) 1000000):=by simp[bn,h]
  refine jN h ?_
  refine fC (eE [.bool (dE t.n (-1000000) 1000000)] ?_ ?_)
  ·refine cI ?_
   exact D0
  refine jN h ?_
  rw[hn]
 ·have hn:bn s t=(dE t.n 0 (s.cons.length - 1)&&(t.kids.length:Int)==fD s.cons t.n):=by simp[bn,h]
  refine jN h ?_
  rw[wrap64 (by have:=hs.lc;omega) (by have:=hs.lc;omega)]
  refine ay (zW _ _ _) rfl ?_
  cases hI:dE t.n 0 (s.cons.length - 1)with
  |false=>
   exact RW
  |true=>
   exact RG
 ·have hn:bn s t=(dE t.n 0 (s.bG.length - 1)&&(t.kids.length:Int)==fD s.bG t.n):=by simp[bn,h]
  refine jN h ?_
  rw[wrap64 (by have:=hs.lf;omega) (by have:=hs.lf;omega)]
  refine ay (zW _ _ _) rfl ?_
  cases hI:dE t.n 0 (s.bG.length - 1)with
  |false=>
   exact RW
  |true=>
   exact RG
 ·have hn:bn s t=(dE t.n 0 (s.bG.length - 1)&&decide ((t.kids.length:Int)<fD s.bG t.n)):=by simp[bn,h]
  refine jN h ?_
  rw[wrap64 (by have:=hs.lf;omega) (by have:=hs.lf;omega)]
  refine ay (zW _ _ _) rfl ?_
  cases hI:dE t.n 0 (s.bG.length - 1)with
  |false=>
   exact RW
  |true=>
   exact RG
 ·have hn:bn s t=((t.kids.length:Int)==2&&dE t.n 0 19):=by simp[bn,h]
  refine jN h ?_
  refine fC (eE [.bool (dE t.n 0 19)] ?_ ?_)
  ·refine cI ?_
   exact D0
  refine jN h ?_
  rw[hn]
 ·have hn:bn s t=((t.kids.length:Int)==2&&t.n==0):=by
   rcases h with h|h|h|h|h|h|h|h|h<;>simp[bn,h,dE]
  rw[hn]
  rcases h with h|h|h|h|h|h|h|h|h<;>simp+contextual only[go_sem,h]
 ·have hn:bn s t=false:=by
   simp[bn,dE,show ¬ (t.op=1) by omega,show ¬ (t.op=2) by omega,show ¬ (t.op=3) by omega,show ¬ (t.op=4) by omega,show ¬ (t.op=5) by omega,show ¬ (t.op=8) by omega,show ¬ (6<=t.op/\t.op<=15) by omega]
  have e:∀k:Int,1<=k->k<=15->(t.op==k)=false:=fun k h1 h2=>by simp;omega
  simp+contextual only[go_sem,e 1 (by omega) (by omega),e 2 (by omega) (by omega),e 3 (by omega) (by omega),e 4 (by omega) (by omega),e 5 (by omega) (by omega),e 6 (by omega) (by omega),e 7 (by omega) (by omega),e 8 (by omega) (by omega),e 9 (by omega) (by omega),e 10 (by omega) (by omega),e 11 (by omega) (by omega),e 12 (by omega) (by omega),e 13 (by omega) (by omega),e 14 (by omega) (by omega),e 15 (by omega) (by omega)]
  rw[hn]
theorem qW(s:bC)(t:Tm):jA s t=(bn s t&&t.kids.all (jA s)):=by
 have:∀l:List Tm,sR s l=l.all (jA s):=fun l=>by
  induction l with
  |nil=>rfl
  |cons k l ih=>simp[sR,ih]
 cases t;simp[jA,this,Tm.kids]
theorem cq{α:Type}{l:List α}{p:α->Bool}{k:Nat}{x:α}(hx:l[k]? =some x)(h:p x=false):l.all p=false:=by
 rw[List.all_eq_false];exact⟨x,List.mem_of_getElem? hx,by rw[h];exact Bool.false_ne_true⟩
theorem fg{α:Type}{l:List α}{p:α->Bool}{k:Nat}{x:α}(hx:l[k]? =some x)(h0:(l.take k).all p=true)(h:p x=true):(l.take (k+1)).all p=true:=by
 rw[List.take_add_one,hx,List.all_append,h0];simp[h]
theorem eG{α:Type}{l:List α}{p:α->Bool}{k:Nat}(h0:(l.take k).all p=true)(h:l.length<=k):l.all p=true:=by
 rwa [List.take_of_length_le h]at h0
theorem aL{α:Type}{l:List α}{k:Nat}(h:k<l.length):∃x,l[k]? =some x:=⟨l[k],by simp[h]⟩
@[reducible] def bC.row (s:bC):List V:=[.d (.sl (s.cons.map iT.d)), .d (.sl (s.bG.map iT.d))]
theorem Nb(s:bC)(hs:s.Fits):∀t:Tm,t.fits->aV Tryz.prog 87 [s.d,t.d] (.ret [.bool (jA s t)]):=by
 refine Tm.eY fun t ih hf=> ?_
 have nX:=(Tm.bR _).1 hf
 refine aV.aF mix ac8 aJ ?_
 rw[c87]
 refine cI ?_
 refine ay (Up s t hs nX.1) rfl ?_
 refine cI ?_
 rw[qW]
 refine ai (fun h1=> ?_) (fun h1=> ?_)
 ·refine cI ?_
  simp at h1;simp[h1]
 ·simp at h1
  rw[h1,Bool.true_and]
  refine cI ?_
  refine aB (fun k:Nat=>⟨a7 [.aa, .aa, .ptr 0 0, .ptr 1 0, .aa, .d (.i k)],Dr s.row t.row,2⟩)
   (fun k=>k<=t.kids.length/\(t.kids.take k).all (jA s)=true) (fun k=>t.kids.length - k) 0 ⟨Nat.zero_le _,aJ⟩ (br.d2 _ (ki rfl rfl) ae rfl rfl ?_) (fun k hk=> ?_)
  ·exact ct
  refine cI ?_
  refine ai (fun h2=> ?_) (fun h2=> ?_)
  ·simp at h2
   obtain⟨x,hx⟩:=aL h2
   have iK:=List.mem_of_getElem? hx
   refine jN hx ?_
   refine bg (ih x iK (nX.2 x iK)) rfl ?_
   refine cI ?_
   refine aO bO ?_
   refine cI ?_
   refine ai (fun h3=> ?_) (fun h3=> ?_)
   ·refine cI ?_
    simp at h3
    rw[cq hx h3]
   ·refine cI ?_
    simp at h3
    refine aj (k+1) ⟨h2,fg hx hk.2 h3⟩ ae (br.d2 _ (ki rfl rfl) ae rfl rfl ?_)
    exact ct
  ·refine cI ?_
   simp at h2
   rw[eG hk.2 h2]
theorem J9(s:bC)(hs:s.Fits)(t:Tm)(hf:t.fits):aV Tryz.prog 61 [s.d,t.d] (.ret [.bool (fj s t)]):=by
 refine aV.aF mix acZ aJ ?_
 rw[c61]
 refine cI ?_
 refine ay (EY t hf 40 12 ae ae) rfl ?_
 refine cI ?_
 refine fC (eE [.bool (jA s t)] ?_ ?_)
 ·refine cI ?_
  exact fun _=>Nb s hs t hf
 refine cI ?_
 rfl
theorem qX:∀l l':List Tm,l.length=l'.length->(kD l l'=true↔∀ (i:Nat) (x y:Tm),l[i]? =some x->l'[i]? =some y->kb x y=true)
 |[],l',_=>by simp[kD]
 |k::l,k'::l',h=>by
  simp only[kD,Bool.and_eq_true]
  rw[qX l l' (by simpa using h)]
  constructor
  ·rintro⟨h1,h2⟩ i x y hx hy
   cases i with
   |zero=>simp at hx hy;subst hx;subst hy;exact h1
   |succ i=>exact h2 i x y vW (by simpa using hy)
  ·intro h3
   exact⟨h3 0 k k' rfl rfl,fun i x y hx hy=>h3 (i+1) x y vW (by simpa using hy)⟩
 |_::_,[],h=>by simp at h
theorem Ka(a b:Tm):kb a b=(a.op==b.op&&a.n==b.n&&a.kids.length==b.kids.length&&kD a.kids b.kids):=by cases a;cases b;simp[kb,Tm.op,Tm.n,Tm.kids]
theorem E2(t:Tm)(hf:t.fits):aV Tryz.prog 68 [t.d] (.ret [.bool (kE t)]):=by
 refine aV.aF mix ac0 aJ ?_
 rw[c68]
 refine cI ?_
 refine ay (EY t hf 50 14 ae ae) rfl ?_
 refine cI ?_
 rfl
theorem Ds(s:bC)(hs:s.Fits):aV Tryz.prog 69 [s.d] (.ret [.bool (gR s)]):=by
 refine aV.aF mix ac1 aJ ?_
 rw[c69]
 refine cI ?_
 refine ai (fun h1=> ?_) (fun h1=> ?_)
 ·refine cI ?_
  simp only[gR,h1];rfl
 ·have e:gR s=(ft s.cons&&ft s.bG):=by simp only[gR,h1];rfl
  rw[e]
  simp at h1
  refine cI ?_
  refine aB (fun k:Nat=>⟨a7 [.aa, .ptr 0 0, .aa, .d (.i k)],iO s.row,1⟩)
   (fun k=>k<=s.cons.length/\ft (s.cons.take k)=true) (fun k=>s.cons.length - k) 0 ⟨Nat.zero_le _,by simp[ft]⟩ (br.d1 _ (aT rfl) ae rfl ?_) (fun k hk=> ?_)
  ·exact ct
  refine cI ?_
  refine ai (fun h2=> ?_) (fun h2=> ?_)
  ·simp at h2
   obtain⟨x,hx⟩:=aL h2
   refine jN hx ?_
   refine ai (fun h3=> ?_) (fun h3=> ?_)
   ·refine cI ?_
    rw[show ft s.cons=false from cq hx (by simpa using h3)];rfl
   ·refine cI ?_
    refine aj (k+1) ⟨h2,fg hx hk.2 (by simpa using h3)⟩ ae (br.d1 _ (aT rfl) ae rfl ?_)
    exact ct
  ·simp at h2
   rw[show ft s.cons=true from eG hk.2 h2,Bool.true_and]
   refine cI ?_
   refine aB (fun k:Nat=>⟨a7 [.aa, .ptr 0 0, .aa, .aa, .d (.i k)],iO s.row,1⟩)
    (fun k=>k<=s.bG.length/\ft (s.bG.take k)=true) (fun k=>s.bG.length - k) 0 ⟨Nat.zero_le _,by simp[ft]⟩ (br.d1 _ (aT rfl) ae rfl ?_) (fun k hk=> ?_)
   ·exact ct
   refine cI ?_
   refine ai (fun h4=> ?_) (fun h4=> ?_)
   ·simp at h4
    obtain⟨x,hx⟩:=aL h4
    refine jN hx ?_
    refine ai (fun h3=> ?_) (fun h3=> ?_)
    ·refine cI ?_
     rw[show ft s.bG=false from cq hx (by simpa using h3)]
    ·refine cI ?_
     refine aj (k+1) ⟨h4,fg hx hk.2 (by simpa using h3)⟩ ae (br.d1 _ (aT rfl) ae rfl ?_)
     exact ct
   ·simp at h4
    rw[show ft s.bG=true from eG hk.2 h4]
    simp+contextual only[go_sem]
section
theorem BE{σ:Type}(l:List Tm)(hl:l.length<=9223372036854775807)(g:Nat)(aP:List V)(base:Nat)(H:σ->Nat->ab)(step:σ->Tm->σ×Bool)(hc:∀r∈V.aE aP,r<base)(ok:σ->Prop)(aS:∀x∈l,∀s,ok s->(step s x).2=true->ok (step s x).1)
 (h:∀x∈l,∀s,ok s->iN Tryz.prog g (.d x.d::aP) base (H s) (H (step s x).1) (.d (.bool (step s x).2))) (s:σ) (iq:ok s):
 iN Tryz.prog 171 [.d (.sl (l.map Tm.d)), .func (.func g) [] aP] base (H s) (H (aq step s l).1) (.d (.bool (aq step s l).2)):=by
 intro o nx hI K X hK
 have il:∀r∈V.aE aP,r<nx:=fun r hr=>Nat.lt_of_lt_of_le (hc r hr) hI.le
 refine cX.aF mix Qq aJ ?_
 rw[T0]
 refine cI ?_
 refine aB (fun i:Nat×σ×(Nat->ab)×Nat=>⟨a7 [.aa, .func (.func g) [] aP, .aa, .aa, .aa, .aa, .aa, .d (.sl (l.map Tm.d)), .d (.i l.length), .d (.i i.1)],i.2.2.1,i.2.2.2⟩)
  (fun i=>i.1<=l.length/\cG base (H i.2.1) i.2.2.1 i.2.2.2/\nx<=i.2.2.2/\(∀id,base<=id->id<nx->i.2.2.1 id=o id)/\aq step s l=aq step i.2.1 (l.drop i.1)/\ok i.2.1) (fun i=>l.length - i.1) (0,s,o,nx)
  ⟨Nat.zero_le _,hI,Nat.le_refl _,fun _ _ _=>rfl,rfl,iq⟩ ?_ ?_
 ·exact Xp
 rintro⟨k,s',o',nx'⟩ ⟨hk,sH,hn,cL,hf,hY⟩
 simp only at hk sH hn cL hf hY
 refine cI ?_
 refine ai (fun h1=> ?_) (fun h1=> ?_)
 ·simp at h1
  obtain⟨x,hx⟩:=aL h1
  have iK:=List.mem_of_getElem? hx
  have hd:l.drop k=x::l.drop (k+1):=by
   exact Vj
  refine HL hx ?_
  have hl0:=sH.le
  refine dD (h x iK s' hY _ _ (?_:cG base (H s') _ (nx'+7)) _ _ fun o2 n2 m1 m2 m3=> ?_)
  ·exact WS
  have Kc:∀id,base<=id->id<nx->o2 id=o id:=fun id h2 h3=>by
   exact W6
  refine cI ?_
  refine ai (fun h2=> ?_) (fun h2=> ?_)
  ·refine cI ?_
   simp at h2
   have:aq step s l=((step s' x).1,false):=by rw[hf,hd,aq,if_neg (by rw[h2];exact Bool.false_ne_true)]
   rw[this]at hK
   exact hK _ _ ae (m2.mono ae) Kc
  ·refine cI ?_
   simp at h2
   have:aq step s l=aq step (step s' x).1 (l.drop (k+1)):=by rw[hf,hd,aq,if_pos h2]
   refine aj (k+1,(step s' x).1,o2,n2) ⟨h1,m2,by dsimp only;omega,Kc,this,aS x iK s' hY h2⟩ jO ?_
   dsimp only
   have E3:∀r∈V.aE aP,r<n2:=fun r hr=>by have:=il r hr;omega
   refine br.aR _ ae ae m2.bz (fun _ _=>rfl) ?_
   exact ct
 ·exact XO
theorem yW{α σ:Type}(step:σ->α->σ×Bool)(a b:List α):∀s,aq step s (a++b)=if(aq step s a).2=true then aq step (aq step s a).1 b else((aq step s a).1,false):=by
 induction a with
 |nil=>intro s;simp[aq]
 |cons x a ih=>
  intro s
  simp only[List.cons_append,aq]
  split
  ·exact ih _
  ·rename_i h;simp
theorem uI{α β σ:Type}(step:σ->β->σ×Bool)(f:α->List β)(l:List α):∀s,aq step s (l.flatMap f)=aq (fun s x=>aq step s (f x)) s l:=by
 induction l with
 |nil=>intro s;rfl
 |cons x l ih=>intro s;simp only[List.flatMap_cons,yW,aq,ih]
theorem zT{α σ:Type}{step:σ->α->σ×Bool}{ok:σ->Prop}:∀ (l:List α),(∀x∈l,∀s,ok s->(step s x).2=true->ok (step s x).1)->∀s,ok s->(aq step s l).2=true->ok (aq step s l).1
 |[],_,s,h,_=>h
 |x::l,aS,s,h,h2=>by
  simp only[aq]at h2|-
  split at h2
  ·rename_i hb
   rw[if_pos hb]
   exact zT l (fun y hy=>aS y oY) _ (aS x aJ s h hb) h2
  ·cases h2
def Wk(P:Program)(m4:Nat)(args:List V)(base:Nat)(h h2:Nat->ab)(v:V):Prop:=
 ∀o nx,cG base h o nx->∀K X,StK base h2 v o nx K->dt P m4 args o nx K X
section
variable {σ:Type}(base m4:Nat)(H:σ->Nat->ab)(step:σ->Tm×Int->σ×Bool)(ok:σ->Prop)
theorem Nc:∀t:Tm,t.fits->∀d:Int,0<=d->d+t.mN<=1000000->(∀x∈pre t d,∀s,ok s->(step s x).2=true->ok (step s x).1)->(∀x∈pre t d,∀s,ok s->Wk Tryz.prog m4 [.d x.1.d, .d (.i x.2)] base (H s) (H (step s x).1) (.d (.bool (step s x).2)))->m4<base->
 ∀ (c:Nat) (o0:Nat->ab) (yb vb:Nat),base<=c->base<=yb->yb<c->base<=vb->vb<c->o0 yb= .row [.iW m4]->o0 vb= .row [.func (.func 175) [] [.ptr yb 0, .ptr vb 0]]->
 ∀s,ok s->iN Tryz.prog 175 [.d t.d, .d (.i d), .ptr yb 0, .ptr vb 0] c (ext base (H s) o0) (ext base (H (aq step s (pre t d)).1) o0) (.d (.bool (aq step s (pre t d)).2)):=by
 refine Tm.eY fun t ih hf d hd0 hd aS hR uJ c o0 yb vb Lu LG hy LH hv oy ov s iq=> ?_
 have nX:=(Tm.bR _).1 hf
 intro o nx hI K X hK
 have hle:=hI.le
 have Nd:o yb= .row [.iW m4]:=by rw[hI.eq yb hy];unfold ext;rw[if_neg (by omega),oy]
 have Nf:o vb= .row [.func (.func 175) [] [.ptr yb 0, .ptr vb 0]]:=by rw[hI.eq vb hv];unfold ext;rw[if_neg (by omega),ov]
 have y1:yb≠nx:=ae
 have y2:∀k,yb≠nx+k:=fun k=>ae
 have y3:vb≠nx:=ae
 have y4:∀k,vb≠nx+k:=fun k=>ae
 refine cX.aF mix Qu aJ ?_
 rw[T4]
 simp+contextual only[go_sem,Nd,Nf,y1,y2,y3,y4,Nat.add_assoc,Nat.left_eq_add,Nat.add_eq_left,Nat.add_left_cancel_iff]
 have sd:=jy t d
 have jP:∀k∈t.kids,∀x∈pre k (d+1),x∈pre t d:=fun k hk x hx=>by
  exact Of
 have hb:∀id,id<base->o id=H s id:=fun id au=>by rw[hI.eq id (by omega)];unfold ext;rw[if_pos au]
 have hIb:cG base (H s) o nx:=⟨hI.bz,ae,hb⟩
 refine mZ (hR (t,d) zY s iq _ _ ((hIb.aD (i:=nx) (m:=nx+6) ae ae ae rfl).aD (i:=nx+1) ae ae ae rfl) _ _ fun o2 n2 m1 m2 m3=> ?_)
 have k0:o2 nx= .row t.row:=by rw[m3 nx (by omega) (by omega),ah _ _ _ _ (by omega),af]
 have k1:o2 (nx+1)= .row [.d (.i d)]:=by rw[m3 (nx+1) (by omega) (by omega),af]
 have hold:∀id,base<=id->id<nx->o2 id=o id:=fun id h1 h2=>by rw[m3 id h1 (by omega),ah _ _ _ _ (by omega),ah _ _ _ _ (by omega)]
 have Cv:∀id,base<=id->id<c->o id=o0 id:=fun id h1 h2=>by rw[hI.eq id h2];unfold ext;rw[if_neg (by omega)]
 cases BF:(step s (t,d)).2 with
 |false=>
  refine jN BF ?_
  have w7:aq step s (pre t d)=((step s (t,d)).1,false):=by rw[sd,aq,if_neg (by rw[BF];exact Bool.false_ne_true)]
  rw[w7]at hK
  refine hK _ _ ae ⟨m2.bz.mono ae,ae,fun id au=> ?_⟩ (fun id h1 h2=>hold id ae h2)
  unfold ext
  split
  ·exact m2.eq id oX
  ·exact HT
 |true=>
  have w7:aq step s (pre t d)=aq (fun s k=>aq step s (pre k (d+1))) (step s (t,d)).1 t.kids:=by rw[sd,aq,if_pos BF,uI]
  simp+contextual only[go_sem,BF,k0,k1]
  have q0:o2 yb= .row [.iW m4]:=by rw[hold yb LG (by omega),Nd]
  have q1:o2 vb= .row [.func (.func 175) [] [.ptr yb 0, .ptr vb 0]]:=by rw[hold vb LH (by omega),Nf]
  have m0:=m2.le
  refine bd (BE t.kids nX.1 176 [.ptr vb 0, .ptr (nx+1) 0] n2 (fun s=>ext base (H s) o2) (fun s k=>aq step s (pre k (d+1))) ?_ ok ?_ ?_ (step s (t,d)).1 (aS (t,d) zY s iq BF) _ _ ?_ _ _ ?_)
  ·simp[V.aE,V.refs];omega
  ·exact Xc
  ·intro k hk s' jQ o3 n3 hI3 K3 X3 hK3
   have l3:=hI3.le
   have r0:o3 vb= .row [.func (.func 175) [] [.ptr yb 0, .ptr vb 0]]:=by rw[hI3.eq vb (by omega)];unfold ext;rw[if_neg (by omega),q1]
   have r1:o3 (nx+1)= .row [.d (.i d)]:=by rw[hI3.eq (nx+1) (by omega)];unfold ext;rw[if_neg (by omega),k1]
   have y5:vb≠n3:=ae
   have y6:∀k,vb≠n3+k:=fun k=>ae
   have y7:nx+1≠n3:=ae
   have y8:∀k,nx+1≠n3+k:=fun k=>ae
   have hh:=Tm.pP hk
   refine cX.aF mix Qv aJ ?_
   rw[T5]
   simp+contextual only[go_sem,r0,r1,y5,y6,y7,y8]
   rw[wrap64 (n:=d+1) (by omega) (by omega)]
   refine bd (ih k hk (nX.2 k hk) (d+1) ae ae (fun x hx=>aS x (jP k hk x hx)) (fun x hx=>hR x (jP k hk x hx)) uJ n2 o2 yb vb ae LG ae LH ae q0 q1 s' jQ _ _ (hI3.aD (i:=n3) (m:=n3+6) ae ae ae rfl) _ _ fun o4 n4 p1 p2 p3=> ?_)
   refine cI ?_
   refine hK3 _ _ ae (p2.mono ae) (fun id h1 h2=> ?_)
   rw[p3 id h1 (by omega),ah _ _ _ _ (by omega)]
  ·exact(m2.mono ae).ext ae ae
  ·intro o5 n5 p1 p2 p3
   refine cI ?_
   rw[<- w7]
   refine hK _ _ ae ⟨p2.bz.mono ae,ae,fun id au=> ?_⟩ (fun id h1 h2=> ?_)
   ·rw[p2.eq id (by omega), <- w7]
    unfold ext
    split
    ·rfl
    ·exact HT
   ·exact OI
theorem Kd(t:Tm)(hf:t.fits)(hd:t.mN<=900000)(aS:∀x∈pre t 1,∀s,ok s->(step s x).2=true->ok (step s x).1)(hR:∀x∈pre t 1,∀s,ok s->Wk Tryz.prog m4 [.d x.1.d, .d (.i x.2)] base (H s) (H (step s x).1) (.d (.bool (step s x).2)))(uJ:m4<base)(tb:Nat)(zF:tb<base)(s:σ)(iq:ok s)(bE:H s tb= .row t.row):
 iN Tryz.prog 174 [.iW m4, .ptr tb 0] base (H s) (H (aq step s (pre t 1)).1) (.bT []):=by
 intro o nx hI K X hK
 have hle:=hI.le
 have ot:o tb= .row t.row:=by rw[hI.eq tb zF,bE]
 have y1:tb≠nx:=ae
 have y2:∀k,tb≠nx+k:=fun k=>ae
 refine cX.aF mix Qt aJ ?_
 rw[T3]
 refine Q8 ot y1 y2 ?_
 have hI1:cG base (H s) (aD (aD (aD o nx (.row [.iW m4])) (nx+1) (.row [.d .bZ])) (nx+1) (.row [.func (.func 175) [] [.ptr nx 0, .ptr (nx+1) 0]])) (nx+6):=by
  refine((hI.aD (i:=nx) (m:=nx+6) ae ae ae ?_).aD (i:=nx+1) (m:=nx+6) ae ae ae rfl).aD (i:=nx+1) ae ae ae ?_
  ·exact H8
  ·exact xB
 refine bd (Nc base m4 H step ok t hf 1 ae ae aS hR uJ (nx+6) _ nx (nx+1) ae hle ae ae ae ?_ ?_ s iq _ _ (hI1.ext (Nat.le_refl _) ae) _ _ ?_)
 ·exact gY
 ·exact gY
 intro o2 n2 m1 m2 m3
 refine cI ?_
 refine hK _ _ ae ⟨m2.bz,ae,fun id au=> ?_⟩ (fun id h1 h2=> ?_)
 ·exact FN
 ·exact RN
end
theorem BG(t:Tm)(o:Nat->ab)(nx:Nat)(K X:V->(Nat->ab)->Nat->Prop)(h:K (.func (.func 174) [] [.ptr nx 0]) (aD o nx (.row t.row)) (nx+4)):cX Tryz.prog 160 [.d t.d] o nx K X:=by
 refine cX.aF mix Qm aJ ?_
 rw[TW]
 refine cI ?_
 exact h
end
def Ke:Option jL->fL
 |none=> .normal
 |some .ret=> .ret
 |some (.exit j)=> .exit j
def w8{σ:Type}(J:σ->Option jL)(step:σ->Tm×Int->σ)(s:σ)(x:Tm×Int):σ×Bool:=(step s x,(J (step s x)).isNone)
theorem yX{σ:Type}(J:σ->Option jL)(step:σ->Tm×Int->σ):∀ (l:List (Tm×Int)) (s:σ),J s=none->(aq (w8 J step) s l).2=(J (aq (w8 J step) s l).1).isNone
 |[],s,h=>by simp[aq,h]
 |x::l,s,h=>by
  simp only[aq]
  split
  ·rename_i hb
   exact yX J step l _ (by simpa[w8]using hb)
  ·rename_i hb
   cases hj:J (step s x)with
   |none=>exact absurd (by simp[w8,hj]) hb
   |some j=>simp[w8,hj]
theorem rT{σ:Type}(t:Tm)(hf:t.fits)(hd:t.mN<=900000){n bq:Nat}{gq:Operand}{ps:List Nat}{jn fl:IC}{Q:fL->S->Prop}{e:Nat->V}{o:Nat->ab}{nx tb:Nat}(env:List V)(he:lV e env 0)
 (vE:ps.all (fun t=>decide (t<n))=true) (hl:ps.length=2) (hg:Good o nx) (hrefs:∀r∈V.aE env,r<nx) (ht:o tb= .row t.row)
 (G:σ->Nat->ab) (J:σ->Option jL) (step:σ->Tm×Int->σ) (ok:σ->Prop) (s0:σ) (iq:ok s0) (Vh:J s0=none) (h0:∀id,id<nx->o id=G s0 id) (aS:∀x∈pre t 1,∀s,ok s->J s=none->J (step s x)=none->ok (step s x))
 (oB:∀L,gV Tryz.prog n env ps jn fl L->(∀st pd m,nx<=m->(L st pd).refs.all (fun r=>decide (r<m))=true)->∀x∈pre t 1,∀s,ok s->J s=none->∀o3 n3,cG nx (G s) o3 n3->nx<n3->o3 nx=L .ready none->∀K X,
  (∀e' o' n' st pd,n3<=n'->cG nx (G (step s x)) o' n'->o' nx=L st pd->(∀id,nx<id->id<n3->o' id=o3 id)->jD nx K X (Ke (J (step s x))) ⟨e',o',n'⟩)->
  lJ Tryz.prog n n3 true jn (oG Tryz.prog n n3 nx fl K X) ⟨mJ (a7 env) ps [.d x.1.d, .d (.i x.2)],o3,n3⟩)
 (gC:∀o' n',cG nx (G (aq (w8 J step) s0 (pre t 1)).1) o' n'->oA Q (J (aq (w8 J step) s0 (pre t 1)).1) ⟨e,o',n'⟩):
 yw Tryz.prog n bq false gq ps jn fl Q ⟨e,o,nx⟩ (.func (.func 174) [] [.ptr tb 0]):=by
 refine Dq env he (fun L hL=> ?_)
 have zF:tb<nx:=hg.lt Io
 let H:σ->Nat->ab:=fun s id=>if id<nx then G s id else if id=nx then(match J s with|none=>L .ready none|some j=>L .done (some j))else .no
 have FO:∀s id,id<nx->H s id=G s id:=fun s id h=>if_pos h
 have Lt:∀s,J s=none->H s nx=L .ready none:=fun s h=>by show(if nx<nx then _ else _)=_;rw[if_neg (by omega),if_pos rfl,h]
 have Rn:∀s j,J s=some j->H s nx=L .done (some j):=fun s j h=>by show(if nx<nx then _ else _)=_;rw[if_neg (by omega),if_pos rfl,h]
 have vR:∀st pd m,nx<=m->(L st pd).refs.all (fun r=>decide (r<m))=true:=fun st pd m hm=>by
  exact RJ
 refine Kd (nx+1) nx H (w8 J step) (fun s=>ok s/\J s=none) t hf hd (fun x hx s h1 h2=> ?_) (fun x hx s h1=> ?_) ae tb ae s0 ⟨iq,Vh⟩ Il _ _ ⟨?_,Nat.le_refl _,fun id au=> ?_⟩ _ _ ?_
 ·have hj:J (step s x)=none:=by simpa[w8]using h2
  exact⟨aS x hx s h1.1 h1.2 hj,hj⟩
 ·intro o3 n3 hI K X hK
  have hle:=hI.le
  have HH:o3 nx=L .ready none:=by rw[hI.eq nx (by omega),Lt s h1.2]
  refine uG hL mix HH ae vE (by simp[hl]) ?_
  refine oB L hL vR x hx s h1.1 h1.2 o3 n3 ⟨hI.bz,ae,fun id au=>by rw[hI.eq id (by omega),FO _ _ au]⟩ ae HH K X (fun e' o' n' st pd k1 k2 k3 k4=> ?_)
  have key:∀st' pd' b,(J (step s x)).isNone=b->H (step s x) nx=L st' pd'->K (.d (.bool b)) (aD o' nx (L st' pd')) n':=fun st' pd' b hb hh=>by
   subst hb
   refine hK _ _ k1 ⟨k2.bz.aD ae (vR _ _ _ ae),ae,fun id au=> ?_⟩ (fun id g1 g2=> ?_)
   ·by_cases tc:id=nx
    ·exact H9
    ·rw[ah _ _ _ _ tc]
     show o' id=H (step s x) id
     exact HZ
   ·exact Ru
  cases hj:J (step s x)with
  |none=>exact Rq
  |some j=>
   cases j with
   |ret=>exact Ro
   |exit j=>exact Rm
 ·exact Rp
 ·by_cases tc:id=nx
  ·exact Ie
  ·exact Rj
 ·intro o' n' k1 k2 k3
  have hle:=k2.le
  generalize hsf:(aq (w8 J step) s0 (pre t 1)).1=sf at*
  have kk:∀st pd,cG nx (G sf) (aD o' nx (L st pd)) n':=fun st pd=>⟨k2.bz.aD ae (vR _ _ _ ae),ae,fun id au=>by rw[ah _ _ _ _ (by omega),k2.eq id (by omega),FO _ _ au]⟩
  cases hj:J sf with
  |none=>
   refine⟨.ready,none,by rw[k2.eq nx (by omega),Lt _ hj],(fun h=>by cases h), ?_⟩
   have:=gC _ _ (kk .exhausted none)
   rwa [hj]at this
  |some j=>
   refine⟨.done,some j,by rw[k2.eq nx (by omega),Rn _ _ hj],(fun h=>by cases h), ?_⟩
   have:=gC _ _ (kk .exhausted (some j))
   rwa [hj]at this
theorem fU(n low high:Int):aV Tryz.prog 127 [.i n, .i low, .i high] (.ret [.bool (dE n low high)]):=by
 refine aV.aF mix P7 aJ ?_
 rw[TH]
 refine cI ?_
 rfl
theorem Dt(s:bC)(t:Tm)(h:t.op=1):aV Tryz.prog 182 [s.d,t.d] (.ret [.bool (bn s t)]):=by
 have hn:bn s t=(dE t.n 0 19&&(t.kids.length:Int)==0):=by simp[bn,h,Bool.and_comm]
 refine aV.aF mix QA aJ ?_
 rw[Ua]
 exact RM
theorem GU(s:bC)(t:Tm)(h:t.op=2):aV Tryz.prog 183 [s.d,t.d] (.ret [.bool (bn s t)]):=by
 have hn:bn s t=(dE t.n (-1000000) 1000000&&(t.kids.length:Int)==0):=by simp[bn,h,Bool.and_comm]
 refine aV.aF mix QB aJ ?_
 rw[Ub]
 exact RM
theorem abe(s:bC)(t:Tm)(h:t.op=8):aV Tryz.prog 187 [s.d,t.d] (.ret [.bool (bn s t)]):=by
 have hn:bn s t=(dE t.n 0 19&&(t.kids.length:Int)==2):=by simp[bn,h,Bool.and_comm]
 refine aV.aF mix QF aJ ?_
 rw[Uf]
 exact RM
theorem Uq(s:bC)(t:Tm)(h:t.op=6\/t.op=7\/t.op=9\/t.op=10\/t.op=11\/t.op=12\/t.op=13\/t.op=14\/t.op=15):aV Tryz.prog 188 [s.d,t.d] (.ret [.bool (bn s t)]):=by
 have hn:bn s t=(t.n==0&&(t.kids.length:Int)==2):=by
  rcases h with h|h|h|h|h|h|h|h|h<;>simp[bn,h,dE,Bool.and_comm]
 refine aV.aF mix QG aJ ?_
 rw[Ug]
 refine cI ?_
 rw[hn]
theorem abf(s:bC)(t:Tm)(hs:s.Fits)(h:t.op=3):aV Tryz.prog 184 [s.d,t.d] (.ret [.bool (bn s t)]):=by
 have hn:bn s t=(dE t.n 0 (s.cons.length - 1)&&(t.kids.length:Int)==fD s.cons t.n):=by simp[bn,h]
 refine aV.aF mix QC aJ ?_
 rw[Uc]
 refine cI ?_
 rw[wrap64 (by have:=hs.lc;omega) (by have:=hs.lc;omega)]
 refine bg (fU _ _ _) rfl ?_
 cases hI:dE t.n 0 (s.cons.length - 1)with
 |false=>
  exact RI
 |true=>
  exact RA
theorem abg(s:bC)(t:Tm)(hs:s.Fits)(h:t.op=4):aV Tryz.prog 185 [s.d,t.d] (.ret [.bool (bn s t)]):=by
 have hn:bn s t=(dE t.n 0 (s.bG.length - 1)&&(t.kids.length:Int)==fD s.bG t.n):=by simp[bn,h]
 refine aV.aF mix QD aJ ?_
 rw[Ud]
 refine cI ?_
 rw[wrap64 (by have:=hs.lf;omega) (by have:=hs.lf;omega)]
 refine bg (fU _ _ _) rfl ?_
 cases hI:dE t.n 0 (s.bG.length - 1)with
 |false=>
  exact RI
 |true=>
  exact RA
theorem Ur(s:bC)(t:Tm)(hs:s.Fits)(h:t.op=5):aV Tryz.prog 186 [s.d,t.d] (.ret [.bool (bn s t)]):=by
 have hn:bn s t=(dE t.n 0 (s.bG.length - 1)&&decide ((t.kids.length:Int)<fD s.bG t.n)):=by simp[bn,h]
 refine aV.aF mix QE aJ ?_
 rw[Ue]
 refine cI ?_
 rw[wrap64 (by have:=hs.lf;omega) (by have:=hs.lf;omega)]
 refine bg (fU _ _ _) rfl ?_
 cases hI:dE t.n 0 (s.bG.length - 1)with
 |false=>
  exact RI
 |true=>
  exact RA
@[reducible] def rf (n:Nat):V:= .func (.func n) [] []
@[reducible] def adi:List V:=[.d .bZ,rf 182,rf 183,rf 184,rf 185,rf 186, .d .bZ, .d .bZ,rf 187, .d .bZ, .d .bZ, .d .bZ, .d .bZ, .d .bZ, .d .bZ, .d .bZ]
@[reducible] def Du:List V:=[.d .bZ,rf 182,rf 183,rf 184,rf 185,rf 186,rf 188,rf 188,rf 187,rf 188,rf 188,rf 188,rf 188,rf 188,rf 188,rf 188]
def HM(k:Nat):List V:=Du.take k++adi.drop k
theorem funcOf{P:Program}{t:TypeId}(h:(match P.underlying t with|some (.func _ _ _)=>true|_=>false)=true):∃a b c,P.underlying t=some (.func a b c):=by
 split at h
 ·exact⟨_,_,_,by assumption⟩
 ·cases h
@[go_sem] theorem adj (o:Nat->ab) (nH:Bool):vh Tryz.prog o 214 nH (.d .bZ) (.d .bZ)=some (.d (.bool true)):=by
  exact OK
@[go_sem] theorem adk (o:Nat->ab) (nH:Bool) (f:Fn) (x y:List V):vh Tryz.prog o 214 nH (.func f x y) (.d .bZ)=some (.d (.bool false)):=by
  exact OK
theorem Ng(base:Nat)(h:Nat->ab):iN Tryz.prog 181 [] base h h (.agg Du):=by
 intro o nx hI K X hK
 have hle:=hI.le
 refine cX.aF mix Qz aJ ?_
 rw[T9]
 simp+contextual only[go_sem,Nat.add_assoc,Nat.left_eq_add,Nat.add_eq_left,Nat.add_left_cancel_iff]
 refine aB (fun k:Nat=>⟨a7 [.ptr nx 0, .ptr (nx+2) 0, .aa, .aa, .d (.i k)],aD (aD o nx (.row (List.replicate 16 (.d .bZ)))) (nx+2) (.row (HM k)),nx+5⟩)
  (fun k=>k<=16) (fun k=>16 - k) 0 (Nat.zero_le _) ?_ (fun k hk=> ?_)
 ·refine br.aR _ ae ae ?_ (fun id au=> ?_) ?_
  ·exact((hI.bz.mono ae).aD ae rfl).aD ae rfl
  ·rw[et];rfl
  ·exact ct
 have hg:∀k,k<16->Good (aD (aD o nx (.row (List.replicate 16 (.d .bZ)))) (nx+2) (.row (HM (k+1)))) (nx+5):=fun k hk=>
  ((hI.bz.mono ae).aD ae rfl).aD ae (by
    rcases(by omega:k=0\/k=1\/k=2\/k=3\/k=4\/k=5\/k=6\/k=7\/k=8\/k=9\/k=10\/k=11\/k=12\/k=13\/k=14\/k=15)with rfl|rfl|rfl|rfl|rfl|rfl|rfl|rfl|rfl|rfl|rfl|rfl|rfl|rfl|rfl|rfl<;>rfl)
 by_cases adl:k=16
 ·subst adl
  refine Wz ?_
  refine hK _ _ ?_ ⟨?_, ?_,fun id au=> ?_⟩ (fun id h1 h2=> ?_)
  rotate_left
  ·exact(((hI.bz.mono ae).aD ae rfl).aD ae rfl).aD ae rfl
  ·omega
  ·(repeat(first|rfl|rw[af]|rw[ah _ _ _ _ (by omega)]))
   exact hI.eq id au
  ·exact gY
  ·omega
 ·have hgk:=hg k ae
  obtain⟨k1,Ym⟩:∃k1,k1=k+1:=⟨_,rfl⟩
  rw[<- Ym]at hgk
  rcases(by omega:k=0\/k=1\/k=2\/k=3\/k=4\/k=5\/k=6\/k=7\/k=8\/k=9\/k=10\/k=11\/k=12\/k=13\/k=14\/k=15)with rfl|rfl|rfl|rfl|rfl|rfl|rfl|rfl|rfl|rfl|rfl|rfl|rfl|rfl|rfl|rfl
  all_goals
   refine Wz ?_
   refine aj k1 ae ae (br.aR _ ae ae hgk (fun id au=> ?_) ?_)
   all_goals subst Ym
   ·first|rfl|(rw[et];rfl)
   ·exact ct
def Kg(n:Int):Nat:=if n=1 then 182 else if n=2 then 183 else if n=3 then 184 else if n=4 then 185 else if n=5 then 186 else if n=8 then 187 else 188
theorem Us(s:bC)(t:Tm)(hs:s.Fits)(h:dE t.op 1 15=true):aV Tryz.prog (Kg t.op) [s.d,t.d] (.ret [.bool (bn s t)])/\Du[t.op.toNat]? =some (rf (Kg t.op))/\0<=t.op/\t.op<16:=by
 simp[dE]at h
 rcases(by omega:t.op=1\/t.op=2\/t.op=3\/t.op=4\/t.op=5\/t.op=8\/(t.op=6\/t.op=7\/t.op=9\/t.op=10\/t.op=11\/t.op=12\/t.op=13\/t.op=14\/t.op=15))with h|h|h|h|h|h|h
 ·exact⟨by rw[h];exact Dt s t h,by rw[h];rfl,ae,ae⟩
 ·exact⟨by rw[h];exact GU s t h,by rw[h];rfl,ae,ae⟩
 ·exact⟨by rw[h];exact abf s t hs h,by rw[h];rfl,ae,ae⟩
 ·exact⟨by rw[h];exact abg s t hs h,by rw[h];rfl,ae,ae⟩
 ·exact⟨by rw[h];exact Ur s t hs h,by rw[h];rfl,ae,ae⟩
 ·exact⟨by rw[h];exact abe s t h,by rw[h];rfl,ae,ae⟩
 ·have hp:=Uq s t h
  rcases h with h|h|h|h|h|h|h|h|h<;>exact⟨by rw[h];exact hp,by rw[h];rfl,ae,ae⟩
def nN(s:bC)(n:Int)(x:Tm×Int):Bool:=decide (40<n+1)||decide (12<x.2)|| !dE x.1.op 1 15|| !bn s x.1
def gv(s:bC)(n:Int×Bool)(x:Tm×Int):Int×Bool:=(n.1+1, !nN s n.1 x)
def fJ(n:Int×Bool):Option jL:=if n.2=true then none else some .ret
def lM(s:bC)(t:Tm):Bool:=(aq (w8 fJ (gv s)) (0,true) (pre t 1)).2
theorem Kh(s:bC)(hs:s.Fits)(t:Tm)(hf:t.fits)(hd:t.mN<=900000):aV Tryz.prog 173 [s.d,t.d] (.ret [.bool (lM s t)]):=by
 refine aV.aF mix Qs aJ ?_
 rw[T2]
 refine cI ?_
 refine fQ (Ng 3 _ _ _ (?_:cG 3 (aD (aD (aD (fun _=> .no) 0 (.row s.row)) 1 (.row t.row)) 2 (.row [.d (.bool false)])) _ 3) _ _ fun o2 n2 m1 m2 m3=> ?_)
 ·exact⟨ff,Nat.le_refl _,fun _ _=>rfl⟩
 have p0:o2 0= .row s.row:=m2.eq 0 ae
 have p1:o2 1= .row t.row:=m2.eq 1 ae
 have p2:o2 2= .row [.d (.bool false)]:=m2.eq 2 ae
 have e0:0≠n2:=ae
 have e1:1≠n2:=ae
 have e2:2≠n2:=ae
 have e3:∀k,0≠n2+k:=fun k=>ae
 have e4:∀k,1≠n2+k:=fun k=>ae
 have e5:∀k,2≠n2+k:=fun k=>ae
 simp+contextual only[go_sem,p0,p1,p2,e0,e1,e2,e3,e4,e5,Nat.add_assoc,Nat.left_eq_add,Nat.add_eq_left,Nat.add_left_cancel_iff]
 refine fQ (BG t _ _ _ _ ?_)
 refine cI ?_
 have hG0:∀n,Good (aD (aD (aD (aD (aD (aD o2 n2 (.row (List.replicate 16 (.d .bZ)))) (n2+1) (.row [.d (.i 0)])) n2 (.row Du)) (n2+1) (.row [.d (.i 0)])) (n2+5) (.row t.row)) (n2+1) (.row [.d (.i n)])) (n2+9):=fun n=>by
  have hg:=m2.bz
  exact ff
 refine rT t hf hd [.aa, .aa, .ptr 0 0, .aa, .ptr 2 0, .ptr n2 0, .ptr (n2+1) 0] ?_ bO rfl ?_ (by simp[V.aE,V.refs];omega) (af _ _ _)
  (fun s=>aD (aD (aD (aD (aD (aD o2 n2 (.row (List.replicate 16 (.d .bZ)))) (n2+1) (.row [.d (.i 0)])) n2 (.row Du)) (n2+1) (.row [.d (.i 0)])) (n2+5) (.row t.row)) (n2+1) (.row [.d (.i s.1)]))
  fJ (gv s) (fun s=>0<=s.1/\s.1<=40) (0,true) ⟨bO,bO⟩ rfl ?_ ?_ ?_ ?_
 ·exact FK
 ·have hg:=m2.bz
  exact ff
 ·intro id au
  by_cases h:id=n2+1
  ·subst h;(repeat(first|rfl|rw[af]|rw[ah _ _ _ _ (by omega)]))
  ·rw[ah _ _ _ _ h];rfl
 ·intro x hx s' h1 h2 h3
  have:nN s s'.1 x=false:=by simpa[fJ,gv]using h3
  simp[nN]at this
  simp only[gv]
  omega
 ·intro L hL vR x hx s' h1 h2 o3 n3 hI hn ho K X cu
  simp only[mJ]
  have hg:=hI.bz
  have q0:o3 0= .row s.row:=by
   rw[hI.eq 0 (by omega)];(repeat(first|rfl|rw[af]|rw[ah _ _ _ _ (by omega)]))
   exact p0
  have q2:o3 2= .row [.d (.bool false)]:=by
   exact XT
  have q3:o3 n2= .row Du:=by rw[hI.eq n2 (by omega)];(repeat(first|rfl|rw[af]|rw[ah _ _ _ _ (by omega)]))
  have q4:o3 (n2+1)= .row [.d (.i s'.1)]:=by rw[hI.eq (n2+1) (by omega)];(repeat(first|rfl|rw[af]|rw[ah _ _ _ _ (by omega)]))
  have fin:∀ (o':Nat->ab) (n':Nat),(∀id,id<n2+5+4->o' id=aD o3 (n2+1) (.row [.d (.i (s'.1+1))]) id)->Good o' n'->n3<=n'->cG (n2+5+4) (aD (aD (aD (aD (aD (aD o2 n2 (.row (List.replicate 16 (.d .bZ)))) (n2+1) (.row [.d (.i 0)])) n2 (.row Du)) (n2+1) (.row [.d (.i 0)])) (n2+5) (.row t.row)) (n2+1) (.row [.d (.i (gv s s' x).1)])) o' n':=by
   intro o' n' k1 k2 k3
   refine⟨k2,ae,fun id au=> ?_⟩
   rw[k1 id au]
   by_cases h:id=n2+1
   ·subst h;rw[af,af];rfl
   ·rw[ah _ _ _ _ h,ah _ _ _ _ h,hI.eq id au,ah _ _ _ _ h]
  refine cI ?_
  refine kX hL (pd:=none) ?_ ?_
  ·(repeat(first|rfl|rw[af]|rw[ah _ _ _ _ (by omega)]))
   exact ho
  cases c1:decide (40<s'.1+1)with
  |true=>
   have hJ:fJ (gv s s' x)=some .ret:=by simp[fJ,gv,nN,c1]
   rw[hJ]at cu
   refine Q7 q0 q2 q3 q4 c1 ?_
   exact zw6
  |false=>
  cases c2:decide (12<x.2)with
  |true=>
   have hJ:fJ (gv s s' x)=some .ret:=by simp[fJ,gv,nN,c2]
   rw[hJ]at cu
   refine HK q0 q2 q3 q4 c1 c2 ?_
   exact zw6
  |false=>
  cases c3:dE x.1.op 1 15 with
  |false=>
   have hJ:fJ (gv s s' x)=some .ret:=by simp[fJ,gv,nN,c3]
   rw[hJ]at cu
   refine HK q0 q2 q3 q4 c1 c2 ?_
   refine bg (fU _ _ _) rfl ?_
   simp+contextual (disch:=first|omega|simp only[go_sem,false_implies]) only[go_sem,wrap64,if_pos,q0,q2,q3,q4,c1,c2,c3]
   exact zw6
  |true=>
  obtain⟨r1,r2,r3,r4⟩:=Us s x.1 hs c3
  refine HK q0 q2 q3 q4 c1 c2 ?_
  refine bg (fU _ _ _) rfl ?_
  simp+contextual (disch:=first|omega|simp only[go_sem,false_implies]) only[go_sem,wrap64,if_pos,q0,q2,q3,q4,c1,c2,c3,r2,r3,r4,Nat.mul_one]
  refine bg r1 rfl ?_
  simp+contextual (disch:=first|omega|simp only[go_sem,false_implies]) only[go_sem,wrap64,if_pos,q0,q2,q3,q4,c1,c2,c3]
  refine aO (aQ rfl) ?_
  cases c4:bn s x.1 with
  |false=>
   have hJ:fJ (gv s s' x)=some .ret:=by simp[fJ,gv,nN,c4]
   rw[hJ]at cu
   simp+contextual (disch:=first|omega|simp only[go_sem,false_implies]) only[go_sem,wrap64,if_pos,q2,c4]
   refine cu _ _ _ .busy none ae (fin _ _ (fun id au=>Vf) ff ae) gY (fun id h3 h4=>by(repeat(first|rfl|rw[af]|rw[ah _ _ _ _ (by omega)])))
  |true=>
   have hJ:fJ (gv s s' x)=none:=by simp[fJ,gv,nN,c1,c2,c3,c4]
   rw[hJ]at cu
   simp+contextual (disch:=first|omega|simp only[go_sem,false_implies]) only[go_sem,wrap64,if_pos,c4]
   refine cu _ _ _ .busy none ae (fin _ _ (fun id au=>Vf) ff ae) gY (fun id h3 h4=>by(repeat(first|rfl|rw[af]|rw[ah _ _ _ _ (by omega)])))
 ·intro o' n' hI
  have q2:o' 2= .row [.d (.bool false)]:=by
   exact XT
  rw[show lM s t=(fJ (aq (w8 fJ (gv s)) (0,true) (pre t 1)).1).isNone from yX _ _ _ _ rfl]
  generalize (aq (w8 fJ (gv s)) (0,true) (pre t 1)).1=sf at*
  cases hj:fJ sf with
  |none=>
   simp only[oA]
   refine gX q2 ?_
   rfl
  |some j=>
   have:j= .ret:=by
    unfold fJ at hj;split at hj
    ·cases hj
    ·injection hj with hj;exact hj.symm
   subst this
   simp only[oA]
   refine gX q2 ?_
   rfl
section
def enc{κ:Type}(kf:κ->D)(m:List (κ×D)):List (D×D):=m.map fun p=>(kf p.1,p.2)
def fF{κ:Type}[BEq κ](k:κ):List (κ×D)->Nat->Option (Nat×D)
 |[],_=>none
 |p::m,i=>if(k==p.1)=true then some (i,p.2)else fF k m (i+1)
def vG{κ:Type}[BEq κ](k:κ)(x:D)(m:List (κ×D)):List (κ×D):=match fF k m 0 with|some (i,_)=>m.set i (k,x)|none=>m++[(k,x)]
def abh{κ:Type}[BEq κ](k:κ)(m:List (κ×D)):List (κ×D):=match fF k m 0 with|some (i,_)=>m.eraseIdx i|none=>m
def vH(d:D)(r:Option (Nat×D)):Option (Nat×D×D):=match r with|some (i,x)=>some (i,d,x)|none=>none
@[go_sem] theorem Wl (d:D) (i:Nat) (x:D):vH d (some (i,x))=some (i,d,x):=rfl
@[go_sem] theorem Wm (d:D):vH d none=none:=rfl
section
variable {P:Program}{kt:TypeId}
theorem Nh(h:bD P kt=some .int)(a b:Int):oR P 100 kt (.int .i64 a) (.int .i64 b)=some (a==b):=by simp[oR,h]
theorem Ni(h:bD P kt=some .str)(a b:List UInt8):oR P 100 kt (.str a) (.str b)=some (a==b):=by simp[oR,h]
@[go_sem] theorem E4 (h:bD P kt=some .int) (a:Int):nI P 100 kt (.int .i64 a)=true:=by simp[nI,h]
@[go_sem] theorem abI (h:bD P kt=some .str) (a:List UInt8):nI P 100 kt (.str a)=true:=by simp[nI,h]
theorem uK{κ:Type}[BEq κ][LawfulBEq κ](kf:κ->D)(he:∀a b,oR P 100 kt (kf a) (kf b)=some (a==b))(k:κ):∀ (m:List (κ×D)) (i:Nat),findD P kt (kf k) (enc kf m) i=some (vH (kf k) (fF k m i))
 |[],_=>rfl
 |p::m,i=>by
  have ih:=uK kf he k m (i+1)
  simp only[enc,List.map_cons,findD,he,fF]at ih|-
  by_cases h:k=p.1
  ·subst h;simp[vH]
  ·have:(k==p.1)=false:=by simpa using h
   simp only[this,Bool.false_eq_true,if_false];exact ih
@[go_sem] theorem BH (h:bD P kt=some .int) (k:Int) (m:List (Int×D)):findD P kt (.int .i64 k) (enc (.int .i64) m) 0=some (vH (.int .i64 k) (fF k m 0)):=uK (.int .i64) (Nh h) k m 0
@[go_sem] theorem abi (h:bD P kt=some .str) (k:List UInt8) (m:List (List UInt8×D)):findD P kt (.str k) (enc .str m) 0=some (vH (.str k) (fF k m 0)):=uK .str (Ni h) k m 0
end
section
variable {κ:Type}(kf:κ->D)
theorem Ki(m:List (κ×D))(k:κ)(x:D):enc kf m++[(kf k,x)]=enc kf (m++[(k,x)]):=by simp[enc]
theorem E5(m:List (κ×D))(i:Nat)(k:κ)(x:D):(enc kf m).set i (kf k,x)=enc kf (m.set i (k,x)):=by simp[enc,List.map_set]
theorem w9:∀ (m:List (κ×D)) (i:Nat),(enc kf m).eraseIdx i=enc kf (m.eraseIdx i)
 |[],i=>rfl
 |p::m,0=>rfl
 |p::m,i+1=>by
  have:=w9 m i
  simp only[enc,List.map_cons,List.eraseIdx_cons_succ]at this|-
  rw[this]
theorem Nj(m:List (κ×D)):(((enc kf m).map (·.1)).zip ((enc kf m).map (·.2)))=enc kf m:=by
 induction m with
 |nil=>rfl
 |cons p m ih=>simp only[enc,List.map_cons,List.zip_cons_cons]at ih|-;rw[ih]
theorem GV{K:V->List (Nat×ab)->Prop}{id:Nat}{m:List (κ×D)}(h0:m=[]->K (.bT [.d (.bool false)]) [])
 (h1:∀ (i:Nat) k x,m[i]? =some (k,x)->K (.bT [.d (.bool true), .d (kf k), .d x]) [(id, .oh (enc kf (m.eraseIdx i)) (some (kf k,x)))]):Ey K id (enc kf m):=by
 refine⟨fun h=>h0 ?_,fun i k x h=> ?_⟩
 ·cases m with
  |nil=>rfl
  |cons p m=>simp[enc]at h
 ·simp only[enc,List.getElem?_map]at h
  cases hm:m[i]? with
  |none=>rw[hm]at h;cases h
  |some p=>
   rw[hm]at h
   simp at h
   obtain⟨rfl,rfl⟩:=h
   have:=h1 i p.1 p.2 (by rw[hm])
   rwa [<- w9]at this
end
theorem BI{κ:Type}[BEq κ][LawfulBEq κ]{k:κ}:∀ {m:List (κ×D)} {i j:Nat} {x:D},fF k m i=some (j,x)->i<=j/\m[j - i]? =some (k,x)
 |[],_,_,_,h=>by cases h
 |p::m,i,j,x,h=>by
  simp only[fF]at h
  split at h
  ·rename_i hk
   injection h with h;injection h with h1 h2
   subst h1;subst h2
   exact⟨Nat.le_refl _,by simp[(by simpa using hk:k=p.1)]⟩
  ·obtain⟨h1,h2⟩:=BI h
   refine⟨ae, ?_⟩
   rw[show j - i=(j - (i+1))+1 by omega]
   simpa using h2
theorem xa{κ:Type}[BEq κ][LawfulBEq κ]{k:κ}:∀ {m:List (κ×D)} {i:Nat},fF k m i=none↔∀p∈m,p.1≠k
 |[],_=>by simp[fF]
 |p::m,i=>by
  simp only[fF]
  split
  ·rename_i hk
   simp[(by simpa using hk:k=p.1)]
  ·rename_i hk
   rw[xa]
   have:p.1≠k:=fun e=>hk (by simp[e])
   simp[this]
def pZ(P:Program)(o:Nat->ab)(t:TypeId)(m k v:V):Option fy:=
 match qD P t,dC o k,dC o v,nT o m with
 |some (kt,_),some kd,some vd,some (some (id,D7,D8),l)=>if k.ids=[]/\nI P 100 kt kd=true/\kq kd=true/\v.ids.all (· !=id)=true then match findD P kt kd l 0 with
  |some (some (i,k',_))=>if k'.same kd=true then some (.bT [],cc o v.ids++[(id, .map D7 D8 (l.set i (kd,vd)))],id::v.ids)else none
  |some none=>some (.bT [],cc o v.ids++[(id, .map D7 D8 (l++[(kd,vd)]))],id::v.ids)
  |none=>none
  else none
 |_,_,_,_=>none
@[go_sem low] theorem xb (P:Program) (o:Nat->ab) (t:TypeId) (m v:V) (k:D):fm P o t m (.d k) v=pZ P o t m (.d k) v:=by unfold fm pZ;rfl
def uL(P:Program)(o:Nat->ab)(t:TypeId)(m k:V)(ok:Bool):Option fy:=
 match qD P t,dC o k,pf o m with
 |some (kt,vt),some kd,some (rd,l)=>if k.ids=[]/\nI P 100 kt kd=true then match findD P kt kd l 0 with
  |some (some (_,_,x))=>some (if ok=true then .bT [.d x, .d (.bool true)]else .d x,[],rd)
  |some none=>match zeroV P vt with
   |some z=>some (if ok=true then .bT [z, .d (.bool false)]else z,[],rd)
   |none=>none
  |none=>none
  else none
 |_,_,_=>none
@[go_sem low] theorem nw (P:Program) (o:Nat->ab) (t:TypeId) (m:V) (k:D) (ok:Bool):gZ P o t m (.d k) ok=uL P o t m (.d k) ok:=by unfold gZ uL;rfl
attribute [go_sem] uL pZ nk me mf nU nV mh pf nT abY nS kq D.same
end
theorem dec_lt{l:List UInt8}{i:Nat}{b:UInt8}(hb:l[i]? =some b)(h:b.toNat<128):Utf8.decode ⟨⟨l⟩⟩ i=(b.toNat,1):=by
 have e:(ByteArray.mk ⟨l⟩).get! i=b:=by
  show(Array.mk l)[i]! =b
  simp[hb]
 simp only[Utf8.decode,Nat.add_zero,e]
 rw[if_pos h]
theorem Ut{l:List UInt8}{i:Nat}{b:UInt8}(hb:l[i]? =some b)(h:128<=b.toNat):128<=(Utf8.decode ⟨⟨l⟩⟩ i).1:=by
 have e:(ByteArray.mk ⟨l⟩).get! i=b:=by
  show(Array.mk l)[i]! =b
  simp[hb]
 simp only[Utf8.decode,Nat.add_zero,e]
 rw[if_neg (by omega)]
 split
 ·split<;>simp_all[Utf8.runeError]
 ·split
  ·split
   ·rename_i h3;simp at h3;omega
   ·simp[Utf8.runeError]
  ·split
   ·split
    ·rename_i h3;simp at h3;omega
    ·simp[Utf8.runeError]
   ·simp[Utf8.runeError]
def Nk(r:Int):Bool:=decide (97<=r)&&decide (r<=122)||decide (65<=r)&&decide (r<=90)
theorem Kj(b:UInt8):Nk b.toNat=letterF b:=by
 rw[Bool.eq_iff_iff]
 simp[Nk,letterF]
theorem GW(s:List UInt8)(hs:s.length<=9223372036854775807):aV Tryz.prog 126 [.str s] (.ret [.bool (jz s)]):=by
 refine aV.aF mix P6 aJ ?_
 rw[TG]
 refine od ?_
 refine aB (fun k:Nat=>⟨a7 [.d (.str s), .aa, .aa, .aa, .aa, .aa, .ptr 2 0],aD (fun _=> .no) 2 (.xG s k),3⟩)
  (fun k=>k<=s.length/\(s.take k).all letterF=true) (fun k=>s.length - k) 0 ⟨Nat.zero_le _,aJ⟩ (br.aR _ ae ae (Good.nil.aD ae rfl) (fun _ _=>rfl) ?_) (fun k hk=> ?_)
 ·exact ct
 by_cases h2:k<s.length
 ·obtain⟨b,hb⟩:=aL h2
  by_cases h3:b.toNat<128
  ·simp+contextual (disch:=first|omega|simp only[go_sem,false_implies]) only[go_sem,wrap64,if_pos,Nat.add_assoc,Nat.left_eq_add,Nat.add_eq_left,Nat.add_left_cancel_iff,h2,dec_lt hb h3]
   have hr:=Kj b
   simp only[Nk]at hr
   rw[hr]
   cases hl:letterF b with
   |true=>
    refine aY ?_
    refine aj (k+1) ⟨h2,fg hb hk.2 hl⟩ ae (br.aR _ ae ae (Good.nil.aD ae rfl) (fun _ _=>by rw[et]) ?_)
    exact ct
   |false=>
    refine aY ?_
    simp[jz,cq hb hl]
  ·have hr:letterF b=false:=by
    rw[<- Kj];simp[Nk];omega
   have hd:=Ut hb ae
   refine LL h2 ?_
   have:(decide (97<=((Utf8.decode ⟨⟨s⟩⟩ k).1:Int))&&decide (((Utf8.decode ⟨⟨s⟩⟩ k).1:Int)<=122)||decide (65<=((Utf8.decode ⟨⟨s⟩⟩ k).1:Int))&&decide (((Utf8.decode ⟨⟨s⟩⟩ k).1:Int)<=90))=false:=by
    rw[Bool.eq_false_iff];intro h;simp at h;omega
   rw[this]
   refine aY ?_
   simp[jz,cq hb hr]
 ·refine LL h2 ?_
  refine ay (fU _ _ _) rfl ?_
  refine aY ?_
  rw[jz,eG hk.2 (by omega),Bool.true_and]
theorem BJ{σ:Type}(l:List iT)(hl:l.length<=9223372036854775807)(g:Nat)(aP:List V)(base:Nat)(H:σ->Nat->ab)(step:σ->iT->σ×Bool)(hc:∀r∈V.aE aP,r<base)(ok:σ->Prop)(aS:∀x∈l,∀s,ok s->(step s x).2=true->ok (step s x).1)
 (h:∀x∈l,∀s,ok s->iN Tryz.prog g (.d x.d::aP) base (H s) (H (step s x).1) (.d (.bool (step s x).2))) (s:σ) (iq:ok s):
 iN Tryz.prog 128 [.d (.sl (l.map iT.d)), .func (.func g) [] aP] base (H s) (H (aq step s l).1) (.d (.bool (aq step s l).2)):=by
 intro o nx hI K X hK
 have il:∀r∈V.aE aP,r<nx:=fun r hr=>Nat.lt_of_lt_of_le (hc r hr) hI.le
 refine cX.aF mix P8 aJ ?_
 rw[TI]
 refine cI ?_
 refine aB (fun i:Nat×σ×(Nat->ab)×Nat=>⟨a7 [.aa, .func (.func g) [] aP, .aa, .aa, .aa, .aa, .aa, .d (.sl (l.map iT.d)), .d (.i l.length), .d (.i i.1)],i.2.2.1,i.2.2.2⟩)
  (fun i=>i.1<=l.length/\cG base (H i.2.1) i.2.2.1 i.2.2.2/\nx<=i.2.2.2/\(∀id,base<=id->id<nx->i.2.2.1 id=o id)/\aq step s l=aq step i.2.1 (l.drop i.1)/\ok i.2.1) (fun i=>l.length - i.1) (0,s,o,nx)
  ⟨Nat.zero_le _,hI,Nat.le_refl _,fun _ _ _=>rfl,rfl,iq⟩ ?_ ?_
 ·exact Xp
 rintro⟨k,s',o',nx'⟩ ⟨hk,sH,hn,cL,hf,hY⟩
 simp only at hk sH hn cL hf hY
 refine cI ?_
 refine ai (fun h1=> ?_) (fun h1=> ?_)
 ·simp at h1
  obtain⟨x,hx⟩:=aL h1
  have iK:=List.mem_of_getElem? hx
  have hd:l.drop k=x::l.drop (k+1):=by
   exact Vj
  refine HL hx ?_
  have hl0:=sH.le
  refine dD (h x iK s' hY _ _ (?_:cG base (H s') _ (nx'+7)) _ _ fun o2 n2 m1 m2 m3=> ?_)
  ·exact WS
  have Kc:∀id,base<=id->id<nx->o2 id=o id:=fun id h2 h3=>by
   exact W6
  refine cI ?_
  refine ai (fun h2=> ?_) (fun h2=> ?_)
  ·refine cI ?_
   simp at h2
   have:aq step s l=((step s' x).1,false):=by rw[hf,hd,aq,if_neg (by rw[h2];exact Bool.false_ne_true)]
   rw[this]at hK
   exact hK _ _ ae (m2.mono ae) Kc
  ·refine cI ?_
   simp at h2
   have:aq step s l=aq step (step s' x).1 (l.drop (k+1)):=by rw[hf,hd,aq,if_pos h2]
   refine aj (k+1,(step s' x).1,o2,n2) ⟨h1,m2,by dsimp only;omega,Kc,this,aS x iK s' hY h2⟩ jO ?_
   dsimp only
   have E3:∀r∈V.aE aP,r<n2:=fun r hr=>by have:=il r hr;omega
   refine br.aR _ ae ae m2.bz (fun _ _=>rfl) ?_
   exact ct
 ·exact XO
def oI(l:List (List UInt8)):List (List UInt8×D):=l.map fun s=>(s, .bool true)
theorem GX(l:List (List UInt8))(s:List UInt8):oI l++[(s, .bool true)]=oI (l++[s]):=by simp[oI]
theorem GY{l:List (List UInt8)}{s:List UInt8}{i:Nat}{x:D}(h:fF s (oI l) 0=some (i,x)):x= .bool true/\(oI l).set i (s, .bool true)=oI l/\l.any (· ==s)=true:=by
 obtain⟨_,h2⟩:=BI h
 rw[Nat.sub_zero]at h2
 simp only[oI,List.getElem?_map]at h2
 cases hl:l[i]? with
 |none=>rw[hl]at h2;cases h2
 |some y=>
  rw[hl]at h2
  simp at h2
  obtain⟨rfl,rfl⟩:=h2
  refine⟨rfl, ?_, ?_⟩
  ·apply List.ext_getElem?
   intro j
   rw[List.getElem?_set]
   split
   ·rename_i e;subst e
    obtain⟨cm,hy⟩:=List.getElem?_eq_some_iff.1 hl
    simp[oI,cm,hy]
   ·rfl
  ·exact List.any_eq_true.2 ⟨y,List.mem_of_getElem? hl,aJ⟩
theorem GZ{l:List (List UInt8)}{s:List UInt8}(h:fF s (oI l) 0=none):l.any (· ==s)=false:=by
 rw[xa]at h
 rw[List.any_eq_false]
 intro x hx hs
 have:=h (x, .bool true) (by simp[oI];exact hx)
 simp at hs;exact this hs
def Nl(bs:List (List UInt8))(x:iT):Bool:= !bs.any (· ==x.name)&&jz x.name&&dE x.args 0 4
def gW(bs:List (List UInt8))(x:iT):List (List UInt8)×Bool:=(if bs.any (· ==x.name)=true then bs else bs++[x.name],Nl bs x)
theorem Uu(x:iT)(hx:x.name.length<=9223372036854775807)(base mp id:Nat)(h:Nat->ab)(hmp:h mp= .row [.mp id])(h1:mp<base)(h2:id<base)(h3:id≠mp)(bs:List (List UInt8)):
 iN Tryz.prog 125 [.d x.d, .ptr mp 0] base (aD h id (.map 9 4 (enc .str (oI bs)))) (aD h id (.map 9 4 (enc .str (oI (gW bs x).1)))) (.d (.bool (gW bs x).2)):=by
 intro o nx hI K X hK
 have hle:=hI.le
 have hg:=hI.bz
 have q0:o mp= .row [.mp id]:=by rw[hI.eq mp h1,ah _ _ _ _ (by omega),hmp]
 have q1:o id= .map 9 4 (enc .str (oI bs)):=by rw[hI.eq id h2,af]
 refine cX.aF mix PZ aJ ?_
 rw[TF]
 cases ha:fF x.name (oI bs) 0 with
 |none=>
  have hn:=GZ ha
  have hs:gW bs x=(bs++[x.name],jz x.name&&dE x.args 0 4):=by simp[gW,Nl,hn]
  rw[hs]at hK
  refine xy q0 q1 ha ?_
  refine ay (GW _ hx) rfl ?_
  refine aY ?_
  refine fC (eE [.bool (dE x.args 0 4)] ?_ ?_)
  ·refine aY ?_
   exact fun _=>fU _ _ _
  refine aY ?_
  rw[Ki,GX]
  refine hK _ _ ae ⟨ff,ae,fun j hj=> ?_⟩ (fun j g1 g2=>by(repeat(first|rfl|rw[af]|rw[ah _ _ _ _ (by omega)])))
  ·by_cases e:j=id
   ·exact zP
   ·exact W5
 |some p=>
  obtain⟨i,y⟩:=p
  obtain⟨rfl,e1,hn⟩:=GY ha
  have hs:gW bs x=(bs,false):=by simp[gW,Nl,hn]
  rw[hs]at hK
  refine xy q0 q1 ha ?_
  rw[E5,e1]
  refine hK _ _ ae ⟨ff,ae,fun j hj=> ?_⟩ (fun j g1 g2=>by(repeat(first|rfl|rw[af]|rw[ah _ _ _ _ (by omega)])))
  ·by_cases e:j=id
   ·exact zP
   ·exact W5
theorem oJ:∀ (l:List iT) (bs:List (List UInt8)),match bN l bs with|some B=>aq gW bs l=(B,true)|none=>(aq gW bs l).2=false
 |[],bs=>rfl
 |x::l,bs=>by
  have ih:=oJ l (bs++[x.name])
  simp only[bN,aq,gW,Nl]
  by_cases h1:bs.any (· ==x.name)=true
  ·simp[h1]
  ·simp only[Bool.not_eq_true]at h1
   simp only[h1,Bool.false_eq_true,if_false,Bool.not_false,Bool.true_and]
   by_cases h2:(jz x.name&&dE x.args 0 4)=true
   ·have h3: ¬ ((!jz x.name|| !dE x.args 0 4)=true):=by simp at h2;simp[h2]
    rw[if_neg h3,if_pos h2]
    exact ih
   ·have h3:(!jz x.name|| !dE x.args 0 4)=true:=by
     cases hn:jz x.name<;>simp_all
    rw[if_pos h3,if_neg h2]
end Go.Proofs.YtnkamdiiakdkgaaGreat
