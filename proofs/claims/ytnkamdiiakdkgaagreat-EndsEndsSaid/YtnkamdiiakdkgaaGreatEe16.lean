/-
  A PART. Conditions: none.
-/
import Derived.Test.YtnkamdiiakdkgaaGreatEe15
set_option linter.unusedSimpArgs false
set_option linter.unusedVariables false
set_option maxHeartbeats 8000000
namespace Go.Proofs.YtnkamdiiakdkgaaGreat
@[reducible] def mD (m:List Int):D:= .agg (m.map D.i)
def vz(l:List cu):List Int×Bool:=match lD l (-1) Aq with
 |some m=>(m,true)
 |none=>(Aq,false)
theorem EO{α:Type}{l:List α}{k:Nat}(h:k<l.length):∃x,l[k]? =some x:=⟨l[k],by simp[h]⟩
theorem cE:∀l:List D,qy (l.map V.d)=some l
 |[]=>rfl
 |x::l=>by simp[qy,cE l]
theorem o7(m:List Int)(h:m.length=16):List.take 16 ((m.map D.i).map V.d)=(m.map D.i).map V.d:=List.take_of_length_le (by simp[h])
theorem dX(m:List Int)(h:m.length=16):((m.map D.i).map V.d).length=16:=by simp[h]
theorem Cm(m:List Int)(k:Nat)(v:Int)(h:k<m.length):List.take k ((m.map D.i).map V.d)++[V.d (D.i v)]++List.drop (k+1) ((m.map D.i).map V.d)=((m.set k v).map D.i).map V.d:=by
 rw[List.set_eq_take_append_cons_drop,if_pos h]
 simp[List.map_take,List.map_drop]
theorem b7(l:List D):(D.agg l).cells=l:=rfl
@[reducible] def mR (m:List Int):aa:= .row ((m.map D.i).map V.d)
theorem j6:∀l:List D,V.aM (l.map V.d)=[]
 |[]=>rfl
 |x::l=>by simp[V.aM,V.refs,j6 l]
theorem su(m:List Int)(n:Nat):(mR m).refs.all (fun r=>decide (r<n))=true:=by
 show(V.aM ((m.map D.i).map V.d)).all _=true
 rw[j6];rfl
theorem SU{l l':List cu}{last:Int}{m:List Int}{a:cu}(h:lD l (-1) Aq=lD (a::l') last m)(hb:a.f<0\/4<=a.f\/a.t<0\/4<=a.t\/a.f*4+a.t<=last):vz l=(Aq,false):=by
 unfold vz
 rw[h,lD,if_pos hb]
theorem SV(l:List cu)(hl:l.length<=1000000):aW Tryz.prog 48 [.sl (l.map cu.d)] (.ret [mD (vz l).1, .bool (vz l).2]):=by
 refine aW.aI mix aeV aJ ?_
 rw[c48]
 refine ba ?_
 refine aw (fun i:Nat×Int×List Int=>⟨aT [.ag, .ag, .ptr 0 0, .ag, .ptr 2 0, .d (.i i.2.1), .ag, .ag, .d (.sl (l.map cu.d)), .d (.i l.length), .d (.i i.1)],au (au (fun _=> .no) 0 (.row [.d (.i 0), .d (.i 0), .d (.i 0), .d (.i 0), .d (.i 0), .d (.i 0), .d (.i 0), .d (.i 0), .d (.i 0), .d (.i 0), .d (.i 0), .d (.i 0), .d (.i 0), .d (.i 0), .d (.i 0), .d (.i 0)])) 2 (mR i.2.2),3⟩)
  (fun i=>i.1<=l.length/\i.2.2.length=16/\ -1<=i.2.1/\i.2.1<=15/\lD l (-1) Aq=lD (l.drop i.1) i.2.1 i.2.2) (fun i=>l.length - i.1) (0, -1,Aq) ⟨Nat.zero_le _,rfl,by dsimp only;omega,by dsimp only;omega,rfl⟩ (aZ.aV _ ae ae ?_ (fun j hj=> ?_) ?_) ?_
 ·exact eW
 ·rfl
 ·exact bZ
 rintro⟨k,last,m⟩ ⟨hk,hm,wS,XR,ht⟩
 simp only at hk hm wS XR ht
 refine ba ?_
 refine aj (fun h2=> ?_) (fun h2=> ?_)
 ·simp at h2
  obtain⟨a,ha⟩:=EO h2
  have hda:l.drop k=a::l.drop (k+1):=by
   obtain⟨g1,g2⟩:=List.getElem?_eq_some_iff.1 ha
   exact Np
  rw[hda]at ht
  have eM:=SU ht
  by_cases b1:a.f<0
  ·rw[eM (by omega)]
   have b1':decide (a.f<0)=true:=by simpa using b1
   refine cz (ak ha b1') ?_
   rfl
  have b1':decide (a.f<0)=false:=by simpa using b1
  by_cases b2:4<=a.f
  ·rw[eM (by omega)]
   have b2':decide (4<=a.f)=true:=by simpa using b2
   refine cz (ak ha (ak b1' b2')) ?_
   rfl
  have b2':decide (4<=a.f)=false:=by simpa using b2
  by_cases b3:a.t<0
  ·rw[eM (by omega)]
   have b3':decide (a.t<0)=true:=by simpa using b3
   refine cz (ak ha (ak b1' (ak b2' b3'))) ?_
   rfl
  have b3':decide (a.t<0)=false:=by simpa using b3
  by_cases b4:4<=a.t
  ·rw[eM (by omega)]
   have b4':decide (4<=a.t)=true:=by simpa using b4
   refine cz (ak ha (ak b1' (ak b2' (ak b3' b4')))) ?_
   rfl
  have b4':decide (4<=a.t)=false:=by simpa using b4
  by_cases b5:a.f*4+a.t<=last
  ·rw[eM (by omega)]
   have b5':decide (a.f*4+a.t<=last)=true:=by simpa using b5
   refine cz (ak ha (ak b1' (ak b2' (ak b3' (ak b4' b5'))))) ?_
   rfl
  have b5':decide (a.f*4+a.t<=last)=false:=by simpa using b5
  rw[lD,if_neg (by omega)]at ht
  have hK:a.f.toNat*4+a.t.toNat*1=a.k:=by unfold cu.k;omega
  have ajx:a.k<16:=by unfold cu.k;omega
  have g1:=Cm m a.k 1 ae
  have g2:=Cm (m.set a.k 1) a.k 2 (by rw[List.length_set];omega)
  rw[List.set_set]at g2
  refine cz (ak ha (ak b1' (ak b2' (ak b3' (ak b4' b5'))))) ?_
  refine aB bG ?_
  cases hl:a.l with
  |true=>
   have hv:a.v=2:=by unfold cu.v;rw[hl];rfl
   rw[hv]at ht
   have le1:a.k+1<=(m.set a.k 1).length:=by rw[List.length_set];omega
   simp+contextual (disch:=first|omega|simp only[go_sem,false_implies]) only[go_sem,wrap64,if_pos,hK,g1,hl,if_pos le1]
   refine aB bG ?_
   refine cz (ak hK g2) ?_
   refine ai (k+1,a.f*4+a.t,m.set a.k 2) ⟨h2,by rw[List.length_set];exact hm,by dsimp only;omega,by dsimp only;omega,ht⟩ jr (aZ.aV _ (show 0<=3 from ae) ae ((Good.nil.au ae rfl).au ae (su _ _)) (fun j hj=> ?_) ?_)
   ·by_cases e:j=2
    ·exact Da
    ·rw[ab _ 2 _ _ e,ab _ 2 _ _ e,ab _ _ _ _ (by omega),ab _ _ _ _ (by omega),ab _ 2 _ _ e,ab _ 2 _ _ e]
   ·exact bZ
  |false=>
   have hv:a.v=1:=by unfold cu.v;rw[hl];rfl
   rw[hv]at ht
   refine cz (ak hK (ak g1 hl)) ?_
   refine ai (k+1,a.f*4+a.t,m.set a.k 1) ⟨h2,by rw[List.length_set];exact hm,by dsimp only;omega,by dsimp only;omega,ht⟩ jr (aZ.aV _ (show 0<=3 from ae) ae ((Good.nil.au ae rfl).au ae (su _ _)) (fun j hj=> ?_) ?_)
   ·by_cases e:j=2
    ·exact Da
    ·rw[ab _ 2 _ _ e,ab _ 2 _ _ e,ab _ _ _ _ (by omega),ab _ _ _ _ (by omega),ab _ 2 _ _ e]
   ·exact bZ
 ·simp at h2
  rw[List.drop_eq_nil_of_le h2,lD]at ht
  have e:vz l=(m,true):=by unfold vz;rw[ht]
  rw[e]
  exact s9 (ak (o7 m hm) (ak (dX m hm) (ak @cE @b7)))
theorem Pu(cs:List D)(k:Nat):cT Tryz.prog 3 cs k=cs[k]? :=by
 have h:cL Tryz.prog 3=some false:=aK
 unfold cT;rw[h]
def rowOf(m:List Int)(i:Nat):List Int:=(m.drop (i*4)).take 4
theorem xQ(m:List Int)(i:Nat):List.take 4 (List.drop (i*4) ((m.map D.i).map V.d))=((rowOf m i).map D.i).map V.d:=by simp[rowOf,List.map_take,List.map_drop]
theorem tU{m:List Int}(hm:m.length=16){i k:Nat}(hi:i<4)(hk:k<4):((rowOf m i).map D.i)[k]? =some (D.i (m.getD (i*4+k) 0)):=by
 unfold rowOf
 rw[List.getElem?_map,List.getElem?_take_of_lt hk,List.getElem?_drop,List.getD_eq_getElem?_getD]
 have:i*4+k<m.length:=ae
 rw[List.getElem?_eq_getElem this];rfl
theorem SW(a b c:Int):(if c>(if b>a then b else a)then c else(if b>a then b else a))=max (max a b) c:=by
 simp only[Int.max_def];repeat' split
 all_goals omega
def EP(m n:List Int)(i k j:Nat):Nat->aa:=au (au (au (au (fun _=> .no) 0 (mR m)) 1 (mR n)) 2 (.row [.d (.i 0), .d (.i 0), .d (.i 0), .d (.i 0), .d (.i 0), .d (.i 0), .d (.i 0), .d (.i 0), .d (.i 0), .d (.i 0), .d (.i 0), .d (.i 0), .d (.i 0), .d (.i 0), .d (.i 0), .d (.i 0)])) 3 (mR (lE m n i k j))
theorem lg(m n:List Int)(i k j:Nat):Good (EP m n i k j) 4:=(((Good.nil.au ae (su _ _)).au ae (su _ _)).au ae rfl).au ae (su _ _)
theorem thH_0(m n:List Int)(i k j:Nat):EP m n i k j 0=mR m:=by unfold EP;rw[ab _ _ _ _ (by omega),ab _ _ _ _ (by omega),ab _ _ _ _ (by omega),af]
theorem thH_1(m n:List Int)(i k j:Nat):EP m n i k j 1=mR n:=by unfold EP;rw[ab _ _ _ _ (by omega),ab _ _ _ _ (by omega),af]
theorem thH_3(m n:List Int)(i k j:Nat):EP m n i k j 3=mR (lE m n i k j):=by unfold EP;rw[af]
theorem thH_2(m n:List Int)(i k j:Nat):EP m n i k j 2= .row [.d (.i 0), .d (.i 0), .d (.i 0), .d (.i 0), .d (.i 0), .d (.i 0), .d (.i 0), .d (.i 0), .d (.i 0), .d (.i 0), .d (.i 0), .d (.i 0), .d (.i 0), .d (.i 0), .d (.i 0), .d (.i 0)]:=by unfold EP;rw[ab _ _ _ _ (by omega),af]
theorem Hv(m n:List Int)(hm:m.length=16)(hn:n.length=16):aW Tryz.prog 49 [mD m,mD n] (.ret [mD (dn m n)]):=by
 refine aW.aI mix aeW aJ ?_
 rw[c49]
 refine ba ?_
 refine aw (fun i:Nat=>⟨aT [.ag, .ag, .ptr 0 0, .ptr 1 0, .ptr 2 0, .ptr 3 0, .ag, .ag, .ag, .ag, .ag, .d (.i i)],EP m n i 0 0,4⟩)
  (fun i=>i<=4) (fun i=>4 - i) 0 (Nat.zero_le _) (aZ.aV _ (show 0<=4 from ae) ae (lg _ _ _ _ _) (fun j hj=> ?_) ?_) (fun i hi=> ?_)
 ·unfold EP;rw[outS_0];rfl
 ·exact bZ
 replace hi:i<=4:=hi
 refine ba ?_
 refine aj (fun h1=> ?_) (fun h1=> ?_)
 ·replace h1:i<4:=by simp at h1;omega
  have li:i*4+4<=((m.map D.i).map V.d).length:=by rw[dX m hm];omega
  simp+contextual (disch:=first|omega|simp only[go_sem,false_implies]) only[go_sem,wrap64,if_pos,thH_0,Int.toNat_natCast,xQ,cE,if_pos li]
  refine aw (fun k:Nat=>⟨aT [.ag, .ag, .ptr 0 0, .ptr 1 0, .ptr 2 0, .ptr 3 0, .d (.i i), .ag, .ag, .ag, .ag, .d (.i i), .ag, .ag, .ag, .ag, .d (.agg ((rowOf m i).map D.i)), .d (.i k)],EP m n i k 0,4⟩)
   (fun k=>k<=4) (fun k=>4 - k) 0 (Nat.zero_le _) (aZ.aV _ (show 0<=4 from ae) ae (lg _ _ _ _ _) (fun j hj=>rfl) ?_) (fun k hk=> ?_)
  ·exact bZ
  replace hk:k<=4:=hk
  refine ba ?_
  refine aj (fun h2=> ?_) (fun h2=> ?_)
  ·replace h2:k<4:=by simp at h2;omega
   have lk:k*4+4<=((n.map D.i).map V.d).length:=by rw[dX n hn];omega
   have hx:=tU hm h1 h2
   simp+contextual (disch:=first|omega|simp only[go_sem,false_implies]) only[go_sem,wrap64,if_pos,thH_1,Int.toNat_natCast,Nat.mul_one,xQ,cE,if_pos lk,Pu,hx,Option.map_some]
   refine aw (fun j:Nat=>⟨aT [.ag, .ag, .ptr 0 0, .ptr 1 0, .ptr 2 0, .ptr 3 0, .d (.i i), .d (.i k), .d (.i (m.getD (i*4+k) 0)), .ag, .ag, .d (.i i), .ag, .ag, .ag, .ag, .d (.agg ((rowOf m i).map D.i)), .d (.i k), .ag, .ag, .ag, .ag, .ag, .d (.agg ((rowOf n k).map D.i)), .d (.i j)],EP m n i k j,4⟩)
    (fun j=>j<=4) (fun j=>4 - j) 0 (Nat.zero_le _) (aZ.aV _ (show 0<=4 from ae) ae (lg _ _ _ _ _) (fun j hj=>rfl) ?_) (fun j hj=> ?_)
   ·exact bZ
   replace hj:j<=4:=hj
   refine ba ?_
   refine aj (fun h3=> ?_) (fun h3=> ?_)
   ·replace h3:j<4:=by simp at h3;omega
    have hy:=tU hn h2 h3
    have ho:((lE m n i k j).map D.i |>.map V.d)[i*4+j]? =some (V.d (D.i (dy m n i j k))):=by
     rw[List.getElem?_map,List.getElem?_map,Jl m n i k j h1 h3];rfl
    have fj:=Lx m n i k j h1 h3
    have Bp:=gE m n i k j
    have le1:i*4+j+1<=((lE m n i k j).map D.i |>.map V.d).length:=by rw[dX _ Bp];omega
    have hse:=Cm (lE m n i k j) (i*4+j) (vx m n i j (dy m n i j k) k) (by rw[Bp];omega)
    rw[<- fj]at hse
    refine aci (ak hy @Pu) ?_
    by_cases hc:m.getD (i*4+k) 0≠0/\n.getD (k*4+j) 0≠0
    ·have uw:(m.getD (i*4+k) 0!=0&&n.getD (k*4+j) 0!=0)=true:=by simp[bne_iff_ne];exact hc
     have yN:vx m n i j (dy m n i j k) k=max (max (dy m n i j k) (m.getD (i*4+k) 0)) (n.getD (k*4+j) 0):=by unfold vx;rw[if_pos hc]
     rw[yN]at hse
     simp+contextual (disch:=first|omega|simp only[go_sem,false_implies]) only[go_sem,wrap64,if_pos,uw,thH_3,Int.toNat_natCast,Nat.mul_one,ho,IG,SW,hse,if_pos le1]
     refine aB bG ?_
     refine ba ?_
     refine ai (j+1) h3 ae (aZ.aV _ (show 0<=4 from ae) ae (lg _ _ _ _ _) (fun q hq=> ?_) ?_)
     ·unfold EP;rw[dW]
     ·exact bZ
    ·have uw:(m.getD (i*4+k) 0!=0&&n.getD (k*4+j) 0!=0)=false:=by
      rw[Bool.eq_false_iff];intro h;apply hc
      rw[Bool.and_eq_true,bne_iff_ne,bne_iff_ne]at h;exact h
     have yN:vx m n i j (dy m n i j k) k=dy m n i j k:=by unfold vx;rw[if_neg hc]
     have DN:lE m n i k (j+1)=lE m n i k j:=by
      rw[fj,yN]
      refine jA (by rw[List.length_set];exact Bp) Bp fun p hp=> ?_
      rw[List.getElem?_set]
      split
      ·rename_i e;subst e;rw[if_pos (by rw[Bp];omega),Jl m n i k j h1 h3]
      ·rfl
     refine cz uw ?_
     refine ai (j+1) h3 ae (aZ.aV _ (show 0<=4 from ae) ae (lg _ _ _ _ _) (fun q hq=> ?_) ?_)
     ·unfold EP;rw[DN]
     ·exact bZ
   ·have qF:j=4:=by simp at h3;omega
    subst qF
    refine ba ?_
    refine ai (k+1) h2 ae (aZ.aV _ (show 0<=4 from ae) ae (lg _ _ _ _ _) (fun q hq=> ?_) ?_)
    ·unfold EP;rw[Zc]
    ·exact bZ
  ·have tF:k=4:=by simp at h2;omega
   subst tF
   refine ba ?_
   refine ai (i+1) h1 ae (aZ.aV _ (show 0<=4 from ae) ae (lg _ _ _ _ _) (fun q hq=> ?_) ?_)
   ·unfold EP;rw[Zd]
   ·exact bZ
 ·have nS:i=4:=by simp at h1;omega
  subst nS
  have l16:=dX _ (gE m n 4 0 0)
  have t16:=o7 _ (gE m n 4 0 0)
  refine cz (ak t16 (ak l16 (ak @thH_3 (ak @thH_2 (ak @cE @b7))))) ?_
  rw[Ze]
theorem sv{c:Nat}{G:List Gr}{so:Nat->aa}{gone:Nat->Prop}{x x' y y':aa}(h:x=y)(h':x'=y')(hs:vy c G so gone y y'):vy c G so gone x x':=by rw[h,h'];exact hs
def QY(m:List Int)(c:Nat)(l:List cu):Nat->aa:=au (au (fun _=> .no) 0 (mR m)) c (.arr 0 64 3 (l.map cu.d))
theorem sw(m:List Int)(l:List cu):Good (QY m 4 l) 5:=(Good.nil.au ae (su _ _)).au ae rfl
theorem lsH_0(m:List Int)(l:List cu):QY m 4 l 0=mR m:=by unfold QY;rw[ab _ _ _ _ (by omega),af]
theorem lsH_4(m:List Int)(l:List cu):QY m 4 l 4= .arr 0 64 3 (l.map cu.d):=by unfold QY;rw[af]
theorem aaC(m:List Int)(hm:m.length=16):aW Tryz.prog 67 [mD m] (.ret [.sl ((cn m 16).map cu.d)]):=by
 refine aW.aI mix ae0 aJ ?_
 rw[c67]
 refine ba ?_
 have hg:Good (au (fun _=> .no) 0 (mR m)) 4:=Good.nil.au ae (su _ _)
 refine aw (fun i:Nat=>⟨aT [.ag, .ptr 0 0, .ag, .osl 4 0, .ag, .ag, .ag, .d (.i i)],QY m 4 (cn m (i*4)),5⟩)
  (fun i=>i<=4) (fun i=>4 - i) 0 (Nat.zero_le _) (aZ.iu (ty:=64) (sz:=3) (es:=[]) (fun _=>False) .aU 4 _ ae (fun j hj=> ?_) (by unfold QY;rw[af];rfl) (.inl ⟨rfl,rfl,bG⟩) (fun j hj=> ?_) (fun _ h=>h.elim) ?_) (fun i hi=> ?_)
 ·exact sv (y:=au (fun _=> .no) 0 (mR m) j) rfl (by unfold QY;rw[ab _ _ _ _ (by omega)]) (bn rfl (fun r hr=>hg.refs j r hr))
 ·exact Rx
 ·exact lI
 replace hi:i<=4:=hi
 refine ba ?_
 refine aj (fun h1=> ?_) (fun h1=> ?_)
 ·replace h1:i<4:=by simp at h1;omega
  have li:i*4+4<=((m.map D.i).map V.d).length:=by rw[dX m hm];omega
  simp+contextual (disch:=first|omega|simp only[go_sem,false_implies]) only[go_sem,wrap64,if_pos,lsH_0,Int.toNat_natCast,xQ,cE,if_pos li]
  refine aw (fun j:Nat=>⟨aT [.ag, .ptr 0 0, .ag, .osl 4 0, .d (.i i), .ag, .ag, .d (.i i), .ag, .ag, .ag, .ag, .d (.agg ((rowOf m i).map D.i)), .d (.i j)],QY m 4 (cn m (i*4+j)),5⟩)
   (fun j=>j<=4) (fun j=>4 - j) 0 (Nat.zero_le _) (aZ.aV _ (show 0<=5 from ae) ae (sw _ _) (fun j hj=>rfl) ?_) (fun j hj=> ?_)
  ·exact bZ
  replace hj:j<=4:=hj
  refine ba ?_
  refine aj (fun h2=> ?_) (fun h2=> ?_)
  ·replace h2:j<4:=by simp at h2;omega
   have hx:=tU hm h1 h2
   have Pv:=OL m (i*4+j)
   have e1:(i*4+j)/4=i:=ae
   have e2:(i*4+j)%4=j:=ae
   rw[e1,e2]at Pv
   refine aci (ak hx @Pu) ?_
   have hlen:=eK m (i*4+j)
   refine aj (fun h3=> ?_) (fun h3=> ?_)
   ·have qF:m.getD (i*4+j) 0≠0:=by simpa using h3
    rw[if_pos qF]at Pv
    refine dY @lsH_4 ?_
    have hgl:=sw m (cn m (i*4+j))
    refine ai (j+1) h2 ae (aZ.iu (fun j=>j=4) (.osl 4 1) 4 _ ae (fun q hq=> ?_) (lsH_4 _ _) (.inr ⟨4,1,rfl,rfl, ?_⟩) (fun q hq=> ?_) (fun q h h2=>ae) ?_)
    ·exact sv (y:=au (fun _=> .no) 0 (mR m) q) Rx Rx (bn rfl (fun r hr=>hg.refs q r hr))
    ·(repeat first|rfl|rw[af]|rw[ab _ _ _ _ (by omega)])
     rw[<- Nat.add_assoc,Pv,List.map_append];rfl
    ·exact Rx
    ·exact lI
   ·have qF: ¬m.getD (i*4+j) 0≠0:=by simpa using h3
    rw[if_neg qF,List.append_nil]at Pv
    refine ba ?_
    refine ai (j+1) h2 ae (aZ.aV _ (show 0<=5 from ae) ae (sw _ _) (fun q hq=> ?_) ?_)
    ·rw[<- Nat.add_assoc,Pv]
    ·exact bZ
  ·have tF:j=4:=by simp at h2;omega
   subst tF
   refine ba ?_
   refine ai (i+1) h1 ae (aZ.aV _ (show 0<=5 from ae) ae (sw _ _) (fun q hq=> ?_) ?_)
   ·rw[show(i+1)*4=i*4+4 by omega]
   ·exact bZ
 ·have nS:i=4:=by simp at h1;omega
  subst nS
  exact s9 @lsH_4
theorem SX{B:List Int}(hB:B.length=16){i j:Nat}(hi:i<4)(hj:j<4):((B.map D.i).map V.d)[i*4+j]? =some (V.d (D.i (mg B i j))):=by
 unfold mg
 rw[List.getElem?_map,List.getElem?_map,List.getElem?_eq_getElem (by omega),List.getD_eq_getElem?_getD,List.getElem?_eq_getElem (by omega)];rfl
theorem Gn{l:List jX}{n:Int}{x:jX}(h:l[n.toNat]? =some x):ji l n=x.args:=by simp[ji,h]
theorem Bd{l:List jX}{n:Int}(h:ft n 0 (l.length - 1)=true):0<=n/\∃x,l[n.toNat]? =some x:=by
 simp[ft]at h
 exact⟨h.1,l[n.toNat]'ae,aJ⟩
theorem aaD(s:cB)(t:Tm)(hs:s.Fits)(ht:t.kids.length<=9223372036854775807):aW Tryz.prog 122 [s.d,t.d] (.ret [.bool (bJ s t)]):=by
 refine aW.aI mix afx aJ ?_
 rw[afw]
 refine dc ?_
 rcases(by omega:t.op=1\/t.op=2\/t.op=3\/t.op=4\/t.op=5\/t.op=8\/(t.op=6\/t.op=7\/t.op=9\/t.op=10\/t.op=11\/t.op=12\/t.op=13\/t.op=14\/t.op=15)\/(t.op<1\/15<t.op))with h|h|h|h|h|h|h|h
 ·have hn:bJ s t=((t.kids.length:Int)==0&&ft t.n 0 19):=by simp[bJ,h]
  refine fX h ?_
  refine gU (fD [.bool (ft t.n 0 19)] ?_ ?_)
  ·refine dc ?_
   exact It
  refine fX h ?_
  rw[hn]
 ·have hn:bJ s t=((t.kids.length:Int)==0&&ft t.n (-1000000) 1000000):=by simp[bJ,h]
  refine fX h ?_
  refine gU (fD [.bool (ft t.n (-1000000) 1000000)] ?_ ?_)
  ·refine dc ?_
   exact It
  refine fX h ?_
  rw[hn]
 ·have hn:bJ s t=(ft t.n 0 (s.cons.length - 1)&&(t.kids.length:Int)==ji s.cons t.n):=by simp[bJ,h]
  refine fX h ?_
  rw[wrap64 (by have:=hs.lc;omega) (by have:=hs.lc;omega)]
  refine aF (Dg _ _ _) rfl ?_
  cases hI:ft t.n 0 (s.cons.length - 1)with
  |false=>
   exact NI
  |true=>
   exact X6
 ·have hn:bJ s t=(ft t.n 0 (s.bX.length - 1)&&(t.kids.length:Int)==ji s.bX t.n):=by simp[bJ,h]
  refine fX h ?_
  rw[wrap64 (by have:=hs.lf;omega) (by have:=hs.lf;omega)]
  refine aF (Dg _ _ _) rfl ?_
  cases hI:ft t.n 0 (s.bX.length - 1)with
  |false=>
   exact NI
  |true=>
   exact X6
 ·have hn:bJ s t=(ft t.n 0 (s.bX.length - 1)&&decide ((t.kids.length:Int)<ji s.bX t.n)):=by simp[bJ,h]
  refine fX h ?_
  rw[wrap64 (by have:=hs.lf;omega) (by have:=hs.lf;omega)]
  refine aF (Dg _ _ _) rfl ?_
  cases hI:ft t.n 0 (s.bX.length - 1)with
  |false=>
   exact NI
  |true=>
   exact X6
 ·have hn:bJ s t=((t.kids.length:Int)==2&&ft t.n 0 19):=by simp[bJ,h]
  refine fX h ?_
  refine gU (fD [.bool (ft t.n 0 19)] ?_ ?_)
  ·refine dc ?_
   exact It
  refine fX h ?_
  rw[hn]
 ·have hn:bJ s t=((t.kids.length:Int)==2&&t.n==0):=by
   rcases h with h|h|h|h|h|h|h|h|h<;>simp[bJ,h,ft]
  rw[hn]
  rcases h with h|h|h|h|h|h|h|h|h<;>simp+contextual only[go_sem,h]
 ·have hn:bJ s t=false:=by
   simp[bJ,ft,show ¬ (t.op=1) by omega,show ¬ (t.op=2) by omega,show ¬ (t.op=3) by omega,show ¬ (t.op=4) by omega,show ¬ (t.op=5) by omega,show ¬ (t.op=8) by omega,show ¬ (6<=t.op/\t.op<=15) by omega]
  have e:∀k:Int,1<=k->k<=15->(t.op==k)=false:=fun k h1 h2=>by simp;omega
  refine fX (ak (e 1 ae ae) (ak (e 2 ae ae) (ak (e 3 ae ae) (ak (e 4 ae ae) (ak (e 5 ae ae) (ak (e 6 ae ae) (ak (e 7 ae ae) (ak (e 8 ae ae) (ak (e 9 ae ae) (ak (e 10 ae ae) (ak (e 11 ae ae) (ak (e 12 ae ae) (ak (e 13 ae ae) (ak (e 14 ae ae) (e 15 ae ae))))))))))))))) ?_
  rw[hn]
theorem tV(s:cB)(t:Tm):kU s t=(bJ s t&&t.kids.all (kU s)):=by
 have:∀l:List Tm,vS s l=l.all (kU s):=fun l=>by
  induction l with
  |nil=>rfl
  |cons k l ih=>simp[vS,ih]
 cases t;simp[kU,this,Tm.kids]
theorem db{α:Type}{l:List α}{p:α->Bool}{k:Nat}{x:α}(hx:l[k]? =some x)(h:p x=false):l.all p=false:=by
 rw[List.all_eq_false];exact⟨x,List.mem_of_getElem? hx,by rw[h];exact Bool.false_ne_true⟩
theorem gv{α:Type}{l:List α}{p:α->Bool}{k:Nat}{x:α}(hx:l[k]? =some x)(h0:(l.take k).all p=true)(h:p x=true):(l.take (k+1)).all p=true:=by
 rw[List.take_add_one,hx,List.all_append,h0];simp[h]
theorem fF{α:Type}{l:List α}{p:α->Bool}{k:Nat}(h0:(l.take k).all p=true)(h:l.length<=k):l.all p=true:=by
 rwa [List.take_of_length_le h]at h0
theorem az{α:Type}{l:List α}{k:Nat}(h:k<l.length):∃x,l[k]? =some x:=⟨l[k],by simp[h]⟩
@[reducible] def cB.row (s:cB):List V:=[.d (.sl (s.cons.map jX.d)), .d (.sl (s.bX.map jX.d))]
theorem SY(s:cB)(hs:s.Fits):∀t:Tm,t.fits->aW Tryz.prog 87 [s.d,t.d] (.ret [.bool (kU s t)]):=by
 refine Tm.eJ fun t ih hf=> ?_
 have l0:=(Tm.bK _).1 hf
 refine aW.aI mix aiK aJ ?_
 rw[c87]
 refine dc ?_
 refine aF (aaD s t hs l0.1) rfl ?_
 refine dc ?_
 rw[tV]
 refine aj (fun h1=> ?_) (fun h1=> ?_)
 ·refine dc ?_
  simp at h1;simp[h1]
 ·simp at h1
  rw[h1,Bool.true_and]
  refine dc ?_
  refine aw (fun k:Nat=>⟨aT [.ag, .ag, .ptr 0 0, .ptr 1 0, .ag, .d (.i k)],Ck s.row t.row,2⟩)
   (fun k=>k<=t.kids.length/\(t.kids.take k).all (kU s)=true) (fun k=>t.kids.length - k) 0 ⟨Nat.zero_le _,aJ⟩ (aZ.d2 _ (im rfl rfl) ae rfl rfl ?_) (fun k hk=> ?_)
  ·exact bZ
  refine dc ?_
  refine aj (fun h2=> ?_) (fun h2=> ?_)
  ·simp at h2
   obtain⟨x,hx⟩:=az h2
   have dR:=List.mem_of_getElem? hx
   refine fX hx ?_
   refine aY (ih x dR (l0.2 x dR)) rfl ?_
   refine dc ?_
   refine aB bG ?_
   refine dc ?_
   refine aj (fun h3=> ?_) (fun h3=> ?_)
   ·refine dc ?_
    simp at h3
    rw[db hx h3]
   ·refine dc ?_
    simp at h3
    refine ai (k+1) ⟨h2,gv hx hk.2 h3⟩ ae (aZ.d2 _ (im rfl rfl) ae rfl rfl ?_)
    exact bZ
  ·refine dc ?_
   simp at h2
   rw[fF hk.2 h2]
theorem Pw(s:cB)(hs:s.Fits)(t:Tm)(hf:t.fits):aW Tryz.prog 61 [s.d,t.d] (.ret [.bool (gD s t)]):=by
 refine aW.aI mix aiv aJ ?_
 rw[c61]
 refine dc ?_
 refine aF (JH t hf 40 12 ae ae) rfl ?_
 refine dc ?_
 refine gU (fD [.bool (kU s t)] ?_ ?_)
 ·refine dc ?_
  exact fun _=>SY s hs t hf
 refine dc ?_
 rfl
theorem mM:∀l l':List Tm,l.length=l'.length->(jR l l'=true↔∀ (i:Nat) (x y:Tm),l[i]? =some x->l'[i]? =some y->iK x y=true)
 |[],l',_=>by simp[jR]
 |k::l,k'::l',h=>by
  simp only[jR,Bool.and_eq_true]
  rw[mM l l' (by simpa using h)]
  constructor
  ·rintro⟨h1,h2⟩ i x y hx hy
   cases i with
   |zero=>simp at hx hy;subst hx;subst hy;exact h1
   |succ i=>exact h2 i x y zE (by simpa using hy)
  ·intro h3
   exact⟨h3 0 k k' rfl rfl,fun i x y hx hy=>h3 (i+1) x y zE (by simpa using hy)⟩
 |_::_,[],h=>by simp at h
theorem ER(a b:Tm):iK a b=(a.op==b.op&&a.n==b.n&&a.kids.length==b.kids.length&&jR a.kids b.kids):=by cases a;cases b;simp[iK,Tm.op,Tm.n,Tm.kids]
theorem Px:∀a:Tm,a.fits->∀b:Tm,b.fits->aW Tryz.prog 30 [a.d,b.d] (.ret [.bool (iK a b)]):=by
 refine Tm.eJ fun t ih hf b hb=> ?_
 have l0:=(Tm.bK _).1 hf
 have RK:=(Tm.bK _).1 hb
 refine aW.aI mix aia aJ ?_
 rw[c30,ER]
 refine dc ?_
 refine aj (fun h1=> ?_) (fun h1=> ?_)
 ·refine dc ?_
  have:(t.op==b.op&&t.n==b.n&&t.kids.length==b.kids.length)=false:=by
   rw[Bool.eq_false_iff]
   intro h
   simp at h
   simp[h]at h1
  rw[this];rfl
 ·have nS:t.op=b.op/\t.n=b.n/\t.kids.length=b.kids.length:=by
   simp at h1
   refine⟨h1.1.1,h1.1.2,by have:=h1.2;omega⟩
  rw[show(t.op==b.op&&t.n==b.n&&t.kids.length==b.kids.length)=true by simp[nS],Bool.true_and]
  have hl:=nS.2.2
  refine dc ?_
  refine aw (fun k:Nat=>⟨aT [.ag, .ag, .ptr 0 0, .ptr 1 0, .ag, .d (.i k)],Ck t.row b.row,2⟩)
   (fun k=>k<=t.kids.length/\∀i,i<k->∀x y,t.kids[i]? =some x->b.kids[i]? =some y->iK x y=true) (fun k=>t.kids.length - k) 0 ⟨Nat.zero_le _,fun i h=>ae⟩ (aZ.d2 _ (im rfl rfl) ae rfl rfl ?_) (fun k hk=> ?_)
  ·exact bZ
  refine dc ?_
  refine aj (fun h2=> ?_) (fun h2=> ?_)
  ·simp at h2
   obtain⟨x,hx⟩:=az h2
   obtain⟨y,hy⟩:=az (l:=b.kids) (k:=k) ae
   have dR:=List.mem_of_getElem? hx
   have hym:=List.mem_of_getElem? hy
   refine fX (ak hx hy) ?_
   refine aY (ih x dR (l0.2 x dR) y (RK.2 y hym)) rfl ?_
   refine dc ?_
   refine aB bG ?_
   refine dc ?_
   refine aj (fun h3=> ?_) (fun h3=> ?_)
   ·refine dc ?_
    simp at h3
    have:jR t.kids b.kids=false:=by
     rw[Bool.eq_false_iff]
     intro h
     have:=(mM _ _ hl).1 h k x y hx hy
     rw[h3]at this;cases this
    rw[this]
   ·refine dc ?_
    simp at h3
    refine ai (k+1) ⟨h2,fun i hi u v hu hv=> ?_⟩ ae (aZ.d2 _ (im rfl rfl) ae rfl rfl ?_)
    ·by_cases e:i=k
     ·subst e
      rw[hx]at hu;rw[hy]at hv
      exact Uz
     ·exact hk.2 i ae u v hu hv
    ·exact bZ
  ·refine dc ?_
   simp at h2
   have:jR t.kids b.kids=true:=(mM _ _ hl).2 fun i x y hx hy=>hk.2 i (by have:=(List.getElem?_eq_some_iff.1 hx).1;omega) x y hx hy
   rw[this]
theorem JJ(t:Tm)(hf:t.fits):aW Tryz.prog 68 [t.d] (.ret [.bool (ma t)]):=by
 refine aW.aI mix aiw aJ ?_
 rw[c68]
 refine dc ?_
 refine aF (JH t hf 50 14 ae ae) rfl ?_
 refine dc ?_
 rfl
theorem Hw(s:cB)(hs:s.Fits):aW Tryz.prog 69 [s.d] (.ret [.bool (jj s)]):=by
 refine aW.aI mix aix aJ ?_
 rw[c69]
 refine dc ?_
 refine aj (fun h1=> ?_) (fun h1=> ?_)
 ·refine dc ?_
  simp only[jj,h1];rfl
 ·have e:jj s=(gJ s.cons&&gJ s.bX):=by simp only[jj,h1];rfl
  rw[e]
  simp at h1
  refine dc ?_
  refine aw (fun k:Nat=>⟨aT [.ag, .ptr 0 0, .ag, .d (.i k)],jS s.row,1⟩)
   (fun k=>k<=s.cons.length/\gJ (s.cons.take k)=true) (fun k=>s.cons.length - k) 0 ⟨Nat.zero_le _,by simp[gJ]⟩ (aZ.d1 _ (bt rfl) ae rfl ?_) (fun k hk=> ?_)
  ·exact bZ
  refine dc ?_
  refine aj (fun h2=> ?_) (fun h2=> ?_)
  ·simp at h2
   obtain⟨x,hx⟩:=az h2
   refine fX hx ?_
   refine aj (fun h3=> ?_) (fun h3=> ?_)
   ·refine dc ?_
    rw[show gJ s.cons=false from db hx (by simpa using h3)];rfl
   ·refine dc ?_
    refine ai (k+1) ⟨h2,gv hx hk.2 (by simpa using h3)⟩ ae (aZ.d1 _ (bt rfl) ae rfl ?_)
    exact bZ
  ·simp at h2
   rw[show gJ s.cons=true from fF hk.2 h2,Bool.true_and]
   refine dc ?_
   refine aw (fun k:Nat=>⟨aT [.ag, .ptr 0 0, .ag, .ag, .d (.i k)],jS s.row,1⟩)
    (fun k=>k<=s.bX.length/\gJ (s.bX.take k)=true) (fun k=>s.bX.length - k) 0 ⟨Nat.zero_le _,by simp[gJ]⟩ (aZ.d1 _ (bt rfl) ae rfl ?_) (fun k hk=> ?_)
   ·exact bZ
   refine dc ?_
   refine aj (fun h4=> ?_) (fun h4=> ?_)
   ·simp at h4
    obtain⟨x,hx⟩:=az h4
    refine fX hx ?_
    refine aj (fun h3=> ?_) (fun h3=> ?_)
    ·refine dc ?_
     rw[show gJ s.bX=false from db hx (by simpa using h3)]
    ·refine dc ?_
     refine ai (k+1) ⟨h4,gv hx hk.2 (by simpa using h3)⟩ ae (aZ.d1 _ (bt rfl) ae rfl ?_)
     exact bZ
   ·simp at h4
    rw[show gJ s.bX=true from fF hk.2 h4]
    simp+contextual only[go_sem]
section
theorem ES{σ:Type}(l:List Tm)(hl:l.length<=9223372036854775807)(g:Nat)(aX:List V)(base:Nat)(H:σ->Nat->aa)(step:σ->Tm->σ×Bool)(hc:∀r∈V.aM aX,r<base)(ok:σ->Prop)(bp:∀x∈l,∀s,ok s->(step s x).2=true->ok (step s x).1)
 (h:∀x∈l,∀s,ok s->mh Tryz.prog g (.d x.d::aX) base (H s) (H (step s x).1) (.d (.bool (step s x).2))) (s:σ) (kO:ok s):
 mh Tryz.prog 171 [.d (.sl (l.map Tm.d)), .func (.func g) [] aX] base (H s) (H (aA step s l).1) (.d (.bool (aA step s l).2)):=by
 intro o nx hI K X hK
 have jb:∀r∈V.aM aX,r<nx:=fun r hr=>Nat.lt_of_lt_of_le (hc r hr) hI.le
 refine cX.aI mix WS aJ ?_
 rw[aah]
 refine dc ?_
 refine aw (fun i:Nat×σ×(Nat->aa)×Nat=>⟨aT [.ag, .func (.func g) [] aX, .ag, .ag, .ag, .ag, .ag, .d (.sl (l.map Tm.d)), .d (.i l.length), .d (.i i.1)],i.2.2.1,i.2.2.2⟩)
  (fun i=>i.1<=l.length/\dv base (H i.2.1) i.2.2.1 i.2.2.2/\nx<=i.2.2.2/\(∀id,base<=id->id<nx->i.2.2.1 id=o id)/\aA step s l=aA step i.2.1 (l.drop i.1)/\ok i.2.1) (fun i=>l.length - i.1) (0,s,o,nx)
  ⟨Nat.zero_le _,hI,Nat.le_refl _,fun _ _ _=>rfl,rfl,kO⟩ ?_ ?_
 ·exact RF
 rintro⟨k,s',o',nx'⟩ ⟨hk,yW,hn,c8,hf,kB⟩
 simp only at hk yW hn c8 hf kB
 refine dc ?_
 refine aj (fun h1=> ?_) (fun h1=> ?_)
 ·simp at h1
  obtain⟨x,hx⟩:=az h1
  have dR:=List.mem_of_getElem? hx
  have hd:l.drop k=x::l.drop (k+1):=by
   exact zw6
  refine yU hx ?_
  have hl0:=yW.le
  refine ij (h x dR s' kB _ _ (?_:dv base (H s') _ (nx'+7)) _ _ fun o2 n2 m1 m2 m3=> ?_)
  ·exact acE
  have Py:∀id,base<=id->id<nx->o2 id=o id:=fun id h2 h3=>by
   exact acU
  refine dc ?_
  refine aj (fun h2=> ?_) (fun h2=> ?_)
  ·refine dc ?_
   simp at h2
   have:aA step s l=((step s' x).1,false):=by rw[hf,hd,aA,if_neg (by rw[h2];exact Bool.false_ne_true)]
   rw[this]at hK
   exact hK _ _ ae (m2.mono ae) Py
  ·refine dc ?_
   simp at h2
   have:aA step s l=aA step (step s' x).1 (l.drop (k+1)):=by rw[hf,hd,aA,if_pos h2]
   refine ai (k+1,(step s' x).1,o2,n2) ⟨h1,m2,by dsimp only;omega,Py,this,bp x dR s' kB h2⟩ jr ?_
   dsimp only
   have AD:∀r∈V.aM aX,r<n2:=fun r hr=>by have:=jb r hr;omega
   refine aZ.aV _ ae ae m2.bE (fun _ _=>rfl) ?_
   exact bZ
 ·exact UL
theorem Cn{α σ:Type}(step:σ->α->σ×Bool)(a b:List α):∀s,aA step s (a++b)=if(aA step s a).2=true then aA step (aA step s a).1 b else((aA step s a).1,false):=by
 induction a with
 |nil=>intro s;simp[aA]
 |cons x a ih=>
  intro s
  simp only[List.cons_append,aA]
  split
  ·exact ih _
  ·rename_i h;simp
theorem xR{α β σ:Type}(step:σ->β->σ×Bool)(f:α->List β)(l:List α):∀s,aA step s (l.flatMap f)=aA (fun s x=>aA step s (f x)) s l:=by
 induction l with
 |nil=>intro s;rfl
 |cons x l ih=>intro s;simp only[List.flatMap_cons,Cn,aA,ih]
theorem De{α σ:Type}{step:σ->α->σ×Bool}{ok:σ->Prop}:∀ (l:List α),(∀x∈l,∀s,ok s->(step s x).2=true->ok (step s x).1)->∀s,ok s->(aA step s l).2=true->ok (aA step s l).1
 |[],_,s,h,_=>h
 |x::l,bp,s,h,h2=>by
  simp only[aA]at h2|-
  split at h2
  ·rename_i hb
   rw[if_pos hb]
   exact De l (fun y hy=>bp y mj) _ (bp x aJ s h hb) h2
  ·cases h2
def RoC(P:Program)(nY:Nat)(args:List V)(base:Nat)(h h2:Nat->aa)(v:V):Prop:=
 ∀o nx,dv base h o nx->∀K X,StK base h2 v o nx K->eu P nY args o nx K X
section
variable {σ:Type}(base nY:Nat)(H:σ->Nat->aa)(step:σ->Tm×Int->σ×Bool)(ok:σ->Prop)
theorem SZ:∀t:Tm,t.fits->∀d:Int,0<=d->d+t.nK<=1000000->(∀x∈pre t d,∀s,ok s->(step s x).2=true->ok (step s x).1)->(∀x∈pre t d,∀s,ok s->RoC Tryz.prog nY [.d x.1.d, .d (.i x.2)] base (H s) (H (step s x).1) (.d (.bool (step s x).2)))->nY<base->
 ∀ (c:Nat) (o0:Nat->aa) (yb vb:Nat),base<=c->base<=yb->yb<c->base<=vb->vb<c->o0 yb= .row [.jI nY]->o0 vb= .row [.func (.func 175) [] [.ptr yb 0, .ptr vb 0]]->
 ∀s,ok s->mh Tryz.prog 175 [.d t.d, .d (.i d), .ptr yb 0, .ptr vb 0] c (ext base (H s) o0) (ext base (H (aA step s (pre t d)).1) o0) (.d (.bool (aA step s (pre t d)).2)):=by
 refine Tm.eJ fun t ih hf d hd0 hd bp hR xS c o0 yb vb Rb Ri hy Rj hv oy ov s kO=> ?_
 have l0:=(Tm.bK _).1 hf
 intro o nx hI K X hK
 have hle:=hI.le
 have S0:o yb= .row [.jI nY]:=by rw[hI.eq yb hy];unfold ext;rw[if_neg (by omega),oy]
 have S1:o vb= .row [.func (.func 175) [] [.ptr yb 0, .ptr vb 0]]:=by rw[hI.eq vb hv];unfold ext;rw[if_neg (by omega),ov]
 have y1:yb≠nx:=ae
 have y2:∀k,yb≠nx+k:=fun k=>ae
 have y3:vb≠nx:=ae
 have y4:∀k,vb≠nx+k:=fun k=>ae
 refine cX.aI mix WW aJ ?_
 rw[aal]
 refine yU (ak S0 (ak S1 (ak y1 (ak y2 (ak y3 y4))))) ?_
 have qw:=kS t d
 have dH:∀k∈t.kids,∀x∈pre k (d+1),x∈pre t d:=fun k hk x hx=>by
  exact UA
 have hb:∀id,id<base->o id=H s id:=fun id aq=>by rw[hI.eq id (by omega)];unfold ext;rw[if_pos aq]
 have hIb:dv base (H s) o nx:=⟨hI.bE,ae,hb⟩
 refine o6 (hR (t,d) Dj s kO _ _ ((hIb.au (i:=nx) (m:=nx+6) ae ae ae rfl).au (i:=nx+1) ae ae ae rfl) _ _ fun o2 n2 m1 m2 m3=> ?_)
 have k0:o2 nx= .row t.row:=by rw[m3 nx (by omega) (by omega),ab _ _ _ _ (by omega),af]
 have k1:o2 (nx+1)= .row [.d (.i d)]:=by rw[m3 (nx+1) (by omega) (by omega),af]
 have hold:∀id,base<=id->id<nx->o2 id=o id:=fun id h1 h2=>by rw[m3 id h1 (by omega),ab _ _ _ _ (by omega),ab _ _ _ _ (by omega)]
 have Gl:∀id,base<=id->id<c->o id=o0 id:=fun id h1 h2=>by rw[hI.eq id h2];unfold ext;rw[if_neg (by omega)]
 cases ET:(step s (t,d)).2 with
 |false=>
  refine fX ET ?_
  have AE:aA step s (pre t d)=((step s (t,d)).1,false):=by rw[qw,aA,if_neg (by rw[ET];exact Bool.false_ne_true)]
  rw[AE]at hK
  refine hK _ _ ae ⟨m2.bE.mono ae,ae,fun id aq=> ?_⟩ (fun id h1 h2=>hold id ae h2)
  unfold ext
  split
  ·exact m2.eq id re
  ·exact MZ
 |true=>
  have AE:aA step s (pre t d)=aA (fun s k=>aA step s (pre k (d+1))) (step s (t,d)).1 t.kids:=by rw[qw,aA,if_pos ET,xR]
  refine fX (ak ET (ak k0 k1)) ?_
  have q0:o2 yb= .row [.jI nY]:=by rw[hold yb Ri (by omega),S0]
  have q1:o2 vb= .row [.func (.func 175) [] [.ptr yb 0, .ptr vb 0]]:=by rw[hold vb Rj (by omega),S1]
  have m0:=m2.le
  refine bg (ES t.kids l0.1 176 [.ptr vb 0, .ptr (nx+1) 0] n2 (fun s=>ext base (H s) o2) (fun s k=>aA step s (pre k (d+1))) ?_ ok ?_ ?_ (step s (t,d)).1 (bp (t,d) Dj s kO ET) _ _ ?_ _ _ ?_)
  ·simp[V.aM,V.refs];omega
  ·exact Ud
  ·intro k hk s' j7 o3 n3 hI3 K3 X3 hK3
   have l3:=hI3.le
   have r0:o3 vb= .row [.func (.func 175) [] [.ptr yb 0, .ptr vb 0]]:=by rw[hI3.eq vb (by omega)];unfold ext;rw[if_neg (by omega),q1]
   have r1:o3 (nx+1)= .row [.d (.i d)]:=by rw[hI3.eq (nx+1) (by omega)];unfold ext;rw[if_neg (by omega),k1]
   have y5:vb≠n3:=ae
   have y6:∀k,vb≠n3+k:=fun k=>ae
   have y7:nx+1≠n3:=ae
   have y8:∀k,nx+1≠n3+k:=fun k=>ae
   have hh:=Tm.pI hk
   refine cX.aI mix WX aJ ?_
   rw[aam]
   refine fX (ak r0 (ak r1 (ak y5 (ak y6 (ak y7 y8))))) ?_
   rw[wrap64 (n:=d+1) (by omega) (by omega)]
   refine bg (ih k hk (l0.2 k hk) (d+1) ae ae (fun x hx=>bp x (dH k hk x hx)) (fun x hx=>hR x (dH k hk x hx)) xS n2 o2 yb vb ae Ri ae Rj ae q0 q1 s' j7 _ _ (hI3.au (i:=n3) (m:=n3+6) ae ae ae rfl) _ _ fun o4 n4 p1 p2 p3=> ?_)
   refine dc ?_
   refine hK3 _ _ ae (p2.mono ae) (fun id h1 h2=> ?_)
   rw[p3 id h1 (by omega),ab _ _ _ _ (by omega)]
  ·exact(m2.mono ae).ext ae ae
  ·intro o5 n5 p1 p2 p3
   refine dc ?_
   rw[<- AE]
   refine hK _ _ ae ⟨p2.bE.mono ae,ae,fun id aq=> ?_⟩ (fun id h1 h2=> ?_)
   ·rw[p2.eq id (by omega), <- AE]
    unfold ext
    split
    ·rfl
    ·exact MZ
   ·exact U9
theorem Pz(t:Tm)(hf:t.fits)(hd:t.nK<=900000)(bp:∀x∈pre t 1,∀s,ok s->(step s x).2=true->ok (step s x).1)(hR:∀x∈pre t 1,∀s,ok s->RoC Tryz.prog nY [.d x.1.d, .d (.i x.2)] base (H s) (H (step s x).1) (.d (.bool (step s x).2)))(xS:nY<base)(tb:Nat)(Gs:tb<base)(s:σ)(kO:ok s)(bD:H s tb= .row t.row):
 mh Tryz.prog 174 [.jI nY, .ptr tb 0] base (H s) (H (aA step s (pre t 1)).1) (.cc []):=by
 intro o nx hI K X hK
 have hle:=hI.le
 have ot:o tb= .row t.row:=by rw[hI.eq tb Gs,bD]
 have y1:tb≠nx:=ae
 have y2:∀k,tb≠nx+k:=fun k=>ae
 refine cX.aI mix WV aJ ?_
 rw[aak]
 refine yU (ak ot (ak y1 y2)) ?_
 have EU:dv base (H s) (au (au (au o nx (.row [.jI nY])) (nx+1) (.row [.d .cK])) (nx+1) (.row [.func (.func 175) [] [.ptr nx 0, .ptr (nx+1) 0]])) (nx+6):=by
  refine((hI.au (i:=nx) (m:=nx+6) ae ae ae ?_).au (i:=nx+1) (m:=nx+6) ae ae ae rfl).au (i:=nx+1) ae ae ae ?_
  ·exact M3
  ·exact n8
 refine bg (SZ base nY H step ok t hf 1 ae ae bp hR xS (nx+6) _ nx (nx+1) ae hle ae ae ae ?_ ?_ s kO _ _ (EU.ext (Nat.le_refl _) ae) _ _ ?_)
 ·exact cH
 ·exact cH
 intro o2 n2 m1 m2 m3
 refine dc ?_
 refine hK _ _ ae ⟨m2.bE,ae,fun id aq=> ?_⟩ (fun id h1 h2=> ?_)
 ·exact M0
 ·exact Yc
end
theorem EV(t:Tm)(o:Nat->aa)(nx:Nat)(K X:V->(Nat->aa)->Nat->Prop)(h:K (.func (.func 174) [] [.ptr nx 0]) (au o nx (.row t.row)) (nx+4)):cX Tryz.prog 160 [.d t.d] o nx K X:=by
 refine cX.aI mix WM aJ ?_
 rw[aac]
 refine dc ?_
 exact h
end
def PA:Option lC->fW
 |none=> .normal
 |some .ret=> .ret
 |some (.exit j)=> .exit j
def vX{σ:Type}(J:σ->Option lC)(step:σ->Tm×Int->σ)(s:σ)(x:Tm×Int):σ×Bool:=(step s x,(J (step s x)).isNone)
theorem Co{σ:Type}(J:σ->Option lC)(step:σ->Tm×Int->σ):∀ (l:List (Tm×Int)) (s:σ),J s=none->(aA (vX J step) s l).2=(J (aA (vX J step) s l).1).isNone
 |[],s,h=>by simp[aA,h]
 |x::l,s,h=>by
  simp only[aA]
  split
  ·rename_i hb
   exact Co J step l _ (by simpa[vX]using hb)
  ·rename_i hb
   cases hj:J (step s x)with
   |none=>exact absurd (by simp[vX,hj]) hb
   |some j=>simp[vX,hj]
theorem uV{σ:Type}(t:Tm)(hf:t.fits)(hd:t.nK<=900000){n bq:Nat}{gq:Operand}{ps:List Nat}{jM fm:IC}{Q:fW->S->Prop}{e:Nat->V}{o:Nat->aa}{nx tb:Nat}(env:List V)(he:nL e env 0)
 (pL:ps.all (fun t=>decide (t<n))=true) (hl:ps.length=2) (hg:Good o nx) (hrefs:∀r∈V.aM env,r<nx) (ht:o tb= .row t.row)
 (G:σ->Nat->aa) (J:σ->Option lC) (step:σ->Tm×Int->σ) (ok:σ->Prop) (s0:σ) (kO:ok s0) (hJ0:J s0=none) (h0:∀id,id<nx->o id=G s0 id) (bp:∀x∈pre t 1,∀s,ok s->J s=none->J (step s x)=none->ok (step s x))
 (qJ:∀L,kZ Tryz.prog n env ps jM fm L->(∀st pd m,nx<=m->(L st pd).refs.all (fun r=>decide (r<m))=true)->∀x∈pre t 1,∀s,ok s->J s=none->∀o3 n3,dv nx (G s) o3 n3->nx<n3->o3 nx=L .ready none->∀K X,
  (∀e' o' n' st pd,n3<=n'->dv nx (G (step s x)) o' n'->o' nx=L st pd->(∀id,nx<id->id<n3->o' id=o3 id)->kX nx K X (PA (J (step s x))) ⟨e',o',n'⟩)->
  lz Tryz.prog n n3 true jM (qR Tryz.prog n n3 nx fm K X) ⟨oP (aT env) ps [.d x.1.d, .d (.i x.2)],o3,n3⟩)
 (iw:∀o' n',dv nx (G (aA (vX J step) s0 (pre t 1)).1) o' n'->qI Q (J (aA (vX J step) s0 (pre t 1)).1) ⟨e,o',n'⟩):
 B0 Tryz.prog n bq false gq ps jM fm Q ⟨e,o,nx⟩ (.func (.func 174) [] [.ptr tb 0]):=by
 refine Hu env he (fun L hL=> ?_)
 have Gs:tb<nx:=hg.lt NB
 let H:σ->Nat->aa:=fun s id=>if id<nx then G s id else if id=nx then(match J s with|none=>L .ready none|some j=>L .done (some j))else .no
 have Kz:∀s id,id<nx->H s id=G s id:=fun s id h=>if_pos h
 have Q0:∀s,J s=none->H s nx=L .ready none:=fun s h=>by show(if nx<nx then _ else _)=_;rw[if_neg (by omega),if_pos rfl,h]
 have XJ:∀s j,J s=some j->H s nx=L .done (some j):=fun s j h=>by show(if nx<nx then _ else _)=_;rw[if_neg (by omega),if_pos rfl,h]
 have zA:∀st pd m,nx<=m->(L st pd).refs.all (fun r=>decide (r<m))=true:=fun st pd m hm=>by
  exact X7
 refine Pz (nx+1) nx H (vX J step) (fun s=>ok s/\J s=none) t hf hd (fun x hx s h1 h2=> ?_) (fun x hx s h1=> ?_) ae tb ae s0 ⟨kO,hJ0⟩ Nz _ _ ⟨?_,Nat.le_refl _,fun id aq=> ?_⟩ _ _ ?_
 ·have hj:J (step s x)=none:=by simpa[vX]using h2
  exact⟨bp x hx s h1.1 h1.2 hj,hj⟩
 ·intro o3 n3 hI K X hK
  have hle:=hI.le
  have MO:o3 nx=L .ready none:=by rw[hI.eq nx (by omega),Q0 s h1.2]
  refine xO hL mix MO ae pL (by simp[hl]) ?_
  refine qJ L hL zA x hx s h1.1 h1.2 o3 n3 ⟨hI.bE,ae,fun id aq=>by rw[hI.eq id (by omega),Kz _ _ aq]⟩ ae MO K X (fun e' o' n' st pd k1 k2 k3 k4=> ?_)
  have key:∀st' pd' b,(J (step s x)).isNone=b->H (step s x) nx=L st' pd'->K (.d (.bool b)) (au o' nx (L st' pd')) n':=fun st' pd' b hb hh=>by
   subst hb
   refine hK _ _ k1 ⟨k2.bE.au ae (zA _ _ _ ae),ae,fun id aq=> ?_⟩ (fun id g1 g2=> ?_)
   ·by_cases tf:id=nx
    ·exact Nk
    ·rw[ab _ _ _ _ tf]
     show o' id=H (step s x) id
     exact Nb
   ·exact M7
  cases hj:J (step s x)with
  |none=>exact XM
  |some j=>
   cases j with
   |ret=>exact XK
   |exit j=>exact XI
 ·exact XL
 ·by_cases tf:id=nx
  ·exact Ns
  ·exact XH
 ·intro o' n' k1 k2 k3
  have hle:=k2.le
  generalize hsf:(aA (vX J step) s0 (pre t 1)).1=sf at*
  have kk:∀st pd,dv nx (G sf) (au o' nx (L st pd)) n':=fun st pd=>⟨k2.bE.au ae (zA _ _ _ ae),ae,fun id aq=>by rw[ab _ _ _ _ (by omega),k2.eq id (by omega),Kz _ _ aq]⟩
  cases hj:J sf with
  |none=>
   refine⟨.ready,none,by rw[k2.eq nx (by omega),Q0 _ hj],(fun h=>by cases h), ?_⟩
   have:=iw _ _ (kk .exhausted none)
   rwa [hj]at this
  |some j=>
   refine⟨.done,some j,by rw[k2.eq nx (by omega),XJ _ _ hj],(fun h=>by cases h), ?_⟩
   have:=iw _ _ (kk .exhausted (some j))
   rwa [hj]at this
theorem iB(n low high:Int):aW Tryz.prog 127 [.i n, .i low, .i high] (.ret [.bool (ft n low high)]):=by
 refine aW.aI mix Wu aJ ?_
 rw[ZV]
 refine dc ?_
 rfl
theorem Hy(s:cB)(t:Tm)(h:t.op=1):aW Tryz.prog 182 [s.d,t.d] (.ret [.bool (bJ s t)]):=by
 have hn:bJ s t=(ft t.n 0 19&&(t.kids.length:Int)==0):=by simp[bJ,h,Bool.and_comm]
 refine aW.aI mix W2 aJ ?_
 rw[aar]
 exact Ya
theorem LM(s:cB)(t:Tm)(h:t.op=2):aW Tryz.prog 183 [s.d,t.d] (.ret [.bool (bJ s t)]):=by
 have hn:bJ s t=(ft t.n (-1000000) 1000000&&(t.kids.length:Int)==0):=by simp[bJ,h,Bool.and_comm]
 refine aW.aI mix W3 aJ ?_
 rw[aas]
 exact Ya
theorem agp(s:cB)(t:Tm)(h:t.op=8):aW Tryz.prog 187 [s.d,t.d] (.ret [.bool (bJ s t)]):=by
 have hn:bJ s t=(ft t.n 0 19&&(t.kids.length:Int)==2):=by simp[bJ,h,Bool.and_comm]
 refine aW.aI mix W7 aJ ?_
 rw[aaw]
 exact Ya
theorem aaE(s:cB)(t:Tm)(h:t.op=6\/t.op=7\/t.op=9\/t.op=10\/t.op=11\/t.op=12\/t.op=13\/t.op=14\/t.op=15):aW Tryz.prog 188 [s.d,t.d] (.ret [.bool (bJ s t)]):=by
 have hn:bJ s t=(t.n==0&&(t.kids.length:Int)==2):=by
  rcases h with h|h|h|h|h|h|h|h|h<;>simp[bJ,h,ft,Bool.and_comm]
 refine aW.aI mix W8 aJ ?_
 rw[aax]
 refine dc ?_
 rw[hn]
theorem agq(s:cB)(t:Tm)(hs:s.Fits)(h:t.op=3):aW Tryz.prog 184 [s.d,t.d] (.ret [.bool (bJ s t)]):=by
 have hn:bJ s t=(ft t.n 0 (s.cons.length - 1)&&(t.kids.length:Int)==ji s.cons t.n):=by simp[bJ,h]
 refine aW.aI mix W4 aJ ?_
 rw[aat]
 refine dc ?_
 rw[wrap64 (by have:=hs.lc;omega) (by have:=hs.lc;omega)]
 refine aY (iB _ _ _) rfl ?_
 cases hI:ft t.n 0 (s.cons.length - 1)with
 |false=>
  exact X5
 |true=>
  exact XZ
theorem agr(s:cB)(t:Tm)(hs:s.Fits)(h:t.op=4):aW Tryz.prog 185 [s.d,t.d] (.ret [.bool (bJ s t)]):=by
 have hn:bJ s t=(ft t.n 0 (s.bX.length - 1)&&(t.kids.length:Int)==ji s.bX t.n):=by simp[bJ,h]
 refine aW.aI mix W5 aJ ?_
 rw[aau]
 refine dc ?_
 rw[wrap64 (by have:=hs.lf;omega) (by have:=hs.lf;omega)]
 refine aY (iB _ _ _) rfl ?_
 cases hI:ft t.n 0 (s.bX.length - 1)with
 |false=>
  exact X5
 |true=>
  exact XZ
theorem aaF(s:cB)(t:Tm)(hs:s.Fits)(h:t.op=5):aW Tryz.prog 186 [s.d,t.d] (.ret [.bool (bJ s t)]):=by
 have hn:bJ s t=(ft t.n 0 (s.bX.length - 1)&&decide ((t.kids.length:Int)<ji s.bX t.n)):=by simp[bJ,h]
 refine aW.aI mix W6 aJ ?_
 rw[aav]
 refine dc ?_
 rw[wrap64 (by have:=hs.lf;omega) (by have:=hs.lf;omega)]
 refine aY (iB _ _ _) rfl ?_
 cases hI:ft t.n 0 (s.bX.length - 1)with
 |false=>
  exact X5
 |true=>
  exact XZ
@[reducible] def rf (n:Nat):V:= .func (.func n) [] []
@[reducible] def aiS:List V:=[.d .cK,rf 182,rf 183,rf 184,rf 185,rf 186, .d .cK, .d .cK,rf 187, .d .cK, .d .cK, .d .cK, .d .cK, .d .cK, .d .cK, .d .cK]
@[reducible] def Hz:List V:=[.d .cK,rf 182,rf 183,rf 184,rf 185,rf 186,rf 188,rf 188,rf 187,rf 188,rf 188,rf 188,rf 188,rf 188,rf 188,rf 188]
def MU(k:Nat):List V:=Hz.take k++aiS.drop k
theorem funcOf{P:Program}{t:TypeId}(h:(match P.underlying t with|some (.func _ _ _)=>true|_=>false)=true):∃a b c,P.underlying t=some (.func a b c):=by
 split at h
 ·exact⟨_,_,_,by assumption⟩
 ·cases h
@[go_sem] theorem aiT (o:Nat->aa) (oo:Bool):ux Tryz.prog o 214 oo (.d .cK) (.d .cK)=some (.d (.bool true)):=by
  exact Vb
@[go_sem] theorem aiU (o:Nat->aa) (oo:Bool) (f:Fn) (x y:List V):ux Tryz.prog o 214 oo (.func f x y) (.d .cK)=some (.d (.bool false)):=by
  exact Vb
theorem S2(base:Nat)(h:Nat->aa):mh Tryz.prog 181 [] base h h (.agg Hz):=by
 intro o nx hI K X hK
 have hle:=hI.le
 refine cX.aI mix W1 aJ ?_
 rw[aaq]
 simp+contextual only[go_sem,Nat.add_assoc,Nat.left_eq_add,Nat.add_eq_left,Nat.add_left_cancel_iff]
 refine aw (fun k:Nat=>⟨aT [.ptr nx 0, .ptr (nx+2) 0, .ag, .ag, .d (.i k)],au (au o nx (.row (List.replicate 16 (.d .cK)))) (nx+2) (.row (MU k)),nx+5⟩)
  (fun k=>k<=16) (fun k=>16 - k) 0 (Nat.zero_le _) ?_ (fun k hk=> ?_)
 ·refine aZ.aV _ ae ae ?_ (fun id aq=> ?_) ?_
  ·exact((hI.bE.mono ae).au ae rfl).au ae rfl
  ·rw[dW];rfl
  ·exact bZ
 have hg:∀k,k<16->Good (au (au o nx (.row (List.replicate 16 (.d .cK)))) (nx+2) (.row (MU (k+1)))) (nx+5):=fun k hk=>
  ((hI.bE.mono ae).au ae rfl).au ae (by
    rcases(by omega:k=0\/k=1\/k=2\/k=3\/k=4\/k=5\/k=6\/k=7\/k=8\/k=9\/k=10\/k=11\/k=12\/k=13\/k=14\/k=15)with rfl|rfl|rfl|rfl|rfl|rfl|rfl|rfl|rfl|rfl|rfl|rfl|rfl|rfl|rfl|rfl<;>rfl)
 by_cases aiV:k=16
 ·subst aiV
  refine acj ?_
  refine hK _ _ ?_ ⟨?_, ?_,fun id aq=> ?_⟩ (fun id h1 h2=> ?_)
  rotate_left
  ·exact(((hI.bE.mono ae).au ae rfl).au ae rfl).au ae rfl
  ·omega
  ·(repeat first|rfl|rw[af]|rw[ab _ _ _ _ (by omega)])
   exact hI.eq id aq
  ·exact cH
  ·omega
 ·have hgk:=hg k ae
  obtain⟨k1,hk1⟩:∃k1,k1=k+1:=⟨_,rfl⟩
  rw[<- hk1]at hgk
  rcases(by omega:k=0\/k=1\/k=2\/k=3\/k=4\/k=5\/k=6\/k=7\/k=8\/k=9\/k=10\/k=11\/k=12\/k=13\/k=14\/k=15)with rfl|rfl|rfl|rfl|rfl|rfl|rfl|rfl|rfl|rfl|rfl|rfl|rfl|rfl|rfl|rfl
  all_goals
   refine acj ?_
   refine ai k1 ae ae (aZ.aV _ ae ae hgk (fun id aq=> ?_) ?_)
   all_goals subst hk1
   ·first|rfl|(rw[dW];rfl)
   ·exact bZ
def PB(n:Int):Nat:=if n=1 then 182 else if n=2 then 183 else if n=3 then 184 else if n=4 then 185 else if n=5 then 186 else if n=8 then 187 else 188
theorem aaG(s:cB)(t:Tm)(hs:s.Fits)(h:ft t.op 1 15=true):aW Tryz.prog (PB t.op) [s.d,t.d] (.ret [.bool (bJ s t)])/\Hz[t.op.toNat]? =some (rf (PB t.op))/\0<=t.op/\t.op<16:=by
 simp[ft]at h
 rcases(by omega:t.op=1\/t.op=2\/t.op=3\/t.op=4\/t.op=5\/t.op=8\/(t.op=6\/t.op=7\/t.op=9\/t.op=10\/t.op=11\/t.op=12\/t.op=13\/t.op=14\/t.op=15))with h|h|h|h|h|h|h
 ·exact⟨by rw[h];exact Hy s t h,by rw[h];rfl,ae,ae⟩
 ·exact⟨by rw[h];exact LM s t h,by rw[h];rfl,ae,ae⟩
 ·exact⟨by rw[h];exact agq s t hs h,by rw[h];rfl,ae,ae⟩
 ·exact⟨by rw[h];exact agr s t hs h,by rw[h];rfl,ae,ae⟩
 ·exact⟨by rw[h];exact aaF s t hs h,by rw[h];rfl,ae,ae⟩
 ·exact⟨by rw[h];exact agp s t h,by rw[h];rfl,ae,ae⟩
 ·have hp:=aaE s t h
  rcases h with h|h|h|h|h|h|h|h|h<;>exact⟨by rw[h];exact hp,by rw[h];rfl,ae,ae⟩
def qb(s:cB)(n:Int)(x:Tm×Int):Bool:=decide (40<n+1)||decide (12<x.2)|| !ft x.1.op 1 15|| !bJ s x.1
def iO(s:cB)(n:Int×Bool)(x:Tm×Int):Int×Bool:=(n.1+1, !qb s n.1 x)
def fJ(n:Int×Bool):Option lC:=if n.2=true then none else some .ret
def nw(s:cB)(t:Tm):Bool:=(aA (vX fJ (iO s)) (0,true) (pre t 1)).2
theorem PC(s:cB)(hs:s.Fits)(t:Tm)(hf:t.fits)(hd:t.nK<=900000):aW Tryz.prog 173 [s.d,t.d] (.ret [.bool (nw s t)]):=by
 refine aW.aI mix WU aJ ?_
 rw[aaj]
 refine dc ?_
 refine eU (S2 3 _ _ _ (?_:dv 3 (au (au (au (fun _=> .no) 0 (.row s.row)) 1 (.row t.row)) 2 (.row [.d (.bool false)])) _ 3) _ _ fun o2 n2 m1 m2 m3=> ?_)
 ·exact⟨eW,Nat.le_refl _,fun _ _=>rfl⟩
 have p0:o2 0= .row s.row:=m2.eq 0 ae
 have p1:o2 1= .row t.row:=m2.eq 1 ae
 have p2:o2 2= .row [.d (.bool false)]:=m2.eq 2 ae
 have e0:0≠n2:=ae
 have e1:1≠n2:=ae
 have e2:2≠n2:=ae
 have e3:∀k,0≠n2+k:=fun k=>ae
 have e4:∀k,1≠n2+k:=fun k=>ae
 have e5:∀k,2≠n2+k:=fun k=>ae
 refine yU (ak p0 (ak p1 (ak p2 (ak e0 (ak e1 (ak e2 (ak e3 (ak e4 e5)))))))) ?_
 refine eU (EV t _ _ _ _ ?_)
 refine dc ?_
 have hG0:∀n,Good (au (au (au (au (au (au o2 n2 (.row (List.replicate 16 (.d .cK)))) (n2+1) (.row [.d (.i 0)])) n2 (.row Hz)) (n2+1) (.row [.d (.i 0)])) (n2+5) (.row t.row)) (n2+1) (.row [.d (.i n)])) (n2+9):=fun n=>by
  have hg:=m2.bE
  exact eW
 refine uV t hf hd [.ag, .ag, .ptr 0 0, .ag, .ptr 2 0, .ptr n2 0, .ptr (n2+1) 0] ?_ bG rfl ?_ (by simp[V.aM,V.refs];omega) (af _ _ _)
  (fun s=>au (au (au (au (au (au o2 n2 (.row (List.replicate 16 (.d .cK)))) (n2+1) (.row [.d (.i 0)])) n2 (.row Hz)) (n2+1) (.row [.d (.i 0)])) (n2+5) (.row t.row)) (n2+1) (.row [.d (.i s.1)]))
  fJ (iO s) (fun s=>0<=s.1/\s.1<=40) (0,true) ⟨bG,bG⟩ rfl ?_ ?_ ?_ ?_
 ·exact Kw
 ·have hg:=m2.bE
  exact eW
 ·intro id aq
  by_cases h:id=n2+1
  ·subst h;(repeat first|rfl|rw[af]|rw[ab _ _ _ _ (by omega)])
  ·rw[ab _ _ _ _ h];rfl
 ·intro x hx s' h1 h2 h3
  have:qb s s'.1 x=false:=by simpa[fJ,iO]using h3
  simp[qb]at this
  simp only[iO]
  omega
 ·intro L hL zA x hx s' h1 h2 o3 n3 hI hn ho K X de
  simp only[oP]
  have hg:=hI.bE
  have q0:o3 0= .row s.row:=by
   rw[hI.eq 0 (by omega)];(repeat first|rfl|rw[af]|rw[ab _ _ _ _ (by omega)])
   exact p0
  have q2:o3 2= .row [.d (.bool false)]:=by
   exact UR
  have q3:o3 n2= .row Hz:=by rw[hI.eq n2 (by omega)];(repeat first|rfl|rw[af]|rw[ab _ _ _ _ (by omega)])
  have q4:o3 (n2+1)= .row [.d (.i s'.1)]:=by rw[hI.eq (n2+1) (by omega)];(repeat first|rfl|rw[af]|rw[ab _ _ _ _ (by omega)])
  have fin:∀ (o':Nat->aa) (n':Nat),(∀id,id<n2+5+4->o' id=au o3 (n2+1) (.row [.d (.i (s'.1+1))]) id)->Good o' n'->n3<=n'->dv (n2+5+4) (au (au (au (au (au (au o2 n2 (.row (List.replicate 16 (.d .cK)))) (n2+1) (.row [.d (.i 0)])) n2 (.row Hz)) (n2+1) (.row [.d (.i 0)])) (n2+5) (.row t.row)) (n2+1) (.row [.d (.i (iO s s' x).1)])) o' n':=by
   intro o' n' k1 k2 k3
   refine⟨k2,ae,fun id aq=> ?_⟩
   rw[k1 id aq]
   by_cases h:id=n2+1
   ·subst h;rw[af,af];rfl
   ·rw[ab _ _ _ _ h,ab _ _ _ _ h,hI.eq id aq,ab _ _ _ _ h]
  refine dc ?_
  refine mL hL (pd:=none) ?_ ?_
  ·(repeat first|rfl|rw[af]|rw[ab _ _ _ _ (by omega)])
   exact ho
  cases c1:decide (40<s'.1+1)with
  |true=>
   have hJ:fJ (iO s s' x)=some .ret:=by simp[fJ,iO,qb,c1]
   rw[hJ]at de
   refine cz (ak q0 (ak q2 (ak q3 (ak q4 c1)))) ?_
   exact XT
  |false=>
  cases c2:decide (12<x.2)with
  |true=>
   have hJ:fJ (iO s s' x)=some .ret:=by simp[fJ,iO,qb,c2]
   rw[hJ]at de
   refine cz (ak q0 (ak q2 (ak q3 (ak q4 (ak c1 c2))))) ?_
   exact XT
  |false=>
  cases c3:ft x.1.op 1 15 with
  |false=>
   have hJ:fJ (iO s s' x)=some .ret:=by simp[fJ,iO,qb,c3]
   rw[hJ]at de
   refine cz (ak q0 (ak q2 (ak q3 (ak q4 (ak c1 c2))))) ?_
   refine aY (iB _ _ _) rfl ?_
   refine cz (ak q0 (ak q2 (ak q3 (ak q4 (ak c1 (ak c2 c3)))))) ?_
   exact XT
  |true=>
  obtain⟨r1,r2,r3,r4⟩:=aaG s x.1 hs c3
  refine cz (ak q0 (ak q2 (ak q3 (ak q4 (ak c1 c2))))) ?_
  refine aY (iB _ _ _) rfl ?_
  simp+contextual (disch:=first|omega|simp only[go_sem,false_implies]) only[go_sem,wrap64,if_pos,q0,q2,q3,q4,c1,c2,c3,r2,r3,r4,Nat.mul_one]
  refine aY r1 rfl ?_
  refine cz (ak q0 (ak q2 (ak q3 (ak q4 (ak c1 (ak c2 c3)))))) ?_
  refine aB (aD rfl) ?_
  cases c4:bJ s x.1 with
  |false=>
   have hJ:fJ (iO s s' x)=some .ret:=by simp[fJ,iO,qb,c4]
   rw[hJ]at de
   refine cz (ak q2 c4) ?_
   refine de _ _ _ .busy none ae (fin _ _ (fun id aq=>zy9) eW ae) cH (fun id h3 h4=>cH)
  |true=>
   have hJ:fJ (iO s s' x)=none:=by simp[fJ,iO,qb,c1,c2,c3,c4]
   rw[hJ]at de
   refine cz c4 ?_
   refine de _ _ _ .busy none ae (fin _ _ (fun id aq=>zy9) eW ae) cH (fun id h3 h4=>cH)
 ·intro o' n' hI
  have q2:o' 2= .row [.d (.bool false)]:=by
   exact UR
  rw[show nw s t=(fJ (aA (vX fJ (iO s)) (0,true) (pre t 1)).1).isNone from Co _ _ _ _ rfl]
  generalize (aA (vX fJ (iO s)) (0,true) (pre t 1)).1=sf at*
  cases hj:fJ sf with
  |none=>
   simp only[qI]
   refine cz q2 ?_
   rfl
  |some j=>
   have:j= .ret:=by
    unfold fJ at hj;split at hj
    ·cases hj
    ·injection hj with hj;exact hj.symm
   subst this
   simp only[qI]
   refine cz q2 ?_
   rfl
section
def enc{κ:Type}(kf:κ->D)(m:List (κ×D)):List (D×D):=m.map fun p=>(kf p.1,p.2)
def gW{κ:Type}[BEq κ](k:κ):List (κ×D)->Nat->Option (Nat×D)
 |[],_=>none
 |p::m,i=>if(k==p.1)=true then some (i,p.2)else gW k m (i+1)
def zl{κ:Type}[BEq κ](k:κ)(x:D)(m:List (κ×D)):List (κ×D):=match gW k m 0 with|some (i,_)=>m.set i (k,x)|none=>m++[(k,x)]
def ags{κ:Type}[BEq κ](k:κ)(m:List (κ×D)):List (κ×D):=match gW k m 0 with|some (i,_)=>m.eraseIdx i|none=>m
def zm(d:D)(r:Option (Nat×D)):Option (Nat×D×D):=match r with|some (i,x)=>some (i,d,x)|none=>none
@[go_sem] theorem acb (d:D) (i:Nat) (x:D):zm d (some (i,x))=some (i,d,x):=rfl
@[go_sem] theorem acd (d:D):zm d none=none:=rfl
section
variable {P:Program}{kt:TypeId}
theorem S3(h:bz P kt=some .int)(a b:Int):mX P 100 kt (.int .i64 a) (.int .i64 b)=some (a==b):=by simp[mX,h]
theorem S4(h:bz P kt=some .str)(a b:List UInt8):mX P 100 kt (.str a) (.str b)=some (a==b):=by simp[mX,h]
@[go_sem] theorem JK (h:bz P kt=some .int) (a:Int):jv P 100 kt (.int .i64 a)=true:=by simp[jv,h]
@[go_sem] theorem ag0 (h:bz P kt=some .str) (a:List UInt8):jv P 100 kt (.str a)=true:=by simp[jv,h]
theorem xT{κ:Type}[BEq κ][LawfulBEq κ](kf:κ->D)(he:∀a b,mX P 100 kt (kf a) (kf b)=some (a==b))(k:κ):∀ (m:List (κ×D)) (i:Nat),findD P kt (kf k) (enc kf m) i=some (zm (kf k) (gW k m i))
 |[],_=>rfl
 |p::m,i=>by
  have ih:=xT kf he k m (i+1)
  simp only[enc,List.map_cons,findD,he,gW]at ih|-
  by_cases h:k=p.1
  ·subst h;simp[zm]
  ·have:(k==p.1)=false:=by simpa using h
   simp only[this,Bool.false_eq_true,if_false];exact ih
@[go_sem] theorem EW (h:bz P kt=some .int) (k:Int) (m:List (Int×D)):findD P kt (.int .i64 k) (enc (.int .i64) m) 0=some (zm (.int .i64 k) (gW k m 0)):=xT (.int .i64) (S3 h) k m 0
@[go_sem] theorem agt (h:bz P kt=some .str) (k:List UInt8) (m:List (List UInt8×D)):findD P kt (.str k) (enc .str m) 0=some (zm (.str k) (gW k m 0)):=xT .str (S4 h) k m 0
end
section
variable {κ:Type}(kf:κ->D)
theorem PD(m:List (κ×D))(k:κ)(x:D):enc kf m++[(kf k,x)]=enc kf (m++[(k,x)]):=by simp[enc]
theorem JL(m:List (κ×D))(i:Nat)(k:κ)(x:D):(enc kf m).set i (kf k,x)=enc kf (m.set i (k,x)):=by simp[enc,List.map_set]
theorem AF:∀ (m:List (κ×D)) (i:Nat),(enc kf m).eraseIdx i=enc kf (m.eraseIdx i)
 |[],i=>rfl
 |p::m,0=>rfl
 |p::m,i+1=>by
  have:=AF m i
  simp only[enc,List.map_cons,List.eraseIdx_cons_succ]at this|-
  rw[this]
theorem S5(m:List (κ×D)):(((enc kf m).map (·.1)).zip ((enc kf m).map (·.2)))=enc kf m:=by
 induction m with
 |nil=>rfl
 |cons p m ih=>simp only[enc,List.map_cons,List.zip_cons_cons]at ih|-;rw[ih]
theorem LN{K:V->List (Nat×aa)->Prop}{id:Nat}{m:List (κ×D)}(h0:m=[]->K (.cc [.d (.bool false)]) [])
 (h1:∀ (i:Nat) k x,m[i]? =some (k,x)->K (.cc [.d (.bool true), .d (kf k), .d x]) [(id, .pW (enc kf (m.eraseIdx i)) (some (kf k,x)))]):Je K id (enc kf m):=by
 refine⟨fun h=>h0 ?_,fun i k x h=> ?_⟩
 ·cases m with
  |nil=>rfl
  |cons p m=>simp[enc]at h
 ·simp only[enc,List.getElem?_map]at h
  cases hm:m[i]? with
  |none=>rw[hm]at h;cases h
  |some p=>
   rw[hm]at h
   simp at h
   obtain⟨rfl,rfl⟩:=h
   have:=h1 i p.1 p.2 (by rw[hm])
   rwa [<- AF]at this
end
theorem EX{κ:Type}[BEq κ][LawfulBEq κ]{k:κ}:∀ {m:List (κ×D)} {i j:Nat} {x:D},gW k m i=some (j,x)->i<=j/\m[j - i]? =some (k,x)
 |[],_,_,_,h=>by cases h
 |p::m,i,j,x,h=>by
  simp only[gW]at h
  split at h
  ·rename_i hk
   injection h with h;injection h with h1 h2
   subst h1;subst h2
   exact⟨Nat.le_refl _,by simp[(by simpa using hk:k=p.1)]⟩
  ·obtain⟨h1,h2⟩:=EX h
   refine⟨ae, ?_⟩
   rw[show j - i=(j - (i+1))+1 by omega]
   simpa using h2
theorem AG{κ:Type}[BEq κ][LawfulBEq κ]{k:κ}:∀ {m:List (κ×D)} {i:Nat},gW k m i=none↔∀p∈m,p.1≠k
 |[],_=>by simp[gW]
 |p::m,i=>by
  simp only[gW]
  split
  ·rename_i hk
   simp[(by simpa using hk:k=p.1)]
  ·rename_i hk
   rw[AG]
   have:p.1≠k:=fun e=>hk (by simp[e])
   simp[this]
def sx(P:Program)(o:Nat->aa)(t:TypeId)(m k v:V):Option gM:=
 match rq P t,dS o k,dS o v,qj o m with
 |some (kt,_),some kd,some vd,some (some (id,Gd,Ge),l)=>if k.ids=[]/\jv P 100 kt kd=true/\jN kd=true/\v.ids.all (· !=id)=true then match findD P kt kd l 0 with
  |some (some (i,k',_))=>if k'.same kd=true then some (.cc [],bY o v.ids++[(id, .map Gd Ge (l.set i (kd,vd)))],id::v.ids)else none
  |some none=>some (.cc [],bY o v.ids++[(id, .map Gd Ge (l++[(kd,vd)]))],id::v.ids)
  |none=>none
  else none
 |_,_,_,_=>none
@[go_sem low] theorem AH (P:Program) (o:Nat->aa) (t:TypeId) (m v:V) (k:D):gI P o t m (.d k) v=sx P o t m (.d k) v:=by unfold gI sx;rfl
def xU(P:Program)(o:Nat->aa)(t:TypeId)(m k:V)(ok:Bool):Option gM:=
 match rq P t,dS o k,rr o m with
 |some (kt,vt),some kd,some (rd,l)=>if k.ids=[]/\jv P 100 kt kd=true then match findD P kt kd l 0 with
  |some (some (_,_,x))=>some (if ok=true then .cc [.d x, .d (.bool true)]else .d x,[],rd)
  |some none=>match zeroV P vt with
   |some z=>some (if ok=true then .cc [z, .d (.bool false)]else z,[],rd)
   |none=>none
  |none=>none
  else none
 |_,_,_=>none
@[go_sem low] theorem pM (P:Program) (o:Nat->aa) (t:TypeId) (m:V) (k:D) (ok:Bool):jq P o t m (.d k) ok=xU P o t m (.d k) ok:=by unfold jq xU;rfl
attribute [go_sem] xU sx pD oq ou qk ql ow rr qj ahj nH jN D.same
end
theorem dec_lt{l:List UInt8}{i:Nat}{b:UInt8}(hb:l[i]? =some b)(h:b.toNat<128):Utf8.decode ⟨⟨l⟩⟩ i=(b.toNat,1):=by
 have e:(ByteArray.mk ⟨l⟩).get! i=b:=by
  show(Array.mk l)[i]! =b
  simp[hb]
 simp only[Utf8.decode,Nat.add_zero,e]
 rw[if_pos h]
theorem aaH{l:List UInt8}{i:Nat}{b:UInt8}(hb:l[i]? =some b)(h:128<=b.toNat):128<=(Utf8.decode ⟨⟨l⟩⟩ i).1:=by
 have e:(ByteArray.mk ⟨l⟩).get! i=b:=by
  show(Array.mk l)[i]! =b
  simp[hb]
 simp only[Utf8.decode,Nat.add_zero,e]
 rw[if_neg (by omega)]
 split
 ·split<;>simp_all[Utf8.runeError]
 ·split
  ·split
   ·rename_i h3;simp at h3;omega
   ·simp[Utf8.runeError]
  ·split
   ·split
    ·rename_i h3;simp at h3;omega
    ·simp[Utf8.runeError]
   ·simp[Utf8.runeError]
def S6(r:Int):Bool:=decide (97<=r)&&decide (r<=122)||decide (65<=r)&&decide (r<=90)
theorem PE(b:UInt8):S6 b.toNat=letterF b:=by
 rw[Bool.eq_iff_iff]
 simp[S6,letterF]
theorem LO(s:List UInt8)(hs:s.length<=9223372036854775807):aW Tryz.prog 126 [.str s] (.ret [.bool (kT s)]):=by
 refine aW.aI mix Wt aJ ?_
 rw[ZU]
 refine ir ?_
 refine aw (fun k:Nat=>⟨aT [.d (.str s), .ag, .ag, .ag, .ag, .ag, .ptr 2 0],au (fun _=> .no) 2 (.yY s k),3⟩)
  (fun k=>k<=s.length/\(s.take k).all letterF=true) (fun k=>s.length - k) 0 ⟨Nat.zero_le _,aJ⟩ (aZ.aV _ ae ae (Good.nil.au ae rfl) (fun _ _=>rfl) ?_) (fun k hk=> ?_)
 ·exact bZ
 by_cases h2:k<s.length
 ·obtain⟨b,hb⟩:=az h2
  by_cases h3:b.toNat<128
  ·refine gu (ak h2 (dec_lt hb h3)) ?_
   have hr:=PE b
   simp only[S6]at hr
   rw[hr]
   cases hl:letterF b with
   |true=>
    refine ba ?_
    refine ai (k+1) ⟨h2,gv hb hk.2 hl⟩ ae (aZ.aV _ ae ae (Good.nil.au ae rfl) (fun _ _=>by rw[dW]) ?_)
    exact bZ
   |false=>
    refine ba ?_
    simp[kT,db hb hl]
  ·have hr:letterF b=false:=by
    rw[<- PE];simp[S6];omega
   have hd:=aaH hb ae
   refine gu h2 ?_
   have:(decide (97<=((Utf8.decode ⟨⟨s⟩⟩ k).1:Int))&&decide (((Utf8.decode ⟨⟨s⟩⟩ k).1:Int)<=122)||decide (65<=((Utf8.decode ⟨⟨s⟩⟩ k).1:Int))&&decide (((Utf8.decode ⟨⟨s⟩⟩ k).1:Int)<=90))=false:=by
    rw[Bool.eq_false_iff];intro h;simp at h;omega
   rw[this]
   refine ba ?_
   simp[kT,db hb hr]
 ·refine gu h2 ?_
  refine aF (iB _ _ _) rfl ?_
  refine ba ?_
  rw[kT,fF hk.2 (by omega),Bool.true_and]
theorem EY{σ:Type}(l:List jX)(hl:l.length<=9223372036854775807)(g:Nat)(aX:List V)(base:Nat)(H:σ->Nat->aa)(step:σ->jX->σ×Bool)(hc:∀r∈V.aM aX,r<base)(ok:σ->Prop)(bp:∀x∈l,∀s,ok s->(step s x).2=true->ok (step s x).1)
 (h:∀x∈l,∀s,ok s->mh Tryz.prog g (.d x.d::aX) base (H s) (H (step s x).1) (.d (.bool (step s x).2))) (s:σ) (kO:ok s):
 mh Tryz.prog 128 [.d (.sl (l.map jX.d)), .func (.func g) [] aX] base (H s) (H (aA step s l).1) (.d (.bool (aA step s l).2)):=by
 intro o nx hI K X hK
 have jb:∀r∈V.aM aX,r<nx:=fun r hr=>Nat.lt_of_lt_of_le (hc r hr) hI.le
 refine cX.aI mix Wv aJ ?_
 rw[ZW]
 refine dc ?_
 refine aw (fun i:Nat×σ×(Nat->aa)×Nat=>⟨aT [.ag, .func (.func g) [] aX, .ag, .ag, .ag, .ag, .ag, .d (.sl (l.map jX.d)), .d (.i l.length), .d (.i i.1)],i.2.2.1,i.2.2.2⟩)
  (fun i=>i.1<=l.length/\dv base (H i.2.1) i.2.2.1 i.2.2.2/\nx<=i.2.2.2/\(∀id,base<=id->id<nx->i.2.2.1 id=o id)/\aA step s l=aA step i.2.1 (l.drop i.1)/\ok i.2.1) (fun i=>l.length - i.1) (0,s,o,nx)
  ⟨Nat.zero_le _,hI,Nat.le_refl _,fun _ _ _=>rfl,rfl,kO⟩ ?_ ?_
 ·exact RF
 rintro⟨k,s',o',nx'⟩ ⟨hk,yW,hn,c8,hf,kB⟩
 simp only at hk yW hn c8 hf kB
 refine dc ?_
 refine aj (fun h1=> ?_) (fun h1=> ?_)
 ·simp at h1
  obtain⟨x,hx⟩:=az h1
  have dR:=List.mem_of_getElem? hx
  have hd:l.drop k=x::l.drop (k+1):=by
   exact zw6
  refine yU hx ?_
  have hl0:=yW.le
  refine ij (h x dR s' kB _ _ (?_:dv base (H s') _ (nx'+7)) _ _ fun o2 n2 m1 m2 m3=> ?_)
  ·exact acE
  have Py:∀id,base<=id->id<nx->o2 id=o id:=fun id h2 h3=>by
   exact acU
  refine dc ?_
  refine aj (fun h2=> ?_) (fun h2=> ?_)
  ·refine dc ?_
   simp at h2
   have:aA step s l=((step s' x).1,false):=by rw[hf,hd,aA,if_neg (by rw[h2];exact Bool.false_ne_true)]
   rw[this]at hK
   exact hK _ _ ae (m2.mono ae) Py
  ·refine dc ?_
   simp at h2
   have:aA step s l=aA step (step s' x).1 (l.drop (k+1)):=by rw[hf,hd,aA,if_pos h2]
   refine ai (k+1,(step s' x).1,o2,n2) ⟨h1,m2,by dsimp only;omega,Py,this,bp x dR s' kB h2⟩ jr ?_
   dsimp only
   have AD:∀r∈V.aM aX,r<n2:=fun r hr=>by have:=jb r hr;omega
   refine aZ.aV _ ae ae m2.bE (fun _ _=>rfl) ?_
   exact bZ
 ·exact UL
def qU(l:List (List UInt8)):List (List UInt8×D):=l.map fun s=>(s, .bool true)
theorem LP(l:List (List UInt8))(s:List UInt8):qU l++[(s, .bool true)]=qU (l++[s]):=by simp[qU]
theorem LQ{l:List (List UInt8)}{s:List UInt8}{i:Nat}{x:D}(h:gW s (qU l) 0=some (i,x)):x= .bool true/\(qU l).set i (s, .bool true)=qU l/\l.any (· ==s)=true:=by
 obtain⟨_,h2⟩:=EX h
 rw[Nat.sub_zero]at h2
 simp only[qU,List.getElem?_map]at h2
 cases hl:l[i]? with
 |none=>rw[hl]at h2;cases h2
 |some y=>
  rw[hl]at h2
  simp at h2
  obtain⟨rfl,rfl⟩:=h2
  refine⟨rfl, ?_, ?_⟩
  ·apply List.ext_getElem?
   intro j
   rw[List.getElem?_set]
   split
   ·rename_i e;subst e
    obtain⟨cS,hy⟩:=List.getElem?_eq_some_iff.1 hl
    simp[qU,cS,hy]
   ·rfl
  ·exact List.any_eq_true.2 ⟨y,List.mem_of_getElem? hl,aJ⟩
theorem LR{l:List (List UInt8)}{s:List UInt8}(h:gW s (qU l) 0=none):l.any (· ==s)=false:=by
 rw[AG]at h
 rw[List.any_eq_false]
 intro x hx hs
 have:=h (x, .bool true) (by simp[qU];exact hx)
 simp at hs;exact this hs
def S7(bs:List (List UInt8))(x:jX):Bool:= !bs.any (· ==x.name)&&kT x.name&&ft x.args 0 4
def jk(bs:List (List UInt8))(x:jX):List (List UInt8)×Bool:=(if bs.any (· ==x.name)=true then bs else bs++[x.name],S7 bs x)
theorem aaI(x:jX)(hx:x.name.length<=9223372036854775807)(base mp id:Nat)(h:Nat->aa)(hmp:h mp= .row [.mp id])(h1:mp<base)(h2:id<base)(h3:id≠mp)(bs:List (List UInt8)):
 mh Tryz.prog 125 [.d x.d, .ptr mp 0] base (au h id (.map 9 4 (enc .str (qU bs)))) (au h id (.map 9 4 (enc .str (qU (jk bs x).1)))) (.d (.bool (jk bs x).2)):=by
 intro o nx hI K X hK
 have hle:=hI.le
 have hg:=hI.bE
 have q0:o mp= .row [.mp id]:=by rw[hI.eq mp h1,ab _ _ _ _ (by omega),hmp]
 have q1:o id= .map 9 4 (enc .str (qU bs)):=by rw[hI.eq id h2,af]
 refine cX.aI mix Ws aJ ?_
 rw[ZT]
 cases ha:gW x.name (qU bs) 0 with
 |none=>
  have hn:=LR ha
  have hs:jk bs x=(bs++[x.name],kT x.name&&ft x.args 0 4):=by simp[jk,S7,hn]
  rw[hs]at hK
  refine cz (ak q0 (ak q1 ha)) ?_
  refine aF (LO _ hx) rfl ?_
  refine ba ?_
  refine gU (fD [.bool (ft x.args 0 4)] ?_ ?_)
  ·refine ba ?_
   exact fun _=>iB _ _ _
  refine ba ?_
  rw[PD,LP]
  refine hK _ _ ae ⟨eW,ae,fun j hj=> ?_⟩ (fun j g1 g2=>cH)
  ·by_cases e:j=id
   ·exact Da
   ·exact acT
 |some p=>
  obtain⟨i,y⟩:=p
  obtain⟨rfl,e1,hn⟩:=LQ ha
  have hs:jk bs x=(bs,false):=by simp[jk,S7,hn]
  rw[hs]at hK
  refine cz (ak q0 (ak q1 ha)) ?_
  rw[JL,e1]
  refine hK _ _ ae ⟨eW,ae,fun j hj=> ?_⟩ (fun j g1 g2=>cH)
  ·by_cases e:j=id
   ·exact Da
   ·exact acT
theorem qV:∀ (l:List jX) (bs:List (List UInt8)),match cC l bs with|some B=>aA jk bs l=(B,true)|none=>(aA jk bs l).2=false
 |[],bs=>rfl
 |x::l,bs=>by
  have ih:=qV l (bs++[x.name])
  simp only[cC,aA,jk,S7]
  by_cases h1:bs.any (· ==x.name)=true
  ·simp[h1]
  ·simp only[Bool.not_eq_true]at h1
   simp only[h1,Bool.false_eq_true,if_false,Bool.not_false,Bool.true_and]
   by_cases h2:(kT x.name&&ft x.args 0 4)=true
   ·have h3: ¬ ((!kT x.name|| !ft x.args 0 4)=true):=by simp at h2;simp[h2]
    rw[if_neg h3,if_pos h2]
    exact ih
   ·have h3:(!kT x.name|| !ft x.args 0 4)=true:=by
     cases hn:kT x.name<;>simp_all
    rw[if_pos h3,if_neg h2]
def qe(ok:Bool):Int:=if ok=true then 0 else 2
@[reducible] def LS (s:cB) (bs:List (List UInt8)):Nat->aa:=au (au (au (fun _=> .no) 0 (.row s.row)) 3 (.row [.mp 2])) 2 (.map 9 4 (enc .str (qU bs)))
theorem xV(s:cB)(hs:s.Fits):aW Tryz.prog 97 [s.d] (.ret [.i (qe (ke s))]):=by
 refine aW.aI mix ae4 aJ ?_
 rw[c97]
 refine ir ?_
 refine aF (iB _ _ _) rfl ?_
 refine ir ?_
 cases h1:(!ft s.cons.length 2 12||decide (8<(s.bX.length:Int)))with
 |true=>
  have:ke s=false:=by simp only[ke,h1,if_true]
  refine cz h1 ?_
  simp[this,qe]
 |false=>
  have GV:=qV s.cons []
  have wT:∀ (l:List jX),(∀x∈l,x.name.length<=9223372036854775807)->∀x∈l,∀bs,True->mh Tryz.prog 125 (.d x.d::[.ptr 3 0]) 4 (LS s bs) (LS s (jk bs x).1) (.d (.bool (jk bs x).2)):=fun l hl x hx bs _=>
   aaI x (hl x hx) 4 3 2 (au (au (fun _=> .no) 0 (.row s.row)) 3 (.row [.mp 2])) (af _ _ _) ae ae ae bs
  simp[ft]at h1
  obtain⟨a,b,r,hc⟩:∃a b r,s.cons=a::b::r:=by
   match h:s.cons with
   |[]=>exact Iu
   |[a]=>exact Iu
   |a::b::r=>exact⟨a,b,r,rfl⟩
  have nS:(!ft s.cons.length 2 12||decide (8<(s.bX.length:Int)))=false:=by simp[ft];omega
  have LL:ke s=if(!nT a fB|| !nT b tB)=true then false else match cC s.cons []with
   |none=>false
   |some l=>(cC s.bX l).isSome:=by
   unfold ke
   rw[if_neg (by rw[nS];exact Bool.false_ne_true),hc]
   dsimp only
   rfl
  refine cz nS ?_
  refine bg (EY s.cons hs.lc 125 [.ptr 3 0] 4 (LS s) jk ra (fun _=>True) (fun _ _ _ _ _=>trivial) (wT s.cons hs.nc) [] trivial _ _ ⟨?_,ae,fun id aq=> ?_⟩ _ _ fun o2 n2 m1 m2 m3=> ?_)
  ·exact eW
  ·rcases(by omega:id=0\/id=1\/id=2\/id=3)with rfl|rfl|rfl|rfl<;>rfl
  have p0:∀ {bs:List (List UInt8)} {o:Nat->aa} {n:Nat},dv 4 (LS s bs) o n->o 0= .row s.row:=fun h=>h.eq 0 ae
  have p3:∀ {bs:List (List UInt8)} {o:Nat->aa} {n:Nat},dv 4 (LS s bs) o n->o 3= .row [.mp 2]:=fun h=>h.eq 3 ae
  cases hn:cC s.cons []with
  |none=>
   rw[hn]at GV
   simp only at GV
   rw[GV]
   refine ir ?_
   rw[LL,hn]
   split<;>rfl
  |some B=>
   rw[hn]at GV
   simp only at GV
   rw[GV]at m2|-
   refine gu (p0 m2) ?_
   refine bg (EY s.bX hs.lf 125 [.ptr 3 0] 4 (LS s) jk ra (fun _=>True) (fun _ _ _ _ _=>trivial) (wT s.bX hs.nf) B trivial _ _ (m2.mono ae) _ _ fun o4 n4 k1 k2 k3=> ?_)
   have KN:=qV s.bX B
   cases hf:cC s.bX B with
   |none=>
    rw[hf]at KN
    simp only at KN
    rw[KN]
    refine ir ?_
    rw[LL,hn]
    simp only[hf]
    split<;>rfl
   |some C=>
    rw[hf]at KN
    simp only at KN
    rw[KN]at k2|-
    refine gu (ak (p0 k2) hc) ?_
    have Xb:ke s= !(!nT a fB|| !nT b tB):=by
     rw[LL,hn];simp only[hf]
     cases(!nT a fB|| !nT b tB)<;>rfl
    refine aj (fun h5=> ?_) (fun h5=> ?_)
    ·refine ba ?_
     have vK:(!nT a fB|| !nT b tB)=true:=h5
     rw[Xb,vK];rfl
    ·refine ba ?_
     have vK:(!nT a fB|| !nT b tB)=false:=h5
     rw[Xb,vK];rfl
def gk(s:cB)(l:List Tm):Bool:=ke s&&l.all (nw s)
theorem tg{α:Type}(p:α->Bool):∀ (l:List α) (u:Unit),aA (fun _ x=>((),p x)) u l=((),l.all p)
 |[],_=>rfl
 |x::l,u=>by
  simp only[aA,List.all_cons,tg p l]
  cases p x<;>rfl
theorem HA(l:List Tm)(hl:l.length<=9223372036854775807)(g:Nat)(aX:List V)(base:Nat)(h:Nat->aa)(p:Tm->Bool)(hc:∀r∈V.aM aX,r<base)
 (hp:∀x∈l,mh Tryz.prog g (.d x.d::aX) base h h (.d (.bool (p x)))):mh Tryz.prog 171 [.d (.sl (l.map Tm.d)), .func (.func g) [] aX] base h h (.d (.bool (l.all p))):=by
 have:=ES l hl g aX base (fun _:Unit=>h) (fun _ x=>((),p x)) hc (fun _=>True) (fun _ _ _ _ _=>trivial) (fun x hx _ _=>hp x hx) () trivial
 exact Nx
structure Tm.Fin (t:Tm):Prop where
 fits:t.fits
 nK:t.nK<=900000
theorem PF(s:cB)(hs:s.Fits)(t:Tm)(ht:t.Fin)(base sp:Nat)(h:Nat->aa)(yN:h sp= .row s.row)(hb:sp<base):mh Tryz.prog 172 [.d t.d, .ptr sp 0] base h h (.d (.bool (nw s t))):=by
 intro o nx hI K X hK
 have hle:=hI.le
 have hg:=hI.bE
 have q0:o sp= .row s.row:=by rw[hI.eq sp hb,yN]
 refine cX.aI mix WT aJ ?_
 rw[aai]
 refine cz q0 ?_
 refine aF (PC s hs t ht.fits ht.nK) rfl ?_
 exact adw
theorem JM(s:cB)(hs:s.Fits)(l:List Tm)(hl:l.length<=9223372036854775807)(hf:∀t∈l,t.Fin):aW Tryz.prog 159 [s.d, .sl (l.map Tm.d)] (.ret [.bool (gk s l)]):=by
 refine aW.aI mix WL aJ ?_
 rw[aab]
 refine ba ?_
 refine aF (xV s hs) rfl ?_
 cases h1:ke s with
 |false=>
  refine Gh ?_
  simp[gk,h1]
 |true=>
  refine Gh ?_
  refine bg (HA l hl 172 [.ptr 0 0] 1 (au (fun _=> .no) 0 (.row s.row)) (nw s) ra (fun x hx=>PF s hs x (hf x hx) 1 0 _ (af _ _ _) ae) _ _ ⟨eW,ae,fun id aq=>rfl⟩ _ _ fun o2 n2 m1 m2 m3=> ?_)
  refine ba ?_
  simp[gk,h1]
theorem S8(s:cB)(hs:s.Fits)(t:Tm)(ht:t.Fin):aW Tryz.prog 134 [s.d,t.d] (.ret [.i (qe (gk s [t]))]):=by
 refine aW.aI mix WB aJ ?_
 rw[Z2]
 refine ba ?_
 refine aF (JM s hs [t] aJ (fun x hx=>by simp at hx;subst hx;exact ht)) rfl ?_
 cases h1:gk s [t]with
 |false=>exact MW
 |true=>exact MW
def Tm.EZ (t:Tm):Int:=(pre t 1).length
structure Tm.HB (t:Tm):Prop extends t.Fin where
 size:t.EZ<=1000000
theorem Tm.Fin.kid {t k:Tm}(h:t.Fin)(hk:k∈t.kids):k.Fin:=⟨((Tm.bK _).1 h.fits).2 k hk,by have:=Tm.pI hk;have:=h.nK;omega⟩
theorem uW:∀ (t:Tm) (d d':Int),(pre t d).length=(pre t d').length:=by
 refine Tm.eJ fun t ih d d'=> ?_
 rw[kS,kS]
 simp only[List.length_cons,List.length_flatMap]
 congr 2
 exact List.map_congr_left fun k hk=>ih k hk _ _
theorem Tm.LU {t k:Tm}(hk:k∈t.kids):k.EZ+1<=t.EZ:=by
 simp only[Tm.EZ]
 rw[kS t,uW k 1 (1+1)]
 simp only[List.length_cons,List.length_flatMap]
 have:∀ (l:List Tm),k∈l->(pre k (1+1)).length<=(l.map fun k=>(pre k (1+1)).length).sum:=by
  intro l
  induction l with
  |nil=>intro h;cases h
  |cons x l ih=>
   intro h
   rcases List.mem_cons.1 h with rfl|h
   ·simp only[List.map_cons,List.sum_cons];omega
   ·have:=ih h;simp only[List.map_cons,List.sum_cons];omega
 have:=this _ hk
 omega
theorem Tm.HB.kid {t k:Tm}(h:t.HB)(hk:k∈t.kids):k.HB:=⟨h.toFin.kid hk,by have:=Tm.LU hk;have:=h.size;omega⟩
def Tm.sz (t:Tm):Nat:=(pre t 1).length
def iT(l:List Tm):Nat:=(l.map Tm.sz).sum
theorem Tm.sy (t:Tm):t.EZ=(t.sz:Int):=rfl
theorem Tm.jU (t:Tm):t.sz=1+iT t.kids:=by
 unfold Tm.sz iT
 rw[kS,List.length_cons,List.length_flatMap,Nat.add_comm]
 congr 2
 exact List.map_congr_left fun k hk=>uW k _ _
theorem Tm.Xc (op n:Int)(l:List Tm):(Tm.mk op n l).sz=1+iT l:=Tm.jU _
theorem iP(k:Tm)(l:List Tm):iT (k::l)=k.sz+iT l:=by simp[iT]
theorem AJ(k:Tm)(l:List Tm):Tm.nr (k::l)=Nat.max k.nK (Tm.nr l):=by simp[Tm.nr]
theorem vY:∀ (l:List Tm) (n:Nat),Tm.nr l<=n↔∀k∈l,k.nK<=n
 |[],n=>by simp[Tm.nr]
 |x::l,n=>by
  rw[AJ]
  simp only[List.mem_cons,forall_eq_or_imp, <- vY l n]
  exact Nat.max_le
theorem Tm.HC (t:Tm):t.nK=1+Tm.nr t.kids:=by cases t;simp[Tm.nK,Tm.kids]
theorem LV:∀t:Tm,∀left depth:Int,jz t left depth=if(t.sz:Int)<=left/\(t.nK:Int)<=depth then left - t.sz else -1:=by
 refine Tm.eJ fun t ih left depth=> ?_
 have hs:∀ (l:List Tm) (left d:Int),(∀k∈l,k∈t.kids)->0<=left->0<=d->cV l left d=if(iT l:Int)<=left/\(Tm.nr l:Int)<=d then left - iT l else -1:=by
  intro l
  induction l with
  |nil=>intro left d _ h1 h2;simp[cV,iT,Tm.nr,h1,h2]
  |cons k l xP=>
   intro left d hk h1 h2
   simp only[cV,if_pos h1]
   rw[ih k (hk k (by simp))]
   have hm:(Tm.nr (k::l):Int)<=d↔(k.nK:Int)<=d/\(Tm.nr l:Int)<=d:=by
    have:= @Nat.max_le k.nK (Tm.nr l) d.toNat
    have e:Tm.nr (k::l)=max k.nK (Tm.nr l):=AJ k l
    rw[e];omega
   simp only[iP,hm]
   by_cases hc:(k.sz:Int)<=left/\(k.nK:Int)<=d
   ·rw[if_pos hc,xP _ _ (fun x hx=>hk x (by simp[hx])) (by omega) h2]
    by_cases uE:(iT l:Int)<=left - k.sz/\(Tm.nr l:Int)<=d
    ·rw[if_pos uE,if_pos (by omega)];omega
    ·rw[if_neg uE,if_neg (by omega)]
   ·rw[if_neg hc,qT (by omega),if_neg (by omega)]
 rw[EN,Tm.jU,Tm.HC]
 by_cases h:left<1\/depth<1
 ·rw[if_pos h,if_neg (by omega)]
 ·rw[if_neg h,hs _ _ _ (fun _ h=>h) (by omega) (by omega)]
  by_cases hc:(iT t.kids:Int)<=left - 1/\(Tm.nr t.kids:Int)<=depth - 1
  ·rw[if_pos hc,if_pos (by omega)];omega
  ·rw[if_neg hc,if_neg (by omega)]
theorem xW(t:Tm)(left depth:Int):0<=jz t left depth↔(t.sz:Int)<=left/\(t.nK:Int)<=depth:=by
 rw[LV];split<;>omega
theorem xX(t:Tm):ma t=true↔t.sz<=50/\t.nK<=14:=by
 simp only[ma,decide_eq_true_eq,xW];omega
theorem LW:∀ (t:Tm) (d m:Int),(∀x∈pre t d,x.2<=m)↔d+t.nK - 1<=m:=by
 refine Tm.eJ fun t ih d m=> ?_
 rw[kS,Tm.HC]
 simp only[List.mem_cons,forall_eq_or_imp,List.mem_flatMap]
 have h1:(∀x:Tm×Int,(∃k,k∈t.kids/\x∈pre k (d+1))->x.2<=m)↔∀k∈t.kids,d+1+k.nK - 1<=m:=by
  constructor
  ·intro h k hk
   exact(ih k hk _ _).1 fun x hx=>h x ⟨k,hk,hx⟩
  ·rintro h x ⟨k,hk,hx⟩
   exact(ih k hk _ _).2 (h k hk) x hx
 rw[h1]
 constructor
 ·rintro⟨h2,h3⟩
  have:=(vY t.kids (m - d).toNat).2 fun k hk=>by have:=h3 k hk;omega
  omega
 ·intro h
  have:=(vY t.kids (m - d).toNat).1 ae
  exact⟨ae,fun k hk=>by have:=this k hk;omega⟩
theorem JN(p:Tm->Bool):∀ (t:Tm) (d:Int),(pre t d).all (fun x=>p x.1)=(p t&&t.kids.all fun k=>(pre k (d+1)).all fun x=>p x.1):=by
 intro t d
 rw[kS,List.all_cons,List.all_flatMap]
theorem xY(s:cB):∀ (t:Tm) (d:Int),kU s t=(pre t d).all fun x=>bJ s x.1:=by
 refine Tm.eJ fun t ih d=> ?_
 rw[JN (bJ s),tV]
 congr 1
 exact Vf
theorem PG{s:cB}{t:Tm}(h:bJ s t=true):ft t.op 1 15=true:=by
 rw[show ft t.op 1 15=true↔1<=t.op/\t.op<=15 by simp[ft]]
 by_cases h6:ft t.op 6 15=true
 ·simp[ft]at h6;omega
 ·simp only[bJ,if_neg h6]at h
  by_cases h1:t.op=1
  ·omega
  by_cases h2:t.op=2
  ·omega
  by_cases h3:t.op=3
  ·omega
  by_cases h4:t.op=4
  ·omega
  by_cases h5:t.op=5
  ·omega
  by_cases h8:t.op=8
  ·omega
  rw[if_neg h1,if_neg h2,if_neg h3,if_neg h4,if_neg h5,if_neg h8]at h
  cases h
def xZ(s:cB)(x:Tm×Int):Bool:= !(decide (12<x.2)|| !ft x.1.op 1 15|| !bJ s x.1)
theorem uX(s:cB):∀ (l:List (Tm×Int)) (n:Int) (b:Bool),(aA (vX fJ (iO s)) (n,b) l).2=(decide (l=[]\/n+l.length<=40)&&l.all (xZ s))
 |[],n,b=>by simp[aA]
 |x::l,n,b=>by
  have e1:∀c,qb s n x=c->vX fJ (iO s) (n,b) x=((n+1, !c), !c):=fun c hc=>by show((n+1, !qb s n x),(fJ (n+1, !qb s n x)).isNone)=_;rw[hc];cases c<;>rfl
  have hb:qb s n x=(decide (40<n+1)|| !xZ s x):=by simp[qb,xZ,Bool.or_assoc]
  rw[List.all_cons]
  cases hg:xZ s x with
  |false=>
   have e:qb s n x=true:=by rw[hb,hg];simp
   rw[aA,e1 _ e];simp
  |true=>
   by_cases h40:40<n+1
   ·have:decide (x::l=[]\/n+(x::l).length<=40)=false:=by simp;omega
    have e:qb s n x=true:=by rw[hb];simp[h40]
    rw[this,Bool.false_and,aA,e1 _ e];simp
   ·have e:qb s n x=false:=by rw[hb,hg];simp;omega
    rw[aA,e1 _ e]
    simp only[Bool.not_false,if_true,uX s l,Bool.true_and]
    congr 1
    cases l with
    |nil=>simp;omega
    |cons y l=>simp;omega
theorem HD(s:cB)(t:Tm):nw s t=gD s t:=by
 rw[nw,uX,gD,xY s t 1,Bool.eq_iff_iff]
 have hn:pre t 1≠[]:=by rw[kS];simp
 simp only[Bool.and_eq_true,decide_eq_true_eq,hn,false_or,xW,List.all_eq_true]
 have hd:=LW t 1 12
 constructor
 ·rintro⟨h1,h2⟩
  have h3:∀x∈pre t 1,x.2<=12:=fun x hx=>by have:=h2 x hx;simp[xZ]at this;omega
  have:=hd.1 h3
  exact⟨⟨by unfold Tm.sz;omega,ae⟩,fun x hx=>by have:=h2 x hx;simp[xZ]at this;exact this.2⟩
 ·rintro⟨⟨h1,h2⟩,h3⟩
  have h4:=hd.2 ae
  refine⟨by unfold Tm.sz at h1;omega,fun x hx=> ?_⟩
  have h5:=h4 x hx
  have h6:=h3 x hx
  have h7:=PG h6
  simp[xZ,h6,h7];omega
end Go.Proofs.YtnkamdiiakdkgaaGreat
