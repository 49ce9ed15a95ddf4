/-
  A PART OF THE PROOF. Conditions: none.
-/
import Derived.Test.YtnkamdiiakdkgaaGreatEl15
set_option linter.unusedSimpArgs false
set_option linter.unusedVariables false
namespace Go.Proofs.YtnkamdiiakdkgaaGreat
@[reducible] def mD (m:List Int):D:= .agg (m.map D.i)
def pH(l:List lx):List Int×Bool:=match sC l (-1) Jv with
 |some m=>(m,true)
 |none=>(Jv,false)
theorem aeg{α:Type}{l:List α}{k:Nat}(h:k<l.length):∃x,l[k]? =some x:=⟨l[k],by simp[h]⟩
theorem bF:∀l:List D,pf (l.map V.d)=some l
 |[]=>rfl
 |x::l=>by simp[pf,bF l]
theorem gR(m:List Int)(h:m.length=16):List.take 16 ((m.map D.i).map V.d)=(m.map D.i).map V.d:=List.take_of_length_le (by simp[h])
theorem bX(m:List Int)(h:m.length=16):((m.map D.i).map V.d).length=16:=by simp[h]
theorem sF(m:List Int)(k:Nat)(v:Int)(h:k<m.length):List.take k ((m.map D.i).map V.d)++[V.d (D.i v)]++List.drop (k+1) ((m.map D.i).map V.d)=((m.set k v).map D.i).map V.d:=by
 rw[List.set_eq_take_append_cons_drop,if_pos h]
 simp[List.map_take,List.map_drop]
theorem bw(l:List D):(D.agg l).cells=l:=rfl
@[reducible] def mR (m:List Int):ab:= .row ((m.map D.i).map V.d)
theorem jq:∀l:List D,V.aE (l.map V.d)=[]
 |[]=>rfl
 |x::l=>by simp[V.aE,V.refs,jq l]
theorem mO(m:List Int)(n:Nat):(mR m).refs.all (fun r=>decide (r<n))=true:=by
 show(V.aE ((m.map D.i).map V.d)).all _=true
 rw[jq];rfl
theorem Qg{l l':List lx}{last:Int}{m:List Int}{a:lx}(h:sC l (-1) Jv=sC (a::l') last m)(hb:a.f<0\/4<=a.f\/a.t<0\/4<=a.t\/a.f*4+a.t<=last):pH l=(Jv,false):=by
 unfold pH
 rw[h,sC,if_pos hb]
theorem HH(l:List lx)(hl:l.length<=1000000):aV Tryz.prog 48 [.sl (l.map lx.d)] (.ret [mD (pH l).1, .bool (pH l).2]):=by
 refine aV.aJ mix acM aI ?_
 rw[c48]
 refine a8 ?_
 refine az (fun i:Nat×Int×List Int=>⟨aU [.aa, .aa, .ptr 0 0, .aa, .ptr 2 0, .d (.i i.2.1), .aa, .aa, .d (.sl (l.map lx.d)), .d (.i l.length), .d (.i i.1)],ax (ax (fun _=> .no) 0 (.row [.d (.i 0), .d (.i 0), .d (.i 0), .d (.i 0), .d (.i 0), .d (.i 0), .d (.i 0), .d (.i 0), .d (.i 0), .d (.i 0), .d (.i 0), .d (.i 0), .d (.i 0), .d (.i 0), .d (.i 0), .d (.i 0)])) 2 (mR i.2.2),3⟩)
  (fun i=>i.1<=l.length/\i.2.2.length=16/\ -1<=i.2.1/\i.2.1<=15/\sC l (-1) Jv=sC (l.drop i.1) i.2.1 i.2.2) (fun i=>l.length - i.1) (0, -1,Jv) ⟨Nat.zero_le _,rfl,by dsimp only;omega,by dsimp only;omega,rfl⟩ (bt.aT _ ag ag ?_ (fun j hj=> ?_) ?_) ?_
 ·exact fm
 ·rfl
 ·exact cz
 rintro⟨k,last,m⟩ ⟨hk,hm,vl,YN,ht⟩
 simp only at hk hm vl YN ht
 refine a8 ?_
 refine aj (fun h2=> ?_) (fun h2=> ?_)
 ·simp at h2
  obtain⟨a,ha⟩:=aeg h2
  have hda:l.drop k=a::l.drop (k+1):=by
   obtain⟨g1,g2⟩:=List.getElem?_eq_some_iff.1 ha
   exact Lg
  rw[hda]at ht
  have gY:=Qg ht
  by_cases b1:a.f<0
  ·rw[gY (by omega)]
   have XF:decide (a.f<0)=true:=by simpa using b1
   refine xm ha XF ?_
   rfl
  have XF:decide (a.f<0)=false:=by simpa using b1
  by_cases b2:4<=a.f
  ·rw[gY (by omega)]
   have ZN:decide (4<=a.f)=true:=by simpa using b2
   refine xk ha XF ZN ?_
   rfl
  have ZN:decide (4<=a.f)=false:=by simpa using b2
  by_cases b3:a.t<0
  ·rw[gY (by omega)]
   have b3':decide (a.t<0)=true:=by simpa using b3
   simp+contextual (disch:=first|omega|simp only[go_sem,false_implies]) only[go_sem,wrap64,if_pos,ha,XF,ZN,b3']
   rfl
  have b3':decide (a.t<0)=false:=by simpa using b3
  by_cases b4:4<=a.t
  ·rw[gY (by omega)]
   have b4':decide (4<=a.t)=true:=by simpa using b4
   simp+contextual (disch:=first|omega|simp only[go_sem,false_implies]) only[go_sem,wrap64,if_pos,ha,XF,ZN,b3',b4']
   rfl
  have b4':decide (4<=a.t)=false:=by simpa using b4
  by_cases b5:a.f*4+a.t<=last
  ·rw[gY (by omega)]
   have b5':decide (a.f*4+a.t<=last)=true:=by simpa using b5
   refine KN ha XF ZN b3' b4' b5' ?_
   rfl
  have b5':decide (a.f*4+a.t<=last)=false:=by simpa using b5
  rw[sC,if_neg (by omega)]at ht
  have hK:a.f.toNat*4+a.t.toNat*1=a.k:=by unfold lx.k;omega
  have agQ:a.k<16:=by unfold lx.k;omega
  have g1:=sF m a.k 1 ag
  have g2:=sF (m.set a.k 1) a.k 2 (by rw[List.length_set];omega)
  rw[List.set_set]at g2
  refine KN ha XF ZN b3' b4' b5' ?_
  refine aH bI ?_
  cases hl:a.l with
  |true=>
   have hv:a.v=2:=by unfold lx.v;rw[hl];rfl
   rw[hv]at ht
   have KJ:a.k+1<=(m.set a.k 1).length:=by rw[List.length_set];omega
   simp+contextual (disch:=first|omega|simp only[go_sem,false_implies]) only[go_sem,wrap64,if_pos,hK,g1,hl,if_pos KJ]
   refine aH bI ?_
   refine xm hK g2 ?_
   refine ak (k+1,a.f*4+a.t,m.set a.k 2) ⟨h2,by rw[List.length_set];exact hm,by dsimp only;omega,by dsimp only;omega,ht⟩ kp (bt.aT _ (show 0<=3 from ag) ag ((Good.nil.ax ag rfl).ax ag (mO _ _)) (fun j hj=> ?_) ?_)
   ·by_cases e:j=2
    ·exact BK
    ·rw[ae _ 2 _ _ e,ae _ 2 _ _ e,ae _ _ _ _ (by omega),ae _ _ _ _ (by omega),ae _ 2 _ _ e,ae _ 2 _ _ e]
   ·exact cz
  |false=>
   have hv:a.v=1:=by unfold lx.v;rw[hl];rfl
   rw[hv]at ht
   refine xk hK g1 hl ?_
   refine ak (k+1,a.f*4+a.t,m.set a.k 1) ⟨h2,by rw[List.length_set];exact hm,by dsimp only;omega,by dsimp only;omega,ht⟩ kp (bt.aT _ (show 0<=3 from ag) ag ((Good.nil.ax ag rfl).ax ag (mO _ _)) (fun j hj=> ?_) ?_)
   ·by_cases e:j=2
    ·exact BK
    ·rw[ae _ 2 _ _ e,ae _ 2 _ _ e,ae _ _ _ _ (by omega),ae _ _ _ _ (by omega),ae _ 2 _ _ e]
   ·exact cz
 ·simp at h2
  rw[List.drop_eq_nil_of_le h2,sC]at ht
  have e:pH l=(m,true):=by unfold pH;rw[ht]
  rw[e]
  simp+contextual (disch:=first|omega|simp only[go_sem,false_implies]) only[go_sem,wrap64,if_pos,gR m hm,bF,bw,bX m hm]
theorem xW(cs:List D)(k:Nat):cw Tryz.prog 3 cs k=cs[k]? :=by
 have h:ct Tryz.prog 3=some false:=ai
 unfold cw;rw[h]
def rowOf(m:List Int)(i:Nat):List Int:=(m.drop (i*4)).take 4
theorem qZ(m:List Int)(i:Nat):List.take 4 (List.drop (i*4) ((m.map D.i).map V.d))=((rowOf m i).map D.i).map V.d:=by simp[rowOf,List.map_take,List.map_drop]
theorem oo{m:List Int}(hm:m.length=16){i k:Nat}(hi:i<4)(hk:k<4):((rowOf m i).map D.i)[k]? =some (D.i (m.getD (i*4+k) 0)):=by
 unfold rowOf
 rw[List.getElem?_map,List.getElem?_take_of_lt hk,List.getElem?_drop,List.getD_eq_getElem?_getD]
 have:i*4+k<m.length:=ag
 rw[List.getElem?_eq_getElem this];rfl
theorem Qh(a b c:Int):(if c>(if b>a then b else a)then c else(if b>a then b else a))=max (max a b) c:=by
 simp only[Int.max_def];repeat' split
 all_goals omega
def Dt(m n:List Int)(i k j:Nat):Nat->ab:=ax (ax (ax (ax (fun _=> .no) 0 (mR m)) 1 (mR n)) 2 (.row [.d (.i 0), .d (.i 0), .d (.i 0), .d (.i 0), .d (.i 0), .d (.i 0), .d (.i 0), .d (.i 0), .d (.i 0), .d (.i 0), .d (.i 0), .d (.i 0), .d (.i 0), .d (.i 0), .d (.i 0), .d (.i 0)])) 3 (mR (ku m n i k j))
theorem j7(m n:List Int)(i k j:Nat):Good (Dt m n i k j) 4:=(((Good.nil.ax ag (mO _ _)).ax ag (mO _ _)).ax ag rfl).ax ag (mO _ _)
theorem thH_0(m n:List Int)(i k j:Nat):Dt m n i k j 0=mR m:=by unfold Dt;rw[ae _ _ _ _ (by omega),ae _ _ _ _ (by omega),ae _ _ _ _ (by omega),af]
theorem thH_1(m n:List Int)(i k j:Nat):Dt m n i k j 1=mR n:=by unfold Dt;rw[ae _ _ _ _ (by omega),ae _ _ _ _ (by omega),af]
theorem thH_3(m n:List Int)(i k j:Nat):Dt m n i k j 3=mR (ku m n i k j):=by unfold Dt;rw[af]
theorem thH_2(m n:List Int)(i k j:Nat):Dt m n i k j 2= .row [.d (.i 0), .d (.i 0), .d (.i 0), .d (.i 0), .d (.i 0), .d (.i 0), .d (.i 0), .d (.i 0), .d (.i 0), .d (.i 0), .d (.i 0), .d (.i 0), .d (.i 0), .d (.i 0), .d (.i 0), .d (.i 0)]:=by unfold Dt;rw[ae _ _ _ _ (by omega),af]
theorem A0(m n:List Int)(hm:m.length=16)(hn:n.length=16):aV Tryz.prog 49 [mD m,mD n] (.ret [mD (c7 m n)]):=by
 refine aV.aJ mix acN aI ?_
 rw[c49]
 refine a8 ?_
 refine az (fun i:Nat=>⟨aU [.aa, .aa, .ptr 0 0, .ptr 1 0, .ptr 2 0, .ptr 3 0, .aa, .aa, .aa, .aa, .aa, .d (.i i)],Dt m n i 0 0,4⟩)
  (fun i=>i<=4) (fun i=>4 - i) 0 (Nat.zero_le _) (bt.aT _ (show 0<=4 from ag) ag (j7 _ _ _ _ _) (fun j hj=> ?_) ?_) (fun i hi=> ?_)
 ·unfold Dt;rw[outS_0];rfl
 ·exact cz
 replace hi:i<=4:=hi
 refine a8 ?_
 refine aj (fun h1=> ?_) (fun h1=> ?_)
 ·replace h1:i<4:=by simp at h1;omega
  have li:i*4+4<=((m.map D.i).map V.d).length:=by rw[bX m hm];omega
  simp+contextual (disch:=first|omega|simp only[go_sem,false_implies]) only[go_sem,wrap64,if_pos,thH_0,Int.toNat_natCast,qZ,bF,if_pos li]
  refine az (fun k:Nat=>⟨aU [.aa, .aa, .ptr 0 0, .ptr 1 0, .ptr 2 0, .ptr 3 0, .d (.i i), .aa, .aa, .aa, .aa, .d (.i i), .aa, .aa, .aa, .aa, .d (.agg ((rowOf m i).map D.i)), .d (.i k)],Dt m n i k 0,4⟩)
   (fun k=>k<=4) (fun k=>4 - k) 0 (Nat.zero_le _) (bt.aT _ (show 0<=4 from ag) ag (j7 _ _ _ _ _) (fun j hj=>rfl) ?_) (fun k hk=> ?_)
  ·exact cz
  replace hk:k<=4:=hk
  refine a8 ?_
  refine aj (fun h2=> ?_) (fun h2=> ?_)
  ·replace h2:k<4:=by simp at h2;omega
   have lk:k*4+4<=((n.map D.i).map V.d).length:=by rw[bX n hn];omega
   have hx:=oo hm h1 h2
   simp+contextual (disch:=first|omega|simp only[go_sem,false_implies]) only[go_sem,wrap64,if_pos,thH_1,Int.toNat_natCast,Nat.mul_one,qZ,bF,if_pos lk,xW,hx,Option.map_some]
   refine az (fun j:Nat=>⟨aU [.aa, .aa, .ptr 0 0, .ptr 1 0, .ptr 2 0, .ptr 3 0, .d (.i i), .d (.i k), .d (.i (m.getD (i*4+k) 0)), .aa, .aa, .d (.i i), .aa, .aa, .aa, .aa, .d (.agg ((rowOf m i).map D.i)), .d (.i k), .aa, .aa, .aa, .aa, .aa, .d (.agg ((rowOf n k).map D.i)), .d (.i j)],Dt m n i k j,4⟩)
    (fun j=>j<=4) (fun j=>4 - j) 0 (Nat.zero_le _) (bt.aT _ (show 0<=4 from ag) ag (j7 _ _ _ _ _) (fun j hj=>rfl) ?_) (fun j hj=> ?_)
   ·exact cz
   replace hj:j<=4:=hj
   refine a8 ?_
   refine aj (fun h3=> ?_) (fun h3=> ?_)
   ·replace h3:j<4:=by simp at h3;omega
    have hy:=oo hn h2 h3
    have ho:((ku m n i k j).map D.i |>.map V.d)[i*4+j]? =some (V.d (D.i (fA m n i j k))):=by
     rw[List.getElem?_map,List.getElem?_map,He m n i k j h1 h3];rfl
    have iY:=Jw m n i k j h1 h3
    have ua:=fM m n i k j
    have KJ:i*4+j+1<=((ku m n i k j).map D.i |>.map V.d).length:=by rw[bX _ ua];omega
    have M0:=sF (ku m n i k j) (i*4+j) (xH m n i j (fA m n i j k) k) (by rw[ua];omega)
    rw[<- iY]at M0
    refine Z7 hy ?_
    by_cases hc:m.getD (i*4+k) 0≠0/\n.getD (k*4+j) 0≠0
    ·have s8:(m.getD (i*4+k) 0!=0&&n.getD (k*4+j) 0!=0)=true:=by simp[bne_iff_ne];exact hc
     have EB:xH m n i j (fA m n i j k) k=max (max (fA m n i j k) (m.getD (i*4+k) 0)) (n.getD (k*4+j) 0):=by unfold xH;rw[if_pos hc]
     rw[EB]at M0
     simp+contextual (disch:=first|omega|simp only[go_sem,false_implies]) only[go_sem,wrap64,if_pos,s8,thH_3,Int.toNat_natCast,Nat.mul_one,ho,GJ,Qh,M0,if_pos KJ]
     refine aH bI ?_
     refine a8 ?_
     refine ak (j+1) h3 ag (bt.aT _ (show 0<=4 from ag) ag (j7 _ _ _ _ _) (fun q hq=> ?_) ?_)
     ·unfold Dt;rw[df]
     ·exact cz
    ·have s8:(m.getD (i*4+k) 0!=0&&n.getD (k*4+j) 0!=0)=false:=by
      rw[Bool.eq_false_iff];intro h;apply hc
      rw[Bool.and_eq_true,bne_iff_ne,bne_iff_ne]at h;exact h
     have EB:xH m n i j (fA m n i j k) k=fA m n i j k:=by unfold xH;rw[if_neg hc]
     have Cq:ku m n i k (j+1)=ku m n i k j:=by
      rw[iY,EB]
      refine iO (by rw[List.length_set];exact ua) ua fun p hp=> ?_
      rw[List.getElem?_set]
      split
      ·rename_i e;subst e;rw[if_pos (by rw[ua];omega),He m n i k j h1 h3]
      ·rfl
     refine jz s8 ?_
     refine ak (j+1) h3 ag (bt.aT _ (show 0<=4 from ag) ag (j7 _ _ _ _ _) (fun q hq=> ?_) ?_)
     ·unfold Dt;rw[Cq]
     ·exact cz
   ·have mf:j=4:=by simp at h3;omega
    subst mf
    refine a8 ?_
    refine ak (k+1) h2 ag (bt.aT _ (show 0<=4 from ag) ag (j7 _ _ _ _ _) (fun q hq=> ?_) ?_)
    ·unfold Dt;rw[V9]
    ·exact cz
  ·have mJ:k=4:=by simp at h2;omega
   subst mJ
   refine a8 ?_
   refine ak (i+1) h1 ag (bt.aT _ (show 0<=4 from ag) ag (j7 _ _ _ _ _) (fun q hq=> ?_) ?_)
   ·unfold Dt;rw[Wa]
   ·exact cz
 ·have ma:i=4:=by simp at h1;omega
  subst ma
  have l16:=bX _ (fM m n 4 0 0)
  have t16:=gR _ (fM m n 4 0 0)
  simp+contextual (disch:=first|omega|simp only[go_sem,false_implies]) only[go_sem,wrap64,if_pos,thH_3,thH_2,t16,l16,bF,bw]
  rw[Wb]
theorem Du{c:Nat}{G:List Gr}{so:Nat->ab}{gone:Nat->Prop}{x x' y y':ab}(h:x=y)(h':x'=y')(hs:uj c G so gone y y'):uj c G so gone x x':=by rw[h,h'];exact hs
def Oo(m:List Int)(c:Nat)(l:List lx):Nat->ab:=ax (ax (fun _=> .no) 0 (mR m)) c (.arr 0 64 3 (l.map lx.d))
theorem q9(m:List Int)(l:List lx):Good (Oo m 4 l) 5:=(Good.nil.ax ag (mO _ _)).ax ag rfl
theorem lsH_0(m:List Int)(l:List lx):Oo m 4 l 0=mR m:=by unfold Oo;rw[ae _ _ _ _ (by omega),af]
theorem lsH_4(m:List Int)(l:List lx):Oo m 4 l 4= .arr 0 64 3 (l.map lx.d):=by unfold Oo;rw[af]
theorem XG(m:List Int)(hm:m.length=16):aV Tryz.prog 67 [mD m] (.ret [.sl ((mn m 16).map lx.d)]):=by
 refine aV.aJ mix acS aI ?_
 rw[c67]
 refine a8 ?_
 have hg:Good (ax (fun _=> .no) 0 (mR m)) 4:=Good.nil.ax ag (mO _ _)
 refine az (fun i:Nat=>⟨aU [.aa, .ptr 0 0, .aa, .osl 4 0, .aa, .aa, .aa, .d (.i i)],Oo m 4 (mn m (i*4)),5⟩)
  (fun i=>i<=4) (fun i=>4 - i) 0 (Nat.zero_le _) (bt.xK (ty:=64) (sz:=3) (es:=[]) (fun _=>False) .aZ 4 _ ag (fun j hj=> ?_) (by unfold Oo;rw[af];rfl) (.inl ⟨rfl,rfl,bI⟩) (fun j hj=> ?_) (fun _ h=>h.elim) ?_) (fun i hi=> ?_)
 ·exact Du (y:=ax (fun _=> .no) 0 (mR m) j) rfl (by unfold Oo;rw[ae _ _ _ _ (by omega)]) (cV rfl (fun r hr=>hg.refs j r hr))
 ·exact ON
 ·exact tU
 replace hi:i<=4:=hi
 refine a8 ?_
 refine aj (fun h1=> ?_) (fun h1=> ?_)
 ·replace h1:i<4:=by simp at h1;omega
  have li:i*4+4<=((m.map D.i).map V.d).length:=by rw[bX m hm];omega
  simp+contextual (disch:=first|omega|simp only[go_sem,false_implies]) only[go_sem,wrap64,if_pos,lsH_0,Int.toNat_natCast,qZ,bF,if_pos li]
  refine az (fun j:Nat=>⟨aU [.aa, .ptr 0 0, .aa, .osl 4 0, .d (.i i), .aa, .aa, .d (.i i), .aa, .aa, .aa, .aa, .d (.agg ((rowOf m i).map D.i)), .d (.i j)],Oo m 4 (mn m (i*4+j)),5⟩)
   (fun j=>j<=4) (fun j=>4 - j) 0 (Nat.zero_le _) (bt.aT _ (show 0<=5 from ag) ag (q9 _ _) (fun j hj=>rfl) ?_) (fun j hj=> ?_)
  ·exact cz
  replace hj:j<=4:=hj
  refine a8 ?_
  refine aj (fun h2=> ?_) (fun h2=> ?_)
  ·replace h2:j<4:=by simp at h2;omega
   have hx:=oo hm h1 h2
   have hls:=Mo m (i*4+j)
   have e1:(i*4+j)/4=i:=ag
   have e2:(i*4+j)%4=j:=ag
   rw[e1,e2]at hls
   refine Z7 hx ?_
   have hlen:=AH m (i*4+j)
   refine aj (fun h3=> ?_) (fun h3=> ?_)
   ·have mf:m.getD (i*4+j) 0≠0:=by simpa using h3
    rw[if_pos mf]at hls
    simp+contextual (disch:=first|omega|simp only[go_sem,false_implies]) only[go_sem,wrap64,if_pos,lsH_4,List.length_map]
    have hgl:=q9 m (mn m (i*4+j))
    refine ak (j+1) h2 ag (bt.xK (fun j=>j=4) (.osl 4 1) 4 _ ag (fun q hq=> ?_) (lsH_4 _ _) (.inr ⟨4,1,rfl,rfl, ?_⟩) (fun q hq=> ?_) (fun q h h2=>ag) ?_)
    ·exact Du (y:=ax (fun _=> .no) 0 (mR m) q) ON ON (cV rfl (fun r hr=>hg.refs q r hr))
    ·(repeat(first|rfl|rw[af]|rw[ae _ _ _ _ (by omega)]))
     rw[<- Nat.add_assoc,hls,List.map_append];rfl
    ·exact ON
    ·exact tU
   ·have mf: ¬m.getD (i*4+j) 0≠0:=by simpa using h3
    rw[if_neg mf,List.append_nil]at hls
    refine a8 ?_
    refine ak (j+1) h2 ag (bt.aT _ (show 0<=5 from ag) ag (q9 _ _) (fun q hq=> ?_) ?_)
    ·rw[<- Nat.add_assoc,hls]
    ·exact cz
  ·have mJ:j=4:=by simp at h2;omega
   subst mJ
   refine a8 ?_
   refine ak (i+1) h1 ag (bt.aT _ (show 0<=5 from ag) ag (q9 _ _) (fun q hq=> ?_) ?_)
   ·rw[show(i+1)*4=i*4+4 by omega]
   ·exact cz
 ·have ma:i=4:=by simp at h1;omega
  subst ma
  simp+contextual (disch:=first|omega|simp only[go_sem,false_implies]) only[go_sem,wrap64,if_pos,lsH_4]
theorem XH{B:List Int}(hB:B.length=16){i j a b:Nat}(hi:i<4)(hj:j<4)(ha:a<4)(hb:b<4)(v:Int):mg (B.set (i*4+j) v) a b=if a=i/\b=j then v else mg B a b:=by
 unfold mg
 rw[List.getD_eq_getElem?_getD,List.getD_eq_getElem?_getD,List.getElem?_set]
 by_cases h:a=i/\b=j
 ·obtain⟨rfl,rfl⟩:=h
  rw[if_pos rfl,if_pos (show a*4+b<B.length by omega),if_pos ⟨rfl,rfl⟩];rfl
 ·rw[if_neg (show ¬ (i*4+j=a*4+b) by omega),if_neg h]
def WJ(r:Nat->Nat->Bool)(k i j:Nat)(B:List Int):Prop:=B.length=16/\∀a b,a<4->b<4->(mg B a b≠0↔(wR r k a b=true\/((a<i\/a=i/\b<j)/\wR r (k+1) a b=true)))
theorem wk1(r:Nat->Nat->Bool)(k i:Nat):wR r (k+1) i k=wR r k i k:=by simp only[wR];cases wR r k i k<;>simp
theorem wk2(r:Nat->Nat->Bool)(k j:Nat):wR r (k+1) k j=wR r k k j:=by simp only[wR];cases wR r k k j<;>cases wR r k k k<;>simp
theorem WJ_0{m:List Int}(hm:m.length=16):WJ (eW m) 0 0 0 m:=by
 refine⟨hm,fun a b ha hb=> ?_⟩
 constructor
 ·intro h;exact .inl (dC.2 ⟨ha,hb,h⟩)
 ·rintro(h|⟨h,_⟩)
  ·exact(dC.1 h).2.2
  ·omega
theorem XI{r:Nat->Nat->Bool}{k i:Nat}{B:List Int}(h:WJ r k i 4 B):WJ r k (i+1) 0 B:=by
 refine⟨h.1,fun a b ha hb=>(h.2 a b ha hb).trans ?_⟩
 constructor
 ·rintro(h|⟨h,h2⟩)
  ·exact .inl h
  ·exact BP
 ·rintro(h|⟨h,h2⟩)
  ·exact .inl h
  ·exact BP
theorem Qi{r:Nat->Nat->Bool}{k:Nat}{B:List Int}(h:WJ r k 4 0 B):WJ r (k+1) 0 0 B:=by
 refine⟨h.1,fun a b ha hb=>(h.2 a b ha hb).trans ?_⟩
 constructor
 ·rintro(h|⟨_,h2⟩)
  ·exact .inl (by simp only[wR,h,Bool.true_or])
  ·exact .inl h2
 ·rintro(h|⟨h,_⟩)
  ·exact .inr ⟨.inl ha,h⟩
  ·omega
theorem T3{r:Nat->Nat->Bool}{k i j a:Nat}{B:List Int}(h:WJ r k i j B)(ha:a<4)(hk:k<4):mg B a k≠0↔wR r k a k=true:=by
 rw[h.2 a k ha hk,wk1]
 exact⟨fun h=>h.elim id fun h=>h.2, .inl⟩
theorem T4{r:Nat->Nat->Bool}{k i j b:Nat}{B:List Int}(h:WJ r k i j B)(hb:b<4)(hk:k<4):mg B k b≠0↔wR r k k b=true:=by
 rw[h.2 k b hk hb,wk2]
 exact⟨fun h=>h.elim id fun h=>h.2, .inl⟩
theorem XJ{r:Nat->Nat->Bool}{k i j:Nat}{B:List Int}(h:WJ r k i j B)(hi:i<4)(hj:j<4)(hk:k<4)(h1:mg B i k≠0)(h2:mg B k j≠0):WJ r k i (j+1) (B.set (i*4+j) 2):=by
 have g1:=(T3 h hi hk).1 h1
 have g2:=(T4 h hj hk).1 h2
 refine⟨by rw[List.length_set];exact h.1,fun a b ha hb=> ?_⟩
 rw[XH h.1 hi hj ha hb]
 by_cases e:a=i/\b=j
 ·obtain⟨rfl,rfl⟩:=e
  rw[if_pos ⟨rfl,rfl⟩]
  exact⟨fun _=> .inr ⟨.inr ⟨rfl,ag⟩,by simp only[wR,g1,g2,Bool.and_self,Bool.or_true]⟩,fun _=>bI⟩
 ·rw[if_neg e,h.2 a b ha hb]
  constructor
  ·rintro(h|⟨h,h2⟩)
   ·exact .inl h
   ·exact BP
  ·rintro(h|⟨h,h2⟩)
   ·exact .inl h
   ·exact BP
theorem T5{r:Nat->Nat->Bool}{k i j:Nat}{B:List Int}(h:WJ r k i j B)(hi:i<4)(hj:j<4)(hk:k<4)(h1: ¬ (mg B i k≠0/\mg B k j≠0)):WJ r k i (j+1) B:=by
 refine⟨h.1,fun a b ha hb=>(h.2 a b ha hb).trans ?_⟩
 constructor
 ·rintro(h|⟨h,h2⟩)
  ·exact .inl h
  ·exact BP
 ·rintro(g|⟨g,g2⟩)
  ·exact .inl g
  ·by_cases e:a=i/\b=j
   ·obtain⟨rfl,rfl⟩:=e
    simp only[wR,Bool.or_eq_true,Bool.and_eq_true]at g2
    rcases g2 with g2|g2
    ·exact .inl g2
    ·exact absurd ⟨(T3 h ha hk).2 g2.1,(T4 h hb hk).2 g2.2⟩ h1
   ·exact .inr ⟨ag,g2⟩
theorem uN{B:List Int}(hB:B.length=16){i j:Nat}(hi:i<4)(hj:j<4):((B.map D.i).map V.d)[i*4+j]? =some (V.d (D.i (mg B i j))):=by
 unfold mg
 rw[List.getElem?_map,List.getElem?_map,List.getElem?_eq_getElem (by omega),List.getD_eq_getElem?_getD,List.getElem?_eq_getElem (by omega)];rfl
def oI(m:List Int)(i j:Nat):Bool:=decide (mg m i j=2)&&(decide (i=j)||wR (eW m) 4 j i)
theorem Dv{m:List Int}{i j:Nat}(hi:i<4)(hj:j<4)(h:oI m i j=true):kR m=true:=by
 unfold oI at h
 simp only[Bool.and_eq_true,Bool.or_eq_true,decide_eq_true_eq]at h
 exact oj.2 ⟨i,j,hi,hj,h.1,h.2⟩
theorem JH{m:List Int}(h:∀i j,i<4->j<4->oI m i j=false):kR m=false:=by
 rw[Bool.eq_false_iff]
 intro h2
 obtain⟨i,j,hi,hj,h3,h4⟩:=oj.1 h2
 have:=h i j hi hj
 unfold oI at this
 rw[Bool.eq_false_iff]at this
 exact this (by simp only[Bool.and_eq_true,Bool.or_eq_true,decide_eq_true_eq];exact⟨h3,h4⟩)
def K2(m B:List Int):Nat->ab:=ax (ax (fun _=> .no) 0 (mR m)) 3 (mR B)
theorem ee(m B:List Int):Good (K2 m B) 4:=(Good.nil.ax ag (mO _ _)).ax ag (mO _ _)
theorem faH_0(m B:List Int):K2 m B 0=mR m:=aaL
theorem faH_3(m B:List Int):K2 m B 3=mR B:=aaL
set_option maxHeartbeats 2000000 in
theorem Qj(m:List Int)(hm:m.length=16):aV Tryz.prog 50 [mD m] (.ret [.bool (kR m)]):=by
 refine aV.aJ mix acO aI ?_
 rw[c50]
 simp+contextual (disch:=first|omega|simp only[go_sem,false_implies]) only[go_sem,wrap64,if_pos,gR m hm,bF,bw,bX m hm]
 refine az (fun i:Nat×List Int=>⟨aU [.aa, .ptr 0 0, .aa, .ptr 3 0, .aa, .aa, .aa, .aa, .aa, .aa, .aa, .d (.i i.1)],K2 m i.2,4⟩)
  (fun i=>i.1<=4/\WJ (eW m) i.1 0 0 i.2) (fun i=>4 - i.1) (0,m) ⟨Nat.zero_le _,WJ_0 hm⟩ (bt.aT _ (show 0<=4 from ag) ag (ee _ _) (fun j hj=> ?_) ?_) ?_
 ·unfold K2;rw[df]
 ·exact cz
 rintro⟨k,B⟩ ⟨hk,hB⟩
 simp only at hk hB
 refine a8 ?_
 refine aj (fun h1=> ?_) (fun h1=> ?_)
 ·replace h1:k<4:=by simp at h1;omega
  refine a8 ?_
  refine az (fun i:Nat×List Int=>⟨aU [.aa, .ptr 0 0, .aa, .ptr 3 0, .d (.i k), .aa, .aa, .aa, .aa, .aa, .aa, .d (.i k), .aa, .aa, .d (.i i.1)],K2 m i.2,4⟩)
   (fun i=>i.1<=4/\WJ (eW m) k i.1 0 i.2) (fun i=>4 - i.1) (0,B) ⟨Nat.zero_le _,hB⟩ (bt.aT _ (show 0<=4 from ag) ag (ee _ _) (fun j hj=>rfl) ?_) ?_
  ·exact cz
  rintro⟨i,B⟩ ⟨hi,hB⟩
  simp only at hi hB
  refine a8 ?_
  refine aj (fun h2=> ?_) (fun h2=> ?_)
  ·replace h2:i<4:=by simp at h2;omega
   refine a8 ?_
   refine az (fun j:Nat×List Int=>⟨aU [.aa, .ptr 0 0, .aa, .ptr 3 0, .d (.i k), .d (.i i), .aa, .aa, .aa, .aa, .aa, .d (.i k), .aa, .aa, .d (.i i), .aa, .aa, .d (.i j.1)],K2 m j.2,4⟩)
    (fun j=>j.1<=4/\WJ (eW m) k i j.1 j.2) (fun j=>4 - j.1) (0,B) ⟨Nat.zero_le _,hB⟩ (bt.aT _ (show 0<=4 from ag) ag (ee _ _) (fun j hj=>rfl) ?_) ?_
   ·exact cz
   rintro⟨j,B⟩ ⟨hj,hB⟩
   simp only at hj hB
   have hl:=bX B hB.1
   refine a8 ?_
   refine aj (fun h3=> ?_) (fun h3=> ?_)
   ·replace h3:j<4:=by simp at h3;omega
    have g1:=uN hB.1 h2 h1
    have g2:=uN hB.1 h1 h3
    have KJ:i*4+k+1<=((B.map D.i).map V.d).length:=by rw[hl];omega
    have le2:k*4+j+1<=((B.map D.i).map V.d).length:=by rw[hl];omega
    have le3:i*4+j+1<=B.length:=by rw[hB.1];omega
    cases c1:(mg B i k !=0)with
    |false=>
     simp+contextual (disch:=first|omega|simp only[go_sem,false_implies]) only[go_sem,wrap64,if_pos,faH_3,Int.toNat_natCast,Nat.mul_one,g1,if_pos KJ,c1]
     refine ak (j+1,B) ⟨h3,T5 hB h2 h3 h1 (fun h=>by simp at c1;exact h.1 c1)⟩ kp (bt.aT _ (show 0<=4 from ag) ag (ee _ _) (fun q hq=>rfl) ?_)
     exact cz
    |true=>
     cases c2:(mg B k j !=0)with
     |false=>
      simp+contextual (disch:=first|omega|simp only[go_sem,false_implies]) only[go_sem,wrap64,if_pos,faH_3,Int.toNat_natCast,Nat.mul_one,g1,g2,if_pos KJ,if_pos le2,c1,c2]
      refine ak (j+1,B) ⟨h3,T5 hB h2 h3 h1 (fun h=>by simp at c2;exact h.2 c2)⟩ kp (bt.aT _ (show 0<=4 from ag) ag (ee _ _) (fun q hq=>rfl) ?_)
      exact cz
     |true=>
      have M0:=sF B (i*4+j) 2 (by rw[hB.1];omega)
      simp+contextual (disch:=first|omega|simp only[go_sem,false_implies]) only[go_sem,wrap64,if_pos,faH_3,Int.toNat_natCast,Nat.mul_one,g1,g2,if_pos KJ,if_pos le2,if_pos le3,c1,c2,M0]
      refine ak (j+1,B.set (i*4+j) 2) ⟨h3,XJ hB h2 h3 h1 (by simpa using c1) (by simpa using c2)⟩ kp (bt.aT _ (show 0<=4 from ag) ag (ee _ _) (fun q hq=> ?_) ?_)
      ·unfold K2;rw[df]
      ·exact cz
   ·have mf:j=4:=by simp at h3;omega
    subst mf
    refine a8 ?_
    refine ak (i+1,B) ⟨h2,XI hB⟩ kp (bt.aT _ (show 0<=4 from ag) ag (ee _ _) (fun q hq=>rfl) ?_)
    exact cz
  ·have mJ:i=4:=by simp at h2;omega
   subst mJ
   refine a8 ?_
   refine ak (k+1,B) ⟨h1,Qi hB⟩ kp (bt.aT _ (show 0<=4 from ag) ag (ee _ _) (fun q hq=>rfl) ?_)
   exact cz
 ·have ma:k=4:=by simp at h1;omega
  subst ma
  have hb:∀a b,a<4->b<4->(mg B a b≠0↔wR (eW m) 4 a b=true):=fun a b ha hb=>by
   rw[hB.2 a b ha hb]
   exact⟨fun h=>h.elim id fun h=>ag, .inl⟩
  have hl:=bX B hB.1
  refine a8 ?_
  refine az (fun i:Nat=>⟨aU [.aa, .ptr 0 0, .aa, .ptr 3 0, .aa, .aa, .aa, .aa, .aa, .aa, .aa, .aa, .aa, .aa, .aa, .aa, .aa, .aa, .aa, .aa, .aa, .aa, .aa, .aa, .aa, .aa, .aa, .aa, .aa, .aa, .aa, .aa, .aa, .aa, .aa, .aa, .aa, .aa, .aa, .aa, .aa, .d (.i i)],K2 m B,4⟩)
   (fun i=>i<=4/\∀a b,a<i->b<4->oI m a b=false) (fun i=>4 - i) 0 ⟨bI,fun a b h=>absurd h (Nat.not_lt_zero _)⟩ (bt.aT _ (show 0<=4 from ag) ag (ee _ _) (fun j hj=>rfl) ?_) ?_
  ·exact cz
  rintro i ⟨hi,gY⟩
  refine a8 ?_
  refine aj (fun h2=> ?_) (fun h2=> ?_)
  ·replace h2:i<4:=by simp at h2;omega
   have li:i*4+4<=((m.map D.i).map V.d).length:=by rw[bX m hm];omega
   simp+contextual (disch:=first|omega|simp only[go_sem,false_implies]) only[go_sem,wrap64,if_pos,faH_0,Int.toNat_natCast,qZ,bF,if_pos li]
   refine az (fun j:Nat=>⟨aU [.aa, .ptr 0 0, .aa, .ptr 3 0, .aa, .aa, .aa, .d (.i i), .aa, .aa, .aa, .aa, .aa, .aa, .aa, .aa, .aa, .aa, .aa, .aa, .aa, .aa, .aa, .aa, .aa, .aa, .aa, .aa, .aa, .aa, .aa, .aa, .aa, .aa, .aa, .aa, .aa, .aa, .aa, .aa, .aa, .d (.i i), .aa, .aa, .aa, .aa, .d (.agg ((rowOf m i).map D.i)), .d (.i j)],K2 m B,4⟩)
    (fun j=>j<=4/\∀b,b<j->oI m i b=false) (fun j=>4 - j) 0 ⟨bI,fun b h=>absurd h (Nat.not_lt_zero _)⟩ (bt.aT _ (show 0<=4 from ag) ag (ee _ _) (fun j hj=>rfl) ?_) ?_
   ·exact cz
   rintro j ⟨hj,aeh⟩
   refine a8 ?_
   refine aj (fun h3=> ?_) (fun h3=> ?_)
   ·replace h3:j<4:=by simp at h3;omega
    have hx:=oo hm h2 h3
    have Cr:((rowOf m i).map D.i)[j]? =some (D.i (mg m i j)):=hx
    have g1:=uN hB.1 h3 h2
    have KJ:j*4+i+1<=((B.map D.i).map V.d).length:=by rw[hl];omega
    have hbj:=hb j i h3 h2
    have next:∀h:oI m i j=false,j+1<=4/\∀b,b<j+1->oI m i b=false:=fun h=>⟨h3,fun b hb=>by
     by_cases e:b=j
     ·rw[e];exact h
     ·exact aeh b ag⟩
    cases c1:(mg m i j==2)with
    |false=>
     have hh:oI m i j=false:=by unfold oI;simp at c1;simp[c1]
     simp+contextual (disch:=first|omega|simp only[go_sem,false_implies]) only[go_sem,wrap64,if_pos,Int.toNat_natCast,Nat.mul_one,xW,Cr,Option.map_some,c1]
     exact abe
    |true=>
     have Qk:mg m i j=2:=by simpa using c1
     cases c2:((i:Int)==(j:Int))with
     |true=>
      have e:i=j:=by simp at c2;omega
      have hh:oI m i j=true:=by unfold oI;rw[Qk];simp[e]
      simp+contextual (disch:=first|omega|simp only[go_sem,false_implies]) only[go_sem,wrap64,if_pos,Int.toNat_natCast,Nat.mul_one,xW,Cr,Option.map_some,c1,c2]
      rw[Dv h2 h3 hh]
     |false=>
      have e:i≠j:=by simp at c2;omega
      cases c3:(mg B j i !=0)with
      |true=>
       have hh:oI m i j=true:=by unfold oI;rw[hbj.1 (by simpa using c3)];simp[Qk]
       simp+contextual (disch:=first|omega|simp only[go_sem,false_implies]) only[go_sem,wrap64,if_pos,Int.toNat_natCast,Nat.mul_one,xW,Cr,Option.map_some,c1,c2,c3,faH_3,g1,if_pos KJ]
       rw[Dv h2 h3 hh]
      |false=>
       have hh:oI m i j=false:=by
        unfold oI
        have:wR (eW m) 4 j i=false:=by
         rw[Bool.eq_false_iff];intro h;exact absurd (hbj.2 h) (by simpa using c3)
        rw[this];simp[e]
       simp+contextual (disch:=first|omega|simp only[go_sem,false_implies]) only[go_sem,wrap64,if_pos,Int.toNat_natCast,Nat.mul_one,xW,Cr,Option.map_some,c1,c2,c3,faH_3,g1,if_pos KJ]
       exact abe
   ·have mf:j=4:=by simp at h3;omega
    subst mf
    refine a8 ?_
    refine ak (i+1) ⟨h2,fun a b ha hb=> ?_⟩ ag (bt.aT _ (show 0<=4 from ag) ag (ee _ _) (fun q hq=>rfl) ?_)
    ·by_cases e:a=i
     ·rw[e];exact aeh b hb
     ·exact gY a b ag hb
    ·exact cz
  ·have mJ:i=4:=by simp at h2;omega
   subst mJ
   rw[JH (fun a b ha hb=>gY a b ha hb)]
   exact xV
theorem EM{l:List jo}{n:Int}{x:jo}(h:l[n.toNat]? =some x):fW l n=x.args:=by simp[fW,h]
theorem zM{l:List jo}{n:Int}(h:dR n 0 (l.length - 1)=true):0<=n/\∃x,l[n.toNat]? =some x:=by
 simp[dR]at h
 exact⟨h.1,l[n.toNat]'ag,aI⟩
theorem XK(s:bH)(t:Tm)(hs:s.Fits)(ht:t.kids.length<=9223372036854775807):aV Tryz.prog 122 [s.d,t.d] (.ret [.bool (bu s t)]):=by
 refine aV.aJ mix ado aI ?_
 rw[adn]
 refine cT ?_
 rcases(by omega:t.op=1\/t.op=2\/t.op=3\/t.op=4\/t.op=5\/t.op=8\/(t.op=6\/t.op=7\/t.op=9\/t.op=10\/t.op=11\/t.op=12\/t.op=13\/t.op=14\/t.op=15)\/(t.op<1\/15<t.op))with h|h|h|h|h|h|h|h
 ·have hn:bu s t=((t.kids.length:Int)==0&&dR t.n 0 19):=by simp[bu,h]
  refine ko h ?_
  refine fV (eR [.bool (dR t.n 0 19)] ?_ ?_)
  ·refine cT ?_
   exact Gw
  refine ko h ?_
  rw[hn]
 ·have hn:bu s t=((t.kids.length:Int)==0&&dR t.n (-1000000) 1000000):=by simp[bu,h]
  refine ko h ?_
  refine fV (eR [.bool (dR t.n (-1000000) 1000000)] ?_ ?_)
  ·refine cT ?_
   exact Gw
  refine ko h ?_
  rw[hn]
 ·have hn:bu s t=(dR t.n 0 (s.cons.length - 1)&&(t.kids.length:Int)==fW s.cons t.n):=by simp[bu,h]
  refine ko h ?_
  rw[wrap64 (by have:=hs.lc;omega) (by have:=hs.lc;omega)]
  refine aD (BR _ _ _) rfl ?_
  cases hI:dR t.n 0 (s.cons.length - 1)with
  |false=>
   exact Vf
  |true=>
   exact U0
 ·have hn:bu s t=(dR t.n 0 (s.bK.length - 1)&&(t.kids.length:Int)==fW s.bK t.n):=by simp[bu,h]
  refine ko h ?_
  rw[wrap64 (by have:=hs.lf;omega) (by have:=hs.lf;omega)]
  refine aD (BR _ _ _) rfl ?_
  cases hI:dR t.n 0 (s.bK.length - 1)with
  |false=>
   exact Vf
  |true=>
   exact U0
 ·have hn:bu s t=(dR t.n 0 (s.bK.length - 1)&&decide ((t.kids.length:Int)<fW s.bK t.n)):=by simp[bu,h]
  refine ko h ?_
  rw[wrap64 (by have:=hs.lf;omega) (by have:=hs.lf;omega)]
  refine aD (BR _ _ _) rfl ?_
  cases hI:dR t.n 0 (s.bK.length - 1)with
  |false=>
   exact Vf
  |true=>
   exact U0
 ·have hn:bu s t=((t.kids.length:Int)==2&&dR t.n 0 19):=by simp[bu,h]
  refine ko h ?_
  refine fV (eR [.bool (dR t.n 0 19)] ?_ ?_)
  ·refine cT ?_
   exact Gw
  refine ko h ?_
  rw[hn]
 ·have hn:bu s t=((t.kids.length:Int)==2&&t.n==0):=by
   rcases h with h|h|h|h|h|h|h|h|h<;>simp[bu,h,dR]
  rw[hn]
  rcases h with h|h|h|h|h|h|h|h|h<;>simp+contextual only[go_sem,h]
 ·have hn:bu s t=false:=by
   simp[bu,dR,show ¬ (t.op=1) by omega,show ¬ (t.op=2) by omega,show ¬ (t.op=3) by omega,show ¬ (t.op=4) by omega,show ¬ (t.op=5) by omega,show ¬ (t.op=8) by omega,show ¬ (6<=t.op/\t.op<=15) by omega]
  have e:∀k:Int,1<=k->k<=15->(t.op==k)=false:=fun k h1 h2=>by simp;omega
  simp+contextual only[go_sem,e 1 (by omega) (by omega),e 2 (by omega) (by omega),e 3 (by omega) (by omega),e 4 (by omega) (by omega),e 5 (by omega) (by omega),e 6 (by omega) (by omega),e 7 (by omega) (by omega),e 8 (by omega) (by omega),e 9 (by omega) (by omega),e 10 (by omega) (by omega),e 11 (by omega) (by omega),e 12 (by omega) (by omega),e 13 (by omega) (by omega),e 14 (by omega) (by omega),e 15 (by omega) (by omega)]
  rw[hn]
theorem sG(s:bH)(t:Tm):jX s t=(bu s t&&t.kids.all (jX s)):=by
 have:∀l:List Tm,uI s l=l.all (jX s):=fun l=>by
  induction l with
  |nil=>rfl
  |cons k l ih=>simp[uI,ih]
 cases t;simp[jX,this,Tm.kids]
theorem cK{α:Type}{l:List α}{p:α->Bool}{k:Nat}{x:α}(hx:l[k]? =some x)(h:p x=false):l.all p=false:=by
 rw[List.all_eq_false];exact⟨x,List.mem_of_getElem? hx,by rw[h];exact Bool.false_ne_true⟩
theorem fH{α:Type}{l:List α}{p:α->Bool}{k:Nat}{x:α}(hx:l[k]? =some x)(h0:(l.take k).all p=true)(h:p x=true):(l.take (k+1)).all p=true:=by
 rw[List.take_add_one,hx,List.all_append,h0];simp[h]
theorem eU{α:Type}{l:List α}{p:α->Bool}{k:Nat}(h0:(l.take k).all p=true)(h:l.length<=k):l.all p=true:=by
 rwa [List.take_of_length_le h]at h0
theorem aF{α:Type}{l:List α}{k:Nat}(h:k<l.length):∃x,l[k]? =some x:=⟨l[k],by simp[h]⟩
@[reducible] def bH.row (s:bH):List V:=[.d (.sl (s.cons.map jo.d)), .d (.sl (s.bK.map jo.d))]
theorem Ql(s:bH)(hs:s.Fits):∀t:Tm,t.fits->aV Tryz.prog 87 [s.d,t.d] (.ret [.bool (jX s t)]):=by
 refine Tm.fy fun t ih hf=> ?_
 have oU:=(Tm.bZ _).1 hf
 refine aV.aJ mix af3 aI ?_
 rw[c87]
 refine cT ?_
 refine aD (XK s t hs oU.1) rfl ?_
 refine cT ?_
 rw[sG]
 refine aj (fun h1=> ?_) (fun h1=> ?_)
 ·refine cT ?_
  simp at h1;simp[h1]
 ·simp at h1
  rw[h1,Bool.true_and]
  refine cT ?_
  refine az (fun k:Nat=>⟨aU [.aa, .aa, .ptr 0 0, .ptr 1 0, .aa, .d (.i k)],FO s.row t.row,2⟩)
   (fun k=>k<=t.kids.length/\(t.kids.take k).all (jX s)=true) (fun k=>t.kids.length - k) 0 ⟨Nat.zero_le _,aI⟩ (bt.d2 _ (kS rfl rfl) ag rfl rfl ?_) (fun k hk=> ?_)
  ·exact cz
  refine cT ?_
  refine aj (fun h2=> ?_) (fun h2=> ?_)
  ·simp at h2
   obtain⟨x,hx⟩:=aF h2
   have gf:=List.mem_of_getElem? hx
   refine ko hx ?_
   refine ba (ih x gf (oU.2 x gf)) rfl ?_
   refine cT ?_
   refine aH bI ?_
   refine cT ?_
   refine aj (fun h3=> ?_) (fun h3=> ?_)
   ·refine cT ?_
    simp at h3
    rw[cK hx h3]
   ·refine cT ?_
    simp at h3
    refine ak (k+1) ⟨h2,fH hx hk.2 h3⟩ ag (bt.d2 _ (kS rfl rfl) ag rfl rfl ?_)
    exact cz
  ·refine cT ?_
   simp at h2
   rw[eU hk.2 h2]
theorem M3(s:bH)(hs:s.Fits)(t:Tm)(hf:t.fits):aV Tryz.prog 61 [s.d,t.d] (.ret [.bool (fL s t)]):=by
 refine aV.aJ mix afU aI ?_
 rw[c61]
 refine cT ?_
 refine aD (HD t hf 40 12 ag ag) rfl ?_
 refine cT ?_
 refine fV (eR [.bool (jX s t)] ?_ ?_)
 ·refine cT ?_
  exact fun _=>Ql s hs t hf
 refine cT ?_
 rfl
theorem sH:∀l l':List Tm,l.length=l'.length->(lp l l'=true↔∀ (i:Nat) (x y:Tm),l[i]? =some x->l'[i]? =some y->kO x y=true)
 |[],l',_=>by simp[lp]
 |k::l,k'::l',h=>by
  simp only[lp,Bool.and_eq_true]
  rw[sH l l' (by simpa using h)]
  constructor
  ·rintro⟨h1,h2⟩ i x y hx hy
   cases i with
   |zero=>simp at hx hy;subst hx;subst hy;exact h1
   |succ i=>exact h2 i x y x7 (by simpa using hy)
  ·intro h3
   exact⟨h3 0 k k' rfl rfl,fun i x y hx hy=>h3 (i+1) x y x7 (by simpa using hy)⟩
 |_::_,[],h=>by simp at h
theorem M4(a b:Tm):kO a b=(a.op==b.op&&a.n==b.n&&a.kids.length==b.kids.length&&lp a.kids b.kids):=by cases a;cases b;simp[kO,Tm.op,Tm.n,Tm.kids]
theorem HI(t:Tm)(hf:t.fits):aV Tryz.prog 68 [t.d] (.ret [.bool (lq t)]):=by
 refine aV.aJ mix afV aI ?_
 rw[c68]
 refine cT ?_
 refine aD (HD t hf 50 14 ag ag) rfl ?_
 refine cT ?_
 rfl
theorem FP(s:bH)(hs:s.Fits):aV Tryz.prog 69 [s.d] (.ret [.bool (iy s)]):=by
 refine aV.aJ mix afW aI ?_
 rw[c69]
 refine cT ?_
 refine aj (fun h1=> ?_) (fun h1=> ?_)
 ·refine cT ?_
  simp only[iy,h1];rfl
 ·have e:iy s=(fP s.cons&&fP s.bK):=by simp only[iy,h1];rfl
  rw[e]
  simp at h1
  refine cT ?_
  refine az (fun k:Nat=>⟨aU [.aa, .ptr 0 0, .aa, .d (.i k)],jh s.row,1⟩)
   (fun k=>k<=s.cons.length/\fP (s.cons.take k)=true) (fun k=>s.cons.length - k) 0 ⟨Nat.zero_le _,by simp[fP]⟩ (bt.d1 _ (aX rfl) ag rfl ?_) (fun k hk=> ?_)
  ·exact cz
  refine cT ?_
  refine aj (fun h2=> ?_) (fun h2=> ?_)
  ·simp at h2
   obtain⟨x,hx⟩:=aF h2
   refine ko hx ?_
   refine aj (fun h3=> ?_) (fun h3=> ?_)
   ·refine cT ?_
    rw[show fP s.cons=false from cK hx (by simpa using h3)];rfl
   ·refine cT ?_
    refine ak (k+1) ⟨h2,fH hx hk.2 (by simpa using h3)⟩ ag (bt.d1 _ (aX rfl) ag rfl ?_)
    exact cz
  ·simp at h2
   rw[show fP s.cons=true from eU hk.2 h2,Bool.true_and]
   refine cT ?_
   refine az (fun k:Nat=>⟨aU [.aa, .ptr 0 0, .aa, .aa, .d (.i k)],jh s.row,1⟩)
    (fun k=>k<=s.bK.length/\fP (s.bK.take k)=true) (fun k=>s.bK.length - k) 0 ⟨Nat.zero_le _,by simp[fP]⟩ (bt.d1 _ (aX rfl) ag rfl ?_) (fun k hk=> ?_)
   ·exact cz
   refine cT ?_
   refine aj (fun h4=> ?_) (fun h4=> ?_)
   ·simp at h4
    obtain⟨x,hx⟩:=aF h4
    refine ko hx ?_
    refine aj (fun h3=> ?_) (fun h3=> ?_)
    ·refine cT ?_
     rw[show fP s.bK=false from cK hx (by simpa using h3)]
    ·refine cT ?_
     refine ak (k+1) ⟨h4,fH hx hk.2 (by simpa using h3)⟩ ag (bt.d1 _ (aX rfl) ag rfl ?_)
     exact cz
   ·simp at h4
    rw[show fP s.bK=true from eU hk.2 h4]
    simp+contextual only[go_sem]
section
theorem Dw{σ:Type}(l:List Tm)(hl:l.length<=9223372036854775807)(g:Nat)(aM:List V)(base:Nat)(H:σ->Nat->ab)(step:σ->Tm->σ×Bool)(hc:∀r∈V.aE aM,r<base)(ok:σ->Prop)(aW:∀x∈l,∀s,ok s->(step s x).2=true->ok (step s x).1)
 (h:∀x∈l,∀s,ok s->jg Tryz.prog g (.d x.d::aM) base (H s) (H (step s x).1) (.d (.bool (step s x).2))) (s:σ) (iL:ok s):
 jg Tryz.prog 171 [.d (.sl (l.map Tm.d)), .func (.func g) [] aM] base (H s) (H (aw step s l).1) (.d (.bool (aw step s l).2)):=by
 intro o nx hI K X hK
 have fu:∀r∈V.aE aM,r<nx:=fun r hr=>Nat.lt_of_lt_of_le (hc r hr) hI.le
 refine cH.aJ mix TK aI ?_
 rw[Xj]
 refine cT ?_
 refine az (fun i:Nat×σ×(Nat->ab)×Nat=>⟨aU [.aa, .func (.func g) [] aM, .aa, .aa, .aa, .aa, .aa, .d (.sl (l.map Tm.d)), .d (.i l.length), .d (.i i.1)],i.2.2.1,i.2.2.2⟩)
  (fun i=>i.1<=l.length/\cR base (H i.2.1) i.2.2.1 i.2.2.2/\nx<=i.2.2.2/\(∀id,base<=id->id<nx->i.2.2.1 id=o id)/\aw step s l=aw step i.2.1 (l.drop i.1)/\ok i.2.1) (fun i=>l.length - i.1) (0,s,o,nx)
  ⟨Nat.zero_le _,hI,Nat.le_refl _,fun _ _ _=>rfl,rfl,iL⟩ ?_ ?_
 ·exact Ls
 rintro⟨k,s',o',nx'⟩ ⟨hk,uw,hn,cP,hf,iG⟩
 simp only at hk uw hn cP hf iG
 refine cT ?_
 refine aj (fun h1=> ?_) (fun h1=> ?_)
 ·simp at h1
  obtain⟨x,hx⟩:=aF h1
  have gf:=List.mem_of_getElem? hx
  have hd:l.drop k=x::l.drop (k+1):=by
   exact YO
  refine KO hx ?_
  have hl0:=uw.le
  refine dQ (h x gf s' iG _ _ (?_:cR base (H s') _ (nx'+7)) _ _ fun o2 n2 m1 m2 m3=> ?_)
  ·exact aaq
  have M5:∀id,base<=id->id<nx->o2 id=o id:=fun id h2 h3=>by
   exact aaF
  refine cT ?_
  refine aj (fun h2=> ?_) (fun h2=> ?_)
  ·refine cT ?_
   simp at h2
   have:aw step s l=((step s' x).1,false):=by rw[hf,hd,aw,if_neg (by rw[h2];exact Bool.false_ne_true)]
   rw[this]at hK
   exact hK _ _ ag (m2.mono ag) M5
  ·refine cT ?_
   simp at h2
   have:aw step s l=aw step (step s' x).1 (l.drop (k+1)):=by rw[hf,hd,aw,if_pos h2]
   refine ak (k+1,(step s' x).1,o2,n2) ⟨h1,m2,by dsimp only;omega,M5,this,aW x gf s' iG h2⟩ kp ?_
   dsimp only
   have wh:∀r∈V.aE aM,r<n2:=fun r hr=>by have:=fu r hr;omega
   refine bt.aT _ ag ag m2.bn (fun _ _=>rfl) ?_
   exact cz
 ·exact abj
theorem A1{α σ:Type}(step:σ->α->σ×Bool)(a b:List α):∀s,aw step s (a++b)=if(aw step s a).2=true then aw step (aw step s a).1 b else((aw step s a).1,false):=by
 induction a with
 |nil=>intro s;simp[aw]
 |cons x a ih=>
  intro s
  simp only[List.cons_append,aw]
  split
  ·exact ih _
  ·rename_i h;simp
theorem wk{α β σ:Type}(step:σ->β->σ×Bool)(f:α->List β)(l:List α):∀s,aw step s (l.flatMap f)=aw (fun s x=>aw step s (f x)) s l:=by
 induction l with
 |nil=>intro s;rfl
 |cons x l ih=>intro s;simp only[List.flatMap_cons,A1,aw,ih]
theorem BO{α σ:Type}{step:σ->α->σ×Bool}{ok:σ->Prop}:∀ (l:List α),(∀x∈l,∀s,ok s->(step s x).2=true->ok (step s x).1)->∀s,ok s->(aw step s l).2=true->ok (aw step s l).1
 |[],_,s,h,_=>h
 |x::l,aW,s,h,h2=>by
  simp only[aw]at h2|-
  split at h2
  ·rename_i hb
   rw[if_pos hb]
   exact BO l (fun y hy=>aW y kD) _ (aW x aI s h hb) h2
  ·cases h2
def ZO(P:Program)(nP:Nat)(args:List V)(base:Nat)(h h2:Nat->ab)(v:V):Prop:=
 ∀o nx,cR base h o nx->∀K X,StK base h2 v o nx K->dI P nP args o nx K X
section
variable {σ:Type}(base nP:Nat)(H:σ->Nat->ab)(step:σ->Tm×Int->σ×Bool)(ok:σ->Prop)
theorem Qm:∀t:Tm,t.fits->∀d:Int,0<=d->d+t.nI<=1000000->(∀x∈pre t d,∀s,ok s->(step s x).2=true->ok (step s x).1)->(∀x∈pre t d,∀s,ok s->ZO Tryz.prog nP [.d x.1.d, .d (.i x.2)] base (H s) (H (step s x).1) (.d (.bool (step s x).2)))->nP<base->
 ∀ (c:Nat) (o0:Nat->ab) (yb vb:Nat),base<=c->base<=yb->yb<c->base<=vb->vb<c->o0 yb= .row [.ju nP]->o0 vb= .row [.func (.func 175) [] [.ptr yb 0, .ptr vb 0]]->
 ∀s,ok s->jg Tryz.prog 175 [.d t.d, .d (.i d), .ptr yb 0, .ptr vb 0] c (ext base (H s) o0) (ext base (H (aw step s (pre t d)).1) o0) (.d (.bool (aw step s (pre t d)).2)):=by
 refine Tm.fy fun t ih hf d hd0 hd aW hR wm c o0 yb vb Ot OC hy OD hv oy ov s iL=> ?_
 have oU:=(Tm.bZ _).1 hf
 intro o nx hI K X hK
 have hle:=hI.le
 have Qn:o yb= .row [.ju nP]:=by rw[hI.eq yb hy];unfold ext;rw[if_neg (by omega),oy]
 have Qo:o vb= .row [.func (.func 175) [] [.ptr yb 0, .ptr vb 0]]:=by rw[hI.eq vb hv];unfold ext;rw[if_neg (by omega),ov]
 have y1:yb≠nx:=ag
 have y2:∀k,yb≠nx+k:=fun k=>ag
 have y3:vb≠nx:=ag
 have y4:∀k,vb≠nx+k:=fun k=>ag
 refine cH.aJ mix TO aI ?_
 rw[Xn]
 simp+contextual only[go_sem,Qn,Qo,y1,y2,y3,y4,Nat.add_assoc,Nat.left_eq_add,Nat.add_eq_left,Nat.add_left_cancel_iff]
 have o9:=jV t d
 have kq:∀k∈t.kids,∀x∈pre k (d+1),x∈pre t d:=fun k hk x hx=>by
  exact RF
 have hb:∀id,id<base->o id=H s id:=fun id aq=>by rw[hI.eq id (by omega)];unfold ext;rw[if_pos aq]
 have hIb:cR base (H s) o nx:=⟨hI.bn,ag,hb⟩
 refine nO (hR (t,d) BT s iL _ _ ((hIb.ax (i:=nx) (m:=nx+6) ag ag ag rfl).ax (i:=nx+1) ag ag ag rfl) _ _ fun o2 n2 m1 m2 m3=> ?_)
 have k0:o2 nx= .row t.row:=by rw[m3 nx (by omega) (by omega),ae _ _ _ _ (by omega),af]
 have k1:o2 (nx+1)= .row [.d (.i d)]:=by rw[m3 (nx+1) (by omega) (by omega),af]
 have hold:∀id,base<=id->id<nx->o2 id=o id:=fun id h1 h2=>by rw[m3 id h1 (by omega),ae _ _ _ _ (by omega),ae _ _ _ _ (by omega)]
 have EK:∀id,base<=id->id<c->o id=o0 id:=fun id h1 h2=>by rw[hI.eq id h2];unfold ext;rw[if_neg (by omega)]
 cases Dx:(step s (t,d)).2 with
 |false=>
  refine ko Dx ?_
  have zc:aw step s (pre t d)=((step s (t,d)).1,false):=by rw[o9,aw,if_neg (by rw[Dx];exact Bool.false_ne_true)]
  rw[zc]at hK
  refine hK _ _ ag ⟨m2.bn.mono ag,ag,fun id aq=> ?_⟩ (fun id h1 h2=>hold id ag h2)
  unfold ext
  split
  ·exact m2.eq id p8
  ·exact KW
 |true=>
  have zc:aw step s (pre t d)=aw (fun s k=>aw step s (pre k (d+1))) (step s (t,d)).1 t.kids:=by rw[o9,aw,if_pos Dx,wk]
  simp+contextual only[go_sem,Dx,k0,k1]
  have q0:o2 yb= .row [.ju nP]:=by rw[hold yb OC (by omega),Qn]
  have q1:o2 vb= .row [.func (.func 175) [] [.ptr yb 0, .ptr vb 0]]:=by rw[hold vb OD (by omega),Qo]
  have m0:=m2.le
  refine aS (Dw t.kids oU.1 176 [.ptr vb 0, .ptr (nx+1) 0] n2 (fun s=>ext base (H s) o2) (fun s k=>aw step s (pre k (d+1))) ?_ ok ?_ ?_ (step s (t,d)).1 (aW (t,d) BT s iL Dx) _ _ ?_ _ _ ?_)
  ·simp[V.aE,V.refs];omega
  ·exact aaM
  ·intro k hk s' jr o3 n3 hI3 K3 X3 hK3
   have l3:=hI3.le
   have r0:o3 vb= .row [.func (.func 175) [] [.ptr yb 0, .ptr vb 0]]:=by rw[hI3.eq vb (by omega)];unfold ext;rw[if_neg (by omega),q1]
   have r1:o3 (nx+1)= .row [.d (.i d)]:=by rw[hI3.eq (nx+1) (by omega)];unfold ext;rw[if_neg (by omega),k1]
   have y5:vb≠n3:=ag
   have y6:∀k,vb≠n3+k:=fun k=>ag
   have y7:nx+1≠n3:=ag
   have y8:∀k,nx+1≠n3+k:=fun k=>ag
   have hh:=Tm.qP hk
   refine cH.aJ mix TP aI ?_
   rw[Xo]
   simp+contextual only[go_sem,r0,r1,y5,y6,y7,y8]
   rw[wrap64 (n:=d+1) (by omega) (by omega)]
   refine aS (ih k hk (oU.2 k hk) (d+1) ag ag (fun x hx=>aW x (kq k hk x hx)) (fun x hx=>hR x (kq k hk x hx)) wm n2 o2 yb vb ag OC ag OD ag q0 q1 s' jr _ _ (hI3.ax (i:=n3) (m:=n3+6) ag ag ag rfl) _ _ fun o4 n4 p1 p2 p3=> ?_)
   refine cT ?_
   refine hK3 _ _ ag (p2.mono ag) (fun id h1 h2=> ?_)
   rw[p3 id h1 (by omega),ae _ _ _ _ (by omega)]
  ·exact(m2.mono ag).ext ag ag
  ·intro o5 n5 p1 p2 p3
   refine cT ?_
   rw[<- zc]
   refine hK _ _ ag ⟨p2.bn.mono ag,ag,fun id aq=> ?_⟩ (fun id h1 h2=> ?_)
   ·rw[p2.eq id (by omega), <- zc]
    unfold ext
    split
    ·rfl
    ·exact KW
   ·exact R6
theorem M6(t:Tm)(hf:t.fits)(hd:t.nI<=900000)(aW:∀x∈pre t 1,∀s,ok s->(step s x).2=true->ok (step s x).1)(hR:∀x∈pre t 1,∀s,ok s->ZO Tryz.prog nP [.d x.1.d, .d (.i x.2)] base (H s) (H (step s x).1) (.d (.bool (step s x).2)))(wm:nP<base)(tb:Nat)(EP:tb<base)(s:σ)(iL:ok s)(bG:H s tb= .row t.row):
 jg Tryz.prog 174 [.ju nP, .ptr tb 0] base (H s) (H (aw step s (pre t 1)).1) (.bW []):=by
 intro o nx hI K X hK
 have hle:=hI.le
 have ot:o tb= .row t.row:=by rw[hI.eq tb EP,bG]
 have y1:tb≠nx:=ag
 have y2:∀k,tb≠nx+k:=fun k=>ag
 refine cH.aJ mix TN aI ?_
 rw[Xm]
 refine Uw ot y1 y2 ?_
 have hI1:cR base (H s) (ax (ax (ax o nx (.row [.ju nP])) (nx+1) (.row [.d .cf])) (nx+1) (.row [.func (.func 175) [] [.ptr nx 0, .ptr (nx+1) 0]])) (nx+6):=by
  refine((hI.ax (i:=nx) (m:=nx+6) ag ag ag ?_).ax (i:=nx+1) (m:=nx+6) ag ag ag rfl).ax (i:=nx+1) ag ag ag ?_
  ·exact KY
  ·exact zK
 refine aS (Qm base nP H step ok t hf 1 ag ag aW hR wm (nx+6) _ nx (nx+1) ag hle ag ag ag ?_ ?_ s iL _ _ (hI1.ext (Nat.le_refl _) ag) _ _ ?_)
 ·exact fq
 ·exact fq
 intro o2 n2 m1 m2 m3
 refine cT ?_
 refine hK _ _ ag ⟨m2.bn,ag,fun id aq=> ?_⟩ (fun id h1 h2=> ?_)
 ·exact ID
 ·exact U8
end
theorem Dy(t:Tm)(o:Nat->ab)(nx:Nat)(K X:V->(Nat->ab)->Nat->Prop)(h:K (.func (.func 174) [] [.ptr nx 0]) (ax o nx (.row t.row)) (nx+4)):cH Tryz.prog 160 [.d t.d] o nx K X:=by
 refine cH.aJ mix TF aI ?_
 rw[Xe]
 refine cT ?_
 exact h
end
def M7:Option kj->fG
 |none=> .normal
 |some .ret=> .ret
 |some (.exit j)=> .exit j
def zd{σ:Type}(J:σ->Option kj)(step:σ->Tm×Int->σ)(s:σ)(x:Tm×Int):σ×Bool:=(step s x,(J (step s x)).isNone)
theorem A2{σ:Type}(J:σ->Option kj)(step:σ->Tm×Int->σ):∀ (l:List (Tm×Int)) (s:σ),J s=none->(aw (zd J step) s l).2=(J (aw (zd J step) s l).1).isNone
 |[],s,h=>by simp[aw,h]
 |x::l,s,h=>by
  simp only[aw]
  split
  ·rename_i hb
   exact A2 J step l _ (by simpa[zd]using hb)
  ·rename_i hb
   cases hj:J (step s x)with
   |none=>exact absurd (by simp[zd,hj]) hb
   |some j=>simp[zd,hj]
theorem tG{σ:Type}(t:Tm)(hf:t.fits)(hd:t.nI<=900000){n bq:Nat}{gq:Operand}{ps:List Nat}{iZ eI:IC}{Q:fG->S->Prop}{e:Nat->V}{o:Nat->ab}{nx tb:Nat}(env:List V)(he:mN e env 0)
 (xI:ps.all (fun t=>decide (t<n))=true) (hl:ps.length=2) (hg:Good o nx) (hrefs:∀r∈V.aE env,r<nx) (ht:o tb= .row t.row)
 (G:σ->Nat->ab) (J:σ->Option kj) (step:σ->Tm×Int->σ) (ok:σ->Prop) (s0:σ) (iL:ok s0) (YM:J s0=none) (h0:∀id,id<nx->o id=G s0 id) (aW:∀x∈pre t 1,∀s,ok s->J s=none->J (step s x)=none->ok (step s x))
 (py:∀L,iz Tryz.prog n env ps iZ eI L->(∀st pd m,nx<=m->(L st pd).refs.all (fun r=>decide (r<m))=true)->∀x∈pre t 1,∀s,ok s->J s=none->∀o3 n3,cR nx (G s) o3 n3->nx<n3->o3 nx=L .ready none->∀K X,
  (∀e' o' n' st pd,n3<=n'->cR nx (G (step s x)) o' n'->o' nx=L st pd->(∀id,nx<id->id<n3->o' id=o3 id)->jZ nx K X (M7 (J (step s x))) ⟨e',o',n'⟩)->
  kN Tryz.prog n n3 true iZ (pF Tryz.prog n n3 nx eI K X) ⟨nC (aU env) ps [.d x.1.d, .d (.i x.2)],o3,n3⟩)
 (gO:∀o' n',cR nx (G (aw (zd J step) s0 (pre t 1)).1) o' n'->px Q (J (aw (zd J step) s0 (pre t 1)).1) ⟨e,o',n'⟩):
 AE Tryz.prog n bq false gq ps iZ eI Q ⟨e,o,nx⟩ (.func (.func 174) [] [.ptr tb 0]):=by
 refine FN env he (fun L hL=> ?_)
 have EP:tb<nx:=hg.lt Lr
 let H:σ->Nat->ab:=fun s id=>if id<nx then G s id else if id=nx then(match J s with|none=>L .ready none|some j=>L .done (some j))else .no
 have IE:∀s id,id<nx->H s id=G s id:=fun s id h=>if_pos h
 have Oq:∀s,J s=none->H s nx=L .ready none:=fun s h=>by show(if nx<nx then _ else _)=_;rw[if_neg (by omega),if_pos rfl,h]
 have UH:∀s j,J s=some j->H s nx=L .done (some j):=fun s j h=>by show(if nx<nx then _ else _)=_;rw[if_neg (by omega),if_pos rfl,h]
 have xX:∀st pd m,nx<=m->(L st pd).refs.all (fun r=>decide (r<m))=true:=fun st pd m hm=>by
  exact U3
 refine M6 (nx+1) nx H (zd J step) (fun s=>ok s/\J s=none) t hf hd (fun x hx s h1 h2=> ?_) (fun x hx s h1=> ?_) ag tb ag s0 ⟨iL,YM⟩ Lp _ _ ⟨?_,Nat.le_refl _,fun id aq=> ?_⟩ _ _ ?_
 ·have hj:J (step s x)=none:=by simpa[zd]using h2
  exact⟨aW x hx s h1.1 h1.2 hj,hj⟩
 ·intro o3 n3 hI K X hK
  have hle:=hI.le
  have KL:o3 nx=L .ready none:=by rw[hI.eq nx (by omega),Oq s h1.2]
  refine we hL mix KL ag xI (by simp[hl]) ?_
  refine py L hL xX x hx s h1.1 h1.2 o3 n3 ⟨hI.bn,ag,fun id aq=>by rw[hI.eq id (by omega),IE _ _ aq]⟩ ag KL K X (fun e' o' n' st pd k1 k2 k3 k4=> ?_)
  have key:∀st' pd' b,(J (step s x)).isNone=b->H (step s x) nx=L st' pd'->K (.d (.bool b)) (ax o' nx (L st' pd')) n':=fun st' pd' b hb hh=>by
   subst hb
   refine hK _ _ k1 ⟨k2.bn.ax ag (xX _ _ _ ag),ag,fun id aq=> ?_⟩ (fun id g1 g2=> ?_)
   ·by_cases rP:id=nx
    ·exact Ld
    ·rw[ae _ _ _ _ rP]
     show o' id=H (step s x) id
     exact K6
   ·exact UN
  cases hj:J (step s x)with
  |none=>exact UK
  |some j=>
   cases j with
   |ret=>exact UI
   |exit j=>exact UG
 ·exact UJ
 ·by_cases rP:id=nx
  ·exact Li
  ·exact UF
 ·intro o' n' k1 k2 k3
  have hle:=k2.le
  generalize hsf:(aw (zd J step) s0 (pre t 1)).1=sf at*
  have kk:∀st pd,cR nx (G sf) (ax o' nx (L st pd)) n':=fun st pd=>⟨k2.bn.ax ag (xX _ _ _ ag),ag,fun id aq=>by rw[ae _ _ _ _ (by omega),k2.eq id (by omega),IE _ _ aq]⟩
  cases hj:J sf with
  |none=>
   refine⟨.ready,none,by rw[k2.eq nx (by omega),Oq _ hj],(fun h=>by cases h), ?_⟩
   have:=gO _ _ (kk .exhausted none)
   rwa [hj]at this
  |some j=>
   refine⟨.done,some j,by rw[k2.eq nx (by omega),UH _ _ hj],(fun h=>by cases h), ?_⟩
   have:=gO _ _ (kk .exhausted (some j))
   rwa [hj]at this
theorem gG(n low high:Int):aV Tryz.prog 127 [.i n, .i low, .i high] (.ret [.bool (dR n low high)]):=by
 refine aV.aJ mix Tl aI ?_
 rw[WX]
 refine cT ?_
 rfl
theorem FQ(s:bH)(t:Tm)(h:t.op=1):aV Tryz.prog 182 [s.d,t.d] (.ret [.bool (bu s t)]):=by
 have hn:bu s t=(dR t.n 0 19&&(t.kids.length:Int)==0):=by simp[bu,h,Bool.and_comm]
 refine aV.aJ mix TU aI ?_
 rw[Xt]
 exact U6
theorem JI(s:bH)(t:Tm)(h:t.op=2):aV Tryz.prog 183 [s.d,t.d] (.ret [.bool (bu s t)]):=by
 have hn:bu s t=(dR t.n (-1000000) 1000000&&(t.kids.length:Int)==0):=by simp[bu,h,Bool.and_comm]
 refine aV.aJ mix TV aI ?_
 rw[Xu]
 exact U6
theorem aei(s:bH)(t:Tm)(h:t.op=8):aV Tryz.prog 187 [s.d,t.d] (.ret [.bool (bu s t)]):=by
 have hn:bu s t=(dR t.n 0 19&&(t.kids.length:Int)==2):=by simp[bu,h,Bool.and_comm]
 refine aV.aJ mix TZ aI ?_
 rw[Xy]
 exact U6
theorem XL(s:bH)(t:Tm)(h:t.op=6\/t.op=7\/t.op=9\/t.op=10\/t.op=11\/t.op=12\/t.op=13\/t.op=14\/t.op=15):aV Tryz.prog 188 [s.d,t.d] (.ret [.bool (bu s t)]):=by
 have hn:bu s t=(t.n==0&&(t.kids.length:Int)==2):=by
  rcases h with h|h|h|h|h|h|h|h|h<;>simp[bu,h,dR,Bool.and_comm]
 refine aV.aJ mix T0 aI ?_
 rw[Xz]
 refine cT ?_
 rw[hn]
theorem aej(s:bH)(t:Tm)(hs:s.Fits)(h:t.op=3):aV Tryz.prog 184 [s.d,t.d] (.ret [.bool (bu s t)]):=by
 have hn:bu s t=(dR t.n 0 (s.cons.length - 1)&&(t.kids.length:Int)==fW s.cons t.n):=by simp[bu,h]
 refine aV.aJ mix TW aI ?_
 rw[Xv]
 refine cT ?_
 rw[wrap64 (by have:=hs.lc;omega) (by have:=hs.lc;omega)]
 refine ba (gG _ _ _) rfl ?_
 cases hI:dR t.n 0 (s.cons.length - 1)with
 |false=>
  exact U2
 |true=>
  exact UT
theorem aek(s:bH)(t:Tm)(hs:s.Fits)(h:t.op=4):aV Tryz.prog 185 [s.d,t.d] (.ret [.bool (bu s t)]):=by
 have hn:bu s t=(dR t.n 0 (s.bK.length - 1)&&(t.kids.length:Int)==fW s.bK t.n):=by simp[bu,h]
 refine aV.aJ mix TX aI ?_
 rw[Xw]
 refine cT ?_
 rw[wrap64 (by have:=hs.lf;omega) (by have:=hs.lf;omega)]
 refine ba (gG _ _ _) rfl ?_
 cases hI:dR t.n 0 (s.bK.length - 1)with
 |false=>
  exact U2
 |true=>
  exact UT
theorem XM(s:bH)(t:Tm)(hs:s.Fits)(h:t.op=5):aV Tryz.prog 186 [s.d,t.d] (.ret [.bool (bu s t)]):=by
 have hn:bu s t=(dR t.n 0 (s.bK.length - 1)&&decide ((t.kids.length:Int)<fW s.bK t.n)):=by simp[bu,h]
 refine aV.aJ mix TY aI ?_
 rw[Xx]
 refine cT ?_
 rw[wrap64 (by have:=hs.lf;omega) (by have:=hs.lf;omega)]
 refine ba (gG _ _ _) rfl ?_
 cases hI:dR t.n 0 (s.bK.length - 1)with
 |false=>
  exact U2
 |true=>
  exact UT
@[reducible] def rf (n:Nat):V:= .func (.func n) [] []
@[reducible] def agb:List V:=[.d .cf,rf 182,rf 183,rf 184,rf 185,rf 186, .d .cf, .d .cf,rf 187, .d .cf, .d .cf, .d .cf, .d .cf, .d .cf, .d .cf, .d .cf]
@[reducible] def FR:List V:=[.d .cf,rf 182,rf 183,rf 184,rf 185,rf 186,rf 188,rf 188,rf 187,rf 188,rf 188,rf 188,rf 188,rf 188,rf 188,rf 188]
def KQ(k:Nat):List V:=FR.take k++agb.drop k
theorem funcOf{P:Program}{t:TypeId}(h:(match P.underlying t with|some (.func _ _ _)=>true|_=>false)=true):∃a b c,P.underlying t=some (.func a b c):=by
 split at h
 ·exact⟨_,_,_,by assumption⟩
 ·cases h
@[go_sem] theorem agc (o:Nat->ab) (oF:Bool):uA Tryz.prog o 214 oF (.d .cf) (.d .cf)=some (.d (.bool true)):=by
  exact R8
@[go_sem] theorem agd (o:Nat->ab) (oF:Bool) (f:Fn) (x y:List V):uA Tryz.prog o 214 oF (.func f x y) (.d .cf)=some (.d (.bool false)):=by
  exact R8
theorem Qp(base:Nat)(h:Nat->ab):jg Tryz.prog 181 [] base h h (.agg FR):=by
 intro o nx hI K X hK
 have hle:=hI.le
 refine cH.aJ mix TT aI ?_
 rw[Xs]
 simp+contextual only[go_sem,Nat.add_assoc,Nat.left_eq_add,Nat.add_eq_left,Nat.add_left_cancel_iff]
 refine az (fun k:Nat=>⟨aU [.ptr nx 0, .ptr (nx+2) 0, .aa, .aa, .d (.i k)],ax (ax o nx (.row (List.replicate 16 (.d .cf)))) (nx+2) (.row (KQ k)),nx+5⟩)
  (fun k=>k<=16) (fun k=>16 - k) 0 (Nat.zero_le _) ?_ (fun k hk=> ?_)
 ·refine bt.aT _ ag ag ?_ (fun id aq=> ?_) ?_
  ·exact((hI.bn.mono ag).ax ag rfl).ax ag rfl
  ·rw[df];rfl
  ·exact cz
 have hg:∀k,k<16->Good (ax (ax o nx (.row (List.replicate 16 (.d .cf)))) (nx+2) (.row (KQ (k+1)))) (nx+5):=fun k hk=>
  ((hI.bn.mono ag).ax ag rfl).ax ag (by
    rcases(by omega:k=0\/k=1\/k=2\/k=3\/k=4\/k=5\/k=6\/k=7\/k=8\/k=9\/k=10\/k=11\/k=12\/k=13\/k=14\/k=15)with rfl|rfl|rfl|rfl|rfl|rfl|rfl|rfl|rfl|rfl|rfl|rfl|rfl|rfl|rfl|rfl<;>rfl)
 by_cases age:k=16
 ·subst age
  refine Z9 ?_
  refine hK _ _ ?_ ⟨?_, ?_,fun id aq=> ?_⟩ (fun id h1 h2=> ?_)
  rotate_left
  ·exact(((hI.bn.mono ag).ax ag rfl).ax ag rfl).ax ag rfl
  ·omega
  ·(repeat(first|rfl|rw[af]|rw[ae _ _ _ _ (by omega)]))
   exact hI.eq id aq
  ·exact fq
  ·omega
 ·have hgk:=hg k ag
  obtain⟨k1,hk1⟩:∃k1,k1=k+1:=⟨_,rfl⟩
  rw[<- hk1]at hgk
  rcases(by omega:k=0\/k=1\/k=2\/k=3\/k=4\/k=5\/k=6\/k=7\/k=8\/k=9\/k=10\/k=11\/k=12\/k=13\/k=14\/k=15)with rfl|rfl|rfl|rfl|rfl|rfl|rfl|rfl|rfl|rfl|rfl|rfl|rfl|rfl|rfl|rfl
  all_goals
   refine Z9 ?_
   refine ak k1 ag ag (bt.aT _ ag ag hgk (fun id aq=> ?_) ?_)
   all_goals subst hk1
   ·first|rfl|(rw[df];rfl)
   ·exact cz
def M8(n:Int):Nat:=if n=1 then 182 else if n=2 then 183 else if n=3 then 184 else if n=4 then 185 else if n=5 then 186 else if n=8 then 187 else 188
theorem XN(s:bH)(t:Tm)(hs:s.Fits)(h:dR t.op 1 15=true):aV Tryz.prog (M8 t.op) [s.d,t.d] (.ret [.bool (bu s t)])/\FR[t.op.toNat]? =some (rf (M8 t.op))/\0<=t.op/\t.op<16:=by
 simp[dR]at h
 rcases(by omega:t.op=1\/t.op=2\/t.op=3\/t.op=4\/t.op=5\/t.op=8\/(t.op=6\/t.op=7\/t.op=9\/t.op=10\/t.op=11\/t.op=12\/t.op=13\/t.op=14\/t.op=15))with h|h|h|h|h|h|h
 ·exact⟨by rw[h];exact FQ s t h,by rw[h];rfl,ag,ag⟩
 ·exact⟨by rw[h];exact JI s t h,by rw[h];rfl,ag,ag⟩
 ·exact⟨by rw[h];exact aej s t hs h,by rw[h];rfl,ag,ag⟩
 ·exact⟨by rw[h];exact aek s t hs h,by rw[h];rfl,ag,ag⟩
 ·exact⟨by rw[h];exact XM s t hs h,by rw[h];rfl,ag,ag⟩
 ·exact⟨by rw[h];exact aei s t h,by rw[h];rfl,ag,ag⟩
 ·have hp:=XL s t h
  rcases h with h|h|h|h|h|h|h|h|h<;>exact⟨by rw[h];exact hp,by rw[h];rfl,ag,ag⟩
def oJ(s:bH)(n:Int)(x:Tm×Int):Bool:=decide (40<n+1)||decide (12<x.2)|| !dR x.1.op 1 15|| !bu s x.1
def gS(s:bH)(n:Int×Bool)(x:Tm×Int):Int×Bool:=(n.1+1, !oJ s n.1 x)
def fJ(n:Int×Bool):Option kj:=if n.2=true then none else some .ret
def mu(s:bH)(t:Tm):Bool:=(aw (zd fJ (gS s)) (0,true) (pre t 1)).2
theorem M9(s:bH)(hs:s.Fits)(t:Tm)(hf:t.fits)(hd:t.nI<=900000):aV Tryz.prog 173 [s.d,t.d] (.ret [.bool (mu s t)]):=by
 refine aV.aJ mix TM aI ?_
 rw[Xl]
 refine cT ?_
 refine gA (Qp 3 _ _ _ (?_:cR 3 (ax (ax (ax (fun _=> .no) 0 (.row s.row)) 1 (.row t.row)) 2 (.row [.d (.bool false)])) _ 3) _ _ fun o2 n2 m1 m2 m3=> ?_)
 ·exact⟨fm,Nat.le_refl _,fun _ _=>rfl⟩
 have p0:o2 0= .row s.row:=m2.eq 0 ag
 have p1:o2 1= .row t.row:=m2.eq 1 ag
 have p2:o2 2= .row [.d (.bool false)]:=m2.eq 2 ag
 have e0:0≠n2:=ag
 have e1:1≠n2:=ag
 have e2:2≠n2:=ag
 have e3:∀k,0≠n2+k:=fun k=>ag
 have e4:∀k,1≠n2+k:=fun k=>ag
 have e5:∀k,2≠n2+k:=fun k=>ag
 simp+contextual only[go_sem,p0,p1,p2,e0,e1,e2,e3,e4,e5,Nat.add_assoc,Nat.left_eq_add,Nat.add_eq_left,Nat.add_left_cancel_iff]
 refine gA (Dy t _ _ _ _ ?_)
 refine cT ?_
 have hG0:∀n,Good (ax (ax (ax (ax (ax (ax o2 n2 (.row (List.replicate 16 (.d .cf)))) (n2+1) (.row [.d (.i 0)])) n2 (.row FR)) (n2+1) (.row [.d (.i 0)])) (n2+5) (.row t.row)) (n2+1) (.row [.d (.i n)])) (n2+9):=fun n=>by
  have hg:=m2.bn
  exact fm
 refine tG t hf hd [.aa, .aa, .ptr 0 0, .aa, .ptr 2 0, .ptr n2 0, .ptr (n2+1) 0] ?_ bI rfl ?_ (by simp[V.aE,V.refs];omega) (af _ _ _)
  (fun s=>ax (ax (ax (ax (ax (ax o2 n2 (.row (List.replicate 16 (.d .cf)))) (n2+1) (.row [.d (.i 0)])) n2 (.row FR)) (n2+1) (.row [.d (.i 0)])) (n2+5) (.row t.row)) (n2+1) (.row [.d (.i s.1)]))
  fJ (gS s) (fun s=>0<=s.1/\s.1<=40) (0,true) ⟨bI,bI⟩ rfl ?_ ?_ ?_ ?_
 ·exact IA
 ·have hg:=m2.bn
  exact fm
 ·intro id aq
  by_cases h:id=n2+1
  ·subst h;(repeat(first|rfl|rw[af]|rw[ae _ _ _ _ (by omega)]))
  ·rw[ae _ _ _ _ h];rfl
 ·intro x hx s' h1 h2 h3
  have:oJ s s'.1 x=false:=by simpa[fJ,gS]using h3
  simp[oJ]at this
  simp only[gS]
  omega
 ·intro L hL xX x hx s' h1 h2 o3 n3 hI hn ho K X cL
  simp only[nC]
  have hg:=hI.bn
  have q0:o3 0= .row s.row:=by
   rw[hI.eq 0 (by omega)];(repeat(first|rfl|rw[af]|rw[ae _ _ _ _ (by omega)]))
   exact p0
  have q2:o3 2= .row [.d (.bool false)]:=by
   exact RR
  have q3:o3 n2= .row FR:=by rw[hI.eq n2 (by omega)];(repeat(first|rfl|rw[af]|rw[ae _ _ _ _ (by omega)]))
  have q4:o3 (n2+1)= .row [.d (.i s'.1)]:=by rw[hI.eq (n2+1) (by omega)];(repeat(first|rfl|rw[af]|rw[ae _ _ _ _ (by omega)]))
  have fin:∀ (o':Nat->ab) (n':Nat),(∀id,id<n2+5+4->o' id=ax o3 (n2+1) (.row [.d (.i (s'.1+1))]) id)->Good o' n'->n3<=n'->cR (n2+5+4) (ax (ax (ax (ax (ax (ax o2 n2 (.row (List.replicate 16 (.d .cf)))) (n2+1) (.row [.d (.i 0)])) n2 (.row FR)) (n2+1) (.row [.d (.i 0)])) (n2+5) (.row t.row)) (n2+1) (.row [.d (.i (gS s s' x).1)])) o' n':=by
   intro o' n' k1 k2 k3
   refine⟨k2,ag,fun id aq=> ?_⟩
   rw[k1 id aq]
   by_cases h:id=n2+1
   ·subst h;rw[af,af];rfl
   ·rw[ae _ _ _ _ h,ae _ _ _ _ h,hI.eq id aq,ae _ _ _ _ h]
  refine cT ?_
  refine lN hL (pd:=none) ?_ ?_
  ·(repeat(first|rfl|rw[af]|rw[ae _ _ _ _ (by omega)]))
   exact ho
  cases c1:decide (40<s'.1+1)with
  |true=>
   have hJ:fJ (gS s s' x)=some .ret:=by simp[fJ,gS,oJ,c1]
   rw[hJ]at cL
   simp+contextual (disch:=first|omega|simp only[go_sem,false_implies]) only[go_sem,wrap64,if_pos,q0,q2,q3,q4,c1]
   exact zw6
  |false=>
  cases c2:decide (12<x.2)with
  |true=>
   have hJ:fJ (gS s s' x)=some .ret:=by simp[fJ,gS,oJ,c2]
   rw[hJ]at cL
   refine KN q0 q2 q3 q4 c1 c2 ?_
   exact zw6
  |false=>
  cases c3:dR x.1.op 1 15 with
  |false=>
   have hJ:fJ (gS s s' x)=some .ret:=by simp[fJ,gS,oJ,c3]
   rw[hJ]at cL
   refine KN q0 q2 q3 q4 c1 c2 ?_
   refine ba (gG _ _ _) rfl ?_
   simp+contextual (disch:=first|omega|simp only[go_sem,false_implies]) only[go_sem,wrap64,if_pos,q0,q2,q3,q4,c1,c2,c3]
   exact zw6
  |true=>
  obtain⟨r1,r2,r3,r4⟩:=XN s x.1 hs c3
  refine KN q0 q2 q3 q4 c1 c2 ?_
  refine ba (gG _ _ _) rfl ?_
  simp+contextual (disch:=first|omega|simp only[go_sem,false_implies]) only[go_sem,wrap64,if_pos,q0,q2,q3,q4,c1,c2,c3,r2,r3,r4,Nat.mul_one]
  refine ba r1 rfl ?_
  simp+contextual (disch:=first|omega|simp only[go_sem,false_implies]) only[go_sem,wrap64,if_pos,q0,q2,q3,q4,c1,c2,c3]
  refine aH (aR rfl) ?_
  cases c4:bu s x.1 with
  |false=>
   have hJ:fJ (gS s s' x)=some .ret:=by simp[fJ,gS,oJ,c4]
   rw[hJ]at cL
   simp+contextual (disch:=first|omega|simp only[go_sem,false_implies]) only[go_sem,wrap64,if_pos,q2,c4]
   refine cL _ _ _ .busy none ag (fin _ _ (fun id aq=>YL) fm ag) fq (fun id h3 h4=>by(repeat(first|rfl|rw[af]|rw[ae _ _ _ _ (by omega)])))
  |true=>
   have hJ:fJ (gS s s' x)=none:=by simp[fJ,gS,oJ,c1,c2,c3,c4]
   rw[hJ]at cL
   simp+contextual (disch:=first|omega|simp only[go_sem,false_implies]) only[go_sem,wrap64,if_pos,c4]
   refine cL _ _ _ .busy none ag (fin _ _ (fun id aq=>YL) fm ag) fq (fun id h3 h4=>by(repeat(first|rfl|rw[af]|rw[ae _ _ _ _ (by omega)])))
 ·intro o' n' hI
  have q2:o' 2= .row [.d (.bool false)]:=by
   exact RR
  rw[show mu s t=(fJ (aw (zd fJ (gS s)) (0,true) (pre t 1)).1).isNone from A2 _ _ _ _ rfl]
  generalize (aw (zd fJ (gS s)) (0,true) (pre t 1)).1=sf at*
  cases hj:fJ sf with
  |none=>
   simp only[px]
   refine jz q2 ?_
   rfl
  |some j=>
   have:j= .ret:=by
    unfold fJ at hj;split at hj
    ·cases hj
    ·injection hj with hj;exact hj.symm
   subst this
   simp only[px]
   refine jz q2 ?_
   rfl
section
def enc{κ:Type}(kf:κ->D)(m:List (κ×D)):List (D×D):=m.map fun p=>(kf p.1,p.2)
def fX{κ:Type}[BEq κ](k:κ):List (κ×D)->Nat->Option (Nat×D)
 |[],_=>none
 |p::m,i=>if(k==p.1)=true then some (i,p.2)else fX k m (i+1)
def xL{κ:Type}[BEq κ](k:κ)(x:D)(m:List (κ×D)):List (κ×D):=match fX k m 0 with|some (i,_)=>m.set i (k,x)|none=>m++[(k,x)]
def ael{κ:Type}[BEq κ](k:κ)(m:List (κ×D)):List (κ×D):=match fX k m 0 with|some (i,_)=>m.eraseIdx i|none=>m
def xM(d:D)(r:Option (Nat×D)):Option (Nat×D×D):=match r with|some (i,x)=>some (i,d,x)|none=>none
@[go_sem] theorem ZP (d:D) (i:Nat) (x:D):xM d (some (i,x))=some (i,d,x):=rfl
@[go_sem] theorem ZQ (d:D):xM d none=none:=rfl
section
variable {P:Program}{kt:TypeId}
theorem Qq(h:bp P kt=some .int)(a b:Int):mH P 100 kt (.int .i64 a) (.int .i64 b)=some (a==b):=by simp[mH,h]
theorem Qr(h:bp P kt=some .str)(a b:List UInt8):mH P 100 kt (.str a) (.str b)=some (a==b):=by simp[mH,h]
@[go_sem] theorem HJ (h:bp P kt=some .int) (a:Int):iI P 100 kt (.int .i64 a)=true:=by simp[iI,h]
@[go_sem] theorem aeN (h:bp P kt=some .str) (a:List UInt8):iI P 100 kt (.str a)=true:=by simp[iI,h]
theorem wo{κ:Type}[BEq κ][LawfulBEq κ](kf:κ->D)(he:∀a b,mH P 100 kt (kf a) (kf b)=some (a==b))(k:κ):∀ (m:List (κ×D)) (i:Nat),findD P kt (kf k) (enc kf m) i=some (xM (kf k) (fX k m i))
 |[],_=>rfl
 |p::m,i=>by
  have ih:=wo kf he k m (i+1)
  simp only[enc,List.map_cons,findD,he,fX]at ih|-
  by_cases h:k=p.1
  ·subst h;simp[xM]
  ·have:(k==p.1)=false:=by simpa using h
   simp only[this,Bool.false_eq_true,if_false];exact ih
@[go_sem] theorem Dz (h:bp P kt=some .int) (k:Int) (m:List (Int×D)):findD P kt (.int .i64 k) (enc (.int .i64) m) 0=some (xM (.int .i64 k) (fX k m 0)):=wo (.int .i64) (Qq h) k m 0
@[go_sem] theorem aem (h:bp P kt=some .str) (k:List UInt8) (m:List (List UInt8×D)):findD P kt (.str k) (enc .str m) 0=some (xM (.str k) (fX k m 0)):=wo .str (Qr h) k m 0
end
section
variable {κ:Type}(kf:κ->D)
theorem Na(m:List (κ×D))(k:κ)(x:D):enc kf m++[(kf k,x)]=enc kf (m++[(k,x)]):=by simp[enc]
theorem HK(m:List (κ×D))(i:Nat)(k:κ)(x:D):(enc kf m).set i (kf k,x)=enc kf (m.set i (k,x)):=by simp[enc,List.map_set]
theorem ze:∀ (m:List (κ×D)) (i:Nat),(enc kf m).eraseIdx i=enc kf (m.eraseIdx i)
 |[],i=>rfl
 |p::m,0=>rfl
 |p::m,i+1=>by
  have:=ze m i
  simp only[enc,List.map_cons,List.eraseIdx_cons_succ]at this|-
  rw[this]
theorem Qs(m:List (κ×D)):(((enc kf m).map (·.1)).zip ((enc kf m).map (·.2)))=enc kf m:=by
 induction m with
 |nil=>rfl
 |cons p m ih=>simp only[enc,List.map_cons,List.zip_cons_cons]at ih|-;rw[ih]
theorem JJ{K:V->List (Nat×ab)->Prop}{id:Nat}{m:List (κ×D)}(h0:m=[]->K (.bW [.d (.bool false)]) [])
 (h1:∀ (i:Nat) k x,m[i]? =some (k,x)->K (.bW [.d (.bool true), .d (kf k), .d x]) [(id, .pb (enc kf (m.eraseIdx i)) (some (kf k,x)))]):G9 K id (enc kf m):=by
 refine⟨fun h=>h0 ?_,fun i k x h=> ?_⟩
 ·cases m with
  |nil=>rfl
  |cons p m=>simp[enc]at h
 ·simp only[enc,List.getElem?_map]at h
  cases hm:m[i]? with
  |none=>rw[hm]at h;cases h
  |some p=>
   rw[hm]at h
   simp at h
   obtain⟨rfl,rfl⟩:=h
   have:=h1 i p.1 p.2 (by rw[hm])
   rwa [<- ze]at this
end
theorem DA{κ:Type}[BEq κ][LawfulBEq κ]{k:κ}:∀ {m:List (κ×D)} {i j:Nat} {x:D},fX k m i=some (j,x)->i<=j/\m[j - i]? =some (k,x)
 |[],_,_,_,h=>by cases h
 |p::m,i,j,x,h=>by
  simp only[fX]at h
  split at h
  ·rename_i hk
   injection h with h;injection h with h1 h2
   subst h1;subst h2
   exact⟨Nat.le_refl _,by simp[(by simpa using hk:k=p.1)]⟩
  ·obtain⟨h1,h2⟩:=DA h
   refine⟨ag, ?_⟩
   rw[show j - i=(j - (i+1))+1 by omega]
   simpa using h2
theorem zf{κ:Type}[BEq κ][LawfulBEq κ]{k:κ}:∀ {m:List (κ×D)} {i:Nat},fX k m i=none↔∀p∈m,p.1≠k
 |[],_=>by simp[fX]
 |p::m,i=>by
  simp only[fX]
  split
  ·rename_i hk
   simp[(by simpa using hk:k=p.1)]
  ·rename_i hk
   rw[zf]
   have:p.1≠k:=fun e=>hk (by simp[e])
   simp[this]
def ra(P:Program)(o:Nat->ab)(t:TypeId)(m k v:V):Option fS:=
 match qj P t,dB o k,dB o v,oQ o m with
 |some (kt,_),some kd,some vd,some (some (id,GG,GH),l)=>if k.ids=[]/\iI P 100 kt kd=true/\ja kd=true/\v.ids.all (· !=id)=true then match findD P kt kd l 0 with
  |some (some (i,k',_))=>if k'.same kd=true then some (.bW [],bT o v.ids++[(id, .map GG GH (l.set i (kd,vd)))],id::v.ids)else none
  |some none=>some (.bW [],bT o v.ids++[(id, .map GG GH (l++[(kd,vd)]))],id::v.ids)
  |none=>none
  else none
 |_,_,_,_=>none
@[go_sem low] theorem zg (P:Program) (o:Nat->ab) (t:TypeId) (m v:V) (k:D):fO P o t m (.d k) v=ra P o t m (.d k) v:=by unfold fO ra;rfl
def wq(P:Program)(o:Nat->ab)(t:TypeId)(m k:V)(ok:Bool):Option fS:=
 match qj P t,dB o k,qk o m with
 |some (kt,vt),some kd,some (rd,l)=>if k.ids=[]/\iI P 100 kt kd=true then match findD P kt kd l 0 with
  |some (some (_,_,x))=>some (if ok=true then .bW [.d x, .d (.bool true)]else .d x,[],rd)
  |some none=>match zeroV P vt with
   |some z=>some (if ok=true then .bW [z, .d (.bool false)]else z,[],rd)
   |none=>none
  |none=>none
  else none
 |_,_,_=>none
@[go_sem low] theorem oq (P:Program) (o:Nat->ab) (t:TypeId) (m:V) (k:D) (ok:Bool):iE P o t m (.d k) ok=wq P o t m (.d k) ok:=by unfold iE wq;rfl
attribute [go_sem] wq ra n9 m9 na oR oS nb qk oQ ae3 mI ja D.same
end
theorem dec_lt{l:List UInt8}{i:Nat}{b:UInt8}(hb:l[i]? =some b)(h:b.toNat<128):Utf8.decode ⟨⟨l⟩⟩ i=(b.toNat,1):=by
 have e:(ByteArray.mk ⟨l⟩).get! i=b:=by
  show(Array.mk l)[i]! =b
  simp[hb]
 simp only[Utf8.decode,Nat.add_zero,e]
 rw[if_pos h]
theorem XO{l:List UInt8}{i:Nat}{b:UInt8}(hb:l[i]? =some b)(h:128<=b.toNat):128<=(Utf8.decode ⟨⟨l⟩⟩ i).1:=by
 have e:(ByteArray.mk ⟨l⟩).get! i=b:=by
  show(Array.mk l)[i]! =b
  simp[hb]
 simp only[Utf8.decode,Nat.add_zero,e]
 rw[if_neg (by omega)]
 split
 ·split<;>simp_all[Utf8.runeError]
 ·split
  ·split
   ·rename_i h3;simp at h3;omega
   ·simp[Utf8.runeError]
  ·split
   ·split
    ·rename_i h3;simp at h3;omega
    ·simp[Utf8.runeError]
   ·simp[Utf8.runeError]
def Qt(r:Int):Bool:=decide (97<=r)&&decide (r<=122)||decide (65<=r)&&decide (r<=90)
theorem Nb(b:UInt8):Qt b.toNat=letterF b:=by
 rw[Bool.eq_iff_iff]
 simp[Qt,letterF]
theorem JK(s:List UInt8)(hs:s.length<=9223372036854775807):aV Tryz.prog 126 [.str s] (.ret [.bool (jW s)]):=by
 refine aV.aJ mix Tk aI ?_
 rw[WW]
 refine iD ?_
 refine az (fun k:Nat=>⟨aU [.d (.str s), .aa, .aa, .aa, .aa, .aa, .ptr 2 0],ax (fun _=> .no) 2 (.zQ s k),3⟩)
  (fun k=>k<=s.length/\(s.take k).all letterF=true) (fun k=>s.length - k) 0 ⟨Nat.zero_le _,aI⟩ (bt.aT _ ag ag (Good.nil.ax ag rfl) (fun _ _=>rfl) ?_) (fun k hk=> ?_)
 ·exact cz
 by_cases h2:k<s.length
 ·obtain⟨b,hb⟩:=aF h2
  by_cases h3:b.toNat<128
  ·simp+contextual (disch:=first|omega|simp only[go_sem,false_implies]) only[go_sem,wrap64,if_pos,Nat.add_assoc,Nat.left_eq_add,Nat.add_eq_left,Nat.add_left_cancel_iff,h2,dec_lt hb h3]
   have hr:=Nb b
   simp only[Qt]at hr
   rw[hr]
   cases hl:letterF b with
   |true=>
    refine a8 ?_
    refine ak (k+1) ⟨h2,fH hb hk.2 hl⟩ ag (bt.aT _ ag ag (Good.nil.ax ag rfl) (fun _ _=>by rw[df]) ?_)
    exact cz
   |false=>
    refine a8 ?_
    simp[jW,cK hb hl]
  ·have hr:letterF b=false:=by
    rw[<- Nb];simp[Qt];omega
   have hd:=XO hb ag
   refine Us h2 ?_
   have:(decide (97<=((Utf8.decode ⟨⟨s⟩⟩ k).1:Int))&&decide (((Utf8.decode ⟨⟨s⟩⟩ k).1:Int)<=122)||decide (65<=((Utf8.decode ⟨⟨s⟩⟩ k).1:Int))&&decide (((Utf8.decode ⟨⟨s⟩⟩ k).1:Int)<=90))=false:=by
    rw[Bool.eq_false_iff];intro h;simp at h;omega
   rw[this]
   refine a8 ?_
   simp[jW,cK hb hr]
 ·refine Us h2 ?_
  refine aD (gG _ _ _) rfl ?_
  refine a8 ?_
  rw[jW,eU hk.2 (by omega),Bool.true_and]
theorem DB{σ:Type}(l:List jo)(hl:l.length<=9223372036854775807)(g:Nat)(aM:List V)(base:Nat)(H:σ->Nat->ab)(step:σ->jo->σ×Bool)(hc:∀r∈V.aE aM,r<base)(ok:σ->Prop)(aW:∀x∈l,∀s,ok s->(step s x).2=true->ok (step s x).1)
 (h:∀x∈l,∀s,ok s->jg Tryz.prog g (.d x.d::aM) base (H s) (H (step s x).1) (.d (.bool (step s x).2))) (s:σ) (iL:ok s):
 jg Tryz.prog 128 [.d (.sl (l.map jo.d)), .func (.func g) [] aM] base (H s) (H (aw step s l).1) (.d (.bool (aw step s l).2)):=by
 intro o nx hI K X hK
 have fu:∀r∈V.aE aM,r<nx:=fun r hr=>Nat.lt_of_lt_of_le (hc r hr) hI.le
 refine cH.aJ mix Tn aI ?_
 rw[WY]
 refine cT ?_
 refine az (fun i:Nat×σ×(Nat->ab)×Nat=>⟨aU [.aa, .func (.func g) [] aM, .aa, .aa, .aa, .aa, .aa, .d (.sl (l.map jo.d)), .d (.i l.length), .d (.i i.1)],i.2.2.1,i.2.2.2⟩)
  (fun i=>i.1<=l.length/\cR base (H i.2.1) i.2.2.1 i.2.2.2/\nx<=i.2.2.2/\(∀id,base<=id->id<nx->i.2.2.1 id=o id)/\aw step s l=aw step i.2.1 (l.drop i.1)/\ok i.2.1) (fun i=>l.length - i.1) (0,s,o,nx)
  ⟨Nat.zero_le _,hI,Nat.le_refl _,fun _ _ _=>rfl,rfl,iL⟩ ?_ ?_
 ·exact Ls
 rintro⟨k,s',o',nx'⟩ ⟨hk,uw,hn,cP,hf,iG⟩
 simp only at hk uw hn cP hf iG
 refine cT ?_
 refine aj (fun h1=> ?_) (fun h1=> ?_)
 ·simp at h1
  obtain⟨x,hx⟩:=aF h1
  have gf:=List.mem_of_getElem? hx
  have hd:l.drop k=x::l.drop (k+1):=by
   exact YO
  refine KO hx ?_
  have hl0:=uw.le
  refine dQ (h x gf s' iG _ _ (?_:cR base (H s') _ (nx'+7)) _ _ fun o2 n2 m1 m2 m3=> ?_)
  ·exact aaq
  have M5:∀id,base<=id->id<nx->o2 id=o id:=fun id h2 h3=>by
   exact aaF
  refine cT ?_
  refine aj (fun h2=> ?_) (fun h2=> ?_)
  ·refine cT ?_
   simp at h2
   have:aw step s l=((step s' x).1,false):=by rw[hf,hd,aw,if_neg (by rw[h2];exact Bool.false_ne_true)]
   rw[this]at hK
   exact hK _ _ ag (m2.mono ag) M5
  ·refine cT ?_
   simp at h2
   have:aw step s l=aw step (step s' x).1 (l.drop (k+1)):=by rw[hf,hd,aw,if_pos h2]
   refine ak (k+1,(step s' x).1,o2,n2) ⟨h1,m2,by dsimp only;omega,M5,this,aW x gf s' iG h2⟩ kp ?_
   dsimp only
   have wh:∀r∈V.aE aM,r<n2:=fun r hr=>by have:=fu r hr;omega
   refine bt.aT _ ag ag m2.bn (fun _ _=>rfl) ?_
   exact cz
 ·exact abj
def pI(l:List (List UInt8)):List (List UInt8×D):=l.map fun s=>(s, .bool true)
theorem JL(l:List (List UInt8))(s:List UInt8):pI l++[(s, .bool true)]=pI (l++[s]):=by simp[pI]
theorem JM{l:List (List UInt8)}{s:List UInt8}{i:Nat}{x:D}(h:fX s (pI l) 0=some (i,x)):x= .bool true/\(pI l).set i (s, .bool true)=pI l/\l.any (· ==s)=true:=by
 obtain⟨_,h2⟩:=DA h
 rw[Nat.sub_zero]at h2
 simp only[pI,List.getElem?_map]at h2
 cases hl:l[i]? with
 |none=>rw[hl]at h2;cases h2
 |some y=>
  rw[hl]at h2
  simp at h2
  obtain⟨rfl,rfl⟩:=h2
  refine⟨rfl, ?_, ?_⟩
  ·apply List.ext_getElem?
   intro j
   rw[List.getElem?_set]
   split
   ·rename_i e;subst e
    obtain⟨cG,hy⟩:=List.getElem?_eq_some_iff.1 hl
    simp[pI,cG,hy]
   ·rfl
  ·exact List.any_eq_true.2 ⟨y,List.mem_of_getElem? hl,aI⟩
theorem JN{l:List (List UInt8)}{s:List UInt8}(h:fX s (pI l) 0=none):l.any (· ==s)=false:=by
 rw[zf]at h
 rw[List.any_eq_false]
 intro x hx hs
 have:=h (x, .bool true) (by simp[pI];exact hx)
 simp at hs;exact this hs
def Qu(bs:List (List UInt8))(x:jo):Bool:= !bs.any (· ==x.name)&&jW x.name&&dR x.args 0 4
def iA(bs:List (List UInt8))(x:jo):List (List UInt8)×Bool:=(if bs.any (· ==x.name)=true then bs else bs++[x.name],Qu bs x)
theorem XP(x:jo)(hx:x.name.length<=9223372036854775807)(base mp id:Nat)(h:Nat->ab)(hmp:h mp= .row [.mp id])(h1:mp<base)(h2:id<base)(h3:id≠mp)(bs:List (List UInt8)):
 jg Tryz.prog 125 [.d x.d, .ptr mp 0] base (ax h id (.map 9 4 (enc .str (pI bs)))) (ax h id (.map 9 4 (enc .str (pI (iA bs x).1)))) (.d (.bool (iA bs x).2)):=by
 intro o nx hI K X hK
 have hle:=hI.le
 have hg:=hI.bn
 have q0:o mp= .row [.mp id]:=by rw[hI.eq mp h1,ae _ _ _ _ (by omega),hmp]
 have q1:o id= .map 9 4 (enc .str (pI bs)):=by rw[hI.eq id h2,af]
 refine cH.aJ mix Tj aI ?_
 rw[WV]
 cases ha:fX x.name (pI bs) 0 with
 |none=>
  have hn:=JN ha
  have hs:iA bs x=(bs++[x.name],jW x.name&&dR x.args 0 4):=by simp[iA,Qu,hn]
  rw[hs]at hK
  refine xk q0 q1 ha ?_
  refine aD (JK _ hx) rfl ?_
  refine a8 ?_
  refine fV (eR [.bool (dR x.args 0 4)] ?_ ?_)
  ·refine a8 ?_
   exact fun _=>gG _ _ _
  refine a8 ?_
  rw[Na,JL]
  refine hK _ _ ag ⟨fm,ag,fun j hj=> ?_⟩ (fun j g1 g2=>by(repeat(first|rfl|rw[af]|rw[ae _ _ _ _ (by omega)])))
  ·by_cases e:j=id
   ·exact BK
   ·exact aaE
 |some p=>
  obtain⟨i,y⟩:=p
  obtain⟨rfl,e1,hn⟩:=JM ha
  have hs:iA bs x=(bs,false):=by simp[iA,Qu,hn]
  rw[hs]at hK
  refine xk q0 q1 ha ?_
  rw[HK,e1]
  refine hK _ _ ag ⟨fm,ag,fun j hj=> ?_⟩ (fun j g1 g2=>by(repeat(first|rfl|rw[af]|rw[ae _ _ _ _ (by omega)])))
  ·by_cases e:j=id
   ·exact BK
   ·exact aaE
theorem pK:∀ (l:List jo) (bs:List (List UInt8)),match bY l bs with|some B=>aw iA bs l=(B,true)|none=>(aw iA bs l).2=false
 |[],bs=>rfl
 |x::l,bs=>by
  have ih:=pK l (bs++[x.name])
  simp only[bY,aw,iA,Qu]
  by_cases h1:bs.any (· ==x.name)=true
  ·simp[h1]
  ·simp only[Bool.not_eq_true]at h1
   simp only[h1,Bool.false_eq_true,if_false,Bool.not_false,Bool.true_and]
   by_cases h2:(jW x.name&&dR x.args 0 4)=true
   ·have h3: ¬ ((!jW x.name|| !dR x.args 0 4)=true):=by simp at h2;simp[h2]
    rw[if_neg h3,if_pos h2]
    exact ih
   ·have h3:(!jW x.name|| !dR x.args 0 4)=true:=by
     cases hn:jW x.name<;>simp_all
    rw[if_pos h3,if_neg h2]
end Go.Proofs.YtnkamdiiakdkgaaGreat
