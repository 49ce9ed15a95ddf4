/-
  EndsComposes: at every call the law answers true, and leaves all memory as it was. Conditions: none.
-/
import Derived.OpenShut
import Derived.Carry
import Derived.Handed
import Derived.JoinedOf
import Derived.ProofKit
import Derived.Test.YtbmnikpknlkbkaaGreatRows
import Derived.Test.YtbmnikpknlkbkaaGreatEc14
set_option linter.unusedSimpArgs false
set_option linter.unusedVariables false
namespace Go.Proofs.YtbmnikpknlkbkaaGreat
def qY(a:bO):Bool:=decide (0<=a.f/\a.f<=3)&&decide (0<=a.t/\a.t<=3)
theorem At(a:bO):dK [a]=qY a:=rfl
theorem ni(a b:bO)(l:List bO):dK (a::b::l)=(qY a&& !(decide (b.f<a.f)||(b.f==a.f&&decide (b.t<=a.t)))&&dK (b::l)):=rfl
theorem qZ:∀ {a:bO} {l:List bO},qY a=false->dK (a::l)=false
 |a,[],h=>h
 |a,b::l,h=>by rw[ni,h];rfl
theorem yH(n low high:Int):cR Tryz.prog 24 [.i n, .i low, .i high] (.ret [.bool (decide (low<=n)&&decide (n<=high))]):=by
 refine cR.iJ mix Gx (by simp) ?_
 rw[JV]
 simp+contextual only[go_sem]
theorem Dy(a:bO):qY a=((decide (0<=a.f)&&decide (a.f<=3))&&(decide (0<=a.t)&&decide (a.t<=3))):=by
 simp[qY,Bool.decide_and]
set_option maxHeartbeats 1000000 in
theorem vj(l:List bO)(hl:l.length<=1000000):cR Tryz.prog 7 [.sl (l.map bO.d)] (.ret [.bool (dK l)]):=by
 refine cR.iJ mix L9 (by simp) ?_
 rw[c7]
 simp+contextual (disch:=first|omega|simp only[go_sem,false_implies]) only[go_sem,wrap64,if_pos,and_self]
 refine cU (fun k:Nat=>⟨bU [.d (.sl (l.map bO.d)), .aE, .aE, .d (.i k)],fun _=> .no,1⟩)
  (fun k=>k<=l.length/\(k=0\/∃p,l[k - 1]? =some p/\qY p=true/\dK l=dK (l.drop (k - 1)))) (fun k=>l.length - k) 0 ⟨Nat.zero_le _, .inl rfl⟩ (dv.cg _ (by omega) (by omega) (by repeat(first|exact hg.mono (by omega)|exact Good.nil|refine Good.aV ?_ (by omega) rfl|refine Good.aV ?_ (by omega) (uk _ _ _ (by omega))|refine Good.aV ?_ (by omega) (by simp[aa.refs,V.az,V.refs]<;>omega))) (fun _ _=>rfl) ?_) (fun k hk=> ?_)
 ·(repeat(first|exact aG|refine aD ?_|refine ay rfl ?_|refine ay (bR (bQ (by omega))) ?_|refine aZ rfl (by simp[V.refs,V.az]<;>first|omega|assumption) ?_))
 obtain⟨hk,hp⟩:=hk
 simp+contextual (disch:=first|omega|simp only[go_sem,false_implies]) only[go_sem,wrap64,if_pos,List.length_map]
 refine bH (fun h2=> ?_) (fun h2=> ?_)
 ·simp at h2
  obtain⟨x,hx⟩:=pU h2
  have Hq:l.drop k=x::l.drop (k+1):=by
   obtain⟨g1,g2⟩:=List.getElem?_eq_some_iff.1 hx
   rw[List.drop_eq_getElem_cons g1,g2]
  have NG:qY x=false->dK l=false:=fun h=>by
   rcases hp with rfl|⟨p,jG,rh,yY⟩
   ·rw[<- List.drop_zero (l:=l),Hq];exact qZ h
   ·rcases Nat.eq_zero_or_pos k with rfl|Dz
    ·rw[<- List.drop_zero (l:=l),Hq];exact qZ h
    ·obtain⟨g1,g2⟩:=List.getElem?_eq_some_iff.1 jG
     rw[yY,List.drop_eq_getElem_cons g1,g2,show k - 1+1=k by omega,Hq,ni,qZ h,Bool.and_false]
  have Ln:=Dy x
  simp+contextual (disch:=first|omega|simp only[go_sem,false_implies]) only[go_sem,wrap64,if_pos,hx]
  refine cI (yH _ _ _) rfl ?_
  cases hA:(decide (0<=x.f)&&decide (x.f<=3))with
  |false=>
   rw[NG (by rw[Ln,hA];rfl)]
   simp+contextual (disch:=first|omega|simp only[go_sem,false_implies]) only[go_sem,wrap64,if_pos,hx]
  |true=>
  simp+contextual (disch:=first|omega|simp only[go_sem,false_implies]) only[go_sem,wrap64,if_pos,hx]
  refine cI (yH _ _ _) rfl ?_
  cases hB:(decide (0<=x.t)&&decide (x.t<=3))with
  |false=>
   rw[NG (by rw[Ln,hA,hB];rfl)]
   simp+contextual (disch:=first|omega|simp only[go_sem,false_implies]) only[go_sem,wrap64,if_pos,hx]
  |true=>
  have O6:qY x=true:=by rw[Ln,hA,hB];rfl
  have O7:(k=0\/∃p,l[k - 1]? =some p/\(decide (x.f<p.f)||(x.f==p.f&&decide (x.t<=p.t)))=false)->dK l=dK (l.drop k):=fun h=>by
   rcases Nat.eq_zero_or_pos k with rfl|Dz
   ·rw[List.drop_zero]
   ·rcases h with h|⟨q,hq,yZ⟩
    ·omega
    ·rcases hp with h|⟨p,jG,rh,yY⟩
     ·omega
     ·rw[jG]at hq;injection hq with hq;subst hq
      obtain⟨g1,g2⟩:=List.getElem?_eq_some_iff.1 jG
      rw[yY,List.drop_eq_getElem_cons g1,g2,show k - 1+1=k by omega,Hq,ni,rh,yZ];rfl
  have bad:∀q,0<k->l[k - 1]? =some q->(decide (x.f<q.f)||(x.f==q.f&&decide (x.t<=q.t)))=true->dK l=false:=fun q Dz hq yZ=>by
   rcases hp with h|⟨p,jG,rh,yY⟩
   ·omega
   ·rw[jG]at hq;injection hq with hq;subst hq
    obtain⟨g1,g2⟩:=List.getElem?_eq_some_iff.1 jG
    rw[yY,List.drop_eq_getElem_cons g1,g2,show k - 1+1=k by omega,Hq,ni,yZ];simp
  have fin:(k=0\/∃p,l[k - 1]? =some p/\(decide (x.f<p.f)||(x.f==p.f&&decide (x.t<=p.t)))=false)->(k+1<=l.length/\(k+1=0\/∃p,l[k+1 - 1]? =some p/\qY p=true/\dK l=dK (l.drop (k+1 - 1)))):=fun h=>⟨h2, .inr ⟨x,hx,O6,O7 h⟩⟩
  rcases Nat.eq_zero_or_pos k with Dz|Dz
  ·have k0:decide (0<(k:Int))=false:=by simp;omega
   simp+contextual (disch:=first|omega|simp only[go_sem,false_implies]) only[go_sem,wrap64,if_pos,hx,k0]
   refine b7 (bM rfl) ?_
   simp+contextual (disch:=first|omega|simp only[go_sem,false_implies]) only[go_sem,wrap64,if_pos,hx,k0]
   refine aH (k+1) (fin (.inl Dz)) (by omega) (dv.cg _ (show 0<=1 by omega) (by omega) (by repeat(first|exact hg.mono (by omega)|exact Good.nil|refine Good.aV ?_ (by omega) rfl|refine Good.aV ?_ (by omega) (uk _ _ _ (by omega))|refine Good.aV ?_ (by omega) (by simp[aa.refs,V.az,V.refs]<;>omega))) (fun _ _=>rfl) ?_)
   (repeat(first|exact aG|refine aD ?_|refine ay rfl ?_|refine ay (bR (bQ (by omega))) ?_|refine aZ rfl (by simp[V.refs,V.az]<;>first|omega|assumption) ?_))
  ·have k0:decide (0<(k:Int))=true:=by simp;omega
   have ek:((k:Int) - 1).toNat=k - 1:=by omega
   have H5:(0:Int)<=(k:Int) - 1:=by omega
   obtain⟨p,jG⟩:=pU (l:=l) (k:=k - 1) (by omega)
   by_cases c1:x.f<p.f
   ·have Au:decide (x.f<p.f)=true:=by simpa using c1
    rw[bad p Dz jG (by rw[Au];rfl)]
    simp+contextual (disch:=first|omega|simp only[go_sem,false_implies]) only[go_sem,wrap64,if_pos,hx,k0,ek,H5,jG,Au]
    refine b7 (bM rfl) ?_
    simp+contextual (disch:=first|omega|simp only[go_sem,false_implies]) only[go_sem,wrap64,if_pos,and_self]
   ·have Au:decide (x.f<p.f)=false:=by simpa using c1
    by_cases c2:x.f=p.f
    ·have DA:(x.f==p.f)=true:=by simpa using c2
     by_cases c3:x.t<=p.t
     ·have Hr:decide (x.t<=p.t)=true:=by simpa using c3
      rw[bad p Dz jG (by rw[Au,DA,Hr];rfl)]
      simp+contextual (disch:=first|omega|simp only[go_sem,false_implies]) only[go_sem,wrap64,if_pos,hx,k0,ek,H5,jG,Au,DA,Hr]
      refine b7 (bM rfl) ?_
      simp+contextual (disch:=first|omega|simp only[go_sem,false_implies]) only[go_sem,wrap64,if_pos,and_self]
     ·have Hr:decide (x.t<=p.t)=false:=by simpa using c3
      simp+contextual (disch:=first|omega|simp only[go_sem,false_implies]) only[go_sem,wrap64,if_pos,hx,k0,ek,H5,jG,Au,DA,Hr]
      refine b7 (bM rfl) ?_
      simp+contextual (disch:=first|omega|simp only[go_sem,false_implies]) only[go_sem,wrap64,if_pos,and_self]
      refine aH (k+1) (fin (.inr ⟨p,jG,by rw[Au,DA,Hr];rfl⟩)) (by omega) (dv.cg _ (show 0<=1 by omega) (by omega) (by repeat(first|exact hg.mono (by omega)|exact Good.nil|refine Good.aV ?_ (by omega) rfl|refine Good.aV ?_ (by omega) (uk _ _ _ (by omega))|refine Good.aV ?_ (by omega) (by simp[aa.refs,V.az,V.refs]<;>omega))) (fun _ _=>rfl) ?_)
      (repeat(first|exact aG|refine aD ?_|refine ay rfl ?_|refine ay (bR (bQ (by omega))) ?_|refine aZ rfl (by simp[V.refs,V.az]<;>first|omega|assumption) ?_))
    ·have DA:(x.f==p.f)=false:=by simpa using c2
     simp+contextual (disch:=first|omega|simp only[go_sem,false_implies]) only[go_sem,wrap64,if_pos,hx,k0,ek,H5,jG,Au,DA]
     refine b7 (bM rfl) ?_
     simp+contextual (disch:=first|omega|simp only[go_sem,false_implies]) only[go_sem,wrap64,if_pos,and_self]
     refine aH (k+1) (fin (.inr ⟨p,jG,by rw[Au,DA];rfl⟩)) (by omega) (dv.cg _ (show 0<=1 by omega) (by omega) (by repeat(first|exact hg.mono (by omega)|exact Good.nil|refine Good.aV ?_ (by omega) rfl|refine Good.aV ?_ (by omega) (uk _ _ _ (by omega))|refine Good.aV ?_ (by omega) (by simp[aa.refs,V.az,V.refs]<;>omega))) (fun _ _=>rfl) ?_)
     (repeat(first|exact aG|refine aD ?_|refine ay rfl ?_|refine ay (bR (bQ (by omega))) ?_|refine aZ rfl (by simp[V.refs,V.az]<;>first|omega|assumption) ?_))
 ·simp at h2
  simp+contextual (disch:=first|omega|simp only[go_sem,false_implies]) only[go_sem,wrap64,if_pos,and_self]
  rcases hp with rfl|⟨p,jG,rh,yY⟩
  ·have:l=[]:=by cases l with|nil=>rfl|cons _ _=>simp at h2
   subst this;rfl
  ·obtain⟨g1,g2⟩:=List.getElem?_eq_some_iff.1 jG
   rw[yY,List.drop_eq_getElem_cons g1,g2,List.drop_eq_nil_of_le (by omega),At,rh]
theorem Av(a b a' b':Int)(l l':Bool):mJ Tryz.prog 100 56 (.agg [.i a, .i b, .bool l]) (.agg [.i a', .i b', .bool l'])=some (a==a'&&(b==b'&&l==l')):=by
 have h1:a9 Tryz.prog 56=some (.struct [(3,0),(3,1),(4,2)]):=by kernel_rfl
 have h2:a9 Tryz.prog 4=some .bool:=by kernel_rfl
 have h3:a9 Tryz.prog 3=some .int:=by kernel_rfl
 have h4:bd Tryz.prog 4=some false:=by kernel_rfl
 have h5:bd Tryz.prog 3=some false:=by kernel_rfl
 simp[mJ,h1,h2,h3,h4,h5,oV,AH,eH,vn]
theorem Aw(o:Nat->aa)(kD:Bool)(x:bO):wM Tryz.prog o 56 kD (.d (.agg [.i x.f, .i x.t, .bool x.l])) (.d (.agg [.i x.f, .i x.t, .bool x.l]))=some (.d (.bool true)):=by
 obtain⟨fs,h⟩:∃fs,Tryz.prog.underlying 56=some (.struct fs):=structOf (by kernel_rfl)
 have h2:Tryz.prog.eqGuardType Tryz.prog.depth 56=false:=by kernel_rfl
 unfold wM
 rw[h]
 dsimp only
 rw[if_pos h2,Av]
 simp
theorem oT(l:List bO)(hl:l.length<=1000000):cR Tryz.prog 8 [.sl (l.map bO.d), .sl (l.map bO.d)] (.ret [.bool true]):=by
 refine cR.iJ mix Ma (by simp) ?_
 rw[c8]
 have O8:((l.length:Int)!=(l.length:Int))=false:=by simp
 simp+contextual (disch:=first|omega|simp only[go_sem,false_implies]) only[go_sem,wrap64,if_pos,O8,List.length_map]
 refine cU (fun k:Nat=>⟨bU [.d (.sl (l.map bO.d)), .d (.sl (l.map bO.d)), .aE, .aE, .aE, .d (.i k)],fun _=> .no,1⟩)
  (fun k=>k<=l.length) (fun k=>l.length - k) 0 (Nat.zero_le _) (dv.cg _ (show 0<=1 by omega) (by omega) (by repeat(first|exact hg.mono (by omega)|exact Good.nil|refine Good.aV ?_ (by omega) rfl|refine Good.aV ?_ (by omega) (uk _ _ _ (by omega))|refine Good.aV ?_ (by omega) (by simp[aa.refs,V.az,V.refs]<;>omega))) (fun _ _=>rfl) ?_) (fun k hk=> ?_)
 ·(repeat(first|exact aG|refine aD ?_|refine ay rfl ?_|refine ay (bR (bQ (by omega))) ?_|refine aZ rfl (by simp[V.refs,V.az]<;>first|omega|assumption) ?_))
 replace hk:k<=l.length:=hk
 simp+contextual (disch:=first|omega|simp only[go_sem,false_implies]) only[go_sem,wrap64,if_pos,List.length_map]
 refine bH (fun h2=> ?_) (fun h2=> ?_)
 ·simp at h2
  obtain⟨x,hx⟩:=pU h2
  simp+contextual (disch:=first|omega|simp only[go_sem,false_implies]) only[go_sem,wrap64,if_pos,hx,Aw,Option.bind_some]
  refine b7 (bM rfl) ?_
  simp+contextual (disch:=first|omega|simp only[go_sem,false_implies]) only[go_sem,wrap64,if_pos,and_self]
  refine aH (k+1) h2 (by omega) (dv.cg _ (show 0<=1 by omega) (by omega) (by repeat(first|exact hg.mono (by omega)|exact Good.nil|refine Good.aV ?_ (by omega) rfl|refine Good.aV ?_ (by omega) (uk _ _ _ (by omega))|refine Good.aV ?_ (by omega) (by simp[aa.refs,V.az,V.refs]<;>omega))) (fun _ _=>rfl) ?_)
  (repeat(first|exact aG|refine aD ?_|refine ay rfl ?_|refine ay (bR (bQ (by omega))) ?_|refine aZ rfl (by simp[V.refs,V.az]<;>first|omega|assumption) ?_))
 ·simp+contextual (disch:=first|omega|simp only[go_sem,false_implies]) only[go_sem,wrap64,if_pos,and_self]
def iM(i j:Int)(x y:bO):Bool:=x.f==i&&x.t==y.f&&y.t==j
theorem DB(a b:List bO)(i j:Int):jI a b i j=(a.any fun x=>b.any (iM i j x),a.any fun x=>b.any fun y=>iM i j x y&&(x.l||y.l)):=rfl
theorem lL{α:Type}{l:List α}{k:Nat}{x:α}(hx:l[k]? =some x)(f:α->Bool):(l.take (k+1)).any f=((l.take k).any f||f x):=by
 rw[List.take_add_one,hx];simp
theorem wy(a b:List bO)(ha:a.length<=1000000)(hb:b.length<=1000000)(i j:Int):cR Tryz.prog 25 [.sl (a.map bO.d), .sl (b.map bO.d), .i i, .i j] (.ret [.bool (jI a b i j).1, .bool (jI a b i j).2]):=by
 refine cR.iJ mix Gy (by simp) ?_
 rw[JW,DB]
 simp+contextual (disch:=first|omega|simp only[go_sem,false_implies]) only[go_sem,wrap64,if_pos,and_self]
 refine cU (fun k:Nat=>⟨bU [.d (.sl (a.map bO.d)), .d (.sl (b.map bO.d)), .d (.i i), .d (.i j), .aE, .aE, .aE, .aE, .aE, .aE, .d (.bool ((a.take k).any fun x=>b.any (iM i j x))), .d (.bool ((a.take k).any fun x=>b.any fun y=>iM i j x y&&(x.l||y.l))), .d (.i k)],fun _=> .no,1⟩)
  (fun k=>k<=a.length) (fun k=>a.length - k) 0 (Nat.zero_le _) (dv.cg _ (by omega) (by omega) (by repeat(first|exact hg.mono (by omega)|exact Good.nil|refine Good.aV ?_ (by omega) rfl|refine Good.aV ?_ (by omega) (uk _ _ _ (by omega))|refine Good.aV ?_ (by omega) (by simp[aa.refs,V.az,V.refs]<;>omega))) (fun _ _=>rfl) ?_) (fun k hk=> ?_)
 ·(repeat(first|exact aG|refine aD ?_|refine ay rfl ?_|refine ay (bR (bQ (by omega))) ?_|refine aZ rfl (by simp[V.refs,V.az]<;>first|omega|assumption) ?_))
 replace hk:k<=a.length:=hk
 simp+contextual (disch:=first|omega|simp only[go_sem,false_implies]) only[go_sem,wrap64,if_pos,List.length_map]
 refine bH (fun h2=> ?_) (fun h2=> ?_)
 ·simp at h2
  obtain⟨x,hx⟩:=pU h2
  simp+contextual (disch:=first|omega|simp only[go_sem,false_implies]) only[go_sem,wrap64,if_pos,and_self]
  obtain⟨P,hP⟩:∃P:Nat->Bool,P=fun m=>((a.take k).any (fun x=>b.any (iM i j x))||(b.take m).any (iM i j x)):=⟨_,rfl⟩
  obtain⟨Q,hQ⟩:∃Q:Nat->Bool,Q=fun m=>((a.take k).any (fun x=>b.any fun y=>iM i j x y&&(x.l||y.l))||(b.take m).any fun y=>iM i j x y&&(x.l||y.l)):=⟨_,rfl⟩
  have p0:P 0=(a.take k).any (fun x=>b.any (iM i j x)):=by rw[hP];simp
  have q0:Q 0=(a.take k).any (fun x=>b.any fun y=>iM i j x y&&(x.l||y.l)):=by rw[hQ];simp
  have pN:P b.length=(a.take (k+1)).any (fun x=>b.any (iM i j x)):=by rw[hP,lL hx];simp[List.take_length]
  have qN:Q b.length=(a.take (k+1)).any (fun x=>b.any fun y=>iM i j x y&&(x.l||y.l)):=by rw[hQ,lL hx (fun x=>b.any fun y=>iM i j x y&&(x.l||y.l))];simp[List.take_length]
  have pS:∀m y,b[m]? =some y->P (m+1)=(P m||iM i j x y):=fun m y hy=>by rw[hP];simp only[lL hy (iM i j x),Bool.or_assoc]
  have qS:∀m y,b[m]? =some y->Q (m+1)=(Q m||(iM i j x y&&(x.l||y.l))):=fun m y hy=>by rw[hQ];simp only[lL hy (fun y=>iM i j x y&&(x.l||y.l)),Bool.or_assoc]
  clear hP hQ
  rw[<- p0, <- q0]
  refine cU (fun m:Nat=>⟨bU [.d (.sl (a.map bO.d)), .d (.sl (b.map bO.d)), .d (.i i), .d (.i j), .aE, .aE, .aE, .aE, .aE, .aE, .d (.bool (P m)), .d (.bool (Q m)), .d (.i k), .d (.i m)],fun _=> .no,1⟩)
   (fun m=>m<=b.length) (fun m=>b.length - m) 0 (Nat.zero_le _) (dv.cg _ (show 0<=1 by omega) (by omega) (by repeat(first|exact hg.mono (by omega)|exact Good.nil|refine Good.aV ?_ (by omega) rfl|refine Good.aV ?_ (by omega) (uk _ _ _ (by omega))|refine Good.aV ?_ (by omega) (by simp[aa.refs,V.az,V.refs]<;>omega))) (fun _ _=>rfl) ?_) (fun m hm=> ?_)
  ·(repeat(first|exact aG|refine aD ?_|refine ay rfl ?_|refine ay (bR (bQ (by omega))) ?_|refine aZ rfl (by simp[V.refs,V.az]<;>first|omega|assumption) ?_))
  replace hm:m<=b.length:=hm
  simp+contextual (disch:=first|omega|simp only[go_sem,false_implies]) only[go_sem,wrap64,if_pos,List.length_map]
  refine bH (fun h3=> ?_) (fun h3=> ?_)
  ·simp at h3
   obtain⟨y,hy⟩:=pU h3
   have e1:=pS m y hy
   have e2:=qS m y hy
   have Ax:iM i j x y=(x.f==i&&x.t==y.f&&y.t==j):=rfl
   cases c1:(x.f==i)with
   |false=>
    rw[Ax,c1]at e1 e2
    simp only[Bool.false_and,Bool.or_false]at e1 e2
    simp+contextual (disch:=first|omega|simp only[go_sem,false_implies]) only[go_sem,wrap64,if_pos,hx,hy,c1]
    refine b7 (bM rfl) ?_
    simp+contextual (disch:=first|omega|simp only[go_sem,false_implies]) only[go_sem,wrap64,if_pos,and_self]
    refine aH (m+1) h3 (by omega) (dv.cg _ (show 0<=1 by omega) (by omega) (by repeat(first|exact hg.mono (by omega)|exact Good.nil|refine Good.aV ?_ (by omega) rfl|refine Good.aV ?_ (by omega) (uk _ _ _ (by omega))|refine Good.aV ?_ (by omega) (by simp[aa.refs,V.az,V.refs]<;>omega))) (fun _ _=>rfl) ?_)
    rw[e1,e2]
    (repeat(first|exact aG|refine aD ?_|refine ay rfl ?_|refine ay (bR (bQ (by omega))) ?_|refine aZ rfl (by simp[V.refs,V.az]<;>first|omega|assumption) ?_))
   |true=>
   cases c2:(x.t==y.f)with
   |false=>
    rw[Ax,c1,c2]at e1 e2
    simp only[Bool.false_and,Bool.and_false,Bool.true_and,Bool.or_false]at e1 e2
    simp+contextual (disch:=first|omega|simp only[go_sem,false_implies]) only[go_sem,wrap64,if_pos,hx,hy,c1,c2]
    refine b7 (bM rfl) ?_
    simp+contextual (disch:=first|omega|simp only[go_sem,false_implies]) only[go_sem,wrap64,if_pos,and_self]
    refine aH (m+1) h3 (by omega) (dv.cg _ (show 0<=1 by omega) (by omega) (by repeat(first|exact hg.mono (by omega)|exact Good.nil|refine Good.aV ?_ (by omega) rfl|refine Good.aV ?_ (by omega) (uk _ _ _ (by omega))|refine Good.aV ?_ (by omega) (by simp[aa.refs,V.az,V.refs]<;>omega))) (fun _ _=>rfl) ?_)
    rw[e1,e2]
    (repeat(first|exact aG|refine aD ?_|refine ay rfl ?_|refine ay (bR (bQ (by omega))) ?_|refine aZ rfl (by simp[V.refs,V.az]<;>first|omega|assumption) ?_))
   |true=>
   cases c3:(y.t==j)with
   |false=>
    rw[Ax,c1,c2,c3]at e1 e2
    simp only[Bool.false_and,Bool.and_false,Bool.true_and,Bool.or_false]at e1 e2
    simp+contextual (disch:=first|omega|simp only[go_sem,false_implies]) only[go_sem,wrap64,if_pos,hx,hy,c1,c2,c3]
    refine b7 (bM rfl) ?_
    simp+contextual (disch:=first|omega|simp only[go_sem,false_implies]) only[go_sem,wrap64,if_pos,and_self]
    refine aH (m+1) h3 (by omega) (dv.cg _ (show 0<=1 by omega) (by omega) (by repeat(first|exact hg.mono (by omega)|exact Good.nil|refine Good.aV ?_ (by omega) rfl|refine Good.aV ?_ (by omega) (uk _ _ _ (by omega))|refine Good.aV ?_ (by omega) (by simp[aa.refs,V.az,V.refs]<;>omega))) (fun _ _=>rfl) ?_)
    rw[e1,e2]
    (repeat(first|exact aG|refine aD ?_|refine ay rfl ?_|refine ay (bR (bQ (by omega))) ?_|refine aZ rfl (by simp[V.refs,V.az]<;>first|omega|assumption) ?_))
   |true=>
    rw[Ax,c1,c2,c3]at e1 e2
    simp only[Bool.true_and,Bool.or_true]at e1 e2
    simp+contextual (disch:=first|omega|simp only[go_sem,false_implies]) only[go_sem,wrap64,if_pos,hx,hy,c1,c2,c3]
    refine b7 (bM rfl) ?_
    cases hq:Q m with
    |true=>
     rw[hq]at e2
     simp only[Bool.true_or]at e2
     simp+contextual (disch:=first|omega|simp only[go_sem,false_implies]) only[go_sem,wrap64,if_pos,hq]
     refine aH (m+1) h3 (by omega) (dv.cg _ (show 0<=1 by omega) (by omega) (by repeat(first|exact hg.mono (by omega)|exact Good.nil|refine Good.aV ?_ (by omega) rfl|refine Good.aV ?_ (by omega) (uk _ _ _ (by omega))|refine Good.aV ?_ (by omega) (by simp[aa.refs,V.az,V.refs]<;>omega))) (fun _ _=>rfl) ?_)
     rw[e1,e2]
     (repeat(first|exact aG|refine aD ?_|refine ay rfl ?_|refine ay (bR (bQ (by omega))) ?_|refine aZ rfl (by simp[V.refs,V.az]<;>first|omega|assumption) ?_))
    |false=>
     rw[hq]at e2
     simp only[Bool.false_or]at e2
     cases H6:x.l with
     |true=>
      rw[H6]at e2
      simp only[Bool.true_or]at e2
      simp+contextual (disch:=first|omega|simp only[go_sem,false_implies]) only[go_sem,wrap64,if_pos,hx,hy,hq,H6]
      refine aH (m+1) h3 (by omega) (dv.cg _ (show 0<=1 by omega) (by omega) (by repeat(first|exact hg.mono (by omega)|exact Good.nil|refine Good.aV ?_ (by omega) rfl|refine Good.aV ?_ (by omega) (uk _ _ _ (by omega))|refine Good.aV ?_ (by omega) (by simp[aa.refs,V.az,V.refs]<;>omega))) (fun _ _=>rfl) ?_)
      rw[e1,e2]
      (repeat(first|exact aG|refine aD ?_|refine ay rfl ?_|refine ay (bR (bQ (by omega))) ?_|refine aZ rfl (by simp[V.refs,V.az]<;>first|omega|assumption) ?_))
     |false=>
      rw[H6]at e2
      simp only[Bool.false_or]at e2
      simp+contextual (disch:=first|omega|simp only[go_sem,false_implies]) only[go_sem,wrap64,if_pos,hx,hy,hq,H6]
      refine aH (m+1) h3 (by omega) (dv.cg _ (show 0<=1 by omega) (by omega) (by repeat(first|exact hg.mono (by omega)|exact Good.nil|refine Good.aV ?_ (by omega) rfl|refine Good.aV ?_ (by omega) (uk _ _ _ (by omega))|refine Good.aV ?_ (by omega) (by simp[aa.refs,V.az,V.refs]<;>omega))) (fun _ _=>rfl) ?_)
      rw[e1,e2]
      (repeat(first|exact aG|refine aD ?_|refine ay rfl ?_|refine ay (bR (bQ (by omega))) ?_|refine aZ rfl (by simp[V.refs,V.az]<;>first|omega|assumption) ?_))
  ·simp at h3
   have O9:m=b.length:=by omega
   subst O9
   simp+contextual (disch:=first|omega|simp only[go_sem,false_implies]) only[go_sem,wrap64,if_pos,and_self]
   refine aH (k+1) h2 (by omega) (dv.cg _ (show 0<=1 by omega) (by omega) (by repeat(first|exact hg.mono (by omega)|exact Good.nil|refine Good.aV ?_ (by omega) rfl|refine Good.aV ?_ (by omega) (uk _ _ _ (by omega))|refine Good.aV ?_ (by omega) (by simp[aa.refs,V.az,V.refs]<;>omega))) (fun _ _=>rfl) ?_)
   rw[<- pN, <- qN]
   (repeat(first|exact aG|refine aD ?_|refine ay rfl ?_|refine ay (bR (bQ (by omega))) ?_|refine aZ rfl (by simp[V.refs,V.az]<;>first|omega|assumption) ?_))
 ·simp at h2
  have Pa:k=a.length:=by omega
  subst Pa
  rw[List.take_length]
  simp+contextual (disch:=first|omega|simp only[go_sem,false_implies]) only[go_sem,wrap64,if_pos,and_self]
end Go.Proofs.YtbmnikpknlkbkaaGreat
namespace Go.Proofs.YtbmnikpknlkbkaaGreat
def yI(l:List bO):Nat->aa:=aV (fun _=> .no) 1 (.arr 0 56 3 (l.map bO.d))
theorem oy(l:List bO):Good (yI l) 2:=Good.nil.aV (by omega) rfl
theorem rcH_1(l:List bO):yI l 1= .arr 0 56 3 (l.map bO.d):=by unfold yI;rw[aX]
theorem vk(a b:List bO)(q:Nat):(kn a b q).length<=q:=by
 unfold kn
 have:=List.length_filterMap_le (fun p=>if(jI a b (p/4:Nat) (p%4:Nat)).1=true then some (⟨(p/4:Nat),(p%4:Nat),(jI a b (p/4:Nat) (p%4:Nat)).2⟩:bO)else none) (List.range q)
 simpa using this
theorem um(a b:List bO)(ha:a.length<=1000000)(hb:b.length<=1000000):cR Tryz.prog 9 [.sl (a.map bO.d), .sl (b.map bO.d)] (.ret [.sl ((kn a b 16).map bO.d)]):=by
 refine cR.iJ mix Mb (by simp) ?_
 rw[c9]
 simp+contextual (disch:=first|omega|simp only[go_sem,false_implies]) only[go_sem,wrap64,if_pos,and_self]
 refine cU (fun i:Nat=>⟨bU [.d (.sl (a.map bO.d)), .d (.sl (b.map bO.d)), .aE, .aE, .aE, .osl 1 0, .d (.i i)],yI (kn a b (i*4)),2⟩)
  (fun i=>i<=4) (fun i=>4 - i) 0 (Nat.zero_le _) (dv.Ap (ty:=56) (sz:=3) (es:=[]) (fun _=>False) .aI 1 _ (by omega) (fun j hj=> ?_) (by unfold yI;rw[aX];rfl) (.inl ⟨rfl,rfl,by decide⟩) (fun j hj=> ?_) (fun _ h=>h.elim) ?_) (fun i hi=> ?_)
 ·exact lJ (y:= .no) rfl (by unfold yI;(repeat(first|rfl|rw[aX]|rw[aS _ _ _ _ (by omega)]))) (jC rfl (by simp[aa.refs]))
 ·unfold yI;(repeat(first|rfl|rw[aX]|rw[aS _ _ _ _ (by omega)]))
 ·(repeat(first|exact lG|refine jB ?_|refine jq rfl ?_|refine jq (bR (bQ (by omega))) ?_|refine qV 0 rfl rfl rfl ?_|refine qU rfl (by simp[V.refs,V.az]<;>first|omega|assumption) ?_|refine qW rfl (by simp[V.ids]<;>omega) ?_))
 replace hi:i<=4:=hi
 simp+contextual (disch:=first|omega|simp only[go_sem,false_implies]) only[go_sem,wrap64,if_pos,and_self]
 refine bH (fun h1=> ?_) (fun h1=> ?_)
 ·replace h1:i<4:=by simp at h1;omega
  simp+contextual (disch:=first|omega|simp only[go_sem,false_implies]) only[go_sem,wrap64,if_pos,and_self]
  refine cU (fun j:Nat=>⟨bU [.d (.sl (a.map bO.d)), .d (.sl (b.map bO.d)), .aE, .aE, .aE, .osl 1 0, .d (.i i), .d (.i j)],yI (kn a b (i*4+j)),2⟩)
   (fun j=>j<=4) (fun j=>4 - j) 0 (Nat.zero_le _) (dv.cg _ (show 0<=2 by omega) (by omega) (oy _) (fun j hj=>rfl) ?_) (fun j hj=> ?_)
  ·(repeat(first|exact aG|refine aD ?_|refine ay rfl ?_|refine ay (bR (bQ (by omega))) ?_|refine aZ rfl (by simp[V.refs,V.az]<;>first|omega|assumption) ?_))
  replace hj:j<=4:=hj
  simp+contextual (disch:=first|omega|simp only[go_sem,false_implies]) only[go_sem,wrap64,if_pos,and_self]
  refine bH (fun h2=> ?_) (fun h2=> ?_)
  ·replace h2:j<4:=by simp at h2;omega
   have yG:=x4 a b (i*4+j)
   have e1:(i*4+j)/4=i:=by omega
   have e2:(i*4+j)%4=j:=by omega
   rw[e1,e2]at yG
   have hlen:=vk a b (i*4+j)
   simp+contextual (disch:=first|omega|simp only[go_sem,false_implies]) only[go_sem,wrap64,if_pos,and_self]
   refine cI (wy a b ha hb i j) rfl ?_
   cases ht:(jI a b i j).1 with
   |true=>
    rw[if_pos ht]at yG
    simp+contextual (disch:=first|omega|simp only[go_sem,false_implies]) only[go_sem,wrap64,if_pos,rcH_1,List.length_map]
    refine aH (j+1) h2 (by omega) (dv.Ap (fun j=>j=1) (.osl 1 1) 1 _ (by omega) (fun q hq=> ?_) (rcH_1 _) (.inr ⟨1,1,rfl,rfl, ?_⟩) (fun q hq=> ?_) (fun q h h2=>by omega) ?_)
    ·exact lJ (y:= .no) (by unfold yI;(repeat(first|rfl|rw[aX]|rw[aS _ _ _ _ (by omega)]))) (by unfold yI;(repeat(first|rfl|rw[aX]|rw[aS _ _ _ _ (by omega)]))) (jC rfl (by simp[aa.refs]))
    ·(repeat(first|rfl|rw[aX]|rw[aS _ _ _ _ (by omega)]))
     rw[<- Nat.add_assoc,yG,List.map_append];rfl
    ·unfold yI;(repeat(first|rfl|rw[aX]|rw[aS _ _ _ _ (by omega)]))
    ·(repeat(first|exact lG|refine jB ?_|refine jq rfl ?_|refine jq (bR (bQ (by omega))) ?_|refine qV 0 rfl rfl rfl ?_|refine qU rfl (by simp[V.refs,V.az]<;>first|omega|assumption) ?_|refine qW rfl (by simp[V.ids]<;>omega) ?_))
   |false=>
    rw[if_neg (by rw[ht];simp),List.append_nil]at yG
    simp+contextual (disch:=first|omega|simp only[go_sem,false_implies]) only[go_sem,wrap64,if_pos,and_self]
    refine aH (j+1) h2 (by omega) (dv.cg _ (show 0<=2 by omega) (by omega) (oy _) (fun q hq=> ?_) ?_)
    ·rw[<- Nat.add_assoc,yG]
    ·(repeat(first|exact aG|refine aD ?_|refine ay rfl ?_|refine ay (bR (bQ (by omega))) ?_|refine aZ rfl (by simp[V.refs,V.az]<;>first|omega|assumption) ?_))
  ·have vH:j=4:=by simp at h2;omega
   subst vH
   simp+contextual (disch:=first|omega|simp only[go_sem,false_implies]) only[go_sem,wrap64,if_pos,and_self]
   refine aH (i+1) h1 (by omega) (dv.cg _ (show 0<=2 by omega) (by omega) (oy _) (fun q hq=> ?_) ?_)
   ·rw[show(i+1)*4=i*4+4 by omega]
   ·(repeat(first|exact aG|refine aD ?_|refine ay rfl ?_|refine ay (bR (bQ (by omega))) ?_|refine aZ rfl (by simp[V.refs,V.az]<;>first|omega|assumption) ?_))
 ·have pf:i=4:=by simp at h1;omega
  subst pf
  simp+contextual (disch:=first|omega|simp only[go_sem,false_implies]) only[go_sem,wrap64,if_pos,rcH_1]
def lM(a b:List bO):List bO×Int:=if(dK a&&dK b)=true then(kn a b 16,0)else([],2)
theorem wz(a b:List bO)(ha:a.length<=1000000)(hb:b.length<=1000000):cR Tryz.prog 6 [.sl (a.map bO.d), .sl (b.map bO.d)] (.ret [.sl ((lM a b).1.map bO.d), .i (lM a b).2]):=by
 refine cR.iJ mix L8 (by simp) ?_
 rw[c6]
 have za:(hY a).1.length=16/\(hY a).2=dK a:=by
  rw[qI];unfold hY
  cases h:gG a (-1) sF with
  |some m=>exact⟨(nb h).1,rfl⟩
  |none=>exact⟨rfl,rfl⟩
 have zb:(hY b).1.length=16/\(hY b).2=dK b:=by
  rw[qI];unfold hY
  cases h:gG b (-1) sF with
  |some m=>exact⟨(nb h).1,rfl⟩
  |none=>exact⟨rfl,rfl⟩
 have NH:=vi a ha
 have Hs:=vi b hb
 rw[za.2]at NH
 rw[zb.2]at Hs
 have ra:=lI _ za.1
 have rb:=lI _ zb.1
 have la:=gx _ za.1
 have lb:=gx _ zb.1
 simp+contextual (disch:=first|omega|simp only[go_sem,false_implies]) only[go_sem,wrap64,if_pos,and_self]
 refine fw NH ?_
 simp+contextual (disch:=first|omega|simp only[go_sem,false_implies]) only[go_sem,wrap64,if_pos,jD,la,ra]
 refine fw Hs ?_
 simp+contextual (disch:=first|omega|simp only[go_sem,false_implies]) only[go_sem,wrap64,if_pos,jD,lb,rb]
 cases hA:dK a with
 |false=>
  have e:lM a b=([],2):=by simp[lM,hA]
  rw[e]
  simp+contextual (disch:=first|omega|simp only[go_sem,false_implies]) only[go_sem,wrap64,if_pos,and_self]
 |true=>
 cases hB:dK b with
 |false=>
  have e:lM a b=([],2):=by simp[lM,hA,hB]
  rw[e]
  simp+contextual (disch:=first|omega|simp only[go_sem,false_implies]) only[go_sem,wrap64,if_pos,and_self]
 |true=>
  have e:lM a b=(kn a b 16,0):=by simp[lM,hA,hB]
  have e2:m4 (qH (hY a).1 (hY b).1) 16=kn a b 16:=by
   rw[qI]at hA hB
   obtain⟨m,hm⟩:=Option.isSome_iff_exists.1 hA
   obtain⟨n,hn⟩:=Option.isSome_iff_exists.1 hB
   have x1:(hY a).1=m:=by unfold hY;rw[hm]
   have x2:(hY b).1=n:=by unfold hY;rw[hn]
   rw[x1,x2];exact xY hm hn
  have t16:(qH (hY a).1 (hY b).1).length=16:=by simp[qH]
  have hl:=Dx _ t16
  rw[e2]at hl
  rw[e]
  simp+contextual (disch:=first|omega|simp only[go_sem,false_implies]) only[go_sem,wrap64,if_pos,ra,rb,la,lb,fR]
  refine fw (Dw _ _ za.1 zb.1) ?_
  simp+contextual (disch:=first|omega|simp only[go_sem,false_implies]) only[go_sem,wrap64,if_pos,and_self]
  refine fw hl ?_
  simp+contextual (disch:=first|omega|simp only[go_sem,false_implies]) only[go_sem,wrap64,if_pos,and_self]
set_option maxHeartbeats 1000000 in
theorem oz(Ht:cR Tryz.prog 5 [] (.ret [.bool true]))(a b:List bO)(ha:a.length<=9223372036854775807)(hb:b.length<=9223372036854775807):cR Tryz.prog 3 [.sl (a.map bO.d), .sl (b.map bO.d)] (.ret [.bool true]):=by
 refine cR.iJ mix L7 (by simp) ?_
 rw[c3]
 by_cases h1:30<a.length
 ·have pf:decide ((30:Int)<(a.length:Int))=true:=by simp;omega
  simp+contextual (disch:=first|omega|simp only[go_sem,false_implies]) only[go_sem,wrap64,if_pos,pf,List.length_map]
  refine cI Ht rfl ?_
  simp+contextual (disch:=first|omega|simp only[go_sem,false_implies]) only[go_sem,wrap64,if_pos,and_self]
 have pf:decide ((30:Int)<(a.length:Int))=false:=by simp;omega
 by_cases h2:30<b.length
 ·have vH:decide ((30:Int)<(b.length:Int))=true:=by simp;omega
  simp+contextual (disch:=first|omega|simp only[go_sem,false_implies]) only[go_sem,wrap64,if_pos,pf,vH,List.length_map]
  refine cI Ht rfl ?_
  simp+contextual (disch:=first|omega|simp only[go_sem,false_implies]) only[go_sem,wrap64,if_pos,and_self]
 have vH:decide ((30:Int)<(b.length:Int))=false:=by simp;omega
 simp+contextual (disch:=first|omega|simp only[go_sem,false_implies]) only[go_sem,wrap64,if_pos,pf,vH,List.length_map]
 refine fw (wz a b (by omega) (by omega)) ?_
 simp+contextual (disch:=first|omega|simp only[go_sem,false_implies]) only[go_sem,wrap64,if_pos,and_self]
 refine cI (vj a (by omega)) rfl ?_
 cases hA:dK a with
 |false=>
  have e:lM a b=([],2):=by simp[lM,hA]
  rw[e]
  simp+contextual (disch:=first|omega|simp only[go_sem,false_implies]) only[go_sem,wrap64,if_pos,and_self]
  refine cI Ht rfl ?_
  simp+contextual (disch:=first|omega|simp only[go_sem,false_implies]) only[go_sem,wrap64,if_pos,and_self]
 |true=>
 simp+contextual (disch:=first|omega|simp only[go_sem,false_implies]) only[go_sem,wrap64,if_pos,and_self]
 refine cI (vj b (by omega)) rfl ?_
 cases hB:dK b with
 |false=>
  have e:lM a b=([],2):=by simp[lM,hA,hB]
  rw[e]
  simp+contextual (disch:=first|omega|simp only[go_sem,false_implies]) only[go_sem,wrap64,if_pos,and_self]
  refine cI Ht rfl ?_
  simp+contextual (disch:=first|omega|simp only[go_sem,false_implies]) only[go_sem,wrap64,if_pos,and_self]
 |true=>
  have e:lM a b=(kn a b 16,0):=by simp[lM,hA,hB]
  have hlen:=vk a b 16
  have Lo:decide (((kn a b 16).length:Int)<=16)=true:=by simp;omega
  rw[e]
  simp+contextual (disch:=first|omega|simp only[go_sem,false_implies]) only[go_sem,wrap64,if_pos,List.length_map,Lo]
  refine fw (um a b (by omega) (by omega)) ?_
  simp+contextual (disch:=first|omega|simp only[go_sem,false_implies]) only[go_sem,wrap64,if_pos,and_self]
  refine cI (oT _ (by omega)) rfl ?_
  simp+contextual (disch:=first|omega|simp only[go_sem,false_implies]) only[go_sem,wrap64,if_pos,and_self]
  refine cI Ht rfl ?_
  simp+contextual (disch:=first|omega|simp only[go_sem,false_implies]) only[go_sem,wrap64,if_pos,and_self]
end Go.Proofs.YtbmnikpknlkbkaaGreat
section
namespace Go.Proofs.YtbmnikpknlkbkaaGreat
open Go.ChangeShapes Go.WideShapes Go.RowKit
def oA(P:Program)(rec:TypeId->Option (List TypeId)):Nat->List Field->Option (List TypeId)
 |_,[]=>some []
 |off,f::fs=>if f.offset=off then match rec f.type with
  |some l=>if P.cellsOf f.type=l.length then(oA P rec (off+l.length) fs).map (l++·)else none
  |none=>none else none
def iK(P:Program):Nat->TypeId->Option (List TypeId)
 |0,_=>none
 |n+1,t=>match P.underlying t with
  |some .bool|some (.int _)|some .string|some (.slice _)=>some [t]
  |some (.struct fs)=>oA P (iK P n) 0 fs.toList
  |some (.array k e)=>match iK P n e with
   |some l=>if P.cellsOf e=l.length then some (List.replicate k l).flatten else none
   |none=>none
  |_=>none
def isAgg(P:Program)(t:TypeId):Bool:=match P.underlying t with
 |some (.struct _)|some (.array _ _)=>true
 |_=>false
mutual
def D.jr (P:Program):D->TypeId->Prop
 | .int k n,t=>P.underlying t=some (.int k)/\(Lit.int k n).wf=true
 | .bool _,t=>P.underlying t=some .bool
 | .str l,t=>P.underlying t=some .string/\l.length<=maxLen
 | .sl es,t=>∃e,P.underlying t=some (.slice e)/\es.length<=maxLen/\D.yJ P es e
 | .agg cs,t=>isAgg P t=true/\∃ls,iK P 20 t=some ls/\D.eW P cs ls
 |_,_=>False
def D.yJ (P:Program):List D->TypeId->Prop
 |[],_=>True
 |x::l,e=>D.jr P x e/\D.yJ P l e
def D.eW (P:Program):List D->List TypeId->Prop
 |[],ts=>ts=[]
 |x::l,ts=>∃t r,ts=t::r/\D.jr P x t/\D.eW P l r
end
def nj(P:Program)(T:List TypeId):Bool:=T.all fun t=>match iK P 20 t with
 |some l=>decide (l.length=P.cellsOf t)&&decide (0<l.length)&&l.all fun u=>match P.underlying u with
  |some (.slice e)=>T.contains e
  |_=>true
 |none=>false
theorem lN{P:Program}:∀ {xs ys:List D} {l r:List TypeId},D.eW P xs l->D.eW P ys r->D.eW P (xs++ys) (l++r)
 |[],_,_,_,h,h'=>by simp only[D.eW]at h;subst h;exact h'
 |x::xs,_,_,_,h,h'=>by
  obtain⟨t,r,rfl,h1,h2⟩:=h
  exact⟨t,_,rfl,h1,lN h2 h'⟩
theorem aQ{B:Nat->Prop}{w:World}:∀ {xs ys:List D} {l r:List Value},D.ak B w xs l->D.ak B w ys r->D.ak B w (xs++ys) (l++r)
 |[],_,_,_,h,h'=>by simp only[D.ak]at h;subst h;exact h'
 |x::xs,_,_,_,h,h'=>by
  obtain⟨t,r,rfl,h1,h2⟩:=h
  exact⟨t,_,rfl,h1,aQ h2 h'⟩
theorem Flat.append {l r:List Value}(h:Flat l)(h':Flat r):Flat (l++r):=fun u hu=>(List.mem_append.1 hu).elim (h u) (h' u)
abbrev DC:Nat->Prop:=fun _=>False
section
variable {H:Type}{enc:TypeId×Value->H}{P:Program}{W:World}{T:List TypeId}{b0:Nat}
def cu(P:Program)(W:World)(l:List TypeId)(cs:List Value):Prop:=∃xs,D.eW P xs l/\D.ak DC W xs cs/\Flat cs
theorem cu.append {l r:List TypeId}{cs ds:List Value}(h:cu P W l cs)(h':cu P W r ds):cu P W (l++r) (cs++ds):=by
 obtain⟨xs,a1,a2,a3⟩:=h
 obtain⟨ys,b1,b2,b3⟩:=h'
 exact⟨xs++ys,lN a1 b1,aQ a2 b2,a3.append b3⟩
theorem cu.length {l:List TypeId}{cs:List Value}(h:cu P W l cs):cs.length=l.length:=by
 obtain⟨xs,a1,a2,_⟩:=h
 rw[D.aj _ _ a2]
 clear a2
 induction xs generalizing l with
 |nil=>simp only[D.eW]at a1;simp[a1]
 |cons x xs ih=>obtain⟨t,r,rfl,_,h⟩:=a1;simp[ih h]
theorem cu.nil:cu P W [] []:=⟨[],rfl,rfl,fun _ h=>by cases h⟩
theorem sW{α:Type}(cs:List α)(o k:Nat):cs.drop o=(cs.drop o).take k++cs.drop (o+k):=by
 rw[<- List.drop_drop];exact(List.take_append_drop k _).symm
theorem lO{rec:TypeId->Option (List TypeId)}{cs:List Value}{rd:TypeId->List Value->Prop}
 (a7:∀t l vs,rec t=some l->(∀u∈l,∀e,P.underlying u=some (.slice e)->e∈T)->P.cellsOf t=l.length->rd t vs->cu P W l vs):
 ∀ (fs:List Field) (off:Nat) (l:List TypeId),oA P rec off fs=some l->(∀u∈l,∀e,P.underlying u=some (.slice e)->e∈T)->(∀f∈fs,rd f.type ((cs.drop f.offset).take (P.cellsOf f.type)))->
   off+l.length=cs.length->cu P W l (cs.drop off)
 |[],off,l,h,_,_,hl=>by
  simp only[oA,Option.some.injEq]at h
  subst h
  have:cs.drop off=[]:=List.drop_eq_nil_of_le (by simp at hl;omega)
  rw[this];exact cu.nil
 |f::fs,off,l,h,hT,hr,hl=>by
  simp only[oA]at h
  split at h
  ·rename_i ho
   split at h
   ·rename_i l1 h1
    split at h
    ·rename_i hc
     simp only[Option.map_eq_some_iff]at h
     obtain⟨r,h2,rfl⟩:=h
     have hd:=hr f (by simp)
     rw[ho,hc]at hd
     rw[sW cs off l1.length]
     simp only[List.length_append]at hl
     exact(a7 f.type l1 _ h1 (fun u hu=>hT u (by simp[hu])) hc hd).append (lO a7 fs _ r h2 (fun u hu=>hT u (by simp[hu])) (fun f hf=>hr f (by simp[hf])) (by omega))
    ·cases h
   ·cases h
  ·cases h
theorem mH{l:List TypeId}{cs:List Value}:∀ (k i:Nat),(∀j,j<k->cu P W l ((cs.drop ((i+j)*l.length)).take l.length))->(i+k)*l.length=cs.length->cu P W (List.replicate k l).flatten (cs.drop (i*l.length))
 |0,i,_,hl=>by
  have:cs.drop (i*l.length)=[]:=List.drop_eq_nil_of_le (by simp at hl;omega)
  rw[this];exact cu.nil
 |k+1,i,h,hl=>by
  rw[List.replicate_succ,List.flatten_cons,sW cs (i*l.length) l.length]
  refine(by simpa using h 0 (by omega):cu P W l _).append ?_
  rw[show i*l.length+l.length=(i+1)*l.length by rw[Nat.add_mul];omega]
  refine mH k (i+1) (fun j hj=> ?_) (by rw[<- hl];congr 1;omega)
  have:=h (j+1) (by omega)
  rwa [show i+(j+1)=i+1+j by omega]at this
theorem sX{e:TypeId}{l:List TypeId}{cs:List Value}(hl:iK P 20 e=some l)(h:cu P W l cs):∃ (ev:Value) (x:D),ev.cells.toList=cs/\D.jr P x e/\D.den DC W x ev/\(isAgg P e=true->ev= .agg cs.toArray)/\(isAgg P e=false->cs=[ev]/\ev.oneCell'=true):=by
 obtain⟨xs,h1,h2,h3⟩:=h
 cases ha:isAgg P e with
 |true=>exact⟨.agg cs.toArray, .agg xs,by simp[Value.cells],⟨ha,l,hl,h1⟩,⟨_,rfl,by simpa using h2,by simpa using h3⟩,fun _=>rfl,(fun h=>by cases h)⟩
 |false=>
  have:l=[e]:=by
   unfold iK at hl
   unfold isAgg at ha
   split at hl<;>simp_all
  subst this
  obtain⟨t,r,e1,h4,h5⟩:∃x r,xs=x::r/\D.jr P x e/\D.eW P r []:=by
   cases xs with
   |nil=>simp[D.eW]at h1
   |cons x r=>obtain⟨t,r',e1,h4,h5⟩:=h1;injection e1 with e1 e2;subst e1;subst e2;exact⟨x,r,rfl,h4,h5⟩
  subst e1
  have:r=[]:=by cases r with
   |nil=>rfl
   |cons y r=>obtain⟨_,_,e,_⟩:=h5;cases e
  subst this
  obtain⟨u,us,rfl,h6,h7⟩:=h2
  simp only[D.ak]at h7
  subst h7
  have ho:=h3 u (by simp)
  refine⟨u,t, ?_,h4,h6,(fun h=>by cases h),fun _=>⟨rfl,ho⟩⟩
  cases u<;>simp_all[Value.oneCell',Value.cells]
theorem sY(hp:nj P T=true){t:TypeId}(ht:t∈T):∃l,iK P 20 t=some l/\l.length=P.cellsOf t/\0<l.length/\∀u∈l,∀e,P.underlying u=some (.slice e)->e∈T:=by
 have:=List.all_eq_true.1 hp t ht
 split at this
 ·rename_i l hl
  simp only[Bool.and_eq_true,decide_eq_true_eq,List.all_eq_true]at this
  refine⟨l,hl,this.1.1,this.1.2,fun u hu e he=> ?_⟩
  have:=this.2 u hu
  rw[he]at this
  simpa using this
 ·cases this
theorem uo(hp:nj P T=true):∀ (n m:Nat) (t:TypeId) (l:List TypeId) (cs:List Value) (x:DataW H×List MemPlace),iK P m t=some l->(∀u∈l,∀e,P.underlying u=some (.slice e)->e∈T)->
 P.cellsOf t=l.length->DataW.trod enc P W 0 (fun _=>true) true n t cs=some x->cu P W l cs:=by
 intro n
 induction n with
 |zero=>intro m t l cs x _ _ _ h;simp[DataW.trod]at h
 |succ n ih=>
  intro m t l cs x hl hT hc h
  cases m with
  |zero=>simp[iK]at hl
  |succ m=>
  unfold iK at hl
  split at hl
  ·rename_i hu
   injection hl with hl;subst hl
   obtain⟨b,rfl,_⟩:=DataW.trod_bool hu h
   exact⟨[.bool b],⟨t,[],rfl,hu,rfl⟩,⟨_,_,rfl,rfl,rfl⟩,by simp[Flat,Value.oneCell']⟩
  ·rename_i k hu
   injection hl with hl;subst hl
   obtain⟨b,rfl,_,hw⟩:=DataW.trod_int hu h
   exact⟨[.int k b],⟨t,[],rfl,⟨hu,hw⟩,rfl⟩,⟨_,_,rfl,rfl,rfl⟩,by simp[Flat,Value.oneCell']⟩
  ·rename_i hu
   injection hl with hl;subst hl
   obtain⟨s,rfl,_,hw⟩:=DataW.trod_string hu h
   exact⟨[.str s.data.toList],⟨t,[],rfl,⟨hu,by simpa using hw⟩,rfl⟩,⟨_,_,rfl,⟨s,rfl,rfl⟩,rfl⟩,by simp[Flat,Value.oneCell']⟩
  ·rename_i e hu
   injection hl with hl;subst hl
   rcases DataW.trod_slice hu h with⟨rfl,_⟩|⟨a,len,cap,elems,rest,n',hn,rfl,_,_,h2,h3,h4,h5,h6,_⟩
   ·exact⟨[.sl []],⟨t,[],rfl,⟨e,hu,by simp,trivial⟩,rfl⟩,⟨_,_,rfl,⟨none,0,0,rfl,rfl,by simp,fun _=>rfl,0,(fun a ha=>by cases ha)⟩,rfl⟩,by simp[Flat,Value.oneCell']⟩
   ·injection hn with hn;subst hn
    obtain⟨l',g1,g2,g3,g4⟩:=sY hp (hT t (by simp) e hu)
    have Pb:∀i,i<len->∃ev:Value,∃y:D,ev.cells.size=P.cellsOf e/\eo DC W (a.add (i*P.cellsOf e)) ev.cells/\D.den DC W y ev/\D.jr P y e:=by
     intro i hi
     have:=h5 i hi
     rw[List.getElem?_eq_getElem (by omega)]at this
     obtain⟨ci,k1,k2⟩:=Option.bind_eq_some_iff.1 this
     obtain⟨_,k3,k4⟩:=World.cells?_some k1
     have k5:=ih 20 e l' ci _ g1 g4 g2.symm k2
     obtain⟨ev,y,q1,q2,q3,_,_⟩:=sX g1 k5
     have q4:ev.cells=ci.toArray:=by rw[<- q1]
     refine⟨ev,y,by rw[q4];simp[k5.length,g2],fun j u hj=>⟨?_,fun h=>h⟩,q3,q2⟩
     rw[q4]at hj
     have wB:ci[j]? =some u:=by simpa using hj
     have br:j<P.cellsOf e:=by rw[<- g2, <- k5.length];exact(List.getElem?_eq_some_iff.1 wB).1
     rw[k4 j br];exact wB
    have list:∀k i,i+k=len->∃es,es.length=k/\D.yJ P es e/\D.elems DC W (P.cellsOf e) a i es:=by
     intro k
     induction k with
     |zero=>intro i _;exact⟨[],rfl,trivial,trivial⟩
     |succ k Pc=>
      intro i hi
      obtain⟨es,e1,e2,e3⟩:=Pc (i+1) (by omega)
      obtain⟨ev,y,y1,y2,y3,y4⟩:=Pb i (by omega)
      exact⟨y::es,by simp[e1],⟨y4,e2⟩,⟨ev,y1,y2,y3⟩,e3⟩
    obtain⟨es,e1,e2,e3⟩:=list len 0 (by omega)
    have Hu:cap≠0->a.spot=none:=by
     intro Iw
     have BL:∀z,(W.cells? 0 (a.add (0*P.cellsOf e)) (P.cellsOf e)).bind (DataW.trod enc P W 0 (fun _=>true) true n e)=some z->a.spot=none:=by
      intro z hz
      obtain⟨ci,k1,k2⟩:=Option.bind_eq_some_iff.1 hz
      obtain⟨_,k3,k4⟩:=World.cells?_some k1
      have k5:=k4 0 (by omega)
      rw[List.getElem?_eq_getElem (by omega)]at k5
      simpa[Addr.add]using World.cell?_spot k5
     by_cases hlen:0<len
     ·have:=h5 0 hlen
      rw[List.getElem?_eq_getElem (by omega)]at this
      exact BL _ this
     ·obtain⟨h7,h8⟩:=h6 rfl
      have:=h8 0 (by omega)
      rw[List.getElem?_eq_getElem (by omega),show(len+0)=0 by omega]at this
      exact BL _ this
    exact⟨[.sl es],⟨t,[],rfl,⟨e,hu,by omega,e2⟩,rfl⟩,⟨_,_,rfl,⟨some a,len,cap,rfl,e1.symm,h2,(fun h=>by cases h),P.cellsOf e,(fun a' Lp=>by injection Lp with Lp;subst Lp;exact⟨Hu,e3⟩)⟩,rfl⟩,by simp[Flat,Value.oneCell']⟩
  ·rename_i fs hu
   obtain⟨xs,n',hn,_,h2,h3,h4⟩:=DataW.trod_struct hu h
   injection hn with hn;subst hn
   have:=lO (P:=P) (W:=W) (T:=T) (cs:=cs) (rd:=fun t vs=>∃y,DataW.trod enc P W 0 (fun _=>true) true n t vs=some y) (rec:=iK P m) (fun t l vs q1 q2 q3 ⟨y,q4⟩=>ih m t l vs y q1 q2 q3 q4) fs.toList 0 l hl hT ?_ (by omega)
   ·simpa using this
   ·intro f hf
    obtain⟨i,hi,Pf⟩:=List.getElem_of_mem hf
    have:=h4 i f (by simp at hi;simp[<- Pf,Array.getElem?_eq_getElem hi])
    rw[List.getElem?_eq_getElem (by simp at hi;omega)]at this
    exact⟨_,this⟩
  ·rename_i k e hu
   split at hl
   ·rename_i l' EV
    split at hl
    ·rename_i NI
     injection hl with hl;subst hl
     obtain⟨xs,n',hn,_,h2,h3,h4⟩:=DataW.trod_array hu h
     injection hn with hn;subst hn
     have hlen:cs.length=k*l'.length:=by rw[h2,hc];simp
     have Pg:0<k->∀u∈l',∀e,P.underlying u=some (.slice e)->e∈T:=fun hk u hu=>hT u (List.mem_flatten.2 ⟨l',List.mem_replicate.2 ⟨by omega,rfl⟩,hu⟩)
     have:=mH (P:=P) (W:=W) (l:=l') (cs:=cs) k 0 (fun j hj=> ?_) (by rw[hlen];simp)
     ·simpa using this
     ·have:=h4 j hj
      rw[NI,List.getElem?_eq_getElem (by omega)]at this
      rw[Nat.zero_add]
      exact ih m e l' _ _ EV (Pg (by omega)) NI this
    ·cases hl
   ·cases hl
  ·cases hl
theorem pV(hp:nj P T=true):∀ (ts:List TypeId) (vs:List Value) (ds:List (DataW H)) (p:List MemPlace),(∀t∈ts,t∈T)->DataW.TrodAll enc P W 0 (fun _=>true) true ts vs ds p->
 (∀ (j:Nat) t v,ts[j]? =some t->vs[j]? =some v->Value.okWide P W .any b0 t v)->∃xs,D.eW P xs ts/\D.ak DC W xs vs
 |[],vs,ds,p,_,h,_=>by
  obtain⟨rfl,rfl,rfl⟩:=trodAll_nil h
  exact⟨[],rfl,rfl⟩
 |t::ts,vs,ds,p,hT,h,hv=>by
  obtain⟨v,Hw,d,E8,p1,q1,rfl,rfl,rfl,⟨n,h1⟩,h2⟩:=trodAll_cons h
  obtain⟨xs,a1,a2⟩:=pV hp ts Hw E8 q1 (fun t ht=>hT t (by simp[ht])) h2 (fun j t v h1 h2=>hv (j+1) t v (by simpa using h1) (by simpa using h2))
  obtain⟨l,g1,g2,g3,g4⟩:=sY hp (hT t (by simp))
  obtain⟨ev,x,q1,q2,q3,q4,q5⟩:=sX g1 (uo hp n 20 t l _ _ g1 g4 g2.symm h1)
  have a8:=hv 0 t v rfl rfl
  have:ev=v:=by
   cases ha:isAgg P t with
   |true=>
    have:∃cs,v= .agg cs:=by
     unfold isAgg at ha
     unfold Value.okWide at a8
     split at ha
     ·rename_i hu;rw[hu]at a8;obtain⟨cs,rfl,_⟩:=a8;exact⟨cs,rfl⟩
     ·rename_i hu;rw[hu]at a8;obtain⟨cs,rfl,_⟩:=a8;exact⟨cs,rfl⟩
     ·cases ha
    obtain⟨cs,rfl⟩:=this
    rw[q4 ha]
    simp[Value.cells]
   |false=>
    obtain⟨q6,q7⟩:=q5 ha
    cases v with
    |agg cs=>
     exfalso
     unfold isAgg at ha
     unfold Value.okWide at a8
     split at a8
     ·rename_i hu;rw[hu]at ha;cases ha
     ·rename_i hu;rw[hu]at ha;cases ha
     ·unfold Cell.okWide at a8
      split at a8
      case h_8=>
       unfold Cell.ok at a8
       split at a8<;>first|exact a8|contradiction
      all_goals contradiction
    |_=>simp only[Value.cells,List.cons.injEq,and_true]at q6;exact q6.symm
  subst this
  exact⟨x::xs,⟨t,ts,rfl,q2,a1⟩,⟨_,_,rfl,q3,a2⟩⟩
theorem dh.below {w w':World}(h:dh (fun _=>False) w w'):Below w.heap.size w w':=⟨h.os,h.tape,h.output,h.size,fun k hk=>h.block k hk (fun h=>h)⟩
theorem pW(hl:laidOutB P=true){W':World}{sp:Nat->Bool}:∀ {ts:List TypeId} {vs:List Value} {ds:List (DataW H)} {p:List MemPlace},(∀t∈ts,P.readableRec t=true/\t<P.types.size)->DataW.TrodAll enc P W 0 (fun _=>true) true ts vs ds p->
 (∀x∈p,W.sameAt W' x/\sp x.block=true)->DataW.TrodAll enc P W' 0 sp true ts vs ds p
 |[],vs,ds,p,_,h,_=>by
  obtain⟨rfl,rfl,rfl⟩:=trodAll_nil h
  exact trodAll_mk0
 |t::ts,vs,ds,p,hr,h,hs=>by
  obtain⟨v,Hw,d,E8,p1,q1,rfl,rfl,rfl,h1,h2⟩:=trodAll_cons h
  exact⟨p1,q1,WideElems.Trod_stays hl (hr t (by simp)).1 (hr t (by simp)).2 h1 (fun x hx=>(hs x (by simp[hx])).1) (fun x hx=>(hs x (by simp[hx])).2),pW hl (fun t ht=>hr t (by simp[ht])) h2 (fun x hx=>hs x (by simp[hx])),rfl⟩
theorem yK{sp:Nat->Bool}:∀ {ts:List TypeId} {vs:List Value} {ds:List (DataW H)} {ps:List MemPlace},DataW.TrodAll enc P W 0 sp true ts vs ds ps->ds.length=ts.length
 |[],_,_,_,h=>by obtain⟨_,rfl,_⟩:=trodAll_nil h;rfl
 |_::_,_,_,_,h=>by
  obtain⟨_,_,_,_,_,_,_,rfl,_,_,h2⟩:=trodAll_cons h
  simp[yK h2]
theorem q8{f:FuncId}{fn:Func}{s:ChangeSpec}{tb:TypeId}{fresh handsOn again:Bool}(rX:fn.resultTypes=#[tb])(Hs:P.underlying tb=some .bool)(BM:s.vars=[])
 (yL:∀ds:List (DataW H),ds.length=fn.params.toList.length->s.fn H ds={results:=[.lit (.bool true)],args:=ds}) (hp:nj P T=true) (hT:∀t∈fn.params.toList,t∈T) (hl:laidOutB P=true)
 (hr:∀t∈fn.params.toList,P.readableRec t=true/\t<P.types.size) (law:∀xs,D.eW P xs fn.params.toList->cR P f xs (.ret [.bool true]))
 (base:Nat) (args:Array Value) (ds gs:List (DataW H)) (before:List MemPlace)
 (da:∀ (j:Nat) t v,fn.params[j]? =some t->args[j]? =some v->Value.okWide P W .any base t v) (hW:DataW.Whole enc P fn.params.toList s.vars false W args.toList ds gs before):
 Calls P f args W fun e W'=>∃v,e= .returned v/\s.post enc P fn false fresh handsOn again W args v W':=by
 have NJ:=hW
 obtain⟨p,q,hA,hV,rfl,Ph,LM⟩:=hW
 rw[BM]at hV
 obtain⟨rfl,rfl⟩:=trodVars_none hV
 obtain⟨xs,a1,a2⟩:=pV (b0:=base) hp fn.params.toList args.toList ds p hT hA (fun j t v h1 h2=>da j t v (by simpa using h1) (by simpa using h2))
 refine((law xs a1).2 DC W args (fun _ h=>h.elim) a2).mono fun e W' ⟨hk,ho⟩=> ?_
 have hb:=hk.below
 cases e with
 |panicked ch=>exact ho.elim
 |outgrown=>exact ho.elim
 |returned v=>
  simp only[R.is,D.den]at ho
  subst ho
  refine⟨_,rfl, ?_⟩
  have hlen:ds.length=fn.params.toList.length:=(yK hA)
  have hold:∀x∈p,x.block<W.heap.size:=fun x hx=>by simpa using NJ.lt x (by simpa using hx)
  have cH:∀sp:Nat->Bool,(∀x∈p,sp x.block=true)->DataW.TrodAll enc P W' 0 sp true fn.params.toList args.toList ds p:=fun sp AL=>pW hl hr hA fun x hx=>⟨hb.same (hold x hx),AL x hx⟩
  have BN:∀ (b:Nat) (sp:Nat->Bool) (hd:Bool),DataW.TrodAll enc P W' b sp hd fn.resultTypes.toList ((Value.bool true).resultList fn.resultTypes.size) [.lit (.bool true)] []:=fun b sp hd=>by
   rw[rX]
   exact trodAll_cons_mk (p:=[]) (p':=[]) ⟨1,by simp[DataW.trod,Value.cells,Hs]⟩ trodAll_mk0
  have yM:∀sp:Nat->Bool,DataW.TrodVars enc P W' sp s.vars [] []:=fun sp=>by rw[BM];rfl
  refine⟨ds,[],p++[],[],p,[],NJ, ?_, ?_, ?_,World.keptBut_mono (fun _ h=>h.elim) (hb.frame (fun _=>False)),fun _=>⟨?_,[.lit (.bool true)]++ds,[],([]++p)++[],⟨[]++p,[],trodAll_append (cH _ fun _ _=>rfl) (BN 0 (fun _=>true) true),yM _,rfl, ?_,(fun h=>by cases h)⟩,fun x hx _=>by simpa using hx⟩⟩
  ·rw[List.append_nil,yL ds hlen];exact BN _ _ _
  ·rw[List.append_nil,yL ds hlen];exact cH _ fun x hx=>by simpa using hold x hx
  ·rw[List.append_nil,yL ds hlen];exact yM _
  ·intro j t r h1 h2
   rw[rX]at h1 h2
   match j,h1,h2 with
   |0,h1,h2=>
    simp[Value.resultList]at h1 h2
    subst h1;subst h2
    simp[Value.okWide,Hs,Cell.okWide,Cell.ok]
  ·intro b off hx
   rw[hb.frozen (by simpa[MemPlace.block]using hold _ (by simpa using hx))]
   exact Ph b off (by simpa using hx)
end
section
variable {P:Program}{t e:TypeId}{x:D}
theorem sZ{k:IntKind}(ht:P.underlying t=some (.int k))(h:D.jr P x t):∃n,x= .int k n/\(Lit.int k n).wf=true:=by
 cases x<;>simp only[D.jr]at h
 case int k' n=>
  rw[ht]at h
  obtain⟨h1,h2⟩:=h
  injection h1 with h1;injection h1 with h1;subst h1
  exact⟨n,rfl,h2⟩
 case bool=>rw[ht]at h;cases h
 case str=>rw[ht]at h;cases h.1
 case sl=>obtain⟨e,h,_⟩:=h;rw[ht]at h;cases h
 case agg=>have:=h.1;unfold isAgg at this;rw[ht]at this;cases this
theorem wA(ht:P.underlying t=some .bool)(h:D.jr P x t):∃b,x= .bool b:=by
 cases x<;>simp only[D.jr]at h
 case int k' n=>rw[ht]at h;cases h.1
 case bool b=>exact⟨b,rfl⟩
 case str=>rw[ht]at h;cases h.1
 case sl=>obtain⟨e,h,_⟩:=h;rw[ht]at h;cases h
 case agg=>have:=h.1;unfold isAgg at this;rw[ht]at this;cases this
theorem Ay(ht:P.underlying t=some (.slice e))(h:D.jr P x t):∃es,x= .sl es/\es.length<=maxLen/\D.yJ P es e:=by
 cases x<;>simp only[D.jr]at h
 case int k' n=>rw[ht]at h;cases h.1
 case bool b=>rw[ht]at h;cases h
 case str l=>rw[ht]at h;cases h.1
 case sl es=>
  obtain⟨e',h,h2,h3⟩:=h
  rw[ht]at h;injection h with h;injection h with h;subst h
  exact⟨es,rfl,h2,h3⟩
 case agg=>have:=h.1;unfold isAgg at this;rw[ht]at this;cases this
theorem yN{ls:List TypeId}(ha:isAgg P t=true)(hl:iK P 20 t=some ls)(h:D.jr P x t):∃cs,x= .agg cs/\D.eW P cs ls:=by
 have no:∀u,P.underlying t=some u->(∀fs,u≠ .struct fs)->(∀k e,u≠ .array k e)->False:=by
  intro u hu h1 h2
  unfold isAgg at ha
  rw[hu]at ha
  split at ha
  ·rename_i e;injection e with e;exact h1 _ e
  ·rename_i e;injection e with e;exact h2 _ _ e
  ·cases ha
 cases x<;>simp only[D.jr]at h
 case int k' n=>exact(no _ h.1 (fun _ h=>by cases h) (fun _ _ h=>by cases h)).elim
 case bool b=>exact(no _ h (fun _ h=>by cases h) (fun _ _ h=>by cases h)).elim
 case str l=>exact(no _ h.1 (fun _ h=>by cases h) (fun _ _ h=>by cases h)).elim
 case sl es=>obtain⟨e',h,_⟩:=h;exact(no _ h (fun _ h=>by cases h) (fun _ _ h=>by cases h)).elim
 case agg cs=>
  obtain⟨_,Py,h1,h2⟩:=h
  rw[hl]at h1;injection h1 with h1;subst h1
  exact⟨cs,rfl,h2⟩
theorem fT{t:TypeId}{ts:List TypeId}{cs:List D}(h:D.eW P cs (t::ts)):∃x xs,cs=x::xs/\D.jr P x t/\D.eW P xs ts:=by
 cases cs with
 |nil=>simp[D.eW]at h
 |cons x xs=>obtain⟨_,_,e,h1,h2⟩:=h;injection e with e1 e2;subst e1;subst e2;exact⟨x,xs,rfl,h1,h2⟩
theorem pX{cs:List D}(h:D.eW P cs []):cs=[]:=by
 cases cs with
 |nil=>rfl
 |cons x xs=>obtain⟨_,_,e,_⟩:=h;cases e
theorem s5{α:Type}{f:α->D}{q:α->Prop}(hf:∀x,D.jr P x e->∃a,x=f a/\q a):∀ (es:List D),D.yJ P es e->∃l:List α,es=l.map f/\∀a∈l,q a
 |[],_=>⟨[],rfl,fun _ h=>by cases h⟩
 |x::es,h=>by
  obtain⟨a,rfl,h1⟩:=hf x h.1
  obtain⟨l,rfl,h2⟩:=s5 hf es h.2
  exact⟨a::l,rfl,fun b hb=>(List.mem_cons.1 hb).elim (fun e=>e ▸ h1) (h2 b)⟩
end
end Go.Proofs.YtbmnikpknlkbkaaGreat
end
section
namespace Go.Proofs.YtbmnikpknlkbkaaGreat
open Go.ChangeShapes Go.WideShapes Go.RowKit
theorem Hv{x:D}(h:D.jr Tryz.prog x 56):∃r:bO,x=r.d/\True:=by
 obtain⟨cs,rfl,hh⟩:=yN (by kernel_rfl) (ls:=[3,3,4]) (by kernel_rfl) h
 clear h;have h:=hh;clear hh
 obtain⟨a,cs,rfl,ha,h⟩:=fT h
 obtain⟨b,cs,rfl,hb,h⟩:=fT h
 obtain⟨d,cs,rfl,hd,h⟩:=fT h
 have:=pX h;subst this
 obtain⟨m,rfl,_⟩:=sZ undT_3 ha
 obtain⟨n,rfl,_⟩:=sZ undT_3 hb
 obtain⟨l,rfl⟩:=wA (by kernel_rfl) hd
 exact⟨⟨m,n,l⟩,rfl,trivial⟩
theorem yO{x:D}(h:D.jr Tryz.prog x 22):∃l:List bO,x= .sl (l.map bO.d)/\l.length<=9223372036854775807:=by
 obtain⟨es,rfl,h1,h2⟩:=Ay undT_22 h
 obtain⟨l,rfl,hl⟩:=s5 (fun x h=>Hv h) es h2
 have:maxLen<=9223372036854775807:=by decide
 exact⟨l,rfl,by simp at h1;omega⟩
end Go.Proofs.YtbmnikpknlkbkaaGreat
end
section
namespace Go.Proofs.YtbmnikpknlkbkaaGreat
open Go
def DD:Nat->Bool:=fun g=> !([92,106,107,113,94,109,110,40,52,53,41,54,75,76,77,78,79,80,82,83,96,99,100,112,88,60,59,102,44]:List Nat).contains g
def yP:D:= .agg [.sl [.agg [.str [70,97,108,115,101], .i 0], .agg [.str [84,114,117,101], .i 0], .agg [.str [90], .i 0], .agg [.str [83], .i 1], .agg [.str [78,105,108], .i 0], .agg [.str [67,111,110,115], .i 2]], .sl [.agg [.str [97,100,100], .i 2], .agg [.str [111,114], .i 2], .agg [.str [99,111,105,110], .i 0], .agg [.str [108,101,110], .i 1]], .sl [.agg [.i 0, .sl [.agg [.i 3, .i 2, .sl []], .agg [.i 1, .i 0, .sl []]], .i 1, .i 0, .sl [], .i 1], .agg [.i 0, .sl [.agg [.i 3, .i 3, .sl [.agg [.i 1, .i 0, .sl []]]], .agg [.i 1, .i 1, .sl []]], .i 3, .i 3, .sl [.agg [.i 4, .i 0, .sl [.agg [.i 1, .i 0, .sl []], .agg [.i 1, .i 1, .sl []]]]], .i 2], .agg [.i 1, .sl [.agg [.i 3, .i 1, .sl []], .agg [.i 1, .i 0, .sl []]], .i 3, .i 1, .sl [], .i 1], .agg [.i 1, .sl [.agg [.i 1, .i 0, .sl []], .agg [.i 3, .i 1, .sl []]], .i 3, .i 1, .sl [], .i 1], .agg [.i 1, .sl [.agg [.i 3, .i 0, .sl []], .agg [.i 3, .i 0, .sl []]], .i 3, .i 0, .sl [], .i 0], .agg [.i 2, .sl [], .i 3, .i 2, .sl [], .i 0], .agg [.i 2, .sl [], .i 3, .i 3, .sl [.agg [.i 3, .i 2, .sl []]], .i 0], .agg [.i 3, .sl [.agg [.i 3, .i 5, .sl [.agg [.i 1, .i 0, .sl []], .agg [.i 1, .i 1, .sl []]]]], .i 3, .i 3, .sl [.agg [.i 4, .i 3, .sl [.agg [.i 1, .i 1, .sl []]]]], .i 2], .agg [.i 3, .sl [.agg [.i 1, .i 0, .sl []]], .i 4, .i 0, .sl [.agg [.i 1, .i 1, .sl []], .agg [.i 1, .i 1, .sl []]], .i 2]]]
def yR:D:= .agg [.sl [.agg [.str [70,97,108,115,101], .i 0], .agg [.str [84,114,117,101], .i 0], .agg [.str [90], .i 0], .agg [.str [83], .i 1], .agg [.str [78,105,108], .i 0], .agg [.str [67,111,110,115], .i 2]], .sl [.agg [.str [97,100,100], .i 2], .agg [.str [111,114], .i 2], .agg [.str [99,111,105,110], .i 0], .agg [.str [108,101,110], .i 1]], .sl [.agg [.i 0, .sl [.agg [.i 3, .i 2, .sl []], .agg [.i 1, .i 0, .sl []]], .i 1, .i 0, .sl [], .i 1], .agg [.i 0, .sl [.agg [.i 3, .i 3, .sl [.agg [.i 1, .i 0, .sl []]]], .agg [.i 1, .i 1, .sl []]], .i 3, .i 3, .sl [.agg [.i 4, .i 0, .sl [.agg [.i 1, .i 0, .sl []], .agg [.i 1, .i 1, .sl []]]]], .i 2], .agg [.i 1, .sl [.agg [.i 3, .i 1, .sl []], .agg [.i 1, .i 0, .sl []]], .i 3, .i 1, .sl [], .i 1], .agg [.i 1, .sl [.agg [.i 1, .i 0, .sl []], .agg [.i 3, .i 1, .sl []]], .i 3, .i 1, .sl [], .i 1], .agg [.i 1, .sl [.agg [.i 3, .i 0, .sl []], .agg [.i 3, .i 0, .sl []]], .i 3, .i 0, .sl [], .i 0], .agg [.i 2, .sl [], .i 3, .i 2, .sl [], .i 0], .agg [.i 2, .sl [], .i 3, .i 3, .sl [.agg [.i 3, .i 2, .sl []]], .i 0], .agg [.i 3, .sl [.agg [.i 3, .i 5, .sl [.agg [.i 1, .i 0, .sl []], .agg [.i 1, .i 1, .sl []]]]], .i 3, .i 3, .sl [.agg [.i 4, .i 3, .sl [.agg [.i 1, .i 1, .sl []]]]], .i 2]]]
def yS:D:= .agg [.sl [.agg [.str [70,97,108,115,101], .i 0], .agg [.str [84,114,117,101], .i 0], .agg [.str [90], .i 0], .agg [.str [83], .i 1], .agg [.str [78,105,108], .i 0], .agg [.str [67,111,110,115], .i 2]], .sl [.agg [.str [97,100,100], .i 2], .agg [.str [111,114], .i 2], .agg [.str [99,111,105,110], .i 0], .agg [.str [108,101,110], .i 1]], .sl [.agg [.i 0, .sl [.agg [.i 3, .i 2, .sl []], .agg [.i 1, .i 0, .sl []]], .i 1, .i 0, .sl [], .i 1], .agg [.i 0, .sl [.agg [.i 3, .i 3, .sl [.agg [.i 1, .i 0, .sl []]]], .agg [.i 1, .i 1, .sl []]], .i 3, .i 3, .sl [.agg [.i 4, .i 0, .sl [.agg [.i 1, .i 0, .sl []], .agg [.i 1, .i 1, .sl []]]]], .i 2], .agg [.i 1, .sl [.agg [.i 3, .i 1, .sl []], .agg [.i 1, .i 0, .sl []]], .i 3, .i 1, .sl [], .i 1], .agg [.i 1, .sl [.agg [.i 1, .i 0, .sl []], .agg [.i 3, .i 1, .sl []]], .i 3, .i 1, .sl [], .i 1], .agg [.i 1, .sl [.agg [.i 3, .i 0, .sl []], .agg [.i 3, .i 0, .sl []]], .i 3, .i 0, .sl [], .i 0], .agg [.i 2, .sl [], .i 3, .i 2, .sl [], .i 0], .agg [.i 2, .sl [], .i 3, .i 3, .sl [.agg [.i 3, .i 2, .sl []]], .i 0], .agg [.i 3, .sl [.agg [.i 1, .i 0, .sl []]], .i 4, .i 3, .sl [.agg [.i 1, .i 0, .sl []]], .i 1]]]
def yC:D:= .agg [.sl [.agg [.str [70,97,108,115,101], .i 0], .agg [.str [84,114,117,101], .i 0], .agg [.str [90], .i 0], .agg [.str [83], .i 1], .agg [.str [78,105,108], .i 0], .agg [.str [67,111,110,115], .i 2]], .sl [.agg [.str [97,100,100], .i 2], .agg [.str [111,114], .i 2], .agg [.str [99,111,105,110], .i 0], .agg [.str [108,101,110], .i 1]], .sl [.agg [.i 0, .sl [.agg [.i 3, .i 2, .sl []], .agg [.i 1, .i 0, .sl []]], .i 1, .i 0, .sl [], .i 1], .agg [.i 0, .sl [.agg [.i 3, .i 3, .sl [.agg [.i 1, .i 0, .sl []]]], .agg [.i 1, .i 1, .sl []]], .i 3, .i 3, .sl [.agg [.i 4, .i 0, .sl [.agg [.i 1, .i 0, .sl []], .agg [.i 1, .i 1, .sl []]]]], .i 2], .agg [.i 1, .sl [.agg [.i 3, .i 1, .sl []], .agg [.i 1, .i 0, .sl []]], .i 3, .i 1, .sl [], .i 1], .agg [.i 1, .sl [.agg [.i 1, .i 0, .sl []], .agg [.i 3, .i 1, .sl []]], .i 3, .i 1, .sl [], .i 1], .agg [.i 1, .sl [.agg [.i 3, .i 0, .sl []], .agg [.i 3, .i 0, .sl []]], .i 3, .i 0, .sl [], .i 0], .agg [.i 2, .sl [], .i 3, .i 2, .sl [], .i 0], .agg [.i 2, .sl [], .i 3, .i 3, .sl [.agg [.i 3, .i 2, .sl []]], .i 0], .agg [.i 3, .sl [.agg [.i 1, .i 0, .sl []]], .i 3, .i 5, .sl [.agg [.i 1, .i 0, .sl []], .agg [.i 4, .i 3, .sl [.agg [.i 1, .i 0, .sl []]]]], .i 1]]]
def yT:D:= .agg [.sl [.agg [.str [70,97,108,115,101], .i 0], .agg [.str [84,114,117,101], .i 0], .agg [.str [90], .i 0], .agg [.str [83], .i 1], .agg [.str [78,105,108], .i 0], .agg [.str [67,111,110,115], .i 2]], .sl [.agg [.str [97,100,100], .i 2], .agg [.str [111,114], .i 2], .agg [.str [99,111,105,110], .i 0], .agg [.str [108,101,110], .i 1]], .sl [.agg [.i 0, .sl [.agg [.i 3, .i 3, .sl [.agg [.i 1, .i 0, .sl []]]], .agg [.i 1, .i 1, .sl []]], .i 4, .i 0, .sl [.agg [.i 1, .i 1, .sl []], .agg [.i 1, .i 0, .sl []]], .i 2]]]
def yQ:lD Tryz.prog:=lD.of DD [] (fun _ h=>by cases h)
end Go.Proofs.YtbmnikpknlkbkaaGreat
end
section
namespace Go.Proofs.YtbmnikpknlkbkaaGreat
open Go
theorem Az:jK Tryz.prog bg yQ 5000 26 [yP]=some (.ret [.i 0]):=by kernel_rfl
theorem BO:cR Tryz.prog 26 [yP] (.ret [.i 0]):=cR.eD mix eE Az
end Go.Proofs.YtbmnikpknlkbkaaGreat
end
section
namespace Go.Proofs.YtbmnikpknlkbkaaGreat
open Go
theorem AA:jK Tryz.prog bg yQ 5000 26 [yR]=some (.ret [.i 0]):=by kernel_rfl
theorem BP:cR Tryz.prog 26 [yR] (.ret [.i 0]):=cR.eD mix eE AA
end Go.Proofs.YtbmnikpknlkbkaaGreat
end
section
namespace Go.Proofs.YtbmnikpknlkbkaaGreat
open Go
theorem AB:jK Tryz.prog bg yQ 5000 26 [yS]=some (.ret [.i 0]):=by kernel_rfl
theorem BQ:cR Tryz.prog 26 [yS] (.ret [.i 0]):=cR.eD mix eE AB
end Go.Proofs.YtbmnikpknlkbkaaGreat
end
section
namespace Go.Proofs.YtbmnikpknlkbkaaGreat
open Go
theorem AD:jK Tryz.prog bg yQ 5000 26 [yC]=some (.ret [.i 0]):=by kernel_rfl
theorem BR:cR Tryz.prog 26 [yC] (.ret [.i 0]):=cR.eD mix eE AD
end Go.Proofs.YtbmnikpknlkbkaaGreat
end
section
namespace Go.Proofs.YtbmnikpknlkbkaaGreat
open Go
theorem AE:jK Tryz.prog bg yQ 5000 26 [yT]=some (.ret [.i 0]):=by kernel_rfl
theorem BS:cR Tryz.prog 26 [yT] (.ret [.i 0]):=cR.eD mix eE AE
end Go.Proofs.YtbmnikpknlkbkaaGreat
end
section
namespace Go.Proofs.YtbmnikpknlkbkaaGreat
open Go
def s6:lD Tryz.prog:=lD.of DD [(26,[yP], .ret [.i 0]),(26,[yR], .ret [.i 0]),(26,[yS], .ret [.i 0]),(26,[yC], .ret [.i 0]),(26,[yT], .ret [.i 0])] (fun x h=>by
 simp only[List.mem_cons,List.not_mem_nil,or_false]at h
 rcases h with rfl|rfl|rfl|rfl|rfl
 ·exact BO
 ·exact BP
 ·exact BQ
 ·exact BR
 ·exact BS
 )
end Go.Proofs.YtbmnikpknlkbkaaGreat
end
section
namespace Go.Proofs.YtbmnikpknlkbkaaGreat
open Go
theorem DE:jK Tryz.prog bg s6 5000 10 [yR]=some (.ret [.sl [.agg [.i 1, .i 0, .i 0, .sl [.i 0], .bool false, .sl [.agg [.i 0, .i 0, .bool true], .agg [.i 1, .i 1, .bool false]]], .agg [.i 7, .i 3, .i 3, .sl [.i 0], .bool false, .sl [.agg [.i 0, .i 0, .bool true]]]], .i 0]):=by kernel_rfl
theorem Lq:cR Tryz.prog 10 [yR] (.ret [.sl [.agg [.i 1, .i 0, .i 0, .sl [.i 0], .bool false, .sl [.agg [.i 0, .i 0, .bool true], .agg [.i 1, .i 1, .bool false]]], .agg [.i 7, .i 3, .i 3, .sl [.i 0], .bool false, .sl [.agg [.i 0, .i 0, .bool true]]]], .i 0]):=cR.eD mix eE DE
theorem DF:jK Tryz.prog bg s6 5000 16 [yR, .sl [.i 0]]=some (.ret [.bool true, .i 0]):=by kernel_rfl
theorem Lr:cR Tryz.prog 16 [yR, .sl [.i 0]] (.ret [.bool true, .i 0]):=cR.eD mix eE DF
end Go.Proofs.YtbmnikpknlkbkaaGreat
end
section
namespace Go.Proofs.YtbmnikpknlkbkaaGreat
open Go
theorem DG:jK Tryz.prog bg s6 5000 12 [yR]=some (.ret [.bool true, .sl [], .i 0]):=by kernel_rfl
theorem Ls:cR Tryz.prog 12 [yR] (.ret [.bool true, .sl [], .i 0]):=cR.eD mix eE DG
end Go.Proofs.YtbmnikpknlkbkaaGreat
end
section
namespace Go.Proofs.YtbmnikpknlkbkaaGreat
open Go
theorem DH:jK Tryz.prog bg s6 5000 12 [yS]=some (.ret [.bool false, .sl [.i 1], .i 0]):=by kernel_rfl
theorem Lt:cR Tryz.prog 12 [yS] (.ret [.bool false, .sl [.i 1], .i 0]):=cR.eD mix eE DH
theorem DI:jK Tryz.prog bg s6 5000 13 [yS]=some (.ret [.bool false, .sl [.i 1], .i 0]):=by kernel_rfl
theorem Lu:cR Tryz.prog 13 [yS] (.ret [.bool false, .sl [.i 1], .i 0]):=cR.eD mix eE DI
end Go.Proofs.YtbmnikpknlkbkaaGreat
end
section
namespace Go.Proofs.YtbmnikpknlkbkaaGreat
open Go
theorem DJ:jK Tryz.prog bg s6 5000 12 [yC]=some (.ret [.bool false, .sl [.i 1], .i 0]):=by kernel_rfl
theorem Lv:cR Tryz.prog 12 [yC] (.ret [.bool false, .sl [.i 1], .i 0]):=cR.eD mix eE DJ
theorem DK:jK Tryz.prog bg s6 5000 13 [yC]=some (.ret [.bool true, .sl [], .i 0]):=by kernel_rfl
theorem Lw:cR Tryz.prog 13 [yC] (.ret [.bool true, .sl [], .i 0]):=cR.eD mix eE DK
end Go.Proofs.YtbmnikpknlkbkaaGreat
end
section
namespace Go.Proofs.YtbmnikpknlkbkaaGreat
open Go
theorem DL:jK Tryz.prog bg s6 5000 12 [yT]=some (.ret [.bool true, .sl [], .i 0]):=by kernel_rfl
theorem Lx:cR Tryz.prog 12 [yT] (.ret [.bool true, .sl [], .i 0]):=cR.eD mix eE DL
end Go.Proofs.YtbmnikpknlkbkaaGreat
end
section
namespace Go.Proofs.YtbmnikpknlkbkaaGreat
open Go
def Ly:lD Tryz.prog:=lD.of DD [(26,[yP], .ret [.i 0]),(26,[yR], .ret [.i 0]),(26,[yS], .ret [.i 0]),(26,[yC], .ret [.i 0]),(26,[yT], .ret [.i 0]),(10,[yR], .ret [.sl [.agg [.i 1, .i 0, .i 0, .sl [.i 0], .bool false, .sl [.agg [.i 0, .i 0, .bool true], .agg [.i 1, .i 1, .bool false]]], .agg [.i 7, .i 3, .i 3, .sl [.i 0], .bool false, .sl [.agg [.i 0, .i 0, .bool true]]]], .i 0]),(16,[yR, .sl [.i 0]], .ret [.bool true, .i 0]),(12,[yR], .ret [.bool true, .sl [], .i 0]),(12,[yS], .ret [.bool false, .sl [.i 1], .i 0]),(13,[yS], .ret [.bool false, .sl [.i 1], .i 0]),(12,[yC], .ret [.bool false, .sl [.i 1], .i 0]),(13,[yC], .ret [.bool true, .sl [], .i 0]),(12,[yT], .ret [.bool true, .sl [], .i 0])] (fun x h=>by
 simp only[List.mem_cons,List.not_mem_nil,or_false]at h
 rcases h with rfl|rfl|rfl|rfl|rfl|rfl|rfl|rfl|rfl|rfl|rfl|rfl|rfl
 ·exact BO
 ·exact BP
 ·exact BQ
 ·exact BR
 ·exact BS
 ·exact Lq
 ·exact Lr
 ·exact Ls
 ·exact Lt
 ·exact Lu
 ·exact Lv
 ·exact Lw
 ·exact Lx
 )
theorem s7:jK Tryz.prog bg Ly 5000 5 []=some (.ret [.bool true]):=by kernel_rfl
theorem AF:cR Tryz.prog 5 [] (.ret [.bool true]):=cR.eD mix eE s7
end Go.Proofs.YtbmnikpknlkbkaaGreat
end
section
namespace Go.Proofs.YtbmnikpknlkbkaaGreat
open Go.ChangeShapes Go.WideShapes Go.RowKit
set_option maxRecDepth 100000 in
theorem jL(os:Os)(started:os.Started)(H:Type)(enc:TypeId×Value->H):
 ReturnsInHanded {} Tryz.checked os 3 .any (Rows.endsComposesSpec.pre6 enc Tryz.prog Tryz.f3 Rows.endsComposesRow.domain false) (Rows.endsComposesSpec.post enc Tryz.prog Tryz.f3 Rows.endsComposesRow.apart Rows.endsComposesRow.fresh Rows.endsComposesRow.handsOn Rows.endsComposesRow.again):=by
 refine returnsInHanded_of_change (C:=Tryz.checked) (by kernel_rfl) started (by kernel_rfl) Tryz.func3
  (ChangeSpec.witness6 (enc:=enc) (C:=Tryz.checked) false ⟨#[],#[.slice none 0 0, .slice none 0 0],[]⟩ 8 (by kernel_rfl) (by kernel_rfl) (by kernel_rfl) (by kernel_rfl)) ?_
 intro W base args ds gs before da hW _ _
 refine q8 (T:=[22,56,3,4]) (tb:=4) (by kernel_rfl) (by kernel_rfl) rfl (fun ds h=>by match ds,h with|[_,_],_=>rfl) (by kernel_rfl) (by intro t ht;rw[Tryz.params3]at ht;simp at ht;subst ht;simp) (by kernel_rfl) (by intro t ht;rw[Tryz.params3]at ht;simp at ht;subst ht;exact⟨by kernel_rfl,of_decide_eq_true (by kernel_rfl)⟩)
  (fun xs hx=> ?_) base args ds gs before da hW
 rw[Tryz.params3]at hx
 obtain⟨x0,xs,rfl,Il,hx⟩:=fT hx
 obtain⟨x1,xs,rfl,Pj,hx⟩:=fT hx
 have:=pX hx;subst this
 obtain⟨a0,rfl,Pk⟩:=yO Il
 obtain⟨a1,rfl,Pl⟩:=yO Pj
 exact oz AF a0 a1 Pk Pl
theorem endsComposes_holds:Rows.EndsComposesSaid:=
 OpenClaim.holds_of_wide 3 Tryz.f3 rfl rfl rfl rfl rfl rfl rfl ⟨rfl,rfl,rfl,rfl,rfl⟩ rfl rfl rfl rfl rfl (by kernel_rfl) Tryz.func3 (by kernel_rfl)
  (of_decide_eq_true (by kernel_rfl)) (by unfold Func.isWrapper;first|(rw[if_pos (by decide+kernel)];kernel_rfl)|(rw[if_neg (by decide+kernel)];exact⟨rfl,rfl⟩))
  (fun os started H enc _=>jL os started H enc)
end Go.Proofs.YtbmnikpknlkbkaaGreat
end
