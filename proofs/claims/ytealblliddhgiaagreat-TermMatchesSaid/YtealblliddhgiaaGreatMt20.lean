/-
  TermMatches: at every call the law answers true, and leaves all memory as it was. Conditions: none.
-/
import Derived.OpenShut
import Derived.Carry
import Derived.Handed
import Derived.JoinedOf
import Derived.ProofKit
import Derived.Test.YtealblliddhgiaaGreatRows
import Derived.Test.YtealblliddhgiaaGreatMt19
set_option linter.unusedSimpArgs false
set_option linter.unusedVariables false
namespace Go.Proofs.YtealblliddhgiaaGreat
theorem Hj:∀ (t v:Tm) (l:List TB),v.fits->(∀x∈l,x.term.fits)->(dB t v l).1.length<=l.length+t.sz/\∀x∈(dB t v l).1,x.term.fits:=by
 refine Tm.ej fun t ih v l hv hl=> ?_
 have x4:=Tm.iH t
 rw[tN]
 split
 ·split
  ·exact⟨by simp only;omega,hl⟩
  ·refine⟨by simp only[CU];omega,fun x hx=> ?_⟩
   rcases m6.1 hx with rfl|hx
   ·exact hv
   ·exact hl x hx
 ·split
  ·exact⟨Nat.zero_le _,fun x hx=>by cases hx⟩
  ·have l5:=(Tm.bD v).1 hv
   have key:∀ (ks cW:List Tm) (l:List TB),(∀k∈ks,k∈t.kids)->(∀k∈cW,k.fits)->(∀x∈l,x.term.fits)->(dQ ks cW l).1.length<=l.length+jO ks/\∀x∈(dQ ks cW l).1,x.term.fits:=by
    intro ks
    induction ks with
    |nil=>intro cW l _ _ hl;simp only[dQ];exact⟨by omega,hl⟩
    |cons k ks qW=>
     intro cW l m1 m2 hl
     cases cW with
     |nil=>simp only[dQ];exact⟨by omega,hl⟩
     |cons k' cW=>
      simp only[dQ]
      obtain⟨q1,q2⟩:=ih k (m1 k (by simp)) k' l (m2 k' (by simp)) hl
      rw[eH]
      split
      ·obtain⟨q3,q4⟩:=qW cW _ (fun y hy=>m1 y (by simp[hy])) (fun y hy=>m2 y (by simp[hy])) q2
       exact⟨by omega,q4⟩
      ·exact⟨by simp only;omega,q2⟩
   obtain⟨q1,q2⟩:=key t.kids v.kids l (fun _ h=>h) l5.2 hl
   exact⟨by omega,q2⟩
theorem Ew:∀t:Tm,t.fits->∀v:Tm,v.fits->∀l:List TB,(∀x∈l,x.term.fits)->l.length+t.sz<=1000000->bC Tryz.prog 69 [t.d,v.d, .sl (l.map TB.d)] (.ret [.sl ((dB t v l).1.map TB.d), .bool (dB t v l).2]):=by
 refine Tm.ej fun t ih ht v hv l hl hlen=> ?_
 have yc:=(Tm.bD t).1 ht
 have l5:=(Tm.bD v).1 hv
 have x4:=Tm.iH t
 refine bC.aV mix Q0 (by simp) ?_
 rw[VX,tN]
 by_cases h1:t.op=1
 ·have eI:(t.op==1)=true:=by simpa using h1
  rw[if_pos h1]
  simp+contextual (disch:=first|omega|simp only[go_sem,false_implies]) only[go_sem,wrap64,if_pos,eI]
  refine ay (GR l t.n (by omega)) rfl ?_
  rcases CO l t.n with⟨f1,f2⟩|⟨k,x,f1,f2,f3⟩
  ·have f3:decide (0<=findF l t.n)=false:=by simpa using f1
   rw[f2]
   simp+contextual (disch:=first|omega|simp only[go_sem,false_implies]) only[go_sem,wrap64,if_pos,eI,f3]
   refine aU (G9 l t.n v (by omega)) ?_
   simp+contextual (disch:=first|omega|simp only[go_sem,false_implies]) only[go_sem,wrap64,if_pos,and_self]
  ·rw[f3,f1]
   have TF:=hl x (List.mem_of_getElem? f2)
   simp+contextual (disch:=first|omega|simp only[go_sem,false_implies]) only[go_sem,wrap64,if_pos,eI,f2]
   refine bp (Bk x.term TF v hv) rfl ?_
   simp+contextual (disch:=first|omega|simp only[go_sem,false_implies]) only[go_sem,wrap64,if_pos,and_self]
   refine aP (aY rfl) ?_
   simp+contextual (disch:=first|omega|simp only[go_sem,false_implies]) only[go_sem,wrap64,if_pos,and_self]
 ·have eI:(t.op==1)=false:=by simpa using h1
  rw[if_neg h1]
  by_cases h2:t.op≠v.op\/t.n≠v.n\/t.kids.length≠v.kids.length
  ·rw[if_pos h2]
   have ir:(t.op !=v.op||t.n !=v.n||(t.kids.length:Int)!=(v.kids.length:Int))=true:=by
    rcases h2 with h|h|h
    ·simp[h]
    ·simp[h]
    ·have:((t.kids.length:Int)!=(v.kids.length:Int))=true:=by simp;omega
     simp[this]
   simp+contextual (disch:=first|omega|simp only[go_sem,false_implies]) only[go_sem,wrap64,if_pos,eI,ir,List.length_map]
  ·rw[if_neg h2]
   have e3:t.kids.length=v.kids.length:=Classical.byContradiction fun e=>h2 (Or.inr (Or.inr e))
   have ir:(t.op !=v.op||t.n !=v.n||(t.kids.length:Int)!=(v.kids.length:Int))=false:=by
    have e1:t.op=v.op:=Classical.byContradiction fun e=>h2 (Or.inl e)
    have e2:t.n=v.n:=Classical.byContradiction fun e=>h2 (Or.inr (Or.inl e))
    simp[e1,e2,e3]
   simp+contextual (disch:=first|omega|simp only[go_sem,false_implies]) only[go_sem,wrap64,if_pos,eI,ir,List.length_map]
   refine aT (fun i:Nat×List TB×Bool=>⟨bq [.af, .af, .d (.sl (i.2.1.map TB.d)), .ptr 0 0, .ptr 1 0, .af, .af, .af, .af, .d (.bool i.2.2), .d (.i i.1)],ax (ax (fun _=> .no) 0 (.row t.row)) 1 (.row v.row),2⟩)
    (fun i=>i.1<=t.kids.length/\dQ t.kids v.kids l=(if i.2.2=true then dQ (t.kids.drop i.1) (v.kids.drop i.1) i.2.1 else(i.2.1,false))/\(∀x∈i.2.1,x.term.fits)/\(i.2.2=true->i.2.1.length+jO (t.kids.drop i.1)<=1000000)) (fun i=>t.kids.length - i.1) (0,l,true) ⟨Nat.zero_le _,rfl,hl,fun _=>by simp only[List.drop_zero];omega⟩ ?_ ?_
   ·dsimp only
    refine bP.cF _ (by omega) (by omega) (by repeat(first|exact hg.mono (by omega)|exact Good.nil|refine Good.ax ?_ (by omega) rfl|refine Good.ax ?_ (by omega) (cX _ _ _ (by omega))|refine Good.ax ?_ (by omega) (by simp[ab.refs,V.ah,V.refs]<;>omega))) (fun j hj=> ?_) ?_
    ·(repeat(first|rfl|rw[aa]|rw[ae _ _ _ _ (by omega)]))
    ·(repeat(first|exact ao|refine ai ?_|refine ag rfl ?_|refine ag (aR (aQ (by omega))) ?_|refine aD rfl (by simp[V.refs,V.ah]<;>first|omega|assumption) ?_))
   rintro⟨k,l1,is⟩ ⟨hk,aH,la,C7⟩
   simp only at hk aH la C7
   simp+contextual (disch:=first|omega|simp only[go_sem,false_implies]) only[go_sem,wrap64,if_pos,List.length_map]
   cases is with
   |false=>
    simp only[Bool.false_eq_true,if_false]at aH
    rw[aH]
    simp+contextual (disch:=first|omega|simp only[go_sem,false_implies]) only[go_sem,wrap64,if_pos,List.length_map]
   |true=>
    simp only[if_true]at aH
    have C7:=C7 rfl
    by_cases h5:k<t.kids.length
    ·have oj:decide ((k:Int)<(t.kids.length:Int))=true:=by simpa using h5
     obtain⟨x,hx⟩:=aM h5
     have gS:=List.mem_of_getElem? hx
     obtain⟨z,hz⟩:=aM (l:=v.kids) (k:=k) (by omega)
     have Hx:=List.mem_of_getElem? hz
     have K8:t.kids.drop k=x::t.kids.drop (k+1):=by
      obtain⟨h5,h6⟩:=List.getElem?_eq_some_iff.1 hx
      rw[List.drop_eq_getElem_cons h5,h6]
     have NA:v.kids.drop k=z::v.kids.drop (k+1):=by
      obtain⟨h5,h6⟩:=List.getElem?_eq_some_iff.1 hz
      rw[List.drop_eq_getElem_cons h5,h6]
     rw[K8,NA]at aH
     rw[K8,eH]at C7
     simp only[dQ]at aH
     obtain⟨q1,q2⟩:=Hj x z l1 (l5.2 z Hx) la
     simp+contextual (disch:=first|omega|simp only[go_sem,false_implies]) only[go_sem,wrap64,if_pos,oj,hx,hz,List.length_map]
     refine cc (ih x gS (yc.2 x gS) z (l5.2 z Hx) l1 la (by omega)) ?_
     simp+contextual (disch:=first|omega|simp only[go_sem,false_implies]) only[go_sem,wrap64,if_pos,oj,hx,hz,List.length_map]
     refine aP (aY rfl) ?_
     simp+contextual (disch:=first|omega|simp only[go_sem,false_implies]) only[go_sem,wrap64,if_pos,and_self]
     refine aA (k+1,(dB x z l1).1,(dB x z l1).2) ⟨h5,aH,q2,fun _=>by dsimp only;omega⟩ (by dsimp only;omega) (bP.cF _ (by omega) (by omega) (by repeat(first|exact hg.mono (by omega)|exact Good.nil|refine Good.ax ?_ (by omega) rfl|refine Good.ax ?_ (by omega) (cX _ _ _ (by omega))|refine Good.ax ?_ (by omega) (by simp[ab.refs,V.ah,V.refs]<;>omega))) (fun j hj=> ?_) ?_)
     ·(repeat(first|rfl|rw[aa]|rw[ae _ _ _ _ (by omega)]))
     ·(repeat(first|exact ao|refine ai ?_|refine ag rfl ?_|refine ag (aR (aQ (by omega))) ?_|refine aD rfl (by simp[V.refs,V.ah]<;>first|omega|assumption) ?_))
    ·have oj:decide ((k:Int)<(t.kids.length:Int))=false:=by simp;omega
     rw[List.drop_eq_nil_of_le (by omega)]at aH
     simp only[dQ]at aH
     rw[aH]
     simp+contextual (disch:=first|omega|simp only[go_sem,false_implies]) only[go_sem,wrap64,if_pos,oj,List.length_map]
theorem Hk(a b:Tm)(ha:a.fits)(hb:b.fits)(hz:a.sz<=1000000):bC Tryz.prog 27 [a.d,b.d] (.ret [.sl ((dB a b []).1.map TB.d), .bool (dB a b []).2]):=by
 refine bC.aV mix QB (by simp) ?_
 rw[Vh]
 simp+contextual (disch:=first|omega|simp only[go_sem,false_implies]) only[go_sem,wrap64,if_pos,and_self]
 refine aU (Ew a ha b hb [] (fun _ h=>by cases h) (by simpa using hz)) ?_
 simp+contextual (disch:=first|omega|simp only[go_sem,false_implies]) only[go_sem,wrap64,if_pos,and_self]
end Go.Proofs.YtealblliddhgiaaGreat
namespace Go.Proofs.YtealblliddhgiaaGreat
end Go.Proofs.YtealblliddhgiaaGreat
namespace Go.Proofs.YtealblliddhgiaaGreat
def lK(l:List TB):Bool:=decide ((l.length:Int)<=25)&&l.all fun x=>iz x.term
theorem lL(l:List TB)(hl:l.length<=9223372036854775807)(hx:∀x∈l,x.term.fits):bC Tryz.prog 12 [.sl (l.map TB.d)] (.ret [.bool (lK l)]):=by
 refine bC.aV mix Qq (by simp) ?_
 rw[U2]
 simp+contextual (disch:=first|omega|simp only[go_sem,false_implies]) only[go_sem,wrap64,if_pos,and_self]
 refine aT (fun k:Nat=>⟨bq [.d (.sl (l.map TB.d)), .af, .af, .d (.i k)],fun _=> .no,0⟩)
  (fun k=>k<=l.length/\k<=26/\∀j x,j<k->l[j]? =some x->iz x.term=true) (fun k=>l.length - k) 0 ⟨Nat.zero_le _,by omega,fun _ _ h=>absurd h (by omega)⟩ (bP.d0 _ ?_) (fun k hk=> ?_)
 ·(repeat(first|exact ao|refine ai ?_|refine ag rfl ?_|refine ag (aR (aQ (by omega))) ?_|refine aD rfl (by simp[V.refs,V.ah]<;>first|omega|assumption) ?_))
 obtain⟨k1,k2,k3⟩:=hk
 have fin: ¬ (k<l.length/\k<=25)->lK l=decide ((l.length:Int)<=25):=by
  intro h
  unfold lK
  by_cases h5:(l.length:Int)<=25
  ·have:(l.all fun x=>iz x.term)=true:=by
    rw[List.all_eq_true]
    intro x hx
    obtain⟨j,hj,e⟩:=List.getElem_of_mem hx
    exact k3 j x (by omega) (by rw[List.getElem?_eq_getElem hj,e])
   rw[this,Bool.and_true]
  ·rw[decide_eq_false h5];rfl
 by_cases h2:k<l.length
 ·have ir:decide ((k:Int)<(l.length:Int))=true:=by simpa using h2
  by_cases h3:k<=25
  ·have re:decide ((k:Int)<=25)=true:=by simp;omega
   obtain⟨x,W2⟩:=aM h2
   have gS:=List.mem_of_getElem? W2
   simp+contextual (disch:=first|omega|simp only[go_sem,false_implies]) only[go_sem,wrap64,if_pos,List.length_map,ir,re,W2]
   refine ay (CB x.term (hx x gS)) rfl ?_
   cases h4:iz x.term with
   |false=>
    have:lK l=false:=by
     unfold lK
     have:(l.all fun x=>iz x.term)=false:=by
      rw[Bool.eq_false_iff];intro h;rw[List.all_eq_true]at h;have:=h x gS;rw[h4]at this;cases this
     rw[this,Bool.and_false]
    rw[this]
    simp+contextual (disch:=first|omega|simp only[go_sem,false_implies]) only[go_sem,wrap64,if_pos,and_self]
   |true=>
    simp+contextual (disch:=first|omega|simp only[go_sem,false_implies]) only[go_sem,wrap64,if_pos,and_self]
    refine aA (k+1) ⟨h2,by omega,fun j y hj hy=> ?_⟩ (by omega) (bP.d0 _ ?_)
    ·by_cases e:j=k
     ·subst e;rw[W2]at hy;injection hy with hy;rw[<- hy];exact h4
     ·exact k3 j y (by omega) hy
    ·(repeat(first|exact ao|refine ai ?_|refine ag rfl ?_|refine ag (aR (aQ (by omega))) ?_|refine aD rfl (by simp[V.refs,V.ah]<;>first|omega|assumption) ?_))
  ·have re:decide ((k:Int)<=25)=false:=by simp;omega
   rw[fin (by omega)]
   simp+contextual (disch:=first|omega|simp only[go_sem,false_implies]) only[go_sem,wrap64,if_pos,List.length_map,ir,re]
 ·have ir:decide ((k:Int)<(l.length:Int))=false:=by simp;omega
  rw[fin (by omega)]
  simp+contextual (disch:=first|omega|simp only[go_sem,false_implies]) only[go_sem,wrap64,if_pos,List.length_map,ir]
end Go.Proofs.YtealblliddhgiaaGreat
section
namespace Go.Proofs.YtealblliddhgiaaGreat
open Go
def W3:Nat->Bool:=fun g=> !([81,63,92,98,101,107,117,100,61,72,108,131,132,133,134,135,136,138,139,143,146,147,148,110,64,127,114,113,99]:List Nat).contains g
def W4:ru Tryz.prog:=ru.of W3 [] (fun _ h=>by cases h)
theorem Ex:MG Tryz.prog bV W4 5000 13 []=some (.ret [.bool true]):=by kernel_rfl
theorem known:bC Tryz.prog 13 [] (.ret [.bool true]):=bC.MH mix M9 Ex
end Go.Proofs.YtealblliddhgiaaGreat
end
namespace Go.Proofs.YtealblliddhgiaaGreat
theorem z8{s:aW}{a b:Tm}(h:kK s a b=true):bO s [a,b]=true:=by
 simp only[kK,Bool.and_eq_true]at h
 obtain⟨⟨h1,h2⟩,h3⟩:=h
 have h4:=h1
 simp only[lF,Bool.and_eq_true,List.all_cons,List.all_nil,Bool.and_true]at h4
 simp only[bO,qf,h1,Bool.true_and,List.all_cons,List.all_nil,Bool.and_true,mY h4.2.1,mY h4.2.2,h2,h3]
end Go.Proofs.YtealblliddhgiaaGreat
namespace Go.Proofs.YtealblliddhgiaaGreat
theorem qY(s:aW)(a b:Tm):bO s [a,b]=kK s a b:=by
 cases h:kK s a b with
 |true=>exact z8 h
 |false=>
  cases h2:bO s [a,b]with
  |false=>rfl
  |true=>
   obtain⟨⟨va,vb⟩,ta,tb⟩:=C4 h2
   simp only[bO,qf,Bool.and_eq_true]at h2
   simp[kK,h2.1,va.2,vb.2]at h
theorem Hl{x:Tm}(h:x.sz<=40/\x.eB<=12):iz x=true:=(lG x).2 (by omega)
theorem qq{l:List TB}(h1:l.length<=20)(h2:∀x∈l,x.term.sz<=40/\x.term.eB<=12):lK l=true:=by
 unfold lK
 rw[Bool.and_eq_true,List.all_eq_true]
 exact⟨by simp;omega,fun x hx=>Hl (h2 x hx)⟩
theorem EL.len {s:aW}{l:List TB}(h:EL s l):l.length<=20:=by
 have h1:∀n∈l.map (fun x=>x.var),0<=n/\n<20:=fun n hn=>by
  obtain⟨x,hx,rfl⟩:=List.mem_map.1 hn
  exact(h.ok x hx).1
 have:=rM h1 (List.pairwise_map.2 h.Jj)
 simpa using this
theorem BF{s:aW}{a b:Tm}(va:Vs s a)(vb:Vs s b)(zb:b.sz<=40/\b.eB<=12)(h:(dB a b []).2=true):EL s (dB a b []).1/\∀x∈(dB a b []).1,x.term.sz<=40/\x.term.eB<=12:=by
 obtain⟨e1,e2⟩:=CW a b [] [] va vb ⟨List.nodup_nil,fun _=>rfl⟩ ⟨List.Pairwise.nil,fun _ h=>(by cases h)⟩
 obtain⟨m1,m2⟩:=e2 h
 have aN:=xo (P:=fun t=>t.sz<=40/\t.eB<=12) (fun t k h hk=>⟨by have:=Tm.iD hk;omega,by have:=Tm.gR hk;omega⟩) a b [] zb (fun _ h=>by cases h)
 refine⟨m2,fun x hx=> ?_⟩
 have e:=Hh m2.Jj hx
 rw[<- m1.lk]at e
 exact aN _ (gU e)
set_option maxHeartbeats 2000000 in
theorem uv(s:aW)(hs:s.Fits)(a b:Tm)(ha:a.fits)(hb:b.fits):bC Tryz.prog 4 [s.d,a.d,b.d] (.ret [.bool true]):=by
 refine bC.aV mix XB (by simp) ?_
 rw[c4]
 simp+contextual (disch:=first|omega|simp only[go_sem,false_implies]) only[go_sem,wrap64,if_pos,and_self]
 refine ay (GF s hs [a,b] (by simp) (by simp[ha,hb])) rfl ?_
 cases h1:pq s [a,b]with
 |false=>
  simp+contextual (disch:=first|omega|simp only[go_sem,false_implies]) only[go_sem,wrap64,if_pos,and_self]
  refine ay known rfl ?_
  simp+contextual (disch:=first|omega|simp only[go_sem,false_implies]) only[go_sem,wrap64,if_pos,and_self]
 |true=>
  simp only[pq,Bool.and_eq_true,List.all_cons,List.all_nil,Bool.and_true]at h1
  have ca:=Tm.GD.zN ha h1.1.1
  have cb:=Tm.GD.zN hb h1.1.2
  have za:=(lG a).1 h1.1.1
  have zb:=(lG b).1 h1.1.2
  have hm:=Js s hs a b ca.toFin cb.toFin
  have H9:=Bs s hs a b ca cb
  have HK:=Eh s hs a b ha hb
  have hrc:=BE a ha (by omega) b hb (by omega)
  cases hv:bO s [a,b]with
  |false=>
   have hu:=C5 s hs a b ca.toFin cb.toFin (f:=0) (r:=([],false)) (fun h=>by rw[hv]at h;cases h)
   rw[<- qY,hv]at HK
   rw[hv]at H9
   simp only[mN,hv,Bool.false_eq_true,if_false]at hm
   simp only[fe,hv,Bool.false_eq_true,if_false]at hu
   simp+contextual (disch:=first|omega|simp only[go_sem,false_implies]) only[go_sem,wrap64,if_pos,and_self]
   refine aU hm ?_
   simp+contextual (disch:=first|omega|simp only[go_sem,false_implies]) only[go_sem,wrap64,if_pos,and_self]
   refine aU hu ?_
   simp+contextual (disch:=first|omega|simp only[go_sem,false_implies]) only[go_sem,wrap64,if_pos,and_self]
   refine ay H9 rfl ?_
   simp+contextual (disch:=first|omega|simp only[go_sem,false_implies]) only[go_sem,wrap64,if_pos,lQ]
   refine ay HK rfl ?_
   simp+contextual (disch:=first|omega|simp only[go_sem,false_implies]) only[go_sem,wrap64,if_pos,lQ]
   refine ay known rfl ?_
   simp+contextual (disch:=first|omega|simp only[go_sem,false_implies]) only[go_sem,wrap64,if_pos,and_self]
  |true=>
   obtain⟨⟨va,vb⟩,ta,tb⟩:=C4 hv
   have wa:=gV ta
   have wb:=gV tb
   obtain⟨f,r,hr⟩:=Ep (s:=s) 20 _ a b [] (by simp) (Nat.le_refl _) kQ.nil va vb
   have hu:=C5 s hs a b ca.toFin cb.toFin (f:=f) (r:=r) (fun _=>hr)
   have fa:a.ke:=Tm.xu a (by omega)
   have fb:b.ke:=Tm.xu b (by omega)
   have YE:=Hg hr va fa vb fb
   have YF:=xA f a b [] r hr fa fb (fun _ h=>by cases h)
   have hrm:=Hk a b ha hb (by omega)
   rw[<- qY,hv]at HK
   rw[hv]at H9
   simp+contextual (disch:=first|omega|simp only[go_sem,false_implies]) only[go_sem,wrap64,if_pos,and_self]
   refine aU hm ?_
   simp+contextual (disch:=first|omega|simp only[go_sem,false_implies]) only[go_sem,wrap64,if_pos,and_self]
   refine aU hu ?_
   simp+contextual (disch:=first|omega|simp only[go_sem,false_implies]) only[go_sem,wrap64,if_pos,and_self]
   refine ay H9 rfl ?_
   simp+contextual (disch:=first|omega|simp only[go_sem,false_implies]) only[go_sem,wrap64,if_pos,lQ]
   refine ay HK rfl ?_
   simp+contextual (disch:=first|omega|simp only[go_sem,false_implies]) only[go_sem,wrap64,if_pos,lQ]
   refine ay hrc rfl ?_
   have hcc:(ec a b !=ec a b)=false:=by simp
   simp+contextual (disch:=first|omega|simp only[go_sem,false_implies]) only[go_sem,wrap64,if_pos,lQ,hcc]
   refine aU hrm ?_
   cases W5:(dB a b []).2 with
   |false=>
    have em:mN s a b=([],5):=by simp[mN,hv,W5]
    simp+contextual (disch:=first|omega|simp only[go_sem,false_implies]) only[go_sem,wrap64,if_pos,em]
    refine aU YE ?_
    cases Ju:r.2 with
    |false=>
     have eu:fe s a b r=([],5):=by simp[fe,hv,Ju]
     simp+contextual (disch:=first|omega|simp only[go_sem,false_implies]) only[go_sem,wrap64,if_pos,em,eu]
     refine ay known rfl ?_
     simp+contextual (disch:=first|omega|simp only[go_sem,false_implies]) only[go_sem,wrap64,if_pos,em,eu]
    |true=>
     have uu:=(od f a b [] r.1 (by rw[hr, <- Ju]) kQ.nil va vb).1
     have W6:=uu.len
     have NG:∀x∈r.1,x.term.fits:=fun x hx=>Tm.mM _ (YF x hx)
     have K1:=vE s hs r.1 (by omega) NG
     simp+contextual (disch:=first|omega|simp only[go_sem,false_implies]) only[go_sem,wrap64,if_pos,em]
     refine ay K1 rfl ?_
     cases AD:r.1.all (fun x=>et s x.term)with
     |false=>
      have eu:fe s a b r=([],3):=by simp[fe,hv,Ju,AD]
      simp+contextual (disch:=first|omega|simp only[go_sem,false_implies]) only[go_sem,wrap64,if_pos,em,eu]
      refine ay known rfl ?_
      simp+contextual (disch:=first|omega|simp only[go_sem,false_implies]) only[go_sem,wrap64,if_pos,em,eu]
     |true=>
      have eu:fe s a b r=(r.1,0):=by simp[fe,hv,Ju,AD]
      have Hm:=lL r.1 (by omega) NG
      rw[qq W6 (fun x hx=>(gV (List.all_eq_true.1 AD x hx)).2)]at Hm
      simp+contextual (disch:=first|omega|simp only[go_sem,false_implies]) only[go_sem,wrap64,if_pos,em,eu]
      refine ay Hm rfl ?_
      simp+contextual (disch:=first|omega|simp only[go_sem,false_implies]) only[go_sem,wrap64,if_pos,em,eu]
      refine ay (jy _ (by omega) NG) rfl ?_
      simp+contextual (disch:=first|omega|simp only[go_sem,false_implies]) only[go_sem,wrap64,if_pos,em,eu]
      refine ay known rfl ?_
      simp+contextual (disch:=first|omega|simp only[go_sem,false_implies]) only[go_sem,wrap64,if_pos,em,eu]
   |true=>
    obtain⟨m1,m2⟩:=BF va vb wb.2 W5
    have em:mN s a b=((dB a b []).1,0):=by simp[mN,hv,W5]
    have LA:=m1.len
    have YG:∀x∈(dB a b []).1,x.term.fits:=fun x hx=>Tm.Jd _ (by have:=m2 x hx;omega)
    have YH:=lL (dB a b []).1 (by omega) YG
    rw[qq LA m2]at YH
    simp+contextual (disch:=first|omega|simp only[go_sem,false_implies]) only[go_sem,wrap64,if_pos,em]
    refine ay YH rfl ?_
    simp+contextual (disch:=first|omega|simp only[go_sem,false_implies]) only[go_sem,wrap64,if_pos,em]
    refine ay (jy _ (by omega) YG) rfl ?_
    simp+contextual (disch:=first|omega|simp only[go_sem,false_implies]) only[go_sem,wrap64,if_pos,em]
    refine aU YE ?_
    cases Ju:r.2 with
    |false=>
     have eu:fe s a b r=([],5):=by simp[fe,hv,Ju]
     simp+contextual (disch:=first|omega|simp only[go_sem,false_implies]) only[go_sem,wrap64,if_pos,em,eu]
     refine ay known rfl ?_
     simp+contextual (disch:=first|omega|simp only[go_sem,false_implies]) only[go_sem,wrap64,if_pos,em,eu]
    |true=>
     have uu:=(od f a b [] r.1 (by rw[hr, <- Ju]) kQ.nil va vb).1
     have W6:=uu.len
     have NG:∀x∈r.1,x.term.fits:=fun x hx=>Tm.mM _ (YF x hx)
     have K1:=vE s hs r.1 (by omega) NG
     simp+contextual (disch:=first|omega|simp only[go_sem,false_implies]) only[go_sem,wrap64,if_pos,em]
     refine ay K1 rfl ?_
     cases AD:r.1.all (fun x=>et s x.term)with
     |false=>
      have eu:fe s a b r=([],3):=by simp[fe,hv,Ju,AD]
      simp+contextual (disch:=first|omega|simp only[go_sem,false_implies]) only[go_sem,wrap64,if_pos,em,eu]
      refine ay known rfl ?_
      simp+contextual (disch:=first|omega|simp only[go_sem,false_implies]) only[go_sem,wrap64,if_pos,em,eu]
     |true=>
      have eu:fe s a b r=(r.1,0):=by simp[fe,hv,Ju,AD]
      have Hm:=lL r.1 (by omega) NG
      rw[qq W6 (fun x hx=>(gV (List.all_eq_true.1 AD x hx)).2)]at Hm
      simp+contextual (disch:=first|omega|simp only[go_sem,false_implies]) only[go_sem,wrap64,if_pos,em,eu]
      refine ay Hm rfl ?_
      simp+contextual (disch:=first|omega|simp only[go_sem,false_implies]) only[go_sem,wrap64,if_pos,em,eu]
      refine ay (jy _ (by omega) NG) rfl ?_
      simp+contextual (disch:=first|omega|simp only[go_sem,false_implies]) only[go_sem,wrap64,if_pos,em,eu]
      refine ay known rfl ?_
      simp+contextual (disch:=first|omega|simp only[go_sem,false_implies]) only[go_sem,wrap64,if_pos,em,eu]
end Go.Proofs.YtealblliddhgiaaGreat
section
namespace Go.Proofs.YtealblliddhgiaaGreat
open Go.ChangeShapes Go.WideShapes Go.RowKit
def tU(P:Program)(rec:TypeId->Option (List TypeId)):Nat->List Field->Option (List TypeId)
 |_,[]=>some []
 |off,f::fs=>if f.offset=off then match rec f.type with
  |some l=>if P.cellsOf f.type=l.length then(tU P rec (off+l.length) fs).map (l++·)else none
  |none=>none else none
def lR(P:Program):Nat->TypeId->Option (List TypeId)
 |0,_=>none
 |n+1,t=>match P.underlying t with
  |some .bool|some (.int _)|some .string|some (.slice _)=>some [t]
  |some (.struct fs)=>tU P (lR P n) 0 fs.toList
  |some (.array k e)=>match lR P n e with
   |some l=>if P.cellsOf e=l.length then some (List.replicate k l).flatten else none
   |none=>none
  |_=>none
def isAgg(P:Program)(t:TypeId):Bool:=match P.underlying t with
 |some (.struct _)|some (.array _ _)=>true
 |_=>false
mutual
def D.j9 (P:Program):D->TypeId->Prop
 | .int k n,t=>P.underlying t=some (.int k)/\(Lit.int k n).wf=true
 | .bool _,t=>P.underlying t=some .bool
 | .str l,t=>P.underlying t=some .string/\l.length<=maxLen
 | .sl es,t=>∃e,P.underlying t=some (.slice e)/\es.length<=maxLen/\D.Ey P es e
 | .agg cs,t=>isAgg P t=true/\∃ls,lR P 20 t=some ls/\D.iq P cs ls
 |_,_=>False
def D.Ey (P:Program):List D->TypeId->Prop
 |[],_=>True
 |x::l,e=>D.j9 P x e/\D.Ey P l e
def D.iq (P:Program):List D->List TypeId->Prop
 |[],ts=>ts=[]
 |x::l,ts=>∃t r,ts=t::r/\D.j9 P x t/\D.iq P l r
end
def rR(P:Program)(T:List TypeId):Bool:=T.all fun t=>match lR P 20 t with
 |some l=>decide (l.length=P.cellsOf t)&&decide (0<l.length)&&l.all fun u=>match P.underlying u with
  |some (.slice e)=>T.contains e
  |_=>true
 |none=>false
theorem pE{P:Program}:∀ {xs ys:List D} {l r:List TypeId},D.iq P xs l->D.iq P ys r->D.iq P (xs++ys) (l++r)
 |[],_,_,_,h,h'=>by simp only[D.iq]at h;subst h;exact h'
 |x::xs,_,_,_,h,h'=>by
  obtain⟨t,r,rfl,h1,h2⟩:=h
  exact⟨t,_,rfl,h1,pE h2 h'⟩
theorem bu{B:Nat->Prop}{w:World}:∀ {xs ys:List D} {l r:List Value},D.aF B w xs l->D.aF B w ys r->D.aF B w (xs++ys) (l++r)
 |[],_,_,_,h,h'=>by simp only[D.aF]at h;subst h;exact h'
 |x::xs,_,_,_,h,h'=>by
  obtain⟨t,r,rfl,h1,h2⟩:=h
  exact⟨t,_,rfl,h1,bu h2 h'⟩
theorem Flat.append {l r:List Value}(h:Flat l)(h':Flat r):Flat (l++r):=fun u hu=>(List.mem_append.1 hu).elim (h u) (h' u)
abbrev NH:Nat->Prop:=fun _=>False
section
variable {H:Type}{enc:TypeId×Value->H}{P:Program}{W:World}{T:List TypeId}{b0:Nat}
def dh(P:Program)(W:World)(l:List TypeId)(cs:List Value):Prop:=∃xs,D.iq P xs l/\D.aF NH W xs cs/\Flat cs
theorem dh.append {l r:List TypeId}{cs ds:List Value}(h:dh P W l cs)(h':dh P W r ds):dh P W (l++r) (cs++ds):=by
 obtain⟨xs,a1,a2,a3⟩:=h
 obtain⟨ys,b1,b2,b3⟩:=h'
 exact⟨xs++ys,pE a1 b1,bu a2 b2,a3.append b3⟩
theorem dh.length {l:List TypeId}{cs:List Value}(h:dh P W l cs):cs.length=l.length:=by
 obtain⟨xs,a1,a2,_⟩:=h
 rw[D.aE _ _ a2]
 clear a2
 induction xs generalizing l with
 |nil=>simp only[D.iq]at a1;simp[a1]
 |cons x xs ih=>obtain⟨t,r,rfl,_,h⟩:=a1;simp[ih h]
theorem dh.nil:dh P W [] []:=⟨[],rfl,rfl,fun _ h=>by cases h⟩
theorem Aa{α:Type}(cs:List α)(o k:Nat):cs.drop o=(cs.drop o).take k++cs.drop (o+k):=by
 rw[<- List.drop_drop];exact(List.take_append_drop k _).symm
theorem pF{rec:TypeId->Option (List TypeId)}{cs:List Value}{rd:TypeId->List Value->Prop}
 (aH:∀t l vs,rec t=some l->(∀u∈l,∀e,P.underlying u=some (.slice e)->e∈T)->P.cellsOf t=l.length->rd t vs->dh P W l vs):
 ∀ (fs:List Field) (off:Nat) (l:List TypeId),tU P rec off fs=some l->(∀u∈l,∀e,P.underlying u=some (.slice e)->e∈T)->(∀f∈fs,rd f.type ((cs.drop f.offset).take (P.cellsOf f.type)))->
   off+l.length=cs.length->dh P W l (cs.drop off)
 |[],off,l,h,_,_,hl=>by
  simp only[tU,Option.some.injEq]at h
  subst h
  have:cs.drop off=[]:=List.drop_eq_nil_of_le (by simp at hl;omega)
  rw[this];exact dh.nil
 |f::fs,off,l,h,hT,hr,hl=>by
  simp only[tU]at h
  split at h
  ·rename_i ho
   split at h
   ·rename_i l1 h1
    split at h
    ·rename_i hc
     simp only[Option.map_eq_some_iff]at h
     obtain⟨r,h2,rfl⟩:=h
     have hd:=hr f (by simp)
     rw[ho,hc]at hd
     rw[Aa cs off l1.length]
     simp only[List.length_append]at hl
     exact(aH f.type l1 _ h1 (fun u hu=>hT u (by simp[hu])) hc hd).append (pF aH fs _ r h2 (fun u hu=>hT u (by simp[hu])) (fun f hf=>hr f (by simp[hf])) (by omega))
    ·cases h
   ·cases h
  ·cases h
theorem qZ{l:List TypeId}{cs:List Value}:∀ (k i:Nat),(∀j,j<k->dh P W l ((cs.drop ((i+j)*l.length)).take l.length))->(i+k)*l.length=cs.length->dh P W (List.replicate k l).flatten (cs.drop (i*l.length))
 |0,i,_,hl=>by
  have:cs.drop (i*l.length)=[]:=List.drop_eq_nil_of_le (by simp at hl;omega)
  rw[this];exact dh.nil
 |k+1,i,h,hl=>by
  rw[List.replicate_succ,List.flatten_cons,Aa cs (i*l.length) l.length]
  refine(by simpa using h 0 (by omega):dh P W l _).append ?_
  rw[show i*l.length+l.length=(i+1)*l.length by rw[Nat.add_mul];omega]
  refine qZ k (i+1) (fun j hj=> ?_) (by rw[<- hl];congr 1;omega)
  have:=h (j+1) (by omega)
  rwa [show i+(j+1)=i+1+j by omega]at this
theorem Ab{e:TypeId}{l:List TypeId}{cs:List Value}(hl:lR P 20 e=some l)(h:dh P W l cs):∃ (ev:Value) (x:D),ev.cells.toList=cs/\D.j9 P x e/\D.den NH W x ev/\(isAgg P e=true->ev= .agg cs.toArray)/\(isAgg P e=false->cs=[ev]/\ev.oneCell'=true):=by
 obtain⟨xs,h1,h2,h3⟩:=h
 cases ha:isAgg P e with
 |true=>exact⟨.agg cs.toArray, .agg xs,by simp[Value.cells],⟨ha,l,hl,h1⟩,⟨_,rfl,by simpa using h2,by simpa using h3⟩,fun _=>rfl,(fun h=>by cases h)⟩
 |false=>
  have:l=[e]:=by
   unfold lR at hl
   unfold isAgg at ha
   split at hl<;>simp_all
  subst this
  obtain⟨t,r,e1,h4,h5⟩:∃x r,xs=x::r/\D.j9 P x e/\D.iq P r []:=by
   cases xs with
   |nil=>simp[D.iq]at h1
   |cons x r=>obtain⟨t,r',e1,h4,h5⟩:=h1;injection e1 with e1 e2;subst e1;subst e2;exact⟨x,r,rfl,h4,h5⟩
  subst e1
  have:r=[]:=by cases r with
   |nil=>rfl
   |cons y r=>obtain⟨_,_,e,_⟩:=h5;cases e
  subst this
  obtain⟨u,us,rfl,h6,h7⟩:=h2
  simp only[D.aF]at h7
  subst h7
  have ho:=h3 u (by simp)
  refine⟨u,t, ?_,h4,h6,(fun h=>by cases h),fun _=>⟨rfl,ho⟩⟩
  cases u<;>simp_all[Value.oneCell',Value.cells]
theorem Ac(hp:rR P T=true){t:TypeId}(ht:t∈T):∃l,lR P 20 t=some l/\l.length=P.cellsOf t/\0<l.length/\∀u∈l,∀e,P.underlying u=some (.slice e)->e∈T:=by
 have:=List.all_eq_true.1 hp t ht
 split at this
 ·rename_i l hl
  simp only[Bool.and_eq_true,decide_eq_true_eq,List.all_eq_true]at this
  refine⟨l,hl,this.1.1,this.1.2,fun u hu e he=> ?_⟩
  have:=this.2 u hu
  rw[he]at this
  simpa using this
 ·cases this
theorem BG(hp:rR P T=true):∀ (n m:Nat) (t:TypeId) (l:List TypeId) (cs:List Value) (x:DataW H×List MemPlace),lR P m t=some l->(∀u∈l,∀e,P.underlying u=some (.slice e)->e∈T)->
 P.cellsOf t=l.length->DataW.trod enc P W 0 (fun _=>true) true n t cs=some x->dh P W l cs:=by
 intro n
 induction n with
 |zero=>intro m t l cs x _ _ _ h;simp[DataW.trod]at h
 |succ n ih=>
  intro m t l cs x hl hT hc h
  cases m with
  |zero=>simp[lR]at hl
  |succ m=>
  unfold lR at hl
  split at hl
  ·rename_i hu
   injection hl with hl;subst hl
   obtain⟨b,rfl,_⟩:=DataW.trod_bool hu h
   exact⟨[.bool b],⟨t,[],rfl,hu,rfl⟩,⟨_,_,rfl,rfl,rfl⟩,by simp[Flat,Value.oneCell']⟩
  ·rename_i k hu
   injection hl with hl;subst hl
   obtain⟨b,rfl,_,hw⟩:=DataW.trod_int hu h
   exact⟨[.int k b],⟨t,[],rfl,⟨hu,hw⟩,rfl⟩,⟨_,_,rfl,rfl,rfl⟩,by simp[Flat,Value.oneCell']⟩
  ·rename_i hu
   injection hl with hl;subst hl
   obtain⟨s,rfl,_,hw⟩:=DataW.trod_string hu h
   exact⟨[.str s.data.toList],⟨t,[],rfl,⟨hu,by simpa using hw⟩,rfl⟩,⟨_,_,rfl,⟨s,rfl,rfl⟩,rfl⟩,by simp[Flat,Value.oneCell']⟩
  ·rename_i e hu
   injection hl with hl;subst hl
   rcases DataW.trod_slice hu h with⟨rfl,_⟩|⟨a,len,cap,elems,rest,n',hn,rfl,_,_,h2,h3,h4,h5,h6,_⟩
   ·exact⟨[.sl []],⟨t,[],rfl,⟨e,hu,by simp,trivial⟩,rfl⟩,⟨_,_,rfl,⟨none,0,0,rfl,rfl,by simp,fun _=>rfl,0,(fun a ha=>by cases ha)⟩,rfl⟩,by simp[Flat,Value.oneCell']⟩
   ·injection hn with hn;subst hn
    obtain⟨l',g1,g2,g3,g4⟩:=Ac hp (hT t (by simp) e hu)
    have at':∀i,i<len->∃ev:Value,∃y:D,ev.cells.size=P.cellsOf e/\fR NH W (a.add (i*P.cellsOf e)) ev.cells/\D.den NH W y ev/\D.j9 P y e:=by
     intro i hi
     have:=h5 i hi
     rw[List.getElem?_eq_getElem (by omega)]at this
     obtain⟨ci,k1,k2⟩:=Option.bind_eq_some_iff.1 this
     obtain⟨_,k3,k4⟩:=World.cells?_some k1
     have k5:=ih 20 e l' ci _ g1 g4 g2.symm k2
     obtain⟨ev,y,q1,q2,q3,_,_⟩:=Ab g1 k5
     have q4:ev.cells=ci.toArray:=by rw[<- q1]
     refine⟨ev,y,by rw[q4];simp[k5.length,g2],fun j u hj=>⟨?_,fun h=>h⟩,q3,q2⟩
     rw[q4]at hj
     have EA:ci[j]? =some u:=by simpa using hj
     have bI:j<P.cellsOf e:=by rw[<- g2, <- k5.length];exact(List.getElem?_eq_some_iff.1 EA).1
     rw[k4 j bI];exact EA
    have list:∀k i,i+k=len->∃es,es.length=k/\D.Ey P es e/\D.elems NH W (P.cellsOf e) a i es:=by
     intro k
     induction k with
     |zero=>intro i _;exact⟨[],rfl,trivial,trivial⟩
     |succ k qW=>
      intro i hi
      obtain⟨es,e1,e2,e3⟩:=qW (i+1) (by omega)
      obtain⟨ev,y,y1,y2,y3,y4⟩:=at' i (by omega)
      exact⟨y::es,by simp[e1],⟨y4,e2⟩,⟨ev,y1,y2,y3⟩,e3⟩
    obtain⟨es,e1,e2,e3⟩:=list len 0 (by omega)
    have SR:cap≠0->a.spot=none:=by
     intro E3
     have Le:∀z,(W.cells? 0 (a.add (0*P.cellsOf e)) (P.cellsOf e)).bind (DataW.trod enc P W 0 (fun _=>true) true n e)=some z->a.spot=none:=by
      intro z hz
      obtain⟨ci,k1,k2⟩:=Option.bind_eq_some_iff.1 hz
      obtain⟨_,k3,k4⟩:=World.cells?_some k1
      have k5:=k4 0 (by omega)
      rw[List.getElem?_eq_getElem (by omega)]at k5
      simpa[Addr.add]using World.cell?_spot k5
     by_cases hlen:0<len
     ·have:=h5 0 hlen
      rw[List.getElem?_eq_getElem (by omega)]at this
      exact Le _ this
     ·obtain⟨h7,h8⟩:=h6 rfl
      have:=h8 0 (by omega)
      rw[List.getElem?_eq_getElem (by omega),show(len+0)=0 by omega]at this
      exact Le _ this
    exact⟨[.sl es],⟨t,[],rfl,⟨e,hu,by omega,e2⟩,rfl⟩,⟨_,_,rfl,⟨some a,len,cap,rfl,e1.symm,h2,(fun h=>by cases h),P.cellsOf e,(fun a' Ja=>by injection Ja with Ja;subst Ja;exact⟨SR,e3⟩)⟩,rfl⟩,by simp[Flat,Value.oneCell']⟩
  ·rename_i fs hu
   obtain⟨xs,n',hn,_,h2,h3,h4⟩:=DataW.trod_struct hu h
   injection hn with hn;subst hn
   have:=pF (P:=P) (W:=W) (T:=T) (cs:=cs) (rd:=fun t vs=>∃y,DataW.trod enc P W 0 (fun _=>true) true n t vs=some y) (rec:=lR P m) (fun t l vs q1 q2 q3 ⟨y,q4⟩=>ih m t l vs y q1 q2 q3 q4) fs.toList 0 l hl hT ?_ (by omega)
   ·simpa using this
   ·intro f hf
    obtain⟨i,hi,hfi⟩:=List.getElem_of_mem hf
    have:=h4 i f (by simp at hi;simp[<- hfi,Array.getElem?_eq_getElem hi])
    rw[List.getElem?_eq_getElem (by simp at hi;omega)]at this
    exact⟨_,this⟩
  ·rename_i k e hu
   split at hl
   ·rename_i l' HW
    split at hl
    ·rename_i YI
     injection hl with hl;subst hl
     obtain⟨xs,n',hn,_,h2,h3,h4⟩:=DataW.trod_array hu h
     injection hn with hn;subst hn
     have hlen:cs.length=k*l'.length:=by rw[h2,hc];simp
     have hT':0<k->∀u∈l',∀e,P.underlying u=some (.slice e)->e∈T:=fun hk u hu=>hT u (List.mem_flatten.2 ⟨l',List.mem_replicate.2 ⟨by omega,rfl⟩,hu⟩)
     have:=qZ (P:=P) (W:=W) (l:=l') (cs:=cs) k 0 (fun j hj=> ?_) (by rw[hlen];simp)
     ·simpa using this
     ·have:=h4 j hj
      rw[YI,List.getElem?_eq_getElem (by omega)]at this
      rw[Nat.zero_add]
      exact ih m e l' _ _ HW (hT' (by omega)) YI this
    ·cases hl
   ·cases hl
  ·cases hl
theorem vG(hp:rR P T=true):∀ (ts:List TypeId) (vs:List Value) (ds:List (DataW H)) (p:List MemPlace),(∀t∈ts,t∈T)->DataW.TrodAll enc P W 0 (fun _=>true) true ts vs ds p->
 (∀ (j:Nat) t v,ts[j]? =some t->vs[j]? =some v->Value.okWide P W .any b0 t v)->∃xs,D.iq P xs ts/\D.aF NH W xs vs
 |[],vs,ds,p,_,h,_=>by
  obtain⟨rfl,rfl,rfl⟩:=trodAll_nil h
  exact⟨[],rfl,rfl⟩
 |t::ts,vs,ds,p,hT,h,hv=>by
  obtain⟨v,SW,d,Ph,p1,q1,rfl,rfl,rfl,⟨n,h1⟩,h2⟩:=trodAll_cons h
  obtain⟨xs,a1,a2⟩:=vG hp ts SW Ph q1 (fun t ht=>hT t (by simp[ht])) h2 (fun j t v h1 h2=>hv (j+1) t v (by simpa using h1) (by simpa using h2))
  obtain⟨l,g1,g2,g3,g4⟩:=Ac hp (hT t (by simp))
  obtain⟨ev,x,q1,q2,q3,q4,q5⟩:=Ab g1 (BG hp n 20 t l _ _ g1 g4 g2.symm h1)
  have bB:=hv 0 t v rfl rfl
  have:ev=v:=by
   cases ha:isAgg P t with
   |true=>
    have:∃cs,v= .agg cs:=by
     unfold isAgg at ha
     unfold Value.okWide at bB
     split at ha
     ·rename_i hu;rw[hu]at bB;obtain⟨cs,rfl,_⟩:=bB;exact⟨cs,rfl⟩
     ·rename_i hu;rw[hu]at bB;obtain⟨cs,rfl,_⟩:=bB;exact⟨cs,rfl⟩
     ·cases ha
    obtain⟨cs,rfl⟩:=this
    rw[q4 ha]
    simp[Value.cells]
   |false=>
    obtain⟨q6,q7⟩:=q5 ha
    cases v with
    |agg cs=>
     exfalso
     unfold isAgg at ha
     unfold Value.okWide at bB
     split at bB
     ·rename_i hu;rw[hu]at ha;cases ha
     ·rename_i hu;rw[hu]at ha;cases ha
     ·unfold Cell.okWide at bB
      split at bB
      case h_8=>
       unfold Cell.ok at bB
       split at bB<;>first|exact bB|contradiction
      all_goals contradiction
    |_=>simp only[Value.cells,List.cons.injEq,and_true]at q6;exact q6.symm
  subst this
  exact⟨x::xs,⟨t,ts,rfl,q2,a1⟩,⟨_,_,rfl,q3,a2⟩⟩
theorem eL.below {w w':World}(h:eL (fun _=>False) w w'):Below w.heap.size w w':=⟨h.os,h.tape,h.output,h.size,fun k hk=>h.block k hk (fun h=>h)⟩
theorem vH(hl:laidOutB P=true){W':World}{sp:Nat->Bool}:∀ {ts:List TypeId} {vs:List Value} {ds:List (DataW H)} {p:List MemPlace},(∀t∈ts,P.readableRec t=true/\t<P.types.size)->DataW.TrodAll enc P W 0 (fun _=>true) true ts vs ds p->
 (∀x∈p,W.sameAt W' x/\sp x.block=true)->DataW.TrodAll enc P W' 0 sp true ts vs ds p
 |[],vs,ds,p,_,h,_=>by
  obtain⟨rfl,rfl,rfl⟩:=trodAll_nil h
  exact trodAll_mk0
 |t::ts,vs,ds,p,hr,h,hs=>by
  obtain⟨v,SW,d,Ph,p1,q1,rfl,rfl,rfl,h1,h2⟩:=trodAll_cons h
  exact⟨p1,q1,WideElems.Trod_stays hl (hr t (by simp)).1 (hr t (by simp)).2 h1 (fun x hx=>(hs x (by simp[hx])).1) (fun x hx=>(hs x (by simp[hx])).2),vH hl (fun t ht=>hr t (by simp[ht])) h2 (fun x hx=>hs x (by simp[hx])),rfl⟩
theorem Hn{sp:Nat->Bool}:∀ {ts:List TypeId} {vs:List Value} {ds:List (DataW H)} {ps:List MemPlace},DataW.TrodAll enc P W 0 sp true ts vs ds ps->ds.length=ts.length
 |[],_,_,_,h=>by obtain⟨_,rfl,_⟩:=trodAll_nil h;rfl
 |_::_,_,_,_,h=>by
  obtain⟨_,_,_,_,_,_,_,rfl,_,_,h2⟩:=trodAll_cons h
  simp[Hn h2]
theorem xC{f:FuncId}{fn:Func}{s:ChangeSpec}{tb:TypeId}{fresh handsOn again:Bool}(yq:fn.resultTypes=#[tb])(Nj:P.underlying tb=some .bool)(Lf:s.vars=[])
 (Ho:∀ds:List (DataW H),ds.length=fn.params.toList.length->s.fn H ds={results:=[.lit (.bool true)],args:=ds}) (hp:rR P T=true) (hT:∀t∈fn.params.toList,t∈T) (hl:laidOutB P=true)
 (hr:∀t∈fn.params.toList,P.readableRec t=true/\t<P.types.size) (law:∀xs,D.iq P xs fn.params.toList->bC P f xs (.ret [.bool true]))
 (base:Nat) (args:Array Value) (ds gs:List (DataW H)) (before:List MemPlace)
 (ei:∀ (j:Nat) t v,fn.params[j]? =some t->args[j]? =some v->Value.okWide P W .any base t v) (hW:DataW.Whole enc P fn.params.toList s.vars false W args.toList ds gs before):
 Calls P f args W fun e W'=>∃v,e= .returned v/\s.post enc P fn false fresh handsOn again W args v W':=by
 have YJ:=hW
 obtain⟨p,q,hA,hV,rfl,hfz,Xl⟩:=hW
 rw[Lf]at hV
 obtain⟨rfl,rfl⟩:=trodVars_none hV
 obtain⟨xs,a1,a2⟩:=vG (b0:=base) hp fn.params.toList args.toList ds p hT hA (fun j t v h1 h2=>ei j t v (by simpa using h1) (by simpa using h2))
 refine((law xs a1).2 NH W args (fun _ h=>h.elim) a2).mono fun e W' ⟨hk,ho⟩=> ?_
 have hb:=hk.below
 cases e with
 |panicked ch=>exact ho.elim
 |outgrown=>exact ho.elim
 |returned v=>
  simp only[R.is,D.den]at ho
  subst ho
  refine⟨_,rfl, ?_⟩
  have hlen:ds.length=fn.params.toList.length:=(Hn hA)
  have hold:∀x∈p,x.block<W.heap.size:=fun x hx=>by simpa using YJ.lt x (by simpa using hx)
  have dV:∀sp:Nat->Bool,(∀x∈p,sp x.block=true)->DataW.TrodAll enc P W' 0 sp true fn.params.toList args.toList ds p:=fun sp Jy=>vH hl hr hA fun x hx=>⟨hb.same (hold x hx),Jy x hx⟩
  have Lg:∀ (b:Nat) (sp:Nat->Bool) (hd:Bool),DataW.TrodAll enc P W' b sp hd fn.resultTypes.toList ((Value.bool true).resultList fn.resultTypes.size) [.lit (.bool true)] []:=fun b sp hd=>by
   rw[yq]
   exact trodAll_cons_mk (p:=[]) (p':=[]) ⟨1,by simp[DataW.trod,Value.cells,Nj]⟩ trodAll_mk0
  have Hq:∀sp:Nat->Bool,DataW.TrodVars enc P W' sp s.vars [] []:=fun sp=>by rw[Lf];rfl
  refine⟨ds,[],p++[],[],p,[],YJ, ?_, ?_, ?_,World.keptBut_mono (fun _ h=>h.elim) (hb.frame (fun _=>False)),fun _=>⟨?_,[.lit (.bool true)]++ds,[],([]++p)++[],⟨[]++p,[],trodAll_append (dV _ fun _ _=>rfl) (Lg 0 (fun _=>true) true),Hq _,rfl, ?_,(fun h=>by cases h)⟩,fun x hx _=>by simpa using hx⟩⟩
  ·rw[List.append_nil,Ho ds hlen];exact Lg _ _ _
  ·rw[List.append_nil,Ho ds hlen];exact dV _ fun x hx=>by simpa using hold x hx
  ·rw[List.append_nil,Ho ds hlen];exact Hq _
  ·intro j t r h1 h2
   rw[yq]at h1 h2
   match j,h1,h2 with
   |0,h1,h2=>
    simp[Value.resultList]at h1 h2
    subst h1;subst h2
    simp[Value.okWide,Nj,Cell.okWide,Cell.ok]
  ·intro b off hx
   rw[hb.frozen (by simpa[MemPlace.block]using hold _ (by simpa using hx))]
   exact hfz b off (by simpa using hx)
end
section
variable {P:Program}{t e:TypeId}{x:D}
theorem Ad{k:IntKind}(ht:P.underlying t=some (.int k))(h:D.j9 P x t):∃n,x= .int k n/\(Lit.int k n).wf=true:=by
 cases x<;>simp only[D.j9]at h
 case int k' n=>
  rw[ht]at h
  obtain⟨h1,h2⟩:=h
  injection h1 with h1;injection h1 with h1;subst h1
  exact⟨n,rfl,h2⟩
 case bool=>rw[ht]at h;cases h
 case str=>rw[ht]at h;cases h.1
 case sl=>obtain⟨e,h,_⟩:=h;rw[ht]at h;cases h
 case agg=>have:=h.1;unfold isAgg at this;rw[ht]at this;cases this
theorem Hr(ht:P.underlying t=some .string)(h:D.j9 P x t):∃l,x= .str l/\l.length<=maxLen:=by
 cases x<;>simp only[D.j9]at h
 case int k' n=>rw[ht]at h;cases h.1
 case bool b=>rw[ht]at h;cases h
 case str l=>exact⟨l,rfl,h.2⟩
 case sl=>obtain⟨e,h,_⟩:=h;rw[ht]at h;cases h
 case agg=>have:=h.1;unfold isAgg at this;rw[ht]at this;cases this
theorem xD(ht:P.underlying t=some (.slice e))(h:D.j9 P x t):∃es,x= .sl es/\es.length<=maxLen/\D.Ey P es e:=by
 cases x<;>simp only[D.j9]at h
 case int k' n=>rw[ht]at h;cases h.1
 case bool b=>rw[ht]at h;cases h
 case str l=>rw[ht]at h;cases h.1
 case sl es=>
  obtain⟨e',h,h2,h3⟩:=h
  rw[ht]at h;injection h with h;injection h with h;subst h
  exact⟨es,rfl,h2,h3⟩
 case agg=>have:=h.1;unfold isAgg at this;rw[ht]at this;cases this
theorem tV{ls:List TypeId}(ha:isAgg P t=true)(hl:lR P 20 t=some ls)(h:D.j9 P x t):∃cs,x= .agg cs/\D.iq P cs ls:=by
 have no:∀u,P.underlying t=some u->(∀fs,u≠ .struct fs)->(∀k e,u≠ .array k e)->False:=by
  intro u hu h1 h2
  unfold isAgg at ha
  rw[hu]at ha
  split at ha
  ·rename_i e;injection e with e;exact h1 _ e
  ·rename_i e;injection e with e;exact h2 _ _ e
  ·cases ha
 cases x<;>simp only[D.j9]at h
 case int k' n=>exact(no _ h.1 (fun _ h=>by cases h) (fun _ _ h=>by cases h)).elim
 case bool b=>exact(no _ h (fun _ h=>by cases h) (fun _ _ h=>by cases h)).elim
 case str l=>exact(no _ h.1 (fun _ h=>by cases h) (fun _ _ h=>by cases h)).elim
 case sl es=>obtain⟨e',h,_⟩:=h;exact(no _ h (fun _ h=>by cases h) (fun _ _ h=>by cases h)).elim
 case agg cs=>
  obtain⟨_,ls',h1,h2⟩:=h
  rw[hl]at h1;injection h1 with h1;subst h1
  exact⟨cs,rfl,h2⟩
theorem dm{t:TypeId}{ts:List TypeId}{cs:List D}(h:D.iq P cs (t::ts)):∃x xs,cs=x::xs/\D.j9 P x t/\D.iq P xs ts:=by
 cases cs with
 |nil=>simp[D.iq]at h
 |cons x xs=>obtain⟨_,_,e,h1,h2⟩:=h;injection e with e1 e2;subst e1;subst e2;exact⟨x,xs,rfl,h1,h2⟩
theorem m7{cs:List D}(h:D.iq P cs []):cs=[]:=by
 cases cs with
 |nil=>rfl
 |cons x xs=>obtain⟨_,_,e,_⟩:=h;cases e
theorem tW{α:Type}{f:α->D}{q:α->Prop}(hf:∀x,D.j9 P x e->∃a,x=f a/\q a):∀ (es:List D),D.Ey P es e->∃l:List α,es=l.map f/\∀a∈l,q a
 |[],_=>⟨[],rfl,fun _ h=>by cases h⟩
 |x::es,h=>by
  obtain⟨a,rfl,h1⟩:=hf x h.1
  obtain⟨l,rfl,h2⟩:=tW hf es h.2
  exact⟨a::l,rfl,fun b hb=>(List.mem_cons.1 hb).elim (fun e=>e ▸ h1) (h2 b)⟩
end
end Go.Proofs.YtealblliddhgiaaGreat
end
section
namespace Go.Proofs.YtealblliddhgiaaGreat
open Go.ChangeShapes Go.WideShapes Go.RowKit
theorem qs:maxLen<=9223372036854775807:=by decide
theorem Lh{x:D}(h:D.j9 Tryz.prog x 3):∃n:Int,x= .i n:=by
 obtain⟨n,h,_⟩:=Ad undT_3 h
 exact⟨n,h⟩
theorem W7{x:D}(h:D.j9 Tryz.prog x 25):∃n:Int,x= .i n:=by
 obtain⟨n,h,_⟩:=Ad undT_25 h
 exact⟨n,h⟩
theorem SS{x:D}(h:D.j9 Tryz.prog x 103):∃r:om,x=r.d/\r.name.length<=9223372036854775807:=by
 obtain⟨cs,rfl,hh⟩:=tV (by kernel_rfl) (ls:=[9,3]) (by kernel_rfl) h
 clear h;have h:=hh;clear hh
 obtain⟨a,cs,rfl,ha,h⟩:=dm h
 obtain⟨b,cs,rfl,hb,h⟩:=dm h
 have:=m7 h;subst this
 obtain⟨l,rfl,hl⟩:=Hr (by kernel_rfl) ha
 obtain⟨n,rfl⟩:=Lh hb
 exact⟨⟨l,n⟩,rfl,by have:=qs;simp only;omega⟩
theorem SU{x:D}(h:D.j9 Tryz.prog x 24):∃s:aW,x=s.d/\s.Fits:=by
 obtain⟨cs,rfl,hh⟩:=tV (by kernel_rfl) (ls:=[22,22]) (by kernel_rfl) h
 clear h;have h:=hh;clear hh
 obtain⟨a,cs,rfl,ha,h⟩:=dm h
 obtain⟨b,cs,rfl,hb,h⟩:=dm h
 have:=m7 h;subst this
 obtain⟨es,rfl,h1,h2⟩:=xD undT_22 ha
 obtain⟨l,rfl,hl⟩:=tW (fun x h=>SS h) es h2
 obtain⟨es',rfl,h3,h4⟩:=xD undT_22 hb
 obtain⟨l',rfl,HW⟩:=tW (fun x h=>SS h) es' h4
 have:=qs
 exact⟨⟨l,l'⟩,rfl,⟨by simp at h1;simp only;omega,by simp at h3;simp only;omega,hl,HW⟩⟩
theorem Hs:∀ (n:Nat) (x:D),SizeOf.sizeOf x<=n->D.j9 Tryz.prog x 28->∃t:Tm,x=t.d/\t.fits:=by
 intro n
 induction n with
 |zero=>intro x hx _;cases x<;>simp at hx
 |succ n ih=>
  intro x hx h
  obtain⟨cs,rfl,hh⟩:=tV (by kernel_rfl) (ls:=[25,3,26]) (by kernel_rfl) h
  clear h;have h:=hh;clear hh
  obtain⟨a,cs,rfl,ha,h⟩:=dm h
  obtain⟨b,cs,rfl,hb,h⟩:=dm h
  obtain⟨c,cs,rfl,hc,h⟩:=dm h
  have:=m7 h;subst this
  obtain⟨o,rfl⟩:=W7 ha
  obtain⟨m,rfl⟩:=Lh hb
  obtain⟨es,rfl,h1,h2⟩:=xD undT_26 hc
  have BR:SizeOf.sizeOf es<=n:=by simp at hx;omega
  have:∀es:List D,SizeOf.sizeOf es<=n->D.Ey Tryz.prog es 28->∃l:List Tm,es=l.map Tm.d/\∀k∈l,k.fits:=by
   intro es
   induction es with
   |nil=>intro _ _;exact⟨[],rfl,fun _ h=>by cases h⟩
   |cons y es ihe=>
    intro hs h
    simp at hs
    obtain⟨t,rfl,ht⟩:=ih y (by omega) h.1
    obtain⟨l,rfl,hl⟩:=ihe (by omega) h.2
    exact⟨t::l,rfl,fun b hb=>(List.mem_cons.1 hb).elim (fun e=>e ▸ ht) (hl b)⟩
  obtain⟨l,rfl,hl⟩:=this es BR h2
  refine⟨.mk o m l,by rw[Tm.DV], ?_⟩
  rw[Tm.bD]
  exact⟨by have:=qs;simp at h1;simp only[Tm.kids];omega,hl⟩
theorem SV{x:D}(h:D.j9 Tryz.prog x 28):∃t:Tm,x=t.d/\t.fits:=Hs _ x (Nat.le_refl _) h
end Go.Proofs.YtealblliddhgiaaGreat
end
section
namespace Go.Proofs.YtealblliddhgiaaGreat
open Go.ChangeShapes Go.WideShapes Go.RowKit
set_option maxRecDepth 100000 in
theorem oi(os:Os)(started:os.Started)(H:Type)(enc:TypeId×Value->H):
 ReturnsInHanded {} Tryz.checked os 4 .any (Rows.termMatchesSpec.pre6 enc Tryz.prog Tryz.f4 Rows.termMatchesRow.domain false) (Rows.termMatchesSpec.post enc Tryz.prog Tryz.f4 Rows.termMatchesRow.apart Rows.termMatchesRow.fresh Rows.termMatchesRow.handsOn Rows.termMatchesRow.again):=by
 refine returnsInHanded_of_change (C:=Tryz.checked) (by kernel_rfl) started (by kernel_rfl) Tryz.func4
  (ChangeSpec.witness6 (enc:=enc) (C:=Tryz.checked) false ⟨#[],#[.agg #[.slice none 0 0, .slice none 0 0], .agg #[.int .i64 0, .int .i64 0, .slice none 0 0], .agg #[.int .i64 0, .int .i64 0, .slice none 0 0]],[]⟩ 8 (by kernel_rfl) (by kernel_rfl) (by kernel_rfl) (by kernel_rfl)) ?_
 intro W base args ds gs before ei hW _ _
 refine xC (T:=[24,22,103,9,3,28,26,25]) (tb:=4) (by kernel_rfl) (by kernel_rfl) rfl (fun ds h=>by match ds,h with|[_,_,_],_=>rfl) (by kernel_rfl) (by intro t ht;rw[Tryz.params4]at ht;simp at ht;rcases ht with rfl|rfl<;>simp) (by kernel_rfl) (by intro t ht;rw[Tryz.params4]at ht;simp at ht;rcases ht with rfl|rfl<;>exact⟨by kernel_rfl,of_decide_eq_true (by kernel_rfl)⟩)
  (fun xs hx=> ?_) base args ds gs before ei hW
 rw[Tryz.params4]at hx
 obtain⟨x0,xs,rfl,hx0,hx⟩:=dm hx
 obtain⟨x1,xs,rfl,hx1,hx⟩:=dm hx
 obtain⟨x2,xs,rfl,uJ,hx⟩:=dm hx
 have:=m7 hx;subst this
 obtain⟨s0,rfl,ua⟩:=SU hx0
 obtain⟨t1,rfl,xF⟩:=SV hx1
 obtain⟨t2,rfl,ht2⟩:=SV uJ
 exact uv s0 ua t1 t2 xF ht2
theorem termMatches_holds:Rows.TermMatchesSaid:=
 OpenClaim.holds_of_wide 4 Tryz.f4 rfl rfl rfl rfl rfl rfl rfl ⟨rfl,rfl,rfl,rfl,rfl⟩ rfl rfl rfl rfl rfl (by kernel_rfl) Tryz.func4 (by kernel_rfl)
  (of_decide_eq_true (by kernel_rfl)) (by unfold Func.isWrapper;first|(rw[if_pos (by decide+kernel)];kernel_rfl)|(rw[if_neg (by decide+kernel)];exact⟨rfl,rfl⟩))
  (fun os started H enc _=>oi os started H enc)
end Go.Proofs.YtealblliddhgiaaGreat
end
