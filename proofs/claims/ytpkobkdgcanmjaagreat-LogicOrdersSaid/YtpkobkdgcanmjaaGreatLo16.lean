/-
  LogicOrders: at every call the law answers true, and leaves all memory as it was. Conditions: none.
-/
import Derived.OpenShut
import Derived.Carry
import Derived.Handed
import Derived.JoinedOf
import Derived.ProofKit
import Derived.Test.YtpkobkdgcanmjaaGreatRows
import Derived.Test.YtpkobkdgcanmjaaGreatLo15
set_option linter.unusedSimpArgs false
set_option linter.unusedVariables false
namespace Go.Proofs.YtpkobkdgcanmjaaGreat
def ku:Tm:= .mk 0 0 []
theorem ja:ku.d= .agg [.i 0, .i 0, .sl []]:=by unfold ku;rw[Tm.BT];rfl
def jE(a b:Tm):Tm×Bool:=if eS a b=true then(b,true)else if eS b a=true then(a,true)else if a.op≠b.op\/a.n≠b.n\/a.kids.length≠b.kids.length then(ku,false)else
 match kq a.kids b.kids with
 |some l=>(.mk a.op a.n l,decide (0<(l.length:Int)))
 |none=>(ku,false)
theorem DC(a b:Tm):A5 a b=if(jE a b).2=true then some (jE a b).1 else none:=by
 rw[AF];unfold jE
 by_cases h1:eS a b=true
 ·simp[h1]
 rw[if_neg h1,if_neg h1]
 by_cases h2:eS b a=true
 ·simp[h2]
 rw[if_neg h2,if_neg h2]
 by_cases h3:a.op≠b.op\/a.n≠b.n\/a.kids.length≠b.kids.length
 ·rw[if_pos h3,if_pos h3];rfl
 rw[if_neg h3,if_neg h3]
 cases kq a.kids b.kids with
 |none=>rfl
 |some l=>cases l<;>simp
theorem xf{a b:Tm}(h:A5 a b=none):(jE a b).2=false:=by
 rw[DC]at h
 cases e:(jE a b).2 with
 |false=>rfl
 |true=>rw[e]at h;cases h
theorem xg{a b z:Tm}(h:A5 a b=some z):jE a b=(z,true):=by
 rw[DC]at h
 cases e:(jE a b).2 with
 |false=>rw[e]at h;cases h
 |true=>
  rw[e]at h
  injection h with h
  rw[<- h, <- e]
theorem Co{s:bJ}:∀a:Tm,a.fits->Pn s a->a.sz<=1000000->∀b:Tm,b.fits->Pn s b->b.sz<=1000000->bU Tryz.prog 43 [a.d,b.d] (.ret [(jE a b).1.d, .bool (jE a b).2]):=by
 refine Tm.iy fun a ih ha pa za b hb pb zb=> ?_
 have A7:=(Tm.cK _).1 ha
 have xn:=(Tm.cK _).1 hb
 refine bU.bD mix IE (by simp) ?_
 rw[Pt]
 simp+contextual (disch:=first|omega|simp only[go_sem,false_implies]) only[go_sem,wrap64,if_pos,and_self]
 refine ah (pG a ha pa b hb pb) rfl ?_
 cases h1:eS a b with
 |true=>
  have e:jE a b=(b,true):=by unfold jE;rw[if_pos h1]
  rw[e]
  simp+contextual (disch:=first|omega|simp only[go_sem,false_implies]) only[go_sem,wrap64,if_pos,and_self]
  refine bH (uy [b] (by simp) (by simpa using zb)) ?_
  simp+contextual (disch:=first|omega|simp only[go_sem,false_implies]) only[go_sem,wrap64,if_pos,and_self]
 |false=>
 simp+contextual (disch:=first|omega|simp only[go_sem,false_implies]) only[go_sem,wrap64,if_pos,and_self]
 refine ah (pG b hb pb a ha pa) rfl ?_
 have n1: ¬eS a b=true:=by rw[h1];simp
 cases h2:eS b a with
 |true=>
  have e:jE a b=(a,true):=by unfold jE;rw[if_neg n1,if_pos h2]
  rw[e]
  simp+contextual (disch:=first|omega|simp only[go_sem,false_implies]) only[go_sem,wrap64,if_pos,and_self]
  refine bH (uy [a] (by simp) (by simpa using za)) ?_
  simp+contextual (disch:=first|omega|simp only[go_sem,false_implies]) only[go_sem,wrap64,if_pos,and_self]
 |false=>
 have n2: ¬eS b a=true:=by rw[h2];simp
 by_cases h3:a.op≠b.op\/a.n≠b.n\/a.kids.length≠b.kids.length
 ·have e:jE a b=(ku,false):=by unfold jE;rw[if_neg n1,if_neg n2,if_pos h3]
  have G4:(a.op !=b.op||a.n !=b.n||(a.kids.length:Int)!=(b.kids.length:Int))=true:=by
   rcases h3 with h|h|h
   ·simp[h]
   ·simp[h]
   ·have:((a.kids.length:Int)!=(b.kids.length:Int))=true:=by simp;omega
    simp[this]
  rw[e,ja]
  simp+contextual (disch:=first|omega|simp only[go_sem,false_implies]) only[go_sem,wrap64,if_pos,G4,List.length_map]
 have e1:a.op=b.op:=Classical.byContradiction fun e=>h3 (.inl e)
 have e2:a.n=b.n:=Classical.byContradiction fun e=>h3 (.inr (.inl e))
 have e3:a.kids.length=b.kids.length:=Classical.byContradiction fun e=>h3 (.inr (.inr e))
 have G4:(a.op !=b.op||a.n !=b.n||(a.kids.length:Int)!=(b.kids.length:Int))=false:=by simp[e1,e2,e3]
 simp+contextual (disch:=first|omega|simp only[go_sem,false_implies]) only[go_sem,wrap64,if_pos,G4,List.length_map]
 have hn:=sn a.kids
 have TZ:uo a.kids<=1000000:=by rw[Tm.qL]at za;omega
 have T0:uo b.kids<=1000000:=by rw[Tm.qL]at zb;omega
 have hg:Good (jO a b 36 .aM) 42:=(by repeat(first|exact hg.mono (by omega)|exact Good.nil|refine Good.aV ?_ (by omega) rfl|refine Good.aV ?_ (by omega) (w6 _ _ _ (by omega))|refine Good.aV ?_ (by omega) (by simp[aa.refs,V.ax,V.refs]<;>omega)))
 refine cq (fun i:Nat×List Tm=>⟨bI [.aw, .aw, .ptr 0 0, .ptr 1 0, .ptr 2 0, .aw, .ptr 36 0, .aw, .aw, .aw, .aw, .aw, .aw, .aw, .aw, .aw, .aw, .aw, .aw, .aw, .aw, .aw, .aw, .aw, .aw, .aw, .aw, .aw, .aw, .aw, .aw, .aw, .aw, .aw, .aw, .aw, .aw, .aw, .aw, .aw, .aw, .aw, .aw, .aw, .aw, .aw, .aw, .aw, .aw, .aw, .aw, .aw, .aw, .aw, .aw, .d (.sl (a.kids.map Tm.d)), .d (.i a.kids.length), .d (.i i.1)],aV (jO a b 36 (.osl 42 0)) 42 (.arr 0 28 3 (i.2.map Tm.d)),43⟩)
  (fun i=>i.1<=a.kids.length/\i.2.length=i.1/\kq a.kids b.kids=(kq (a.kids.drop i.1) (b.kids.drop i.1)).map fun m=>i.2++m) (fun i=>a.kids.length - i.1) (0,[]) ⟨Nat.zero_le _,rfl,by simp⟩ (dq.Mr (ty:=28) (sz:=3) (es:=[]) (fun _=>False) .aM 42 _ (by omega) (fun j hj=> ?_) (by rw[aI];rfl) (.inl ⟨rfl,rfl,by decide⟩) (fun j hj=> ?_) (fun _ h=>h.elim) ?_) ?_
 ·by_cases e1:j=36
  ·subst e1
   exact ml (y:= .row [.d (.i a.op), .d (.i a.n), .aM]) (by(repeat(first|rfl|rw[aI]|rw[aH _ _ _ _ (by omega)]))) (by unfold jO;(repeat(first|rfl|rw[aI]|rw[aH _ _ _ _ (by omega)]))) (ug rfl (sc (sc (Ar 0 rfl rfl rfl uf))))
  ·exact ml (y:=jO a b 36 .aM j) (by unfold jO;rw[sd]) ((aH _ _ _ _ (by omega)).trans (AR e1)) (qJ rfl (fun r hr=>hg.refs j r hr))
 ·unfold jO;(repeat(first|rfl|rw[aI]|rw[aH _ _ _ _ (by omega)]))
 ·(repeat(first|exact pw|refine mU ?_|refine mV rfl ?_|refine mV (cJ (cI (by omega))) ?_|refine vN 0 rfl rfl rfl ?_|refine vM rfl (by simp[V.refs,V.ax]<;>first|omega|assumption) ?_|refine vO rfl (by simp[V.ids]<;>omega) ?_))
 rintro⟨k,done⟩ ⟨hk,hd,A8⟩
 simp only at hk hd A8
 simp+contextual (disch:=first|omega|simp only[go_sem,false_implies]) only[go_sem,wrap64,if_pos,List.length_map]
 refine aJ (fun h5=> ?_) (fun h5=> ?_)
 ·simp at h5
  obtain⟨x,hx⟩:=bY h5
  obtain⟨y,hy⟩:=bY (l:=b.kids) (k:=k) (by omega)
  have py:=List.mem_of_getElem? hx
  have Mv:=List.mem_of_getElem? hy
  have TD:kq (a.kids.drop k) (b.kids.drop k)=match A5 x y with
   |some z=>(kq (a.kids.drop (k+1)) (b.kids.drop (k+1))).map fun m=>z::m
   |none=>none:=by
   obtain⟨g1,g2⟩:=List.getElem?_eq_some_iff.1 hx
   obtain⟨g3,g4⟩:=List.getElem?_eq_some_iff.1 hy
   rw[List.drop_eq_getElem_cons g1,List.drop_eq_getElem_cons g3,g2,g4,kq]
   cases A5 x y<;>rfl
  rw[TD]at A8
  simp+contextual (disch:=first|omega|simp only[go_sem,false_implies]) only[go_sem,wrap64,if_pos,hx,hy]
  refine vz (ih x py (A7.2 x py) (pa.sj py) (by have:=sm py;omega) y (xn.2 y Mv) (pb.sj Mv) (by have:=sm Mv;omega)) ?_
  simp+contextual (disch:=first|omega|simp only[go_sem,false_implies]) only[go_sem,wrap64,if_pos,hx,hy]
  refine cS (by decide) ?_
  cases hz:A5 x y with
  |none=>
   have ez:=xf hz
   rw[hz]at A8
   simp only[Option.map_none]at A8
   have e:jE a b=(ku,false):=by unfold jE;rw[if_neg n1,if_neg n2,if_neg h3,A8]
   rw[ez,e,ja]
   simp+contextual (disch:=first|omega|simp only[go_sem,false_implies]) only[go_sem,wrap64,if_pos,and_self]
  |some z=>
   have ez:=xg hz
   rw[hz]at A8
   rw[ez]
   simp+contextual (disch:=first|omega|simp only[go_sem,false_implies]) only[go_sem,wrap64,if_pos,hd]
   refine bg (k+1,done++[z]) ⟨h5,by simp[hd], ?_⟩ (by dsimp only;omega) (dq.Mr (fun j=>j=42) (.osl 42 1) 42 _ (by omega) (fun j hj=> ?_) (aI _ _ _) (.inr ⟨42,1,rfl,rfl, ?_⟩) (fun j hj=> ?_) (fun j h h2=>by omega) ?_)
   ·rw[A8]
    cases kq (a.kids.drop (k+1)) (b.kids.drop (k+1))<;>simp
   ·by_cases e1:j=36
    ·subst e1
     exact ml (y:= .row [.d (.i a.op), .d (.i a.n), .osl 42 1]) (by(repeat(first|rfl|rw[aI]|rw[aH _ _ _ _ (by omega)]))) (by unfold jO;(repeat(first|rfl|rw[aI]|rw[aH _ _ _ _ (by omega)]))) (ug rfl (sc (sc (Ar 0 rfl rfl rfl uf))))
    ·exact ml (y:=jO a b 36 .aM j) (by rw[aH _ _ _ _ e1,aH _ _ _ _ (by omega),aH _ _ _ _ (by omega),aH _ _ _ _ (by omega),aH _ _ _ _ (by omega),aH _ _ _ _ (by omega),aH _ _ _ _ (by omega),aH _ _ _ _ (by omega)];exact AR e1) ((aH _ _ _ _ (by omega)).trans (AR e1)) (qJ rfl (fun r hr=>hg.refs j r hr))
   ·(repeat(first|rfl|rw[aI]|rw[aH _ _ _ _ (by omega)]))
    simp
   ·unfold jO;(repeat(first|rfl|rw[aI]|rw[aH _ _ _ _ (by omega)]))
   ·(repeat(first|exact pw|refine mU ?_|refine mV rfl ?_|refine mV (cJ (cI (by omega))) ?_|refine vN 0 rfl rfl rfl ?_|refine vM rfl (by simp[V.refs,V.ax]<;>first|omega|assumption) ?_|refine vO rfl (by simp[V.ids]<;>omega) ?_))
 ·simp at h5
  have Fz:k=a.kids.length:=by omega
  subst Fz
  rw[List.drop_eq_nil_of_le (Nat.le_refl _)]at A8
  simp only[kq,Option.map_some,List.append_nil]at A8
  have e:jE a b=(.mk a.op a.n done,decide (0<(done.length:Int))):=by unfold jE;rw[if_neg n1,if_neg n2,if_neg h3,A8]
  rw[e]
  simp+contextual (disch:=first|omega|simp only[go_sem,false_implies]) only[go_sem,wrap64,if_pos,and_self]
  refine cS (by decide) ?_
  simp+contextual (disch:=first|omega|simp only[go_sem,false_implies]) only[go_sem,wrap64,if_pos,and_self]
  rw[Tm.BT]
theorem pH:∀a b j:Tm,a.fits->b.fits->jh a b=some j->j.fits:=by
 refine Tm.iy fun a ih b j ha hb h=> ?_
 have A7:=(Tm.cK _).1 ha
 have xn:=(Tm.cK _).1 hb
 rw[j6]at h
 by_cases h1:a.op=16
 ·rw[if_pos h1]at h;injection h with h;subst h;exact hb
 rw[if_neg h1]at h
 by_cases h2:b.op=16
 ·rw[if_pos h2]at h;injection h with h;subst h;exact ha
 rw[if_neg h2]at h
 by_cases h3:a.op≠b.op\/a.n≠b.n\/a.kids.length≠b.kids.length
 ·rw[if_pos h3]at h;cases h
 rw[if_neg h3]at h
 have e3:a.kids.length=b.kids.length:=Classical.byContradiction fun e=>h3 (.inr (.inr e))
 cases hr:bZ a.kids b.kids with
 |none=>rw[hr]at h;cases h
 |some l=>
  rw[hr]at h
  injection h with h
  subst h
  have hlen:=pE _ _ _ e3 hr
  have key:∀l m j:List Tm,(∀k∈l,k∈a.kids)->(∀k∈m,k.fits)->bZ l m=some j->∀k∈j,k.fits:=by
   intro l
   induction l with
   |nil=>intro m j _ _ hj k hk;simp only[bZ]at hj;injection hj with hj;subst hj;cases hk
   |cons x l px=>
    intro m j h hm hj k hk
    cases m with
    |nil=>simp only[bZ]at hj;injection hj with hj;subst hj;cases hk
    |cons y m=>
     rw[bZ]at hj
     cases e:jh x y with
     |none=>rw[e]at hj;cases hj
     |some z=>
      rw[e]at hj
      cases e5:bZ l m with
      |none=>rw[e5]at hj;cases hj
      |some w=>
       rw[e5]at hj
       injection hj with hj
       subst hj
       rcases List.mem_cons.1 hk with rfl|hk
       ·exact ih x (h x (by simp)) y _ (A7.2 x (h x (by simp))) (hm y (by simp)) e
       ·exact px m w (fun q hq=>h q (by simp[hq])) (fun q hq=>hm q (by simp[hq])) e5 k hk
  exact(Tm.cK _).2 ⟨by simp[Tm.kids];omega,fun k hk=>key _ _ _ (fun _ h=>h) xn.2 hr k hk⟩
def dR(s:bJ)(a b:Tm):Tm×Int:=if cT s [a,b]=true then(match jh a b with
 |some j=>if nL s j=true then(j,0)else(ku,3)
 |none=>(ku,5))else(ku,2)
theorem Fs{s:bJ}{a b:Tm}(h:cT s [a,b]=true):(Pn s a/\a.sz<=80)/\Pn s b/\b.sz<=80:=by
 simp[cT,nL,jQ]at h
 have h1:Pn s a:=h.2.1.2
 have h2:Pn s b:=h.2.2.2
 exact⟨⟨h1,by omega⟩,h2,by omega⟩
theorem nX(s:bJ)(hs:s.Fits)(a b:Tm)(ha:a.fits)(hb:b.fits):bU Tryz.prog 11 [s.d,a.d,b.d] (.ret [(dR s a b).1.d, .i (dR s a b).2]):=by
 refine bU.bD mix Iw (by simp) ?_
 rw[OT]
 simp+contextual (disch:=first|omega|simp only[go_sem,false_implies]) only[go_sem,wrap64,if_pos,and_self]
 refine ah (qQ s hs [a,b] (by simp) (fun x hx=>by simp at hx;rcases hx with rfl|rfl<;>assumption)) rfl ?_
 cases h1:cT s [a,b]with
 |false=>
  have e:dR s a b=(ku,2):=by simp[dR,h1]
  rw[e,ja]
  simp+contextual (disch:=first|omega|simp only[go_sem,false_implies]) only[go_sem,wrap64,if_pos,and_self]
 |true=>
  obtain⟨⟨pa,za⟩,pb,zb⟩:=Fs h1
  have Nr:=Cj a b pa pb
  simp+contextual (disch:=first|omega|simp only[go_sem,false_implies]) only[go_sem,wrap64,if_pos,and_self]
  refine bH (Co a ha pa (by omega) b hb pb (by omega)) ?_
  cases hr:jh a b with
  |none=>
   have e:dR s a b=(ku,5):=by simp[dR,h1,hr]
   rw[hr]at Nr
   rw[xf Nr,e,ja]
   simp+contextual (disch:=first|omega|simp only[go_sem,false_implies]) only[go_sem,wrap64,if_pos,and_self]
  |some j=>
   rw[hr]at Nr
   rw[xg Nr]
   simp+contextual (disch:=first|omega|simp only[go_sem,false_implies]) only[go_sem,wrap64,if_pos,and_self]
   refine ah (xe s hs j (pH a b j ha hb hr)) rfl ?_
   cases hv:nL s j with
   |false=>
    have e:dR s a b=(ku,3):=by simp[dR,h1,hr,hv]
    rw[e,ja]
    simp+contextual (disch:=first|omega|simp only[go_sem,false_implies]) only[go_sem,wrap64,if_pos,and_self]
   |true=>
    have e:dR s a b=(j,0):=by simp[dR,h1,hr,hv]
    rw[e]
    simp+contextual (disch:=first|omega|simp only[go_sem,false_implies]) only[go_sem,wrap64,if_pos,and_self]
end Go.Proofs.YtpkobkdgcanmjaaGreat
namespace Go.Proofs.YtpkobkdgcanmjaaGreat
theorem uz{s:bJ}{t:Tm}(h:nL s t=true):j7 t=true:=by
 simp only[nL,Bool.and_eq_true,decide_eq_true_eq,jQ]at h
 simp only[j7,decide_eq_true_eq,jQ]
 omega
end Go.Proofs.YtpkobkdgcanmjaaGreat
namespace Go.Proofs.YtpkobkdgcanmjaaGreat
theorem AS{s:bJ}{t:Tm}(h:nL s t=true):Pn s t/\t.sz<=80:=by
 simp only[nL,Bool.and_eq_true,decide_eq_true_eq,jQ]at h
 exact⟨h.2,by omega⟩
set_option maxHeartbeats 2000000 in
set_option maxRecDepth 10000 in
theorem pZ(xh:bU Tryz.prog 8 [] (.ret [.bool true]))(s:bJ)(hs:s.Fits)(a b c:Tm)(ha:a.fits)(hb:b.fits)(hc:c.fits):bU Tryz.prog 4 [s.d,a.d,b.d,c.d] (.ret [.bool true]):=by
 refine bU.bD mix Q9 (by simp) ?_
 rw[c4]
 simp+contextual (disch:=first|omega|simp only[go_sem,false_implies]) only[go_sem,wrap64,if_pos,and_self]
 refine ah (vQ s hs) rfl ?_
 cases h1:iz s with
 |false=>
  simp+contextual (disch:=first|omega|simp only[go_sem,false_implies]) only[go_sem,wrap64,if_pos,and_self]
  refine ah xh rfl ?_
  simp+contextual (disch:=first|omega|simp only[go_sem,false_implies]) only[go_sem,wrap64,if_pos,and_self]
 |true=>
 simp+contextual (disch:=first|omega|simp only[go_sem,false_implies]) only[go_sem,wrap64,if_pos,and_self]
 refine ah (Mu s hs) rfl ?_
 cases h2:mR s with
 |false=>
  simp+contextual (disch:=first|omega|simp only[go_sem,false_implies]) only[go_sem,wrap64,if_pos,and_self]
  refine ah xh rfl ?_
  simp+contextual (disch:=first|omega|simp only[go_sem,false_implies]) only[go_sem,wrap64,if_pos,and_self]
 |true=>
 simp+contextual (disch:=first|omega|simp only[go_sem,false_implies]) only[go_sem,wrap64,if_pos,and_self]
 refine ah (jS a ha) rfl ?_
 cases h3:j7 a with
 |false=>
  simp+contextual (disch:=first|omega|simp only[go_sem,false_implies]) only[go_sem,wrap64,if_pos,and_self]
  refine ah xh rfl ?_
  simp+contextual (disch:=first|omega|simp only[go_sem,false_implies]) only[go_sem,wrap64,if_pos,and_self]
 |true=>
 simp+contextual (disch:=first|omega|simp only[go_sem,false_implies]) only[go_sem,wrap64,if_pos,and_self]
 refine ah (jS b hb) rfl ?_
 cases h4:j7 b with
 |false=>
  simp+contextual (disch:=first|omega|simp only[go_sem,false_implies]) only[go_sem,wrap64,if_pos,and_self]
  refine ah xh rfl ?_
  simp+contextual (disch:=first|omega|simp only[go_sem,false_implies]) only[go_sem,wrap64,if_pos,and_self]
 |true=>
 simp+contextual (disch:=first|omega|simp only[go_sem,false_implies]) only[go_sem,wrap64,if_pos,and_self]
 refine ah (jS c hc) rfl ?_
 cases h5:j7 c with
 |false=>
  simp+contextual (disch:=first|omega|simp only[go_sem,false_implies]) only[go_sem,wrap64,if_pos,and_self]
  refine ah xh rfl ?_
  simp+contextual (disch:=first|omega|simp only[go_sem,false_implies]) only[go_sem,wrap64,if_pos,and_self]
 |true=>
 simp+contextual (disch:=first|omega|simp only[go_sem,false_implies]) only[go_sem,wrap64,if_pos,and_self]
 refine ah (pF s hs a ha) rfl ?_
 cases va:nL s a with
 |false=>
  simp+contextual (disch:=first|omega|simp only[go_sem,false_implies]) only[go_sem,wrap64,if_pos,and_self]
  refine ah xh rfl ?_
  simp+contextual (disch:=first|omega|simp only[go_sem,false_implies]) only[go_sem,wrap64,if_pos,and_self]
 |true=>
 simp+contextual (disch:=first|omega|simp only[go_sem,false_implies]) only[go_sem,wrap64,if_pos,and_self]
 refine ah (pF s hs b hb) rfl ?_
 cases vb:nL s b with
 |false=>
  simp+contextual (disch:=first|omega|simp only[go_sem,false_implies]) only[go_sem,wrap64,if_pos,and_self]
  refine ah xh rfl ?_
  simp+contextual (disch:=first|omega|simp only[go_sem,false_implies]) only[go_sem,wrap64,if_pos,and_self]
 |true=>
 simp+contextual (disch:=first|omega|simp only[go_sem,false_implies]) only[go_sem,wrap64,if_pos,and_self]
 refine ah (pF s hs c hc) rfl ?_
 cases vc:nL s c with
 |false=>
  simp+contextual (disch:=first|omega|simp only[go_sem,false_implies]) only[go_sem,wrap64,if_pos,and_self]
  refine ah xh rfl ?_
  simp+contextual (disch:=first|omega|simp only[go_sem,false_implies]) only[go_sem,wrap64,if_pos,and_self]
 |true=>
 have lv:∀x y:Tm,nL s x=true->nL s y=true->cT s [x,y]=true:=fun x y hx hy=>by simp[cT,h2,hx,hy]
 have be:∀x y:Tm,x.fits->y.fits->nL s x=true->nL s y=true->bU Tryz.prog 10 [s.d,x.d,y.d] (.ret [.bool (eS x y), .i 0]):=fun x y fx fy hx hy=>by
  have h:=Cn s hs x y fx fy
  rw[lv x y hx hy,Bool.true_and]at h
  exact h
 obtain⟨pa,za⟩:=AS va
 obtain⟨pb,zb⟩:=AS vb
 obtain⟨pc,zc⟩:=AS vc
 simp+contextual (disch:=first|omega|simp only[go_sem,false_implies]) only[go_sem,wrap64,if_pos,and_self]
 refine ah (be a b ha hb va vb) rfl ?_
 simp+contextual (disch:=first|omega|simp only[go_sem,false_implies]) only[go_sem,wrap64,if_pos,and_self]
 refine ah (be b a hb ha vb va) rfl ?_
 simp+contextual (disch:=first|omega|simp only[go_sem,false_implies]) only[go_sem,wrap64,if_pos,and_self]
 refine ah (be b c hb hc vb vc) rfl ?_
 simp+contextual (disch:=first|omega|simp only[go_sem,false_implies]) only[go_sem,wrap64,if_pos,and_self]
 refine ah (be a c ha hc va vc) rfl ?_
 rcases Qx:eS a b with _|_
 ·simp+contextual (disch:=first|omega|simp only[go_sem,false_implies]) only[go_sem,wrap64,if_pos,and_self]
  skip
  cases hr:jh a b with
  |none=>
   have hN:(eS a c&&eS b c)=false:=by
    rw[Bool.eq_false_iff];intro h
    rw[Bool.and_eq_true]at h
    exact uq a b pa pb hr c h.1 h.2
   have e:dR s a b=(ku,5):=by simp[dR,lv a b va vb,hr]
   have hj:=nX s hs a b ha hb
   rw[e,ja]at hj
   refine bH hj ?_
   simp+contextual (disch:=first|omega|simp only[go_sem,false_implies]) only[go_sem,wrap64,if_pos,hN]
   refine ah xh rfl ?_
   simp+contextual (disch:=first|omega|simp only[go_sem,false_implies]) only[go_sem,wrap64,if_pos,and_self]
  |some j=>
   have AU:=pH a b j ha hb hr
   obtain⟨u1,u2,u3,u4⟩:=AG a b j pa pb hr
   have u5:(eS j c==(eS a c&&eS b c))=true:=by
    rw[beq_iff_eq,Bool.eq_iff_iff,Bool.and_eq_true]
    exact⟨fun h=>⟨jR a j c u2 h,jR b j c u3 h⟩,fun h=>u4 c h.1 h.2⟩
   have hj:=nX s hs a b ha hb
   cases hv:nL s j with
   |false=>
    have e:dR s a b=(ku,3):=by simp[dR,lv a b va vb,hr,hv]
    rw[e,ja]at hj
    refine bH hj ?_
    simp+contextual (disch:=first|omega|simp only[go_sem,false_implies]) only[go_sem,wrap64,if_pos,and_self]
    refine ah xh rfl ?_
    simp+contextual (disch:=first|omega|simp only[go_sem,false_implies]) only[go_sem,wrap64,if_pos,and_self]
   |true=>
    have e:dR s a b=(j,0):=by simp[dR,lv a b va vb,hr,hv]
    rw[e]at hj
    refine bH hj ?_
    simp+contextual (disch:=first|omega|simp only[go_sem,false_implies]) only[go_sem,wrap64,if_pos,and_self]
    refine ah (jS j AU) rfl ?_
    simp+contextual (disch:=first|omega|simp only[go_sem,false_implies]) only[go_sem,wrap64,if_pos,uz hv]
    refine ah (pF s hs j AU) rfl ?_
    simp+contextual (disch:=first|omega|simp only[go_sem,false_implies]) only[go_sem,wrap64,if_pos,hv]
    refine ah (be a j ha AU va hv) rfl ?_
    simp+contextual (disch:=first|omega|simp only[go_sem,false_implies]) only[go_sem,wrap64,if_pos,u2]
    refine ah (be b j hb AU vb hv) rfl ?_
    simp+contextual (disch:=first|omega|simp only[go_sem,false_implies]) only[go_sem,wrap64,if_pos,u3]
    refine ah (be j c AU hc hv vc) rfl ?_
    simp+contextual (disch:=first|omega|simp only[go_sem,false_implies]) only[go_sem,wrap64,if_pos,u5]
    refine ah xh rfl ?_
    simp+contextual (disch:=first|omega|simp only[go_sem,false_implies]) only[go_sem,wrap64,if_pos,and_self]
 ·have hS:ma a b=eS b a:=by
   rw[Bool.eq_iff_iff,yA]
   exact⟨fun e=>by subst e;exact Qx,fun h=>Ci a b pa pb Qx h⟩
  have hx:(eS b a !=eS b a)=false:=by cases eS b a<;>rfl
  have hT:(eS b c&& !eS a c)=false:=by
   cases h7:eS b c with
   |false=>rfl
   |true=>rw[jR a b c Qx h7];rfl
  simp+contextual (disch:=first|omega|simp only[go_sem,false_implies]) only[go_sem,wrap64,if_pos,and_self]
  refine ah (Fj a ha b hb) rfl ?_
  rw[hS]
  simp+contextual (disch:=first|omega|simp only[go_sem,false_implies]) only[go_sem,wrap64,if_pos,hx,hT]
  cases hr:jh a b with
  |none=>
   have hN:(eS a c&&eS b c)=false:=by
    rw[Bool.eq_false_iff];intro h
    rw[Bool.and_eq_true]at h
    exact uq a b pa pb hr c h.1 h.2
   have e:dR s a b=(ku,5):=by simp[dR,lv a b va vb,hr]
   have hj:=nX s hs a b ha hb
   rw[e,ja]at hj
   refine bH hj ?_
   simp+contextual (disch:=first|omega|simp only[go_sem,false_implies]) only[go_sem,wrap64,if_pos,hN]
   refine ah xh rfl ?_
   simp+contextual (disch:=first|omega|simp only[go_sem,false_implies]) only[go_sem,wrap64,if_pos,and_self]
  |some j=>
   have AU:=pH a b j ha hb hr
   obtain⟨u1,u2,u3,u4⟩:=AG a b j pa pb hr
   have u5:(eS j c==(eS a c&&eS b c))=true:=by
    rw[beq_iff_eq,Bool.eq_iff_iff,Bool.and_eq_true]
    exact⟨fun h=>⟨jR a j c u2 h,jR b j c u3 h⟩,fun h=>u4 c h.1 h.2⟩
   have hj:=nX s hs a b ha hb
   cases hv:nL s j with
   |false=>
    have e:dR s a b=(ku,3):=by simp[dR,lv a b va vb,hr,hv]
    rw[e,ja]at hj
    refine bH hj ?_
    simp+contextual (disch:=first|omega|simp only[go_sem,false_implies]) only[go_sem,wrap64,if_pos,and_self]
    refine ah xh rfl ?_
    simp+contextual (disch:=first|omega|simp only[go_sem,false_implies]) only[go_sem,wrap64,if_pos,and_self]
   |true=>
    have e:dR s a b=(j,0):=by simp[dR,lv a b va vb,hr,hv]
    rw[e]at hj
    refine bH hj ?_
    simp+contextual (disch:=first|omega|simp only[go_sem,false_implies]) only[go_sem,wrap64,if_pos,and_self]
    refine ah (jS j AU) rfl ?_
    simp+contextual (disch:=first|omega|simp only[go_sem,false_implies]) only[go_sem,wrap64,if_pos,uz hv]
    refine ah (pF s hs j AU) rfl ?_
    simp+contextual (disch:=first|omega|simp only[go_sem,false_implies]) only[go_sem,wrap64,if_pos,hv]
    refine ah (be a j ha AU va hv) rfl ?_
    simp+contextual (disch:=first|omega|simp only[go_sem,false_implies]) only[go_sem,wrap64,if_pos,u2]
    refine ah (be b j hb AU vb hv) rfl ?_
    simp+contextual (disch:=first|omega|simp only[go_sem,false_implies]) only[go_sem,wrap64,if_pos,u3]
    refine ah (be j c AU hc hv vc) rfl ?_
    simp+contextual (disch:=first|omega|simp only[go_sem,false_implies]) only[go_sem,wrap64,if_pos,u5]
    refine ah xh rfl ?_
    simp+contextual (disch:=first|omega|simp only[go_sem,false_implies]) only[go_sem,wrap64,if_pos,and_self]
end Go.Proofs.YtpkobkdgcanmjaaGreat
section
namespace Go.Proofs.YtpkobkdgcanmjaaGreat
open Go
def Ft:Nat->Bool:=fun g=> !([143,142,178,179,168,190,191,64,83,84,103,68,113,99,114,144,145,146,147,148,149,151,152,181,184,185,193,77,70,81]:List Nat).contains g
def xP:D:= .agg [.sl [.agg [.str [70,97,108,115,101], .i 0], .agg [.str [84,114,117,101], .i 0], .agg [.str [90], .i 0], .agg [.str [83], .i 1], .agg [.str [78,105,108], .i 0], .agg [.str [67,111,110,115], .i 2]], .sl [.agg [.str [97,100,100], .i 2], .agg [.str [111,114], .i 2], .agg [.str [99,111,105,110], .i 0], .agg [.str [108,101,110], .i 1]], .sl [.agg [.i 0, .sl [.agg [.i 3, .i 2, .sl []], .agg [.i 1, .i 0, .sl []]], .i 1, .i 0, .sl [], .i 1], .agg [.i 0, .sl [.agg [.i 3, .i 3, .sl [.agg [.i 1, .i 0, .sl []]]], .agg [.i 1, .i 1, .sl []]], .i 3, .i 3, .sl [.agg [.i 4, .i 0, .sl [.agg [.i 1, .i 0, .sl []], .agg [.i 1, .i 1, .sl []]]]], .i 2], .agg [.i 1, .sl [.agg [.i 3, .i 1, .sl []], .agg [.i 1, .i 0, .sl []]], .i 3, .i 1, .sl [], .i 1], .agg [.i 1, .sl [.agg [.i 1, .i 0, .sl []], .agg [.i 3, .i 1, .sl []]], .i 3, .i 1, .sl [], .i 1], .agg [.i 1, .sl [.agg [.i 3, .i 0, .sl []], .agg [.i 3, .i 0, .sl []]], .i 3, .i 0, .sl [], .i 0], .agg [.i 2, .sl [], .i 3, .i 2, .sl [], .i 0], .agg [.i 2, .sl [], .i 3, .i 3, .sl [.agg [.i 3, .i 2, .sl []]], .i 0], .agg [.i 3, .sl [.agg [.i 3, .i 5, .sl [.agg [.i 1, .i 0, .sl []], .agg [.i 1, .i 1, .sl []]]]], .i 3, .i 3, .sl [.agg [.i 4, .i 3, .sl [.agg [.i 1, .i 1, .sl []]]]], .i 2], .agg [.i 3, .sl [.agg [.i 1, .i 0, .sl []]], .i 4, .i 0, .sl [.agg [.i 1, .i 1, .sl []], .agg [.i 1, .i 1, .sl []]], .i 2]]]
def Gy:D:= .agg [.i 6, .i 3, .i 3, .sl [.agg [.i 1, .i 7, .sl []]], .i 1, .sl [.agg [.i 3, .i 2, .sl []], .agg [.i 1, .i 7, .sl []]], .sl [.agg [.i 4, .i 3, .i 3, .sl [.agg [.i 3, .i 2, .sl []]], .i 0, .sl [], .sl [.agg [.i 4, .i 3, .i 2, .sl [], .i 0, .sl [], .sl []]]], .agg [.i 2, .i 1, .i 7, .sl [], .i 0, .sl [], .sl []], .agg [.i 4, .i 3, .i 3, .sl [.agg [.i 1, .i 7, .sl []]], .i 0, .sl [], .sl [.agg [.i 6, .i 1, .i 7, .sl [], .i 0, .sl [.agg [.i 1, .i 7, .sl []]], .sl [.agg [.i 2, .i 3, .i 2, .sl [], .i 0, .sl [], .sl []], .agg [.i 2, .i 1, .i 7, .sl [], .i 0, .sl [], .sl []], .agg [.i 2, .i 1, .i 7, .sl [], .i 0, .sl [], .sl []]]]]]]]
def Qy:D:= .agg [.i 4, .i 0, .sl [.agg [.i 3, .i 3, .sl [.agg [.i 3, .i 2, .sl []]]], .agg [.i 1, .i 0, .sl []]]]
def Gz:D:= .agg [.i 4, .i 0, .sl [.agg [.i 4, .i 2, .sl []], .agg [.i 4, .i 2, .sl []]]]
def Qz:D:= .agg [.i 6, .i 3, .i 3, .sl [.agg [.i 3, .i 2, .sl []]], .i 0, .sl [.agg [.i 3, .i 3, .sl [.agg [.i 3, .i 2, .sl []]]]], .sl [.agg [.i 6, .i 3, .i 2, .sl [], .i 5, .sl [], .sl [.agg [.i 4, .i 3, .i 2, .sl [], .i 0, .sl [], .sl []]]], .agg [.i 6, .i 3, .i 3, .sl [.agg [.i 3, .i 2, .sl []]], .i 6, .sl [], .sl [.agg [.i 4, .i 3, .i 3, .sl [.agg [.i 3, .i 2, .sl []]], .i 0, .sl [], .sl [.agg [.i 4, .i 3, .i 2, .sl [], .i 0, .sl [], .sl []]]]]], .agg [.i 2, .i 3, .i 3, .sl [.agg [.i 3, .i 2, .sl []]], .i 0, .sl [], .sl []]]]
def QA:D:= .agg [.i 6, .i 3, .i 3, .sl [.agg [.i 3, .i 2, .sl []]], .i 0, .sl [.agg [.i 3, .i 3, .sl [.agg [.i 3, .i 2, .sl []]]]], .sl [.agg [.i 6, .i 3, .i 2, .sl [], .i 5, .sl [], .sl [.agg [.i 4, .i 3, .i 2, .sl [], .i 0, .sl [], .sl []]]], .agg [.i 6, .i 3, .i 2, .sl [], .i 5, .sl [], .sl [.agg [.i 4, .i 3, .i 2, .sl [], .i 0, .sl [], .sl []]]], .agg [.i 2, .i 3, .i 3, .sl [.agg [.i 3, .i 2, .sl []]], .i 0, .sl [], .sl []]]]
def QB:D:= .sl [.agg [.i 1, .i 7, .sl []]]
def ME:mb Tryz.prog:=mb.of Ft [] (fun _ h=>by cases h)
theorem Fu:r8 Tryz.prog bu ME 5000 20 []=some (.ret [xP]):=by kernel_rfl
theorem QC:bU Tryz.prog 20 [] (.ret [xP]):=bU.kW mix kX Fu
theorem Fv:r8 Tryz.prog bu ME 5000 57 [xP]=some (.ret [.i 0]):=by kernel_rfl
theorem MF:bU Tryz.prog 57 [xP] (.ret [.i 0]):=bU.kW mix kX Fv
def Cp:mb Tryz.prog:=mb.of Ft [(57,[xP], .ret [.i 0])] (fun x h=>by
 cases h with
 |head=>exact MF
 |tail _ h=>cases h)
end Go.Proofs.YtpkobkdgcanmjaaGreat
end
section
namespace Go.Proofs.YtpkobkdgcanmjaaGreat
open Go
theorem Cq:r8 Tryz.prog bu Cp 5000 29 [xP,QB,Qy,Gy]=some (.ret [.agg [.i 3, .i 3, .sl [.agg [.i 1, .i 7, .sl []]]], .i 0]):=by kernel_rfl
theorem MG:bU Tryz.prog 29 [xP,QB,Qy,Gy] (.ret [.agg [.i 3, .i 3, .sl [.agg [.i 1, .i 7, .sl []]]], .i 0]):=bU.kW mix kX Cq
end Go.Proofs.YtpkobkdgcanmjaaGreat
end
section
namespace Go.Proofs.YtpkobkdgcanmjaaGreat
open Go
theorem Cr:r8 Tryz.prog bu Cp 5000 29 [xP, .sl [],Gz,Qz]=some (.ret [.agg [.i 3, .i 3, .sl [.agg [.i 3, .i 2, .sl []]]], .i 0]):=by kernel_rfl
theorem MH:bU Tryz.prog 29 [xP, .sl [],Gz,Qz] (.ret [.agg [.i 3, .i 3, .sl [.agg [.i 3, .i 2, .sl []]]], .i 0]):=bU.kW mix kX Cr
end Go.Proofs.YtpkobkdgcanmjaaGreat
end
section
namespace Go.Proofs.YtpkobkdgcanmjaaGreat
open Go
theorem Cs:r8 Tryz.prog bu Cp 5000 29 [xP, .sl [],Gz,QA]=some (.ret [.agg [.i 0, .i 0, .sl []], .i 7]):=by kernel_rfl
theorem MI:bU Tryz.prog 29 [xP, .sl [],Gz,QA] (.ret [.agg [.i 0, .i 0, .sl []], .i 7]):=bU.kW mix kX Cs
end Go.Proofs.YtpkobkdgcanmjaaGreat
end
section
namespace Go.Proofs.YtpkobkdgcanmjaaGreat
open Go
theorem Ct:r8 Tryz.prog bu Cp 5000 38 [xP,Gy]=some (.ret [.sl [.i 1, .i 0], .i 9, .i 0]):=by kernel_rfl
theorem MJ:bU Tryz.prog 38 [xP,Gy] (.ret [.sl [.i 1, .i 0], .i 9, .i 0]):=bU.kW mix kX Ct
end Go.Proofs.YtpkobkdgcanmjaaGreat
end
section
namespace Go.Proofs.YtpkobkdgcanmjaaGreat
open Go
def QD:mb Tryz.prog:=mb.of Ft [(57,[xP], .ret [.i 0]),(20,[], .ret [xP]),(29,[xP,QB,Qy,Gy], .ret [.agg [.i 3, .i 3, .sl [.agg [.i 1, .i 7, .sl []]]], .i 0]),(29,[xP, .sl [],Gz,Qz], .ret [.agg [.i 3, .i 3, .sl [.agg [.i 3, .i 2, .sl []]]], .i 0]),(29,[xP, .sl [],Gz,QA], .ret [.agg [.i 0, .i 0, .sl []], .i 7]),(38,[xP,Gy], .ret [.sl [.i 1, .i 0], .i 9, .i 0])] (fun x h=>by
 simp only[List.mem_cons,List.not_mem_nil,or_false]at h
 rcases h with rfl|rfl|rfl|rfl|rfl|rfl
 ·exact MF
 ·exact QC
 ·exact MG
 ·exact MH
 ·exact MI
 ·exact MJ
 )
theorem vV:r8 Tryz.prog bu QD 5000 8 []=some (.ret [.bool true]):=by kernel_rfl
theorem Fw:bU Tryz.prog 8 [] (.ret [.bool true]):=bU.kW mix kX vV
end Go.Proofs.YtpkobkdgcanmjaaGreat
end
section
namespace Go.Proofs.YtpkobkdgcanmjaaGreat
open Go.ChangeShapes Go.WideShapes Go.RowKit
def pI(P:Program)(rec:TypeId->Option (List TypeId)):Nat->List Field->Option (List TypeId)
 |_,[]=>some []
 |off,f::fs=>if f.offset=off then match rec f.type with
  |some l=>if P.cellsOf f.type=l.length then(pI P rec (off+l.length) fs).map (l++·)else none
  |none=>none else none
def jf(P:Program):Nat->TypeId->Option (List TypeId)
 |0,_=>none
 |n+1,t=>match P.underlying t with
  |some .bool|some (.int _)|some .string|some (.slice _)=>some [t]
  |some (.struct fs)=>pI P (jf P n) 0 fs.toList
  |some (.array k e)=>match jf P n e with
   |some l=>if P.cellsOf e=l.length then some (List.replicate k l).flatten else none
   |none=>none
  |_=>none
def isAgg(P:Program)(t:TypeId):Bool:=match P.underlying t with
 |some (.struct _)|some (.array _ _)=>true
 |_=>false
mutual
def D.gV (P:Program):D->TypeId->Prop
 | .int k n,t=>P.underlying t=some (.int k)/\(Lit.int k n).wf=true
 | .bool _,t=>P.underlying t=some .bool
 | .str l,t=>P.underlying t=some .string/\l.length<=maxLen
 | .sl es,t=>∃e,P.underlying t=some (.slice e)/\es.length<=maxLen/\D.yD P es e
 | .agg cs,t=>isAgg P t=true/\∃ls,jf P 20 t=some ls/\D.fj P cs ls
 |_,_=>False
def D.yD (P:Program):List D->TypeId->Prop
 |[],_=>True
 |x::l,e=>D.gV P x e/\D.yD P l e
def D.fj (P:Program):List D->List TypeId->Prop
 |[],ts=>ts=[]
 |x::l,ts=>∃t r,ts=t::r/\D.gV P x t/\D.fj P l r
end
def nY(P:Program)(T:List TypeId):Bool:=T.all fun t=>match jf P 20 t with
 |some l=>decide (l.length=P.cellsOf t)&&decide (0<l.length)&&l.all fun u=>match P.underlying u with
  |some (.slice e)=>T.contains e
  |_=>true
 |none=>false
theorem mm{P:Program}:∀ {xs ys:List D} {l r:List TypeId},D.fj P xs l->D.fj P ys r->D.fj P (xs++ys) (l++r)
 |[],_,_,_,h,h'=>by simp only[D.fj]at h;subst h;exact h'
 |x::xs,_,_,_,h,h'=>by
  obtain⟨t,r,rfl,h1,h2⟩:=h
  exact⟨t,_,rfl,h1,mm h2 h'⟩
theorem aT{B:Nat->Prop}{w:World}:∀ {xs ys:List D} {l r:List Value},D.aq B w xs l->D.aq B w ys r->D.aq B w (xs++ys) (l++r)
 |[],_,_,_,h,h'=>by simp only[D.aq]at h;subst h;exact h'
 |x::xs,_,_,_,h,h'=>by
  obtain⟨t,r,rfl,h1,h2⟩:=h
  exact⟨t,_,rfl,h1,aT h2 h'⟩
theorem Flat.append {l r:List Value}(h:Flat l)(h':Flat r):Flat (l++r):=fun u hu=>(List.mem_append.1 hu).elim (h u) (h' u)
abbrev Fx:Nat->Prop:=fun _=>False
section
variable {H:Type}{enc:TypeId×Value->H}{P:Program}{W:World}{T:List TypeId}{b0:Nat}
def cL(P:Program)(W:World)(l:List TypeId)(cs:List Value):Prop:=∃xs,D.fj P xs l/\D.aq Fx W xs cs/\Flat cs
theorem cL.append {l r:List TypeId}{cs ds:List Value}(h:cL P W l cs)(h':cL P W r ds):cL P W (l++r) (cs++ds):=by
 obtain⟨xs,a1,a2,a3⟩:=h
 obtain⟨ys,b1,b2,b3⟩:=h'
 exact⟨xs++ys,mm a1 b1,aT a2 b2,a3.append b3⟩
theorem cL.length {l:List TypeId}{cs:List Value}(h:cL P W l cs):cs.length=l.length:=by
 obtain⟨xs,a1,a2,_⟩:=h
 rw[D.ao _ _ a2]
 clear a2
 induction xs generalizing l with
 |nil=>simp only[D.fj]at a1;simp[a1]
 |cons x xs ih=>obtain⟨t,r,rfl,_,h⟩:=a1;simp[ih h]
theorem cL.nil:cL P W [] []:=⟨[],rfl,rfl,fun _ h=>by cases h⟩
theorem uA{α:Type}(cs:List α)(o k:Nat):cs.drop o=(cs.drop o).take k++cs.drop (o+k):=by
 rw[<- List.drop_drop];exact(List.take_append_drop k _).symm
theorem mn{rec:TypeId->Option (List TypeId)}{cs:List Value}{rd:TypeId->List Value->Prop}
 (a7:∀t l vs,rec t=some l->(∀u∈l,∀e,P.underlying u=some (.slice e)->e∈T)->P.cellsOf t=l.length->rd t vs->cL P W l vs):
 ∀ (fs:List Field) (off:Nat) (l:List TypeId),pI P rec off fs=some l->(∀u∈l,∀e,P.underlying u=some (.slice e)->e∈T)->(∀f∈fs,rd f.type ((cs.drop f.offset).take (P.cellsOf f.type)))->
   off+l.length=cs.length->cL P W l (cs.drop off)
 |[],off,l,h,_,_,hl=>by
  simp only[pI,Option.some.injEq]at h
  subst h
  have:cs.drop off=[]:=List.drop_eq_nil_of_le (by simp at hl;omega)
  rw[this];exact cL.nil
 |f::fs,off,l,h,hT,hr,hl=>by
  simp only[pI]at h
  split at h
  ·rename_i ho
   split at h
   ·rename_i l1 h1
    split at h
    ·rename_i hc
     simp only[Option.map_eq_some_iff]at h
     obtain⟨r,h2,rfl⟩:=h
     have hd:=hr f (by simp)
     rw[ho,hc]at hd
     rw[uA cs off l1.length]
     simp only[List.length_append]at hl
     exact(a7 f.type l1 _ h1 (fun u hu=>hT u (by simp[hu])) hc hd).append (mn a7 fs _ r h2 (fun u hu=>hT u (by simp[hu])) (fun f hf=>hr f (by simp[hf])) (by omega))
    ·cases h
   ·cases h
  ·cases h
theorem ny{l:List TypeId}{cs:List Value}:∀ (k i:Nat),(∀j,j<k->cL P W l ((cs.drop ((i+j)*l.length)).take l.length))->(i+k)*l.length=cs.length->cL P W (List.replicate k l).flatten (cs.drop (i*l.length))
 |0,i,_,hl=>by
  have:cs.drop (i*l.length)=[]:=List.drop_eq_nil_of_le (by simp at hl;omega)
  rw[this];exact cL.nil
 |k+1,i,h,hl=>by
  rw[List.replicate_succ,List.flatten_cons,uA cs (i*l.length) l.length]
  refine(by simpa using h 0 (by omega):cL P W l _).append ?_
  rw[show i*l.length+l.length=(i+1)*l.length by rw[Nat.add_mul];omega]
  refine ny k (i+1) (fun j hj=> ?_) (by rw[<- hl];congr 1;omega)
  have:=h (j+1) (by omega)
  rwa [show i+(j+1)=i+1+j by omega]at this
theorem uB{e:TypeId}{l:List TypeId}{cs:List Value}(hl:jf P 20 e=some l)(h:cL P W l cs):∃ (ev:Value) (x:D),ev.cells.toList=cs/\D.gV P x e/\D.den Fx W x ev/\(isAgg P e=true->ev= .agg cs.toArray)/\(isAgg P e=false->cs=[ev]/\ev.oneCell'=true):=by
 obtain⟨xs,h1,h2,h3⟩:=h
 cases ha:isAgg P e with
 |true=>exact⟨.agg cs.toArray, .agg xs,by simp[Value.cells],⟨ha,l,hl,h1⟩,⟨_,rfl,by simpa using h2,by simpa using h3⟩,fun _=>rfl,(fun h=>by cases h)⟩
 |false=>
  have:l=[e]:=by
   unfold jf at hl
   unfold isAgg at ha
   split at hl<;>simp_all
  subst this
  obtain⟨t,r,e1,h4,h5⟩:∃x r,xs=x::r/\D.gV P x e/\D.fj P r []:=by
   cases xs with
   |nil=>simp[D.fj]at h1
   |cons x r=>obtain⟨t,r',e1,h4,h5⟩:=h1;injection e1 with e1 e2;subst e1;subst e2;exact⟨x,r,rfl,h4,h5⟩
  subst e1
  have:r=[]:=by cases r with
   |nil=>rfl
   |cons y r=>obtain⟨_,_,e,_⟩:=h5;cases e
  subst this
  obtain⟨u,us,rfl,h6,h7⟩:=h2
  simp only[D.aq]at h7
  subst h7
  have ho:=h3 u (by simp)
  refine⟨u,t, ?_,h4,h6,(fun h=>by cases h),fun _=>⟨rfl,ho⟩⟩
  cases u<;>simp_all[Value.oneCell',Value.cells]
theorem uC(hp:nY P T=true){t:TypeId}(ht:t∈T):∃l,jf P 20 t=some l/\l.length=P.cellsOf t/\0<l.length/\∀u∈l,∀e,P.underlying u=some (.slice e)->e∈T:=by
 have:=List.all_eq_true.1 hp t ht
 split at this
 ·rename_i l hl
  simp only[Bool.and_eq_true,decide_eq_true_eq,List.all_eq_true]at this
  refine⟨l,hl,this.1.1,this.1.2,fun u hu e he=> ?_⟩
  have:=this.2 u hu
  rw[he]at this
  simpa using this
 ·cases this
theorem vW(hp:nY P T=true):∀ (n m:Nat) (t:TypeId) (l:List TypeId) (cs:List Value) (x:DataW H×List MemPlace),jf P m t=some l->(∀u∈l,∀e,P.underlying u=some (.slice e)->e∈T)->
 P.cellsOf t=l.length->DataW.trod enc P W 0 (fun _=>true) true n t cs=some x->cL P W l cs:=by
 intro n
 induction n with
 |zero=>intro m t l cs x _ _ _ h;simp[DataW.trod]at h
 |succ n ih=>
  intro m t l cs x hl hT hc h
  cases m with
  |zero=>simp[jf]at hl
  |succ m=>
  unfold jf at hl
  split at hl
  ·rename_i hu
   injection hl with hl;subst hl
   obtain⟨b,rfl,_⟩:=DataW.trod_bool hu h
   exact⟨[.bool b],⟨t,[],rfl,hu,rfl⟩,⟨_,_,rfl,rfl,rfl⟩,by simp[Flat,Value.oneCell']⟩
  ·rename_i k hu
   injection hl with hl;subst hl
   obtain⟨b,rfl,_,hw⟩:=DataW.trod_int hu h
   exact⟨[.int k b],⟨t,[],rfl,⟨hu,hw⟩,rfl⟩,⟨_,_,rfl,rfl,rfl⟩,by simp[Flat,Value.oneCell']⟩
  ·rename_i hu
   injection hl with hl;subst hl
   obtain⟨s,rfl,_,hw⟩:=DataW.trod_string hu h
   exact⟨[.str s.data.toList],⟨t,[],rfl,⟨hu,by simpa using hw⟩,rfl⟩,⟨_,_,rfl,⟨s,rfl,rfl⟩,rfl⟩,by simp[Flat,Value.oneCell']⟩
  ·rename_i e hu
   injection hl with hl;subst hl
   rcases DataW.trod_slice hu h with⟨rfl,_⟩|⟨a,len,cap,elems,rest,n',hn,rfl,_,_,h2,h3,h4,h5,h6,_⟩
   ·exact⟨[.sl []],⟨t,[],rfl,⟨e,hu,by simp,trivial⟩,rfl⟩,⟨_,_,rfl,⟨none,0,0,rfl,rfl,by simp,fun _=>rfl,0,(fun a ha=>by cases ha)⟩,rfl⟩,by simp[Flat,Value.oneCell']⟩
   ·injection hn with hn;subst hn
    obtain⟨l',g1,g2,g3,g4⟩:=uC hp (hT t (by simp) e hu)
    have TE:∀i,i<len->∃ev:Value,∃y:D,ev.cells.size=P.cellsOf e/\eI Fx W (a.add (i*P.cellsOf e)) ev.cells/\D.den Fx W y ev/\D.gV P y e:=by
     intro i hi
     have:=h5 i hi
     rw[List.getElem?_eq_getElem (by omega)]at this
     obtain⟨ci,k1,k2⟩:=Option.bind_eq_some_iff.1 this
     obtain⟨_,k3,k4⟩:=World.cells?_some k1
     have k5:=ih 20 e l' ci _ g1 g4 g2.symm k2
     obtain⟨ev,y,q1,q2,q3,_,_⟩:=uB g1 k5
     have q4:ev.cells=ci.toArray:=by rw[<- q1]
     refine⟨ev,y,by rw[q4];simp[k5.length,g2],fun j u hj=>⟨?_,fun h=>h⟩,q3,q2⟩
     rw[q4]at hj
     have yE:ci[j]? =some u:=by simpa using hj
     have br:j<P.cellsOf e:=by rw[<- g2, <- k5.length];exact(List.getElem?_eq_some_iff.1 yE).1
     rw[k4 j br];exact yE
    have list:∀k i,i+k=len->∃es,es.length=k/\D.yD P es e/\D.elems Fx W (P.cellsOf e) a i es:=by
     intro k
     induction k with
     |zero=>intro i _;exact⟨[],rfl,trivial,trivial⟩
     |succ k Qt=>
      intro i hi
      obtain⟨es,e1,e2,e3⟩:=Qt (i+1) (by omega)
      obtain⟨ev,y,y1,y2,y3,y4⟩:=TE i (by omega)
      exact⟨y::es,by simp[e1],⟨y4,e2⟩,⟨ev,y1,y2,y3⟩,e3⟩
    obtain⟨es,e1,e2,e3⟩:=list len 0 (by omega)
    have MK:cap≠0->a.spot=none:=by
     intro qZ
     have DD:∀z,(W.cells? 0 (a.add (0*P.cellsOf e)) (P.cellsOf e)).bind (DataW.trod enc P W 0 (fun _=>true) true n e)=some z->a.spot=none:=by
      intro z hz
      obtain⟨ci,k1,k2⟩:=Option.bind_eq_some_iff.1 hz
      obtain⟨_,k3,k4⟩:=World.cells?_some k1
      have k5:=k4 0 (by omega)
      rw[List.getElem?_eq_getElem (by omega)]at k5
      simpa[Addr.add]using World.cell?_spot k5
     by_cases hlen:0<len
     ·have:=h5 0 hlen
      rw[List.getElem?_eq_getElem (by omega)]at this
      exact DD _ this
     ·obtain⟨h7,h8⟩:=h6 rfl
      have:=h8 0 (by omega)
      rw[List.getElem?_eq_getElem (by omega),show(len+0)=0 by omega]at this
      exact DD _ this
    exact⟨[.sl es],⟨t,[],rfl,⟨e,hu,by omega,e2⟩,rfl⟩,⟨_,_,rfl,⟨some a,len,cap,rfl,e1.symm,h2,(fun h=>by cases h),P.cellsOf e,(fun a' A7=>by injection A7 with A7;subst A7;exact⟨MK,e3⟩)⟩,rfl⟩,by simp[Flat,Value.oneCell']⟩
  ·rename_i fs hu
   obtain⟨xs,n',hn,_,h2,h3,h4⟩:=DataW.trod_struct hu h
   injection hn with hn;subst hn
   have:=mn (P:=P) (W:=W) (T:=T) (cs:=cs) (rd:=fun t vs=>∃y,DataW.trod enc P W 0 (fun _=>true) true n t vs=some y) (rec:=jf P m) (fun t l vs q1 q2 q3 ⟨y,q4⟩=>ih m t l vs y q1 q2 q3 q4) fs.toList 0 l hl hT ?_ (by omega)
   ·simpa using this
   ·intro f hf
    obtain⟨i,hi,TF⟩:=List.getElem_of_mem hf
    have:=h4 i f (by simp at hi;simp[<- TF,Array.getElem?_eq_getElem hi])
    rw[List.getElem?_eq_getElem (by simp at hi;omega)]at this
    exact⟨_,this⟩
  ·rename_i k e hu
   split at hl
   ·rename_i l' Bp
    split at hl
    ·rename_i Se
     injection hl with hl;subst hl
     obtain⟨xs,n',hn,_,h2,h3,h4⟩:=DataW.trod_array hu h
     injection hn with hn;subst hn
     have hlen:cs.length=k*l'.length:=by rw[h2,hc];simp
     have TG:0<k->∀u∈l',∀e,P.underlying u=some (.slice e)->e∈T:=fun hk u hu=>hT u (List.mem_flatten.2 ⟨l',List.mem_replicate.2 ⟨by omega,rfl⟩,hu⟩)
     have:=ny (P:=P) (W:=W) (l:=l') (cs:=cs) k 0 (fun j hj=> ?_) (by rw[hlen];simp)
     ·simpa using this
     ·have:=h4 j hj
      rw[Se,List.getElem?_eq_getElem (by omega)]at this
      rw[Nat.zero_add]
      exact ih m e l' _ _ Bp (TG (by omega)) Se this
    ·cases hl
   ·cases hl
  ·cases hl
theorem qR(hp:nY P T=true):∀ (ts:List TypeId) (vs:List Value) (ds:List (DataW H)) (p:List MemPlace),(∀t∈ts,t∈T)->DataW.TrodAll enc P W 0 (fun _=>true) true ts vs ds p->
 (∀ (j:Nat) t v,ts[j]? =some t->vs[j]? =some v->Value.okWide P W .any b0 t v)->∃xs,D.fj P xs ts/\D.aq Fx W xs vs
 |[],vs,ds,p,_,h,_=>by
  obtain⟨rfl,rfl,rfl⟩:=trodAll_nil h
  exact⟨[],rfl,rfl⟩
 |t::ts,vs,ds,p,hT,h,hv=>by
  obtain⟨v,MN,d,Hb,p1,q1,rfl,rfl,rfl,⟨n,h1⟩,h2⟩:=trodAll_cons h
  obtain⟨xs,a1,a2⟩:=qR hp ts MN Hb q1 (fun t ht=>hT t (by simp[ht])) h2 (fun j t v h1 h2=>hv (j+1) t v (by simpa using h1) (by simpa using h2))
  obtain⟨l,g1,g2,g3,g4⟩:=uC hp (hT t (by simp))
  obtain⟨ev,x,q1,q2,q3,q4,q5⟩:=uB g1 (vW hp n 20 t l _ _ g1 g4 g2.symm h1)
  have a8:=hv 0 t v rfl rfl
  have:ev=v:=by
   cases ha:isAgg P t with
   |true=>
    have:∃cs,v= .agg cs:=by
     unfold isAgg at ha
     unfold Value.okWide at a8
     split at ha
     ·rename_i hu;rw[hu]at a8;obtain⟨cs,rfl,_⟩:=a8;exact⟨cs,rfl⟩
     ·rename_i hu;rw[hu]at a8;obtain⟨cs,rfl,_⟩:=a8;exact⟨cs,rfl⟩
     ·cases ha
    obtain⟨cs,rfl⟩:=this
    rw[q4 ha]
    simp[Value.cells]
   |false=>
    obtain⟨q6,q7⟩:=q5 ha
    cases v with
    |agg cs=>
     exfalso
     unfold isAgg at ha
     unfold Value.okWide at a8
     split at a8
     ·rename_i hu;rw[hu]at ha;cases ha
     ·rename_i hu;rw[hu]at ha;cases ha
     ·unfold Cell.okWide at a8
      split at a8
      case h_8=>
       unfold Cell.ok at a8
       split at a8<;>first|exact a8|contradiction
      all_goals contradiction
    |_=>simp only[Value.cells,List.cons.injEq,and_true]at q6;exact q6.symm
  subst this
  exact⟨x::xs,⟨t,ts,rfl,q2,a1⟩,⟨_,_,rfl,q3,a2⟩⟩
theorem dJ.below {w w':World}(h:dJ (fun _=>False) w w'):Below w.heap.size w w':=⟨h.os,h.tape,h.output,h.size,fun k hk=>h.block k hk (fun h=>h)⟩
theorem qS(hl:laidOutB P=true){W':World}{sp:Nat->Bool}:∀ {ts:List TypeId} {vs:List Value} {ds:List (DataW H)} {p:List MemPlace},(∀t∈ts,P.readableRec t=true/\t<P.types.size)->DataW.TrodAll enc P W 0 (fun _=>true) true ts vs ds p->
 (∀x∈p,W.sameAt W' x/\sp x.block=true)->DataW.TrodAll enc P W' 0 sp true ts vs ds p
 |[],vs,ds,p,_,h,_=>by
  obtain⟨rfl,rfl,rfl⟩:=trodAll_nil h
  exact trodAll_mk0
 |t::ts,vs,ds,p,hr,h,hs=>by
  obtain⟨v,MN,d,Hb,p1,q1,rfl,rfl,rfl,h1,h2⟩:=trodAll_cons h
  exact⟨p1,q1,WideElems.Trod_stays hl (hr t (by simp)).1 (hr t (by simp)).2 h1 (fun x hx=>(hs x (by simp[hx])).1) (fun x hx=>(hs x (by simp[hx])).2),qS hl (fun t ht=>hr t (by simp[ht])) h2 (fun x hx=>hs x (by simp[hx])),rfl⟩
theorem AV{sp:Nat->Bool}:∀ {ts:List TypeId} {vs:List Value} {ds:List (DataW H)} {ps:List MemPlace},DataW.TrodAll enc P W 0 sp true ts vs ds ps->ds.length=ts.length
 |[],_,_,_,h=>by obtain⟨_,rfl,_⟩:=trodAll_nil h;rfl
 |_::_,_,_,_,h=>by
  obtain⟨_,_,_,_,_,_,_,rfl,_,_,h2⟩:=trodAll_cons h
  simp[AV h2]
theorem sq{f:FuncId}{fn:Func}{s:ChangeSpec}{tb:TypeId}{fresh handsOn again:Bool}(te:fn.resultTypes=#[tb])(Sf:P.underlying tb=some .bool)(DE:s.vars=[])
 (AW:∀ds:List (DataW H),ds.length=fn.params.toList.length->s.fn H ds={results:=[.lit (.bool true)],args:=ds}) (hp:nY P T=true) (hT:∀t∈fn.params.toList,t∈T) (hl:laidOutB P=true)
 (hr:∀t∈fn.params.toList,P.readableRec t=true/\t<P.types.size) (law:∀xs,D.fj P xs fn.params.toList->bU P f xs (.ret [.bool true]))
 (base:Nat) (args:Array Value) (ds gs:List (DataW H)) (before:List MemPlace)
 (du:∀ (j:Nat) t v,fn.params[j]? =some t->args[j]? =some v->Value.okWide P W .any base t v) (hW:DataW.Whole enc P fn.params.toList s.vars false W args.toList ds gs before):
 Calls P f args W fun e W'=>∃v,e= .returned v/\s.post enc P fn false fresh handsOn again W args v W':=by
 have Sg:=hW
 obtain⟨p,q,hA,hV,rfl,TH,QS⟩:=hW
 rw[DE]at hV
 obtain⟨rfl,rfl⟩:=trodVars_none hV
 obtain⟨xs,a1,a2⟩:=qR (b0:=base) hp fn.params.toList args.toList ds p hT hA (fun j t v h1 h2=>du j t v (by simpa using h1) (by simpa using h2))
 refine((law xs a1).2 Fx W args (fun _ h=>h.elim) a2).mono fun e W' ⟨hk,ho⟩=> ?_
 have hb:=hk.below
 cases e with
 |panicked ch=>exact ho.elim
 |outgrown=>exact ho.elim
 |returned v=>
  simp only[R.is,D.den]at ho
  subst ho
  refine⟨_,rfl, ?_⟩
  have hlen:ds.length=fn.params.toList.length:=(AV hA)
  have hold:∀x∈p,x.block<W.heap.size:=fun x hx=>by simpa using Sg.lt x (by simpa using hx)
  have dg:∀sp:Nat->Bool,(∀x∈p,sp x.block=true)->DataW.TrodAll enc P W' 0 sp true fn.params.toList args.toList ds p:=fun sp FB=>qS hl hr hA fun x hx=>⟨hb.same (hold x hx),FB x hx⟩
  have DF:∀ (b:Nat) (sp:Nat->Bool) (hd:Bool),DataW.TrodAll enc P W' b sp hd fn.resultTypes.toList ((Value.bool true).resultList fn.resultTypes.size) [.lit (.bool true)] []:=fun b sp hd=>by
   rw[te]
   exact trodAll_cons_mk (p:=[]) (p':=[]) ⟨1,by simp[DataW.trod,Value.cells,Sf]⟩ trodAll_mk0
  have AX:∀sp:Nat->Bool,DataW.TrodVars enc P W' sp s.vars [] []:=fun sp=>by rw[DE];rfl
  refine⟨ds,[],p++[],[],p,[],Sg, ?_, ?_, ?_,World.keptBut_mono (fun _ h=>h.elim) (hb.frame (fun _=>False)),fun _=>⟨?_,[.lit (.bool true)]++ds,[],([]++p)++[],⟨[]++p,[],trodAll_append (dg _ fun _ _=>rfl) (DF 0 (fun _=>true) true),AX _,rfl, ?_,(fun h=>by cases h)⟩,fun x hx _=>by simpa using hx⟩⟩
  ·rw[List.append_nil,AW ds hlen];exact DF _ _ _
  ·rw[List.append_nil,AW ds hlen];exact dg _ fun x hx=>by simpa using hold x hx
  ·rw[List.append_nil,AW ds hlen];exact AX _
  ·intro j t r h1 h2
   rw[te]at h1 h2
   match j,h1,h2 with
   |0,h1,h2=>
    simp[Value.resultList]at h1 h2
    subst h1;subst h2
    simp[Value.okWide,Sf,Cell.okWide,Cell.ok]
  ·intro b off hx
   rw[hb.frozen (by simpa[MemPlace.block]using hold _ (by simpa using hx))]
   exact TH b off (by simpa using hx)
end
section
variable {P:Program}{t e:TypeId}{x:D}
theorem uD{k:IntKind}(ht:P.underlying t=some (.int k))(h:D.gV P x t):∃n,x= .int k n/\(Lit.int k n).wf=true:=by
 cases x<;>simp only[D.gV]at h
 case int k' n=>
  rw[ht]at h
  obtain⟨h1,h2⟩:=h
  injection h1 with h1;injection h1 with h1;subst h1
  exact⟨n,rfl,h2⟩
 case bool=>rw[ht]at h;cases h
 case str=>rw[ht]at h;cases h.1
 case sl=>obtain⟨e,h,_⟩:=h;rw[ht]at h;cases h
 case agg=>have:=h.1;unfold isAgg at this;rw[ht]at this;cases this
theorem AY(ht:P.underlying t=some .string)(h:D.gV P x t):∃l,x= .str l/\l.length<=maxLen:=by
 cases x<;>simp only[D.gV]at h
 case int k' n=>rw[ht]at h;cases h.1
 case bool b=>rw[ht]at h;cases h
 case str l=>exact⟨l,rfl,h.2⟩
 case sl=>obtain⟨e,h,_⟩:=h;rw[ht]at h;cases h
 case agg=>have:=h.1;unfold isAgg at this;rw[ht]at this;cases this
theorem sr(ht:P.underlying t=some (.slice e))(h:D.gV P x t):∃es,x= .sl es/\es.length<=maxLen/\D.yD P es e:=by
 cases x<;>simp only[D.gV]at h
 case int k' n=>rw[ht]at h;cases h.1
 case bool b=>rw[ht]at h;cases h
 case str l=>rw[ht]at h;cases h.1
 case sl es=>
  obtain⟨e',h,h2,h3⟩:=h
  rw[ht]at h;injection h with h;injection h with h;subst h
  exact⟨es,rfl,h2,h3⟩
 case agg=>have:=h.1;unfold isAgg at this;rw[ht]at this;cases this
theorem pJ{ls:List TypeId}(ha:isAgg P t=true)(hl:jf P 20 t=some ls)(h:D.gV P x t):∃cs,x= .agg cs/\D.fj P cs ls:=by
 have no:∀u,P.underlying t=some u->(∀fs,u≠ .struct fs)->(∀k e,u≠ .array k e)->False:=by
  intro u hu h1 h2
  unfold isAgg at ha
  rw[hu]at ha
  split at ha
  ·rename_i e;injection e with e;exact h1 _ e
  ·rename_i e;injection e with e;exact h2 _ _ e
  ·cases ha
 cases x<;>simp only[D.gV]at h
 case int k' n=>exact(no _ h.1 (fun _ h=>by cases h) (fun _ _ h=>by cases h)).elim
 case bool b=>exact(no _ h (fun _ h=>by cases h) (fun _ _ h=>by cases h)).elim
 case str l=>exact(no _ h.1 (fun _ h=>by cases h) (fun _ _ h=>by cases h)).elim
 case sl es=>obtain⟨e',h,_⟩:=h;exact(no _ h (fun _ h=>by cases h) (fun _ _ h=>by cases h)).elim
 case agg cs=>
  obtain⟨_,T1,h1,h2⟩:=h
  rw[hl]at h1;injection h1 with h1;subst h1
  exact⟨cs,rfl,h2⟩
theorem ct{t:TypeId}{ts:List TypeId}{cs:List D}(h:D.fj P cs (t::ts)):∃x xs,cs=x::xs/\D.gV P x t/\D.fj P xs ts:=by
 cases cs with
 |nil=>simp[D.fj]at h
 |cons x xs=>obtain⟨_,_,e,h1,h2⟩:=h;injection e with e1 e2;subst e1;subst e2;exact⟨x,xs,rfl,h1,h2⟩
theorem j9{cs:List D}(h:D.fj P cs []):cs=[]:=by
 cases cs with
 |nil=>rfl
 |cons x xs=>obtain⟨_,_,e,_⟩:=h;cases e
theorem pK{α:Type}{f:α->D}{q:α->Prop}(hf:∀x,D.gV P x e->∃a,x=f a/\q a):∀ (es:List D),D.yD P es e->∃l:List α,es=l.map f/\∀a∈l,q a
 |[],_=>⟨[],rfl,fun _ h=>by cases h⟩
 |x::es,h=>by
  obtain⟨a,rfl,h1⟩:=hf x h.1
  obtain⟨l,rfl,h2⟩:=pK hf es h.2
  exact⟨a::l,rfl,fun b hb=>(List.mem_cons.1 hb).elim (fun e=>e ▸ h1) (h2 b)⟩
end
end Go.Proofs.YtpkobkdgcanmjaaGreat
end
section
namespace Go.Proofs.YtpkobkdgcanmjaaGreat
open Go.ChangeShapes Go.WideShapes Go.RowKit
theorem mY:maxLen<=9223372036854775807:=by decide
theorem DG{x:D}(h:D.gV Tryz.prog x 3):∃n:Int,x= .i n:=by
 obtain⟨n,h,_⟩:=uD undT_3 h
 exact⟨n,h⟩
theorem QE{x:D}(h:D.gV Tryz.prog x 25):∃n:Int,x= .i n:=by
 obtain⟨n,h,_⟩:=uD undT_25 h
 exact⟨n,h⟩
theorem ML{x:D}(h:D.gV Tryz.prog x 69):∃r:ll,x=r.d/\r.name.length<=9223372036854775807:=by
 obtain⟨cs,rfl,hh⟩:=pJ (by kernel_rfl) (ls:=[9,3]) (by kernel_rfl) h
 clear h;have h:=hh;clear hh
 obtain⟨a,cs,rfl,ha,h⟩:=ct h
 obtain⟨b,cs,rfl,hb,h⟩:=ct h
 have:=j9 h;subst this
 obtain⟨l,rfl,hl⟩:=AY (by kernel_rfl) ha
 obtain⟨n,rfl⟩:=DG hb
 exact⟨⟨l,n⟩,rfl,by have:=mY;simp only;omega⟩
theorem MM{x:D}(h:D.gV Tryz.prog x 24):∃s:bJ,x=s.d/\s.Fits:=by
 obtain⟨cs,rfl,hh⟩:=pJ (by kernel_rfl) (ls:=[22,22]) (by kernel_rfl) h
 clear h;have h:=hh;clear hh
 obtain⟨a,cs,rfl,ha,h⟩:=ct h
 obtain⟨b,cs,rfl,hb,h⟩:=ct h
 have:=j9 h;subst this
 obtain⟨es,rfl,h1,h2⟩:=sr undT_22 ha
 obtain⟨l,rfl,hl⟩:=pK (fun x h=>ML h) es h2
 obtain⟨es',rfl,h3,h4⟩:=sr undT_22 hb
 obtain⟨l',rfl,Bp⟩:=pK (fun x h=>ML h) es' h4
 have:=mY
 exact⟨⟨l,l'⟩,rfl,⟨by simp at h1;simp only;omega,by simp at h3;simp only;omega,hl,Bp⟩⟩
theorem AZ:∀ (n:Nat) (x:D),SizeOf.sizeOf x<=n->D.gV Tryz.prog x 28->∃t:Tm,x=t.d/\t.fits:=by
 intro n
 induction n with
 |zero=>intro x hx _;cases x<;>simp at hx
 |succ n ih=>
  intro x hx h
  obtain⟨cs,rfl,hh⟩:=pJ (by kernel_rfl) (ls:=[25,3,26]) (by kernel_rfl) h
  clear h;have h:=hh;clear hh
  obtain⟨a,cs,rfl,ha,h⟩:=ct h
  obtain⟨b,cs,rfl,hb,h⟩:=ct h
  obtain⟨c,cs,rfl,hc,h⟩:=ct h
  have:=j9 h;subst this
  obtain⟨o,rfl⟩:=QE ha
  obtain⟨m,rfl⟩:=DG hb
  obtain⟨es,rfl,h1,h2⟩:=sr undT_26 hc
  have v9:SizeOf.sizeOf es<=n:=by simp at hx;omega
  have:∀es:List D,SizeOf.sizeOf es<=n->D.yD Tryz.prog es 28->∃l:List Tm,es=l.map Tm.d/\∀k∈l,k.fits:=by
   intro es
   induction es with
   |nil=>intro _ _;exact⟨[],rfl,fun _ h=>by cases h⟩
   |cons y es TI=>
    intro hs h
    simp at hs
    obtain⟨t,rfl,ht⟩:=ih y (by omega) h.1
    obtain⟨l,rfl,hl⟩:=TI (by omega) h.2
    exact⟨t::l,rfl,fun b hb=>(List.mem_cons.1 hb).elim (fun e=>e ▸ ht) (hl b)⟩
  obtain⟨l,rfl,hl⟩:=this es v9 h2
  refine⟨.mk o m l,by rw[Tm.BT], ?_⟩
  rw[Tm.cK]
  exact⟨by have:=mY;simp at h1;simp only[Tm.kids];omega,hl⟩
theorem Fy{x:D}(h:D.gV Tryz.prog x 28):∃t:Tm,x=t.d/\t.fits:=AZ _ x (Nat.le_refl _) h
end Go.Proofs.YtpkobkdgcanmjaaGreat
end
section
namespace Go.Proofs.YtpkobkdgcanmjaaGreat
open Go.ChangeShapes Go.WideShapes Go.RowKit
set_option maxRecDepth 100000 in
theorem lb(os:Os)(started:os.Started)(H:Type)(enc:TypeId×Value->H):
 ReturnsInHanded {} Tryz.checked os 4 .any (Rows.logicOrdersSpec.pre6 enc Tryz.prog Tryz.f4 Rows.logicOrdersRow.domain false) (Rows.logicOrdersSpec.post enc Tryz.prog Tryz.f4 Rows.logicOrdersRow.apart Rows.logicOrdersRow.fresh Rows.logicOrdersRow.handsOn Rows.logicOrdersRow.again):=by
 refine returnsInHanded_of_change (C:=Tryz.checked) (by kernel_rfl) started (by kernel_rfl) Tryz.func4
  (ChangeSpec.witness6 (enc:=enc) (C:=Tryz.checked) false ⟨#[],#[.agg #[.slice none 0 0, .slice none 0 0], .agg #[.int .i64 0, .int .i64 0, .slice none 0 0], .agg #[.int .i64 0, .int .i64 0, .slice none 0 0], .agg #[.int .i64 0, .int .i64 0, .slice none 0 0]],[]⟩ 8 (by kernel_rfl) (by kernel_rfl) (by kernel_rfl) (by kernel_rfl)) ?_
 intro W base args ds gs before du hW _ _
 refine sq (T:=[24,22,69,9,3,28,26,25]) (tb:=4) (by kernel_rfl) (by kernel_rfl) rfl (fun ds h=>by match ds,h with|[_,_,_,_],_=>rfl) (by kernel_rfl) (by intro t ht;rw[Tryz.params4]at ht;simp at ht;rcases ht with rfl|rfl<;>simp) (by kernel_rfl) (by intro t ht;rw[Tryz.params4]at ht;simp at ht;rcases ht with rfl|rfl<;>exact⟨by kernel_rfl,of_decide_eq_true (by kernel_rfl)⟩)
  (fun xs hx=> ?_) base args ds gs before du hW
 rw[Tryz.params4]at hx
 obtain⟨x0,xs,rfl,TJ,hx⟩:=ct hx
 obtain⟨x1,xs,rfl,TK,hx⟩:=ct hx
 obtain⟨x2,xs,rfl,NS,hx⟩:=ct hx
 obtain⟨x3,xs,rfl,TL,hx⟩:=ct hx
 have:=j9 hx;subst this
 obtain⟨s0,rfl,rr⟩:=MM TJ
 obtain⟨t1,rfl,su⟩:=Fy TK
 obtain⟨t2,rfl,TM⟩:=Fy NS
 obtain⟨t3,rfl,TN⟩:=Fy TL
 exact pZ Fw s0 rr t1 t2 t3 su TM TN
theorem logicOrders_holds:Rows.LogicOrdersSaid:=
 OpenClaim.holds_of_wide 4 Tryz.f4 rfl rfl rfl rfl rfl rfl rfl ⟨rfl,rfl,rfl,rfl,rfl⟩ rfl rfl rfl rfl rfl (by kernel_rfl) Tryz.func4 (by kernel_rfl)
  (of_decide_eq_true (by kernel_rfl)) (by unfold Func.isWrapper;first|(rw[if_pos (by decide+kernel)];kernel_rfl)|(rw[if_neg (by decide+kernel)];exact⟨rfl,rfl⟩))
  (fun os started H enc _=>lb os started H enc)
end Go.Proofs.YtpkobkdgcanmjaaGreat
end
