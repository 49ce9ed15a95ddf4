/-
  EqualForms: at every call the law answers true, and leaves all memory as it was. Conditions: none.
-/
import Derived.OpenShut
import Derived.Carry
import Derived.Handed
import Derived.JoinedOf
import Derived.ProofKit
import Derived.Test.YtlhemmpklhhgoaaGreatRows
import Derived.Test.YtlhemmpklhhgoaaGreatQf22
set_option linter.unusedSimpArgs false
set_option linter.unusedVariables false
set_option maxHeartbeats 8000000
namespace Go.Proofs.YtlhemmpklhhgoaaGreat
noncomputable def ptB:IC:=Ct.snd.snd.snd
theorem JR{sg:az}{k:Int}(hk:0<=k/\k<=255){n:Nat}(hn:n<20){L:List TB}(hL:L.length=n){bs:List Int}{e:Nat->V}{o:Nat->aa}{nx:Nat}(vl:2<=nx)
 (e1:e 1= .d (.sl (bs.map (D.int .u8)))) (e2:e 2= .ptr 0 0) (e5:e 5= .osl 1 0) (e6:e 6= .d (.i n)) (e7:e 7= .d (.i k)) (Hy:e 10= .d (.i n)) (o0:o 0= .row sg.row) (o1:o 1= .arr 0 59 4 (L.map TB.d)) (Q:gr->S->Prop)
 (hQ:∀ (e':Nat->V) (o':Nat->aa) (nx':Nat),e' 1= .d (.sl (bs.map (D.int .u8)))->e' 2= .ptr 0 0->e' 5= .osl 1 1->e' 10= .d (.i n)->o' 0= .row sg.row->o' 1= .arr 1 59 4 ((L++[(⟨(n:Int),ptF sg k⟩:TB)]).map TB.d)->Q .normal ⟨e',o',nx'⟩):
 kQ Tryz.prog 98 0 false ptB Q ⟨e,o,nx⟩:=by
 have hw:IntKind.i64.wrap (k.tdiv 5)=k.tdiv 5:=by
  rw[Int.tdiv_eq_ediv_of_nonneg hk.1]
  exact wrap64 ad ad
 have w0:∀j,(0:Nat)≠nx+j:=fun j=>ad
 have w1:∀j,(1:Nat)≠nx+j:=fun j=>ad
 have Qv:(0:Nat)≠nx:=ad
 have Qw:(1:Nat)≠nx:=ad
 unfold ptF at hQ
 simp only[ptB,Ct,PU,c28,IC.snd,IC.fst]
 show kQ _ _ _ _ (.seq _ (.seq _ (.seq _ ptR))) _ _
 refine c9 (ae e1 (ae e2 (ae e5 (ae e6 (ae e7 (ae Hy (ae o0 (ae o1 (ae w0 (ae w1 (ae Qv Qw))))))))))) ?_
 refine bC (q9 (k.tmod 2) []) ?_
 rcases kY sg 2 0 with⟨c2,tC,aau,hA2,Qc⟩|⟨c2,tC,aau,hA2,Qc⟩|⟨Qc,hA2⟩
 ·have PX:decide ((sg.cons.length:Int)>2)=true:=decide_eq_true ad
  refine c9 (ae e1 (ae e2 (ae e5 (ae e6 (ae e7 (ae Hy (ae o0 (ae o1 (ae w0 (ae w1 (ae Qv (ae Qw (ae PX (ae tC aau)))))))))))))) ?_
  refine bC (q9 2 []) ?_
  by_cases h5:k.tmod 5=4
  ·have vG:(k.tmod 5==4)=true:=by rw[beq_iff_eq];exact h5
   have hp:zf sg k= .mk 2 (k.tdiv 5) []:=by unfold zf;rw[if_pos h5]
   refine c9 (ae e1 (ae e2 (ae e5 (ae e6 (ae e7 (ae Hy (ae o0 (ae o1 (ae w0 (ae w1 (ae Qv (ae Qw (ae vG hw))))))))))))) ?_
   refine pJ (bs:=bs) hk hn hL (t:=zf sg k) (a:=nx+3) ?_ ?_ ?_ ?_ ?_ ?_ ?_ ?_ ?_ ?_ ?_ Q hQ
   ·exact zl
   ·exact JZ
   ·exact J0
   ·exact J1
   ·exact J2
   ·exact J3
   ·rfl
   ·exact JY
   ·exact J5
   ·exact J6
   ·right;(repeat first|rfl|rw[ab]|rw[af _ _ _ _ (by omega)]);rw[hp];exact⟨rfl,rfl⟩
  ·have vG:(k.tmod 5==4)=false:=by rw[beq_eq_false_iff_ne];exact h5
   have hp:zf sg k= .mk 3 2 []:=by unfold zf;rw[if_neg h5,hA2];rfl
   refine c9 (ae e1 (ae e2 (ae e5 (ae e6 (ae e7 (ae Hy (ae o0 (ae o1 (ae w0 (ae w1 (ae Qv (ae Qw (ae vG hw))))))))))))) ?_
   refine pJ (bs:=bs) hk hn hL (t:=zf sg k) (a:=nx+3) ?_ ?_ ?_ ?_ ?_ ?_ ?_ ?_ ?_ ?_ ?_ Q hQ
   ·exact zl
   ·exact JZ
   ·exact J0
   ·exact J1
   ·exact J2
   ·exact J3
   ·rfl
   ·exact JY
   ·exact J5
   ·exact J6
   ·left;(repeat first|rfl|rw[ab]|rw[af _ _ _ _ (by omega)]);rw[hp]
 ·have PX:decide ((sg.cons.length:Int)>2)=true:=decide_eq_true ad
  refine c9 (ae e1 (ae e2 (ae e5 (ae e6 (ae e7 (ae Hy (ae o0 (ae o1 (ae w0 (ae w1 (ae Qv (ae Qw (ae PX (ae tC aau)))))))))))))) ?_
  by_cases h5:k.tmod 5=4
  ·have vG:(k.tmod 5==4)=true:=by rw[beq_iff_eq];exact h5
   have hp:zf sg k= .mk 2 (k.tdiv 5) []:=by unfold zf;rw[if_pos h5]
   refine c9 (ae e1 (ae e2 (ae e5 (ae e6 (ae e7 (ae Hy (ae o0 (ae o1 (ae w0 (ae w1 (ae Qv (ae Qw (ae vG hw))))))))))))) ?_
   refine pJ (bs:=bs) hk hn hL (t:=zf sg k) (a:=nx+3) ?_ ?_ ?_ ?_ ?_ ?_ ?_ ?_ ?_ ?_ ?_ Q hQ
   ·exact zl
   ·exact JZ
   ·exact J0
   ·exact J1
   ·exact J2
   ·exact J3
   ·rfl
   ·exact JY
   ·exact J5
   ·exact J6
   ·right;(repeat first|rfl|rw[ab]|rw[af _ _ _ _ (by omega)]);rw[hp];exact⟨rfl,rfl⟩
  ·have vG:(k.tmod 5==4)=false:=by rw[beq_eq_false_iff_ne];exact h5
   have hp:zf sg k= .mk 3 (k.tmod 2) []:=by unfold zf;rw[if_neg h5,hA2];rfl
   refine c9 (ae e1 (ae e2 (ae e5 (ae e6 (ae e7 (ae Hy (ae o0 (ae o1 (ae w0 (ae w1 (ae Qv (ae Qw (ae vG hw))))))))))))) ?_
   refine pJ (bs:=bs) hk hn hL (t:=zf sg k) (a:=nx+3) ?_ ?_ ?_ ?_ ?_ ?_ ?_ ?_ ?_ ?_ ?_ Q hQ
   ·exact zl
   ·exact JZ
   ·exact J0
   ·exact J1
   ·exact J2
   ·exact J3
   ·rfl
   ·exact JY
   ·exact J5
   ·exact J6
   ·left;(repeat first|rfl|rw[ab]|rw[af _ _ _ _ (by omega)]);rw[hp]
 ·have PX:decide ((sg.cons.length:Int)>2)=false:=decide_eq_false ad
  refine c9 (ae e1 (ae e2 (ae e5 (ae e6 (ae e7 (ae Hy (ae o0 (ae o1 (ae w0 (ae w1 (ae Qv (ae Qw PX)))))))))))) ?_
  by_cases h5:k.tmod 5=4
  ·have vG:(k.tmod 5==4)=true:=by rw[beq_iff_eq];exact h5
   have hp:zf sg k= .mk 2 (k.tdiv 5) []:=by unfold zf;rw[if_pos h5]
   refine c9 (ae e1 (ae e2 (ae e5 (ae e6 (ae e7 (ae Hy (ae o0 (ae o1 (ae w0 (ae w1 (ae Qv (ae Qw (ae vG hw))))))))))))) ?_
   refine pJ (bs:=bs) hk hn hL (t:=zf sg k) (a:=nx+3) ?_ ?_ ?_ ?_ ?_ ?_ ?_ ?_ ?_ ?_ ?_ Q hQ
   ·exact zl
   ·exact JZ
   ·exact J0
   ·exact J1
   ·exact J2
   ·exact J3
   ·rfl
   ·exact JY
   ·exact J5
   ·exact J6
   ·right;(repeat first|rfl|rw[ab]|rw[af _ _ _ _ (by omega)]);rw[hp];exact⟨rfl,rfl⟩
  ·have vG:(k.tmod 5==4)=false:=by rw[beq_eq_false_iff_ne];exact h5
   have hp:zf sg k= .mk 3 (k.tmod 2) []:=by unfold zf;rw[if_neg h5,hA2];rfl
   refine c9 (ae e1 (ae e2 (ae e5 (ae e6 (ae e7 (ae Hy (ae o0 (ae o1 (ae w0 (ae w1 (ae Qv (ae Qw (ae vG hw))))))))))))) ?_
   refine pJ (bs:=bs) hk hn hL (t:=zf sg k) (a:=nx+3) ?_ ?_ ?_ ?_ ?_ ?_ ?_ ?_ ?_ ?_ ?_ Q hQ
   ·exact zl
   ·exact JZ
   ·exact J0
   ·exact J1
   ·exact J2
   ·exact J3
   ·rfl
   ·exact JY
   ·exact J5
   ·exact J6
   ·left;(repeat first|rfl|rw[ab]|rw[af _ _ _ _ (by omega)]);rw[hp]
def LO(sg:az)(bs:List Int)(n:Nat):List TB:=(List.range n).map (fun(j:Nat)=>(⟨(j:Int),ptF sg (byF bs j)⟩:TB))
theorem Cu(sg:az)(bs:List Int)(n:Nat):(LO sg bs n).length=n:=by simp[LO]
theorem Fe(sg:az)(bs:List Int)(n:Nat):LO sg bs (n+1)=LO sg bs n++[(⟨(n:Int),ptF sg (byF bs n)⟩:TB)]:=by
 unfold LO
 rw[List.range_succ,List.map_append]
 rfl
def ptO(sg:az)(L:List TB):Nat->aa:=aw (aw (fun _=> .no) 0 (.row sg.row)) 1 (.arr 0 59 4 (L.map TB.d))
theorem S9(sg:az)(bs:List Int)(hb:∀x∈bs,0<=x/\x<=255)(rA:bs.length<=9223372036854775807):a7 Tryz.prog 28 [sg.d, .sl (bs.map (D.int .u8))] (.ret [.sl ((LO sg bs 20).map TB.d)]):=by
 have EZ:Good (aw (fun _=> .no) 0 (.row sg.row)) 1:=dx
 refine a7.aH mix ag7 aF ?_
 rw[c28]
 refine cS ?_
 refine aC (fun n:Nat=>⟨aY [.ai, .d (.sl (bs.map (D.int .u8))), .ptr 0 0, .ai, .ai, .osl 1 0, .ai, .ai, .ai, .ai, .d (.i n)],ptO sg (LO sg bs n),2⟩)
  (fun n=>n<=20) (fun n=>20 - n) 0 (Nat.zero_le _) ?_ (fun n hn=> ?_)
 ·refine cX (O:=aw (fun _=> .no) 0 (.row sg.row)) (c:=1) EZ ad (fun _=>False) .ao _ (fun _ h=>h.elim) (.inl ⟨rfl,rfl,bF⟩) (fun j hj=> ?_) ?_
  ·have:j=0:=ad
   subst this
   rfl
  ·exact iV
 have hn:n<=20:=hn
 have v0:ptO sg (LO sg bs n) 0= .row sg.row:=rfl
 have v1:ptO sg (LO sg bs n) 1= .arr 0 59 4 ((LO sg bs n).map TB.d):=rfl
 show kQ _ _ _ _ (.seq _ (.seq _ (.seq (.block 1 (.seq _ (.seq _ (.seq _ ptB)))) _))) _ _
 refine gC (ae v0 v1) ?_
 refine ak (fun h6=> ?_) (fun h6=> ?_)
 ·replace h6:n<20:=by simp at h6;omega
  refine eC (ae v0 v1) ?_
  refine ak (fun h7=> ?_) (fun h7=> ?_)
  ·have h7:0<bs.length:=by simp at h7;omega
   have hm:n%bs.length<bs.length:=Nat.mod_lt _ h7
   obtain⟨x,hx⟩:=aA hm
   have SO:=hb x (List.mem_of_getElem? hx)
   have hw:IntKind.i64.wrap x=x:=wrap64 ad ad
   have ht:((n:Int).tmod (bs.length:Int))=((n%bs.length:Nat):Int):=by rw[Int.tmod_eq_emod_of_nonneg (by omega)];exact(Int.natCast_emod n bs.length).symm
   have hz:(bs.length:Int)≠0:=ad
   have hby:byF bs n=x:=by unfold byF;rw[if_neg (by intro e;rw[e]at h7;cases h7),hx];rfl
   refine eC (ae v0 (ae v1 (ae hx (ae hw (ae ht hz))))) ?_
   refine JR (sg:=sg) (k:=x) SO h6 (Cu sg bs n) (bs:=bs) ?_ ?_ ?_ ?_ ?_ ?_ ?_ ?_ ?_ _ (fun e' o' nx' g1 g2 g3 g4 g5 g6=> ?_)
   ·omega
   ·exact bp
   ·exact bp
   ·exact bp
   ·exact bp
   ·exact bp
   ·exact bp
   ·exact v0
   ·exact v1
   refine gC (ae g1 (ae g2 (ae g3 (ae g4 (ae g5 g6))))) ?_
   refine aj (n+1) h6 ad (cX (O:=aw (fun _=> .no) 0 (.row sg.row)) (c:=1) EZ ad (fun j=>j=1) (.osl 1 1) _ (fun j e=>ad) (.inr ⟨1,1,rfl,rfl, ?_⟩) (fun j hj=> ?_) ?_)
   ·rw[Fe,hby]
    exact g6
   ·have:j=0:=ad
    subst this
    exact g5
   ·exact acE
  ·have h7:bs=[]:=by simp at h7;exact h7
   have hby:byF bs n=0:=by unfold byF;rw[if_pos h7]
   refine eC (ae v0 v1) ?_
   refine JR (sg:=sg) (k:=0) ad h6 (Cu sg bs n) (bs:=bs) ?_ ?_ ?_ ?_ ?_ ?_ ?_ ?_ ?_ _ (fun e' o' nx' g1 g2 g3 g4 g5 g6=> ?_)
   ·omega
   ·exact bp
   ·exact bp
   ·exact bp
   ·exact bp
   ·exact bp
   ·exact bp
   ·exact v0
   ·exact v1
   refine gC (ae g1 (ae g2 (ae g3 (ae g4 (ae g5 g6))))) ?_
   refine aj (n+1) h6 ad (cX (O:=aw (fun _=> .no) 0 (.row sg.row)) (c:=1) EZ ad (fun j=>j=1) (.osl 1 1) _ (fun j e=>ad) (.inr ⟨1,1,rfl,rfl, ?_⟩) (fun j hj=> ?_) ?_)
   ·rw[Fe,hby]
    exact g6
   ·have:j=0:=ad
    subst this
    exact g5
   ·exact acE
 ·replace h6:n=20:=by simp at h6;omega
  subst h6
  exact rk (ae v0 v1)
theorem Ta(sg:az)(k:Int):(zf sg k).eP:=by
 unfold zf
 split
 ·simp[Tm.eP,Tm.zc]
 ·split<;>simp[Tm.eP,Tm.zc]
theorem JS(sg:az)(k:Int){t:Tm}(ht:t.eP):∀i,(mT sg k t i).eP
 |0=>ht
 |i+1=>by
  have h:=JS sg k ht i
  simp only[mT,Ma]
  split
  ·split
   ·simp[Tm.eP,Tm.zc,h]
   ·simp[Tm.eP,Tm.zc,h]
  ·split
   ·simp[Tm.eP,Tm.zc,h]
   ·exact h
theorem PY(sg:az)(bs:List Int):AQ (LO sg bs 20):=by
 refine⟨Cu _ _ _,fun i y hy=> ?_,fun y hy=> ?_⟩
 ·unfold LO at hy
  rw[List.getElem?_map]at hy
  cases h:(List.range 20)[i]? with
  |none=>rw[h]at hy;cases hy
  |some j=>
   rw[h]at hy
   injection hy with hy
   obtain⟨h1,h2⟩:=List.getElem?_eq_some_iff.1 h
   rw[List.getElem_range]at h2
   rw[<- hy, <- h2]
 ·obtain⟨j,_,rfl⟩:=List.mem_map.1 hy
  exact JS sg _ (Ta sg _) _
theorem Tb{s:b9}(h:bn s){P:List TB}(hP:AQ P):AQ (exR s P):=by
 unfold exR
 have key:∀ (l:List TB),(∀x∈l,x∈s.binds)->∀P,AQ P->AQ (l.foldl exS P):=by
  intro l
  induction l with
  |nil=>intro _ P hP;exact hP
  |cons x l ih=>
   intro hl P hP
   obtain⟨hr,hv⟩:=h.gA.ok x (hl x aF)
   exact ih (fun y hy=>hl y jX) _ (JH hP hr (js hv))
 exact key _ (fun x hx=>hx) P hP
theorem JT{s:b9}(h:bn s):∀ (n:Nat) {P:List TB},AQ P->AQ (WH s n P)
 |0,_,hP=>hP
 |n+1,_,hP=>JT h n (Tb h hP)
section
def frL(n:Nat):List TB:=(List.range n).map (fun(j:Nat)=>(⟨(j:Int), .mk 2 (5000000+(j:Int)) []⟩:TB))
section
variable {s:b9}{l:List TB}{ρ:Int->Nat}{R:Nat}
def cR(s:b9)(ρ:Int->Nat)(v:Int):Nat:=(ag s.binds).countP (fun p=>decide (ρ p.1<=ρ v))
def Rt(l P:List TB)(v:Int):Prop:=Lv (ag P) v=aO (ag (frL 20)) (Lv (ag l) v)
structure Rts (s:b9) (l:List TB) (ρ:Int->Nat) (P:List TB) (k:Nat):Prop where
 pnt:AQ P
 un:∀v,0<=v/\v<20->bR (ag s.binds) v=none->Rt l P v
 bd:∀x∈s.binds,cR s ρ x.var<=k->Rt l P x.var
end
end
def u6(sg:az):b9:=⟨sg,[],[],[]⟩
theorem mQ{sg:az}(h:jP sg=true):bn (u6 sg):=
 ⟨h,Nat.zero_le _,Nat.zero_le _,⟨Nat.zero_le _,List.nodup_nil,fun _ h=>lA,fun _ _ h=>lA,fun _ h=>lA⟩,fun _ h=>lA,rfl⟩
theorem AU{l:List TB}(h:∀x∈l,x.term.eP):∀x∈l,x.term.fits:=fun x hx=>Tm.mN _ (h x hx)
theorem JU(sg:az):EqB (u6 sg) []:=fun θ=>⟨fun _ x hx=>(by cases hx),fun _ p hp=>(by cases hp)⟩
theorem WN{s:b9}(h:bn s):∃ (l:List TB) (ru:Nt->List TB×Bool),qZ s l/\∀n∈s.aD,∃f,da f (aO (ag l) n.a) (aO (ag l) n.b) []=some (ru n):=by
 obtain⟨l,hl,_⟩:=LK h
 have ze:∀n:Nt,∃r:List TB×Bool,n∈s.aD->∃f,da f (aO (ag l) n.a) (aO (ag l) n.b) []=some r:=fun n=>by
  by_cases hn:n∈s.aD
  ·obtain⟨f,r,hr⟩:=mM _ _ (aO (ag l) n.a) (aO (ag l) n.b) [] (Nat.le_refl _) (Nat.le_refl _) dK.nil (hl.val _ (h.aD n hn).1).1 (hl.val _ (h.aD n hn).2.1).1
   exact⟨r,fun _=>⟨f,hr⟩⟩
  ·exact⟨([],false),fun h=>absurd h hn⟩
 exact⟨l,fun n=>(ze n).choose,hl,fun n hn=>(ze n).choose_spec hn⟩
theorem PZ{s:az}{l:List TB}(h:dK s l)(hs:∀x∈l,dI x.term=true):nG l=true:=by
 have:=h.len
 unfold nG
 rw[Bool.and_eq_true]
 exact⟨decide_eq_true ad,List.all_eq_true.2 hs⟩
def P0(P:List TB)(X:List TB):Bool:=X.any fun x=> !AR P (qY x) x.term
theorem JV{P X:List TB}:P0 P X=true↔ ¬Sat (ag P) (ag X):=by
 unfold P0 Sat
 rw[List.any_eq_true]
 constructor
 ·rintro⟨x,hx,h1⟩ h2
  have:=h2 _ (fe hx)
  have:AR P (qY x) x.term=true:=pI.2 (by unfold qY;rw[dJ];exact this)
  rw[this]at h1;cases h1
 ·intro h
  by_cases he:∃x∈X,(!AR P (qY x) x.term)=true
  ·exact he
  ·refine absurd (fun p hp=> ?_) h
   obtain⟨x,hx,rfl⟩:=cz hp
   cases hs:AR P (qY x) x.term with
   |true=>
    have:=pI.1 hs
    unfold qY at this
    rwa [dJ]at this
   |false=>exact absurd ⟨x,hx,by rw[hs];rfl⟩ he
def fmB(P l:List TB)(L:List (List TB)):Bool:= !P0 P l&&L.all (P0 P)
theorem aav{s:b9}(h:bn s){l:List TB}(hl:qZ s l){ru:Nt->List TB×Bool}(ze:∀n∈s.aD,∃f,da f (aO (ag l) n.a) (aO (ag l) n.b) []=some (ru n))(P:List TB):fmB P l (gJ ru s.aD)=WJ P s:=by
 rw[Bool.eq_iff_iff,S0,aao h hl ze]
 unfold fmB
 rw[Bool.and_eq_true,List.all_eq_true,Bool.not_eq_true', <- Bool.not_eq_true,JV,Classical.not_not]
 exact and_congr Iff.rfl (forall_congr' fun L=>forall_congr' fun _=>JV)
theorem Tc{s:b9}(h:bn s){l:List TB}(hl:qZ s l){ru:Nt->List TB×Bool}(ze:∀n∈s.aD,∃f,da f (aO (ag l) n.a) (aO (ag l) n.b) []=some (ru n)):∀X∈gJ ru s.aD,∀x∈X,x.term.eP:=fun X hX=>by
 obtain⟨n,hn,h2,rfl⟩:=wg.1 hX
 obtain⟨f,hf⟩:=ze n hn
 exact we f _ _ [] (ru n) hf (hl.val _ (h.aD n hn).1).2.1 (hl.val _ (h.aD n hn).2.1).2.1 (fun _ h=>by cases h)
theorem afB{s:az}{Q:List TB}(hQ:AQ Q){X:List TB}(hX:dK s X)(hf:∀x∈X,x.term.eP){p:Nat}{o:Nat->aa}(hp:o p= .row [.d (.sl (Q.map TB.d))]):
 Ry Tryz.prog 56 [.d (.sl (X.map TB.d)), .func (.func 57) [] [.ptr p 0]] o (.d (.bool (P0 Q X))):=fun nx hg K Y hK=>
 JO X (by have:=hX.len;omega) (fun x=> !AR Q (qY x) x.term) (fun x hx o nx hg hp K Y hK=>afv hQ (hX.ok x hx).1 (hX.ok x hx).2 (hf x hx) o nx hg hp K Y hK) o nx hg hp (hg.lt CJ) K Y hK
theorem afC{s:az}{Q:List TB}(hQ:AQ Q){X:List TB}(hX:dK s X)(hf:∀x∈X,x.term.eP){p:Nat}{o:Nat->aa}(hp:o p= .row [.d (.sl (Q.map TB.d))]):
 Ry Tryz.prog 56 [.d (.sl (X.map TB.d)), .func (.func 58) [] [.ptr p 0]] o (.d (.bool (P0 Q X))):=fun nx hg K Y hK=>
 JO X (by have:=hX.len;omega) (fun x=> !AR Q (qY x) x.term) (fun x hx o nx hg hp K Y hK=>afw hQ (hX.ok x hx).1 (hX.ok x hx).2 (hf x hx) o nx hg hp K Y hK) o nx hg hp (hg.lt CJ) K Y hK
theorem wk{α:Type}{l:List α}{k:Nat}{x z:α}(h:l[k]? =some x):z∈l.take (k+1)↔z∈l.take k\/z=x:=by
 rw[List.take_add_one,h]
 simp
theorem Ff{α:Type}{l:List α}{m:Nat}{x z:α}:z∈l.take m++[x]++l.drop m↔z∈l\/z=x:=by
 have:z∈l↔z∈l.take m\/z∈l.drop m:=by
  rw[<- List.mem_append,List.take_append_drop]
 rw[this]
 simp only[List.mem_append,List.mem_singleton]
 constructor
 ·rintro((h|h)|h)
  ·exact .inl (.inl h)
  ·exact .inr h
  ·exact .inl (.inr h)
 ·rintro((h|h)|h)
  ·exact .inl (.inl h)
  ·exact .inr h
  ·exact .inl (.inr h)
def WO(Q l:List TB)(NS:List (List TB))(j:Nat):Bool:= !P0 Q l&&(NS.take j).all (P0 Q)
theorem P1{Q l:List TB}{NS:List (List TB)}{j:Nat}{X:List TB}(h:NS[j]? =some X):WO Q l NS (j+1)=(WO Q l NS j&&P0 Q X):=by
 unfold WO
 rw[List.take_add_one,h,List.all_append,Bool.and_assoc]
 simp
theorem Td{Q l:List TB}{NS:List (List TB)}:WO Q l NS NS.length=fmB Q l NS:=by
 unfold WO fmB
 rw[List.take_length]
theorem P3{Q l:List TB}{NS:List (List TB)}:WO Q l NS 0= !P0 Q l:=by simp[WO]
def WQ(sg:az)(s:b9)(l:List TB)(NS PL:List (List TB)):Nat->aa:=
 aw (aw (aw (aw (aw (aw (fun _=> .no) 0 (.row sg.row)) 14 (.row [.ao, .ao, .ao, .ao, .ao])) 14 (.row s.row)) 25 (.row [.ao, .ao])) 25 (.row [.d (.sl (l.map TB.d)), .d (.sl (NS.map CH))])) 57 (.arr 0 25 1 (PL.map fun Q=>D.sl (Q.map TB.d)))
theorem Cv(hkn:a7 Tryz.prog 14 [] (.ret [.bool true]))(sg:az)(hs:sg.Fits)(l:List Sy)(hl:l.length<=9223372036854775807)(M0:∀x∈l,x.a.fits/\x.b.fits)(bs:List Int)(rA:bs.length<=9223372036854775807)(MO:∀x∈bs,0<=x/\x<=255):
 a7 Tryz.prog 12 [sg.d, .sl (l.map Sy.d), .sl (bs.map (D.int .u8))] (.ret [.bool true]):=by
 obtain⟨r1,hr1⟩:∃r1:Bool,r1=true↔JG sg l:=by
  classical
  exact⟨decide (JG sg l),aF⟩
 have c1:=SW sg hs l hl M0 hr1
 refine a7.aH mix agY aF ?_
 rw[c12]
 refine ra ?_
 refine ax c1 rfl ?_
 cases r1 with
 |false=>
  refine cS ?_
  refine ax hkn rfl ?_
  exact qo
 |true=>
  have R1:=hr1.1 rfl
  have cpt:=S9 sg bs MO rA
  have hP0:=PY sg bs
  have h14:=R1.len
  obtain⟨a1,a2,a3,a4⟩:=Cl l (mQ R1.sig) hs R1.ok
  have a5:=wh l (mQ R1.sig) hs R1.ok (own:=[]) (JU sg)
  have a6:=(Cr l (u6 sg)).length_le
  have ca:=WG (u6 sg) (mQ R1.sig) hs R1.sm l ad R1.ok
  cases hp:sU (u6 sg) l with
  |mk s own=>
  rw[hp]at a1 a2 a3 a4 a5 a6 ca
  dsimp only at a1 a2 a3 a4 a5 a6 ca
  rw[List.nil_append]at a5
  have afD:s.sig=sg:=a2
  have hfs:s.sig.Fits:=by rw[afD];exact hs
  obtain⟨lf,ru,Jv,ze⟩:=WN a1
  have ah1:=Jv.zd.len
  have uL:=a1.sI
  have cso:=ym s (a1.fin hfs) a1 Jv ze
  have csm:=Cb lf ad (AU Jv.eP)
  rw[PZ Jv.zd (PI a1 Jv)]at csm
  have hns:=aan a1 Jv ze
  have hnn:=JD ru s.aD
  have hfm:=aav a1 Jv ze
  have hnf:=Tc a1 Jv ze
  generalize gJ ru s.aD=NS at cso hns hnn hfm hnf
  have lL:decide ((NS.length:Int)>s.aD.length)=false:=decide_eq_false ad
  have Om:NS.any S5=false:=by
   rw[List.any_eq_false]
   intro X hX
   obtain⟨q1,q2,_⟩:=hns X hX
   unfold S5
   rw[decide_eq_false (by omega),decide_eq_false (by omega)]
   decide
  refine ra ?_
  refine bC ca ?_
  refine ra ?_
  refine bC cso ?_
  refine ra ?_
  refine ax csm rfl ?_
  refine eC lL ?_
  refine aT (Ry.back (x:= .bool (NS.any S5)) (fun nx hg K Y hK=>S4 NS ad S5 (fun X hX o nx hg K Y hK=>ah4 X (by have:=(hns X hX).2.1;omega) o nx hg K Y hK) _ nx hg K Y hK) ?_ ?_)
  ·exact dx
  rw[Om]
  refine ra ?_
  refine bC cpt ?_
  refine ra ?_
  generalize LO sg bs 20=P at hP0|-
  refine bC (Hr a1 hP0) ?_
  have hQ:AQ (WH s s.binds.length P):=JT a1 _ hP0
  have so1:=yp a1 hP0
  have so2:=yp a1 hQ
  generalize WH s s.binds.length P=P2 at so2 hQ|-
  refine ra ?_
  obtain⟨PL,hPL⟩:∃PL:List (List TB),PL=[P,P2]:=⟨_,rfl⟩
  have hlen:PL.length=2:=by rw[hPL];rfl
  have hPn:∀Q∈PL,AQ Q:=fun Q hQ'=>by
   rw[hPL]at hQ'
   rcases List.mem_cons.1 hQ' with rfl|hQ'
   ·exact hP0
   ·rw[List.mem_singleton.1 hQ'];exact hQ
  have CF:Good (WQ sg s lf NS PL) 60:=by unfold WQ;exact dx
  refine aC (fun i:Nat=>⟨aY (.ai:: .ai:: .d (.sl (bs.map (D.int .u8))):: .ptr 0 0:: .ai:: .ai:: .ai:: .ptr 14 0:: .d (.sl (own.map Sy.d)):: .ai:: .ptr 25 0::dy (dy (dy (dy (dy (dy (dy [.ai, .ai, .ai, .ai, .ai, .ai, .ai, .osl 57 0, .d (.i 2), .d (.i i)]))))))),WQ sg s lf NS PL,60⟩)
   (fun i=>i<=2) (fun i=>2 - i) 0 (Nat.zero_le _) ?_ (fun i hi=> ?_)
  ·refine bM.bQ _ ad ad CF (fun j hj=>by rw[hPL];rfl) ?_
   exact dU
  have hi:i<=2:=hi
  clear hPL so1 so2 hP0 hQ
  have v0:WQ sg s lf NS PL 0= .row sg.row:=rfl
  have v14:WQ sg s lf NS PL 14= .row s.row:=rfl
  have v25:WQ sg s lf NS PL 25= .row [.d (.sl (lf.map TB.d)), .d (.sl (NS.map CH))]:=rfl
  have v57:WQ sg s lf NS PL 57= .arr 0 25 1 (PL.map fun Q=>D.sl (Q.map TB.d)):=rfl
  generalize hO:WQ sg s lf NS PL=O at CF v0 v14 v25 v57|-
  refine eC (ae v0 (ae v14 (ae v25 (ae v57 hlen)))) ?_
  refine ak (fun h6=> ?_) (fun h6=> ?_)
  ·replace h6:i<2:=by simp at h6;omega
   obtain⟨Q,hQ⟩:=aA (show i<PL.length from ad)
   have hQp:=hPn Q (List.mem_of_getElem? hQ)
   refine eC (ae v0 (ae v14 (ae v25 (ae v57 hQ)))) ?_
   refine aT (Ry.back (afB hQp Jv.zd Jv.eP ?_) ?_ ?_)
   ·exact bp
   ·exact((CF.mono ad).aw ad rfl).aw ad rfl
   refine eC (ae v0 (ae v14 (ae v25 (ae v57 hQ)))) ?_
   have hg2:Good (aw (aw O 63 (.row [.ao])) 63 (.row [.d (.sl (Q.map TB.d))])) 64:=((CF.mono ad).aw ad rfl).aw ad rfl
   have u63:aw (aw O 63 (.row [.ao])) 63 (.row [.d (.sl (Q.map TB.d))]) 63= .row [.d (.sl (Q.map TB.d))]:=bp
   have u14:aw (aw O 63 (.row [.ao])) 63 (.row [.d (.sl (Q.map TB.d))]) 14= .row s.row:=gW v14
   refine aC (fun j:Nat=>⟨aY (.ai:: .ai:: .d (.sl (bs.map (D.int .u8))):: .ptr 0 0:: .ai:: .ai:: .ai:: .ptr 14 0:: .d (.sl (own.map Sy.d)):: .ai:: .ptr 25 0:: .ai:: .ai:: .ai:: .ptr 63 0:: .d (.bool (WO Q lf NS j))::dy (dy (dy (dy (dy (dy (dy (.ai:: .ai:: .osl 57 0:: .d (.i 2):: .d (.i i)::dy [.ai, .d (.sl (NS.map CH)), .d (.i NS.length), .d (.i j)])))))))),aw (aw O 63 (.row [.ao])) 63 (.row [.d (.sl (Q.map TB.d))]),64⟩)
    (fun j=>j<=NS.length) (fun j=>NS.length - j) 0 (Nat.zero_le _) ?_ (fun j hj=> ?_)
   ·refine bM.bQ _ ad ad hg2 (fun j hj=>rfl) ?_
    rw[P3]
    exact dU
   have hj:j<=NS.length:=hj
   refine ra ?_
   refine ak (fun h7=> ?_) (fun h7=> ?_)
   ·replace h7:j<NS.length:=by simp at h7;omega
    obtain⟨X,hX⟩:=aA h7
    have hXm:=List.mem_of_getElem? hX
    have hsu:=P1 (Q:=Q) (l:=lf) hX
    refine eC hX ?_
    refine aT (Ry.back (afC hQp (hns X hXm).2.2 (hnf X hXm) u63) ?_ ?_)
    ·exact hg2.mono ad
    cases hb:P0 Q X with
    |true=>
     rw[hb,Bool.and_true]at hsu
     exact acI
    |false=>
     rw[hb,Bool.and_false]at hsu
     exact acI
   ·replace h7:j=NS.length:=by simp at h7;omega
    subst h7
    rw[Td,hfm]
    refine eC (ae u14 u63) ?_
    refine ax (yp a1 hQp) rfl ?_
    refine abx (ae u14 u63) ?_
    refine aj (i+1) (by show i+1<=2;omega) ad (bM.bQ _ ad ad CF (fun j hj=>bp) ?_)
    exact dU
  ·replace h6:i=2:=by simp at h6;omega
   subst h6
   refine eC (ae v0 (ae v14 (ae v25 v57))) ?_
   refine aC (fun p:Nat×List Sy=>⟨aY (.ai:: .ai:: .d (.sl (bs.map (D.int .u8))):: .ptr 0 0:: .ai:: .ai:: .ai:: .ai:: .ai:: .ai:: .ptr 25 0:: .ai:: .ai:: .ai:: .ai:: .ai:: .ai:: .ai:: .osl 60 0::dy (dy (dy (dy (dy (dy (dy (dy (dy (dy [.ai, .ai, .ai, .ai, .d (.sl (own.map Sy.d)), .d (.i own.length), .d (.i p.1)])))))))))),aw O 60 (.arr 0 53 7 (p.2.map Sy.d)),61⟩)
    (fun p=>p.1<=own.length/\p.2.length<=p.1/\∀x,x∈p.2↔x∈own.take p.1/\x.no=false) (fun p=>own.length - p.1) (0,[]) ⟨Nat.zero_le _,Nat.le_refl _,fun x=>aF⟩ ?_ ?_
   ·refine cX CF ad (fun _=>False) .ao _ (fun _ h=>h.elim) (.inl ⟨rfl,rfl,bF⟩) (fun j hj=>rfl) ?_
    exact iV
   rintro⟨k,ql⟩ ⟨hk,hol,jD⟩
   dsimp only at hk hol jD|-
   have FE:aw O 60 (.arr 0 53 7 (ql.map Sy.d)) 60= .arr 0 53 7 (ql.map Sy.d):=bp
   have w0:aw O 60 (.arr 0 53 7 (ql.map Sy.d)) 0= .row sg.row:=gW v0
   have HX:aw O 60 (.arr 0 53 7 (ql.map Sy.d)) 25= .row [.d (.sl (lf.map TB.d)), .d (.sl (NS.map CH))]:=gW v25
   generalize hO2:aw O 60 (.arr 0 53 7 (ql.map Sy.d))=O2 at FE w0 HX|-
   refine eC (ae w0 (ae HX FE)) ?_
   refine ak (fun h8=> ?_) (fun h8=> ?_)
   ·replace h8:k<own.length:=by simp at h8;omega
    obtain⟨x,hx⟩:=aA h8
    refine eC (ae w0 (ae HX (ae FE hx))) ?_
    have hkb:k<=14:=ad
    refine ak (fun h9=> ?_) (fun h9=> ?_)
    ·replace h9:0<bs.length:=by simp at h9;omega
     have hm:k%bs.length<bs.length:=Nat.mod_lt _ h9
     obtain⟨y,hy⟩:=aA hm
     have hyb:=MO y (List.mem_of_getElem? hy)
     have hw:IntKind.i64.wrap y=y:=wrap64 ad ad
     have ht:((k:Int).tmod (bs.length:Int))=((k%bs.length:Nat):Int):=by rw[Int.tmod_eq_emod_of_nonneg (by omega)];exact(Int.natCast_emod k bs.length).symm
     have hz:(bs.length:Int)≠0:=ad
     have hz1:((k:Int)+1)≠0:=ad
     obtain⟨at',FV⟩:∃a:Nat,y.tmod ((k:Int)+1)=(a:Int):=⟨(y.tmod ((k:Int)+1)).toNat,by rw[Int.toNat_of_nonneg (Int.tmod_nonneg _ hyb.1)]⟩
     obtain⟨m,Sh,Fq⟩:∃m:Nat,(if(ql.length:Int)<(at':Int)then(ql.length:Int)else(at':Int))=(m:Int)/\m<=ql.length:=by
      split
      ·exact⟨ql.length,rfl,Nat.le_refl _⟩
      ·exact⟨at',rfl,ad⟩
     cases jK:x.no with
     |true=>
      refine eC (ae w0 (ae HX (ae FE (ae hx (ae jK (ae hy (ae hw (ae ht (ae hz (ae hz1 (ae FV Sh))))))))))) ?_
      refine aj (k+1,ql) ⟨h8,Nat.le_succ_of_le hol,fun z=> ?_⟩ iT (cX CF ad (fun j=>60<=j) (.osl 60 0) _ (fun _ h=>h) (.inr ⟨60,0,ad,rfl, ?_⟩) (fun j hj=> ?_) ?_)
      ·rw[wk hx,jD z]
       constructor
       ·rintro⟨q1,q2⟩
        exact⟨.inl q1,q2⟩
       ·rintro⟨q1|q1,q2⟩
        ·exact⟨q1,q2⟩
        ·rw[q1,jK]at q2;cases q2
      ·exact QA
      ·rw[<- hO2]
       exact bp
      ·exact iV
     |false=>
      refine eC (ae w0 (ae HX (ae FE (ae hx (ae jK (ae hy (ae hw (ae ht (ae hz (ae hz1 (ae FV Sh))))))))))) ?_
      refine bI (JQ (id:=60) (ep:=0) (id2:=92) (ep2:=0) (es:=ql.map Sy.d) (x:=x.d) (i:=m) ?_ ?_ bF (by rw[List.length_map];omega) (by rw[List.length_map];exact Fq) ?_)
      ·exact QA
      ·rw[ab];unfold Sy.d;rw[jK]
      refine eC (ae w0 (ae HX FE)) ?_
      refine aj (k+1,ql.take m++[x]++ql.drop m) ⟨h8,by simp only[List.length_append,List.length_take,List.length_drop,List.length_singleton];omega,fun z=> ?_⟩ iT (cX CF ad (fun j=>60<=j) (.osl 60 1) _ (fun _ h=>h) (.inr ⟨60,1,ad,rfl, ?_⟩) (fun j hj=> ?_) ?_)
      ·rw[wk hx,Ff,jD z]
       constructor
       ·rintro(⟨q1,q2⟩|q1)
        ·exact⟨.inl q1,q2⟩
        ·rw[q1];exact⟨.inr rfl,jK⟩
       ·rintro⟨q1|q1,q2⟩
        ·exact .inl ⟨q1,q2⟩
        ·exact .inr q1
      ·exact Tx
      ·rw[<- hO2]
       exact bp
      ·exact iV
    ·have h9:bs=[]:=by simp at h9;exact h9
     obtain⟨m,Sh,Fq⟩:∃m:Nat,(if(ql.length:Int)<0 then(ql.length:Int)else 0)=(m:Int)/\m<=ql.length:=by
      split
      ·exact⟨ql.length,rfl,Nat.le_refl _⟩
      ·exact⟨0,rfl,Nat.zero_le _⟩
     cases jK:x.no with
     |true=>
      refine eC (ae w0 (ae HX (ae FE (ae hx (ae jK Sh))))) ?_
      refine aj (k+1,ql) ⟨h8,Nat.le_succ_of_le hol,fun z=> ?_⟩ iT (cX CF ad (fun j=>60<=j) (.osl 60 0) _ (fun _ h=>h) (.inr ⟨60,0,ad,rfl, ?_⟩) (fun j hj=> ?_) ?_)
      ·rw[wk hx,jD z]
       constructor
       ·rintro⟨q1,q2⟩
        exact⟨.inl q1,q2⟩
       ·rintro⟨q1|q1,q2⟩
        ·exact⟨q1,q2⟩
        ·rw[q1,jK]at q2;cases q2
      ·exact QA
      ·rw[<- hO2]
       exact bp
      ·exact iV
     |false=>
      refine eC (ae w0 (ae HX (ae FE (ae hx (ae jK Sh))))) ?_
      refine bI (JQ (id:=60) (ep:=0) (id2:=80) (ep2:=0) (es:=ql.map Sy.d) (x:=x.d) (i:=m) ?_ ?_ bF (by rw[List.length_map];omega) (by rw[List.length_map];exact Fq) ?_)
      ·exact QA
      ·rw[ab];unfold Sy.d;rw[jK]
      refine eC (ae w0 (ae HX FE)) ?_
      refine aj (k+1,ql.take m++[x]++ql.drop m) ⟨h8,by simp only[List.length_append,List.length_take,List.length_drop,List.length_singleton];omega,fun z=> ?_⟩ iT (cX CF ad (fun j=>60<=j) (.osl 60 1) _ (fun _ h=>h) (.inr ⟨60,1,ad,rfl, ?_⟩) (fun j hj=> ?_) ?_)
      ·rw[wk hx,Ff,jD z]
       constructor
       ·rintro(⟨q1,q2⟩|q1)
        ·exact⟨.inl q1,q2⟩
        ·rw[q1];exact⟨.inr rfl,jK⟩
       ·rintro⟨q1|q1,q2⟩
        ·exact .inl ⟨q1,q2⟩
        ·exact .inr q1
      ·exact Tx
      ·rw[<- hO2]
       exact bp
      ·exact iV
   ·replace h8:k=own.length:=by simp at h8;omega
    subst h8
    refine eC (ae w0 (ae HX FE)) ?_
    have hoo:∀x∈ql,x.Ok sg:=fun x hx=>R1.ok x (a4 x (List.mem_of_mem_take ((jD x).1 hx).1))
    obtain⟨b1,b2,b3,b4⟩:=Cl ql (mQ R1.sig) hs hoo
    have b5:=wh ql (mQ R1.sig) hs hoo (own:=[]) (JU sg)
    have b6:=Cr ql (u6 sg)
    have cb:=WG (u6 sg) (mQ R1.sig) hs R1.sm ql ad hoo
    cases Ig:sU (u6 sg) ql with
    |mk t again=>
    rw[Ig]at b1 b2 b3 b4 b5 b6 cb
    dsimp only at b1 b2 b3 b4 b5 b6 cb
    rw[List.nil_append]at b5
    have afE:t.sig=sg:=b2
    have hft:t.sig.Fits:=by rw[afE];exact hs
    refine bC cb ?_
    refine eC (ae w0 (ae HX FE)) ?_
    by_cases hle:again.length=ql.length
    ·have hag:again=ql:=b6.eq_of_length hle
     have hd:((again.length:Int)!=(ql.length:Int))=false:=by rw[hle];simp
     obtain⟨lg,ru2,hlg,aia⟩:=WN b1
     have csg:=ym t (b1.fin hft) b1 hlg aia
     have aib:lf=lg:=by
      refine S3 a1 b1 (by rw[afE,afD]) Jv hlg fun θ=> ?_
      rw[a5 θ,b5 θ,hag]
      rw[List.take_length]at jD
      constructor
      ·intro q x hx hn
       exact q x ((jD x).1 hx).1 hn
      ·intro q x hx hn
       exact q x ((jD x).2 ⟨hx,hn⟩) hn
     subst aib
     have csb:=ya lf ad (AU Jv.eP)
     refine eC (ae w0 (ae HX (ae FE hd))) ?_
     refine bC csg ?_
     refine eC (ae w0 (ae HX (ae FE hd))) ?_
     refine ax csb rfl ?_
     exact Ud
    ·have hd:((again.length:Int)!=(ql.length:Int))=true:=by
      rw[bne_iff_ne]
      omega
     exact Ud
end Go.Proofs.YtlhemmpklhhgoaaGreat
section
namespace Go.Proofs.YtlhemmpklhhgoaaGreat
open Go.ChangeShapes Go.WideShapes Go.RowKit
def yw(P:Program)(rec:TypeId->Option (List TypeId)):Nat->List Field->Option (List TypeId)
 |_,[]=>some []
 |off,f::fs=>if f.offset=off then match rec f.type with
  |some l=>if P.cellsOf f.type=l.length then(yw P rec (off+l.length) fs).map (l++·)else none
  |none=>none else none
def nQ(P:Program):Nat->TypeId->Option (List TypeId)
 |0,_=>none
 |n+1,t=>match P.underlying t with
  |some .bool|some (.int _)|some .string|some (.slice _)=>some [t]
  |some (.struct fs)=>yw P (nQ P n) 0 fs.toList
  |some (.array k e)=>match nQ P n e with
   |some l=>if P.cellsOf e=l.length then some (List.replicate k l).flatten else none
   |none=>none
  |_=>none
def isAgg(P:Program)(t:TypeId):Bool:=match P.underlying t with
 |some (.struct _)|some (.array _ _)=>true
 |_=>false
mutual
def D.iU (P:Program):D->TypeId->Prop
 | .int k n,t=>P.underlying t=some (.int k)/\(Lit.int k n).wf=true
 | .bool _,t=>P.underlying t=some .bool
 | .str l,t=>P.underlying t=some .string/\l.length<=maxLen
 | .sl es,t=>∃e,P.underlying t=some (.slice e)/\es.length<=maxLen/\D.LP P es e
 | .agg cs,t=>isAgg P t=true/\∃ls,nQ P 20 t=some ls/\D.jH P cs ls
 |_,_=>False
def D.LP (P:Program):List D->TypeId->Prop
 |[],_=>True
 |x::l,e=>D.iU P x e/\D.LP P l e
def D.jH (P:Program):List D->List TypeId->Prop
 |[],ts=>ts=[]
 |x::l,ts=>∃t r,ts=t::r/\D.iU P x t/\D.jH P l r
end
def wm(P:Program)(T:List TypeId):Bool:=T.all fun t=>match nQ P 20 t with
 |some l=>decide (l.length=P.cellsOf t)&&decide (0<l.length)&&l.all fun u=>match P.underlying u with
  |some (.slice e)=>T.contains e
  |_=>true
 |none=>false
theorem sW{P:Program}:∀ {xs ys:List D} {l r:List TypeId},D.jH P xs l->D.jH P ys r->D.jH P (xs++ys) (l++r)
 |[],_,_,_,h,h'=>by simp only[D.jH]at h;subst h;exact h'
 |x::xs,_,_,_,h,h'=>by
  obtain⟨t,r,rfl,h1,h2⟩:=h
  exact⟨t,_,rfl,h1,sW h2 h'⟩
theorem bg{B:Nat->Prop}{w:World}:∀ {xs ys:List D} {l r:List Value},D.aG B w xs l->D.aG B w ys r->D.aG B w (xs++ys) (l++r)
 |[],_,_,_,h,h'=>by simp only[D.aG]at h;subst h;exact h'
 |x::xs,_,_,_,h,h'=>by
  obtain⟨t,r,rfl,h1,h2⟩:=h
  exact⟨t,_,rfl,h1,bg h2 h'⟩
theorem Flat.append {l r:List Value}(h:Flat l)(h':Flat r):Flat (l++r):=fun u hu=>(List.mem_append.1 hu).elim (h u) (h' u)
abbrev noB:Nat->Prop:=fun _=>False
section
variable {H:Type}{enc:TypeId×Value->H}{P:Program}{W:World}{T:List TypeId}{b0:Nat}
def dP(P:Program)(W:World)(l:List TypeId)(cs:List Value):Prop:=∃xs,D.jH P xs l/\D.aG noB W xs cs/\Flat cs
theorem dP.append {l r:List TypeId}{cs ds:List Value}(h:dP P W l cs)(h':dP P W r ds):dP P W (l++r) (cs++ds):=by
 obtain⟨xs,a1,a2,a3⟩:=h
 obtain⟨ys,b1,b2,b3⟩:=h'
 exact⟨xs++ys,sW a1 b1,bg a2 b2,a3.append b3⟩
theorem dP.length {l:List TypeId}{cs:List Value}(h:dP P W l cs):cs.length=l.length:=by
 obtain⟨xs,a1,a2,_⟩:=h
 rw[D.aE _ _ a2]
 clear a2
 induction xs generalizing l with
 |nil=>simp only[D.jH]at a1;simp[a1]
 |cons x xs ih=>obtain⟨t,r,rfl,_,h⟩:=a1;simp[ih h]
theorem dP.nil:dP P W [] []:=⟨[],rfl,rfl,fun _ h=>by cases h⟩
theorem Fg{α:Type}(cs:List α)(o k:Nat):cs.drop o=(cs.drop o).take k++cs.drop (o+k):=by
 rw[<- List.drop_drop];exact(List.take_append_drop k _).symm
theorem sX{rec:TypeId->Option (List TypeId)}{cs:List Value}{rd:TypeId->List Value->Prop}
 (bP:∀t l vs,rec t=some l->(∀u∈l,∀e,P.underlying u=some (.slice e)->e∈T)->P.cellsOf t=l.length->rd t vs->dP P W l vs):
 ∀ (fs:List Field) (off:Nat) (l:List TypeId),yw P rec off fs=some l->(∀u∈l,∀e,P.underlying u=some (.slice e)->e∈T)->(∀f∈fs,rd f.type ((cs.drop f.offset).take (P.cellsOf f.type)))->
   off+l.length=cs.length->dP P W l (cs.drop off)
 |[],off,l,h,_,_,hl=>by
  simp only[yw,Option.some.injEq]at h
  subst h
  have:cs.drop off=[]:=List.drop_eq_nil_of_le (by simp at hl;omega)
  rw[this];exact dP.nil
 |f::fs,off,l,h,hT,hr,hl=>by
  simp only[yw]at h
  split at h
  ·rename_i ho
   split at h
   ·rename_i l1 h1
    split at h
    ·rename_i hc
     simp only[Option.map_eq_some_iff]at h
     obtain⟨r,h2,rfl⟩:=h
     have hd:=hr f aF
     rw[ho,hc]at hd
     rw[Fg cs off l1.length]
     simp only[List.length_append]at hl
     exact(bP f.type l1 _ h1 (fun u hu=>hT u (by simp[hu])) hc hd).append (sX bP fs _ r h2 (fun u hu=>hT u (by simp[hu])) (fun f hf=>hr f (by simp[hf])) ad)
    ·cases h
   ·cases h
  ·cases h
theorem u7{l:List TypeId}{cs:List Value}:∀ (k i:Nat),(∀j,j<k->dP P W l ((cs.drop ((i+j)*l.length)).take l.length))->(i+k)*l.length=cs.length->dP P W (List.replicate k l).flatten (cs.drop (i*l.length))
 |0,i,_,hl=>by
  have:cs.drop (i*l.length)=[]:=List.drop_eq_nil_of_le (by simp at hl;omega)
  rw[this];exact dP.nil
 |k+1,i,h,hl=>by
  rw[List.replicate_succ,List.flatten_cons,Fg cs (i*l.length) l.length]
  refine(by simpa using h 0 ad:dP P W l _).append ?_
  rw[show i*l.length+l.length=(i+1)*l.length by rw[Nat.add_mul];omega]
  refine u7 k (i+1) (fun j hj=> ?_) (by rw[<- hl];congr 1;omega)
  have:=h (j+1) ad
  rwa [show i+(j+1)=i+1+j by omega]at this
theorem Fh{e:TypeId}{l:List TypeId}{cs:List Value}(hl:nQ P 20 e=some l)(h:dP P W l cs):∃ (ev:Value) (x:D),ev.cells.toList=cs/\D.iU P x e/\D.den noB W x ev/\(isAgg P e=true->ev= .agg cs.toArray)/\(isAgg P e=false->cs=[ev]/\ev.oneCell'=true):=by
 obtain⟨xs,h1,h2,h3⟩:=h
 cases ha:isAgg P e with
 |true=>exact⟨.agg cs.toArray, .agg xs,by simp[Value.cells],⟨ha,l,hl,h1⟩,⟨_,rfl,by simpa using h2,by simpa using h3⟩,fun _=>rfl,(fun h=>by cases h)⟩
 |false=>
  have:l=[e]:=by
   unfold nQ at hl
   unfold isAgg at ha
   split at hl<;>simp_all
  subst this
  obtain⟨t,r,e1,h4,h5⟩:∃x r,xs=x::r/\D.iU P x e/\D.jH P r []:=by
   cases xs with
   |nil=>simp[D.jH]at h1
   |cons x r=>obtain⟨t,r',e1,h4,h5⟩:=h1;injection e1 with e1 e2;subst e1;subst e2;exact⟨x,r,rfl,h4,h5⟩
  subst e1
  have:r=[]:=by cases r with
   |nil=>rfl
   |cons y r=>obtain⟨_,_,e,_⟩:=h5;cases e
  subst this
  obtain⟨u,us,rfl,h6,h7⟩:=h2
  simp only[D.aG]at h7
  subst h7
  have ho:=h3 u aF
  refine⟨u,t, ?_,h4,h6,(fun h=>by cases h),fun _=>⟨rfl,ho⟩⟩
  cases u<;>simp_all[Value.oneCell',Value.cells]
theorem Fi(hp:wm P T=true){t:TypeId}(ht:t∈T):∃l,nQ P 20 t=some l/\l.length=P.cellsOf t/\0<l.length/\∀u∈l,∀e,P.underlying u=some (.slice e)->e∈T:=by
 have:=List.all_eq_true.1 hp t ht
 split at this
 ·rename_i l hl
  simp only[Bool.and_eq_true,decide_eq_true_eq,List.all_eq_true]at this
  refine⟨l,hl,this.1.1,this.1.2,fun u hu e he=> ?_⟩
  have:=this.2 u hu
  rw[he]at this
  simpa using this
 ·cases this
theorem Hv(hp:wm P T=true):∀ (n m:Nat) (t:TypeId) (l:List TypeId) (cs:List Value) (x:DataW H×List MemPlace),nQ P m t=some l->(∀u∈l,∀e,P.underlying u=some (.slice e)->e∈T)->
 P.cellsOf t=l.length->DataW.trod enc P W 0 (fun _=>true) true n t cs=some x->dP P W l cs:=by
 intro n
 induction n with
 |zero=>intro m t l cs x _ _ _ h;simp[DataW.trod]at h
 |succ n ih=>
  intro m t l cs x hl hT hc h
  cases m with
  |zero=>simp[nQ]at hl
  |succ m=>
  unfold nQ at hl
  split at hl
  ·rename_i hu
   injection hl with hl;subst hl
   obtain⟨b,rfl,_⟩:=DataW.trod_bool hu h
   exact⟨[.bool b],⟨t,[],rfl,hu,rfl⟩,⟨_,_,rfl,rfl,rfl⟩,by simp[Flat,Value.oneCell']⟩
  ·rename_i k hu
   injection hl with hl;subst hl
   obtain⟨b,rfl,_,hw⟩:=DataW.trod_int hu h
   exact⟨[.int k b],⟨t,[],rfl,⟨hu,hw⟩,rfl⟩,⟨_,_,rfl,rfl,rfl⟩,by simp[Flat,Value.oneCell']⟩
  ·rename_i hu
   injection hl with hl;subst hl
   obtain⟨s,rfl,_,hw⟩:=DataW.trod_string hu h
   exact⟨[.str s.data.toList],⟨t,[],rfl,⟨hu,by simpa using hw⟩,rfl⟩,⟨_,_,rfl,⟨s,rfl,rfl⟩,rfl⟩,by simp[Flat,Value.oneCell']⟩
  ·rename_i e hu
   injection hl with hl;subst hl
   rcases DataW.trod_slice hu h with⟨rfl,_⟩|⟨a,len,cap,elems,rest,n',hn,rfl,_,_,h2,h3,h4,h5,h6,_⟩
   ·exact⟨[.sl []],⟨t,[],rfl,⟨e,hu,aF,trivial⟩,rfl⟩,⟨_,_,rfl,⟨none,0,0,rfl,rfl,aF,fun _=>rfl,0,(fun a ha=>by cases ha)⟩,rfl⟩,by simp[Flat,Value.oneCell']⟩
   ·injection hn with hn;subst hn
    obtain⟨l',g1,g2,g3,g4⟩:=Fi hp (hT t aF e hu)
    have at':∀i,i<len->∃ev:Value,∃y:D,ev.cells.size=P.cellsOf e/\iB noB W (a.add (i*P.cellsOf e)) ev.cells/\D.den noB W y ev/\D.iU P y e:=by
     intro i hi
     have:=h5 i hi
     rw[List.getElem?_eq_getElem (by omega)]at this
     obtain⟨ci,k1,k2⟩:=Option.bind_eq_some_iff.1 this
     obtain⟨_,k3,k4⟩:=World.cells?_some k1
     have k5:=ih 20 e l' ci _ g1 g4 g2.symm k2
     obtain⟨ev,y,q1,q2,q3,_,_⟩:=Fh g1 k5
     have q4:ev.cells=ci.toArray:=by rw[<- q1]
     refine⟨ev,y,by rw[q4];simp[k5.length,g2],fun j u hj=>⟨?_,fun h=>h⟩,q3,q2⟩
     rw[q4]at hj
     have LV:ci[j]? =some u:=by simpa using hj
     have cD:j<P.cellsOf e:=by rw[<- g2, <- k5.length];exact(List.getElem?_eq_some_iff.1 LV).1
     rw[k4 j cD];exact LV
    have list:∀k i,i+k=len->∃es,es.length=k/\D.LP P es e/\D.elems noB W (P.cellsOf e) a i es:=by
     intro k
     induction k with
     |zero=>intro i _;exact⟨[],rfl,trivial,trivial⟩
     |succ k vC=>
      intro i hi
      obtain⟨es,e1,e2,e3⟩:=vC (i+1) ad
      obtain⟨ev,y,y1,y2,y3,y4⟩:=at' i ad
      exact⟨y::es,by simp[e1],⟨y4,e2⟩,⟨ev,y1,y2,y3⟩,e3⟩
    obtain⟨es,e1,e2,e3⟩:=list len 0 ad
    have afF:cap≠0->a.spot=none:=by
     intro dR
     have WR:∀z,(W.cells? 0 (a.add (0*P.cellsOf e)) (P.cellsOf e)).bind (DataW.trod enc P W 0 (fun _=>true) true n e)=some z->a.spot=none:=by
      intro z hz
      obtain⟨ci,k1,k2⟩:=Option.bind_eq_some_iff.1 hz
      obtain⟨_,k3,k4⟩:=World.cells?_some k1
      have k5:=k4 0 ad
      rw[List.getElem?_eq_getElem (by omega)]at k5
      simpa[Addr.add]using World.cell?_spot k5
     by_cases hlen:0<len
     ·have:=h5 0 hlen
      rw[List.getElem?_eq_getElem (by omega)]at this
      exact WR _ this
     ·obtain⟨h7,h8⟩:=h6 rfl
      have:=h8 0 ad
      rw[List.getElem?_eq_getElem (by omega),show(len+0)=0 by omega]at this
      exact WR _ this
    exact⟨[.sl es],⟨t,[],rfl,⟨e,hu,ad,e2⟩,rfl⟩,⟨_,_,rfl,⟨some a,len,cap,rfl,e1.symm,h2,(fun h=>by cases h),P.cellsOf e,(fun a' Ws=>by injection Ws with Ws;subst Ws;exact⟨afF,e3⟩)⟩,rfl⟩,by simp[Flat,Value.oneCell']⟩
  ·rename_i fs hu
   obtain⟨xs,n',hn,_,h2,h3,h4⟩:=DataW.trod_struct hu h
   injection hn with hn;subst hn
   have:=sX (P:=P) (W:=W) (T:=T) (cs:=cs) (rd:=fun t vs=>∃y,DataW.trod enc P W 0 (fun _=>true) true n t vs=some y) (rec:=nQ P m) (fun t l vs q1 q2 q3 ⟨y,q4⟩=>ih m t l vs y q1 q2 q3 q4) fs.toList 0 l hl hT ?_ ad
   ·simpa using this
   ·intro f hf
    obtain⟨i,hi,hfi⟩:=List.getElem_of_mem hf
    have:=h4 i f (by simp at hi;simp[<- hfi,Array.getElem?_eq_getElem hi])
    rw[List.getElem?_eq_getElem (by simp at hi;omega)]at this
    exact⟨_,this⟩
  ·rename_i k e hu
   split at hl
   ·rename_i l' vK
    split at hl
    ·rename_i hce
     injection hl with hl;subst hl
     obtain⟨xs,n',hn,_,h2,h3,h4⟩:=DataW.trod_array hu h
     injection hn with hn;subst hn
     have hlen:cs.length=k*l'.length:=by rw[h2,hc];simp
     have hT':0<k->∀u∈l',∀e,P.underlying u=some (.slice e)->e∈T:=fun hk u hu=>hT u (List.mem_flatten.2 ⟨l',List.mem_replicate.2 ⟨ad,rfl⟩,hu⟩)
     have:=u7 (P:=P) (W:=W) (l:=l') (cs:=cs) k 0 (fun j hj=> ?_) (by rw[hlen];simp)
     ·simpa using this
     ·have:=h4 j hj
      rw[hce,List.getElem?_eq_getElem (by omega)]at this
      rw[Nat.zero_add]
      exact ih m e l' _ _ vK (hT' ad) hce this
    ·cases hl
   ·cases hl
  ·cases hl
theorem AV(hp:wm P T=true):∀ (ts:List TypeId) (vs:List Value) (ds:List (DataW H)) (p:List MemPlace),(∀t∈ts,t∈T)->DataW.TrodAll enc P W 0 (fun _=>true) true ts vs ds p->
 (∀ (j:Nat) t v,ts[j]? =some t->vs[j]? =some v->Value.okWide P W .any b0 t v)->∃xs,D.jH P xs ts/\D.aG noB W xs vs
 |[],vs,ds,p,_,h,_=>by
  obtain⟨rfl,rfl,rfl⟩:=trodAll_nil h
  exact⟨[],rfl,rfl⟩
 |t::ts,vs,ds,p,hT,h,hv=>by
  obtain⟨v,vs',d,ds',p1,q1,rfl,rfl,rfl,⟨n,h1⟩,h2⟩:=trodAll_cons h
  obtain⟨xs,a1,a2⟩:=AV hp ts vs' ds' q1 (fun t ht=>hT t nL) h2 (fun j t v h1 h2=>hv (j+1) t v (by simpa using h1) zq)
  obtain⟨l,g1,g2,g3,g4⟩:=Fi hp (hT t aF)
  obtain⟨ev,x,q1,q2,q3,q4,q5⟩:=Fh g1 (Hv hp n 20 t l _ _ g1 g4 g2.symm h1)
  have a8:=hv 0 t v rfl rfl
  have:ev=v:=by
   cases ha:isAgg P t with
   |true=>
    have:∃cs,v= .agg cs:=by
     unfold isAgg at ha
     unfold Value.okWide at a8
     split at ha
     ·rename_i hu;rw[hu]at a8;obtain⟨cs,rfl,_⟩:=a8;exact⟨cs,rfl⟩
     ·rename_i hu;rw[hu]at a8;obtain⟨cs,rfl,_⟩:=a8;exact⟨cs,rfl⟩
     ·cases ha
    obtain⟨cs,rfl⟩:=this
    rw[q4 ha]
    simp[Value.cells]
   |false=>
    obtain⟨q6,q7⟩:=q5 ha
    cases v with
    |agg cs=>
     exfalso
     unfold isAgg at ha
     unfold Value.okWide at a8
     split at a8
     ·rename_i hu;rw[hu]at ha;cases ha
     ·rename_i hu;rw[hu]at ha;cases ha
     ·unfold Cell.okWide at a8
      split at a8
      case h_8=>
       unfold Cell.ok at a8
       split at a8<;>first|exact a8|contradiction
      all_goals contradiction
    |_=>simp only[Value.cells,List.cons.injEq,and_true]at q6;exact q6.symm
  subst this
  exact⟨x::xs,⟨t,ts,rfl,q2,a1⟩,⟨_,_,rfl,q3,a2⟩⟩
theorem dZ.below {w w':World}(h:dZ (fun _=>False) w w'):Below w.heap.size w w':=⟨h.os,h.tape,h.output,h.size,fun k hk=>h.block k hk (fun h=>h)⟩
theorem AW(hl:laidOutB P=true){W':World}{sp:Nat->Bool}:∀ {ts:List TypeId} {vs:List Value} {ds:List (DataW H)} {p:List MemPlace},(∀t∈ts,P.readableRec t=true/\t<P.types.size)->DataW.TrodAll enc P W 0 (fun _=>true) true ts vs ds p->
 (∀x∈p,W.sameAt W' x/\sp x.block=true)->DataW.TrodAll enc P W' 0 sp true ts vs ds p
 |[],vs,ds,p,_,h,_=>by
  obtain⟨rfl,rfl,rfl⟩:=trodAll_nil h
  exact trodAll_mk0
 |t::ts,vs,ds,p,hr,h,hs=>by
  obtain⟨v,vs',d,ds',p1,q1,rfl,rfl,rfl,h1,h2⟩:=trodAll_cons h
  exact⟨p1,q1,WideElems.Trod_stays hl (hr t aF).1 (hr t aF).2 h1 (fun x hx=>(hs x pN).1) (fun x hx=>(hs x pN).2),AW hl (fun t ht=>hr t nL) h2 (fun x hx=>hs x pN),rfl⟩
theorem P4{sp:Nat->Bool}:∀ {ts:List TypeId} {vs:List Value} {ds:List (DataW H)} {ps:List MemPlace},DataW.TrodAll enc P W 0 sp true ts vs ds ps->ds.length=ts.length
 |[],_,_,_,h=>by obtain⟨_,rfl,_⟩:=trodAll_nil h;rfl
 |_::_,_,_,_,h=>by
  obtain⟨_,_,_,_,_,_,_,rfl,_,_,h2⟩:=trodAll_cons h
  simp[P4 h2]
theorem Cw{f:FuncId}{fn:Func}{s:ChangeSpec}{tb:TypeId}{fresh handsOn again:Bool}(Dw:fn.resultTypes=#[tb])(L2:P.underlying tb=some .bool)(WS:s.vars=[])
 (P5:∀ds:List (DataW H),ds.length=fn.params.toList.length->s.fn H ds={results:=[.lit (.bool true)],args:=ds}) (hp:wm P T=true) (hT:∀t∈fn.params.toList,t∈T) (hl:laidOutB P=true)
 (hr:∀t∈fn.params.toList,P.readableRec t=true/\t<P.types.size) (law:∀xs,D.jH P xs fn.params.toList->a7 P f xs (.ret [.bool true]))
 (base:Nat) (args:Array Value) (ds gs:List (DataW H)) (before:List MemPlace)
 (fR:∀ (j:Nat) t v,fn.params[j]? =some t->args[j]? =some v->Value.okWide P W .any base t v) (hW:DataW.Whole enc P fn.params.toList s.vars false W args.toList ds gs before):
 Calls P f args W fun e W'=>∃v,e= .returned v/\s.post enc P fn false fresh handsOn again W args v W':=by
 have hW':=hW
 obtain⟨p,q,hA,hV,rfl,hfz,yR⟩:=hW
 rw[WS]at hV
 obtain⟨rfl,rfl⟩:=trodVars_none hV
 obtain⟨xs,a1,a2⟩:=AV (b0:=base) hp fn.params.toList args.toList ds p hT hA (fun j t v h1 h2=>fR j t v (by simpa using h1) zq)
 refine((law xs a1).2 noB W args (fun _ h=>h.elim) a2).mono fun e W' ⟨hk,ho⟩=> ?_
 have hb:=hk.below
 cases e with
 |panicked ch=>exact ho.elim
 |outgrown=>exact ho.elim
 |returned v=>
  simp only[R.is,D.den]at ho
  subst ho
  refine⟨_,rfl, ?_⟩
  have hlen:ds.length=fn.params.toList.length:=(P4 hA)
  have hold:∀x∈p,x.block<W.heap.size:=fun x hx=>by simpa using hW'.lt x zr
  have dV:∀sp:Nat->Bool,(∀x∈p,sp x.block=true)->DataW.TrodAll enc P W' 0 sp true fn.params.toList args.toList ds p:=fun sp LW=>AW hl hr hA fun x hx=>⟨hb.same (hold x hx),LW x hx⟩
  have WT:∀ (b:Nat) (sp:Nat->Bool) (hd:Bool),DataW.TrodAll enc P W' b sp hd fn.resultTypes.toList ((Value.bool true).resultList fn.resultTypes.size) [.lit (.bool true)] []:=fun b sp hd=>by
   rw[Dw]
   exact trodAll_cons_mk (p:=[]) (p':=[]) ⟨1,by simp[DataW.trod,Value.cells,L2]⟩ trodAll_mk0
  have P6:∀sp:Nat->Bool,DataW.TrodVars enc P W' sp s.vars [] []:=fun sp=>by rw[WS];rfl
  refine⟨ds,[],p++[],[],p,[],hW', ?_, ?_, ?_,World.keptBut_mono (fun _ h=>h.elim) (hb.frame (fun _=>False)),fun _=>⟨?_,[.lit (.bool true)]++ds,[],([]++p)++[],⟨[]++p,[],trodAll_append (dV _ fun _ _=>rfl) (WT 0 (fun _=>true) true),P6 _,rfl, ?_,(fun h=>by cases h)⟩,fun x hx _=>by simpa using hx⟩⟩
  ·rw[List.append_nil,P5 ds hlen];exact WT _ _ _
  ·rw[List.append_nil,P5 ds hlen];exact dV _ fun x hx=>by simpa using hold x hx
  ·rw[List.append_nil,P5 ds hlen];exact P6 _
  ·intro j t r h1 h2
   rw[Dw]at h1 h2
   match j,h1,h2 with
   |0,h1,h2=>
    simp[Value.resultList]at h1 h2
    subst h1;subst h2
    simp[Value.okWide,L2,Cell.okWide,Cell.ok]
  ·intro b off hx
   rw[hb.frozen (by simpa[MemPlace.block]using hold _ (by simpa using hx))]
   exact hfz b off zr
end
section
variable {P:Program}{t e:TypeId}{x:D}
theorem yx{k:IntKind}(ht:P.underlying t=some (.int k))(h:D.iU P x t):∃n,x= .int k n/\(Lit.int k n).wf=true:=by
 cases x<;>simp only[D.iU]at h
 case int k' n=>
  rw[ht]at h
  obtain⟨h1,h2⟩:=h
  injection h1 with h1;injection h1 with h1;subst h1
  exact⟨n,rfl,h2⟩
 case bool=>rw[ht]at h;cases h
 case str=>rw[ht]at h;cases h.1
 case sl=>obtain⟨e,h,_⟩:=h;rw[ht]at h;cases h
 case agg=>have:=h.1;unfold isAgg at this;rw[ht]at this;cases this
theorem LQ(ht:P.underlying t=some .bool)(h:D.iU P x t):∃b,x= .bool b:=by
 cases x<;>simp only[D.iU]at h
 case int k' n=>rw[ht]at h;cases h.1
 case bool b=>exact⟨b,rfl⟩
 case str=>rw[ht]at h;cases h.1
 case sl=>obtain⟨e,h,_⟩:=h;rw[ht]at h;cases h
 case agg=>have:=h.1;unfold isAgg at this;rw[ht]at this;cases this
theorem P7(ht:P.underlying t=some .string)(h:D.iU P x t):∃l,x= .str l/\l.length<=maxLen:=by
 cases x<;>simp only[D.iU]at h
 case int k' n=>rw[ht]at h;cases h.1
 case bool b=>rw[ht]at h;cases h
 case str l=>exact⟨l,rfl,h.2⟩
 case sl=>obtain⟨e,h,_⟩:=h;rw[ht]at h;cases h
 case agg=>have:=h.1;unfold isAgg at this;rw[ht]at this;cases this
theorem pK(ht:P.underlying t=some (.slice e))(h:D.iU P x t):∃es,x= .sl es/\es.length<=maxLen/\D.LP P es e:=by
 cases x<;>simp only[D.iU]at h
 case int k' n=>rw[ht]at h;cases h.1
 case bool b=>rw[ht]at h;cases h
 case str l=>rw[ht]at h;cases h.1
 case sl es=>
  obtain⟨e',h,h2,h3⟩:=h
  rw[ht]at h;injection h with h;injection h with h;subst h
  exact⟨es,rfl,h2,h3⟩
 case agg=>have:=h.1;unfold isAgg at this;rw[ht]at this;cases this
theorem sY{ls:List TypeId}(ha:isAgg P t=true)(hl:nQ P 20 t=some ls)(h:D.iU P x t):∃cs,x= .agg cs/\D.jH P cs ls:=by
 have no:∀u,P.underlying t=some u->(∀fs,u≠ .struct fs)->(∀k e,u≠ .array k e)->False:=by
  intro u hu h1 h2
  unfold isAgg at ha
  rw[hu]at ha
  split at ha
  ·rename_i e;injection e with e;exact h1 _ e
  ·rename_i e;injection e with e;exact h2 _ _ e
  ·cases ha
 cases x<;>simp only[D.iU]at h
 case int k' n=>exact(no _ h.1 (fun _ h=>by cases h) (fun _ _ h=>by cases h)).elim
 case bool b=>exact(no _ h (fun _ h=>by cases h) (fun _ _ h=>by cases h)).elim
 case str l=>exact(no _ h.1 (fun _ h=>by cases h) (fun _ _ h=>by cases h)).elim
 case sl es=>obtain⟨e',h,_⟩:=h;exact(no _ h (fun _ h=>by cases h) (fun _ _ h=>by cases h)).elim
 case agg cs=>
  obtain⟨_,ls',h1,h2⟩:=h
  rw[hl]at h1;injection h1 with h1;subst h1
  exact⟨cs,rfl,h2⟩
theorem bY{t:TypeId}{ts:List TypeId}{cs:List D}(h:D.jH P cs (t::ts)):∃x xs,cs=x::xs/\D.iU P x t/\D.jH P xs ts:=by
 cases cs with
 |nil=>simp[D.jH]at h
 |cons x xs=>obtain⟨_,_,e,h1,h2⟩:=h;injection e with e1 e2;subst e1;subst e2;exact⟨x,xs,rfl,h1,h2⟩
theorem mR{cs:List D}(h:D.jH P cs []):cs=[]:=by
 cases cs with
 |nil=>rfl
 |cons x xs=>obtain⟨_,_,e,_⟩:=h;cases e
theorem mS{α:Type}{f:α->D}{q:α->Prop}(hf:∀x,D.iU P x e->∃a,x=f a/\q a):∀ (es:List D),D.LP P es e->∃l:List α,es=l.map f/\∀a∈l,q a
 |[],_=>⟨[],rfl,fun _ h=>by cases h⟩
 |x::es,h=>by
  obtain⟨a,rfl,h1⟩:=hf x h.1
  obtain⟨l,rfl,h2⟩:=mS hf es h.2
  exact⟨a::l,rfl,fun b hb=>(List.mem_cons.1 hb).elim (fun e=>e ▸ h1) (h2 b)⟩
end
end Go.Proofs.YtlhemmpklhhgoaaGreat
end
section
namespace Go.Proofs.YtlhemmpklhhgoaaGreat
open Go.ChangeShapes Go.WideShapes Go.RowKit
theorem kq:maxLen<=9223372036854775807:=bF
theorem JW{x:D}(h:D.iU Tryz.prog x 3):∃n:Int,x= .i n:=by
 obtain⟨n,h,_⟩:=yx undT_3 h
 exact⟨n,h⟩
theorem aaw{x:D}(h:D.iU Tryz.prog x 30):∃n:Int,x= .i n:=by
 obtain⟨n,h,_⟩:=yx undT_30 h
 exact⟨n,h⟩
theorem afG{x:D}(h:D.iU Tryz.prog x 124):∃r:fj,x=r.d/\r.name.length<=9223372036854775807:=by
 obtain⟨cs,rfl,hh⟩:=sY aJ (ls:=[9,3]) aJ h
 clear h;have h:=hh;clear hh
 obtain⟨a,cs,rfl,ha,h⟩:=bY h
 obtain⟨b,cs,rfl,hb,h⟩:=bY h
 have:=mR h;subst this
 obtain⟨l,rfl,hl⟩:=P7 aJ ha
 obtain⟨n,rfl⟩:=JW hb
 exact⟨⟨l,n⟩,rfl,by have:=kq;simp only;omega⟩
theorem afH{x:D}(h:D.iU Tryz.prog x 24):∃s:az,x=s.d/\s.Fits:=by
 obtain⟨cs,rfl,hh⟩:=sY aJ (ls:=[22,22]) aJ h
 clear h;have h:=hh;clear hh
 obtain⟨a,cs,rfl,ha,h⟩:=bY h
 obtain⟨b,cs,rfl,hb,h⟩:=bY h
 have:=mR h;subst this
 obtain⟨es,rfl,h1,h2⟩:=pK undT_22 ha
 obtain⟨l,rfl,hl⟩:=mS (fun x h=>afG h) es h2
 obtain⟨es',rfl,h3,h4⟩:=pK undT_22 hb
 obtain⟨l',rfl,vK⟩:=mS (fun x h=>afG h) es' h4
 have:=kq
 exact⟨⟨l,l'⟩,rfl,⟨by simp at h1;simp only;omega,by simp at h3;simp only;omega,hl,vK⟩⟩
theorem P8:∀ (n:Nat) (x:D),SizeOf.sizeOf x<=n->D.iU Tryz.prog x 33->∃t:Tm,x=t.d/\t.fits:=by
 intro n
 induction n with
 |zero=>intro x hx _;cases x<;>simp at hx
 |succ n ih=>
  intro x hx h
  obtain⟨cs,rfl,hh⟩:=sY aJ (ls:=[30,3,31]) aJ h
  clear h;have h:=hh;clear hh
  obtain⟨a,cs,rfl,ha,h⟩:=bY h
  obtain⟨b,cs,rfl,hb,h⟩:=bY h
  obtain⟨c,cs,rfl,hc,h⟩:=bY h
  have:=mR h;subst this
  obtain⟨o,rfl⟩:=aaw ha
  obtain⟨m,rfl⟩:=JW hb
  obtain⟨es,rfl,h1,h2⟩:=pK undT_31 hc
  have Ia:SizeOf.sizeOf es<=n:=by simp at hx;omega
  have:∀es:List D,SizeOf.sizeOf es<=n->D.LP Tryz.prog es 33->∃l:List Tm,es=l.map Tm.d/\∀k∈l,k.fits:=by
   intro es
   induction es with
   |nil=>intro _ _;exact⟨[],rfl,fun _ h=>by cases h⟩
   |cons y es ihe=>
    intro hs h
    simp at hs
    obtain⟨t,rfl,ht⟩:=ih y ad h.1
    obtain⟨l,rfl,hl⟩:=ihe ad h.2
    exact⟨t::l,rfl,fun b hb=>(List.mem_cons.1 hb).elim (fun e=>e ▸ ht) (hl b)⟩
  obtain⟨l,rfl,hl⟩:=this es Ia h2
  refine⟨.mk o m l,by rw[Tm.D4], ?_⟩
  rw[Tm.cH]
  exact⟨by have:=kq;simp at h1;simp only[Tm.kids];omega,hl⟩
theorem aic{x:D}(h:D.iU Tryz.prog x 33):∃t:Tm,x=t.d/\t.fits:=P8 _ x (Nat.le_refl _) h
end Go.Proofs.YtlhemmpklhhgoaaGreat
end
section
namespace Go.Proofs.YtlhemmpklhhgoaaGreat
open Go.ChangeShapes Go.WideShapes Go.RowKit
end Go.Proofs.YtlhemmpklhhgoaaGreat
end
section
namespace Go.Proofs.YtlhemmpklhhgoaaGreat
open Go.ChangeShapes Go.WideShapes Go.RowKit
theorem P9{x:D}(h:D.iU Tryz.prog x 31):∃l:List Tm,x= .sl (l.map Tm.d)/\l.length<=9223372036854775807/\∀t∈l,t.fits:=by
 obtain⟨es,rfl,h1,h2⟩:=pK undT_31 h
 obtain⟨l,rfl,hl⟩:=mS (fun x h=>aic h) es h2
 have:=kq
 exact Mt
end Go.Proofs.YtlhemmpklhhgoaaGreat
end
section
namespace Go.Proofs.YtlhemmpklhhgoaaGreat
open Go.ChangeShapes Go.WideShapes Go.RowKit
theorem aid{x:D}(h:D.iU Tryz.prog x 53):∃y:Sy,x=y.d/\y.a.fits/\y.b.fits:=by
 obtain⟨cs,rfl,hh⟩:=sY aJ (ls:=[30,3,31,30,3,31,4]) aJ h
 clear h;have h:=hh;clear hh
 obtain⟨a,cs,rfl,ha,h⟩:=bY h
 obtain⟨b,cs,rfl,hb,h⟩:=bY h
 obtain⟨c,cs,rfl,hc,h⟩:=bY h
 obtain⟨d,cs,rfl,hd,h⟩:=bY h
 obtain⟨e,cs,rfl,he,h⟩:=bY h
 obtain⟨f,cs,rfl,hf,h⟩:=bY h
 obtain⟨g,cs,rfl,hg,h⟩:=bY h
 have:=mR h;subst this
 obtain⟨o1,rfl⟩:=aaw ha
 obtain⟨n1,rfl⟩:=JW hb
 obtain⟨k1,rfl,l1,l2⟩:=P9 hc
 obtain⟨o2,rfl⟩:=aaw hd
 obtain⟨n2,rfl⟩:=JW he
 obtain⟨k2,rfl,l3,l4⟩:=P9 hf
 obtain⟨no,rfl⟩:=LQ undT_4 hg
 exact⟨⟨.mk o1 n1 k1, .mk o2 n2 k2,no⟩,rfl,(Tm.cH _).2 ⟨l1,l2⟩,(Tm.cH _).2 ⟨l3,l4⟩⟩
theorem afI{x:D}(h:D.iU Tryz.prog x 48):∃l:List Sy,x= .sl (l.map Sy.d)/\l.length<=9223372036854775807/\∀y∈l,y.a.fits/\y.b.fits:=by
 obtain⟨es,rfl,h1,h2⟩:=pK (e:=53) aJ h
 obtain⟨l,rfl,hl⟩:=mS (fun x h=>aid h) es h2
 have:=kq
 exact Mt
end Go.Proofs.YtlhemmpklhhgoaaGreat
end
section
namespace Go.Proofs.YtlhemmpklhhgoaaGreat
open Go.ChangeShapes Go.WideShapes Go.RowKit
theorem aie{x:D}(h:D.iU Tryz.prog x 5):∃n:Int,x= .int .u8 n/\(0<=n/\n<=255):=by
 obtain⟨n,h,hw⟩:=yx undT_5 h
 simp[Lit.wf]at hw
 exact⟨n,h,hw⟩
theorem afJ{x:D}(h:D.iU Tryz.prog x 49):∃l:List Int,x= .sl (l.map (D.int .u8))/\l.length<=9223372036854775807/\∀y∈l,0<=y/\y<=255:=by
 obtain⟨es,rfl,h1,h2⟩:=pK (e:=5) aJ h
 obtain⟨l,rfl,hl⟩:=mS (fun x h=>aie h) es h2
 have:=kq
 exact Mt
end Go.Proofs.YtlhemmpklhhgoaaGreat
end
section
namespace Go.Proofs.YtlhemmpklhhgoaaGreat
open Go
def aax:Nat->Bool:=fun g=> !([159,172,173,174,187,135,162,175,176,177,178,179,180,182,183,188,191,192,201,149,164,165,167,111,136,100,79,63,64,112,104,69]:List Nat).contains g
@[reducible] def zC:D:= .sl [.agg [.str [70,97,108,115,101], .i 0], .agg [.str [84,114,117,101], .i 0], .agg [.str [90], .i 0], .agg [.str [83], .i 1], .agg [.str [78,105,108], .i 0], .agg [.str [67,111,110,115], .i 2]]
@[reducible] def zF:D:= .sl [.agg [.str [97,112,112], .i 2], .agg [.str [111,110,101], .i 0]]
def u9:sa Tryz.prog:=sa.of aax [] (fun _ h=>by cases h)
end Go.Proofs.YtlhemmpklhhgoaaGreat
end
section
namespace Go.Proofs.YtlhemmpklhhgoaaGreat
open Go
theorem Qa:pR Tryz.prog tab u9 5000 119 [.agg [zC,zF]]=some (.ret [.i 0]):=aJ
theorem aay:a7 Tryz.prog 119 [.agg [zC,zF]] (.ret [.i 0]):=a7.iJ mix iK Qa
theorem Te:pR Tryz.prog tab u9 5000 129 [.agg [zC,zF], .agg [.i 1, .i 0, .sl []]]=some (.ret [.bool true, .bool false, .i 0]):=aJ
theorem afK:a7 Tryz.prog 129 [.agg [zC,zF], .agg [.i 1, .i 0, .sl []]] (.ret [.bool true, .bool false, .i 0]):=a7.iJ mix iK Te
theorem Tf:pR Tryz.prog tab u9 5000 129 [.agg [zC,zF], .agg [.i 1, .i 2, .sl []]]=some (.ret [.bool true, .bool false, .i 0]):=aJ
theorem afL:a7 Tryz.prog 129 [.agg [zC,zF], .agg [.i 1, .i 2, .sl []]] (.ret [.bool true, .bool false, .i 0]):=a7.iJ mix iK Tf
theorem Tg:pR Tryz.prog tab u9 5000 129 [.agg [zC,zF], .agg [.i 3, .i 5, .sl [.agg [.i 1, .i 0, .sl []], .agg [.i 1, .i 1, .sl []]]]]=some (.ret [.bool true, .bool false, .i 0]):=aJ
theorem afM:a7 Tryz.prog 129 [.agg [zC,zF], .agg [.i 3, .i 5, .sl [.agg [.i 1, .i 0, .sl []], .agg [.i 1, .i 1, .sl []]]]] (.ret [.bool true, .bool false, .i 0]):=a7.iJ mix iK Tg
theorem Th:pR Tryz.prog tab u9 5000 129 [.agg [zC,zF], .agg [.i 3, .i 5, .sl [.agg [.i 1, .i 2, .sl []], .agg [.i 3, .i 5, .sl [.agg [.i 1, .i 0, .sl []], .agg [.i 3, .i 4, .sl []]]]]]]=some (.ret [.bool true, .bool false, .i 0]):=aJ
theorem afN:a7 Tryz.prog 129 [.agg [zC,zF], .agg [.i 3, .i 5, .sl [.agg [.i 1, .i 2, .sl []], .agg [.i 3, .i 5, .sl [.agg [.i 1, .i 0, .sl []], .agg [.i 3, .i 4, .sl []]]]]]] (.ret [.bool true, .bool false, .i 0]):=a7.iJ mix iK Th
theorem Ti:pR Tryz.prog tab u9 5000 129 [.agg [zC,zF], .agg [.i 3, .i 5, .sl [.agg [.i 1, .i 0, .sl []], .agg [.i 3, .i 4, .sl []]]]]=some (.ret [.bool true, .bool false, .i 0]):=aJ
theorem afO:a7 Tryz.prog 129 [.agg [zC,zF], .agg [.i 3, .i 5, .sl [.agg [.i 1, .i 0, .sl []], .agg [.i 3, .i 4, .sl []]]]] (.ret [.bool true, .bool false, .i 0]):=a7.iJ mix iK Ti
theorem Tj:pR Tryz.prog tab u9 5000 129 [.agg [zC,zF], .agg [.i 3, .i 3, .sl [.agg [.i 1, .i 3, .sl []]]]]=some (.ret [.bool true, .bool false, .i 0]):=aJ
theorem afP:a7 Tryz.prog 129 [.agg [zC,zF], .agg [.i 3, .i 3, .sl [.agg [.i 1, .i 3, .sl []]]]] (.ret [.bool true, .bool false, .i 0]):=a7.iJ mix iK Tj
theorem Tk:pR Tryz.prog tab u9 5000 129 [.agg [zC,zF], .agg [.i 3, .i 3, .sl [.agg [.i 3, .i 2, .sl []]]]]=some (.ret [.bool true, .bool true, .i 0]):=aJ
theorem afQ:a7 Tryz.prog 129 [.agg [zC,zF], .agg [.i 3, .i 3, .sl [.agg [.i 3, .i 2, .sl []]]]] (.ret [.bool true, .bool true, .i 0]):=a7.iJ mix iK Tk
def Fj:sa Tryz.prog:=sa.of aax [(119,[.agg [zC,zF]], .ret [.i 0]),(129,[.agg [zC,zF], .agg [.i 1, .i 0, .sl []]], .ret [.bool true, .bool false, .i 0]),(129,[.agg [zC,zF], .agg [.i 1, .i 2, .sl []]], .ret [.bool true, .bool false, .i 0]),(129,[.agg [zC,zF], .agg [.i 3, .i 5, .sl [.agg [.i 1, .i 0, .sl []], .agg [.i 1, .i 1, .sl []]]]], .ret [.bool true, .bool false, .i 0]),(129,[.agg [zC,zF], .agg [.i 3, .i 5, .sl [.agg [.i 1, .i 2, .sl []], .agg [.i 3, .i 5, .sl [.agg [.i 1, .i 0, .sl []], .agg [.i 3, .i 4, .sl []]]]]]], .ret [.bool true, .bool false, .i 0]),(129,[.agg [zC,zF], .agg [.i 3, .i 5, .sl [.agg [.i 1, .i 0, .sl []], .agg [.i 3, .i 4, .sl []]]]], .ret [.bool true, .bool false, .i 0]),(129,[.agg [zC,zF], .agg [.i 3, .i 3, .sl [.agg [.i 1, .i 3, .sl []]]]], .ret [.bool true, .bool false, .i 0]),(129,[.agg [zC,zF], .agg [.i 3, .i 3, .sl [.agg [.i 3, .i 2, .sl []]]]], .ret [.bool true, .bool true, .i 0])] (fun x h=>by
 simp only[List.mem_cons,List.not_mem_nil,or_false]at h
 rcases h with rfl|rfl|rfl|rfl|rfl|rfl|rfl|rfl
 ·exact aay
 ·exact afK
 ·exact afL
 ·exact afM
 ·exact afN
 ·exact afO
 ·exact afP
 ·exact afQ)
end Go.Proofs.YtlhemmpklhhgoaaGreat
end
section
namespace Go.Proofs.YtlhemmpklhhgoaaGreat
open Go
theorem aaz:pR Tryz.prog tab Fj 5000 15 [.agg [zC,zF, .sl [], .sl [], .sl []], .agg [.i 3, .i 5, .sl [.agg [.i 1, .i 0, .sl []], .agg [.i 1, .i 1, .sl []]]], .agg [.i 3, .i 5, .sl [.agg [.i 1, .i 2, .sl []], .agg [.i 3, .i 5, .sl [.agg [.i 1, .i 0, .sl []], .agg [.i 3, .i 4, .sl []]]]]]]=some (.ret [.agg [zC,zF, .sl [.agg [.i 2, .i 1, .i 0, .sl []], .agg [.i 1, .i 3, .i 5, .sl [.agg [.i 1, .i 0, .sl []], .agg [.i 3, .i 4, .sl []]]]], .sl [], .sl []], .i 0]):=aJ
theorem aif:a7 Tryz.prog 15 [.agg [zC,zF, .sl [], .sl [], .sl []], .agg [.i 3, .i 5, .sl [.agg [.i 1, .i 0, .sl []], .agg [.i 1, .i 1, .sl []]]], .agg [.i 3, .i 5, .sl [.agg [.i 1, .i 2, .sl []], .agg [.i 3, .i 5, .sl [.agg [.i 1, .i 0, .sl []], .agg [.i 3, .i 4, .sl []]]]]]] (.ret [.agg [zC,zF, .sl [.agg [.i 2, .i 1, .i 0, .sl []], .agg [.i 1, .i 3, .i 5, .sl [.agg [.i 1, .i 0, .sl []], .agg [.i 3, .i 4, .sl []]]]], .sl [], .sl []], .i 0]):=a7.iJ mix iK aaz
end Go.Proofs.YtlhemmpklhhgoaaGreat
end
section
namespace Go.Proofs.YtlhemmpklhhgoaaGreat
open Go
theorem aaA:pR Tryz.prog tab Fj 5000 16 [.agg [zC,zF, .sl [.agg [.i 2, .i 1, .i 0, .sl []], .agg [.i 1, .i 3, .i 5, .sl [.agg [.i 1, .i 0, .sl []], .agg [.i 3, .i 4, .sl []]]]], .sl [], .sl []], .agg [.i 3, .i 3, .sl [.agg [.i 1, .i 3, .sl []]]], .agg [.i 1, .i 2, .sl []]]=some (.ret [.agg [zC,zF, .sl [.agg [.i 2, .i 1, .i 0, .sl []], .agg [.i 1, .i 3, .i 5, .sl [.agg [.i 1, .i 0, .sl []], .agg [.i 3, .i 4, .sl []]]]], .sl [.agg [.i 3, .i 3, .sl [.agg [.i 1, .i 3, .sl []]], .i 1, .i 2, .sl []]], .sl []], .i 0]):=aJ
theorem aih:a7 Tryz.prog 16 [.agg [zC,zF, .sl [.agg [.i 2, .i 1, .i 0, .sl []], .agg [.i 1, .i 3, .i 5, .sl [.agg [.i 1, .i 0, .sl []], .agg [.i 3, .i 4, .sl []]]]], .sl [], .sl []], .agg [.i 3, .i 3, .sl [.agg [.i 1, .i 3, .sl []]]], .agg [.i 1, .i 2, .sl []]] (.ret [.agg [zC,zF, .sl [.agg [.i 2, .i 1, .i 0, .sl []], .agg [.i 1, .i 3, .i 5, .sl [.agg [.i 1, .i 0, .sl []], .agg [.i 3, .i 4, .sl []]]]], .sl [.agg [.i 3, .i 3, .sl [.agg [.i 1, .i 3, .sl []]], .i 1, .i 2, .sl []]], .sl []], .i 0]):=a7.iJ mix iK aaA
end Go.Proofs.YtlhemmpklhhgoaaGreat
end
section
namespace Go.Proofs.YtlhemmpklhhgoaaGreat
open Go
theorem aaB:pR Tryz.prog tab Fj 5000 15 [.agg [zC,zF, .sl [.agg [.i 2, .i 1, .i 0, .sl []], .agg [.i 1, .i 3, .i 5, .sl [.agg [.i 1, .i 0, .sl []], .agg [.i 3, .i 4, .sl []]]]], .sl [.agg [.i 3, .i 3, .sl [.agg [.i 1, .i 3, .sl []]], .i 1, .i 2, .sl []]], .sl []], .agg [.i 1, .i 0, .sl []], .agg [.i 3, .i 3, .sl [.agg [.i 1, .i 3, .sl []]]]]=some (.ret [.agg [.sl [], .sl [], .sl [], .sl [], .sl []], .i 5]):=aJ
theorem aii:a7 Tryz.prog 15 [.agg [zC,zF, .sl [.agg [.i 2, .i 1, .i 0, .sl []], .agg [.i 1, .i 3, .i 5, .sl [.agg [.i 1, .i 0, .sl []], .agg [.i 3, .i 4, .sl []]]]], .sl [.agg [.i 3, .i 3, .sl [.agg [.i 1, .i 3, .sl []]], .i 1, .i 2, .sl []]], .sl []], .agg [.i 1, .i 0, .sl []], .agg [.i 3, .i 3, .sl [.agg [.i 1, .i 3, .sl []]]]] (.ret [.agg [.sl [], .sl [], .sl [], .sl [], .sl []], .i 5]):=a7.iJ mix iK aaB
end Go.Proofs.YtlhemmpklhhgoaaGreat
end
section
namespace Go.Proofs.YtlhemmpklhhgoaaGreat
open Go
theorem aaC:pR Tryz.prog tab Fj 5000 24 [.agg [zC,zF, .sl [.agg [.i 2, .i 1, .i 0, .sl []], .agg [.i 1, .i 3, .i 5, .sl [.agg [.i 1, .i 0, .sl []], .agg [.i 3, .i 4, .sl []]]]], .sl [.agg [.i 3, .i 3, .sl [.agg [.i 1, .i 3, .sl []]], .i 1, .i 2, .sl []]], .sl []]]=some (.ret [.agg [.sl [.agg [.i 1, .i 3, .i 5, .sl [.agg [.i 1, .i 0, .sl []], .agg [.i 3, .i 4, .sl []]]], .agg [.i 2, .i 1, .i 0, .sl []]], .sl [.sl [.agg [.i 0, .i 3, .i 3, .sl [.agg [.i 1, .i 3, .sl []]]]]]], .i 0]):=aJ
theorem aij:a7 Tryz.prog 24 [.agg [zC,zF, .sl [.agg [.i 2, .i 1, .i 0, .sl []], .agg [.i 1, .i 3, .i 5, .sl [.agg [.i 1, .i 0, .sl []], .agg [.i 3, .i 4, .sl []]]]], .sl [.agg [.i 3, .i 3, .sl [.agg [.i 1, .i 3, .sl []]], .i 1, .i 2, .sl []]], .sl []]] (.ret [.agg [.sl [.agg [.i 1, .i 3, .i 5, .sl [.agg [.i 1, .i 0, .sl []], .agg [.i 3, .i 4, .sl []]]], .agg [.i 2, .i 1, .i 0, .sl []]], .sl [.sl [.agg [.i 0, .i 3, .i 3, .sl [.agg [.i 1, .i 3, .sl []]]]]]], .i 0]):=a7.iJ mix iK aaC
end Go.Proofs.YtlhemmpklhhgoaaGreat
end
section
namespace Go.Proofs.YtlhemmpklhhgoaaGreat
open Go
theorem aaD:pR Tryz.prog tab Fj 5000 35 [.agg [zC,zF, .sl [.agg [.i 2, .i 1, .i 0, .sl []], .agg [.i 1, .i 3, .i 5, .sl [.agg [.i 1, .i 0, .sl []], .agg [.i 3, .i 4, .sl []]]]], .sl [.agg [.i 3, .i 3, .sl [.agg [.i 1, .i 3, .sl []]], .i 1, .i 2, .sl []]], .sl []], .agg [.i 1, .i 0, .sl []], .agg [.i 3, .i 3, .sl [.agg [.i 3, .i 2, .sl []]]]]=some (.ret [.i 3, .i 0]):=aJ
theorem aik:a7 Tryz.prog 35 [.agg [zC,zF, .sl [.agg [.i 2, .i 1, .i 0, .sl []], .agg [.i 1, .i 3, .i 5, .sl [.agg [.i 1, .i 0, .sl []], .agg [.i 3, .i 4, .sl []]]]], .sl [.agg [.i 3, .i 3, .sl [.agg [.i 1, .i 3, .sl []]], .i 1, .i 2, .sl []]], .sl []], .agg [.i 1, .i 0, .sl []], .agg [.i 3, .i 3, .sl [.agg [.i 3, .i 2, .sl []]]]] (.ret [.i 3, .i 0]):=a7.iJ mix iK aaD
end Go.Proofs.YtlhemmpklhhgoaaGreat
end
section
namespace Go.Proofs.YtlhemmpklhhgoaaGreat
open Go
def afR:sa Tryz.prog:=sa.of aax [(15,[.agg [zC,zF, .sl [], .sl [], .sl []], .agg [.i 3, .i 5, .sl [.agg [.i 1, .i 0, .sl []], .agg [.i 1, .i 1, .sl []]]], .agg [.i 3, .i 5, .sl [.agg [.i 1, .i 2, .sl []], .agg [.i 3, .i 5, .sl [.agg [.i 1, .i 0, .sl []], .agg [.i 3, .i 4, .sl []]]]]]], .ret [.agg [zC,zF, .sl [.agg [.i 2, .i 1, .i 0, .sl []], .agg [.i 1, .i 3, .i 5, .sl [.agg [.i 1, .i 0, .sl []], .agg [.i 3, .i 4, .sl []]]]], .sl [], .sl []], .i 0]),(16,[.agg [zC,zF, .sl [.agg [.i 2, .i 1, .i 0, .sl []], .agg [.i 1, .i 3, .i 5, .sl [.agg [.i 1, .i 0, .sl []], .agg [.i 3, .i 4, .sl []]]]], .sl [], .sl []], .agg [.i 3, .i 3, .sl [.agg [.i 1, .i 3, .sl []]]], .agg [.i 1, .i 2, .sl []]], .ret [.agg [zC,zF, .sl [.agg [.i 2, .i 1, .i 0, .sl []], .agg [.i 1, .i 3, .i 5, .sl [.agg [.i 1, .i 0, .sl []], .agg [.i 3, .i 4, .sl []]]]], .sl [.agg [.i 3, .i 3, .sl [.agg [.i 1, .i 3, .sl []]], .i 1, .i 2, .sl []]], .sl []], .i 0]),(15,[.agg [zC,zF, .sl [.agg [.i 2, .i 1, .i 0, .sl []], .agg [.i 1, .i 3, .i 5, .sl [.agg [.i 1, .i 0, .sl []], .agg [.i 3, .i 4, .sl []]]]], .sl [.agg [.i 3, .i 3, .sl [.agg [.i 1, .i 3, .sl []]], .i 1, .i 2, .sl []]], .sl []], .agg [.i 1, .i 0, .sl []], .agg [.i 3, .i 3, .sl [.agg [.i 1, .i 3, .sl []]]]], .ret [.agg [.sl [], .sl [], .sl [], .sl [], .sl []], .i 5]),(24,[.agg [zC,zF, .sl [.agg [.i 2, .i 1, .i 0, .sl []], .agg [.i 1, .i 3, .i 5, .sl [.agg [.i 1, .i 0, .sl []], .agg [.i 3, .i 4, .sl []]]]], .sl [.agg [.i 3, .i 3, .sl [.agg [.i 1, .i 3, .sl []]], .i 1, .i 2, .sl []]], .sl []]], .ret [.agg [.sl [.agg [.i 1, .i 3, .i 5, .sl [.agg [.i 1, .i 0, .sl []], .agg [.i 3, .i 4, .sl []]]], .agg [.i 2, .i 1, .i 0, .sl []]], .sl [.sl [.agg [.i 0, .i 3, .i 3, .sl [.agg [.i 1, .i 3, .sl []]]]]]], .i 0]),(35,[.agg [zC,zF, .sl [.agg [.i 2, .i 1, .i 0, .sl []], .agg [.i 1, .i 3, .i 5, .sl [.agg [.i 1, .i 0, .sl []], .agg [.i 3, .i 4, .sl []]]]], .sl [.agg [.i 3, .i 3, .sl [.agg [.i 1, .i 3, .sl []]], .i 1, .i 2, .sl []]], .sl []], .agg [.i 1, .i 0, .sl []], .agg [.i 3, .i 3, .sl [.agg [.i 3, .i 2, .sl []]]]], .ret [.i 3, .i 0])] (fun x h=>by
 simp only[List.mem_cons,List.not_mem_nil,or_false]at h
 rcases h with rfl|rfl|rfl|rfl|rfl
 ·exact aif
 ·exact aih
 ·exact aii
 ·exact aij
 ·exact aik)
theorem Fk:pR Tryz.prog tab afR 5000 14 []=some (.ret [.bool true]):=aJ
theorem Tl:a7 Tryz.prog 14 [] (.ret [.bool true]):=a7.iJ mix iK Fk
end Go.Proofs.YtlhemmpklhhgoaaGreat
end
section
namespace Go.Proofs.YtlhemmpklhhgoaaGreat
open Go.ChangeShapes Go.WideShapes Go.RowKit
set_option maxRecDepth 100000 in
theorem sZ(os:Os)(started:os.Started)(H:Type)(enc:TypeId×Value->H):
 ReturnsInHanded {} Tryz.checked os 12 .any (Rows.equalFormsSpec.pre6 enc Tryz.prog Tryz.f12 Rows.equalFormsRow.domain false) (Rows.equalFormsSpec.post enc Tryz.prog Tryz.f12 Rows.equalFormsRow.apart Rows.equalFormsRow.fresh Rows.equalFormsRow.handsOn Rows.equalFormsRow.again):=by
 refine returnsInHanded_of_change (C:=Tryz.checked) aJ started aJ Tryz.func12
  (ChangeSpec.witness6 (enc:=enc) (C:=Tryz.checked) false ⟨#[],#[.agg #[.slice none 0 0, .slice none 0 0], .slice none 0 0, .slice none 0 0],[]⟩ 8 aJ aJ aJ aJ) ?_
 intro W base args ds gs before fR hW _ _
 refine Cw (T:=[24,22,124,9,3,48,53,31,33,30,4,49,5]) (tb:=4) aJ aJ rfl (fun ds h=>by match ds,h with|[_,_,_],_=>rfl) aJ (by intro t ht;rw[Tryz.params12]at ht;simp at ht;rcases ht with rfl|rfl|rfl<;>simp) aJ (by intro t ht;rw[Tryz.params12]at ht;simp at ht;rcases ht with rfl|rfl|rfl<;>exact⟨aJ,of_decide_eq_true aJ⟩)
  (fun xs hx=> ?_) base args ds gs before fR hW
 rw[Tryz.params12]at hx
 obtain⟨x0,xs,rfl,hx0,hx⟩:=bY hx
 obtain⟨x1,xs,rfl,hx1,hx⟩:=bY hx
 obtain⟨x2,xs,rfl,hx2,hx⟩:=bY hx
 have:=mR hx;subst this
 obtain⟨s0,rfl,pQ⟩:=afH hx0
 obtain⟨y1,rfl,hy1⟩:=afI hx1
 obtain⟨z2,rfl,L6⟩:=afJ hx2
 exact Cv Tl s0 pQ y1 hy1.1 hy1.2 z2 L6.1 L6.2
theorem equalForms_holds:Rows.EqualFormsSaid:=
 OpenClaim.holds_of_wide 12 Tryz.f12 rfl rfl rfl rfl rfl rfl rfl ⟨rfl,rfl,rfl,rfl,rfl⟩ rfl rfl rfl rfl rfl aJ Tryz.func12 aJ
  (of_decide_eq_true aJ) (by unfold Func.isWrapper;first|(rw[if_pos (by decide+kernel)];kernel_rfl)|(rw[if_neg (by decide+kernel)];exact⟨rfl,rfl⟩))
  (fun os started H enc _=>sZ os started H enc)
end Go.Proofs.YtlhemmpklhhgoaaGreat
end
