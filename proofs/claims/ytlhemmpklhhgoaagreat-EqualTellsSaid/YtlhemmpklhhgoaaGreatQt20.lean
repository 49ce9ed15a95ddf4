/-
  A PART OF THE PROOF. Conditions: none.
-/
import Derived.Test.YtlhemmpklhhgoaaGreatQt19
set_option linter.unusedSimpArgs false
set_option linter.unusedVariables false
set_option maxHeartbeats 4000000
namespace Go.Proofs.YtlhemmpklhhgoaaGreat
structure c6.Cp (s:c6):Prop where
 lc:s.sig.cons.length<=1000000
 lf:s.sig.bW.length<=1000000
 bl:s.binds.length<=1000
 nl:s.aJ.length<=1000
 ml:s.marks.length<=1000
 bt:∀x∈s.binds,x.term.sz<=1000000
 nt:∀n∈s.aJ,n.a.sz<=1000000/\n.b.sz<=1000000
def zr(o:Nat->ab)(nx:Nat)(s:c6)(b:List (Int×Tm))(x:V)(y:V)(l:List D):Nat->ab:=
 ay (ay (ay (ay (ay o nx (.row [.d (.sl (s.sig.cons.map ef.d)), .d (.sl (s.sig.bW.map ef.d)), .d (.sl (s.binds.map TB.d)), .d (.sl (s.aJ.map Nt.d)), .d (.sl (s.marks.map rM)), .d (DX b)])) (nx+1) (.row [.ax, .ax, .ax, .ax, .ax])) (nx+16) (.arr 0 77 2 (s.marks.map rM)))
  (nx+18) (.row [.d (.sl (s.sig.cons.map ef.d)), .d (.sl (s.sig.bW.map ef.d)),x,y, .osl (nx+16) 0])) (nx+20) (.arr 0 59 4 l)
theorem D6(o:Nat->ab)(nx:Nat)(s:c6)(b:List (Int×Tm))(x y:V)(l:List D):zr o nx s b x y l nx= .row [.d (.sl (s.sig.cons.map ef.d)), .d (.sl (s.sig.bW.map ef.d)), .d (.sl (s.binds.map TB.d)), .d (.sl (s.aJ.map Nt.d)), .d (.sl (s.marks.map rM)), .d (DX b)]:=Hs
theorem stA_1(o:Nat->ab)(nx:Nat)(s:c6)(b:List (Int×Tm))(x y:V)(l:List D):zr o nx s b x y l (nx+1)= .row [.ax, .ax, .ax, .ax, .ax]:=Hs
theorem stA_16(o:Nat->ab)(nx:Nat)(s:c6)(b:List (Int×Tm))(x y:V)(l:List D):zr o nx s b x y l (nx+16)= .arr 0 77 2 (s.marks.map rM):=Hs
theorem stA_18(o:Nat->ab)(nx:Nat)(s:c6)(b:List (Int×Tm))(x y:V)(l:List D):zr o nx s b x y l (nx+18)= .row [.d (.sl (s.sig.cons.map ef.d)), .d (.sl (s.sig.bW.map ef.d)),x,y, .osl (nx+16) 0]:=Hs
theorem stA_20(o:Nat->ab)(nx:Nat)(s:c6)(b:List (Int×Tm))(x y:V)(l:List D):zr o nx s b x y l (nx+20)= .arr 0 59 4 l:=Hs
theorem w7(o:Nat->ab)(nx:Nat)(s:c6)(b:List (Int×Tm))(x y:V)(l:List D){j:Nat}(h0:j≠nx)(h1:j≠nx+1)(h2:j≠nx+16)(h3:j≠nx+18)(h4:j≠nx+20):zr o nx s b x y l j=o j:=Hs
theorem Mz(o:Nat->ab)(nx:Nat)(s:c6)(b:List (Int×Tm))(x y x' y':V)(l l':List D){j:Nat}(h1:j<nx+20)(h2:j≠nx+18):zr o nx s b x y l j=zr o nx s b x' y' l' j:=by
 have e:∀x y l,zr o nx s b x y l j=ay (ay (ay o nx (.row [.d (.sl (s.sig.cons.map ef.d)), .d (.sl (s.sig.bW.map ef.d)), .d (.sl (s.binds.map TB.d)), .d (.sl (s.aJ.map Nt.d)), .d (.sl (s.marks.map rM)), .d (DX b)])) (nx+1) (.row [.ax, .ax, .ax, .ax, .ax])) (nx+16) (.arr 0 77 2 (s.marks.map rM)) j:=fun x y l=>by
  unfold zr
  rw[ae _ _ _ _ (show j≠nx+20 by omega),ae _ _ _ _ h2]
 rw[e,e]
theorem MA{o:Nat->ab}{nx:Nat}(hg:Good o nx)(s:c6)(b:List (Int×Tm))(i:Nat)(y:V)(hy:y.refs=[])(l:List D):Good (zr o nx s b (.osl (nx+20) i) y l) (nx+21):=by
 unfold zr
 refine Good.ay (Good.ay (Good.ay (Good.ay (Good.ay (hg.mono af) af rfl) af rfl) af rfl) af ?_) af rfl
 simp[ab.refs,V.aO,V.refs,hy]
theorem Hl(gone:Nat->Prop)(x:V)(L:List V){o:Nat->ab}{nx:Nat}(hg:Good o nx){s:c6}{b:List (Int×Tm)}{l:List D}(uh:∀id,gone id->nx+20<=id){e:Nat->V}{so:Nat->ab}{m:Nat}(gx:fY so gone 59 4 l x)
 (s18:so (nx+18)= .row [.d (.sl (s.sig.cons.map ef.d)), .d (.sl (s.sig.bW.map ef.d)),x, .ax, .osl (nx+16) 0]) (h:∀j,j<nx+20->j≠nx+18->so j=zr o nx s b (.osl (nx+20) 0) .ax l j) (he:iY (nx+20) [⟨x,59,4,l⟩] so gone e L 0):
 bH nx ⟨e,so,m⟩ ⟨aY L,zr o nx s b (.osl (nx+20) 0) .ax l,nx+21⟩:=by
 refine bH.sG gone x (nx+20) L af (fun j hj=> ?_) (stA_20 _ _ _ _ _ _ _) gx (fun j hj=> ?_) (fun j h1 h2=>absurd (uh j h1) af) he
 ·by_cases e1:j=nx+18
  ·subst e1
   rw[stA_18]
   exact mR s18 (pt (pt (uS 0 rfl rfl rfl (uR rP (uR rP mS)))))
  ·refine bC (h j hj e1) (fun r hr=> ?_)
   by_cases e2:j=nx
   ·exact Qn
   ·by_cases e3:j=nx+1
    ·subst e3;rw[stA_1]at hr;simp[ab.refs,V.aO,V.refs]at hr
    ·by_cases e4:j=nx+16
     ·subst e4;rw[stA_16]at hr;simp[ab.refs]at hr
     ·rw[w7 _ _ _ _ _ _ _ e2 e3 e4 e1 (by omega)]at hr
      have:=hg.refs j r hr
      omega
 ·rw[w7 _ _ _ _ _ _ _ (by omega) (by omega) (by omega) (by omega) (by omega)]
  exact FK
def DZ(o:Nat->ab)(nx:Nat)(s:c6)(b:List (Int×Tm))(l:List D):Nat->ab:=ay (zr o nx s b (.osl (nx+20) 0) (.osl (nx+21) 0) (s.binds.map TB.d)) (nx+21) (.arr 0 101 6 l)
theorem Hm(gone:Nat->Prop)(x:V)(L:List V){o:Nat->ab}{nx:Nat}(hg:Good o nx){s:c6}{b:List (Int×Tm)}{l:List D}(uh:∀id,gone id->nx+21<=id){e:Nat->V}{so:Nat->ab}{m:Nat}(gx:fY so gone 101 6 l x)
 (s18:so (nx+18)= .row [.d (.sl (s.sig.cons.map ef.d)), .d (.sl (s.sig.bW.map ef.d)), .osl (nx+20) 0,x, .osl (nx+16) 0]) (h:∀j,j<nx+21->j≠nx+18->so j=DZ o nx s b l j) (he:iY (nx+21) [⟨x,101,6,l⟩] so gone e L 0):
 bH nx ⟨e,so,m⟩ ⟨aY L,DZ o nx s b l,nx+22⟩:=by
 refine bH.sG gone x (nx+21) L af (fun j hj=> ?_) (aa _ _ _) gx (fun j hj=> ?_) (fun j h1 h2=>absurd (uh j h1) af) he
 ·by_cases e1:j=nx+18
  ·subst e1
   rw[DZ,ae _ _ _ _ (by omega),stA_18]
   exact mR s18 (pt (pt (uR rP (uS 0 rfl rfl rfl (uR rP mS)))))
  ·refine bC (h j hj e1) (fun r hr=> ?_)
   rw[DZ,ae _ _ _ _ (by omega)]at hr
   by_cases e2:j=nx
   ·exact Qn
   ·by_cases e3:j=nx+1
    ·subst e3;rw[stA_1]at hr;simp[ab.refs,V.aO,V.refs]at hr
    ·by_cases e4:j=nx+16
     ·subst e4;rw[stA_16]at hr;simp[ab.refs]at hr
     ·by_cases e5:j=nx+20
      ·subst e5;rw[stA_20]at hr;simp[ab.refs]at hr
      ·rw[w7 _ _ _ _ _ _ _ e2 e3 e4 e1 e5]at hr
       have:=hg.refs j r hr
       omega
 ·rw[DZ,ae _ _ _ _ (by omega),w7 _ _ _ _ _ _ _ (by omega) (by omega) (by omega) (by omega) (by omega)]
  exact FK
theorem A7(s:c6)(hs:s.Cp)(b:List (Int×Tm))(o:Nat->ab)(nx:Nat)(hg:Good o nx)(K X:V->(Nat->ab)->Nat->Prop)
 (wT:∀o' nx' i j k,nx<=nx'->Good o' nx'->(∀j,j<nx->o' j=o j)->
  o' i= .arr 0 59 4 (s.binds.map TB.d)->o' j= .arr 0 101 6 (s.aJ.map Nt.d)->o' k= .arr 0 77 2 (s.marks.map rM)->
  K (.agg [.d (.sl (s.sig.cons.map ef.d)), .d (.sl (s.sig.bW.map ef.d)), .osl i 0, .osl j 0, .osl k 0]) o' nx'):
 bZ Tryz.prog 65 [.d (s.kd b)] o nx K X:=by
 refine bZ.aG mix aa8 aH ?_
 rw[c65]
 refine gH ?_
 refine aS (DG s.sig.cons hs.lc) ?_
 refine gH ?_
 refine aS (DG s.sig.bW hs.lf) ?_
 refine gH ?_
 refine Ir rfl (Fu s.marks (by have:=hs.ml;omega) _ _) ?_
 refine gH ?_
 refine aE (bK (ids:=[nx,nx+16,nx+18]) (nx:=nx+20) aH aH [([0],[]),([0],[]),([0],[]),([0],[]),([],[]),([0],[]),([0],[]),([0],[]),([0],[]),([],[]),([],[]),([0],[]),([0],[]),([0],[]),([],[1]),([],[]),([],[2]),([2,1],[2])] bD) ?_
 refine gH ?_
 refine aC (fun i:Nat=>⟨aY [.ad, .ptr nx 0, .ptr (nx+1) 0, .ptr (nx+18) 0, .ad, .ad, .ad, .ad, .ad, .ad, .ad, .ad, .ad, .ad, .ad, .ad, .ad, .ad, .ad, .ad, .ad, .ad, .ad, .ad, .ad, .ad, .d (.sl (s.binds.map TB.d)), .d (.i s.binds.length), .d (.i i)],zr o nx s b (.osl (nx+20) 0) .ax ((s.binds.take i).map TB.d),nx+21⟩)
  (fun i=>i<=s.binds.length) (fun i=>s.binds.length - i) 0 (Nat.zero_le _) (Hl (fun _=>False) .ax _ hg (fun _ h=>h.elim) (.inl ⟨rfl,rfl,bD⟩) cF (fun j h1 h2=>by unfold zr;rw[ae _ _ _ _ (show j≠nx+20 by omega),ae _ _ _ _ h2,ae _ _ _ _ h2,ae _ _ _ _ h2]) ?_) (fun k hk=> ?_)
 ·exact rE
 replace hk:k<=s.binds.length:=hk
 have f0:=D6 o nx s b (.osl (nx+20) 0) .ax ((s.binds.take k).map TB.d)
 have f1:=stA_1 o nx s b (.osl (nx+20) 0) .ax ((s.binds.take k).map TB.d)
 have f16:=stA_16 o nx s b (.osl (nx+20) 0) .ax ((s.binds.take k).map TB.d)
 have f18:=stA_18 o nx s b (.osl (nx+20) 0) .ax ((s.binds.take k).map TB.d)
 have f20:=stA_20 o nx s b (.osl (nx+20) 0) .ax ((s.binds.take k).map TB.d)
 refine Hn f0 f1 f16 f18 f20 ?_
 refine ao (fun h2=> ?_) (fun h2=> ?_)
 ·replace h2:k<s.binds.length:=by simp at h2;omega
  obtain⟨z,hz⟩:=aA h2
  refine Ya f0 f1 f16 f18 f20 hz ?_
  refine aS (w6 z.term (hs.bt z (List.mem_of_getElem? hz))) ?_
  have e0:(s.binds.take k).length=k:=by rw[List.length_take];omega
  have fE:k<=140737488355327/\(k+1)*48<=140737488355328:=by have:=hs.bl;omega
  simp+contextual (disch:=first|omega|simp only[go_sem,false_implies]) only[go_sem,wrap64,if_pos,f0,f1,f16,f18,f20,hz,List.length_map,e0,if_pos fE,Nat.add_assoc,Nat.left_eq_add,Nat.add_eq_left,Nat.add_left_cancel_iff]
  refine aE (bK (ids:=[nx+18,nx+24,nx+34,nx+20]) (nx:=nx+38) aH aH [([0],[]),([0],[]),([1],[]),([1],[]),([1],[]),([1],[]),([],[]),([],[]),([],[2]),([3,2],[3]),([0],[]),([0,3],[0])] bD) ?_
  refine gH ?_
  have rL:s.binds.take (k+1)=s.binds.take k++[z]:=by rw[List.take_add_one,hz];rfl
  refine aj (k+1) h2 af (Hl (fun j=>nx+20<=j) (.osl (nx+20) 1) _ hg (fun _ h=>h) (.inr ⟨nx+20,1,Nat.le_refl _,rfl,by(repeat(first|rfl|rw[aa]|rw[ae _ _ _ _ (by omega)]));rw[rL,List.map_append];rfl⟩) cF (fun j h1 h2=>by(repeat(first|rfl|rw[aa]|rw[ae _ _ _ _ (by omega)]));exact Mz _ _ _ _ _ _ _ _ _ _ h1 h2) ?_)
  exact rE
 ·replace h2:k=s.binds.length:=by simp at h2;omega
  subst h2
  refine Hn f0 f1 f16 f18 f20 ?_
  rw[List.take_length]
  refine aC (fun i:Nat=>⟨aY [.ad, .ptr nx 0, .ptr (nx+1) 0, .ptr (nx+18) 0, .ad, .ad, .ad, .ad, .ad, .ad, .ad, .ad, .ad, .ad, .ad, .ad, .ad, .ad, .ad, .ad, .ad, .ad, .ad, .ad, .ad, .ad, .ad, .ad, .ad, .ad, .ad, .ad, .ad, .ad, .ad, .ad, .ad, .ad, .ad, .ad, .ad, .ad, .ad, .ad, .ad, .ad, .d (.sl (s.aJ.map Nt.d)), .d (.i s.aJ.length), .d (.i i)],DZ o nx s b ((s.aJ.take i).map Nt.d),nx+22⟩)
   (fun i=>i<=s.aJ.length) (fun i=>s.aJ.length - i) 0 (Nat.zero_le _) (Hm (fun _=>False) .ax _ hg (fun _ h=>h.elim) (.inl ⟨rfl,rfl,bD⟩) (by rw[stA_18]) (fun j h1 h2=> ?_) ?_) (fun k hk=> ?_)
  ·rw[DZ,ae _ _ _ _ (by omega)]
   by_cases e:j=nx+20
   ·subst e;rw[stA_20,stA_20]
   ·exact Mz _ _ _ _ _ _ _ _ _ _ af h2
  ·exact rE
  replace hk:k<=s.aJ.length:=hk
  have g0:DZ o nx s b ((s.aJ.take k).map Nt.d) nx=_:=(ae _ _ _ _ af).trans (D6 _ _ _ _ _ _ _)
  have g1:DZ o nx s b ((s.aJ.take k).map Nt.d) (nx+1)=_:=(ae _ _ _ _ af).trans (stA_1 _ _ _ _ _ _ _)
  have g18:DZ o nx s b ((s.aJ.take k).map Nt.d) (nx+18)=_:=(ae _ _ _ _ af).trans (stA_18 _ _ _ _ _ _ _)
  have g21:DZ o nx s b ((s.aJ.take k).map Nt.d) (nx+21)=_:=aa _ _ _
  refine Bt g0 g1 g18 g21 ?_
  refine ao (fun h2=> ?_) (fun h2=> ?_)
  ·replace h2:k<s.aJ.length:=by simp at h2;omega
   obtain⟨z,hz⟩:=aA h2
   refine Hn g0 g1 g18 g21 hz ?_
   refine aS (w6 z.a (hs.nt z (List.mem_of_getElem? hz)).1) ?_
   refine Hn g0 g1 g18 g21 hz ?_
   refine aS (w6 z.b (hs.nt z (List.mem_of_getElem? hz)).2) ?_
   have e0:(s.aJ.take k).length=k:=by rw[List.length_take];omega
   have fE:k<=140737488355327/\(k+1)*80<=140737488355328:=by have:=hs.nl;omega
   simp+contextual (disch:=first|omega|simp only[go_sem,false_implies]) only[go_sem,wrap64,if_pos,g0,g1,g18,g21,hz,List.length_map,e0,if_pos fE,Nat.add_assoc,Nat.left_eq_add,Nat.add_eq_left,Nat.add_left_cancel_iff]
   refine aE (bK (ids:=[nx+18,nx+25,nx+36,nx+21]) (nx:=nx+40) aH aH [([0],[]),([0],[]),([1],[]),([1],[]),([],[]),([1],[]),([1],[]),([],[]),([],[]),([],[2]),([3,2],[3]),([0],[]),([0,3],[0])] bD) ?_
   refine gH ?_
   have rL:s.aJ.take (k+1)=s.aJ.take k++[z]:=by rw[List.take_add_one,hz];rfl
   refine aj (k+1) h2 af (Hm (fun j=>nx+21<=j) (.osl (nx+21) 1) _ hg (fun _ h=>h) (.inr ⟨nx+21,1,Nat.le_refl _,rfl,by(repeat(first|rfl|rw[aa]|rw[ae _ _ _ _ (by omega)]));rw[rL,List.map_append];rfl⟩) cF (fun j h1 h2=>by(repeat(first|rfl|rw[aa]|rw[ae _ _ _ _ (by omega)]));unfold DZ;(repeat(first|rfl|rw[aa]|rw[ae _ _ _ _ (by omega)]))) ?_)
   exact rE
  ·replace h2:k=s.aJ.length:=by simp at h2;omega
   subst h2
   refine Bt g0 g1 g18 g21 ?_
   refine wT _ _ (nx+20) (nx+21) (nx+16) af ?_ (fun j hj=> ?_) ?_ ?_ ?_
   ·have h1:=MA hg s b 0 .ax rfl (s.binds.map TB.d)
    unfold DZ zr
    refine Good.ay (Good.ay (Good.ay (Good.ay (Good.ay (Good.ay (Good.ay (hg.mono af) af rfl) af rfl) af rfl) af ?_) af rfl) af rfl) af ?_
    ·exact qb
    ·exact qb
   ·(repeat(first|rfl|rw[aa]|rw[ae _ _ _ _ (by omega)]))
    rw[DZ,ae _ _ _ _ (by omega)]
    exact w7 _ _ _ _ _ _ _ af af af af af
   ·(repeat(first|rfl|rw[aa]|rw[ae _ _ _ _ (by omega)]))
    rw[DZ,ae _ _ _ _ (by omega)]
    exact stA_20 _ _ _ _ _ _ _
   ·(repeat(first|rfl|rw[aa]|rw[ae _ _ _ _ (by omega)]))
    rw[g21,List.take_length]
   ·(repeat(first|rfl|rw[aa]|rw[ae _ _ _ _ (by omega)]))
    rw[DZ,ae _ _ _ _ (by omega)]
    exact stA_16 _ _ _ _ _ _ _
end Go.Proofs.YtlhemmpklhhgoaaGreat
set_option maxHeartbeats 4000000
namespace Go.Proofs.YtlhemmpklhhgoaaGreat
def fT:c6:=⟨⟨[],[]⟩,[],[],[]⟩
theorem e8:fT.d= .agg [.sl [], .sl [], .sl [], .sl [], .sl []]:=rfl
def c6.mark (s:c6):c6:=⟨s.sig,s.binds,s.aJ,s.marks++[((s.binds.length:Int),(s.aJ.length:Int))]⟩
theorem Pu{s:aF}(h:kU s=true):s.cons.length<=1000000/\s.bW.length<=1000000:=by
 unfold kU at h
 split at h
 ·cases h
 ·rename_i h1
  simp only[Bool.or_eq_true,not_or,decide_eq_true_eq,Bool.not_eq_true',Bool.not_eq_false,dS,Bool.and_eq_true]at h1
  omega
theorem bO.cp {s:c6}(h:bO s):s.Cp:=by
 obtain⟨k1,k2⟩:=Pu h.sig
 have a1:=h.wM
 have a2:=h.I6
 have a3:=h.kZ.len
 refine⟨k1,k2,af,af,af,fun x hx=> ?_,fun n hn=> ?_⟩
 ·have:=(b9 (h.kZ.ok x hx).2).2.1
  omega
 ·have h1:=(b9 (h.aJ n hn).1).2.1
  have h2:=(b9 (h.aJ n hn).2.1).2.1
  omega
theorem MB{o:Nat->ab}{id:Nat}{es:List (D×D)}(h:o id= .b7 es):put o (bE o [id])=o:=by
 funext j
 simp only[bE,List.map_cons,List.map_nil,h,put,List.foldl_cons,List.foldl_nil]
 by_cases e:j=id
 ·subst e;rw[aa,h]
 ·exact FQ
theorem MC(s:c6)(hs:s.Cp)(b:List (Int×Tm))(o:Nat->ab)(nx id:Nat)(hg:Good o nx)(aw:o id= .b7 (enc (D.int .i64) (j8 b)))(K X:V->(Nat->ab)->Nat->Prop)
 (wT:∀o' nx' i j k,nx<=nx'->Good o' nx'->(∀j,j<nx->o' j=o j)->
  o' i= .arr 0 59 4 (s.binds.map TB.d)->o' j= .arr 0 101 6 (s.aJ.map Nt.d)->o' k= .arr 0 77 2 (s.marks.map rM)->
  K (.agg [.d (.sl (s.sig.cons.map ef.d)), .d (.sl (s.sig.bW.map ef.d)), .osl i 0, .osl j 0, .osl k 0]) o' nx'):
 bZ Tryz.prog 65 [.agg [.d (.sl (s.sig.cons.map ef.d)), .d (.sl (s.sig.bW.map ef.d)), .d (.sl (s.binds.map TB.d)), .d (.sl (s.aJ.map Nt.d)), .d (.sl (s.marks.map rM)), .mp id]] o nx K X:=by
 refine bZ.wR (d:=s.kd b) ?_ ?_
 ·exact xq aw
 ·show bZ _ _ _ (put o (bE o [id])) nx K X
  rw[MB aw]
  exact A7 s hs b o nx hg K X wT
end Go.Proofs.YtlhemmpklhhgoaaGreat
namespace Go.Proofs.YtlhemmpklhhgoaaGreat
section
section
variable {P:Program}
def s8(P:Program)(n t t1:Nat)(ic:IC)(bP:List V)(u:V)(o:Nat->ab)(nx:Nat)(K:(Nat->ab)->Nat->Prop):Prop:=
 bP.length<=n/\kT P n nx true ic (It K) ⟨ay (ay (cw bP) t u) t1 u,o,nx⟩
def rr(P:Program)(n t t1:Nat)(ic:IC)(bP:List V)(rs:List ResultVar)(K X:V->(Nat->ab)->Nat->Prop)(e:fL)(s:S):Prop:=
 match e with
 | .normal| .ret=>s8 P n t t1 ic bP (.d .eT) s.o s.nx fun o nx=>sE P rs K X .ret ⟨s.env,o,nx⟩
 | .bL v=>s8 P n t t1 ic bP v s.o s.nx fun o nx=>sE P rs K X .ret ⟨s.env,o,nx⟩
 | .exit _=>False
def A8(P:Program)(n t:Nat)(fh:IC)(ft:List Operand)(g:FuncId)(D:List V->fL->S->Prop)(e:fL)(s:S):Prop:=
 match e with
 | .normal=>kT P n s.nx false fh (D (ft.map s.ev)) ⟨ay s.env t (.func (.func g) [] (ft.map s.ev)),s.o,s.nx⟩
 |_=>False
variable {n t t1:Nat}{ic fh:IC}{bP:List V}{rs:List ResultVar}{K X:V->(Nat->ab)->Nat->Prop}{s:S}{v:V}{ft:List Operand}{g:FuncId}{D:List V->fL->S->Prop}{KR:(Nat->ab)->Nat->Prop}
@[go_sem ↓] theorem MD:rr P n t t1 ic bP rs K X .normal s=s8 P n t t1 ic bP (.d .eT) s.o s.nx fun o nx=>sE P rs K X .ret ⟨s.env,o,nx⟩:=propext Iff.rfl
@[go_sem ↓] theorem SY:rr P n t t1 ic bP rs K X .ret s=s8 P n t t1 ic bP (.d .eT) s.o s.nx fun o nx=>sE P rs K X .ret ⟨s.env,o,nx⟩:=propext Iff.rfl
@[go_sem ↓] theorem SZ:rr P n t t1 ic bP rs K X (.bL v) s=s8 P n t t1 ic bP v s.o s.nx fun o nx=>sE P rs K X .ret ⟨s.env,o,nx⟩:=propext Iff.rfl
@[go_sem ↓] theorem ME:A8 P n t fh ft g D .normal s=kT P n s.nx false fh (D (ft.map s.ev)) ⟨ay s.env t (.func (.func g) [] (ft.map s.ev)),s.o,s.nx⟩:=propext Iff.rfl
@[go_sem ↓] theorem S0:It KR .normal s=KR s.o s.nx:=propext Iff.rfl
@[go_sem ↓] theorem ac7:It KR .ret s=KR s.o s.nx:=propext Iff.rfl
theorem s8.w {o:Nat->ab}{nx:Nat}{K K':(Nat->ab)->Nat->Prop}(hK:∀o nx,K o nx->K' o nx)(h:s8 P n t t1 ic bP v o nx K):EP P n t t1 ic bP v o nx K':=by
 refine⟨h.1,ed ic _ _ _ (fun e s h=> ?_) h.2⟩
 unfold It at h|-
 cases e with
 |normal=>exact hK _ _ h
 |ret=>exact hK _ _ h
 |_=>exact h
theorem bZ.Ja (br:P.follows .mixedOrders=true){f g:FuncId}{jE fh yL:IC}{t m r r1:Nat}{ft:List Operand}{rs:List ResultVar}(hf:Gx P f n jE fh g t ft rs)(hg:CO P g m r r1 yL)
 {args:List V} {o:Nat->ab} {nx:Nat} {K X:V->(Nat->ab)->Nat->Prop} (hl:args.length<=n)
 (h:kT P n nx true jE (A8 P n t fh ft g fun bP=>rr P m r r1 yL bP rs K X) ⟨cw args,o,nx⟩):bZ P f args o nx K X:=by
 refine bZ.CS br hf hg hl (ed jE _ _ _ (fun e s h=> ?_) h)
 unfold A8 at h
 unfold CP
 cases e with
 |normal=>
  refine ed fh _ _ _ (fun e s h=> ?_) h
  unfold rr at h
  unfold Ax
  cases e with
  |normal=>exact s8.w (fun _ _ h=>by unfold sE at h;exact h) h
  |ret=>exact s8.w (fun _ _ h=>by unfold sE at h;exact h) h
  |bL v=>exact s8.w (fun _ _ h=>by unfold sE at h;exact h) h
  |exit _=>exact h
 |_=>exact h
end
attribute [irreducible] s8
theorem pY{P:Program}{n t t1:Nat}{ic:IC}{bP:List V}{v:V}{o:Nat->ab}{nx:Nat}{K:(Nat->ab)->Nat->Prop}(h1:bP.length<=n)(h2:kT P n nx true ic (It K) ⟨ay (ay (cw bP) t v) t1 v,o,nx⟩):s8 P n t t1 ic bP v o nx K:=by
 unfold s8
 exact⟨h1,h2⟩
end
end Go.Proofs.YtlhemmpklhhgoaaGreat
set_option maxHeartbeats 4000000
namespace Go.Proofs.YtlhemmpklhhgoaaGreat
theorem WE{o:Nat->ab}:rR Tryz.prog o 20 true (.d .eT) (.d .eT)=some (.d (.bool true)):=ai
theorem WG{o:Nat->ab}:rR Tryz.prog o 20 true (.d (.iface 162 (.agg []))) (.d .eT)=some (.d (.bool false)):=ai
theorem WH{o:Nat->ab}:rR Tryz.prog o 20 true (.d (.iface 163 (.agg []))) (.d .eT)=some (.d (.bool false)):=ai
theorem DH:u5 Tryz.prog 162=true:=ai
theorem DI:u5 Tryz.prog 163=true:=ai
def AtK(K:V->(Nat->ab)->Nat->Prop)(nx:Nat)(e:Int)(o':Nat->ab)(nx':Nat):Prop:=
 nx+2<=nx'/\Good o' nx'/\o' nx= .row [.d (.i 0)]/\∀o2 n2,nx'<=n2->Good o2 n2->(∀j,j≠nx->j<nx'->o2 j=o' j)->K (.d (.i e)) o2 n2
theorem zh(g:Nat)(bP:List V)(o:Nat->ab)(nx:Nat)(hg:Good o nx)(K X:V->(Nat->ab)->Nat->Prop)
 (hc:bZ Tryz.prog g bP (ay o nx (.row [.d (.i 0)])) (nx+2) (fun v o' nx'=>AtK K nx 0 o' nx')
  (fun v o' nx'=>(v= .d (.iface 162 (.agg []))/\AtK K nx 5 o' nx')\/(v= .d (.iface 163 (.agg []))/\AtK K nx 3 o' nx'))):
 bZ Tryz.prog 101 [.func (.func g) [] bP] o nx K X:=by
 refine bZ.Ja mix Ly Lw aH ?_
 rw[Lx,Vd]
 refine gH ?_
 refine gy (bZ.mono (fun v o' nx' h=> ?_) (fun v o' nx' h=> ?_) hc)
 ·obtain⟨h1,h2,h3,h4⟩:=h
  refine Ju h3 ?_
  refine pY aH ?_
  rw[Lu]
  simp+contextual (disch:=first|omega|simp only[go_sem,false_implies]) only[go_sem,wrap64,if_pos,Nat.add_assoc,Nat.left_eq_add,Nat.add_eq_left,Nat.add_left_cancel_iff,h3,WE]
  exact h4 _ _ af (Good.ay (h2.mono af) af rfl) (fun j j1 j2=>ae _ _ _ _ j1)
 ·rcases h with⟨rfl,h1,h2,h3,h4⟩|⟨rfl,h1,h2,h3,h4⟩
  ·refine Ju h3 ?_
   refine pY aH ?_
   rw[Lu]
   simp+contextual (disch:=first|omega|simp only[go_sem,false_implies]) only[go_sem,wrap64,if_pos,Nat.add_assoc,Nat.left_eq_add,Nat.add_eq_left,Nat.add_left_cancel_iff,h3,WG,DH,DI]
   exact Yp
  ·refine Ju h3 ?_
   refine pY aH ?_
   rw[Lu]
   simp+contextual (disch:=first|omega|simp only[go_sem,false_implies]) only[go_sem,wrap64,if_pos,Nat.add_assoc,Nat.left_eq_add,Nat.add_eq_left,Nat.add_left_cancel_iff,h3,WH,DH,DI]
   exact Yp
theorem uN(s:c6)(hs:s.Fin)(a c:Tm)(ha:a.Fin)(hc:c.Fin)(o:Nat->ab)(nx:Nat)(hg:Good o nx)(K X:V->(Nat->ab)->Nat->Prop)
 (wT:bO s->bn s.sig a=true->bn s.sig c=true->∀o' nx' id,nx<=nx'->Good o' nx'->(∀j,j<nx->o' j=o j)->o' id= .b7 (enc (D.int .i64) (j8 (ah s.binds)))->K (.bS [.agg (s.row++[.mp id]), .d (.bool true)]) o' nx')
 (oQ: ¬ (bO s/\bn s.sig a=true/\bn s.sig c=true)->∀o' nx' id m,nx<=nx'->id<nx'->Good o' nx'->(∀j,j<nx->o' j=o j)->o' id=dg m\/o' id= .b7 (enc (D.int .i64) (j8 m))->K (.bS [.agg (s.row++[.mp id]), .d (.bool false)]) o' nx'):
 bZ Tryz.prog 63 [.d s.d, .d a.d, .d c.d] o nx K X:=by
 refine bZ.aG mix aa6 aH ?_
 rw[c63]
 refine gH ?_
 refine bX (Pq s hs _ _ dB _ _ (fun h o' nx' id i1 i2 i3 i4=> ?_) (fun h o' nx' id m i1 i0 i2 i3 i4=> ?_))
 ·have e0:o' nx= .row s.row:=(i3 _ af).trans cF
  have e1:o' (nx+1)= .row a.row:=(i3 _ af).trans cF
  have e2:o' (nx+2)= .row c.row:=(i3 _ af).trans cF
  have e3:o' (nx+3)= .row [.ax, .ax, .ax, .ax, .ax, .d .dK]:=(i3 _ af).trans cF
  have aw:id<nx':=Good.lt i2 JY
  have w1:∀k,nx≠nx'+k:=fun k=>af
  have w2:∀k j,nx+j≠nx'+k\/True:=fun k j=> .inr trivial
  have w3:∀k,id≠nx'+k:=fun k=>af
  have hgr:Good (ay (ay o' (nx'+3) (.row [.ax, .ax, .ax, .ax, .ax, .d .dK])) (nx'+3) (.row (s.row++[.mp id]))) (nx'+6):=by
   refine Good.ay (Good.ay (i2.mono af) af rfl) af ?_
   simp[ab.refs,V.aO,V.refs]
   omega
  have d1:id≠nx+1:=fun e=>by subst e;rw[i4]at e1;cases e1
  have d2:id≠nx+2:=fun e=>by subst e;rw[i4]at e2;cases e2
  have d3:id≠nx+3:=fun e=>by subst e;rw[i4]at e3;cases e3
  have kno: ¬ (bn s.sig a=true/\bn s.sig c=true)->∀o2 n2,nx'<=n2->Good o2 n2->(∀j,j<nx->o2 j=o' j)->o2 id=o' id->K (.bS [.agg (s.row++[.mp id]), .d (.bool false)]) o2 n2:=fun hv o2 n2 q1 q2 q3 q4=>
   oQ (fun h=>hv h.2) o2 n2 id (ah s.binds) af af q2 (fun j hj=>by rw[q3 j hj,i3 j (by omega)];(repeat(first|rfl|rw[aa]|rw[ae _ _ _ _ (by omega)]))) (.inr (by rw[q4,i4]))
  refine D0 e0 e1 e2 e3 i4 w1 w3 ?_
  refine aZ (nV s hs.sig (ah s.binds) a ha) rfl ?_
  cases va:bn s.sig a with
  |false=>
   refine D0 e0 e1 e2 e3 i4 w1 w3 ?_
   refine aE (bK (ids:=[nx'+3,nx+1,nx+2,nx+3,id]) (nx:=nx'+20) fI fI [([0],[]),([],[]),([],[]),([0],[]),([1],[]),([4],[]),([],[]),([],[]),([],[]),([],[]),([],[]),([],[]),([3,4],[3]),([],[])] bD) ?_
   refine gH ?_
   exact kno (fun h=>by rw[va]at h;exact Bool.false_ne_true h.1) _ _ af (Good.ay (Good.mono hgr af) af JF) (fun j hj=>by(repeat(first|rfl|rw[aa]|rw[ae _ _ _ _ (by omega)]))) cF
  |true=>
   refine D0 e0 e1 e2 e3 i4 w1 w3 ?_
   refine aZ (nV s hs.sig (ah s.binds) c hc) rfl ?_
   cases vc:bn s.sig c with
   |false=>
    refine D0 e0 e1 e2 e3 i4 w1 w3 ?_
    refine aE (bK (ids:=[nx'+3,nx+1,nx+2,nx+3,id]) (nx:=nx'+20) fI fI [([0],[]),([],[]),([],[]),([0],[]),([1],[]),([4],[]),([],[]),([],[]),([0],[]),([2],[]),([4],[]),([],[]),([3,4],[3]),([],[])] bD) ?_
    refine gH ?_
    exact kno (fun h=>by rw[vc]at h;exact Bool.false_ne_true h.2) _ _ af (Good.ay (Good.mono hgr af) af JF) (fun j hj=>by(repeat(first|rfl|rw[aa]|rw[ae _ _ _ _ (by omega)]))) cF
   |true=>
    refine D0 e0 e1 e2 e3 i4 w1 w3 ?_
    refine aE (bK (ids:=[nx'+3,nx+1,nx+2,nx+3,id]) (nx:=nx'+20) fI fI [([0],[]),([],[]),([],[]),([0],[]),([1],[]),([4],[]),([],[]),([],[]),([0],[]),([2],[]),([4],[]),([],[]),([3,4],[3]),([],[])] bD) ?_
    refine gH ?_
    exact wT h va vc _ _ id af (Good.ay (Good.mono hgr af) af JF) (fun j hj=>by(repeat(first|rfl|rw[aa]|rw[ae _ _ _ _ (by omega)]));rw[i3 j (by omega)];(repeat(first|rfl|rw[aa]|rw[ae _ _ _ _ (by omega)]))) Tq
 ·have e0:o' nx= .row s.row:=(i3 _ af).trans cF
  have e3:o' (nx+3)= .row [.ax, .ax, .ax, .ax, .ax, .d .dK]:=(i3 _ af).trans cF
  have w1:∀k,nx≠nx'+k:=fun k=>af
  have w3:∀k,id≠nx'+k:=fun k=>af
  simp only[c6.row,List.cons_append,List.nil_append]at oQ|-
  have e1:o' (nx+1)= .row a.row:=(i3 _ af).trans cF
  have e2:o' (nx+2)= .row c.row:=(i3 _ af).trans cF
  have d1:id≠nx+1:=fun e=>by subst e;rw[e1]at i4;rcases i4 with h|h<;>cases h
  have d2:id≠nx+2:=fun e=>by subst e;rw[e2]at i4;rcases i4 with h|h<;>cases h
  have d3:id≠nx+3:=fun e=>by subst e;rw[e3]at i4;rcases i4 with h|h<;>cases h
  refine Bs e0 e3 w1 w3 ?_
  refine aE (bK (ids:=[nx'+3,nx+1,nx+2,nx+3,id]) (nx:=nx'+20) fI fI [([0],[]),([],[]),([],[]),([],[]),([],[]),([],[]),([],[]),([],[]),([],[]),([],[]),([],[]),([],[]),([3,4],[3]),([],[])] bD) ?_
  refine gH ?_
  refine oQ (fun h'=>h h'.1) _ _ id m af af ?_ (fun j hj=>by(repeat(first|rfl|rw[aa]|rw[ae _ _ _ _ (by omega)]));rw[i3 j (by omega)];(repeat(first|rfl|rw[aa]|rw[ae _ _ _ _ (by omega)]))) Tq
  refine Good.ay (Good.ay (Good.ay (i2.mono af) af rfl) af ?_) af ?_
  all_goals (simp[ab.refs,V.aO,V.refs];omega)
end Go.Proofs.YtlhemmpklhhgoaaGreat
set_option maxHeartbeats 4000000
namespace Go.Proofs.YtlhemmpklhhgoaaGreat
theorem MF(l:List Nt)(hl:l.length<=1000)(g:Nat)(kv:V)(kd:D)(brk:Nt->Bool)(hb:∀x∈l,aV Tryz.prog g [kd,x.d] (.ret [.bool (brk x)]))(o:Nat->ab)(nx:Nat)(hg:Good o nx)(hr:∀r∈kv.refs,r<nx)(hk:dQ o kv=some kd)(K X:V->(Nat->ab)->Nat->Prop)
 (hK:∀r:Int,decide (0<=r)=l.any brk->∀nx',nx<=nx'->K (.d (.i r)) o nx'):
 bZ Tryz.prog 126 [.d (.sl (l.map Nt.d)), .func (.func g) [kv] []] o nx K X:=by
 refine bZ.aG mix R6 aH ?_
 rw[Vr]
 refine Td ?_
 refine aC (fun i:Nat=>⟨aY [.d (.sl (l.map Nt.d)), .func (.func g) [kv] [], .ad, .ad, .ad, .ad, .ad, .d (.i l.length), .d (.i i)],o,nx⟩)
  (fun i=>i<=l.length/\l.any brk=(l.drop i).any brk) (fun i=>l.length - i) 0 ⟨Nat.zero_le _,rfl⟩ ?_ ?_
 ·exact QM
 rintro k ⟨NZ,OX⟩
 refine Td ?_
 refine ao (fun h1=> ?_) (fun h1=> ?_)
 ·have h1:k<l.length:=by simp at h1;omega
  obtain⟨x,hx⟩:=aA h1
  have cy:=List.mem_of_getElem? hx
  have hd:l.drop k=x::l.drop (k+1):=by
   obtain⟨i1,i2⟩:=List.getElem?_eq_some_iff.1 hx
   exact zu
  rw[hd,List.any_cons]at OX
  simp+contextual (disch:=first|omega|simp only[go_sem,false_implies]) only[go_sem,wrap64,if_pos,hx,Nat.add_assoc,Nat.left_eq_add,Nat.add_eq_left,Nat.add_left_cancel_iff,List.length_map,hk]
  refine ak (hb x cy) rfl ?_
  cases Ep:brk x with
  |true=>
   rw[Ep]at OX
   refine gH ?_
   exact hK k (by rw[OX,Bool.true_or,decide_eq_true_eq];omega) _ af
  |false=>
   rw[Ep]at OX
   refine gH ?_
   refine aj (k+1) ⟨h1,OX⟩ af ?_
   exact QM
 ·have h1:k=l.length:=by simp at h1;omega
  subst h1
  refine gH ?_
  exact hK _ (by rw[OX,List.drop_length];rfl) _ af
theorem pk(l:List Nt)(hl:l.length<=1000)(g:Nat)(kv:V)(kd:D)(brk:Nt->Bool)(hb:∀x∈l,aV Tryz.prog g [kd,x.d] (.ret [.bool (brk x)]))(o:Nat->ab)(nx:Nat)(hg:Good o nx)(hr:∀r∈kv.refs,r<nx)(hk:dQ o kv=some kd)(K X:V->(Nat->ab)->Nat->Prop)
 (hK:∀nx',nx<=nx'->K (.d (.bool (l.any brk))) o nx'):
 bZ Tryz.prog 88 [.d (.sl (l.map Nt.d)), .func (.func g) [kv] []] o nx K X:=by
 refine bZ.aG mix abh aH ?_
 rw[c88]
 refine gH ?_
 refine aX (MF l hl g kv kd brk hb o _ (hg.mono af) (fun r h=>by have:=hr r h;omega) hk _ _ fun r h1 nx' h2=> ?_)
 refine Ju h1 ?_
 exact hK _ af
end Go.Proofs.YtlhemmpklhhgoaaGreat
set_option maxHeartbeats 8000000
namespace Go.Proofs.YtlhemmpklhhgoaaGreat
theorem Pv(l:List TB)(hl:l.length<=1000):Nd Tryz.prog 104 [.sl (l.map TB.d)] (.oV (l.map TB.d)):=by
 refine Nd.kM rfl ?_
 refine bZ.aG mix RU aH ?_
 rw[Vg]
 have hc:((l.map TB.d).all fun z=>z.cells.length==4)=true:=by
  rw[List.all_eq_true]
  intro z hz
  obtain⟨r,_,rfl⟩:=List.mem_map.1 hz
  rfl
 have hk:(l.map TB.d).take l.length=l.map TB.d:=List.take_of_length_le aH
 exact Yg hk
theorem Pw{s:aF}{b:List (Int×Tm)}{a c:Tm}(hb:oC s b)(ha:QT s a)(hc:QT s c){f:Nat}{e:Int}{b':List (Int×Tm)}(hf:iC true f a c b=some (e,b')){p q r x m:Nat}(o:Nat->ab)(nx:Nat)(hg:Good o nx)
 (hp:o p= .row [.ptr x 0]) (hq:o q= .row a.row) (hr:o r= .row c.row) (hx:o x= .row [.mp m, .ax, .d (.bool true)]) (hm:o m=dg b) (K X:V->(Nat->ab)->Nat->Prop)
 (aW:e=0->∀E:List TB,b'=b++ah E->∀o' nx' l,nx<=l->nx<=nx'->Good o' nx'->EqH o' x m l 0 true b' E->(∀j,j<nx->j≠x->j≠m->o' j=o j)->K (.bS []) o' nx')
 (oQ:e=5->∀o' nx',nx<=nx'->Good o' nx'->(∀j,j<nx->j≠x->j≠m->o' j=o j)->X (.d (.iface 162 (.agg []))) o' nx')
 (zQ:e=3->∀o' nx',nx<=nx'->Good o' nx'->(∀j,j<nx->j≠x->j≠m->o' j=o j)->X (.d (.iface 163 (.agg []))) o' nx'):
 bZ Tryz.prog 102 [.ptr p 0, .ptr q 0, .ptr r 0] o nx K X:=by
 have lp:p<nx:=hg.lt (by rw[hp];exact ab.noConfusion)
 have lq:q<nx:=hg.lt (by rw[hq];exact ab.noConfusion)
 have lr:r<nx:=hg.lt (by rw[hr];exact ab.noConfusion)
 refine bZ.aG mix RS aH ?_
 rw[Ve]
 simp+contextual (disch:=first|omega|simp only[go_sem,false_implies]) only[go_sem,wrap64,if_pos,hp,hq,hr,Nat.add_assoc,Nat.left_eq_add,Nat.add_eq_left,Nat.add_left_cancel_iff]
 refine aX (wS hb ha hc (L:=[]) aH hf (x:=x) (m:=m) (xl:= .ax) o o _ (fun _=>False) ?_ ?_ hx hm (.inl ⟨rfl,rfl,bD⟩) (fun _ h=>h.elim) (fun j _=> .inr rfl) _ _ (fun h0 E hE o' nx' h1 h2 h3 h4=> ?_) (fun h5 o' nx' h1 h2 h4=> ?_) (fun h3 o' nx' h1 h2 h4=> ?_))
 ·exact hg.mono af
 ·exact hg.mono af
 ·refine bI ?_
  exact aW h0 E hE _ _ _ af af h2 h3 (fun j j1 j2 j3=>h4 j af j2 j3)
 ·refine bI ?_
  exact oQ h5 _ _ af h2 (fun j j1 j2 j3=>h4 j af j2 j3)
 ·refine bI ?_
  exact zQ h3 _ _ af h2 (fun j j1 j2 j3=>h4 j af j2 j3)
theorem bO.aci {s:c6}(h:bO s):oC s.sig (ah s.binds):=⟨h.kZ.keys,fun p hp=>by obtain⟨x,hx,rfl⟩:=dz hp;exact⟨(h.kZ.ok x hx).1,jU (h.kZ.ok x hx).2⟩,h.kZ.I2⟩
def IsB(o:Nat->ab)(vb:V)(a b:Nat)(L:List D):Prop:=vb= .oV L\/∃l,vb= .osl l 0/\a<=l/\l<b/\o l= .arr 0 59 4 L
theorem WI{s:c6}(hs:bO s){a c:Tm}(ha:bn s.sig a=true)(hc:bn s.sig c=true){f:Nat}{e:Int}{b':List (Int×Tm)}(hf:iC true f a c (ah s.binds)=some (e,b')){id:Nat}(o:Nat->ab)(nx:Nat)(hg:Good o nx)
 (aw:o id= .b7 (enc (D.int .i64) (j8 (ah s.binds)))) (brk:Nt->Bool) (uM:e=0->∀E,b'=ah (s.binds++E)->∀n∈s.aJ,aV Tryz.prog 66 [c6.kd ⟨s.sig,s.binds++E,s.aJ,s.marks⟩ b',n.d] (.ret [.bool (brk n)])) (K X:V->(Nat->ab)->Nat->Prop)
 (oQ:e=5\/e=3->∀o' nx',nx<=nx'->Good o' nx'->(∀j,j<nx->o' j=o j)->K (.bS [.agg [.ax, .ax, .ax, .ax, .ax, .d .dK], .d (.i e)]) o' nx')
 (W2:e=0->s.aJ.any brk=true->∀o' nx',nx<=nx'->Good o' nx'->(∀j,j<nx->o' j=o j)->K (.bS [.agg [.ax, .ax, .ax, .ax, .ax, .d .dK], .d (.i 5)]) o' nx')
 (aW:e=0->∀E,b'=ah (s.binds++E)->s.aJ.any brk=false->∀o' nx' vb mid,nx<=nx'->Good o' nx'->(∀j,j<nx->o' j=o j)->IsB o' vb nx nx' ((s.binds++E).map TB.d)->nx<=mid->o' mid=dg b'->K (.bS [.agg [.d (.sl (s.sig.cons.map ef.d)), .d (.sl (s.sig.bW.map ef.d)),vb, .d (.sl (s.aJ.map Nt.d)), .d (.sl (s.marks.map rM)), .mp mid], .d (.i 0)]) o' nx'):
 bZ Tryz.prog 64 [.agg (s.row++[.mp id]), .d a.d, .d c.d] o nx K X:=by
 have qW:id<nx:=hg.lt (by rw[aw];exact ab.noConfusion)
 refine bZ.aG mix aa7 aH ?_
 rw[c64]
 simp only[c6.row,List.cons_append,List.nil_append]
 refine Ju aw ?_
 refine bX (bZ.Gz LA (kt:=3) (vt:=33) (l:=enc (D.int .i64) (j8 (ah s.binds))) (by(repeat(first|rfl|rw[aa]|rw[ae _ _ _ _ (by omega)]));exact aw) ?_)
 refine Ju aw ?_
 have hgH:Good (ay (ay (ay (ay (ay (ay (ay (ay o nx (.row (s.row++[.mp id]))) (nx+1) (.row a.row)) (nx+2) (.row c.row)) (nx+3) (.row [.ax, .ax, .ax, .ax, .ax, .d .dK])) (nx+7) (dg (ah s.binds))) (nx+9) (.row [.mp (nx+7), .ax, .d (.bool true)])) (nx+10) (.row [.d .lu])) (nx+10) (.row [.ptr (nx+9) 0])) (nx+13):=by
  refine Good.ay (Good.ay (Good.ay (Good.ay (Good.ay (Good.ay (Good.ay (Good.ay (hg.mono af) af ?_) af rfl) af rfl) af rfl) af rfl) af ?_) af rfl) af ?_
  all_goals (simp[ab.refs,V.aO,V.refs]<;>omega)
 refine aX (zh _ _ _ _ hgH _ _ (Pw hs.aci (jU ha) (jU hc) hf (p:=nx+10) (q:=nx+1) (r:=nx+2) (x:=nx+9) (m:=nx+7) _ _ ?_ cF cF cF cF cF _ _ (fun h0 E hE o1 n1 l g1 g2 g3 g4 g5=>⟨af,g3, ?_,fun o2 n2 k1 k2 k3=> ?_⟩) (fun h5 o1 n1 g2 g3 g5=> .inl ⟨rfl,af,g3, ?_,fun o2 n2 k1 k2 k3=> ?_⟩) (fun h3 o1 n1 g2 g3 g5=> .inr ⟨rfl,af,g3, ?_,fun o2 n2 k1 k2 k3=> ?_⟩)))
 ·exact Good.ay (hgH.mono af) af rfl
 ·exact Tl
 ·have ll:l<n1:=g3.lt (by rw[g4.RN];exact ab.noConfusion)
  have f0:o2 nx= .row (s.row++[.mp id]):=by rw[k3 _ (by omega) (by omega),g5 _ (by omega) (by omega) (by omega)];(repeat(first|rfl|rw[aa]|rw[ae _ _ _ _ (by omega)]))
  have f3:o2 (nx+3)= .row [.ax, .ax, .ax, .ax, .ax, .d .dK]:=by rw[k3 _ (by omega) (by omega),g5 _ (by omega) (by omega) (by omega)];(repeat(first|rfl|rw[aa]|rw[ae _ _ _ _ (by omega)]))
  have f10:o2 (nx+10)= .row [.ptr (nx+9) 0]:=by rw[k3 _ (by omega) (by omega),g5 _ (by omega) (by omega) (by omega)];(repeat(first|rfl|rw[aa]|rw[ae _ _ _ _ (by omega)]))
  have f9:o2 (nx+9)= .row [.mp (nx+7), .osl l 0, .d (.bool true)]:=by rw[k3 _ (by omega) (by omega)];exact g4.row
  have f7:o2 (nx+7)=dg b':=by rw[k3 _ (by omega) (by omega)];exact g4.map
  have fl:o2 l= .arr 0 59 4 (E.map TB.d):=by rw[k3 _ (by omega) (by omega)];exact g4.RN
  have cQ:∀j,j<nx->o2 j=o j:=fun j hj=>by rw[k3 _ (by omega) (by omega),g5 _ (by omega) (by omega) (by omega)];(repeat(first|rfl|rw[aa]|rw[ae _ _ _ _ (by omega)]))
  have w1:∀k,nx≠n2+k:=fun k=>af
  have w2:∀k,l≠n2+k:=fun k=>af
  have w3:l≠nx:=af
  refine Ho f0 f3 f10 f9 f7 fl w1 w2 w3 ?_
  refine yJ (Pv s.binds (by have:=hs.kZ.len;omega)) ?_
  refine Ho f0 f3 f10 f9 f7 fl w1 w2 w3 ?_
  have Px:b'=ah (s.binds++E):=by rw[hE,dP]
  have hlen:s.binds.length+E.length<=20:=by
   have h1:=(sW f a c _ b' (h0 ▸ hf) hs.aci (jU ha) (jU hc)).1
   have h2:=Dv h1.keys fun v hv=>by
    obtain⟨p,hp,rfl⟩:=List.mem_map.1 hv
    exact(h1.ok p hp).1
   rw[List.length_map,Px]at h2
   unfold ah at h2
   rw[List.length_map,List.length_append]at h2
   exact h2
  have fE:s.binds.length+E.length<=1099511627776/\(s.binds.length+E.length)*48<=1099511627776:=af
  by_cases hn:E=[]
  ·subst hn
   simp+contextual (disch:=first|omega|simp only[go_sem,false_implies]) only[go_sem,wrap64,if_pos,List.map_nil,if_true]
   refine aE (bK (ids:=[nx,nx+10,nx+9,l]) (nx:=n2+21) fI fI [([0],[]),([0],[]),([0],[]),([],[]),([1],[]),([2],[]),([2],[]),([2],[]),([3],[]),([0],[]),([0],[]),([0],[0])] bD) ?_
   refine D1 f3 f10 f9 f7 w1 ?_
   have tY:=hs.wM
   refine aX (pk s.aJ af 66 _ _ brk (uM h0 [] Px) _ _ ?_ ?_ ?_ _ _ (fun n3 h3=> ?_))
   ·refine(Good.ay (Good.ay (k2.mono af) af ?_) af ?_)
    all_goals (simp[ab.refs,V.aO,V.refs]<;>omega)
   ·intro r hr
    simp[V.aO,V.refs]at hr
    omega
   ·simp+contextual (disch:=first|omega|simp only[go_sem,false_implies]) only[go_sem,wrap64,if_pos,f7,w1,Nat.add_assoc,Nat.left_eq_add,Nat.add_eq_left,Nat.add_left_cancel_iff,List.append_nil]
   cases QS:s.aJ.any brk with
   |true=>
    refine D1 f3 f10 f9 f7 w1 ?_
    refine W2 h0 QS _ _ af (Good.ay (Good.ay (Good.ay (k2.mono af) af ?_) af ?_) af ?_) (fun j hj=>by(repeat(first|rfl|rw[aa]|rw[ae _ _ _ _ (by omega)]));exact cQ j hj)
    all_goals (simp[ab.refs,V.aO,V.refs]<;>omega)
   |false=>
    refine D1 f3 f10 f9 f7 w1 ?_
    refine aW h0 [] Px QS _ _ (.oV (s.binds.map TB.d)) (nx+7) af (Good.ay (Good.ay (Good.ay (k2.mono af) af ?_) af ?_) af ?_) (fun j hj=>by(repeat(first|rfl|rw[aa]|rw[ae _ _ _ _ (by omega)]));exact cQ j hj) (.inl (by rw[List.append_nil])) af JD
    all_goals (simp[ab.refs,V.aO,V.refs]<;>omega)
  ·have Kq: ¬List.map TB.d E=[]:=by simpa using hn
   rw[if_neg Kq,if_pos fE]
   refine Ho f0 f3 f10 f9 f7 fl w1 w2 w3 ?_
   refine aE (bK (ids:=[nx,nx+10,nx+9,l,n2+17]) (nx:=n2+21) fI fI [([0],[]),([0],[]),([0],[]),([],[]),([1],[]),([2],[]),([2],[]),([2],[]),([3],[4]),([0],[]),([0],[]),([0,4],[0])] bD) ?_
   refine D1 f3 f10 f9 f7 w1 ?_
   have tY:=hs.wM
   refine aX (pk s.aJ af 66 _ _ brk (uM h0 E Px) _ _ ?_ ?_ ?_ _ _ (fun n3 h3=> ?_))
   ·refine(Good.ay (Good.ay (Good.ay (k2.mono af) af ?_) af ?_) af ?_)
    all_goals (simp[ab.refs,V.aO,V.refs]<;>omega)
   ·intro r hr
    simp[V.aO,V.refs]at hr
    omega
   ·refine Jv f7 w1 ?_
    rw[<- List.map_append]
   cases QS:s.aJ.any brk with
   |true=>
    refine D1 f3 f10 f9 f7 w1 ?_
    refine W2 h0 QS _ _ af (Good.ay (Good.ay (Good.ay (Good.ay (k2.mono af) af ?_) af ?_) af ?_) af ?_) (fun j hj=>by(repeat(first|rfl|rw[aa]|rw[ae _ _ _ _ (by omega)]));exact cQ j hj)
    all_goals (simp[ab.refs,V.aO,V.refs]<;>omega)
   |false=>
    refine D1 f3 f10 f9 f7 w1 ?_
    refine aW h0 E Px QS _ _ (.osl (n2+17) 0) (nx+7) af (Good.ay (Good.ay (Good.ay (Good.ay (k2.mono af) af ?_) af ?_) af ?_) af ?_) (fun j hj=>by(repeat(first|rfl|rw[aa]|rw[ae _ _ _ _ (by omega)]));exact cQ j hj) (.inr ⟨n2+17,rfl,af,af,by(repeat(first|rfl|rw[aa]|rw[ae _ _ _ _ (by omega)]));rw[List.map_append]⟩) af JD
    all_goals (simp[ab.refs,V.aO,V.refs]<;>omega)
 ·exact Tl
 ·have h9:o2 (nx+3)= .row [.ax, .ax, .ax, .ax, .ax, .d .dK]:=by rw[k3 _ (by omega) (by omega),g5 _ (by omega) (by omega) (by omega)];(repeat(first|rfl|rw[aa]|rw[ae _ _ _ _ (by omega)]))
  refine Ju h9 ?_
  have e5:e=5:=h5
  subst e5
  exact oQ (.inl rfl) _ _ af (Good.ay (k2.mono af) af rfl) (fun j hj=>by rw[ae _ _ _ _ (by omega),k3 _ (by omega) (by omega),g5 _ (by omega) (by omega) (by omega)];(repeat(first|rfl|rw[aa]|rw[ae _ _ _ _ (by omega)])))
 ·exact Tl
 ·have h9:o2 (nx+3)= .row [.ax, .ax, .ax, .ax, .ax, .d .dK]:=by rw[k3 _ (by omega) (by omega),g5 _ (by omega) (by omega) (by omega)];(repeat(first|rfl|rw[aa]|rw[ae _ _ _ _ (by omega)]))
  refine Ju h9 ?_
  have e5:e=3:=h3
  subst e5
  exact oQ (.inr rfl) _ _ af (Good.ay (k2.mono af) af rfl) (fun j hj=>by rw[ae _ _ _ _ (by omega),k3 _ (by omega) (by omega),g5 _ (by omega) (by omega) (by omega)];(repeat(first|rfl|rw[aa]|rw[ae _ _ _ _ (by omega)])))
end Go.Proofs.YtlhemmpklhhgoaaGreat
set_option maxHeartbeats 4000000
namespace Go.Proofs.YtlhemmpklhhgoaaGreat
theorem iE(l:List TB):rn (ah l)=l:=by
 unfold ah rn
 rw[List.map_map]
 exact List.map_id _
theorem A9{s:aF}{t:Tm}(h:bn s t=true):t.kX:=Tm.Fm _ (by have:=(b9 h).2.1;omega)
theorem oC.len {s:aF}{l:List TB}(h:oC s (ah l)):l.length<=20:=by
 have:=Dv h.keys fun v hv=>by
  obtain⟨p,hp,rfl⟩:=List.mem_map.1 hv
  exact(h.ok p hp).1
 rw[List.length_map]at this
 unfold ah at this
 rwa [List.length_map]at this
theorem zi{l:List TB}(hl:l.length<=1000){t x:Tm}{f:Nat}(h:jY f (ah l) t=some x):aV Tryz.prog 137 [.sl (l.map TB.d),t.d] (.ret [x.d]):=by
 refine aV.aG mix abG aH ?_
 rw[abF]
 refine bI ?_
 refine aC (fun i:Nat×Tm=>⟨aY [.d (.sl (l.map TB.d)), .ad, .ad, .ptr 0 0, .ptr 1 0],ay (ay (fun _=> .no) 0 (.row i.2.row)) 1 (.row [.d (.i 0), .d (.i 0), .ax]),2⟩)
  (fun i=>jY i.1 (ah l) i.2=some x) (fun i=>i.1) (f,t) h ?_ ?_
 ·exact NA
 rintro⟨f,t⟩ hf
 simp only at hf
 cases f with
 |zero=>cases hf
 |succ f=>
 simp only[jY]at hf
 by_cases h1:t.op=1
 ·have db:(t.op==1)=true:=by simpa using h1
  rw[if_pos h1]at hf
  refine lT db ?_
  refine ak (lQ l t.n af) rfl ?_
  rcases rb l t.n with⟨g1,g2⟩|⟨k,y,g1,g2,g3⟩
  ·have DY:decide (findF l t.n≥0)=false:=by simp;omega
   rw[g2]at hf
   injection hf with hf
   subst hf
   exact Jz db DY
  ·have DY:decide (((k:Nat):Int)≥0)=true:=aH
   rw[g3]at hf
   refine D2 db g1 DY ?_
   refine ak (lQ l t.n af) rfl ?_
   refine Jw db g1 DY g2 ?_
   refine aj (f,y.term) hf mQ (bH.bM _ af af dB (fun j hj=> ?_) ?_)
   ·have Nb:j<2:=hj
    rcases(show j=0\/j=1 from af)with rfl|rfl
    ·exact cF
    ·exact cF
   ·exact dC
 ·have db:(t.op==1)=false:=by simpa using h1
  exact QP
theorem pZ{s:aF}{l:List TB}(hb:oC s (ah l))(hv:∀p∈ah l,bn s p.2=true){n:Int}{y:Tm}(hn:bR (ah l) n=none)(hr:0<=n/\n<20)(hy:bn s y=true){e:Int}{b':List (Int×Tm)}(h:eB true (ah l) n y=(e,b')):
 aV Tryz.prog 138 [.sl (l.map TB.d), .i n,y.d] (.ret [.sl (if e=0 then(rn b').map TB.d else []), .i e]):=by
 have hlen:=hb.len
 have hyq:=jU hy
 obtain⟨is,A0⟩:∃is:Bool,is=true↔mH (ah l) n y:=by
  classical
  exact⟨decide (mH (ah l) n y),aH⟩
 refine aV.aG mix abI aH ?_
 rw[abH]
 refine bI ?_
 refine ak (wY af (fun p hp=>(hb.ok p hp).2.vs) (fun p hp=>A9 (hv p hp)) n y hyq.vs (A9 hy) A0) rfl ?_
 cases is with
 |true=>
  have kW:eB true (ah l) n y=(5,ah l):=by unfold eB;rw[if_pos (A0.1 rfl)]
  rw[kW]at h
  cases h
  exact jW
 |false=>
  have Nk: ¬mH (ah l) n y:=fun h=>Bool.false_ne_true (A0.2 h)
  have ya:=wP hb hn hr hyq Nk
  have ea:ah l++[(n,y)]=ah (l++[⟨n,y⟩]):=by rw[dP];rfl
  obtain⟨fo,xn⟩:∃fo:Bool,fo=true↔∀x∈l++[(⟨n,y⟩:TB)],ui (ah (l++[⟨n,y⟩])) x.term:=by
   classical
   exact⟨decide (∀x∈l++[(⟨n,y⟩:TB)],ui (ah (l++[⟨n,y⟩])) x.term),aH⟩
  rw[ea]at ya
  obtain⟨l',L5,R',I7,Gb⟩:=ya.sim
  have bf:(∀p∈ah l++[(n,y)],ui (ah l++[(n,y)]) p.2)↔∀x∈l++[(⟨n,y⟩:TB)],ui (ah (l++[⟨n,y⟩])) x.term:=by
   rw[ea]
   exact⟨fun h x hx=>h _ (gY hx),fun h p hp=>by obtain⟨x,hx,rfl⟩:=dz hp;exact h x hx⟩
  have ac8:=tL (l:=l++[⟨n,y⟩]) fI (fun p hp=>(ya.ok p hp).2.fits) (fun p hp=>by obtain⟨r,hr⟩:=FU I7 12 p.2 40 (ya.ok p hp).2.vs;exact⟨_,r,hr⟩) xn
  rw[List.map_append]at ac8
  have fE:(l.length<=140737488355327/\(l.length+1)*48<=140737488355328):=af
  refine rD fE ?_
  refine aE ai ?_
  refine rD fE ?_
  refine ak ac8 rfl ?_
  cases fo with
  |false=>
   have kW:eB true (ah l) n y=(3,ah l++[(n,y)]):=by unfold eB;rw[if_neg Nk,if_pos ⟨rfl,fun h=>Bool.false_ne_true (xn.2 (bf.1 h))⟩]
   rw[kW]at h
   cases h
   exact jW
  |true=>
   have kW:eB true (ah l) n y=(0,ah l++[(n,y)]):=by unfold eB;rw[if_neg Nk,if_neg (fun h=>h.2 (bf.2 (xn.1 rfl)))]
   rw[kW]at h
   cases h
   rw[ea,iE]
   refine bI ?_
   rw[List.map_append]
   rfl
theorem w8{s:aF}:∀ (f:Nat) (t u:Tm) (l:List TB) (e:Int) (b':List (Int×Tm)),iC true f t u (ah l)=some (e,b')->oC s (ah l)->Inv s true (ah l)->bn s t=true->bn s u=true->
 aV Tryz.prog 113 [.sl (l.map TB.d),t.d,u.d] (.ret [.sl (if e=0 then(rn b').map TB.d else []), .i e])
 |0,_,_,_,_,_,h,_,_,_,_=>by cases h
 |f+1,t,u,l,e,b',h,hb,hI,ht,hu=>by
  have hlen:=hb.len
  simp only[iC]at h
  obtain⟨x,hx,qx,nx⟩:=e7 hb (jU ht)
  obtain⟨y,hy,qy,ny⟩:=e7 hb (jU hu)
  rw[hx,hy]at h
  dsimp only at h
  obtain⟨ga,Md⟩:=lN hx
  obtain⟨gc,vr⟩:=lN hy
  have Ji:∀p∈ah l,bn s p.2=true:=fun p hp=>(hI.ok p hp).2
  have vx:=wN Ji ga t x Md ht
  have vy:=wN Ji gc u y vr hu
  have hsg:=(rm.1 vx).1
  have I4:=((Tm.bT x).1 qx.fits).1
  refine aV.aG mix abl aH ?_
  rw[abk]
  refine bI ?_
  refine aS (zi af Md) ?_
  refine bI ?_
  refine aS (zi af vr) ?_
  refine bI ?_
  refine aE ai ?_
  by_cases h1:x.op=1
  ·obtain⟨rx,ex⟩:=oB vx h1
   have db:(x.op==1)=true:=by simpa using h1
   rw[if_pos h1]at h
   by_cases h2:y.op=1
   ·obtain⟨ry,ey⟩:=oB vy h2
    have eO:(y.op==1)=true:=by simpa using h2
    rw[if_pos h2]at h
    by_cases h3:x.n=y.n
    ·have j6:(x.n==y.n)=true:=by simpa using h3
     rw[if_pos h3]at h
     cases h
     rw[iE]
     simp+contextual (disch:=first|omega|simp only[go_sem,false_implies]) only[go_sem,wrap64,if_pos,db,eO,j6]
    ·have j6:(x.n==y.n)=false:=by simpa using h3
     rw[if_neg h3]at h
     injection h with h
     have Pk:bR (ah l) (max x.n y.n)=none:=by
      rw[Int.max_def];split
      ·exact ny h2
      ·exact nx h1
     have B0:max x.n y.n=if y.n>x.n then y.n else x.n:=by rw[Int.max_def];split<;>split<;>omega
     have hmn:min x.n y.n=if y.n<x.n then y.n else x.n:=by rw[Int.min_def];split<;>split<;>omega
     have hrx:0<=max x.n y.n/\max x.n y.n<20:=af
     have hry:=Hf hsg (v:=min x.n y.n) af
     rw[B0]at h Pk hrx
     rw[hmn]at h hry
     refine D2 db eO j6 ?_
     refine aS (LW _) ?_
     refine bI ?_
     refine aS (pZ hb Ji Pk hrx hry h) ?_
     exact J2
   ·have eO:(y.op==1)=false:=by simpa using h2
    rw[if_neg h2]at h
    injection h with h
    refine Bh db eO ?_
    refine bw (pZ hb Ji (nx h1) rx vy h) ?_
    exact jW
  ·have db:(x.op==1)=false:=by simpa using h1
   rw[if_neg h1]at h
   by_cases h2:y.op=1
   ·obtain⟨ry,ey⟩:=oB vy h2
    have eO:(y.op==1)=true:=by simpa using h2
    rw[if_pos h2]at h
    injection h with h
    refine Bh db eO ?_
    refine bw (pZ hb Ji (ny h2) ry vx h) ?_
    exact jW
   ·have eO:(y.op==1)=false:=by simpa using h2
    rw[if_neg h2]at h
    by_cases h3:x.op=y.op/\x.n=y.n/\x.kids.length=y.kids.length
    ·rw[if_pos h3]at h
     obtain⟨k1,k2,k3⟩:=h3
     have Q1:(x.op !=y.op)=false:=by simpa using k1
     have k2':(x.n !=y.n)=false:=by simpa using k2
     have k3':((x.kids.length:Int)!=(y.kids.length:Int))=false:=by rw[bne_eq_false_iff_eq];omega
     simp+contextual (disch:=first|omega|simp only[go_sem,false_implies]) only[go_sem,wrap64,if_pos,db,eO,Q1,k2',k3',List.length_map]
     refine aC (fun i:Nat×List TB=>⟨aY [.d (.sl (i.2.map TB.d)), .ad, .ad, .ad, .ptr 0 0, .ptr 1 0, .ad, .ad, .d (.i i.1)],ay (ay (fun _=> .no) 0 (.row x.row)) 1 (.row y.row),2⟩)
      (fun i=>i.1<=x.kids.length/\lg (iC true f) (x.kids.drop i.1) (y.kids.drop i.1) (ah i.2)=some (e,b')/\oC s (ah i.2)/\Inv s true (ah i.2)) (fun i=>x.kids.length - i.1) (0,l) ⟨Nat.zero_le _,h,hb,hI⟩ ?_ ?_
     ·refine bH.bM _ af af dB (fun j hj=> ?_) ?_
      ·have Nb:j<2:=hj
       rcases(show j=0\/j=1 from af)with rfl|rfl
       ·exact cF
       ·exact cF
      ·exact dC
     rintro⟨k,L⟩ ⟨hk,hL,hA,hJ⟩
     dsimp only at hk hL hA hJ|-
     refine uj ?_
     refine ao (fun h6=> ?_) (fun h6=> ?_)
     ·replace h6:k<x.kids.length:=by simp at h6;omega
      obtain⟨xk,hxk⟩:=aA h6
      obtain⟨yk,hyk⟩:=aA (k3 ▸ h6:k<y.kids.length)
      have dx:x.kids.drop k=xk::x.kids.drop (k+1):=by
       obtain⟨i1,i2⟩:=List.getElem?_eq_some_iff.1 hxk
       exact zu
      have dy:y.kids.drop k=yk::y.kids.drop (k+1):=by
       obtain⟨i1,i2⟩:=List.getElem?_eq_some_iff.1 hyk
       exact zu
      rw[dx,dy]at hL
      simp only[lg]at hL
      have vxk:=uK vx (List.mem_of_getElem? hxk)
      have vyk:=uK vy (List.mem_of_getElem? hyk)
      cases hq:iC true f xk yk (ah L)with
      |none=>rw[hq]at hL;cases hL
      |some q=>
       obtain⟨e1,b1⟩:=q
       rw[hq]at hL
       dsimp only at hL
       refine rN hxk hyk ?_
       refine aS (w8 f xk yk L e1 b1 hq hA hJ vxk vyk) ?_
       by_cases e0:e1=0
       ·subst e0
        rw[if_pos rfl]at hL|-
        have hA':=(sW f xk yk _ b1 hq hA (jU vxk) (jU vyk)).1
        have hJ':=(eq_inv f xk yk _ b1 hq hJ vxk vyk).1
        refine bI ?_
        refine aE (ba rfl) ?_
        refine bI ?_
        refine aj (k+1,rn b1) ⟨h6,by rw[uL];exact hL,by rw[uL];exact hA',by rw[uL];exact hJ'⟩ mQ (bH.bM _ af af dB (fun j hj=>rfl) ?_)
        exact dC
       ·have e0':(e1 !=0)=true:=by simpa using e0
        rw[if_neg e0]at hL|-
        cases hL
        rw[if_neg e0]
        refine bI ?_
        refine aE (ba rfl) ?_
        exact xq e0'
     ·replace h6:k=x.kids.length:=by simp at h6;omega
      subst h6
      rw[List.drop_length]at hL
      simp only[lg]at hL
      cases hL
      rw[if_pos rfl,iE]
      exact jW
    ·rw[if_neg h3]at h
     cases h
     by_cases k1:x.op=y.op
     ·have Q1:(x.op !=y.op)=false:=by simpa using k1
      by_cases k2:x.n=y.n
      ·have k2':(x.n !=y.n)=false:=by simpa using k2
       have k3':((x.kids.length:Int)!=(y.kids.length:Int))=true:=by
        rw[bne_iff_ne]
        exact fun e=>h3 ⟨k1,k2,af⟩
       simp+contextual (disch:=first|omega|simp only[go_sem,false_implies]) only[go_sem,wrap64,if_pos,db,eO,Q1,k2',k3',List.length_map]
      ·have k2':(x.n !=y.n)=true:=by simpa using k2
       simp+contextual (disch:=first|omega|simp only[go_sem,false_implies]) only[go_sem,wrap64,if_pos,db,eO,Q1,k2',List.length_map]
     ·have Q1:(x.op !=y.op)=true:=by simpa using k1
      exact Nq db eO Q1
end Go.Proofs.YtlhemmpklhhgoaaGreat
set_option maxHeartbeats 4000000
namespace Go.Proofs.YtlhemmpklhhgoaaGreat
theorem nW(l:List ef)(hl:l.length<=1000000):aV Tryz.prog 73 [.sl (l.map ef.d), .sl (l.map ef.d)] (.ret [.bool true]):=by
 refine aV.aG mix abd aH ?_
 rw[c73]
 refine uj ?_
 refine aC (fun k:Nat=>⟨aY [.d (.sl (l.map ef.d)), .d (.sl (l.map ef.d)), .ad, .ad, .ad, .d (.i k)],fun _=> .no,0⟩)
  (fun k=>k<=l.length) (fun k=>l.length - k) 0 (Nat.zero_le _) (bH.d0 _ ?_) (fun k hk=> ?_)
 ·exact dC
 refine Yi ?_
 refine ao (fun h2=> ?_) (fun h2=> ?_)
 ·simp at h2
  obtain⟨x,hx⟩:=aA h2
  refine Tg hx ?_
  refine aE (ba rfl) ?_
  refine bI ?_
  refine aj (k+1) h2 af (bH.d0 _ ?_)
  exact dC
 ·exact Th
theorem xO(l:List Nt)(hl:l.length<=1000000)(hf:∀x∈l,x.a.fits/\x.b.fits):aV Tryz.prog 74 [.sl (l.map Nt.d), .sl (l.map Nt.d)] (.ret [.bool true]):=by
 refine aV.aG mix abe aH ?_
 rw[c74]
 refine uj ?_
 refine aC (fun k:Nat=>⟨aY [.d (.sl (l.map Nt.d)), .d (.sl (l.map Nt.d)), .ad, .ad, .ad, .d (.i k)],fun _=> .no,0⟩)
  (fun k=>k<=l.length) (fun k=>l.length - k) 0 (Nat.zero_le _) (bH.d0 _ ?_) (fun k hk=> ?_)
 ·exact dC
 refine Yi ?_
 refine ao (fun h2=> ?_) (fun h2=> ?_)
 ·simp at h2
  obtain⟨x,hx⟩:=aA h2
  have I4:=hf x (List.mem_of_getElem? hx)
  have s1:=wo x.a I4.1 x.a I4.1
  have s2:=wo x.b I4.2 x.b I4.2
  rw[pR]at s1 s2
  refine Tg hx ?_
  refine aZ s1 rfl ?_
  refine rD hx ?_
  refine aZ s2 rfl ?_
  exact Zr
 ·exact Th
theorem MG(o:Nat->ab)(mW:Bool)(a b:Int):rR Tryz.prog o 77 mW (.d (.agg [.i a, .i b])) (.d (.agg [.i a, .i b]))=some (.d (.bool true)):=by
 have h1:bN Tryz.prog 77=some (.struct [(3,0),(3,1)]):=ai
 have h3:bN Tryz.prog 3=some .int:=ai
 have h5:df Tryz.prog 3=some false:=ai
 have h6:oX Tryz.prog 100 77 (.agg [.i a, .i b]) (.agg [.i a, .i b])=some true:=by simp[oX,h1,h3,h5,x6,NC,iJ,Ea]
 obtain⟨fs,h⟩:∃fs,Tryz.prog.underlying 77=some (.struct fs):=structOf ai
 have h2:Tryz.prog.eqGuardType Tryz.prog.depth 77=false:=ai
 unfold rR
 rw[h]
 dsimp only
 rw[if_pos h2,h6]
 simp
theorem nX(s:c6)(h1:s.sig.cons.length<=1000000)(h2:s.sig.bW.length<=1000000)(h3:s.binds.length<=1000000)(h4:s.aJ.length<=1000000)(h5:s.marks.length<=1000000)
 (h6:∀x∈s.binds,x.term.fits) (h7:∀x∈s.aJ,x.a.fits/\x.b.fits):aV Tryz.prog 21 [s.d,s.d] (.ret [.bool true]):=by
 refine aV.aG mix aa3 aH ?_
 rw[c21]
 refine uj ?_
 refine aC (fun k:Nat=>⟨aY [.ad, .ad, .ptr 0 0, .ptr 1 0, .ad, .d (.i k)],ay (ay (fun _=> .no) 0 (.row s.row)) 1 (.row s.row),2⟩)
  (fun k=>k<=s.marks.length) (fun k=>s.marks.length - k) 0 (Nat.zero_le _) ?_ (fun k hk=> ?_)
 ·exact NA
 simp+contextual (disch:=first|omega|simp only[go_sem,false_implies]) only[go_sem,wrap64,if_pos,List.length_map,beq_self_eq_true,Bool.and_self]
 refine ao (fun g2=> ?_) (fun g2=> ?_)
 ·simp at g2
  obtain⟨x,hx⟩:=aA g2
  obtain⟨m1,m2⟩:=x
  simp+contextual (disch:=first|omega|simp only[go_sem,false_implies]) only[go_sem,wrap64,if_pos,hx,List.length_map,bne_self_eq_false,MG]
  refine aE (ba rfl) ?_
  refine bI ?_
  refine aj (k+1) g2 af ?_
  exact NA
 ·refine Np ?_
  refine ak (nW s.sig.cons h1) rfl ?_
  refine Np ?_
  refine ak (nW s.sig.bW h2) rfl ?_
  refine Np ?_
  refine ak (wV s.binds h3 h6) rfl ?_
  refine Np ?_
  refine ak (xO s.aJ h4 h7) rfl ?_
  exact Th
theorem zj:aV Tryz.prog 18 [fT.d] (.ret [.bool true]):=by
 refine aV.aG mix aev aH ?_
 rw[c18]
 simp+contextual (disch:=first|omega|simp only[go_sem,false_implies]) only[go_sem,wrap64,if_pos,e8]
 refine ak (nX fT bD bD bD bD bD (fun _ h=>by cases h) (fun _ h=>by cases h)) rfl ?_
 exact jW
end Go.Proofs.YtlhemmpklhhgoaaGreat
set_option maxHeartbeats 4000000
namespace Go.Proofs.YtlhemmpklhhgoaaGreat
theorem ji.all {sg:aF}{l:List TB}(h:ji sg l):∀p∈ah l,ui (ah l) p.2/\p.2.fits:=fun p hp=>by
 obtain⟨x,hx,rfl⟩:=dz hp
 exact⟨h.SU x hx,Tm.dv x.term (by have:=(b9 (h.ok x hx).2).2.1;omega)⟩
theorem Ba{sg:aF}{l:List TB}(h:ji sg l)(s':c6){n:Nt}(na:bn sg n.a=true)(nb:bn sg n.b=true){bk:Bool}(uM:bk=true↔A1 (ah l) n):
 aV Tryz.prog 66 [s'.kd (ah l),n.d] (.ret [.bool bk])/\aV Tryz.prog 71 [.sl (l.map TB.d),n.d] (.ret [.bool bk]):=by
 obtain⟨l',ρ,R,hS,Gb⟩:=oA h.keys h.ok h.I2
 obtain⟨a1,a2,_⟩:=b9 na
 obtain⟨b1,b2,_⟩:=b9 nb
 have za:=mz hS (fun p hp=>(h.all p hp).1) a1
 have zb:=mz hS (fun p hp=>(h.all p hp).1) b1
 have fa:=pg hS _ n.a a1 (Nat.le_refl _)
 have fb:=pg hS _ n.b b1 (Nat.le_refl _)
 have fa':=gX fa (Nat.le_max_left _ (R+3+(bc (ah l') n.b).sz))
 have fb':=gX fb (Nat.le_max_right (R+3+(bc (ah l') n.a).sz) _)
 obtain⟨f1,u1⟩:=sU hS a1
 obtain⟨f2,u2⟩:=sU hS b1
 have e:hO (bc (ah l') n.a) (bc (ah l') n.b)=bk:=by
  rw[Bool.eq_iff_iff,uM,gB]
  exact(A2 hS a1 b1).symm
 have hl:=h.len
 rw[<- e]
 exact⟨ze s' (fun p hp=>(h.all p hp).2) n (Tm.dv _ af) (Tm.dv _ af) fa' fb' (Tm.dv _ af) (Tm.dv _ af) af af,
  tM af (fun p hp=>(h.all p hp).2) (Tm.dv _ af) (Tm.dv _ af) u1 u2 af af⟩
theorem w9{s:c6}(h:bO s){a c:Tm}(ha:bn s.sig a=true)(hc:bn s.sig c=true){f:Nat}{b':List (Int×Tm)}(hf:iC true f a c (ah s.binds)=some (0,b')):∃E,b'=ah (s.binds++E)/\ji s.sig (s.binds++E):=by
 obtain⟨g,e,b1,h1,h2⟩:=Hg h ha hc
 have e1:=gZ hf (Nat.le_max_left f g)
 rw[gZ h1 (Nat.le_max_right f g)]at e1
 injection e1 with e1
 injection e1 with e1 e2
 subst e2
 rcases h2 with⟨_,E,h3,h4⟩|h|h
 ·exact⟨E,h3,h4⟩
 ·exact absurd (e1.symm.trans h) bD
 ·exact absurd (e1.symm.trans h) bD
def fA(e:Int)(bk:Bool):Int:=if e=0 then(if bk=true then 5 else 0)else e
def c6.tell (s:c6)(b':List (Int×Tm)):c6:=⟨s.sig,rn b',s.aJ,s.marks⟩
def c6.DJ (s:c6)(n:Nt):c6:=⟨s.sig,s.binds,s.aJ++[n],s.marks⟩
theorem Jb{s:c6}(h:bO s){a c:Tm}(ha:bn s.sig a=true)(hc:bn s.sig c=true){f:Nat}{e:Int}{b':List (Int×Tm)}(hf:iC true f a c (ah s.binds)=some (e,b')){bk:Nt->Bool}(uM:e=0->∀n∈s.aJ,(bk n=true↔A1 b' n)):
 aV Tryz.prog 70 [s.d,a.d,c.d] (.ret [.sl (if fA e (s.aJ.any bk)=0 then(rn b').map TB.d else []), .i (fA e (s.aJ.any bk))]):=by
 have hI:Inv s.sig true (ah s.binds):=⟨fun p hp=>by obtain⟨x,hx,rfl⟩:=dz hp;exact h.kZ.ok x hx,fun _ p hp=>by obtain⟨x,hx,rfl⟩:=dz hp;exact h.kZ.SU x hx⟩
 have hA:oC s.sig (ah s.binds):=⟨h.kZ.keys,fun p hp=>by obtain⟨x,hx,rfl⟩:=dz hp;exact⟨(h.kZ.ok x hx).1,jU (h.kZ.ok x hx).2⟩,h.kZ.I2⟩
 have tY:=h.wM
 refine aV.aG mix aeP aH ?_
 rw[c70]
 refine bI ?_
 refine bw (w8 f a c s.binds e b' hf hA hI ha hc) ?_
 by_cases h0:e=0
 ·subst h0
  obtain⟨E,rfl,hB⟩:=w9 h ha hc hf
  rw[iE]
  refine bI ?_
  refine aC (fun k:Nat=>⟨aY [.ad, .ad, .ad, .ptr 0 0, .ad, .ad, .ad, .ad, .d (.sl ((s.binds++E).map TB.d)), .d (.i 0), .d (.i k)],ay (fun _=> .no) 0 (.row s.row),1⟩)
   (fun k=>k<=s.aJ.length/\(s.aJ.drop k).any bk=s.aJ.any bk) (fun k=>s.aJ.length - k) 0 ⟨Nat.zero_le _,rfl⟩ ?_ (fun k hk=> ?_)
  ·refine bH.bM _ af af dB (fun j hj=> ?_) ?_
   ·have hj:j<1:=hj
    have:j=0:=af
    subst this
    exact cF
   ·exact dC
  obtain⟨hk,hd⟩:=hk
  by_cases h6:k<s.aJ.length
  ·have I9:decide ((k:Int)<(s.aJ.length:Int))=true:=by simp;omega
   refine rD I9 ?_
   obtain⟨n,hn⟩:=aA h6
   have xi:=List.mem_of_getElem? hn
   have I5:s.aJ.drop k=n::s.aJ.drop (k+1):=by
    obtain⟨i1,i2⟩:=List.getElem?_eq_some_iff.1 hn
    exact zu
   rw[I5,List.any_cons]at hd
   refine rN hn I9 ?_
   refine ak (Ba hB s (h.aJ n xi).1 (h.aJ n xi).2.1 (uM rfl n xi)).2 rfl ?_
   cases hbn:bk n with
   |true=>
    rw[hbn,Bool.true_or]at hd
    rw[<- hd]
    simp+contextual (disch:=first|omega|simp only[go_sem,false_implies]) only[go_sem,wrap64,if_pos,fA]
   |false=>
    rw[hbn,Bool.false_or]at hd
    refine bI ?_
    refine aj (k+1) ⟨h6,hd⟩ af (bH.bM _ af af dB (fun j hj=>rfl) ?_)
    exact dC
  ·have I9:decide ((k:Int)<(s.aJ.length:Int))=false:=by simp;omega
   have h6:k=s.aJ.length:=af
   subst h6
   rw[List.drop_length]at hd
   rw[<- hd]
   simp+contextual (disch:=first|omega|simp only[go_sem,false_implies]) only[go_sem,wrap64,if_pos,List.length_map,I9,fA,List.any_nil]
 ·have e0:fA e (s.aJ.any bk)=e:=by unfold fA;rw[if_neg h0]
  have e1:(e==0)=false:=by rw[beq_eq_false_iff_ne];exact h0
  rw[e0,if_neg h0]
  refine lT e1 ?_
  refine aC (fun k:Nat=>⟨aY [.ad, .ad, .ad, .ptr 0 0, .ad, .ad, .ad, .ad, .d (.sl []), .d (.i e), .d (.i k)],ay (fun _=> .no) 0 (.row s.row),1⟩)
   (fun k=>k=0) (fun k=>0) 0 rfl ?_ (fun k hk=> ?_)
  ·refine bH.bM _ af af dB (fun j hj=> ?_) ?_
   ·have hj:j<1:=hj
    have:j=0:=af
    subst this
    exact cF
   ·exact dC
  subst hk
  by_cases h6:0<s.aJ.length
  ·have I9:decide ((0:Int)<(s.aJ.length:Int))=true:=decide_eq_true af
   exact Jx e1 I9
  ·have I9:decide ((0:Int)<(s.aJ.length:Int))=false:=decide_eq_false af
   exact Jx e1 I9
theorem Jc{s:c6}(h:bO s){a c:Tm}(ha:bn s.sig a=true)(hc:bn s.sig c=true){f:Nat}{e:Int}{b':List (Int×Tm)}(hf:iC true f a c (ah s.binds)=some (e,b')){bk:Nt->Bool}(uM:e=0->∀n∈s.aJ,(bk n=true↔A1 b' n)):
 aV Tryz.prog 19 [s.d,a.d,c.d] (.ret [if fA e (s.aJ.any bk)=0 then(s.tell b').d else fT.d, .i (fA e (s.aJ.any bk))]):=by
 refine aV.aG mix aew aH ?_
 rw[c19]
 refine bI ?_
 refine bw (Jb h ha hc hf uM) ?_
 generalize fA e (s.aJ.any bk)=w
 by_cases h0:w=0
 ·subst h0
  rw[if_pos rfl,if_pos rfl]
  refine bI ?_
  rfl
 ·have e1:(w !=0)=true:=by rw[bne_iff_ne];exact h0
  rw[if_neg h0,if_neg h0]
  simp+contextual (disch:=first|omega|simp only[go_sem,false_implies]) only[go_sem,wrap64,if_pos,e1,e8]
end Go.Proofs.YtlhemmpklhhgoaaGreat
set_option maxHeartbeats 4000000
namespace Go.Proofs.YtlhemmpklhhgoaaGreat
theorem Bb:∀ (Δ:List (Nat×ab)) (o:Nat->ab) (j:Nat),(∀y∈Δ,y.1≠j)->put o Δ j=o j
 |[],o,j,h=>rfl
 |y::Δ,o,j,h=>by
  show put (ay o y.1 y.2) Δ j=o j
  rw[Bb Δ _ j (fun z hz=>h z (by simp[hz])),ae _ _ _ _ (h y (by simp)).symm]
theorem DK{nx:Nat}:∀ (Δ:List (Nat×ab)) (o:Nat->ab),Good o nx->(∀y∈Δ,(nx<=y.1->y.2= .no)/\∀r∈y.2.refs,r<nx)->Good (put o Δ) nx
 |[],o,hg,h=>hg
 |y::Δ,o,hg,h=>by
  show Good (put (ay o y.1 y.2) Δ) nx
  refine DK Δ _ ?_ (fun z hz=>h z tc)
  obtain⟨h1,h2⟩:=h y aH
  by_cases hy:nx<=y.1
  ·rw[h1 hy]
   have:ay o y.1 .no=o:=by
    funext j
    by_cases e:j=y.1
    ·subst e;rw[aa,hg.fresh _ hy]
    ·exact FQ
   rw[this];exact hg
  ·exact hg.ay af (by rw[List.all_eq_true];exact fun r hr=>decide_eq_true (h2 r hr))
theorem xa{o:Nat->ab}{nx:Nat}(hg:Good o nx)(ids:List Nat):Good (put o (bE o ids)) nx:=by
 refine DK _ _ hg fun y hy=> ?_
 unfold bE at hy
 obtain⟨id,_,rfl⟩:=List.mem_map.1 hy
 dsimp only
 refine⟨fun h=>by rw[hg.fresh id h],fun r hr=> ?_⟩
 have:=hg.refs id r
 revert this hr
 cases h:o id<;>simp[ab.refs]<;>intros<;>first|omega|simp_all
theorem Py(m:Nat)(o:Nat->ab)(nx:Nat)(K X:V->(Nat->ab)->Nat->Prop)(h:K (.func (.func 136) [] [.ptr nx 0]) (ay o nx (.row [.mp m])) (nx+4)):bZ Tryz.prog 111 [.mp m] o nx K X:=by
 refine bZ.aG mix R1 aH ?_
 rw[Vn]
 refine gH ?_
 exact h
theorem Pz{b:List (Int×Tm)}(base qW p m:Nat)(H:List Int->Nat->ab)(C8:qW<base)(hp:p<base)(hm:m<base)(hHp:∀l,H l p= .row [.mp m])(hHm:∀l,H l m= .b7 (enc (D.int .i64) (j8 b)))
 (hHr:∀l id,id<base->∀r∈(H l id).refs,r<base) (hR:∀x l,l.length<b.length->RoC Tryz.prog qW [.d (.i x)] base (H l) (H (l++[x])) (.d (.bool true))) (o:Nat->ab) (nx:Nat) (hI:eP base (H []) o nx) (K X:V->(Nat->ab)->Nat->Prop)
 (hK:∀l o' nx',l.Perm (b.map (·.1))->nx<=nx'->eP base (H l) o' nx'->(∀id,base<=id->id<nx->o' id=o id)->K (.bS []) o' nx'):
 bZ Tryz.prog 136 [.kn qW, .ptr p 0] o nx K X:=by
 have hle:=hI.le
 have op:o p= .row [.mp m]:=by rw[hI.eq p hp,hHp]
 have om:o m= .b7 (enc (D.int .i64) (j8 b)):=by rw[hI.eq m hm,hHm]
 refine bZ.aG mix Sb aH ?_
 rw[Vx]
 simp+contextual (disch:=first|omega|simp only[go_sem,false_implies]) only[go_sem,wrap64,if_pos,op,om,Nat.add_assoc,Nat.left_eq_add,Nat.add_eq_left,Nat.add_left_cancel_iff]
 obtain⟨S,hS1,X7⟩:∃S:List Int->Nat->ab,(∀l id,id<base->S l id=H l id)/\∀l id,base<=id->S l id=o id:=
  ⟨fun l id=>if id<base then H l id else o id,fun l id h=>if_pos h,fun l id h=>if_neg af⟩
 have hGS:∀l M,M.refs=[]->Good (ay (S l) (nx+1) M) (nx+2):=fun l M hM=>by
  refine⟨fun id aw=> ?_,fun id r hr=> ?_⟩
  ·rw[ae _ _ _ _ (by omega),X7 l id (by omega)];exact hI.cA.fresh id af
  ·by_cases e:id=nx+1
   ·subst e;rw[aa,hM]at hr;cases hr
   ·rw[ae _ _ _ _ e]at hr
    by_cases h:id<base
    ·rw[hS1 l id h]at hr;have:=hHr l id h r hr;omega
    ·rw[X7 l id (by omega)]at hr;have:=hI.cA.refs id r hr;omega
 refine aC (fun i:List (Int×Tm)×List Int×Option (D×D)=>⟨aY [.kn qW, .ptr p 0, .ad, .ad, .ad, .ptr (nx+1) 0],ay (S i.2.1) (nx+1) (.rG (enc (D.int .i64) (j8 i.1)) i.2.2),nx+2⟩)
  (fun i=>i.1.length+i.2.1.length=b.length/\(i.2.1++i.1.map (·.1)).Perm (b.map (·.1))) (fun i=>i.1.length) (b,[],none) ⟨aH,aH⟩ ?_ ?_
 ·dsimp only
  refine bH.bM _ af af (hGS _ _ rfl) (fun j hj=> ?_) ?_
  ·by_cases e:j=nx+1
   ·exact uQ
   ·rw[ae _ _ _ _ e,ae _ _ _ _ e]
    by_cases h:j<base
    ·rw[hS1 _ _ h];exact hI.eq j h
    ·rw[X7 _ _ (by omega)]
  ·exact dC
 rintro⟨rest,don,last⟩ ⟨hl,uU⟩
 dsimp only at hl uU|-
 refine gH ?_
 refine sM (fun h0=> ?_) fun i v x hm=> ?_
 ·subst h0
  refine gH ?_
  refine hK don _ _ (by simpa using uU) af ⟨?_,af,fun id aw=> ?_⟩ (fun id h1 h2=> ?_)
  ·exact(hGS _ _ rfl).mono af
  ·rw[ae _ _ _ _ (by omega),hS1 _ _ aw]
  ·rw[ae _ _ _ _ (by omega),X7 _ _ h1]
 ·have hlen:(rest.eraseIdx i).length+1=rest.length:=by
   exact TM
  have afh:=pT hm
  refine gH ?_
  refine nJ (hR v don af _ _ ⟨?_,af,fun id aw=> ?_⟩ _ _ fun o2 n2 m1 m2 m3=> ?_)
  ·exact((hGS _ _ rfl).mono af).ay af rfl
  ·rw[ae _ _ _ _ (by omega),ae _ _ _ _ (by omega),hS1 _ _ aw]
  refine gH ?_
  refine aj (rest.eraseIdx i,don++[v],some (.int .i64 v,x.d)) ⟨by dsimp only;simp;omega, ?_⟩ mQ (bH.bM _ (show nx<=nx+2 from af) af (hGS _ _ rfl) (fun j hj=> ?_) ?_)
  ·dsimp only
   refine List.Perm.trans ?_ uU
   rw[List.append_assoc]
   refine List.Perm.append_left _ ?_
   have:=afh.map (fun p:Int×Tm=>p.1)
   simpa using this
  ·dsimp only
   have Nb:j<nx+2:=hj
   by_cases e:j=nx+1
   ·subst e
    rw[aa,m3 _ (by omega) (by omega)]
    exact cF
   ·rw[ae _ _ _ _ e]
    by_cases h:j<base
    ·rw[hS1 _ _ h];exact m2.eq j h
    ·rw[X7 _ _ (by omega),m3 _ (by omega) (by omega),ae _ _ _ _ e,ae _ _ _ _ e,X7 _ _ (by omega)]
  ·exact dC
def Bc(o:Nat->ab)(nx:Nat)(l:List Int):Nat->ab:=ay (ay o nx (.row [.osl (nx+3) l.length])) (nx+3) (.arr l.length 3 1 (l.map .i))
theorem DL{b:List (Int×Tm)}(hb:b.length<=1000){p m:Nat}(o:Nat->ab)(nx:Nat)(hg:Good o nx)(hp:o p= .row [.mp m])(hm:o m= .b7 (enc (D.int .i64) (j8 b)))(K X:V->(Nat->ab)->Nat->Prop)
 (hK:∀ (l:List Int) (o':Nat->ab) (nx' id ep:Nat),l.Perm (b.map (·.1))->nx<=nx'->nx<=id->Good o' nx'->(∀j,j<nx->o' j=o j)->o' id= .arr ep 3 1 (l.map .i)->K (.osl id ep) o' nx'):
 bZ Tryz.prog 161 [.ax, .func (.func 136) [] [.ptr p 0]] o nx K X:=by
 refine bZ.aG mix Sl aH ?_
 rw[VH]
 refine gH ?_
 have hlp:p<nx:=hg.lt (by rw[hp];exact ab.noConfusion)
 have hlm:m<nx:=hg.lt FF
 have hG:∀l,Good (Bc o nx l) (nx+4):=fun l=>by
  unfold Bc
  refine Good.ay (Good.ay (hg.mono af) af ?_) af rfl
  exact qb
 refine OK (s':=⟨aY [.ad, .ad, .ptr nx 0, .ad, .ad, .ad, .func (.func 136) [] [.ptr p 0]],Bc o nx [],nx+4⟩) (bH.sG (fun _=>False) .ax (nx+3) _ af (fun j hj=> ?_) (by unfold Bc;(repeat(first|rfl|rw[aa]|rw[ae _ _ _ _ (by omega)]))) (.inl ⟨rfl,rfl,bD⟩) (fun j hj=> ?_) (fun _ h=>h.elim) ?_) ?_
 ·unfold Bc
  by_cases e:j=nx
  ·subst e
   rw[aa,ae _ _ _ _ (by omega),aa]
   exact mR rfl (uS 0 rfl rfl rfl mS)
  ·rw[ae _ _ _ _ e,ae _ _ _ _ (by omega),ae _ _ _ _ e]
   exact bC rfl (fun r hr=>by have:=hg.refs j r hr;omega)
 ·unfold Bc
  rw[ae _ _ _ _ (by omega),ae _ _ _ _ (by omega)]
  exact FK
 ·exact rE
 ·show ug _ _ _ _ _ _ _ _ _ _ (.func (.func 136) [] [.ptr p 0])
  refine EY [.ad, .ad, .ptr nx 0] JC (fun L hL=> ?_)
  obtain⟨H,rQ,E1,SK⟩:∃H:List Int->Nat->ab,(∀l id,id<nx+4->H l id=Bc o nx l id)/\(∀l,H l (nx+4)=L .ready none)/\∀l id,nx+5<=id->H l id= .no:=
   ⟨fun l id=>if id<nx+4 then Bc o nx l id else if id=nx+4 then L .ready none else .no,fun l id h=>if_pos h,fun l=>aH,fun l id h=>by dsimp only;rw[if_neg (by omega),if_neg (by omega)]⟩
  have xP:∀st pd M,nx<M->(L st pd).refs.all (fun r=>decide (r<M))=true:=fun st pd M hM=>by
   rw[hL.refs,List.all_eq_true]
   intro r hr
   simp[V.aO,V.refs]at hr
   exact decide_eq_true af
  have aP:∀l,Bc o nx l p= .row [.mp m]:=fun l=>by unfold Bc;(repeat(first|rfl|rw[aa]|rw[ae _ _ _ _ (by omega)]));exact hp
  have aM:∀l,Bc o nx l m= .b7 (enc (D.int .i64) (j8 b)):=fun l=>by unfold Bc;(repeat(first|rfl|rw[aa]|rw[ae _ _ _ _ (by omega)]));exact hm
  have a0:∀l,Bc o nx l nx= .row [.osl (nx+3) l.length]:=fun l=>by unfold Bc;(repeat(first|rfl|rw[aa]|rw[ae _ _ _ _ (by omega)]))
  have a3:∀l,Bc o nx l (nx+3)= .arr l.length 3 1 (l.map .i):=fun l=>by unfold Bc;(repeat(first|rfl|rw[aa]|rw[ae _ _ _ _ (by omega)]))
  refine Pz (b:=b) (nx+5) (nx+4) p m H af af af (fun l=>by rw[rQ _ _ (by omega)];exact aP l) (fun l=>by rw[rQ _ _ (by omega)];exact aM l) (fun l id aw r hr=> ?_) (fun x l ck=> ?_) _ _ ⟨?_,af,fun id aw=> ?_⟩ _ _ (fun l o' nx' h1 h2 h3 h4=> ?_)
  ·by_cases e:id=nx+4
   ·subst e
    rw[E1]at hr
    have:=List.all_eq_true.1 (xP .ready none (nx+5) af) r hr
    simpa using this
   ·rw[rQ _ _ (by omega)]at hr
    have:=(hG l).refs id r hr
    omega
  ·intro o3 n3 hI K X hK
   have hle:=hI.le
   have hg3:=hI.cA
   have Ni:o3 (nx+4)=L .ready none:=by rw[hI.eq _ (by omega),E1]
   have q0:o3 nx= .row [.osl (nx+3) l.length]:=by rw[hI.eq _ (by omega),rQ _ _ (by omega),a0]
   have q3:o3 (nx+3)= .arr l.length 3 1 (l.map .i):=by rw[hI.eq _ (by omega),rQ _ _ (by omega),a3]
   have fE:l.length<=140737488355327/\(l.length+1)*8<=140737488355328:=af
   have y1:nx≠n3:=af
   have y2:∀k,nx≠n3+k:=fun k=>af
   have y3:nx+3≠n3:=af
   have y4:∀k,nx+3≠n3+k:=fun k=>af
   refine wk hL mix Ni af bD rfl ?_
   simp only[pH]
   refine bI ?_
   refine nK hL (pd:=none) ?_ ?_
   ·(repeat(first|rfl|rw[aa]|rw[ae _ _ _ _ (by omega)]))
    exact Ni
   simp+contextual (disch:=first|omega|simp only[go_sem,false_implies]) only[go_sem,wrap64,if_pos,q0,q3,y1,y2,y3,y4,Nat.add_assoc,Nat.left_eq_add,Nat.add_eq_left,Nat.add_left_cancel_iff,List.length_map,fE]
   refine sH hL (st:= .busy) (pd:=none) cF (hK _ _ af ⟨?_,af,fun id aw=> ?_⟩ (fun id h1 h2=>by(repeat(first|rfl|rw[aa]|rw[ae _ _ _ _ (by omega)]))))
   ·refine Good.ay (Good.ay (Good.ay (Good.ay (Good.ay (hg3.mono af) af (xP _ _ _ af)) af rfl) af rfl) af ?_) af (xP _ _ _ af)
    simp[ab.refs,V.aO,V.refs]
    omega
   ·by_cases e:id=nx+4
    ·subst e;rw[aa,E1]
    ·rw[ae _ _ _ _ e,rQ _ _ (by omega)]
     unfold Bc
     by_cases e0:id=nx
     ·subst e0;(repeat(first|rfl|rw[aa]|rw[ae _ _ _ _ (by omega)]));simp
     ·by_cases e3:id=nx+3
      ·subst e3;(repeat(first|rfl|rw[aa]|rw[ae _ _ _ _ (by omega)]));simp
      ·(repeat(first|rfl|rw[aa]|rw[ae _ _ _ _ (by omega)]))
       rw[hI.eq _ aw,rQ _ _ (by omega)]
       unfold Bc
       exact cF
  ·exact(hG []).mono af |>.ay af (xP _ _ _ af)
  ·by_cases e:id=nx+4
   ·subst e;rw[aa,E1]
   ·rw[ae _ _ _ _ e,rQ _ _ (by omega)]
  ·have WJ:=h3.le
   refine⟨.ready,none,by rw[h3.eq _ (by omega),E1],(fun h=>by cases h), ?_⟩
   have q0:o' nx= .row [.osl (nx+3) l.length]:=by rw[h3.eq _ (by omega),rQ _ _ (by omega),a0]
   have q3:o' (nx+3)= .arr l.length 3 1 (l.map .i):=by rw[h3.eq _ (by omega),rQ _ _ (by omega),a3]
   simp only[qF]
   refine Jv q0 q3 ?_
   refine hK l _ _ (nx+3) l.length h1 ?_ af ?_ (fun j hj=> ?_) Tp
   ·omega
   ·exact(h3.cA.mono af).ay af (xP _ _ _ af)
   rw[ae _ _ _ _ (by omega),h3.eq _ (by omega),rQ _ _ (by omega)]
   unfold Bc
   exact cF
theorem Fv{l l':List Int}(h:l.Perm l'):cW l=cW l':=by
 have h1:(cW l).Perm (cW l'):=((List.mergeSort_perm _ _).trans h).trans (List.mergeSort_perm _ _).symm
 have hs:∀l:List Int,(cW l).Pairwise (fun a b=>a<=b):=fun l=>(List.pairwise_mergeSort (le:=fun a b:Int=>decide (a<=b)) (fun a b c h1 h2=>by simp at*;omega) (fun a b=>by simp;omega) l).imp fun h=>by simpa using h
 exact List.Perm.eq_of_pairwise (fun a b _ _ h1 h2=>Int.le_antisymm h1 h2) (hs l) (hs l') h1
theorem MH{b:List (Int×Tm)}(hb:b.length<=1000){p m:Nat}(o:Nat->ab)(nx:Nat)(hg:Good o nx)(hp:o p= .row [.mp m])(hm:o m= .b7 (enc (D.int .i64) (j8 b)))(K X:V->(Nat->ab)->Nat->Prop)
 (hK:∀ (o':Nat->ab) (nx' id ep:Nat),nx<=nx'->nx<=id->Good o' nx'->(∀j,j<nx->o' j=o j)->o' id= .arr ep 3 1 ((cW (b.map (·.1))).map .i)->K (.osl id ep) o' nx'):
 bZ Tryz.prog 110 [.func (.func 136) [] [.ptr p 0]] o nx K X:=by
 refine bZ.aG mix R0 aH ?_
 rw[Vm]
 refine gH ?_
 refine aX ?_
 refine bZ.aG mix Sa aH ?_
 rw[Vw]
 refine gH ?_
 refine aX (DL hb _ _ (hg.mono af) hp hm _ _ (fun l o' nx' id ep h1 h2 h3 h4 h5 h6=> ?_))
 have aw:id<nx':=h4.lt (by rw[h6];exact ab.noConfusion)
 have w1:∀k,id≠nx'+k:=fun k=>af
 refine Jv h6 w1 ?_
 have hlen:l.length<=1000:=by have:=h1.length_eq;rw[List.length_map]at this;omega
 have hs:cW l=cW (b.map (·.1)):=Fv h1
 refine bX (LU Di IW (zs:=l) h6 IX af ?_)
 refine gH ?_
 refine hK _ _ id ep ?_ af ?_ (fun j hj=> ?_) (by(repeat(first|rfl|rw[aa]|rw[ae _ _ _ _ (by omega)]));rw[hs])
 ·omega
 ·exact(h4.mono af).ay af rfl
 ·rw[ae _ _ _ _ (by omega),h5 j (by omega)]
end Go.Proofs.YtlhemmpklhhgoaaGreat
set_option maxHeartbeats 8000000
namespace Go.Proofs.YtlhemmpklhhgoaaGreat
theorem zk(s:c6)(hs:s.Cp)(b:List (Int×Tm))(o:Nat->ab)(nx mid:Nat)(vb:V)(hg:Good o nx)(ac9:o mid=dg b)(Ji:dQ o vb=some (.sl (s.binds.map TB.d)))(K X:V->(Nat->ab)->Nat->Prop)
 (wT:∀o' nx' i j k,nx<=nx'->Good o' nx'->(∀j,j<nx->j∉vb.ids->j≠mid->o' j=o j)->
  o' i= .arr 0 59 4 (s.binds.map TB.d)->o' j= .arr 0 101 6 (s.aJ.map Nt.d)->o' k= .arr 0 77 2 (s.marks.map rM)->
  K (.agg [.d (.sl (s.sig.cons.map ef.d)), .d (.sl (s.sig.bW.map ef.d)), .osl i 0, .osl j 0, .osl k 0]) o' nx'):
 bZ Tryz.prog 65 [.agg [.d (.sl (s.sig.cons.map ef.d)), .d (.sl (s.sig.bW.map ef.d)),vb, .d (.sl (s.aJ.map Nt.d)), .d (.sl (s.marks.map rM)), .mp mid]] o nx K X:=by
 refine bZ.wR (d:=s.kd b) ?_ ?_
 ·exact Jz ac9 Ji
 ·refine A7 s hs b _ nx (xa hg _) K X (fun o' nx' i j k m1 m2 m3 m4 m5 m6=>wT o' nx' i j k m1 m2 (fun j j1 j2 j3=>(m3 j j1).trans (Bb _ _ _ fun y hy=> ?_)) m4 m5 m6)
  unfold bE at hy
  obtain⟨q,hq,rfl⟩:=List.mem_map.1 hy
  simp[V.ids,V.bp]at hq
  dsimp only
  rcases hq with hq|hq
  ·exact fun e=>j2 (e ▸ hq)
  ·exact fun e=>j3 (e.symm.trans hq)
theorem c6.PA {s:c6}(h:bO s){E:List TB}(hB:ji s.sig (s.binds++E)):(s.tell (ah (s.binds++E))).Cp:=by
 have hc:=h.cp
 have:=hB.len
 refine⟨hc.lc,hc.lf, ?_,hc.nl,hc.ml,fun x hx=> ?_,hc.nt⟩
 ·show(rn _).length<=_
  rw[iE];omega
 ·have hx:x∈rn (ah (s.binds++E)):=hx
  rw[iE]at hx
  have:=(b9 (hB.ok x hx).2).2.1
  omega
theorem zl{s:c6}(h:bO s){a c:Tm}(ha:bn s.sig a=true)(hc:bn s.sig c=true){f:Nat}{b':List (Int×Tm)}(hf:iC true f a c (ah s.binds)=some (0,b')){E:List TB}(hE:b'=ah (s.binds++E)):ji s.sig (s.binds++E):=by
 obtain⟨E',h1,h2⟩:=w9 h ha hc hf
 have e:s.binds++E=s.binds++E':=by rw[<- iE (s.binds++E), <- hE,h1,iE]
 rw[e];exact h2
theorem MI{s:c6}(h:bO s){a c:Tm}(ha:bn s.sig a=true)(hc:bn s.sig c=true){f:Nat}{e:Int}{b':List (Int×Tm)}(hf:iC true f a c (ah s.binds)=some (e,b')){bk:Nt->Bool}(uM:e=0->∀n∈s.aJ,(bk n=true↔A1 b' n)):
 e=0->∀E,b'=ah (s.binds++E)->∀n∈s.aJ,aV Tryz.prog 66 [c6.kd ⟨s.sig,s.binds++E,s.aJ,s.marks⟩ b',n.d] (.ret [.bool (bk n)]):=fun h0 E hE n hn=>by
 have hB:=zl h ha hc (h0 ▸ hf) hE
 have hk:=uM h0 n hn
 subst hE
 exact(Ba hB _ (h.aJ n hn).1 (h.aJ n hn).2.1 hk).1
theorem PB(s:c6)(hs:s.Fin)(a c:Tm)(ha:a.Fin)(hc:c.Fin)(h: ¬ (bO s/\bn s.sig a=true/\bn s.sig c=true)):aV Tryz.prog 15 [s.d,a.d,c.d] (.ret [fT.d, .i 2]):=by
 refine aV.aG mix Vb aH ?_
 rw[c15]
 refine gH ?_
 refine bX (uN s hs a c ha hc _ _ dB _ _ (fun h1 h2 h3=>absurd ⟨h1,h2,h3⟩ h) (fun _ o' nx' id m i1 i0 i2 i3 i4=> ?_))
 have e3:o' 3= .row [.ax, .ax, .ax, .ax, .ax]:=(i3 _ af).trans cF
 exact Ye e3
theorem MJ(s:c6)(hs:s.Fin)(a c:Tm)(ha:a.Fin)(hc:c.Fin)(h:bO s)(va:bn s.sig a=true)(vc:bn s.sig c=true){f:Nat}{e:Int}{b':List (Int×Tm)}(hf:iC true f a c (ah s.binds)=some (e,b'))(he:e=0\/e=5\/e=3){bk:Nt->Bool}(uM:e=0->∀n∈s.aJ,(bk n=true↔A1 b' n)):
 aV Tryz.prog 15 [s.d,a.d,c.d] (.ret [if fA e (s.aJ.any bk)=0 then(s.tell b').d else fT.d, .i (fA e (s.aJ.any bk))]):=by
 refine aV.aG mix Vb aH ?_
 rw[c15]
 refine gH ?_
 refine bX (uN s hs a c ha hc _ _ dB _ _ (fun h1 h2 h3 o' nx' id i1 i2 i3 i4=> ?_) (fun hn=>absurd ⟨h,va,vc⟩ hn))
 have e1:o' 1= .row a.row:=(i3 _ af).trans cF
 have e2:o' 2= .row c.row:=(i3 _ af).trans cF
 have e3:o' 3= .row [.ax, .ax, .ax, .ax, .ax]:=(i3 _ af).trans cF
 have aw:id<nx':=Good.lt i2 JY
 refine Bs e1 e2 e3 i4 ?_
 have hgT:Good (ay (ay o' (nx'+3) (.row [.ax, .ax, .ax, .ax, .ax, .d .dK])) (nx'+3) (.row (s.row++[.mp id]))) (nx'+11):=by
  refine Good.ay (Good.ay (i2.mono af) af rfl) af ?_
  simp[ab.refs,V.aO,V.refs]
  omega
 refine bX (WI h va vc hf _ _ hgT Tq bk (MI h va vc hf uM) _ _ (fun h5 o2 n2 g1 g2 g3=> ?_) (fun h0 hb o2 n2 g1 g2 g3=> ?_) (fun h0 E hE hb o2 n2 vb mid g1 g2 g3 g4 g7 g8=> ?_))
 ·have f3:o2 3= .row [.ax, .ax, .ax, .ax, .ax]:=(g3 _ af).trans Hu
  have f8:o2 (nx'+3)= .row (s.row++[.mp id]):=(g3 _ af).trans cF
  have k3:(3:Nat)≠nx'+3:=af
  have w1:fA e (s.aJ.any bk)=e:=by unfold fA;rw[if_neg (by omega)]
  have w2:e≠0:=af
  have w3:(e !=0)=true:=by rw[bne_iff_ne];exact w2
  rw[w1,if_neg w2]
  simp+contextual (disch:=first|omega|simp only[go_sem,false_implies]) only[go_sem,wrap64,if_pos,Nat.add_assoc,Nat.left_eq_add,Nat.add_eq_left,Nat.add_left_cancel_iff,f3,f8,k3,w3,e8]
 ·have f3:o2 3= .row [.ax, .ax, .ax, .ax, .ax]:=(g3 _ af).trans Hu
  have f8:o2 (nx'+3)= .row (s.row++[.mp id]):=(g3 _ af).trans cF
  have k3:(3:Nat)≠nx'+3:=af
  have w1:fA e (s.aJ.any bk)=5:=by unfold fA;rw[if_pos h0,if_pos hb]
  rw[w1]
  simp+contextual (disch:=first|omega|simp only[go_sem,false_implies]) only[go_sem,wrap64,if_pos,Nat.add_assoc,Nat.left_eq_add,Nat.add_eq_left,Nat.add_left_cancel_iff,f3,f8,k3,e8]
 ·have f3:o2 3= .row [.ax, .ax, .ax, .ax, .ax]:=(g3 _ af).trans Hu
  have f8:o2 (nx'+3)= .row (s.row++[.mp id]):=(g3 _ af).trans cF
  have k3:(3:Nat)≠nx'+3:=af
  have w1:fA e (s.aJ.any bk)=0:=by unfold fA;rw[if_pos h0,if_neg (by rw[hb];exact Bool.false_ne_true)]
  have hB:ji s.sig (s.binds++E):=zl h va vc (h0 ▸ hf) hE
  have ac9:mid<n2:=g2.lt (by rw[g8];exact ab.noConfusion)
  rw[w1,if_pos rfl]
  have PC:(s.tell b').Cp:=by rw[hE];exact c6.PA h hB
  have M7:(s.tell b').binds=s.binds++E:=by show rn b'=_;rw[hE,iE]
  have fin:∀ (o3:Nat->ab) (n3 i j k:Nat),n2<=n3->(∀q,q<n2->q≠nx'+3->(q<nx'+11)->o3 q=o2 q)->o3 i= .arr 0 59 4 ((s.tell b').binds.map TB.d)->o3 j= .arr 0 101 6 ((s.tell b').aJ.map Nt.d)->o3 k= .arr 0 77 2 ((s.tell b').marks.map rM)->o3 3= .row [.ax, .ax, .ax, .ax, .ax]/\i≠3/\j≠3/\k≠3:=fun o3 n3 i j k q1 q2 q3 q4 q5=>by
   have e3:o3 3= .row [.ax, .ax, .ax, .ax, .ax]:=by rw[q2 3 (by omega) (by omega) (by omega),f3]
   exact⟨e3,fun e=>(by subst e;rw[q3]at e3;cases e3),fun e=>(by subst e;rw[q4]at e3;cases e3),fun e=>(by subst e;rw[q5]at e3;cases e3)⟩
  rcases g4 with rfl|⟨lb,rfl,l1,l2,l3⟩
  ·refine Yf f3 f8 ?_
   refine gy (zk (s.tell b') PC b' _ _ mid _ ?_ PX (by rw[M7];rfl) _ _ (fun o3 n3 i j k m1 m2 m3 m4 m5 m6=> ?_))
   ·refine Good.ay (g2.mono af) af ?_
    simp[ab.refs,V.aO,V.refs]
    omega
   obtain⟨z1,z2,z3,z4⟩:=fin o3 n3 i j k af (fun q q1 q2 q3=>by rw[m3 q (by omega) (by simp[V.ids]) (by omega)];(repeat(first|rfl|rw[aa]|rw[ae _ _ _ _ (by omega)]))) m4 m5 m6
   exact Nn z1 z2 z3 z4 m4 m5 m6
  ·have y1:lb≠nx'+3:=af
   refine Yf f3 f8 ?_
   refine gy (zk (s.tell b') PC b' _ _ mid _ ?_ PX (by rw[M7];simp+contextual (disch:=first|omega|simp only[go_sem,false_implies]) only[go_sem,wrap64,if_pos,l3,y1]) _ _ (fun o3 n3 i j k m1 m2 m3 m4 m5 m6=> ?_))
   ·refine Good.ay (g2.mono af) af ?_
    simp[ab.refs,V.aO,V.refs]
    omega
   obtain⟨z1,z2,z3,z4⟩:=fin o3 n3 i j k af (fun q q1 q2 q3=>by rw[m3 q (by omega) (by simp[V.ids];omega) (by omega)];(repeat(first|rfl|rw[aa]|rw[ae _ _ _ _ (by omega)]))) m4 m5 m6
   exact Nn z1 z2 z3 z4 m4 m5 m6
end Go.Proofs.YtlhemmpklhhgoaaGreat
