/-
  A PART. Conditions: none.
-/
import Derived.Test.YtlhemmpklhhgoaaGreatQf19
set_option linter.unusedSimpArgs false
set_option linter.unusedVariables false
set_option maxHeartbeats 8000000
namespace Go.Proofs.YtlhemmpklhhgoaaGreat
structure b9.Cp (s:b9):Prop where
 lc:s.sig.cons.length<=1000000
 lf:s.sig.ct.length<=1000000
 bl:s.binds.length<=1000
 nl:s.aD.length<=1000
 ml:s.marks.length<=1000
 bt:∀x∈s.binds,x.term.sz<=1000000
 nt:∀n∈s.aD,n.a.sz<=1000000/\n.b.sz<=1000000
def AX(o:Nat->aa)(nx:Nat)(s:b9)(b:List (Int×Tm))(x:V)(y:V)(l:List D):Nat->aa:=
 aw (aw (aw (aw (aw o nx (.row [.d (.sl (s.sig.cons.map fj.d)), .d (.sl (s.sig.ct.map fj.d)), .d (.sl (s.binds.map TB.d)), .d (.sl (s.aD.map Nt.d)), .d (.sl (s.marks.map uh)), .d (Ft b)])) (nx+1) (.row [.ao, .ao, .ao, .ao, .ao])) (nx+16) (.arr 0 77 2 (s.marks.map uh)))
  (nx+18) (.row [.d (.sl (s.sig.cons.map fj.d)), .d (.sl (s.sig.ct.map fj.d)),x,y, .osl (nx+16) 0])) (nx+20) (.arr 0 59 4 l)
theorem FG(o:Nat->aa)(nx:Nat)(s:b9)(b:List (Int×Tm))(x y:V)(l:List D):AX o nx s b x y l nx= .row [.d (.sl (s.sig.cons.map fj.d)), .d (.sl (s.sig.ct.map fj.d)), .d (.sl (s.binds.map TB.d)), .d (.sl (s.aD.map Nt.d)), .d (.sl (s.marks.map uh)), .d (Ft b)]:=J4
theorem stA_1(o:Nat->aa)(nx:Nat)(s:b9)(b:List (Int×Tm))(x y:V)(l:List D):AX o nx s b x y l (nx+1)= .row [.ao, .ao, .ao, .ao, .ao]:=J4
theorem stA_16(o:Nat->aa)(nx:Nat)(s:b9)(b:List (Int×Tm))(x y:V)(l:List D):AX o nx s b x y l (nx+16)= .arr 0 77 2 (s.marks.map uh):=J4
theorem stA_18(o:Nat->aa)(nx:Nat)(s:b9)(b:List (Int×Tm))(x y:V)(l:List D):AX o nx s b x y l (nx+18)= .row [.d (.sl (s.sig.cons.map fj.d)), .d (.sl (s.sig.ct.map fj.d)),x,y, .osl (nx+16) 0]:=J4
theorem stA_20(o:Nat->aa)(nx:Nat)(s:b9)(b:List (Int×Tm))(x y:V)(l:List D):AX o nx s b x y l (nx+20)= .arr 0 59 4 l:=J4
theorem yf(o:Nat->aa)(nx:Nat)(s:b9)(b:List (Int×Tm))(x y:V)(l:List D){j:Nat}(h0:j≠nx)(h1:j≠nx+1)(h2:j≠nx+16)(h3:j≠nx+18)(h4:j≠nx+20):AX o nx s b x y l j=o j:=J4
theorem Pj(o:Nat->aa)(nx:Nat)(s:b9)(b:List (Int×Tm))(x y x' y':V)(l l':List D){j:Nat}(h1:j<nx+20)(h2:j≠nx+18):AX o nx s b x y l j=AX o nx s b x' y' l' j:=by
 have e:∀x y l,AX o nx s b x y l j=aw (aw (aw o nx (.row [.d (.sl (s.sig.cons.map fj.d)), .d (.sl (s.sig.ct.map fj.d)), .d (.sl (s.binds.map TB.d)), .d (.sl (s.aD.map Nt.d)), .d (.sl (s.marks.map uh)), .d (Ft b)])) (nx+1) (.row [.ao, .ao, .ao, .ao, .ao])) (nx+16) (.arr 0 77 2 (s.marks.map uh)) j:=fun x y l=>by
  unfold AX
  rw[af _ _ _ _ (show j≠nx+20 by omega),af _ _ _ _ h2]
 rw[e,e]
theorem Pk{o:Nat->aa}{nx:Nat}(hg:Good o nx)(s:b9)(b:List (Int×Tm))(i:Nat)(y:V)(hy:y.refs=[])(l:List D):Good (AX o nx s b (.osl (nx+20) i) y l) (nx+21):=by
 unfold AX
 refine Good.aw (Good.aw (Good.aw (Good.aw (Good.aw (hg.mono ad) ad rfl) ad rfl) ad rfl) ad ?_) ad rfl
 simp[aa.refs,V.aN,V.refs,hy]
theorem Jx(gone:Nat->Prop)(x:V)(L:List V){o:Nat->aa}{nx:Nat}(hg:Good o nx){s:b9}{b:List (Int×Tm)}{l:List D}(tT:∀id,gone id->nx+20<=id){e:Nat->V}{so:Nat->aa}{m:Nat}(gx:gw so gone 59 4 l x)
 (s18:so (nx+18)= .row [.d (.sl (s.sig.cons.map fj.d)), .d (.sl (s.sig.ct.map fj.d)),x, .ao, .osl (nx+16) 0]) (h:∀j,j<nx+20->j≠nx+18->so j=AX o nx s b (.osl (nx+20) 0) .ao l j) (he:iL (nx+20) [⟨x,59,4,l⟩] so gone e L 0):
 bM nx ⟨e,so,m⟩ ⟨aY L,AX o nx s b (.osl (nx+20) 0) .ao l,nx+21⟩:=by
 refine bM.sj gone x (nx+20) L ad (fun j hj=> ?_) (stA_20 _ _ _ _ _ _ _) gx (fun j hj=> ?_) (fun j h1 h2=>absurd (tT j h1) ad) he
 ·by_cases e1:j=nx+18
  ·subst e1
   rw[stA_18]
   exact jt s18 (lW (lW (qv 0 rfl rfl rfl (wq pM (wq pM ju)))))
  ·refine bB (h j hj e1) (fun r hr=> ?_)
   by_cases e2:j=nx
   ·exact TR
   ·by_cases e3:j=nx+1
    ·subst e3;rw[stA_1]at hr;simp[aa.refs,V.aN,V.refs]at hr
    ·by_cases e4:j=nx+16
     ·subst e4;rw[stA_16]at hr;simp[aa.refs]at hr
     ·rw[yf _ _ _ _ _ _ _ e2 e3 e4 e1 (by omega)]at hr
      have:=hg.refs j r hr
      omega
 ·rw[yf _ _ _ _ _ _ _ (by omega) (by omega) (by omega) (by omega) (by omega)]
  exact CN
def Fv(o:Nat->aa)(nx:Nat)(s:b9)(b:List (Int×Tm))(l:List D):Nat->aa:=aw (AX o nx s b (.osl (nx+20) 0) (.osl (nx+21) 0) (s.binds.map TB.d)) (nx+21) (.arr 0 101 6 l)
theorem Jy(gone:Nat->Prop)(x:V)(L:List V){o:Nat->aa}{nx:Nat}(hg:Good o nx){s:b9}{b:List (Int×Tm)}{l:List D}(tT:∀id,gone id->nx+21<=id){e:Nat->V}{so:Nat->aa}{m:Nat}(gx:gw so gone 101 6 l x)
 (s18:so (nx+18)= .row [.d (.sl (s.sig.cons.map fj.d)), .d (.sl (s.sig.ct.map fj.d)), .osl (nx+20) 0,x, .osl (nx+16) 0]) (h:∀j,j<nx+21->j≠nx+18->so j=Fv o nx s b l j) (he:iL (nx+21) [⟨x,101,6,l⟩] so gone e L 0):
 bM nx ⟨e,so,m⟩ ⟨aY L,Fv o nx s b l,nx+22⟩:=by
 refine bM.sj gone x (nx+21) L ad (fun j hj=> ?_) (ab _ _ _) gx (fun j hj=> ?_) (fun j h1 h2=>absurd (tT j h1) ad) he
 ·by_cases e1:j=nx+18
  ·subst e1
   rw[Fv,af _ _ _ _ (by omega),stA_18]
   exact jt s18 (lW (lW (wq pM (qv 0 rfl rfl rfl (wq pM ju)))))
  ·refine bB (h j hj e1) (fun r hr=> ?_)
   rw[Fv,af _ _ _ _ (by omega)]at hr
   by_cases e2:j=nx
   ·exact TR
   ·by_cases e3:j=nx+1
    ·subst e3;rw[stA_1]at hr;simp[aa.refs,V.aN,V.refs]at hr
    ·by_cases e4:j=nx+16
     ·subst e4;rw[stA_16]at hr;simp[aa.refs]at hr
     ·by_cases e5:j=nx+20
      ·subst e5;rw[stA_20]at hr;simp[aa.refs]at hr
      ·rw[yf _ _ _ _ _ _ _ e2 e3 e4 e1 e5]at hr
       have:=hg.refs j r hr
       omega
 ·rw[Fv,af _ _ _ _ (by omega),yf _ _ _ _ _ _ _ (by omega) (by omega) (by omega) (by omega) (by omega)]
  exact CN
theorem Cf(s:b9)(hs:s.Cp)(b:List (Int×Tm))(o:Nat->aa)(nx:Nat)(hg:Good o nx)(K X:V->(Nat->aa)->Nat->Prop)
 (x9:∀o' nx' i j k,nx<=nx'->Good o' nx'->(∀j,j<nx->o' j=o j)->
  o' i= .arr 0 59 4 (s.binds.map TB.d)->o' j= .arr 0 101 6 (s.aD.map Nt.d)->o' k= .arr 0 77 2 (s.marks.map uh)->
  K (.agg [.d (.sl (s.sig.cons.map fj.d)), .d (.sl (s.sig.ct.map fj.d)), .osl i 0, .osl j 0, .osl k 0]) o' nx'):
 bJ Tryz.prog 65 [.d (s.kd b)] o nx K X:=by
 refine bJ.aH mix aeb aF ?_
 rw[c65]
 refine gB ?_
 refine aZ (E3 s.sig.cons hs.lc) ?_
 refine gB ?_
 refine aZ (E3 s.sig.ct hs.lf) ?_
 refine gB ?_
 refine K9 rfl (Hi s.marks (by have:=hs.ml;omega) _ _) ?_
 refine gB ?_
 refine aL (bE (ids:=[nx,nx+16,nx+18]) (nx:=nx+20) aF aF [([0],[]),([0],[]),([0],[]),([0],[]),([],[]),([0],[]),([0],[]),([0],[]),([0],[]),([],[]),([],[]),([0],[]),([0],[]),([0],[]),([],[1]),([],[]),([],[2]),([2,1],[2])] bF) ?_
 refine gB ?_
 refine aC (fun i:Nat=>⟨aY (.ai:: .ptr nx 0:: .ptr (nx+1) 0:: .ptr (nx+18) 0::dy (dy [.ai, .ai, .ai, .ai, .ai, .ai, .d (.sl (s.binds.map TB.d)), .d (.i s.binds.length), .d (.i i)])),AX o nx s b (.osl (nx+20) 0) .ao ((s.binds.take i).map TB.d),nx+21⟩)
  (fun i=>i<=s.binds.length) (fun i=>s.binds.length - i) 0 (Nat.zero_le _) (Jx (fun _=>False) .ao _ hg (fun _ h=>h.elim) (.inl ⟨rfl,rfl,bF⟩) bp (fun j h1 h2=>by unfold AX;rw[af _ _ _ _ (show j≠nx+20 by omega),af _ _ _ _ h2,af _ _ _ _ h2,af _ _ _ _ h2]) ?_) (fun k hk=> ?_)
 ·exact iV
 replace hk:k<=s.binds.length:=hk
 have f0:=FG o nx s b (.osl (nx+20) 0) .ao ((s.binds.take k).map TB.d)
 have f1:=stA_1 o nx s b (.osl (nx+20) 0) .ao ((s.binds.take k).map TB.d)
 have f16:=stA_16 o nx s b (.osl (nx+20) 0) .ao ((s.binds.take k).map TB.d)
 have f18:=stA_18 o nx s b (.osl (nx+20) 0) .ao ((s.binds.take k).map TB.d)
 have f20:=stA_20 o nx s b (.osl (nx+20) 0) .ao ((s.binds.take k).map TB.d)
 refine dQ (ae f0 (ae f1 (ae f16 (ae f18 f20)))) ?_
 refine ak (fun h2=> ?_) (fun h2=> ?_)
 ·replace h2:k<s.binds.length:=by simp at h2;omega
  obtain⟨z,hz⟩:=aA h2
  refine dQ (ae f0 (ae f1 (ae f16 (ae f18 (ae f20 hz))))) ?_
  refine aZ (ye z.term (hs.bt z (List.mem_of_getElem? hz))) ?_
  have e0:(s.binds.take k).length=k:=by rw[List.length_take];omega
  have dR:k<=140737488355327/\(k+1)*48<=140737488355328:=by have:=hs.bl;omega
  simp+contextual (disch:=first|omega|simp only[go_sem,false_implies]) only[go_sem,wrap64,if_pos,f0,f1,f16,f18,f20,hz,List.length_map,e0,if_pos dR,Nat.add_assoc,Nat.left_eq_add,Nat.add_eq_left,Nat.add_left_cancel_iff]
  refine aL (bE (ids:=[nx+18,nx+24,nx+34,nx+20]) (nx:=nx+38) aF aF [([0],[]),([0],[]),([1],[]),([1],[]),([1],[]),([1],[]),([],[]),([],[]),([],[2]),([3,2],[3]),([0],[]),([0,3],[0])] bF) ?_
  refine gB ?_
  have qW:s.binds.take (k+1)=s.binds.take k++[z]:=by rw[List.take_add_one,hz];rfl
  refine aj (k+1) h2 ad (Jx (fun j=>nx+20<=j) (.osl (nx+20) 1) _ hg (fun _ h=>h) (.inr ⟨nx+20,1,Nat.le_refl _,rfl,by(repeat first|rfl|rw[ab]|rw[af _ _ _ _ (by omega)]);rw[qW,List.map_append];rfl⟩) bp (fun j h1 h2=>by(repeat first|rfl|rw[ab]|rw[af _ _ _ _ (by omega)]);exact Pj _ _ _ _ _ _ _ _ _ _ h1 h2) ?_)
  exact iV
 ·replace h2:k=s.binds.length:=by simp at h2;omega
  subst h2
  refine dQ (ae f0 (ae f1 (ae f16 (ae f18 f20)))) ?_
  rw[List.take_length]
  refine aC (fun i:Nat=>⟨aY (.ai:: .ptr nx 0:: .ptr (nx+1) 0:: .ptr (nx+18) 0::dy (dy (dy (dy (dy [.ai, .ai, .d (.sl (s.aD.map Nt.d)), .d (.i s.aD.length), .d (.i i)]))))),Fv o nx s b ((s.aD.take i).map Nt.d),nx+22⟩)
   (fun i=>i<=s.aD.length) (fun i=>s.aD.length - i) 0 (Nat.zero_le _) (Jy (fun _=>False) .ao _ hg (fun _ h=>h.elim) (.inl ⟨rfl,rfl,bF⟩) (by rw[stA_18]) (fun j h1 h2=> ?_) ?_) (fun k hk=> ?_)
  ·rw[Fv,af _ _ _ _ (by omega)]
   by_cases e:j=nx+20
   ·subst e;rw[stA_20,stA_20]
   ·exact Pj _ _ _ _ _ _ _ _ _ _ ad h2
  ·exact iV
  replace hk:k<=s.aD.length:=hk
  have g0:Fv o nx s b ((s.aD.take k).map Nt.d) nx=_:=(af _ _ _ _ ad).trans (FG _ _ _ _ _ _ _)
  have g1:Fv o nx s b ((s.aD.take k).map Nt.d) (nx+1)=_:=(af _ _ _ _ ad).trans (stA_1 _ _ _ _ _ _ _)
  have g18:Fv o nx s b ((s.aD.take k).map Nt.d) (nx+18)=_:=(af _ _ _ _ ad).trans (stA_18 _ _ _ _ _ _ _)
  have g21:Fv o nx s b ((s.aD.take k).map Nt.d) (nx+21)=_:=ab _ _ _
  refine dQ (ae g0 (ae g1 (ae g18 g21))) ?_
  refine ak (fun h2=> ?_) (fun h2=> ?_)
  ·replace h2:k<s.aD.length:=by simp at h2;omega
   obtain⟨z,hz⟩:=aA h2
   refine dQ (ae g0 (ae g1 (ae g18 (ae g21 hz)))) ?_
   refine aZ (ye z.a (hs.nt z (List.mem_of_getElem? hz)).1) ?_
   refine dQ (ae g0 (ae g1 (ae g18 (ae g21 hz)))) ?_
   refine aZ (ye z.b (hs.nt z (List.mem_of_getElem? hz)).2) ?_
   have e0:(s.aD.take k).length=k:=by rw[List.length_take];omega
   have dR:k<=140737488355327/\(k+1)*80<=140737488355328:=by have:=hs.nl;omega
   simp+contextual (disch:=first|omega|simp only[go_sem,false_implies]) only[go_sem,wrap64,if_pos,g0,g1,g18,g21,hz,List.length_map,e0,if_pos dR,Nat.add_assoc,Nat.left_eq_add,Nat.add_eq_left,Nat.add_left_cancel_iff]
   refine aL (bE (ids:=[nx+18,nx+25,nx+36,nx+21]) (nx:=nx+40) aF aF [([0],[]),([0],[]),([1],[]),([1],[]),([],[]),([1],[]),([1],[]),([],[]),([],[]),([],[2]),([3,2],[3]),([0],[]),([0,3],[0])] bF) ?_
   refine gB ?_
   have qW:s.aD.take (k+1)=s.aD.take k++[z]:=by rw[List.take_add_one,hz];rfl
   refine aj (k+1) h2 ad (Jy (fun j=>nx+21<=j) (.osl (nx+21) 1) _ hg (fun _ h=>h) (.inr ⟨nx+21,1,Nat.le_refl _,rfl,by(repeat first|rfl|rw[ab]|rw[af _ _ _ _ (by omega)]);rw[qW,List.map_append];rfl⟩) bp (fun j h1 h2=>by(repeat first|rfl|rw[ab]|rw[af _ _ _ _ (by omega)]);unfold Fv;(repeat first|rfl|rw[ab]|rw[af _ _ _ _ (by omega)])) ?_)
   exact iV
  ·replace h2:k=s.aD.length:=by simp at h2;omega
   subst h2
   refine dQ (ae g0 (ae g1 (ae g18 g21))) ?_
   refine x9 _ _ (nx+20) (nx+21) (nx+16) ad ?_ (fun j hj=> ?_) ?_ ?_ ?_
   ·have h1:=Pk hg s b 0 .ao rfl (s.binds.map TB.d)
    unfold Fv AX
    refine Good.aw (Good.aw (Good.aw (Good.aw (Good.aw (Good.aw (Good.aw (hg.mono ad) ad rfl) ad rfl) ad rfl) ad ?_) ad rfl) ad rfl) ad ?_
    ·exact ve
    ·exact ve
   ·(repeat first|rfl|rw[ab]|rw[af _ _ _ _ (by omega)])
    rw[Fv,af _ _ _ _ (by omega)]
    exact yf _ _ _ _ _ _ _ ad ad ad ad ad
   ·(repeat first|rfl|rw[ab]|rw[af _ _ _ _ (by omega)])
    rw[Fv,af _ _ _ _ (by omega)]
    exact stA_20 _ _ _ _ _ _ _
   ·(repeat first|rfl|rw[ab]|rw[af _ _ _ _ (by omega)])
    rw[g21,List.take_length]
   ·(repeat first|rfl|rw[ab]|rw[af _ _ _ _ (by omega)])
    rw[Fv,af _ _ _ _ (by omega)]
    exact stA_16 _ _ _ _ _ _ _
def pE:b9:=⟨⟨[],[]⟩,[],[],[]⟩
theorem pF:pE.d= .agg [.sl [], .sl [], .sl [], .sl [], .sl []]:=rfl
theorem SF{s:az}(h:jP s=true):s.cons.length<=1000000/\s.ct.length<=1000000:=by
 unfold jP at h
 split at h
 ·cases h
 ·rename_i h1
  simp only[Bool.or_eq_true,not_or,decide_eq_true_eq,Bool.not_eq_true',Bool.not_eq_false,eS,Bool.and_eq_true]at h1
  omega
theorem bn.cp {s:b9}(h:bn s):s.Cp:=by
 obtain⟨k1,k2⟩:=SF h.sig
 have a1:=h.sI
 have a2:=h.EW
 have a3:=h.gA.len
 refine⟨k1,k2,ad,ad,ad,fun x hx=> ?_,fun n hn=> ?_⟩
 ·have:=(bc (h.gA.ok x hx).2).2.1
  omega
 ·have h1:=(bc (h.aD n hn).1).2.1
  have h2:=(bc (h.aD n hn).2.1).2.1
  omega
theorem Pl{o:Nat->aa}{id:Nat}{es:List (D×D)}(h:o id= .bZ es):put o (bK o [id])=o:=by
 funext j
 simp only[bK,List.map_cons,List.map_nil,h,put,List.foldl_cons,List.foldl_nil]
 by_cases e:j=id
 ·subst e;rw[ab,h]
 ·exact HQ
theorem Pm(s:b9)(hs:s.Cp)(b:List (Int×Tm))(o:Nat->aa)(nx id:Nat)(hg:Good o nx)(ay:o id= .bZ (enc (D.int .i64) (jR b)))(K X:V->(Nat->aa)->Nat->Prop)
 (x9:∀o' nx' i j k,nx<=nx'->Good o' nx'->(∀j,j<nx->o' j=o j)->
  o' i= .arr 0 59 4 (s.binds.map TB.d)->o' j= .arr 0 101 6 (s.aD.map Nt.d)->o' k= .arr 0 77 2 (s.marks.map uh)->
  K (.agg [.d (.sl (s.sig.cons.map fj.d)), .d (.sl (s.sig.ct.map fj.d)), .osl i 0, .osl j 0, .osl k 0]) o' nx'):
 bJ Tryz.prog 65 [.agg [.d (.sl (s.sig.cons.map fj.d)), .d (.sl (s.sig.ct.map fj.d)), .d (.sl (s.binds.map TB.d)), .d (.sl (s.aD.map Nt.d)), .d (.sl (s.marks.map uh)), .mp id]] o nx K X:=by
 refine bJ.x7 (d:=s.kd b) ?_ ?_
 ·exact qp ay
 ·show bJ _ _ _ (put o (bK o [id])) nx K X
  rw[Pl ay]
  exact Cf s hs b o nx hg K X x9
section
section
variable {P:Program}
def uu(P:Program)(n t t1:Nat)(ic:IC)(bW:List V)(u:V)(o:Nat->aa)(nx:Nat)(K:(Nat->aa)->Nat->Prop):Prop:=
 bW.length<=n/\kQ P n nx true ic (Lb K) ⟨aw (aw (cG bW) t u) t1 u,o,nx⟩
def sN(P:Program)(n t t1:Nat)(ic:IC)(bW:List V)(rs:List ResultVar)(K X:V->(Nat->aa)->Nat->Prop)(e:gr)(s:S):Prop:=
 match e with
 | .normal| .ret=>uu P n t t1 ic bW (.d .fE) s.o s.nx fun o nx=>tS P rs K X .ret ⟨s.env,o,nx⟩
 | .bU v=>uu P n t t1 ic bW v s.o s.nx fun o nx=>tS P rs K X .ret ⟨s.env,o,nx⟩
 | .exit _=>False
def Cg(P:Program)(n t:Nat)(fV:IC)(fY:List Operand)(g:FuncId)(D:List V->gr->S->Prop)(e:gr)(s:S):Prop:=
 match e with
 | .normal=>kQ P n s.nx false fV (D (fY.map s.ev)) ⟨aw s.env t (.func (.func g) [] (fY.map s.ev)),s.o,s.nx⟩
 |_=>False
variable {n t t1:Nat}{ic fV:IC}{bW:List V}{rs:List ResultVar}{K X:V->(Nat->aa)->Nat->Prop}{s:S}{v:V}{fY:List Operand}{g:FuncId}{D:List V->gr->S->Prop}{KR:(Nat->aa)->Nat->Prop}
@[go_sem ↓] theorem Pn:sN P n t t1 ic bW rs K X .normal s=uu P n t t1 ic bW (.d .fE) s.o s.nx fun o nx=>tS P rs K X .ret ⟨s.env,o,nx⟩:=propext Iff.rfl
@[go_sem ↓] theorem Wx:sN P n t t1 ic bW rs K X .ret s=uu P n t t1 ic bW (.d .fE) s.o s.nx fun o nx=>tS P rs K X .ret ⟨s.env,o,nx⟩:=propext Iff.rfl
@[go_sem ↓] theorem Wy:sN P n t t1 ic bW rs K X (.bU v) s=uu P n t t1 ic bW v s.o s.nx fun o nx=>tS P rs K X .ret ⟨s.env,o,nx⟩:=propext Iff.rfl
@[go_sem ↓] theorem Po:Cg P n t fV fY g D .normal s=kQ P n s.nx false fV (D (fY.map s.ev)) ⟨aw s.env t (.func (.func g) [] (fY.map s.ev)),s.o,s.nx⟩:=propext Iff.rfl
@[go_sem ↓] theorem Wz:Lb KR .normal s=KR s.o s.nx:=propext Iff.rfl
@[go_sem ↓] theorem afo:Lb KR .ret s=KR s.o s.nx:=propext Iff.rfl
theorem uu.w {o:Nat->aa}{nx:Nat}{K K':(Nat->aa)->Nat->Prop}(hK:∀o nx,K o nx->K' o nx)(h:uu P n t t1 ic bW v o nx K):Gz P n t t1 ic bW v o nx K':=by
 refine⟨h.1,eL ic _ _ _ (fun e s h=> ?_) h.2⟩
 unfold Lb at h|-
 cases e with
 |normal=>exact hK _ _ h
 |ret=>exact hK _ _ h
 |_=>exact h
theorem bJ.LJ (bz:P.follows .mixedOrders=true){f g:FuncId}{kG fV Ak:IC}{t m r r1:Nat}{fY:List Operand}{rs:List ResultVar}(hf:IE P f n kG fV g t fY rs)(hg:D7 P g m r r1 Ak)
 {args:List V} {o:Nat->aa} {nx:Nat} {K X:V->(Nat->aa)->Nat->Prop} (hl:args.length<=n)
 (h:kQ P n nx true kG (Cg P n t fV fY g fun bW=>sN P m r r1 Ak bW rs K X) ⟨cG args,o,nx⟩):bJ P f args o nx K X:=by
 refine bJ.Ea bz hf hg hl (eL kG _ _ _ (fun e s h=> ?_) h)
 unfold Cg at h
 unfold D8
 cases e with
 |normal=>
  refine eL fV _ _ _ (fun e s h=> ?_) h
  unfold sN at h
  unfold BI
  cases e with
  |normal=>exact uu.w (fun _ _ h=>by unfold tS at h;exact h) h
  |ret=>exact uu.w (fun _ _ h=>by unfold tS at h;exact h) h
  |bU v=>exact uu.w (fun _ _ h=>by unfold tS at h;exact h) h
  |exit _=>exact h
 |_=>exact h
end
attribute [irreducible] uu
theorem qX{P:Program}{n t t1:Nat}{ic:IC}{bW:List V}{v:V}{o:Nat->aa}{nx:Nat}{K:(Nat->aa)->Nat->Prop}(h1:bW.length<=n)(h2:kQ P n nx true ic (Lb K) ⟨aw (aw (cG bW) t v) t1 v,o,nx⟩):uu P n t t1 ic bW v o nx K:=by
 unfold uu
 exact⟨h1,h2⟩
end
theorem aac{o:Nat->aa}:th Tryz.prog o 20 true (.d .fE) (.d .fE)=some (.d (.bool true)):=aJ
theorem aad{o:Nat->aa}:th Tryz.prog o 20 true (.d (.iface 162 (.agg []))) (.d .fE)=some (.d (.bool false)):=aJ
theorem aae{o:Nat->aa}:th Tryz.prog o 20 true (.d (.iface 163 (.agg []))) (.d .fE)=some (.d (.bool false)):=aJ
theorem E4:wE Tryz.prog 162=true:=aJ
theorem E5:wE Tryz.prog 163=true:=aJ
def AtK(K:V->(Nat->aa)->Nat->Prop)(nx:Nat)(e:Int)(o':Nat->aa)(nx':Nat):Prop:=
 nx+2<=nx'/\Good o' nx'/\o' nx= .row [.d (.i 0)]/\∀o2 n2,nx'<=n2->Good o2 n2->(∀j,j≠nx->j<nx'->o2 j=o' j)->K (.d (.i e)) o2 n2
theorem AL(g:Nat)(bW:List V)(o:Nat->aa)(nx:Nat)(hg:Good o nx)(K X:V->(Nat->aa)->Nat->Prop)
 (hc:bJ Tryz.prog g bW (aw o nx (.row [.d (.i 0)])) (nx+2) (fun v o' nx'=>AtK K nx 0 o' nx')
  (fun v o' nx'=>(v= .d (.iface 162 (.agg []))/\AtK K nx 5 o' nx')\/(v= .d (.iface 163 (.agg []))/\AtK K nx 3 o' nx'))):
 bJ Tryz.prog 101 [.func (.func g) [] bW] o nx K X:=by
 refine bJ.LJ mix Ob N9 aF ?_
 rw[Oa,YQ]
 refine gB ?_
 refine ij (bJ.mono (fun v o' nx' h=> ?_) (fun v o' nx' h=> ?_) hc)
 ·obtain⟨h1,h2,h3,h4⟩:=h
  refine c9 h3 ?_
  refine qX aF ?_
  rw[N8]
  refine c9 (ae h3 @aac) ?_
  exact h4 _ _ ad (Good.aw (h2.mono ad) ad rfl) (fun j j1 j2=>af _ _ _ _ j1)
 ·rcases h with⟨rfl,h1,h2,h3,h4⟩|⟨rfl,h1,h2,h3,h4⟩
  ·refine c9 h3 ?_
   refine qX aF ?_
   rw[N8]
   refine c9 (ae h3 (ae @aad (ae @E4 @E5))) ?_
   exact abE
  ·refine c9 h3 ?_
   refine qX aF ?_
   rw[N8]
   refine c9 (ae h3 (ae @aae (ae @E4 @E5))) ?_
   exact abE
theorem Jz(s:b9)(hs:s.Fin)(a c:Tm)(ha:a.Fin)(hc:c.Fin)(o:Nat->aa)(nx:Nat)(hg:Good o nx)(K X:V->(Nat->aa)->Nat->Prop)
 (x9:bn s->bT s.sig a=true->bT s.sig c=true->∀o' nx' id,nx<=nx'->Good o' nx'->(∀j,j<nx->o' j=o j)->o' id= .bZ (enc (D.int .i64) (jR (ag s.binds)))->K (.cf [.agg (s.row++[.mp id]), .d (.bool true)]) o' nx')
 (jK: ¬ (bn s/\bT s.sig a=true/\bT s.sig c=true)->∀o' nx' id m,nx<=nx'->id<nx'->Good o' nx'->(∀j,j<nx->o' j=o j)->o' id=dk m\/o' id= .bZ (enc (D.int .i64) (jR m))->K (.cf [.agg (s.row++[.mp id]), .d (.bool false)]) o' nx'):
 bJ Tryz.prog 63 [.d s.d, .d a.d, .d c.d] o nx K X:=by
 refine bJ.aH mix ad9 aF ?_
 rw[c63]
 refine gB ?_
 refine bI (Js s hs _ _ dx _ _ (fun h o' nx' id i1 i2 i3 i4=> ?_) (fun h o' nx' id m i1 i0 i2 i3 i4=> ?_))
 ·have e0:o' nx= .row s.row:=(i3 _ ad).trans bp
  have e1:o' (nx+1)= .row a.row:=(i3 _ ad).trans bp
  have e2:o' (nx+2)= .row c.row:=(i3 _ ad).trans bp
  have e3:o' (nx+3)= .row [.ao, .ao, .ao, .ao, .ao, .d .dX]:=(i3 _ ad).trans bp
  have ay:id<nx':=Good.lt i2 HB
  have w1:∀k,nx≠nx'+k:=fun k=>ad
  have w2:∀k j,nx+j≠nx'+k\/True:=fun k j=> .inr trivial
  have w3:∀k,id≠nx'+k:=fun k=>ad
  have hgr:Good (aw (aw o' (nx'+3) (.row [.ao, .ao, .ao, .ao, .ao, .d .dX])) (nx'+3) (.row (s.row++[.mp id]))) (nx'+6):=by
   refine Good.aw (Good.aw (i2.mono ad) ad rfl) ad ?_
   simp[aa.refs,V.aN,V.refs]
   omega
  have d1:id≠nx+1:=fun e=>by subst e;rw[i4]at e1;cases e1
  have d2:id≠nx+2:=fun e=>by subst e;rw[i4]at e2;cases e2
  have d3:id≠nx+3:=fun e=>by subst e;rw[i4]at e3;cases e3
  have kno: ¬ (bT s.sig a=true/\bT s.sig c=true)->∀o2 n2,nx'<=n2->Good o2 n2->(∀j,j<nx->o2 j=o' j)->o2 id=o' id->K (.cf [.agg (s.row++[.mp id]), .d (.bool false)]) o2 n2:=fun hv o2 n2 q1 q2 q3 q4=>
   jK (fun h=>hv h.2) o2 n2 id (ag s.binds) ad ad q2 (fun j hj=>by rw[q3 j hj,i3 j (by omega)];(repeat first|rfl|rw[ab]|rw[af _ _ _ _ (by omega)])) (.inr (by rw[q4,i4]))
  refine c9 (ae e0 (ae e1 (ae e2 (ae e3 (ae i4 (ae w1 w3)))))) ?_
  refine bf (o6 s hs.sig (ag s.binds) a ha) rfl ?_
  cases va:bT s.sig a with
  |false=>
   refine c9 (ae e0 (ae e1 (ae e2 (ae e3 (ae i4 (ae w1 w3)))))) ?_
   refine aL (bE (ids:=[nx'+3,nx+1,nx+2,nx+3,id]) (nx:=nx'+20) ir ir [([0],[]),([],[]),([],[]),([0],[]),([1],[]),([4],[]),([],[]),([],[]),([],[]),([],[]),([],[]),([],[]),([3,4],[3]),([],[])] bF) ?_
   refine gB ?_
   exact kno (fun h=>by rw[va]at h;exact Bool.false_ne_true h.1) _ _ ad (Good.aw (Good.mono hgr ad) ad Mg) (fun j hj=>bp) bp
  |true=>
   refine c9 (ae e0 (ae e1 (ae e2 (ae e3 (ae i4 (ae w1 w3)))))) ?_
   refine bf (o6 s hs.sig (ag s.binds) c hc) rfl ?_
   cases vc:bT s.sig c with
   |false=>
    refine c9 (ae e0 (ae e1 (ae e2 (ae e3 (ae i4 (ae w1 w3)))))) ?_
    refine aL (bE (ids:=[nx'+3,nx+1,nx+2,nx+3,id]) (nx:=nx'+20) ir ir [([0],[]),([],[]),([],[]),([0],[]),([1],[]),([4],[]),([],[]),([],[]),([0],[]),([2],[]),([4],[]),([],[]),([3,4],[3]),([],[])] bF) ?_
    refine gB ?_
    exact kno (fun h=>by rw[vc]at h;exact Bool.false_ne_true h.2) _ _ ad (Good.aw (Good.mono hgr ad) ad Mg) (fun j hj=>bp) bp
   |true=>
    refine c9 (ae e0 (ae e1 (ae e2 (ae e3 (ae i4 (ae w1 w3)))))) ?_
    refine aL (bE (ids:=[nx'+3,nx+1,nx+2,nx+3,id]) (nx:=nx'+20) ir ir [([0],[]),([],[]),([],[]),([0],[]),([1],[]),([4],[]),([],[]),([],[]),([0],[]),([2],[]),([4],[]),([],[]),([3,4],[3]),([],[])] bF) ?_
    refine gB ?_
    exact x9 h va vc _ _ id ad (Good.aw (Good.mono hgr ad) ad Mg) (fun j hj=>by(repeat first|rfl|rw[ab]|rw[af _ _ _ _ (by omega)]);rw[i3 j (by omega)];(repeat first|rfl|rw[ab]|rw[af _ _ _ _ (by omega)])) (gW i4)
 ·have e0:o' nx= .row s.row:=(i3 _ ad).trans bp
  have e3:o' (nx+3)= .row [.ao, .ao, .ao, .ao, .ao, .d .dX]:=(i3 _ ad).trans bp
  have w1:∀k,nx≠nx'+k:=fun k=>ad
  have w3:∀k,id≠nx'+k:=fun k=>ad
  simp only[b9.row,List.cons_append,List.nil_append]at jK|-
  have e1:o' (nx+1)= .row a.row:=(i3 _ ad).trans bp
  have e2:o' (nx+2)= .row c.row:=(i3 _ ad).trans bp
  have d1:id≠nx+1:=fun e=>by subst e;rw[e1]at i4;rcases i4 with h|h<;>cases h
  have d2:id≠nx+2:=fun e=>by subst e;rw[e2]at i4;rcases i4 with h|h<;>cases h
  have d3:id≠nx+3:=fun e=>by subst e;rw[e3]at i4;rcases i4 with h|h<;>cases h
  refine c9 (ae e0 (ae e3 (ae w1 w3))) ?_
  refine aL (bE (ids:=[nx'+3,nx+1,nx+2,nx+3,id]) (nx:=nx'+20) ir ir [([0],[]),([],[]),([],[]),([],[]),([],[]),([],[]),([],[]),([],[]),([],[]),([],[]),([],[]),([],[]),([3,4],[3]),([],[])] bF) ?_
  refine gB ?_
  refine jK (fun h'=>h h'.1) _ _ id m ad ad ?_ (fun j hj=>by(repeat first|rfl|rw[ab]|rw[af _ _ _ _ (by omega)]);rw[i3 j (by omega)];(repeat first|rfl|rw[ab]|rw[af _ _ _ _ (by omega)])) (gW i4)
  refine Good.aw (Good.aw (Good.aw (i2.mono ad) ad rfl) ad ?_) ad ?_
  all_goals (simp[aa.refs,V.aN,V.refs];omega)
theorem Pp(l:List Nt)(hl:l.length<=1000)(g:Nat)(kv:V)(kd:D)(brk:Nt->Bool)(hb:∀x∈l,a7 Tryz.prog g [kd,x.d] (.ret [.bool (brk x)]))(o:Nat->aa)(nx:Nat)(hg:Good o nx)(hr:∀r∈kv.refs,r<nx)(hk:ef o kv=some kd)(K X:V->(Nat->aa)->Nat->Prop)
 (hK:∀r:Int,decide (0<=r)=l.any brk->∀nx',nx<=nx'->K (.d (.i r)) o nx'):
 bJ Tryz.prog 126 [.d (.sl (l.map Nt.d)), .func (.func g) [kv] []] o nx K X:=by
 refine bJ.aH mix Od aF ?_
 rw[RV]
 refine LR ?_
 refine aC (fun i:Nat=>⟨aY [.d (.sl (l.map Nt.d)), .func (.func g) [kv] [], .ai, .ai, .ai, .ai, .ai, .d (.i l.length), .d (.i i)],o,nx⟩)
  (fun i=>i<=l.length/\l.any brk=(l.drop i).any brk) (fun i=>l.length - i) 0 ⟨Nat.zero_le _,rfl⟩ ?_ ?_
 ·exact Uv
 rintro k ⟨Qj,zi⟩
 refine LR ?_
 refine ak (fun h1=> ?_) (fun h1=> ?_)
 ·have h1:k<l.length:=by simp at h1;omega
  obtain⟨x,hx⟩:=aA h1
  have cj:=List.mem_of_getElem? hx
  have hd:l.drop k=x::l.drop (k+1):=by
   exact W8
  rw[hd,List.any_cons]at zi
  refine dQ (ae hx hk) ?_
  refine ax (hb x cj) rfl ?_
  cases yI:brk x with
  |true=>
   rw[yI]at zi
   refine gB ?_
   exact hK k agd _ ad
  |false=>
   rw[yI]at zi
   refine gB ?_
   refine aj (k+1) ⟨h1,zi⟩ ad ?_
   exact Uv
 ·have h1:k=l.length:=by simp at h1;omega
  subst h1
  refine gB ?_
  exact hK _ ab8 _ ad
theorem qn(l:List Nt)(hl:l.length<=1000)(g:Nat)(kv:V)(kd:D)(brk:Nt->Bool)(hb:∀x∈l,a7 Tryz.prog g [kd,x.d] (.ret [.bool (brk x)]))(o:Nat->aa)(nx:Nat)(hg:Good o nx)(hr:∀r∈kv.refs,r<nx)(hk:ef o kv=some kd)(K X:V->(Nat->aa)->Nat->Prop)
 (hK:∀nx',nx<=nx'->K (.d (.bool (l.any brk))) o nx'):
 bJ Tryz.prog 88 [.d (.sl (l.map Nt.d)), .func (.func g) [kv] []] o nx K X:=by
 refine bJ.aH mix YP aF ?_
 rw[c88]
 refine gB ?_
 refine aT (Pp l hl g kv kd brk hb o _ (hg.mono ad) (fun r h=>by have:=hr r h;omega) hk _ _ fun r h1 nx' h2=> ?_)
 refine c9 h1 ?_
 exact hK _ ad
theorem SG(l:List TB)(hl:l.length<=1000):Qk Tryz.prog 104 [.sl (l.map TB.d)] (.pY (l.map TB.d)):=by
 refine Qk.l8 rfl ?_
 refine bJ.aH mix Vy aF ?_
 rw[YT]
 have hc:((l.map TB.d).all fun z=>z.cells.length==4)=true:=by
  rw[List.all_eq_true]
  intro z hz
  obtain⟨r,_,rfl⟩:=List.mem_map.1 hz
  rfl
 have hk:(l.map TB.d).take l.length=l.map TB.d:=List.take_of_length_le aF
 exact abw (ae hc hk)
theorem SH{s:az}{b:List (Int×Tm)}{a c:Tm}(hb:rj s b)(ha:QT s a)(hc:QT s c){f:Nat}{e:Int}{b':List (Int×Tm)}(hf:jJ true f a c b=some (e,b')){p q r x m:Nat}(o:Nat->aa)(nx:Nat)(hg:Good o nx)
 (hp:o p= .row [.ptr x 0]) (hq:o q= .row a.row) (hr:o r= .row c.row) (hx:o x= .row [.mp m, .ao, .d (.bool true)]) (hm:o m=dk b) (K X:V->(Nat->aa)->Nat->Prop)
 (a8:e=0->∀E:List TB,b'=b++ag E->∀o' nx' l,nx<=l->nx<=nx'->Good o' nx'->EqH o' x m l 0 true b' E->(∀j,j<nx->j≠x->j≠m->o' j=o j)->K (.cf []) o' nx')
 (jK:e=5->∀o' nx',nx<=nx'->Good o' nx'->(∀j,j<nx->j≠x->j≠m->o' j=o j)->X (.d (.iface 162 (.agg []))) o' nx')
 (Bb:e=3->∀o' nx',nx<=nx'->Good o' nx'->(∀j,j<nx->j≠x->j≠m->o' j=o j)->X (.d (.iface 163 (.agg []))) o' nx'):
 bJ Tryz.prog 102 [.ptr p 0, .ptr q 0, .ptr r 0] o nx K X:=by
 have lp:p<nx:=hg.lt CJ
 have lq:q<nx:=hg.lt (by rw[hq];exact aa.noConfusion)
 have lr:r<nx:=hg.lt (by rw[hr];exact aa.noConfusion)
 refine bJ.aH mix Vw aF ?_
 rw[YR]
 refine c9 (ae hp (ae hq hr)) ?_
 refine aT (x8 hb ha hc (L:=[]) aF hf (x:=x) (m:=m) (xl:= .ao) o o _ (fun _=>False) ?_ ?_ hx hm (.inl ⟨rfl,rfl,bF⟩) (fun _ h=>h.elim) (fun j _=> .inr rfl) _ _ (fun h0 E hE o' nx' h1 h2 h3 h4=> ?_) (fun h5 o' nx' h1 h2 h4=> ?_) (fun h3 o' nx' h1 h2 h4=> ?_))
 ·exact hg.mono ad
 ·exact hg.mono ad
 ·refine cS ?_
  exact a8 h0 E hE _ _ _ ad ad h2 h3 (fun j j1 j2 j3=>h4 j ad j2 j3)
 ·refine cS ?_
  exact jK h5 _ _ ad h2 (fun j j1 j2 j3=>h4 j ad j2 j3)
 ·refine cS ?_
  exact Bb h3 _ _ ad h2 (fun j j1 j2 j3=>h4 j ad j2 j3)
theorem bn.aci {s:b9}(h:bn s):rj s.sig (ag s.binds):=⟨h.gA.keys,fun p hp=>by obtain⟨x,hx,rfl⟩:=cz hp;exact⟨(h.gA.ok x hx).1,uj (h.gA.ok x hx).2⟩,h.gA.Fu⟩
def IsB(o:Nat->aa)(vb:V)(a b:Nat)(L:List D):Prop:=vb= .pY L\/∃l,vb= .osl l 0/\a<=l/\l<b/\o l= .arr 0 59 4 L
theorem aaf{s:b9}(hs:bn s){a c:Tm}(ha:bT s.sig a=true)(hc:bT s.sig c=true){f:Nat}{e:Int}{b':List (Int×Tm)}(hf:jJ true f a c (ag s.binds)=some (e,b')){id:Nat}(o:Nat->aa)(nx:Nat)(hg:Good o nx)
 (ay:o id= .bZ (enc (D.int .i64) (jR (ag s.binds)))) (brk:Nt->Bool) (AJ:e=0->∀E,b'=ag (s.binds++E)->∀n∈s.aD,a7 Tryz.prog 66 [b9.kd ⟨s.sig,s.binds++E,s.aD,s.marks⟩ b',n.d] (.ret [.bool (brk n)])) (K X:V->(Nat->aa)->Nat->Prop)
 (jK:e=5\/e=3->∀o' nx',nx<=nx'->Good o' nx'->(∀j,j<nx->o' j=o j)->K (.cf [.agg [.ao, .ao, .ao, .ao, .ao, .d .dX], .d (.i e)]) o' nx')
 (hbr:e=0->s.aD.any brk=true->∀o' nx',nx<=nx'->Good o' nx'->(∀j,j<nx->o' j=o j)->K (.cf [.agg [.ao, .ao, .ao, .ao, .ao, .d .dX], .d (.i 5)]) o' nx')
 (a8:e=0->∀E,b'=ag (s.binds++E)->s.aD.any brk=false->∀o' nx' vb mid,nx<=nx'->Good o' nx'->(∀j,j<nx->o' j=o j)->IsB o' vb nx nx' ((s.binds++E).map TB.d)->nx<=mid->o' mid=dk b'->K (.cf [.agg [.d (.sl (s.sig.cons.map fj.d)), .d (.sl (s.sig.ct.map fj.d)),vb, .d (.sl (s.aD.map Nt.d)), .d (.sl (s.marks.map uh)), .mp mid], .d (.i 0)]) o' nx'):
 bJ Tryz.prog 64 [.agg (s.row++[.mp id]), .d a.d, .d c.d] o nx K X:=by
 have ss:id<nx:=hg.lt (by rw[ay];exact aa.noConfusion)
 refine bJ.aH mix aea aF ?_
 rw[c64]
 simp only[b9.row,List.cons_append,List.nil_append]
 refine c9 ay ?_
 refine bI (bJ.IG Oe (kt:=3) (vt:=33) (l:=enc (D.int .i64) (jR (ag s.binds))) (gW ay) ?_)
 refine c9 ay ?_
 have hgH:Good (aw (aw (aw (aw (aw (aw (aw (aw o nx (.row (s.row++[.mp id]))) (nx+1) (.row a.row)) (nx+2) (.row c.row)) (nx+3) (.row [.ao, .ao, .ao, .ao, .ao, .d .dX])) (nx+7) (dk (ag s.binds))) (nx+9) (.row [.mp (nx+7), .ao, .d (.bool true)])) (nx+10) (.row [.d .mu])) (nx+10) (.row [.ptr (nx+9) 0])) (nx+13):=by
  refine Good.aw (Good.aw (Good.aw (Good.aw (Good.aw (Good.aw (Good.aw (Good.aw (hg.mono ad) ad ?_) ad rfl) ad rfl) ad rfl) ad rfl) ad ?_) ad rfl) ad ?_
  all_goals (simp[aa.refs,V.aN,V.refs]<;>omega)
 refine aT (AL _ _ _ _ hgH _ _ (SH hs.aci (uj ha) (uj hc) hf (p:=nx+10) (q:=nx+1) (r:=nx+2) (x:=nx+9) (m:=nx+7) _ _ ?_ bp bp bp bp bp _ _ (fun h0 E hE o1 n1 l g1 g2 g3 g4 g5=>⟨ad,g3, ?_,fun o2 n2 k1 k2 k3=> ?_⟩) (fun h5 o1 n1 g2 g3 g5=> .inl ⟨rfl,ad,g3, ?_,fun o2 n2 k1 k2 k3=> ?_⟩) (fun h3 o1 n1 g2 g3 g5=> .inr ⟨rfl,ad,g3, ?_,fun o2 n2 k1 k2 k3=> ?_⟩)))
 ·exact Good.aw (hgH.mono ad) ad rfl
 ·exact WY
 ·have ll:l<n1:=g3.lt (by rw[g4.Vr];exact aa.noConfusion)
  have f0:o2 nx= .row (s.row++[.mp id]):=by rw[k3 _ (by omega) (by omega),g5 _ (by omega) (by omega) (by omega)];(repeat first|rfl|rw[ab]|rw[af _ _ _ _ (by omega)])
  have f3:o2 (nx+3)= .row [.ao, .ao, .ao, .ao, .ao, .d .dX]:=by rw[k3 _ (by omega) (by omega),g5 _ (by omega) (by omega) (by omega)];(repeat first|rfl|rw[ab]|rw[af _ _ _ _ (by omega)])
  have f10:o2 (nx+10)= .row [.ptr (nx+9) 0]:=by rw[k3 _ (by omega) (by omega),g5 _ (by omega) (by omega) (by omega)];(repeat first|rfl|rw[ab]|rw[af _ _ _ _ (by omega)])
  have f9:o2 (nx+9)= .row [.mp (nx+7), .osl l 0, .d (.bool true)]:=by rw[k3 _ (by omega) (by omega)];exact g4.row
  have f7:o2 (nx+7)=dk b':=by rw[k3 _ (by omega) (by omega)];exact g4.map
  have fl:o2 l= .arr 0 59 4 (E.map TB.d):=by rw[k3 _ (by omega) (by omega)];exact g4.Vr
  have dn:∀j,j<nx->o2 j=o j:=fun j hj=>by rw[k3 _ (by omega) (by omega),g5 _ (by omega) (by omega) (by omega)];(repeat first|rfl|rw[ab]|rw[af _ _ _ _ (by omega)])
  have w1:∀k,nx≠n2+k:=fun k=>ad
  have w2:∀k,l≠n2+k:=fun k=>ad
  have w3:l≠nx:=ad
  refine c9 (ae f0 (ae f3 (ae f10 (ae f9 (ae f7 (ae fl (ae w1 (ae w2 w3)))))))) ?_
  refine Ai (SG s.binds (by have:=hs.gA.len;omega)) ?_
  refine c9 (ae f0 (ae f3 (ae f10 (ae f9 (ae f7 (ae fl (ae w1 (ae w2 w3)))))))) ?_
  have SI:b'=ag (s.binds++E):=by rw[hE,ew]
  have hlen:s.binds.length+E.length<=20:=by
   have h1:=(x6 f a c _ b' (h0 ▸ hf) hs.aci (uj ha) (uj hc)).1
   have h2:=EL h1.keys fun v hv=>by
    obtain⟨p,hp,rfl⟩:=List.mem_map.1 hv
    exact(h1.ok p hp).1
   rw[List.length_map,SI]at h2
   unfold ag at h2
   rw[List.length_map,List.length_append]at h2
   exact h2
  have dR:s.binds.length+E.length<=1099511627776/\(s.binds.length+E.length)*48<=1099511627776:=ad
  by_cases hn:E=[]
  ·subst hn
   simp+contextual (disch:=first|omega|simp only[go_sem,false_implies]) only[go_sem,wrap64,if_pos,List.map_nil,if_true]
   refine aL (bE (ids:=[nx,nx+10,nx+9,l]) (nx:=n2+21) ir ir [([0],[]),([0],[]),([0],[]),([],[]),([1],[]),([2],[]),([2],[]),([2],[]),([3],[]),([0],[]),([0],[]),([0],[0])] bF) ?_
   refine c9 (ae f3 (ae f10 (ae f9 (ae f7 w1)))) ?_
   have uL:=hs.sI
   refine aT (qn s.aD ad 66 _ _ brk (AJ h0 [] SI) _ _ ?_ ?_ ?_ _ _ (fun n3 h3=> ?_))
   ·refine(Good.aw (Good.aw (k2.mono ad) ad ?_) ad ?_)
    all_goals (simp[aa.refs,V.aN,V.refs]<;>omega)
   ·intro r hr
    simp[V.aN,V.refs]at hr
    omega
   ·simp+contextual (disch:=first|omega|simp only[go_sem,false_implies]) only[go_sem,wrap64,if_pos,f7,w1,Nat.add_assoc,Nat.left_eq_add,Nat.add_eq_left,Nat.add_left_cancel_iff,List.append_nil]
   cases MO:s.aD.any brk with
   |true=>
    refine c9 (ae f3 (ae f10 (ae f9 (ae f7 w1)))) ?_
    refine hbr h0 MO _ _ ad (Good.aw (Good.aw (Good.aw (k2.mono ad) ad ?_) ad ?_) ad ?_) (fun j hj=>by(repeat first|rfl|rw[ab]|rw[af _ _ _ _ (by omega)]);exact dn j hj)
    all_goals (simp[aa.refs,V.aN,V.refs]<;>omega)
   |false=>
    refine c9 (ae f3 (ae f10 (ae f9 (ae f7 w1)))) ?_
    refine a8 h0 [] SI MO _ _ (.pY (s.binds.map TB.d)) (nx+7) ad (Good.aw (Good.aw (Good.aw (k2.mono ad) ad ?_) ad ?_) ad ?_) (fun j hj=>by(repeat first|rfl|rw[ab]|rw[af _ _ _ _ (by omega)]);exact dn j hj) (.inl (by rw[List.append_nil])) ad (gW f7)
    all_goals (simp[aa.refs,V.aN,V.refs]<;>omega)
  ·have Na: ¬List.map TB.d E=[]:=by simpa using hn
   rw[if_neg Na,if_pos dR]
   refine c9 (ae f0 (ae f3 (ae f10 (ae f9 (ae f7 (ae fl (ae w1 (ae w2 w3)))))))) ?_
   refine aL (bE (ids:=[nx,nx+10,nx+9,l,n2+17]) (nx:=n2+21) ir ir [([0],[]),([0],[]),([0],[]),([],[]),([1],[]),([2],[]),([2],[]),([2],[]),([3],[4]),([0],[]),([0],[]),([0,4],[0])] bF) ?_
   refine c9 (ae f3 (ae f10 (ae f9 (ae f7 w1)))) ?_
   have uL:=hs.sI
   refine aT (qn s.aD ad 66 _ _ brk (AJ h0 E SI) _ _ ?_ ?_ ?_ _ _ (fun n3 h3=> ?_))
   ·refine(Good.aw (Good.aw (Good.aw (k2.mono ad) ad ?_) ad ?_) ad ?_)
    all_goals (simp[aa.refs,V.aN,V.refs]<;>omega)
   ·intro r hr
    simp[V.aN,V.refs]at hr
    omega
   ·refine c9 (ae f7 w1) ?_
    rw[<- List.map_append]
   cases MO:s.aD.any brk with
   |true=>
    refine c9 (ae f3 (ae f10 (ae f9 (ae f7 w1)))) ?_
    refine hbr h0 MO _ _ ad (Good.aw (Good.aw (Good.aw (Good.aw (k2.mono ad) ad ?_) ad ?_) ad ?_) ad ?_) (fun j hj=>by(repeat first|rfl|rw[ab]|rw[af _ _ _ _ (by omega)]);exact dn j hj)
    all_goals (simp[aa.refs,V.aN,V.refs]<;>omega)
   |false=>
    refine c9 (ae f3 (ae f10 (ae f9 (ae f7 w1)))) ?_
    refine a8 h0 E SI MO _ _ (.osl (n2+17) 0) (nx+7) ad (Good.aw (Good.aw (Good.aw (Good.aw (k2.mono ad) ad ?_) ad ?_) ad ?_) ad ?_) (fun j hj=>by(repeat first|rfl|rw[ab]|rw[af _ _ _ _ (by omega)]);exact dn j hj) (.inr ⟨n2+17,rfl,ad,ad,by(repeat first|rfl|rw[ab]|rw[af _ _ _ _ (by omega)]);rw[List.map_append]⟩) ad (gW f7)
    all_goals (simp[aa.refs,V.aN,V.refs]<;>omega)
 ·exact WY
 ·have h9:o2 (nx+3)= .row [.ao, .ao, .ao, .ao, .ao, .d .dX]:=by rw[k3 _ (by omega) (by omega),g5 _ (by omega) (by omega) (by omega)];(repeat first|rfl|rw[ab]|rw[af _ _ _ _ (by omega)])
  refine c9 h9 ?_
  have e5:e=5:=h5
  subst e5
  exact jK (.inl rfl) _ _ ad (Good.aw (k2.mono ad) ad rfl) (fun j hj=>by rw[af _ _ _ _ (by omega),k3 _ (by omega) (by omega),g5 _ (by omega) (by omega) (by omega)];(repeat first|rfl|rw[ab]|rw[af _ _ _ _ (by omega)]))
 ·exact WY
 ·have h9:o2 (nx+3)= .row [.ao, .ao, .ao, .ao, .ao, .d .dX]:=by rw[k3 _ (by omega) (by omega),g5 _ (by omega) (by omega) (by omega)];(repeat first|rfl|rw[ab]|rw[af _ _ _ _ (by omega)])
  refine c9 h9 ?_
  have e5:e=3:=h3
  subst e5
  exact jK (.inr rfl) _ _ ad (Good.aw (k2.mono ad) ad rfl) (fun j hj=>by rw[af _ _ _ _ (by omega),k3 _ (by omega) (by omega),g5 _ (by omega) (by omega) (by omega)];(repeat first|rfl|rw[ab]|rw[af _ _ _ _ (by omega)]))
theorem pG(l:List TB):y9 (ag l)=l:=by
 unfold ag y9
 rw[List.map_map]
 exact List.map_id _
theorem js{s:az}{t:Tm}(h:bT s t=true):t.eP:=Tm.Hb _ (by have:=(bc h).2.1;omega)
theorem rj.len {s:az}{l:List TB}(h:rj s (ag l)):l.length<=20:=by
 have:=EL h.keys fun v hv=>by
  obtain⟨p,hp,rfl⟩:=List.mem_map.1 hv
  exact(h.ok p hp).1
 rw[List.length_map]at this
 unfold ag at this
 rwa [List.length_map]at this
theorem jG.all {sg:az}{l:List TB}(h:jG sg l):∀p∈ag l,AE (ag l) p.2/\p.2.fits:=fun p hp=>by
 obtain⟨x,hx,rfl⟩:=cz hp
 exact⟨h.Su x hx,Tm.fq x.term (by have:=(bc (h.ok x hx).2).2.1;omega)⟩
theorem Pq{sg:az}{l:List TB}(h:jG sg l)(s':b9){n:Nt}(na:bT sg n.a=true)(nb:bT sg n.b=true){bk:Bool}(AJ:bk=true↔EV (ag l) n):
 a7 Tryz.prog 66 [s'.kd (ag l),n.d] (.ret [.bool bk])/\a7 Tryz.prog 71 [.sl (l.map TB.d),n.d] (.ret [.bool bk]):=by
 obtain⟨l',ρ,R,hS,vK⟩:=jr h.keys h.ok h.Fu
 obtain⟨a1,a2,_⟩:=bc na
 obtain⟨b1,b2,_⟩:=bc nb
 have za:=lP hS (fun p hp=>(h.all p hp).1) a1
 have zb:=lP hS (fun p hp=>(h.all p hp).1) b1
 have fa:=nP hS _ n.a a1 (Nat.le_refl _)
 have fb:=nP hS _ n.b b1 (Nat.le_refl _)
 have fa':=iQ fa (Nat.le_max_left _ (R+3+(aO (ag l') n.b).sz))
 have fb':=iQ fb (Nat.le_max_right (R+3+(aO (ag l') n.a).sz) _)
 obtain⟨f1,u1⟩:=B5 hS a1
 obtain⟨f2,u2⟩:=B5 hS b1
 have e:iH (aO (ag l') n.a) (aO (ag l') n.b)=bk:=by
  rw[Bool.eq_iff_iff,AJ,ek]
  exact(wb hS a1 b1).symm
 have hl:=h.len
 rw[<- e]
 exact⟨AG s' (fun p hp=>(h.all p hp).2) n (Tm.fq _ ad) (Tm.fq _ ad) fa' fb' (Tm.fq _ ad) (Tm.fq _ ad) ad ad,
  u5 ad (fun p hp=>(h.all p hp).2) (Tm.fq _ ad) (Tm.fq _ ad) u1 u2 ad ad⟩
theorem sO{s:b9}(h:bn s){a c:Tm}(ha:bT s.sig a=true)(hc:bT s.sig c=true){f:Nat}{b':List (Int×Tm)}(hf:jJ true f a c (ag s.binds)=some (0,b')):∃E,b'=ag (s.binds++E)/\jG s.sig (s.binds++E):=by
 obtain⟨g,e,b1,h1,h2⟩:=Jp h ha hc
 have e1:=eQ hf (Nat.le_max_left f g)
 rw[eQ h1 (Nat.le_max_right f g)]at e1
 injection e1 with e1
 injection e1 with e1 e2
 subst e2
 rcases h2 with⟨_,E,h3,h4⟩|h|h
 ·exact⟨E,h3,h4⟩
 ·exact absurd (e1.symm.trans h) bF
 ·exact absurd (e1.symm.trans h) bF
def iX(e:Int)(bk:Bool):Int:=if e=0 then(if bk=true then 5 else 0)else e
def b9.tell (s:b9)(b':List (Int×Tm)):b9:=⟨s.sig,y9 b',s.aD,s.marks⟩
def b9.Hj (s:b9)(n:Nt):b9:=⟨s.sig,s.binds,s.aD++[n],s.marks⟩
theorem Ch:∀ (Δ:List (Nat×aa)) (o:Nat->aa) (j:Nat),(∀y∈Δ,y.1≠j)->put o Δ j=o j
 |[],o,j,h=>rfl
 |y::Δ,o,j,h=>by
  show put (aw o y.1 y.2) Δ j=o j
  rw[Ch Δ _ j (fun z hz=>h z (by simp[hz])),af _ _ _ _ (h y (by simp)).symm]
theorem E6{nx:Nat}:∀ (Δ:List (Nat×aa)) (o:Nat->aa),Good o nx->(∀y∈Δ,(nx<=y.1->y.2= .no)/\∀r∈y.2.refs,r<nx)->Good (put o Δ) nx
 |[],o,hg,h=>hg
 |y::Δ,o,hg,h=>by
  show Good (put (aw o y.1 y.2) Δ) nx
  refine E6 Δ _ ?_ (fun z hz=>h z pX)
  obtain⟨h1,h2⟩:=h y aF
  by_cases hy:nx<=y.1
  ·rw[h1 hy]
   have:aw o y.1 .no=o:=by
    funext j
    by_cases e:j=y.1
    ·subst e;rw[ab,hg.fresh _ hy]
    ·exact HQ
   rw[this];exact hg
  ·exact hg.aw ad (by rw[List.all_eq_true];exact fun r hr=>decide_eq_true (h2 r hr))
theorem yg{o:Nat->aa}{nx:Nat}(hg:Good o nx)(ids:List Nat):Good (put o (bK o ids)) nx:=by
 refine E6 _ _ hg fun y hy=> ?_
 unfold bK at hy
 obtain⟨id,_,rfl⟩:=List.mem_map.1 hy
 dsimp only
 refine⟨fun h=>by rw[hg.fresh id h],fun r hr=> ?_⟩
 have:=hg.refs id r
 revert this hr
 cases h:o id<;>simp[aa.refs]<;>intros<;>first|omega|simp_all
theorem SJ(m:Nat)(o:Nat->aa)(nx:Nat)(K X:V->(Nat->aa)->Nat->Prop)(h:K (.func (.func 136) [] [.ptr nx 0]) (aw o nx (.row [.mp m])) (nx+4)):bJ Tryz.prog 111 [.mp m] o nx K X:=by
 refine bJ.aH mix VF aF ?_
 rw[Y0]
 refine gB ?_
 exact h
theorem SK{b:List (Int×Tm)}(base ss p m:Nat)(H:List Int->Nat->aa)(Ep:ss<base)(hp:p<base)(hm:m<base)(hHp:∀l,H l p= .row [.mp m])(hHm:∀l,H l m= .bZ (enc (D.int .i64) (jR b)))
 (hHr:∀l id,id<base->∀r∈(H l id).refs,r<base) (hR:∀x l,l.length<b.length->RoC Tryz.prog ss [.d (.i x)] base (H l) (H (l++[x])) (.d (.bool true))) (o:Nat->aa) (nx:Nat) (hI:fw base (H []) o nx) (K X:V->(Nat->aa)->Nat->Prop)
 (hK:∀l o' nx',l.Perm (b.map (·.1))->nx<=nx'->fw base (H l) o' nx'->(∀id,base<=id->id<nx->o' id=o id)->K (.cf []) o' nx'):
 bJ Tryz.prog 136 [.lC ss, .ptr p 0] o nx K X:=by
 have hle:=hI.le
 have op:o p= .row [.mp m]:=by rw[hI.eq p hp,hHp]
 have om:o m= .bZ (enc (D.int .i64) (jR b)):=by rw[hI.eq m hm,hHm]
 refine bJ.aH mix VN aF ?_
 rw[Y8]
 refine c9 (ae op om) ?_
 obtain⟨S,hS1,hS2⟩:∃S:List Int->Nat->aa,(∀l id,id<base->S l id=H l id)/\∀l id,base<=id->S l id=o id:=
  ⟨fun l id=>if id<base then H l id else o id,fun l id h=>if_pos h,fun l id h=>if_neg ad⟩
 have hGS:∀l M,M.refs=[]->Good (aw (S l) (nx+1) M) (nx+2):=fun l M hM=>by
  refine⟨fun id ay=> ?_,fun id r hr=> ?_⟩
  ·rw[af _ _ _ _ (by omega),hS2 l id (by omega)];exact hI.cW.fresh id ad
  ·by_cases e:id=nx+1
   ·subst e;rw[ab,hM]at hr;cases hr
   ·rw[af _ _ _ _ e]at hr
    by_cases h:id<base
    ·rw[hS1 l id h]at hr;have:=hHr l id h r hr;omega
    ·rw[hS2 l id (by omega)]at hr;have:=hI.cW.refs id r hr;omega
 refine aC (fun i:List (Int×Tm)×List Int×Option (D×D)=>⟨aY [.lC ss, .ptr p 0, .ai, .ai, .ai, .ptr (nx+1) 0],aw (S i.2.1) (nx+1) (.s8 (enc (D.int .i64) (jR i.1)) i.2.2),nx+2⟩)
  (fun i=>i.1.length+i.2.1.length=b.length/\(i.2.1++i.1.map (·.1)).Perm (b.map (·.1))) (fun i=>i.1.length) (b,[],none) ⟨aF,aF⟩ ?_ ?_
 ·dsimp only
  refine bM.bQ _ ad ad (hGS _ _ rfl) (fun j hj=> ?_) ?_
  ·by_cases e:j=nx+1
   ·exact qq
   ·rw[af _ _ _ _ e,af _ _ _ _ e]
    by_cases h:j<base
    ·rw[hS1 _ _ h];exact hI.eq j h
    ·rw[hS2 _ _ (by omega)]
  ·exact dU
 rintro⟨rest,don,last⟩ ⟨hl,wx⟩
 dsimp only at hl wx|-
 refine gB ?_
 refine tZ (fun h0=> ?_) fun i v x hm=> ?_
 ·subst h0
  refine gB ?_
  refine hK don _ _ (by simpa using wx) ad ⟨?_,ad,fun id ay=> ?_⟩ (fun id h1 h2=> ?_)
  ·exact(hGS _ _ rfl).mono ad
  ·rw[af _ _ _ _ (by omega),hS1 _ _ ay]
  ·rw[af _ _ _ _ (by omega),hS2 _ _ h1]
 ·have hlen:(rest.eraseIdx i).length+1=rest.length:=by
   exact Xp
  have ahZ:=qU hm
  refine gB ?_
  refine oN (hR v don ad _ _ ⟨?_,ad,fun id ay=> ?_⟩ _ _ fun o2 n2 m1 m2 m3=> ?_)
  ·exact((hGS _ _ rfl).mono ad).aw ad rfl
  ·rw[af _ _ _ _ (by omega),af _ _ _ _ (by omega),hS1 _ _ ay]
  refine gB ?_
  refine aj (rest.eraseIdx i,don++[v],some (.int .i64 v,x.d)) ⟨by dsimp only;simp;omega, ?_⟩ iT (bM.bQ _ (show nx<=nx+2 from ad) ad (hGS _ _ rfl) (fun j hj=> ?_) ?_)
  ·dsimp only
   refine List.Perm.trans ?_ wx
   rw[List.append_assoc]
   refine List.Perm.append_left _ ?_
   have:=ahZ.map (fun p:Int×Tm=>p.1)
   simpa using this
  ·dsimp only
   have UH:j<nx+2:=hj
   by_cases e:j=nx+1
   ·subst e
    rw[ab,m3 _ (by omega) (by omega)]
    exact bp
   ·rw[af _ _ _ _ e]
    by_cases h:j<base
    ·rw[hS1 _ _ h];exact m2.eq j h
    ·rw[hS2 _ _ (by omega),m3 _ (by omega) (by omega),af _ _ _ _ e,af _ _ _ _ e,hS2 _ _ (by omega)]
  ·exact dU
def Ci(o:Nat->aa)(nx:Nat)(l:List Int):Nat->aa:=aw (aw o nx (.row [.osl (nx+3) l.length])) (nx+3) (.arr l.length 3 1 (l.map .i))
theorem E7{b:List (Int×Tm)}(hb:b.length<=1000){p m:Nat}(o:Nat->aa)(nx:Nat)(hg:Good o nx)(hp:o p= .row [.mp m])(hm:o m= .bZ (enc (D.int .i64) (jR b)))(K X:V->(Nat->aa)->Nat->Prop)
 (hK:∀ (l:List Int) (o':Nat->aa) (nx' id ep:Nat),l.Perm (b.map (·.1))->nx<=nx'->nx<=id->Good o' nx'->(∀j,j<nx->o' j=o j)->o' id= .arr ep 3 1 (l.map .i)->K (.osl id ep) o' nx'):
 bJ Tryz.prog 161 [.ao, .func (.func 136) [] [.ptr p 0]] o nx K X:=by
 refine bJ.aH mix VX aF ?_
 rw[Zi]
 refine gB ?_
 have hlp:p<nx:=hg.lt CJ
 have hlm:m<nx:=hg.lt HD
 have hG:∀l,Good (Ci o nx l) (nx+4):=fun l=>by
  unfold Ci
  refine Good.aw (Good.aw (hg.mono ad) ad ?_) ad rfl
  exact ve
 refine RX (s':=⟨aY [.ai, .ai, .ptr nx 0, .ai, .ai, .ai, .func (.func 136) [] [.ptr p 0]],Ci o nx [],nx+4⟩) (bM.sj (fun _=>False) .ao (nx+3) _ ad (fun j hj=> ?_) (by unfold Ci;(repeat first|rfl|rw[ab]|rw[af _ _ _ _ (by omega)])) (.inl ⟨rfl,rfl,bF⟩) (fun j hj=> ?_) (fun _ h=>h.elim) ?_) ?_
 ·unfold Ci
  by_cases e:j=nx
  ·subst e
   rw[ab,af _ _ _ _ (by omega),ab]
   exact jt rfl (qv 0 rfl rfl rfl ju)
  ·rw[af _ _ _ _ e,af _ _ _ _ (by omega),af _ _ _ _ e]
   exact bB rfl (fun r hr=>by have:=hg.refs j r hr;omega)
 ·unfold Ci
  rw[af _ _ _ _ (by omega),af _ _ _ _ (by omega)]
  exact CN
 ·exact iV
 ·show vA _ _ _ _ _ _ _ _ _ _ (.func (.func 136) [] [.ptr p 0])
  refine GK [.ai, .ai, .ptr nx 0] Me (fun L hL=> ?_)
  obtain⟨H,tg,GN,Wl⟩:∃H:List Int->Nat->aa,(∀l id,id<nx+4->H l id=Ci o nx l id)/\(∀l,H l (nx+4)=L .ready none)/\∀l id,nx+5<=id->H l id= .no:=
   ⟨fun l id=>if id<nx+4 then Ci o nx l id else if id=nx+4 then L .ready none else .no,fun l id h=>if_pos h,fun l=>aF,fun l id h=>by dsimp only;rw[if_neg (by omega),if_neg (by omega)]⟩
  have zg:∀st pd M,nx<M->(L st pd).refs.all (fun r=>decide (r<M))=true:=fun st pd M hM=>by
   rw[hL.refs,List.all_eq_true]
   intro r hr
   simp[V.aN,V.refs]at hr
   exact decide_eq_true ad
  have aP:∀l,Ci o nx l p= .row [.mp m]:=fun l=>by unfold Ci;(repeat first|rfl|rw[ab]|rw[af _ _ _ _ (by omega)]);exact hp
  have aM:∀l,Ci o nx l m= .bZ (enc (D.int .i64) (jR b)):=fun l=>by unfold Ci;(repeat first|rfl|rw[ab]|rw[af _ _ _ _ (by omega)]);exact hm
  have a0:∀l,Ci o nx l nx= .row [.osl (nx+3) l.length]:=fun l=>by unfold Ci;(repeat first|rfl|rw[ab]|rw[af _ _ _ _ (by omega)])
  have a3:∀l,Ci o nx l (nx+3)= .arr l.length 3 1 (l.map .i):=fun l=>by unfold Ci;(repeat first|rfl|rw[ab]|rw[af _ _ _ _ (by omega)])
  refine SK (b:=b) (nx+5) (nx+4) p m H ad ad ad (fun l=>by rw[tg _ _ (by omega)];exact aP l) (fun l=>by rw[tg _ _ (by omega)];exact aM l) (fun l id ay r hr=> ?_) (fun x l cD=> ?_) _ _ ⟨?_,ad,fun id ay=> ?_⟩ _ _ (fun l o' nx' h1 h2 h3 h4=> ?_)
  ·by_cases e:id=nx+4
   ·subst e
    rw[GN]at hr
    have:=List.all_eq_true.1 (zg .ready none (nx+5) ad) r hr
    simpa using this
   ·rw[tg _ _ (by omega)]at hr
    have:=(hG l).refs id r hr
    omega
  ·intro o3 n3 hI K X hK
   have hle:=hI.le
   have hg3:=hI.cW
   have Qo:o3 (nx+4)=L .ready none:=by rw[hI.eq _ (by omega),GN]
   have q0:o3 nx= .row [.osl (nx+3) l.length]:=by rw[hI.eq _ (by omega),tg _ _ (by omega),a0]
   have q3:o3 (nx+3)= .arr l.length 3 1 (l.map .i):=by rw[hI.eq _ (by omega),tg _ _ (by omega),a3]
   have dR:l.length<=140737488355327/\(l.length+1)*8<=140737488355328:=ad
   have y1:nx≠n3:=ad
   have y2:∀k,nx≠n3+k:=fun k=>ad
   have y3:nx+3≠n3:=ad
   have y4:∀k,nx+3≠n3+k:=fun k=>ad
   refine xE hL mix Qo ad bF rfl ?_
   simp only[qH]
   refine cS ?_
   refine oO hL (pd:=none) ?_ ?_
   ·(repeat first|rfl|rw[ab]|rw[af _ _ _ _ (by omega)])
    exact Qo
   refine dQ (ae q0 (ae q3 (ae y1 (ae y2 (ae y3 (ae y4 dR)))))) ?_
   refine tV hL (st:= .busy) (pd:=none) bp (hK _ _ ad ⟨?_,ad,fun id ay=> ?_⟩ (fun id h1 h2=>bp))
   ·refine Good.aw (Good.aw (Good.aw (Good.aw (Good.aw (hg3.mono ad) ad (zg _ _ _ ad)) ad rfl) ad rfl) ad ?_) ad (zg _ _ _ ad)
    simp[aa.refs,V.aN,V.refs]
    omega
   ·by_cases e:id=nx+4
    ·subst e;rw[ab,GN]
    ·rw[af _ _ _ _ e,tg _ _ (by omega)]
     unfold Ci
     by_cases e0:id=nx
     ·subst e0;(repeat first|rfl|rw[ab]|rw[af _ _ _ _ (by omega)]);simp
     ·by_cases e3:id=nx+3
      ·subst e3;(repeat first|rfl|rw[ab]|rw[af _ _ _ _ (by omega)]);simp
      ·(repeat first|rfl|rw[ab]|rw[af _ _ _ _ (by omega)])
       rw[hI.eq _ ay,tg _ _ (by omega)]
       unfold Ci
       exact bp
  ·exact(hG []).mono ad |>.aw ad (zg _ _ _ ad)
  ·by_cases e:id=nx+4
   ·subst e;rw[ab,GN]
   ·rw[af _ _ _ _ e,tg _ _ (by omega)]
  ·have aag:=h3.le
   refine⟨.ready,none,by rw[h3.eq _ (by omega),GN],(fun h=>by cases h), ?_⟩
   have q0:o' nx= .row [.osl (nx+3) l.length]:=by rw[h3.eq _ (by omega),tg _ _ (by omega),a0]
   have q3:o' (nx+3)= .arr l.length 3 1 (l.map .i):=by rw[h3.eq _ (by omega),tg _ _ (by omega),a3]
   simp only[rS]
   refine c9 (ae q0 q3) ?_
   refine hK l _ _ (nx+3) l.length h1 ?_ ad ?_ (fun j hj=> ?_) (gW q3)
   ·omega
   ·exact(h3.cW.mono ad).aw ad (zg _ _ _ ad)
   rw[af _ _ _ _ (by omega),h3.eq _ (by omega),tg _ _ (by omega)]
   unfold Ci
   exact bp
theorem Hk{l l':List Int}(h:l.Perm l'):dp l=dp l':=by
 have h1:(dp l).Perm (dp l'):=((List.mergeSort_perm _ _).trans h).trans (List.mergeSort_perm _ _).symm
 have hs:∀l:List Int,(dp l).Pairwise (fun a b=>a<=b):=fun l=>(List.pairwise_mergeSort (le:=fun a b:Int=>decide (a<=b)) (fun a b c h1 h2=>by simp at*;omega) (fun a b=>by simp;omega) l).imp fun h=>by simpa using h
 exact List.Perm.eq_of_pairwise (fun a b _ _ h1 h2=>Int.le_antisymm h1 h2) (hs l) (hs l') h1
theorem Pr{b:List (Int×Tm)}(hb:b.length<=1000){p m:Nat}(o:Nat->aa)(nx:Nat)(hg:Good o nx)(hp:o p= .row [.mp m])(hm:o m= .bZ (enc (D.int .i64) (jR b)))(K X:V->(Nat->aa)->Nat->Prop)
 (hK:∀ (o':Nat->aa) (nx' id ep:Nat),nx<=nx'->nx<=id->Good o' nx'->(∀j,j<nx->o' j=o j)->o' id= .arr ep 3 1 ((dp (b.map (·.1))).map .i)->K (.osl id ep) o' nx'):
 bJ Tryz.prog 110 [.func (.func 136) [] [.ptr p 0]] o nx K X:=by
 refine bJ.aH mix VE aF ?_
 rw[YZ]
 refine gB ?_
 refine aT ?_
 refine bJ.aH mix VM aF ?_
 rw[Y7]
 refine gB ?_
 refine aT (E7 hb _ _ (hg.mono ad) hp hm _ _ (fun l o' nx' id ep h1 h2 h3 h4 h5 h6=> ?_))
 have ay:id<nx':=h4.lt (by rw[h6];exact aa.noConfusion)
 have w1:∀k,id≠nx'+k:=fun k=>ad
 refine c9 (ae h6 w1) ?_
 have hlen:l.length<=1000:=by have:=h1.length_eq;rw[List.length_map]at this;omega
 have hs:dp l=dp (b.map (·.1)):=Hk h1
 refine bI (OB EA Ly (zs:=l) h6 LA ad ?_)
 refine gB ?_
 refine hK _ _ id ep ?_ ad ?_ (fun j hj=> ?_) (by(repeat first|rfl|rw[ab]|rw[af _ _ _ _ (by omega)]);rw[hs])
 ·omega
 ·exact(h4.mono ad).aw ad rfl
 ·rw[af _ _ _ _ (by omega),h5 j (by omega)]
theorem AM(s:b9)(hs:s.Cp)(b:List (Int×Tm))(o:Nat->aa)(nx mid:Nat)(vb:V)(hg:Good o nx)(afp:o mid=dk b)(MK:ef o vb=some (.sl (s.binds.map TB.d)))(K X:V->(Nat->aa)->Nat->Prop)
 (x9:∀o' nx' i j k,nx<=nx'->Good o' nx'->(∀j,j<nx->j∉vb.ids->j≠mid->o' j=o j)->
  o' i= .arr 0 59 4 (s.binds.map TB.d)->o' j= .arr 0 101 6 (s.aD.map Nt.d)->o' k= .arr 0 77 2 (s.marks.map uh)->
  K (.agg [.d (.sl (s.sig.cons.map fj.d)), .d (.sl (s.sig.ct.map fj.d)), .osl i 0, .osl j 0, .osl k 0]) o' nx'):
 bJ Tryz.prog 65 [.agg [.d (.sl (s.sig.cons.map fj.d)), .d (.sl (s.sig.ct.map fj.d)),vb, .d (.sl (s.aD.map Nt.d)), .d (.sl (s.marks.map uh)), .mp mid]] o nx K X:=by
 refine bJ.x7 (d:=s.kd b) ?_ ?_
 ·exact qp (ae afp MK)
 ·refine Cf s hs b _ nx (yg hg _) K X (fun o' nx' i j k m1 m2 m3 m4 m5 m6=>x9 o' nx' i j k m1 m2 (fun j j1 j2 j3=>(m3 j j1).trans (Ch _ _ _ fun y hy=> ?_)) m4 m5 m6)
  unfold bK at hy
  obtain⟨q,hq,rfl⟩:=List.mem_map.1 hy
  simp[V.ids,V.bw]at hq
  dsimp only
  rcases hq with hq|hq
  ·exact fun e=>j2 (e ▸ hq)
  ·exact fun e=>j3 (e.symm.trans hq)
theorem b9.SL {s:b9}(h:bn s){E:List TB}(hB:jG s.sig (s.binds++E)):(s.tell (ag (s.binds++E))).Cp:=by
 have hc:=h.cp
 have:=hB.len
 refine⟨hc.lc,hc.lf, ?_,hc.nl,hc.ml,fun x hx=> ?_,hc.nt⟩
 ·show(y9 _).length<=_
  rw[pG];omega
 ·have hx:x∈y9 (ag (s.binds++E)):=hx
  rw[pG]at hx
  have:=(bc (hB.ok x hx).2).2.1
  omega
theorem AO{s:b9}(h:bn s){a c:Tm}(ha:bT s.sig a=true)(hc:bT s.sig c=true){f:Nat}{b':List (Int×Tm)}(hf:jJ true f a c (ag s.binds)=some (0,b')){E:List TB}(hE:b'=ag (s.binds++E)):jG s.sig (s.binds++E):=by
 obtain⟨E',h1,h2⟩:=sO h ha hc hf
 have e:s.binds++E=s.binds++E':=by rw[<- pG (s.binds++E), <- hE,h1,pG]
 rw[e];exact h2
theorem Ps{s:b9}(h:bn s){a c:Tm}(ha:bT s.sig a=true)(hc:bT s.sig c=true){f:Nat}{e:Int}{b':List (Int×Tm)}(hf:jJ true f a c (ag s.binds)=some (e,b')){bk:Nt->Bool}(AJ:e=0->∀n∈s.aD,(bk n=true↔EV b' n)):
 e=0->∀E,b'=ag (s.binds++E)->∀n∈s.aD,a7 Tryz.prog 66 [b9.kd ⟨s.sig,s.binds++E,s.aD,s.marks⟩ b',n.d] (.ret [.bool (bk n)]):=fun h0 E hE n hn=>by
 have hB:=AO h ha hc (h0 ▸ hf) hE
 have hk:=AJ h0 n hn
 subst hE
 exact(Pq hB _ (h.aD n hn).1 (h.aD n hn).2.1 hk).1
theorem Pt(s:b9)(hs:s.Fin)(a c:Tm)(ha:a.Fin)(hc:c.Fin)(h:bn s)(va:bT s.sig a=true)(vc:bT s.sig c=true){f:Nat}{e:Int}{b':List (Int×Tm)}(hf:jJ true f a c (ag s.binds)=some (e,b'))(he:e=0\/e=5\/e=3){bk:Nt->Bool}(AJ:e=0->∀n∈s.aD,(bk n=true↔EV b' n)):
 a7 Tryz.prog 15 [s.d,a.d,c.d] (.ret [if iX e (s.aD.any bk)=0 then(s.tell b').d else pE.d, .i (iX e (s.aD.any bk))]):=by
 refine a7.aH mix ad3 aF ?_
 rw[c15]
 refine gB ?_
 refine bI (Jz s hs a c ha hc _ _ dx _ _ (fun h1 h2 h3 o' nx' id i1 i2 i3 i4=> ?_) (fun hn=>absurd ⟨h,va,vc⟩ hn))
 have e1:o' 1= .row a.row:=(i3 _ ad).trans bp
 have e2:o' 2= .row c.row:=(i3 _ ad).trans bp
 have e3:o' 3= .row [.ao, .ao, .ao, .ao, .ao]:=(i3 _ ad).trans bp
 have ay:id<nx':=Good.lt i2 HB
 refine c9 (ae e1 (ae e2 (ae e3 i4))) ?_
 have hgT:Good (aw (aw o' (nx'+3) (.row [.ao, .ao, .ao, .ao, .ao, .d .dX])) (nx'+3) (.row (s.row++[.mp id]))) (nx'+11):=by
  refine Good.aw (Good.aw (i2.mono ad) ad rfl) ad ?_
  simp[aa.refs,V.aN,V.refs]
  omega
 refine bI (aaf h va vc hf _ _ hgT (gW i4) bk (Ps h va vc hf AJ) _ _ (fun h5 o2 n2 g1 g2 g3=> ?_) (fun h0 hb o2 n2 g1 g2 g3=> ?_) (fun h0 E hE hb o2 n2 vb mid g1 g2 g3 g4 g7 g8=> ?_))
 ·have f3:o2 3= .row [.ao, .ao, .ao, .ao, .ao]:=(g3 _ ad).trans (gW e3)
  have f8:o2 (nx'+3)= .row (s.row++[.mp id]):=(g3 _ ad).trans bp
  have k3:(3:Nat)≠nx'+3:=ad
  have w1:iX e (s.aD.any bk)=e:=by unfold iX;rw[if_neg (by omega)]
  have w2:e≠0:=ad
  have w3:(e !=0)=true:=by rw[bne_iff_ne];exact w2
  rw[w1,if_neg w2]
  exact Fy (ae f3 (ae f8 (ae k3 (ae w3 @pF))))
 ·have f3:o2 3= .row [.ao, .ao, .ao, .ao, .ao]:=(g3 _ ad).trans (gW e3)
  have f8:o2 (nx'+3)= .row (s.row++[.mp id]):=(g3 _ ad).trans bp
  have k3:(3:Nat)≠nx'+3:=ad
  have w1:iX e (s.aD.any bk)=5:=by unfold iX;rw[if_pos h0,if_pos hb]
  rw[w1]
  exact Fy (ae f3 (ae f8 (ae k3 @pF)))
 ·have f3:o2 3= .row [.ao, .ao, .ao, .ao, .ao]:=(g3 _ ad).trans (gW e3)
  have f8:o2 (nx'+3)= .row (s.row++[.mp id]):=(g3 _ ad).trans bp
  have k3:(3:Nat)≠nx'+3:=ad
  have w1:iX e (s.aD.any bk)=0:=by unfold iX;rw[if_pos h0,if_neg (by rw[hb];exact Bool.false_ne_true)]
  have hB:jG s.sig (s.binds++E):=AO h va vc (h0 ▸ hf) hE
  have afp:mid<n2:=g2.lt (by rw[g8];exact aa.noConfusion)
  rw[w1,if_pos rfl]
  have SM:(s.tell b').Cp:=by rw[hE];exact b9.SL h hB
  have Qe:(s.tell b').binds=s.binds++E:=by show y9 b'=_;rw[hE,pG]
  have fin:∀ (o3:Nat->aa) (n3 i j k:Nat),n2<=n3->(∀q,q<n2->q≠nx'+3->(q<nx'+11)->o3 q=o2 q)->o3 i= .arr 0 59 4 ((s.tell b').binds.map TB.d)->o3 j= .arr 0 101 6 ((s.tell b').aD.map Nt.d)->o3 k= .arr 0 77 2 ((s.tell b').marks.map uh)->o3 3= .row [.ao, .ao, .ao, .ao, .ao]/\i≠3/\j≠3/\k≠3:=fun o3 n3 i j k q1 q2 q3 q4 q5=>by
   have e3:o3 3= .row [.ao, .ao, .ao, .ao, .ao]:=by rw[q2 3 (by omega) (by omega) (by omega),f3]
   exact⟨e3,fun e=>(by subst e;rw[q3]at e3;cases e3),fun e=>(by subst e;rw[q4]at e3;cases e3),fun e=>(by subst e;rw[q5]at e3;cases e3)⟩
  rcases g4 with rfl|⟨lb,rfl,l1,l2,l3⟩
  ·refine c9 (ae f3 (ae f8 k3)) ?_
   refine ij (AM (s.tell b') SM b' _ _ mid _ ?_ (gW g8) (by rw[Qe];rfl) _ _ (fun o3 n3 i j k m1 m2 m3 m4 m5 m6=> ?_))
   ·refine Good.aw (g2.mono ad) ad ?_
    simp[aa.refs,V.aN,V.refs]
    omega
   obtain⟨z1,z2,z3,z4⟩:=fin o3 n3 i j k ad (fun q q1 q2 q3=>by rw[m3 q (by omega) (by simp[V.ids]) (by omega)];(repeat first|rfl|rw[ab]|rw[af _ _ _ _ (by omega)])) m4 m5 m6
   exact Fy (ae z1 (ae z2 (ae z3 (ae z4 (ae m4 (ae m5 m6))))))
  ·have y1:lb≠nx'+3:=ad
   refine c9 (ae f3 (ae f8 k3)) ?_
   refine ij (AM (s.tell b') SM b' _ _ mid _ ?_ (gW g8) (by rw[Qe];simp+contextual (disch:=first|omega|simp only[go_sem,false_implies]) only[go_sem,wrap64,if_pos,l3,y1]) _ _ (fun o3 n3 i j k m1 m2 m3 m4 m5 m6=> ?_))
   ·refine Good.aw (g2.mono ad) ad ?_
    simp[aa.refs,V.aN,V.refs]
    omega
   obtain⟨z1,z2,z3,z4⟩:=fin o3 n3 i j k ad (fun q q1 q2 q3=>by rw[m3 q (by omega) (by simp[V.ids];omega) (by omega)];(repeat first|rfl|rw[ab]|rw[af _ _ _ _ (by omega)])) m4 m5 m6
   exact Fy (ae z1 (ae z2 (ae z3 (ae z4 (ae m4 (ae m5 m6))))))
section
def Hz(o:Nat->aa)(x m c:Nat)(E:List TB):Nat->aa:=aw (aw (aw o x (.row [.mp m, .osl c 0, .d (.bool false)])) m (dk (ag E))) c (.arr 0 59 4 (E.map TB.d))
section
variable {o:Nat->aa}{x m nx:Nat}{E:List TB}(lx:x<nx)(lm:m<nx)(cj:x≠m)
include lx lm cj
theorem WA:Hz o x m nx E x= .row [.mp m, .osl nx 0, .d (.bool false)]:=WX
theorem WB:Hz o x m nx E m=dk (ag E):=WX
theorem WC:Hz o x m nx E nx= .arr 0 59 4 (E.map TB.d):=WX
omit lx lm cj in
theorem o7{j:Nat}(h1:j≠x)(h2:j≠m)(h3:j≠nx):Hz o x m nx E j=o j:=by unfold Hz;(repeat first|rfl|rw[ab]|rw[af _ _ _ _ (by omega)])
theorem Pu(hg:Good o nx):Good (Hz o x m nx E) (nx+1):=by
 have _:=cj
 unfold Hz
 refine Good.aw (Good.aw (Good.aw (hg.mono ad) ad ?_) ad rfl) ad rfl
 simp[aa.refs,V.aN,V.refs]
 omega
theorem Pv(gone:Nat->Prop)(xl:V)(l:List V)(hg:Good o nx)(tT:∀id,gone id->nx<=id){e:Nat->V}{so:Nat->aa}{k:Nat}(gl:gw so gone 59 4 (E.map TB.d) xl)
 (sx:so x= .row [.mp m,xl, .d (.bool false)]) (sm:so m=dk (ag E)) (h:∀j,j<nx->j≠x->j≠m->so j=o j) (he:iL nx [⟨xl,59,4,E.map TB.d⟩] so gone e l 0):bM nx ⟨e,so,k⟩ ⟨aY l,Hz o x m nx E,nx+1⟩:=by
 refine bM.sj gone xl nx l (Nat.le_refl _) (fun j hj=> ?_) (WC lx lm cj) gl (fun j hj=> ?_) (fun j h1 h2=>absurd (tT j h1) ad) he
 ·by_cases e1:j=x
  ·subst e1
   rw[WA lx lm cj]
   exact ab4
  ·by_cases e2:j=m
   ·subst e2
    rw[WB lx lm cj]
    exact bB sm (fun r hr=>by simp[aa.refs]at hr)
   ·rw[o7 e1 e2 (by omega),h j hj e1 e2]
    exact bB rfl (fun r hr=>hg.refs j r hr)
 ·rw[o7 (by omega) (by omega) (by omega)]
  exact CN
end
theorem SN{s:az}{ps:List (Tm×Tm)}(Gy:∀p∈ps,QT s p.1/\QT s p.2)(hlen:ps.length<=1000){f:Nat}{e:Int}{b':List (Int×Tm)}(hf:lX (jJ false f) (ps.map (·.1)) (ps.map (·.2)) []=some (e,b')){lb xb x m:Nat}(o:Nat->aa)(nx:Nat)(hg:Good o nx)
 (hl:o lb= .row [.d (.sl (ps.map sK))]) (SO:o xb= .row [.ptr x 0]) (hx:o x= .row [.mp m, .ao, .d (.bool false)]) (hm:o m=dk []) (K X:V->(Nat->aa)->Nat->Prop)
 (a8:e=0->rj s b'->∀ (o':Nat->aa) (nx' l:Nat),nx<=nx'->l<nx'->Good o' nx'->o' x= .row [.mp m, .osl l 0, .d (.bool false)]->o' m=dk b'->(∀j,j<nx->j≠x->j≠m->o' j=o j)->K (.cf []) o' nx')
 (jK:e≠0->∀v o' nx',v= .d (.iface 162 (.agg []))\/v= .d (.iface 163 (.agg []))->nx<=nx'->Good o' nx'->(∀j,j<nx->j≠x->j≠m->o' j=o j)->X v o' nx'):
 bJ Tryz.prog 109 [.ptr lb 0, .ptr xb 0] o nx K X:=by
 have lx:x<nx:=hg.lt MG
 have lm:m<nx:=hg.lt HD
 have llb:lb<nx:=hg.lt (by rw[hl];exact aa.noConfusion)
 have lxb:xb<nx:=hg.lt (by rw[SO];exact aa.noConfusion)
 have cj:x≠m:=fun e=>by subst e;rw[hx]at hm;cases hm
 have d1:lb≠x:=fun e=>by subst e;rw[hx]at hl;cases hl
 have d2:lb≠m:=fun e=>by subst e;rw[hm]at hl;cases hl
 have d3:xb≠x:=fun e=>by subst e;rw[hx]at SO;cases SO
 have d4:xb≠m:=fun e=>by subst e;rw[hm]at SO;cases SO
 refine bJ.aH mix VD aF ?_
 rw[YY]
 refine dQ (ae hl (ae SO (ae hx hm))) ?_
 refine aC (fun i:Nat×List TB=>⟨aY [.ptr lb 0, .ptr xb 0, .ai, .ai, .d (.sl (ps.map sK)), .d (.i ps.length), .d (.i i.1)],Hz o x m nx i.2,nx+1⟩)
  (fun i=>i.1<=ps.length/\lX (jJ false f) ((ps.drop i.1).map (·.1)) ((ps.drop i.1).map (·.2)) (ag i.2)=some (e,b')/\rj s (ag i.2)) (fun i=>ps.length - i.1) (0,[]) ⟨Nat.zero_le _,hf,rj.nil⟩ ?_ ?_
 ·refine Pv lx lm cj (fun _=>False) .ao _ hg (fun _ h=>h.elim) (.inl ⟨rfl,rfl,bF⟩) hx hm (fun j j1 j2 j3=>rfl) ?_
  exact iV
 rintro⟨k,E⟩ ⟨hk,hL,hA⟩
 dsimp only at hk hL hA|-
 have ah0:=hA.len
 have q1:Hz o x m nx E lb= .row [.d (.sl (ps.map sK))]:=by rw[o7 d1 d2 (by omega),hl]
 have q2:Hz o x m nx E xb= .row [.ptr x 0]:=by rw[o7 d3 d4 (by omega),SO]
 have q3:=WA (o:=o) (E:=E) lx lm cj
 have q4:=WB (o:=o) (E:=E) lx lm cj
 have q5:=WC (o:=o) (E:=E) lx lm cj
 have hgU:=Pu (o:=o) (E:=E) lx lm cj hg
 refine LR ?_
 refine ak (fun h6=> ?_) (fun h6=> ?_)
 ·replace h6:k<ps.length:=by simp at h6;omega
  obtain⟨⟨a,c⟩,hp⟩:=aA h6
  obtain⟨ha,hc⟩:=Gy _ (List.mem_of_getElem? hp)
  have ES:ps.drop k=(a,c)::ps.drop (k+1):=by
   obtain⟨i1,i2⟩:=List.getElem?_eq_some_iff.1 hp
   exact FB
  rw[ES]at hL
  simp only[List.map_cons,lX]at hL
  cases hq:jJ false f a c (ag E)with
  |none=>rw[hq]at hL;cases hL
  |some q=>
  obtain⟨e1,b1⟩:=q
  rw[hq]at hL
  dsimp only at hL
  refine dQ (ae hp (ae q1 (ae q2 (ae q3 (ae q4 q5))))) ?_
  have tg:Good (aw (aw (Hz o x m nx E) (nx+4) (.row [.d (.i 0), .d (.i 0), .ao, .d (.i 0), .d (.i 0), .ao])) (nx+4) (.row [.d (.i a.op), .d (.i a.n), .d (.sl (a.kids.map Tm.d)), .d (.i c.op), .d (.i c.n), .d (.sl (c.kids.map Tm.d))])) (nx+11):=
   Good.aw (Good.aw (hgU.mono ad) ad rfl) ad rfl
  refine aT (x8 hA ha hc (L:=E) ad hq (x:=x) (m:=m) (xl:= .osl nx 0) _ (aw (aw (aw (Hz o x m nx E) (nx+4) (.row [.d (.i 0), .d (.i 0), .ao, .d (.i 0), .d (.i 0), .ao])) (nx+4) (.row [.d (.i a.op), .d (.i a.n), .d (.sl (a.kids.map Tm.d)), .d (.i c.op), .d (.i c.n), .d (.sl (c.kids.map Tm.d))])) nx .no) _ (fun j=>j=nx) tg (tg.aw ad rfl) (gW q3) (gW q4) (.inr ⟨nx,0,rfl,rfl,gW q5⟩) (fun j e=>by subst e;exact⟨ad,ad,ad,ab _ _ _⟩) (fun j hj=> ?_) _ _ (fun h0 E' hE o' nx' h1 h2 h3 h4=> ?_) (fun h5 o' nx' h1 h2 h4=> ?_) (fun h3 o' nx' h1 h2 h4=> ?_))
  ·by_cases e:j=nx
   ·subst e;exact .inl (ab _ _ _)
   ·exact .inr (af _ _ _ _ e).symm
  ·have hA':=(x6 f a c _ b1 (h0 ▸ hq) hA ha hc).1
   have SI:b1=ag (E++E'):=by rw[hE,ew]
   rw[if_pos h0,SI]at hL
   rw[SI]at hA'
   refine gB ?_
   refine aj (k+1,E++E') ⟨h6,hL,hA'⟩ iT (Pv lx lm cj (fun j=>j=nx+18) (.osl (nx+18) 0) _ hg (fun j e=>ad) (.inr ⟨nx+18,0,rfl,rfl,h3.Vr⟩) h3.row (by rw[<- SI];exact h3.map) (fun j j1 j2 j3=> ?_) ?_)
   ·rw[h4 j (by omega) j2 j3]
    (repeat first|rfl|rw[ab]|rw[af _ _ _ _ (by omega)])
    exact o7 j2 j3 ad
   ·exact iV
  ·rw[if_neg (by omega)]at hL
   injection hL with hL
   injection hL with hL1 hL2
   refine gB ?_
   refine jK ad _ _ _ (.inl rfl) ad h2 (fun j j1 j2 j3=> ?_)
   rw[h4 j (by omega) j2 j3]
   (repeat first|rfl|rw[ab]|rw[af _ _ _ _ (by omega)])
   exact o7 j2 j3 ad
  ·rw[if_neg (by omega)]at hL
   injection hL with hL
   injection hL with hL1 hL2
   refine gB ?_
   refine jK ad _ _ _ (.inr rfl) ad h2 (fun j j1 j2 j3=> ?_)
   rw[h4 j (by omega) j2 j3]
   (repeat first|rfl|rw[ab]|rw[af _ _ _ _ (by omega)])
   exact o7 j2 j3 ad
 ·replace h6:k=ps.length:=by simp at h6;omega
  subst h6
  rw[List.drop_length]at hL
  simp only[List.map_nil,lX]at hL
  injection hL with hL
  injection hL with hL1 hL2
  subst hL2
  refine gB ?_
  refine a8 hL1.symm hA _ _ nx ?_ ?_ ?_ q3 q4 (fun j j1 j2 j3=>o7 j2 j3 ad)
  ·omega
  ·omega
  ·exact hgU.mono ad
theorem Pw{s:az}{b:List (Int×Tm)}{l:List TB}{ρ:Int->Nat}{R:Nat}(h:kp s b l ρ R)(hl:dK s l):dp (b.map (·.1))=l.map (·.var):=by
 have hp:(dp (b.map (·.1))).Perm (b.map (·.1)):=List.mergeSort_perm _ _
 have hs:(dp (b.map (·.1))).Pairwise (fun a b=>decide (a<=b)=true):=List.pairwise_mergeSort (fun a b c h1 h2=>by simp at*;omega) (fun a b=>by simp;omega) _
 have yR:(dp (b.map (·.1))).Nodup:=hp.nodup_iff.2 h.keys
 refine OA ((hs.and yR).imp fun {a b} h=>by have:=h.1;have:=h.2;simp at*;omega) (List.pairwise_map.2 hl.ZW) fun v=> ?_
 have e:=h.vX v
 rw[kW,kW]at e
 have e2:(ag l).map (·.1)=l.map (·.var):=by unfold ag;rw[List.map_map];rfl
 rw[e2]at e
 rw[hp.mem_iff]
 exact Decidable.not_iff_not.1 e
theorem yh{s:az}{l:List TB}(hl:dK s l):((ag l).map (·.1)).Nodup:=by
 have e2:(ag l).map (·.1)=l.map (·.var):=by unfold ag;rw[List.map_map];rfl
 rw[e2]
 exact(List.pairwise_map.2 hl.ZW).imp fun h=>ad
theorem Px{s:az}{b:List (Int×Tm)}{l:List TB}{ρ:Int->Nat}{R:Nat}(h:kp s b l ρ R)(hl:dK s l){k:Nat}{y:TB}(hy:l[k]? =some y):∃x f,bR b y.var=some x/\v8 f b x=some y.term/\Vs s x:=by
 have hm:=List.mem_of_getElem? hy
 have h1:bR (ag l) y.var=some y.term:=(fN (yh hl)).2 (fe hm)
 cases hx:bR b y.var with
 |none=>rw[(h.vX _).1 hx]at h1;cases h1
 |some x=>
  obtain⟨q1,q2,_⟩:=h.ok _ _ hx
  have e:y.term=aO (ag l) x:=by rw[<- q2];simp[Lv,h1]
  exact⟨x,_,rfl,by rw[e];exact nP h _ x q1 (Nat.le_refl _),q1⟩
theorem Tm.SP:∀t:Tm,t.eP->t.wid:=by
 refine Tm.eM fun t ih h=> ?_
 have h':=(Tm.iS t).1 h
 rw[Tm.Ca]
 exact⟨ad,fun k hk=>ih k hk (h'.2 k hk)⟩
def Qs(l c:Nat)(b:List (Int×Tm))(L:List TB):Nat->aa:=aw (aw (aw (aw (fun _=> .no) 3 (.bZ (enc (D.int .i64) (jR b)))) 5 (.row [.mp 3, .osl l 0, .d (.bool false)])) 6 (.row [.ptr 5 0])) c (.arr 0 59 4 (L.map TB.d))
theorem Py{l c:Nat}{b:List (Int×Tm)}{L:List TB}(hc:6<c):Qs l c b L 3= .bZ (enc (D.int .i64) (jR b))/\Qs l c b L 5= .row [.mp 3, .osl l 0, .d (.bool false)]/\Qs l c b L 6= .row [.ptr 5 0]/\Qs l c b L c= .arr 0 59 4 (L.map TB.d):=by
 unfold Qs
 exact⟨bp,bp,bp,bp⟩
theorem Pz(gone:Nat->Prop)(x:V)(env:List V){l c:Nat}{b:List (Int×Tm)}{L:List TB}(hc:6<c)(hl:l<c)(tT:∀id,gone id->c<=id){e:Nat->V}{so:Nat->aa}{m:Nat}(gx:gw so gone 59 4 (L.map TB.d) x)
 (s3:so 3= .bZ (enc (D.int .i64) (jR b))) (s5:so 5= .row [.mp 3, .osl l 0, .d (.bool false)]) (s6:so 6= .row [.ptr 5 0]) (he:iL c [⟨x,59,4,L.map TB.d⟩] so gone e env 0):bM 0 ⟨e,so,m⟩ ⟨aY env,Qs l c b L,c+1⟩:=by
 obtain⟨g3,g5,g6,gc⟩:=Py (l:=l) (b:=b) (L:=L) hc
 refine bM.sj gone x c env ad (fun j hj=> ?_) gc gx (fun j hj=> ?_) (fun j h1 h2=>absurd (tT j h1) ad) he
 ·by_cases e3:j=3
  ·subst e3;rw[s3,g3];exact bB rfl (fun r hr=>by simp[aa.refs]at hr)
  by_cases e5:j=5
  ·subst e5;rw[s5,g5];exact bB rfl (fun r hr=>by simp[aa.refs,V.aN,V.refs]at hr;omega)
  by_cases e6:j=6
  ·subst e6;rw[s6,g6];exact bB rfl (fun r hr=>by simp[aa.refs,V.aN,V.refs]at hr;omega)
  have:Qs l c b L j= .no:=by unfold Qs;(repeat first|rfl|rw[ab]|rw[af _ _ _ _ (by omega)])
  rw[this];exact lM
 ·unfold Qs
  exact bp
theorem uv{s:az}{ps:List (Tm×Tm)}(Gy:∀p∈ps,QT s p.1/\QT s p.2)(hlen:ps.length<=1000){f:Nat}{e:Int}{b':List (Int×Tm)}(hf:lX (jJ false f) (ps.map (·.1)) (ps.map (·.2)) []=some (e,b')){l':List TB}{ρ:Int->Nat}{R:Nat}(hS:e=0->kp s b' l' ρ R/\dK s l'/\∀x∈l',x.term.eP):
 a7 Tryz.prog 67 [.sl (ps.map sK)] (.ret [.sl (if e=0 then l'.map TB.d else []), .bool (e==0)]):=by
 refine a7.aH mix aed aF ?_
 rw[c67]
 refine gB ?_
 refine aT (AL _ _ _ _ ?_ _ _ (SN Gy hlen hf (lb:=0) (xb:=6) (x:=5) (m:=3) _ _ ?_ bp bp bp bp _ _ (fun h0 hA o1 n1 l g1 g2 g3 g4 g5 g6=>⟨ad,g3, ?_,fun o2 n2 k1 k2 k3=> ?_⟩) (fun fS v o1 n1 hv g1 g3 g6=> ?_)))
 ·exact dx
 ·exact dx
 ·rw[g6 _ (by omega) (by omega) (by omega)];(repeat first|rfl|rw[ab]|rw[af _ _ _ _ (by omega)])
 ·have f5:o2 5= .row [.mp 3, .osl l 0, .d (.bool false)]:=by rw[k3 _ (by omega) (by omega)];exact g4
  have f3:o2 3=dk b':=by rw[k3 _ (by omega) (by omega)];exact g5
  have f6:o2 6= .row [.ptr 5 0]:=by rw[k3 _ (by omega) (by omega),g6 _ (by omega) (by omega) (by omega)];(repeat first|rfl|rw[ab]|rw[af _ _ _ _ (by omega)])
  obtain⟨afq,afr,hfw⟩:=hS h0
  have aip:b'.length<=20:=by
   have:=EL hA.keys fun v hv=>by
    obtain⟨p,hp,rfl⟩:=List.mem_map.1 hv
    exact(hA.ok p hp).1
   rwa [List.length_map]at this
  have WD:=Pw afq afr
  have ah1:l'.length<=20:=by
   have e1:=congrArg List.length WD
   unfold dp at e1
   rw[List.length_mergeSort,List.length_map,List.length_map]at e1
   omega
  refine c9 (ae f5 (ae f3 f6)) ?_
  refine bI (bJ.GV (id:=3) f3 ad (SJ 3 _ _ _ _ ?_))
  refine gB ?_
  refine aT (bJ.seal (Pr (b:=b') ad (p:=n2+8) (m:=3) _ _ ?_ bp bp _ _ (fun o3 n3 id ep m1 m2 m3 m4 m5=>⟨.sl ((l'.map (·.var)).map .i), ?_, ?_⟩)))
  ·refine Good.aw (Good.aw (k2.mono ad) ad rfl) ad ?_
   exact ve
  ·rw[WD]at m5
   exact qp m5
  have F:∀j,j<n2+8->put o3 (bK o3 [id]) j=aw (aw o2 3 (.bZ (enc (D.int .i64) (jR b')))) (n2+8) (.row [.mp 3]) j:=fun j hj=>by
   rw[Ch _ _ _ (fun y hy=> ?_),m4 j (by omega)]
   simp[bK]at hy
   subst hy
   dsimp only
   omega
  have F5:put o3 (bK o3 [id]) 5= .row [.mp 3, .osl l 0, .d (.bool false)]:=by rw[F 5 (by omega)];(repeat first|rfl|rw[ab]|rw[af _ _ _ _ (by omega)]);exact f5
  have F3:put o3 (bK o3 [id]) 3= .bZ (enc (D.int .i64) (jR b')):=by rw[F 3 (by omega)];(repeat first|rfl|rw[ab]|rw[af _ _ _ _ (by omega)])
  have F6:put o3 (bK o3 [id]) 6= .row [.ptr 5 0]:=by rw[F 6 (by omega)];(repeat first|rfl|rw[ab]|rw[af _ _ _ _ (by omega)]);exact f6
  have hGO:=yg m3 [id]
  have aag:l<n3:=ad
  clear F
  simp only[V.ids]
  generalize put o3 (bK o3 [id])=O at F5 F3 F6 hGO|-
  refine dQ (ae F5 (ae F3 F6)) ?_
  refine aC (fun k:Nat=>⟨aY (.ai:: .ai:: .ai:: .ai:: .ptr 6 0:: .ai:: .osl n3 0::dy [.ai, .ai, .ai, .ai, .ai, .ai, .d (.sl ((l'.map (·.var)).map .i)), .d (.i l'.length), .d (.i k)]),Qs l n3 b' (l'.take k),n3+1⟩)
   (fun k=>k<=l'.length) (fun k=>l'.length - k) 0 (Nat.zero_le _) (Pz (fun _=>False) .ao _ ad aag (fun _ h=>h.elim) (.inl ⟨rfl,rfl,bF⟩) F3 F5 F6 ?_) (fun k hk=> ?_)
  ·exact iV
  replace hk:k<=l'.length:=hk
  obtain⟨g3,g5,g6',gc⟩:=Py (l:=l) (c:=n3) (b:=b') (L:=l'.take k) ad
  refine dQ (ae g3 (ae g5 (ae g6' gc))) ?_
  refine ak (fun h6=> ?_) (fun h6=> ?_)
  ·replace h6:k<l'.length:=by simp at h6;omega
   obtain⟨y,hy⟩:=aA h6
   obtain⟨x,fx,x1,x2,x3⟩:=Px afq afr hy
   have qW:l'.take (k+1)=l'.take k++[y]:=by rw[List.take_add_one,hy];rfl
   have e0:(l'.take k).length=k:=by rw[List.length_take];omega
   have dR:k<=140737488355327/\(k+1)*48<=140737488355328:=ad
   obtain⟨jx,hjx⟩:=gI x1
   refine dQ (ae g3 (ae g5 (ae g6' (ae gc (ae hy hjx))))) ?_
   refine aZ (G3 (fun p hp=>(hA.ok p hp).2.fits) fx x y.term (hA.ok _ (cm x1)).2.fits x2 (Tm.SP _ (hfw y (List.mem_of_getElem? hy)))) ?_
   refine dQ (ae g3 (ae g5 (ae g6' (ae gc (ae e0 dR))))) ?_
   refine aL (bE (ids:=[6,5,3,n3,n3+19]) (nx:=n3+22) (by simp<;>omega) (by simp<;>omega) [([],[]),([],[]),([0],[]),([1],[]),([1],[]),([1],[]),([0],[]),([1],[]),([1],[]),([1],[]),([],[]),([2],[]),([2],[2]),([],[]),([],[4]),([3,4],[3]),([],[])] bF) ?_
   refine gB ?_
   refine aj (k+1) h6 ad (Pz (fun j=>n3<=j) (.osl n3 1) _ ad aag (fun _ h=>h) (.inr ⟨n3,1,Nat.le_refl _,rfl,by(repeat first|rfl|rw[ab]|rw[af _ _ _ _ (by omega)]);rw[qW,List.map_append];rfl⟩) bp (gW g5) (gW g6') ?_)
   exact iV
  ·replace h6:k=l'.length:=by simp at h6;omega
   subst h6
   rw[List.take_length]at g3 g5 g6' gc|-
   rw[if_pos h0]
   subst h0
   exact Fy (ae g3 (ae g5 (ae g6' gc)))
 ·have ee:(e==0)=false:=by rw[beq_eq_false_iff_ne];exact fS
  rw[if_neg fS,ee]
  rcases hv with rfl|rfl
  ·refine .inl ⟨rfl,ad,g3,by rw[g6 _ (by omega) (by omega) (by omega)];(repeat first|rfl|rw[ab]|rw[af _ _ _ _ (by omega)]),fun o2 n2 k1 k2 k3=> ?_⟩
   exact WU
  ·refine .inr ⟨rfl,ad,g3,by rw[g6 _ (by omega) (by omega) (by omega)];(repeat first|rfl|rw[ab]|rw[af _ _ _ _ (by omega)]),fun o2 n2 k1 k2 k3=> ?_⟩
   exact WU
end
theorem sP(v:Int):(Tm.mk 1 v []).eP:=by rw[Tm.iS];simp[Tm.kids]
theorem lR{l:List TB}(h:∀x∈l,x.term.eP):∀p∈ag l,p.2.eP:=fun p hp=>by
 obtain⟨x,hx,rfl⟩:=List.mem_map.1 hp
 exact h x hx
theorem yi{l:List TB}{n:Int}{t:Tm}(hl:∀x∈l,x.term.eP)(ht:t.eP):∀x∈iP l n t,x.term.eP:=fun x hx=>by
 rcases vY.1 hx with rfl|hx
 ·exact ht
 ·obtain⟨y,hy,rfl⟩:=List.mem_map.1 hx
  exact Tm.nI (fun p hp=>by simp[vB]at hp;subst hp;exact ht) _ (hl y hy)
theorem we:∀ (f:Nat) (a c:Tm) (l:List TB) (r:List TB×Bool),da f a c l=some r->a.eP->c.eP->(∀x∈l,x.term.eP)->∀x∈r.1,x.term.eP
 |0,_,_,_,_,h,_,_,_=>by cases h
 |f+1,a,c,l,r,h,ha,hc,hl=>by
  have fa:=Tm.nI (lR hl) a ha
  have fc:=Tm.nI (lR hl) c hc
  simp only[da]at h
  generalize aO (ag l) a=a0 at*
  generalize aO (ag l) c=c0 at*
  split at h
  ·injection h with h;subst h;exact hl
  ·split at h
   ·injection h with h;subst h;exact yi hl (sP _)
   ·split at h
    ·injection h with h;subst h;exact yi hl fc
    ·split at h
     ·injection h with h;subst h;exact yi hl fa
     ·split at h
      ·injection h with h;subst h;intro x hx;cases hx
      ·have key:∀ (ks cK:List Tm) (l:List TB),(∀k∈ks,k.eP)->(∀k∈cK,k.eP)->(∀x∈l,x.term.eP)->bH (da f) ks cK l=some r->∀x∈r.1,x.term.eP:=by
        intro ks
        induction ks with
        |nil=>intro cK l _ _ hl h;simp only[bH]at h;injection h with h;subst h;exact hl
        |cons k ks vC=>
         intro cK l m1 m2 hl h
         cases cK with
         |nil=>simp only[bH]at h;injection h with h;subst h;exact hl
         |cons k' cK=>
          simp only[bH]at h
          cases e:da f k k' l with
          |none=>rw[e]at h;cases h
          |some r1=>
           have h1:=we f k k' l r1 e (m1 k aF) (m2 k' aF) hl
           obtain⟨l1,ok⟩:=r1
           rw[e]at h
           cases ok with
           |false=>simp only at h;injection h with h;subst h;exact h1
           |true=>exact vC cK l1 (fun y hy=>m1 y jX) (fun y hy=>m2 y jX) h1 h
       exact key _ _ l ((Tm.iS _).1 fa).2 ((Tm.iS _).1 fc).2 hl h
end Go.Proofs.YtlhemmpklhhgoaaGreat
