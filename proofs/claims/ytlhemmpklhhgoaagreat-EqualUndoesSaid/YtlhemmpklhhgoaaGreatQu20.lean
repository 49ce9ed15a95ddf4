/-
  A PART OF THE PROOF. Conditions: none.
-/
import Derived.Test.YtlhemmpklhhgoaaGreatQu19
set_option linter.unusedSimpArgs false
set_option linter.unusedVariables false
set_option maxHeartbeats 4000000
namespace Go.Proofs.YtlhemmpklhhgoaaGreat
structure bW.Cp (s:bW):Prop where
 lc:s.sig.cons.length<=1000000
 lf:s.sig.bV.length<=1000000
 bl:s.binds.length<=1000
 nl:s.aJ.length<=1000
 ml:s.marks.length<=1000
 bt:∀x∈s.binds,x.term.sz<=1000000
 nt:∀n∈s.aJ,n.a.sz<=1000000/\n.b.sz<=1000000
def yR(o:Nat->ad)(nx:Nat)(s:bW)(b:List (Int×Tm))(x:V)(y:V)(l:List D):Nat->ad:=
 ay (ay (ay (ay (ay o nx (.row [.d (.sl (s.sig.cons.map ec.d)), .d (.sl (s.sig.bV.map ec.d)), .d (.sl (s.binds.map TB.d)), .d (.sl (s.aJ.map Nt.d)), .d (.sl (s.marks.map ra)), .d (DD b)])) (nx+1) (.row [.aq, .aq, .aq, .aq, .aq])) (nx+16) (.arr 0 77 2 (s.marks.map ra)))
  (nx+18) (.row [.d (.sl (s.sig.cons.map ec.d)), .d (.sl (s.sig.bV.map ec.d)),x,y, .osl (nx+16) 0])) (nx+20) (.arr 0 59 4 l)
theorem DM(o:Nat->ad)(nx:Nat)(s:bW)(b:List (Int×Tm))(x y:V)(l:List D):yR o nx s b x y l nx= .row [.d (.sl (s.sig.cons.map ec.d)), .d (.sl (s.sig.bV.map ec.d)), .d (.sl (s.binds.map TB.d)), .d (.sl (s.aJ.map Nt.d)), .d (.sl (s.marks.map ra)), .d (DD b)]:=Ht
theorem stA_1(o:Nat->ad)(nx:Nat)(s:bW)(b:List (Int×Tm))(x y:V)(l:List D):yR o nx s b x y l (nx+1)= .row [.aq, .aq, .aq, .aq, .aq]:=Ht
theorem stA_16(o:Nat->ad)(nx:Nat)(s:bW)(b:List (Int×Tm))(x y:V)(l:List D):yR o nx s b x y l (nx+16)= .arr 0 77 2 (s.marks.map ra):=Ht
theorem stA_18(o:Nat->ad)(nx:Nat)(s:bW)(b:List (Int×Tm))(x y:V)(l:List D):yR o nx s b x y l (nx+18)= .row [.d (.sl (s.sig.cons.map ec.d)), .d (.sl (s.sig.bV.map ec.d)),x,y, .osl (nx+16) 0]:=Ht
theorem stA_20(o:Nat->ad)(nx:Nat)(s:bW)(b:List (Int×Tm))(x y:V)(l:List D):yR o nx s b x y l (nx+20)= .arr 0 59 4 l:=Ht
theorem wA(o:Nat->ad)(nx:Nat)(s:bW)(b:List (Int×Tm))(x y:V)(l:List D){j:Nat}(h0:j≠nx)(h1:j≠nx+1)(h2:j≠nx+16)(h3:j≠nx+18)(h4:j≠nx+20):yR o nx s b x y l j=o j:=Ht
theorem MA(o:Nat->ad)(nx:Nat)(s:bW)(b:List (Int×Tm))(x y x' y':V)(l l':List D){j:Nat}(h1:j<nx+20)(h2:j≠nx+18):yR o nx s b x y l j=yR o nx s b x' y' l' j:=by
 have e:∀x y l,yR o nx s b x y l j=ay (ay (ay o nx (.row [.d (.sl (s.sig.cons.map ec.d)), .d (.sl (s.sig.bV.map ec.d)), .d (.sl (s.binds.map TB.d)), .d (.sl (s.aJ.map Nt.d)), .d (.sl (s.marks.map ra)), .d (DD b)])) (nx+1) (.row [.aq, .aq, .aq, .aq, .aq])) (nx+16) (.arr 0 77 2 (s.marks.map ra)) j:=fun x y l=>by
  unfold yR
  rw[ae _ _ _ _ (show j≠nx+20 by omega),ae _ _ _ _ h2]
 rw[e,e]
theorem MB{o:Nat->ad}{nx:Nat}(hg:Good o nx)(s:bW)(b:List (Int×Tm))(i:Nat)(y:V)(hy:y.refs=[])(l:List D):Good (yR o nx s b (.osl (nx+20) i) y l) (nx+21):=by
 unfold yR
 refine Good.ay (Good.ay (Good.ay (Good.ay (Good.ay (hg.mono af) af rfl) af rfl) af rfl) af ?_) af rfl
 simp[ad.refs,V.aK,V.refs,hy]
theorem Hb(gone:Nat->Prop)(x:V)(L:List V){o:Nat->ad}{nx:Nat}(hg:Good o nx){s:bW}{b:List (Int×Tm)}{l:List D}(si:∀id,gone id->nx+20<=id){e:Nat->V}{so:Nat->ad}{m:Nat}(gx:fE so gone 59 4 l x)
 (s18:so (nx+18)= .row [.d (.sl (s.sig.cons.map ec.d)), .d (.sl (s.sig.bV.map ec.d)),x, .aq, .osl (nx+16) 0]) (h:∀j,j<nx+20->j≠nx+18->so j=yR o nx s b (.osl (nx+20) 0) .aq l j) (he:iL (nx+20) [⟨x,59,4,l⟩] so gone e L 0):
 bI nx ⟨e,so,m⟩ ⟨aY L,yR o nx s b (.osl (nx+20) 0) .aq l,nx+21⟩:=by
 refine bI.w7 gone x (nx+20) L af (fun j hj=> ?_) (stA_20 _ _ _ _ _ _ _) gx (fun j hj=> ?_) (fun j h1 h2=>absurd (si j h1) af) he
 ·by_cases e1:j=nx+18
  ·subst e1
   rw[stA_18]
   exact mM s18 (o8 (o8 (uu 0 rfl rfl rfl (ur rD (ur rD mN)))))
  ·refine bX (h j hj e1) (fun r hr=> ?_)
   by_cases e2:j=nx
   ·exact Qp
   ·by_cases e3:j=nx+1
    ·subst e3;rw[stA_1]at hr;simp[ad.refs,V.aK,V.refs]at hr
    ·by_cases e4:j=nx+16
     ·subst e4;rw[stA_16]at hr;simp[ad.refs]at hr
     ·rw[wA _ _ _ _ _ _ _ e2 e3 e4 e1 (by omega)]at hr
      have:=hg.refs j r hr
      omega
 ·rw[wA _ _ _ _ _ _ _ (by omega) (by omega) (by omega) (by omega) (by omega)]
  exact Bb
def DE(o:Nat->ad)(nx:Nat)(s:bW)(b:List (Int×Tm))(l:List D):Nat->ad:=ay (yR o nx s b (.osl (nx+20) 0) (.osl (nx+21) 0) (s.binds.map TB.d)) (nx+21) (.arr 0 101 6 l)
theorem Hc(gone:Nat->Prop)(x:V)(L:List V){o:Nat->ad}{nx:Nat}(hg:Good o nx){s:bW}{b:List (Int×Tm)}{l:List D}(si:∀id,gone id->nx+21<=id){e:Nat->V}{so:Nat->ad}{m:Nat}(gx:fE so gone 101 6 l x)
 (s18:so (nx+18)= .row [.d (.sl (s.sig.cons.map ec.d)), .d (.sl (s.sig.bV.map ec.d)), .osl (nx+20) 0,x, .osl (nx+16) 0]) (h:∀j,j<nx+21->j≠nx+18->so j=DE o nx s b l j) (he:iL (nx+21) [⟨x,101,6,l⟩] so gone e L 0):
 bI nx ⟨e,so,m⟩ ⟨aY L,DE o nx s b l,nx+22⟩:=by
 refine bI.w7 gone x (nx+21) L af (fun j hj=> ?_) (ab _ _ _) gx (fun j hj=> ?_) (fun j h1 h2=>absurd (si j h1) af) he
 ·by_cases e1:j=nx+18
  ·subst e1
   rw[DE,ae _ _ _ _ (by omega),stA_18]
   exact mM s18 (o8 (o8 (ur rD (uu 0 rfl rfl rfl (ur rD mN)))))
  ·refine bX (h j hj e1) (fun r hr=> ?_)
   rw[DE,ae _ _ _ _ (by omega)]at hr
   by_cases e2:j=nx
   ·exact Qp
   ·by_cases e3:j=nx+1
    ·subst e3;rw[stA_1]at hr;simp[ad.refs,V.aK,V.refs]at hr
    ·by_cases e4:j=nx+16
     ·subst e4;rw[stA_16]at hr;simp[ad.refs]at hr
     ·by_cases e5:j=nx+20
      ·subst e5;rw[stA_20]at hr;simp[ad.refs]at hr
      ·rw[wA _ _ _ _ _ _ _ e2 e3 e4 e1 e5]at hr
       have:=hg.refs j r hr
       omega
 ·rw[DE,ae _ _ _ _ (by omega),wA _ _ _ _ _ _ _ (by omega) (by omega) (by omega) (by omega) (by omega)]
  exact Bb
theorem AJ(s:bW)(hs:s.Cp)(b:List (Int×Tm))(o:Nat->ad)(nx:Nat)(hg:Good o nx)(K X:V->(Nat->ad)->Nat->Prop)
 (wq:∀o' nx' i j k,nx<=nx'->Good o' nx'->(∀j,j<nx->o' j=o j)->
  o' i= .arr 0 59 4 (s.binds.map TB.d)->o' j= .arr 0 101 6 (s.aJ.map Nt.d)->o' k= .arr 0 77 2 (s.marks.map ra)->
  K (.agg [.d (.sl (s.sig.cons.map ec.d)), .d (.sl (s.sig.bV.map ec.d)), .osl i 0, .osl j 0, .osl k 0]) o' nx'):
 bQ Tryz.prog 65 [.d (s.kd b)] o nx K X:=by
 refine bQ.aH mix abh aE ?_
 rw[c65]
 refine fM ?_
 refine cy (Dk s.sig.cons hs.lc) ?_
 refine fM ?_
 refine cy (Dk s.sig.bV hs.lf) ?_
 refine fM ?_
 refine Iu rfl (Fe s.marks (by have:=hs.ml;omega) _ _) ?_
 refine fM ?_
 refine aO (bz (ids:=[nx,nx+16,nx+18]) (nx:=nx+20) aE aE [([0],[]),([0],[]),([0],[]),([0],[]),([],[]),([0],[]),([0],[]),([0],[]),([0],[]),([],[]),([],[]),([0],[]),([0],[]),([0],[]),([],[1]),([],[]),([],[2]),([2,1],[2])] bu) ?_
 refine fM ?_
 refine aG (fun i:Nat=>⟨aY [.aa, .ptr nx 0, .ptr (nx+1) 0, .ptr (nx+18) 0, .aa, .aa, .aa, .aa, .aa, .aa, .aa, .aa, .aa, .aa, .aa, .aa, .aa, .aa, .aa, .aa, .aa, .aa, .aa, .aa, .aa, .aa, .d (.sl (s.binds.map TB.d)), .d (.i s.binds.length), .d (.i i)],yR o nx s b (.osl (nx+20) 0) .aq ((s.binds.take i).map TB.d),nx+21⟩)
  (fun i=>i<=s.binds.length) (fun i=>s.binds.length - i) 0 (Nat.zero_le _) (Hb (fun _=>False) .aq _ hg (fun _ h=>h.elim) (.inl ⟨rfl,rfl,bu⟩) cA (fun j h1 h2=>by unfold yR;rw[ae _ _ _ _ (show j≠nx+20 by omega),ae _ _ _ _ h2,ae _ _ _ _ h2,ae _ _ _ _ h2]) ?_) (fun k hk=> ?_)
 ·exact rn
 replace hk:k<=s.binds.length:=hk
 have f0:=DM o nx s b (.osl (nx+20) 0) .aq ((s.binds.take k).map TB.d)
 have f1:=stA_1 o nx s b (.osl (nx+20) 0) .aq ((s.binds.take k).map TB.d)
 have f16:=stA_16 o nx s b (.osl (nx+20) 0) .aq ((s.binds.take k).map TB.d)
 have f18:=stA_18 o nx s b (.osl (nx+20) 0) .aq ((s.binds.take k).map TB.d)
 have f20:=stA_20 o nx s b (.osl (nx+20) 0) .aq ((s.binds.take k).map TB.d)
 refine Hn f0 f1 f16 f18 f20 ?_
 refine ao (fun h2=> ?_) (fun h2=> ?_)
 ·replace h2:k<s.binds.length:=by simp at h2;omega
  obtain⟨z,hz⟩:=aD h2
  refine Yp f0 f1 f16 f18 f20 hz ?_
  refine cy (wz z.term (hs.bt z (List.mem_of_getElem? hz))) ?_
  have e0:(s.binds.take k).length=k:=by rw[List.length_take];omega
  have fh:k<=140737488355327/\(k+1)*48<=140737488355328:=by have:=hs.bl;omega
  simp+contextual (disch:=first|omega|simp only[go_sem,false_implies]) only[go_sem,wrap64,if_pos,f0,f1,f16,f18,f20,hz,List.length_map,e0,if_pos fh,Nat.add_assoc,Nat.left_eq_add,Nat.add_eq_left,Nat.add_left_cancel_iff]
  refine aO (bz (ids:=[nx+18,nx+24,nx+34,nx+20]) (nx:=nx+38) aE aE [([0],[]),([0],[]),([1],[]),([1],[]),([1],[]),([1],[]),([],[]),([],[]),([],[2]),([3,2],[3]),([0],[]),([0,3],[0])] bu) ?_
  refine fM ?_
  have uh:s.binds.take (k+1)=s.binds.take k++[z]:=by rw[List.take_add_one,hz];rfl
  refine aj (k+1) h2 af (Hb (fun j=>nx+20<=j) (.osl (nx+20) 1) _ hg (fun _ h=>h) (.inr ⟨nx+20,1,Nat.le_refl _,rfl,by(repeat(first|rfl|rw[ab]|rw[ae _ _ _ _ (by omega)]));rw[uh,List.map_append];rfl⟩) cA (fun j h1 h2=>by(repeat(first|rfl|rw[ab]|rw[ae _ _ _ _ (by omega)]));exact MA _ _ _ _ _ _ _ _ _ _ h1 h2) ?_)
  exact rn
 ·replace h2:k=s.binds.length:=by simp at h2;omega
  subst h2
  refine Hn f0 f1 f16 f18 f20 ?_
  rw[List.take_length]
  refine aG (fun i:Nat=>⟨aY [.aa, .ptr nx 0, .ptr (nx+1) 0, .ptr (nx+18) 0, .aa, .aa, .aa, .aa, .aa, .aa, .aa, .aa, .aa, .aa, .aa, .aa, .aa, .aa, .aa, .aa, .aa, .aa, .aa, .aa, .aa, .aa, .aa, .aa, .aa, .aa, .aa, .aa, .aa, .aa, .aa, .aa, .aa, .aa, .aa, .aa, .aa, .aa, .aa, .aa, .aa, .aa, .d (.sl (s.aJ.map Nt.d)), .d (.i s.aJ.length), .d (.i i)],DE o nx s b ((s.aJ.take i).map Nt.d),nx+22⟩)
   (fun i=>i<=s.aJ.length) (fun i=>s.aJ.length - i) 0 (Nat.zero_le _) (Hc (fun _=>False) .aq _ hg (fun _ h=>h.elim) (.inl ⟨rfl,rfl,bu⟩) (by rw[stA_18]) (fun j h1 h2=> ?_) ?_) (fun k hk=> ?_)
  ·rw[DE,ae _ _ _ _ (by omega)]
   by_cases e:j=nx+20
   ·subst e;rw[stA_20,stA_20]
   ·exact MA _ _ _ _ _ _ _ _ _ _ af h2
  ·exact rn
  replace hk:k<=s.aJ.length:=hk
  have g0:DE o nx s b ((s.aJ.take k).map Nt.d) nx=_:=(ae _ _ _ _ af).trans (DM _ _ _ _ _ _ _)
  have g1:DE o nx s b ((s.aJ.take k).map Nt.d) (nx+1)=_:=(ae _ _ _ _ af).trans (stA_1 _ _ _ _ _ _ _)
  have g18:DE o nx s b ((s.aJ.take k).map Nt.d) (nx+18)=_:=(ae _ _ _ _ af).trans (stA_18 _ _ _ _ _ _ _)
  have g21:DE o nx s b ((s.aJ.take k).map Nt.d) (nx+21)=_:=ab _ _ _
  refine A5 g0 g1 g18 g21 ?_
  refine ao (fun h2=> ?_) (fun h2=> ?_)
  ·replace h2:k<s.aJ.length:=by simp at h2;omega
   obtain⟨z,hz⟩:=aD h2
   refine Hn g0 g1 g18 g21 hz ?_
   refine cy (wz z.a (hs.nt z (List.mem_of_getElem? hz)).1) ?_
   refine Hn g0 g1 g18 g21 hz ?_
   refine cy (wz z.b (hs.nt z (List.mem_of_getElem? hz)).2) ?_
   have e0:(s.aJ.take k).length=k:=by rw[List.length_take];omega
   have fh:k<=140737488355327/\(k+1)*80<=140737488355328:=by have:=hs.nl;omega
   simp+contextual (disch:=first|omega|simp only[go_sem,false_implies]) only[go_sem,wrap64,if_pos,g0,g1,g18,g21,hz,List.length_map,e0,if_pos fh,Nat.add_assoc,Nat.left_eq_add,Nat.add_eq_left,Nat.add_left_cancel_iff]
   refine aO (bz (ids:=[nx+18,nx+25,nx+36,nx+21]) (nx:=nx+40) aE aE [([0],[]),([0],[]),([1],[]),([1],[]),([],[]),([1],[]),([1],[]),([],[]),([],[]),([],[2]),([3,2],[3]),([0],[]),([0,3],[0])] bu) ?_
   refine fM ?_
   have uh:s.aJ.take (k+1)=s.aJ.take k++[z]:=by rw[List.take_add_one,hz];rfl
   refine aj (k+1) h2 af (Hc (fun j=>nx+21<=j) (.osl (nx+21) 1) _ hg (fun _ h=>h) (.inr ⟨nx+21,1,Nat.le_refl _,rfl,by(repeat(first|rfl|rw[ab]|rw[ae _ _ _ _ (by omega)]));rw[uh,List.map_append];rfl⟩) cA (fun j h1 h2=>by(repeat(first|rfl|rw[ab]|rw[ae _ _ _ _ (by omega)]));unfold DE;(repeat(first|rfl|rw[ab]|rw[ae _ _ _ _ (by omega)]))) ?_)
   exact rn
  ·replace h2:k=s.aJ.length:=by simp at h2;omega
   subst h2
   refine A5 g0 g1 g18 g21 ?_
   refine wq _ _ (nx+20) (nx+21) (nx+16) af ?_ (fun j hj=> ?_) ?_ ?_ ?_
   ·have h1:=MB hg s b 0 .aq rfl (s.binds.map TB.d)
    unfold DE yR
    refine Good.ay (Good.ay (Good.ay (Good.ay (Good.ay (Good.ay (Good.ay (hg.mono af) af rfl) af rfl) af rfl) af ?_) af rfl) af rfl) af ?_
    ·exact A8
    ·exact A8
   ·(repeat(first|rfl|rw[ab]|rw[ae _ _ _ _ (by omega)]))
    rw[DE,ae _ _ _ _ (by omega)]
    exact wA _ _ _ _ _ _ _ af af af af af
   ·(repeat(first|rfl|rw[ab]|rw[ae _ _ _ _ (by omega)]))
    rw[DE,ae _ _ _ _ (by omega)]
    exact stA_20 _ _ _ _ _ _ _
   ·(repeat(first|rfl|rw[ab]|rw[ae _ _ _ _ (by omega)]))
    rw[g21,List.take_length]
   ·(repeat(first|rfl|rw[ab]|rw[ae _ _ _ _ (by omega)]))
    rw[DE,ae _ _ _ _ (by omega)]
    exact stA_16 _ _ _ _ _ _ _
end Go.Proofs.YtlhemmpklhhgoaaGreat
set_option maxHeartbeats 4000000
namespace Go.Proofs.YtlhemmpklhhgoaaGreat
def gU:bW:=⟨⟨[],[]⟩,[],[],[]⟩
theorem eX:gU.d= .agg [.sl [], .sl [], .sl [], .sl [], .sl []]:=rfl
def bW.mark (s:bW):bW:=⟨s.sig,s.binds,s.aJ,s.marks++[((s.binds.length:Int),(s.aJ.length:Int))]⟩
theorem Pu{s:aB}(h:iU s=true):s.cons.length<=1000000/\s.bV.length<=1000000:=by
 unfold iU at h
 split at h
 ·cases h
 ·rename_i h1
  simp only[Bool.or_eq_true,not_or,decide_eq_true_eq,Bool.not_eq_true',Bool.not_eq_false,dQ,Bool.and_eq_true]at h1
  omega
theorem bp.cp {s:bW}(h:bp s):s.Cp:=by
 obtain⟨k1,k2⟩:=Pu h.sig
 have a1:=h.tL
 have a2:=h.xd
 have a3:=h.mG.len
 refine⟨k1,k2,af,af,af,fun x hx=> ?_,fun n hn=> ?_⟩
 ·have:=(cg (h.mG.ok x hx).2).2.1
  omega
 ·have h1:=(cg (h.aJ n hn).1).2.1
  have h2:=(cg (h.aJ n hn).2.1).2.1
  omega
theorem MC{o:Nat->ad}{id:Nat}{es:List (D×D)}(h:o id= .b8 es):put o (bw o [id])=o:=by
 funext j
 simp only[bw,List.map_cons,List.map_nil,h,put,List.foldl_cons,List.foldl_nil]
 by_cases e:j=id
 ·subst e;rw[ab,h]
 ·exact FH
theorem wB(s:bW)(hs:s.Cp)(b:List (Int×Tm))(o:Nat->ad)(nx id:Nat)(hg:Good o nx)(ax:o id= .b8 (enc (D.int .i64) (jW b)))(K X:V->(Nat->ad)->Nat->Prop)
 (wq:∀o' nx' i j k,nx<=nx'->Good o' nx'->(∀j,j<nx->o' j=o j)->
  o' i= .arr 0 59 4 (s.binds.map TB.d)->o' j= .arr 0 101 6 (s.aJ.map Nt.d)->o' k= .arr 0 77 2 (s.marks.map ra)->
  K (.agg [.d (.sl (s.sig.cons.map ec.d)), .d (.sl (s.sig.bV.map ec.d)), .osl i 0, .osl j 0, .osl k 0]) o' nx'):
 bQ Tryz.prog 65 [.agg [.d (.sl (s.sig.cons.map ec.d)), .d (.sl (s.sig.bV.map ec.d)), .d (.sl (s.binds.map TB.d)), .d (.sl (s.aJ.map Nt.d)), .d (.sl (s.marks.map ra)), .mp id]] o nx K X:=by
 refine bQ.wm (d:=s.kd b) ?_ ?_
 ·exact yP ax
 ·show bQ _ _ _ (put o (bw o [id])) nx K X
  rw[MC ax]
  exact AJ s hs b o nx hg K X wq
theorem MD(s:bW)(hs:s.Fin){ok:Bool}(aV:ok=true↔bp s):aW Tryz.prog 44 [s.d] (.ret (if ok=true then if s.marks.length=8 then [gU.d, .i 3]else [s.mark.d, .i 0]else [gU.d, .i 2])):=by
 refine aW.aH mix aeA aE ?_
 rw[c44]
 refine fM ?_
 refine bY (AF s hs _ _ dE _ _ (fun h o' nx' id i1 i2 i3 i4=> ?_) (fun h o' nx' id m i1 i0 i2 i3 i4=> ?_))
 ·have:ok=true:=aV.2 h
  subst this
  have e0:o' 0= .row s.row:=(i3 0 af).trans cA
  have e1:o' 1= .row [.aq, .aq, .aq, .aq, .aq]:=(i3 1 af).trans cA
  by_cases h8:s.marks.length=8
  ·have Yj:((s.marks.length:Int)==8)=true:=by rw[beq_iff_eq];omega
   exact Yn e0 e1 h8 Yj
  have Yj:((s.marks.length:Int)==8)=false:=by rw[beq_eq_false_iff_ne];omega
  simp+contextual (disch:=first|omega|simp only[go_sem,false_implies]) only[go_sem,wrap64,if_pos,Nat.add_assoc,Nat.left_eq_add,Nat.add_eq_left,Nat.add_left_cancel_iff,e0,e1,h8,Yj,List.length_map,eX]
  have ax:id<nx':=Good.lt i2 JK
  refine dR (wB s h.cp (ai s.binds) _ _ id ?_ JE _ _ (fun o2 n2 i j k m1 m2 m3 m4 m5 m6=> ?_))
  ·refine Good.ay (Good.ay (i2.mono af) af rfl) af ?_
   simp[ad.refs,V.aK,V.refs]
   omega
  have e0':o2 0= .row s.row:=(m3 0 af).trans PY
  have Ff:o2 1= .row [.aq, .aq, .aq, .aq, .aq]:=(m3 1 af).trans PZ
  have li:i<n2:=Good.lt m2 (by rw[m4];exact fun h=>nomatch h)
  have lj:j<n2:=Good.lt m2 (by rw[m5];exact fun h=>nomatch h)
  have lk:k<n2:=Good.lt m2 (by rw[m6];exact fun h=>nomatch h)
  have dik:i≠k:=fun e=>by subst e;rw[m4]at m6;injection m6 with _ h;exact absurd h bu
  have djk:j≠k:=fun e=>by subst e;rw[m5]at m6;injection m6 with _ h;exact absurd h bu
  have y1:k≠n2:=af
  have y2:∀a,k≠n2+a:=fun a=>af
  have y3:i≠n2:=af
  have y4:∀a,i≠n2+a:=fun a=>af
  have y5:j≠n2:=af
  have y6:∀a,j≠n2+a:=fun a=>af
  have z1:(1:Nat)≠n2:=af
  have z2:(1:Nat)≠k:=fun e=>by subst e;rw[m6]at Ff;cases Ff
  have z3:i≠1:=fun e=>by subst e;rw[m4]at Ff;cases Ff
  have z4:j≠1:=fun e=>by subst e;rw[m5]at Ff;cases Ff
  have fh:s.marks.length<=140737488355327/\(s.marks.length+1)*16<=140737488355328:=by have:=h.xd;omega
  simp+contextual (disch:=first|omega|simp only[go_sem,false_implies]) only[go_sem,wrap64,if_pos,Nat.add_assoc,Nat.left_eq_add,Nat.add_eq_left,Nat.add_left_cancel_iff,e0',Ff,m4,m5,m6,List.length_map,y1,y2,y3,y4,y5,y6,dik,djk,z1,z2,z3,z4,fh]
  rw[if_neg h8]
  simp only[bW.mark,bW.d,List.map_append,List.map_cons,List.map_nil]
 ·have:ok=false:=by
   cases ok with
   |false=>rfl
   |true=>exact absurd (aV.1 rfl) h
  subst this
  have e0:o' 0= .row s.row:=(i3 0 af).trans cA
  have e1:o' 1= .row [.aq, .aq, .aq, .aq, .aq]:=(i3 1 af).trans cA
  simp+contextual (disch:=first|omega|simp only[go_sem,false_implies]) only[go_sem,wrap64,if_pos,Nat.add_assoc,Nat.left_eq_add,Nat.add_eq_left,Nat.add_left_cancel_iff,e0,e1,eX]
def bW.tM (s:bW):bW:=match s.marks.getLast? with
 |some m=>⟨s.sig,s.binds.take m.1.toNat,s.aJ.take m.2.toNat,s.marks.dropLast⟩
 |none=>gU
theorem wC{nb nn:Int}:∀ {l:List (Int×Int)} {a:Int×Int},0<=a.1->0<=a.2->mj nb nn a l=true->∀m∈l,0<=m.1/\m.1<=nb/\0<=m.2/\m.2<=nn
 |[],_,_,_,_,m,hm=>by cases hm
 |x::l,a,h1,h2,h,m,hm=>by
  simp only[mj,Bool.and_eq_true,Bool.not_eq_true',Bool.or_eq_false_iff,decide_eq_false_iff_not]at h
  obtain⟨⟨⟨⟨g1,g2⟩,g3⟩,g4⟩,g5⟩:=h
  rcases List.mem_cons.1 hm with rfl|hm
  ·omega
  ·exact wC af af g5 m hm
theorem WE(s:bW)(hs:s.Fin){ok:Bool}(aV:ok=true↔bp s):aW Tryz.prog 45 [s.d] (.ret (if ok=true then if s.marks.length=0 then [gU.d, .i 6]else [s.tM.d, .i 0]else [gU.d, .i 2])):=by
 refine aW.aH mix aeB aE ?_
 rw[c45]
 refine fM ?_
 refine bY (AF s hs _ _ dE _ _ (fun h o' nx' id i1 i2 i3 i4=> ?_) (fun h o' nx' id m i1 i0 i2 i3 i4=> ?_))
 ·have:ok=true:=aV.2 h
  subst this
  have e0:o' 0= .row s.row:=(i3 0 af).trans cA
  have e1:o' 1= .row [.aq, .aq, .aq, .aq, .aq]:=(i3 1 af).trans cA
  have HN:=h.xd
  by_cases h8:s.marks.length=0
  ·have afc:decide ((0:Int) - 1<0)=true:=bu
   exact Yn e0 e1 h8 afc
  have Yj:decide ((s.marks.length:Int) - 1<0)=false:=by rw[decide_eq_false_iff_not];omega
  obtain⟨ms,m,Yk⟩:∃ms m,s.marks=ms++[m]:=⟨s.marks.dropLast,s.marks.getLast (by intro e;rw[e]at h8;exact h8 rfl),(List.dropLast_concat_getLast _).symm⟩
  have hun:s.tM=⟨s.sig,s.binds.take m.1.toNat,s.aJ.take m.2.toNat,ms⟩:=by unfold bW.tM;rw[Yk];simp
  obtain⟨m1,m2⟩:=m
  have hmr:=wC aE aE h.marks (m1,m2) (by rw[Yk];simp)
  dsimp only at hmr hun
  obtain⟨q1,q2,q3,q4⟩:=hmr
  obtain⟨a,rfl⟩:∃a:Nat,m1=a:=⟨m1.toNat,af⟩
  obtain⟨b,rfl⟩:∃b:Nat,m2=b:=⟨m2.toNat,af⟩
  have el:(s.marks.length:Int) - 1=(ms.length:Nat):=by rw[Yk];simp
  have mK:s.marks[ms.length]? =some ((a:Int),(b:Int)):=by rw[Yk];simp
  have ck:ms.length<=s.marks.length:=by rw[Yk];simp
  have htm:s.marks.take ms.length=ms:=by rw[Yk];simp
  have q2':a<=s.binds.length:=af
  have q4':b<=s.aJ.length:=af
  rw[el]at Yj
  simp+contextual (disch:=first|omega|simp only[go_sem,false_implies]) only[go_sem,wrap64,if_pos,Nat.add_assoc,Nat.left_eq_add,Nat.add_eq_left,Nat.add_left_cancel_iff,e0,e1,h8,Yj,List.length_map,eX,el,mK]
  refine aO (bz (ids:=[0,nx'+3]) (nx:=nx'+17) aE aE [([0],[]),([0],[]),([0],[]),([0],[]),([],[]),([],[]),([],[]),([],[]),([],[]),([0],[]),([0],[]),([0],[]),([0],[]),([],[]),([],[]),([],[]),([],[]),([],[]),([0],[]),([0],[]),([],[]),([],[]),([1],[]),([1],[]),([1],[1]),([1],[]),([1],[]),([1],[1]),([1],[]),([1],[]),([1],[1])] bu) ?_
  have ax:id<nx':=Good.lt i2 JK
  have t1:List.take a (List.map TB.d s.binds)=(s.binds.take a).map TB.d:=List.map_take.symm
  have t2:List.take b (List.map Nt.d s.aJ)=(s.aJ.take b).map Nt.d:=List.map_take.symm
  have t3:List.take ms.length (List.map ra s.marks)=ms.map ra:=by rw[<- List.map_take,htm]
  rw[t1,t2,t3]
  refine fM ?_
  have hc:bW.Cp ⟨s.sig,s.binds.take a,s.aJ.take b,ms⟩:=by
   have hc:=h.cp
   refine⟨hc.lc,hc.lf, ?_, ?_, ?_,fun x hx=>hc.bt x (List.mem_of_mem_take hx),fun x hx=>hc.nt x (List.mem_of_mem_take hx)⟩
   ·have:=hc.bl;simp only[List.length_take];omega
   ·have:=hc.nl;simp only[List.length_take];omega
   ·have:=hc.ml;dsimp only;omega
  refine dR (wB ⟨s.sig,s.binds.take a,s.aJ.take b,ms⟩ hc (ai s.binds) _ _ id ?_ JE _ _ (fun o2 n2 i j k m1 m2 m3 m4 m5 m6=> ?_))
  ·refine Good.ay (Good.ay (Good.ay (Good.ay (Good.ay (i2.mono af) af rfl) af ?_) af ?_) af ?_) af ?_
   all_goals (simp[ad.refs,V.aK,V.refs];omega)
  have Ff:o2 1= .row [.aq, .aq, .aq, .aq, .aq]:=(m3 1 af).trans PZ
  have z3:i≠1:=fun e=>by subst e;rw[m4]at Ff;cases Ff
  have z4:j≠1:=fun e=>by subst e;rw[m5]at Ff;cases Ff
  have z5:k≠1:=fun e=>by subst e;rw[m6]at Ff;cases Ff
  dsimp only at m4 m5 m6
  simp+contextual (disch:=first|omega|simp only[go_sem,false_implies]) only[go_sem,wrap64,if_pos,Nat.add_assoc,Nat.left_eq_add,Nat.add_eq_left,Nat.add_left_cancel_iff,Ff,m4,m5,m6,z3,z4,z5,h8]
  rw[hun]
  rfl
 ·have:ok=false:=by
   cases ok with
   |false=>rfl
   |true=>exact absurd (aV.1 rfl) h
  subst this
  have e0:o' 0= .row s.row:=(i3 0 af).trans cA
  have e1:o' 1= .row [.aq, .aq, .aq, .aq, .aq]:=(i3 1 af).trans cA
  simp+contextual (disch:=first|omega|simp only[go_sem,false_implies]) only[go_sem,wrap64,if_pos,Nat.add_assoc,Nat.left_eq_add,Nat.add_eq_left,Nat.add_left_cancel_iff,e0,e1,eX,List.length_map]
end Go.Proofs.YtlhemmpklhhgoaaGreat
namespace Go.Proofs.YtlhemmpklhhgoaaGreat
section
section
variable {P:Program}
def sI(P:Program)(n t t1:Nat)(ic:IC)(bM:List V)(u:V)(o:Nat->ad)(nx:Nat)(K:(Nat->ad)->Nat->Prop):Prop:=
 bM.length<=n/\kN P n nx true ic (Iw K) ⟨ay (ay (cw bM) t u) t1 u,o,nx⟩
def ri(P:Program)(n t t1:Nat)(ic:IC)(bM:List V)(rs:List ResultVar)(K X:V->(Nat->ad)->Nat->Prop)(e:fH)(s:S):Prop:=
 match e with
 | .normal| .ret=>sI P n t t1 ic bM (.d .eP) s.o s.nx fun o nx=>se P rs K X .ret ⟨s.env,o,nx⟩
 | .bJ v=>sI P n t t1 ic bM v s.o s.nx fun o nx=>se P rs K X .ret ⟨s.env,o,nx⟩
 | .exit _=>False
def AK(P:Program)(n t:Nat)(e9:IC)(fk:List Operand)(g:FuncId)(D:List V->fH->S->Prop)(e:fH)(s:S):Prop:=
 match e with
 | .normal=>kN P n s.nx false e9 (D (fk.map s.ev)) ⟨ay s.env t (.func (.func g) [] (fk.map s.ev)),s.o,s.nx⟩
 |_=>False
variable {n t t1:Nat}{ic e9:IC}{bM:List V}{rs:List ResultVar}{K X:V->(Nat->ad)->Nat->Prop}{s:S}{v:V}{fk:List Operand}{g:FuncId}{D:List V->fH->S->Prop}{KR:(Nat->ad)->Nat->Prop}
@[go_sem ↓] theorem ME:ri P n t t1 ic bM rs K X .normal s=sI P n t t1 ic bM (.d .eP) s.o s.nx fun o nx=>se P rs K X .ret ⟨s.env,o,nx⟩:=propext Iff.rfl
@[go_sem ↓] theorem SY:ri P n t t1 ic bM rs K X .ret s=sI P n t t1 ic bM (.d .eP) s.o s.nx fun o nx=>se P rs K X .ret ⟨s.env,o,nx⟩:=propext Iff.rfl
@[go_sem ↓] theorem SZ:ri P n t t1 ic bM rs K X (.bJ v) s=sI P n t t1 ic bM v s.o s.nx fun o nx=>se P rs K X .ret ⟨s.env,o,nx⟩:=propext Iff.rfl
@[go_sem ↓] theorem MF:AK P n t e9 fk g D .normal s=kN P n s.nx false e9 (D (fk.map s.ev)) ⟨ay s.env t (.func (.func g) [] (fk.map s.ev)),s.o,s.nx⟩:=propext Iff.rfl
@[go_sem ↓] theorem S0:Iw KR .normal s=KR s.o s.nx:=propext Iff.rfl
@[go_sem ↓] theorem ac3:Iw KR .ret s=KR s.o s.nx:=propext Iff.rfl
theorem sI.w {o:Nat->ad}{nx:Nat}{K K':(Nat->ad)->Nat->Prop}(hK:∀o nx,K o nx->K' o nx)(h:sI P n t t1 ic bM v o nx K):Ez P n t t1 ic bM v o nx K':=by
 refine⟨h.1,dZ ic _ _ _ (fun e s h=> ?_) h.2⟩
 unfold Iw at h|-
 cases e with
 |normal=>exact hK _ _ h
 |ret=>exact hK _ _ h
 |_=>exact h
theorem bQ.I8 (bc:P.follows .mixedOrders=true){f g:FuncId}{jv e9 yg:IC}{t m r r1:Nat}{fk:List Operand}{rs:List ResultVar}(hf:Gn P f n jv e9 g t fk rs)(hg:Cq P g m r r1 yg)
 {args:List V} {o:Nat->ad} {nx:Nat} {K X:V->(Nat->ad)->Nat->Prop} (hl:args.length<=n)
 (h:kN P n nx true jv (AK P n t e9 fk g fun bM=>ri P m r r1 yg bM rs K X) ⟨cw args,o,nx⟩):bQ P f args o nx K X:=by
 refine bQ.Ct bc hf hg hl (dZ jv _ _ _ (fun e s h=> ?_) h)
 unfold AK at h
 unfold Cr
 cases e with
 |normal=>
  refine dZ e9 _ _ _ (fun e s h=> ?_) h
  unfold ri at h
  unfold zV
  cases e with
  |normal=>exact sI.w (fun _ _ h=>by unfold se at h;exact h) h
  |ret=>exact sI.w (fun _ _ h=>by unfold se at h;exact h) h
  |bJ v=>exact sI.w (fun _ _ h=>by unfold se at h;exact h) h
  |exit _=>exact h
 |_=>exact h
end
attribute [irreducible] sI
theorem pO{P:Program}{n t t1:Nat}{ic:IC}{bM:List V}{v:V}{o:Nat->ad}{nx:Nat}{K:(Nat->ad)->Nat->Prop}(h1:bM.length<=n)(h2:kN P n nx true ic (Iw K) ⟨ay (ay (cw bM) t v) t1 v,o,nx⟩):sI P n t t1 ic bM v o nx K:=by
 unfold sI
 exact⟨h1,h2⟩
end
end Go.Proofs.YtlhemmpklhhgoaaGreat
set_option maxHeartbeats 4000000
namespace Go.Proofs.YtlhemmpklhhgoaaGreat
theorem WG{o:Nat->ad}:rF Tryz.prog o 20 true (.d .eP) (.d .eP)=some (.d (.bool true)):=ah
theorem WH{o:Nat->ad}:rF Tryz.prog o 20 true (.d (.iface 162 (.agg []))) (.d .eP)=some (.d (.bool false)):=ah
theorem WI{o:Nat->ad}:rF Tryz.prog o 20 true (.d (.iface 163 (.agg []))) (.d .eP)=some (.d (.bool false)):=ah
theorem Dl:uE Tryz.prog 162=true:=ah
theorem Dm:uE Tryz.prog 163=true:=ah
def AtK(K:V->(Nat->ad)->Nat->Prop)(nx:Nat)(e:Int)(o':Nat->ad)(nx':Nat):Prop:=
 nx+2<=nx'/\Good o' nx'/\o' nx= .row [.d (.i 0)]/\∀o2 n2,nx'<=n2->Good o2 n2->(∀j,j≠nx->j<nx'->o2 j=o' j)->K (.d (.i e)) o2 n2
theorem yG(g:Nat)(bM:List V)(o:Nat->ad)(nx:Nat)(hg:Good o nx)(K X:V->(Nat->ad)->Nat->Prop)
 (hc:bQ Tryz.prog g bM (ay o nx (.row [.d (.i 0)])) (nx+2) (fun v o' nx'=>AtK K nx 0 o' nx')
  (fun v o' nx'=>(v= .d (.iface 162 (.agg []))/\AtK K nx 5 o' nx')\/(v= .d (.iface 163 (.agg []))/\AtK K nx 3 o' nx'))):
 bQ Tryz.prog 101 [.func (.func g) [] bM] o nx K X:=by
 refine bQ.I8 mix Lz Lx aE ?_
 rw[Ly,Ve]
 refine fM ?_
 refine dR (bQ.mono (fun v o' nx' h=> ?_) (fun v o' nx' h=> ?_) hc)
 ·obtain⟨h1,h2,h3,h4⟩:=h
  refine Jf h3 ?_
  refine pO aE ?_
  rw[Lw]
  simp+contextual (disch:=first|omega|simp only[go_sem,false_implies]) only[go_sem,wrap64,if_pos,Nat.add_assoc,Nat.left_eq_add,Nat.add_eq_left,Nat.add_left_cancel_iff,h3,WG]
  exact h4 _ _ af (Good.ay (h2.mono af) af rfl) (fun j j1 j2=>ae _ _ _ _ j1)
 ·rcases h with⟨rfl,h1,h2,h3,h4⟩|⟨rfl,h1,h2,h3,h4⟩
  ·refine Jf h3 ?_
   refine pO aE ?_
   rw[Lw]
   simp+contextual (disch:=first|omega|simp only[go_sem,false_implies]) only[go_sem,wrap64,if_pos,Nat.add_assoc,Nat.left_eq_add,Nat.add_eq_left,Nat.add_left_cancel_iff,h3,WH,Dl,Dm]
   exact YD
  ·refine Jf h3 ?_
   refine pO aE ?_
   rw[Lw]
   simp+contextual (disch:=first|omega|simp only[go_sem,false_implies]) only[go_sem,wrap64,if_pos,Nat.add_assoc,Nat.left_eq_add,Nat.add_eq_left,Nat.add_left_cancel_iff,h3,WI,Dl,Dm]
   exact YD
theorem Hd(s:bW)(hs:s.Fin)(a c:Tm)(ha:a.Fin)(hc:c.Fin)(o:Nat->ad)(nx:Nat)(hg:Good o nx)(K X:V->(Nat->ad)->Nat->Prop)
 (wq:bp s->bL s.sig a=true->bL s.sig c=true->∀o' nx' id,nx<=nx'->Good o' nx'->(∀j,j<nx->o' j=o j)->o' id= .b8 (enc (D.int .i64) (jW (ai s.binds)))->K (.bP [.agg (s.row++[.mp id]), .d (.bool true)]) o' nx')
 (oI: ¬ (bp s/\bL s.sig a=true/\bL s.sig c=true)->∀o' nx' id m,nx<=nx'->id<nx'->Good o' nx'->(∀j,j<nx->o' j=o j)->o' id=dh m\/o' id= .b8 (enc (D.int .i64) (jW m))->K (.bP [.agg (s.row++[.mp id]), .d (.bool false)]) o' nx'):
 bQ Tryz.prog 63 [.d s.d, .d a.d, .d c.d] o nx K X:=by
 refine bQ.aH mix abf aE ?_
 rw[c63]
 refine fM ?_
 refine bY (AF s hs _ _ dE _ _ (fun h o' nx' id i1 i2 i3 i4=> ?_) (fun h o' nx' id m i1 i0 i2 i3 i4=> ?_))
 ·have e0:o' nx= .row s.row:=(i3 _ af).trans cA
  have e1:o' (nx+1)= .row a.row:=(i3 _ af).trans cA
  have e2:o' (nx+2)= .row c.row:=(i3 _ af).trans cA
  have e3:o' (nx+3)= .row [.aq, .aq, .aq, .aq, .aq, .d .dH]:=(i3 _ af).trans cA
  have ax:id<nx':=Good.lt i2 JK
  have w1:∀k,nx≠nx'+k:=fun k=>af
  have w2:∀k j,nx+j≠nx'+k\/True:=fun k j=> .inr trivial
  have w3:∀k,id≠nx'+k:=fun k=>af
  have hgr:Good (ay (ay o' (nx'+3) (.row [.aq, .aq, .aq, .aq, .aq, .d .dH])) (nx'+3) (.row (s.row++[.mp id]))) (nx'+6):=by
   refine Good.ay (Good.ay (i2.mono af) af rfl) af ?_
   simp[ad.refs,V.aK,V.refs]
   omega
  have d1:id≠nx+1:=fun e=>by subst e;rw[i4]at e1;cases e1
  have d2:id≠nx+2:=fun e=>by subst e;rw[i4]at e2;cases e2
  have d3:id≠nx+3:=fun e=>by subst e;rw[i4]at e3;cases e3
  have kno: ¬ (bL s.sig a=true/\bL s.sig c=true)->∀o2 n2,nx'<=n2->Good o2 n2->(∀j,j<nx->o2 j=o' j)->o2 id=o' id->K (.bP [.agg (s.row++[.mp id]), .d (.bool false)]) o2 n2:=fun hv o2 n2 q1 q2 q3 q4=>
   oI (fun h=>hv h.2) o2 n2 id (ai s.binds) af af q2 (fun j hj=>by rw[q3 j hj,i3 j (by omega)];(repeat(first|rfl|rw[ab]|rw[ae _ _ _ _ (by omega)]))) (.inr (by rw[q4,i4]))
  refine DG e0 e1 e2 e3 i4 w1 w3 ?_
  refine a8 (nQ s hs.sig (ai s.binds) a ha) rfl ?_
  cases va:bL s.sig a with
  |false=>
   refine DG e0 e1 e2 e3 i4 w1 w3 ?_
   refine aO (bz (ids:=[nx'+3,nx+1,nx+2,nx+3,id]) (nx:=nx'+20) gz gz [([0],[]),([],[]),([],[]),([0],[]),([1],[]),([4],[]),([],[]),([],[]),([],[]),([],[]),([],[]),([],[]),([3,4],[3]),([],[])] bu) ?_
   refine fM ?_
   exact kno (fun h=>by rw[va]at h;exact Bool.false_ne_true h.1) _ _ af (Good.ay (Good.mono hgr af) af JG) (fun j hj=>by(repeat(first|rfl|rw[ab]|rw[ae _ _ _ _ (by omega)]))) cA
  |true=>
   refine DG e0 e1 e2 e3 i4 w1 w3 ?_
   refine a8 (nQ s hs.sig (ai s.binds) c hc) rfl ?_
   cases vc:bL s.sig c with
   |false=>
    refine DG e0 e1 e2 e3 i4 w1 w3 ?_
    refine aO (bz (ids:=[nx'+3,nx+1,nx+2,nx+3,id]) (nx:=nx'+20) gz gz [([0],[]),([],[]),([],[]),([0],[]),([1],[]),([4],[]),([],[]),([],[]),([0],[]),([2],[]),([4],[]),([],[]),([3,4],[3]),([],[])] bu) ?_
    refine fM ?_
    exact kno (fun h=>by rw[vc]at h;exact Bool.false_ne_true h.2) _ _ af (Good.ay (Good.mono hgr af) af JG) (fun j hj=>by(repeat(first|rfl|rw[ab]|rw[ae _ _ _ _ (by omega)]))) cA
   |true=>
    refine DG e0 e1 e2 e3 i4 w1 w3 ?_
    refine aO (bz (ids:=[nx'+3,nx+1,nx+2,nx+3,id]) (nx:=nx'+20) gz gz [([0],[]),([],[]),([],[]),([0],[]),([1],[]),([4],[]),([],[]),([],[]),([0],[]),([2],[]),([4],[]),([],[]),([3,4],[3]),([],[])] bu) ?_
    refine fM ?_
    exact wq h va vc _ _ id af (Good.ay (Good.mono hgr af) af JG) (fun j hj=>by(repeat(first|rfl|rw[ab]|rw[ae _ _ _ _ (by omega)]));rw[i3 j (by omega)];(repeat(first|rfl|rw[ab]|rw[ae _ _ _ _ (by omega)]))) JE
 ·have e0:o' nx= .row s.row:=(i3 _ af).trans cA
  have e3:o' (nx+3)= .row [.aq, .aq, .aq, .aq, .aq, .d .dH]:=(i3 _ af).trans cA
  have w1:∀k,nx≠nx'+k:=fun k=>af
  have w3:∀k,id≠nx'+k:=fun k=>af
  simp only[bW.row,List.cons_append,List.nil_append]at oI|-
  have e1:o' (nx+1)= .row a.row:=(i3 _ af).trans cA
  have e2:o' (nx+2)= .row c.row:=(i3 _ af).trans cA
  have d1:id≠nx+1:=fun e=>by subst e;rw[e1]at i4;rcases i4 with h|h<;>cases h
  have d2:id≠nx+2:=fun e=>by subst e;rw[e2]at i4;rcases i4 with h|h<;>cases h
  have d3:id≠nx+3:=fun e=>by subst e;rw[e3]at i4;rcases i4 with h|h<;>cases h
  refine A4 e0 e3 w1 w3 ?_
  refine aO (bz (ids:=[nx'+3,nx+1,nx+2,nx+3,id]) (nx:=nx'+20) gz gz [([0],[]),([],[]),([],[]),([],[]),([],[]),([],[]),([],[]),([],[]),([],[]),([],[]),([],[]),([],[]),([3,4],[3]),([],[])] bu) ?_
  refine fM ?_
  refine oI (fun h'=>h h'.1) _ _ id m af af ?_ (fun j hj=>by(repeat(first|rfl|rw[ab]|rw[ae _ _ _ _ (by omega)]));rw[i3 j (by omega)];(repeat(first|rfl|rw[ab]|rw[ae _ _ _ _ (by omega)]))) JE
  refine Good.ay (Good.ay (Good.ay (i2.mono af) af rfl) af ?_) af ?_
  all_goals (simp[ad.refs,V.aK,V.refs];omega)
end Go.Proofs.YtlhemmpklhhgoaaGreat
set_option maxHeartbeats 4000000
namespace Go.Proofs.YtlhemmpklhhgoaaGreat
theorem MG(l:List Nt)(hl:l.length<=1000)(g:Nat)(kv:V)(kd:D)(brk:Nt->Bool)(hb:∀x∈l,aW Tryz.prog g [kd,x.d] (.ret [.bool (brk x)]))(o:Nat->ad)(nx:Nat)(hg:Good o nx)(hr:∀r∈kv.refs,r<nx)(hk:dN o kv=some kd)(K X:V->(Nat->ad)->Nat->Prop)
 (hK:∀r:Int,decide (0<=r)=l.any brk->∀nx',nx<=nx'->K (.d (.i r)) o nx'):
 bQ Tryz.prog 126 [.d (.sl (l.map Nt.d)), .func (.func g) [kv] []] o nx K X:=by
 refine bQ.aH mix R6 aE ?_
 rw[Vt]
 refine Jx ?_
 refine aG (fun i:Nat=>⟨aY [.d (.sl (l.map Nt.d)), .func (.func g) [kv] [], .aa, .aa, .aa, .aa, .aa, .d (.i l.length), .d (.i i)],o,nx⟩)
  (fun i=>i<=l.length/\l.any brk=(l.drop i).any brk) (fun i=>l.length - i) 0 ⟨Nat.zero_le _,rfl⟩ ?_ ?_
 ·exact QM
 rintro k ⟨Nd,DC⟩
 refine Jx ?_
 refine ao (fun h1=> ?_) (fun h1=> ?_)
 ·have h1:k<l.length:=by simp at h1;omega
  obtain⟨x,hx⟩:=aD h1
  have cF:=List.mem_of_getElem? hx
  have hd:l.drop k=x::l.drop (k+1):=by
   obtain⟨i1,i2⟩:=List.getElem?_eq_some_iff.1 hx
   exact A7
  rw[hd,List.any_cons]at DC
  simp+contextual (disch:=first|omega|simp only[go_sem,false_implies]) only[go_sem,wrap64,if_pos,hx,Nat.add_assoc,Nat.left_eq_add,Nat.add_eq_left,Nat.add_left_cancel_iff,List.length_map,hk]
  refine aw (hb x cF) rfl ?_
  cases AW:brk x with
  |true=>
   rw[AW]at DC
   refine fM ?_
   exact hK k (by rw[DC,Bool.true_or,decide_eq_true_eq];omega) _ af
  |false=>
   rw[AW]at DC
   refine fM ?_
   refine aj (k+1) ⟨h1,DC⟩ af ?_
   exact QM
 ·have h1:k=l.length:=by simp at h1;omega
  subst h1
  refine fM ?_
  exact hK _ (by rw[DC,List.drop_length];rfl) _ af
theorem o6(l:List Nt)(hl:l.length<=1000)(g:Nat)(kv:V)(kd:D)(brk:Nt->Bool)(hb:∀x∈l,aW Tryz.prog g [kd,x.d] (.ret [.bool (brk x)]))(o:Nat->ad)(nx:Nat)(hg:Good o nx)(hr:∀r∈kv.refs,r<nx)(hk:dN o kv=some kd)(K X:V->(Nat->ad)->Nat->Prop)
 (hK:∀nx',nx<=nx'->K (.d (.bool (l.any brk))) o nx'):
 bQ Tryz.prog 88 [.d (.sl (l.map Nt.d)), .func (.func g) [kv] []] o nx K X:=by
 refine bQ.aH mix abp aE ?_
 rw[c88]
 refine fM ?_
 refine aU (MG l hl g kv kd brk hb o _ (hg.mono af) (fun r h=>by have:=hr r h;omega) hk _ _ fun r h1 nx' h2=> ?_)
 refine Jf h1 ?_
 exact hK _ af
end Go.Proofs.YtlhemmpklhhgoaaGreat
set_option maxHeartbeats 8000000
namespace Go.Proofs.YtlhemmpklhhgoaaGreat
theorem Pv(l:List TB)(hl:l.length<=1000):Ng Tryz.prog 104 [.sl (l.map TB.d)] (.oM (l.map TB.d)):=by
 refine Ng.kF rfl ?_
 refine bQ.aH mix RT aE ?_
 rw[Vh]
 have hc:((l.map TB.d).all fun z=>z.cells.length==4)=true:=by
  rw[List.all_eq_true]
  intro z hz
  obtain⟨r,_,rfl⟩:=List.mem_map.1 hz
  rfl
 have hk:(l.map TB.d).take l.length=l.map TB.d:=List.take_of_length_le aE
 exact Yu hk
theorem Pw{s:aB}{b:List (Int×Tm)}{a c:Tm}(hb:pU s b)(ha:QT s a)(hc:QT s c){f:Nat}{e:Int}{b':List (Int×Tm)}(hf:jd true f a c b=some (e,b')){p q r x m:Nat}(o:Nat->ad)(nx:Nat)(hg:Good o nx)
 (hp:o p= .row [.ptr x 0]) (hq:o q= .row a.row) (hr:o r= .row c.row) (hx:o x= .row [.mp m, .aq, .d (.bool true)]) (hm:o m=dh b) (K X:V->(Nat->ad)->Nat->Prop)
 (aV:e=0->∀E:List TB,b'=b++ai E->∀o' nx' l,nx<=l->nx<=nx'->Good o' nx'->EqH o' x m l 0 true b' E->(∀j,j<nx->j≠x->j≠m->o' j=o j)->K (.bP []) o' nx')
 (oI:e=5->∀o' nx',nx<=nx'->Good o' nx'->(∀j,j<nx->j≠x->j≠m->o' j=o j)->X (.d (.iface 162 (.agg []))) o' nx')
 (zf:e=3->∀o' nx',nx<=nx'->Good o' nx'->(∀j,j<nx->j≠x->j≠m->o' j=o j)->X (.d (.iface 163 (.agg []))) o' nx'):
 bQ Tryz.prog 102 [.ptr p 0, .ptr q 0, .ptr r 0] o nx K X:=by
 have lp:p<nx:=hg.lt J2
 have lq:q<nx:=hg.lt (by rw[hq];exact ad.noConfusion)
 have lr:r<nx:=hg.lt (by rw[hr];exact ad.noConfusion)
 refine bQ.aH mix RR aE ?_
 rw[Vf]
 refine Hl hq hr ?_
 refine aU (wo hb ha hc (L:=[]) aE hf (x:=x) (m:=m) (xl:= .aq) o o _ (fun _=>False) ?_ ?_ hx hm (.inl ⟨rfl,rfl,bu⟩) (fun _ h=>h.elim) (fun j _=> .inr rfl) _ _ (fun h0 E hE o' nx' h1 h2 h3 h4=> ?_) (fun h5 o' nx' h1 h2 h4=> ?_) (fun h3 o' nx' h1 h2 h4=> ?_))
 ·exact hg.mono af
 ·exact hg.mono af
 ·refine cS ?_
  exact aV h0 E hE _ _ _ af af h2 h3 (fun j j1 j2 j3=>h4 j af j2 j3)
 ·refine cS ?_
  exact oI h5 _ _ af h2 (fun j j1 j2 j3=>h4 j af j2 j3)
 ·refine cS ?_
  exact zf h3 _ _ af h2 (fun j j1 j2 j3=>h4 j af j2 j3)
theorem bp.aci {s:bW}(h:bp s):pU s.sig (ai s.binds):=⟨h.mG.keys,fun p hp=>by obtain⟨x,hx,rfl⟩:=fq hp;exact⟨(h.mG.ok x hx).1,wg (h.mG.ok x hx).2⟩,h.mG.Js⟩
def IsB(o:Nat->ad)(vb:V)(a b:Nat)(L:List D):Prop:=vb= .oM L\/∃l,vb= .osl l 0/\a<=l/\l<b/\o l= .arr 0 59 4 L
theorem WJ{s:bW}(hs:bp s){a c:Tm}(ha:bL s.sig a=true)(hc:bL s.sig c=true){f:Nat}{e:Int}{b':List (Int×Tm)}(hf:jd true f a c (ai s.binds)=some (e,b')){id:Nat}(o:Nat->ad)(nx:Nat)(hg:Good o nx)
 (ax:o id= .b8 (enc (D.int .i64) (jW (ai s.binds)))) (brk:Nt->Bool) (AG:e=0->∀E,b'=ai (s.binds++E)->∀n∈s.aJ,aW Tryz.prog 66 [bW.kd ⟨s.sig,s.binds++E,s.aJ,s.marks⟩ b',n.d] (.ret [.bool (brk n)])) (K X:V->(Nat->ad)->Nat->Prop)
 (oI:e=5\/e=3->∀o' nx',nx<=nx'->Good o' nx'->(∀j,j<nx->o' j=o j)->K (.bP [.agg [.aq, .aq, .aq, .aq, .aq, .d .dH], .d (.i e)]) o' nx')
 (Xa:e=0->s.aJ.any brk=true->∀o' nx',nx<=nx'->Good o' nx'->(∀j,j<nx->o' j=o j)->K (.bP [.agg [.aq, .aq, .aq, .aq, .aq, .d .dH], .d (.i 5)]) o' nx')
 (aV:e=0->∀E,b'=ai (s.binds++E)->s.aJ.any brk=false->∀o' nx' vb mid,nx<=nx'->Good o' nx'->(∀j,j<nx->o' j=o j)->IsB o' vb nx nx' ((s.binds++E).map TB.d)->nx<=mid->o' mid=dh b'->K (.bP [.agg [.d (.sl (s.sig.cons.map ec.d)), .d (.sl (s.sig.bV.map ec.d)),vb, .d (.sl (s.aJ.map Nt.d)), .d (.sl (s.marks.map ra)), .mp mid], .d (.i 0)]) o' nx'):
 bQ Tryz.prog 64 [.agg (s.row++[.mp id]), .d a.d, .d c.d] o nx K X:=by
 have qO:id<nx:=hg.lt (by rw[ax];exact ad.noConfusion)
 refine bQ.aH mix abg aE ?_
 rw[c64]
 simp only[bW.row,List.cons_append,List.nil_append]
 refine Jf ax ?_
 refine bY (bQ.Gq LB (kt:=3) (vt:=33) (l:=enc (D.int .i64) (jW (ai s.binds))) (by(repeat(first|rfl|rw[ab]|rw[ae _ _ _ _ (by omega)]));exact ax) ?_)
 refine Jf ax ?_
 have hgH:Good (ay (ay (ay (ay (ay (ay (ay (ay o nx (.row (s.row++[.mp id]))) (nx+1) (.row a.row)) (nx+2) (.row c.row)) (nx+3) (.row [.aq, .aq, .aq, .aq, .aq, .d .dH])) (nx+7) (dh (ai s.binds))) (nx+9) (.row [.mp (nx+7), .aq, .d (.bool true)])) (nx+10) (.row [.d .kT])) (nx+10) (.row [.ptr (nx+9) 0])) (nx+13):=by
  refine Good.ay (Good.ay (Good.ay (Good.ay (Good.ay (Good.ay (Good.ay (Good.ay (hg.mono af) af ?_) af rfl) af rfl) af rfl) af rfl) af ?_) af rfl) af ?_
  all_goals (simp[ad.refs,V.aK,V.refs]<;>omega)
 refine aU (yG _ _ _ _ hgH _ _ (Pw hs.aci (wg ha) (wg hc) hf (p:=nx+10) (q:=nx+1) (r:=nx+2) (x:=nx+9) (m:=nx+7) _ _ ?_ cA cA cA cA cA _ _ (fun h0 E hE o1 n1 l g1 g2 g3 g4 g5=>⟨af,g3, ?_,fun o2 n2 k1 k2 k3=> ?_⟩) (fun h5 o1 n1 g2 g3 g5=> .inl ⟨rfl,af,g3, ?_,fun o2 n2 k1 k2 k3=> ?_⟩) (fun h3 o1 n1 g2 g3 g5=> .inr ⟨rfl,af,g3, ?_,fun o2 n2 k1 k2 k3=> ?_⟩)))
 ·exact Good.ay (hgH.mono af) af rfl
 ·exact Tn
 ·have ll:l<n1:=g3.lt (by rw[g4.RM];exact ad.noConfusion)
  have f0:o2 nx= .row (s.row++[.mp id]):=by rw[k3 _ (by omega) (by omega),g5 _ (by omega) (by omega) (by omega)];(repeat(first|rfl|rw[ab]|rw[ae _ _ _ _ (by omega)]))
  have f3:o2 (nx+3)= .row [.aq, .aq, .aq, .aq, .aq, .d .dH]:=by rw[k3 _ (by omega) (by omega),g5 _ (by omega) (by omega) (by omega)];(repeat(first|rfl|rw[ab]|rw[ae _ _ _ _ (by omega)]))
  have f10:o2 (nx+10)= .row [.ptr (nx+9) 0]:=by rw[k3 _ (by omega) (by omega),g5 _ (by omega) (by omega) (by omega)];(repeat(first|rfl|rw[ab]|rw[ae _ _ _ _ (by omega)]))
  have f9:o2 (nx+9)= .row [.mp (nx+7), .osl l 0, .d (.bool true)]:=by rw[k3 _ (by omega) (by omega)];exact g4.row
  have f7:o2 (nx+7)=dh b':=by rw[k3 _ (by omega) (by omega)];exact g4.map
  have fl:o2 l= .arr 0 59 4 (E.map TB.d):=by rw[k3 _ (by omega) (by omega)];exact g4.RM
  have cY:∀j,j<nx->o2 j=o j:=fun j hj=>by rw[k3 _ (by omega) (by omega),g5 _ (by omega) (by omega) (by omega)];(repeat(first|rfl|rw[ab]|rw[ae _ _ _ _ (by omega)]))
  have w1:∀k,nx≠n2+k:=fun k=>af
  have w2:∀k,l≠n2+k:=fun k=>af
  have w3:l≠nx:=af
  refine Ho f0 f3 f10 f9 f7 fl w1 w2 w3 ?_
  refine ye (Pv s.binds (by have:=hs.mG.len;omega)) ?_
  refine Ho f0 f3 f10 f9 f7 fl w1 w2 w3 ?_
  have Px:b'=ai (s.binds++E):=by rw[hE,eo]
  have hlen:s.binds.length+E.length<=20:=by
   have h1:=(wh f a c _ b' (h0 ▸ hf) hs.aci (wg ha) (wg hc)).1
   have h2:=C5 h1.keys fun v hv=>by
    obtain⟨p,hp,rfl⟩:=List.mem_map.1 hv
    exact(h1.ok p hp).1
   rw[List.length_map,Px]at h2
   unfold ai at h2
   rw[List.length_map,List.length_append]at h2
   exact h2
  have fh:s.binds.length+E.length<=1099511627776/\(s.binds.length+E.length)*48<=1099511627776:=af
  by_cases hn:E=[]
  ·subst hn
   simp+contextual (disch:=first|omega|simp only[go_sem,false_implies]) only[go_sem,wrap64,if_pos,List.map_nil,if_true]
   refine aO (bz (ids:=[nx,nx+10,nx+9,l]) (nx:=n2+21) gz gz [([0],[]),([0],[]),([0],[]),([],[]),([1],[]),([2],[]),([2],[]),([2],[]),([3],[]),([0],[]),([0],[]),([0],[0])] bu) ?_
   refine DH f3 f10 f9 f7 w1 ?_
   have uX:=hs.tL
   refine aU (o6 s.aJ af 66 _ _ brk (AG h0 [] Px) _ _ ?_ ?_ ?_ _ _ (fun n3 h3=> ?_))
   ·refine(Good.ay (Good.ay (k2.mono af) af ?_) af ?_)
    all_goals (simp[ad.refs,V.aK,V.refs]<;>omega)
   ·intro r hr
    simp[V.aK,V.refs]at hr
    omega
   ·simp+contextual (disch:=first|omega|simp only[go_sem,false_implies]) only[go_sem,wrap64,if_pos,f7,w1,Nat.add_assoc,Nat.left_eq_add,Nat.add_eq_left,Nat.add_left_cancel_iff,List.append_nil]
   cases QR:s.aJ.any brk with
   |true=>
    refine DH f3 f10 f9 f7 w1 ?_
    refine Xa h0 QR _ _ af (Good.ay (Good.ay (Good.ay (k2.mono af) af ?_) af ?_) af ?_) (fun j hj=>by(repeat(first|rfl|rw[ab]|rw[ae _ _ _ _ (by omega)]));exact cY j hj)
    all_goals (simp[ad.refs,V.aK,V.refs]<;>omega)
   |false=>
    refine DH f3 f10 f9 f7 w1 ?_
    refine aV h0 [] Px QR _ _ (.oM (s.binds.map TB.d)) (nx+7) af (Good.ay (Good.ay (Good.ay (k2.mono af) af ?_) af ?_) af ?_) (fun j hj=>by(repeat(first|rfl|rw[ab]|rw[ae _ _ _ _ (by omega)]));exact cY j hj) (.inl (by rw[List.append_nil])) af JD
    all_goals (simp[ad.refs,V.aK,V.refs]<;>omega)
  ·have Ks: ¬List.map TB.d E=[]:=by simpa using hn
   rw[if_neg Ks,if_pos fh]
   refine Ho f0 f3 f10 f9 f7 fl w1 w2 w3 ?_
   refine aO (bz (ids:=[nx,nx+10,nx+9,l,n2+17]) (nx:=n2+21) gz gz [([0],[]),([0],[]),([0],[]),([],[]),([1],[]),([2],[]),([2],[]),([2],[]),([3],[4]),([0],[]),([0],[]),([0,4],[0])] bu) ?_
   refine DH f3 f10 f9 f7 w1 ?_
   have uX:=hs.tL
   refine aU (o6 s.aJ af 66 _ _ brk (AG h0 E Px) _ _ ?_ ?_ ?_ _ _ (fun n3 h3=> ?_))
   ·refine(Good.ay (Good.ay (Good.ay (k2.mono af) af ?_) af ?_) af ?_)
    all_goals (simp[ad.refs,V.aK,V.refs]<;>omega)
   ·intro r hr
    simp[V.aK,V.refs]at hr
    omega
   ·refine Jy f7 w1 ?_
    rw[<- List.map_append]
   cases QR:s.aJ.any brk with
   |true=>
    refine DH f3 f10 f9 f7 w1 ?_
    refine Xa h0 QR _ _ af (Good.ay (Good.ay (Good.ay (Good.ay (k2.mono af) af ?_) af ?_) af ?_) af ?_) (fun j hj=>by(repeat(first|rfl|rw[ab]|rw[ae _ _ _ _ (by omega)]));exact cY j hj)
    all_goals (simp[ad.refs,V.aK,V.refs]<;>omega)
   |false=>
    refine DH f3 f10 f9 f7 w1 ?_
    refine aV h0 E Px QR _ _ (.osl (n2+17) 0) (nx+7) af (Good.ay (Good.ay (Good.ay (Good.ay (k2.mono af) af ?_) af ?_) af ?_) af ?_) (fun j hj=>by(repeat(first|rfl|rw[ab]|rw[ae _ _ _ _ (by omega)]));exact cY j hj) (.inr ⟨n2+17,rfl,af,af,by(repeat(first|rfl|rw[ab]|rw[ae _ _ _ _ (by omega)]));rw[List.map_append]⟩) af JD
    all_goals (simp[ad.refs,V.aK,V.refs]<;>omega)
 ·exact Tn
 ·have h9:o2 (nx+3)= .row [.aq, .aq, .aq, .aq, .aq, .d .dH]:=by rw[k3 _ (by omega) (by omega),g5 _ (by omega) (by omega) (by omega)];(repeat(first|rfl|rw[ab]|rw[ae _ _ _ _ (by omega)]))
  refine Jf h9 ?_
  have e5:e=5:=h5
  subst e5
  exact oI (.inl rfl) _ _ af (Good.ay (k2.mono af) af rfl) (fun j hj=>by rw[ae _ _ _ _ (by omega),k3 _ (by omega) (by omega),g5 _ (by omega) (by omega) (by omega)];(repeat(first|rfl|rw[ab]|rw[ae _ _ _ _ (by omega)])))
 ·exact Tn
 ·have h9:o2 (nx+3)= .row [.aq, .aq, .aq, .aq, .aq, .d .dH]:=by rw[k3 _ (by omega) (by omega),g5 _ (by omega) (by omega) (by omega)];(repeat(first|rfl|rw[ab]|rw[ae _ _ _ _ (by omega)]))
  refine Jf h9 ?_
  have e5:e=3:=h3
  subst e5
  exact oI (.inr rfl) _ _ af (Good.ay (k2.mono af) af rfl) (fun j hj=>by rw[ae _ _ _ _ (by omega),k3 _ (by omega) (by omega),g5 _ (by omega) (by omega) (by omega)];(repeat(first|rfl|rw[ab]|rw[ae _ _ _ _ (by omega)])))
end Go.Proofs.YtlhemmpklhhgoaaGreat
set_option maxHeartbeats 4000000
namespace Go.Proofs.YtlhemmpklhhgoaaGreat
theorem ox(l:List TB):xe (ai l)=l:=by
 unfold ai xe
 rw[List.map_map]
 exact List.map_id _
theorem Py{s:aB}{t:Tm}(h:bL s t=true):t.mI:=Tm.E7 _ (by have:=(cg h).2.1;omega)
theorem pU.len {s:aB}{l:List TB}(h:pU s (ai l)):l.length<=20:=by
 have:=C5 h.keys fun v hv=>by
  obtain⟨p,hp,rfl⟩:=List.mem_map.1 hv
  exact(h.ok p hp).1
 rw[List.length_map]at this
 unfold ai at this
 rwa [List.length_map]at this
end Go.Proofs.YtlhemmpklhhgoaaGreat
set_option maxHeartbeats 4000000
namespace Go.Proofs.YtlhemmpklhhgoaaGreat
theorem nR(l:List ec)(hl:l.length<=1000000):aW Tryz.prog 73 [.sl (l.map ec.d), .sl (l.map ec.d)] (.ret [.bool true]):=by
 refine aW.aH mix abm aE ?_
 rw[c73]
 refine yO ?_
 refine aG (fun k:Nat=>⟨aY [.d (.sl (l.map ec.d)), .d (.sl (l.map ec.d)), .aa, .aa, .aa, .d (.i k)],fun _=> .no,0⟩)
  (fun k=>k<=l.length) (fun k=>l.length - k) 0 (Nat.zero_le _) (bI.d0 _ ?_) (fun k hk=> ?_)
 ·exact dA
 refine Yv ?_
 refine ao (fun h2=> ?_) (fun h2=> ?_)
 ·simp at h2
  obtain⟨x,hx⟩:=aD h2
  refine Tf hx ?_
  refine aO (bB rfl) ?_
  refine cS ?_
  refine aj (k+1) h2 af (bI.d0 _ ?_)
  exact dA
 ·exact Tg
theorem xf(l:List Nt)(hl:l.length<=1000000)(hf:∀x∈l,x.a.fits/\x.b.fits):aW Tryz.prog 74 [.sl (l.map Nt.d), .sl (l.map Nt.d)] (.ret [.bool true]):=by
 refine aW.aH mix abn aE ?_
 rw[c74]
 refine yO ?_
 refine aG (fun k:Nat=>⟨aY [.d (.sl (l.map Nt.d)), .d (.sl (l.map Nt.d)), .aa, .aa, .aa, .d (.i k)],fun _=> .no,0⟩)
  (fun k=>k<=l.length) (fun k=>l.length - k) 0 (Nat.zero_le _) (bI.d0 _ ?_) (fun k hk=> ?_)
 ·exact dA
 refine Yv ?_
 refine ao (fun h2=> ?_) (fun h2=> ?_)
 ·simp at h2
  obtain⟨x,hx⟩:=aD h2
  have Jt:=hf x (List.mem_of_getElem? hx)
  have s1:=Ae x.a Jt.1 x.a Jt.1
  have s2:=Ae x.b Jt.2 x.b Jt.2
  rw[pJ]at s1 s2
  refine Tf hx ?_
  refine a8 s1 rfl ?_
  refine pW hx ?_
  refine a8 s2 rfl ?_
  exact ZA
 ·exact Tg
theorem MH(o:Nat->ad)(mQ:Bool)(a b:Int):rF Tryz.prog o 77 mQ (.d (.agg [.i a, .i b])) (.d (.agg [.i a, .i b]))=some (.d (.bool true)):=by
 have h1:bK Tryz.prog 77=some (.struct [(3,0),(3,1)]):=ah
 have h3:bK Tryz.prog 3=some .int:=ah
 have h5:dc Tryz.prog 3=some false:=ah
 have h6:oO Tryz.prog 100 77 (.agg [.i a, .i b]) (.agg [.i a, .i b])=some true:=by simp[oO,h1,h3,h5,xB,NH,iE,DS]
 obtain⟨fs,h⟩:∃fs,Tryz.prog.underlying 77=some (.struct fs):=structOf ah
 have h2:Tryz.prog.eqGuardType Tryz.prog.depth 77=false:=ah
 unfold rF
 rw[h]
 dsimp only
 rw[if_pos h2,h6]
 simp
theorem wD(s:bW)(h1:s.sig.cons.length<=1000000)(h2:s.sig.bV.length<=1000000)(h3:s.binds.length<=1000000)(h4:s.aJ.length<=1000000)(h5:s.marks.length<=1000000)
 (h6:∀x∈s.binds,x.term.fits) (h7:∀x∈s.aJ,x.a.fits/\x.b.fits):aW Tryz.prog 21 [s.d,s.d] (.ret [.bool true]):=by
 refine aW.aH mix abc aE ?_
 rw[c21]
 refine yO ?_
 refine aG (fun k:Nat=>⟨aY [.aa, .aa, .ptr 0 0, .ptr 1 0, .aa, .d (.i k)],ay (ay (fun _=> .no) 0 (.row s.row)) 1 (.row s.row),2⟩)
  (fun k=>k<=s.marks.length) (fun k=>s.marks.length - k) 0 (Nat.zero_le _) ?_ (fun k hk=> ?_)
 ·exact TM
 simp+contextual (disch:=first|omega|simp only[go_sem,false_implies]) only[go_sem,wrap64,if_pos,List.length_map,beq_self_eq_true,Bool.and_self]
 refine ao (fun g2=> ?_) (fun g2=> ?_)
 ·simp at g2
  obtain⟨x,hx⟩:=aD g2
  obtain⟨m1,m2⟩:=x
  simp+contextual (disch:=first|omega|simp only[go_sem,false_implies]) only[go_sem,wrap64,if_pos,hx,List.length_map,bne_self_eq_false,MH]
  refine aO (bB rfl) ?_
  refine cS ?_
  refine aj (k+1) g2 af ?_
  exact TM
 ·refine Nu ?_
  refine aw (nR s.sig.cons h1) rfl ?_
  refine Nu ?_
  refine aw (nR s.sig.bV h2) rfl ?_
  refine Nu ?_
  refine aw (wu s.binds h3 h6) rfl ?_
  refine Nu ?_
  refine aw (xf s.aJ h4 h7) rfl ?_
  exact Tg
end Go.Proofs.YtlhemmpklhhgoaaGreat
set_option maxHeartbeats 4000000
namespace Go.Proofs.YtlhemmpklhhgoaaGreat
theorem jc.all {sg:aB}{l:List TB}(h:jc sg l):∀p∈ai l,yA (ai l) p.2/\p.2.fits:=fun p hp=>by
 obtain⟨x,hx,rfl⟩:=fq hp
 exact⟨h.Wu x hx,Tm.dv x.term (by have:=(cg (h.ok x hx).2).2.1;omega)⟩
theorem MI{sg:aB}{l:List TB}(h:jc sg l)(s':bW){n:Nt}(na:bL sg n.a=true)(nb:bL sg n.b=true){bk:Bool}(AG:bk=true↔Dd (ai l) n):
 aW Tryz.prog 66 [s'.kd (ai l),n.d] (.ret [.bool bk])/\aW Tryz.prog 71 [.sl (l.map TB.d),n.d] (.ret [.bool bk]):=by
 obtain⟨l',ρ,R,hS,HZ⟩:=oq h.keys h.ok h.Js
 obtain⟨a1,a2,_⟩:=cg na
 obtain⟨b1,b2,_⟩:=cg nb
 have za:=mm hS (fun p hp=>(h.all p hp).1) a1
 have zb:=mm hS (fun p hp=>(h.all p hp).1) b1
 have fa:=oZ hS _ n.a a1 (Nat.le_refl _)
 have fb:=oZ hS _ n.b b1 (Nat.le_refl _)
 have fa':=gQ fa (Nat.le_max_left _ (R+3+(aZ (ai l') n.b).sz))
 have fb':=gQ fb (Nat.le_max_right (R+3+(aZ (ai l') n.a).sz) _)
 obtain⟨f1,u1⟩:=Av hS a1
 obtain⟨f2,u2⟩:=Av hS b1
 have e:iJ (aZ (ai l') n.a) (aZ (ai l') n.b)=bk:=by
  rw[Bool.eq_iff_iff,AG,gu]
  exact(AA hS a1 b1).symm
 have hl:=h.len
 rw[<- e]
 exact⟨yD s' (fun p hp=>(h.all p hp).2) n (Tm.dv _ af) (Tm.dv _ af) fa' fb' (Tm.dv _ af) (Tm.dv _ af) af af,
  tt af (fun p hp=>(h.all p hp).2) (Tm.dv _ af) (Tm.dv _ af) u1 u2 af af⟩
theorem Dn{s:bW}(h:bp s){a c:Tm}(ha:bL s.sig a=true)(hc:bL s.sig c=true){f:Nat}{b':List (Int×Tm)}(hf:jd true f a c (ai s.binds)=some (0,b')):∃E,b'=ai (s.binds++E)/\jc s.sig (s.binds++E):=by
 obtain⟨g,e,b1,h1,h2⟩:=G6 h ha hc
 have e1:=gR hf (Nat.le_max_left f g)
 rw[gR h1 (Nat.le_max_right f g)]at e1
 injection e1 with e1
 injection e1 with e1 e2
 subst e2
 rcases h2 with⟨_,E,h3,h4⟩|h|h
 ·exact⟨E,h3,h4⟩
 ·exact absurd (e1.symm.trans h) bu
 ·exact absurd (e1.symm.trans h) bu
def gW(e:Int)(bk:Bool):Int:=if e=0 then(if bk=true then 5 else 0)else e
def bW.tell (s:bW)(b':List (Int×Tm)):bW:=⟨s.sig,xe b',s.aJ,s.marks⟩
def bW.Fg (s:bW)(n:Nt):bW:=⟨s.sig,s.binds,s.aJ++[n],s.marks⟩
end Go.Proofs.YtlhemmpklhhgoaaGreat
set_option maxHeartbeats 4000000
namespace Go.Proofs.YtlhemmpklhhgoaaGreat
theorem AL:∀ (Δ:List (Nat×ad)) (o:Nat->ad) (j:Nat),(∀y∈Δ,y.1≠j)->put o Δ j=o j
 |[],o,j,h=>rfl
 |y::Δ,o,j,h=>by
  show put (ay o y.1 y.2) Δ j=o j
  rw[AL Δ _ j (fun z hz=>h z (by simp[hz])),ae _ _ _ _ (h y (by simp)).symm]
theorem Dp{nx:Nat}:∀ (Δ:List (Nat×ad)) (o:Nat->ad),Good o nx->(∀y∈Δ,(nx<=y.1->y.2= .no)/\∀r∈y.2.refs,r<nx)->Good (put o Δ) nx
 |[],o,hg,h=>hg
 |y::Δ,o,hg,h=>by
  show Good (put (ay o y.1 y.2) Δ) nx
  refine Dp Δ _ ?_ (fun z hz=>h z sM)
  obtain⟨h1,h2⟩:=h y aE
  by_cases hy:nx<=y.1
  ·rw[h1 hy]
   have:ay o y.1 .no=o:=by
    funext j
    by_cases e:j=y.1
    ·subst e;rw[ab,hg.fresh _ hy]
    ·exact FH
   rw[this];exact hg
  ·exact hg.ay af (by rw[List.all_eq_true];exact fun r hr=>decide_eq_true (h2 r hr))
theorem wE{o:Nat->ad}{nx:Nat}(hg:Good o nx)(ids:List Nat):Good (put o (bw o ids)) nx:=by
 refine Dp _ _ hg fun y hy=> ?_
 unfold bw at hy
 obtain⟨id,_,rfl⟩:=List.mem_map.1 hy
 dsimp only
 refine⟨fun h=>by rw[hg.fresh id h],fun r hr=> ?_⟩
 have:=hg.refs id r
 revert this hr
 cases h:o id<;>simp[ad.refs]<;>intros<;>first|omega|simp_all
theorem Pz(m:Nat)(o:Nat->ad)(nx:Nat)(K X:V->(Nat->ad)->Nat->Prop)(h:K (.func (.func 136) [] [.ptr nx 0]) (ay o nx (.row [.mp m])) (nx+4)):bQ Tryz.prog 111 [.mp m] o nx K X:=by
 refine bQ.aH mix R0 aE ?_
 rw[Vo]
 refine fM ?_
 exact h
theorem PA{b:List (Int×Tm)}(base qO p m:Nat)(H:List Int->Nat->ad)(CJ:qO<base)(hp:p<base)(hm:m<base)(hHp:∀l,H l p= .row [.mp m])(hHm:∀l,H l m= .b8 (enc (D.int .i64) (jW b)))
 (hHr:∀l id,id<base->∀r∈(H l id).refs,r<base) (hR:∀x l,l.length<b.length->RoC Tryz.prog qO [.d (.i x)] base (H l) (H (l++[x])) (.d (.bool true))) (o:Nat->ad) (nx:Nat) (hI:eL base (H []) o nx) (K X:V->(Nat->ad)->Nat->Prop)
 (hK:∀l o' nx',l.Perm (b.map (·.1))->nx<=nx'->eL base (H l) o' nx'->(∀id,base<=id->id<nx->o' id=o id)->K (.bP []) o' nx'):
 bQ Tryz.prog 136 [.j7 qO, .ptr p 0] o nx K X:=by
 have hle:=hI.le
 have op:o p= .row [.mp m]:=by rw[hI.eq p hp,hHp]
 have om:o m= .b8 (enc (D.int .i64) (jW b)):=by rw[hI.eq m hm,hHm]
 refine bQ.aH mix Sb aE ?_
 rw[Vy]
 simp+contextual (disch:=first|omega|simp only[go_sem,false_implies]) only[go_sem,wrap64,if_pos,op,om,Nat.add_assoc,Nat.left_eq_add,Nat.add_eq_left,Nat.add_left_cancel_iff]
 obtain⟨S,hS1,Yl⟩:∃S:List Int->Nat->ad,(∀l id,id<base->S l id=H l id)/\∀l id,base<=id->S l id=o id:=
  ⟨fun l id=>if id<base then H l id else o id,fun l id h=>if_pos h,fun l id h=>if_neg af⟩
 have hGS:∀l M,M.refs=[]->Good (ay (S l) (nx+1) M) (nx+2):=fun l M hM=>by
  refine⟨fun id ax=> ?_,fun id r hr=> ?_⟩
  ·rw[ae _ _ _ _ (by omega),Yl l id (by omega)];exact hI.cC.fresh id af
  ·by_cases e:id=nx+1
   ·subst e;rw[ab,hM]at hr;cases hr
   ·rw[ae _ _ _ _ e]at hr
    by_cases h:id<base
    ·rw[hS1 l id h]at hr;have:=hHr l id h r hr;omega
    ·rw[Yl l id (by omega)]at hr;have:=hI.cC.refs id r hr;omega
 refine aG (fun i:List (Int×Tm)×List Int×Option (D×D)=>⟨aY [.j7 qO, .ptr p 0, .aa, .aa, .aa, .ptr (nx+1) 0],ay (S i.2.1) (nx+1) (.rq (enc (D.int .i64) (jW i.1)) i.2.2),nx+2⟩)
  (fun i=>i.1.length+i.2.1.length=b.length/\(i.2.1++i.1.map (·.1)).Perm (b.map (·.1))) (fun i=>i.1.length) (b,[],none) ⟨aE,aE⟩ ?_ ?_
 ·dsimp only
  refine bI.bE _ af af (hGS _ _ rfl) (fun j hj=> ?_) ?_
  ·by_cases e:j=nx+1
   ·exact uq
   ·rw[ae _ _ _ _ e,ae _ _ _ _ e]
    by_cases h:j<base
    ·rw[hS1 _ _ h];exact hI.eq j h
    ·rw[Yl _ _ (by omega)]
  ·exact dA
 rintro⟨rest,don,last⟩ ⟨hl,uw⟩
 dsimp only at hl uw|-
 refine fM ?_
 refine sy (fun h0=> ?_) fun i v x hm=> ?_
 ·subst h0
  refine fM ?_
  refine hK don _ _ (by simpa using uw) af ⟨?_,af,fun id ax=> ?_⟩ (fun id h1 h2=> ?_)
  ·exact(hGS _ _ rfl).mono af
  ·rw[ae _ _ _ _ (by omega),hS1 _ _ ax]
  ·rw[ae _ _ _ _ (by omega),Yl _ _ h1]
 ·have hlen:(rest.eraseIdx i).length+1=rest.length:=by
   exact TN
  have afd:=pL hm
  refine fM ?_
  refine nD (hR v don af _ _ ⟨?_,af,fun id ax=> ?_⟩ _ _ fun o2 n2 m1 m2 m3=> ?_)
  ·exact((hGS _ _ rfl).mono af).ay af rfl
  ·rw[ae _ _ _ _ (by omega),ae _ _ _ _ (by omega),hS1 _ _ ax]
  refine fM ?_
  refine aj (rest.eraseIdx i,don++[v],some (.int .i64 v,x.d)) ⟨by dsimp only;simp;omega, ?_⟩ je (bI.bE _ (show nx<=nx+2 from af) af (hGS _ _ rfl) (fun j hj=> ?_) ?_)
  ·dsimp only
   refine List.Perm.trans ?_ uw
   rw[List.append_assoc]
   refine List.Perm.append_left _ ?_
   have:=afd.map (fun p:Int×Tm=>p.1)
   simpa using this
  ·dsimp only
   have Q1:j<nx+2:=hj
   by_cases e:j=nx+1
   ·subst e
    rw[ab,m3 _ (by omega) (by omega)]
    exact cA
   ·rw[ae _ _ _ _ e]
    by_cases h:j<base
    ·rw[hS1 _ _ h];exact m2.eq j h
    ·rw[Yl _ _ (by omega),m3 _ (by omega) (by omega),ae _ _ _ _ e,ae _ _ _ _ e,Yl _ _ (by omega)]
  ·exact dA
def AM(o:Nat->ad)(nx:Nat)(l:List Int):Nat->ad:=ay (ay o nx (.row [.osl (nx+3) l.length])) (nx+3) (.arr l.length 3 1 (l.map .i))
theorem Dq{b:List (Int×Tm)}(hb:b.length<=1000){p m:Nat}(o:Nat->ad)(nx:Nat)(hg:Good o nx)(hp:o p= .row [.mp m])(hm:o m= .b8 (enc (D.int .i64) (jW b)))(K X:V->(Nat->ad)->Nat->Prop)
 (hK:∀ (l:List Int) (o':Nat->ad) (nx' id ep:Nat),l.Perm (b.map (·.1))->nx<=nx'->nx<=id->Good o' nx'->(∀j,j<nx->o' j=o j)->o' id= .arr ep 3 1 (l.map .i)->K (.osl id ep) o' nx'):
 bQ Tryz.prog 161 [.aq, .func (.func 136) [] [.ptr p 0]] o nx K X:=by
 refine bQ.aH mix Sl aE ?_
 rw[VI]
 refine fM ?_
 have hlp:p<nx:=hg.lt J2
 have hlm:m<nx:=hg.lt Fw
 have hG:∀l,Good (AM o nx l) (nx+4):=fun l=>by
  unfold AM
  refine Good.ay (Good.ay (hg.mono af) af ?_) af rfl
  exact A8
 refine OM (s':=⟨aY [.aa, .aa, .ptr nx 0, .aa, .aa, .aa, .func (.func 136) [] [.ptr p 0]],AM o nx [],nx+4⟩) (bI.w7 (fun _=>False) .aq (nx+3) _ af (fun j hj=> ?_) (by unfold AM;(repeat(first|rfl|rw[ab]|rw[ae _ _ _ _ (by omega)]))) (.inl ⟨rfl,rfl,bu⟩) (fun j hj=> ?_) (fun _ h=>h.elim) ?_) ?_
 ·unfold AM
  by_cases e:j=nx
  ·subst e
   rw[ab,ae _ _ _ _ (by omega),ab]
   exact mM rfl (uu 0 rfl rfl rfl mN)
  ·rw[ae _ _ _ _ e,ae _ _ _ _ (by omega),ae _ _ _ _ e]
   exact bX rfl (fun r hr=>by have:=hg.refs j r hr;omega)
 ·unfold AM
  rw[ae _ _ _ _ (by omega),ae _ _ _ _ (by omega)]
  exact Bb
 ·exact rn
 ·show tK _ _ _ _ _ _ _ _ _ _ (.func (.func 136) [] [.ptr p 0])
  refine EH [.aa, .aa, .ptr nx 0] JC (fun L hL=> ?_)
  obtain⟨H,rE,EJ,SM⟩:∃H:List Int->Nat->ad,(∀l id,id<nx+4->H l id=AM o nx l id)/\(∀l,H l (nx+4)=L .ready none)/\∀l id,nx+5<=id->H l id= .no:=
   ⟨fun l id=>if id<nx+4 then AM o nx l id else if id=nx+4 then L .ready none else .no,fun l id h=>if_pos h,fun l=>aE,fun l id h=>by dsimp only;rw[if_neg (by omega),if_neg (by omega)]⟩
  have xi:∀st pd M,nx<M->(L st pd).refs.all (fun r=>decide (r<M))=true:=fun st pd M hM=>by
   rw[hL.refs,List.all_eq_true]
   intro r hr
   simp[V.aK,V.refs]at hr
   exact decide_eq_true af
  have aP:∀l,AM o nx l p= .row [.mp m]:=fun l=>by unfold AM;(repeat(first|rfl|rw[ab]|rw[ae _ _ _ _ (by omega)]));exact hp
  have aM:∀l,AM o nx l m= .b8 (enc (D.int .i64) (jW b)):=fun l=>by unfold AM;(repeat(first|rfl|rw[ab]|rw[ae _ _ _ _ (by omega)]));exact hm
  have a0:∀l,AM o nx l nx= .row [.osl (nx+3) l.length]:=fun l=>by unfold AM;(repeat(first|rfl|rw[ab]|rw[ae _ _ _ _ (by omega)]))
  have a3:∀l,AM o nx l (nx+3)= .arr l.length 3 1 (l.map .i):=fun l=>by unfold AM;(repeat(first|rfl|rw[ab]|rw[ae _ _ _ _ (by omega)]))
  refine PA (b:=b) (nx+5) (nx+4) p m H af af af (fun l=>by rw[rE _ _ (by omega)];exact aP l) (fun l=>by rw[rE _ _ (by omega)];exact aM l) (fun l id ax r hr=> ?_) (fun x l ck=> ?_) _ _ ⟨?_,af,fun id ax=> ?_⟩ _ _ (fun l o' nx' h1 h2 h3 h4=> ?_)
  ·by_cases e:id=nx+4
   ·subst e
    rw[EJ]at hr
    have:=List.all_eq_true.1 (xi .ready none (nx+5) af) r hr
    simpa using this
   ·rw[rE _ _ (by omega)]at hr
    have:=(hG l).refs id r hr
    omega
  ·intro o3 n3 hI K X hK
   have hle:=hI.le
   have hg3:=hI.cC
   have Nk:o3 (nx+4)=L .ready none:=by rw[hI.eq _ (by omega),EJ]
   have q0:o3 nx= .row [.osl (nx+3) l.length]:=by rw[hI.eq _ (by omega),rE _ _ (by omega),a0]
   have q3:o3 (nx+3)= .arr l.length 3 1 (l.map .i):=by rw[hI.eq _ (by omega),rE _ _ (by omega),a3]
   have fh:l.length<=140737488355327/\(l.length+1)*8<=140737488355328:=af
   have y1:nx≠n3:=af
   have y2:∀k,nx≠n3+k:=fun k=>af
   have y3:nx+3≠n3:=af
   have y4:∀k,nx+3≠n3+k:=fun k=>af
   refine vM hL mix Nk af bu rfl ?_
   simp only[px]
   refine cS ?_
   refine nE hL (pd:=none) ?_ ?_
   ·(repeat(first|rfl|rw[ab]|rw[ae _ _ _ _ (by omega)]))
    exact Nk
   simp+contextual (disch:=first|omega|simp only[go_sem,false_implies]) only[go_sem,wrap64,if_pos,q0,q3,y1,y2,y3,y4,Nat.add_assoc,Nat.left_eq_add,Nat.add_eq_left,Nat.add_left_cancel_iff,List.length_map,fh]
   refine sq hL (st:= .busy) (pd:=none) cA (hK _ _ af ⟨?_,af,fun id ax=> ?_⟩ (fun id h1 h2=>by(repeat(first|rfl|rw[ab]|rw[ae _ _ _ _ (by omega)]))))
   ·refine Good.ay (Good.ay (Good.ay (Good.ay (Good.ay (hg3.mono af) af (xi _ _ _ af)) af rfl) af rfl) af ?_) af (xi _ _ _ af)
    simp[ad.refs,V.aK,V.refs]
    omega
   ·by_cases e:id=nx+4
    ·subst e;rw[ab,EJ]
    ·rw[ae _ _ _ _ e,rE _ _ (by omega)]
     unfold AM
     by_cases e0:id=nx
     ·subst e0;(repeat(first|rfl|rw[ab]|rw[ae _ _ _ _ (by omega)]));simp
     ·by_cases e3:id=nx+3
      ·subst e3;(repeat(first|rfl|rw[ab]|rw[ae _ _ _ _ (by omega)]));simp
      ·(repeat(first|rfl|rw[ab]|rw[ae _ _ _ _ (by omega)]))
       rw[hI.eq _ ax,rE _ _ (by omega)]
       unfold AM
       exact cA
  ·exact(hG []).mono af |>.ay af (xi _ _ _ af)
  ·by_cases e:id=nx+4
   ·subst e;rw[ab,EJ]
   ·rw[ae _ _ _ _ e,rE _ _ (by omega)]
  ·have WK:=h3.le
   refine⟨.ready,none,by rw[h3.eq _ (by omega),EJ],(fun h=>by cases h), ?_⟩
   have q0:o' nx= .row [.osl (nx+3) l.length]:=by rw[h3.eq _ (by omega),rE _ _ (by omega),a0]
   have q3:o' (nx+3)= .arr l.length 3 1 (l.map .i):=by rw[h3.eq _ (by omega),rE _ _ (by omega),a3]
   simp only[qw]
   refine Jy q0 q3 ?_
   refine hK l _ _ (nx+3) l.length h1 ?_ af ?_ (fun j hj=> ?_) Tq
   ·omega
   ·exact(h3.cC.mono af).ay af (xi _ _ _ af)
   rw[ae _ _ _ _ (by omega),h3.eq _ (by omega),rE _ _ (by omega)]
   unfold AM
   exact cA
theorem Fh{l l':List Int}(h:l.Perm l'):c6 l=c6 l':=by
 have h1:(c6 l).Perm (c6 l'):=((List.mergeSort_perm _ _).trans h).trans (List.mergeSort_perm _ _).symm
 have hs:∀l:List Int,(c6 l).Pairwise (fun a b=>a<=b):=fun l=>(List.pairwise_mergeSort (le:=fun a b:Int=>decide (a<=b)) (fun a b c h1 h2=>by simp at*;omega) (fun a b=>by simp;omega) l).imp fun h=>by simpa using h
 exact List.Perm.eq_of_pairwise (fun a b _ _ h1 h2=>Int.le_antisymm h1 h2) (hs l) (hs l') h1
theorem MJ{b:List (Int×Tm)}(hb:b.length<=1000){p m:Nat}(o:Nat->ad)(nx:Nat)(hg:Good o nx)(hp:o p= .row [.mp m])(hm:o m= .b8 (enc (D.int .i64) (jW b)))(K X:V->(Nat->ad)->Nat->Prop)
 (hK:∀ (o':Nat->ad) (nx' id ep:Nat),nx<=nx'->nx<=id->Good o' nx'->(∀j,j<nx->o' j=o j)->o' id= .arr ep 3 1 ((c6 (b.map (·.1))).map .i)->K (.osl id ep) o' nx'):
 bQ Tryz.prog 110 [.func (.func 136) [] [.ptr p 0]] o nx K X:=by
 refine bQ.aH mix RZ aE ?_
 rw[Vn]
 refine fM ?_
 refine aU ?_
 refine bQ.aH mix Sa aE ?_
 rw[Vx]
 refine fM ?_
 refine aU (Dq hb _ _ (hg.mono af) hp hm _ _ (fun l o' nx' id ep h1 h2 h3 h4 h5 h6=> ?_))
 have ax:id<nx':=h4.lt (by rw[h6];exact ad.noConfusion)
 have w1:∀k,id≠nx'+k:=fun k=>af
 refine Jy h6 w1 ?_
 have hlen:l.length<=1000:=by have:=h1.length_eq;rw[List.length_map]at this;omega
 have hs:c6 l=c6 (b.map (·.1)):=Fh h1
 refine bY (LU CU IZ (zs:=l) h6 I0 af ?_)
 refine fM ?_
 refine hK _ _ id ep ?_ af ?_ (fun j hj=> ?_) (by(repeat(first|rfl|rw[ab]|rw[ae _ _ _ _ (by omega)]));rw[hs])
 ·omega
 ·exact(h4.mono af).ay af rfl
 ·rw[ae _ _ _ _ (by omega),h5 j (by omega)]
end Go.Proofs.YtlhemmpklhhgoaaGreat
set_option maxHeartbeats 8000000
namespace Go.Proofs.YtlhemmpklhhgoaaGreat
theorem yH(s:bW)(hs:s.Cp)(b:List (Int×Tm))(o:Nat->ad)(nx mid:Nat)(vb:V)(hg:Good o nx)(ac4:o mid=dh b)(W3:dN o vb=some (.sl (s.binds.map TB.d)))(K X:V->(Nat->ad)->Nat->Prop)
 (wq:∀o' nx' i j k,nx<=nx'->Good o' nx'->(∀j,j<nx->j∉vb.ids->j≠mid->o' j=o j)->
  o' i= .arr 0 59 4 (s.binds.map TB.d)->o' j= .arr 0 101 6 (s.aJ.map Nt.d)->o' k= .arr 0 77 2 (s.marks.map ra)->
  K (.agg [.d (.sl (s.sig.cons.map ec.d)), .d (.sl (s.sig.bV.map ec.d)), .osl i 0, .osl j 0, .osl k 0]) o' nx'):
 bQ Tryz.prog 65 [.agg [.d (.sl (s.sig.cons.map ec.d)), .d (.sl (s.sig.bV.map ec.d)),vb, .d (.sl (s.aJ.map Nt.d)), .d (.sl (s.marks.map ra)), .mp mid]] o nx K X:=by
 refine bQ.wm (d:=s.kd b) ?_ ?_
 ·exact YA ac4 W3
 ·refine AJ s hs b _ nx (wE hg _) K X (fun o' nx' i j k m1 m2 m3 m4 m5 m6=>wq o' nx' i j k m1 m2 (fun j j1 j2 j3=>(m3 j j1).trans (AL _ _ _ fun y hy=> ?_)) m4 m5 m6)
  unfold bw at hy
  obtain⟨q,hq,rfl⟩:=List.mem_map.1 hy
  simp[V.ids,V.ba]at hq
  dsimp only
  rcases hq with hq|hq
  ·exact fun e=>j2 (e ▸ hq)
  ·exact fun e=>j3 (e.symm.trans hq)
theorem bW.PB {s:bW}(h:bp s){E:List TB}(hB:jc s.sig (s.binds++E)):(s.tell (ai (s.binds++E))).Cp:=by
 have hc:=h.cp
 have:=hB.len
 refine⟨hc.lc,hc.lf, ?_,hc.nl,hc.ml,fun x hx=> ?_,hc.nt⟩
 ·show(xe _).length<=_
  rw[ox];omega
 ·have hx:x∈xe (ai (s.binds++E)):=hx
  rw[ox]at hx
  have:=(cg (hB.ok x hx).2).2.1
  omega
theorem yI{s:bW}(h:bp s){a c:Tm}(ha:bL s.sig a=true)(hc:bL s.sig c=true){f:Nat}{b':List (Int×Tm)}(hf:jd true f a c (ai s.binds)=some (0,b')){E:List TB}(hE:b'=ai (s.binds++E)):jc s.sig (s.binds++E):=by
 obtain⟨E',h1,h2⟩:=Dn h ha hc hf
 have e:s.binds++E=s.binds++E':=by rw[<- ox (s.binds++E), <- hE,h1,ox]
 rw[e];exact h2
theorem MK{s:bW}(h:bp s){a c:Tm}(ha:bL s.sig a=true)(hc:bL s.sig c=true){f:Nat}{e:Int}{b':List (Int×Tm)}(hf:jd true f a c (ai s.binds)=some (e,b')){bk:Nt->Bool}(AG:e=0->∀n∈s.aJ,(bk n=true↔Dd b' n)):
 e=0->∀E,b'=ai (s.binds++E)->∀n∈s.aJ,aW Tryz.prog 66 [bW.kd ⟨s.sig,s.binds++E,s.aJ,s.marks⟩ b',n.d] (.ret [.bool (bk n)]):=fun h0 E hE n hn=>by
 have hB:=yI h ha hc (h0 ▸ hf) hE
 have hk:=AG h0 n hn
 subst hE
 exact(MI hB _ (h.aJ n hn).1 (h.aJ n hn).2.1 hk).1
theorem ML(s:bW)(hs:s.Fin)(a c:Tm)(ha:a.Fin)(hc:c.Fin)(h:bp s)(va:bL s.sig a=true)(vc:bL s.sig c=true){f:Nat}{e:Int}{b':List (Int×Tm)}(hf:jd true f a c (ai s.binds)=some (e,b'))(he:e=0\/e=5\/e=3){bk:Nt->Bool}(AG:e=0->∀n∈s.aJ,(bk n=true↔Dd b' n)):
 aW Tryz.prog 15 [s.d,a.d,c.d] (.ret [if gW e (s.aJ.any bk)=0 then(s.tell b').d else gU.d, .i (gW e (s.aJ.any bk))]):=by
 refine aW.aH mix aba aE ?_
 rw[c15]
 refine fM ?_
 refine bY (Hd s hs a c ha hc _ _ dE _ _ (fun h1 h2 h3 o' nx' id i1 i2 i3 i4=> ?_) (fun hn=>absurd ⟨h,va,vc⟩ hn))
 have e1:o' 1= .row a.row:=(i3 _ af).trans cA
 have e2:o' 2= .row c.row:=(i3 _ af).trans cA
 have e3:o' 3= .row [.aq, .aq, .aq, .aq, .aq]:=(i3 _ af).trans cA
 have ax:id<nx':=Good.lt i2 JK
 refine A4 e1 e2 e3 i4 ?_
 have hgT:Good (ay (ay o' (nx'+3) (.row [.aq, .aq, .aq, .aq, .aq, .d .dH])) (nx'+3) (.row (s.row++[.mp id]))) (nx'+11):=by
  refine Good.ay (Good.ay (i2.mono af) af rfl) af ?_
  simp[ad.refs,V.aK,V.refs]
  omega
 refine bY (WJ h va vc hf _ _ hgT JE bk (MK h va vc hf AG) _ _ (fun h5 o2 n2 g1 g2 g3=> ?_) (fun h0 hb o2 n2 g1 g2 g3=> ?_) (fun h0 E hE hb o2 n2 vb mid g1 g2 g3 g4 g7 g8=> ?_))
 ·have f3:o2 3= .row [.aq, .aq, .aq, .aq, .aq]:=(g3 _ af).trans Hv
  have f8:o2 (nx'+3)= .row (s.row++[.mp id]):=(g3 _ af).trans cA
  have k3:(3:Nat)≠nx'+3:=af
  have w1:gW e (s.aJ.any bk)=e:=by unfold gW;rw[if_neg (by omega)]
  have w2:e≠0:=af
  have w3:(e !=0)=true:=by rw[bne_iff_ne];exact w2
  rw[w1,if_neg w2]
  simp+contextual (disch:=first|omega|simp only[go_sem,false_implies]) only[go_sem,wrap64,if_pos,Nat.add_assoc,Nat.left_eq_add,Nat.add_eq_left,Nat.add_left_cancel_iff,f3,f8,k3,w3,eX]
 ·have f3:o2 3= .row [.aq, .aq, .aq, .aq, .aq]:=(g3 _ af).trans Hv
  have f8:o2 (nx'+3)= .row (s.row++[.mp id]):=(g3 _ af).trans cA
  have k3:(3:Nat)≠nx'+3:=af
  have w1:gW e (s.aJ.any bk)=5:=by unfold gW;rw[if_pos h0,if_pos hb]
  rw[w1]
  simp+contextual (disch:=first|omega|simp only[go_sem,false_implies]) only[go_sem,wrap64,if_pos,Nat.add_assoc,Nat.left_eq_add,Nat.add_eq_left,Nat.add_left_cancel_iff,f3,f8,k3,eX]
 ·have f3:o2 3= .row [.aq, .aq, .aq, .aq, .aq]:=(g3 _ af).trans Hv
  have f8:o2 (nx'+3)= .row (s.row++[.mp id]):=(g3 _ af).trans cA
  have k3:(3:Nat)≠nx'+3:=af
  have w1:gW e (s.aJ.any bk)=0:=by unfold gW;rw[if_pos h0,if_neg (by rw[hb];exact Bool.false_ne_true)]
  have hB:jc s.sig (s.binds++E):=yI h va vc (h0 ▸ hf) hE
  have ac4:mid<n2:=g2.lt (by rw[g8];exact ad.noConfusion)
  rw[w1,if_pos rfl]
  have PC:(s.tell b').Cp:=by rw[hE];exact bW.PB h hB
  have M8:(s.tell b').binds=s.binds++E:=by show xe b'=_;rw[hE,ox]
  have fin:∀ (o3:Nat->ad) (n3 i j k:Nat),n2<=n3->(∀q,q<n2->q≠nx'+3->(q<nx'+11)->o3 q=o2 q)->o3 i= .arr 0 59 4 ((s.tell b').binds.map TB.d)->o3 j= .arr 0 101 6 ((s.tell b').aJ.map Nt.d)->o3 k= .arr 0 77 2 ((s.tell b').marks.map ra)->o3 3= .row [.aq, .aq, .aq, .aq, .aq]/\i≠3/\j≠3/\k≠3:=fun o3 n3 i j k q1 q2 q3 q4 q5=>by
   have e3:o3 3= .row [.aq, .aq, .aq, .aq, .aq]:=by rw[q2 3 (by omega) (by omega) (by omega),f3]
   exact⟨e3,fun e=>(by subst e;rw[q3]at e3;cases e3),fun e=>(by subst e;rw[q4]at e3;cases e3),fun e=>(by subst e;rw[q5]at e3;cases e3)⟩
  rcases g4 with rfl|⟨lb,rfl,l1,l2,l3⟩
  ·refine Yt f3 f8 ?_
   refine dR (yH (s.tell b') PC b' _ _ mid _ ?_ P9 (by rw[M8];rfl) _ _ (fun o3 n3 i j k m1 m2 m3 m4 m5 m6=> ?_))
   ·refine Good.ay (g2.mono af) af ?_
    simp[ad.refs,V.aK,V.refs]
    omega
   obtain⟨z1,z2,z3,z4⟩:=fin o3 n3 i j k af (fun q q1 q2 q3=>by rw[m3 q (by omega) (by simp[V.ids]) (by omega)];(repeat(first|rfl|rw[ab]|rw[ae _ _ _ _ (by omega)]))) m4 m5 m6
   exact Ns z1 z2 z3 z4 m4 m5 m6
  ·have y1:lb≠nx'+3:=af
   refine Yt f3 f8 ?_
   refine dR (yH (s.tell b') PC b' _ _ mid _ ?_ P9 (by rw[M8];simp+contextual (disch:=first|omega|simp only[go_sem,false_implies]) only[go_sem,wrap64,if_pos,l3,y1]) _ _ (fun o3 n3 i j k m1 m2 m3 m4 m5 m6=> ?_))
   ·refine Good.ay (g2.mono af) af ?_
    simp[ad.refs,V.aK,V.refs]
    omega
   obtain⟨z1,z2,z3,z4⟩:=fin o3 n3 i j k af (fun q q1 q2 q3=>by rw[m3 q (by omega) (by simp[V.ids];omega) (by omega)];(repeat(first|rfl|rw[ab]|rw[ae _ _ _ _ (by omega)]))) m4 m5 m6
   exact Ns z1 z2 z3 z4 m4 m5 m6
end Go.Proofs.YtlhemmpklhhgoaaGreat
