/-
  A PART OF THE PROOF. Conditions: none.
-/
import Derived.Test.YtlhemmpklhhgoaaGreatQn19
set_option linter.unusedSimpArgs false
set_option linter.unusedVariables false
set_option maxHeartbeats 4000000
namespace Go.Proofs.YtlhemmpklhhgoaaGreat
structure bU.Cp (s:bU):Prop where
 lc:s.sig.cons.length<=1000000
 lf:s.sig.b9.length<=1000000
 bl:s.binds.length<=1000
 nl:s.aH.length<=1000
 ml:s.marks.length<=1000
 bt:∀x∈s.binds,x.term.sz<=1000000
 nt:∀n∈s.aH,n.a.sz<=1000000/\n.b.sz<=1000000
def Ae(o:Nat->ab)(nx:Nat)(s:bU)(b:List (Int×Tm))(x:V)(y:V)(l:List D):Nat->ab:=
 ay (ay (ay (ay (ay o nx (.row [.d (.sl (s.sig.cons.map ei.d)), .d (.sl (s.sig.b9.map ei.d)), .d (.sl (s.binds.map TB.d)), .d (.sl (s.aH.map Nt.d)), .d (.sl (s.marks.map tx)), .d (EG b)])) (nx+1) (.row [.aw, .aw, .aw, .aw, .aw])) (nx+16) (.arr 0 77 2 (s.marks.map tx)))
  (nx+18) (.row [.d (.sl (s.sig.cons.map ei.d)), .d (.sl (s.sig.b9.map ei.d)),x,y, .osl (nx+16) 0])) (nx+20) (.arr 0 59 4 l)
theorem EP(o:Nat->ab)(nx:Nat)(s:bU)(b:List (Int×Tm))(x y:V)(l:List D):Ae o nx s b x y l nx= .row [.d (.sl (s.sig.cons.map ei.d)), .d (.sl (s.sig.b9.map ei.d)), .d (.sl (s.binds.map TB.d)), .d (.sl (s.aH.map Nt.d)), .d (.sl (s.marks.map tx)), .d (EG b)]:=I4
theorem stA_1(o:Nat->ab)(nx:Nat)(s:bU)(b:List (Int×Tm))(x y:V)(l:List D):Ae o nx s b x y l (nx+1)= .row [.aw, .aw, .aw, .aw, .aw]:=I4
theorem stA_16(o:Nat->ab)(nx:Nat)(s:bU)(b:List (Int×Tm))(x y:V)(l:List D):Ae o nx s b x y l (nx+16)= .arr 0 77 2 (s.marks.map tx):=I4
theorem stA_18(o:Nat->ab)(nx:Nat)(s:bU)(b:List (Int×Tm))(x y:V)(l:List D):Ae o nx s b x y l (nx+18)= .row [.d (.sl (s.sig.cons.map ei.d)), .d (.sl (s.sig.b9.map ei.d)),x,y, .osl (nx+16) 0]:=I4
theorem stA_20(o:Nat->ab)(nx:Nat)(s:bU)(b:List (Int×Tm))(x y:V)(l:List D):Ae o nx s b x y l (nx+20)= .arr 0 59 4 l:=I4
theorem xo(o:Nat->ab)(nx:Nat)(s:bU)(b:List (Int×Tm))(x y:V)(l:List D){j:Nat}(h0:j≠nx)(h1:j≠nx+1)(h2:j≠nx+16)(h3:j≠nx+18)(h4:j≠nx+20):Ae o nx s b x y l j=o j:=I4
theorem Of(o:Nat->ab)(nx:Nat)(s:bU)(b:List (Int×Tm))(x y x' y':V)(l l':List D){j:Nat}(h1:j<nx+20)(h2:j≠nx+18):Ae o nx s b x y l j=Ae o nx s b x' y' l' j:=by
 have e:∀x y l,Ae o nx s b x y l j=ay (ay (ay o nx (.row [.d (.sl (s.sig.cons.map ei.d)), .d (.sl (s.sig.b9.map ei.d)), .d (.sl (s.binds.map TB.d)), .d (.sl (s.aH.map Nt.d)), .d (.sl (s.marks.map tx)), .d (EG b)])) (nx+1) (.row [.aw, .aw, .aw, .aw, .aw])) (nx+16) (.arr 0 77 2 (s.marks.map tx)) j:=fun x y l=>by
  unfold Ae
  rw[ae _ _ _ _ (show j≠nx+20 by omega),ae _ _ _ _ h2]
 rw[e,e]
theorem Og{o:Nat->ab}{nx:Nat}(hg:Good o nx)(s:bU)(b:List (Int×Tm))(i:Nat)(y:V)(hy:y.refs=[])(l:List D):Good (Ae o nx s b (.osl (nx+20) i) y l) (nx+21):=by
 unfold Ae
 refine Good.ay (Good.ay (Good.ay (Good.ay (Good.ay (hg.mono af) af rfl) af rfl) af rfl) af ?_) af rfl
 simp[ab.refs,V.aL,V.refs,hy]
theorem It(gone:Nat->Prop)(x:V)(L:List V){o:Nat->ab}{nx:Nat}(hg:Good o nx){s:bU}{b:List (Int×Tm)}{l:List D}(ta:∀id,gone id->nx+20<=id){e:Nat->V}{so:Nat->ab}{m:Nat}(gx:fW so gone 59 4 l x)
 (s18:so (nx+18)= .row [.d (.sl (s.sig.cons.map ei.d)), .d (.sl (s.sig.b9.map ei.d)),x, .aw, .osl (nx+16) 0]) (h:∀j,j<nx+20->j≠nx+18->so j=Ae o nx s b (.osl (nx+20) 0) .aw l j) (he:iV (nx+20) [⟨x,59,4,l⟩] so gone e L 0):
 bO nx ⟨e,so,m⟩ ⟨aZ L,Ae o nx s b (.osl (nx+20) 0) .aw l,nx+21⟩:=by
 refine bO.uK gone x (nx+20) L af (fun j hj=> ?_) (stA_20 _ _ _ _ _ _ _) gx (fun j hj=> ?_) (fun j h1 h2=>absurd (ta j h1) af) he
 ·by_cases e1:j=nx+18
  ·subst e1
   rw[stA_18]
   exact lL s18 (mi (mi (vn 0 rfl rfl rfl (vm pk (vm pk lM)))))
  ·refine bD (h j hj e1) (fun r hr=> ?_)
   by_cases e2:j=nx
   ·exact Sz
   ·by_cases e3:j=nx+1
    ·subst e3;rw[stA_1]at hr;simp[ab.refs,V.aL,V.refs]at hr
    ·by_cases e4:j=nx+16
     ·subst e4;rw[stA_16]at hr;simp[ab.refs]at hr
     ·rw[xo _ _ _ _ _ _ _ e2 e3 e4 e1 (by omega)]at hr
      have:=hg.refs j r hr
      omega
 ·rw[xo _ _ _ _ _ _ _ (by omega) (by omega) (by omega) (by omega) (by omega)]
  exact B2
def EH(o:Nat->ab)(nx:Nat)(s:bU)(b:List (Int×Tm))(l:List D):Nat->ab:=ay (Ae o nx s b (.osl (nx+20) 0) (.osl (nx+21) 0) (s.binds.map TB.d)) (nx+21) (.arr 0 101 6 l)
theorem Iu(gone:Nat->Prop)(x:V)(L:List V){o:Nat->ab}{nx:Nat}(hg:Good o nx){s:bU}{b:List (Int×Tm)}{l:List D}(ta:∀id,gone id->nx+21<=id){e:Nat->V}{so:Nat->ab}{m:Nat}(gx:fW so gone 101 6 l x)
 (s18:so (nx+18)= .row [.d (.sl (s.sig.cons.map ei.d)), .d (.sl (s.sig.b9.map ei.d)), .osl (nx+20) 0,x, .osl (nx+16) 0]) (h:∀j,j<nx+21->j≠nx+18->so j=EH o nx s b l j) (he:iV (nx+21) [⟨x,101,6,l⟩] so gone e L 0):
 bO nx ⟨e,so,m⟩ ⟨aZ L,EH o nx s b l,nx+22⟩:=by
 refine bO.uK gone x (nx+21) L af (fun j hj=> ?_) (aa _ _ _) gx (fun j hj=> ?_) (fun j h1 h2=>absurd (ta j h1) af) he
 ·by_cases e1:j=nx+18
  ·subst e1
   rw[EH,ae _ _ _ _ (by omega),stA_18]
   exact lL s18 (mi (mi (vm pk (vn 0 rfl rfl rfl (vm pk lM)))))
  ·refine bD (h j hj e1) (fun r hr=> ?_)
   rw[EH,ae _ _ _ _ (by omega)]at hr
   by_cases e2:j=nx
   ·exact Sz
   ·by_cases e3:j=nx+1
    ·subst e3;rw[stA_1]at hr;simp[ab.refs,V.aL,V.refs]at hr
    ·by_cases e4:j=nx+16
     ·subst e4;rw[stA_16]at hr;simp[ab.refs]at hr
     ·by_cases e5:j=nx+20
      ·subst e5;rw[stA_20]at hr;simp[ab.refs]at hr
      ·rw[xo _ _ _ _ _ _ _ e2 e3 e4 e1 e5]at hr
       have:=hg.refs j r hr
       omega
 ·rw[EH,ae _ _ _ _ (by omega),xo _ _ _ _ _ _ _ (by omega) (by omega) (by omega) (by omega) (by omega)]
  exact B2
theorem Bz(s:bU)(hs:s.Cp)(b:List (Int×Tm))(o:Nat->ab)(nx:Nat)(hg:Good o nx)(K X:V->(Nat->ab)->Nat->Prop)
 (xh:∀o' nx' i j k,nx<=nx'->Good o' nx'->(∀j,j<nx->o' j=o j)->
  o' i= .arr 0 59 4 (s.binds.map TB.d)->o' j= .arr 0 101 6 (s.aH.map Nt.d)->o' k= .arr 0 77 2 (s.marks.map tx)->
  K (.agg [.d (.sl (s.sig.cons.map ei.d)), .d (.sl (s.sig.b9.map ei.d)), .osl i 0, .osl j 0, .osl k 0]) o' nx'):
 bQ Tryz.prog 65 [.d (s.kd b)] o nx K X:=by
 refine bQ.aG mix adf aE ?_
 rw[c65]
 refine fZ ?_
 refine aV (Eh s.sig.cons hs.lc) ?_
 refine fZ ?_
 refine aV (Eh s.sig.b9 hs.lf) ?_
 refine fZ ?_
 refine zq rfl (Gq s.marks (by have:=hs.ml;omega) _ _) ?_
 refine fZ ?_
 refine aI (bu (ids:=[nx,nx+16,nx+18]) (nx:=nx+20) aE aE [([0],[]),([0],[]),([0],[]),([0],[]),([],[]),([0],[]),([0],[]),([0],[]),([0],[]),([],[]),([],[]),([0],[]),([0],[]),([0],[]),([],[1]),([],[]),([],[2]),([2,1],[2])] bC) ?_
 refine fZ ?_
 refine aD (fun i:Nat=>⟨aZ [.ad, .ptr nx 0, .ptr (nx+1) 0, .ptr (nx+18) 0, .ad, .ad, .ad, .ad, .ad, .ad, .ad, .ad, .ad, .ad, .ad, .ad, .ad, .ad, .ad, .ad, .ad, .ad, .ad, .ad, .ad, .ad, .d (.sl (s.binds.map TB.d)), .d (.i s.binds.length), .d (.i i)],Ae o nx s b (.osl (nx+20) 0) .aw ((s.binds.take i).map TB.d),nx+21⟩)
  (fun i=>i<=s.binds.length) (fun i=>s.binds.length - i) 0 (Nat.zero_le _) (It (fun _=>False) .aw _ hg (fun _ h=>h.elim) (.inl ⟨rfl,rfl,bC⟩) cg (fun j h1 h2=>by unfold Ae;rw[ae _ _ _ _ (show j≠nx+20 by omega),ae _ _ _ _ h2,ae _ _ _ _ h2,ae _ _ _ _ h2]) ?_) (fun k hk=> ?_)
 ·exact kG
 replace hk:k<=s.binds.length:=hk
 have f0:=EP o nx s b (.osl (nx+20) 0) .aw ((s.binds.take k).map TB.d)
 have f1:=stA_1 o nx s b (.osl (nx+20) 0) .aw ((s.binds.take k).map TB.d)
 have f16:=stA_16 o nx s b (.osl (nx+20) 0) .aw ((s.binds.take k).map TB.d)
 have f18:=stA_18 o nx s b (.osl (nx+20) 0) .aw ((s.binds.take k).map TB.d)
 have f20:=stA_20 o nx s b (.osl (nx+20) 0) .aw ((s.binds.take k).map TB.d)
 refine IU f0 f1 f16 f18 f20 ?_
 refine ao (fun h2=> ?_) (fun h2=> ?_)
 ·replace h2:k<s.binds.length:=by simp at h2;omega
  obtain⟨z,hz⟩:=aB h2
  refine aak f0 f1 f16 f18 f20 hz ?_
  refine aV (xn z.term (hs.bt z (List.mem_of_getElem? hz))) ?_
  have e0:(s.binds.take k).length=k:=by rw[List.length_take];omega
  have eE:k<=140737488355327/\(k+1)*48<=140737488355328:=by have:=hs.bl;omega
  simp+contextual (disch:=first|omega|simp only[go_sem,false_implies]) only[go_sem,wrap64,if_pos,f0,f1,f16,f18,f20,hz,List.length_map,e0,if_pos eE,Nat.add_assoc,Nat.left_eq_add,Nat.add_eq_left,Nat.add_left_cancel_iff]
  refine aI (bu (ids:=[nx+18,nx+24,nx+34,nx+20]) (nx:=nx+38) aE aE [([0],[]),([0],[]),([1],[]),([1],[]),([1],[]),([1],[]),([],[]),([],[]),([],[2]),([3,2],[3]),([0],[]),([0,3],[0])] bC) ?_
  refine fZ ?_
  have oz:s.binds.take (k+1)=s.binds.take k++[z]:=by rw[List.take_add_one,hz];rfl
  refine aj (k+1) h2 af (It (fun j=>nx+20<=j) (.osl (nx+20) 1) _ hg (fun _ h=>h) (.inr ⟨nx+20,1,Nat.le_refl _,rfl,by(repeat(first|rfl|rw[aa]|rw[ae _ _ _ _ (by omega)]));rw[oz,List.map_append];rfl⟩) cg (fun j h1 h2=>by(repeat(first|rfl|rw[aa]|rw[ae _ _ _ _ (by omega)]));exact Of _ _ _ _ _ _ _ _ _ _ h1 h2) ?_)
  exact kG
 ·replace h2:k=s.binds.length:=by simp at h2;omega
  subst h2
  refine IU f0 f1 f16 f18 f20 ?_
  rw[List.take_length]
  refine aD (fun i:Nat=>⟨aZ [.ad, .ptr nx 0, .ptr (nx+1) 0, .ptr (nx+18) 0, .ad, .ad, .ad, .ad, .ad, .ad, .ad, .ad, .ad, .ad, .ad, .ad, .ad, .ad, .ad, .ad, .ad, .ad, .ad, .ad, .ad, .ad, .ad, .ad, .ad, .ad, .ad, .ad, .ad, .ad, .ad, .ad, .ad, .ad, .ad, .ad, .ad, .ad, .ad, .ad, .ad, .ad, .d (.sl (s.aH.map Nt.d)), .d (.i s.aH.length), .d (.i i)],EH o nx s b ((s.aH.take i).map Nt.d),nx+22⟩)
   (fun i=>i<=s.aH.length) (fun i=>s.aH.length - i) 0 (Nat.zero_le _) (Iu (fun _=>False) .aw _ hg (fun _ h=>h.elim) (.inl ⟨rfl,rfl,bC⟩) (by rw[stA_18]) (fun j h1 h2=> ?_) ?_) (fun k hk=> ?_)
  ·rw[EH,ae _ _ _ _ (by omega)]
   by_cases e:j=nx+20
   ·subst e;rw[stA_20,stA_20]
   ·exact Of _ _ _ _ _ _ _ _ _ _ af h2
  ·exact kG
  replace hk:k<=s.aH.length:=hk
  have g0:EH o nx s b ((s.aH.take k).map Nt.d) nx=_:=(ae _ _ _ _ af).trans (EP _ _ _ _ _ _ _)
  have g1:EH o nx s b ((s.aH.take k).map Nt.d) (nx+1)=_:=(ae _ _ _ _ af).trans (stA_1 _ _ _ _ _ _ _)
  have g18:EH o nx s b ((s.aH.take k).map Nt.d) (nx+18)=_:=(ae _ _ _ _ af).trans (stA_18 _ _ _ _ _ _ _)
  have g21:EH o nx s b ((s.aH.take k).map Nt.d) (nx+21)=_:=aa _ _ _
  refine BW g0 g1 g18 g21 ?_
  refine ao (fun h2=> ?_) (fun h2=> ?_)
  ·replace h2:k<s.aH.length:=by simp at h2;omega
   obtain⟨z,hz⟩:=aB h2
   refine IU g0 g1 g18 g21 hz ?_
   refine aV (xn z.a (hs.nt z (List.mem_of_getElem? hz)).1) ?_
   refine IU g0 g1 g18 g21 hz ?_
   refine aV (xn z.b (hs.nt z (List.mem_of_getElem? hz)).2) ?_
   have e0:(s.aH.take k).length=k:=by rw[List.length_take];omega
   have eE:k<=140737488355327/\(k+1)*80<=140737488355328:=by have:=hs.nl;omega
   simp+contextual (disch:=first|omega|simp only[go_sem,false_implies]) only[go_sem,wrap64,if_pos,g0,g1,g18,g21,hz,List.length_map,e0,if_pos eE,Nat.add_assoc,Nat.left_eq_add,Nat.add_eq_left,Nat.add_left_cancel_iff]
   refine aI (bu (ids:=[nx+18,nx+25,nx+36,nx+21]) (nx:=nx+40) aE aE [([0],[]),([0],[]),([1],[]),([1],[]),([],[]),([1],[]),([1],[]),([],[]),([],[]),([],[2]),([3,2],[3]),([0],[]),([0,3],[0])] bC) ?_
   refine fZ ?_
   have oz:s.aH.take (k+1)=s.aH.take k++[z]:=by rw[List.take_add_one,hz];rfl
   refine aj (k+1) h2 af (Iu (fun j=>nx+21<=j) (.osl (nx+21) 1) _ hg (fun _ h=>h) (.inr ⟨nx+21,1,Nat.le_refl _,rfl,by(repeat(first|rfl|rw[aa]|rw[ae _ _ _ _ (by omega)]));rw[oz,List.map_append];rfl⟩) cg (fun j h1 h2=>by(repeat(first|rfl|rw[aa]|rw[ae _ _ _ _ (by omega)]));unfold EH;(repeat(first|rfl|rw[aa]|rw[ae _ _ _ _ (by omega)]))) ?_)
   exact kG
  ·replace h2:k=s.aH.length:=by simp at h2;omega
   subst h2
   refine BW g0 g1 g18 g21 ?_
   refine xh _ _ (nx+20) (nx+21) (nx+16) af ?_ (fun j hj=> ?_) ?_ ?_ ?_
   ·have h1:=Og hg s b 0 .aw rfl (s.binds.map TB.d)
    unfold EH Ae
    refine Good.ay (Good.ay (Good.ay (Good.ay (Good.ay (Good.ay (Good.ay (hg.mono af) af rfl) af rfl) af rfl) af ?_) af rfl) af rfl) af ?_
    ·exact ur
    ·exact ur
   ·(repeat(first|rfl|rw[aa]|rw[ae _ _ _ _ (by omega)]))
    rw[EH,ae _ _ _ _ (by omega)]
    exact xo _ _ _ _ _ _ _ af af af af af
   ·(repeat(first|rfl|rw[aa]|rw[ae _ _ _ _ (by omega)]))
    rw[EH,ae _ _ _ _ (by omega)]
    exact stA_20 _ _ _ _ _ _ _
   ·(repeat(first|rfl|rw[aa]|rw[ae _ _ _ _ (by omega)]))
    rw[g21,List.take_length]
   ·(repeat(first|rfl|rw[aa]|rw[ae _ _ _ _ (by omega)]))
    rw[EH,ae _ _ _ _ (by omega)]
    exact stA_16 _ _ _ _ _ _ _
end Go.Proofs.YtlhemmpklhhgoaaGreat
set_option maxHeartbeats 4000000
namespace Go.Proofs.YtlhemmpklhhgoaaGreat
def kZ:bU:=⟨⟨[],[]⟩,[],[],[]⟩
theorem o9:kZ.d= .agg [.sl [], .sl [], .sl [], .sl [], .sl []]:=rfl
def bU.mark (s:bU):bU:=⟨s.sig,s.binds,s.aH,s.marks++[((s.binds.length:Int),(s.aH.length:Int))]⟩
theorem Rq{s:aA}(h:ju s=true):s.cons.length<=1000000/\s.b9.length<=1000000:=by
 unfold ju at h
 split at h
 ·cases h
 ·rename_i h1
  simp only[Bool.or_eq_true,not_or,decide_eq_true_eq,Bool.not_eq_true',Bool.not_eq_false,dU,Bool.and_eq_true]at h1
  omega
theorem bw.cp {s:bU}(h:bw s):s.Cp:=by
 obtain⟨k1,k2⟩:=Rq h.sig
 have a1:=h.rW
 have a2:=h.D8
 have a3:=h.jk.len
 refine⟨k1,k2,af,af,af,fun x hx=> ?_,fun n hn=> ?_⟩
 ·have:=(bz (h.jk.ok x hx).2).2.1
  omega
 ·have h1:=(bz (h.aH n hn).1).2.1
  have h2:=(bz (h.aH n hn).2.1).2.1
  omega
theorem Oh{o:Nat->ab}{id:Nat}{es:List (D×D)}(h:o id= .cj es):put o (bG o [id])=o:=by
 funext j
 simp only[bG,List.map_cons,List.map_nil,h,put,List.foldl_cons,List.foldl_nil]
 by_cases e:j=id
 ·subst e;rw[aa,h]
 ·exact GV
theorem Oi(s:bU)(hs:s.Cp)(b:List (Int×Tm))(o:Nat->ab)(nx id:Nat)(hg:Good o nx)(ax:o id= .cj (enc (D.int .i64) (kD b)))(K X:V->(Nat->ab)->Nat->Prop)
 (xh:∀o' nx' i j k,nx<=nx'->Good o' nx'->(∀j,j<nx->o' j=o j)->
  o' i= .arr 0 59 4 (s.binds.map TB.d)->o' j= .arr 0 101 6 (s.aH.map Nt.d)->o' k= .arr 0 77 2 (s.marks.map tx)->
  K (.agg [.d (.sl (s.sig.cons.map ei.d)), .d (.sl (s.sig.b9.map ei.d)), .osl i 0, .osl j 0, .osl k 0]) o' nx'):
 bQ Tryz.prog 65 [.agg [.d (.sl (s.sig.cons.map ei.d)), .d (.sl (s.sig.b9.map ei.d)), .d (.sl (s.binds.map TB.d)), .d (.sl (s.aH.map Nt.d)), .d (.sl (s.marks.map tx)), .mp id]] o nx K X:=by
 refine bQ.xf (d:=s.kd b) ?_ ?_
 ·exact Ad ax
 ·show bQ _ _ _ (put o (bG o [id])) nx K X
  rw[Oh ax]
  exact Bz s hs b o nx hg K X xh
def bU.Kw (s:bU):bU:=match s.marks.getLast? with
 |some m=>⟨s.sig,s.binds.take m.1.toNat,s.aH.take m.2.toNat,s.marks.dropLast⟩
 |none=>kZ
theorem Ei{nb nn:Int}:∀ {l:List (Int×Int)} {a:Int×Int},0<=a.1->0<=a.2->mR nb nn a l=true->∀m∈l,0<=m.1/\m.1<=nb/\0<=m.2/\m.2<=nn
 |[],_,_,_,_,m,hm=>by cases hm
 |x::l,a,h1,h2,h,m,hm=>by
  simp only[mR,Bool.and_eq_true,Bool.not_eq_true',Bool.or_eq_false_iff,decide_eq_false_iff_not]at h
  obtain⟨⟨⟨⟨g1,g2⟩,g3⟩,g4⟩,g5⟩:=h
  rcases List.mem_cons.1 hm with rfl|hm
  ·omega
  ·exact Ei af af g5 m hm
end Go.Proofs.YtlhemmpklhhgoaaGreat
namespace Go.Proofs.YtlhemmpklhhgoaaGreat
section
section
variable {P:Program}
def tD(P:Program)(n t t1:Nat)(ic:IC)(bR:List V)(u:V)(o:Nat->ab)(nx:Nat)(K:(Nat->ab)->Nat->Prop):Prop:=
 bR.length<=n/\ke P n nx true ic (JY K) ⟨ay (ay (cB bR) t u) t1 u,o,nx⟩
def r9(P:Program)(n t t1:Nat)(ic:IC)(bR:List V)(rs:List ResultVar)(K X:V->(Nat->ab)->Nat->Prop)(e:fS)(s:S):Prop:=
 match e with
 | .normal| .ret=>tD P n t t1 ic bR (.d .fg) s.o s.nx fun o nx=>s9 P rs K X .ret ⟨s.env,o,nx⟩
 | .bN v=>tD P n t t1 ic bR v s.o s.nx fun o nx=>s9 P rs K X .ret ⟨s.env,o,nx⟩
 | .exit _=>False
def BA(P:Program)(n t:Nat)(fG:IC)(fM:List Operand)(g:FuncId)(D:List V->fS->S->Prop)(e:fS)(s:S):Prop:=
 match e with
 | .normal=>ke P n s.nx false fG (D (fM.map s.ev)) ⟨ay s.env t (.func (.func g) [] (fM.map s.ev)),s.o,s.nx⟩
 |_=>False
variable {n t t1:Nat}{ic fG:IC}{bR:List V}{rs:List ResultVar}{K X:V->(Nat->ab)->Nat->Prop}{s:S}{v:V}{fM:List Operand}{g:FuncId}{D:List V->fS->S->Prop}{KR:(Nat->ab)->Nat->Prop}
@[go_sem ↓] theorem Oj:r9 P n t t1 ic bR rs K X .normal s=tD P n t t1 ic bR (.d .fg) s.o s.nx fun o nx=>s9 P rs K X .ret ⟨s.env,o,nx⟩:=propext Iff.rfl
@[go_sem ↓] theorem Vc:r9 P n t t1 ic bR rs K X .ret s=tD P n t t1 ic bR (.d .fg) s.o s.nx fun o nx=>s9 P rs K X .ret ⟨s.env,o,nx⟩:=propext Iff.rfl
@[go_sem ↓] theorem Vd:r9 P n t t1 ic bR rs K X (.bN v) s=tD P n t t1 ic bR v s.o s.nx fun o nx=>s9 P rs K X .ret ⟨s.env,o,nx⟩:=propext Iff.rfl
@[go_sem ↓] theorem Ol:BA P n t fG fM g D .normal s=ke P n s.nx false fG (D (fM.map s.ev)) ⟨ay s.env t (.func (.func g) [] (fM.map s.ev)),s.o,s.nx⟩:=propext Iff.rfl
@[go_sem ↓] theorem Ve:JY KR .normal s=KR s.o s.nx:=propext Iff.rfl
@[go_sem ↓] theorem aeW:JY KR .ret s=KR s.o s.nx:=propext Iff.rfl
theorem tD.w {o:Nat->ab}{nx:Nat}{K K':(Nat->ab)->Nat->Prop}(hK:∀o nx,K o nx->K' o nx)(h:tD P n t t1 ic bR v o nx K):FH P n t t1 ic bR v o nx K':=by
 refine⟨h.1,eh ic _ _ _ (fun e s h=> ?_) h.2⟩
 unfold JY at h|-
 cases e with
 |normal=>exact hK _ _ h
 |ret=>exact hK _ _ h
 |_=>exact h
theorem bQ.Kx (bn:P.follows .mixedOrders=true){f g:FuncId}{jV fG zu:IC}{t m r r1:Nat}{fM:List Operand}{rs:List ResultVar}(hf:Hz P f n jV fG g t fM rs)(hg:Dj P g m r r1 zu)
 {args:List V} {o:Nat->ab} {nx:Nat} {K X:V->(Nat->ab)->Nat->Prop} (hl:args.length<=n)
 (h:ke P n nx true jV (BA P n t fG fM g fun bR=>r9 P m r r1 zu bR rs K X) ⟨cB args,o,nx⟩):bQ P f args o nx K X:=by
 refine bQ.Dm bn hf hg hl (eh jV _ _ _ (fun e s h=> ?_) h)
 unfold BA at h
 unfold Dk
 cases e with
 |normal=>
  refine eh fG _ _ _ (fun e s h=> ?_) h
  unfold r9 at h
  unfold A6
  cases e with
  |normal=>exact tD.w (fun _ _ h=>by unfold s9 at h;exact h) h
  |ret=>exact tD.w (fun _ _ h=>by unfold s9 at h;exact h) h
  |bN v=>exact tD.w (fun _ _ h=>by unfold s9 at h;exact h) h
  |exit _=>exact h
 |_=>exact h
end
attribute [irreducible] tD
theorem qD{P:Program}{n t t1:Nat}{ic:IC}{bR:List V}{v:V}{o:Nat->ab}{nx:Nat}{K:(Nat->ab)->Nat->Prop}(h1:bR.length<=n)(h2:ke P n nx true ic (JY K) ⟨ay (ay (cB bR) t v) t1 v,o,nx⟩):tD P n t t1 ic bR v o nx K:=by
 unfold tD
 exact⟨h1,h2⟩
end
end Go.Proofs.YtlhemmpklhhgoaaGreat
set_option maxHeartbeats 4000000
namespace Go.Proofs.YtlhemmpklhhgoaaGreat
theorem YS{o:Nat->ab}:pn Tryz.prog o 20 true (.d .fg) (.d .fg)=some (.d (.bool true)):=ai
theorem YT{o:Nat->ab}:pn Tryz.prog o 20 true (.d (.iface 162 (.agg []))) (.d .fg)=some (.d (.bool false)):=ai
theorem YU{o:Nat->ab}:pn Tryz.prog o 20 true (.d (.iface 163 (.agg []))) (.d .fg)=some (.d (.bool false)):=ai
theorem Ej:vC Tryz.prog 162=true:=ai
theorem Ek:vC Tryz.prog 163=true:=ai
def AtK(K:V->(Nat->ab)->Nat->Prop)(nx:Nat)(e:Int)(o':Nat->ab)(nx':Nat):Prop:=
 nx+2<=nx'/\Good o' nx'/\o' nx= .row [.d (.i 0)]/\∀o2 n2,nx'<=n2->Good o2 n2->(∀j,j≠nx->j<nx'->o2 j=o' j)->K (.d (.i e)) o2 n2
theorem zX(g:Nat)(bR:List V)(o:Nat->ab)(nx:Nat)(hg:Good o nx)(K X:V->(Nat->ab)->Nat->Prop)
 (hc:bQ Tryz.prog g bR (ay o nx (.row [.d (.i 0)])) (nx+2) (fun v o' nx'=>AtK K nx 0 o' nx')
  (fun v o' nx'=>(v= .d (.iface 162 (.agg []))/\AtK K nx 5 o' nx')\/(v= .d (.iface 163 (.agg []))/\AtK K nx 3 o' nx'))):
 bQ Tryz.prog 101 [.func (.func g) [] bR] o nx K X:=by
 refine bQ.Kx mix Nb M9 aE ?_
 rw[Na,Xr]
 refine fZ ?_
 refine gK (bQ.mono (fun v o' nx' h=> ?_) (fun v o' nx' h=> ?_) hc)
 ·obtain⟨h1,h2,h3,h4⟩:=h
  refine IQ h3 ?_
  refine qD aE ?_
  rw[M8]
  simp+contextual (disch:=first|omega|simp only[go_sem,false_implies]) only[go_sem,wrap64,if_pos,Nat.add_assoc,Nat.left_eq_add,Nat.add_eq_left,Nat.add_left_cancel_iff,h3,YS]
  exact h4 _ _ af (Good.ay (h2.mono af) af rfl) (fun j j1 j2=>ae _ _ _ _ j1)
 ·rcases h with⟨rfl,h1,h2,h3,h4⟩|⟨rfl,h1,h2,h3,h4⟩
  ·refine IQ h3 ?_
   refine qD aE ?_
   rw[M8]
   simp+contextual (disch:=first|omega|simp only[go_sem,false_implies]) only[go_sem,wrap64,if_pos,Nat.add_assoc,Nat.left_eq_add,Nat.add_eq_left,Nat.add_left_cancel_iff,h3,YT,Ej,Ek]
   exact aaz
  ·refine IQ h3 ?_
   refine qD aE ?_
   rw[M8]
   simp+contextual (disch:=first|omega|simp only[go_sem,false_implies]) only[go_sem,wrap64,if_pos,Nat.add_assoc,Nat.left_eq_add,Nat.add_eq_left,Nat.add_left_cancel_iff,h3,YU,Ej,Ek]
   exact aaz
theorem BB(s:bU)(hs:s.Fin)(a c:Tm)(ha:a.Fin)(hc:c.Fin)(o:Nat->ab)(nx:Nat)(hg:Good o nx)(K X:V->(Nat->ab)->Nat->Prop)
 (xh:bw s->bB s.sig a=true->bB s.sig c=true->∀o' nx' id,nx<=nx'->Good o' nx'->(∀j,j<nx->o' j=o j)->o' id= .cj (enc (D.int .i64) (kD (ah s.binds)))->K (.bW [.agg (s.row++[.mp id]), .d (.bool true)]) o' nx')
 (nk: ¬ (bw s/\bB s.sig a=true/\bB s.sig c=true)->∀o' nx' id m,nx<=nx'->id<nx'->Good o' nx'->(∀j,j<nx->o' j=o j)->o' id=dv m\/o' id= .cj (enc (D.int .i64) (kD m))->K (.bW [.agg (s.row++[.mp id]), .d (.bool false)]) o' nx'):
 bQ Tryz.prog 63 [.d s.d, .d a.d, .d c.d] o nx K X:=by
 refine bQ.aG mix adb aE ?_
 rw[c63]
 refine fZ ?_
 refine bM (Rm s hs _ _ dt _ _ (fun h o' nx' id i1 i2 i3 i4=> ?_) (fun h o' nx' id m i1 i0 i2 i3 i4=> ?_))
 ·have e0:o' nx= .row s.row:=(i3 _ af).trans cg
  have e1:o' (nx+1)= .row a.row:=(i3 _ af).trans cg
  have e2:o' (nx+2)= .row c.row:=(i3 _ af).trans cg
  have e3:o' (nx+3)= .row [.aw, .aw, .aw, .aw, .aw, .d .dL]:=(i3 _ af).trans cg
  have ax:id<nx':=Good.lt i2 GG
  have w1:∀k,nx≠nx'+k:=fun k=>af
  have w2:∀k j,nx+j≠nx'+k\/True:=fun k j=> .inr trivial
  have w3:∀k,id≠nx'+k:=fun k=>af
  have hgr:Good (ay (ay o' (nx'+3) (.row [.aw, .aw, .aw, .aw, .aw, .d .dL])) (nx'+3) (.row (s.row++[.mp id]))) (nx'+6):=by
   refine Good.ay (Good.ay (i2.mono af) af rfl) af ?_
   simp[ab.refs,V.aL,V.refs]
   omega
  have d1:id≠nx+1:=fun e=>by subst e;rw[i4]at e1;cases e1
  have d2:id≠nx+2:=fun e=>by subst e;rw[i4]at e2;cases e2
  have d3:id≠nx+3:=fun e=>by subst e;rw[i4]at e3;cases e3
  have kno: ¬ (bB s.sig a=true/\bB s.sig c=true)->∀o2 n2,nx'<=n2->Good o2 n2->(∀j,j<nx->o2 j=o' j)->o2 id=o' id->K (.bW [.agg (s.row++[.mp id]), .d (.bool false)]) o2 n2:=fun hv o2 n2 q1 q2 q3 q4=>
   nk (fun h=>hv h.2) o2 n2 id (ah s.binds) af af q2 (fun j hj=>by rw[q3 j hj,i3 j (by omega)];(repeat(first|rfl|rw[aa]|rw[ae _ _ _ _ (by omega)]))) (.inr (by rw[q4,i4]))
  refine EK e0 e1 e2 e3 i4 w1 w3 ?_
  refine a7 (oB s hs.sig (ah s.binds) a ha) rfl ?_
  cases va:bB s.sig a with
  |false=>
   refine EK e0 e1 e2 e3 i4 w1 w3 ?_
   refine aI (bu (ids:=[nx'+3,nx+1,nx+2,nx+3,id]) (nx:=nx'+20) gP gP [([0],[]),([],[]),([],[]),([0],[]),([1],[]),([4],[]),([],[]),([],[]),([],[]),([],[]),([],[]),([],[]),([3,4],[3]),([],[])] bC) ?_
   refine fZ ?_
   exact kno (fun h=>by rw[va]at h;exact Bool.false_ne_true h.1) _ _ af (Good.ay (Good.mono hgr af) af Ln) (fun j hj=>by(repeat(first|rfl|rw[aa]|rw[ae _ _ _ _ (by omega)]))) cg
  |true=>
   refine EK e0 e1 e2 e3 i4 w1 w3 ?_
   refine a7 (oB s hs.sig (ah s.binds) c hc) rfl ?_
   cases vc:bB s.sig c with
   |false=>
    refine EK e0 e1 e2 e3 i4 w1 w3 ?_
    refine aI (bu (ids:=[nx'+3,nx+1,nx+2,nx+3,id]) (nx:=nx'+20) gP gP [([0],[]),([],[]),([],[]),([0],[]),([1],[]),([4],[]),([],[]),([],[]),([0],[]),([2],[]),([4],[]),([],[]),([3,4],[3]),([],[])] bC) ?_
    refine fZ ?_
    exact kno (fun h=>by rw[vc]at h;exact Bool.false_ne_true h.2) _ _ af (Good.ay (Good.mono hgr af) af Ln) (fun j hj=>by(repeat(first|rfl|rw[aa]|rw[ae _ _ _ _ (by omega)]))) cg
   |true=>
    refine EK e0 e1 e2 e3 i4 w1 w3 ?_
    refine aI (bu (ids:=[nx'+3,nx+1,nx+2,nx+3,id]) (nx:=nx'+20) gP gP [([0],[]),([],[]),([],[]),([0],[]),([1],[]),([4],[]),([],[]),([],[]),([0],[]),([2],[]),([4],[]),([],[]),([3,4],[3]),([],[])] bC) ?_
    refine fZ ?_
    exact xh h va vc _ _ id af (Good.ay (Good.mono hgr af) af Ln) (fun j hj=>by(repeat(first|rfl|rw[aa]|rw[ae _ _ _ _ (by omega)]));rw[i3 j (by omega)];(repeat(first|rfl|rw[aa]|rw[ae _ _ _ _ (by omega)]))) Pu
 ·have e0:o' nx= .row s.row:=(i3 _ af).trans cg
  have e3:o' (nx+3)= .row [.aw, .aw, .aw, .aw, .aw, .d .dL]:=(i3 _ af).trans cg
  have w1:∀k,nx≠nx'+k:=fun k=>af
  have w3:∀k,id≠nx'+k:=fun k=>af
  simp only[bU.row,List.cons_append,List.nil_append]at nk|-
  have e1:o' (nx+1)= .row a.row:=(i3 _ af).trans cg
  have e2:o' (nx+2)= .row c.row:=(i3 _ af).trans cg
  have d1:id≠nx+1:=fun e=>by subst e;rw[e1]at i4;rcases i4 with h|h<;>cases h
  have d2:id≠nx+2:=fun e=>by subst e;rw[e2]at i4;rcases i4 with h|h<;>cases h
  have d3:id≠nx+3:=fun e=>by subst e;rw[e3]at i4;rcases i4 with h|h<;>cases h
  refine BK e0 e3 w1 w3 ?_
  refine aI (bu (ids:=[nx'+3,nx+1,nx+2,nx+3,id]) (nx:=nx'+20) gP gP [([0],[]),([],[]),([],[]),([],[]),([],[]),([],[]),([],[]),([],[]),([],[]),([],[]),([],[]),([],[]),([3,4],[3]),([],[])] bC) ?_
  refine fZ ?_
  refine nk (fun h'=>h h'.1) _ _ id m af af ?_ (fun j hj=>by(repeat(first|rfl|rw[aa]|rw[ae _ _ _ _ (by omega)]));rw[i3 j (by omega)];(repeat(first|rfl|rw[aa]|rw[ae _ _ _ _ (by omega)]))) Pu
  refine Good.ay (Good.ay (Good.ay (i2.mono af) af rfl) af ?_) af ?_
  all_goals (simp[ab.refs,V.aL,V.refs];omega)
end Go.Proofs.YtlhemmpklhhgoaaGreat
set_option maxHeartbeats 4000000
namespace Go.Proofs.YtlhemmpklhhgoaaGreat
theorem Om(l:List Nt)(hl:l.length<=1000)(g:Nat)(kv:V)(kd:D)(brk:Nt->Bool)(hb:∀x∈l,aX Tryz.prog g [kd,x.d] (.ret [.bool (brk x)]))(o:Nat->ab)(nx:Nat)(hg:Good o nx)(hr:∀r∈kv.refs,r<nx)(hk:dM o kv=some kd)(K X:V->(Nat->ab)->Nat->Prop)
 (hK:∀r:Int,decide (0<=r)=l.any brk->∀nx',nx<=nx'->K (.d (.i r)) o nx'):
 bQ Tryz.prog 126 [.d (.sl (l.map Nt.d)), .func (.func g) [kv] []] o nx K X:=by
 refine bQ.aG mix Nd aE ?_
 rw[QJ]
 refine EJ ?_
 refine aD (fun i:Nat=>⟨aZ [.d (.sl (l.map Nt.d)), .func (.func g) [kv] [], .ad, .ad, .ad, .ad, .ad, .d (.i l.length), .d (.i i)],o,nx⟩)
  (fun i=>i<=l.length/\l.any brk=(l.drop i).any brk) (fun i=>l.length - i) 0 ⟨Nat.zero_le _,rfl⟩ ?_ ?_
 ·exact S9
 rintro k ⟨Mn,Ag⟩
 refine EJ ?_
 refine ao (fun h1=> ?_) (fun h1=> ?_)
 ·have h1:k<l.length:=by simp at h1;omega
  obtain⟨x,hx⟩:=aB h1
  have ck:=List.mem_of_getElem? hx
  have hd:l.drop k=x::l.drop (k+1):=by
   exact LN
  rw[hd,List.any_cons]at Ag
  simp+contextual (disch:=first|omega|simp only[go_sem,false_implies]) only[go_sem,wrap64,if_pos,hx,Nat.add_assoc,Nat.left_eq_add,Nat.add_eq_left,Nat.add_left_cancel_iff,List.length_map,hk]
  refine ak (hb x ck) rfl ?_
  cases yy:brk x with
  |true=>
   rw[yy]at Ag
   refine fZ ?_
   exact hK k abb _ af
  |false=>
   rw[yy]at Ag
   refine fZ ?_
   refine aj (k+1) ⟨h1,Ag⟩ af ?_
   exact S9
 ·have h1:k=l.length:=by simp at h1;omega
  subst h1
  refine fZ ?_
  exact hK _ abe _ af
theorem pV(l:List Nt)(hl:l.length<=1000)(g:Nat)(kv:V)(kd:D)(brk:Nt->Bool)(hb:∀x∈l,aX Tryz.prog g [kd,x.d] (.ret [.bool (brk x)]))(o:Nat->ab)(nx:Nat)(hg:Good o nx)(hr:∀r∈kv.refs,r<nx)(hk:dM o kv=some kd)(K X:V->(Nat->ab)->Nat->Prop)
 (hK:∀nx',nx<=nx'->K (.d (.bool (l.any brk))) o nx'):
 bQ Tryz.prog 88 [.d (.sl (l.map Nt.d)), .func (.func g) [kv] []] o nx K X:=by
 refine bQ.aG mix Xq aE ?_
 rw[c88]
 refine fZ ?_
 refine aU (Om l hl g kv kd brk hb o _ (hg.mono af) (fun r h=>by have:=hr r h;omega) hk _ _ fun r h1 nx' h2=> ?_)
 refine IQ h1 ?_
 exact hK _ af
end Go.Proofs.YtlhemmpklhhgoaaGreat
set_option maxHeartbeats 8000000
namespace Go.Proofs.YtlhemmpklhhgoaaGreat
theorem Rr(l:List TB)(hl:l.length<=1000):O4 Tryz.prog 104 [.sl (l.map TB.d)] (.pF (l.map TB.d)):=by
 refine O4.lA rfl ?_
 refine bQ.aG mix Ud aE ?_
 rw[Xu]
 have hc:((l.map TB.d).all fun z=>z.cells.length==4)=true:=by
  rw[List.all_eq_true]
  intro z hz
  obtain⟨r,_,rfl⟩:=List.mem_map.1 hz
  rfl
 have hk:(l.map TB.d).take l.length=l.map TB.d:=List.take_of_length_le aE
 exact aar hk
theorem Rs{s:aA}{b:List (Int×Tm)}{a c:Tm}(hb:qJ s b)(ha:QT s a)(hc:QT s c){f:Nat}{e:Int}{b':List (Int×Tm)}(hf:iw true f a c b=some (e,b')){p q r x m:Nat}(o:Nat->ab)(nx:Nat)(hg:Good o nx)
 (hp:o p= .row [.ptr x 0]) (hq:o q= .row a.row) (hr:o r= .row c.row) (hx:o x= .row [.mp m, .aw, .d (.bool true)]) (hm:o m=dv b) (K X:V->(Nat->ab)->Nat->Prop)
 (aY:e=0->∀E:List TB,b'=b++ah E->∀o' nx' l,nx<=l->nx<=nx'->Good o' nx'->EqH o' x m l 0 true b' E->(∀j,j<nx->j≠x->j≠m->o' j=o j)->K (.bW []) o' nx')
 (nk:e=5->∀o' nx',nx<=nx'->Good o' nx'->(∀j,j<nx->j≠x->j≠m->o' j=o j)->X (.d (.iface 162 (.agg []))) o' nx')
 (Au:e=3->∀o' nx',nx<=nx'->Good o' nx'->(∀j,j<nx->j≠x->j≠m->o' j=o j)->X (.d (.iface 163 (.agg []))) o' nx'):
 bQ Tryz.prog 102 [.ptr p 0, .ptr q 0, .ptr r 0] o nx K X:=by
 have lp:p<nx:=hg.lt GJ
 have lq:q<nx:=hg.lt (by rw[hq];exact ab.noConfusion)
 have lr:r<nx:=hg.lt (by rw[hr];exact ab.noConfusion)
 refine bQ.aG mix Ub aE ?_
 rw[Xs]
 refine R0 hq hr ?_
 refine aU (xg hb ha hc (L:=[]) aE hf (x:=x) (m:=m) (xl:= .aw) o o _ (fun _=>False) ?_ ?_ hx hm (.inl ⟨rfl,rfl,bC⟩) (fun _ h=>h.elim) (fun j _=> .inr rfl) _ _ (fun h0 E hE o' nx' h1 h2 h3 h4=> ?_) (fun h5 o' nx' h1 h2 h4=> ?_) (fun h3 o' nx' h1 h2 h4=> ?_))
 ·exact hg.mono af
 ·exact hg.mono af
 ·refine bY ?_
  exact aY h0 E hE _ _ _ af af h2 h3 (fun j j1 j2 j3=>h4 j af j2 j3)
 ·refine bY ?_
  exact nk h5 _ _ af h2 (fun j j1 j2 j3=>h4 j af j2 j3)
 ·refine bY ?_
  exact Au h3 _ _ af h2 (fun j j1 j2 j3=>h4 j af j2 j3)
theorem bw.aci {s:bU}(h:bw s):qJ s.sig (ah s.binds):=⟨h.jk.keys,fun p hp=>by obtain⟨x,hx,rfl⟩:=ez hp;exact⟨(h.jk.ok x hx).1,xc (h.jk.ok x hx).2⟩,h.jk.DZ⟩
def IsB(o:Nat->ab)(vb:V)(a b:Nat)(L:List D):Prop:=vb= .pF L\/∃l,vb= .osl l 0/\a<=l/\l<b/\o l= .arr 0 59 4 L
theorem On{s:bU}(hs:bw s){a c:Tm}(ha:bB s.sig a=true)(hc:bB s.sig c=true){f:Nat}{e:Int}{b':List (Int×Tm)}(hf:iw true f a c (ah s.binds)=some (e,b')){id:Nat}(o:Nat->ab)(nx:Nat)(hg:Good o nx)
 (ax:o id= .cj (enc (D.int .i64) (kD (ah s.binds)))) (brk:Nt->Bool) (py:e=0->∀E,b'=ah (s.binds++E)->∀n∈s.aH,aX Tryz.prog 66 [bU.kd ⟨s.sig,s.binds++E,s.aH,s.marks⟩ b',n.d] (.ret [.bool (brk n)])) (K X:V->(Nat->ab)->Nat->Prop)
 (nk:e=5\/e=3->∀o' nx',nx<=nx'->Good o' nx'->(∀j,j<nx->o' j=o j)->K (.bW [.agg [.aw, .aw, .aw, .aw, .aw, .d .dL], .d (.i e)]) o' nx')
 (Tv:e=0->s.aH.any brk=true->∀o' nx',nx<=nx'->Good o' nx'->(∀j,j<nx->o' j=o j)->K (.bW [.agg [.aw, .aw, .aw, .aw, .aw, .d .dL], .d (.i 5)]) o' nx')
 (aY:e=0->∀E,b'=ah (s.binds++E)->s.aH.any brk=false->∀o' nx' vb mid,nx<=nx'->Good o' nx'->(∀j,j<nx->o' j=o j)->IsB o' vb nx nx' ((s.binds++E).map TB.d)->nx<=mid->o' mid=dv b'->K (.bW [.agg [.d (.sl (s.sig.cons.map ei.d)), .d (.sl (s.sig.b9.map ei.d)),vb, .d (.sl (s.aH.map Nt.d)), .d (.sl (s.marks.map tx)), .mp mid], .d (.i 0)]) o' nx'):
 bQ Tryz.prog 64 [.agg (s.row++[.mp id]), .d a.d, .d c.d] o nx K X:=by
 have rJ:id<nx:=hg.lt (by rw[ax];exact ab.noConfusion)
 refine bQ.aG mix ade aE ?_
 rw[c64]
 simp only[bU.row,List.cons_append,List.nil_append]
 refine IQ ax ?_
 refine bM (bQ.HB Nf (kt:=3) (vt:=33) (l:=enc (D.int .i64) (kD (ah s.binds))) (by(repeat(first|rfl|rw[aa]|rw[ae _ _ _ _ (by omega)]));exact ax) ?_)
 refine IQ ax ?_
 have hgH:Good (ay (ay (ay (ay (ay (ay (ay (ay o nx (.row (s.row++[.mp id]))) (nx+1) (.row a.row)) (nx+2) (.row c.row)) (nx+3) (.row [.aw, .aw, .aw, .aw, .aw, .d .dL])) (nx+7) (dv (ah s.binds))) (nx+9) (.row [.mp (nx+7), .aw, .d (.bool true)])) (nx+10) (.row [.d .lP])) (nx+10) (.row [.ptr (nx+9) 0])) (nx+13):=by
  refine Good.ay (Good.ay (Good.ay (Good.ay (Good.ay (Good.ay (Good.ay (Good.ay (hg.mono af) af ?_) af rfl) af rfl) af rfl) af rfl) af ?_) af rfl) af ?_
  all_goals (simp[ab.refs,V.aL,V.refs]<;>omega)
 refine aU (zX _ _ _ _ hgH _ _ (Rs hs.aci (xc ha) (xc hc) hf (p:=nx+10) (q:=nx+1) (r:=nx+2) (x:=nx+9) (m:=nx+7) _ _ ?_ cg cg cg cg cg _ _ (fun h0 E hE o1 n1 l g1 g2 g3 g4 g5=>⟨af,g3, ?_,fun o2 n2 k1 k2 k3=> ?_⟩) (fun h5 o1 n1 g2 g3 g5=> .inl ⟨rfl,af,g3, ?_,fun o2 n2 k1 k2 k3=> ?_⟩) (fun h3 o1 n1 g2 g3 g5=> .inr ⟨rfl,af,g3, ?_,fun o2 n2 k1 k2 k3=> ?_⟩)))
 ·exact Good.ay (hgH.mono af) af rfl
 ·exact VD
 ·have ll:l<n1:=g3.lt (by rw[g4.T7];exact ab.noConfusion)
  have f0:o2 nx= .row (s.row++[.mp id]):=by rw[k3 _ (by omega) (by omega),g5 _ (by omega) (by omega) (by omega)];(repeat(first|rfl|rw[aa]|rw[ae _ _ _ _ (by omega)]))
  have f3:o2 (nx+3)= .row [.aw, .aw, .aw, .aw, .aw, .d .dL]:=by rw[k3 _ (by omega) (by omega),g5 _ (by omega) (by omega) (by omega)];(repeat(first|rfl|rw[aa]|rw[ae _ _ _ _ (by omega)]))
  have f10:o2 (nx+10)= .row [.ptr (nx+9) 0]:=by rw[k3 _ (by omega) (by omega),g5 _ (by omega) (by omega) (by omega)];(repeat(first|rfl|rw[aa]|rw[ae _ _ _ _ (by omega)]))
  have f9:o2 (nx+9)= .row [.mp (nx+7), .osl l 0, .d (.bool true)]:=by rw[k3 _ (by omega) (by omega)];exact g4.row
  have f7:o2 (nx+7)=dv b':=by rw[k3 _ (by omega) (by omega)];exact g4.map
  have fl:o2 l= .arr 0 59 4 (E.map TB.d):=by rw[k3 _ (by omega) (by omega)];exact g4.T7
  have c9:∀j,j<nx->o2 j=o j:=fun j hj=>by rw[k3 _ (by omega) (by omega),g5 _ (by omega) (by omega) (by omega)];(repeat(first|rfl|rw[aa]|rw[ae _ _ _ _ (by omega)]))
  have w1:∀k,nx≠n2+k:=fun k=>af
  have w2:∀k,l≠n2+k:=fun k=>af
  have w3:l≠nx:=af
  refine IV f0 f3 f10 f9 f7 fl w1 w2 w3 ?_
  refine zp (Rr s.binds (by have:=hs.jk.len;omega)) ?_
  refine IV f0 f3 f10 f9 f7 fl w1 w2 w3 ?_
  have Rt:b'=ah (s.binds++E):=by rw[hE,dS]
  have hlen:s.binds.length+E.length<=20:=by
   have h1:=(xd f a c _ b' (h0 ▸ hf) hs.aci (xc ha) (xc hc)).1
   have h2:=DY h1.keys fun v hv=>by
    obtain⟨p,hp,rfl⟩:=List.mem_map.1 hv
    exact(h1.ok p hp).1
   rw[List.length_map,Rt]at h2
   unfold ah at h2
   rw[List.length_map,List.length_append]at h2
   exact h2
  have eE:s.binds.length+E.length<=1099511627776/\(s.binds.length+E.length)*48<=1099511627776:=af
  by_cases hn:E=[]
  ·subst hn
   simp+contextual (disch:=first|omega|simp only[go_sem,false_implies]) only[go_sem,wrap64,if_pos,List.map_nil,if_true]
   refine aI (bu (ids:=[nx,nx+10,nx+9,l]) (nx:=n2+21) gP gP [([0],[]),([0],[]),([0],[]),([],[]),([1],[]),([2],[]),([2],[]),([2],[]),([3],[]),([0],[]),([0],[]),([0],[0])] bC) ?_
   refine Ac f3 f10 f9 f7 w1 ?_
   have uD:=hs.rW
   refine aU (pV s.aH af 66 _ _ brk (py h0 [] Rt) _ _ ?_ ?_ ?_ _ _ (fun n3 h3=> ?_))
   ·refine(Good.ay (Good.ay (k2.mono af) af ?_) af ?_)
    all_goals (simp[ab.refs,V.aL,V.refs]<;>omega)
   ·intro r hr
    simp[V.aL,V.refs]at hr
    omega
   ·simp+contextual (disch:=first|omega|simp only[go_sem,false_implies]) only[go_sem,wrap64,if_pos,f7,w1,Nat.add_assoc,Nat.left_eq_add,Nat.add_eq_left,Nat.add_left_cancel_iff,List.append_nil]
   cases OW:s.aH.any brk with
   |true=>
    refine Ac f3 f10 f9 f7 w1 ?_
    refine Tv h0 OW _ _ af (Good.ay (Good.ay (Good.ay (k2.mono af) af ?_) af ?_) af ?_) (fun j hj=>by(repeat(first|rfl|rw[aa]|rw[ae _ _ _ _ (by omega)]));exact c9 j hj)
    all_goals (simp[ab.refs,V.aL,V.refs]<;>omega)
   |false=>
    refine Ac f3 f10 f9 f7 w1 ?_
    refine aY h0 [] Rt OW _ _ (.pF (s.binds.map TB.d)) (nx+7) af (Good.ay (Good.ay (Good.ay (k2.mono af) af ?_) af ?_) af ?_) (fun j hj=>by(repeat(first|rfl|rw[aa]|rw[ae _ _ _ _ (by omega)]));exact c9 j hj) (.inl (by rw[List.append_nil])) af Ll
    all_goals (simp[ab.refs,V.aL,V.refs]<;>omega)
  ·have Mc: ¬List.map TB.d E=[]:=by simpa using hn
   rw[if_neg Mc,if_pos eE]
   refine IV f0 f3 f10 f9 f7 fl w1 w2 w3 ?_
   refine aI (bu (ids:=[nx,nx+10,nx+9,l,n2+17]) (nx:=n2+21) gP gP [([0],[]),([0],[]),([0],[]),([],[]),([1],[]),([2],[]),([2],[]),([2],[]),([3],[4]),([0],[]),([0],[]),([0,4],[0])] bC) ?_
   refine Ac f3 f10 f9 f7 w1 ?_
   have uD:=hs.rW
   refine aU (pV s.aH af 66 _ _ brk (py h0 E Rt) _ _ ?_ ?_ ?_ _ _ (fun n3 h3=> ?_))
   ·refine(Good.ay (Good.ay (Good.ay (k2.mono af) af ?_) af ?_) af ?_)
    all_goals (simp[ab.refs,V.aL,V.refs]<;>omega)
   ·intro r hr
    simp[V.aL,V.refs]at hr
    omega
   ·refine Ld f7 w1 ?_
    rw[<- List.map_append]
   cases OW:s.aH.any brk with
   |true=>
    refine Ac f3 f10 f9 f7 w1 ?_
    refine Tv h0 OW _ _ af (Good.ay (Good.ay (Good.ay (Good.ay (k2.mono af) af ?_) af ?_) af ?_) af ?_) (fun j hj=>by(repeat(first|rfl|rw[aa]|rw[ae _ _ _ _ (by omega)]));exact c9 j hj)
    all_goals (simp[ab.refs,V.aL,V.refs]<;>omega)
   |false=>
    refine Ac f3 f10 f9 f7 w1 ?_
    refine aY h0 E Rt OW _ _ (.osl (n2+17) 0) (nx+7) af (Good.ay (Good.ay (Good.ay (Good.ay (k2.mono af) af ?_) af ?_) af ?_) af ?_) (fun j hj=>by(repeat(first|rfl|rw[aa]|rw[ae _ _ _ _ (by omega)]));exact c9 j hj) (.inr ⟨n2+17,rfl,af,af,by(repeat(first|rfl|rw[aa]|rw[ae _ _ _ _ (by omega)]));rw[List.map_append]⟩) af Ll
    all_goals (simp[ab.refs,V.aL,V.refs]<;>omega)
 ·exact VD
 ·have h9:o2 (nx+3)= .row [.aw, .aw, .aw, .aw, .aw, .d .dL]:=by rw[k3 _ (by omega) (by omega),g5 _ (by omega) (by omega) (by omega)];(repeat(first|rfl|rw[aa]|rw[ae _ _ _ _ (by omega)]))
  refine IQ h9 ?_
  have e5:e=5:=h5
  subst e5
  exact nk (.inl rfl) _ _ af (Good.ay (k2.mono af) af rfl) (fun j hj=>by rw[ae _ _ _ _ (by omega),k3 _ (by omega) (by omega),g5 _ (by omega) (by omega) (by omega)];(repeat(first|rfl|rw[aa]|rw[ae _ _ _ _ (by omega)])))
 ·exact VD
 ·have h9:o2 (nx+3)= .row [.aw, .aw, .aw, .aw, .aw, .d .dL]:=by rw[k3 _ (by omega) (by omega),g5 _ (by omega) (by omega) (by omega)];(repeat(first|rfl|rw[aa]|rw[ae _ _ _ _ (by omega)]))
  refine IQ h9 ?_
  have e5:e=3:=h3
  subst e5
  exact nk (.inr rfl) _ _ af (Good.ay (k2.mono af) af rfl) (fun j hj=>by rw[ae _ _ _ _ (by omega),k3 _ (by omega) (by omega),g5 _ (by omega) (by omega) (by omega)];(repeat(first|rfl|rw[aa]|rw[ae _ _ _ _ (by omega)])))
end Go.Proofs.YtlhemmpklhhgoaaGreat
set_option maxHeartbeats 4000000
namespace Go.Proofs.YtlhemmpklhhgoaaGreat
theorem la(l:List TB):x9 (ah l)=l:=by
 unfold ah x9
 rw[List.map_map]
 exact List.map_id _
theorem iY{s:aA}{t:Tm}(h:bB s t=true):t.iz:=Tm.Gj _ (by have:=(bz h).2.1;omega)
theorem qJ.len {s:aA}{l:List TB}(h:qJ s (ah l)):l.length<=20:=by
 have:=DY h.keys fun v hv=>by
  obtain⟨p,hp,rfl⟩:=List.mem_map.1 hv
  exact(h.ok p hp).1
 rw[List.length_map]at this
 unfold ah at this
 rwa [List.length_map]at this
end Go.Proofs.YtlhemmpklhhgoaaGreat
set_option maxHeartbeats 4000000
namespace Go.Proofs.YtlhemmpklhhgoaaGreat
theorem oD(l:List ei)(hl:l.length<=1000000):aX Tryz.prog 73 [.sl (l.map ei.d), .sl (l.map ei.d)] (.ret [.bool true]):=by
 refine aX.aG mix adk aE ?_
 rw[c73]
 refine uL ?_
 refine aD (fun k:Nat=>⟨aZ [.d (.sl (l.map ei.d)), .d (.sl (l.map ei.d)), .ad, .ad, .ad, .d (.i k)],fun _=> .no,0⟩)
  (fun k=>k<=l.length) (fun k=>l.length - k) 0 (Nat.zero_le _) (bO.d0 _ ?_) (fun k hk=> ?_)
 ·exact dW
 refine aas ?_
 refine ao (fun h2=> ?_) (fun h2=> ?_)
 ·simp at h2
  obtain⟨x,hx⟩:=aB h2
  refine Vx hx ?_
  refine aI (a8 rfl) ?_
  refine bY ?_
  refine aj (k+1) h2 af (bO.d0 _ ?_)
  exact dW
 ·exact Vy
theorem yc(l:List Nt)(hl:l.length<=1000000)(hf:∀x∈l,x.a.fits/\x.b.fits):aX Tryz.prog 74 [.sl (l.map Nt.d), .sl (l.map Nt.d)] (.ret [.bool true]):=by
 refine aX.aG mix adl aE ?_
 rw[c74]
 refine uL ?_
 refine aD (fun k:Nat=>⟨aZ [.d (.sl (l.map Nt.d)), .d (.sl (l.map Nt.d)), .ad, .ad, .ad, .d (.i k)],fun _=> .no,0⟩)
  (fun k=>k<=l.length) (fun k=>l.length - k) 0 (Nat.zero_le _) (bO.d0 _ ?_) (fun k hk=> ?_)
 ·exact dW
 refine aas ?_
 refine ao (fun h2=> ?_) (fun h2=> ?_)
 ·simp at h2
  obtain⟨x,hx⟩:=aB h2
  have K5:=hf x (List.mem_of_getElem? hx)
  have s1:=wM x.a K5.1 x.a K5.1
  have s2:=wM x.b K5.2 x.b K5.2
  rw[qy]at s1 s2
  refine Vx hx ?_
  refine a7 s1 rfl ?_
  refine mV hx ?_
  refine a7 s2 rfl ?_
  exact abA
 ·exact Vy
theorem Oo(o:Nat->ab)(nu:Bool)(a b:Int):pn Tryz.prog o 77 nu (.d (.agg [.i a, .i b])) (.d (.agg [.i a, .i b]))=some (.d (.bool true)):=by
 have h1:bP Tryz.prog 77=some (.struct [(3,0),(3,1)]):=ai
 have h3:bP Tryz.prog 3=some .int:=ai
 have h5:dm Tryz.prog 3=some false:=ai
 have h6:pH Tryz.prog 100 77 (.agg [.i a, .i b]) (.agg [.i a, .i b])=some true:=by simp[pH,h1,h3,h5,yC,PD,jd,EW]
 obtain⟨fs,h⟩:∃fs,Tryz.prog.underlying 77=some (.struct fs):=structOf ai
 have h2:Tryz.prog.eqGuardType Tryz.prog.depth 77=false:=ai
 unfold pn
 rw[h]
 dsimp only
 rw[if_pos h2,h6]
 simp
theorem xp(s:bU)(h1:s.sig.cons.length<=1000000)(h2:s.sig.b9.length<=1000000)(h3:s.binds.length<=1000000)(h4:s.aH.length<=1000000)(h5:s.marks.length<=1000000)
 (h6:∀x∈s.binds,x.term.fits) (h7:∀x∈s.aH,x.a.fits/\x.b.fits):aX Tryz.prog 21 [s.d,s.d] (.ret [.bool true]):=by
 refine aX.aG mix ac6 aE ?_
 rw[c21]
 refine uL ?_
 refine aD (fun k:Nat=>⟨aZ [.ad, .ad, .ptr 0 0, .ptr 1 0, .ad, .d (.i k)],ay (ay (fun _=> .no) 0 (.row s.row)) 1 (.row s.row),2⟩)
  (fun k=>k<=s.marks.length) (fun k=>s.marks.length - k) 0 (Nat.zero_le _) ?_ (fun k hk=> ?_)
 ·exact PB
 simp+contextual (disch:=first|omega|simp only[go_sem,false_implies]) only[go_sem,wrap64,if_pos,List.length_map,beq_self_eq_true,Bool.and_self]
 refine ao (fun g2=> ?_) (fun g2=> ?_)
 ·simp at g2
  obtain⟨x,hx⟩:=aB g2
  obtain⟨m1,m2⟩:=x
  simp+contextual (disch:=first|omega|simp only[go_sem,false_implies]) only[go_sem,wrap64,if_pos,hx,List.length_map,bne_self_eq_false,Oo]
  refine aI (a8 rfl) ?_
  refine bY ?_
  refine aj (k+1) g2 af ?_
  exact PB
 ·refine Pl ?_
  refine ak (oD s.sig.cons h1) rfl ?_
  refine Pl ?_
  refine ak (oD s.sig.b9 h2) rfl ?_
  refine Pl ?_
  refine ak (xi s.binds h3 h6) rfl ?_
  refine Pl ?_
  refine ak (yc s.aH h4 h7) rfl ?_
  exact Vy
end Go.Proofs.YtlhemmpklhhgoaaGreat
set_option maxHeartbeats 4000000
namespace Go.Proofs.YtlhemmpklhhgoaaGreat
theorem iF.all {sg:aA}{l:List TB}(h:iF sg l):∀p∈ah l,zQ (ah l) p.2/\p.2.fits:=fun p hp=>by
 obtain⟨x,hx,rfl⟩:=ez hp
 exact⟨h.YJ x hx,Tm.dD x.term (by have:=(bz (h.ok x hx).2).2.1;omega)⟩
theorem Gs{sg:aA}{l:List TB}(h:iF sg l)(s':bU){n:Nt}(na:bB sg n.a=true)(nb:bB sg n.b=true){bk:Bool}(py:bk=true↔oZ (ah l) n):
 aX Tryz.prog 66 [s'.kd (ah l),n.d] (.ret [.bool bk])/\aX Tryz.prog 71 [.sl (l.map TB.d),n.d] (.ret [.bool bk]):=by
 obtain⟨l',ρ,R,hS,yT⟩:=iu h.keys h.ok h.DZ
 obtain⟨a1,a2,_⟩:=bz na
 obtain⟨b1,b2,_⟩:=bz nb
 have za:=mS hS (fun p hp=>(h.all p hp).1) a1
 have zb:=mS hS (fun p hp=>(h.all p hp).1) b1
 have fa:=pU hS _ n.a a1 (Nat.le_refl _)
 have fb:=pU hS _ n.b b1 (Nat.le_refl _)
 have fa':=iq fa (Nat.le_max_left _ (R+3+(aS (ah l') n.b).sz))
 have fb':=iq fb (Nat.le_max_right (R+3+(aS (ah l') n.a).sz) _)
 obtain⟨f1,u1⟩:=Bp hS a1
 obtain⟨f2,u2⟩:=Bp hS b1
 have e:hY (aS (ah l') n.a) (aS (ah l') n.b)=bk:=by
  rw[Bool.eq_iff_iff,py,dR]
  exact(o6 hS a1 b1).symm
 have hl:=h.len
 rw[<- e]
 exact⟨zT s' (fun p hp=>(h.all p hp).2) n (Tm.dD _ af) (Tm.dD _ af) fa' fb' (Tm.dD _ af) (Tm.dD _ af) af af,
  uj af (fun p hp=>(h.all p hp).2) (Tm.dD _ af) (Tm.dD _ af) u1 u2 af af⟩
theorem ma{s:bU}(h:bw s){a c:Tm}(ha:bB s.sig a=true)(hc:bB s.sig c=true){f:Nat}{b':List (Int×Tm)}(hf:iw true f a c (ah s.binds)=some (0,b')):∃E,b'=ah (s.binds++E)/\iF s.sig (s.binds++E):=by
 obtain⟨g,e,b1,h1,h2⟩:=vh h ha hc
 have e1:=fw hf (Nat.le_max_left f g)
 rw[fw h1 (Nat.le_max_right f g)]at e1
 injection e1 with e1
 injection e1 with e1 e2
 subst e2
 rcases h2 with⟨_,E,h3,h4⟩|h|h
 ·exact⟨E,h3,h4⟩
 ·exact absurd (e1.symm.trans h) bC
 ·exact absurd (e1.symm.trans h) bC
def dE(e:Int)(bk:Bool):Int:=if e=0 then(if bk=true then 5 else 0)else e
def bU.tell (s:bU)(b':List (Int×Tm)):bU:=⟨s.sig,x9 b',s.aH,s.marks⟩
def bU.tE (s:bU)(n:Nt):bU:=⟨s.sig,s.binds,s.aH++[n],s.marks⟩
end Go.Proofs.YtlhemmpklhhgoaaGreat
set_option maxHeartbeats 4000000
namespace Go.Proofs.YtlhemmpklhhgoaaGreat
theorem BC:∀ (Δ:List (Nat×ab)) (o:Nat->ab) (j:Nat),(∀y∈Δ,y.1≠j)->put o Δ j=o j
 |[],o,j,h=>rfl
 |y::Δ,o,j,h=>by
  show put (ay o y.1 y.2) Δ j=o j
  rw[BC Δ _ j (fun z hz=>h z (by simp[hz])),ae _ _ _ _ (h y (by simp)).symm]
theorem El{nx:Nat}:∀ (Δ:List (Nat×ab)) (o:Nat->ab),Good o nx->(∀y∈Δ,(nx<=y.1->y.2= .no)/\∀r∈y.2.refs,r<nx)->Good (put o Δ) nx
 |[],o,hg,h=>hg
 |y::Δ,o,hg,h=>by
  show Good (put (ay o y.1 y.2) Δ) nx
  refine El Δ _ ?_ (fun z hz=>h z pE)
  obtain⟨h1,h2⟩:=h y aE
  by_cases hy:nx<=y.1
  ·rw[h1 hy]
   have:ay o y.1 .no=o:=by
    funext j
    by_cases e:j=y.1
    ·subst e;rw[aa,hg.fresh _ hy]
    ·exact GV
   rw[this];exact hg
  ·exact hg.ay af (by rw[List.all_eq_true];exact fun r hr=>decide_eq_true (h2 r hr))
theorem xq{o:Nat->ab}{nx:Nat}(hg:Good o nx)(ids:List Nat):Good (put o (bG o ids)) nx:=by
 refine El _ _ hg fun y hy=> ?_
 unfold bG at hy
 obtain⟨id,_,rfl⟩:=List.mem_map.1 hy
 dsimp only
 refine⟨fun h=>by rw[hg.fresh id h],fun r hr=> ?_⟩
 have:=hg.refs id r
 revert this hr
 cases h:o id<;>simp[ab.refs]<;>intros<;>first|omega|simp_all
theorem Ru(m:Nat)(o:Nat->ab)(nx:Nat)(K X:V->(Nat->ab)->Nat->Prop)(h:K (.func (.func 136) [] [.ptr nx 0]) (ay o nx (.row [.mp m])) (nx+4)):bQ Tryz.prog 111 [.mp m] o nx K X:=by
 refine bQ.aG mix Uk aE ?_
 rw[XB]
 refine fZ ?_
 exact h
theorem Rv{b:List (Int×Tm)}(base rJ p m:Nat)(H:List Int->Nat->ab)(DC:rJ<base)(hp:p<base)(hm:m<base)(hHp:∀l,H l p= .row [.mp m])(hHm:∀l,H l m= .cj (enc (D.int .i64) (kD b)))
 (hHr:∀l id,id<base->∀r∈(H l id).refs,r<base) (hR:∀x l,l.length<b.length->RoC Tryz.prog rJ [.d (.i x)] base (H l) (H (l++[x])) (.d (.bool true))) (o:Nat->ab) (nx:Nat) (hI:eX base (H []) o nx) (K X:V->(Nat->ab)->Nat->Prop)
 (hK:∀l o' nx',l.Perm (b.map (·.1))->nx<=nx'->eX base (H l) o' nx'->(∀id,base<=id->id<nx->o' id=o id)->K (.bW []) o' nx'):
 bQ Tryz.prog 136 [.kM rJ, .ptr p 0] o nx K X:=by
 have hle:=hI.le
 have op:o p= .row [.mp m]:=by rw[hI.eq p hp,hHp]
 have om:o m= .cj (enc (D.int .i64) (kD b)):=by rw[hI.eq m hm,hHm]
 refine bQ.aG mix Us aE ?_
 rw[XK]
 simp+contextual (disch:=first|omega|simp only[go_sem,false_implies]) only[go_sem,wrap64,if_pos,op,om,Nat.add_assoc,Nat.left_eq_add,Nat.add_eq_left,Nat.add_left_cancel_iff]
 obtain⟨S,hS1,hS2⟩:∃S:List Int->Nat->ab,(∀l id,id<base->S l id=H l id)/\∀l id,base<=id->S l id=o id:=
  ⟨fun l id=>if id<base then H l id else o id,fun l id h=>if_pos h,fun l id h=>if_neg af⟩
 have hGS:∀l M,M.refs=[]->Good (ay (S l) (nx+1) M) (nx+2):=fun l M hM=>by
  refine⟨fun id ax=> ?_,fun id r hr=> ?_⟩
  ·rw[ae _ _ _ _ (by omega),hS2 l id (by omega)];exact hI.cH.fresh id af
  ·by_cases e:id=nx+1
   ·subst e;rw[aa,hM]at hr;cases hr
   ·rw[ae _ _ _ _ e]at hr
    by_cases h:id<base
    ·rw[hS1 l id h]at hr;have:=hHr l id h r hr;omega
    ·rw[hS2 l id (by omega)]at hr;have:=hI.cH.refs id r hr;omega
 refine aD (fun i:List (Int×Tm)×List Int×Option (D×D)=>⟨aZ [.kM rJ, .ptr p 0, .ad, .ad, .ad, .ptr (nx+1) 0],ay (S i.2.1) (nx+1) (.sn (enc (D.int .i64) (kD i.1)) i.2.2),nx+2⟩)
  (fun i=>i.1.length+i.2.1.length=b.length/\(i.2.1++i.1.map (·.1)).Perm (b.map (·.1))) (fun i=>i.1.length) (b,[],none) ⟨aE,aE⟩ ?_ ?_
 ·dsimp only
  refine bO.cc _ af af (hGS _ _ rfl) (fun j hj=> ?_) ?_
  ·by_cases e:j=nx+1
   ·exact vl
   ·rw[ae _ _ _ _ e,ae _ _ _ _ e]
    by_cases h:j<base
    ·rw[hS1 _ _ h];exact hI.eq j h
    ·rw[hS2 _ _ (by omega)]
  ·exact dW
 rintro⟨rest,don,last⟩ ⟨hl,vr⟩
 dsimp only at hl vr|-
 refine fZ ?_
 refine tn (fun h0=> ?_) fun i v x hm=> ?_
 ·subst h0
  refine fZ ?_
  refine hK don _ _ (by simpa using vr) af ⟨?_,af,fun id ax=> ?_⟩ (fun id h1 h2=> ?_)
  ·exact(hGS _ _ rfl).mono af
  ·rw[ae _ _ _ _ (by omega),hS1 _ _ ax]
  ·rw[ae _ _ _ _ (by omega),hS2 _ _ h1]
 ·have hlen:(rest.eraseIdx i).length+1=rest.length:=by
   exact V2
  have ahd:=qA hm
  refine fZ ?_
  refine n6 (hR v don af _ _ ⟨?_,af,fun id ax=> ?_⟩ _ _ fun o2 n2 m1 m2 m3=> ?_)
  ·exact((hGS _ _ rfl).mono af).ay af rfl
  ·rw[ae _ _ _ _ (by omega),ae _ _ _ _ (by omega),hS1 _ _ ax]
  refine fZ ?_
  refine aj (rest.eraseIdx i,don++[v],some (.int .i64 v,x.d)) ⟨by dsimp only;simp;omega, ?_⟩ lK (bO.cc _ (show nx<=nx+2 from af) af (hGS _ _ rfl) (fun j hj=> ?_) ?_)
  ·dsimp only
   refine List.Perm.trans ?_ vr
   rw[List.append_assoc]
   refine List.Perm.append_left _ ?_
   have:=ahd.map (fun p:Int×Tm=>p.1)
   simpa using this
  ·dsimp only
   have Tk:j<nx+2:=hj
   by_cases e:j=nx+1
   ·subst e
    rw[aa,m3 _ (by omega) (by omega)]
    exact cg
   ·rw[ae _ _ _ _ e]
    by_cases h:j<base
    ·rw[hS1 _ _ h];exact m2.eq j h
    ·rw[hS2 _ _ (by omega),m3 _ (by omega) (by omega),ae _ _ _ _ e,ae _ _ _ _ e,hS2 _ _ (by omega)]
  ·exact dW
def BD(o:Nat->ab)(nx:Nat)(l:List Int):Nat->ab:=ay (ay o nx (.row [.osl (nx+3) l.length])) (nx+3) (.arr l.length 3 1 (l.map .i))
theorem Em{b:List (Int×Tm)}(hb:b.length<=1000){p m:Nat}(o:Nat->ab)(nx:Nat)(hg:Good o nx)(hp:o p= .row [.mp m])(hm:o m= .cj (enc (D.int .i64) (kD b)))(K X:V->(Nat->ab)->Nat->Prop)
 (hK:∀ (l:List Int) (o':Nat->ab) (nx' id ep:Nat),l.Perm (b.map (·.1))->nx<=nx'->nx<=id->Good o' nx'->(∀j,j<nx->o' j=o j)->o' id= .arr ep 3 1 (l.map .i)->K (.osl id ep) o' nx'):
 bQ Tryz.prog 161 [.aw, .func (.func 136) [] [.ptr p 0]] o nx K X:=by
 refine bQ.aG mix UC aE ?_
 rw[XU]
 refine fZ ?_
 have hlp:p<nx:=hg.lt GJ
 have hlm:m<nx:=hg.lt GI
 have hG:∀l,Good (BD o nx l) (nx+4):=fun l=>by
  unfold BD
  refine Good.ay (Good.ay (hg.mono af) af ?_) af rfl
  exact ur
 refine QL (s':=⟨aZ [.ad, .ad, .ptr nx 0, .ad, .ad, .ad, .func (.func 136) [] [.ptr p 0]],BD o nx [],nx+4⟩) (bO.uK (fun _=>False) .aw (nx+3) _ af (fun j hj=> ?_) (by unfold BD;(repeat(first|rfl|rw[aa]|rw[ae _ _ _ _ (by omega)]))) (.inl ⟨rfl,rfl,bC⟩) (fun j hj=> ?_) (fun _ h=>h.elim) ?_) ?_
 ·unfold BD
  by_cases e:j=nx
  ·subst e
   rw[aa,ae _ _ _ _ (by omega),aa]
   exact lL rfl (vn 0 rfl rfl rfl lM)
  ·rw[ae _ _ _ _ e,ae _ _ _ _ (by omega),ae _ _ _ _ e]
   exact bD rfl (fun r hr=>by have:=hg.refs j r hr;omega)
 ·unfold BD
  rw[ae _ _ _ _ (by omega),ae _ _ _ _ (by omega)]
  exact B2
 ·exact kG
 ·show uJ _ _ _ _ _ _ _ _ _ _ (.func (.func 136) [] [.ptr p 0])
  refine FR [.ad, .ad, .ptr nx 0] Lk (fun L hL=> ?_)
  obtain⟨H,sB,FU,U1⟩:∃H:List Int->Nat->ab,(∀l id,id<nx+4->H l id=BD o nx l id)/\(∀l,H l (nx+4)=L .ready none)/\∀l id,nx+5<=id->H l id= .no:=
   ⟨fun l id=>if id<nx+4 then BD o nx l id else if id=nx+4 then L .ready none else .no,fun l id h=>if_pos h,fun l=>aE,fun l id h=>by dsimp only;rw[if_neg (by omega),if_neg (by omega)]⟩
  have yg:∀st pd M,nx<M->(L st pd).refs.all (fun r=>decide (r<M))=true:=fun st pd M hM=>by
   rw[hL.refs,List.all_eq_true]
   intro r hr
   simp[V.aL,V.refs]at hr
   exact decide_eq_true af
  have aP:∀l,BD o nx l p= .row [.mp m]:=fun l=>by unfold BD;(repeat(first|rfl|rw[aa]|rw[ae _ _ _ _ (by omega)]));exact hp
  have aM:∀l,BD o nx l m= .cj (enc (D.int .i64) (kD b)):=fun l=>by unfold BD;(repeat(first|rfl|rw[aa]|rw[ae _ _ _ _ (by omega)]));exact hm
  have a0:∀l,BD o nx l nx= .row [.osl (nx+3) l.length]:=fun l=>by unfold BD;(repeat(first|rfl|rw[aa]|rw[ae _ _ _ _ (by omega)]))
  have a3:∀l,BD o nx l (nx+3)= .arr l.length 3 1 (l.map .i):=fun l=>by unfold BD;(repeat(first|rfl|rw[aa]|rw[ae _ _ _ _ (by omega)]))
  refine Rv (b:=b) (nx+5) (nx+4) p m H af af af (fun l=>by rw[sB _ _ (by omega)];exact aP l) (fun l=>by rw[sB _ _ (by omega)];exact aM l) (fun l id ax r hr=> ?_) (fun x l cu=> ?_) _ _ ⟨?_,af,fun id ax=> ?_⟩ _ _ (fun l o' nx' h1 h2 h3 h4=> ?_)
  ·by_cases e:id=nx+4
   ·subst e
    rw[FU]at hr
    have:=List.all_eq_true.1 (yg .ready none (nx+5) af) r hr
    simpa using this
   ·rw[sB _ _ (by omega)]at hr
    have:=(hG l).refs id r hr
    omega
  ·intro o3 n3 hI K X hK
   have hle:=hI.le
   have hg3:=hI.cH
   have O8:o3 (nx+4)=L .ready none:=by rw[hI.eq _ (by omega),FU]
   have q0:o3 nx= .row [.osl (nx+3) l.length]:=by rw[hI.eq _ (by omega),sB _ _ (by omega),a0]
   have q3:o3 (nx+3)= .arr l.length 3 1 (l.map .i):=by rw[hI.eq _ (by omega),sB _ _ (by omega),a3]
   have eE:l.length<=140737488355327/\(l.length+1)*8<=140737488355328:=af
   have y1:nx≠n3:=af
   have y2:∀k,nx≠n3+k:=fun k=>af
   have y3:nx+3≠n3:=af
   have y4:∀k,nx+3≠n3+k:=fun k=>af
   refine wK hL mix O8 af bC rfl ?_
   simp only[qk]
   refine bY ?_
   refine n9 hL (pd:=none) ?_ ?_
   ·(repeat(first|rfl|rw[aa]|rw[ae _ _ _ _ (by omega)]))
    exact O8
   refine BV q0 q3 y1 y2 y3 y4 eE ?_
   refine tf hL (st:= .busy) (pd:=none) cg (hK _ _ af ⟨?_,af,fun id ax=> ?_⟩ (fun id h1 h2=>by(repeat(first|rfl|rw[aa]|rw[ae _ _ _ _ (by omega)]))))
   ·refine Good.ay (Good.ay (Good.ay (Good.ay (Good.ay (hg3.mono af) af (yg _ _ _ af)) af rfl) af rfl) af ?_) af (yg _ _ _ af)
    simp[ab.refs,V.aL,V.refs]
    omega
   ·by_cases e:id=nx+4
    ·subst e;rw[aa,FU]
    ·rw[ae _ _ _ _ e,sB _ _ (by omega)]
     unfold BD
     by_cases e0:id=nx
     ·subst e0;(repeat(first|rfl|rw[aa]|rw[ae _ _ _ _ (by omega)]));simp
     ·by_cases e3:id=nx+3
      ·subst e3;(repeat(first|rfl|rw[aa]|rw[ae _ _ _ _ (by omega)]));simp
      ·(repeat(first|rfl|rw[aa]|rw[ae _ _ _ _ (by omega)]))
       rw[hI.eq _ ax,sB _ _ (by omega)]
       unfold BD
       exact cg
  ·exact(hG []).mono af |>.ay af (yg _ _ _ af)
  ·by_cases e:id=nx+4
   ·subst e;rw[aa,FU]
   ·rw[ae _ _ _ _ e,sB _ _ (by omega)]
  ·have YV:=h3.le
   refine⟨.ready,none,by rw[h3.eq _ (by omega),FU],(fun h=>by cases h), ?_⟩
   have q0:o' nx= .row [.osl (nx+3) l.length]:=by rw[h3.eq _ (by omega),sB _ _ (by omega),a0]
   have q3:o' (nx+3)= .arr l.length 3 1 (l.map .i):=by rw[h3.eq _ (by omega),sB _ _ (by omega),a3]
   simp only[rk]
   refine Ld q0 q3 ?_
   refine hK l _ _ (nx+3) l.length h1 ?_ af ?_ (fun j hj=> ?_) VG
   ·omega
   ·exact(h3.cH.mono af).ay af (yg _ _ _ af)
   rw[ae _ _ _ _ (by omega),h3.eq _ (by omega),sB _ _ (by omega)]
   unfold BD
   exact cg
theorem Gt{l l':List Int}(h:l.Perm l'):dc l=dc l':=by
 have h1:(dc l).Perm (dc l'):=((List.mergeSort_perm _ _).trans h).trans (List.mergeSort_perm _ _).symm
 have hs:∀l:List Int,(dc l).Pairwise (fun a b=>a<=b):=fun l=>(List.pairwise_mergeSort (le:=fun a b:Int=>decide (a<=b)) (fun a b c h1 h2=>by simp at*;omega) (fun a b=>by simp;omega) l).imp fun h=>by simpa using h
 exact List.Perm.eq_of_pairwise (fun a b _ _ h1 h2=>Int.le_antisymm h1 h2) (hs l) (hs l') h1
theorem Oq{b:List (Int×Tm)}(hb:b.length<=1000){p m:Nat}(o:Nat->ab)(nx:Nat)(hg:Good o nx)(hp:o p= .row [.mp m])(hm:o m= .cj (enc (D.int .i64) (kD b)))(K X:V->(Nat->ab)->Nat->Prop)
 (hK:∀ (o':Nat->ab) (nx' id ep:Nat),nx<=nx'->nx<=id->Good o' nx'->(∀j,j<nx->o' j=o j)->o' id= .arr ep 3 1 ((dc (b.map (·.1))).map .i)->K (.osl id ep) o' nx'):
 bQ Tryz.prog 110 [.func (.func 136) [] [.ptr p 0]] o nx K X:=by
 refine bQ.aG mix Uj aE ?_
 rw[XA]
 refine fZ ?_
 refine aU ?_
 refine bQ.aG mix Ur aE ?_
 rw[XJ]
 refine fZ ?_
 refine aU (Em hb _ _ (hg.mono af) hp hm _ _ (fun l o' nx' id ep h1 h2 h3 h4 h5 h6=> ?_))
 have ax:id<nx':=h4.lt (by rw[h6];exact ab.noConfusion)
 have w1:∀k,id≠nx'+k:=fun k=>af
 refine Ld h6 w1 ?_
 have hlen:l.length<=1000:=by have:=h1.length_eq;rw[List.length_map]at this;omega
 have hs:dc l=dc (b.map (·.1)):=Gt h1
 refine bM (NB DM Km (zs:=l) h6 Kn af ?_)
 refine fZ ?_
 refine hK _ _ id ep ?_ af ?_ (fun j hj=> ?_) (by(repeat(first|rfl|rw[aa]|rw[ae _ _ _ _ (by omega)]));rw[hs])
 ·omega
 ·exact(h4.mono af).ay af rfl
 ·rw[ae _ _ _ _ (by omega),h5 j (by omega)]
end Go.Proofs.YtlhemmpklhhgoaaGreat
set_option maxHeartbeats 8000000
namespace Go.Proofs.YtlhemmpklhhgoaaGreat
theorem zY(s:bU)(hs:s.Cp)(b:List (Int×Tm))(o:Nat->ab)(nx mid:Nat)(vb:V)(hg:Good o nx)(aeX:o mid=dv b)(Zh:dM o vb=some (.sl (s.binds.map TB.d)))(K X:V->(Nat->ab)->Nat->Prop)
 (xh:∀o' nx' i j k,nx<=nx'->Good o' nx'->(∀j,j<nx->j∉vb.ids->j≠mid->o' j=o j)->
  o' i= .arr 0 59 4 (s.binds.map TB.d)->o' j= .arr 0 101 6 (s.aH.map Nt.d)->o' k= .arr 0 77 2 (s.marks.map tx)->
  K (.agg [.d (.sl (s.sig.cons.map ei.d)), .d (.sl (s.sig.b9.map ei.d)), .osl i 0, .osl j 0, .osl k 0]) o' nx'):
 bQ Tryz.prog 65 [.agg [.d (.sl (s.sig.cons.map ei.d)), .d (.sl (s.sig.b9.map ei.d)),vb, .d (.sl (s.aH.map Nt.d)), .d (.sl (s.marks.map tx)), .mp mid]] o nx K X:=by
 refine bQ.xf (d:=s.kd b) ?_ ?_
 ·exact Po aeX Zh
 ·refine Bz s hs b _ nx (xq hg _) K X (fun o' nx' i j k m1 m2 m3 m4 m5 m6=>xh o' nx' i j k m1 m2 (fun j j1 j2 j3=>(m3 j j1).trans (BC _ _ _ fun y hy=> ?_)) m4 m5 m6)
  unfold bG at hy
  obtain⟨q,hq,rfl⟩:=List.mem_map.1 hy
  simp[V.ids,V.bg]at hq
  dsimp only
  rcases hq with hq|hq
  ·exact fun e=>j2 (e ▸ hq)
  ·exact fun e=>j3 (e.symm.trans hq)
theorem bU.Rw {s:bU}(h:bw s){E:List TB}(hB:iF s.sig (s.binds++E)):(s.tell (ah (s.binds++E))).Cp:=by
 have hc:=h.cp
 have:=hB.len
 refine⟨hc.lc,hc.lf, ?_,hc.nl,hc.ml,fun x hx=> ?_,hc.nt⟩
 ·show(x9 _).length<=_
  rw[la];omega
 ·have hx:x∈x9 (ah (s.binds++E)):=hx
  rw[la]at hx
  have:=(bz (hB.ok x hx).2).2.1
  omega
theorem zZ{s:bU}(h:bw s){a c:Tm}(ha:bB s.sig a=true)(hc:bB s.sig c=true){f:Nat}{b':List (Int×Tm)}(hf:iw true f a c (ah s.binds)=some (0,b')){E:List TB}(hE:b'=ah (s.binds++E)):iF s.sig (s.binds++E):=by
 obtain⟨E',h1,h2⟩:=ma h ha hc hf
 have e:s.binds++E=s.binds++E':=by rw[<- la (s.binds++E), <- hE,h1,la]
 rw[e];exact h2
theorem En{s:bU}(h:bw s){a c:Tm}(ha:bB s.sig a=true)(hc:bB s.sig c=true){f:Nat}{e:Int}{b':List (Int×Tm)}(hf:iw true f a c (ah s.binds)=some (e,b')){bk:Nt->Bool}(py:e=0->∀n∈s.aH,(bk n=true↔oZ b' n)):
 e=0->∀E,b'=ah (s.binds++E)->∀n∈s.aH,aX Tryz.prog 66 [bU.kd ⟨s.sig,s.binds++E,s.aH,s.marks⟩ b',n.d] (.ret [.bool (bk n)]):=fun h0 E hE n hn=>by
 have hB:=zZ h ha hc (h0 ▸ hf) hE
 have hk:=py h0 n hn
 subst hE
 exact(Gs hB _ (h.aH n hn).1 (h.aH n hn).2.1 hk).1
theorem Eo(s:bU)(hs:s.Fin)(a c:Tm)(ha:a.Fin)(hc:c.Fin)(h:bw s)(va:bB s.sig a=true)(vc:bB s.sig c=true){f:Nat}{e:Int}{b':List (Int×Tm)}(hf:iw true f a c (ah s.binds)=some (e,b'))(he:e=0\/e=5\/e=3){bk:Nt->Bool}(py:e=0->∀n∈s.aH,(bk n=true↔oZ b' n)):
 aX Tryz.prog 15 [s.d,a.d,c.d] (.ret [if dE e (s.aH.any bk)=0 then(s.tell b').d else kZ.d, .i (dE e (s.aH.any bk))]):=by
 refine aX.aG mix ac4 aE ?_
 rw[c15]
 refine fZ ?_
 refine bM (BB s hs a c ha hc _ _ dt _ _ (fun h1 h2 h3 o' nx' id i1 i2 i3 i4=> ?_) (fun hn=>absurd ⟨h,va,vc⟩ hn))
 have e1:o' 1= .row a.row:=(i3 _ af).trans cg
 have e2:o' 2= .row c.row:=(i3 _ af).trans cg
 have e3:o' 3= .row [.aw, .aw, .aw, .aw, .aw]:=(i3 _ af).trans cg
 have ax:id<nx':=Good.lt i2 GG
 refine BK e1 e2 e3 i4 ?_
 have hgT:Good (ay (ay o' (nx'+3) (.row [.aw, .aw, .aw, .aw, .aw, .d .dL])) (nx'+3) (.row (s.row++[.mp id]))) (nx'+11):=by
  refine Good.ay (Good.ay (i2.mono af) af rfl) af ?_
  simp[ab.refs,V.aL,V.refs]
  omega
 refine bM (On h va vc hf _ _ hgT Pu bk (En h va vc hf py) _ _ (fun h5 o2 n2 g1 g2 g3=> ?_) (fun h0 hb o2 n2 g1 g2 g3=> ?_) (fun h0 E hE hb o2 n2 vb mid g1 g2 g3 g4 g7 g8=> ?_))
 ·have f3:o2 3= .row [.aw, .aw, .aw, .aw, .aw]:=(g3 _ af).trans I6
  have f8:o2 (nx'+3)= .row (s.row++[.mp id]):=(g3 _ af).trans cg
  have k3:(3:Nat)≠nx'+3:=af
  have w1:dE e (s.aH.any bk)=e:=by unfold dE;rw[if_neg (by omega)]
  have w2:e≠0:=af
  have w3:(e !=0)=true:=by rw[bne_iff_ne];exact w2
  rw[w1,if_neg w2]
  simp+contextual (disch:=first|omega|simp only[go_sem,false_implies]) only[go_sem,wrap64,if_pos,Nat.add_assoc,Nat.left_eq_add,Nat.add_eq_left,Nat.add_left_cancel_iff,f3,f8,k3,w3,o9]
 ·have f3:o2 3= .row [.aw, .aw, .aw, .aw, .aw]:=(g3 _ af).trans I6
  have f8:o2 (nx'+3)= .row (s.row++[.mp id]):=(g3 _ af).trans cg
  have k3:(3:Nat)≠nx'+3:=af
  have w1:dE e (s.aH.any bk)=5:=by unfold dE;rw[if_pos h0,if_pos hb]
  rw[w1]
  simp+contextual (disch:=first|omega|simp only[go_sem,false_implies]) only[go_sem,wrap64,if_pos,Nat.add_assoc,Nat.left_eq_add,Nat.add_eq_left,Nat.add_left_cancel_iff,f3,f8,k3,o9]
 ·have f3:o2 3= .row [.aw, .aw, .aw, .aw, .aw]:=(g3 _ af).trans I6
  have f8:o2 (nx'+3)= .row (s.row++[.mp id]):=(g3 _ af).trans cg
  have k3:(3:Nat)≠nx'+3:=af
  have w1:dE e (s.aH.any bk)=0:=by unfold dE;rw[if_pos h0,if_neg (by rw[hb];exact Bool.false_ne_true)]
  have hB:iF s.sig (s.binds++E):=zZ h va vc (h0 ▸ hf) hE
  have aeX:mid<n2:=g2.lt (by rw[g8];exact ab.noConfusion)
  rw[w1,if_pos rfl]
  have Rx:(s.tell b').Cp:=by rw[hE];exact bU.Rw h hB
  have OX:(s.tell b').binds=s.binds++E:=by show x9 b'=_;rw[hE,la]
  have fin:∀ (o3:Nat->ab) (n3 i j k:Nat),n2<=n3->(∀q,q<n2->q≠nx'+3->(q<nx'+11)->o3 q=o2 q)->o3 i= .arr 0 59 4 ((s.tell b').binds.map TB.d)->o3 j= .arr 0 101 6 ((s.tell b').aH.map Nt.d)->o3 k= .arr 0 77 2 ((s.tell b').marks.map tx)->o3 3= .row [.aw, .aw, .aw, .aw, .aw]/\i≠3/\j≠3/\k≠3:=fun o3 n3 i j k q1 q2 q3 q4 q5=>by
   have e3:o3 3= .row [.aw, .aw, .aw, .aw, .aw]:=by rw[q2 3 (by omega) (by omega) (by omega),f3]
   exact⟨e3,fun e=>(by subst e;rw[q3]at e3;cases e3),fun e=>(by subst e;rw[q4]at e3;cases e3),fun e=>(by subst e;rw[q5]at e3;cases e3)⟩
  rcases g4 with rfl|⟨lb,rfl,l1,l2,l3⟩
  ·refine aaq f3 f8 ?_
   refine gK (zY (s.tell b') Rx b' _ _ mid _ ?_ Sf (by rw[OX];rfl) _ _ (fun o3 n3 i j k m1 m2 m3 m4 m5 m6=> ?_))
   ·refine Good.ay (g2.mono af) af ?_
    simp[ab.refs,V.aL,V.refs]
    omega
   obtain⟨z1,z2,z3,z4⟩:=fin o3 n3 i j k af (fun q q1 q2 q3=>by rw[m3 q (by omega) (by simp[V.ids]) (by omega)];(repeat(first|rfl|rw[aa]|rw[ae _ _ _ _ (by omega)]))) m4 m5 m6
   exact Pk z1 z2 z3 z4 m4 m5 m6
  ·have y1:lb≠nx'+3:=af
   refine aaq f3 f8 ?_
   refine gK (zY (s.tell b') Rx b' _ _ mid _ ?_ Sf (by rw[OX];simp+contextual (disch:=first|omega|simp only[go_sem,false_implies]) only[go_sem,wrap64,if_pos,l3,y1]) _ _ (fun o3 n3 i j k m1 m2 m3 m4 m5 m6=> ?_))
   ·refine Good.ay (g2.mono af) af ?_
    simp[ab.refs,V.aL,V.refs]
    omega
   obtain⟨z1,z2,z3,z4⟩:=fin o3 n3 i j k af (fun q q1 q2 q3=>by rw[m3 q (by omega) (by simp[V.ids];omega) (by omega)];(repeat(first|rfl|rw[aa]|rw[ae _ _ _ _ (by omega)]))) m4 m5 m6
   exact Pk z1 z2 z3 z4 m4 m5 m6
end Go.Proofs.YtlhemmpklhhgoaaGreat
