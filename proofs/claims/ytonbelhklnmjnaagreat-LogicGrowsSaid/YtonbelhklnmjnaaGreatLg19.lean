/-
  A PART OF THE PROOF. Conditions: none.
-/
import Derived.Test.YtonbelhklnmjnaaGreatLg18
set_option linter.unusedSimpArgs false
set_option linter.unusedVariables false
namespace Go.Proofs.YtonbelhklnmjnaaGreat
theorem cP:∀a:Tm,a.fits->∀b:Tm,b.fits->a7 Tryz.prog 218 [a.d,b.d] (.ret [.bool (aZ a b)]):=by
 refine Tm.cC fun a ih ha b hb=> ?_
 have Oi:=(Tm.aP _).1 ha
 have EV:=(Tm.aP _).1 hb
 refine a7.aA mix Rm aj ?_
 rw[Vg,nE]
 refine aI ?_
 refine B4 (ak (fun h1=> ?_) (fun h1=> ?_))
 ·rw[h1]
  refine dz h1 ?_
  refine bc (K7 a.kids b.kids Oi.1 EV.1 218 (fun x hx y hy=>ih x hx (Oi.2 x hx) y (EV.2 y hy)) _ _ dg _ _ fun o2 n2 m1 m2 m3=> ?_)
  exact yH h1
 ·rw[h1]
  exact yH h1
def nO:D:= .iface 117 (.agg [])
theorem bQ:a7 Tryz.prog 128 [.bool true] (.ret []):=by
 refine a7.aA mix Kq aj ?_
 rw[N2]
 exact cF
theorem aU:a7 Tryz.prog 128 [.bool false] (.bR nO):=by
 refine a7.aA mix Kq aj ?_
 rw[N2]
 refine aI ?_
 rfl
theorem kF(b:Bool):a7 Tryz.prog 227 [.bool b] (.ret [(gK b).d]):=by
 refine a7.aA mix Rv aj ?_
 rw[Vp,Wj]
 cases b<;>simp+contextual (disch:=first|omega|simp only[go_sem,false_implies]) only[go_sem,wrap64,if_pos,and_self]
theorem vZ:a7 Tryz.prog 225 [.agg []] (.ret [hU.d]):=by
 refine a7.aA mix Rt aj ?_
 rw[Vn,Wi]
 exact cF
theorem LK(n:Int):a7 Tryz.prog 256 [.i n] (.ret [(Tm.mk 1 n []).d]):=by
 refine a7.aA mix RP aj ?_
 rw[VH,Tm.rO]
 exact cF
theorem LL(l:List Tm)(hl:l.length<=1000000):∀t:Tm,t.fits->t.sz<=1000000->vX l.length t->a7 Tryz.prog 220 [t.d, .sl (l.map Tm.d)] (.ret [(gW l t).d]):=by
 refine Tm.cC fun t ih hf hz ho=> ?_
 have gX:=(Tm.aP _).1 hf
 have th:=Tm.ky t
 refine a7.aA mix Ro aj ?_
 rw[Vi]
 by_cases h1:t.op=1
 ·have cm:(t.op==1)=true:=by simpa using h1
  obtain⟨n0,n1⟩:=ho t (by rw[nG];simp) h1
  obtain⟨x,hx⟩:=aw (l:=l) (k:=t.n.toNat) ad
  rw[LF h1 hx]
  simp+contextual (disch:=first|omega|simp only[go_sem,false_implies]) only[go_sem,wrap64,if_pos,cm,hx,n0]
 ·have cm:(t.op==1)=false:=by simpa using h1
  rw[vO,if_neg h1]
  refine dz cm ?_
  have hB:Good (aL (aL (fun _=> .no) 0 (.row t.row)) 1 (.row [.d (.i 0), .d (.i 0), .bW])) 16:=dg
  have A6:∀j,16<=j->(aL (aL (fun _=>ab.no) 0 (.row t.row)) 1 (.row [.d (.i 0), .d (.i 0), .bW])) j= .no:=fun j hj=>by(repeat(first|rfl|rw[ae]|rw[ai _ _ _ _ (by omega)]))
  refine aK (fun i:Nat=>⟨bA [.aa, .d (.sl (l.map Tm.d)), .ptr 0 0, .aa, .ptr 1 0, .ptr 10 0, .aa, .aa, .aa, .aa, .aa, .aa, .aa, .aa, .aa, .aa, .aa, .aa, .aa, .aa, .aa, .aa, .d (.sl (t.kids.map Tm.d)), .d (.i t.kids.length), .d (.i i)],aL (aL (aL (aL (fun _=> .no) 0 (.row t.row)) 1 (.row [.d (.i 0), .d (.i 0), .bW])) 10 (.row [.d (.i t.op), .d (.i t.n), .osl 16 0])) 16 (.arr 0 31 3 (((t.kids.take i).map (gW l)).map Tm.d)),17⟩)
   (fun i=>i<=t.kids.length) (fun i=>t.kids.length - i) 0 (Nat.zero_le _) (yB (r:=10) (ds:=[.i t.op, .i t.n]) _ hB A6 ad (fun j hj iD=>sr) eh ad ?_) ?_
  ·exact ra
  rintro k hk
  replace hk:k<=t.kids.length:=hk
  refine iG ?_
  refine ak (fun h2=> ?_) (fun h2=> ?_)
  ·simp at h2
   obtain⟨x,hx⟩:=aw h2
   have dc:=List.mem_of_getElem? hx
   have Iy:=pB dc
   have Lc:t.kids.length<=1000000:=by have:=vP t.kids;omega
   have Gb:t.kids.take (k+1)=t.kids.take k++[x]:=by rw[List.take_add_one,hx];rfl
   have e0:(t.kids.take k).length=k:=by rw[List.length_take];omega
   refine mF hx e0 ?_
   refine bB (ih x dc (gX.2 x dc) ad (ho.ll dc)) ?_
   refine mF hx e0 ?_
   refine ao aV ?_
   refine mF hx e0 ?_
   refine au (k+1) h2 ad (C0 (r:=10) (c:=16) (ep:=1) (ds:=[.i t.op, .i t.n]) _ hB A6 ad (fun j hj iD=>sr) eh (by(repeat(first|rfl|rw[ae]|rw[ai _ _ _ _ (by omega)]));rw[Gb,List.map_append,List.map_append];rfl) ?_)
   exact ra
  ·simp at h2
   have Lc:k=t.kids.length:=ad
   subst Lc
   rw[List.take_length]
   refine iG ?_
   rw[Tm.rO]
theorem OM(p:Pg)(f:Int)(x:kn)(h0:0<=f)(hx:p.sig.bU[f.toNat]? =some x)(h1:0<=x.args)(h2:x.args<=1000):a7 Tryz.prog 228 [p.d, .i f] (.ret [(qI p.sig f).d]):=by
 have e:(qI p.sig f).d= .agg [.i 4, .i f, .sl ((mD x.args.toNat).map Tm.d)]:=by
  unfold qI
  rw[Tm.rO,iH hx];rfl
 refine a7.aA mix Rw aj ?_
 rw[Vq,e]
 refine uc hx h0 ?_
 have hB:Good (aL (aL (fun _=> .no) 0 (.row p.row)) 1 (.row [.d (.i 0), .d (.i 0), .bW])) 14:=dg
 have A6:∀j,14<=j->(aL (aL (fun _=>ab.no) 0 (.row p.row)) 1 (.row [.d (.i 0), .d (.i 0), .bW])) j= .no:=fun j hj=>by(repeat(first|rfl|rw[ae]|rw[ai _ _ _ _ (by omega)]))
 obtain⟨n,hn⟩:∃n:Nat,x.args=n:=⟨x.args.toNat,ad⟩
 rw[hn]
 have G3:n<=1000:=ad
 refine aK (fun i:Nat=>⟨bA [.aa, .aa, .ptr 0 0, .aa, .ptr 1 0, .ptr 4 0, .aa, .aa, .aa, .aa, .aa, .aa, .aa, .aa, .aa, .d (.i n), .d (.i i)],aL (aL (aL (aL (fun _=> .no) 0 (.row p.row)) 1 (.row [.d (.i 0), .d (.i 0), .bW])) 4 (.row [.d (.i 4), .d (.i f), .osl 14 0])) 14 (.arr 0 31 3 ((mD i).map Tm.d)),15⟩)
  (fun i=>i<=n) (fun i=>n - i) 0 (Nat.zero_le _) (yB (r:=4) (ds:=[.i 4, .i f]) _ hB A6 ad (fun j hj iD=>sr) eh ad ?_) ?_
 ·exact ra
 rintro k hk
 replace hk:k<=n:=hk
 have e0:(mD k).length=k:=by simp[mD]
 refine iG ?_
 refine ak (fun h2=> ?_) (fun h2=> ?_)
 ·simp at h2
  refine eR e0 ?_
  refine bB (LK k) ?_
  refine eR e0 ?_
  refine ao aV ?_
  refine eR e0 ?_
  refine au (k+1) h2 ad (C0 (r:=4) (c:=14) (ep:=1) (ds:=[.i 4, .i f]) _ hB A6 ad (fun j hj iD=>sr) eh (by(repeat(first|rfl|rw[ae]|rw[ai _ _ _ _ (by omega)]));rw[EK,List.map_append];rfl) ?_)
  exact ra
 ·simp at h2
  have Lc:k=n:=ad
  subst Lc
  exact Sf
@[reducible] def wq (p:Pg) (env:List Tm):D:= .agg [.sl (p.sig.cons.map kn.d), .sl (p.sig.bU.map kn.d), .sl (p.rules.map Rl.d), .sl (env.map Tm.d)]
@[reducible] def Gd (p:Pg) (env:List Tm):List V:=[.d (.sl (p.sig.cons.map kn.d)), .d (.sl (p.sig.bU.map kn.d)), .d (.sl (p.rules.map Rl.d)), .d (.sl (env.map Tm.d))]
theorem LM(p:Pg)(a b:List Tm):a7 Tryz.prog 222 [wq p a, .sl (b.map Tm.d)] (.ret [wq p b]):=by
 refine a7.aA mix Rq aj ?_
 rw[Vk]
 exact cF
theorem Ia{pr:List (List Nat)}{fp:List (List Nat×List Nat)}(h:((List.range fp.length).all fun j=>(List.range j).all fun i=>((eD pr []).getD j 0).testBit i||((fp.getD i ([],[])).2.isEmpty&&(fp.getD j ([],[])).2.isEmpty))=true):iI pr fp=true:=by
 unfold iI
 rw[List.all_eq_true]at h|-
 intro j hj
 have h:=h j hj
 rw[List.all_eq_true]at h|-
 intro i hi
 have h:=h i hi
 rw[Bool.or_eq_true]at h|-
 refine h.imp id fun h=> ?_
 simp only[Bool.and_eq_true,List.isEmpty_iff]at h
 rw[h.1,h.2]
 rfl
def fH(ls:List Int)(L:List Tm):List Tm:=L.mapIdx fun i x=>if ls.contains (i:Int)=true then hU else x
theorem LN(r:Rl)(b:List Tm):fH (cJ r.rhs) b=se r b:=rfl
theorem LO(ls:List Int)(L:List Tm):(fH ls L).length=L.length:=by simp[fH]
theorem LP(L:List Tm):fH [] L=L:=by
 refine List.ext_getElem (by simp[fH]) fun i h1 h2=> ?_
 simp[fH]
theorem s6(a b:List Int)(L:List Tm):fH (a++b) L=fH b (fH a L):=by
 refine List.ext_getElem (by simp[fH]) fun i h1 h2=> ?_
 simp only[fH,List.getElem_mapIdx,List.contains_eq_mem,List.mem_append]
 by_cases ha:(i:Int)∈a
 ·by_cases hb:(i:Int)∈b<;>simp[ha,hb]
 ·by_cases hb:(i:Int)∈b<;>simp[ha,hb]
theorem LQ{n:Int}{L:List Tm}(h0:0<=n)(h1:n<L.length):fH [n] L=L.set n.toNat hU:=by
 refine List.ext_getElem (by simp[fH]) fun i h1 h2=> ?_
 simp only[fH,List.getElem_mapIdx,List.getElem_set,List.contains_eq_mem,List.mem_singleton]
 by_cases h:n.toNat=i
 ·rw[if_pos h,if_pos (by simp;omega)]
 ·rw[if_neg h,if_neg (by simp;omega)]
structure LR (base eb vb:Nat) (ev:V) (H:List Tm->Nat->ab):Prop where
 e1:eb<base
 v1:vb<base
 he:∀L,H L eb= .row [ev]
 hv:∀L,H L vb= .row [.func (.func 254) [] [.ptr eb 0, .ptr vb 0]]
 own:ev= .d (.sl [])\/∃a ep,ev= .osl a ep/\a<base/\(∀L,H L a= .arr ep 31 3 (L.map Tm.d))/\∀L L' j,j≠a->H L j=H L' j
def aaO:IC:=Kr.snd.snd.snd.fst.fst
def aaP{base eb vb:Nat}{ev:V}{H:List Tm->Nat->ab}(hH:LR base eb vb ev H)(t:Tm):Prop:=t.fits->∀L:List Tm,(∀v∈cJ t,0<=v/\v<L.length)->(ev= .d (.sl [])->L=[])->
    fC Tryz.prog 254 [.d t.d, .ptr eb 0, .ptr vb 0] base (H L) (H (fH (cJ t) L)) (.ck [])
theorem C1{base eb vb:Nat}{ev:V}{H:List Tm->Nat->ab}(hH:LR base eb vb ev H){t:Tm}(hf:t.fits)(ih:∀k∈t.kids,aaP hH k)(L:List Tm)(hr:∀v∈bJ t.kids,0<=v/\v<L.length)(hL:ev= .d (.sl [])->L=[])
 {o o1:Nat->ab} {nx n1:Nat} {e:Nat->V} {Q:fN->S->Prop} (hb:base<=nx) (hn:nx<=n1) (hI:cT base (H L) o1 n1) (db:∀id,base<=id->id<nx->o1 id=o id)
 (he:kj n1 e [.aa, .ptr eb 0, .ptr vb 0, .aa, .aa, .aa, .aa, .aa, .aa, .aa, .aa, .aa, .aa, .aa, .aa, .aa, .d (.sl (t.kids.map Tm.d)), .d (.i t.kids.length), .d (.i 0)] 0)
 (hQ:∀e' o' n',nx<=n'->cT base (H (fH (bJ t.kids) L)) o' n'->(∀id,base<=id->id<nx->o' id=o id)->Q (.exit 0) ⟨e',o',n'⟩):
 uS nx (fun Q s=>kS Tryz.prog 26 nx false aaO Q s) Q ⟨e,o1,n1⟩:=by
 have gX:=(Tm.aP _).1 hf
 have e1:=hH.e1
 have v1:=hH.v1
 refine aK (fun i:Nat×(Nat->ab)×Nat=>⟨bA [.aa, .ptr eb 0, .ptr vb 0, .aa, .aa, .aa, .aa, .aa, .aa, .aa, .aa, .aa, .aa, .aa, .aa, .aa, .d (.sl (t.kids.map Tm.d)), .d (.i t.kids.length), .d (.i i.1)],i.2.1,i.2.2⟩)
  (fun i=>i.1<=t.kids.length/\cT base (H (fH (bJ (t.kids.take i.1)) L)) i.2.1 i.2.2/\nx<=i.2.2/\(∀id,base<=id->id<nx->i.2.1 id=o id)) (fun i=>t.kids.length - i.1) (0,o1,n1)
  ⟨Nat.zero_le _,by simpa[bJ,LP]using hI,hn,db⟩ ?_ ?_
 ·dsimp only
  exact bL.bP _ hn (Nat.le_refl _) hI.bN (fun _ _=>rfl) he
 rintro⟨k,o',n'⟩ ⟨hk,om,Mm,Wl⟩
 simp only at hk om Mm Wl
 have hg:=om.bN
 have hle:=om.le
 have ov:o' vb= .row [.func (.func 254) [] [.ptr eb 0, .ptr vb 0]]:=by rw[om.eq vb v1,hH.hv]
 have y3:vb≠n':=ad
 have y4:∀k,vb≠n'+k:=fun k=>ad
 simp only[aaO,Kr,IC.snd,IC.fst]
 refine iG ?_
 refine ak (fun h2=> ?_) (fun h2=> ?_)
 ·simp at h2
  obtain⟨x,hx⟩:=aw h2
  have dc:=List.mem_of_getElem? hx
  have Gb:t.kids.take (k+1)=t.kids.take k++[x]:=by rw[List.take_add_one,hx];rfl
  have XH:∀a b:List Tm,bJ (a++b)=bJ a++bJ b:=fun a b=>by
   induction a with
   |nil=>simp[bJ]
   |cons k a ih=>simp[bJ,ih]
  have rA:∀v∈cJ x,v∈bJ t.kids:=fun v hv=>by
   rw[<- List.take_append_drop (k+1) t.kids,XH,Gb,XH]
   simp[bJ,hv]
  have aaQ:fH (bJ (t.kids.take (k+1))) L=fH (cJ x) (fH (bJ (t.kids.take k)) L):=by
   rw[Gb,XH,s6];simp[bJ]
  refine Mx hx ov y3 y4 ?_
  refine bc (ih x dc (gX.2 x dc) (fH (bJ (t.kids.take k)) L) (fun v hv=>by rw[LO];exact hr v (rA v hv)) (fun h=>by rw[hL h];rfl) _ _ ?_ _ _ fun o2 n2 m1 m2 m3=> ?_)
  ·exact⟨dg,ad,fun j hj=>by(repeat(first|rfl|rw[ae]|rw[ai _ _ _ _ (by omega)]));exact om.eq j hj⟩
  rw[<- aaQ]at m2
  refine iC ?_
  refine au (k+1,o2,n2+2) ⟨h2,m2.mono (show n2<=n2+2 from ad),(show nx<=n2+2 from ad),fun id i1 i2=> ?_⟩ mG (bL.bP _ (show nx<=n2+2 from ad) (Nat.le_refl _) (m2.mono (show n2<=n2+2 from ad)).bN (fun _ _=>rfl) ?_)
  ·dsimp only
   rw[m3 id i1 (by omega)]
   (repeat(first|rfl|rw[ae]|rw[ai _ _ _ _ (by omega)]))
   exact Wl id i1 i2
  ·dsimp only
   exact cG
 ·simp at h2
  refine aI ?_
  rw[List.take_of_length_le h2]at om
  exact hQ _ _ _ ad (om.mono ad) Wl
theorem yC{base eb vb:Nat}{ev:V}{H:List Tm->Nat->ab}(hH:LR base eb vb ev H):∀t:Tm,aaP hH t:=by
 refine Tm.cC fun t ih hf L hr hL=> ?_
 have gX:=(Tm.aP _).1 hf
 have e1:=hH.e1
 have v1:=hH.v1
 intro o nx hI K X hK
 have hle:=hI.le
 have hg:=hI.bN
 have oe:o eb= .row [ev]:=by rw[hI.eq eb e1,hH.he]
 have ov:o vb= .row [.func (.func 254) [] [.ptr eb 0, .ptr vb 0]]:=by rw[hI.eq vb v1,hH.hv]
 have y1:eb≠nx:=ad
 have y2:∀k,eb≠nx+k:=fun k=>ad
 have y3:vb≠nx:=ad
 have y4:∀k,vb≠nx+k:=fun k=>ad
 refine cK.aA mix RM aj ?_
 rw[Kr]
 by_cases h8:t.op=8
 ·have R5:(t.op==8)=true:=by simpa using h8
  obtain⟨n0,n1⟩:=hr t.n (by rw[jc,if_pos h8];simp)
  rcases hH.own with hn|⟨a,ep,ha,a1,hA,hA2⟩
  ·rw[hL hn]at n1;simp at n1;omega
  have oa:o a= .arr ep 31 3 (L.map Tm.d):=by rw[hI.eq a a1,hA]
  rw[ha]at oe
  have y5:a≠nx:=ad
  have y6:∀k,a≠nx+k:=fun k=>ad
  obtain⟨x,hx⟩:=aw (l:=L) (k:=t.n.toNat) ad
  obtain⟨xo,xn,xk⟩:=x
  simp+contextual (disch:=first|omega|simp only[go_sem,false_implies]) only[go_sem,wrap64,if_pos,R5,oe,ov,oa,y1,y2,y3,y4,y5,y6,Nat.add_assoc,Nat.left_eq_add,Nat.add_eq_left,Nat.add_left_cancel_iff]
  refine bB vZ ?_
  simp+contextual (disch:=first|omega|simp only[go_sem,false_implies]) only[go_sem,wrap64,if_pos,R5,oe,ov,oa,y1,y2,y3,y4,y5,y6,Nat.add_assoc,Nat.left_eq_add,Nat.add_eq_left,Nat.add_left_cancel_iff,n0,hx,Tm.rO,List.length_map]
  refine ao (Ia af) ?_
  refine iC ?_
  rw[jc,if_pos h8,s6,LQ n0 n1]at hK
  rw[jc,if_pos h8]at hr
  have JA:cT base (H (L.set t.n.toNat hU)) (aL (aL o nx (.row t.row)) a (.arr ep 31 3 ((L.map Tm.d).set t.n.toNat hU.d))) (nx+15):=⟨dg,ad,fun id aB=>by
   by_cases e:id=a
   ·subst e;rw[ae,hA,List.map_set]
   ·rw[ai _ _ _ _ e,ai _ _ _ _ (by omega),hI.eq id aB];exact hA2 _ _ id e⟩
  refine C1 hH hf ih (L.set t.n.toNat hU) (fun v hv=>by rw[List.length_set];exact hr v (by simp[hv])) (fun h=>by rw[ha]at h;cases h) (o:=o) ad ad JA (fun id i1 i2=>by(repeat(first|rfl|rw[ae]|rw[ai _ _ _ _ (by omega)]))) ?_ fun e' o' n' k1 k2 k3=> ?_
  ·exact cG
  ·refine aI ?_
   exact hK _ _ ad k2 k3
 ·have R5:(t.op==8)=false:=by simpa using h8
  simp+contextual (disch:=first|omega|simp only[go_sem,false_implies]) only[go_sem,wrap64,if_pos,R5,oe,ov,y1,y2,y3,y4,Nat.add_assoc,Nat.left_eq_add,Nat.add_eq_left,Nat.add_left_cancel_iff]
  rw[jc,if_neg h8,List.nil_append]at hK hr
  have JA:cT base (H L) (aL o nx (.row t.row)) (nx+8):=hI.aL ad ad ad rfl
  refine C1 hH hf ih L hr hL (o:=o) ad ad JA (fun id i1 i2=>by(repeat(first|rfl|rw[ae]|rw[ai _ _ _ _ (by omega)]))) ?_ fun e' o' n' k1 k2 k3=> ?_
  ·exact cG
  ·refine aI ?_
   exact hK _ _ ad k2 k3
theorem Ib{s:aX}(r:Rl)(ho:si s r)(hf:r.rhs.fits)(b:List Tm)(hl:b.length<=1000)(hb:(b.length:Int)=r.vars):a7 Tryz.prog 223 [r.d, .sl (b.map Tm.d)] (.ret [.sl ((se r b).map Tm.d)]):=by
 have hr:∀v∈cJ r.rhs,0<=v/\v<b.length:=fun v hv=>by
  have h1:=(sd r.rhs v).1 hv
  obtain⟨x,hx,h2,h3⟩:=(jN _ _ _).1 h1
  have h4:=(py r.vars r.rhs).1 ho.small x hx (.inr h2)
  have key:∀t:Tm,ez s t=true->∀x∈iF t,bw s x=true:=by
   refine Tm.cC fun t ih h x hx=> ?_
   rw[dC,Bool.and_eq_true,List.all_eq_true]at h
   rw[nG]at hx
   rcases List.mem_cons.1 hx with e|e
   ·rw[e];exact h.1
   ·obtain⟨k,hk,hx⟩:=List.mem_flatMap.1 e
    exact ih k hk (h.2 k hk) x hx
  have h5:=key _ (jd ho.rhs) x hx
  simp[bw,h2,cZ]at h5
  omega
 refine a7.aA mix Rr aj ?_
 rw[Vl, <- LN]
 cases iD:b with
 |nil=>
  refine aI ?_
  refine bf yA ?_
  refine aI ?_
  subst iD
  have hH:LR 12 4 6 (.d (.sl [])) (fun _=>aL (aL (aL (fun _=> .no) 0 (.row r.row)) 4 (.row [.d (.sl [])])) 6 (.row [.func (.func 254) [] [.ptr 4 0, .ptr 6 0]])):=
   ⟨ad,ad,fun _=>by(repeat(first|rfl|rw[ae]|rw[ai _ _ _ _ (by omega)])),fun _=>by(repeat(first|rfl|rw[ae]|rw[ai _ _ _ _ (by omega)])), .inl rfl⟩
  refine bc (yC hH r.rhs hf [] hr (fun _=>rfl) _ _ ⟨dg,Nat.le_refl _,fun id aB=>sr⟩ _ _ fun o2 n2 m1 m2 m3=> ?_)
  have q1:o2 4= .row [.d (.sl [])]:=by rw[m2.eq 4 (by omega)];(repeat(first|rfl|rw[ae]|rw[ai _ _ _ _ (by omega)]))
  refine dz q1 ?_
  rfl
 |cons a l=>
  rw[<- iD]
  have Wk:b≠[]:=by rw[iD];simp
  refine aI ?_
  refine c6 (vY b Wk ad _ _ _ _ ?_)
  refine aI ?_
  have hH:LR 18 10 12 (.osl 6 1) (fun L=>aL (aL (aL (aL (fun _=> .no) 0 (.row r.row)) 6 (.arr 1 31 3 (L.map Tm.d))) 10 (.row [.osl 6 1])) 12 (.row [.func (.func 254) [] [.ptr 10 0, .ptr 12 0]])):=
   ⟨ad,ad,fun _=>by(repeat(first|rfl|rw[ae]|rw[ai _ _ _ _ (by omega)])),fun _=>by(repeat(first|rfl|rw[ae]|rw[ai _ _ _ _ (by omega)])), .inr ⟨6,1,rfl,ad,fun _=>by(repeat(first|rfl|rw[ae]|rw[ai _ _ _ _ (by omega)])),fun L L' j hj=>sr⟩⟩
  refine bc (yC hH r.rhs hf b hr (fun h=>by cases h) _ _ ⟨dg,Nat.le_refl _,fun id aB=>sr⟩ _ _ fun o2 n2 m1 m2 m3=> ?_)
  have q1:o2 10= .row [.osl 6 1]:=by rw[m2.eq 10 (by omega)];(repeat(first|rfl|rw[ae]|rw[ai _ _ _ _ (by omega)]))
  have q2:o2 6= .arr 1 31 3 ((fH (cJ r.rhs) b).map Tm.d):=by rw[m2.eq 6 (by omega)];(repeat(first|rfl|rw[ae]|rw[ai _ _ _ _ (by omega)]))
  exact MC q1 q2
theorem Ic(env:List Tm)(n:Nat)(v:Tm):jH env (n:Int) v=(env++List.replicate (n+1 - env.length) hU).set n v:=rfl
theorem je(b:Bool):(gK b).fits:=by simp[gK,Tm.fits,Tm.ko]
theorem Ie(o a b:Int):(wT o a b).fits:=by unfold wT;split;exact je _;simp[Tm.fits,Tm.ko]
theorem bY{l:List Pf}{i:Nat}{k:Pf}(h:l[i]? =some k):bK l i=k.val:=by unfold bK;rw[h];rfl
theorem mu{t:Tm}{i:Nat}{k:Tm}(h:t.kids[i]? =some k):lr t i=k:=by unfold lr;rw[h];rfl
theorem Av{s:aX}{e:Tm}(h:bw s e=true)(h1:6<=e.op)(h2:e.op<=15):e.kids.length=2:=by
 by_cases h8:e.op=8
 ·simp[bw,h8]at h;omega
 ·simp[bw,cZ,show ¬e.op=1 by omega,show ¬e.op=2 by omega,show ¬e.op=3 by omega,show ¬e.op=4 by omega,show ¬e.op=5 by omega,h8,h1,h2]at h
  omega
theorem LS{s:aX}{v:Tm}(h:Pn s v)(h2:v.op=2):bdN v.n:=by
 have:=(vx.1 h).1
 simp[ml,h2,cZ]at this
 exact⟨this.1.1,this.1.2⟩
def wV(b:Bool):R:=if b=true then .ret []else .bR nO
theorem bC:wV true= .ret []:=rfl
theorem aQ:wV false= .bR nO:=rfl
def AM(p:Pg)(f:Pf):Prop:=∀env e,dM p.sig env->cY p.sig env.length e->a7 Tryz.prog 93 [wq p env,e.d,f.d] (wV (bp p f env e))
theorem aD:nO.flat=true:=by rfl
theorem qO{p:Pg}(ks:List Pf)(es:List Tm)(hk:ks.length<=1000000)(he0:es.length<=9223372036854775807){env:List Tm}(hv:dM p.sig env)(ih:∀k∈ks,AM p k)(he:∀e∈es,cY p.sig env.length e):
 a7 Tryz.prog 221 [wq p env, .sl (es.map Tm.d), .sl (ks.map Pf.d)] (wV (ks.length==es.length&&(ks.zip es).all fun x=>bp p x.1 env x.2)):=by
 refine a7.aA mix Rp aj ?_
 rw[Vj]
 by_cases hl:ks.length=es.length
 rotate_left
 ·have zc:((es.length:Int)==(ks.length:Int))=false:=by rw[beq_eq_false_iff_ne];omega
  have yO:(ks.length==es.length)=false:=by simpa using hl
  rw[yO,Bool.false_and,aQ]
  refine eR zc ?_
  refine br aU rfl ?_
  exact cF
 have zc:((es.length:Int)==(ks.length:Int))=true:=by rw[beq_iff_eq];omega
 have yO:(ks.length==es.length)=true:=by simpa using hl
 rw[yO,Bool.true_and]
 refine eR zc ?_
 refine ah bQ rfl ?_
 refine iG ?_
 refine aK (fun k:Nat=>⟨bA [.aa, .d (.sl (es.map Tm.d)), .aa, .ptr 0 0, .aa, .aa, .aa, .aa, .aa, .aa, .aa, .aa, .aa, .aa, .d (.sl (ks.map Pf.d)), .d (.i ks.length), .d (.i k)],fS (Gd p env),1⟩)
  (fun k=>k<=ks.length/\((ks.zip es).take k).all (fun x=>bp p x.1 env x.2)=true) (fun k=>ks.length - k) 0 ⟨Nat.zero_le _,aj⟩ (bL.d1 _ (aY rfl) ad rfl ?_) (fun k hk=> ?_)
 ·exact cG
 refine iG ?_
 refine ak (fun h2=> ?_) (fun h2=> ?_)
 ·simp at h2
  obtain⟨x,hx⟩:=aw h2
  obtain⟨y,hy⟩:=aw (l:=es) (k:=k) ad
  have dc:=List.mem_of_getElem? hx
  have hz:(ks.zip es)[k]? =some (x,y):=by rw[List.getElem?_zip_eq_some];exact⟨hx,hy⟩
  have hc:=ih x dc env y hv (he y (List.mem_of_getElem? hy))
  refine mF hx hy ?_
  cases g:bp p x env y with
  |false=>
   rw[g,aQ]at hc
   refine aJ hc aD ?_
   refine aI ?_
   refine aT ⟨aV, ?_⟩
   simp only[pH,ue,oJ,qW,qX,qY,List.contains_nil,Bool.false_eq_true,if_false,dZ,qZ]
   rw[bZ hz g];rfl
  |true=>
   rw[g,bC]at hc
   refine aq hc rfl ?_
   refine mF hx hy ?_
   refine ao aV ?_
   refine aI ?_
   refine au (k+1) ⟨h2,cD hz hk.2 g⟩ ad (bL.d1 _ (aY rfl) ad rfl ?_)
   exact cG
 ·simp at h2
  rw[cE hk.2 (by rw[List.length_zip];omega),bC]
  exact cF
theorem v7:∀ (ks:List Pf) (l:List Tm),ks.length=l.length->gG l (ks.map Pf.val)=(ks.zip l).all fun x=>aZ x.1.val x.2
 |[],[],_=>rfl
 |k::ks,x::l,h=>by
  have ih:=v7 ks l Gy
  simp only[List.map_cons,gG,List.zip_cons_cons,List.all_cons,ih]
  congr 1
  rw[Bool.eq_iff_iff,iZ,iZ];exact eq_comm
 |[],_::_,h=>by simp at h
 |_::_,[],h=>by simp at h
theorem Ig(v:Tm)(op n:Int)(ks:List Pf):aZ v (.mk op n (ks.map Pf.val))=((v.op==op&&(v.n==n&&v.kids.length==ks.length))&&(ks.zip v.kids).all fun x=>aZ x.1.val x.2):=by
 obtain⟨vo,vn,vk⟩:=v
 rw[nE]
 simp only[Tm.op,Tm.n,Tm.kids,List.length_map]
 by_cases h:vk.length=ks.length
 ·rw[v7 ks _ h.symm]
  simp[Bool.and_assoc]
 ·have:(vk.length==ks.length)=false:=by simpa using h
  rw[this];simp
theorem Ih(p:Pg)(l:List Pf)(env es:List Tm):nK (l.map (bp p)) env es=(l.length==es.length&&(l.zip es).all fun x=>bp p x.1 env x.2):=by
 unfold nK
 rw[List.length_map,List.zip_map_left,List.all_map]
 rfl
@[reducible] def v8 (p:Pg) (env:List Tm) (e:Tm) (f:Pf):Nat->ab:=aL (aL (aL (fun _=> .no) 0 (.row (Gd p env))) 1 (.row e.row)) 2 (.row f.row)
theorem yD{p:Pg}{f:Pf}(hf:oH p.sig f)(ih:∀k∈f.kids,AM p k){env:List Tm}(hv:dM p.sig env){e:Tm}(he:cY p.sig env.length e)(fl:e.op=3\/e.op=5):
 a7 Tryz.prog 219 [wq p env,e.d,f.d] (wV (aZ f.val (.mk e.op e.n (f.kids.map Pf.val))&&nK (f.kids.map (bp p)) env e.kids)):=by
 have R6:=hf.len
 have fP:=((Tm.aP e).1 he.fits).1
 have hvk:=((Tm.aP f.val).1 hf.val.1.1).1
 refine a7.aA mix Rn aj ?_
 rw[Vh,Ih,Ig]
 by_cases h1:f.val.op=e.op/\f.val.n=e.n/\f.val.kids.length=f.kids.length
 rotate_left
 ·have cm:(f.val.op==e.op&&f.val.n==e.n&&(f.val.kids.length:Int)==(f.kids.length:Int))=false:=by
   rw[Bool.eq_false_iff];intro h
   simp only[Bool.and_eq_true,beq_iff_eq]at h
   exact h1 ⟨h.1.1,h.1.2,ad⟩
  have h2:(f.val.op==e.op&&(f.val.n==e.n&&f.val.kids.length==f.kids.length))=false:=by
   rw[Bool.eq_false_iff];intro h
   simp only[Bool.and_eq_true,beq_iff_eq]at h
   exact h1 h
  rw[h2,Bool.false_and,Bool.false_and,aQ]
  refine eR cm ?_
  refine br aU rfl ?_
  exact cF
 obtain⟨a1,a2,a3⟩:=h1
 have cm:(f.val.op==e.op&&f.val.n==e.n&&(f.val.kids.length:Int)==(f.kids.length:Int))=true:=by simp[a1,a2,a3]
 have h2:(f.val.op==e.op&&(f.val.n==e.n&&f.val.kids.length==f.kids.length))=true:=by simp[a1,a2,a3]
 rw[h2,Bool.true_and]
 refine eR cm ?_
 refine ah bQ rfl ?_
 refine iG ?_
 refine aK (fun k:Nat=>⟨bA [.aa, .aa, .aa, .ptr 0 0, .ptr 1 0, .ptr 2 0, .aa, .aa, .aa, .aa, .aa, .aa, .aa, .aa, .aa, .aa, .aa, .aa, .aa, .aa, .aa, .aa, .aa, .aa, .aa, .aa, .aa, .aa, .aa, .aa, .aa, .aa, .aa, .aa, .d (.sl (f.kids.map Pf.d)), .d (.i f.kids.length), .d (.i k)],v8 p env e f,3⟩)
  (fun k=>k<=f.kids.length/\((f.kids.zip f.val.kids).take k).all (fun x=>aZ x.1.val x.2)=true) (fun k=>f.kids.length - k) 0 ⟨Nat.zero_le _,aj⟩ (bL.bP _ ad ad dg (fun j hj=>rfl) ?_) (fun k hk=> ?_)
 ·exact cG
 refine iG ?_
 refine ak (fun h2=> ?_) (fun h2=> ?_)
 ·simp at h2
  obtain⟨x,hx⟩:=aw h2
  obtain⟨y,hy⟩:=aw (l:=f.val.kids) (k:=k) ad
  have dc:=List.mem_of_getElem? hx
  have hz:(f.kids.zip f.val.kids)[k]? =some (x,y):=by rw[List.getElem?_zip_eq_some];exact⟨hx,hy⟩
  refine mF hx hy ?_
  refine aq (cP _ (hf.ll dc).val.1.1 _ (hf.val.1.ll (List.mem_of_getElem? hy)).1) rfl ?_
  cases g:aZ x.val y with
  |false=>
   refine mF hx hy ?_
   refine aJ aU aD ?_
   refine aI ?_
   refine aT ⟨aV, ?_⟩
   simp only[pH,ue,oJ,qW,qX,qY,List.contains_nil,Bool.false_eq_true,if_false,dZ,qZ]
   rw[bZ hz g];rfl
  |true=>
   refine mF hx hy ?_
   refine aq bQ rfl ?_
   refine mF hx hy ?_
   refine ao aV ?_
   refine aI ?_
   refine au (k+1) ⟨h2,cD hz hk.2 g⟩ ad (bL.bP _ ad ad dg (fun j hj=>sr) ?_)
   exact cG
 ·simp at h2
  have hc:=qO f.kids e.kids ad fP hv ih (fun y hy=>he.ll ad ad hy)
  rw[cE hk.2 (by rw[List.length_zip];omega),Bool.true_and]
  refine iG ?_
  cases g:(f.kids.length==e.kids.length&&(f.kids.zip e.kids).all fun x=>bp p x.1 env x.2)with
  |false=>
   rw[g,aQ]at hc
   refine br hc rfl ?_
   refine aI ?_
   rfl
  |true=>
   rw[g,bC]at hc
   refine ah hc rfl ?_
   refine aI ?_
   rfl
theorem ON{p:Pg}{f:Pf}(hf:oH p.sig f)(ih:∀k∈f.kids,AM p k){env:List Tm}(hv:dM p.sig env){e:Tm}(he:cY p.sig env.length e)(r4:f.b7=4):
 a7 Tryz.prog 171 [wq p env,e.d,f.d] (wV (bp p f env e)):=by
 have ht:bp p f env e=(e.op==3&&(aZ f.val (.mk e.op e.n (f.kids.map Pf.val))&&nK (f.kids.map (bp p)) env e.kids)):=by rw[fD,nL,if_neg (by omega),if_neg (by omega),if_neg (by omega),if_pos r4]
 rw[ht]
 refine a7.aA mix QV aj ?_
 rw[UQ]
 by_cases h1:e.op=3
 rotate_left
 ·have cm:(e.op==3)=false:=by simpa using h1
  rw[cm,Bool.false_and,aQ]
  refine dz cm ?_
  refine br aU rfl ?_
  exact cF
 have cm:(e.op==3)=true:=by simpa using h1
 rw[cm,Bool.true_and]
 refine dz cm ?_
 refine ah bQ rfl ?_
 refine aI ?_
 have hc:=yD hf ih hv he (.inl h1)
 cases g:(aZ f.val (.mk e.op e.n (f.kids.map Pf.val))&&nK (f.kids.map (bp p)) env e.kids)with
 |false=>
  rw[g,aQ]at hc
  refine br hc rfl ?_
  refine aI ?_
  rfl
 |true=>
  rw[g,bC]at hc
  refine ah hc rfl ?_
  refine aI ?_
  rfl
theorem LU{p:Pg}{f:Pf}(hf:oH p.sig f)(ih:∀k∈f.kids,AM p k){env:List Tm}(hv:dM p.sig env){e:Tm}(he:cY p.sig env.length e)(r5:f.b7=5):
 a7 Tryz.prog 172 [wq p env,e.d,f.d] (wV (bp p f env e)):=by
 have ht:bp p f env e=(e.op==5&&(aZ f.val (.mk e.op e.n (f.kids.map Pf.val))&&nK (f.kids.map (bp p)) env e.kids)):=by rw[fD,nL,if_neg (by omega),if_neg (by omega),if_neg (by omega),if_neg (by omega),if_pos r5]
 rw[ht]
 refine a7.aA mix QW aj ?_
 rw[UR]
 by_cases h1:e.op=5
 rotate_left
 ·have cm:(e.op==5)=false:=by simpa using h1
  rw[cm,Bool.false_and,aQ]
  refine dz cm ?_
  refine br aU rfl ?_
  exact cF
 have cm:(e.op==5)=true:=by simpa using h1
 rw[cm,Bool.true_and]
 refine dz cm ?_
 refine ah bQ rfl ?_
 refine aI ?_
 have hc:=yD hf ih hv he (.inr h1)
 cases g:(aZ f.val (.mk e.op e.n (f.kids.map Pf.val))&&nK (f.kids.map (bp p)) env e.kids)with
 |false=>
  rw[g,aQ]at hc
  refine br hc rfl ?_
  refine aI ?_
  rfl
 |true=>
  rw[g,bC]at hc
  refine ah hc rfl ?_
  refine aI ?_
  rfl
theorem OO{p:Pg}{f:Pf}(hf:oH p.sig f){env:List Tm}{e:Tm}(r1:f.b7=1):
 a7 Tryz.prog 168 [wq p env,e.d,f.d] (wV (bp p f env e)):=by
 have R6:=hf.len
 have ht:bp p f env e=(f.kids.length==0&&f.val.op==16):=by rw[fD,nL,if_pos r1]
 rw[ht]
 refine a7.aA mix QS aj ?_
 rw[UN]
 by_cases h1:f.val.op=16
 rotate_left
 ·have cm:(f.val.op==16)=false:=by simpa using h1
  rw[cm,Bool.and_false,aQ]
  refine dz cm ?_
  refine br aU rfl ?_
  exact cF
 have cm:(f.val.op==16)=true:=by simpa using h1
 rw[cm,Bool.and_true]
 by_cases h2:f.kids.length=0
 rotate_left
 ·have j8:((f.kids.length:Int)==0)=false:=by rw[beq_eq_false_iff_ne];omega
  have mw:(f.kids.length==0)=false:=by simpa using h2
  rw[mw,aQ]
  refine mF cm j8 ?_
  refine br aU rfl ?_
  exact cF
 have j8:((f.kids.length:Int)==0)=true:=by rw[beq_iff_eq];omega
 have mw:(f.kids.length==0)=true:=by simpa using h2
 rw[mw,bC]
 refine mF cm j8 ?_
 refine ah bQ rfl ?_
 exact cF
theorem OP{p:Pg}{f:Pf}(hf:oH p.sig f){env:List Tm}(hv:dM p.sig env){e:Tm}(he:cY p.sig env.length e)(r2:f.b7=2):
 a7 Tryz.prog 169 [wq p env,e.d,f.d] (wV (bp p f env e)):=by
 have R6:=hf.len
 have ht:bp p f env e=(e.op==1&&(f.kids.length==0&&vz f.val ((env[e.n.toNat]?).getD hU))):=by rw[fD,nL,if_neg (by omega),if_pos r2]
 rw[ht]
 refine a7.aA mix QT aj ?_
 rw[UO]
 by_cases h1:e.op=1
 rotate_left
 ·have cm:(e.op==1)=false:=by simpa using h1
  rw[cm,Bool.false_and,aQ]
  refine eR cm ?_
  refine aJ aU aD ?_
  refine aI ?_
  refine aT ⟨aV, ?_⟩
  exact jw
 have cm:(e.op==1)=true:=by simpa using h1
 rw[cm,Bool.true_and]
 by_cases h2:f.kids.length=0
 rotate_left
 ·have j8:((f.kids.length:Int)==0)=false:=by rw[beq_eq_false_iff_ne];omega
  have mw:(f.kids.length==0)=false:=by simpa using h2
  rw[mw,Bool.false_and,aQ]
  refine mF cm j8 ?_
  refine aJ aU aD ?_
  refine aI ?_
  refine aT ⟨aV, ?_⟩
  exact jw
 have j8:((f.kids.length:Int)==0)=true:=by rw[beq_iff_eq];omega
 have mw:(f.kids.length==0)=true:=by simpa using h2
 obtain⟨v0,v1⟩:=he.var h1
 obtain⟨x,hx⟩:=aw (l:=env) (k:=e.n.toNat) ad
 have PM:=hv.all x (List.mem_of_getElem? hx)
 rw[hx,Option.getD_some,mw,Bool.true_and]
 refine Di cm j8 hx v0 ?_
 refine aq (Cv f.val hf.val.1.1 hf.val.1.2 x PM.1 PM.2) rfl ?_
 cases g:vz f.val x with
 |false=>
  rw[aQ]
  refine dz cm ?_
  refine aJ aU aD ?_
  refine aI ?_
  refine aT ⟨aV, ?_⟩
  exact jw
 |true=>
  rw[bC]
  refine dz cm ?_
  refine aq bQ rfl ?_
  refine aI ?_
  refine ao aV ?_
  exact cF
theorem OQ{p:Pg}{f:Pf}(hf:oH p.sig f){env:List Tm}{e:Tm}(he:e.fits)(r3:f.b7=3):
 a7 Tryz.prog 170 [wq p env,e.d,f.d] (wV (bp p f env e)):=by
 have R6:=hf.len
 have hsy:aZ f.val e=aZ e f.val:=by rw[Bool.eq_iff_iff,iZ,iZ];exact eq_comm
 have ht:bp p f env e=(e.op==2&&(f.kids.length==0&&aZ e f.val)):=by rw[fD,nL,if_neg (by omega),if_neg (by omega),if_pos r3,hsy]
 rw[ht]
 refine a7.aA mix QU aj ?_
 rw[UP]
 by_cases h1:e.op=2
 rotate_left
 ·have cm:(e.op==2)=false:=by simpa using h1
  rw[cm,Bool.false_and,aQ]
  refine eR cm ?_
  refine br aU rfl ?_
  exact cF
 have cm:(e.op==2)=true:=by simpa using h1
 rw[cm,Bool.true_and]
 by_cases h2:f.kids.length=0
 rotate_left
 ·have j8:((f.kids.length:Int)==0)=false:=by rw[beq_eq_false_iff_ne];omega
  have mw:(f.kids.length==0)=false:=by simpa using h2
  rw[mw,Bool.false_and,aQ]
  refine mF cm j8 ?_
  refine br aU rfl ?_
  exact cF
 have j8:((f.kids.length:Int)==0)=true:=by rw[beq_iff_eq];omega
 have mw:(f.kids.length==0)=true:=by simpa using h2
 rw[mw,Bool.true_and]
 refine mF cm j8 ?_
 refine ah (cP e he f.val hf.val.1.1) rfl ?_
 cases g:aZ e f.val with
 |false=>
  rw[aQ]
  refine dz cm ?_
  refine br aU rfl ?_
  exact cF
 |true=>
  rw[bC]
  refine dz cm ?_
  refine ah bQ rfl ?_
  exact cF
theorem kV{p:Pg}{l:List Pf}{i:Nat}{x:Pf}(h:l[i]? =some x):pA (l.map (bp p)) i=bp p x:=by unfold pA;rw[List.getElem?_map,h];rfl
theorem wa{p:Pg}{f:Pf}(hf:oH p.sig f)(ih:∀k∈f.kids,AM p k){env:List Tm}(hv:dM p.sig env){e:Tm}(he:cY p.sig env.length e)(i:Nat)(hi:i<2):
 a7 Tryz.prog 224 [wq p env,e.d,f.d, .i i] (wV (e.op==7&&(f.kids.length==1&&aZ (bK f.kids 0) f.val&&pA (f.kids.map (bp p)) 0 env (lr e i)))):=by
 have R6:=hf.len
 refine a7.aA mix Rs aj ?_
 rw[Vm]
 by_cases h1:e.op=7
 rotate_left
 ·have cm:(e.op==7)=false:=by simpa using h1
  rw[cm,Bool.false_and,aQ]
  refine eR cm ?_
  refine aJ aU aD ?_
  refine aI ?_
  refine aT ⟨aV, ?_⟩
  exact jw
 have cm:(e.op==7)=true:=by simpa using h1
 rw[cm,Bool.true_and]
 by_cases h2:f.kids.length=1
 rotate_left
 ·have j8:((f.kids.length:Int)==1)=false:=by rw[beq_eq_false_iff_ne];omega
  have mw:(f.kids.length==1)=false:=by simpa using h2
  rw[mw,Bool.false_and,Bool.false_and,aQ]
  refine mF cm j8 ?_
  refine aJ aU aD ?_
  refine aI ?_
  refine aT ⟨aV, ?_⟩
  exact jw
 have j8:((f.kids.length:Int)==1)=true:=by rw[beq_iff_eq];omega
 have mw:(f.kids.length==1)=true:=by simpa using h2
 have h3:=Av he.node1 ad ad
 obtain⟨x,hx⟩:=aw (l:=f.kids) (k:=0) ad
 obtain⟨a,ha⟩:=aw (l:=e.kids) (k:=i) ad
 have dc:=List.mem_of_getElem? hx
 rw[bY hx,kV hx,mu ha,mw,Bool.true_and]
 refine My cm j8 hx ?_
 refine aq (cP _ (hf.ll dc).val.1.1 f.val hf.val.1.1) rfl ?_
 cases g:aZ x.val f.val with
 |false=>
  rw[Bool.false_and,aQ]
  refine My cm j8 hx ?_
  refine aJ aU aD ?_
  refine aI ?_
  refine aT ⟨aV, ?_⟩
  exact jw
 |true=>
  rw[Bool.true_and]
  refine My cm j8 hx ?_
  refine aq bQ rfl ?_
  refine aI ?_
  refine ao aV ?_
  refine mF hx ha ?_
  have hc:=ih x dc env a hv (he.ll ad ad (List.mem_of_getElem? ha))
  cases g2:bp p x env a with
  |false=>
   rw[g2,aQ]at hc
   rw[aQ]
   refine aJ hc aD ?_
   refine aI ?_
   refine aT ⟨aV, ?_⟩
   exact jw
  |true=>
   rw[g2,bC]at hc
   rw[bC]
   refine aq hc rfl ?_
   refine aI ?_
   refine ao aV ?_
   exact cF
theorem LV{p:Pg}{f:Pf}(hf:oH p.sig f)(ih:∀k∈f.kids,AM p k){env:List Tm}(hv:dM p.sig env){e:Tm}(he:cY p.sig env.length e)(r7:f.b7=7):
 a7 Tryz.prog 174 [wq p env,e.d,f.d] (wV (bp p f env e)):=by
 have ht:bp p f env e=(e.op==7&&(f.kids.length==1&&aZ (bK f.kids 0) f.val&&pA (f.kids.map (bp p)) 0 env (lr e 0))):=by rw[fD,nL,if_neg (by omega),if_neg (by omega),if_neg (by omega),if_neg (by omega),if_neg (by omega),if_neg (by omega),if_pos r7]
 have hc:=wa hf ih hv he 0 ad
 rw[<- ht]at hc
 refine a7.aA mix QY aj ?_
 rw[UT]
 refine aI ?_
 cases g:bp p f env e with
 |false=>
  rw[g,aQ]at hc
  rw[aQ]
  refine br hc rfl ?_
  exact cF
 |true=>
  rw[g,bC]at hc
  rw[bC]
  refine ah hc rfl ?_
  exact cF
theorem Ii{p:Pg}{f:Pf}(hf:oH p.sig f)(ih:∀k∈f.kids,AM p k){env:List Tm}(hv:dM p.sig env){e:Tm}(he:cY p.sig env.length e)(r8:f.b7=8):
 a7 Tryz.prog 175 [wq p env,e.d,f.d] (wV (bp p f env e)):=by
 have ht:bp p f env e=(e.op==7&&(f.kids.length==1&&aZ (bK f.kids 0) f.val&&pA (f.kids.map (bp p)) 0 env (lr e 1))):=by rw[fD,nL,if_neg (by omega),if_neg (by omega),if_neg (by omega),if_neg (by omega),if_neg (by omega),if_neg (by omega),if_neg (by omega),if_pos r8]
 have hc:=wa hf ih hv he 1 ad
 rw[<- ht]at hc
 refine a7.aA mix QZ aj ?_
 rw[UU]
 refine aI ?_
 cases g:bp p f env e with
 |false=>
  rw[g,aQ]at hc
  rw[aQ]
  refine br hc rfl ?_
  exact cF
 |true=>
  rw[g,bC]at hc
  rw[bC]
  refine ah hc rfl ?_
  exact cF
theorem EL(l:List Tm)(hl:l.length<=1000000)(o:Nat->ab)(nx:Nat)(hg:Good o nx)(K X:V->(Nat->ab)->Nat->Prop)
 (hK:∀v o' nx' id,(v= .bW/\l=[])\/(v= .osl id 1/\o' id= .arr 1 31 3 (l.map Tm.d))->nx<=id->id<nx'->nx<=nx'->Good o' nx'->(∀j,j<nx->o' j=o j)->K v o' nx'):
 cK Tryz.prog 94 [.d (.sl (l.map Tm.d))] o nx K X:=by
 cases iD:l with
 |nil=>
  subst iD
  refine cK.aA mix Ko aj ?_
  rw[Xl]
  have hu:Tryz.prog.underlying 28=some (.slice 31):=af
  have heq:∀O,pP Tryz.prog O 28 true (.d (.sl [])) .bW=some .eZ:=by
   intro O
   unfold pP
   rw[hu]
   rfl
  simp only[List.map_nil]
  refine AO heq ?_
  simp only[List.isEmpty_nil,if_true]
  refine AO heq ?_
  exact⟨hK _ _ _ nx (.inl ⟨rfl,rfl⟩) ad ad ad dg fun _ _=>rfl,hK _ _ _ (nx+3) (.inr ⟨rfl,ae _ _ _⟩) ad ad ad dg fun j hj=>by(repeat(first|rfl|rw[ae]|rw[ai _ _ _ _ (by omega)]))⟩
 |cons a r=>
  rw[<- iD]
  refine vY l (by rw[iD];simp) hl o nx K X (hK _ _ _ (nx+3) (.inr ⟨rfl,ae _ _ _⟩) ad ad ad dg fun j hj=>ai _ _ _ _ ad)
set_option maxHeartbeats 1000000 in
theorem OR{p:Pg}{f:Pf}(hf:oH p.sig f)(ih:∀k∈f.kids,AM p k){env:List Tm}(hv:dM p.sig env){e:Tm}(he:cY p.sig env.length e)(r9:f.b7=9):
 a7 Tryz.prog 176 [wq p env,e.d,f.d] (wV (bp p f env e)):=by
 have R6:=hf.len
 have Pl:=hv.len
 have ht:bp p f env e=(e.op==8&&(f.kids.length==2&&aZ (bK f.kids 1) f.val&&pA (f.kids.map (bp p)) 0 env (lr e 0)&&pA (f.kids.map (bp p)) 1 (jH env e.n (bK f.kids 0)) (lr e 1))):=by
  rw[fD,nL,if_neg (by omega),if_neg (by omega),if_neg (by omega),if_neg (by omega),if_neg (by omega),if_neg (by omega),if_neg (by omega),if_neg (by omega),if_pos r9]
 rw[ht]
 refine a7.aA mix Q0 aj ?_
 rw[UW]
 by_cases h1:e.op=8
 rotate_left
 ·have cm:(e.op==8)=false:=by simpa using h1
  rw[cm,Bool.false_and,aQ]
  refine eR cm ?_
  refine aJ aU aD ?_
  refine aI ?_
  refine aT ⟨aV, ?_⟩
  exact jw
 have cm:(e.op==8)=true:=by simpa using h1
 rw[cm,Bool.true_and]
 by_cases h2:f.kids.length=2
 rotate_left
 ·have j8:((f.kids.length:Int)==2)=false:=by rw[beq_eq_false_iff_ne];omega
  have mw:(f.kids.length==2)=false:=by simpa using h2
  rw[mw,Bool.false_and,Bool.false_and,Bool.false_and,aQ]
  refine mF cm j8 ?_
  refine aJ aU aD ?_
  refine aI ?_
  refine aT ⟨aV, ?_⟩
  exact jw
 have j8:((f.kids.length:Int)==2)=true:=by rw[beq_iff_eq];omega
 have mw:(f.kids.length==2)=true:=by simpa using h2
 have hn:=he.node1
 simp[bw,h1,cZ]at hn
 obtain⟨x,hx⟩:=aw (l:=f.kids) (k:=0) ad
 obtain⟨y,hy⟩:=aw (l:=f.kids) (k:=1) ad
 obtain⟨a,ha⟩:=aw (l:=e.kids) (k:=0) ad
 obtain⟨b,hb⟩:=aw (l:=e.kids) (k:=1) ad
 have dc:=List.mem_of_getElem? hx
 have wL:=List.mem_of_getElem? hy
 rw[bY hx,bY hy,kV hx,kV hy,mu ha,mu hb,mw,Bool.true_and]
 refine Di cm j8 hx hy ?_
 refine aq (cP _ (hf.ll wL).val.1.1 f.val hf.val.1.1) rfl ?_
 cases g:aZ y.val f.val with
 |false=>
  rw[Bool.false_and,Bool.false_and,aQ]
  refine Di cm j8 hx hy ?_
  refine aJ aU aD ?_
  refine aI ?_
  refine aT ⟨aV, ?_⟩
  exact jw
 |true=>
 rw[Bool.true_and]
 refine Di cm j8 hx hy ?_
 refine aq bQ rfl ?_
 refine aI ?_
 refine ao aV ?_
 refine mF hx ha ?_
 have hc:=ih x dc env a hv (he.acM h1 ha)
 cases g2:bp p x env a with
 |false=>
  rw[g2,aQ]at hc
  rw[Bool.false_and,aQ]
  refine aJ hc aD ?_
  refine aI ?_
  refine aT ⟨aV, ?_⟩
  exact jw
 |true=>
 rw[g2,bC]at hc
 rw[Bool.true_and]
 refine aq hc rfl ?_
 refine aI ?_
 refine ao aV ?_
 refine aI ?_
 refine c6 (EL env ad _ _ dg _ _ fun v o1 n1 id q1 q2 q3 q4 q5 q6=> ?_)
 refine aI ?_
 obtain⟨n,hn0⟩:∃n:Nat,e.n=n:=⟨e.n.toNat,ad⟩
 have G3:n<=19:=ad
 have hgw:Ee o1 (fun j=>j=id) 31 3 (env.map Tm.d) v:=by
  rcases q1 with⟨a1,a2⟩|⟨a1,a2⟩
  ·exact .inl ⟨a1,by rw[a2];rfl,aV⟩
  ·exact .inr ⟨id,1,rfl,a1,a2⟩
 let m:=n+1 - env.length
 have hm:m=n+1 - env.length:=rfl
 refine aK (fun i:Nat=>⟨bA [.aa, .aa, .aa, .ptr 0 0, .ptr 1 0, .ptr 2 0, .osl 3 0],aL (v8 p env e f) 3 (.arr 0 31 3 ((env++List.replicate i hU).map Tm.d)),4⟩)
  (fun i=>i<=m) (fun i=>m - i) 0 (Nat.zero_le _) ?_ ?_
 ·refine bL.zY (fun j=>j=id) v 3 _ ad (lt3 (jt (y:= .row (Gd p env)) Sk eh (c7 rfl pI)) (jt (y:= .row e.row) Sk eh (c7 rfl pI)) (jt (y:= .row f.row) Sk eh (c7 rfl pI))) (ae _ _ _) (by simpa using hgw) (fun j hj=>by unfold v8;(repeat(first|rfl|rw[ae]|rw[ai _ _ _ _ (by omega)]))) (fun j h h2=>ad) ?_
  exact ra
 rintro k hk
 replace hk:k<=m:=hk
 have e0:(env++List.replicate k hU).length=env.length+k:=aj
 refine mF e0 hn0 ?_
 refine ak (fun h2=> ?_) (fun h2=> ?_)
 ·simp at h2
  refine eR e0 ?_
  refine bf vZ ?_
  refine eR e0 ?_
  refine au (k+1) ad ad (bL.zY (fun j=>j=3) (.osl 3 1) 3 _ ad (lt3 (jt (y:= .row (Gd p env)) eh eh (c7 rfl pI)) (jt (y:= .row e.row) eh eh (c7 rfl pI)) (jt (y:= .row f.row) eh eh (c7 rfl pI))) (ae _ _ _) (.inr ⟨3,1,rfl,rfl,by(repeat(first|rfl|rw[ae]|rw[ai _ _ _ _ (by omega)]));rw[List.replicate_succ', <- List.append_assoc,List.map_append (l₂:=[hU])];rfl⟩) (fun j hj=>by unfold v8;(repeat(first|rfl|rw[ae]|rw[ai _ _ _ _ (by omega)]))) (fun j h h2=>ad) ?_)
  exact ra
 ·simp at h2
  have Wa:k=m:=ad
  obtain⟨z,hz⟩:=aw (l:=env++List.replicate k hU) (k:=n) ad
  obtain⟨zo,zn,zk⟩:=z
  simp+contextual (disch:=first|omega|simp only[go_sem,false_implies]) only[go_sem,wrap64,if_pos,List.length_map,e0,hn0,hx,hz,Tm.rO]
  have zN:(List.map Tm.d (env++List.replicate k hU)).set n x.val.d=(jH env e.n x.val).map Tm.d:=by
   rw[hn0,Ic,List.map_set,Wa]
  rw[zN]
  refine ao aV ?_
  have hwo:dM p.sig (jH env e.n x.val):=Lo hv ad (hf.ll dc).val.1
  have hwl:(jH env e.n x.val).length=max env.length (e.n.toNat+1):=yq _ _ _
  refine mF hy hb ?_
  refine bB (LM p env (jH env e.n x.val)) ?_
  refine mF hy hb ?_
  have hc:=ih y wL (jH env e.n x.val) b hwo (he.acN h1 hb ad ad)
  cases g3:bp p y (jH env e.n x.val) b with
  |false=>
   rw[g3,aQ]at hc
   rw[aQ]
   refine aJ hc aD ?_
   refine aI ?_
   refine aT ⟨aV, ?_⟩
   exact jw
  |true=>
   rw[g3,bC]at hc
   rw[bC]
   refine aq hc rfl ?_
   refine aI ?_
   refine ao aV ?_
   exact cF
theorem LW(l:List Int)(x:Int)(hl:l.length<=1000):a7 Tryz.prog 261 [.sl (l.map .i), .i x] (.ret [.i (match l.findIdx? (· ==x)with|some i=>(i:Int)|none=> -1)]):=by
 refine a7.aA mix RT aj ?_
 rw[VL]
 refine iG ?_
 refine aK (fun k:Nat=>⟨bA [.d (.sl (l.map .i)), .d (.i x), .aa, .aa, .aa, .aa, .d (.sl (l.map .i)), .d (.i l.length), .d (.i k)],fun _=> .no,0⟩)
  (fun k=>k<=l.length/\∀j y,j<k->l[j]? =some y->(y==x)=false) (fun k=>l.length - k) 0 ⟨Nat.zero_le _,fun _ _ h=>absurd h ad⟩ (bL.d0 _ ?_) (fun k hk=> ?_)
 ·exact cG
 refine iG ?_
 refine ak (fun h2=> ?_) (fun h2=> ?_)
 ·simp at h2
  obtain⟨y,hy⟩:=aw h2
  refine eR hy ?_
  refine ak (fun h3=> ?_) (fun h3=> ?_)
  ·have rB:x=y:=by simpa using h3
   have:l.findIdx? (· ==x)=some k:=by
    rw[List.findIdx?_eq_some_iff_getElem]
    obtain⟨Lc,e⟩:=List.getElem?_eq_some_iff.1 hy
    refine⟨Lc,by rw[e];simp[rB],fun j hj=> ?_⟩
    have:=hk.2 j _ hj (List.getElem?_eq_getElem ad)
    simpa using this
   rw[this]
   exact cF
  ·refine aI ?_
   refine au (k+1) ⟨h2,fun j z hj hz=> ?_⟩ ad (bL.d0 _ ?_)
   ·by_cases e:j=k
    ·subst e;rw[hy]at hz;injection hz with hz;subst hz
     rw[beq_eq_false_iff_ne];intro e;subst e;simp at h3
    ·exact hk.2 j z ad hz
   ·exact cG
 ·simp at h2
  have:l.findIdx? (· ==x)=none:=by
   rw[List.findIdx?_eq_none_iff]
   intro y hy
   obtain⟨j,hj,e⟩:=List.getElem_of_mem hy
   exact hk.2 j y ad (by rw[List.getElem?_eq_getElem hj,e])
  rw[this]
  exact cF
theorem LX(l:List Int)(x:Int)(hl:l.length<=1000):a7 Tryz.prog 255 [.sl (l.map .i), .i x] (.ret [.bool (l.contains x)]):=by
 refine a7.aA mix RN aj ?_
 rw[VG]
 refine aI ?_
 refine ah (LW l x hl) rfl ?_
 refine aI ?_
 cases h:l.findIdx? (· ==x)with
 |some i=>
  have:l.contains x=true:=by
   rw[List.findIdx?_eq_some_iff_getElem]at h
   obtain⟨h1,h2,_⟩:=h
   have h2:l[i]=x:=by simpa using h2
   rw[List.contains_iff_mem, <- h2];exact List.getElem_mem h1
  rw[this]
  simp
 |none=>
  have:l.contains x=false:=by
   rw[List.findIdx?_eq_none_iff]at h
   rw[Bool.eq_false_iff];intro hc
   have:=h x (List.contains_iff_mem.1 hc)
   simp at this
  rw[this]
  simp
theorem Aw{α:Type}{l:List α}(h:l.length=2):∃a b,l=[a,b]:=by
 match l,h with
 |[a,b],_=>exact⟨a,b,rfl⟩
def twR(b:Bool)(x y:Tm):R:=if b=true then .ret [x.d,y.d]else .bR nO
theorem yE(x y:Tm):twR true x y= .ret [x.d,y.d]:=rfl
theorem s7(x y:Tm):twR false x y= .bR nO:=rfl
def lV(p:Pg)(ops:List Int)(f:Pf)(env:List Tm)(e:Tm):Bool:=ops.contains e.op&&(f.kids.length==2&&(pA (f.kids.map (bp p)) 0 env (lr e 0)&&pA (f.kids.map (bp p)) 1 env (lr e 1)))
theorem qP{p:Pg}{f:Pf}(hf:oH p.sig f)(ih:∀k∈f.kids,AM p k){env:List Tm}(hv:dM p.sig env){e:Tm}(he:cY p.sig env.length e)(ops:List Int)(ho:ops.length<=1000)(ho2:∀o∈ops,9<=o/\o<=15):
 a7 Tryz.prog 226 [wq p env,e.d,f.d, .sl (ops.map .i)] (twR (lV p ops f env e) (bK f.kids 0) (bK f.kids 1)):=by
 have R6:=hf.len
 have fP:=((Tm.aP e).1 he.fits).1
 refine a7.aA mix Ru aj ?_
 rw[Vo]
 refine aI ?_
 refine ah (LX ops e.op ho) rfl ?_
 unfold lV
 cases h1:ops.contains e.op with
 |false=>
  rw[Bool.false_and,s7]
  refine aI ?_
  refine br aU rfl ?_
  exact cF
 |true=>
 have fl:=ho2 e.op (List.contains_iff_mem.1 h1)
 have Wm:=Av he.node1 ad ad
 rw[Bool.true_and]
 refine aI ?_
 refine ah bQ rfl ?_
 refine aI ?_
 have hc:=qO f.kids e.kids ad fP hv ih (fun y hy=>he.ll ad ad hy)
 rw[Wm]at hc
 by_cases h2:f.kids.length=2
 rotate_left
 ·have j8:(f.kids.length==2)=false:=by simpa using h2
  rw[j8,Bool.false_and,aQ]at hc
  rw[j8,Bool.false_and,s7]
  refine br hc rfl ?_
  exact cF
 have j8:(f.kids.length==2)=true:=by simpa using h2
 obtain⟨a,b,Wn⟩:=Aw Wm
 obtain⟨x,y,hxy⟩:=Aw h2
 have hx:f.kids[0]? =some x:=by rw[hxy];rfl
 have hy:f.kids[1]? =some y:=by rw[hxy];rfl
 have ha:e.kids[0]? =some a:=by rw[Wn];rfl
 have hb:e.kids[1]? =some b:=by rw[Wn];rfl
 have hz:((f.kids.zip e.kids).all fun x=>bp p x.1 env x.2)=(bp p x env a&&bp p y env b):=by rw[hxy,Wn];simp
 rw[j8,Bool.true_and,hz]at hc
 rw[j8,Bool.true_and,kV hx,kV hy,mu ha,mu hb,bY hx,bY hy]
 cases g:(bp p x env a&&bp p y env b)with
 |false=>
  rw[g,aQ]at hc
  rw[s7]
  refine br hc rfl ?_
  exact cF
 |true=>
  rw[g,bC]at hc
  rw[yE]
  refine ah hc rfl ?_
  refine mF hx hy ?_
  refine ao aV ?_
  exact cF
theorem qQ{p:Pg}{f:Pf}{env:List Tm}{e:Tm}(h:10<=f.b7/\f.b7<=14):bp p f env e=(f.kids.length==2&&Ao f.b7 e f.val (bK f.kids 0) (bK f.kids 1)&&(pA (f.kids.map (bp p)) 0 env (lr e 0)&&pA (f.kids.map (bp p)) 1 env (lr e 1))):=by
 rw[fD,nL,if_neg (by omega),if_neg (by omega),if_neg (by omega),if_neg (by omega),if_neg (by omega),if_neg (by omega),if_neg (by omega),if_neg (by omega),if_neg (by omega),if_neg (by omega)]
theorem LY{p:Pg}{f:Pf}(hf:oH p.sig f)(ih:∀k∈f.kids,AM p k){env:List Tm}(hv:dM p.sig env){e:Tm}(he:cY p.sig env.length e)(r:f.b7=10):
 a7 Tryz.prog 177 [wq p env,e.d,f.d] (wV (bp p f env e)):=by
 have ht:bp p f env e=(lV p [9] f env e&&(aZ (bK f.kids 0) (gK true)&&aZ (bK f.kids 1) f.val)):=by
  rw[qQ (by omega),r]
  have:Ao 10 e f.val (bK f.kids 0) (bK f.kids 1)=(e.op==9&&(aZ (bK f.kids 0) (gK true)&&aZ (bK f.kids 1) f.val)):=rfl
  rw[this,lV,List.contains_cons,List.contains_nil,Bool.or_false]
  ac_rfl
 have hc:=qP hf ih hv he [9] aV aV
 rw[ht]
 refine a7.aA mix Q1 aj ?_
 rw[UX]
 refine aI ?_
 cases h1:lV p [9] f env e with
 |false=>
  rw[h1,s7]at hc
  rw[Bool.false_and,aQ]
  refine br hc rfl ?_
  exact cF
 |true=>
 rw[h1,yE]at hc
 have h2:f.kids.length=2:=by
  exact IV
 obtain⟨x,hx⟩:=aw (l:=f.kids) (k:=0) ad
 obtain⟨y,hy⟩:=aw (l:=f.kids) (k:=1) ad
 have wk:=(hf.ll (List.mem_of_getElem? hx)).val
 have Ge:=(hf.ll (List.mem_of_getElem? hy)).val
 rw[bY hx,bY hy]at hc
 rw[bY hx,bY hy,Bool.true_and]
 refine bf hc ?_
 refine aI ?_
 refine bB (kF true) ?_
 refine aI ?_
 refine aq (cP _ wk.1.1 _ (je true)) rfl ?_
 cases g1:aZ x.val (gK true)with
 |false=>
  rw[Bool.false_and,aQ]
  refine aI ?_
  refine aJ aU aD ?_
  refine aI ?_
  refine aT ⟨aV, ?_⟩
  exact jw
 |true=>
 rw[Bool.true_and]
 refine aI ?_
 refine aq (cP _ Ge.1.1 _ hf.val.1.1) rfl ?_
 cases g2:aZ y.val f.val with
 |false=>
  rw[aQ]
  refine aI ?_
  refine aJ aU aD ?_
  refine aI ?_
  refine aT ⟨aV, ?_⟩
  exact jw
 |true=>
 rw[bC]
 refine aI ?_
 refine aq bQ rfl ?_
 refine aI ?_
 refine ao aV ?_
 exact cF
set_option maxHeartbeats 1000000 in
theorem LZ{p:Pg}{f:Pf}(hf:oH p.sig f)(ih:∀k∈f.kids,AM p k){env:List Tm}(hv:dM p.sig env){e:Tm}(he:cY p.sig env.length e)(r:f.b7=11):
 a7 Tryz.prog 178 [wq p env,e.d,f.d] (wV (bp p f env e)):=by
 have ht:bp p f env e=(lV p [10] f env e&&(aZ (bK f.kids 0) (gK true)&&aZ (bK f.kids 1) (gK true)&&aZ f.val (gK true))):=by
  rw[qQ (by omega),r]
  have:Ao 11 e f.val (bK f.kids 0) (bK f.kids 1)=(e.op==10&&(aZ (bK f.kids 0) (gK true)&&aZ (bK f.kids 1) (gK true)&&aZ f.val (gK true))):=rfl
  rw[this,lV]
  simp only[List.contains_cons,List.contains_nil,Bool.or_false]
  try rw[Bool.or_assoc]
  ac_rfl
 have hc:=qP hf ih hv he [10] aV aV
 rw[ht]
 refine a7.aA mix Q2 aj ?_
 rw[UY]
 refine aI ?_
 cases h1:lV p [10] f env e with
 |false=>
  rw[h1,s7]at hc
  rw[Bool.false_and,aQ]
  refine br hc rfl ?_
  exact cF
 |true=>
 rw[h1,yE]at hc
 have h2:f.kids.length=2:=by
  exact IV
 obtain⟨x,hx⟩:=aw (l:=f.kids) (k:=0) ad
 obtain⟨y,hy⟩:=aw (l:=f.kids) (k:=1) ad
 have wk:=(hf.ll (List.mem_of_getElem? hx)).val
 have Ge:=(hf.ll (List.mem_of_getElem? hy)).val
 rw[bY hx,bY hy]at hc
 rw[bY hx,bY hy,Bool.true_and]
 refine bf hc ?_
 refine aI ?_
 refine bB (kF true) ?_
 refine aI ?_
 refine aq (cP _ wk.1.1 _ (je true)) rfl ?_
 cases g1:aZ x.val (gK true)with
 |false=>
  rw[Bool.false_and,Bool.false_and,aQ]
  refine aI ?_
  refine aJ aU aD ?_
  refine aI ?_
  refine aT ⟨aV, ?_⟩
  exact jw
 |true=>
 rw[Bool.true_and]
 refine aI ?_
 refine bB (kF true) ?_
 refine aI ?_
 refine aq (cP _ Ge.1.1 _ (je true)) rfl ?_
 cases g2:aZ y.val (gK true)with
 |false=>
  rw[Bool.false_and,aQ]
  refine aI ?_
  refine aJ aU aD ?_
  refine aI ?_
  refine aT ⟨aV, ?_⟩
  exact jw
 |true=>
 rw[Bool.true_and]
 refine aI ?_
 refine bB (kF true) ?_
 refine aI ?_
 refine aq (cP _ hf.val.1.1 _ (je true)) rfl ?_
 cases g3:aZ f.val (gK true)with
 |false=>
  rw[aQ]
  refine aI ?_
  refine aJ aU aD ?_
  refine aI ?_
  refine aT ⟨aV, ?_⟩
  exact jw
 |true=>
 rw[bC]
 refine aI ?_
 refine aq bQ rfl ?_
 refine aI ?_
 refine ao aV ?_
 exact cF
set_option maxHeartbeats 1000000 in
theorem Ij{p:Pg}{f:Pf}(hf:oH p.sig f)(ih:∀k∈f.kids,AM p k){env:List Tm}(hv:dM p.sig env){e:Tm}(he:cY p.sig env.length e)(r:f.b7=12):
 a7 Tryz.prog 179 [wq p env,e.d,f.d] (wV (bp p f env e)):=by
 have ht:bp p f env e=(lV p [11] f env e&&(aZ (bK f.kids 0) (bK f.kids 1)&&cO 16 (bK f.kids 0)&&aZ f.val (gK true))):=by
  rw[qQ (by omega),r]
  have:Ao 12 e f.val (bK f.kids 0) (bK f.kids 1)=(e.op==11&&(aZ (bK f.kids 0) (bK f.kids 1)&&cO 16 (bK f.kids 0)&&aZ f.val (gK true))):=rfl
  rw[this,lV]
  simp only[List.contains_cons,List.contains_nil,Bool.or_false]
  try rw[Bool.or_assoc]
  ac_rfl
 have hc:=qP hf ih hv he [11] aV aV
 rw[ht]
 refine a7.aA mix Q3 aj ?_
 rw[UZ]
 refine aI ?_
 cases h1:lV p [11] f env e with
 |false=>
  rw[h1,s7]at hc
  rw[Bool.false_and,aQ]
  refine br hc rfl ?_
  exact cF
 |true=>
 rw[h1,yE]at hc
 have h2:f.kids.length=2:=by
  exact IV
 obtain⟨x,hx⟩:=aw (l:=f.kids) (k:=0) ad
 obtain⟨y,hy⟩:=aw (l:=f.kids) (k:=1) ad
 have wk:=(hf.ll (List.mem_of_getElem? hx)).val
 have Ge:=(hf.ll (List.mem_of_getElem? hy)).val
 rw[bY hx,bY hy]at hc
 rw[bY hx,bY hy,Bool.true_and]
 refine bf hc ?_
 refine aI ?_
 refine aq (cP _ wk.1.1 _ Ge.1.1) rfl ?_
 cases g1:aZ x.val y.val with
 |false=>
  rw[Bool.false_and,Bool.false_and,aQ]
  refine aI ?_
  refine aJ aU aD ?_
  refine aI ?_
  refine aT ⟨aV, ?_⟩
  exact jw
 |true=>
 rw[Bool.true_and]
 refine aI ?_
 refine aq (vB _ wk.1.1 wk.1.2) rfl ?_
 have hk:decide (1<=Eo x.val)=cO 16 x.val:=by rw[Bool.eq_iff_iff,decide_eq_true_eq];exact(Ep x.val wk.1.2).2.1
 cases g2:cO 16 x.val with
 |false=>
  rw[g2]at hk
  rw[Bool.false_and,aQ]
  refine dz hk ?_
  refine aJ aU aD ?_
  refine aI ?_
  refine aT ⟨aV, ?_⟩
  exact jw
 |true=>
 rw[g2]at hk
 rw[Bool.true_and]
 refine dz hk ?_
 refine bB (kF true) ?_
 refine aI ?_
 refine aq (cP _ hf.val.1.1 _ (je true)) rfl ?_
 cases g3:aZ f.val (gK true)with
 |false=>
  rw[aQ]
  refine aI ?_
  refine aJ aU aD ?_
  refine aI ?_
  refine aT ⟨aV, ?_⟩
  exact jw
 |true=>
 rw[bC]
 refine aI ?_
 refine aq bQ rfl ?_
 refine aI ?_
 refine ao aV ?_
 exact cF
set_option maxHeartbeats 1000000 in
theorem L0{p:Pg}{f:Pf}(hf:oH p.sig f)(ih:∀k∈f.kids,AM p k){env:List Tm}(hv:dM p.sig env){e:Tm}(he:cY p.sig env.length e)(r:f.b7=13):
 a7 Tryz.prog 180 [wq p env,e.d,f.d] (wV (bp p f env e)):=by
 have ht:bp p f env e=(lV p [12] f env e&&((cO 16 (bK f.kids 0)&&cO 1 (bK f.kids 0))&&(cO 16 (bK f.kids 1)&&cO 1 (bK f.kids 1))&&aZ f.val (gK (aZ (bK f.kids 0) (bK f.kids 1))))):=by
  rw[qQ (by omega),r]
  have:Ao 13 e f.val (bK f.kids 0) (bK f.kids 1)=(e.op==12&&((cO 16 (bK f.kids 0)&&cO 1 (bK f.kids 0))&&(cO 16 (bK f.kids 1)&&cO 1 (bK f.kids 1))&&aZ f.val (gK (aZ (bK f.kids 0) (bK f.kids 1))))):=rfl
  rw[this,lV]
  simp only[List.contains_cons,List.contains_nil,Bool.or_false]
  try rw[Bool.or_assoc]
  ac_rfl
 have hc:=qP hf ih hv he [12] aV aV
 rw[ht]
 refine a7.aA mix Q4 aj ?_
 rw[U0]
 refine aI ?_
 cases h1:lV p [12] f env e with
 |false=>
  rw[h1,s7]at hc
  rw[Bool.false_and,aQ]
  refine br hc rfl ?_
  exact cF
 |true=>
 rw[h1,yE]at hc
 have h2:f.kids.length=2:=by
  exact IV
 obtain⟨x,hx⟩:=aw (l:=f.kids) (k:=0) ad
 obtain⟨y,hy⟩:=aw (l:=f.kids) (k:=1) ad
 have wk:=(hf.ll (List.mem_of_getElem? hx)).val
 have Ge:=(hf.ll (List.mem_of_getElem? hy)).val
 rw[bY hx,bY hy]at hc
 rw[bY hx,bY hy,Bool.true_and]
 refine bf hc ?_
 refine aI ?_
 have hg:∀z:Tm,Pn p.sig z->(Eo z==2)=(cO 16 z&&cO 1 z):=fun z hz=>by
  rw[Bool.eq_iff_iff,Bool.and_eq_true,beq_iff_eq];exact(Ep z hz).2.2
 have Mn:=hg _ wk.1.2
 have IG:=hg _ Ge.1.2
 refine aq (vB _ wk.1.1 wk.1.2) rfl ?_
 cases g1:(cO 16 x.val&&cO 1 x.val)with
 |false=>
  rw[g1]at Mn
  rw[Bool.false_and,Bool.false_and,aQ]
  refine dz Mn ?_
  refine aJ aU aD ?_
  refine aI ?_
  refine aT ⟨aV, ?_⟩
  exact jw
 |true=>
 rw[g1]at Mn
 rw[Bool.true_and]
 refine dz Mn ?_
 refine aq (vB _ Ge.1.1 Ge.1.2) rfl ?_
 cases g2:(cO 16 y.val&&cO 1 y.val)with
 |false=>
  rw[g2]at IG
  rw[Bool.false_and,aQ]
  refine dz IG ?_
  refine aJ aU aD ?_
  refine aI ?_
  refine aT ⟨aV, ?_⟩
  exact jw
 |true=>
 rw[g2]at IG
 rw[Bool.true_and]
 refine dz IG ?_
 refine aq (cP _ wk.1.1 _ Ge.1.1) rfl ?_
 refine aI ?_
 refine bB (kF _) ?_
 refine aI ?_
 refine aq (cP _ hf.val.1.1 _ (je _)) rfl ?_
 cases g3:aZ f.val (gK (aZ x.val y.val))with
 |false=>
  rw[aQ]
  refine aI ?_
  refine aJ aU aD ?_
  refine aI ?_
  refine aT ⟨aV, ?_⟩
  exact jw
 |true=>
 rw[bC]
 refine aI ?_
 refine aq bQ rfl ?_
 refine aI ?_
 refine ao aV ?_
 exact cF
set_option maxHeartbeats 1000000 in
theorem OS{p:Pg}{f:Pf}(hf:oH p.sig f)(ih:∀k∈f.kids,AM p k){env:List Tm}(hv:dM p.sig env){e:Tm}(he:cY p.sig env.length e)(r:f.b7=14):
 a7 Tryz.prog 181 [wq p env,e.d,f.d] (wV (bp p f env e)):=by
 have ht:bp p f env e=(lV p [13,14,15] f env e&&((bK f.kids 0).op==2&&(bK f.kids 1).op==2&&aZ f.val (wT e.op (bK f.kids 0).n (bK f.kids 1).n))):=by
  rw[qQ (by omega),r]
  have:Ao 14 e f.val (bK f.kids 0) (bK f.kids 1)=((e.op==13||e.op==14||e.op==15)&&((bK f.kids 0).op==2&&(bK f.kids 1).op==2&&aZ f.val (wT e.op (bK f.kids 0).n (bK f.kids 1).n))):=rfl
  rw[this,lV]
  simp only[List.contains_cons,List.contains_nil,Bool.or_false]
  try rw[Bool.or_assoc]
  ac_rfl
 have hc:=qP hf ih hv he [13,14,15] aV aV
 rw[ht]
 refine a7.aA mix Q5 aj ?_
 rw[U1]
 refine aI ?_
 cases h1:lV p [13,14,15] f env e with
 |false=>
  rw[h1,s7]at hc
  rw[Bool.false_and,aQ]
  refine br hc rfl ?_
  exact cF
 |true=>
 rw[h1,yE]at hc
 have h2:f.kids.length=2:=by
  exact IV
 obtain⟨x,hx⟩:=aw (l:=f.kids) (k:=0) ad
 obtain⟨y,hy⟩:=aw (l:=f.kids) (k:=1) ad
 have wk:=(hf.ll (List.mem_of_getElem? hx)).val
 have Ge:=(hf.ll (List.mem_of_getElem? hy)).val
 rw[bY hx,bY hy]at hc
 rw[bY hx,bY hy,Bool.true_and]
 refine bf hc ?_
 refine aI ?_
 have fl:e.op=13\/e.op=14\/e.op=15:=by
  unfold lV at h1
  simp only[Bool.and_eq_true,List.contains_cons,List.contains_nil,Bool.or_eq_true,beq_iff_eq]at h1
  rcases h1.1 with h|h|h|h
  ·exact .inl h
  ·exact .inr (.inl h)
  ·exact .inr (.inr h)
  ·cases h
 by_cases g1:x.val.op=2
 rotate_left
 ·have IF:(x.val.op==2)=false:=by simpa using g1
  rw[IF,Bool.false_and,Bool.false_and,aQ]
  refine dz IF ?_
  refine br aU rfl ?_
  exact cF
 have IF:(x.val.op==2)=true:=by simpa using g1
 rw[IF,Bool.true_and]
 by_cases g2:y.val.op=2
 rotate_left
 ·have DE:(y.val.op==2)=false:=by simpa using g2
  rw[DE,Bool.false_and,aQ]
  refine uc IF DE ?_
  refine br aU rfl ?_
  exact cF
 have DE:(y.val.op==2)=true:=by simpa using g2
 rw[DE,Bool.true_and]
 obtain⟨x0,x1⟩:=LS wk.1.2 g1
 obtain⟨y0,y1⟩:=LS Ge.1.2 g2
 refine uc IF DE ?_
 refine ah bQ rfl ?_
 refine aI ?_
 have hq:=cP _ hf.val.1.1 _ (Ie e.op x.val.n y.val.n)
 rcases fl with h3|h3|h3
 ·have h15:(e.op==15)=false:=by rw[h3];rfl
  have h14:(e.op==14)=false:=by rw[h3];rfl
  rw[EJ,if_neg (by omega),if_neg (by omega)]at hq
  refine uc h14 h15 ?_
  refine ah hq rfl ?_
  cases g3:aZ f.val (wT e.op x.val.n y.val.n)with
  |false=>
   rw[aQ]
   refine aI ?_
   refine br aU rfl ?_
   exact cF
  |true=>
   rw[bC]
   refine aI ?_
   refine ah bQ rfl ?_
   exact cF
 ·have h15:(e.op==15)=false:=by rw[h3];rfl
  have h14:(e.op==14)=true:=by rw[h3];rfl
  rw[EJ,if_neg (by omega),if_pos h3]at hq
  refine uc h14 h15 ?_
  refine ah hq rfl ?_
  cases g3:aZ f.val (wT e.op x.val.n y.val.n)with
  |false=>
   rw[aQ]
   refine aI ?_
   refine br aU rfl ?_
   exact cF
  |true=>
   rw[bC]
   refine aI ?_
   refine ah bQ rfl ?_
   exact cF
 ·have h15:(e.op==15)=true:=by rw[h3];rfl
  rw[EJ,if_pos h3]at hq
  refine dz h15 ?_
  refine bB (kF _) ?_
  refine aI ?_
  refine aq hq rfl ?_
  cases g3:aZ f.val (wT e.op x.val.n y.val.n)with
  |false=>
   rw[aQ]
   refine aI ?_
   refine aJ aU aD ?_
   refine aI ?_
   refine aT ⟨aV, ?_⟩
   exact jw
  |true=>
   rw[bC]
   refine aI ?_
   refine aq bQ rfl ?_
   refine aI ?_
   refine ao aV ?_
   exact cF
theorem Wo{p:Pg}{l:List Pf}{i:Nat}{x:Pf}(h:l[i]? =some x):pA (l.map (bp p)) i=bp p x:=by unfold pA;rw[List.getElem?_map,h];rfl
theorem OT(p:Pg)(l:List Pf)(env es:List Tm):nK (l.map (bp p)) env es=(l.length==es.length&&(l.zip es).all fun x=>bp p x.1 env x.2):=by
 unfold nK
 rw[List.length_map,List.zip_map_left,List.all_map]
 rfl
theorem OU{α β:Type}{l:List α}{m:List β}{k:Nat}{x:α}{y:β}(hx:l[k]? =some x)(hy:m[k]? =some y):(l.zip m)[k]? =some (x,y):=by rw[List.getElem?_zip_eq_some];exact⟨hx,hy⟩
theorem wb:∀ {l:List kn} {b B:List (List UInt8)},cl l b=some B->∀x∈l,0<=x.args/\x.args<=4
 |[],_,_,_=>aj
 |y::l,b,B,h=>by
  simp only[cl]at h
  split at h
  ·cases h
  ·split at h
   ·cases h
   ·rename_i h2
    intro x hx
    rcases List.mem_cons.1 hx with e|e
    ·subst e
     simp[cZ]at h2
     exact⟨h2.2.1,h2.2.2⟩
    ·exact wb h x e
theorem C2{s:aX}(h:iV s=true):∀x∈s.bU,0<=x.args/\x.args<=4:=by
 unfold iV at h
 split at h
 ·cases h
 ·split at h
  ·split at h
   ·cases h
   ·split at h
    ·cases h
    ·rename_i l _
     cases h2:cl s.bU l with
     |none=>rw[h2]at h;cases h
     |some B=>exact wb h2
  ·cases h
theorem kE.sg {p:Pg}(h:kE p):iV p.sig=true:=by
 have:=h.is;simp only[dY,Bool.and_eq_true]at this;exact this.1.1
theorem OV{s:aX}{g:Tm}(h:Pn s g)(h5:g.op=5):0<=g.n/\∃x,s.bU[g.n.toNat]? =some x/\(g.kids.length:Int)<x.args:=by
 have:=(vx.1 h).1
 simp[ml,h5]at this
 obtain⟨h1,h2⟩:=this
 obtain⟨h0,x,hx⟩:=gy h1
 rw[iH hx]at h2
 exact⟨h0,x,hx,h2⟩
theorem L1{s:aX}{f:Int}{x:kn}(h0:0<=f)(hx:s.bU[f.toNat]? =some x)(a0:0<=x.args)(a4:x.args<=4){n:Nat}(hn:(n:Int)=x.args):cY s n (qI s f):=by
 have e:qI s f= .mk 4 f (mD x.args.toNat):=by unfold qI;rw[iH hx];rfl
 have hl:f.toNat<s.bU.length:=(List.getElem?_eq_some_iff.1 hx).1
 have hm:∀k∈mD x.args.toNat,∃i:Nat,(i:Int)<x.args/\k= .mk 1 (i:Int) []:=fun k hk=>by
  obtain⟨i,hi,rfl⟩:=List.mem_map.1 hk
  have:=List.mem_range.1 hi
  exact⟨i,ad,rfl⟩
 rw[e]
 refine⟨?_, ?_,fun v hv=> ?_⟩
 ·rw[Tm.aP]
  refine⟨by simp[Tm.kids,mD];omega,fun k hk=> ?_⟩
  obtain⟨i,_,rfl⟩:=hm k hk
  simp[Tm.fits,Tm.ko]
 ·rw[dC,Bool.and_eq_true,List.all_eq_true]
  refine⟨?_,fun k hk=> ?_⟩
  ·have e1:(mD x.args.toNat).length=x.args.toNat:=by simp[mD]
   simp[bw,Tm.op,Tm.kids,Tm.n,cZ,e1,iH hx,show f<=(s.bU.length:Int) - 1 by omega,h0,Int.toNat_of_nonneg a0]
  ·obtain⟨i,hi,rfl⟩:=hm k hk
   rw[dC]
   simp[bw,Tm.op,Tm.kids,Tm.n,cZ,show(i:Int)<=19 by omega]
 ·rw[gH,if_neg (by simp[Tm.op])]at hv
  have key:∀ (l:List Tm) (j:Nat),(∀k∈l,∃i:Nat,(i:Int)<x.args/\k= .mk 1 (i:Int) [])->gZ v 4 f l j=true->0<=v/\v<x.args:=by
   intro l
   induction l with
   |nil=>intro j _ h;simp[gZ]at h
   |cons k l ih=>
    intro j hk h
    simp only[gZ,Bool.or_eq_true,Bool.and_eq_true]at h
    rcases h with⟨h,_⟩|h
    ·obtain⟨i,hi,rfl⟩:=hk k aj
     have h:(i:Int)=v:=by simpa[gH,Tm.n,Tm.op]using h
     omega
    ·exact ih _ (fun y hy=>hk y AU) h
  have:=key _ _ hm hv
  omega
theorem L2{s:aX}{t:Tm}(h:ez s t=true):∀x∈iF t,bw s x=true:=by
 have key:∀t:Tm,ez s t=true->∀x∈iF t,bw s x=true:=by
  refine Tm.cC fun t ih h x hx=> ?_
  rw[dC,Bool.and_eq_true,List.all_eq_true]at h
  rw[nG]at hx
  rcases List.mem_cons.1 hx with e|e
  ·rw[e];exact h.1
  ·obtain⟨k,hk,hx⟩:=List.mem_flatMap.1 e
   exact ih k hk (h.2 k hk) x hx
 exact key t h
theorem si.fill {s:aX}{r:Rl}(h:si s r){q:Tm}(hq:q∈r.bg){n:Nat}(hn:(n:Int)=r.vars):vX n q:=by
 obtain⟨h1,_,_,h4⟩:=h.bg q hq
 intro x hx ho
 have a:=L2 (jd h1) x hx
 simp[bw,ho,cZ]at a
 have b:=(py r.vars q).1 h4 x hx (.inl ho)
 omega
def Gf(ks:List Pf)(ps b:List Tm)(m:Nat):Bool:=aZ (.mk 0 0 ((ks.take m).map Pf.val)) (.mk 0 0 (ps.map (gW b)))
theorem L3(ks:List Pf)(ps b:List Tm)(m:Nat)(hk:m<=ks.length)(hp:ps.length=m):Gf ks ps b m=((ks.take m).zip ps).all fun x=>aZ x.1.val (gW b x.2):=by
 subst hp
 unfold Gf
 rw[Bool.eq_iff_iff,iZ,List.all_eq_true]
 have e:(Tm.mk 0 0 ((ks.take ps.length).map Pf.val)= .mk 0 0 (ps.map (gW b)))↔(ks.take ps.length).map Pf.val=ps.map (gW b):=⟨fun h=>by injection h,fun h=>by rw[h]⟩
 rw[e]
 have key:∀ (a:List Pf) (c:List Tm),a.length=c.length->(a.map Pf.val=c.map (gW b)↔∀x∈a.zip c,aZ x.1.val (gW b x.2)=true):=by
  intro a
  induction a with
  |nil=>intro c h;have:c=[]:=List.length_eq_zero_iff.1 h.symm;subst this;simp
  |cons x a ih=>
   intro c h
   cases c with
   |nil=>simp at h
   |cons y c=>
    simp only[List.map_cons,List.cons.injEq,List.zip_cons_cons,List.mem_cons,forall_eq_or_imp,iZ]
    rw[ih c (by simpa using h)]
    simp only[iZ]
 exact key _ _ (by rw[List.length_take];omega)
theorem Ik{l:List Tm}(hl:∀t∈l,t.fits):∀t:Tm,t.fits->(gW l t).fits:=by
 refine Tm.cC fun t ih hf=> ?_
 have gX:=(Tm.aP _).1 hf
 rw[vO]
 split
 ·cases h:l[t.n.toNat]? with
  |none=>exact(Ap ⟨[],[]⟩).1
  |some x=>exact hl x (List.mem_of_getElem? h)
 ·rw[Tm.aP]
  refine⟨by simp only[Tm.kids,List.length_map];exact gX.1,fun k hk=> ?_⟩
  simp only[Tm.kids]at hk
  obtain⟨y,hy,rfl⟩:=List.mem_map.1 hk
  exact ih y hy (gX.2 y hy)
def oI(p:Pg)(f:Pf)(env:List Tm)(e:Tm):Bool:=decide (0<=f.num)&&match p.rules[f.num.toNat]? with
    |none=>false
    |some ru=>(ru.fn==e.n&&(f.binds.length:Int)==ru.vars&&f.kids.length==e.kids.length+1&&f.val.op !=16&&aZ (bK f.kids e.kids.length) f.val)&&
     (Gf f.kids ru.bg f.binds e.kids.length&&nK ((f.kids.map (bp p)).take e.kids.length) env e.kids&&pA (f.kids.map (bp p)) e.kids.length (se ru f.binds) ru.rhs)
theorem prvB_6(p:Pg)(f:Pf)(env:List Tm)(e:Tm)(h:f.b7=6):bp p f env e=(e.op==4&&oI p f env e):=by
 rw[fD,nL,if_neg (by omega),if_neg (by omega),if_neg (by omega),if_neg (by omega),if_neg (by omega),if_pos h,Bool.and_assoc]
 rfl
set_option maxHeartbeats 1000000 in
theorem OW{p:Pg}(hp:kE p)(hw:p.Fw){f:Pf}(hf:oH p.sig f)(ih:∀k∈f.kids,AM p k){env:List Tm}(hv:dM p.sig env){e:Tm}(he:cY p.sig env.length e)(r6:f.b7=6):
 a7 Tryz.prog 173 [wq p env,e.d,f.d] (wV (bp p f env e)):=by
 have R6:=hf.len
 have Dl:=hw.len
 have fP:=((Tm.aP e).1 he.fits).1
 have yW:=hf.env.len
 rw[prvB_6 p f env e r6]
 refine a7.aA mix QX aj ?_
 rw[US]
 by_cases fl:e.op=4
 rotate_left
 ·have cm:(e.op==4)=false:=by simpa using fl
  rw[cm,Bool.false_and,aQ]
  refine eR cm ?_
  refine br aU rfl ?_
  exact cF
 have cm:(e.op==4)=true:=by simpa using fl
 rw[cm,Bool.true_and]
 refine eR cm ?_
 refine ah (ja _ _ _) rfl ?_
 cases f1:cZ f.num 0 ((p.rules.length:Int) - 1)with
 |false=>
  have hc:oI p f env e=false:=by
   simp only[cZ,Bool.and_eq_false_iff,decide_eq_false_iff_not]at f1
   unfold oI
   by_cases h:0<=f.num
   ·rw[List.getElem?_eq_none (by omega:p.rules.length<=f.num.toNat)];simp
   ·rw[decide_eq_false h];rfl
  rw[hc,aQ]
  refine iG ?_
  refine br aU rfl ?_
  exact cF
 |true=>
 have Ot:0<=f.num/\f.num<=(p.rules.length:Int) - 1:=by simpa[cZ]using f1
 obtain⟨n0,n1⟩:=Ot
 obtain⟨ru,hru⟩:=aw (l:=p.rules) (k:=f.num.toNat) ad
 have hrm:=List.mem_of_getElem? hru
 have ho:=hp.rl hrm
 obtain⟨hfw,hrf,hrz⟩:=hw.all ru hrm
 have hcb:oI p f env e=((ru.fn==e.n&&(f.binds.length:Int)==ru.vars&&f.kids.length==e.kids.length+1&&f.val.op !=16&&aZ (bK f.kids e.kids.length) f.val)&&
  (Gf f.kids ru.bg f.binds e.kids.length&&nK ((f.kids.map (bp p)).take e.kids.length) env e.kids&&pA (f.kids.map (bp p)) e.kids.length (se ru f.binds) ru.rhs)):=by
  unfold oI;rw[hru,decide_eq_true n0];rfl
 refine iG ?_
 refine ah bQ rfl ?_
 refine mF hru n0 ?_
 refine ao aV ?_
 by_cases f2:ru.fn=e.n
 rotate_left
 ·have De:(ru.fn==e.n)=false:=by simpa using f2
  have e0:oI p f env e=false:=by rw[hcb];simp[f2]
  rw[e0,aQ]
  refine eR De ?_
  refine aJ aU aD ?_
  refine aI ?_
  refine aT ⟨aV, ?_⟩
  exact jw
 have De:(ru.fn==e.n)=true:=by simpa using f2
 by_cases f3:(f.binds.length:Int)=ru.vars
 rotate_left
 ·have FX:((f.binds.length:Int)==ru.vars)=false:=by simpa using f3
  have e0:oI p f env e=false:=by rw[hcb];simp[f3]
  rw[e0,aQ]
  refine mF De FX ?_
  refine aJ aU aD ?_
  refine aI ?_
  refine aT ⟨aV, ?_⟩
  exact jw
 have FX:((f.binds.length:Int)==ru.vars)=true:=by simpa using f3
 obtain⟨fx,hfx,C9⟩:=ho.fn
 have ada:=C2 hp.sg fx (List.mem_of_getElem? hfx)
 have G3:=he.node1
 have Ix:ru.bg.length=e.kids.length:=by
  simp[bw,fl]at G3
  have h2:=G3.2
  rw[dJ, <- f2,hfx]at h2
  dsimp only at h2
  omega
 by_cases f4:f.kids.length=e.kids.length+1
 rotate_left
 ·have Ou:((f.kids.length:Int)==(e.kids.length:Int)+1)=false:=by rw[beq_eq_false_iff_ne];omega
  have aaR:(f.kids.length==e.kids.length+1)=false:=by simpa using f4
  have e0:oI p f env e=false:=by rw[hcb];simp[f4]
  rw[e0,aQ]
  refine My De FX Ou ?_
  refine aJ aU aD ?_
  refine aI ?_
  refine aT ⟨aV, ?_⟩
  exact jw
 have Ou:((f.kids.length:Int)==(e.kids.length:Int)+1)=true:=by rw[beq_iff_eq];omega
 have aaR:(f.kids.length==e.kids.length+1)=true:=by simpa using f4
 by_cases f5:f.val.op=16
 ·have R1:(f.val.op !=16)=false:=by simpa using f5
  have e0:oI p f env e=false:=by rw[hcb];simp[f5]
  rw[e0,aQ]
  refine Di De FX Ou R1 ?_
  refine aJ aU aD ?_
  refine aI ?_
  refine aT ⟨aV, ?_⟩
  exact jw
 have R1:(f.val.op !=16)=true:=by simpa using f5
 obtain⟨z,hz⟩:=aw (l:=f.kids) (k:=e.kids.length) ad
 have hzm:=List.mem_of_getElem? hz
 have e1:oI p f env e=(aZ z.val f.val&&((((f.kids.take e.kids.length).zip ru.bg).all fun x=>aZ x.1.val (gW f.binds x.2))&&((f.kids.take e.kids.length).length==e.kids.length&&((f.kids.take e.kids.length).zip e.kids).all fun x=>bp p x.1 env x.2)&&bp p z (se ru f.binds) ru.rhs)):=by
  rw[hcb,De,FX,aaR,R1,bY hz,Wo hz,L3 _ _ _ _ (by omega) Ix, <- List.map_take,OT]
  simp only[Bool.true_and]
 rw[e1]
 simp+contextual (disch:=first|omega|simp only[go_sem,false_implies]) only[go_sem,wrap64,if_pos,List.length_map,De,FX,Ou,R1,hz]
 refine aq (cP _ (hf.ll hzm).val.1.1 _ hf.val.1.1) rfl ?_
 cases f6:aZ z.val f.val with
 |false=>
  rw[Bool.false_and,aQ]
  refine aI ?_
  refine aJ aU aD ?_
  refine aI ?_
  refine aT ⟨aV, ?_⟩
  exact jw
 |true=>
 rw[Bool.true_and]
 refine aI ?_
 refine aq bQ rfl ?_
 refine aI ?_
 refine ao aV ?_
 refine iG ?_
 have Gb:(f.kids.take e.kids.length).length=e.kids.length:=by rw[List.length_take];omega
 have iU:∀ {k:Nat} {x:Pf},k<e.kids.length->f.kids[k]? =some x->(f.kids.take e.kids.length)[k]? =some x:=fun h1 h2=>by rw[List.getElem?_take_of_lt h1];exact h2
 refine aK (fun k:Nat=>⟨bA [.aa, .aa, .aa, .ptr 0 0, .ptr 1 0, .ptr 2 0, .ptr 27 0, .d (.i e.kids.length), .aa, .aa, .aa, .aa, .aa, .aa, .aa, .aa, .aa, .aa, .aa, .aa, .aa, .aa, .aa, .aa, .aa, .aa, .aa, .aa, .aa, .aa, .aa, .aa, .aa, .aa, .aa, .aa, .aa, .aa, .aa, .aa, .aa, .aa, .aa, .aa, .aa, .aa, .aa, .aa, .aa, .aa, .aa, .aa, .aa, .aa, .aa, .aa, .aa, .aa, .aa, .aa, .aa, .aa, .aa, .aa, .aa, .aa, .aa, .aa, .aa, .aa, .aa, .aa, .aa, .aa, .d (.sl (ru.bg.map Tm.d)), .d (.i ru.bg.length), .d (.i k)],aL (v8 p env e f) 27 (.row ru.row),73⟩)
  (fun k=>k<=ru.bg.length/\(((f.kids.take e.kids.length).zip ru.bg).take k).all (fun x=>aZ x.1.val (gW f.binds x.2))=true) (fun k=>ru.bg.length - k) 0 ⟨Nat.zero_le _,aj⟩ (bL.bP _ ad ad dg (fun j hj=>sr) ?_) (fun k hk=> ?_)
 ·exact cG
 refine iG ?_
 refine ak (fun h2=> ?_) (fun h2=> ?_)
 ·simp at h2
  obtain⟨x,hx⟩:=aw (l:=f.kids) (k:=k) ad
  obtain⟨q,hq⟩:=aw (l:=ru.bg) (k:=k) ad
  have dc:=List.mem_of_getElem? hx
  have hqm:=List.mem_of_getElem? hq
  have hz1:=OU (iU ad hx) hq
  have hqf:=hfw.all q hqm
  have hff:(gW f.binds q).fits:=Ik (fun t ht=>(hf.env.all t ht).1) q hqf.1
  refine mF hx hq ?_
  refine bB (LL f.binds ad q hqf.1 ad (ho.fill hqm f3)) ?_
  refine mF hx hq ?_
  refine aq (cP _ (hf.ll dc).val.1.1 _ hff) rfl ?_
  cases g1:aZ x.val (gW f.binds q)with
  |false=>
   rw[bZ hz1 g1,Bool.false_and,Bool.false_and,aQ]
   refine aI ?_
   refine aJ aU aD ?_
   refine aI ?_
   refine aT ⟨aV, ?_⟩
   exact jw
  |true=>
   refine aI ?_
   refine aq bQ rfl ?_
   refine aI ?_
   refine ao aV ?_
   refine aI ?_
   refine au (k+1) ⟨h2,cD hz1 hk.2 g1⟩ ad (bL.bP _ ad ad dg (fun j hj=>sr) ?_)
   exact cG
 ·simp at h2
  have aaC:min e.kids.length f.kids.length=e.kids.length:=ad
  have Aa:=qO (f.kids.take e.kids.length) e.kids ad fP hv (fun k hk=>ih k (List.mem_of_mem_take hk)) (fun y hy=>he.ll ad ad hy)
  rw[List.map_take]at Aa
  rw[cE hk.2 (by rw[List.length_zip];omega),Bool.true_and]
  refine iG ?_
  cases g1:((f.kids.take e.kids.length).length==e.kids.length&&((f.kids.take e.kids.length).zip e.kids).all fun x=>bp p x.1 env x.2)with
  |false=>
   rw[g1,aQ]at Aa
   rw[Bool.false_and,aQ]
   refine aJ Aa aD ?_
   refine aI ?_
   refine aT ⟨aV, ?_⟩
   exact jw
  |true=>
  rw[g1,bC]at Aa
  rw[Bool.true_and]
  refine aq Aa rfl ?_
  refine aI ?_
  refine ao aV ?_
  refine iG ?_
  refine bB (Ib ru ho hrf f.binds ad f3) ?_
  refine iG ?_
  refine bB (LM p env (se ru f.binds)) ?_
  refine eR hz ?_
  have hc:=ih z hzm (se ru f.binds) ru.rhs (OD hf.env) (ho.Wb hrf (by rw[CP];exact f3))
  cases g2:bp p z (se ru f.binds) ru.rhs with
  |false=>
   rw[g2,aQ]at hc
   rw[aQ]
   refine aJ hc aD ?_
   refine aI ?_
   refine aT ⟨aV, ?_⟩
   exact jw
  |true=>
  rw[g2,bC]at hc
  rw[bC]
  refine aq hc rfl ?_
  refine aI ?_
  refine ao aV ?_
  exact cF
end Go.Proofs.YtonbelhklnmjnaaGreat
