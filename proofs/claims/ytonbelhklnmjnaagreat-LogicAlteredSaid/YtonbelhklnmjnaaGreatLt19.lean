/-
  A PART OF THE PROOF. Conditions: none.
-/
import Derived.Test.YtonbelhklnmjnaaGreatLt18
set_option linter.unusedSimpArgs false
set_option linter.unusedVariables false
namespace Go.Proofs.YtonbelhklnmjnaaGreat
theorem cS:∀a:Tm,a.fits->∀b:Tm,b.fits->a8 Tryz.prog 218 [a.d,b.d] (.ret [.bool (aX a b)]):=by
 refine Tm.ck fun a ih ha b hb=> ?_
 have OK:=(Tm.aP _).1 ha
 have IX:=(Tm.aP _).1 hb
 refine a8.aB mix RH aj ?_
 rw[VB,nL]
 refine aJ ?_
 refine B9 (ak (fun h1=> ?_) (fun h1=> ?_))
 ·rw[h1]
  refine dD h1 ?_
  refine bd (Lu a.kids b.kids OK.1 IX.1 218 (fun x hx y hy=>ih x hx (OK.2 x hx) y (IX.2 y hy)) _ _ dv _ _ fun o2 n2 m1 m2 m3=> ?_)
  exact yT h1
 ·rw[h1]
  exact yT h1
def nT:D:= .iface 117 (.agg [])
theorem bR:a8 Tryz.prog 128 [.bool true] (.ret []):=by
 refine a8.aB mix KY aj ?_
 rw[Ot]
 exact cI
theorem aV:a8 Tryz.prog 128 [.bool false] (.bU nT):=by
 refine a8.aB mix KY aj ?_
 rw[Ot]
 refine aJ ?_
 rfl
theorem kL(b:Bool):a8 Tryz.prog 227 [.bool b] (.ret [(gU b).d]):=by
 refine a8.aB mix RR aj ?_
 rw[VK,WG]
 cases b<;>simp+contextual (disch:=first|omega|simp only[go_sem,false_implies]) only[go_sem,wrap64,if_pos,and_self]
theorem wa:a8 Tryz.prog 225 [.agg []] (.ret [fK.d]):=by
 refine a8.aB mix RP aj ?_
 rw[VI,WE]
 exact cI
theorem L7(n:Int):a8 Tryz.prog 256 [.i n] (.ret [(Tm.mk 1 n []).d]):=by
 refine a8.aB mix Sa aj ?_
 rw[V2,Tm.lz]
 exact cI
theorem L8(l:List Tm)(hl:l.length<=1000000):∀t:Tm,t.fits->t.sz<=1000000->v7 l.length t->a8 Tryz.prog 220 [t.d, .sl (l.map Tm.d)] (.ret [(il l t).d]):=by
 refine Tm.ck fun t ih hf hz ho=> ?_
 have fm:=(Tm.aP _).1 hf
 have tj:=Tm.jM t
 refine a8.aB mix RJ aj ?_
 rw[VD]
 by_cases h1:t.op=1
 ·have cB:(t.op==1)=true:=by simpa using h1
  obtain⟨n0,n1⟩:=ho t (by rw[nN];simp) h1
  obtain⟨x,hx⟩:=aw (l:=l) (k:=t.n.toNat) ad
  rw[L2 h1 hx]
  simp+contextual (disch:=first|omega|simp only[go_sem,false_implies]) only[go_sem,wrap64,if_pos,cB,hx,n0]
 ·have cB:(t.op==1)=false:=by simpa using h1
  rw[vT,if_neg h1]
  refine dD cB ?_
  have hB:Good (aM (aM (fun _=> .no) 0 (.row t.row)) 1 (.row [.d (.i 0), .d (.i 0), .bO])) 16:=dv
  have Bb:∀j,16<=j->(aM (aM (fun _=>ab.no) 0 (.row t.row)) 1 (.row [.d (.i 0), .d (.i 0), .bO])) j= .no:=fun j hj=>by(repeat(first|rfl|rw[ae]|rw[ah _ _ _ _ (by omega)]))
  refine aL (fun i:Nat=>⟨bB [.aa, .d (.sl (l.map Tm.d)), .ptr 0 0, .aa, .ptr 1 0, .ptr 10 0, .aa, .aa, .aa, .aa, .aa, .aa, .aa, .aa, .aa, .aa, .aa, .aa, .aa, .aa, .aa, .aa, .d (.sl (t.kids.map Tm.d)), .d (.i t.kids.length), .d (.i i)],aM (aM (aM (aM (fun _=> .no) 0 (.row t.row)) 1 (.row [.d (.i 0), .d (.i 0), .bO])) 10 (.row [.d (.i t.op), .d (.i t.n), .osl 16 0])) 16 (.arr 0 31 3 (((t.kids.take i).map (il l)).map Tm.d)),17⟩)
   (fun i=>i<=t.kids.length) (fun i=>t.kids.length - i) 0 (Nat.zero_le _) (yL (r:=10) (ds:=[.i t.op, .i t.n]) _ hB Bb ad (fun j hj iJ=>j6) dC ad ?_) ?_
  ·exact Dw
  rintro k hk
  replace hk:k<=t.kids.length:=hk
  refine jk ?_
  refine ak (fun h2=> ?_) (fun h2=> ?_)
  ·simp at h2
   obtain⟨x,hx⟩:=aw h2
   have de:=List.mem_of_getElem? hx
   have DH:=pH de
   have Gc:t.kids.length<=1000000:=by have:=vU t.kids;omega
   have C2:t.kids.take (k+1)=t.kids.take k++[x]:=by rw[List.take_add_one,hx];rfl
   have e0:(t.kids.take k).length=k:=by rw[List.length_take];omega
   refine oo hx e0 ?_
   refine bw (ih x de (fm.2 x de) ad (ho.lx de)) ?_
   refine oo hx e0 ?_
   refine ao aZ ?_
   refine oo hx e0 ?_
   refine au (k+1) h2 ad (C9 (r:=10) (c:=16) (ep:=1) (ds:=[.i t.op, .i t.n]) _ hB Bb ad (fun j hj iJ=>j6) dC (by(repeat(first|rfl|rw[ae]|rw[ah _ _ _ _ (by omega)]));rw[C2,List.map_append,List.map_append];rfl) ?_)
   exact Dw
  ·simp at h2
   have Gc:k=t.kids.length:=ad
   subst Gc
   rw[List.take_length]
   refine jk ?_
   rw[Tm.lz]
theorem O8(p:Pg)(f:Int)(x:ky)(h0:0<=f)(hx:p.sig.bX[f.toNat]? =some x)(h1:0<=x.args)(h2:x.args<=1000):a8 Tryz.prog 228 [p.d, .i f] (.ret [(oP p.sig f).d]):=by
 have e:(oP p.sig f).d= .agg [.i 4, .i f, .sl ((mJ x.args.toNat).map Tm.d)]:=by
  unfold oP
  rw[Tm.lz,iN hx];rfl
 refine a8.aB mix RS aj ?_
 rw[VL,e]
 refine ud hx h0 ?_
 have hB:Good (aM (aM (fun _=> .no) 0 (.row p.row)) 1 (.row [.d (.i 0), .d (.i 0), .bO])) 14:=dv
 have Bb:∀j,14<=j->(aM (aM (fun _=>ab.no) 0 (.row p.row)) 1 (.row [.d (.i 0), .d (.i 0), .bO])) j= .no:=fun j hj=>by(repeat(first|rfl|rw[ae]|rw[ah _ _ _ _ (by omega)]))
 obtain⟨n,hn⟩:∃n:Nat,x.args=n:=⟨x.args.toNat,ad⟩
 rw[hn]
 have Ho:n<=1000:=ad
 refine aL (fun i:Nat=>⟨bB [.aa, .aa, .ptr 0 0, .aa, .ptr 1 0, .ptr 4 0, .aa, .aa, .aa, .aa, .aa, .aa, .aa, .aa, .aa, .d (.i n), .d (.i i)],aM (aM (aM (aM (fun _=> .no) 0 (.row p.row)) 1 (.row [.d (.i 0), .d (.i 0), .bO])) 4 (.row [.d (.i 4), .d (.i f), .osl 14 0])) 14 (.arr 0 31 3 ((mJ i).map Tm.d)),15⟩)
  (fun i=>i<=n) (fun i=>n - i) 0 (Nat.zero_le _) (yL (r:=4) (ds:=[.i 4, .i f]) _ hB Bb ad (fun j hj iJ=>j6) dC ad ?_) ?_
 ·exact Dw
 rintro k hk
 replace hk:k<=n:=hk
 have e0:(mJ k).length=k:=by simp[mJ]
 refine jk ?_
 refine ak (fun h2=> ?_) (fun h2=> ?_)
 ·simp at h2
  refine eG e0 ?_
  refine bw (L7 k) ?_
  refine eG e0 ?_
  refine ao aZ ?_
  refine eG e0 ?_
  refine au (k+1) h2 ad (C9 (r:=4) (c:=14) (ep:=1) (ds:=[.i 4, .i f]) _ hB Bb ad (fun j hj iJ=>j6) dC (by(repeat(first|rfl|rw[ae]|rw[ah _ _ _ _ (by omega)]));rw[EZ,List.map_append];rfl) ?_)
  exact Dw
 ·simp at h2
  have Gc:k=n:=ad
  subst Gc
  exact SD
@[reducible] def wC (p:Pg) (env:List Tm):D:= .agg [.sl (p.sig.cons.map ky.d), .sl (p.sig.bX.map ky.d), .sl (p.rules.map Rl.d), .sl (env.map Tm.d)]
@[reducible] def Gt (p:Pg) (env:List Tm):List V:=[.d (.sl (p.sig.cons.map ky.d)), .d (.sl (p.sig.bX.map ky.d)), .d (.sl (p.rules.map Rl.d)), .d (.sl (env.map Tm.d))]
theorem L9(p:Pg)(a b:List Tm):a8 Tryz.prog 222 [wC p a, .sl (b.map Tm.d)] (.ret [wC p b]):=by
 refine a8.aB mix RL aj ?_
 rw[VF]
 exact cI
theorem Iv{pr:List (List Nat)}{fp:List (List Nat×List Nat)}(h:((List.range fp.length).all fun j=>(List.range j).all fun i=>((eI pr []).getD j 0).testBit i||((fp.getD i ([],[])).2.isEmpty&&(fp.getD j ([],[])).2.isEmpty))=true):iO pr fp=true:=by
 unfold iO
 rw[List.all_eq_true]at h|-
 intro j hj
 have h:=h j hj
 rw[List.all_eq_true]at h|-
 intro i hi
 have h:=h i hi
 rw[Bool.or_eq_true]at h|-
 refine h.imp id fun h=> ?_
 simp only[Bool.and_eq_true,List.isEmpty_iff]at h
 rw[h.1,h.2]
 rfl
def fN(ls:List Int)(L:List Tm):List Tm:=L.mapIdx fun i x=>if ls.contains (i:Int)=true then fK else x
theorem Ma(r:Rl)(b:List Tm):fN (cL r.rhs) b=qM r b:=rfl
theorem Mb(ls:List Int)(L:List Tm):(fN ls L).length=L.length:=by simp[fN]
theorem Mc(L:List Tm):fN [] L=L:=by
 refine List.ext_getElem (by simp[fN]) fun i h1 h2=> ?_
 simp[fN]
theorem s7(a b:List Int)(L:List Tm):fN (a++b) L=fN b (fN a L):=by
 refine List.ext_getElem (by simp[fN]) fun i h1 h2=> ?_
 simp only[fN,List.getElem_mapIdx,List.contains_eq_mem,List.mem_append]
 by_cases ha:(i:Int)∈a
 ·by_cases hb:(i:Int)∈b<;>simp[ha,hb]
 ·by_cases hb:(i:Int)∈b<;>simp[ha,hb]
theorem Md{n:Int}{L:List Tm}(h0:0<=n)(h1:n<L.length):fN [n] L=L.set n.toNat fK:=by
 refine List.ext_getElem (by simp[fN]) fun i h1 h2=> ?_
 simp only[fN,List.getElem_mapIdx,List.getElem_set,List.contains_eq_mem,List.mem_singleton]
 by_cases h:n.toNat=i
 ·rw[if_pos h,if_pos (by simp;omega)]
 ·rw[if_neg h,if_neg (by simp;omega)]
structure Me (base eb vb:Nat) (ev:V) (H:List Tm->Nat->ab):Prop where
 e1:eb<base
 v1:vb<base
 he:∀L,H L eb= .row [ev]
 hv:∀L,H L vb= .row [.func (.func 254) [] [.ptr eb 0, .ptr vb 0]]
 own:ev= .d (.sl [])\/∃a ep,ev= .osl a ep/\a<base/\(∀L,H L a= .arr ep 31 3 (L.map Tm.d))/\∀L L' j,j≠a->H L j=H L' j
def abd:IC:=KZ.snd.snd.snd.fst.fst
def abe{base eb vb:Nat}{ev:V}{H:List Tm->Nat->ab}(hH:Me base eb vb ev H)(t:Tm):Prop:=t.fits->∀L:List Tm,(∀v∈cL t,0<=v/\v<L.length)->(ev= .d (.sl [])->L=[])->
    fM Tryz.prog 254 [.d t.d, .ptr eb 0, .ptr vb 0] base (H L) (H (fN (cL t) L)) (.cp [])
theorem Da{base eb vb:Nat}{ev:V}{H:List Tm->Nat->ab}(hH:Me base eb vb ev H){t:Tm}(hf:t.fits)(ih:∀k∈t.kids,abe hH k)(L:List Tm)(hr:∀v∈bL t.kids,0<=v/\v<L.length)(hL:ev= .d (.sl [])->L=[])
 {o o1:Nat->ab} {nx n1:Nat} {e:Nat->V} {Q:fS->S->Prop} (hb:base<=nx) (hn:nx<=n1) (hI:cW base (H L) o1 n1) (dc:∀id,base<=id->id<nx->o1 id=o id)
 (he:kx n1 e [.aa, .ptr eb 0, .ptr vb 0, .aa, .aa, .aa, .aa, .aa, .aa, .aa, .aa, .aa, .aa, .aa, .aa, .aa, .d (.sl (t.kids.map Tm.d)), .d (.i t.kids.length), .d (.i 0)] 0)
 (hQ:∀e' o' n',nx<=n'->cW base (H (fN (bL t.kids) L)) o' n'->(∀id,base<=id->id<nx->o' id=o id)->Q (.exit 0) ⟨e',o',n'⟩):
 uV nx (fun Q s=>kX Tryz.prog 26 nx false abd Q s) Q ⟨e,o1,n1⟩:=by
 have fm:=(Tm.aP _).1 hf
 have e1:=hH.e1
 have v1:=hH.v1
 refine aL (fun i:Nat×(Nat->ab)×Nat=>⟨bB [.aa, .ptr eb 0, .ptr vb 0, .aa, .aa, .aa, .aa, .aa, .aa, .aa, .aa, .aa, .aa, .aa, .aa, .aa, .d (.sl (t.kids.map Tm.d)), .d (.i t.kids.length), .d (.i i.1)],i.2.1,i.2.2⟩)
  (fun i=>i.1<=t.kids.length/\cW base (H (fN (bL (t.kids.take i.1)) L)) i.2.1 i.2.2/\nx<=i.2.2/\(∀id,base<=id->id<nx->i.2.1 id=o id)) (fun i=>t.kids.length - i.1) (0,o1,n1)
  ⟨Nat.zero_le _,by simpa[bL,Mc]using hI,hn,dc⟩ ?_ ?_
 ·dsimp only
  exact bM.bT _ hn (Nat.le_refl _) hI.bP (fun _ _=>rfl) he
 rintro⟨k,o',n'⟩ ⟨hk,ow,MJ,WI⟩
 simp only at hk ow MJ WI
 have hg:=ow.bP
 have hle:=ow.le
 have ov:o' vb= .row [.func (.func 254) [] [.ptr eb 0, .ptr vb 0]]:=by rw[ow.eq vb v1,hH.hv]
 have y3:vb≠n':=ad
 have y4:∀k,vb≠n'+k:=fun k=>ad
 simp only[abd,KZ,IC.snd,IC.fst]
 refine jk ?_
 refine ak (fun h2=> ?_) (fun h2=> ?_)
 ·simp at h2
  obtain⟨x,hx⟩:=aw h2
  have de:=List.mem_of_getElem? hx
  have C2:t.kids.take (k+1)=t.kids.take k++[x]:=by rw[List.take_add_one,hx];rfl
  have Yb:∀a b:List Tm,bL (a++b)=bL a++bL b:=fun a b=>by
   induction a with
   |nil=>simp[bL]
   |cons k a ih=>simp[bL,ih]
  have rF:∀v∈cL x,v∈bL t.kids:=fun v hv=>by
   rw[<- List.take_append_drop (k+1) t.kids,Yb,C2,Yb]
   simp[bL,hv]
  have abf:fN (bL (t.kids.take (k+1))) L=fN (cL x) (fN (bL (t.kids.take k)) L):=by
   rw[C2,Yb,s7];simp[bL]
  refine MV hx ov y3 y4 ?_
  refine bd (ih x de (fm.2 x de) (fN (bL (t.kids.take k)) L) (fun v hv=>by rw[Mb];exact hr v (rF v hv)) (fun h=>by rw[hL h];rfl) _ _ ?_ _ _ fun o2 n2 m1 m2 m3=> ?_)
  ·exact⟨dv,ad,fun j hj=>by(repeat(first|rfl|rw[ae]|rw[ah _ _ _ _ (by omega)]));exact ow.eq j hj⟩
  rw[<- abf]at m2
  refine iL ?_
  refine au (k+1,o2,n2+2) ⟨h2,m2.mono (show n2<=n2+2 from ad),(show nx<=n2+2 from ad),fun id i1 i2=> ?_⟩ mL (bM.bT _ (show nx<=n2+2 from ad) (Nat.le_refl _) (m2.mono (show n2<=n2+2 from ad)).bP (fun _ _=>rfl) ?_)
  ·dsimp only
   rw[m3 id i1 (by omega)]
   (repeat(first|rfl|rw[ae]|rw[ah _ _ _ _ (by omega)]))
   exact WI id i1 i2
  ·dsimp only
   exact cM
 ·simp at h2
  refine aJ ?_
  rw[List.take_of_length_le h2]at ow
  exact hQ _ _ _ ad (ow.mono ad) WI
theorem yM{base eb vb:Nat}{ev:V}{H:List Tm->Nat->ab}(hH:Me base eb vb ev H):∀t:Tm,abe hH t:=by
 refine Tm.ck fun t ih hf L hr hL=> ?_
 have fm:=(Tm.aP _).1 hf
 have e1:=hH.e1
 have v1:=hH.v1
 intro o nx hI K X hK
 have hle:=hI.le
 have hg:=hI.bP
 have oe:o eb= .row [ev]:=by rw[hI.eq eb e1,hH.he]
 have ov:o vb= .row [.func (.func 254) [] [.ptr eb 0, .ptr vb 0]]:=by rw[hI.eq vb v1,hH.hv]
 have y1:eb≠nx:=ad
 have y2:∀k,eb≠nx+k:=fun k=>ad
 have y3:vb≠nx:=ad
 have y4:∀k,vb≠nx+k:=fun k=>ad
 refine cO.aB mix R8 aj ?_
 rw[KZ]
 by_cases h8:t.op=8
 ·have Sr:(t.op==8)=true:=by simpa using h8
  obtain⟨n0,n1⟩:=hr t.n (by rw[jg,if_pos h8];simp)
  rcases hH.own with hn|⟨a,ep,ha,a1,hA,hA2⟩
  ·rw[hL hn]at n1;simp at n1;omega
  have oa:o a= .arr ep 31 3 (L.map Tm.d):=by rw[hI.eq a a1,hA]
  rw[ha]at oe
  have y5:a≠nx:=ad
  have y6:∀k,a≠nx+k:=fun k=>ad
  obtain⟨x,hx⟩:=aw (l:=L) (k:=t.n.toNat) ad
  obtain⟨xo,xn,xk⟩:=x
  simp+contextual (disch:=first|omega|simp only[go_sem,false_implies]) only[go_sem,wrap64,if_pos,Sr,oe,ov,oa,y1,y2,y3,y4,y5,y6,Nat.add_assoc,Nat.left_eq_add,Nat.add_eq_left,Nat.add_left_cancel_iff]
  refine bw wa ?_
  simp+contextual (disch:=first|omega|simp only[go_sem,false_implies]) only[go_sem,wrap64,if_pos,Sr,oe,ov,oa,y1,y2,y3,y4,y5,y6,Nat.add_assoc,Nat.left_eq_add,Nat.add_eq_left,Nat.add_left_cancel_iff,n0,hx,Tm.lz,List.length_map]
  refine ao (Iv af) ?_
  refine iL ?_
  rw[jg,if_pos h8,s7,Md n0 n1]at hK
  rw[jg,if_pos h8]at hr
  have JZ:cW base (H (L.set t.n.toNat fK)) (aM (aM o nx (.row t.row)) a (.arr ep 31 3 ((L.map Tm.d).set t.n.toNat fK.d))) (nx+15):=⟨dv,ad,fun id aC=>by
   by_cases e:id=a
   ·subst e;rw[ae,hA,List.map_set]
   ·rw[ah _ _ _ _ e,ah _ _ _ _ (by omega),hI.eq id aC];exact hA2 _ _ id e⟩
  refine Da hH hf ih (L.set t.n.toNat fK) (fun v hv=>by rw[List.length_set];exact hr v (by simp[hv])) (fun h=>by rw[ha]at h;cases h) (o:=o) ad ad JZ (fun id i1 i2=>by(repeat(first|rfl|rw[ae]|rw[ah _ _ _ _ (by omega)]))) ?_ fun e' o' n' k1 k2 k3=> ?_
  ·exact cM
  ·refine aJ ?_
   exact hK _ _ ad k2 k3
 ·have Sr:(t.op==8)=false:=by simpa using h8
  simp+contextual (disch:=first|omega|simp only[go_sem,false_implies]) only[go_sem,wrap64,if_pos,Sr,oe,ov,y1,y2,y3,y4,Nat.add_assoc,Nat.left_eq_add,Nat.add_eq_left,Nat.add_left_cancel_iff]
  rw[jg,if_neg h8,List.nil_append]at hK hr
  have JZ:cW base (H L) (aM o nx (.row t.row)) (nx+8):=hI.aM ad ad ad rfl
  refine Da hH hf ih L hr hL (o:=o) ad ad JZ (fun id i1 i2=>by(repeat(first|rfl|rw[ae]|rw[ah _ _ _ _ (by omega)]))) ?_ fun e' o' n' k1 k2 k3=> ?_
  ·exact cM
  ·refine aJ ?_
   exact hK _ _ ad k2 k3
theorem Iw{s:a7}(r:Rl)(ho:sq s r)(hf:r.rhs.fits)(b:List Tm)(hl:b.length<=1000)(hb:(b.length:Int)=r.vars):a8 Tryz.prog 223 [r.d, .sl (b.map Tm.d)] (.ret [.sl ((qM r b).map Tm.d)]):=by
 have hr:∀v∈cL r.rhs,0<=v/\v<b.length:=fun v hv=>by
  have h1:=(sn r.rhs v).1 hv
  obtain⟨x,hx,h2,h3⟩:=(jS _ _ _).1 h1
  have h4:=(pF r.vars r.rhs).1 ho.small x hx (.inr h2)
  have key:∀t:Tm,eD s t=true->∀x∈iM t,bz s x=true:=by
   refine Tm.ck fun t ih h x hx=> ?_
   rw[dF,Bool.and_eq_true,List.all_eq_true]at h
   rw[nN]at hx
   rcases List.mem_cons.1 hx with e|e
   ·rw[e];exact h.1
   ·obtain⟨k,hk,hx⟩:=List.mem_flatMap.1 e
    exact ih k hk (h.2 k hk) x hx
  have h5:=key _ (ji ho.rhs) x hx
  simp[bz,h2,c6]at h5
  omega
 refine a8.aB mix RM aj ?_
 rw[VG, <- Ma]
 cases iJ:b with
 |nil=>
  refine aJ ?_
  refine bg yK ?_
  refine aJ ?_
  subst iJ
  have hH:Me 12 4 6 (.d (.sl [])) (fun _=>aM (aM (aM (fun _=> .no) 0 (.row r.row)) 4 (.row [.d (.sl [])])) 6 (.row [.func (.func 254) [] [.ptr 4 0, .ptr 6 0]])):=
   ⟨ad,ad,fun _=>by(repeat(first|rfl|rw[ae]|rw[ah _ _ _ _ (by omega)])),fun _=>by(repeat(first|rfl|rw[ae]|rw[ah _ _ _ _ (by omega)])), .inl rfl⟩
  refine bd (yM hH r.rhs hf [] hr (fun _=>rfl) _ _ ⟨dv,Nat.le_refl _,fun id aC=>j6⟩ _ _ fun o2 n2 m1 m2 m3=> ?_)
  have q1:o2 4= .row [.d (.sl [])]:=by rw[m2.eq 4 (by omega)];(repeat(first|rfl|rw[ae]|rw[ah _ _ _ _ (by omega)]))
  refine dD q1 ?_
  rfl
 |cons a l=>
  rw[<- iJ]
  have WH:b≠[]:=by rw[iJ];simp
  refine aJ ?_
  refine da (v8 b WH ad _ _ _ _ ?_)
  refine aJ ?_
  have hH:Me 18 10 12 (.osl 6 1) (fun L=>aM (aM (aM (aM (fun _=> .no) 0 (.row r.row)) 6 (.arr 1 31 3 (L.map Tm.d))) 10 (.row [.osl 6 1])) 12 (.row [.func (.func 254) [] [.ptr 10 0, .ptr 12 0]])):=
   ⟨ad,ad,fun _=>by(repeat(first|rfl|rw[ae]|rw[ah _ _ _ _ (by omega)])),fun _=>by(repeat(first|rfl|rw[ae]|rw[ah _ _ _ _ (by omega)])), .inr ⟨6,1,rfl,ad,fun _=>by(repeat(first|rfl|rw[ae]|rw[ah _ _ _ _ (by omega)])),fun L L' j hj=>j6⟩⟩
  refine bd (yM hH r.rhs hf b hr (fun h=>by cases h) _ _ ⟨dv,Nat.le_refl _,fun id aC=>j6⟩ _ _ fun o2 n2 m1 m2 m3=> ?_)
  have q1:o2 10= .row [.osl 6 1]:=by rw[m2.eq 10 (by omega)];(repeat(first|rfl|rw[ae]|rw[ah _ _ _ _ (by omega)]))
  have q2:o2 6= .arr 1 31 3 ((fN (cL r.rhs) b).map Tm.d):=by rw[m2.eq 6 (by omega)];(repeat(first|rfl|rw[ae]|rw[ah _ _ _ _ (by omega)]))
  exact MZ q1 q2
theorem Ix(env:List Tm)(n:Nat)(v:Tm):jz env (n:Int) v=(env++List.replicate (n+1 - env.length) fK).set n v:=rfl
theorem jj(b:Bool):(gU b).fits:=by simp[gU,Tm.fits,Tm.kz]
theorem Iy(o a b:Int):(wZ o a b).fits:=by unfold wZ;split;exact jj _;simp[Tm.fits,Tm.kz]
theorem b7{l:List Pf}{i:Nat}{k:Pf}(h:l[i]? =some k):bK l i=k.val:=by unfold bK;rw[h];rfl
theorem mA{t:Tm}{i:Nat}{k:Tm}(h:t.kids[i]? =some k):gV t i=k:=by unfold gV;rw[h];rfl
theorem AB{s:a7}{e:Tm}(h:bz s e=true)(h1:6<=e.op)(h2:e.op<=15):e.kids.length=2:=by
 by_cases h8:e.op=8
 ·simp[bz,h8]at h;omega
 ·simp[bz,c6,show ¬e.op=1 by omega,show ¬e.op=2 by omega,show ¬e.op=3 by omega,show ¬e.op=4 by omega,show ¬e.op=5 by omega,h8,h1,h2]at h
  omega
theorem Mf{s:a7}{v:Tm}(h:Pn s v)(h2:v.op=2):bdN v.n:=by
 have:=(rX.1 h).1
 simp[mo,h2,c6]at this
 exact⟨this.1.1,this.1.2⟩
def w9(b:Bool):R:=if b=true then .ret []else .bU nT
theorem bC:w9 true= .ret []:=rfl
theorem aR:w9 false= .bU nT:=rfl
def AS(p:Pg)(f:Pf):Prop:=∀env e,dQ p.sig env->c0 p.sig env.length e->a8 Tryz.prog 93 [wC p env,e.d,f.d] (w9 (bf p f env e))
theorem aE:nT.flat=true:=by rfl
theorem qT{p:Pg}(ks:List Pf)(es:List Tm)(hk:ks.length<=1000000)(he0:es.length<=9223372036854775807){env:List Tm}(hv:dQ p.sig env)(ih:∀k∈ks,AS p k)(he:∀e∈es,c0 p.sig env.length e):
 a8 Tryz.prog 221 [wC p env, .sl (es.map Tm.d), .sl (ks.map Pf.d)] (w9 (ks.length==es.length&&(ks.zip es).all fun x=>bf p x.1 env x.2)):=by
 refine a8.aB mix RK aj ?_
 rw[VE]
 by_cases hl:ks.length=es.length
 rotate_left
 ·have zm:((es.length:Int)==(ks.length:Int))=false:=by rw[beq_eq_false_iff_ne];omega
  have Jm:(ks.length==es.length)=false:=by simpa using hl
  rw[Jm,Bool.false_and,aR]
  refine eG zm ?_
  refine bt aV rfl ?_
  exact cI
 have zm:((es.length:Int)==(ks.length:Int))=true:=by rw[beq_iff_eq];omega
 have Jm:(ks.length==es.length)=true:=by simpa using hl
 rw[Jm,Bool.true_and]
 refine eG zm ?_
 refine ai bR rfl ?_
 refine jk ?_
 refine aL (fun k:Nat=>⟨bB [.aa, .d (.sl (es.map Tm.d)), .aa, .ptr 0 0, .aa, .aa, .aa, .aa, .aa, .aa, .aa, .aa, .aa, .aa, .d (.sl (ks.map Pf.d)), .d (.i ks.length), .d (.i k)],fu (Gt p env),1⟩)
  (fun k=>k<=ks.length/\((ks.zip es).take k).all (fun x=>bf p x.1 env x.2)=true) (fun k=>ks.length - k) 0 ⟨Nat.zero_le _,aj⟩ (bM.d1 _ (aW rfl) ad rfl ?_) (fun k hk=> ?_)
 ·exact cM
 refine jk ?_
 refine ak (fun h2=> ?_) (fun h2=> ?_)
 ·simp at h2
  obtain⟨x,hx⟩:=aw h2
  obtain⟨y,hy⟩:=aw (l:=es) (k:=k) ad
  have de:=List.mem_of_getElem? hx
  have hz:(ks.zip es)[k]? =some (x,y):=by rw[List.getElem?_zip_eq_some];exact⟨hx,hy⟩
  have hc:=ih x de env y hv (he y (List.mem_of_getElem? hy))
  refine oo hx hy ?_
  cases g:bf p x env y with
  |false=>
   rw[g,aR]at hc
   refine aK hc aE ?_
   refine aJ ?_
   refine aU ⟨aZ, ?_⟩
   simp only[pO,uf,oS,re,rh,ri,List.contains_nil,Bool.false_eq_true,if_false,eg,rj]
   rw[cc hz g];rfl
  |true=>
   rw[g,bC]at hc
   refine aq hc rfl ?_
   refine oo hx hy ?_
   refine ao aZ ?_
   refine aJ ?_
   refine au (k+1) ⟨h2,cG hz hk.2 g⟩ ad (bM.d1 _ (aW rfl) ad rfl ?_)
   exact cM
 ·simp at h2
  rw[cH hk.2 (by rw[List.length_zip];omega),bC]
  exact cI
theorem wb:∀ (ks:List Pf) (l:List Tm),ks.length=l.length->gP l (ks.map Pf.val)=(ks.zip l).all fun x=>aX x.1.val x.2
 |[],[],_=>rfl
 |k::ks,x::l,h=>by
  have ih:=wb ks l GV
  simp only[List.map_cons,gP,List.zip_cons_cons,List.all_cons,ih]
  congr 1
  rw[Bool.eq_iff_iff,bY,bY];exact eq_comm
 |[],_::_,h=>by simp at h
 |_::_,[],h=>by simp at h
theorem Iz(v:Tm)(op n:Int)(ks:List Pf):aX v (.mk op n (ks.map Pf.val))=((v.op==op&&(v.n==n&&v.kids.length==ks.length))&&(ks.zip v.kids).all fun x=>aX x.1.val x.2):=by
 obtain⟨vo,vn,vk⟩:=v
 rw[nL]
 simp only[Tm.op,Tm.n,Tm.kids,List.length_map]
 by_cases h:vk.length=ks.length
 ·rw[wb ks _ h.symm]
  simp[Bool.and_assoc]
 ·have:(vk.length==ks.length)=false:=by simpa using h
  rw[this];simp
theorem IA(p:Pg)(l:List Pf)(env es:List Tm):oA (l.map (bf p)) env es=(l.length==es.length&&(l.zip es).all fun x=>bf p x.1 env x.2):=by
 unfold oA
 rw[List.length_map,List.zip_map_left,List.all_map]
 rfl
@[reducible] def wc (p:Pg) (env:List Tm) (e:Tm) (f:Pf):Nat->ab:=aM (aM (aM (fun _=> .no) 0 (.row (Gt p env))) 1 (.row e.row)) 2 (.row f.row)
theorem yN{p:Pg}{f:Pf}(hf:oQ p.sig f)(ih:∀k∈f.kids,AS p k){env:List Tm}(hv:dQ p.sig env){e:Tm}(he:c0 p.sig env.length e)(fA:e.op=3\/e.op=5):
 a8 Tryz.prog 219 [wC p env,e.d,f.d] (w9 (aX f.val (.mk e.op e.n (f.kids.map Pf.val))&&oA (f.kids.map (bf p)) env e.kids)):=by
 have Ss:=hf.len
 have fU:=((Tm.aP e).1 he.fits).1
 have hvk:=((Tm.aP f.val).1 hf.val.1.1).1
 refine a8.aB mix RI aj ?_
 rw[VC,IA,Iz]
 by_cases h1:f.val.op=e.op/\f.val.n=e.n/\f.val.kids.length=f.kids.length
 rotate_left
 ·have cB:(f.val.op==e.op&&f.val.n==e.n&&(f.val.kids.length:Int)==(f.kids.length:Int))=false:=by
   rw[Bool.eq_false_iff];intro h
   simp only[Bool.and_eq_true,beq_iff_eq]at h
   exact h1 ⟨h.1.1,h.1.2,ad⟩
  have h2:(f.val.op==e.op&&(f.val.n==e.n&&f.val.kids.length==f.kids.length))=false:=by
   rw[Bool.eq_false_iff];intro h
   simp only[Bool.and_eq_true,beq_iff_eq]at h
   exact h1 h
  rw[h2,Bool.false_and,Bool.false_and,aR]
  refine eG cB ?_
  refine bt aV rfl ?_
  exact cI
 obtain⟨a1,a2,a3⟩:=h1
 have cB:(f.val.op==e.op&&f.val.n==e.n&&(f.val.kids.length:Int)==(f.kids.length:Int))=true:=by simp[a1,a2,a3]
 have h2:(f.val.op==e.op&&(f.val.n==e.n&&f.val.kids.length==f.kids.length))=true:=by simp[a1,a2,a3]
 rw[h2,Bool.true_and]
 refine eG cB ?_
 refine ai bR rfl ?_
 refine jk ?_
 refine aL (fun k:Nat=>⟨bB [.aa, .aa, .aa, .ptr 0 0, .ptr 1 0, .ptr 2 0, .aa, .aa, .aa, .aa, .aa, .aa, .aa, .aa, .aa, .aa, .aa, .aa, .aa, .aa, .aa, .aa, .aa, .aa, .aa, .aa, .aa, .aa, .aa, .aa, .aa, .aa, .aa, .aa, .d (.sl (f.kids.map Pf.d)), .d (.i f.kids.length), .d (.i k)],wc p env e f,3⟩)
  (fun k=>k<=f.kids.length/\((f.kids.zip f.val.kids).take k).all (fun x=>aX x.1.val x.2)=true) (fun k=>f.kids.length - k) 0 ⟨Nat.zero_le _,aj⟩ (bM.bT _ ad ad dv (fun j hj=>rfl) ?_) (fun k hk=> ?_)
 ·exact cM
 refine jk ?_
 refine ak (fun h2=> ?_) (fun h2=> ?_)
 ·simp at h2
  obtain⟨x,hx⟩:=aw h2
  obtain⟨y,hy⟩:=aw (l:=f.val.kids) (k:=k) ad
  have de:=List.mem_of_getElem? hx
  have hz:(f.kids.zip f.val.kids)[k]? =some (x,y):=by rw[List.getElem?_zip_eq_some];exact⟨hx,hy⟩
  refine oo hx hy ?_
  refine aq (cS _ (hf.lx de).val.1.1 _ (hf.val.1.lx (List.mem_of_getElem? hy)).1) rfl ?_
  cases g:aX x.val y with
  |false=>
   refine oo hx hy ?_
   refine aK aV aE ?_
   refine aJ ?_
   refine aU ⟨aZ, ?_⟩
   simp only[pO,uf,oS,re,rh,ri,List.contains_nil,Bool.false_eq_true,if_false,eg,rj]
   rw[cc hz g];rfl
  |true=>
   refine oo hx hy ?_
   refine aq bR rfl ?_
   refine oo hx hy ?_
   refine ao aZ ?_
   refine aJ ?_
   refine au (k+1) ⟨h2,cG hz hk.2 g⟩ ad (bM.bT _ ad ad dv (fun j hj=>j6) ?_)
   exact cM
 ·simp at h2
  have hc:=qT f.kids e.kids ad fU hv ih (fun y hy=>he.lx ad ad hy)
  rw[cH hk.2 (by rw[List.length_zip];omega),Bool.true_and]
  refine jk ?_
  cases g:(f.kids.length==e.kids.length&&(f.kids.zip e.kids).all fun x=>bf p x.1 env x.2)with
  |false=>
   rw[g,aR]at hc
   refine bt hc rfl ?_
   refine aJ ?_
   rfl
  |true=>
   rw[g,bC]at hc
   refine ai hc rfl ?_
   refine aJ ?_
   rfl
theorem O9{p:Pg}{f:Pf}(hf:oQ p.sig f)(ih:∀k∈f.kids,AS p k){env:List Tm}(hv:dQ p.sig env){e:Tm}(he:c0 p.sig env.length e)(r4:f.bG=4):
 a8 Tryz.prog 171 [wC p env,e.d,f.d] (w9 (bf p f env e)):=by
 have ht:bf p f env e=(e.op==3&&(aX f.val (.mk e.op e.n (f.kids.map Pf.val))&&oA (f.kids.map (bf p)) env e.kids)):=by rw[e7,mR,if_neg (by omega),if_neg (by omega),if_neg (by omega),if_pos r4]
 rw[ht]
 refine a8.aB mix Rh aj ?_
 rw[Vc]
 by_cases h1:e.op=3
 rotate_left
 ·have cB:(e.op==3)=false:=by simpa using h1
  rw[cB,Bool.false_and,aR]
  refine dD cB ?_
  refine bt aV rfl ?_
  exact cI
 have cB:(e.op==3)=true:=by simpa using h1
 rw[cB,Bool.true_and]
 refine dD cB ?_
 refine ai bR rfl ?_
 refine aJ ?_
 have hc:=yN hf ih hv he (.inl h1)
 cases g:(aX f.val (.mk e.op e.n (f.kids.map Pf.val))&&oA (f.kids.map (bf p)) env e.kids)with
 |false=>
  rw[g,aR]at hc
  refine bt hc rfl ?_
  refine aJ ?_
  rfl
 |true=>
  rw[g,bC]at hc
  refine ai hc rfl ?_
  refine aJ ?_
  rfl
theorem Mg{p:Pg}{f:Pf}(hf:oQ p.sig f)(ih:∀k∈f.kids,AS p k){env:List Tm}(hv:dQ p.sig env){e:Tm}(he:c0 p.sig env.length e)(r5:f.bG=5):
 a8 Tryz.prog 172 [wC p env,e.d,f.d] (w9 (bf p f env e)):=by
 have ht:bf p f env e=(e.op==5&&(aX f.val (.mk e.op e.n (f.kids.map Pf.val))&&oA (f.kids.map (bf p)) env e.kids)):=by rw[e7,mR,if_neg (by omega),if_neg (by omega),if_neg (by omega),if_neg (by omega),if_pos r5]
 rw[ht]
 refine a8.aB mix Ri aj ?_
 rw[Vd]
 by_cases h1:e.op=5
 rotate_left
 ·have cB:(e.op==5)=false:=by simpa using h1
  rw[cB,Bool.false_and,aR]
  refine dD cB ?_
  refine bt aV rfl ?_
  exact cI
 have cB:(e.op==5)=true:=by simpa using h1
 rw[cB,Bool.true_and]
 refine dD cB ?_
 refine ai bR rfl ?_
 refine aJ ?_
 have hc:=yN hf ih hv he (.inr h1)
 cases g:(aX f.val (.mk e.op e.n (f.kids.map Pf.val))&&oA (f.kids.map (bf p)) env e.kids)with
 |false=>
  rw[g,aR]at hc
  refine bt hc rfl ?_
  refine aJ ?_
  rfl
 |true=>
  rw[g,bC]at hc
  refine ai hc rfl ?_
  refine aJ ?_
  rfl
theorem Pa{p:Pg}{f:Pf}(hf:oQ p.sig f){env:List Tm}{e:Tm}(r1:f.bG=1):
 a8 Tryz.prog 168 [wC p env,e.d,f.d] (w9 (bf p f env e)):=by
 have Ss:=hf.len
 have ht:bf p f env e=(f.kids.length==0&&f.val.op==16):=by rw[e7,mR,if_pos r1]
 rw[ht]
 refine a8.aB mix Re aj ?_
 rw[U9]
 by_cases h1:f.val.op=16
 rotate_left
 ·have cB:(f.val.op==16)=false:=by simpa using h1
  rw[cB,Bool.and_false,aR]
  refine dD cB ?_
  refine bt aV rfl ?_
  exact cI
 have cB:(f.val.op==16)=true:=by simpa using h1
 rw[cB,Bool.and_true]
 by_cases h2:f.kids.length=0
 rotate_left
 ·have kn:((f.kids.length:Int)==0)=false:=by rw[beq_eq_false_iff_ne];omega
  have mB:(f.kids.length==0)=false:=by simpa using h2
  rw[mB,aR]
  refine oo cB kn ?_
  refine bt aV rfl ?_
  exact cI
 have kn:((f.kids.length:Int)==0)=true:=by rw[beq_iff_eq];omega
 have mB:(f.kids.length==0)=true:=by simpa using h2
 rw[mB,bC]
 refine oo cB kn ?_
 refine ai bR rfl ?_
 exact cI
theorem Pb{p:Pg}{f:Pf}(hf:oQ p.sig f){env:List Tm}(hv:dQ p.sig env){e:Tm}(he:c0 p.sig env.length e)(r2:f.bG=2):
 a8 Tryz.prog 169 [wC p env,e.d,f.d] (w9 (bf p f env e)):=by
 have Ss:=hf.len
 have ht:bf p f env e=(e.op==1&&(f.kids.length==0&&I7 f.val ((env[e.n.toNat]?).getD fK))):=by rw[e7,mR,if_neg (by omega),if_pos r2]
 rw[ht]
 refine a8.aB mix Rf aj ?_
 rw[Va]
 by_cases h1:e.op=1
 rotate_left
 ·have cB:(e.op==1)=false:=by simpa using h1
  rw[cB,Bool.false_and,aR]
  refine eG cB ?_
  refine aK aV aE ?_
  refine aJ ?_
  refine aU ⟨aZ, ?_⟩
  exact jD
 have cB:(e.op==1)=true:=by simpa using h1
 rw[cB,Bool.true_and]
 by_cases h2:f.kids.length=0
 rotate_left
 ·have kn:((f.kids.length:Int)==0)=false:=by rw[beq_eq_false_iff_ne];omega
  have mB:(f.kids.length==0)=false:=by simpa using h2
  rw[mB,Bool.false_and,aR]
  refine oo cB kn ?_
  refine aK aV aE ?_
  refine aJ ?_
  refine aU ⟨aZ, ?_⟩
  exact jD
 have kn:((f.kids.length:Int)==0)=true:=by rw[beq_iff_eq];omega
 have mB:(f.kids.length==0)=true:=by simpa using h2
 obtain⟨v0,v1⟩:=he.var h1
 obtain⟨x,hx⟩:=aw (l:=env) (k:=e.n.toNat) ad
 have Qf:=hv.all x (List.mem_of_getElem? hx)
 rw[hx,Option.getD_some,mB,Bool.true_and]
 refine Dv cB kn hx v0 ?_
 refine aq (Lq f.val hf.val.1.1 hf.val.1.2 x Qf.1 Qf.2) rfl ?_
 cases g:I7 f.val x with
 |false=>
  rw[aR]
  refine dD cB ?_
  refine aK aV aE ?_
  refine aJ ?_
  refine aU ⟨aZ, ?_⟩
  exact jD
 |true=>
  rw[bC]
  refine dD cB ?_
  refine aq bR rfl ?_
  refine aJ ?_
  refine ao aZ ?_
  exact cI
theorem Pc{p:Pg}{f:Pf}(hf:oQ p.sig f){env:List Tm}{e:Tm}(he:e.fits)(r3:f.bG=3):
 a8 Tryz.prog 170 [wC p env,e.d,f.d] (w9 (bf p f env e)):=by
 have Ss:=hf.len
 have hsy:aX f.val e=aX e f.val:=by rw[Bool.eq_iff_iff,bY,bY];exact eq_comm
 have ht:bf p f env e=(e.op==2&&(f.kids.length==0&&aX e f.val)):=by rw[e7,mR,if_neg (by omega),if_neg (by omega),if_pos r3,hsy]
 rw[ht]
 refine a8.aB mix Rg aj ?_
 rw[Vb]
 by_cases h1:e.op=2
 rotate_left
 ·have cB:(e.op==2)=false:=by simpa using h1
  rw[cB,Bool.false_and,aR]
  refine eG cB ?_
  refine bt aV rfl ?_
  exact cI
 have cB:(e.op==2)=true:=by simpa using h1
 rw[cB,Bool.true_and]
 by_cases h2:f.kids.length=0
 rotate_left
 ·have kn:((f.kids.length:Int)==0)=false:=by rw[beq_eq_false_iff_ne];omega
  have mB:(f.kids.length==0)=false:=by simpa using h2
  rw[mB,Bool.false_and,aR]
  refine oo cB kn ?_
  refine bt aV rfl ?_
  exact cI
 have kn:((f.kids.length:Int)==0)=true:=by rw[beq_iff_eq];omega
 have mB:(f.kids.length==0)=true:=by simpa using h2
 rw[mB,Bool.true_and]
 refine oo cB kn ?_
 refine ai (cS e he f.val hf.val.1.1) rfl ?_
 cases g:aX e f.val with
 |false=>
  rw[aR]
  refine dD cB ?_
  refine bt aV rfl ?_
  exact cI
 |true=>
  rw[bC]
  refine dD cB ?_
  refine ai bR rfl ?_
  exact cI
theorem kZ{p:Pg}{l:List Pf}{i:Nat}{x:Pf}(h:l[i]? =some x):qY (l.map (bf p)) i=bf p x:=SU
theorem we{p:Pg}{f:Pf}(hf:oQ p.sig f)(ih:∀k∈f.kids,AS p k){env:List Tm}(hv:dQ p.sig env){e:Tm}(he:c0 p.sig env.length e)(i:Nat)(hi:i<2):
 a8 Tryz.prog 224 [wC p env,e.d,f.d, .i i] (w9 (e.op==7&&(f.kids.length==1&&aX (bK f.kids 0) f.val&&qY (f.kids.map (bf p)) 0 env (gV e i)))):=by
 have Ss:=hf.len
 refine a8.aB mix RN aj ?_
 rw[VH]
 by_cases h1:e.op=7
 rotate_left
 ·have cB:(e.op==7)=false:=by simpa using h1
  rw[cB,Bool.false_and,aR]
  refine eG cB ?_
  refine aK aV aE ?_
  refine aJ ?_
  refine aU ⟨aZ, ?_⟩
  exact jD
 have cB:(e.op==7)=true:=by simpa using h1
 rw[cB,Bool.true_and]
 by_cases h2:f.kids.length=1
 rotate_left
 ·have kn:((f.kids.length:Int)==1)=false:=by rw[beq_eq_false_iff_ne];omega
  have mB:(f.kids.length==1)=false:=by simpa using h2
  rw[mB,Bool.false_and,Bool.false_and,aR]
  refine oo cB kn ?_
  refine aK aV aE ?_
  refine aJ ?_
  refine aU ⟨aZ, ?_⟩
  exact jD
 have kn:((f.kids.length:Int)==1)=true:=by rw[beq_iff_eq];omega
 have mB:(f.kids.length==1)=true:=by simpa using h2
 have h3:=AB he.node1 ad ad
 obtain⟨x,hx⟩:=aw (l:=f.kids) (k:=0) ad
 obtain⟨a,ha⟩:=aw (l:=e.kids) (k:=i) ad
 have de:=List.mem_of_getElem? hx
 rw[b7 hx,kZ hx,mA ha,mB,Bool.true_and]
 refine MW cB kn hx ?_
 refine aq (cS _ (hf.lx de).val.1.1 f.val hf.val.1.1) rfl ?_
 cases g:aX x.val f.val with
 |false=>
  rw[Bool.false_and,aR]
  refine MW cB kn hx ?_
  refine aK aV aE ?_
  refine aJ ?_
  refine aU ⟨aZ, ?_⟩
  exact jD
 |true=>
  rw[Bool.true_and]
  refine MW cB kn hx ?_
  refine aq bR rfl ?_
  refine aJ ?_
  refine ao aZ ?_
  refine oo hx ha ?_
  have hc:=ih x de env a hv (he.lx ad ad (List.mem_of_getElem? ha))
  cases g2:bf p x env a with
  |false=>
   rw[g2,aR]at hc
   rw[aR]
   refine aK hc aE ?_
   refine aJ ?_
   refine aU ⟨aZ, ?_⟩
   exact jD
  |true=>
   rw[g2,bC]at hc
   rw[bC]
   refine aq hc rfl ?_
   refine aJ ?_
   refine ao aZ ?_
   exact cI
theorem Mh{p:Pg}{f:Pf}(hf:oQ p.sig f)(ih:∀k∈f.kids,AS p k){env:List Tm}(hv:dQ p.sig env){e:Tm}(he:c0 p.sig env.length e)(r7:f.bG=7):
 a8 Tryz.prog 174 [wC p env,e.d,f.d] (w9 (bf p f env e)):=by
 have ht:bf p f env e=(e.op==7&&(f.kids.length==1&&aX (bK f.kids 0) f.val&&qY (f.kids.map (bf p)) 0 env (gV e 0))):=by rw[e7,mR,if_neg (by omega),if_neg (by omega),if_neg (by omega),if_neg (by omega),if_neg (by omega),if_neg (by omega),if_pos r7]
 have hc:=we hf ih hv he 0 ad
 rw[<- ht]at hc
 refine a8.aB mix Rk aj ?_
 rw[Vf]
 refine aJ ?_
 cases g:bf p f env e with
 |false=>
  rw[g,aR]at hc
  rw[aR]
  refine bt hc rfl ?_
  exact cI
 |true=>
  rw[g,bC]at hc
  rw[bC]
  refine ai hc rfl ?_
  exact cI
theorem IB{p:Pg}{f:Pf}(hf:oQ p.sig f)(ih:∀k∈f.kids,AS p k){env:List Tm}(hv:dQ p.sig env){e:Tm}(he:c0 p.sig env.length e)(r8:f.bG=8):
 a8 Tryz.prog 175 [wC p env,e.d,f.d] (w9 (bf p f env e)):=by
 have ht:bf p f env e=(e.op==7&&(f.kids.length==1&&aX (bK f.kids 0) f.val&&qY (f.kids.map (bf p)) 0 env (gV e 1))):=by rw[e7,mR,if_neg (by omega),if_neg (by omega),if_neg (by omega),if_neg (by omega),if_neg (by omega),if_neg (by omega),if_neg (by omega),if_pos r8]
 have hc:=we hf ih hv he 1 ad
 rw[<- ht]at hc
 refine a8.aB mix Rm aj ?_
 rw[Vg]
 refine aJ ?_
 cases g:bf p f env e with
 |false=>
  rw[g,aR]at hc
  rw[aR]
  refine bt hc rfl ?_
  exact cI
 |true=>
  rw[g,bC]at hc
  rw[bC]
  refine ai hc rfl ?_
  exact cI
theorem E0(l:List Tm)(hl:l.length<=1000000)(o:Nat->ab)(nx:Nat)(hg:Good o nx)(K X:V->(Nat->ab)->Nat->Prop)
 (hK:∀v o' nx' id,(v= .bO/\l=[])\/(v= .osl id 1/\o' id= .arr 1 31 3 (l.map Tm.d))->nx<=id->id<nx'->nx<=nx'->Good o' nx'->(∀j,j<nx->o' j=o j)->K v o' nx'):
 cO Tryz.prog 94 [.d (.sl (l.map Tm.d))] o nx K X:=by
 cases iJ:l with
 |nil=>
  subst iJ
  refine cO.aB mix KU aj ?_
  rw[XK]
  have hu:Tryz.prog.underlying 28=some (.slice 31):=af
  have heq:∀O,pU Tryz.prog O 28 true (.d (.sl [])) .bO=some .fh:=by
   intro O
   unfold pU
   rw[hu]
   rfl
  simp only[List.map_nil]
  refine AU heq ?_
  simp only[List.isEmpty_nil,if_true]
  refine AU heq ?_
  exact⟨hK _ _ _ nx (.inl ⟨rfl,rfl⟩) ad ad ad dv fun _ _=>rfl,hK _ _ _ (nx+3) (.inr ⟨rfl,ae _ _ _⟩) ad ad ad dv fun j hj=>by(repeat(first|rfl|rw[ae]|rw[ah _ _ _ _ (by omega)]))⟩
 |cons a r=>
  rw[<- iJ]
  refine v8 l (by rw[iJ];simp) hl o nx K X (hK _ _ _ (nx+3) (.inr ⟨rfl,ae _ _ _⟩) ad ad ad dv fun j hj=>ah _ _ _ _ ad)
set_option maxHeartbeats 1000000 in
theorem Ph{p:Pg}{f:Pf}(hf:oQ p.sig f)(ih:∀k∈f.kids,AS p k){env:List Tm}(hv:dQ p.sig env){e:Tm}(he:c0 p.sig env.length e)(r9:f.bG=9):
 a8 Tryz.prog 176 [wC p env,e.d,f.d] (w9 (bf p f env e)):=by
 have Ss:=hf.len
 have PI:=hv.len
 have ht:bf p f env e=(e.op==8&&(f.kids.length==2&&aX (bK f.kids 1) f.val&&qY (f.kids.map (bf p)) 0 env (gV e 0)&&qY (f.kids.map (bf p)) 1 (jz env e.n (bK f.kids 0)) (gV e 1))):=by
  rw[e7,mR,if_neg (by omega),if_neg (by omega),if_neg (by omega),if_neg (by omega),if_neg (by omega),if_neg (by omega),if_neg (by omega),if_neg (by omega),if_pos r9]
 rw[ht]
 refine a8.aB mix Rn aj ?_
 rw[Vh]
 by_cases h1:e.op=8
 rotate_left
 ·have cB:(e.op==8)=false:=by simpa using h1
  rw[cB,Bool.false_and,aR]
  refine eG cB ?_
  refine aK aV aE ?_
  refine aJ ?_
  refine aU ⟨aZ, ?_⟩
  exact jD
 have cB:(e.op==8)=true:=by simpa using h1
 rw[cB,Bool.true_and]
 by_cases h2:f.kids.length=2
 rotate_left
 ·have kn:((f.kids.length:Int)==2)=false:=by rw[beq_eq_false_iff_ne];omega
  have mB:(f.kids.length==2)=false:=by simpa using h2
  rw[mB,Bool.false_and,Bool.false_and,Bool.false_and,aR]
  refine oo cB kn ?_
  refine aK aV aE ?_
  refine aJ ?_
  refine aU ⟨aZ, ?_⟩
  exact jD
 have kn:((f.kids.length:Int)==2)=true:=by rw[beq_iff_eq];omega
 have mB:(f.kids.length==2)=true:=by simpa using h2
 have hn:=he.node1
 simp[bz,h1,c6]at hn
 obtain⟨x,hx⟩:=aw (l:=f.kids) (k:=0) ad
 obtain⟨y,hy⟩:=aw (l:=f.kids) (k:=1) ad
 obtain⟨a,ha⟩:=aw (l:=e.kids) (k:=0) ad
 obtain⟨b,hb⟩:=aw (l:=e.kids) (k:=1) ad
 have de:=List.mem_of_getElem? hx
 have Ex:=List.mem_of_getElem? hy
 rw[b7 hx,b7 hy,kZ hx,kZ hy,mA ha,mA hb,mB,Bool.true_and]
 refine Dv cB kn hx hy ?_
 refine aq (cS _ (hf.lx Ex).val.1.1 f.val hf.val.1.1) rfl ?_
 cases g:aX y.val f.val with
 |false=>
  rw[Bool.false_and,Bool.false_and,aR]
  refine Dv cB kn hx hy ?_
  refine aK aV aE ?_
  refine aJ ?_
  refine aU ⟨aZ, ?_⟩
  exact jD
 |true=>
 rw[Bool.true_and]
 refine Dv cB kn hx hy ?_
 refine aq bR rfl ?_
 refine aJ ?_
 refine ao aZ ?_
 refine oo hx ha ?_
 have hc:=ih x de env a hv (he.adi h1 ha)
 cases g2:bf p x env a with
 |false=>
  rw[g2,aR]at hc
  rw[Bool.false_and,aR]
  refine aK hc aE ?_
  refine aJ ?_
  refine aU ⟨aZ, ?_⟩
  exact jD
 |true=>
 rw[g2,bC]at hc
 rw[Bool.true_and]
 refine aq hc rfl ?_
 refine aJ ?_
 refine ao aZ ?_
 refine aJ ?_
 refine da (E0 env ad _ _ dv _ _ fun v o1 n1 id q1 q2 q3 q4 q5 q6=> ?_)
 refine aJ ?_
 obtain⟨n,hn0⟩:∃n:Nat,e.n=n:=⟨e.n.toNat,ad⟩
 have Ho:n<=19:=ad
 have hgw:Eu o1 (fun j=>j=id) 31 3 (env.map Tm.d) v:=by
  rcases q1 with⟨a1,a2⟩|⟨a1,a2⟩
  ·exact .inl ⟨a1,by rw[a2];rfl,aZ⟩
  ·exact .inr ⟨id,1,rfl,a1,a2⟩
 let m:=n+1 - env.length
 have hm:m=n+1 - env.length:=rfl
 refine aL (fun i:Nat=>⟨bB [.aa, .aa, .aa, .ptr 0 0, .ptr 1 0, .ptr 2 0, .osl 3 0],aM (wc p env e f) 3 (.arr 0 31 3 ((env++List.replicate i fK).map Tm.d)),4⟩)
  (fun i=>i<=m) (fun i=>m - i) 0 (Nat.zero_le _) ?_ ?_
 ·refine bM.vi (fun j=>j=id) v 3 _ ad (lt3 (dL (y:= .row (Gt p env)) SI dC (b8 rfl lA)) (dL (y:= .row e.row) SI dC (b8 rfl lA)) (dL (y:= .row f.row) SI dC (b8 rfl lA))) (ae _ _ _) (by simpa using hgw) (fun j hj=>by unfold wc;(repeat(first|rfl|rw[ae]|rw[ah _ _ _ _ (by omega)]))) (fun j h h2=>ad) ?_
  exact Dw
 rintro k hk
 replace hk:k<=m:=hk
 have e0:(env++List.replicate k fK).length=env.length+k:=aj
 refine oo e0 hn0 ?_
 refine ak (fun h2=> ?_) (fun h2=> ?_)
 ·simp at h2
  refine eG e0 ?_
  refine bg wa ?_
  refine eG e0 ?_
  refine au (k+1) ad ad (bM.vi (fun j=>j=3) (.osl 3 1) 3 _ ad (lt3 (dL (y:= .row (Gt p env)) dC dC (b8 rfl lA)) (dL (y:= .row e.row) dC dC (b8 rfl lA)) (dL (y:= .row f.row) dC dC (b8 rfl lA))) (ae _ _ _) (.inr ⟨3,1,rfl,rfl,by(repeat(first|rfl|rw[ae]|rw[ah _ _ _ _ (by omega)]));rw[List.replicate_succ', <- List.append_assoc,List.map_append (l₂:=[fK])];rfl⟩) (fun j hj=>by unfold wc;(repeat(first|rfl|rw[ae]|rw[ah _ _ _ _ (by omega)]))) (fun j h h2=>ad) ?_)
  exact Dw
 ·simp at h2
  have Wv:k=m:=ad
  obtain⟨z,hz⟩:=aw (l:=env++List.replicate k fK) (k:=n) ad
  obtain⟨zo,zn,zk⟩:=z
  simp+contextual (disch:=first|omega|simp only[go_sem,false_implies]) only[go_sem,wrap64,if_pos,List.length_map,e0,hn0,hx,hz,Tm.lz]
  have zW:(List.map Tm.d (env++List.replicate k fK)).set n x.val.d=(jz env e.n x.val).map Tm.d:=by
   rw[hn0,Ix,List.map_set,Wv]
  rw[zW]
  refine ao aZ ?_
  have hwo:dQ p.sig (jz env e.n x.val):=LK hv ad (hf.lx de).val.1
  have hwl:(jz env e.n x.val).length=max env.length (e.n.toNat+1):=yE _ _ _
  refine oo hy hb ?_
  refine bw (L9 p env (jz env e.n x.val)) ?_
  refine oo hy hb ?_
  have hc:=ih y Ex (jz env e.n x.val) b hwo (he.adj h1 hb ad ad)
  cases g3:bf p y (jz env e.n x.val) b with
  |false=>
   rw[g3,aR]at hc
   rw[aR]
   refine aK hc aE ?_
   refine aJ ?_
   refine aU ⟨aZ, ?_⟩
   exact jD
  |true=>
   rw[g3,bC]at hc
   rw[bC]
   refine aq hc rfl ?_
   refine aJ ?_
   refine ao aZ ?_
   exact cI
theorem Mi(l:List Int)(x:Int)(hl:l.length<=1000):a8 Tryz.prog 261 [.sl (l.map .i), .i x] (.ret [.i (match l.findIdx? (· ==x)with|some i=>(i:Int)|none=> -1)]):=by
 refine a8.aB mix Se aj ?_
 rw[V6]
 refine jk ?_
 refine aL (fun k:Nat=>⟨bB [.d (.sl (l.map .i)), .d (.i x), .aa, .aa, .aa, .aa, .d (.sl (l.map .i)), .d (.i l.length), .d (.i k)],fun _=> .no,0⟩)
  (fun k=>k<=l.length/\∀j y,j<k->l[j]? =some y->(y==x)=false) (fun k=>l.length - k) 0 ⟨Nat.zero_le _,fun _ _ h=>absurd h ad⟩ (bM.d0 _ ?_) (fun k hk=> ?_)
 ·exact cM
 refine jk ?_
 refine ak (fun h2=> ?_) (fun h2=> ?_)
 ·simp at h2
  obtain⟨y,hy⟩:=aw h2
  refine eG hy ?_
  refine ak (fun h3=> ?_) (fun h3=> ?_)
  ·have rG:x=y:=by simpa using h3
   have:l.findIdx? (· ==x)=some k:=by
    rw[List.findIdx?_eq_some_iff_getElem]
    obtain⟨Gc,e⟩:=List.getElem?_eq_some_iff.1 hy
    refine⟨Gc,by rw[e];simp[rG],fun j hj=> ?_⟩
    have:=hk.2 j _ hj (List.getElem?_eq_getElem ad)
    simpa using this
   rw[this]
   exact cI
  ·refine aJ ?_
   refine au (k+1) ⟨h2,fun j z hj hz=> ?_⟩ ad (bM.d0 _ ?_)
   ·by_cases e:j=k
    ·subst e;rw[hy]at hz;injection hz with hz;subst hz
     rw[beq_eq_false_iff_ne];intro e;subst e;simp at h3
    ·exact hk.2 j z ad hz
   ·exact cM
 ·simp at h2
  have:l.findIdx? (· ==x)=none:=by
   rw[List.findIdx?_eq_none_iff]
   intro y hy
   obtain⟨j,hj,e⟩:=List.getElem_of_mem hy
   exact hk.2 j y ad (by rw[List.getElem?_eq_getElem hj,e])
  rw[this]
  exact cI
theorem Mj(l:List Int)(x:Int)(hl:l.length<=1000):a8 Tryz.prog 255 [.sl (l.map .i), .i x] (.ret [.bool (l.contains x)]):=by
 refine a8.aB mix R9 aj ?_
 rw[V1]
 refine aJ ?_
 refine ai (Mi l x hl) rfl ?_
 refine aJ ?_
 cases h:l.findIdx? (· ==x)with
 |some i=>
  have:l.contains x=true:=by
   rw[List.findIdx?_eq_some_iff_getElem]at h
   obtain⟨h1,h2,_⟩:=h
   have h2:l[i]=x:=by simpa using h2
   rw[List.contains_iff_mem, <- h2];exact List.getElem_mem h1
  rw[this]
  simp
 |none=>
  have:l.contains x=false:=by
   rw[List.findIdx?_eq_none_iff]at h
   rw[Bool.eq_false_iff];intro hc
   have:=h x (List.contains_iff_mem.1 hc)
   simp at this
  rw[this]
  simp
theorem AD{α:Type}{l:List α}(h:l.length=2):∃a b,l=[a,b]:=by
 match l,h with
 |[a,b],_=>exact⟨a,b,rfl⟩
def twR(b:Bool)(x y:Tm):R:=if b=true then .ret [x.d,y.d]else .bU nT
theorem yO(x y:Tm):twR true x y= .ret [x.d,y.d]:=rfl
theorem s8(x y:Tm):twR false x y= .bU nT:=rfl
def lX(p:Pg)(ops:List Int)(f:Pf)(env:List Tm)(e:Tm):Bool:=ops.contains e.op&&(f.kids.length==2&&(qY (f.kids.map (bf p)) 0 env (gV e 0)&&qY (f.kids.map (bf p)) 1 env (gV e 1)))
theorem qU{p:Pg}{f:Pf}(hf:oQ p.sig f)(ih:∀k∈f.kids,AS p k){env:List Tm}(hv:dQ p.sig env){e:Tm}(he:c0 p.sig env.length e)(ops:List Int)(ho:ops.length<=1000)(ho2:∀o∈ops,9<=o/\o<=15):
 a8 Tryz.prog 226 [wC p env,e.d,f.d, .sl (ops.map .i)] (twR (lX p ops f env e) (bK f.kids 0) (bK f.kids 1)):=by
 have Ss:=hf.len
 have fU:=((Tm.aP e).1 he.fits).1
 refine a8.aB mix RQ aj ?_
 rw[VJ]
 refine aJ ?_
 refine ai (Mj ops e.op ho) rfl ?_
 unfold lX
 cases h1:ops.contains e.op with
 |false=>
  rw[Bool.false_and,s8]
  refine aJ ?_
  refine bt aV rfl ?_
  exact cI
 |true=>
 have fA:=ho2 e.op (List.contains_iff_mem.1 h1)
 have he2:=AB he.node1 ad ad
 rw[Bool.true_and]
 refine aJ ?_
 refine ai bR rfl ?_
 refine aJ ?_
 have hc:=qT f.kids e.kids ad fU hv ih (fun y hy=>he.lx ad ad hy)
 rw[he2]at hc
 by_cases h2:f.kids.length=2
 rotate_left
 ·have kn:(f.kids.length==2)=false:=by simpa using h2
  rw[kn,Bool.false_and,aR]at hc
  rw[kn,Bool.false_and,s8]
  refine bt hc rfl ?_
  exact cI
 have kn:(f.kids.length==2)=true:=by simpa using h2
 obtain⟨a,b,WJ⟩:=AD he2
 obtain⟨x,y,hxy⟩:=AD h2
 have hx:f.kids[0]? =some x:=by rw[hxy];rfl
 have hy:f.kids[1]? =some y:=by rw[hxy];rfl
 have ha:e.kids[0]? =some a:=by rw[WJ];rfl
 have hb:e.kids[1]? =some b:=by rw[WJ];rfl
 have hz:((f.kids.zip e.kids).all fun x=>bf p x.1 env x.2)=(bf p x env a&&bf p y env b):=by rw[hxy,WJ];simp
 rw[kn,Bool.true_and,hz]at hc
 rw[kn,Bool.true_and,kZ hx,kZ hy,mA ha,mA hb,b7 hx,b7 hy]
 cases g:(bf p x env a&&bf p y env b)with
 |false=>
  rw[g,aR]at hc
  rw[s8]
  refine bt hc rfl ?_
  exact cI
 |true=>
  rw[g,bC]at hc
  rw[yO]
  refine ai hc rfl ?_
  refine oo hx hy ?_
  refine ao aZ ?_
  exact cI
theorem qV{p:Pg}{f:Pf}{env:List Tm}{e:Tm}(h:10<=f.bG/\f.bG<=14):bf p f env e=(f.kids.length==2&&w7 f.bG e f.val (bK f.kids 0) (bK f.kids 1)&&(qY (f.kids.map (bf p)) 0 env (gV e 0)&&qY (f.kids.map (bf p)) 1 env (gV e 1))):=by
 rw[e7,mR,if_neg (by omega),if_neg (by omega),if_neg (by omega),if_neg (by omega),if_neg (by omega),if_neg (by omega),if_neg (by omega),if_neg (by omega),if_neg (by omega),if_neg (by omega)]
theorem Mk{p:Pg}{f:Pf}(hf:oQ p.sig f)(ih:∀k∈f.kids,AS p k){env:List Tm}(hv:dQ p.sig env){e:Tm}(he:c0 p.sig env.length e)(r:f.bG=10):
 a8 Tryz.prog 177 [wC p env,e.d,f.d] (w9 (bf p f env e)):=by
 have ht:bf p f env e=(lX p [9] f env e&&(aX (bK f.kids 0) (gU true)&&aX (bK f.kids 1) f.val)):=by
  rw[qV (by omega),r]
  have:w7 10 e f.val (bK f.kids 0) (bK f.kids 1)=(e.op==9&&(aX (bK f.kids 0) (gU true)&&aX (bK f.kids 1) f.val)):=rfl
  rw[this,lX,List.contains_cons,List.contains_nil,Bool.or_false]
  ac_rfl
 have hc:=qU hf ih hv he [9] aZ aZ
 rw[ht]
 refine a8.aB mix Ro aj ?_
 rw[Vi]
 refine aJ ?_
 cases h1:lX p [9] f env e with
 |false=>
  rw[h1,s8]at hc
  rw[Bool.false_and,aR]
  refine bt hc rfl ?_
  exact cI
 |true=>
 rw[h1,yO]at hc
 have h2:f.kids.length=2:=by
  exact Jj
 obtain⟨x,hx⟩:=aw (l:=f.kids) (k:=0) ad
 obtain⟨y,hy⟩:=aw (l:=f.kids) (k:=1) ad
 have wz:=(hf.lx (List.mem_of_getElem? hx)).val
 have Gu:=(hf.lx (List.mem_of_getElem? hy)).val
 rw[b7 hx,b7 hy]at hc
 rw[b7 hx,b7 hy,Bool.true_and]
 refine bg hc ?_
 refine aJ ?_
 refine bw (kL true) ?_
 refine aJ ?_
 refine aq (cS _ wz.1.1 _ (jj true)) rfl ?_
 cases g1:aX x.val (gU true)with
 |false=>
  rw[Bool.false_and,aR]
  refine aJ ?_
  refine aK aV aE ?_
  refine aJ ?_
  refine aU ⟨aZ, ?_⟩
  exact jD
 |true=>
 rw[Bool.true_and]
 refine aJ ?_
 refine aq (cS _ Gu.1.1 _ hf.val.1.1) rfl ?_
 cases g2:aX y.val f.val with
 |false=>
  rw[aR]
  refine aJ ?_
  refine aK aV aE ?_
  refine aJ ?_
  refine aU ⟨aZ, ?_⟩
  exact jD
 |true=>
 rw[bC]
 refine aJ ?_
 refine aq bR rfl ?_
 refine aJ ?_
 refine ao aZ ?_
 exact cI
set_option maxHeartbeats 1000000 in
theorem Ml{p:Pg}{f:Pf}(hf:oQ p.sig f)(ih:∀k∈f.kids,AS p k){env:List Tm}(hv:dQ p.sig env){e:Tm}(he:c0 p.sig env.length e)(r:f.bG=11):
 a8 Tryz.prog 178 [wC p env,e.d,f.d] (w9 (bf p f env e)):=by
 have ht:bf p f env e=(lX p [10] f env e&&(aX (bK f.kids 0) (gU true)&&aX (bK f.kids 1) (gU true)&&aX f.val (gU true))):=by
  rw[qV (by omega),r]
  have:w7 11 e f.val (bK f.kids 0) (bK f.kids 1)=(e.op==10&&(aX (bK f.kids 0) (gU true)&&aX (bK f.kids 1) (gU true)&&aX f.val (gU true))):=rfl
  rw[this,lX]
  simp only[List.contains_cons,List.contains_nil,Bool.or_false]
  try rw[Bool.or_assoc]
  ac_rfl
 have hc:=qU hf ih hv he [10] aZ aZ
 rw[ht]
 refine a8.aB mix Rp aj ?_
 rw[Vj]
 refine aJ ?_
 cases h1:lX p [10] f env e with
 |false=>
  rw[h1,s8]at hc
  rw[Bool.false_and,aR]
  refine bt hc rfl ?_
  exact cI
 |true=>
 rw[h1,yO]at hc
 have h2:f.kids.length=2:=by
  exact Jj
 obtain⟨x,hx⟩:=aw (l:=f.kids) (k:=0) ad
 obtain⟨y,hy⟩:=aw (l:=f.kids) (k:=1) ad
 have wz:=(hf.lx (List.mem_of_getElem? hx)).val
 have Gu:=(hf.lx (List.mem_of_getElem? hy)).val
 rw[b7 hx,b7 hy]at hc
 rw[b7 hx,b7 hy,Bool.true_and]
 refine bg hc ?_
 refine aJ ?_
 refine bw (kL true) ?_
 refine aJ ?_
 refine aq (cS _ wz.1.1 _ (jj true)) rfl ?_
 cases g1:aX x.val (gU true)with
 |false=>
  rw[Bool.false_and,Bool.false_and,aR]
  refine aJ ?_
  refine aK aV aE ?_
  refine aJ ?_
  refine aU ⟨aZ, ?_⟩
  exact jD
 |true=>
 rw[Bool.true_and]
 refine aJ ?_
 refine bw (kL true) ?_
 refine aJ ?_
 refine aq (cS _ Gu.1.1 _ (jj true)) rfl ?_
 cases g2:aX y.val (gU true)with
 |false=>
  rw[Bool.false_and,aR]
  refine aJ ?_
  refine aK aV aE ?_
  refine aJ ?_
  refine aU ⟨aZ, ?_⟩
  exact jD
 |true=>
 rw[Bool.true_and]
 refine aJ ?_
 refine bw (kL true) ?_
 refine aJ ?_
 refine aq (cS _ hf.val.1.1 _ (jj true)) rfl ?_
 cases g3:aX f.val (gU true)with
 |false=>
  rw[aR]
  refine aJ ?_
  refine aK aV aE ?_
  refine aJ ?_
  refine aU ⟨aZ, ?_⟩
  exact jD
 |true=>
 rw[bC]
 refine aJ ?_
 refine aq bR rfl ?_
 refine aJ ?_
 refine ao aZ ?_
 exact cI
set_option maxHeartbeats 1000000 in
theorem ID{p:Pg}{f:Pf}(hf:oQ p.sig f)(ih:∀k∈f.kids,AS p k){env:List Tm}(hv:dQ p.sig env){e:Tm}(he:c0 p.sig env.length e)(r:f.bG=12):
 a8 Tryz.prog 179 [wC p env,e.d,f.d] (w9 (bf p f env e)):=by
 have ht:bf p f env e=(lX p [11] f env e&&(aX (bK f.kids 0) (bK f.kids 1)&&cR 16 (bK f.kids 0)&&aX f.val (gU true))):=by
  rw[qV (by omega),r]
  have:w7 12 e f.val (bK f.kids 0) (bK f.kids 1)=(e.op==11&&(aX (bK f.kids 0) (bK f.kids 1)&&cR 16 (bK f.kids 0)&&aX f.val (gU true))):=rfl
  rw[this,lX]
  simp only[List.contains_cons,List.contains_nil,Bool.or_false]
  try rw[Bool.or_assoc]
  ac_rfl
 have hc:=qU hf ih hv he [11] aZ aZ
 rw[ht]
 refine a8.aB mix Rq aj ?_
 rw[Vk]
 refine aJ ?_
 cases h1:lX p [11] f env e with
 |false=>
  rw[h1,s8]at hc
  rw[Bool.false_and,aR]
  refine bt hc rfl ?_
  exact cI
 |true=>
 rw[h1,yO]at hc
 have h2:f.kids.length=2:=by
  exact Jj
 obtain⟨x,hx⟩:=aw (l:=f.kids) (k:=0) ad
 obtain⟨y,hy⟩:=aw (l:=f.kids) (k:=1) ad
 have wz:=(hf.lx (List.mem_of_getElem? hx)).val
 have Gu:=(hf.lx (List.mem_of_getElem? hy)).val
 rw[b7 hx,b7 hy]at hc
 rw[b7 hx,b7 hy,Bool.true_and]
 refine bg hc ?_
 refine aJ ?_
 refine aq (cS _ wz.1.1 _ Gu.1.1) rfl ?_
 cases g1:aX x.val y.val with
 |false=>
  rw[Bool.false_and,Bool.false_and,aR]
  refine aJ ?_
  refine aK aV aE ?_
  refine aJ ?_
  refine aU ⟨aZ, ?_⟩
  exact jD
 |true=>
 rw[Bool.true_and]
 refine aJ ?_
 refine aq (vI _ wz.1.1 wz.1.2) rfl ?_
 have hk:decide (1<=ED x.val)=cR 16 x.val:=by rw[Bool.eq_iff_iff,decide_eq_true_eq];exact(EE x.val wz.1.2).2.1
 cases g2:cR 16 x.val with
 |false=>
  rw[g2]at hk
  rw[Bool.false_and,aR]
  refine dD hk ?_
  refine aK aV aE ?_
  refine aJ ?_
  refine aU ⟨aZ, ?_⟩
  exact jD
 |true=>
 rw[g2]at hk
 rw[Bool.true_and]
 refine dD hk ?_
 refine bw (kL true) ?_
 refine aJ ?_
 refine aq (cS _ hf.val.1.1 _ (jj true)) rfl ?_
 cases g3:aX f.val (gU true)with
 |false=>
  rw[aR]
  refine aJ ?_
  refine aK aV aE ?_
  refine aJ ?_
  refine aU ⟨aZ, ?_⟩
  exact jD
 |true=>
 rw[bC]
 refine aJ ?_
 refine aq bR rfl ?_
 refine aJ ?_
 refine ao aZ ?_
 exact cI
set_option maxHeartbeats 1000000 in
theorem Mm{p:Pg}{f:Pf}(hf:oQ p.sig f)(ih:∀k∈f.kids,AS p k){env:List Tm}(hv:dQ p.sig env){e:Tm}(he:c0 p.sig env.length e)(r:f.bG=13):
 a8 Tryz.prog 180 [wC p env,e.d,f.d] (w9 (bf p f env e)):=by
 have ht:bf p f env e=(lX p [12] f env e&&((cR 16 (bK f.kids 0)&&cR 1 (bK f.kids 0))&&(cR 16 (bK f.kids 1)&&cR 1 (bK f.kids 1))&&aX f.val (gU (aX (bK f.kids 0) (bK f.kids 1))))):=by
  rw[qV (by omega),r]
  have:w7 13 e f.val (bK f.kids 0) (bK f.kids 1)=(e.op==12&&((cR 16 (bK f.kids 0)&&cR 1 (bK f.kids 0))&&(cR 16 (bK f.kids 1)&&cR 1 (bK f.kids 1))&&aX f.val (gU (aX (bK f.kids 0) (bK f.kids 1))))):=rfl
  rw[this,lX]
  simp only[List.contains_cons,List.contains_nil,Bool.or_false]
  try rw[Bool.or_assoc]
  ac_rfl
 have hc:=qU hf ih hv he [12] aZ aZ
 rw[ht]
 refine a8.aB mix Rr aj ?_
 rw[Vl]
 refine aJ ?_
 cases h1:lX p [12] f env e with
 |false=>
  rw[h1,s8]at hc
  rw[Bool.false_and,aR]
  refine bt hc rfl ?_
  exact cI
 |true=>
 rw[h1,yO]at hc
 have h2:f.kids.length=2:=by
  exact Jj
 obtain⟨x,hx⟩:=aw (l:=f.kids) (k:=0) ad
 obtain⟨y,hy⟩:=aw (l:=f.kids) (k:=1) ad
 have wz:=(hf.lx (List.mem_of_getElem? hx)).val
 have Gu:=(hf.lx (List.mem_of_getElem? hy)).val
 rw[b7 hx,b7 hy]at hc
 rw[b7 hx,b7 hy,Bool.true_and]
 refine bg hc ?_
 refine aJ ?_
 have hg:∀z:Tm,Pn p.sig z->(ED z==2)=(cR 16 z&&cR 1 z):=fun z hz=>by
  rw[Bool.eq_iff_iff,Bool.and_eq_true,beq_iff_eq];exact(EE z hz).2.2
 have MK:=hg _ wz.1.2
 have Ja:=hg _ Gu.1.2
 refine aq (vI _ wz.1.1 wz.1.2) rfl ?_
 cases g1:(cR 16 x.val&&cR 1 x.val)with
 |false=>
  rw[g1]at MK
  rw[Bool.false_and,Bool.false_and,aR]
  refine dD MK ?_
  refine aK aV aE ?_
  refine aJ ?_
  refine aU ⟨aZ, ?_⟩
  exact jD
 |true=>
 rw[g1]at MK
 rw[Bool.true_and]
 refine dD MK ?_
 refine aq (vI _ Gu.1.1 Gu.1.2) rfl ?_
 cases g2:(cR 16 y.val&&cR 1 y.val)with
 |false=>
  rw[g2]at Ja
  rw[Bool.false_and,aR]
  refine dD Ja ?_
  refine aK aV aE ?_
  refine aJ ?_
  refine aU ⟨aZ, ?_⟩
  exact jD
 |true=>
 rw[g2]at Ja
 rw[Bool.true_and]
 refine dD Ja ?_
 refine aq (cS _ wz.1.1 _ Gu.1.1) rfl ?_
 refine aJ ?_
 refine bw (kL _) ?_
 refine aJ ?_
 refine aq (cS _ hf.val.1.1 _ (jj _)) rfl ?_
 cases g3:aX f.val (gU (aX x.val y.val))with
 |false=>
  rw[aR]
  refine aJ ?_
  refine aK aV aE ?_
  refine aJ ?_
  refine aU ⟨aZ, ?_⟩
  exact jD
 |true=>
 rw[bC]
 refine aJ ?_
 refine aq bR rfl ?_
 refine aJ ?_
 refine ao aZ ?_
 exact cI
set_option maxHeartbeats 1000000 in
theorem Pj{p:Pg}{f:Pf}(hf:oQ p.sig f)(ih:∀k∈f.kids,AS p k){env:List Tm}(hv:dQ p.sig env){e:Tm}(he:c0 p.sig env.length e)(r:f.bG=14):
 a8 Tryz.prog 181 [wC p env,e.d,f.d] (w9 (bf p f env e)):=by
 have ht:bf p f env e=(lX p [13,14,15] f env e&&((bK f.kids 0).op==2&&(bK f.kids 1).op==2&&aX f.val (wZ e.op (bK f.kids 0).n (bK f.kids 1).n))):=by
  rw[qV (by omega),r]
  have:w7 14 e f.val (bK f.kids 0) (bK f.kids 1)=((e.op==13||e.op==14||e.op==15)&&((bK f.kids 0).op==2&&(bK f.kids 1).op==2&&aX f.val (wZ e.op (bK f.kids 0).n (bK f.kids 1).n))):=rfl
  rw[this,lX]
  simp only[List.contains_cons,List.contains_nil,Bool.or_false]
  try rw[Bool.or_assoc]
  ac_rfl
 have hc:=qU hf ih hv he [13,14,15] aZ aZ
 rw[ht]
 refine a8.aB mix Rs aj ?_
 rw[Vm]
 refine aJ ?_
 cases h1:lX p [13,14,15] f env e with
 |false=>
  rw[h1,s8]at hc
  rw[Bool.false_and,aR]
  refine bt hc rfl ?_
  exact cI
 |true=>
 rw[h1,yO]at hc
 have h2:f.kids.length=2:=by
  exact Jj
 obtain⟨x,hx⟩:=aw (l:=f.kids) (k:=0) ad
 obtain⟨y,hy⟩:=aw (l:=f.kids) (k:=1) ad
 have wz:=(hf.lx (List.mem_of_getElem? hx)).val
 have Gu:=(hf.lx (List.mem_of_getElem? hy)).val
 rw[b7 hx,b7 hy]at hc
 rw[b7 hx,b7 hy,Bool.true_and]
 refine bg hc ?_
 refine aJ ?_
 have fA:e.op=13\/e.op=14\/e.op=15:=by
  unfold lX at h1
  simp only[Bool.and_eq_true,List.contains_cons,List.contains_nil,Bool.or_eq_true,beq_iff_eq]at h1
  rcases h1.1 with h|h|h|h
  ·exact .inl h
  ·exact .inr (.inl h)
  ·exact .inr (.inr h)
  ·cases h
 by_cases g1:x.val.op=2
 rotate_left
 ·have I8:(x.val.op==2)=false:=by simpa using g1
  rw[I8,Bool.false_and,Bool.false_and,aR]
  refine dD I8 ?_
  refine bt aV rfl ?_
  exact cI
 have I8:(x.val.op==2)=true:=by simpa using g1
 rw[I8,Bool.true_and]
 by_cases g2:y.val.op=2
 rotate_left
 ·have I1:(y.val.op==2)=false:=by simpa using g2
  rw[I1,Bool.false_and,aR]
  refine ud I8 I1 ?_
  refine bt aV rfl ?_
  exact cI
 have I1:(y.val.op==2)=true:=by simpa using g2
 rw[I1,Bool.true_and]
 obtain⟨x0,x1⟩:=Mf wz.1.2 g1
 obtain⟨y0,y1⟩:=Mf Gu.1.2 g2
 refine ud I8 I1 ?_
 refine ai bR rfl ?_
 refine aJ ?_
 have hq:=cS _ hf.val.1.1 _ (Iy e.op x.val.n y.val.n)
 rcases fA with h3|h3|h3
 ·have h15:(e.op==15)=false:=by rw[h3];rfl
  have h14:(e.op==14)=false:=by rw[h3];rfl
  rw[EY,if_neg (by omega),if_neg (by omega)]at hq
  refine ud h14 h15 ?_
  refine ai hq rfl ?_
  cases g3:aX f.val (wZ e.op x.val.n y.val.n)with
  |false=>
   rw[aR]
   refine aJ ?_
   refine bt aV rfl ?_
   exact cI
  |true=>
   rw[bC]
   refine aJ ?_
   refine ai bR rfl ?_
   exact cI
 ·have h15:(e.op==15)=false:=by rw[h3];rfl
  have h14:(e.op==14)=true:=by rw[h3];rfl
  rw[EY,if_neg (by omega),if_pos h3]at hq
  refine ud h14 h15 ?_
  refine ai hq rfl ?_
  cases g3:aX f.val (wZ e.op x.val.n y.val.n)with
  |false=>
   rw[aR]
   refine aJ ?_
   refine bt aV rfl ?_
   exact cI
  |true=>
   rw[bC]
   refine aJ ?_
   refine ai bR rfl ?_
   exact cI
 ·have h15:(e.op==15)=true:=by rw[h3];rfl
  rw[EY,if_pos h3]at hq
  refine dD h15 ?_
  refine bw (kL _) ?_
  refine aJ ?_
  refine aq hq rfl ?_
  cases g3:aX f.val (wZ e.op x.val.n y.val.n)with
  |false=>
   rw[aR]
   refine aJ ?_
   refine aK aV aE ?_
   refine aJ ?_
   refine aU ⟨aZ, ?_⟩
   exact jD
  |true=>
   rw[bC]
   refine aJ ?_
   refine aq bR rfl ?_
   refine aJ ?_
   refine ao aZ ?_
   exact cI
theorem WK{p:Pg}{l:List Pf}{i:Nat}{x:Pf}(h:l[i]? =some x):qY (l.map (bf p)) i=bf p x:=SU
theorem Pk(p:Pg)(l:List Pf)(env es:List Tm):oA (l.map (bf p)) env es=(l.length==es.length&&(l.zip es).all fun x=>bf p x.1 env x.2):=by
 unfold oA
 rw[List.length_map,List.zip_map_left,List.all_map]
 rfl
theorem Pl{α β:Type}{l:List α}{m:List β}{k:Nat}{x:α}{y:β}(hx:l[k]? =some x)(hy:m[k]? =some y):(l.zip m)[k]? =some (x,y):=by rw[List.getElem?_zip_eq_some];exact⟨hx,hy⟩
theorem wg:∀ {l:List ky} {b B:List (List UInt8)},cq l b=some B->∀x∈l,0<=x.args/\x.args<=4
 |[],_,_,_=>aj
 |y::l,b,B,h=>by
  simp only[cq]at h
  split at h
  ·cases h
  ·split at h
   ·cases h
   ·rename_i h2
    intro x hx
    rcases List.mem_cons.1 hx with e|e
    ·subst e
     simp[c6]at h2
     exact⟨h2.2.1,h2.2.2⟩
    ·exact wg h x e
theorem Db{s:a7}(h:kB s=true):∀x∈s.bX,0<=x.args/\x.args<=4:=by
 unfold kB at h
 split at h
 ·cases h
 ·split at h
  ·split at h
   ·cases h
   ·split at h
    ·cases h
    ·rename_i l _
     cases h2:cq s.bX l with
     |none=>rw[h2]at h;cases h
     |some B=>exact wg h2
  ·cases h
theorem kJ.sg {p:Pg}(h:kJ p):kB p.sig=true:=by
 have:=h.is;simp only[eE,Bool.and_eq_true]at this;exact this.1.1
theorem Pm{s:a7}{g:Tm}(h:Pn s g)(h5:g.op=5):0<=g.n/\∃x,s.bX[g.n.toNat]? =some x/\(g.kids.length:Int)<x.args:=by
 have:=(rX.1 h).1
 simp[mo,h5]at this
 obtain⟨h1,h2⟩:=this
 obtain⟨h0,x,hx⟩:=gG h1
 rw[iN hx]at h2
 exact⟨h0,x,hx,h2⟩
theorem Mn{s:a7}{f:Int}{x:ky}(h0:0<=f)(hx:s.bX[f.toNat]? =some x)(a0:0<=x.args)(a4:x.args<=4){n:Nat}(hn:(n:Int)=x.args):c0 s n (oP s f):=by
 have e:oP s f= .mk 4 f (mJ x.args.toNat):=by unfold oP;rw[iN hx];rfl
 have hl:f.toNat<s.bX.length:=(List.getElem?_eq_some_iff.1 hx).1
 have hm:∀k∈mJ x.args.toNat,∃i:Nat,(i:Int)<x.args/\k= .mk 1 (i:Int) []:=fun k hk=>by
  obtain⟨i,hi,rfl⟩:=List.mem_map.1 hk
  have:=List.mem_range.1 hi
  exact⟨i,ad,rfl⟩
 rw[e]
 refine⟨?_, ?_,fun v hv=> ?_⟩
 ·rw[Tm.aP]
  refine⟨by simp[Tm.kids,mJ];omega,fun k hk=> ?_⟩
  obtain⟨i,_,rfl⟩:=hm k hk
  simp[Tm.fits,Tm.kz]
 ·rw[dF,Bool.and_eq_true,List.all_eq_true]
  refine⟨?_,fun k hk=> ?_⟩
  ·have e1:(mJ x.args.toNat).length=x.args.toNat:=by simp[mJ]
   simp[bz,Tm.op,Tm.kids,Tm.n,c6,e1,iN hx,show f<=(s.bX.length:Int) - 1 by omega,h0,Int.toNat_of_nonneg a0]
  ·obtain⟨i,hi,rfl⟩:=hm k hk
   rw[dF]
   simp[bz,Tm.op,Tm.kids,Tm.n,c6,show(i:Int)<=19 by omega]
 ·rw[gQ,if_neg (by simp[Tm.op])]at hv
  have key:∀ (l:List Tm) (j:Nat),(∀k∈l,∃i:Nat,(i:Int)<x.args/\k= .mk 1 (i:Int) [])->iq v 4 f l j=true->0<=v/\v<x.args:=by
   intro l
   induction l with
   |nil=>intro j _ h;simp[iq]at h
   |cons k l ih=>
    intro j hk h
    simp only[iq,Bool.or_eq_true,Bool.and_eq_true]at h
    rcases h with⟨h,_⟩|h
    ·obtain⟨i,hi,rfl⟩:=hk k aj
     have h:(i:Int)=v:=by simpa[gQ,Tm.n,Tm.op]using h
     omega
    ·exact ih _ (fun y hy=>hk y tc) h
  have:=key _ _ hm hv
  omega
theorem Mo{s:a7}{t:Tm}(h:eD s t=true):∀x∈iM t,bz s x=true:=by
 have key:∀t:Tm,eD s t=true->∀x∈iM t,bz s x=true:=by
  refine Tm.ck fun t ih h x hx=> ?_
  rw[dF,Bool.and_eq_true,List.all_eq_true]at h
  rw[nN]at hx
  rcases List.mem_cons.1 hx with e|e
  ·rw[e];exact h.1
  ·obtain⟨k,hk,hx⟩:=List.mem_flatMap.1 e
   exact ih k hk (h.2 k hk) x hx
 exact key t h
theorem sq.fill {s:a7}{r:Rl}(h:sq s r){q:Tm}(hq:q∈r.bn){n:Nat}(hn:(n:Int)=r.vars):v7 n q:=by
 obtain⟨h1,_,_,h4⟩:=h.bn q hq
 intro x hx ho
 have a:=Mo (ji h1) x hx
 simp[bz,ho,c6]at a
 have b:=(pF r.vars q).1 h4 x hx (.inl ho)
 omega
def Gv(ks:List Pf)(ps b:List Tm)(m:Nat):Bool:=aX (.mk 0 0 ((ks.take m).map Pf.val)) (.mk 0 0 (ps.map (il b)))
theorem Mp(ks:List Pf)(ps b:List Tm)(m:Nat)(hk:m<=ks.length)(hp:ps.length=m):Gv ks ps b m=((ks.take m).zip ps).all fun x=>aX x.1.val (il b x.2):=by
 subst hp
 unfold Gv
 rw[Bool.eq_iff_iff,bY,List.all_eq_true]
 have e:(Tm.mk 0 0 ((ks.take ps.length).map Pf.val)= .mk 0 0 (ps.map (il b)))↔(ks.take ps.length).map Pf.val=ps.map (il b):=⟨fun h=>by injection h,fun h=>by rw[h]⟩
 rw[e]
 have key:∀ (a:List Pf) (c:List Tm),a.length=c.length->(a.map Pf.val=c.map (il b)↔∀x∈a.zip c,aX x.1.val (il b x.2)=true):=by
  intro a
  induction a with
  |nil=>intro c h;have:c=[]:=List.length_eq_zero_iff.1 h.symm;subst this;simp
  |cons x a ih=>
   intro c h
   cases c with
   |nil=>simp at h
   |cons y c=>
    simp only[List.map_cons,List.cons.injEq,List.zip_cons_cons,List.mem_cons,forall_eq_or_imp,bY]
    rw[ih c (by simpa using h)]
    simp only[bY]
 exact key _ _ (by rw[List.length_take];omega)
theorem IE{l:List Tm}(hl:∀t∈l,t.fits):∀t:Tm,t.fits->(il l t).fits:=by
 refine Tm.ck fun t ih hf=> ?_
 have fm:=(Tm.aP _).1 hf
 rw[vT]
 split
 ·cases h:l[t.n.toNat]? with
  |none=>exact(Aw ⟨[],[]⟩).1
  |some x=>exact hl x (List.mem_of_getElem? h)
 ·rw[Tm.aP]
  refine⟨by simp only[Tm.kids,List.length_map];exact fm.1,fun k hk=> ?_⟩
  simp only[Tm.kids]at hk
  obtain⟨y,hy,rfl⟩:=List.mem_map.1 hk
  exact ih y hy (fm.2 y hy)
def oR(p:Pg)(f:Pf)(env:List Tm)(e:Tm):Bool:=decide (0<=f.num)&&match p.rules[f.num.toNat]? with
    |none=>false
    |some ru=>(ru.fn==e.n&&(f.binds.length:Int)==ru.vars&&f.kids.length==e.kids.length+1&&f.val.op !=16&&aX (bK f.kids e.kids.length) f.val)&&
     (Gv f.kids ru.bn f.binds e.kids.length&&oA ((f.kids.map (bf p)).take e.kids.length) env e.kids&&qY (f.kids.map (bf p)) e.kids.length (qM ru f.binds) ru.rhs)
theorem prvB_6(p:Pg)(f:Pf)(env:List Tm)(e:Tm)(h:f.bG=6):bf p f env e=(e.op==4&&oR p f env e):=by
 rw[e7,mR,if_neg (by omega),if_neg (by omega),if_neg (by omega),if_neg (by omega),if_neg (by omega),if_pos h,Bool.and_assoc]
 rfl
set_option maxHeartbeats 1000000 in
theorem Po{p:Pg}(hp:kJ p)(hw:p.Fw){f:Pf}(hf:oQ p.sig f)(ih:∀k∈f.kids,AS p k){env:List Tm}(hv:dQ p.sig env){e:Tm}(he:c0 p.sig env.length e)(r6:f.bG=6):
 a8 Tryz.prog 173 [wC p env,e.d,f.d] (w9 (bf p f env e)):=by
 have Ss:=hf.len
 have Dz:=hw.len
 have fU:=((Tm.aP e).1 he.fits).1
 have ze:=hf.env.len
 rw[prvB_6 p f env e r6]
 refine a8.aB mix Rj aj ?_
 rw[Ve]
 by_cases fA:e.op=4
 rotate_left
 ·have cB:(e.op==4)=false:=by simpa using fA
  rw[cB,Bool.false_and,aR]
  refine eG cB ?_
  refine bt aV rfl ?_
  exact cI
 have cB:(e.op==4)=true:=by simpa using fA
 rw[cB,Bool.true_and]
 refine eG cB ?_
 refine ai (je _ _ _) rfl ?_
 cases f1:c6 f.num 0 ((p.rules.length:Int) - 1)with
 |false=>
  have hc:oR p f env e=false:=by
   simp only[c6,Bool.and_eq_false_iff,decide_eq_false_iff_not]at f1
   unfold oR
   by_cases h:0<=f.num
   ·rw[List.getElem?_eq_none (by omega:p.rules.length<=f.num.toNat)];simp
   ·rw[decide_eq_false h];rfl
  rw[hc,aR]
  refine jk ?_
  refine bt aV rfl ?_
  exact cI
 |true=>
 have OQ:0<=f.num/\f.num<=(p.rules.length:Int) - 1:=by simpa[c6]using f1
 obtain⟨n0,n1⟩:=OQ
 obtain⟨ru,hru⟩:=aw (l:=p.rules) (k:=f.num.toNat) ad
 have hrm:=List.mem_of_getElem? hru
 have ho:=hp.rl hrm
 obtain⟨hfw,hrf,hrz⟩:=hw.all ru hrm
 have hcb:oR p f env e=((ru.fn==e.n&&(f.binds.length:Int)==ru.vars&&f.kids.length==e.kids.length+1&&f.val.op !=16&&aX (bK f.kids e.kids.length) f.val)&&
  (Gv f.kids ru.bn f.binds e.kids.length&&oA ((f.kids.map (bf p)).take e.kids.length) env e.kids&&qY (f.kids.map (bf p)) e.kids.length (qM ru f.binds) ru.rhs)):=by
  unfold oR;rw[hru,decide_eq_true n0];rfl
 refine jk ?_
 refine ai bR rfl ?_
 refine oo hru n0 ?_
 refine ao aZ ?_
 by_cases f2:ru.fn=e.n
 rotate_left
 ·have Ds:(ru.fn==e.n)=false:=by simpa using f2
  have e0:oR p f env e=false:=by rw[hcb];simp[f2]
  rw[e0,aR]
  refine eG Ds ?_
  refine aK aV aE ?_
  refine aJ ?_
  refine aU ⟨aZ, ?_⟩
  exact jD
 have Ds:(ru.fn==e.n)=true:=by simpa using f2
 by_cases f3:(f.binds.length:Int)=ru.vars
 rotate_left
 ·have Gd:((f.binds.length:Int)==ru.vars)=false:=by simpa using f3
  have e0:oR p f env e=false:=by rw[hcb];simp[f3]
  rw[e0,aR]
  refine oo Ds Gd ?_
  refine aK aV aE ?_
  refine aJ ?_
  refine aU ⟨aZ, ?_⟩
  exact jD
 have Gd:((f.binds.length:Int)==ru.vars)=true:=by simpa using f3
 obtain⟨fx,hfx,Dl⟩:=ho.fn
 have adF:=Db hp.sg fx (List.mem_of_getElem? hfx)
 have Ho:=he.node1
 have IZ:ru.bn.length=e.kids.length:=by
  simp[bz,fA]at Ho
  have h2:=Ho.2
  rw[dN, <- f2,hfx]at h2
  dsimp only at h2
  omega
 by_cases f4:f.kids.length=e.kids.length+1
 rotate_left
 ·have OR:((f.kids.length:Int)==(e.kids.length:Int)+1)=false:=by rw[beq_eq_false_iff_ne];omega
  have abg:(f.kids.length==e.kids.length+1)=false:=by simpa using f4
  have e0:oR p f env e=false:=by rw[hcb];simp[f4]
  rw[e0,aR]
  refine MW Ds Gd OR ?_
  refine aK aV aE ?_
  refine aJ ?_
  refine aU ⟨aZ, ?_⟩
  exact jD
 have OR:((f.kids.length:Int)==(e.kids.length:Int)+1)=true:=by rw[beq_iff_eq];omega
 have abg:(f.kids.length==e.kids.length+1)=true:=by simpa using f4
 by_cases f5:f.val.op=16
 ·have Sm:(f.val.op !=16)=false:=by simpa using f5
  have e0:oR p f env e=false:=by rw[hcb];simp[f5]
  rw[e0,aR]
  refine Dv Ds Gd OR Sm ?_
  refine aK aV aE ?_
  refine aJ ?_
  refine aU ⟨aZ, ?_⟩
  exact jD
 have Sm:(f.val.op !=16)=true:=by simpa using f5
 obtain⟨z,hz⟩:=aw (l:=f.kids) (k:=e.kids.length) ad
 have hzm:=List.mem_of_getElem? hz
 have e1:oR p f env e=(aX z.val f.val&&((((f.kids.take e.kids.length).zip ru.bn).all fun x=>aX x.1.val (il f.binds x.2))&&((f.kids.take e.kids.length).length==e.kids.length&&((f.kids.take e.kids.length).zip e.kids).all fun x=>bf p x.1 env x.2)&&bf p z (qM ru f.binds) ru.rhs)):=by
  rw[hcb,Ds,Gd,abg,Sm,b7 hz,WK hz,Mp _ _ _ _ (by omega) IZ, <- List.map_take,Pk]
  simp only[Bool.true_and]
 rw[e1]
 simp+contextual (disch:=first|omega|simp only[go_sem,false_implies]) only[go_sem,wrap64,if_pos,List.length_map,Ds,Gd,OR,Sm,hz]
 refine aq (cS _ (hf.lx hzm).val.1.1 _ hf.val.1.1) rfl ?_
 cases f6:aX z.val f.val with
 |false=>
  rw[Bool.false_and,aR]
  refine aJ ?_
  refine aK aV aE ?_
  refine aJ ?_
  refine aU ⟨aZ, ?_⟩
  exact jD
 |true=>
 rw[Bool.true_and]
 refine aJ ?_
 refine aq bR rfl ?_
 refine aJ ?_
 refine ao aZ ?_
 refine jk ?_
 have C2:(f.kids.take e.kids.length).length=e.kids.length:=by rw[List.length_take];omega
 have ja:∀ {k:Nat} {x:Pf},k<e.kids.length->f.kids[k]? =some x->(f.kids.take e.kids.length)[k]? =some x:=fun h1 h2=>by rw[List.getElem?_take_of_lt h1];exact h2
 refine aL (fun k:Nat=>⟨bB [.aa, .aa, .aa, .ptr 0 0, .ptr 1 0, .ptr 2 0, .ptr 27 0, .d (.i e.kids.length), .aa, .aa, .aa, .aa, .aa, .aa, .aa, .aa, .aa, .aa, .aa, .aa, .aa, .aa, .aa, .aa, .aa, .aa, .aa, .aa, .aa, .aa, .aa, .aa, .aa, .aa, .aa, .aa, .aa, .aa, .aa, .aa, .aa, .aa, .aa, .aa, .aa, .aa, .aa, .aa, .aa, .aa, .aa, .aa, .aa, .aa, .aa, .aa, .aa, .aa, .aa, .aa, .aa, .aa, .aa, .aa, .aa, .aa, .aa, .aa, .aa, .aa, .aa, .aa, .aa, .aa, .d (.sl (ru.bn.map Tm.d)), .d (.i ru.bn.length), .d (.i k)],aM (wc p env e f) 27 (.row ru.row),73⟩)
  (fun k=>k<=ru.bn.length/\(((f.kids.take e.kids.length).zip ru.bn).take k).all (fun x=>aX x.1.val (il f.binds x.2))=true) (fun k=>ru.bn.length - k) 0 ⟨Nat.zero_le _,aj⟩ (bM.bT _ ad ad dv (fun j hj=>j6) ?_) (fun k hk=> ?_)
 ·exact cM
 refine jk ?_
 refine ak (fun h2=> ?_) (fun h2=> ?_)
 ·simp at h2
  obtain⟨x,hx⟩:=aw (l:=f.kids) (k:=k) ad
  obtain⟨q,hq⟩:=aw (l:=ru.bn) (k:=k) ad
  have de:=List.mem_of_getElem? hx
  have hqm:=List.mem_of_getElem? hq
  have hz1:=Pl (ja ad hx) hq
  have hqf:=hfw.all q hqm
  have hff:(il f.binds q).fits:=IE (fun t ht=>(hf.env.all t ht).1) q hqf.1
  refine oo hx hq ?_
  refine bw (L8 f.binds ad q hqf.1 ad (ho.fill hqm f3)) ?_
  refine oo hx hq ?_
  refine aq (cS _ (hf.lx de).val.1.1 _ hff) rfl ?_
  cases g1:aX x.val (il f.binds q)with
  |false=>
   rw[cc hz1 g1,Bool.false_and,Bool.false_and,aR]
   refine aJ ?_
   refine aK aV aE ?_
   refine aJ ?_
   refine aU ⟨aZ, ?_⟩
   exact jD
  |true=>
   refine aJ ?_
   refine aq bR rfl ?_
   refine aJ ?_
   refine ao aZ ?_
   refine aJ ?_
   refine au (k+1) ⟨h2,cG hz1 hk.2 g1⟩ ad (bM.bT _ ad ad dv (fun j hj=>j6) ?_)
   exact cM
 ·simp at h2
  have aa3:min e.kids.length f.kids.length=e.kids.length:=ad
  have Ai:=qT (f.kids.take e.kids.length) e.kids ad fU hv (fun k hk=>ih k (List.mem_of_mem_take hk)) (fun y hy=>he.lx ad ad hy)
  rw[List.map_take]at Ai
  rw[cH hk.2 (by rw[List.length_zip];omega),Bool.true_and]
  refine jk ?_
  cases g1:((f.kids.take e.kids.length).length==e.kids.length&&((f.kids.take e.kids.length).zip e.kids).all fun x=>bf p x.1 env x.2)with
  |false=>
   rw[g1,aR]at Ai
   rw[Bool.false_and,aR]
   refine aK Ai aE ?_
   refine aJ ?_
   refine aU ⟨aZ, ?_⟩
   exact jD
  |true=>
  rw[g1,bC]at Ai
  rw[Bool.true_and]
  refine aq Ai rfl ?_
  refine aJ ?_
  refine ao aZ ?_
  refine jk ?_
  refine bw (Iw ru ho hrf f.binds ad f3) ?_
  refine jk ?_
  refine bw (L9 p env (qM ru f.binds)) ?_
  refine eG hz ?_
  have hc:=ih z hzm (qM ru f.binds) ru.rhs (O0 hf.env) (ho.Ww hrf (by rw[CX];exact f3))
  cases g2:bf p z (qM ru f.binds) ru.rhs with
  |false=>
   rw[g2,aR]at hc
   rw[aR]
   refine aK hc aE ?_
   refine aJ ?_
   refine aU ⟨aZ, ?_⟩
   exact jD
  |true=>
  rw[g2,bC]at hc
  rw[bC]
  refine aq hc rfl ?_
  refine aJ ?_
  refine ao aZ ?_
  exact cI
end Go.Proofs.YtonbelhklnmjnaaGreat
