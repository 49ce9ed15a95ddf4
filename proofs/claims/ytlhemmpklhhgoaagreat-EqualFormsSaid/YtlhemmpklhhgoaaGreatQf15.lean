/-
  A PART. Conditions: none.
-/
import Derived.Shelf.Sort.Plain
import Derived.Shelf.Slices.In.SortNone
import Derived.Test.YtlhemmpklhhgoaaGreatQf14
set_option linter.unusedSimpArgs false
set_option linter.unusedVariables false
set_option maxHeartbeats 8000000
namespace Go.Proofs.YtlhemmpklhhgoaaGreat
section
theorem Eo{σ:Type}(l:List Tm)(hl:l.length<=9223372036854775807)(g:Nat)(bW:List V)(base:Nat)(H:σ->Nat->aa)(step:σ->Tm->σ×Bool)(hc:∀r∈V.aN bW,r<base)(ok:σ->Prop)(a8:∀x∈l,∀s,ok s->(step s x).2=true->ok (step s x).1)
 (h:∀x∈l,∀s,ok s->Au Tryz.prog g (.d x.d::bW) base (H s) (H (step s x).1) (.d (.bool (step s x).2))) (s:σ) (pQ:ok s):
 Au Tryz.prog 169 [.d (.sl (l.map Tm.d)), .func (.func g) [] bW] base (H s) (H (aR step s l).1) (.d (.bool (aR step s l).2)):=by
 intro o nx hI K X hK
 have dR:∀r∈V.aN bW,r<nx:=fun r hr=>Nat.lt_of_lt_of_le (hc r hr) hI.le
 refine bJ.aH mix V2 aF ?_
 rw[Zn]
 refine cZ ?_
 refine aC (fun i:Nat×σ×(Nat->aa)×Nat=>⟨aY [.ai, .func (.func g) [] bW, .ai, .ai, .ai, .ai, .ai, .d (.sl (l.map Tm.d)), .d (.i l.length), .d (.i i.1)],i.2.2.1,i.2.2.2⟩)
  (fun i=>i.1<=l.length/\fw base (H i.2.1) i.2.2.1 i.2.2.2/\nx<=i.2.2.2/\(∀id,base<=id->id<nx->i.2.2.1 id=o id)/\aR step s l=aR step i.2.1 (l.drop i.1)/\ok i.2.1) (fun i=>l.length - i.1) (0,s,o,nx)
  ⟨Nat.zero_le _,hI,Nat.le_refl _,fun _ _ _=>rfl,rfl,pQ⟩ ?_ ?_
 ·exact Xk
 rintro⟨k,s',o',nx'⟩ ⟨hk,Qb,hn,dn,hf,xH⟩
 simp only at hk Qb hn dn hf xH
 refine cZ ?_
 refine ak (fun h1=> ?_) (fun h1=> ?_)
 ·simp at h1
  obtain⟨x,hx⟩:=aA h1
  have cj:=List.mem_of_getElem? hx
  have hd:l.drop k=x::l.drop (k+1):=by
   exact Xf
  refine Fz hx ?_
  have Xz:=Qb.le
  refine ij (h x cj s' xH _ _ (?_:fw base (H s') _ (nx'+7)) _ _ fun o2 n2 m1 m2 m3=> ?_)
  ·exact abR
  have On:∀id,base<=id->id<nx->o2 id=o id:=fun id h2 h3=>by
   exact ab5
  refine cZ ?_
  refine ak (fun h2=> ?_) (fun h2=> ?_)
  ·refine cZ ?_
   simp at h2
   have:aR step s l=((step s' x).1,false):=by rw[hf,hd,aR,if_neg (by rw[h2];exact Bool.false_ne_true)]
   rw[this]at hK
   exact hK _ _ ad (m2.mono ad) On
  ·refine cZ ?_
   simp at h2
   have:aR step s l=aR step (step s' x).1 (l.drop (k+1)):=by rw[hf,hd,aR,if_pos h2]
   refine aj (k+1,(step s' x).1,o2,n2) ⟨h1,m2,by dsimp only;omega,On,this,a8 x cj s' xH h2⟩ iT ?_
   dsimp only
   have Wj:∀r∈V.aN bW,r<n2:=fun r hr=>by have:=dR r hr;omega
   refine bM.bQ _ ad ad m2.cW (fun _ _=>rfl) ?_
   exact dU
 ·exact acH
theorem BV{α σ:Type}(step:σ->α->σ×Bool)(a b:List α):∀s,aR step s (a++b)=if(aR step s a).2=true then aR step (aR step s a).1 b else((aR step s a).1,false):=by
 induction a with
 |nil=>intro s;simp[aR]
 |cons x a ih=>
  intro s
  simp only[List.cons_append,aR]
  split
  ·exact ih _
  ·rename_i h;simp
theorem xI{α β σ:Type}(step:σ->β->σ×Bool)(f:α->List β)(l:List α):∀s,aR step s (l.flatMap f)=aR (fun s x=>aR step s (f x)) s l:=by
 induction l with
 |nil=>intro s;rfl
 |cons x l ih=>intro s;simp only[List.flatMap_cons,BV,aR,ih]
theorem CM{α σ:Type}{step:σ->α->σ×Bool}{ok:σ->Prop}:∀ (l:List α),(∀x∈l,∀s,ok s->(step s x).2=true->ok (step s x).1)->∀s,ok s->(aR step s l).2=true->ok (aR step s l).1
 |[],_,s,h,_=>h
 |x::l,a8,s,h,h2=>by
  simp only[aR]at h2|-
  split at h2
  ·rename_i hb
   rw[if_pos hb]
   exact CM l (fun y hy=>a8 y jX) _ (a8 x aF s h hb) h2
  ·cases h2
def RoC(P:Program)(ss:Nat)(args:List V)(base:Nat)(h h2:Nat->aa)(v:V):Prop:=
 ∀o nx,fw base h o nx->∀K X,StK base h2 v o nx K->ej P ss args o nx K X
section
variable {σ:Type}(base ss:Nat)(H:σ->Nat->aa)(step:σ->Tm×Int->σ×Bool)(ok:σ->Prop)
theorem R4:∀t:Tm,t.fits->∀d:Int,0<=d->d+t.lL<=1000000->(∀x∈pre t d,∀s,ok s->(step s x).2=true->ok (step s x).1)->(∀x∈pre t d,∀s,ok s->RoC Tryz.prog ss [.d x.1.d, .d (.i x.2)] base (H s) (H (step s x).1) (.d (.bool (step s x).2)))->ss<base->
 ∀ (c:Nat) (o0:Nat->aa) (yb vb:Nat),base<=c->base<=yb->yb<c->base<=vb->vb<c->o0 yb= .row [.lC ss]->o0 vb= .row [.func (.func 173) [] [.ptr yb 0, .ptr vb 0]]->
 ∀s,ok s->Au Tryz.prog 173 [.d t.d, .d (.i d), .ptr yb 0, .ptr vb 0] c (ext base (H s) o0) (ext base (H (aR step s (pre t d)).1) o0) (.d (.bool (aR step s (pre t d)).2)):=by
 refine Tm.eM fun t ih hf d hd0 hd a8 hR Ep c o0 yb vb hbc hy0 hy hv0 hv oy ov s pQ=> ?_
 have yQ:=(Tm.cH _).1 hf
 intro o nx hI K X hK
 have hle:=hI.le
 have oy':o yb= .row [.lC ss]:=by rw[hI.eq yb hy];unfold ext;rw[if_neg (by omega),oy]
 have ZJ:o vb= .row [.func (.func 173) [] [.ptr yb 0, .ptr vb 0]]:=by rw[hI.eq vb hv];unfold ext;rw[if_neg (by omega),ov]
 have y1:yb≠nx:=ad
 have y2:∀k,yb≠nx+k:=fun k=>ad
 have y3:vb≠nx:=ad
 have y4:∀k,vb≠nx+k:=fun k=>ad
 refine bJ.aH mix V6 aF ?_
 rw[Zr]
 refine Fz (ae oy' (ae ZJ (ae y1 (ae y2 (ae y3 y4))))) ?_
 have qO:=oG t d
 have vf:∀k∈t.kids,∀x∈pre k (d+1),x∈pre t d:=fun k hk x hx=>by
  rw[qO];exact List.mem_cons_of_mem _ (List.mem_flatMap.2 ⟨k,hk,hx⟩)
 have hb:∀id,id<base->o id=H s id:=fun id ay=>by rw[hI.eq id (by omega)];unfold ext;rw[if_pos ay]
 have hIb:fw base (H s) o nx:=⟨hI.cW,ad,hb⟩
 refine oN (hR (t,d) (by rw[qO];simp) s pQ _ _ ((hIb.aw (i:=nx) (m:=nx+6) ad ad ad rfl).aw (i:=nx+1) ad ad ad rfl) _ _ fun o2 n2 m1 m2 m3=> ?_)
 have k0:o2 nx= .row t.row:=by rw[m3 nx (by omega) (by omega),af _ _ _ _ (by omega),ab]
 have k1:o2 (nx+1)= .row [.d (.i d)]:=by rw[m3 (nx+1) (by omega) (by omega),ab]
 have hold:∀id,base<=id->id<nx->o2 id=o id:=fun id h1 h2=>by rw[m3 id h1 (by omega),af _ _ _ _ (by omega),af _ _ _ _ (by omega)]
 have LS:∀id,base<=id->id<c->o id=o0 id:=fun id h1 h2=>by rw[hI.eq id h2];unfold ext;rw[if_neg (by omega)]
 cases HZ:(step s (t,d)).2 with
 |false=>
  refine gD HZ ?_
  have CG:aR step s (pre t d)=((step s (t,d)).1,false):=by rw[qO,aR,if_neg (by rw[HZ];exact Bool.false_ne_true)]
  rw[CG]at hK
  refine hK _ _ ad ⟨m2.cW.mono ad,ad,fun id ay=> ?_⟩ (fun id h1 h2=>hold id ad h2)
  unfold ext
  split
  ·exact m2.eq id (by assumption)
  ·exact QB
 |true=>
  have CG:aR step s (pre t d)=aR (fun s k=>aR step s (pre k (d+1))) (step s (t,d)).1 t.kids:=by rw[qO,aR,if_pos HZ,xI]
  refine gD (ae HZ (ae k0 k1)) ?_
  have q0:o2 yb= .row [.lC ss]:=by rw[hold yb hy0 (by omega),oy']
  have q1:o2 vb= .row [.func (.func 173) [] [.ptr yb 0, .ptr vb 0]]:=by rw[hold vb hv0 (by omega),ZJ]
  have m0:=m2.le
  refine aT (Eo t.kids yQ.1 174 [.ptr vb 0, .ptr (nx+1) 0] n2 (fun s=>ext base (H s) o2) (fun s k=>aR step s (pre k (d+1))) ?_ ok ?_ ?_ (step s (t,d)).1 (a8 (t,d) (by rw[qO];simp) s pQ HZ) _ _ ?_ _ _ ?_)
  ·exact HH
  ·exact Tv
  ·intro k hk s' kE o3 n3 hI3 K3 X3 hK3
   have l3:=hI3.le
   have r0:o3 vb= .row [.func (.func 173) [] [.ptr yb 0, .ptr vb 0]]:=by rw[hI3.eq vb (by omega)];unfold ext;rw[if_neg (by omega),q1]
   have r1:o3 (nx+1)= .row [.d (.i d)]:=by rw[hI3.eq (nx+1) (by omega)];unfold ext;rw[if_neg (by omega),k1]
   have y5:vb≠n3:=ad
   have y6:∀k,vb≠n3+k:=fun k=>ad
   have y7:nx+1≠n3:=ad
   have y8:∀k,nx+1≠n3+k:=fun k=>ad
   have hh:=Tm.vO hk
   refine bJ.aH mix V7 aF ?_
   rw[Zs]
   refine gD (ae r0 (ae r1 (ae y5 (ae y6 (ae y7 y8))))) ?_
   rw[wrap64 (n:=d+1) (by omega) (by omega)]
   refine aT (ih k hk (yQ.2 k hk) (d+1) ad ad (fun x hx=>a8 x (vf k hk x hx)) (fun x hx=>hR x (vf k hk x hx)) Ep n2 o2 yb vb ad hy0 ad hv0 ad q0 q1 s' kE _ _ (hI3.aw (i:=n3) (m:=n3+6) ad ad ad rfl) _ _ fun o4 n4 p1 p2 p3=> ?_)
   refine cZ ?_
   refine hK3 _ _ ad (p2.mono ad) (fun id h1 h2=> ?_)
   rw[p3 id h1 (by omega),af _ _ _ _ (by omega)]
  ·exact(m2.mono ad).ext ad ad
  ·intro o5 n5 p1 p2 p3
   refine cZ ?_
   rw[<- CG]
   refine hK _ _ ad ⟨p2.cW.mono ad,ad,fun id ay=> ?_⟩ (fun id h1 h2=> ?_)
   ·rw[p2.eq id (by omega), <- CG]
    unfold ext
    split
    ·rfl
    ·exact QB
   ·rw[p2.eq id (by omega)]
    unfold ext
    rw[if_neg (by omega),hold id (by omega) h2]
theorem Oo(t:Tm)(hf:t.fits)(hd:t.lL<=900000)(a8:∀x∈pre t 1,∀s,ok s->(step s x).2=true->ok (step s x).1)(hR:∀x∈pre t 1,∀s,ok s->RoC Tryz.prog ss [.d x.1.d, .d (.i x.2)] base (H s) (H (step s x).1) (.d (.bool (step s x).2)))(Ep:ss<base)(tb:Nat)(L2:tb<base)(s:σ)(pQ:ok s)(cL:H s tb= .row t.row):
 Au Tryz.prog 172 [.lC ss, .ptr tb 0] base (H s) (H (aR step s (pre t 1)).1) (.cf []):=by
 intro o nx hI K X hK
 have hle:=hI.le
 have ot:o tb= .row t.row:=by rw[hI.eq tb L2,cL]
 have y1:tb≠nx:=ad
 have y2:∀k,tb≠nx+k:=fun k=>ad
 refine bJ.aH mix V5 aF ?_
 rw[Zq]
 refine Fz (ae ot (ae y1 y2)) ?_
 have hI1:fw base (H s) (aw (aw (aw o nx (.row [.lC ss])) (nx+1) (.row [.d .cJ])) (nx+1) (.row [.func (.func 173) [] [.ptr nx 0, .ptr (nx+1) 0]])) (nx+6):=by
  refine((hI.aw (i:=nx) (m:=nx+6) ad ad ad ?_).aw (i:=nx+1) (m:=nx+6) ad ad ad rfl).aw (i:=nx+1) ad ad ad ?_
  ·exact Mg
  ·exact ve
 refine aT (R4 base ss H step ok t hf 1 ad ad a8 hR Ep (nx+6) _ nx (nx+1) ad hle ad ad ad ?_ ?_ s pQ _ _ (hI1.ext (Nat.le_refl _) ad) _ _ ?_)
 ·exact bp
 ·exact bp
 intro o2 n2 m1 m2 m3
 refine cZ ?_
 refine hK _ _ ad ⟨m2.cW,ad,fun id ay=> ?_⟩ (fun id h1 h2=> ?_)
 ·rw[m2.eq id (by omega)];unfold ext;rw[if_pos ay]
 ·exact Uw
end
theorem xJ(t:Tm)(o:Nat->aa)(nx:Nat)(K X:V->(Nat->aa)->Nat->Prop)(h:K (.func (.func 172) [] [.ptr nx 0]) (aw o nx (.row t.row)) (nx+4)):bJ Tryz.prog 159 [.d t.d] o nx K X:=by
 refine bJ.aH mix VV aF ?_
 rw[Zg]
 refine cZ ?_
 exact h
end
def Wk:Option lh->gr
 |none=> .normal
 |some .ret=> .ret
 |some (.exit j)=> .exit j
def yC{σ:Type}(J:σ->Option lh)(step:σ->Tm×Int->σ)(s:σ)(x:Tm×Int):σ×Bool:=(step s x,(J (step s x)).isNone)
theorem BW{σ:Type}(J:σ->Option lh)(step:σ->Tm×Int->σ):∀ (l:List (Tm×Int)) (s:σ),J s=none->(aR (yC J step) s l).2=(J (aR (yC J step) s l).1).isNone
 |[],s,h=>by simp[aR,h]
 |x::l,s,h=>by
  simp only[aR]
  split
  ·rename_i hb
   exact BW J step l _ (by simpa[yC]using hb)
  ·rename_i hb
   cases hj:J (step s x)with
   |none=>exact absurd (by simp[yC,hj]) hb
   |some j=>simp[yC,hj]
theorem oR{σ:Type}(t:Tm)(hf:t.fits)(hd:t.lL<=900000){n bq:Nat}{gq:Operand}{ps:List Nat}{kG fV:IC}{Q:gr->S->Prop}{e:Nat->V}{o:Nat->aa}{nx tb:Nat}(env:List V)(he:oM e env 0)
 (Gy:ps.all (fun t=>decide (t<n))=true) (hl:ps.length=2) (hg:Good o nx) (hrefs:∀r∈V.aN env,r<nx) (ht:o tb= .row t.row)
 (G:σ->Nat->aa) (J:σ->Option lh) (step:σ->Tm×Int->σ) (ok:σ->Prop) (s0:σ) (pQ:ok s0) (hJ0:J s0=none) (h0:∀id,id<nx->o id=G s0 id) (a8:∀x∈pre t 1,∀s,ok s->J s=none->J (step s x)=none->ok (step s x))
 (wU:∀L,mj Tryz.prog n env ps kG fV L->(∀st pd m,nx<=m->(L st pd).refs.all (fun r=>decide (r<m))=true)->∀x∈pre t 1,∀s,ok s->J s=none->∀o3 n3,fw nx (G s) o3 n3->nx<n3->o3 nx=L .ready none->∀K X,
  (∀e' o' n' st pd,n3<=n'->fw nx (G (step s x)) o' n'->o' nx=L st pd->(∀id,nx<id->id<n3->o' id=o3 id)->mi nx K X (Wk (J (step s x))) ⟨e',o',n'⟩)->
  kQ Tryz.prog n n3 true kG (tU Tryz.prog n n3 nx fV K X) ⟨qH (aY env) ps [.d x.1.d, .d (.i x.2)],o3,n3⟩)
 (mf:∀o' n',fw nx (G (aR (yC J step) s0 (pre t 1)).1) o' n'->rS Q (J (aR (yC J step) s0 (pre t 1)).1) ⟨e,o',n'⟩):
 vA Tryz.prog n bq false gq ps kG fV Q ⟨e,o,nx⟩ (.func (.func 172) [] [.ptr tb 0]):=by
 refine GK env he (fun L hL=> ?_)
 have L2:tb<nx:=hg.lt (by rw[ht];exact aa.noConfusion)
 let H:σ->Nat->aa:=fun s id=>if id<nx then G s id else if id=nx then(match J s with|none=>L .ready none|some j=>L .done (some j))else .no
 have tg:∀s id,id<nx->H s id=G s id:=fun s id h=>if_pos h
 have GN:∀s,J s=none->H s nx=L .ready none:=fun s h=>by show(if nx<nx then _ else _)=_;rw[if_neg (by omega),if_pos rfl,h]
 have Wl:∀s j,J s=some j->H s nx=L .done (some j):=fun s j h=>by show(if nx<nx then _ else _)=_;rw[if_neg (by omega),if_pos rfl,h]
 have zg:∀st pd m,nx<=m->(L st pd).refs.all (fun r=>decide (r<m))=true:=fun st pd m hm=>by
  exact Ub
 refine Oo (nx+1) nx H (yC J step) (fun s=>ok s/\J s=none) t hf hd (fun x hx s h1 h2=> ?_) (fun x hx s h1=> ?_) ad tb ad s0 ⟨pQ,hJ0⟩ (by rw[tg _ _ L2, <- h0 _ L2,ht]) _ _ ⟨?_,Nat.le_refl _,fun id ay=> ?_⟩ _ _ ?_
 ·have hj:J (step s x)=none:=by simpa[yC]using h2
  exact⟨a8 x hx s h1.1 h1.2 hj,hj⟩
 ·intro o3 n3 hI K X hK
  have hle:=hI.le
  have Qo:o3 nx=L .ready none:=by rw[hI.eq nx (by omega),GN s h1.2]
  refine xE hL mix Qo ad Gy (by simp[hl]) ?_
  refine wU L hL zg x hx s h1.1 h1.2 o3 n3 ⟨hI.cW,ad,fun id ay=>by rw[hI.eq id (by omega),tg _ _ ay]⟩ ad Qo K X (fun e' o' n' st pd k1 k2 k3 k4=> ?_)
  have key:∀st' pd' b,(J (step s x)).isNone=b->H (step s x) nx=L st' pd'->K (.d (.bool b)) (aw o' nx (L st' pd')) n':=fun st' pd' b hb hh=>by
   subst hb
   refine hK _ _ k1 ⟨k2.cW.aw ad (zg _ _ _ ad),ad,fun id ay=> ?_⟩ (fun id g1 g2=> ?_)
   ·by_cases yH:id=nx
    ·subst yH;rw[ab];exact hh.symm
    ·rw[af _ _ _ _ yH]
     show o' id=H (step s x) id
     rw[tg _ _ (by omega)];exact k2.eq id ad
   ·rw[af _ _ _ _ (by omega)];exact k4 id ad g2
  cases hj:J (step s x)with
  |none=>exact tV hL k3 (key _ _ _ zw (GN _ hj))
  |some j=>
   cases j with
   |ret=>exact xF hL k3 (key _ _ _ zw (Wl _ _ hj))
   |exit j=>exact uV hL k3 (key _ _ _ zw (Wl _ _ hj))
 ·exact(hg.mono ad).aw ad (zg _ _ _ ad)
 ·by_cases yH:id=nx
  ·subst yH;rw[ab,GN _ hJ0]
  ·exact TP
 ·intro o' n' k1 k2 k3
  have hle:=k2.le
  generalize hsf:(aR (yC J step) s0 (pre t 1)).1=sf at*
  have kk:∀st pd,fw nx (G sf) (aw o' nx (L st pd)) n':=fun st pd=>⟨k2.cW.aw ad (zg _ _ _ ad),ad,fun id ay=>by rw[af _ _ _ _ (by omega),k2.eq id (by omega),tg _ _ ay]⟩
  cases hj:J sf with
  |none=>
   refine⟨.ready,none,by rw[k2.eq nx (by omega),GN _ hj],(fun h=>by cases h), ?_⟩
   have:=mf _ _ (kk .exhausted none)
   rwa [hj]at this
  |some j=>
   refine⟨.done,some j,by rw[k2.eq nx (by omega),Wl _ _ hj],(fun h=>by cases h), ?_⟩
   have:=mf _ _ (kk .exhausted (some j))
   rwa [hj]at this
theorem iz(n low high:Int):a7 Tryz.prog 146 [.i n, .i low, .i high] (.ret [.bool (eS n low high)]):=by
 refine a7.aH mix VQ aF ?_
 rw[Zb]
 refine cZ ?_
 rfl
theorem GO(s:az)(t:Tm)(h:t.op=1):a7 Tryz.prog 194 [s.d,t.d] (.ret [.bool (bG s t)]):=by
 have hn:bG s t=(eS t.n 0 19&&(t.kids.length:Int)==0):=by simp[bG,h,Bool.and_comm]
 refine a7.aH mix Wa aF ?_
 rw[Zv]
 exact Xl
theorem Lj(s:az)(t:Tm)(h:t.op=2):a7 Tryz.prog 195 [s.d,t.d] (.ret [.bool (bG s t)]):=by
 have hn:bG s t=(eS t.n (-1000000) 1000000&&(t.kids.length:Int)==0):=by simp[bG,h,Bool.and_comm]
 refine a7.aH mix Wb aF ?_
 rw[Zw]
 exact Xl
theorem ae5(s:az)(t:Tm)(h:t.op=8):a7 Tryz.prog 199 [s.d,t.d] (.ret [.bool (bG s t)]):=by
 have hn:bG s t=(eS t.n 0 19&&(t.kids.length:Int)==2):=by simp[bG,h,Bool.and_comm]
 refine a7.aH mix Wf aF ?_
 rw[ZA]
 exact Xl
theorem ZK(s:az)(t:Tm)(h:t.op=6\/t.op=7\/t.op=9\/t.op=10\/t.op=11\/t.op=12\/t.op=13\/t.op=14\/t.op=15):a7 Tryz.prog 200 [s.d,t.d] (.ret [.bool (bG s t)]):=by
 have hn:bG s t=(t.n==0&&(t.kids.length:Int)==2):=by
  rcases h with h|h|h|h|h|h|h|h|h<;>simp[bG,h,eS,Bool.and_comm]
 refine a7.aH mix Wg aF ?_
 rw[ZB]
 refine cZ ?_
 rw[hn]
theorem ae6(s:az)(t:Tm)(hs:s.Fits)(h:t.op=3):a7 Tryz.prog 196 [s.d,t.d] (.ret [.bool (bG s t)]):=by
 have hn:bG s t=(eS t.n 0 (s.cons.length - 1)&&(t.kids.length:Int)==kS s.cons t.n):=by simp[bG,h]
 refine a7.aH mix Wc aF ?_
 rw[Zx]
 refine cZ ?_
 rw[wrap64 (by have:=hs.lc;omega) (by have:=hs.lc;omega)]
 refine bf (iz _ _ _) rfl ?_
 cases hI:eS t.n 0 (s.cons.length - 1)with
 |false=>
  exact Xi
 |true=>
  exact Xd
theorem ae7(s:az)(t:Tm)(hs:s.Fits)(h:t.op=4):a7 Tryz.prog 197 [s.d,t.d] (.ret [.bool (bG s t)]):=by
 have hn:bG s t=(eS t.n 0 (s.ct.length - 1)&&(t.kids.length:Int)==kS s.ct t.n):=by simp[bG,h]
 refine a7.aH mix Wd aF ?_
 rw[Zy]
 refine cZ ?_
 rw[wrap64 (by have:=hs.lf;omega) (by have:=hs.lf;omega)]
 refine bf (iz _ _ _) rfl ?_
 cases hI:eS t.n 0 (s.ct.length - 1)with
 |false=>
  exact Xi
 |true=>
  exact Xd
theorem ZL(s:az)(t:Tm)(hs:s.Fits)(h:t.op=5):a7 Tryz.prog 198 [s.d,t.d] (.ret [.bool (bG s t)]):=by
 have hn:bG s t=(eS t.n 0 (s.ct.length - 1)&&decide ((t.kids.length:Int)<kS s.ct t.n)):=by simp[bG,h]
 refine a7.aH mix We aF ?_
 rw[Zz]
 refine cZ ?_
 rw[wrap64 (by have:=hs.lf;omega) (by have:=hs.lf;omega)]
 refine bf (iz _ _ _) rfl ?_
 cases hI:eS t.n 0 (s.ct.length - 1)with
 |false=>
  exact Xi
 |true=>
  exact Xd
@[reducible] def rf (n:Nat):V:= .func (.func n) [] []
@[reducible] def ahO:List V:=[.d .cJ,rf 194,rf 195,rf 196,rf 197,rf 198, .d .cJ, .d .cJ,rf 199, .d .cJ, .d .cJ, .d .cJ, .d .cJ, .d .cJ, .d .cJ, .d .cJ]
@[reducible] def GP:List V:=[.d .cJ,rf 194,rf 195,rf 196,rf 197,rf 198,rf 200,rf 200,rf 199,rf 200,rf 200,rf 200,rf 200,rf 200,rf 200,rf 200]
def Mc(k:Nat):List V:=GP.take k++ahO.drop k
theorem funcOf{P:Program}{t:TypeId}(h:(match P.underlying t with|some (.func _ _ _)=>true|_=>false)=true):∃a b c,P.underlying t=some (.func a b c):=by
 split at h
 ·exact⟨_,_,_,by assumption⟩
 ·cases h
@[go_sem] theorem ahP (o:Nat->aa) (pO:Bool):th Tryz.prog o 209 pO (.d .cJ) (.d .cJ)=some (.d (.bool true)):=by
  exact Uj
@[go_sem] theorem ahQ (o:Nat->aa) (pO:Bool) (f:Fn) (x y:List V):th Tryz.prog o 209 pO (.func f x y) (.d .cJ)=some (.d (.bool false)):=by
  exact Uj
theorem R5(base:Nat)(h:Nat->aa):Au Tryz.prog 187 [] base h h (.agg GP):=by
 intro o nx hI K X hK
 have hle:=hI.le
 refine bJ.aH mix V9 aF ?_
 rw[Zu]
 simp+contextual only[go_sem,Nat.add_assoc,Nat.left_eq_add,Nat.add_eq_left,Nat.add_left_cancel_iff]
 refine aC (fun k:Nat=>⟨aY [.ptr nx 0, .ptr (nx+2) 0, .ai, .ai, .d (.i k)],aw (aw o nx (.row (List.replicate 16 (.d .cJ)))) (nx+2) (.row (Mc k)),nx+5⟩)
  (fun k=>k<=16) (fun k=>16 - k) 0 (Nat.zero_le _) ?_ (fun k hk=> ?_)
 ·refine bM.bQ _ ad ad ?_ (fun id ay=> ?_) ?_
  ·exact((hI.cW.mono ad).aw ad rfl).aw ad rfl
  ·rw[vU];rfl
  ·exact dU
 have hg:∀k,k<16->Good (aw (aw o nx (.row (List.replicate 16 (.d .cJ)))) (nx+2) (.row (Mc (k+1)))) (nx+5):=fun k hk=>
  ((hI.cW.mono ad).aw ad rfl).aw ad (by
    rcases(by omega:k=0\/k=1\/k=2\/k=3\/k=4\/k=5\/k=6\/k=7\/k=8\/k=9\/k=10\/k=11\/k=12\/k=13\/k=14\/k=15)with rfl|rfl|rfl|rfl|rfl|rfl|rfl|rfl|rfl|rfl|rfl|rfl|rfl|rfl|rfl|rfl<;>rfl)
 by_cases ahR:k=16
 ·subst ahR
  refine aby ?_
  refine hK _ _ ?_ ⟨?_, ?_,fun id ay=> ?_⟩ (fun id h1 h2=> ?_)
  rotate_left
  ·exact(((hI.cW.mono ad).aw ad rfl).aw ad rfl).aw ad rfl
  ·omega
  ·(repeat first|rfl|rw[ab]|rw[af _ _ _ _ (by omega)])
   exact hI.eq id ay
  ·exact bp
  ·omega
 ·have hgk:=hg k ad
  obtain⟨k1,Qj⟩:∃k1,k1=k+1:=⟨_,rfl⟩
  rw[<- Qj]at hgk
  rcases(by omega:k=0\/k=1\/k=2\/k=3\/k=4\/k=5\/k=6\/k=7\/k=8\/k=9\/k=10\/k=11\/k=12\/k=13\/k=14\/k=15)with rfl|rfl|rfl|rfl|rfl|rfl|rfl|rfl|rfl|rfl|rfl|rfl|rfl|rfl|rfl|rfl
  all_goals
   refine aby ?_
   refine aj k1 ad ad (bM.bQ _ ad ad hgk (fun id ay=> ?_) ?_)
   all_goals subst Qj
   ·first|rfl|(rw[vU];rfl)
   ·exact dU
def Oq(n:Int):Nat:=if n=1 then 194 else if n=2 then 195 else if n=3 then 196 else if n=4 then 197 else if n=5 then 198 else if n=8 then 199 else 200
theorem ZM(s:az)(t:Tm)(hs:s.Fits)(h:eS t.op 1 15=true):a7 Tryz.prog (Oq t.op) [s.d,t.d] (.ret [.bool (bG s t)])/\GP[t.op.toNat]? =some (rf (Oq t.op))/\0<=t.op/\t.op<16:=by
 simp[eS]at h
 rcases(by omega:t.op=1\/t.op=2\/t.op=3\/t.op=4\/t.op=5\/t.op=8\/(t.op=6\/t.op=7\/t.op=9\/t.op=10\/t.op=11\/t.op=12\/t.op=13\/t.op=14\/t.op=15))with h|h|h|h|h|h|h
 ·exact⟨by rw[h];exact GO s t h,by rw[h];rfl,ad,ad⟩
 ·exact⟨by rw[h];exact Lj s t h,by rw[h];rfl,ad,ad⟩
 ·exact⟨by rw[h];exact ae6 s t hs h,by rw[h];rfl,ad,ad⟩
 ·exact⟨by rw[h];exact ae7 s t hs h,by rw[h];rfl,ad,ad⟩
 ·exact⟨by rw[h];exact ZL s t hs h,by rw[h];rfl,ad,ad⟩
 ·exact⟨by rw[h];exact ae5 s t h,by rw[h];rfl,ad,ad⟩
 ·have hp:=ZK s t h
  rcases h with h|h|h|h|h|h|h|h|h<;>exact⟨by rw[h];exact hp,by rw[h];rfl,ad,ad⟩
def pS(s:az)(n:Int)(x:Tm×Int):Bool:=decide (40<n+1)||decide (12<x.2)|| !eS x.1.op 1 15|| !bG s x.1
def iM(s:az)(n:Int×Bool)(x:Tm×Int):Int×Bool:=(n.1+1, !pS s n.1 x)
def fJ(n:Int×Bool):Option lh:=if n.2=true then none else some .ret
def nz(s:az)(t:Tm):Bool:=(aR (yC fJ (iM s)) (0,true) (pre t 1)).2
theorem Ot(s:az)(hs:s.Fits)(t:Tm)(hf:t.fits)(hd:t.lL<=900000):a7 Tryz.prog 171 [s.d,t.d] (.ret [.bool (nz s t)]):=by
 refine a7.aH mix V4 aF ?_
 rw[Zp]
 refine cZ ?_
 refine bI (R5 3 _ _ _ (?_:fw 3 (aw (aw (aw (fun _=> .no) 0 (.row s.row)) 1 (.row t.row)) 2 (.row [.d (.bool false)])) _ 3) _ _ fun o2 n2 m1 m2 m3=> ?_)
 ·exact⟨dx,Nat.le_refl _,fun _ _=>rfl⟩
 have p0:o2 0= .row s.row:=m2.eq 0 ad
 have p1:o2 1= .row t.row:=m2.eq 1 ad
 have p2:o2 2= .row [.d (.bool false)]:=m2.eq 2 ad
 have e0:0≠n2:=ad
 have e1:1≠n2:=ad
 have e2:2≠n2:=ad
 have e3:∀k,0≠n2+k:=fun k=>ad
 have e4:∀k,1≠n2+k:=fun k=>ad
 have e5:∀k,2≠n2+k:=fun k=>ad
 refine Fz (ae p0 (ae p1 (ae p2 (ae e0 (ae e1 (ae e2 (ae e3 (ae e4 e5)))))))) ?_
 refine bI (xJ t _ _ _ _ ?_)
 refine cZ ?_
 have hG0:∀n,Good (aw (aw (aw (aw (aw (aw o2 n2 (.row (List.replicate 16 (.d .cJ)))) (n2+1) (.row [.d (.i 0)])) n2 (.row GP)) (n2+1) (.row [.d (.i 0)])) (n2+5) (.row t.row)) (n2+1) (.row [.d (.i n)])) (n2+9):=fun n=>by
  have hg:=m2.cW
  exact dx
 refine oR t hf hd [.ai, .ai, .ptr 0 0, .ai, .ptr 2 0, .ptr n2 0, .ptr (n2+1) 0] ?_ bF rfl ?_ HH (ab _ _ _)
  (fun s=>aw (aw (aw (aw (aw (aw o2 n2 (.row (List.replicate 16 (.d .cJ)))) (n2+1) (.row [.d (.i 0)])) n2 (.row GP)) (n2+1) (.row [.d (.i 0)])) (n2+5) (.row t.row)) (n2+1) (.row [.d (.i s.1)]))
  fJ (iM s) (fun s=>0<=s.1/\s.1<=40) (0,true) ⟨bF,bF⟩ rfl ?_ ?_ ?_ ?_
 ·exact Me
 ·have hg:=m2.cW
  exact dx
 ·intro id ay
  by_cases h:id=n2+1
  ·exact Tz
  ·rw[af _ _ _ _ h];rfl
 ·intro x hx s' h1 h2 h3
  have:pS s s'.1 x=false:=by simpa[fJ,iM]using h3
  simp[pS]at this
  simp only[iM]
  omega
 ·intro L hL zg x hx s' h1 h2 o3 n3 hI hn ho K X eZ
  simp only[qH]
  have hg:=hI.cW
  have q0:o3 0= .row s.row:=by
   rw[hI.eq 0 (by omega)];(repeat first|rfl|rw[ab]|rw[af _ _ _ _ (by omega)])
   exact p0
  have q2:o3 2= .row [.d (.bool false)]:=by
   exact T0
  have q3:o3 n2= .row GP:=by rw[hI.eq n2 (by omega)];(repeat first|rfl|rw[ab]|rw[af _ _ _ _ (by omega)])
  have q4:o3 (n2+1)= .row [.d (.i s'.1)]:=by rw[hI.eq (n2+1) (by omega)];(repeat first|rfl|rw[ab]|rw[af _ _ _ _ (by omega)])
  have fin:∀ (o':Nat->aa) (n':Nat),(∀id,id<n2+5+4->o' id=aw o3 (n2+1) (.row [.d (.i (s'.1+1))]) id)->Good o' n'->n3<=n'->fw (n2+5+4) (aw (aw (aw (aw (aw (aw o2 n2 (.row (List.replicate 16 (.d .cJ)))) (n2+1) (.row [.d (.i 0)])) n2 (.row GP)) (n2+1) (.row [.d (.i 0)])) (n2+5) (.row t.row)) (n2+1) (.row [.d (.i (iM s s' x).1)])) o' n':=by
   intro o' n' k1 k2 k3
   refine⟨k2,ad,fun id ay=> ?_⟩
   rw[k1 id ay]
   by_cases h:id=n2+1
   ·subst h;rw[ab,ab];rfl
   ·rw[af _ _ _ _ h,af _ _ _ _ h,hI.eq id ay,af _ _ _ _ h]
  refine cZ ?_
  refine oO hL (pd:=none) ?_ ?_
  ·(repeat first|rfl|rw[ab]|rw[af _ _ _ _ (by omega)])
   exact ho
  cases c1:decide (40<s'.1+1)with
  |true=>
   have hJ:fJ (iM s s' x)=some .ret:=by simp[fJ,iM,pS,c1]
   rw[hJ]at eZ
   refine gC (ae q0 (ae q2 (ae q3 (ae q4 c1)))) ?_
   exact W9
  |false=>
  cases c2:decide (12<x.2)with
  |true=>
   have hJ:fJ (iM s s' x)=some .ret:=by simp[fJ,iM,pS,c2]
   rw[hJ]at eZ
   refine gC (ae q0 (ae q2 (ae q3 (ae q4 (ae c1 c2))))) ?_
   exact W9
  |false=>
  cases c3:eS x.1.op 1 15 with
  |false=>
   have hJ:fJ (iM s s' x)=some .ret:=by simp[fJ,iM,pS,c3]
   rw[hJ]at eZ
   refine gC (ae q0 (ae q2 (ae q3 (ae q4 (ae c1 c2))))) ?_
   refine bf (iz _ _ _) rfl ?_
   refine gC (ae q0 (ae q2 (ae q3 (ae q4 (ae c1 (ae c2 c3)))))) ?_
   exact W9
  |true=>
  obtain⟨r1,r2,r3,r4⟩:=ZM s x.1 hs c3
  refine gC (ae q0 (ae q2 (ae q3 (ae q4 (ae c1 c2))))) ?_
  refine bf (iz _ _ _) rfl ?_
  simp+contextual (disch:=first|omega|simp only[go_sem,false_implies]) only[go_sem,wrap64,if_pos,q0,q2,q3,q4,c1,c2,c3,r2,r3,r4,Nat.mul_one]
  refine bf r1 rfl ?_
  refine gC (ae q0 (ae q2 (ae q3 (ae q4 (ae c1 (ae c2 c3)))))) ?_
  refine aL (bN rfl) ?_
  cases c4:bG s x.1 with
  |false=>
   have hJ:fJ (iM s s' x)=some .ret:=by simp[fJ,iM,pS,c4]
   rw[hJ]at eZ
   refine gC (ae q2 c4) ?_
   refine eZ _ _ _ .busy none ad (fin _ _ (fun id ay=>WW) dx ad) bp (fun id h3 h4=>bp)
  |true=>
   have hJ:fJ (iM s s' x)=none:=by simp[fJ,iM,pS,c1,c2,c3,c4]
   rw[hJ]at eZ
   refine gC c4 ?_
   refine eZ _ _ _ .busy none ad (fin _ _ (fun id ay=>WW) dx ad) bp (fun id h3 h4=>bp)
 ·intro o' n' hI
  have q2:o' 2= .row [.d (.bool false)]:=by
   exact T0
  rw[show nz s t=(fJ (aR (yC fJ (iM s)) (0,true) (pre t 1)).1).isNone from BW _ _ _ _ rfl]
  generalize (aR (yC fJ (iM s)) (0,true) (pre t 1)).1=sf at*
  cases hj:fJ sf with
  |none=>
   simp only[rS]
   refine gC q2 ?_
   rfl
  |some j=>
   have:j= .ret:=by
    unfold fJ at hj;split at hj
    ·cases hj
    ·injection hj with hj;exact hj.symm
   subst this
   simp only[rS]
   refine gC q2 ?_
   rfl
section
def enc{κ:Type}(kf:κ->D)(m:List (κ×D)):List (D×D):=m.map fun p=>(kf p.1,p.2)
def j6{κ:Type}[BEq κ](k:κ):List (κ×D)->Nat->Option (Nat×D)
 |[],_=>none
 |p::m,i=>if(k==p.1)=true then some (i,p.2)else j6 k m (i+1)
def Lk{κ:Type}[BEq κ](k:κ)(x:D)(m:List (κ×D)):List (κ×D):=match j6 k m 0 with|some (i,_)=>m.set i (k,x)|none=>m++[(k,x)]
def ae8{κ:Type}[BEq κ](k:κ)(m:List (κ×D)):List (κ×D):=match j6 k m 0 with|some (i,_)=>m.eraseIdx i|none=>m
def yY(d:D)(r:Option (Nat×D)):Option (Nat×D×D):=match r with|some (i,x)=>some (i,d,x)|none=>none
@[go_sem] theorem abm (d:D) (i:Nat) (x:D):yY d (some (i,x))=some (i,d,x):=rfl
@[go_sem] theorem abn (d:D):yY d none=none:=rfl
section
variable {P:Program}{kt:TypeId}
theorem R6(h:b8 P kt=some .int)(a b:Int):rh P 100 kt (.int .i64 a) (.int .i64 b)=some (a==b):=by simp[rh,h]
theorem R7(h:b8 P kt=some .str)(a b:List UInt8):rh P 100 kt (.str a) (.str b)=some (a==b):=by simp[rh,h]
@[go_sem] theorem I3 (h:b8 P kt=some .int) (a:Int):pP P 100 kt (.int .i64 a)=true:=by simp[pP,h]
@[go_sem] theorem af1 (h:b8 P kt=some .str) (a:List UInt8):pP P 100 kt (.str a)=true:=by simp[pP,h]
theorem xK{κ:Type}[BEq κ][LawfulBEq κ](kf:κ->D)(he:∀a b,rh P 100 kt (kf a) (kf b)=some (a==b))(k:κ):∀ (m:List (κ×D)) (i:Nat),findD P kt (kf k) (enc kf m) i=some (yY (kf k) (j6 k m i))
 |[],_=>rfl
 |p::m,i=>by
  have ih:=xK kf he k m (i+1)
  simp only[enc,List.map_cons,findD,he,j6]at ih|-
  by_cases h:k=p.1
  ·subst h;simp[yY]
  ·have:(k==p.1)=false:=by simpa using h
   simp only[this,Bool.false_eq_true,if_false];exact ih
@[go_sem] theorem Er (h:b8 P kt=some .int) (k:Int) (m:List (Int×D)):findD P kt (.int .i64 k) (enc (.int .i64) m) 0=some (yY (.int .i64 k) (j6 k m 0)):=xK (.int .i64) (R6 h) k m 0
@[go_sem] theorem ae9 (h:b8 P kt=some .str) (k:List UInt8) (m:List (List UInt8×D)):findD P kt (.str k) (enc .str m) 0=some (yY (.str k) (j6 k m 0)):=xK .str (R7 h) k m 0
end
section
variable {κ:Type}(kf:κ->D)
theorem Ou(m:List (κ×D))(k:κ)(x:D):enc kf m++[(kf k,x)]=enc kf (m++[(k,x)]):=by simp[enc]
theorem I4(m:List (κ×D))(i:Nat)(k:κ)(x:D):(enc kf m).set i (kf k,x)=enc kf (m.set i (k,x)):=by simp[enc,List.map_set]
theorem Av:∀ (m:List (κ×D)) (i:Nat),(enc kf m).eraseIdx i=enc kf (m.eraseIdx i)
 |[],i=>rfl
 |p::m,0=>rfl
 |p::m,i+1=>by
  have:=Av m i
  simp only[enc,List.map_cons,List.eraseIdx_cons_succ]at this|-
  rw[this]
theorem R8(m:List (κ×D)):(((enc kf m).map (·.1)).zip ((enc kf m).map (·.2)))=enc kf m:=by
 induction m with
 |nil=>rfl
 |cons p m ih=>simp only[enc,List.map_cons,List.zip_cons_cons]at ih|-;rw[ih]
theorem Ll{K:V->List (Nat×aa)->Prop}{id:Nat}{m:List (κ×D)}(h0:m=[]->K (.cf [.d (.bool false)]) [])
 (h1:∀ (i:Nat) k x,m[i]? =some (k,x)->K (.cf [.d (.bool true), .d (kf k), .d x]) [(id, .s8 (enc kf (m.eraseIdx i)) (some (kf k,x)))]):Iy K id (enc kf m):=by
 refine⟨fun h=>h0 ?_,fun i k x h=> ?_⟩
 ·cases m with
  |nil=>rfl
  |cons p m=>simp[enc]at h
 ·simp only[enc,List.getElem?_map]at h
  cases hm:m[i]? with
  |none=>rw[hm]at h;cases h
  |some p=>
   rw[hm]at h
   simp at h
   obtain⟨rfl,rfl⟩:=h
   have:=h1 i p.1 p.2 (by rw[hm])
   rwa [<- Av]at this
end
theorem Es{κ:Type}[BEq κ][LawfulBEq κ]{k:κ}:∀ {m:List (κ×D)} {i j:Nat} {x:D},j6 k m i=some (j,x)->i<=j/\m[j - i]? =some (k,x)
 |[],_,_,_,h=>by cases h
 |p::m,i,j,x,h=>by
  simp only[j6]at h
  split at h
  ·rename_i hk
   injection h with h;injection h with h1 h2
   subst h1;subst h2
   exact⟨Nat.le_refl _,by simp[(by simpa using hk:k=p.1)]⟩
  ·obtain⟨h1,h2⟩:=Es h
   refine⟨ad, ?_⟩
   rw[show j - i=(j - (i+1))+1 by omega]
   simpa using h2
theorem Aw{κ:Type}[BEq κ][LawfulBEq κ]{k:κ}:∀ {m:List (κ×D)} {i:Nat},j6 k m i=none↔∀p∈m,p.1≠k
 |[],_=>by simp[j6]
 |p::m,i=>by
  simp only[j6]
  split
  ·rename_i hk
   simp[(by simpa using hk:k=p.1)]
  ·rename_i hk
   rw[Aw]
   have:p.1≠k:=fun e=>hk (by simp[e])
   simp[this]
def su(P:Program)(o:Nat->aa)(t:TypeId)(m k v:V):Option gS:=
 match tw P t,ef o k,ef o v,p9 o m with
 |some (kt,_),some kd,some vd,some (some (id,H3,H4),l)=>if k.ids=[]/\pP P 100 kt kd=true/\l6 kd=true/\v.ids.all (· !=id)=true then match findD P kt kd l 0 with
  |some (some (i,k',_))=>if k'.same kd=true then some (.cf [],bK o v.ids++[(id, .map H3 H4 (l.set i (kd,vd)))],id::v.ids)else none
  |some none=>some (.cf [],bK o v.ids++[(id, .map H3 H4 (l++[(kd,vd)]))],id::v.ids)
  |none=>none
  else none
 |_,_,_,_=>none
@[go_sem low] theorem Ax (P:Program) (o:Nat->aa) (t:TypeId) (m v:V) (k:D):gN P o t m (.d k) v=su P o t m (.d k) v:=by unfold gN su;rfl
def xL(P:Program)(o:Nat->aa)(t:TypeId)(m k:V)(ok:Bool):Option gS:=
 match tw P t,ef o k,rz o m with
 |some (kt,vt),some kd,some (rd,l)=>if k.ids=[]/\pP P 100 kt kd=true then match findD P kt kd l 0 with
  |some (some (_,_,x))=>some (if ok=true then .cf [.d x, .d (.bool true)]else .d x,[],rd)
  |some none=>match zeroV P vt with
   |some z=>some (if ok=true then .cf [z, .d (.bool false)]else z,[],rd)
   |none=>none
  |none=>none
  else none
 |_,_,_=>none
@[go_sem low] theorem px (P:Program) (o:Nat->aa) (t:TypeId) (m:V) (k:D) (ok:Bool):jZ P o t m (.d k) ok=xL P o t m (.d k) ok:=by unfold jZ xL;rfl
attribute [go_sem] xL su pb nX nY qa qb nZ rz p9 ago p8 l6 D.same
end
theorem dec_lt{l:List UInt8}{i:Nat}{b:UInt8}(hb:l[i]? =some b)(h:b.toNat<128):Utf8.decode ⟨⟨l⟩⟩ i=(b.toNat,1):=by
 have e:(ByteArray.mk ⟨l⟩).get! i=b:=by
  show(Array.mk l)[i]! =b
  simp[hb]
 simp only[Utf8.decode,Nat.add_zero,e]
 rw[if_pos h]
theorem ZN{l:List UInt8}{i:Nat}{b:UInt8}(hb:l[i]? =some b)(h:128<=b.toNat):128<=(Utf8.decode ⟨⟨l⟩⟩ i).1:=by
 have e:(ByteArray.mk ⟨l⟩).get! i=b:=by
  show(Array.mk l)[i]! =b
  simp[hb]
 simp only[Utf8.decode,Nat.add_zero,e]
 rw[if_neg (by omega)]
 split
 ·split<;>simp_all[Utf8.runeError]
 ·split
  ·split
   ·rename_i h3;simp at h3;omega
   ·simp[Utf8.runeError]
  ·split
   ·split
    ·rename_i h3;simp at h3;omega
    ·simp[Utf8.runeError]
   ·simp[Utf8.runeError]
def R9(r:Int):Bool:=decide (97<=r)&&decide (r<=122)||decide (65<=r)&&decide (r<=90)
theorem Ov(b:UInt8):R9 b.toNat=letterF b:=by
 rw[Bool.eq_iff_iff]
 simp[R9,letterF]
theorem Lm(s:List UInt8)(hs:s.length<=9223372036854775807):a7 Tryz.prog 145 [.str s] (.ret [.bool (kR s)]):=by
 refine a7.aH mix VP aF ?_
 rw[Za]
 refine gB ?_
 refine aC (fun k:Nat=>⟨aY [.d (.str s), .ai, .ai, .ai, .ai, .ai, .ptr 2 0],aw (fun _=> .no) 2 (.A4 s k),3⟩)
  (fun k=>k<=s.length/\(s.take k).all letterF=true) (fun k=>s.length - k) 0 ⟨Nat.zero_le _,aF⟩ (bM.bQ _ ad ad (Good.nil.aw ad rfl) (fun _ _=>rfl) ?_) (fun k hk=> ?_)
 ·exact dU
 by_cases h2:k<s.length
 ·obtain⟨b,hb⟩:=aA h2
  by_cases h3:b.toNat<128
  ·refine c9 (ae h2 (dec_lt hb h3)) ?_
   have hr:=Ov b
   simp only[R9]at hr
   rw[hr]
   cases hl:letterF b with
   |true=>
    refine cS ?_
    refine aj (k+1) ⟨h2,oP hb hk.2 hl⟩ ad (bM.bQ _ ad ad (Good.nil.aw ad rfl) (fun _ _=>by rw[vU]) ?_)
    exact dU
   |false=>
    refine cS ?_
    simp[kR,mI hb hl]
  ·have hr:letterF b=false:=by
    rw[<- Ov];simp[R9];omega
   have hd:=ZN hb ad
   refine c9 h2 ?_
   have:(decide (97<=((Utf8.decode ⟨⟨s⟩⟩ k).1:Int))&&decide (((Utf8.decode ⟨⟨s⟩⟩ k).1:Int)<=122)||decide (65<=((Utf8.decode ⟨⟨s⟩⟩ k).1:Int))&&decide (((Utf8.decode ⟨⟨s⟩⟩ k).1:Int)<=90))=false:=by
    rw[Bool.eq_false_iff];intro h;simp at h;omega
   rw[this]
   refine cS ?_
   simp[kR,mI hb hr]
 ·refine c9 h2 ?_
  refine ax (iz _ _ _) rfl ?_
  refine cS ?_
  rw[kR,oQ hk.2 (by omega),Bool.true_and]
theorem Et{σ:Type}(l:List fj)(hl:l.length<=9223372036854775807)(g:Nat)(bW:List V)(base:Nat)(H:σ->Nat->aa)(step:σ->fj->σ×Bool)(hc:∀r∈V.aN bW,r<base)(ok:σ->Prop)(a8:∀x∈l,∀s,ok s->(step s x).2=true->ok (step s x).1)
 (h:∀x∈l,∀s,ok s->Au Tryz.prog g (.d x.d::bW) base (H s) (H (step s x).1) (.d (.bool (step s x).2))) (s:σ) (pQ:ok s):
 Au Tryz.prog 147 [.d (.sl (l.map fj.d)), .func (.func g) [] bW] base (H s) (H (aR step s l).1) (.d (.bool (aR step s l).2)):=by
 intro o nx hI K X hK
 have dR:∀r∈V.aN bW,r<nx:=fun r hr=>Nat.lt_of_lt_of_le (hc r hr) hI.le
 refine bJ.aH mix VR aF ?_
 rw[Zc]
 refine cZ ?_
 refine aC (fun i:Nat×σ×(Nat->aa)×Nat=>⟨aY [.ai, .func (.func g) [] bW, .ai, .ai, .ai, .ai, .ai, .d (.sl (l.map fj.d)), .d (.i l.length), .d (.i i.1)],i.2.2.1,i.2.2.2⟩)
  (fun i=>i.1<=l.length/\fw base (H i.2.1) i.2.2.1 i.2.2.2/\nx<=i.2.2.2/\(∀id,base<=id->id<nx->i.2.2.1 id=o id)/\aR step s l=aR step i.2.1 (l.drop i.1)/\ok i.2.1) (fun i=>l.length - i.1) (0,s,o,nx)
  ⟨Nat.zero_le _,hI,Nat.le_refl _,fun _ _ _=>rfl,rfl,pQ⟩ ?_ ?_
 ·exact Xk
 rintro⟨k,s',o',nx'⟩ ⟨hk,Qb,hn,dn,hf,xH⟩
 simp only at hk Qb hn dn hf xH
 refine cZ ?_
 refine ak (fun h1=> ?_) (fun h1=> ?_)
 ·simp at h1
  obtain⟨x,hx⟩:=aA h1
  have cj:=List.mem_of_getElem? hx
  have hd:l.drop k=x::l.drop (k+1):=by
   exact Xf
  refine Fz hx ?_
  have Xz:=Qb.le
  refine ij (h x cj s' xH _ _ (?_:fw base (H s') _ (nx'+7)) _ _ fun o2 n2 m1 m2 m3=> ?_)
  ·exact abR
  have On:∀id,base<=id->id<nx->o2 id=o id:=fun id h2 h3=>by
   exact ab5
  refine cZ ?_
  refine ak (fun h2=> ?_) (fun h2=> ?_)
  ·refine cZ ?_
   simp at h2
   have:aR step s l=((step s' x).1,false):=by rw[hf,hd,aR,if_neg (by rw[h2];exact Bool.false_ne_true)]
   rw[this]at hK
   exact hK _ _ ad (m2.mono ad) On
  ·refine cZ ?_
   simp at h2
   have:aR step s l=aR step (step s' x).1 (l.drop (k+1)):=by rw[hf,hd,aR,if_pos h2]
   refine aj (k+1,(step s' x).1,o2,n2) ⟨h1,m2,by dsimp only;omega,On,this,a8 x cj s' xH h2⟩ iT ?_
   dsimp only
   have Wj:∀r∈V.aN bW,r<n2:=fun r hr=>by have:=dR r hr;omega
   refine bM.bQ _ ad ad m2.cW (fun _ _=>rfl) ?_
   exact dU
 ·exact acH
def qP(l:List (List UInt8)):List (List UInt8×D):=l.map fun s=>(s, .bool true)
theorem Ln(l:List (List UInt8))(s:List UInt8):qP l++[(s, .bool true)]=qP (l++[s]):=by simp[qP]
theorem Lo{l:List (List UInt8)}{s:List UInt8}{i:Nat}{x:D}(h:j6 s (qP l) 0=some (i,x)):x= .bool true/\(qP l).set i (s, .bool true)=qP l/\l.any (· ==s)=true:=by
 obtain⟨_,h2⟩:=Es h
 rw[Nat.sub_zero]at h2
 simp only[qP,List.getElem?_map]at h2
 cases hl:l[i]? with
 |none=>rw[hl]at h2;cases h2
 |some y=>
  rw[hl]at h2
  simp at h2
  obtain⟨rfl,rfl⟩:=h2
  refine⟨rfl, ?_, ?_⟩
  ·apply List.ext_getElem?
   intro j
   rw[List.getElem?_set]
   split
   ·rename_i e;subst e
    obtain⟨cD,hy⟩:=List.getElem?_eq_some_iff.1 hl
    simp[qP,cD,hy]
   ·rfl
  ·exact List.any_eq_true.2 ⟨y,List.mem_of_getElem? hl,aF⟩
theorem Lp{l:List (List UInt8)}{s:List UInt8}(h:j6 s (qP l) 0=none):l.any (· ==s)=false:=by
 rw[Aw]at h
 rw[List.any_eq_false]
 intro x hx hs
 have:=h (x, .bool true) (by simp[qP];exact hx)
 simp at hs;exact this hs
def Sa(bs:List (List UInt8))(x:fj):Bool:= !bs.any (· ==x.name)&&kR x.name&&eS x.args 0 4
def jo(bs:List (List UInt8))(x:fj):List (List UInt8)×Bool:=(if bs.any (· ==x.name)=true then bs else bs++[x.name],Sa bs x)
theorem ZO(x:fj)(hx:x.name.length<=9223372036854775807)(base mp id:Nat)(h:Nat->aa)(hmp:h mp= .row [.mp id])(h1:mp<base)(h2:id<base)(h3:id≠mp)(bs:List (List UInt8)):
 Au Tryz.prog 144 [.d x.d, .ptr mp 0] base (aw h id (.map 9 4 (enc .str (qP bs)))) (aw h id (.map 9 4 (enc .str (qP (jo bs x).1)))) (.d (.bool (jo bs x).2)):=by
 intro o nx hI K X hK
 have hle:=hI.le
 have hg:=hI.cW
 have q0:o mp= .row [.mp id]:=by rw[hI.eq mp h1,af _ _ _ _ (by omega),hmp]
 have q1:o id= .map 9 4 (enc .str (qP bs)):=by rw[hI.eq id h2,ab]
 refine bJ.aH mix VO aF ?_
 rw[Y9]
 cases ha:j6 x.name (qP bs) 0 with
 |none=>
  have hn:=Lp ha
  have hs:jo bs x=(bs++[x.name],kR x.name&&eS x.args 0 4):=by simp[jo,Sa,hn]
  rw[hs]at hK
  refine gC (ae q0 (ae q1 ha)) ?_
  refine ax (Lm _ hx) rfl ?_
  refine cS ?_
  refine jk (ik [.bool (eS x.args 0 4)] ?_ ?_)
  ·refine cS ?_
   exact fun _=>iz _ _ _
  refine cS ?_
  rw[Ou,Ln]
  refine hK _ _ ad ⟨dx,ad,fun j hj=> ?_⟩ (fun j g1 g2=>bp)
  ·by_cases e:j=id
   ·exact qq
   ·exact ab2
 |some p=>
  obtain⟨i,y⟩:=p
  obtain⟨rfl,e1,hn⟩:=Lo ha
  have hs:jo bs x=(bs,false):=by simp[jo,Sa,hn]
  rw[hs]at hK
  refine gC (ae q0 (ae q1 ha)) ?_
  rw[I4,e1]
  refine hK _ _ ad ⟨dx,ad,fun j hj=> ?_⟩ (fun j g1 g2=>bp)
  ·by_cases e:j=id
   ·exact qq
   ·exact ab2
theorem qQ:∀ (l:List fj) (bs:List (List UInt8)),match cM l bs with|some B=>aR jo bs l=(B,true)|none=>(aR jo bs l).2=false
 |[],bs=>rfl
 |x::l,bs=>by
  have ih:=qQ l (bs++[x.name])
  simp only[cM,aR,jo,Sa]
  by_cases h1:bs.any (· ==x.name)=true
  ·simp[h1]
  ·simp only[Bool.not_eq_true]at h1
   simp only[h1,Bool.false_eq_true,if_false,Bool.not_false,Bool.true_and]
   by_cases h2:(kR x.name&&eS x.args 0 4)=true
   ·have h3: ¬ ((!kR x.name|| !eS x.args 0 4)=true):=by simp at h2;simp[h2]
    rw[if_neg h3,if_pos h2]
    exact ih
   ·have h3:(!kR x.name|| !eS x.args 0 4)=true:=by
     cases hn:kR x.name<;>simp_all
    rw[if_pos h3,if_neg h2]
def rl(ok:Bool):Int:=if ok=true then 0 else 2
@[reducible] def Lq (s:az) (bs:List (List UInt8)):Nat->aa:=aw (aw (aw (fun _=> .no) 0 (.row s.row)) 3 (.row [.mp 2])) 2 (.map 9 4 (enc .str (qP bs)))
theorem xM(s:az)(hs:s.Fits):a7 Tryz.prog 119 [s.d] (.ret [.i (rl (jP s))]):=by
 refine a7.aH mix VG aF ?_
 rw[Y1]
 refine gB ?_
 refine ax (iz _ _ _) rfl ?_
 refine gB ?_
 cases h1:(!eS s.cons.length 2 12||decide (8<(s.ct.length:Int)))with
 |true=>
  have:jP s=false:=by simp only[jP,h1,if_true]
  refine gC h1 ?_
  simp[this,rl]
 |false=>
  have UP:=qQ s.cons []
  have Ow:∀ (l:List fj),(∀x∈l,x.name.length<=9223372036854775807)->∀x∈l,∀bs,True->Au Tryz.prog 144 (.d x.d::[.ptr 3 0]) 4 (Lq s bs) (Lq s (jo bs x).1) (.d (.bool (jo bs x).2)):=fun l hl x hx bs _=>
   ZO x (hl x hx) 4 3 2 (aw (aw (fun _=> .no) 0 (.row s.row)) 3 (.row [.mp 2])) (ab _ _ _) ad ad ad bs
  simp[eS]at h1
  obtain⟨a,b,r,hc⟩:∃a b r,s.cons=a::b::r:=by
   match h:s.cons with
   |[]=>exact HO
   |[a]=>exact HO
   |a::b::r=>exact⟨a,b,r,rfl⟩
  have fP:(!eS s.cons.length 2 12||decide (8<(s.ct.length:Int)))=false:=by simp[eS];omega
  have sn:jP s=if(!nS a fB|| !nS b tB)=true then false else match cM s.cons []with
   |none=>false
   |some l=>(cM s.ct l).isSome:=by
   unfold jP
   rw[if_neg (by rw[fP];exact Bool.false_ne_true),hc]
   dsimp only
   rfl
  refine gC fP ?_
  refine aT (Et s.cons hs.lc 144 [.ptr 3 0] 4 (Lq s) jo zo (fun _=>True) (fun _ _ _ _ _=>trivial) (Ow s.cons hs.nc) [] trivial _ _ ⟨?_,ad,fun id ay=> ?_⟩ _ _ fun o2 n2 m1 m2 m3=> ?_)
  ·exact dx
  ·rcases(by omega:id=0\/id=1\/id=2\/id=3)with rfl|rfl|rfl|rfl<;>rfl
  have p0:∀ {bs:List (List UInt8)} {o:Nat->aa} {n:Nat},fw 4 (Lq s bs) o n->o 0= .row s.row:=fun h=>h.eq 0 ad
  have p3:∀ {bs:List (List UInt8)} {o:Nat->aa} {n:Nat},fw 4 (Lq s bs) o n->o 3= .row [.mp 2]:=fun h=>h.eq 3 ad
  cases hn:cM s.cons []with
  |none=>
   rw[hn]at UP
   simp only at UP
   rw[UP]
   refine gB ?_
   rw[sn,hn]
   split<;>rfl
  |some B=>
   rw[hn]at UP
   simp only at UP
   rw[UP]at m2|-
   refine c9 (p0 m2) ?_
   refine aT (Et s.ct hs.lf 144 [.ptr 3 0] 4 (Lq s) jo zo (fun _=>True) (fun _ _ _ _ _=>trivial) (Ow s.ct hs.nf) B trivial _ _ (m2.mono ad) _ _ fun o4 n4 k1 k2 k3=> ?_)
   have Qd:=qQ s.ct B
   cases hf:cM s.ct B with
   |none=>
    rw[hf]at Qd
    simp only at Qd
    rw[Qd]
    refine gB ?_
    rw[sn,hn]
    simp only[hf]
    split<;>rfl
   |some C=>
    rw[hf]at Qd
    simp only at Qd
    rw[Qd]at k2|-
    refine c9 (ae (p0 k2) hc) ?_
    have Wm:jP s= !(!nS a fB|| !nS b tB):=by
     rw[sn,hn];simp only[hf]
     cases(!nS a fB|| !nS b tB)<;>rfl
    refine ak (fun h5=> ?_) (fun h5=> ?_)
    ·refine cS ?_
     have vG:(!nS a fB|| !nS b tB)=true:=h5
     rw[Wm,vG];rfl
    ·refine cS ?_
     have vG:(!nS a fB|| !nS b tB)=false:=h5
     rw[Wm,vG];rfl
def jQ(s:az)(l:List Tm):Bool:=jP s&&l.all (nz s)
theorem Ay{α:Type}(p:α->Bool):∀ (l:List α) (u:Unit),aR (fun _ x=>((),p x)) u l=((),l.all p)
 |[],_=>rfl
 |x::l,u=>by
  simp only[aR,List.all_cons,Ay p l]
  cases p x<;>rfl
theorem GQ(l:List Tm)(hl:l.length<=9223372036854775807)(g:Nat)(bW:List V)(base:Nat)(h:Nat->aa)(p:Tm->Bool)(hc:∀r∈V.aN bW,r<base)
 (hp:∀x∈l,Au Tryz.prog g (.d x.d::bW) base h h (.d (.bool (p x)))):Au Tryz.prog 169 [.d (.sl (l.map Tm.d)), .func (.func g) [] bW] base h h (.d (.bool (l.all p))):=by
 have:=Eo l hl g bW base (fun _:Unit=>h) (fun _ x=>((),p x)) hc (fun _=>True) (fun _ _ _ _ _=>trivial) (fun x hx _ _=>hp x hx) () trivial
 simpa only[Ay]using this
structure Tm.Fin (t:Tm):Prop where
 fits:t.fits
 lL:t.lL<=900000
theorem Ox(s:az)(hs:s.Fits)(t:Tm)(ht:t.Fin)(base sp:Nat)(h:Nat->aa)(LW:h sp= .row s.row)(hb:sp<base):Au Tryz.prog 170 [.d t.d, .ptr sp 0] base h h (.d (.bool (nz s t))):=by
 intro o nx hI K X hK
 have hle:=hI.le
 have hg:=hI.cW
 have q0:o sp= .row s.row:=by rw[hI.eq sp hb,LW]
 refine bJ.aH mix V3 aF ?_
 rw[Zo]
 refine gC q0 ?_
 refine ax (Ot s hs t ht.fits ht.lL) rfl ?_
 refine cS ?_
 exact hK _ _ ad ⟨dx,ad,fun j hj=>by rw[af _ _ _ _ (by omega),hI.eq j hj]⟩ (fun j g1 g2=>bp)
theorem Sb(s:az)(hs:s.Fits)(l:List Tm)(hl:l.length<=9223372036854775807)(hf:∀t∈l,t.Fin):a7 Tryz.prog 158 [s.d, .sl (l.map Tm.d)] (.ret [.bool (jQ s l)]):=by
 refine a7.aH mix VU aF ?_
 rw[Zf]
 refine cS ?_
 refine ax (xM s hs) rfl ?_
 cases h1:jP s with
 |false=>
  refine abz ?_
  simp[jQ,h1]
 |true=>
  refine abz ?_
  refine aT (GQ l hl 170 [.ptr 0 0] 1 (aw (fun _=> .no) 0 (.row s.row)) (nz s) zo (fun x hx=>Ox s hs x (hf x hx) 1 0 _ (ab _ _ _) ad) _ _ ⟨dx,ad,fun id ay=>rfl⟩ _ _ fun o2 n2 m1 m2 m3=> ?_)
  refine cS ?_
  simp[jQ,h1]
def sv(x:Tm×Int):Bool:=decide (3<x.1.op)&&x.1.op !=5
def vJ(b:Bool):Option lh:=if b=true then none else some .ret
def oS(t:Tm):Bool:=(aR (yC vJ (fun _ x=> !sv x)) true (pre t 1)).2
theorem Lr(t:Tm)(ht:t.Fin):a7 Tryz.prog 160 [t.d] (.ret [.bool (oS t)]):=by
 refine a7.aH mix VW aF ?_
 rw[Zh]
 refine cS ?_
 refine bI (xJ t _ _ _ _ ?_)
 refine cS ?_
 refine oR t ht.fits ht.lL [.ai, .ai, .ptr 1 0] ?_ bF rfl dx zo (ab _ _ _)
  (fun _=>aw (aw (aw (fun _=> .no) 0 (.row t.row)) 1 (.row [.d (.bool false)])) 3 (.row t.row)) vJ (fun _ x=> !sv x) (fun _=>True) true trivial rfl (fun id ay=>rfl) (fun _ _ _ _ _ _=>trivial) ?_ ?_
 ·exact Me
 ·intro L hL zg x hx s' h1 h2 o3 n3 hI hn ho K X eZ
  simp only[qH]
  have hg:=hI.cW
  have q1:o3 1= .row [.d (.bool false)]:=hI.eq 1 ad
  refine cS ?_
  refine oO hL (pd:=none) ?_ ?_
  ·(repeat first|rfl|rw[ab]|rw[af _ _ _ _ (by omega)])
   exact ho
  refine cS ?_
  have hv:sv x=(decide (3<x.1.op)&&x.1.op !=5):=rfl
  rw[<- hv]
  cases hb:sv x with
  |true=>
   rw[hb]at eZ
   refine gC q1 ?_
   refine eZ _ _ _ .busy none ad ⟨dx,ad,fun id ay=> ?_⟩ bp (fun id h3 h4=>bp)
   by_cases e:id=1
   ·exact qq
   ·rw[af _ _ _ _ e];(repeat first|rfl|rw[ab]|rw[af _ _ _ _ (by omega)])
    exact hI.eq id ay
  |false=>
   rw[hb]at eZ
   refine cS ?_
   refine eZ _ _ _ .busy none ad ⟨dx,ad,fun id ay=> ?_⟩ bp (fun id h3 h4=>bp)
   (repeat first|rfl|rw[ab]|rw[af _ _ _ _ (by omega)])
   exact hI.eq id ay
 ·intro o' n' hI
  have q1:o' 1= .row [.d (.bool false)]:=hI.eq 1 ad
  rw[show oS t=(vJ (aR (yC vJ (fun _ x=> !sv x)) true (pre t 1)).1).isNone from BW _ _ _ _ rfl]
  generalize (aR (yC vJ (fun _ x=> !sv x)) true (pre t 1)).1=sf at*
  cases sf<;>(simp only[vJ,if_true,if_false,Bool.false_eq_true,rS];simp+contextual (disch:=first|omega|simp only[go_sem,false_implies]) only[go_sem,wrap64,if_pos,q1];rfl)
def Tm.Eu (t:Tm):Int:=(pre t 1).length
structure Tm.Cnt (t:Tm):Prop extends t.Fin where
 size:t.Eu<=1000000
theorem uW:∀ (t:Tm) (d d':Int),(pre t d).length=(pre t d').length:=by
 refine Tm.eM fun t ih d d'=> ?_
 rw[oG,oG]
 simp only[List.length_cons,List.length_flatMap]
 congr 2
 exact List.map_congr_left fun k hk=>ih k hk _ _
theorem Tm.Ls {t k:Tm}(hk:k∈t.kids):k.Eu+1<=t.Eu:=by
 simp only[Tm.Eu]
 rw[oG t,uW k 1 (1+1)]
 simp only[List.length_cons,List.length_flatMap]
 have:∀ (l:List Tm),k∈l->(pre k (1+1)).length<=(l.map fun k=>(pre k (1+1)).length).sum:=by
  intro l
  induction l with
  |nil=>intro h;cases h
  |cons x l ih=>
   intro h
   rcases List.mem_cons.1 h with rfl|h
   ·simp only[List.map_cons,List.sum_cons];omega
   ·have:=ih h;simp only[List.map_cons,List.sum_cons];omega
 have:=this _ hk
 omega
def Tm.sz (t:Tm):Nat:=(pre t 1).length
def py(l:List Tm):Nat:=(l.map Tm.sz).sum
theorem Tm.Ev (t:Tm):t.Eu=(t.sz:Int):=rfl
theorem Tm.iN (t:Tm):t.sz=1+py t.kids:=by
 unfold Tm.sz py
 rw[oG,List.length_cons,List.length_flatMap,Nat.add_comm]
 congr 2
 exact List.map_congr_left fun k hk=>uW k _ _
theorem mJ(k:Tm)(l:List Tm):py (k::l)=k.sz+py l:=by simp[py]
theorem Tm.qR (t:Tm):1<=t.sz:=by rw[Tm.iN];omega
theorem Az(k:Tm)(l:List Tm):Tm.gH (k::l)=Nat.max k.lL (Tm.gH l):=by simp[Tm.gH]
theorem lO:∀ (l:List Tm) (n:Nat),Tm.gH l<=n↔∀k∈l,k.lL<=n
 |[],n=>by simp[Tm.gH]
 |x::l,n=>by
  rw[Az]
  simp only[List.mem_cons,forall_eq_or_imp, <- lO l n]
  exact Nat.max_le
theorem Tm.iO (t:Tm):t.lL=1+Tm.gH t.kids:=by cases t;simp[Tm.lL,Tm.kids]
theorem Lt:∀t:Tm,∀left depth:Int,gf t left depth=if(t.sz:Int)<=left/\(t.lL:Int)<=depth then left - t.sz else -1:=by
 refine Tm.eM fun t ih left depth=> ?_
 have hs:∀ (l:List Tm) (left d:Int),(∀k∈l,k∈t.kids)->0<=left->0<=d->cN l left d=if(py l:Int)<=left/\(Tm.gH l:Int)<=d then left - py l else -1:=by
  intro l
  induction l with
  |nil=>intro left d _ h1 h2;simp[cN,py,Tm.gH,h1,h2]
  |cons k l ZE=>
   intro left d hk h1 h2
   simp only[cN,if_pos h1]
   rw[ih k (hk k (by simp))]
   have hm:(Tm.gH (k::l):Int)<=d↔(k.lL:Int)<=d/\(Tm.gH l:Int)<=d:=by
    have:= @Nat.max_le k.lL (Tm.gH l) d.toNat
    have e:Tm.gH (k::l)=max k.lL (Tm.gH l):=Az k l
    rw[e];omega
   simp only[mJ,hm]
   by_cases hc:(k.sz:Int)<=left/\(k.lL:Int)<=d
   ·rw[if_pos hc,ZE _ _ (fun x hx=>hk x (by simp[hx])) (by omega) h2]
    by_cases tC:(py l:Int)<=left - k.sz/\(Tm.gH l:Int)<=d
    ·rw[if_pos tC,if_pos (by omega)];omega
    ·rw[if_neg tC,if_neg (by omega)]
   ·rw[if_neg hc,qM (by omega),if_neg (by omega)]
 rw[En,Tm.iN,Tm.iO]
 by_cases h:left<1\/depth<1
 ·rw[if_pos h,if_neg (by omega)]
 ·rw[if_neg h,hs _ _ _ (fun _ h=>h) (by omega) (by omega)]
  by_cases hc:(py t.kids:Int)<=left - 1/\(Tm.gH t.kids:Int)<=depth - 1
  ·rw[if_pos hc,if_pos (by omega)];omega
  ·rw[if_neg hc,if_neg (by omega)]
theorem sw(t:Tm)(left depth:Int):0<=gf t left depth↔(t.sz:Int)<=left/\(t.lL:Int)<=depth:=by
 rw[Lt];split<;>omega
theorem xN(t:Tm):dI t=true↔t.sz<=50/\t.lL<=14:=by
 simp only[dI,decide_eq_true_eq,sw];omega
theorem Lu:∀ (t:Tm) (d m:Int),(∀x∈pre t d,x.2<=m)↔d+t.lL - 1<=m:=by
 refine Tm.eM fun t ih d m=> ?_
 rw[oG,Tm.iO]
 simp only[List.mem_cons,forall_eq_or_imp,List.mem_flatMap]
 have h1:(∀x:Tm×Int,(∃k,k∈t.kids/\x∈pre k (d+1))->x.2<=m)↔∀k∈t.kids,d+1+k.lL - 1<=m:=by
  constructor
  ·intro h k hk
   exact(ih k hk _ _).1 fun x hx=>h x ⟨k,hk,hx⟩
  ·rintro h x ⟨k,hk,hx⟩
   exact(ih k hk _ _).2 (h k hk) x hx
 rw[h1]
 constructor
 ·rintro⟨h2,h3⟩
  have:=(lO t.kids (m - d).toNat).2 fun k hk=>by have:=h3 k hk;omega
  omega
 ·intro h
  have:=(lO t.kids (m - d).toNat).1 ad
  exact⟨ad,fun k hk=>by have:=this k hk;omega⟩
theorem I5(p:Tm->Bool):∀ (t:Tm) (d:Int),(pre t d).all (fun x=>p x.1)=(p t&&t.kids.all fun k=>(pre k (d+1)).all fun x=>p x.1):=by
 intro t d
 rw[oG,List.all_cons,List.all_flatMap]
theorem xO(s:az):∀ (t:Tm) (d:Int),jl s t=(pre t d).all fun x=>bG s x.1:=by
 refine Tm.eM fun t ih d=> ?_
 rw[I5 (bG s),mH]
 congr 1
 exact Up
theorem GR:∀ (t:Tm) (d:Int),fL t=(pre t d).all fun x=>(decide (1<=x.1.op)&&decide (x.1.op<=3))||x.1.op==5:=by
 refine Tm.eM fun t ih d=> ?_
 rw[I5 (fun t=>(decide (1<=t.op)&&decide (t.op<=3))||t.op==5),tW,Bool.and_comm]
 congr 1
 exact Up
theorem Ew{s:az}{t:Tm}(h:bG s t=true):eS t.op 1 15=true:=by
 rw[show eS t.op 1 15=true↔1<=t.op/\t.op<=15 by simp[eS]]
 by_cases h6:eS t.op 6 15=true
 ·simp[eS]at h6;omega
 ·simp only[bG,if_neg h6]at h
  by_cases h1:t.op=1
  ·omega
  by_cases h2:t.op=2
  ·omega
  by_cases h3:t.op=3
  ·omega
  by_cases h4:t.op=4
  ·omega
  by_cases h5:t.op=5
  ·omega
  by_cases h8:t.op=8
  ·omega
  rw[if_neg h1,if_neg h2,if_neg h3,if_neg h4,if_neg h5,if_neg h8]at h
  cases h
def xP(s:az)(x:Tm×Int):Bool:= !(decide (12<x.2)|| !eS x.1.op 1 15|| !bG s x.1)
theorem uX(s:az):∀ (l:List (Tm×Int)) (n:Int) (b:Bool),(aR (yC fJ (iM s)) (n,b) l).2=(decide (l=[]\/n+l.length<=40)&&l.all (xP s))
 |[],n,b=>by simp[aR]
 |x::l,n,b=>by
  have e1:∀c,pS s n x=c->yC fJ (iM s) (n,b) x=((n+1, !c), !c):=fun c hc=>by show((n+1, !pS s n x),(fJ (n+1, !pS s n x)).isNone)=_;rw[hc];cases c<;>rfl
  have hb:pS s n x=(decide (40<n+1)|| !xP s x):=by simp[pS,xP,Bool.or_assoc]
  rw[List.all_cons]
  cases hg:xP s x with
  |false=>
   have e:pS s n x=true:=by rw[hb,hg];simp
   rw[aR,e1 _ e];simp
  |true=>
   by_cases h40:40<n+1
   ·have:decide (x::l=[]\/n+(x::l).length<=40)=false:=by simp;omega
    have e:pS s n x=true:=by rw[hb];simp[h40]
    rw[this,Bool.false_and,aR,e1 _ e];simp
   ·have e:pS s n x=false:=by rw[hb,hg];simp;omega
    rw[aR,e1 _ e]
    simp only[Bool.not_false,if_true,uX s l,Bool.true_and]
    congr 1
    cases l with
    |nil=>simp;omega
    |cons y l=>simp;omega
theorem qS(s:az)(t:Tm):nz s t=il s t:=by
 rw[nz,uX,il,xO s t 1,Bool.eq_iff_iff]
 have hn:pre t 1≠[]:=by rw[oG];simp
 simp only[Bool.and_eq_true,decide_eq_true_eq,hn,false_or,sw,List.all_eq_true]
 have hd:=Lu t 1 12
 constructor
 ·rintro⟨h1,h2⟩
  have h3:∀x∈pre t 1,x.2<=12:=fun x hx=>by have:=h2 x hx;simp[xP]at this;omega
  have:=hd.1 h3
  exact⟨⟨by unfold Tm.sz;omega,ad⟩,fun x hx=>by have:=h2 x hx;simp[xP]at this;exact this.2⟩
 ·rintro⟨⟨h1,h2⟩,h3⟩
  have h4:=hd.2 ad
  refine⟨by unfold Tm.sz at h1;omega,fun x hx=> ?_⟩
  have h5:=h4 x hx
  have h6:=h3 x hx
  have h7:=Ew h6
  simp[xP,h6,h7];omega
theorem xQ:∀ (l:List (Tm×Int)) (b:Bool),(aR (yC vJ (fun _ x=> !sv x)) b l).2=l.all fun x=> !sv x
 |[],b=>rfl
 |x::l,b=>by
  have e1:∀c,sv x=c->yC vJ (fun _ x=> !sv x) b x=(!c, !c):=fun c hc=>by show(!sv x,(vJ (!sv x)).isNone)=_;rw[hc];cases c<;>rfl
  rw[aR,List.all_cons]
  cases hv:sv x with
  |false=>rw[e1 _ hv];simp[xQ l]
  |true=>rw[e1 _ hv];simp
theorem pz{s:az}{t:Tm}(h:il s t=true):oS t=fL t:=by
 rw[oS,xQ,GR t 1,Bool.eq_iff_iff]
 simp only[il,Bool.and_eq_true,xO s t 1,List.all_eq_true]at h
 simp only[List.all_eq_true]
 refine forall_congr' fun x=>forall_congr' fun hx=> ?_
 have:=Ew (h.2 x hx)
 simp[eS]at this
 simp[sv]
 omega
theorem xR:∀a:Tm,iH a a=true:=by
 refine Tm.eM fun a ih=> ?_
 rw[sq]
 have:jm a.kids a.kids=true:=(jn _ _ rfl).2 fun i x y hx hy=>by
  rw[hx]at hy;injection hy with hy;subst hy;exact ih x (List.mem_of_getElem? hx)
 simp[this]
theorem ek:∀a b:Tm,iH a b=true↔a=b:=by
 refine Tm.eM fun a ih b=>⟨fun h=> ?_,fun e=>e ▸ xR _⟩
 rw[sq]at h
 simp only[Bool.and_eq_true,beq_iff_eq]at h
 obtain⟨⟨⟨h1,h2⟩,h3⟩,h4⟩:=h
 have h5:=(jn _ _ h3).1 h4
 have:a.kids=b.kids:=by
  apply List.ext_getElem?
  intro i
  cases hx:a.kids[i]? with
  |none=>simp at hx;symm;simp;omega
  |some x=>
   have hi:=(List.getElem?_eq_some_iff.1 hx).1
   obtain⟨y,hy⟩:=aA (l:=b.kids) (k:=i) ad
   rw[hy,(ih x (List.mem_of_getElem? hx) y).1 (h5 i x y hx hy)]
 rw[<- Tm.eta a, <- Tm.eta b,h1,h2,this]
section
def Lw(l:List (D×D)):List (Int×D):=l.map fun p=>((match p.1 with| .int _ n=>n|_=>0),p.2)
def ZP(l:List (D×D)):Bool:=l.all fun p=>match p.1 with| .int .i64 _=>true|_=>false
@[go_sem] theorem af2 (m:List (Int×D)):Lw (enc (D.int .i64) m)=m:=by
  unfold Lw enc;rw[List.map_map];simp[Function.comp_def]
@[go_sem] theorem af3 (m:List (Int×D)):ZP (enc (D.int .i64) m)=true:=by simp[ZP,enc]
@[go_sem] theorem af4:ZP []=true:=rfl
@[go_sem] theorem af5:Lw []=[]:=rfl
theorem BX:∀ {l:List (D×D)},ZP l=true->enc (D.int .i64) (Lw l)=l
 |[],_=>rfl
 |(k,x)::l,h=>by
  simp only[ZP,List.all_cons,Bool.and_eq_true]at h
  have ih:=BX (l:=l) h.2
  obtain⟨n,h1⟩:∃n,k= .int .i64 n:=by
   have h1:=h.1
   split at h1
   ·exact⟨_,rfl⟩
   ·cases h1
  subst h1
  simp only[enc,Lw,List.map_cons]at ih|-
  rw[ih]
def oT(l:List Int):List (Int×D):=l.map fun n=>(n, .bool true)
@[go_sem] theorem afa:oT []=[]:=rfl
def eO(l:List Int)(n:Int):List Int:=if l.contains n=true then l else l++[n]
theorem kV{l:List Int}{n k:Int}:k∈eO l n↔k∈l\/k=n:=by
 unfold eO
 split
 ·rename_i h
  have:n∈l:=by simpa using h
  constructor
  ·exact .inl
  ·rintro(h|rfl)<;>assumption
 ·simp
theorem GS{l:List Int}(n:Int)(h:l.Nodup):(eO l n).Nodup:=by
 unfold eO
 split
 ·exact h
 ·rename_i hn
  have hn:n∉l:=by simpa using hn
  rw[List.nodup_append]
  exact⟨h,aF,fun a ha b hb=>by simp at hb;subst hb;intro e;subst e;exact hn ha⟩
theorem sy:∀ (l:List Int) (n:Int) (i:Nat),j6 n (oT l) i=(l.findIdx? (· ==n)).map fun j=>(i+j,D.bool true)
 |[],n,i=>rfl
 |x::l,n,i=>by
  have ih:=sy l n (i+1)
  simp only[oT,List.map_cons,j6,List.findIdx?_cons]at ih|-
  by_cases h:n=x
  ·subst h;simp
  ·have h2: ¬x=n:=fun e=>h e.symm
   simp only[beq_iff_eq,h,h2,if_false,ih,Option.map_map,Function.comp_def]
   congr 1;funext j;congr 1;omega
@[go_sem] theorem abo (l:List Int) (n:Int):Lk n (.bool true) (oT l)=oT (eO l n):=by
  unfold Lk eO
  rw[sy]
  cases h:l.findIdx? (· ==n)with
  |none=>
   have:l.contains n=false:=by
    rw[List.findIdx?_eq_none_iff]at h
    rw[Bool.eq_false_iff];intro hc
    have:=h n (by simpa using hc)
    simp at this
   simp only[Option.map_none,this,Bool.false_eq_true,if_false]
   simp[oT]
  |some j=>
   rw[List.findIdx?_eq_some_iff_getElem]at h
   obtain⟨hj,he,_⟩:=h
   have e:l[j]=n:=by simpa using he
   have:l.contains n=true:=by rw[List.contains_iff_mem, <- e];exact List.getElem_mem hj
   simp only[Option.map_some,this,if_true,Nat.zero_add]
   apply List.ext_getElem?
   intro k
   rw[List.getElem?_set]
   split
   ·rename_i hk;subst hk;simp[oT,hj,e]
   ·rfl
def afb(l:List Int)(n:Int):List Int:=match l.findIdx? (· ==n)with|some j=>l.eraseIdx j|none=>l
theorem nA{α β:Type}(f:α->β):∀ (l:List α) (j:Nat),(l.map f).eraseIdx j=(l.eraseIdx j).map f
 |[],_=>rfl
 |_::_,0=>rfl
 |x::l,j+1=>by simp[nA f l j]
@[go_sem] theorem abp (l:List Int) (n:Int):ae8 n (oT l)=oT (afb l n):=by
  unfold ae8 afb
  rw[sy]
  cases h:l.findIdx? (· ==n)with
  |none=>simp
  |some j=>simp only[Option.map_some,Nat.zero_add];exact nA _ _ _
section
variable {P:Program}{o:Nat->aa}{t:TypeId}{id:Nat}{n:Int}{v:V}
def tX(P:Program)(kt:TypeId):Bool:=match b8 P kt with|some .int=>true|_=>false
theorem AA{kt:TypeId}(h:tX P kt=true):b8 P kt=some .int:=by
 unfold tX at h;split at h
 ·assumption
 ·cases h
@[go_sem] theorem abq {kt:TypeId} (h:b8 P kt=some .int):tX P kt=true:=by unfold tX;rw[h]
def ZQ(P:Program)(o:Nat->aa)(t:TypeId)(id:Nat)(n:Int)(v:V):Option gS:=
 match tw P t,ef o v,o id with
 |some (kt,_),some vd, .map H3 H4 l=>match tX P kt&&ZP l&&v.ids.all (· !=id)with
  |true=>some (.cf [],bK o v.ids++[(id, .map H3 H4 (enc (D.int .i64) (Lk n vd (Lw l))))],id::v.ids)
  |false=>su P o t (.mp id) (.d (.int .i64 n)) v
 |_,_,_=>su P o t (.mp id) (.d (.int .i64 n)) v
@[go_sem high] theorem ZR:gN P o t (.mp id) (.d (.int .i64 n)) v=ZQ P o t id n v:=by
  unfold ZQ
  split
  ·rename_i kt vt vd H3 H4 l h1 h2 h3
   split
   ·rename_i hc
    simp only[Bool.and_eq_true]at hc
    obtain⟨⟨c1,c2⟩,c3⟩:=hc
    have c4:=AA c1
    have c5:ef o (.d (.int .i64 n))=some (.int .i64 n):=rfl
    have hl:=BX c2
    unfold gN
    simp only[h1,c5,h2,p9,h3]
    rw[if_pos ⟨rfl,I3 c4 n,rfl,c3⟩]
    conv=>lhs;rw[<- hl]
    rw[Er c4]
    unfold Lk
    cases j6 n (Lw l) 0 with
    |none=>simp[yY,enc]
    |some p=>simp[yY,I4,D.same,p8]
   ·exact Ax ..
  ·exact Ax ..
attribute [go_sem] ZQ
def isS(l:List (D×D)):Bool:=l.all fun p=>match p.2 with| .bool true=>true|_=>false
@[go_sem] theorem af6 (l:List Int):isS (enc (D.int .i64) (oT l))=true:=by simp[isS,enc,oT]
@[go_sem] theorem af7:isS []=true:=rfl
theorem I6:∀ {m:List (Int×D)},isS (enc (D.int .i64) m)=true->oT (m.map (·.1))=m
 |[],_=>rfl
 |(k,x)::m,h=>by
  simp only[isS,enc,List.map_cons,List.all_cons,Bool.and_eq_true]at h
  have ih:=I6 (m:=m) h.2
  have h1:x= .bool true:=by
   have h1:=h.1
   split at h1
   ·rfl
   ·cases h1
  simp only[oT,List.map_cons]at ih|-
  rw[ih,h1]
def Oy(P:Program)(o:Nat->aa)(t:TypeId)(m:V)(n:Int)(ok:Bool):Option gS:=
 match tw P t with
 |some (kt,vt)=>match zeroV P vt with
  |some (.d (.bool false))=>match rz o m with
   |some (rd,l)=>match tX P kt&&ZP l&&isS l with
    |true=>some (match ok with|true=> .cf [.d (.bool (((Lw l).map (·.1)).contains n)), .d (.bool (((Lw l).map (·.1)).contains n))]|false=> .d (.bool (((Lw l).map (·.1)).contains n)),[],rd)
    |false=>xL P o t m (.d (.int .i64 n)) ok
   |none=>xL P o t m (.d (.int .i64 n)) ok
  |_=>xL P o t m (.d (.int .i64 n)) ok
 |none=>xL P o t m (.d (.int .i64 n)) ok
@[go_sem] theorem Oz (l:List Int):((oT l).map (·.1))=l:=by simp[oT,Function.comp_def]
@[go_sem high] theorem afc {m:V} {ok:Bool}:jZ P o t m (.d (.int .i64 n)) ok=Oy P o t m n ok:=by
  unfold Oy
  split
  ·rename_i kt vt h1
   split
   ·rename_i hz
    split
    ·rename_i rd l h
     split
     ·rename_i hc
      simp only[Bool.and_eq_true]at hc
      have c4:=AA hc.1.1
      have hl:=BX hc.1.2
      have hs:oT ((Lw l).map (·.1))=Lw l:=I6 (by rw[hl];exact hc.2)
      have c5:ef o (.d (.int .i64 n))=some (.int .i64 n):=rfl
      unfold jZ
      simp only[h1,c5,h]
      rw[if_pos ⟨rfl,I3 c4 n⟩]
      conv=>lhs;rw[<- hl]
      rw[Er c4, <- hs,sy,Oz]
      generalize (Lw l).map (·.1)=l'
      cases hf:l'.findIdx? (· ==n)with
      |none=>
       have:l'.contains n=false:=by
        rw[List.findIdx?_eq_none_iff]at hf
        rw[Bool.eq_false_iff];intro hc
        have:=hf n (by simpa using hc)
        simp at this
       cases ok<;>simp only[Option.map_none,yY,hz,this,if_true,Bool.false_eq_true,if_false]
      |some j=>
       rw[List.findIdx?_eq_some_iff_getElem]at hf
       obtain⟨hj,he,_⟩:=hf
       have e:l'[j]=n:=by simpa using he
       have:l'.contains n=true:=by rw[List.contains_iff_mem, <- e];exact List.getElem_mem hj
       cases ok<;>simp only[Option.map_some,yY,this,if_true,Bool.false_eq_true,if_false]
     ·exact px ..
    ·exact px ..
   ·exact px ..
  ·exact px ..
attribute [go_sem] Oy
end
attribute [go_sem] List.head?_cons
end
mutual
def gy(v:Int):Tm->Bool
 | .mk op n kids=>if op=1 then n==v else BZ v op n kids 0
def BZ(v op n:Int):List Tm->Nat->Bool
 |[],_=>false
 |k::l,i=>(gy v k&& !(op==8&&i==1&&n==v))||BZ v op n l (i+1)
end
theorem tY(v:Int)(t:Tm):gy v t=if t.op=1 then t.n==v else BZ v t.op t.n t.kids 0:=by cases t;rfl
@[reducible] def Lx (l:List Int):aa:= .map 3 4 (enc (D.int .i64) (oT l))
def pT:List Int->Int->List Int
 |[],n=>[n]
 |x::l,n=>if x<n then x::pT l n else if x=n then x::l else n::x::l
def qT(op n:Int)(i:Nat)(l out:List Int):List Int:=l.foldl (fun out v=>if(op !=8||(i:Int)!=1||v !=n)=true then pT out v else out) out
mutual
def cQ:Tm->List Int
 | .mk op n kids=>if op=1 then [n]else nB op n kids 0 []
def nB(op n:Int):List Tm->Nat->List Int->List Int
 |[],_,out=>out
 |k::l,i,out=>nB op n l (i+1) (qT op n i (cQ k) out)
end
theorem sA(t:Tm):cQ t=if t.op=1 then [t.n]else nB t.op t.n t.kids 0 []:=by cases t;rfl
theorem xS:∀ (l:List Int) (n v:Int),v∈pT l n↔v∈l\/v=n
 |[],n,v=>by simp[pT]
 |x::l,n,v=>by
  simp only[pT]
  split
  ·simp only[List.mem_cons,xS l n v];constructor
   ·rintro(h|h|h)
    ·exact .inl (.inl h)
    ·exact .inl (.inr h)
    ·exact .inr h
   ·rintro((h|h)|h)
    ·exact .inl h
    ·exact .inr (.inl h)
    ·exact .inr (.inr h)
  ·split
   ·rename_i h;subst h;simp only[List.mem_cons];constructor
    ·exact .inl
    ·rintro(h|h)
     ·exact h
     ·exact .inl h
   ·simp only[List.mem_cons];constructor
    ·rintro(h|h)
     ·exact .inr h
     ·exact .inl h
    ·rintro(h|h)
     ·exact .inr h
     ·exact .inl h
abbrev GU(l:List Int):Prop:=l.Pairwise (· <·)
theorem Ex:∀ {l:List Int} (n:Int),GU l->GU (pT l n)
 |[],n,_=>by simp[pT]
 |x::l,n,h=>by
  have h1:=List.pairwise_cons.1 h
  simp only[pT]
  split
  ·rename_i hx
   refine List.pairwise_cons.2 ⟨fun y hy=> ?_,Ex n h1.2⟩
   rcases(xS l n y).1 hy with hy|hy
   ·exact h1.1 y hy
   ·omega
  ·split
   ·exact h
   ·refine List.pairwise_cons.2 ⟨fun y hy=> ?_,h⟩
    rcases List.mem_cons.1 hy with hy|hy
    ·omega
    ·have:=h1.1 y hy;omega
theorem pA(op n:Int)(i:Nat):∀ (l out:List Int),GU out->GU (qT op n i l out)/\∀v,v∈qT op n i l out↔v∈out\/(v∈l/\ ¬ (op=8/\i=1/\n=v))
 |[],out,h=>⟨h,fun v=>by simp[qT]⟩
 |x::l,out,h=>by
  have hk:qT op n i (x::l) out=qT op n i l (if(op !=8||(i:Int)!=1||x !=n)=true then pT out x else out):=rfl
  rw[hk]
  by_cases hc:(op !=8||(i:Int)!=1||x !=n)=true
  ·rw[if_pos hc]
   have ih:=pA op n i l (pT out x) (Ex x h)
   refine⟨ih.1,fun v=> ?_⟩
   rw[ih.2 v,xS,List.mem_cons]
   have tC: ¬ (op=8/\i=1/\n=x):=by
    rintro⟨h1,h2,h3⟩;subst h1;subst h2;subst h3;simp at hc
   constructor
   ·rintro((h|h)|h)
    ·exact .inl h
    ·subst h;exact .inr ⟨.inl rfl,tC⟩
    ·exact .inr ⟨.inr h.1,h.2⟩
   ·rintro(h|⟨h|h,h2⟩)
    ·exact .inl (.inl h)
    ·exact .inl (.inr h)
    ·exact .inr ⟨h,h2⟩
  ·rw[if_neg hc]
   have ih:=pA op n i l out h
   refine⟨ih.1,fun v=> ?_⟩
   rw[ih.2 v,List.mem_cons]
   have tC:op=8/\i=1/\n=x:=by simp at hc;exact⟨hc.1.1,ad,hc.2.symm⟩
   constructor
   ·rintro(h|h)
    ·exact .inl h
    ·exact .inr ⟨.inr h.1,h.2⟩
   ·rintro(h|⟨h|h,h2⟩)
    ·exact .inl h
    ·subst h;exact absurd tC h2
    ·exact .inr ⟨h,h2⟩
theorem cV:∀t:Tm,GU (cQ t)/\∀v,v∈cQ t↔gy v t=true:=by
 refine Tm.eM fun t ih=> ?_
 have hs:∀ (l:List Tm) (i:Nat) (out:List Int),(∀k∈l,k∈t.kids)->GU out->GU (nB t.op t.n l i out)/\∀v,v∈nB t.op t.n l i out↔v∈out\/BZ v t.op t.n l i=true:=by
  intro l
  induction l with
  |nil=>intro i out _ h;exact⟨h,fun v=>by simp[nB,BZ]⟩
  |cons k l ZE=>
   intro i out hk h
   have h1:=ih k (hk k aF)
   have h2:=pA t.op t.n i (cQ k) out h
   have h3:=ZE (i+1) _ (fun x hx=>hk x pN) h2.1
   refine⟨h3.1,fun v=> ?_⟩
   show v∈nB t.op t.n l (i+1) (qT t.op t.n i (cQ k) out)↔_
   rw[h3.2 v,h2.2 v,h1.2 v,BZ]
   simp only[Bool.or_eq_true,Bool.and_eq_true,Bool.not_eq_true',Bool.and_eq_false_iff,beq_eq_false_iff_ne,ne_eq,not_and]
   have:(∀ (_:t.op=8) (_:i=1), ¬t.n=v)↔((¬t.op=8\/ ¬i=1)\/ ¬t.n=v):=by
    constructor
    ·intro h
     by_cases c1:t.op=8
     ·by_cases c2:i=1
      ·exact .inr (h c1 c2)
      ·exact .inl (.inr c2)
     ·exact .inl (.inl c1)
    ·rintro((h|h)|h) c1 c2
     ·exact absurd c1 h
     ·exact absurd c2 h
     ·exact h
   rw[this]
   constructor
   ·rintro((h|h)|h)
    ·exact .inl h
    ·exact .inr (.inl h)
    ·exact .inr (.inr h)
   ·rintro(h|h|h)
    ·exact .inl (.inl h)
    ·exact .inl (.inr h)
    ·exact .inr h
 by_cases h1:t.op=1
 ·rw[sA,if_pos h1]
  refine⟨aF,fun v=> ?_⟩
  rw[tY,if_pos h1]
  simp only[List.mem_singleton,beq_iff_eq]
  exact eq_comm
 ·rw[sA,if_neg h1]
  have:=hs t.kids 0 [] (fun _ h=>h) aF
  refine⟨this.1,fun v=> ?_⟩
  rw[this.2 v,tY,if_neg h1]
  simp
theorem OA:∀ {l l':List Int},GU l->GU l'->(∀v,v∈l↔v∈l')->l=l'
 |[],[],_,_,_=>rfl
 |[],y::l',_,_,h=>by have:=(h y).2 aF;cases this
 |x::l,[],_,_,h=>by have:=(h x).1 aF;cases this
 |x::l,y::l',h1,h2,h=>by
  have g1:=List.pairwise_cons.1 h1
  have g2:=List.pairwise_cons.1 h2
  have e:x=y:=by
   rcases List.mem_cons.1 ((h x).1 aF)with e|e
   ·exact e
   ·rcases List.mem_cons.1 ((h y).2 aF)with e2|e2
    ·exact e2.symm
    ·have:=g2.1 x e;have:=g1.1 y e2;omega
  subst e
  rw[OA g1.2 g2.2 fun v=> ?_]
  constructor
  ·intro hv
   rcases List.mem_cons.1 ((h v).1 (by simp[hv]))with e|e
   ·subst e;exact absurd (g1.1 v hv) ad
   ·exact e
  ·intro hv
   rcases List.mem_cons.1 ((h v).2 (by simp[hv]))with e|e
   ·subst e;exact absurd (g2.1 v hv) ad
   ·exact e
theorem qU{α:Type}{l:List α}{i:Nat}{n:α}(h:l[i]? =some n):(n::l.eraseIdx i).Perm l:=by
 obtain⟨hi,e⟩:=List.getElem?_eq_some_iff.1 h
 have LW:l=l.take i++n::l.drop (i+1):=by rw[<- e,List.getElem_cons_drop,List.take_append_drop]
 rw[List.eraseIdx_eq_take_drop_succ]
 conv=>rhs;rw[LW]
 exact List.perm_middle.symm
end Go.Proofs.YtlhemmpklhhgoaaGreat
section
namespace Go.Proofs.YtlhemmpklhhgoaaGreat
open Go.Sort Go.RowKit
def Ey(P:Program)(g:FuncId):Prop:=∀ (dY off cap:Nat) (zs:List Int) (w:World),Holds (Value.int .i64) w dY off zs.toArray->dY<w.heap.size->zs.length<4611686018427387904->
    Calls P g #[.slice (some ⟨dY,off,none⟩) zs.length cap] w fun e w'=>
     e= .returned (.tuple #[])/\∃n os,w'=grow (putRow (Value.int .i64) (Sort.ahead w n) dY off (zs.mergeSort fun x y=>decide (x<=y)).toArray) os
def dp(l:List Int):List Int:=l.mergeSort fun x y=>decide (x<=y)
theorem I7{B:Nat->Prop}{w:World}:∀ (zs:List Int) (xs:List Value),dG B w 1 (zs.map (D.int .i64)) xs↔xs=zs.map (Value.int .i64):=by
 have hd:∀ (zs:List Int) (evs:List Value),D.aG B w (zs.map (D.int .i64)) evs↔evs=zs.map (Value.int .i64):=by
  intro zs
  induction zs with
  |nil=>intro evs;simp[D.aG]
  |cons z zs ih=>
   intro evs
   simp only[List.map_cons,D.aG]
   constructor
   ·rintro⟨v,vs,rfl,h1,h2⟩
    rw[(ih vs).1 h2]
    simp only[D.den]at h1
    rw[h1]
   ·intro h
    exact⟨_,_,h,rfl,(ih _).2 rfl⟩
 have hf:∀zs:List Int,(zs.map (Value.int .i64)).flatMap (·.cells.toList)=zs.map (Value.int .i64):=by
  intro zs
  induction zs with
  |nil=>rfl
  |cons z zs ih=>simp only[List.map_cons,List.flatMap_cons,ih];rfl
 intro zs xs
 constructor
 ·rintro⟨evs,h1,h2,h3⟩
  rw[h1,(hd zs evs).1 h3,hf]
 ·intro h
  subst h
  exact⟨_,(hf zs).symm,fun ev dH=>by
   obtain⟨z,_,rfl⟩:=List.mem_map.1 dH
   rfl,(hd zs _).2 rfl⟩
theorem OB{P:Program}{g:FuncId}(hE:Enters P g)(hS:Ey P g){o:Nat->aa}{nx id ep:Nat}{ty:TypeId}{zs:List Int}(ho:o id= .arr ep ty 1 (zs.map (D.int .i64)))
 (hn:∀p cap w,Calls P g #[.slice p 0 cap] w fun e w'=>e= .returned (.tuple #[])/\w'=w)
 (hlen:zs.length<4611686018427387904) {K X:V->(Nat->aa)->Nat->Prop} (hK:K (.cf []) (aw o id (.arr ep ty 1 ((dp zs).map (D.int .i64)))) nx):bJ P g [.osl id ep] o nx K X:=by
 refine⟨hE,fun M φ w vals hH hd=> ?_⟩
 obtain⟨val,us,kF,⟨v0,v1,v2⟩,eE⟩:=hd
 have eE:us=[]:=eE
 subst eE
 have fR:val=φ id:=(v2 ep (by show(o id).cu=some ep;rw[ho];rfl)).2 rfl
 have vV:vals=#[φ id]:=by rw[<- fR];exact Array.ext' (by simpa using kF)
 subst vV
 have GA:=hH.ok id
 unfold aU at GA
 rw[show(hp o nx).o id= .arr ep ty 1 (zs.map (D.int .i64))from ho]at GA
 obtain⟨_,xs,cn,cL⟩:=GA
 have Qf:=(I7 zs xs).1 cL
 subst Qf
 simp only[List.length_map]at cn
 obtain⟨hl,Xx|⟨b,cap,cur,fA,_,hg,dR,wL,Qp,afd⟩⟩:=cn
 ·obtain⟨h1,h2⟩:=Xx
  have hz:zs=[]:=List.length_eq_zero_iff.1 h2
  subst hz
  rw[h1]
  refine(hn none 0 w).mono ?_
  rintro e w' ⟨rfl,rfl⟩
  have uK:aw o id (.arr ep ty 1 ((dp []).map (D.int .i64)))=o:=by
   funext j
   by_cases e:j=id
   ·subst e;rw[ab,ho,show dp []=[] by simp[dp]]
   ·exact HQ
  rw[uK]at hK
  exact⟨φ,o,nx, .cf [],hH,Trans.refl _ _ _,⟨#[],rfl,rfl⟩,hK⟩
 ·rw[fA]
  have hb:b<w.heap.size:=(Array.getElem?_eq_some_iff.1 hg).1
  have afe:∀j,j<zs.length->cur[j]? =some (.int .i64 zs[j]!):=by
   intro j hj
   have h1:(cur.toList.take (zs.length*1))[j]? =(zs.map (Value.int .i64))[j]? :=by rw[afd]
   rw[List.getElem?_take_of_lt (by omega),List.getElem?_map,List.getElem?_eq_getElem hj]at h1
   simp only[Option.map_some]at h1
   rw[getElem!_pos zs j hj]
   simpa using h1
  refine(hS b 0 cap zs w (fun j hj=> ?_) hb hlen).mono ?_
  ·simp only[List.size_toArray]at hj
   refine⟨?_, ?_⟩
   ·unfold World.cell?
    simp only[hg,Option.isSome_none,Bool.false_eq_true,if_false,Nat.zero_add]
    rw[afe j hj];simp
   ·unfold World.frozen?
    simp[hg]
  rintro e w' ⟨rfl,n,os,rfl⟩
  have RC:(dp zs).length=zs.length:=List.length_mergeSort zs
  have I1:∀k,k<w.heap.size->(grow (putRow (Value.int .i64) (Sort.ahead w n) b 0 (dp zs).toArray) os).heap[k]? =(w.heap.modify b (onCells (putCells (Value.int .i64) 0 (dp zs).toArray)))[k]? :=by
   intro k hk
   unfold grow putRow mapBlock Sort.ahead
   simp only
   rw[Array.getElem?_append_left (by simpa using hk)]
  have Iq:dZ (· =b) w (grow (putRow (Value.int .i64) (Sort.ahead w n) b 0 (dp zs).toArray) os):=by
   refine⟨rfl,rfl,rfl, ?_,fun k hk fS=> ?_⟩
   ·unfold grow putRow mapBlock Sort.ahead;simp
   ·rw[I1 k hk,Array.getElem?_modify,if_neg (fun e=>fS e.symm)]
  have dg:((hp o nx).o id).live=true:=by show(o id).live=true;rw[ho];rfl
  have KZ:dY (φ id)=some b:=by rw[fA];rfl
  have Xv:(grow (putRow (Value.int .i64) (Sort.ahead w n) b 0 (dp zs).toArray) os).heap[b]? =some (.cells (putCells (Value.int .i64) 0 (dp zs).toArray cur) ty (0,0)):=by
   rw[I1 b hb,Array.getElem?_modify,if_pos rfl,hg];rfl
  have ft:(hp o nx).put [(id, .arr ep ty 1 ((dp zs).map (D.int .i64)))]=hp (aw o id (.arr ep ty 1 ((dp zs).map (D.int .i64)))) nx:=by
   have eE:id<nx:=v1
   simp only[Hp.put,hp]
   congr 1
   funext j
   exact Uf
  have wG:aU M φ ((hp o nx).put [(id, .arr ep ty 1 ((dp zs).map (D.int .i64)))]) (grow (putRow (Value.int .i64) (Sort.ahead w n) b 0 (dp zs).toArray) os) id:=by
   unfold aU
   rw[show((hp o nx).put [(id, .arr ep ty 1 ((dp zs).map (D.int .i64)))]).o id= .arr ep ty 1 ((dp zs).map (D.int .i64)) by simp]
   refine⟨bF,(dp zs).map (Value.int .i64), ?_,(I7 _ _).2 rfl⟩
   simp only[List.length_map,RC]
   refine⟨by simp[RC], .inr ⟨b,cap,_,fA,Nat.zero_le _,Xv,dR,wL, ?_, ?_⟩⟩
   ·unfold putCells;simpa using Qp
   ·apply List.ext_getElem?
    intro j
    by_cases hj:j<zs.length
    ·rw[List.getElem?_take_of_lt (by omega),List.getElem?_map,List.getElem?_eq_getElem (l:=dp zs) (by omega)]
     have UH:j<cur.size:=ad
     unfold putCells
     simp only[Array.getElem?_toList,Array.getElem?_mapIdx,Option.map_some]
     rw[Array.getElem?_eq_getElem UH]
     simp only[Option.map_some,Nat.zero_le,true_and,Nat.zero_add,List.size_toArray,Nat.sub_zero]
     rw[if_pos (by omega)]
     rw[getElem!_pos _ j (by simp;omega)]
     simp
    ·rw[List.getElem?_eq_none (by rw[List.length_take,Nat.mul_one];exact Nat.le_trans (Nat.min_le_left _ _) (Nat.not_lt.1 hj)),List.getElem?_eq_none (by rw[List.length_map,RC];exact Nat.not_lt.1 hj)]
  have Wn:=jb hH (id:=id) v1 dg KZ Iq (.arr ep ty 1 ((dp zs).map (D.int .i64))) HA HA wG
  have Vn:=fH (φ:=φ) (H:=hp o nx) (id:=id) v1 dg KZ Iq (.arr ep ty 1 ((dp zs).map (D.int .i64))) HA HA
  rw[ft]at Wn Vn
  exact⟨φ,_,nx, .cf [],Wn,Vn,⟨#[],rfl,rfl⟩,hK⟩
end Go.Proofs.YtlhemmpklhhgoaaGreat
end
