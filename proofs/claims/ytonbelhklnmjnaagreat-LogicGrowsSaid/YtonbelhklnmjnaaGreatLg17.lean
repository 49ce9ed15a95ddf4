/-
  A PART OF THE PROOF. Conditions: none.
-/
import Derived.Test.YtonbelhklnmjnaaGreatLg16
set_option linter.unusedSimpArgs false
set_option linter.unusedVariables false
namespace Go.Proofs.YtonbelhklnmjnaaGreat
mutual
def Pf.iU:Pf->Nat
 | .mk _ _ _ _ kids=>1+Pf.fQ kids
def Pf.fQ:List Pf->Nat
 |[]=>0
 |k::l=>Nat.max k.iU (Pf.fQ l)
end
theorem Pf.ns:∀ {l:List Pf} {k:Pf},k∈l->k.iU<=Pf.fQ l
 |x::l,k,h=>by
  simp only[Pf.fQ]
  rcases List.mem_cons.1 h with rfl|h
  ·exact Nat.le_max_left _ _
  ·exact Nat.le_trans (Pf.ns h) (Nat.le_max_right _ _)
theorem Pf.qq {t k:Pf}(h:k∈t.kids):k.iU+1<=t.iU:=by
 cases t;simp only[Pf.kids]at h;simp only[Pf.iU];have:=Pf.ns h;omega
section
variable {σ:Type}(base nW:Nat)(H:σ->Nat->ab)(step:σ->Pf×Int->σ×Bool)(ok:List (Pf×Int)->σ->Prop)
include step ok in
theorem yk:∀ (L r:List (Pf×Int)) (bn:∀x∈L,∀r s,ok (x::r) s->(step s x).2=true->ok r (step s x).1) (s:σ),ok (L++r) s->(az step s L).2=true->ok r (az step s L).1
 |[],r,_,s,h,_=>by simpa[az]using h
 |x::L,r,bn,s,h,hb=>by
  rw[az]at hb|-
  by_cases hx:(step s x).2=true
  ·rw[if_pos hx]at hb|-
   exact yk L r (fun y hy=>bn y (List.mem_cons_of_mem _ hy)) _ (bn x (List.mem_cons_self ..) _ s h hx) hb
  ·rw[if_neg hx]at hb
   exact absurd hb aj
theorem Lf:∀t:Pf,t.fits->∀d:Int,0<=d->d+t.iU<=1000000->(∀x∈dA t d,∀r s,ok (x::r) s->(step s x).2=true->ok r (step s x).1)->(∀x∈dA t d,∀r s,ok (x::r) s->Xn Tryz.prog nW [.d x.1.d, .d (.i x.2)] base (H s) (H (step s x).1) (.d (.bool (step s x).2)))->nW<base->
 ∀ (c:Nat) (o0:Nat->ab) (yb vb:Nat),base<=c->base<=yb->yb<c->base<=vb->vb<c->o0 yb= .row [.jO nW]->o0 vb= .row [.func (.func 97) [] [.ptr yb 0, .ptr vb 0]]->
 ∀r s,ok (dA t d++r) s->fC Tryz.prog 97 [.d t.d, .d (.i d), .ptr yb 0, .ptr vb 0] c (ext base (H s) o0) (ext base (H (az step s (dA t d)).1) o0) (.d (.bool (az step s (dA t d)).2)):=by
 refine Pf.cC fun t ih hf d hd0 hd bn hR vi c o0 yb vb Pc RV hy RW hv oy ov r s gu=> ?_
 have gX:=((Pf.aP _).1 hf).2.2.2
 intro o nx hI K X hK
 have hle:=hI.le
 have RX:o yb= .row [.jO nW]:=by rw[hI.eq yb hy];unfold ext;rw[if_neg (by omega),oy]
 have RY:o vb= .row [.func (.func 97) [] [.ptr yb 0, .ptr vb 0]]:=by rw[hI.eq vb hv];unfold ext;rw[if_neg (by omega),ov]
 have y1:yb≠nx:=ad
 have y2:∀k,yb≠nx+k:=fun k=>ad
 have y3:vb≠nx:=ad
 have y4:∀k,vb≠nx+k:=fun k=>ad
 refine cK.aA mix Zt aj ?_
 rw[c97]
 simp+contextual only[go_sem,RX,RY,y1,y2,y3,y4,Nat.add_assoc,Nat.left_eq_add,Nat.add_eq_left,Nat.add_left_cancel_iff]
 have s8:=qE t d
 have lH:∀k∈t.kids,∀x∈dA k (d+1),x∈dA t d:=fun k hk x hx=>by
  exact Sl
 have hb:∀id,id<base->o id=H s id:=fun id aB=>by rw[hI.eq id (by omega)];unfold ext;rw[if_pos aB]
 have hIb:cT base (H s) o nx:=⟨hI.bN,ad,hb⟩
 refine nB (hR (t,d) Gv _ s (by rw[s8,List.cons_append]at gu;exact gu) _ _ ((hIb.aL (i:=nx) (m:=nx+6) ad ad ad rfl).aL (i:=nx+1) ad ad ad rfl) _ _ fun o2 n2 m1 m2 m3=> ?_)
 have k0:o2 nx= .row t.row:=by rw[m3 nx (by omega) (by omega),ai _ _ _ _ (by omega),ae]
 have k1:o2 (nx+1)= .row [.d (.i d)]:=by rw[m3 (nx+1) (by omega) (by omega),ae]
 have hold:∀id,base<=id->id<nx->o2 id=o id:=fun id h1 h2=>by rw[m3 id h1 (by omega),ai _ _ _ _ (by omega),ai _ _ _ _ (by omega)]
 have Gp:∀id,base<=id->id<c->o id=o0 id:=fun id h1 h2=>by rw[hI.eq id h2];unfold ext;rw[if_neg (by omega)]
 cases Cp:(step s (t,d)).2 with
 |false=>
  refine eY Cp ?_
  have AL:az step s (dA t d)=((step s (t,d)).1,false):=by rw[s8,az,if_neg (by rw[Cp];exact Bool.false_ne_true)]
  rw[AL]at hK
  refine hK _ _ ad ⟨m2.bN.mono ad,ad,fun id aB=> ?_⟩ (fun id h1 h2=>hold id ad h2)
  unfold ext
  split
  ·exact m2.eq id I1
  ·exact Gn
 |true=>
  have AL:az step s (dA t d)=az (fun s k=>az step s (dA k (d+1))) (step s (t,d)).1 t.kids:=by rw[s8,az,if_pos Cp,pk]
  simp+contextual only[go_sem,Cp,k0,k1]
  have q0:o2 yb= .row [.jO nW]:=by rw[hold yb RV (by omega),RX]
  have q1:o2 vb= .row [.func (.func 97) [] [.ptr yb 0, .ptr vb 0]]:=by rw[hold vb RW (by omega),RY]
  have m0:=m2.le
  refine bc (HQ t.kids gX.1 99 [.ptr vb 0, .ptr (nx+1) 0] n2 (fun s=>ext base (H s) o2) (fun s k=>az step s (dA k (d+1))) ?_ (fun ks s=>ok (ks.flatMap (fun k=>dA k (d+1))++r) s) ?_ ?_ (step s (t,d)).1 (bn (t,d) Gv _ s (by rw[s8,List.cons_append]at gu;exact gu) Cp) _ _ ?_ _ _ ?_)
  ·exact MM
  ·exact fun k hk r' s' h1 h2=>yk step ok _ _ (fun x hx=>bn x (lH k hk x hx)) s' (by rw[<- List.append_assoc];exact h1) h2
  ·intro k hk r' s' iE o3 n3 N6 K3 X3 hK3
   have l3:=N6.le
   have r0:o3 vb= .row [.func (.func 97) [] [.ptr yb 0, .ptr vb 0]]:=by rw[N6.eq vb (by omega)];unfold ext;rw[if_neg (by omega),q1]
   have r1:o3 (nx+1)= .row [.d (.i d)]:=by rw[N6.eq (nx+1) (by omega)];unfold ext;rw[if_neg (by omega),k1]
   have y5:vb≠n3:=ad
   have y6:∀k,vb≠n3+k:=fun k=>ad
   have y7:nx+1≠n3:=ad
   have y8:∀k,nx+1≠n3+k:=fun k=>ad
   have hh:=Pf.qq hk
   refine cK.aA mix Zv aj ?_
   rw[c99]
   simp+contextual only[go_sem,r0,r1,y5,y6,y7,y8]
   rw[wrap64 (n:=d+1) (by omega) (by omega)]
   refine bc (ih k hk (gX.2 k hk) (d+1) ad ad (fun x hx=>bn x (lH k hk x hx)) (fun x hx=>hR x (lH k hk x hx)) vi n2 o2 yb vb ad RV ad RW ad q0 q1 (r'.flatMap (fun k=>dA k (d+1))++r) s' (by rw[<- List.append_assoc];exact iE) _ _ (N6.aL (i:=n3) (m:=n3+6) ad ad ad rfl) _ _ fun o4 n4 p1 p2 p3=> ?_)
   refine bV ?_
   refine hK3 _ _ ad (p2.mono ad) (fun id h1 h2=> ?_)
   rw[p3 id h1 (by omega),ai _ _ _ _ (by omega)]
  ·exact(m2.mono ad).ext ad ad
  ·intro o5 n5 p1 p2 p3
   refine bV ?_
   rw[<- AL]
   refine hK _ _ ad ⟨p2.bN.mono ad,ad,fun id aB=> ?_⟩ (fun id h1 h2=> ?_)
   ·rw[p2.eq id (by omega), <- AL]
    unfold ext
    split
    ·rfl
    ·exact Gn
   ·rw[p2.eq id (by omega)]
    unfold ext
    exact Sw
theorem HS(t:Pf)(hf:t.fits)(hd:t.iU<=900000)(bn:∀x∈dA t 1,∀r s,ok (x::r) s->(step s x).2=true->ok r (step s x).1)(hR:∀x∈dA t 1,∀r s,ok (x::r) s->Xn Tryz.prog nW [.d x.1.d, .d (.i x.2)] base (H s) (H (step s x).1) (.d (.bool (step s x).2)))(vi:nW<base)(tb:Nat)(Gw:tb<base)(s:σ)(gu:ok (dA t 1) s)(bX:H s tb= .row t.row):
 fC Tryz.prog 96 [.jO nW, .ptr tb 0] base (H s) (H (az step s (dA t 1)).1) (.ck []):=by
 intro o nx hI K X hK
 have hle:=hI.le
 have ot:o tb= .row t.row:=by rw[hI.eq tb Gw,bX]
 have y1:tb≠nx:=ad
 have y2:∀k,tb≠nx+k:=fun k=>ad
 refine cK.aA mix Zs aj ?_
 rw[c96]
 refine Sg ot y1 y2 ?_
 have hI1:cT base (H s) (aL (aL (aL o nx (.row [.jO nW])) (nx+1) (.row [.d .bT])) (nx+1) (.row [.func (.func 97) [] [.ptr nx 0, .ptr (nx+1) 0]])) (nx+6):=by
  refine((hI.aL (i:=nx) (m:=nx+6) ad ad ad ?_).aL (i:=nx+1) (m:=nx+6) ad ad ad rfl).aL (i:=nx+1) ad ad ad ?_
  ·exact Sz
  ·exact pI
 refine bc (Lf base nW H step ok t hf 1 ad ad bn hR vi (nx+6) _ nx (nx+1) ad hle ad ad ad ?_ ?_ [] s (by rw[List.append_nil];exact gu) _ _ (hI1.ext (Nat.le_refl _) ad) _ _ ?_)
 ·exact eh
 ·exact eh
 intro o2 n2 m1 m2 m3
 refine bV ?_
 refine hK _ _ ad ⟨m2.bN,ad,fun id aB=> ?_⟩ (fun id h1 h2=> ?_)
 ·exact yL
 ·rw[m2.eq id (by omega)];unfold ext;rw[if_neg (by omega)]
  exact eh
end
theorem HT(t:Pf)(o:Nat->ab)(nx:Nat)(K X:V->(Nat->ab)->Nat->Prop)(h:K (.func (.func 96) [] [.ptr nx 0]) (aL o nx (.row t.row)) (nx+4)):cK Tryz.prog 56 [.d t.d] o nx K X:=by
 refine cK.aA mix Zf aj ?_
 rw[c56]
 refine bV ?_
 exact h
def mK{σ:Type}(J:σ->Option jI)(step:σ->Pf×Int->σ)(s:σ)(x:Pf×Int):σ×Bool:=(step s x,(J (step s x)).isNone)
theorem CG{σ:Type}(J:σ->Option jI)(step:σ->Pf×Int->σ):∀ (l:List (Pf×Int)) (s:σ),J s=none->(az (mK J step) s l).2=(J (az (mK J step) s l).1).isNone
 |[],s,h=>by simp[az,h]
 |x::l,s,h=>by
  simp only[az]
  split
  ·rename_i hb
   exact CG J step l _ (by simpa[mK]using hb)
  ·rename_i hb
   cases hj:J (step s x)with
   |none=>exact absurd (by simp[mK,hj]) hb
   |some j=>simp[mK,hj]
theorem wS{σ:Type}(t:Pf)(hf:t.fits)(hd:t.iU<=900000){n bq:Nat}{gq:Operand}{ps:List Nat}{iK eE:IC}{Q:fN->S->Prop}{e:Nat->V}{o:Nat->ab}{nx tb:Nat}(env:List V)(he:lM e env 0)
 (D6:ps.all (fun t=>decide (t<n))=true) (hl:ps.length=2) (hg:Good o nx) (hrefs:∀r∈V.aN env,r<nx) (ht:o tb= .row t.row)
 (G:σ->Nat->ab) (J:σ->Option jI) (step:σ->Pf×Int->σ) (ok:List (Pf×Int)->σ->Prop) (s0:σ) (gu:ok (dA t 1) s0) (Ms:J s0=none) (h0:∀id,id<nx->o id=G s0 id) (bn:∀x∈dA t 1,∀r s,ok (x::r) s->J s=none->J (step s x)=none->ok r (step s x))
 (mc:∀L,iu Tryz.prog n env ps iK eE L->(∀st pd m,nx<=m->(L st pd).refs.all (fun r=>decide (r<m))=true)->∀x∈dA t 1,∀r s,ok (x::r) s->J s=none->∀o3 n3,cT nx (G s) o3 n3->nx<n3->o3 nx=L .ready none->∀K X,
  (∀e' o' n' st pd,n3<=n'->cT nx (G (step s x)) o' n'->o' nx=L st pd->(∀id,nx<id->id<n3->o' id=o3 id)->jB nx K X (FI (J (step s x))) ⟨e',o',n'⟩)->
  kS Tryz.prog n n3 true iK (nA Tryz.prog n n3 nx eE K X) ⟨nn (bA env) ps [.d x.1.d, .d (.i x.2)],o3,n3⟩)
 (kg:∀o' n',cT nx (G (az (mK J step) s0 (dA t 1)).1) o' n'->oX Q (J (az (mK J step) s0 (dA t 1)).1) ⟨e,o',n'⟩):
 wJ Tryz.prog n bq false gq ps iK eE Q ⟨e,o,nx⟩ (.func (.func 96) [] [.ptr tb 0]):=by
 refine Eg env he (fun L hL=> ?_)
 have Gw:tb<nx:=hg.lt SJ
 let H:σ->Nat->ab:=fun s id=>if id<nx then G s id else if id=nx then(match J s with|none=>L .ready none|some j=>L .done (some j))else .no
 have Gq:∀s id,id<nx->H s id=G s id:=fun s id h=>if_pos h
 have FJ:∀s,J s=none->H s nx=L .ready none:=fun s h=>by show(if nx<nx then _ else _)=_;rw[if_neg (by omega),if_pos rfl,h]
 have KA:∀s j,J s=some j->H s nx=L .done (some j):=fun s j h=>by show(if nx<nx then _ else _)=_;rw[if_neg (by omega),if_pos rfl,h]
 have wg:∀st pd m,nx<=m->(L st pd).refs.all (fun r=>decide (r<m))=true:=fun st pd m hm=>by
  rw[hL.refs,List.all_eq_true]
  intro r hr;have:=hrefs r hr;exact decide_eq_true ad
 refine HS (nx+1) nx H (mK J step) (fun r s=>ok r s/\J s=none) t hf hd (fun x hx r s h1 h2=> ?_) (fun x hx r s h1=> ?_) ad tb ad s0 ⟨gu,Ms⟩ SH _ _ ⟨?_,Nat.le_refl _,fun id aB=> ?_⟩ _ _ ?_
 ·have hj:J (step s x)=none:=by simpa[mK]using h2
  exact⟨bn x hx r s h1.1 h1.2 hj,hj⟩
 ·intro o3 n3 hI K X hK
  have hle:=hI.le
  have IE:o3 nx=L .ready none:=by rw[hI.eq nx (by omega),FJ s h1.2]
  refine vc hL mix IE ad D6 (by simp[hl]) ?_
  refine mc L hL wg x hx r s h1.1 h1.2 o3 n3 ⟨hI.bN,ad,fun id aB=>by rw[hI.eq id (by omega),Gq _ _ aB]⟩ ad IE K X (fun e' o' n' st pd k1 k2 k3 k4=> ?_)
  have key:∀st' pd' b,(J (step s x)).isNone=b->H (step s x) nx=L st' pd'->K (.d (.bool b)) (aL o' nx (L st' pd')) n':=fun st' pd' b hb hh=>by
   subst hb
   refine hK _ _ k1 ⟨k2.bN.aL ad (wg _ _ _ ad),ad,fun id aB=> ?_⟩ (fun id g1 g2=> ?_)
   ·by_cases oL:id=nx
    ·subst oL;rw[ae];exact hh.symm
    ·rw[ai _ _ _ _ oL]
     show o' id=H (step s x) id
     exact Sq
   ·exact Sn
  cases hj:J (step s x)with
  |none=>exact rQ hL k3 (key _ _ _ yN (FJ _ hj))
  |some j=>
   cases j with
   |ret=>exact pg hL k3 (key _ _ _ yN (KA _ _ hj))
   |exit j=>exact nD hL k3 (key _ _ _ yN (KA _ _ hj))
 ·exact(hg.mono ad).aL ad (wg _ _ _ ad)
 ·by_cases oL:id=nx
  ·subst oL;rw[ae,FJ _ Ms]
  ·exact Sm
 ·intro o' n' k1 k2 k3
  have hle:=k2.le
  generalize hsf:(az (mK J step) s0 (dA t 1)).1=sf at*
  have kk:∀st pd,cT nx (G sf) (aL o' nx (L st pd)) n':=fun st pd=>⟨k2.bN.aL ad (wg _ _ _ ad),ad,fun id aB=>by rw[ai _ _ _ _ (by omega),k2.eq id (by omega),Gq _ _ aB]⟩
  cases hj:J sf with
  |none=>
   refine⟨.ready,none,by rw[k2.eq nx (by omega),FJ _ hj],(fun h=>by cases h), ?_⟩
   have:=kg _ _ (kk .exhausted none)
   rwa [hj]at this
  |some j=>
   refine⟨.done,some j,by rw[k2.eq nx (by omega),KA _ _ hj],(fun h=>by cases h), ?_⟩
   have:=kg _ _ (kk .exhausted (some j))
   rwa [hj]at this
theorem Aj{σ:Type}(t:Pf)(hf:t.fits)(hd:t.iU<=900000){n bq:Nat}{gq:Operand}{ps:List Nat}{iK eE:IC}{Q:fN->S->Prop}{e:Nat->V}{o:Nat->ab}{nx tb:Nat}(env:List V)(he:lM e env 0)
 (D6:ps.all (fun t=>decide (t<n))=true) (hl:ps.length=2) (hg:Good o nx) (hrefs:∀r∈V.aN env,r<nx) (ht:o tb= .row t.row)
 (G:σ->Nat->ab) (J:σ->Option jI) (step:σ->Pf×Int->σ) (ok:σ->Prop) (s0:σ) (gu:ok s0) (Ms:J s0=none) (h0:∀id,id<nx->o id=G s0 id) (bn:∀x∈dA t 1,∀s,ok s->J s=none->J (step s x)=none->ok (step s x))
 (mc:∀L,iu Tryz.prog n env ps iK eE L->(∀st pd m,nx<=m->(L st pd).refs.all (fun r=>decide (r<m))=true)->∀x∈dA t 1,∀s,ok s->J s=none->∀o3 n3,cT nx (G s) o3 n3->nx<n3->o3 nx=L .ready none->∀K X,
  (∀e' o' n' st pd,n3<=n'->cT nx (G (step s x)) o' n'->o' nx=L st pd->(∀id,nx<id->id<n3->o' id=o3 id)->jB nx K X (FI (J (step s x))) ⟨e',o',n'⟩)->
  kS Tryz.prog n n3 true iK (nA Tryz.prog n n3 nx eE K X) ⟨nn (bA env) ps [.d x.1.d, .d (.i x.2)],o3,n3⟩)
 (kg:∀o' n',cT nx (G (az (mK J step) s0 (dA t 1)).1) o' n'->oX Q (J (az (mK J step) s0 (dA t 1)).1) ⟨e,o',n'⟩):
 wJ Tryz.prog n bq false gq ps iK eE Q ⟨e,o,nx⟩ (.func (.func 96) [] [.ptr tb 0]):=
 wS t hf hd env he D6 hl hg hrefs ht G J step (fun _ s=>ok s) s0 gu Ms h0 (fun x hx _=>bn x hx) (fun L hL wg x hx _=>mc L hL wg x hx) kg
end Go.Proofs.YtonbelhklnmjnaaGreat
namespace Go.Proofs.YtonbelhklnmjnaaGreat
theorem Ov(s:aX)(hs:s.Fits)(x:Tm)(hx:x.fits)(base sp:Nat)(h:Nat->ab)(te:h sp= .row s.row)(hb:sp<base):
 fC Tryz.prog 122 [.d x.d, .ptr sp 0] base h h (.d (.bool (sT s x))):=by
 intro o nx hI K X hK
 have hle:=hI.le
 have ho:o sp= .row s.row:=by rw[hI.eq sp hb,te]
 have y1:∀k,sp≠nx+k:=fun k=>ad
 have y2:sp≠nx:=ad
 refine cK.aA mix Qu aj ?_
 rw[Up]
 refine Mi ho y1 y2 ?_
 refine ah (Ad s hs x hx) rfl ?_
 refine iC ?_
 exact hK _ _ ad (hI.aL ad ad ad rfl) fun id i1 i2=>by rw[ai _ _ _ _ (by omega)]
def kH(s:aX)(l:List Tm):Bool:=decide (l.length<=20)&&l.all (sT s)
theorem Lg(s:aX)(hs:s.Fits)(l:List Tm)(hl:l.length<=9223372036854775807)(hf:∀t∈l,t.fits):a7 Tryz.prog 88 [s.d, .sl (l.map Tm.d)] (.ret [.bool (kH s l)]):=by
 refine a7.aA mix Zm aj ?_
 rw[c88]
 unfold kH
 by_cases h0: ¬l.length<=20
 ·have AG:decide ((l.length:Int)<=20)=false:=by simp;omega
  have Et:decide (l.length<=20)=false:=by simp;omega
  refine eR AG ?_
  rw[Et];rfl
 have AG:decide ((l.length:Int)<=20)=true:=by simp;omega
 have Et:decide (l.length<=20)=true:=by simp;omega
 rw[Et,Bool.true_and]
 refine eR AG ?_
 refine bc (rT (σ:=Unit) l hl 122 [.ptr 0 0] 1 (fun _=>aL (fun _=> .no) 0 (.row s.row)) (fun _ x=>((),sT s x)) lU (fun _=>True) (fun _ _ _ _ _=>trivial) (fun x hx _ _=>Ov s hs x (hf x hx) 1 0 _ (ae _ _ _) ad) () trivial _ _ ⟨dg,ad,fun id aB=> ?_⟩ _ _ fun o2 n2 m1 m2 m3=> ?_)
 ·first|rfl|exact sr
 rw[vC]
 simp+contextual (disch:=first|omega|simp only[go_sem,false_implies]) only[go_sem,wrap64,if_pos,Nat.add_assoc,Nat.left_eq_add,Nat.add_eq_left,Nat.add_left_cancel_iff]
def jr(s:aX)(m:Int)(x:Pf×Int):Bool:=(decide (500<m)||decide (150<x.2))|| !sT s x.1.val|| !kH s x.1.binds||(x.1.b7 !=6&&(x.1.num !=0||decide (0<(x.1.binds.length:Int))))
def jb(s:aX)(st:Int×Bool)(x:Pf×Int):Int×Bool:=(st.1+1, !jr s (st.1+1) x)
def Mu(st:Int×Bool):Option jI:=if st.2=true then none else some .ret
def sX(s:aX)(f:Pf):Bool:=(az (mK Mu (jb s)) (0,true) (dA f 1)).2
theorem HU(p:Pg)(hp:p.Fin)(f:Pf)(hf:f.fits)(hd:f.iU<=900000)(bz:∀x∈dA f 1,x.1.fits):a7 Tryz.prog 55 [p.d,f.d] (.ret [.bool (sX p.sig f)]):=by
 refine a7.aA mix Ze aj ?_
 rw[c55]
 refine iC ?_
 refine c6 (HT f _ _ _ _ ?_)
 refine iC ?_
 refine Aj (σ:=Int×Bool) f hf hd [.aa, .aa, .ptr 0 0, .aa, .ptr 2 0, .ptr 3 0] ?_ aV rfl dg lU (ae _ _ _)
  (fun b=>aL (aL (aL (aL (aL (fun _=> .no) 0 (.row p.row)) 1 (.row f.row)) 2 (.row [.d (.bool false)])) 6 (.row f.row)) 3 (.row [.d (.i b.1)])) Mu (jb p.sig) (fun b=>0<=b.1/\b.1<=500) (0,true) ⟨aV,aV⟩ rfl (fun id aB=> ?_) (fun x _ s hs _ h2=> ?_) ?_ ?_
 ·exact IU
 ·first|exact sr|(rw[jh];exact sr)
 ·have hb:jr p.sig (s.1+1) x=false:=by
   cases h:jr p.sig (s.1+1) x with
   |false=>rfl
   |true=>simp[jb,Mu,h]at h2
  simp only[jr,Bool.or_eq_false_iff,decide_eq_false_iff_not]at hb
  simp only[jb]
  omega
 ·intro L hL wg x hx s' h1 h2 o3 n3 hI hn ho K X cN
  simp only[nn]
  have hg:=hI.bN
  have q1:o3 3= .row [.d (.i s'.1)]:=hI.eq 3 ad
  have q2:o3 0= .row p.row:=hI.eq 0 ad
  have q3:o3 2= .row [.d (.bool false)]:=hI.eq 2 ad
  refine aI ?_
  refine nC hL (pd:=none) ?_ ?_
  ·(repeat(first|rfl|rw[ae]|rw[ai _ _ _ _ (by omega)]))
   exact ho
  refine uc q1 q2 ?_
  have same:∀ (o':Nat->ab) (n':Nat),Good o' n'->n3<=n'->(∀j,j<10->o' j=aL o3 3 (.row [.d (.i (s'.1+1))]) j)->cT 10 (aL (aL (aL (aL (aL (fun _=> .no) 0 (.row p.row)) 1 (.row f.row)) 2 (.row [.d (.bool false)])) 6 (.row f.row)) 3 (.row [.d (.i (s'.1+1))])) o' n':=fun o' n' k1 k2 k3=>⟨k1,ad,fun j hj=>by
   rw[k3 j hj]
   by_cases e:j=3
   ·subst e;(repeat(first|rfl|rw[ae]|rw[ai _ _ _ _ (by omega)]))
   ·rw[ai _ 3 _ _ e,ai _ 3 _ _ e,hI.eq j hj,ai _ 3 _ _ e]⟩
  have hxf:=(Pf.aP _).1 (bz x hx)
  have bad:jr p.sig (s'.1+1) x=true->jb p.sig s' x=(s'.1+1,false):=fun h=>by simp[jb,h]
  have bN:jr p.sig (s'.1+1) x=false->jb p.sig s' x=(s'.1+1,true):=fun h=>by simp[jb,h]
  cases c1:(decide (500<s'.1+1)||decide (150<x.2))with
  |true=>
   rw[bad (by unfold jr;rw[c1];rfl)]at cN
   refine MB c1 q1 q2 q3 ?_
   refine cN _ _ _ .busy none ad (same _ _ dg ad fun j hj=> ?_) eh (fun id h3 h4=>by(repeat(first|rfl|rw[ae]|rw[ai _ _ _ _ (by omega)])))
   by_cases e:j=2
   ·subst e;(repeat(first|rfl|rw[ae]|rw[ai _ _ _ _ (by omega)]))
    exact q3.symm
   ·by_cases e3:j=3
    ·subst e3;(repeat(first|rfl|rw[ae]|rw[ai _ _ _ _ (by omega)]))
    ·exact eh
  |false=>
   refine yG c1 q1 q2 ?_
   refine ah (Ad p.sig hp.sig x.1.val hxf.1) rfl ?_
   cases c2:sT p.sig x.1.val with
   |false=>
    rw[bad (by unfold jr;rw[c1,c2];rfl)]at cN
    refine MB c1 q1 q2 q3 ?_
    refine cN _ _ _ .busy none ad (same _ _ dg ad fun j hj=> ?_) eh (fun id h3 h4=>by(repeat(first|rfl|rw[ae]|rw[ai _ _ _ _ (by omega)])))
    by_cases e:j=2
    ·subst e;(repeat(first|rfl|rw[ae]|rw[ai _ _ _ _ (by omega)]))
     exact q3.symm
    ·by_cases e3:j=3
     ·subst e3;(repeat(first|rfl|rw[ae]|rw[ai _ _ _ _ (by omega)]))
     ·exact eh
   |true=>
    refine yG c1 q1 q2 ?_
    refine ah (Lg p.sig hp.sig x.1.binds hxf.2.1 hxf.2.2.1) rfl ?_
    cases c3:kH p.sig x.1.binds with
    |false=>
     rw[bad (by unfold jr;rw[c1,c2,c3];rfl)]at cN
     refine MB c1 q1 q2 q3 ?_
     refine cN _ _ _ .busy none ad (same _ _ dg ad fun j hj=> ?_) eh (fun id h3 h4=>by(repeat(first|rfl|rw[ae]|rw[ai _ _ _ _ (by omega)])))
     by_cases e:j=2
     ·subst e;(repeat(first|rfl|rw[ae]|rw[ai _ _ _ _ (by omega)]))
      exact q3.symm
     ·by_cases e3:j=3
      ·subst e3;(repeat(first|rfl|rw[ae]|rw[ai _ _ _ _ (by omega)]))
      ·exact eh
    |true=>
     refine MB c1 q1 q2 q3 ?_
     refine ak (fun h5=> ?_) (fun h5=> ?_)
     ·rw[bad (by unfold jr;rw[c1,c2,c3,h5];rfl)]at cN
      refine dz q3 ?_
      refine cN _ _ _ .busy none ad (same _ _ dg ad fun j hj=> ?_) eh (fun id h3 h4=>by(repeat(first|rfl|rw[ae]|rw[ai _ _ _ _ (by omega)])))
      by_cases e:j=2
      ·subst e;(repeat(first|rfl|rw[ae]|rw[ai _ _ _ _ (by omega)]))
       exact q3.symm
      ·by_cases e3:j=3
       ·subst e3;(repeat(first|rfl|rw[ae]|rw[ai _ _ _ _ (by omega)]))
       ·exact eh
     ·have AE:(x.1.b7 !=6&&(x.1.num !=0||decide (0<(x.1.binds.length:Int))))=false:=by simpa using h5
      rw[bN (by unfold jr;rw[c1,c2,c3,AE];rfl)]at cN
      refine aI ?_
      refine cN _ _ _ .busy none ad (same _ _ dg ad fun j hj=>by
       by_cases e3:j=3
       ·subst e3;(repeat(first|rfl|rw[ae]|rw[ai _ _ _ _ (by omega)]))
       ·(repeat(first|rfl|rw[ae]|rw[ai _ _ _ _ (by omega)]))) eh (fun id h3 h4=>by(repeat(first|rfl|rw[ae]|rw[ai _ _ _ _ (by omega)])))
 ·intro o' n' hI
  have q1:o' 2= .row [.d (.bool false)]:=hI.eq 2 ad
  rw[show sX p.sig f=(Mu (az (mK Mu (jb p.sig)) (0,true) (dA f 1)).1).isNone from CG _ _ _ _ rfl]
  generalize (az (mK Mu (jb p.sig)) (0,true) (dA f 1)).1=sf at*
  obtain⟨m,b⟩:=sf
  cases b<;>(simp only[Mu,if_true,if_false,Bool.false_eq_true,oX];simp+contextual (disch:=first|omega|simp only[go_sem,false_implies]) only[go_sem,wrap64,if_pos,q1];try rfl)
theorem HV:∀ (t:Pf) (d:Int),t.fits->∀x∈dA t d,x.1.fits:=by
 refine Pf.cC fun t ih d hf x hx=> ?_
 rw[qE]at hx
 rcases List.mem_cons.1 hx with e|e
 ·rw[e];exact hf
 ·obtain⟨k,hk,h⟩:=List.mem_flatMap.1 e
  exact ih k hk (d+1) (((Pf.aP t).1 hf).2.2.2.2 k hk) x h
theorem Ev(p:Pg)(hp:p.Fin)(f:Pf)(hf:f.fits)(hd:f.iU<=900000):a7 Tryz.prog 55 [p.d,f.d] (.ret [.bool (sX p.sig f)]):=HU p hp f hf hd (HV f 1 hf)
def Ew(s:aX)(x:Pf×Int):Bool:=decide (x.2<=150)&&sT s x.1.val&&kH s x.1.binds&&(x.1.b7==6||(x.1.num==0&&x.1.binds.length==0))
theorem yl(s:aX)(m:Int)(x:Pf×Int):jr s m x=false↔m<=500/\Ew s x=true:=by
 unfold jr Ew
 simp only[Bool.or_eq_false_iff,Bool.and_eq_true,decide_eq_false_iff_not,decide_eq_true_eq,Bool.not_eq_false',Bool.and_eq_false_imp,Bool.or_eq_true,beq_iff_eq,bne_iff_ne,bne_eq_false_iff_eq]
 constructor
 ·rintro⟨⟨⟨⟨a,b⟩,c⟩,d⟩,e⟩
  refine⟨ad,⟨⟨ad,c⟩,d⟩, ?_⟩
  by_cases h:x.1.b7=6
  ·exact .inl h
  ·have:=e h
   exact .inr ⟨this.1,ad⟩
 ·rintro⟨a,⟨⟨b,c⟩,d⟩,e⟩
  refine⟨⟨⟨⟨ad,ad⟩,c⟩,d⟩,fun h=> ?_⟩
  rcases e with e|e
  ·exact absurd e h
  ·exact⟨e.1,ad⟩
theorem FZ(s:aX):∀ (L:List (Pf×Int)) (m:Int),(az (mK Mu (jb s)) (m,true) L).2=true↔(L=[]\/m+L.length<=500)/\∀x∈L,Ew s x=true
 |[],m=>by simp[az]
 |x::L,m=>by
  have e1:mK Mu (jb s) (m,true) x=((m+1, !jr s (m+1) x), !jr s (m+1) x):=by
   cases h:jr s (m+1) x<;>simp[mK,jb,Mu,h]
  rw[az,e1]
  cases hb:jr s (m+1) x with
  |true=>
   have hn: ¬ (m+1<=500/\Ew s x=true):=fun h=>by
    rw[(yl s (m+1) x).2 h]at hb;cases hb
   simp only[Bool.not_true,Bool.false_eq_true,if_false,false_iff]
   rintro⟨a,b⟩
   refine hn ⟨?_,b x aj⟩
   rcases a with a|a
   ·cases a
   ·simp at a;omega
  |false=>
   obtain⟨h1,h2⟩:=(yl s (m+1) x).1 hb
   simp only[Bool.not_false,if_true]
   rw[FZ s L (m+1)]
   constructor
   ·rintro⟨a,b⟩
    refine⟨.inr ?_,fun y hy=>(List.mem_cons.1 hy).elim (fun e=>e ▸ h2) (b y)⟩
    rcases a with a|a
    ·subst a;simp;omega
    ·simp;omega
   ·rintro⟨a,b⟩
    refine⟨?_,fun y hy=>b y AU⟩
    rcases a with a|a
    ·cases a
    ·simp at a;exact .inr ad
theorem Lh(s:aX)(f:Pf):sX s f=true↔(dA f 1).length<=500/\∀x∈dA f 1,Ew s x=true:=by
 unfold sX
 rw[FZ]
 have hn:dA f 1≠[]:=by rw[qE];simp
 simp only[hn,false_or]
 constructor
 ·rintro⟨a,b⟩;exact⟨ad,b⟩
 ·rintro⟨a,b⟩;exact⟨ad,b⟩
def kG(op v:Int)(xs:List Tm):Nat:=xs.countP fun x=>x.op==op&&x.n==v
theorem F0:∀ (m:List (Int×Int)) (v w u:Int),lk (lq m v w) u=if v=u then some w else lk m u
 |[],v,w,u=>by simp only[lq,lk]
 |p::m,v,w,u=>by
  have ih:=F0 m v w u
  unfold lq
  by_cases h:p.1=v
  ·rw[if_pos h]
   simp only[lk]
   by_cases h2:v=u
   ·simp[h2]
   ·have: ¬p.1=u:=by rw[h];exact h2
    simp[h2,this]
  ·rw[if_neg h]
   simp only[lk]
   by_cases h2:p.1=u
   ·have: ¬v=u:=by intro e;exact h (h2.trans e.symm)
    simp[h2,this]
   ·simp only[h2,if_false];exact ih
theorem CH:∀ (m:List (Int×Int)) (v w u:Int),u∈(lq m v w).map (·.1)↔u=v\/u∈m.map (·.1)
 |[],v,w,u=>by simp[lq]
 |p::m,v,w,u=>by
  have ih:=CH m v w u
  unfold lq
  by_cases h:p.1=v
  ·rw[if_pos h];simp[h]
  ·rw[if_neg h,List.map_cons,List.mem_cons,ih,List.map_cons,List.mem_cons]
   constructor
   ·rintro(h1|h1|h1)<;>simp[h1]
   ·rintro(h1|h1|h1)<;>simp[h1]
theorem ym:∀ (m:List (Int×Int)) (v w:Int),tA m->tA (lq m v w)
 |[],v,w,_=>by simp[lq,tA]
 |p::m,v,w,hk=>by
  have AV:p.1∉m.map (·.1)/\tA m:=by
   unfold tA at hk|-
   rwa [List.map_cons,List.nodup_cons]at hk
  have ih:=ym m v w AV.2
  unfold lq
  by_cases h:p.1=v
  ·rw[if_pos h]
   unfold tA
   rw[List.map_cons,List.nodup_cons]
   exact⟨by rw[<- h];exact AV.1,AV.2⟩
  ·rw[if_neg h]
   unfold tA
   rw[List.map_cons,List.nodup_cons]
   exact⟨fun hm=>by
    rcases(CH m v w p.1).1 hm with e|e
    ·exact h e
    ·exact AV.1 e,ih⟩
theorem Ex(op:Int):∀ (xs:List Tm) (m:List (Int×Int)) (c:Int->Nat),tA m->(∀v,lk m v=if c v=0 then none else some (c v:Int))->(∀v,c v+xs.length<=1000000)->
 tA (xs.foldl (dW op) m)/\∀v,lk (xs.foldl (dW op) m) v=if c v+kG op v xs=0 then none else some ((c v+kG op v xs:Nat):Int)
 |[],m,c,hk,hl,_=>⟨hk,fun v=>by rw[List.foldl_nil,hl v];rfl⟩
 |x::xs,m,c,hk,hl,hb=>by
  simp only[List.foldl_cons]
  by_cases h:x.op=op
  ·have hg:gY m x.n=(c x.n:Int):=by
    unfold gY;rw[hl];split
    ·next h0=>rw[h0];rfl
    ·rfl
   have Mp:=hb x.n
   simp only[List.length_cons]at Mp hb
   have e1:dW op m x=lq m x.n ((c x.n+1:Nat):Int):=by
    unfold dW tC
    rw[if_pos h,hg,wrap64 (by omega) (by omega)]
    push_cast;rfl
   rw[e1]
   have ih:=Ex op xs (lq m x.n ((c x.n+1:Nat):Int)) (fun v=>c v+if x.n=v then 1 else 0) (ym _ _ _ hk) (fun v=>by
    rw[F0]
    by_cases e:x.n=v
    ·subst e;simp
    ·simp[e,hl v]) (fun v=>by have:=hb v;split<;>omega)
   refine⟨ih.1,fun v=> ?_⟩
   rw[ih.2 v]
   have e2:(c v+if x.n=v then 1 else 0)+kG op v xs=c v+kG op v (x::xs):=by
    unfold kG
    rw[List.countP_cons]
    by_cases e:x.n=v<;>simp[h,e]<;>omega
   rw[e2]
  ·have e1:dW op m x=m:=by unfold dW;rw[if_neg h]
   rw[e1]
   have ih:=Ex op xs m c hk hl (fun v=>by have:=hb v;simp at this;omega)
   refine⟨ih.1,fun v=> ?_⟩
   rw[ih.2 v]
   have e2:kG op v (x::xs)=kG op v xs:=by
    unfold kG
    rw[List.countP_cons];simp[h]
   rw[e2]
def n6(l:List Tm):List Tm:=l.flatMap iF
theorem F1(op:Int)(l:List Tm)(hb:(n6 l).length<=1000000):tA (dX op l)/\∀v,lk (dX op l) v=if kG op v (n6 l)=0 then none else some (kG op v (n6 l):Int):=by
 have:=Ex op (n6 l) [] (fun _=>0) List.nodup_nil (fun v=>by simp[lk]) (fun v=>by simpa using hb)
 refine⟨this.1,fun v=> ?_⟩
 have h:=this.2 v
 rw[Nat.zero_add]at h
 exact h
theorem CI(op:Int)(l:List Tm)(hb:(n6 l).length<=1000000)(v:Int):gY (dX op l) v=(kG op v (n6 l):Int):=by
 unfold gY
 rw[(F1 op l hb).2 v]
 split
 ·next h=>rw[h];rfl
 ·rfl
theorem vH(op:Int)(l:List Tm)(hb:(n6 l).length<=1000000)(p:Int×Int->Bool):(dX op l).all p=true↔∀v,0<kG op v (n6 l)->p (v,(kG op v (n6 l):Int))=true:=by
 obtain⟨hk,hl⟩:=F1 op l hb
 rw[List.all_eq_true]
 constructor
 ·intro h v hv
  refine h _ ((FV hk).1 ?_)
  rw[hl v,if_neg (by omega)]
 ·rintro h ⟨v,c⟩ hm
  have h1:=(FV hk).2 hm
  rw[hl v]at h1
  split at h1
  ·cases h1
  ·next h0=>
   injection h1 with h1
   have:=h v ad
   rw[h1]at this
   exact this
theorem Ow(m:List (Int×Int)):∀ (t:Tm) (nZ:List Int),Ag m t nZ=true↔∀v,rX v t=true->gY m v=0\/v∈nZ:=by
 refine Tm.cC fun t ih nZ=> ?_
 have key:∀ (l:List Tm) (i:Nat),(∀k∈l,k∈t.kids)->(qC m t.op t.n l i nZ=true↔∀v,gZ v t.op t.n l i=true->gY m v=0\/v∈nZ):=by
  intro l
  induction l with
  |nil=>intro i _;simp[qC,gZ]
  |cons k l oj=>
   intro i hk
   have h1:=ih k (hk k aj) (if t.op=8/\i=1 then nZ++[t.n]else nZ)
   have h2:=oj (i+1) (fun x hx=>hk x lu)
   simp only[qC,gZ,Bool.and_eq_true,h1,h2,Bool.or_eq_true]
   by_cases hc:t.op=8/\i=1
   ·simp only[hc,and_self,if_true,List.mem_append,List.mem_singleton]
    constructor
    ·rintro⟨a,b⟩ v (⟨c,d⟩|c)
     ·rcases a v c with e|e|e
      ·exact .inl e
      ·exact .inr e
      ·subst e;simp at d
     ·exact b v c
    ·intro a
     refine⟨fun v c=> ?_,fun v c=>a v (.inr c)⟩
     by_cases e:v=t.n
     ·exact .inr (.inr e)
     ·rcases a v (.inl ⟨c,by simp;exact fun e2=>e e2.symm⟩)with g|g
      ·exact .inl g
      ·exact .inr (.inl g)
   ·have hb:(t.op==8&&i==1)=false:=by
     cases h:(t.op==8&&i==1)with
     |false=>rfl
     |true=>simp at h;exact absurd h hc
    simp only[hc,if_false,hb,Bool.false_and,Bool.not_false,and_true]
    constructor
    ·rintro⟨a,b⟩ v (c|c)
     ·exact a v c
     ·exact b v c
    ·intro a
     exact⟨fun v c=>a v (.inl c),fun v c=>a v (.inr c)⟩
 rw[FW]
 by_cases h:t.op=1
 ·rw[if_pos h]
  simp only[gH,h,if_true]
  simp
 ·rw[if_neg h,key t.kids 0 (fun _ h=>h)]
  simp only[gH,h,if_false]
theorem HW(s:aX)(r:Rl)(h1:(n6 r.bg).length<=1000000)(h2:(n6 [r.rhs]).length<=1000000):fk s r=true↔mB s r=true/\
 (∀v,0<kG 1 v (n6 r.bg)->kG 1 v (n6 r.bg)<=1/\v<r.vars)/\(∀v,0<kG 1 v (n6 [r.rhs])->v<r.vars)/\
 (∀v,0<kG 8 v (n6 [r.rhs])->kG 8 v (n6 [r.rhs])<=1/\v<r.vars/\kG 1 v (n6 r.bg)=0)/\(∀v,rX v r.rhs=true->kG 8 v (n6 [r.rhs])=0):=by
 unfold fk
 simp only[Bool.and_eq_true,vH 1 r.bg h1,vH 1 [r.rhs] h2,vH 8 [r.rhs] h2,Ow,CI 1 r.bg h1,CI 8 [r.rhs] h2,decide_eq_true_eq]
 constructor
 ·rintro⟨⟨⟨⟨a,b⟩,c⟩,d⟩,e⟩
  refine⟨a,fun v hv=> ?_,c,fun v hv=> ?_,fun v hv=> ?_⟩
  ·have:=b v hv;omega
  ·have:=d v hv;omega
  ·rcases e v hv with g|g
   ·omega
   ·cases g
 ·rintro⟨a,b,c,d,e⟩
  refine⟨⟨⟨⟨a,fun v hv=> ?_⟩,c⟩,fun v hv=> ?_⟩,fun v hv=> .inl ?_⟩
  ·have:=b v hv;omega
  ·have:=d v hv;omega
  ·have:=e v hv;omega
def kB:List Int->Int->List Int
 |[],n=>[n]
 |x::l,n=>if x<n then x::kB l n else if x=n then x::l else n::x::l
def mo(op n:Int)(i:Nat)(l out:List Int):List Int:=l.foldl (fun out v=>if(op !=8||(i:Int)!=1||v !=n)=true then kB out v else out) out
mutual
def bG:Tm->List Int
 | .mk op n kids=>if op=1 then [n]else jD op n kids 0 []
def jD(op n:Int):List Tm->Nat->List Int->List Int
 |[],_,out=>out
 |k::l,i,out=>jD op n l (i+1) (mo op n i (bG k) out)
end
theorem nH(t:Tm):bG t=if t.op=1 then [t.n]else jD t.op t.n t.kids 0 []:=by cases t;rfl
theorem qF:∀ (l:List Int) (n v:Int),v∈kB l n↔v∈l\/v=n
 |[],n,v=>by simp[kB]
 |x::l,n,v=>by
  simp only[kB]
  split
  ·simp only[List.mem_cons,qF l n v];constructor
   ·rintro(h|h|h)
    ·exact .inl (.inl h)
    ·exact .inl (.inr h)
    ·exact .inr h
   ·rintro((h|h)|h)
    ·exact .inl h
    ·exact .inr (.inl h)
    ·exact .inr (.inr h)
  ·split
   ·rename_i h;subst h;simp only[List.mem_cons];constructor
    ·exact .inl
    ·rintro(h|h)
     ·exact h
     ·exact .inl h
   ·simp only[List.mem_cons];constructor
    ·rintro(h|h)
     ·exact .inr h
     ·exact .inl h
    ·rintro(h|h)
     ·exact .inr h
     ·exact .inl h
abbrev Mv(l:List Int):Prop:=l.Pairwise (· <·)
theorem CJ:∀ {l:List Int} (n:Int),Mv l->Mv (kB l n)
 |[],n,_=>by simp[kB]
 |x::l,n,h=>by
  have h1:=List.pairwise_cons.1 h
  simp only[kB]
  split
  ·rename_i hx
   refine List.pairwise_cons.2 ⟨fun y hy=> ?_,CJ n h1.2⟩
   rcases(qF l n y).1 hy with hy|hy
   ·exact h1.1 y hy
   ·omega
  ·split
   ·exact h
   ·refine List.pairwise_cons.2 ⟨fun y hy=> ?_,h⟩
    rcases List.mem_cons.1 hy with hy|hy
    ·omega
    ·have:=h1.1 y hy;omega
theorem sc(op n:Int)(i:Nat):∀ (l out:List Int),Mv out->Mv (mo op n i l out)/\∀v,v∈mo op n i l out↔v∈out\/(v∈l/\ ¬ (op=8/\i=1/\n=v))
 |[],out,h=>⟨h,fun v=>by simp[mo]⟩
 |x::l,out,h=>by
  have hk:mo op n i (x::l) out=mo op n i l (if(op !=8||(i:Int)!=1||x !=n)=true then kB out x else out):=rfl
  rw[hk]
  by_cases hc:(op !=8||(i:Int)!=1||x !=n)=true
  ·rw[if_pos hc]
   have ih:=sc op n i l (kB out x) (CJ x h)
   refine⟨ih.1,fun v=> ?_⟩
   rw[ih.2 v,qF,List.mem_cons]
   have tj: ¬ (op=8/\i=1/\n=x):=by
    rintro⟨h1,h2,h3⟩;subst h1;subst h2;subst h3;simp at hc
   constructor
   ·rintro((h|h)|h)
    ·exact .inl h
    ·subst h;exact .inr ⟨.inl rfl,tj⟩
    ·exact .inr ⟨.inr h.1,h.2⟩
   ·rintro(h|⟨h|h,h2⟩)
    ·exact .inl (.inl h)
    ·exact .inl (.inr h)
    ·exact .inr ⟨h,h2⟩
  ·rw[if_neg hc]
   have ih:=sc op n i l out h
   refine⟨ih.1,fun v=> ?_⟩
   rw[ih.2 v,List.mem_cons]
   have tj:op=8/\i=1/\n=x:=by simp at hc;exact⟨hc.1.1,ad,hc.2.symm⟩
   constructor
   ·rintro(h|h)
    ·exact .inl h
    ·exact .inr ⟨.inr h.1,h.2⟩
   ·rintro(h|⟨h|h,h2⟩)
    ·exact .inl h
    ·subst h;exact absurd tj h2
    ·exact .inr ⟨h,h2⟩
theorem dK:∀t:Tm,Mv (bG t)/\∀v,v∈bG t↔rX v t=true:=by
 refine Tm.cC fun t ih=> ?_
 have hs:∀ (l:List Tm) (i:Nat) (out:List Int),(∀k∈l,k∈t.kids)->Mv out->Mv (jD t.op t.n l i out)/\∀v,v∈jD t.op t.n l i out↔v∈out\/gZ v t.op t.n l i=true:=by
  intro l
  induction l with
  |nil=>intro i out _ h;exact⟨h,fun v=>by simp[jD,gZ]⟩
  |cons k l oj=>
   intro i out hk h
   have h1:=ih k (hk k aj)
   have h2:=sc t.op t.n i (bG k) out h
   have h3:=oj (i+1) _ (fun x hx=>hk x lu) h2.1
   refine⟨h3.1,fun v=> ?_⟩
   show v∈jD t.op t.n l (i+1) (mo t.op t.n i (bG k) out)↔_
   rw[h3.2 v,h2.2 v,h1.2 v,gZ]
   simp only[Bool.or_eq_true,Bool.and_eq_true,Bool.not_eq_true',Bool.and_eq_false_iff,beq_eq_false_iff_ne,ne_eq,not_and]
   have:(∀ (_:t.op=8) (_:i=1), ¬t.n=v)↔((¬t.op=8\/ ¬i=1)\/ ¬t.n=v):=by
    constructor
    ·intro h
     by_cases c1:t.op=8
     ·by_cases c2:i=1
      ·exact .inr (h c1 c2)
      ·exact .inl (.inr c2)
     ·exact .inl (.inl c1)
    ·rintro((h|h)|h) c1 c2
     ·exact absurd c1 h
     ·exact absurd c2 h
     ·exact h
   rw[this]
   constructor
   ·rintro((h|h)|h)
    ·exact .inl h
    ·exact .inr (.inl h)
    ·exact .inr (.inr h)
   ·rintro(h|h|h)
    ·exact .inl (.inl h)
    ·exact .inl (.inr h)
    ·exact .inr h
 by_cases h1:t.op=1
 ·rw[nH,if_pos h1]
  refine⟨aj,fun v=> ?_⟩
  rw[gH,if_pos h1]
  simp only[List.mem_singleton,beq_iff_eq]
  exact eq_comm
 ·rw[nH,if_neg h1]
  have:=hs t.kids 0 [] (fun _ h=>h) aj
  refine⟨this.1,fun v=> ?_⟩
  rw[this.2 v,gH,if_neg h1]
  simp
theorem Li:∀ {l l':List Int},Mv l->Mv l'->(∀v,v∈l↔v∈l')->l=l'
 |[],[],_,_,_=>rfl
 |[],y::l',_,_,h=>by have:=(h y).2 aj;cases this
 |x::l,[],_,_,h=>by have:=(h x).1 aj;cases this
 |x::l,y::l',h1,h2,h=>by
  have g1:=List.pairwise_cons.1 h1
  have g2:=List.pairwise_cons.1 h2
  have e:x=y:=by
   rcases List.mem_cons.1 ((h x).1 aj)with e|e
   ·exact e
   ·rcases List.mem_cons.1 ((h y).2 aj)with e2|e2
    ·exact e2.symm
    ·have:=g2.1 x e;have:=g1.1 y e2;omega
  subst e
  rw[Li g1.2 g2.2 fun v=> ?_]
  constructor
  ·intro hv
   rcases List.mem_cons.1 ((h v).1 (by simp[hv]))with e|e
   ·subst e;exact absurd (g1.1 v hv) ad
   ·exact e
  ·intro hv
   rcases List.mem_cons.1 ((h v).2 (by simp[hv]))with e|e
   ·subst e;exact absurd (g2.1 v hv) ad
   ·exact e
theorem Ey{α:Type}{l:List α}{i:Nat}{n:α}(h:l[i]? =some n):(n::l.eraseIdx i).Perm l:=by
 obtain⟨hi,e⟩:=List.getElem?_eq_some_iff.1 h
 have te:l=l.take i++n::l.drop (i+1):=by rw[<- e,List.getElem_cons_drop,List.take_append_drop]
 rw[List.eraseIdx_eq_take_drop_succ]
 conv=>rhs;rw[te]
 exact List.perm_middle.symm
theorem vI:∀ (l:List Int) (n:Int),(kB l n).length<=l.length+1
 |[],n=>by simp[kB]
 |x::l,n=>by
  have:=vI l n
  simp only[kB]
  split
  ·simp;omega
  ·split<;>simp
theorem nI(op n:Int)(i:Nat):∀ (l out:List Int),(mo op n i l out).length<=out.length+l.length
 |[],out=>by simp[mo]
 |x::l,out=>by
  have hk:mo op n i (x::l) out=mo op n i l (if(op !=8||(i:Int)!=1||x !=n)=true then kB out x else out):=rfl
  rw[hk]
  have h1:=vI out x
  split
  ·have:=nI op n i l (kB out x);simp;omega
  ·have:=nI op n i l out;simp;omega
theorem gV:∀t:Tm,(bG t).length<=t.sz:=by
 refine Tm.cC fun t ih=> ?_
 have hs:∀ (l:List Tm) (i:Nat) (out:List Int),(∀k∈l,k∈t.kids)->(jD t.op t.n l i out).length<=out.length+hY l:=by
  intro l
  induction l with
  |nil=>intro i out _;simp[jD]
  |cons k l oj=>
   intro i out hk
   have h1:=ih k (hk k aj)
   have h2:=nI t.op t.n i (bG k) out
   have h3:=oj (i+1) (mo t.op t.n i (bG k) out) (fun x hx=>hk x lu)
   rw[eJ]
   show(jD t.op t.n l (i+1) (mo t.op t.n i (bG k) out)).length<=_
   omega
 rw[nH,Tm.ky]
 split
 ·simp
 ·have:=hs t.kids 0 [] (fun _ h=>h);simp at this;omega
theorem HX{s:aX}{l:List Tm}(h:cX s l=true):∀t∈l,t.sz<=40/\t.iU<=12:=by
 intro t ht
 rw[HH]at h
 simp only[Em,Bool.and_eq_true,List.all_eq_true,dL,decide_eq_true_eq,kz]at h
 have:=(h.2 t ht).1
 omega
theorem Ox(t:Tm):n6 [t]=iF t:=by simp[n6]
theorem CK(op v:Int)(x:Tm)(l:List Tm):kG op v (x::l)=kG op v l+if x.op=op/\x.n=v then 1 else 0:=by
 unfold kG
 rw[List.countP_cons]
 by_cases h:x.op=op/\x.n=v
 ·simp[h]
 ·rw[if_neg h,if_neg (by simpa using h)]
theorem Ez(op v:Int)(a b:List Tm):kG op v (a++b)=kG op v a+kG op v b:=by unfold kG;rw[List.countP_append]
theorem jN(op v:Int)(l:List Tm):0<kG op v l↔∃x∈l,x.op=op/\x.n=v:=by
 unfold kG
 rw[List.countP_pos_iff]
 simp
mutual
def cJ:Tm->List Int
 | .mk op n kids=>(if op=8 then [n]else [])++bJ kids
def bJ:List Tm->List Int
 |[]=>[]
 |k::l=>cJ k++bJ l
end
theorem jc(t:Tm):cJ t=(if t.op=8 then [t.n]else [])++bJ t.kids:=by cases t;rw[cJ];rfl
theorem nJ:∀ (t:Tm) (v:Int),(cJ t).count v=kG 8 v (iF t):=by
 refine Tm.cC fun t ih v=> ?_
 have key:∀l:List Tm,(∀k∈l,k∈t.kids)->(bJ l).count v=kG 8 v (l.flatMap iF):=by
  intro l
  induction l with
  |nil=>intro _;rfl
  |cons k l oj=>
   intro hk
   rw[bJ,List.count_append,ih k (hk k (by simp)) v,oj (fun x hx=>hk x (by simp[hx])),List.flatMap_cons,Ez]
 rw[jc,List.count_append,key t.kids (fun _ h=>h),nG,CK]
 by_cases h:t.op=8
 ·by_cases h2:t.n=v
  ·simp[h,h2];omega
  ·simp[h,h2]
 ·simp[h]
theorem sd(t:Tm)(v:Int):v∈cJ t↔0<kG 8 v (iF t):=by
 rw[<- nJ,List.count_pos_iff]
mutual
def dw(n:Int):Tm->Bool
 | .mk op k kids=>fY n kids&&((op !=1&&op !=8)||decide (k<n))
def fY(n:Int):List Tm->Bool
 |[]=>true
 |k::l=>dw n k&&fY n l
end
theorem px(n:Int)(t:Tm):dw n t=(fY n t.kids&&((t.op !=1&&t.op !=8)||decide (t.n<n))):=by cases t;rw[dw];rfl
theorem py(n:Int):∀t:Tm,dw n t=true↔∀x∈iF t,x.op=1\/x.op=8->x.n<n:=by
 refine Tm.cC fun t ih=> ?_
 have key:∀l:List Tm,(∀k∈l,k∈t.kids)->(fY n l=true↔∀x∈l.flatMap iF,x.op=1\/x.op=8->x.n<n):=by
  intro l
  induction l with
  |nil=>intro _;simp[fY]
  |cons k l oj=>
   intro hk
   rw[fY,Bool.and_eq_true,ih k (hk k (by simp)),oj (fun x hx=>hk x (by simp[hx])),List.flatMap_cons]
   simp only[List.mem_append]
   constructor
   ·rintro⟨a,b⟩ x (h|h)
    ·exact a x h
    ·exact b x h
   ·intro a
    exact⟨fun x h=>a x (.inl h),fun x h=>a x (.inr h)⟩
 rw[px,Bool.and_eq_true,key t.kids (fun _ h=>h),nG]
 simp only[List.mem_cons,Bool.or_eq_true,Bool.and_eq_true,bne_iff_ne,decide_eq_true_eq]
 constructor
 ·rintro⟨a,b⟩ x (h|h) h2
  ·subst h
   rcases b with⟨b1,b2⟩|b
   ·rcases h2 with e|e
    ·exact absurd e b1
    ·exact absurd e b2
   ·exact b
  ·exact a x h h2
 ·intro a
  refine⟨fun x h=>a x (.inr h), ?_⟩
  by_cases h:t.op=1\/t.op=8
  ·exact .inr (a t (.inl rfl) h)
  ·exact .inl ⟨fun e=>h (.inl e),fun e=>h (.inr e)⟩
theorem EA(n:Int)(t:Tm):dw n t=true↔(∀v,0<kG 1 v (iF t)->v<n)/\∀v,0<kG 8 v (iF t)->v<n:=by
 rw[py]
 constructor
 ·intro a
  refine⟨fun v h=> ?_,fun v h=> ?_⟩<;>(obtain⟨x,h1,h2,h3⟩:=(jN _ _ _).1 h;rw[<- h3];exact a x h1 (by simp[h2]))
 ·rintro⟨a,b⟩ x h (h2|h2)
  ·exact a _ ((jN _ _ _).2 ⟨x,h,h2,rfl⟩)
  ·exact b _ ((jN _ _ _).2 ⟨x,h,h2,rfl⟩)
def pz(t:Tm)(bg:List Int):Bool:=(cJ t).all fun v=> !(decide (1<((cJ t).count v:Int))||bg.contains v||(bG t).contains v)
theorem HY(t:Tm)(bg:List Int):pz t bg=true↔∀v,0<kG 8 v (iF t)->kG 8 v (iF t)<=1/\v∉bg/\rX v t=false:=by
 unfold pz
 rw[List.all_eq_true]
 have hv:∀v,(bG t).contains v=rX v t:=fun v=>by
  rw[Bool.eq_iff_iff,List.contains_iff_mem,(dK t).2 v]
 constructor
 ·intro a v h
  have:=a v ((sd t v).2 h)
  rw[nJ,hv]at this
  simp at this
  exact⟨ad,this.1.2,this.2⟩
 ·intro a v h
  obtain⟨a1,a2,a3⟩:=a v ((sd t v).1 h)
  rw[nJ,hv,a3]
  simp
  exact⟨ad,a2⟩
theorem n7:∀ (W A:List Int),A.Nodup->(∀v,v∈A↔v∈W)->A.length<=W.length/\(A.length=W.length↔W.Nodup)
 |[],A,hA,h=>by
  have:A=[]:=List.eq_nil_iff_forall_not_mem.2 fun v hv=>by simpa using(h v).1 hv
  subst this;simp
 |x::W,A,hA,h=>by
  by_cases hx:x∈W
  ·have ih:=(n7 W A hA fun v=>by
    rw[h v,List.mem_cons]
    exact⟨fun e=>e.elim (fun e=>e ▸ hx) id, .inr⟩).1
   refine⟨by simp;omega, ?_⟩
   rw[List.length_cons,List.nodup_cons]
   exact⟨fun e=>ad,fun e=>absurd hx e.1⟩
  ·have hxA:x∈A:=(h x).2 aj
   have ih:=n7 W (A.erase x) (hA.erase x) fun v=>by
    rw[hA.mem_erase_iff,h v,List.mem_cons]
    constructor
    ·rintro⟨a,b|b⟩
     ·exact absurd b a
     ·exact b
    ·intro a
     exact⟨fun e=>hx (e ▸ a), .inr a⟩
   have hl:(A.erase x).length=A.length - 1:=List.length_erase_of_mem hxA
   have hp:0<A.length:=List.length_pos_of_mem hxA
   rw[hl]at ih
   rw[List.length_cons,List.nodup_cons]
   refine⟨ad, ?_⟩
   constructor
   ·intro e;exact⟨hx,ih.2.1 ad⟩
   ·intro e
    have:=ih.2.2 e.2
    omega
def Lj(t:Tm):List Int:=((iF t).filter fun x=>x.op==1).map Tm.n
theorem vJ(l:List Tm)(v:Int):((l.filter fun x=>x.op==1).map Tm.n).count v=kG 1 v l:=by
 induction l with
 |nil=>rfl
 |cons x l ih=>
  rw[CK, <- ih]
  by_cases h:x.op=1
  ·have h':(x.op==1)=true:=by simpa using h
   have e:(x::l).filter (fun x=>x.op==1)=x::l.filter (fun x=>x.op==1):=by rw[List.filter_cons,if_pos h']
   rw[e,List.map_cons,List.count_cons]
   by_cases h2:x.n=v
   ·simp[h,h2]
   ·simp[h2]
  ·have h': ¬ (x.op==1)=true:=by simpa using h
   have e:(x::l).filter (fun x=>x.op==1)=l.filter (fun x=>x.op==1):=by rw[List.filter_cons,if_neg h']
   rw[e]
   simp[h]
structure yn (t:Tm):Prop where
 once:(Lj t).Nodup
 free:∀v,rX v t=true↔v∈Lj t
theorem sY(t:Tm):(bG t).Nodup:=(dK t).1.imp fun {a b} h=>ad
theorem V7{t:Tm}(h:yn t):(bG t).length=(Lj t).length:=
 ((n7 (Lj t) (bG t) (sY t) fun v=>by rw[(dK t).2 v,h.free v]).2).2 h.once
def CL(l:List Tm):Bool:=(l.map fun t=>(bG t).length).sum==(bG (.mk 0 0 l)).length
theorem CM(l:List Tm)(v:Int):rX v (.mk 0 0 l)=true↔∃t∈l,rX v t=true:=by
 have key:∀ (l:List Tm) (i:Nat),gZ v 0 0 l i=l.any (rX v):=by
  intro l
  induction l with
  |nil=>intro i;rfl
  |cons k l ih=>intro i;simp[gZ,ih]
 have e:rX v (.mk 0 0 l)=gZ v 0 0 l 0:=rfl
 rw[e,key,List.any_eq_true]
theorem F2(l:List Tm)(h:∀t∈l,yn t):CL l=true↔∀v,kG 1 v (n6 l)<=1:=by
 have hW:((n6 l).filter fun x=>x.op==1).map Tm.n=l.flatMap Lj:=by
  unfold n6
  induction l with
  |nil=>rfl
  |cons t l ih=>
   rw[List.flatMap_cons,List.filter_append,List.map_append,List.flatMap_cons,ih (fun x hx=>h x (by simp[hx]))];rfl
 have hlen:(l.map fun t=>(bG t).length).sum=(l.flatMap Lj).length:=by
  clear hW
  induction l with
  |nil=>rfl
  |cons t l ih=>
   rw[List.map_cons,List.sum_cons,List.flatMap_cons,List.length_append,ih (fun x hx=>h x (by simp[hx])),V7 (h t (by simp))]
 have hm:∀v,v∈bG (.mk 0 0 l)↔v∈l.flatMap Lj:=fun v=>by
  rw[(dK _).2 v,CM,List.mem_flatMap]
  constructor
  ·rintro⟨t,h1,h2⟩;exact⟨t,h1,((h t h1).free v).1 h2⟩
  ·rintro⟨t,h1,h2⟩;exact⟨t,h1,((h t h1).free v).2 h2⟩
 have hn:=(n7 (l.flatMap Lj) (bG (.mk 0 0 l)) (sY _) hm).2
 unfold CL
 rw[hlen,beq_iff_eq,eq_comm,hn,List.nodup_iff_count]
 constructor
 ·intro a v;rw[<- vJ,hW];exact a v
 ·intro a v;rw[<- hW,vJ];exact a v
def mq(t:Tm):Bool:=t.op==1||t.op==3
mutual
def gI:Tm->Bool
 | .mk op n kids=>tX kids&&mq (.mk op n kids)
def tX:List Tm->Bool
 |[]=>true
 |k::l=>gI k&&tX l
end
theorem yo(t:Tm):gI t=(t.kids.all gI&&mq t):=by
 have:∀l:List Tm,tX l=l.all gI:=fun l=>by
  induction l with
  |nil=>rfl
  |cons k l ih=>simp[tX,ih]
 cases t;simp only[gI,this,Tm.kids]
mutual
def fZ:Tm->List Int->List Int×Bool
 | .mk op n kids,b=>if op=1 then(kB b n, !b.contains n)else gJ kids b
def gJ:List Tm->List Int->List Int×Bool
 |[],b=>(b,true)
 |k::l,b=>if(fZ k b).2=true then gJ l (fZ k b).1 else((fZ k b).1,false)
end
theorem qG(t:Tm)(b:List Int):fZ t b=if t.op=1 then(kB b t.n, !b.contains t.n)else gJ t.kids b:=by cases t;rfl
theorem HZ:∀ (t:Tm) (b:List Int),(fZ t b).1.length<=b.length+t.sz:=by
 refine Tm.cC fun t ih b=> ?_
 have hs:∀ (l:List Tm) (b:List Int),(∀k∈l,k∈t.kids)->(gJ l b).1.length<=b.length+hY l:=by
  intro l
  induction l with
  |nil=>intro b _;simp[gJ,hY]
  |cons k l oj=>
   intro b hk
   have h1:=ih k (hk k aj) b
   have h2:=oj (fZ k b).1 (fun x hx=>hk x lu)
   rw[eJ]
   simp only[gJ]
   split
   ·omega
   ·simp only;omega
 rw[qG,Tm.ky]
 have h3:=vI b t.n
 have h4:=hs t.kids b (fun _ h=>h)
 split
 ·simp only;omega
 ·omega
def tF(l:List (Tm×Int)):List Int:=(l.filter fun x=>x.1.op==1).map fun x=>x.1.n
theorem vK(a b:List (Tm×Int)):tF (a++b)=tF a++tF b:=by simp[tF]
theorem vL(x:Tm×Int)(l:List (Tm×Int)):tF (x::l)=(if x.1.op=1 then x.1.n::tF l else tF l):=by
 unfold tF
 by_cases h:x.1.op=1
 ·simp[h]
 ·simp[h]
theorem Ak{l:List Tm}{d v:Int}:v∈tF (l.flatMap fun k=>pre k d)↔∃k∈l,v∈tF (pre k d):=by
 induction l with
 |nil=>simp[tF]
 |cons k l ih=>simp[vK,ih]
theorem F3{v op n:Int}(h:op≠8):∀ (l:List Tm) (i:Nat),gZ v op n l i=l.any (rX v)
 |[],i=>rfl
 |k::l,i=>by
  have:(op==8)=false:=by simpa using h
  simp[gZ,F3 h l,this]
theorem V8:∀ (t:Tm) (d:Int),(∀x∈pre t d,x.1.op≠8)->(∀x∈pre t d,x.1.op=1->x.1.kids=[])->∀v,rX v t=true↔v∈tF (pre t d):=by
 refine Tm.cC fun t ih d h8 h1 v=> ?_
 have hp:=jA t d
 have ht8:t.op≠8:=h8 (t,d) (by rw[hp];simp)
 have lH:∀k∈t.kids,∀x∈pre k (d+1),x∈pre t d:=fun k hk x hx=>by rw[hp];exact List.mem_cons_of_mem _ (List.mem_flatMap.2 ⟨k,hk,hx⟩)
 rw[hp,vL,gH]
 by_cases h:t.op=1
 ·have hk:t.kids=[]:=h1 (t,d) (by rw[hp];simp) h
  simp only[if_pos h,hk,List.flatMap_nil]
  show(t.n==v)=true↔v∈[t.n]
  rw[beq_iff_eq,List.mem_singleton];exact eq_comm
 ·simp only[if_neg h]
  rw[F3 ht8,Ak,List.any_eq_true]
  constructor
  ·rintro⟨k,hk,hv⟩
   exact⟨k,hk,(ih k hk (d+1) (fun x hx=>h8 x (lH k hk x hx)) (fun x hx=>h1 x (lH k hk x hx)) v).1 hv⟩
  ·rintro⟨k,hk,hv⟩
   exact⟨k,hk,(ih k hk (d+1) (fun x hx=>h8 x (lH k hk x hx)) (fun x hx=>h1 x (lH k hk x hx)) v).2 hv⟩
theorem qH{s:aX}{t:Tm}(h:dL s t=true):∀x∈pre t 1,bw s x.1=true:=by
 simp only[dL,Bool.and_eq_true,vq s t 1,List.all_eq_true]at h
 exact h.2
theorem CN{s:aX}{t:Tm}(h:bw s t=true)(h1:t.op=1):t.kids=[]:=by
 simp[bw,h1]at h
 exact h.1
theorem vM:∀ (L:List (Tm×Int)) (l:List Int) (b:Bool),(az (x6 pJ lQ) (l,b) L).2=true↔(∀x∈L,mq x.1=true)/\(tF L).Nodup/\∀v∈tF L,v∉l
 |[],l,b=>by simp[az,tF]
 |x::L,l,b=>by
  have e1:∀c,tE l x=c->x6 pJ lQ (l,b) x=((if c=true then l else if x.1.op=1 then rU l x.1.n else l, !c), !c):=fun c hc=>by
   show((if tE l x=true then l else if x.1.op=1 then rU l x.1.n else l, !tE l x),(pJ (if tE l x=true then l else if x.1.op=1 then rU l x.1.n else l, !tE l x)).isNone)=_
   rw[hc];cases c<;>rfl
  rw[az,vL]
  cases hb:tE l x with
  |true=>
   rw[e1 _ hb]
   simp only[Bool.not_true,Bool.false_eq_true,if_false,false_iff,not_and]
   intro hs hn hv
   have hsx:=hs x aj
   simp only[tE,mq,Bool.or_eq_true,Bool.and_eq_true,bne_iff_ne,beq_iff_eq,ne_eq]at hb hsx
   rcases hb with⟨h1,h2⟩|⟨h1,h2⟩
   ·rcases hsx with h|h
    ·exact h1 h
    ·exact h2 h
   ·rw[if_pos h1]at hv
    exact hv x.1.n aj Dk
  |false=>
   rw[e1 _ hb]
   simp only[Bool.not_false,if_true,Bool.false_eq_true,if_false]
   rw[vM L]
   simp only[tE,Bool.or_eq_false_iff,Bool.and_eq_false_iff,bne_eq_false_iff_eq,beq_eq_false_iff_ne,ne_eq]at hb
   have hsx:mq x.1=true:=by simp only[mq,Bool.or_eq_true,beq_iff_eq];exact hb.1
   by_cases h1:x.1.op=1
   ·have wH:x.1.n∉l:=by
     rcases hb.2 with h|h
     ·exact absurd h1 h
     ·intro hm;rw[<- List.contains_iff_mem]at hm;rw[h]at hm;cases hm
    rw[if_pos h1,if_pos h1]
    simp only[List.mem_cons,forall_eq_or_imp,hsx,true_and,List.nodup_cons,vE,not_or]
    constructor
    ·rintro⟨a1,a2,a3⟩
     exact⟨a1,⟨fun hm=>(a3 _ hm).2 rfl,a2⟩,wH,fun v hv=>(a3 v hv).1⟩
    ·rintro⟨a1,⟨a2,a3⟩,a4,a5⟩
     exact⟨a1,a3,fun v hv=>⟨a5 v hv,fun e=>a2 (e ▸ hv)⟩⟩
   ·rw[if_neg h1,if_neg h1]
    simp only[List.mem_cons,forall_eq_or_imp,hsx,true_and]
theorem H3:∀ (t:Tm) (d:Int),(∀x∈pre t d,x.1.op=1->x.1.kids=[])->∀b:List Int,((fZ t b).2=true↔(tF (pre t d)).Nodup/\∀v∈tF (pre t d),v∉b)/\((fZ t b).2=true->∀v,v∈(fZ t b).1↔v∈b\/v∈tF (pre t d)):=by
 refine Tm.cC fun t ih d h1 b=> ?_
 have hp:=jA t d
 have lH:∀k∈t.kids,∀x∈pre k (d+1),x∈pre t d:=fun k hk x hx=>by rw[hp];exact List.mem_cons_of_mem _ (List.mem_flatMap.2 ⟨k,hk,hx⟩)
 have hs:∀ (l:List Tm) (b:List Int),(∀k∈l,k∈t.kids)->((gJ l b).2=true↔(tF (l.flatMap fun k=>pre k (d+1))).Nodup/\∀v∈tF (l.flatMap fun k=>pre k (d+1)),v∉b)/\((gJ l b).2=true->∀v,v∈(gJ l b).1↔v∈b\/v∈tF (l.flatMap fun k=>pre k (d+1))):=by
  intro l
  induction l with
  |nil=>intro b _;simp[gJ,tF]
  |cons k l oj=>
   intro b hk
   obtain⟨k1,k2⟩:=ih k (hk k aj) (d+1) (fun x hx=>h1 x (lH k (hk k aj) x hx)) b
   obtain⟨l1,l2⟩:=oj (fZ k b).1 (fun x hx=>hk x lu)
   simp only[gJ,List.flatMap_cons,vK,List.nodup_append,List.mem_append]
   by_cases hc:(fZ k b).2=true
   ·rw[if_pos hc]
    have hm:=k2 hc
    obtain⟨c1,c2⟩:=k1.1 hc
    constructor
    ·rw[l1]
     constructor
     ·rintro⟨a1,a2⟩
      refine⟨⟨c1,a1,fun x hx y hy e=>a2 y hy ((hm y).2 (.inr (e ▸ hx)))⟩, ?_⟩
      rintro v (hv|hv)
      ·exact c2 v hv
      ·exact fun hb=>a2 v hv ((hm v).2 (.inl hb))
     ·rintro⟨⟨a1,a2,a3⟩,a4⟩
      refine⟨a2,fun v hv Mk=> ?_⟩
      rcases(hm v).1 Mk with h|h
      ·exact a4 v (.inr hv) h
      ·exact a3 v h v hv rfl
    ·intro h v
     rw[l2 h v,hm v]
     constructor
     ·rintro((h|h)|h)
      ·exact .inl h
      ·exact .inr (.inl h)
      ·exact .inr (.inr h)
     ·rintro(h|h|h)
      ·exact .inl (.inl h)
      ·exact .inl (.inr h)
      ·exact .inr h
   ·rw[if_neg hc]
    simp only[Bool.false_eq_true,false_iff,false_implies,and_true,not_and]
    rintro⟨a1,a2,a3⟩ a4
    exact hc (k1.2 ⟨a1,fun v hv=>a4 v (.inl hv)⟩)
 rw[qG,hp,vL]
 by_cases h:t.op=1
 ·have hk:t.kids=[]:=h1 (t,d) (by rw[hp];simp) h
  simp only[if_pos h,hk,List.flatMap_nil]
  simp only[tF,List.filter_nil,List.map_nil,List.nodup_cons,List.not_mem_nil,not_false_eq_true,List.nodup_nil,and_self,true_and,List.mem_singleton,forall_eq,Bool.not_eq_true',qF]
  refine⟨?_,fun _ v=>trivial⟩
  rw[Bool.eq_false_iff,ne_eq,List.contains_iff_mem]
 ·simp only[if_neg h]
  exact hs t.kids b (fun _ h=>h)
theorem H4:∀ (t:Tm) (d:Int),gI t=(pre t d).all fun x=>mq x.1:=by
 refine Tm.cC fun t ih d=> ?_
 rw[FM mq,yo,Bool.and_comm]
 congr 1
 rw[Bool.eq_iff_iff]
 simp only[List.all_eq_true (l:=t.kids)]
 exact forall_congr' fun k=>forall_congr' fun hk=>by rw[ih k hk (d+1)]
theorem Lk{s:aX}{t:Tm}(h:dL s t=true):wR t=((fZ t []).2&&gI t):=by
 have h1:=(H3 t 1 (fun x hx ho=>CN (qH h x hx) ho) []).1
 rw[Bool.eq_iff_iff,Bool.and_eq_true,h1,wR,vM,H4 t 1,List.all_eq_true]
 constructor
 ·rintro⟨a,b,c⟩;exact⟨⟨b,fun v _=>aj⟩,a⟩
 ·rintro⟨⟨a,b⟩,c⟩;exact⟨c,a,fun v _=>aj⟩
theorem Al:∀ (t:Tm) (d:Int),(pre t d).map (·.1)=iF t:=by
 refine Tm.cC fun t ih d=> ?_
 have key:∀l:List Tm,(∀k∈l,k∈t.kids)->((l.flatMap fun k=>pre k (d+1)).map (·.1))=l.flatMap iF:=by
  intro l
  induction l with
  |nil=>intro _;rfl
  |cons k l oj=>
   intro hk
   rw[List.flatMap_cons,List.map_append,ih k (hk k (by simp)),oj (fun x hx=>hk x (by simp[hx])),List.flatMap_cons]
 rw[jA,nG,List.map_cons,key t.kids (fun _ h=>h)]
theorem F4(t:Tm)(d:Int):tF (pre t d)=Lj t:=by
 unfold tF Lj
 rw[<- Al t d,List.filter_map,List.map_map]
 rfl
theorem Oy{t x:Tm}(h:x∈iF t):∃y∈pre t 1,y.1=x:=by
 rw[<- Al t 1]at h
 obtain⟨y,h1,h2⟩:=List.mem_map.1 h
 exact⟨y,h1,h2⟩
theorem EB{s:aX}{t:Tm}(h:dL s t=true)(hp:wR t=true):yn t/\∀x∈iF t,x.op≠8:=by
 rw[wR,vM]at hp
 obtain⟨a,b,_⟩:=hp
 have h8:∀y∈pre t 1,y.1.op≠8:=fun y hy e=>by
  have:=a y hy
  simp[mq,e]at this
 refine⟨⟨by rw[<- F4 t 1];exact b,fun v=> ?_⟩,fun x hx=> ?_⟩
 ·rw[<- F4 t 1]
  exact V8 t 1 h8 (fun x hx ho=>CN (qH h x hx) ho) v
 ·obtain⟨y,h1,h2⟩:=Oy hx
  rw[<- h2];exact h8 y h1
def kC(s:aX)(r:Rl):Bool:=decide (0<=r.fn)&&(match s.bU[r.fn.toNat]? with|some f=>(r.bg.length:Int)==f.args|none=>false)&&decide (0<=r.vars)&&decide (r.vars<=20)
def fU(s:aX)(r:Rl):Bool:=(kC s r&&dL s r.rhs)&&(r.bg.all fun p=>(dL s p&&((fZ p []).2&&gI p))&&dw r.vars p)&&(CL r.bg&&dw r.vars r.rhs&&pz r.rhs (bG (.mk 0 0 r.bg)))
theorem Oz(s:aX)(r:Rl)(hs:iV s=true)(h1:(n6 r.bg).length<=1000000)(h2:(n6 [r.rhs]).length<=1000000):fk s r=fU s r:=by
 have Ll:∀t,cX s [t]=dL s t:=fun t=>by unfold cX;simp[hs,pw]
 have CO:mB s r=true↔(kC s r=true/\(∀t∈r.bg,dL s t=true/\wR t=true))/\dL s r.rhs=true:=by
  have e:mB s r=((kC s r&&r.bg.all (kU s))&&cX s [r.rhs]):=rfl
  rw[e,Ll,Bool.and_eq_true,Bool.and_eq_true,List.all_eq_true]
  simp only[kU,Ll,Bool.and_eq_true]
 have mono:∀t∈r.bg,∀v,0<kG 1 v (iF t)->0<kG 1 v (n6 r.bg):=fun t ht v h=>by
  obtain⟨x,a,b⟩:=(jN _ _ _).1 h
  exact(jN _ _ _).2 ⟨x,List.mem_flatMap.2 ⟨t,ht,a⟩,b⟩
 have split:∀v,0<kG 1 v (n6 r.bg)->∃t∈r.bg,0<kG 1 v (iF t):=fun v h=>by
  obtain⟨x,a,b⟩:=(jN _ _ _).1 h
  obtain⟨t,c,d⟩:=List.mem_flatMap.1 a
  exact⟨t,c,(jN _ _ _).2 ⟨x,d,b⟩⟩
 have hvs:∀ (t:Tm) (v:Int),v∈Lj t↔0<kG 1 v (iF t):=fun t v=>by rw[<- vJ,List.count_pos_iff];rfl
 have Lm:(∀t∈r.bg,yn t)->∀v,v∈bG (.mk 0 0 r.bg)↔0<kG 1 v (n6 r.bg):=fun h v=>by
  rw[(dK _).2 v,CM]
  constructor
  ·rintro⟨t,a,b⟩;exact mono t a v ((hvs t v).1 (((h t a).free v).1 b))
  ·intro a
   obtain⟨t,b,c⟩:=split v a
   exact⟨t,b,((h t b).free v).2 ((hvs t v).2 c)⟩
 rw[Bool.eq_iff_iff,HW s r h1 h2,CO]
 unfold fU
 simp only[Bool.and_eq_true,List.all_eq_true,EA,HY,Ox]
 constructor
 ·rintro⟨⟨⟨a,p⟩,rt⟩,A,B,C,D⟩
  have bn:∀t∈r.bg,yn t:=fun t ht=>(EB (p t ht).1 (p t ht).2).1
  refine⟨⟨⟨a,rt⟩,fun t ht=>⟨⟨(p t ht).1, ?_⟩,fun v hv=>(A v (mono t ht v hv)).2,fun v hv=> ?_⟩⟩,⟨(F2 _ bn).2 fun v=> ?_,B,fun v hv=>(C v hv).2.1⟩,fun v hv=>⟨(C v hv).1, ?_, ?_⟩⟩
  ·have:=(p t ht).2
   rw[Lk (p t ht).1,Bool.and_eq_true]at this
   exact this
  ·obtain⟨x,b,c,_⟩:=(jN _ _ _).1 hv
   exact absurd c ((EB (p t ht).1 (p t ht).2).2 x b)
  ·by_cases h:0<kG 1 v (n6 r.bg)
   ·exact(A v h).1
   ·omega
  ·rw[Lm bn v];have:=(C v hv).2.2;omega
  ·cases hf:rX v r.rhs with
   |false=>rfl
   |true=>have:=D v hf;omega
 ·rintro⟨⟨⟨a,rt⟩,p⟩,⟨l,B,B2⟩,C⟩
  have hp:∀t∈r.bg,dL s t=true/\wR t=true:=fun t ht=>⟨(p t ht).1.1,by
   rw[Lk (p t ht).1.1,Bool.and_eq_true];exact(p t ht).1.2⟩
  have bn:∀t∈r.bg,yn t:=fun t ht=>(EB (hp t ht).1 (hp t ht).2).1
  refine⟨⟨⟨a,hp⟩,rt⟩,fun v hv=>⟨(F2 _ bn).1 l v, ?_⟩,B,fun v hv=>⟨(C v hv).1,B2 v hv, ?_⟩,fun v hv=> ?_⟩
  ·obtain⟨t,b,c⟩:=split v hv
   exact(p t b).2.1 v c
  ·have:=(C v hv).2.1
   rw[Lm bn v]at this
   omega
  ·by_cases h:0<kG 8 v (iF r.rhs)
   ·have:=(C v h).2.2
    rw[hv]at this;cases this
   ·omega
theorem OA(t:Tm):(iF t).length=t.sz:=by rw[<- Al t 1,List.length_map];rfl
theorem Am:∀ (l:List Tm) (n:Nat),(∀t∈l,t.sz<=n)->(n6 l).length<=l.length*n
 |[],n,_=>by simp[n6]
 |t::l,n,h=>by
  have ih:=Am l n (fun x hx=>h x lu)
  have e:(n6 (t::l)).length=(iF t).length+(n6 l).length:=by simp[n6]
  have:=h t aj
  rw[e,OA,List.length_cons,Nat.add_mul];omega
def dY(p:Pg):Bool:=(iV p.sig&&decide (p.rules.length<=16))&&p.rules.all (fU p.sig)
def F5(p:Pg):Prop:=∀r∈p.rules,r.bg.length<=6/\(∀t∈r.bg,t.sz<=50)/\r.rhs.sz<=50
theorem OB(p:Pg)(h:F5 p):qD p=dY p:=by
 unfold qD dY
 cases hs:iV p.sig with
 |false=>simp
 |true=>
  have e:p.rules.all (fk p.sig)=p.rules.all (fU p.sig):=by
   rw[Bool.eq_iff_iff,List.all_eq_true,List.all_eq_true]
   have k:∀r∈p.rules,fk p.sig r=fU p.sig r:=fun r hr=>by
    obtain⟨a,b,c⟩:=h r hr
    refine Oz p.sig r hs ?_ ?_
    ·have:=Am r.bg 50 b
     omega
    ·have:=Am [r.rhs] 50 (fun t ht=>by simp at ht;subst ht;exact c)
     simp at this;omega
   exact⟨fun a r hr=>(k r hr) ▸ a r hr,fun a r hr=>(k r hr).symm ▸ a r hr⟩
  rw[e];simp
def hU:Tm:= .mk 16 0 []
def gK(b:Bool):Tm:= .mk 3 (if b=true then 1 else 0) []
mutual
def gW(l:List Tm):Tm->Tm
 | .mk op n kids=>if op=1 then(l[n.toNat]?).getD hU else .mk op n (An l kids)
def An(l:List Tm):List Tm->List Tm
 |[]=>[]
 |k::ks=>gW l k::An l ks
end
theorem vN(l:List Tm):∀ks:List Tm,An l ks=ks.map (gW l)
 |[]=>rfl
 |k::ks=>by simp[An,vN l ks]
theorem vO(l:List Tm)(t:Tm):gW l t=if t.op=1 then(l[t.n.toNat]?).getD hU else .mk t.op t.n (t.kids.map (gW l)):=by cases t;rw[gW,vN];rfl
def se(r:Rl)(b:List Tm):List Tm:=b.mapIdx fun i x=>if(cJ r.rhs).contains (i:Int)=true then hU else x
def jH(env:List Tm)(n:Int)(v:Tm):List Tm:=(env++List.replicate (n.toNat+1 - env.length) hU).set n.toNat v
def qI(s:aX)(f:Int):Tm:= .mk 4 f ((List.range (dJ s.bU f).toNat).map fun i:Nat=> .mk 1 (i:Int) [])
def lr(t:Tm)(i:Nat):Tm:=(t.kids[i]?).getD hU
def bK(l:List Pf)(i:Nat):Tm:=((l[i]?).map Pf.val).getD hU
def pA(l:List (List Tm->Tm->Bool))(i:Nat):List Tm->Tm->Bool:=(l[i]?).getD fun _ _=>false
def nK(l:List (List Tm->Tm->Bool))(env es:List Tm):Bool:=l.length==es.length&&(l.zip es).all fun x=>x.1 env x.2
def wT(op a b:Int):Tm:=if op=15 then gK (decide (a<b))else .mk 2 (if op=14 then a - b else a+b) []
def Ao(r:Int)(e v a b:Tm):Bool:=
 if r=10 then e.op==9&&(aZ a (gK true)&&aZ b v)
 else if r=11 then e.op==10&&(aZ a (gK true)&&aZ b (gK true)&&aZ v (gK true))
 else if r=12 then e.op==11&&(aZ a b&&cO 16 a&&aZ v (gK true))
 else if r=13 then e.op==12&&((cO 16 a&&cO 1 a)&&(cO 16 b&&cO 1 b)&&aZ v (gK (aZ a b)))
 else if r=14 then(e.op==13||e.op==14||e.op==15)&&(a.op==2&&b.op==2&&aZ v (wT e.op a.n b.n))
 else false
def nL(p:Pg)(r:Int)(v:Tm)(n:Int)(b:List Tm)(ks:List Pf)(g:List (List Tm->Tm->Bool))(env:List Tm)(e:Tm):Bool:=
 if r=1 then ks.length==0&&v.op==16
 else if r=2 then e.op==1&&(ks.length==0&&vz v ((env[e.n.toNat]?).getD hU))
 else if r=3 then e.op==2&&(ks.length==0&&aZ v e)
 else if r=4 then e.op==3&&(aZ v (.mk e.op e.n (ks.map Pf.val))&&nK g env e.kids)
 else if r=5 then e.op==5&&(aZ v (.mk e.op e.n (ks.map Pf.val))&&nK g env e.kids)
 else if r=6 then e.op==4&&decide (0<=n)&&match p.rules[n.toNat]? with
  |none=>false
  |some ru=>(ru.fn==e.n&&(b.length:Int)==ru.vars&&ks.length==e.kids.length+1&&v.op !=16&&aZ (bK ks e.kids.length) v)&&
   (aZ (.mk 0 0 ((ks.take e.kids.length).map Pf.val)) (.mk 0 0 (ru.bg.map (gW b)))&&nK (g.take e.kids.length) env e.kids&&pA g e.kids.length (se ru b) ru.rhs)
 else if r=7 then e.op==7&&(ks.length==1&&aZ (bK ks 0) v&&pA g 0 env (lr e 0))
 else if r=8 then e.op==7&&(ks.length==1&&aZ (bK ks 0) v&&pA g 0 env (lr e 1))
 else if r=9 then e.op==8&&(ks.length==2&&aZ (bK ks 1) v&&pA g 0 env (lr e 0)&&pA g 1 (jH env e.n (bK ks 0)) (lr e 1))
 else if r=15 then e.op==6&&(ks.length==2||ks.length==3)&&(pA g 0 env (lr e 0)&&pA g 1 env (lr e 1)&&(bK ks 0).op==5)&&
  (if((bK ks 0).kids.length:Int)+1<dJ p.sig.bU (bK ks 0).n then ks.length==2&&aZ v (.mk 5 (bK ks 0).n ((bK ks 0).kids++[bK ks 1]))
   else ks.length==3&&aZ (bK ks 2) v&&pA g 2 ((bK ks 0).kids++[bK ks 1]) (qI p.sig (bK ks 0).n))
 else ks.length==2&&Ao r e v (bK ks 0) (bK ks 1)&&(pA g 0 env (lr e 0)&&pA g 1 env (lr e 1))
mutual
def bp(p:Pg):Pf->List Tm->Tm->Bool
 | .mk r v n b ks=>nL p r v n b ks (F6 p ks)
def F6(p:Pg):List Pf->List (List Tm->Tm->Bool)
 |[]=>[]
 |k::l=>bp p k::F6 p l
end
theorem yp(p:Pg):∀l:List Pf,F6 p l=l.map (bp p)
 |[]=>rfl
 |k::l=>by simp[F6,yp p l]
theorem fD(p:Pg)(f:Pf):bp p f=nL p f.b7 f.val f.num f.binds f.kids (f.kids.map (bp p)):=by cases f;rw[bp,yp];rfl
mutual
def Pf.sh:Pf->Tm
 | .mk _ _ _ _ kids=> .mk 0 0 (Pf.shs kids)
def Pf.shs:List Pf->List Tm
 |[]=>[]
 |k::l=>k.sh::Pf.shs l
end
theorem Pf.F7:∀l:List Pf,Pf.shs l=l.map Pf.sh
 |[]=>rfl
 |k::l=>by simp[Pf.shs,Pf.F7 l]
theorem Pf.aaK (f:Pf):f.sh= .mk 0 0 (f.kids.map Pf.sh):=by cases f;rw[Pf.sh,Pf.F7];rfl
theorem Pf.n8 (f:Pf):f.sh.kids=f.kids.map Pf.sh:=by rw[Pf.aaK];rfl
theorem F8:∀ (f:Pf) (d:Int),(dA f d).map (fun x=>(x.1.sh,x.2))=pre f.sh d:=by
 refine Pf.cC fun f ih d=> ?_
 rw[qE,jA,List.map_cons,Pf.n8,List.map_flatMap,List.flatMap_map]
 congr 1
 have:∀l:List Pf,(∀k∈l,k∈f.kids)->(l.flatMap fun k=>(dA k (d+1)).map fun x=>(x.1.sh,x.2))=l.flatMap fun k=>pre k.sh (d+1):=by
  intro l
  induction l with
  |nil=>intro _;rfl
  |cons k l oj=>intro h;rw[List.flatMap_cons,List.flatMap_cons,ih k (h k (by simp)),oj fun x hx=>h x (by simp[hx])]
 exact this f.kids fun _ h=>h
theorem Ln(f:Pf)(d:Int):(dA f d).length=f.sh.sz:=by
 rw[<- List.length_map (f:=fun x:Pf×Int=>(x.1.sh,x.2)),F8]
 exact nF _ _ _
theorem V9:∀f:Pf,f.sh.iU=f.iU:=by
 refine Pf.cC fun f ih=> ?_
 have:∀l:List Pf,(∀k∈l,k∈f.kids)->Tm.fQ (l.map Pf.sh)=Pf.fQ l:=by
  intro l
  induction l with
  |nil=>intro _;rfl
  |cons k l oj=>intro h;rw[List.map_cons,nY,Pf.fQ,ih k (h k (by simp)),oj fun x hx=>h x (by simp[hx])]
 rw[Tm.vm,Pf.n8,this f.kids fun _ h=>h]
 cases f;rfl
def iB(s:aX)(f:Pf):Bool:=(sT s f.val&&kH s f.binds)&&(f.b7==6||(f.num==0&&f.binds.length==0))
mutual
def kD(s:aX):Pf->Bool
 | .mk r v n b kids=>iB s (.mk r v n b kids)&&tY s kids
def tY(s:aX):List Pf->Bool
 |[]=>true
 |k::l=>kD s k&&tY s l
end
theorem n9(s:aX)(f:Pf):kD s f=(iB s f&&f.kids.all (kD s)):=by
 have:∀l:List Pf,tY s l=l.all (kD s):=fun l=>by
  induction l with
  |nil=>rfl
  |cons k l ih=>simp[tY,ih]
 cases f;rw[kD,this];rfl
theorem H5(s:aX):∀ (f:Pf) (d:Int),kD s f=true↔∀x∈dA f d,iB s x.1=true:=by
 refine Pf.cC fun f ih d=> ?_
 rw[n9,qE,Bool.and_eq_true,List.all_eq_true]
 simp only[List.mem_cons,forall_eq_or_imp,List.mem_flatMap]
 constructor
 ·rintro⟨a,b⟩
  refine⟨a, ?_⟩
  rintro x ⟨k,hk,hx⟩
  exact(ih k hk _).1 (b k hk) x hx
 ·rintro⟨a,b⟩
  exact⟨a,fun k hk=>(ih k hk (d+1)).2 fun x hx=>b x ⟨k,hk,hx⟩⟩
def fE(s:aX)(f:Pf):Bool:=decide (0<=ee f.sh 500 150)&&kD s f
theorem OC(s:aX)(f:Pf):sX s f=fE s f:=by
 rw[Bool.eq_iff_iff,Lh,fE,Bool.and_eq_true,decide_eq_true_eq,kz,H5 s f 1,Ln]
 have hd:(∀x∈dA f 1,x.2<=150)↔f.sh.iU<=150:=by
  have:=ya f.sh 1 150
  rw[<- F8]at this
  simp only[List.mem_map,forall_exists_index,and_imp,forall_apply_eq_imp_iff₂]at this
  rw[this];omega
 have hn:∀x:Pf×Int,Ew s x=true↔x.2<=150/\iB s x.1=true:=fun x=>by
  simp only[Ew,iB,Bool.and_eq_true,decide_eq_true_eq,and_assoc]
 simp only[hn]
 constructor
 ·rintro⟨a,b⟩
  exact⟨⟨ad,by have:=hd.1 fun x hx=>(b x hx).1;omega⟩,fun x hx=>(b x hx).2⟩
 ·rintro⟨⟨a,b⟩,c⟩
  exact⟨ad,fun x hx=>⟨hd.2 ad x hx,c x hx⟩⟩
def EC(s:aX)(t:Tm):Prop:=t.fits/\Pn s t
theorem EC.ll {s:aX}{t k:Tm}(h:EC s t)(hk:k∈t.kids):EC s k:=⟨((Tm.aP t).1 h.1).2 k hk,h.2.ll hk⟩
theorem Ap(s:aX):EC s hU:=⟨by simp[hU,Tm.fits,Tm.ko],by rw[vx];exact⟨rfl,fun k hk=>by cases hk⟩⟩
structure dM (s:aX) (env:List Tm):Prop where
 len:env.length<=20
 all:∀t∈env,EC s t
structure cY (s:aX) (n:Nat) (e:Tm):Prop where
 fits:e.fits
 node:ez s e=true
 vars:∀v,rX v e=true->0<=v/\v<n
theorem cY.node1 {s:aX}{n:Nat}{e:Tm}(h:cY s n e):bw s e=true:=by
 have:=h.node;rw[dC,Bool.and_eq_true]at this;exact this.1
theorem tZ{v op n:Int}:∀ {l:List Tm} {i j:Nat} {k:Tm},l[i]? =some k->rX v k=true-> ¬ (op=8/\i+j=1/\n=v)->gZ v op n l j=true
 |[],_,_,_,h,_,_=>by simp at h
 |x::l,0,j,k,h,hv,hn=>by
  simp at h;subst h
  simp only[gZ,Bool.or_eq_true,Bool.and_eq_true]
  left
  refine⟨hv, ?_⟩
  cases hb:(op==8&&j==1&&n==v)with
  |false=>rfl
  |true=>simp at hb;exact absurd ⟨hb.1.1,ad,hb.2⟩ hn
 |x::l,i+1,j,k,h,hv,hn=>by
  simp only[gZ,Bool.or_eq_true]
  right
  exact tZ (i:=i) (j:=j+1) Gy hv (by rw[show i+(j+1)=i+1+j by omega];exact hn)
theorem cY.ll {s:aX}{n:Nat}{e k:Tm}(h:cY s n e)(h1:e.op≠1)(h8:e.op≠8)(hk:k∈e.kids):cY s n k:=by
 refine⟨((Tm.aP e).1 h.fits).2 k hk, ?_,fun v hv=>h.vars v ?_⟩
 ·have:=h.node;rw[dC,Bool.and_eq_true,List.all_eq_true]at this;exact this.2 k hk
 ·rw[gH,if_neg h1]
  obtain⟨i,hi⟩:=List.getElem?_of_mem hk
  exact tZ hi hv fun e=>h8 e.1
theorem cY.acM {s:aX}{n:Nat}{e k:Tm}(h:cY s n e)(h8:e.op=8)(hk:e.kids[0]? =some k):cY s n k:=by
 have Wa:=List.mem_of_getElem? hk
 refine⟨((Tm.aP e).1 h.fits).2 k Wa, ?_,fun v hv=>h.vars v ?_⟩
 ·have:=h.node;rw[dC,Bool.and_eq_true,List.all_eq_true]at this;exact this.2 k Wa
 ·rw[gH,if_neg (by omega)]
  exact tZ hk hv fun e=>absurd e.2.1 ad
theorem cY.acN {s:aX}{n m:Nat}{e k:Tm}(h:cY s n e)(h8:e.op=8)(hk:e.kids[1]? =some k)(hm:n<=m)(Mk:e.n<m):cY s m k:=by
 have Wa:=List.mem_of_getElem? hk
 have hn:=h.node1
 simp[bw,h8,cZ]at hn
 refine⟨((Tm.aP e).1 h.fits).2 k Wa, ?_,fun v hv=> ?_⟩
 ·have:=h.node;rw[dC,Bool.and_eq_true,List.all_eq_true]at this;exact this.2 k Wa
 ·by_cases hc:e.n=v
  ·omega
  ·have:=h.vars v (by
    rw[gH,if_neg (by omega)]
    exact tZ hk hv fun e=>hc e.2.2)
   omega
theorem cY.var {s:aX}{n:Nat}{e:Tm}(h:cY s n e)(h1:e.op=1):0<=e.n/\e.n<n:=h.vars e.n (by rw[gH,if_pos h1];simp)
theorem yq(env:List Tm)(n:Int)(v:Tm):(jH env n v).length=max env.length (n.toNat+1):=by
 simp[jH];omega
theorem Lo{s:aX}{env:List Tm}{n:Int}{v:Tm}(h:dM s env)(hn:n<=19)(hv:EC s v):dM s (jH env n v):=by
 refine⟨by rw[yq];have:=h.len;omega,fun t ht=> ?_⟩
 rcases List.mem_or_eq_of_mem_set ht with h1|h1
 ·rcases List.mem_append.1 h1 with h2|h2
  ·exact h.all t h2
  ·rw[(List.mem_replicate.1 h2).2];exact Ap s
 ·rw[h1];exact hv
theorem CP(r:Rl)(b:List Tm):(se r b).length=b.length:=by simp[se]
theorem OD{s:aX}{r:Rl}{b:List Tm}(h:dM s b):dM s (se r b):=by
 refine⟨by rw[CP];exact h.len,fun t ht=> ?_⟩
 simp only[se,List.mem_mapIdx]at ht
 obtain⟨i,hi,e⟩:=ht
 rw[<- e]
 split
 ·exact Ap s
 ·exact h.all _ (List.getElem_mem hi)
structure oH (s:aX) (f:Pf):Prop where
 fits:f.fits
 plain:kD s f=true
 size:f.sh.sz<=1000
theorem vP:∀l:List Tm,l.length<=hY l
 |[]=>aj
 |k::l=>by rw[eJ,List.length_cons];have:=vP l;have:=Tm.En k;omega
theorem Lp{l:List Tm}{k:Tm}(h:k∈l):k.sz<=hY l:=by
 induction l with
 |nil=>cases h
 |cons x l ih=>
  rw[eJ]
  rcases List.mem_cons.1 h with e|e
  ·subst e;omega
  ·have:=ih e;omega
theorem oH.ll {s:aX}{f k:Pf}(h:oH s f)(hk:k∈f.kids):oH s k:=by
 refine⟨((Pf.aP f).1 h.1).2.2.2.2 k hk, ?_, ?_⟩
 ·have:=h.2;rw[n9,Bool.and_eq_true,List.all_eq_true]at this;exact this.2 k hk
 ·have h3:=h.3
  rw[Tm.ky,Pf.n8]at h3
  have:=Lp (List.mem_map.2 ⟨k,hk,rfl⟩:k.sh∈f.kids.map Pf.sh)
  omega
theorem oH.len {s:aX}{f:Pf}(h:oH s f):f.kids.length<=1000:=by
 have h3:=h.3
 rw[Tm.ky,Pf.n8]at h3
 have:=vP (f.kids.map Pf.sh)
 rw[List.length_map]at this
 omega
theorem oH.nd {s:aX}{f:Pf}(h:oH s f):iB s f=true:=by
 have:=h.2;rw[n9,Bool.and_eq_true]at this;exact this.1
theorem oH.val {s:aX}{f:Pf}(h:oH s f):EC s f.val/\f.val.sz<=80/\sT s f.val=true:=by
 have:=h.nd
 simp only[iB,Bool.and_eq_true]at this
 have h2:=this.1.1
 simp only[sT,Bool.and_eq_true,decide_eq_true_eq,kz]at h2
 exact⟨⟨((Pf.aP f).1 h.1).1,h2.2⟩,ad,this.1.1⟩
theorem Lq{s:aX}{l:List Tm}(hf:∀t∈l,t.fits)(h:kH s l=true):dM s l:=by
 simp only[kH,Bool.and_eq_true,decide_eq_true_eq,List.all_eq_true]at h
 refine⟨h.1,fun t ht=>⟨hf t ht, ?_⟩⟩
 have h2:=h.2 t ht
 simp only[sT,Bool.and_eq_true]at h2
 exact h2.2
theorem oH.env {s:aX}{f:Pf}(h:oH s f):dM s f.binds:=by
 have:=h.nd
 simp only[iB,Bool.and_eq_true]at this
 exact Lq ((Pf.aP f).1 h.1).2.2.1 this.1.2
structure kE (p:Pg):Prop where
 fin:p.Fin
 is:dY p=true
theorem kE.b7 {p:Pg}(h:kE p){r:Rl}(hr:r∈p.rules):fU p.sig r=true:=by
 have:=h.is;simp only[dY,Bool.and_eq_true,List.all_eq_true]at this;exact this.2 r hr
structure si (s:aX) (r:Rl):Prop where
 ac1:0<=r.vars
 ac3:r.vars<=20
 fn0:0<=r.fn
 fn:∃f,s.bU[r.fn.toNat]? =some f/\(r.bg.length:Int)=f.args
 rhs:dL s r.rhs=true
 small:dw r.vars r.rhs=true
 bg:∀p∈r.bg,dL s p=true/\gI p=true/\(fZ p []).2=true/\dw r.vars p=true
 apart:pz r.rhs (bG (.mk 0 0 r.bg))=true
 lin:CL r.bg=true
theorem kE.rl {p:Pg}(h:kE p){r:Rl}(hr:r∈p.rules):si p.sig r:=by
 have:=h.b7 hr
 simp only[fU,kC,Bool.and_eq_true,decide_eq_true_eq,List.all_eq_true]at this
 obtain⟨⟨⟨⟨⟨⟨a,b⟩,c⟩,d⟩,e⟩,f⟩,⟨g,h1⟩,h2⟩:=this
 refine⟨c,d,a, ?_,e,h1,fun p hp=> ?_,h2,g⟩
 ·cases hf:p.sig.bU[r.fn.toNat]? with
  |none=>rw[hf]at b;cases b
  |some f=>rw[hf]at b;exact⟨f,rfl,by simpa using b⟩
 ·obtain⟨⟨x,y,z⟩,w⟩:=f p hp
  exact⟨x,z,y,w⟩
theorem jd{s:aX}{t:Tm}(h:dL s t=true):ez s t=true:=by simp only[dL,Bool.and_eq_true]at h;exact h.2
theorem ED{s:aX}{n:Int}{t:Tm}(h:ez s t=true)(hs:dw n t=true):∀v,rX v t=true->0<=v/\v<n:=by
 have key:∀t:Tm,ez s t=true->dw n t=true->∀v,rX v t=true->0<=v/\v<n:=by
  refine Tm.cC fun t ih h hs v hv=> ?_
  rw[dC,Bool.and_eq_true,List.all_eq_true]at h
  rw[px,Bool.and_eq_true]at hs
  rw[gH]at hv
  by_cases h1:t.op=1
  ·rw[if_pos h1]at hv
   have e:t.n=v:=by simpa using hv
   have hn:=h.1
   simp[bw,h1,cZ]at hn
   have:=hs.2
   simp[h1]at this
   omega
  ·rw[if_neg h1]at hv
   have:∀ (l:List Tm) (i:Nat),(∀k∈l,k∈t.kids)->fY n l=true->gZ v t.op t.n l i=true->0<=v/\v<n:=by
    intro l
    induction l with
    |nil=>intro i _ _ h;simp[gZ]at h
    |cons k l oj=>
     intro i hk hs hv
     simp only[fY,Bool.and_eq_true]at hs
     simp only[gZ,Bool.or_eq_true,Bool.and_eq_true]at hv
     rcases hv with hv|hv
     ·exact ih k (hk k aj) (h.2 k (hk k aj)) hs.1 v hv.1
     ·exact oj _ (fun x hx=>hk x lu) hs.2 hv
   exact this t.kids 0 (fun _ h=>h) hs.1 hv
 exact key t h hs
theorem si.Wb {s:aX}{r:Rl}(h:si s r)(hf:r.rhs.fits){n:Nat}(hn:(n:Int)=r.vars):cY s n r.rhs:=
 ⟨hf,jd h.rhs,fun v hv=>by have:=ED (jd h.rhs) h.small v hv;omega⟩
end Go.Proofs.YtonbelhklnmjnaaGreat
