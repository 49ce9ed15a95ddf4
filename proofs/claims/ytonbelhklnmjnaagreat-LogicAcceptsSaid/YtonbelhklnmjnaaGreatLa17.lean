/-
  A PART OF THE PROOF. Conditions: none.
-/
import Derived.Test.YtonbelhklnmjnaaGreatLa16
set_option linter.unusedSimpArgs false
set_option linter.unusedVariables false
namespace Go.Proofs.YtonbelhklnmjnaaGreat
mutual
def Pf.iE:Pf->Nat
 | .mk _ _ _ _ kids=>1+Pf.fZ kids
def Pf.fZ:List Pf->Nat
 |[]=>0
 |k::l=>Nat.max k.iE (Pf.fZ l)
end
theorem Pf.nQ:∀ {l:List Pf} {k:Pf},k∈l->k.iE<=Pf.fZ l
 |x::l,k,h=>by
  simp only[Pf.fZ]
  rcases List.mem_cons.1 h with rfl|h
  ·exact Nat.le_max_left _ _
  ·exact Nat.le_trans (Pf.nQ h) (Nat.le_max_right _ _)
theorem Pf.rh {t k:Pf}(h:k∈t.kids):k.iE+1<=t.iE:=by
 cases t;simp only[Pf.kids]at h;simp only[Pf.iE];have:=Pf.nQ h;omega
section
variable {σ:Type}(base oG:Nat)(H:σ->Nat->ae)(step:σ->Pf×Int->σ×Bool)(ok:List (Pf×Int)->σ->Prop)
include step ok in
theorem zl:∀ (L r:List (Pf×Int)) (bA:∀x∈L,∀r s,ok (x::r) s->(step s x).2=true->ok r (step s x).1) (s:σ),ok (L++r) s->(aA step s L).2=true->ok r (aA step s L).1
 |[],r,_,s,h,_=>by simpa[aA]using h
 |x::L,r,bA,s,h,hb=>by
  rw[aA]at hb|-
  by_cases hx:(step s x).2=true
  ·rw[if_pos hx]at hb|-
   exact zl L r (fun y hy=>bA y (List.mem_cons_of_mem _ hy)) _ (bA x (List.mem_cons_self ..) _ s h hx) hb
  ·rw[if_neg hx]at hb
   exact absurd hb au
theorem Mp:∀t:Pf,t.fits->∀d:Int,0<=d->d+t.iE<=1000000->(∀x∈dt t d,∀r s,ok (x::r) s->(step s x).2=true->ok r (step s x).1)->(∀x∈dt t d,∀r s,ok (x::r) s->YT Tryz.prog oG [.d x.1.d, .d (.i x.2)] base (H s) (H (step s x).1) (.d (.bool (step s x).2)))->oG<base->
 ∀ (c:Nat) (o0:Nat->ae) (yb vb:Nat),base<=c->base<=yb->yb<c->base<=vb->vb<c->o0 yb= .row [.j6 oG]->o0 vb= .row [.func (.func 97) [] [.ptr yb 0, .ptr vb 0]]->
 ∀r s,ok (dt t d++r) s->fR Tryz.prog 97 [.d t.d, .d (.i d), .ptr yb 0, .ptr vb 0] c (ext base (H s) o0) (ext base (H (aA step s (dt t d)).1) o0) (.d (.bool (aA step s (dt t d)).2)):=by
 refine Pf.cB fun t ih hf d hd0 hd bA hR we c o0 yb vb QM Ti hy NO hv oy ov r s gG=> ?_
 have fy:=((Pf.aJ _).1 hf).2.2.2
 intro o nx hI K X hK
 have hle:=hI.le
 have Tj:o yb= .row [.j6 oG]:=by rw[hI.eq yb hy];unfold ext;rw[if_neg (by omega),oy]
 have Tk:o vb= .row [.func (.func 97) [] [.ptr yb 0, .ptr vb 0]]:=by rw[hI.eq vb hv];unfold ext;rw[if_neg (by omega),ov]
 have y1:yb≠nx:=ad
 have y2:∀k,yb≠nx+k:=fun k=>ad
 have y3:vb≠nx:=ad
 have y4:∀k,vb≠nx+k:=fun k=>ad
 refine cU.ay mix aaQ au ?_
 rw[c97]
 simp+contextual only[go_sem,Tj,Tk,y1,y2,y3,y4,Nat.add_assoc,Nat.left_eq_add,Nat.add_eq_left,Nat.add_left_cancel_iff]
 have tV:=oK t d
 have lU:∀k∈t.kids,∀x∈dt k (d+1),x∈dt t d:=fun k hk x hx=>by
  exact TP
 have hb:∀id,id<base->o id=H s id:=fun id aC=>by rw[hI.eq id (by omega)];unfold ext;rw[if_pos aC]
 have hIb:cW base (H s) o nx:=⟨hI.bU,ad,hb⟩
 refine nX (hR (t,d) HC _ s (by rw[tV,List.cons_append]at gG;exact gG) _ _ ((hIb.aK (i:=nx) (m:=nx+6) ad ad ad rfl).aK (i:=nx+1) ad ad ad rfl) _ _ fun o2 n2 m1 m2 m3=> ?_)
 have k0:o2 nx= .row t.row:=by rw[m3 nx (by omega) (by omega),aj _ _ _ _ (by omega),ab]
 have k1:o2 (nx+1)= .row [.d (.i d)]:=by rw[m3 (nx+1) (by omega) (by omega),ab]
 have hold:∀id,base<=id->id<nx->o2 id=o id:=fun id h1 h2=>by rw[m3 id h1 (by omega),aj _ _ _ _ (by omega),aj _ _ _ _ (by omega)]
 have Hx:∀id,base<=id->id<c->o id=o0 id:=fun id h1 h2=>by rw[hI.eq id h2];unfold ext;rw[if_neg (by omega)]
 cases Dg:(step s (t,d)).2 with
 |false=>
  refine eZ Dg ?_
  have BA:aA step s (dt t d)=((step s (t,d)).1,false):=by rw[tV,aA,if_neg (by rw[Dg];exact Bool.false_ne_true)]
  rw[BA]at hK
  refine hK _ _ ad ⟨m2.bU.mono ad,ad,fun id aC=> ?_⟩ (fun id h1 h2=>hold id ad h2)
  unfold ext
  split
  ·exact m2.eq id BK
  ·exact Hw
 |true=>
  have BA:aA step s (dt t d)=aA (fun s k=>aA step s (dt k (d+1))) (step s (t,d)).1 t.kids:=by rw[tV,aA,if_pos Dg,pZ]
  simp+contextual only[go_sem,Dg,k0,k1]
  have q0:o2 yb= .row [.j6 oG]:=by rw[hold yb Ti (by omega),Tj]
  have q1:o2 vb= .row [.func (.func 97) [] [.ptr yb 0, .ptr vb 0]]:=by rw[hold vb NO (by omega),Tk]
  have m0:=m2.le
  refine br (I4 t.kids fy.1 99 [.ptr vb 0, .ptr (nx+1) 0] n2 (fun s=>ext base (H s) o2) (fun s k=>aA step s (dt k (d+1))) ?_ (fun ks s=>ok (ks.flatMap (fun k=>dt k (d+1))++r) s) ?_ ?_ (step s (t,d)).1 (bA (t,d) HC _ s (by rw[tV,List.cons_append]at gG;exact gG) Dg) _ _ ?_ _ _ ?_)
  ·exact N8
  ·exact fun k hk r' s' h1 h2=>zl step ok _ _ (fun x hx=>bA x (lU k hk x hx)) s' (by rw[<- List.append_assoc];exact h1) h2
  ·intro k hk r' s' iS o3 n3 PC K3 X3 hK3
   have l3:=PC.le
   have r0:o3 vb= .row [.func (.func 97) [] [.ptr yb 0, .ptr vb 0]]:=by rw[PC.eq vb (by omega)];unfold ext;rw[if_neg (by omega),q1]
   have r1:o3 (nx+1)= .row [.d (.i d)]:=by rw[PC.eq (nx+1) (by omega)];unfold ext;rw[if_neg (by omega),k1]
   have y5:vb≠n3:=ad
   have y6:∀k,vb≠n3+k:=fun k=>ad
   have y7:nx+1≠n3:=ad
   have y8:∀k,nx+1≠n3+k:=fun k=>ad
   have hh:=Pf.rh hk
   refine cU.ay mix aaS au ?_
   rw[c99]
   simp+contextual only[go_sem,r0,r1,y5,y6,y7,y8]
   rw[wrap64 (n:=d+1) (by omega) (by omega)]
   refine br (ih k hk (fy.2 k hk) (d+1) ad ad (fun x hx=>bA x (lU k hk x hx)) (fun x hx=>hR x (lU k hk x hx)) we n2 o2 yb vb ad Ti ad NO ad q0 q1 (r'.flatMap (fun k=>dt k (d+1))++r) s' (by rw[<- List.append_assoc];exact iS) _ _ (PC.aK (i:=n3) (m:=n3+6) ad ad ad rfl) _ _ fun o4 n4 p1 p2 p3=> ?_)
   refine b7 ?_
   refine hK3 _ _ ad (p2.mono ad) (fun id h1 h2=> ?_)
   rw[p3 id h1 (by omega),aj _ _ _ _ (by omega)]
  ·exact(m2.mono ad).ext ad ad
  ·intro o5 n5 p1 p2 p3
   refine b7 ?_
   rw[<- BA]
   refine hK _ _ ad ⟨p2.bU.mono ad,ad,fun id aC=> ?_⟩ (fun id h1 h2=> ?_)
   ·rw[p2.eq id (by omega), <- BA]
    unfold ext
    split
    ·rfl
    ·exact Hw
   ·rw[p2.eq id (by omega)]
    unfold ext
    exact TW
theorem I5(t:Pf)(hf:t.fits)(hd:t.iE<=900000)(bA:∀x∈dt t 1,∀r s,ok (x::r) s->(step s x).2=true->ok r (step s x).1)(hR:∀x∈dt t 1,∀r s,ok (x::r) s->YT Tryz.prog oG [.d x.1.d, .d (.i x.2)] base (H s) (H (step s x).1) (.d (.bool (step s x).2)))(we:oG<base)(tb:Nat)(HD:tb<base)(s:σ)(gG:ok (dt t 1) s)(ck:H s tb= .row t.row):
 fR Tryz.prog 96 [.j6 oG, .ptr tb 0] base (H s) (H (aA step s (dt t 1)).1) (.cA []):=by
 intro o nx hI K X hK
 have hle:=hI.le
 have ot:o tb= .row t.row:=by rw[hI.eq tb HD,ck]
 have y1:tb≠nx:=ad
 have y2:∀k,tb≠nx+k:=fun k=>ad
 refine cU.ay mix aaP au ?_
 rw[c96]
 refine TI ot y1 y2 ?_
 have hI1:cW base (H s) (aK (aK (aK o nx (.row [.j6 oG])) (nx+1) (.row [.d .cj])) (nx+1) (.row [.func (.func 97) [] [.ptr nx 0, .ptr (nx+1) 0]])) (nx+6):=by
  refine((hI.aK (i:=nx) (m:=nx+6) ad ad ad ?_).aK (i:=nx+1) (m:=nx+6) ad ad ad rfl).aK (i:=nx+1) ad ad ad ?_
  ·exact TZ
  ·exact fH
 refine br (Mp base oG H step ok t hf 1 ad ad bA hR we (nx+6) _ nx (nx+1) ad hle ad ad ad ?_ ?_ [] s (by rw[List.append_nil];exact gG) _ _ (hI1.ext (Nat.le_refl _) ad) _ _ ?_)
 ·exact cY
 ·exact cY
 intro o2 n2 m1 m2 m3
 refine b7 ?_
 refine hK _ _ ad ⟨m2.bU,ad,fun id aC=> ?_⟩ (fun id h1 h2=> ?_)
 ·exact zS
 ·rw[m2.eq id (by omega)];unfold ext;rw[if_neg (by omega)]
  exact cY
end
theorem zm(t:Pf)(o:Nat->ae)(nx:Nat)(K X:V->(Nat->ae)->Nat->Prop)(h:K (.func (.func 96) [] [.ptr nx 0]) (aK o nx (.row t.row)) (nx+4)):cU Tryz.prog 56 [.d t.d] o nx K X:=by
 refine cU.ay mix aaC au ?_
 rw[c56]
 refine b7 ?_
 exact h
def l8{σ:Type}(J:σ->Option jS)(step:σ->Pf×Int->σ)(s:σ)(x:Pf×Int):σ×Bool:=(step s x,(J (step s x)).isNone)
theorem Dz{σ:Type}(J:σ->Option jS)(step:σ->Pf×Int->σ):∀ (l:List (Pf×Int)) (s:σ),J s=none->(aA (l8 J step) s l).2=(J (aA (l8 J step) s l).1).isNone
 |[],s,h=>by simp[aA,h]
 |x::l,s,h=>by
  simp only[aA]
  split
  ·rename_i hb
   exact Dz J step l _ (by simpa[l8]using hb)
  ·rename_i hb
   cases hj:J (step s x)with
   |none=>exact absurd (by simp[l8,hj]) hb
   |some j=>simp[l8,hj]
theorem pv{σ:Type}(t:Pf)(hf:t.fits)(hd:t.iE<=900000){n bq:Nat}{gq:Operand}{ps:List Nat}{iZ eN:IC}{Q:fG->S->Prop}{e:Nat->V}{o:Nat->ae}{nx tb:Nat}(env:List V)(he:lZ e env 0)
 (CY:ps.all (fun t=>decide (t<n))=true) (hl:ps.length=2) (hg:Good o nx) (hrefs:∀r∈V.aQ env,r<nx) (ht:o tb= .row t.row)
 (G:σ->Nat->ae) (J:σ->Option jS) (step:σ->Pf×Int->σ) (ok:List (Pf×Int)->σ->Prop) (s0:σ) (gG:ok (dt t 1) s0) (NP:J s0=none) (h0:∀id,id<nx->o id=G s0 id) (bA:∀x∈dt t 1,∀r s,ok (x::r) s->J s=none->J (step s x)=none->ok r (step s x))
 (mA:∀L,iH Tryz.prog n env ps iZ eN L->(∀st pd m,nx<=m->(L st pd).refs.all (fun r=>decide (r<m))=true)->∀x∈dt t 1,∀r s,ok (x::r) s->J s=none->∀o3 n3,cW nx (G s) o3 n3->nx<n3->o3 nx=L .ready none->∀K X,
  (∀e' o' n' st pd,n3<=n'->cW nx (G (step s x)) o' n'->o' nx=L st pd->(∀id,nx<id->id<n3->o' id=o3 id)->jM nx K X (GJ (J (step s x))) ⟨e',o',n'⟩)->
  kS Tryz.prog n n3 true iZ (nW Tryz.prog n n3 nx eN K X) ⟨m8 (bz env) ps [.d x.1.d, .d (.i x.2)],o3,n3⟩)
 (kB:∀o' n',cW nx (G (aA (l8 J step) s0 (dt t 1)).1) o' n'->oW Q (J (aA (l8 J step) s0 (dt t 1)).1) ⟨e,o',n'⟩):
 sI Tryz.prog n bq false gq ps iZ eN Q ⟨e,o,nx⟩ (.func (.func 96) [] [.ptr tb 0]):=by
 refine Fe env he (fun L hL=> ?_)
 have HD:tb<nx:=hg.lt T9
 let H:σ->Nat->ae:=fun s id=>if id<nx then G s id else if id=nx then(match J s with|none=>L .ready none|some j=>L .done (some j))else .no
 have Hy:∀s id,id<nx->H s id=G s id:=fun s id h=>if_pos h
 have GK:∀s,J s=none->H s nx=L .ready none:=fun s h=>by show(if nx<nx then _ else _)=_;rw[if_neg (by omega),if_pos rfl,h]
 have LW:∀s j,J s=some j->H s nx=L .done (some j):=fun s j h=>by show(if nx<nx then _ else _)=_;rw[if_neg (by omega),if_pos rfl,h]
 have uW:∀st pd m,nx<=m->(L st pd).refs.all (fun r=>decide (r<m))=true:=fun st pd m hm=>by
  rw[hL.refs,List.all_eq_true]
  intro r hr;have:=hrefs r hr;exact decide_eq_true ad
 refine I5 (nx+1) nx H (l8 J step) (fun r s=>ok r s/\J s=none) t hf hd (fun x hx r s h1 h2=> ?_) (fun x hx r s h1=> ?_) ad tb ad s0 ⟨gG,NP⟩ T7 _ _ ⟨?_,Nat.le_refl _,fun id aC=> ?_⟩ _ _ ?_
 ·have hj:J (step s x)=none:=by simpa[l8]using h2
  exact⟨bA x hx r s h1.1 h1.2 hj,hj⟩
 ·intro o3 n3 hI K X hK
  have hle:=hI.le
  have JT:o3 nx=L .ready none:=by rw[hI.eq nx (by omega),GK s h1.2]
  refine v8 hL mix JT ad CY (by simp[hl]) ?_
  refine mA L hL uW x hx r s h1.1 h1.2 o3 n3 ⟨hI.bU,ad,fun id aC=>by rw[hI.eq id (by omega),Hy _ _ aC]⟩ ad JT K X (fun e' o' n' st pd k1 k2 k3 k4=> ?_)
  have key:∀st' pd' b,(J (step s x)).isNone=b->H (step s x) nx=L st' pd'->K (.d (.bool b)) (aK o' nx (L st' pd')) n':=fun st' pd' b hb hh=>by
   subst hb
   refine hK _ _ k1 ⟨k2.bU.aK ad (uW _ _ _ ad),ad,fun id aC=> ?_⟩ (fun id g1 g2=> ?_)
   ·by_cases pz:id=nx
    ·subst pz;rw[ab];exact hh.symm
    ·rw[aj _ _ _ _ pz]
     show o' id=H (step s x) id
     exact TT
   ·exact TR
  cases hj:J (step s x)with
  |none=>exact sN hL k3 (key _ _ _ zU (GK _ hj))
  |some j=>
   cases j with
   |ret=>exact pV hL k3 (key _ _ _ zU (LW _ _ hj))
   |exit j=>exact nY hL k3 (key _ _ _ zU (LW _ _ hj))
 ·exact(hg.mono ad).aK ad (uW _ _ _ ad)
 ·by_cases pz:id=nx
  ·subst pz;rw[ab,GK _ NP]
  ·exact TQ
 ·intro o' n' k1 k2 k3
  have hle:=k2.le
  generalize hsf:(aA (l8 J step) s0 (dt t 1)).1=sf at*
  have kk:∀st pd,cW nx (G sf) (aK o' nx (L st pd)) n':=fun st pd=>⟨k2.bU.aK ad (uW _ _ _ ad),ad,fun id aC=>by rw[aj _ _ _ _ (by omega),k2.eq id (by omega),Hy _ _ aC]⟩
  cases hj:J sf with
  |none=>
   refine⟨.ready,none,by rw[k2.eq nx (by omega),GK _ hj],(fun h=>by cases h), ?_⟩
   have:=kB _ _ (kk .exhausted none)
   rwa [hj]at this
  |some j=>
   refine⟨.done,some j,by rw[k2.eq nx (by omega),LW _ _ hj],(fun h=>by cases h), ?_⟩
   have:=kB _ _ (kk .exhausted (some j))
   rwa [hj]at this
theorem Bb{σ:Type}(t:Pf)(hf:t.fits)(hd:t.iE<=900000){n bq:Nat}{gq:Operand}{ps:List Nat}{iZ eN:IC}{Q:fG->S->Prop}{e:Nat->V}{o:Nat->ae}{nx tb:Nat}(env:List V)(he:lZ e env 0)
 (CY:ps.all (fun t=>decide (t<n))=true) (hl:ps.length=2) (hg:Good o nx) (hrefs:∀r∈V.aQ env,r<nx) (ht:o tb= .row t.row)
 (G:σ->Nat->ae) (J:σ->Option jS) (step:σ->Pf×Int->σ) (ok:σ->Prop) (s0:σ) (gG:ok s0) (NP:J s0=none) (h0:∀id,id<nx->o id=G s0 id) (bA:∀x∈dt t 1,∀s,ok s->J s=none->J (step s x)=none->ok (step s x))
 (mA:∀L,iH Tryz.prog n env ps iZ eN L->(∀st pd m,nx<=m->(L st pd).refs.all (fun r=>decide (r<m))=true)->∀x∈dt t 1,∀s,ok s->J s=none->∀o3 n3,cW nx (G s) o3 n3->nx<n3->o3 nx=L .ready none->∀K X,
  (∀e' o' n' st pd,n3<=n'->cW nx (G (step s x)) o' n'->o' nx=L st pd->(∀id,nx<id->id<n3->o' id=o3 id)->jM nx K X (GJ (J (step s x))) ⟨e',o',n'⟩)->
  kS Tryz.prog n n3 true iZ (nW Tryz.prog n n3 nx eN K X) ⟨m8 (bz env) ps [.d x.1.d, .d (.i x.2)],o3,n3⟩)
 (kB:∀o' n',cW nx (G (aA (l8 J step) s0 (dt t 1)).1) o' n'->oW Q (J (aA (l8 J step) s0 (dt t 1)).1) ⟨e,o',n'⟩):
 sI Tryz.prog n bq false gq ps iZ eN Q ⟨e,o,nx⟩ (.func (.func 96) [] [.ptr tb 0]):=
 pv t hf hd env he CY hl hg hrefs ht G J step (fun _ s=>ok s) s0 gG NP h0 (fun x hx _=>bA x hx) (fun L hL uW x hx _=>mA L hL uW x hx) kB
end Go.Proofs.YtonbelhklnmjnaaGreat
namespace Go.Proofs.YtonbelhklnmjnaaGreat
theorem PW(s:ba)(hs:s.Fits)(x:Tm)(hx:x.fits)(base sp:Nat)(h:Nat->ae)(vc:h sp= .row s.row)(hb:sp<base):
 fR Tryz.prog 122 [.d x.d, .ptr sp 0] base h h (.d (.bool (BB s x))):=by
 intro o nx hI K X hK
 have hle:=hI.le
 have ho:o sp= .row s.row:=by rw[hI.eq sp hb,vc]
 have y1:∀k,sp≠nx+k:=fun k=>ad
 have y2:sp≠nx:=ad
 refine cU.ay mix RR au ?_
 rw[VN]
 refine zM ho y1 y2 ?_
 refine ag (GU s hs x hx) rfl ?_
 refine iP ?_
 exact hK _ _ ad (hI.aK ad ad ad rfl) fun id i1 i2=>by rw[aj _ _ _ _ (by omega)]
def ng(s:ba)(l:List Tm):Bool:=decide (l.length<=20)&&l.all (BB s)
theorem Mq(s:ba)(hs:s.Fits)(l:List Tm)(hl:l.length<=9223372036854775807)(hf:∀t∈l,t.fits):aR Tryz.prog 88 [s.d, .sl (l.map Tm.d)] (.ret [.bool (ng s l)]):=by
 refine aR.ay mix aaJ au ?_
 rw[c88]
 unfold ng
 by_cases h0: ¬l.length<=20
 ·have Bw:decide ((l.length:Int)<=20)=false:=by simp;omega
  have Ft:decide (l.length<=20)=false:=by simp;omega
  refine dn Bw ?_
  rw[Ft];rfl
 have Bw:decide ((l.length:Int)<=20)=true:=by simp;omega
 have Ft:decide (l.length<=20)=true:=by simp;omega
 rw[Ft,Bool.true_and]
 refine dn Bw ?_
 refine br (zd (σ:=Unit) l hl 122 [.ptr 0 0] 1 (fun _=>aK (fun _=> .no) 0 (.row s.row)) (fun _ x=>((),BB s x)) mc (fun _=>True) (fun _ _ _ _ _=>trivial) (fun x hx _ _=>PW s hs x (hf x hx) 1 0 _ (ab _ _ _) ad) () trivial _ _ ⟨dp,ad,fun id aC=> ?_⟩ _ _ fun o2 n2 m1 m2 m3=> ?_)
 ·first|rfl|exact rY
 rw[Dp]
 simp+contextual (disch:=first|omega|simp only[go_sem,false_implies]) only[go_sem,wrap64,if_pos,Nat.add_assoc,Nat.left_eq_add,Nat.add_eq_left,Nat.add_left_cancel_iff]
def jD(s:ba)(m:Int)(x:Pf×Int):Bool:=(decide (500<m)||decide (150<x.2))|| !BB s x.1.val|| !ng s x.1.binds||(x.1.bp !=6&&(x.1.num !=0||decide (0<(x.1.binds.length:Int))))
def jn(s:ba)(st:Int×Bool)(x:Pf×Int):Int×Bool:=(st.1+1, !jD s (st.1+1) x)
def NR(st:Int×Bool):Option jS:=if st.2=true then none else some .ret
def og(s:ba)(f:Pf):Bool:=(aA (l8 NR (jn s)) (0,true) (dt f 1)).2
theorem I6(p:Pg)(hp:p.Fin)(f:Pf)(hf:f.fits)(hd:f.iE<=900000)(bI:∀x∈dt f 1,x.1.fits):aR Tryz.prog 55 [p.d,f.d] (.ret [.bool (og p.sig f)]):=by
 refine aR.ay mix aaB au ?_
 rw[c55]
 refine iP ?_
 refine c6 (zm f _ _ _ _ ?_)
 refine iP ?_
 refine Bb (σ:=Int×Bool) f hf hd [.aa, .aa, .ptr 0 0, .aa, .ptr 2 0, .ptr 3 0] ?_ aT rfl dp mc (ab _ _ _)
  (fun b=>aK (aK (aK (aK (aK (fun _=> .no) 0 (.row p.row)) 1 (.row f.row)) 2 (.row [.d (.bool false)])) 6 (.row f.row)) 3 (.row [.d (.i b.1)])) NR (jn p.sig) (fun b=>0<=b.1/\b.1<=500) (0,true) ⟨aT,aT⟩ rfl (fun id aC=> ?_) (fun x _ s hs _ h2=> ?_) ?_ ?_
 ·exact Hu
 ·first|exact rY|(rw[iG];exact rY)
 ·have hb:jD p.sig (s.1+1) x=false:=by
   cases h:jD p.sig (s.1+1) x with
   |false=>rfl
   |true=>simp[jn,NR,h]at h2
  simp only[jD,Bool.or_eq_false_iff,decide_eq_false_iff_not]at hb
  simp only[jn]
  omega
 ·intro L hL uW x hx s' h1 h2 o3 n3 hI hn ho K X cO
  simp only[m8]
  have hg:=hI.bU
  have q1:o3 3= .row [.d (.i s'.1)]:=hI.eq 3 ad
  have q2:o3 0= .row p.row:=hI.eq 0 ad
  have q3:o3 2= .row [.d (.bool false)]:=hI.eq 2 ad
  refine aG ?_
  refine l0 hL (pd:=none) ?_ ?_
  ·(repeat(first|rfl|rw[ab]|rw[aj _ _ _ _ (by omega)]))
   exact ho
  refine s9 q1 q2 ?_
  have same:∀ (o':Nat->ae) (n':Nat),Good o' n'->n3<=n'->(∀j,j<10->o' j=aK o3 3 (.row [.d (.i (s'.1+1))]) j)->cW 10 (aK (aK (aK (aK (aK (fun _=> .no) 0 (.row p.row)) 1 (.row f.row)) 2 (.row [.d (.bool false)])) 6 (.row f.row)) 3 (.row [.d (.i (s'.1+1))])) o' n':=fun o' n' k1 k2 k3=>⟨k1,ad,fun j hj=>by
   rw[k3 j hj]
   by_cases e:j=3
   ·subst e;(repeat(first|rfl|rw[ab]|rw[aj _ _ _ _ (by omega)]))
   ·rw[aj _ 3 _ _ e,aj _ 3 _ _ e,hI.eq j hj,aj _ 3 _ _ e]⟩
  have hxf:=(Pf.aJ _).1 (bI x hx)
  have bad:jD p.sig (s'.1+1) x=true->jn p.sig s' x=(s'.1+1,false):=fun h=>by simp[jn,h]
  have bU:jD p.sig (s'.1+1) x=false->jn p.sig s' x=(s'.1+1,true):=fun h=>by simp[jn,h]
  cases c1:(decide (500<s'.1+1)||decide (150<x.2))with
  |true=>
   rw[bad (by unfold jD;rw[c1];rfl)]at cO
   refine xr c1 q1 q2 q3 ?_
   refine cO _ _ _ .busy none ad (same _ _ dp ad fun j hj=> ?_) cY (fun id h3 h4=>by(repeat(first|rfl|rw[ab]|rw[aj _ _ _ _ (by omega)])))
   by_cases e:j=2
   ·subst e;(repeat(first|rfl|rw[ab]|rw[aj _ _ _ _ (by omega)]))
    exact q3.symm
   ·by_cases e3:j=3
    ·subst e3;(repeat(first|rfl|rw[ab]|rw[aj _ _ _ _ (by omega)]))
    ·exact cY
  |false=>
   refine uT c1 q1 q2 ?_
   refine ag (GU p.sig hp.sig x.1.val hxf.1) rfl ?_
   cases c2:BB p.sig x.1.val with
   |false=>
    rw[bad (by unfold jD;rw[c1,c2];rfl)]at cO
    refine xr c1 q1 q2 q3 ?_
    refine cO _ _ _ .busy none ad (same _ _ dp ad fun j hj=> ?_) cY (fun id h3 h4=>by(repeat(first|rfl|rw[ab]|rw[aj _ _ _ _ (by omega)])))
    by_cases e:j=2
    ·subst e;(repeat(first|rfl|rw[ab]|rw[aj _ _ _ _ (by omega)]))
     exact q3.symm
    ·by_cases e3:j=3
     ·subst e3;(repeat(first|rfl|rw[ab]|rw[aj _ _ _ _ (by omega)]))
     ·exact cY
   |true=>
    refine uT c1 q1 q2 ?_
    refine ag (Mq p.sig hp.sig x.1.binds hxf.2.1 hxf.2.2.1) rfl ?_
    cases c3:ng p.sig x.1.binds with
    |false=>
     rw[bad (by unfold jD;rw[c1,c2,c3];rfl)]at cO
     refine xr c1 q1 q2 q3 ?_
     refine cO _ _ _ .busy none ad (same _ _ dp ad fun j hj=> ?_) cY (fun id h3 h4=>by(repeat(first|rfl|rw[ab]|rw[aj _ _ _ _ (by omega)])))
     by_cases e:j=2
     ·subst e;(repeat(first|rfl|rw[ab]|rw[aj _ _ _ _ (by omega)]))
      exact q3.symm
     ·by_cases e3:j=3
      ·subst e3;(repeat(first|rfl|rw[ab]|rw[aj _ _ _ _ (by omega)]))
      ·exact cY
    |true=>
     refine xr c1 q1 q2 q3 ?_
     refine aq (fun h5=> ?_) (fun h5=> ?_)
     ·rw[bad (by unfold jD;rw[c1,c2,c3,h5];rfl)]at cO
      refine cg q3 ?_
      refine cO _ _ _ .busy none ad (same _ _ dp ad fun j hj=> ?_) cY (fun id h3 h4=>by(repeat(first|rfl|rw[ab]|rw[aj _ _ _ _ (by omega)])))
      by_cases e:j=2
      ·subst e;(repeat(first|rfl|rw[ab]|rw[aj _ _ _ _ (by omega)]))
       exact q3.symm
      ·by_cases e3:j=3
       ·subst e3;(repeat(first|rfl|rw[ab]|rw[aj _ _ _ _ (by omega)]))
       ·exact cY
     ·have xh:(x.1.bp !=6&&(x.1.num !=0||decide (0<(x.1.binds.length:Int))))=false:=by simpa using h5
      rw[bU (by unfold jD;rw[c1,c2,c3,xh];rfl)]at cO
      refine aG ?_
      refine cO _ _ _ .busy none ad (same _ _ dp ad fun j hj=>by
       by_cases e3:j=3
       ·subst e3;(repeat(first|rfl|rw[ab]|rw[aj _ _ _ _ (by omega)]))
       ·(repeat(first|rfl|rw[ab]|rw[aj _ _ _ _ (by omega)]))) cY (fun id h3 h4=>by(repeat(first|rfl|rw[ab]|rw[aj _ _ _ _ (by omega)])))
 ·intro o' n' hI
  have q1:o' 2= .row [.d (.bool false)]:=hI.eq 2 ad
  rw[show og p.sig f=(NR (aA (l8 NR (jn p.sig)) (0,true) (dt f 1)).1).isNone from Dz _ _ _ _ rfl]
  generalize (aA (l8 NR (jn p.sig)) (0,true) (dt f 1)).1=sf at*
  obtain⟨m,b⟩:=sf
  cases b<;>(simp only[NR,if_true,if_false,Bool.false_eq_true,oW];simp+contextual (disch:=first|omega|simp only[go_sem,false_implies]) only[go_sem,wrap64,if_pos,q1];try rfl)
theorem I7:∀ (t:Pf) (d:Int),t.fits->∀x∈dt t d,x.1.fits:=by
 refine Pf.cB fun t ih d hf x hx=> ?_
 rw[oK]at hx
 rcases List.mem_cons.1 hx with e|e
 ·rw[e];exact hf
 ·obtain⟨k,hk,h⟩:=List.mem_flatMap.1 e
  exact ih k hk (d+1) (((Pf.aJ t).1 hf).2.2.2.2 k hk) x h
theorem wF(p:Pg)(hp:p.Fin)(f:Pf)(hf:f.fits)(hd:f.iE<=900000):aR Tryz.prog 55 [p.d,f.d] (.ret [.bool (og p.sig f)]):=I6 p hp f hf hd (I7 f 1 hf)
def Fv(s:ba)(x:Pf×Int):Bool:=decide (x.2<=150)&&BB s x.1.val&&ng s x.1.binds&&(x.1.bp==6||(x.1.num==0&&x.1.binds.length==0))
theorem zp(s:ba)(m:Int)(x:Pf×Int):jD s m x=false↔m<=500/\Fv s x=true:=by
 unfold jD Fv
 simp only[Bool.or_eq_false_iff,Bool.and_eq_true,decide_eq_false_iff_not,decide_eq_true_eq,Bool.not_eq_false',Bool.and_eq_false_imp,Bool.or_eq_true,beq_iff_eq,bne_iff_ne,bne_eq_false_iff_eq]
 constructor
 ·rintro⟨⟨⟨⟨a,b⟩,c⟩,d⟩,e⟩
  refine⟨ad,⟨⟨ad,c⟩,d⟩, ?_⟩
  by_cases h:x.1.bp=6
  ·exact .inl h
  ·have:=e h
   exact .inr ⟨this.1,ad⟩
 ·rintro⟨a,⟨⟨b,c⟩,d⟩,e⟩
  refine⟨⟨⟨⟨ad,ad⟩,c⟩,d⟩,fun h=> ?_⟩
  rcases e with e|e
  ·exact absurd e h
  ·exact⟨e.1,ad⟩
theorem GZ(s:ba):∀ (L:List (Pf×Int)) (m:Int),(aA (l8 NR (jn s)) (m,true) L).2=true↔(L=[]\/m+L.length<=500)/\∀x∈L,Fv s x=true
 |[],m=>by simp[aA]
 |x::L,m=>by
  have e1:l8 NR (jn s) (m,true) x=((m+1, !jD s (m+1) x), !jD s (m+1) x):=by
   cases h:jD s (m+1) x<;>simp[l8,jn,NR,h]
  rw[aA,e1]
  cases hb:jD s (m+1) x with
  |true=>
   have hn: ¬ (m+1<=500/\Fv s x=true):=fun h=>by
    rw[(zp s (m+1) x).2 h]at hb;cases hb
   simp only[Bool.not_true,Bool.false_eq_true,if_false,false_iff]
   rintro⟨a,b⟩
   refine hn ⟨?_,b x au⟩
   rcases a with a|a
   ·cases a
   ·simp at a;omega
  |false=>
   obtain⟨h1,h2⟩:=(zp s (m+1) x).1 hb
   simp only[Bool.not_false,if_true]
   rw[GZ s L (m+1)]
   constructor
   ·rintro⟨a,b⟩
    refine⟨.inr ?_,fun y hy=>(List.mem_cons.1 hy).elim (fun e=>e ▸ h2) (b y)⟩
    rcases a with a|a
    ·subst a;simp;omega
    ·simp;omega
   ·rintro⟨a,b⟩
    refine⟨?_,fun y hy=>b y BI⟩
    rcases a with a|a
    ·cases a
    ·simp at a;exact .inr ad
theorem Mr(s:ba)(f:Pf):og s f=true↔(dt f 1).length<=500/\∀x∈dt f 1,Fv s x=true:=by
 unfold og
 rw[GZ]
 have hn:dt f 1≠[]:=by rw[oK];simp
 simp only[hn,false_or]
 constructor
 ·rintro⟨a,b⟩;exact⟨ad,b⟩
 ·rintro⟨a,b⟩;exact⟨ad,b⟩
def kT(op v:Int)(xs:List Tm):Nat:=xs.countP fun x=>x.op==op&&x.n==v
theorem G0:∀ (m:List (Int×Int)) (v w u:Int),lk (lI m v w) u=if v=u then some w else lk m u
 |[],v,w,u=>by simp only[lI,lk]
 |p::m,v,w,u=>by
  have ih:=G0 m v w u
  unfold lI
  by_cases h:p.1=v
  ·rw[if_pos h]
   simp only[lk]
   by_cases h2:v=u
   ·simp[h2]
   ·have: ¬p.1=u:=by rw[h];exact h2
    simp[h2,this]
  ·rw[if_neg h]
   simp only[lk]
   by_cases h2:p.1=u
   ·have: ¬v=u:=by intro e;exact h (h2.trans e.symm)
    simp[h2,this]
   ·simp only[h2,if_false];exact ih
theorem DA:∀ (m:List (Int×Int)) (v w u:Int),u∈(lI m v w).map (·.1)↔u=v\/u∈m.map (·.1)
 |[],v,w,u=>by simp[lI]
 |p::m,v,w,u=>by
  have ih:=DA m v w u
  unfold lI
  by_cases h:p.1=v
  ·rw[if_pos h];simp[h]
  ·rw[if_neg h,List.map_cons,List.mem_cons,ih,List.map_cons,List.mem_cons]
   constructor
   ·rintro(h1|h1|h1)<;>simp[h1]
   ·rintro(h1|h1|h1)<;>simp[h1]
theorem zq:∀ (m:List (Int×Int)) (v w:Int),um m->um (lI m v w)
 |[],v,w,_=>by simp[lI,um]
 |p::m,v,w,hk=>by
  have ql:p.1∉m.map (·.1)/\um m:=by
   unfold um at hk|-
   rwa [List.map_cons,List.nodup_cons]at hk
  have ih:=zq m v w ql.2
  unfold lI
  by_cases h:p.1=v
  ·rw[if_pos h]
   unfold um
   rw[List.map_cons,List.nodup_cons]
   exact⟨by rw[<- h];exact ql.1,ql.2⟩
  ·rw[if_neg h]
   unfold um
   rw[List.map_cons,List.nodup_cons]
   exact⟨fun hm=>by
    rcases(DA m v w p.1).1 hm with e|e
    ·exact h e
    ·exact ql.1 e,ih⟩
theorem Fx(op:Int):∀ (xs:List Tm) (m:List (Int×Int)) (c:Int->Nat),um m->(∀v,lk m v=if c v=0 then none else some (c v:Int))->(∀v,c v+xs.length<=1000000)->
 um (xs.foldl (eo op) m)/\∀v,lk (xs.foldl (eo op) m) v=if c v+kT op v xs=0 then none else some ((c v+kT op v xs:Nat):Int)
 |[],m,c,hk,hl,_=>⟨hk,fun v=>by rw[List.foldl_nil,hl v];rfl⟩
 |x::xs,m,c,hk,hl,hb=>by
  simp only[List.foldl_cons]
  by_cases h:x.op=op
  ·have hg:ir m x.n=(c x.n:Int):=by
    unfold ir;rw[hl];split
    ·next h0=>rw[h0];rfl
    ·rfl
   have NK:=hb x.n
   simp only[List.length_cons]at NK hb
   have e1:eo op m x=lI m x.n ((c x.n+1:Nat):Int):=by
    unfold eo uo
    rw[if_pos h,hg,wrap64 (by omega) (by omega)]
    push_cast;rfl
   rw[e1]
   have ih:=Fx op xs (lI m x.n ((c x.n+1:Nat):Int)) (fun v=>c v+if x.n=v then 1 else 0) (zq _ _ _ hk) (fun v=>by
    rw[G0]
    by_cases e:x.n=v
    ·subst e;simp
    ·simp[e,hl v]) (fun v=>by have:=hb v;split<;>omega)
   refine⟨ih.1,fun v=> ?_⟩
   rw[ih.2 v]
   have e2:(c v+if x.n=v then 1 else 0)+kT op v xs=c v+kT op v (x::xs):=by
    unfold kT
    rw[List.countP_cons]
    by_cases e:x.n=v<;>simp[h,e]<;>omega
   rw[e2]
  ·have e1:eo op m x=m:=by unfold eo;rw[if_neg h]
   rw[e1]
   have ih:=Fx op xs m c hk hl (fun v=>by have:=hb v;simp at this;omega)
   refine⟨ih.1,fun v=> ?_⟩
   rw[ih.2 v]
   have e2:kT op v (x::xs)=kT op v xs:=by
    unfold kT
    rw[List.countP_cons];simp[h]
   rw[e2]
def oL(l:List Tm):List Tm:=l.flatMap iV
theorem G1(op:Int)(l:List Tm)(hb:(oL l).length<=1000000):um (et op l)/\∀v,lk (et op l) v=if kT op v (oL l)=0 then none else some (kT op v (oL l):Int):=by
 have:=Fx op (oL l) [] (fun _=>0) List.nodup_nil (fun v=>by simp[lk]) (fun v=>by simpa using hb)
 refine⟨this.1,fun v=> ?_⟩
 have h:=this.2 v
 rw[Nat.zero_add]at h
 exact h
theorem DB(op:Int)(l:List Tm)(hb:(oL l).length<=1000000)(v:Int):ir (et op l) v=(kT op v (oL l):Int):=by
 unfold ir
 rw[(G1 op l hb).2 v]
 split
 ·next h=>rw[h];rfl
 ·rfl
theorem wG(op:Int)(l:List Tm)(hb:(oL l).length<=1000000)(p:Int×Int->Bool):(et op l).all p=true↔∀v,0<kT op v (oL l)->p (v,(kT op v (oL l):Int))=true:=by
 obtain⟨hk,hl⟩:=G1 op l hb
 rw[List.all_eq_true]
 constructor
 ·intro h v hv
  refine h _ ((GW hk).1 ?_)
  rw[hl v,if_neg (by omega)]
 ·rintro h ⟨v,c⟩ hm
  have h1:=(GW hk).2 hm
  rw[hl v]at h1
  split at h1
  ·cases h1
  ·next h0=>
   injection h1 with h1
   have:=h v ad
   rw[h1]at this
   exact this
theorem PX(m:List (Int×Int)):∀ (t:Tm) (oJ:List Int),A7 m t oJ=true↔∀v,sU v t=true->ir m v=0\/v∈oJ:=by
 refine Tm.cB fun t ih oJ=> ?_
 have key:∀ (l:List Tm) (i:Nat),(∀k∈l,k∈t.kids)->(rA m t.op t.n l i oJ=true↔∀v,iu v t.op t.n l i=true->ir m v=0\/v∈oJ):=by
  intro l
  induction l with
  |nil=>intro i _;simp[rA,iu]
  |cons k l pX=>
   intro i hk
   have h1:=ih k (hk k au) (if t.op=8/\i=1 then oJ++[t.n]else oJ)
   have h2:=pX (i+1) (fun x hx=>hk x mf)
   simp only[rA,iu,Bool.and_eq_true,h1,h2,Bool.or_eq_true]
   by_cases hc:t.op=8/\i=1
   ·simp only[hc,and_self,if_true,List.mem_append,List.mem_singleton]
    constructor
    ·rintro⟨a,b⟩ v (⟨c,d⟩|c)
     ·rcases a v c with e|e|e
      ·exact .inl e
      ·exact .inr e
      ·subst e;simp at d
     ·exact b v c
    ·intro a
     refine⟨fun v c=> ?_,fun v c=>a v (.inr c)⟩
     by_cases e:v=t.n
     ·exact .inr (.inr e)
     ·rcases a v (.inl ⟨c,by simp;exact fun e2=>e e2.symm⟩)with g|g
      ·exact .inl g
      ·exact .inr (.inl g)
   ·have hb:(t.op==8&&i==1)=false:=by
     cases h:(t.op==8&&i==1)with
     |false=>rfl
     |true=>simp at h;exact absurd h hc
    simp only[hc,if_false,hb,Bool.false_and,Bool.not_false,and_true]
    constructor
    ·rintro⟨a,b⟩ v (c|c)
     ·exact a v c
     ·exact b v c
    ·intro a
     exact⟨fun v c=>a v (.inl c),fun v c=>a v (.inr c)⟩
 rw[GX]
 by_cases h:t.op=1
 ·rw[if_pos h]
  simp only[gV,h,if_true]
  simp
 ·rw[if_neg h,key t.kids 0 (fun _ h=>h)]
  simp only[gV,h,if_false]
theorem I8(s:ba)(r:Rl)(h1:(oL r.bf).length<=1000000)(h2:(oL [r.rhs]).length<=1000000):fF s r=true↔mU s r=true/\
 (∀v,0<kT 1 v (oL r.bf)->kT 1 v (oL r.bf)<=1/\v<r.vars)/\(∀v,0<kT 1 v (oL [r.rhs])->v<r.vars)/\
 (∀v,0<kT 8 v (oL [r.rhs])->kT 8 v (oL [r.rhs])<=1/\v<r.vars/\kT 1 v (oL r.bf)=0)/\(∀v,sU v r.rhs=true->kT 8 v (oL [r.rhs])=0):=by
 unfold fF
 simp only[Bool.and_eq_true,wG 1 r.bf h1,wG 1 [r.rhs] h2,wG 8 [r.rhs] h2,PX,DB 1 r.bf h1,DB 8 [r.rhs] h2,decide_eq_true_eq]
 constructor
 ·rintro⟨⟨⟨⟨a,b⟩,c⟩,d⟩,e⟩
  refine⟨a,fun v hv=> ?_,c,fun v hv=> ?_,fun v hv=> ?_⟩
  ·have:=b v hv;omega
  ·have:=d v hv;omega
  ·rcases e v hv with g|g
   ·omega
   ·cases g
 ·rintro⟨a,b,c,d,e⟩
  refine⟨⟨⟨⟨a,fun v hv=> ?_⟩,c⟩,fun v hv=> ?_⟩,fun v hv=> .inl ?_⟩
  ·have:=b v hv;omega
  ·have:=d v hv;omega
  ·have:=e v hv;omega
def kM:List Int->Int->List Int
 |[],n=>[n]
 |x::l,n=>if x<n then x::kM l n else if x=n then x::l else n::x::l
def mK(op n:Int)(i:Nat)(l out:List Int):List Int:=l.foldl (fun out v=>if(op !=8||(i:Int)!=1||v !=n)=true then kM out v else out) out
mutual
def bt:Tm->List Int
 | .mk op n kids=>if op=1 then [n]else jN op n kids 0 []
def jN(op n:Int):List Tm->Nat->List Int->List Int
 |[],_,out=>out
 |k::l,i,out=>jN op n l (i+1) (mK op n i (bt k) out)
end
theorem oh(t:Tm):bt t=if t.op=1 then [t.n]else jN t.op t.n t.kids 0 []:=by cases t;rfl
theorem rB:∀ (l:List Int) (n v:Int),v∈kM l n↔v∈l\/v=n
 |[],n,v=>by simp[kM]
 |x::l,n,v=>by
  simp only[kM]
  split
  ·simp only[List.mem_cons,rB l n v];constructor
   ·rintro(h|h|h)
    ·exact .inl (.inl h)
    ·exact .inl (.inr h)
    ·exact .inr h
   ·rintro((h|h)|h)
    ·exact .inl h
    ·exact .inr (.inl h)
    ·exact .inr (.inr h)
  ·split
   ·rename_i h;subst h;simp only[List.mem_cons];constructor
    ·exact .inl
    ·rintro(h|h)
     ·exact h
     ·exact .inl h
   ·simp only[List.mem_cons];constructor
    ·rintro(h|h)
     ·exact .inr h
     ·exact .inl h
    ·rintro(h|h)
     ·exact .inr h
     ·exact .inl h
abbrev NS(l:List Int):Prop:=l.Pairwise (· <·)
theorem DC:∀ {l:List Int} (n:Int),NS l->NS (kM l n)
 |[],n,_=>by simp[kM]
 |x::l,n,h=>by
  have h1:=List.pairwise_cons.1 h
  simp only[kM]
  split
  ·rename_i hx
   refine List.pairwise_cons.2 ⟨fun y hy=> ?_,DC n h1.2⟩
   rcases(rB l n y).1 hy with hy|hy
   ·exact h1.1 y hy
   ·omega
  ·split
   ·exact h
   ·refine List.pairwise_cons.2 ⟨fun y hy=> ?_,h⟩
    rcases List.mem_cons.1 hy with hy|hy
    ·omega
    ·have:=h1.1 y hy;omega
theorem sY(op n:Int)(i:Nat):∀ (l out:List Int),NS out->NS (mK op n i l out)/\∀v,v∈mK op n i l out↔v∈out\/(v∈l/\ ¬ (op=8/\i=1/\n=v))
 |[],out,h=>⟨h,fun v=>by simp[mK]⟩
 |x::l,out,h=>by
  have hk:mK op n i (x::l) out=mK op n i l (if(op !=8||(i:Int)!=1||x !=n)=true then kM out x else out):=rfl
  rw[hk]
  by_cases hc:(op !=8||(i:Int)!=1||x !=n)=true
  ·rw[if_pos hc]
   have ih:=sY op n i l (kM out x) (DC x h)
   refine⟨ih.1,fun v=> ?_⟩
   rw[ih.2 v,rB,List.mem_cons]
   have vg: ¬ (op=8/\i=1/\n=x):=by
    rintro⟨h1,h2,h3⟩;subst h1;subst h2;subst h3;simp at hc
   constructor
   ·rintro((h|h)|h)
    ·exact .inl h
    ·subst h;exact .inr ⟨.inl rfl,vg⟩
    ·exact .inr ⟨.inr h.1,h.2⟩
   ·rintro(h|⟨h|h,h2⟩)
    ·exact .inl (.inl h)
    ·exact .inl (.inr h)
    ·exact .inr ⟨h,h2⟩
  ·rw[if_neg hc]
   have ih:=sY op n i l out h
   refine⟨ih.1,fun v=> ?_⟩
   rw[ih.2 v,List.mem_cons]
   have vg:op=8/\i=1/\n=x:=by simp at hc;exact⟨hc.1.1,ad,hc.2.symm⟩
   constructor
   ·rintro(h|h)
    ·exact .inl h
    ·exact .inr ⟨.inr h.1,h.2⟩
   ·rintro(h|⟨h|h,h2⟩)
    ·exact .inl h
    ·subst h;exact absurd vg h2
    ·exact .inr ⟨h,h2⟩
theorem dS:∀t:Tm,NS (bt t)/\∀v,v∈bt t↔sU v t=true:=by
 refine Tm.cB fun t ih=> ?_
 have hs:∀ (l:List Tm) (i:Nat) (out:List Int),(∀k∈l,k∈t.kids)->NS out->NS (jN t.op t.n l i out)/\∀v,v∈jN t.op t.n l i out↔v∈out\/iu v t.op t.n l i=true:=by
  intro l
  induction l with
  |nil=>intro i out _ h;exact⟨h,fun v=>by simp[jN,iu]⟩
  |cons k l pX=>
   intro i out hk h
   have h1:=ih k (hk k au)
   have h2:=sY t.op t.n i (bt k) out h
   have h3:=pX (i+1) _ (fun x hx=>hk x mf) h2.1
   refine⟨h3.1,fun v=> ?_⟩
   show v∈jN t.op t.n l (i+1) (mK t.op t.n i (bt k) out)↔_
   rw[h3.2 v,h2.2 v,h1.2 v,iu]
   simp only[Bool.or_eq_true,Bool.and_eq_true,Bool.not_eq_true',Bool.and_eq_false_iff,beq_eq_false_iff_ne,ne_eq,not_and]
   have:(∀ (_:t.op=8) (_:i=1), ¬t.n=v)↔((¬t.op=8\/ ¬i=1)\/ ¬t.n=v):=by
    constructor
    ·intro h
     by_cases c1:t.op=8
     ·by_cases c2:i=1
      ·exact .inr (h c1 c2)
      ·exact .inl (.inr c2)
     ·exact .inl (.inl c1)
    ·rintro((h|h)|h) c1 c2
     ·exact absurd c1 h
     ·exact absurd c2 h
     ·exact h
   rw[this]
   constructor
   ·rintro((h|h)|h)
    ·exact .inl h
    ·exact .inr (.inl h)
    ·exact .inr (.inr h)
   ·rintro(h|h|h)
    ·exact .inl (.inl h)
    ·exact .inl (.inr h)
    ·exact .inr h
 by_cases h1:t.op=1
 ·rw[oh,if_pos h1]
  refine⟨au,fun v=> ?_⟩
  rw[gV,if_pos h1]
  simp only[List.mem_singleton,beq_iff_eq]
  exact eq_comm
 ·rw[oh,if_neg h1]
  have:=hs t.kids 0 [] (fun _ h=>h) au
  refine⟨this.1,fun v=> ?_⟩
  rw[this.2 v,gV,if_neg h1]
  simp
theorem Ms:∀ {l l':List Int},NS l->NS l'->(∀v,v∈l↔v∈l')->l=l'
 |[],[],_,_,_=>rfl
 |[],y::l',_,_,h=>by have:=(h y).2 au;cases this
 |x::l,[],_,_,h=>by have:=(h x).1 au;cases this
 |x::l,y::l',h1,h2,h=>by
  have g1:=List.pairwise_cons.1 h1
  have g2:=List.pairwise_cons.1 h2
  have e:x=y:=by
   rcases List.mem_cons.1 ((h x).1 au)with e|e
   ·exact e
   ·rcases List.mem_cons.1 ((h y).2 au)with e2|e2
    ·exact e2.symm
    ·have:=g2.1 x e;have:=g1.1 y e2;omega
  subst e
  rw[Ms g1.2 g2.2 fun v=> ?_]
  constructor
  ·intro hv
   rcases List.mem_cons.1 ((h v).1 (by simp[hv]))with e|e
   ·subst e;exact absurd (g1.1 v hv) ad
   ·exact e
  ·intro hv
   rcases List.mem_cons.1 ((h v).2 (by simp[hv]))with e|e
   ·subst e;exact absurd (g2.1 v hv) ad
   ·exact e
theorem Fy{α:Type}{l:List α}{i:Nat}{n:α}(h:l[i]? =some n):(n::l.eraseIdx i).Perm l:=by
 obtain⟨hi,e⟩:=List.getElem?_eq_some_iff.1 h
 have vc:l=l.take i++n::l.drop (i+1):=by rw[<- e,List.getElem_cons_drop,List.take_append_drop]
 rw[List.eraseIdx_eq_take_drop_succ]
 conv=>rhs;rw[vc]
 exact List.perm_middle.symm
theorem wH:∀ (l:List Int) (n:Int),(kM l n).length<=l.length+1
 |[],n=>by simp[kM]
 |x::l,n=>by
  have:=wH l n
  simp only[kM]
  split
  ·simp;omega
  ·split<;>simp
theorem oi(op n:Int)(i:Nat):∀ (l out:List Int),(mK op n i l out).length<=out.length+l.length
 |[],out=>by simp[mK]
 |x::l,out=>by
  have hk:mK op n i (x::l) out=mK op n i l (if(op !=8||(i:Int)!=1||x !=n)=true then kM out x else out):=rfl
  rw[hk]
  have h1:=wH out x
  split
  ·have:=oi op n i l (kM out x);simp;omega
  ·have:=oi op n i l out;simp;omega
theorem eX:∀t:Tm,(bt t).length<=t.sz:=by
 refine Tm.cB fun t ih=> ?_
 have hs:∀ (l:List Tm) (i:Nat) (out:List Int),(∀k∈l,k∈t.kids)->(jN t.op t.n l i out).length<=out.length+fU l:=by
  intro l
  induction l with
  |nil=>intro i out _;simp[jN]
  |cons k l pX=>
   intro i out hk
   have h1:=ih k (hk k au)
   have h2:=oi t.op t.n i (bt k) out
   have h3:=pX (i+1) (mK t.op t.n i (bt k) out) (fun x hx=>hk x mf)
   rw[ej]
   show(jN t.op t.n l (i+1) (mK t.op t.n i (bt k) out)).length<=_
   omega
 rw[oh,Tm.iU]
 split
 ·simp
 ·have:=hs t.kids 0 [] (fun _ h=>h);simp at this;omega
theorem I9{s:ba}{l:List Tm}(h:dg s l=true):∀t∈l,t.sz<=40/\t.iE<=12:=by
 intro t ht
 rw[IV]at h
 simp only[Fk,Bool.and_eq_true,List.all_eq_true,dV,decide_eq_true_eq,kJ]at h
 have:=(h.2 t ht).1
 omega
theorem PY(t:Tm):oL [t]=iV t:=by simp[oL]
theorem DD(op v:Int)(x:Tm)(l:List Tm):kT op v (x::l)=kT op v l+if x.op=op/\x.n=v then 1 else 0:=by
 unfold kT
 rw[List.countP_cons]
 by_cases h:x.op=op/\x.n=v
 ·simp[h]
 ·rw[if_neg h,if_neg (by simpa using h)]
theorem Fz(op v:Int)(a b:List Tm):kT op v (a++b)=kT op v a+kT op v b:=by unfold kT;rw[List.countP_append]
theorem jY(op v:Int)(l:List Tm):0<kT op v l↔∃x∈l,x.op=op/\x.n=v:=by
 unfold kT
 rw[List.countP_pos_iff]
 simp
mutual
def bV:Tm->List Int
 | .mk op n kids=>(if op=8 then [n]else [])++bH kids
def bH:List Tm->List Int
 |[]=>[]
 |k::l=>bV k++bH l
end
theorem iq(t:Tm):bV t=(if t.op=8 then [t.n]else [])++bH t.kids:=by cases t;rw[bV];rfl
theorem oj:∀ (t:Tm) (v:Int),(bV t).count v=kT 8 v (iV t):=by
 refine Tm.cB fun t ih v=> ?_
 have key:∀l:List Tm,(∀k∈l,k∈t.kids)->(bH l).count v=kT 8 v (l.flatMap iV):=by
  intro l
  induction l with
  |nil=>intro _;rfl
  |cons k l pX=>
   intro hk
   rw[bH,List.count_append,ih k (hk k (by simp)) v,pX (fun x hx=>hk x (by simp[hx])),List.flatMap_cons,Fz]
 rw[iq,List.count_append,key t.kids (fun _ h=>h),mH,DD]
 by_cases h:t.op=8
 ·by_cases h2:t.n=v
  ·simp[h,h2];omega
  ·simp[h,h2]
 ·simp[h]
theorem oM(t:Tm)(v:Int):v∈bV t↔0<kT 8 v (iV t):=by
 rw[<- oj,List.count_pos_iff]
mutual
def dJ(n:Int):Tm->Bool
 | .mk op k kids=>gy n kids&&((op !=1&&op !=8)||decide (k<n))
def gy(n:Int):List Tm->Bool
 |[]=>true
 |k::l=>dJ n k&&gy n l
end
theorem qc(n:Int)(t:Tm):dJ n t=(gy n t.kids&&((t.op !=1&&t.op !=8)||decide (t.n<n))):=by cases t;rw[dJ];rfl
theorem qd(n:Int):∀t:Tm,dJ n t=true↔∀x∈iV t,x.op=1\/x.op=8->x.n<n:=by
 refine Tm.cB fun t ih=> ?_
 have key:∀l:List Tm,(∀k∈l,k∈t.kids)->(gy n l=true↔∀x∈l.flatMap iV,x.op=1\/x.op=8->x.n<n):=by
  intro l
  induction l with
  |nil=>intro _;simp[gy]
  |cons k l pX=>
   intro hk
   rw[gy,Bool.and_eq_true,ih k (hk k (by simp)),pX (fun x hx=>hk x (by simp[hx])),List.flatMap_cons]
   simp only[List.mem_append]
   constructor
   ·rintro⟨a,b⟩ x (h|h)
    ·exact a x h
    ·exact b x h
   ·intro a
    exact⟨fun x h=>a x (.inl h),fun x h=>a x (.inr h)⟩
 rw[qc,Bool.and_eq_true,key t.kids (fun _ h=>h),mH]
 simp only[List.mem_cons,Bool.or_eq_true,Bool.and_eq_true,bne_iff_ne,decide_eq_true_eq]
 constructor
 ·rintro⟨a,b⟩ x (h|h) h2
  ·subst h
   rcases b with⟨b1,b2⟩|b
   ·rcases h2 with e|e
    ·exact absurd e b1
    ·exact absurd e b2
   ·exact b
  ·exact a x h h2
 ·intro a
  refine⟨fun x h=>a x (.inr h), ?_⟩
  by_cases h:t.op=1\/t.op=8
  ·exact .inr (a t (.inl rfl) h)
  ·exact .inl ⟨fun e=>h (.inl e),fun e=>h (.inr e)⟩
theorem FA(n:Int)(t:Tm):dJ n t=true↔(∀v,0<kT 1 v (iV t)->v<n)/\∀v,0<kT 8 v (iV t)->v<n:=by
 rw[qd]
 constructor
 ·intro a
  refine⟨fun v h=> ?_,fun v h=> ?_⟩<;>(obtain⟨x,h1,h2,h3⟩:=(jY _ _ _).1 h;rw[<- h3];exact a x h1 (by simp[h2]))
 ·rintro⟨a,b⟩ x h (h2|h2)
  ·exact a _ ((jY _ _ _).2 ⟨x,h,h2,rfl⟩)
  ·exact b _ ((jY _ _ _).2 ⟨x,h,h2,rfl⟩)
def qe(t:Tm)(bf:List Int):Bool:=(bV t).all fun v=> !(decide (1<((bV t).count v:Int))||bf.contains v||(bt t).contains v)
theorem zr(t:Tm)(bf:List Int):qe t bf=true↔∀v,0<kT 8 v (iV t)->kT 8 v (iV t)<=1/\v∉bf/\sU v t=false:=by
 unfold qe
 rw[List.all_eq_true]
 have hv:∀v,(bt t).contains v=sU v t:=fun v=>by
  rw[Bool.eq_iff_iff,List.contains_iff_mem,(dS t).2 v]
 constructor
 ·intro a v h
  have:=a v ((oM t v).2 h)
  rw[oj,hv]at this
  simp at this
  exact⟨ad,this.1.2,this.2⟩
 ·intro a v h
  obtain⟨a1,a2,a3⟩:=a v ((oM t v).1 h)
  rw[oj,hv,a3]
  simp
  exact⟨ad,a2⟩
theorem oN:∀ (W A:List Int),A.Nodup->(∀v,v∈A↔v∈W)->A.length<=W.length/\(A.length=W.length↔W.Nodup)
 |[],A,hA,h=>by
  have:A=[]:=List.eq_nil_iff_forall_not_mem.2 fun v hv=>by simpa using(h v).1 hv
  subst this;simp
 |x::W,A,hA,h=>by
  by_cases hx:x∈W
  ·have ih:=(oN W A hA fun v=>by
    rw[h v,List.mem_cons]
    exact⟨fun e=>e.elim (fun e=>e ▸ hx) id, .inr⟩).1
   refine⟨by simp;omega, ?_⟩
   rw[List.length_cons,List.nodup_cons]
   exact⟨fun e=>ad,fun e=>absurd hx e.1⟩
  ·have hxA:x∈A:=(h x).2 au
   have ih:=oN W (A.erase x) (hA.erase x) fun v=>by
    rw[hA.mem_erase_iff,h v,List.mem_cons]
    constructor
    ·rintro⟨a,b|b⟩
     ·exact absurd b a
     ·exact b
    ·intro a
     exact⟨fun e=>hx (e ▸ a), .inr a⟩
   have hl:(A.erase x).length=A.length - 1:=List.length_erase_of_mem hxA
   have hp:0<A.length:=List.length_pos_of_mem hxA
   rw[hl]at ih
   rw[List.length_cons,List.nodup_cons]
   refine⟨ad, ?_⟩
   constructor
   ·intro e;exact⟨hx,ih.2.1 ad⟩
   ·intro e
    have:=ih.2.2 e.2
    omega
def Mt(t:Tm):List Int:=((iV t).filter fun x=>x.op==1).map Tm.n
theorem wI(l:List Tm)(v:Int):((l.filter fun x=>x.op==1).map Tm.n).count v=kT 1 v l:=by
 induction l with
 |nil=>rfl
 |cons x l ih=>
  rw[DD, <- ih]
  by_cases h:x.op=1
  ·have h':(x.op==1)=true:=by simpa using h
   have e:(x::l).filter (fun x=>x.op==1)=x::l.filter (fun x=>x.op==1):=by rw[List.filter_cons,if_pos h']
   rw[e,List.map_cons,List.count_cons]
   by_cases h2:x.n=v
   ·simp[h,h2]
   ·simp[h2]
  ·have h': ¬ (x.op==1)=true:=by simpa using h
   have e:(x::l).filter (fun x=>x.op==1)=l.filter (fun x=>x.op==1):=by rw[List.filter_cons,if_neg h']
   rw[e]
   simp[h]
structure zu (t:Tm):Prop where
 once:(Mt t).Nodup
 free:∀v,sU v t=true↔v∈Mt t
theorem tN(t:Tm):(bt t).Nodup:=(dS t).1.imp fun {a b} h=>ad
theorem Xw{t:Tm}(h:zu t):(bt t).length=(Mt t).length:=
 ((oN (Mt t) (bt t) (tN t) fun v=>by rw[(dS t).2 v,h.free v]).2).2 h.once
def DE(l:List Tm):Bool:=(l.map fun t=>(bt t).length).sum==(bt (.mk 0 0 l)).length
theorem DF(l:List Tm)(v:Int):sU v (.mk 0 0 l)=true↔∃t∈l,sU v t=true:=by
 have key:∀ (l:List Tm) (i:Nat),iu v 0 0 l i=l.any (sU v):=by
  intro l
  induction l with
  |nil=>intro i;rfl
  |cons k l ih=>intro i;simp[iu,ih]
 have e:sU v (.mk 0 0 l)=iu v 0 0 l 0:=rfl
 rw[e,key,List.any_eq_true]
theorem G2(l:List Tm)(h:∀t∈l,zu t):DE l=true↔∀v,kT 1 v (oL l)<=1:=by
 have hW:((oL l).filter fun x=>x.op==1).map Tm.n=l.flatMap Mt:=by
  unfold oL
  induction l with
  |nil=>rfl
  |cons t l ih=>
   rw[List.flatMap_cons,List.filter_append,List.map_append,List.flatMap_cons,ih (fun x hx=>h x (by simp[hx]))];rfl
 have hlen:(l.map fun t=>(bt t).length).sum=(l.flatMap Mt).length:=by
  clear hW
  induction l with
  |nil=>rfl
  |cons t l ih=>
   rw[List.map_cons,List.sum_cons,List.flatMap_cons,List.length_append,ih (fun x hx=>h x (by simp[hx])),Xw (h t (by simp))]
 have hm:∀v,v∈bt (.mk 0 0 l)↔v∈l.flatMap Mt:=fun v=>by
  rw[(dS _).2 v,DF,List.mem_flatMap]
  constructor
  ·rintro⟨t,h1,h2⟩;exact⟨t,h1,((h t h1).free v).1 h2⟩
  ·rintro⟨t,h1,h2⟩;exact⟨t,h1,((h t h1).free v).2 h2⟩
 have hn:=(oN (l.flatMap Mt) (bt (.mk 0 0 l)) (tN _) hm).2
 unfold DE
 rw[hlen,beq_iff_eq,eq_comm,hn,List.nodup_iff_count]
 constructor
 ·intro a v;rw[<- wI,hW];exact a v
 ·intro a v;rw[<- hW,wI];exact a v
def mL(t:Tm):Bool:=t.op==1||t.op==3
mutual
def gW:Tm->Bool
 | .mk op n kids=>uM kids&&mL (.mk op n kids)
def uM:List Tm->Bool
 |[]=>true
 |k::l=>gW k&&uM l
end
theorem zw(t:Tm):gW t=(t.kids.all gW&&mL t):=by
 have:∀l:List Tm,uM l=l.all gW:=fun l=>by
  induction l with
  |nil=>rfl
  |cons k l ih=>simp[uM,ih]
 cases t;simp only[gW,this,Tm.kids]
mutual
def gz:Tm->List Int->List Int×Bool
 | .mk op n kids,b=>if op=1 then(kM b n, !b.contains n)else gX kids b
def gX:List Tm->List Int->List Int×Bool
 |[],b=>(b,true)
 |k::l,b=>if(gz k b).2=true then gX l (gz k b).1 else((gz k b).1,false)
end
theorem rC(t:Tm)(b:List Int):gz t b=if t.op=1 then(kM b t.n, !b.contains t.n)else gX t.kids b:=by cases t;rfl
theorem Ja:∀ (t:Tm) (b:List Int),(gz t b).1.length<=b.length+t.sz:=by
 refine Tm.cB fun t ih b=> ?_
 have hs:∀ (l:List Tm) (b:List Int),(∀k∈l,k∈t.kids)->(gX l b).1.length<=b.length+fU l:=by
  intro l
  induction l with
  |nil=>intro b _;simp[gX,fU]
  |cons k l pX=>
   intro b hk
   have h1:=ih k (hk k au) b
   have h2:=pX (gz k b).1 (fun x hx=>hk x mf)
   rw[ej]
   simp only[gX]
   split
   ·omega
   ·simp only;omega
 rw[rC,Tm.iU]
 have h3:=wH b t.n
 have h4:=hs t.kids b (fun _ h=>h)
 split
 ·simp only;omega
 ·omega
def uu(l:List (Tm×Int)):List Int:=(l.filter fun x=>x.1.op==1).map fun x=>x.1.n
theorem wJ(a b:List (Tm×Int)):uu (a++b)=uu a++uu b:=by simp[uu]
theorem wK(x:Tm×Int)(l:List (Tm×Int)):uu (x::l)=(if x.1.op=1 then x.1.n::uu l else uu l):=by
 unfold uu
 by_cases h:x.1.op=1
 ·simp[h]
 ·simp[h]
theorem Bc{l:List Tm}{d v:Int}:v∈uu (l.flatMap fun k=>pre k d)↔∃k∈l,v∈uu (pre k d):=by
 induction l with
 |nil=>simp[uu]
 |cons k l ih=>simp[wJ,ih]
theorem G3{v op n:Int}(h:op≠8):∀ (l:List Tm) (i:Nat),iu v op n l i=l.any (sU v)
 |[],i=>rfl
 |k::l,i=>by
  have:(op==8)=false:=by simpa using h
  simp[iu,G3 h l,this]
theorem Xx:∀ (t:Tm) (d:Int),(∀x∈pre t d,x.1.op≠8)->(∀x∈pre t d,x.1.op=1->x.1.kids=[])->∀v,sU v t=true↔v∈uu (pre t d):=by
 refine Tm.cB fun t ih d h8 h1 v=> ?_
 have hp:=jL t d
 have ht8:t.op≠8:=h8 (t,d) (by rw[hp];simp)
 have lU:∀k∈t.kids,∀x∈pre k (d+1),x∈pre t d:=fun k hk x hx=>by rw[hp];exact List.mem_cons_of_mem _ (List.mem_flatMap.2 ⟨k,hk,hx⟩)
 rw[hp,wK,gV]
 by_cases h:t.op=1
 ·have hk:t.kids=[]:=h1 (t,d) (by rw[hp];simp) h
  simp only[if_pos h,hk,List.flatMap_nil]
  show(t.n==v)=true↔v∈[t.n]
  rw[beq_iff_eq,List.mem_singleton];exact eq_comm
 ·simp only[if_neg h]
  rw[G3 ht8,Bc,List.any_eq_true]
  constructor
  ·rintro⟨k,hk,hv⟩
   exact⟨k,hk,(ih k hk (d+1) (fun x hx=>h8 x (lU k hk x hx)) (fun x hx=>h1 x (lU k hk x hx)) v).1 hv⟩
  ·rintro⟨k,hk,hv⟩
   exact⟨k,hk,(ih k hk (d+1) (fun x hx=>h8 x (lU k hk x hx)) (fun x hx=>h1 x (lU k hk x hx)) v).2 hv⟩
theorem rD{s:ba}{t:Tm}(h:dV s t=true):∀x∈pre t 1,bC s x.1=true:=by
 simp only[dV,Bool.and_eq_true,wo s t 1,List.all_eq_true]at h
 exact h.2
theorem DG{s:ba}{t:Tm}(h:bC s t=true)(h1:t.op=1):t.kids=[]:=by
 simp[bC,h1]at h
 exact h.1
theorem wL:∀ (L:List (Tm×Int)) (l:List Int) (b:Bool),(aA (yW pJ l6) (l,b) L).2=true↔(∀x∈L,mL x.1=true)/\(uu L).Nodup/\∀v∈uu L,v∉l
 |[],l,b=>by simp[aA,uu]
 |x::L,l,b=>by
  have e1:∀c,ur l x=c->yW pJ l6 (l,b) x=((if c=true then l else if x.1.op=1 then sR l x.1.n else l, !c), !c):=fun c hc=>by
   show((if ur l x=true then l else if x.1.op=1 then sR l x.1.n else l, !ur l x),(pJ (if ur l x=true then l else if x.1.op=1 then sR l x.1.n else l, !ur l x)).isNone)=_
   rw[hc];cases c<;>rfl
  rw[aA,wK]
  cases hb:ur l x with
  |true=>
   rw[e1 _ hb]
   simp only[Bool.not_true,Bool.false_eq_true,if_false,false_iff,not_and]
   intro hs hn hv
   have hsx:=hs x au
   simp only[ur,mL,Bool.or_eq_true,Bool.and_eq_true,bne_iff_ne,beq_iff_eq,ne_eq]at hb hsx
   rcases hb with⟨h1,h2⟩|⟨h1,h2⟩
   ·rcases hsx with h|h
    ·exact h1 h
    ·exact h2 h
   ·rw[if_pos h1]at hv
    exact hv x.1.n au Em
  |false=>
   rw[e1 _ hb]
   simp only[Bool.not_false,if_true,Bool.false_eq_true,if_false]
   rw[wL L]
   simp only[ur,Bool.or_eq_false_iff,Bool.and_eq_false_iff,bne_eq_false_iff_eq,beq_eq_false_iff_ne,ne_eq]at hb
   have hsx:mL x.1=true:=by simp only[mL,Bool.or_eq_true,beq_iff_eq];exact hb.1
   by_cases h1:x.1.op=1
   ·have xI:x.1.n∉l:=by
     rcases hb.2 with h|h
     ·exact absurd h1 h
     ·intro hm;rw[<- List.contains_iff_mem]at hm;rw[h]at hm;cases hm
    rw[if_pos h1,if_pos h1]
    simp only[List.mem_cons,forall_eq_or_imp,hsx,true_and,List.nodup_cons,wC,not_or]
    constructor
    ·rintro⟨a1,a2,a3⟩
     exact⟨a1,⟨fun hm=>(a3 _ hm).2 rfl,a2⟩,xI,fun v hv=>(a3 v hv).1⟩
    ·rintro⟨a1,⟨a2,a3⟩,a4,a5⟩
     exact⟨a1,a3,fun v hv=>⟨a5 v hv,fun e=>a2 (e ▸ hv)⟩⟩
   ·rw[if_neg h1,if_neg h1]
    simp only[List.mem_cons,forall_eq_or_imp,hsx,true_and]
theorem Jb:∀ (t:Tm) (d:Int),(∀x∈pre t d,x.1.op=1->x.1.kids=[])->∀b:List Int,((gz t b).2=true↔(uu (pre t d)).Nodup/\∀v∈uu (pre t d),v∉b)/\((gz t b).2=true->∀v,v∈(gz t b).1↔v∈b\/v∈uu (pre t d)):=by
 refine Tm.cB fun t ih d h1 b=> ?_
 have hp:=jL t d
 have lU:∀k∈t.kids,∀x∈pre k (d+1),x∈pre t d:=fun k hk x hx=>by rw[hp];exact List.mem_cons_of_mem _ (List.mem_flatMap.2 ⟨k,hk,hx⟩)
 have hs:∀ (l:List Tm) (b:List Int),(∀k∈l,k∈t.kids)->((gX l b).2=true↔(uu (l.flatMap fun k=>pre k (d+1))).Nodup/\∀v∈uu (l.flatMap fun k=>pre k (d+1)),v∉b)/\((gX l b).2=true->∀v,v∈(gX l b).1↔v∈b\/v∈uu (l.flatMap fun k=>pre k (d+1))):=by
  intro l
  induction l with
  |nil=>intro b _;simp[gX,uu]
  |cons k l pX=>
   intro b hk
   obtain⟨k1,k2⟩:=ih k (hk k au) (d+1) (fun x hx=>h1 x (lU k (hk k au) x hx)) b
   obtain⟨l1,l2⟩:=pX (gz k b).1 (fun x hx=>hk x mf)
   simp only[gX,List.flatMap_cons,wJ,List.nodup_append,List.mem_append]
   by_cases hc:(gz k b).2=true
   ·rw[if_pos hc]
    have hm:=k2 hc
    obtain⟨c1,c2⟩:=k1.1 hc
    constructor
    ·rw[l1]
     constructor
     ·rintro⟨a1,a2⟩
      refine⟨⟨c1,a1,fun x hx y hy e=>a2 y hy ((hm y).2 (.inr (e ▸ hx)))⟩, ?_⟩
      rintro v (hv|hv)
      ·exact c2 v hv
      ·exact fun hb=>a2 v hv ((hm v).2 (.inl hb))
     ·rintro⟨⟨a1,a2,a3⟩,a4⟩
      refine⟨a2,fun v hv NF=> ?_⟩
      rcases(hm v).1 NF with h|h
      ·exact a4 v (.inr hv) h
      ·exact a3 v h v hv rfl
    ·intro h v
     rw[l2 h v,hm v]
     constructor
     ·rintro((h|h)|h)
      ·exact .inl h
      ·exact .inr (.inl h)
      ·exact .inr (.inr h)
     ·rintro(h|h|h)
      ·exact .inl (.inl h)
      ·exact .inl (.inr h)
      ·exact .inr h
   ·rw[if_neg hc]
    simp only[Bool.false_eq_true,false_iff,false_implies,and_true,not_and]
    rintro⟨a1,a2,a3⟩ a4
    exact hc (k1.2 ⟨a1,fun v hv=>a4 v (.inl hv)⟩)
 rw[rC,hp,wK]
 by_cases h:t.op=1
 ·have hk:t.kids=[]:=h1 (t,d) (by rw[hp];simp) h
  simp only[if_pos h,hk,List.flatMap_nil]
  simp only[uu,List.filter_nil,List.map_nil,List.nodup_cons,List.not_mem_nil,not_false_eq_true,List.nodup_nil,and_self,true_and,List.mem_singleton,forall_eq,Bool.not_eq_true',rB]
  refine⟨?_,fun _ v=>trivial⟩
  rw[Bool.eq_false_iff,ne_eq,List.contains_iff_mem]
 ·simp only[if_neg h]
  exact hs t.kids b (fun _ h=>h)
theorem Jc:∀ (t:Tm) (d:Int),gW t=(pre t d).all fun x=>mL x.1:=by
 refine Tm.cB fun t ih d=> ?_
 rw[GO mL,zw,Bool.and_comm]
 congr 1
 rw[Bool.eq_iff_iff]
 simp only[List.all_eq_true (l:=t.kids)]
 exact forall_congr' fun k=>forall_congr' fun hk=>by rw[ih k hk (d+1)]
theorem Mu{s:ba}{t:Tm}(h:dV s t=true):xR t=((gz t []).2&&gW t):=by
 have h1:=(Jb t 1 (fun x hx ho=>DG (rD h x hx) ho) []).1
 rw[Bool.eq_iff_iff,Bool.and_eq_true,h1,xR,wL,Jc t 1,List.all_eq_true]
 constructor
 ·rintro⟨a,b,c⟩;exact⟨⟨b,fun v _=>au⟩,a⟩
 ·rintro⟨⟨a,b⟩,c⟩;exact⟨c,a,fun v _=>au⟩
theorem Bd:∀ (t:Tm) (d:Int),(pre t d).map (·.1)=iV t:=by
 refine Tm.cB fun t ih d=> ?_
 have key:∀l:List Tm,(∀k∈l,k∈t.kids)->((l.flatMap fun k=>pre k (d+1)).map (·.1))=l.flatMap iV:=by
  intro l
  induction l with
  |nil=>intro _;rfl
  |cons k l pX=>
   intro hk
   rw[List.flatMap_cons,List.map_append,ih k (hk k (by simp)),pX (fun x hx=>hk x (by simp[hx])),List.flatMap_cons]
 rw[jL,mH,List.map_cons,key t.kids (fun _ h=>h)]
theorem G4(t:Tm)(d:Int):uu (pre t d)=Mt t:=by
 unfold uu Mt
 rw[<- Bd t d,List.filter_map,List.map_map]
 rfl
theorem PZ{t x:Tm}(h:x∈iV t):∃y∈pre t 1,y.1=x:=by
 rw[<- Bd t 1]at h
 obtain⟨y,h1,h2⟩:=List.mem_map.1 h
 exact⟨y,h1,h2⟩
theorem FB{s:ba}{t:Tm}(h:dV s t=true)(hp:xR t=true):zu t/\∀x∈iV t,x.op≠8:=by
 rw[xR,wL]at hp
 obtain⟨a,b,_⟩:=hp
 have h8:∀y∈pre t 1,y.1.op≠8:=fun y hy e=>by
  have:=a y hy
  simp[mL,e]at this
 refine⟨⟨by rw[<- G4 t 1];exact b,fun v=> ?_⟩,fun x hx=> ?_⟩
 ·rw[<- G4 t 1]
  exact Xx t 1 h8 (fun x hx ho=>DG (rD h x hx) ho) v
 ·obtain⟨y,h1,h2⟩:=PZ hx
  rw[<- h2];exact h8 y h1
def kN(s:ba)(r:Rl):Bool:=decide (0<=r.fn)&&(match s.bZ[r.fn.toNat]? with|some f=>(r.bf.length:Int)==f.args|none=>false)&&decide (0<=r.vars)&&decide (r.vars<=20)
def gk(s:ba)(r:Rl):Bool:=(kN s r&&dV s r.rhs)&&(r.bf.all fun p=>(dV s p&&((gz p []).2&&gW p))&&dJ r.vars p)&&(DE r.bf&&dJ r.vars r.rhs&&qe r.rhs (bt (.mk 0 0 r.bf)))
theorem P8(s:ba)(r:Rl)(hs:kF s=true)(h1:(oL r.bf).length<=1000000)(h2:(oL [r.rhs]).length<=1000000):fF s r=gk s r:=by
 have Mv:∀t,dg s [t]=dV s t:=fun t=>by unfold dg;simp[hs,qb]
 have DH:mU s r=true↔(kN s r=true/\(∀t∈r.bf,dV s t=true/\xR t=true))/\dV s r.rhs=true:=by
  have e:mU s r=((kN s r&&r.bf.all (lq s))&&dg s [r.rhs]):=rfl
  rw[e,Mv,Bool.and_eq_true,Bool.and_eq_true,List.all_eq_true]
  simp only[lq,Mv,Bool.and_eq_true]
 have mono:∀t∈r.bf,∀v,0<kT 1 v (iV t)->0<kT 1 v (oL r.bf):=fun t ht v h=>by
  obtain⟨x,a,b⟩:=(jY _ _ _).1 h
  exact(jY _ _ _).2 ⟨x,List.mem_flatMap.2 ⟨t,ht,a⟩,b⟩
 have split:∀v,0<kT 1 v (oL r.bf)->∃t∈r.bf,0<kT 1 v (iV t):=fun v h=>by
  obtain⟨x,a,b⟩:=(jY _ _ _).1 h
  obtain⟨t,c,d⟩:=List.mem_flatMap.1 a
  exact⟨t,c,(jY _ _ _).2 ⟨x,d,b⟩⟩
 have hvs:∀ (t:Tm) (v:Int),v∈Mt t↔0<kT 1 v (iV t):=fun t v=>by rw[<- wI,List.count_pos_iff];rfl
 have Mw:(∀t∈r.bf,zu t)->∀v,v∈bt (.mk 0 0 r.bf)↔0<kT 1 v (oL r.bf):=fun h v=>by
  rw[(dS _).2 v,DF]
  constructor
  ·rintro⟨t,a,b⟩;exact mono t a v ((hvs t v).1 (((h t a).free v).1 b))
  ·intro a
   obtain⟨t,b,c⟩:=split v a
   exact⟨t,b,((h t b).free v).2 ((hvs t v).2 c)⟩
 rw[Bool.eq_iff_iff,I8 s r h1 h2,DH]
 unfold gk
 simp only[Bool.and_eq_true,List.all_eq_true,FA,zr,PY]
 constructor
 ·rintro⟨⟨⟨a,p⟩,rt⟩,A,B,C,D⟩
  have bA:∀t∈r.bf,zu t:=fun t ht=>(FB (p t ht).1 (p t ht).2).1
  refine⟨⟨⟨a,rt⟩,fun t ht=>⟨⟨(p t ht).1, ?_⟩,fun v hv=>(A v (mono t ht v hv)).2,fun v hv=> ?_⟩⟩,⟨(G2 _ bA).2 fun v=> ?_,B,fun v hv=>(C v hv).2.1⟩,fun v hv=>⟨(C v hv).1, ?_, ?_⟩⟩
  ·have:=(p t ht).2
   rw[Mu (p t ht).1,Bool.and_eq_true]at this
   exact this
  ·obtain⟨x,b,c,_⟩:=(jY _ _ _).1 hv
   exact absurd c ((FB (p t ht).1 (p t ht).2).2 x b)
  ·by_cases h:0<kT 1 v (oL r.bf)
   ·exact(A v h).1
   ·omega
  ·rw[Mw bA v];have:=(C v hv).2.2;omega
  ·cases hf:sU v r.rhs with
   |false=>rfl
   |true=>have:=D v hf;omega
 ·rintro⟨⟨⟨a,rt⟩,p⟩,⟨l,B,B2⟩,C⟩
  have hp:∀t∈r.bf,dV s t=true/\xR t=true:=fun t ht=>⟨(p t ht).1.1,by
   rw[Mu (p t ht).1.1,Bool.and_eq_true];exact(p t ht).1.2⟩
  have bA:∀t∈r.bf,zu t:=fun t ht=>(FB (hp t ht).1 (hp t ht).2).1
  refine⟨⟨⟨a,hp⟩,rt⟩,fun v hv=>⟨(G2 _ bA).1 l v, ?_⟩,B,fun v hv=>⟨(C v hv).1,B2 v hv, ?_⟩,fun v hv=> ?_⟩
  ·obtain⟨t,b,c⟩:=split v hv
   exact(p t b).2.1 v c
  ·have:=(C v hv).2.1
   rw[Mw bA v]at this
   omega
  ·by_cases h:0<kT 8 v (iV r.rhs)
   ·have:=(C v h).2.2
    rw[hv]at this;cases this
   ·omega
theorem P9(t:Tm):(iV t).length=t.sz:=by rw[<- Bd t 1,List.length_map];rfl
theorem Be:∀ (l:List Tm) (n:Nat),(∀t∈l,t.sz<=n)->(oL l).length<=l.length*n
 |[],n,_=>by simp[oL]
 |t::l,n,h=>by
  have ih:=Be l n (fun x hx=>h x mf)
  have e:(oL (t::l)).length=(iV t).length+(oL l).length:=by simp[oL]
  have:=h t au
  rw[e,P9,List.length_cons,Nat.add_mul];omega
def fe(p:Pg):Bool:=(kF p.sig&&decide (p.rules.length<=16))&&p.rules.all (gk p.sig)
def G5(p:Pg):Prop:=∀r∈p.rules,r.bf.length<=6/\(∀t∈r.bf,t.sz<=50)/\r.rhs.sz<=50
theorem Qa(p:Pg)(h:G5 p):mV p=fe p:=by
 unfold mV fe
 cases hs:kF p.sig with
 |false=>simp
 |true=>
  have e:p.rules.all (fF p.sig)=p.rules.all (gk p.sig):=by
   rw[Bool.eq_iff_iff,List.all_eq_true,List.all_eq_true]
   have k:∀r∈p.rules,fF p.sig r=gk p.sig r:=fun r hr=>by
    obtain⟨a,b,c⟩:=h r hr
    refine P8 p.sig r hs ?_ ?_
    ·have:=Be r.bf 50 b
     omega
    ·have:=Be [r.rhs] 50 (fun t ht=>by simp at ht;subst ht;exact c)
     simp at this;omega
   exact⟨fun a r hr=>(k r hr) ▸ a r hr,fun a r hr=>(k r hr).symm ▸ a r hr⟩
  rw[e];simp
def gA:Tm:= .mk 16 0 []
def dT(b:Bool):Tm:= .mk 3 (if b=true then 1 else 0) []
mutual
def eS(l:List Tm):Tm->Tm
 | .mk op n kids=>if op=1 then(l[n.toNat]?).getD gA else .mk op n (Bf l kids)
def Bf(l:List Tm):List Tm->List Tm
 |[]=>[]
 |k::ks=>eS l k::Bf l ks
end
theorem wM(l:List Tm):∀ks:List Tm,Bf l ks=ks.map (eS l)
 |[]=>rfl
 |k::ks=>by simp[Bf,wM l ks]
theorem rE(l:List Tm)(t:Tm):eS l t=if t.op=1 then(l[t.n.toNat]?).getD gA else .mk t.op t.n (t.kids.map (eS l)):=by cases t;rw[eS,wM];rfl
def nh(r:Rl)(b:List Tm):List Tm:=b.mapIdx fun i x=>if(bV r.rhs).contains (i:Int)=true then gA else x
def jE(env:List Tm)(n:Int)(v:Tm):List Tm:=(env++List.replicate (n.toNat+1 - env.length) gA).set n.toNat v
def lr(s:ba)(f:Int):Tm:= .mk 4 f ((List.range (dq s.bZ f).toNat).map fun i:Nat=> .mk 1 (i:Int) [])
def gr(t:Tm)(i:Nat):Tm:=(t.kids[i]?).getD gA
def bu(l:List Pf)(i:Nat):Tm:=((l[i]?).map Pf.val).getD gA
def lu(l:List (List Tm->Tm->Bool))(i:Nat):List Tm->Tm->Bool:=(l[i]?).getD fun _ _=>false
def ni(l:List (List Tm->Tm->Bool))(env es:List Tm):Bool:=l.length==es.length&&(l.zip es).all fun x=>x.1 env x.2
def om(op a b:Int):Tm:=if op=15 then dT (decide (a<b))else .mk 2 (if op=14 then a - b else a+b) []
def kU(r:Int)(e v a b:Tm):Bool:=
 if r=10 then e.op==9&&(aI a (dT true)&&aI b v)
 else if r=11 then e.op==10&&(aI a (dT true)&&aI b (dT true)&&aI v (dT true))
 else if r=12 then e.op==11&&(aI a b&&b9 16 a&&aI v (dT true))
 else if r=13 then e.op==12&&((b9 16 a&&b9 1 a)&&(b9 16 b&&b9 1 b)&&aI v (dT (aI a b)))
 else if r=14 then(e.op==13||e.op==14||e.op==15)&&(a.op==2&&b.op==2&&aI v (om e.op a.n b.n))
 else false
def jZ(p:Pg)(r:Int)(v:Tm)(n:Int)(b:List Tm)(ks:List Pf)(g:List (List Tm->Tm->Bool))(env:List Tm)(e:Tm):Bool:=
 if r=1 then ks.length==0&&v.op==16
 else if r=2 then e.op==1&&(ks.length==0&&JU v ((env[e.n.toNat]?).getD gA))
 else if r=3 then e.op==2&&(ks.length==0&&aI v e)
 else if r=4 then e.op==3&&(aI v (.mk e.op e.n (ks.map Pf.val))&&ni g env e.kids)
 else if r=5 then e.op==5&&(aI v (.mk e.op e.n (ks.map Pf.val))&&ni g env e.kids)
 else if r=6 then e.op==4&&decide (0<=n)&&match p.rules[n.toNat]? with
  |none=>false
  |some ru=>(ru.fn==e.n&&(b.length:Int)==ru.vars&&ks.length==e.kids.length+1&&v.op !=16&&aI (bu ks e.kids.length) v)&&
   (aI (.mk 0 0 ((ks.take e.kids.length).map Pf.val)) (.mk 0 0 (ru.bf.map (eS b)))&&ni (g.take e.kids.length) env e.kids&&lu g e.kids.length (nh ru b) ru.rhs)
 else if r=7 then e.op==7&&(ks.length==1&&aI (bu ks 0) v&&lu g 0 env (gr e 0))
 else if r=8 then e.op==7&&(ks.length==1&&aI (bu ks 0) v&&lu g 0 env (gr e 1))
 else if r=9 then e.op==8&&(ks.length==2&&aI (bu ks 1) v&&lu g 0 env (gr e 0)&&lu g 1 (jE env e.n (bu ks 0)) (gr e 1))
 else if r=15 then e.op==6&&(ks.length==2||ks.length==3)&&(lu g 0 env (gr e 0)&&lu g 1 env (gr e 1)&&(bu ks 0).op==5)&&
  (if((bu ks 0).kids.length:Int)+1<dq p.sig.bZ (bu ks 0).n then ks.length==2&&aI v (.mk 5 (bu ks 0).n ((bu ks 0).kids++[bu ks 1]))
   else ks.length==3&&aI (bu ks 2) v&&lu g 2 ((bu ks 0).kids++[bu ks 1]) (lr p.sig (bu ks 0).n))
 else ks.length==2&&kU r e v (bu ks 0) (bu ks 1)&&(lu g 0 env (gr e 0)&&lu g 1 env (gr e 1))
mutual
def bc(p:Pg):Pf->List Tm->Tm->Bool
 | .mk r v n b ks=>jZ p r v n b ks (G6 p ks)
def G6(p:Pg):List Pf->List (List Tm->Tm->Bool)
 |[]=>[]
 |k::l=>bc p k::G6 p l
end
theorem zx(p:Pg):∀l:List Pf,G6 p l=l.map (bc p)
 |[]=>rfl
 |k::l=>by simp[G6,zx p l]
theorem cT(p:Pg)(f:Pf):bc p f=jZ p f.bp f.val f.num f.binds f.kids (f.kids.map (bc p)):=by cases f;rw[bc,zx];rfl
mutual
def Pf.sh:Pf->Tm
 | .mk _ _ _ _ kids=> .mk 0 0 (Pf.shs kids)
def Pf.shs:List Pf->List Tm
 |[]=>[]
 |k::l=>k.sh::Pf.shs l
end
theorem Pf.G7:∀l:List Pf,Pf.shs l=l.map Pf.sh
 |[]=>rfl
 |k::l=>by simp[Pf.shs,Pf.G7 l]
theorem Pf.ac1 (f:Pf):f.sh= .mk 0 0 (f.kids.map Pf.sh):=by cases f;rw[Pf.sh,Pf.G7];rfl
theorem Pf.mM (f:Pf):f.sh.kids=f.kids.map Pf.sh:=by rw[Pf.ac1];rfl
theorem G8:∀ (f:Pf) (d:Int),(dt f d).map (fun x=>(x.1.sh,x.2))=pre f.sh d:=by
 refine Pf.cB fun f ih d=> ?_
 rw[oK,jL,List.map_cons,Pf.mM,List.map_flatMap,List.flatMap_map]
 congr 1
 have:∀l:List Pf,(∀k∈l,k∈f.kids)->(l.flatMap fun k=>(dt k (d+1)).map fun x=>(x.1.sh,x.2))=l.flatMap fun k=>pre k.sh (d+1):=by
  intro l
  induction l with
  |nil=>intro _;rfl
  |cons k l pX=>intro h;rw[List.flatMap_cons,List.flatMap_cons,ih k (h k (by simp)),pX fun x hx=>h x (by simp[hx])]
 exact this f.kids fun _ h=>h
theorem rF(f:Pf)(d:Int):(dt f d).length=f.sh.sz:=by
 rw[<- List.length_map (f:=fun x:Pf×Int=>(x.1.sh,x.2)),G8]
 exact od _ _ _
theorem Xy:∀f:Pf,f.sh.iE=f.iE:=by
 refine Pf.cB fun f ih=> ?_
 have:∀l:List Pf,(∀k∈l,k∈f.kids)->Tm.fZ (l.map Pf.sh)=Pf.fZ l:=by
  intro l
  induction l with
  |nil=>intro _;rfl
  |cons k l pX=>intro h;rw[List.map_cons,oI,Pf.fZ,ih k (h k (by simp)),pX fun x hx=>h x (by simp[hx])]
 rw[Tm.wm,Pf.mM,this f.kids fun _ h=>h]
 cases f;rfl
def iL(s:ba)(f:Pf):Bool:=(BB s f.val&&ng s f.binds)&&(f.bp==6||(f.num==0&&f.binds.length==0))
mutual
def kO(s:ba):Pf->Bool
 | .mk r v n b kids=>iL s (.mk r v n b kids)&&uN s kids
def uN(s:ba):List Pf->Bool
 |[]=>true
 |k::l=>kO s k&&uN s l
end
theorem oO(s:ba)(f:Pf):kO s f=(iL s f&&f.kids.all (kO s)):=by
 have:∀l:List Pf,uN s l=l.all (kO s):=fun l=>by
  induction l with
  |nil=>rfl
  |cons k l ih=>simp[uN,ih]
 cases f;rw[kO,this];rfl
theorem Jd(s:ba):∀ (f:Pf) (d:Int),kO s f=true↔∀x∈dt f d,iL s x.1=true:=by
 refine Pf.cB fun f ih d=> ?_
 rw[oO,oK,Bool.and_eq_true,List.all_eq_true]
 simp only[List.mem_cons,forall_eq_or_imp,List.mem_flatMap]
 constructor
 ·rintro⟨a,b⟩
  refine⟨a, ?_⟩
  rintro x ⟨k,hk,hx⟩
  exact(ih k hk _).1 (b k hk) x hx
 ·rintro⟨a,b⟩
  exact⟨a,fun k hk=>(ih k hk (d+1)).2 fun x hx=>b x ⟨k,hk,hx⟩⟩
def gL(s:ba)(f:Pf):Bool:=decide (0<=ez f.sh 500 150)&&kO s f
theorem G9(s:ba)(f:Pf):og s f=gL s f:=by
 rw[Bool.eq_iff_iff,Mr,gL,Bool.and_eq_true,decide_eq_true_eq,kJ,Jd s f 1,rF]
 have hd:(∀x∈dt f 1,x.2<=150)↔f.sh.iE<=150:=by
  have:=y9 f.sh 1 150
  rw[<- G8]at this
  simp only[List.mem_map,forall_exists_index,and_imp,forall_apply_eq_imp_iff₂]at this
  rw[this];omega
 have hn:∀x:Pf×Int,Fv s x=true↔x.2<=150/\iL s x.1=true:=fun x=>by
  simp only[Fv,iL,Bool.and_eq_true,decide_eq_true_eq,and_assoc]
 simp only[hn]
 constructor
 ·rintro⟨a,b⟩
  exact⟨⟨ad,by have:=hd.1 fun x hx=>(b x hx).1;omega⟩,fun x hx=>(b x hx).2⟩
 ·rintro⟨⟨a,b⟩,c⟩
  exact⟨ad,fun x hx=>⟨hd.2 ad x hx,c x hx⟩⟩
def FC(s:ba)(t:Tm):Prop:=t.fits/\Pn s t
theorem FC.gx {s:ba}{t k:Tm}(h:FC s t)(hk:k∈t.kids):FC s k:=⟨((Tm.aJ t).1 h.1).2 k hk,h.2.gx hk⟩
theorem Bg(s:ba):FC s gA:=⟨by simp[gA,Tm.fits,Tm.jB],by rw[wx];exact⟨rfl,fun k hk=>by cases hk⟩⟩
structure da (s:ba) (env:List Tm):Prop where
 len:env.length<=20
 all:∀t∈env,FC s t
structure cD (s:ba) (n:Nat) (e:Tm):Prop where
 fits:e.fits
 node:eI s e=true
 vars:∀v,sU v e=true->0<=v/\v<n
theorem cD.node1 {s:ba}{n:Nat}{e:Tm}(h:cD s n e):bC s e=true:=by
 have:=h.node;rw[dL,Bool.and_eq_true]at this;exact this.1
theorem uO{v op n:Int}:∀ {l:List Tm} {i j:Nat} {k:Tm},l[i]? =some k->sU v k=true-> ¬ (op=8/\i+j=1/\n=v)->iu v op n l j=true
 |[],_,_,_,h,_,_=>by simp at h
 |x::l,0,j,k,h,hv,hn=>by
  simp at h;subst h
  simp only[iu,Bool.or_eq_true,Bool.and_eq_true]
  left
  refine⟨hv, ?_⟩
  cases hb:(op==8&&j==1&&n==v)with
  |false=>rfl
  |true=>simp at hb;exact absurd ⟨hb.1.1,ad,hb.2⟩ hn
 |x::l,i+1,j,k,h,hv,hn=>by
  simp only[iu,Bool.or_eq_true]
  right
  exact uO (i:=i) (j:=j+1) HG hv (by rw[show i+(j+1)=i+1+j by omega];exact hn)
theorem cD.gx {s:ba}{n:Nat}{e k:Tm}(h:cD s n e)(h1:e.op≠1)(h8:e.op≠8)(hk:k∈e.kids):cD s n k:=by
 refine⟨((Tm.aJ e).1 h.fits).2 k hk, ?_,fun v hv=>h.vars v ?_⟩
 ·have:=h.node;rw[dL,Bool.and_eq_true,List.all_eq_true]at this;exact this.2 k hk
 ·rw[gV,if_neg h1]
  obtain⟨i,hi⟩:=List.getElem?_of_mem hk
  exact uO hi hv fun e=>h8 e.1
theorem cD.ac2 {s:ba}{n:Nat}{e k:Tm}(h:cD s n e)(h8:e.op=8)(hk:e.kids[0]? =some k):cD s n k:=by
 have Qb:=List.mem_of_getElem? hk
 refine⟨((Tm.aJ e).1 h.fits).2 k Qb, ?_,fun v hv=>h.vars v ?_⟩
 ·have:=h.node;rw[dL,Bool.and_eq_true,List.all_eq_true]at this;exact this.2 k Qb
 ·rw[gV,if_neg (by omega)]
  exact uO hk hv fun e=>absurd e.2.1 ad
theorem cD.ac3 {s:ba}{n m:Nat}{e k:Tm}(h:cD s n e)(h8:e.op=8)(hk:e.kids[1]? =some k)(hm:n<=m)(NF:e.n<m):cD s m k:=by
 have Qb:=List.mem_of_getElem? hk
 have hn:=h.node1
 simp[bC,h8,cP]at hn
 refine⟨((Tm.aJ e).1 h.fits).2 k Qb, ?_,fun v hv=> ?_⟩
 ·have:=h.node;rw[dL,Bool.and_eq_true,List.all_eq_true]at this;exact this.2 k Qb
 ·by_cases hc:e.n=v
  ·omega
  ·have:=h.vars v (by
    rw[gV,if_neg (by omega)]
    exact uO hk hv fun e=>hc e.2.2)
   omega
theorem cD.var {s:ba}{n:Nat}{e:Tm}(h:cD s n e)(h1:e.op=1):0<=e.n/\e.n<n:=h.vars e.n (by rw[gV,if_pos h1];simp)
theorem sZ(env:List Tm)(n:Int)(v:Tm):(jE env n v).length=max env.length (n.toNat+1):=by
 simp[jE];omega
theorem DI{s:ba}{env:List Tm}{n:Int}{v:Tm}(h:da s env)(hn:n<=19)(hv:FC s v):da s (jE env n v):=by
 refine⟨by rw[sZ];have:=h.len;omega,fun t ht=> ?_⟩
 rcases List.mem_or_eq_of_mem_set ht with h1|h1
 ·rcases List.mem_append.1 h1 with h2|h2
  ·exact h.all t h2
  ·rw[(List.mem_replicate.1 h2).2];exact Bg s
 ·rw[h1];exact hv
theorem wN(r:Rl)(b:List Tm):(nh r b).length=b.length:=by simp[nh]
theorem Ha{s:ba}{r:Rl}{b:List Tm}(h:da s b):da s (nh r b):=by
 refine⟨by rw[wN];exact h.len,fun t ht=> ?_⟩
 simp only[nh,List.mem_mapIdx]at ht
 obtain⟨i,hi,e⟩:=ht
 rw[<- e]
 split
 ·exact Bg s
 ·exact h.all _ (List.getElem_mem hi)
structure mN (s:ba) (f:Pf):Prop where
 fits:f.fits
 plain:kO s f=true
 size:f.sh.sz<=1000
theorem wO:∀l:List Tm,l.length<=fU l
 |[]=>au
 |k::l=>by rw[ej,List.length_cons];have:=wO l;have:=Tm.A1 k;omega
theorem Mx{l:List Tm}{k:Tm}(h:k∈l):k.sz<=fU l:=by
 induction l with
 |nil=>cases h
 |cons x l ih=>
  rw[ej]
  rcases List.mem_cons.1 h with e|e
  ·subst e;omega
  ·have:=ih e;omega
theorem mN.gx {s:ba}{f k:Pf}(h:mN s f)(hk:k∈f.kids):mN s k:=by
 refine⟨((Pf.aJ f).1 h.1).2.2.2.2 k hk, ?_, ?_⟩
 ·have:=h.2;rw[oO,Bool.and_eq_true,List.all_eq_true]at this;exact this.2 k hk
 ·have h3:=h.3
  rw[Tm.iU,Pf.mM]at h3
  have:=Mx (List.mem_map.2 ⟨k,hk,rfl⟩:k.sh∈f.kids.map Pf.sh)
  omega
theorem mN.len {s:ba}{f:Pf}(h:mN s f):f.kids.length<=1000:=by
 have h3:=h.3
 rw[Tm.iU,Pf.mM]at h3
 have:=wO (f.kids.map Pf.sh)
 rw[List.length_map]at this
 omega
theorem mN.nd {s:ba}{f:Pf}(h:mN s f):iL s f=true:=by
 have:=h.2;rw[oO,Bool.and_eq_true]at this;exact this.1
theorem mN.val {s:ba}{f:Pf}(h:mN s f):FC s f.val/\f.val.sz<=80/\BB s f.val=true:=by
 have:=h.nd
 simp only[iL,Bool.and_eq_true]at this
 have h2:=this.1.1
 simp only[BB,Bool.and_eq_true,decide_eq_true_eq,kJ]at h2
 exact⟨⟨((Pf.aJ f).1 h.1).1,h2.2⟩,ad,this.1.1⟩
theorem My{s:ba}{l:List Tm}(hf:∀t∈l,t.fits)(h:ng s l=true):da s l:=by
 simp only[ng,Bool.and_eq_true,decide_eq_true_eq,List.all_eq_true]at h
 refine⟨h.1,fun t ht=>⟨hf t ht, ?_⟩⟩
 have h2:=h.2 t ht
 simp only[BB,Bool.and_eq_true]at h2
 exact h2.2
theorem mN.env {s:ba}{f:Pf}(h:mN s f):da s f.binds:=by
 have:=h.nd
 simp only[iL,Bool.and_eq_true]at this
 exact My ((Pf.aJ f).1 h.1).2.2.1 this.1.2
structure iM (p:Pg):Prop where
 fin:p.Fin
 is:fe p=true
theorem iM.bp {p:Pg}(h:iM p){r:Rl}(hr:r∈p.rules):gk p.sig r=true:=by
 have:=h.is;simp only[fe,Bool.and_eq_true,List.all_eq_true]at this;exact this.2 r hr
structure oo (s:ba) (r:Rl):Prop where
 ac4:0<=r.vars
 ac5:r.vars<=20
 fn0:0<=r.fn
 fn:∃f,s.bZ[r.fn.toNat]? =some f/\(r.bf.length:Int)=f.args
 rhs:dV s r.rhs=true
 small:dJ r.vars r.rhs=true
 bf:∀p∈r.bf,dV s p=true/\gW p=true/\(gz p []).2=true/\dJ r.vars p=true
 apart:qe r.rhs (bt (.mk 0 0 r.bf))=true
 lin:DE r.bf=true
theorem iM.rl {p:Pg}(h:iM p){r:Rl}(hr:r∈p.rules):oo p.sig r:=by
 have:=h.bp hr
 simp only[gk,kN,Bool.and_eq_true,decide_eq_true_eq,List.all_eq_true]at this
 obtain⟨⟨⟨⟨⟨⟨a,b⟩,c⟩,d⟩,e⟩,f⟩,⟨g,h1⟩,h2⟩:=this
 refine⟨c,d,a, ?_,e,h1,fun p hp=> ?_,h2,g⟩
 ·cases hf:p.sig.bZ[r.fn.toNat]? with
  |none=>rw[hf]at b;cases b
  |some f=>rw[hf]at b;exact⟨f,rfl,by simpa using b⟩
 ·obtain⟨⟨x,y,z⟩,w⟩:=f p hp
  exact⟨x,z,y,w⟩
theorem jo{s:ba}{t:Tm}(h:dV s t=true):eI s t=true:=by simp only[dV,Bool.and_eq_true]at h;exact h.2
theorem FE{s:ba}{n:Int}{t:Tm}(h:eI s t=true)(hs:dJ n t=true):∀v,sU v t=true->0<=v/\v<n:=by
 have key:∀t:Tm,eI s t=true->dJ n t=true->∀v,sU v t=true->0<=v/\v<n:=by
  refine Tm.cB fun t ih h hs v hv=> ?_
  rw[dL,Bool.and_eq_true,List.all_eq_true]at h
  rw[qc,Bool.and_eq_true]at hs
  rw[gV]at hv
  by_cases h1:t.op=1
  ·rw[if_pos h1]at hv
   have e:t.n=v:=by simpa using hv
   have hn:=h.1
   simp[bC,h1,cP]at hn
   have:=hs.2
   simp[h1]at this
   omega
  ·rw[if_neg h1]at hv
   have:∀ (l:List Tm) (i:Nat),(∀k∈l,k∈t.kids)->gy n l=true->iu v t.op t.n l i=true->0<=v/\v<n:=by
    intro l
    induction l with
    |nil=>intro i _ _ h;simp[iu]at h
    |cons k l pX=>
     intro i hk hs hv
     simp only[gy,Bool.and_eq_true]at hs
     simp only[iu,Bool.or_eq_true,Bool.and_eq_true]at hv
     rcases hv with hv|hv
     ·exact ih k (hk k au) (h.2 k (hk k au)) hs.1 v hv.1
     ·exact pX _ (fun x hx=>hk x mf) hs.2 hv
   exact this t.kids 0 (fun _ h=>h) hs.1 hv
 exact key t h hs
theorem oo.Mz {s:ba}{r:Rl}(h:oo s r)(hf:r.rhs.fits){n:Nat}(hn:(n:Int)=r.vars):cD s n r.rhs:=
 ⟨hf,jo h.rhs,fun v hv=>by have:=FE (jo h.rhs) h.small v hv;omega⟩
end Go.Proofs.YtonbelhklnmjnaaGreat
