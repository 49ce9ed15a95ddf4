/-
  A PART OF THE PROOF. Conditions: none.
-/
import Derived.Test.YtonbelhklnmjnaaGreatLt16
set_option linter.unusedSimpArgs false
set_option linter.unusedVariables false
namespace Go.Proofs.YtonbelhklnmjnaaGreat
mutual
def Pf.ja:Pf->Nat
 | .mk _ _ _ _ kids=>1+Pf.fV kids
def Pf.fV:List Pf->Nat
 |[]=>0
 |k::l=>Nat.max k.ja (Pf.fV l)
end
theorem Pf.nB:∀ {l:List Pf} {k:Pf},k∈l->k.ja<=Pf.fV l
 |x::l,k,h=>by
  simp only[Pf.fV]
  rcases List.mem_cons.1 h with rfl|h
  ·exact Nat.le_max_left _ _
  ·exact Nat.le_trans (Pf.nB h) (Nat.le_max_right _ _)
theorem Pf.qw {t k:Pf}(h:k∈t.kids):k.ja+1<=t.ja:=by
 cases t;simp only[Pf.kids]at h;simp only[Pf.ja];have:=Pf.nB h;omega
section
variable {σ:Type}(base n8:Nat)(H:σ->Nat->ab)(step:σ->Pf×Int->σ×Bool)(ok:List (Pf×Int)->σ->Prop)
include step ok in
theorem yy:∀ (L r:List (Pf×Int)) (bp:∀x∈L,∀r s,ok (x::r) s->(step s x).2=true->ok r (step s x).1) (s:σ),ok (L++r) s->(aA step s L).2=true->ok r (aA step s L).1
 |[],r,_,s,h,_=>by simpa[aA]using h
 |x::L,r,bp,s,h,hb=>by
  rw[aA]at hb|-
  by_cases hx:(step s x).2=true
  ·rw[if_pos hx]at hb|-
   exact yy L r (fun y hy=>bp y (List.mem_cons_of_mem _ hy)) _ (bp x (List.mem_cons_self ..) _ s h hx) hb
  ·rw[if_neg hx]at hb
   exact absurd hb aj
theorem LB:∀t:Pf,t.fits->∀d:Int,0<=d->d+t.ja<=1000000->(∀x∈dB t d,∀r s,ok (x::r) s->(step s x).2=true->ok r (step s x).1)->(∀x∈dB t d,∀r s,ok (x::r) s->XM Tryz.prog n8 [.d x.1.d, .d (.i x.2)] base (H s) (H (step s x).1) (.d (.bool (step s x).2)))->n8<base->
 ∀ (c:Nat) (o0:Nat->ab) (yb vb:Nat),base<=c->base<=yb->yb<c->base<=vb->vb<c->o0 yb= .row [.jU n8]->o0 vb= .row [.func (.func 97) [] [.ptr yb 0, .ptr vb 0]]->
 ∀r s,ok (dB t d++r) s->fM Tryz.prog 97 [.d t.d, .d (.i d), .ptr yb 0, .ptr vb 0] c (ext base (H s) o0) (ext base (H (aA step s (dB t d)).1) o0) (.d (.bool (aA step s (dB t d)).2)):=by
 refine Pf.ck fun t ih hf d hd0 hd bp hR vr c o0 yb vb PE Sg hy Sh hv oy ov r s gB=> ?_
 have fm:=((Pf.aP _).1 hf).2.2.2
 intro o nx hI K X hK
 have hle:=hI.le
 have Si:o yb= .row [.jU n8]:=by rw[hI.eq yb hy];unfold ext;rw[if_neg (by omega),oy]
 have Sj:o vb= .row [.func (.func 97) [] [.ptr yb 0, .ptr vb 0]]:=by rw[hI.eq vb hv];unfold ext;rw[if_neg (by omega),ov]
 have y1:yb≠nx:=ad
 have y2:∀k,yb≠nx+k:=fun k=>ad
 have y3:vb≠nx:=ad
 have y4:∀k,vb≠nx+k:=fun k=>ad
 refine cO.aB mix ZS aj ?_
 rw[c97]
 simp+contextual only[go_sem,Si,Sj,y1,y2,y3,y4,Nat.add_assoc,Nat.left_eq_add,Nat.add_eq_left,Nat.add_left_cancel_iff]
 have s9:=qI t d
 have lL:∀k∈t.kids,∀x∈dB k (d+1),x∈dB t d:=fun k hk x hx=>by
  exact SJ
 have hb:∀id,id<base->o id=H s id:=fun id aC=>by rw[hI.eq id (by omega)];unfold ext;rw[if_pos aC]
 have hIb:cW base (H s) o nx:=⟨hI.bP,ad,hb⟩
 refine nI (hR (t,d) GQ _ s (by rw[s9,List.cons_append]at gB;exact gB) _ _ ((hIb.aM (i:=nx) (m:=nx+6) ad ad ad rfl).aM (i:=nx+1) ad ad ad rfl) _ _ fun o2 n2 m1 m2 m3=> ?_)
 have k0:o2 nx= .row t.row:=by rw[m3 nx (by omega) (by omega),ah _ _ _ _ (by omega),ae]
 have k1:o2 (nx+1)= .row [.d (.i d)]:=by rw[m3 (nx+1) (by omega) (by omega),ae]
 have hold:∀id,base<=id->id<nx->o2 id=o id:=fun id h1 h2=>by rw[m3 id h1 (by omega),ah _ _ _ _ (by omega),ah _ _ _ _ (by omega)]
 have GL:∀id,base<=id->id<c->o id=o0 id:=fun id h1 h2=>by rw[hI.eq id h2];unfold ext;rw[if_neg (by omega)]
 cases Cu:(step s (t,d)).2 with
 |false=>
  refine fg Cu ?_
  have AR:aA step s (dB t d)=((step s (t,d)).1,false):=by rw[s9,aA,if_neg (by rw[Cu];exact Bool.false_ne_true)]
  rw[AR]at hK
  refine hK _ _ ad ⟨m2.bP.mono ad,ad,fun id aC=> ?_⟩ (fun id h1 h2=>hold id ad h2)
  unfold ext
  split
  ·exact m2.eq id Jp
  ·exact GK
 |true=>
  have AR:aA step s (dB t d)=aA (fun s k=>aA step s (dB k (d+1))) (step s (t,d)).1 t.kids:=by rw[s9,aA,if_pos Cu,pz]
  simp+contextual only[go_sem,Cu,k0,k1]
  have q0:o2 yb= .row [.jU n8]:=by rw[hold yb Sg (by omega),Si]
  have q1:o2 vb= .row [.func (.func 97) [] [.ptr yb 0, .ptr vb 0]]:=by rw[hold vb Sh (by omega),Sj]
  have m0:=m2.le
  refine bd (Ic t.kids fm.1 99 [.ptr vb 0, .ptr (nx+1) 0] n2 (fun s=>ext base (H s) o2) (fun s k=>aA step s (dB k (d+1))) ?_ (fun ks s=>ok (ks.flatMap (fun k=>dB k (d+1))++r) s) ?_ ?_ (step s (t,d)).1 (bp (t,d) GQ _ s (by rw[s9,List.cons_append]at gB;exact gB) Cu) _ _ ?_ _ _ ?_)
  ·exact Nb
  ·exact fun k hk r' s' h1 h2=>yy step ok _ _ (fun x hx=>bp x (lL k hk x hx)) s' (by rw[<- List.append_assoc];exact h1) h2
  ·intro k hk r' s' iK o3 n3 Ox K3 X3 hK3
   have l3:=Ox.le
   have r0:o3 vb= .row [.func (.func 97) [] [.ptr yb 0, .ptr vb 0]]:=by rw[Ox.eq vb (by omega)];unfold ext;rw[if_neg (by omega),q1]
   have r1:o3 (nx+1)= .row [.d (.i d)]:=by rw[Ox.eq (nx+1) (by omega)];unfold ext;rw[if_neg (by omega),k1]
   have y5:vb≠n3:=ad
   have y6:∀k,vb≠n3+k:=fun k=>ad
   have y7:nx+1≠n3:=ad
   have y8:∀k,nx+1≠n3+k:=fun k=>ad
   have hh:=Pf.qw hk
   refine cO.aB mix ZU aj ?_
   rw[c99]
   simp+contextual only[go_sem,r0,r1,y5,y6,y7,y8]
   rw[wrap64 (n:=d+1) (by omega) (by omega)]
   refine bd (ih k hk (fm.2 k hk) (d+1) ad ad (fun x hx=>bp x (lL k hk x hx)) (fun x hx=>hR x (lL k hk x hx)) vr n2 o2 yb vb ad Sg ad Sh ad q0 q1 (r'.flatMap (fun k=>dB k (d+1))++r) s' (by rw[<- List.append_assoc];exact iK) _ _ (Ox.aM (i:=n3) (m:=n3+6) ad ad ad rfl) _ _ fun o4 n4 p1 p2 p3=> ?_)
   refine b9 ?_
   refine hK3 _ _ ad (p2.mono ad) (fun id h1 h2=> ?_)
   rw[p3 id h1 (by omega),ah _ _ _ _ (by omega)]
  ·exact(m2.mono ad).ext ad ad
  ·intro o5 n5 p1 p2 p3
   refine b9 ?_
   rw[<- AR]
   refine hK _ _ ad ⟨p2.bP.mono ad,ad,fun id aC=> ?_⟩ (fun id h1 h2=> ?_)
   ·rw[p2.eq id (by omega), <- AR]
    unfold ext
    split
    ·rfl
    ·exact GK
   ·rw[p2.eq id (by omega)]
    unfold ext
    exact SR
theorem Ie(t:Pf)(hf:t.fits)(hd:t.ja<=900000)(bp:∀x∈dB t 1,∀r s,ok (x::r) s->(step s x).2=true->ok r (step s x).1)(hR:∀x∈dB t 1,∀r s,ok (x::r) s->XM Tryz.prog n8 [.d x.1.d, .d (.i x.2)] base (H s) (H (step s x).1) (.d (.bool (step s x).2)))(vr:n8<base)(tb:Nat)(GR:tb<base)(s:σ)(gB:ok (dB t 1) s)(bZ:H s tb= .row t.row):
 fM Tryz.prog 96 [.jU n8, .ptr tb 0] base (H s) (H (aA step s (dB t 1)).1) (.cp []):=by
 intro o nx hI K X hK
 have hle:=hI.le
 have ot:o tb= .row t.row:=by rw[hI.eq tb GR,bZ]
 have y1:tb≠nx:=ad
 have y2:∀k,tb≠nx+k:=fun k=>ad
 refine cO.aB mix ZR aj ?_
 rw[c96]
 refine SE ot y1 y2 ?_
 have hI1:cW base (H s) (aM (aM (aM o nx (.row [.jU n8])) (nx+1) (.row [.d .bW])) (nx+1) (.row [.func (.func 97) [] [.ptr nx 0, .ptr (nx+1) 0]])) (nx+6):=by
  refine((hI.aM (i:=nx) (m:=nx+6) ad ad ad ?_).aM (i:=nx+1) (m:=nx+6) ad ad ad rfl).aM (i:=nx+1) ad ad ad ?_
  ·exact SW
  ·exact lA
 refine bd (LB base n8 H step ok t hf 1 ad ad bp hR vr (nx+6) _ nx (nx+1) ad hle ad ad ad ?_ ?_ [] s (by rw[List.append_nil];exact gB) _ _ (hI1.ext (Nat.le_refl _) ad) _ _ ?_)
 ·exact dC
 ·exact dC
 intro o2 n2 m1 m2 m3
 refine b9 ?_
 refine hK _ _ ad ⟨m2.bP,ad,fun id aC=> ?_⟩ (fun id h1 h2=> ?_)
 ·exact yW
 ·rw[m2.eq id (by omega)];unfold ext;rw[if_neg (by omega)]
  exact dC
end
theorem Ig(t:Pf)(o:Nat->ab)(nx:Nat)(K X:V->(Nat->ab)->Nat->Prop)(h:K (.func (.func 96) [] [.ptr nx 0]) (aM o nx (.row t.row)) (nx+4)):cO Tryz.prog 56 [.d t.d] o nx K X:=by
 refine cO.aB mix ZF aj ?_
 rw[c56]
 refine b9 ?_
 exact h
def mP{σ:Type}(J:σ->Option jN)(step:σ->Pf×Int->σ)(s:σ)(x:Pf×Int):σ×Bool:=(step s x,(J (step s x)).isNone)
theorem CL{σ:Type}(J:σ->Option jN)(step:σ->Pf×Int->σ):∀ (l:List (Pf×Int)) (s:σ),J s=none->(aA (mP J step) s l).2=(J (aA (mP J step) s l).1).isNone
 |[],s,h=>by simp[aA,h]
 |x::l,s,h=>by
  simp only[aA]
  split
  ·rename_i hb
   exact CL J step l _ (by simpa[mP]using hb)
  ·rename_i hb
   cases hj:J (step s x)with
   |none=>exact absurd (by simp[mP,hj]) hb
   |some j=>simp[mP,hj]
theorem wY{σ:Type}(t:Pf)(hf:t.fits)(hd:t.ja<=900000){n bq:Nat}{gq:Operand}{ps:List Nat}{iQ eJ:IC}{Q:fS->S->Prop}{e:Nat->V}{o:Nat->ab}{nx tb:Nat}(env:List V)(he:lQ e env 0)
 (El:ps.all (fun t=>decide (t<n))=true) (hl:ps.length=2) (hg:Good o nx) (hrefs:∀r∈V.aO env,r<nx) (ht:o tb= .row t.row)
 (G:σ->Nat->ab) (J:σ->Option jN) (step:σ->Pf×Int->σ) (ok:List (Pf×Int)->σ->Prop) (s0:σ) (gB:ok (dB t 1) s0) (MP:J s0=none) (h0:∀id,id<nx->o id=G s0 id) (bp:∀x∈dB t 1,∀r s,ok (x::r) s->J s=none->J (step s x)=none->ok r (step s x))
 (mh:∀L,iE Tryz.prog n env ps iQ eJ L->(∀st pd m,nx<=m->(L st pd).refs.all (fun r=>decide (r<m))=true)->∀x∈dB t 1,∀r s,ok (x::r) s->J s=none->∀o3 n3,cW nx (G s) o3 n3->nx<n3->o3 nx=L .ready none->∀K X,
  (∀e' o' n' st pd,n3<=n'->cW nx (G (step s x)) o' n'->o' nx=L st pd->(∀id,nx<id->id<n3->o' id=o3 id)->jI nx K X (FX (J (step s x))) ⟨e',o',n'⟩)->
  kX Tryz.prog n n3 true iQ (nH Tryz.prog n n3 nx eJ K X) ⟨nw (bB env) ps [.d x.1.d, .d (.i x.2)],o3,n3⟩)
 (kq:∀o' n',cW nx (G (aA (mP J step) s0 (dB t 1)).1) o' n'->ph Q (J (aA (mP J step) s0 (dB t 1)).1) ⟨e,o',n'⟩):
 wQ Tryz.prog n bq false gq ps iQ eJ Q ⟨e,o,nx⟩ (.func (.func 96) [] [.ptr tb 0]):=by
 refine Ev env he (fun L hL=> ?_)
 have GR:tb<nx:=hg.lt S6
 let H:σ->Nat->ab:=fun s id=>if id<nx then G s id else if id=nx then(match J s with|none=>L .ready none|some j=>L .done (some j))else .no
 have GM:∀s id,id<nx->H s id=G s id:=fun s id h=>if_pos h
 have FY:∀s,J s=none->H s nx=L .ready none:=fun s h=>by show(if nx<nx then _ else _)=_;rw[if_neg (by omega),if_pos rfl,h]
 have K9:∀s j,J s=some j->H s nx=L .done (some j):=fun s j h=>by show(if nx<nx then _ else _)=_;rw[if_neg (by omega),if_pos rfl,h]
 have wx:∀st pd m,nx<=m->(L st pd).refs.all (fun r=>decide (r<m))=true:=fun st pd m hm=>by
  rw[hL.refs,List.all_eq_true]
  intro r hr;have:=hrefs r hr;exact decide_eq_true ad
 refine Ie (nx+1) nx H (mP J step) (fun r s=>ok r s/\J s=none) t hf hd (fun x hx r s h1 h2=> ?_) (fun x hx r s h1=> ?_) ad tb ad s0 ⟨gB,MP⟩ S4 _ _ ⟨?_,Nat.le_refl _,fun id aC=> ?_⟩ _ _ ?_
 ·have hj:J (step s x)=none:=by simpa[mP]using h2
  exact⟨bp x hx r s h1.1 h1.2 hj,hj⟩
 ·intro o3 n3 hI K X hK
  have hle:=hI.le
  have I6:o3 nx=L .ready none:=by rw[hI.eq nx (by omega),FY s h1.2]
  refine vj hL mix I6 ad El (by simp[hl]) ?_
  refine mh L hL wx x hx r s h1.1 h1.2 o3 n3 ⟨hI.bP,ad,fun id aC=>by rw[hI.eq id (by omega),GM _ _ aC]⟩ ad I6 K X (fun e' o' n' st pd k1 k2 k3 k4=> ?_)
  have key:∀st' pd' b,(J (step s x)).isNone=b->H (step s x) nx=L st' pd'->K (.d (.bool b)) (aM o' nx (L st' pd')) n':=fun st' pd' b hb hh=>by
   subst hb
   refine hK _ _ k1 ⟨k2.bP.aM ad (wx _ _ _ ad),ad,fun id aC=> ?_⟩ (fun id g1 g2=> ?_)
   ·by_cases oU:id=nx
    ·subst oU;rw[ae];exact hh.symm
    ·rw[ah _ _ _ _ oU]
     show o' id=H (step s x) id
     exact SN
   ·exact SL
  cases hj:J (step s x)with
  |none=>exact rU hL k3 (key _ _ _ yY (FY _ hj))
  |some j=>
   cases j with
   |ret=>exact px hL k3 (key _ _ _ yY (K9 _ _ hj))
   |exit j=>exact nK hL k3 (key _ _ _ yY (K9 _ _ hj))
 ·exact(hg.mono ad).aM ad (wx _ _ _ ad)
 ·by_cases oU:id=nx
  ·subst oU;rw[ae,FY _ MP]
  ·exact SK
 ·intro o' n' k1 k2 k3
  have hle:=k2.le
  generalize hsf:(aA (mP J step) s0 (dB t 1)).1=sf at*
  have kk:∀st pd,cW nx (G sf) (aM o' nx (L st pd)) n':=fun st pd=>⟨k2.bP.aM ad (wx _ _ _ ad),ad,fun id aC=>by rw[ah _ _ _ _ (by omega),k2.eq id (by omega),GM _ _ aC]⟩
  cases hj:J sf with
  |none=>
   refine⟨.ready,none,by rw[k2.eq nx (by omega),FY _ hj],(fun h=>by cases h), ?_⟩
   have:=kq _ _ (kk .exhausted none)
   rwa [hj]at this
  |some j=>
   refine⟨.done,some j,by rw[k2.eq nx (by omega),K9 _ _ hj],(fun h=>by cases h), ?_⟩
   have:=kq _ _ (kk .exhausted (some j))
   rwa [hj]at this
theorem Aq{σ:Type}(t:Pf)(hf:t.fits)(hd:t.ja<=900000){n bq:Nat}{gq:Operand}{ps:List Nat}{iQ eJ:IC}{Q:fS->S->Prop}{e:Nat->V}{o:Nat->ab}{nx tb:Nat}(env:List V)(he:lQ e env 0)
 (El:ps.all (fun t=>decide (t<n))=true) (hl:ps.length=2) (hg:Good o nx) (hrefs:∀r∈V.aO env,r<nx) (ht:o tb= .row t.row)
 (G:σ->Nat->ab) (J:σ->Option jN) (step:σ->Pf×Int->σ) (ok:σ->Prop) (s0:σ) (gB:ok s0) (MP:J s0=none) (h0:∀id,id<nx->o id=G s0 id) (bp:∀x∈dB t 1,∀s,ok s->J s=none->J (step s x)=none->ok (step s x))
 (mh:∀L,iE Tryz.prog n env ps iQ eJ L->(∀st pd m,nx<=m->(L st pd).refs.all (fun r=>decide (r<m))=true)->∀x∈dB t 1,∀s,ok s->J s=none->∀o3 n3,cW nx (G s) o3 n3->nx<n3->o3 nx=L .ready none->∀K X,
  (∀e' o' n' st pd,n3<=n'->cW nx (G (step s x)) o' n'->o' nx=L st pd->(∀id,nx<id->id<n3->o' id=o3 id)->jI nx K X (FX (J (step s x))) ⟨e',o',n'⟩)->
  kX Tryz.prog n n3 true iQ (nH Tryz.prog n n3 nx eJ K X) ⟨nw (bB env) ps [.d x.1.d, .d (.i x.2)],o3,n3⟩)
 (kq:∀o' n',cW nx (G (aA (mP J step) s0 (dB t 1)).1) o' n'->ph Q (J (aA (mP J step) s0 (dB t 1)).1) ⟨e,o',n'⟩):
 wQ Tryz.prog n bq false gq ps iQ eJ Q ⟨e,o,nx⟩ (.func (.func 96) [] [.ptr tb 0]):=
 wY t hf hd env he El hl hg hrefs ht G J step (fun _ s=>ok s) s0 gB MP h0 (fun x hx _=>bp x hx) (fun L hL wx x hx _=>mh L hL wx x hx) kq
end Go.Proofs.YtonbelhklnmjnaaGreat
namespace Go.Proofs.YtonbelhklnmjnaaGreat
theorem OS(s:a7)(hs:s.Fits)(x:Tm)(hx:x.fits)(base sp:Nat)(h:Nat->ab)(ux:h sp= .row s.row)(hb:sp<base):
 fM Tryz.prog 122 [.d x.d, .ptr sp 0] base h h (.d (.bool (vF s x))):=by
 intro o nx hI K X hK
 have hle:=hI.le
 have ho:o sp= .row s.row:=by rw[hI.eq sp hb,ux]
 have y1:∀k,sp≠nx+k:=fun k=>ad
 have y2:sp≠nx:=ad
 refine cO.aB mix QP aj ?_
 rw[UK]
 refine MT ho y1 y2 ?_
 refine ai (F8 s hs x hx) rfl ?_
 refine iL ?_
 exact hK _ _ ad (hI.aM ad ad ad rfl) fun id i1 i2=>by rw[ah _ _ _ _ (by omega)]
def mQ(s:a7)(l:List Tm):Bool:=decide (l.length<=20)&&l.all (vF s)
theorem LC(s:a7)(hs:s.Fits)(l:List Tm)(hl:l.length<=9223372036854775807)(hf:∀t∈l,t.fits):a8 Tryz.prog 88 [s.d, .sl (l.map Tm.d)] (.ret [.bool (mQ s l)]):=by
 refine a8.aB mix ZL aj ?_
 rw[c88]
 unfold mQ
 by_cases h0: ¬l.length<=20
 ·have Dp:decide ((l.length:Int)<=20)=false:=by simp;omega
  have EI:decide (l.length<=20)=false:=by simp;omega
  refine eG Dp ?_
  rw[EI];rfl
 have Dp:decide ((l.length:Int)<=20)=true:=by simp;omega
 have EI:decide (l.length<=20)=true:=by simp;omega
 rw[EI,Bool.true_and]
 refine eG Dp ?_
 refine bd (yo (σ:=Unit) l hl 122 [.ptr 0 0] 1 (fun _=>aM (fun _=> .no) 0 (.row s.row)) (fun _ x=>((),vF s x)) mK (fun _=>True) (fun _ _ _ _ _=>trivial) (fun x hx _ _=>OS s hs x (hf x hx) 1 0 _ (ae _ _ _) ad) () trivial _ _ ⟨dv,ad,fun id aC=> ?_⟩ _ _ fun o2 n2 m1 m2 m3=> ?_)
 ·first|rfl|exact j6
 rw[CC]
 simp+contextual (disch:=first|omega|simp only[go_sem,false_implies]) only[go_sem,wrap64,if_pos,Nat.add_assoc,Nat.left_eq_add,Nat.add_eq_left,Nat.add_left_cancel_iff]
def jy(s:a7)(m:Int)(x:Pf×Int):Bool:=(decide (500<m)||decide (150<x.2))|| !vF s x.1.val|| !mQ s x.1.binds||(x.1.bG !=6&&(x.1.num !=0||decide (0<(x.1.binds.length:Int))))
def jf(s:a7)(st:Int×Bool)(x:Pf×Int):Int×Bool:=(st.1+1, !jy s (st.1+1) x)
def MR(st:Int×Bool):Option jN:=if st.2=true then none else some .ret
def sY(s:a7)(f:Pf):Bool:=(aA (mP MR (jf s)) (0,true) (dB f 1)).2
theorem Ih(p:Pg)(hp:p.Fin)(f:Pf)(hf:f.fits)(hd:f.ja<=900000)(bA:∀x∈dB f 1,x.1.fits):a8 Tryz.prog 55 [p.d,f.d] (.ret [.bool (sY p.sig f)]):=by
 refine a8.aB mix ZE aj ?_
 rw[c55]
 refine iL ?_
 refine da (Ig f _ _ _ _ ?_)
 refine iL ?_
 refine Aq (σ:=Int×Bool) f hf hd [.aa, .aa, .ptr 0 0, .aa, .ptr 2 0, .ptr 3 0] ?_ aZ rfl dv mK (ae _ _ _)
  (fun b=>aM (aM (aM (aM (aM (fun _=> .no) 0 (.row p.row)) 1 (.row f.row)) 2 (.row [.d (.bool false)])) 6 (.row f.row)) 3 (.row [.d (.i b.1)])) MR (jf p.sig) (fun b=>0<=b.1/\b.1<=500) (0,true) ⟨aZ,aZ⟩ rfl (fun id aC=> ?_) (fun x _ s hs _ h2=> ?_) ?_ ?_
 ·exact Ji
 ·first|exact j6|(rw[jn];exact j6)
 ·have hb:jy p.sig (s.1+1) x=false:=by
   cases h:jy p.sig (s.1+1) x with
   |false=>rfl
   |true=>simp[jf,MR,h]at h2
  simp only[jy,Bool.or_eq_false_iff,decide_eq_false_iff_not]at hb
  simp only[jf]
  omega
 ·intro L hL wx x hx s' h1 h2 o3 n3 hI hn ho K X cQ
  simp only[nw]
  have hg:=hI.bP
  have q1:o3 3= .row [.d (.i s'.1)]:=hI.eq 3 ad
  have q2:o3 0= .row p.row:=hI.eq 0 ad
  have q3:o3 2= .row [.d (.bool false)]:=hI.eq 2 ad
  refine aJ ?_
  refine nJ hL (pd:=none) ?_ ?_
  ·(repeat(first|rfl|rw[ae]|rw[ah _ _ _ _ (by omega)]))
   exact ho
  refine ud q1 q2 ?_
  have same:∀ (o':Nat->ab) (n':Nat),Good o' n'->n3<=n'->(∀j,j<10->o' j=aM o3 3 (.row [.d (.i (s'.1+1))]) j)->cW 10 (aM (aM (aM (aM (aM (fun _=> .no) 0 (.row p.row)) 1 (.row f.row)) 2 (.row [.d (.bool false)])) 6 (.row f.row)) 3 (.row [.d (.i (s'.1+1))])) o' n':=fun o' n' k1 k2 k3=>⟨k1,ad,fun j hj=>by
   rw[k3 j hj]
   by_cases e:j=3
   ·subst e;(repeat(first|rfl|rw[ae]|rw[ah _ _ _ _ (by omega)]))
   ·rw[ah _ 3 _ _ e,ah _ 3 _ _ e,hI.eq j hj,ah _ 3 _ _ e]⟩
  have hxf:=(Pf.aP _).1 (bA x hx)
  have bad:jy p.sig (s'.1+1) x=true->jf p.sig s' x=(s'.1+1,false):=fun h=>by simp[jf,h]
  have bP:jy p.sig (s'.1+1) x=false->jf p.sig s' x=(s'.1+1,true):=fun h=>by simp[jf,h]
  cases c1:(decide (500<s'.1+1)||decide (150<x.2))with
  |true=>
   rw[bad (by unfold jy;rw[c1];rfl)]at cQ
   refine MY c1 q1 q2 q3 ?_
   refine cQ _ _ _ .busy none ad (same _ _ dv ad fun j hj=> ?_) dC (fun id h3 h4=>by(repeat(first|rfl|rw[ae]|rw[ah _ _ _ _ (by omega)])))
   by_cases e:j=2
   ·subst e;(repeat(first|rfl|rw[ae]|rw[ah _ _ _ _ (by omega)]))
    exact q3.symm
   ·by_cases e3:j=3
    ·subst e3;(repeat(first|rfl|rw[ae]|rw[ah _ _ _ _ (by omega)]))
    ·exact dC
  |false=>
   refine yS c1 q1 q2 ?_
   refine ai (F8 p.sig hp.sig x.1.val hxf.1) rfl ?_
   cases c2:vF p.sig x.1.val with
   |false=>
    rw[bad (by unfold jy;rw[c1,c2];rfl)]at cQ
    refine MY c1 q1 q2 q3 ?_
    refine cQ _ _ _ .busy none ad (same _ _ dv ad fun j hj=> ?_) dC (fun id h3 h4=>by(repeat(first|rfl|rw[ae]|rw[ah _ _ _ _ (by omega)])))
    by_cases e:j=2
    ·subst e;(repeat(first|rfl|rw[ae]|rw[ah _ _ _ _ (by omega)]))
     exact q3.symm
    ·by_cases e3:j=3
     ·subst e3;(repeat(first|rfl|rw[ae]|rw[ah _ _ _ _ (by omega)]))
     ·exact dC
   |true=>
    refine yS c1 q1 q2 ?_
    refine ai (LC p.sig hp.sig x.1.binds hxf.2.1 hxf.2.2.1) rfl ?_
    cases c3:mQ p.sig x.1.binds with
    |false=>
     rw[bad (by unfold jy;rw[c1,c2,c3];rfl)]at cQ
     refine MY c1 q1 q2 q3 ?_
     refine cQ _ _ _ .busy none ad (same _ _ dv ad fun j hj=> ?_) dC (fun id h3 h4=>by(repeat(first|rfl|rw[ae]|rw[ah _ _ _ _ (by omega)])))
     by_cases e:j=2
     ·subst e;(repeat(first|rfl|rw[ae]|rw[ah _ _ _ _ (by omega)]))
      exact q3.symm
     ·by_cases e3:j=3
      ·subst e3;(repeat(first|rfl|rw[ae]|rw[ah _ _ _ _ (by omega)]))
      ·exact dC
    |true=>
     refine MY c1 q1 q2 q3 ?_
     refine ak (fun h5=> ?_) (fun h5=> ?_)
     ·rw[bad (by unfold jy;rw[c1,c2,c3,h5];rfl)]at cQ
      refine dD q3 ?_
      refine cQ _ _ _ .busy none ad (same _ _ dv ad fun j hj=> ?_) dC (fun id h3 h4=>by(repeat(first|rfl|rw[ae]|rw[ah _ _ _ _ (by omega)])))
      by_cases e:j=2
      ·subst e;(repeat(first|rfl|rw[ae]|rw[ah _ _ _ _ (by omega)]))
       exact q3.symm
      ·by_cases e3:j=3
       ·subst e3;(repeat(first|rfl|rw[ae]|rw[ah _ _ _ _ (by omega)]))
       ·exact dC
     ·have AM:(x.1.bG !=6&&(x.1.num !=0||decide (0<(x.1.binds.length:Int))))=false:=by simpa using h5
      rw[bP (by unfold jy;rw[c1,c2,c3,AM];rfl)]at cQ
      refine aJ ?_
      refine cQ _ _ _ .busy none ad (same _ _ dv ad fun j hj=>by
       by_cases e3:j=3
       ·subst e3;(repeat(first|rfl|rw[ae]|rw[ah _ _ _ _ (by omega)]))
       ·(repeat(first|rfl|rw[ae]|rw[ah _ _ _ _ (by omega)]))) dC (fun id h3 h4=>by(repeat(first|rfl|rw[ae]|rw[ah _ _ _ _ (by omega)])))
 ·intro o' n' hI
  have q1:o' 2= .row [.d (.bool false)]:=hI.eq 2 ad
  rw[show sY p.sig f=(MR (aA (mP MR (jf p.sig)) (0,true) (dB f 1)).1).isNone from CL _ _ _ _ rfl]
  generalize (aA (mP MR (jf p.sig)) (0,true) (dB f 1)).1=sf at*
  obtain⟨m,b⟩:=sf
  cases b<;>(simp only[MR,if_true,if_false,Bool.false_eq_true,ph];simp+contextual (disch:=first|omega|simp only[go_sem,false_implies]) only[go_sem,wrap64,if_pos,q1];try rfl)
theorem Ii:∀ (t:Pf) (d:Int),t.fits->∀x∈dB t d,x.1.fits:=by
 refine Pf.ck fun t ih d hf x hx=> ?_
 rw[qI]at hx
 rcases List.mem_cons.1 hx with e|e
 ·rw[e];exact hf
 ·obtain⟨k,hk,h⟩:=List.mem_flatMap.1 e
  exact ih k hk (d+1) (((Pf.aP t).1 hf).2.2.2.2 k hk) x h
theorem EK(p:Pg)(hp:p.Fin)(f:Pf)(hf:f.fits)(hd:f.ja<=900000):a8 Tryz.prog 55 [p.d,f.d] (.ret [.bool (sY p.sig f)]):=Ih p hp f hf hd (Ii f 1 hf)
def EL(s:a7)(x:Pf×Int):Bool:=decide (x.2<=150)&&vF s x.1.val&&mQ s x.1.binds&&(x.1.bG==6||(x.1.num==0&&x.1.binds.length==0))
theorem yz(s:a7)(m:Int)(x:Pf×Int):jy s m x=false↔m<=500/\EL s x=true:=by
 unfold jy EL
 simp only[Bool.or_eq_false_iff,Bool.and_eq_true,decide_eq_false_iff_not,decide_eq_true_eq,Bool.not_eq_false',Bool.and_eq_false_imp,Bool.or_eq_true,beq_iff_eq,bne_iff_ne,bne_eq_false_iff_eq]
 constructor
 ·rintro⟨⟨⟨⟨a,b⟩,c⟩,d⟩,e⟩
  refine⟨ad,⟨⟨ad,c⟩,d⟩, ?_⟩
  by_cases h:x.1.bG=6
  ·exact .inl h
  ·have:=e h
   exact .inr ⟨this.1,ad⟩
 ·rintro⟨a,⟨⟨b,c⟩,d⟩,e⟩
  refine⟨⟨⟨⟨ad,ad⟩,c⟩,d⟩,fun h=> ?_⟩
  rcases e with e|e
  ·exact absurd e h
  ·exact⟨e.1,ad⟩
theorem Gf(s:a7):∀ (L:List (Pf×Int)) (m:Int),(aA (mP MR (jf s)) (m,true) L).2=true↔(L=[]\/m+L.length<=500)/\∀x∈L,EL s x=true
 |[],m=>by simp[aA]
 |x::L,m=>by
  have e1:mP MR (jf s) (m,true) x=((m+1, !jy s (m+1) x), !jy s (m+1) x):=by
   cases h:jy s (m+1) x<;>simp[mP,jf,MR,h]
  rw[aA,e1]
  cases hb:jy s (m+1) x with
  |true=>
   have hn: ¬ (m+1<=500/\EL s x=true):=fun h=>by
    rw[(yz s (m+1) x).2 h]at hb;cases hb
   simp only[Bool.not_true,Bool.false_eq_true,if_false,false_iff]
   rintro⟨a,b⟩
   refine hn ⟨?_,b x aj⟩
   rcases a with a|a
   ·cases a
   ·simp at a;omega
  |false=>
   obtain⟨h1,h2⟩:=(yz s (m+1) x).1 hb
   simp only[Bool.not_false,if_true]
   rw[Gf s L (m+1)]
   constructor
   ·rintro⟨a,b⟩
    refine⟨.inr ?_,fun y hy=>(List.mem_cons.1 hy).elim (fun e=>e ▸ h2) (b y)⟩
    rcases a with a|a
    ·subst a;simp;omega
    ·simp;omega
   ·rintro⟨a,b⟩
    refine⟨?_,fun y hy=>b y tc⟩
    rcases a with a|a
    ·cases a
    ·simp at a;exact .inr ad
theorem LD(s:a7)(f:Pf):sY s f=true↔(dB f 1).length<=500/\∀x∈dB f 1,EL s x=true:=by
 unfold sY
 rw[Gf]
 have hn:dB f 1≠[]:=by rw[qI];simp
 simp only[hn,false_or]
 constructor
 ·rintro⟨a,b⟩;exact⟨ad,b⟩
 ·rintro⟨a,b⟩;exact⟨ad,b⟩
def kM(op v:Int)(xs:List Tm):Nat:=xs.countP fun x=>x.op==op&&x.n==v
theorem Gg:∀ (m:List (Int×Int)) (v w u:Int),lk (ly m v w) u=if v=u then some w else lk m u
 |[],v,w,u=>by simp only[ly,lk]
 |p::m,v,w,u=>by
  have ih:=Gg m v w u
  unfold ly
  by_cases h:p.1=v
  ·rw[if_pos h]
   simp only[lk]
   by_cases h2:v=u
   ·simp[h2]
   ·have: ¬p.1=u:=by rw[h];exact h2
    simp[h2,this]
  ·rw[if_neg h]
   simp only[lk]
   by_cases h2:p.1=u
   ·have: ¬v=u:=by intro e;exact h (h2.trans e.symm)
    simp[h2,this]
   ·simp only[h2,if_false];exact ih
theorem CM:∀ (m:List (Int×Int)) (v w u:Int),u∈(ly m v w).map (·.1)↔u=v\/u∈m.map (·.1)
 |[],v,w,u=>by simp[ly]
 |p::m,v,w,u=>by
  have ih:=CM m v w u
  unfold ly
  by_cases h:p.1=v
  ·rw[if_pos h];simp[h]
  ·rw[if_neg h,List.map_cons,List.mem_cons,ih,List.map_cons,List.mem_cons]
   constructor
   ·rintro(h1|h1|h1)<;>simp[h1]
   ·rintro(h1|h1|h1)<;>simp[h1]
theorem yA:∀ (m:List (Int×Int)) (v w:Int),tC m->tC (ly m v w)
 |[],v,w,_=>by simp[ly,tC]
 |p::m,v,w,hk=>by
  have A0:p.1∉m.map (·.1)/\tC m:=by
   unfold tC at hk|-
   rwa [List.map_cons,List.nodup_cons]at hk
  have ih:=yA m v w A0.2
  unfold ly
  by_cases h:p.1=v
  ·rw[if_pos h]
   unfold tC
   rw[List.map_cons,List.nodup_cons]
   exact⟨by rw[<- h];exact A0.1,A0.2⟩
  ·rw[if_neg h]
   unfold tC
   rw[List.map_cons,List.nodup_cons]
   exact⟨fun hm=>by
    rcases(CM m v w p.1).1 hm with e|e
    ·exact h e
    ·exact A0.1 e,ih⟩
theorem EM(op:Int):∀ (xs:List Tm) (m:List (Int×Int)) (c:Int->Nat),tC m->(∀v,lk m v=if c v=0 then none else some (c v:Int))->(∀v,c v+xs.length<=1000000)->
 tC (xs.foldl (ed op) m)/\∀v,lk (xs.foldl (ed op) m) v=if c v+kM op v xs=0 then none else some ((c v+kM op v xs:Nat):Int)
 |[],m,c,hk,hl,_=>⟨hk,fun v=>by rw[List.foldl_nil,hl v];rfl⟩
 |x::xs,m,c,hk,hl,hb=>by
  simp only[List.foldl_cons]
  by_cases h:x.op=op
  ·have hg:im m x.n=(c x.n:Int):=by
    unfold im;rw[hl];split
    ·next h0=>rw[h0];rfl
    ·rfl
   have MM:=hb x.n
   simp only[List.length_cons]at MM hb
   have e1:ed op m x=ly m x.n ((c x.n+1:Nat):Int):=by
    unfold ed tD
    rw[if_pos h,hg,wrap64 (by omega) (by omega)]
    push_cast;rfl
   rw[e1]
   have ih:=EM op xs (ly m x.n ((c x.n+1:Nat):Int)) (fun v=>c v+if x.n=v then 1 else 0) (yA _ _ _ hk) (fun v=>by
    rw[Gg]
    by_cases e:x.n=v
    ·subst e;simp
    ·simp[e,hl v]) (fun v=>by have:=hb v;split<;>omega)
   refine⟨ih.1,fun v=> ?_⟩
   rw[ih.2 v]
   have e2:(c v+if x.n=v then 1 else 0)+kM op v xs=c v+kM op v (x::xs):=by
    unfold kM
    rw[List.countP_cons]
    by_cases e:x.n=v<;>simp[h,e]<;>omega
   rw[e2]
  ·have e1:ed op m x=m:=by unfold ed;rw[if_neg h]
   rw[e1]
   have ih:=EM op xs m c hk hl (fun v=>by have:=hb v;simp at this;omega)
   refine⟨ih.1,fun v=> ?_⟩
   rw[ih.2 v]
   have e2:kM op v (x::xs)=kM op v xs:=by
    unfold kM
    rw[List.countP_cons];simp[h]
   rw[e2]
def oh(l:List Tm):List Tm:=l.flatMap iM
theorem Gh(op:Int)(l:List Tm)(hb:(oh l).length<=1000000):tC (ee op l)/\∀v,lk (ee op l) v=if kM op v (oh l)=0 then none else some (kM op v (oh l):Int):=by
 have:=EM op (oh l) [] (fun _=>0) List.nodup_nil (fun v=>by simp[lk]) (fun v=>by simpa using hb)
 refine⟨this.1,fun v=> ?_⟩
 have h:=this.2 v
 rw[Nat.zero_add]at h
 exact h
theorem CN(op:Int)(l:List Tm)(hb:(oh l).length<=1000000)(v:Int):im (ee op l) v=(kM op v (oh l):Int):=by
 unfold im
 rw[(Gh op l hb).2 v]
 split
 ·next h=>rw[h];rfl
 ·rfl
theorem vM(op:Int)(l:List Tm)(hb:(oh l).length<=1000000)(p:Int×Int->Bool):(ee op l).all p=true↔∀v,0<kM op v (oh l)->p (v,(kM op v (oh l):Int))=true:=by
 obtain⟨hk,hl⟩:=Gh op l hb
 rw[List.all_eq_true]
 constructor
 ·intro h v hv
  refine h _ ((Ga hk).1 ?_)
  rw[hl v,if_neg (by omega)]
 ·rintro h ⟨v,c⟩ hm
  have h1:=(Ga hk).2 hm
  rw[hl v]at h1
  split at h1
  ·cases h1
  ·next h0=>
   injection h1 with h1
   have:=h v ad
   rw[h1]at this
   exact this
theorem OT(m:List (Int×Int)):∀ (t:Tm) (og:List Int),An m t og=true↔∀v,sc v t=true->im m v=0\/v∈og:=by
 refine Tm.ck fun t ih og=> ?_
 have key:∀ (l:List Tm) (i:Nat),(∀k∈l,k∈t.kids)->(qG m t.op t.n l i og=true↔∀v,iq v t.op t.n l i=true->im m v=0\/v∈og):=by
  intro l
  induction l with
  |nil=>intro i _;simp[qG,iq]
  |cons k l oN=>
   intro i hk
   have h1:=ih k (hk k aj) (if t.op=8/\i=1 then og++[t.n]else og)
   have h2:=oN (i+1) (fun x hx=>hk x lY)
   simp only[qG,iq,Bool.and_eq_true,h1,h2,Bool.or_eq_true]
   by_cases hc:t.op=8/\i=1
   ·simp only[hc,and_self,if_true,List.mem_append,List.mem_singleton]
    constructor
    ·rintro⟨a,b⟩ v (⟨c,d⟩|c)
     ·rcases a v c with e|e|e
      ·exact .inl e
      ·exact .inr e
      ·subst e;simp at d
     ·exact b v c
    ·intro a
     refine⟨fun v c=> ?_,fun v c=>a v (.inr c)⟩
     by_cases e:v=t.n
     ·exact .inr (.inr e)
     ·rcases a v (.inl ⟨c,by simp;exact fun e2=>e e2.symm⟩)with g|g
      ·exact .inl g
      ·exact .inr (.inl g)
   ·have hb:(t.op==8&&i==1)=false:=by
     cases h:(t.op==8&&i==1)with
     |false=>rfl
     |true=>simp at h;exact absurd h hc
    simp only[hc,if_false,hb,Bool.false_and,Bool.not_false,and_true]
    constructor
    ·rintro⟨a,b⟩ v (c|c)
     ·exact a v c
     ·exact b v c
    ·intro a
     exact⟨fun v c=>a v (.inl c),fun v c=>a v (.inr c)⟩
 rw[Gb]
 by_cases h:t.op=1
 ·rw[if_pos h]
  simp only[gQ,h,if_true]
  simp
 ·rw[if_neg h,key t.kids 0 (fun _ h=>h)]
  simp only[gQ,h,if_false]
theorem Ij(s:a7)(r:Rl)(h1:(oh r.bn).length<=1000000)(h2:(oh [r.rhs]).length<=1000000):fy s r=true↔mG s r=true/\
 (∀v,0<kM 1 v (oh r.bn)->kM 1 v (oh r.bn)<=1/\v<r.vars)/\(∀v,0<kM 1 v (oh [r.rhs])->v<r.vars)/\
 (∀v,0<kM 8 v (oh [r.rhs])->kM 8 v (oh [r.rhs])<=1/\v<r.vars/\kM 1 v (oh r.bn)=0)/\(∀v,sc v r.rhs=true->kM 8 v (oh [r.rhs])=0):=by
 unfold fy
 simp only[Bool.and_eq_true,vM 1 r.bn h1,vM 1 [r.rhs] h2,vM 8 [r.rhs] h2,OT,CN 1 r.bn h1,CN 8 [r.rhs] h2,decide_eq_true_eq]
 constructor
 ·rintro⟨⟨⟨⟨a,b⟩,c⟩,d⟩,e⟩
  refine⟨a,fun v hv=> ?_,c,fun v hv=> ?_,fun v hv=> ?_⟩
  ·have:=b v hv;omega
  ·have:=d v hv;omega
  ·rcases e v hv with g|g
   ·omega
   ·cases g
 ·rintro⟨a,b,c,d,e⟩
  refine⟨⟨⟨⟨a,fun v hv=> ?_⟩,c⟩,fun v hv=> ?_⟩,fun v hv=> .inl ?_⟩
  ·have:=b v hv;omega
  ·have:=d v hv;omega
  ·have:=e v hv;omega
def kH:List Int->Int->List Int
 |[],n=>[n]
 |x::l,n=>if x<n then x::kH l n else if x=n then x::l else n::x::l
def mw(op n:Int)(i:Nat)(l out:List Int):List Int:=l.foldl (fun out v=>if(op !=8||(i:Int)!=1||v !=n)=true then kH out v else out) out
mutual
def bH:Tm->List Int
 | .mk op n kids=>if op=1 then [n]else jJ op n kids 0 []
def jJ(op n:Int):List Tm->Nat->List Int->List Int
 |[],_,out=>out
 |k::l,i,out=>jJ op n l (i+1) (mw op n i (bH k) out)
end
theorem nO(t:Tm):bH t=if t.op=1 then [t.n]else jJ t.op t.n t.kids 0 []:=by cases t;rfl
theorem qJ:∀ (l:List Int) (n v:Int),v∈kH l n↔v∈l\/v=n
 |[],n,v=>by simp[kH]
 |x::l,n,v=>by
  simp only[kH]
  split
  ·simp only[List.mem_cons,qJ l n v];constructor
   ·rintro(h|h|h)
    ·exact .inl (.inl h)
    ·exact .inl (.inr h)
    ·exact .inr h
   ·rintro((h|h)|h)
    ·exact .inl h
    ·exact .inr (.inl h)
    ·exact .inr (.inr h)
  ·split
   ·rename_i h;subst h;simp only[List.mem_cons];constructor
    ·exact .inl
    ·rintro(h|h)
     ·exact h
     ·exact .inl h
   ·simp only[List.mem_cons];constructor
    ·rintro(h|h)
     ·exact .inr h
     ·exact .inl h
    ·rintro(h|h)
     ·exact .inr h
     ·exact .inl h
abbrev MS(l:List Int):Prop:=l.Pairwise (· <·)
theorem CO:∀ {l:List Int} (n:Int),MS l->MS (kH l n)
 |[],n,_=>by simp[kH]
 |x::l,n,h=>by
  have h1:=List.pairwise_cons.1 h
  simp only[kH]
  split
  ·rename_i hx
   refine List.pairwise_cons.2 ⟨fun y hy=> ?_,CO n h1.2⟩
   rcases(qJ l n y).1 hy with hy|hy
   ·exact h1.1 y hy
   ·omega
  ·split
   ·exact h
   ·refine List.pairwise_cons.2 ⟨fun y hy=> ?_,h⟩
    rcases List.mem_cons.1 hy with hy|hy
    ·omega
    ·have:=h1.1 y hy;omega
theorem sj(op n:Int)(i:Nat):∀ (l out:List Int),MS out->MS (mw op n i l out)/\∀v,v∈mw op n i l out↔v∈out\/(v∈l/\ ¬ (op=8/\i=1/\n=v))
 |[],out,h=>⟨h,fun v=>by simp[mw]⟩
 |x::l,out,h=>by
  have hk:mw op n i (x::l) out=mw op n i l (if(op !=8||(i:Int)!=1||x !=n)=true then kH out x else out):=rfl
  rw[hk]
  by_cases hc:(op !=8||(i:Int)!=1||x !=n)=true
  ·rw[if_pos hc]
   have ih:=sj op n i l (kH out x) (CO x h)
   refine⟨ih.1,fun v=> ?_⟩
   rw[ih.2 v,qJ,List.mem_cons]
   have tl: ¬ (op=8/\i=1/\n=x):=by
    rintro⟨h1,h2,h3⟩;subst h1;subst h2;subst h3;simp at hc
   constructor
   ·rintro((h|h)|h)
    ·exact .inl h
    ·subst h;exact .inr ⟨.inl rfl,tl⟩
    ·exact .inr ⟨.inr h.1,h.2⟩
   ·rintro(h|⟨h|h,h2⟩)
    ·exact .inl (.inl h)
    ·exact .inl (.inr h)
    ·exact .inr ⟨h,h2⟩
  ·rw[if_neg hc]
   have ih:=sj op n i l out h
   refine⟨ih.1,fun v=> ?_⟩
   rw[ih.2 v,List.mem_cons]
   have tl:op=8/\i=1/\n=x:=by simp at hc;exact⟨hc.1.1,ad,hc.2.symm⟩
   constructor
   ·rintro(h|h)
    ·exact .inl h
    ·exact .inr ⟨.inr h.1,h.2⟩
   ·rintro(h|⟨h|h,h2⟩)
    ·exact .inl h
    ·subst h;exact absurd tl h2
    ·exact .inr ⟨h,h2⟩
theorem dO:∀t:Tm,MS (bH t)/\∀v,v∈bH t↔sc v t=true:=by
 refine Tm.ck fun t ih=> ?_
 have hs:∀ (l:List Tm) (i:Nat) (out:List Int),(∀k∈l,k∈t.kids)->MS out->MS (jJ t.op t.n l i out)/\∀v,v∈jJ t.op t.n l i out↔v∈out\/iq v t.op t.n l i=true:=by
  intro l
  induction l with
  |nil=>intro i out _ h;exact⟨h,fun v=>by simp[jJ,iq]⟩
  |cons k l oN=>
   intro i out hk h
   have h1:=ih k (hk k aj)
   have h2:=sj t.op t.n i (bH k) out h
   have h3:=oN (i+1) _ (fun x hx=>hk x lY) h2.1
   refine⟨h3.1,fun v=> ?_⟩
   show v∈jJ t.op t.n l (i+1) (mw t.op t.n i (bH k) out)↔_
   rw[h3.2 v,h2.2 v,h1.2 v,iq]
   simp only[Bool.or_eq_true,Bool.and_eq_true,Bool.not_eq_true',Bool.and_eq_false_iff,beq_eq_false_iff_ne,ne_eq,not_and]
   have:(∀ (_:t.op=8) (_:i=1), ¬t.n=v)↔((¬t.op=8\/ ¬i=1)\/ ¬t.n=v):=by
    constructor
    ·intro h
     by_cases c1:t.op=8
     ·by_cases c2:i=1
      ·exact .inr (h c1 c2)
      ·exact .inl (.inr c2)
     ·exact .inl (.inl c1)
    ·rintro((h|h)|h) c1 c2
     ·exact absurd c1 h
     ·exact absurd c2 h
     ·exact h
   rw[this]
   constructor
   ·rintro((h|h)|h)
    ·exact .inl h
    ·exact .inr (.inl h)
    ·exact .inr (.inr h)
   ·rintro(h|h|h)
    ·exact .inl (.inl h)
    ·exact .inl (.inr h)
    ·exact .inr h
 by_cases h1:t.op=1
 ·rw[nO,if_pos h1]
  refine⟨aj,fun v=> ?_⟩
  rw[gQ,if_pos h1]
  simp only[List.mem_singleton,beq_iff_eq]
  exact eq_comm
 ·rw[nO,if_neg h1]
  have:=hs t.kids 0 [] (fun _ h=>h) aj
  refine⟨this.1,fun v=> ?_⟩
  rw[this.2 v,gQ,if_neg h1]
  simp
theorem LF:∀ {l l':List Int},MS l->MS l'->(∀v,v∈l↔v∈l')->l=l'
 |[],[],_,_,_=>rfl
 |[],y::l',_,_,h=>by have:=(h y).2 aj;cases this
 |x::l,[],_,_,h=>by have:=(h x).1 aj;cases this
 |x::l,y::l',h1,h2,h=>by
  have g1:=List.pairwise_cons.1 h1
  have g2:=List.pairwise_cons.1 h2
  have e:x=y:=by
   rcases List.mem_cons.1 ((h x).1 aj)with e|e
   ·exact e
   ·rcases List.mem_cons.1 ((h y).2 aj)with e2|e2
    ·exact e2.symm
    ·have:=g2.1 x e;have:=g1.1 y e2;omega
  subst e
  rw[LF g1.2 g2.2 fun v=> ?_]
  constructor
  ·intro hv
   rcases List.mem_cons.1 ((h v).1 (by simp[hv]))with e|e
   ·subst e;exact absurd (g1.1 v hv) ad
   ·exact e
  ·intro hv
   rcases List.mem_cons.1 ((h v).2 (by simp[hv]))with e|e
   ·subst e;exact absurd (g2.1 v hv) ad
   ·exact e
theorem EN{α:Type}{l:List α}{i:Nat}{n:α}(h:l[i]? =some n):(n::l.eraseIdx i).Perm l:=by
 obtain⟨hi,e⟩:=List.getElem?_eq_some_iff.1 h
 have ux:l=l.take i++n::l.drop (i+1):=by rw[<- e,List.getElem_cons_drop,List.take_append_drop]
 rw[List.eraseIdx_eq_take_drop_succ]
 conv=>rhs;rw[ux]
 exact List.perm_middle.symm
theorem vN:∀ (l:List Int) (n:Int),(kH l n).length<=l.length+1
 |[],n=>by simp[kH]
 |x::l,n=>by
  have:=vN l n
  simp only[kH]
  split
  ·simp;omega
  ·split<;>simp
theorem nP(op n:Int)(i:Nat):∀ (l out:List Int),(mw op n i l out).length<=out.length+l.length
 |[],out=>by simp[mw]
 |x::l,out=>by
  have hk:mw op n i (x::l) out=mw op n i l (if(op !=8||(i:Int)!=1||x !=n)=true then kH out x else out):=rfl
  rw[hk]
  have h1:=vN out x
  split
  ·have:=nP op n i l (kH out x);simp;omega
  ·have:=nP op n i l out;simp;omega
theorem ik:∀t:Tm,(bH t).length<=t.sz:=by
 refine Tm.ck fun t ih=> ?_
 have hs:∀ (l:List Tm) (i:Nat) (out:List Int),(∀k∈l,k∈t.kids)->(jJ t.op t.n l i out).length<=out.length+ir l:=by
  intro l
  induction l with
  |nil=>intro i out _;simp[jJ]
  |cons k l oN=>
   intro i out hk
   have h1:=ih k (hk k aj)
   have h2:=nP t.op t.n i (bH k) out
   have h3:=oN (i+1) (mw t.op t.n i (bH k) out) (fun x hx=>hk x lY)
   rw[eO]
   show(jJ t.op t.n l (i+1) (mw t.op t.n i (bH k) out)).length<=_
   omega
 rw[nO,Tm.jM]
 split
 ·simp
 ·have:=hs t.kids 0 [] (fun _ h=>h);simp at this;omega
theorem Ik{s:a7}{l:List Tm}(h:cZ s l=true):∀t∈l,t.sz<=40/\t.ja<=12:=by
 intro t ht
 rw[H4]at h
 simp only[EC,Bool.and_eq_true,List.all_eq_true,dP,decide_eq_true_eq,kF]at h
 have:=(h.2 t ht).1
 omega
theorem OU(t:Tm):oh [t]=iM t:=by simp[oh]
theorem CP(op v:Int)(x:Tm)(l:List Tm):kM op v (x::l)=kM op v l+if x.op=op/\x.n=v then 1 else 0:=by
 unfold kM
 rw[List.countP_cons]
 by_cases h:x.op=op/\x.n=v
 ·simp[h]
 ·rw[if_neg h,if_neg (by simpa using h)]
theorem EO(op v:Int)(a b:List Tm):kM op v (a++b)=kM op v a+kM op v b:=by unfold kM;rw[List.countP_append]
theorem jS(op v:Int)(l:List Tm):0<kM op v l↔∃x∈l,x.op=op/\x.n=v:=by
 unfold kM
 rw[List.countP_pos_iff]
 simp
mutual
def cL:Tm->List Int
 | .mk op n kids=>(if op=8 then [n]else [])++bL kids
def bL:List Tm->List Int
 |[]=>[]
 |k::l=>cL k++bL l
end
theorem jg(t:Tm):cL t=(if t.op=8 then [t.n]else [])++bL t.kids:=by cases t;rw[cL];rfl
theorem nQ:∀ (t:Tm) (v:Int),(cL t).count v=kM 8 v (iM t):=by
 refine Tm.ck fun t ih v=> ?_
 have key:∀l:List Tm,(∀k∈l,k∈t.kids)->(bL l).count v=kM 8 v (l.flatMap iM):=by
  intro l
  induction l with
  |nil=>intro _;rfl
  |cons k l oN=>
   intro hk
   rw[bL,List.count_append,ih k (hk k (by simp)) v,oN (fun x hx=>hk x (by simp[hx])),List.flatMap_cons,EO]
 rw[jg,List.count_append,key t.kids (fun _ h=>h),nN,CP]
 by_cases h:t.op=8
 ·by_cases h2:t.n=v
  ·simp[h,h2];omega
  ·simp[h,h2]
 ·simp[h]
theorem sn(t:Tm)(v:Int):v∈cL t↔0<kM 8 v (iM t):=by
 rw[<- nQ,List.count_pos_iff]
mutual
def dz(n:Int):Tm->Bool
 | .mk op k kids=>gr n kids&&((op !=1&&op !=8)||decide (k<n))
def gr(n:Int):List Tm->Bool
 |[]=>true
 |k::l=>dz n k&&gr n l
end
theorem pE(n:Int)(t:Tm):dz n t=(gr n t.kids&&((t.op !=1&&t.op !=8)||decide (t.n<n))):=by cases t;rw[dz];rfl
theorem pF(n:Int):∀t:Tm,dz n t=true↔∀x∈iM t,x.op=1\/x.op=8->x.n<n:=by
 refine Tm.ck fun t ih=> ?_
 have key:∀l:List Tm,(∀k∈l,k∈t.kids)->(gr n l=true↔∀x∈l.flatMap iM,x.op=1\/x.op=8->x.n<n):=by
  intro l
  induction l with
  |nil=>intro _;simp[gr]
  |cons k l oN=>
   intro hk
   rw[gr,Bool.and_eq_true,ih k (hk k (by simp)),oN (fun x hx=>hk x (by simp[hx])),List.flatMap_cons]
   simp only[List.mem_append]
   constructor
   ·rintro⟨a,b⟩ x (h|h)
    ·exact a x h
    ·exact b x h
   ·intro a
    exact⟨fun x h=>a x (.inl h),fun x h=>a x (.inr h)⟩
 rw[pE,Bool.and_eq_true,key t.kids (fun _ h=>h),nN]
 simp only[List.mem_cons,Bool.or_eq_true,Bool.and_eq_true,bne_iff_ne,decide_eq_true_eq]
 constructor
 ·rintro⟨a,b⟩ x (h|h) h2
  ·subst h
   rcases b with⟨b1,b2⟩|b
   ·rcases h2 with e|e
    ·exact absurd e b1
    ·exact absurd e b2
   ·exact b
  ·exact a x h h2
 ·intro a
  refine⟨fun x h=>a x (.inr h), ?_⟩
  by_cases h:t.op=1\/t.op=8
  ·exact .inr (a t (.inl rfl) h)
  ·exact .inl ⟨fun e=>h (.inl e),fun e=>h (.inr e)⟩
theorem EP(n:Int)(t:Tm):dz n t=true↔(∀v,0<kM 1 v (iM t)->v<n)/\∀v,0<kM 8 v (iM t)->v<n:=by
 rw[pF]
 constructor
 ·intro a
  refine⟨fun v h=> ?_,fun v h=> ?_⟩<;>(obtain⟨x,h1,h2,h3⟩:=(jS _ _ _).1 h;rw[<- h3];exact a x h1 (by simp[h2]))
 ·rintro⟨a,b⟩ x h (h2|h2)
  ·exact a _ ((jS _ _ _).2 ⟨x,h,h2,rfl⟩)
  ·exact b _ ((jS _ _ _).2 ⟨x,h,h2,rfl⟩)
def pG(t:Tm)(bn:List Int):Bool:=(cL t).all fun v=> !(decide (1<((cL t).count v:Int))||bn.contains v||(bH t).contains v)
theorem Il(t:Tm)(bn:List Int):pG t bn=true↔∀v,0<kM 8 v (iM t)->kM 8 v (iM t)<=1/\v∉bn/\sc v t=false:=by
 unfold pG
 rw[List.all_eq_true]
 have hv:∀v,(bH t).contains v=sc v t:=fun v=>by
  rw[Bool.eq_iff_iff,List.contains_iff_mem,(dO t).2 v]
 constructor
 ·intro a v h
  have:=a v ((sn t v).2 h)
  rw[nQ,hv]at this
  simp at this
  exact⟨ad,this.1.2,this.2⟩
 ·intro a v h
  obtain⟨a1,a2,a3⟩:=a v ((sn t v).1 h)
  rw[nQ,hv,a3]
  simp
  exact⟨ad,a2⟩
theorem oi:∀ (W A:List Int),A.Nodup->(∀v,v∈A↔v∈W)->A.length<=W.length/\(A.length=W.length↔W.Nodup)
 |[],A,hA,h=>by
  have:A=[]:=List.eq_nil_iff_forall_not_mem.2 fun v hv=>by simpa using(h v).1 hv
  subst this;simp
 |x::W,A,hA,h=>by
  by_cases hx:x∈W
  ·have ih:=(oi W A hA fun v=>by
    rw[h v,List.mem_cons]
    exact⟨fun e=>e.elim (fun e=>e ▸ hx) id, .inr⟩).1
   refine⟨by simp;omega, ?_⟩
   rw[List.length_cons,List.nodup_cons]
   exact⟨fun e=>ad,fun e=>absurd hx e.1⟩
  ·have hxA:x∈A:=(h x).2 aj
   have ih:=oi W (A.erase x) (hA.erase x) fun v=>by
    rw[hA.mem_erase_iff,h v,List.mem_cons]
    constructor
    ·rintro⟨a,b|b⟩
     ·exact absurd b a
     ·exact b
    ·intro a
     exact⟨fun e=>hx (e ▸ a), .inr a⟩
   have hl:(A.erase x).length=A.length - 1:=List.length_erase_of_mem hxA
   have hp:0<A.length:=List.length_pos_of_mem hxA
   rw[hl]at ih
   rw[List.length_cons,List.nodup_cons]
   refine⟨ad, ?_⟩
   constructor
   ·intro e;exact⟨hx,ih.2.1 ad⟩
   ·intro e
    have:=ih.2.2 e.2
    omega
def LG(t:Tm):List Int:=((iM t).filter fun x=>x.op==1).map Tm.n
theorem vO(l:List Tm)(v:Int):((l.filter fun x=>x.op==1).map Tm.n).count v=kM 1 v l:=by
 induction l with
 |nil=>rfl
 |cons x l ih=>
  rw[CP, <- ih]
  by_cases h:x.op=1
  ·have h':(x.op==1)=true:=by simpa using h
   have e:(x::l).filter (fun x=>x.op==1)=x::l.filter (fun x=>x.op==1):=by rw[List.filter_cons,if_pos h']
   rw[e,List.map_cons,List.count_cons]
   by_cases h2:x.n=v
   ·simp[h,h2]
   ·simp[h2]
  ·have h': ¬ (x.op==1)=true:=by simpa using h
   have e:(x::l).filter (fun x=>x.op==1)=l.filter (fun x=>x.op==1):=by rw[List.filter_cons,if_neg h']
   rw[e]
   simp[h]
structure yB (t:Tm):Prop where
 once:(LG t).Nodup
 free:∀v,sc v t=true↔v∈LG t
theorem sZ(t:Tm):(bH t).Nodup:=(dO t).1.imp fun {a b} h=>ad
theorem Ws{t:Tm}(h:yB t):(bH t).length=(LG t).length:=
 ((oi (LG t) (bH t) (sZ t) fun v=>by rw[(dO t).2 v,h.free v]).2).2 h.once
def CQ(l:List Tm):Bool:=(l.map fun t=>(bH t).length).sum==(bH (.mk 0 0 l)).length
theorem CS(l:List Tm)(v:Int):sc v (.mk 0 0 l)=true↔∃t∈l,sc v t=true:=by
 have key:∀ (l:List Tm) (i:Nat),iq v 0 0 l i=l.any (sc v):=by
  intro l
  induction l with
  |nil=>intro i;rfl
  |cons k l ih=>intro i;simp[iq,ih]
 have e:sc v (.mk 0 0 l)=iq v 0 0 l 0:=rfl
 rw[e,key,List.any_eq_true]
theorem Gi(l:List Tm)(h:∀t∈l,yB t):CQ l=true↔∀v,kM 1 v (oh l)<=1:=by
 have hW:((oh l).filter fun x=>x.op==1).map Tm.n=l.flatMap LG:=by
  unfold oh
  induction l with
  |nil=>rfl
  |cons t l ih=>
   rw[List.flatMap_cons,List.filter_append,List.map_append,List.flatMap_cons,ih (fun x hx=>h x (by simp[hx]))];rfl
 have hlen:(l.map fun t=>(bH t).length).sum=(l.flatMap LG).length:=by
  clear hW
  induction l with
  |nil=>rfl
  |cons t l ih=>
   rw[List.map_cons,List.sum_cons,List.flatMap_cons,List.length_append,ih (fun x hx=>h x (by simp[hx])),Ws (h t (by simp))]
 have hm:∀v,v∈bH (.mk 0 0 l)↔v∈l.flatMap LG:=fun v=>by
  rw[(dO _).2 v,CS,List.mem_flatMap]
  constructor
  ·rintro⟨t,h1,h2⟩;exact⟨t,h1,((h t h1).free v).1 h2⟩
  ·rintro⟨t,h1,h2⟩;exact⟨t,h1,((h t h1).free v).2 h2⟩
 have hn:=(oi (l.flatMap LG) (bH (.mk 0 0 l)) (sZ _) hm).2
 unfold CQ
 rw[hlen,beq_iff_eq,eq_comm,hn,List.nodup_iff_count]
 constructor
 ·intro a v;rw[<- vO,hW];exact a v
 ·intro a v;rw[<- hW,vO];exact a v
def my(t:Tm):Bool:=t.op==1||t.op==3
mutual
def gR:Tm->Bool
 | .mk op n kids=>tY kids&&my (.mk op n kids)
def tY:List Tm->Bool
 |[]=>true
 |k::l=>gR k&&tY l
end
theorem yC(t:Tm):gR t=(t.kids.all gR&&my t):=by
 have:∀l:List Tm,tY l=l.all gR:=fun l=>by
  induction l with
  |nil=>rfl
  |cons k l ih=>simp[tY,ih]
 cases t;simp only[gR,this,Tm.kids]
mutual
def gu:Tm->List Int->List Int×Bool
 | .mk op n kids,b=>if op=1 then(kH b n, !b.contains n)else gS kids b
def gS:List Tm->List Int->List Int×Bool
 |[],b=>(b,true)
 |k::l,b=>if(gu k b).2=true then gS l (gu k b).1 else((gu k b).1,false)
end
theorem qK(t:Tm)(b:List Int):gu t b=if t.op=1 then(kH b t.n, !b.contains t.n)else gS t.kids b:=by cases t;rfl
theorem Im:∀ (t:Tm) (b:List Int),(gu t b).1.length<=b.length+t.sz:=by
 refine Tm.ck fun t ih b=> ?_
 have hs:∀ (l:List Tm) (b:List Int),(∀k∈l,k∈t.kids)->(gS l b).1.length<=b.length+ir l:=by
  intro l
  induction l with
  |nil=>intro b _;simp[gS,ir]
  |cons k l oN=>
   intro b hk
   have h1:=ih k (hk k aj) b
   have h2:=oN (gu k b).1 (fun x hx=>hk x lY)
   rw[eO]
   simp only[gS]
   split
   ·omega
   ·simp only;omega
 rw[qK,Tm.jM]
 have h3:=vN b t.n
 have h4:=hs t.kids b (fun _ h=>h)
 split
 ·simp only;omega
 ·omega
def tG(l:List (Tm×Int)):List Int:=(l.filter fun x=>x.1.op==1).map fun x=>x.1.n
theorem vP(a b:List (Tm×Int)):tG (a++b)=tG a++tG b:=by simp[tG]
theorem vQ(x:Tm×Int)(l:List (Tm×Int)):tG (x::l)=(if x.1.op=1 then x.1.n::tG l else tG l):=by
 unfold tG
 by_cases h:x.1.op=1
 ·simp[h]
 ·simp[h]
theorem Ar{l:List Tm}{d v:Int}:v∈tG (l.flatMap fun k=>pre k d)↔∃k∈l,v∈tG (pre k d):=by
 induction l with
 |nil=>simp[tG]
 |cons k l ih=>simp[vP,ih]
theorem Gj{v op n:Int}(h:op≠8):∀ (l:List Tm) (i:Nat),iq v op n l i=l.any (sc v)
 |[],i=>rfl
 |k::l,i=>by
  have:(op==8)=false:=by simpa using h
  simp[iq,Gj h l,this]
theorem Wt:∀ (t:Tm) (d:Int),(∀x∈pre t d,x.1.op≠8)->(∀x∈pre t d,x.1.op=1->x.1.kids=[])->∀v,sc v t=true↔v∈tG (pre t d):=by
 refine Tm.ck fun t ih d h8 h1 v=> ?_
 have hp:=jH t d
 have ht8:t.op≠8:=h8 (t,d) (by rw[hp];simp)
 have lL:∀k∈t.kids,∀x∈pre k (d+1),x∈pre t d:=fun k hk x hx=>by rw[hp];exact List.mem_cons_of_mem _ (List.mem_flatMap.2 ⟨k,hk,hx⟩)
 rw[hp,vQ,gQ]
 by_cases h:t.op=1
 ·have hk:t.kids=[]:=h1 (t,d) (by rw[hp];simp) h
  simp only[if_pos h,hk,List.flatMap_nil]
  show(t.n==v)=true↔v∈[t.n]
  rw[beq_iff_eq,List.mem_singleton];exact eq_comm
 ·simp only[if_neg h]
  rw[Gj ht8,Ar,List.any_eq_true]
  constructor
  ·rintro⟨k,hk,hv⟩
   exact⟨k,hk,(ih k hk (d+1) (fun x hx=>h8 x (lL k hk x hx)) (fun x hx=>h1 x (lL k hk x hx)) v).1 hv⟩
  ·rintro⟨k,hk,hv⟩
   exact⟨k,hk,(ih k hk (d+1) (fun x hx=>h8 x (lL k hk x hx)) (fun x hx=>h1 x (lL k hk x hx)) v).2 hv⟩
theorem qL{s:a7}{t:Tm}(h:dP s t=true):∀x∈pre t 1,bz s x.1=true:=by
 simp only[dP,Bool.and_eq_true,vA s t 1,List.all_eq_true]at h
 exact h.2
theorem CT{s:a7}{t:Tm}(h:bz s t=true)(h1:t.op=1):t.kids=[]:=by
 simp[bz,h1]at h
 exact h.1
theorem vR:∀ (L:List (Tm×Int)) (l:List Int) (b:Bool),(aA (yh pJ lU) (l,b) L).2=true↔(∀x∈L,my x.1=true)/\(tG L).Nodup/\∀v∈tG L,v∉l
 |[],l,b=>by simp[aA,tG]
 |x::L,l,b=>by
  have e1:∀c,tF l x=c->yh pJ lU (l,b) x=((if c=true then l else if x.1.op=1 then rZ l x.1.n else l, !c), !c):=fun c hc=>by
   show((if tF l x=true then l else if x.1.op=1 then rZ l x.1.n else l, !tF l x),(pJ (if tF l x=true then l else if x.1.op=1 then rZ l x.1.n else l, !tF l x)).isNone)=_
   rw[hc];cases c<;>rfl
  rw[aA,vQ]
  cases hb:tF l x with
  |true=>
   rw[e1 _ hb]
   simp only[Bool.not_true,Bool.false_eq_true,if_false,false_iff,not_and]
   intro hs hn hv
   have hsx:=hs x aj
   simp only[tF,my,Bool.or_eq_true,Bool.and_eq_true,bne_iff_ne,beq_iff_eq,ne_eq]at hb hsx
   rcases hb with⟨h1,h2⟩|⟨h1,h2⟩
   ·rcases hsx with h|h
    ·exact h1 h
    ·exact h2 h
   ·rw[if_pos h1]at hv
    exact hv x.1.n aj Dy
  |false=>
   rw[e1 _ hb]
   simp only[Bool.not_false,if_true,Bool.false_eq_true,if_false]
   rw[vR L]
   simp only[tF,Bool.or_eq_false_iff,Bool.and_eq_false_iff,bne_eq_false_iff_eq,beq_eq_false_iff_ne,ne_eq]at hb
   have hsx:my x.1=true:=by simp only[my,Bool.or_eq_true,beq_iff_eq];exact hb.1
   by_cases h1:x.1.op=1
   ·have wO:x.1.n∉l:=by
     rcases hb.2 with h|h
     ·exact absurd h1 h
     ·intro hm;rw[<- List.contains_iff_mem]at hm;rw[h]at hm;cases hm
    rw[if_pos h1,if_pos h1]
    simp only[List.mem_cons,forall_eq_or_imp,hsx,true_and,List.nodup_cons,vJ,not_or]
    constructor
    ·rintro⟨a1,a2,a3⟩
     exact⟨a1,⟨fun hm=>(a3 _ hm).2 rfl,a2⟩,wO,fun v hv=>(a3 v hv).1⟩
    ·rintro⟨a1,⟨a2,a3⟩,a4,a5⟩
     exact⟨a1,a3,fun v hv=>⟨a5 v hv,fun e=>a2 (e ▸ hv)⟩⟩
   ·rw[if_neg h1,if_neg h1]
    simp only[List.mem_cons,forall_eq_or_imp,hsx,true_and]
theorem Io:∀ (t:Tm) (d:Int),(∀x∈pre t d,x.1.op=1->x.1.kids=[])->∀b:List Int,((gu t b).2=true↔(tG (pre t d)).Nodup/\∀v∈tG (pre t d),v∉b)/\((gu t b).2=true->∀v,v∈(gu t b).1↔v∈b\/v∈tG (pre t d)):=by
 refine Tm.ck fun t ih d h1 b=> ?_
 have hp:=jH t d
 have lL:∀k∈t.kids,∀x∈pre k (d+1),x∈pre t d:=fun k hk x hx=>by rw[hp];exact List.mem_cons_of_mem _ (List.mem_flatMap.2 ⟨k,hk,hx⟩)
 have hs:∀ (l:List Tm) (b:List Int),(∀k∈l,k∈t.kids)->((gS l b).2=true↔(tG (l.flatMap fun k=>pre k (d+1))).Nodup/\∀v∈tG (l.flatMap fun k=>pre k (d+1)),v∉b)/\((gS l b).2=true->∀v,v∈(gS l b).1↔v∈b\/v∈tG (l.flatMap fun k=>pre k (d+1))):=by
  intro l
  induction l with
  |nil=>intro b _;simp[gS,tG]
  |cons k l oN=>
   intro b hk
   obtain⟨k1,k2⟩:=ih k (hk k aj) (d+1) (fun x hx=>h1 x (lL k (hk k aj) x hx)) b
   obtain⟨l1,l2⟩:=oN (gu k b).1 (fun x hx=>hk x lY)
   simp only[gS,List.flatMap_cons,vP,List.nodup_append,List.mem_append]
   by_cases hc:(gu k b).2=true
   ·rw[if_pos hc]
    have hm:=k2 hc
    obtain⟨c1,c2⟩:=k1.1 hc
    constructor
    ·rw[l1]
     constructor
     ·rintro⟨a1,a2⟩
      refine⟨⟨c1,a1,fun x hx y hy e=>a2 y hy ((hm y).2 (.inr (e ▸ hx)))⟩, ?_⟩
      rintro v (hv|hv)
      ·exact c2 v hv
      ·exact fun hb=>a2 v hv ((hm v).2 (.inl hb))
     ·rintro⟨⟨a1,a2,a3⟩,a4⟩
      refine⟨a2,fun v hv MH=> ?_⟩
      rcases(hm v).1 MH with h|h
      ·exact a4 v (.inr hv) h
      ·exact a3 v h v hv rfl
    ·intro h v
     rw[l2 h v,hm v]
     constructor
     ·rintro((h|h)|h)
      ·exact .inl h
      ·exact .inr (.inl h)
      ·exact .inr (.inr h)
     ·rintro(h|h|h)
      ·exact .inl (.inl h)
      ·exact .inl (.inr h)
      ·exact .inr h
   ·rw[if_neg hc]
    simp only[Bool.false_eq_true,false_iff,false_implies,and_true,not_and]
    rintro⟨a1,a2,a3⟩ a4
    exact hc (k1.2 ⟨a1,fun v hv=>a4 v (.inl hv)⟩)
 rw[qK,hp,vQ]
 by_cases h:t.op=1
 ·have hk:t.kids=[]:=h1 (t,d) (by rw[hp];simp) h
  simp only[if_pos h,hk,List.flatMap_nil]
  simp only[tG,List.filter_nil,List.map_nil,List.nodup_cons,List.not_mem_nil,not_false_eq_true,List.nodup_nil,and_self,true_and,List.mem_singleton,forall_eq,Bool.not_eq_true',qJ]
  refine⟨?_,fun _ v=>trivial⟩
  rw[Bool.eq_false_iff,ne_eq,List.contains_iff_mem]
 ·simp only[if_neg h]
  exact hs t.kids b (fun _ h=>h)
theorem Ip:∀ (t:Tm) (d:Int),gR t=(pre t d).all fun x=>my x.1:=by
 refine Tm.ck fun t ih d=> ?_
 rw[F1 my,yC,Bool.and_comm]
 congr 1
 rw[Bool.eq_iff_iff]
 simp only[List.all_eq_true (l:=t.kids)]
 exact forall_congr' fun k=>forall_congr' fun hk=>by rw[ih k hk (d+1)]
theorem LH{s:a7}{t:Tm}(h:dP s t=true):wX t=((gu t []).2&&gR t):=by
 have h1:=(Io t 1 (fun x hx ho=>CT (qL h x hx) ho) []).1
 rw[Bool.eq_iff_iff,Bool.and_eq_true,h1,wX,vR,Ip t 1,List.all_eq_true]
 constructor
 ·rintro⟨a,b,c⟩;exact⟨⟨b,fun v _=>aj⟩,a⟩
 ·rintro⟨⟨a,b⟩,c⟩;exact⟨c,a,fun v _=>aj⟩
theorem As:∀ (t:Tm) (d:Int),(pre t d).map (·.1)=iM t:=by
 refine Tm.ck fun t ih d=> ?_
 have key:∀l:List Tm,(∀k∈l,k∈t.kids)->((l.flatMap fun k=>pre k (d+1)).map (·.1))=l.flatMap iM:=by
  intro l
  induction l with
  |nil=>intro _;rfl
  |cons k l oN=>
   intro hk
   rw[List.flatMap_cons,List.map_append,ih k (hk k (by simp)),oN (fun x hx=>hk x (by simp[hx])),List.flatMap_cons]
 rw[jH,nN,List.map_cons,key t.kids (fun _ h=>h)]
theorem Gk(t:Tm)(d:Int):tG (pre t d)=LG t:=by
 unfold tG LG
 rw[<- As t d,List.filter_map,List.map_map]
 rfl
theorem OV{t x:Tm}(h:x∈iM t):∃y∈pre t 1,y.1=x:=by
 rw[<- As t 1]at h
 obtain⟨y,h1,h2⟩:=List.mem_map.1 h
 exact⟨y,h1,h2⟩
theorem ER{s:a7}{t:Tm}(h:dP s t=true)(hp:wX t=true):yB t/\∀x∈iM t,x.op≠8:=by
 rw[wX,vR]at hp
 obtain⟨a,b,_⟩:=hp
 have h8:∀y∈pre t 1,y.1.op≠8:=fun y hy e=>by
  have:=a y hy
  simp[my,e]at this
 refine⟨⟨by rw[<- Gk t 1];exact b,fun v=> ?_⟩,fun x hx=> ?_⟩
 ·rw[<- Gk t 1]
  exact Wt t 1 h8 (fun x hx ho=>CT (qL h x hx) ho) v
 ·obtain⟨y,h1,h2⟩:=OV hx
  rw[<- h2];exact h8 y h1
def kI(s:a7)(r:Rl):Bool:=decide (0<=r.fn)&&(match s.bX[r.fn.toNat]? with|some f=>(r.bn.length:Int)==f.args|none=>false)&&decide (0<=r.vars)&&decide (r.vars<=20)
def fY(s:a7)(r:Rl):Bool:=(kI s r&&dP s r.rhs)&&(r.bn.all fun p=>(dP s p&&((gu p []).2&&gR p))&&dz r.vars p)&&(CQ r.bn&&dz r.vars r.rhs&&pG r.rhs (bH (.mk 0 0 r.bn)))
theorem OW(s:a7)(r:Rl)(hs:kB s=true)(h1:(oh r.bn).length<=1000000)(h2:(oh [r.rhs]).length<=1000000):fy s r=fY s r:=by
 have LI:∀t,cZ s [t]=dP s t:=fun t=>by unfold cZ;simp[hs,pD]
 have CU:mG s r=true↔(kI s r=true/\(∀t∈r.bn,dP s t=true/\wX t=true))/\dP s r.rhs=true:=by
  have e:mG s r=((kI s r&&r.bn.all (kY s))&&cZ s [r.rhs]):=rfl
  rw[e,LI,Bool.and_eq_true,Bool.and_eq_true,List.all_eq_true]
  simp only[kY,LI,Bool.and_eq_true]
 have mono:∀t∈r.bn,∀v,0<kM 1 v (iM t)->0<kM 1 v (oh r.bn):=fun t ht v h=>by
  obtain⟨x,a,b⟩:=(jS _ _ _).1 h
  exact(jS _ _ _).2 ⟨x,List.mem_flatMap.2 ⟨t,ht,a⟩,b⟩
 have split:∀v,0<kM 1 v (oh r.bn)->∃t∈r.bn,0<kM 1 v (iM t):=fun v h=>by
  obtain⟨x,a,b⟩:=(jS _ _ _).1 h
  obtain⟨t,c,d⟩:=List.mem_flatMap.1 a
  exact⟨t,c,(jS _ _ _).2 ⟨x,d,b⟩⟩
 have hvs:∀ (t:Tm) (v:Int),v∈LG t↔0<kM 1 v (iM t):=fun t v=>by rw[<- vO,List.count_pos_iff];rfl
 have LJ:(∀t∈r.bn,yB t)->∀v,v∈bH (.mk 0 0 r.bn)↔0<kM 1 v (oh r.bn):=fun h v=>by
  rw[(dO _).2 v,CS]
  constructor
  ·rintro⟨t,a,b⟩;exact mono t a v ((hvs t v).1 (((h t a).free v).1 b))
  ·intro a
   obtain⟨t,b,c⟩:=split v a
   exact⟨t,b,((h t b).free v).2 ((hvs t v).2 c)⟩
 rw[Bool.eq_iff_iff,Ij s r h1 h2,CU]
 unfold fY
 simp only[Bool.and_eq_true,List.all_eq_true,EP,Il,OU]
 constructor
 ·rintro⟨⟨⟨a,p⟩,rt⟩,A,B,C,D⟩
  have bp:∀t∈r.bn,yB t:=fun t ht=>(ER (p t ht).1 (p t ht).2).1
  refine⟨⟨⟨a,rt⟩,fun t ht=>⟨⟨(p t ht).1, ?_⟩,fun v hv=>(A v (mono t ht v hv)).2,fun v hv=> ?_⟩⟩,⟨(Gi _ bp).2 fun v=> ?_,B,fun v hv=>(C v hv).2.1⟩,fun v hv=>⟨(C v hv).1, ?_, ?_⟩⟩
  ·have:=(p t ht).2
   rw[LH (p t ht).1,Bool.and_eq_true]at this
   exact this
  ·obtain⟨x,b,c,_⟩:=(jS _ _ _).1 hv
   exact absurd c ((ER (p t ht).1 (p t ht).2).2 x b)
  ·by_cases h:0<kM 1 v (oh r.bn)
   ·exact(A v h).1
   ·omega
  ·rw[LJ bp v];have:=(C v hv).2.2;omega
  ·cases hf:sc v r.rhs with
   |false=>rfl
   |true=>have:=D v hf;omega
 ·rintro⟨⟨⟨a,rt⟩,p⟩,⟨l,B,B2⟩,C⟩
  have hp:∀t∈r.bn,dP s t=true/\wX t=true:=fun t ht=>⟨(p t ht).1.1,by
   rw[LH (p t ht).1.1,Bool.and_eq_true];exact(p t ht).1.2⟩
  have bp:∀t∈r.bn,yB t:=fun t ht=>(ER (hp t ht).1 (hp t ht).2).1
  refine⟨⟨⟨a,hp⟩,rt⟩,fun v hv=>⟨(Gi _ bp).1 l v, ?_⟩,B,fun v hv=>⟨(C v hv).1,B2 v hv, ?_⟩,fun v hv=> ?_⟩
  ·obtain⟨t,b,c⟩:=split v hv
   exact(p t b).2.1 v c
  ·have:=(C v hv).2.1
   rw[LJ bp v]at this
   omega
  ·by_cases h:0<kM 8 v (iM r.rhs)
   ·have:=(C v h).2.2
    rw[hv]at this;cases this
   ·omega
theorem OX(t:Tm):(iM t).length=t.sz:=by rw[<- As t 1,List.length_map];rfl
theorem Au:∀ (l:List Tm) (n:Nat),(∀t∈l,t.sz<=n)->(oh l).length<=l.length*n
 |[],n,_=>by simp[oh]
 |t::l,n,h=>by
  have ih:=Au l n (fun x hx=>h x lY)
  have e:(oh (t::l)).length=(iM t).length+(oh l).length:=by simp[oh]
  have:=h t aj
  rw[e,OX,List.length_cons,Nat.add_mul];omega
def eE(p:Pg):Bool:=(kB p.sig&&decide (p.rules.length<=16))&&p.rules.all (fY p.sig)
def Gl(p:Pg):Prop:=∀r∈p.rules,r.bn.length<=6/\(∀t∈r.bn,t.sz<=50)/\r.rhs.sz<=50
theorem OY(p:Pg)(h:Gl p):qH p=eE p:=by
 unfold qH eE
 cases hs:kB p.sig with
 |false=>simp
 |true=>
  have e:p.rules.all (fy p.sig)=p.rules.all (fY p.sig):=by
   rw[Bool.eq_iff_iff,List.all_eq_true,List.all_eq_true]
   have k:∀r∈p.rules,fy p.sig r=fY p.sig r:=fun r hr=>by
    obtain⟨a,b,c⟩:=h r hr
    refine OW p.sig r hs ?_ ?_
    ·have:=Au r.bn 50 b
     omega
    ·have:=Au [r.rhs] 50 (fun t ht=>by simp at ht;subst ht;exact c)
     simp at this;omega
   exact⟨fun a r hr=>(k r hr) ▸ a r hr,fun a r hr=>(k r hr).symm ▸ a r hr⟩
  rw[e];simp
def fK:Tm:= .mk 16 0 []
def gU(b:Bool):Tm:= .mk 3 (if b=true then 1 else 0) []
mutual
def il(l:List Tm):Tm->Tm
 | .mk op n kids=>if op=1 then(l[n.toNat]?).getD fK else .mk op n (Av l kids)
def Av(l:List Tm):List Tm->List Tm
 |[]=>[]
 |k::ks=>il l k::Av l ks
end
theorem vS(l:List Tm):∀ks:List Tm,Av l ks=ks.map (il l)
 |[]=>rfl
 |k::ks=>by simp[Av,vS l ks]
theorem vT(l:List Tm)(t:Tm):il l t=if t.op=1 then(l[t.n.toNat]?).getD fK else .mk t.op t.n (t.kids.map (il l)):=by cases t;rw[il,vS];rfl
def qM(r:Rl)(b:List Tm):List Tm:=b.mapIdx fun i x=>if(cL r.rhs).contains (i:Int)=true then fK else x
def jz(env:List Tm)(n:Int)(v:Tm):List Tm:=(env++List.replicate (n.toNat+1 - env.length) fK).set n.toNat v
def oP(s:a7)(f:Int):Tm:= .mk 4 f ((List.range (dN s.bX f).toNat).map fun i:Nat=> .mk 1 (i:Int) [])
def gV(t:Tm)(i:Nat):Tm:=(t.kids[i]?).getD fK
def bK(l:List Pf)(i:Nat):Tm:=((l[i]?).map Pf.val).getD fK
def qY(l:List (List Tm->Tm->Bool))(i:Nat):List Tm->Tm->Bool:=(l[i]?).getD fun _ _=>false
def oA(l:List (List Tm->Tm->Bool))(env es:List Tm):Bool:=l.length==es.length&&(l.zip es).all fun x=>x.1 env x.2
def wZ(op a b:Int):Tm:=if op=15 then gU (decide (a<b))else .mk 2 (if op=14 then a - b else a+b) []
def w7(r:Int)(e v a b:Tm):Bool:=
 if r=10 then e.op==9&&(aX a (gU true)&&aX b v)
 else if r=11 then e.op==10&&(aX a (gU true)&&aX b (gU true)&&aX v (gU true))
 else if r=12 then e.op==11&&(aX a b&&cR 16 a&&aX v (gU true))
 else if r=13 then e.op==12&&((cR 16 a&&cR 1 a)&&(cR 16 b&&cR 1 b)&&aX v (gU (aX a b)))
 else if r=14 then(e.op==13||e.op==14||e.op==15)&&(a.op==2&&b.op==2&&aX v (wZ e.op a.n b.n))
 else false
def mR(p:Pg)(r:Int)(v:Tm)(n:Int)(b:List Tm)(ks:List Pf)(g:List (List Tm->Tm->Bool))(env:List Tm)(e:Tm):Bool:=
 if r=1 then ks.length==0&&v.op==16
 else if r=2 then e.op==1&&(ks.length==0&&I7 v ((env[e.n.toNat]?).getD fK))
 else if r=3 then e.op==2&&(ks.length==0&&aX v e)
 else if r=4 then e.op==3&&(aX v (.mk e.op e.n (ks.map Pf.val))&&oA g env e.kids)
 else if r=5 then e.op==5&&(aX v (.mk e.op e.n (ks.map Pf.val))&&oA g env e.kids)
 else if r=6 then e.op==4&&decide (0<=n)&&match p.rules[n.toNat]? with
  |none=>false
  |some ru=>(ru.fn==e.n&&(b.length:Int)==ru.vars&&ks.length==e.kids.length+1&&v.op !=16&&aX (bK ks e.kids.length) v)&&
   (aX (.mk 0 0 ((ks.take e.kids.length).map Pf.val)) (.mk 0 0 (ru.bn.map (il b)))&&oA (g.take e.kids.length) env e.kids&&qY g e.kids.length (qM ru b) ru.rhs)
 else if r=7 then e.op==7&&(ks.length==1&&aX (bK ks 0) v&&qY g 0 env (gV e 0))
 else if r=8 then e.op==7&&(ks.length==1&&aX (bK ks 0) v&&qY g 0 env (gV e 1))
 else if r=9 then e.op==8&&(ks.length==2&&aX (bK ks 1) v&&qY g 0 env (gV e 0)&&qY g 1 (jz env e.n (bK ks 0)) (gV e 1))
 else if r=15 then e.op==6&&(ks.length==2||ks.length==3)&&(qY g 0 env (gV e 0)&&qY g 1 env (gV e 1)&&(bK ks 0).op==5)&&
  (if((bK ks 0).kids.length:Int)+1<dN p.sig.bX (bK ks 0).n then ks.length==2&&aX v (.mk 5 (bK ks 0).n ((bK ks 0).kids++[bK ks 1]))
   else ks.length==3&&aX (bK ks 2) v&&qY g 2 ((bK ks 0).kids++[bK ks 1]) (oP p.sig (bK ks 0).n))
 else ks.length==2&&w7 r e v (bK ks 0) (bK ks 1)&&(qY g 0 env (gV e 0)&&qY g 1 env (gV e 1))
mutual
def bf(p:Pg):Pf->List Tm->Tm->Bool
 | .mk r v n b ks=>mR p r v n b ks (Gm p ks)
def Gm(p:Pg):List Pf->List (List Tm->Tm->Bool)
 |[]=>[]
 |k::l=>bf p k::Gm p l
end
theorem yD(p:Pg):∀l:List Pf,Gm p l=l.map (bf p)
 |[]=>rfl
 |k::l=>by simp[Gm,yD p l]
theorem e7(p:Pg)(f:Pf):bf p f=mR p f.bG f.val f.num f.binds f.kids (f.kids.map (bf p)):=by cases f;rw[bf,yD];rfl
mutual
def Pf.sh:Pf->Tm
 | .mk _ _ _ _ kids=> .mk 0 0 (Pf.shs kids)
def Pf.shs:List Pf->List Tm
 |[]=>[]
 |k::l=>k.sh::Pf.shs l
end
theorem Pf.Gn:∀l:List Pf,Pf.shs l=l.map Pf.sh
 |[]=>rfl
 |k::l=>by simp[Pf.shs,Pf.Gn l]
theorem Pf.CV (f:Pf):f.sh= .mk 0 0 (f.kids.map Pf.sh):=by cases f;rw[Pf.sh,Pf.Gn];rfl
theorem Pf.mz (f:Pf):f.sh.kids=f.kids.map Pf.sh:=by rw[Pf.CV];rfl
theorem Gp:∀ (f:Pf) (d:Int),(dB f d).map (fun x=>(x.1.sh,x.2))=pre f.sh d:=by
 refine Pf.ck fun f ih d=> ?_
 rw[qI,jH,List.map_cons,Pf.mz,List.map_flatMap,List.flatMap_map]
 congr 1
 have:∀l:List Pf,(∀k∈l,k∈f.kids)->(l.flatMap fun k=>(dB k (d+1)).map fun x=>(x.1.sh,x.2))=l.flatMap fun k=>pre k.sh (d+1):=by
  intro l
  induction l with
  |nil=>intro _;rfl
  |cons k l oN=>intro h;rw[List.flatMap_cons,List.flatMap_cons,ih k (h k (by simp)),oN fun x hx=>h x (by simp[hx])]
 exact this f.kids fun _ h=>h
theorem CW(f:Pf)(d:Int):(dB f d).length=f.sh.sz:=by
 rw[<- List.length_map (f:=fun x:Pf×Int=>(x.1.sh,x.2)),Gp]
 exact nM _ _ _
theorem Wu:∀f:Pf,f.sh.ja=f.ja:=by
 refine Pf.ck fun f ih=> ?_
 have:∀l:List Pf,(∀k∈l,k∈f.kids)->Tm.fV (l.map Pf.sh)=Pf.fV l:=by
  intro l
  induction l with
  |nil=>intro _;rfl
  |cons k l oN=>intro h;rw[List.map_cons,od,Pf.fV,ih k (h k (by simp)),oN fun x hx=>h x (by simp[hx])]
 rw[Tm.vz,Pf.mz,this f.kids fun _ h=>h]
 cases f;rfl
def fZ(s:a7)(f:Pf):Bool:=(vF s f.val&&mQ s f.binds)&&(f.bG==6||(f.num==0&&f.binds.length==0))
mutual
def gf(s:a7):Pf->Bool
 | .mk r v n b kids=>fZ s (.mk r v n b kids)&&tZ s kids
def tZ(s:a7):List Pf->Bool
 |[]=>true
 |k::l=>gf s k&&tZ s l
end
theorem jh(s:a7)(f:Pf):gf s f=(fZ s f&&f.kids.all (gf s)):=by
 have:∀l:List Pf,tZ s l=l.all (gf s):=fun l=>by
  induction l with
  |nil=>rfl
  |cons k l ih=>simp[tZ,ih]
 cases f;rw[gf,this];rfl
theorem Iq(s:a7):∀ (f:Pf) (d:Int),gf s f=true↔∀x∈dB f d,fZ s x.1=true:=by
 refine Pf.ck fun f ih d=> ?_
 rw[jh,qI,Bool.and_eq_true,List.all_eq_true]
 simp only[List.mem_cons,forall_eq_or_imp,List.mem_flatMap]
 constructor
 ·rintro⟨a,b⟩
  refine⟨a, ?_⟩
  rintro x ⟨k,hk,hx⟩
  exact(ih k hk _).1 (b k hk) x hx
 ·rintro⟨a,b⟩
  exact⟨a,fun k hk=>(ih k hk (d+1)).2 fun x hx=>b x ⟨k,hk,hx⟩⟩
def dT(s:a7)(f:Pf):Bool:=decide (0<=eo f.sh 500 150)&&gf s f
theorem OZ(s:a7)(f:Pf):sY s f=dT s f:=by
 rw[Bool.eq_iff_iff,LD,dT,Bool.and_eq_true,decide_eq_true_eq,kF,Iq s f 1,CW]
 have hd:(∀x∈dB f 1,x.2<=150)↔f.sh.ja<=150:=by
  have:=yl f.sh 1 150
  rw[<- Gp]at this
  simp only[List.mem_map,forall_exists_index,and_imp,forall_apply_eq_imp_iff₂]at this
  rw[this];omega
 have hn:∀x:Pf×Int,EL s x=true↔x.2<=150/\fZ s x.1=true:=fun x=>by
  simp only[EL,fZ,Bool.and_eq_true,decide_eq_true_eq,and_assoc]
 simp only[hn]
 constructor
 ·rintro⟨a,b⟩
  exact⟨⟨ad,by have:=hd.1 fun x hx=>(b x hx).1;omega⟩,fun x hx=>(b x hx).2⟩
 ·rintro⟨⟨a,b⟩,c⟩
  exact⟨ad,fun x hx=>⟨hd.2 ad x hx,c x hx⟩⟩
def ES(s:a7)(t:Tm):Prop:=t.fits/\Pn s t
theorem ES.lx {s:a7}{t k:Tm}(h:ES s t)(hk:k∈t.kids):ES s k:=⟨((Tm.aP t).1 h.1).2 k hk,h.2.lx hk⟩
theorem Aw(s:a7):ES s fK:=⟨by simp[fK,Tm.fits,Tm.kz],by rw[rX];exact⟨rfl,fun k hk=>by cases hk⟩⟩
structure dQ (s:a7) (env:List Tm):Prop where
 len:env.length<=20
 all:∀t∈env,ES s t
structure c0 (s:a7) (n:Nat) (e:Tm):Prop where
 fits:e.fits
 node:eD s e=true
 vars:∀v,sc v e=true->0<=v/\v<n
theorem c0.node1 {s:a7}{n:Nat}{e:Tm}(h:c0 s n e):bz s e=true:=by
 have:=h.node;rw[dF,Bool.and_eq_true]at this;exact this.1
theorem ua{v op n:Int}:∀ {l:List Tm} {i j:Nat} {k:Tm},l[i]? =some k->sc v k=true-> ¬ (op=8/\i+j=1/\n=v)->iq v op n l j=true
 |[],_,_,_,h,_,_=>by simp at h
 |x::l,0,j,k,h,hv,hn=>by
  simp at h;subst h
  simp only[iq,Bool.or_eq_true,Bool.and_eq_true]
  left
  refine⟨hv, ?_⟩
  cases hb:(op==8&&j==1&&n==v)with
  |false=>rfl
  |true=>simp at hb;exact absurd ⟨hb.1.1,ad,hb.2⟩ hn
 |x::l,i+1,j,k,h,hv,hn=>by
  simp only[iq,Bool.or_eq_true]
  right
  exact ua (i:=i) (j:=j+1) GV hv (by rw[show i+(j+1)=i+1+j by omega];exact hn)
theorem c0.lx {s:a7}{n:Nat}{e k:Tm}(h:c0 s n e)(h1:e.op≠1)(h8:e.op≠8)(hk:k∈e.kids):c0 s n k:=by
 refine⟨((Tm.aP e).1 h.fits).2 k hk, ?_,fun v hv=>h.vars v ?_⟩
 ·have:=h.node;rw[dF,Bool.and_eq_true,List.all_eq_true]at this;exact this.2 k hk
 ·rw[gQ,if_neg h1]
  obtain⟨i,hi⟩:=List.getElem?_of_mem hk
  exact ua hi hv fun e=>h8 e.1
theorem c0.adi {s:a7}{n:Nat}{e k:Tm}(h:c0 s n e)(h8:e.op=8)(hk:e.kids[0]? =some k):c0 s n k:=by
 have Wv:=List.mem_of_getElem? hk
 refine⟨((Tm.aP e).1 h.fits).2 k Wv, ?_,fun v hv=>h.vars v ?_⟩
 ·have:=h.node;rw[dF,Bool.and_eq_true,List.all_eq_true]at this;exact this.2 k Wv
 ·rw[gQ,if_neg (by omega)]
  exact ua hk hv fun e=>absurd e.2.1 ad
theorem c0.adj {s:a7}{n m:Nat}{e k:Tm}(h:c0 s n e)(h8:e.op=8)(hk:e.kids[1]? =some k)(hm:n<=m)(MH:e.n<m):c0 s m k:=by
 have Wv:=List.mem_of_getElem? hk
 have hn:=h.node1
 simp[bz,h8,c6]at hn
 refine⟨((Tm.aP e).1 h.fits).2 k Wv, ?_,fun v hv=> ?_⟩
 ·have:=h.node;rw[dF,Bool.and_eq_true,List.all_eq_true]at this;exact this.2 k Wv
 ·by_cases hc:e.n=v
  ·omega
  ·have:=h.vars v (by
    rw[gQ,if_neg (by omega)]
    exact ua hk hv fun e=>hc e.2.2)
   omega
theorem c0.var {s:a7}{n:Nat}{e:Tm}(h:c0 s n e)(h1:e.op=1):0<=e.n/\e.n<n:=h.vars e.n (by rw[gQ,if_pos h1];simp)
theorem yE(env:List Tm)(n:Int)(v:Tm):(jz env n v).length=max env.length (n.toNat+1):=by
 simp[jz];omega
theorem LK{s:a7}{env:List Tm}{n:Int}{v:Tm}(h:dQ s env)(hn:n<=19)(hv:ES s v):dQ s (jz env n v):=by
 refine⟨by rw[yE];have:=h.len;omega,fun t ht=> ?_⟩
 rcases List.mem_or_eq_of_mem_set ht with h1|h1
 ·rcases List.mem_append.1 h1 with h2|h2
  ·exact h.all t h2
  ·rw[(List.mem_replicate.1 h2).2];exact Aw s
 ·rw[h1];exact hv
theorem CX(r:Rl)(b:List Tm):(qM r b).length=b.length:=by simp[qM]
theorem O0{s:a7}{r:Rl}{b:List Tm}(h:dQ s b):dQ s (qM r b):=by
 refine⟨by rw[CX];exact h.len,fun t ht=> ?_⟩
 simp only[qM,List.mem_mapIdx]at ht
 obtain⟨i,hi,e⟩:=ht
 rw[<- e]
 split
 ·exact Aw s
 ·exact h.all _ (List.getElem_mem hi)
structure oQ (s:a7) (f:Pf):Prop where
 fits:f.fits
 plain:gf s f=true
 size:f.sh.sz<=1000
theorem vU:∀l:List Tm,l.length<=ir l
 |[]=>aj
 |k::l=>by rw[eO,List.length_cons];have:=vU l;have:=Tm.vy k;omega
theorem LL{l:List Tm}{k:Tm}(h:k∈l):k.sz<=ir l:=by
 induction l with
 |nil=>cases h
 |cons x l ih=>
  rw[eO]
  rcases List.mem_cons.1 h with e|e
  ·subst e;omega
  ·have:=ih e;omega
theorem oQ.lx {s:a7}{f k:Pf}(h:oQ s f)(hk:k∈f.kids):oQ s k:=by
 refine⟨((Pf.aP f).1 h.1).2.2.2.2 k hk, ?_, ?_⟩
 ·have:=h.2;rw[jh,Bool.and_eq_true,List.all_eq_true]at this;exact this.2 k hk
 ·have h3:=h.3
  rw[Tm.jM,Pf.mz]at h3
  have:=LL (List.mem_map.2 ⟨k,hk,rfl⟩:k.sh∈f.kids.map Pf.sh)
  omega
theorem oQ.len {s:a7}{f:Pf}(h:oQ s f):f.kids.length<=1000:=by
 have h3:=h.3
 rw[Tm.jM,Pf.mz]at h3
 have:=vU (f.kids.map Pf.sh)
 rw[List.length_map]at this
 omega
theorem oQ.nd {s:a7}{f:Pf}(h:oQ s f):fZ s f=true:=by
 have:=h.2;rw[jh,Bool.and_eq_true]at this;exact this.1
theorem oQ.val {s:a7}{f:Pf}(h:oQ s f):ES s f.val/\f.val.sz<=80/\vF s f.val=true:=by
 have:=h.nd
 simp only[fZ,Bool.and_eq_true]at this
 have h2:=this.1.1
 simp only[vF,Bool.and_eq_true,decide_eq_true_eq,kF]at h2
 exact⟨⟨((Pf.aP f).1 h.1).1,h2.2⟩,ad,this.1.1⟩
theorem LM{s:a7}{l:List Tm}(hf:∀t∈l,t.fits)(h:mQ s l=true):dQ s l:=by
 simp only[mQ,Bool.and_eq_true,decide_eq_true_eq,List.all_eq_true]at h
 refine⟨h.1,fun t ht=>⟨hf t ht, ?_⟩⟩
 have h2:=h.2 t ht
 simp only[vF,Bool.and_eq_true]at h2
 exact h2.2
theorem oQ.env {s:a7}{f:Pf}(h:oQ s f):dQ s f.binds:=by
 have:=h.nd
 simp only[fZ,Bool.and_eq_true]at this
 exact LM ((Pf.aP f).1 h.1).2.2.1 this.1.2
structure kJ (p:Pg):Prop where
 fin:p.Fin
 is:eE p=true
theorem kJ.bG {p:Pg}(h:kJ p){r:Rl}(hr:r∈p.rules):fY p.sig r=true:=by
 have:=h.is;simp only[eE,Bool.and_eq_true,List.all_eq_true]at this;exact this.2 r hr
structure sq (s:a7) (r:Rl):Prop where
 adx:0<=r.vars
 ady:r.vars<=20
 fn0:0<=r.fn
 fn:∃f,s.bX[r.fn.toNat]? =some f/\(r.bn.length:Int)=f.args
 rhs:dP s r.rhs=true
 small:dz r.vars r.rhs=true
 bn:∀p∈r.bn,dP s p=true/\gR p=true/\(gu p []).2=true/\dz r.vars p=true
 apart:pG r.rhs (bH (.mk 0 0 r.bn))=true
 lin:CQ r.bn=true
theorem kJ.rl {p:Pg}(h:kJ p){r:Rl}(hr:r∈p.rules):sq p.sig r:=by
 have:=h.bG hr
 simp only[fY,kI,Bool.and_eq_true,decide_eq_true_eq,List.all_eq_true]at this
 obtain⟨⟨⟨⟨⟨⟨a,b⟩,c⟩,d⟩,e⟩,f⟩,⟨g,h1⟩,h2⟩:=this
 refine⟨c,d,a, ?_,e,h1,fun p hp=> ?_,h2,g⟩
 ·cases hf:p.sig.bX[r.fn.toNat]? with
  |none=>rw[hf]at b;cases b
  |some f=>rw[hf]at b;exact⟨f,rfl,by simpa using b⟩
 ·obtain⟨⟨x,y,z⟩,w⟩:=f p hp
  exact⟨x,z,y,w⟩
theorem ji{s:a7}{t:Tm}(h:dP s t=true):eD s t=true:=by simp only[dP,Bool.and_eq_true]at h;exact h.2
theorem ET{s:a7}{n:Int}{t:Tm}(h:eD s t=true)(hs:dz n t=true):∀v,sc v t=true->0<=v/\v<n:=by
 have key:∀t:Tm,eD s t=true->dz n t=true->∀v,sc v t=true->0<=v/\v<n:=by
  refine Tm.ck fun t ih h hs v hv=> ?_
  rw[dF,Bool.and_eq_true,List.all_eq_true]at h
  rw[pE,Bool.and_eq_true]at hs
  rw[gQ]at hv
  by_cases h1:t.op=1
  ·rw[if_pos h1]at hv
   have e:t.n=v:=by simpa using hv
   have hn:=h.1
   simp[bz,h1,c6]at hn
   have:=hs.2
   simp[h1]at this
   omega
  ·rw[if_neg h1]at hv
   have:∀ (l:List Tm) (i:Nat),(∀k∈l,k∈t.kids)->gr n l=true->iq v t.op t.n l i=true->0<=v/\v<n:=by
    intro l
    induction l with
    |nil=>intro i _ _ h;simp[iq]at h
    |cons k l oN=>
     intro i hk hs hv
     simp only[gr,Bool.and_eq_true]at hs
     simp only[iq,Bool.or_eq_true,Bool.and_eq_true]at hv
     rcases hv with hv|hv
     ·exact ih k (hk k aj) (h.2 k (hk k aj)) hs.1 v hv.1
     ·exact oN _ (fun x hx=>hk x lY) hs.2 hv
   exact this t.kids 0 (fun _ h=>h) hs.1 hv
 exact key t h hs
theorem sq.Ww {s:a7}{r:Rl}(h:sq s r)(hf:r.rhs.fits){n:Nat}(hn:(n:Int)=r.vars):c0 s n r.rhs:=
 ⟨hf,ji h.rhs,fun v hv=>by have:=ET (ji h.rhs) h.small v hv;omega⟩
end Go.Proofs.YtonbelhklnmjnaaGreat
