/-
  A PART OF THE PROOF. Conditions: none.
-/
import Derived.Test.YtealblliddhgiaaGreatCp14
set_option linter.unusedSimpArgs false
set_option linter.unusedVariables false
namespace Go.Proofs.YtealblliddhgiaaGreat
theorem yP{σ:Type}(l:List Tm)(hl:l.length<=9223372036854775807)(g:Nat)(dE:List V)(base:Nat)(H:σ->Nat->ae)(step:σ->Tm->σ×Bool)(hc:∀r∈V.ag dE,r<base)(ok:σ->Prop)(bz:∀x∈l,∀s,ok s->(step s x).2=true->ok (step s x).1)
 (h:∀x∈l,∀s,ok s->xc Tryz.prog g (.d x.d::dE) base (H s) (H (step s x).1) (.d (.bool (step s x).2))) (s:σ) (qq:ok s):
 xc Tryz.prog 87 [.d (.sl (l.map Tm.d)), .func (.func g) [] dE] base (H s) (H (aO step s l).1) (.d (.bool (aO step s l).2)):=by
 intro o nx hI K X hK
 have vA:∀r∈V.ag dE,r<nx:=fun r hr=>Nat.lt_of_lt_of_le (hc r hr) hI.le
 refine eN.bt mix Qf (by simp) ?_
 rw[Vp]
 simp+contextual only[go_sem]
 refine aX (fun i:Nat×σ×(Nat->ae)×Nat=>⟨bB [.ab, .func (.func g) [] dE, .ab, .ab, .ab, .ab, .ab, .d (.sl (l.map Tm.d)), .d (.i l.length), .d (.i i.1)],i.2.2.1,i.2.2.2⟩)
  (fun i=>i.1<=l.length/\gA base (H i.2.1) i.2.2.1 i.2.2.2/\nx<=i.2.2.2/\(∀id,base<=id->id<nx->i.2.2.1 id=o id)/\aO step s l=aO step i.2.1 (l.drop i.1)/\ok i.2.1) (fun i=>l.length - i.1) (0,s,o,nx)
  ⟨Nat.zero_le _,hI,Nat.le_refl _,fun _ _ _=>rfl,rfl,qq⟩ ?_ ?_
 ·dsimp only
  refine bY.cT _ (Nat.le_refl _) (by omega) hI.cY (fun _ _=>rfl) ?_
  (repeat(first|exact aw|refine ao ?_|refine ah rfl ?_|refine ah (aT (aS (by omega))) ?_|refine aF rfl (by simp[V.refs,V.ag]<;>first|omega|assumption) ?_))
 rintro⟨k,s',o',nx'⟩ ⟨hk,B8,hn,dU,hf,sU⟩
 simp only at hk B8 hn dU hf sU
 simp+contextual only[go_sem]
 refine ay (fun h1=> ?_) (fun h1=> ?_)
 ·simp at h1
  obtain⟨x,hx⟩:=a7 h1
  have kU:=List.mem_of_getElem? hx
  have hd:l.drop k=x::l.drop (k+1):=by
   rw[List.drop_eq_getElem_cons h1]
   rw[List.getElem?_eq_getElem h1]at hx;injection hx with hx;rw[hx]
  simp+contextual only[go_sem,hx,Nat.add_assoc,Nat.left_eq_add,Nat.add_eq_left,Nat.add_left_cancel_iff]
  have Sj:=B8.le
  refine mD (h x kU s' sU _ _ (?_:gA base (H s') _ (nx'+7)) _ _ fun o2 n2 m1 m2 m3=> ?_)
  ·exact(B8.aq (i:=nx'+3) (m:=nx'+7) (by omega) (by omega) (by omega) rfl).aq (by omega) (by omega) (by omega) rfl
  have yQ:∀id,base<=id->id<nx->o2 id=o id:=fun id h2 h3=>by
   rw[m3 id h2 (by omega),ad _ _ _ _ (by omega),ad _ _ _ _ (by omega),dU id h2 h3]
  simp+contextual only[go_sem]
  refine ay (fun h2=> ?_) (fun h2=> ?_)
  ·simp+contextual only[go_sem]
   simp at h2
   have:aO step s l=((step s' x).1,false):=by rw[hf,hd,aO,if_neg (by rw[h2];exact Bool.false_ne_true)]
   rw[this]at hK
   exact hK _ _ (by omega) (m2.mono (by omega)) yQ
  ·simp+contextual only[go_sem]
   simp at h2
   have:aO step s l=aO step (step s' x).1 (l.drop (k+1)):=by rw[hf,hd,aO,if_pos h2]
   refine az (k+1,(step s' x).1,o2,n2) ⟨h1,m2,by dsimp only;omega,yQ,this,bz x kU s' sU h2⟩ (by dsimp only;omega) ?_
   dsimp only
   have J8:∀r∈V.ag dE,r<n2:=fun r hr=>by have:=vA r hr;omega
   refine bY.cT _ (by omega) (by omega) m2.cY (fun _ _=>rfl) ?_
   (repeat(first|exact aw|refine ao ?_|refine ah rfl ?_|refine ah (aT (aS (by omega))) ?_|refine aF rfl (by simp[V.refs,V.ag]<;>first|omega|assumption) ?_))
 ·simp+contextual only[go_sem]
  simp at h1
  rw[List.drop_eq_nil_of_le h1]at hf
  simp only[aO]at hf
  rw[hf]at hK
  exact hK _ _ (by omega) (B8.mono (by omega)) dU
theorem wJ{α σ:Type}(step:σ->α->σ×Bool)(a b:List α):∀s,aO step s (a++b)=if(aO step s a).2=true then aO step (aO step s a).1 b else((aO step s a).1,false):=by
 induction a with
 |nil=>intro s;simp[aO]
 |cons x a ih=>
  intro s
  simp only[List.cons_append,aO]
  split
  ·exact ih _
  ·rename_i h;simp
theorem AX{α β σ:Type}(step:σ->β->σ×Bool)(f:α->List β)(l:List α):∀s,aO step s (l.flatMap f)=aO (fun s x=>aO step s (f x)) s l:=by
 induction l with
 |nil=>intro s;rfl
 |cons x l ih=>intro s;simp only[List.flatMap_cons,wJ,aO,ih]
theorem yR{α σ:Type}{step:σ->α->σ×Bool}{ok:σ->Prop}:∀ (l:List α),(∀x∈l,∀s,ok s->(step s x).2=true->ok (step s x).1)->∀s,ok s->(aO step s l).2=true->ok (aO step s l).1
 |[],_,s,h,_=>h
 |x::l,bz,s,h,h2=>by
  simp only[aO]at h2|-
  split at h2
  ·rename_i hb
   rw[if_pos hb]
   exact yR l (fun y hy=>bz y (by simp[hy])) _ (bz x (by simp) s h hb) h2
  ·cases h2
def XG(P:Program)(Ev:Nat)(args:List V)(base:Nat)(h h2:Nat->ae)(v:V):Prop:=
 ∀o nx,gA base h o nx->∀K X,Rw base h2 v o nx K->dM P Ev args o nx K X
section
variable {σ:Type}(base Ev:Nat)(H:σ->Nat->ae)(step:σ->Tm×Int->σ×Bool)(ok:σ->Prop)
theorem Im:∀t:Tm,t.fits->∀d:Int,0<=d->d+t.b7<=1000000->(∀x∈pre t d,∀s,ok s->(step s x).2=true->ok (step s x).1)->(∀x∈pre t d,∀s,ok s->XG Tryz.prog Ev [.d x.1.d, .d (.i x.2)] base (H s) (H (step s x).1) (.d (.bool (step s x).2)))->Ev<base->
 ∀ (c:Nat) (o0:Nat->ae) (yb vb:Nat),base<=c->base<=yb->yb<c->base<=vb->vb<c->o0 yb= .row [.ko Ev]->o0 vb= .row [.func (.func 114) [] [.ptr yb 0, .ptr vb 0]]->
 ∀s,ok s->xc Tryz.prog 114 [.d t.d, .d (.i d), .ptr yb 0, .ptr vb 0] c (ext base (H s) o0) (ext base (H (aO step s (pre t d)).1) o0) (.d (.bool (aO step s (pre t d)).2)):=by
 refine Tm.jC fun t ih hf d Z3 hd bz hR Ml c o0 yb vb Z4 XH hy XI hv oy ov s qq=> ?_
 have rP:=(Tm.dy _).1 hf
 intro o nx hI K X hK
 have hle:=hI.le
 have XJ:o yb= .row [.ko Ev]:=by rw[hI.eq yb hy];unfold ext;rw[if_neg (by omega),oy]
 have XK:o vb= .row [.func (.func 114) [] [.ptr yb 0, .ptr vb 0]]:=by rw[hI.eq vb hv];unfold ext;rw[if_neg (by omega),ov]
 have y1:yb≠nx:=by omega
 have y2:∀k,yb≠nx+k:=fun k=>by omega
 have y3:vb≠nx:=by omega
 have y4:∀k,vb≠nx+k:=fun k=>by omega
 refine eN.bt mix JW (by simp) ?_
 rw[L1]
 simp+contextual only[go_sem,XJ,XK,y1,y2,y3,y4,Nat.add_assoc,Nat.left_eq_add,Nat.add_eq_left,Nat.add_left_cancel_iff]
 have Gd:=lA t d
 have ef:∀k∈t.kids,∀x∈pre k (d+1),x∈pre t d:=fun k hk x hx=>by
  rw[Gd];exact List.mem_cons_of_mem _ (List.mem_flatMap.2 ⟨k,hk,hx⟩)
 have hb:∀id,id<base->o id=H s id:=fun id aj=>by rw[hI.eq id (by omega)];unfold ext;rw[if_pos aj]
 have Zm:gA base (H s) o nx:=⟨hI.cY,by omega,hb⟩
 refine yI (hR (t,d) (by rw[Gd];simp) s qq _ _ ((Zm.aq (i:=nx) (m:=nx+6) (by omega) (by omega) (by omega) rfl).aq (i:=nx+1) (by omega) (by omega) (by omega) rfl) _ _ fun o2 n2 m1 m2 m3=> ?_)
 have k0:o2 nx= .row t.row:=by rw[m3 nx (by omega) (by omega),ad _ _ _ _ (by omega),aa]
 have k1:o2 (nx+1)= .row [.d (.i d)]:=by rw[m3 (nx+1) (by omega) (by omega),aa]
 have hold:∀id,base<=id->id<nx->o2 id=o id:=fun id h1 h2=>by rw[m3 id h1 (by omega),ad _ _ _ _ (by omega),ad _ _ _ _ (by omega)]
 have uH:∀id,base<=id->id<c->o id=o0 id:=fun id h1 h2=>by rw[hI.eq id h2];unfold ext;rw[if_neg (by omega)]
 cases Ry:(step s (t,d)).2 with
 |false=>
  simp+contextual only[go_sem,Ry]
  have SG:aO step s (pre t d)=((step s (t,d)).1,false):=by rw[Gd,aO,if_neg (by rw[Ry];exact Bool.false_ne_true)]
  rw[SG]at hK
  refine hK _ _ (by omega) ⟨m2.cY.mono (by omega),by omega,fun id aj=> ?_⟩ (fun id h1 h2=>hold id (by omega) h2)
  unfold ext
  split
  ·exact m2.eq id (by assumption)
  ·rw[hold id (by omega) (by omega),uH id (by omega) aj]
 |true=>
  have SG:aO step s (pre t d)=aO (fun s k=>aO step s (pre k (d+1))) (step s (t,d)).1 t.kids:=by rw[Gd,aO,if_pos Ry,AX]
  simp+contextual only[go_sem,Ry,k0,k1]
  have q0:o2 yb= .row [.ko Ev]:=by rw[hold yb XH (by omega),XJ]
  have q1:o2 vb= .row [.func (.func 114) [] [.ptr yb 0, .ptr vb 0]]:=by rw[hold vb XI (by omega),XK]
  have m0:=m2.le
  refine cQ (yP t.kids rP.1 115 [.ptr vb 0, .ptr (nx+1) 0] n2 (fun s=>ext base (H s) o2) (fun s k=>aO step s (pre k (d+1))) ?_ ok ?_ ?_ (step s (t,d)).1 (bz (t,d) (by rw[Gd];simp) s qq Ry) _ _ ?_ _ _ ?_)
  ·simp[V.ag,V.refs];omega
  ·exact fun k hk s' h1 h2=>yR _ (fun x hx=>bz x (ef k hk x hx)) s' h1 h2
  ·intro k hk s' iz o3 n3 SH K3 X3 Zn
   have l3:=SH.le
   have r0:o3 vb= .row [.func (.func 114) [] [.ptr yb 0, .ptr vb 0]]:=by rw[SH.eq vb (by omega)];unfold ext;rw[if_neg (by omega),q1]
   have r1:o3 (nx+1)= .row [.d (.i d)]:=by rw[SH.eq (nx+1) (by omega)];unfold ext;rw[if_neg (by omega),k1]
   have y5:vb≠n3:=by omega
   have y6:∀k,vb≠n3+k:=fun k=>by omega
   have y7:nx+1≠n3:=by omega
   have y8:∀k,nx+1≠n3+k:=fun k=>by omega
   have hh:=Tm.dg hk
   refine eN.bt mix JX (by simp) ?_
   rw[L2]
   simp+contextual only[go_sem,r0,r1,y5,y6,y7,y8]
   rw[wrap64 (n:=d+1) (by omega) (by omega)]
   refine cQ (ih k hk (rP.2 k hk) (d+1) (by omega) (by omega) (fun x hx=>bz x (ef k hk x hx)) (fun x hx=>hR x (ef k hk x hx)) Ml n2 o2 yb vb (by omega) XH (by omega) XI (by omega) q0 q1 s' iz _ _ (SH.aq (i:=n3) (m:=n3+6) (by omega) (by omega) (by omega) rfl) _ _ fun o4 n4 p1 p2 p3=> ?_)
   simp+contextual only[go_sem]
   refine Zn _ _ (by omega) (p2.mono (by omega)) (fun id h1 h2=> ?_)
   rw[p3 id h1 (by omega),ad _ _ _ _ (by omega)]
  ·exact(m2.mono (by omega)).ext (by omega) (by omega)
  ·intro o5 n5 p1 p2 p3
   simp+contextual only[go_sem]
   rw[<- SG]
   refine hK _ _ (by omega) ⟨p2.cY.mono (by omega),by omega,fun id aj=> ?_⟩ (fun id h1 h2=> ?_)
   ·rw[p2.eq id (by omega), <- SG]
    unfold ext
    split
    ·rfl
    ·rw[hold id (by omega) (by omega),uH id (by omega) aj]
   ·rw[p2.eq id (by omega)]
    unfold ext
    rw[if_neg (by omega),hold id (by omega) h2]
theorem Ge(t:Tm)(hf:t.fits)(hd:t.b7<=900000)(bz:∀x∈pre t 1,∀s,ok s->(step s x).2=true->ok (step s x).1)(hR:∀x∈pre t 1,∀s,ok s->XG Tryz.prog Ev [.d x.1.d, .d (.i x.2)] base (H s) (H (step s x).1) (.d (.bool (step s x).2)))(Ml:Ev<base)(tb:Nat)(Mm:tb<base)(s:σ)(qq:ok s)(a8:H s tb= .row t.row):
 xc Tryz.prog 113 [.ko Ev, .ptr tb 0] base (H s) (H (aO step s (pre t 1)).1) (.bW []):=by
 intro o nx hI K X hK
 have hle:=hI.le
 have ot:o tb= .row t.row:=by rw[hI.eq tb Mm,a8]
 have y1:tb≠nx:=by omega
 have y2:∀k,tb≠nx+k:=fun k=>by omega
 refine eN.bt mix JV (by simp) ?_
 rw[L0]
 simp+contextual only[go_sem,ot,y1,y2,Nat.add_assoc,Nat.left_eq_add,Nat.add_eq_left,Nat.add_left_cancel_iff]
 have Zo:gA base (H s) (aq (aq (aq o nx (.row [.ko Ev])) (nx+1) (.row [.d .aV])) (nx+1) (.row [.func (.func 114) [] [.ptr nx 0, .ptr (nx+1) 0]])) (nx+6):=by
  refine((hI.aq (i:=nx) (m:=nx+6) (by omega) (by omega) (by omega) ?_).aq (i:=nx+1) (m:=nx+6) (by omega) (by omega) (by omega) rfl).aq (i:=nx+1) (by omega) (by omega) (by omega) ?_
  ·simp[ae.refs,V.ag,V.refs];omega
  ·simp[ae.refs,V.ag,V.refs]
 refine cQ (Im base Ev H step ok t hf 1 (by omega) (by omega) bz hR Ml (nx+6) _ nx (nx+1) (by omega) hle (by omega) (by omega) (by omega) ?_ ?_ s qq _ _ (Zo.ext (Nat.le_refl _) (by omega)) _ _ ?_)
 ·(repeat(first|rfl|rw[aa]|rw[ad _ _ _ _ (by omega)]))
 ·(repeat(first|rfl|rw[aa]|rw[ad _ _ _ _ (by omega)]))
 intro o2 n2 m1 m2 m3
 simp+contextual only[go_sem]
 refine hK _ _ (by omega) ⟨m2.cY,by omega,fun id aj=> ?_⟩ (fun id h1 h2=> ?_)
 ·rw[m2.eq id (by omega)];unfold ext;rw[if_pos aj]
 ·rw[m2.eq id (by omega)];unfold ext;rw[if_neg (by omega)]
  (repeat(first|rfl|rw[aa]|rw[ad _ _ _ _ (by omega)]))
end
theorem yS(t:Tm)(o:Nat->ae)(nx:Nat)(K X:V->(Nat->ae)->Nat->Prop)(h:K (.func (.func 113) [] [.ptr nx 0]) (aq o nx (.row t.row)) (nx+4)):eN Tryz.prog 81 [.d t.d] o nx K X:=by
 refine eN.bt mix Qd (by simp) ?_
 rw[Vj]
 simp+contextual only[go_sem]
 exact h
end Go.Proofs.YtealblliddhgiaaGreat
namespace Go.Proofs.YtealblliddhgiaaGreat
def Rz:Option kn->fq
 |none=> .normal
 |some .ret=> .ret
 |some (.exit j)=> .exit j
def uX{σ:Type}(J:σ->Option kn)(step:σ->Tm×Int->σ)(s:σ)(x:Tm×Int):σ×Bool:=(step s x,(J (step s x)).isNone)
theorem B9{σ:Type}(J:σ->Option kn)(step:σ->Tm×Int->σ):∀ (l:List (Tm×Int)) (s:σ),J s=none->(aO (uX J step) s l).2=(J (aO (uX J step) s l).1).isNone
 |[],s,h=>by simp[aO,h]
 |x::l,s,h=>by
  simp only[aO]
  split
  ·rename_i hb
   exact B9 J step l _ (by simpa[uX]using hb)
  ·rename_i hb
   cases hj:J (step s x)with
   |none=>exact absurd (by simp[uX,hj]) hb
   |some j=>simp[uX,hj]
theorem qE{σ:Type}(t:Tm)(hf:t.fits)(hd:t.b7<=900000){n:Nat}{ps:List Nat}{lS gY:IC}{Q:fq->S->Prop}{e:Nat->V}{o:Nat->ae}{nx tb:Nat}(env:List V)(he:ny e env 0)
 (HY:ps.all (fun t=>decide (t<n))=true) (hl:ps.length=2) (hg:Good o nx) (hrefs:∀r∈V.ag env,r<nx) (ht:o tb= .row t.row)
 (G:σ->Nat->ae) (J:σ->Option kn) (step:σ->Tm×Int->σ) (ok:σ->Prop) (s0:σ) (qq:ok s0) (XL:J s0=none) (h0:∀id,id<nx->o id=G s0 id) (bz:∀x∈pre t 1,∀s,ok s->J s=none->J (step s x)=none->ok (step s x))
 (Af:∀L,jw Tryz.prog n env ps lS gY L->(∀st pd m,nx<=m->(L st pd).refs.all (fun r=>decide (r<m))=true)->∀x∈pre t 1,∀s,ok s->J s=none->∀o3 n3,gA nx (G s) o3 n3->nx<n3->o3 nx=L .ready none->∀K X,
  (∀e' o' n' st pd,n3<=n'->gA nx (G (step s x)) o' n'->o' nx=L st pd->(∀id,nx<id->id<n3->o' id=o3 id)->lB nx K X (Rz (J (step s x))) ⟨e',o',n'⟩)->
  ka Tryz.prog n n3 true lS (sS Tryz.prog n n3 nx gY K X) ⟨sr (bB env) ps [.d x.1.d, .d (.i x.2)],o3,n3⟩)
 (nR:∀o' n',gA nx (G (aO (uX J step) s0 (pre t 1)).1) o' n'->vN Q (J (aO (uX J step) s0 (pre t 1)).1) ⟨e,o',n'⟩):
 AE Tryz.prog n false ps lS gY Q ⟨e,o,nx⟩ (.func (.func 113) [] [.ptr tb 0]):=by
 refine Mg env he (fun L hL=> ?_)
 have Mm:tb<nx:=hg.lt (by rw[ht];exact ae.noConfusion)
 let H:σ->Nat->ae:=fun s id=>if id<nx then G s id else if id=nx then(match J s with|none=>L .ready none|some j=>L .done (some j))else .no
 have KI:∀s id,id<nx->H s id=G s id:=fun s id h=>if_pos h
 have SI:∀s,J s=none->H s nx=L .ready none:=fun s h=>by show(if nx<nx then _ else _)=_;rw[if_neg (by omega),if_pos rfl,h]
 have VD:∀s j,J s=some j->H s nx=L .done (some j):=fun s j h=>by show(if nx<nx then _ else _)=_;rw[if_neg (by omega),if_pos rfl,h]
 have dR:∀st pd m,nx<=m->(L st pd).refs.all (fun r=>decide (r<m))=true:=fun st pd m hm=>by
  rw[hL.refs,List.all_eq_true]
  intro r hr;have:=hrefs r hr;exact decide_eq_true (by omega)
 refine Ge (nx+1) nx H (uX J step) (fun s=>ok s/\J s=none) t hf hd (fun x hx s h1 h2=> ?_) (fun x hx s h1=> ?_) (by omega) tb (by omega) s0 ⟨qq,XL⟩ (by rw[KI _ _ Mm, <- h0 _ Mm,ht]) _ _ ⟨?_,Nat.le_refl _,fun id aj=> ?_⟩ _ _ ?_
 ·have hj:J (step s x)=none:=by simpa[uX]using h2
  exact⟨bz x hx s h1.1 h1.2 hj,hj⟩
 ·intro o3 n3 hI K X hK
  have hle:=hI.le
  have SJ:o3 nx=L .ready none:=by rw[hI.eq nx (by omega),SI s h1.2]
  refine F9 hL mix SJ (by omega) HY (by simp[hl]) ?_
  refine Af L hL dR x hx s h1.1 h1.2 o3 n3 ⟨hI.cY,by omega,fun id aj=>by rw[hI.eq id (by omega),KI _ _ aj]⟩ (by omega) SJ K X (fun e' o' n' st pd k1 k2 k3 k4=> ?_)
  have key:∀st' pd' b,(J (step s x)).isNone=b->H (step s x) nx=L st' pd'->K (.d (.bool b)) (aq o' nx (L st' pd')) n':=fun st' pd' b hb hh=>by
   subst hb
   refine hK _ _ k1 ⟨k2.cY.aq (by omega) (dR _ _ _ (by omega)),by omega,fun id aj=> ?_⟩ (fun id g1 g2=> ?_)
   ·by_cases Gf:id=nx
    ·subst Gf;rw[aa];exact hh.symm
    ·rw[ad _ _ _ _ Gf]
     show o' id=H (step s x) id
     rw[KI _ _ (by omega)];exact k2.eq id (by omega)
   ·rw[ad _ _ _ _ (by omega)];exact k4 id (by omega) g2
  cases hj:J (step s x)with
  |none=>exact Ds hL k3 (key _ _ _ (by rw[hj];rfl) (SI _ hj))
  |some j=>
   cases j with
   |ret=>exact AU hL k3 (key _ _ _ (by rw[hj];rfl) (VD _ _ hj))
   |exit j=>exact yK hL k3 (key _ _ _ (by rw[hj];rfl) (VD _ _ hj))
 ·exact(hg.mono (by omega)).aq (by omega) (dR _ _ _ (by omega))
 ·by_cases Gf:id=nx
  ·subst Gf;rw[aa,SI _ XL]
  ·rw[ad _ _ _ _ Gf,KI _ _ (by omega)];exact h0 id (by omega)
 ·intro o' n' k1 k2 k3
  have hle:=k2.le
  generalize Z5:(aO (uX J step) s0 (pre t 1)).1=sf at*
  have kk:∀st pd,gA nx (G sf) (aq o' nx (L st pd)) n':=fun st pd=>⟨k2.cY.aq (by omega) (dR _ _ _ (by omega)),by omega,fun id aj=>by rw[ad _ _ _ _ (by omega),k2.eq id (by omega),KI _ _ aj]⟩
  cases hj:J sf with
  |none=>
   refine⟨.ready,none,by rw[k2.eq nx (by omega),SI _ hj],(fun h=>by cases h), ?_⟩
   have:=nR _ _ (kk .exhausted none)
   rwa [hj]at this
  |some j=>
   refine⟨.done,some j,by rw[k2.eq nx (by omega),VD _ _ hj],(fun h=>by cases h), ?_⟩
   have:=nR _ _ (kk .exhausted (some j))
   rwa [hj]at this
end Go.Proofs.YtealblliddhgiaaGreat
namespace Go.Proofs.YtealblliddhgiaaGreat
theorem eU(n low high:Int):cq Tryz.prog 79 [.i n, .i low, .i high] (.ret [.bool (fg n low high)]):=by
 refine cq.bt mix Qb (by simp) ?_
 rw[Vh]
 simp+contextual only[go_sem]
 rfl
theorem AY(s:bP)(t:Tm)(h:t.op=1):cq Tryz.prog 118 [s.d,t.d] (.ret [.bool (bC s t)]):=by
 have hn:bC s t=(fg t.n 0 19&&(t.kids.length:Int)==0):=by simp[bC,h,Bool.and_comm]
 refine cq.bt mix J0 (by simp) ?_
 rw[L5]
 simp+contextual only[go_sem]
 refine aM (eU _ _ _) rfl ?_
 simp+contextual only[go_sem]
 rw[hn]
theorem Dw(s:bP)(t:Tm)(h:t.op=2):cq Tryz.prog 119 [s.d,t.d] (.ret [.bool (bC s t)]):=by
 have hn:bC s t=(fg t.n (-1000000) 1000000&&(t.kids.length:Int)==0):=by simp[bC,h,Bool.and_comm]
 refine cq.bt mix J1 (by simp) ?_
 rw[L6]
 simp+contextual only[go_sem]
 refine aM (eU _ _ _) rfl ?_
 simp+contextual only[go_sem]
 rw[hn]
theorem RA(s:bP)(t:Tm)(h:t.op=8):cq Tryz.prog 123 [s.d,t.d] (.ret [.bool (bC s t)]):=by
 have hn:bC s t=(fg t.n 0 19&&(t.kids.length:Int)==2):=by simp[bC,h,Bool.and_comm]
 refine cq.bt mix J5 (by simp) ?_
 rw[Ma]
 simp+contextual only[go_sem]
 refine aM (eU _ _ _) rfl ?_
 simp+contextual only[go_sem]
 rw[hn]
theorem Mn(s:bP)(t:Tm)(h:t.op=6\/t.op=7\/t.op=9\/t.op=10\/t.op=11\/t.op=12\/t.op=13\/t.op=14\/t.op=15):cq Tryz.prog 124 [s.d,t.d] (.ret [.bool (bC s t)]):=by
 have hn:bC s t=(t.n==0&&(t.kids.length:Int)==2):=by
  rcases h with h|h|h|h|h|h|h|h|h<;>simp[bC,h,fg,Bool.and_comm]
 refine cq.bt mix J6 (by simp) ?_
 rw[Mb]
 simp+contextual only[go_sem]
 rw[hn]
theorem RB(s:bP)(t:Tm)(hs:s.Fits)(h:t.op=3):cq Tryz.prog 120 [s.d,t.d] (.ret [.bool (bC s t)]):=by
 have hn:bC s t=(fg t.n 0 (s.cons.length - 1)&&(t.kids.length:Int)==js s.cons t.n):=by simp[bC,h]
 refine cq.bt mix J2 (by simp) ?_
 rw[L7]
 simp+contextual only[go_sem]
 rw[wrap64 (by have:=hs.lc;omega) (by have:=hs.lc;omega)]
 refine cm (eU _ _ _) rfl ?_
 cases hI:fg t.n 0 (s.cons.length - 1)with
 |false=>
  simp+contextual only[go_sem,hI]
  refine aK (bw rfl) ?_
  simp+contextual only[go_sem]
  rw[hn,hI];rfl
 |true=>
  obtain⟨h0,x,hx⟩:=mY hI
  simp+contextual only[go_sem,hI,hx,h0]
  refine aK (bw rfl) ?_
  simp+contextual only[go_sem]
  rw[hn,hI,gV hx];rfl
theorem RC(s:bP)(t:Tm)(hs:s.Fits)(h:t.op=4):cq Tryz.prog 121 [s.d,t.d] (.ret [.bool (bC s t)]):=by
 have hn:bC s t=(fg t.n 0 (s.dN.length - 1)&&(t.kids.length:Int)==js s.dN t.n):=by simp[bC,h]
 refine cq.bt mix J3 (by simp) ?_
 rw[L8]
 simp+contextual only[go_sem]
 rw[wrap64 (by have:=hs.lf;omega) (by have:=hs.lf;omega)]
 refine cm (eU _ _ _) rfl ?_
 cases hI:fg t.n 0 (s.dN.length - 1)with
 |false=>
  simp+contextual only[go_sem,hI]
  refine aK (bw rfl) ?_
  simp+contextual only[go_sem]
  rw[hn,hI];rfl
 |true=>
  obtain⟨h0,x,hx⟩:=mY hI
  simp+contextual only[go_sem,hI,hx,h0]
  refine aK (bw rfl) ?_
  simp+contextual only[go_sem]
  rw[hn,hI,gV hx];rfl
theorem Mo(s:bP)(t:Tm)(hs:s.Fits)(h:t.op=5):cq Tryz.prog 122 [s.d,t.d] (.ret [.bool (bC s t)]):=by
 have hn:bC s t=(fg t.n 0 (s.dN.length - 1)&&decide ((t.kids.length:Int)<js s.dN t.n)):=by simp[bC,h]
 refine cq.bt mix J4 (by simp) ?_
 rw[L9]
 simp+contextual only[go_sem]
 rw[wrap64 (by have:=hs.lf;omega) (by have:=hs.lf;omega)]
 refine cm (eU _ _ _) rfl ?_
 cases hI:fg t.n 0 (s.dN.length - 1)with
 |false=>
  simp+contextual only[go_sem,hI]
  refine aK (bw rfl) ?_
  simp+contextual only[go_sem]
  rw[hn,hI];rfl
 |true=>
  obtain⟨h0,x,hx⟩:=mY hI
  simp+contextual only[go_sem,hI,hx,h0]
  refine aK (bw rfl) ?_
  simp+contextual only[go_sem]
  rw[hn,hI,gV hx];rfl
@[reducible] def rf (n:Nat):V:= .func (.func n) [] []
@[reducible] def VE:List V:=[.d .aV,rf 118,rf 119,rf 120,rf 121,rf 122, .d .aV, .d .aV,rf 123, .d .aV, .d .aV, .d .aV, .d .aV, .d .aV, .d .aV, .d .aV]
@[reducible] def AZ:List V:=[.d .aV,rf 118,rf 119,rf 120,rf 121,rf 122,rf 124,rf 124,rf 123,rf 124,rf 124,rf 124,rf 124,rf 124,rf 124,rf 124]
def Ca(k:Nat):List V:=AZ.take k++VE.drop k
theorem funcOf{P:Program}{t:TypeId}(h:(match P.underlying t with|some (.func _ _ _)=>true|_=>false)=true):∃a b c,P.underlying t=some (.func a b c):=by
 split at h
 ·exact⟨_,_,_,by assumption⟩
 ·cases h
@[go_sem] theorem VF (o:Nat->ae) (nF:Bool):CC Tryz.prog o 119 nF (.d .aV) (.d .aV)=some (.d (.bool true)):=by
  obtain⟨a,b,c,h⟩:=funcOf (P:=Tryz.prog) (t:=119) (by kernel_rfl)
  unfold CC;rw[h]
@[go_sem] theorem VG (o:Nat->ae) (nF:Bool) (f:Fn) (x y:List V):CC Tryz.prog o 119 nF (.func f x y) (.d .aV)=some (.d (.bool false)):=by
  obtain⟨a,b,c,h⟩:=funcOf (P:=Tryz.prog) (t:=119) (by kernel_rfl)
  unfold CC;rw[h]
theorem Io(base:Nat)(h:Nat->ae):xc Tryz.prog 92 [] base h h (.agg AZ):=by
 intro o nx hI K X hK
 have hle:=hI.le
 refine eN.bt mix Qk (by simp) ?_
 rw[Vt]
 simp+contextual only[go_sem,Nat.add_assoc,Nat.left_eq_add,Nat.add_eq_left,Nat.add_left_cancel_iff]
 refine aX (fun k:Nat=>⟨bB [.ptr nx 0, .ptr (nx+2) 0, .ab, .ab, .d (.i k)],aq (aq o nx (.row (List.replicate 16 (.d .aV)))) (nx+2) (.row (Ca k)),nx+5⟩)
  (fun k=>k<=16) (fun k=>16 - k) 0 (Nat.zero_le _) ?_ (fun k hk=> ?_)
 ·refine bY.cT _ (by omega) (by omega) ?_ (fun id aj=> ?_) ?_
  ·exact((hI.cY.mono (by omega)).aq (by omega) rfl).aq (by omega) rfl
  ·rw[wH];rfl
  ·(repeat(first|exact aw|refine ao ?_|refine ah rfl ?_|refine ah (aT (aS (by omega))) ?_|refine aF rfl (by simp[V.refs,V.ag]<;>first|omega|assumption) ?_))
 have hg:∀k,k<16->Good (aq (aq o nx (.row (List.replicate 16 (.d .aV)))) (nx+2) (.row (Ca (k+1)))) (nx+5):=fun k hk=>
  ((hI.cY.mono (by omega)).aq (by omega) rfl).aq (by omega) (by
    rcases(by omega:k=0\/k=1\/k=2\/k=3\/k=4\/k=5\/k=6\/k=7\/k=8\/k=9\/k=10\/k=11\/k=12\/k=13\/k=14\/k=15)with rfl|rfl|rfl|rfl|rfl|rfl|rfl|rfl|rfl|rfl|rfl|rfl|rfl|rfl|rfl|rfl<;>rfl)
 by_cases VH:k=16
 ·subst VH
  simp+contextual only[go_sem,Ca,Nat.add_assoc,Nat.left_eq_add,Nat.add_eq_left,Nat.add_left_cancel_iff,List.replicate]
  refine hK _ _ ?_ ⟨?_, ?_,fun id aj=> ?_⟩ (fun id h1 h2=> ?_)
  rotate_left
  ·exact(((hI.cY.mono (by omega)).aq (by omega) rfl).aq (by omega) rfl).aq (by omega) rfl
  ·omega
  ·(repeat(first|rfl|rw[aa]|rw[ad _ _ _ _ (by omega)]))
   exact hI.eq id aj
  ·(repeat(first|rfl|rw[aa]|rw[ad _ _ _ _ (by omega)]))
  ·omega
 ·have XM:=hg k (by omega)
  obtain⟨k1,I7⟩:∃k1,k1=k+1:=⟨_,rfl⟩
  rw[<- I7]at XM
  rcases(by omega:k=0\/k=1\/k=2\/k=3\/k=4\/k=5\/k=6\/k=7\/k=8\/k=9\/k=10\/k=11\/k=12\/k=13\/k=14\/k=15)with rfl|rfl|rfl|rfl|rfl|rfl|rfl|rfl|rfl|rfl|rfl|rfl|rfl|rfl|rfl|rfl
  all_goals
   simp+contextual only[go_sem,Ca,Nat.add_assoc,Nat.left_eq_add,Nat.add_eq_left,Nat.add_left_cancel_iff,List.replicate]
   refine az k1 (by omega) (by omega) (bY.cT _ (by omega) (by omega) XM (fun id aj=> ?_) ?_)
   all_goals subst I7
   ·first|rfl|(rw[wH];rfl)
   ·(repeat(first|exact aw|refine ao ?_|refine ah rfl ?_|refine ah (aT (aS (by omega))) ?_|refine aF rfl (by simp[V.refs,V.ag]<;>first|omega|assumption) ?_))
end Go.Proofs.YtealblliddhgiaaGreat
namespace Go.Proofs.YtealblliddhgiaaGreat
def Gg(n:Int):Nat:=if n=1 then 118 else if n=2 then 119 else if n=3 then 120 else if n=4 then 121 else if n=5 then 122 else if n=8 then 123 else 124
theorem Mp(s:bP)(t:Tm)(hs:s.Fits)(h:fg t.op 1 15=true):cq Tryz.prog (Gg t.op) [s.d,t.d] (.ret [.bool (bC s t)])/\AZ[t.op.toNat]? =some (rf (Gg t.op))/\0<=t.op/\t.op<16:=by
 simp[fg]at h
 rcases(by omega:t.op=1\/t.op=2\/t.op=3\/t.op=4\/t.op=5\/t.op=8\/(t.op=6\/t.op=7\/t.op=9\/t.op=10\/t.op=11\/t.op=12\/t.op=13\/t.op=14\/t.op=15))with h|h|h|h|h|h|h
 ·exact⟨by rw[h];exact AY s t h,by rw[h];rfl,by omega,by omega⟩
 ·exact⟨by rw[h];exact Dw s t h,by rw[h];rfl,by omega,by omega⟩
 ·exact⟨by rw[h];exact RB s t hs h,by rw[h];rfl,by omega,by omega⟩
 ·exact⟨by rw[h];exact RC s t hs h,by rw[h];rfl,by omega,by omega⟩
 ·exact⟨by rw[h];exact Mo s t hs h,by rw[h];rfl,by omega,by omega⟩
 ·exact⟨by rw[h];exact RA s t h,by rw[h];rfl,by omega,by omega⟩
 ·have hp:=Mn s t h
  rcases h with h|h|h|h|h|h|h|h|h<;>exact⟨by rw[h];exact hp,by rw[h];rfl,by omega,by omega⟩
def nh(s:bP)(n:Int)(x:Tm×Int):Bool:=decide (40<n+1)||decide (12<x.2)|| !fg x.1.op 1 15|| !bC s x.1
def gB(s:bP)(n:Int×Bool)(x:Tm×Int):Int×Bool:=(n.1+1, !nh s n.1 x)
def fJ(n:Int×Bool):Option kn:=if n.2=true then none else some .ret
def fG(s:bP)(t:Tm):Bool:=(aO (uX fJ (gB s)) (0,true) (pre t 1)).2
theorem sV(s:bP)(hs:s.Fits)(t:Tm)(hf:t.fits)(hd:t.b7<=900000):cq Tryz.prog 54 [s.d,t.d] (.ret [.bool (fG s t)]):=by
 refine cq.bt mix PY (by simp) ?_
 rw[US]
 simp+contextual only[go_sem]
 refine ff (Io 3 _ _ _ (?_:gA 3 (aq (aq (aq (fun _=> .no) 0 (.row s.row)) 1 (.row t.row)) 2 (.row [.d (.bool false)])) _ 3) _ _ fun o2 n2 m1 m2 m3=> ?_)
 ·exact⟨(by repeat(first|exact hg.mono (by omega)|exact Good.nil|refine Good.aq ?_ (by omega) rfl|refine Good.aq ?_ (by omega) (dR _ _ _ (by omega))|refine Good.aq ?_ (by omega) (by simp[ae.refs,V.ag,V.refs]<;>omega))),Nat.le_refl _,fun _ _=>rfl⟩
 have p0:o2 0= .row s.row:=m2.eq 0 (by omega)
 have p1:o2 1= .row t.row:=m2.eq 1 (by omega)
 have p2:o2 2= .row [.d (.bool false)]:=m2.eq 2 (by omega)
 have e0:0≠n2:=by omega
 have e1:1≠n2:=by omega
 have e2:2≠n2:=by omega
 have e3:∀k,0≠n2+k:=fun k=>by omega
 have e4:∀k,1≠n2+k:=fun k=>by omega
 have e5:∀k,2≠n2+k:=fun k=>by omega
 simp+contextual only[go_sem,p0,p1,p2,e0,e1,e2,e3,e4,e5,Nat.add_assoc,Nat.left_eq_add,Nat.add_eq_left,Nat.add_left_cancel_iff]
 refine ff (yS t _ _ _ _ ?_)
 simp+contextual only[go_sem]
 have Z6:∀n,Good (aq (aq (aq (aq (aq (aq o2 n2 (.row (List.replicate 16 (.d .aV)))) (n2+1) (.row [.d (.i 0)])) n2 (.row AZ)) (n2+1) (.row [.d (.i 0)])) (n2+5) (.row t.row)) (n2+1) (.row [.d (.i n)])) (n2+9):=fun n=>by
  have hg:=m2.cY
  exact(by repeat(first|exact hg.mono (by omega)|exact Good.nil|refine Good.aq ?_ (by omega) rfl|refine Good.aq ?_ (by omega) (dR _ _ _ (by omega))|refine Good.aq ?_ (by omega) (by simp[ae.refs,V.ag,V.refs]<;>omega)))
 refine qE t hf hd [.ab, .ab, .ptr 0 0, .ab, .ptr 2 0, .ptr n2 0, .ptr (n2+1) 0] ?_ (by decide) rfl ?_ (by simp[V.ag,V.refs];omega) (aa _ _ _)
  (fun s=>aq (aq (aq (aq (aq (aq o2 n2 (.row (List.replicate 16 (.d .aV)))) (n2+1) (.row [.d (.i 0)])) n2 (.row AZ)) (n2+1) (.row [.d (.i 0)])) (n2+5) (.row t.row)) (n2+1) (.row [.d (.i s.1)]))
  fJ (gB s) (fun s=>0<=s.1/\s.1<=40) (0,true) ⟨by decide,by decide⟩ rfl ?_ ?_ ?_ ?_
 ·(repeat(first|exact uW|refine sR ?_|refine B4 rfl ?_))
 ·have hg:=m2.cY
  exact(by repeat(first|exact hg.mono (by omega)|exact Good.nil|refine Good.aq ?_ (by omega) rfl|refine Good.aq ?_ (by omega) (dR _ _ _ (by omega))|refine Good.aq ?_ (by omega) (by simp[ae.refs,V.ag,V.refs]<;>omega)))
 ·intro id aj
  by_cases h:id=n2+1
  ·subst h;(repeat(first|rfl|rw[aa]|rw[ad _ _ _ _ (by omega)]))
  ·rw[ad _ _ _ _ h];rfl
 ·intro x hx s' h1 h2 h3
  have:nh s s'.1 x=false:=by simpa[fJ,gB]using h3
  simp[nh]at this
  simp only[gB]
  omega
 ·intro L hL dR x hx s' h1 h2 o3 n3 hI hn ho K X gK
  simp only[sr]
  have hg:=hI.cY
  have q0:o3 0= .row s.row:=by
   rw[hI.eq 0 (by omega)];(repeat(first|rfl|rw[aa]|rw[ad _ _ _ _ (by omega)]))
   exact p0
  have q2:o3 2= .row [.d (.bool false)]:=by
   rw[hI.eq 2 (by omega)];(repeat(first|rfl|rw[aa]|rw[ad _ _ _ _ (by omega)]))
   exact p2
  have q3:o3 n2= .row AZ:=by rw[hI.eq n2 (by omega)];(repeat(first|rfl|rw[aa]|rw[ad _ _ _ _ (by omega)]))
  have q4:o3 (n2+1)= .row [.d (.i s'.1)]:=by rw[hI.eq (n2+1) (by omega)];(repeat(first|rfl|rw[aa]|rw[ad _ _ _ _ (by omega)]))
  have fin:∀ (o':Nat->ae) (n':Nat),(∀id,id<n2+5+4->o' id=aq o3 (n2+1) (.row [.d (.i (s'.1+1))]) id)->Good o' n'->n3<=n'->gA (n2+5+4) (aq (aq (aq (aq (aq (aq o2 n2 (.row (List.replicate 16 (.d .aV)))) (n2+1) (.row [.d (.i 0)])) n2 (.row AZ)) (n2+1) (.row [.d (.i 0)])) (n2+5) (.row t.row)) (n2+1) (.row [.d (.i (gB s s' x).1)])) o' n':=by
   intro o' n' k1 k2 k3
   refine⟨k2,by omega,fun id aj=> ?_⟩
   rw[k1 id aj]
   by_cases h:id=n2+1
   ·subst h;rw[aa,aa];rfl
   ·rw[ad _ _ _ _ h,ad _ _ _ _ h,hI.eq id aj,ad _ _ _ _ h]
  simp+contextual only[go_sem]
  refine yJ hL (pd:=none) ?_ ?_
  ·(repeat(first|rfl|rw[aa]|rw[ad _ _ _ _ (by omega)]))
   exact ho
  cases c1:decide (40<s'.1+1)with
  |true=>
   have hJ:fJ (gB s s' x)=some .ret:=by simp[fJ,gB,nh,c1]
   rw[hJ]at gK
   simp+contextual (disch:=first|omega|simp only[go_sem,false_implies]) only[go_sem,wrap64,if_pos,q0,q2,q3,q4,c1]
   refine aK (bw rfl) ?_
   simp+contextual (disch:=first|omega|simp only[go_sem,false_implies]) only[go_sem,wrap64,if_pos,q2]
   refine gK _ _ _ .busy none (by omega) (fin _ _ (fun id aj=>(by simp only[aq]<;>((repeat' split)<;>first|rfl|omega|(subst_vars;first|rfl|assumption|(symm;assumption)|omega|(simp_all;done))))) (by repeat(first|exact hg.mono (by omega)|exact Good.nil|refine Good.aq ?_ (by omega) rfl|refine Good.aq ?_ (by omega) (dR _ _ _ (by omega))|refine Good.aq ?_ (by omega) (by simp[ae.refs,V.ag,V.refs]<;>omega))) (by omega)) (by(repeat(first|rfl|rw[aa]|rw[ad _ _ _ _ (by omega)]))) (fun id h3 h4=>by(repeat(first|rfl|rw[aa]|rw[ad _ _ _ _ (by omega)])))
  |false=>
  cases c2:decide (12<x.2)with
  |true=>
   have hJ:fJ (gB s s' x)=some .ret:=by simp[fJ,gB,nh,c2]
   rw[hJ]at gK
   simp+contextual (disch:=first|omega|simp only[go_sem,false_implies]) only[go_sem,wrap64,if_pos,q0,q2,q3,q4,c1,c2]
   refine aK (bw rfl) ?_
   simp+contextual (disch:=first|omega|simp only[go_sem,false_implies]) only[go_sem,wrap64,if_pos,q2]
   refine gK _ _ _ .busy none (by omega) (fin _ _ (fun id aj=>(by simp only[aq]<;>((repeat' split)<;>first|rfl|omega|(subst_vars;first|rfl|assumption|(symm;assumption)|omega|(simp_all;done))))) (by repeat(first|exact hg.mono (by omega)|exact Good.nil|refine Good.aq ?_ (by omega) rfl|refine Good.aq ?_ (by omega) (dR _ _ _ (by omega))|refine Good.aq ?_ (by omega) (by simp[ae.refs,V.ag,V.refs]<;>omega))) (by omega)) (by(repeat(first|rfl|rw[aa]|rw[ad _ _ _ _ (by omega)]))) (fun id h3 h4=>by(repeat(first|rfl|rw[aa]|rw[ad _ _ _ _ (by omega)])))
  |false=>
  cases c3:fg x.1.op 1 15 with
  |false=>
   have hJ:fJ (gB s s' x)=some .ret:=by simp[fJ,gB,nh,c3]
   rw[hJ]at gK
   simp+contextual (disch:=first|omega|simp only[go_sem,false_implies]) only[go_sem,wrap64,if_pos,q0,q2,q3,q4,c1,c2]
   refine cm (eU _ _ _) rfl ?_
   simp+contextual (disch:=first|omega|simp only[go_sem,false_implies]) only[go_sem,wrap64,if_pos,q0,q2,q3,q4,c1,c2,c3]
   refine aK (bw rfl) ?_
   simp+contextual (disch:=first|omega|simp only[go_sem,false_implies]) only[go_sem,wrap64,if_pos,q2]
   refine gK _ _ _ .busy none (by omega) (fin _ _ (fun id aj=>(by simp only[aq]<;>((repeat' split)<;>first|rfl|omega|(subst_vars;first|rfl|assumption|(symm;assumption)|omega|(simp_all;done))))) (by repeat(first|exact hg.mono (by omega)|exact Good.nil|refine Good.aq ?_ (by omega) rfl|refine Good.aq ?_ (by omega) (dR _ _ _ (by omega))|refine Good.aq ?_ (by omega) (by simp[ae.refs,V.ag,V.refs]<;>omega))) (by omega)) (by(repeat(first|rfl|rw[aa]|rw[ad _ _ _ _ (by omega)]))) (fun id h3 h4=>by(repeat(first|rfl|rw[aa]|rw[ad _ _ _ _ (by omega)])))
  |true=>
  obtain⟨r1,r2,r3,r4⟩:=Mp s x.1 hs c3
  simp+contextual (disch:=first|omega|simp only[go_sem,false_implies]) only[go_sem,wrap64,if_pos,q0,q2,q3,q4,c1,c2]
  refine cm (eU _ _ _) rfl ?_
  simp+contextual (disch:=first|omega|simp only[go_sem,false_implies]) only[go_sem,wrap64,if_pos,q0,q2,q3,q4,c1,c2,c3,r2,r3,r4,Nat.mul_one]
  refine cm r1 rfl ?_
  simp+contextual (disch:=first|omega|simp only[go_sem,false_implies]) only[go_sem,wrap64,if_pos,q0,q2,q3,q4,c1,c2,c3]
  refine aK (bw rfl) ?_
  cases c4:bC s x.1 with
  |false=>
   have hJ:fJ (gB s s' x)=some .ret:=by simp[fJ,gB,nh,c4]
   rw[hJ]at gK
   simp+contextual (disch:=first|omega|simp only[go_sem,false_implies]) only[go_sem,wrap64,if_pos,q2,c4]
   refine gK _ _ _ .busy none (by omega) (fin _ _ (fun id aj=>(by simp only[aq]<;>((repeat' split)<;>first|rfl|omega|(subst_vars;first|rfl|assumption|(symm;assumption)|omega|(simp_all;done))))) (by repeat(first|exact hg.mono (by omega)|exact Good.nil|refine Good.aq ?_ (by omega) rfl|refine Good.aq ?_ (by omega) (dR _ _ _ (by omega))|refine Good.aq ?_ (by omega) (by simp[ae.refs,V.ag,V.refs]<;>omega))) (by omega)) (by(repeat(first|rfl|rw[aa]|rw[ad _ _ _ _ (by omega)]))) (fun id h3 h4=>by(repeat(first|rfl|rw[aa]|rw[ad _ _ _ _ (by omega)])))
  |true=>
   have hJ:fJ (gB s s' x)=none:=by simp[fJ,gB,nh,c1,c2,c3,c4]
   rw[hJ]at gK
   simp+contextual (disch:=first|omega|simp only[go_sem,false_implies]) only[go_sem,wrap64,if_pos,c4]
   refine gK _ _ _ .busy none (by omega) (fin _ _ (fun id aj=>(by simp only[aq]<;>((repeat' split)<;>first|rfl|omega|(subst_vars;first|rfl|assumption|(symm;assumption)|omega|(simp_all;done))))) (by repeat(first|exact hg.mono (by omega)|exact Good.nil|refine Good.aq ?_ (by omega) rfl|refine Good.aq ?_ (by omega) (dR _ _ _ (by omega))|refine Good.aq ?_ (by omega) (by simp[ae.refs,V.ag,V.refs]<;>omega))) (by omega)) (by(repeat(first|rfl|rw[aa]|rw[ad _ _ _ _ (by omega)]))) (fun id h3 h4=>by(repeat(first|rfl|rw[aa]|rw[ad _ _ _ _ (by omega)])))
 ·intro o' n' hI
  have q2:o' 2= .row [.d (.bool false)]:=by
   rw[hI.eq 2 (by omega)];(repeat(first|rfl|rw[aa]|rw[ad _ _ _ _ (by omega)]))
   exact p2
  rw[show fG s t=(fJ (aO (uX fJ (gB s)) (0,true) (pre t 1)).1).isNone from B9 _ _ _ _ rfl]
  generalize (aO (uX fJ (gB s)) (0,true) (pre t 1)).1=sf at*
  cases hj:fJ sf with
  |none=>
   simp only[vN]
   simp+contextual (disch:=first|omega|simp only[go_sem,false_implies]) only[go_sem,wrap64,if_pos,q2]
   rfl
  |some j=>
   have:j= .ret:=by
    unfold fJ at hj;split at hj
    ·cases hj
    ·injection hj with hj;exact hj.symm
   subst this
   simp only[vN]
   simp+contextual (disch:=first|omega|simp only[go_sem,false_implies]) only[go_sem,wrap64,if_pos,q2]
   rfl
end Go.Proofs.YtealblliddhgiaaGreat
namespace Go.Proofs.YtealblliddhgiaaGreat
def enc{κ:Type}(kf:κ->D)(m:List (κ×D)):List (D×D):=m.map fun p=>(kf p.1,p.2)
def fy{κ:Type}[BEq κ](k:κ):List (κ×D)->Nat->Option (Nat×D)
 |[],_=>none
 |p::m,i=>if(k==p.1)=true then some (i,p.2)else fy k m (i+1)
def wK{κ:Type}[BEq κ](k:κ)(x:D)(m:List (κ×D)):List (κ×D):=match fy k m 0 with|some (i,_)=>m.set i (k,x)|none=>m++[(k,x)]
def RD{κ:Type}[BEq κ](k:κ)(m:List (κ×D)):List (κ×D):=match fy k m 0 with|some (i,_)=>m.eraseIdx i|none=>m
def tM(d:D)(r:Option (Nat×D)):Option (Nat×D×D):=match r with|some (i,x)=>some (i,d,x)|none=>none
@[go_sem] theorem NC (d:D) (i:Nat) (x:D):tM d (some (i,x))=some (i,d,x):=rfl
@[go_sem] theorem ND (d:D):tM d none=none:=rfl
section
variable {P:Program}{kt:TypeId}
theorem Ip(h:bf P kt=some .int)(a b:Int):pC P 100 kt (.int .i64 a) (.int .i64 b)=some (a==b):=by simp[pC,h]
theorem Iq(h:bf P kt=some .str)(a b:List UInt8):pC P 100 kt (.str a) (.str b)=some (a==b):=by simp[pC,h]
@[go_sem] theorem Cb (h:bf P kt=some .int) (a:Int):nd P 100 kt (.int .i64 a)=true:=by simp[nd,h]
@[go_sem] theorem SK (h:bf P kt=some .str) (a:List UInt8):nd P 100 kt (.str a)=true:=by simp[nd,h]
theorem sW{κ:Type}[BEq κ][LawfulBEq κ](kf:κ->D)(he:∀a b,pC P 100 kt (kf a) (kf b)=some (a==b))(k:κ):∀ (m:List (κ×D)) (i:Nat),findD P kt (kf k) (enc kf m) i=some (tM (kf k) (fy k m i))
 |[],_=>rfl
 |p::m,i=>by
  have ih:=sW kf he k m (i+1)
  simp only[enc,List.map_cons,findD,he,fy]at ih|-
  by_cases h:k=p.1
  ·subst h;simp[tM]
  ·have:(k==p.1)=false:=by simpa using h
   simp only[this,Bool.false_eq_true,if_false];exact ih
@[go_sem] theorem yT (h:bf P kt=some .int) (k:Int) (m:List (Int×D)):findD P kt (.int .i64 k) (enc (.int .i64) m) 0=some (tM (.int .i64 k) (fy k m 0)):=sW (.int .i64) (Ip h) k m 0
@[go_sem] theorem RE (h:bf P kt=some .str) (k:List UInt8) (m:List (List UInt8×D)):findD P kt (.str k) (enc .str m) 0=some (tM (.str k) (fy k m 0)):=sW .str (Iq h) k m 0
end
section
variable {κ:Type}(kf:κ->D)
theorem Gh(m:List (κ×D))(k:κ)(x:D):enc kf m++[(kf k,x)]=enc kf (m++[(k,x)]):=by simp[enc]
theorem Cc(m:List (κ×D))(i:Nat)(k:κ)(x:D):(enc kf m).set i (kf k,x)=enc kf (m.set i (k,x)):=by simp[enc,List.map_set]
theorem p5:∀ (m:List (κ×D)) (i:Nat),(enc kf m).eraseIdx i=enc kf (m.eraseIdx i)
 |[],i=>rfl
 |p::m,0=>rfl
 |p::m,i+1=>by
  have:=p5 m i
  simp only[enc,List.map_cons,List.eraseIdx_cons_succ]at this|-
  rw[this]
theorem Ir(m:List (κ×D)):(((enc kf m).map (·.1)).zip ((enc kf m).map (·.2)))=enc kf m:=by
 induction m with
 |nil=>rfl
 |cons p m ih=>simp only[enc,List.map_cons,List.zip_cons_cons]at ih|-;rw[ih]
theorem p6{K:V->List (Nat×ae)->Prop}{id:Nat}{m:List (κ×D)}(h0:m=[]->K (.bW [.d (.bool false)]) [])
 (h1:∀ (i:Nat) k x,m[i]? =some (k,x)->K (.bW [.d (.bool true), .d (kf k), .d x]) [(id, .kg (enc kf (m.eraseIdx i)) (some (kf k,x)))]):uL K id (enc kf m):=by
 refine⟨fun h=>h0 ?_,fun i k x h=> ?_⟩
 ·cases m with
  |nil=>rfl
  |cons p m=>simp[enc]at h
 ·simp only[enc,List.getElem?_map]at h
  cases hm:m[i]? with
  |none=>rw[hm]at h;cases h
  |some p=>
   rw[hm]at h
   simp at h
   obtain⟨rfl,rfl⟩:=h
   have:=h1 i p.1 p.2 (by rw[hm])
   rwa [<- p5]at this
end
theorem yU{κ:Type}[BEq κ][LawfulBEq κ]{k:κ}:∀ {m:List (κ×D)} {i j:Nat} {x:D},fy k m i=some (j,x)->i<=j/\m[j - i]? =some (k,x)
 |[],_,_,_,h=>by cases h
 |p::m,i,j,x,h=>by
  simp only[fy]at h
  split at h
  ·rename_i hk
   injection h with h;injection h with h1 h2
   subst h1;subst h2
   exact⟨Nat.le_refl _,by simp[(by simpa using hk:k=p.1)]⟩
  ·obtain⟨h1,h2⟩:=yU h
   refine⟨by omega, ?_⟩
   rw[show j - i=(j - (i+1))+1 by omega]
   simpa using h2
theorem uY{κ:Type}[BEq κ][LawfulBEq κ]{k:κ}:∀ {m:List (κ×D)} {i:Nat},fy k m i=none↔∀p∈m,p.1≠k
 |[],_=>by simp[fy]
 |p::m,i=>by
  simp only[fy]
  split
  ·rename_i hk
   simp[(by simpa using hk:k=p.1)]
  ·rename_i hk
   rw[uY]
   have:p.1≠k:=fun e=>hk (by simp[e])
   simp[this]
def pg(P:Program)(o:Nat->ae)(t:TypeId)(m k v:V):Option gq:=
 match nG P t,dG o k,dG o v,nm o m with
 |some (kt,_),some kd,some vd,some (some (id,zC,zD),l)=>if k.ids=[]/\nd P 100 kt kd=true/\jY kd=true/\v.ids.all (· !=id)=true then match findD P kt kd l 0 with
  |some (some (i,k',_))=>if k'.same kd=true then some (.bW [],cw o v.ids++[(id, .map zC zD (l.set i (kd,vd)))],id::v.ids)else none
  |some none=>some (.bW [],cw o v.ids++[(id, .map zC zD (l++[(kd,vd)]))],id::v.ids)
  |none=>none
  else none
 |_,_,_,_=>none
@[go_sem low] theorem uZ (P:Program) (o:Nat->ae) (t:TypeId) (m v:V) (k:D):fA P o t m (.d k) v=pg P o t m (.d k) v:=by unfold fA pg;rfl
def sX(P:Program)(o:Nat->ae)(t:TypeId)(m k:V)(ok:Bool):Option gq:=
 match nG P t,dG o k,ow o m with
 |some (kt,vt),some kd,some (rd,l)=>if k.ids=[]/\nd P 100 kt kd=true then match findD P kt kd l 0 with
  |some (some (_,_,x))=>some (if ok=true then .bW [.d x, .d (.bool true)]else .d x,[],rd)
  |some none=>match zeroV P vt with
   |some z=>some (if ok=true then .bW [z, .d (.bool false)]else z,[],rd)
   |none=>none
  |none=>none
  else none
 |_,_,_=>none
@[go_sem low] theorem m8 (P:Program) (o:Nat->ae) (t:TypeId) (m:V) (k:D) (ok:Bool):gZ P o t m (.d k) ok=sX P o t m (.d k) ok:=by unfold gZ sX;rfl
attribute [go_sem] sX pg mT lY lZ nn np l0 ow nm SY nk jY D.same
end Go.Proofs.YtealblliddhgiaaGreat
namespace Go.Proofs.YtealblliddhgiaaGreat
theorem dec_lt{l:List UInt8}{i:Nat}{b:UInt8}(hb:l[i]? =some b)(h:b.toNat<128):Utf8.decode ⟨⟨l⟩⟩ i=(b.toNat,1):=by
 have e:(ByteArray.mk ⟨l⟩).get! i=b:=by
  show(Array.mk l)[i]! =b
  simp[hb]
 simp only[Utf8.decode,Nat.add_zero,e]
 rw[if_pos h]
theorem Mq{l:List UInt8}{i:Nat}{b:UInt8}(hb:l[i]? =some b)(h:128<=b.toNat):128<=(Utf8.decode ⟨⟨l⟩⟩ i).1:=by
 have e:(ByteArray.mk ⟨l⟩).get! i=b:=by
  show(Array.mk l)[i]! =b
  simp[hb]
 simp only[Utf8.decode,Nat.add_zero,e]
 rw[if_neg (by omega)]
 split
 ·split<;>simp_all[Utf8.runeError]
 ·split
  ·split
   ·rename_i h3;simp at h3;omega
   ·simp[Utf8.runeError]
  ·split
   ·split
    ·rename_i h3;simp at h3;omega
    ·simp[Utf8.runeError]
   ·simp[Utf8.runeError]
def Is(r:Int):Bool:=decide (97<=r)&&decide (r<=122)||decide (65<=r)&&decide (r<=90)
theorem Gi(b:UInt8):Is b.toNat=letterF b:=by
 rw[Bool.eq_iff_iff]
 simp[Is,letterF]
theorem Dx(s:List UInt8)(hs:s.length<=9223372036854775807):cq Tryz.prog 78 [.str s] (.ret [.bool (jr s)]):=by
 refine cq.bt mix Qa (by simp) ?_
 rw[Vg]
 simp+contextual (disch:=first|omega|simp only[go_sem,false_implies]) only[go_sem,wrap64,if_pos,Nat.add_assoc,Nat.left_eq_add,Nat.add_eq_left,Nat.add_left_cancel_iff]
 refine aX (fun k:Nat=>⟨bB [.d (.str s), .ab, .ab, .ab, .ab, .ab, .ptr 2 0],aq (fun _=> .no) 2 (.rA s k),3⟩)
  (fun k=>k<=s.length/\(s.take k).all letterF=true) (fun k=>s.length - k) 0 ⟨Nat.zero_le _,by simp⟩ (bY.cT _ (by omega) (by omega) (Good.nil.aq (by omega) rfl) (fun _ _=>rfl) ?_) (fun k hk=> ?_)
 ·(repeat(first|exact aw|refine ao ?_|refine ah rfl ?_|refine ah (aT (aS (by omega))) ?_|refine aF rfl (by simp[V.refs,V.ag]<;>first|omega|assumption) ?_))
 by_cases h2:k<s.length
 ·obtain⟨b,hb⟩:=a7 h2
  by_cases h3:b.toNat<128
  ·simp+contextual (disch:=first|omega|simp only[go_sem,false_implies]) only[go_sem,wrap64,if_pos,Nat.add_assoc,Nat.left_eq_add,Nat.add_eq_left,Nat.add_left_cancel_iff,h2,dec_lt hb h3]
   have hr:=Gi b
   simp only[Is]at hr
   rw[hr]
   cases hl:letterF b with
   |true=>
    simp+contextual (disch:=first|omega|simp only[go_sem,false_implies]) only[go_sem,wrap64,if_pos,and_self]
    refine az (k+1) ⟨h2,kK hb hk.2 hl⟩ (by omega) (bY.cT _ (by omega) (by omega) (Good.nil.aq (by omega) rfl) (fun _ _=>by rw[wH]) ?_)
    (repeat(first|exact aw|refine ao ?_|refine ah rfl ?_|refine ah (aT (aS (by omega))) ?_|refine aF rfl (by simp[V.refs,V.ag]<;>first|omega|assumption) ?_))
   |false=>
    simp+contextual (disch:=first|omega|simp only[go_sem,false_implies]) only[go_sem,wrap64,if_pos,and_self]
    simp[jr,jx hb hl]
  ·have hr:letterF b=false:=by
    rw[<- Gi];simp[Is];omega
   have hd:=Mq hb (by omega)
   simp+contextual (disch:=first|omega|simp only[go_sem,false_implies]) only[go_sem,wrap64,if_pos,Nat.add_assoc,Nat.left_eq_add,Nat.add_eq_left,Nat.add_left_cancel_iff,h2]
   have:(decide (97<=((Utf8.decode ⟨⟨s⟩⟩ k).1:Int))&&decide (((Utf8.decode ⟨⟨s⟩⟩ k).1:Int)<=122)||decide (65<=((Utf8.decode ⟨⟨s⟩⟩ k).1:Int))&&decide (((Utf8.decode ⟨⟨s⟩⟩ k).1:Int)<=90))=false:=by
    rw[Bool.eq_false_iff];intro h;simp at h;omega
   rw[this]
   simp+contextual (disch:=first|omega|simp only[go_sem,false_implies]) only[go_sem,wrap64,if_pos,and_self]
   simp[jr,jx hb hr]
 ·simp+contextual (disch:=first|omega|simp only[go_sem,false_implies]) only[go_sem,wrap64,if_pos,Nat.add_assoc,Nat.left_eq_add,Nat.add_eq_left,Nat.add_left_cancel_iff,h2]
  refine aM (eU _ _ _) rfl ?_
  simp+contextual (disch:=first|omega|simp only[go_sem,false_implies]) only[go_sem,wrap64,if_pos,and_self]
  rw[jr,kL hk.2 (by omega),Bool.true_and]
theorem yV{σ:Type}(l:List od)(hl:l.length<=9223372036854775807)(g:Nat)(dE:List V)(base:Nat)(H:σ->Nat->ae)(step:σ->od->σ×Bool)(hc:∀r∈V.ag dE,r<base)(ok:σ->Prop)(bz:∀x∈l,∀s,ok s->(step s x).2=true->ok (step s x).1)
 (h:∀x∈l,∀s,ok s->xc Tryz.prog g (.d x.d::dE) base (H s) (H (step s x).1) (.d (.bool (step s x).2))) (s:σ) (qq:ok s):
 xc Tryz.prog 80 [.d (.sl (l.map od.d)), .func (.func g) [] dE] base (H s) (H (aO step s l).1) (.d (.bool (aO step s l).2)):=by
 intro o nx hI K X hK
 have vA:∀r∈V.ag dE,r<nx:=fun r hr=>Nat.lt_of_lt_of_le (hc r hr) hI.le
 refine eN.bt mix Qc (by simp) ?_
 rw[Vi]
 simp+contextual only[go_sem]
 refine aX (fun i:Nat×σ×(Nat->ae)×Nat=>⟨bB [.ab, .func (.func g) [] dE, .ab, .ab, .ab, .ab, .ab, .d (.sl (l.map od.d)), .d (.i l.length), .d (.i i.1)],i.2.2.1,i.2.2.2⟩)
  (fun i=>i.1<=l.length/\gA base (H i.2.1) i.2.2.1 i.2.2.2/\nx<=i.2.2.2/\(∀id,base<=id->id<nx->i.2.2.1 id=o id)/\aO step s l=aO step i.2.1 (l.drop i.1)/\ok i.2.1) (fun i=>l.length - i.1) (0,s,o,nx)
  ⟨Nat.zero_le _,hI,Nat.le_refl _,fun _ _ _=>rfl,rfl,qq⟩ ?_ ?_
 ·dsimp only
  refine bY.cT _ (Nat.le_refl _) (by omega) hI.cY (fun _ _=>rfl) ?_
  (repeat(first|exact aw|refine ao ?_|refine ah rfl ?_|refine ah (aT (aS (by omega))) ?_|refine aF rfl (by simp[V.refs,V.ag]<;>first|omega|assumption) ?_))
 rintro⟨k,s',o',nx'⟩ ⟨hk,B8,hn,dU,hf,sU⟩
 simp only at hk B8 hn dU hf sU
 simp+contextual only[go_sem]
 refine ay (fun h1=> ?_) (fun h1=> ?_)
 ·simp at h1
  obtain⟨x,hx⟩:=a7 h1
  have kU:=List.mem_of_getElem? hx
  have hd:l.drop k=x::l.drop (k+1):=by
   rw[List.drop_eq_getElem_cons h1]
   rw[List.getElem?_eq_getElem h1]at hx;injection hx with hx;rw[hx]
  simp+contextual only[go_sem,hx,Nat.add_assoc,Nat.left_eq_add,Nat.add_eq_left,Nat.add_left_cancel_iff]
  have Sj:=B8.le
  refine mD (h x kU s' sU _ _ (?_:gA base (H s') _ (nx'+7)) _ _ fun o2 n2 m1 m2 m3=> ?_)
  ·exact(B8.aq (i:=nx'+3) (m:=nx'+7) (by omega) (by omega) (by omega) rfl).aq (by omega) (by omega) (by omega) rfl
  have yQ:∀id,base<=id->id<nx->o2 id=o id:=fun id h2 h3=>by
   rw[m3 id h2 (by omega),ad _ _ _ _ (by omega),ad _ _ _ _ (by omega),dU id h2 h3]
  simp+contextual only[go_sem]
  refine ay (fun h2=> ?_) (fun h2=> ?_)
  ·simp+contextual only[go_sem]
   simp at h2
   have:aO step s l=((step s' x).1,false):=by rw[hf,hd,aO,if_neg (by rw[h2];exact Bool.false_ne_true)]
   rw[this]at hK
   exact hK _ _ (by omega) (m2.mono (by omega)) yQ
  ·simp+contextual only[go_sem]
   simp at h2
   have:aO step s l=aO step (step s' x).1 (l.drop (k+1)):=by rw[hf,hd,aO,if_pos h2]
   refine az (k+1,(step s' x).1,o2,n2) ⟨h1,m2,by dsimp only;omega,yQ,this,bz x kU s' sU h2⟩ (by dsimp only;omega) ?_
   dsimp only
   have J8:∀r∈V.ag dE,r<n2:=fun r hr=>by have:=vA r hr;omega
   refine bY.cT _ (by omega) (by omega) m2.cY (fun _ _=>rfl) ?_
   (repeat(first|exact aw|refine ao ?_|refine ah rfl ?_|refine ah (aT (aS (by omega))) ?_|refine aF rfl (by simp[V.refs,V.ag]<;>first|omega|assumption) ?_))
 ·simp+contextual only[go_sem]
  simp at h1
  rw[List.drop_eq_nil_of_le h1]at hf
  simp only[aO]at hf
  rw[hf]at hK
  exact hK _ _ (by omega) (B8.mono (by omega)) dU
def nX(l:List (List UInt8)):List (List UInt8×D):=l.map fun s=>(s, .bool true)
theorem Dy(l:List (List UInt8))(s:List UInt8):nX l++[(s, .bool true)]=nX (l++[s]):=by simp[nX]
theorem Dz{l:List (List UInt8)}{s:List UInt8}{i:Nat}{x:D}(h:fy s (nX l) 0=some (i,x)):x= .bool true/\(nX l).set i (s, .bool true)=nX l/\l.any (· ==s)=true:=by
 obtain⟨_,h2⟩:=yU h
 rw[Nat.sub_zero]at h2
 simp only[nX,List.getElem?_map]at h2
 cases hl:l[i]? with
 |none=>rw[hl]at h2;cases h2
 |some y=>
  rw[hl]at h2
  simp at h2
  obtain⟨rfl,rfl⟩:=h2
  refine⟨rfl, ?_, ?_⟩
  ·apply List.ext_getElem?
   intro j
   rw[List.getElem?_set]
   split
   ·rename_i e;subst e
    obtain⟨bM,hy⟩:=List.getElem?_eq_some_iff.1 hl
    simp[nX,bM,hy]
   ·rfl
  ·exact List.any_eq_true.2 ⟨y,List.mem_of_getElem? hl,by simp⟩
theorem DA{l:List (List UInt8)}{s:List UInt8}(h:fy s (nX l) 0=none):l.any (· ==s)=false:=by
 rw[uY]at h
 rw[List.any_eq_false]
 intro x hx hs
 have:=h (x, .bool true) (by simp[nX];exact hx)
 simp at hs;exact this hs
def It(bs:List (List UInt8))(x:od):Bool:= !bs.any (· ==x.name)&&jr x.name&&fg x.args 0 4
def gW(bs:List (List UInt8))(x:od):List (List UInt8)×Bool:=(if bs.any (· ==x.name)=true then bs else bs++[x.name],It bs x)
theorem Mr(x:od)(hx:x.name.length<=9223372036854775807)(base mp id:Nat)(h:Nat->ae)(Zp:h mp= .row [.mp id])(h1:mp<base)(h2:id<base)(h3:id≠mp)(bs:List (List UInt8)):
 xc Tryz.prog 77 [.d x.d, .ptr mp 0] base (aq h id (.map 9 4 (enc .str (nX bs)))) (aq h id (.map 9 4 (enc .str (nX (gW bs x).1)))) (.d (.bool (gW bs x).2)):=by
 intro o nx hI K X hK
 have hle:=hI.le
 have hg:=hI.cY
 have q0:o mp= .row [.mp id]:=by rw[hI.eq mp h1,ad _ _ _ _ (by omega),Zp]
 have q1:o id= .map 9 4 (enc .str (nX bs)):=by rw[hI.eq id h2,aa]
 refine eN.bt mix P9 (by simp) ?_
 rw[Vf]
 cases ha:fy x.name (nX bs) 0 with
 |none=>
  have hn:=DA ha
  have hs:gW bs x=(bs++[x.name],jr x.name&&fg x.args 0 4):=by simp[gW,It,hn]
  rw[hs]at hK
  simp+contextual (disch:=first|omega|simp only[go_sem,false_implies]) only[go_sem,wrap64,if_pos,q0,q1,ha]
  refine aM (Dx _ hx) rfl ?_
  simp+contextual (disch:=first|omega|simp only[go_sem,false_implies]) only[go_sem,wrap64,if_pos,and_self]
  refine gR (fX [.bool (fg x.args 0 4)] ?_ ?_)
  ·simp+contextual (disch:=first|omega|simp only[go_sem,false_implies]) only[go_sem,wrap64,if_pos,and_self]
   exact fun _=>eU _ _ _
  simp+contextual (disch:=first|omega|simp only[go_sem,false_implies]) only[go_sem,wrap64,if_pos,and_self]
  rw[Gh,Dy]
  refine hK _ _ (by omega) ⟨(by repeat(first|exact hg.mono (by omega)|exact Good.nil|refine Good.aq ?_ (by omega) rfl|refine Good.aq ?_ (by omega) (dR _ _ _ (by omega))|refine Good.aq ?_ (by omega) (by simp[ae.refs,V.ag,V.refs]<;>omega))),by omega,fun j hj=> ?_⟩ (fun j g1 g2=>by(repeat(first|rfl|rw[aa]|rw[ad _ _ _ _ (by omega)])))
  ·by_cases e:j=id
   ·subst e;(repeat(first|rfl|rw[aa]|rw[ad _ _ _ _ (by omega)]))
   ·rw[ad _ _ _ _ e,ad _ _ _ _ e,ad _ _ _ _ (by omega),hI.eq j hj,ad _ _ _ _ e]
 |some p=>
  obtain⟨i,y⟩:=p
  obtain⟨rfl,e1,hn⟩:=Dz ha
  have hs:gW bs x=(bs,false):=by simp[gW,It,hn]
  rw[hs]at hK
  simp+contextual (disch:=first|omega|simp only[go_sem,false_implies]) only[go_sem,wrap64,if_pos,q0,q1,ha]
  rw[Cc,e1]
  refine hK _ _ (by omega) ⟨(by repeat(first|exact hg.mono (by omega)|exact Good.nil|refine Good.aq ?_ (by omega) rfl|refine Good.aq ?_ (by omega) (dR _ _ _ (by omega))|refine Good.aq ?_ (by omega) (by simp[ae.refs,V.ag,V.refs]<;>omega))),by omega,fun j hj=> ?_⟩ (fun j g1 g2=>by(repeat(first|rfl|rw[aa]|rw[ad _ _ _ _ (by omega)])))
  ·by_cases e:j=id
   ·subst e;(repeat(first|rfl|rw[aa]|rw[ad _ _ _ _ (by omega)]))
   ·rw[ad _ _ _ _ e,ad _ _ _ _ e,ad _ _ _ _ (by omega),hI.eq j hj,ad _ _ _ _ e]
theorem nY:∀ (l:List od) (bs:List (List UInt8)),match cy l bs with|some B=>aO gW bs l=(B,true)|none=>(aO gW bs l).2=false
 |[],bs=>rfl
 |x::l,bs=>by
  have ih:=nY l (bs++[x.name])
  simp only[cy,aO,gW,It]
  by_cases h1:bs.any (· ==x.name)=true
  ·simp[h1]
  ·simp only[Bool.not_eq_true]at h1
   simp only[h1,Bool.false_eq_true,if_false,Bool.not_false,Bool.true_and]
   by_cases h2:(jr x.name&&fg x.args 0 4)=true
   ·have h3: ¬ ((!jr x.name|| !fg x.args 0 4)=true):=by simp at h2;simp[h2]
    rw[if_neg h3,if_pos h2]
    exact ih
   ·have h3:(!jr x.name|| !fg x.args 0 4)=true:=by
     cases hn:jr x.name<;>simp_all
    rw[if_pos h3,if_neg h2]
end Go.Proofs.YtealblliddhgiaaGreat
namespace Go.Proofs.YtealblliddhgiaaGreat
def kM(ok:Bool):Int:=if ok=true then 0 else 2
@[reducible] def DB (s:bP) (bs:List (List UInt8)):Nat->ae:=aq (aq (aq (fun _=> .no) 0 (.row s.row)) 3 (.row [.mp 2])) 2 (.map 9 4 (enc .str (nX bs)))
theorem A0(s:bP)(hs:s.Fits):cq Tryz.prog 38 [s.d] (.ret [.i (kM (nT s))]):=by
 refine cq.bt mix PR (by simp) ?_
 rw[UD]
 simp+contextual (disch:=first|omega|simp only[go_sem,false_implies]) only[go_sem,wrap64,if_pos,Nat.add_assoc,Nat.left_eq_add,Nat.add_eq_left,Nat.add_left_cancel_iff]
 refine aM (eU _ _ _) rfl ?_
 simp+contextual (disch:=first|omega|simp only[go_sem,false_implies]) only[go_sem,wrap64,if_pos,Nat.add_assoc,Nat.left_eq_add,Nat.add_eq_left,Nat.add_left_cancel_iff]
 cases h1:(!fg s.cons.length 2 12||decide (8<(s.dN.length:Int)))with
 |true=>
  have:nT s=false:=by simp only[nT,h1,if_true]
  simp+contextual (disch:=first|omega|simp only[go_sem,false_implies]) only[go_sem,wrap64,if_pos,h1]
  simp[this,kM]
 |false=>
  have G9:=nY s.cons []
  have RF:∀ (l:List od),(∀x∈l,x.name.length<=9223372036854775807)->∀x∈l,∀bs,True->xc Tryz.prog 77 (.d x.d::[.ptr 3 0]) 4 (DB s bs) (DB s (gW bs x).1) (.d (.bool (gW bs x).2)):=fun l hl x hx bs _=>
   Mr x (hl x hx) 4 3 2 (aq (aq (fun _=> .no) 0 (.row s.row)) 3 (.row [.mp 2])) (aa _ _ _) (by omega) (by omega) (by omega) bs
  simp[fg]at h1
  obtain⟨a,b,r,hc⟩:∃a b r,s.cons=a::b::r:=by
   match h:s.cons with
   |[]=>rw[h]at h1;simp at h1
   |[a]=>rw[h]at h1;simp at h1
   |a::b::r=>exact⟨a,b,r,rfl⟩
  have lX:(!fg s.cons.length 2 12||decide (8<(s.dN.length:Int)))=false:=by simp[fg];omega
  have Dv:nT s=if(!lT a fB|| !lT b tB)=true then false else match cy s.cons []with
   |none=>false
   |some l=>(cy s.dN l).isSome:=by
   unfold nT
   rw[if_neg (by rw[lX];exact Bool.false_ne_true),hc]
   dsimp only
   rfl
  simp+contextual (disch:=first|omega|simp only[go_sem,false_implies]) only[go_sem,wrap64,if_pos,lX]
  refine cQ (yV s.cons hs.lc 77 [.ptr 3 0] 4 (DB s) gW (by simp[V.ag,V.refs]) (fun _=>True) (fun _ _ _ _ _=>trivial) (RF s.cons hs.nc) [] trivial _ _ ⟨?_,by omega,fun id aj=> ?_⟩ _ _ fun o2 n2 m1 m2 m3=> ?_)
  ·exact(by repeat(first|exact hg.mono (by omega)|exact Good.nil|refine Good.aq ?_ (by omega) rfl|refine Good.aq ?_ (by omega) (dR _ _ _ (by omega))|refine Good.aq ?_ (by omega) (by simp[ae.refs,V.ag,V.refs]<;>omega)))
  ·rcases(by omega:id=0\/id=1\/id=2\/id=3)with rfl|rfl|rfl|rfl<;>rfl
  have p0:∀ {bs:List (List UInt8)} {o:Nat->ae} {n:Nat},gA 4 (DB s bs) o n->o 0= .row s.row:=fun h=>h.eq 0 (by omega)
  have p3:∀ {bs:List (List UInt8)} {o:Nat->ae} {n:Nat},gA 4 (DB s bs) o n->o 3= .row [.mp 2]:=fun h=>h.eq 3 (by omega)
  cases hn:cy s.cons []with
  |none=>
   rw[hn]at G9
   simp only at G9
   rw[G9]
   simp+contextual (disch:=first|omega|simp only[go_sem,false_implies]) only[go_sem,wrap64,if_pos,Nat.add_assoc,Nat.left_eq_add,Nat.add_eq_left,Nat.add_left_cancel_iff]
   rw[Dv,hn]
   split<;>rfl
  |some B=>
   rw[hn]at G9
   simp only at G9
   rw[G9]at m2|-
   simp+contextual (disch:=first|omega|simp only[go_sem,false_implies]) only[go_sem,wrap64,if_pos,Nat.add_assoc,Nat.left_eq_add,Nat.add_eq_left,Nat.add_left_cancel_iff,p0 m2]
   refine cQ (yV s.dN hs.lf 77 [.ptr 3 0] 4 (DB s) gW (by simp[V.ag,V.refs]) (fun _=>True) (fun _ _ _ _ _=>trivial) (RF s.dN hs.nf) B trivial _ _ (m2.mono (by omega)) _ _ fun o4 n4 k1 k2 k3=> ?_)
   have Ja:=nY s.dN B
   cases hf:cy s.dN B with
   |none=>
    rw[hf]at Ja
    simp only at Ja
    rw[Ja]
    simp+contextual (disch:=first|omega|simp only[go_sem,false_implies]) only[go_sem,wrap64,if_pos,Nat.add_assoc,Nat.left_eq_add,Nat.add_eq_left,Nat.add_left_cancel_iff]
    rw[Dv,hn]
    simp only[hf]
    split<;>rfl
   |some C=>
    rw[hf]at Ja
    simp only at Ja
    rw[Ja]at k2|-
    simp+contextual (disch:=first|omega|simp only[go_sem,false_implies]) only[go_sem,wrap64,if_pos,Nat.add_assoc,Nat.left_eq_add,Nat.add_eq_left,Nat.add_left_cancel_iff,p0 k2,hc]
    have J9:nT s= !(!lT a fB|| !lT b tB):=by
     rw[Dv,hn];simp only[hf]
     cases(!lT a fB|| !lT b tB)<;>rfl
    refine ay (fun h5=> ?_) (fun h5=> ?_)
    ·simp+contextual (disch:=first|omega|simp only[go_sem,false_implies]) only[go_sem,wrap64,if_pos,and_self]
     have NW:(!lT a fB|| !lT b tB)=true:=h5
     rw[J9,NW];rfl
    ·simp+contextual (disch:=first|omega|simp only[go_sem,false_implies]) only[go_sem,wrap64,if_pos,and_self]
     have NW:(!lT a fB|| !lT b tB)=false:=h5
     rw[J9,NW];rfl
def eH(s:bP)(l:List Tm):Bool:=nT s&&l.all (fG s)
theorem u3{α:Type}(p:α->Bool):∀ (l:List α) (u:Unit),aO (fun _ x=>((),p x)) u l=((),l.all p)
 |[],_=>rfl
 |x::l,u=>by
  simp only[aO,List.all_cons,u3 p l]
  cases p x<;>rfl
theorem A1(l:List Tm)(hl:l.length<=9223372036854775807)(g:Nat)(dE:List V)(base:Nat)(h:Nat->ae)(p:Tm->Bool)(hc:∀r∈V.ag dE,r<base)
 (hp:∀x∈l,xc Tryz.prog g (.d x.d::dE) base h h (.d (.bool (p x)))):xc Tryz.prog 87 [.d (.sl (l.map Tm.d)), .func (.func g) [] dE] base h h (.d (.bool (l.all p))):=by
 have:=yP l hl g dE base (fun _:Unit=>h) (fun _ x=>((),p x)) hc (fun _=>True) (fun _ _ _ _ _=>trivial) (fun x hx _ _=>hp x hx) () trivial
 simpa only[u3]using this
structure Tm.Fin (t:Tm):Prop where
 fits:t.fits
 b7:t.b7<=900000
theorem Gj(s:bP)(hs:s.Fits)(t:Tm)(ht:t.Fin)(base sp:Nat)(h:Nat->ae)(xu:h sp= .row s.row)(hb:sp<base):xc Tryz.prog 88 [.d t.d, .ptr sp 0] base h h (.d (.bool (fG s t))):=by
 intro o nx hI K X hK
 have hle:=hI.le
 have hg:=hI.cY
 have q0:o sp= .row s.row:=by rw[hI.eq sp hb,xu]
 refine eN.bt mix Qg (by simp) ?_
 rw[Vq]
 simp+contextual (disch:=first|omega|simp only[go_sem,false_implies]) only[go_sem,wrap64,if_pos,q0]
 refine aM (sV s hs t ht.fits ht.b7) rfl ?_
 simp+contextual (disch:=first|omega|simp only[go_sem,false_implies]) only[go_sem,wrap64,if_pos,and_self]
 exact hK _ _ (by omega) ⟨(by repeat(first|exact hg.mono (by omega)|exact Good.nil|refine Good.aq ?_ (by omega) rfl|refine Good.aq ?_ (by omega) (dR _ _ _ (by omega))|refine Good.aq ?_ (by omega) (by simp[ae.refs,V.ag,V.refs]<;>omega))),by omega,fun j hj=>by rw[ad _ _ _ _ (by omega),hI.eq j hj]⟩ (fun j g1 g2=>by(repeat(first|rfl|rw[aa]|rw[ad _ _ _ _ (by omega)])))
theorem wL(s:bP)(hs:s.Fits)(l:List Tm)(hl:l.length<=9223372036854775807)(hf:∀t∈l,t.Fin):cq Tryz.prog 51 [s.d, .sl (l.map Tm.d)] (.ret [.bool (eH s l)]):=by
 refine cq.bt mix PU (by simp) ?_
 rw[UQ]
 simp+contextual (disch:=first|omega|simp only[go_sem,false_implies]) only[go_sem,wrap64,if_pos,and_self]
 refine aM (A0 s hs) rfl ?_
 cases h1:nT s with
 |false=>
  simp+contextual (disch:=first|omega|simp only[go_sem,false_implies]) only[go_sem,wrap64,if_pos,kM]
  simp[eH,h1]
 |true=>
  simp+contextual (disch:=first|omega|simp only[go_sem,false_implies]) only[go_sem,wrap64,if_pos,kM]
  refine cQ (A1 l hl 88 [.ptr 0 0] 1 (aq (fun _=> .no) 0 (.row s.row)) (fG s) (by simp[V.ag,V.refs]) (fun x hx=>Gj s hs x (hf x hx) 1 0 _ (aa _ _ _) (by omega)) _ _ ⟨(by repeat(first|exact hg.mono (by omega)|exact Good.nil|refine Good.aq ?_ (by omega) rfl|refine Good.aq ?_ (by omega) (dR _ _ _ (by omega))|refine Good.aq ?_ (by omega) (by simp[ae.refs,V.ag,V.refs]<;>omega))),by omega,fun id aj=>rfl⟩ _ _ fun o2 n2 m1 m2 m3=> ?_)
  simp+contextual (disch:=first|omega|simp only[go_sem,false_implies]) only[go_sem,wrap64,if_pos,and_self]
  simp[eH,h1]
end Go.Proofs.YtealblliddhgiaaGreat
namespace Go.Proofs.YtealblliddhgiaaGreat
end Go.Proofs.YtealblliddhgiaaGreat
namespace Go.Proofs.YtealblliddhgiaaGreat
def Tm.yW (t:Tm):Int:=(pre t 1).length
structure Tm.NF (t:Tm):Prop extends t.Fin where
 size:t.yW<=1000000
theorem Tm.Fin.NG {t k:Tm}(h:t.Fin)(hk:k∈t.kids):k.Fin:=⟨((Tm.dy _).1 h.fits).2 k hk,by have:=Tm.dg hk;have:=h.b7;omega⟩
theorem qF:∀ (t:Tm) (d d':Int),(pre t d).length=(pre t d').length:=by
 refine Tm.jC fun t ih d d'=> ?_
 rw[lA,lA]
 simp only[List.length_cons,List.length_flatMap]
 congr 2
 exact List.map_congr_left fun k hk=>ih k hk _ _
theorem Tm.u4 {t k:Tm}(hk:k∈t.kids):k.yW+1<=t.yW:=by
 simp only[Tm.yW]
 rw[lA t,qF k 1 (1+1)]
 simp only[List.length_cons,List.length_flatMap]
 have:∀ (l:List Tm),k∈l->(pre k (1+1)).length<=(l.map fun k=>(pre k (1+1)).length).sum:=by
  intro l
  induction l with
  |nil=>intro h;cases h
  |cons x l ih=>
   intro h
   rcases List.mem_cons.1 h with rfl|h
   ·simp only[List.map_cons,List.sum_cons];omega
   ·have:=ih h;simp only[List.map_cons,List.sum_cons];omega
 have:=this _ hk
 omega
theorem Tm.NF.NG {t k:Tm}(h:t.NF)(hk:k∈t.kids):k.NF:=⟨h.toFin.NG hk,by have:=Tm.u4 hk;have:=h.size;omega⟩
end Go.Proofs.YtealblliddhgiaaGreat
namespace Go.Proofs.YtealblliddhgiaaGreat
def ph(s:bP)(l:List Tm):Bool:=l.all iE&&kH s
theorem Gk(s:bP)(hs:s.Fits)(l:List Tm)(hl:l.length<=1000000)(hf:∀t∈l,t.fits):cq Tryz.prog 11 [s.d, .sl (l.map Tm.d)] (.ret [.bool (ph s l)]):=by
 refine cq.bt mix PG (by simp) ?_
 rw[Uc]
 simp+contextual (disch:=first|omega|simp only[go_sem,false_implies]) only[go_sem,wrap64,if_pos,and_self]
 refine aX (fun k:Nat=>⟨bB [.ab, .d (.sl (l.map Tm.d)), .ptr 0 0, .ab, .ab, .d (.i k)],nW s.row,1⟩)
  (fun k=>k<=l.length/\(l.take k).all iE=true) (fun k=>l.length - k) 0 ⟨Nat.zero_le _,by simp⟩ (bY.d1 _ (b8 rfl) (by omega) rfl ?_) (fun k hk=> ?_)
 ·(repeat(first|exact aw|refine ao ?_|refine ah rfl ?_|refine ah (aT (aS (by omega))) ?_|refine aF rfl (by simp[V.refs,V.ag]<;>first|omega|assumption) ?_))
 simp+contextual (disch:=first|omega|simp only[go_sem,false_implies]) only[go_sem,wrap64,if_pos,and_self]
 refine ay (fun h2=> ?_) (fun h2=> ?_)
 ·simp at h2
  obtain⟨x,hx⟩:=a7 h2
  simp+contextual (disch:=first|omega|simp only[go_sem,false_implies]) only[go_sem,wrap64,if_pos,hx]
  refine aM (wI x (hf x (List.mem_of_getElem? hx))) rfl ?_
  simp+contextual (disch:=first|omega|simp only[go_sem,false_implies]) only[go_sem,wrap64,if_pos,and_self]
  refine ay (fun h3=> ?_) (fun h3=> ?_)
  ·simp+contextual (disch:=first|omega|simp only[go_sem,false_implies]) only[go_sem,wrap64,if_pos,and_self]
   simp at h3
   simp[ph,jx hx h3]
  ·simp+contextual (disch:=first|omega|simp only[go_sem,false_implies]) only[go_sem,wrap64,if_pos,and_self]
   simp at h3
   refine az (k+1) ⟨h2,kK hx hk.2 h3⟩ (by omega) (bY.d1 _ (b8 rfl) (by omega) rfl ?_)
   (repeat(first|exact aw|refine ao ?_|refine ah rfl ?_|refine ah (aT (aS (by omega))) ?_|refine aF rfl (by simp[V.refs,V.ag]<;>first|omega|assumption) ?_))
 ·simp at h2
  simp+contextual (disch:=first|omega|simp only[go_sem,false_implies]) only[go_sem,wrap64,if_pos,and_self]
  refine aM (AW s hs) rfl ?_
  simp+contextual (disch:=first|omega|simp only[go_sem,false_implies]) only[go_sem,wrap64,if_pos,and_self]
  rw[ph,kL hk.2 h2,Bool.true_and]
def iH(s:bP)(l:List Tm):Bool:=nT s&&l.all (dP s)
theorem Iu(s:bP)(hs:s.Fits)(l:List Tm)(hl:l.length<=1000000)(hf:∀t∈l,t.fits):cq Tryz.prog 15 [s.d, .sl (l.map Tm.d)] (.ret [.bool (iH s l)]):=by
 refine cq.bt mix PJ (by simp) ?_
 rw[Ug]
 simp+contextual (disch:=first|omega|simp only[go_sem,false_implies]) only[go_sem,wrap64,if_pos,and_self]
 refine aM (Rx s hs) rfl ?_
 cases h1:nT s with
 |false=>simp+contextual (disch:=first|omega|simp only[go_sem,false_implies]) only[go_sem,wrap64,if_pos,and_self];simp[iH,h1]
 |true=>
  simp+contextual (disch:=first|omega|simp only[go_sem,false_implies]) only[go_sem,wrap64,if_pos,and_self]
  refine aX (fun k:Nat=>⟨bB [.ab, .d (.sl (l.map Tm.d)), .ptr 0 0, .ab, .ab, .d (.i k)],nW s.row,1⟩)
   (fun k=>k<=l.length/\(l.take k).all (dP s)=true) (fun k=>l.length - k) 0 ⟨Nat.zero_le _,by simp⟩ (bY.d1 _ (b8 rfl) (by omega) rfl ?_) (fun k hk=> ?_)
  ·(repeat(first|exact aw|refine ao ?_|refine ah rfl ?_|refine ah (aT (aS (by omega))) ?_|refine aF rfl (by simp[V.refs,V.ag]<;>first|omega|assumption) ?_))
  simp+contextual (disch:=first|omega|simp only[go_sem,false_implies]) only[go_sem,wrap64,if_pos,and_self]
  refine ay (fun h2=> ?_) (fun h2=> ?_)
  ·simp at h2
   obtain⟨x,hx⟩:=a7 h2
   simp+contextual (disch:=first|omega|simp only[go_sem,false_implies]) only[go_sem,wrap64,if_pos,hx]
   refine cm (AV s hs x (hf x (List.mem_of_getElem? hx))) rfl ?_
   simp+contextual (disch:=first|omega|simp only[go_sem,false_implies]) only[go_sem,wrap64,if_pos,and_self]
   refine aK (bw rfl) ?_
   simp+contextual (disch:=first|omega|simp only[go_sem,false_implies]) only[go_sem,wrap64,if_pos,and_self]
   refine ay (fun h3=> ?_) (fun h3=> ?_)
   ·simp+contextual (disch:=first|omega|simp only[go_sem,false_implies]) only[go_sem,wrap64,if_pos,and_self]
    simp at h3
    simp[iH,jx hx h3]
   ·simp+contextual (disch:=first|omega|simp only[go_sem,false_implies]) only[go_sem,wrap64,if_pos,and_self]
    simp at h3
    refine az (k+1) ⟨h2,kK hx hk.2 h3⟩ (by omega) (bY.d1 _ (b8 rfl) (by omega) rfl ?_)
    (repeat(first|exact aw|refine ao ?_|refine ah rfl ?_|refine ah (aT (aS (by omega))) ?_|refine aF rfl (by simp[V.refs,V.ag]<;>first|omega|assumption) ?_))
  ·simp at h2
   simp+contextual (disch:=first|omega|simp only[go_sem,false_implies]) only[go_sem,wrap64,if_pos,and_self]
   simp[iH,h1,kL hk.2 h2]
end Go.Proofs.YtealblliddhgiaaGreat
namespace Go.Proofs.YtealblliddhgiaaGreat
def Tm.sz (t:Tm):Nat:=(pre t 1).length
def jD(l:List Tm):Nat:=(l.map Tm.sz).sum
theorem Tm.sY (t:Tm):t.yW=(t.sz:Int):=rfl
theorem Tm.fi (t:Tm):t.sz=1+jD t.kids:=by
 unfold Tm.sz jD
 rw[lA,List.length_cons,List.length_flatMap,Nat.add_comm]
 congr 2
 exact List.map_congr_left fun k hk=>qF k _ _
theorem Tm.Cd (op n:Int)(l:List Tm):(Tm.mk op n l).sz=1+jD l:=Tm.fi _
theorem cB(k:Tm)(l:List Tm):jD (k::l)=k.sz+jD l:=by simp[jD]
theorem Tm.A2 (t:Tm):1<=t.sz:=by rw[Tm.fi];omega
theorem kN(k:Tm)(l:List Tm):Tm.dO (k::l)=Nat.max k.b7 (Tm.dO l):=by simp[Tm.dO]
theorem rn:∀ (l:List Tm) (n:Nat),Tm.dO l<=n↔∀k∈l,k.b7<=n
 |[],n=>by simp[Tm.dO]
 |x::l,n=>by
  rw[kN]
  simp only[List.mem_cons,forall_eq_or_imp, <- rn l n]
  exact Nat.max_le
theorem Tm.dq (t:Tm):t.b7=1+Tm.dO t.kids:=by cases t;simp[Tm.b7,Tm.kids]
theorem DC:∀t:Tm,∀left depth:Int,il t left depth=if(t.sz:Int)<=left/\(t.b7:Int)<=depth then left - t.sz else -1:=by
 refine Tm.jC fun t ih left depth=> ?_
 have hs:∀ (l:List Tm) (left d:Int),(∀k∈l,k∈t.kids)->0<=left->0<=d->cz l left d=if(jD l:Int)<=left/\(Tm.dO l:Int)<=d then left - jD l else -1:=by
  intro l
  induction l with
  |nil=>intro left d _ h1 h2;simp[cz,jD,Tm.dO,h1,h2]
  |cons k l tL=>
   intro left d hk h1 h2
   simp only[cz,if_pos h1]
   rw[ih k (hk k (by simp))]
   have hm:(Tm.dO (k::l):Int)<=d↔(k.b7:Int)<=d/\(Tm.dO l:Int)<=d:=by
    have:= @Nat.max_le k.b7 (Tm.dO l) d.toNat
    have e:Tm.dO (k::l)=max k.b7 (Tm.dO l):=kN k l
    rw[e];omega
   simp only[cB,hm]
   by_cases hc:(k.sz:Int)<=left/\(k.b7:Int)<=d
   ·rw[if_pos hc,tL _ _ (fun x hx=>hk x (by simp[hx])) (by omega) h2]
    by_cases rO:(jD l:Int)<=left - k.sz/\(Tm.dO l:Int)<=d
    ·rw[if_pos rO,if_pos (by omega)];omega
    ·rw[if_neg rO,if_neg (by omega)]
   ·rw[if_neg hc,nV (by omega),if_neg (by omega)]
 rw[yN,Tm.fi,Tm.dq]
 by_cases h:left<1\/depth<1
 ·rw[if_pos h,if_neg (by omega)]
 ·rw[if_neg h,hs _ _ _ (fun _ h=>h) (by omega) (by omega)]
  by_cases hc:(jD t.kids:Int)<=left - 1/\(Tm.dO t.kids:Int)<=depth - 1
  ·rw[if_pos hc,if_pos (by omega)];omega
  ·rw[if_neg hc,if_neg (by omega)]
theorem mM(t:Tm)(left depth:Int):0<=il t left depth↔(t.sz:Int)<=left/\(t.b7:Int)<=depth:=by
 rw[DC];split<;>omega
theorem lE(t:Tm):iE t=true↔t.sz<=50/\t.b7<=14:=by
 simp only[iE,decide_eq_true_eq,mM];omega
theorem Tm.NF.Gl {t:Tm}(hf:t.fits)(h:iE t=true):t.NF:=by
 rw[lE]at h
 exact⟨⟨hf,by omega⟩,by rw[Tm.sY];omega⟩
theorem DD:∀ (t:Tm) (d m:Int),(∀x∈pre t d,x.2<=m)↔d+t.b7 - 1<=m:=by
 refine Tm.jC fun t ih d m=> ?_
 rw[lA,Tm.dq]
 simp only[List.mem_cons,forall_eq_or_imp,List.mem_flatMap]
 have h1:(∀x:Tm×Int,(∃k,k∈t.kids/\x∈pre k (d+1))->x.2<=m)↔∀k∈t.kids,d+1+k.b7 - 1<=m:=by
  constructor
  ·intro h k hk
   exact(ih k hk _ _).1 fun x hx=>h x ⟨k,hk,hx⟩
  ·rintro h x ⟨k,hk,hx⟩
   exact(ih k hk _ _).2 (h k hk) x hx
 rw[h1]
 constructor
 ·rintro⟨h2,h3⟩
  have:=(rn t.kids (m - d).toNat).2 fun k hk=>by have:=h3 k hk;omega
  omega
 ·intro h
  have:=(rn t.kids (m - d).toNat).1 (by omega)
  exact⟨by omega,fun k hk=>by have:=this k hk;omega⟩
theorem Iv(p:Tm->Bool):∀ (t:Tm) (d:Int),(pre t d).all (fun x=>p x.1)=(p t&&t.kids.all fun k=>(pre k (d+1)).all fun x=>p x.1):=by
 intro t d
 rw[lA,List.all_cons,List.all_flatMap]
theorem A3(s:bP):∀ (t:Tm) (d:Int),eT s t=(pre t d).all fun x=>bC s x.1:=by
 refine Tm.jC fun t ih d=> ?_
 rw[Iv (bC s),kJ]
 congr 1
 rw[Bool.eq_iff_iff]
 simp only[List.all_eq_true (l:=t.kids)]
 exact forall_congr' fun k=>forall_congr' fun hk=>by rw[ih k hk (d+1)]
theorem Gm{s:bP}{t:Tm}(h:bC s t=true):fg t.op 1 15=true:=by
 rw[show fg t.op 1 15=true↔1<=t.op/\t.op<=15 by simp[fg]]
 by_cases h6:fg t.op 6 15=true
 ·simp[fg]at h6;omega
 ·simp only[bC,if_neg h6]at h
  by_cases h1:t.op=1
  ·omega
  by_cases h2:t.op=2
  ·omega
  by_cases h3:t.op=3
  ·omega
  by_cases h4:t.op=4
  ·omega
  by_cases h5:t.op=5
  ·omega
  by_cases h8:t.op=8
  ·omega
  rw[if_neg h1,if_neg h2,if_neg h3,if_neg h4,if_neg h5,if_neg h8]at h
  cases h
def sZ(s:bP)(x:Tm×Int):Bool:= !(decide (12<x.2)|| !fg x.1.op 1 15|| !bC s x.1)
theorem qG(s:bP):∀ (l:List (Tm×Int)) (n:Int) (b:Bool),(aO (uX fJ (gB s)) (n,b) l).2=(decide (l=[]\/n+l.length<=40)&&l.all (sZ s))
 |[],n,b=>by simp[aO]
 |x::l,n,b=>by
  have e1:∀c,nh s n x=c->uX fJ (gB s) (n,b) x=((n+1, !c), !c):=fun c hc=>by show((n+1, !nh s n x),(fJ (n+1, !nh s n x)).isNone)=_;rw[hc];cases c<;>rfl
  have hb:nh s n x=(decide (40<n+1)|| !sZ s x):=by simp[nh,sZ,Bool.or_assoc]
  rw[List.all_cons]
  cases hg:sZ s x with
  |false=>
   have e:nh s n x=true:=by rw[hb,hg];simp
   rw[aO,e1 _ e];simp
  |true=>
   by_cases Zq:40<n+1
   ·have:decide (x::l=[]\/n+(x::l).length<=40)=false:=by simp;omega
    have e:nh s n x=true:=by rw[hb];simp[Zq]
    rw[this,Bool.false_and,aO,e1 _ e];simp
   ·have e:nh s n x=false:=by rw[hb,hg];simp;omega
    rw[aO,e1 _ e]
    simp only[Bool.not_false,if_true,qG s l,Bool.true_and]
    congr 1
    cases l with
    |nil=>simp;omega
    |cons y l=>simp;omega
theorem fN(s:bP)(t:Tm):fG s t=dP s t:=by
 rw[fG,qG,dP,A3 s t 1,Bool.eq_iff_iff]
 have hn:pre t 1≠[]:=by rw[lA];simp
 simp only[Bool.and_eq_true,decide_eq_true_eq,hn,false_or,mM,List.all_eq_true]
 have hd:=DD t 1 12
 constructor
 ·rintro⟨h1,h2⟩
  have h3:∀x∈pre t 1,x.2<=12:=fun x hx=>by have:=h2 x hx;simp[sZ]at this;omega
  have:=hd.1 h3
  exact⟨⟨by unfold Tm.sz;omega,by omega⟩,fun x hx=>by have:=h2 x hx;simp[sZ]at this;exact this.2⟩
 ·rintro⟨⟨h1,h2⟩,h3⟩
  have h4:=hd.2 (by omega)
  refine⟨by unfold Tm.sz at h1;omega,fun x hx=> ?_⟩
  have h5:=h4 x hx
  have h6:=h3 x hx
  have h7:=Gm h6
  simp[sZ,h6,h7];omega
theorem m9(s:bP)(l:List Tm):eH s l=iH s l:=by
 unfold eH iH;congr 2;funext t;exact fN s t
theorem A4:∀a:Tm,o9 a a=true:=by
 refine Tm.jC fun a ih=> ?_
 rw[yO]
 have:jt a.kids a.kids=true:=(mZ _ _ rfl).2 fun i x y hx hy=>by
  rw[hx]at hy;injection hy with hy;subst hy;exact ih x (List.mem_of_getElem? hx)
 simp[this]
end Go.Proofs.YtealblliddhgiaaGreat
