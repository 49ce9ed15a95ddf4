/-
  A PART OF THE PROOF. Conditions: none.
-/
import Derived.Test.YtealblliddhgiaaGreatVr14
set_option linter.unusedSimpArgs false
set_option linter.unusedVariables false
namespace Go.Proofs.YtealblliddhgiaaGreat
theorem yy{σ:Type}(l:List Tm)(hl:l.length<=9223372036854775807)(g:Nat)(dx:List V)(base:Nat)(H:σ->Nat->ae)(step:σ->Tm->σ×Bool)(hc:∀r∈V.ag dx,r<base)(ok:σ->Prop)(bz:∀x∈l,∀s,ok s->(step s x).2=true->ok (step s x).1)
 (h:∀x∈l,∀s,ok s->wO Tryz.prog g (.d x.d::dx) base (H s) (H (step s x).1) (.d (.bool (step s x).2))) (s:σ) (qh:ok s):
 wO Tryz.prog 87 [.d (.sl (l.map Tm.d)), .func (.func g) [] dx] base (H s) (H (aS step s l).1) (.d (.bool (aS step s l).2)):=by
 intro o nx hI K X hK
 have zw:∀r∈V.ag dx,r<nx:=fun r hr=>Nat.lt_of_lt_of_le (hc r hr) hI.le
 refine eI.bt mix Ps (by simp) ?_
 rw[UI]
 simp+contextual only[go_sem]
 refine bn (fun i:Nat×σ×(Nat->ae)×Nat=>⟨bF [.aa, .func (.func g) [] dx, .aa, .aa, .aa, .aa, .aa, .d (.sl (l.map Tm.d)), .d (.i l.length), .d (.i i.1)],i.2.2.1,i.2.2.2⟩)
  (fun i=>i.1<=l.length/\gu base (H i.2.1) i.2.2.1 i.2.2.2/\nx<=i.2.2.2/\(∀id,base<=id->id<nx->i.2.2.1 id=o id)/\aS step s l=aS step i.2.1 (l.drop i.1)/\ok i.2.1) (fun i=>l.length - i.1) (0,s,o,nx)
  ⟨Nat.zero_le _,hI,Nat.le_refl _,fun _ _ _=>rfl,rfl,qh⟩ ?_ ?_
 ·dsimp only
  refine cq.cN _ (Nat.le_refl _) (by omega) hI.cQ (fun _ _=>rfl) ?_
  (repeat(first|exact aw|refine aq ?_|refine ah rfl ?_|refine ah (aV (aU (by omega))) ?_|refine aF rfl (by simp[V.refs,V.ag]<;>first|omega|assumption) ?_))
 rintro⟨k,s',o',nx'⟩ ⟨hk,BJ,hn,cU,hf,sL⟩
 simp only at hk BJ hn cU hf sL
 simp+contextual only[go_sem]
 refine ax (fun h1=> ?_) (fun h1=> ?_)
 ·simp at h1
  obtain⟨x,hx⟩:=bH h1
  have lM:=List.mem_of_getElem? hx
  have hd:l.drop k=x::l.drop (k+1):=by
   rw[List.drop_eq_getElem_cons h1]
   rw[List.getElem?_eq_getElem h1]at hx;injection hx with hx;rw[hx]
  simp+contextual only[go_sem,hx,Nat.add_assoc,Nat.left_eq_add,Nat.add_eq_left,Nat.add_left_cancel_iff]
  have Ru:=BJ.le
  refine mm (h x lM s' sL _ _ (?_:gu base (H s') _ (nx'+7)) _ _ fun o2 n2 m1 m2 m3=> ?_)
  ·exact(BJ.ao (i:=nx'+3) (m:=nx'+7) (by omega) (by omega) (by omega) rfl).ao (by omega) (by omega) (by omega) rfl
  have yz:∀id,base<=id->id<nx->o2 id=o id:=fun id h2 h3=>by
   rw[m3 id h2 (by omega),ad _ _ _ _ (by omega),ad _ _ _ _ (by omega),cU id h2 h3]
  simp+contextual only[go_sem]
  refine ax (fun h2=> ?_) (fun h2=> ?_)
  ·simp+contextual only[go_sem]
   simp at h2
   have:aS step s l=((step s' x).1,false):=by rw[hf,hd,aS,if_neg (by rw[h2];exact Bool.false_ne_true)]
   rw[this]at hK
   exact hK _ _ (by omega) (m2.mono (by omega)) yz
  ·simp+contextual only[go_sem]
   simp at h2
   have:aS step s l=aS step (step s' x).1 (l.drop (k+1)):=by rw[hf,hd,aS,if_pos h2]
   refine aE (k+1,(step s' x).1,o2,n2) ⟨h1,m2,by dsimp only;omega,yz,this,bz x lM s' sL h2⟩ (by dsimp only;omega) ?_
   dsimp only
   have Jx:∀r∈V.ag dx,r<n2:=fun r hr=>by have:=zw r hr;omega
   refine cq.cN _ (by omega) (by omega) m2.cQ (fun _ _=>rfl) ?_
   (repeat(first|exact aw|refine aq ?_|refine ah rfl ?_|refine ah (aV (aU (by omega))) ?_|refine aF rfl (by simp[V.refs,V.ag]<;>first|omega|assumption) ?_))
 ·simp+contextual only[go_sem]
  simp at h1
  rw[List.drop_eq_nil_of_le h1]at hf
  simp only[aS]at hf
  rw[hf]at hK
  exact hK _ _ (by omega) (BJ.mono (by omega)) cU
theorem wv{α σ:Type}(step:σ->α->σ×Bool)(a b:List α):∀s,aS step s (a++b)=if(aS step s a).2=true then aS step (aS step s a).1 b else((aS step s a).1,false):=by
 induction a with
 |nil=>intro s;simp[aS]
 |cons x a ih=>
  intro s
  simp only[List.cons_append,aS]
  split
  ·exact ih _
  ·rename_i h;simp
theorem Aw{α β σ:Type}(step:σ->β->σ×Bool)(f:α->List β)(l:List α):∀s,aS step s (l.flatMap f)=aS (fun s x=>aS step s (f x)) s l:=by
 induction l with
 |nil=>intro s;rfl
 |cons x l ih=>intro s;simp only[List.flatMap_cons,wv,aS,ih]
theorem yA{α σ:Type}{step:σ->α->σ×Bool}{ok:σ->Prop}:∀ (l:List α),(∀x∈l,∀s,ok s->(step s x).2=true->ok (step s x).1)->∀s,ok s->(aS step s l).2=true->ok (aS step s l).1
 |[],_,s,h,_=>h
 |x::l,bz,s,h,h2=>by
  simp only[aS]at h2|-
  split at h2
  ·rename_i hb
   rw[if_pos hb]
   exact yA l (fun y hy=>bz y (by simp[hy])) _ (bz x (by simp) s h hb) h2
  ·cases h2
def WQ(P:Program)(DW:Nat)(args:List V)(base:Nat)(h h2:Nat->ae)(v:V):Prop:=
 ∀o nx,gu base h o nx->∀K X,QJ base h2 v o nx K->dD P DW args o nx K X
section
variable {σ:Type}(base DW:Nat)(H:σ->Nat->ae)(step:σ->Tm×Int->σ×Bool)(ok:σ->Prop)
theorem HD:∀t:Tm,t.fits->∀d:Int,0<=d->d+t.cc<=1000000->(∀x∈pre t d,∀s,ok s->(step s x).2=true->ok (step s x).1)->(∀x∈pre t d,∀s,ok s->WQ Tryz.prog DW [.d x.1.d, .d (.i x.2)] base (H s) (H (step s x).1) (.d (.bool (step s x).2)))->DW<base->
 ∀ (c:Nat) (o0:Nat->ae) (yb vb:Nat),base<=c->base<=yb->yb<c->base<=vb->vb<c->o0 yb= .row [.ke DW]->o0 vb= .row [.func (.func 114) [] [.ptr yb 0, .ptr vb 0]]->
 ∀s,ok s->wO Tryz.prog 114 [.d t.d, .d (.i d), .ptr yb 0, .ptr vb 0] c (ext base (H s) o0) (ext base (H (aS step s (pre t d)).1) o0) (.d (.bool (aS step s (pre t d)).2)):=by
 refine Tm.gN fun t ih hf d Y6 hd bz hR LH c o0 yb vb Y7 WR hy WS hv oy ov s qh=> ?_
 have qF:=(Tm.cY _).1 hf
 intro o nx hI K X hK
 have hle:=hI.le
 have WT:o yb= .row [.ke DW]:=by rw[hI.eq yb hy];unfold ext;rw[if_neg (by omega),oy]
 have WU:o vb= .row [.func (.func 114) [] [.ptr yb 0, .ptr vb 0]]:=by rw[hI.eq vb hv];unfold ext;rw[if_neg (by omega),ov]
 have y1:yb≠nx:=by omega
 have y2:∀k,yb≠nx+k:=fun k=>by omega
 have y3:vb≠nx:=by omega
 have y4:∀k,vb≠nx+k:=fun k=>by omega
 refine eI.bt mix Jl (by simp) ?_
 rw[Lk]
 simp+contextual only[go_sem,WT,WU,y1,y2,y3,y4,Nat.add_assoc,Nat.left_eq_add,Nat.add_eq_left,Nat.add_left_cancel_iff]
 have FB:=ll t d
 have dT:∀k∈t.kids,∀x∈pre k (d+1),x∈pre t d:=fun k hk x hx=>by
  rw[FB];exact List.mem_cons_of_mem _ (List.mem_flatMap.2 ⟨k,hk,hx⟩)
 have hb:∀id,id<base->o id=H s id:=fun id aj=>by rw[hI.eq id (by omega)];unfold ext;rw[if_pos aj]
 have Yq:gu base (H s) o nx:=⟨hI.cQ,by omega,hb⟩
 refine yp (hR (t,d) (by rw[FB];simp) s qh _ _ ((Yq.ao (i:=nx) (m:=nx+6) (by omega) (by omega) (by omega) rfl).ao (i:=nx+1) (by omega) (by omega) (by omega) rfl) _ _ fun o2 n2 m1 m2 m3=> ?_)
 have k0:o2 nx= .row t.row:=by rw[m3 nx (by omega) (by omega),ad _ _ _ _ (by omega),ab]
 have k1:o2 (nx+1)= .row [.d (.i d)]:=by rw[m3 (nx+1) (by omega) (by omega),ab]
 have hold:∀id,base<=id->id<nx->o2 id=o id:=fun id h1 h2=>by rw[m3 id h1 (by omega),ad _ _ _ _ (by omega),ad _ _ _ _ (by omega)]
 have uC:∀id,base<=id->id<c->o id=o0 id:=fun id h1 h2=>by rw[hI.eq id h2];unfold ext;rw[if_neg (by omega)]
 cases QL:(step s (t,d)).2 with
 |false=>
  simp+contextual only[go_sem,QL]
  have RR:aS step s (pre t d)=((step s (t,d)).1,false):=by rw[FB,aS,if_neg (by rw[QL];exact Bool.false_ne_true)]
  rw[RR]at hK
  refine hK _ _ (by omega) ⟨m2.cQ.mono (by omega),by omega,fun id aj=> ?_⟩ (fun id h1 h2=>hold id (by omega) h2)
  unfold ext
  split
  ·exact m2.eq id (by assumption)
  ·rw[hold id (by omega) (by omega),uC id (by omega) aj]
 |true=>
  have RR:aS step s (pre t d)=aS (fun s k=>aS step s (pre k (d+1))) (step s (t,d)).1 t.kids:=by rw[FB,aS,if_pos QL,Aw]
  simp+contextual only[go_sem,QL,k0,k1]
  have q0:o2 yb= .row [.ke DW]:=by rw[hold yb WR (by omega),WT]
  have q1:o2 vb= .row [.func (.func 114) [] [.ptr yb 0, .ptr vb 0]]:=by rw[hold vb WS (by omega),WU]
  have m0:=m2.le
  refine cK (yy t.kids qF.1 115 [.ptr vb 0, .ptr (nx+1) 0] n2 (fun s=>ext base (H s) o2) (fun s k=>aS step s (pre k (d+1))) ?_ ok ?_ ?_ (step s (t,d)).1 (bz (t,d) (by rw[FB];simp) s qh QL) _ _ ?_ _ _ ?_)
  ·simp[V.ag,V.refs];omega
  ·exact fun k hk s' h1 h2=>yA _ (fun x hx=>bz x (dT k hk x hx)) s' h1 h2
  ·intro k hk s' ij o3 n3 RS K3 X3 Yr
   have l3:=RS.le
   have r0:o3 vb= .row [.func (.func 114) [] [.ptr yb 0, .ptr vb 0]]:=by rw[RS.eq vb (by omega)];unfold ext;rw[if_neg (by omega),q1]
   have r1:o3 (nx+1)= .row [.d (.i d)]:=by rw[RS.eq (nx+1) (by omega)];unfold ext;rw[if_neg (by omega),k1]
   have y5:vb≠n3:=by omega
   have y6:∀k,vb≠n3+k:=fun k=>by omega
   have y7:nx+1≠n3:=by omega
   have y8:∀k,nx+1≠n3+k:=fun k=>by omega
   have hh:=Tm.dc hk
   refine eI.bt mix Jm (by simp) ?_
   rw[Ll]
   simp+contextual only[go_sem,r0,r1,y5,y6,y7,y8]
   rw[wrap64 (n:=d+1) (by omega) (by omega)]
   refine cK (ih k hk (qF.2 k hk) (d+1) (by omega) (by omega) (fun x hx=>bz x (dT k hk x hx)) (fun x hx=>hR x (dT k hk x hx)) LH n2 o2 yb vb (by omega) WR (by omega) WS (by omega) q0 q1 s' ij _ _ (RS.ao (i:=n3) (m:=n3+6) (by omega) (by omega) (by omega) rfl) _ _ fun o4 n4 p1 p2 p3=> ?_)
   simp+contextual only[go_sem]
   refine Yr _ _ (by omega) (p2.mono (by omega)) (fun id h1 h2=> ?_)
   rw[p3 id h1 (by omega),ad _ _ _ _ (by omega)]
  ·exact(m2.mono (by omega)).ext (by omega) (by omega)
  ·intro o5 n5 p1 p2 p3
   simp+contextual only[go_sem]
   rw[<- RR]
   refine hK _ _ (by omega) ⟨p2.cQ.mono (by omega),by omega,fun id aj=> ?_⟩ (fun id h1 h2=> ?_)
   ·rw[p2.eq id (by omega), <- RR]
    unfold ext
    split
    ·rfl
    ·rw[hold id (by omega) (by omega),uC id (by omega) aj]
   ·rw[p2.eq id (by omega)]
    unfold ext
    rw[if_neg (by omega),hold id (by omega) h2]
theorem FC(t:Tm)(hf:t.fits)(hd:t.cc<=900000)(bz:∀x∈pre t 1,∀s,ok s->(step s x).2=true->ok (step s x).1)(hR:∀x∈pre t 1,∀s,ok s->WQ Tryz.prog DW [.d x.1.d, .d (.i x.2)] base (H s) (H (step s x).1) (.d (.bool (step s x).2)))(LH:DW<base)(tb:Nat)(LI:tb<base)(s:σ)(qh:ok s)(a7:H s tb= .row t.row):
 wO Tryz.prog 113 [.ke DW, .ptr tb 0] base (H s) (H (aS step s (pre t 1)).1) (.bT []):=by
 intro o nx hI K X hK
 have hle:=hI.le
 have ot:o tb= .row t.row:=by rw[hI.eq tb LI,a7]
 have y1:tb≠nx:=by omega
 have y2:∀k,tb≠nx+k:=fun k=>by omega
 refine eI.bt mix Jk (by simp) ?_
 rw[Lj]
 simp+contextual only[go_sem,ot,y1,y2,Nat.add_assoc,Nat.left_eq_add,Nat.add_eq_left,Nat.add_left_cancel_iff]
 have Ys:gu base (H s) (ao (ao (ao o nx (.row [.ke DW])) (nx+1) (.row [.d .aW])) (nx+1) (.row [.func (.func 114) [] [.ptr nx 0, .ptr (nx+1) 0]])) (nx+6):=by
  refine((hI.ao (i:=nx) (m:=nx+6) (by omega) (by omega) (by omega) ?_).ao (i:=nx+1) (m:=nx+6) (by omega) (by omega) (by omega) rfl).ao (i:=nx+1) (by omega) (by omega) (by omega) ?_
  ·simp[ae.refs,V.ag,V.refs];omega
  ·simp[ae.refs,V.ag,V.refs]
 refine cK (HD base DW H step ok t hf 1 (by omega) (by omega) bz hR LH (nx+6) _ nx (nx+1) (by omega) hle (by omega) (by omega) (by omega) ?_ ?_ s qh _ _ (Ys.ext (Nat.le_refl _) (by omega)) _ _ ?_)
 ·(repeat(first|rfl|rw[ab]|rw[ad _ _ _ _ (by omega)]))
 ·(repeat(first|rfl|rw[ab]|rw[ad _ _ _ _ (by omega)]))
 intro o2 n2 m1 m2 m3
 simp+contextual only[go_sem]
 refine hK _ _ (by omega) ⟨m2.cQ,by omega,fun id aj=> ?_⟩ (fun id h1 h2=> ?_)
 ·rw[m2.eq id (by omega)];unfold ext;rw[if_pos aj]
 ·rw[m2.eq id (by omega)];unfold ext;rw[if_neg (by omega)]
  (repeat(first|rfl|rw[ab]|rw[ad _ _ _ _ (by omega)]))
end
theorem yB(t:Tm)(o:Nat->ae)(nx:Nat)(K X:V->(Nat->ae)->Nat->Prop)(h:K (.func (.func 113) [] [.ptr nx 0]) (ao o nx (.row t.row)) (nx+4)):eI Tryz.prog 81 [.d t.d] o nx K X:=by
 refine eI.bt mix Pq (by simp) ?_
 rw[UC]
 simp+contextual only[go_sem]
 exact h
end Go.Proofs.YtealblliddhgiaaGreat
namespace Go.Proofs.YtealblliddhgiaaGreat
def QM:Option ka->e9
 |none=> .normal
 |some .ret=> .ret
 |some (.exit j)=> .exit j
def uR{σ:Type}(J:σ->Option ka)(step:σ->Tm×Int->σ)(s:σ)(x:Tm×Int):σ×Bool:=(step s x,(J (step s x)).isNone)
theorem BK{σ:Type}(J:σ->Option ka)(step:σ->Tm×Int->σ):∀ (l:List (Tm×Int)) (s:σ),J s=none->(aS (uR J step) s l).2=(J (aS (uR J step) s l).1).isNone
 |[],s,h=>by simp[aS,h]
 |x::l,s,h=>by
  simp only[aS]
  split
  ·rename_i hb
   exact BK J step l _ (by simpa[uR]using hb)
  ·rename_i hb
   cases hj:J (step s x)with
   |none=>exact absurd (by simp[uR,hj]) hb
   |some j=>simp[uR,hj]
theorem qu{σ:Type}(t:Tm)(hf:t.fits)(hd:t.cc<=900000){n:Nat}{ps:List Nat}{lO gU:IC}{Q:e9->S->Prop}{e:Nat->V}{o:Nat->ae}{nx tb:Nat}(env:List V)(he:nn e env 0)
 (Hj:ps.all (fun t=>decide (t<n))=true) (hl:ps.length=2) (hg:Good o nx) (hrefs:∀r∈V.ag env,r<nx) (ht:o tb= .row t.row)
 (G:σ->Nat->ae) (J:σ->Option ka) (step:σ->Tm×Int->σ) (ok:σ->Prop) (s0:σ) (qh:ok s0) (WV:J s0=none) (h0:∀id,id<nx->o id=G s0 id) (bz:∀x∈pre t 1,∀s,ok s->J s=none->J (step s x)=none->ok (step s x))
 (zL:∀L,jr Tryz.prog n env ps lO gU L->(∀st pd m,nx<=m->(L st pd).refs.all (fun r=>decide (r<m))=true)->∀x∈pre t 1,∀s,ok s->J s=none->∀o3 n3,gu nx (G s) o3 n3->nx<n3->o3 nx=L .ready none->∀K X,
  (∀e' o' n' st pd,n3<=n'->gu nx (G (step s x)) o' n'->o' nx=L st pd->(∀id,nx<id->id<n3->o' id=o3 id)->lq nx K X (QM (J (step s x))) ⟨e',o',n'⟩)->
  jZ Tryz.prog n n3 true lO (sJ Tryz.prog n n3 nx gU K X) ⟨sc (bF env) ps [.d x.1.d, .d (.i x.2)],o3,n3⟩)
 (nI:∀o' n',gu nx (G (aS (uR J step) s0 (pre t 1)).1) o' n'->vA Q (J (aS (uR J step) s0 (pre t 1)).1) ⟨e,o',n'⟩):
 Ae Tryz.prog n false ps lO gU Q ⟨e,o,nx⟩ (.func (.func 113) [] [.ptr tb 0]):=by
 refine Lz env he (fun L hL=> ?_)
 have LI:tb<nx:=hg.lt (by rw[ht];exact ae.noConfusion)
 let H:σ->Nat->ae:=fun s id=>if id<nx then G s id else if id=nx then(match J s with|none=>L .ready none|some j=>L .done (some j))else .no
 have JU:∀s id,id<nx->H s id=G s id:=fun s id h=>if_pos h
 have RT:∀s,J s=none->H s nx=L .ready none:=fun s h=>by show(if nx<nx then _ else _)=_;rw[if_neg (by omega),if_pos rfl,h]
 have UX:∀s j,J s=some j->H s nx=L .done (some j):=fun s j h=>by show(if nx<nx then _ else _)=_;rw[if_neg (by omega),if_pos rfl,h]
 have dK:∀st pd m,nx<=m->(L st pd).refs.all (fun r=>decide (r<m))=true:=fun st pd m hm=>by
  rw[hL.refs,List.all_eq_true]
  intro r hr;have:=hrefs r hr;exact decide_eq_true (by omega)
 refine FC (nx+1) nx H (uR J step) (fun s=>ok s/\J s=none) t hf hd (fun x hx s h1 h2=> ?_) (fun x hx s h1=> ?_) (by omega) tb (by omega) s0 ⟨qh,WV⟩ (by rw[JU _ _ LI, <- h0 _ LI,ht]) _ _ ⟨?_,Nat.le_refl _,fun id aj=> ?_⟩ _ _ ?_
 ·have hj:J (step s x)=none:=by simpa[uR]using h2
  exact⟨bz x hx s h1.1 h1.2 hj,hj⟩
 ·intro o3 n3 hI K X hK
  have hle:=hI.le
  have RU:o3 nx=L .ready none:=by rw[hI.eq nx (by omega),RT s h1.2]
  refine Fy hL mix RU (by omega) Hj (by simp[hl]) ?_
  refine zL L hL dK x hx s h1.1 h1.2 o3 n3 ⟨hI.cQ,by omega,fun id aj=>by rw[hI.eq id (by omega),JU _ _ aj]⟩ (by omega) RU K X (fun e' o' n' st pd k1 k2 k3 k4=> ?_)
  have key:∀st' pd' b,(J (step s x)).isNone=b->H (step s x) nx=L st' pd'->K (.d (.bool b)) (ao o' nx (L st' pd')) n':=fun st' pd' b hb hh=>by
   subst hb
   refine hK _ _ k1 ⟨k2.cQ.ao (by omega) (dK _ _ _ (by omega)),by omega,fun id aj=> ?_⟩ (fun id g1 g2=> ?_)
   ·by_cases FE:id=nx
    ·subst FE;rw[ab];exact hh.symm
    ·rw[ad _ _ _ _ FE]
     show o' id=H (step s x) id
     rw[JU _ _ (by omega)];exact k2.eq id (by omega)
   ·rw[ad _ _ _ _ (by omega)];exact k4 id (by omega) g2
  cases hj:J (step s x)with
  |none=>exact CX hL k3 (key _ _ _ (by rw[hj];rfl) (RT _ hj))
  |some j=>
   cases j with
   |ret=>exact As hL k3 (key _ _ _ (by rw[hj];rfl) (UX _ _ hj))
   |exit j=>exact yr hL k3 (key _ _ _ (by rw[hj];rfl) (UX _ _ hj))
 ·exact(hg.mono (by omega)).ao (by omega) (dK _ _ _ (by omega))
 ·by_cases FE:id=nx
  ·subst FE;rw[ab,RT _ WV]
  ·rw[ad _ _ _ _ FE,JU _ _ (by omega)];exact h0 id (by omega)
 ·intro o' n' k1 k2 k3
  have hle:=k2.le
  generalize Y8:(aS (uR J step) s0 (pre t 1)).1=sf at*
  have kk:∀st pd,gu nx (G sf) (ao o' nx (L st pd)) n':=fun st pd=>⟨k2.cQ.ao (by omega) (dK _ _ _ (by omega)),by omega,fun id aj=>by rw[ad _ _ _ _ (by omega),k2.eq id (by omega),JU _ _ aj]⟩
  cases hj:J sf with
  |none=>
   refine⟨.ready,none,by rw[k2.eq nx (by omega),RT _ hj],(fun h=>by cases h), ?_⟩
   have:=nI _ _ (kk .exhausted none)
   rwa [hj]at this
  |some j=>
   refine⟨.done,some j,by rw[k2.eq nx (by omega),UX _ _ hj],(fun h=>by cases h), ?_⟩
   have:=nI _ _ (kk .exhausted (some j))
   rwa [hj]at this
end Go.Proofs.YtealblliddhgiaaGreat
namespace Go.Proofs.YtealblliddhgiaaGreat
theorem eK(n low high:Int):cj Tryz.prog 79 [.i n, .i low, .i high] (.ret [.bool (eX n low high)]):=by
 refine cj.bt mix Po (by simp) ?_
 rw[UA]
 simp+contextual only[go_sem]
 rfl
theorem Ax(s:bP)(t:Tm)(h:t.op=1):cj Tryz.prog 118 [s.d,t.d] (.ret [.bool (bp s t)]):=by
 have hn:bp s t=(eX t.n 0 19&&(t.kids.length:Int)==0):=by simp[bp,h,Bool.and_comm]
 refine cj.bt mix Jp (by simp) ?_
 rw[Lo]
 simp+contextual only[go_sem]
 refine aJ (eK _ _ _) rfl ?_
 simp+contextual only[go_sem]
 rw[hn]
theorem C1(s:bP)(t:Tm)(h:t.op=2):cj Tryz.prog 119 [s.d,t.d] (.ret [.bool (bp s t)]):=by
 have hn:bp s t=(eX t.n (-1000000) 1000000&&(t.kids.length:Int)==0):=by simp[bp,h,Bool.and_comm]
 refine cj.bt mix Jq (by simp) ?_
 rw[Lp]
 simp+contextual only[go_sem]
 refine aJ (eK _ _ _) rfl ?_
 simp+contextual only[go_sem]
 rw[hn]
theorem QN(s:bP)(t:Tm)(h:t.op=8):cj Tryz.prog 123 [s.d,t.d] (.ret [.bool (bp s t)]):=by
 have hn:bp s t=(eX t.n 0 19&&(t.kids.length:Int)==2):=by simp[bp,h,Bool.and_comm]
 refine cj.bt mix Ju (by simp) ?_
 rw[Lt]
 simp+contextual only[go_sem]
 refine aJ (eK _ _ _) rfl ?_
 simp+contextual only[go_sem]
 rw[hn]
theorem LJ(s:bP)(t:Tm)(h:t.op=6\/t.op=7\/t.op=9\/t.op=10\/t.op=11\/t.op=12\/t.op=13\/t.op=14\/t.op=15):cj Tryz.prog 124 [s.d,t.d] (.ret [.bool (bp s t)]):=by
 have hn:bp s t=(t.n==0&&(t.kids.length:Int)==2):=by
  rcases h with h|h|h|h|h|h|h|h|h<;>simp[bp,h,eX,Bool.and_comm]
 refine cj.bt mix Jv (by simp) ?_
 rw[Lu]
 simp+contextual only[go_sem]
 rw[hn]
theorem QO(s:bP)(t:Tm)(hs:s.Fits)(h:t.op=3):cj Tryz.prog 120 [s.d,t.d] (.ret [.bool (bp s t)]):=by
 have hn:bp s t=(eX t.n 0 (s.cons.length - 1)&&(t.kids.length:Int)==jn s.cons t.n):=by simp[bp,h]
 refine cj.bt mix Jr (by simp) ?_
 rw[Lq]
 simp+contextual only[go_sem]
 rw[wrap64 (by have:=hs.lc;omega) (by have:=hs.lc;omega)]
 refine dV (eK _ _ _) rfl ?_
 cases hI:eX t.n 0 (s.cons.length - 1)with
 |false=>
  simp+contextual only[go_sem,hI]
  refine aP (bE rfl) ?_
  simp+contextual only[go_sem]
  rw[hn,hI];rfl
 |true=>
  obtain⟨h0,x,hx⟩:=mO hI
  simp+contextual only[go_sem,hI,hx,h0]
  refine aP (bE rfl) ?_
  simp+contextual only[go_sem]
  rw[hn,hI,gQ hx];rfl
theorem QP(s:bP)(t:Tm)(hs:s.Fits)(h:t.op=4):cj Tryz.prog 121 [s.d,t.d] (.ret [.bool (bp s t)]):=by
 have hn:bp s t=(eX t.n 0 (s.dE.length - 1)&&(t.kids.length:Int)==jn s.dE t.n):=by simp[bp,h]
 refine cj.bt mix Js (by simp) ?_
 rw[Lr]
 simp+contextual only[go_sem]
 rw[wrap64 (by have:=hs.lf;omega) (by have:=hs.lf;omega)]
 refine dV (eK _ _ _) rfl ?_
 cases hI:eX t.n 0 (s.dE.length - 1)with
 |false=>
  simp+contextual only[go_sem,hI]
  refine aP (bE rfl) ?_
  simp+contextual only[go_sem]
  rw[hn,hI];rfl
 |true=>
  obtain⟨h0,x,hx⟩:=mO hI
  simp+contextual only[go_sem,hI,hx,h0]
  refine aP (bE rfl) ?_
  simp+contextual only[go_sem]
  rw[hn,hI,gQ hx];rfl
theorem LK(s:bP)(t:Tm)(hs:s.Fits)(h:t.op=5):cj Tryz.prog 122 [s.d,t.d] (.ret [.bool (bp s t)]):=by
 have hn:bp s t=(eX t.n 0 (s.dE.length - 1)&&decide ((t.kids.length:Int)<jn s.dE t.n)):=by simp[bp,h]
 refine cj.bt mix Jt (by simp) ?_
 rw[Ls]
 simp+contextual only[go_sem]
 rw[wrap64 (by have:=hs.lf;omega) (by have:=hs.lf;omega)]
 refine dV (eK _ _ _) rfl ?_
 cases hI:eX t.n 0 (s.dE.length - 1)with
 |false=>
  simp+contextual only[go_sem,hI]
  refine aP (bE rfl) ?_
  simp+contextual only[go_sem]
  rw[hn,hI];rfl
 |true=>
  obtain⟨h0,x,hx⟩:=mO hI
  simp+contextual only[go_sem,hI,hx,h0]
  refine aP (bE rfl) ?_
  simp+contextual only[go_sem]
  rw[hn,hI,gQ hx];rfl
@[reducible] def rf (n:Nat):V:= .func (.func n) [] []
@[reducible] def UY:List V:=[.d .aW,rf 118,rf 119,rf 120,rf 121,rf 122, .d .aW, .d .aW,rf 123, .d .aW, .d .aW, .d .aW, .d .aW, .d .aW, .d .aW, .d .aW]
@[reducible] def Ay:List V:=[.d .aW,rf 118,rf 119,rf 120,rf 121,rf 122,rf 124,rf 124,rf 123,rf 124,rf 124,rf 124,rf 124,rf 124,rf 124,rf 124]
def BL(k:Nat):List V:=Ay.take k++UY.drop k
theorem funcOf{P:Program}{t:TypeId}(h:(match P.underlying t with|some (.func _ _ _)=>true|_=>false)=true):∃a b c,P.underlying t=some (.func a b c):=by
 split at h
 ·exact⟨_,_,_,by assumption⟩
 ·cases h
@[go_sem] theorem UZ (o:Nat->ae) (nv:Bool):B7 Tryz.prog o 119 nv (.d .aW) (.d .aW)=some (.d (.bool true)):=by
  obtain⟨a,b,c,h⟩:=funcOf (P:=Tryz.prog) (t:=119) (by kernel_rfl)
  unfold B7;rw[h]
@[go_sem] theorem U0 (o:Nat->ae) (nv:Bool) (f:Fn) (x y:List V):B7 Tryz.prog o 119 nv (.func f x y) (.d .aW)=some (.d (.bool false)):=by
  obtain⟨a,b,c,h⟩:=funcOf (P:=Tryz.prog) (t:=119) (by kernel_rfl)
  unfold B7;rw[h]
theorem HE(base:Nat)(h:Nat->ae):wO Tryz.prog 92 [] base h h (.agg Ay):=by
 intro o nx hI K X hK
 have hle:=hI.le
 refine eI.bt mix Px (by simp) ?_
 rw[UM]
 simp+contextual only[go_sem,Nat.add_assoc,Nat.left_eq_add,Nat.add_eq_left,Nat.add_left_cancel_iff]
 refine bn (fun k:Nat=>⟨bF [.ptr nx 0, .ptr (nx+2) 0, .aa, .aa, .d (.i k)],ao (ao o nx (.row (List.replicate 16 (.d .aW)))) (nx+2) (.row (BL k)),nx+5⟩)
  (fun k=>k<=16) (fun k=>16 - k) 0 (Nat.zero_le _) ?_ (fun k hk=> ?_)
 ·refine cq.cN _ (by omega) (by omega) ?_ (fun id aj=> ?_) ?_
  ·exact((hI.cQ.mono (by omega)).ao (by omega) rfl).ao (by omega) rfl
  ·rw[wo];rfl
  ·(repeat(first|exact aw|refine aq ?_|refine ah rfl ?_|refine ah (aV (aU (by omega))) ?_|refine aF rfl (by simp[V.refs,V.ag]<;>first|omega|assumption) ?_))
 have hg:∀k,k<16->Good (ao (ao o nx (.row (List.replicate 16 (.d .aW)))) (nx+2) (.row (BL (k+1)))) (nx+5):=fun k hk=>
  ((hI.cQ.mono (by omega)).ao (by omega) rfl).ao (by omega) (by
    rcases(by omega:k=0\/k=1\/k=2\/k=3\/k=4\/k=5\/k=6\/k=7\/k=8\/k=9\/k=10\/k=11\/k=12\/k=13\/k=14\/k=15)with rfl|rfl|rfl|rfl|rfl|rfl|rfl|rfl|rfl|rfl|rfl|rfl|rfl|rfl|rfl|rfl<;>rfl)
 by_cases U1:k=16
 ·subst U1
  simp+contextual only[go_sem,BL,Nat.add_assoc,Nat.left_eq_add,Nat.add_eq_left,Nat.add_left_cancel_iff,List.replicate]
  refine hK _ _ ?_ ⟨?_, ?_,fun id aj=> ?_⟩ (fun id h1 h2=> ?_)
  rotate_left
  ·exact(((hI.cQ.mono (by omega)).ao (by omega) rfl).ao (by omega) rfl).ao (by omega) rfl
  ·omega
  ·(repeat(first|rfl|rw[ab]|rw[ad _ _ _ _ (by omega)]))
   exact hI.eq id aj
  ·(repeat(first|rfl|rw[ab]|rw[ad _ _ _ _ (by omega)]))
  ·omega
 ·have WW:=hg k (by omega)
  obtain⟨k1,Is⟩:∃k1,k1=k+1:=⟨_,rfl⟩
  rw[<- Is]at WW
  rcases(by omega:k=0\/k=1\/k=2\/k=3\/k=4\/k=5\/k=6\/k=7\/k=8\/k=9\/k=10\/k=11\/k=12\/k=13\/k=14\/k=15)with rfl|rfl|rfl|rfl|rfl|rfl|rfl|rfl|rfl|rfl|rfl|rfl|rfl|rfl|rfl|rfl
  all_goals
   simp+contextual only[go_sem,BL,Nat.add_assoc,Nat.left_eq_add,Nat.add_eq_left,Nat.add_left_cancel_iff,List.replicate]
   refine aE k1 (by omega) (by omega) (cq.cN _ (by omega) (by omega) WW (fun id aj=> ?_) ?_)
   all_goals subst Is
   ·first|rfl|(rw[wo];rfl)
   ·(repeat(first|exact aw|refine aq ?_|refine ah rfl ?_|refine ah (aV (aU (by omega))) ?_|refine aF rfl (by simp[V.refs,V.ag]<;>first|omega|assumption) ?_))
end Go.Proofs.YtealblliddhgiaaGreat
namespace Go.Proofs.YtealblliddhgiaaGreat
def FF(n:Int):Nat:=if n=1 then 118 else if n=2 then 119 else if n=3 then 120 else if n=4 then 121 else if n=5 then 122 else if n=8 then 123 else 124
theorem LL(s:bP)(t:Tm)(hs:s.Fits)(h:eX t.op 1 15=true):cj Tryz.prog (FF t.op) [s.d,t.d] (.ret [.bool (bp s t)])/\Ay[t.op.toNat]? =some (rf (FF t.op))/\0<=t.op/\t.op<16:=by
 simp[eX]at h
 rcases(by omega:t.op=1\/t.op=2\/t.op=3\/t.op=4\/t.op=5\/t.op=8\/(t.op=6\/t.op=7\/t.op=9\/t.op=10\/t.op=11\/t.op=12\/t.op=13\/t.op=14\/t.op=15))with h|h|h|h|h|h|h
 ·exact⟨by rw[h];exact Ax s t h,by rw[h];rfl,by omega,by omega⟩
 ·exact⟨by rw[h];exact C1 s t h,by rw[h];rfl,by omega,by omega⟩
 ·exact⟨by rw[h];exact QO s t hs h,by rw[h];rfl,by omega,by omega⟩
 ·exact⟨by rw[h];exact QP s t hs h,by rw[h];rfl,by omega,by omega⟩
 ·exact⟨by rw[h];exact LK s t hs h,by rw[h];rfl,by omega,by omega⟩
 ·exact⟨by rw[h];exact QN s t h,by rw[h];rfl,by omega,by omega⟩
 ·have hp:=LJ s t h
  rcases h with h|h|h|h|h|h|h|h|h<;>exact⟨by rw[h];exact hp,by rw[h];rfl,by omega,by omega⟩
def mZ(s:bP)(n:Int)(x:Tm×Int):Bool:=decide (40<n+1)||decide (12<x.2)|| !eX x.1.op 1 15|| !bp s x.1
def gv(s:bP)(n:Int×Bool)(x:Tm×Int):Int×Bool:=(n.1+1, !mZ s n.1 x)
def fJ(n:Int×Bool):Option ka:=if n.2=true then none else some .ret
def fq(s:bP)(t:Tm):Bool:=(aS (uR fJ (gv s)) (0,true) (pre t 1)).2
theorem sM(s:bP)(hs:s.Fits)(t:Tm)(hf:t.fits)(hd:t.cc<=900000):cj Tryz.prog 54 [s.d,t.d] (.ret [.bool (fq s t)]):=by
 refine cj.bt mix O8 (by simp) ?_
 rw[Uc]
 simp+contextual only[go_sem]
 refine gK (HE 3 _ _ _ (?_:gu 3 (ao (ao (ao (fun _=> .no) 0 (.row s.row)) 1 (.row t.row)) 2 (.row [.d (.bool false)])) _ 3) _ _ fun o2 n2 m1 m2 m3=> ?_)
 ·exact⟨(by repeat(first|exact hg.mono (by omega)|exact Good.nil|refine Good.ao ?_ (by omega) rfl|refine Good.ao ?_ (by omega) (dK _ _ _ (by omega))|refine Good.ao ?_ (by omega) (by simp[ae.refs,V.ag,V.refs]<;>omega))),Nat.le_refl _,fun _ _=>rfl⟩
 have p0:o2 0= .row s.row:=m2.eq 0 (by omega)
 have p1:o2 1= .row t.row:=m2.eq 1 (by omega)
 have p2:o2 2= .row [.d (.bool false)]:=m2.eq 2 (by omega)
 have e0:0≠n2:=by omega
 have e1:1≠n2:=by omega
 have e2:2≠n2:=by omega
 have e3:∀k,0≠n2+k:=fun k=>by omega
 have e4:∀k,1≠n2+k:=fun k=>by omega
 have e5:∀k,2≠n2+k:=fun k=>by omega
 simp+contextual only[go_sem,p0,p1,p2,e0,e1,e2,e3,e4,e5,Nat.add_assoc,Nat.left_eq_add,Nat.add_eq_left,Nat.add_left_cancel_iff]
 refine gK (yB t _ _ _ _ ?_)
 simp+contextual only[go_sem]
 have Y9:∀n,Good (ao (ao (ao (ao (ao (ao o2 n2 (.row (List.replicate 16 (.d .aW)))) (n2+1) (.row [.d (.i 0)])) n2 (.row Ay)) (n2+1) (.row [.d (.i 0)])) (n2+5) (.row t.row)) (n2+1) (.row [.d (.i n)])) (n2+9):=fun n=>by
  have hg:=m2.cQ
  exact(by repeat(first|exact hg.mono (by omega)|exact Good.nil|refine Good.ao ?_ (by omega) rfl|refine Good.ao ?_ (by omega) (dK _ _ _ (by omega))|refine Good.ao ?_ (by omega) (by simp[ae.refs,V.ag,V.refs]<;>omega)))
 refine qu t hf hd [.aa, .aa, .ptr 0 0, .aa, .ptr 2 0, .ptr n2 0, .ptr (n2+1) 0] ?_ (by decide) rfl ?_ (by simp[V.ag,V.refs];omega) (ab _ _ _)
  (fun s=>ao (ao (ao (ao (ao (ao o2 n2 (.row (List.replicate 16 (.d .aW)))) (n2+1) (.row [.d (.i 0)])) n2 (.row Ay)) (n2+1) (.row [.d (.i 0)])) (n2+5) (.row t.row)) (n2+1) (.row [.d (.i s.1)]))
  fJ (gv s) (fun s=>0<=s.1/\s.1<=40) (0,true) ⟨by decide,by decide⟩ rfl ?_ ?_ ?_ ?_
 ·(repeat(first|exact uQ|refine sI ?_|refine BE rfl ?_))
 ·have hg:=m2.cQ
  exact(by repeat(first|exact hg.mono (by omega)|exact Good.nil|refine Good.ao ?_ (by omega) rfl|refine Good.ao ?_ (by omega) (dK _ _ _ (by omega))|refine Good.ao ?_ (by omega) (by simp[ae.refs,V.ag,V.refs]<;>omega)))
 ·intro id aj
  by_cases h:id=n2+1
  ·subst h;(repeat(first|rfl|rw[ab]|rw[ad _ _ _ _ (by omega)]))
  ·rw[ad _ _ _ _ h];rfl
 ·intro x hx s' h1 h2 h3
  have:mZ s s'.1 x=false:=by simpa[fJ,gv]using h3
  simp[mZ]at this
  simp only[gv]
  omega
 ·intro L hL dK x hx s' h1 h2 o3 n3 hI hn ho K X gC
  simp only[sc]
  have hg:=hI.cQ
  have q0:o3 0= .row s.row:=by
   rw[hI.eq 0 (by omega)];(repeat(first|rfl|rw[ab]|rw[ad _ _ _ _ (by omega)]))
   exact p0
  have q2:o3 2= .row [.d (.bool false)]:=by
   rw[hI.eq 2 (by omega)];(repeat(first|rfl|rw[ab]|rw[ad _ _ _ _ (by omega)]))
   exact p2
  have q3:o3 n2= .row Ay:=by rw[hI.eq n2 (by omega)];(repeat(first|rfl|rw[ab]|rw[ad _ _ _ _ (by omega)]))
  have q4:o3 (n2+1)= .row [.d (.i s'.1)]:=by rw[hI.eq (n2+1) (by omega)];(repeat(first|rfl|rw[ab]|rw[ad _ _ _ _ (by omega)]))
  have fin:∀ (o':Nat->ae) (n':Nat),(∀id,id<n2+5+4->o' id=ao o3 (n2+1) (.row [.d (.i (s'.1+1))]) id)->Good o' n'->n3<=n'->gu (n2+5+4) (ao (ao (ao (ao (ao (ao o2 n2 (.row (List.replicate 16 (.d .aW)))) (n2+1) (.row [.d (.i 0)])) n2 (.row Ay)) (n2+1) (.row [.d (.i 0)])) (n2+5) (.row t.row)) (n2+1) (.row [.d (.i (gv s s' x).1)])) o' n':=by
   intro o' n' k1 k2 k3
   refine⟨k2,by omega,fun id aj=> ?_⟩
   rw[k1 id aj]
   by_cases h:id=n2+1
   ·subst h;rw[ab,ab];rfl
   ·rw[ad _ _ _ _ h,ad _ _ _ _ h,hI.eq id aj,ad _ _ _ _ h]
  simp+contextual only[go_sem]
  refine yq hL (pd:=none) ?_ ?_
  ·(repeat(first|rfl|rw[ab]|rw[ad _ _ _ _ (by omega)]))
   exact ho
  cases c1:decide (40<s'.1+1)with
  |true=>
   have hJ:fJ (gv s s' x)=some .ret:=by simp[fJ,gv,mZ,c1]
   rw[hJ]at gC
   simp+contextual (disch:=first|omega|simp only[go_sem,false_implies]) only[go_sem,wrap64,if_pos,q0,q2,q3,q4,c1]
   refine aP (bE rfl) ?_
   simp+contextual (disch:=first|omega|simp only[go_sem,false_implies]) only[go_sem,wrap64,if_pos,q2]
   refine gC _ _ _ .busy none (by omega) (fin _ _ (fun id aj=>(by simp only[ao]<;>((repeat' split)<;>first|rfl|omega|(subst_vars;first|rfl|assumption|(symm;assumption)|omega|(simp_all;done))))) (by repeat(first|exact hg.mono (by omega)|exact Good.nil|refine Good.ao ?_ (by omega) rfl|refine Good.ao ?_ (by omega) (dK _ _ _ (by omega))|refine Good.ao ?_ (by omega) (by simp[ae.refs,V.ag,V.refs]<;>omega))) (by omega)) (by(repeat(first|rfl|rw[ab]|rw[ad _ _ _ _ (by omega)]))) (fun id h3 h4=>by(repeat(first|rfl|rw[ab]|rw[ad _ _ _ _ (by omega)])))
  |false=>
  cases c2:decide (12<x.2)with
  |true=>
   have hJ:fJ (gv s s' x)=some .ret:=by simp[fJ,gv,mZ,c2]
   rw[hJ]at gC
   simp+contextual (disch:=first|omega|simp only[go_sem,false_implies]) only[go_sem,wrap64,if_pos,q0,q2,q3,q4,c1,c2]
   refine aP (bE rfl) ?_
   simp+contextual (disch:=first|omega|simp only[go_sem,false_implies]) only[go_sem,wrap64,if_pos,q2]
   refine gC _ _ _ .busy none (by omega) (fin _ _ (fun id aj=>(by simp only[ao]<;>((repeat' split)<;>first|rfl|omega|(subst_vars;first|rfl|assumption|(symm;assumption)|omega|(simp_all;done))))) (by repeat(first|exact hg.mono (by omega)|exact Good.nil|refine Good.ao ?_ (by omega) rfl|refine Good.ao ?_ (by omega) (dK _ _ _ (by omega))|refine Good.ao ?_ (by omega) (by simp[ae.refs,V.ag,V.refs]<;>omega))) (by omega)) (by(repeat(first|rfl|rw[ab]|rw[ad _ _ _ _ (by omega)]))) (fun id h3 h4=>by(repeat(first|rfl|rw[ab]|rw[ad _ _ _ _ (by omega)])))
  |false=>
  cases c3:eX x.1.op 1 15 with
  |false=>
   have hJ:fJ (gv s s' x)=some .ret:=by simp[fJ,gv,mZ,c3]
   rw[hJ]at gC
   simp+contextual (disch:=first|omega|simp only[go_sem,false_implies]) only[go_sem,wrap64,if_pos,q0,q2,q3,q4,c1,c2]
   refine dV (eK _ _ _) rfl ?_
   simp+contextual (disch:=first|omega|simp only[go_sem,false_implies]) only[go_sem,wrap64,if_pos,q0,q2,q3,q4,c1,c2,c3]
   refine aP (bE rfl) ?_
   simp+contextual (disch:=first|omega|simp only[go_sem,false_implies]) only[go_sem,wrap64,if_pos,q2]
   refine gC _ _ _ .busy none (by omega) (fin _ _ (fun id aj=>(by simp only[ao]<;>((repeat' split)<;>first|rfl|omega|(subst_vars;first|rfl|assumption|(symm;assumption)|omega|(simp_all;done))))) (by repeat(first|exact hg.mono (by omega)|exact Good.nil|refine Good.ao ?_ (by omega) rfl|refine Good.ao ?_ (by omega) (dK _ _ _ (by omega))|refine Good.ao ?_ (by omega) (by simp[ae.refs,V.ag,V.refs]<;>omega))) (by omega)) (by(repeat(first|rfl|rw[ab]|rw[ad _ _ _ _ (by omega)]))) (fun id h3 h4=>by(repeat(first|rfl|rw[ab]|rw[ad _ _ _ _ (by omega)])))
  |true=>
  obtain⟨r1,r2,r3,r4⟩:=LL s x.1 hs c3
  simp+contextual (disch:=first|omega|simp only[go_sem,false_implies]) only[go_sem,wrap64,if_pos,q0,q2,q3,q4,c1,c2]
  refine dV (eK _ _ _) rfl ?_
  simp+contextual (disch:=first|omega|simp only[go_sem,false_implies]) only[go_sem,wrap64,if_pos,q0,q2,q3,q4,c1,c2,c3,r2,r3,r4,Nat.mul_one]
  refine dV r1 rfl ?_
  simp+contextual (disch:=first|omega|simp only[go_sem,false_implies]) only[go_sem,wrap64,if_pos,q0,q2,q3,q4,c1,c2,c3]
  refine aP (bE rfl) ?_
  cases c4:bp s x.1 with
  |false=>
   have hJ:fJ (gv s s' x)=some .ret:=by simp[fJ,gv,mZ,c4]
   rw[hJ]at gC
   simp+contextual (disch:=first|omega|simp only[go_sem,false_implies]) only[go_sem,wrap64,if_pos,q2,c4]
   refine gC _ _ _ .busy none (by omega) (fin _ _ (fun id aj=>(by simp only[ao]<;>((repeat' split)<;>first|rfl|omega|(subst_vars;first|rfl|assumption|(symm;assumption)|omega|(simp_all;done))))) (by repeat(first|exact hg.mono (by omega)|exact Good.nil|refine Good.ao ?_ (by omega) rfl|refine Good.ao ?_ (by omega) (dK _ _ _ (by omega))|refine Good.ao ?_ (by omega) (by simp[ae.refs,V.ag,V.refs]<;>omega))) (by omega)) (by(repeat(first|rfl|rw[ab]|rw[ad _ _ _ _ (by omega)]))) (fun id h3 h4=>by(repeat(first|rfl|rw[ab]|rw[ad _ _ _ _ (by omega)])))
  |true=>
   have hJ:fJ (gv s s' x)=none:=by simp[fJ,gv,mZ,c1,c2,c3,c4]
   rw[hJ]at gC
   simp+contextual (disch:=first|omega|simp only[go_sem,false_implies]) only[go_sem,wrap64,if_pos,c4]
   refine gC _ _ _ .busy none (by omega) (fin _ _ (fun id aj=>(by simp only[ao]<;>((repeat' split)<;>first|rfl|omega|(subst_vars;first|rfl|assumption|(symm;assumption)|omega|(simp_all;done))))) (by repeat(first|exact hg.mono (by omega)|exact Good.nil|refine Good.ao ?_ (by omega) rfl|refine Good.ao ?_ (by omega) (dK _ _ _ (by omega))|refine Good.ao ?_ (by omega) (by simp[ae.refs,V.ag,V.refs]<;>omega))) (by omega)) (by(repeat(first|rfl|rw[ab]|rw[ad _ _ _ _ (by omega)]))) (fun id h3 h4=>by(repeat(first|rfl|rw[ab]|rw[ad _ _ _ _ (by omega)])))
 ·intro o' n' hI
  have q2:o' 2= .row [.d (.bool false)]:=by
   rw[hI.eq 2 (by omega)];(repeat(first|rfl|rw[ab]|rw[ad _ _ _ _ (by omega)]))
   exact p2
  rw[show fq s t=(fJ (aS (uR fJ (gv s)) (0,true) (pre t 1)).1).isNone from BK _ _ _ _ rfl]
  generalize (aS (uR fJ (gv s)) (0,true) (pre t 1)).1=sf at*
  cases hj:fJ sf with
  |none=>
   simp only[vA]
   simp+contextual (disch:=first|omega|simp only[go_sem,false_implies]) only[go_sem,wrap64,if_pos,q2]
   rfl
  |some j=>
   have:j= .ret:=by
    unfold fJ at hj;split at hj
    ·cases hj
    ·injection hj with hj;exact hj.symm
   subst this
   simp only[vA]
   simp+contextual (disch:=first|omega|simp only[go_sem,false_implies]) only[go_sem,wrap64,if_pos,q2]
   rfl
end Go.Proofs.YtealblliddhgiaaGreat
namespace Go.Proofs.YtealblliddhgiaaGreat
def enc{κ:Type}(kf:κ->D)(m:List (κ×D)):List (D×D):=m.map fun p=>(kf p.1,p.2)
def fg{κ:Type}[BEq κ](k:κ):List (κ×D)->Nat->Option (Nat×D)
 |[],_=>none
 |p::m,i=>if(k==p.1)=true then some (i,p.2)else fg k m (i+1)
def wx{κ:Type}[BEq κ](k:κ)(x:D)(m:List (κ×D)):List (κ×D):=match fg k m 0 with|some (i,_)=>m.set i (k,x)|none=>m++[(k,x)]
def QQ{κ:Type}[BEq κ](k:κ)(m:List (κ×D)):List (κ×D):=match fg k m 0 with|some (i,_)=>m.eraseIdx i|none=>m
def tJ(d:D)(r:Option (Nat×D)):Option (Nat×D×D):=match r with|some (i,x)=>some (i,d,x)|none=>none
@[go_sem] theorem MR (d:D) (i:Nat) (x:D):tJ d (some (i,x))=some (i,d,x):=rfl
@[go_sem] theorem MS (d:D):tJ d none=none:=rfl
section
variable {P:Program}{kt:TypeId}
theorem HG(h:bc P kt=some .int)(a b:Int):pn P 100 kt (.int .i64 a) (.int .i64 b)=some (a==b):=by simp[pn,h]
theorem HH(h:bc P kt=some .str)(a b:List UInt8):pn P 100 kt (.str a) (.str b)=some (a==b):=by simp[pn,h]
@[go_sem] theorem BM (h:bc P kt=some .int) (a:Int):mW P 100 kt (.int .i64 a)=true:=by simp[mW,h]
@[go_sem] theorem RV (h:bc P kt=some .str) (a:List UInt8):mW P 100 kt (.str a)=true:=by simp[mW,h]
theorem sN{κ:Type}[BEq κ][LawfulBEq κ](kf:κ->D)(he:∀a b,pn P 100 kt (kf a) (kf b)=some (a==b))(k:κ):∀ (m:List (κ×D)) (i:Nat),findD P kt (kf k) (enc kf m) i=some (tJ (kf k) (fg k m i))
 |[],_=>rfl
 |p::m,i=>by
  have ih:=sN kf he k m (i+1)
  simp only[enc,List.map_cons,findD,he,fg]at ih|-
  by_cases h:k=p.1
  ·subst h;simp[tJ]
  ·have:(k==p.1)=false:=by simpa using h
   simp only[this,Bool.false_eq_true,if_false];exact ih
@[go_sem] theorem yC (h:bc P kt=some .int) (k:Int) (m:List (Int×D)):findD P kt (.int .i64 k) (enc (.int .i64) m) 0=some (tJ (.int .i64 k) (fg k m 0)):=sN (.int .i64) (HG h) k m 0
@[go_sem] theorem QR (h:bc P kt=some .str) (k:List UInt8) (m:List (List UInt8×D)):findD P kt (.str k) (enc .str m) 0=some (tJ (.str k) (fg k m 0)):=sN .str (HH h) k m 0
end
section
variable {κ:Type}(kf:κ->D)
theorem FG(m:List (κ×D))(k:κ)(x:D):enc kf m++[(kf k,x)]=enc kf (m++[(k,x)]):=by simp[enc]
theorem BN(m:List (κ×D))(i:Nat)(k:κ)(x:D):(enc kf m).set i (kf k,x)=enc kf (m.set i (k,x)):=by simp[enc,List.map_set]
theorem pR:∀ (m:List (κ×D)) (i:Nat),(enc kf m).eraseIdx i=enc kf (m.eraseIdx i)
 |[],i=>rfl
 |p::m,0=>rfl
 |p::m,i+1=>by
  have:=pR m i
  simp only[enc,List.map_cons,List.eraseIdx_cons_succ]at this|-
  rw[this]
theorem HI(m:List (κ×D)):(((enc kf m).map (·.1)).zip ((enc kf m).map (·.2)))=enc kf m:=by
 induction m with
 |nil=>rfl
 |cons p m ih=>simp only[enc,List.map_cons,List.zip_cons_cons]at ih|-;rw[ih]
theorem pS{K:V->List (Nat×ae)->Prop}{id:Nat}{m:List (κ×D)}(h0:m=[]->K (.bT [.d (.bool false)]) [])
 (h1:∀ (i:Nat) k x,m[i]? =some (k,x)->K (.bT [.d (.bool true), .d (kf k), .d x]) [(id, .kg (enc kf (m.eraseIdx i)) (some (kf k,x)))]):uG K id (enc kf m):=by
 refine⟨fun h=>h0 ?_,fun i k x h=> ?_⟩
 ·cases m with
  |nil=>rfl
  |cons p m=>simp[enc]at h
 ·simp only[enc,List.getElem?_map]at h
  cases hm:m[i]? with
  |none=>rw[hm]at h;cases h
  |some p=>
   rw[hm]at h
   simp at h
   obtain⟨rfl,rfl⟩:=h
   have:=h1 i p.1 p.2 (by rw[hm])
   rwa [<- pR]at this
end
theorem yD{κ:Type}[BEq κ][LawfulBEq κ]{k:κ}:∀ {m:List (κ×D)} {i j:Nat} {x:D},fg k m i=some (j,x)->i<=j/\m[j - i]? =some (k,x)
 |[],_,_,_,h=>by cases h
 |p::m,i,j,x,h=>by
  simp only[fg]at h
  split at h
  ·rename_i hk
   injection h with h;injection h with h1 h2
   subst h1;subst h2
   exact⟨Nat.le_refl _,by simp[(by simpa using hk:k=p.1)]⟩
  ·obtain⟨h1,h2⟩:=yD h
   refine⟨by omega, ?_⟩
   rw[show j - i=(j - (i+1))+1 by omega]
   simpa using h2
theorem uS{κ:Type}[BEq κ][LawfulBEq κ]{k:κ}:∀ {m:List (κ×D)} {i:Nat},fg k m i=none↔∀p∈m,p.1≠k
 |[],_=>by simp[fg]
 |p::m,i=>by
  simp only[fg]
  split
  ·rename_i hk
   simp[(by simpa using hk:k=p.1)]
  ·rename_i hk
   rw[uS]
   have:p.1≠k:=fun e=>hk (by simp[e])
   simp[this]
def o6(P:Program)(o:Nat->ae)(t:TypeId)(m k v:V):Option fW:=
 match nw P t,dz o k,dz o v,na o m with
 |some (kt,_),some kd,some vd,some (some (id,zd,ze),l)=>if k.ids=[]/\mW P 100 kt kd=true/\jS kd=true/\v.ids.all (· !=id)=true then match findD P kt kd l 0 with
  |some (some (i,k',_))=>if k'.same kd=true then some (.bT [],ck o v.ids++[(id, .map zd ze (l.set i (kd,vd)))],id::v.ids)else none
  |some none=>some (.bT [],ck o v.ids++[(id, .map zd ze (l++[(kd,vd)]))],id::v.ids)
  |none=>none
  else none
 |_,_,_,_=>none
@[go_sem low] theorem uT (P:Program) (o:Nat->ae) (t:TypeId) (m v:V) (k:D):fi P o t m (.d k) v=o6 P o t m (.d k) v:=by unfold fi o6;rfl
def sO(P:Program)(o:Nat->ae)(t:TypeId)(m k:V)(ok:Bool):Option fW:=
 match nw P t,dz o k,n6 o m with
 |some (kt,vt),some kd,some (rd,l)=>if k.ids=[]/\mW P 100 kt kd=true then match findD P kt kd l 0 with
  |some (some (_,_,x))=>some (if ok=true then .bT [.d x, .d (.bool true)]else .d x,[],rd)
  |some none=>match zeroV P vt with
   |some z=>some (if ok=true then .bT [z, .d (.bool false)]else z,[],rd)
   |none=>none
  |none=>none
  else none
 |_,_,_=>none
@[go_sem low] theorem mP (P:Program) (o:Nat->ae) (t:TypeId) (m:V) (k:D) (ok:Bool):gV P o t m (.d k) ok=sO P o t m (.d k) ok:=by unfold gV sO;rfl
attribute [go_sem] sO o6 mJ lS lT nb nd lU n6 na R7 m9 jS D.same
end Go.Proofs.YtealblliddhgiaaGreat
namespace Go.Proofs.YtealblliddhgiaaGreat
theorem dec_lt{l:List UInt8}{i:Nat}{b:UInt8}(hb:l[i]? =some b)(h:b.toNat<128):Utf8.decode ⟨⟨l⟩⟩ i=(b.toNat,1):=by
 have e:(ByteArray.mk ⟨l⟩).get! i=b:=by
  show(Array.mk l)[i]! =b
  simp[hb]
 simp only[Utf8.decode,Nat.add_zero,e]
 rw[if_pos h]
theorem LM{l:List UInt8}{i:Nat}{b:UInt8}(hb:l[i]? =some b)(h:128<=b.toNat):128<=(Utf8.decode ⟨⟨l⟩⟩ i).1:=by
 have e:(ByteArray.mk ⟨l⟩).get! i=b:=by
  show(Array.mk l)[i]! =b
  simp[hb]
 simp only[Utf8.decode,Nat.add_zero,e]
 rw[if_neg (by omega)]
 split
 ·split<;>simp_all[Utf8.runeError]
 ·split
  ·split
   ·rename_i h3;simp at h3;omega
   ·simp[Utf8.runeError]
  ·split
   ·split
    ·rename_i h3;simp at h3;omega
    ·simp[Utf8.runeError]
   ·simp[Utf8.runeError]
def HJ(r:Int):Bool:=decide (97<=r)&&decide (r<=122)||decide (65<=r)&&decide (r<=90)
theorem FH(b:UInt8):HJ b.toNat=letterF b:=by
 rw[Bool.eq_iff_iff]
 simp[HJ,letterF]
theorem C2(s:List UInt8)(hs:s.length<=9223372036854775807):cj Tryz.prog 78 [.str s] (.ret [.bool (jm s)]):=by
 refine cj.bt mix Pn (by simp) ?_
 rw[Uz]
 simp+contextual (disch:=first|omega|simp only[go_sem,false_implies]) only[go_sem,wrap64,if_pos,Nat.add_assoc,Nat.left_eq_add,Nat.add_eq_left,Nat.add_left_cancel_iff]
 refine bn (fun k:Nat=>⟨bF [.d (.str s), .aa, .aa, .aa, .aa, .aa, .ptr 2 0],ao (fun _=> .no) 2 (.rl s k),3⟩)
  (fun k=>k<=s.length/\(s.take k).all letterF=true) (fun k=>s.length - k) 0 ⟨Nat.zero_le _,by simp⟩ (cq.cN _ (by omega) (by omega) (Good.nil.ao (by omega) rfl) (fun _ _=>rfl) ?_) (fun k hk=> ?_)
 ·(repeat(first|exact aw|refine aq ?_|refine ah rfl ?_|refine ah (aV (aU (by omega))) ?_|refine aF rfl (by simp[V.refs,V.ag]<;>first|omega|assumption) ?_))
 by_cases h2:k<s.length
 ·obtain⟨b,hb⟩:=bH h2
  by_cases h3:b.toNat<128
  ·simp+contextual (disch:=first|omega|simp only[go_sem,false_implies]) only[go_sem,wrap64,if_pos,Nat.add_assoc,Nat.left_eq_add,Nat.add_eq_left,Nat.add_left_cancel_iff,h2,dec_lt hb h3]
   have hr:=FH b
   simp only[HJ]at hr
   rw[hr]
   cases hl:letterF b with
   |true=>
    simp+contextual (disch:=first|omega|simp only[go_sem,false_implies]) only[go_sem,wrap64,if_pos,and_self]
    refine aE (k+1) ⟨h2,kG hb hk.2 hl⟩ (by omega) (cq.cN _ (by omega) (by omega) (Good.nil.ao (by omega) rfl) (fun _ _=>by rw[wo]) ?_)
    (repeat(first|exact aw|refine aq ?_|refine ah rfl ?_|refine ah (aV (aU (by omega))) ?_|refine aF rfl (by simp[V.refs,V.ag]<;>first|omega|assumption) ?_))
   |false=>
    simp+contextual (disch:=first|omega|simp only[go_sem,false_implies]) only[go_sem,wrap64,if_pos,and_self]
    simp[jm,js hb hl]
  ·have hr:letterF b=false:=by
    rw[<- FH];simp[HJ];omega
   have hd:=LM hb (by omega)
   simp+contextual (disch:=first|omega|simp only[go_sem,false_implies]) only[go_sem,wrap64,if_pos,Nat.add_assoc,Nat.left_eq_add,Nat.add_eq_left,Nat.add_left_cancel_iff,h2]
   have:(decide (97<=((Utf8.decode ⟨⟨s⟩⟩ k).1:Int))&&decide (((Utf8.decode ⟨⟨s⟩⟩ k).1:Int)<=122)||decide (65<=((Utf8.decode ⟨⟨s⟩⟩ k).1:Int))&&decide (((Utf8.decode ⟨⟨s⟩⟩ k).1:Int)<=90))=false:=by
    rw[Bool.eq_false_iff];intro h;simp at h;omega
   rw[this]
   simp+contextual (disch:=first|omega|simp only[go_sem,false_implies]) only[go_sem,wrap64,if_pos,and_self]
   simp[jm,js hb hr]
 ·simp+contextual (disch:=first|omega|simp only[go_sem,false_implies]) only[go_sem,wrap64,if_pos,Nat.add_assoc,Nat.left_eq_add,Nat.add_eq_left,Nat.add_left_cancel_iff,h2]
  refine aJ (eK _ _ _) rfl ?_
  simp+contextual (disch:=first|omega|simp only[go_sem,false_implies]) only[go_sem,wrap64,if_pos,and_self]
  rw[jm,kH hk.2 (by omega),Bool.true_and]
theorem yE{σ:Type}(l:List nT)(hl:l.length<=9223372036854775807)(g:Nat)(dx:List V)(base:Nat)(H:σ->Nat->ae)(step:σ->nT->σ×Bool)(hc:∀r∈V.ag dx,r<base)(ok:σ->Prop)(bz:∀x∈l,∀s,ok s->(step s x).2=true->ok (step s x).1)
 (h:∀x∈l,∀s,ok s->wO Tryz.prog g (.d x.d::dx) base (H s) (H (step s x).1) (.d (.bool (step s x).2))) (s:σ) (qh:ok s):
 wO Tryz.prog 80 [.d (.sl (l.map nT.d)), .func (.func g) [] dx] base (H s) (H (aS step s l).1) (.d (.bool (aS step s l).2)):=by
 intro o nx hI K X hK
 have zw:∀r∈V.ag dx,r<nx:=fun r hr=>Nat.lt_of_lt_of_le (hc r hr) hI.le
 refine eI.bt mix Pp (by simp) ?_
 rw[UB]
 simp+contextual only[go_sem]
 refine bn (fun i:Nat×σ×(Nat->ae)×Nat=>⟨bF [.aa, .func (.func g) [] dx, .aa, .aa, .aa, .aa, .aa, .d (.sl (l.map nT.d)), .d (.i l.length), .d (.i i.1)],i.2.2.1,i.2.2.2⟩)
  (fun i=>i.1<=l.length/\gu base (H i.2.1) i.2.2.1 i.2.2.2/\nx<=i.2.2.2/\(∀id,base<=id->id<nx->i.2.2.1 id=o id)/\aS step s l=aS step i.2.1 (l.drop i.1)/\ok i.2.1) (fun i=>l.length - i.1) (0,s,o,nx)
  ⟨Nat.zero_le _,hI,Nat.le_refl _,fun _ _ _=>rfl,rfl,qh⟩ ?_ ?_
 ·dsimp only
  refine cq.cN _ (Nat.le_refl _) (by omega) hI.cQ (fun _ _=>rfl) ?_
  (repeat(first|exact aw|refine aq ?_|refine ah rfl ?_|refine ah (aV (aU (by omega))) ?_|refine aF rfl (by simp[V.refs,V.ag]<;>first|omega|assumption) ?_))
 rintro⟨k,s',o',nx'⟩ ⟨hk,BJ,hn,cU,hf,sL⟩
 simp only at hk BJ hn cU hf sL
 simp+contextual only[go_sem]
 refine ax (fun h1=> ?_) (fun h1=> ?_)
 ·simp at h1
  obtain⟨x,hx⟩:=bH h1
  have lM:=List.mem_of_getElem? hx
  have hd:l.drop k=x::l.drop (k+1):=by
   rw[List.drop_eq_getElem_cons h1]
   rw[List.getElem?_eq_getElem h1]at hx;injection hx with hx;rw[hx]
  simp+contextual only[go_sem,hx,Nat.add_assoc,Nat.left_eq_add,Nat.add_eq_left,Nat.add_left_cancel_iff]
  have Ru:=BJ.le
  refine mm (h x lM s' sL _ _ (?_:gu base (H s') _ (nx'+7)) _ _ fun o2 n2 m1 m2 m3=> ?_)
  ·exact(BJ.ao (i:=nx'+3) (m:=nx'+7) (by omega) (by omega) (by omega) rfl).ao (by omega) (by omega) (by omega) rfl
  have yz:∀id,base<=id->id<nx->o2 id=o id:=fun id h2 h3=>by
   rw[m3 id h2 (by omega),ad _ _ _ _ (by omega),ad _ _ _ _ (by omega),cU id h2 h3]
  simp+contextual only[go_sem]
  refine ax (fun h2=> ?_) (fun h2=> ?_)
  ·simp+contextual only[go_sem]
   simp at h2
   have:aS step s l=((step s' x).1,false):=by rw[hf,hd,aS,if_neg (by rw[h2];exact Bool.false_ne_true)]
   rw[this]at hK
   exact hK _ _ (by omega) (m2.mono (by omega)) yz
  ·simp+contextual only[go_sem]
   simp at h2
   have:aS step s l=aS step (step s' x).1 (l.drop (k+1)):=by rw[hf,hd,aS,if_pos h2]
   refine aE (k+1,(step s' x).1,o2,n2) ⟨h1,m2,by dsimp only;omega,yz,this,bz x lM s' sL h2⟩ (by dsimp only;omega) ?_
   dsimp only
   have Jx:∀r∈V.ag dx,r<n2:=fun r hr=>by have:=zw r hr;omega
   refine cq.cN _ (by omega) (by omega) m2.cQ (fun _ _=>rfl) ?_
   (repeat(first|exact aw|refine aq ?_|refine ah rfl ?_|refine ah (aV (aU (by omega))) ?_|refine aF rfl (by simp[V.refs,V.ag]<;>first|omega|assumption) ?_))
 ·simp+contextual only[go_sem]
  simp at h1
  rw[List.drop_eq_nil_of_le h1]at hf
  simp only[aS]at hf
  rw[hf]at hK
  exact hK _ _ (by omega) (BJ.mono (by omega)) cU
def nM(l:List (List UInt8)):List (List UInt8×D):=l.map fun s=>(s, .bool true)
theorem C3(l:List (List UInt8))(s:List UInt8):nM l++[(s, .bool true)]=nM (l++[s]):=by simp[nM]
theorem C4{l:List (List UInt8)}{s:List UInt8}{i:Nat}{x:D}(h:fg s (nM l) 0=some (i,x)):x= .bool true/\(nM l).set i (s, .bool true)=nM l/\l.any (· ==s)=true:=by
 obtain⟨_,h2⟩:=yD h
 rw[Nat.sub_zero]at h2
 simp only[nM,List.getElem?_map]at h2
 cases hl:l[i]? with
 |none=>rw[hl]at h2;cases h2
 |some y=>
  rw[hl]at h2
  simp at h2
  obtain⟨rfl,rfl⟩:=h2
  refine⟨rfl, ?_, ?_⟩
  ·apply List.ext_getElem?
   intro j
   rw[List.getElem?_set]
   split
   ·rename_i e;subst e
    obtain⟨bL,hy⟩:=List.getElem?_eq_some_iff.1 hl
    simp[nM,bL,hy]
   ·rfl
  ·exact List.any_eq_true.2 ⟨y,List.mem_of_getElem? hl,by simp⟩
theorem C5{l:List (List UInt8)}{s:List UInt8}(h:fg s (nM l) 0=none):l.any (· ==s)=false:=by
 rw[uS]at h
 rw[List.any_eq_false]
 intro x hx hs
 have:=h (x, .bool true) (by simp[nM];exact hx)
 simp at hs;exact this hs
def HK(bs:List (List UInt8))(x:nT):Bool:= !bs.any (· ==x.name)&&jm x.name&&eX x.args 0 4
def gS(bs:List (List UInt8))(x:nT):List (List UInt8)×Bool:=(if bs.any (· ==x.name)=true then bs else bs++[x.name],HK bs x)
theorem LN(x:nT)(hx:x.name.length<=9223372036854775807)(base mp id:Nat)(h:Nat->ae)(Yt:h mp= .row [.mp id])(h1:mp<base)(h2:id<base)(h3:id≠mp)(bs:List (List UInt8)):
 wO Tryz.prog 77 [.d x.d, .ptr mp 0] base (ao h id (.map 9 4 (enc .str (nM bs)))) (ao h id (.map 9 4 (enc .str (nM (gS bs x).1)))) (.d (.bool (gS bs x).2)):=by
 intro o nx hI K X hK
 have hle:=hI.le
 have hg:=hI.cQ
 have q0:o mp= .row [.mp id]:=by rw[hI.eq mp h1,ad _ _ _ _ (by omega),Yt]
 have q1:o id= .map 9 4 (enc .str (nM bs)):=by rw[hI.eq id h2,ab]
 refine eI.bt mix Pm (by simp) ?_
 rw[Uy]
 cases ha:fg x.name (nM bs) 0 with
 |none=>
  have hn:=C5 ha
  have hs:gS bs x=(bs++[x.name],jm x.name&&eX x.args 0 4):=by simp[gS,HK,hn]
  rw[hs]at hK
  simp+contextual (disch:=first|omega|simp only[go_sem,false_implies]) only[go_sem,wrap64,if_pos,q0,q1,ha]
  refine aJ (C2 _ hx) rfl ?_
  simp+contextual (disch:=first|omega|simp only[go_sem,false_implies]) only[go_sem,wrap64,if_pos,and_self]
  refine gL (fO [.bool (eX x.args 0 4)] ?_ ?_)
  ·simp+contextual (disch:=first|omega|simp only[go_sem,false_implies]) only[go_sem,wrap64,if_pos,and_self]
   exact fun _=>eK _ _ _
  simp+contextual (disch:=first|omega|simp only[go_sem,false_implies]) only[go_sem,wrap64,if_pos,and_self]
  rw[FG,C3]
  refine hK _ _ (by omega) ⟨(by repeat(first|exact hg.mono (by omega)|exact Good.nil|refine Good.ao ?_ (by omega) rfl|refine Good.ao ?_ (by omega) (dK _ _ _ (by omega))|refine Good.ao ?_ (by omega) (by simp[ae.refs,V.ag,V.refs]<;>omega))),by omega,fun j hj=> ?_⟩ (fun j g1 g2=>by(repeat(first|rfl|rw[ab]|rw[ad _ _ _ _ (by omega)])))
  ·by_cases e:j=id
   ·subst e;(repeat(first|rfl|rw[ab]|rw[ad _ _ _ _ (by omega)]))
   ·rw[ad _ _ _ _ e,ad _ _ _ _ e,ad _ _ _ _ (by omega),hI.eq j hj,ad _ _ _ _ e]
 |some p=>
  obtain⟨i,y⟩:=p
  obtain⟨rfl,e1,hn⟩:=C4 ha
  have hs:gS bs x=(bs,false):=by simp[gS,HK,hn]
  rw[hs]at hK
  simp+contextual (disch:=first|omega|simp only[go_sem,false_implies]) only[go_sem,wrap64,if_pos,q0,q1,ha]
  rw[BN,e1]
  refine hK _ _ (by omega) ⟨(by repeat(first|exact hg.mono (by omega)|exact Good.nil|refine Good.ao ?_ (by omega) rfl|refine Good.ao ?_ (by omega) (dK _ _ _ (by omega))|refine Good.ao ?_ (by omega) (by simp[ae.refs,V.ag,V.refs]<;>omega))),by omega,fun j hj=> ?_⟩ (fun j g1 g2=>by(repeat(first|rfl|rw[ab]|rw[ad _ _ _ _ (by omega)])))
  ·by_cases e:j=id
   ·subst e;(repeat(first|rfl|rw[ab]|rw[ad _ _ _ _ (by omega)]))
   ·rw[ad _ _ _ _ e,ad _ _ _ _ e,ad _ _ _ _ (by omega),hI.eq j hj,ad _ _ _ _ e]
theorem nN:∀ (l:List nT) (bs:List (List UInt8)),match cl l bs with|some B=>aS gS bs l=(B,true)|none=>(aS gS bs l).2=false
 |[],bs=>rfl
 |x::l,bs=>by
  have ih:=nN l (bs++[x.name])
  simp only[cl,aS,gS,HK]
  by_cases h1:bs.any (· ==x.name)=true
  ·simp[h1]
  ·simp only[Bool.not_eq_true]at h1
   simp only[h1,Bool.false_eq_true,if_false,Bool.not_false,Bool.true_and]
   by_cases h2:(jm x.name&&eX x.args 0 4)=true
   ·have h3: ¬ ((!jm x.name|| !eX x.args 0 4)=true):=by simp at h2;simp[h2]
    rw[if_neg h3,if_pos h2]
    exact ih
   ·have h3:(!jm x.name|| !eX x.args 0 4)=true:=by
     cases hn:jm x.name<;>simp_all
    rw[if_pos h3,if_neg h2]
end Go.Proofs.YtealblliddhgiaaGreat
namespace Go.Proofs.YtealblliddhgiaaGreat
def o7(ok:Bool):Int:=if ok=true then 0 else 2
@[reducible] def C6 (s:bP) (bs:List (List UInt8)):Nat->ae:=ao (ao (ao (fun _=> .no) 0 (.row s.row)) 3 (.row [.mp 2])) 2 (.map 9 4 (enc .str (nM bs)))
theorem Az(s:bP)(hs:s.Fits):cj Tryz.prog 38 [s.d] (.ret [.i (o7 (oT s))]):=by
 refine cj.bt mix O1 (by simp) ?_
 rw[TX]
 simp+contextual (disch:=first|omega|simp only[go_sem,false_implies]) only[go_sem,wrap64,if_pos,Nat.add_assoc,Nat.left_eq_add,Nat.add_eq_left,Nat.add_left_cancel_iff]
 refine aJ (eK _ _ _) rfl ?_
 simp+contextual (disch:=first|omega|simp only[go_sem,false_implies]) only[go_sem,wrap64,if_pos,Nat.add_assoc,Nat.left_eq_add,Nat.add_eq_left,Nat.add_left_cancel_iff]
 cases h1:(!eX s.cons.length 2 12||decide (8<(s.dE.length:Int)))with
 |true=>
  have:oT s=false:=by simp only[oT,h1,if_true]
  simp+contextual (disch:=first|omega|simp only[go_sem,false_implies]) only[go_sem,wrap64,if_pos,h1]
  simp[this,o7]
 |false=>
  have Gu:=nN s.cons []
  have QS:∀ (l:List nT),(∀x∈l,x.name.length<=9223372036854775807)->∀x∈l,∀bs,True->wO Tryz.prog 77 (.d x.d::[.ptr 3 0]) 4 (C6 s bs) (C6 s (gS bs x).1) (.d (.bool (gS bs x).2)):=fun l hl x hx bs _=>
   LN x (hl x hx) 4 3 2 (ao (ao (fun _=> .no) 0 (.row s.row)) 3 (.row [.mp 2])) (ab _ _ _) (by omega) (by omega) (by omega) bs
  simp[eX]at h1
  obtain⟨a,b,r,hc⟩:∃a b r,s.cons=a::b::r:=by
   match h:s.cons with
   |[]=>rw[h]at h1;simp at h1
   |[a]=>rw[h]at h1;simp at h1
   |a::b::r=>exact⟨a,b,r,rfl⟩
  have kT:(!eX s.cons.length 2 12||decide (8<(s.dE.length:Int)))=false:=by simp[eX];omega
  have C0:oT s=if(!lP a fB|| !lP b tB)=true then false else match cl s.cons []with
   |none=>false
   |some l=>(cl s.dE l).isSome:=by
   unfold oT
   rw[if_neg (by rw[kT];exact Bool.false_ne_true),hc]
   dsimp only
   rfl
  simp+contextual (disch:=first|omega|simp only[go_sem,false_implies]) only[go_sem,wrap64,if_pos,kT]
  refine cK (yE s.cons hs.lc 77 [.ptr 3 0] 4 (C6 s) gS (by simp[V.ag,V.refs]) (fun _=>True) (fun _ _ _ _ _=>trivial) (QS s.cons hs.nc) [] trivial _ _ ⟨?_,by omega,fun id aj=> ?_⟩ _ _ fun o2 n2 m1 m2 m3=> ?_)
  ·exact(by repeat(first|exact hg.mono (by omega)|exact Good.nil|refine Good.ao ?_ (by omega) rfl|refine Good.ao ?_ (by omega) (dK _ _ _ (by omega))|refine Good.ao ?_ (by omega) (by simp[ae.refs,V.ag,V.refs]<;>omega)))
  ·rcases(by omega:id=0\/id=1\/id=2\/id=3)with rfl|rfl|rfl|rfl<;>rfl
  have p0:∀ {bs:List (List UInt8)} {o:Nat->ae} {n:Nat},gu 4 (C6 s bs) o n->o 0= .row s.row:=fun h=>h.eq 0 (by omega)
  have p3:∀ {bs:List (List UInt8)} {o:Nat->ae} {n:Nat},gu 4 (C6 s bs) o n->o 3= .row [.mp 2]:=fun h=>h.eq 3 (by omega)
  cases hn:cl s.cons []with
  |none=>
   rw[hn]at Gu
   simp only at Gu
   rw[Gu]
   simp+contextual (disch:=first|omega|simp only[go_sem,false_implies]) only[go_sem,wrap64,if_pos,Nat.add_assoc,Nat.left_eq_add,Nat.add_eq_left,Nat.add_left_cancel_iff]
   rw[C0,hn]
   split<;>rfl
  |some B=>
   rw[hn]at Gu
   simp only at Gu
   rw[Gu]at m2|-
   simp+contextual (disch:=first|omega|simp only[go_sem,false_implies]) only[go_sem,wrap64,if_pos,Nat.add_assoc,Nat.left_eq_add,Nat.add_eq_left,Nat.add_left_cancel_iff,p0 m2]
   refine cK (yE s.dE hs.lf 77 [.ptr 3 0] 4 (C6 s) gS (by simp[V.ag,V.refs]) (fun _=>True) (fun _ _ _ _ _=>trivial) (QS s.dE hs.nf) B trivial _ _ (m2.mono (by omega)) _ _ fun o4 n4 k1 k2 k3=> ?_)
   have Iv:=nN s.dE B
   cases hf:cl s.dE B with
   |none=>
    rw[hf]at Iv
    simp only at Iv
    rw[Iv]
    simp+contextual (disch:=first|omega|simp only[go_sem,false_implies]) only[go_sem,wrap64,if_pos,Nat.add_assoc,Nat.left_eq_add,Nat.add_eq_left,Nat.add_left_cancel_iff]
    rw[C0,hn]
    simp only[hf]
    split<;>rfl
   |some C=>
    rw[hf]at Iv
    simp only at Iv
    rw[Iv]at k2|-
    simp+contextual (disch:=first|omega|simp only[go_sem,false_implies]) only[go_sem,wrap64,if_pos,Nat.add_assoc,Nat.left_eq_add,Nat.add_eq_left,Nat.add_left_cancel_iff,p0 k2,hc]
    have Jy:oT s= !(!lP a fB|| !lP b tB):=by
     rw[C0,hn];simp only[hf]
     cases(!lP a fB|| !lP b tB)<;>rfl
    refine ax (fun h5=> ?_) (fun h5=> ?_)
    ·simp+contextual (disch:=first|omega|simp only[go_sem,false_implies]) only[go_sem,wrap64,if_pos,and_self]
     have M8:(!lP a fB|| !lP b tB)=true:=h5
     rw[Jy,M8];rfl
    ·simp+contextual (disch:=first|omega|simp only[go_sem,false_implies]) only[go_sem,wrap64,if_pos,and_self]
     have M8:(!lP a fB|| !lP b tB)=false:=h5
     rw[Jy,M8];rfl
def fD(s:bP)(l:List Tm):Bool:=oT s&&l.all (fq s)
theorem uU{α:Type}(p:α->Bool):∀ (l:List α) (u:Unit),aS (fun _ x=>((),p x)) u l=((),l.all p)
 |[],_=>rfl
 |x::l,u=>by
  simp only[aS,List.all_cons,uU p l]
  cases p x<;>rfl
theorem AA(l:List Tm)(hl:l.length<=9223372036854775807)(g:Nat)(dx:List V)(base:Nat)(h:Nat->ae)(p:Tm->Bool)(hc:∀r∈V.ag dx,r<base)
 (hp:∀x∈l,wO Tryz.prog g (.d x.d::dx) base h h (.d (.bool (p x)))):wO Tryz.prog 87 [.d (.sl (l.map Tm.d)), .func (.func g) [] dx] base h h (.d (.bool (l.all p))):=by
 have:=yy l hl g dx base (fun _:Unit=>h) (fun _ x=>((),p x)) hc (fun _=>True) (fun _ _ _ _ _=>trivial) (fun x hx _ _=>hp x hx) () trivial
 simpa only[uU]using this
structure Tm.Fin (t:Tm):Prop where
 fits:t.fits
 cc:t.cc<=900000
theorem FI(s:bP)(hs:s.Fits)(t:Tm)(ht:t.Fin)(base sp:Nat)(h:Nat->ae)(xb:h sp= .row s.row)(hb:sp<base):wO Tryz.prog 88 [.d t.d, .ptr sp 0] base h h (.d (.bool (fq s t))):=by
 intro o nx hI K X hK
 have hle:=hI.le
 have hg:=hI.cQ
 have q0:o sp= .row s.row:=by rw[hI.eq sp hb,xb]
 refine eI.bt mix Pt (by simp) ?_
 rw[UJ]
 simp+contextual (disch:=first|omega|simp only[go_sem,false_implies]) only[go_sem,wrap64,if_pos,q0]
 refine aJ (sM s hs t ht.fits ht.cc) rfl ?_
 simp+contextual (disch:=first|omega|simp only[go_sem,false_implies]) only[go_sem,wrap64,if_pos,and_self]
 exact hK _ _ (by omega) ⟨(by repeat(first|exact hg.mono (by omega)|exact Good.nil|refine Good.ao ?_ (by omega) rfl|refine Good.ao ?_ (by omega) (dK _ _ _ (by omega))|refine Good.ao ?_ (by omega) (by simp[ae.refs,V.ag,V.refs]<;>omega))),by omega,fun j hj=>by rw[ad _ _ _ _ (by omega),hI.eq j hj]⟩ (fun j g1 g2=>by(repeat(first|rfl|rw[ab]|rw[ad _ _ _ _ (by omega)])))
theorem wy(s:bP)(hs:s.Fits)(l:List Tm)(hl:l.length<=9223372036854775807)(hf:∀t∈l,t.Fin):cj Tryz.prog 51 [s.d, .sl (l.map Tm.d)] (.ret [.bool (fD s l)]):=by
 refine cj.bt mix O4 (by simp) ?_
 rw[Ua]
 simp+contextual (disch:=first|omega|simp only[go_sem,false_implies]) only[go_sem,wrap64,if_pos,and_self]
 refine aJ (Az s hs) rfl ?_
 cases h1:oT s with
 |false=>
  simp+contextual (disch:=first|omega|simp only[go_sem,false_implies]) only[go_sem,wrap64,if_pos,o7]
  simp[fD,h1]
 |true=>
  simp+contextual (disch:=first|omega|simp only[go_sem,false_implies]) only[go_sem,wrap64,if_pos,o7]
  refine cK (AA l hl 88 [.ptr 0 0] 1 (ao (fun _=> .no) 0 (.row s.row)) (fq s) (by simp[V.ag,V.refs]) (fun x hx=>FI s hs x (hf x hx) 1 0 _ (ab _ _ _) (by omega)) _ _ ⟨(by repeat(first|exact hg.mono (by omega)|exact Good.nil|refine Good.ao ?_ (by omega) rfl|refine Good.ao ?_ (by omega) (dK _ _ _ (by omega))|refine Good.ao ?_ (by omega) (by simp[ae.refs,V.ag,V.refs]<;>omega))),by omega,fun id aj=>rfl⟩ _ _ fun o2 n2 m1 m2 m3=> ?_)
  simp+contextual (disch:=first|omega|simp only[go_sem,false_implies]) only[go_sem,wrap64,if_pos,and_self]
  simp[fD,h1]
end Go.Proofs.YtealblliddhgiaaGreat
namespace Go.Proofs.YtealblliddhgiaaGreat
end Go.Proofs.YtealblliddhgiaaGreat
namespace Go.Proofs.YtealblliddhgiaaGreat
def Tm.yF (t:Tm):Int:=(pre t 1).length
structure Tm.LO (t:Tm):Prop extends t.Fin where
 size:t.yF<=1000000
theorem Tm.Fin.MT {t k:Tm}(h:t.Fin)(hk:k∈t.kids):k.Fin:=⟨((Tm.cY _).1 h.fits).2 k hk,by have:=Tm.dc hk;have:=h.cc;omega⟩
theorem qv:∀ (t:Tm) (d d':Int),(pre t d).length=(pre t d').length:=by
 refine Tm.gN fun t ih d d'=> ?_
 rw[ll,ll]
 simp only[List.length_cons,List.length_flatMap]
 congr 2
 exact List.map_congr_left fun k hk=>ih k hk _ _
theorem Tm.uV {t k:Tm}(hk:k∈t.kids):k.yF+1<=t.yF:=by
 simp only[Tm.yF]
 rw[ll t,qv k 1 (1+1)]
 simp only[List.length_cons,List.length_flatMap]
 have:∀ (l:List Tm),k∈l->(pre k (1+1)).length<=(l.map fun k=>(pre k (1+1)).length).sum:=by
  intro l
  induction l with
  |nil=>intro h;cases h
  |cons x l ih=>
   intro h
   rcases List.mem_cons.1 h with rfl|h
   ·simp only[List.map_cons,List.sum_cons];omega
   ·have:=ih h;simp only[List.map_cons,List.sum_cons];omega
 have:=this _ hk
 omega
theorem Tm.LO.MT {t k:Tm}(h:t.LO)(hk:k∈t.kids):k.LO:=⟨h.toFin.MT hk,by have:=Tm.uV hk;have:=h.size;omega⟩
end Go.Proofs.YtealblliddhgiaaGreat
namespace Go.Proofs.YtealblliddhgiaaGreat
def o8(s:bP)(l:List Tm):Bool:=l.all mq&&kE s
theorem FJ(s:bP)(hs:s.Fits)(l:List Tm)(hl:l.length<=1000000)(hf:∀t∈l,t.fits):cj Tryz.prog 11 [s.d, .sl (l.map Tm.d)] (.ret [.bool (o8 s l)]):=by
 refine cj.bt mix OS (by simp) ?_
 rw[Tv]
 simp+contextual (disch:=first|omega|simp only[go_sem,false_implies]) only[go_sem,wrap64,if_pos,and_self]
 refine bn (fun k:Nat=>⟨bF [.aa, .d (.sl (l.map Tm.d)), .ptr 0 0, .aa, .aa, .d (.i k)],pQ s.row,1⟩)
  (fun k=>k<=l.length/\(l.take k).all mq=true) (fun k=>l.length - k) 0 ⟨Nat.zero_le _,by simp⟩ (cq.d1 _ (cT rfl) (by omega) rfl ?_) (fun k hk=> ?_)
 ·(repeat(first|exact aw|refine aq ?_|refine ah rfl ?_|refine ah (aV (aU (by omega))) ?_|refine aF rfl (by simp[V.refs,V.ag]<;>first|omega|assumption) ?_))
 simp+contextual (disch:=first|omega|simp only[go_sem,false_implies]) only[go_sem,wrap64,if_pos,and_self]
 refine ax (fun h2=> ?_) (fun h2=> ?_)
 ·simp at h2
  obtain⟨x,hx⟩:=bH h2
  simp+contextual (disch:=first|omega|simp only[go_sem,false_implies]) only[go_sem,wrap64,if_pos,hx]
  refine aJ (wu x (hf x (List.mem_of_getElem? hx))) rfl ?_
  simp+contextual (disch:=first|omega|simp only[go_sem,false_implies]) only[go_sem,wrap64,if_pos,and_self]
  refine ax (fun h3=> ?_) (fun h3=> ?_)
  ·simp+contextual (disch:=first|omega|simp only[go_sem,false_implies]) only[go_sem,wrap64,if_pos,and_self]
   simp at h3
   simp[o8,js hx h3]
  ·simp+contextual (disch:=first|omega|simp only[go_sem,false_implies]) only[go_sem,wrap64,if_pos,and_self]
   simp at h3
   refine aE (k+1) ⟨h2,kG hx hk.2 h3⟩ (by omega) (cq.d1 _ (cT rfl) (by omega) rfl ?_)
   (repeat(first|exact aw|refine aq ?_|refine ah rfl ?_|refine ah (aV (aU (by omega))) ?_|refine aF rfl (by simp[V.refs,V.ag]<;>first|omega|assumption) ?_))
 ·simp at h2
  simp+contextual (disch:=first|omega|simp only[go_sem,false_implies]) only[go_sem,wrap64,if_pos,and_self]
  refine aJ (Av s hs) rfl ?_
  simp+contextual (disch:=first|omega|simp only[go_sem,false_implies]) only[go_sem,wrap64,if_pos,and_self]
  rw[o8,kH hk.2 h2,Bool.true_and]
def j5(s:bP)(l:List Tm):Bool:=oT s&&l.all (gm s)
theorem HL(s:bP)(hs:s.Fits)(l:List Tm)(hl:l.length<=1000000)(hf:∀t∈l,t.fits):cj Tryz.prog 15 [s.d, .sl (l.map Tm.d)] (.ret [.bool (j5 s l)]):=by
 refine cj.bt mix OU (by simp) ?_
 rw[Tz]
 simp+contextual (disch:=first|omega|simp only[go_sem,false_implies]) only[go_sem,wrap64,if_pos,and_self]
 refine aJ (QK s hs) rfl ?_
 cases h1:oT s with
 |false=>simp+contextual (disch:=first|omega|simp only[go_sem,false_implies]) only[go_sem,wrap64,if_pos,and_self];simp[j5,h1]
 |true=>
  simp+contextual (disch:=first|omega|simp only[go_sem,false_implies]) only[go_sem,wrap64,if_pos,and_self]
  refine bn (fun k:Nat=>⟨bF [.aa, .d (.sl (l.map Tm.d)), .ptr 0 0, .aa, .aa, .d (.i k)],pQ s.row,1⟩)
   (fun k=>k<=l.length/\(l.take k).all (gm s)=true) (fun k=>l.length - k) 0 ⟨Nat.zero_le _,by simp⟩ (cq.d1 _ (cT rfl) (by omega) rfl ?_) (fun k hk=> ?_)
  ·(repeat(first|exact aw|refine aq ?_|refine ah rfl ?_|refine ah (aV (aU (by omega))) ?_|refine aF rfl (by simp[V.refs,V.ag]<;>first|omega|assumption) ?_))
  simp+contextual (disch:=first|omega|simp only[go_sem,false_implies]) only[go_sem,wrap64,if_pos,and_self]
  refine ax (fun h2=> ?_) (fun h2=> ?_)
  ·simp at h2
   obtain⟨x,hx⟩:=bH h2
   simp+contextual (disch:=first|omega|simp only[go_sem,false_implies]) only[go_sem,wrap64,if_pos,hx]
   refine dV (LF s hs x (hf x (List.mem_of_getElem? hx))) rfl ?_
   simp+contextual (disch:=first|omega|simp only[go_sem,false_implies]) only[go_sem,wrap64,if_pos,and_self]
   refine aP (bE rfl) ?_
   simp+contextual (disch:=first|omega|simp only[go_sem,false_implies]) only[go_sem,wrap64,if_pos,and_self]
   refine ax (fun h3=> ?_) (fun h3=> ?_)
   ·simp+contextual (disch:=first|omega|simp only[go_sem,false_implies]) only[go_sem,wrap64,if_pos,and_self]
    simp at h3
    simp[j5,js hx h3]
   ·simp+contextual (disch:=first|omega|simp only[go_sem,false_implies]) only[go_sem,wrap64,if_pos,and_self]
    simp at h3
    refine aE (k+1) ⟨h2,kG hx hk.2 h3⟩ (by omega) (cq.d1 _ (cT rfl) (by omega) rfl ?_)
    (repeat(first|exact aw|refine aq ?_|refine ah rfl ?_|refine ah (aV (aU (by omega))) ?_|refine aF rfl (by simp[V.refs,V.ag]<;>first|omega|assumption) ?_))
  ·simp at h2
   simp+contextual (disch:=first|omega|simp only[go_sem,false_implies]) only[go_sem,wrap64,if_pos,and_self]
   simp[j5,h1,kH hk.2 h2]
end Go.Proofs.YtealblliddhgiaaGreat
namespace Go.Proofs.YtealblliddhgiaaGreat
def Tm.sz (t:Tm):Nat:=(pre t 1).length
def jK(l:List Tm):Nat:=(l.map Tm.sz).sum
theorem Tm.sP (t:Tm):t.yF=(t.sz:Int):=rfl
theorem Tm.fh (t:Tm):t.sz=1+jK t.kids:=by
 unfold Tm.sz jK
 rw[ll,List.length_cons,List.length_flatMap,Nat.add_comm]
 congr 2
 exact List.map_congr_left fun k hk=>qv k _ _
theorem Tm.BO (op n:Int)(l:List Tm):(Tm.mk op n l).sz=1+jK l:=Tm.fh _
theorem cE(k:Tm)(l:List Tm):jK (k::l)=k.sz+jK l:=by simp[jK]
theorem Tm.AB (t:Tm):1<=t.sz:=by rw[Tm.fh];omega
theorem kI(k:Tm)(l:List Tm):Tm.dF (k::l)=Nat.max k.cc (Tm.dF l):=by simp[Tm.dF]
theorem ra:∀ (l:List Tm) (n:Nat),Tm.dF l<=n↔∀k∈l,k.cc<=n
 |[],n=>by simp[Tm.dF]
 |x::l,n=>by
  rw[kI]
  simp only[List.mem_cons,forall_eq_or_imp, <- ra l n]
  exact Nat.max_le
theorem Tm.dg (t:Tm):t.cc=1+Tm.dF t.kids:=by cases t;simp[Tm.cc,Tm.kids]
theorem C7:∀t:Tm,∀left depth:Int,hO t left depth=if(t.sz:Int)<=left/\(t.cc:Int)<=depth then left - t.sz else -1:=by
 refine Tm.gN fun t ih left depth=> ?_
 have hs:∀ (l:List Tm) (left d:Int),(∀k∈l,k∈t.kids)->0<=left->0<=d->cm l left d=if(jK l:Int)<=left/\(Tm.dF l:Int)<=d then left - jK l else -1:=by
  intro l
  induction l with
  |nil=>intro left d _ h1 h2;simp[cm,jK,Tm.dF,h1,h2]
  |cons k l oY=>
   intro left d hk h1 h2
   simp only[cm,if_pos h1]
   rw[ih k (hk k (by simp))]
   have hm:(Tm.dF (k::l):Int)<=d↔(k.cc:Int)<=d/\(Tm.dF l:Int)<=d:=by
    have:= @Nat.max_le k.cc (Tm.dF l) d.toNat
    have e:Tm.dF (k::l)=max k.cc (Tm.dF l):=kI k l
    rw[e];omega
   simp only[cE,hm]
   by_cases hc:(k.sz:Int)<=left/\(k.cc:Int)<=d
   ·rw[if_pos hc,oY _ _ (fun x hx=>hk x (by simp[hx])) (by omega) h2]
    by_cases rF:(jK l:Int)<=left - k.sz/\(Tm.dF l:Int)<=d
    ·rw[if_pos rF,if_pos (by omega)];omega
    ·rw[if_neg rF,if_neg (by omega)]
   ·rw[if_neg hc,nL (by omega),if_neg (by omega)]
 rw[yx,Tm.fh,Tm.dg]
 by_cases h:left<1\/depth<1
 ·rw[if_pos h,if_neg (by omega)]
 ·rw[if_neg h,hs _ _ _ (fun _ h=>h) (by omega) (by omega)]
  by_cases hc:(jK t.kids:Int)<=left - 1/\(Tm.dF t.kids:Int)<=depth - 1
  ·rw[if_pos hc,if_pos (by omega)];omega
  ·rw[if_neg hc,if_neg (by omega)]
theorem mD(t:Tm)(left depth:Int):0<=hO t left depth↔(t.sz:Int)<=left/\(t.cc:Int)<=depth:=by
 rw[C7];split<;>omega
theorem lx(t:Tm):mq t=true↔t.sz<=50/\t.cc<=14:=by
 simp only[mq,decide_eq_true_eq,mD];omega
theorem Tm.LO.yG {t:Tm}(hf:t.fits)(h:mq t=true):t.LO:=by
 rw[lx]at h
 exact⟨⟨hf,by omega⟩,by rw[Tm.sP];omega⟩
theorem C8:∀ (t:Tm) (d m:Int),(∀x∈pre t d,x.2<=m)↔d+t.cc - 1<=m:=by
 refine Tm.gN fun t ih d m=> ?_
 rw[ll,Tm.dg]
 simp only[List.mem_cons,forall_eq_or_imp,List.mem_flatMap]
 have h1:(∀x:Tm×Int,(∃k,k∈t.kids/\x∈pre k (d+1))->x.2<=m)↔∀k∈t.kids,d+1+k.cc - 1<=m:=by
  constructor
  ·intro h k hk
   exact(ih k hk _ _).1 fun x hx=>h x ⟨k,hk,hx⟩
  ·rintro h x ⟨k,hk,hx⟩
   exact(ih k hk _ _).2 (h k hk) x hx
 rw[h1]
 constructor
 ·rintro⟨h2,h3⟩
  have:=(ra t.kids (m - d).toNat).2 fun k hk=>by have:=h3 k hk;omega
  omega
 ·intro h
  have:=(ra t.kids (m - d).toNat).1 (by omega)
  exact⟨by omega,fun k hk=>by have:=this k hk;omega⟩
theorem HM(p:Tm->Bool):∀ (t:Tm) (d:Int),(pre t d).all (fun x=>p x.1)=(p t&&t.kids.all fun k=>(pre k (d+1)).all fun x=>p x.1):=by
 intro t d
 rw[ll,List.all_cons,List.all_flatMap]
theorem AD(s:bP):∀ (t:Tm) (d:Int),eY s t=(pre t d).all fun x=>bp s x.1:=by
 refine Tm.gN fun t ih d=> ?_
 rw[HM (bp s),dG]
 congr 1
 rw[Bool.eq_iff_iff]
 simp only[List.all_eq_true (l:=t.kids)]
 exact forall_congr' fun k=>forall_congr' fun hk=>by rw[ih k hk (d+1)]
theorem FK{s:bP}{t:Tm}(h:bp s t=true):eX t.op 1 15=true:=by
 rw[show eX t.op 1 15=true↔1<=t.op/\t.op<=15 by simp[eX]]
 by_cases h6:eX t.op 6 15=true
 ·simp[eX]at h6;omega
 ·simp only[bp,if_neg h6]at h
  by_cases h1:t.op=1
  ·omega
  by_cases h2:t.op=2
  ·omega
  by_cases h3:t.op=3
  ·omega
  by_cases h4:t.op=4
  ·omega
  by_cases h5:t.op=5
  ·omega
  by_cases h8:t.op=8
  ·omega
  rw[if_neg h1,if_neg h2,if_neg h3,if_neg h4,if_neg h5,if_neg h8]at h
  cases h
def sQ(s:bP)(x:Tm×Int):Bool:= !(decide (12<x.2)|| !eX x.1.op 1 15|| !bp s x.1)
theorem qw(s:bP):∀ (l:List (Tm×Int)) (n:Int) (b:Bool),(aS (uR fJ (gv s)) (n,b) l).2=(decide (l=[]\/n+l.length<=40)&&l.all (sQ s))
 |[],n,b=>by simp[aS]
 |x::l,n,b=>by
  have e1:∀c,mZ s n x=c->uR fJ (gv s) (n,b) x=((n+1, !c), !c):=fun c hc=>by show((n+1, !mZ s n x),(fJ (n+1, !mZ s n x)).isNone)=_;rw[hc];cases c<;>rfl
  have hb:mZ s n x=(decide (40<n+1)|| !sQ s x):=by simp[mZ,sQ,Bool.or_assoc]
  rw[List.all_cons]
  cases hg:sQ s x with
  |false=>
   have e:mZ s n x=true:=by rw[hb,hg];simp
   rw[aS,e1 _ e];simp
  |true=>
   by_cases Yu:40<n+1
   ·have:decide (x::l=[]\/n+(x::l).length<=40)=false:=by simp;omega
    have e:mZ s n x=true:=by rw[hb];simp[Yu]
    rw[this,Bool.false_and,aS,e1 _ e];simp
   ·have e:mZ s n x=false:=by rw[hb,hg];simp;omega
    rw[aS,e1 _ e]
    simp only[Bool.not_false,if_true,qw s l,Bool.true_and]
    congr 1
    cases l with
    |nil=>simp;omega
    |cons y l=>simp;omega
theorem jt(s:bP)(t:Tm):fq s t=gm s t:=by
 rw[fq,qw,gm,AD s t 1,Bool.eq_iff_iff]
 have hn:pre t 1≠[]:=by rw[ll];simp
 simp only[Bool.and_eq_true,decide_eq_true_eq,hn,false_or,mD,List.all_eq_true]
 have hd:=C8 t 1 12
 constructor
 ·rintro⟨h1,h2⟩
  have h3:∀x∈pre t 1,x.2<=12:=fun x hx=>by have:=h2 x hx;simp[sQ]at this;omega
  have:=hd.1 h3
  exact⟨⟨by unfold Tm.sz;omega,by omega⟩,fun x hx=>by have:=h2 x hx;simp[sQ]at this;exact this.2⟩
 ·rintro⟨⟨h1,h2⟩,h3⟩
  have h4:=hd.2 (by omega)
  refine⟨by unfold Tm.sz at h1;omega,fun x hx=> ?_⟩
  have h5:=h4 x hx
  have h6:=h3 x hx
  have h7:=FK h6
  simp[sQ,h6,h7];omega
theorem uW(s:bP)(l:List Tm):fD s l=j5 s l:=by
 unfold fD j5;congr 2;funext t;exact jt s t
theorem nO:∀a:Tm,gq a a=true:=by
 refine Tm.gN fun a ih=> ?_
 rw[oZ]
 have:gO a.kids a.kids=true:=(gR _ _ rfl).2 fun i x y hx hy=>by
  rw[hx]at hy;injection hy with hy;subst hy;exact ih x (List.mem_of_getElem? hx)
 simp[this]
theorem uX:∀a b:Tm,gq a b=true↔a=b:=by
 refine Tm.gN fun a ih b=>⟨fun h=> ?_,fun e=>e ▸ nO _⟩
 rw[oZ]at h
 simp only[Bool.and_eq_true,beq_iff_eq]at h
 obtain⟨⟨⟨h1,h2⟩,h3⟩,h4⟩:=h
 have h5:=(gR _ _ h3).1 h4
 have:a.kids=b.kids:=by
  apply List.ext_getElem?
  intro i
  cases hx:a.kids[i]? with
  |none=>simp at hx;symm;simp;omega
  |some x=>
   have hi:=(List.getElem?_eq_some_iff.1 hx).1
   obtain⟨y,hy⟩:=bH (l:=b.kids) (k:=i) (by omega)
   rw[hy,(ih x (List.mem_of_getElem? hx) y).1 (h5 i x y hx hy)]
 rw[<- Tm.eta a, <- Tm.eta b,h1,h2,this]
end Go.Proofs.YtealblliddhgiaaGreat
