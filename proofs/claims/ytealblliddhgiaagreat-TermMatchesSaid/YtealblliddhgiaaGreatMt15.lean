/-
  A PART OF THE PROOF. Conditions: none.
-/
import Derived.Test.YtealblliddhgiaaGreatMt14
set_option linter.unusedSimpArgs false
set_option linter.unusedVariables false
namespace Go.Proofs.YtealblliddhgiaaGreat
theorem zH{σ:Type}(l:List Tm)(hl:l.length<=9223372036854775807)(g:Nat)(cj:List V)(base:Nat)(H:σ->Nat->ab)(step:σ->Tm->σ×Bool)(hc:∀r∈V.ah cj,r<base)(ok:σ->Prop)(bB:∀x∈l,∀s,ok s->(step s x).2=true->ok (step s x).1)
 (h:∀x∈l,∀s,ok s->xK Tryz.prog g (.d x.d::cj) base (H s) (H (step s x).1) (.d (.bool (step s x).2))) (s:σ) (ua:ok s):
 xK Tryz.prog 87 [.d (.sl (l.map Tm.d)), .func (.func g) [] cj] base (H s) (H (aZ step s l).1) (.d (.bool (aZ step s l).2)):=by
 intro o nx hI K X hK
 have E3:∀r∈V.ah cj,r<nx:=fun r hr=>Nat.lt_of_lt_of_le (hc r hr) hI.le
 refine eR.aV mix Rc (by simp) ?_
 rw[Wf]
 simp+contextual only[go_sem]
 refine aT (fun i:Nat×σ×(Nat->ab)×Nat=>⟨bq [.af, .func (.func g) [] cj, .af, .af, .af, .af, .af, .d (.sl (l.map Tm.d)), .d (.i l.length), .d (.i i.1)],i.2.2.1,i.2.2.2⟩)
  (fun i=>i.1<=l.length/\ig base (H i.2.1) i.2.2.1 i.2.2.2/\nx<=i.2.2.2/\(∀id,base<=id->id<nx->i.2.2.1 id=o id)/\aZ step s l=aZ step i.2.1 (l.drop i.1)/\ok i.2.1) (fun i=>l.length - i.1) (0,s,o,nx)
  ⟨Nat.zero_le _,hI,Nat.le_refl _,fun _ _ _=>rfl,rfl,ua⟩ ?_ ?_
 ·dsimp only
  refine bP.cF _ (Nat.le_refl _) (by omega) hI.df (fun _ _=>rfl) ?_
  (repeat(first|exact ao|refine ai ?_|refine ag rfl ?_|refine ag (aR (aQ (by omega))) ?_|refine aD rfl (by simp[V.refs,V.ah]<;>first|omega|assumption) ?_))
 rintro⟨k,s',o',nx'⟩ ⟨hk,I0,hn,cL,hf,Bm⟩
 simp only at hk I0 hn cL hf Bm
 simp+contextual only[go_sem]
 refine ak (fun h1=> ?_) (fun h1=> ?_)
 ·simp at h1
  obtain⟨x,hx⟩:=aM h1
  have gS:=List.mem_of_getElem? hx
  have hd:l.drop k=x::l.drop (k+1):=by
   rw[List.drop_eq_getElem_cons h1]
   rw[List.getElem?_eq_getElem h1]at hx;injection hx with hx;rw[hx]
  simp+contextual only[go_sem,hx,Nat.add_assoc,Nat.left_eq_add,Nat.add_eq_left,Nat.add_left_cancel_iff]
  have T6:=I0.le
  refine jN (h x gS s' Bm _ _ (?_:ig base (H s') _ (nx'+7)) _ _ fun o2 n2 m1 m2 m3=> ?_)
  ·exact(I0.ax (i:=nx'+3) (m:=nx'+7) (by omega) (by omega) (by omega) rfl).ax (by omega) (by omega) (by omega) rfl
  have Gs:∀id,base<=id->id<nx->o2 id=o id:=fun id h2 h3=>by
   rw[m3 id h2 (by omega),ae _ _ _ _ (by omega),ae _ _ _ _ (by omega),cL id h2 h3]
  simp+contextual only[go_sem]
  refine ak (fun h2=> ?_) (fun h2=> ?_)
  ·simp+contextual only[go_sem]
   simp at h2
   have:aZ step s l=((step s' x).1,false):=by rw[hf,hd,aZ,if_neg (by rw[h2];exact Bool.false_ne_true)]
   rw[this]at hK
   exact hK _ _ (by omega) (m2.mono (by omega)) Gs
  ·simp+contextual only[go_sem]
   simp at h2
   have:aZ step s l=aZ step (step s' x).1 (l.drop (k+1)):=by rw[hf,hd,aZ,if_pos h2]
   refine aA (k+1,(step s' x).1,o2,n2) ⟨h1,m2,by dsimp only;omega,Gs,this,bB x gS s' Bm h2⟩ (by dsimp only;omega) ?_
   dsimp only
   have Sd:∀r∈V.ah cj,r<n2:=fun r hr=>by have:=E3 r hr;omega
   refine bP.cF _ (by omega) (by omega) m2.df (fun _ _=>rfl) ?_
   (repeat(first|exact ao|refine ai ?_|refine ag rfl ?_|refine ag (aR (aQ (by omega))) ?_|refine aD rfl (by simp[V.refs,V.ah]<;>first|omega|assumption) ?_))
 ·simp+contextual only[go_sem]
  simp at h1
  rw[List.drop_eq_nil_of_le h1]at hf
  simp only[aZ]at hf
  rw[hf]at hK
  exact hK _ _ (by omega) (I0.mono (by omega)) cL
theorem w8{α σ:Type}(step:σ->α->σ×Bool)(a b:List α):∀s,aZ step s (a++b)=if(aZ step s a).2=true then aZ step (aZ step s a).1 b else((aZ step s a).1,false):=by
 induction a with
 |nil=>intro s;simp[aZ]
 |cons x a ih=>
  intro s
  simp only[List.cons_append,aZ]
  split
  ·exact ih _
  ·rename_i h;simp
theorem Bn{α β σ:Type}(step:σ->β->σ×Bool)(f:α->List β)(l:List α):∀s,aZ step s (l.flatMap f)=aZ (fun s x=>aZ step s (f x)) s l:=by
 induction l with
 |nil=>intro s;rfl
 |cons x l ih=>intro s;simp only[List.flatMap_cons,w8,aZ,ih]
theorem zI{α σ:Type}{step:σ->α->σ×Bool}{ok:σ->Prop}:∀ (l:List α),(∀x∈l,∀s,ok s->(step s x).2=true->ok (step s x).1)->∀s,ok s->(aZ step s l).2=true->ok (aZ step s l).1
 |[],_,s,h,_=>h
 |x::l,bB,s,h,h2=>by
  simp only[aZ]at h2|-
  split at h2
  ·rename_i hb
   rw[if_pos hb]
   exact zI l (fun y hy=>bB y (by simp[hy])) _ (bB x (by simp) s h hb) h2
  ·cases h2
def Yj(P:Program)(EJ:Nat)(args:List V)(base:Nat)(h h2:Nat->ab)(v:V):Prop:=
 ∀o nx,ig base h o nx->∀K X,Sb base h2 v o nx K->dy P EJ args o nx K X
section
variable {σ:Type}(base EJ:Nat)(H:σ->Nat->ab)(step:σ->Tm×Int->σ×Bool)(ok:σ->Prop)
theorem I1:∀t:Tm,t.fits->∀d:Int,0<=d->d+t.eB<=1000000->(∀x∈pre t d,∀s,ok s->(step s x).2=true->ok (step s x).1)->(∀x∈pre t d,∀s,ok s->Yj Tryz.prog EJ [.d x.1.d, .d (.i x.2)] base (H s) (H (step s x).1) (.d (.bool (step s x).2)))->EJ<base->
 ∀ (c:Nat) (o0:Nat->ab) (yb vb:Nat),base<=c->base<=yb->yb<c->base<=vb->vb<c->o0 yb= .row [.ki EJ]->o0 vb= .row [.func (.func 114) [] [.ptr yb 0, .ptr vb 0]]->
 ∀s,ok s->xK Tryz.prog 114 [.d t.d, .d (.i d), .ptr yb 0, .ptr vb 0] c (ext base (H s) o0) (ext base (H (aZ step s (pre t d)).1) o0) (.d (.bool (aZ step s (pre t d)).2)):=by
 refine Tm.ej fun t ih hf d hd0 hd bB hR Ni c o0 yb vb hbc Yk hy Yl hv oy ov s ua=> ?_
 have xG:=(Tm.bD _).1 hf
 intro o nx hI K X hK
 have hle:=hI.le
 have Ym:o yb= .row [.ki EJ]:=by rw[hI.eq yb hy];unfold ext;rw[if_neg (by omega),oy]
 have Yn:o vb= .row [.func (.func 114) [] [.ptr yb 0, .ptr vb 0]]:=by rw[hI.eq vb hv];unfold ext;rw[if_neg (by omega),ov]
 have y1:yb≠nx:=by omega
 have y2:∀k,yb≠nx+k:=fun k=>by omega
 have y3:vb≠nx:=by omega
 have y4:∀k,vb≠nx+k:=fun k=>by omega
 refine eR.aV mix KH (by simp) ?_
 rw[MR]
 simp+contextual only[go_sem,Ym,Yn,y1,y2,y3,y4,Nat.add_assoc,Nat.left_eq_add,Nat.add_eq_left,Nat.add_left_cancel_iff]
 have Gt:=mo t d
 have gu:∀k∈t.kids,∀x∈pre k (d+1),x∈pre t d:=fun k hk x hx=>by
  rw[Gt];exact List.mem_cons_of_mem _ (List.mem_flatMap.2 ⟨k,hk,hx⟩)
 have hb:∀id,id<base->o id=H s id:=fun id aw=>by rw[hI.eq id (by omega)];unfold ext;rw[if_pos aw]
 have ZL:ig base (H s) o nx:=⟨hI.df,by omega,hb⟩
 refine zC (hR (t,d) (by rw[Gt];simp) s ua _ _ ((ZL.ax (i:=nx) (m:=nx+6) (by omega) (by omega) (by omega) rfl).ax (i:=nx+1) (by omega) (by omega) (by omega) rfl) _ _ fun o2 n2 m1 m2 m3=> ?_)
 have k0:o2 nx= .row t.row:=by rw[m3 nx (by omega) (by omega),ae _ _ _ _ (by omega),aa]
 have k1:o2 (nx+1)= .row [.d (.i d)]:=by rw[m3 (nx+1) (by omega) (by omega),aa]
 have hold:∀id,base<=id->id<nx->o2 id=o id:=fun id h1 h2=>by rw[m3 id h1 (by omega),ae _ _ _ _ (by omega),ae _ _ _ _ (by omega)]
 have qL:∀id,base<=id->id<c->o id=o0 id:=fun id h1 h2=>by rw[hI.eq id h2];unfold ext;rw[if_neg (by omega)]
 cases Se:(step s (t,d)).2 with
 |false=>
  simp+contextual only[go_sem,Se]
  have K1:aZ step s (pre t d)=((step s (t,d)).1,false):=by rw[Gt,aZ,if_neg (by rw[Se];exact Bool.false_ne_true)]
  rw[K1]at hK
  refine hK _ _ (by omega) ⟨m2.df.mono (by omega),by omega,fun id aw=> ?_⟩ (fun id h1 h2=>hold id (by omega) h2)
  unfold ext
  split
  ·exact m2.eq id (by assumption)
  ·rw[hold id (by omega) (by omega),qL id (by omega) aw]
 |true=>
  have K1:aZ step s (pre t d)=aZ (fun s k=>aZ step s (pre k (d+1))) (step s (t,d)).1 t.kids:=by rw[Gt,aZ,if_pos Se,Bn]
  simp+contextual only[go_sem,Se,k0,k1]
  have q0:o2 yb= .row [.ki EJ]:=by rw[hold yb Yk (by omega),Ym]
  have q1:o2 vb= .row [.func (.func 114) [] [.ptr yb 0, .ptr vb 0]]:=by rw[hold vb Yl (by omega),Yn]
  have m0:=m2.le
  refine dP (zH t.kids xG.1 115 [.ptr vb 0, .ptr (nx+1) 0] n2 (fun s=>ext base (H s) o2) (fun s k=>aZ step s (pre k (d+1))) ?_ ok ?_ ?_ (step s (t,d)).1 (bB (t,d) (by rw[Gt];simp) s ua Se) _ _ ?_ _ _ ?_)
  ·simp[V.ah,V.refs];omega
  ·exact fun k hk s' h1 h2=>zI _ (fun x hx=>bB x (gu k hk x hx)) s' h1 h2
  ·intro k hk s' jA o3 n3 Tq K3 X3 ZM
   have l3:=Tq.le
   have r0:o3 vb= .row [.func (.func 114) [] [.ptr yb 0, .ptr vb 0]]:=by rw[Tq.eq vb (by omega)];unfold ext;rw[if_neg (by omega),q1]
   have r1:o3 (nx+1)= .row [.d (.i d)]:=by rw[Tq.eq (nx+1) (by omega)];unfold ext;rw[if_neg (by omega),k1]
   have y5:vb≠n3:=by omega
   have y6:∀k,vb≠n3+k:=fun k=>by omega
   have y7:nx+1≠n3:=by omega
   have y8:∀k,nx+1≠n3+k:=fun k=>by omega
   have hh:=Tm.gR hk
   refine eR.aV mix KI (by simp) ?_
   rw[MT]
   simp+contextual only[go_sem,r0,r1,y5,y6,y7,y8]
   rw[wrap64 (n:=d+1) (by omega) (by omega)]
   refine dP (ih k hk (xG.2 k hk) (d+1) (by omega) (by omega) (fun x hx=>bB x (gu k hk x hx)) (fun x hx=>hR x (gu k hk x hx)) Ni n2 o2 yb vb (by omega) Yk (by omega) Yl (by omega) q0 q1 s' jA _ _ (Tq.ax (i:=n3) (m:=n3+6) (by omega) (by omega) (by omega) rfl) _ _ fun o4 n4 p1 p2 p3=> ?_)
   simp+contextual only[go_sem]
   refine ZM _ _ (by omega) (p2.mono (by omega)) (fun id h1 h2=> ?_)
   rw[p3 id h1 (by omega),ae _ _ _ _ (by omega)]
  ·exact(m2.mono (by omega)).ext (by omega) (by omega)
  ·intro o5 n5 p1 p2 p3
   simp+contextual only[go_sem]
   rw[<- K1]
   refine hK _ _ (by omega) ⟨p2.df.mono (by omega),by omega,fun id aw=> ?_⟩ (fun id h1 h2=> ?_)
   ·rw[p2.eq id (by omega), <- K1]
    unfold ext
    split
    ·rfl
    ·rw[hold id (by omega) (by omega),qL id (by omega) aw]
   ·rw[p2.eq id (by omega)]
    unfold ext
    rw[if_neg (by omega),hold id (by omega) h2]
theorem Gu(t:Tm)(hf:t.fits)(hd:t.eB<=900000)(bB:∀x∈pre t 1,∀s,ok s->(step s x).2=true->ok (step s x).1)(hR:∀x∈pre t 1,∀s,ok s->Yj Tryz.prog EJ [.d x.1.d, .d (.i x.2)] base (H s) (H (step s x).1) (.d (.bool (step s x).2)))(Ni:EJ<base)(tb:Nat)(Nj:tb<base)(s:σ)(ua:ok s)(bF:H s tb= .row t.row):
 xK Tryz.prog 113 [.ki EJ, .ptr tb 0] base (H s) (H (aZ step s (pre t 1)).1) (.bU []):=by
 intro o nx hI K X hK
 have hle:=hI.le
 have ot:o tb= .row t.row:=by rw[hI.eq tb Nj,bF]
 have y1:tb≠nx:=by omega
 have y2:∀k,tb≠nx+k:=fun k=>by omega
 refine eR.aV mix KG (by simp) ?_
 rw[MQ]
 simp+contextual only[go_sem,ot,y1,y2,Nat.add_assoc,Nat.left_eq_add,Nat.add_eq_left,Nat.add_left_cancel_iff]
 have ZN:ig base (H s) (ax (ax (ax o nx (.row [.ki EJ])) (nx+1) (.row [.d .a7])) (nx+1) (.row [.func (.func 114) [] [.ptr nx 0, .ptr (nx+1) 0]])) (nx+6):=by
  refine((hI.ax (i:=nx) (m:=nx+6) (by omega) (by omega) (by omega) ?_).ax (i:=nx+1) (m:=nx+6) (by omega) (by omega) (by omega) rfl).ax (i:=nx+1) (by omega) (by omega) (by omega) ?_
  ·simp[ab.refs,V.ah,V.refs];omega
  ·simp[ab.refs,V.ah,V.refs]
 refine dP (I1 base EJ H step ok t hf 1 (by omega) (by omega) bB hR Ni (nx+6) _ nx (nx+1) (by omega) hle (by omega) (by omega) (by omega) ?_ ?_ s ua _ _ (ZN.ext (Nat.le_refl _) (by omega)) _ _ ?_)
 ·(repeat(first|rfl|rw[aa]|rw[ae _ _ _ _ (by omega)]))
 ·(repeat(first|rfl|rw[aa]|rw[ae _ _ _ _ (by omega)]))
 intro o2 n2 m1 m2 m3
 simp+contextual only[go_sem]
 refine hK _ _ (by omega) ⟨m2.df,by omega,fun id aw=> ?_⟩ (fun id h1 h2=> ?_)
 ·rw[m2.eq id (by omega)];unfold ext;rw[if_pos aw]
 ·rw[m2.eq id (by omega)];unfold ext;rw[if_neg (by omega)]
  (repeat(first|rfl|rw[aa]|rw[ae _ _ _ _ (by omega)]))
end
theorem tt(t:Tm)(o:Nat->ab)(nx:Nat)(K X:V->(Nat->ab)->Nat->Prop)(h:K (.func (.func 113) [] [.ptr nx 0]) (ax o nx (.row t.row)) (nx+4)):eR Tryz.prog 81 [.d t.d] o nx K X:=by
 refine eR.aV mix Q8 (by simp) ?_
 rw[V9]
 simp+contextual only[go_sem]
 exact h
end Go.Proofs.YtealblliddhgiaaGreat
namespace Go.Proofs.YtealblliddhgiaaGreat
def Sf:Option jQ->fO
 |none=> .normal
 |some .ret=> .ret
 |some (.exit j)=> .exit j
def uc{σ:Type}(J:σ->Option jQ)(step:σ->Tm×Int->σ)(s:σ)(x:Tm×Int):σ×Bool:=(step s x,(J (step s x)).isNone)
theorem w9{σ:Type}(J:σ->Option jQ)(step:σ->Tm×Int->σ):∀ (l:List (Tm×Int)) (s:σ),J s=none->(aZ (uc J step) s l).2=(J (aZ (uc J step) s l).1).isNone
 |[],s,h=>by simp[aZ,h]
 |x::l,s,h=>by
  simp only[aZ]
  split
  ·rename_i hb
   exact w9 J step l _ (by simpa[uc]using hb)
  ·rename_i hb
   cases hj:J (step s x)with
   |none=>exact absurd (by simp[uc,hj]) hb
   |some j=>simp[uc,hj]
theorem mC{σ:Type}(t:Tm)(hf:t.fits)(hd:t.eB<=900000){n:Nat}{ps:List Nat}{kj ft:IC}{Q:fO->S->Prop}{e:Nat->V}{o:Nat->ab}{nx tb:Nat}(env:List V)(he:nz e env 0)
 (Ix:ps.all (fun t=>decide (t<n))=true) (hl:ps.length=2) (hg:Good o nx) (hrefs:∀r∈V.ah env,r<nx) (ht:o tb= .row t.row)
 (G:σ->Nat->ab) (J:σ->Option jQ) (step:σ->Tm×Int->σ) (ok:σ->Prop) (s0:σ) (ua:ok s0) (Yo:J s0=none) (h0:∀id,id<nx->o id=G s0 id) (bB:∀x∈pre t 1,∀s,ok s->J s=none->J (step s x)=none->ok (step s x))
 (AL:∀L,jr Tryz.prog n env ps kj ft L->(∀st pd m,nx<=m->(L st pd).refs.all (fun r=>decide (r<m))=true)->∀x∈pre t 1,∀s,ok s->J s=none->∀o3 n3,ig nx (G s) o3 n3->nx<n3->o3 nx=L .ready none->∀K X,
  (∀e' o' n' st pd,n3<=n'->ig nx (G (step s x)) o' n'->o' nx=L st pd->(∀id,nx<id->id<n3->o' id=o3 id)->lB nx K X (Sf (J (step s x))) ⟨e',o',n'⟩)->
  lA Tryz.prog n n3 true kj (tj Tryz.prog n n3 nx ft K X) ⟨rq (bq env) ps [.d x.1.d, .d (.i x.2)],o3,n3⟩)
 (nR:∀o' n',ig nx (G (aZ (uc J step) s0 (pre t 1)).1) o' n'->uk Q (J (aZ (uc J step) s0 (pre t 1)).1) ⟨e,o',n'⟩):
 A6 Tryz.prog n false ps kj ft Q ⟨e,o,nx⟩ (.func (.func 113) [] [.ptr tb 0]):=by
 refine Nc env he (fun L hL=> ?_)
 have Nj:tb<nx:=hg.lt (by rw[ht];exact ab.noConfusion)
 let H:σ->Nat->ab:=fun s id=>if id<nx then G s id else if id=nx then(match J s with|none=>L .ready none|some j=>L .done (some j))else .no
 have Lq:∀s id,id<nx->H s id=G s id:=fun s id h=>if_pos h
 have Ts:∀s,J s=none->H s nx=L .ready none:=fun s h=>by show(if nx<nx then _ else _)=_;rw[if_neg (by omega),if_pos rfl,h]
 have Wv:∀s j,J s=some j->H s nx=L .done (some j):=fun s j h=>by show(if nx<nx then _ else _)=_;rw[if_neg (by omega),if_pos rfl,h]
 have cX:∀st pd m,nx<=m->(L st pd).refs.all (fun r=>decide (r<m))=true:=fun st pd m hm=>by
  rw[hL.refs,List.all_eq_true]
  intro r hr;have:=hrefs r hr;exact decide_eq_true (by omega)
 refine Gu (nx+1) nx H (uc J step) (fun s=>ok s/\J s=none) t hf hd (fun x hx s h1 h2=> ?_) (fun x hx s h1=> ?_) (by omega) tb (by omega) s0 ⟨ua,Yo⟩ (by rw[Lq _ _ Nj, <- h0 _ Nj,ht]) _ _ ⟨?_,Nat.le_refl _,fun id aw=> ?_⟩ _ _ ?_
 ·have hj:J (step s x)=none:=by simpa[uc]using h2
  exact⟨bB x hx s h1.1 h1.2 hj,hj⟩
 ·intro o3 n3 hI K X hK
  have hle:=hI.le
  have I2:o3 nx=L .ready none:=by rw[hI.eq nx (by omega),Ts s h1.2]
  refine Gl hL mix I2 (by omega) Ix (by simp[hl]) ?_
  refine AL L hL cX x hx s h1.1 h1.2 o3 n3 ⟨hI.df,by omega,fun id aw=>by rw[hI.eq id (by omega),Lq _ _ aw]⟩ (by omega) I2 K X (fun e' o' n' st pd k1 k2 k3 k4=> ?_)
  have key:∀st' pd' b,(J (step s x)).isNone=b->H (step s x) nx=L st' pd'->K (.d (.bool b)) (ax o' nx (L st' pd')) n':=fun st' pd' b hb hh=>by
   subst hb
   refine hK _ _ k1 ⟨k2.df.ax (by omega) (cX _ _ _ (by omega)),by omega,fun id aw=> ?_⟩ (fun id g1 g2=> ?_)
   ·by_cases Gv:id=nx
    ·subst Gv;rw[aa];exact hh.symm
    ·rw[ae _ _ _ _ Gv]
     show o' id=H (step s x) id
     rw[Lq _ _ (by omega)];exact k2.eq id (by omega)
   ·rw[ae _ _ _ _ (by omega)];exact k4 id (by omega) g2
  cases hj:J (step s x)with
  |none=>exact D2 hL k3 (key _ _ _ (by rw[hj];rfl) (Ts _ hj))
  |some j=>
   cases j with
   |ret=>exact Bi hL k3 (key _ _ _ (by rw[hj];rfl) (Wv _ _ hj))
   |exit j=>exact zD hL k3 (key _ _ _ (by rw[hj];rfl) (Wv _ _ hj))
 ·exact(hg.mono (by omega)).ax (by omega) (cX _ _ _ (by omega))
 ·by_cases Gv:id=nx
  ·subst Gv;rw[aa,Ts _ Yo]
  ·rw[ae _ _ _ _ Gv,Lq _ _ (by omega)];exact h0 id (by omega)
 ·intro o' n' k1 k2 k3
  have hle:=k2.le
  generalize hsf:(aZ (uc J step) s0 (pre t 1)).1=sf at*
  have kk:∀st pd,ig nx (G sf) (ax o' nx (L st pd)) n':=fun st pd=>⟨k2.df.ax (by omega) (cX _ _ _ (by omega)),by omega,fun id aw=>by rw[ae _ _ _ _ (by omega),k2.eq id (by omega),Lq _ _ aw]⟩
  cases hj:J sf with
  |none=>
   refine⟨.ready,none,by rw[k2.eq nx (by omega),Ts _ hj],(fun h=>by cases h), ?_⟩
   have:=nR _ _ (kk .exhausted none)
   rwa [hj]at this
  |some j=>
   refine⟨.done,some j,by rw[k2.eq nx (by omega),Wv _ _ hj],(fun h=>by cases h), ?_⟩
   have:=nR _ _ (kk .exhausted (some j))
   rwa [hj]at this
end Go.Proofs.YtealblliddhgiaaGreat
namespace Go.Proofs.YtealblliddhgiaaGreat
theorem eG(n low high:Int):bC Tryz.prog 79 [.i n, .i low, .i high] (.ret [.bool (e8 n low high)]):=by
 refine bC.aV mix Q6 (by simp) ?_
 rw[V7]
 simp+contextual only[go_sem]
 rfl
theorem Bo(s:aW)(t:Tm)(h:t.op=1):bC Tryz.prog 118 [s.d,t.d] (.ret [.bool (bA s t)]):=by
 have hn:bA s t=(e8 t.n 0 19&&(t.kids.length:Int)==0):=by simp[bA,h,Bool.and_comm]
 refine bC.aV mix KK (by simp) ?_
 rw[MV]
 simp+contextual only[go_sem]
 refine ay (eG _ _ _) rfl ?_
 simp+contextual only[go_sem]
 rw[hn]
theorem D6(s:aW)(t:Tm)(h:t.op=2):bC Tryz.prog 119 [s.d,t.d] (.ret [.bool (bA s t)]):=by
 have hn:bA s t=(e8 t.n (-1000000) 1000000&&(t.kids.length:Int)==0):=by simp[bA,h,Bool.and_comm]
 refine bC.aV mix KL (by simp) ?_
 rw[MW]
 simp+contextual only[go_sem]
 refine ay (eG _ _ _) rfl ?_
 simp+contextual only[go_sem]
 rw[hn]
theorem Sg(s:aW)(t:Tm)(h:t.op=8):bC Tryz.prog 123 [s.d,t.d] (.ret [.bool (bA s t)]):=by
 have hn:bA s t=(e8 t.n 0 19&&(t.kids.length:Int)==2):=by simp[bA,h,Bool.and_comm]
 refine bC.aV mix KQ (by simp) ?_
 rw[M0]
 simp+contextual only[go_sem]
 refine ay (eG _ _ _) rfl ?_
 simp+contextual only[go_sem]
 rw[hn]
theorem Nk(s:aW)(t:Tm)(h:t.op=6\/t.op=7\/t.op=9\/t.op=10\/t.op=11\/t.op=12\/t.op=13\/t.op=14\/t.op=15):bC Tryz.prog 124 [s.d,t.d] (.ret [.bool (bA s t)]):=by
 have hn:bA s t=(t.n==0&&(t.kids.length:Int)==2):=by
  rcases h with h|h|h|h|h|h|h|h|h<;>simp[bA,h,e8,Bool.and_comm]
 refine bC.aV mix KT (by simp) ?_
 rw[M3]
 simp+contextual only[go_sem]
 rw[hn]
theorem Sh(s:aW)(t:Tm)(hs:s.Fits)(h:t.op=3):bC Tryz.prog 120 [s.d,t.d] (.ret [.bool (bA s t)]):=by
 have hn:bA s t=(e8 t.n 0 (s.cons.length - 1)&&(t.kids.length:Int)==jn s.cons t.n):=by simp[bA,h]
 refine bC.aV mix KM (by simp) ?_
 rw[MX]
 simp+contextual only[go_sem]
 rw[wrap64 (by have:=hs.lc;omega) (by have:=hs.lc;omega)]
 refine bp (eG _ _ _) rfl ?_
 cases hI:e8 t.n 0 (s.cons.length - 1)with
 |false=>
  simp+contextual only[go_sem,hI]
  refine aP (aY rfl) ?_
  simp+contextual only[go_sem]
  rw[hn,hI];rfl
 |true=>
  obtain⟨h0,x,hx⟩:=mW hI
  simp+contextual only[go_sem,hI,hx,h0]
  refine aP (aY rfl) ?_
  simp+contextual only[go_sem]
  rw[hn,hI,gL hx];rfl
theorem Si(s:aW)(t:Tm)(hs:s.Fits)(h:t.op=4):bC Tryz.prog 121 [s.d,t.d] (.ret [.bool (bA s t)]):=by
 have hn:bA s t=(e8 t.n 0 (s.dz.length - 1)&&(t.kids.length:Int)==jn s.dz t.n):=by simp[bA,h]
 refine bC.aV mix KN (by simp) ?_
 rw[MY]
 simp+contextual only[go_sem]
 rw[wrap64 (by have:=hs.lf;omega) (by have:=hs.lf;omega)]
 refine bp (eG _ _ _) rfl ?_
 cases hI:e8 t.n 0 (s.dz.length - 1)with
 |false=>
  simp+contextual only[go_sem,hI]
  refine aP (aY rfl) ?_
  simp+contextual only[go_sem]
  rw[hn,hI];rfl
 |true=>
  obtain⟨h0,x,hx⟩:=mW hI
  simp+contextual only[go_sem,hI,hx,h0]
  refine aP (aY rfl) ?_
  simp+contextual only[go_sem]
  rw[hn,hI,gL hx];rfl
theorem Nl(s:aW)(t:Tm)(hs:s.Fits)(h:t.op=5):bC Tryz.prog 122 [s.d,t.d] (.ret [.bool (bA s t)]):=by
 have hn:bA s t=(e8 t.n 0 (s.dz.length - 1)&&decide ((t.kids.length:Int)<jn s.dz t.n)):=by simp[bA,h]
 refine bC.aV mix KO (by simp) ?_
 rw[MZ]
 simp+contextual only[go_sem]
 rw[wrap64 (by have:=hs.lf;omega) (by have:=hs.lf;omega)]
 refine bp (eG _ _ _) rfl ?_
 cases hI:e8 t.n 0 (s.dz.length - 1)with
 |false=>
  simp+contextual only[go_sem,hI]
  refine aP (aY rfl) ?_
  simp+contextual only[go_sem]
  rw[hn,hI];rfl
 |true=>
  obtain⟨h0,x,hx⟩:=mW hI
  simp+contextual only[go_sem,hI,hx,h0]
  refine aP (aY rfl) ?_
  simp+contextual only[go_sem]
  rw[hn,hI,gL hx];rfl
@[reducible] def rf (n:Nat):V:= .func (.func n) [] []
@[reducible] def Ww:List V:=[.d .a7,rf 118,rf 119,rf 120,rf 121,rf 122, .d .a7, .d .a7,rf 123, .d .a7, .d .a7, .d .a7, .d .a7, .d .a7, .d .a7, .d .a7]
@[reducible] def Bp:List V:=[.d .a7,rf 118,rf 119,rf 120,rf 121,rf 122,rf 124,rf 124,rf 123,rf 124,rf 124,rf 124,rf 124,rf 124,rf 124,rf 124]
def CC(k:Nat):List V:=Bp.take k++Ww.drop k
theorem funcOf{P:Program}{t:TypeId}(h:(match P.underlying t with|some (.func _ _ _)=>true|_=>false)=true):∃a b c,P.underlying t=some (.func a b c):=by
 split at h
 ·exact⟨_,_,_,by assumption⟩
 ·cases h
@[go_sem] theorem Wx (o:Nat->ab) (nG:Bool):Ak Tryz.prog o 119 nG (.d .a7) (.d .a7)=some (.d (.bool true)):=by
  obtain⟨a,b,c,h⟩:=funcOf (P:=Tryz.prog) (t:=119) (by kernel_rfl)
  unfold Ak;rw[h]
@[go_sem] theorem Wy (o:Nat->ab) (nG:Bool) (f:Fn) (x y:List V):Ak Tryz.prog o 119 nG (.func f x y) (.d .a7)=some (.d (.bool false)):=by
  obtain⟨a,b,c,h⟩:=funcOf (P:=Tryz.prog) (t:=119) (by kernel_rfl)
  unfold Ak;rw[h]
theorem I3(base:Nat)(h:Nat->ab):xK Tryz.prog 92 [] base h h (.agg Bp):=by
 intro o nx hI K X hK
 have hle:=hI.le
 refine eR.aV mix Rf (by simp) ?_
 rw[Wk]
 simp+contextual only[go_sem,Nat.add_assoc,Nat.left_eq_add,Nat.add_eq_left,Nat.add_left_cancel_iff]
 refine aT (fun k:Nat=>⟨bq [.ptr nx 0, .ptr (nx+2) 0, .af, .af, .d (.i k)],ax (ax o nx (.row (List.replicate 16 (.d .a7)))) (nx+2) (.row (CC k)),nx+5⟩)
  (fun k=>k<=16) (fun k=>16 - k) 0 (Nat.zero_le _) ?_ (fun k hk=> ?_)
 ·refine bP.cF _ (by omega) (by omega) ?_ (fun id aw=> ?_) ?_
  ·exact((hI.df.mono (by omega)).ax (by omega) rfl).ax (by omega) rfl
  ·rw[rK];rfl
  ·(repeat(first|exact ao|refine ai ?_|refine ag rfl ?_|refine ag (aR (aQ (by omega))) ?_|refine aD rfl (by simp[V.refs,V.ah]<;>first|omega|assumption) ?_))
 have hg:∀k,k<16->Good (ax (ax o nx (.row (List.replicate 16 (.d .a7)))) (nx+2) (.row (CC (k+1)))) (nx+5):=fun k hk=>
  ((hI.df.mono (by omega)).ax (by omega) rfl).ax (by omega) (by
    rcases(by omega:k=0\/k=1\/k=2\/k=3\/k=4\/k=5\/k=6\/k=7\/k=8\/k=9\/k=10\/k=11\/k=12\/k=13\/k=14\/k=15)with rfl|rfl|rfl|rfl|rfl|rfl|rfl|rfl|rfl|rfl|rfl|rfl|rfl|rfl|rfl|rfl<;>rfl)
 by_cases Wz:k=16
 ·subst Wz
  simp+contextual only[go_sem,CC,Nat.add_assoc,Nat.left_eq_add,Nat.add_eq_left,Nat.add_left_cancel_iff,List.replicate]
  refine hK _ _ ?_ ⟨?_, ?_,fun id aw=> ?_⟩ (fun id h1 h2=> ?_)
  rotate_left
  ·exact(((hI.df.mono (by omega)).ax (by omega) rfl).ax (by omega) rfl).ax (by omega) rfl
  ·omega
  ·(repeat(first|rfl|rw[aa]|rw[ae _ _ _ _ (by omega)]))
   exact hI.eq id aw
  ·(repeat(first|rfl|rw[aa]|rw[ae _ _ _ _ (by omega)]))
  ·omega
 ·have Yp:=hg k (by omega)
  obtain⟨k1,AK⟩:∃k1,k1=k+1:=⟨_,rfl⟩
  rw[<- AK]at Yp
  rcases(by omega:k=0\/k=1\/k=2\/k=3\/k=4\/k=5\/k=6\/k=7\/k=8\/k=9\/k=10\/k=11\/k=12\/k=13\/k=14\/k=15)with rfl|rfl|rfl|rfl|rfl|rfl|rfl|rfl|rfl|rfl|rfl|rfl|rfl|rfl|rfl|rfl
  all_goals
   simp+contextual only[go_sem,CC,Nat.add_assoc,Nat.left_eq_add,Nat.add_eq_left,Nat.add_left_cancel_iff,List.replicate]
   refine aA k1 (by omega) (by omega) (bP.cF _ (by omega) (by omega) Yp (fun id aw=> ?_) ?_)
   all_goals subst AK
   ·first|rfl|(rw[rK];rfl)
   ·(repeat(first|exact ao|refine ai ?_|refine ag rfl ?_|refine ag (aR (aQ (by omega))) ?_|refine aD rfl (by simp[V.refs,V.ah]<;>first|omega|assumption) ?_))
end Go.Proofs.YtealblliddhgiaaGreat
namespace Go.Proofs.YtealblliddhgiaaGreat
def Gw(n:Int):Nat:=if n=1 then 118 else if n=2 then 119 else if n=3 then 120 else if n=4 then 121 else if n=5 then 122 else if n=8 then 123 else 124
theorem Nn(s:aW)(t:Tm)(hs:s.Fits)(h:e8 t.op 1 15=true):bC Tryz.prog (Gw t.op) [s.d,t.d] (.ret [.bool (bA s t)])/\Bp[t.op.toNat]? =some (rf (Gw t.op))/\0<=t.op/\t.op<16:=by
 simp[e8]at h
 rcases(by omega:t.op=1\/t.op=2\/t.op=3\/t.op=4\/t.op=5\/t.op=8\/(t.op=6\/t.op=7\/t.op=9\/t.op=10\/t.op=11\/t.op=12\/t.op=13\/t.op=14\/t.op=15))with h|h|h|h|h|h|h
 ·exact⟨by rw[h];exact Bo s t h,by rw[h];rfl,by omega,by omega⟩
 ·exact⟨by rw[h];exact D6 s t h,by rw[h];rfl,by omega,by omega⟩
 ·exact⟨by rw[h];exact Sh s t hs h,by rw[h];rfl,by omega,by omega⟩
 ·exact⟨by rw[h];exact Si s t hs h,by rw[h];rfl,by omega,by omega⟩
 ·exact⟨by rw[h];exact Nl s t hs h,by rw[h];rfl,by omega,by omega⟩
 ·exact⟨by rw[h];exact Sg s t h,by rw[h];rfl,by omega,by omega⟩
 ·have hp:=Nk s t h
  rcases h with h|h|h|h|h|h|h|h|h<;>exact⟨by rw[h];exact hp,by rw[h];rfl,by omega,by omega⟩
def ng(s:aW)(n:Int)(x:Tm×Int):Bool:=decide (40<n+1)||decide (12<x.2)|| !e8 x.1.op 1 15|| !bA s x.1
def gk(s:aW)(n:Int×Bool)(x:Tm×Int):Int×Bool:=(n.1+1, !ng s n.1 x)
def fJ(n:Int×Bool):Option jQ:=if n.2=true then none else some .ret
def lE(s:aW)(t:Tm):Bool:=(aZ (uc fJ (gk s)) (0,true) (pre t 1)).2
theorem Gx(s:aW)(hs:s.Fits)(t:Tm)(hf:t.fits)(hd:t.eB<=900000):bC Tryz.prog 54 [s.d,t.d] (.ret [.bool (lE s t)]):=by
 refine bC.aV mix QN (by simp) ?_
 rw[VI]
 simp+contextual only[go_sem]
 refine cB (I3 3 _ _ _ (?_:ig 3 (ax (ax (ax (fun _=> .no) 0 (.row s.row)) 1 (.row t.row)) 2 (.row [.d (.bool false)])) _ 3) _ _ fun o2 n2 m1 m2 m3=> ?_)
 ·exact⟨(by repeat(first|exact hg.mono (by omega)|exact Good.nil|refine Good.ax ?_ (by omega) rfl|refine Good.ax ?_ (by omega) (cX _ _ _ (by omega))|refine Good.ax ?_ (by omega) (by simp[ab.refs,V.ah,V.refs]<;>omega))),Nat.le_refl _,fun _ _=>rfl⟩
 have p0:o2 0= .row s.row:=m2.eq 0 (by omega)
 have p1:o2 1= .row t.row:=m2.eq 1 (by omega)
 have p2:o2 2= .row [.d (.bool false)]:=m2.eq 2 (by omega)
 have e0:0≠n2:=by omega
 have e1:1≠n2:=by omega
 have e2:2≠n2:=by omega
 have e3:∀k,0≠n2+k:=fun k=>by omega
 have e4:∀k,1≠n2+k:=fun k=>by omega
 have e5:∀k,2≠n2+k:=fun k=>by omega
 simp+contextual only[go_sem,p0,p1,p2,e0,e1,e2,e3,e4,e5,Nat.add_assoc,Nat.left_eq_add,Nat.add_eq_left,Nat.add_left_cancel_iff]
 refine cB (tt t _ _ _ _ ?_)
 simp+contextual only[go_sem]
 have hG0:∀n,Good (ax (ax (ax (ax (ax (ax o2 n2 (.row (List.replicate 16 (.d .a7)))) (n2+1) (.row [.d (.i 0)])) n2 (.row Bp)) (n2+1) (.row [.d (.i 0)])) (n2+5) (.row t.row)) (n2+1) (.row [.d (.i n)])) (n2+9):=fun n=>by
  have hg:=m2.df
  exact(by repeat(first|exact hg.mono (by omega)|exact Good.nil|refine Good.ax ?_ (by omega) rfl|refine Good.ax ?_ (by omega) (cX _ _ _ (by omega))|refine Good.ax ?_ (by omega) (by simp[ab.refs,V.ah,V.refs]<;>omega)))
 refine mC t hf hd [.af, .af, .ptr 0 0, .af, .ptr 2 0, .ptr n2 0, .ptr (n2+1) 0] ?_ (by decide) rfl ?_ (by simp[V.ah,V.refs];omega) (aa _ _ _)
  (fun s=>ax (ax (ax (ax (ax (ax o2 n2 (.row (List.replicate 16 (.d .a7)))) (n2+1) (.row [.d (.i 0)])) n2 (.row Bp)) (n2+1) (.row [.d (.i 0)])) (n2+5) (.row t.row)) (n2+1) (.row [.d (.i s.1)]))
  fJ (gk s) (fun s=>0<=s.1/\s.1<=40) (0,true) ⟨by decide,by decide⟩ rfl ?_ ?_ ?_ ?_
 ·(repeat(first|exact qc|refine nV ?_|refine wW rfl ?_))
 ·have hg:=m2.df
  exact(by repeat(first|exact hg.mono (by omega)|exact Good.nil|refine Good.ax ?_ (by omega) rfl|refine Good.ax ?_ (by omega) (cX _ _ _ (by omega))|refine Good.ax ?_ (by omega) (by simp[ab.refs,V.ah,V.refs]<;>omega)))
 ·intro id aw
  by_cases h:id=n2+1
  ·subst h;(repeat(first|rfl|rw[aa]|rw[ae _ _ _ _ (by omega)]))
  ·rw[ae _ _ _ _ h];rfl
 ·intro x hx s' h1 h2 h3
  have:ng s s'.1 x=false:=by simpa[fJ,gk]using h3
  simp[ng]at this
  simp only[gk]
  omega
 ·intro L hL cX x hx s' h1 h2 o3 n3 hI hn ho K X fX
  simp only[rq]
  have hg:=hI.df
  have q0:o3 0= .row s.row:=by
   rw[hI.eq 0 (by omega)];(repeat(first|rfl|rw[aa]|rw[ae _ _ _ _ (by omega)]))
   exact p0
  have q2:o3 2= .row [.d (.bool false)]:=by
   rw[hI.eq 2 (by omega)];(repeat(first|rfl|rw[aa]|rw[ae _ _ _ _ (by omega)]))
   exact p2
  have q3:o3 n2= .row Bp:=by rw[hI.eq n2 (by omega)];(repeat(first|rfl|rw[aa]|rw[ae _ _ _ _ (by omega)]))
  have q4:o3 (n2+1)= .row [.d (.i s'.1)]:=by rw[hI.eq (n2+1) (by omega)];(repeat(first|rfl|rw[aa]|rw[ae _ _ _ _ (by omega)]))
  have fin:∀ (o':Nat->ab) (n':Nat),(∀id,id<n2+5+4->o' id=ax o3 (n2+1) (.row [.d (.i (s'.1+1))]) id)->Good o' n'->n3<=n'->ig (n2+5+4) (ax (ax (ax (ax (ax (ax o2 n2 (.row (List.replicate 16 (.d .a7)))) (n2+1) (.row [.d (.i 0)])) n2 (.row Bp)) (n2+1) (.row [.d (.i 0)])) (n2+5) (.row t.row)) (n2+1) (.row [.d (.i (gk s s' x).1)])) o' n':=by
   intro o' n' k1 k2 k3
   refine⟨k2,by omega,fun id aw=> ?_⟩
   rw[k1 id aw]
   by_cases h:id=n2+1
   ·subst h;rw[aa,aa];rfl
   ·rw[ae _ _ _ _ h,ae _ _ _ _ h,hI.eq id aw,ae _ _ _ _ h]
  simp+contextual only[go_sem]
  refine tq hL (pd:=none) ?_ ?_
  ·(repeat(first|rfl|rw[aa]|rw[ae _ _ _ _ (by omega)]))
   exact ho
  cases c1:decide (40<s'.1+1)with
  |true=>
   have hJ:fJ (gk s s' x)=some .ret:=by simp[fJ,gk,ng,c1]
   rw[hJ]at fX
   simp+contextual (disch:=first|omega|simp only[go_sem,false_implies]) only[go_sem,wrap64,if_pos,q0,q2,q3,q4,c1]
   refine aP (aY rfl) ?_
   simp+contextual (disch:=first|omega|simp only[go_sem,false_implies]) only[go_sem,wrap64,if_pos,q2]
   refine fX _ _ _ .busy none (by omega) (fin _ _ (fun id aw=>(by simp only[ax]<;>((repeat' split)<;>first|rfl|omega|(subst_vars;first|rfl|assumption|(symm;assumption)|omega|(simp_all;done))))) (by repeat(first|exact hg.mono (by omega)|exact Good.nil|refine Good.ax ?_ (by omega) rfl|refine Good.ax ?_ (by omega) (cX _ _ _ (by omega))|refine Good.ax ?_ (by omega) (by simp[ab.refs,V.ah,V.refs]<;>omega))) (by omega)) (by(repeat(first|rfl|rw[aa]|rw[ae _ _ _ _ (by omega)]))) (fun id h3 h4=>by(repeat(first|rfl|rw[aa]|rw[ae _ _ _ _ (by omega)])))
  |false=>
  cases c2:decide (12<x.2)with
  |true=>
   have hJ:fJ (gk s s' x)=some .ret:=by simp[fJ,gk,ng,c2]
   rw[hJ]at fX
   simp+contextual (disch:=first|omega|simp only[go_sem,false_implies]) only[go_sem,wrap64,if_pos,q0,q2,q3,q4,c1,c2]
   refine aP (aY rfl) ?_
   simp+contextual (disch:=first|omega|simp only[go_sem,false_implies]) only[go_sem,wrap64,if_pos,q2]
   refine fX _ _ _ .busy none (by omega) (fin _ _ (fun id aw=>(by simp only[ax]<;>((repeat' split)<;>first|rfl|omega|(subst_vars;first|rfl|assumption|(symm;assumption)|omega|(simp_all;done))))) (by repeat(first|exact hg.mono (by omega)|exact Good.nil|refine Good.ax ?_ (by omega) rfl|refine Good.ax ?_ (by omega) (cX _ _ _ (by omega))|refine Good.ax ?_ (by omega) (by simp[ab.refs,V.ah,V.refs]<;>omega))) (by omega)) (by(repeat(first|rfl|rw[aa]|rw[ae _ _ _ _ (by omega)]))) (fun id h3 h4=>by(repeat(first|rfl|rw[aa]|rw[ae _ _ _ _ (by omega)])))
  |false=>
  cases c3:e8 x.1.op 1 15 with
  |false=>
   have hJ:fJ (gk s s' x)=some .ret:=by simp[fJ,gk,ng,c3]
   rw[hJ]at fX
   simp+contextual (disch:=first|omega|simp only[go_sem,false_implies]) only[go_sem,wrap64,if_pos,q0,q2,q3,q4,c1,c2]
   refine bp (eG _ _ _) rfl ?_
   simp+contextual (disch:=first|omega|simp only[go_sem,false_implies]) only[go_sem,wrap64,if_pos,q0,q2,q3,q4,c1,c2,c3]
   refine aP (aY rfl) ?_
   simp+contextual (disch:=first|omega|simp only[go_sem,false_implies]) only[go_sem,wrap64,if_pos,q2]
   refine fX _ _ _ .busy none (by omega) (fin _ _ (fun id aw=>(by simp only[ax]<;>((repeat' split)<;>first|rfl|omega|(subst_vars;first|rfl|assumption|(symm;assumption)|omega|(simp_all;done))))) (by repeat(first|exact hg.mono (by omega)|exact Good.nil|refine Good.ax ?_ (by omega) rfl|refine Good.ax ?_ (by omega) (cX _ _ _ (by omega))|refine Good.ax ?_ (by omega) (by simp[ab.refs,V.ah,V.refs]<;>omega))) (by omega)) (by(repeat(first|rfl|rw[aa]|rw[ae _ _ _ _ (by omega)]))) (fun id h3 h4=>by(repeat(first|rfl|rw[aa]|rw[ae _ _ _ _ (by omega)])))
  |true=>
  obtain⟨r1,r2,r3,r4⟩:=Nn s x.1 hs c3
  simp+contextual (disch:=first|omega|simp only[go_sem,false_implies]) only[go_sem,wrap64,if_pos,q0,q2,q3,q4,c1,c2]
  refine bp (eG _ _ _) rfl ?_
  simp+contextual (disch:=first|omega|simp only[go_sem,false_implies]) only[go_sem,wrap64,if_pos,q0,q2,q3,q4,c1,c2,c3,r2,r3,r4,Nat.mul_one]
  refine bp r1 rfl ?_
  simp+contextual (disch:=first|omega|simp only[go_sem,false_implies]) only[go_sem,wrap64,if_pos,q0,q2,q3,q4,c1,c2,c3]
  refine aP (aY rfl) ?_
  cases c4:bA s x.1 with
  |false=>
   have hJ:fJ (gk s s' x)=some .ret:=by simp[fJ,gk,ng,c4]
   rw[hJ]at fX
   simp+contextual (disch:=first|omega|simp only[go_sem,false_implies]) only[go_sem,wrap64,if_pos,q2,c4]
   refine fX _ _ _ .busy none (by omega) (fin _ _ (fun id aw=>(by simp only[ax]<;>((repeat' split)<;>first|rfl|omega|(subst_vars;first|rfl|assumption|(symm;assumption)|omega|(simp_all;done))))) (by repeat(first|exact hg.mono (by omega)|exact Good.nil|refine Good.ax ?_ (by omega) rfl|refine Good.ax ?_ (by omega) (cX _ _ _ (by omega))|refine Good.ax ?_ (by omega) (by simp[ab.refs,V.ah,V.refs]<;>omega))) (by omega)) (by(repeat(first|rfl|rw[aa]|rw[ae _ _ _ _ (by omega)]))) (fun id h3 h4=>by(repeat(first|rfl|rw[aa]|rw[ae _ _ _ _ (by omega)])))
  |true=>
   have hJ:fJ (gk s s' x)=none:=by simp[fJ,gk,ng,c1,c2,c3,c4]
   rw[hJ]at fX
   simp+contextual (disch:=first|omega|simp only[go_sem,false_implies]) only[go_sem,wrap64,if_pos,c4]
   refine fX _ _ _ .busy none (by omega) (fin _ _ (fun id aw=>(by simp only[ax]<;>((repeat' split)<;>first|rfl|omega|(subst_vars;first|rfl|assumption|(symm;assumption)|omega|(simp_all;done))))) (by repeat(first|exact hg.mono (by omega)|exact Good.nil|refine Good.ax ?_ (by omega) rfl|refine Good.ax ?_ (by omega) (cX _ _ _ (by omega))|refine Good.ax ?_ (by omega) (by simp[ab.refs,V.ah,V.refs]<;>omega))) (by omega)) (by(repeat(first|rfl|rw[aa]|rw[ae _ _ _ _ (by omega)]))) (fun id h3 h4=>by(repeat(first|rfl|rw[aa]|rw[ae _ _ _ _ (by omega)])))
 ·intro o' n' hI
  have q2:o' 2= .row [.d (.bool false)]:=by
   rw[hI.eq 2 (by omega)];(repeat(first|rfl|rw[aa]|rw[ae _ _ _ _ (by omega)]))
   exact p2
  rw[show lE s t=(fJ (aZ (uc fJ (gk s)) (0,true) (pre t 1)).1).isNone from w9 _ _ _ _ rfl]
  generalize (aZ (uc fJ (gk s)) (0,true) (pre t 1)).1=sf at*
  cases hj:fJ sf with
  |none=>
   simp only[uk]
   simp+contextual (disch:=first|omega|simp only[go_sem,false_implies]) only[go_sem,wrap64,if_pos,q2]
   rfl
  |some j=>
   have:j= .ret:=by
    unfold fJ at hj;split at hj
    ·cases hj
    ·injection hj with hj;exact hj.symm
   subst this
   simp only[uk]
   simp+contextual (disch:=first|omega|simp only[go_sem,false_implies]) only[go_sem,wrap64,if_pos,q2]
   rfl
end Go.Proofs.YtealblliddhgiaaGreat
namespace Go.Proofs.YtealblliddhgiaaGreat
def enc{κ:Type}(kf:κ->D)(m:List (κ×D)):List (D×D):=m.map fun p=>(kf p.1,p.2)
def iN{κ:Type}[BEq κ](k:κ):List (κ×D)->Nat->Option (Nat×D)
 |[],_=>none
 |p::m,i=>if(k==p.1)=true then some (i,p.2)else iN k m (i+1)
def D7{κ:Type}[BEq κ](k:κ)(x:D)(m:List (κ×D)):List (κ×D):=match iN k m 0 with|some (i,_)=>m.set i (k,x)|none=>m++[(k,x)]
def Sj{κ:Type}[BEq κ](k:κ)(m:List (κ×D)):List (κ×D):=match iN k m 0 with|some (i,_)=>m.eraseIdx i|none=>m
def uq(d:D)(r:Option (Nat×D)):Option (Nat×D×D):=match r with|some (i,x)=>some (i,d,x)|none=>none
@[go_sem] theorem OA (d:D) (i:Nat) (x:D):uq d (some (i,x))=some (i,d,x):=rfl
@[go_sem] theorem OB (d:D):uq d none=none:=rfl
section
variable {P:Program}{kt:TypeId}
theorem I4(h:bn P kt=some .int)(a b:Int):pG P 100 kt (.int .i64 a) (.int .i64 b)=some (a==b):=by simp[pG,h]
theorem I5(h:bn P kt=some .str)(a b:List UInt8):pG P 100 kt (.str a) (.str b)=some (a==b):=by simp[pG,h]
@[go_sem] theorem CD (h:bn P kt=some .int) (a:Int):m9 P 100 kt (.int .i64 a)=true:=by simp[m9,h]
@[go_sem] theorem Tt (h:bn P kt=some .str) (a:List UInt8):m9 P 100 kt (.str a)=true:=by simp[m9,h]
theorem tu{κ:Type}[BEq κ][LawfulBEq κ](kf:κ->D)(he:∀a b,pG P 100 kt (kf a) (kf b)=some (a==b))(k:κ):∀ (m:List (κ×D)) (i:Nat),findD P kt (kf k) (enc kf m) i=some (uq (kf k) (iN k m i))
 |[],_=>rfl
 |p::m,i=>by
  have ih:=tu kf he k m (i+1)
  simp only[enc,List.map_cons,findD,he,iN]at ih|-
  by_cases h:k=p.1
  ·subst h;simp[uq]
  ·have:(k==p.1)=false:=by simpa using h
   simp only[this,Bool.false_eq_true,if_false];exact ih
@[go_sem] theorem zJ (h:bn P kt=some .int) (k:Int) (m:List (Int×D)):findD P kt (.int .i64 k) (enc (.int .i64) m) 0=some (uq (.int .i64 k) (iN k m 0)):=tu (.int .i64) (I4 h) k m 0
@[go_sem] theorem Sk (h:bn P kt=some .str) (k:List UInt8) (m:List (List UInt8×D)):findD P kt (.str k) (enc .str m) 0=some (uq (.str k) (iN k m 0)):=tu .str (I5 h) k m 0
end
section
variable {κ:Type}(kf:κ->D)
theorem Gy(m:List (κ×D))(k:κ)(x:D):enc kf m++[(kf k,x)]=enc kf (m++[(k,x)]):=by simp[enc]
theorem CE(m:List (κ×D))(i:Nat)(k:κ)(x:D):(enc kf m).set i (kf k,x)=enc kf (m.set i (k,x)):=by simp[enc,List.map_set]
theorem vo:∀ (m:List (κ×D)) (i:Nat),(enc kf m).eraseIdx i=enc kf (m.eraseIdx i)
 |[],i=>rfl
 |p::m,0=>rfl
 |p::m,i+1=>by
  have:=vo m i
  simp only[enc,List.map_cons,List.eraseIdx_cons_succ]at this|-
  rw[this]
theorem I6(m:List (κ×D)):(((enc kf m).map (·.1)).zip ((enc kf m).map (·.2)))=enc kf m:=by
 induction m with
 |nil=>rfl
 |cons p m ih=>simp only[enc,List.map_cons,List.zip_cons_cons]at ih|-;rw[ih]
theorem D8{K:V->List (Nat×ab)->Prop}{id:Nat}{m:List (κ×D)}(h0:m=[]->K (.bU [.d (.bool false)]) [])
 (h1:∀ (i:Nat) k x,m[i]? =some (k,x)->K (.bU [.d (.bool true), .d (kf k), .d x]) [(id, .nD (enc kf (m.eraseIdx i)) (some (kf k,x)))]):Ca K id (enc kf m):=by
 refine⟨fun h=>h0 ?_,fun i k x h=> ?_⟩
 ·cases m with
  |nil=>rfl
  |cons p m=>simp[enc]at h
 ·simp only[enc,List.getElem?_map]at h
  cases hm:m[i]? with
  |none=>rw[hm]at h;cases h
  |some p=>
   rw[hm]at h
   simp at h
   obtain⟨rfl,rfl⟩:=h
   have:=h1 i p.1 p.2 (by rw[hm])
   rwa [<- vo]at this
end
theorem zK{κ:Type}[BEq κ][LawfulBEq κ]{k:κ}:∀ {m:List (κ×D)} {i j:Nat} {x:D},iN k m i=some (j,x)->i<=j/\m[j - i]? =some (k,x)
 |[],_,_,_,h=>by cases h
 |p::m,i,j,x,h=>by
  simp only[iN]at h
  split at h
  ·rename_i hk
   injection h with h;injection h with h1 h2
   subst h1;subst h2
   exact⟨Nat.le_refl _,by simp[(by simpa using hk:k=p.1)]⟩
  ·obtain⟨h1,h2⟩:=zK h
   refine⟨by omega, ?_⟩
   rw[show j - i=(j - (i+1))+1 by omega]
   simpa using h2
theorem vq{κ:Type}[BEq κ][LawfulBEq κ]{k:κ}:∀ {m:List (κ×D)} {i:Nat},iN k m i=none↔∀p∈m,p.1≠k
 |[],_=>by simp[iN]
 |p::m,i=>by
  simp only[iN]
  split
  ·rename_i hk
   simp[(by simpa using hk:k=p.1)]
  ·rename_i hk
   rw[vq]
   have:p.1≠k:=fun e=>hk (by simp[e])
   simp[this]
def pk(P:Program)(o:Nat->ab)(t:TypeId)(m k v:V):Option fS:=
 match nH P t,dI o k,dI o v,nm o m with
 |some (kt,_),some kd,some vd,some (some (id,Ae,Af),l)=>if k.ids=[]/\m9 P 100 kt kd=true/\jS kd=true/\v.ids.all (· !=id)=true then match findD P kt kd l 0 with
  |some (some (i,k',_))=>if k'.same kd=true then some (.bU [],cH o v.ids++[(id, .map Ae Af (l.set i (kd,vd)))],id::v.ids)else none
  |some none=>some (.bU [],cH o v.ids++[(id, .map Ae Af (l++[(kd,vd)]))],id::v.ids)
  |none=>none
  else none
 |_,_,_,_=>none
@[go_sem low] theorem vr (P:Program) (o:Nat->ab) (t:TypeId) (m v:V) (k:D):fk P o t m (.d k) v=pk P o t m (.d k) v:=by unfold fk pk;rfl
def tv(P:Program)(o:Nat->ab)(t:TypeId)(m k:V)(ok:Bool):Option fS:=
 match nH P t,dI o k,oA o m with
 |some (kt,vt),some kd,some (rd,l)=>if k.ids=[]/\m9 P 100 kt kd=true then match findD P kt kd l 0 with
  |some (some (_,_,x))=>some (if ok=true then .bU [.d x, .d (.bool true)]else .d x,[],rd)
  |some none=>match zeroV P vt with
   |some z=>some (if ok=true then .bU [z, .d (.bool false)]else z,[],rd)
   |none=>none
  |none=>none
  else none
 |_,_,_=>none
@[go_sem low] theorem mX (P:Program) (o:Nat->ab) (t:TypeId) (m:V) (k:D) (ok:Bool):gQ P o t m (.d k) ok=tv P o t m (.d k) ok:=by unfold gQ tv;rfl
attribute [go_sem] tv pk mP lW lX nn np lY oA nm TO nk jS D.same
end Go.Proofs.YtealblliddhgiaaGreat
namespace Go.Proofs.YtealblliddhgiaaGreat
theorem dec_lt{l:List UInt8}{i:Nat}{b:UInt8}(hb:l[i]? =some b)(h:b.toNat<128):Utf8.decode ⟨⟨l⟩⟩ i=(b.toNat,1):=by
 have e:(ByteArray.mk ⟨l⟩).get! i=b:=by
  show(Array.mk l)[i]! =b
  simp[hb]
 simp only[Utf8.decode,Nat.add_zero,e]
 rw[if_pos h]
theorem Np{l:List UInt8}{i:Nat}{b:UInt8}(hb:l[i]? =some b)(h:128<=b.toNat):128<=(Utf8.decode ⟨⟨l⟩⟩ i).1:=by
 have e:(ByteArray.mk ⟨l⟩).get! i=b:=by
  show(Array.mk l)[i]! =b
  simp[hb]
 simp only[Utf8.decode,Nat.add_zero,e]
 rw[if_neg (by omega)]
 split
 ·split<;>simp_all[Utf8.runeError]
 ·split
  ·split
   ·rename_i h3;simp at h3;omega
   ·simp[Utf8.runeError]
  ·split
   ·split
    ·rename_i h3;simp at h3;omega
    ·simp[Utf8.runeError]
   ·simp[Utf8.runeError]
def I7(r:Int):Bool:=decide (97<=r)&&decide (r<=122)||decide (65<=r)&&decide (r<=90)
theorem Gz(b:UInt8):I7 b.toNat=letterF b:=by
 rw[Bool.eq_iff_iff]
 simp[I7,letterF]
theorem D9(s:List UInt8)(hs:s.length<=9223372036854775807):bC Tryz.prog 78 [.str s] (.ret [.bool (jm s)]):=by
 refine bC.aV mix Q5 (by simp) ?_
 rw[V6]
 simp+contextual (disch:=first|omega|simp only[go_sem,false_implies]) only[go_sem,wrap64,if_pos,Nat.add_assoc,Nat.left_eq_add,Nat.add_eq_left,Nat.add_left_cancel_iff]
 refine aT (fun k:Nat=>⟨bq [.d (.str s), .af, .af, .af, .af, .af, .ptr 2 0],ax (fun _=> .no) 2 (.rU s k),3⟩)
  (fun k=>k<=s.length/\(s.take k).all letterF=true) (fun k=>s.length - k) 0 ⟨Nat.zero_le _,by simp⟩ (bP.cF _ (by omega) (by omega) (Good.nil.ax (by omega) rfl) (fun _ _=>rfl) ?_) (fun k hk=> ?_)
 ·(repeat(first|exact ao|refine ai ?_|refine ag rfl ?_|refine ag (aR (aQ (by omega))) ?_|refine aD rfl (by simp[V.refs,V.ah]<;>first|omega|assumption) ?_))
 by_cases h2:k<s.length
 ·obtain⟨b,hb⟩:=aM h2
  by_cases h3:b.toNat<128
  ·simp+contextual (disch:=first|omega|simp only[go_sem,false_implies]) only[go_sem,wrap64,if_pos,Nat.add_assoc,Nat.left_eq_add,Nat.add_eq_left,Nat.add_left_cancel_iff,h2,dec_lt hb h3]
   have hr:=Gz b
   simp only[I7]at hr
   rw[hr]
   cases hl:letterF b with
   |true=>
    simp+contextual (disch:=first|omega|simp only[go_sem,false_implies]) only[go_sem,wrap64,if_pos,and_self]
    refine aA (k+1) ⟨h2,ij hb hk.2 hl⟩ (by omega) (bP.cF _ (by omega) (by omega) (Good.nil.ax (by omega) rfl) (fun _ _=>by rw[rK]) ?_)
    (repeat(first|exact ao|refine ai ?_|refine ag rfl ?_|refine ag (aR (aQ (by omega))) ?_|refine aD rfl (by simp[V.refs,V.ah]<;>first|omega|assumption) ?_))
   |false=>
    simp+contextual (disch:=first|omega|simp only[go_sem,false_implies]) only[go_sem,wrap64,if_pos,and_self]
    simp[jm,gh hb hl]
  ·have hr:letterF b=false:=by
    rw[<- Gz];simp[I7];omega
   have hd:=Np hb (by omega)
   simp+contextual (disch:=first|omega|simp only[go_sem,false_implies]) only[go_sem,wrap64,if_pos,Nat.add_assoc,Nat.left_eq_add,Nat.add_eq_left,Nat.add_left_cancel_iff,h2]
   have:(decide (97<=((Utf8.decode ⟨⟨s⟩⟩ k).1:Int))&&decide (((Utf8.decode ⟨⟨s⟩⟩ k).1:Int)<=122)||decide (65<=((Utf8.decode ⟨⟨s⟩⟩ k).1:Int))&&decide (((Utf8.decode ⟨⟨s⟩⟩ k).1:Int)<=90))=false:=by
    rw[Bool.eq_false_iff];intro h;simp at h;omega
   rw[this]
   simp+contextual (disch:=first|omega|simp only[go_sem,false_implies]) only[go_sem,wrap64,if_pos,and_self]
   simp[jm,gh hb hr]
 ·simp+contextual (disch:=first|omega|simp only[go_sem,false_implies]) only[go_sem,wrap64,if_pos,Nat.add_assoc,Nat.left_eq_add,Nat.add_eq_left,Nat.add_left_cancel_iff,h2]
  refine ay (eG _ _ _) rfl ?_
  simp+contextual (disch:=first|omega|simp only[go_sem,false_implies]) only[go_sem,wrap64,if_pos,and_self]
  rw[jm,ik hk.2 (by omega),Bool.true_and]
theorem zL{σ:Type}(l:List om)(hl:l.length<=9223372036854775807)(g:Nat)(cj:List V)(base:Nat)(H:σ->Nat->ab)(step:σ->om->σ×Bool)(hc:∀r∈V.ah cj,r<base)(ok:σ->Prop)(bB:∀x∈l,∀s,ok s->(step s x).2=true->ok (step s x).1)
 (h:∀x∈l,∀s,ok s->xK Tryz.prog g (.d x.d::cj) base (H s) (H (step s x).1) (.d (.bool (step s x).2))) (s:σ) (ua:ok s):
 xK Tryz.prog 80 [.d (.sl (l.map om.d)), .func (.func g) [] cj] base (H s) (H (aZ step s l).1) (.d (.bool (aZ step s l).2)):=by
 intro o nx hI K X hK
 have E3:∀r∈V.ah cj,r<nx:=fun r hr=>Nat.lt_of_lt_of_le (hc r hr) hI.le
 refine eR.aV mix Q7 (by simp) ?_
 rw[V8]
 simp+contextual only[go_sem]
 refine aT (fun i:Nat×σ×(Nat->ab)×Nat=>⟨bq [.af, .func (.func g) [] cj, .af, .af, .af, .af, .af, .d (.sl (l.map om.d)), .d (.i l.length), .d (.i i.1)],i.2.2.1,i.2.2.2⟩)
  (fun i=>i.1<=l.length/\ig base (H i.2.1) i.2.2.1 i.2.2.2/\nx<=i.2.2.2/\(∀id,base<=id->id<nx->i.2.2.1 id=o id)/\aZ step s l=aZ step i.2.1 (l.drop i.1)/\ok i.2.1) (fun i=>l.length - i.1) (0,s,o,nx)
  ⟨Nat.zero_le _,hI,Nat.le_refl _,fun _ _ _=>rfl,rfl,ua⟩ ?_ ?_
 ·dsimp only
  refine bP.cF _ (Nat.le_refl _) (by omega) hI.df (fun _ _=>rfl) ?_
  (repeat(first|exact ao|refine ai ?_|refine ag rfl ?_|refine ag (aR (aQ (by omega))) ?_|refine aD rfl (by simp[V.refs,V.ah]<;>first|omega|assumption) ?_))
 rintro⟨k,s',o',nx'⟩ ⟨hk,I0,hn,cL,hf,Bm⟩
 simp only at hk I0 hn cL hf Bm
 simp+contextual only[go_sem]
 refine ak (fun h1=> ?_) (fun h1=> ?_)
 ·simp at h1
  obtain⟨x,hx⟩:=aM h1
  have gS:=List.mem_of_getElem? hx
  have hd:l.drop k=x::l.drop (k+1):=by
   rw[List.drop_eq_getElem_cons h1]
   rw[List.getElem?_eq_getElem h1]at hx;injection hx with hx;rw[hx]
  simp+contextual only[go_sem,hx,Nat.add_assoc,Nat.left_eq_add,Nat.add_eq_left,Nat.add_left_cancel_iff]
  have T6:=I0.le
  refine jN (h x gS s' Bm _ _ (?_:ig base (H s') _ (nx'+7)) _ _ fun o2 n2 m1 m2 m3=> ?_)
  ·exact(I0.ax (i:=nx'+3) (m:=nx'+7) (by omega) (by omega) (by omega) rfl).ax (by omega) (by omega) (by omega) rfl
  have Gs:∀id,base<=id->id<nx->o2 id=o id:=fun id h2 h3=>by
   rw[m3 id h2 (by omega),ae _ _ _ _ (by omega),ae _ _ _ _ (by omega),cL id h2 h3]
  simp+contextual only[go_sem]
  refine ak (fun h2=> ?_) (fun h2=> ?_)
  ·simp+contextual only[go_sem]
   simp at h2
   have:aZ step s l=((step s' x).1,false):=by rw[hf,hd,aZ,if_neg (by rw[h2];exact Bool.false_ne_true)]
   rw[this]at hK
   exact hK _ _ (by omega) (m2.mono (by omega)) Gs
  ·simp+contextual only[go_sem]
   simp at h2
   have:aZ step s l=aZ step (step s' x).1 (l.drop (k+1)):=by rw[hf,hd,aZ,if_pos h2]
   refine aA (k+1,(step s' x).1,o2,n2) ⟨h1,m2,by dsimp only;omega,Gs,this,bB x gS s' Bm h2⟩ (by dsimp only;omega) ?_
   dsimp only
   have Sd:∀r∈V.ah cj,r<n2:=fun r hr=>by have:=E3 r hr;omega
   refine bP.cF _ (by omega) (by omega) m2.df (fun _ _=>rfl) ?_
   (repeat(first|exact ao|refine ai ?_|refine ag rfl ?_|refine ag (aR (aQ (by omega))) ?_|refine aD rfl (by simp[V.refs,V.ah]<;>first|omega|assumption) ?_))
 ·simp+contextual only[go_sem]
  simp at h1
  rw[List.drop_eq_nil_of_le h1]at hf
  simp only[aZ]at hf
  rw[hf]at hK
  exact hK _ _ (by omega) (I0.mono (by omega)) cL
def nY(l:List (List UInt8)):List (List UInt8×D):=l.map fun s=>(s, .bool true)
theorem Ea(l:List (List UInt8))(s:List UInt8):nY l++[(s, .bool true)]=nY (l++[s]):=by simp[nY]
theorem Eb{l:List (List UInt8)}{s:List UInt8}{i:Nat}{x:D}(h:iN s (nY l) 0=some (i,x)):x= .bool true/\(nY l).set i (s, .bool true)=nY l/\l.any (· ==s)=true:=by
 obtain⟨_,h2⟩:=zK h
 rw[Nat.sub_zero]at h2
 simp only[nY,List.getElem?_map]at h2
 cases hl:l[i]? with
 |none=>rw[hl]at h2;cases h2
 |some y=>
  rw[hl]at h2
  simp at h2
  obtain⟨rfl,rfl⟩:=h2
  refine⟨rfl, ?_, ?_⟩
  ·apply List.ext_getElem?
   intro j
   rw[List.getElem?_set]
   split
   ·rename_i e;subst e
    obtain⟨bI,hy⟩:=List.getElem?_eq_some_iff.1 hl
    simp[nY,bI,hy]
   ·rfl
  ·exact List.any_eq_true.2 ⟨y,List.mem_of_getElem? hl,by simp⟩
theorem Ec{l:List (List UInt8)}{s:List UInt8}(h:iN s (nY l) 0=none):l.any (· ==s)=false:=by
 rw[vq]at h
 rw[List.any_eq_false]
 intro x hx hs
 have:=h (x, .bool true) (by simp[nY];exact hx)
 simp at hs;exact this hs
def I8(bs:List (List UInt8))(x:om):Bool:= !bs.any (· ==x.name)&&jm x.name&&e8 x.args 0 4
def gN(bs:List (List UInt8))(x:om):List (List UInt8)×Bool:=(if bs.any (· ==x.name)=true then bs else bs++[x.name],I8 bs x)
theorem Nq(x:om)(hx:x.name.length<=9223372036854775807)(base mp id:Nat)(h:Nat->ab)(ZO:h mp= .row [.mp id])(h1:mp<base)(h2:id<base)(h3:id≠mp)(bs:List (List UInt8)):
 xK Tryz.prog 77 [.d x.d, .ptr mp 0] base (ax h id (.map 9 4 (enc .str (nY bs)))) (ax h id (.map 9 4 (enc .str (nY (gN bs x).1)))) (.d (.bool (gN bs x).2)):=by
 intro o nx hI K X hK
 have hle:=hI.le
 have hg:=hI.df
 have q0:o mp= .row [.mp id]:=by rw[hI.eq mp h1,ae _ _ _ _ (by omega),ZO]
 have q1:o id= .map 9 4 (enc .str (nY bs)):=by rw[hI.eq id h2,aa]
 refine eR.aV mix Q4 (by simp) ?_
 rw[V5]
 cases ha:iN x.name (nY bs) 0 with
 |none=>
  have hn:=Ec ha
  have hs:gN bs x=(bs++[x.name],jm x.name&&e8 x.args 0 4):=by simp[gN,I8,hn]
  rw[hs]at hK
  simp+contextual (disch:=first|omega|simp only[go_sem,false_implies]) only[go_sem,wrap64,if_pos,q0,q1,ha]
  refine ay (D9 _ hx) rfl ?_
  simp+contextual (disch:=first|omega|simp only[go_sem,false_implies]) only[go_sem,wrap64,if_pos,and_self]
  refine eF (dE [.bool (e8 x.args 0 4)] ?_ ?_)
  ·simp+contextual (disch:=first|omega|simp only[go_sem,false_implies]) only[go_sem,wrap64,if_pos,and_self]
   exact fun _=>eG _ _ _
  simp+contextual (disch:=first|omega|simp only[go_sem,false_implies]) only[go_sem,wrap64,if_pos,and_self]
  rw[Gy,Ea]
  refine hK _ _ (by omega) ⟨(by repeat(first|exact hg.mono (by omega)|exact Good.nil|refine Good.ax ?_ (by omega) rfl|refine Good.ax ?_ (by omega) (cX _ _ _ (by omega))|refine Good.ax ?_ (by omega) (by simp[ab.refs,V.ah,V.refs]<;>omega))),by omega,fun j hj=> ?_⟩ (fun j g1 g2=>by(repeat(first|rfl|rw[aa]|rw[ae _ _ _ _ (by omega)])))
  ·by_cases e:j=id
   ·subst e;(repeat(first|rfl|rw[aa]|rw[ae _ _ _ _ (by omega)]))
   ·rw[ae _ _ _ _ e,ae _ _ _ _ e,ae _ _ _ _ (by omega),hI.eq j hj,ae _ _ _ _ e]
 |some p=>
  obtain⟨i,y⟩:=p
  obtain⟨rfl,e1,hn⟩:=Eb ha
  have hs:gN bs x=(bs,false):=by simp[gN,I8,hn]
  rw[hs]at hK
  simp+contextual (disch:=first|omega|simp only[go_sem,false_implies]) only[go_sem,wrap64,if_pos,q0,q1,ha]
  rw[CE,e1]
  refine hK _ _ (by omega) ⟨(by repeat(first|exact hg.mono (by omega)|exact Good.nil|refine Good.ax ?_ (by omega) rfl|refine Good.ax ?_ (by omega) (cX _ _ _ (by omega))|refine Good.ax ?_ (by omega) (by simp[ab.refs,V.ah,V.refs]<;>omega))),by omega,fun j hj=> ?_⟩ (fun j g1 g2=>by(repeat(first|rfl|rw[aa]|rw[ae _ _ _ _ (by omega)])))
  ·by_cases e:j=id
   ·subst e;(repeat(first|rfl|rw[aa]|rw[ae _ _ _ _ (by omega)]))
   ·rw[ae _ _ _ _ e,ae _ _ _ _ e,ae _ _ _ _ (by omega),hI.eq j hj,ae _ _ _ _ e]
theorem nZ:∀ (l:List om) (bs:List (List UInt8)),match cd l bs with|some B=>aZ gN bs l=(B,true)|none=>(aZ gN bs l).2=false
 |[],bs=>rfl
 |x::l,bs=>by
  have ih:=nZ l (bs++[x.name])
  simp only[cd,aZ,gN,I8]
  by_cases h1:bs.any (· ==x.name)=true
  ·simp[h1]
  ·simp only[Bool.not_eq_true]at h1
   simp only[h1,Bool.false_eq_true,if_false,Bool.not_false,Bool.true_and]
   by_cases h2:(jm x.name&&e8 x.args 0 4)=true
   ·have h3: ¬ ((!jm x.name|| !e8 x.args 0 4)=true):=by simp at h2;simp[h2]
    rw[if_neg h3,if_pos h2]
    exact ih
   ·have h3:(!jm x.name|| !e8 x.args 0 4)=true:=by
     cases hn:jm x.name<;>simp_all
    rw[if_pos h3,if_neg h2]
end Go.Proofs.YtealblliddhgiaaGreat
namespace Go.Proofs.YtealblliddhgiaaGreat
def lQ(ok:Bool):Int:=if ok=true then 0 else 2
@[reducible] def Ed (s:aW) (bs:List (List UInt8)):Nat->ab:=ax (ax (ax (fun _=> .no) 0 (.row s.row)) 3 (.row [.mp 2])) 2 (.map 9 4 (enc .str (nY bs)))
theorem Bq(s:aW)(hs:s.Fits):bC Tryz.prog 38 [s.d] (.ret [.i (lQ (pb s))]):=by
 refine bC.aV mix QG (by simp) ?_
 rw[Vt]
 simp+contextual (disch:=first|omega|simp only[go_sem,false_implies]) only[go_sem,wrap64,if_pos,Nat.add_assoc,Nat.left_eq_add,Nat.add_eq_left,Nat.add_left_cancel_iff]
 refine ay (eG _ _ _) rfl ?_
 simp+contextual (disch:=first|omega|simp only[go_sem,false_implies]) only[go_sem,wrap64,if_pos,Nat.add_assoc,Nat.left_eq_add,Nat.add_eq_left,Nat.add_left_cancel_iff]
 cases h1:(!e8 s.cons.length 2 12||decide (8<(s.dz.length:Int)))with
 |true=>
  have:pb s=false:=by simp only[pb,h1,if_true]
  simp+contextual (disch:=first|omega|simp only[go_sem,false_implies]) only[go_sem,wrap64,if_pos,h1]
  simp[this,lQ]
 |false=>
  have JO:=nZ s.cons []
  have Sl:∀ (l:List om),(∀x∈l,x.name.length<=9223372036854775807)->∀x∈l,∀bs,True->xK Tryz.prog 77 (.d x.d::[.ptr 3 0]) 4 (Ed s bs) (Ed s (gN bs x).1) (.d (.bool (gN bs x).2)):=fun l hl x hx bs _=>
   Nq x (hl x hx) 4 3 2 (ax (ax (fun _=> .no) 0 (.row s.row)) 3 (.row [.mp 2])) (aa _ _ _) (by omega) (by omega) (by omega) bs
  simp[e8]at h1
  obtain⟨a,b,r,hc⟩:∃a b r,s.cons=a::b::r:=by
   match h:s.cons with
   |[]=>rw[h]at h1;simp at h1
   |[a]=>rw[h]at h1;simp at h1
   |a::b::r=>exact⟨a,b,r,rfl⟩
  have eI:(!e8 s.cons.length 2 12||decide (8<(s.dz.length:Int)))=false:=by simp[e8];omega
  have D5:pb s=if(!lT a fB|| !lT b tB)=true then false else match cd s.cons []with
   |none=>false
   |some l=>(cd s.dz l).isSome:=by
   unfold pb
   rw[if_neg (by rw[eI];exact Bool.false_ne_true),hc]
   dsimp only
   rfl
  simp+contextual (disch:=first|omega|simp only[go_sem,false_implies]) only[go_sem,wrap64,if_pos,eI]
  refine dP (zL s.cons hs.lc 77 [.ptr 3 0] 4 (Ed s) gN (by simp[V.ah,V.refs]) (fun _=>True) (fun _ _ _ _ _=>trivial) (Sl s.cons hs.nc) [] trivial _ _ ⟨?_,by omega,fun id aw=> ?_⟩ _ _ fun o2 n2 m1 m2 m3=> ?_)
  ·exact(by repeat(first|exact hg.mono (by omega)|exact Good.nil|refine Good.ax ?_ (by omega) rfl|refine Good.ax ?_ (by omega) (cX _ _ _ (by omega))|refine Good.ax ?_ (by omega) (by simp[ab.refs,V.ah,V.refs]<;>omega)))
  ·rcases(by omega:id=0\/id=1\/id=2\/id=3)with rfl|rfl|rfl|rfl<;>rfl
  have p0:∀ {bs:List (List UInt8)} {o:Nat->ab} {n:Nat},ig 4 (Ed s bs) o n->o 0= .row s.row:=fun h=>h.eq 0 (by omega)
  have p3:∀ {bs:List (List UInt8)} {o:Nat->ab} {n:Nat},ig 4 (Ed s bs) o n->o 3= .row [.mp 2]:=fun h=>h.eq 3 (by omega)
  cases hn:cd s.cons []with
  |none=>
   rw[hn]at JO
   simp only at JO
   rw[JO]
   simp+contextual (disch:=first|omega|simp only[go_sem,false_implies]) only[go_sem,wrap64,if_pos,Nat.add_assoc,Nat.left_eq_add,Nat.add_eq_left,Nat.add_left_cancel_iff]
   rw[D5,hn]
   split<;>rfl
  |some B=>
   rw[hn]at JO
   simp only at JO
   rw[JO]at m2|-
   simp+contextual (disch:=first|omega|simp only[go_sem,false_implies]) only[go_sem,wrap64,if_pos,Nat.add_assoc,Nat.left_eq_add,Nat.add_eq_left,Nat.add_left_cancel_iff,p0 m2]
   refine dP (zL s.dz hs.lf 77 [.ptr 3 0] 4 (Ed s) gN (by simp[V.ah,V.refs]) (fun _=>True) (fun _ _ _ _ _=>trivial) (Sl s.dz hs.nf) B trivial _ _ (m2.mono (by omega)) _ _ fun o4 n4 k1 k2 k3=> ?_)
   have JP:=nZ s.dz B
   cases hf:cd s.dz B with
   |none=>
    rw[hf]at JP
    simp only at JP
    rw[JP]
    simp+contextual (disch:=first|omega|simp only[go_sem,false_implies]) only[go_sem,wrap64,if_pos,Nat.add_assoc,Nat.left_eq_add,Nat.add_eq_left,Nat.add_left_cancel_iff]
    rw[D5,hn]
    simp only[hf]
    split<;>rfl
   |some C=>
    rw[hf]at JP
    simp only at JP
    rw[JP]at k2|-
    simp+contextual (disch:=first|omega|simp only[go_sem,false_implies]) only[go_sem,wrap64,if_pos,Nat.add_assoc,Nat.left_eq_add,Nat.add_eq_left,Nat.add_left_cancel_iff,p0 k2,hc]
    have K2:pb s= !(!lT a fB|| !lT b tB):=by
     rw[D5,hn];simp only[hf]
     cases(!lT a fB|| !lT b tB)<;>rfl
    refine ak (fun h5=> ?_) (fun h5=> ?_)
    ·simp+contextual (disch:=first|omega|simp only[go_sem,false_implies]) only[go_sem,wrap64,if_pos,and_self]
     have oj:(!lT a fB|| !lT b tB)=true:=h5
     rw[K2,oj];rfl
    ·simp+contextual (disch:=first|omega|simp only[go_sem,false_implies]) only[go_sem,wrap64,if_pos,and_self]
     have oj:(!lT a fB|| !lT b tB)=false:=h5
     rw[K2,oj];rfl
def n6(s:aW)(l:List Tm):Bool:=pb s&&l.all (lE s)
theorem vu{α:Type}(p:α->Bool):∀ (l:List α) (u:Unit),aZ (fun _ x=>((),p x)) u l=((),l.all p)
 |[],_=>rfl
 |x::l,u=>by
  simp only[aZ,List.all_cons,vu p l]
  cases p x<;>rfl
theorem tw(l:List Tm)(hl:l.length<=9223372036854775807)(g:Nat)(cj:List V)(base:Nat)(h:Nat->ab)(p:Tm->Bool)(hc:∀r∈V.ah cj,r<base)
 (hp:∀x∈l,xK Tryz.prog g (.d x.d::cj) base h h (.d (.bool (p x)))):xK Tryz.prog 87 [.d (.sl (l.map Tm.d)), .func (.func g) [] cj] base h h (.d (.bool (l.all p))):=by
 have:=zH l hl g cj base (fun _:Unit=>h) (fun _ x=>((),p x)) hc (fun _=>True) (fun _ _ _ _ _=>trivial) (fun x hx _ _=>hp x hx) () trivial
 simpa only[vu]using this
structure Tm.Fin (t:Tm):Prop where
 fits:t.fits
 eB:t.eB<=900000
theorem GA(s:aW)(hs:s.Fits)(t:Tm)(ht:t.Fin)(base sp:Nat)(h:Nat->ab)(Jy:h sp= .row s.row)(hb:sp<base):xK Tryz.prog 88 [.d t.d, .ptr sp 0] base h h (.d (.bool (lE s t))):=by
 intro o nx hI K X hK
 have hle:=hI.le
 have hg:=hI.df
 have q0:o sp= .row s.row:=by rw[hI.eq sp hb,Jy]
 refine eR.aV mix Re (by simp) ?_
 rw[Wg]
 simp+contextual (disch:=first|omega|simp only[go_sem,false_implies]) only[go_sem,wrap64,if_pos,q0]
 refine ay (Gx s hs t ht.fits ht.eB) rfl ?_
 simp+contextual (disch:=first|omega|simp only[go_sem,false_implies]) only[go_sem,wrap64,if_pos,and_self]
 exact hK _ _ (by omega) ⟨(by repeat(first|exact hg.mono (by omega)|exact Good.nil|refine Good.ax ?_ (by omega) rfl|refine Good.ax ?_ (by omega) (cX _ _ _ (by omega))|refine Good.ax ?_ (by omega) (by simp[ab.refs,V.ah,V.refs]<;>omega))),by omega,fun j hj=>by rw[ae _ _ _ _ (by omega),hI.eq j hj]⟩ (fun j g1 g2=>by(repeat(first|rfl|rw[aa]|rw[ae _ _ _ _ (by omega)])))
theorem I9(s:aW)(hs:s.Fits)(l:List Tm)(hl:l.length<=9223372036854775807)(hf:∀t∈l,t.Fin):bC Tryz.prog 51 [s.d, .sl (l.map Tm.d)] (.ret [.bool (n6 s l)]):=by
 refine bC.aV mix QK (by simp) ?_
 rw[VG]
 simp+contextual (disch:=first|omega|simp only[go_sem,false_implies]) only[go_sem,wrap64,if_pos,and_self]
 refine ay (Bq s hs) rfl ?_
 cases h1:pb s with
 |false=>
  simp+contextual (disch:=first|omega|simp only[go_sem,false_implies]) only[go_sem,wrap64,if_pos,lQ]
  simp[n6,h1]
 |true=>
  simp+contextual (disch:=first|omega|simp only[go_sem,false_implies]) only[go_sem,wrap64,if_pos,lQ]
  refine dP (tw l hl 88 [.ptr 0 0] 1 (ax (fun _=> .no) 0 (.row s.row)) (lE s) (by simp[V.ah,V.refs]) (fun x hx=>GA s hs x (hf x hx) 1 0 _ (aa _ _ _) (by omega)) _ _ ⟨(by repeat(first|exact hg.mono (by omega)|exact Good.nil|refine Good.ax ?_ (by omega) rfl|refine Good.ax ?_ (by omega) (cX _ _ _ (by omega))|refine Good.ax ?_ (by omega) (by simp[ab.refs,V.ah,V.refs]<;>omega))),by omega,fun id aw=>rfl⟩ _ _ fun o2 n2 m1 m2 m3=> ?_)
  simp+contextual (disch:=first|omega|simp only[go_sem,false_implies]) only[go_sem,wrap64,if_pos,and_self]
  simp[n6,h1]
end Go.Proofs.YtealblliddhgiaaGreat
namespace Go.Proofs.YtealblliddhgiaaGreat
def pn(x:Tm×Int):Bool:=decide (3<x.1.op)&&x.1.op !=5
def vJ(b:Bool):Option jQ:=if b=true then none else some .ret
def qe(t:Tm):Bool:=(aZ (uc vJ (fun _ x=> !pn x)) true (pre t 1)).2
theorem Ee(t:Tm)(ht:t.Fin):bC Tryz.prog 82 [t.d] (.ret [.bool (qe t)]):=by
 refine bC.aV mix Q9 (by simp) ?_
 rw[Wa]
 simp+contextual (disch:=first|omega|simp only[go_sem,false_implies]) only[go_sem,wrap64,if_pos,and_self]
 refine cB (tt t _ _ _ _ ?_)
 simp+contextual (disch:=first|omega|simp only[go_sem,false_implies]) only[go_sem,wrap64,if_pos,and_self]
 refine mC t ht.fits ht.eB [.af, .af, .ptr 1 0] ?_ (by decide) rfl (by repeat(first|exact hg.mono (by omega)|exact Good.nil|refine Good.ax ?_ (by omega) rfl|refine Good.ax ?_ (by omega) (cX _ _ _ (by omega))|refine Good.ax ?_ (by omega) (by simp[ab.refs,V.ah,V.refs]<;>omega))) (by simp[V.ah,V.refs]) (aa _ _ _)
  (fun _=>ax (ax (ax (fun _=> .no) 0 (.row t.row)) 1 (.row [.d (.bool false)])) 3 (.row t.row)) vJ (fun _ x=> !pn x) (fun _=>True) true trivial rfl (fun id aw=>rfl) (fun _ _ _ _ _ _=>trivial) ?_ ?_
 ·(repeat(first|exact qc|refine nV ?_|refine wW rfl ?_))
 ·intro L hL cX x hx s' h1 h2 o3 n3 hI hn ho K X fX
  simp only[rq]
  have hg:=hI.df
  have q1:o3 1= .row [.d (.bool false)]:=hI.eq 1 (by omega)
  simp+contextual (disch:=first|omega|simp only[go_sem,false_implies]) only[go_sem,wrap64,if_pos,and_self]
  refine tq hL (pd:=none) ?_ ?_
  ·(repeat(first|rfl|rw[aa]|rw[ae _ _ _ _ (by omega)]))
   exact ho
  simp+contextual (disch:=first|omega|simp only[go_sem,false_implies]) only[go_sem,wrap64,if_pos,and_self]
  have hv:pn x=(decide (3<x.1.op)&&x.1.op !=5):=rfl
  rw[<- hv]
  cases hb:pn x with
  |true=>
   rw[hb]at fX
   simp+contextual (disch:=first|omega|simp only[go_sem,false_implies]) only[go_sem,wrap64,if_pos,q1]
   refine fX _ _ _ .busy none (by omega) ⟨(by repeat(first|exact hg.mono (by omega)|exact Good.nil|refine Good.ax ?_ (by omega) rfl|refine Good.ax ?_ (by omega) (cX _ _ _ (by omega))|refine Good.ax ?_ (by omega) (by simp[ab.refs,V.ah,V.refs]<;>omega))),by omega,fun id aw=> ?_⟩ (by(repeat(first|rfl|rw[aa]|rw[ae _ _ _ _ (by omega)]))) (fun id h3 h4=>by(repeat(first|rfl|rw[aa]|rw[ae _ _ _ _ (by omega)])))
   by_cases e:id=1
   ·subst e;(repeat(first|rfl|rw[aa]|rw[ae _ _ _ _ (by omega)]))
   ·rw[ae _ _ _ _ e];(repeat(first|rfl|rw[aa]|rw[ae _ _ _ _ (by omega)]))
    exact hI.eq id aw
  |false=>
   rw[hb]at fX
   simp+contextual (disch:=first|omega|simp only[go_sem,false_implies]) only[go_sem,wrap64,if_pos,and_self]
   refine fX _ _ _ .busy none (by omega) ⟨(by repeat(first|exact hg.mono (by omega)|exact Good.nil|refine Good.ax ?_ (by omega) rfl|refine Good.ax ?_ (by omega) (cX _ _ _ (by omega))|refine Good.ax ?_ (by omega) (by simp[ab.refs,V.ah,V.refs]<;>omega))),by omega,fun id aw=> ?_⟩ (by(repeat(first|rfl|rw[aa]|rw[ae _ _ _ _ (by omega)]))) (fun id h3 h4=>by(repeat(first|rfl|rw[aa]|rw[ae _ _ _ _ (by omega)])))
   (repeat(first|rfl|rw[aa]|rw[ae _ _ _ _ (by omega)]))
   exact hI.eq id aw
 ·intro o' n' hI
  have q1:o' 1= .row [.d (.bool false)]:=hI.eq 1 (by omega)
  rw[show qe t=(vJ (aZ (uc vJ (fun _ x=> !pn x)) true (pre t 1)).1).isNone from w9 _ _ _ _ rfl]
  generalize (aZ (uc vJ (fun _ x=> !pn x)) true (pre t 1)).1=sf at*
  cases sf<;>(simp only[vJ,if_true,if_false,Bool.false_eq_true,uk];simp+contextual (disch:=first|omega|simp only[go_sem,false_implies]) only[go_sem,wrap64,if_pos,q1];rfl)
end Go.Proofs.YtealblliddhgiaaGreat
