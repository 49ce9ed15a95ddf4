/-
  A PART OF THE PROOF. Conditions: none.
-/
import Derived.Test.YtealblliddhgiaaGreatGn14
set_option linter.unusedSimpArgs false
set_option linter.unusedVariables false
namespace Go.Proofs.YtealblliddhgiaaGreat
theorem A1{σ:Type}(l:List Tm)(hl:l.length<=9223372036854775807)(g:Nat)(b7:List V)(base:Nat)(H:σ->Nat->ae)(step:σ->Tm->σ×Bool)(hc:∀r∈V.ag b7,r<base)(ok:σ->Prop)(bA:∀x∈l,∀s,ok s->(step s x).2=true->ok (step s x).1)
 (h:∀x∈l,∀s,ok s->vA Tryz.prog g (.d x.d::b7) base (H s) (H (step s x).1) (.d (.bool (step s x).2))) (s:σ) (rD:ok s):
 vA Tryz.prog 87 [.d (.sl (l.map Tm.d)), .func (.func g) [] b7] base (H s) (H (aL step s l).1) (.d (.bool (aL step s l).2)):=by
 intro o nx hI K X hK
 have xo:∀r∈V.ag b7,r<nx:=fun r hr=>Nat.lt_of_lt_of_le (hc r hr) hI.le
 refine dX.aZ mix Tf (by simp) ?_
 rw[YB]
 simp+contextual only[go_sem]
 refine aW (fun i:Nat×σ×(Nat->ae)×Nat=>⟨bw [.ab, .func (.func g) [] b7, .ab, .ab, .ab, .ab, .ab, .d (.sl (l.map Tm.d)), .d (.i l.length), .d (.i i.1)],i.2.2.1,i.2.2.2⟩)
  (fun i=>i.1<=l.length/\gI base (H i.2.1) i.2.2.1 i.2.2.2/\nx<=i.2.2.2/\(∀id,base<=id->id<nx->i.2.2.1 id=o id)/\aL step s l=aL step i.2.1 (l.drop i.1)/\ok i.2.1) (fun i=>l.length - i.1) (0,s,o,nx)
  ⟨Nat.zero_le _,hI,Nat.le_refl _,fun _ _ _=>rfl,rfl,rD⟩ ?_ ?_
 ·dsimp only
  refine bW.bE _ (Nat.le_refl _) (by omega) hI.cW (fun _ _=>rfl) ?_
  (repeat(first|exact aq|refine ai ?_|refine ah rfl ?_|refine ah (aQ (aP (by omega))) ?_|refine aA rfl (by simp[V.refs,V.ag]<;>first|omega|assumption) ?_))
 rintro⟨k,s',o',nx'⟩ ⟨hk,D5,hn,cS,hf,uv⟩
 simp only at hk D5 hn cS hf uv
 simp+contextual only[go_sem]
 refine ay (fun h1=> ?_) (fun h1=> ?_)
 ·simp at h1
  obtain⟨x,hx⟩:=aX h1
  have kx:=List.mem_of_getElem? hx
  have hd:l.drop k=x::l.drop (k+1):=by
   rw[List.drop_eq_getElem_cons h1]
   rw[List.getElem?_eq_getElem h1]at hx;injection hx with hx;rw[hx]
  simp+contextual only[go_sem,hx,Nat.add_assoc,Nat.left_eq_add,Nat.add_eq_left,Nat.add_left_cancel_iff]
  have Vu:=D5.le
  refine iK (h x kx s' uv _ _ (?_:gI base (H s') _ (nx'+7)) _ _ fun o2 n2 m1 m2 m3=> ?_)
  ·exact(D5.ak (i:=nx'+3) (m:=nx'+7) (by omega) (by omega) (by omega) rfl).ak (by omega) (by omega) (by omega) rfl
  have A2:∀id,base<=id->id<nx->o2 id=o id:=fun id h2 h3=>by
   rw[m3 id h2 (by omega),ad _ _ _ _ (by omega),ad _ _ _ _ (by omega),cS id h2 h3]
  simp+contextual only[go_sem]
  refine ay (fun h2=> ?_) (fun h2=> ?_)
  ·simp+contextual only[go_sem]
   simp at h2
   have:aL step s l=((step s' x).1,false):=by rw[hf,hd,aL,if_neg (by rw[h2];exact Bool.false_ne_true)]
   rw[this]at hK
   exact hK _ _ (by omega) (m2.mono (by omega)) A2
  ·simp+contextual only[go_sem]
   simp at h2
   have:aL step s l=aL step (step s' x).1 (l.drop (k+1)):=by rw[hf,hd,aL,if_pos h2]
   refine aB (k+1,(step s' x).1,o2,n2) ⟨h1,m2,by dsimp only;omega,A2,this,bA x kx s' uv h2⟩ (by dsimp only;omega) ?_
   dsimp only
   have MM:∀r∈V.ag b7,r<n2:=fun r hr=>by have:=xo r hr;omega
   refine bW.bE _ (by omega) (by omega) m2.cW (fun _ _=>rfl) ?_
   (repeat(first|exact aq|refine ai ?_|refine ah rfl ?_|refine ah (aQ (aP (by omega))) ?_|refine aA rfl (by simp[V.refs,V.ag]<;>first|omega|assumption) ?_))
 ·simp+contextual only[go_sem]
  simp at h1
  rw[List.drop_eq_nil_of_le h1]at hf
  simp only[aL]at hf
  rw[hf]at hK
  exact hK _ _ (by omega) (D5.mono (by omega)) cS
theorem yq{α σ:Type}(step:σ->α->σ×Bool)(a b:List α):∀s,aL step s (a++b)=if(aL step s a).2=true then aL step (aL step s a).1 b else((aL step s a).1,false):=by
 induction a with
 |nil=>intro s;simp[aL]
 |cons x a ih=>
  intro s
  simp only[List.cons_append,aL]
  split
  ·exact ih _
  ·rename_i h;simp
theorem CS{α β σ:Type}(step:σ->β->σ×Bool)(f:α->List β)(l:List α):∀s,aL step s (l.flatMap f)=aL (fun s x=>aL step s (f x)) s l:=by
 induction l with
 |nil=>intro s;rfl
 |cons x l ih=>intro s;simp only[List.flatMap_cons,yq,aL,ih]
theorem A3{α σ:Type}{step:σ->α->σ×Bool}{ok:σ->Prop}:∀ (l:List α),(∀x∈l,∀s,ok s->(step s x).2=true->ok (step s x).1)->∀s,ok s->(aL step s l).2=true->ok (aL step s l).1
 |[],_,s,h,_=>h
 |x::l,bA,s,h,h2=>by
  simp only[aL]at h2|-
  split at h2
  ·rename_i hb
   rw[if_pos hb]
   exact A3 l (fun y hy=>bA y (by simp[hy])) _ (bA x (by simp) s h hb) h2
  ·cases h2
def RoC(P:Program)(Gf:Nat)(args:List V)(base:Nat)(h h2:Nat->ae)(v:V):Prop:=
 ∀o nx,gI base h o nx->∀K X,Uq base h2 v o nx K->dJ P Gf args o nx K X
section
variable {σ:Type}(base Gf:Nat)(H:σ->Nat->ae)(step:σ->Tm×Int->σ×Bool)(ok:σ->Prop)
theorem Kn:∀t:Tm,t.fits->∀d:Int,0<=d->d+t.ck<=1000000->(∀x∈pre t d,∀s,ok s->(step s x).2=true->ok (step s x).1)->(∀x∈pre t d,∀s,ok s->RoC Tryz.prog Gf [.d x.1.d, .d (.i x.2)] base (H s) (H (step s x).1) (.d (.bool (step s x).2)))->Gf<base->
 ∀ (c:Nat) (o0:Nat->ae) (yb vb:Nat),base<=c->base<=yb->yb<c->base<=vb->vb<c->o0 yb= .row [.kV Gf]->o0 vb= .row [.func (.func 114) [] [.ptr yb 0, .ptr vb 0]]->
 ∀s,ok s->vA Tryz.prog 114 [.d t.d, .d (.i d), .ptr yb 0, .ptr vb 0] c (ext base (H s) o0) (ext base (H (aL step s (pre t d)).1) o0) (.d (.bool (aL step s (pre t d)).2)):=by
 refine Tm.eO fun t ih hf d hd0 hd bA hR Pl c o0 yb vb hbc hy0 hy hv0 hv oy ov s rD=> ?_
 have vQ:=(Tm.bR _).1 hf
 intro o nx hI K X hK
 have hle:=hI.le
 have oy':o yb= .row [.kV Gf]:=by rw[hI.eq yb hy];unfold ext;rw[if_neg (by omega),oy]
 have ov':o vb= .row [.func (.func 114) [] [.ptr yb 0, .ptr vb 0]]:=by rw[hI.eq vb hv];unfold ext;rw[if_neg (by omega),ov]
 have y1:yb≠nx:=by omega
 have y2:∀k,yb≠nx+k:=fun k=>by omega
 have y3:vb≠nx:=by omega
 have y4:∀k,vb≠nx+k:=fun k=>by omega
 refine dX.aZ mix My (by simp) ?_
 rw[OV]
 simp+contextual only[go_sem,oy',ov',y1,y2,y3,y4,Nat.add_assoc,Nat.left_eq_add,Nat.add_eq_left,Nat.add_left_cancel_iff]
 have HY:=l9 t d
 have eN:∀k∈t.kids,∀x∈pre k (d+1),x∈pre t d:=fun k hk x hx=>by
  rw[HY];exact List.mem_cons_of_mem _ (List.mem_flatMap.2 ⟨k,hk,hx⟩)
 have hb:∀id,id<base->o id=H s id:=fun id ax=>by rw[hI.eq id (by omega)];unfold ext;rw[if_pos ax]
 have hIb:gI base (H s) o nx:=⟨hI.cW,by omega,hb⟩
 refine AV (hR (t,d) (by rw[HY];simp) s rD _ _ ((hIb.ak (i:=nx) (m:=nx+6) (by omega) (by omega) (by omega) rfl).ak (i:=nx+1) (by omega) (by omega) (by omega) rfl) _ _ fun o2 n2 m1 m2 m3=> ?_)
 have k0:o2 nx= .row t.row:=by rw[m3 nx (by omega) (by omega),ad _ _ _ _ (by omega),aa]
 have k1:o2 (nx+1)= .row [.d (.i d)]:=by rw[m3 (nx+1) (by omega) (by omega),aa]
 have hold:∀id,base<=id->id<nx->o2 id=o id:=fun id h1 h2=>by rw[m3 id h1 (by omega),ad _ _ _ _ (by omega),ad _ _ _ _ (by omega)]
 have rL:∀id,base<=id->id<c->o id=o0 id:=fun id h1 h2=>by rw[hI.eq id h2];unfold ext;rw[if_neg (by omega)]
 cases Us:(step s (t,d)).2 with
 |false=>
  simp+contextual only[go_sem,Us]
  have VR:aL step s (pre t d)=((step s (t,d)).1,false):=by rw[HY,aL,if_neg (by rw[Us];exact Bool.false_ne_true)]
  rw[VR]at hK
  refine hK _ _ (by omega) ⟨m2.cW.mono (by omega),by omega,fun id ax=> ?_⟩ (fun id h1 h2=>hold id (by omega) h2)
  unfold ext
  split
  ·exact m2.eq id (by assumption)
  ·rw[hold id (by omega) (by omega),rL id (by omega) ax]
 |true=>
  have VR:aL step s (pre t d)=aL (fun s k=>aL step s (pre k (d+1))) (step s (t,d)).1 t.kids:=by rw[HY,aL,if_pos Us,CS]
  simp+contextual only[go_sem,Us,k0,k1]
  have q0:o2 yb= .row [.kV Gf]:=by rw[hold yb hy0 (by omega),oy']
  have q1:o2 vb= .row [.func (.func 114) [] [.ptr yb 0, .ptr vb 0]]:=by rw[hold vb hv0 (by omega),ov']
  have m0:=m2.le
  refine dy (A1 t.kids vQ.1 115 [.ptr vb 0, .ptr (nx+1) 0] n2 (fun s=>ext base (H s) o2) (fun s k=>aL step s (pre k (d+1))) ?_ ok ?_ ?_ (step s (t,d)).1 (bA (t,d) (by rw[HY];simp) s rD Us) _ _ ?_ _ _ ?_)
  ·simp[V.ag,V.refs];omega
  ·exact fun k hk s' h1 h2=>A3 _ (fun x hx=>bA x (eN k hk x hx)) s' h1 h2
  ·intro k hk s' iW o3 n3 VS K3 X3 hK3
   have l3:=VS.le
   have r0:o3 vb= .row [.func (.func 114) [] [.ptr yb 0, .ptr vb 0]]:=by rw[VS.eq vb (by omega)];unfold ext;rw[if_neg (by omega),q1]
   have r1:o3 (nx+1)= .row [.d (.i d)]:=by rw[VS.eq (nx+1) (by omega)];unfold ext;rw[if_neg (by omega),k1]
   have y5:vb≠n3:=by omega
   have y6:∀k,vb≠n3+k:=fun k=>by omega
   have y7:nx+1≠n3:=by omega
   have y8:∀k,nx+1≠n3+k:=fun k=>by omega
   have hh:=Tm.dv hk
   refine dX.aZ mix Mz (by simp) ?_
   rw[OW]
   simp+contextual only[go_sem,r0,r1,y5,y6,y7,y8]
   rw[wrap64 (n:=d+1) (by omega) (by omega)]
   refine dy (ih k hk (vQ.2 k hk) (d+1) (by omega) (by omega) (fun x hx=>bA x (eN k hk x hx)) (fun x hx=>hR x (eN k hk x hx)) Pl n2 o2 yb vb (by omega) hy0 (by omega) hv0 (by omega) q0 q1 s' iW _ _ (VS.ak (i:=n3) (m:=n3+6) (by omega) (by omega) (by omega) rfl) _ _ fun o4 n4 p1 p2 p3=> ?_)
   simp+contextual only[go_sem]
   refine hK3 _ _ (by omega) (p2.mono (by omega)) (fun id h1 h2=> ?_)
   rw[p3 id h1 (by omega),ad _ _ _ _ (by omega)]
  ·exact(m2.mono (by omega)).ext (by omega) (by omega)
  ·intro o5 n5 p1 p2 p3
   simp+contextual only[go_sem]
   rw[<- VR]
   refine hK _ _ (by omega) ⟨p2.cW.mono (by omega),by omega,fun id ax=> ?_⟩ (fun id h1 h2=> ?_)
   ·rw[p2.eq id (by omega), <- VR]
    unfold ext
    split
    ·rfl
    ·rw[hold id (by omega) (by omega),rL id (by omega) ax]
   ·rw[p2.eq id (by omega)]
    unfold ext
    rw[if_neg (by omega),hold id (by omega) h2]
theorem HZ(t:Tm)(hf:t.fits)(hd:t.ck<=900000)(bA:∀x∈pre t 1,∀s,ok s->(step s x).2=true->ok (step s x).1)(hR:∀x∈pre t 1,∀s,ok s->RoC Tryz.prog Gf [.d x.1.d, .d (.i x.2)] base (H s) (H (step s x).1) (.d (.bool (step s x).2)))(Pl:Gf<base)(tb:Nat)(Pm:tb<base)(s:σ)(rD:ok s)(br:H s tb= .row t.row):
 vA Tryz.prog 113 [.kV Gf, .ptr tb 0] base (H s) (H (aL step s (pre t 1)).1) (.bS []):=by
 intro o nx hI K X hK
 have hle:=hI.le
 have ot:o tb= .row t.row:=by rw[hI.eq tb Pm,br]
 have y1:tb≠nx:=by omega
 have y2:∀k,tb≠nx+k:=fun k=>by omega
 refine dX.aZ mix Mx (by simp) ?_
 rw[OU]
 simp+contextual only[go_sem,ot,y1,y2,Nat.add_assoc,Nat.left_eq_add,Nat.add_eq_left,Nat.add_left_cancel_iff]
 have hI1:gI base (H s) (ak (ak (ak o nx (.row [.kV Gf])) (nx+1) (.row [.d .a7])) (nx+1) (.row [.func (.func 114) [] [.ptr nx 0, .ptr (nx+1) 0]])) (nx+6):=by
  refine((hI.ak (i:=nx) (m:=nx+6) (by omega) (by omega) (by omega) ?_).ak (i:=nx+1) (m:=nx+6) (by omega) (by omega) (by omega) rfl).ak (i:=nx+1) (by omega) (by omega) (by omega) ?_
  ·simp[ae.refs,V.ag,V.refs];omega
  ·simp[ae.refs,V.ag,V.refs]
 refine dy (Kn base Gf H step ok t hf 1 (by omega) (by omega) bA hR Pl (nx+6) _ nx (nx+1) (by omega) hle (by omega) (by omega) (by omega) ?_ ?_ s rD _ _ (hI1.ext (Nat.le_refl _) (by omega)) _ _ ?_)
 ·(repeat(first|rfl|rw[aa]|rw[ad _ _ _ _ (by omega)]))
 ·(repeat(first|rfl|rw[aa]|rw[ad _ _ _ _ (by omega)]))
 intro o2 n2 m1 m2 m3
 simp+contextual only[go_sem]
 refine hK _ _ (by omega) ⟨m2.cW,by omega,fun id ax=> ?_⟩ (fun id h1 h2=> ?_)
 ·rw[m2.eq id (by omega)];unfold ext;rw[if_pos ax]
 ·rw[m2.eq id (by omega)];unfold ext;rw[if_neg (by omega)]
  (repeat(first|rfl|rw[aa]|rw[ad _ _ _ _ (by omega)]))
end
theorem uw(t:Tm)(o:Nat->ae)(nx:Nat)(K X:V->(Nat->ae)->Nat->Prop)(h:K (.func (.func 113) [] [.ptr nx 0]) (ak o nx (.row t.row)) (nx+4)):dX Tryz.prog 81 [.d t.d] o nx K X:=by
 refine dX.aZ mix Tc (by simp) ?_
 rw[Yv]
 simp+contextual only[go_sem]
 exact h
end Go.Proofs.YtealblliddhgiaaGreat
namespace Go.Proofs.YtealblliddhgiaaGreat
def Ut:Option kR->fy
 |none=> .normal
 |some .ret=> .ret
 |some (.exit j)=> .exit j
def sw{σ:Type}(J:σ->Option kR)(step:σ->Tm×Int->σ)(s:σ)(x:Tm×Int):σ×Bool:=(step s x,(J (step s x)).isNone)
theorem yr{σ:Type}(J:σ->Option kR)(step:σ->Tm×Int->σ):∀ (l:List (Tm×Int)) (s:σ),J s=none->(aL (sw J step) s l).2=(J (aL (sw J step) s l).1).isNone
 |[],s,h=>by simp[aL,h]
 |x::l,s,h=>by
  simp only[aL]
  split
  ·rename_i hb
   exact yr J step l _ (by simpa[sw]using hb)
  ·rename_i hb
   cases hj:J (step s x)with
   |none=>exact absurd (by simp[sw,hj]) hb
   |some j=>simp[sw,hj]
theorem nm{σ:Type}(t:Tm)(hf:t.fits)(hd:t.ck<=900000){n:Nat}{ps:List Nat}{kX fO:IC}{Q:fy->S->Prop}{e:Nat->V}{o:Nat->ae}{nx tb:Nat}(env:List V)(he:oj e env 0)
 (J0:ps.all (fun t=>decide (t<n))=true) (hl:ps.length=2) (hg:Good o nx) (hrefs:∀r∈V.ag env,r<nx) (ht:o tb= .row t.row)
 (G:σ->Nat->ae) (J:σ->Option kR) (step:σ->Tm×Int->σ) (ok:σ->Prop) (s0:σ) (rD:ok s0) (hJ0:J s0=none) (h0:∀id,id<nx->o id=G s0 id) (bA:∀x∈pre t 1,∀s,ok s->J s=none->J (step s x)=none->ok (step s x))
 (Ce:∀L,jP Tryz.prog n env ps kX fO L->(∀st pd m,nx<=m->(L st pd).refs.all (fun r=>decide (r<m))=true)->∀x∈pre t 1,∀s,ok s->J s=none->∀o3 n3,gI nx (G s) o3 n3->nx<n3->o3 nx=L .ready none->∀K X,
  (∀e' o' n' st pd,n3<=n'->gI nx (G (step s x)) o' n'->o' nx=L st pd->(∀id,nx<id->id<n3->o' id=o3 id)->ma nx K X (Ut (J (step s x))) ⟨e',o',n'⟩)->
  kq Tryz.prog n n3 true kX (um Tryz.prog n n3 nx fO K X) ⟨ss (bw env) ps [.d x.1.d, .d (.i x.2)],o3,n3⟩)
 (oM:∀o' n',gI nx (G (aL (sw J step) s0 (pre t 1)).1) o' n'->vu Q (J (aL (sw J step) s0 (pre t 1)).1) ⟨e,o',n'⟩):
 Cz Tryz.prog n false ps kX fO Q ⟨e,o,nx⟩ (.func (.func 113) [] [.ptr tb 0]):=by
 refine Pc env he (fun L hL=> ?_)
 have Pm:tb<nx:=hg.lt (by rw[ht];exact ae.noConfusion)
 let H:σ->Nat->ae:=fun s id=>if id<nx then G s id else if id=nx then(match J s with|none=>L .ready none|some j=>L .done (some j))else .no
 have Nv:∀s id,id<nx->H s id=G s id:=fun s id h=>if_pos h
 have VT:∀s,J s=none->H s nx=L .ready none:=fun s h=>by show(if nx<nx then _ else _)=_;rw[if_neg (by omega),if_pos rfl,h]
 have YQ:∀s j,J s=some j->H s nx=L .done (some j):=fun s j h=>by show(if nx<nx then _ else _)=_;rw[if_neg (by omega),if_pos rfl,h]
 have bV:∀st pd m,nx<=m->(L st pd).refs.all (fun r=>decide (r<m))=true:=fun st pd m hm=>by
  rw[hL.refs,List.all_eq_true]
  intro r hr;have:=hrefs r hr;exact decide_eq_true (by omega)
 refine HZ (nx+1) nx H (sw J step) (fun s=>ok s/\J s=none) t hf hd (fun x hx s h1 h2=> ?_) (fun x hx s h1=> ?_) (by omega) tb (by omega) s0 ⟨rD,hJ0⟩ (by rw[Nv _ _ Pm, <- h0 _ Pm,ht]) _ _ ⟨?_,Nat.le_refl _,fun id ax=> ?_⟩ _ _ ?_
 ·have hj:J (step s x)=none:=by simpa[sw]using h2
  exact⟨bA x hx s h1.1 h1.2 hj,hj⟩
 ·intro o3 n3 hI K X hK
  have hle:=hI.le
  have H3:o3 nx=L .ready none:=by rw[hI.eq nx (by omega),VT s h1.2]
  refine HU hL mix H3 (by omega) J0 (by simp[hl]) ?_
  refine Ce L hL bV x hx s h1.1 h1.2 o3 n3 ⟨hI.cW,by omega,fun id ax=>by rw[hI.eq id (by omega),Nv _ _ ax]⟩ (by omega) H3 K X (fun e' o' n' st pd k1 k2 k3 k4=> ?_)
  have key:∀st' pd' b,(J (step s x)).isNone=b->H (step s x) nx=L st' pd'->K (.d (.bool b)) (ak o' nx (L st' pd')) n':=fun st' pd' b hb hh=>by
   subst hb
   refine hK _ _ k1 ⟨k2.cW.ak (by omega) (bV _ _ _ (by omega)),by omega,fun id ax=> ?_⟩ (fun id g1 g2=> ?_)
   ·by_cases H4:id=nx
    ·subst H4;rw[aa];exact hh.symm
    ·rw[ad _ _ _ _ H4]
     show o' id=H (step s x) id
     rw[Nv _ _ (by omega)];exact k2.eq id (by omega)
   ·rw[ad _ _ _ _ (by omega)];exact k4 id (by omega) g2
  cases hj:J (step s x)with
  |none=>exact FA hL k3 (key _ _ _ (by rw[hj];rfl) (VT _ hj))
  |some j=>
   cases j with
   |ret=>exact CN hL k3 (key _ _ _ (by rw[hj];rfl) (YQ _ _ hj))
   |exit j=>exact AW hL k3 (key _ _ _ (by rw[hj];rfl) (YQ _ _ hj))
 ·exact(hg.mono (by omega)).ak (by omega) (bV _ _ _ (by omega))
 ·by_cases H4:id=nx
  ·subst H4;rw[aa,VT _ hJ0]
  ·rw[ad _ _ _ _ H4,Nv _ _ (by omega)];exact h0 id (by omega)
 ·intro o' n' k1 k2 k3
  have hle:=k2.le
  generalize hsf:(aL (sw J step) s0 (pre t 1)).1=sf at*
  have kk:∀st pd,gI nx (G sf) (ak o' nx (L st pd)) n':=fun st pd=>⟨k2.cW.ak (by omega) (bV _ _ _ (by omega)),by omega,fun id ax=>by rw[ad _ _ _ _ (by omega),k2.eq id (by omega),Nv _ _ ax]⟩
  cases hj:J sf with
  |none=>
   refine⟨.ready,none,by rw[k2.eq nx (by omega),VT _ hj],(fun h=>by cases h), ?_⟩
   have:=oM _ _ (kk .exhausted none)
   rwa [hj]at this
  |some j=>
   refine⟨.done,some j,by rw[k2.eq nx (by omega),YQ _ _ hj],(fun h=>by cases h), ?_⟩
   have:=oM _ _ (kk .exhausted (some j))
   rwa [hj]at this
end Go.Proofs.YtealblliddhgiaaGreat
namespace Go.Proofs.YtealblliddhgiaaGreat
theorem eV(n low high:Int):bJ Tryz.prog 79 [.i n, .i low, .i high] (.ret [.bool (eX n low high)]):=by
 refine bJ.aZ mix Ta (by simp) ?_
 rw[Yt]
 simp+contextual only[go_sem]
 rfl
theorem CT(s:aO)(t:Tm)(h:t.op=1):bJ Tryz.prog 118 [s.d,t.d] (.ret [.bool (bu s t)]):=by
 have hn:bu s t=(eX t.n 0 19&&(t.kids.length:Int)==0):=by simp[bu,h,Bool.and_comm]
 refine bJ.aZ mix MC (by simp) ?_
 rw[OZ]
 simp+contextual only[go_sem]
 refine aw (eV _ _ _) rfl ?_
 simp+contextual only[go_sem]
 rw[hn]
theorem FF(s:aO)(t:Tm)(h:t.op=2):bJ Tryz.prog 119 [s.d,t.d] (.ret [.bool (bu s t)]):=by
 have hn:bu s t=(eX t.n (-1000000) 1000000&&(t.kids.length:Int)==0):=by simp[bu,h,Bool.and_comm]
 refine bJ.aZ mix MD (by simp) ?_
 rw[O0]
 simp+contextual only[go_sem]
 refine aw (eV _ _ _) rfl ?_
 simp+contextual only[go_sem]
 rw[hn]
theorem Uu(s:aO)(t:Tm)(h:t.op=8):bJ Tryz.prog 123 [s.d,t.d] (.ret [.bool (bu s t)]):=by
 have hn:bu s t=(eX t.n 0 19&&(t.kids.length:Int)==2):=by simp[bu,h,Bool.and_comm]
 refine bJ.aZ mix MH (by simp) ?_
 rw[O4]
 simp+contextual only[go_sem]
 refine aw (eV _ _ _) rfl ?_
 simp+contextual only[go_sem]
 rw[hn]
theorem Pn(s:aO)(t:Tm)(h:t.op=6\/t.op=7\/t.op=9\/t.op=10\/t.op=11\/t.op=12\/t.op=13\/t.op=14\/t.op=15):bJ Tryz.prog 124 [s.d,t.d] (.ret [.bool (bu s t)]):=by
 have hn:bu s t=(t.n==0&&(t.kids.length:Int)==2):=by
  rcases h with h|h|h|h|h|h|h|h|h<;>simp[bu,h,eX,Bool.and_comm]
 refine bJ.aZ mix MI (by simp) ?_
 rw[O5]
 simp+contextual only[go_sem]
 rw[hn]
theorem Uv(s:aO)(t:Tm)(hs:s.Fits)(h:t.op=3):bJ Tryz.prog 120 [s.d,t.d] (.ret [.bool (bu s t)]):=by
 have hn:bu s t=(eX t.n 0 (s.cons.length - 1)&&(t.kids.length:Int)==jM s.cons t.n):=by simp[bu,h]
 refine bJ.aZ mix ME (by simp) ?_
 rw[O1]
 simp+contextual only[go_sem]
 rw[wrap64 (by have:=hs.lc;omega) (by have:=hs.lc;omega)]
 refine bZ (eV _ _ _) rfl ?_
 cases hI:eX t.n 0 (s.cons.length - 1)with
 |false=>
  simp+contextual only[go_sem,hI]
  refine aR (bQ rfl) ?_
  simp+contextual only[go_sem]
  rw[hn,hI];rfl
 |true=>
  obtain⟨h0,x,hx⟩:=nM hI
  simp+contextual only[go_sem,hI,hx,h0]
  refine aR (bQ rfl) ?_
  simp+contextual only[go_sem]
  rw[hn,hI,iu hx];rfl
theorem Uw(s:aO)(t:Tm)(hs:s.Fits)(h:t.op=4):bJ Tryz.prog 121 [s.d,t.d] (.ret [.bool (bu s t)]):=by
 have hn:bu s t=(eX t.n 0 (s.dK.length - 1)&&(t.kids.length:Int)==jM s.dK t.n):=by simp[bu,h]
 refine bJ.aZ mix MF (by simp) ?_
 rw[O2]
 simp+contextual only[go_sem]
 rw[wrap64 (by have:=hs.lf;omega) (by have:=hs.lf;omega)]
 refine bZ (eV _ _ _) rfl ?_
 cases hI:eX t.n 0 (s.dK.length - 1)with
 |false=>
  simp+contextual only[go_sem,hI]
  refine aR (bQ rfl) ?_
  simp+contextual only[go_sem]
  rw[hn,hI];rfl
 |true=>
  obtain⟨h0,x,hx⟩:=nM hI
  simp+contextual only[go_sem,hI,hx,h0]
  refine aR (bQ rfl) ?_
  simp+contextual only[go_sem]
  rw[hn,hI,iu hx];rfl
theorem Po(s:aO)(t:Tm)(hs:s.Fits)(h:t.op=5):bJ Tryz.prog 122 [s.d,t.d] (.ret [.bool (bu s t)]):=by
 have hn:bu s t=(eX t.n 0 (s.dK.length - 1)&&decide ((t.kids.length:Int)<jM s.dK t.n)):=by simp[bu,h]
 refine bJ.aZ mix MG (by simp) ?_
 rw[O3]
 simp+contextual only[go_sem]
 rw[wrap64 (by have:=hs.lf;omega) (by have:=hs.lf;omega)]
 refine bZ (eV _ _ _) rfl ?_
 cases hI:eX t.n 0 (s.dK.length - 1)with
 |false=>
  simp+contextual only[go_sem,hI]
  refine aR (bQ rfl) ?_
  simp+contextual only[go_sem]
  rw[hn,hI];rfl
 |true=>
  obtain⟨h0,x,hx⟩:=nM hI
  simp+contextual only[go_sem,hI,hx,h0]
  refine aR (bQ rfl) ?_
  simp+contextual only[go_sem]
  rw[hn,hI,iu hx];rfl
@[reducible] def rf (n:Nat):V:= .func (.func n) [] []
@[reducible] def YR:List V:=[.d .a7,rf 118,rf 119,rf 120,rf 121,rf 122, .d .a7, .d .a7,rf 123, .d .a7, .d .a7, .d .a7, .d .a7, .d .a7, .d .a7, .d .a7]
@[reducible] def CU:List V:=[.d .a7,rf 118,rf 119,rf 120,rf 121,rf 122,rf 124,rf 124,rf 123,rf 124,rf 124,rf 124,rf 124,rf 124,rf 124,rf 124]
def D6(k:Nat):List V:=CU.take k++YR.drop k
theorem funcOf{P:Program}{t:TypeId}(h:(match P.underlying t with|some (.func _ _ _)=>true|_=>false)=true):∃a b c,P.underlying t=some (.func a b c):=by
 split at h
 ·exact⟨_,_,_,by assumption⟩
 ·cases h
@[go_sem] theorem YS (o:Nat->ae) (oB:Bool):BQ Tryz.prog o 119 oB (.d .a7) (.d .a7)=some (.d (.bool true)):=by
  obtain⟨a,b,c,h⟩:=funcOf (P:=Tryz.prog) (t:=119) (by kernel_rfl)
  unfold BQ;rw[h]
@[go_sem] theorem YT (o:Nat->ae) (oB:Bool) (f:Fn) (x y:List V):BQ Tryz.prog o 119 oB (.func f x y) (.d .a7)=some (.d (.bool false)):=by
  obtain⟨a,b,c,h⟩:=funcOf (P:=Tryz.prog) (t:=119) (by kernel_rfl)
  unfold BQ;rw[h]
theorem Ko(base:Nat)(h:Nat->ae):vA Tryz.prog 92 [] base h h (.agg CU):=by
 intro o nx hI K X hK
 have hle:=hI.le
 refine dX.aZ mix Tk (by simp) ?_
 rw[YF]
 simp+contextual only[go_sem,Nat.add_assoc,Nat.left_eq_add,Nat.add_eq_left,Nat.add_left_cancel_iff]
 refine aW (fun k:Nat=>⟨bw [.ptr nx 0, .ptr (nx+2) 0, .ab, .ab, .d (.i k)],ak (ak o nx (.row (List.replicate 16 (.d .a7)))) (nx+2) (.row (D6 k)),nx+5⟩)
  (fun k=>k<=16) (fun k=>16 - k) 0 (Nat.zero_le _) ?_ (fun k hk=> ?_)
 ·refine bW.bE _ (by omega) (by omega) ?_ (fun id ax=> ?_) ?_
  ·exact((hI.cW.mono (by omega)).ak (by omega) rfl).ak (by omega) rfl
  ·rw[yo];rfl
  ·(repeat(first|exact aq|refine ai ?_|refine ah rfl ?_|refine ah (aQ (aP (by omega))) ?_|refine aA rfl (by simp[V.refs,V.ag]<;>first|omega|assumption) ?_))
 have hg:∀k,k<16->Good (ak (ak o nx (.row (List.replicate 16 (.d .a7)))) (nx+2) (.row (D6 (k+1)))) (nx+5):=fun k hk=>
  ((hI.cW.mono (by omega)).ak (by omega) rfl).ak (by omega) (by
    rcases(by omega:k=0\/k=1\/k=2\/k=3\/k=4\/k=5\/k=6\/k=7\/k=8\/k=9\/k=10\/k=11\/k=12\/k=13\/k=14\/k=15)with rfl|rfl|rfl|rfl|rfl|rfl|rfl|rfl|rfl|rfl|rfl|rfl|rfl|rfl|rfl|rfl<;>rfl)
 by_cases YU:k=16
 ·subst YU
  simp+contextual only[go_sem,D6,Nat.add_assoc,Nat.left_eq_add,Nat.add_eq_left,Nat.add_left_cancel_iff,List.replicate]
  refine hK _ _ ?_ ⟨?_, ?_,fun id ax=> ?_⟩ (fun id h1 h2=> ?_)
  rotate_left
  ·exact(((hI.cW.mono (by omega)).ak (by omega) rfl).ak (by omega) rfl).ak (by omega) rfl
  ·omega
  ·(repeat(first|rfl|rw[aa]|rw[ad _ _ _ _ (by omega)]))
   exact hI.eq id ax
  ·(repeat(first|rfl|rw[aa]|rw[ad _ _ _ _ (by omega)]))
  ·omega
 ·have hgk:=hg k (by omega)
  obtain⟨k1,Cd⟩:∃k1,k1=k+1:=⟨_,rfl⟩
  rw[<- Cd]at hgk
  rcases(by omega:k=0\/k=1\/k=2\/k=3\/k=4\/k=5\/k=6\/k=7\/k=8\/k=9\/k=10\/k=11\/k=12\/k=13\/k=14\/k=15)with rfl|rfl|rfl|rfl|rfl|rfl|rfl|rfl|rfl|rfl|rfl|rfl|rfl|rfl|rfl|rfl
  all_goals
   simp+contextual only[go_sem,D6,Nat.add_assoc,Nat.left_eq_add,Nat.add_eq_left,Nat.add_left_cancel_iff,List.replicate]
   refine aB k1 (by omega) (by omega) (bW.bE _ (by omega) (by omega) hgk (fun id ax=> ?_) ?_)
   all_goals subst Cd
   ·first|rfl|(rw[yo];rfl)
   ·(repeat(first|exact aq|refine ai ?_|refine ah rfl ?_|refine ah (aQ (aP (by omega))) ?_|refine aA rfl (by simp[V.refs,V.ag]<;>first|omega|assumption) ?_))
end Go.Proofs.YtealblliddhgiaaGreat
namespace Go.Proofs.YtealblliddhgiaaGreat
def H5(n:Int):Nat:=if n=1 then 118 else if n=2 then 119 else if n=3 then 120 else if n=4 then 121 else if n=5 then 122 else if n=8 then 123 else 124
theorem Pp(s:aO)(t:Tm)(hs:s.Fits)(h:eX t.op 1 15=true):bJ Tryz.prog (H5 t.op) [s.d,t.d] (.ret [.bool (bu s t)])/\CU[t.op.toNat]? =some (rf (H5 t.op))/\0<=t.op/\t.op<16:=by
 simp[eX]at h
 rcases(by omega:t.op=1\/t.op=2\/t.op=3\/t.op=4\/t.op=5\/t.op=8\/(t.op=6\/t.op=7\/t.op=9\/t.op=10\/t.op=11\/t.op=12\/t.op=13\/t.op=14\/t.op=15))with h|h|h|h|h|h|h
 ·exact⟨by rw[h];exact CT s t h,by rw[h];rfl,by omega,by omega⟩
 ·exact⟨by rw[h];exact FF s t h,by rw[h];rfl,by omega,by omega⟩
 ·exact⟨by rw[h];exact Uv s t hs h,by rw[h];rfl,by omega,by omega⟩
 ·exact⟨by rw[h];exact Uw s t hs h,by rw[h];rfl,by omega,by omega⟩
 ·exact⟨by rw[h];exact Po s t hs h,by rw[h];rfl,by omega,by omega⟩
 ·exact⟨by rw[h];exact Uu s t h,by rw[h];rfl,by omega,by omega⟩
 ·have hp:=Pn s t h
  rcases h with h|h|h|h|h|h|h|h|h<;>exact⟨by rw[h];exact hp,by rw[h];rfl,by omega,by omega⟩
def nU(s:aO)(n:Int)(x:Tm×Int):Bool:=decide (40<n+1)||decide (12<x.2)|| !eX x.1.op 1 15|| !bu s x.1
def gJ(s:aO)(n:Int×Bool)(x:Tm×Int):Int×Bool:=(n.1+1, !nU s n.1 x)
def fJ(n:Int×Bool):Option kR:=if n.2=true then none else some .ret
def iF(s:aO)(t:Tm):Bool:=(aL (sw fJ (gJ s)) (0,true) (pre t 1)).2
theorem ux(s:aO)(hs:s.Fits)(t:Tm)(hf:t.fits)(hd:t.ck<=900000):bJ Tryz.prog 54 [s.d,t.d] (.ret [.bool (iF s t)]):=by
 refine bJ.aZ mix SW (by simp) ?_
 rw[X4]
 simp+contextual only[go_sem]
 refine bK (Ko 3 _ _ _ (?_:gI 3 (ak (ak (ak (fun _=> .no) 0 (.row s.row)) 1 (.row t.row)) 2 (.row [.d (.bool false)])) _ 3) _ _ fun o2 n2 m1 m2 m3=> ?_)
 ·exact⟨(by repeat(first|exact hg.mono (by omega)|exact Good.nil|refine Good.ak ?_ (by omega) rfl|refine Good.ak ?_ (by omega) (bV _ _ _ (by omega))|refine Good.ak ?_ (by omega) (by simp[ae.refs,V.ag,V.refs]<;>omega))),Nat.le_refl _,fun _ _=>rfl⟩
 have p0:o2 0= .row s.row:=m2.eq 0 (by omega)
 have p1:o2 1= .row t.row:=m2.eq 1 (by omega)
 have p2:o2 2= .row [.d (.bool false)]:=m2.eq 2 (by omega)
 have e0:0≠n2:=by omega
 have e1:1≠n2:=by omega
 have e2:2≠n2:=by omega
 have e3:∀k,0≠n2+k:=fun k=>by omega
 have e4:∀k,1≠n2+k:=fun k=>by omega
 have e5:∀k,2≠n2+k:=fun k=>by omega
 simp+contextual only[go_sem,p0,p1,p2,e0,e1,e2,e3,e4,e5,Nat.add_assoc,Nat.left_eq_add,Nat.add_eq_left,Nat.add_left_cancel_iff]
 refine bK (uw t _ _ _ _ ?_)
 simp+contextual only[go_sem]
 have hG0:∀n,Good (ak (ak (ak (ak (ak (ak o2 n2 (.row (List.replicate 16 (.d .a7)))) (n2+1) (.row [.d (.i 0)])) n2 (.row CU)) (n2+1) (.row [.d (.i 0)])) (n2+5) (.row t.row)) (n2+1) (.row [.d (.i n)])) (n2+9):=fun n=>by
  have hg:=m2.cW
  exact(by repeat(first|exact hg.mono (by omega)|exact Good.nil|refine Good.ak ?_ (by omega) rfl|refine Good.ak ?_ (by omega) (bV _ _ _ (by omega))|refine Good.ak ?_ (by omega) (by simp[ae.refs,V.ag,V.refs]<;>omega)))
 refine nm t hf hd [.ab, .ab, .ptr 0 0, .ab, .ptr 2 0, .ptr n2 0, .ptr (n2+1) 0] ?_ (by decide) rfl ?_ (by simp[V.ag,V.refs];omega) (aa _ _ _)
  (fun s=>ak (ak (ak (ak (ak (ak o2 n2 (.row (List.replicate 16 (.d .a7)))) (n2+1) (.row [.d (.i 0)])) n2 (.row CU)) (n2+1) (.row [.d (.i 0)])) (n2+5) (.row t.row)) (n2+1) (.row [.d (.i s.1)]))
  fJ (gJ s) (fun s=>0<=s.1/\s.1<=40) (0,true) ⟨by decide,by decide⟩ rfl ?_ ?_ ?_ ?_
 ·(repeat(first|exact qO|refine oQ ?_|refine yg rfl ?_))
 ·have hg:=m2.cW
  exact(by repeat(first|exact hg.mono (by omega)|exact Good.nil|refine Good.ak ?_ (by omega) rfl|refine Good.ak ?_ (by omega) (bV _ _ _ (by omega))|refine Good.ak ?_ (by omega) (by simp[ae.refs,V.ag,V.refs]<;>omega)))
 ·intro id ax
  by_cases h:id=n2+1
  ·subst h;(repeat(first|rfl|rw[aa]|rw[ad _ _ _ _ (by omega)]))
  ·rw[ad _ _ _ _ h];rfl
 ·intro x hx s' h1 h2 h3
  have:nU s s'.1 x=false:=by simpa[fJ,gJ]using h3
  simp[nU]at this
  simp only[gJ]
  omega
 ·intro L hL bV x hx s' h1 h2 o3 n3 hI hn ho K X fD
  simp only[ss]
  have hg:=hI.cW
  have q0:o3 0= .row s.row:=by
   rw[hI.eq 0 (by omega)];(repeat(first|rfl|rw[aa]|rw[ad _ _ _ _ (by omega)]))
   exact p0
  have q2:o3 2= .row [.d (.bool false)]:=by
   rw[hI.eq 2 (by omega)];(repeat(first|rfl|rw[aa]|rw[ad _ _ _ _ (by omega)]))
   exact p2
  have q3:o3 n2= .row CU:=by rw[hI.eq n2 (by omega)];(repeat(first|rfl|rw[aa]|rw[ad _ _ _ _ (by omega)]))
  have q4:o3 (n2+1)= .row [.d (.i s'.1)]:=by rw[hI.eq (n2+1) (by omega)];(repeat(first|rfl|rw[aa]|rw[ad _ _ _ _ (by omega)]))
  have fin:∀ (o':Nat->ae) (n':Nat),(∀id,id<n2+5+4->o' id=ak o3 (n2+1) (.row [.d (.i (s'.1+1))]) id)->Good o' n'->n3<=n'->gI (n2+5+4) (ak (ak (ak (ak (ak (ak o2 n2 (.row (List.replicate 16 (.d .a7)))) (n2+1) (.row [.d (.i 0)])) n2 (.row CU)) (n2+1) (.row [.d (.i 0)])) (n2+5) (.row t.row)) (n2+1) (.row [.d (.i (gJ s s' x).1)])) o' n':=by
   intro o' n' k1 k2 k3
   refine⟨k2,by omega,fun id ax=> ?_⟩
   rw[k1 id ax]
   by_cases h:id=n2+1
   ·subst h;rw[aa,aa];rfl
   ·rw[ad _ _ _ _ h,ad _ _ _ _ h,hI.eq id ax,ad _ _ _ _ h]
  simp+contextual only[go_sem]
  refine ur hL (pd:=none) ?_ ?_
  ·(repeat(first|rfl|rw[aa]|rw[ad _ _ _ _ (by omega)]))
   exact ho
  cases c1:decide (40<s'.1+1)with
  |true=>
   have hJ:fJ (gJ s s' x)=some .ret:=by simp[fJ,gJ,nU,c1]
   rw[hJ]at fD
   simp+contextual (disch:=first|omega|simp only[go_sem,false_implies]) only[go_sem,wrap64,if_pos,q0,q2,q3,q4,c1]
   refine aR (bQ rfl) ?_
   simp+contextual (disch:=first|omega|simp only[go_sem,false_implies]) only[go_sem,wrap64,if_pos,q2]
   refine fD _ _ _ .busy none (by omega) (fin _ _ (fun id ax=>(by simp only[ak]<;>((repeat' split)<;>first|rfl|omega|(subst_vars;first|rfl|assumption|(symm;assumption)|omega|(simp_all;done))))) (by repeat(first|exact hg.mono (by omega)|exact Good.nil|refine Good.ak ?_ (by omega) rfl|refine Good.ak ?_ (by omega) (bV _ _ _ (by omega))|refine Good.ak ?_ (by omega) (by simp[ae.refs,V.ag,V.refs]<;>omega))) (by omega)) (by(repeat(first|rfl|rw[aa]|rw[ad _ _ _ _ (by omega)]))) (fun id h3 h4=>by(repeat(first|rfl|rw[aa]|rw[ad _ _ _ _ (by omega)])))
  |false=>
  cases c2:decide (12<x.2)with
  |true=>
   have hJ:fJ (gJ s s' x)=some .ret:=by simp[fJ,gJ,nU,c2]
   rw[hJ]at fD
   simp+contextual (disch:=first|omega|simp only[go_sem,false_implies]) only[go_sem,wrap64,if_pos,q0,q2,q3,q4,c1,c2]
   refine aR (bQ rfl) ?_
   simp+contextual (disch:=first|omega|simp only[go_sem,false_implies]) only[go_sem,wrap64,if_pos,q2]
   refine fD _ _ _ .busy none (by omega) (fin _ _ (fun id ax=>(by simp only[ak]<;>((repeat' split)<;>first|rfl|omega|(subst_vars;first|rfl|assumption|(symm;assumption)|omega|(simp_all;done))))) (by repeat(first|exact hg.mono (by omega)|exact Good.nil|refine Good.ak ?_ (by omega) rfl|refine Good.ak ?_ (by omega) (bV _ _ _ (by omega))|refine Good.ak ?_ (by omega) (by simp[ae.refs,V.ag,V.refs]<;>omega))) (by omega)) (by(repeat(first|rfl|rw[aa]|rw[ad _ _ _ _ (by omega)]))) (fun id h3 h4=>by(repeat(first|rfl|rw[aa]|rw[ad _ _ _ _ (by omega)])))
  |false=>
  cases c3:eX x.1.op 1 15 with
  |false=>
   have hJ:fJ (gJ s s' x)=some .ret:=by simp[fJ,gJ,nU,c3]
   rw[hJ]at fD
   simp+contextual (disch:=first|omega|simp only[go_sem,false_implies]) only[go_sem,wrap64,if_pos,q0,q2,q3,q4,c1,c2]
   refine bZ (eV _ _ _) rfl ?_
   simp+contextual (disch:=first|omega|simp only[go_sem,false_implies]) only[go_sem,wrap64,if_pos,q0,q2,q3,q4,c1,c2,c3]
   refine aR (bQ rfl) ?_
   simp+contextual (disch:=first|omega|simp only[go_sem,false_implies]) only[go_sem,wrap64,if_pos,q2]
   refine fD _ _ _ .busy none (by omega) (fin _ _ (fun id ax=>(by simp only[ak]<;>((repeat' split)<;>first|rfl|omega|(subst_vars;first|rfl|assumption|(symm;assumption)|omega|(simp_all;done))))) (by repeat(first|exact hg.mono (by omega)|exact Good.nil|refine Good.ak ?_ (by omega) rfl|refine Good.ak ?_ (by omega) (bV _ _ _ (by omega))|refine Good.ak ?_ (by omega) (by simp[ae.refs,V.ag,V.refs]<;>omega))) (by omega)) (by(repeat(first|rfl|rw[aa]|rw[ad _ _ _ _ (by omega)]))) (fun id h3 h4=>by(repeat(first|rfl|rw[aa]|rw[ad _ _ _ _ (by omega)])))
  |true=>
  obtain⟨r1,r2,r3,r4⟩:=Pp s x.1 hs c3
  simp+contextual (disch:=first|omega|simp only[go_sem,false_implies]) only[go_sem,wrap64,if_pos,q0,q2,q3,q4,c1,c2]
  refine bZ (eV _ _ _) rfl ?_
  simp+contextual (disch:=first|omega|simp only[go_sem,false_implies]) only[go_sem,wrap64,if_pos,q0,q2,q3,q4,c1,c2,c3,r2,r3,r4,Nat.mul_one]
  refine bZ r1 rfl ?_
  simp+contextual (disch:=first|omega|simp only[go_sem,false_implies]) only[go_sem,wrap64,if_pos,q0,q2,q3,q4,c1,c2,c3]
  refine aR (bQ rfl) ?_
  cases c4:bu s x.1 with
  |false=>
   have hJ:fJ (gJ s s' x)=some .ret:=by simp[fJ,gJ,nU,c4]
   rw[hJ]at fD
   simp+contextual (disch:=first|omega|simp only[go_sem,false_implies]) only[go_sem,wrap64,if_pos,q2,c4]
   refine fD _ _ _ .busy none (by omega) (fin _ _ (fun id ax=>(by simp only[ak]<;>((repeat' split)<;>first|rfl|omega|(subst_vars;first|rfl|assumption|(symm;assumption)|omega|(simp_all;done))))) (by repeat(first|exact hg.mono (by omega)|exact Good.nil|refine Good.ak ?_ (by omega) rfl|refine Good.ak ?_ (by omega) (bV _ _ _ (by omega))|refine Good.ak ?_ (by omega) (by simp[ae.refs,V.ag,V.refs]<;>omega))) (by omega)) (by(repeat(first|rfl|rw[aa]|rw[ad _ _ _ _ (by omega)]))) (fun id h3 h4=>by(repeat(first|rfl|rw[aa]|rw[ad _ _ _ _ (by omega)])))
  |true=>
   have hJ:fJ (gJ s s' x)=none:=by simp[fJ,gJ,nU,c1,c2,c3,c4]
   rw[hJ]at fD
   simp+contextual (disch:=first|omega|simp only[go_sem,false_implies]) only[go_sem,wrap64,if_pos,c4]
   refine fD _ _ _ .busy none (by omega) (fin _ _ (fun id ax=>(by simp only[ak]<;>((repeat' split)<;>first|rfl|omega|(subst_vars;first|rfl|assumption|(symm;assumption)|omega|(simp_all;done))))) (by repeat(first|exact hg.mono (by omega)|exact Good.nil|refine Good.ak ?_ (by omega) rfl|refine Good.ak ?_ (by omega) (bV _ _ _ (by omega))|refine Good.ak ?_ (by omega) (by simp[ae.refs,V.ag,V.refs]<;>omega))) (by omega)) (by(repeat(first|rfl|rw[aa]|rw[ad _ _ _ _ (by omega)]))) (fun id h3 h4=>by(repeat(first|rfl|rw[aa]|rw[ad _ _ _ _ (by omega)])))
 ·intro o' n' hI
  have q2:o' 2= .row [.d (.bool false)]:=by
   rw[hI.eq 2 (by omega)];(repeat(first|rfl|rw[aa]|rw[ad _ _ _ _ (by omega)]))
   exact p2
  rw[show iF s t=(fJ (aL (sw fJ (gJ s)) (0,true) (pre t 1)).1).isNone from yr _ _ _ _ rfl]
  generalize (aL (sw fJ (gJ s)) (0,true) (pre t 1)).1=sf at*
  cases hj:fJ sf with
  |none=>
   simp only[vu]
   simp+contextual (disch:=first|omega|simp only[go_sem,false_implies]) only[go_sem,wrap64,if_pos,q2]
   rfl
  |some j=>
   have:j= .ret:=by
    unfold fJ at hj;split at hj
    ·cases hj
    ·injection hj with hj;exact hj.symm
   subst this
   simp only[vu]
   simp+contextual (disch:=first|omega|simp only[go_sem,false_implies]) only[go_sem,wrap64,if_pos,q2]
   rfl
end Go.Proofs.YtealblliddhgiaaGreat
namespace Go.Proofs.YtealblliddhgiaaGreat
def enc{κ:Type}(kf:κ->D)(m:List (κ×D)):List (D×D):=m.map fun p=>(kf p.1,p.2)
def iP{κ:Type}[BEq κ](k:κ):List (κ×D)->Nat->Option (Nat×D)
 |[],_=>none
 |p::m,i=>if(k==p.1)=true then some (i,p.2)else iP k m (i+1)
def FG{κ:Type}[BEq κ](k:κ)(x:D)(m:List (κ×D)):List (κ×D):=match iP k m 0 with|some (i,_)=>m.set i (k,x)|none=>m++[(k,x)]
def Ux{κ:Type}[BEq κ](k:κ)(m:List (κ×D)):List (κ×D):=match iP k m 0 with|some (i,_)=>m.eraseIdx i|none=>m
def vB(d:D)(r:Option (Nat×D)):Option (Nat×D×D):=match r with|some (i,x)=>some (i,d,x)|none=>none
@[go_sem] theorem QK (d:D) (i:Nat) (x:D):vB d (some (i,x))=some (i,d,x):=rfl
@[go_sem] theorem QL (d:D):vB d none=none:=rfl
section
variable {P:Program}{kt:TypeId}
theorem Kp(h:bg P kt=some .int)(a b:Int):qm P 100 kt (.int .i64 a) (.int .i64 b)=some (a==b):=by simp[qm,h]
theorem Kq(h:bg P kt=some .str)(a b:List UInt8):qm P 100 kt (.str a) (.str b)=some (a==b):=by simp[qm,h]
@[go_sem] theorem D7 (h:bg P kt=some .int) (a:Int):nQ P 100 kt (.int .i64 a)=true:=by simp[nQ,h]
@[go_sem] theorem VU (h:bg P kt=some .str) (a:List UInt8):nQ P 100 kt (.str a)=true:=by simp[nQ,h]
theorem uy{κ:Type}[BEq κ][LawfulBEq κ](kf:κ->D)(he:∀a b,qm P 100 kt (kf a) (kf b)=some (a==b))(k:κ):∀ (m:List (κ×D)) (i:Nat),findD P kt (kf k) (enc kf m) i=some (vB (kf k) (iP k m i))
 |[],_=>rfl
 |p::m,i=>by
  have ih:=uy kf he k m (i+1)
  simp only[enc,List.map_cons,findD,he,iP]at ih|-
  by_cases h:k=p.1
  ·subst h;simp[vB]
  ·have:(k==p.1)=false:=by simpa using h
   simp only[this,Bool.false_eq_true,if_false];exact ih
@[go_sem] theorem A4 (h:bg P kt=some .int) (k:Int) (m:List (Int×D)):findD P kt (.int .i64 k) (enc (.int .i64) m) 0=some (vB (.int .i64 k) (iP k m 0)):=uy (.int .i64) (Kp h) k m 0
@[go_sem] theorem Uy (h:bg P kt=some .str) (k:List UInt8) (m:List (List UInt8×D)):findD P kt (.str k) (enc .str m) 0=some (vB (.str k) (iP k m 0)):=uy .str (Kq h) k m 0
end
section
variable {κ:Type}(kf:κ->D)
theorem H6(m:List (κ×D))(k:κ)(x:D):enc kf m++[(kf k,x)]=enc kf (m++[(k,x)]):=by simp[enc]
theorem D8(m:List (κ×D))(i:Nat)(k:κ)(x:D):(enc kf m).set i (kf k,x)=enc kf (m.set i (k,x)):=by simp[enc,List.map_set]
theorem qR:∀ (m:List (κ×D)) (i:Nat),(enc kf m).eraseIdx i=enc kf (m.eraseIdx i)
 |[],i=>rfl
 |p::m,0=>rfl
 |p::m,i+1=>by
  have:=qR m i
  simp only[enc,List.map_cons,List.eraseIdx_cons_succ]at this|-
  rw[this]
theorem Kr(m:List (κ×D)):(((enc kf m).map (·.1)).zip ((enc kf m).map (·.2)))=enc kf m:=by
 induction m with
 |nil=>rfl
 |cons p m ih=>simp only[enc,List.map_cons,List.zip_cons_cons]at ih|-;rw[ih]
theorem wT{K:V->List (Nat×ae)->Prop}{id:Nat}{m:List (κ×D)}(h0:m=[]->K (.bS [.d (.bool false)]) [])
 (h1:∀ (i:Nat) k x,m[i]? =some (k,x)->K (.bS [.d (.bool true), .d (kf k), .d x]) [(id, .kW (enc kf (m.eraseIdx i)) (some (kf k,x)))]):Aj K id (enc kf m):=by
 refine⟨fun h=>h0 ?_,fun i k x h=> ?_⟩
 ·cases m with
  |nil=>rfl
  |cons p m=>simp[enc]at h
 ·simp only[enc,List.getElem?_map]at h
  cases hm:m[i]? with
  |none=>rw[hm]at h;cases h
  |some p=>
   rw[hm]at h
   simp at h
   obtain⟨rfl,rfl⟩:=h
   have:=h1 i p.1 p.2 (by rw[hm])
   rwa [<- qR]at this
end
theorem A5{κ:Type}[BEq κ][LawfulBEq κ]{k:κ}:∀ {m:List (κ×D)} {i j:Nat} {x:D},iP k m i=some (j,x)->i<=j/\m[j - i]? =some (k,x)
 |[],_,_,_,h=>by cases h
 |p::m,i,j,x,h=>by
  simp only[iP]at h
  split at h
  ·rename_i hk
   injection h with h;injection h with h1 h2
   subst h1;subst h2
   exact⟨Nat.le_refl _,by simp[(by simpa using hk:k=p.1)]⟩
  ·obtain⟨h1,h2⟩:=A5 h
   refine⟨by omega, ?_⟩
   rw[show j - i=(j - (i+1))+1 by omega]
   simpa using h2
theorem wV{κ:Type}[BEq κ][LawfulBEq κ]{k:κ}:∀ {m:List (κ×D)} {i:Nat},iP k m i=none↔∀p∈m,p.1≠k
 |[],_=>by simp[iP]
 |p::m,i=>by
  simp only[iP]
  split
  ·rename_i hk
   simp[(by simpa using hk:k=p.1)]
  ·rename_i hk
   rw[wV]
   have:p.1≠k:=fun e=>hk (by simp[e])
   simp[this]
def p9(P:Program)(o:Nat->ae)(t:TypeId)(m k v:V):Option gz:=
 match oC P t,dO o k,dO o v,nX o m with
 |some (kt,_),some kd,some vd,some (some (id,BH,BI),l)=>if k.ids=[]/\nQ P 100 kt kd=true/\kE kd=true/\v.ids.all (· !=id)=true then match findD P kt kd l 0 with
  |some (some (i,k',_))=>if k'.same kd=true then some (.bS [],cQ o v.ids++[(id, .map BH BI (l.set i (kd,vd)))],id::v.ids)else none
  |some none=>some (.bS [],cQ o v.ids++[(id, .map BH BI (l++[(kd,vd)]))],id::v.ids)
  |none=>none
  else none
 |_,_,_,_=>none
@[go_sem low] theorem wW (P:Program) (o:Nat->ae) (t:TypeId) (m v:V) (k:D):fI P o t m (.d k) v=p9 P o t m (.d k) v:=by unfold fI p9;rfl
def uz(P:Program)(o:Nat->ae)(t:TypeId)(m k:V)(ok:Bool):Option gz:=
 match oC P t,dO o k,pq o m with
 |some (kt,vt),some kd,some (rd,l)=>if k.ids=[]/\nQ P 100 kt kd=true then match findD P kt kd l 0 with
  |some (some (_,_,x))=>some (if ok=true then .bS [.d x, .d (.bool true)]else .d x,[],rd)
  |some none=>match zeroV P vt with
   |some z=>some (if ok=true then .bS [z, .d (.bool false)]else z,[],rd)
   |none=>none
  |none=>none
  else none
 |_,_,_=>none
@[go_sem low] theorem nN (P:Program) (o:Nat->ae) (t:TypeId) (m:V) (k:D) (ok:Bool):iE P o t m (.d k) ok=uz P o t m (.d k) ok:=by unfold iE uz;rfl
attribute [go_sem] uz p9 nF mG mH nY nZ mI pq nX Wb nW kE D.same
end Go.Proofs.YtealblliddhgiaaGreat
namespace Go.Proofs.YtealblliddhgiaaGreat
theorem dec_lt{l:List UInt8}{i:Nat}{b:UInt8}(hb:l[i]? =some b)(h:b.toNat<128):Utf8.decode ⟨⟨l⟩⟩ i=(b.toNat,1):=by
 have e:(ByteArray.mk ⟨l⟩).get! i=b:=by
  show(Array.mk l)[i]! =b
  simp[hb]
 simp only[Utf8.decode,Nat.add_zero,e]
 rw[if_pos h]
theorem Pq{l:List UInt8}{i:Nat}{b:UInt8}(hb:l[i]? =some b)(h:128<=b.toNat):128<=(Utf8.decode ⟨⟨l⟩⟩ i).1:=by
 have e:(ByteArray.mk ⟨l⟩).get! i=b:=by
  show(Array.mk l)[i]! =b
  simp[hb]
 simp only[Utf8.decode,Nat.add_zero,e]
 rw[if_neg (by omega)]
 split
 ·split<;>simp_all[Utf8.runeError]
 ·split
  ·split
   ·rename_i h3;simp at h3;omega
   ·simp[Utf8.runeError]
  ·split
   ·split
    ·rename_i h3;simp at h3;omega
    ·simp[Utf8.runeError]
   ·simp[Utf8.runeError]
def Ks(r:Int):Bool:=decide (97<=r)&&decide (r<=122)||decide (65<=r)&&decide (r<=90)
theorem H7(b:UInt8):Ks b.toNat=letterF b:=by
 rw[Bool.eq_iff_iff]
 simp[Ks,letterF]
theorem FH(s:List UInt8)(hs:s.length<=9223372036854775807):bJ Tryz.prog 78 [.str s] (.ret [.bool (jL s)]):=by
 refine bJ.aZ mix S9 (by simp) ?_
 rw[Ys]
 simp+contextual (disch:=first|omega|simp only[go_sem,false_implies]) only[go_sem,wrap64,if_pos,Nat.add_assoc,Nat.left_eq_add,Nat.add_eq_left,Nat.add_left_cancel_iff]
 refine aW (fun k:Nat=>⟨bw [.d (.str s), .ab, .ab, .ab, .ab, .ab, .ptr 2 0],ak (fun _=> .no) 2 (.sY s k),3⟩)
  (fun k=>k<=s.length/\(s.take k).all letterF=true) (fun k=>s.length - k) 0 ⟨Nat.zero_le _,by simp⟩ (bW.bE _ (by omega) (by omega) (Good.nil.ak (by omega) rfl) (fun _ _=>rfl) ?_) (fun k hk=> ?_)
 ·(repeat(first|exact aq|refine ai ?_|refine ah rfl ?_|refine ah (aQ (aP (by omega))) ?_|refine aA rfl (by simp[V.refs,V.ag]<;>first|omega|assumption) ?_))
 by_cases h2:k<s.length
 ·obtain⟨b,hb⟩:=aX h2
  by_cases h3:b.toNat<128
  ·simp+contextual (disch:=first|omega|simp only[go_sem,false_implies]) only[go_sem,wrap64,if_pos,Nat.add_assoc,Nat.left_eq_add,Nat.add_eq_left,Nat.add_left_cancel_iff,h2,dec_lt hb h3]
   have hr:=H7 b
   simp only[Ks]at hr
   rw[hr]
   cases hl:letterF b with
   |true=>
    simp+contextual (disch:=first|omega|simp only[go_sem,false_implies]) only[go_sem,wrap64,if_pos,and_self]
    refine aB (k+1) ⟨h2,jQ hb hk.2 hl⟩ (by omega) (bW.bE _ (by omega) (by omega) (Good.nil.ak (by omega) rfl) (fun _ _=>by rw[yo]) ?_)
    (repeat(first|exact aq|refine ai ?_|refine ah rfl ?_|refine ah (aQ (aP (by omega))) ?_|refine aA rfl (by simp[V.refs,V.ag]<;>first|omega|assumption) ?_))
   |false=>
    simp+contextual (disch:=first|omega|simp only[go_sem,false_implies]) only[go_sem,wrap64,if_pos,and_self]
    simp[jL,iO hb hl]
  ·have hr:letterF b=false:=by
    rw[<- H7];simp[Ks];omega
   have hd:=Pq hb (by omega)
   simp+contextual (disch:=first|omega|simp only[go_sem,false_implies]) only[go_sem,wrap64,if_pos,Nat.add_assoc,Nat.left_eq_add,Nat.add_eq_left,Nat.add_left_cancel_iff,h2]
   have:(decide (97<=((Utf8.decode ⟨⟨s⟩⟩ k).1:Int))&&decide (((Utf8.decode ⟨⟨s⟩⟩ k).1:Int)<=122)||decide (65<=((Utf8.decode ⟨⟨s⟩⟩ k).1:Int))&&decide (((Utf8.decode ⟨⟨s⟩⟩ k).1:Int)<=90))=false:=by
    rw[Bool.eq_false_iff];intro h;simp at h;omega
   rw[this]
   simp+contextual (disch:=first|omega|simp only[go_sem,false_implies]) only[go_sem,wrap64,if_pos,and_self]
   simp[jL,iO hb hr]
 ·simp+contextual (disch:=first|omega|simp only[go_sem,false_implies]) only[go_sem,wrap64,if_pos,Nat.add_assoc,Nat.left_eq_add,Nat.add_eq_left,Nat.add_left_cancel_iff,h2]
  refine aw (eV _ _ _) rfl ?_
  simp+contextual (disch:=first|omega|simp only[go_sem,false_implies]) only[go_sem,wrap64,if_pos,and_self]
  rw[jL,jR hk.2 (by omega),Bool.true_and]
theorem A6{σ:Type}(l:List pb)(hl:l.length<=9223372036854775807)(g:Nat)(b7:List V)(base:Nat)(H:σ->Nat->ae)(step:σ->pb->σ×Bool)(hc:∀r∈V.ag b7,r<base)(ok:σ->Prop)(bA:∀x∈l,∀s,ok s->(step s x).2=true->ok (step s x).1)
 (h:∀x∈l,∀s,ok s->vA Tryz.prog g (.d x.d::b7) base (H s) (H (step s x).1) (.d (.bool (step s x).2))) (s:σ) (rD:ok s):
 vA Tryz.prog 80 [.d (.sl (l.map pb.d)), .func (.func g) [] b7] base (H s) (H (aL step s l).1) (.d (.bool (aL step s l).2)):=by
 intro o nx hI K X hK
 have xo:∀r∈V.ag b7,r<nx:=fun r hr=>Nat.lt_of_lt_of_le (hc r hr) hI.le
 refine dX.aZ mix Tb (by simp) ?_
 rw[Yu]
 simp+contextual only[go_sem]
 refine aW (fun i:Nat×σ×(Nat->ae)×Nat=>⟨bw [.ab, .func (.func g) [] b7, .ab, .ab, .ab, .ab, .ab, .d (.sl (l.map pb.d)), .d (.i l.length), .d (.i i.1)],i.2.2.1,i.2.2.2⟩)
  (fun i=>i.1<=l.length/\gI base (H i.2.1) i.2.2.1 i.2.2.2/\nx<=i.2.2.2/\(∀id,base<=id->id<nx->i.2.2.1 id=o id)/\aL step s l=aL step i.2.1 (l.drop i.1)/\ok i.2.1) (fun i=>l.length - i.1) (0,s,o,nx)
  ⟨Nat.zero_le _,hI,Nat.le_refl _,fun _ _ _=>rfl,rfl,rD⟩ ?_ ?_
 ·dsimp only
  refine bW.bE _ (Nat.le_refl _) (by omega) hI.cW (fun _ _=>rfl) ?_
  (repeat(first|exact aq|refine ai ?_|refine ah rfl ?_|refine ah (aQ (aP (by omega))) ?_|refine aA rfl (by simp[V.refs,V.ag]<;>first|omega|assumption) ?_))
 rintro⟨k,s',o',nx'⟩ ⟨hk,D5,hn,cS,hf,uv⟩
 simp only at hk D5 hn cS hf uv
 simp+contextual only[go_sem]
 refine ay (fun h1=> ?_) (fun h1=> ?_)
 ·simp at h1
  obtain⟨x,hx⟩:=aX h1
  have kx:=List.mem_of_getElem? hx
  have hd:l.drop k=x::l.drop (k+1):=by
   rw[List.drop_eq_getElem_cons h1]
   rw[List.getElem?_eq_getElem h1]at hx;injection hx with hx;rw[hx]
  simp+contextual only[go_sem,hx,Nat.add_assoc,Nat.left_eq_add,Nat.add_eq_left,Nat.add_left_cancel_iff]
  have Vu:=D5.le
  refine iK (h x kx s' uv _ _ (?_:gI base (H s') _ (nx'+7)) _ _ fun o2 n2 m1 m2 m3=> ?_)
  ·exact(D5.ak (i:=nx'+3) (m:=nx'+7) (by omega) (by omega) (by omega) rfl).ak (by omega) (by omega) (by omega) rfl
  have A2:∀id,base<=id->id<nx->o2 id=o id:=fun id h2 h3=>by
   rw[m3 id h2 (by omega),ad _ _ _ _ (by omega),ad _ _ _ _ (by omega),cS id h2 h3]
  simp+contextual only[go_sem]
  refine ay (fun h2=> ?_) (fun h2=> ?_)
  ·simp+contextual only[go_sem]
   simp at h2
   have:aL step s l=((step s' x).1,false):=by rw[hf,hd,aL,if_neg (by rw[h2];exact Bool.false_ne_true)]
   rw[this]at hK
   exact hK _ _ (by omega) (m2.mono (by omega)) A2
  ·simp+contextual only[go_sem]
   simp at h2
   have:aL step s l=aL step (step s' x).1 (l.drop (k+1)):=by rw[hf,hd,aL,if_pos h2]
   refine aB (k+1,(step s' x).1,o2,n2) ⟨h1,m2,by dsimp only;omega,A2,this,bA x kx s' uv h2⟩ (by dsimp only;omega) ?_
   dsimp only
   have MM:∀r∈V.ag b7,r<n2:=fun r hr=>by have:=xo r hr;omega
   refine bW.bE _ (by omega) (by omega) m2.cW (fun _ _=>rfl) ?_
   (repeat(first|exact aq|refine ai ?_|refine ah rfl ?_|refine ah (aQ (aP (by omega))) ?_|refine aA rfl (by simp[V.refs,V.ag]<;>first|omega|assumption) ?_))
 ·simp+contextual only[go_sem]
  simp at h1
  rw[List.drop_eq_nil_of_le h1]at hf
  simp only[aL]at hf
  rw[hf]at hK
  exact hK _ _ (by omega) (D5.mono (by omega)) cS
def oS(l:List (List UInt8)):List (List UInt8×D):=l.map fun s=>(s, .bool true)
theorem FI(l:List (List UInt8))(s:List UInt8):oS l++[(s, .bool true)]=oS (l++[s]):=by simp[oS]
theorem FJ{l:List (List UInt8)}{s:List UInt8}{i:Nat}{x:D}(h:iP s (oS l) 0=some (i,x)):x= .bool true/\(oS l).set i (s, .bool true)=oS l/\l.any (· ==s)=true:=by
 obtain⟨_,h2⟩:=A5 h
 rw[Nat.sub_zero]at h2
 simp only[oS,List.getElem?_map]at h2
 cases hl:l[i]? with
 |none=>rw[hl]at h2;cases h2
 |some y=>
  rw[hl]at h2
  simp at h2
  obtain⟨rfl,rfl⟩:=h2
  refine⟨rfl, ?_, ?_⟩
  ·apply List.ext_getElem?
   intro j
   rw[List.getElem?_set]
   split
   ·rename_i e;subst e
    obtain⟨bC,hy⟩:=List.getElem?_eq_some_iff.1 hl
    simp[oS,bC,hy]
   ·rfl
  ·exact List.any_eq_true.2 ⟨y,List.mem_of_getElem? hl,by simp⟩
theorem FK{l:List (List UInt8)}{s:List UInt8}(h:iP s (oS l) 0=none):l.any (· ==s)=false:=by
 rw[wV]at h
 rw[List.any_eq_false]
 intro x hx hs
 have:=h (x, .bool true) (by simp[oS];exact hx)
 simp at hs;exact this hs
def Ku(bs:List (List UInt8))(x:pb):Bool:= !bs.any (· ==x.name)&&jL x.name&&eX x.args 0 4
def iy(bs:List (List UInt8))(x:pb):List (List UInt8)×Bool:=(if bs.any (· ==x.name)=true then bs else bs++[x.name],Ku bs x)
theorem Pr(x:pb)(hx:x.name.length<=9223372036854775807)(base mp id:Nat)(h:Nat->ae)(hmp:h mp= .row [.mp id])(h1:mp<base)(h2:id<base)(h3:id≠mp)(bs:List (List UInt8)):
 vA Tryz.prog 77 [.d x.d, .ptr mp 0] base (ak h id (.map 9 4 (enc .str (oS bs)))) (ak h id (.map 9 4 (enc .str (oS (iy bs x).1)))) (.d (.bool (iy bs x).2)):=by
 intro o nx hI K X hK
 have hle:=hI.le
 have hg:=hI.cW
 have q0:o mp= .row [.mp id]:=by rw[hI.eq mp h1,ad _ _ _ _ (by omega),hmp]
 have q1:o id= .map 9 4 (enc .str (oS bs)):=by rw[hI.eq id h2,aa]
 refine dX.aZ mix S8 (by simp) ?_
 rw[Yr]
 cases ha:iP x.name (oS bs) 0 with
 |none=>
  have hn:=FK ha
  have hs:iy bs x=(bs++[x.name],jL x.name&&eX x.args 0 4):=by simp[iy,Ku,hn]
  rw[hs]at hK
  simp+contextual (disch:=first|omega|simp only[go_sem,false_implies]) only[go_sem,wrap64,if_pos,q0,q1,ha]
  refine aw (FH _ hx) rfl ?_
  simp+contextual (disch:=first|omega|simp only[go_sem,false_implies]) only[go_sem,wrap64,if_pos,and_self]
  refine eU (dR [.bool (eX x.args 0 4)] ?_ ?_)
  ·simp+contextual (disch:=first|omega|simp only[go_sem,false_implies]) only[go_sem,wrap64,if_pos,and_self]
   exact fun _=>eV _ _ _
  simp+contextual (disch:=first|omega|simp only[go_sem,false_implies]) only[go_sem,wrap64,if_pos,and_self]
  rw[H6,FI]
  refine hK _ _ (by omega) ⟨(by repeat(first|exact hg.mono (by omega)|exact Good.nil|refine Good.ak ?_ (by omega) rfl|refine Good.ak ?_ (by omega) (bV _ _ _ (by omega))|refine Good.ak ?_ (by omega) (by simp[ae.refs,V.ag,V.refs]<;>omega))),by omega,fun j hj=> ?_⟩ (fun j g1 g2=>by(repeat(first|rfl|rw[aa]|rw[ad _ _ _ _ (by omega)])))
  ·by_cases e:j=id
   ·subst e;(repeat(first|rfl|rw[aa]|rw[ad _ _ _ _ (by omega)]))
   ·rw[ad _ _ _ _ e,ad _ _ _ _ e,ad _ _ _ _ (by omega),hI.eq j hj,ad _ _ _ _ e]
 |some p=>
  obtain⟨i,y⟩:=p
  obtain⟨rfl,e1,hn⟩:=FJ ha
  have hs:iy bs x=(bs,false):=by simp[iy,Ku,hn]
  rw[hs]at hK
  simp+contextual (disch:=first|omega|simp only[go_sem,false_implies]) only[go_sem,wrap64,if_pos,q0,q1,ha]
  rw[D8,e1]
  refine hK _ _ (by omega) ⟨(by repeat(first|exact hg.mono (by omega)|exact Good.nil|refine Good.ak ?_ (by omega) rfl|refine Good.ak ?_ (by omega) (bV _ _ _ (by omega))|refine Good.ak ?_ (by omega) (by simp[ae.refs,V.ag,V.refs]<;>omega))),by omega,fun j hj=> ?_⟩ (fun j g1 g2=>by(repeat(first|rfl|rw[aa]|rw[ad _ _ _ _ (by omega)])))
  ·by_cases e:j=id
   ·subst e;(repeat(first|rfl|rw[aa]|rw[ad _ _ _ _ (by omega)]))
   ·rw[ad _ _ _ _ e,ad _ _ _ _ e,ad _ _ _ _ (by omega),hI.eq j hj,ad _ _ _ _ e]
theorem oT:∀ (l:List pb) (bs:List (List UInt8)),match cu l bs with|some B=>aL iy bs l=(B,true)|none=>(aL iy bs l).2=false
 |[],bs=>rfl
 |x::l,bs=>by
  have ih:=oT l (bs++[x.name])
  simp only[cu,aL,iy,Ku]
  by_cases h1:bs.any (· ==x.name)=true
  ·simp[h1]
  ·simp only[Bool.not_eq_true]at h1
   simp only[h1,Bool.false_eq_true,if_false,Bool.not_false,Bool.true_and]
   by_cases h2:(jL x.name&&eX x.args 0 4)=true
   ·have h3: ¬ ((!jL x.name|| !eX x.args 0 4)=true):=by simp at h2;simp[h2]
    rw[if_neg h3,if_pos h2]
    exact ih
   ·have h3:(!jL x.name|| !eX x.args 0 4)=true:=by
     cases hn:jL x.name<;>simp_all
    rw[if_pos h3,if_neg h2]
end Go.Proofs.YtealblliddhgiaaGreat
namespace Go.Proofs.YtealblliddhgiaaGreat
def fH(ok:Bool):Int:=if ok=true then 0 else 2
@[reducible] def FL (s:aO) (bs:List (List UInt8)):Nat->ae:=ak (ak (ak (fun _=> .no) 0 (.row s.row)) 3 (.row [.mp 2])) 2 (.map 9 4 (enc .str (oS bs)))
theorem CV(s:aO)(hs:s.Fits):bJ Tryz.prog 38 [s.d] (.ret [.i (fH (nT s))]):=by
 refine bJ.aZ mix SO (by simp) ?_
 rw[XN]
 simp+contextual (disch:=first|omega|simp only[go_sem,false_implies]) only[go_sem,wrap64,if_pos,Nat.add_assoc,Nat.left_eq_add,Nat.add_eq_left,Nat.add_left_cancel_iff]
 refine aw (eV _ _ _) rfl ?_
 simp+contextual (disch:=first|omega|simp only[go_sem,false_implies]) only[go_sem,wrap64,if_pos,Nat.add_assoc,Nat.left_eq_add,Nat.add_eq_left,Nat.add_left_cancel_iff]
 cases h1:(!eX s.cons.length 2 12||decide (8<(s.dK.length:Int)))with
 |true=>
  have:nT s=false:=by simp only[nT,h1,if_true]
  simp+contextual (disch:=first|omega|simp only[go_sem,false_implies]) only[go_sem,wrap64,if_pos,h1]
  simp[this,fH]
 |false=>
  have LL:=oT s.cons []
  have Uz:∀ (l:List pb),(∀x∈l,x.name.length<=9223372036854775807)->∀x∈l,∀bs,True->vA Tryz.prog 77 (.d x.d::[.ptr 3 0]) 4 (FL s bs) (FL s (iy bs x).1) (.d (.bool (iy bs x).2)):=fun l hl x hx bs _=>
   Pr x (hl x hx) 4 3 2 (ak (ak (fun _=> .no) 0 (.row s.row)) 3 (.row [.mp 2])) (aa _ _ _) (by omega) (by omega) (by omega) bs
  simp[eX]at h1
  obtain⟨a,b,r,hc⟩:∃a b r,s.cons=a::b::r:=by
   match h:s.cons with
   |[]=>rw[h]at h1;simp at h1
   |[a]=>rw[h]at h1;simp at h1
   |a::b::r=>exact⟨a,b,r,rfl⟩
  have nI:(!eX s.cons.length 2 12||decide (8<(s.dK.length:Int)))=false:=by simp[eX];omega
  have FE:nT s=if(!mA a fB|| !mA b tB)=true then false else match cu s.cons []with
   |none=>false
   |some l=>(cu s.dK l).isSome:=by
   unfold nT
   rw[if_neg (by rw[nI];exact Bool.false_ne_true),hc]
   dsimp only
   rfl
  simp+contextual (disch:=first|omega|simp only[go_sem,false_implies]) only[go_sem,wrap64,if_pos,nI]
  refine dy (A6 s.cons hs.lc 77 [.ptr 3 0] 4 (FL s) iy (by simp[V.ag,V.refs]) (fun _=>True) (fun _ _ _ _ _=>trivial) (Uz s.cons hs.nc) [] trivial _ _ ⟨?_,by omega,fun id ax=> ?_⟩ _ _ fun o2 n2 m1 m2 m3=> ?_)
  ·exact(by repeat(first|exact hg.mono (by omega)|exact Good.nil|refine Good.ak ?_ (by omega) rfl|refine Good.ak ?_ (by omega) (bV _ _ _ (by omega))|refine Good.ak ?_ (by omega) (by simp[ae.refs,V.ag,V.refs]<;>omega)))
  ·rcases(by omega:id=0\/id=1\/id=2\/id=3)with rfl|rfl|rfl|rfl<;>rfl
  have p0:∀ {bs:List (List UInt8)} {o:Nat->ae} {n:Nat},gI 4 (FL s bs) o n->o 0= .row s.row:=fun h=>h.eq 0 (by omega)
  have p3:∀ {bs:List (List UInt8)} {o:Nat->ae} {n:Nat},gI 4 (FL s bs) o n->o 3= .row [.mp 2]:=fun h=>h.eq 3 (by omega)
  cases hn:cu s.cons []with
  |none=>
   rw[hn]at LL
   simp only at LL
   rw[LL]
   simp+contextual (disch:=first|omega|simp only[go_sem,false_implies]) only[go_sem,wrap64,if_pos,Nat.add_assoc,Nat.left_eq_add,Nat.add_eq_left,Nat.add_left_cancel_iff]
   rw[FE,hn]
   split<;>rfl
  |some B=>
   rw[hn]at LL
   simp only at LL
   rw[LL]at m2|-
   simp+contextual (disch:=first|omega|simp only[go_sem,false_implies]) only[go_sem,wrap64,if_pos,Nat.add_assoc,Nat.left_eq_add,Nat.add_eq_left,Nat.add_left_cancel_iff,p0 m2]
   refine dy (A6 s.dK hs.lf 77 [.ptr 3 0] 4 (FL s) iy (by simp[V.ag,V.refs]) (fun _=>True) (fun _ _ _ _ _=>trivial) (Uz s.dK hs.nf) B trivial _ _ (m2.mono (by omega)) _ _ fun o4 n4 k1 k2 k3=> ?_)
   have LM:=oT s.dK B
   cases hf:cu s.dK B with
   |none=>
    rw[hf]at LM
    simp only at LM
    rw[LM]
    simp+contextual (disch:=first|omega|simp only[go_sem,false_implies]) only[go_sem,wrap64,if_pos,Nat.add_assoc,Nat.left_eq_add,Nat.add_eq_left,Nat.add_left_cancel_iff]
    rw[FE,hn]
    simp only[hf]
    split<;>rfl
   |some C=>
    rw[hf]at LM
    simp only at LM
    rw[LM]at k2|-
    simp+contextual (disch:=first|omega|simp only[go_sem,false_implies]) only[go_sem,wrap64,if_pos,Nat.add_assoc,Nat.left_eq_add,Nat.add_eq_left,Nat.add_left_cancel_iff,p0 k2,hc]
    have MN:nT s= !(!mA a fB|| !mA b tB):=by
     rw[FE,hn];simp only[hf]
     cases(!mA a fB|| !mA b tB)<;>rfl
    refine ay (fun h5=> ?_) (fun h5=> ?_)
    ·simp+contextual (disch:=first|omega|simp only[go_sem,false_implies]) only[go_sem,wrap64,if_pos,and_self]
     have Q1:(!mA a fB|| !mA b tB)=true:=h5
     rw[MN,Q1];rfl
    ·simp+contextual (disch:=first|omega|simp only[go_sem,false_implies]) only[go_sem,wrap64,if_pos,and_self]
     have Q1:(!mA a fB|| !mA b tB)=false:=h5
     rw[MN,Q1];rfl
def eW(s:aO)(l:List Tm):Bool:=nT s&&l.all (iF s)
theorem wX{α:Type}(p:α->Bool):∀ (l:List α) (u:Unit),aL (fun _ x=>((),p x)) u l=((),l.all p)
 |[],_=>rfl
 |x::l,u=>by
  simp only[aL,List.all_cons,wX p l]
  cases p x<;>rfl
theorem uA(l:List Tm)(hl:l.length<=9223372036854775807)(g:Nat)(b7:List V)(base:Nat)(h:Nat->ae)(p:Tm->Bool)(hc:∀r∈V.ag b7,r<base)
 (hp:∀x∈l,vA Tryz.prog g (.d x.d::b7) base h h (.d (.bool (p x)))):vA Tryz.prog 87 [.d (.sl (l.map Tm.d)), .func (.func g) [] b7] base h h (.d (.bool (l.all p))):=by
 have:=A1 l hl g b7 base (fun _:Unit=>h) (fun _ x=>((),p x)) hc (fun _=>True) (fun _ _ _ _ _=>trivial) (fun x hx _ _=>hp x hx) () trivial
 simpa only[wX]using this
structure Tm.Fin (t:Tm):Prop where
 fits:t.fits
 ck:t.ck<=900000
theorem H8(s:aO)(hs:s.Fits)(t:Tm)(ht:t.Fin)(base sp:Nat)(h:Nat->ae)(BU:h sp= .row s.row)(hb:sp<base):vA Tryz.prog 88 [.d t.d, .ptr sp 0] base h h (.d (.bool (iF s t))):=by
 intro o nx hI K X hK
 have hle:=hI.le
 have hg:=hI.cW
 have q0:o sp= .row s.row:=by rw[hI.eq sp hb,BU]
 refine dX.aZ mix Tg (by simp) ?_
 rw[YC]
 simp+contextual (disch:=first|omega|simp only[go_sem,false_implies]) only[go_sem,wrap64,if_pos,q0]
 refine aw (ux s hs t ht.fits ht.ck) rfl ?_
 simp+contextual (disch:=first|omega|simp only[go_sem,false_implies]) only[go_sem,wrap64,if_pos,and_self]
 exact hK _ _ (by omega) ⟨(by repeat(first|exact hg.mono (by omega)|exact Good.nil|refine Good.ak ?_ (by omega) rfl|refine Good.ak ?_ (by omega) (bV _ _ _ (by omega))|refine Good.ak ?_ (by omega) (by simp[ae.refs,V.ag,V.refs]<;>omega))),by omega,fun j hj=>by rw[ad _ _ _ _ (by omega),hI.eq j hj]⟩ (fun j g1 g2=>by(repeat(first|rfl|rw[aa]|rw[ad _ _ _ _ (by omega)])))
theorem yu(s:aO)(hs:s.Fits)(l:List Tm)(hl:l.length<=9223372036854775807)(hf:∀t∈l,t.Fin):bJ Tryz.prog 51 [s.d, .sl (l.map Tm.d)] (.ret [.bool (eW s l)]):=by
 refine bJ.aZ mix SR (by simp) ?_
 rw[X1]
 simp+contextual (disch:=first|omega|simp only[go_sem,false_implies]) only[go_sem,wrap64,if_pos,and_self]
 refine aw (CV s hs) rfl ?_
 cases h1:nT s with
 |false=>
  simp+contextual (disch:=first|omega|simp only[go_sem,false_implies]) only[go_sem,wrap64,if_pos,fH]
  simp[eW,h1]
 |true=>
  simp+contextual (disch:=first|omega|simp only[go_sem,false_implies]) only[go_sem,wrap64,if_pos,fH]
  refine dy (uA l hl 88 [.ptr 0 0] 1 (ak (fun _=> .no) 0 (.row s.row)) (iF s) (by simp[V.ag,V.refs]) (fun x hx=>H8 s hs x (hf x hx) 1 0 _ (aa _ _ _) (by omega)) _ _ ⟨(by repeat(first|exact hg.mono (by omega)|exact Good.nil|refine Good.ak ?_ (by omega) rfl|refine Good.ak ?_ (by omega) (bV _ _ _ (by omega))|refine Good.ak ?_ (by omega) (by simp[ae.refs,V.ag,V.refs]<;>omega))),by omega,fun id ax=>rfl⟩ _ _ fun o2 n2 m1 m2 m3=> ?_)
  simp+contextual (disch:=first|omega|simp only[go_sem,false_implies]) only[go_sem,wrap64,if_pos,and_self]
  simp[eW,h1]
end Go.Proofs.YtealblliddhgiaaGreat
namespace Go.Proofs.YtealblliddhgiaaGreat
def qa(x:Tm×Int):Bool:=decide (3<x.1.op)&&x.1.op !=5
def vJ(b:Bool):Option kR:=if b=true then none else some .ret
def qS(t:Tm):Bool:=(aL (sw vJ (fun _ x=> !qa x)) true (pre t 1)).2
theorem FM(t:Tm)(ht:t.Fin):bJ Tryz.prog 82 [t.d] (.ret [.bool (qS t)]):=by
 refine bJ.aZ mix Td (by simp) ?_
 rw[Yw]
 simp+contextual (disch:=first|omega|simp only[go_sem,false_implies]) only[go_sem,wrap64,if_pos,and_self]
 refine bK (uw t _ _ _ _ ?_)
 simp+contextual (disch:=first|omega|simp only[go_sem,false_implies]) only[go_sem,wrap64,if_pos,and_self]
 refine nm t ht.fits ht.ck [.ab, .ab, .ptr 1 0] ?_ (by decide) rfl (by repeat(first|exact hg.mono (by omega)|exact Good.nil|refine Good.ak ?_ (by omega) rfl|refine Good.ak ?_ (by omega) (bV _ _ _ (by omega))|refine Good.ak ?_ (by omega) (by simp[ae.refs,V.ag,V.refs]<;>omega))) (by simp[V.ag,V.refs]) (aa _ _ _)
  (fun _=>ak (ak (ak (fun _=> .no) 0 (.row t.row)) 1 (.row [.d (.bool false)])) 3 (.row t.row)) vJ (fun _ x=> !qa x) (fun _=>True) true trivial rfl (fun id ax=>rfl) (fun _ _ _ _ _ _=>trivial) ?_ ?_
 ·(repeat(first|exact qO|refine oQ ?_|refine yg rfl ?_))
 ·intro L hL bV x hx s' h1 h2 o3 n3 hI hn ho K X fD
  simp only[ss]
  have hg:=hI.cW
  have q1:o3 1= .row [.d (.bool false)]:=hI.eq 1 (by omega)
  simp+contextual (disch:=first|omega|simp only[go_sem,false_implies]) only[go_sem,wrap64,if_pos,and_self]
  refine ur hL (pd:=none) ?_ ?_
  ·(repeat(first|rfl|rw[aa]|rw[ad _ _ _ _ (by omega)]))
   exact ho
  simp+contextual (disch:=first|omega|simp only[go_sem,false_implies]) only[go_sem,wrap64,if_pos,and_self]
  have hv:qa x=(decide (3<x.1.op)&&x.1.op !=5):=rfl
  rw[<- hv]
  cases hb:qa x with
  |true=>
   rw[hb]at fD
   simp+contextual (disch:=first|omega|simp only[go_sem,false_implies]) only[go_sem,wrap64,if_pos,q1]
   refine fD _ _ _ .busy none (by omega) ⟨(by repeat(first|exact hg.mono (by omega)|exact Good.nil|refine Good.ak ?_ (by omega) rfl|refine Good.ak ?_ (by omega) (bV _ _ _ (by omega))|refine Good.ak ?_ (by omega) (by simp[ae.refs,V.ag,V.refs]<;>omega))),by omega,fun id ax=> ?_⟩ (by(repeat(first|rfl|rw[aa]|rw[ad _ _ _ _ (by omega)]))) (fun id h3 h4=>by(repeat(first|rfl|rw[aa]|rw[ad _ _ _ _ (by omega)])))
   by_cases e:id=1
   ·subst e;(repeat(first|rfl|rw[aa]|rw[ad _ _ _ _ (by omega)]))
   ·rw[ad _ _ _ _ e];(repeat(first|rfl|rw[aa]|rw[ad _ _ _ _ (by omega)]))
    exact hI.eq id ax
  |false=>
   rw[hb]at fD
   simp+contextual (disch:=first|omega|simp only[go_sem,false_implies]) only[go_sem,wrap64,if_pos,and_self]
   refine fD _ _ _ .busy none (by omega) ⟨(by repeat(first|exact hg.mono (by omega)|exact Good.nil|refine Good.ak ?_ (by omega) rfl|refine Good.ak ?_ (by omega) (bV _ _ _ (by omega))|refine Good.ak ?_ (by omega) (by simp[ae.refs,V.ag,V.refs]<;>omega))),by omega,fun id ax=> ?_⟩ (by(repeat(first|rfl|rw[aa]|rw[ad _ _ _ _ (by omega)]))) (fun id h3 h4=>by(repeat(first|rfl|rw[aa]|rw[ad _ _ _ _ (by omega)])))
   (repeat(first|rfl|rw[aa]|rw[ad _ _ _ _ (by omega)]))
   exact hI.eq id ax
 ·intro o' n' hI
  have q1:o' 1= .row [.d (.bool false)]:=hI.eq 1 (by omega)
  rw[show qS t=(vJ (aL (sw vJ (fun _ x=> !qa x)) true (pre t 1)).1).isNone from yr _ _ _ _ rfl]
  generalize (aL (sw vJ (fun _ x=> !qa x)) true (pre t 1)).1=sf at*
  cases sf<;>(simp only[vJ,if_true,if_false,Bool.false_eq_true,vu];simp+contextual (disch:=first|omega|simp only[go_sem,false_implies]) only[go_sem,wrap64,if_pos,q1];rfl)
end Go.Proofs.YtealblliddhgiaaGreat
namespace Go.Proofs.YtealblliddhgiaaGreat
def cX(s:aO)(l:List Tm):Bool:=eW s l&&l.all qS
theorem A7(s:aO)(hs:s.Fits)(l:List Tm)(hl:l.length<=9223372036854775807)(hf:∀t∈l,t.Fin):bJ Tryz.prog 60 [s.d, .sl (l.map Tm.d)] (.ret [.bool (cX s l)]):=by
 refine bJ.aZ mix S0 (by simp) ?_
 rw[Ya]
 simp+contextual (disch:=first|omega|simp only[go_sem,false_implies]) only[go_sem,wrap64,if_pos,and_self]
 refine aw (yu s hs l hl hf) rfl ?_
 cases h1:eW s l with
 |false=>
  simp+contextual (disch:=first|omega|simp only[go_sem,false_implies]) only[go_sem,wrap64,if_pos,and_self]
  simp[cX,h1]
 |true=>
  simp+contextual (disch:=first|omega|simp only[go_sem,false_implies]) only[go_sem,wrap64,if_pos,and_self]
  refine dy (uA l hl 82 [] 1 (ak (fun _=> .no) 0 (.row s.row)) qS (by simp[V.ag,V.refs]) (fun x hx=>vA.CO (FM x (hf x hx)) _ _) _ _ ⟨(by repeat(first|exact hg.mono (by omega)|exact Good.nil|refine Good.ak ?_ (by omega) rfl|refine Good.ak ?_ (by omega) (bV _ _ _ (by omega))|refine Good.ak ?_ (by omega) (by simp[ae.refs,V.ag,V.refs]<;>omega))),by omega,fun id ax=>rfl⟩ _ _ fun o2 n2 m1 m2 m3=> ?_)
  simp+contextual (disch:=first|omega|simp only[go_sem,false_implies]) only[go_sem,wrap64,if_pos,and_self]
  simp[cX,h1]
def Tm.A8 (t:Tm):Int:=(pre t 1).length
structure Tm.Ps (t:Tm):Prop extends t.Fin where
 size:t.A8<=1000000
theorem Tm.Fin.mC {t k:Tm}(h:t.Fin)(hk:k∈t.kids):k.Fin:=⟨((Tm.bR _).1 h.fits).2 k hk,by have:=Tm.dv hk;have:=h.ck;omega⟩
theorem rS:∀ (t:Tm) (d d':Int),(pre t d).length=(pre t d').length:=by
 refine Tm.eO fun t ih d d'=> ?_
 rw[l9,l9]
 simp only[List.length_cons,List.length_flatMap]
 congr 2
 exact List.map_congr_left fun k hk=>ih k hk _ _
theorem Tm.wY {t k:Tm}(hk:k∈t.kids):k.A8+1<=t.A8:=by
 simp only[Tm.A8]
 rw[l9 t,rS k 1 (1+1)]
 simp only[List.length_cons,List.length_flatMap]
 have:∀ (l:List Tm),k∈l->(pre k (1+1)).length<=(l.map fun k=>(pre k (1+1)).length).sum:=by
  intro l
  induction l with
  |nil=>intro h;cases h
  |cons x l ih=>
   intro h
   rcases List.mem_cons.1 h with rfl|h
   ·simp only[List.map_cons,List.sum_cons];omega
   ·have:=ih h;simp only[List.map_cons,List.sum_cons];omega
 have:=this _ hk
 omega
theorem Tm.Ps.mC {t k:Tm}(h:t.Ps)(hk:k∈t.kids):k.Ps:=⟨h.toFin.mC hk,by have:=Tm.wY hk;have:=h.size;omega⟩
end Go.Proofs.YtealblliddhgiaaGreat
namespace Go.Proofs.YtealblliddhgiaaGreat
def qb(s:aO)(l:List Tm):Bool:=l.all iZ&&ly s
theorem H9(s:aO)(hs:s.Fits)(l:List Tm)(hl:l.length<=1000000)(hf:∀t∈l,t.fits):bJ Tryz.prog 11 [s.d, .sl (l.map Tm.d)] (.ret [.bool (qb s l)]):=by
 refine bJ.aZ mix SA (by simp) ?_
 rw[Xl]
 simp+contextual (disch:=first|omega|simp only[go_sem,false_implies]) only[go_sem,wrap64,if_pos,and_self]
 refine aW (fun k:Nat=>⟨bw [.ab, .d (.sl (l.map Tm.d)), .ptr 0 0, .ab, .ab, .d (.i k)],nk s.row,1⟩)
  (fun k=>k<=l.length/\(l.take k).all iZ=true) (fun k=>l.length - k) 0 ⟨Nat.zero_le _,by simp⟩ (bW.d1 _ (bN rfl) (by omega) rfl ?_) (fun k hk=> ?_)
 ·(repeat(first|exact aq|refine ai ?_|refine ah rfl ?_|refine ah (aQ (aP (by omega))) ?_|refine aA rfl (by simp[V.refs,V.ag]<;>first|omega|assumption) ?_))
 simp+contextual (disch:=first|omega|simp only[go_sem,false_implies]) only[go_sem,wrap64,if_pos,and_self]
 refine ay (fun h2=> ?_) (fun h2=> ?_)
 ·simp at h2
  obtain⟨x,hx⟩:=aX h2
  simp+contextual (disch:=first|omega|simp only[go_sem,false_implies]) only[go_sem,wrap64,if_pos,hx]
  refine aw (ky x (hf x (List.mem_of_getElem? hx))) rfl ?_
  simp+contextual (disch:=first|omega|simp only[go_sem,false_implies]) only[go_sem,wrap64,if_pos,and_self]
  refine ay (fun h3=> ?_) (fun h3=> ?_)
  ·simp+contextual (disch:=first|omega|simp only[go_sem,false_implies]) only[go_sem,wrap64,if_pos,and_self]
   simp at h3
   simp[qb,iO hx h3]
  ·simp+contextual (disch:=first|omega|simp only[go_sem,false_implies]) only[go_sem,wrap64,if_pos,and_self]
   simp at h3
   refine aB (k+1) ⟨h2,jQ hx hk.2 h3⟩ (by omega) (bW.d1 _ (bN rfl) (by omega) rfl ?_)
   (repeat(first|exact aq|refine ai ?_|refine ah rfl ?_|refine ah (aQ (aP (by omega))) ?_|refine aA rfl (by simp[V.refs,V.ag]<;>first|omega|assumption) ?_))
 ·simp at h2
  simp+contextual (disch:=first|omega|simp only[go_sem,false_implies]) only[go_sem,wrap64,if_pos,and_self]
  refine aw (CQ s hs) rfl ?_
  simp+contextual (disch:=first|omega|simp only[go_sem,false_implies]) only[go_sem,wrap64,if_pos,and_self]
  rw[qb,jR hk.2 h2,Bool.true_and]
def gK(s:aO)(l:List Tm):Bool:=nT s&&l.all (bL s)
theorem Kv(s:aO)(hs:s.Fits)(l:List Tm)(hl:l.length<=1000000)(hf:∀t∈l,t.fits):bJ Tryz.prog 15 [s.d, .sl (l.map Tm.d)] (.ret [.bool (gK s l)]):=by
 refine bJ.aZ mix SD (by simp) ?_
 rw[Xp]
 simp+contextual (disch:=first|omega|simp only[go_sem,false_implies]) only[go_sem,wrap64,if_pos,and_self]
 refine aw (Ur s hs) rfl ?_
 cases h1:nT s with
 |false=>simp+contextual (disch:=first|omega|simp only[go_sem,false_implies]) only[go_sem,wrap64,if_pos,and_self];simp[gK,h1]
 |true=>
  simp+contextual (disch:=first|omega|simp only[go_sem,false_implies]) only[go_sem,wrap64,if_pos,and_self]
  refine aW (fun k:Nat=>⟨bw [.ab, .d (.sl (l.map Tm.d)), .ptr 0 0, .ab, .ab, .d (.i k)],nk s.row,1⟩)
   (fun k=>k<=l.length/\(l.take k).all (bL s)=true) (fun k=>l.length - k) 0 ⟨Nat.zero_le _,by simp⟩ (bW.d1 _ (bN rfl) (by omega) rfl ?_) (fun k hk=> ?_)
  ·(repeat(first|exact aq|refine ai ?_|refine ah rfl ?_|refine ah (aQ (aP (by omega))) ?_|refine aA rfl (by simp[V.refs,V.ag]<;>first|omega|assumption) ?_))
  simp+contextual (disch:=first|omega|simp only[go_sem,false_implies]) only[go_sem,wrap64,if_pos,and_self]
  refine ay (fun h2=> ?_) (fun h2=> ?_)
  ·simp at h2
   obtain⟨x,hx⟩:=aX h2
   simp+contextual (disch:=first|omega|simp only[go_sem,false_implies]) only[go_sem,wrap64,if_pos,hx]
   refine bZ (HX s hs x (hf x (List.mem_of_getElem? hx))) rfl ?_
   simp+contextual (disch:=first|omega|simp only[go_sem,false_implies]) only[go_sem,wrap64,if_pos,and_self]
   refine aR (bQ rfl) ?_
   simp+contextual (disch:=first|omega|simp only[go_sem,false_implies]) only[go_sem,wrap64,if_pos,and_self]
   refine ay (fun h3=> ?_) (fun h3=> ?_)
   ·simp+contextual (disch:=first|omega|simp only[go_sem,false_implies]) only[go_sem,wrap64,if_pos,and_self]
    simp at h3
    simp[gK,iO hx h3]
   ·simp+contextual (disch:=first|omega|simp only[go_sem,false_implies]) only[go_sem,wrap64,if_pos,and_self]
    simp at h3
    refine aB (k+1) ⟨h2,jQ hx hk.2 h3⟩ (by omega) (bW.d1 _ (bN rfl) (by omega) rfl ?_)
    (repeat(first|exact aq|refine ai ?_|refine ah rfl ?_|refine ah (aQ (aP (by omega))) ?_|refine aA rfl (by simp[V.refs,V.ag]<;>first|omega|assumption) ?_))
  ·simp at h2
   simp+contextual (disch:=first|omega|simp only[go_sem,false_implies]) only[go_sem,wrap64,if_pos,and_self]
   simp[gK,h1,jR hk.2 h2]
def lD(s:aO)(a b:Tm):Bool:=gK s [a,b]&&eE a&&eE b
theorem FN(s:aO)(hs:s.Fits)(a b:Tm)(ha:a.fits)(hb:b.fits):bJ Tryz.prog 25 [s.d,a.d,b.d] (.ret [.bool (lD s a b)]):=by
 refine bJ.aZ mix SK (by simp) ?_
 rw[Xz]
 simp+contextual (disch:=first|omega|simp only[go_sem,false_implies]) only[go_sem,wrap64,if_pos,and_self]
 refine aw (Kv s hs [a,b] (by simp) (fun t ht=>by simp at ht;rcases ht with rfl|rfl<;>assumption)) rfl ?_
 simp+contextual (disch:=first|omega|simp only[go_sem,false_implies]) only[go_sem,wrap64,if_pos,and_self]
 refine eU (dR [.bool (eE a)] ?_ ?_)
 ·simp+contextual (disch:=first|omega|simp only[go_sem,false_implies]) only[go_sem,wrap64,if_pos,and_self]
  exact fun _=>yp a ha
 simp+contextual (disch:=first|omega|simp only[go_sem,false_implies]) only[go_sem,wrap64,if_pos,and_self]
 refine eU (dR [.bool (eE b)] ?_ ?_)
 ·simp+contextual (disch:=first|omega|simp only[go_sem,false_implies]) only[go_sem,wrap64,if_pos,and_self]
  exact fun _=>yp b hb
 simp+contextual (disch:=first|omega|simp only[go_sem,false_implies]) only[go_sem,wrap64,if_pos,and_self]
 rfl
end Go.Proofs.YtealblliddhgiaaGreat
